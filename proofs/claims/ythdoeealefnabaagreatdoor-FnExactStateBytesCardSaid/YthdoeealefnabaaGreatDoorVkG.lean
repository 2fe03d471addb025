/- Operations that make or write memory. -/
import Derived.Test.YthdoeealefnabaaGreatDoorVkA
import Derived.Lib.AppendStr
import Derived.WalkSpells
import Derived.Deep.Upon
import Derived.Lib.Bytealg
namespace Go.Vk
open Go.RowKit
variable {P : Program} {n : Nat} {C : World → Prop} {E : Env} {m : Md} {l rest : List Oper} {w0 : World} {M : List Nat} {L : List Res} {Q : Exit → Act → World → Prop}
def Kp (m : Md) (C : World → Prop) : Prop := ∀ w, C w → m.keeps w
theorem kp {Q : Exit → Act → World → Prop} : Kp (.lex Q) C := fun _ _ => trivial
theorem pW {o : Oper} {a : Act} {K : Act → World → Prop} {w w' : World} {v : Value} (hr : (execOp a.eval o).run P w = .ok (.value v) w') (hK : K (a.put o.dst v) w') : o.wp P a w K Q := by
  unfold Oper.wp
  rw [hr]
  exact hK
theorem uX {o : Oper} {a : Act} {K : Act → World → Prop} {w w' : World} (hr : (execOp a.eval o).run P w = .ok .skip w') (hK : K (a.put o.dst undef) w') : o.wp P a w K Q := by
  unfold Oper.wp
  rw [hr]
  exact hK
theorem xl (w : World) (o : Obj) : Ext [] w (w.alloc o) := ⟨rfl, rfl, rfl, by simp, fun b hb _ => Below.heap_alloc w o b hb⟩
theorem JD {w : World} (h : St w0 M L w) (T : TypeId) (cs : List Value) : St w0 M (L ++ [Res.box w.heap.size T cs]) (w.alloc (.cells cs.toArray T)) :=
  h.push (xl w _) _ (heap_alloc_new w _) (by simp [Res.box]) (by simp [Res.box])
theorem CH {o : Oper} {v : Nat → Value} {T : TypeId} {cs : List Value} (hm : m.here (o :: rest) = true) (hw : wt l E o.guard = some true) (hd : iA n o.dst = true)
    (hr : ∀ a w, Fr n E a → (execOp a.eval o).run P w = .ok (.value (v w.heap.size)) (w.alloc (.cells cs.toArray T)))
    (hS : ∀ b, Kp m (St w0 M (L ++ [Res.box b T cs]))) (hk : ∀ b, OW P n l (St w0 M (L ++ [Res.box b T cs])) (upd E o.dst (v b)) m rest) : OW P n l (St w0 M L) E m (o :: rest) :=
  lk hm hw fun a w hF hC _ _ hK => pW (hr a w hF) (hK _ _ _ _ (hk w.heap.size) (hF.put _ _ (bU hd)) (JD hC T cs) (hS _ _ (JD hC T cs)))
theorem Mf {o : Oper} {T : TypeId} {x : Operand} {v : Value} {cs : List Value} (ho : o.op = .box T x) (hm : m.here (o :: rest) = true) (hw : wt l E o.guard = some true) (hd : iA n o.dst = true)
    (hx : ev E x = some v) (hv : v.cells = cs.toArray) (hS : ∀ b, Kp m (St w0 M (L ++ [Res.box b T cs]))) (hk : ∀ b, OW P n l (St w0 M (L ++ [Res.box b T cs])) (upd E o.dst (.pointer (some ⟨b, 0, none⟩))) m rest) : OW P n l (St w0 M L) E m (o :: rest) :=
  CH (v := fun b => .pointer (some ⟨b, 0, none⟩)) hm hw hd (fun a w hF => by unfold execOp; simp [ho, hF.ev hx, Instr.box, newVar, newRow, hv]) hS hk
theorem bL {o : Oper} {T : TypeId} {agg : Bool} {sz by_ : Nat} {z : List Value} (ho : o.op = .alloc T) (hm : m.here (o :: rest) = true) (hw : wt l E o.guard = some true) (hd : iA n o.dst = true)
    (ht : ee P T agg sz by_ z) (hS : ∀ b, Kp m (St w0 M (L ++ [Res.box b T z]))) (hk : ∀ b, OW P n l (St w0 M (L ++ [Res.box b T z])) (upd E o.dst (.pointer (some ⟨b, 0, none⟩))) m rest) : OW P n l (St w0 M L) E m (o :: rest) := by
  obtain ⟨i, zv, hi, _, _, hz, hzc⟩ := ht.info
  exact CH (v := fun b => .pointer (some ⟨b, 0, none⟩)) hm hw hd (fun a w hF => by unfold execOp; simp [ho, Instr.alloc, zeroValue, typeInfo, hi, hz, newVar, newRow, hzc]) hS hk
def fI (cs : List Value) (off : Nat) (vs : List Value) : List Value := cs.take off ++ vs ++ cs.drop (off + vs.length)
theorem Hq (vs : List Value) : ∀ (k off : Nat) (cs : Array Value), off + k + vs.length ≤ cs.size →
    (vs.zipIdx k).foldl (fun (a : Array Value) (x : Value × Nat) => a.setIfInBounds (off + x.2) x.1) cs = (fI cs.toList (off + k) vs).toArray := by
  induction vs with
  | nil => intro k off cs _; simp [fI]
  | cons v vs ih =>
    intro k off cs h
    simp only [List.length_cons] at h
    rw [List.zipIdx_cons, List.foldl_cons, ih (k + 1) off _ (by simp; omega)]
    apply Array.ext'
    simp only [Array.toList_setIfInBounds]
    simp only [fI, List.length_cons]
    apply List.ext_getElem?
    intro j
    have h1 : (cs.toList.set (off + k) v).length = cs.size := by simp
    have h2 : cs.toList.length = cs.size := by simp
    simp only [List.append_assoc, List.getElem?_append, List.length_take, List.getElem?_take, List.getElem?_set, List.getElem?_drop, h1, h2, List.length_cons]
    by_cases c1 : j < off + k
    · have : j < off + (k + 1) := by omega
      simp [Nat.min_eq_left (show off + k ≤ cs.size by omega), Nat.min_eq_left (show off + (k+1) ≤ cs.size by omega), c1, this, show ¬ off + k = j by omega]
    · by_cases c2 : j = off + k
      · subst c2
        simp [Nat.min_eq_left (show off + k ≤ cs.size by omega), Nat.min_eq_left (show off + (k+1) ≤ cs.size by omega), show off + k < off + (k + 1) by omega, show off + k < cs.size by omega]
      · have h3 : ¬ j < off + (k + 1) := by omega
        simp only [Nat.min_eq_left (show off + k ≤ cs.size by omega), Nat.min_eq_left (show off + (k+1) ≤ cs.size by omega), c1, h3, if_false]
        rw [show j - (off + k) = (j - (off + (k + 1))) + 1 by omega]
        simp only [List.getElem?_cons_succ]
        by_cases c3 : j - (off + (k + 1)) < vs.length
        · rw [if_pos c3, if_pos (by omega)]
        · rw [if_neg c3, if_neg (by omega)]
          rw [if_neg (by omega)]
          congr 1; omega
def zb : List Value → List (Nat × List Value) → List Value
  | cs, [] => cs
  | cs, (off, vs) :: r => zb (fI cs off vs) r
theorem pn {cs vs : List Value} {off : Nat} (h : off + vs.length ≤ cs.length) : (fI cs off vs).length = cs.length := by
  simp [fI]; omega
def Cl (place : Nat → Option (Nat × Nat)) (len : Nat) : List (Nat × Value) → List (Nat × List Value) → Prop
  | [], [] => True
  | (i, v) :: r, (off, vs) :: s => place i = some (off, vs.length) ∧ v.cells = vs.toArray ∧ off + vs.length ≤ len ∧ Cl place len r s
  | _, _ => False
theorem xf {place : Nat → Option (Nat × Nat)} {len : Nat} : ∀ {ps : List (Nat × Value)} {qs : List (Nat × List Value)} {cs : List Value}, cs.length = len → Cl place len ps qs →
    Instr.fill place cs.toArray ps = some (zb cs qs).toArray
  | [], [], cs, _, _ => rfl
  | (i, v) :: r, (off, vs) :: s, cs, hl, h => by
    obtain ⟨h1, h2, h3, h4⟩ := h
    simp only [Instr.fill, h1, h2, List.size_toArray]
    rw [if_neg (by simp; omega)]
    have hf := Hq vs 0 off cs.toArray (by simpa [hl] using h3)
    simp only [Nat.add_zero] at hf
    have hz : (vs.toArray.zipIdx) = (vs.zipIdx).toArray := by simp
    rw [hz]
    have e : List.foldl (fun (a : Array Value) (x : Value × Nat) => a.setIfInBounds (off + x.2) x.1) cs.toArray vs.zipIdx = (fI cs off vs).toArray := hf
    simp only [List.foldl_toArray]
    rw [e]
    exact xf (by rw [pn (by omega)]; exact hl) h4
  | [], _ :: _, _, _, h => h.elim
  | _ :: _, [], _, _, h => h.elim
def Is (P : Program) (s : TypeId) (tab : List (Nat × Nat)) : Prop := ∃ fs, P.underlying s = some (.struct fs) ∧ fs.toList.mapM (fun f => (P.info? f.type).map fun i => (f.offset, i.size)) = some tab
theorem EH {a : Act} (hF : Fr n E a) : ∀ {ps : List (Nat × Operand)} {vs : List Value}, evs E (ps.map (·.2)) = some vs → (ps.toArray.map fun (i, x) => (i, a.eval x)).toList = (ps.map (·.1)).zip vs := by
  intro ps vs hx
  have hev := hF.evs hx
  rw [← hev]; clear hev hx
  simp only [List.map_toArray]
  induction ps with
  | nil => rfl
  | cons p ps ih => simp at ih ⊢; exact ih
theorem JP {o : Oper} {t : TypeId} {ps : List (Nat × Operand)} {vs : List Value} (qs : List (Nat × List Value)) {tab : List (Nat × Nat)} {sz by_ : Nat} {z : List Value} (ho : o.op = .build t ps.toArray) (hx : evs E (ps.map (·.2)) = some vs)
    (ht : ee P t true sz by_ z) (hs : Is P t tab) (hz : z.length = sz) (hp : Cl (tab.toArray[·]?) sz ((ps.map (·.1)).zip vs) qs) : Ry P n C E o (.agg (zb z qs).toArray) := fun a hF w _ => by
  obtain ⟨i, zv, hi, _, _, hzv, hzc⟩ := ht.info
  obtain ⟨fs, hu, hm⟩ := hs
  have hb : P.built t (ps.toArray.map fun (i, x) => (i, a.eval x)).toList = some (zb z qs).toArray := by
    rw [EH hF hx]
    simp only [Program.built, hi, hu, hzv, hm, hzc]
    exact xf hz hp
  unfold execOp
  simp only [ho, Sem.run_bind, run_build w t _ _ hb]
  rfl
theorem HG {o : Oper} {t et : TypeId} {len : Nat} {ps : List (Nat × Operand)} {vs : List Value} (qs : List (Nat × List Value)) {agg : Bool} {sz by_ : Nat} {z : List Value} (ho : o.op = .buildSlice t len ps.toArray) (hm : m.here (o :: rest) = true) (hw : wt l E o.guard = some true) (hd : iA n o.dst = true)
    (hx : evs E (ps.map (·.2)) = some vs) (ht : isSl P t et) (he : ee P et agg sz by_ z) (hpos : Nat.blt 0 (len * sz) = true) (hsm : Nat.ble (len * sz) 16777216 = true)
    (hp : Cl (fun i => some (i * sz, sz)) (len * sz) ((ps.map (·.1)).zip vs) qs) (ds : List Value) (hds : zb ((List.range (len * sz)).map fun i => z[i % z.length]!) qs = ds)
    (hS : ∀ b, Kp m (St w0 M (L ++ [Res.box b et ds]))) (hk : ∀ b, OW P n l (St w0 M (L ++ [Res.box b et ds])) (upd E o.dst (.slice (some ⟨b, 0, none⟩) len len)) m rest) : OW P n l (St w0 M L) E m (o :: rest) := by
  obtain ⟨i, zv, hi, hsz, _, hzv, hzc⟩ := he.info
  have h0 : ¬ len * i.size = 0 := by have := Nat.le_of_ble_eq_true hpos; rw [hsz]; omega
  have h1 : ¬ len * i.size > 2 ^ 24 := by have := Nat.le_of_ble_eq_true hsm; rw [hsz]; omega
  subst hds
  refine CH (v := fun b => .slice (some ⟨b, 0, none⟩) len len) (cs := zb _ qs) hm hw hd (fun a w hF => ?_) hS hk
  have hf : Instr.fill (fun j => some (j * i.size, i.size)) ((Array.range (len * i.size)).map (zv.cells[· % zv.cells.size]!)) (ps.toArray.map fun (i, x) => (i, a.eval x)).toList =
      some (zb ((List.range (len * sz)).map fun i => z[i % z.length]!) qs).toArray := by
    rw [EH hF hx, hsz, hzc]
    have := xf (cs := (List.range (len * sz)).map fun i => z[i % z.length]!) (by simp) hp
    rw [← this]
    congr 1
    apply Array.ext'
    simp
  unfold execOp
  simp only [ho, Sem.run_bind, run_buildSlice w t et len _ _ i zv ht hi hzv h1 h0 hf]
  rfl
theorem Ft {o : Oper} {t et : TypeId} {agg : Bool} {sz by_ : Nat} {z : List Value} (ho : o.op = .buildSlice t 0 #[]) (hm : m.here (o :: rest) = true) (hw : wt l E o.guard = some true) (hd : iA n o.dst = true)
    (ht : isSl P t et) (he : ee P et agg sz by_ z)
    (hS : ∀ b, Kp m (St w0 M (L ++ [Res.box b et []]))) (hk : ∀ b, OW P n l (St w0 M (L ++ [Res.box b et []])) (upd E o.dst (.slice (some ⟨b, 0, none⟩) 0 0)) m rest) : OW P n l (St w0 M L) E m (o :: rest) := by
  obtain ⟨i, zv, hi, hsz, _, hzv, hzc⟩ := he.info
  have ht' : P.underlying t = some (.slice et) := ht
  refine CH (v := fun b => .slice (some ⟨b, 0, none⟩) 0 0) (cs := []) hm hw hd (fun a w hF => ?_) hS hk
  unfold execOp
  simp [ho, Instr.buildSlice, run_underlying ht', sizeOf, typeInfo, hi, Instr.fill, newRow, Array.range_zero']
theorem HL {α : Type} {e : Enc α} {b : Nat} {T : TypeId} {w : World} (h : (Res.box b T []).ok w) : (Res.own (ae e T) [b] [] [.slice (some ⟨b, 0, none⟩) 0 0]).ok w :=
  .inr ⟨b, 0, #[], [], [], rfl, rfl, .of h, Nat.le_refl _, by simp [maxLen], by simp, by simp, rfl, rfl⟩
theorem Kb {α : Type} {e : Enc α} {T : TypeId} {w : World} : (Res.own (ae e T) [] [] [.slice none 0 0]).ok w := .inl ⟨rfl, rfl, rfl⟩
theorem KG {α : Type} {val : α → Value} {h1 : ∀ x, (val x).oneCell' = true} {b : Nat} {T : TypeId} {w : World} (xs : List α) (hl : xs.length ≤ maxLen) (h : (Res.box b T (xs.map val)).ok w) :
    (Res.own (ae (il val h1) T) [b] xs [.slice (some ⟨b, 0, none⟩) xs.length xs.length]).ok w :=
  zH ⟨_, .of h, Nat.le_refl _, hl, by simp, by rw [List.take_of_length_le (by simp)]⟩
def mk {α : Type} (z : α) (n : Int) : Option (List α) := if 0 ≤ n ∧ n ≤ 68719476736 then some (List.replicate n.toNat z) else none
theorem cyc (z : List Value) (hz : 0 < z.length) : ∀ (N s : Nat), (List.range' (s * z.length) (N * z.length)).map (fun i => z[i % z.length]!) = (List.replicate N z).flatten
  | 0, s => by simp
  | N + 1, s => by
    have h : (N + 1) * z.length = z.length + N * z.length := by rw [Nat.add_mul]; omega
    rw [h, ← List.range'_append_1, List.map_append, List.replicate_succ, List.flatten_cons]
    congr 1
    · apply List.ext_getElem?
      intro q
      by_cases hq : q < z.length
      · simp [hq, Nat.add_mod, Nat.mod_eq_of_lt]
      · simp [hq]
    · have := cyc z hz N (s + 1)
      rw [Nat.add_mul, Nat.one_mul] at this
      exact this
theorem Ba (z : List Value) (N : Nat) (hz : 0 < z.length) : (madeCells z.toArray (N * z.length)).toList = (List.replicate N z).flatten := by
  have := cyc z hz N 0
  rw [← this]
  simp [madeCells, List.range_eq_range']
theorem AD {α : Type} {e : Enc α} {zero : α} {z : List Value} {w : World} (hzl : z.length = e.sz) (hz : e.own w [] zero z) : ∀ N, gI e w [] (List.replicate N zero) (List.replicate N z).flatten
  | 0 => ⟨rfl, rfl⟩
  | N + 1 => ⟨[], [], z, _, rfl, by rw [List.replicate_succ, List.flatten_cons], hzl, hz, AD hzl hz N⟩
theorem rP {α : Type} {e : Enc α} {zero : α} {o : Oper} {t et : TypeId} {x y : Operand} {k k' : IntKind} {j : Int} {agg : Bool} {sz by_ : Nat} {z : List Value} {xs : List α} (ho : o.op = .makeSlice t x y) (hm : m.here (o :: rest) = true) (hw : wt l E o.guard = some true) (hd : iA n o.dst = true)
    (hx : ev E x = some (.int k j)) (hy : ev E y = some (.int k' j)) (ht : isSl P t et) (he : ee P et agg sz by_ z) (hby : Nat.ble by_ 2048 = true) (hsz : e.sz = sz) (hzl : z.length = sz) (hpos : Nat.blt 0 sz = true) (hz : ∀ w, e.own w [] zero z) (hj : mk zero j = some xs)
    (hS : ∀ b, Kp m (St w0 M (L ++ [Res.own (ae e et) [b] xs [.slice (some ⟨b, 0, none⟩) xs.length xs.length]])))
    (hk : ∀ b, OW P n l (St w0 M (L ++ [Res.own (ae e et) [b] xs [.slice (some ⟨b, 0, none⟩) xs.length xs.length]])) (upd E o.dst (.slice (some ⟨b, 0, none⟩) xs.length xs.length)) m rest) : OW P n l (St w0 M L) E m (o :: rest) := by
  obtain ⟨i, zv, hi, hs, hb, hzv, hzc⟩ := he.info
  unfold mk at hj
  split at hj
  · rename_i hjj
    obtain ⟨h0, h1⟩ := hjj
    simp only [Option.some.injEq] at hj
    have hlen : xs.length = j.toNat := by rw [← hj]; simp
    have hby' := Nat.le_of_ble_eq_true hby
    refine lk hm hw fun a w hF hC _ _ hK => ?_
    have hbytes : (i.bytes : Int) * j ≤ 281474976710656 := by
      rw [hb]
      have h2 : (by_ : Int) ≤ 2048 := by omega
      have : (by_ : Int) * j ≤ 2048 * 68719476736 := Int.mul_le_mul h2 h1 h0 (by omega)
      omega
    have hrun := run_make (P := P) w t et i zv ht hi hzv k k' j j h0 (Int.le_refl _) hbytes (by omega)
    rw [← hlen] at hrun
    have hown : (Res.own (ae e et) [w.heap.size] xs [.slice (some ⟨w.heap.size, 0, none⟩) xs.length xs.length]).ok (w.alloc (.cells (madeCells zv.cells (xs.length * i.size)) et)) := by
      refine .inr ⟨_, _, _, [], _, rfl, rfl, .of (heap_alloc_new w _), Nat.le_refl _, by simp only [maxLen]; omega, by rw [size_madeCells, hs, hsz], rfl, ?_⟩
      have hzp : 0 < z.length := by rw [hzl]; exact Nat.le_of_ble_eq_true hpos
      rw [List.take_of_length_le (by simp [size_madeCells, hs, hsz]), hs, hzc, ← hzl, Ba z _ hzp]
      have := AD (e := e) (zero := zero) (w := w.alloc (.cells (madeCells z.toArray (xs.length * z.length)) et)) (by rw [hzl, hsz]) (hz _) xs.length
      rw [show List.replicate xs.length zero = xs from by rw [hlen, hj]] at this
      exact this
    have hst := hC.push (xl w (.cells (madeCells zv.cells (xs.length * i.size)) et)) _ hown (by simp [Res.own]) (by simp [Res.own])
    refine pW (w' := w.alloc (.cells (madeCells zv.cells (xs.length * i.size)) et)) ?_ (hK _ _ _ _ (hk w.heap.size) (hF.put _ _ (bU hd)) hst (hS _ _ hst))
    unfold execOp
    simp only [ho, hF.ev hx, hF.ev hy, Sem.run_bind, hrun]
    rfl
  · cases hj
theorem od (P : Program) (g o : Nat) (t : TypeId) (fz : Nat × Nat) : ∀ (vs : List Value) (i : Nat) (cur : Array Value) (w : World), w.heap[g]? = some (.cells cur t fz) → (fz.1 = fz.2 ∨ o + i + vs.length ≤ fz.1) → o + i + vs.length ≤ cur.size → (∀ v ∈ vs, v.oneCell' = true) →
    (storeCells ⟨g, o, none⟩ vs i).run P w = .ok () (w.setRow g (cur.toList.take (o + i) ++ vs ++ cur.toList.drop (o + i + vs.length)).toArray)
  | [], i, cur, w, hg, _, _, _ => by
    simp only [storeCells, List.append_nil, List.length_nil, Nat.add_zero, List.take_append_drop, Array.toArray_toList]
    rw [setRow_self w g cur t fz hg]
    rfl
  | v :: rest, i, cur, w, hg, hfz, hl, h1 => by
    have hi : o + i < cur.size := by simp at hl; omega
    have hadd : (⟨g, o, none⟩ : Addr).add i = ⟨g, o + i, none⟩ := by unfold Addr.add; split <;> simp_all
    have hcell : w.cell? ⟨g, o + i, none⟩ = some cur[o + i] := by simp [World.cell?, hg, hi]
    have hfro : w.frozen? ⟨g, o + i, none⟩ = false := by
      obtain ⟨lo, hi'⟩ := fz
      simp only [World.frozen?, hg, Bool.and_eq_false_iff, decide_eq_false_iff_not]
      simp only [List.length_cons] at hfz
      omega
    have hst : (store ((⟨g, o, none⟩ : Addr).add i) v).run P w = .ok () (w.setRow g (cur.setIfInBounds (o + i) v)) := by
      rw [hadd, run_store P w _ v _ (h1 v (by simp)), hcell]
      simp [hfro, setCell_eq_setRow w g (o + i) cur t fz v hg]
    have ih := od P g o t fz rest (i + 1) (cur.setIfInBounds (o + i) v) (w.setRow g (cur.setIfInBounds (o + i) v)) (setRow_heap w g cur _ t _ hg) (by simp only [List.length_cons] at hfz; omega) (by simp at hl ⊢; omega) (fun x hx => h1 x (by simp [hx]))
    simp only [storeCells, Sem.run_bind, hst, Result.andThen_ok, ih, setRow_setRow]
    congr 3
    have e := list_seg_step cur.toList (o + i) v rest (by simp at hl ⊢; omega)
    simpa [Array.toList_setIfInBounds, Nat.add_assoc] using e
theorem tL {t : TypeId} {agg : Bool} {sz by_ : Nat} {z : List Value} (ht : ee P t agg sz by_ z) {w : World} {b off : Nat} {T : TypeId} {cur : Array Value} {v : Value} {vs : List Value} (hb : mJ w b cur T) (hv : v.cells = vs.toArray) (hl : vs.length = sz) (hfit : off + sz ≤ cur.size)
    (h1 : ∀ u ∈ vs, u.oneCell' = true) : (Instr.storeAt t (.pointer (some ⟨b, off, none⟩)) v).run P w = .ok () (w.setRow b (fI cur.toList off vs).toArray) := by
  obtain ⟨i, zv, hi, hs, _, _, _⟩ := ht.info
  obtain ⟨fr, hb, hfr⟩ := hb
  have hst := od P b off T fr vs 0 cur w hb (hfr.imp id (fun g => by omega)) (by simpa [hl] using hfit) h1
  simp only [Nat.add_zero] at hst
  have h3 : ¬ (vs.length ≠ i.size) := by rw [hl, hs]; simp
  simp [Instr.storeAt, Instr.sureAddr, storeVar, sizeOf, typeInfo, hi, hv, hl, hs, hst, fI]
theorem yr {w : World} {b : Nat} {cur cs : Array Value} {T : TypeId} (_hb : mJ w b cur T) : Ext [b] w (w.setRow b cs) :=
  ⟨rfl, rfl, rfl, by simp, fun k _ hk => setRow_other w b k _ (by simpa using hk)⟩
theorem Gs {w : World} {b : Nat} {cur cs : Array Value} {T : TypeId} {fr : Nat × Nat} (_hb : w.heap[b]? = some (.cells cur T fr)) : Ext [b] w (w.setRow b cs) :=
  ⟨rfl, rfl, rfl, by simp, fun k _ hk => setRow_other w b k _ (by simpa using hk)⟩
theorem Jz {o : Oper} {t : TypeId} {x y : Operand} {b off : Nat} {v : Value} (vs : List Value) {agg : Bool} {sz by_ : Nat} {z : List Value} {i : Nat} {T : TypeId} {cs : List Value} (ho : o.op = .store t x y) (hm : m.here (o :: rest) = true) (hw : wt l E o.guard = some true) (hd : iA n o.dst = true)
    (hx : ev E x = some (.pointer (some ⟨b, off, none⟩))) (hy : ev E y = some v) (ht : ee P t agg sz by_ z) (hv : v.cells = vs.toArray) (hl : vs.length = sz) (h1 : ∀ u ∈ vs, u.oneCell' = true) (hr : L[i]? = some (Res.box b T cs)) (hfit : Nat.ble (off + sz) cs.length = true)
    (hS : Kp m (St w0 M (L.set i (Res.box b T (fI cs off vs))))) (hk : OW P n l (St w0 M (L.set i (Res.box b T (fI cs off vs)))) (upd E o.dst undef) m rest) : OW P n l (St w0 M L) E m (o :: rest) :=
  lk hm hw fun a w hF hC _ _ hK => by
    have hb : w.heap[b]? = some (.cells cs.toArray T (0, 0)) := hC.ok _ (List.mem_of_getElem? hr)
    have hrun := tL ht (.of hb) hv hl (by simpa using Nat.le_of_ble_eq_true hfit) h1
    simp only at hrun
    have hst : St w0 M (L.set i (Res.box b T (fI cs off vs))) (w.setRow b (fI cs off vs).toArray) :=
      hC.upd hr (Gs hb) (Res.box b T (fI cs off vs)) (setRow_heap w b _ _ T _ hb) (by simp [Res.box])
        (fun c hc => by
          have : c = b := by simpa [Res.box] using hc
          subst this
          exact ⟨by simpa using (Array.getElem?_eq_some_iff.1 hb).1, .inl (by simp [Res.box])⟩)
    refine uX ?_ (hK _ _ _ _ hk (hF.put _ _ (bU hd)) hst (hS _ hst))
    unfold execOp
    simp only [ho, hF.ev hx, hF.ev hy, Sem.run_bind, hrun]
    rfl
end Go.Vk
/- append, strings, slices of slices. -/
namespace Go.Vk
open Go.RowKit
variable {P : Program} {n : Nat} {C : World → Prop} {E : Env} {m : Md} {l rest : List Oper} {w0 : World} {M : List Nat} {L : List Res} {Q : Exit → Act → World → Prop}
def app {α : Type} (xs ys : List α) : Option (List α) := if xs.length + ys.length ≤ 68719476736 then some (xs ++ ys) else none
theorem An {α : Type} {xs ys zs : List α} (h : app xs ys = some zs) : zs = xs ++ ys ∧ xs.length + ys.length ≤ 68719476736 := by
  unfold app at h
  split at h
  · exact ⟨(Option.some.inj h).symm, ‹_›⟩
  · cases h
def pZ (w : World) (e : TypeId) (size : Nat) (v : Value) (n : Nat) (xs : List Value) : Prop :=
  xs.length = n * size ∧ ((v = .slice none 0 0 ∧ n = 0) ∨ ∃ g cap cur, v = .slice (some ⟨g, 0, none⟩) n cap ∧ 0 ≤ g ∧ mJ w g cur e ∧ n ≤ cap ∧ cap ≤ maxLen ∧ cur.size = cap * size ∧ cur.toList.take (n * size) = xs)
theorem pZ.cells {w : World} {e : TypeId} {size : Nat} {v : Value} {n : Nat} {xs : List Value} (h : pZ w e size v n xs) {g n' cap : Nat} (hv : v = .slice (some ⟨g, 0, none⟩) n' cap) : ∀ j u, xs[j]? = some u → w.cell? ((⟨g, 0, none⟩ : Addr).add j) = some u := by
  intro j u hj
  rcases h.2 with ⟨h1, _⟩ | ⟨g', cap', cur, h1, _, hr, _, _, _, h5⟩
  · rw [h1] at hv; cases hv
  · rw [h1] at hv
    cases hv
    rw [dd, Nat.zero_add, hr.cell]
    rw [← h5, List.getElem?_take] at hj
    split at hj
    · simpa using hj
    · cases hj
theorem sr {P : Program} (w : World) (t ty e : TypeId) (i : TypeInfo) (ht : P.underlying t = some (.slice e)) (hi : P.info? e = some i)
    (g sLen sCap : Nat) (cur : Array Value) (hg : mJ w g cur e)
    (a : Addr) (m c : Nat) (news : List Value) (hl : news.length = m * i.size) (hnews : ∀ j u, news[j]? = some u → w.cell? (a.add j) = some u) (h1 : ∀ u ∈ news, u.oneCell' = true)
    (hroom : sLen + m ≤ sCap) (hfit : sLen * i.size + news.length ≤ cur.size) :
    (Builtin.append_ #[t, t] ty #[.slice (some ⟨g, 0, none⟩) sLen sCap, .slice (some a) m c]).run P w =
      .ok (.slice (some ⟨g, 0, none⟩) (sLen + m) sCap) (w.setRow g (cur.toList.take (sLen * i.size) ++ news ++ cur.toList.drop (sLen * i.size + news.length)).toArray) := by
  obtain ⟨fz, hg, hfz⟩ := hg
  have hf := run_firstCells_some (P := P) w i.size m a m c news hl hnews
  have hst := od P g (sLen * i.size) e fz news 0 cur w hg (by rcases hfz with q | q; exact .inl q; exact .inr (by omega)) (by simpa using hfit) h1
  simp only [Nat.add_zero] at hst
  simp [Builtin.append_, run_underlying ht, sizeOf, typeInfo, hi, Builtin.lenOf, hroom, hf, Addr.add_lit, hst]
theorem yO {P : Program} (w : World) (t ty e : TypeId) (i : TypeInfo) (z : Value) (size bytes : Nat) (ht : P.underlying t = some (.slice e)) (hi : P.info? e = some i) (hz : i.zero = some z)
    (hsize : i.size = size) (hby : i.bytes = bytes) (hzs : z.cells.size = size) (hsz : 0 < size)
    (v : Value) (n : Nat) (xs : List Value) (hown : pZ w e size v n xs)
    (a : Addr) (m c : Nat) (news : List Value) (hl : news.length = m * size) (hnews : ∀ j u, news[j]? = some u → w.cell? (a.add j) = some u) (h1 : ∀ u ∈ news, u.oneCell' = true)
    (d : n + m ≤ maxLen) (hbytes : (n + m) * bytes ≤ 140737488355328) :
    ∃ v' w', (Builtin.append_ #[t, t] ty #[v, .slice (some a) m c]).run P w = .ok v' w' ∧ pZ w' e size v' (n + m) (xs ++ news) ∧ w.grownBy w' v.ownBlock ∧
      (v' = .slice none 0 0 ↔ v = .slice none 0 0 ∧ m = 0) := by
  rcases hown.2 with ⟨rfl, rfl⟩ | ⟨g, cap, cur, rfl, hbg, hg, hnc, hcm, hcs, htake⟩
  · obtain ⟨v', w', r1, r2, r3, r4⟩ := run_append_own (P := P) w 0 t ty e i z size bytes ht hi hz hsize hby hzs hsz (.slice none 0 0) 0 xs ⟨hown.1, .inl ⟨rfl, rfl⟩⟩ a m c news hl hnews h1 d hbytes (Nat.zero_le _)
    refine ⟨v', w', r1, ⟨r2.1, ?_⟩, r3, r4⟩
    rcases r2.2 with q | ⟨g, cap, cur, q1, q2, q3, q4⟩
    · exact .inl q
    · exact .inr ⟨g, cap, cur, q1, q2, .of q3, q4⟩
  · subst hsize
    subst hby
    have hsmall : n + m ≤ 9223372036854775807 := by simp only [maxLen] at d; omega
    have hlen : (xs ++ news).length = (n + m) * i.size := by rw [List.length_append, hown.1, hl, Nat.add_mul]
    by_cases hroom : n + m ≤ cap
    · have hfit : n * i.size + news.length ≤ cur.size := by rw [hl, hcs, ← Nat.add_mul]; exact Nat.mul_le_mul_right _ hroom
      have hr := sr (P := P) w t ty e i ht hi g n cap cur hg a m c news hl hnews h1 hroom hfit
      have hsz2 : (cur.toList.take (n * i.size) ++ news ++ cur.toList.drop (n * i.size + news.length)).toArray.size = cur.size := by
        simp only [List.size_toArray, List.length_append, List.length_take, List.length_drop, Array.length_toList]
        omega
      refine ⟨_, _, hr, ⟨hlen, .inr ⟨g, cap, _, rfl, hbg, hg.set hsz2, hroom, hcm, ?_, ?_⟩⟩, ⟨rfl, rfl, rfl, by simp, fun k _ hk => setRow_other w g k _ (fun e => hk (by simp [Value.ownBlock, e]))⟩, by simp⟩
      · rw [hsz2]; exact hcs
      · rw [htake, ← hlen]
        exact List.take_left
    · have holds : ∀ j u, xs[j]? = some u → w.cell? ((⟨g, 0, none⟩ : Addr).add j) = some u := hown.cells (g := g) rfl
      have hr := run_append_grow (P := P) w t ty e i z ht hi hz ⟨g, 0, none⟩ n cap xs hown.1 holds a m c news hl hnews (by omega) (by omega) (growslice_fits (by omega) hbytes)
      have hge := grownCap_ge w (n + m) cap e
      have hcm2 : grownCap w (n + m) cap e ≤ maxLen := grownCap_le_maxLen w (n + m) cap e d
      refine ⟨_, _, hr, ⟨hlen, .inr ⟨w.heap.size, _, _, rfl, Nat.zero_le _, .of (heap_alloc_new w.drew _), hge, hcm2, ?_, ?_⟩⟩, ⟨rfl, rfl, rfl, by simp, fun k hk _ => heap_alloc_old w.drew _ hk⟩, by simp⟩
      · simp only [Array.size_append, List.size_toArray, size_zeroCells, hzs, hown.1, hl, ← Nat.add_mul]
        congr 1
        omega
      · simp only [Array.toList_append, List.append_assoc]
        rw [← List.append_assoc, ← hlen]
        exact List.take_left
theorem GQ {α : Type} {e : Enc α} {T : TypeId} {w : World} {F : List Nat} {xs : List α} {v : Value} (h : tt e T w F xs [v]) :
    ∃ ds F1, pZ w T e.sz v xs.length ds ∧ gI e w F1 xs ds ∧ ((F = [] ∧ F1 = [] ∧ xs = [] ∧ v = .slice none 0 0) ∨ ∃ b, F = b :: F1 ∧ v.ownBlock = some b) := by
  rcases h with ⟨rfl, rfl, hv⟩ | ⟨b, cap, cur, F1, ds, rfl, hcs, hh, h1, h2, h3, h4, h5⟩
  · simp only [List.cons.injEq, and_true] at hv
    subst hv
    exact ⟨[], [], ⟨by simp, .inl ⟨rfl, rfl⟩⟩, ⟨rfl, rfl⟩, .inl ⟨rfl, rfl, rfl, rfl⟩⟩
  · simp only [List.cons.injEq, and_true] at hcs
    subst hcs
    exact ⟨ds, F1, ⟨vT h5, .inr ⟨b, cap, cur, rfl, Nat.zero_le _, hh, h1, h2, h3, h4⟩⟩, h5, .inr ⟨b, rfl, rfl⟩⟩
theorem GK {α : Type} {e : Enc α} {T : TypeId} {w : World} {F1 : List Nat} {xs : List α} {v : Value} {ds : List Value} (h : pZ w T e.sz v xs.length ds) (ha : gI e w F1 xs ds) (hnil : v = .slice none 0 0 → F1 = []) :
    ∃ F, tt e T w F xs [v] ∧ ((F = [] ∧ v = .slice none 0 0) ∨ ∃ b, F = b :: F1 ∧ v.ownBlock = some b) := by
  rcases h.2 with ⟨rfl, hn⟩ | ⟨b, cap, cur, rfl, _, hh, h1, h2, h3, h4⟩
  · have hx := List.eq_nil_of_length_eq_zero hn
    subst hx
    exact ⟨[], .inl ⟨rfl, rfl, rfl⟩, .inl ⟨rfl, rfl⟩⟩
  · exact ⟨b :: F1, .inr ⟨b, cap, cur, F1, ds, rfl, rfl, hh, h1, h2, h3, h4, ha⟩, .inr ⟨b, rfl, rfl⟩⟩
theorem En {α : Type} {e : Enc α} {t ty et : TypeId} {agg : Bool} {sz by_ : Nat} {z : List Value} (ht : isSl P t et) (he : ee P et agg sz by_ z) (hby : Nat.ble by_ 2048 = true) (hsz : e.sz = sz) (hpos : Nat.blt 0 sz = true) (hzl : z.length = sz)
    {w : World} {F Fy : List Nat} {xs ys : List α} {v : Value} (hown : tt e et w F xs [v]) {p : Addr} {mm cap : Nat} {news : List Value} (hm : mm = ys.length) (hA : At w [] p news) (hnew : gI e w Fy ys news)
    (hlen : xs.length + ys.length ≤ 68719476736) (hnd : (F ++ Fy).Nodup) (hdis : ∀ b, v.ownBlock = some b → b ∉ Fy) :
    ∃ v' w' F', (Builtin.append_ #[t, t] ty #[v, .slice (some p) mm cap]).run P w = .ok v' w' ∧ tt e et w' F' (xs ++ ys) [v'] ∧ Ext F w w' ∧ F'.Nodup ∧ (∀ b ∈ F', b < w'.heap.size ∧ (b ∈ F ∨ b ∈ Fy ∨ w.heap.size ≤ b)) := by
  obtain ⟨i, zv, hi, hs, hb, hzv, hzc⟩ := he.info
  obtain ⟨ds, F1, hrow, hall, hF⟩ := GQ hown
  have hby' := Nat.le_of_ble_eq_true hby
  have hsp : 0 < i.size := by rw [hs]; exact Nat.le_of_ble_eq_true hpos
  have hbytes : (xs.length + ys.length) * i.bytes ≤ 140737488355328 := by
    rw [hb]
    calc (xs.length + ys.length) * by_ ≤ 68719476736 * 2048 := Nat.mul_le_mul hlen hby'
      _ ≤ 140737488355328 := by omega
  have hl' : news.length = ys.length * e.sz := vT hnew
  obtain ⟨v', w', hrun, hown', hgr, hnil⟩ := yO (P := P) w t ty et i zv e.sz i.bytes ht hi hzv (by rw [hs, hsz]) rfl (by rw [hzc]; simp [hzl, hsz]) (by rw [hsz, ← hs]; exact hsp) v xs.length ds hrow p mm cap news
    (by rw [hm]; exact hl') hA.2 (As hnew) (by rw [hm]; simp only [maxLen]; omega) (by rw [hm]; exact hbytes)
  have hvb : v' = .slice none 0 0 ∨ v'.ownBlock = v.ownBlock ∨ v'.ownBlock = some w.heap.size := by
    have hnl : news.length = mm * i.size := by rw [hm, hs, ← hsz]; exact hl'
    rcases hrow.2 with ⟨hv, hn0⟩ | ⟨g, cp, cur, hv, _, hg, h1, h2, h3, h4⟩
    · by_cases h0 : mm = 0
      · exact .inl (hnil.2 ⟨hv, h0⟩)
      · subst hv
        have hr := run_append_nil (P := P) w t ty et i zv ht hi hzv p mm cap news hnl hA.2 (by omega) (by rw [hm]; omega) (by
          have : ys.length * i.bytes ≤ (xs.length + ys.length) * i.bytes := Nat.mul_le_mul_right _ (by omega)
          rw [hm]; omega)
        rw [hr] at hrun
        cases hrun
        exact .inr (.inr rfl)
    · subst hv
      by_cases hroom : xs.length + mm ≤ cp
      · have hfit : xs.length * i.size + news.length ≤ cur.size := by
          rw [hnl, h3, hs, hsz, ← Nat.add_mul]; exact Nat.mul_le_mul_right _ hroom
        have hr := sr (P := P) w t ty et i ht hi g xs.length cp cur hg p mm cap news hnl hA.2 (As hnew) hroom hfit
        rw [hr] at hrun
        cases hrun
        exact .inr (.inl rfl)
      · have hr := run_append_grow (P := P) w t ty et i zv ht hi hzv ⟨g, 0, none⟩ xs.length cp ds (by rw [vT hall, hs, hsz]) (hrow.cells (g := g) rfl) p mm cap news hnl hA.2 (by omega) (by rw [hm]; omega) (growslice_fits (by omega) (by rw [hm]; exact hbytes))
        rw [hr] at hrun
        cases hrun
        exact .inr (.inr rfl)
  have hvF : ∀ b, v.ownBlock = some b → b ∈ F := by
    intro b hb
    rcases hF with ⟨_, _, _, rfl⟩ | ⟨c, rfl, hc⟩
    · cases hb
    · rw [hc] at hb; cases hb; simp
  have hext : Ext F w w' := ⟨hgr.os, hgr.tape, hgr.output, hgr.size, fun b hb hn => hgr.block b hb (fun e => hn (hvF b e.symm))⟩
  have hF1 : ∀ b ∈ F1, b ∈ F := by
    intro b hb
    rcases hF with ⟨_, rfl, _, _⟩ | ⟨c, rfl, _⟩
    · cases hb
    · exact List.mem_cons_of_mem _ hb
  have hndF : F.Nodup := (List.nodup_append.1 hnd).1
  have hvF1 : ∀ b ∈ F1, some b ≠ v.ownBlock := by
    intro b hb e
    rcases hF with ⟨_, rfl, _, _⟩ | ⟨c, rfl, hc⟩
    · cases hb
    · rw [hc] at e; cases e
      exact (List.nodup_cons.1 hndF).1 hb
  have hlt : ∀ b ∈ F, b < w.heap.size := fun b hb => (ae e et).own_lt hown b hb
  have hlty := Cq hnew
  have hall' : gI e w' (F1 ++ Fy) (xs ++ ys) (ds ++ news) :=
    vd (lD hall (fun b hb => hgr.block b (hlt b (hF1 b hb)) (hvF1 b hb))) (lD hnew (fun b hb => hgr.block b (hlty b hb) (fun e => hdis b e.symm hb)))
  rw [hm] at hown'
  rw [← List.length_append] at hown'
  obtain ⟨F', ho, hF'⟩ := GK hown' hall' (fun hv => by
    obtain ⟨h1, h2⟩ := hnil.1 hv
    rw [hm] at h2
    have := List.eq_nil_of_length_eq_zero h2
    subst this
    rcases hF with ⟨_, rfl, _, _⟩ | ⟨c, _, hc⟩
    · rw [hnew.1]; rfl
    · rw [h1] at hc; cases hc)
  refine ⟨v', w', F', hrun, ho, hext, ?_, ?_⟩
  · rcases hF' with ⟨rfl, _⟩ | ⟨b, rfl, hb⟩
    · simp
    · have hnd1 : (F1 ++ Fy).Nodup := by
        rcases hF with ⟨_, rfl, _, _⟩ | ⟨c, rfl, _⟩
        · exact (List.nodup_append.1 hnd).2.1
        · exact (List.nodup_cons.1 hnd).2
      refine List.nodup_cons.2 ⟨fun hin => ?_, hnd1⟩
      rcases hvb with h1 | h1 | h1
      · rw [h1] at hb; cases hb
      · rw [hb] at h1
        rcases List.mem_append.1 hin with h2 | h2
        · exact hvF1 b h2 h1
        · exact hdis b h1.symm h2
      · rw [hb] at h1; cases h1
        rcases List.mem_append.1 hin with h2 | h2
        · have := hlt _ (hF1 _ h2); omega
        · have := hlty _ h2; omega
  · intro b hb
    refine ⟨(ae e et).own_lt ho b hb, ?_⟩
    rcases hF' with ⟨rfl, _⟩ | ⟨c, rfl, hc⟩
    · cases hb
    · cases hb with
      | head =>
        rcases hvb with h1 | h1 | h1
        · rw [h1] at hc; cases hc
        · rw [hc] at h1; exact .inl (hvF b h1.symm)
        · rw [hc] at h1; cases h1; exact .inr (.inr (Nat.le_refl _))
      | tail _ hb =>
        rcases List.mem_append.1 hb with h2 | h2
        · exact .inl (hF1 b h2)
        · exact .inr (.inl h2)
def qz (xs : List Int) : List UInt8 := xs.map fun n => UInt8.ofNat n.toNat
theorem Ex {α : Type} {val : α → Value} {h1 : ∀ x, (val x).oneCell' = true} {w : World} {X : List Nat} {xs : List α} {p : Addr} {nn cap : Nat} (h : oO (il val h1) w X xs [.slice (some p) nn cap]) : nn = xs.length ∧ At w X p (xs.map val) := by
  obtain ⟨a, cap', hv, hle, hc, hel⟩ := h
  simp only [List.cons.injEq, Value.slice.injEq, and_true] at hv
  obtain ⟨rfl, rfl, rfl⟩ := hv
  refine ⟨rfl, ?_⟩
  by_cases hne : xs = []
  · subst hne
    exact ⟨fun h => absurd rfl h, fun j v hv => by simp at hv⟩
  · obtain ⟨q, hq, hp⟩ := hel hne
    cases hq
    refine ⟨fun _ => ?_, fun j v hv => ?_⟩
    · obtain ⟨x, hx⟩ : ∃ x, xs[0]? = some x := by cases xs with | nil => exact absurd rfl hne | cons x _ => exact ⟨x, rfl⟩
      obtain ⟨ds, hd, hA⟩ := hp 0 x hx
      have hd' : ds = [val x] := hd
      subst hd'
      have := hA.1 (by simp)
      rwa [qD] at this
    · rw [List.getElem?_map] at hv
      cases hx : xs[j]? with
      | none => rw [hx] at hv; cases hv
      | some x =>
        rw [hx] at hv
        obtain ⟨ds, hd, hA⟩ := hp j x hx
        have hd' : ds = [val x] := hd
        subst hd'
        have := hA.2 0 (val x) rfl
        simp only [il, Nat.mul_one, cR] at this
        rw [this, ← hv]; rfl
theorem IX {o : Oper} {s t et : TypeId} {x : Operand} {xs : List Int} {v : Value} (ho : o.op = .convert s t x) (hx : ev E x = some v) (hs : isSl P s et) (he : vk P et .u8) (ht : yq P t) (hr : Rds C (ae eU8 et) xs [v]) : Ry P n C E o (vS (qz xs)) := fun a hF w hC => by
  obtain ⟨ad, cap, rfl⟩ : ∃ ad cap, v = .slice ad xs.length cap := by
    obtain ⟨ad, cap, hv, _⟩ := hr w hC
    exact ⟨ad, cap, by simpa using hv⟩
  have ht' : P.underlying t = some .string := ht
  have hc := run_convert_bytes_string (P := P) w s t et ad xs.length cap hs he ht'
  unfold execOp
  simp only [ho, hF.ev hx, Sem.run_bind, hc]
  cases ad with
  | none =>
    obtain ⟨ad', cap', hv, hle, _, hel⟩ := hr w hC
    have hxs : xs = [] := by
      by_cases hne : xs = []
      · exact hne
      · obtain ⟨p, hp, _⟩ := hel hne
        subst hp
        simp at hv
    subst hxs
    simp [Conv.bytesToString, vS, qz]
    rfl
  | some p =>
    obtain ⟨_, hA⟩ := Ex (hr w hC)
    have hl := run_loadCells_list (P := P) w p (xs.map (Value.int .u8)) hA.2
    rw [List.length_map] at hl
    have hrun := run_bytesToString (P := P) w p xs.length cap xs hl
    rw [hrun, foldl_push_bytes]
    simp [vS, qz]
def lp (a b : List UInt8) : Option (List UInt8) := if a.length + b.length ≤ 68719476736 then some (a ++ b) else none
theorem iX {o : Oper} {t u : TypeId} {x y : Operand} {a b c : List UInt8} (ho : o.op = .binOp .add t x y u) (hx : ev E x = some (vS a)) (hy : ev E y = some (vS b)) (h : lp a b = some c) : Ry P n C E o (vS c) := fun fr hF w _ => by
  unfold lp at h
  split at h
  · rename_i hl
    simp only [Option.some.injEq] at h; subst h
    have hr := run_string_add_sum (P := P) w ⟨a.toArray⟩ ⟨b.toArray⟩ (by simp [ByteArray.size]; omega)
    unfold execOp
    simp only [ho, hF.ev hx, hF.ev hy, vS, eqGuard_at_string, binOp_string_add, Sem.run_bind, Sem.run_pure, Result.andThen_ok, hr, ByteArray.mk_append_mk]
  · cases h
def sub {α : Type} (xs : List α) (lo hi : Int) : Option (List α) := if 0 ≤ lo ∧ lo ≤ hi ∧ hi ≤ xs.length then some ((xs.drop lo.toNat).take (hi.toNat - lo.toNat)) else none
theorem IA {α : Type} {xs ys : List α} {lo hi : Int} (h : sub xs lo hi = some ys) : 0 ≤ lo ∧ lo ≤ hi ∧ hi ≤ xs.length ∧ ys = (xs.drop lo.toNat).take (hi.toNat - lo.toNat) := by
  unfold sub at h
  split at h
  · rename_i hc; exact ⟨hc.1, hc.2.1, hc.2.2, (Option.some.inj h).symm⟩
  · cases h
def bnd (E : Env) : Option Operand → Int → Option Int
  | none, d => some d
  | some x, _ => match ev E x with | some (.int _ j) => some j | _ => none
theorem IC {a : Act} (hF : Fr n E a) {x : Option Operand} {d j : Int} (h : bnd E x d = some j) : (x = none ∧ j = d) ∨ ∃ y k, x = some y ∧ a.eval y = .int k j := by
  cases x with
  | none => exact .inl ⟨rfl, (Option.some.inj h).symm⟩
  | some y =>
    simp only [bnd] at h
    split at h
    · rename_i k q hy
      simp only [Option.some.injEq] at h; subst h
      exact .inr ⟨y, k, rfl, hF.ev hy⟩
    · cases h
theorem FE {isSl : Bool} {len cap : Nat} {lo hi : Option Value} {i j : Int} (hlo : (lo = none ∧ i = 0) ∨ ∃ k, lo = some (.int k i)) (hhi : (hi = none ∧ j = len) ∨ ∃ k, hi = some (.int k j)) (h0 : 0 ≤ i) (h1 : i ≤ j) (h2 : j ≤ len) (hc : len ≤ cap) (_hs : isSl = false → cap = len) (w : World) :
    (Instr.sliceBounds isSl len cap lo hi none).run P w = .ok (i.toNat, j.toNat, cap) w := by
  have hb : ∀ (k : IntKind) (q : Int) (y : Nat) (c : BoundsCode), 0 ≤ q → q ≤ y → (Instr.sliceBound (.int k q) y c).run P w = .ok q.toNat w := by
    intro k q y c hq hy
    simp [Instr.sliceBound, asIntOf, hq, hy]
  rcases hhi with ⟨rfl, rfl⟩ | ⟨k, rfl⟩
  · rcases hlo with ⟨rfl, rfl⟩ | ⟨k', rfl⟩
    · simp [Instr.sliceBounds]
    · simp [Instr.sliceBounds, hb k' i len .sliceB h0 h1]
  · have h4 := hb k j cap (if isSl = true then BoundsCode.sliceAcap else BoundsCode.sliceAlen) (by omega) (by omega)
    rcases hlo with ⟨rfl, rfl⟩ | ⟨k', rfl⟩
    · simp [Instr.sliceBounds, h4]
    · have h5 := hb k' i j.toNat .sliceB h0 (by omega)
      simp [Instr.sliceBounds, h4, h5]
theorem Kg {α : Type} {e : Enc α} {o : Oper} {t et : TypeId} {x : Operand} {lo hi : Option Operand} {xs ys : List α} {v : Value} {i j : Int} {agg : Bool} {sz by_ : Nat} {z : List Value} (ho : o.op = .slice t x lo hi none) (hw : wt l E o.guard = some true) (hd : iA n o.dst = true) (hx : ev E x = some v) (ht : isSl P t et) (he : ee P et agg sz by_ z) (hsz : e.sz = sz)
    (hi' : bnd E lo 0 = some i) (hj' : bnd E hi xs.length = some j) (h : sub xs i j = some ys) (hr : oO e w0 M xs [v]) (hk : ∀ v', oO e w0 M ys [v'] → OW P n l C (upd E o.dst v') m rest) : OW P n l C E m (o :: rest) := by
  obtain ⟨h0, h1, h2, rfl⟩ := IA h
  obtain ⟨a, cap, hv, hle, hc, hel⟩ := hr
  simp only [List.cons.injEq, and_true] at hv
  subst hv
  obtain ⟨ti, zv, hti, hs, _, _, _⟩ := he.info
  have ht' : P.underlying t = some (.slice et) := ht
  have hylen : ((xs.drop i.toNat).take (j.toNat - i.toNat)).length = j.toNat - i.toNat := by simp; omega
  refine FY hw (bU hd) (v := .slice (if cap = i.toNat then a else a.map (·.add (i.toNat * sz))) (j.toNat - i.toNat) (cap - i.toNat)) (fun fr hF w _ => ?_) (hk _ ?_)
  · have hlo : (lo.map fr.eval = none ∧ i = 0) ∨ ∃ k, lo.map fr.eval = some (.int k i) := by
      rcases IC hF hi' with ⟨rfl, rfl⟩ | ⟨y, k, rfl, hy⟩
      · exact .inl ⟨rfl, rfl⟩
      · exact .inr ⟨k, by simp [hy]⟩
    have hhi : (hi.map fr.eval = none ∧ j = xs.length) ∨ ∃ k, hi.map fr.eval = some (.int k j) := by
      rcases IC hF hj' with ⟨rfl, rfl⟩ | ⟨y, k, rfl, hy⟩
      · exact .inl ⟨rfl, rfl⟩
      · exact .inr ⟨k, by simp [hy]⟩
    have hb := FE (P := P) (isSl := true) (len := xs.length) (cap := cap) hlo hhi h0 h1 h2 hle (fun h => by cases h) w
    unfold execOp
    simp [ho, hF.ev hx, Instr.sliceAt, Instr.slice, run_underlying ht', hb, sizeOf, typeInfo, hti, hs]
  · refine ⟨_, cap - i.toNat, by rw [hylen], by rw [hylen]; omega, by omega, fun hne => ?_⟩
    have hxs : xs ≠ [] := fun e => by subst e; simp at hne
    obtain ⟨p, rfl, hp⟩ := hel hxs
    have hlt : i.toNat < cap := by
      have : 0 < ((xs.drop i.toNat).take (j.toNat - i.toNat)).length := List.length_pos_iff.2 hne
      rw [hylen] at this; omega
    rw [if_neg (by omega)]
    refine ⟨p.add (i.toNat * sz), rfl, fun q x hq => ?_⟩
    rw [List.getElem?_take] at hq
    split at hq
    · rw [List.getElem?_drop] at hq
      obtain ⟨ds, hd', hA⟩ := hp _ x hq
      refine ⟨ds, hd', ?_⟩
      have hmul : i.toNat * sz + q * sz = (i.toNat + q) * sz := by rw [Nat.add_mul]
      rw [hsz] at hA ⊢
      rw [dK, hmul]
      exact hA
    · cases hq
theorem Mo {o : Oper} {t et u : TypeId} {x : Operand} {a : Option Addr} {nn cap : Nat} (ho : o.op = .binOp .eql t x (.const (.slice none 0 0)) u) (hx : ev E x = some (.slice a nn cap)) (ht : isSl P t et) : Ry P n C E o (.bool a.isNone) := fun fr hF w _ => by
  have ht' : P.underlying t = some (.slice et) := ht
  have hc : fr.eval (.const (.slice none 0 0)) = .slice none 0 0 := rfl
  have hn := Lib.run_eql_slice_nil (P := P) w t et a nn cap 0 0 ht'
  unfold execOp
  simp only [ho, hF.ev hx, hc, eqGuard_at_slice, Sem.run_bind, Sem.run_pure, Result.andThen_ok, hn]
theorem Kz {o : Oper} {t et u : TypeId} {x : Operand} {a : Option Addr} {nn cap : Nat} (ho : o.op = .binOp .neq t x (.const (.slice none 0 0)) u) (hx : ev E x = some (.slice a nn cap)) (ht : isSl P t et) : Ry P n C E o (.bool (!a.isNone)) := fun fr hF w _ => by
  have ht' : P.underlying t = some (.slice et) := ht
  have hc : fr.eval (.const (.slice none 0 0)) = .slice none 0 0 := rfl
  have hn := run_neq_slice_nil_any (P := P) w t et a nn cap 0 0 ht'
  unfold execOp
  simp only [ho, hF.ev hx, hc, eqGuard_at_slice, Sem.run_bind, Sem.run_pure, Result.andThen_ok, hn]
end Go.Vk
/- Own slices by address, calls with results of their own, joins. -/
namespace Go.Vk
open Go.RowKit
variable {P : Program} {n : Nat} {C : World → Prop} {E : Env} {m : Md} {l rest : List Oper} {w0 : World} {M : List Nat} {L : List Res} {Q : Exit → Act → World → Prop}
theorem IV : ∃ n : Nat, 1000000000000 ≤ n := ⟨_, Nat.le_refl _⟩
noncomputable def aK : Nat := Classical.choose IV
theorem fe {n : Nat} (h : n < 1000000000000) : n < aK := Nat.lt_of_lt_of_le h (Classical.choose_spec IV)
def ER (a : Option Addr) (k : Nat) : Addr := (a.getD ⟨0, 0, none⟩).add k
theorem aY {α : Type} {e : Enc α} {F : List Nat} {xs : α} {cs : List Value} {r : Nat} (hr : L[r]? = some (Res.own e F xs cs)) : ∀ w, St w0 M L w → e.rd w [] xs cs :=
  fun w hw => e.own_rd (hw.ok _ (List.mem_of_getElem? hr)) (by simp)
theorem ab {α : Type} {e : Enc α} {xs : α} {cs : List Value} (h : e.rd w0 M xs cs) : ∀ w, St w0 M L w → e.rd w [] xs cs := Rds.bor h
theorem GO {α : Type} {e : Enc α} {w : World} {X : List Nat} : oO e w X [] [.slice none 0 0] := ⟨none, 0, rfl, by simp, by simp [maxLen], fun h => absurd rfl h⟩
theorem qI {α : Type} {val : α → Value} {h1 : ∀ x, (val x).oneCell' = true} {o : Oper} {t : TypeId} {x y : Operand} {a : Option Addr} {j : Int} {nn cap : Nat} {u : α} {sz by_ : Nat} {z : List Value} {i : Nat} {T : TypeId} {xs : List α} {F : List Nat} {u0 : α} (ho : o.op = .store t x y) (hm : m.here (o :: rest) = true) (hw : wt l E o.guard = some true) (hd : iA n o.dst = true)
    (hx : ev E x = some (.pointer (some (ER a j.toNat)))) (hy : ev E y = some (val u)) (ht : ee P t false sz by_ z) (hr : L[i]? = some (Res.own (ae (il val h1) T) F xs [.slice a nn cap])) (hj : idx xs j = some u0) (hvc : ∀ u, (val u).cells = #[val u])
    (hS : Kp m (St w0 M (L.set i (Res.own (ae (il val h1) T) F (xs.set j.toNat u) [.slice a nn cap]))))
    (hk : OW P n l (St w0 M (L.set i (Res.own (ae (il val h1) T) F (xs.set j.toNat u) [.slice a nn cap]))) (upd E o.dst undef) m rest) : OW P n l (St w0 M L) E m (o :: rest) :=
  lk hm hw fun fr w hF hC _ _ hK => by
    obtain ⟨_, hlt, _⟩ := cE hj
    generalize hjj : j.toNat = jj at *
    rcases Jj (hC.ok _ (List.mem_of_getElem? hr)) with ⟨rfl, _, _⟩ | ⟨b, cap', rfl, hv, cur, hb, h2, h3, h4, h5⟩
    · simp at hlt
    · simp only [Value.slice.injEq] at hv
      obtain ⟨rfl, rfl, rfl⟩ := hv
      have h6 := ht.one rfl
      subst h6
      have hp : ER (some ⟨b, 0, none⟩) jj = ⟨b, jj, none⟩ := by simp [ER, dd]
      rw [hp] at hx
      have hrun := tL (vs := [val u]) ht hb (hvc u) rfl (off := jj) (by omega) (by simp [h1])
      have hfl : JB val T b cap (xs.set jj u) (w.setRow b (fI cur.toList jj [val u]).toArray) := by
        refine ⟨_, hb.set (by simp only [List.size_toArray]; rw [pn (by simp; omega)]; simp), by simpa using h2, h3, ?_, ?_⟩
        · simp only [List.size_toArray]; rw [pn (by simp; omega)]; simpa using h4
        · apply List.ext_getElem?
          intro q
          have h7 : (cur.toList.take xs.length)[q]? = (xs.map val)[q]? := by rw [h5]
          simp only [List.length_set, List.getElem?_take, List.getElem?_map, List.getElem?_set] at h7 ⊢
          by_cases hq : q < xs.length
          · simp only [hq, if_true] at h7 ⊢
            by_cases hqj : jj = q
            · subst hqj
              simp [fI, hlt, Nat.min_eq_left (show jj ≤ cur.size by omega)]
            · simp only [hqj, if_false]
              rw [← h7]
              simp only [fI, List.getElem?_append, List.length_take, List.getElem?_take, List.length_append, List.length_singleton, List.getElem?_drop, Array.length_toList, Nat.min_eq_left (show jj ≤ cur.size by omega)]
              by_cases c1 : q < jj
              · simp [c1, show q < jj + 1 by omega]
              · simp only [show ¬ q < jj + 1 by omega, if_false]
                congr 1; omega
          · have : jj ≠ q := by omega
            simp [hq, this]
      have hst : St w0 M (L.set i (Res.own (ae (il val h1) T) [b] (xs.set jj u) [.slice (some ⟨b, 0, none⟩) xs.length cap])) (w.setRow b (fI cur.toList jj [val u]).toArray) := by
        refine hC.upd hr (yr hb) _ ?_ (by simp [Res.own]) (fun c hc => ?_)
        · have := zH (h1 := h1) hfl
          rwa [List.length_set] at this
        · have : c = b := by simpa [Res.own] using hc
          subst this
          exact ⟨by simpa using hb.lt, .inl (by simp [Res.own])⟩
      refine uX ?_ (hK _ _ _ _ hk (hF.put _ _ (bU hd)) hst (hS _ hst))
      unfold execOp
      simp only [ho, hF.ev hx, hF.ev hy, Sem.run_bind, hrun]
      rfl
theorem dm {α : Type} {val : α → Value} {h1 : ∀ x, (val x).oneCell' = true} {o : Oper} {t et : TypeId} {len : Nat} {ps : List (Nat × Operand)} {vs : List Value} (xs : List α) (qs : List (Nat × List Value)) {agg : Bool} {sz by_ : Nat} {z : List Value} (ho : o.op = .buildSlice t len ps.toArray) (hm : m.here (o :: rest) = true) (hw : wt l E o.guard = some true) (hd : iA n o.dst = true)
    (hx : evs E (ps.map (·.2)) = some vs) (ht : isSl P t et) (he : ee P et agg sz by_ z) (hpos : Nat.blt 0 (len * sz) = true) (hsm : Nat.ble (len * sz) 16777216 = true) (hlen : xs.length = len)
    (hp : Cl (fun i => some (i * sz, sz)) (len * sz) ((ps.map (·.1)).zip vs) qs) (hds : zb ((List.range (len * sz)).map fun i => z[i % z.length]!) qs = xs.map val) (hsz : 1 = sz)
    (hS : ∀ b, Kp m (St w0 M (L ++ [Res.own (ae (il val h1) et) [b] xs [.slice (some ⟨b, 0, none⟩) xs.length len]])))
    (hk : ∀ b, OW P n l (St w0 M (L ++ [Res.own (ae (il val h1) et) [b] xs [.slice (some ⟨b, 0, none⟩) xs.length len]])) (upd E o.dst (.slice (some ⟨b, 0, none⟩) xs.length len)) m rest) : OW P n l (St w0 M L) E m (o :: rest) := by
  have hst : ∀ b w, St w0 M (L ++ [Res.box b et (xs.map val)]) w → St w0 M (L ++ [Res.own (ae (il val h1) et) [b] xs [.slice (some ⟨b, 0, none⟩) xs.length len]]) w := fun b w h => by
    have hi : (L ++ [Res.box b et (xs.map val)])[L.length]? = some (Res.box b et (xs.map val)) := by simp
    have := h.recast (r' := Res.own (ae (il val h1) et) [b] xs [.slice (some ⟨b, 0, none⟩) xs.length len]) hi rfl (fun ho => by
      have hmx : xs.length ≤ maxLen := by
        rw [hlen]; have := Nat.le_of_ble_eq_true hsm; rw [← hsz] at this; simp only [maxLen]; omega
      have := KG (h1 := h1) xs hmx ho
      rwa [← hlen])
    simpa using this
  subst hlen
  refine HG qs ho hm hw hd hx ht he hpos hsm hp _ hds (fun b w hw' => hS b w (hst b w hw')) (fun b => ?_)
  have := hk b
  cases m with
  | lex Q => exact fun a w hF hC => this a w hF (hst b w hC)
  | any K => cases hm
  | held S Q fl => exact fun s h1 h2 a w hF hC => this s h1 h2 a w hF (hst b w hC)
theorem jw {α : Type} {e : Enc α} {o : Oper} {t et : TypeId} {agg : Bool} {sz by_ : Nat} {z : List Value} (ho : o.op = .buildSlice t 0 #[]) (hm : m.here (o :: rest) = true) (hw : wt l E o.guard = some true) (hd : iA n o.dst = true)
    (ht : isSl P t et) (he : ee P et agg sz by_ z)
    (hS : ∀ b, Kp m (St w0 M (L ++ [Res.own (ae e et) [b] [] [.slice (some ⟨b, 0, none⟩) 0 0]])))
    (hk : ∀ b, OW P n l (St w0 M (L ++ [Res.own (ae e et) [b] [] [.slice (some ⟨b, 0, none⟩) 0 0]])) (upd E o.dst (.slice (some ⟨b, 0, none⟩) 0 0)) m rest) : OW P n l (St w0 M L) E m (o :: rest) := by
  have hst : ∀ b w, St w0 M (L ++ [Res.box b et []]) w → St w0 M (L ++ [Res.own (ae e et) [b] [] [.slice (some ⟨b, 0, none⟩) 0 0]]) w := fun b w h => by
    have hi : (L ++ [Res.box b et []])[L.length]? = some (Res.box b et []) := by simp
    have := h.recast (r' := Res.own (ae e et) [b] [] [.slice (some ⟨b, 0, none⟩) 0 0]) hi rfl (fun ho => HL ho)
    simpa using this
  refine Ft ho hm hw hd ht he (fun b w hw' => hS b w (hst b w hw')) (fun b => ?_)
  have := hk b
  cases m with
  | lex Q => exact fun a w hF hC => this a w hF (hst b w hC)
  | any K => cases hm
  | held S Q fl => exact fun s h1 h2 a w hF hC => this s h1 h2 a w hF (hst b w hC)
theorem cV {α : Type} {val : α → Value} {h1 : ∀ x, (val x).oneCell' = true} {o : Oper} {t et : TypeId} {x y : Operand} {agg : Bool} {by_ : Nat} {z : List Value} {r : Nat} {F : List Nat} {xs ys zs : List α} {a : Option Addr} {nn cap : Nat} {a2 : Option Addr} {n2 cap2 : Nat}
    (ho : o.op = .call { callee := .builtin .append, args := #[x, y], argTypes := #[t, t] }) (hm : m.here (o :: rest) = true) (hw : wt l E o.guard = some true) (hd : iA n o.dst = true) (hx : ev E x = some (.slice a nn cap)) (hy : ev E y = some (.slice a2 n2 cap2))
    (ht : isSl P t et) (he : ee P et agg 1 by_ z) (hby : Nat.ble by_ 2048 = true) (hzl : z.length = 1) (hr : L[r]? = some (Res.own (ae (il val h1) et) F xs [.slice a nn cap])) (hA : ∀ w, St w0 M L w → oO (il val h1) w [] ys [.slice a2 n2 cap2]) (hz : app xs ys = some zs)
    (hS : ∀ a' c' F', Kp m (St w0 M (L.set r (Res.own (ae (il val h1) et) F' zs [.slice a' zs.length c']))))
    (hk : ∀ a' c' F', OW P n l (St w0 M (L.set r (Res.own (ae (il val h1) et) F' zs [.slice a' zs.length c']))) (upd E o.dst (.slice a' zs.length c')) m rest) : OW P n l (St w0 M L) E m (o :: rest) := by
  obtain ⟨rfl, hlen⟩ := An hz
  refine lk hm hw fun fr w hF hC _ _ hK => ?_
  obtain ⟨hok, hnd, hlt⟩ := hC.one hr
  have hr2 := hA w hC
  obtain ⟨i, zv, hi, hs, hb, hzv, hzc⟩ := he.info
  have fin : ∀ v' w' F', (Builtin.append_ #[t, t] o.type #[.slice a nn cap, .slice a2 n2 cap2]).run P w = .ok v' w' → tt (il val h1) et w' F' (xs ++ ys) [v'] → Ext F w w' → F'.Nodup → (∀ b ∈ F', b < w'.heap.size ∧ (b ∈ F ∨ w.heap.size ≤ b)) →
      o.wp P fr w _ m.ends := fun v' w' F' hrun hown hext hnd' hF' => by
    obtain ⟨a', c', hv, _⟩ := (ae (il val h1) et).own_rd (X := []) hown (by simp)
    simp only [List.cons.injEq, and_true] at hv
    subst hv
    have hst : St w0 M (L.set r (Res.own (ae (il val h1) et) F' (xs ++ ys) [.slice a' (xs ++ ys).length c'])) w' := hC.upd hr hext _ hown hnd' hF'
    refine pW ?_ (hK _ _ _ _ (hk a' c' F') (hF.put _ _ (bU hd)) hst (hS a' c' F' _ hst))
    unfold execOp
    simp only [ho, resolve, invoke, builtin, Sem.run_bind, Sem.run_pure, Result.andThen_ok, List.map_toArray, List.map_cons, List.map_nil, hF.ev hx, hF.ev hy, hrun]
  cases a2 with
  | none =>
    have hys : ys = [] ∧ n2 = 0 := by
      obtain ⟨a', cap', hv, _, _, hel⟩ := hr2
      simp only [List.cons.injEq, Value.slice.injEq, and_true] at hv
      obtain ⟨rfl, rfl, rfl⟩ := hv
      by_cases hne : ys = []
      · subst hne; exact ⟨rfl, rfl⟩
      · obtain ⟨p, hp, _⟩ := hel hne; cases hp
    obtain ⟨rfl, rfl⟩ := hys
    have hle : nn ≤ cap := by
      obtain ⟨a', cap', hv, h2, _⟩ := (ae (il val h1) et).own_rd (X := []) hok (by simp)
      simp only [List.cons.injEq, Value.slice.injEq, and_true] at hv
      obtain ⟨rfl, rfl, rfl⟩ := hv
      exact h2
    have hrun := run_append_nothing (P := P) w t t o.type et i ht hi a nn cap hle (.slice none 0 cap2) (Src.ofNil w ht cap2)
    exact fin _ _ F hrun (by rw [List.append_nil]; exact hok) (Ext.refl _ _) hnd (fun b hb => ⟨hlt b hb, .inl hb⟩)
  | some p =>
    obtain ⟨hn, hAt⟩ := Ex hr2
    obtain ⟨v', w', F', hrun, hown, hext, hnd', hF'⟩ := En (ty := o.type) ht he hby rfl rfl hzl (F := F) (Fy := []) hok (mm := n2) (cap := cap2) hn hAt (rI ys) hlen (by rw [List.append_nil]; exact hnd) (by simp)
    exact fin v' w' F' hrun hown hext hnd' (fun b hb => by
      obtain ⟨h2, h3⟩ := hF' b hb
      refine ⟨h2, ?_⟩
      rcases h3 with h3 | h3 | h3
      · exact .inl h3
      · cases h3
      · exact .inr h3)
theorem XW.at {C' : World → Prop} {R : Env} {x : Exit} (h : XW n C' R Q x) (hC : ∀ w, C w → C' w) (hs : Sub R E) : XW n C E Q x := fun a w hF hw => h a w (hF.sub hs) (hC w hw)
theorem aL (R : Env) (k : Nat) (hk : OW P n l C R m (rest.drop k)) (hs : OW P n l C R m (rest.drop k) → OW P n l C E m rest) : OW P n l C E m rest := hs hk
theorem iS {y : Code} (h : pu Q) : pu (QS P y Q) := fun c a d v w hq => h c a d v w hq
theorem te {id : Nat} (h : pu Q) : pu (QB id Q) := fun c a d v w hq => h c a d v w hq
theorem Ac {c : Code} {k : Nat} (h : pu Q) : pu (QL P c k Q) := fun c a d v w hq => h c a d v w hq
def quo (k : IntKind) (x y : Int) : Option Int := if y = 0 then none else some (k.wrap (x.tdiv y))
def rem (x y : Int) : Option Int := if y = 0 then none else some (x.tmod y)
def shl (k : IntKind) (x y : Int) : Option Int := if y < 0 then none else some (Km k x y)
def shr (k : IntKind) (x y : Int) : Option Int := if y < 0 then none else some (nO k x y)
theorem Gb {o : Oper} {t u : TypeId} {x y : Operand} {k : IntKind} {a b c : Int} (ho : o.op = .binOp .rem t x y u) (hx : ev E x = some (.int k a)) (hy : ev E y = some (.int k b)) (h : rem a b = some c) : Ry P n C E o (.int k c) := fun fr hF w _ => by
  unfold rem at h
  split at h
  · cases h
  · rename_i hb
    simp only [Option.some.injEq] at h; subst h
    unfold execOp
    simp [ho, hF.ev hx, hF.ev hy, eqGuard_at_int, binOp_rem, Op.intDiv, hb]
theorem Ms {o : Oper} {t u : TypeId} {x y : Operand} {k k' : IntKind} {a b c : Int} (ho : o.op = .binOp .shl t x y u) (hx : ev E x = some (.int k a)) (hy : ev E y = some (.int k' b)) (h : shl k a b = some c) : Ry P n C E o (.int k c) := fun fr hF w _ => by
  unfold shl at h
  split at h
  · cases h
  · rename_i hb
    simp only [Option.some.injEq] at h; subst h
    unfold execOp
    simp [ho, hF.ev hx, hF.ev hy, eqGuard_at_int, binOp, Op.shift, Km, hb]
def JZ (P : Program) (t : TypeId) : Prop := P.underlying t = some .bool
def blB (P : Program) (t : TypeId) : Bool := match P.underlying t with | some .bool => true | _ => false
theorem KZ {t : TypeId} (h : blB P t = true) : JZ P t := by
  unfold blB at h
  split at h
  · assumption
  · cases h
theorem Lf {o : Oper} {t u : TypeId} {x y : Operand} {a b : Bool} (ho : o.op = .binOp .eql t x y u) (hx : ev E x = some (.bool a)) (hy : ev E y = some (.bool b)) (ht : JZ P t) : Ry P n C E o (.bool (a == b)) := fun fr hF w _ => by
  have ht' : P.underlying t = some .bool := ht
  have h1 : (eqGuard .eql t x y (.bool a) (.bool b) : Sem Unit).run P w = .ok () w := rfl
  have h2 := run_eql_bool (P := P) w t a b ht'
  unfold execOp
  simp only [ho, hF.ev hx, hF.ev hy, Sem.run_bind, h1, h2, Result.andThen_ok]
  rfl
theorem Cv {o : Oper} {t u : TypeId} {x y : Operand} {a b : Bool} (ho : o.op = .binOp .neq t x y u) (hx : ev E x = some (.bool a)) (hy : ev E y = some (.bool b)) (ht : JZ P t) : Ry P n C E o (.bool (a != b)) := fun fr hF w _ => by
  have ht' : P.underlying t = some .bool := ht
  have h1 : (eqGuard .neq t x y (.bool a) (.bool b) : Sem Unit).run P w = .ok () w := rfl
  have h2 : (binOp .neq t (.bool a) (.bool b)).run P w = .ok (.bool (a != b)) w := by
    have h3 := run_eql_bool (P := P) w t a b ht'
    simp only [binOp, Sem.run_bind] at h3 ⊢
    generalize (Op.equal t (Value.bool a) (Value.bool b)).run P w = q at h3 ⊢
    cases q with
    | ok v w' =>
      simp only [Result.andThen_ok, Sem.run_pure, Result.ok.injEq, Value.bool.injEq] at h3 ⊢
      obtain ⟨rfl, rfl⟩ := h3
      exact ⟨rfl, rfl⟩
    | _ => simp [Result.andThen] at h3
  unfold execOp
  simp only [ho, hF.ev hx, hF.ev hy, Sem.run_bind, h1, h2, Result.andThen_ok]
  rfl
end Go.Vk
/- Joins of ways. -/
namespace Go.Vk
open Go.RowKit
theorem CU {α0 : Type} {P : Program} {n : Nat} {C : World → Prop} {E : Env} {Q : Exit → Act → World → Prop} {x y : Code} (Cf : α0 → World → Prop) (Ef : α0 → Env) (g : α0 → Prop)
    (hy : ∀ s0, (g s0) → CW P n (Cf s0) (Ef s0) Q y) (hx : (∀ s0, (g s0) → XW n (Cf s0) (Ef s0) (QS P y Q) .normal) → CW P n C E (QS P y Q) x) : CW P n C E Q (.seq x y) :=
  ai (hx (fun s0 H => ao (hy s0 H)))
end Go.Vk
/- Structs: JB data, pairs of data; resources arranged anew. -/
namespace Go.Vk
open Go.RowKit
def zV {α : Type} (f : α → List Value) (k : Nat) (hk : ∀ x, (f x).length = k) (h1 : ∀ x, ∀ u ∈ f x, u.oneCell' = true) : Enc α where
  sz := k
  rd _ _ x cs := cs = f x
  own _ F x cs := F = [] ∧ cs = f x
  rd_len h := by rw [h]; exact hk _
  rd_loc h _ := h
  rd_anti h _ := h
  own_loc h _ := h
  own_rd h _ := h.2
  own_lt h b hb := by rw [h.1] at hb; cases hb
  one h u hu := by rw [h] at hu; exact h1 _ u hu
def aH {α β : Type} (e : Enc α) (f : Enc β) : Enc (α × β) where
  sz := e.sz + f.sz
  rd w X x cs := ∃ c1 c2, cs = c1 ++ c2 ∧ e.rd w X x.1 c1 ∧ f.rd w X x.2 c2
  own w F x cs := ∃ F1 F2 c1 c2, F = F1 ++ F2 ∧ cs = c1 ++ c2 ∧ e.own w F1 x.1 c1 ∧ f.own w F2 x.2 c2
  rd_len := by rintro w X x cs ⟨c1, c2, rfl, h1, h2⟩; rw [List.length_append, e.rd_len h1, f.rd_len h2]
  rd_loc := by rintro w w' X x cs ⟨c1, c2, rfl, h1, h2⟩ hb; exact ⟨c1, c2, rfl, e.rd_loc h1 hb, f.rd_loc h2 hb⟩
  rd_anti := by rintro w X X' x cs ⟨c1, c2, rfl, h1, h2⟩ hb; exact ⟨c1, c2, rfl, e.rd_anti h1 hb, f.rd_anti h2 hb⟩
  own_loc := by
    rintro w w' F x cs ⟨F1, F2, c1, c2, rfl, rfl, h1, h2⟩ hb
    exact ⟨F1, F2, c1, c2, rfl, rfl, e.own_loc h1 (fun b h => hb b (by simp [h])), f.own_loc h2 (fun b h => hb b (by simp [h]))⟩
  own_rd := by
    rintro w F X x cs ⟨F1, F2, c1, c2, rfl, rfl, h1, h2⟩ hb
    exact ⟨c1, c2, rfl, e.own_rd h1 (fun b h => hb b (by simp [h])), f.own_rd h2 (fun b h => hb b (by simp [h]))⟩
  own_lt := by
    rintro w F x cs ⟨F1, F2, c1, c2, rfl, rfl, h1, h2⟩ b hb
    rcases List.mem_append.1 hb with h | h
    · exact e.own_lt h1 b h
    · exact f.own_lt h2 b h
  one := by
    rintro w X x cs ⟨c1, c2, rfl, h1, h2⟩ u hu
    rcases List.mem_append.1 hu with h | h
    · exact e.one h1 u h
    · exact f.one h2 u h
theorem bH {α β : Type} {e : Enc α} {f : Enc β} {w : World} {X : List Nat} {x : α} {y : β} {c1 c2 : List Value} (h1 : e.rd w X x c1) (h2 : f.rd w X y c2) : (aH e f).rd w X (x, y) (c1 ++ c2) := ⟨c1, c2, rfl, h1, h2⟩
theorem fO {α β : Type} {e : Enc α} {f : Enc β} {w : World} {F1 F2 : List Nat} {x : α} {y : β} {c1 c2 : List Value} (h1 : e.own w F1 x c1) (h2 : f.own w F2 y c2) : (aH e f).own w (F1 ++ F2) (x, y) (c1 ++ c2) := ⟨F1, F2, c1, c2, rfl, rfl, h1, h2⟩
def ql {α β : Type} (e : Enc α) (g : β → α) : Enc β where
  sz := e.sz
  rd w X x cs := e.rd w X (g x) cs
  own w F x cs := e.own w F (g x) cs
  rd_len h := e.rd_len h
  rd_loc h hb := e.rd_loc h hb
  rd_anti h hb := e.rd_anti h hb
  own_loc h hb := e.own_loc h hb
  own_rd h hb := e.own_rd h hb
  own_lt h := e.own_lt h
  one h := e.one h
theorem ah {α : Type} {e : Enc α} {w : World} {X : List Nat} {xs : List α} {cs : List Value} (h : oO e w X xs cs) : ∃ a cap, cs = [.slice a xs.length cap] := by
  obtain ⟨a, cap, hv, _⟩ := h
  exact ⟨a, cap, hv⟩
theorem mU {α : Type} {e : Enc α} {T : TypeId} {w : World} {F : List Nat} {xs : List α} {cs : List Value} (h : (ae e T).own w F xs cs) : ∃ a cap, cs = [.slice a xs.length cap] := ah (e := e) ((ae e T).own_rd (X := []) h (by simp))
theorem NV {α : Type} {e : Enc α} {T : TypeId} {w : World} {F : List Nat} {xs : List α} {a : Option Addr} {n c : Nat} (h : (ae e T).own w F xs [.slice a n c]) : n = xs.length := by
  obtain ⟨a', c', hv⟩ := mU h
  simp only [List.cons.injEq, Value.slice.injEq, and_true] at hv
  exact hv.2.1
theorem eb {α : Type} {e : Enc α} {w : World} {X : List Nat} {xs : List α} {a : Option Addr} {n c : Nat} (h : oO e w X xs [.slice a n c]) : n = xs.length := by
  obtain ⟨a', c', hv⟩ := ah h
  simp only [List.cons.injEq, Value.slice.injEq, and_true] at hv
  exact hv.2.1
theorem Pd {α : Type} {e : Enc α} {T : TypeId} {w : World} {F : List Nat} {xs : List α} {a : Option Addr} {n c : Nat} (h : (ae e T).own w F xs [.slice a n c]) (hne : xs ≠ []) : a.isNone = false := by
  rcases h with ⟨rfl, _, _⟩ | ⟨b, cap, cur, F1, ds, rfl, hcs, _⟩
  · exact absurd rfl hne
  · simp only [List.cons.injEq, Value.slice.injEq, and_true] at hcs
    rw [hcs.1]; rfl
theorem aI {α : Type} {e : Enc α} {T : TypeId} {w0 w : World} {M : List Nat} {L : List Res} {F : List Nat} {xs : List α} {a : Option Addr} {n c i : Nat} (h : St w0 M L w) (hi : L[i]? = some (Res.own (ae e T) F xs [.slice a n c])) : n = xs.length := NV (h.ok _ (List.mem_of_getElem? hi))
theorem rW {α : Type} {e : Enc α} {T : TypeId} {w0 w : World} {M : List Nat} {L : List Res} {F : List Nat} {xs : List α} {a : Option Addr} {n c i : Nat} (h : St w0 M L w) (hi : L[i]? = some (Res.own (ae e T) F xs [.slice a n c])) (hne : xs ≠ []) : a.isNone = false := Pd (h.ok _ (List.mem_of_getElem? hi)) hne
section
variable {w0 : World} {M : List Nat} {L : List Res} {w : World}
def Hs : List Res → Nat → (Res → List Res) → List Res
  | [], _, k => k Res.nil
  | r :: _, 0, k => k r
  | _ :: L, i + 1, k => Hs L i k
def kx (L : List Res) : List Nat → List Res
  | [] => []
  | i :: is => Hs L i (fun r => r :: kx L is)
theorem Gu : ∀ (L : List Res) (i : Nat) (k : Res → List Res), Hs L i k = k (match L[i]? with | some r => r | none => Res.nil)
  | [], i, k => by simp [Hs]
  | r :: L, 0, k => by simp [Hs]
  | r :: L, i + 1, k => by rw [Hs, Gu L i k]; simp
theorem sG (L : List Res) : kx L [] = [] := rfl
theorem kS (L : List Res) (i : Nat) (is : List Nat) : kx L (i :: is) = (match L[i]? with | some r => r | none => Res.nil) :: kx L is := by rw [kx, Gu]
def pC (L : List Res) : List Nat → List Res
  | [] => L
  | i :: is => pC (L.set i Res.nil) is
def xR : List Nat → Bool
  | [] => true
  | i :: is => is.all (fun j => !(Nat.beq i j)) && xR is
theorem IF (L : List Res) (i : Nat) : (dF L).Perm ((match L[i]? with | some r => r | none => Res.nil).F ++ dF (L.set i Res.nil)) := by
  cases hi : L[i]? with
  | some r => exact Ce hi
  | none =>
    have hlen : L.length ≤ i := by simpa using hi
    rw [List.set_eq_of_length_le hlen]
    exact List.Perm.refl _
theorem Gy {L : List Res} {i : Nat} : ∀ {is : List Nat}, is.all (fun j => !(Nat.beq i j)) = true → kx (L.set i Res.nil) is = kx L is
  | [], _ => rfl
  | j :: is, h => by
    simp only [List.all_cons, Bool.and_eq_true, Bool.not_eq_true'] at h
    have hne : i ≠ j := Nat.ne_of_beq_eq_false h.1
    rw [kS, kS, List.getElem?_set_ne hne, Gy h.2]
theorem qV : ∀ {is : List Nat} {L : List Res}, xR is = true → (dF L).Perm (dF (kx L is) ++ dF (pC L is))
  | [], L, _ => List.Perm.refl _
  | i :: is, L, h => by
    simp only [xR, Bool.and_eq_true] at h
    have h1 := IF L i
    have h2 := qV (is := is) (L := L.set i Res.nil) h.2
    rw [Gy h.1] at h2
    refine h1.trans ?_
    rw [kS, gX]
    show ((match L[i]? with | some r => r | none => Res.nil).F ++ dF (L.set i Res.nil)).Perm (((match L[i]? with | some r => r | none => Res.nil).F ++ dF (kx L is)) ++ dF (pC (L.set i Res.nil) is))
    rw [List.append_assoc]
    exact List.Perm.append_left _ h2
theorem xk : ∀ {is : List Nat} {L : List Res} {r : Res}, r ∈ pC L is → r ∈ L ∨ r = Res.nil
  | [], _, _, h => .inl h
  | i :: is, L, r, h => by
    rcases xk (is := is) h with h1 | h1
    · rcases List.mem_or_eq_of_mem_set h1 with h2 | h2
      · exact .inl h2
      · exact .inr h2
    · exact .inr h1
theorem mV : ∀ {is : List Nat} {r : Res}, r ∈ kx L is → r ∈ L ∨ r = Res.nil
  | [], _, h => by cases h
  | i :: is, r, h => by
    rw [kS] at h
    cases h with
    | head =>
      cases hi : L[i]? with
      | some r => exact .inl (List.mem_of_getElem? hi)
      | none => exact .inr rfl
    | tail _ h => exact mV h
theorem St.ok' (h : St w0 M L w) {r : Res} (hr : r ∈ L ∨ r = Res.nil) : r.ok w := by
  rcases hr with hr | rfl
  · exact h.ok r hr
  · trivial
theorem St.re (idx : List Nat) (Rs : List Res) (h : St w0 M L w) (hn : xR idx = true) (hF : (dF Rs).Perm (dF (kx L idx))) (ho : ∀ r ∈ Rs, r.ok w) : St w0 M (pC L idx ++ Rs) w := by
  have hp : (dF L).Perm (dF (pC L idx ++ Rs)) := by
    rw [ez]
    refine (qV hn).trans (List.perm_append_comm.trans ?_)
    exact List.Perm.append_left _ hF.symm
  refine ⟨h.ext, fun r hr => ?_, hp.nodup_iff.1 h.nd, fun b hb => h.lt b (hp.mem_iff.2 hb), fun b hb => h.new b (hp.mem_iff.2 hb)⟩
  rcases List.mem_append.1 hr with h1 | h1
  · exact h.ok' (xk h1)
  · exact ho r h1
theorem St.sel (idx : List Nat) {L' : List Res} (hL : kx L idx = L') (hn : xR idx = true) (h : St w0 M L w) : St w0 M L' w := by
  subst hL
  have hp := qV (L := L) hn
  have hsub : ∀ b ∈ dF (kx L idx), b ∈ dF L := fun b hb => hp.mem_iff.2 (by simp [hb])
  refine ⟨h.ext, fun r hr => h.ok' (mV hr), ?_, fun b hb => h.lt b (hsub b hb), fun b hb => h.new b (hsub b hb)⟩
  have := hp.nodup_iff.1 h.nd
  exact (List.nodup_append.1 this).1
theorem St.carve (idx : List Nat) {L' : List Res} (hL : kx L idx = L') (hn : xR idx = true) (h : St w0 M L w) : St w (dF L') L' w := by
  have h' := h.sel idx hL hn
  exact ⟨Ext.refl _ _, h'.ok, h'.nd, h'.lt, fun b hb => .inr hb⟩
theorem St.comp {Rs : List Res} {w' : World} (idx : List Nat) {L' : List Res} (hL : kx L idx = L') (hn : xR idx = true) (h : St w0 M L w) (k : St w (dF L') Rs w') : St w0 M (pC L idx ++ Rs) w' := by
  subst hL
  have hp := qV (L := L) hn
  have hnd := hp.nodup_iff.1 h.nd
  rw [List.nodup_append] at hnd
  obtain ⟨hS, hN, hSN⟩ := hnd
  have hsub : ∀ b ∈ dF (kx L idx), b ∈ dF L := fun b hb => hp.mem_iff.2 (by simp [hb])
  have hsubN : ∀ b ∈ dF (pC L idx), b ∈ dF L := fun b hb => hp.mem_iff.2 (by simp [hb])
  have hNx : ∀ b ∈ dF (pC L idx), b ∉ dF (kx L idx) := fun b hb hs => hSN b hs b hb rfl
  refine ⟨?_, ?_, ?_, ?_, ?_⟩
  · refine ⟨k.ext.os.trans h.ext.os, k.ext.tape.trans h.ext.tape, k.ext.output.trans h.ext.output, Nat.le_trans h.ext.size k.ext.size, fun b hb hm => ?_⟩
    have hbs : b ∉ dF (kx L idx) := fun hin => by
      rcases h.new b (hsub b hin) with h1 | h1
      · omega
      · exact hm h1
    exact (k.ext.block b (Nat.lt_of_lt_of_le hb h.ext.size) hbs).trans (h.ext.block b hb hm)
  · intro r hr
    rcases List.mem_append.1 hr with h1 | h1
    · exact r.loc w w' (fun b hb => k.ext.block b (h.lt b (hsubN b (oG h1 hb))) (hNx b (oG h1 hb))) (h.ok' (xk h1))
    · exact k.ok r h1
  · rw [ez, List.nodup_append]
    refine ⟨hN, k.nd, fun a ha b hb e => ?_⟩
    subst e
    rcases k.new a hb with h1 | h1
    · have := h.lt a (hsubN a ha); omega
    · exact hNx a ha h1
  · intro b hb
    rw [ez] at hb
    rcases List.mem_append.1 hb with h1 | h1
    · exact Nat.lt_of_lt_of_le (h.lt b (hsubN b h1)) k.ext.size
    · exact k.lt b h1
  · intro b hb
    rw [ez] at hb
    rcases List.mem_append.1 hb with h1 | h1
    · exact h.new b (hsubN b h1)
    · rcases k.new b h1 with h2 | h2
      · exact .inl (Nat.le_trans h.ext.size h2)
      · exact h.new b (hsub b h2)
theorem St.app {Rs : List Res} {w' : World} (h : St w0 M L w) (k : St w [] Rs w') : St w0 M (L ++ Rs) w' := h.comp [] rfl rfl k
theorem rdB {α : Type} {e : Enc α} {x : α} {cs : List Value} (idx : List Nat) {L' : List Res} (hL : kx L idx = L') (hn : xR idx = true) (h : St w0 M L w) (hr : e.rd w0 M x cs) : e.rd w (dF L') x cs := by
  subst hL
  have hsub : ∀ b ∈ dF (kx L idx), b ∈ dF L := fun b hb => (qV (L := L) hn).mem_iff.2 (by simp [hb])
  have h1 : e.rd w0 (M ++ dF (kx L idx)) x cs := e.rd_anti hr (fun b hb hm => by
    rcases List.mem_append.1 hm with h1 | h1
    · exact h1
    · rcases h.new b (hsub b h1) with h2 | h2
      · omega
      · exact h2)
  have h2 := e.rd_loc (w' := w) h1 (fun b hb hm => h.ext.block b hb (fun hin => hm (by simp [hin])))
  exact e.rd_anti h2 (fun b _ hm => by simp [hm])
theorem wh {L : List Res} : ∀ {idx : List Nat} {b : Nat}, b ∈ dF (kx L idx) → ∃ j ∈ idx, ∃ r, L[j]? = some r ∧ b ∈ r.F
  | [], b, h => by rw [sG] at h; simp [dF] at h
  | i :: is, b, h => by
    rw [kS, gX] at h
    rcases List.mem_append.1 h with h1 | h1
    · cases hi : L[i]? with
      | some r => rw [hi] at h1; exact ⟨i, by simp, r, hi, h1⟩
      | none => rw [hi] at h1; simp [Res.nil] at h1
    · obtain ⟨j, hj, r, hr, hb⟩ := wh h1
      exact ⟨j, by simp [hj], r, hr, hb⟩
theorem Hz {L : List Res} (hnd : (dF L).Nodup) {i j : Nat} {r s : Res} (hij : i ≠ j) (hi : L[i]? = some r) (hj : L[j]? = some s) {b : Nat} (hb : b ∈ r.F) (hs : b ∈ s.F) : False := by
  have hp := (Ce hi).nodup_iff.1 hnd
  rw [List.nodup_append] at hp
  refine hp.2.2 b hb b ?_ rfl
  have hj' : (L.set i Res.nil)[j]? = some s := by rw [List.getElem?_set_ne hij]; exact hj
  exact oG (List.mem_of_getElem? hj') hs
theorem rdO {α : Type} {e : Enc α} {x : α} {cs : List Value} {F : List Nat} (i : Nat) (idx : List Nat) {L' : List Res} (hL : kx L idx = L') (h : St w0 M L w) (hi : L[i]? = some (Res.own e F x cs)) (hd : idx.all (fun j => !(Nat.beq i j)) = true) : e.rd w (dF L') x cs := by
  subst hL
  refine e.own_rd (h.ok _ (List.mem_of_getElem? hi)) (fun b hb hm => ?_)
  obtain ⟨j, hj, r, hr, hbr⟩ := wh hm
  have := List.all_eq_true.1 hd j hj
  simp only [Bool.not_eq_true'] at this
  exact Hz h.nd (Nat.ne_of_beq_eq_false this) hi hr hb hbr
end
end Go.Vk
