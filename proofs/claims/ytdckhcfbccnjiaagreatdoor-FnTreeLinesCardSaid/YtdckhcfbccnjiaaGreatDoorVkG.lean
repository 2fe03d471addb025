/- Operations that make or write memory. -/
import Derived.Test.YtdckhcfbccnjiaaGreatDoorVkA
import Derived.Lib.AppendStr
import Derived.WalkSpells
import Derived.Deep.Upon
import Derived.Lib.Bytealg
namespace Go.Vk
open Go.RowKit
variable {P : Program} {n : Nat} {C : World → Prop} {E : Env} {m : Md} {l rest : List Oper} {w0 : World} {M : List Nat} {L : List Res} {Q : Exit → Act → World → Prop}
def Kp (m : Md) (C : World → Prop) : Prop := ∀ w, C w → m.keeps w
theorem kp {Q : Exit → Act → World → Prop} : Kp (.lex Q) C := fun _ _ => trivial
theorem nF {o : Oper} {a : Act} {K : Act → World → Prop} {w w' : World} {v : Value} (hr : (execOp a.eval o).run P w = .ok (.value v) w') (hK : K (a.put o.dst v) w') : o.wp P a w K Q := by
  unfold Oper.wp
  rw [hr]
  exact hK
theorem qX {o : Oper} {a : Act} {K : Act → World → Prop} {w w' : World} (hr : (execOp a.eval o).run P w = .ok .skip w') (hK : K (a.put o.dst undef) w') : o.wp P a w K Q := by
  unfold Oper.wp
  rw [hr]
  exact hK
theorem tH (w : World) (o : Obj) : Ext [] w (w.alloc o) := ⟨rfl, rfl, rfl, by simp, fun b hb _ => Below.heap_alloc w o b hb⟩
theorem yE {w : World} (h : St w0 M L w) (T : TypeId) (cs : List Value) : St w0 M (L ++ [Res.box w.heap.size T cs]) (w.alloc (.cells cs.toArray T)) :=
  h.push (tH w _) _ (heap_alloc_new w _) (by simp [Res.box]) (by simp [Res.box])
theorem uf {o : Oper} {v : Nat → Value} {T : TypeId} {cs : List Value} (hm : m.here (o :: rest) = true) (hw : wt l E o.guard = some true) (hd : gI n o.dst = true)
    (hr : ∀ a w, Fr n E a → (execOp a.eval o).run P w = .ok (.value (v w.heap.size)) (w.alloc (.cells cs.toArray T)))
    (hS : ∀ b, Kp m (St w0 M (L ++ [Res.box b T cs]))) (hk : ∀ b, OW P n l (St w0 M (L ++ [Res.box b T cs])) (upd E o.dst (v b)) m rest) : OW P n l (St w0 M L) E m (o :: rest) :=
  kR hm hw fun a w hF hC _ _ hK => nF (hr a w hF) (hK _ _ _ _ (hk w.heap.size) (hF.put _ _ (ax hd)) (yE hC T cs) (hS _ _ (yE hC T cs)))
theorem Bl {o : Oper} {T : TypeId} {x : Operand} {v : Value} {cs : List Value} (ho : o.op = .box T x) (hm : m.here (o :: rest) = true) (hw : wt l E o.guard = some true) (hd : gI n o.dst = true)
    (hx : ev E x = some v) (hv : v.cells = cs.toArray) (hS : ∀ b, Kp m (St w0 M (L ++ [Res.box b T cs]))) (hk : ∀ b, OW P n l (St w0 M (L ++ [Res.box b T cs])) (upd E o.dst (.pointer (some ⟨b, 0, none⟩))) m rest) : OW P n l (St w0 M L) E m (o :: rest) :=
  uf (v := fun b => .pointer (some ⟨b, 0, none⟩)) hm hw hd (fun a w hF => by unfold execOp; simp [ho, hF.ev hx, Instr.box, newVar, newRow, hv]) hS hk
theorem aC {o : Oper} {T : TypeId} {agg : Bool} {sz by_ : Nat} {z : List Value} (ho : o.op = .alloc T) (hm : m.here (o :: rest) = true) (hw : wt l E o.guard = some true) (hd : gI n o.dst = true)
    (ht : fp P T agg sz by_ z) (hS : ∀ b, Kp m (St w0 M (L ++ [Res.box b T z]))) (hk : ∀ b, OW P n l (St w0 M (L ++ [Res.box b T z])) (upd E o.dst (.pointer (some ⟨b, 0, none⟩))) m rest) : OW P n l (St w0 M L) E m (o :: rest) := by
  obtain ⟨i, zv, hi, _, _, hz, hzc⟩ := ht.info
  exact uf (v := fun b => .pointer (some ⟨b, 0, none⟩)) hm hw hd (fun a w hF => by unfold execOp; simp [ho, Instr.alloc, zeroValue, typeInfo, hi, hz, newVar, newRow, hzc]) hS hk
def fK (cs : List Value) (off : Nat) (vs : List Value) : List Value := cs.take off ++ vs ++ cs.drop (off + vs.length)
theorem xJ (vs : List Value) : ∀ (k off : Nat) (cs : Array Value), off + k + vs.length ≤ cs.size →
    (vs.zipIdx k).foldl (fun (a : Array Value) (x : Value × Nat) => a.setIfInBounds (off + x.2) x.1) cs = (fK cs.toList (off + k) vs).toArray := by
  induction vs with
  | nil => intro k off cs _; simp [fK]
  | cons v vs ih =>
    intro k off cs h
    simp only [List.length_cons] at h
    rw [List.zipIdx_cons, List.foldl_cons, ih (k + 1) off _ (by simp; omega)]
    apply Array.ext'
    simp only [Array.toList_setIfInBounds]
    simp only [fK, List.length_cons]
    apply List.ext_getElem?
    intro j
    have h1 : (cs.toList.set (off + k) v).length = cs.size := by simp
    have h2 : cs.toList.length = cs.size := by simp
    simp only [List.append_assoc, List.getElem?_append, List.length_take, List.getElem?_take, List.getElem?_set, List.getElem?_drop, h1, h2, List.length_cons]
    by_cases c1 : j < off + k
    · have : j < off + (k + 1) := by omega
      simp [Nat.min_eq_left (show off + k ≤ cs.size by omega), Nat.min_eq_left (show off + (k+1) ≤ cs.size by omega), c1, this, show ¬ off + k = j by omega]
    · by_cases c2 : j = off + k
      · subst c2
        simp [Nat.min_eq_left (show off + k ≤ cs.size by omega), Nat.min_eq_left (show off + (k+1) ≤ cs.size by omega), show off + k < off + (k + 1) by omega, show off + k < cs.size by omega]
      · have h3 : ¬ j < off + (k + 1) := by omega
        simp only [Nat.min_eq_left (show off + k ≤ cs.size by omega), Nat.min_eq_left (show off + (k+1) ≤ cs.size by omega), c1, h3, if_false]
        rw [show j - (off + k) = (j - (off + (k + 1))) + 1 by omega]
        simp only [List.getElem?_cons_succ]
        by_cases c3 : j - (off + (k + 1)) < vs.length
        · rw [if_pos c3, if_pos (by omega)]
        · rw [if_neg c3, if_neg (by omega)]
          rw [if_neg (by omega)]
          congr 1; omega
def tl : List Value → List (Nat × List Value) → List Value
  | cs, [] => cs
  | cs, (off, vs) :: r => tl (fK cs off vs) r
theorem oA {cs vs : List Value} {off : Nat} (h : off + vs.length ≤ cs.length) : (fK cs off vs).length = cs.length := by
  simp [fK]; omega
def sW (place : Nat → Option (Nat × Nat)) (len : Nat) : List (Nat × Value) → List (Nat × List Value) → Prop
  | [], [] => True
  | (i, v) :: r, (off, vs) :: s => place i = some (off, vs.length) ∧ v.cells = vs.toArray ∧ off + vs.length ≤ len ∧ sW place len r s
  | _, _ => False
theorem ri {place : Nat → Option (Nat × Nat)} {len : Nat} : ∀ {ps : List (Nat × Value)} {qs : List (Nat × List Value)} {cs : List Value}, cs.length = len → sW place len ps qs →
    Instr.fill place cs.toArray ps = some (tl cs qs).toArray
  | [], [], cs, _, _ => rfl
  | (i, v) :: r, (off, vs) :: s, cs, hl, h => by
    obtain ⟨h1, h2, h3, h4⟩ := h
    simp only [Instr.fill, h1, h2, List.size_toArray]
    rw [if_neg (by simp; omega)]
    have hf := xJ vs 0 off cs.toArray (by simpa [hl] using h3)
    simp only [Nat.add_zero] at hf
    have hz : (vs.toArray.zipIdx) = (vs.zipIdx).toArray := by simp
    rw [hz]
    have e : List.foldl (fun (a : Array Value) (x : Value × Nat) => a.setIfInBounds (off + x.2) x.1) cs.toArray vs.zipIdx = (fK cs off vs).toArray := hf
    simp only [List.foldl_toArray]
    rw [e]
    exact ri (by rw [oA (by omega)]; exact hl) h4
  | [], _ :: _, _, _, h => h.elim
  | _ :: _, [], _, _, h => h.elim
def qd (P : Program) (s : TypeId) (tab : List (Nat × Nat)) : Prop := ∃ fs, P.underlying s = some (.struct fs) ∧ fs.toList.mapM (fun f => (P.info? f.type).map fun i => (f.offset, i.size)) = some tab
theorem uY {a : Act} (hF : Fr n E a) : ∀ {ps : List (Nat × Operand)} {vs : List Value}, evs E (ps.map (·.2)) = some vs → (ps.toArray.map fun (i, x) => (i, a.eval x)).toList = (ps.map (·.1)).zip vs := by
  intro ps vs hx
  have hev := hF.evs hx
  rw [← hev]; clear hev hx
  simp only [List.map_toArray]
  induction ps with
  | nil => rfl
  | cons p ps ih => simp at ih ⊢; exact ih
theorem zA {o : Oper} {t : TypeId} {ps : List (Nat × Operand)} {vs : List Value} (qs : List (Nat × List Value)) {tab : List (Nat × Nat)} {sz by_ : Nat} {z : List Value} (ho : o.op = .build t ps.toArray) (hx : evs E (ps.map (·.2)) = some vs)
    (ht : fp P t true sz by_ z) (hs : qd P t tab) (hz : z.length = sz) (hp : sW (tab.toArray[·]?) sz ((ps.map (·.1)).zip vs) qs) : Ry P n C E o (.agg (tl z qs).toArray) := fun a hF w _ => by
  obtain ⟨i, zv, hi, _, _, hzv, hzc⟩ := ht.info
  obtain ⟨fs, hu, hm⟩ := hs
  have hb : P.built t (ps.toArray.map fun (i, x) => (i, a.eval x)).toList = some (tl z qs).toArray := by
    rw [uY hF hx]
    simp only [Program.built, hi, hu, hzv, hm, hzc]
    exact ri hz hp
  unfold execOp
  simp only [ho, Sem.run_bind, run_build w t _ _ hb]
  rfl
theorem il {o : Oper} {t et : TypeId} {len : Nat} {ps : List (Nat × Operand)} {vs : List Value} (qs : List (Nat × List Value)) {agg : Bool} {sz by_ : Nat} {z : List Value} (ho : o.op = .buildSlice t len ps.toArray) (hm : m.here (o :: rest) = true) (hw : wt l E o.guard = some true) (hd : gI n o.dst = true)
    (hx : evs E (ps.map (·.2)) = some vs) (ht : isSl P t et) (he : fp P et agg sz by_ z) (hpos : Nat.blt 0 (len * sz) = true) (hsm : Nat.ble (len * sz) 16777216 = true)
    (hp : sW (fun i => some (i * sz, sz)) (len * sz) ((ps.map (·.1)).zip vs) qs) (ds : List Value) (hds : tl ((List.range (len * sz)).map fun i => z[i % z.length]!) qs = ds)
    (hS : ∀ b, Kp m (St w0 M (L ++ [Res.box b et ds]))) (hk : ∀ b, OW P n l (St w0 M (L ++ [Res.box b et ds])) (upd E o.dst (.slice (some ⟨b, 0, none⟩) len len)) m rest) : OW P n l (St w0 M L) E m (o :: rest) := by
  obtain ⟨i, zv, hi, hsz, _, hzv, hzc⟩ := he.info
  have h0 : ¬ len * i.size = 0 := by have := Nat.le_of_ble_eq_true hpos; rw [hsz]; omega
  have h1 : ¬ len * i.size > 2 ^ 24 := by have := Nat.le_of_ble_eq_true hsm; rw [hsz]; omega
  subst hds
  refine uf (v := fun b => .slice (some ⟨b, 0, none⟩) len len) (cs := tl _ qs) hm hw hd (fun a w hF => ?_) hS hk
  have hf : Instr.fill (fun j => some (j * i.size, i.size)) ((Array.range (len * i.size)).map (zv.cells[· % zv.cells.size]!)) (ps.toArray.map fun (i, x) => (i, a.eval x)).toList =
      some (tl ((List.range (len * sz)).map fun i => z[i % z.length]!) qs).toArray := by
    rw [uY hF hx, hsz, hzc]
    have := ri (cs := (List.range (len * sz)).map fun i => z[i % z.length]!) (by simp) hp
    rw [← this]
    congr 1
    apply Array.ext'
    simp
  unfold execOp
  simp only [ho, Sem.run_bind, run_buildSlice w t et len _ _ i zv ht hi hzv h1 h0 hf]
  rfl
theorem vT {o : Oper} {t et : TypeId} {agg : Bool} {sz by_ : Nat} {z : List Value} (ho : o.op = .buildSlice t 0 #[]) (hm : m.here (o :: rest) = true) (hw : wt l E o.guard = some true) (hd : gI n o.dst = true)
    (ht : isSl P t et) (he : fp P et agg sz by_ z)
    (hS : ∀ b, Kp m (St w0 M (L ++ [Res.box b et []]))) (hk : ∀ b, OW P n l (St w0 M (L ++ [Res.box b et []])) (upd E o.dst (.slice (some ⟨b, 0, none⟩) 0 0)) m rest) : OW P n l (St w0 M L) E m (o :: rest) := by
  obtain ⟨i, zv, hi, hsz, _, hzv, hzc⟩ := he.info
  have ht' : P.underlying t = some (.slice et) := ht
  refine uf (v := fun b => .slice (some ⟨b, 0, none⟩) 0 0) (cs := []) hm hw hd (fun a w hF => ?_) hS hk
  unfold execOp
  simp [ho, Instr.buildSlice, run_underlying ht', sizeOf, typeInfo, hi, Instr.fill, newRow, Array.range_zero']
theorem xS {α : Type} {e : Enc α} {b : Nat} {T : TypeId} {w : World} (h : (Res.box b T []).ok w) : (Res.own (af e T) [b] [] [.slice (some ⟨b, 0, none⟩) 0 0]).ok w :=
  .inr ⟨b, 0, #[], [], [], rfl, rfl, h, Nat.le_refl _, by simp [maxLen], by simp, by simp, rfl, rfl⟩
theorem Ad {α : Type} {e : Enc α} {T : TypeId} {w : World} : (Res.own (af e T) [] [] [.slice none 0 0]).ok w := .inl ⟨rfl, rfl, rfl⟩
theorem Ay {α : Type} {val : α → Value} {h1 : ∀ x, (val x).oneCell' = true} {b : Nat} {T : TypeId} {w : World} (xs : List α) (hl : xs.length ≤ maxLen) (h : (Res.box b T (xs.map val)).ok w) :
    (Res.own (af (jf val h1) T) [b] xs [.slice (some ⟨b, 0, none⟩) xs.length xs.length]).ok w :=
  vw ⟨_, h, Nat.le_refl _, hl, by simp, by rw [List.take_of_length_le (by simp)]⟩
def mk {α : Type} (z : α) (n : Int) : Option (List α) := if 0 ≤ n ∧ n ≤ 68719476736 then some (List.replicate n.toNat z) else none
theorem cyc (z : List Value) (hz : 0 < z.length) : ∀ (N s : Nat), (List.range' (s * z.length) (N * z.length)).map (fun i => z[i % z.length]!) = (List.replicate N z).flatten
  | 0, s => by simp
  | N + 1, s => by
    have h : (N + 1) * z.length = z.length + N * z.length := by rw [Nat.add_mul]; omega
    rw [h, ← List.range'_append_1, List.map_append, List.replicate_succ, List.flatten_cons]
    congr 1
    · apply List.ext_getElem?
      intro q
      by_cases hq : q < z.length
      · simp [hq, Nat.add_mod, Nat.mod_eq_of_lt]
      · simp [hq]
    · have := cyc z hz N (s + 1)
      rw [Nat.add_mul, Nat.one_mul] at this
      exact this
theorem tq (z : List Value) (N : Nat) (hz : 0 < z.length) : (madeCells z.toArray (N * z.length)).toList = (List.replicate N z).flatten := by
  have := cyc z hz N 0
  rw [← this]
  simp [madeCells, List.range_eq_range']
theorem sV {α : Type} {e : Enc α} {zero : α} {z : List Value} {w : World} (hzl : z.length = e.sz) (hz : e.own w [] zero z) : ∀ N, fw e w [] (List.replicate N zero) (List.replicate N z).flatten
  | 0 => ⟨rfl, rfl⟩
  | N + 1 => ⟨[], [], z, _, rfl, by rw [List.replicate_succ, List.flatten_cons], hzl, hz, sV hzl hz N⟩
theorem pG {α : Type} {e : Enc α} {zero : α} {o : Oper} {t et : TypeId} {x y : Operand} {k k' : IntKind} {j : Int} {agg : Bool} {sz by_ : Nat} {z : List Value} {xs : List α} (ho : o.op = .makeSlice t x y) (hm : m.here (o :: rest) = true) (hw : wt l E o.guard = some true) (hd : gI n o.dst = true)
    (hx : ev E x = some (.int k j)) (hy : ev E y = some (.int k' j)) (ht : isSl P t et) (he : fp P et agg sz by_ z) (hby : Nat.ble by_ 2048 = true) (hsz : e.sz = sz) (hzl : z.length = sz) (hpos : Nat.blt 0 sz = true) (hz : ∀ w, e.own w [] zero z) (hj : mk zero j = some xs)
    (hS : ∀ b, Kp m (St w0 M (L ++ [Res.own (af e et) [b] xs [.slice (some ⟨b, 0, none⟩) xs.length xs.length]])))
    (hk : ∀ b, OW P n l (St w0 M (L ++ [Res.own (af e et) [b] xs [.slice (some ⟨b, 0, none⟩) xs.length xs.length]])) (upd E o.dst (.slice (some ⟨b, 0, none⟩) xs.length xs.length)) m rest) : OW P n l (St w0 M L) E m (o :: rest) := by
  obtain ⟨i, zv, hi, hs, hb, hzv, hzc⟩ := he.info
  unfold mk at hj
  split at hj
  · rename_i hjj
    obtain ⟨h0, h1⟩ := hjj
    simp only [Option.some.injEq] at hj
    have hlen : xs.length = j.toNat := by rw [← hj]; simp
    have hby' := Nat.le_of_ble_eq_true hby
    refine kR hm hw fun a w hF hC _ _ hK => ?_
    have hbytes : (i.bytes : Int) * j ≤ 281474976710656 := by
      rw [hb]
      have h2 : (by_ : Int) ≤ 2048 := by omega
      have : (by_ : Int) * j ≤ 2048 * 68719476736 := Int.mul_le_mul h2 h1 h0 (by omega)
      omega
    have hrun := run_make (P := P) w t et i zv ht hi hzv k k' j j h0 (Int.le_refl _) hbytes (by omega)
    rw [← hlen] at hrun
    have hown : (Res.own (af e et) [w.heap.size] xs [.slice (some ⟨w.heap.size, 0, none⟩) xs.length xs.length]).ok (w.alloc (.cells (madeCells zv.cells (xs.length * i.size)) et)) := by
      refine .inr ⟨_, _, _, [], _, rfl, rfl, heap_alloc_new w _, Nat.le_refl _, by simp only [maxLen]; omega, by rw [size_madeCells, hs, hsz], rfl, ?_⟩
      have hzp : 0 < z.length := by rw [hzl]; exact Nat.le_of_ble_eq_true hpos
      rw [List.take_of_length_le (by simp [size_madeCells, hs, hsz]), hs, hzc, ← hzl, tq z _ hzp]
      have := sV (e := e) (zero := zero) (w := w.alloc (.cells (madeCells z.toArray (xs.length * z.length)) et)) (by rw [hzl, hsz]) (hz _) xs.length
      rw [show List.replicate xs.length zero = xs from by rw [hlen, hj]] at this
      exact this
    have hst := hC.push (tH w (.cells (madeCells zv.cells (xs.length * i.size)) et)) _ hown (by simp [Res.own]) (by simp [Res.own])
    refine nF (w' := w.alloc (.cells (madeCells zv.cells (xs.length * i.size)) et)) ?_ (hK _ _ _ _ (hk w.heap.size) (hF.put _ _ (ax hd)) hst (hS _ _ hst))
    unfold execOp
    simp only [ho, hF.ev hx, hF.ev hy, Sem.run_bind, hrun]
    rfl
  · cases hj
theorem pC {t : TypeId} {agg : Bool} {sz by_ : Nat} {z : List Value} (ht : fp P t agg sz by_ z) {w : World} {b off : Nat} {T : TypeId} {cur : Array Value} {v : Value} {vs : List Value} (hb : w.heap[b]? = some (.cells cur T (0, 0))) (hv : v.cells = vs.toArray) (hl : vs.length = sz) (hfit : off + sz ≤ cur.size)
    (h1 : ∀ u ∈ vs, u.oneCell' = true) : (Instr.storeAt t (.pointer (some ⟨b, off, none⟩)) v).run P w = .ok () (w.setRow b (fK cur.toList off vs).toArray) := by
  obtain ⟨i, zv, hi, hs, _, _, _⟩ := ht.info
  have hst := run_storeCells_at P b off T vs 0 cur w hb (by simpa [hl] using hfit) h1
  simp only [Nat.add_zero] at hst
  have h3 : ¬ (vs.length ≠ i.size) := by rw [hl, hs]; simp
  simp [Instr.storeAt, Instr.sureAddr, storeVar, sizeOf, typeInfo, hi, hv, hl, hs, hst, fK]
theorem pZ {w : World} {b : Nat} {cur cs : Array Value} {T : TypeId} {fr : Nat × Nat} (_hb : w.heap[b]? = some (.cells cur T fr)) : Ext [b] w (w.setRow b cs) :=
  ⟨rfl, rfl, rfl, by simp, fun k _ hk => setRow_other w b k _ (by simpa using hk)⟩
theorem yT {o : Oper} {t : TypeId} {x y : Operand} {b off : Nat} {v : Value} (vs : List Value) {agg : Bool} {sz by_ : Nat} {z : List Value} {i : Nat} {T : TypeId} {cs : List Value} (ho : o.op = .store t x y) (hm : m.here (o :: rest) = true) (hw : wt l E o.guard = some true) (hd : gI n o.dst = true)
    (hx : ev E x = some (.pointer (some ⟨b, off, none⟩))) (hy : ev E y = some v) (ht : fp P t agg sz by_ z) (hv : v.cells = vs.toArray) (hl : vs.length = sz) (h1 : ∀ u ∈ vs, u.oneCell' = true) (hr : L[i]? = some (Res.box b T cs)) (hfit : Nat.ble (off + sz) cs.length = true)
    (hS : Kp m (St w0 M (L.set i (Res.box b T (fK cs off vs))))) (hk : OW P n l (St w0 M (L.set i (Res.box b T (fK cs off vs)))) (upd E o.dst undef) m rest) : OW P n l (St w0 M L) E m (o :: rest) :=
  kR hm hw fun a w hF hC _ _ hK => by
    have hb : w.heap[b]? = some (.cells cs.toArray T (0, 0)) := hC.ok _ (List.mem_of_getElem? hr)
    have hrun := pC ht hb hv hl (by simpa using Nat.le_of_ble_eq_true hfit) h1
    simp only at hrun
    have hst : St w0 M (L.set i (Res.box b T (fK cs off vs))) (w.setRow b (fK cs off vs).toArray) :=
      hC.upd hr (pZ hb) (Res.box b T (fK cs off vs)) (setRow_heap w b _ _ T _ hb) (by simp [Res.box])
        (fun c hc => by
          have : c = b := by simpa [Res.box] using hc
          subst this
          exact ⟨by simpa using (Array.getElem?_eq_some_iff.1 hb).1, .inl (by simp [Res.box])⟩)
    refine qX ?_ (hK _ _ _ _ hk (hF.put _ _ (ax hd)) hst (hS _ hst))
    unfold execOp
    simp only [ho, hF.ev hx, hF.ev hy, Sem.run_bind, hrun]
    rfl
end Go.Vk
/- append, strings, slices of slices. -/
namespace Go.Vk
open Go.RowKit
variable {P : Program} {n : Nat} {C : World → Prop} {E : Env} {m : Md} {l rest : List Oper} {w0 : World} {M : List Nat} {L : List Res} {Q : Exit → Act → World → Prop}
def app {α : Type} (xs ys : List α) : Option (List α) := if xs.length + ys.length ≤ 68719476736 then some (xs ++ ys) else none
theorem qG {α : Type} {xs ys zs : List α} (h : app xs ys = some zs) : zs = xs ++ ys ∧ xs.length + ys.length ≤ 68719476736 := by
  unfold app at h
  split at h
  · exact ⟨(Option.some.inj h).symm, ‹_›⟩
  · cases h
theorem AB {α : Type} {e : Enc α} {T : TypeId} {w : World} {F : List Nat} {xs : List α} {v : Value} (h : lQ e T w F xs [v]) :
    ∃ ds F1, w.ownsRow 0 T e.sz v xs.length ds ∧ fw e w F1 xs ds ∧ ((F = [] ∧ F1 = [] ∧ xs = [] ∧ v = .slice none 0 0) ∨ ∃ b, F = b :: F1 ∧ v.ownBlock = some b) := by
  rcases h with ⟨rfl, rfl, hv⟩ | ⟨b, cap, cur, F1, ds, rfl, hcs, hh, h1, h2, h3, h4, h5⟩
  · simp only [List.cons.injEq, and_true] at hv
    subst hv
    exact ⟨[], [], World.ownsRow_nil w 0 T e.sz, ⟨rfl, rfl⟩, .inl ⟨rfl, rfl, rfl, rfl⟩⟩
  · simp only [List.cons.injEq, and_true] at hcs
    subst hcs
    exact ⟨ds, F1, ⟨qe h5, .inr ⟨b, cap, cur, rfl, Nat.zero_le _, hh, h1, h2, h3, h4⟩⟩, h5, .inr ⟨b, rfl, rfl⟩⟩
theorem zV {α : Type} {e : Enc α} {T : TypeId} {w : World} {F1 : List Nat} {xs : List α} {v : Value} {ds : List Value} (h : w.ownsRow 0 T e.sz v xs.length ds) (ha : fw e w F1 xs ds) (hnil : v = .slice none 0 0 → F1 = []) :
    ∃ F, lQ e T w F xs [v] ∧ ((F = [] ∧ v = .slice none 0 0) ∨ ∃ b, F = b :: F1 ∧ v.ownBlock = some b) := by
  rcases h.2 with ⟨rfl, hn⟩ | ⟨b, cap, cur, rfl, _, hh, h1, h2, h3, h4⟩
  · have hx := List.eq_nil_of_length_eq_zero hn
    subst hx
    exact ⟨[], .inl ⟨rfl, rfl, rfl⟩, .inl ⟨rfl, rfl⟩⟩
  · exact ⟨b :: F1, .inr ⟨b, cap, cur, F1, ds, rfl, rfl, hh, h1, h2, h3, h4, ha⟩, .inr ⟨b, rfl, rfl⟩⟩
theorem pz {α : Type} {e : Enc α} {t ty et : TypeId} {agg : Bool} {sz by_ : Nat} {z : List Value} (ht : isSl P t et) (he : fp P et agg sz by_ z) (hby : Nat.ble by_ 2048 = true) (hsz : e.sz = sz) (hpos : Nat.blt 0 sz = true) (hzl : z.length = sz)
    {w : World} {F Fy : List Nat} {xs ys : List α} {v : Value} (hown : lQ e et w F xs [v]) {p : Addr} {mm cap : Nat} {news : List Value} (hm : mm = ys.length) (hA : At w [] p news) (hnew : fw e w Fy ys news)
    (hlen : xs.length + ys.length ≤ 68719476736) (hnd : (F ++ Fy).Nodup) (hdis : ∀ b, v.ownBlock = some b → b ∉ Fy) :
    ∃ v' w' F', (Builtin.append_ #[t, t] ty #[v, .slice (some p) mm cap]).run P w = .ok v' w' ∧ lQ e et w' F' (xs ++ ys) [v'] ∧ Ext F w w' ∧ F'.Nodup ∧ (∀ b ∈ F', b < w'.heap.size ∧ (b ∈ F ∨ b ∈ Fy ∨ w.heap.size ≤ b)) := by
  obtain ⟨i, zv, hi, hs, hb, hzv, hzc⟩ := he.info
  obtain ⟨ds, F1, hrow, hall, hF⟩ := AB hown
  have hby' := Nat.le_of_ble_eq_true hby
  have hsp : 0 < i.size := by rw [hs]; exact Nat.le_of_ble_eq_true hpos
  have hbytes : (xs.length + ys.length) * i.bytes ≤ 140737488355328 := by
    rw [hb]
    calc (xs.length + ys.length) * by_ ≤ 68719476736 * 2048 := Nat.mul_le_mul hlen hby'
      _ ≤ 140737488355328 := by omega
  have hl' : news.length = ys.length * e.sz := qe hnew
  obtain ⟨v', w', hrun, hown', hgr, hnil⟩ := run_append_own (P := P) w 0 t ty et i zv e.sz i.bytes ht hi hzv (by rw [hs, hsz]) rfl (by rw [hzc]; simp [hzl, hsz]) (by rw [hsz, ← hs]; exact hsp) v xs.length ds hrow p mm cap news
    (by rw [hm]; exact hl') hA.2 (sI hnew) (by rw [hm]; simp only [maxLen]; omega) (by rw [hm]; exact hbytes) (Nat.zero_le _)
  have hvb : v' = .slice none 0 0 ∨ v'.ownBlock = v.ownBlock ∨ v'.ownBlock = some w.heap.size := by
    have hnl : news.length = mm * i.size := by rw [hm, hs, ← hsz]; exact hl'
    rcases hrow.2 with ⟨hv, hn0⟩ | ⟨g, cp, cur, hv, _, hg, h1, h2, h3, h4⟩
    · by_cases h0 : mm = 0
      · exact .inl (hnil.2 ⟨hv, h0⟩)
      · subst hv
        have hr := run_append_nil (P := P) w t ty et i zv ht hi hzv p mm cap news hnl hA.2 (by omega) (by rw [hm]; omega) (by
          have : ys.length * i.bytes ≤ (xs.length + ys.length) * i.bytes := Nat.mul_le_mul_right _ (by omega)
          rw [hm]; omega)
        rw [hr] at hrun
        cases hrun
        exact .inr (.inr rfl)
    · subst hv
      by_cases hroom : xs.length + mm ≤ cp
      · have hfit : xs.length * i.size + news.length ≤ cur.size := by
          rw [hnl, h3, hs, hsz, ← Nat.add_mul]; exact Nat.mul_le_mul_right _ hroom
        have hr := run_append_room (P := P) w t ty et i ht hi g xs.length cp cur hg p mm cap news hnl hA.2 (sI hnew) hroom hfit
        rw [hr] at hrun
        cases hrun
        exact .inr (.inl rfl)
      · have hr := run_append_grow (P := P) w t ty et i zv ht hi hzv ⟨g, 0, none⟩ xs.length cp ds (by rw [qe hall, hs, hsz]) (hrow.cells (g := g) rfl) p mm cap news hnl hA.2 (by omega) (by rw [hm]; omega) (growslice_fits (by omega) (by rw [hm]; exact hbytes))
        rw [hr] at hrun
        cases hrun
        exact .inr (.inr rfl)
  have hvF : ∀ b, v.ownBlock = some b → b ∈ F := by
    intro b hb
    rcases hF with ⟨_, _, _, rfl⟩ | ⟨c, rfl, hc⟩
    · cases hb
    · rw [hc] at hb; cases hb; simp
  have hext : Ext F w w' := ⟨hgr.os, hgr.tape, hgr.output, hgr.size, fun b hb hn => hgr.block b hb (fun e => hn (hvF b e.symm))⟩
  have hF1 : ∀ b ∈ F1, b ∈ F := by
    intro b hb
    rcases hF with ⟨_, rfl, _, _⟩ | ⟨c, rfl, _⟩
    · cases hb
    · exact List.mem_cons_of_mem _ hb
  have hndF : F.Nodup := (List.nodup_append.1 hnd).1
  have hvF1 : ∀ b ∈ F1, some b ≠ v.ownBlock := by
    intro b hb e
    rcases hF with ⟨_, rfl, _, _⟩ | ⟨c, rfl, hc⟩
    · cases hb
    · rw [hc] at e; cases e
      exact (List.nodup_cons.1 hndF).1 hb
  have hlt : ∀ b ∈ F, b < w.heap.size := fun b hb => (af e et).own_lt hown b hb
  have hlty := tI hnew
  have hall' : fw e w' (F1 ++ Fy) (xs ++ ys) (ds ++ news) :=
    pU (kC hall (fun b hb => hgr.block b (hlt b (hF1 b hb)) (hvF1 b hb))) (kC hnew (fun b hb => hgr.block b (hlty b hb) (fun e => hdis b e.symm hb)))
  rw [hm] at hown'
  rw [← List.length_append] at hown'
  obtain ⟨F', ho, hF'⟩ := zV hown' hall' (fun hv => by
    obtain ⟨h1, h2⟩ := hnil.1 hv
    rw [hm] at h2
    have := List.eq_nil_of_length_eq_zero h2
    subst this
    rcases hF with ⟨_, rfl, _, _⟩ | ⟨c, _, hc⟩
    · rw [hnew.1]; rfl
    · rw [h1] at hc; cases hc)
  refine ⟨v', w', F', hrun, ho, hext, ?_, ?_⟩
  · rcases hF' with ⟨rfl, _⟩ | ⟨b, rfl, hb⟩
    · simp
    · have hnd1 : (F1 ++ Fy).Nodup := by
        rcases hF with ⟨_, rfl, _, _⟩ | ⟨c, rfl, _⟩
        · exact (List.nodup_append.1 hnd).2.1
        · exact (List.nodup_cons.1 hnd).2
      refine List.nodup_cons.2 ⟨fun hin => ?_, hnd1⟩
      rcases hvb with h1 | h1 | h1
      · rw [h1] at hb; cases hb
      · rw [hb] at h1
        rcases List.mem_append.1 hin with h2 | h2
        · exact hvF1 b h2 h1
        · exact hdis b h1.symm h2
      · rw [hb] at h1; cases h1
        rcases List.mem_append.1 hin with h2 | h2
        · have := hlt _ (hF1 _ h2); omega
        · have := hlty _ h2; omega
  · intro b hb
    refine ⟨(af e et).own_lt ho b hb, ?_⟩
    rcases hF' with ⟨rfl, _⟩ | ⟨c, rfl, hc⟩
    · cases hb
    · cases hb with
      | head =>
        rcases hvb with h1 | h1 | h1
        · rw [h1] at hc; cases hc
        · rw [hc] at h1; exact .inl (hvF b h1.symm)
        · rw [hc] at h1; cases h1; exact .inr (.inr (Nat.le_refl _))
      | tail _ hb =>
        rcases List.mem_append.1 hb with h2 | h2
        · exact .inl (hF1 b h2)
        · exact .inr (.inl h2)
def hZ (xs : List Int) : List UInt8 := xs.map fun n => UInt8.ofNat n.toNat
theorem vo {α : Type} {val : α → Value} {h1 : ∀ x, (val x).oneCell' = true} {w : World} {X : List Nat} {xs : List α} {p : Addr} {nn cap : Nat} (h : ig (jf val h1) w X xs [.slice (some p) nn cap]) : nn = xs.length ∧ At w X p (xs.map val) := by
  obtain ⟨a, cap', hv, hle, hc, hel⟩ := h
  simp only [List.cons.injEq, Value.slice.injEq, and_true] at hv
  obtain ⟨rfl, rfl, rfl⟩ := hv
  refine ⟨rfl, ?_⟩
  by_cases hne : xs = []
  · subst hne
    exact ⟨fun h => absurd rfl h, fun j v hv => by simp at hv⟩
  · obtain ⟨q, hq, hp⟩ := hel hne
    cases hq
    refine ⟨fun _ => ?_, fun j v hv => ?_⟩
    · obtain ⟨x, hx⟩ : ∃ x, xs[0]? = some x := by cases xs with | nil => exact absurd rfl hne | cons x _ => exact ⟨x, rfl⟩
      obtain ⟨ds, hd, hA⟩ := hp 0 x hx
      have hd' : ds = [val x] := hd
      subst hd'
      have := hA.1 (by simp)
      rwa [lz] at this
    · rw [List.getElem?_map] at hv
      cases hx : xs[j]? with
      | none => rw [hx] at hv; cases hv
      | some x =>
        rw [hx] at hv
        obtain ⟨ds, hd, hA⟩ := hp j x hx
        have hd' : ds = [val x] := hd
        subst hd'
        have := hA.2 0 (val x) rfl
        simp only [jf, Nat.mul_one, dD] at this
        rw [this, ← hv]; rfl
theorem wa {o : Oper} {s t et : TypeId} {x : Operand} {xs : List Int} {v : Value} (ho : o.op = .convert s t x) (hx : ev E x = some v) (hs : isSl P s et) (he : rA P et .u8) (ht : tM P t) (hr : Rds C (af eU8 et) xs [v]) : Ry P n C E o (vS (hZ xs)) := fun a hF w hC => by
  obtain ⟨ad, cap, rfl⟩ : ∃ ad cap, v = .slice ad xs.length cap := by
    obtain ⟨ad, cap, hv, _⟩ := hr w hC
    exact ⟨ad, cap, by simpa using hv⟩
  have ht' : P.underlying t = some .string := ht
  have hc := run_convert_bytes_string (P := P) w s t et ad xs.length cap hs he ht'
  unfold execOp
  simp only [ho, hF.ev hx, Sem.run_bind, hc]
  cases ad with
  | none =>
    obtain ⟨ad', cap', hv, hle, _, hel⟩ := hr w hC
    have hxs : xs = [] := by
      by_cases hne : xs = []
      · exact hne
      · obtain ⟨p, hp, _⟩ := hel hne
        subst hp
        simp at hv
    subst hxs
    simp [Conv.bytesToString, vS, hZ]
    rfl
  | some p =>
    obtain ⟨_, hA⟩ := vo (hr w hC)
    have hl := run_loadCells_list (P := P) w p (xs.map (Value.int .u8)) hA.2
    rw [List.length_map] at hl
    have hrun := run_bytesToString (P := P) w p xs.length cap xs hl
    rw [hrun, foldl_push_bytes]
    simp [vS, hZ]
def rn (a b : List UInt8) : Option (List UInt8) := if a.length + b.length ≤ 68719476736 then some (a ++ b) else none
theorem lP {o : Oper} {t u : TypeId} {x y : Operand} {a b c : List UInt8} (ho : o.op = .binOp .add t x y u) (hx : ev E x = some (vS a)) (hy : ev E y = some (vS b)) (h : rn a b = some c) : Ry P n C E o (vS c) := fun fr hF w _ => by
  unfold rn at h
  split at h
  · rename_i hl
    simp only [Option.some.injEq] at h; subst h
    have hr := run_string_add_sum (P := P) w ⟨a.toArray⟩ ⟨b.toArray⟩ (by simp [ByteArray.size]; omega)
    unfold execOp
    simp only [ho, hF.ev hx, hF.ev hy, vS, eqGuard_at_string, binOp_string_add, Sem.run_bind, Sem.run_pure, Result.andThen_ok, hr, ByteArray.mk_append_mk]
  · cases h
def sub {α : Type} (xs : List α) (lo hi : Int) : Option (List α) := if 0 ≤ lo ∧ lo ≤ hi ∧ hi ≤ xs.length then some ((xs.drop lo.toNat).take (hi.toNat - lo.toNat)) else none
theorem pc {α : Type} {xs ys : List α} {lo hi : Int} (h : sub xs lo hi = some ys) : 0 ≤ lo ∧ lo ≤ hi ∧ hi ≤ xs.length ∧ ys = (xs.drop lo.toNat).take (hi.toNat - lo.toNat) := by
  unfold sub at h
  split at h
  · rename_i hc; exact ⟨hc.1, hc.2.1, hc.2.2, (Option.some.inj h).symm⟩
  · cases h
def bnd (E : Env) : Option Operand → Int → Option Int
  | none, d => some d
  | some x, _ => match ev E x with | some (.int _ j) => some j | _ => none
theorem rg {a : Act} (hF : Fr n E a) {x : Option Operand} {d j : Int} (h : bnd E x d = some j) : (x = none ∧ j = d) ∨ ∃ y k, x = some y ∧ a.eval y = .int k j := by
  cases x with
  | none => exact .inl ⟨rfl, (Option.some.inj h).symm⟩
  | some y =>
    simp only [bnd] at h
    split at h
    · rename_i k q hy
      simp only [Option.some.injEq] at h; subst h
      exact .inr ⟨y, k, rfl, hF.ev hy⟩
    · cases h
theorem qj {isSl : Bool} {len cap : Nat} {lo hi : Option Value} {i j : Int} (hlo : (lo = none ∧ i = 0) ∨ ∃ k, lo = some (.int k i)) (hhi : (hi = none ∧ j = len) ∨ ∃ k, hi = some (.int k j)) (h0 : 0 ≤ i) (h1 : i ≤ j) (h2 : j ≤ len) (hc : len ≤ cap) (_hs : isSl = false → cap = len) (w : World) :
    (Instr.sliceBounds isSl len cap lo hi none).run P w = .ok (i.toNat, j.toNat, cap) w := by
  have hb : ∀ (k : IntKind) (q : Int) (y : Nat) (c : BoundsCode), 0 ≤ q → q ≤ y → (Instr.sliceBound (.int k q) y c).run P w = .ok q.toNat w := by
    intro k q y c hq hy
    simp [Instr.sliceBound, asIntOf, hq, hy]
  rcases hhi with ⟨rfl, rfl⟩ | ⟨k, rfl⟩
  · rcases hlo with ⟨rfl, rfl⟩ | ⟨k', rfl⟩
    · simp [Instr.sliceBounds]
    · simp [Instr.sliceBounds, hb k' i len .sliceB h0 h1]
  · have h4 := hb k j cap (if isSl = true then BoundsCode.sliceAcap else BoundsCode.sliceAlen) (by omega) (by omega)
    rcases hlo with ⟨rfl, rfl⟩ | ⟨k', rfl⟩
    · simp [Instr.sliceBounds, h4]
    · have h5 := hb k' i j.toNat .sliceB h0 (by omega)
      simp [Instr.sliceBounds, h4, h5]
theorem zR {o : Oper} {t : TypeId} {x : Operand} {lo hi : Option Operand} {s r : List UInt8} {i j : Int} (ho : o.op = .slice t x lo hi none) (hx : ev E x = some (vS s)) (ht : tM P t) (hi' : bnd E lo 0 = some i) (hj' : bnd E hi s.length = some j) (h : sub s i j = some r) : Ry P n C E o (vS r) := fun a hF w _ => by
  obtain ⟨h0, h1, h2, rfl⟩ := pc h
  have ht' : P.underlying t = some .string := ht
  have hlo : (lo.map a.eval = none ∧ i = 0) ∨ ∃ k, lo.map a.eval = some (.int k i) := by
    rcases rg hF hi' with ⟨rfl, rfl⟩ | ⟨y, k, rfl, hy⟩
    · exact .inl ⟨rfl, rfl⟩
    · exact .inr ⟨k, by simp [hy]⟩
  have hhi : (hi.map a.eval = none ∧ j = s.length) ∨ ∃ k, hi.map a.eval = some (.int k j) := by
    rcases rg hF hj' with ⟨rfl, rfl⟩ | ⟨y, k, rfl, hy⟩
    · exact .inl ⟨rfl, rfl⟩
    · exact .inr ⟨k, by simp [hy]⟩
  have hb := qj (P := P) (isSl := false) (len := s.length) (cap := s.length) hlo hhi h0 h1 h2 (Nat.le_refl _) (fun _ => rfl) w
  have hsz : (⟨s.toArray⟩ : ByteArray).size = s.length := rfl
  unfold execOp
  simp [ho, hF.ev hx, Instr.sliceAt, Instr.slice, run_underlying ht', vS, hsz, hb, ByteArray.extract_mk]
theorem wT {α : Type} {e : Enc α} {o : Oper} {t et : TypeId} {x : Operand} {lo hi : Option Operand} {xs ys : List α} {v : Value} {i j : Int} {agg : Bool} {sz by_ : Nat} {z : List Value} (ho : o.op = .slice t x lo hi none) (hw : wt l E o.guard = some true) (hd : gI n o.dst = true) (hx : ev E x = some v) (ht : isSl P t et) (he : fp P et agg sz by_ z) (hsz : e.sz = sz)
    (hi' : bnd E lo 0 = some i) (hj' : bnd E hi xs.length = some j) (h : sub xs i j = some ys) (hr : ig e w0 M xs [v]) (hk : ∀ v', ig e w0 M ys [v'] → OW P n l C (upd E o.dst v') m rest) : OW P n l C E m (o :: rest) := by
  obtain ⟨h0, h1, h2, rfl⟩ := pc h
  obtain ⟨a, cap, hv, hle, hc, hel⟩ := hr
  simp only [List.cons.injEq, and_true] at hv
  subst hv
  obtain ⟨ti, zv, hti, hs, _, _, _⟩ := he.info
  have ht' : P.underlying t = some (.slice et) := ht
  have hylen : ((xs.drop i.toNat).take (j.toNat - i.toNat)).length = j.toNat - i.toNat := by simp; omega
  refine vD hw (ax hd) (v := .slice (if cap = i.toNat then a else a.map (·.add (i.toNat * sz))) (j.toNat - i.toNat) (cap - i.toNat)) (fun fr hF w _ => ?_) (hk _ ?_)
  · have hlo : (lo.map fr.eval = none ∧ i = 0) ∨ ∃ k, lo.map fr.eval = some (.int k i) := by
      rcases rg hF hi' with ⟨rfl, rfl⟩ | ⟨y, k, rfl, hy⟩
      · exact .inl ⟨rfl, rfl⟩
      · exact .inr ⟨k, by simp [hy]⟩
    have hhi : (hi.map fr.eval = none ∧ j = xs.length) ∨ ∃ k, hi.map fr.eval = some (.int k j) := by
      rcases rg hF hj' with ⟨rfl, rfl⟩ | ⟨y, k, rfl, hy⟩
      · exact .inl ⟨rfl, rfl⟩
      · exact .inr ⟨k, by simp [hy]⟩
    have hb := qj (P := P) (isSl := true) (len := xs.length) (cap := cap) hlo hhi h0 h1 h2 hle (fun h => by cases h) w
    unfold execOp
    simp [ho, hF.ev hx, Instr.sliceAt, Instr.slice, run_underlying ht', hb, sizeOf, typeInfo, hti, hs]
  · refine ⟨_, cap - i.toNat, by rw [hylen], by rw [hylen]; omega, by omega, fun hne => ?_⟩
    have hxs : xs ≠ [] := fun e => by subst e; simp at hne
    obtain ⟨p, rfl, hp⟩ := hel hxs
    have hlt : i.toNat < cap := by
      have : 0 < ((xs.drop i.toNat).take (j.toNat - i.toNat)).length := List.length_pos_iff.2 hne
      rw [hylen] at this; omega
    rw [if_neg (by omega)]
    refine ⟨p.add (i.toNat * sz), rfl, fun q x hq => ?_⟩
    rw [List.getElem?_take] at hq
    split at hq
    · rw [List.getElem?_drop] at hq
      obtain ⟨ds, hd', hA⟩ := hp _ x hq
      refine ⟨ds, hd', ?_⟩
      have hmul : i.toNat * sz + q * sz = (i.toNat + q) * sz := by rw [Nat.add_mul]
      rw [hsz] at hA ⊢
      rw [eg, hmul]
      exact hA
    · cases hq
theorem BH {o : Oper} {t et u : TypeId} {x : Operand} {a : Option Addr} {nn cap : Nat} (ho : o.op = .binOp .eql t x (.const (.slice none 0 0)) u) (hx : ev E x = some (.slice a nn cap)) (ht : isSl P t et) : Ry P n C E o (.bool a.isNone) := fun fr hF w _ => by
  have ht' : P.underlying t = some (.slice et) := ht
  have hc : fr.eval (.const (.slice none 0 0)) = .slice none 0 0 := rfl
  have hn := Lib.run_eql_slice_nil (P := P) w t et a nn cap 0 0 ht'
  unfold execOp
  simp only [ho, hF.ev hx, hc, eqGuard_at_slice, Sem.run_bind, Sem.run_pure, Result.andThen_ok, hn]
end Go.Vk
/- Own slices by address, calls with results of their own, joins. -/
namespace Go.Vk
open Go.RowKit
variable {P : Program} {n : Nat} {C : World → Prop} {E : Env} {m : Md} {l rest : List Oper} {w0 : World} {M : List Nat} {L : List Res} {Q : Exit → Act → World → Prop}
theorem zt : ∃ n : Nat, 1000000000000 ≤ n := ⟨_, Nat.le_refl _⟩
noncomputable def bh : Nat := Classical.choose zt
theorem eY {n : Nat} (h : n < 1000000000000) : n < bh := Nat.lt_of_lt_of_le h (Classical.choose_spec zt)
def sf (a : Option Addr) (k : Nat) : Addr := (a.getD ⟨0, 0, none⟩).add k
theorem au {α : Type} {e : Enc α} {F : List Nat} {xs : α} {cs : List Value} {r : Nat} (hr : L[r]? = some (Res.own e F xs cs)) : ∀ w, St w0 M L w → e.rd w [] xs cs :=
  fun w hw => e.own_rd (hw.ok _ (List.mem_of_getElem? hr)) (by simp)
theorem ab {α : Type} {e : Enc α} {xs : α} {cs : List Value} (h : e.rd w0 M xs cs) : ∀ w, St w0 M L w → e.rd w [] xs cs := Rds.bor h
theorem Ac {α : Type} {e : Enc α} {w : World} {X : List Nat} : ig e w X [] [.slice none 0 0] := ⟨none, 0, rfl, by simp, by simp [maxLen], fun h => absurd rfl h⟩
theorem jK {α : Type} {val : α → Value} {h1 : ∀ x, (val x).oneCell' = true} {o : Oper} {t : TypeId} {x y : Operand} {a : Option Addr} {j : Int} {nn cap : Nat} {u : α} {sz by_ : Nat} {z : List Value} {i : Nat} {T : TypeId} {xs : List α} {F : List Nat} {u0 : α} (ho : o.op = .store t x y) (hm : m.here (o :: rest) = true) (hw : wt l E o.guard = some true) (hd : gI n o.dst = true)
    (hx : ev E x = some (.pointer (some (sf a j.toNat)))) (hy : ev E y = some (val u)) (ht : fp P t false sz by_ z) (hr : L[i]? = some (Res.own (af (jf val h1) T) F xs [.slice a nn cap])) (hj : idx xs j = some u0) (hvc : ∀ u, (val u).cells = #[val u])
    (hS : Kp m (St w0 M (L.set i (Res.own (af (jf val h1) T) F (xs.set j.toNat u) [.slice a nn cap]))))
    (hk : OW P n l (St w0 M (L.set i (Res.own (af (jf val h1) T) F (xs.set j.toNat u) [.slice a nn cap]))) (upd E o.dst undef) m rest) : OW P n l (St w0 M L) E m (o :: rest) :=
  kR hm hw fun fr w hF hC _ _ hK => by
    obtain ⟨_, hlt, _⟩ := dg hj
    generalize hjj : j.toNat = jj at *
    rcases yC (hC.ok _ (List.mem_of_getElem? hr)) with ⟨rfl, _, _⟩ | ⟨b, cap', rfl, hv, cur, hb, h2, h3, h4, h5⟩
    · simp at hlt
    · simp only [Value.slice.injEq] at hv
      obtain ⟨rfl, rfl, rfl⟩ := hv
      have h6 := ht.one rfl
      subst h6
      have hp : sf (some ⟨b, 0, none⟩) jj = ⟨b, jj, none⟩ := by simp [sf, dG]
      rw [hp] at hx
      have hrun := pC (vs := [val u]) ht hb (hvc u) rfl (off := jj) (by omega) (by simp [h1])
      have hfl : zD val T b cap (xs.set jj u) (w.setRow b (fK cur.toList jj [val u]).toArray) := by
        refine ⟨_, setRow_heap w b _ _ T _ hb, by simpa using h2, h3, ?_, ?_⟩
        · simp only [List.size_toArray]; rw [oA (by simp; omega)]; simpa using h4
        · apply List.ext_getElem?
          intro q
          have h7 : (cur.toList.take xs.length)[q]? = (xs.map val)[q]? := by rw [h5]
          simp only [List.length_set, List.getElem?_take, List.getElem?_map, List.getElem?_set] at h7 ⊢
          by_cases hq : q < xs.length
          · simp only [hq, if_true] at h7 ⊢
            by_cases hqj : jj = q
            · subst hqj
              simp [fK, hlt, Nat.min_eq_left (show jj ≤ cur.size by omega)]
            · simp only [hqj, if_false]
              rw [← h7]
              simp only [fK, List.getElem?_append, List.length_take, List.getElem?_take, List.length_append, List.length_singleton, List.getElem?_drop, Array.length_toList, Nat.min_eq_left (show jj ≤ cur.size by omega)]
              by_cases c1 : q < jj
              · simp [c1, show q < jj + 1 by omega]
              · simp only [show ¬ q < jj + 1 by omega, if_false]
                congr 1; omega
          · have : jj ≠ q := by omega
            simp [hq, this]
      have hst : St w0 M (L.set i (Res.own (af (jf val h1) T) [b] (xs.set jj u) [.slice (some ⟨b, 0, none⟩) xs.length cap])) (w.setRow b (fK cur.toList jj [val u]).toArray) := by
        refine hC.upd hr (pZ hb) _ ?_ (by simp [Res.own]) (fun c hc => ?_)
        · have := vw (h1 := h1) hfl
          rwa [List.length_set] at this
        · have : c = b := by simpa [Res.own] using hc
          subst this
          exact ⟨by simpa using (Array.getElem?_eq_some_iff.1 hb).1, .inl (by simp [Res.own])⟩
      refine qX ?_ (hK _ _ _ _ hk (hF.put _ _ (ax hd)) hst (hS _ hst))
      unfold execOp
      simp only [ho, hF.ev hx, hF.ev hy, Sem.run_bind, hrun]
      rfl
theorem bA {α : Type} {val : α → Value} {h1 : ∀ x, (val x).oneCell' = true} {o : Oper} {t et : TypeId} {len : Nat} {ps : List (Nat × Operand)} {vs : List Value} (xs : List α) (qs : List (Nat × List Value)) {agg : Bool} {sz by_ : Nat} {z : List Value} (ho : o.op = .buildSlice t len ps.toArray) (hm : m.here (o :: rest) = true) (hw : wt l E o.guard = some true) (hd : gI n o.dst = true)
    (hx : evs E (ps.map (·.2)) = some vs) (ht : isSl P t et) (he : fp P et agg sz by_ z) (hpos : Nat.blt 0 (len * sz) = true) (hsm : Nat.ble (len * sz) 16777216 = true) (hlen : xs.length = len)
    (hp : sW (fun i => some (i * sz, sz)) (len * sz) ((ps.map (·.1)).zip vs) qs) (hds : tl ((List.range (len * sz)).map fun i => z[i % z.length]!) qs = xs.map val) (hsz : 1 = sz)
    (hS : ∀ b, Kp m (St w0 M (L ++ [Res.own (af (jf val h1) et) [b] xs [.slice (some ⟨b, 0, none⟩) xs.length len]])))
    (hk : ∀ b, OW P n l (St w0 M (L ++ [Res.own (af (jf val h1) et) [b] xs [.slice (some ⟨b, 0, none⟩) xs.length len]])) (upd E o.dst (.slice (some ⟨b, 0, none⟩) xs.length len)) m rest) : OW P n l (St w0 M L) E m (o :: rest) := by
  have hst : ∀ b w, St w0 M (L ++ [Res.box b et (xs.map val)]) w → St w0 M (L ++ [Res.own (af (jf val h1) et) [b] xs [.slice (some ⟨b, 0, none⟩) xs.length len]]) w := fun b w h => by
    have hi : (L ++ [Res.box b et (xs.map val)])[L.length]? = some (Res.box b et (xs.map val)) := by simp
    have := h.recast (r' := Res.own (af (jf val h1) et) [b] xs [.slice (some ⟨b, 0, none⟩) xs.length len]) hi rfl (fun ho => by
      have hmx : xs.length ≤ maxLen := by
        rw [hlen]; have := Nat.le_of_ble_eq_true hsm; rw [← hsz] at this; simp only [maxLen]; omega
      have := Ay (h1 := h1) xs hmx ho
      rwa [← hlen])
    simpa using this
  subst hlen
  refine il qs ho hm hw hd hx ht he hpos hsm hp _ hds (fun b w hw' => hS b w (hst b w hw')) (fun b => ?_)
  have := hk b
  cases m with
  | lex Q => exact fun a w hF hC => this a w hF (hst b w hC)
  | any K => cases hm
  | held S Q fl => exact fun s h1 h2 a w hF hC => this s h1 h2 a w hF (hst b w hC)
theorem bM {α : Type} {e : Enc α} {o : Oper} {t et : TypeId} {agg : Bool} {sz by_ : Nat} {z : List Value} (ho : o.op = .buildSlice t 0 #[]) (hm : m.here (o :: rest) = true) (hw : wt l E o.guard = some true) (hd : gI n o.dst = true)
    (ht : isSl P t et) (he : fp P et agg sz by_ z)
    (hS : ∀ b, Kp m (St w0 M (L ++ [Res.own (af e et) [b] [] [.slice (some ⟨b, 0, none⟩) 0 0]])))
    (hk : ∀ b, OW P n l (St w0 M (L ++ [Res.own (af e et) [b] [] [.slice (some ⟨b, 0, none⟩) 0 0]])) (upd E o.dst (.slice (some ⟨b, 0, none⟩) 0 0)) m rest) : OW P n l (St w0 M L) E m (o :: rest) := by
  have hst : ∀ b w, St w0 M (L ++ [Res.box b et []]) w → St w0 M (L ++ [Res.own (af e et) [b] [] [.slice (some ⟨b, 0, none⟩) 0 0]]) w := fun b w h => by
    have hi : (L ++ [Res.box b et []])[L.length]? = some (Res.box b et []) := by simp
    have := h.recast (r' := Res.own (af e et) [b] [] [.slice (some ⟨b, 0, none⟩) 0 0]) hi rfl (fun ho => xS ho)
    simpa using this
  refine vT ho hm hw hd ht he (fun b w hw' => hS b w (hst b w hw')) (fun b => ?_)
  have := hk b
  cases m with
  | lex Q => exact fun a w hF hC => this a w hF (hst b w hC)
  | any K => cases hm
  | held S Q fl => exact fun s h1 h2 a w hF hC => this s h1 h2 a w hF (hst b w hC)
theorem bY {α : Type} {val : α → Value} {h1 : ∀ x, (val x).oneCell' = true} {o : Oper} {t et : TypeId} {x y : Operand} {agg : Bool} {by_ : Nat} {z : List Value} {r : Nat} {F : List Nat} {xs ys zs : List α} {a : Option Addr} {nn cap : Nat} {a2 : Option Addr} {n2 cap2 : Nat}
    (ho : o.op = .call { callee := .builtin .append, args := #[x, y], argTypes := #[t, t] }) (hm : m.here (o :: rest) = true) (hw : wt l E o.guard = some true) (hd : gI n o.dst = true) (hx : ev E x = some (.slice a nn cap)) (hy : ev E y = some (.slice a2 n2 cap2))
    (ht : isSl P t et) (he : fp P et agg 1 by_ z) (hby : Nat.ble by_ 2048 = true) (hzl : z.length = 1) (hr : L[r]? = some (Res.own (af (jf val h1) et) F xs [.slice a nn cap])) (hA : ∀ w, St w0 M L w → ig (jf val h1) w [] ys [.slice a2 n2 cap2]) (hz : app xs ys = some zs)
    (hS : ∀ a' c' F', Kp m (St w0 M (L.set r (Res.own (af (jf val h1) et) F' zs [.slice a' zs.length c']))))
    (hk : ∀ a' c' F', OW P n l (St w0 M (L.set r (Res.own (af (jf val h1) et) F' zs [.slice a' zs.length c']))) (upd E o.dst (.slice a' zs.length c')) m rest) : OW P n l (St w0 M L) E m (o :: rest) := by
  obtain ⟨rfl, hlen⟩ := qG hz
  refine kR hm hw fun fr w hF hC _ _ hK => ?_
  obtain ⟨hok, hnd, hlt⟩ := hC.one hr
  have hr2 := hA w hC
  obtain ⟨i, zv, hi, hs, hb, hzv, hzc⟩ := he.info
  have fin : ∀ v' w' F', (Builtin.append_ #[t, t] o.type #[.slice a nn cap, .slice a2 n2 cap2]).run P w = .ok v' w' → lQ (jf val h1) et w' F' (xs ++ ys) [v'] → Ext F w w' → F'.Nodup → (∀ b ∈ F', b < w'.heap.size ∧ (b ∈ F ∨ w.heap.size ≤ b)) →
      o.wp P fr w _ m.ends := fun v' w' F' hrun hown hext hnd' hF' => by
    obtain ⟨a', c', hv, _⟩ := (af (jf val h1) et).own_rd (X := []) hown (by simp)
    simp only [List.cons.injEq, and_true] at hv
    subst hv
    have hst : St w0 M (L.set r (Res.own (af (jf val h1) et) F' (xs ++ ys) [.slice a' (xs ++ ys).length c'])) w' := hC.upd hr hext _ hown hnd' hF'
    refine nF ?_ (hK _ _ _ _ (hk a' c' F') (hF.put _ _ (ax hd)) hst (hS a' c' F' _ hst))
    unfold execOp
    simp only [ho, resolve, invoke, builtin, Sem.run_bind, Sem.run_pure, Result.andThen_ok, List.map_toArray, List.map_cons, List.map_nil, hF.ev hx, hF.ev hy, hrun]
  cases a2 with
  | none =>
    have hys : ys = [] ∧ n2 = 0 := by
      obtain ⟨a', cap', hv, _, _, hel⟩ := hr2
      simp only [List.cons.injEq, Value.slice.injEq, and_true] at hv
      obtain ⟨rfl, rfl, rfl⟩ := hv
      by_cases hne : ys = []
      · subst hne; exact ⟨rfl, rfl⟩
      · obtain ⟨p, hp, _⟩ := hel hne; cases hp
    obtain ⟨rfl, rfl⟩ := hys
    have hle : nn ≤ cap := by
      obtain ⟨a', cap', hv, h2, _⟩ := (af (jf val h1) et).own_rd (X := []) hok (by simp)
      simp only [List.cons.injEq, Value.slice.injEq, and_true] at hv
      obtain ⟨rfl, rfl, rfl⟩ := hv
      exact h2
    have hrun := run_append_nothing (P := P) w t t o.type et i ht hi a nn cap hle (.slice none 0 cap2) (Src.ofNil w ht cap2)
    exact fin _ _ F hrun (by rw [List.append_nil]; exact hok) (Ext.refl _ _) hnd (fun b hb => ⟨hlt b hb, .inl hb⟩)
  | some p =>
    obtain ⟨hn, hAt⟩ := vo hr2
    obtain ⟨v', w', F', hrun, hown, hext, hnd', hF'⟩ := pz (ty := o.type) ht he hby rfl rfl hzl (F := F) (Fy := []) hok (mm := n2) (cap := cap2) hn hAt (pm ys) hlen (by rw [List.append_nil]; exact hnd) (by simp)
    exact fin v' w' F' hrun hown hext hnd' (fun b hb => by
      obtain ⟨h2, h3⟩ := hF' b hb
      refine ⟨h2, ?_⟩
      rcases h3 with h3 | h3 | h3
      · exact .inl h3
      · cases h3
      · exact .inr h3)
def tj : List Bool → List Res → List Res
  | true :: bs, r :: L => r :: tj bs L
  | false :: bs, _ :: L => tj bs L
  | _, _ => []
theorem sL : ∀ (bs : List Bool) (L : List Res), (tj bs L).Sublist L
  | [], L => by unfold tj; simp
  | true :: bs, [] => by unfold tj; simp
  | false :: bs, [] => by unfold tj; simp
  | true :: bs, r :: L => (sL bs L).cons_cons r
  | false :: bs, r :: L => (sL bs L).cons r
theorem yy {A B : List Res} (h : A.Sublist B) : (dr A).Sublist (dr B) := by
  induction h with
  | slnil => exact List.Sublist.slnil
  | cons r _ ih => rw [ed]; exact ih.trans (List.sublist_append_right _ _)
  | cons_cons r _ ih => rw [ed, ed]; exact List.Sublist.append (List.Sublist.refl _) ih
theorem St.keep {L' : List Res} {w : World} (bs : List Bool) (hL : tj bs L = L') (h : St w0 M L w) : St w0 M L' w := by
  subst hL
  have hs := sL bs L
  have hf := yy hs
  exact ⟨h.ext, fun r hr => h.ok r (hs.subset hr), hf.nodup h.nd, fun b hb => h.lt b (hf.subset hb), fun b hb => h.new b (hf.subset hb)⟩
theorem XW.at {C' : World → Prop} {R : Env} {x : Exit} (h : XW n C' R Q x) (hC : ∀ w, C w → C' w) (hs : Sub R E) : XW n C E Q x := fun a w hF hw => h a w (hF.sub hs) (hC w hw)
theorem aQ (R : Env) (k : Nat) (hk : OW P n l C R m (rest.drop k)) (hs : OW P n l C R m (rest.drop k) → OW P n l C E m rest) : OW P n l C E m rest := hs hk
theorem aV {y : Code} (h : jx Q) : jx (QS P y Q) := fun c a d v w hq => h c a d v w hq
theorem bF {id : Nat} (h : jx Q) : jx (QB id Q) := fun c a d v w hq => h c a d v w hq
theorem fe {c : Code} {k : Nat} (h : jx Q) : jx (QL P c k Q) := fun c a d v w hq => h c a d v w hq
def quo (k : IntKind) (x y : Int) : Option Int := if y = 0 then none else some (k.wrap (x.tdiv y))
def rem (x y : Int) : Option Int := if y = 0 then none else some (x.tmod y)
def shl (k : IntKind) (x y : Int) : Option Int := if y < 0 then none else some (vn k x y)
def shr (k : IntKind) (x y : Int) : Option Int := if y < 0 then none else some (qz k x y)
theorem wu {o : Oper} {t u : TypeId} {x y : Operand} {k : IntKind} {a b c : Int} (ho : o.op = .binOp .quo t x y u) (hx : ev E x = some (.int k a)) (hy : ev E y = some (.int k b)) (h : quo k a b = some c) : Ry P n C E o (.int k c) := fun fr hF w _ => by
  unfold quo at h
  split at h
  · cases h
  · rename_i hb
    simp only [Option.some.injEq] at h; subst h
    unfold execOp
    simp [ho, hF.ev hx, hF.ev hy, eqGuard_at_int, binOp_quo, Op.intDiv, hb]
theorem pA {o : Oper} {t u : TypeId} {x y : Operand} {k : IntKind} {a b c : Int} (ho : o.op = .binOp .rem t x y u) (hx : ev E x = some (.int k a)) (hy : ev E y = some (.int k b)) (h : rem a b = some c) : Ry P n C E o (.int k c) := fun fr hF w _ => by
  unfold rem at h
  split at h
  · cases h
  · rename_i hb
    simp only [Option.some.injEq] at h; subst h
    unfold execOp
    simp [ho, hF.ev hx, hF.ev hy, eqGuard_at_int, binOp_rem, Op.intDiv, hb]
def Bd (P : Program) (f : FuncId) : Prop := ∃ fn, P.funcs[f]? = some fn ∧ (fn.name == "runtime.NumGoroutine") = false ∧ fn.body.isNone = true ∧ Extern.findNext fn = none ∧ Extern.find fn = some Extern.BytealgIndexByte.indexByte
theorem Bs {o : Oper} {f : FuncId} {x y : Operand} {ts : Array TypeId} {s : List UInt8} {c : Int} (ho : o.op = .call { callee := .value (.func f), args := #[x, y], argTypes := ts }) (hf : Bd P f) (hx : ev E x = some (vS s)) (hy : ev E y = some (.int .u8 c)) :
    Ry P n C E o (.int .i64 (Lib.indexByte s c.toNat.toUInt8)) := fun fr hF w _ => by
  obtain ⟨fn, h1, h2, h3, h4, h5⟩ := hf
  have h6 := run_callFunc_extern (P := P) h1 h2 h3 h4 h5 #[vS s, .int .u8 c] w
  have h7 := Lib.run_indexByteString (P := P) ⟨s.toArray⟩ c w
  have hm : (#[x, y].map fr.eval) = #[vS s, .int .u8 c] := by simp [hF.ev hx, hF.ev hy]
  rw [show (Extern.BytealgIndexByte.indexByte #[vS s, .int .u8 c]).run P w = _ from h7] at h6
  unfold execOp
  simp only [ho, resolve, Act.eval, Deferred.ofValue, hm]
  simp [invoke, h6]
end Go.Vk
/- Joins of ways. -/
namespace Go.Vk
open Go.RowKit
theorem wD {α0 : Type} {P : Program} {n : Nat} {C : World → Prop} {E : Env} {Q : Exit → Act → World → Prop} {x y : Code} (Cf : α0 → World → Prop) (Ef : α0 → Env) (g : α0 → Prop)
    (hy : ∀ s0, (g s0) → CW P n (Cf s0) (Ef s0) Q y) (hx : (∀ s0, (g s0) → XW n (Cf s0) (Ef s0) (QS P y Q) .normal) → CW P n C E (QS P y Q) x) : CW P n C E Q (.seq x y) :=
  ak (hx (fun s0 H => az (hy s0 H)))
theorem uz {α0 α1 : Type} {P : Program} {n : Nat} {C : World → Prop} {E : Env} {Q : Exit → Act → World → Prop} {x y : Code} (Cf : α0 → α1 → World → Prop) (Ef : α0 → α1 → Env) (g : α0 → α1 → Prop)
    (hy : ∀ s0 s1, (g s0 s1) → CW P n (Cf s0 s1) (Ef s0 s1) Q y) (hx : (∀ s0 s1, (g s0 s1) → XW n (Cf s0 s1) (Ef s0 s1) (QS P y Q) .normal) → CW P n C E (QS P y Q) x) : CW P n C E Q (.seq x y) :=
  ak (hx (fun s0 s1 H => az (hy s0 s1 H)))
theorem uO {α0 α1 α2 : Type} {P : Program} {n : Nat} {C : World → Prop} {E : Env} {Q : Exit → Act → World → Prop} {x y : Code} (Cf : α0 → α1 → α2 → World → Prop) (Ef : α0 → α1 → α2 → Env) (g : α0 → α1 → α2 → Prop)
    (hy : ∀ s0 s1 s2, (g s0 s1 s2) → CW P n (Cf s0 s1 s2) (Ef s0 s1 s2) Q y) (hx : (∀ s0 s1 s2, (g s0 s1 s2) → XW n (Cf s0 s1 s2) (Ef s0 s1 s2) (QS P y Q) .normal) → CW P n C E (QS P y Q) x) : CW P n C E Q (.seq x y) :=
  ak (hx (fun s0 s1 s2 H => az (hy s0 s1 s2 H)))
theorem wL {α0 α1 α2 α3 α4 α5 : Type} {P : Program} {n : Nat} {C : World → Prop} {E : Env} {Q : Exit → Act → World → Prop} {x y : Code} (Cf : α0 → α1 → α2 → α3 → α4 → α5 → World → Prop) (Ef : α0 → α1 → α2 → α3 → α4 → α5 → Env) (g : α0 → α1 → α2 → α3 → α4 → α5 → Prop)
    (hy : ∀ s0 s1 s2 s3 s4 s5, (g s0 s1 s2 s3 s4 s5) → CW P n (Cf s0 s1 s2 s3 s4 s5) (Ef s0 s1 s2 s3 s4 s5) Q y) (hx : (∀ s0 s1 s2 s3 s4 s5, (g s0 s1 s2 s3 s4 s5) → XW n (Cf s0 s1 s2 s3 s4 s5) (Ef s0 s1 s2 s3 s4 s5) (QS P y Q) .normal) → CW P n C E (QS P y Q) x) : CW P n C E Q (.seq x y) :=
  ak (hx (fun s0 s1 s2 s3 s4 s5 H => az (hy s0 s1 s2 s3 s4 s5 H)))
theorem wz {α0 α1 α2 α3 α4 α5 α6 α7 : Type} {P : Program} {n : Nat} {C : World → Prop} {E : Env} {Q : Exit → Act → World → Prop} {x y : Code} (Cf : α0 → α1 → α2 → α3 → α4 → α5 → α6 → α7 → World → Prop) (Ef : α0 → α1 → α2 → α3 → α4 → α5 → α6 → α7 → Env) (g : α0 → α1 → α2 → α3 → α4 → α5 → α6 → α7 → Prop)
    (hy : ∀ s0 s1 s2 s3 s4 s5 s6 s7, (g s0 s1 s2 s3 s4 s5 s6 s7) → CW P n (Cf s0 s1 s2 s3 s4 s5 s6 s7) (Ef s0 s1 s2 s3 s4 s5 s6 s7) Q y) (hx : (∀ s0 s1 s2 s3 s4 s5 s6 s7, (g s0 s1 s2 s3 s4 s5 s6 s7) → XW n (Cf s0 s1 s2 s3 s4 s5 s6 s7) (Ef s0 s1 s2 s3 s4 s5 s6 s7) (QS P y Q) .normal) → CW P n C E (QS P y Q) x) : CW P n C E Q (.seq x y) :=
  ak (hx (fun s0 s1 s2 s3 s4 s5 s6 s7 H => az (hy s0 s1 s2 s3 s4 s5 s6 s7 H)))
theorem yO {α0 α1 α2 α3 α4 α5 α6 α7 α8 α9 α10 α11 α12 α13 α14 α15 α16 : Type} {P : Program} {n : Nat} {C : World → Prop} {E : Env} {Q : Exit → Act → World → Prop} {x y : Code} (Cf : α0 → α1 → α2 → α3 → α4 → α5 → α6 → α7 → α8 → α9 → α10 → α11 → α12 → α13 → α14 → α15 → α16 → World → Prop) (Ef : α0 → α1 → α2 → α3 → α4 → α5 → α6 → α7 → α8 → α9 → α10 → α11 → α12 → α13 → α14 → α15 → α16 → Env) (g : α0 → α1 → α2 → α3 → α4 → α5 → α6 → α7 → α8 → α9 → α10 → α11 → α12 → α13 → α14 → α15 → α16 → Prop)
    (hy : ∀ s0 s1 s2 s3 s4 s5 s6 s7 s8 s9 a c d e f h i, (g s0 s1 s2 s3 s4 s5 s6 s7 s8 s9 a c d e f h i) → CW P n (Cf s0 s1 s2 s3 s4 s5 s6 s7 s8 s9 a c d e f h i) (Ef s0 s1 s2 s3 s4 s5 s6 s7 s8 s9 a c d e f h i) Q y) (hx : (∀ s0 s1 s2 s3 s4 s5 s6 s7 s8 s9 a c d e f h i, (g s0 s1 s2 s3 s4 s5 s6 s7 s8 s9 a c d e f h i) → XW n (Cf s0 s1 s2 s3 s4 s5 s6 s7 s8 s9 a c d e f h i) (Ef s0 s1 s2 s3 s4 s5 s6 s7 s8 s9 a c d e f h i) (QS P y Q) .normal) → CW P n C E (QS P y Q) x) : CW P n C E Q (.seq x y) :=
  ak (hx (fun s0 s1 s2 s3 s4 s5 s6 s7 s8 s9 a c d e f h i H => az (hy s0 s1 s2 s3 s4 s5 s6 s7 s8 s9 a c d e f h i H)))
end Go.Vk
/- Structs: zD data, pairs of data; resources arranged anew. -/
namespace Go.Vk
open Go.RowKit
def kG {α : Type} (f : α → List Value) (k : Nat) (hk : ∀ x, (f x).length = k) (h1 : ∀ x, ∀ u ∈ f x, u.oneCell' = true) : Enc α where
  sz := k
  rd _ _ x cs := cs = f x
  own _ F x cs := F = [] ∧ cs = f x
  rd_len h := by rw [h]; exact hk _
  rd_loc h _ := h
  rd_anti h _ := h
  own_loc h _ := h
  own_rd h _ := h.2
  own_lt h b hb := by rw [h.1] at hb; cases hb
  one h u hu := by rw [h] at hu; exact h1 _ u hu
def cG {α β : Type} (e : Enc α) (f : Enc β) : Enc (α × β) where
  sz := e.sz + f.sz
  rd w X x cs := ∃ c1 c2, cs = c1 ++ c2 ∧ e.rd w X x.1 c1 ∧ f.rd w X x.2 c2
  own w F x cs := ∃ F1 F2 c1 c2, F = F1 ++ F2 ∧ cs = c1 ++ c2 ∧ e.own w F1 x.1 c1 ∧ f.own w F2 x.2 c2
  rd_len := by rintro w X x cs ⟨c1, c2, rfl, h1, h2⟩; rw [List.length_append, e.rd_len h1, f.rd_len h2]
  rd_loc := by rintro w w' X x cs ⟨c1, c2, rfl, h1, h2⟩ hb; exact ⟨c1, c2, rfl, e.rd_loc h1 hb, f.rd_loc h2 hb⟩
  rd_anti := by rintro w X X' x cs ⟨c1, c2, rfl, h1, h2⟩ hb; exact ⟨c1, c2, rfl, e.rd_anti h1 hb, f.rd_anti h2 hb⟩
  own_loc := by
    rintro w w' F x cs ⟨F1, F2, c1, c2, rfl, rfl, h1, h2⟩ hb
    exact ⟨F1, F2, c1, c2, rfl, rfl, e.own_loc h1 (fun b h => hb b (by simp [h])), f.own_loc h2 (fun b h => hb b (by simp [h]))⟩
  own_rd := by
    rintro w F X x cs ⟨F1, F2, c1, c2, rfl, rfl, h1, h2⟩ hb
    exact ⟨c1, c2, rfl, e.own_rd h1 (fun b h => hb b (by simp [h])), f.own_rd h2 (fun b h => hb b (by simp [h]))⟩
  own_lt := by
    rintro w F x cs ⟨F1, F2, c1, c2, rfl, rfl, h1, h2⟩ b hb
    rcases List.mem_append.1 hb with h | h
    · exact e.own_lt h1 b h
    · exact f.own_lt h2 b h
  one := by
    rintro w X x cs ⟨c1, c2, rfl, h1, h2⟩ u hu
    rcases List.mem_append.1 hu with h | h
    · exact e.one h1 u h
    · exact f.one h2 u h
theorem gm {α β : Type} {e : Enc α} {f : Enc β} {w : World} {X : List Nat} {x : α} {y : β} {c1 c2 : List Value} (h1 : e.rd w X x c1) (h2 : f.rd w X y c2) : (cG e f).rd w X (x, y) (c1 ++ c2) := ⟨c1, c2, rfl, h1, h2⟩
theorem gP {α β : Type} {e : Enc α} {f : Enc β} {w : World} {F1 F2 : List Nat} {x : α} {y : β} {c1 c2 : List Value} (h1 : e.own w F1 x c1) (h2 : f.own w F2 y c2) : (cG e f).own w (F1 ++ F2) (x, y) (c1 ++ c2) := ⟨F1, F2, c1, c2, rfl, rfl, h1, h2⟩
def wg {α β : Type} (e : Enc α) (g : β → α) : Enc β where
  sz := e.sz
  rd w X x cs := e.rd w X (g x) cs
  own w F x cs := e.own w F (g x) cs
  rd_len h := e.rd_len h
  rd_loc h hb := e.rd_loc h hb
  rd_anti h hb := e.rd_anti h hb
  own_loc h hb := e.own_loc h hb
  own_rd h hb := e.own_rd h hb
  own_lt h := e.own_lt h
  one h := e.one h
theorem am {α : Type} {e : Enc α} {w : World} {X : List Nat} {xs : List α} {cs : List Value} (h : ig e w X xs cs) : ∃ a cap, cs = [.slice a xs.length cap] := by
  obtain ⟨a, cap, hv, _⟩ := h
  exact ⟨a, cap, hv⟩
theorem ox {α : Type} {e : Enc α} {T : TypeId} {w : World} {F : List Nat} {xs : List α} {cs : List Value} (h : (af e T).own w F xs cs) : ∃ a cap, cs = [.slice a xs.length cap] := am (e := e) ((af e T).own_rd (X := []) h (by simp))
theorem Cy {α : Type} {e : Enc α} {T : TypeId} {w : World} {F : List Nat} {xs : List α} {a : Option Addr} {n c : Nat} (h : (af e T).own w F xs [.slice a n c]) : n = xs.length := by
  obtain ⟨a', c', hv⟩ := ox h
  simp only [List.cons.injEq, Value.slice.injEq, and_true] at hv
  exact hv.2.1
theorem ee {α : Type} {e : Enc α} {w : World} {X : List Nat} {xs : List α} {a : Option Addr} {n c : Nat} (h : ig e w X xs [.slice a n c]) : n = xs.length := by
  obtain ⟨a', c', hv⟩ := am h
  simp only [List.cons.injEq, Value.slice.injEq, and_true] at hv
  exact hv.2.1
theorem CE {α : Type} {e : Enc α} {T : TypeId} {w : World} {F : List Nat} {xs : List α} {a : Option Addr} {n c : Nat} (h : (af e T).own w F xs [.slice a n c]) (hne : xs ≠ []) : a.isNone = false := by
  rcases h with ⟨rfl, _, _⟩ | ⟨b, cap, cur, F1, ds, rfl, hcs, _⟩
  · exact absurd rfl hne
  · simp only [List.cons.injEq, Value.slice.injEq, and_true] at hcs
    rw [hcs.1]; rfl
theorem aH {α : Type} {e : Enc α} {T : TypeId} {w0 w : World} {M : List Nat} {L : List Res} {F : List Nat} {xs : List α} {a : Option Addr} {n c i : Nat} (h : St w0 M L w) (hi : L[i]? = some (Res.own (af e T) F xs [.slice a n c])) : n = xs.length := Cy (h.ok _ (List.mem_of_getElem? hi))
theorem eD {α : Type} {e : Enc α} {T : TypeId} {w0 w : World} {M : List Nat} {L : List Res} {F : List Nat} {xs : List α} {a : Option Addr} {n c i : Nat} (h : St w0 M L w) (hi : L[i]? = some (Res.own (af e T) F xs [.slice a n c])) (hne : xs ≠ []) : a.isNone = false := CE (h.ok _ (List.mem_of_getElem? hi)) hne
section
variable {w0 : World} {M : List Nat} {L : List Res} {w : World}
def xi : List Res → Nat → (Res → List Res) → List Res
  | [], _, k => k Res.nil
  | r :: _, 0, k => k r
  | _ :: L, i + 1, k => xi L i k
def jr (L : List Res) : List Nat → List Res
  | [] => []
  | i :: is => xi L i (fun r => r :: jr L is)
theorem wG : ∀ (L : List Res) (i : Nat) (k : Res → List Res), xi L i k = k (match L[i]? with | some r => r | none => Res.nil)
  | [], i, k => by simp [xi]
  | r :: L, 0, k => by simp [xi]
  | r :: L, i + 1, k => by rw [xi, wG L i k]; simp
theorem mU (L : List Res) : jr L [] = [] := rfl
theorem iU (L : List Res) (i : Nat) (is : List Nat) : jr L (i :: is) = (match L[i]? with | some r => r | none => Res.nil) :: jr L is := by rw [jr, wG]
def kH (L : List Res) : List Nat → List Res
  | [] => L
  | i :: is => kH (L.set i Res.nil) is
def pK : List Nat → Bool
  | [] => true
  | i :: is => is.all (fun j => !(Nat.beq i j)) && pK is
theorem yG (L : List Res) (i : Nat) : (dr L).Perm ((match L[i]? with | some r => r | none => Res.nil).F ++ dr (L.set i Res.nil)) := by
  cases hi : L[i]? with
  | some r => exact tU hi
  | none =>
    have hlen : L.length ≤ i := by simpa using hi
    rw [List.set_eq_of_length_le hlen]
    exact List.Perm.refl _
theorem wC {L : List Res} {i : Nat} : ∀ {is : List Nat}, is.all (fun j => !(Nat.beq i j)) = true → jr (L.set i Res.nil) is = jr L is
  | [], _ => rfl
  | j :: is, h => by
    simp only [List.all_cons, Bool.and_eq_true, Bool.not_eq_true'] at h
    have hne : i ≠ j := Nat.ne_of_beq_eq_false h.1
    rw [iU, iU, List.getElem?_set_ne hne, wC h.2]
theorem mX : ∀ {is : List Nat} {L : List Res}, pK is = true → (dr L).Perm (dr (jr L is) ++ dr (kH L is))
  | [], L, _ => List.Perm.refl _
  | i :: is, L, h => by
    simp only [pK, Bool.and_eq_true] at h
    have h1 := yG L i
    have h2 := mX (is := is) (L := L.set i Res.nil) h.2
    rw [wC h.1] at h2
    refine h1.trans ?_
    rw [iU, ed]
    show ((match L[i]? with | some r => r | none => Res.nil).F ++ dr (L.set i Res.nil)).Perm (((match L[i]? with | some r => r | none => Res.nil).F ++ dr (jr L is)) ++ dr (kH (L.set i Res.nil) is))
    rw [List.append_assoc]
    exact List.Perm.append_left _ h2
theorem qN : ∀ {is : List Nat} {L : List Res} {r : Res}, r ∈ kH L is → r ∈ L ∨ r = Res.nil
  | [], _, _, h => .inl h
  | i :: is, L, r, h => by
    rcases qN (is := is) h with h1 | h1
    · rcases List.mem_or_eq_of_mem_set h1 with h2 | h2
      · exact .inl h2
      · exact .inr h2
    · exact .inr h1
theorem my : ∀ {is : List Nat} {r : Res}, r ∈ jr L is → r ∈ L ∨ r = Res.nil
  | [], _, h => by cases h
  | i :: is, r, h => by
    rw [iU] at h
    cases h with
    | head =>
      cases hi : L[i]? with
      | some r => exact .inl (List.mem_of_getElem? hi)
      | none => exact .inr rfl
    | tail _ h => exact my h
theorem St.ok' (h : St w0 M L w) {r : Res} (hr : r ∈ L ∨ r = Res.nil) : r.ok w := by
  rcases hr with hr | rfl
  · exact h.ok r hr
  · trivial
theorem St.re (idx : List Nat) (Rs : List Res) (h : St w0 M L w) (hn : pK idx = true) (hF : (dr Rs).Perm (dr (jr L idx))) (ho : ∀ r ∈ Rs, r.ok w) : St w0 M (kH L idx ++ Rs) w := by
  have hp : (dr L).Perm (dr (kH L idx ++ Rs)) := by
    rw [dX]
    refine (mX hn).trans (List.perm_append_comm.trans ?_)
    exact List.Perm.append_left _ hF.symm
  refine ⟨h.ext, fun r hr => ?_, hp.nodup_iff.1 h.nd, fun b hb => h.lt b (hp.mem_iff.2 hb), fun b hb => h.new b (hp.mem_iff.2 hb)⟩
  rcases List.mem_append.1 hr with h1 | h1
  · exact h.ok' (qN h1)
  · exact ho r h1
theorem St.sel (idx : List Nat) {L' : List Res} (hL : jr L idx = L') (hn : pK idx = true) (h : St w0 M L w) : St w0 M L' w := by
  subst hL
  have hp := mX (L := L) hn
  have hsub : ∀ b ∈ dr (jr L idx), b ∈ dr L := fun b hb => hp.mem_iff.2 (by simp [hb])
  refine ⟨h.ext, fun r hr => h.ok' (my hr), ?_, fun b hb => h.lt b (hsub b hb), fun b hb => h.new b (hsub b hb)⟩
  have := hp.nodup_iff.1 h.nd
  exact (List.nodup_append.1 this).1
theorem St.carve (idx : List Nat) {L' : List Res} (hL : jr L idx = L') (hn : pK idx = true) (h : St w0 M L w) : St w (dr L') L' w := by
  have h' := h.sel idx hL hn
  exact ⟨Ext.refl _ _, h'.ok, h'.nd, h'.lt, fun b hb => .inr hb⟩
theorem St.comp {Rs : List Res} {w' : World} (idx : List Nat) {L' : List Res} (hL : jr L idx = L') (hn : pK idx = true) (h : St w0 M L w) (k : St w (dr L') Rs w') : St w0 M (kH L idx ++ Rs) w' := by
  subst hL
  have hp := mX (L := L) hn
  have hnd := hp.nodup_iff.1 h.nd
  rw [List.nodup_append] at hnd
  obtain ⟨hS, hN, hSN⟩ := hnd
  have hsub : ∀ b ∈ dr (jr L idx), b ∈ dr L := fun b hb => hp.mem_iff.2 (by simp [hb])
  have hsubN : ∀ b ∈ dr (kH L idx), b ∈ dr L := fun b hb => hp.mem_iff.2 (by simp [hb])
  have hNx : ∀ b ∈ dr (kH L idx), b ∉ dr (jr L idx) := fun b hb hs => hSN b hs b hb rfl
  refine ⟨?_, ?_, ?_, ?_, ?_⟩
  · refine ⟨k.ext.os.trans h.ext.os, k.ext.tape.trans h.ext.tape, k.ext.output.trans h.ext.output, Nat.le_trans h.ext.size k.ext.size, fun b hb hm => ?_⟩
    have hbs : b ∉ dr (jr L idx) := fun hin => by
      rcases h.new b (hsub b hin) with h1 | h1
      · omega
      · exact hm h1
    exact (k.ext.block b (Nat.lt_of_lt_of_le hb h.ext.size) hbs).trans (h.ext.block b hb hm)
  · intro r hr
    rcases List.mem_append.1 hr with h1 | h1
    · exact r.loc w w' (fun b hb => k.ext.block b (h.lt b (hsubN b (kX h1 hb))) (hNx b (kX h1 hb))) (h.ok' (qN h1))
    · exact k.ok r h1
  · rw [dX, List.nodup_append]
    refine ⟨hN, k.nd, fun a ha b hb e => ?_⟩
    subst e
    rcases k.new a hb with h1 | h1
    · have := h.lt a (hsubN a ha); omega
    · exact hNx a ha h1
  · intro b hb
    rw [dX] at hb
    rcases List.mem_append.1 hb with h1 | h1
    · exact Nat.lt_of_lt_of_le (h.lt b (hsubN b h1)) k.ext.size
    · exact k.lt b h1
  · intro b hb
    rw [dX] at hb
    rcases List.mem_append.1 hb with h1 | h1
    · exact h.new b (hsubN b h1)
    · rcases k.new b h1 with h2 | h2
      · exact .inl (Nat.le_trans h.ext.size h2)
      · exact h.new b (hsub b h2)
theorem St.app {Rs : List Res} {w' : World} (h : St w0 M L w) (k : St w [] Rs w') : St w0 M (L ++ Rs) w' := h.comp [] rfl rfl k
theorem rdB {α : Type} {e : Enc α} {x : α} {cs : List Value} (idx : List Nat) {L' : List Res} (hL : jr L idx = L') (hn : pK idx = true) (h : St w0 M L w) (hr : e.rd w0 M x cs) : e.rd w (dr L') x cs := by
  subst hL
  have hsub : ∀ b ∈ dr (jr L idx), b ∈ dr L := fun b hb => (mX (L := L) hn).mem_iff.2 (by simp [hb])
  have h1 : e.rd w0 (M ++ dr (jr L idx)) x cs := e.rd_anti hr (fun b hb hm => by
    rcases List.mem_append.1 hm with h1 | h1
    · exact h1
    · rcases h.new b (hsub b h1) with h2 | h2
      · omega
      · exact h2)
  have h2 := e.rd_loc (w' := w) h1 (fun b hb hm => h.ext.block b hb (fun hin => hm (by simp [hin])))
  exact e.rd_anti h2 (fun b _ hm => by simp [hm])
theorem qI {L : List Res} : ∀ {idx : List Nat} {b : Nat}, b ∈ dr (jr L idx) → ∃ j ∈ idx, ∃ r, L[j]? = some r ∧ b ∈ r.F
  | [], b, h => by rw [mU] at h; simp [dr] at h
  | i :: is, b, h => by
    rw [iU, ed] at h
    rcases List.mem_append.1 h with h1 | h1
    · cases hi : L[i]? with
      | some r => rw [hi] at h1; exact ⟨i, by simp, r, hi, h1⟩
      | none => rw [hi] at h1; simp [Res.nil] at h1
    · obtain ⟨j, hj, r, hr, hb⟩ := qI h1
      exact ⟨j, by simp [hj], r, hr, hb⟩
theorem tV {L : List Res} (hnd : (dr L).Nodup) {i j : Nat} {r s : Res} (hij : i ≠ j) (hi : L[i]? = some r) (hj : L[j]? = some s) {b : Nat} (hb : b ∈ r.F) (hs : b ∈ s.F) : False := by
  have hp := (tU hi).nodup_iff.1 hnd
  rw [List.nodup_append] at hp
  refine hp.2.2 b hb b ?_ rfl
  have hj' : (L.set i Res.nil)[j]? = some s := by rw [List.getElem?_set_ne hij]; exact hj
  exact kX (List.mem_of_getElem? hj') hs
theorem rdO {α : Type} {e : Enc α} {x : α} {cs : List Value} {F : List Nat} (i : Nat) (idx : List Nat) {L' : List Res} (hL : jr L idx = L') (h : St w0 M L w) (hi : L[i]? = some (Res.own e F x cs)) (hd : idx.all (fun j => !(Nat.beq i j)) = true) : e.rd w (dr L') x cs := by
  subst hL
  refine e.own_rd (h.ok _ (List.mem_of_getElem? hi)) (fun b hb hm => ?_)
  obtain ⟨j, hj, r, hr, hbr⟩ := qI hm
  have := List.all_eq_true.1 hd j hj
  simp only [Bool.not_eq_true'] at this
  exact tV h.nd (Nat.ne_of_beq_eq_false this) hi hr hb hbr
end
end Go.Vk
