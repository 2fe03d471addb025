/- The steps of a walk, said shortly. -/
import Derived.Test.YtddoligbabahbaaGreatVkM
import Derived.Shelf.Strings.OnBuilder
import Derived.Shelf.Strings.Repeat
import Derived.Shelf.Strconv.Itoa3
namespace Go.Vk
variable {P : Program} {n : Nat} {C : World → Prop} {E : Env} {m : Md} {l rest : List Oper} {w0 : World} {M : List Nat} {L : List Res} {Q : Exit → Act → World → Prop}
theorem bE {α β : Type} {o : Option α} {f : α → Option β} {r : β} {G : Prop} (h : o.bind f = some r) (k : ∀ z, o = some z → f z = some r → G) : G := by
  obtain ⟨z, h1, h2⟩ := of_bind h
  exact k z h1 h2
theorem cI {α : Type} {x : Operand} {c d : Code} {b : Bool} {A B r : Option α} (H : (if b then A else B) = r) (hx : ev E x = some (.bool b)) (ht : A = r → CW P n C E Q c) (hf : B = r → CW P n C E Q d) : CW P n C E Q (.cond x c d) :=
  c_if hx (fun hb => ht (of_if_t hb H)) (fun hb => hf (of_if_f hb H))
theorem o1 {o : Oper} {v : Value} (h : (wt l E o.guard, dstOk n o.dst) = (some true, true)) (hq : Ry P n (m.cls C) E o v) (k : OW P n l C (upd E o.dst v) m rest) : OW P n l C E m (o :: rest) := by
  obtain ⟨h1, h2⟩ := Prod.mk.inj h
  exact ow_r h1 (dstOk_lt h2) hq k
theorem r1 (off i : Nat) {o : Oper} {t : TypeId} {x : Operand} {b : Nat} {v : Value} {sz by_ : Nat} {z : List Value} {T : TypeId} {cs : List Value} (h1 : (o.op, ev E x) = (.load t x, some (.pointer (some ⟨b, off, none⟩)))) (ht : isTy P t false sz by_ z)
    (h2 : (L[i]?, cs[off]?) = (some (Res.box b T cs), some v)) : Ry P n (St w0 M L) E o v := by
  obtain ⟨h1, h3⟩ := Prod.mk.inj h1
  obtain ⟨h2, h4⟩ := Prod.mk.inj h2
  exact ry_box1 h1 h3 ht (boxIn h2) h4
theorem rx (off i : Nat) (ds : List Value) {o : Oper} {t : TypeId} {x : Operand} {b : Nat} {sz by_ : Nat} {z : List Value} {T : TypeId} {cs : List Value} (h1 : (o.op, ev E x) = (.load t x, some (.pointer (some ⟨b, off, none⟩)))) (ht : isTy P t true sz by_ z)
    (h2 : (L[i]?, (cs.drop off).take sz, ds.length) = (some (Res.box b T cs), ds, sz)) : Ry P n (St w0 M L) E o (.agg ds.toArray) := by
  obtain ⟨h1, h3⟩ := Prod.mk.inj h1
  obtain ⟨h2, h4⟩ := Prod.mk.inj h2
  obtain ⟨h4, h5⟩ := Prod.mk.inj h4
  exact ry_box h1 h3 ht (boxIn h2) h4 h5
theorem ob (cs : List Value) {Q : Exit → Act → World → Prop} {o : Oper} {T : TypeId} {x : Operand} {v : Value} (h : (o.op, wt l E o.guard, dstOk n o.dst, ev E x, v.cells) = (.box T x, some true, true, some v, cs.toArray))
    (hk : ∀ b, OW P n l (St w0 M (L ++ [Res.box b T cs])) (upd E o.dst (.pointer (some ⟨b, 0, none⟩))) (.lex Q) rest) : OW P n l (St w0 M L) E (.lex Q) (o :: rest) := by
  simp only [Prod.mk.injEq] at h
  obtain ⟨h1, h2, h3, h4, h5⟩ := h
  exact ow_box h1 rfl h2 h3 h4 h5 (fun _ => kp) hk
theorem sC (off : Nat) (vs cs' : List Value) (i : Nat) {Q : Exit → Act → World → Prop} {o : Oper} {t : TypeId} {x y : Operand} {b : Nat} {v : Value} {agg : Bool} {sz by_ : Nat} {z : List Value} {T : TypeId} {cs : List Value}
    (h : (o.op, wt l E o.guard, dstOk n o.dst, ev E x, ev E y) = (.store t x y, some true, true, some (.pointer (some ⟨b, off, none⟩)), some v)) (ht : isTy P t agg sz by_ z)
    (h2 : (v.cells, vs.length, vs.all Value.oneCell', L[i]?, Nat.ble (off + sz) cs.length, splice cs off vs) = (vs.toArray, sz, true, some (Res.box b T cs), true, cs'))
    (hk : OW P n l (St w0 M (L.set i (Res.box b T cs'))) (upd E o.dst undef) (.lex Q) rest) : OW P n l (St w0 M L) E (.lex Q) (o :: rest) := by
  simp only [Prod.mk.injEq] at h h2
  obtain ⟨h1, h3, h4, h5, h6⟩ := h
  obtain ⟨g1, g2, g3, g4, g5, g6⟩ := h2
  exact ow_storeC vs cs' h1 rfl h3 h4 h5 h6 ht g1 g2 (List.all_eq_true.1 g3) g4 g5 g6 kp hk
theorem tt2 {α : Sort _} {β : α → Sort _} : ∀ a, β a → True := fun _ _ => trivial
theorem oq {o : Oper} {v : Value} (h : (m.loud (o :: rest), wt l E o.guard, dstOk n o.dst) = (true, some true, true)) (hq : Qy P n C E o v) (hS : ∀ w, C w → m.keeps w) (k : OW P n l C (upd E o.dst v) m rest) : OW P n l C E m (o :: rest) := by
  simp only [Prod.mk.injEq] at h
  exact ow_q h.1 h.2.1 (dstOk_lt h.2.2) hq hS k
theorem qc {o : Oper} {f : FuncId} {xs : List Operand} {ts : Array TypeId} {vs : List Value} {v : Value} (h : (o.op, evs E xs) = (.call { callee := .value (.func f), args := xs.toArray, argTypes := ts }, some vs)) (hf : isFn P f)
    (hc : ∀ w, St w0 M L w → Calls P f vs.toArray w fun e w' => e = .returned v ∧ Ext [] w w') : Qy P n (St w0 M L) E o v := by
  obtain ⟨h1, h2⟩ := Prod.mk.inj h
  exact qy_call h1 hf h2 hc
theorem xr (t : Nat) {fn : Func} {R : Ending → World → Prop} {v : Value} (h : (fn.results, look E t) = (#[.tmp t], some v)) (hR : ∀ w, C w → R (.returned v) w) : XW n C E (bodyPost P fn R) .ret := by
  obtain ⟨h1, h2⟩ := Prod.mk.inj h
  exact x_retR (rs := [.tmp t]) (vs := [v]) h1 ⟨h2, trivial⟩ hR
theorem q1 {v : Value} : ∀ w, St w0 M L w → (Ending.returned v = .returned v ∧ Ext M w0 w) := fun _ h => ⟨rfl, h.ext⟩
theorem sb {E : Env} : ∀ {R : Env}, R.map (fun p => look E p.1) = R.map (fun p => some p.2) → Sub R E
  | [], _ => trivial
  | (t, v) :: R, h => by
    simp only [List.map_cons, List.cons.injEq] at h
    exact ⟨h.1, sb h.2⟩
end Go.Vk
/- The library's functions of strings, by their contracts: joined, repeated, numbers in decimal; a table of the library's that is read. -/
namespace Go.Vk
open Go.RowKit Go.Proofs Go.Shelf
variable {P : Program} {ρ : Ren}
/-- the greater of two -/
theorem ry_max {n : Nat} {S : World → Prop} {E : Env} {o : Oper} {x y : Operand} {ts : Array TypeId} {k k' : IntKind} {a b : Int} (ho : o.op = .call { callee := .builtin .max, args := #[x, y], argTypes := ts }) (hx : ev E x = some (.int k a)) (hy : ev E y = some (.int k' b)) : Ry P n S E o (.int k (if a < b then b else a)) := fun fr hF w hw => by
  unfold execOp
  simp [ho, resolve, invoke, builtin, hF.ev hx, hF.ev hy, Builtin.max_, Builtin.max2, List.foldlM]
end Go.Vk
