/- Elements deleted from a slice of the call's own: what stands behind moved up, the rest cleared. -/
import Derived.Test.YtjflgcighcjfkaaGreatDoorVkW
namespace Go.Vk
open Go.RowKit
/-- an encoder whose elements own no blocks -/
structure FlatE {α : Type} (e : Enc α) (f : α → List Value) : Prop where
  own : ∀ {w F x cs}, e.own w F x cs ↔ (F = [] ∧ cs = f x)
  len : ∀ x, (f x).length = e.sz
  one : ∀ x, ∀ u ∈ f x, u.oneCell' = true
theorem flatE_flat {α : Type} {f : α → List Value} {k : Nat} {hk : ∀ x, (f x).length = k} {h1 : ∀ x, ∀ u ∈ f x, u.oneCell' = true} : FlatE (eFlat f k hk h1) f := ⟨Iff.rfl, hk, h1⟩
theorem flatE_val {α : Type} {val : α → Value} {h1 : ∀ x, (val x).oneCell' = true} : FlatE (eVal val h1) (fun x => [val x]) := ⟨Iff.rfl, fun _ => rfl, fun x u hu => by rw [List.mem_singleton.1 hu]; exact h1 x⟩
section
variable {α : Type} {e : Enc α} {f : α → List Value}
theorem flat_own_all (h : FlatE e f) {w : World} : ∀ {xs : List α} {F : List Nat} {cs : List Value}, ownAll e w F xs cs ↔ (F = [] ∧ cs = xs.flatMap f) := by
  intro xs
  induction xs with
  | nil => intro F cs; exact Iff.rfl
  | cons x xs ih =>
    intro F cs
    constructor
    · rintro ⟨F1, F2, c1, c2, rfl, rfl, _, h1, h2⟩
      obtain ⟨rfl, rfl⟩ := h.own.1 h1
      obtain ⟨rfl, rfl⟩ := ih.1 h2
      exact ⟨rfl, rfl⟩
    · rintro ⟨rfl, rfl⟩
      exact ⟨[], [], f x, xs.flatMap f, rfl, rfl, h.len x, h.own.2 ⟨rfl, rfl⟩, ih.2 ⟨rfl, rfl⟩⟩
theorem flat_len (h : FlatE e f) (xs : List α) : (xs.flatMap f).length = xs.length * e.sz := by
  induction xs with
  | nil => simp
  | cons x xs ih => rw [List.flatMap_cons, List.length_append, h.len, ih, List.length_cons, Nat.add_mul]; omega
theorem flat_take (h : FlatE e f) : ∀ (xs : List α) (i : Nat), (xs.flatMap f).take (i * e.sz) = (xs.take i).flatMap f
  | [], i => by simp
  | x :: xs, 0 => by simp
  | x :: xs, i + 1 => by
    rw [List.take_succ_cons, List.flatMap_cons, List.flatMap_cons, ← flat_take h xs i]
    have hx := h.len x
    rw [List.take_append, List.take_of_length_le (by rw [hx, Nat.add_mul]; omega), hx, Nat.add_mul, Nat.one_mul, Nat.add_sub_cancel]
theorem flat_drop (h : FlatE e f) : ∀ (xs : List α) (i : Nat), (xs.flatMap f).drop (i * e.sz) = (xs.drop i).flatMap f
  | [], i => by simp
  | x :: xs, 0 => by simp
  | x :: xs, i + 1 => by
    rw [List.drop_succ_cons, List.flatMap_cons, ← flat_drop h xs i]
    have hx := h.len x
    rw [List.drop_append, List.drop_of_length_le (by rw [hx, Nat.add_mul]; omega), hx, Nat.add_mul, Nat.one_mul, Nat.add_sub_cancel, List.nil_append]
end
section
variable {P : Program} {n : Nat} {C : World → Prop} {E : Env} {m : Md} {l rest : List Oper} {w0 : World} {M : List Nat} {L : List Res}
theorem set_getq {β : Type} {L : List β} {r : Nat} {x : β} (h : L[r]? = some x) : L.set r x = L := by
  obtain ⟨hlt, rfl⟩ := List.getElem?_eq_some_iff.1 h
  exact List.set_getElem_self hlt
theorem subA_zero (a : Option Addr) (c sz : Nat) : subA a c 0 sz = a := by
  unfold subA
  split
  · rfl
  · cases a with
    | none => rfl
    | some p => simp [add_zero]
/-- the bounds of a slice that nobody looks at -/
theorem ow_slice3 {α : Type} {e : Enc α} {o : Oper} {t et : TypeId} {x lo hi mx : Operand} {xs ys : List α} {a : Option Addr} {cap : Nat} {i j : Int} {k1 k2 k3 : IntKind} {agg : Bool} {sz by_ : Nat} {z : List Value} (ho : o.op = .slice t x (some lo) (some hi) (some mx)) (hw : wt l E o.guard = some true) (hd : dstOk n o.dst = true)
    (hx : ev E x = some (.slice a xs.length cap)) (hlo : ev E lo = some (.int k1 i)) (hhi : ev E hi = some (.int k2 j)) (hmx : ev E mx = some (.int k3 (xs.length : Int))) (ht : isSl P t et) (he : isTy P et agg sz by_ z) (h : sub xs i j = some ys) (hr : ∀ w, m.cls C w → rdList e w [] xs [.slice a xs.length cap])
    (hk : ∀ v, OW P n l C (upd E o.dst v) m rest) : OW P n l C E m (o :: rest) := by
  obtain ⟨h0, h1, h2, _⟩ := sub_some h
  obtain ⟨ti, zv, hti, hs, _, _, _⟩ := he.info
  have ht' : P.underlying t = some (.slice et) := ht
  refine ow_r hw (dstOk_lt hd) (v := .slice (if xs.length = i.toNat then a else a.map (·.add (i.toNat * sz))) (j.toNat - i.toNat) (xs.length - i.toNat)) (fun fr hF w hw' => ?_) (hk _)
  obtain ⟨a', cap', hv, hle, hc, hel⟩ := hr w hw'
  simp only [List.cons.injEq, Value.slice.injEq, and_true] at hv
  obtain ⟨rfl, _, rfl⟩ := hv
  have hb : ∀ (k : IntKind) (q : Int) (y : Nat) (c : BoundsCode), 0 ≤ q → q ≤ y → (Instr.sliceBound (.int k q) y c).run P w = .ok q.toNat w := by
    intro k q y c hq hy
    simp [Instr.sliceBound, asIntOf, hq, hy]
  have b1 := hb k3 (xs.length : Int) cap .slice3Acap (by omega) (by omega)
  have b2 := hb k2 j xs.length .slice3B (by omega) h2
  have b3 := hb k1 i j.toNat .slice3C h0 (by omega)
  rw [Int.toNat_natCast] at b1
  unfold execOp
  simp [ho, hF.ev hx, hF.ev hlo, hF.ev hhi, hF.ev hmx, Instr.sliceAt, Instr.slice, Instr.sliceBounds, run_underlying ht', b1, b2, b3, sizeOf, typeInfo, hti, hs]
/-- 'append(s[:i], s[j:]...)' -/
theorem ow_del {α : Type} {e : Enc α} {f : α → List Value} (hfl : FlatE e f) {o : Oper} {t et : TypeId} {x y : Operand} {agg : Bool} {sz by_ : Nat} {z : List Value} {r : Nat} {F : List Nat} {p l0 l1 l2 : List α} {a : Option Addr} {c : Nat} {i j nn : Int}
    (ho : o.op = .call { callee := .builtin .append, args := #[x, y], argTypes := #[t, t] }) (hm : m.here (o :: rest) = true) (hw : wt l E o.guard = some true) (hd : dstOk n o.dst = true) (hx : ev E x = some (.slice (subA a c (0 : Int).toNat sz) l1.length (c - (0 : Int).toNat))) (hy : ev E y = some (.slice (subA a c j.toNat sz) l2.length (c - j.toNat)))
    (ht : isSl P t et) (he : isTy P et agg sz by_ z) (hsz : e.sz = sz) (hr : L[r]? = some (Res.own (eList e et) F p [.slice a p.length c])) (h0 : sub p i j = some l0) (h1 : sub p 0 i = some l1) (h2 : sub p j nn = some l2) (hnn : nn = (p.length : Int)) (hne : (i == j) = false)
    (hS : Kp m (St w0 M (L.set r (Res.own (eList e et) F (l1 ++ l2) [.slice a (l1 ++ l2).length c]))))
    (hk : (l1 ++ l2).length ≤ p.length ∧ p.length ≤ c → OW P n l (St w0 M (L.set r (Res.own (eList e et) F (l1 ++ l2) [.slice a (l1 ++ l2).length c]))) (upd E o.dst (.slice a (l1 ++ l2).length c)) m rest) : OW P n l (St w0 M L) E m (o :: rest) := by
  obtain ⟨g0, g1, g2, _⟩ := sub_some h0
  obtain ⟨_, _, _, e1⟩ := sub_some h1
  obtain ⟨_, _, _, e2⟩ := sub_some h2
  have hij : i ≠ j := by simpa using hne
  obtain ⟨i, rfl⟩ : ∃ q : Nat, i = q := ⟨i.toNat, by omega⟩
  obtain ⟨j, rfl⟩ : ∃ q : Nat, j = q := ⟨j.toNat, by omega⟩
  rw [Int.toNat_natCast] at hy
  rw [show (0 : Int).toNat = 0 from rfl, subA_zero, Nat.sub_zero] at hx
  have el1 : l1 = p.take i := by rw [e1]; simp
  have el2 : l2 = p.drop j := by
    rw [e2, hnn, Int.toNat_natCast, Int.toNat_natCast]
    exact List.take_of_length_le (by simp)
  have len1 : l1.length = i := by rw [el1, List.length_take]; omega
  have len2 : l2.length = p.length - j := by rw [el2, List.length_drop]
  have hlen : (l1 ++ l2).length ≤ p.length := by rw [List.length_append]; omega
  refine ow_loud hm hw fun fr w hF hC _ _ hK => ?_
  obtain ⟨hok, hnd, hlt⟩ := hC.one hr
  obtain ⟨ti, zv, hti, hs, _, _, _⟩ := he.info
  have ht' : P.underlying t = some (.slice et) := ht
  rcases hok with ⟨hp, _, _⟩ | ⟨b, cap, cur, F1, ds, hF1, hcs, hb, k1, k2, k3, k4, k5⟩
  · rw [hp] at g2; simp at g2; omega
  · simp only [List.cons.injEq, Value.slice.injEq, and_true] at hcs
    obtain ⟨rfl, _, rfl⟩ := hcs
    obtain ⟨rfl, rfl⟩ := (flat_own_all hfl).1 k5
    have hFb : F = [b] := hF1
    have hsize : ti.size = e.sz := by rw [hs, hsz]
    have hnl : (l2.flatMap f).length = l2.length * ti.size := by rw [flat_len hfl, hsize]
    have hcur : cur.toList.take (p.length * e.sz) = p.flatMap f := k4
    have hmul : ∀ q : Nat, q ≤ p.length → q * e.sz ≤ p.length * e.sz := fun q hq => Nat.mul_le_mul_right _ hq
    have hpre : cur.toList.take (i * e.sz) = l1.flatMap f := by
      rw [el1, ← flat_take hfl, ← hcur, List.take_take, Nat.min_eq_left (hmul i (by omega))]
    have hg : ∀ q u, (l2.flatMap f)[q]? = some u → cur[j * e.sz + q]? = some u := fun q u hq => by
      rw [el2, ← flat_drop hfl, ← hcur, List.getElem?_drop, List.getElem?_take] at hq
      split at hq
      · simpa using hq
      · cases hq
    have hone : ∀ u ∈ l2.flatMap f, u.oneCell' = true := fun u hu => by
      obtain ⟨x, _, hx⟩ := List.mem_flatMap.1 hu
      exact hfl.one x u hx
    have hfit : l1.length * ti.size + (l2.flatMap f).length ≤ cur.size := by
      rw [hnl, k3, hsize, ← Nat.add_mul]; exact Nat.mul_le_mul_right _ (by omega)
    have hroom : l1.length + l2.length ≤ c := by omega
    have hrun : ∃ a2, subA (some ⟨b, 0, none⟩) c j sz = some a2 ∧ ∀ q u, (l2.flatMap f)[q]? = some u → w.cell? (a2.add q) = some u := by
      unfold subA
      by_cases hcj : c = j
      · refine ⟨_, by rw [if_pos hcj], fun q u hq => ?_⟩
        have : l2 = [] := List.eq_nil_of_length_eq_zero (by omega)
        rw [this] at hq; simp at hq
      · refine ⟨_, by rw [if_neg hcj]; rfl, fun q u hq => ?_⟩
        show w.cell? (((⟨b, 0, none⟩ : Addr).add (j * sz)).add q) = some u
        rw [add_lit, add_lit, cell_of_row w b _ cur et (0, 0) hb, Nat.zero_add, ← hsz]
        exact hg q u hq
    obtain ⟨a2, ha2, hnews⟩ := hrun
    have hr1 := run_append_room (P := P) w t o.type et ti ht' hti b l1.length c cur hb a2 l2.length (c - j) (l2.flatMap f) hnl hnews hone hroom hfit
    have hcat : cur.toList.take (l1.length * ti.size) ++ l2.flatMap f = (l1 ++ l2).flatMap f := by rw [hsize, len1, hpre, List.flatMap_append]
    have hown : (Res.own (eList e et) F (l1 ++ l2) [.slice (some ⟨b, 0, none⟩) (l1 ++ l2).length c]).ok (w.setRow b (cur.toList.take (l1.length * ti.size) ++ l2.flatMap f ++ cur.toList.drop (l1.length * ti.size + (l2.flatMap f).length)).toArray) := by
      refine .inr ⟨b, c, _, [], (l1 ++ l2).flatMap f, hFb, rfl, setRow_heap w b _ _ et _ hb, by omega, k2, ?_, ?_, (flat_own_all hfl).2 ⟨rfl, rfl⟩⟩
      · have e3 : cur.toList.length = c * e.sz := k3
        have e4 : ((l1 ++ l2).flatMap f).length = l1.length * e.sz + l2.length * e.sz := by rw [flat_len hfl, List.length_append, Nat.add_mul]
        have e5 : (l2.flatMap f).length = l2.length * e.sz := flat_len hfl l2
        have := Nat.mul_le_mul_right e.sz hroom
        rw [Nat.add_mul] at this
        rw [hcat]
        show ((l1 ++ l2).flatMap f ++ cur.toList.drop (l1.length * ti.size + (l2.flatMap f).length)).length = _
        rw [List.length_append, List.length_drop, e3, e4, e5, hsize]
        omega
      · rw [hcat]
        show List.take _ ((l1 ++ l2).flatMap f ++ _) = _
        rw [List.take_append, List.take_of_length_le (by rw [flat_len hfl]; exact Nat.le_refl _), flat_len hfl, Nat.sub_self, List.take_zero, List.append_nil]
    have hst : St w0 M (L.set r (Res.own (eList e et) F (l1 ++ l2) [.slice (some ⟨b, 0, none⟩) (l1 ++ l2).length c])) (w.setRow b (cur.toList.take (l1.length * ti.size) ++ l2.flatMap f ++ cur.toList.drop (l1.length * ti.size + (l2.flatMap f).length)).toArray) :=
      hC.upd hr ((ext_setRow hb).mono (fun q hq => .inl (by
        have : q = b := by simpa using hq
        show q ∈ F
        rw [this, hFb]; simp))) _ hown hnd (fun q hq => by
        refine ⟨?_, .inl hq⟩
        have := hlt q hq
        simpa using this)
    refine upon_val (v := .slice (some ⟨b, 0, none⟩) (l1 ++ l2).length c) ?_ (hK _ _ _ _ (hk ⟨hlen, k1⟩) (hF.put _ _ (dstOk_lt hd)) hst (hS _ hst))
    unfold execOp
    rw [ha2] at hy
    simp only [ho, resolve, invoke, builtin, Sem.run_bind, Sem.run_pure, Result.andThen_ok, List.map_toArray, List.map_cons, List.map_nil, hF.ev hx, hF.ev hy, hr1, List.length_append]
/-- what lies behind a slice's end -/
theorem ow_behind {o : Oper} {t et : TypeId} {x lo hi : Operand} {a : Option Addr} {q nn c : Nat} {k1 k2 : IntKind} {agg : Bool} {sz by_ : Nat} {z : List Value} (ho : o.op = .slice t x (some lo) (some hi) none) (hw : wt l E o.guard = some true) (hd : dstOk n o.dst = true) (hx : ev E x = some (.slice a q c))
    (hlo : ev E lo = some (.int k1 (q : Int))) (hhi : ev E hi = some (.int k2 (nn : Int))) (ht : isSl P t et) (he : isTy P et agg sz by_ z) (hle : q ≤ nn ∧ nn ≤ c) (hk : OW P n l C (upd E o.dst (.slice (subA a c q sz) (nn - q) (c - q))) m rest) : OW P n l C E m (o :: rest) := by
  obtain ⟨ti, zv, hti, hs, _, _, _⟩ := he.info
  have ht' : P.underlying t = some (.slice et) := ht
  refine ow_r hw (dstOk_lt hd) (fun fr hF w _ => ?_) hk
  have hb : ∀ (k : IntKind) (q : Int) (y : Nat) (c : BoundsCode), 0 ≤ q → q ≤ y → (Instr.sliceBound (.int k q) y c).run P w = .ok q.toNat w := by
    intro k q y c hq hy
    simp [Instr.sliceBound, asIntOf, hq, hy]
  have b1 := hb k2 (nn : Int) c .sliceAcap (by omega) (by omega)
  have b2 := hb k1 (q : Int) nn .sliceB (by omega) (by omega)
  rw [Int.toNat_natCast] at b1 b2
  unfold execOp
  simp [ho, hF.ev hx, hF.ev hlo, hF.ev hhi, Instr.sliceAt, Instr.slice, Instr.sliceBounds, run_underlying ht', b1, b2, sizeOf, typeInfo, hti, hs, subA]
theorem zero_one {zs : List Value} (hz : ∀ u ∈ zs, u.oneCell' = true) (hne : zs ≠ []) (k : Nat) : ∀ u ∈ (Builtin.zeroCells zs.toArray k).toList, u.oneCell' = true := fun u hu => by
  unfold Builtin.zeroCells at hu
  simp only [Array.toList_map, List.mem_map] at hu
  obtain ⟨i, _, rfl⟩ := hu
  have hp : 0 < zs.length := List.length_pos_iff.2 hne
  have hlt : i % zs.toArray.size < zs.toArray.size := Nat.mod_lt _ (by simpa using hp)
  rw [getElem!_pos zs.toArray (i % zs.toArray.size) hlt]
  exact hz _ (by simp)
/-- it is cleared -/
theorem ow_clear {α : Type} {e : Enc α} {f : α → List Value} (hfl : FlatE e f) {o : Oper} {t et : TypeId} {x : Operand} {agg : Bool} {sz by_ : Nat} {z : List Value} {r : Nat} {F : List Nat} {xs : List α} {a : Option Addr} {nn c : Nat}
    (ho : o.op = .call { callee := .builtin .clear, args := #[x], argTypes := #[t] }) (hm : m.here (o :: rest) = true) (hw : wt l E o.guard = some true) (hd : dstOk n o.dst = true) (hx : ev E x = some (.slice (subA a c xs.length sz) (nn - xs.length) (c - xs.length)))
    (ht : isSl P t et) (he : isTy P et agg sz by_ z) (hsz : e.sz = sz) (hz : ∀ u ∈ z, u.oneCell' = true) (hzl : z.length = sz) (hpos : Nat.blt 0 sz = true) (hr : L[r]? = some (Res.own (eList e et) F xs [.slice a xs.length c])) (hle : xs.length ≤ nn ∧ nn ≤ c)
    (hS : Kp m (St w0 M L)) (hk : OW P n l (St w0 M L) (upd E o.dst (.tuple #[])) m rest) : OW P n l (St w0 M L) E m (o :: rest) := by
  refine ow_loud hm hw fun fr w hF hC _ _ hK => ?_
  obtain ⟨hok, hnd, hlt⟩ := hC.one hr
  obtain ⟨ti, zv, hti, hs, _, hzv, hzc⟩ := he.info
  have ht' : P.underlying t = some (.slice et) := ht
  have hp : 0 < sz := Nat.le_of_ble_eq_true hpos
  have fin : ∀ w', (Builtin.clear_ #[t] o.type #[.slice (subA a c xs.length sz) (nn - xs.length) (c - xs.length)]).run P w = .ok (.tuple #[]) w' → St w0 M L w' → o.wp P fr w _ m.ends := fun w' hrun hst => by
    refine upon_val (v := .tuple #[]) ?_ (hK _ _ _ _ hk (hF.put _ _ (dstOk_lt hd)) hst (hS _ hst))
    unfold execOp
    simp only [ho, resolve, invoke, builtin, Sem.run_bind, Sem.run_pure, Result.andThen_ok, List.map_toArray, List.map_cons, List.map_nil, hF.ev hx, hrun]
  by_cases h0 : nn = xs.length
  · subst h0
    rw [Nat.sub_self] at fin
    refine fin w ?_ hC
    cases hsa : subA a c xs.length sz <;> simp [Builtin.clear_, run_underlying ht']
  · rcases hok with ⟨hx0, _, hcs⟩ | ⟨b, cap, cur, F1, ds, hF1, hcs, hb, k1, k2, k3, k4, k5⟩
    · simp only [List.cons.injEq, Value.slice.injEq, and_true] at hcs
      omega
    · simp only [List.cons.injEq, Value.slice.injEq, and_true] at hcs
      obtain ⟨rfl, _, rfl⟩ := hcs
      obtain ⟨rfl, rfl⟩ := (flat_own_all hfl).1 k5
      have hFb : F = [b] := hF1
      obtain ⟨d, hd1⟩ : ∃ d, nn - xs.length = d + 1 := ⟨nn - xs.length - 1, by omega⟩
      have hsa : subA (some ⟨b, 0, none⟩) c xs.length sz = some ⟨b, xs.length * sz, none⟩ := by
        unfold subA
        rw [if_neg (by omega), Option.map_some, add_lit, Nat.zero_add]
      have hzlen : (Builtin.zeroCells zv.cells (d + 1)).toList.length = (d + 1) * sz := by
        rw [Array.length_toList, hzc]; simp [Builtin.zeroCells, hzl]
      have hfit : xs.length * sz + 0 + (Builtin.zeroCells zv.cells (d + 1)).toList.length ≤ cur.size := by
        rw [hzlen, k3, hsz, Nat.add_zero, ← Nat.add_mul]; exact Nat.mul_le_mul_right _ (by omega)
      have hst := run_storeCells_at P b (xs.length * sz) et (Builtin.zeroCells zv.cells (d + 1)).toList 0 cur w hb hfit (by
        rw [hzc]; exact zero_one hz (fun h => by rw [h] at hzl; simp at hzl; omega) _)
      rw [Nat.add_zero] at hst hfit
      rw [hsa, hd1] at fin
      refine fin _ (by simp [Builtin.clear_, run_underlying ht', zeroValue, typeInfo, hti, hzv, hst]; rfl) ?_
      have hown : (Res.own (eList e et) F xs [.slice (some ⟨b, 0, none⟩) xs.length c]).ok (w.setRow b (cur.toList.take (xs.length * sz) ++ (Builtin.zeroCells zv.cells (d + 1)).toList ++ cur.toList.drop (xs.length * sz + (Builtin.zeroCells zv.cells (d + 1)).toList.length)).toArray) := by
        refine .inr ⟨b, c, _, [], xs.flatMap f, hFb, rfl, setRow_heap w b _ _ et _ hb, k1, k2, ?_, ?_, (flat_own_all hfl).2 ⟨rfl, rfl⟩⟩
        · have e3 : cur.toList.length = c * e.sz := k3
          have e4 : xs.length * sz + (Builtin.zeroCells zv.cells (d + 1)).toList.length ≤ c * e.sz := by rw [← e3]; exact hfit
          show (_ ++ _ ++ _ : List Value).length = _
          rw [List.length_append, List.length_append, List.length_take, List.length_drop, e3]
          omega
        · have e3 : cur.toList.length = c * e.sz := k3
          have e4 : xs.length * sz ≤ cur.toList.length := by have : xs.length * sz + (Builtin.zeroCells zv.cells (d + 1)).toList.length ≤ cur.toList.length := hfit; omega
          rw [hsz]
          show List.take _ (_ ++ _ ++ _) = _
          rw [List.append_assoc, List.take_append, List.take_take, Nat.min_self, List.length_take, Nat.min_eq_left e4, Nat.sub_self, List.take_zero, List.append_nil, ← hsz]
          exact k4
      have := hC.upd hr ((ext_setRow (cs := (cur.toList.take (xs.length * sz) ++ (Builtin.zeroCells zv.cells (d + 1)).toList ++ cur.toList.drop (xs.length * sz + (Builtin.zeroCells zv.cells (d + 1)).toList.length)).toArray) hb).mono (fun q hq => .inl (by
        have : q = b := by simpa using hq
        show q ∈ F
        rw [this, hFb]; simp))) _ hown hnd (fun q hq => by
        refine ⟨?_, .inl hq⟩
        have := hlt q hq
        simpa using this)
      rw [set_getq hr] at this
      rw [List.append_assoc, Array.length_toList] at this
      exact this
end
end Go.Vk
