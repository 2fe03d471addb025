/- Structs compared, min, maps that the call makes. -/
import Derived.Test.YtjflgcighcjfkaaGreatDoorVkT
import Derived.Laws.StructEq
import Derived.ChangeKeysEq
import Derived.MapKept
namespace Go.Vk
open Go.RowKit
section
variable {P : Program} {n : Nat} {S C : World → Prop} {E : Env} {m : Md} {l rest : List Oper} {w0 : World} {M : List Nat} {L : List Res}

/-! ### structs of one level compared -/
def eqLeaf (d : TypeDesc) (x y : Value) : Option Bool :=
  match d, x, y with
  | .int _, .int k a, .int k' b => bif kindEq k k' then some (a == b) else none
  | .bool, .bool a, .bool b => some (a == b)
  | .string, .string a, .string b => some (a.data.toList == b.data.toList)
  | _, _, _ => none
def eqfB (P : Program) (xs ys : List Value) : List Field → Option Bool
  | [] => some true
  | f :: fs =>
    match decide (f.name = "_"), P.underlying f.type, xs[f.offset]?, ys[f.offset]? with
    | false, some d, some x, some y =>
      match eqLeaf d x y, eqfB P xs ys fs with
      | some b, some r => some (b && r)
      | _, _ => none
    | _, _, _, _ => none
def eqSB (P : Program) (t : TypeId) (xs ys : List Value) : Option Bool :=
  match P.underlying t with
  | some (.struct fs) => bif P.stoodInHeld t || P.eqGuardType P.depth t then none else eqfB P xs ys fs.toList
  | _ => none
theorem run_eqLeaf {d : Nat} {t : TypeId} {td : TypeDesc} {x y : Value} {b : Bool} (hu : P.underlying t = some td) (h : eqLeaf td x y = some b) (w : World) :
    (Op.equalIn (d + 1) t x y).run P w = .ok b w ∧ P.plainKey t = true := by
  unfold eqLeaf at h
  split at h
  · rename_i k a k' b'
    cases hk : kindEq k k' with
    | false => rw [hk] at h; cases h
    | true =>
      rw [hk] at h
      obtain rfl := kindEq_eq hk
      cases h
      exact ⟨run_equalIn_int w d t _ _ _ _ hu, by simp [Program.plainKey, hu]⟩
  · cases h
    exact ⟨run_equalIn_bool' w d t _ _ hu, by simp [Program.plainKey, hu]⟩
  · cases h
    exact ⟨by rw [run_equalIn_string w d t _ _ hu, ByteArray.toList_eq, ByteArray.toList_eq], by simp [Program.plainKey, hu]⟩
  · cases h
theorem run_eqfB {d : Nat} {xs ys : List Value} (w : World) : ∀ {fs : List Field} {b : Bool}, eqfB P xs ys fs = some b → (Op.eqFields (d + 1) xs.toArray ys.toArray fs).run P w = .ok b w := by
  intro fs
  induction fs with
  | nil => intro b h; cases h; simp [Op.eqFields]
  | cons f fs ih =>
    intro b h
    unfold eqfB at h
    split at h
    · rename_i hn d' x y h1 h2 hx hy
      split at h
      · rename_i b1 r e1 e2
        cases h
        obtain ⟨hr, hp⟩ := run_eqLeaf (d := d) h2 e1 w
        have hne : f.name ≠ "_" := by simpa using h1
        have px := run_part_plain w hp (xs := xs.toArray) (off := f.offset) (by simpa using hx)
        have py := run_part_plain w hp (xs := ys.toArray) (off := f.offset) (by simpa using hy)
        simp only [Op.eqFields, hne, ne_eq, not_false_eq_true, if_true, Sem.run_bind, px, py, hr, Result.andThen_ok]
        cases b1
        · simp
        · simp [ih e2]
      · cases h
    · cases h
theorem run_eqSB {d : Nat} {t : TypeId} {xs ys : List Value} {b : Bool} (h : eqSB P t xs ys = some b) (w : World) :
    (Op.equalIn (d + 2) t (.agg xs.toArray) (.agg ys.toArray)).run P w = .ok b w ∧ P.eqGuardType P.depth t = false := by
  unfold eqSB at h
  split at h
  · rename_i fs hu
    cases hs : P.stoodInHeld t with
    | true => rw [hs] at h; cases h
    | false =>
      cases hg : P.eqGuardType P.depth t with
      | true => rw [hs, hg] at h; cases h
      | false =>
        rw [hs, hg] at h
        have hf : P.fieldsOf t = fs := by unfold Program.fieldsOf; rw [hu]
        refine ⟨?_, rfl⟩
        rw [run_equalIn_struct w (d + 1) t _ _ (by rw [hf]; exact hu) hs, hf]
        exact run_eqfB w h
  · cases h
theorem ry_seql {o : Oper} {t u : TypeId} {x y : Operand} {xs ys : List Value} {b : Bool} (ho : o.op = .binOp .eql t x y u) (hx : ev E x = some (.agg xs.toArray)) (hy : ev E y = some (.agg ys.toArray)) (h : eqSB P t xs ys = some b) : Ry P n S E o (.bool b) := fun a hF w _ => by
  obtain ⟨h1, h2⟩ := run_eqSB (d := 9998) h w
  unfold execOp
  simp only [ho, hF.ev hx, hF.ev hy, Sem.run_bind, run_eqGuard_agg w _ _ _ _ _ _ h2, Result.andThen_ok, run_eql_struct, h1, Sem.run_pure]
theorem ry_sneq {o : Oper} {t u : TypeId} {x y : Operand} {xs ys : List Value} {b : Bool} (ho : o.op = .binOp .neq t x y u) (hx : ev E x = some (.agg xs.toArray)) (hy : ev E y = some (.agg ys.toArray)) (h : eqSB P t xs ys = some b) : Ry P n S E o (.bool (!b)) := fun a hF w _ => by
  obtain ⟨h1, h2⟩ := run_eqSB (d := 9998) h w
  unfold execOp
  simp only [ho, hF.ev hx, hF.ev hy, Sem.run_bind, run_eqGuard_agg w _ _ _ _ _ _ h2, Result.andThen_ok, run_neq_struct, h1, Sem.run_pure]
theorem ry_min {o : Oper} {x y : Operand} {ts : Array TypeId} {k k' : IntKind} {a b : Int} (ho : o.op = .call { callee := .builtin .min, args := #[x, y], argTypes := ts }) (hx : ev E x = some (.int k a)) (hy : ev E y = some (.int k' b)) : Ry P n S E o (.int k (if b < a then b else a)) := fun fr hF w _ => by
  unfold execOp
  simp [ho, resolve, invoke, builtin, hF.ev hx, hF.ev hy, Builtin.min_, Builtin.min2, List.foldlM]
theorem rd_isNone {α : Type} {e : Enc α} {w : World} {X : List Nat} {xs : List α} {a : Option Addr} {nn c : Nat} (h : rdList e w X xs [.slice a nn c]) (ha : a.isNone = true) : xs = [] := by
  obtain ⟨a', c', hv, _, _, hel⟩ := h
  simp only [List.cons.injEq, Value.slice.injEq, and_true] at hv
  obtain ⟨rfl, _, _⟩ := hv
  by_cases hne : xs = []
  · exact hne
  · obtain ⟨p, rfl, _⟩ := hel hne
    cases ha

/-! ### maps -/
variable {κ : Type}
section
variable [DecidableEq κ]
def mGet : List (κ × Int) → κ → Int
  | [], _ => 0
  | (k', v) :: es, k => if k = k' then v else mGet es k
def mFind : List (κ × Int) → κ → Option Nat
  | [], _ => none
  | (k', _) :: es, k => if k = k' then some 0 else (mFind es k).map (· + 1)
/-- the entries, and the entry's number, when an entry is asked for -/
def mEnt (es : List (κ × Int)) (k : κ) : List (κ × Int) × Nat :=
  match mFind es k with
  | some i => (es, i)
  | none => (es ++ [(k, 0)], es.length)
def mPut (es : List (κ × Int)) (k : κ) (x : Int) : List (κ × Int) := (mEnt es k).1.modify (mEnt es k).2 (fun e => (e.1, x))
end
def ents (f : κ → List Value) : Nat → List (κ × Int) → List MapEntry
  | _, [] => []
  | i, (k, v) :: es => { key := .agg (f k).toArray, val := .int .i64 v, born := i } :: ents f (i + 1) es
def Res.map (f : κ → List Value) (b : Nat) (es : List (κ × Int)) : Res :=
  ⟨[b], fun w => w.heap[b]? = some (.map (ents f 0 es).toArray es.length), fun _ _ h ok => (h b (by simp)).trans ok⟩
theorem mapIn {f : κ → List Value} {b : Nat} {es : List (κ × Int)} {i : Nat} (hr : L[i]? = some (Res.map f b es)) : ∀ w, St w0 M L w → w.heap[b]? = some (.map (ents f 0 es).toArray es.length) := fun _ hw => hw.ok _ (List.mem_of_getElem? hr)
theorem ents_get {f : κ → List Value} : ∀ {es : List (κ × Int)} {i q : Nat} {e : κ × Int}, es[q]? = some e → (ents f i es)[q]? = some { key := .agg (f e.1).toArray, val := .int .i64 e.2, born := i + q }
  | (k, v) :: es, i, 0, e, h => by cases h; rfl
  | (k, v) :: es, i, q + 1, e, h => by
    have := ents_get (f := f) (i := i + 1) (q := q) (e := e) (by simpa using h)
    simp only [ents, List.getElem?_cons_succ, this]
    congr 2; omega
  | [], _, _, _, h => by cases h
theorem ents_len {f : κ → List Value} : ∀ (es : List (κ × Int)) (i : Nat), (ents f i es).length = es.length
  | [], _ => rfl
  | (k, v) :: es, i => by simp [ents, ents_len es]
theorem ents_app {f : κ → List Value} : ∀ (es ds : List (κ × Int)) (i : Nat), ents f i (es ++ ds) = ents f i es ++ ents f (i + es.length) ds
  | [], _, _ => rfl
  | (k, v) :: es, ds, i => by
    simp only [List.cons_append, ents, ents_app es, List.length_cons]
    rw [show i + 1 + es.length = i + (es.length + 1) by omega]
theorem ents_modify {f : κ → List Value} (x : Int) : ∀ (es : List (κ × Int)) (i q : Nat), ents f i (es.modify q fun e => (e.1, x)) = (ents f i es).modify q fun e => { e with val := .int .i64 x }
  | [], _, _ => by simp [ents]
  | (k, v) :: es, i, 0 => rfl
  | (k, v) :: es, i, q + 1 => by simp [ents, ents_modify x es]
theorem ents_born {f : κ → List Value} : ∀ (es : List (κ × Int)) (i q : Nat), q < es.length → (ents f i es).findIdx? (fun e => (e.born : Int) == ((i + q : Nat) : Int)) = some q
  | [], _, _, h => by simp at h
  | (k, v) :: es, i, 0, _ => by simp [ents, List.findIdx?_cons]
  | (k, v) :: es, i, q + 1, h => by
    have := ents_born (f := f) es (i + 1) q (by simpa using h)
    rw [show i + 1 + q = i + (q + 1) by omega] at this
    simp only [ents, List.findIdx?_cons]
    rw [if_neg (by simp; omega), this]
    rfl
section
variable [DecidableEq κ]
/-- keys of this type are compared as data -/
structure KeyOk (P : Program) (kt : TypeId) (f : κ → List Value) : Prop where
  eq : ∀ (a b : κ) (w : World), (Op.equal kt (.agg (f a).toArray) (.agg (f b).toArray)).run P w = .ok (decide (a = b)) w
  chk : ∀ (e : Bool) (a : κ) (w : World), (Instr.checkKey e 10000 kt (.agg (f a).toArray)).run P w = .ok () w
  wide : (match P.underlying kt with | some (.array _ _) | some (.struct _) => true | _ => false) = true
  same : ∀ a : κ, Instr.sameBits 10000 (.agg (f a).toArray) (.agg (f a).toArray) = true
def isMap (P : Program) (t kt et : TypeId) : Prop := P.underlying t = some (.map kt et)
theorem run_find {f : κ → List Value} {kt : TypeId} (hK : KeyOk P kt f) (k : κ) (w : World) : ∀ (es : List (κ × Int)) (i j : Nat),
    (Instr.findAsking kt (.agg (f k).toArray) (ents f i es) j).run P w = .ok ((mFind es k).map fun q => (j + q, .int .i64 (mGet es k))) w := by
  intro es
  induction es with
  | nil => intro i j; simp [ents, Instr.findAsking, mFind]
  | cons e es ih =>
    intro i j
    obtain ⟨k', v⟩ := e
    simp only [ents, Instr.findAsking, Sem.run_bind, hK.eq, Result.andThen_ok]
    by_cases h : k = k'
    · simp [h, mFind, mGet]
    · simp only [h, decide_false, Bool.false_eq_true, if_false, ih, mFind, mGet]
      cases mFind es k with
      | none => rfl
      | some q => simp [Nat.add_comm, Nat.add_left_comm]
theorem run_findKey_m {f : κ → List Value} {kt : TypeId} (hK : KeyOk P kt f) (k : κ) (w : World) (es : List (κ × Int)) :
    (Instr.findKey kt (.agg (f k).toArray) (ents f 0 es)).run P w = .ok ((mFind es k).map fun q => (q, .int .i64 (mGet es k))) w := by
  have hw := hK.wide
  have key := run_find hK k w es 0 0
  cases hu : P.underlying kt with
  | none => simp [hu] at hw
  | some kd =>
    cases hes : ents f 0 es with
    | nil =>
      rw [hes] at key
      rw [show (fun q => (0 + q, Value.int .i64 (mGet es k))) = (fun q => (q, Value.int .i64 (mGet es k))) by funext q; rw [Nat.zero_add]] at key
      rw [← key]
      simp [Instr.findKey, run_underlying hu, Instr.findNow, Instr.findAsking]
    | cons e es' =>
      rw [hes] at key
      rw [show (fun q => (0 + q, Value.int .i64 (mGet es k))) = (fun q => (q, Value.int .i64 (mGet es k))) by funext q; rw [Nat.zero_add]] at key
      rw [← key]
      cases kd <;> simp [hu] at hw <;> simp [Instr.findKey, run_underlying hu, Instr.findNow, Instr.sameNow]
theorem mGet_none {es : List (κ × Int)} {k : κ} (h : mFind es k = none) : mGet es k = 0 := by
  induction es with
  | nil => rfl
  | cons e es ih =>
    obtain ⟨k', v⟩ := e
    unfold mFind at h
    unfold mGet
    by_cases hk : k = k'
    · simp [hk] at h
    · rw [if_neg hk] at h ⊢
      exact ih (by simpa using h)
theorem mFind_lt {es : List (κ × Int)} {k : κ} {i : Nat} (h : mFind es k = some i) : i < es.length ∧ ∃ v, es[i]? = some (k, v) := by
  induction es generalizing i with
  | nil => cases h
  | cons e es ih =>
    obtain ⟨k', v⟩ := e
    unfold mFind at h
    by_cases hk : k = k'
    · rw [if_pos hk] at h
      cases h
      exact ⟨by simp, v, by simp [hk]⟩
    · rw [if_neg hk] at h
      cases hq : mFind es k with
      | none => rw [hq] at h; cases h
      | some q =>
        rw [hq] at h
        cases h
        obtain ⟨h1, v', h2⟩ := ih hq
        exact ⟨by simp; omega, v', by simpa using h2⟩
theorem mEnt_lt (es : List (κ × Int)) (k : κ) : (mEnt es k).2 < (mEnt es k).1.length := by
  unfold mEnt
  cases h : mFind es k with
  | none => simp
  | some i => exact (mFind_lt h).1
theorem modify_same {xs : List MapEntry} {i : Nat} {e : MapEntry} (h : xs[i]? = some e) (g : MapEntry → MapEntry) (hg : g e = e) : xs.modify i g = xs := by
  apply List.ext_getElem?
  intro j
  rw [List.getElem?_modify]
  by_cases hj : i = j
  · subst hj; rw [h]; simp [hg]
  · simp [hj]

end
def World.setMap (w : World) (b : Nat) (o : Obj) : World := { w with heap := w.heap.setIfInBounds b o }
theorem ext_setMap {w : World} {b : Nat} {o : Obj} : Ext [b] w (World.setMap w b o) :=
  ⟨rfl, rfl, rfl, by simp [World.setMap], fun c hc hn => by
    have : b ≠ c := fun e => hn (by simp [e])
    simp [World.setMap, this]⟩
theorem st_map {f : κ → List Value} {b : Nat} {es es' : List (κ × Int)} {i : Nat} {w : World} (hC : St w0 M L w) (hr : L[i]? = some (Res.map f b es)) :
    St w0 M (L.set i (Res.map f b es')) (World.setMap w b (.map (ents f 0 es').toArray es'.length)) :=
  hC.upd hr ext_setMap (Res.map f b es') (Go.MapKept.heap_set (mapIn hr w hC)).1 (by simp [Res.map]) (fun c hc => by
    have hcb : c = b := by simpa [Res.map] using hc
    subst hcb
    exact ⟨by simpa [World.setMap] using (Array.getElem?_eq_some_iff.1 (mapIn hr w hC)).1, .inl (by simp [Res.map])⟩)
theorem ow_makeMap {o : Oper} {T : TypeId} (f : κ → List Value) (ho : o.op = .makeMap T none) (hm : m.here (o :: rest) = true) (hw : wt l E o.guard = some true) (hd : dstOk n o.dst = true)
    (hS : ∀ b, Kp m (St w0 M (L ++ [Res.map f b []]))) (hk : ∀ b, OW P n l (St w0 M (L ++ [Res.map f b []])) (upd E o.dst (.map (some b))) m rest) : OW P n l (St w0 M L) E m (o :: rest) :=
  ow_loud hm hw fun a w hF hC _ _ hK => by
    have hst : St w0 M (L ++ [Res.map f w.heap.size []]) (w.alloc (.map #[] 0)) := hC.push (ext_alloc w _) _ (Go.MapKept.heap_alloc w _).1 (by simp [Res.map]) (by simp [Res.map])
    exact upon_val (by unfold execOp; simp [ho, Instr.makeMap]) (hK _ _ _ _ (hk w.heap.size) (hF.put _ _ (dstOk_lt hd)) hst (hS _ _ hst))
def isZ0B (P : Program) (t : TypeId) : Bool :=
  match P.info? t with
  | some i => (match i.zero with | some (.int .i64 (.ofNat 0)) => true | _ => false)
  | none => false
def isZ0 (P : Program) (t : TypeId) : Prop := ∀ w : World, (zeroValue t).run P w = .ok (.int .i64 0) w
theorem isZ0_of {t : TypeId} (h : isZ0B P t = true) : isZ0 P t := fun w => by
  unfold isZ0B at h
  split at h
  · rename_i i hi
    split at h
    · rename_i hz
      simp [zeroValue, typeInfo, hi, hz]
    · cases h
  · cases h
section
variable [DecidableEq κ]
theorem ry_lookup {f : κ → List Value} {o : Oper} {t kt et : TypeId} {x y : Operand} {b : Nat} {es : List (κ × Int)} {k : κ} (ho : o.op = .lookup t x y false) (hx : ev E x = some (.map (some b))) (hy : ev E y = some (.agg (f k).toArray))
    (ht : isMap P t kt et) (he : isZ0 P et) (hK : KeyOk P kt f) (hr : ∀ w, S w → ∃ es', w.heap[b]? = some (.map (ents f 0 es').toArray es'.length) ∧ ∀ q, mGet es' q = mGet es q) : Ry P n S E o (.int .i64 (mGet es k)) := fun a hF w hw => by
  obtain ⟨es', hb, hg⟩ := hr w hw
  rw [← hg k]
  have ht' : P.underlying t = some (.map kt et) := ht
  unfold execOp
  simp only [ho, hF.ev hx, hF.ev hy]
  simp only [Instr.lookup, Sem.run_bind, run_underlying ht', Result.andThen_ok, Go.MapKept.run_getObj_map hb, Sem.run_pure, hK.chk, run_findKey_m hK]
  cases hf : mFind es' k with
  | none =>
    simp [he w, mGet_none hf]
  | some q => simp
theorem mEnt_get (es : List (κ × Int)) (k k' : κ) : mGet (mEnt es k).1 k' = mGet es k' := by
  unfold mEnt
  cases mFind es k with
  | some i => rfl
  | none =>
    show mGet (es ++ [(k, 0)]) k' = _
    induction es with
    | nil => simp [mGet]
    | cons e es ih =>
      obtain ⟨k2, v2⟩ := e
      simp only [List.cons_append, mGet, ih]
/-- the map whose entries read so -/
def Res.mapG (f : κ → List Value) (b : Nat) (es : List (κ × Int)) : Res :=
  ⟨[b], fun w => ∃ es', w.heap[b]? = some (.map (ents f 0 es').toArray es'.length) ∧ ∀ q, mGet es' q = mGet es q, fun _ _ h ok => by
    obtain ⟨es', h1, h2⟩ := ok
    exact ⟨es', (h b (by simp)).trans h1, h2⟩⟩
theorem St.toG {f : κ → List Value} {b : Nat} {es1 es : List (κ × Int)} {w : World} (i : Nat) (hr : L[i]? = some (Res.map f b es1)) (hg : ∀ q, mGet es1 q = mGet es q) (h : St w0 M L w) : St w0 M (L.set i (Res.mapG f b es)) w :=
  h.recast hr rfl (fun ho => ⟨es1, ho, hg⟩)
theorem mapInR {f : κ → List Value} {b : Nat} {es : List (κ × Int)} {i : Nat} (hr : L[i]? = some (Res.map f b es)) : ∀ w, St w0 M L w → ∃ es', w.heap[b]? = some (.map (ents f 0 es').toArray es'.length) ∧ ∀ q, mGet es' q = mGet es q := fun w hw => ⟨es, mapIn hr w hw, fun _ => rfl⟩
theorem mapInG {f : κ → List Value} {b : Nat} {es : List (κ × Int)} {i : Nat} (hr : L[i]? = some (Res.mapG f b es)) : ∀ w, St w0 M L w → ∃ es', w.heap[b]? = some (.map (ents f 0 es').toArray es'.length) ∧ ∀ q, mGet es' q = mGet es q := fun _ hw => hw.ok _ (List.mem_of_getElem? hr)
theorem ow_mapEntry {f : κ → List Value} {o : Oper} {t kt et : TypeId} {x y : Operand} {b r : Nat} {es : List (κ × Int)} {k : κ} (ho : o.op = .mapEntry t x y) (hm : m.here (o :: rest) = true) (hw : wt l E o.guard = some true) (hd : dstOk n o.dst = true)
    (hx : ev E x = some (.map (some b))) (hy : ev E y = some (.agg (f k).toArray)) (ht : isMap P t kt et) (he : isZ0 P et) (hK : KeyOk P kt f) (hr : L[r]? = some (Res.map f b es))
    (hS : Kp m (St w0 M (L.set r (Res.map f b (mEnt es k).1))))
    (hk : OW P n l (St w0 M (L.set r (Res.map f b (mEnt es k).1))) (upd E o.dst (.tuple #[.int .i64 (mGet es k), .int .i64 ((mEnt es k).2 : Int)])) m rest) : OW P n l (St w0 M L) E m (o :: rest) :=
  ow_loud hm hw fun a w hF hC _ _ hK2 => by
    have hb := mapIn hr w hC
    have ht' : P.underlying t = some (.map kt et) := ht
    have hst := st_map (es' := (mEnt es k).1) hC hr
    refine upon_val ?_ (hK2 _ _ _ _ hk (hF.put _ _ (dstOk_lt hd)) hst (hS _ hst))
    unfold execOp
    simp only [ho, hF.ev hx, hF.ev hy]
    simp only [Instr.mapEntry, Sem.run_bind, run_underlying ht', Result.andThen_ok, Go.MapKept.run_getObj_map hb, hK.chk, run_findKey_m hK]
    cases hf : mFind es k with
    | none =>
      have e1 : (ents f 0 (es ++ [(k, 0)])).toArray = (ents f 0 es).toArray.push { key := .agg (f k).toArray, val := .int .i64 0, born := es.length } := by
        rw [ents_app]; simp [ents]
      simp [he w, mGet_none hf, mEnt, hf, Go.MapKept.run_setObj_map _ hb, World.setMap, goInt, e1]
    | some q =>
      obtain ⟨hq, v, hv⟩ := mFind_lt hf
      have hg := ents_get (f := f) (i := 0) hv
      simp only [Nat.zero_add] at hg
      have e0 : (ents f 0 es)[q]? = some { key := .agg (f k).toArray, val := .int .i64 v, born := q } := hg
      have e1 : (ents f 0 es).modify q (fun e => { key := .agg (f k).toArray, val := e.val, born := e.born }) = ents f 0 es := modify_same e0 _ rfl
      simp only [Option.map_some, List.getElem?_toArray, e0, Option.getD_some, Instr.keyThatStays, hK.same, if_true, Sem.run_pure, Sem.run_bind, Result.andThen_ok, Go.MapKept.run_setObj_map _ hb, mEnt, hf, goInt, List.modify_toArray]
      rw [e1]
      rfl
theorem ow_entryStore {f : κ → List Value} {o : Oper} {t : TypeId} {x y u : Operand} {b r : Nat} {es : List (κ × Int)} {k : κ} {v : Int} (ho : o.op = .entryStore t x y u) (hm : m.here (o :: rest) = true) (hw : wt l E o.guard = some true) (hd : dstOk n o.dst = true)
    (hx : ev E x = some (.map (some b))) (hy : ev E y = some (.int .i64 ((mEnt es k).2 : Int))) (hu : ev E u = some (.int .i64 v)) (hr : L[r]? = some (Res.map f b (mEnt es k).1))
    (hS : Kp m (St w0 M (L.set r (Res.map f b (mPut es k v)))))
    (hk : OW P n l (St w0 M (L.set r (Res.map f b (mPut es k v)))) (upd E o.dst undef) m rest) : OW P n l (St w0 M L) E m (o :: rest) :=
  ow_loud hm hw fun a w hF hC _ _ hK2 => by
    have hb := mapIn hr w hC
    have hst := st_map (es' := mPut es k v) hC hr
    refine upon_skip ?_ (hK2 _ _ _ _ hk (hF.put _ _ (dstOk_lt hd)) hst (hS _ hst))
    unfold execOp
    simp only [ho, hF.ev hx, hF.ev hy, hF.ev hu]
    have hbn := ents_born (f := f) (mEnt es k).1 0 (mEnt es k).2 (mEnt_lt es k)
    simp only [Nat.zero_add] at hbn
    have hl : (mPut es k v).length = (mEnt es k).1.length := by simp [mPut]
    simp only [Instr.entryStore, Sem.run_bind, Go.MapKept.run_getObj_map hb, Result.andThen_ok, asInt, asIntOf, Sem.run_pure, List.findIdx?_toArray, hbn, Go.MapKept.run_setObj_map _ hb, World.setMap, List.modify_toArray, hl]
    rw [mPut, ents_modify]
end
/-- what the plain law wants of 'm[k] = v' -/
theorem mGet_put [DecidableEq κ] (es : List (κ × Int)) (k : κ) (v : Int) (k' : κ) : mGet (mPut es k v) k' = if k' = k then v else mGet es k' := by
  have app : ∀ es : List (κ × Int), mFind es k = none → mGet ((es ++ [(k, 0)]).modify es.length fun e => (e.1, v)) k' = if k' = k then v else mGet es k' := by
    intro es
    induction es with
    | nil => intro _; simp [mGet]
    | cons e es ih =>
      intro h
      obtain ⟨k2, v2⟩ := e
      unfold mFind at h
      by_cases hk : k = k2
      · simp [hk] at h
      · rw [if_neg hk] at h
        have := ih (by simpa using h)
        simp only [List.cons_append, List.length_cons, List.modify_succ_cons, mGet]
        rw [this]
        by_cases h2 : k' = k2
        · have : k' ≠ k := fun e => hk (e ▸ h2)
          simp [h2]
          intro h3; exact absurd h3.symm hk
        · simp [h2]
  have found : ∀ (es : List (κ × Int)) (i : Nat), mFind es k = some i → mGet (es.modify i fun e => (e.1, v)) k' = if k' = k then v else mGet es k' := by
    intro es
    induction es with
    | nil => intro i h; cases h
    | cons e es ih =>
      intro i h
      obtain ⟨k2, v2⟩ := e
      unfold mFind at h
      by_cases hk : k = k2
      · rw [if_pos hk] at h
        cases h
        simp only [List.modify_zero_cons, mGet]
        subst hk
        by_cases h2 : k' = k <;> simp [h2]
      · rw [if_neg hk] at h
        cases hq : mFind es k with
        | none => rw [hq] at h; cases h
        | some q =>
          rw [hq] at h
          cases h
          simp only [List.modify_succ_cons, mGet, ih q hq]
          by_cases h2 : k' = k2
          · have : k' ≠ k := fun e => hk (e ▸ h2)
            simp [h2]
            intro h3; exact absurd h3.symm hk
          · simp [h2]
  unfold mPut mEnt
  cases h : mFind es k with
  | none => exact app es h
  | some i => exact found es i h
def chkfB (P : Program) (xs : List Value) (fs : List Field) : Bool := fs.all fun f => !decide (f.name = "_") && (P.plainKey f.type && (xs[f.offset]?).isSome)
def chkSB (P : Program) (t : TypeId) (xs : List Value) : Bool :=
  match P.underlying t with
  | some (.struct fs) => chkfB P xs fs.toList
  | _ => false
theorem run_checkPlain {e : TypeId} (v : Value) (em : Bool) (n : Nat) (w : World) (hv : ∃ d, P.underlying e = some d ∧ ∃ b, eqLeaf d v v = some b) : (Instr.checkKey em (n + 1) e v).run P w = .ok () w := by
  obtain ⟨d, hu, b, hb⟩ := hv
  unfold eqLeaf at hb
  split at hb
  · simp [Instr.checkKey, run_underlying hu]
  · simp [Instr.checkKey, run_underlying hu]
  · simp [Instr.checkKey, run_underlying hu]
  · cases hb
theorem run_checkFields {xs : List Value} {n : Nat} {em : Bool} (w : World) : ∀ {fs : List Field} {b : Bool}, eqfB P xs xs fs = some b →
    (forIn fs PUnit.unit (fun f (_ : PUnit) => (if f.name ≠ "_" then (part f.type xs.toArray f.offset) >>= (fun x => Instr.checkKey em (n + 1) f.type x >>= fun _ => pure (ForInStep.yield PUnit.unit)) else pure (ForInStep.yield PUnit.unit) : Sem (ForInStep PUnit))) : Sem PUnit).run P w = .ok PUnit.unit w := by
  intro fs
  induction fs with
  | nil => intro b _; simp
  | cons f fs ih =>
    intro b h
    unfold eqfB at h
    split at h
    · rename_i hn d' x y h1 h2 hx hy
      rw [hx] at hy
      cases hy
      split at h
      · rename_i b1 r e1 e2
        obtain ⟨hr, hp⟩ := run_eqLeaf (d := 0) h2 e1 w
        have hne : f.name ≠ "_" := by simpa using h1
        have px := run_part_plain w hp (xs := xs.toArray) (off := f.offset) (by simpa using hx)
        have hc := run_checkPlain x em n w ⟨_, h2, _, e1⟩
        simp only [List.forIn_cons, hne, ne_eq, not_false_eq_true, if_true, Sem.run_bind, px, hc, Result.andThen_ok, Sem.run_pure]
        exact ih e2
      · cases h
    · cases h
theorem run_checkS {t : TypeId} {xs : List Value} {b : Bool} {em : Bool} {n : Nat} (h : eqSB P t xs xs = some b) (w : World) : (Instr.checkKey em (n + 2) t (.agg xs.toArray)).run P w = .ok () w := by
  unfold eqSB at h
  split at h
  · rename_i fs hu
    cases hs : P.stoodInHeld t with
    | true => rw [hs] at h; cases h
    | false =>
      cases hg : P.eqGuardType P.depth t with
      | true => rw [hs, hg] at h; cases h
      | false =>
        rw [hs, hg] at h
        have := run_checkFields (n := n) (em := em) w h
        unfold Instr.checkKey
        simp only [Sem.run_bind, run_underlying hu, Result.andThen_ok]
        rw [← Array.forIn_toList]
        exact (congrArg (fun r => Result.andThen r fun _ w' => Result.ok () w') this).trans rfl
  · cases h
theorem keyOk_of [DecidableEq κ] {kt : TypeId} {f : κ → List Value} {g : κ → κ → Bool} (he : ∀ a b, eqSB P kt (f a) (f b) = some (g a b)) (hg : ∀ a b, g a b = decide (a = b)) (hs : ∀ a : κ, Instr.sameBits 10000 (.agg (f a).toArray) (.agg (f a).toArray) = true)
    (hw : (match P.underlying kt with | some (.array _ _) | some (.struct _) => true | _ => false) = true) : KeyOk P kt f :=
  ⟨fun a b w => by rw [← hg]; exact (run_eqSB (d := 9998) (he a b) w).1, fun e a w => run_checkS (n := 9998) (he a a) w, hw, hs⟩
theorem ry_makeFunc {o : Oper} {f : FuncId} {xs : List Operand} {vs : List Value} (ho : o.op = .makeFunc (.func f) #[] xs.toArray) (hx : evs E xs = some vs) : Ry P n S E o (.func (.func f) #[] vs.toArray) := fun a hF w _ => by
  have hm : (xs.toArray.map a.eval) = vs.toArray := by rw [← hF.evs hx]; simp
  unfold execOp
  simp [ho, hm, Instr.makeFunc]
end
end Go.Vk
