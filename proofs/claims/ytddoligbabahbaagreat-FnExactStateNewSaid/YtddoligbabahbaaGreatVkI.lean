/- Own slices by address, calls with results of their own, joins. -/
import Derived.Test.YtddoligbabahbaaGreatVkH
import Derived.Deep.Upon
import Derived.Lib.Bytealg
namespace Go.Vk
open Go.RowKit
variable {P : Program} {n : Nat} {C : World → Prop} {E : Env} {m : Md} {l rest : List Oper} {w0 : World} {M : List Nat} {L : List Res} {Q : Exit → Act → World → Prop}
theorem fuelEx : ∃ n : Nat, 1000000000000 ≤ n := ⟨_, Nat.le_refl _⟩
/-- how many rounds a loop is given: more than any has -/
noncomputable def Fuel : Nat := Classical.choose fuelEx
theorem fuel_gt {n : Nat} (h : n < 1000000000000) : n < Fuel := Nat.lt_of_lt_of_le h (Classical.choose_spec fuelEx)
def eltP (a : Option Addr) (k : Nat) : Addr := (a.getD ⟨0, 0, none⟩).add k
theorem rds_own {α : Type} {e : Enc α} {F : List Nat} {xs : α} {cs : List Value} {r : Nat} (hr : L[r]? = some (Res.own e F xs cs)) : ∀ w, St w0 M L w → e.rd w [] xs cs :=
  fun w hw => e.own_rd (hw.ok _ (List.mem_of_getElem? hr)) (by simp)
theorem rds_bor {α : Type} {e : Enc α} {xs : α} {cs : List Value} (h : e.rd w0 M xs cs) : ∀ w, St w0 M L w → e.rd w [] xs cs := Rds.bor h
theorem rd_none {α : Type} {e : Enc α} {w : World} {X : List Nat} : rdList e w X [] [.slice none 0 0] := ⟨none, 0, rfl, by simp, by simp [maxLen], fun h => absurd rfl h⟩
/-- into an element of a slice of the call's own -/
theorem ow_storeV {α : Type} {val : α → Value} {h1 : ∀ x, (val x).oneCell' = true} {o : Oper} {t : TypeId} {x y : Operand} {a : Option Addr} {j : Int} {nn cap : Nat} {u : α} {sz by_ : Nat} {z : List Value} {i : Nat} {T : TypeId} {xs : List α} {F : List Nat} {u0 : α} (ho : o.op = .store t x y) (hm : m.here (o :: rest) = true) (hw : wt l E o.guard = some true) (hd : dstOk n o.dst = true)
    (hx : ev E x = some (.pointer (some (eltP a j.toNat)))) (hy : ev E y = some (val u)) (ht : isTy P t false sz by_ z) (hr : L[i]? = some (Res.own (eList (eVal val h1) T) F xs [.slice a nn cap])) (hj : idx xs j = some u0) (hvc : ∀ u, (val u).cells = #[val u])
    (hS : Kp m (St w0 M (L.set i (Res.own (eList (eVal val h1) T) F (xs.set j.toNat u) [.slice a nn cap]))))
    (hk : OW P n l (St w0 M (L.set i (Res.own (eList (eVal val h1) T) F (xs.set j.toNat u) [.slice a nn cap]))) (upd E o.dst undef) m rest) : OW P n l (St w0 M L) E m (o :: rest) :=
  ow_loud hm hw fun fr w hF hC _ _ hK => by
    obtain ⟨_, hlt, _⟩ := idx_some hj
    generalize hjj : j.toNat = jj at *
    rcases own_flat (hC.ok _ (List.mem_of_getElem? hr)) with ⟨rfl, _, _⟩ | ⟨b, cap', rfl, hv, cur, hb, h2, h3, h4, h5⟩
    · simp at hlt
    · simp only [Value.slice.injEq] at hv
      obtain ⟨rfl, rfl, rfl⟩ := hv
      have h6 := ht.one rfl
      subst h6
      have hp : eltP (some ⟨b, 0, none⟩) jj = ⟨b, jj, none⟩ := by simp [eltP, add_lit]
      rw [hp] at hx
      have hrun := run_storeAt (vs := [val u]) ht hb (hvc u) rfl (off := jj) (by omega) (by simp [h1])
      have hfl : flat val T b cap (xs.set jj u) (w.setRow b (splice cur.toList jj [val u]).toArray) := by
        refine ⟨_, setRow_heap w b _ _ T _ hb, by simpa using h2, h3, ?_, ?_⟩
        · simp only [List.size_toArray]; rw [splice_len (by simp; omega)]; simpa using h4
        · apply List.ext_getElem?
          intro q
          have h7 : (cur.toList.take xs.length)[q]? = (xs.map val)[q]? := by rw [h5]
          simp only [List.length_set, List.getElem?_take, List.getElem?_map, List.getElem?_set] at h7 ⊢
          by_cases hq : q < xs.length
          · simp only [hq, if_true] at h7 ⊢
            by_cases hqj : jj = q
            · subst hqj
              simp [splice, hlt, Nat.min_eq_left (show jj ≤ cur.size by omega)]
            · simp only [hqj, if_false]
              rw [← h7]
              simp only [splice, List.getElem?_append, List.length_take, List.getElem?_take, List.length_append, List.length_singleton, List.getElem?_drop, Array.length_toList, Nat.min_eq_left (show jj ≤ cur.size by omega)]
              by_cases c1 : q < jj
              · simp [c1, show q < jj + 1 by omega]
              · simp only [show ¬ q < jj + 1 by omega, if_false]
                congr 1; omega
          · have : jj ≠ q := by omega
            simp [hq, this]
      have hst : St w0 M (L.set i (Res.own (eList (eVal val h1) T) [b] (xs.set jj u) [.slice (some ⟨b, 0, none⟩) xs.length cap])) (w.setRow b (splice cur.toList jj [val u]).toArray) := by
        refine hC.upd hr (ext_setRow hb) _ ?_ (by simp [Res.own]) (fun c hc => ?_)
        · have := flat_own (h1 := h1) hfl
          rwa [List.length_set] at this
        · have : c = b := by simpa [Res.own] using hc
          subst this
          exact ⟨by simpa using (Array.getElem?_eq_some_iff.1 hb).1, .inl (by simp [Res.own])⟩
      refine upon_skip ?_ (hK _ _ _ _ hk (hF.put _ _ (dstOk_lt hd)) hst (hS _ hst))
      unfold execOp
      simp only [ho, hF.ev hx, hF.ev hy, Sem.run_bind, hrun]
      rfl
/-- a literal of known elements, as a slice of the call's own -/
theorem ow_blit {α : Type} {val : α → Value} {h1 : ∀ x, (val x).oneCell' = true} {o : Oper} {t et : TypeId} {len : Nat} {ps : List (Nat × Operand)} {vs : List Value} (xs : List α) (qs : List (Nat × List Value)) {agg : Bool} {sz by_ : Nat} {z : List Value} (ho : o.op = .buildSlice t len ps.toArray) (hm : m.here (o :: rest) = true) (hw : wt l E o.guard = some true) (hd : dstOk n o.dst = true)
    (hx : evs E (ps.map (·.2)) = some vs) (ht : isSl P t et) (he : isTy P et agg sz by_ z) (hpos : Nat.blt 0 (len * sz) = true) (hsm : Nat.ble (len * sz) 16777216 = true) (hlen : xs.length = len)
    (hp : Parts (fun i => some (i * sz, sz)) (len * sz) ((ps.map (·.1)).zip vs) qs) (hds : laid ((List.range (len * sz)).map fun i => z[i % z.length]!) qs = xs.map val) (hsz : 1 = sz)
    (hS : ∀ b, Kp m (St w0 M (L ++ [Res.own (eList (eVal val h1) et) [b] xs [.slice (some ⟨b, 0, none⟩) xs.length len]])))
    (hk : ∀ b, OW P n l (St w0 M (L ++ [Res.own (eList (eVal val h1) et) [b] xs [.slice (some ⟨b, 0, none⟩) xs.length len]])) (upd E o.dst (.slice (some ⟨b, 0, none⟩) xs.length len)) m rest) : OW P n l (St w0 M L) E m (o :: rest) := by
  have hst : ∀ b w, St w0 M (L ++ [Res.box b et (xs.map val)]) w → St w0 M (L ++ [Res.own (eList (eVal val h1) et) [b] xs [.slice (some ⟨b, 0, none⟩) xs.length len]]) w := fun b w h => by
    have hi : (L ++ [Res.box b et (xs.map val)])[L.length]? = some (Res.box b et (xs.map val)) := by simp
    have := h.recast (r' := Res.own (eList (eVal val h1) et) [b] xs [.slice (some ⟨b, 0, none⟩) xs.length len]) hi rfl (fun ho => by
      have hmx : xs.length ≤ maxLen := by
        rw [hlen]; have := Nat.le_of_ble_eq_true hsm; rw [← hsz] at this; simp only [maxLen]; omega
      have := own_lit (h1 := h1) xs hmx ho
      rwa [← hlen])
    simpa using this
  subst hlen
  refine ow_bslice qs ho hm hw hd hx ht he hpos hsm hp _ hds (fun b w hw' => hS b w (hst b w hw')) (fun b => ?_)
  have := hk b
  cases m with
  | lex Q => exact fun a w hF hC => this a w hF (hst b w hC)
  | any K => cases hm
  | held S Q fl => exact fun s h1 h2 a w hF hC => this s h1 h2 a w hF (hst b w hC)
theorem ow_blit0 {α : Type} {e : Enc α} {o : Oper} {t et : TypeId} {agg : Bool} {sz by_ : Nat} {z : List Value} (ho : o.op = .buildSlice t 0 #[]) (hm : m.here (o :: rest) = true) (hw : wt l E o.guard = some true) (hd : dstOk n o.dst = true)
    (ht : isSl P t et) (he : isTy P et agg sz by_ z)
    (hS : ∀ b, Kp m (St w0 M (L ++ [Res.own (eList e et) [b] [] [.slice (some ⟨b, 0, none⟩) 0 0]])))
    (hk : ∀ b, OW P n l (St w0 M (L ++ [Res.own (eList e et) [b] [] [.slice (some ⟨b, 0, none⟩) 0 0]])) (upd E o.dst (.slice (some ⟨b, 0, none⟩) 0 0)) m rest) : OW P n l (St w0 M L) E m (o :: rest) := by
  have hst : ∀ b w, St w0 M (L ++ [Res.box b et []]) w → St w0 M (L ++ [Res.own (eList e et) [b] [] [.slice (some ⟨b, 0, none⟩) 0 0]]) w := fun b w h => by
    have hi : (L ++ [Res.box b et []])[L.length]? = some (Res.box b et []) := by simp
    have := h.recast (r' := Res.own (eList e et) [b] [] [.slice (some ⟨b, 0, none⟩) 0 0]) hi rfl (fun ho => own_empty ho)
    simpa using this
  refine ow_bslice0 ho hm hw hd ht he (fun b w hw' => hS b w (hst b w hw')) (fun b => ?_)
  have := hk b
  cases m with
  | lex Q => exact fun a w hF hC => this a w hF (hst b w hC)
  | any K => cases hm
  | held S Q fl => exact fun s h1 h2 a w hF hC => this s h1 h2 a w hF (hst b w hC)
/-- append, its second operand whatever slice can be read -/
theorem ow_appR {α : Type} {val : α → Value} {h1 : ∀ x, (val x).oneCell' = true} {o : Oper} {t et : TypeId} {x y : Operand} {agg : Bool} {by_ : Nat} {z : List Value} {r : Nat} {F : List Nat} {xs ys zs : List α} {a : Option Addr} {nn cap : Nat} {a2 : Option Addr} {n2 cap2 : Nat}
    (ho : o.op = .call { callee := .builtin .append, args := #[x, y], argTypes := #[t, t] }) (hm : m.here (o :: rest) = true) (hw : wt l E o.guard = some true) (hd : dstOk n o.dst = true) (hx : ev E x = some (.slice a nn cap)) (hy : ev E y = some (.slice a2 n2 cap2))
    (ht : isSl P t et) (he : isTy P et agg 1 by_ z) (hby : Nat.ble by_ 2048 = true) (hzl : z.length = 1) (hr : L[r]? = some (Res.own (eList (eVal val h1) et) F xs [.slice a nn cap])) (hA : ∀ w, St w0 M L w → rdList (eVal val h1) w [] ys [.slice a2 n2 cap2]) (hz : app xs ys = some zs)
    (hS : ∀ a' c' F', Kp m (St w0 M (L.set r (Res.own (eList (eVal val h1) et) F' zs [.slice a' zs.length c']))))
    (hk : ∀ a' c' F', OW P n l (St w0 M (L.set r (Res.own (eList (eVal val h1) et) F' zs [.slice a' zs.length c']))) (upd E o.dst (.slice a' zs.length c')) m rest) : OW P n l (St w0 M L) E m (o :: rest) := by
  obtain ⟨rfl, hlen⟩ := app_some hz
  refine ow_loud hm hw fun fr w hF hC _ _ hK => ?_
  obtain ⟨hok, hnd, hlt⟩ := hC.one hr
  have hr2 := hA w hC
  obtain ⟨i, zv, hi, hs, hb, hzv, hzc⟩ := he.info
  have fin : ∀ v' w' F', (Builtin.append_ #[t, t] o.type #[.slice a nn cap, .slice a2 n2 cap2]).run P w = .ok v' w' → ownList (eVal val h1) et w' F' (xs ++ ys) [v'] → Ext F w w' → F'.Nodup → (∀ b ∈ F', b < w'.heap.size ∧ (b ∈ F ∨ w.heap.size ≤ b)) →
      o.wp P fr w _ m.ends := fun v' w' F' hrun hown hext hnd' hF' => by
    obtain ⟨a', c', hv, _⟩ := (eList (eVal val h1) et).own_rd (X := []) hown (by simp)
    simp only [List.cons.injEq, and_true] at hv
    subst hv
    have hst : St w0 M (L.set r (Res.own (eList (eVal val h1) et) F' (xs ++ ys) [.slice a' (xs ++ ys).length c'])) w' := hC.upd hr hext _ hown hnd' hF'
    refine upon_val ?_ (hK _ _ _ _ (hk a' c' F') (hF.put _ _ (dstOk_lt hd)) hst (hS a' c' F' _ hst))
    unfold execOp
    simp only [ho, resolve, invoke, builtin, Sem.run_bind, Sem.run_pure, Result.andThen_ok, List.map_toArray, List.map_cons, List.map_nil, hF.ev hx, hF.ev hy, hrun]
  cases a2 with
  | none =>
    have hys : ys = [] ∧ n2 = 0 := by
      obtain ⟨a', cap', hv, _, _, hel⟩ := hr2
      simp only [List.cons.injEq, Value.slice.injEq, and_true] at hv
      obtain ⟨rfl, rfl, rfl⟩ := hv
      by_cases hne : ys = []
      · subst hne; exact ⟨rfl, rfl⟩
      · obtain ⟨p, hp, _⟩ := hel hne; cases hp
    obtain ⟨rfl, rfl⟩ := hys
    have hle : nn ≤ cap := by
      obtain ⟨a', cap', hv, h2, _⟩ := (eList (eVal val h1) et).own_rd (X := []) hok (by simp)
      simp only [List.cons.injEq, Value.slice.injEq, and_true] at hv
      obtain ⟨rfl, rfl, rfl⟩ := hv
      exact h2
    have hrun := run_append_nothing (P := P) w t t o.type et i ht hi a nn cap hle (.slice none 0 cap2) (Src.ofNil w ht cap2)
    exact fin _ _ F hrun (by rw [List.append_nil]; exact hok) (Ext.refl _ _) hnd (fun b hb => ⟨hlt b hb, .inl hb⟩)
  | some p =>
    obtain ⟨hn, hAt⟩ := rd_cells hr2
    obtain ⟨v', w', F', hrun, hown, hext, hnd', hF'⟩ := append_core (ty := o.type) ht he hby rfl rfl hzl (F := F) (Fy := []) hok (mm := n2) (cap := cap2) hn hAt (ownAll_vals ys) hlen (by rw [List.append_nil]; exact hnd) (by simp)
    exact fin v' w' F' hrun hown hext hnd' (fun b hb => by
      obtain ⟨h2, h3⟩ := hF' b hb
      refine ⟨h2, ?_⟩
      rcases h3 with h3 | h3 | h3
      · exact .inl h3
      · cases h3
      · exact .inr h3)
theorem XW.at {C' : World → Prop} {R : Env} {x : Exit} (h : XW n C' R Q x) (hC : ∀ w, C w → C' w) (hs : Sub R E) : XW n C E Q x := fun a w hF hw => h a w (hF.sub hs) (hC w hw)
/-- what comes behind the next k operations, shown once -/
theorem ow_cut (R : Env) (k : Nat) (hk : OW P n l C R m (rest.drop k)) (hs : OW P n l C R m (rest.drop k) → OW P n l C E m rest) : OW P n l C E m rest := hs hk
theorem panicOk_qs {y : Code} (h : PanicOk Q) : PanicOk (QS P y Q) := fun c a d v w hq => h c a d v w hq
theorem panicOk_qb {id : Nat} (h : PanicOk Q) : PanicOk (QB id Q) := fun c a d v w hq => h c a d v w hq
theorem panicOk_ql {c : Code} {k : Nat} (h : PanicOk Q) : PanicOk (QL P c k Q) := fun c a d v w hq => h c a d v w hq
/-! ### division, shifts -/
def quo (k : IntKind) (x y : Int) : Option Int := if y = 0 then none else some (k.wrap (x.tdiv y))
def rem (x y : Int) : Option Int := if y = 0 then none else some (x.tmod y)
def shl (k : IntKind) (x y : Int) : Option Int := if y < 0 then none else some (ishl k x y)
def shr (k : IntKind) (x y : Int) : Option Int := if y < 0 then none else some (ishr k x y)
theorem ry_quo {o : Oper} {t u : TypeId} {x y : Operand} {k : IntKind} {a b c : Int} (ho : o.op = .binOp .quo t x y u) (hx : ev E x = some (.int k a)) (hy : ev E y = some (.int k b)) (h : quo k a b = some c) : Ry P n C E o (.int k c) := fun fr hF w _ => by
  unfold quo at h
  split at h
  · cases h
  · rename_i hb
    simp only [Option.some.injEq] at h; subst h
    unfold execOp
    simp [ho, hF.ev hx, hF.ev hy, eqGuard_at_int, binOp_quo, Op.intDiv, hb]
theorem ry_rem {o : Oper} {t u : TypeId} {x y : Operand} {k : IntKind} {a b c : Int} (ho : o.op = .binOp .rem t x y u) (hx : ev E x = some (.int k a)) (hy : ev E y = some (.int k b)) (h : rem a b = some c) : Ry P n C E o (.int k c) := fun fr hF w _ => by
  unfold rem at h
  split at h
  · cases h
  · rename_i hb
    simp only [Option.some.injEq] at h; subst h
    unfold execOp
    simp [ho, hF.ev hx, hF.ev hy, eqGuard_at_int, binOp_rem, Op.intDiv, hb]
def isBl (P : Program) (t : TypeId) : Prop := P.underlying t = some .bool
def blB (P : Program) (t : TypeId) : Bool := match P.underlying t with | some .bool => true | _ => false
theorem isBl_of {t : TypeId} (h : blB P t = true) : isBl P t := by
  unfold blB at h
  split at h
  · assumption
  · cases h
theorem ry_bneq {o : Oper} {t u : TypeId} {x y : Operand} {a b : Bool} (ho : o.op = .binOp .neq t x y u) (hx : ev E x = some (.bool a)) (hy : ev E y = some (.bool b)) (ht : isBl P t) : Ry P n C E o (.bool (a != b)) := fun fr hF w _ => by
  have ht' : P.underlying t = some .bool := ht
  have h1 : (eqGuard .neq t x y (.bool a) (.bool b) : Sem Unit).run P w = .ok () w := rfl
  have h2 : (binOp .neq t (.bool a) (.bool b)).run P w = .ok (.bool (a != b)) w := by
    have h3 := run_eql_bool (P := P) w t a b ht'
    simp only [binOp, Sem.run_bind] at h3 ⊢
    generalize (Op.equal t (Value.bool a) (Value.bool b)).run P w = q at h3 ⊢
    cases q with
    | ok v w' =>
      simp only [Result.andThen_ok, Sem.run_pure, Result.ok.injEq, Value.bool.injEq] at h3 ⊢
      obtain ⟨rfl, rfl⟩ := h3
      exact ⟨rfl, rfl⟩
    | _ => simp [Result.andThen] at h3
  unfold execOp
  simp only [ho, hF.ev hx, hF.ev hy, Sem.run_bind, h1, h2, Result.andThen_ok]
  rfl
end Go.Vk
