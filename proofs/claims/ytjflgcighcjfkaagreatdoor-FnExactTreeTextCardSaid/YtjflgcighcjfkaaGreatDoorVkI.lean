/- Own slices by address, calls with results of their own, joins. -/
import Derived.Test.YtjflgcighcjfkaaGreatDoorVkH
import Derived.Deep.Upon
import Derived.Lib.Bytealg
namespace Go.Vk
open Go.RowKit
variable {P : Program} {n : Nat} {C : World → Prop} {E : Env} {m : Md} {l rest : List Oper} {w0 : World} {M : List Nat} {L : List Res} {Q : Exit → Act → World → Prop}

theorem fuelEx : ∃ n : Nat, 1000000000000 ≤ n := ⟨_, Nat.le_refl _⟩
/-- how many rounds a loop is given: more than any has -/
noncomputable def Fuel : Nat := Classical.choose fuelEx
theorem fuel_gt {n : Nat} (h : n < 1000000000000) : n < Fuel := Nat.lt_of_lt_of_le h (Classical.choose_spec fuelEx)
def eltP (a : Option Addr) (k : Nat) : Addr := (a.getD ⟨0, 0, none⟩).add k

theorem rds_own {α : Type} {e : Enc α} {F : List Nat} {xs : α} {cs : List Value} {r : Nat} (hr : L[r]? = some (Res.own e F xs cs)) : ∀ w, St w0 M L w → e.rd w [] xs cs :=
  fun w hw => e.own_rd (hw.ok _ (List.mem_of_getElem? hr)) (by simp)
theorem rds_bor {α : Type} {e : Enc α} {xs : α} {cs : List Value} (h : e.rd w0 M xs cs) : ∀ w, St w0 M L w → e.rd w [] xs cs := Rds.bor h
theorem rd_none {α : Type} {e : Enc α} {w : World} {X : List Nat} : rdList e w X [] [.slice none 0 0] := ⟨none, 0, rfl, by simp, by simp [maxLen], fun h => absurd rfl h⟩

theorem ow_ixV {α : Type} {val : α → Value} {h1 : ∀ x, (val x).oneCell' = true} {o : Oper} {t et : TypeId} {x i : Operand} {agg : Bool} {sz by_ : Nat} {z : List Value} {xs : List α} {k : IntKind} {j : Int} {y : α} {a : Option Addr} {nn cap : Nat}
    (ho : o.op = .indexAddr t x i) (hw : wt l E o.guard = some true) (hd : dstOk n o.dst = true) (hx : ev E x = some (.slice a nn cap)) (hi : ev E i = some (.int k j)) (ht : isSl P t et) (he : isTy P et agg sz by_ z) (hsz : 1 = sz)
    (hr : ∀ w, C w → rdList (eVal val h1) w [] xs [.slice a nn cap]) (hS : ∀ w, m.cls C w → rdList (eVal val h1) w [] xs [.slice a nn cap]) (hj : idx xs j = some y)
    (hk : (∀ w, m.cls C w → At w [] (eltP a j.toNat) [val y]) → OW P n l C (upd E o.dst (.pointer (some (eltP a j.toNat)))) m rest) : OW P n l C E m (o :: rest) := by
  obtain ⟨h0, hl, h2⟩ := idx_some hj
  have key : ∀ w, m.cls C w → ∃ p, a = some p ∧ nn = xs.length ∧ At w [] (p.add j.toNat) [val y] := fun w hw' => by
    obtain ⟨a', cap', hv, _, _, hel⟩ := hS w hw'
    simp only [List.cons.injEq, Value.slice.injEq, and_true] at hv
    obtain ⟨rfl, rfl, rfl⟩ := hv
    obtain ⟨p, rfl, hp⟩ := hel (fun e => by subst e; simp at hl)
    obtain ⟨ds, hd', hA⟩ := hp _ y h2
    have hd' : ds = [val y] := hd'
    subst hd'
    exact ⟨p, rfl, rfl, by simpa [eVal] using hA⟩
  refine ow_r hw (dstOk_lt hd) (v := .pointer (some (eltP a j.toNat))) (fun fr hF w hw' => ?_) (hk (fun w hw' => ?_))
  · obtain ⟨p, rfl, rfl, _⟩ := key w hw'
    unfold execOp
    simp only [ho, hF.ev hx, hF.ev hi, Sem.run_bind, run_indexAt ht he p xs.length cap k j h0 hl w, ← hsz, Nat.mul_one, eltP, Option.getD_some]
    rfl
  · obtain ⟨p, rfl, _, hA⟩ := key w hw'
    exact hA

/-- into an element of a slice of the call's own -/
theorem ow_storeV {α : Type} {val : α → Value} {h1 : ∀ x, (val x).oneCell' = true} {o : Oper} {t : TypeId} {x y : Operand} {a : Option Addr} {j : Int} {nn cap : Nat} {u : α} {sz by_ : Nat} {z : List Value} {i : Nat} {T : TypeId} {xs : List α} {F : List Nat} {u0 : α} (ho : o.op = .store t x y) (hm : m.here (o :: rest) = true) (hw : wt l E o.guard = some true) (hd : dstOk n o.dst = true)
    (hx : ev E x = some (.pointer (some (eltP a j.toNat)))) (hy : ev E y = some (val u)) (ht : isTy P t false sz by_ z) (hr : L[i]? = some (Res.own (eList (eVal val h1) T) F xs [.slice a nn cap])) (hj : idx xs j = some u0) (hvc : ∀ u, (val u).cells = #[val u])
    (hS : Kp m (St w0 M (L.set i (Res.own (eList (eVal val h1) T) F (xs.set j.toNat u) [.slice a nn cap]))))
    (hk : OW P n l (St w0 M (L.set i (Res.own (eList (eVal val h1) T) F (xs.set j.toNat u) [.slice a nn cap]))) (upd E o.dst undef) m rest) : OW P n l (St w0 M L) E m (o :: rest) :=
  ow_loud hm hw fun fr w hF hC _ _ hK => by
    obtain ⟨_, hlt, _⟩ := idx_some hj
    generalize hjj : j.toNat = jj at *
    rcases own_flat (hC.ok _ (List.mem_of_getElem? hr)) with ⟨rfl, _, _⟩ | ⟨b, cap', rfl, hv, cur, hb, h2, h3, h4, h5⟩
    · simp at hlt
    · simp only [Value.slice.injEq] at hv
      obtain ⟨rfl, rfl, rfl⟩ := hv
      have h6 := ht.one rfl
      subst h6
      have hp : eltP (some ⟨b, 0, none⟩) jj = ⟨b, jj, none⟩ := by simp [eltP, add_lit]
      rw [hp] at hx
      have hrun := run_storeAt (vs := [val u]) ht hb (hvc u) rfl (off := jj) (by omega) (by simp [h1])
      have hfl : flat val T b cap (xs.set jj u) (w.setRow b (splice cur.toList jj [val u]).toArray) := by
        refine ⟨_, setRow_heap w b _ _ T _ hb, by simpa using h2, h3, ?_, ?_⟩
        · simp only [List.size_toArray]; rw [splice_len (by simp; omega)]; simpa using h4
        · apply List.ext_getElem?
          intro q
          have h7 : (cur.toList.take xs.length)[q]? = (xs.map val)[q]? := by rw [h5]
          simp only [List.length_set, List.getElem?_take, List.getElem?_map, List.getElem?_set] at h7 ⊢
          by_cases hq : q < xs.length
          · simp only [hq, if_true] at h7 ⊢
            by_cases hqj : jj = q
            · subst hqj
              simp [splice, hlt, Nat.min_eq_left (show jj ≤ cur.size by omega)]
            · simp only [hqj, if_false]
              rw [← h7]
              simp only [splice, List.getElem?_append, List.length_take, List.getElem?_take, List.length_append, List.length_singleton, List.getElem?_drop, Array.length_toList, Nat.min_eq_left (show jj ≤ cur.size by omega)]
              by_cases c1 : q < jj
              · simp [c1, show q < jj + 1 by omega]
              · simp only [show ¬ q < jj + 1 by omega, if_false]
                congr 1; omega
          · have : jj ≠ q := by omega
            simp [hq, this]
      have hst : St w0 M (L.set i (Res.own (eList (eVal val h1) T) [b] (xs.set jj u) [.slice (some ⟨b, 0, none⟩) xs.length cap])) (w.setRow b (splice cur.toList jj [val u]).toArray) := by
        refine hC.upd hr (ext_setRow hb) _ ?_ (by simp [Res.own]) (fun c hc => ?_)
        · have := flat_own (h1 := h1) hfl
          rwa [List.length_set] at this
        · have : c = b := by simpa [Res.own] using hc
          subst this
          exact ⟨by simpa using (Array.getElem?_eq_some_iff.1 hb).1, .inl (by simp [Res.own])⟩
      refine upon_skip ?_ (hK _ _ _ _ hk (hF.put _ _ (dstOk_lt hd)) hst (hS _ hst))
      unfold execOp
      simp only [ho, hF.ev hx, hF.ev hy, Sem.run_bind, hrun]
      rfl

/-- a literal of known elements, as a slice of the call's own -/
theorem ow_blit {α : Type} {val : α → Value} {h1 : ∀ x, (val x).oneCell' = true} {o : Oper} {t et : TypeId} {len : Nat} {ps : List (Nat × Operand)} {vs : List Value} (xs : List α) (qs : List (Nat × List Value)) {agg : Bool} {sz by_ : Nat} {z : List Value} (ho : o.op = .buildSlice t len ps.toArray) (hm : m.here (o :: rest) = true) (hw : wt l E o.guard = some true) (hd : dstOk n o.dst = true)
    (hx : evs E (ps.map (·.2)) = some vs) (ht : isSl P t et) (he : isTy P et agg sz by_ z) (hpos : Nat.blt 0 (len * sz) = true) (hsm : Nat.ble (len * sz) 16777216 = true) (hlen : xs.length = len)
    (hp : Parts (fun i => some (i * sz, sz)) (len * sz) ((ps.map (·.1)).zip vs) qs) (hds : laid ((List.range (len * sz)).map fun i => z[i % z.length]!) qs = xs.map val) (hsz : 1 = sz)
    (hS : ∀ b, Kp m (St w0 M (L ++ [Res.own (eList (eVal val h1) et) [b] xs [.slice (some ⟨b, 0, none⟩) xs.length len]])))
    (hk : ∀ b, OW P n l (St w0 M (L ++ [Res.own (eList (eVal val h1) et) [b] xs [.slice (some ⟨b, 0, none⟩) xs.length len]])) (upd E o.dst (.slice (some ⟨b, 0, none⟩) xs.length len)) m rest) : OW P n l (St w0 M L) E m (o :: rest) := by
  have hst : ∀ b w, St w0 M (L ++ [Res.box b et (xs.map val)]) w → St w0 M (L ++ [Res.own (eList (eVal val h1) et) [b] xs [.slice (some ⟨b, 0, none⟩) xs.length len]]) w := fun b w h => by
    have hi : (L ++ [Res.box b et (xs.map val)])[L.length]? = some (Res.box b et (xs.map val)) := by simp
    have := h.recast (r' := Res.own (eList (eVal val h1) et) [b] xs [.slice (some ⟨b, 0, none⟩) xs.length len]) hi rfl (fun ho => by
      have hmx : xs.length ≤ maxLen := by
        rw [hlen]; have := Nat.le_of_ble_eq_true hsm; rw [← hsz] at this; simp only [maxLen]; omega
      have := own_lit (h1 := h1) xs hmx ho
      rwa [← hlen])
    simpa using this
  subst hlen
  refine ow_bslice qs ho hm hw hd hx ht he hpos hsm hp _ hds (fun b w hw' => hS b w (hst b w hw')) (fun b => ?_)
  have := hk b
  cases m with
  | lex Q => exact fun a w hF hC => this a w hF (hst b w hC)
  | any K => cases hm
  | held S Q fl => exact fun s h1 h2 a w hF hC => this s h1 h2 a w hF (hst b w hC)

theorem ow_blit0 {α : Type} {e : Enc α} {o : Oper} {t et : TypeId} {agg : Bool} {sz by_ : Nat} {z : List Value} (ho : o.op = .buildSlice t 0 #[]) (hm : m.here (o :: rest) = true) (hw : wt l E o.guard = some true) (hd : dstOk n o.dst = true)
    (ht : isSl P t et) (he : isTy P et agg sz by_ z)
    (hS : ∀ b, Kp m (St w0 M (L ++ [Res.own (eList e et) [b] [] [.slice (some ⟨b, 0, none⟩) 0 0]])))
    (hk : ∀ b, OW P n l (St w0 M (L ++ [Res.own (eList e et) [b] [] [.slice (some ⟨b, 0, none⟩) 0 0]])) (upd E o.dst (.slice (some ⟨b, 0, none⟩) 0 0)) m rest) : OW P n l (St w0 M L) E m (o :: rest) := by
  have hst : ∀ b w, St w0 M (L ++ [Res.box b et []]) w → St w0 M (L ++ [Res.own (eList e et) [b] [] [.slice (some ⟨b, 0, none⟩) 0 0]]) w := fun b w h => by
    have hi : (L ++ [Res.box b et []])[L.length]? = some (Res.box b et []) := by simp
    have := h.recast (r' := Res.own (eList e et) [b] [] [.slice (some ⟨b, 0, none⟩) 0 0]) hi rfl (fun ho => own_empty ho)
    simpa using this
  refine ow_bslice0 ho hm hw hd ht he (fun b w hw' => hS b w (hst b w hw')) (fun b => ?_)
  have := hk b
  cases m with
  | lex Q => exact fun a w hF hC => this a w hF (hst b w hC)
  | any K => cases hm
  | held S Q fl => exact fun s h1 h2 a w hF hC => this s h1 h2 a w hF (hst b w hC)

/-- append, its second operand whatever slice can be read -/
theorem ow_appR {α : Type} {val : α → Value} {h1 : ∀ x, (val x).oneCell' = true} {o : Oper} {t et : TypeId} {x y : Operand} {agg : Bool} {by_ : Nat} {z : List Value} {r : Nat} {F : List Nat} {xs ys zs : List α} {a : Option Addr} {nn cap : Nat} {a2 : Option Addr} {n2 cap2 : Nat}
    (ho : o.op = .call { callee := .builtin .append, args := #[x, y], argTypes := #[t, t] }) (hm : m.here (o :: rest) = true) (hw : wt l E o.guard = some true) (hd : dstOk n o.dst = true) (hx : ev E x = some (.slice a nn cap)) (hy : ev E y = some (.slice a2 n2 cap2))
    (ht : isSl P t et) (he : isTy P et agg 1 by_ z) (hby : Nat.ble by_ 2048 = true) (hzl : z.length = 1) (hr : L[r]? = some (Res.own (eList (eVal val h1) et) F xs [.slice a nn cap])) (hA : ∀ w, St w0 M L w → rdList (eVal val h1) w [] ys [.slice a2 n2 cap2]) (hz : app xs ys = some zs)
    (hS : ∀ a' c' F', Kp m (St w0 M (L.set r (Res.own (eList (eVal val h1) et) F' zs [.slice a' zs.length c']))))
    (hk : ∀ a' c' F', OW P n l (St w0 M (L.set r (Res.own (eList (eVal val h1) et) F' zs [.slice a' zs.length c']))) (upd E o.dst (.slice a' zs.length c')) m rest) : OW P n l (St w0 M L) E m (o :: rest) := by
  obtain ⟨rfl, hlen⟩ := app_some hz
  refine ow_loud hm hw fun fr w hF hC _ _ hK => ?_
  obtain ⟨hok, hnd, hlt⟩ := hC.one hr
  have hr2 := hA w hC
  obtain ⟨i, zv, hi, hs, hb, hzv, hzc⟩ := he.info
  have fin : ∀ v' w' F', (Builtin.append_ #[t, t] o.type #[.slice a nn cap, .slice a2 n2 cap2]).run P w = .ok v' w' → ownList (eVal val h1) et w' F' (xs ++ ys) [v'] → Ext F w w' → F'.Nodup → (∀ b ∈ F', b < w'.heap.size ∧ (b ∈ F ∨ w.heap.size ≤ b)) →
      o.wp P fr w _ m.ends := fun v' w' F' hrun hown hext hnd' hF' => by
    obtain ⟨a', c', hv, _⟩ := (eList (eVal val h1) et).own_rd (X := []) hown (by simp)
    simp only [List.cons.injEq, and_true] at hv
    subst hv
    have hst : St w0 M (L.set r (Res.own (eList (eVal val h1) et) F' (xs ++ ys) [.slice a' (xs ++ ys).length c'])) w' := hC.upd hr hext _ hown hnd' hF'
    refine upon_val ?_ (hK _ _ _ _ (hk a' c' F') (hF.put _ _ (dstOk_lt hd)) hst (hS a' c' F' _ hst))
    unfold execOp
    simp only [ho, resolve, invoke, builtin, Sem.run_bind, Sem.run_pure, Result.andThen_ok, List.map_toArray, List.map_cons, List.map_nil, hF.ev hx, hF.ev hy, hrun]
  cases a2 with
  | none =>
    have hys : ys = [] ∧ n2 = 0 := by
      obtain ⟨a', cap', hv, _, _, hel⟩ := hr2
      simp only [List.cons.injEq, Value.slice.injEq, and_true] at hv
      obtain ⟨rfl, rfl, rfl⟩ := hv
      by_cases hne : ys = []
      · subst hne; exact ⟨rfl, rfl⟩
      · obtain ⟨p, hp, _⟩ := hel hne; cases hp
    obtain ⟨rfl, rfl⟩ := hys
    have hle : nn ≤ cap := by
      obtain ⟨a', cap', hv, h2, _⟩ := (eList (eVal val h1) et).own_rd (X := []) hok (by simp)
      simp only [List.cons.injEq, Value.slice.injEq, and_true] at hv
      obtain ⟨rfl, rfl, rfl⟩ := hv
      exact h2
    have hrun := run_append_nothing (P := P) w t t o.type et i ht hi a nn cap hle (.slice none 0 cap2) (Src.ofNil w ht cap2)
    exact fin _ _ F hrun (by rw [List.append_nil]; exact hok) (Ext.refl _ _) hnd (fun b hb => ⟨hlt b hb, .inl hb⟩)
  | some p =>
    obtain ⟨hn, hAt⟩ := rd_cells hr2
    obtain ⟨v', w', F', hrun, hown, hext, hnd', hF'⟩ := append_core (ty := o.type) ht he hby rfl rfl hzl (F := F) (Fy := []) hok (mm := n2) (cap := cap2) hn hAt (ownAll_vals ys) hlen (by rw [List.append_nil]; exact hnd) (by simp)
    exact fin v' w' F' hrun hown hext hnd' (fun b hb => by
      obtain ⟨h2, h3⟩ := hF' b hb
      refine ⟨h2, ?_⟩
      rcases h3 with h3 | h3 | h3
      · exact .inl h3
      · cases h3
      · exact .inr h3)

/-! ### results of the callee's own -/
def RetO {α : Type} (e : Enc α) (r : α) (w : World) (en : Ending) (w' : World) : Prop := ∃ v F, en = .returned v ∧ Ext [] w w' ∧ e.own w' F r [v] ∧ F.Nodup ∧ ∀ b ∈ F, w.heap.size ≤ b
def RetV (v : Value) (w : World) (en : Ending) (w' : World) : Prop := en = .returned v ∧ Ext [] w w'

theorem ow_callL {α : Type} {e : Enc α} {T : TypeId} {o : Oper} {f : FuncId} {xs : List Operand} {ts : Array TypeId} {vs : List Value} {r : List α} (ho : o.op = .call { callee := .value (.func f), args := xs.toArray, argTypes := ts }) (hf : isFn P f)
    (hm : m.here (o :: rest) = true) (hw : wt l E o.guard = some true) (hd : dstOk n o.dst = true) (hx : evs E xs = some vs)
    (hc : ∀ w, St w0 M L w → Calls P f vs.toArray w (RetO (eList e T) r w))
    (hS : ∀ a c F, Kp m (St w0 M (L ++ [Res.own (eList e T) F r [.slice a r.length c]])))
    (hk : ∀ a c F, OW P n l (St w0 M (L ++ [Res.own (eList e T) F r [.slice a r.length c]])) (upd E o.dst (.slice a r.length c)) m rest) : OW P n l (St w0 M L) E m (o :: rest) :=
  ow_call (R := fun v w w' => RetO (eList e T) r w (.returned v) w') ho hf hm hw hd hx (fun w hw' => (hc w hw').mono fun en w' h => by
    obtain ⟨v, F, rfl, h2⟩ := h
    exact ⟨v, rfl, v, F, rfl, h2⟩) (fun v w w' hC h => by
    obtain ⟨v', F, he, hext, hown, hnd, hge⟩ := h
    cases he
    obtain ⟨a, c, hv, _⟩ := (eList e T).own_rd (X := []) hown (by simp)
    simp only [List.cons.injEq, and_true] at hv
    subst hv
    exact ⟨_, hC.push hext (Res.own (eList e T) F r [.slice a r.length c]) hown hnd (fun b hb => ⟨hge b hb, (eList e T).own_lt hown b hb⟩), hS a c F, hk a c F⟩)

/-- a callee that writes into a slice of the caller's own -/
def RetM {α : Type} (e : Enc α) (F : List Nat) (zs : α) (v x : Value) (w : World) (en : Ending) (w' : World) : Prop := en = .returned x ∧ Ext F w w' ∧ e.own w' F zs [v]
theorem ow_callM {α : Type} {e : Enc α} {o : Oper} {f : FuncId} {xs : List Operand} {ts : Array TypeId} {vs : List Value} {i : Nat} {F : List Nat} {ys zs : α} {v x : Value} (ho : o.op = .call { callee := .value (.func f), args := xs.toArray, argTypes := ts }) (hf : isFn P f)
    (hm : m.here (o :: rest) = true) (hw : wt l E o.guard = some true) (hd : dstOk n o.dst = true) (hx : evs E xs = some vs) (hr : L[i]? = some (Res.own e F ys [v]))
    (hc : ∀ w, St w0 M L w → e.own w F ys [v] → F.Nodup → Calls P f vs.toArray w (RetM e F zs v x w))
    (hS : Kp m (St w0 M (L.set i (Res.own e F zs [v])))) (hk : OW P n l (St w0 M (L.set i (Res.own e F zs [v]))) (upd E o.dst x) m rest) : OW P n l (St w0 M L) E m (o :: rest) :=
  ow_call (R := fun u w w' => RetM e F zs v x w (.returned u) w') ho hf hm hw hd hx (fun w hw' => by
    obtain ⟨h1, h2, _⟩ := hw'.one hr
    exact (hc w hw' h1 h2).mono fun en w' h => ⟨x, h.1, rfl, h.2.1, h.2.2⟩) (fun u w w' hC h => by
    obtain ⟨he, hext, hown⟩ := h
    cases he
    obtain ⟨_, h2, h3⟩ := hC.one hr
    exact ⟨_, hC.upd hr hext (Res.own e F zs [v]) hown h2 (fun b hb => ⟨Nat.lt_of_lt_of_le (h3 b hb) hext.size, .inl hb⟩), hS, hk⟩)
theorem ret_mut {α : Type} {e : Enc α} {zs : α} {v x : Value} {F : List Nat} {w w' : World} (h : St w F L w') (hi : L[0]? = some (Res.own e F zs [v])) : RetM e F zs v x w (.returned x) w' := ⟨rfl, h.ext, (h.one hi).1⟩
theorem St.initM {α : Type} {e : Enc α} {w : World} {F : List Nat} {xs : α} {cs : List Value} (h : e.own w F xs cs) (hn : F.Nodup) : St w F [Res.own e F xs cs] w :=
  ⟨Ext.refl _ _, fun r hr => by rw [List.mem_singleton.1 hr]; exact h, by rw [foot_one]; exact hn, fun b hb => by rw [foot_one] at hb; exact e.own_lt h b hb, fun b hb => by rw [foot_one] at hb; exact .inr hb⟩
theorem own_sl {α : Type} {e : Enc α} {T : TypeId} {w : World} {F : List Nat} {xs : List α} {v : Value} (h : (eList e T).own w F xs [v]) : ∃ a cap, v = .slice a xs.length cap := rd_sl (e := e) ((eList e T).own_rd (X := []) h (by simp))
theorem ret_own {α : Type} {e : Enc α} {r : α} {v : Value} {F : List Nat} {i : Nat} {w w' : World} (h : St w [] L w') (hi : L[i]? = some (Res.own e F r [v])) : RetO e r w (.returned v) w' := by
  obtain ⟨h1, h2, h3⟩ := h.one hi
  refine ⟨v, F, rfl, h.ext, h1, h2, fun b hb => ?_⟩
  rcases h.new b (mem_foot (List.mem_of_getElem? hi) hb) with h4 | h4
  · exact h4
  · cases h4
theorem ret_nil {α : Type} {e : Enc α} {T : TypeId} {w w' : World} (h : St w [] L w') : RetO (eList e T) [] w (.returned (.slice none 0 0)) w' := ⟨_, [], rfl, h.ext, own_nil, by simp, by simp⟩

/-- only some resources are kept -/
def keepL : List Bool → List Res → List Res
  | true :: bs, r :: L => r :: keepL bs L
  | false :: bs, _ :: L => keepL bs L
  | _, _ => []
theorem keep_sub : ∀ (bs : List Bool) (L : List Res), (keepL bs L).Sublist L
  | [], L => by unfold keepL; simp
  | true :: bs, [] => by unfold keepL; simp
  | false :: bs, [] => by unfold keepL; simp
  | true :: bs, r :: L => (keep_sub bs L).cons_cons r
  | false :: bs, r :: L => (keep_sub bs L).cons r
theorem foot_sub {A B : List Res} (h : A.Sublist B) : (foot A).Sublist (foot B) := by
  induction h with
  | slnil => exact List.Sublist.slnil
  | cons r _ ih => rw [foot_cons]; exact ih.trans (List.sublist_append_right _ _)
  | cons_cons r _ ih => rw [foot_cons, foot_cons]; exact List.Sublist.append (List.Sublist.refl _) ih
theorem St.keep {L' : List Res} {w : World} (bs : List Bool) (hL : keepL bs L = L') (h : St w0 M L w) : St w0 M L' w := by
  subst hL
  have hs := keep_sub bs L
  have hf := foot_sub hs
  exact ⟨h.ext, fun r hr => h.ok r (hs.subset hr), hf.nodup h.nd, fun b hb => h.lt b (hf.subset hb), fun b hb => h.new b (hf.subset hb)⟩

theorem XW.at {C' : World → Prop} {R : Env} {x : Exit} (h : XW n C' R Q x) (hC : ∀ w, C w → C' w) (hs : Sub R E) : XW n C E Q x := fun a w hF hw => h a w (hF.sub hs) (hC w hw)

/-- what comes behind the next k operations, shown once -/
theorem ow_cut (R : Env) (k : Nat) (hk : OW P n l C R m (rest.drop k)) (hs : OW P n l C R m (rest.drop k) → OW P n l C E m rest) : OW P n l C E m rest := hs hk
theorem ow_at {C' : World → Prop} {R : Env} (h : OW P n l C' R (.lex Q) rest) (hC : ∀ w, C w → C' w) (hs : Sub R E) : OW P n l C E (.lex Q) rest := fun a w hF hw => h a w (hF.sub hs) (hC w hw)
theorem panicOk_qs {y : Code} (h : PanicOk Q) : PanicOk (QS P y Q) := fun c a d v w hq => h c a d v w hq
theorem panicOk_qb {id : Nat} (h : PanicOk Q) : PanicOk (QB id Q) := fun c a d v w hq => h c a d v w hq
theorem panicOk_ql {c : Code} {k : Nat} (h : PanicOk Q) : PanicOk (QL P c k Q) := fun c a d v w hq => h c a d v w hq
/-! ### division, shifts -/
def quo (k : IntKind) (x y : Int) : Option Int := if y = 0 then none else some (k.wrap (x.tdiv y))
def rem (x y : Int) : Option Int := if y = 0 then none else some (x.tmod y)
def shl (k : IntKind) (x y : Int) : Option Int := if y < 0 then none else some (ishl k x y)
def shr (k : IntKind) (x y : Int) : Option Int := if y < 0 then none else some (ishr k x y)
theorem ry_quo {o : Oper} {t u : TypeId} {x y : Operand} {k : IntKind} {a b c : Int} (ho : o.op = .binOp .quo t x y u) (hx : ev E x = some (.int k a)) (hy : ev E y = some (.int k b)) (h : quo k a b = some c) : Ry P n C E o (.int k c) := fun fr hF w _ => by
  unfold quo at h
  split at h
  · cases h
  · rename_i hb
    simp only [Option.some.injEq] at h; subst h
    unfold execOp
    simp [ho, hF.ev hx, hF.ev hy, eqGuard_at_int, binOp_quo, Op.intDiv, hb]
theorem ry_rem {o : Oper} {t u : TypeId} {x y : Operand} {k : IntKind} {a b c : Int} (ho : o.op = .binOp .rem t x y u) (hx : ev E x = some (.int k a)) (hy : ev E y = some (.int k b)) (h : rem a b = some c) : Ry P n C E o (.int k c) := fun fr hF w _ => by
  unfold rem at h
  split at h
  · cases h
  · rename_i hb
    simp only [Option.some.injEq] at h; subst h
    unfold execOp
    simp [ho, hF.ev hx, hF.ev hy, eqGuard_at_int, binOp_rem, Op.intDiv, hb]
theorem ry_shl {o : Oper} {t u : TypeId} {x y : Operand} {k k' : IntKind} {a b c : Int} (ho : o.op = .binOp .shl t x y u) (hx : ev E x = some (.int k a)) (hy : ev E y = some (.int k' b)) (h : shl k a b = some c) : Ry P n C E o (.int k c) := fun fr hF w _ => by
  unfold shl at h
  split at h
  · cases h
  · rename_i hb
    simp only [Option.some.injEq] at h; subst h
    unfold execOp
    simp [ho, hF.ev hx, hF.ev hy, eqGuard_at_int, binOp, Op.shift, ishl, hb]
theorem ry_shr {o : Oper} {t u : TypeId} {x y : Operand} {k k' : IntKind} {a b c : Int} (ho : o.op = .binOp .shr t x y u) (hx : ev E x = some (.int k a)) (hy : ev E y = some (.int k' b)) (h : shr k a b = some c) : Ry P n C E o (.int k c) := fun fr hF w _ => by
  unfold shr at h
  split at h
  · cases h
  · rename_i hb
    simp only [Option.some.injEq] at h; subst h
    unfold execOp
    simp [ho, hF.ev hx, hF.ev hy, eqGuard_at_int, binOp, Op.shift, ishr, hb]
/-- one result of the callee's own among several values -/
def RetK {α : Type} (k : Value → Value) (e : Enc α) (r : α) (w : World) (en : Ending) (w' : World) : Prop := ∃ v F, en = .returned (k v) ∧ Ext [] w w' ∧ e.own w' F r [v] ∧ F.Nodup ∧ ∀ b ∈ F, w.heap.size ≤ b
theorem ow_callK {α : Type} (k : Value → Value) {e : Enc α} {T : TypeId} {o : Oper} {f : FuncId} {xs : List Operand} {ts : Array TypeId} {vs : List Value} {r : List α} (ho : o.op = .call { callee := .value (.func f), args := xs.toArray, argTypes := ts }) (hf : isFn P f)
    (hm : m.here (o :: rest) = true) (hw : wt l E o.guard = some true) (hd : dstOk n o.dst = true) (hx : evs E xs = some vs)
    (hc : ∀ w, St w0 M L w → Calls P f vs.toArray w (RetK k (eList e T) r w))
    (hS : ∀ a c F, Kp m (St w0 M (L ++ [Res.own (eList e T) F r [.slice a r.length c]])))
    (hk : ∀ a c F, OW P n l (St w0 M (L ++ [Res.own (eList e T) F r [.slice a r.length c]])) (upd E o.dst (k (.slice a r.length c))) m rest) : OW P n l (St w0 M L) E m (o :: rest) :=
  ow_call (R := fun u w w' => RetK k (eList e T) r w (.returned u) w') ho hf hm hw hd hx (fun w hw' => (hc w hw').mono fun en w' h => by
    obtain ⟨v, F, rfl, h2⟩ := h
    exact ⟨k v, rfl, v, F, rfl, h2⟩) (fun u w w' hC h => by
    obtain ⟨v', F, he, hext, hown, hnd, hge⟩ := h
    cases he
    obtain ⟨a, c, hv, _⟩ := (eList e T).own_rd (X := []) hown (by simp)
    simp only [List.cons.injEq, and_true] at hv
    subst hv
    exact ⟨_, hC.push hext (Res.own (eList e T) F r [.slice a r.length c]) hown hnd (fun b hb => ⟨hge b hb, (eList e T).own_lt hown b hb⟩), hS a c F, hk a c F⟩)
theorem ret_ownK {α : Type} {k : Value → Value} {e : Enc α} {r : α} {v : Value} {F : List Nat} {i : Nat} {w w' : World} (h : St w [] L w') (hi : L[i]? = some (Res.own e F r [v])) : RetK k e r w (.returned (k v)) w' := by
  obtain ⟨v', F', he, h2⟩ := ret_own h hi
  cases he
  exact ⟨v, F', rfl, h2⟩
theorem ret_nilK {α : Type} {k : Value → Value} {e : Enc α} {T : TypeId} {w w' : World} (h : St w [] L w') : RetK k (eList e T) [] w (.returned (k (.slice none 0 0))) w' := ⟨_, [], rfl, h.ext, own_nil, by simp, by simp⟩

/-! ### functions for which the model stands in -/
def isIxb (P : Program) (f : FuncId) : Prop := ∃ fn, P.funcs[f]? = some fn ∧ (fn.name == "runtime.NumGoroutine") = false ∧ fn.body.isNone = true ∧ Extern.findNext fn = none ∧ Extern.find fn = some Extern.BytealgIndexByte.indexByte
theorem ry_ixb {o : Oper} {f : FuncId} {x y : Operand} {ts : Array TypeId} {s : List UInt8} {c : Int} (ho : o.op = .call { callee := .value (.func f), args := #[x, y], argTypes := ts }) (hf : isIxb P f) (hx : ev E x = some (vS s)) (hy : ev E y = some (.int .u8 c)) :
    Ry P n C E o (.int .i64 (Lib.indexByte s c.toNat.toUInt8)) := fun fr hF w _ => by
  obtain ⟨fn, h1, h2, h3, h4, h5⟩ := hf
  have h6 := run_callFunc_extern (P := P) h1 h2 h3 h4 h5 #[vS s, .int .u8 c] w
  have h7 := Lib.run_indexByteString (P := P) ⟨s.toArray⟩ c w
  have hm : (#[x, y].map fr.eval) = #[vS s, .int .u8 c] := by simp [hF.ev hx, hF.ev hy]
  rw [show (Extern.BytealgIndexByte.indexByte #[vS s, .int .u8 c]).run P w = _ from h7] at h6
  unfold execOp
  simp only [ho, resolve, Act.eval, Deferred.ofValue, hm]
  simp [invoke, h6]
def isBl (P : Program) (t : TypeId) : Prop := P.underlying t = some .bool
def blB (P : Program) (t : TypeId) : Bool := match P.underlying t with | some .bool => true | _ => false
theorem isBl_of {t : TypeId} (h : blB P t = true) : isBl P t := by
  unfold blB at h
  split at h
  · assumption
  · cases h
theorem ry_beql {o : Oper} {t u : TypeId} {x y : Operand} {a b : Bool} (ho : o.op = .binOp .eql t x y u) (hx : ev E x = some (.bool a)) (hy : ev E y = some (.bool b)) (ht : isBl P t) : Ry P n C E o (.bool (a == b)) := fun fr hF w _ => by
  have ht' : P.underlying t = some .bool := ht
  have h1 : (eqGuard .eql t x y (.bool a) (.bool b) : Sem Unit).run P w = .ok () w := rfl
  have h2 := run_eql_bool (P := P) w t a b ht'
  unfold execOp
  simp only [ho, hF.ev hx, hF.ev hy, Sem.run_bind, h1, h2, Result.andThen_ok]
  rfl
theorem ry_bneq {o : Oper} {t u : TypeId} {x y : Operand} {a b : Bool} (ho : o.op = .binOp .neq t x y u) (hx : ev E x = some (.bool a)) (hy : ev E y = some (.bool b)) (ht : isBl P t) : Ry P n C E o (.bool (a != b)) := fun fr hF w _ => by
  have ht' : P.underlying t = some .bool := ht
  have h1 : (eqGuard .neq t x y (.bool a) (.bool b) : Sem Unit).run P w = .ok () w := rfl
  have h2 : (binOp .neq t (.bool a) (.bool b)).run P w = .ok (.bool (a != b)) w := by
    have h3 := run_eql_bool (P := P) w t a b ht'
    simp only [binOp, Sem.run_bind] at h3 ⊢
    generalize (Op.equal t (Value.bool a) (Value.bool b)).run P w = q at h3 ⊢
    cases q with
    | ok v w' =>
      simp only [Result.andThen_ok, Sem.run_pure, Result.ok.injEq, Value.bool.injEq] at h3 ⊢
      obtain ⟨rfl, rfl⟩ := h3
      exact ⟨rfl, rfl⟩
    | _ => simp [Result.andThen] at h3
  unfold execOp
  simp only [ho, hF.ev hx, hF.ev hy, Sem.run_bind, h1, h2, Result.andThen_ok]
  rfl
end Go.Vk
