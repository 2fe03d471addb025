/- A slice whose elements were handed over, and that is read on. A literal that holds what is borrowed. -/
import Derived.Test.YtjflgcighcjfkaaGreatDoorVkBr
namespace Go.Vk
open Go.RowKit
variable {P : Program} {n : Nat} {C : World → Prop} {E : Env} {m : Md} {l rest : List Oper} {w0 w : World} {M : List Nat} {L : List Res} {Q : Exit → Act → World → Prop}
def duoOk {α : Type} (e : Enc α) (FF : List Nat) (xs : α) (cs : List Value) (ys : α) (cs2 : List Value) (w : World) : Prop :=
  ∃ F F2, (∀ b ∈ F, b ∈ FF) ∧ (∀ b ∈ F2, b ∈ FF) ∧ F.Nodup ∧ e.own w F xs cs ∧ e.own w F2 ys cs2
def Res.duo {α : Type} (e : Enc α) (FF : List Nat) (xs : α) (cs : List Value) (ys : α) (cs2 : List Value) : Res :=
  ⟨FF, duoOk e FF xs cs ys cs2, fun w w' h ok => by
    obtain ⟨F, F2, h1, h2, h3, h4, h5⟩ := ok
    exact ⟨F, F2, h1, h2, h3, e.own_loc h4 (fun b hb => h b (h1 b hb)), e.own_loc h5 (fun b hb => h b (h2 b hb))⟩⟩
theorem St.duo {α : Type} {e : Enc α} {F F2 : List Nat} {xs ys : α} {cs cs2 : List Value} (i j : Nat) (h : St w0 M L w) (hi : L[i]? = some (Res.own e F xs cs)) (hj : L[j]? = some (Res.own e F2 ys cs2)) (hn : nodB [i, j] = true) :
    St w0 M (nilAt L [i, j] ++ [Res.duo e (F ++ F2) xs cs ys cs2]) w := by
  obtain ⟨hok, hnd, hlt⟩ := h.one hi
  obtain ⟨hok2, _, _⟩ := h.one hj
  refine h.re [i, j] _ hn ?_ ?_
  · simp only [selR_cons, selR_nil, hi, hj]
    rw [foot_one, foot_cons, foot_one]
    exact List.Perm.refl _
  · intro s hs
    rw [List.mem_singleton.1 hs]
    exact ⟨F, F2, fun b hb => List.mem_append.2 (.inl hb), fun b hb => List.mem_append.2 (.inr hb), hnd, hok, hok2⟩
theorem St.unduo {α : Type} {e : Enc α} {FF : List Nat} {xs ys : α} {cs cs2 : List Value} {i : Nat} (h : St w0 M L w) (hi : L[i]? = some (Res.duo e FF xs cs ys cs2)) : ∃ F, St w0 M (nilAt L [i] ++ [Res.own e F xs cs]) w := by
  obtain ⟨F, F2, h1, h2, h3, h4, h5⟩ : duoOk e FF xs cs ys cs2 w := (h.one hi).1
  have hL : selR L [i] = [Res.duo e FF xs cs ys cs2] := by simp only [selR_cons, selR_nil, hi]
  refine ⟨F, h.comp [i] hL rfl ⟨Ext.refl _ _, ?_, ?_, ?_, ?_⟩⟩
  · intro s hs; rw [List.mem_singleton.1 hs]; exact h4
  · rw [foot_one]; exact h3
  · intro b hb; rw [foot_one] at hb; exact e.own_lt h4 b hb
  · intro b hb; rw [foot_one] at hb ⊢; exact .inr (h1 b hb)
theorem rds_duo {α : Type} {e : Enc α} {FF : List Nat} {xs ys : α} {cs cs2 : List Value} {r : Nat} (hr : L[r]? = some (Res.duo e FF xs cs ys cs2)) : ∀ w, St w0 M L w → e.rd w [] ys cs2 := fun w hw => by
  obtain ⟨F, F2, h1, h2, h3, h4, h5⟩ : duoOk e FF xs cs ys cs2 w := hw.ok _ (List.mem_of_getElem? hr)
  exact e.own_rd h5 (by simp)
theorem rds_lit {α : Type} {e : Enc α} {b i : Nat} {T : TypeId} {x : α} {cs : List Value} (hi : L[i]? = some (Res.box b T cs)) (h : St w0 M L w) (hx : e.rd w [] x cs) : (eList e T).rd w [] [x] [.slice (some ⟨b, 0, none⟩) 1 1] := by
  have h1 : w.heap[b]? = some (.cells cs.toArray T (0, 0)) := h.ok _ (List.mem_of_getElem? hi)
  refine ⟨_, _, rfl, Nat.le_refl _, by simp [maxLen], fun _ => ⟨_, rfl, fun i x' hx' => ?_⟩⟩
  cases i with
  | zero =>
    simp at hx'
    subst hx'
    refine ⟨cs, hx, ?_⟩
    have := at_box (S := fun w' => w' = w) (b := b) (T := T) (cs := cs) (ds := cs) 0 (fun w' hw' => by rw [hw']; exact h1) (by simp) w rfl
    simpa [add_lit] using this
  | succ i => simp at hx'
theorem ow_appD {α : Type} {e : Enc α} {o : Oper} {t et : TypeId} {x y : Operand} {agg : Bool} {sz by_ : Nat} {z : List Value} {r j : Nat} {F Fy : List Nat} {xs ys zs : List α} {a a2 : Option Addr} {nn cap n2 cap2 : Nat}
    (ho : o.op = .call { callee := .builtin .append, args := #[x, y], argTypes := #[t, t] }) (hm : m.here (o :: rest) = true) (hw : wt l E o.guard = some true) (hd : dstOk n o.dst = true) (hx : ev E x = some (.slice a nn cap)) (hy : ev E y = some (.slice a2 n2 cap2))
    (ht : isSl P t et) (he : isTy P et agg sz by_ z) (hby : Nat.ble by_ 2048 = true) (hsz : e.sz = sz) (hpos : Nat.blt 0 sz = true) (hzl : z.length = sz) (hr : L[r]? = some (Res.own (eList e et) F xs [.slice a nn cap])) (hj : L[j]? = some (Res.own (eList e et) Fy ys [.slice a2 n2 cap2])) (hrj : nodB [r, j] = true) (hz : app xs ys = some zs)
    (hS : ∀ a' c' F', Kp m (St w0 M (nilAt L [r, j] ++ [Res.duo (eList e et) F' zs [.slice a' zs.length c'] ys [.slice a2 n2 cap2]])))
    (hk : ∀ a' c' F', OW P n l (St w0 M (nilAt L [r, j] ++ [Res.duo (eList e et) F' zs [.slice a' zs.length c'] ys [.slice a2 n2 cap2]])) (upd E o.dst (.slice a' zs.length c')) m rest) : OW P n l (St w0 M L) E m (o :: rest) := by
  obtain ⟨rfl, hlen⟩ := app_some hz
  refine ow_loud hm hw fun fr w hF hC _ _ hK => ?_
  have hne : r ≠ j := by
    simp only [nodB, List.all_cons, List.all_nil, Bool.and_true, Bool.not_eq_true'] at hrj
    exact Nat.ne_of_beq_eq_false hrj
  obtain ⟨hok, hnd, hlt⟩ := hC.one hr
  obtain ⟨hok2, hnd2, hlt2⟩ := hC.one hj
  have hdj : ∀ b, b ∈ F → b ∈ Fy → False := fun b hb hs => foot_disj hC.nd hne hr hj (r := Res.own (eList e et) F xs [.slice a nn cap]) (s := Res.own (eList e et) Fy ys [.slice a2 n2 cap2]) hb hs
  have hL : selR L [r, j] = [Res.own (eList e et) F xs [.slice a nn cap], Res.own (eList e et) Fy ys [.slice a2 n2 cap2]] := by simp only [selR_cons, selR_nil, hr, hj]
  obtain ⟨i, zv, hi, hs, hb, hzv, hzc⟩ := he.info
  have fin : ∀ v' w' F', (Builtin.append_ #[t, t] o.type #[.slice a nn cap, .slice a2 n2 cap2]).run P w = .ok v' w' → ownList e et w' F' (xs ++ ys) [v'] → Ext F w w' → F'.Nodup → (∀ b ∈ F', b < w'.heap.size ∧ (b ∈ F ∨ b ∈ Fy ∨ w.heap.size ≤ b)) →
      o.wp P fr w _ m.ends := fun v' w' F' hrun hown hext hnd' hF' => by
    obtain ⟨a', c', hv⟩ := own_sl1 (e := e) (T := et) hown
    simp only [List.cons.injEq, and_true] at hv
    subst hv
    have hst : St w0 M (nilAt L [r, j] ++ [Res.duo (eList e et) (F' ++ Fy.filter (fun b => !F'.contains b)) (xs ++ ys) [.slice a' (xs ++ ys).length c'] ys [.slice a2 n2 cap2]]) w' := by
      have hbl : ∀ b ∈ Fy, w'.heap[b]? = w.heap[b]? := fun b hb => hext.block b (hlt2 b hb) (fun hin => hdj b hin hb)
      have hsz : w.heap.size ≤ w'.heap.size := hext.size
      refine hC.comp [r, j] hL hrj ⟨hext.mono (fun b hb => .inl (by rw [foot_cons, foot_one]; simp [Res.own, hb])), ?_, ?_, ?_, ?_⟩
      · intro s hs; rw [List.mem_singleton.1 hs]
        exact ⟨F', Fy, fun b hb => List.mem_append.2 (.inl hb), fun b hb => by
          by_cases c : b ∈ F'
          · exact List.mem_append.2 (.inl c)
          · exact List.mem_append.2 (.inr (List.mem_filter.2 ⟨hb, by simpa using c⟩)), hnd', hown, (eList e et).own_loc hok2 hbl⟩
      · rw [foot_one]
        refine List.nodup_append.2 ⟨hnd', hnd2.filter _, fun x hx y hy e => ?_⟩
        subst e
        have := (List.mem_filter.1 hy).2
        simp [hx] at this
      · intro b hb; rw [foot_one] at hb
        rcases List.mem_append.1 hb with hb | hb
        · exact (hF' b hb).1
        · exact Nat.lt_of_lt_of_le (hlt2 b (List.mem_filter.1 hb).1) hsz
      · intro b hb
        rw [foot_one] at hb
        rw [foot_cons, foot_one]
        rcases List.mem_append.1 hb with hb | hb
        · rcases (hF' b hb).2 with h3 | h3 | h3
          · exact .inr (by simp [Res.own, h3])
          · exact .inr (by simp [Res.own, h3])
          · exact .inl h3
        · exact .inr (by simp [Res.own, (List.mem_filter.1 hb).1])
    refine upon_val ?_ (hK _ _ _ _ (hk a' c' _) (hF.put _ _ (dstOk_lt hd)) hst (hS a' c' _ _ hst))
    unfold execOp
    simp only [ho, resolve, invoke, builtin, Sem.run_bind, Sem.run_pure, Result.andThen_ok, List.map_toArray, List.map_cons, List.map_nil, hF.ev hx, hF.ev hy, hrun]
  rcases hok2 with ⟨rfl, rfl, hcs2⟩ | ⟨b, cap', cur, F1, ds, rfl, hcs2, hh, k1, k2, k3, k4, k5⟩
  · simp only [List.cons.injEq, Value.slice.injEq, and_true] at hcs2
    obtain ⟨rfl, rfl, rfl⟩ := hcs2
    have hle : nn ≤ cap := by
      obtain ⟨a', cap', hv, h2, _⟩ := (eList e et).own_rd (X := []) hok (by simp)
      simp only [List.cons.injEq, Value.slice.injEq, and_true] at hv
      obtain ⟨rfl, rfl, rfl⟩ := hv
      exact h2
    have hrun := run_append_nothing (P := P) w t t o.type et i ht hi a nn cap hle (.slice none 0 0) (Src.ofNil w ht 0)
    exact fin _ _ F hrun (by rw [List.append_nil]; exact hok) (Ext.refl _ _) hnd (fun b hb => ⟨hlt b hb, .inl hb⟩)
  · simp only [List.cons.injEq, Value.slice.injEq, and_true] at hcs2
    obtain ⟨rfl, rfl, rfl⟩ := hcs2
    have hAt : At w [] ⟨b, 0, none⟩ ds := by
      refine ⟨fun _ => by simp, fun q c hq => ?_⟩
      rw [add_lit, cell_of_row w b _ cur et (0, 0) hh]
      rw [← k4, List.getElem?_take] at hq
      split at hq
      · simpa using hq
      · cases hq
    have hnd1 : (F ++ F1).Nodup := by
      rw [List.nodup_append]
      exact ⟨hnd, (List.nodup_cons.1 hnd2).2, fun c hc d hd e => by subst e; exact hdj c hc (by simp [hd])⟩
    have hdis : ∀ c, (Value.slice a nn cap).ownBlock = some c → c ∉ F1 := by
      intro c hc hin
      have hcF : c ∈ F := by
        rcases hok with ⟨_, _, hv⟩ | ⟨c', cap', cur', F1', ds', rfl, hcs, _⟩
        · simp only [List.cons.injEq, and_true] at hv; rw [hv] at hc; cases hc
        · simp only [List.cons.injEq, and_true] at hcs; rw [hcs] at hc; cases hc; simp
      exact hdj c hcF (by simp [hin])
    obtain ⟨v', w', F', hrun, hown, hext, hnd', hF'⟩ := append_core (ty := o.type) ht he hby hsz hpos hzl (F := F) (Fy := F1) hok (mm := ys.length) (cap := cap2) rfl hAt k5 hlen hnd1 hdis
    exact fin v' w' F' hrun hown hext hnd' (fun c hc => by
      obtain ⟨h2, h3⟩ := hF' c hc
      refine ⟨h2, ?_⟩
      rcases h3 with h3 | h3 | h3
      · exact .inl h3
      · exact .inr (.inl (by simp [h3]))
      · exact .inr (.inr h3))
/-- a call of a function value that makes memory -/
theorem ow_callSV {o : Oper} {y : Operand} {f : FuncId} {xs : List Operand} {ts : Array TypeId} {vs cap : List Value} {R : Value → World → World → Prop} (ho : o.op = .call { callee := .value y, args := xs.toArray, argTypes := ts }) (hf : isFn P f) (hyc : ev E y = some (.func (.func f) #[] cap.toArray))
    (hm : m.here (o :: rest) = true) (hw : wt l E o.guard = some true) (hd : dstOk n o.dst = true) (hx : evs E xs = some vs)
    (hc : ∀ w, C w → Calls P f (vs ++ cap).toArray w fun e w' => ∃ v, e = .returned v ∧ R v w w')
    (hk : ∀ v w w', C w → R v w w' → ∃ C' : World → Prop, C' w' ∧ (∀ u, C' u → m.keeps u) ∧ OW P n l C' (upd E o.dst v) m rest) : OW P n l C E m (o :: rest) :=
  ow_loud hm hw fun a w hF hC _ K hK => by
    unfold Oper.wp
    rw [run_callV ho hf hF hyc hx w, Oper.upon_enter]
    refine (hc w hC).mono fun e w' ⟨v, he, hR⟩ => ?_
    subst he
    obtain ⟨C', hC', hS', h⟩ := hk v w w' hC hR
    exact hK C' _ _ w' h (hF.put _ _ (dstOk_lt hd)) hC' (hS' w' hC')
end Go.Vk
