/- append, strings, slices of slices. -/
import Derived.Test.YtddoligbabahbaaGreatVkG
import Derived.Lib.AppendStr
import Derived.WalkSpells
namespace Go.Vk
open Go.RowKit
variable {P : Program} {n : Nat} {C : World → Prop} {E : Env} {m : Md} {l rest : List Oper} {w0 : World} {M : List Nat} {L : List Res} {Q : Exit → Act → World → Prop}
def app {α : Type} (xs ys : List α) : Option (List α) := if xs.length + ys.length ≤ 68719476736 then some (xs ++ ys) else none
theorem app_some {α : Type} {xs ys zs : List α} (h : app xs ys = some zs) : zs = xs ++ ys ∧ xs.length + ys.length ≤ 68719476736 := by
  unfold app at h
  split at h
  · exact ⟨(Option.some.inj h).symm, ‹_›⟩
  · cases h
theorem own_row {α : Type} {e : Enc α} {T : TypeId} {w : World} {F : List Nat} {xs : List α} {v : Value} (h : ownList e T w F xs [v]) :
    ∃ ds F1, w.ownsRow 0 T e.sz v xs.length ds ∧ ownAll e w F1 xs ds ∧ ((F = [] ∧ F1 = [] ∧ xs = [] ∧ v = .slice none 0 0) ∨ ∃ b, F = b :: F1 ∧ v.ownBlock = some b) := by
  rcases h with ⟨rfl, rfl, hv⟩ | ⟨b, cap, cur, F1, ds, rfl, hcs, hh, h1, h2, h3, h4, h5⟩
  · simp only [List.cons.injEq, and_true] at hv
    subst hv
    exact ⟨[], [], World.ownsRow_nil w 0 T e.sz, ⟨rfl, rfl⟩, .inl ⟨rfl, rfl, rfl, rfl⟩⟩
  · simp only [List.cons.injEq, and_true] at hcs
    subst hcs
    exact ⟨ds, F1, ⟨ownAll_len h5, .inr ⟨b, cap, cur, rfl, Nat.zero_le _, hh, h1, h2, h3, h4⟩⟩, h5, .inr ⟨b, rfl, rfl⟩⟩
theorem row_own {α : Type} {e : Enc α} {T : TypeId} {w : World} {F1 : List Nat} {xs : List α} {v : Value} {ds : List Value} (h : w.ownsRow 0 T e.sz v xs.length ds) (ha : ownAll e w F1 xs ds) (hnil : v = .slice none 0 0 → F1 = []) :
    ∃ F, ownList e T w F xs [v] ∧ ((F = [] ∧ v = .slice none 0 0) ∨ ∃ b, F = b :: F1 ∧ v.ownBlock = some b) := by
  rcases h.2 with ⟨rfl, hn⟩ | ⟨b, cap, cur, rfl, _, hh, h1, h2, h3, h4⟩
  · have hx := List.eq_nil_of_length_eq_zero hn
    subst hx
    exact ⟨[], .inl ⟨rfl, rfl, rfl⟩, .inl ⟨rfl, rfl⟩⟩
  · exact ⟨b :: F1, .inr ⟨b, cap, cur, F1, ds, rfl, rfl, hh, h1, h2, h3, h4, ha⟩, .inr ⟨b, rfl, rfl⟩⟩
/-- what an append leaves -/
theorem append_core {α : Type} {e : Enc α} {t ty et : TypeId} {agg : Bool} {sz by_ : Nat} {z : List Value} (ht : isSl P t et) (he : isTy P et agg sz by_ z) (hby : Nat.ble by_ 2048 = true) (hsz : e.sz = sz) (hpos : Nat.blt 0 sz = true) (hzl : z.length = sz)
    {w : World} {F Fy : List Nat} {xs ys : List α} {v : Value} (hown : ownList e et w F xs [v]) {p : Addr} {mm cap : Nat} {news : List Value} (hm : mm = ys.length) (hA : At w [] p news) (hnew : ownAll e w Fy ys news)
    (hlen : xs.length + ys.length ≤ 68719476736) (hnd : (F ++ Fy).Nodup) (hdis : ∀ b, v.ownBlock = some b → b ∉ Fy) :
    ∃ v' w' F', (Builtin.append_ #[t, t] ty #[v, .slice (some p) mm cap]).run P w = .ok v' w' ∧ ownList e et w' F' (xs ++ ys) [v'] ∧ Ext F w w' ∧ F'.Nodup ∧ (∀ b ∈ F', b < w'.heap.size ∧ (b ∈ F ∨ b ∈ Fy ∨ w.heap.size ≤ b)) := by
  obtain ⟨i, zv, hi, hs, hb, hzv, hzc⟩ := he.info
  obtain ⟨ds, F1, hrow, hall, hF⟩ := own_row hown
  have hby' := Nat.le_of_ble_eq_true hby
  have hsp : 0 < i.size := by rw [hs]; exact Nat.le_of_ble_eq_true hpos
  have hbytes : (xs.length + ys.length) * i.bytes ≤ 140737488355328 := by
    rw [hb]
    calc (xs.length + ys.length) * by_ ≤ 68719476736 * 2048 := Nat.mul_le_mul hlen hby'
      _ ≤ 140737488355328 := by omega
  have hl' : news.length = ys.length * e.sz := ownAll_len hnew
  obtain ⟨v', w', hrun, hown', hgr, hnil⟩ := run_append_own (P := P) w 0 t ty et i zv e.sz i.bytes ht hi hzv (by rw [hs, hsz]) rfl (by rw [hzc]; simp [hzl, hsz]) (by rw [hsz, ← hs]; exact hsp) v xs.length ds hrow p mm cap news
    (by rw [hm]; exact hl') hA.2 (ownAll_one hnew) (by rw [hm]; simp only [maxLen]; omega) (by rw [hm]; exact hbytes) (Nat.zero_le _)
  have hvb : v' = .slice none 0 0 ∨ v'.ownBlock = v.ownBlock ∨ v'.ownBlock = some w.heap.size := by
    have hnl : news.length = mm * i.size := by rw [hm, hs, ← hsz]; exact hl'
    rcases hrow.2 with ⟨hv, hn0⟩ | ⟨g, cp, cur, hv, _, hg, h1, h2, h3, h4⟩
    · by_cases h0 : mm = 0
      · exact .inl (hnil.2 ⟨hv, h0⟩)
      · subst hv
        have hr := run_append_nil (P := P) w t ty et i zv ht hi hzv p mm cap news hnl hA.2 (by omega) (by rw [hm]; omega) (by
          have : ys.length * i.bytes ≤ (xs.length + ys.length) * i.bytes := Nat.mul_le_mul_right _ (by omega)
          rw [hm]; omega)
        rw [hr] at hrun
        cases hrun
        exact .inr (.inr rfl)
    · subst hv
      by_cases hroom : xs.length + mm ≤ cp
      · have hfit : xs.length * i.size + news.length ≤ cur.size := by
          rw [hnl, h3, hs, hsz, ← Nat.add_mul]; exact Nat.mul_le_mul_right _ hroom
        have hr := run_append_room (P := P) w t ty et i ht hi g xs.length cp cur hg p mm cap news hnl hA.2 (ownAll_one hnew) hroom hfit
        rw [hr] at hrun
        cases hrun
        exact .inr (.inl rfl)
      · have hr := run_append_grow (P := P) w t ty et i zv ht hi hzv ⟨g, 0, none⟩ xs.length cp ds (by rw [ownAll_len hall, hs, hsz]) (hrow.cells (g := g) rfl) p mm cap news hnl hA.2 (by omega) (by rw [hm]; omega) (growslice_fits (by omega) (by rw [hm]; exact hbytes))
        rw [hr] at hrun
        cases hrun
        exact .inr (.inr rfl)
  have hvF : ∀ b, v.ownBlock = some b → b ∈ F := by
    intro b hb
    rcases hF with ⟨_, _, _, rfl⟩ | ⟨c, rfl, hc⟩
    · cases hb
    · rw [hc] at hb; cases hb; simp
  have hext : Ext F w w' := ⟨hgr.os, hgr.tape, hgr.output, hgr.size, fun b hb hn => hgr.block b hb (fun e => hn (hvF b e.symm))⟩
  have hF1 : ∀ b ∈ F1, b ∈ F := by
    intro b hb
    rcases hF with ⟨_, rfl, _, _⟩ | ⟨c, rfl, _⟩
    · cases hb
    · exact List.mem_cons_of_mem _ hb
  have hndF : F.Nodup := (List.nodup_append.1 hnd).1
  have hvF1 : ∀ b ∈ F1, some b ≠ v.ownBlock := by
    intro b hb e
    rcases hF with ⟨_, rfl, _, _⟩ | ⟨c, rfl, hc⟩
    · cases hb
    · rw [hc] at e; cases e
      exact (List.nodup_cons.1 hndF).1 hb
  have hlt : ∀ b ∈ F, b < w.heap.size := fun b hb => (eList e et).own_lt hown b hb
  have hlty := ownAll_lt hnew
  have hall' : ownAll e w' (F1 ++ Fy) (xs ++ ys) (ds ++ news) :=
    ownAll_append (ownAll_loc hall (fun b hb => hgr.block b (hlt b (hF1 b hb)) (hvF1 b hb))) (ownAll_loc hnew (fun b hb => hgr.block b (hlty b hb) (fun e => hdis b e.symm hb)))
  rw [hm] at hown'
  rw [← List.length_append] at hown'
  obtain ⟨F', ho, hF'⟩ := row_own hown' hall' (fun hv => by
    obtain ⟨h1, h2⟩ := hnil.1 hv
    rw [hm] at h2
    have := List.eq_nil_of_length_eq_zero h2
    subst this
    rcases hF with ⟨_, rfl, _, _⟩ | ⟨c, _, hc⟩
    · rw [hnew.1]; rfl
    · rw [h1] at hc; cases hc)
  refine ⟨v', w', F', hrun, ho, hext, ?_, ?_⟩
  · rcases hF' with ⟨rfl, _⟩ | ⟨b, rfl, hb⟩
    · simp
    · have hnd1 : (F1 ++ Fy).Nodup := by
        rcases hF with ⟨_, rfl, _, _⟩ | ⟨c, rfl, _⟩
        · exact (List.nodup_append.1 hnd).2.1
        · exact (List.nodup_cons.1 hnd).2
      refine List.nodup_cons.2 ⟨fun hin => ?_, hnd1⟩
      rcases hvb with h1 | h1 | h1
      · rw [h1] at hb; cases hb
      · rw [hb] at h1
        rcases List.mem_append.1 hin with h2 | h2
        · exact hvF1 b h2 h1
        · exact hdis b h1.symm h2
      · rw [hb] at h1; cases h1
        rcases List.mem_append.1 hin with h2 | h2
        · have := hlt _ (hF1 _ h2); omega
        · have := hlty _ h2; omega
  · intro b hb
    refine ⟨(eList e et).own_lt ho b hb, ?_⟩
    rcases hF' with ⟨rfl, _⟩ | ⟨c, rfl, hc⟩
    · cases hb
    · cases hb with
      | head =>
        rcases hvb with h1 | h1 | h1
        · rw [h1] at hc; cases hc
        · rw [hc] at h1; exact .inl (hvF b h1.symm)
        · rw [hc] at h1; cases h1; exact .inr (.inr (Nat.le_refl _))
      | tail _ hb =>
        rcases List.mem_append.1 hb with h2 | h2
        · exact .inl (hF1 b h2)
        · exact .inr (.inl h2)
/-! ### strings -/
def bytesOf (xs : List Int) : List UInt8 := xs.map fun n => UInt8.ofNat n.toNat
theorem rd_cells {α : Type} {val : α → Value} {h1 : ∀ x, (val x).oneCell' = true} {w : World} {X : List Nat} {xs : List α} {p : Addr} {nn cap : Nat} (h : rdList (eVal val h1) w X xs [.slice (some p) nn cap]) : nn = xs.length ∧ At w X p (xs.map val) := by
  obtain ⟨a, cap', hv, hle, hc, hel⟩ := h
  simp only [List.cons.injEq, Value.slice.injEq, and_true] at hv
  obtain ⟨rfl, rfl, rfl⟩ := hv
  refine ⟨rfl, ?_⟩
  by_cases hne : xs = []
  · subst hne
    exact ⟨fun h => absurd rfl h, fun j v hv => by simp at hv⟩
  · obtain ⟨q, hq, hp⟩ := hel hne
    cases hq
    refine ⟨fun _ => ?_, fun j v hv => ?_⟩
    · obtain ⟨x, hx⟩ : ∃ x, xs[0]? = some x := by cases xs with | nil => exact absurd rfl hne | cons x _ => exact ⟨x, rfl⟩
      obtain ⟨ds, hd, hA⟩ := hp 0 x hx
      have hd' : ds = [val x] := hd
      subst hd'
      have := hA.1 (by simp)
      rwa [add_block] at this
    · rw [List.getElem?_map] at hv
      cases hx : xs[j]? with
      | none => rw [hx] at hv; cases hv
      | some x =>
        rw [hx] at hv
        obtain ⟨ds, hd, hA⟩ := hp j x hx
        have hd' : ds = [val x] := hd
        subst hd'
        have := hA.2 0 (val x) rfl
        simp only [eVal, Nat.mul_one, add_zero] at this
        rw [this, ← hv]; rfl
/-- string(b) -/
theorem ry_bts {o : Oper} {s t et : TypeId} {x : Operand} {xs : List Int} {v : Value} (ho : o.op = .convert s t x) (hx : ev E x = some v) (hs : isSl P s et) (he : isInt P et .u8) (ht : isStr P t) (hr : Rds C (eList eU8 et) xs [v]) : Ry P n C E o (vS (bytesOf xs)) := fun a hF w hC => by
  obtain ⟨ad, cap, rfl⟩ : ∃ ad cap, v = .slice ad xs.length cap := by
    obtain ⟨ad, cap, hv, _⟩ := hr w hC
    exact ⟨ad, cap, by simpa using hv⟩
  have ht' : P.underlying t = some .string := ht
  have hc := run_convert_bytes_string (P := P) w s t et ad xs.length cap hs he ht'
  unfold execOp
  simp only [ho, hF.ev hx, Sem.run_bind, hc]
  cases ad with
  | none =>
    obtain ⟨ad', cap', hv, hle, _, hel⟩ := hr w hC
    have hxs : xs = [] := by
      by_cases hne : xs = []
      · exact hne
      · obtain ⟨p, hp, _⟩ := hel hne
        subst hp
        simp at hv
    subst hxs
    simp [Conv.bytesToString, vS, bytesOf]
    rfl
  | some p =>
    obtain ⟨_, hA⟩ := rd_cells (hr w hC)
    have hl := run_loadCells_list (P := P) w p (xs.map (Value.int .u8)) hA.2
    rw [List.length_map] at hl
    have hrun := run_bytesToString (P := P) w p xs.length cap xs hl
    rw [hrun, foldl_push_bytes]
    simp [vS, bytesOf]
/-- a + b on strings -/
def sadd (a b : List UInt8) : Option (List UInt8) := if a.length + b.length ≤ 68719476736 then some (a ++ b) else none
theorem ry_sadd {o : Oper} {t u : TypeId} {x y : Operand} {a b c : List UInt8} (ho : o.op = .binOp .add t x y u) (hx : ev E x = some (vS a)) (hy : ev E y = some (vS b)) (h : sadd a b = some c) : Ry P n C E o (vS c) := fun fr hF w _ => by
  unfold sadd at h
  split at h
  · rename_i hl
    simp only [Option.some.injEq] at h; subst h
    have hr := run_string_add_sum (P := P) w ⟨a.toArray⟩ ⟨b.toArray⟩ (by simp [ByteArray.size]; omega)
    unfold execOp
    simp only [ho, hF.ev hx, hF.ev hy, vS, eqGuard_at_string, binOp_string_add, Sem.run_bind, Sem.run_pure, Result.andThen_ok, hr, ByteArray.mk_append_mk]
  · cases h
/-- s[lo:hi] -/
def sub {α : Type} (xs : List α) (lo hi : Int) : Option (List α) := if 0 ≤ lo ∧ lo ≤ hi ∧ hi ≤ xs.length then some ((xs.drop lo.toNat).take (hi.toNat - lo.toNat)) else none
theorem sub_some {α : Type} {xs ys : List α} {lo hi : Int} (h : sub xs lo hi = some ys) : 0 ≤ lo ∧ lo ≤ hi ∧ hi ≤ xs.length ∧ ys = (xs.drop lo.toNat).take (hi.toNat - lo.toNat) := by
  unfold sub at h
  split at h
  · rename_i hc; exact ⟨hc.1, hc.2.1, hc.2.2, (Option.some.inj h).symm⟩
  · cases h
/-- a bound that is given, or the default -/
def bnd (E : Env) : Option Operand → Int → Option Int
  | none, d => some d
  | some x, _ => match ev E x with | some (.int _ j) => some j | _ => none
theorem bnd_ev {a : Act} (hF : Fr n E a) {x : Option Operand} {d j : Int} (h : bnd E x d = some j) : (x = none ∧ j = d) ∨ ∃ y k, x = some y ∧ a.eval y = .int k j := by
  cases x with
  | none => exact .inl ⟨rfl, (Option.some.inj h).symm⟩
  | some y =>
    simp only [bnd] at h
    split at h
    · rename_i k q hy
      simp only [Option.some.injEq] at h; subst h
      exact .inr ⟨y, k, rfl, hF.ev hy⟩
    · cases h
theorem run_bounds {isSl : Bool} {len cap : Nat} {lo hi : Option Value} {i j : Int} (hlo : (lo = none ∧ i = 0) ∨ ∃ k, lo = some (.int k i)) (hhi : (hi = none ∧ j = len) ∨ ∃ k, hi = some (.int k j)) (h0 : 0 ≤ i) (h1 : i ≤ j) (h2 : j ≤ len) (hc : len ≤ cap) (_hs : isSl = false → cap = len) (w : World) :
    (Instr.sliceBounds isSl len cap lo hi none).run P w = .ok (i.toNat, j.toNat, cap) w := by
  have hb : ∀ (k : IntKind) (q : Int) (y : Nat) (c : BoundsCode), 0 ≤ q → q ≤ y → (Instr.sliceBound (.int k q) y c).run P w = .ok q.toNat w := by
    intro k q y c hq hy
    simp [Instr.sliceBound, asIntOf, hq, hy]
  rcases hhi with ⟨rfl, rfl⟩ | ⟨k, rfl⟩
  · rcases hlo with ⟨rfl, rfl⟩ | ⟨k', rfl⟩
    · simp [Instr.sliceBounds]
    · simp [Instr.sliceBounds, hb k' i len .sliceB h0 h1]
  · have h4 := hb k j cap (if isSl = true then BoundsCode.sliceAcap else BoundsCode.sliceAlen) (by omega) (by omega)
    rcases hlo with ⟨rfl, rfl⟩ | ⟨k', rfl⟩
    · simp [Instr.sliceBounds, h4]
    · have h5 := hb k' i j.toNat .sliceB h0 (by omega)
      simp [Instr.sliceBounds, h4, h5]
/-- xs[lo:hi] of a slice that can be read -/
theorem ow_lsub {α : Type} {e : Enc α} {o : Oper} {t et : TypeId} {x : Operand} {lo hi : Option Operand} {xs ys : List α} {v : Value} {i j : Int} {agg : Bool} {sz by_ : Nat} {z : List Value} (ho : o.op = .slice t x lo hi none) (hw : wt l E o.guard = some true) (hd : dstOk n o.dst = true) (hx : ev E x = some v) (ht : isSl P t et) (he : isTy P et agg sz by_ z) (hsz : e.sz = sz)
    (hi' : bnd E lo 0 = some i) (hj' : bnd E hi xs.length = some j) (h : sub xs i j = some ys) (hr : rdList e w0 M xs [v]) (hk : ∀ v', rdList e w0 M ys [v'] → OW P n l C (upd E o.dst v') m rest) : OW P n l C E m (o :: rest) := by
  obtain ⟨h0, h1, h2, rfl⟩ := sub_some h
  obtain ⟨a, cap, hv, hle, hc, hel⟩ := hr
  simp only [List.cons.injEq, and_true] at hv
  subst hv
  obtain ⟨ti, zv, hti, hs, _, _, _⟩ := he.info
  have ht' : P.underlying t = some (.slice et) := ht
  have hylen : ((xs.drop i.toNat).take (j.toNat - i.toNat)).length = j.toNat - i.toNat := by simp; omega
  refine ow_r hw (dstOk_lt hd) (v := .slice (if cap = i.toNat then a else a.map (·.add (i.toNat * sz))) (j.toNat - i.toNat) (cap - i.toNat)) (fun fr hF w _ => ?_) (hk _ ?_)
  · have hlo : (lo.map fr.eval = none ∧ i = 0) ∨ ∃ k, lo.map fr.eval = some (.int k i) := by
      rcases bnd_ev hF hi' with ⟨rfl, rfl⟩ | ⟨y, k, rfl, hy⟩
      · exact .inl ⟨rfl, rfl⟩
      · exact .inr ⟨k, by simp [hy]⟩
    have hhi : (hi.map fr.eval = none ∧ j = xs.length) ∨ ∃ k, hi.map fr.eval = some (.int k j) := by
      rcases bnd_ev hF hj' with ⟨rfl, rfl⟩ | ⟨y, k, rfl, hy⟩
      · exact .inl ⟨rfl, rfl⟩
      · exact .inr ⟨k, by simp [hy]⟩
    have hb := run_bounds (P := P) (isSl := true) (len := xs.length) (cap := cap) hlo hhi h0 h1 h2 hle (fun h => by cases h) w
    unfold execOp
    simp [ho, hF.ev hx, Instr.sliceAt, Instr.slice, run_underlying ht', hb, sizeOf, typeInfo, hti, hs]
  · refine ⟨_, cap - i.toNat, by rw [hylen], by rw [hylen]; omega, by omega, fun hne => ?_⟩
    have hxs : xs ≠ [] := fun e => by subst e; simp at hne
    obtain ⟨p, rfl, hp⟩ := hel hxs
    have hlt : i.toNat < cap := by
      have : 0 < ((xs.drop i.toNat).take (j.toNat - i.toNat)).length := List.length_pos_iff.2 hne
      rw [hylen] at this; omega
    rw [if_neg (by omega)]
    refine ⟨p.add (i.toNat * sz), rfl, fun q x hq => ?_⟩
    rw [List.getElem?_take] at hq
    split at hq
    · rw [List.getElem?_drop] at hq
      obtain ⟨ds, hd', hA⟩ := hp _ x hq
      refine ⟨ds, hd', ?_⟩
      have hmul : i.toNat * sz + q * sz = (i.toNat + q) * sz := by rw [Nat.add_mul]
      rw [hsz] at hA ⊢
      rw [add_add, hmul]
      exact hA
    · cases hq
/-- s == nil, s != nil -/
theorem ry_nil {o : Oper} {t et u : TypeId} {x : Operand} {a : Option Addr} {nn cap : Nat} (ho : o.op = .binOp .eql t x (.const (.slice none 0 0)) u) (hx : ev E x = some (.slice a nn cap)) (ht : isSl P t et) : Ry P n C E o (.bool a.isNone) := fun fr hF w _ => by
  have ht' : P.underlying t = some (.slice et) := ht
  have hc : fr.eval (.const (.slice none 0 0)) = .slice none 0 0 := rfl
  have hn := Lib.run_eql_slice_nil (P := P) w t et a nn cap 0 0 ht'
  unfold execOp
  simp only [ho, hF.ev hx, hc, eqGuard_at_slice, Sem.run_bind, Sem.run_pure, Result.andThen_ok, hn]
theorem ry_nnil {o : Oper} {t et u : TypeId} {x : Operand} {a : Option Addr} {nn cap : Nat} (ho : o.op = .binOp .neq t x (.const (.slice none 0 0)) u) (hx : ev E x = some (.slice a nn cap)) (ht : isSl P t et) : Ry P n C E o (.bool (!a.isNone)) := fun fr hF w _ => by
  have ht' : P.underlying t = some (.slice et) := ht
  have hc : fr.eval (.const (.slice none 0 0)) = .slice none 0 0 := rfl
  have hn := run_neq_slice_nil_any (P := P) w t et a nn cap 0 0 ht'
  unfold execOp
  simp only [ho, hF.ev hx, hc, eqGuard_at_slice, Sem.run_bind, Sem.run_pure, Result.andThen_ok, hn]
end Go.Vk
