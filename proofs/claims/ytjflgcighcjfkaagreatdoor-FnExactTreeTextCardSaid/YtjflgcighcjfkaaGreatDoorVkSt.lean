/- The library's functions of strings, by their contracts: joined, repeated, numbers in decimal; a table of the library's that is read. -/
import Derived.Test.YtjflgcighcjfkaaGreatDoorVkDu
import Derived.Shelf.Strings.OnBuilder
import Derived.Shelf.Strings.Repeat
import Derived.Shelf.Strconv.Itoa3
namespace Go.Vk
open Go.RowKit Go.Proofs Go.Shelf
variable {P : Program} {ρ : Ren}
/-- a package's variable that is only read -/
def eTab (P : Program) (name : String) (vs : Array Value) : Enc Unit where
  sz := 0
  rd := fun w X _ cs => cs = [] ∧ ∃ g t m, P.globalNamed name = some g ∧ g ∉ X ∧ w.heap[g]? = some (.cells vs t m)
  own := fun _ _ _ _ => False
  rd_len := fun h => by rw [h.1]; rfl
  rd_loc := fun ⟨h0, g, t, m, h1, h2, h3⟩ h => ⟨h0, g, t, m, h1, h2, by
    rw [h g (by
      rcases Nat.lt_or_ge g _ with hl | hl
      · exact hl
      · rw [Array.getElem?_eq_none hl] at h3; cases h3) h2]
    exact h3⟩
  rd_anti := fun ⟨h0, g, t, m, h1, h2, h3⟩ h => ⟨h0, g, t, m, h1, fun hin => h2 (h g (by
      rcases Nat.lt_or_ge g _ with hl | hl
      · exact hl
      · rw [Array.getElem?_eq_none hl] at h3; cases h3) hin), h3⟩
  own_loc := fun h _ => h.elim
  own_rd := fun h _ => h.elim
  own_lt := fun h => h.elim
  one := fun h u hu => by rw [h.1] at hu; cases hu
theorem tab_is {name : String} {k : IntKind} {zs : List Int} {w : World} {X : List Nat} {cs : List Value} (h : (eTab P name (zs.map fun z => Value.int k z).toArray).rd w X () cs) : Lib.TabIs P w name k zs := by
  obtain ⟨_, g, t, m, h1, _, h3⟩ := h
  unfold Lib.TabIs World.var?
  rw [h1]
  simp [h3]
theorem rd_tab {name : String} {k : IntKind} {zs : List Int} {w : World} (h : Lib.TabIs P w name k zs) : (eTab P name (zs.map fun z => Value.int k z).toArray).rd w [] () [] := by
  unfold Lib.TabIs World.var? at h
  obtain ⟨g, h1, h2⟩ := Option.bind_eq_some_iff.1 h
  split at h2
  · rename_i cs t m h3
    obtain rfl := Option.some.inj h2
    exact ⟨rfl, g, t, m, h1, by simp, h3⟩
  · cases h2
theorem ext_below {w w' : World} (h : Below w.heap.size w w') : Ext [] w w' := ⟨h.os, h.tape, h.output, h.size, fun b hb _ => h.block b hb⟩
/-- a number in decimal -/
def sItoa (n : Int) : Option (List UInt8) := if -9223372036854775808 ≤ n ∧ n ≤ 9223372036854775807 then some (Lib.itoa n) else none
abbrev ePow10 (P : Program) : Enc Unit := eTab P "internal/strconv.uint64pow10" (Lib.pow10Tab.map fun z => Value.int .u64 z).toArray
theorem itoa_ok (L : LaysM.n171 P ρ) (w : World) {n : Int} {z : List UInt8} (h : sItoa n = some z) (g : (ePow10 P).rd w [] () []) :
    Calls P (ρ.f 171) #[.int .i64 n] w (fun en w' => en = .returned (vS z) ∧ Ext [] w w') := by
  unfold sItoa at h
  split at h
  · rename_i hn
    obtain rfl := Option.some.inj h
    refine (Any.strconv_Itoa L n hn.1 hn.2 w (tab_is g)).mono fun en w' ⟨h1, k, os, h2⟩ => ⟨h1, ?_⟩
    subst h2
    refine ⟨rfl, rfl, rfl, ?_, fun b hb _ => ?_⟩
    · show w.heap.size ≤ (w.heap ++ os).size
      simp
    · show (w.heap ++ os)[b]? = w.heap[b]?
      rw [Array.getElem?_append_left hb]
  · cases h
/-- strings joined -/
def sJoin (xs : List (List UInt8)) (sep : List UInt8) : Option (List UInt8) := if xs.length ≤ 140737488355328 ∧ (Lib.join xs sep).length ≤ 140737488355328 then some (Lib.join xs sep) else none
theorem join_ok (L : Lays.n156 P ρ) (X : Builder.Extra P ρ) (w : World) {xs : List (List UInt8)} {sep z : List UInt8} {T : TypeId} {a : Option Addr} {n c : Nat} (h : sJoin xs sep = some z) (g : (eList eStr T).rd w [] xs [.slice a n c]) :
    Calls P (ρ.f 156) #[.slice a n c, vS sep] w (fun en w' => en = .returned (vS z) ∧ Ext [] w w') := by
  unfold sJoin at h
  split at h
  · rename_i hn
    obtain rfl := Option.some.inj h
    obtain ⟨a', c', hv, h1, h2, h3⟩ := g
    simp only [List.cons.injEq, Value.slice.injEq, and_true] at hv
    obtain ⟨rfl, rfl, rfl⟩ := hv
    have hx : (xs.map fun l => (⟨l.toArray⟩ : ByteArray)).map (·.data.toList) = xs := by
      rw [List.map_map]
      exact (List.map_congr_left (fun l _ => by simp)).trans (List.map_id _)
    cases hxs : xs with
    | nil =>
      subst hxs
      refine (Any.strings_Join_none L X a c ⟨sep.toArray⟩ w).mono fun en w' ⟨h4, h5⟩ => ⟨?_, ?_⟩
      · rw [h4]; rfl
      · rw [h5]; exact Ext.refl _ _
    | cons x r =>
      obtain ⟨p, rfl, hp⟩ := h3 (by rw [hxs]; simp)
      have hat : ∀ j y, xs[j]? = some y → w.cell? (p.add j) = some (vS y) := fun j y hy => by
        obtain ⟨ds, hd, hA⟩ := hp j y hy
        have hd : ds = [vS y] := hd
        subst hd
        have := hA.2 0 (vS y) rfl
        have he : eStr.sz = 1 := rfl
        rw [he, Nat.mul_one] at this
        rwa [add_zero] at this
      have h0 := hat 0 x (by rw [hxs]; rfl)
      have hb := World.block_lt_of_cell? w _ h0
      obtain ⟨bk, o, sp⟩ := p
      have hsp : sp = none := by
        cases sp with
        | none => rfl
        | some q =>
          rw [add_zero] at h0
          unfold World.cell? at h0
          split at h0 <;> simp at h0
      subst hsp
      rw [← hxs]
      have key := Any.strings_Join L X bk o c (xs.map fun l => (⟨l.toArray⟩ : ByteArray)) ⟨sep.toArray⟩ w (fun j y hy => by
        rw [List.getElem?_map] at hy
        cases hj : xs[j]? with
        | none => rw [hj] at hy; cases hy
        | some l =>
          rw [hj] at hy
          obtain rfl := Option.some.inj hy
          have := hat j l hj
          rw [add_lit] at this
          exact this) (by rw [add_zero] at hb; exact hb) (by rw [List.length_map]; exact hn.1) (by rw [List.length_map]; exact h1) (by rw [hx]; simpa using hn.2)
      rw [List.length_map, hx] at key
      refine key.mono fun en w' ⟨h4, h5⟩ => ⟨?_, ext_below h5⟩
      rw [h4]
      simp [vS]
  · cases h
/-- a string repeated -/
def sRepeat (s : List UInt8) (n : Int) : Option (List UInt8) := if 0 ≤ n ∧ n ≤ 1000000 ∧ s.length ≤ 1000000 ∧ 0 < s.length then some (Lib.repeatL s n.toNat) else none
theorem repeat_ok (L : Lays.n105 P ρ) (X : Builder.Extra P ρ) (w : World) {s z : List UInt8} {n : Int} (h : sRepeat s n = some z) :
    Calls P (ρ.f 105) #[vS s, .int .i64 n] w (fun en w' => en = .returned (vS z) ∧ Ext [] w w') := by
  unfold sRepeat at h
  split at h
  · rename_i hn
    obtain rfl := Option.some.inj h
    obtain ⟨c, rfl⟩ : ∃ c : Nat, n = c := ⟨n.toNat, by omega⟩
    rw [Int.toNat_natCast]
    have hc : c ≤ 1000000 := by omega
    match c, hc with
    | 0, _ =>
      refine (Any.strings_Repeat_zero L ⟨s.toArray⟩ w).mono fun en w' ⟨h1, h2⟩ => ⟨?_, ?_⟩
      · rw [h1]; rfl
      · rw [h2]; exact Ext.refl _ _
    | 1, _ =>
      refine (Any.strings_Repeat_one L ⟨s.toArray⟩ w).mono fun en w' ⟨h1, h2⟩ => ⟨?_, ?_⟩
      · rw [h1]; simp [vS, Lib.repeatL]
      · rw [h2]; exact Ext.refl _ _
    | c + 2, hc =>
      have hz : (⟨s.toArray⟩ : ByteArray).size = s.length := by simp [ByteArray.size]
      refine (Any.strings_Repeat_main L X ⟨s.toArray⟩ (c + 2) w (by omega) (by omega) (by
        rw [hz]
        exact Nat.le_trans (Nat.mul_le_mul hn.2.2.1 hc) (by omega)) (by rw [hz]; exact hn.2.2.2)).mono fun en w' ⟨h1, h2⟩ => ⟨?_, ext_below h2⟩
      rw [h1]
      simp [vS]
  · cases h
/-- the greater of two -/
theorem ry_max {n : Nat} {S : World → Prop} {E : Env} {o : Oper} {x y : Operand} {ts : Array TypeId} {k k' : IntKind} {a b : Int} (ho : o.op = .call { callee := .builtin .max, args := #[x, y], argTypes := ts }) (hx : ev E x = some (.int k a)) (hy : ev E y = some (.int k' b)) : Ry P n S E o (.int k (if a < b then b else a)) := fun fr hF w hw => by
  unfold execOp
  simp [ho, resolve, invoke, builtin, hF.ev hx, hF.ev hy, Builtin.max_, Builtin.max2, List.foldlM]
end Go.Vk
