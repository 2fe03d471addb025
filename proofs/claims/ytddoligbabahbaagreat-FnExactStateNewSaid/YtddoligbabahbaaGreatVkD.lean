/- Operations that only compute; facts on types. -/
import Derived.Test.YtddoligbabahbaaGreatVkC
import Derived.ChangeKeysEq
namespace Go.Vk
open Go.RowKit
variable {P : Program}
/-! ### facts on types -/
def isSl (P : Program) (t e : TypeId) : Prop := P.underlying t = some (.slice e)
def isStr (P : Program) (t : TypeId) : Prop := P.underlying t = some .string
def isInt (P : Program) (t : TypeId) (k : IntKind) : Prop := P.underlying t = some (.int k)
/-- a struct's field at an offset -/
def isFa (P : Program) (s f off : Nat) : Prop := ∃ fs fd i, P.underlying s = some (.struct fs) ∧ fs[f]? = some fd ∧ fd.offset = off ∧ P.info? fd.type = some i ∧ i.size ≠ 0
/-- a type: is it a struct (an array)? cells, bytes, the zero value's cells -/
structure isTy (P : Program) (t : TypeId) (agg : Bool) (sz by_ : Nat) (z : List Value) : Prop where
  ag : ∀ w : World, (isAgg t).run P w = .ok agg w
  info : ∃ i zv, P.info? t = some i ∧ i.size = sz ∧ i.bytes = by_ ∧ i.zero = some zv ∧ zv.cells = z.toArray
  one : agg = false → sz = 1
/-- hints of the batch: what a type's fact is wanted for -/
inductive Hint (P : Program) where
  | p
  | lenS (t e : TypeId) (h : isSl P t e)
  | lenT (t : TypeId) (h : isStr P t)
  | fa (s f off : Nat) (h : isFa P s f off)
  | cv (s t : TypeId) (k : IntKind) (hs : (P.underlying s).isSome = true) (h : isInt P t k)
def kindEq : IntKind → IntKind → Bool
  | .i8, .i8 | .i16, .i16 | .i32, .i32 | .i64, .i64 | .u8, .u8 | .u16, .u16 | .u32, .u32 | .u64, .u64 => true
  | _, _ => false
theorem kindEq_eq {a b : IntKind} (h : kindEq a b = true) : a = b := by cases a <;> cases b <;> first | rfl | cases h
def ibits (op : BinOp) (k : IntKind) (x y : Int) : Int :=
  match op with
  | .and => k.wrap (BitVec.ofInt k.bits x &&& BitVec.ofInt k.bits y).toNat
  | .or => k.wrap (BitVec.ofInt k.bits x ||| BitVec.ofInt k.bits y).toNat
  | .xor => k.wrap (BitVec.ofInt k.bits x ^^^ BitVec.ofInt k.bits y).toNat
  | _ => k.wrap (BitVec.ofInt k.bits x &&& ~~~(BitVec.ofInt k.bits y)).toNat
def ishl (k : IntKind) (x y : Int) : Int := k.wrap (x * 2 ^ (min y.toNat k.bits))
def ishr (k : IntKind) (x y : Int) : Int := x.fdiv (2 ^ (min y.toNat k.bits))
def natLit : Int → Bool
  | .ofNat _ => true
  | .negSucc _ => false
def posLit : Int → Bool
  | .ofNat (_ + 1) => true
  | _ => false
def binPure (op : BinOp) (k : IntKind) (x y : Int) : Option Value :=
  match op with
  | .add => some (.int k (k.wrap (x + y)))
  | .sub => some (.int k (k.wrap (x - y)))
  | .mul => some (.int k (k.wrap (x * y)))
  | .quo => bif posLit y then some (.int k (k.wrap (x.tdiv y))) else none
  | .rem => bif posLit y then some (.int k (x.tmod y)) else none
  | .and => some (.int k (ibits .and k x y))
  | .or => some (.int k (ibits .or k x y))
  | .xor => some (.int k (ibits .xor k x y))
  | .andNot => some (.int k (ibits .andNot k x y))
  | .shl => none
  | .shr => none
  | .eql => some (.bool (x == y))
  | .neq => some (.bool (x != y))
  | .lss => some (.bool (decide (x < y)))
  | .leq => some (.bool (decide (x ≤ y)))
  | .gtr => some (.bool (decide (x > y)))
  | .geq => some (.bool (decide (x ≥ y)))
def binV (op : BinOp) : Value → Value → Option Value
  | .int k x, .int k' y =>
    match op with
    | .shl => bif natLit y then some (.int k (ishl k x y)) else none
    | .shr => bif natLit y then some (.int k (ishr k x y)) else none
    | _ => bif kindEq k k' then binPure op k x y else none
  | .string ⟨⟨a⟩⟩, .string ⟨⟨b⟩⟩ =>
    match op with
    | .eql => some (.bool (a == b))
    | .neq => some (.bool (!(a == b)))
    | _ => none
  | _, _ => none
def pureV (h : Hint P) (E : Env) (op : Op) : Option Value :=
  match h with
  | .p =>
    match op with
    | .move x | .assign x => ev E x
    | .binOp op _ x y _ =>
      match ev E x, ev E y with
      | some a, some b => binV op a b
      | _, _ => none
    | .unOp op _ x =>
      match op, ev E x with
      | .not, some (.bool b) => some (.bool (!b))
      | .neg, some (.int k n) => some (.int k (k.wrap (0 - n)))
      | _, _ => none
    | .pick c a b =>
      match ev E c with
      | some (.bool c) =>
        match ev E a, ev E b with
        | some (.bool a), some (.bool b) => some (.bool (bif c then a else b))
        | some u, some v =>
          match c with
          | true => some u
          | false => some v
        | _, _ => none
      | _ => none
    | .extract x i =>
      match ev E x with
      | some (.tuple vs) => vs[i]?
      | _ => none
    | .nilCheck x =>
      match ev E x with
      | some (.pointer (some p)) => some (.pointer (some p))
      | _ => none
    | _ => none
  | .lenS t _ _ =>
    match op with
    | .call { callee := .builtin .len, args := ⟨[x]⟩, argTypes := ⟨[u]⟩ } =>
      bif Nat.beq u t then
        match ev E x with
        | some (.slice _ n _) => some (.int .i64 (n : Int))
        | _ => none
      else none
    | _ => none
  | .lenT t _ =>
    match op with
    | .call { callee := .builtin .len, args := ⟨[x]⟩, argTypes := ⟨[u]⟩ } =>
      bif Nat.beq u t then
        match ev E x with
        | some (.string ⟨⟨s⟩⟩) => some (.int .i64 (s.length : Int))
        | _ => none
      else none
    | _ => none
  | .fa s f off _ =>
    match op with
    | .fieldAddr s' x f' =>
      bif Nat.beq s' s && Nat.beq f' f then
        match ev E x with
        | some (.pointer (some p)) => some (.pointer (some (p.add off)))
        | _ => none
      else none
    | _ => none
  | .cv s t k _ _ =>
    match op with
    | .convert s' t' x =>
      bif Nat.beq s' s && Nat.beq t' t then
        match ev E x with
        | some (.int _ n) => some (.int k (k.wrap n))
        | _ => none
      else none
    | _ => none
/-- the operation's run is a value and leaves the world -/
def Runs (P : Program) (ρ : Operand → Value) (o : Oper) (v : Value) : Prop := ∀ w, (execOp ρ o).run P w = .ok (.value v) w
theorem Ry.of_runs {n : Nat} {S : World → Prop} {E : Env} {o : Oper} {v : Value} (h : ∀ a, Fr n E a → Runs P a.eval o v) : Ry P n S E o v := fun a hF w _ => h a hF w
theorem run_fa {s f off : Nat} (h : isFa P s f off) (p : Addr) (w : World) : (Instr.fieldAt s (.pointer (some p)) f).run P w = .ok (.pointer (some (p.add off))) w := by
  obtain ⟨fs, fd, i, h1, h2, rfl, h4, h5⟩ := h
  simp [Instr.fieldAt, run_underlying h1, h2, Instr.sureAddr, fieldPlace, sizeOf, typeInfo, h4, h5]
theorem run_cv {s t : TypeId} {k : IntKind} (hs : (P.underlying s).isSome = true) (h : isInt P t k) (k' : IntKind) (n : Int) (w : World) : (convert s t (.int k' n)).run P w = .ok (.int k (k.wrap n)) w := by
  obtain ⟨d, hd⟩ := Option.isSome_iff_exists.1 hs
  unfold convert
  simp only [Sem.run_bind, run_underlying hd, run_underlying h, Result.andThen_ok]
  cases d <;> rfl
theorem binV_run {op : BinOp} {t : TypeId} {x y : Operand} {a b v : Value} (h : binV op a b = some v) (w : World) :
    (do eqGuard op t x y a b; binOp op t a b : Sem Value).run P w = .ok v w := by
  unfold binV at h
  split at h
  · rename_i k n k' m
    simp only [eqGuard_at_int, Sem.run_bind, Sem.run_pure, Result.andThen_ok]
    split at h
    · cases hl : natLit m with
      | false => simp [hl] at h
      | true =>
        simp only [hl, cond_true, Option.some.injEq] at h
        subst h
        cases m with
        | ofNat m => have h0 : ¬ ((m : Int) < 0) := by omega
                     simp [binOp, Op.shift, ishl, h0]
        | negSucc m => cases hl
    · cases hl : natLit m with
      | false => simp [hl] at h
      | true =>
        simp only [hl, cond_true, Option.some.injEq] at h
        subst h
        cases m with
        | ofNat m => have h0 : ¬ ((m : Int) < 0) := by omega
                     simp [binOp, Op.shift, ishr, h0]
        | negSucc m => cases hl
    · rename_i h1 h2
      cases hk : kindEq k k' with
      | false => simp [hk] at h
      | true =>
        obtain rfl := kindEq_eq hk
        simp only [hk, cond_true] at h
        cases op <;> simp only [binPure] at h
        case quo =>
          cases hp : posLit m with
          | false => simp [hp] at h
          | true =>
            simp only [hp, cond_true, Option.some.injEq] at h
            subst h
            have hm : m ≠ 0 := by
              intro e; subst e; simp [posLit] at hp
            simp [binOp_quo, Op.intDiv, hm]
        case rem =>
          cases hp : posLit m with
          | false => simp [hp] at h
          | true =>
            simp only [hp, cond_true, Option.some.injEq] at h
            subst h
            have hm : m ≠ 0 := by
              intro e; subst e; simp [posLit] at hp
            simp [binOp_rem, Op.intDiv, hm]
        all_goals first
          | (cases h; done)
          | (simp only [Option.some.injEq] at h; subst h; simp [binOp, Op.intArith, Op.intBits, Op.intCmp, ibits])
  · split at h
    · simp only [Option.some.injEq] at h; subst h
      simp [eqGuard_at_string, binOp_string_eql]
    · simp only [Option.some.injEq] at h; subst h
      simp [eqGuard_at_string, binOp_string_neq]
    · cases h
  · cases h
theorem pureV_runs {n : Nat} {E : Env} {hint : Hint P} {o : Oper} {v : Value} {a : Act} (hF : Fr n E a) (h : pureV hint E o.op = some v) : Runs P a.eval o v := by
  intro w
  unfold execOp
  obtain ⟨dst, op, ty, pos, after, guard⟩ := o
  simp only at h ⊢
  cases hint with
  | p =>
    simp only [pureV] at h
    split at h
    · simp [hF.ev h]
    · simp [hF.ev h]
    · split at h
      · rename_i op t x y u A B a b hx hy
        have := binV_run (P := P) (t := t) (x := x) (y := y) h w
        simp only [Sem.run_bind, hF.ev hx, hF.ev hy] at this ⊢
        rw [this]
        rfl
      · cases h
    · split at h
      · rename_i hx
        simp only [Option.some.injEq] at h; subst h
        simp [hF.ev hx, Op.unary]
      · rename_i hx
        simp only [Option.some.injEq] at h; subst h
        simp [hF.ev hx, Op.unary, Op.intArith]
      · cases h
    · split at h
      · rename_i c hx
        simp only [Sem.run_bind, hF.ev hx, asBool, Sem.run_pure, Result.andThen_ok]
        split at h
        · rename_i ha hb
          simp only [Option.some.injEq] at h; subst h
          simp only [hF.ev ha, hF.ev hb]
          cases c <;> rfl
        · rename_i _ ha hb
          simp only [hF.ev ha, hF.ev hb]
          cases c <;> simp only [Option.some.injEq] at h <;> subst h <;> rfl
        · cases h
      · cases h
    · split at h
      · rename_i hx
        simp only [Sem.run_bind, hF.ev hx, Instr.extract, h]
        rfl
      · cases h
    · split at h
      · rename_i hx
        simp only [Option.some.injEq] at h; subst h
        simp only [hF.ev hx]
        rfl
      · cases h
    · cases h
  | lenS t e hs =>
    simp only [pureV] at h
    split at h
    · rename_i x u
      cases hb : Nat.beq u t with
      | false => simp [hb] at h
      | true =>
        obtain rfl := Nat.eq_of_beq_eq_true hb
        simp only [hb, cond_true] at h
        split at h
        · rename_i hx
          simp only [Option.some.injEq] at h; subst h
          have hx' := hF.ev hx
          simp [resolve, invoke, builtin, Builtin.len_, hx', run_underlying hs, goInt]
        · cases h
    · cases h
  | lenT t hs =>
    simp only [pureV] at h
    split at h
    · rename_i x u
      cases hb : Nat.beq u t with
      | false => simp [hb] at h
      | true =>
        obtain rfl := Nat.eq_of_beq_eq_true hb
        simp only [hb, cond_true] at h
        split at h
        · rename_i hx
          simp only [Option.some.injEq] at h; subst h
          have hx' := hF.ev hx
          have hs' : P.underlying u = some .string := hs
          simp [resolve, invoke, builtin, Builtin.len_, hx', run_underlying hs', goInt]
          try rfl
        · cases h
    · cases h
  | fa s f off hs =>
    simp only [pureV] at h
    split at h
    · rename_i s' x f'
      cases hb : Nat.beq s' s with
      | false => simp [hb] at h
      | true =>
        cases hc : Nat.beq f' f with
        | false => simp [hc] at h
        | true =>
          obtain rfl := Nat.eq_of_beq_eq_true hb
          obtain rfl := Nat.eq_of_beq_eq_true hc
          simp only [hb, hc, Bool.and_self, cond_true] at h
          split at h
          · rename_i hx
            simp only [Option.some.injEq] at h; subst h
            simp [hF.ev hx, run_fa hs]
          · cases h
    · cases h
  | cv s t k hs ht =>
    simp only [pureV] at h
    split at h
    · rename_i s' t' x
      cases hb : Nat.beq s' s with
      | false => simp [hb] at h
      | true =>
        cases hc : Nat.beq t' t with
        | false => simp [hc] at h
        | true =>
          obtain rfl := Nat.eq_of_beq_eq_true hb
          obtain rfl := Nat.eq_of_beq_eq_true hc
          simp only [hb, hc, Bool.and_self, cond_true] at h
          split at h
          · rename_i hx
            simp only [Option.some.injEq] at h; subst h
            simp [hF.ev hx, run_cv hs ht]
          · cases h
    · cases h
theorem ry_pure {n : Nat} {S : World → Prop} {E : Env} {hint : Hint P} {o : Oper} {v : Value} (h : pureV hint E o.op = some v) : Ry P n S E o v :=
  Ry.of_runs fun _ hF => pureV_runs hF h
def dstOk (n : Nat) : Option Tmp → Bool
  | none => true
  | some t => Nat.blt t n
theorem dstOk_lt {n : Nat} {d : Option Tmp} (h : dstOk n d = true) : ∀ t, d = some t → t < n := by
  intro t ht; subst ht; exact Nat.le_of_ble_eq_true h
/-- a batch: what is left, and the bindings -/
def batch (n : Nat) (ops : List Oper) : List (Hint P) → List Oper → Env → Option (List Oper × Env)
  | [], rest, E => some (rest, E)
  | _ :: _, [], _ => none
  | h :: hs, o :: rest, E =>
    bif dstOk n o.dst then
      match wt ops E o.guard with
      | some true =>
        match pureV h E o.op with
        | some v => batch n ops hs rest (upd E o.dst v)
        | none => none
      | some false => batch n ops hs rest (upd E o.dst undef)
      | none => none
    else none
theorem ow_batch {n : Nat} {C : World → Prop} {m : Md} {l : List Oper} (hs : List (Hint P)) {rest rest' : List Oper} {E E' : Env} (h : batch n l hs rest E = some (rest', E'))
    (hk : OW P n l C E' m rest') : OW P n l C E m rest := by
  induction hs generalizing rest E with
  | nil => simp only [batch, Option.some.injEq, Prod.mk.injEq] at h; obtain ⟨rfl, rfl⟩ := h; exact hk
  | cons hint hs ih =>
    cases rest with
    | nil => cases h
    | cons o rest =>
      simp only [batch] at h
      cases hd : dstOk n o.dst with
      | false => simp [hd] at h
      | true =>
        simp only [hd, cond_true] at h
        cases hw : wt l E o.guard with
        | none => simp [hw] at h
        | some b =>
          cases b with
          | true =>
            simp only [hw] at h
            cases hv : pureV hint E o.op with
            | none => simp [hv] at h
            | some v =>
              simp only [hv] at h
              exact ow_r hw (dstOk_lt hd) (ry_pure hv) (ih h)
          | false =>
            simp only [hw] at h
            exact ow_skip hw (dstOk_lt hd) (ih h)
end Go.Vk
