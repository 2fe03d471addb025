/- Joins of ways. -/
import Derived.Test.YtjflgcighcjfkaaGreatDoorVkI
namespace Go.Vk
open Go.RowKit
theorem c_join0 {P : Program} {n : Nat} {C : World → Prop} {E : Env} {Q : Exit → Act → World → Prop} {x y : Code} (Cf : World → Prop) (Ef : Env) (g : Prop)
    (hy : g → CW P n Cf Ef Q y) (hx : (g → XW n Cf Ef (QS P y Q) .normal) → CW P n C E (QS P y Q) x) : CW P n C E Q (.seq x y) :=
  c_seq (hx (fun H => x_qs (hy H)))

theorem c_join1 {α0 : Type} {P : Program} {n : Nat} {C : World → Prop} {E : Env} {Q : Exit → Act → World → Prop} {x y : Code} (Cf : α0 → World → Prop) (Ef : α0 → Env) (g : α0 → Prop)
    (hy : ∀ s0, (g s0) → CW P n (Cf s0) (Ef s0) Q y) (hx : (∀ s0, (g s0) → XW n (Cf s0) (Ef s0) (QS P y Q) .normal) → CW P n C E (QS P y Q) x) : CW P n C E Q (.seq x y) :=
  c_seq (hx (fun s0 H => x_qs (hy s0 H)))

theorem c_join2 {α0 α1 : Type} {P : Program} {n : Nat} {C : World → Prop} {E : Env} {Q : Exit → Act → World → Prop} {x y : Code} (Cf : α0 → α1 → World → Prop) (Ef : α0 → α1 → Env) (g : α0 → α1 → Prop)
    (hy : ∀ s0 s1, (g s0 s1) → CW P n (Cf s0 s1) (Ef s0 s1) Q y) (hx : (∀ s0 s1, (g s0 s1) → XW n (Cf s0 s1) (Ef s0 s1) (QS P y Q) .normal) → CW P n C E (QS P y Q) x) : CW P n C E Q (.seq x y) :=
  c_seq (hx (fun s0 s1 H => x_qs (hy s0 s1 H)))

theorem c_join3 {α0 α1 α2 : Type} {P : Program} {n : Nat} {C : World → Prop} {E : Env} {Q : Exit → Act → World → Prop} {x y : Code} (Cf : α0 → α1 → α2 → World → Prop) (Ef : α0 → α1 → α2 → Env) (g : α0 → α1 → α2 → Prop)
    (hy : ∀ s0 s1 s2, (g s0 s1 s2) → CW P n (Cf s0 s1 s2) (Ef s0 s1 s2) Q y) (hx : (∀ s0 s1 s2, (g s0 s1 s2) → XW n (Cf s0 s1 s2) (Ef s0 s1 s2) (QS P y Q) .normal) → CW P n C E (QS P y Q) x) : CW P n C E Q (.seq x y) :=
  c_seq (hx (fun s0 s1 s2 H => x_qs (hy s0 s1 s2 H)))

theorem c_join4 {α0 α1 α2 α3 : Type} {P : Program} {n : Nat} {C : World → Prop} {E : Env} {Q : Exit → Act → World → Prop} {x y : Code} (Cf : α0 → α1 → α2 → α3 → World → Prop) (Ef : α0 → α1 → α2 → α3 → Env) (g : α0 → α1 → α2 → α3 → Prop)
    (hy : ∀ s0 s1 s2 s3, (g s0 s1 s2 s3) → CW P n (Cf s0 s1 s2 s3) (Ef s0 s1 s2 s3) Q y) (hx : (∀ s0 s1 s2 s3, (g s0 s1 s2 s3) → XW n (Cf s0 s1 s2 s3) (Ef s0 s1 s2 s3) (QS P y Q) .normal) → CW P n C E (QS P y Q) x) : CW P n C E Q (.seq x y) :=
  c_seq (hx (fun s0 s1 s2 s3 H => x_qs (hy s0 s1 s2 s3 H)))

theorem c_join5 {α0 α1 α2 α3 α4 : Type} {P : Program} {n : Nat} {C : World → Prop} {E : Env} {Q : Exit → Act → World → Prop} {x y : Code} (Cf : α0 → α1 → α2 → α3 → α4 → World → Prop) (Ef : α0 → α1 → α2 → α3 → α4 → Env) (g : α0 → α1 → α2 → α3 → α4 → Prop)
    (hy : ∀ s0 s1 s2 s3 s4, (g s0 s1 s2 s3 s4) → CW P n (Cf s0 s1 s2 s3 s4) (Ef s0 s1 s2 s3 s4) Q y) (hx : (∀ s0 s1 s2 s3 s4, (g s0 s1 s2 s3 s4) → XW n (Cf s0 s1 s2 s3 s4) (Ef s0 s1 s2 s3 s4) (QS P y Q) .normal) → CW P n C E (QS P y Q) x) : CW P n C E Q (.seq x y) :=
  c_seq (hx (fun s0 s1 s2 s3 s4 H => x_qs (hy s0 s1 s2 s3 s4 H)))

theorem c_join6 {α0 α1 α2 α3 α4 α5 : Type} {P : Program} {n : Nat} {C : World → Prop} {E : Env} {Q : Exit → Act → World → Prop} {x y : Code} (Cf : α0 → α1 → α2 → α3 → α4 → α5 → World → Prop) (Ef : α0 → α1 → α2 → α3 → α4 → α5 → Env) (g : α0 → α1 → α2 → α3 → α4 → α5 → Prop)
    (hy : ∀ s0 s1 s2 s3 s4 s5, (g s0 s1 s2 s3 s4 s5) → CW P n (Cf s0 s1 s2 s3 s4 s5) (Ef s0 s1 s2 s3 s4 s5) Q y) (hx : (∀ s0 s1 s2 s3 s4 s5, (g s0 s1 s2 s3 s4 s5) → XW n (Cf s0 s1 s2 s3 s4 s5) (Ef s0 s1 s2 s3 s4 s5) (QS P y Q) .normal) → CW P n C E (QS P y Q) x) : CW P n C E Q (.seq x y) :=
  c_seq (hx (fun s0 s1 s2 s3 s4 s5 H => x_qs (hy s0 s1 s2 s3 s4 s5 H)))

theorem c_join7 {α0 α1 α2 α3 α4 α5 α6 : Type} {P : Program} {n : Nat} {C : World → Prop} {E : Env} {Q : Exit → Act → World → Prop} {x y : Code} (Cf : α0 → α1 → α2 → α3 → α4 → α5 → α6 → World → Prop) (Ef : α0 → α1 → α2 → α3 → α4 → α5 → α6 → Env) (g : α0 → α1 → α2 → α3 → α4 → α5 → α6 → Prop)
    (hy : ∀ s0 s1 s2 s3 s4 s5 s6, (g s0 s1 s2 s3 s4 s5 s6) → CW P n (Cf s0 s1 s2 s3 s4 s5 s6) (Ef s0 s1 s2 s3 s4 s5 s6) Q y) (hx : (∀ s0 s1 s2 s3 s4 s5 s6, (g s0 s1 s2 s3 s4 s5 s6) → XW n (Cf s0 s1 s2 s3 s4 s5 s6) (Ef s0 s1 s2 s3 s4 s5 s6) (QS P y Q) .normal) → CW P n C E (QS P y Q) x) : CW P n C E Q (.seq x y) :=
  c_seq (hx (fun s0 s1 s2 s3 s4 s5 s6 H => x_qs (hy s0 s1 s2 s3 s4 s5 s6 H)))

theorem c_join8 {α0 α1 α2 α3 α4 α5 α6 α7 : Type} {P : Program} {n : Nat} {C : World → Prop} {E : Env} {Q : Exit → Act → World → Prop} {x y : Code} (Cf : α0 → α1 → α2 → α3 → α4 → α5 → α6 → α7 → World → Prop) (Ef : α0 → α1 → α2 → α3 → α4 → α5 → α6 → α7 → Env) (g : α0 → α1 → α2 → α3 → α4 → α5 → α6 → α7 → Prop)
    (hy : ∀ s0 s1 s2 s3 s4 s5 s6 s7, (g s0 s1 s2 s3 s4 s5 s6 s7) → CW P n (Cf s0 s1 s2 s3 s4 s5 s6 s7) (Ef s0 s1 s2 s3 s4 s5 s6 s7) Q y) (hx : (∀ s0 s1 s2 s3 s4 s5 s6 s7, (g s0 s1 s2 s3 s4 s5 s6 s7) → XW n (Cf s0 s1 s2 s3 s4 s5 s6 s7) (Ef s0 s1 s2 s3 s4 s5 s6 s7) (QS P y Q) .normal) → CW P n C E (QS P y Q) x) : CW P n C E Q (.seq x y) :=
  c_seq (hx (fun s0 s1 s2 s3 s4 s5 s6 s7 H => x_qs (hy s0 s1 s2 s3 s4 s5 s6 s7 H)))

theorem c_join9 {α0 α1 α2 α3 α4 α5 α6 α7 α8 : Type} {P : Program} {n : Nat} {C : World → Prop} {E : Env} {Q : Exit → Act → World → Prop} {x y : Code} (Cf : α0 → α1 → α2 → α3 → α4 → α5 → α6 → α7 → α8 → World → Prop) (Ef : α0 → α1 → α2 → α3 → α4 → α5 → α6 → α7 → α8 → Env) (g : α0 → α1 → α2 → α3 → α4 → α5 → α6 → α7 → α8 → Prop)
    (hy : ∀ s0 s1 s2 s3 s4 s5 s6 s7 s8, (g s0 s1 s2 s3 s4 s5 s6 s7 s8) → CW P n (Cf s0 s1 s2 s3 s4 s5 s6 s7 s8) (Ef s0 s1 s2 s3 s4 s5 s6 s7 s8) Q y) (hx : (∀ s0 s1 s2 s3 s4 s5 s6 s7 s8, (g s0 s1 s2 s3 s4 s5 s6 s7 s8) → XW n (Cf s0 s1 s2 s3 s4 s5 s6 s7 s8) (Ef s0 s1 s2 s3 s4 s5 s6 s7 s8) (QS P y Q) .normal) → CW P n C E (QS P y Q) x) : CW P n C E Q (.seq x y) :=
  c_seq (hx (fun s0 s1 s2 s3 s4 s5 s6 s7 s8 H => x_qs (hy s0 s1 s2 s3 s4 s5 s6 s7 s8 H)))

theorem c_join10 {α0 α1 α2 α3 α4 α5 α6 α7 α8 α9 : Type} {P : Program} {n : Nat} {C : World → Prop} {E : Env} {Q : Exit → Act → World → Prop} {x y : Code} (Cf : α0 → α1 → α2 → α3 → α4 → α5 → α6 → α7 → α8 → α9 → World → Prop) (Ef : α0 → α1 → α2 → α3 → α4 → α5 → α6 → α7 → α8 → α9 → Env) (g : α0 → α1 → α2 → α3 → α4 → α5 → α6 → α7 → α8 → α9 → Prop)
    (hy : ∀ s0 s1 s2 s3 s4 s5 s6 s7 s8 s9, (g s0 s1 s2 s3 s4 s5 s6 s7 s8 s9) → CW P n (Cf s0 s1 s2 s3 s4 s5 s6 s7 s8 s9) (Ef s0 s1 s2 s3 s4 s5 s6 s7 s8 s9) Q y) (hx : (∀ s0 s1 s2 s3 s4 s5 s6 s7 s8 s9, (g s0 s1 s2 s3 s4 s5 s6 s7 s8 s9) → XW n (Cf s0 s1 s2 s3 s4 s5 s6 s7 s8 s9) (Ef s0 s1 s2 s3 s4 s5 s6 s7 s8 s9) (QS P y Q) .normal) → CW P n C E (QS P y Q) x) : CW P n C E Q (.seq x y) :=
  c_seq (hx (fun s0 s1 s2 s3 s4 s5 s6 s7 s8 s9 H => x_qs (hy s0 s1 s2 s3 s4 s5 s6 s7 s8 s9 H)))

theorem c_join11 {α0 α1 α2 α3 α4 α5 α6 α7 α8 α9 α10 : Type} {P : Program} {n : Nat} {C : World → Prop} {E : Env} {Q : Exit → Act → World → Prop} {x y : Code} (Cf : α0 → α1 → α2 → α3 → α4 → α5 → α6 → α7 → α8 → α9 → α10 → World → Prop) (Ef : α0 → α1 → α2 → α3 → α4 → α5 → α6 → α7 → α8 → α9 → α10 → Env) (g : α0 → α1 → α2 → α3 → α4 → α5 → α6 → α7 → α8 → α9 → α10 → Prop)
    (hy : ∀ s0 s1 s2 s3 s4 s5 s6 s7 s8 s9 s10, (g s0 s1 s2 s3 s4 s5 s6 s7 s8 s9 s10) → CW P n (Cf s0 s1 s2 s3 s4 s5 s6 s7 s8 s9 s10) (Ef s0 s1 s2 s3 s4 s5 s6 s7 s8 s9 s10) Q y) (hx : (∀ s0 s1 s2 s3 s4 s5 s6 s7 s8 s9 s10, (g s0 s1 s2 s3 s4 s5 s6 s7 s8 s9 s10) → XW n (Cf s0 s1 s2 s3 s4 s5 s6 s7 s8 s9 s10) (Ef s0 s1 s2 s3 s4 s5 s6 s7 s8 s9 s10) (QS P y Q) .normal) → CW P n C E (QS P y Q) x) : CW P n C E Q (.seq x y) :=
  c_seq (hx (fun s0 s1 s2 s3 s4 s5 s6 s7 s8 s9 s10 H => x_qs (hy s0 s1 s2 s3 s4 s5 s6 s7 s8 s9 s10 H)))

theorem c_join12 {α0 α1 α2 α3 α4 α5 α6 α7 α8 α9 α10 α11 : Type} {P : Program} {n : Nat} {C : World → Prop} {E : Env} {Q : Exit → Act → World → Prop} {x y : Code} (Cf : α0 → α1 → α2 → α3 → α4 → α5 → α6 → α7 → α8 → α9 → α10 → α11 → World → Prop) (Ef : α0 → α1 → α2 → α3 → α4 → α5 → α6 → α7 → α8 → α9 → α10 → α11 → Env) (g : α0 → α1 → α2 → α3 → α4 → α5 → α6 → α7 → α8 → α9 → α10 → α11 → Prop)
    (hy : ∀ s0 s1 s2 s3 s4 s5 s6 s7 s8 s9 s10 s11, (g s0 s1 s2 s3 s4 s5 s6 s7 s8 s9 s10 s11) → CW P n (Cf s0 s1 s2 s3 s4 s5 s6 s7 s8 s9 s10 s11) (Ef s0 s1 s2 s3 s4 s5 s6 s7 s8 s9 s10 s11) Q y) (hx : (∀ s0 s1 s2 s3 s4 s5 s6 s7 s8 s9 s10 s11, (g s0 s1 s2 s3 s4 s5 s6 s7 s8 s9 s10 s11) → XW n (Cf s0 s1 s2 s3 s4 s5 s6 s7 s8 s9 s10 s11) (Ef s0 s1 s2 s3 s4 s5 s6 s7 s8 s9 s10 s11) (QS P y Q) .normal) → CW P n C E (QS P y Q) x) : CW P n C E Q (.seq x y) :=
  c_seq (hx (fun s0 s1 s2 s3 s4 s5 s6 s7 s8 s9 s10 s11 H => x_qs (hy s0 s1 s2 s3 s4 s5 s6 s7 s8 s9 s10 s11 H)))

theorem c_join13 {α0 α1 α2 α3 α4 α5 α6 α7 α8 α9 α10 α11 α12 : Type} {P : Program} {n : Nat} {C : World → Prop} {E : Env} {Q : Exit → Act → World → Prop} {x y : Code} (Cf : α0 → α1 → α2 → α3 → α4 → α5 → α6 → α7 → α8 → α9 → α10 → α11 → α12 → World → Prop) (Ef : α0 → α1 → α2 → α3 → α4 → α5 → α6 → α7 → α8 → α9 → α10 → α11 → α12 → Env) (g : α0 → α1 → α2 → α3 → α4 → α5 → α6 → α7 → α8 → α9 → α10 → α11 → α12 → Prop)
    (hy : ∀ s0 s1 s2 s3 s4 s5 s6 s7 s8 s9 s10 s11 s12, (g s0 s1 s2 s3 s4 s5 s6 s7 s8 s9 s10 s11 s12) → CW P n (Cf s0 s1 s2 s3 s4 s5 s6 s7 s8 s9 s10 s11 s12) (Ef s0 s1 s2 s3 s4 s5 s6 s7 s8 s9 s10 s11 s12) Q y) (hx : (∀ s0 s1 s2 s3 s4 s5 s6 s7 s8 s9 s10 s11 s12, (g s0 s1 s2 s3 s4 s5 s6 s7 s8 s9 s10 s11 s12) → XW n (Cf s0 s1 s2 s3 s4 s5 s6 s7 s8 s9 s10 s11 s12) (Ef s0 s1 s2 s3 s4 s5 s6 s7 s8 s9 s10 s11 s12) (QS P y Q) .normal) → CW P n C E (QS P y Q) x) : CW P n C E Q (.seq x y) :=
  c_seq (hx (fun s0 s1 s2 s3 s4 s5 s6 s7 s8 s9 s10 s11 s12 H => x_qs (hy s0 s1 s2 s3 s4 s5 s6 s7 s8 s9 s10 s11 s12 H)))

theorem c_join14 {α0 α1 α2 α3 α4 α5 α6 α7 α8 α9 α10 α11 α12 α13 : Type} {P : Program} {n : Nat} {C : World → Prop} {E : Env} {Q : Exit → Act → World → Prop} {x y : Code} (Cf : α0 → α1 → α2 → α3 → α4 → α5 → α6 → α7 → α8 → α9 → α10 → α11 → α12 → α13 → World → Prop) (Ef : α0 → α1 → α2 → α3 → α4 → α5 → α6 → α7 → α8 → α9 → α10 → α11 → α12 → α13 → Env) (g : α0 → α1 → α2 → α3 → α4 → α5 → α6 → α7 → α8 → α9 → α10 → α11 → α12 → α13 → Prop)
    (hy : ∀ s0 s1 s2 s3 s4 s5 s6 s7 s8 s9 s10 s11 s12 s13, (g s0 s1 s2 s3 s4 s5 s6 s7 s8 s9 s10 s11 s12 s13) → CW P n (Cf s0 s1 s2 s3 s4 s5 s6 s7 s8 s9 s10 s11 s12 s13) (Ef s0 s1 s2 s3 s4 s5 s6 s7 s8 s9 s10 s11 s12 s13) Q y) (hx : (∀ s0 s1 s2 s3 s4 s5 s6 s7 s8 s9 s10 s11 s12 s13, (g s0 s1 s2 s3 s4 s5 s6 s7 s8 s9 s10 s11 s12 s13) → XW n (Cf s0 s1 s2 s3 s4 s5 s6 s7 s8 s9 s10 s11 s12 s13) (Ef s0 s1 s2 s3 s4 s5 s6 s7 s8 s9 s10 s11 s12 s13) (QS P y Q) .normal) → CW P n C E (QS P y Q) x) : CW P n C E Q (.seq x y) :=
  c_seq (hx (fun s0 s1 s2 s3 s4 s5 s6 s7 s8 s9 s10 s11 s12 s13 H => x_qs (hy s0 s1 s2 s3 s4 s5 s6 s7 s8 s9 s10 s11 s12 s13 H)))

theorem c_join15 {α0 α1 α2 α3 α4 α5 α6 α7 α8 α9 α10 α11 α12 α13 α14 : Type} {P : Program} {n : Nat} {C : World → Prop} {E : Env} {Q : Exit → Act → World → Prop} {x y : Code} (Cf : α0 → α1 → α2 → α3 → α4 → α5 → α6 → α7 → α8 → α9 → α10 → α11 → α12 → α13 → α14 → World → Prop) (Ef : α0 → α1 → α2 → α3 → α4 → α5 → α6 → α7 → α8 → α9 → α10 → α11 → α12 → α13 → α14 → Env) (g : α0 → α1 → α2 → α3 → α4 → α5 → α6 → α7 → α8 → α9 → α10 → α11 → α12 → α13 → α14 → Prop)
    (hy : ∀ s0 s1 s2 s3 s4 s5 s6 s7 s8 s9 s10 s11 s12 s13 s14, (g s0 s1 s2 s3 s4 s5 s6 s7 s8 s9 s10 s11 s12 s13 s14) → CW P n (Cf s0 s1 s2 s3 s4 s5 s6 s7 s8 s9 s10 s11 s12 s13 s14) (Ef s0 s1 s2 s3 s4 s5 s6 s7 s8 s9 s10 s11 s12 s13 s14) Q y) (hx : (∀ s0 s1 s2 s3 s4 s5 s6 s7 s8 s9 s10 s11 s12 s13 s14, (g s0 s1 s2 s3 s4 s5 s6 s7 s8 s9 s10 s11 s12 s13 s14) → XW n (Cf s0 s1 s2 s3 s4 s5 s6 s7 s8 s9 s10 s11 s12 s13 s14) (Ef s0 s1 s2 s3 s4 s5 s6 s7 s8 s9 s10 s11 s12 s13 s14) (QS P y Q) .normal) → CW P n C E (QS P y Q) x) : CW P n C E Q (.seq x y) :=
  c_seq (hx (fun s0 s1 s2 s3 s4 s5 s6 s7 s8 s9 s10 s11 s12 s13 s14 H => x_qs (hy s0 s1 s2 s3 s4 s5 s6 s7 s8 s9 s10 s11 s12 s13 s14 H)))

theorem c_join16 {α0 α1 α2 α3 α4 α5 α6 α7 α8 α9 α10 α11 α12 α13 α14 α15 : Type} {P : Program} {n : Nat} {C : World → Prop} {E : Env} {Q : Exit → Act → World → Prop} {x y : Code} (Cf : α0 → α1 → α2 → α3 → α4 → α5 → α6 → α7 → α8 → α9 → α10 → α11 → α12 → α13 → α14 → α15 → World → Prop) (Ef : α0 → α1 → α2 → α3 → α4 → α5 → α6 → α7 → α8 → α9 → α10 → α11 → α12 → α13 → α14 → α15 → Env) (g : α0 → α1 → α2 → α3 → α4 → α5 → α6 → α7 → α8 → α9 → α10 → α11 → α12 → α13 → α14 → α15 → Prop)
    (hy : ∀ s0 s1 s2 s3 s4 s5 s6 s7 s8 s9 s10 s11 s12 s13 s14 s15, (g s0 s1 s2 s3 s4 s5 s6 s7 s8 s9 s10 s11 s12 s13 s14 s15) → CW P n (Cf s0 s1 s2 s3 s4 s5 s6 s7 s8 s9 s10 s11 s12 s13 s14 s15) (Ef s0 s1 s2 s3 s4 s5 s6 s7 s8 s9 s10 s11 s12 s13 s14 s15) Q y) (hx : (∀ s0 s1 s2 s3 s4 s5 s6 s7 s8 s9 s10 s11 s12 s13 s14 s15, (g s0 s1 s2 s3 s4 s5 s6 s7 s8 s9 s10 s11 s12 s13 s14 s15) → XW n (Cf s0 s1 s2 s3 s4 s5 s6 s7 s8 s9 s10 s11 s12 s13 s14 s15) (Ef s0 s1 s2 s3 s4 s5 s6 s7 s8 s9 s10 s11 s12 s13 s14 s15) (QS P y Q) .normal) → CW P n C E (QS P y Q) x) : CW P n C E Q (.seq x y) :=
  c_seq (hx (fun s0 s1 s2 s3 s4 s5 s6 s7 s8 s9 s10 s11 s12 s13 s14 s15 H => x_qs (hy s0 s1 s2 s3 s4 s5 s6 s7 s8 s9 s10 s11 s12 s13 s14 s15 H)))

end Go.Vk
