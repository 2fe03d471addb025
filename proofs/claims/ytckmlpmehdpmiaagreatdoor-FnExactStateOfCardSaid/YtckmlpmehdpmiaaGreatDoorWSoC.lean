/- The code does what the functions of data say. Printed by program. -/
import Derived.Test.YtckmlpmehdpmiaaGreatDoorWSoB
namespace Go.Vk
open Go.Vk renaming oP → A, aa → C, sR → D, o1 → G, nQ → P, St → Q, ae → V, ab → Z, ah → E, am → R, sb → c, bE → d, af → g
open Value renaming int → I, slice → S, pointer → O, bool → B
open IntKind renaming i64 → J, u8 → K
open Bool renaming true → y, false → n
open Option renaming some → U, none → N
open Res renaming box → b, own → W
open Go.Proofs Go.RowKit
set_option maxHeartbeats 4000000
set_option maxRecDepth 100000
theorem se (w) {o p0 r} (H : mF p0 = U r) (HS : Q w o [] w) :
    Calls Tryz.prog 89 #[I J p0] w (fun en w' => ∃ v, en = .returned v ∧ ∃ a f c0 h, v = S a f c0 ∧ Q w o [W (V e8 5) h r [S a f c0]] w') := by
 unfold mF at H
 refine ar Tryz.func89 z Tryz.ntmps89 z (HS) <| D <| A z <| nR <| eS (e := e8) z z z z cC ty5 (fun _ => kp) fun k => A z <| P <| E <| D <| A z <| bq H kO (fun _ a q l => bm q a) z tt2 fun a H => A z <| P <| cI H z ?_ ?_ <;> intro H
 ·exact D <| oPP z <| nT <| aS <| Z H ▸ xo z fun w' hw' => ⟨_, z, (U ⟨k, 0, N⟩), 0, 0, [k], z, hw'.sel [0] z z⟩
 ·refine ai <| R <| E <| an <| CW.at (lq (fun (a : Int) (f : List Int) (h : Option Addr) (j : Nat) (m : List Nat) => Q w o [W (V e8 5) m f [S h f.length j]]) (fun a f h j m => [(0, I J a), (3, S h f.length j)]) (fun kk => fun a f h j m => h.isNone = n ∧ jv kk a f = U r) (fun _ _ _ _ _ H => nomatch H.2) (fun o o a f h j m ⟨f, H⟩ => ?_) aI (p0) (([] : List Int)) ((U ⟨k, 0, N⟩)) (0) ([k]) (⟨z, H⟩)) (ss [0] z z) (c z)
  unfold jv at H
  refine E <| D <| oPP z <| P <| cI H z ?_ ?_ <;> intro H
  ·exact ai <| R <| an <| D <| C [.p, .p, .p, .p, .cv 3 5 K us3 in5] z <| cF (val := I K) (h1 := fun _ => z) [K.wrap (J.wrap ((Int.tmod a 128) + 128))] [(0, [I K (K.wrap (J.wrap ((Int.tmod a 128) + 128)))])] z z z z z cC ty5 z z z ⟨z, z, nl z, Y⟩ z z (fun _ => kp) fun f => d H fun h f H => cq (r := 0) (ys := ([K.wrap (J.wrap ((Int.tmod a 128) + 128))] : List Int)) z z z z z z cC ty5 z z z (av (e := V e8 5) (r := 1) z) f (fun _ _ _ => kp) fun j k m => eF z (fun q l => kK (i := 0) l z (kC f)) fun f => A z <| P <| aH <| C [.p, .p, .p] z <| ay <| bR <| bU (RW.at (o (J.wrap (Int.tdiv a 128)) (h) (j) (k) (m) (⟨f, H⟩)) (ss [0] z z) (c z))
  ·exact aU <| aB <| aE <| aA <| R <| D <| C [.p, .p, .cv 3 5 K us3 in5] z <| cF (val := I K) (h1 := fun _ => z) [K.wrap a] [(0, [I K (K.wrap a)])] z z z z z cC ty5 z z z ⟨z, z, nl z, Y⟩ z z (fun _ => kp) fun f => d H fun h f H => cq (r := 0) (ys := ([K.wrap a] : List Int)) z z z z z z cC ty5 z z z (av (e := V e8 5) (r := 1) z) f (fun _ _ _ => kp) fun a j k => eF z (fun q l => kK (i := 0) l z (kC f)) fun f => A z <| nT <| Z H ▸ xo z fun w' hw' => ⟨_, z, a, h.length, j, k, z, hw'.sel [0] z z⟩
theorem AA (w) {h p0 r} (H : pR p0 = U r) (HS : Q w h [] w) :
    Calls Tryz.prog 40 #[vS p0] w (fun en w' => ∃ v, en = .returned v ∧ ∃ a f c0 j, v = S a f c0 ∧ Q w h [W (V e8 5) j r [S a f c0]] w') := by
 unfold pR at H
 refine ar Tryz.func40 z Tryz.ntmps40 z (HS) <| D <| A z <| nR <| C [.p, .lenT 9 st9] z <| d H fun a f H => aq z PD z z z z (fun j a => se j f (a.carve [] z z)) fun f j f a j => ?_
 obtain ⟨f, f, f, f, rfl, f⟩ := j
 obtain rfl := aL (i := 0) f z
 refine ⟨Q w h [_], a.comp [] z z f, fun _ _ => Y, ?_⟩
 exact A z <| d H fun a f H => Po z z z z z st9 cC in5 f (fun _ _ => kp) fun f f => d H fun f h H => cq (r := 0) (ys := a) z z z z z z cC ty5 z z z (av (e := V e8 5) (r := 1) z) h (fun _ _ _ => kp) fun a h j => A z <| nT <| Z H ▸ xo z fun w' hw' => ⟨_, z, a, f.length, h, j, z, hw'.sel [0] z z⟩
theorem tm (w) {p0 r} (H : qh p0 = U r) :
    Calls Tryz.prog 42 #[B p0] w (fun en w' => en = .returned (I J r) ∧ Ext [] w w') := by
 unfold qh at H
 refine ar Tryz.func42 z Tryz.ntmps42 z (St.init w []) <| D <| A z <| P <| E <| D <| A z <| P <| cI H z ?_ ?_ <;> intro H
 ·exact D <| A z <| nT <| Z H ▸ xw z
 ·exact ai <| R <| D <| A z <| nT <| Z H ▸ xw z
theorem cD (w) {j p0 r} (H : cP p0 = U r) (HS : Q w j [] w) :
    Calls Tryz.prog 43 #[I J p0] w (fun en w' => ∃ v, en = .returned v ∧ ∃ a f c0 h, v = S a f c0 ∧ Q w j [W (V e8 5) h r [S a f c0]] w') := by
 unfold cP at H
 refine ar Tryz.func43 z Tryz.ntmps43 z (HS) <| D <| A z <| P <| E <| D <| A z <| bq H kO (fun _ h f a => bm f h) z tt2 fun h H => A z <| P <| cI H z ?_ ?_ <;> intro H
 ·exact D <| eS (e := e8) z z z z cC ty5 (fun _ => kp) fun h => A z <| nT <| aS <| Z H ▸ xo z fun w' hw' => ⟨_, z, (U ⟨h, 0, N⟩), 0, 0, [h], z, hw'.sel [0] z z⟩
 ·refine ai <| R <| E <| D <| oPP z <| P <| cI H z ?_ ?_ <;> intro H
  ·refine D <| C [.p, .p, .p, .p] z <| d H fun l h H => aq z PD z z z z (fun f a => se f h (a.carve [] z z)) fun h f s a k => ?_
   obtain ⟨m, h, o, q, rfl, h⟩ := k
   obtain rfl := aL (i := 0) h z
   refine ⟨Q w j [_], a.comp [] z z h, fun _ _ => Y, ?_⟩
   exact A z <| nT <| aS <| Z H ▸ xo z fun w' hw' => ⟨_, z, m, l.length, o, q, z, hw'.sel [0] z z⟩
  ·refine ai <| R <| D <| oPP z <| d H fun k h H => aq z PD z z z z (fun f a => se f h (a.carve [] z z)) fun h f s a h => ?_
   obtain ⟨l, f, m, o, rfl, f⟩ := h
   obtain rfl := aL (i := 0) f z
   refine ⟨Q w j [_], a.comp [] z z f, fun _ _ => Y, ?_⟩
   exact A z <| nT <| Z H ▸ xo z fun w' hw' => ⟨_, z, l, k.length, m, o, z, hw'.sel [0] z z⟩
theorem gO (w) {p0 e a f r} (H : fp p0 = U r) (h : (V eI 3).rd w [] p0 [S e a f]) :
    Calls Tryz.prog 92 #[S e a f] w (fun en w' => en = .returned (B r) ∧ Ext [] w w') := by
 obtain rfl := dc h
 unfold fp at H
 refine ar Tryz.func92 z Tryz.ntmps92 z (St.init w []) <| D <| A z <| P <| E <| D <| A z <| P <| an <| CW.at (dq (fun (a : Int) => Q w [] []) (fun a => [(0, S e p0.length f), (3, I J a)]) (fun kk => fun a => lP p0 kk a = U r) nofun (fun e e a H => ?_) aI (0) (H)) (ss [] z z) (c z)
 unfold lP at H
 refine E <| D <| C [.p, .p, .lenS 63 3 bB, .p] z <| P <| cI H z ?_ ?_ <;> intro H
 ·refine ai <| R <| E <| an <| D <| oPP z <| d H fun f f H => ix1 bB ty3 (g h) f z z <| bq H kO (fun _ f h i => bm h f) z tt2 fun f H => A z <| P <| cI H z ?_ ?_ <;> intro H
  ·exact D <| A z <| nT <| Z H ▸ xw z
  ·exact ai <| bR <| R <| aH <| C [.p, .p, .p] z <| ay <| bU (RW.at (e (J.wrap (a + 1)) (H)) (ss [] z z) (c z))
 ·exact aU <| aB <| aE <| aA <| R <| D <| A z <| nT <| Z H ▸ xw z
theorem wj (w) {p0 a r} (H : kH p0 = U r) (f : (aQ).rd w [] p0 a) :
    Calls Tryz.prog 93 #[.agg a.toArray] w (fun en w' => en = .returned (B r) ∧ Ext [] w w') := by
 obtain ⟨s, t, u, v, x, F, L, M, rfl, T, X, a0, a1⟩ := aY f
 unfold kH at H
 refine ar Tryz.func93 z Tryz.ntmps93 z (St.init w []) <| D <| ob _ z fun i => A z <| P <| E <| D <| C [.fa 145 1 1 ip, .fa 141 0 0 kx] z <| G z (r1 1 0 z ty3 z) <| C [.fa 145 1 1 ip, .fa 141 1 1 mw] z <| G z (r1 2 0 z ty3 z) <| C [.fa 145 3 4 lx] z <| G z (r1 4 0 z ty3 z) <| C [.fa 145 5 7 kw] z <| G z (r1 7 0 z ty3 z) <| C [.fa 145 7 9 gC] z <| G z (r1 9 0 z ty3 z) <| C [.fa 145 8 10 iW] z <| G z (r1 10 0 z ty3 z) <| C [.fa 145 9 11 iY] z <| G z (r1 11 0 z ty3 z) <| cF (val := I J) (h1 := fun _ => z) [p0.i_.t_, p0.i_.u_, p0.I_, p0.J_, p0.h_, p0.A_, p0.G_] [(0, [I J p0.i_.t_]), (1, [I J p0.i_.u_]), (2, [I J p0.I_]), (3, [I J p0.J_]), (4, [I J p0.h_]), (5, [I J p0.A_]), (6, [I J p0.G_])] z z z z z bB ty3 z z z ⟨z, z, nl z, z, z, nl z, z, z, nl z, z, z, nl z, z, z, nl z, z, z, nl z, z, z, nl z, Y⟩ z z (fun _ => kp) fun a => bq H Hl (fun _ h a f => gO a h (av (e := V eI 3) (r := 1) z a f)) z tt2 fun l H => oPP z <| d H fun j m H => cu2 [(1, O (U ⟨i, 0, N⟩))] [(23, B (!l))] 5 (28, B j) z ?_ fun key => ?_
 ·refine A z <| d H fun k o H => cu2 [(1, O (U ⟨i, 0, N⟩))] [(29, B j)] 5 (34, B k) z ?_ fun key => ?_
  ·refine A z <| d H fun h q H => cu2 [(1, O (U ⟨i, 0, N⟩))] [(35, B k)] 6 (41, B h) z ?_ fun key => ?_
   ·refine P <| cI H z ?_ ?_ <;> intro H
    ·exact D <| A z <| nT <| Z H ▸ xw z
    ·refine ai <| R <| E <| D <| A z <| P <| an <| CW.at (dq (fun (h : Int) => Q w [] [b i 145 [B p0.B_, I J p0.i_.t_, I J p0.i_.u_, S s p0.v_.length t, I J p0.I_, S u p0.k_.q_.length v, S x p0.k_.l_.length F, I J p0.J_, S L p0.d_.length M, I J p0.h_, I J p0.A_, I J p0.G_]]) (fun h => [(1, O (U ⟨i, 0, N⟩)), (3, I J h)]) (fun kk => fun h => gG p0 kk h = U r) nofun (fun i s h H => ?_) aI (0) (H)) (ss [0] z z) (c z)
     unfold gG at H
     refine E <| D <| C [.p, .fa 145 4 5 ea, .fa 143 1 1 eW] z <| G z (r1 6 0 z fw z) <| C [.lenS 34 63 eg, .p] z <| P <| cI H z ?_ ?_ <;> intro H
     ·refine ai <| R <| E <| an <| D <| C [.fa 145 4 5 ea, .fa 143 1 1 eW] z <| G z (r1 6 0 z fw z) <| A z <| d H fun i i H => bu z z z z z eg bP z a0 i fun i i i t => ?_
      obtain ⟨u, u, rfl⟩ := dz i
      refine G z (aT z z bP (bh bor t)) <| bq H Hl (fun _ t a f => gO a t (g i a f)) z tt2 fun i H => A z <| P <| cI H z ?_ ?_ <;> intro H
      ·exact D <| A z <| nT <| Z H ▸ xw z
      ·exact ai <| bR <| R <| aH <| C [.p, .p, .p] z <| ay <| bU (RW.at (s (J.wrap (h + 1)) (H)) (ss [0] z z) (c z))
     ·exact aU <| aB <| aE <| aA <| R <| D <| A z <| nT <| Z H ▸ xw z
   ·have H := q
    generalize k = h at H key ⊢
    cases h
    ·have H := aN z H
     refine C [.fa 145 4 5 ea, .fa 143 0 0 iu] z <| G z (r1 5 0 z bP z) <| bq H Hl (fun _ h a f => gO a h (g X a f)) z tt2 fun h H => A z <| A z <| ?_
     obtain rfl := Z H
     exact OW.sub key (c z)
    ·have H := aO z H
     refine C [.p, .p, .p, .p, .p, .p] z ?_
     obtain rfl := Z H
     exact OW.sub key (c z)
  ·have H := o
   generalize j = h at H key ⊢
   cases h
   ·have H := aN z H
    refine C [.fa 145 6 8 mv] z <| G z (r1 8 0 z bP z) <| bq H Hl (fun _ h a f => gO a h (g a1 a f)) z tt2 fun h H => A z <| A z <| ?_
    obtain rfl := Z H
    exact OW.sub key (c z)
   ·have H := aO z H
    refine C [.p, .p, .p, .p, .p] z ?_
    obtain rfl := Z H
    exact OW.sub key (c z)
 ·have H := m
  generalize (!l) = h at H key ⊢
  cases h
  ·have H := aN z H
   refine C [.fa 145 2 3 fP] z <| G z (r1 3 0 z bP z) <| bq H Hl (fun _ h a f => gO a h (g T a f)) z tt2 fun a H => A z <| A z <| ?_
   obtain rfl := Z H
   exact OW.sub key (c z)
  ·have H := aO z H
   refine C [.p, .p, .p, .p, .p] z ?_
   obtain rfl := Z H
   exact OW.sub key (c z)
theorem mh (w) {o p0 q a s r} (H : im p0 = U r) (HS : Q w o [] w) (t : (V eI 3).rd w o p0 [S q a s]) :
    Calls Tryz.prog 46 #[S q a s] w (fun en w' => ∃ v, en = .returned v ∧ ∃ a f c0 h, v = S a f c0 ∧ Q w o [W (V e8 5) h r [S a f c0]] w') := by
 obtain rfl := dc t
 unfold im at H
 refine ar Tryz.func46 z Tryz.ntmps46 z (HS) <| D <| A z <| P <| E <| D <| A z <| bq H Hl (fun _ f l a => gO l f (g t l a)) z tt2 fun f H => A z <| P <| cI H z ?_ ?_ <;> intro H
 ·exact D <| eS (e := e8) z z z z cC ty5 (fun _ => kp) fun f => A z <| nT <| aS <| Z H ▸ xo z fun w' hw' => ⟨_, z, (U ⟨f, 0, N⟩), 0, 0, [f], z, hw'.sel [0] z z⟩
 ·refine ai <| R <| D <| C [.p, .lenS 63 3 bB] z <| d H fun u f H => aq z uO z z z z (fun l a => cD l f (a.carve [] z z)) fun f l M a h => ?_
  obtain ⟨x, f, F, L, rfl, f⟩ := h
  obtain rfl := aL (i := 0) f z
  refine ⟨Q w o [_], a.comp [] z z f, fun _ _ => Y, ?_⟩
  refine A z <| P <| E <| D <| A z <| P <| an <| CW.at (lq (fun (f : List Int) (h : Option Addr) (j : Nat) (m : List Nat) (k : Int) => Q w o [W (V e8 5) m f [S h f.length j]]) (fun f h j m k => [(0, S q p0.length s), (3, S h f.length j), (4, I J k)]) (fun kk => fun f h j m k => jP p0 kk f k = U r) nofun (fun q q f h j m k H => ?_) aI (u) (x) (F) (L) (0) (H)) (ss [0] z z) (c z)
  unfold jP at H
  refine E <| D <| C [.p, .p, .lenS 63 3 bB, .p] z <| P <| cI H z ?_ ?_ <;> intro H
  ·refine ai <| R <| E <| an <| aH <| C [.p, .p, .p] z <| d H fun s s H => ix1 bB ty3 (g t) s z z <| d H fun t s H => aq z uO z z z z (fun l a => cD l s (a.carve [] z z)) fun s l M a s => ?_
   obtain ⟨l, l, l, l, rfl, l⟩ := s
   obtain rfl := aL (i := 0) l z
   refine ⟨Q w o [_, _], a.comp [] z z l, fun _ _ => Y, ?_⟩
   exact d H fun a l H => cq (r := 0) (ys := t) z z z z z z cC ty5 z z z (av (e := V e8 5) (r := 1) z) l (fun _ _ _ => kp) fun l o s => A z <| ay <| bR <| R <| aH <| C [.p, .p, .p] z <| ay <| bU (RW.at (q (a) (l) (o) (s) (J.wrap (k + 1)) (H)) (ss [0] z z) (c z))
  ·exact aU <| aB <| aE <| aA <| R <| D <| oPP z <| nT <| Z H ▸ xo z fun w' hw' => ⟨_, z, h, f.length, j, m, z, hw'.sel [0] z z⟩
theorem qY (w) {m p0 q a s r} (H : il p0 = U r) (HS : Q w m [] w) (t : (V (V eI 3) 63).rd w m p0 [S q a s]) :
    Calls Tryz.prog 95 #[S q a s] w (fun en w' => ∃ v, en = .returned v ∧ ∃ a f c0 h, v = S a f c0 ∧ Q w m [W (V e8 5) h r [S a f c0]] w') := by
 obtain rfl := dc t
 unfold il at H
 refine ar Tryz.func95 z Tryz.ntmps95 z (HS) <| D <| A z <| nR <| C [.p, .lenS 34 63 eg] z <| d H fun u f H => aq z uO z z z z (fun o a => cD o f (a.carve [] z z)) fun f o M a h => ?_
 obtain ⟨x, f, F, L, rfl, f⟩ := h
 obtain rfl := aL (i := 0) f z
 refine ⟨Q w m [_], a.comp [] z z f, fun _ _ => Y, ?_⟩
 refine A z <| P <| E <| D <| A z <| P <| an <| CW.at (lq (fun (f : List Int) (h : Option Addr) (j : Nat) (l : List Nat) (k : Int) => Q w m [W (V e8 5) l f [S h f.length j]]) (fun f h j l k => [(0, S q p0.length s), (3, S h f.length j), (4, I J k)]) (fun kk => fun f h j l k => iN p0 kk f k = U r) nofun (fun q s f h j l k H => ?_) aI (u) (x) (F) (L) (0) (H)) (ss [0] z z) (c z)
 unfold iN at H
 refine E <| D <| C [.p, .p, .lenS 34 63 eg, .p] z <| P <| cI H z ?_ ?_ <;> intro H
 ·refine ai <| R <| E <| an <| aH <| C [.p, .p, .p] z <| d H fun q q H => bu z z z z z eg bP z t q fun q q q t => ?_
  obtain ⟨u, u, rfl⟩ := dz q
  refine G z (aT z z bP (bh bor t)) <| d H fun t u H => aq z Le z z z z (fun o a => mh o u (a.carve [] z z) (g q o a)) fun q o M a q => ?_
  obtain ⟨o, o, o, o, rfl, o⟩ := q
  obtain rfl := aL (i := 0) o z
  refine ⟨Q w m [_, _], a.comp [] z z o, fun _ _ => Y, ?_⟩
  exact d H fun a m H => cq (r := 0) (ys := t) z z z z z z cC ty5 z z z (av (e := V e8 5) (r := 1) z) m (fun _ _ _ => kp) fun m o q => A z <| ay <| bR <| R <| aH <| C [.p, .p, .p] z <| ay <| bU (RW.at (s (a) (m) (o) (q) (J.wrap (k + 1)) (H)) (ss [0] z z) (c z))
 ·exact aU <| aB <| aE <| aA <| R <| D <| oPP z <| nT <| Z H ▸ xo z fun w' hw' => ⟨_, z, h, f.length, j, l, z, hw'.sel [0] z z⟩
theorem wG (w) {h p0 a r} (H : lH p0 = U r) (HS : Q w h [] w) (j : (aQ).rd w h p0 a) :
    Calls Tryz.prog 94 #[.agg a.toArray] w (fun en w' => ∃ v, en = .returned v ∧ ∃ a f c0 k, v = S a f c0 ∧ Q w h [W (V e8 5) k r [S a f c0]] w') := by
 obtain ⟨a, a, a, a, a, a, a, a, rfl, m, o, q, s⟩ := aY j
 unfold lH at H
 refine ar Tryz.func94 z Tryz.ntmps94 z (HS) <| D <| ob _ z fun a => A z <| nR <| C [.fa 145 0 0 ln] z <| G z (r1 0 0 z ty4 z) <| bq H OJ (fun _ j f a => tm f j) z tt2 fun j H => d H fun j j H => aq z uO z z z z (fun f a => cD f j (a.carve [] z z)) fun j f j a l => ?_
 obtain ⟨k, k, k, k, rfl, k⟩ := l
 obtain rfl := aL (i := 0) k z
 refine ⟨Q w h [_, _], a.comp [] z z k, fun _ _ => Y, ?_⟩
 refine A z <| nR <| C [.p, .fa 145 1 1 ip, .fa 141 0 0 kx] z <| G z (r1 1 0 z ty3 z) <| d H fun t k H => aq z uO z z z z (fun f a => cD f k (a.carve [] z z)) fun k f j a l => ?_
 obtain ⟨k, k, k, k, rfl, k⟩ := l
 obtain rfl := aL (i := 0) k z
 refine ⟨Q w h [_, _, _], a.comp [] z z k, fun _ _ => Y, ?_⟩
 refine d H fun k k H => cq (r := 1) (ys := t) z z z z z z cC ty5 z z z (av (e := V e8 5) (r := 2) z) k (fun _ _ _ => kp) fun k k k => A z <| nR <| C [.p, .fa 145 1 1 ip, .fa 141 1 1 mw] z <| G z (r1 2 0 z ty3 z) <| d H fun t k H => aq z uO z z z z (fun f a => cD f k (a.carve [] z z)) fun k f j a l => ?_
 obtain ⟨k, k, k, k, rfl, k⟩ := l
 obtain rfl := aL (i := 0) k z
 refine ⟨Q w h [_, _, _, _], a.comp [] z z k, fun _ _ => Y, ?_⟩
 refine d H fun k k H => cq (r := 1) (ys := t) z z z z z z cC ty5 z z z (av (e := V e8 5) (r := 3) z) k (fun _ _ _ => kp) fun k k k => A z <| nR <| C [.p, .fa 145 2 3 fP] z <| G z (r1 3 0 z bP z) <| d H fun t k H => aq z Le z z z z (fun f a => mh f k (a.carve [] z z) (g m f a)) fun k f j a l => ?_
 obtain ⟨k, k, k, k, rfl, k⟩ := l
 obtain rfl := aL (i := 0) k z
 refine ⟨Q w h [_, _, _, _, _], a.comp [] z z k, fun _ _ => Y, ?_⟩
 refine d H fun k k H => cq (r := 1) (ys := t) z z z z z z cC ty5 z z z (av (e := V e8 5) (r := 4) z) k (fun _ _ _ => kp) fun k k k => A z <| nR <| C [.p, .fa 145 3 4 lx] z <| G z (r1 4 0 z ty3 z) <| d H fun m k H => aq z uO z z z z (fun f a => cD f k (a.carve [] z z)) fun k f j a l => ?_
 obtain ⟨k, k, k, k, rfl, k⟩ := l
 obtain rfl := aL (i := 0) k z
 refine ⟨Q w h [_, _, _, _, _, _], a.comp [] z z k, fun _ _ => Y, ?_⟩
 refine d H fun k k H => cq (r := 1) (ys := m) z z z z z z cC ty5 z z z (av (e := V e8 5) (r := 5) z) k (fun _ _ _ => kp) fun k k k => A z <| nR <| C [.p, .fa 145 4 5 ea, .fa 143 0 0 iu] z <| G z (r1 5 0 z bP z) <| d H fun m k H => aq z Le z z z z (fun f a => mh f k (a.carve [] z z) (g o f a)) fun k f j a l => ?_
 obtain ⟨k, k, k, k, rfl, k⟩ := l
 obtain rfl := aL (i := 0) k z
 refine ⟨Q w h [_, _, _, _, _, _, _], a.comp [] z z k, fun _ _ => Y, ?_⟩
 refine d H fun k k H => cq (r := 1) (ys := m) z z z z z z cC ty5 z z z (av (e := V e8 5) (r := 6) z) k (fun _ _ _ => kp) fun k k k => A z <| nR <| C [.p, .fa 145 4 5 ea, .fa 143 1 1 eW] z <| G z (r1 6 0 z fw z) <| d H fun m k H => aq z Ri z z z z (fun f a => qY f k (a.carve [] z z) (g q f a)) fun k f j a l => ?_
 obtain ⟨k, k, k, k, rfl, k⟩ := l
 obtain rfl := aL (i := 0) k z
 refine ⟨Q w h [_, _, _, _, _, _, _, _], a.comp [] z z k, fun _ _ => Y, ?_⟩
 refine d H fun k k H => cq (r := 1) (ys := m) z z z z z z cC ty5 z z z (av (e := V e8 5) (r := 7) z) k (fun _ _ _ => kp) fun k k k => A z <| nR <| C [.p, .fa 145 5 7 kw] z <| G z (r1 7 0 z ty3 z) <| d H fun m k H => aq z uO z z z z (fun f a => cD f k (a.carve [] z z)) fun k f j a l => ?_
 obtain ⟨k, k, k, k, rfl, k⟩ := l
 obtain rfl := aL (i := 0) k z
 refine ⟨Q w h [_, _, _, _, _, _, _, _, _], a.comp [] z z k, fun _ _ => Y, ?_⟩
 refine d H fun k k H => cq (r := 1) (ys := m) z z z z z z cC ty5 z z z (av (e := V e8 5) (r := 8) z) k (fun _ _ _ => kp) fun k k k => A z <| nR <| C [.p, .fa 145 6 8 mv] z <| G z (r1 8 0 z bP z) <| d H fun m k H => aq z Le z z z z (fun f a => mh f k (a.carve [] z z) (g s f a)) fun k f j a l => ?_
 obtain ⟨k, k, k, k, rfl, k⟩ := l
 obtain rfl := aL (i := 0) k z
 refine ⟨Q w h [_, _, _, _, _, _, _, _, _, _], a.comp [] z z k, fun _ _ => Y, ?_⟩
 refine d H fun k k H => cq (r := 1) (ys := m) z z z z z z cC ty5 z z z (av (e := V e8 5) (r := 9) z) k (fun _ _ _ => kp) fun k k k => A z <| nR <| C [.p, .fa 145 7 9 gC] z <| G z (r1 9 0 z ty3 z) <| d H fun m k H => aq z uO z z z z (fun f a => cD f k (a.carve [] z z)) fun k f j a l => ?_
 obtain ⟨k, k, k, k, rfl, k⟩ := l
 obtain rfl := aL (i := 0) k z
 refine ⟨Q w h [_, _, _, _, _, _, _, _, _, _, _], a.comp [] z z k, fun _ _ => Y, ?_⟩
 refine d H fun k k H => cq (r := 1) (ys := m) z z z z z z cC ty5 z z z (av (e := V e8 5) (r := 10) z) k (fun _ _ _ => kp) fun k k k => A z <| nR <| C [.p, .fa 145 8 10 iW] z <| G z (r1 10 0 z ty3 z) <| d H fun m k H => aq z uO z z z z (fun f a => cD f k (a.carve [] z z)) fun k f j a l => ?_
 obtain ⟨k, k, k, k, rfl, k⟩ := l
 obtain rfl := aL (i := 0) k z
 refine ⟨Q w h [_, _, _, _, _, _, _, _, _, _, _, _], a.comp [] z z k, fun _ _ => Y, ?_⟩
 refine d H fun k k H => cq (r := 1) (ys := m) z z z z z z cC ty5 z z z (av (e := V e8 5) (r := 11) z) k (fun _ _ _ => kp) fun k k k => A z <| nR <| C [.p, .fa 145 9 11 iY] z <| G z (r1 11 0 z ty3 z) <| d H fun k l H => aq z uO z z z z (fun f a => cD f l (a.carve [] z z)) fun l f j a j => ?_
 obtain ⟨f, f, f, f, rfl, f⟩ := j
 obtain rfl := aL (i := 0) f z
 refine ⟨Q w h [_, _, _, _, _, _, _, _, _, _, _, _, _], a.comp [] z z f, fun _ _ => Y, ?_⟩
 exact d H fun a f H => cq (r := 1) (ys := k) z z z z z z cC ty5 z z z (av (e := V e8 5) (r := 12) z) f (fun _ _ _ => kp) fun f h j => A z <| nT <| Z H ▸ xo z fun w' hw' => ⟨_, z, f, a.length, h, j, z, hw'.sel [1] z z⟩
theorem uF (w) {q p0 a r} (H : ls p0 = U r) (HS : Q w q [] w) (h : (bz).rd w q p0 a) :
    Calls Tryz.prog 44 #[.agg a.toArray] w (fun en w' => ∃ v, en = .returned v ∧ ∃ a f c0 j, v = S a f c0 ∧ Q w q [W (V e8 5) j r [S a f c0]] w') := by
 obtain ⟨s, t, rfl, u⟩ := cj h
 unfold ls at H
 refine ar Tryz.func44 z Tryz.ntmps44 z (HS) <| D <| ob _ z fun f => A z <| P <| E <| D <| C [.fa 69 1 1 nH] z <| G z (r1 1 0 z ty3 z) <| cF (val := I J) (h1 := fun _ => z) [p0.y_] [(0, [I J p0.y_])] z z z z z bB ty3 z z z ⟨z, z, nl z, Y⟩ z z (fun _ => kp) fun j => bq H Hl (fun _ k h a => gO h k (av (e := V eI 3) (r := 1) z h a)) z tt2 fun k H => A z <| P <| cI H z ?_ ?_ <;> intro H
 ·exact D <| eS (e := e8) z z z z cC ty5 (fun _ => kp) fun k => A z <| nT <| aS <| Z H ▸ xo z fun w' hw' => ⟨_, z, (U ⟨k, 0, N⟩), 0, 0, [k], z, hw'.sel [2] z z⟩
 ·refine ai <| R <| E <| lu 6 [(0, y), (1, y), (3, y), (4, y), (5, y), (2, n)] (Q w q [b f 69 [S s p0.e_.length t, I J p0.y_], W (V eI 3) [j] ([p0.y_] : List Int) [S (U ⟨j, 0, N⟩) (([p0.y_] : List Int).length) 1]]) dC (by kernel_rfl) (cr dx) (tk 2 z) <| C [.fa 69 1 1 nH] z <| ek z (aV z) (r1 1 0 z ty3 z) <| C [.fa 69 0 0 dD] z <| ek z (aV z) (r1 0 0 z ks z) <| C [.lenS 67 145 eN] z <| d H fun j j H => aq z uO z z z z (fun h a => cD h j (a.carve [] z z)) fun j h w2 a k => ?_
  obtain ⟨j, j, j, j, rfl, j⟩ := k
  obtain rfl := aL (i := 0) j z
  refine ⟨Q w q [_, _, _], a.comp [] z z j, (tk 2 z), ?_⟩
  refine jI <| we <| d H fun l j H => aq z uO z z z z (fun h a => cD h j (a.carve [] z z)) fun j h w2 a k => ?_
  obtain ⟨j, j, j, j, rfl, j⟩ := k
  obtain rfl := aL (i := 0) j z
  refine ⟨Q w q [_, _, _, _], a.comp [] z z j, fun _ _ => Y, ?_⟩
  refine d H fun F j H => cq (r := 2) (ys := l) z z z z z z cC ty5 z z z (av (e := V e8 5) (r := 3) z) j (fun _ _ _ => kp) fun L M T => A z <| P <| E <| D <| A z <| P <| an <| CW.at (lq (fun (j : List Int) (k : Option Addr) (l : Nat) (o : List Nat) (m : Int) => Q w q [b f 69 [S s p0.e_.length t, I J p0.y_], W (V e8 5) o j [S k j.length l]]) (fun j k l o m => [(1, O (U ⟨f, 0, N⟩)), (3, S k j.length l), (4, I J m)]) (fun kk => fun j k l o m => mg p0 kk j m = U r) nofun (fun f x j k l o m H => ?_) aI (F) (L) (M) (T) (0) (H)) (ss [0, 2] z z) (c z)
  unfold mg at H
  refine E <| D <| C [.p, .fa 69 0 0 dD] z <| G z (r1 0 0 z ks z) <| C [.lenS 67 145 eN, .p] z <| P <| cI H z ?_ ?_ <;> intro H
  ·refine ai <| R <| E <| an <| E <| D <| C [.fa 69 0 0 dD] z <| G z (r1 0 0 z ks z) <| A z <| d H fun f s H => bu z z z z z eN bp z u s fun s s s t => ?_
   obtain ⟨F, L, M, T, X, a1, a2, a3, rfl, a4, a5, a6, a7⟩ := aY s
   refine G z (cT (cs := [B f.B_, I J f.i_.t_, I J f.i_.u_, S F f.v_.length L, I J f.I_, S M f.k_.q_.length T, S X f.k_.l_.length a1, I J f.J_, S a2 f.d_.length a3, I J f.h_, I J f.A_, I J f.G_]) z z bp (bh bor t) z) <| bq H SF (fun _ f h a => wj h f (gx z z (g a4 h a) z (cu (g a5 h a) (g a6 h a)) z (g a7 h a) z z z)) z tt2 fun f H => A z <| P <| cI H z ?_ ?_ <;> intro H
   ·exact D <| eS (e := e8) z z z z cC ty5 (fun _ => kp) fun f => A z <| nT <| aS <| cR <| aS <| lU <| cR <| aS <| Z H ▸ xo z fun w' hw' => ⟨_, z, (U ⟨f, 0, N⟩), 0, 0, [f], z, hw'.sel [2] z z⟩
   ·refine ai <| R <| aH <| C [.p, .fa 69 0 0 dD] z <| G z (r1 0 0 z ks z) <| A z <| d H fun f s H => bu z z z z z eN bp z u s fun s s s t => ?_
    obtain ⟨u, F, L, M, T, X, a1, a2, rfl, a3, a4, a5, a6⟩ := aY s
    refine G z (cT (cs := [B f.B_, I J f.i_.t_, I J f.i_.u_, S u f.v_.length F, I J f.I_, S L f.k_.q_.length M, S T f.k_.l_.length X, I J f.J_, S a1 f.d_.length a2, I J f.h_, I J f.A_, I J f.G_]) z z bp (bh bor t) z) <| d H fun s f H => aq z SP z z z z (fun h a => wG h f (a.carve [] z z) (gx z z (g a3 h a) z (cu (g a4 h a) (g a5 h a)) z (g a6 h a) z z z)) fun f h w2 a h => ?_
    obtain ⟨f, f, f, f, rfl, f⟩ := h
    obtain rfl := aL (i := 0) f z
    refine ⟨Q w q [_, _, _], a.comp [] z z f, fun _ _ => Y, ?_⟩
    exact d H fun a f H => cq (r := 1) (ys := s) z z z z z z cC ty5 z z z (av (e := V e8 5) (r := 2) z) f (fun _ _ _ => kp) fun f h q => A z <| ay <| bR <| R <| aH <| C [.p, .p, .p] z <| ay <| bU (RW.at (x (a) (f) (h) (q) (J.wrap (m + 1)) (H)) (ss [0, 1] z z) (c z))
  ·exact aU <| aB <| aE <| aA <| R <| D <| oPP z <| nT <| Z H ▸ xo z fun w' hw' => ⟨_, z, k, j.length, l, o, z, hw'.sel [1] z z⟩
theorem sK (w) {j p0 a r} (H : jC p0 = U r) (HS : Q w j [] w) (m : (cd).rd w j p0 a) :
    Calls Tryz.prog 45 #[.agg a.toArray] w (fun en w' => ∃ v, en = .returned v ∧ ∃ a f c0 h, v = S a f c0 ∧ Q w j [W (V e8 5) h r [S a f c0]] w') := by
 obtain ⟨h, k, rfl, l⟩ := gb m
 unfold jC at H
 refine ar Tryz.func45 z Tryz.ntmps45 z (HS) <| D <| ob _ z fun f => A z <| P <| E <| D <| A z <| P <| an <| CW.at (dq (fun (a : Int) => Q w j [b f 71 [S h p0.p_.length k]]) (fun a => [(1, O (U ⟨f, 0, N⟩)), (3, I J a)]) (fun kk => fun a => kh p0 kk a = U r) nofun (fun f m a H => ?_) aI (0) (H)) (ss [0] z z) (c z)
 unfold kh at H
 refine E <| D <| C [.p, .fa 71 0 0 kF] z <| G z (r1 0 0 z fw z) <| C [.lenS 34 63 eg, .p] z <| P <| cI H z ?_ ?_ <;> intro H
 ·refine ai <| R <| E <| an <| D <| C [.fa 71 0 0 kF] z <| G z (r1 0 0 z fw z) <| A z <| d H fun f f H => bu z z z z z eg bP z l f fun f f k f => ?_
  obtain ⟨h, h, rfl⟩ := dz k
  refine G z (aT z z bP (bh bor f)) <| bq H Hl (fun _ o h f => gO h o (g k h f)) z tt2 fun k H => A z <| P <| cI H z ?_ ?_ <;> intro H
  ·exact D <| eS (e := e8) z z z z cC ty5 (fun _ => kp) fun k => A z <| nT <| cR <| aS <| lU <| cR <| aS <| Z H ▸ xo z fun w' hw' => ⟨_, z, (U ⟨k, 0, N⟩), 0, 0, [k], z, hw'.sel [1] z z⟩
  ·exact ai <| bR <| R <| aH <| C [.p, .p, .p] z <| ay <| bU (RW.at (m (J.wrap (a + 1)) (H)) (ss [0] z z) (c z))
 ·refine aU <| aB <| aE <| aA <| R <| D <| C [.fa 71 0 0 kF] z <| G z (r1 0 0 z fw z) <| d H fun k a H => aq z Ri z z z z (fun h f => qY h a (f.carve [] z z) (g l h f)) fun a h a f h => ?_
  obtain ⟨l, a, m, o, rfl, a⟩ := h
  obtain rfl := aL (i := 0) a z
  refine ⟨Q w j [_, _], f.comp [] z z a, fun _ _ => Y, ?_⟩
  exact A z <| nT <| Z H ▸ xo z fun w' hw' => ⟨_, z, l, k.length, m, o, z, hw'.sel [1] z z⟩
theorem xe (w) {l p0 a r} (H : eA p0 = U r) (HS : Q w l [] w) (o : (iv).rd w l p0 a) :
    Calls Tryz.prog 15 #[.agg a.toArray] w (fun en w' => ∃ v, en = .returned v ∧ ∃ a f c0 k, v = S a f c0 ∧ Q w l [W (V e8 5) k r [S a f c0]] w') := by
 obtain ⟨X, a1, a2, a3, a4, a5, a6, a7, a8, a9, rfl, k, m, b0, b7, T⟩ := iM o
 unfold eA at H
 refine ar Tryz.func15 z Tryz.ntmps15 z (HS) <| D <| ob _ z fun t => A z <| P <| E <| D <| G z (rx 0 0 _ z cA z) <| bq H Qz (fun _ o f a => uI f o (dt (bx (aw (g k f a) (g m f a)) z z z z z z) (ch (g b0 f a)) (ct (g b7 f a) (g T f a)))) z tt2 fun o H => A z <| P <| cI H z ?_ ?_ <;> intro H
 ·exact D <| eS (e := e8) z z z z cC ty5 (fun _ => kp) fun o => A z <| nT <| aS <| Z H ▸ xo z fun w' hw' => ⟨_, z, (U ⟨o, 0, N⟩), 0, 0, [o], z, hw'.sel [1] z z⟩
 ·refine ai <| R <| D <| cF (val := I K) (h1 := fun _ => z) [83, 80, 78, 1] [(0, [I K 83]), (1, [I K 80]), (2, [I K 78]), (3, [I K 1])] z z z z z cC ty5 z z z ⟨z, z, nl z, z, z, nl z, z, z, nl z, z, z, nl z, Y⟩ z z (fun _ => kp) fun o => A z <| nR <| C [.p, .fa 39 0 0 gW, .fa 30 0 0 mr] z <| G z (rx 0 0 _ z el z) <| bq H So (fun _ o f a => wL f o (aw (g k f a) (g m f a))) z tt2 fun k H => d H fun o k H => aq z Tq z z z z (fun f a => AA f k (a.carve [] z z)) fun k f u a m => ?_
  obtain ⟨k, k, k, k, rfl, k⟩ := m
  obtain rfl := aL (i := 0) k z
  refine ⟨Q w l [_, _, _], a.comp [] z z k, fun _ _ => Y, ?_⟩
  refine d H fun x k H => cq (r := 1) (ys := o) z z z z z z cC ty5 z z z (av (e := V e8 5) (r := 2) z) k (fun _ _ _ => kp) fun b1 b2 b3 => A z <| nR <| C [.fa 39 0 0 gW, .fa 30 1 2 rK] z <| G z (rx 2 0 _ z uX z) <| bn z z z z uX (fun _ => kp) fun k => sC 0 [I J p0.a_.b_.L_, I J p0.a_.b_.N_, I J p0.a_.b_.M_, I J p0.a_.b_.h_, I J p0.a_.b_.e_, I J p0.a_.b_.E_, B p0.a_.b_.Q_] [_, _, _, _, _, _, _] 3 z uX z <| P <| E <| OU 30 dC (by kernel_rfl) <| C [.fa 28 0 0 xi] z <| G z (r1 0 3 z ty3 z) <| C [.fa 28 1 1 wX] z <| G z (r1 1 3 z ty3 z) <| C [.fa 28 2 2 wC] z <| G z (r1 2 3 z ty3 z) <| C [.fa 28 3 3 un] z <| G z (r1 3 3 z ty3 z) <| C [.fa 28 4 4 ut] z <| G z (r1 4 3 z ty3 z) <| C [.fa 28 5 5 ul] z <| G z (r1 5 3 z ty3 z) <| C [.fa 28 6 6 CC] z <| G z (r1 6 3 z ty4 z) <| bq H OJ (fun _ k f a => tm f k) z tt2 fun m H => C [.fa 39 0 0 gW, .fa 30 2 9 rV] z <| G z (r1 9 0 z ty3 z) <| C [.fa 39 0 0 gW, .fa 30 3 10 wF] z <| G z (r1 10 0 z ty3 z) <| C [.fa 39 0 0 gW, .fa 30 4 11 xh] z <| G z (r1 11 0 z ty3 z) <| C [.fa 39 0 0 gW, .fa 30 5 12 ua] z <| G z (r1 12 0 z ty3 z) <| C [.fa 39 0 0 gW, .fa 30 6 13 us] z <| ?_
  refine G z (r1 13 0 z ty3 z) <| cQ <| cF (val := I J) (h1 := fun _ => z) [p0.a_.b_.L_, p0.a_.b_.N_, p0.a_.b_.M_, p0.a_.b_.h_, p0.a_.b_.e_, p0.a_.b_.E_, m, p0.a_.j_, p0.a_.O_, p0.a_.P_, p0.a_.r_, p0.a_.s_] [(0, [I J p0.a_.b_.L_]), (1, [I J p0.a_.b_.N_]), (2, [I J p0.a_.b_.M_]), (3, [I J p0.a_.b_.h_]), (4, [I J p0.a_.b_.e_]), (5, [I J p0.a_.b_.E_]), (6, [I J m]), (7, [I J p0.a_.j_]), (8, [I J p0.a_.O_]), (9, [I J p0.a_.P_]), (10, [I J p0.a_.r_]), (11, [I J p0.a_.s_])] z z z z z bB ty3 z z z ⟨z, z, nl z, z, z, nl z, z, z, nl z, z, z, nl z, z, z, nl z, z, z, nl z, z, z, nl z, z, z, nl z, z, z, nl z, z, z, nl z, z, z, nl z, z, z, nl z, Y⟩ (Lz z z) z (fun _ => kp) fun q => A z <| P <| E <| D <| A z <| P <| an <| CW.at (lq (fun (k : List Int) (F : Option Addr) (L : Nat) (M : List Nat) (o : Int) => Q w l [b t 39 [S X p0.a_.g_.d_.length a1, S a2 p0.a_.g_.f_.length a3, I J p0.a_.b_.L_, I J p0.a_.b_.N_, I J p0.a_.b_.M_, I J p0.a_.b_.h_, I J p0.a_.b_.e_, I J p0.a_.b_.E_, B p0.a_.b_.Q_, I J p0.a_.j_, I J p0.a_.O_, I J p0.a_.P_, I J p0.a_.r_, I J p0.a_.s_, S a4 p0.z_.j_.length a5, S a6 p0.m_.o_.length a7, S a8 p0.m_.n_.length a9], W (V e8 5) M k [S F k.length L], W (V eI 3) [q] ([p0.a_.b_.L_, p0.a_.b_.N_, p0.a_.b_.M_, p0.a_.b_.h_, p0.a_.b_.e_, p0.a_.b_.E_, m, p0.a_.j_, p0.a_.O_, p0.a_.P_, p0.a_.r_, p0.a_.s_] : List Int) [S (U ⟨q, 0, N⟩) (([p0.a_.b_.L_, p0.a_.b_.N_, p0.a_.b_.M_, p0.a_.b_.h_, p0.a_.b_.e_, p0.a_.b_.E_, m, p0.a_.j_, p0.a_.O_, p0.a_.P_, p0.a_.r_, p0.a_.s_] : List Int).length) 12]]) (fun k F L M o => [(1, O (U ⟨t, 0, N⟩)), (3, S F k.length L), (5, S (U ⟨q, 0, N⟩) (([p0.a_.b_.L_, p0.a_.b_.N_, p0.a_.b_.M_, p0.a_.b_.h_, p0.a_.b_.e_, p0.a_.b_.E_, m, p0.a_.j_, p0.a_.O_, p0.a_.P_, p0.a_.r_, p0.a_.s_] : List Int).length) 12), (6, I J o)]) (fun kk => fun k F L M o => jy p0 m kk k o = U r) nofun (fun m s k F L M o H => ?_) aI (x) (b1) (b2) (b3) (0) (H)) (ss [0, 1, 4] z z) (c z)
  unfold jy at H
  refine E <| D <| C [.p, .p, .lenS 63 3 bB, .p] z <| P <| cI H z ?_ ?_ <;> intro H
  ·refine ai <| R <| E <| an <| aH <| C [.p, .p, .p] z <| d H fun m m H => ix1 bB ty3 (av (e := V eI 3) (r := 2) z) m z z <| d H fun x m H => aq z uO z z z z (fun f a => cD f m (a.carve [] z z)) fun m f u a q => ?_
   obtain ⟨m, m, m, m, rfl, m⟩ := q
   obtain rfl := aL (i := 0) m z
   refine ⟨Q w l [_, _, _, _], a.comp [] z z m, fun _ _ => Y, ?_⟩
   exact d H fun m q H => cq (r := 1) (ys := x) z z z z z z cC ty5 z z z (av (e := V e8 5) (r := 3) z) q (fun _ _ _ => kp) fun q x b1 => A z <| ay <| bR <| R <| aH <| C [.p, .p, .p] z <| ay <| bU (RW.at (s (m) (q) (x) (b1) (J.wrap (o + 1)) (H)) (ss [0, 1, 2] z z) (c z))
  ·refine aU <| aB <| aE <| aA <| R <| E <| D <| A z <| P <| an <| CW.at (lq (fun (m : List Int) (o : Option Addr) (q : Nat) (x : List Nat) (s : Int) => Q w l [b t 39 [S X p0.a_.g_.d_.length a1, S a2 p0.a_.g_.f_.length a3, I J p0.a_.b_.L_, I J p0.a_.b_.N_, I J p0.a_.b_.M_, I J p0.a_.b_.h_, I J p0.a_.b_.e_, I J p0.a_.b_.E_, B p0.a_.b_.Q_, I J p0.a_.j_, I J p0.a_.O_, I J p0.a_.P_, I J p0.a_.r_, I J p0.a_.s_, S a4 p0.z_.j_.length a5, S a6 p0.m_.o_.length a7, S a8 p0.m_.n_.length a9], W (V e8 5) x m [S o m.length q]]) (fun m o q x s => [(1, O (U ⟨t, 0, N⟩)), (3, S o m.length q), (7, I J s)]) (fun kk => fun m o q x s => ff p0 kk m s = U r) nofun (fun k2 b8 m o q x s H => ?_) aI (k) (F) (L) (M) (0) (H)) (ss [0, 1] z z) (c z)
   unfold ff at H
   refine E <| D <| C [.p, .fa 39 1 14 qi, .fa 33 0 0 nK] z <| G z (r1 14 0 z wi z) <| C [.lenS 31 75 mU, .p] z <| P <| cI H z ?_ ?_ <;> intro H
   ·refine ai <| R <| E <| an <| D <| C [.fa 39 1 14 qi, .fa 33 0 0 nK] z <| G z (r1 14 0 z wi z) <| A z <| d H fun k F H => bu z z z z z mU fO z b0 F fun F F b5 b6 => ?_
    obtain ⟨F, L, M, b0, b1, b2, b3, b4, rfl, b9, c1, c2, c3⟩ := cg b5
    refine G z (cT (cs := [S F k.H_.e_.length L, I J k.H_.y_, B k.T_, S M k.w_.e_.length b0, I J k.w_.y_, S b1 k.K_.r_.p_.length b2, S b3 k.K_.s_.p_.length b4]) z z fO (bh bor b6) z) <| bn z z z z fO (fun _ => kp) fun b5 => sC 0 [S F k.H_.e_.length L, I J k.H_.y_, B k.T_, S M k.w_.e_.length b0, I J k.w_.y_, S b1 k.K_.r_.p_.length b2, S b3 k.K_.s_.p_.length b4] [_, _, _, _, _, _, _] 2 z fO z <| nR <| C [.p, .fa 75 0 0 tl] z <| G z (rx 0 2 _ z jb z) <| d H fun L k H => aq z RR z z z z (fun f a => uF f k (a.carve [] z z) (bg (g b9 f a) z)) fun k f u a F => ?_
    obtain ⟨k, k, k, k, rfl, k⟩ := F
    obtain rfl := aL (i := 0) k z
    refine ⟨Q w l [_, _, _, _], a.comp [] z z k, fun _ _ => Y, ?_⟩
    refine d H fun k k H => cq (r := 1) (ys := L) z z z z z z cC ty5 z z z (av (e := V e8 5) (r := 3) z) k (fun _ _ _ => kp) fun k k k => A z <| nR <| C [.p, .fa 75 1 2 uc] z <| G z (r1 2 2 z ty4 z) <| bq H OJ (fun _ k f a => tm f k) z tt2 fun k H => d H fun L k H => aq z uO z z z z (fun f a => cD f k (a.carve [] z z)) fun k f u a F => ?_
    obtain ⟨k, k, k, k, rfl, k⟩ := F
    obtain rfl := aL (i := 0) k z
    refine ⟨Q w l [_, _, _, _, _], a.comp [] z z k, fun _ _ => Y, ?_⟩
    refine d H fun k k H => cq (r := 1) (ys := L) z z z z z z cC ty5 z z z (av (e := V e8 5) (r := 4) z) k (fun _ _ _ => kp) fun k k k => A z <| nR <| C [.p, .fa 75 2 3 pG] z <| G z (rx 3 2 _ z jb z) <| d H fun L k H => aq z RR z z z z (fun f a => uF f k (a.carve [] z z) (bg (g c1 f a) z)) fun k f u a F => ?_
    obtain ⟨k, k, k, k, rfl, k⟩ := F
    obtain rfl := aL (i := 0) k z
    refine ⟨Q w l [_, _, _, _, _, _], a.comp [] z z k, fun _ _ => Y, ?_⟩
    refine d H fun k k H => cq (r := 1) (ys := L) z z z z z z cC ty5 z z z (av (e := V e8 5) (r := 5) z) k (fun _ _ _ => kp) fun k k k => A z <| nR <| C [.p, .fa 75 3 5 pA, .fa 73 0 0 uj] z <| G z (rx 5 2 _ z nz z) <| d H fun L k H => aq z RT z z z z (fun f a => sK f k (a.carve [] z z) (bf (g c2 f a))) fun k f u a F => ?_
    obtain ⟨k, k, k, k, rfl, k⟩ := F
    obtain rfl := aL (i := 0) k z
    refine ⟨Q w l [_, _, _, _, _, _, _], a.comp [] z z k, fun _ _ => Y, ?_⟩
    refine d H fun k k H => cq (r := 1) (ys := L) z z z z z z cC ty5 z z z (av (e := V e8 5) (r := 6) z) k (fun _ _ _ => kp) fun k k k => A z <| P <| aH <| C [.p, .fa 75 3 5 pA, .fa 73 1 1 uk] z <| G z (rx 6 2 _ z nz z) <| d H fun L k H => aq z RT z z z z (fun f a => sK f k (a.carve [] z z) (bf (g c3 f a))) fun k f u a F => ?_
    obtain ⟨k, k, k, k, rfl, k⟩ := F
    obtain rfl := aL (i := 0) k z
    refine ⟨Q w l [_, _, _, _, _, _, _, _], a.comp [] z z k, fun _ _ => Y, ?_⟩
    exact d H fun k F H => cq (r := 1) (ys := L) z z z z z z cC ty5 z z z (av (e := V e8 5) (r := 7) z) F (fun _ _ _ => kp) fun F L M => A z <| ay <| bR <| R <| aH <| C [.p, .p, .p] z <| ay <| bU (RW.at (b8 (k) (F) (L) (M) (J.wrap (s + 1)) (H)) (ss [0, 1] z z) (c z))
   ·refine aU <| aB <| aE <| aA <| R <| E <| D <| A z <| P <| an <| CW.at (lq (fun (k : List Int) (F : Option Addr) (L : Nat) (M : List Nat) (s : Int) => Q w l [b t 39 [S X p0.a_.g_.d_.length a1, S a2 p0.a_.g_.f_.length a3, I J p0.a_.b_.L_, I J p0.a_.b_.N_, I J p0.a_.b_.M_, I J p0.a_.b_.h_, I J p0.a_.b_.e_, I J p0.a_.b_.E_, B p0.a_.b_.Q_, I J p0.a_.j_, I J p0.a_.O_, I J p0.a_.P_, I J p0.a_.r_, I J p0.a_.s_, S a4 p0.z_.j_.length a5, S a6 p0.m_.o_.length a7, S a8 p0.m_.n_.length a9], W (V e8 5) M k [S F k.length L]]) (fun k F L M s => [(1, O (U ⟨t, 0, N⟩)), (3, S F k.length L), (9, I J s)]) (fun kk => fun k F L M s => eX p0 kk k s = U r) nofun (fun k3 b0 k F L M s H => ?_) aI (m) (o) (q) (x) (0) (H)) (ss [0, 1] z z) (c z)
    unfold eX at H
    refine E <| D <| C [.p, .fa 39 2 15 jD, .fa 37 0 0 kQ] z <| G z (r1 15 0 z fw z) <| C [.lenS 34 63 eg, .p] z <| P <| cI H z ?_ ?_ <;> intro H
    ·refine ai <| R <| E <| an <| aH <| C [.p, .fa 39 2 15 jD, .fa 37 0 0 kQ] z <| G z (r1 15 0 z fw z) <| A z <| d H fun k k H => bu z z z z z eg bP z b7 k fun k k k m => ?_
     obtain ⟨o, o, rfl⟩ := dz k
     refine G z (aT z z bP (bh bor m)) <| d H fun o m H => aq z Le z z z z (fun f a => mh f m (a.carve [] z z) (g k f a)) fun k f u a m => ?_
     obtain ⟨k, k, k, k, rfl, k⟩ := m
     obtain rfl := aL (i := 0) k z
     refine ⟨Q w l [_, _, _], a.comp [] z z k, fun _ _ => Y, ?_⟩
     exact d H fun k m H => cq (r := 1) (ys := o) z z z z z z cC ty5 z z z (av (e := V e8 5) (r := 2) z) m (fun _ _ _ => kp) fun m o q => A z <| ay <| bR <| R <| aH <| C [.p, .p, .p] z <| ay <| bU (RW.at (b0 (k) (m) (o) (q) (J.wrap (s + 1)) (H)) (ss [0, 1] z z) (c z))
    ·refine aU <| aB <| aE <| aA <| R <| D <| C [.p, .fa 39 2 15 jD, .fa 37 1 1 kq] z <| G z (r1 16 0 z tt z) <| C [.lenS 35 83 nO] z <| d H fun o k H => aq z uO z z z z (fun f a => cD f k (a.carve [] z z)) fun k f u a m => ?_
     obtain ⟨k, k, k, k, rfl, k⟩ := m
     obtain rfl := aL (i := 0) k z
     refine ⟨Q w l [_, _, _], a.comp [] z z k, fun _ _ => Y, ?_⟩
     refine d H fun x k H => cq (r := 1) (ys := o) z z z z z z cC ty5 z z z (av (e := V e8 5) (r := 2) z) k (fun _ _ _ => kp) fun F L M => A z <| P <| E <| D <| A z <| P <| an <| CW.at (lq (fun (k : Int) (m : List Int) (o : Option Addr) (q : Nat) (s : List Nat) => Q w l [b t 39 [S X p0.a_.g_.d_.length a1, S a2 p0.a_.g_.f_.length a3, I J p0.a_.b_.L_, I J p0.a_.b_.N_, I J p0.a_.b_.M_, I J p0.a_.b_.h_, I J p0.a_.b_.e_, I J p0.a_.b_.E_, B p0.a_.b_.Q_, I J p0.a_.j_, I J p0.a_.O_, I J p0.a_.P_, I J p0.a_.r_, I J p0.a_.s_, S a4 p0.z_.j_.length a5, S a6 p0.m_.o_.length a7, S a8 p0.m_.n_.length a9], W (V e8 5) s m [S o m.length q]]) (fun k m o q s => [(1, O (U ⟨t, 0, N⟩)), (3, S o m.length q), (10, I J k)]) (fun kk => fun k m o q s => fX p0 kk k m = U r) nofun (fun t t k m o q s H => ?_) aI (0) (x) (F) (L) (M) (H)) (ss [0, 1] z z) (c z)
     unfold fX at H
     refine E <| D <| C [.p, .fa 39 2 15 jD, .fa 37 1 1 kq] z <| G z (r1 16 0 z tt z) <| C [.lenS 35 83 nO, .p] z <| P <| cI H z ?_ ?_ <;> intro H
     ·refine ai <| R <| E <| an <| D <| C [.p, .fa 39 2 15 jD, .fa 37 1 1 kq] z <| G z (r1 16 0 z tt z) <| A z <| d H fun m m H => fb (e := aK) (xs := p0.m_.n_) (j := k) z z z z z nO nG z (g T) m z <| C [.fa 83 0 0 tf] z <| G z (aT z z ty3 (Ai (lJ (nk (g T) m (fun _ _ h => h)) z) 0 1)) <| d H fun q m H => aq z uO z z z z (fun f a => cD f m (a.carve [] z z)) fun m f u a o => ?_
      obtain ⟨m, m, m, m, rfl, m⟩ := o
      obtain rfl := aL (i := 0) m z
      refine ⟨Q w l [_, _, _], a.comp [] z z m, fun _ _ => Y, ?_⟩
      refine d H fun m m H => cq (r := 1) (ys := q) z z z z z z cC ty5 z z z (av (e := V e8 5) (r := 2) z) m (fun _ _ _ => kp) fun m m m => A z <| P <| aH <| C [.p, .fa 39 2 15 jD, .fa 37 1 1 kq] z <| G z (r1 16 0 z tt z) <| A z <| d H fun m m H => fb (e := aK) (xs := p0.m_.n_) (j := k) z z z z z nO nG z (g T) m z <| C [.fa 83 1 1 rN] z <| G z (aT z z ty3 (Ai (lJ (nk (g T) m (fun _ _ h => h)) z) 1 1)) <| d H fun q m H => aq z uO z z z z (fun f a => cD f m (a.carve [] z z)) fun m f u a o => ?_
      obtain ⟨m, m, m, m, rfl, m⟩ := o
      obtain rfl := aL (i := 0) m z
      refine ⟨Q w l [_, _, _, _], a.comp [] z z m, fun _ _ => Y, ?_⟩
      exact d H fun m o H => cq (r := 1) (ys := q) z z z z z z cC ty5 z z z (av (e := V e8 5) (r := 3) z) o (fun _ _ _ => kp) fun o q s => A z <| ay <| bR <| R <| aH <| C [.p, .p, .p] z <| ay <| bU (RW.at (t (J.wrap (k + 1)) (m) (o) (q) (s) (H)) (ss [0, 1] z z) (c z))
     ·refine aU <| aB <| aE <| aA <| R <| D <| oPP z <| d H fun m k H => aq z Rw z z z z (fun f a => uY f k (a.carve [] z z) (av (e := V e8 5) (r := 1) z f a)) fun k f u a k => ?_
      obtain ⟨f, f, f, f, rfl, f⟩ := k
      obtain rfl := aL (i := 0) f z
      refine ⟨Q w l [_, _, _], a.comp [] z z f, fun _ _ => Y, ?_⟩
      exact d H fun a f H => cq (r := 1) (ys := m) z z z z z z cC ty5 z z z (av (e := V e8 5) (r := 2) z) f (fun _ _ _ => kp) fun f k l => A z <| nT <| Z H ▸ xo z fun w' hw' => ⟨_, z, f, a.length, k, l, z, hw'.sel [1] z z⟩
theorem AF (w) {X p0 a6 a a7 r} (H : ly p0 = U r) (HS : Q w X [] w) (g0 : (V e8 5).rd w X p0 [S a6 a a7]) :
    Calls Tryz.prog 4 #[S a6 a a7] w (fun en w' => ∃ v, en = .returned v ∧ ∃ a f c0 u j k c1 F l m c2 L o q c3 M s t c4 F4, v = .tuple #[.agg #[S a f c0, S j k c1, I J r.1.a_.b_.L_, I J r.1.a_.b_.N_, I J r.1.a_.b_.M_, I J r.1.a_.b_.h_, I J r.1.a_.b_.e_, I J r.1.a_.b_.E_, B r.1.a_.b_.Q_, I J r.1.a_.j_, I J r.1.a_.O_, I J r.1.a_.P_, I J r.1.a_.r_, I J r.1.a_.s_, S l m c2, S o q c3, S s t c4], I J r.2] ∧ Q w X [W (V (aD) 123) u r.1.a_.g_.d_ [S a f c0], W (V (bC) 9) F r.1.a_.g_.f_ [S j k c1], W (V (aF) 75) L r.1.z_.j_ [S l m c2], W (V (V eI 3) 63) M r.1.m_.o_ [S o q c3], W (V (aK) 83) F4 r.1.m_.n_ [S s t c4]] w') := by
 obtain rfl := dc g0
 unfold ly at H
 refine ar Tryz.func4 z Tryz.ntmps4 z (HS) <| D <| bn z z z z cA (fun _ => kp) fun a8 => A z <| nR <| G z (bv [] [S N 0 0, S N 0 0, I J 0, I J 0, I J 0, I J 0, I J 0, I J 0, B n, I J 0, I J 0, I J 0, I J 0, I J 0, S N 0 0, S N 0 0, S N 0 0] z z cA Ap z Y z) <| bn z z z z cA (fun _ => kp) fun a9 => sC 0 [S N 0 0, S N 0 0, I J 0, I J 0, I J 0, I J 0, I J 0, I J 0, B n, I J 0, I J 0, I J 0, I J 0, I J 0, S N 0 0, S N 0 0, S N 0 0] [_, _, _, _, _, _, _, _, _, _, _, _, _, _, _, _, _] 1 z cA z <| P <| E <| D <| C [.p, .lenS 22 5 cC, .p] z <| P <| cI H z ?_ ?_ <;> intro H
 ·exact D <| G z (rx 0 1 _ z cA z) <| sC 0 [S N 0 0, S N 0 0, I J 0, I J 0, I J 0, I J 0, I J 0, I J 0, B n, I J 0, I J 0, I J 0, I J 0, I J 0, S N 0 0, S N 0 0, S N 0 0] [_, _, _, _, _, _, _, _, _, _, _, _, _, _, _, _, _] 0 z cA z <| A z <| nT <| aS <| aP (fun _ h => St.pushNil (e := aD) (T := 123) h) <| aP (fun _ h => St.pushNil (e := bC) (T := 9) h) <| aP (fun _ h => St.pushNil (e := aF) (T := 75) h) <| aP (fun _ h => St.pushNil (e := V eI 3) (T := 63) h) <| aP (fun _ h => St.pushNil (e := aK) (T := 83) h) <| Z H ▸ xc 0 cA z fun w' hw' => ⟨_, z, N, 0, 0, [], N, 0, 0, [], N, 0, 0, [], N, 0, 0, [], N, 0, 0, [], z, hw'.sel [2, 3, 4, 5, 6] z z⟩
 ·refine ai <| R <| E <| D <| A z <| d H fun b2 a H => ix1 cC ty5 (g g0) a z z <| oPP z <| d H fun b0 b9 H => cu2 [(0, S a6 p0.length a7), (2, O (U ⟨a8, 0, N⟩)), (4, O (U ⟨a9, 0, N⟩))] [(17, B (b2 != 83))] 5 (22, B b0) z ?_ fun key => ?_
  ·refine A z <| d H fun a c7 H => cu2 [(0, S a6 p0.length a7), (2, O (U ⟨a8, 0, N⟩)), (4, O (U ⟨a9, 0, N⟩))] [(23, B b0)] 5 (28, B a) z ?_ fun key => ?_
   ·refine P <| cI H z ?_ ?_ <;> intro H
    ·exact D <| G z (rx 0 1 _ z cA z) <| sC 0 [S N 0 0, S N 0 0, I J 0, I J 0, I J 0, I J 0, I J 0, I J 0, B n, I J 0, I J 0, I J 0, I J 0, I J 0, S N 0 0, S N 0 0, S N 0 0] [_, _, _, _, _, _, _, _, _, _, _, _, _, _, _, _, _] 0 z cA z <| A z <| nT <| aS <| aP (fun _ h => St.pushNil (e := aD) (T := 123) h) <| aP (fun _ h => St.pushNil (e := bC) (T := 9) h) <| aP (fun _ h => St.pushNil (e := aF) (T := 75) h) <| aP (fun _ h => St.pushNil (e := V eI 3) (T := 63) h) <| aP (fun _ h => St.pushNil (e := aK) (T := 83) h) <| Z H ▸ xc 0 cA z fun w' hw' => ⟨_, z, N, 0, 0, [], N, 0, 0, [], N, 0, 0, [], N, 0, 0, [], N, 0, 0, [], z, hw'.sel [2, 3, 4, 5, 6] z z⟩
    ·refine ai <| R <| E <| D <| A z <| d H fun a a H => ix1 cC ty5 (g g0) a z z <| A z <| P <| cI H z ?_ ?_ <;> intro H
     ·exact D <| G z (rx 0 1 _ z cA z) <| sC 0 [S N 0 0, S N 0 0, I J 0, I J 0, I J 0, I J 0, I J 0, I J 0, B n, I J 0, I J 0, I J 0, I J 0, I J 0, S N 0 0, S N 0 0, S N 0 0] [_, _, _, _, _, _, _, _, _, _, _, _, _, _, _, _, _] 0 z cA z <| A z <| nT <| aS <| aP (fun _ h => St.pushNil (e := aD) (T := 123) h) <| aP (fun _ h => St.pushNil (e := bC) (T := 9) h) <| aP (fun _ h => St.pushNil (e := aF) (T := 75) h) <| aP (fun _ h => St.pushNil (e := V eI 3) (T := 63) h) <| aP (fun _ h => St.pushNil (e := aK) (T := 83) h) <| Z H ▸ xc 0 cA z fun w' hw' => ⟨_, z, N, 0, 0, [], N, 0, 0, [], N, 0, 0, [], N, 0, 0, [], N, 0, 0, [], z, hw'.sel [2, 3, 4, 5, 6] z z⟩
     ·refine ai <| R <| D <| C [.p, .lenS 22 5 cC, .p, .p] z <| P <| E <| E <| d H fun f a H => d H fun j k H => d H fun b1 l H => Pe 9 [(0, y), (1, y), (2, y), (5, y), (6, y), (7, y), (8, y), (3, n), (4, n)] Br.done (Q w X [b a8 39 [S N 0 0, S N 0 0, I J 0, I J 0, I J 0, I J 0, I J 0, I J 0, B n, I J 0, I J 0, I J 0, I J 0, I J 0, S N 0 0, S N 0 0, S N 0 0], b a9 39 [S N 0 0, S N 0 0, I J 0, I J 0, I J 0, I J 0, I J 0, I J 0, B n, I J 0, I J 0, I J 0, I J 0, I J 0, S N 0 0, S N 0 0, S N 0 0]]) dC (by kernel_rfl) (cr (cr dx)) (tk 2 z) <| oPP z <| qq z z z z cC ty5 z z z a g0 fun a a => ?_
      obtain ⟨m, o, rfl⟩ := wy a
      have a : (V e8 5).rd w X f [S m f.length o] := a
      refine oPP z <| qq z z z z cC ty5 z z z k g0 fun f f => ?_
      obtain ⟨k, m, rfl⟩ := wy f
      have f : (V e8 5).rd w X j [S k j.length m] := f
      refine ek z (aV z) (rI (xs := j) z z cC in5 st9 (g f)) <| aq z Rw z z z z (fun j f => uY j l (f.carve [] z z) (g a j f)) fun a j w2 f k => ?_
      obtain ⟨c9, a, d0, d1, rfl, a⟩ := k
      obtain rfl := aL (i := 0) a z
      refine ⟨Q w X [_, _, _], f.comp [] z z a, (tk 2 z), ?_⟩
      refine Ov z z (aV z) (rI (xs := b1) z z cC in5 st9 (av (e := V e8 5) (r := 2) z)) <| jI <| OT <| A z <| P <| cI H z ?_ ?_ <;> intro H
      ·exact D <| G z (rx 0 1 _ z cA z) <| sC 0 [S N 0 0, S N 0 0, I J 0, I J 0, I J 0, I J 0, I J 0, I J 0, B n, I J 0, I J 0, I J 0, I J 0, I J 0, S N 0 0, S N 0 0, S N 0 0] [_, _, _, _, _, _, _, _, _, _, _, _, _, _, _, _, _] 0 z cA z <| A z <| nT <| aS <| aP (fun _ h => St.pushNil (e := aD) (T := 123) h) <| aP (fun _ h => St.pushNil (e := bC) (T := 9) h) <| aP (fun _ h => St.pushNil (e := aF) (T := 75) h) <| aP (fun _ h => St.pushNil (e := V eI 3) (T := 63) h) <| aP (fun _ h => St.pushNil (e := aK) (T := 83) h) <| Z H ▸ xc 0 cA z fun w' hw' => ⟨_, z, N, 0, 0, [], N, 0, 0, [], N, 0, 0, [], N, 0, 0, [], N, 0, 0, [], z, hw'.sel [3, 4, 5, 6, 7] z z⟩
      ·refine ai <| R <| D <| oPP z <| d H fun a k H => qq z z z z cC ty5 z z z k g0 fun k k => ?_
       obtain ⟨l, m, rfl⟩ := wy k
       have k : (V e8 5).rd w X a [S l a.length m] := k
       refine d H fun a l H => aq z Tg z z z z (fun j f => An j l (f.carve [] z z) (g k j f)) fun k j w2 f b8 => ?_
       obtain ⟨k, l, l, b3, m, o, o, b4, q, s, s, b5, t, u, u, b6, F, L, L, b7, rfl, M⟩ := b8
       obtain rfl := aL (i := 0) M z
       obtain rfl := aL (i := 1) M z
       obtain rfl := aL (i := 2) M z
       obtain rfl := aL (i := 3) M z
       obtain rfl := aL (i := 4) M z
       refine ⟨Q w X [_, _, _, _, _, _, _, _], f.comp [] z z M, fun _ _ => Y, ?_⟩
       refine C [.p, .p, .p] z <| bn z z z z cA (fun _ => kp) fun b8 => sC 0 [S k a.1.a_.g_.d_.length l, S m a.1.a_.g_.f_.length o, I J a.1.a_.b_.L_, I J a.1.a_.b_.N_, I J a.1.a_.b_.M_, I J a.1.a_.b_.h_, I J a.1.a_.b_.e_, I J a.1.a_.b_.E_, B a.1.a_.b_.Q_, I J a.1.a_.j_, I J a.1.a_.O_, I J a.1.a_.P_, I J a.1.a_.r_, I J a.1.a_.s_, S q a.1.z_.j_.length s, S t a.1.m_.o_.length u, S F a.1.m_.n_.length L] [_, _, _, _, _, _, _, _, _, _, _, _, _, _, _, _, _] 8 z cA z <| A z <| P <| E <| E <| lu 13 [(0, y), (1, y), (2, y), (3, y), (4, n), (5, y), (6, y), (7, y), (8, y), (11, y), (12, y), (9, n), (10, n)] (Q w X [b a8 39 [S N 0 0, S N 0 0, I J 0, I J 0, I J 0, I J 0, I J 0, I J 0, B n, I J 0, I J 0, I J 0, I J 0, I J 0, S N 0 0, S N 0 0, S N 0 0], b a9 39 [S N 0 0, S N 0 0, I J 0, I J 0, I J 0, I J 0, I J 0, I J 0, B n, I J 0, I J 0, I J 0, I J 0, I J 0, S N 0 0, S N 0 0, S N 0 0], W (V e8 5) d1 b1 [S c9 b1.length d0], W (V (aD) 123) b3 a.1.a_.g_.d_ [S k a.1.a_.g_.d_.length l], W (V (bC) 9) b4 a.1.a_.g_.f_ [S m a.1.a_.g_.f_.length o], W (V (aF) 75) b5 a.1.z_.j_ [S q a.1.z_.j_.length s], W (V (V eI 3) 63) b6 a.1.m_.o_ [S t a.1.m_.o_.length u], W (V (aK) 83) b7 a.1.m_.n_ [S F a.1.m_.n_.length L], b b8 39 [S k a.1.a_.g_.d_.length l, S m a.1.a_.g_.f_.length o, I J a.1.a_.b_.L_, I J a.1.a_.b_.N_, I J a.1.a_.b_.M_, I J a.1.a_.b_.h_, I J a.1.a_.b_.e_, I J a.1.a_.b_.E_, B a.1.a_.b_.Q_, I J a.1.a_.j_, I J a.1.a_.O_, I J a.1.a_.P_, I J a.1.a_.r_, I J a.1.a_.s_, S q a.1.z_.j_.length s, S t a.1.m_.o_.length u, S F a.1.m_.n_.length L]]) dC (by kernel_rfl) (cr (cr dx)) (tk 9 z) <| C [.p, .p, .p] z <| d H fun M b1 H => cu2 [(0, S a6 p0.length a7), (2, O (U ⟨a8, 0, N⟩)), (4, O (U ⟨a9, 0, N⟩)), (6, O (U ⟨b8, 0, N⟩))] [(58, B (!a.2))] 4 (62, B M) z ?_ fun key => ?_
       ·refine C [.p] z ?_
        generalize M = M at H ⊢
        cases M
        ·have H := aN z H
         refine ek z (aV z) (rx 0 8 _ z cA z) <| A z <| ek z (aV z) (rI (xs := p0) z z cC in5 st9 (g g0)) <| d H fun a7 M H => aq z SM z z z z (fun j f => xe j M (f.carve [] z z) (dt (x := a.1) (c0 := [S k a.1.a_.g_.d_.length l, S m a.1.a_.g_.f_.length o, I J a.1.a_.b_.L_, I J a.1.a_.b_.N_, I J a.1.a_.b_.M_, I J a.1.a_.b_.h_, I J a.1.a_.b_.e_, I J a.1.a_.b_.E_, B a.1.a_.b_.Q_, I J a.1.a_.j_, I J a.1.a_.O_, I J a.1.a_.P_, I J a.1.a_.r_, I J a.1.a_.s_]) (c1 := [S q a.1.z_.j_.length s]) (c2 := [S t a.1.m_.o_.length u, S F a.1.m_.n_.length L]) (bx (x := a.1.a_) (c0 := [S k a.1.a_.g_.d_.length l, S m a.1.a_.g_.f_.length o]) (c1 := [I J a.1.a_.b_.L_, I J a.1.a_.b_.N_, I J a.1.a_.b_.M_, I J a.1.a_.b_.h_, I J a.1.a_.b_.e_, I J a.1.a_.b_.E_, B a.1.a_.b_.Q_]) (c2 := [I J a.1.a_.j_]) (c3 := [I J a.1.a_.O_]) (c4 := [I J a.1.a_.P_]) (c5 := [I J a.1.a_.r_]) (c6 := [I J a.1.a_.s_]) (aw (x := a.1.a_.g_) (c0 := [S k a.1.a_.g_.d_.length l]) (c1 := [S m a.1.a_.g_.f_.length o]) (av (e := V (aD) 123) (r := 3) z j f) (av (e := V (bC) 9) (r := 4) z j f)) z z z z z z) (ch (x := a.1.z_) (c0 := [S q a.1.z_.j_.length s]) (av (e := V (aF) 75) (r := 5) z j f)) (ct (x := a.1.m_) (c0 := [S t a.1.m_.o_.length u]) (c1 := [S F a.1.m_.n_.length L]) (av (e := V (V eI 3) 63) (r := 6) z j f) (av (e := V (aK) 83) (r := 7) z j f)))) fun M j w2 f a6 => ?_
         obtain ⟨M, M, M, M, rfl, M⟩ := a6
         obtain rfl := aL (i := 0) M z
         refine ⟨Q w X [_, _, _, _, _, _, _, _, _, _], f.comp [] z z M, (tk 9 z), ?_⟩
         refine Ov z z (aV z) (rI (xs := a7) z z cC in5 st9 (av (e := V e8 5) (r := 9) z)) <| jI <| we <| oPP z <| P <| cI H z ?_ ?_ <;> intro H
         ·exact D <| G z (rx 0 1 _ z cA z) <| sC 0 [S N 0 0, S N 0 0, I J 0, I J 0, I J 0, I J 0, I J 0, I J 0, B n, I J 0, I J 0, I J 0, I J 0, I J 0, S N 0 0, S N 0 0, S N 0 0] [_, _, _, _, _, _, _, _, _, _, _, _, _, _, _, _, _] 0 z cA z <| A z <| nT <| aS <| aP (fun _ h => St.pushNil (e := aD) (T := 123) h) <| aP (fun _ h => St.pushNil (e := bC) (T := 9) h) <| aP (fun _ h => St.pushNil (e := aF) (T := 75) h) <| aP (fun _ h => St.pushNil (e := V eI 3) (T := 63) h) <| aP (fun _ h => St.pushNil (e := aK) (T := 83) h) <| Z H ▸ xc 0 cA z fun w' hw' => ⟨_, z, N, 0, 0, [], N, 0, 0, [], N, 0, 0, [], N, 0, 0, [], N, 0, 0, [], z, hw'.sel [10, 11, 12, 13, 14] z z⟩
         ·exact ai <| R <| D <| G z (rx 0 8 _ z cA z) <| sC 0 [S k a.1.a_.g_.d_.length l, S m a.1.a_.g_.f_.length o, I J a.1.a_.b_.L_, I J a.1.a_.b_.N_, I J a.1.a_.b_.M_, I J a.1.a_.b_.h_, I J a.1.a_.b_.e_, I J a.1.a_.b_.E_, B a.1.a_.b_.Q_, I J a.1.a_.j_, I J a.1.a_.O_, I J a.1.a_.P_, I J a.1.a_.r_, I J a.1.a_.s_, S q a.1.z_.j_.length s, S t a.1.m_.o_.length u, S F a.1.m_.n_.length L] [_, _, _, _, _, _, _, _, _, _, _, _, _, _, _, _, _] 0 z cA z <| A z <| nT <| Z H ▸ xc 0 cA z fun w' hw' => ⟨_, z, k, a.1.a_.g_.d_.length, l, b3, m, a.1.a_.g_.f_.length, o, b4, q, a.1.z_.j_.length, s, b5, t, a.1.m_.o_.length, u, b6, F, a.1.m_.n_.length, L, b7, z, hw'.sel [3, 4, 5, 6, 7] z z⟩
        ·have H := aO z H
         refine C [.p, .p, .p, .p, .p] z <| jI <| we <| oPP z <| P <| xr z (fun M => ?_) (fun M => ?_)
         ·exact D <| G z (rx 0 1 _ z cA z) <| sC 0 [S N 0 0, S N 0 0, I J 0, I J 0, I J 0, I J 0, I J 0, I J 0, B n, I J 0, I J 0, I J 0, I J 0, I J 0, S N 0 0, S N 0 0, S N 0 0] [_, _, _, _, _, _, _, _, _, _, _, _, _, _, _, _, _] 0 z cA z <| A z <| nT <| aS <| aP (fun _ h => St.pushNil (e := aD) (T := 123) h) <| aP (fun _ h => St.pushNil (e := bC) (T := 9) h) <| aP (fun _ h => St.pushNil (e := aF) (T := 75) h) <| aP (fun _ h => St.pushNil (e := V eI 3) (T := 63) h) <| aP (fun _ h => St.pushNil (e := aK) (T := 83) h) <| Z H ▸ xc 0 cA z fun w' hw' => ⟨_, z, N, 0, 0, [], N, 0, 0, [], N, 0, 0, [], N, 0, 0, [], N, 0, 0, [], z, hw'.sel [9, 10, 11, 12, 13] z z⟩
         ·exact absurd M (by decide)
       ·have H := b1
        generalize (!a.2) = M at H key ⊢
        cases M
        ·have H := aN z H
         refine ek z (aV z) (rx 0 8 _ z cA z) <| d H fun M M H => oq z (qc z Qz (fun j f => uI j M (dt (x := a.1) (c0 := [S k a.1.a_.g_.d_.length l, S m a.1.a_.g_.f_.length o, I J a.1.a_.b_.L_, I J a.1.a_.b_.N_, I J a.1.a_.b_.M_, I J a.1.a_.b_.h_, I J a.1.a_.b_.e_, I J a.1.a_.b_.E_, B a.1.a_.b_.Q_, I J a.1.a_.j_, I J a.1.a_.O_, I J a.1.a_.P_, I J a.1.a_.r_, I J a.1.a_.s_]) (c1 := [S q a.1.z_.j_.length s]) (c2 := [S t a.1.m_.o_.length u, S F a.1.m_.n_.length L]) (bx (x := a.1.a_) (c0 := [S k a.1.a_.g_.d_.length l, S m a.1.a_.g_.f_.length o]) (c1 := [I J a.1.a_.b_.L_, I J a.1.a_.b_.N_, I J a.1.a_.b_.M_, I J a.1.a_.b_.h_, I J a.1.a_.b_.e_, I J a.1.a_.b_.E_, B a.1.a_.b_.Q_]) (c2 := [I J a.1.a_.j_]) (c3 := [I J a.1.a_.O_]) (c4 := [I J a.1.a_.P_]) (c5 := [I J a.1.a_.r_]) (c6 := [I J a.1.a_.s_]) (aw (x := a.1.a_.g_) (c0 := [S k a.1.a_.g_.d_.length l]) (c1 := [S m a.1.a_.g_.f_.length o]) (av (e := V (aD) 123) (r := 3) z j f) (av (e := V (bC) 9) (r := 4) z j f)) z z z z z z) (ch (x := a.1.z_) (c0 := [S q a.1.z_.j_.length s]) (av (e := V (aF) 75) (r := 5) z j f)) (ct (x := a.1.m_) (c0 := [S t a.1.m_.o_.length u]) (c1 := [S F a.1.m_.n_.length L]) (av (e := V (V eI 3) 63) (r := 6) z j f) (av (e := V (aK) 83) (r := 7) z j f))))) (tk 9 z) <| A z <| A z <| ?_
         obtain rfl := Z H
         exact OW.sub key (c z)
        ·have H := aO z H
         refine C [.p, .p, .p, .p] z ?_
         obtain rfl := Z H
         exact OW.sub key (c z)
   ·have H := c7
    generalize b0 = a at H key ⊢
    cases a
    ·have H := aN z H
     refine A z <| d H fun a a H => ix1 cC ty5 (g g0) a z z <| A z <| A z <| ?_
     obtain rfl := Z H
     exact OW.sub key (c z)
    ·have H := aO z H
     refine C [.p, .p, .p, .p, .p] z ?_
     obtain rfl := Z H
     exact OW.sub key (c z)
  ·have H := b9
   generalize (b2 != 83) = a at H key ⊢
   cases a
   ·have H := aN z H
    refine A z <| d H fun a a H => ix1 cC ty5 (g g0) a z z <| A z <| A z <| ?_
    obtain rfl := Z H
    exact OW.sub key (c z)
   ·have H := aO z H
    refine C [.p, .p, .p, .p, .p] z ?_
    obtain rfl := Z H
    exact OW.sub key (c z)
theorem Gu (w) {p0 i a j r} (H : yG p0 = U r) (e : (V e8 5).rd w [] p0 [S i a j]) :
    Calls Tryz.prog 47 #[S i a j] w (fun en w' => en = .returned (I J r) ∧ Ext [] w w') := by
 obtain rfl := dc e
 unfold yG at H
 refine ar Tryz.func47 z Tryz.ntmps47 z (St.init w []) <| D <| A z <| nR <| A z <| P <| E <| D <| C [.p, .lenS 22 5 cC, .p] z <| P <| an <| CW.at (fc (fun (h : Int) (a : Int) => Q w [] []) (fun h a => [(3, I J h), (7, S i p0.length j), (8, I J (p0.length : Int)), (9, I J a)]) (fun kk => fun h a => ka p0 kk h a = U r) nofun (fun m k h a H => ?_) aI (4294967295) (0) (H)) (ss [] z z) (c z)
 unfold ka at H
 refine D <| A z <| P <| E <| cI H z ?_ ?_ <;> intro H
 ·refine ai <| R <| E <| an <| D <| d H fun l f H => ix1 cC ty5 (g e) f z z <| A z <| nR <| C [.p, .p, .cv 5 3 J us5 in3, .p, .p] z <| nR <| A z <| P <| an <| CW.at (fc (fun (f : Int) (e : Int) => Q w [] []) (fun f e => [(3, I J e), (7, S i p0.length j), (8, I J (p0.length : Int)), (9, I J a), (17, I J f)]) (fun kk => fun f e => lm (ka p0 m) a kk f e = U r) nofun (fun i i f e H => ?_) aI (0) (eK .xor J h (J.wrap l)) (H)) (ss [] z z) (c z)
  unfold lm at H
  refine D <| A z <| P <| E <| cI H z ?_ ?_ <;> intro H
  ·refine ai <| R <| E <| an <| D <| C [.p, .p, .p] z <| nR <| C [.p, .p, .p] z <| nR <| oPP z <| P <| cI H z ?_ ?_ <;> intro H
   ·exact aH <| C [.p, .p, .p] z <| ay <| bR <| R <| aH <| oPP z <| ay <| bU (RW.at (i (J.wrap (f + 1)) (eK .xor J (qg J e 1) 3988292384) (H)) (ss [] z z) (c z))
   ·exact ai <| bR <| R <| aH <| oPP z <| ay <| bU (RW.at (i (J.wrap (f + 1)) (qg J e 1) (H)) (ss [] z z) (c z))
  ·exact aU <| aB <| aE <| aA <| bR <| R <| aH <| oPP z <| ay <| bU (RW.at (k (e) (J.wrap (a + 1)) (H)) (ss [] z z) (c z))
 ·exact aU <| aB <| aE <| aA <| R <| D <| C [.p, .p, .p] z <| nT <| Z H ▸ xw z
theorem tJ (w) {h p0 a e f r} (H : fL p0 = U r) (HS : Q w h [] w) (i : (V e8 5).rd w h p0 [S a e f]) :
    Calls Tryz.prog 17 #[S a e f] w (fun en w' => ∃ v, en = .returned v ∧ ∃ a e c0 f, v = S a e c0 ∧ Q w h [W (V e8 5) f r [S a e c0]] w') := by
 obtain rfl := dc i
 unfold fL at H
 exact ar Tryz.func17 z Tryz.ntmps17 z (HS) <| D <| A z <| nR <| A z <| bq H SE (fun _ a e f => Gu e a (g i e f)) z tt2 fun a H => A z <| nR <| C [.p, .p, .cv 3 5 K us3 in5, .p, .p, .cv 3 5 K us3 in5, .p, .p, .cv 3 5 K us3 in5, .p, .cv 3 5 K us3 in5] z <| cF (val := I K) (h1 := fun _ => z) [K.wrap (qg J a 24), K.wrap (qg J a 16), K.wrap (qg J a 8), K.wrap a] [(0, [I K (K.wrap (qg J a 24))]), (1, [I K (K.wrap (qg J a 16))]), (2, [I K (K.wrap (qg J a 8))]), (3, [I K (K.wrap a)])] z z z z z cC ty5 z z z ⟨z, z, nl z, z, z, nl z, z, z, nl z, z, z, nl z, Y⟩ z z (fun _ => kp) fun e => A z <| nT <| Z H ▸ xo z fun w' hw' => ⟨_, z, (U ⟨e, 0, N⟩), (([K.wrap (qg J a 24), K.wrap (qg J a 16), K.wrap (qg J a 8), K.wrap a] : List Int).length), 4, [e], z, hw'.sel [0] z z⟩
theorem sn (w) {p0 p1 a e f h i j r} (H : gV p0 p1 = U r) (k : (V e8 5).rd w [] p0 [S a e f]) (l : (V e8 5).rd w [] p1 [S h i j]) :
    Calls Tryz.prog 16 #[S a e f, S h i j] w (fun en w' => en = .returned (B r) ∧ Ext [] w w') := by
 obtain rfl := dc k
 obtain rfl := dc l
 unfold gV at H
 exact ar Tryz.func16 z Tryz.ntmps16 z (St.init w []) <| D <| A z <| nR <| A z <| G z (rI (xs := p0) z z cC in5 st9 (g k)) <| A z <| G z (rI (xs := p1) z z cC in5 st9 (g l)) <| oPP z <| nT <| Z H ▸ xw z
theorem vt (w) {p0 p1 f a h r} (H : oW p0 p1 = U r) (j : (V e8 5).rd w [] p0 [S f a h]) :
    Calls Tryz.prog 96 #[S f a h, I J p1] w (fun en w' => en = .returned (.tuple #[I J r.1, I J r.2.1, B r.2.2]) ∧ Ext [] w w') := by
 obtain rfl := dc j
 unfold oW at H
 refine ar Tryz.func96 z Tryz.ntmps96 z (St.init w []) <| D <| C [.p, .p, .p] z <| P <| E <| D <| oPP z <| P <| cI H z ?_ ?_ <;> intro H
 ·exact D <| C [.p, .p, .p] z <| nT <| Z H ▸ xw z
 ·refine ai <| R <| D <| A z <| P <| E <| D <| A z <| P <| an <| CW.at (fc (fun (e : Int) (a : Int) => Q w [] []) (fun e a => [(0, S f p0.length h), (1, I J p1), (7, I J e), (8, I J a)]) (fun kk => fun e a => jw p1 p0 kk e a = U r) nofun (fun i i e a H => ?_) aI (0) (0) (H)) (ss [] z z) (c z)
  unfold jw at H
  refine E <| D <| C [.p, .p, .p] z <| cu2 [(0, S f p0.length h), (1, I J p1), (7, I J e), (8, I J a)] [(14, B (decide (a < 5)))] 5 (19, B ((decide (a < 5)) && (decide ((J.wrap (p1 + a)) ≥ 0)))) z ?_ fun key => ?_
  ·refine A z <| cu2 [(0, S f p0.length h), (1, I J p1), (7, I J e), (8, I J a)] [(20, B ((decide (a < 5)) && (decide ((J.wrap (p1 + a)) ≥ 0))))] 7 (27, B (((decide (a < 5)) && (decide ((J.wrap (p1 + a)) ≥ 0))) && (decide ((J.wrap (p1 + a)) < (p0.length : Int))))) z ?_ fun key => ?_
   ·refine P <| cI H z ?_ ?_ <;> intro H
    ·refine ai <| R <| E <| an <| D <| C [.p, .p, .p, .p] z <| d H fun f h H => ix1 cC ty5 (g j) h z z <| C [.cv 5 3 J us5 in3, .p] z <| nR <| C [.p, .p, .p, .p, .p] z <| d H fun h j H => G z (HE z z z j) <| oPP z <| P <| E <| D <| oPP z <| P <| cI H z ?_ ?_ <;> intro H
     ·exact aU <| aB <| aA <| R <| aH <| C [.p, .p, .p] z <| ay <| bU (RW.at (i (eK .or J e h) (J.wrap (a + 1)) (H)) (ss [] z z) (c z))
     ·refine ai <| R <| E <| D <| C [.p, .p, .p] z <| cu2 [(1, I J p1), (7, I J (eK .or J e h)), (8, I J a)] [(48, B ((J.wrap f) == 0))] 3 (51, B (((J.wrap f) == 0) && (decide (a > 0)))) z ?_ fun key => ?_
      ·refine A z <| cu2 [(1, I J p1), (7, I J (eK .or J e h)), (8, I J a)] [(52, B (((J.wrap f) == 0) && (decide (a > 0))))] 3 (55, B ((((J.wrap f) == 0) && (decide (a > 0))) || (decide ((eK .or J e h) > 2147483647)))) z ?_ fun key => ?_
       ·refine P <| cI H z ?_ ?_ <;> intro H
        ·exact D <| C [.p, .p, .p] z <| nT <| Z H ▸ xw z
        ·exact ai <| R <| D <| C [.p, .p, .p, .p, .p, .p, .p, .p] z <| nT <| Z H ▸ xw z
       ·generalize (((J.wrap f) == 0) && (decide (a > 0))) = e at key ⊢
        cases e
        ·exact oPP z <| A z <| OW.sub key (c z)
        ·exact C [.p, .p, .p] z <| OW.sub key (c z)
      ·generalize ((J.wrap f) == 0) = e at key ⊢
       cases e
       ·exact C [.p, .p, .p] z <| OW.sub key (c z)
       ·exact oPP z <| A z <| OW.sub key (c z)
    ·exact aU <| aB <| aE <| aA <| R <| D <| C [.p, .p, .p] z <| nT <| Z H ▸ xw z
   ·generalize ((decide (a < 5)) && (decide ((J.wrap (p1 + a)) ≥ 0))) = e at key ⊢
    cases e
    ·exact C [.p, .p, .p, .p, .p, .p, .p] z <| OW.sub key (c z)
    ·exact C [.p, .p, .p, .p, .lenS 22 5 cC, .p] z <| A z <| OW.sub key (c z)
  ·generalize (decide (a < 5)) = a at key ⊢
   cases a
   ·exact C [.p, .p, .p, .p, .p] z <| OW.sub key (c z)
   ·exact C [.p, .p, .p, .p] z <| A z <| OW.sub key (c z)
theorem Av (w) {p0 p1 e a f r} (H : np p0 p1 = U r) (h : (V e8 5).rd w [] p0 [S e a f]) :
    Calls Tryz.prog 48 #[S e a f, I J p1] w (fun en w' => en = .returned (.tuple #[vS r.1, I J r.2.1, B r.2.2]) ∧ Ext [] w w') := by
 obtain rfl := dc h
 unfold np at H
 refine ar Tryz.func48 z Tryz.ntmps48 z (St.init w []) <| D <| C [.p, .p, .p] z <| nR <| oPP z <| bq H PZ (fun _ a i j => vt i a (g h i j)) z tt2 fun a H => C [.p, .p, .p, .p, .p, .p, .p] z <| P <| E <| D <| C [.p, .p, .p] z <| cu2 [(0, S e p0.length f), (7, I J a.1), (8, I J a.2.1)] [(19, B (!a.2.2))] 7 (26, B ((!a.2.2) || (decide (a.1 > (J.wrap ((p0.length : Int) - a.2.1)))))) z ?_ fun key => ?_
 ·refine P <| cI H z ?_ ?_ <;> intro H
  ·exact D <| C [.p, .p, .p] z <| nT <| Z H ▸ xw z
  ·refine ai <| R <| D <| C [.p, .p, .p, .p, .p] z <| d H fun f e H => qq z z z z cC ty5 z z z e h fun e e => ?_
   obtain ⟨h, i, rfl⟩ := wy e
   have e : (V e8 5).rd w [] f [S h f.length i] := e
   exact G z (rI (xs := f) z z cC in5 st9 (g e)) <| C [.p, .p, .p, .p, .p, .p] z <| nT <| Z H ▸ xw z
 ·generalize (!a.2.2) = a at key ⊢
  cases a
  ·exact C [.p, .p, .lenS 22 5 cC, .p, .p, .p] z <| A z <| OW.sub key (c z)
  ·exact C [.p, .p, .p, .p, .p, .p, .p] z <| OW.sub key (c z)
theorem qo (w) {o p0 p1 r} (H : oB p0 p1 = U r) (HS : Q w o [] w) :
    Calls Tryz.prog 98 #[vS p0, I K p1] w (fun en w' => ∃ v, en = .returned v ∧ ∃ a f c0 h, v = S a f c0 ∧ Q w o [W (V (bC) 9) h r [S a f c0]] w') := by
 unfold oB at H
 refine ar Tryz.func98 z Tryz.ntmps98 z (HS) <| D <| A z <| nR <| eS (e := bC) z z z z eo ty9 (fun _ => kp) fun j => A z <| nR <| A z <| P <| E <| D <| A z <| P <| an <| CW.at (oD (fun (a : List (List UInt8)) (h : Option Addr) (k : Nat) (m : List Nat) (l : Int) (f : Int) => Q w o [W (V (bC) 9) m a [S h a.length k]]) (fun a h k m l f => [(0, vS p0), (1, I K p1), (5, S h a.length k), (6, I J l), (7, I J f)]) (fun kk => fun a h k m l f => h.isNone = n ∧ jh p0 p1 kk a l f = U r) (fun _ _ _ _ _ _ H => nomatch H.2) (fun o o a h k m l f ⟨u, H⟩ => ?_) aI (([] : List (List UInt8))) ((U ⟨j, 0, N⟩)) (0) ([j]) (0) (0) (⟨z, H⟩)) (ss [0] z z) (c z)
 unfold jh at H
 refine E <| D <| C [.p, .p, .lenT 9 st9, .p] z <| P <| cI H z ?_ ?_ <;> intro H
 ·refine ai <| R <| E <| an <| D <| oPP z <| d H fun j j H => G z (qr (s := p0) z z z st9 j) <| oPP z <| P <| cI H z ?_ ?_ <;> intro H
  ·exact D <| C [.p, .p, .p, .p] z <| d H fun j q H => G z (Be (s := p0) z z st9 z z q) <| cF (val := vS) (h1 := fun _ => z) [j] [(0, [vS j])] z z z z z eo ty9 z z z ⟨z, z, nl z, Y⟩ z z (fun _ => kp) fun q => d H fun x t H => cq (r := 0) (ys := ([j] : List (List UInt8))) z z z z z z eo ty9 z z z (fun q j => av (e := V (bC) 9) (r := 1) z q j) t (fun _ _ _ => kp) fun F L M => eF z (fun q j => kK (i := 0) j z (kC t)) fun t => A z <| P <| aH <| C [.p, .p, .p] z <| ay <| bR <| R <| aH <| C [.p, .p, .p] z <| ay <| bU (RW.at (o (x) (F) (L) (M) (J.wrap (f + 1)) (J.wrap (f + 1)) (⟨t, H⟩)) (ss [0] z z) (c z))
  ·exact ai <| bR <| R <| aH <| C [.p, .p, .p] z <| ay <| bU (RW.at (o (a) (h) (k) (m) (l) (J.wrap (f + 1)) (⟨u, H⟩)) (ss [0] z z) (c z))
 ·exact aU <| aB <| aE <| aA <| R <| D <| C [.p, .p, .p] z <| d H fun a f H => G z (Be (s := p0) z z st9 z z f) <| cF (val := vS) (h1 := fun _ => z) [a] [(0, [vS a])] z z z z z eo ty9 z z z ⟨z, z, nl z, Y⟩ z z (fun _ => kp) fun f => d H fun h f H => cq (r := 0) (ys := ([a] : List (List UInt8))) z z z z z z eo ty9 z z z (fun q j => av (e := V (bC) 9) (r := 1) z q j) f (fun _ _ _ => kp) fun a k l => eF z (fun q j => kK (i := 0) j z (kC f)) fun f => A z <| nT <| Z H ▸ xo z fun w' hw' => ⟨_, z, a, h.length, k, l, z, hw'.sel [0] z z⟩
theorem bc (w) {p0 p1 a r} (H : aW p0 p1 a = U r) :
    Calls Tryz.prog 103 #[I J p0, I J p1, I J a] w (fun en w' => en = .returned (B r) ∧ Ext [] w w') := by
 unfold aW at H
 refine ar Tryz.func103 z Tryz.ntmps103 z (St.init w []) <| D <| A z <| nR <| C [.p, .p, .p, .p] z <| cu2 [(6, B n)] [(0, I J p0), (2, I J a), (10, B (decide (p0 ≥ p1)))] 4 (14, B ((decide (p0 ≥ p1)) && (decide (p0 ≤ a)))) z ?_ fun key => ?_
 ·exact A z <| nT <| Z H ▸ xw z
 ·generalize (decide (p0 ≥ p1)) = a at key ⊢
  cases a
  ·exact C [.p, .p, .p, .p] z <| OW.sub key (c z)
  ·exact C [.p, .p, .p] z <| A z <| OW.sub key (c z)
theorem vo (w) {p0 r} (H : oZ p0 = U r) (gT : (eGl Tryz.prog).rd w [] () []) :
    Calls Tryz.prog 167 #[I J p0] w (fun en w' => en = .returned (vS r) ∧ Ext [] w w') := by
 unfold oZ at H
 exact ar Tryz.func167 z Tryz.ntmps167 z (St.init w []) <| D <| A z <| nR <| A z <| bq H QP (fun _ a e f => Nw Tryz.laysM171 e a (PF (g gT e f))) z tt2 fun a H => A z <| nT <| Z H ▸ xw z
theorem Az (w) {p0 p1 i r} (H : pB p0 p1 i = U r) (gT : (eGl Tryz.prog).rd w [] () []) :
    Calls Tryz.prog 157 #[vS p0, I J p1, I J i] w (fun en w' => en = .returned (.tuple #[I J r.1, B r.2]) ∧ Ext [] w w') := by
 unfold pB at H
 refine ar Tryz.func157 z Tryz.ntmps157 z (St.init w []) <| D <| oPP z <| nR <| A z <| d H fun f h H => aq z QN z z z z (fun e a => NS Tryz.laysC172 e h (a.carve [] z z) (g gT e a)) fun h e h a h => ?_
 obtain ⟨j, j, rfl, j⟩ := h
 refine ⟨Q w [] [], a.comp [] z z j, fun _ _ => Y, ?_⟩
 refine C [.p, .p, .p, .p, .p] z <| P <| E <| D <| A z <| G z (Pq z z Pw) <| A z <| d H fun h j H => cu2 [(0, vS p0), (8, I J f.1)] [(1, I J p1), (2, I J i), (17, B (!f.2))] 6 (23, B h) z ?_ fun key => ?_
 ·refine A z <| d H fun k i H => cu2 [(8, I J f.1)] [(0, vS p0), (24, B h)] 5 (29, B k) z ?_ fun key => ?_
  ·refine P <| cI H z ?_ ?_ <;> intro H
   ·exact D <| oPP z <| nT <| Z H ▸ xw z
   ·exact ai <| R <| D <| C [.p, .p, .p] z <| nT <| Z H ▸ xw z
  ·have H := i
   generalize h = h at H key ⊢
   cases h
   ·have H := aN z H
    refine A z <| bq H NZ (fun _ h e a => vo e h (g gT e a)) z tt2 fun h H => oPP z <| A z <| ?_
    obtain rfl := Z H
    exact OW.sub key (c z)
   ·have H := aO z H
    refine C [.p, .p, .p, .p, .p] z ?_
    obtain rfl := Z H
    exact OW.sub key (c z)
 ·have H := j
  generalize (!f.2) = f at H key ⊢
  cases f
  ·have H := aN z H
   refine C [.p, .p, .p] z <| bq H gQ (fun _ f e a => bc e f) z tt2 fun a H => A z <| A z <| ?_
   obtain rfl := Z H
   exact OW.sub key (c z)
  ·have H := aO z H
   refine C [.p, .p, .p, .p, .p, .p] z ?_
   obtain rfl := Z H
   exact OW.sub key (c z)
theorem BP (w) {p0 r} (H : li p0 = U r) (gT : (eGl Tryz.prog).rd w [] () []) :
    Calls Tryz.prog 133 #[vS p0] w (fun en w' => en = .returned (.tuple #[I J r.1, B r.2]) ∧ Ext [] w w') := by
 unfold li at H
 exact ar Tryz.func133 z Tryz.ntmps133 z (St.init w []) <| D <| oPP z <| nR <| A z <| bq H Sc (fun _ a e f => Az e a (g gT e f)) z tt2 fun a H => C [.p, .p, .p, .p] z <| nT <| Z H ▸ xw z
theorem vy (w) {p0 r} (H : oL p0 = U r) :
    Calls Tryz.prog 158 #[vS p0] w (fun en w' => en = .returned (B r) ∧ Ext [] w w') := by
 unfold oL at H
 refine ar Tryz.func158 z Tryz.ntmps158 z (St.init w []) <| D <| A z <| P <| E <| D <| C [.p, .lenT 9 st9] z <| bq H gQ (fun _ a e f => bc e a) z tt2 fun a H => A z <| P <| cI H z ?_ ?_ <;> intro H
 ·exact D <| A z <| nT <| Z H ▸ xw z
 ·refine ai <| R <| E <| D <| C [.p, .lenT 9 st9, .p] z <| P <| an <| CW.at (dq (fun (a : Int) => Q w [] []) (fun a => [(0, vS p0), (9, I J (p0.length : Int)), (10, I J a)]) (fun kk => fun a => kX p0 kk a = U r) nofun (fun e f a H => ?_) aI (0) (H)) (ss [] z z) (c z)
  unfold kX at H
  refine D <| A z <| P <| E <| cI H z ?_ ?_ <;> intro H
  ·refine ai <| R <| E <| an <| D <| oPP z <| nR <| oPP z <| d H fun e h H => G z (qr (s := p0) z z z st9 h) <| oPP z <| d H fun i h H => cu2 [(0, vS p0), (9, I J (p0.length : Int)), (10, I J a)] [(3, I J a), (17, B (decide ((e.toNat : Int) < 97)))] 5 (22, B i) z ?_ fun key => ?_
   ·refine P <| cI H z ?_ ?_ <;> intro H
    ·exact D <| A z <| nT <| Z H ▸ xw z
    ·exact ai <| bR <| R <| aH <| oPP z <| ay <| bU (RW.at (f (J.wrap (a + 1)) (H)) (ss [] z z) (c z))
   ·have H := h
    generalize (decide ((e.toNat : Int) < 97)) = a at H key ⊢
    cases a
    ·have H := aN z H
     refine oPP z <| d H fun a a H => G z (qr (s := p0) z z z st9 a) <| A z <| A z <| ?_
     obtain rfl := Z H
     exact OW.sub key (c z)
    ·have H := aO z H
     refine C [.p, .p, .p, .p, .p] z ?_
     obtain rfl := Z H
     exact OW.sub key (c z)
  ·exact aU <| aB <| aE <| aA <| R <| D <| A z <| nT <| Z H ▸ xw z
theorem nI (w) {p0 p1 e a f r} (H : eG p0 p1 = U r) (h : (V (bC) 9).rd w [] p0 [S e a f]) :
    Calls Tryz.prog 185 #[S e a f, vS p1] w (fun en w' => en = .returned (I J r) ∧ Ext [] w w') := by
 obtain rfl := dc h
 unfold eG at H
 refine ar Tryz.func185 z Tryz.ntmps185 z (St.init w []) <| D <| A z <| P <| E <| D <| C [.p, .lenS 24 9 eo, .p] z <| P <| an <| CW.at (dq (fun (a : Int) => Q w [] []) (fun a => [(0, S e p0.length f), (1, vS p1), (7, I J (p0.length : Int)), (8, I J a)]) (fun kk => fun a => cy p0 p1 kk a = U r) nofun (fun e e a H => ?_) aI (0) (H)) (ss [] z z) (c z)
 unfold cy at H
 refine D <| A z <| P <| E <| cI H z ?_ ?_ <;> intro H
 ·refine ai <| R <| E <| an <| D <| oPP z <| nR <| C [.p, .p, .p] z <| d H fun f f H => ix1 eo ty9 (g h) f z z <| A z <| P <| cI H z ?_ ?_ <;> intro H
  ·exact D <| oPP z <| nT <| Z H ▸ xw z
  ·exact ai <| bR <| R <| aH <| oPP z <| ay <| bU (RW.at (e (J.wrap (a + 1)) (H)) (ss [] z z) (c z))
 ·exact aU <| aB <| aE <| aA <| R <| D <| A z <| nT <| Z H ▸ xw z
theorem mA (w) {p0 p1 a e f r} (H : dI p0 p1 = U r) (h : (V (bC) 9).rd w [] p0 [S a e f]) :
    Calls Tryz.prog 160 #[S a e f, vS p1] w (fun en w' => en = .returned (B r) ∧ Ext [] w w') := by
 obtain rfl := dc h
 unfold dI at H
 exact ar Tryz.func160 z Tryz.ntmps160 z (St.init w []) <| D <| A z <| nR <| oPP z <| bq H Qc (fun _ a e f => nI e a (g h e f)) z tt2 fun a H => oPP z <| nT <| Z H ▸ xw z
theorem mq (w) {p0 e a f r} (H : fe p0 = U r) (k : (V (bC) 9).rd w [] p0 [S e a f]) :
    Calls Tryz.prog 135 #[S e a f] w (fun en w' => en = .returned (B r) ∧ Ext [] w w') := by
 obtain rfl := dc k
 unfold fe at H
 refine ar Tryz.func135 z Tryz.ntmps135 z (St.init w []) <| D <| A z <| P <| E <| D <| C [.p, .lenS 24 9 eo, .p] z <| P <| an <| CW.at (dq (fun (a : Int) => Q w [] []) (fun a => [(0, S e p0.length f), (5, S e p0.length f), (6, I J (p0.length : Int)), (7, I J a)]) (fun kk => fun a => fK p0 kk a = U r) nofun (fun h l a H => ?_) aI (0) (H)) (ss [] z z) (c z)
 unfold fK at H
 refine D <| A z <| P <| E <| cI H z ?_ ?_ <;> intro H
 ·refine ai <| R <| E <| an <| D <| A z <| d H fun o h H => ix1 eo ty9 (g k) h z z <| oPP z <| nR <| A z <| bq H Om (fun _ j h i => vy h j) z tt2 fun j H => oPP z <| d H fun q m H => cu2 [(0, S e p0.length f), (5, S e p0.length f), (6, I J (p0.length : Int)), (7, I J a)] [(3, I J a), (4, vS o), (15, B (!j))] 6 (21, B q) z ?_ fun key => ?_
  ·refine P <| cI H z ?_ ?_ <;> intro H
   ·exact D <| A z <| nT <| Z H ▸ xw z
   ·exact ai <| bR <| R <| aH <| oPP z <| ay <| bU (RW.at (l (J.wrap (a + 1)) (H)) (ss [] z z) (c z))
  ·have H := m
   generalize (!j) = a at H key ⊢
   cases a
   ·have H := aN z H
    refine oPP z <| d H fun e a H => qq z z z z eo ty9 z z z a k fun a a => ?_
    obtain ⟨f, j, rfl⟩ := wy a
    have a : (V (bC) 9).rd w [] e [S f e.length j] := a
    refine A z <| bq H RP (fun _ e h i => mA h e (g a h i)) z tt2 fun a H => A z <| ?_
    obtain rfl := Z H
    exact OW.sub key (c z)
   ·have H := aO z H
    refine C [.p, .p, .p, .p, .p, .p] z ?_
    obtain rfl := Z H
    exact OW.sub key (c z)
 ·exact aU <| aB <| aE <| aA <| R <| D <| A z <| nT <| Z H ▸ xw z
theorem pt (w) {p0 e a f r} (H : gF p0 = U r) (h : (V eI 3).rd w [] p0 [S e a f]) :
    Calls Tryz.prog 182 #[S e a f] w (fun en w' => en = .returned (B r) ∧ Ext [] w w') := by
 obtain rfl := dc h
 unfold gF at H
 refine ar Tryz.func182 z Tryz.ntmps182 z (St.init w []) <| D <| A z <| P <| E <| D <| A z <| P <| an <| CW.at (dq (fun (a : Int) => Q w [] []) (fun a => [(0, S e p0.length f), (3, I J a)]) (fun kk => fun a => fI p0 kk a = U r) nofun (fun e e a H => ?_) aI (1) (H)) (ss [] z z) (c z)
 unfold fI at H
 refine E <| D <| C [.p, .p, .lenS 63 3 bB, .p] z <| P <| cI H z ?_ ?_ <;> intro H
 ·refine ai <| R <| E <| an <| E <| dP dC (by kernel_rfl) <| oPP z <| d H fun f f H => ix1 bB ty3 (g h) f z z <| C [.p, .p, .p] z <| d H fun f f H => ix1 bB ty3 (g h) f z z <| A z <| cQ <| R <| cI H z ?_ ?_ <;> intro H
  ·exact D <| A z <| nT <| Z H ▸ xw z
  ·exact ai <| bR <| R <| aH <| C [.p, .p, .p] z <| ay <| bU (RW.at (e (J.wrap (a + 1)) (H)) (ss [] z z) (c z))
 ·exact aU <| aB <| aE <| aA <| R <| D <| A z <| nT <| Z H ▸ xw z
theorem Dg (w) {p0 r} (H : tQ p0 = U r) :
    Calls Tryz.prog 184 #[I J p0] w (fun en w' => en = .returned (B r) ∧ Ext [] w w') := by
 unfold tQ at H
 exact ar Tryz.func184 z Tryz.ntmps184 z (St.init w []) <| D <| A z <| nR <| A z <| bq H gQ (fun _ a e f => bc e a) z tt2 fun a H => A z <| nT <| Z H ▸ xw z
theorem zk (w) {p0 r} (H : qp p0 = U r) :
    Calls Tryz.prog 183 #[I J p0] w (fun en w' => en = .returned (B r) ∧ Ext [] w w') := by
 unfold qp at H
 exact ar Tryz.func183 z Tryz.ntmps183 z (St.init w []) <| D <| A z <| nR <| A z <| bq H QO (fun _ a e f => Dg e a) z tt2 fun a H => oPP z <| nT <| Z H ▸ xw z
theorem jK (w) {p0 e a f r} (H : cO p0 = U r) (h : (V eI 3).rd w [] p0 [S e a f]) :
    Calls Tryz.prog 165 #[S e a f, .func (.func 183) #[] #[]] w (fun en w' => en = .returned (I J r) ∧ Ext [] w w') := by
 obtain rfl := dc h
 unfold cO at H
 refine ar Tryz.func165 z Tryz.ntmps165 z (St.init w []) <| D <| A z <| P <| E <| D <| C [.p, .lenS 63 3 bB, .p] z <| P <| an <| CW.at (dq (fun (a : Int) => Q w [] []) (fun a => [(0, S e p0.length f), (1, .func (.func 183) #[] #[]), (7, I J (p0.length : Int)), (8, I J a)]) (fun kk => fun a => bM p0 kk a = U r) nofun (fun e e a H => ?_) aI (0) (H)) (ss [] z z) (c z)
 unfold bM at H
 refine D <| A z <| P <| E <| cI H z ?_ ?_ <;> intro H
 ·refine ai <| R <| E <| an <| D <| oPP z <| nR <| C [.p, .p, .p] z <| d H fun f f H => ix1 bB ty3 (g h) f z z <| d H fun f f H => Dw z z (aV z) (qI (cap := []) z PY z z (fun h i => zk h f)) (fun _ _ => Y) <| P <| cI H z ?_ ?_ <;> intro H
  ·exact D <| oPP z <| nT <| Z H ▸ xw z
  ·exact ai <| bR <| R <| aH <| oPP z <| ay <| bU (RW.at (e (J.wrap (a + 1)) (H)) (ss [] z z) (c z))
 ·exact aU <| aB <| aE <| aA <| R <| D <| A z <| nT <| Z H ▸ xw z
theorem iZ (w) {p0 a e f r} (H : cz p0 = U r) (h : (V eI 3).rd w [] p0 [S a e f]) :
    Calls Tryz.prog 139 #[S a e f, .func (.func 183) #[] #[]] w (fun en w' => en = .returned (B r) ∧ Ext [] w w') := by
 obtain rfl := dc h
 unfold cz at H
 exact ar Tryz.func139 z Tryz.ntmps139 z (St.init w []) <| D <| A z <| nR <| oPP z <| bq H Hq (fun _ a e f => jK e a (g h e f)) z tt2 fun a H => oPP z <| nT <| Z H ▸ xw z
theorem BU (w) {p0 e a f r} (H : qB p0 = U r) (k : (V eI 3).rd w [] p0 [S e a f]) :
    Calls Tryz.prog 159 #[S e a f] w (fun en w' => en = .returned (B r) ∧ Ext [] w w') := by
 obtain rfl := dc k
 unfold qB at H
 refine ar Tryz.func159 z Tryz.ntmps159 z (St.init w []) <| D <| A z <| nR <| C [.p, .lenS 63 3 bB] z <| bq H gQ (fun _ i a h => bc a i) z tt2 fun j H => A z <| d H fun i l H => cu2 [(0, S e p0.length f), (2, B n)] [(6, B j)] 3 (9, B i) z ?_ fun key => ?_
 ·refine A z <| d H fun o m H => cu2 [(2, B n)] [(0, S e p0.length f), (10, B i)] 4 (14, B o) z ?_ fun key => ?_
  ·exact A z <| nT <| Z H ▸ xw z
  ·have H := m
   generalize i = e at H key ⊢
   cases e
   ·have H := aN z H
    refine C [.p, .p, .p, .p] z ?_
    obtain rfl := Z H
    exact OW.sub key (c z)
   ·have H := aO z H
    refine A z <| bq H Gh (fun _ e a h => iZ a e (g k a h)) z tt2 fun e H => A z <| A z <| ?_
    obtain rfl := Z H
    exact OW.sub key (c z)
 ·have H := l
  generalize j = e at H key ⊢
  cases e
  ·have H := aN z H
   refine C [.p, .p, .p] z ?_
   obtain rfl := Z H
   exact OW.sub key (c z)
  ·have H := aO z H
   refine A z <| bq H MD (fun _ e a h => pt a e (g k a h)) z tt2 fun a H => A z <| ?_
   obtain rfl := Z H
   exact OW.sub key (c z)
theorem rO (w) {p0 a r} (H : kb p0 = U r) (e : (aD).rd w [] p0 a) :
    Calls Tryz.prog 134 #[.agg a.toArray] w (fun en w' => en = .returned (B r) ∧ Ext [] w w') := by
 obtain ⟨a, a, a, a, rfl, j, k⟩ := bJ e
 unfold kb at H
 refine ar Tryz.func134 z Tryz.ntmps134 z (St.init w []) <| D <| ob _ z fun f => A z <| P <| E <| D <| C [.fa 123 0 0 kA] z <| G z (r1 0 0 z ty9 z) <| bq H Om (fun _ h a e => vy a h) z tt2 fun h H => A z <| P <| cI H z ?_ ?_ <;> intro H
 ·exact D <| A z <| nT <| Z H ▸ xw z
 ·refine ai <| R <| E <| D <| C [.fa 123 1 1 fJ] z <| G z (r1 1 0 z bP z) <| C [.lenS 63 3 bB, .p] z <| P <| cI H z ?_ ?_ <;> intro H
  ·refine D <| C [.fa 123 2 2 kz] z <| G z (r1 2 0 z mZ z) <| C [.lenS 24 9 eo] z <| bq H gQ (fun _ h a e => bc a h) z tt2 fun h H => A z <| d H fun l i H => cu2 [(2, B n)] [(1, O (U ⟨f, 0, N⟩)), (15, B h)] 4 (19, B l) z ?_ fun key => ?_
   ·exact A z <| nT <| Z H ▸ xw z
   ·have H := i
    generalize h = h at H key ⊢
    cases h
    ·have H := aN z H
     refine C [.p, .p, .p, .p] z ?_
     obtain rfl := Z H
     exact OW.sub key (c z)
    ·have H := aO z H
     refine C [.fa 123 2 2 kz] z <| G z (r1 2 0 z mZ z) <| bq H Lv (fun _ h a e => mq a h (g k a e)) z tt2 fun h H => A z <| ?_
     obtain rfl := Z H
     exact OW.sub key (c z)
  ·refine ai <| R <| D <| C [.fa 123 2 2 kz] z <| G z (r1 2 0 z mZ z) <| C [.lenS 24 9 eo, .p, .p] z <| d H fun i h H => cu2 [(2, B n)] [(1, O (U ⟨f, 0, N⟩)), (24, B ((p0.F_.length : Int) == 0))] 4 (28, B i) z ?_ fun key => ?_
   ·exact A z <| nT <| Z H ▸ xw z
   ·have H := h
    generalize ((p0.F_.length : Int) == 0) = f at H key ⊢
    cases f
    ·have H := aN z H
     refine C [.p, .p, .p, .p] z ?_
     obtain rfl := Z H
     exact OW.sub key (c z)
    ·have H := aO z H
     refine C [.fa 123 1 1 fJ] z <| G z (r1 1 0 z bP z) <| bq H PU (fun _ f a e => BU a f (g j a e)) z tt2 fun a H => A z <| ?_
     obtain rfl := Z H
     exact OW.sub key (c z)
theorem wh (w) {p0 p1 l a m r} (H : kP p0 p1 = U r) (q : (V eI 3).rd w [] p0 [S l a m]) (gT : (eGl Tryz.prog).rd w [] () []) :
    Calls Tryz.prog 142 #[S l a m, vS p1] w (fun en w' => en = .returned (vS r) ∧ Ext [] w w') := by
 obtain rfl := dc q
 unfold kP at H
 refine ar Tryz.func142 z Tryz.ntmps142 z (St.init w []) <| D <| A z <| nR <| eS (e := bC) z z z z eo ty9 (fun _ => kp) fun o => A z <| P <| E <| D <| C [.p, .lenS 63 3 bB, .p] z <| P <| an <| CW.at (lq (fun (f : Int) (a : List (List UInt8)) (h : Option Addr) (j : Nat) (k : List Nat) => Q w [] [W (V (bC) 9) k a [S h a.length j]]) (fun f a h j k => [(1, vS p1), (5, S h a.length j), (9, S l p0.length m), (10, I J (p0.length : Int)), (11, I J f)]) (fun kk => fun f a h j k => h.isNone = n ∧ dH p0 p1 kk f a = U r) (fun _ _ _ _ _ H => nomatch H.2) (fun l l f a h j k ⟨a, H⟩ => ?_) aI (0) (([] : List (List UInt8))) ((U ⟨o, 0, N⟩)) (0) ([o]) (⟨z, H⟩)) (ss [0] z z) (c z)
 unfold dH at H
 refine D <| A z <| P <| E <| cI H z ?_ ?_ <;> intro H
 ·exact ai <| R <| E <| an <| D <| d H fun a a H => ix1 bB ty3 (g q) a z z <| A z <| P <| aH <| oPP z <| bq H NZ (fun _ j h a => vo h j (g gT h a)) z tt2 fun j H => cF (val := vS) (h1 := fun _ => z) [j] [(0, [vS j])] z z z z z eo ty9 z z z ⟨z, z, nl z, Y⟩ z z (fun _ => kp) fun k => d H fun m k H => cq (r := 0) (ys := ([j] : List (List UInt8))) z z z z z z eo ty9 z z z (fun h a => av (e := V (bC) 9) (r := 1) z h a) k (fun _ _ _ => kp) fun o q s => eF z (fun h a => kK (i := 0) a z (kC k)) fun j => A z <| ay <| bR <| R <| aH <| oPP z <| ay <| bU (RW.at (l (J.wrap (f + 1)) (m) (o) (q) (s) (⟨j, H⟩)) (ss [0] z z) (c z))
 ·exact aU <| aB <| aE <| aA <| R <| D <| oPP z <| bq H II (fun _ f h a => AY (T := 9) Tryz.lays156 Tryz.Builder_Extra_156 h f (av (e := V (bC) 9) (r := 0) z h a)) z tt2 fun a H => A z <| nT <| Z H ▸ xw z
theorem tz (w) {p0 a r} (H : je p0 = U r) (e : (aD).rd w [] p0 a) (gT : (eGl Tryz.prog).rd w [] () []) :
    Calls Tryz.prog 108 #[.agg a.toArray] w (fun en w' => en = .returned (vS r) ∧ Ext [] w w') := by
 obtain ⟨a, a, a, a, rfl, f, h⟩ := bJ e
 unfold je at H
 refine ar Tryz.func108 z Tryz.ntmps108 z (St.init w []) <| D <| ob _ z fun a => A z <| P <| E <| D <| G z (rx 0 0 _ z cf z) <| bq H Ly (fun _ i e a => rO e i (co z (g f e a) (g h e a))) z tt2 fun i H => A z <| P <| cI H z ?_ ?_ <;> intro H
 ·exact D <| A z <| nT <| Z H ▸ xw z
 ·refine ai <| R <| E <| D <| C [.fa 123 1 1 fJ] z <| G z (r1 1 0 z bP z) <| C [.lenS 63 3 bB, .p] z <| P <| cI H z ?_ ?_ <;> intro H
  ·exact E <| dP dC (by kernel_rfl) <| C [.fa 123 0 0 kA] z <| G z (r1 0 0 z ty9 z) <| d H fun i i H => G z (jH z z z i) <| C [.fa 123 1 1 fJ] z <| G z (r1 1 0 z bP z) <| bq H QZ (fun _ i e a => wh e i (g f e a) (g gT e a)) z tt2 fun f H => d H fun f f H => G z (jH z z z f) <| A z <| cQ <| R <| sG <| Z H ▸ xw z
  ·exact ai <| R <| E <| dP dC (by kernel_rfl) <| C [.fa 123 0 0 kA] z <| G z (r1 0 0 z ty9 z) <| d H fun f f H => G z (jH z z z f) <| C [.fa 123 2 2 kz] z <| G z (r1 2 0 z mZ z) <| bq H II (fun _ f e a => AY (T := 9) Tryz.lays156 Tryz.Builder_Extra_156 e f (g h e a)) z tt2 fun a H => d H fun a a H => G z (jH z z z a) <| A z <| cQ <| R <| sG <| Z H ▸ xw z
theorem CN (w) {M p0 r} (H : lj p0 = U r) (HS : Q w M [] w) (gT : (eGl Tryz.prog).rd w M () []) :
    Calls Tryz.prog 99 #[vS p0] w (fun en w' => ∃ v, en = .returned v ∧ ∃ a f c0 l j k c1 m, v = .tuple #[.agg #[vS r.1.D_, S a f c0, S j k c1], B r.2] ∧ Q w M [W (V eI 3) l r.1.x_ [S a f c0], W (V (bC) 9) m r.1.F_ [S j k c1]] w') := by
 unfold lj at H
 refine ar Tryz.func99 z Tryz.ntmps99 z (HS) <| D <| bn z z z z cf (fun _ => kp) fun t => A z <| nR <| G z (bv [] [vS ([] : List UInt8), S N 0 0, S N 0 0] z z cf Bg z Y z) <| bn z z z z cf (fun _ => kp) fun u => sC 0 [vS ([] : List UInt8), S N 0 0, S N 0 0] [_, _, _] 1 z cf z <| P <| IT (fun (l : List UInt8) (j : List Int) (m : Option Addr) (o : Nat) (F : List Nat) (k : List (List UInt8)) (q : Option Addr) (s : Nat) (L : List Nat) => Q w M [b t 123 [vS ([] : List UInt8), S N 0 0, S N 0 0], b u 123 [vS l, S m j.length o, S q k.length s], W (V eI 3) F j [S m j.length o], W (V (bC) 9) L k [S q k.length s]]) (fun l j m o F k q s L => [(0, vS p0), (2, O (U ⟨t, 0, N⟩)), (4, O (U ⟨u, 0, N⟩))]) (fun l j m o F k q s L => gp p0 l j k = U r) (fun l j m o F k q s L H => ?_) (fun J1 => ?_)
 ·unfold gp at H
  refine E <| D <| G z (rx 0 1 _ z cf z) <| bq H Ly (fun _ X f a => rO f X (co (x := (ap.mk l j k)) (c0 := [vS l]) (c1 := [S m j.length o]) (c2 := [S q k.length s]) z (av (e := V eI 3) (r := 2) z f a) (av (e := V (bC) 9) (r := 3) z f a))) z tt2 fun a2 H => oPP z <| d H fun a4 X H => cu2 [(2, O (U ⟨t, 0, N⟩)), (4, O (U ⟨u, 0, N⟩))] [(0, vS p0), (61, B (!a2))] 5 (66, B a4) z ?_ fun key => ?_
  ·refine P <| cI H z ?_ ?_ <;> intro H
   ·exact D <| G z (bv [] [vS ([] : List UInt8), S N 0 0, S N 0 0] z z cf Bg z Y z) <| sC 0 [vS ([] : List UInt8), S N 0 0, S N 0 0] [_, _, _] 0 z cf z <| A z <| nT <| aS <| aP (fun _ h => St.pushNil (e := eI) (T := 3) h) <| aP (fun _ h => St.pushNil (e := bC) (T := 9) h) <| Z H ▸ xc 0 cf z fun w' hw' => ⟨_, z, N, 0, 0, [], N, 0, 0, [], z, hw'.sel [4, 5] z z⟩
   ·exact ai <| R <| D <| G z (rx 0 1 _ z cf z) <| sC 0 [vS l, S m j.length o, S q k.length s] [_, _, _] 0 z cf z <| A z <| nT <| Z H ▸ xc 0 cf z fun w' hw' => ⟨_, z, m, j.length, o, F, q, k.length, s, L, z, hw'.sel [2, 3] z z⟩
  ·have H := X
   generalize (!a2) = F at H key ⊢
   cases F
   ·have H := aN z H
    refine G z (rx 0 1 _ z cf z) <| bq H Of (fun _ F f a => tz f F (co (x := (ap.mk l j k)) (c0 := [vS l]) (c1 := [S m j.length o]) (c2 := [S q k.length s]) z (av (e := V eI 3) (r := 2) z f a) (av (e := V (bC) 9) (r := 3) z f a)) (g gT f a)) z tt2 fun j H => oPP z <| A z <| ?_
    obtain rfl := Z H
    exact OW.sub key (c z)
   ·have H := aO z H
    refine C [.p, .p, .p, .p, .p] z ?_
    obtain rfl := Z H
    exact OW.sub key (c z)
 ·refine D <| A z <| bq H ON (fun _ j f a => It Tryz.lays145 f j (g gT f a)) z tt2 fun j H => C [.p, .p, .p, .p, .p, .p, .p] z <| nR <| A z <| P <| cI H z ?_ ?_ <;> intro H
  ·refine aH <| oPP z <| d H fun k l H => aq z Nu z z z z (fun f a => qo f l (a.carve [] z z)) fun l f F a q => ?_
   obtain ⟨l, m, m, s, rfl, o⟩ := q
   obtain rfl := aL (i := 0) o z
   refine ⟨Q w M [_, _, _], a.comp [] z z o, fun _ _ => Y, ?_⟩
   exact G z (bv [(0, [vS j.1]), (2, [S l k.length m])] [vS j.1, S N 0 0, S l k.length m] z z cf Bg z ⟨z, z, nl z, z, z, nl z, Y⟩ z) <| sC 0 [vS j.1, S N 0 0, S l k.length m] [_, _, _] 1 z cf z <| ay <| aP (fun _ h => St.pushNil (e := eI) (T := 3) h) <| XW.at (J1 (j.1) (([] : List Int)) (N) (0) ([]) (k) (l) (m) (s) (H)) (ss [0, 1, 3, 2] z z) (c z)
  ·refine D <| A z <| bq H ON (fun _ j f a => It Tryz.lays145 f j (g gT f a)) z tt2 fun s H => C [.p, .p, .p, .p, .p, .p, .p] z <| nR <| A z <| P <| cI H z ?_ ?_ <;> intro H
   ·refine D <| C [.p, .fa 123 0 0 kA] z <| sC 0 [vS s.1] [_, _, _] 1 z ty9 z <| nR <| A z <| d H fun o j H => aq z Nu z z z z (fun f a => qo f j (a.carve [] z z)) fun j f F a k => ?_
    obtain ⟨F, j, L, X, rfl, j⟩ := k
    obtain rfl := aL (i := 0) j z
    refine ⟨Q w M [_, _, _], a.comp [] z z j, fun _ _ => Y, ?_⟩
    refine C [.lenS 24 9 eo, .p] z <| P <| an <| CW.weak ?_ (fun _ h => St.pushNil (e := eI) (T := 3) h)
    refine CW.at (lq (fun (k : Int) (j : List Int) (l : Option Addr) (m : Nat) (q : List Nat) => Q w M [b t 123 [vS ([] : List UInt8), S N 0 0, S N 0 0], W (V (bC) 9) X o [S F o.length L], b u 123 [vS s.1, S l j.length m, S N 0 0], W (V eI 3) q j [S l j.length m]]) (fun k j l m q => [(0, vS p0), (2, O (U ⟨t, 0, N⟩)), (4, O (U ⟨u, 0, N⟩)), (37, S F o.length L), (38, I J (o.length : Int)), (39, I J k)]) (fun kk => fun k j l m q => cX o p0 s kk k j = U r) nofun (fun o L k j l m q H => ?_) aI (0) (([] : List Int)) (N) (0) ([]) (H)) (ss [0, 2, 1, 3] z z) (c z)
    unfold cX at H
    refine D <| A z <| P <| E <| cI H z ?_ ?_ <;> intro H
    ·refine ai <| R <| E <| an <| D <| d H fun o o H => ix1 eo ty9 (fun f a => av (e := V (bC) 9) (r := 1) z f a) o z z <| A z <| nR <| A z <| bq H QY (fun _ o f a => BP f o (g gT f a)) z tt2 fun o H => C [.p, .p, .p, .p, .p] z <| P <| E <| D <| oPP z <| P <| cI H z ?_ ?_ <;> intro H
     ·exact D <| G z (bv [] [vS ([] : List UInt8), S N 0 0, S N 0 0] z z cf Bg z Y z) <| sC 0 [vS ([] : List UInt8), S N 0 0, S N 0 0] [_, _, _] 0 z cf z <| A z <| nT <| aS <| cR <| aS <| lU <| cR <| aS <| aP (fun _ h => St.pushNil (e := eI) (T := 3) h) <| aP (fun _ h => St.pushNil (e := bC) (T := 9) h) <| Z H ▸ xc 0 cf z fun w' hw' => ⟨_, z, N, 0, 0, [], N, 0, 0, [], z, hw'.sel [4, 5] z z⟩
     ·exact ai <| R <| aH <| C [.fa 123 1 1 fJ] z <| G z (r1 1 2 z bP z) <| A z <| cF (val := I J) (h1 := fun _ => z) [o.1] [(0, [I J o.1])] z z z z z bB ty3 z z z ⟨z, z, nl z, Y⟩ z z (fun _ => kp) fun t => d H fun t u H => cq (r := 3) (ys := ([o.1] : List Int)) z z z z z z bB ty3 z z z (av (e := V eI 3) (r := 4) z) u (fun _ _ _ => kp) fun o F M => eF z (fun f a => kK (i := 3) a z (kC u)) fun a => C [.fa 123 1 1 fJ] z <| sC 1 [S o t.length F] [_, _, _] 2 z bP z <| ay <| bR <| R <| aH <| oPP z <| ay <| bU (RW.at (L (J.wrap (k + 1)) (t) (o) (F) (M) (H)) (ss [0, 1, 2, 3] z z) (c z))
    ·exact aU <| aB <| aE <| aA <| aP (fun _ h => St.pushNil (e := bC) (T := 9) h) <| XW.at (J1 (s.1) (j) (l) (m) (q) (([] : List (List UInt8))) (N) (0) ([]) (H)) (ss [0, 2, 3, 4] z z) (c z)
   ·exact ai <| aP (fun _ h => St.pushNil (e := eI) (T := 3) h) <| aP (fun _ h => St.pushNil (e := bC) (T := 9) h) <| XW.at (J1 (([] : List UInt8)) (([] : List Int)) (N) (0) ([]) (([] : List (List UInt8))) (N) (0) ([]) (H)) (ss [0, 1, 2, 3] z z) (c z)
theorem hY (w) {p0 a r} (H : ed p0 = U r) (f : (bH).rd w [] p0 a) :
    Calls Tryz.prog 100 #[.agg a.toArray] w (fun en w' => en = .returned (B r) ∧ Ext [] w w') := by
 obtain ⟨v, x, a, a, rfl, F, T⟩ := bA f
 unfold ed at H
 refine ar Tryz.func100 z Tryz.ntmps100 z (St.init w []) <| D <| ob _ z fun h => A z <| P <| E <| D <| C [.fa 26 0 0 fu] z <| G z (r1 0 0 z nv z) <| C [.lenS 23 123 jN] z <| bq H gQ (fun _ j f a => bc f j) z tt2 fun q H => oPP z <| d H fun o t H => cu2 [(1, O (U ⟨h, 0, N⟩))] [(11, B (!q))] 6 (17, B o) z ?_ fun key => ?_
 ·refine A z <| d H fun j u H => cu2 [(1, O (U ⟨h, 0, N⟩))] [(18, B o)] 5 (23, B j) z ?_ fun key => ?_
  ·refine P <| cI H z ?_ ?_ <;> intro H
   ·exact D <| A z <| nT <| Z H ▸ xw z
   ·refine ai <| R <| D <| eS (e := bC) z z z z eo ty9 (fun _ => kp) fun s => A z <| P <| E <| D <| C [.fa 26 0 0 fu] z <| G z (r1 0 0 z nv z) <| C [.lenS 23 123 jN, .p] z <| P <| an <| CW.at (lq (fun (j : Int) (h : List (List UInt8)) (k : Option Addr) (l : Nat) (m : List Nat) => Q w [] [W (V (bC) 9) m h [S k h.length l]]) (fun j h k l m => [(3, S k h.length l), (26, S v p0.d_.length x), (27, I J (p0.d_.length : Int)), (28, I J j)]) (fun kk => fun j h k l m => k.isNone = n ∧ fv p0 kk j h = U r) (fun _ _ _ _ _ H => nomatch H.2) (fun v v j h k l m ⟨h, H⟩ => ?_) aI (0) (([] : List (List UInt8))) ((U ⟨s, 0, N⟩)) (0) ([s]) (⟨z, H⟩)) (ss [1] z z) (c z)
    unfold fv at H
    refine D <| A z <| P <| E <| cI H z ?_ ?_ <;> intro H
    ·refine ai <| R <| E <| an <| D <| d H fun h k H => bu z z z z z jN cf z F k fun k k x F => ?_
     obtain ⟨m, s, k, l, rfl, L, M⟩ := bJ x
     refine G z (cT (cs := [vS h.D_, S m h.x_.length s, S k h.F_.length l]) z z cf (bh bor F) z) <| bn z z z z cf (fun _ => kp) fun x => sC 0 [vS h.D_, S m h.x_.length s, S k h.F_.length l] [_, _, _] 1 z cf z <| P <| E <| D <| G z (rx 0 1 _ z cf z) <| bq H Ly (fun _ k f a => rO f k (co z (g L f a) (g M f a))) z tt2 fun k H => A z <| P <| cI H z ?_ ?_ <;> intro H
     ·exact D <| A z <| nT <| Z H ▸ xw z
     ·exact ai <| R <| aH <| C [.p, .fa 123 0 0 kA] z <| G z (r1 0 1 z ty9 z) <| cF (val := vS) (h1 := fun _ => z) [h.D_] [(0, [vS h.D_])] z z z z z eo ty9 z z z ⟨z, z, nl z, Y⟩ z z (fun _ => kp) fun k => d H fun l k H => cq (r := 0) (ys := ([h.D_] : List (List UInt8))) z z z z z z eo ty9 z z z (fun f a => av (e := V (bC) 9) (r := 2) z f a) k (fun _ _ _ => kp) fun m s x => eF z (fun f a => kK (i := 0) a z (kC k)) fun h => A z <| ay <| bR <| R <| aH <| oPP z <| ay <| bU (RW.at (v (J.wrap (j + 1)) (l) (m) (s) (x) (⟨h, H⟩)) (ss [0] z z) (c z))
    ·exact aU <| aB <| aE <| aA <| R <| D <| A z <| bq H Lv (fun _ h f a => mq f h (av (e := V (bC) 9) (r := 0) z f a)) z tt2 fun h H => A z <| nT <| Z H ▸ xw z
  ·have H := u
   generalize o = h at H key ⊢
   cases h
   ·have H := aN z H
    refine C [.fa 26 1 1 lz] z <| G z (r1 1 0 z mZ z) <| bq H Lv (fun _ h f a => mq f h (g T f a)) z tt2 fun h H => A z <| A z <| ?_
    obtain rfl := Z H
    exact OW.sub key (c z)
   ·have H := aO z H
    refine C [.p, .p, .p, .p, .p] z ?_
    obtain rfl := Z H
    exact OW.sub key (c z)
 ·have H := t
  generalize (!q) = h at H key ⊢
  cases h
  ·have H := aN z H
   refine C [.fa 26 1 1 lz] z <| G z (r1 1 0 z mZ z) <| C [.lenS 24 9 eo] z <| bq H gQ (fun _ h f a => bc f h) z tt2 fun a H => A z <| A z <| ?_
   obtain rfl := Z H
   exact OW.sub key (c z)
  ·have H := aO z H
   refine C [.p, .p, .p, .p, .p, .p] z ?_
   obtain rfl := Z H
   exact OW.sub key (c z)
theorem zn (w) {L p0 r} (H : ji p0 = U r) (HS : Q w L [] w) (gT : (eGl Tryz.prog).rd w L () []) :
    Calls Tryz.prog 49 #[vS p0] w (fun en w' => ∃ v, en = .returned v ∧ ∃ a f c0 m k l c1 o, v = .tuple #[.agg #[S a f c0, S k l c1], B r.2] ∧ Q w L [W (V (aD) 123) m r.1.d_ [S a f c0], W (V (bC) 9) o r.1.f_ [S k l c1]] w') := by
 unfold ji at H
 refine ar Tryz.func49 z Tryz.ntmps49 z (HS) <| D <| bn z z z z el (fun _ => kp) fun M => A z <| nR <| A z <| bq H ON (fun _ k f a => It Tryz.lays145 f k (g gT f a)) z tt2 fun k H => C [.p, .p, .p, .p, .p, .p, .p] z <| P <| E <| D <| oPP z <| P <| cI H z ?_ ?_ <;> intro H
 ·exact D <| G z (bv [] [S N 0 0, S N 0 0] z z el Gv z Y z) <| sC 0 [S N 0 0, S N 0 0] [_, _] 0 z el z <| A z <| nT <| aS <| aP (fun _ h => St.pushNil (e := aD) (T := 123) h) <| aP (fun _ h => St.pushNil (e := bC) (T := 9) h) <| Z H ▸ xc 0 el z fun w' hw' => ⟨_, z, N, 0, 0, [], N, 0, 0, [], z, hw'.sel [1, 2] z z⟩
 ·refine ai <| R <| D <| A z <| d H fun k l H => aq z Nu z z z z (fun f a => qo f l (a.carve [] z z)) fun l f w2 a m => ?_
  obtain ⟨o, l, s, a7, rfl, l⟩ := m
  obtain rfl := aL (i := 0) l z
  refine ⟨Q w L [_, _], a.comp [] z z l, fun _ _ => Y, ?_⟩
  refine G z (bv [(1, [S o k.length s])] [S N 0 0, S o k.length s] z z el Gv z ⟨z, z, nl z, Y⟩ z) <| bn z z z z el (fun _ => kp) fun a2 => sC 0 [S N 0 0, S o k.length s] [_, _] 2 z el z <| P <| E <| D <| A z <| d H fun m l H => aq z Nu z z z z (fun f a => qo f l (a.carve [] z z)) fun l f w2 a t => ?_
  obtain ⟨a3, l, a4, a6, rfl, l⟩ := t
  obtain rfl := aL (i := 0) l z
  refine ⟨Q w L [_, _, _, _], a.comp [] z z l, fun _ _ => Y, ?_⟩
  refine C [.lenS 24 9 eo, .p] z <| P <| an <| CW.weak ?_ (fun _ h => St.pushNil (e := aD) (T := 123) h)
  refine CW.at (lq (fun (F : Int) (l : List ap) (t : Option Addr) (u : Nat) (X : List Nat) => Q w L [b M 26 [S N 0 0, S N 0 0], W (V (bC) 9) a6 m [S a3 m.length a4], b a2 26 [S t l.length u, S o k.length s], W (V (aD) 123) X l [S t l.length u], W (V (bC) 9) a7 k [S o k.length s]]) (fun F l t u X => [(2, O (U ⟨M, 0, N⟩)), (7, O (U ⟨a2, 0, N⟩)), (25, S a3 m.length a4), (26, I J (m.length : Int)), (27, I J F)]) (fun kk => fun F l t u X => cH m k kk F l = U r) nofun (fun m a8 F l t u X H => ?_) aI (0) (([] : List ap)) (N) (0) ([]) (H)) (ss [0, 3, 2, 4, 1] z z) (c z)
  unfold cH at H
  refine D <| A z <| P <| E <| cI H z ?_ ?_ <;> intro H
  ·refine ai <| R <| E <| an <| D <| d H fun m m H => ix1 eo ty9 (fun f a => av (e := V (bC) 9) (r := 1) z f a) m z z <| A z <| nR <| A z <| d H fun m M H => aq z Tj z z z z (fun f a => CN f M (a.carve [] z z) (g gT f a)) fun M f w2 a a6 => ?_
   obtain ⟨a2, M, a3, M, a4, M, a5, M, rfl, M⟩ := a6
   obtain rfl := aL (i := 0) M z
   obtain rfl := aL (i := 1) M z
   refine ⟨Q w L [_, _, _, _, _, _, _], a.comp [] z z M, fun _ _ => Y, ?_⟩
   refine C [.p, .p, .p] z <| bn z z z z cf (fun _ => kp) fun M => sC 0 [vS m.1.D_, S a2 m.1.x_.length a3, S a4 m.1.F_.length a5] [_, _, _] 7 z cf z <| A z <| P <| E <| D <| oPP z <| P <| cI H z ?_ ?_ <;> intro H
   ·exact D <| G z (bv [] [S N 0 0, S N 0 0] z z el Gv z Y z) <| sC 0 [S N 0 0, S N 0 0] [_, _] 0 z el z <| A z <| nT <| aS <| cR <| aS <| lU <| cR <| aS <| aP (fun _ h => St.pushNil (e := aD) (T := 123) h) <| aP (fun _ h => St.pushNil (e := bC) (T := 9) h) <| Z H ▸ xc 0 el z fun w' hw' => ⟨_, z, N, 0, 0, [], N, 0, 0, [], z, hw'.sel [8, 9] z z⟩
   ·refine ai <| R <| aH <| C [.fa 26 0 0 fu] z <| G z (r1 0 2 z nv z) <| G z (rx 0 7 _ z cf z) <| Eo z (fun f a => rR (x0 := m.1.D_) [5, 6] a z z) fun M => jM (C' := Q w L [_, _, _, _, _, _, _, _, _]) z (fun _ h => h) <| gZ [(0, [vS m.1.D_, S a2 m.1.x_.length a3, S a4 m.1.F_.length a5])] z z z z z jN cf z z ⟨z, z, nl z, Y⟩ [vS m.1.D_, S a2 m.1.x_.length a3, S a4 m.1.F_.length a5] z (fun _ => kp) fun m => jM z (fun _ h => CL (p := 9) (q := 8) h z z z) <| d H fun m M H => pF (r := 3) (j := 10) z z z z z z jN cf z z z z z z z M (fun _ _ _ => kp) fun M a2 a3 => C [.fa 26 0 0 fu] z <| sC 0 [S M m.length a2] [_, _] 2 z nv z <| ay <| bR <| R <| CW.weak (C' := Q w L [_, _, _, _, _, _]) ?_ (ss [0, 1, 2, 4, 7, 11] z z)
    exact aH <| oPP z <| ay <| bU (RW.at (a8 (J.wrap (F + 1)) (m) (M) (a2) (a3) (H)) (ss [0, 1, 2, 5, 3] z z) (c z))
  ·refine aU <| aB <| aE <| aA <| R <| E <| D <| G z (rx 0 2 _ z el z) <| bq H BB (fun _ m f a => hY f m (aw (x := (aj.mk l k)) (c0 := [S t l.length u]) (c1 := [S o k.length s]) (av (e := V (aD) 123) (r := 3) z f a) (av (e := V (bC) 9) (r := 4) z f a))) z tt2 fun a H => A z <| P <| cI H z ?_ ?_ <;> intro H
   ·exact D <| G z (bv [] [S N 0 0, S N 0 0] z z el Gv z Y z) <| sC 0 [S N 0 0, S N 0 0] [_, _] 0 z el z <| A z <| nT <| aS <| aP (fun _ h => St.pushNil (e := aD) (T := 123) h) <| aP (fun _ h => St.pushNil (e := bC) (T := 9) h) <| Z H ▸ xc 0 el z fun w' hw' => ⟨_, z, N, 0, 0, [], N, 0, 0, [], z, hw'.sel [5, 6] z z⟩
   ·exact ai <| R <| D <| G z (rx 0 2 _ z el z) <| sC 0 [S t l.length u, S o k.length s] [_, _] 0 z el z <| A z <| nT <| Z H ▸ xc 0 el z fun w' hw' => ⟨_, z, t, l.length, u, X, o, k.length, s, a7, z, hw'.sel [3, 4] z z⟩
theorem BS (w) {p0 p1 a e f r} (H : nf p0 p1 = U r) (i : (V e8 5).rd w [] p0 [S a e f]) :
    Calls Tryz.prog 101 #[S a e f, I J p1] w (fun en w' => en = .returned (.tuple #[I J r.1, I J r.2.1, B r.2.2]) ∧ Ext [] w w') := by
 obtain rfl := dc i
 unfold nf at H
 refine ar Tryz.func101 z Tryz.ntmps101 z (St.init w []) <| D <| C [.p, .p, .p] z <| nR <| oPP z <| bq H PZ (fun _ a f h => vt f a (g i f h)) z tt2 fun a H => C [.p, .p, .p, .p, .p, .p, .p] z <| nR <| C [.p, .p, .p] z <| P <| yB (fun (e : Int) => Q w [] []) (fun e => [(8, I J a.2.1), (9, B a.2.2), (10, I J e)]) (fun e => kR a e = U r) (fun e H => ?_) (fun j => ?_)
 ·unfold kR at H
  refine E <| D <| C [.p, .p, .p] z <| d H fun k i H => cu2 [(8, I J a.2.1), (10, I J e)] [(28, B (!a.2.2))] 4 (32, B k) z ?_ fun key => ?_
  ·refine P <| cI H z ?_ ?_ <;> intro H
   ·exact D <| C [.p, .p, .p] z <| nT <| Z H ▸ xw z
   ·exact ai <| R <| D <| C [.p, .p, .p, .p, .p] z <| nT <| Z H ▸ xw z
  ·have H := i
   generalize (!a.2.2) = e at H key ⊢
   cases e
   ·have H := aN z H
    refine A z <| bq H gQ (fun _ e f h => bc f e) z tt2 fun e H => A z <| A z <| ?_
    obtain rfl := Z H
    exact OW.sub key (c z)
   ·have H := aO z H
    refine C [.p, .p, .p, .p] z ?_
    obtain rfl := Z H
    exact OW.sub key (c z)
 ·refine D <| C [.p, .p, .p] z <| P <| cI H z ?_ ?_ <;> intro H
  ·exact aH <| C [.p, .p, .p, .p] z <| ay <| XW.at (j (J.wrap ((J.wrap (0 - (J.wrap (Int.tdiv a.1 2)))) - 1)) (H)) (ss [] z z) (c z)
  ·exact ai <| XW.at (j (J.wrap (Int.tdiv a.1 2)) (H)) (ss [] z z) (c z)
theorem bo (w) {e p0b p0 a a_p0b n_p0b c_p0b r} (H : aM p0b p0 = U r) (HS : Q w e [b a 96 [S a_p0b p0b.length c_p0b, I J p0.c_, B p0.C_]] w) (g_p0b : (V e8 5).rd w e p0b [S a_p0b n_p0b c_p0b]) :
    Calls Tryz.prog 50 #[O (U ⟨a, 0, N⟩)] w (fun en w' => ∃ v, en = .returned v ∧ v = I J r.1 ∧ Q w e [b a 96 [S a_p0b n_p0b c_p0b, I J r.2.c_, B r.2.C_]] w') := by
 obtain rfl := dc g_p0b
 unfold aM at H
 refine ar Tryz.func50 z Tryz.ntmps50 z (HS) <| D <| A z <| P <| E <| D <| C [.p, .p, .fa 96 2 2 qS] z <| G z (r1 2 0 z ty4 z) <| P <| cI H z ?_ ?_ <;> intro H
 ·exact D <| A z <| nT <| aS <| Z H ▸ xo z fun w' hw' => ⟨_, z, z, hw'.sel [0] z z⟩
 ·refine ai <| R <| E <| dP dC (by kernel_rfl) <| C [.p, .p, .fa 96 0 0 Mo] z <| G z (r1 0 0 z GK z) <| C [.p, .p, .fa 96 1 1 HH] z <| G z (r1 1 0 z ty3 z) <| bq H Rx (fun _ a e f => BS e a (g g_p0b e f)) z tt2 fun a H => C [.p, .p, .p, .p, .p, .p, .p] z <| cQ <| R <| E <| D <| oPP z <| P <| cI H z ?_ ?_ <;> intro H
  ·exact D <| C [.p, .p, .fa 96 2 2 qS] z <| sC 2 [B y] [_, _, _] 0 z ty4 z <| nR <| A z <| nT <| aS <| Z H ▸ xo z fun w' hw' => ⟨_, z, z, hw'.sel [0] z z⟩
  ·exact ai <| R <| D <| C [.p, .p, .p, .fa 96 1 1 HH] z <| sC 1 [I J a.2.1] [_, _, _] 0 z ty3 z <| nR <| oPP z <| nT <| Z H ▸ xo z fun w' hw' => ⟨_, z, z, hw'.sel [0] z z⟩
theorem nL (w) {h p0b p0 e a_p0b n_p0b c_p0b r} (H : eJ p0b p0 = U r) (HS : Q w h [b e 96 [S a_p0b p0b.length c_p0b, I J p0.c_, B p0.C_]] w) (g_p0b : (V e8 5).rd w h p0b [S a_p0b n_p0b c_p0b]) :
    Calls Tryz.prog 51 #[O (U ⟨e, 0, N⟩)] w (fun en w' => ∃ v, en = .returned v ∧ v = B r.1 ∧ Q w h [b e 96 [S a_p0b n_p0b c_p0b, I J r.2.c_, B r.2.C_]] w') := by
 obtain rfl := dc g_p0b
 unfold eJ at H
 refine ar Tryz.func51 z Tryz.ntmps51 z (HS) <| D <| A z <| nR <| A z <| d H fun a i H => aq z ry z z z z (fun j f => bo j i (f.carve [0] z z) (rdB [0] z z f g_p0b)) fun i j i f i => ?_
 obtain ⟨rfl, j⟩ := i
 refine ⟨Q w h [_, _], f.comp [0] z z j, fun _ _ => Y, ?_⟩
 refine A z <| nR <| C [.p, .p, .p, .fa 96 2 2 qS] z <| G z (r1 2 1 z ty4 z) <| A z <| cu2 [(0, O (U ⟨e, 0, N⟩)), (3, I J a.1), (6, O (U ⟨e, 0, N⟩))] [(11, B a.2.C_)] 7 (18, B (a.2.C_ || ((a.1 != 0) && (a.1 != 1)))) z ?_ fun key => ?_
 ·exact C [.p, .fa 96 2 2 qS] z <| sC 2 [B (a.2.C_ || ((a.1 != 0) && (a.1 != 1)))] [_, _, _] 1 z ty4 z <| nR <| C [.p, .p, .p] z <| nT <| Z H ▸ xo z fun w' hw' => ⟨_, z, z, hw'.sel [1] z z⟩
 ·generalize a.2.C_ = f at key ⊢
  cases f
  ·refine C [.p, .p, .p] z <| cu2 [(0, O (U ⟨e, 0, N⟩)), (3, I J a.1), (6, O (U ⟨e, 0, N⟩)), (11, B n)] [(14, B (a.1 != 0))] 3 (17, B ((a.1 != 0) && (a.1 != 1))) z ?_ fun key => ?_
   ·exact A z <| OW.sub key (c z)
   ·generalize (a.1 != 0) = a at key ⊢
    cases a
    ·exact C [.p, .p, .p] z <| OW.sub key (c z)
    ·exact oPP z <| A z <| OW.sub key (c z)
  ·exact C [.p, .p, .p, .p, .p, .p, .p] z <| OW.sub key (c z)
theorem vr (w) {p0 r} (H : pb p0 = U r) :
    Calls Tryz.prog 102 #[.agg #[I J p0.L_, I J p0.N_, I J p0.M_, I J p0.h_, I J p0.e_, I J p0.E_, B p0.Q_]] w (fun en w' => en = .returned (B r) ∧ Ext [] w w') := by
 unfold pb at H
 refine ar Tryz.func102 z Tryz.ntmps102 z (St.init w []) <| D <| ob _ z fun e => A z <| nR <| C [.fa 28 0 0 xi] z <| G z (r1 0 0 z ty3 z) <| bq H gQ (fun _ h a f => bc a h) z tt2 fun l H => A z <| d H fun h m H => cu2 [(1, O (U ⟨e, 0, N⟩)), (2, B n)] [(6, B l)] 4 (10, B h) z ?_ fun key => ?_
 ·refine A z <| d H fun i o H => cu2 [(1, O (U ⟨e, 0, N⟩)), (2, B n)] [(11, B h)] 4 (15, B i) z ?_ fun key => ?_
  ·refine A z <| d H fun j q H => cu2 [(1, O (U ⟨e, 0, N⟩)), (2, B n)] [(16, B i)] 4 (20, B j) z ?_ fun key => ?_
   ·refine A z <| d H fun k s H => cu2 [(1, O (U ⟨e, 0, N⟩)), (2, B n)] [(21, B j)] 4 (25, B k) z ?_ fun key => ?_
    ·refine A z <| d H fun u t H => cu2 [(2, B n)] [(1, O (U ⟨e, 0, N⟩)), (26, B k)] 4 (30, B u) z ?_ fun key => ?_
     ·exact A z <| nT <| Z H ▸ xw z
     ·have H := t
      generalize k = e at H key ⊢
      cases e
      ·have H := aN z H
       refine C [.p, .p, .p, .p] z ?_
       obtain rfl := Z H
       exact OW.sub key (c z)
      ·have H := aO z H
       refine C [.fa 28 5 5 ul] z <| G z (r1 5 0 z ty3 z) <| bq H gQ (fun _ e a f => bc a e) z tt2 fun e H => A z <| ?_
       obtain rfl := Z H
       exact OW.sub key (c z)
    ·have H := s
     generalize j = e at H key ⊢
     cases e
     ·have H := aN z H
      refine C [.p, .p, .p, .p] z ?_
      obtain rfl := Z H
      exact OW.sub key (c z)
     ·have H := aO z H
      refine C [.fa 28 4 4 ut] z <| G z (r1 4 0 z ty3 z) <| bq H gQ (fun _ e a f => bc a e) z tt2 fun e H => A z <| ?_
      obtain rfl := Z H
      exact OW.sub key (c z)
   ·have H := q
    generalize i = e at H key ⊢
    cases e
    ·have H := aN z H
     refine C [.p, .p, .p, .p] z ?_
     obtain rfl := Z H
     exact OW.sub key (c z)
    ·have H := aO z H
     refine C [.fa 28 3 3 un] z <| G z (r1 3 0 z ty3 z) <| bq H gQ (fun _ e a f => bc a e) z tt2 fun e H => A z <| ?_
     obtain rfl := Z H
     exact OW.sub key (c z)
  ·have H := o
   generalize h = e at H key ⊢
   cases e
   ·have H := aN z H
    refine C [.p, .p, .p, .p] z ?_
    obtain rfl := Z H
    exact OW.sub key (c z)
   ·have H := aO z H
    refine C [.fa 28 2 2 wC] z <| G z (r1 2 0 z ty3 z) <| bq H gQ (fun _ e a f => bc a e) z tt2 fun e H => A z <| ?_
    obtain rfl := Z H
    exact OW.sub key (c z)
 ·have H := m
  generalize l = e at H key ⊢
  cases e
  ·have H := aN z H
   refine C [.p, .p, .p, .p] z ?_
   obtain rfl := Z H
   exact OW.sub key (c z)
  ·have H := aO z H
   refine C [.fa 28 1 1 wX] z <| G z (r1 1 0 z ty3 z) <| bq H gQ (fun _ e a f => bc a e) z tt2 fun a H => A z <| ?_
   obtain rfl := Z H
   exact OW.sub key (c z)
theorem wT (w) {f p0 r} (H : lW p0 = U r) (HS : Q w f [] w) :
    Calls Tryz.prog 104 #[I J p0] w (fun en w' => ∃ v, en = .returned v ∧ ∃ a i c0 j, v = S a i c0 ∧ a.isNone = r.2 ∧ Q w f [W (V eI 3) j r.1 [S a i c0]] w') := by
 unfold lW at H
 refine ar Tryz.func104 z Tryz.ntmps104 z (HS) <| D <| A z <| P <| E <| D <| A z <| P <| an <| D <| oPP z <| P <| cI H z ?_ ?_ <;> intro H
 ·exact D <| cF (val := I J) (h1 := fun _ => z) [24109, 48218, 60273, 64291, 65296, 65497, 65530] [(0, [I J 24109]), (1, [I J 48218]), (2, [I J 60273]), (3, [I J 64291]), (4, [I J 65296]), (5, [I J 65497]), (6, [I J 65530])] z z z z z bB ty3 z z z ⟨z, z, nl z, z, z, nl z, z, z, nl z, z, z, nl z, z, z, nl z, z, z, nl z, z, z, nl z, Y⟩ z z (fun _ => kp) fun a => A z <| nT <| cR <| aS <| Z H ▸ xo z fun w' hw' => ⟨_, z, (U ⟨a, 0, N⟩), (([24109, 48218, 60273, 64291, 65296, 65497, 65530] : List Int).length), 7, [a], z, z, hw'.sel [0] z z⟩
 ·refine D <| oPP z <| P <| cI H z ?_ ?_ <;> intro H
  ·exact D <| cF (val := I J) (h1 := fun _ => z) [162, 1137, 4061, 9909, 18681, 29208, 39734] [(0, [I J 162]), (1, [I J 1137]), (2, [I J 4061]), (3, [I J 9909]), (4, [I J 18681]), (5, [I J 29208]), (6, [I J 39734])] z z z z z bB ty3 z z z ⟨z, z, nl z, z, z, nl z, z, z, nl z, z, z, nl z, z, z, nl z, z, z, nl z, z, z, nl z, Y⟩ z z (fun _ => kp) fun a => A z <| nT <| cR <| aS <| Z H ▸ xo z fun w' hw' => ⟨_, z, (U ⟨a, 0, N⟩), (([162, 1137, 4061, 9909, 18681, 29208, 39734] : List Int).length), 7, [a], z, z, hw'.sel [0] z z⟩
  ·exact ai <| bR <| R <| D <| A z <| nT <| aP (fun _ h => St.pushNil (e := eI) (T := 3) h) <| Z H ▸ xo z fun w' hw' => ⟨_, z, N, 0, 0, [], z, z, hw'.sel [0] z z⟩
theorem sv (w) {p0 a r} (H : ll p0 = U r) (e : (dA).rd w [] p0 a) :
    Calls Tryz.prog 52 #[.agg a.toArray] w (fun en w' => en = .returned (B r) ∧ Ext [] w w') := by
 obtain ⟨a, a, a, a, rfl, h, j⟩ := dV e
 unfold ll at H
 refine ar Tryz.func52 z Tryz.ntmps52 z (St.init w []) <| D <| ob _ z fun f => A z <| nR <| C [.fa 30 0 0 mr] z <| G z (rx 0 0 _ z el z) <| bq H BB (fun _ k e a => hY e k (aw (g h e a) (g j e a))) z tt2 fun q H => A z <| d H fun j s H => cu2 [(1, O (U ⟨f, 0, N⟩)), (2, B n)] [(6, B q)] 4 (10, B j) z ?_ fun key => ?_
 ·refine A z <| d H fun k t H => cu2 [(1, O (U ⟨f, 0, N⟩)), (2, B n)] [(11, B j)] 4 (15, B k) z ?_ fun key => ?_
  ·refine A z <| d H fun l u H => cu2 [(1, O (U ⟨f, 0, N⟩)), (2, B n)] [(16, B k)] 8 (24, B l) z ?_ fun key => ?_
   ·refine A z <| d H fun m v H => cu2 [(1, O (U ⟨f, 0, N⟩)), (2, B n)] [(25, B l)] 5 (30, B m) z ?_ fun key => ?_
    ·refine A z <| d H fun o x H => cu2 [(1, O (U ⟨f, 0, N⟩)), (2, B n)] [(31, B m)] 4 (35, B o) z ?_ fun key => ?_
     ·refine A z <| d H fun h F H => cu2 [(1, O (U ⟨f, 0, N⟩)), (2, B n)] [(36, B o)] 4 (40, B h) z ?_ fun key => ?_
      ·refine A z <| cu2 [(2, B n)] [(1, O (U ⟨f, 0, N⟩)), (41, B h)] 6 (47, B (h && (decide (p0.r_ ≤ p0.s_)))) z ?_ fun key => ?_
       ·exact A z <| nT <| Z H ▸ xw z
       ·generalize h = f at key ⊢
        cases f
        ·exact C [.p, .p, .p, .p, .p, .p] z <| OW.sub key (c z)
        ·exact C [.fa 30 5 12 ua] z <| G z (r1 12 0 z ty3 z) <| C [.fa 30 6 13 us] z <| G z (r1 13 0 z ty3 z) <| A z <| A z <| OW.sub key (c z)
      ·have H := F
       generalize o = f at H key ⊢
       cases f
       ·have H := aN z H
        refine C [.p, .p, .p, .p] z ?_
        obtain rfl := Z H
        exact OW.sub key (c z)
       ·have H := aO z H
        refine C [.fa 30 6 13 us] z <| G z (r1 13 0 z ty3 z) <| bq H gQ (fun _ f e a => bc e f) z tt2 fun f H => A z <| ?_
        obtain rfl := Z H
        exact OW.sub key (c z)
     ·have H := x
      generalize m = f at H key ⊢
      cases f
      ·have H := aN z H
       refine C [.p, .p, .p, .p] z ?_
       obtain rfl := Z H
       exact OW.sub key (c z)
      ·have H := aO z H
       refine C [.fa 30 5 12 ua] z <| G z (r1 12 0 z ty3 z) <| bq H gQ (fun _ f e a => bc e f) z tt2 fun f H => A z <| ?_
       obtain rfl := Z H
       exact OW.sub key (c z)
    ·have H := v
     generalize l = f at H key ⊢
     cases f
     ·have H := aN z H
      refine C [.p, .p, .p, .p, .p] z ?_
      obtain rfl := Z H
      exact OW.sub key (c z)
     ·have H := aO z H
      refine C [.fa 30 4 11 xh] z <| G z (r1 11 0 z ty3 z) <| d H fun f f H => aq z Rp z z z z (fun e a => wT e f (a.carve [] z z)) fun f e f a h => ?_
      obtain ⟨f, f, f, f, rfl, l, f⟩ := h
      obtain rfl := aL (i := 0) f z
      refine ⟨Q w [] [_, _], a.comp [] z z f, fun _ _ => Y, ?_⟩
      refine G z (LH z z bB l) <| jM z (C' := Q w [] [_]) (ss [0] z z) <| A z <| ?_
      obtain rfl := Z H
      exact OW.sub key (c z)
   ·have H := u
    generalize k = f at H key ⊢
    cases f
    ·have H := aN z H
     refine C [.p, .p, .p, .p, .p, .p, .p, .p] z ?_
     obtain rfl := Z H
     exact OW.sub key (c z)
    ·have H := aO z H
     refine C [.fa 30 3 10 wF] z <| G z (r1 10 0 z ty3 z) <| C [.fa 30 0 0 mr, .fa 26 0 0 fu] z <| G z (r1 0 0 z nv z) <| C [.lenS 23 123 jN] z <| bq H gQ (fun _ f e a => bc e f) z tt2 fun f H => A z <| ?_
     obtain rfl := Z H
     exact OW.sub key (c z)
  ·have H := t
   generalize j = f at H key ⊢
   cases f
   ·have H := aN z H
    refine C [.p, .p, .p, .p] z ?_
    obtain rfl := Z H
    exact OW.sub key (c z)
   ·have H := aO z H
    refine C [.fa 30 2 9 rV] z <| G z (r1 9 0 z ty3 z) <| bq H gQ (fun _ f e a => bc e f) z tt2 fun f H => A z <| ?_
    obtain rfl := Z H
    exact OW.sub key (c z)
 ·have H := s
  generalize q = f at H key ⊢
  cases f
  ·have H := aN z H
   refine C [.p, .p, .p, .p] z ?_
   obtain rfl := Z H
   exact OW.sub key (c z)
  ·have H := aO z H
   refine C [.fa 30 1 2 rK] z <| G z (rx 2 0 _ z uX z) <| bq H Ot (fun _ f e a => vr e (p0 := p0.b_) f) z tt2 fun a H => A z <| ?_
   obtain rfl := Z H
   exact OW.sub key (c z)
theorem iE (w) {h p0b p0 e a_p0b n_p0b c_p0b r} (H : bZ p0b p0 = U r) (HS : Q w h [b e 96 [S a_p0b p0b.length c_p0b, I J p0.c_, B p0.C_]] w) (g_p0b : (V e8 5).rd w h p0b [S a_p0b n_p0b c_p0b]) :
    Calls Tryz.prog 56 #[O (U ⟨e, 0, N⟩)] w (fun en w' => ∃ v, en = .returned v ∧ v = I J r.1 ∧ Q w h [b e 96 [S a_p0b n_p0b c_p0b, I J r.2.c_, B r.2.C_]] w') := by
 obtain rfl := dc g_p0b
 unfold bZ at H
 refine ar Tryz.func56 z Tryz.ntmps56 z (HS) <| D <| A z <| nR <| A z <| d H fun a i H => aq z ry z z z z (fun j f => bo j i (f.carve [0] z z) (rdB [0] z z f g_p0b)) fun i j i f i => ?_
 obtain ⟨rfl, j⟩ := i
 refine ⟨Q w h [_, _], f.comp [0] z z j, fun _ _ => Y, ?_⟩
 refine A z <| P <| E <| E <| dP dC (by kernel_rfl) <| C [.p, .p, .p] z <| cu2 [(0, O (U ⟨e, 0, N⟩)), (3, I J a.1)] [(8, B (decide (a.1 < 0)))] 13 (21, B ((decide (a.1 < 0)) || (decide (a.1 > (J.wrap ((p0b.length : Int) - a.2.c_)))))) z ?_ fun key => ?_
 ·refine cQ <| R <| cI H z ?_ ?_ <;> intro H
  ·exact D <| C [.p, .p, .fa 96 2 2 qS] z <| sC 2 [B y] [_, _, _] 1 z ty4 z <| nR <| A z <| nT <| aS <| Z H ▸ xo z fun w' hw' => ⟨_, z, z, hw'.sel [1] z z⟩
  ·exact ai <| R <| D <| oPP z <| nT <| Z H ▸ xo z fun w' hw' => ⟨_, z, z, hw'.sel [1] z z⟩
 ·generalize (decide (a.1 < 0)) = a at key ⊢
  cases a
  ·exact C [.p, .p, .p, .fa 96 0 0 Mo] z <| G z (r1 0 1 z GK z) <| C [.lenS 22 5 cC, .p, .p, .fa 96 1 1 HH] z <| G z (r1 1 1 z ty3 z) <| oPP z <| A z <| OW.sub key (c z)
  ·exact C [.p, .p, .p, .p, .p, .p, .p, .p, .p, .p, .p, .p, .p] z <| OW.sub key (c z)
theorem gH (w) {t p0b p0 m a_p0b n_p0b c_p0b r} (H : cK p0b p0 = U r) (HS : Q w t [b m 96 [S a_p0b p0b.length c_p0b, I J p0.c_, B p0.C_]] w) (g_p0b : (V e8 5).rd w t p0b [S a_p0b n_p0b c_p0b]) :
    Calls Tryz.prog 55 #[O (U ⟨m, 0, N⟩)] w (fun en w' => ∃ v, en = .returned v ∧ ∃ a f c0 j, v = S a f c0 ∧ Q w t [W (V eI 3) j r.1 [S a f c0], b m 96 [S a_p0b n_p0b c_p0b, I J r.2.c_, B r.2.C_]] w') := by
 obtain rfl := dc g_p0b
 unfold cK at H
 refine ar Tryz.func55 z Tryz.ntmps55 z (HS) <| D <| A z <| nR <| A z <| P <| E <| D <| A z <| d H fun x f H => aq z KL z z z z (fun u a => iE u f (a.carve [0] z z) (rdB [0] z z a g_p0b)) fun f u L a f => ?_
 obtain ⟨rfl, j⟩ := f
 refine ⟨Q w t [_, _], a.comp [0] z z j, fun _ _ => Y, ?_⟩
 refine A z <| P <| an <| CW.weak ?_ (fun _ h => St.pushNil (e := eI) (T := 3) h)
 refine CW.at (wQ (fun (q : Int) (o : Bool) (j : List Int) (k : Option Addr) (l : Nat) (s : List Nat) (f : Int) => Q w t [b m 96 [S a_p0b p0b.length c_p0b, I J q, B o], W (V eI 3) s j [S k j.length l]]) (fun q o j k l s f => [(0, O (U ⟨m, 0, N⟩)), (3, S k j.length l), (4, I J f)]) (fun kk => fun q o j k l s f => iU p0b kk q o j f = U r) nofun (fun F F q o j k l s f H => ?_) aI (x.2.c_) (x.2.C_) (([] : List Int)) (N) (0) ([]) (x.1) (H)) (ss [1, 2] z z) (c z)
 unfold iU at H
 refine E <| D <| C [.p, .p, .p] z <| cu2 [(0, O (U ⟨m, 0, N⟩)), (3, S k j.length l), (4, I J f)] [(9, B (decide (f > 0)))] 6 (15, B ((decide (f > 0)) && (!o))) z ?_ fun key => ?_
 ·refine P <| cI H z ?_ ?_ <;> intro H
  ·refine ai <| R <| E <| an <| aH <| oPP z <| d H fun m o H => aq z ry z z z z (fun u a => bo u o (a.carve [0] z z) (rdB [0] z z a g_p0b)) fun o u L a o => ?_
   obtain ⟨rfl, q⟩ := o
   refine ⟨Q w t [_, _, _], a.comp [0] z z q, fun _ _ => Y, ?_⟩
   exact cF (val := I J) (h1 := fun _ => z) [m.1] [(0, [I J m.1])] z z z z z bB ty3 z z z ⟨z, z, nl z, Y⟩ z z (fun _ => kp) fun o => d H fun q o H => cq (r := 1) (ys := ([m.1] : List Int)) z z z z z z bB ty3 z z z (av (e := V eI 3) (r := 3) z) o (fun _ _ _ => kp) fun t x L => eF z (fun u a => kK (i := 1) a z (kC o)) fun a => A z <| ay <| bR <| R <| aH <| C [.p, .p, .p] z <| ay <| bU (RW.at (F (m.2.c_) (m.2.C_) (q) (t) (x) (L) (J.wrap (f - 1)) (H)) (ss [2, 1] z z) (c z))
  ·exact aU <| aB <| aE <| aA <| R <| D <| oPP z <| nT <| Z H ▸ xo z fun w' hw' => ⟨_, z, k, j.length, l, s, z, hw'.sel [1, 0] z z⟩
 ·generalize (decide (f > 0)) = a at key ⊢
  cases a
  ·exact C [.p, .p, .p, .p, .p, .p] z <| OW.sub key (c z)
  ·exact C [.p, .p, .fa 96 2 2 qS] z <| G z (r1 2 0 z ty4 z) <| A z <| A z <| OW.sub key (c z)
end Go.Vk
