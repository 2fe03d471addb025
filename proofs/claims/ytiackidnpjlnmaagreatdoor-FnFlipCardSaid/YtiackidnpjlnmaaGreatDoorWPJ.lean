/- The code does what the functions of data say. Printed by program. -/
import Derived.Test.YtiackidnpjlnmaaGreatDoorWPI
namespace Go.Vk
open Go.Proofs.Tryz
open Go.Proofs.Tryz renaming prog → o
open Go.Vk renaming iV → A, oP → C, sR → D, aa → G, sL → P, Res → Q, ab → V, ai → Z, u2 → E, nQ → c, u1 → d, St → g, oR → l, oPP → m
open Value renaming int → I, slice → S, pointer → O, bool → B
open IntKind renaming i64 → J, u8 → K
open Bool renaming true → y, false → n
open Option renaming some → U, none → N
open Res renaming box → b, own → W
open Go.Proofs Go.RowKit
set_option maxHeartbeats 4000000
set_option maxRecDepth 100000
theorem If (w) {p0 s F t r} (H:zM p0=U r) (q:eL8.rd w [] p0 [S s F t]) (gT:(eGl o).rd w [] () []) :
    Cq 3 [S s F t] w (B r):=by
 obtain rfl:=dz q;refine fe0 func3 ntmps3 z<|D<|C z<|c<|Z<|D<|C z<|bQ H func4 (fun _ b1 f a=>Ln f b1 (V q f a)) z tt2 fun e9 H=>cR H z fun H=>ck<|D<|C z<|oV5 [] H func5 (fun L f a=>yr f L (a.carve [] z z) (V q f a)) z (fun _ _ _ _ _ _ _ _ _ _ _ _ _ _ _ _=>(z:_=u5)) kh5 fun f0 L H f1 f2 f3 f4 f5 f6 f7 f8 f9 g1 g2 g3 g4 g5 g6=>oA gB z fun g7=>sD 0 u17 u17 5 gB z<|nR<|oX 0 5 gB z<|oV1 [] H func6 (fun M f a=>wD f M (a.carve [] z z) (qR (c0:=u14) (c1:=d) (c2:=E) (bt (c0:=E) (c1:=u7) (c2:=d) (c3:=d) (c4:=d) (c5:=d) (c6:=d) (ah (c0:=d) (c1:=d) (au (e:=cn) (r:=0) z f a) (au (e:=eLS) (r:=1) z f a)) z z z z z z) (eZ (c0:=d) (au (e:=bB) (r:=2) z f a)) (ez (c0:=d) (c1:=d) (au (e:=aY) (r:=3) z f a) (au (e:=bx) (r:=4) z f a))) (V gT f a)) z (fun _ _ _ _=>(z:_=u7)) kh1 fun k M H R X b2=>C z<|c<|Z<|D<|oX 0 5 gB z<|bQ H func7 (fun _ b3 f a=>Fs f b3 (qR (c0:=u14) (c1:=d) (c2:=E) (bt (c0:=E) (c1:=u7) (c2:=d) (c3:=d) (c4:=d) (c5:=d) (c6:=d) (ah (c0:=d) (c1:=d) (au (e:=cn) (r:=0) z f a) (au (e:=eLS) (r:=1) z f a)) z z z z z z) (eZ (c0:=d) (au (e:=bB) (r:=2) z f a)) (ez (c0:=d) (c1:=d) (au (e:=aY) (r:=3) z f a) (au (e:=bx) (r:=4) z f a)))) z tt2 fun g8 H=>C z<|cJ H z (fun H=>D<|G [.p,.lenS 22 5 iX,.p,.p] z<|nT<|af H▸xw z) fun H=>ck<|Z<|D<|G [.p,.lenS 22 5 iX,.p] z<|cR H z fun H=>ck<|Z<|D<|C z<|c<|aI<|lp [Int] (fun h=>[W eL8 b2 k [P R k X]]) (fun h=>[(0,P s p0 t),(4,P R k X),(5,A h)]) (fun kk h=>ji k p0 kk h=U r) [6] (fun k1 a0 h H=>?_) ⟨_,H,z⟩;refine Z<|D<|m z<|cJ H z ?_ ?_<;>intro H
 ·refine ck<|cb<|D<|bN (e:=e8) z z z z iX ty5 kf fun b4=>C z<|bE H fun a1 a2 H=>cr (r:=1) (ys:=k) z z z z z z iX ty5 z z z (au (e:=eL8) (r:=0) z) a2 kg fun b5 b6 b7=>C z<|nR<|m z<|bQ H func8 (fun _ a3 f a=>wR f a3 (V q f a)) z tt2 fun b8 H=>oN 4 z<|bQ H func8 (fun _ a4 f a=>wR f a4 (V q f a)) z tt2 fun b9 H=>oN 5 z<|bQ H func8 (fun _ a5 f a=>wR f a5 (V q f a)) z tt2 fun c7 H=>G [.p,.p,.lenS 22 5 iX] z<|bE H fun u a6 H=>o1 z (xH z z z a6)<|C z<|c<|Z<|xG 13 br (by kernel_rfl)<|oN 4 z<|bE H fun c8 a7 H=>ix1 iX ty5 (au (e:=eL8) (r:=1) z) a7 z z<|oN 3 z<|bQ H func8 (fun _ a8 f a=>wR f a8 (V q f a)) z tt2 fun c9 H=>bE H fun d0 a9 H=>?_
  exact oq z (qc z (iF func9 z) (fun f a=>Mg f a9)) tt2<|C z<|bE H fun d1 v H=>eO (e:=e8) (xs:=a1) (j:=u) z z z z z iX ty5 z (au (e:=eL8) (r:=1) z) v (by rw [Nat.mul_one])<|cy<|kL (i:=1) (j:=u) z z z z z z ty5 z v (fun _=>z) kp<|nR<|C z<|oV5 [] H func10 (fun x f a=>FF f x (a.carve [] z z) (au (e:=eL8) (r:=1) z f a) (V gT f a)) z (fun _ _ _ _ _ _ _ _ _ _ _ _ _ _ _ _=>(z:_=u7)) kh5 fun b0 x H d2 d3 d4 d5 d6 d7 d8 d9 e0 e1 e2 e3 e4 e5 e6=>oN 3 z<|oA gB z fun e7=>sD 0 u17 u17 7 gB z<|C z<|nR<|oN 3 z<|jR [0,4,5,8] u4 3 70 6 76 6 ((b0.1.ab_.u_.length:Int) != 0) z z (fun key=>G [.fa 40 1 14 Bw,.fa 34 0 0 ka] z<|l 14 7 tu z<|G [.lenS 32 66 sQ,.p] z<|C z<|oK key z)<|cR H z fun H=>bJ<|xb<|av<|oN 3 z<|ap<|iA [0] (a0 H) z
 exact ce<|bH<|D<|C z<|nT<|af H▸xw z
end Go.Vk
