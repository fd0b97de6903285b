/- A part of the proof. -/
import Derived.Test.YtmndpgfbkicndaaCa3
import Derived.Shelf.GgSortFunc.RowK
import Derived.Shelf.SlSortCmp.WholeK
import Derived.Shelf.SlGeneric
import Derived.Ground.SlsfProg
import Derived.Test.YtmndpgfbkicndaaProg
import Derived.Shelf.SlSortCmp.NoneTotal
import Derived.Shelf.SlicesE.Delete
import Derived.Ground.SlgnProg
import Derived.Lib.Overlaps
import Derived.Ground.Names2Prog
import Derived.Shelf.Spec.SlicesInsert
import Derived.Shelf.Spec.SlicesInsertGrow
set_option linter.all false
section
open Go Go.Ab Go.Ab.W
abbrev Vm(m:Vn)(v0:Value):Value->Vn->Prop:=fun v m'=>∃x:VC,v=v0/\Hp m m' []
end
namespace Go.Proofs.Ytmndpgfbkicndaa
open Go Go.Ab Go.Ab.W
def Oa(n:Nat)(x1:Int)(x2:Int):VA Bool :=
br (decide (mi x1 x2 < -1000000)) (
some true) (
some (decide (1000000<ma x1 x2)))
def zb(n:Nat)(l1:VB (Int)):(Int×Int)->VA ((Int×Int)⊕Int):=fun(v14,v15) =>
br (decide (v15<(l1.length:Int))) (
gd (cz v15 l1.length) (
ob (l1[v15.toNat]?) fun x25 =>
some (.inl (mi v14 x25,UE (v15+1))))) (
some (.inr v14))
def N2(n:Nat)(l1:VB (Int)):VA Int :=
br (decide ((l1.length:Int)<1)) (
none) (
gd (cz 0 l1.length) (
ob (l1[UF]?) fun x10 =>
ob (
bK (zb n l1) n (x10,1)) fun v22 =>
some v22))
def yY(n:Nat)(l1:VB (Int)):(Int×Int)->VA ((Int×Int)⊕Int):=fun(v14,v15) =>
br (decide (v15<(l1.length:Int))) (
gd (cz v15 l1.length) (
ob (l1[v15.toNat]?) fun x25 =>
some (.inl (ma v14 x25,UE (v15+1))))) (
some (.inr v14))
def DW(n:Nat)(l1:VB (Int)):VA Int :=
br (decide ((l1.length:Int)<1)) (
none) (
gd (cz 0 l1.length) (
ob (l1[UF]?) fun x10 =>
ob (
bK (yY n l1) n (x10,1)) fun v22 =>
some v22))
def yK(n:Nat)(l12:VB (Int))(l1:Uu)(x16:Int):(Uu×Int)->VA ((Uu×Int)⊕Uu):=fun(l36,v38) =>
br (decide (v38<(l12.length:Int))) (
gd (cz v38 l12.length) (
ob (l12[v38.toNat]?) fun x64 =>
gd (cz x64 l1.length) (
ob (l1[x64.toNat]?) fun(x69,x70) =>
gd (cz x64 l1.length) (
gd (lim (l36++[(UE (x16*x69),UE (x16*x70))]).length) (
some (.inl ((l36++[(UE (x16*x69),UE (x16*x70))]),UE (v38+1)))))))) (
some (.inr l36))
def IY(n:Nat)(l1:Uu)(l5:Us)(l12:VB (Int))(x16:Int):VA Uu :=
ob (
bK (yK n l12 l1 x16) n (([]:Uu),0)) fun l58 =>
some l58
def KF(n:Nat)(x1:Int)(x2:Int):VA Bool :=
ob (some (ma (ma (ma x1 (UE (0-x1))) x2) (UE (0-x2)))) fun y4 =>
br (decide (1000000<y4)) (
some true) (
some (decide (mi x1 x2 < -1000000)))
def PR(n:Nat)(x1:Int):VA Bool :=
some (!decide (x1=x1))
def NX(n:Nat)(x1:Int)(x2:Int):VA Int :=
ob (PR n x1) fun r4 =>
ob (PR n x2) fun r6 =>
br (r4) (
br (r6) (
some 0) (
some (-1))) (
br (r6) (
some 1) (
br (decide (x1<x2)) (
some (-1)) (
br (decide (x2<x1)) (
some 1) (
some 0))))
def IZ(n:Nat)(x1:Int)(x2:Int)(x3:Int)(x4:Int)(x5:Int)(x6:Int):VA Int :=
ob (some (UE ((UE (x3-x1))*(UE (x6-x2))))) fun y10 =>
ob (some (UE ((UE (x4-x2))*(UE (x5-x1))))) fun y12 =>
ob (NX n y10 y12) fun r15 =>
some r15
def qW(n:Nat)(l1:VB (Int)):Int->VA (Int⊕Int⊕VC):=fun v6 =>
br (decide (v6<(l1.length:Int))) (
gd (cz v6 l1.length) (
ob (l1[v6.toNat]?) fun x20 =>
br (!decide (x20=0)) (
some (.inr (.inl x20))) (
some (.inl (UE (v6+1)))))) (
some (.inr (.inr ())))
def P4(n:Nat)(l1:VB (Int)):VA Int :=
ob (α:=(Int)⊕VC) (
bK (qW n l1) n 0) fun r24=>match r24 with
| .inl v15 =>
some v15
| .inr _ =>
some 0
def JH(n:Nat)(x1:Int)(x2:Int)(x3:Int)(x4:Int):VA Int :=
ob (NX n x1 x3) fun r8 =>
ob (NX n x2 x4) fun r10 =>
ob (P4 n ([r8,r10])) fun r13 =>
some r13
def N6(n:Nat)(x1:Int)(x2:Int)(x3:Int)(x4:Int)(x5:Int)(x6:Int)(x7:Int):VA Bool :=
ob (IZ n x2 x3 x4 x5 x6 x7) fun r11 =>
br (!decide (r11=0)) (
some false) (
ob (
ob (JH n x2 x3 x4 x5) fun r23 =>
br (decide (0<r23)) (
some (x4,x5,x2,x3)) (
some (x2,x3,x4,x5))) fun(v18,v19,v20,v21) =>
ob (JH n v18 v19 x6 x7) fun r28 =>
br (decide (r28<=0)) (
ob (JH n x6 x7 v20 v21) fun r31 =>
some (decide (r31<=0))) (
some false))
def qP(n:Nat)(x2:Int)(x10:Int)(x11:Int)(x5:Int)(x7:Int)(x8:Int)(x9:Int)(x12:Int)(x1:Int)(x6:Int):(VB ((Int×Int)×Bool)×Int)->VA ((VB ((Int×Int)×Bool)×Int) ⊕(VB ((Int×Int)×Bool))):=fun(l1,v0) =>
br (decide (v0<4)) (
ob (
gd (cz v0 4) (
ob ([(x2,x10),(x11,x5),(x7,x8),(x9,x12)][v0.toNat]?) fun(x3,x4) =>
ob (
ob (N6 n x1 x2 x10 x11 x5 x3 x4) fun r0 =>
br (r0) (
ob (N6 n x6 x7 x8 x9 x12 x3 x4) fun r1 =>
some r1) (
some false)) fun v1 =>
br (v1) (
some (iW l1 (x3,x4) true)) (
some l1))) fun l2 =>
some (.inl (l2,UE (v0+1)))) (
some (.inr l1))
def N5(n:Nat)(x1:Int)(x2:Int)(x3:Int)(x4:Int)(x5:Int)(x6:Int)(x7:Int)(x8:Int)(x9:Int)(x10:Int):VA Int :=
ob (IZ n x2 x3 x4 x5 x7 x8) fun r0 =>
ob (IZ n x2 x3 x4 x5 x9 x10) fun r1 =>
ob (IZ n x7 x8 x9 x10 x2 x3) fun r3 =>
ob (IZ n x7 x8 x9 x10 x4 x5) fun r4 =>
ob (
bK (qP n x2 x3 x4 x5 x7 x8 x9 x10 x1 x6) n (([]:VB ((Int×Int)×Bool)),0)) fun l1 =>
ob (some (l1.length)) fun y0 =>
br (decide (1<(y0:Int))) (
some 3) (
ob (some (l1.length)) fun y1 =>
br (decide ((y1:Int)=1)) (
some 1) (
ob (
br (decide (UE (r0*r1)<0)) (
some (decide (UE (r3*r4)<0))) (
some false)) fun v0 =>
br (v0) (
some 2) (
some 0)))
def yU(n:Nat)(l1:Uu):Int->VA (Int⊕Int⊕VC):=fun v49 =>
br (decide (v49<(l1.length:Int))) (
gd (cz v49 l1.length) (
ob (l1[v49.toNat]?) fun(x66,x67) =>
ob (KF n x66 x67) fun r70 =>
br (r70) (
some (.inr (.inl v49))) (
some (.inl (UE (v49+1)))))) (
some (.inr (.inr ())))
def Al(n:Nat)(l1:Uu):Int->VA (Int⊕Int⊕VC):=fun v0 =>
br (decide (v0<(l1.length:Int))) (
gd (cz v0 l1.length) (
ob (l1[v0.toNat]?) fun(x3,x4) =>
gd (decide ((l1.length:Int)≠0)) (
gd (cz (Int.tmod (UE (v0+1)) (l1.length:Int)) l1.length) (
ob (l1[(Int.tmod (UE (v0+1)) (l1.length:Int)).toNat]?) fun(x10,x11) =>
ob (α:=(VC)⊕VC) (
br ((decide (x3=x10)&&decide (x4=x11))) (
some (.inl ())) (
some (.inr ()))) fun r0=>match r0 with
| .inl _ =>
some (.inr (.inl v0))
| .inr _ =>
some (.inl (UE (v0+1))))))) (
some (.inr (.inr ())))
def Aa(n:Nat)(l1:Uu):Int->VA (Int⊕Int⊕VC):=fun v0 =>
br (decide (v0<(l1.length:Int))) (
gd (cz v0 l1.length) (
ob (l1[v0.toNat]?) fun(x3,x4) =>
gd (decide ((l1.length:Int)≠0)) (
gd (cz (Int.tmod (UE (v0+1)) (l1.length:Int)) l1.length) (
ob (l1[(Int.tmod (UE (v0+1)) (l1.length:Int)).toNat]?) fun(x10,x11) =>
ob (α:=(VC)⊕VC) (
gd (decide ((l1.length:Int)≠0)) (
ob (some (Int.tmod (UE ((UE (v0+(l1.length:Int)))-1)) (l1.length:Int))) fun y0 =>
gd (cz y0 l1.length) (
ob (l1[y0.toNat]?) fun(x12,x13) =>
ob (
ob (IZ n x12 x13 x3 x4 x10 x11) fun r0 =>
br (decide (r0=0)) (
ob (some (UE ((UE (x3-x12))*(UE (x10-x3))))) fun y1 =>
ob (some (UE ((UE (x4-x13))*(UE (x11-x4))))) fun y2 =>
some (decide (UE (y1+y2)<0))) (
some false)) fun v1 =>
br (v1) (
some (.inl ())) (
some (.inr ()))))) fun r1=>match r1 with
| .inl _ =>
some (.inr (.inl v0))
| .inr _ =>
some (.inl (UE (v0+1))))))) (
some (.inr (.inr ())))
def As(n:Nat)(l1:Uu)(v1:Int)(x3:Int)(x4:Int)(x10:Int)(x11:Int):Int->VA (Int⊕VC⊕VC⊕VC):=fun v0 =>
br (decide (v0<(l1.length:Int))) (
gd (cz v0 l1.length) (
ob (l1[v0.toNat]?) fun(x12,x13) =>
gd (decide ((l1.length:Int)≠0)) (
gd (cz (Int.tmod (UE (v0+1)) (l1.length:Int)) l1.length) (
ob (l1[(Int.tmod (UE (v0+1)) (l1.length:Int)).toNat]?) fun(x14,x15) =>
ob (α:=(VC)⊕VC⊕VC) (
br (decide (UE (v1-1)<=v0)) (
some (.inl ())) (
ob (
br (decide (v0=0)) (
some (decide (v1=UE ((l1.length:Int)-1)))) (
some false)) fun v2 =>
br (v2) (
some (.inr (.inl ()))) (
ob (N5 n v1 x3 x4 x10 x11 v0 x12 x13 x14 x15) fun r0 =>
br (!decide (r0=0)) (
some (.inr (.inr ()))) (
some (.inr (.inl ())))))) fun r1=>match r1 with
| .inl _ =>
some (.inr (.inl ()))
| .inr (.inl _) =>
some (.inl (UE (v0+1)))
| .inr (.inr _) =>
some (.inr (.inr (.inl ()))))))) (
some (.inr (.inr (.inr ()))))
def zD(n:Nat)(l1:Uu):Int->VA (Int⊕Int⊕VC):=fun v0 =>
br (decide (v0<(l1.length:Int))) (
gd (cz v0 l1.length) (
ob (l1[v0.toNat]?) fun(x3,x4) =>
gd (decide ((l1.length:Int)≠0)) (
gd (cz (Int.tmod (UE (v0+1)) (l1.length:Int)) l1.length) (
ob (l1[(Int.tmod (UE (v0+1)) (l1.length:Int)).toNat]?) fun(x10,x11) =>
ob (α:=(VC)⊕VC) (
ob (
some ()) fun _ =>
ob (α:=(VC)⊕VC⊕VC) (
ob (α:=(VC)⊕VC⊕VC) (
bK (As n l1 v0 x3 x4 x10 x11) n 0) fun r0=>match r0 with
| .inl _ =>
some (.inl ())
| .inr (.inl _) =>
some (.inr (.inl ()))
| .inr (.inr _) =>
some (.inr (.inr ()))) fun r1=>match r1 with
| .inl _ =>
some (.inl ())
| .inr (.inl _) =>
some (.inr ())
| .inr (.inr _) =>
some (.inl ())) fun r3=>match r3 with
| .inl _ =>
some (.inl (UE (v0+1)))
| .inr _ =>
some (.inr (.inl v0)))))) (
some (.inr (.inr ())))
def Pb(n:Nat)(l1:Uu):VA (Int×Int) :=
ob (
br (decide ((l1.length:Int)<3)) (
some true) (
some (decide (40<(l1.length:Int))))) fun v1 =>
br (v1) (
some (1,0)) (
ob (
ob (α:=(Int)⊕VC) (
bK (yU n l1) n 0) fun r0=>match r0 with
| .inl v2 =>
some v2
| .inr _ =>
some (-1)) fun v0 =>
br (decide (0<=v0)) (
some (2,v0)) (
ob (
some ()) fun _ =>
ob (α:=(Int)⊕VC) (
ob (α:=(Int)⊕VC) (
bK (Al n l1) n 0) fun r1=>match r1 with
| .inl v3 =>
some (.inl v3)
| .inr _ =>
some (.inr ())) fun r3=>match r3 with
| .inl v4 =>
some (3,v4)
| .inr _ =>
ob (
some ()) fun _ =>
ob (α:=(Int)⊕VC) (
ob (α:=(Int)⊕VC) (
bK (Aa n l1) n 0) fun r4=>match r4 with
| .inl v5 =>
some (.inl v5)
| .inr _ =>
some (.inr ())) fun r5=>match r5 with
| .inl v6 =>
some (4,v6)
| .inr _ =>
ob (
some ()) fun _ =>
ob (α:=(Int)⊕VC) (
ob (α:=(Int)⊕VC) (
bK (zD n l1) n 0) fun r6=>match r6 with
| .inl v7 =>
some (.inl v7)
| .inr _ =>
some (.inr ())) fun r7=>match r7 with
| .inl v8 =>
some (5,v8)
| .inr _ =>
some (0,0)))
def PV(n:Nat)(l1:Uu):VA Int :=
ob (Pb n l1) fun(r6,r7) =>
br (decide (0<r6)) (
some 140) (
some 0)
def u1(n:Nat)(l1:Uu):(Int×Int)->VA ((Int×Int)⊕Int):=fun(v7,v8) =>
br (decide (v8<(l1.length:Int))) (
gd (cz v8 l1.length) (
ob (l1[v8.toNat]?) fun(x32,x33) =>
gd (decide ((l1.length:Int)≠0)) (
gd (cz (Int.tmod (UE (v8+1)) (l1.length:Int)) l1.length) (
ob (l1[(Int.tmod (UE (v8+1)) (l1.length:Int)).toNat]?) fun(x38,x39) =>
ob (some (UE ((UE (x32*x39))-(UE (x33*x38))))) fun y42 =>
some (.inl (UE (v7+y42),UE (v8+1))))))) (
some (.inr v7))
def N8(n:Nat)(l1:Uu):VA Int :=
ob (
bK (u1 n l1) n (0,0)) fun v27 =>
some v27
def Ow(n:Nat)(x1:Int)(x2:Int)(x3:Int)(x4:Int)(x5:Int)(x6:Int)(x7:Int)(x8:Int):VA (Int×Int) :=
ob (
ob (KF n x1 x2) fun r58 =>
br (r58) (
some true) (
ob (KF n x3 x4) fun r61 =>
br (r61) (
some true) (
ob (KF n x5 x6) fun r64 =>
br (r64) (
some true) (
ob (KF n x7 x8) fun r67 =>
br (r67) (
some true) (
br ((decide (x1=x3)&&decide (x2=x4))) (
some true) (
some (decide (x5=x7)&&decide (x6=x8)))))))) fun v56 =>
br (v56) (
some (0,2)) (
ob (N5 n 0 x1 x2 x3 x4 0 x5 x6 x7 x8) fun r74 =>
some (r74,0))
def Om(n:Nat)(l1:Uu)(l5:Us)(x12:Int)(x13:Int)(x14:Int)(x15:Int)(x16:Int)(x17:Int)(x18:Int)(x19:Int):VA Bool :=
ob (
br (decide (x12=x16)) (
br (decide (x13=x17)) (
some true) (
br (decide (x12=x17)) (
some (decide (x13=x16))) (
some false))) (
br (decide (x12=x17)) (
some (decide (x13=x16))) (
some false))) fun v39 =>
br (v39) (
some false) (
gd (cz x12 l1.length) (
ob (l1[x12.toNat]?) fun(x50,x51) =>
gd (cz x13 l1.length) (
ob (l1[x13.toNat]?) fun(x54,x55) =>
gd (cz x16 l1.length) (
ob (l1[x16.toNat]?) fun(x58,x59) =>
gd (cz x17 l1.length) (
ob (l1[x17.toNat]?) fun(x62,x63) =>
ob (Ow n x50 x51 x54 x55 x58 x59 x62 x63) fun(r66,r67) =>
br (decide (r66=0)) (
some false) (
br (decide (r66=1)) (
br (!decide (x12=x16)) (
br (!decide (x12=x17)) (
br (!decide (x13=x16)) (
some (!decide (x13=x17))) (
some false)) (
some false)) (
some false)) (
some true)))))))
def tj(n:Nat)(l1:Uu)(x6:Int)(x5:Int):(Int×Int)->VA ((Int×Int)⊕VC⊕Int):=fun(v1,v0) =>
br (decide (v0<(l1.length:Int))) (
ob (α:=(VC)⊕Int) (
gd (cz v0 l1.length) (
ob (l1[v0.toNat]?) fun(x10,x3) =>
gd (decide ((l1.length:Int)≠0)) (
gd (cz (Int.tmod (UE (v0+1)) (l1.length:Int)) l1.length) (
ob (l1[(Int.tmod (UE (v0+1)) (l1.length:Int)).toNat]?) fun(x11,x4) =>
ob (some (UE ((UE (x11-x10))*(UE (x6-x3))))) fun y0 =>
ob (some (UE ((UE (x4-x3))*(UE (x5-x10))))) fun y1 =>
ob (
br (decide (UE (y0-y1)=0)) (
br (decide (mi x10 x11<=x5)) (
br (decide (x5<=ma x10 x11)) (
br (decide (mi x3 x4<=x6)) (
some (decide (x6<=ma x3 x4))) (
some false)) (
some false)) (
some false)) (
some false)) fun v2 =>
br (v2) (
some (.inl ())) (
ob (
br (decide (x3<=x6)) (
br (decide (x6<x4)) (
some (decide (0<UE (y0-y1)))) (
some false)) (
some false)) fun v3 =>
br (v3) (
some (.inr (UE (v1+1)))) (
ob (
br (decide (x6<x3)) (
br (decide (x4<=x6)) (
some (decide (UE (y0-y1)<0))) (
some false)) (
some false)) fun v4 =>
br (v4) (
some (.inr (UE (v1-1)))) (
some (.inr v1)))))))) fun r0=>match r0 with
| .inl _ =>
some (.inr (.inl ()))
| .inr v5 =>
some (.inl (v5,UE (v0+1)))) (
some (.inr (.inr v1)))
def K1(n:Nat)(l1:Uu)(x5:Int)(x6:Int):VA Int :=
ob (α:=(VC)⊕Int) (
bK (tj n l1 x6 x5) n (0,0)) fun r0=>match r0 with
| .inl _ =>
some 1
| .inr v0 =>
br (decide (v0=0)) (
some 0) (
some 2)
def zV(n:Nat)(l1:Uv)(l2:Uu)(l3:Us)(x3:Int)(x4:Int)(x10:Int):Int->VA (Int⊕Int⊕VC):=fun v0 =>
br (decide (v0<(l1.length:Int))) (
gd (cz v0 l1.length) (
ob (l1[v0.toNat]?) fun l4 =>
ob (
ob (IY n l2 l3 l4 x3) fun l5 =>
ob (K1 n l5 x4 x10) fun r0 =>
some (!decide (r0=0))) fun v1 =>
br (v1) (
some (.inr (.inl v0))) (
some (.inl (UE (v0+1)))))) (
some (.inr (.inr ())))
def I8(n:Nat)(l1:Uu)(l2:Us)(l3:VB (Int))(l4:Uv)(x3:Int)(x4:Int)(x10:Int):VA Bool :=
ob (IY n l1 l2 l3 x10) fun l5 =>
ob (K1 n l5 x3 x4) fun r0 =>
br (decide (r0=2)) (
ob (
ob (α:=(Int)⊕VC) (
bK (zV n l4 l1 l2 x10 x3 x4) n 0) fun r1=>match r1 with
| .inl v0 =>
some v0
| .inr _ =>
some (-1)) fun v1 =>
some (decide (v1<0))) (
some false)
def q9(n:Nat)(l1:VB Int):(Int×VB ((Int×Int)×Bool))->VA ((Int×VB ((Int×Int)×Bool)) ⊕((VB ((Int×Int)×Bool)) ⊕(VB ((Int×Int)×Bool)))):=fun(v0,l2) =>
br (decide (v0<(l1.length:Int))) (
gd (cz v0 l1.length) (
ob (l1[v0.toNat]?) fun x3 =>
gd (decide ((l1.length:Int)≠0)) (
gd (cz (Int.tmod (UE (v0+1)) (l1.length:Int)) l1.length) (
ob (l1[(Int.tmod (UE (v0+1)) (l1.length:Int)).toNat]?) fun x4 =>
ob (α:=(VC)⊕VC) (
ob (some ((dR l2 (x3,x4)).getD false)) fun y0 =>
br (y0) (
some (.inl ())) (
some (.inr ()))) fun r0=>match r0 with
| .inl _ =>
some (.inr (.inl l2))
| .inr _ =>
some (.inl (UE (v0+1),(iW l2 (x3,x4) true))))))) (
some (.inr (.inr l2)))
def qR(n:Nat)(l1:Uv):(Int×VB ((Int×Int)×Bool))->VA ((Int×VB ((Int×Int)×Bool)) ⊕((VB ((Int×Int)×Bool)) ⊕(VB ((Int×Int)×Bool)))):=fun(v0,l2) =>
br (decide (v0<(l1.length:Int))) (
gd (cz v0 l1.length) (
ob (l1[v0.toNat]?) fun l3 =>
ob (α:=(VB ((Int×Int)×Bool)) ⊕(VB ((Int×Int)×Bool))) (
bK (q9 n l3) n (0,l2)) fun r0=>match r0 with
| .inl l4 =>
some (.inr (.inl l4))
| .inr l5 =>
some (.inl (UE (v0+1),l5)))) (
some (.inr (.inr l2)))
def qY(n:Nat)(l1:Us):(Int×VB ((Int×Int)×Bool))->VA ((Int×VB ((Int×Int)×Bool)) ⊕((Int×VB ((Int×Int)×Bool)) ⊕(VB ((Int×Int)×Bool)))):=fun(v0,l2) =>
br (decide (v0<(l1.length:Int))) (
gd (cz v0 l1.length) (
ob (l1[v0.toNat]?) fun(l3,l4) =>
ob (Bq n l3 l4) fun l5 =>
ob (α:=(VB ((Int×Int)×Bool)) ⊕(VB ((Int×Int)×Bool))) (
bK (qR n l5) n (0,l2)) fun r0=>match r0 with
| .inl l6 =>
some (.inr (.inl (v0,l6)))
| .inr l7 =>
some (.inl (UE (v0+1),l7)))) (
some (.inr (.inr l2)))
def sP(n:Nat)(l1:VB (Ut))(l2:Uu)(l3:Us)(x3:Int)(x4:Int)(v1:Int)(v2:Int):Int->VA (Int⊕Int⊕VC):=fun v0 =>
br (decide (v0<(l1.length:Int))) (
gd (cz v0 l1.length) (
ob (l1[v0.toNat]?) fun(x10,x11,x12,x13) =>
ob (
ob (Om n l2 l3 x3 x4 v1 v2 x10 x11 x12 x13) fun r0 =>
some r0) fun v3 =>
br (v3) (
some (.inr (.inl v0))) (
some (.inl (UE (v0+1)))))) (
some (.inr (.inr ())))
def qV(n:Nat)(l1:VB Int)(l3:Uu)(l4:Us)(v1:Int)(v2:Int):(Int×VB (Ut))->VA ((Int×VB (Ut)) ⊕((VB (Ut)) ⊕(VB (Ut)))):=fun(v0,l2) =>
br (decide (v0<(l1.length:Int))) (
gd (cz v0 l1.length) (
ob (l1[v0.toNat]?) fun x3 =>
gd (decide ((l1.length:Int)≠0)) (
gd (cz (Int.tmod (UE (v0+1)) (l1.length:Int)) l1.length) (
ob (l1[(Int.tmod (UE (v0+1)) (l1.length:Int)).toNat]?) fun x4 =>
ob (α:=(VC) ⊕(VB (Ut))) (
ob (
ob (α:=(Int)⊕VC) (
bK (sP n l2 l3 l4 x3 x4 v1 v2) n 0) fun r0=>match r0 with
| .inl v3 =>
some v3
| .inr _ =>
some (-1)) fun v4 =>
br (decide (0<=v4)) (
some (.inl ())) (
gd (lim (l2++[(x3,x4,v1,v2)]).length) (
some (.inr (l2++[(x3,x4,v1,v2)]))))) fun r1=>match r1 with
| .inl _ =>
some (.inr (.inl l2))
| .inr l5 =>
some (.inl (UE (v0+1),l5)))))) (
some (.inr (.inr l2)))
def q8(n:Nat)(l1:Uv)(l3:Uu)(l4:Us)(v1:Int):(Int×VB (Ut))->VA ((Int×VB (Ut)) ⊕((VB (Ut)) ⊕(VB (Ut)))):=fun(v0,l2) =>
br (decide (v0<(l1.length:Int))) (
gd (cz v0 l1.length) (
ob (l1[v0.toNat]?) fun l5 =>
ob (α:=(VB (Ut)) ⊕(VB (Ut))) (
bK (qV n l5 l3 l4 v1 v0) n (0,l2)) fun r0=>match r0 with
| .inl l6 =>
some (.inr (.inl l6))
| .inr l7 =>
some (.inl (UE (v0+1),l7)))) (
some (.inr (.inr l2)))
def rq(n:Nat)(l1:Us)(l3:Uu):(Int×VB (Ut))->VA ((Int×VB (Ut)) ⊕((Int×VB (Ut)) ⊕(VB (Ut)))):=fun(v0,l2) =>
br (decide (v0<(l1.length:Int))) (
gd (cz v0 l1.length) (
ob (l1[v0.toNat]?) fun(l4,l5) =>
ob (Bq n l4 l5) fun l6 =>
ob (α:=(VB (Ut)) ⊕(VB (Ut))) (
bK (q8 n l6 l3 l1 v0) n (0,l2)) fun r0=>match r0 with
| .inl l7 =>
some (.inr (.inl (v0,l7)))
| .inr l8 =>
some (.inl (UE (v0+1),l8)))) (
some (.inr (.inr l2)))
def qO(n:Nat)(l1:VB Int)(v1:Int)(v2:Int)(l3:Us)(l4:Uv)(l2:Uu)(l5:VB Int):Int->VA (Int⊕VC⊕VC):=fun v0 =>
br (decide (v0<(l1.length:Int))) (
gd (cz v0 l1.length) (
ob (l1[v0.toNat]?) fun x3 =>
gd (decide ((l1.length:Int)≠0)) (
gd (cz (Int.tmod (UE (v0+1)) (l1.length:Int)) l1.length) (
ob (l1[(Int.tmod (UE (v0+1)) (l1.length:Int)).toNat]?) fun x4 =>
ob (α:=(VC)⊕VC) (
br (decide (v1=0)) (
some (.inl ())) (
gd (cz v2 l3.length) (
ob (Qo n l4) fun _ =>
ob (PC n l4 (UE (v1-1)) v1) fun l6 =>
ob (
gd (cz x3 l2.length) (
ob (l2[x3.toNat]?) fun(x10,x11) =>
gd (cz x4 l2.length) (
ob (l2[x4.toNat]?) fun(x12,x13) =>
some (UE (x10+x12),UE (x11+x13))))) fun(v3,v4) =>
ob (I8 n l2 l3 l5 l6 v3 v4 2) fun r0 =>
br (!r0) (
some (.inr ())) (
some (.inl ()))))) fun r1=>match r1 with
| .inl _ =>
some (.inl (UE (v0+1)))
| .inr _ =>
some (.inr (.inl ())))))) (
some (.inr (.inr ())))
def qS(n:Nat)(l1:Uv)(v1:Int)(l2:Us)(l3:Uv)(l4:Uu)(l5:VB Int):Int->VA (Int⊕VC⊕VC):=fun v0 =>
br (decide (v0<(l1.length:Int))) (
gd (cz v0 l1.length) (
ob (l1[v0.toNat]?) fun l6 =>
ob (α:=(VC)⊕VC) (
bK (qO n l6 v0 v1 l2 l3 l4 l5) n 0) fun r0=>match r0 with
| .inl _ =>
some (.inr (.inl ()))
| .inr _ =>
some (.inl (UE (v0+1))))) (
some (.inr (.inr ())))
def mc(n:Nat)(l1:Us)(l4:Uu):Int->VA (Int⊕Int⊕VC):=fun v0 =>
br (decide (v0<(l1.length:Int))) (
gd (cz v0 l1.length) (
ob (l1[v0.toNat]?) fun(l2,l3) =>
ob (Bq n l2 l3) fun l5 =>
ob (α:=(VC)⊕VC) (
bK (qS n l5 v0 l1 l3 l4 l2) n 0) fun r0=>match r0 with
| .inl _ =>
some (.inr (.inl v0))
| .inr _ =>
some (.inl (UE (v0+1))))) (
some (.inr (.inr ())))
def sQ(n:Nat)(l2:Us)(v1:Int)(x3:Int)(l1:Uu)(x4:Int):Int->VA (Int⊕VC⊕VC):=fun v0 =>
br (decide (v0<(l2.length:Int))) (
gd (cz v0 l2.length) (
ob (l2[v0.toNat]?) fun(l3,l4) =>
ob (
br (!decide (v0=v1)) (
ob (
gd (cz x3 l1.length) (
ob (l1[x3.toNat]?) fun(x10,x11) =>
gd (cz x4 l1.length) (
ob (l1[x4.toNat]?) fun(x12,x13) =>
some (UE (x10+x12),UE (x11+x13))))) fun(v2,v3) =>
ob (I8 n l1 l2 l3 l4 v2 v3 2) fun r0 =>
some r0) (
some false)) fun v4 =>
br (v4) (
some (.inr (.inl ()))) (
some (.inl (UE (v0+1)))))) (
some (.inr (.inr ())))
def mS(n:Nat)(l1:VB Int)(l2:Us)(v1:Int)(l3:Uu):Int->VA (Int⊕VC⊕VC):=fun v0 =>
br (decide (v0<(l1.length:Int))) (
gd (cz v0 l1.length) (
ob (l1[v0.toNat]?) fun x3 =>
gd (decide ((l1.length:Int)≠0)) (
gd (cz (Int.tmod (UE (v0+1)) (l1.length:Int)) l1.length) (
ob (l1[(Int.tmod (UE (v0+1)) (l1.length:Int)).toNat]?) fun x4 =>
ob (α:=(VC)⊕VC) (
ob (α:=(VC)⊕VC) (
bK (sQ n l2 v1 x3 l3 x4) n 0) fun r0=>match r0 with
| .inl _ =>
some (.inl ())
| .inr _ =>
some (.inr ())) fun r1=>match r1 with
| .inl _ =>
some (.inr (.inl ()))
| .inr _ =>
some (.inl (UE (v0+1))))))) (
some (.inr (.inr ())))
def lV(n:Nat)(l1:Uv)(l2:Us)(v1:Int)(l3:Uu):Int->VA (Int⊕VC⊕VC):=fun v0 =>
br (decide (v0<(l1.length:Int))) (
gd (cz v0 l1.length) (
ob (l1[v0.toNat]?) fun l4 =>
ob (α:=(VC)⊕VC) (
bK (mS n l4 l2 v1 l3) n 0) fun r0=>match r0 with
| .inl _ =>
some (.inr (.inl ()))
| .inr _ =>
some (.inl (UE (v0+1))))) (
some (.inr (.inr ())))
def mX(n:Nat)(l1:Us)(l2:Uu):Int->VA (Int⊕Int⊕VC):=fun v0 =>
br (decide (v0<(l1.length:Int))) (
gd (cz v0 l1.length) (
ob (l1[v0.toNat]?) fun(l3,l4) =>
ob (Bq n l3 l4) fun l5 =>
ob (α:=(VC)⊕VC) (
bK (lV n l5 l1 v0 l2) n 0) fun r0=>match r0 with
| .inl _ =>
some (.inr (.inl v0))
| .inr _ =>
some (.inl (UE (v0+1))))) (
some (.inr (.inr ())))
def Ps(n:Nat)(l2:Uu)(l1:Us):VA (Int×Int) :=
ob (
some ([]:VB ((Int×Int)×Bool))) fun l3 =>
ob (α:=(Int×VB ((Int×Int)×Bool)) ⊕(VB ((Int×Int)×Bool))) (
ob (α:=(Int×VB ((Int×Int)×Bool)) ⊕(VB ((Int×Int)×Bool))) (
bK (qY n l1) n (0,l3)) fun r0=>match r0 with
| .inl (v0,l4) =>
some (.inl (v0,l4))
| .inr l5 =>
some (.inr l5)) fun r1=>match r1 with
| .inl (v1,l8) =>
some (7,v1)
| .inr l9 =>
ob (
some ()) fun _ =>
ob (α:=(Int×VB (Ut)) ⊕(VB (Ut))) (
ob (α:=(Int×VB (Ut)) ⊕(VB (Ut))) (
bK (rq n l1 l2) n (0,([]:VB (Ut)))) fun r3=>match r3 with
| .inl (v2,l6) =>
some (.inl (v2,l6))
| .inr l7 =>
some (.inr l7)) fun r4=>match r4 with
| .inl (v3,l10) =>
some (8,v3)
| .inr l11 =>
ob (
some ()) fun _ =>
ob (α:=(Int)⊕VC) (
ob (α:=(Int)⊕VC) (
bK (mc n l1 l2) n 0) fun r5=>match r5 with
| .inl v4 =>
some (.inl v4)
| .inr _ =>
some (.inr ())) fun r6=>match r6 with
| .inl v5 =>
some (9,v5)
| .inr _ =>
ob (
some ()) fun _ =>
ob (α:=(Int)⊕VC) (
ob (α:=(Int)⊕VC) (
bK (mX n l1 l2) n 0) fun r7=>match r7 with
| .inl v6 =>
some (.inl v6)
| .inr _ =>
some (.inr ())) fun r8=>match r8 with
| .inl v7 =>
some (10,v7)
| .inr _ =>
some (0,0)
def Aj(n:Nat)(l1:Uu):Int->VA (Int⊕Int⊕VC):=fun v63 =>
br (decide (v63<(l1.length:Int))) (
gd (cz v63 l1.length) (
ob (l1[v63.toNat]?) fun(x81,x82) =>
ob (Oa n x81 x82) fun r86 =>
br (r86) (
some (.inr (.inl v63))) (
some (.inl (UE (v63+1)))))) (
some (.inr (.inr ())))
def ra(n:Nat)(l1:Uu):(VB ((Int×Int)×Bool)×Int)->VA ((VB ((Int×Int)×Bool)×Int)⊕Int⊕VC):=fun(l2,v0) =>
br (decide (v0<(l1.length:Int))) (
gd (cz v0 l1.length) (
ob (l1[v0.toNat]?) fun(x3,x4) =>
ob (some ((dR l2 (x3,x4)).getD false)) fun y0 =>
br (y0) (
some (.inr (.inl v0))) (
some (.inl ((iW l2 (x3,x4) true),UE (v0+1)))))) (
some (.inr (.inr ())))
def zS(n:Nat)(l2:Uv)(l3:Uu):Int->VA (Int⊕VC⊕VC):=fun v0 =>
br (decide (v0<(l2.length:Int))) (
gd (cz v0 l2.length) (
ob (l2[v0.toNat]?) fun l1 =>
ob (
br (decide ((l1.length:Int)<3)) (
some true) (
br (decide (40<(l1.length:Int))) (
some true) (
ob (N2 n l1) fun r0 =>
br (decide (r0<0)) (
some true) (
ob (DW n l1) fun r1 =>
some (decide ((l3.length:Int)<=r1)))))) fun v1 =>
br (v1) (
some (.inr (.inl ()))) (
some (.inl (UE (v0+1)))))) (
some (.inr (.inr ())))
def y9(n:Nat)(l1:Us)(l3:Uu):Int->VA (Int⊕Int⊕VC):=fun v0 =>
br (decide (v0<(l1.length:Int))) (
gd (cz v0 l1.length) (
ob (l1[v0.toNat]?) fun(l4,l2) =>
ob (
br (decide (8<(l2.length:Int))) (
some true) (
ob (
ob (Bq n l4 l2) fun l5 =>
ob (α:=(VC)⊕VC) (
bK (zS n l5 l3) n 0) fun r0=>match r0 with
| .inl _ =>
some true
| .inr _ =>
some false) fun v1 =>
some v1)) fun v2 =>
br (v2) (
some (.inr (.inl v0))) (
some (.inl (UE (v0+1)))))) (
some (.inr (.inr ())))
def zv(n:Nat)(l1:Uv)(l2:Uu)(l3:Us):Int->VA (Int⊕VC⊕VC):=fun v0 =>
br (decide (v0<(l1.length:Int))) (
gd (cz v0 l1.length) (
ob (l1[v0.toNat]?) fun l4 =>
ob (
ob (IY n l2 l3 l4 1) fun l5 =>
ob (PV n l5) fun r0 =>
some (!decide (r0=0))) fun v1 =>
br (v1) (
some (.inr (.inl ()))) (
some (.inl (UE (v0+1)))))) (
some (.inr (.inr ())))
def zB(n:Nat)(l1:Us)(l2:Uu):Int->VA (Int⊕Int⊕VC):=fun v0 =>
br (decide (v0<(l1.length:Int))) (
gd (cz v0 l1.length) (
ob (l1[v0.toNat]?) fun(l3,l4) =>
ob (
ob (
ob (Bq n l3 l4) fun l5 =>
ob (α:=(VC)⊕VC) (
bK (zv n l5 l2 l1) n 0) fun r0=>match r0 with
| .inl _ =>
some true
| .inr _ =>
some false) fun v1 =>
some v1) fun v2 =>
br (v2) (
some (.inr (.inl v0))) (
some (.inl (UE (v0+1)))))) (
some (.inr (.inr ())))
def yG(n:Nat)(l1:Uv)(l2:Uu)(l3:Us):Int->VA (Int⊕VC⊕VC):=fun v0 =>
br (decide (v0<(l1.length:Int))) (
gd (cz v0 l1.length) (
ob (l1[v0.toNat]?) fun l4 =>
ob (
ob (IY n l2 l3 l4 1) fun l5 =>
ob (N8 n l5) fun r0 =>
some ((decide (r0<0)) ==(decide (v0=0)))) fun v1 =>
br (v1) (
some (.inr (.inl ()))) (
some (.inl (UE (v0+1)))))) (
some (.inr (.inr ())))
def zn(n:Nat)(l1:Us)(l2:Uu):Int->VA (Int⊕Int⊕VC):=fun v0 =>
br (decide (v0<(l1.length:Int))) (
gd (cz v0 l1.length) (
ob (l1[v0.toNat]?) fun(l3,l4) =>
ob (
ob (
ob (Bq n l3 l4) fun l5 =>
ob (α:=(VC)⊕VC) (
bK (yG n l5 l2 l1) n 0) fun r0=>match r0 with
| .inl _ =>
some true
| .inr _ =>
some false) fun v1 =>
some v1) fun v2 =>
br (v2) (
some (.inr (.inl v0))) (
some (.inl (UE (v0+1)))))) (
some (.inr (.inr ())))
def N4(n:Nat)(l1:Uu)(l2:Us):VA (Int×Int) :=
ob (
br (decide ((l1.length:Int)<3)) (
some true) (
br (decide (120<(l1.length:Int))) (
some true) (
br (decide ((l2.length:Int)<1)) (
some true) (
some (decide (64<(l2.length:Int))))))) fun v4 =>
br (v4) (
some (1,0)) (
ob (
ob (α:=(Int)⊕VC) (
bK (Aj n l1) n 0) fun r0=>match r0 with
| .inl v5 =>
some v5
| .inr _ =>
some (-1)) fun v0 =>
br (decide (0<=v0)) (
some (2,v0)) (
ob (α:=(Int)⊕VC) (
bK (ra n l1) n (([]:VB ((Int×Int)×Bool)),0)) fun r1=>match r1 with
| .inl v6 =>
some (3,v6)
| .inr _ =>
ob (
ob (α:=(Int)⊕VC) (
bK (y9 n l2 l1) n 0) fun r3=>match r3 with
| .inl v7 =>
some v7
| .inr _ =>
some (-1)) fun v1 =>
br (decide (0<=v1)) (
some (4,v1)) (
ob (
ob (α:=(Int)⊕VC) (
bK (zB n l2 l1) n 0) fun r4=>match r4 with
| .inl v8 =>
some v8
| .inr _ =>
some (-1)) fun v2 =>
br (decide (0<=v2)) (
some (5,v2)) (
ob (
ob (α:=(Int)⊕VC) (
bK (zn n l2 l1) n 0) fun r5=>match r5 with
| .inl v9 =>
some v9
| .inr _ =>
some (-1)) fun v3 =>
br (decide (0<=v3)) (
some (6,v3)) (
ob (Ps n l1 l2) fun(r6,r7) =>
some (r6,r7))))))
def EP(n:Nat)(l1:Uu)(l5:Us):VA Int :=
ob (N4 n l1 l5) fun(r14,r15) =>
br (decide (0<r14)) (
some 150) (
some 0)
def Nd(n:Nat)(r0:VC->Int->VA Int)(l1:Uu):VC->Int->VA Int:=fun _ x3 =>
ob (some ((dR l1 x3).getD (0:Int),(dR l1 x3).isSome)) fun(y0,y1) =>
ob (
br (y1) (
some (!decide (y0=x3))) (
some false)) fun v0 =>
br (v0) (
ob (r0 () y0) fun r1 =>
some r1) (
some x3)
def Ot(n:Nat)(l79:Uu):Nat->VC->Int->VA Int
 | 0=>fun _ _=>none
 | k+1=>Nd n (Ot n l79 k) l79
def K4(n:Nat)(x4:Int)(x10:Int):(Uu×Int)->VA ((Uu×Int)⊕Uu):=fun(l1,v0) =>
br (decide (v0<2)) (
ob (
gd (cz v0 2) (
ob ([x4,x10][v0.toNat]?) fun x3 =>
ob (some ((dR l1 x3).getD (0:Int),(dR l1 x3).isSome)) fun(y1,y0) =>
br (!y0) (
some (iW l1 x3 x3)) (
some l1))) fun l2 =>
some (.inl (l2,UE (v0+1)))) (
some (.inr l1))
def KV(n:Nat)(l1:VB (Ut)):(Uu×Int)->VA ((Uu×Int)⊕Uu):=fun(l3,v0) =>
br (decide (v0<(l1.length:Int))) (
gd (cz v0 l1.length) (
ob (l1[v0.toNat]?) fun(x3,x4,x10,x11) =>
ob (
bK (K4 n x3 x4) n (l3,0)) fun l2 =>
ob (Ot n l2 n () x3) fun r0 =>
ob (Ot n l2 n () x4) fun r1 =>
some (.inl ((iW l2 r0 r1),UE (v0+1))))) (
some (.inr l3))
def Mm(n:Nat)(l1:Uu)(l2:Us):VA ((Int×Int×Int×Int×Int) ⊕(VB (Ut)×Uu)) :=
ob (EP n l1 l2) fun r0 =>
br (!decide (r0=0)) (
some (.inl (0,0,0,0,r0))) (
ob (E1 n l1 l2) fun l3 =>
ob (
bK (KV n l3) n (([]:Uu),0)) fun l4 =>
some (.inr (l3,l4)))
def pM(r:Uu):Int:=(r.countP (fun p=>decide (p.1=p.2)):Nat)
def KX(_:Nat)(l1:Uu)(l5:Us):VA (Int×Int×Int×Int×Int) :=
 ob (Mm 100000 l1 l5) fun s=>match s with
 | .inl x=>some x
 | .inr (l,r)=>gd (lim r.length) (some ((r.length:Int),(l.length:Int),(l5.length:Int),pM r,0))
end Go.Proofs.Ytmndpgfbkicndaa
namespace Go.Ab
open Go
section
variable{E:Env}{j j1:aP}{m m1:Vn}{w w1:UD}
def Sim.same(h:MR E j m w)(hold:∀c,c<w.heap.size->w1.heap[c]? = w.heap[c]?)(hsize:w.heap.size<=w1.heap.size)(hcalm:jt E w w1):Sim E j m w j m w1 where
 ext:=.refl m
 le:=.refl j
 new:=fun b k h h'=>by simp[h'] at h
 mr:=⟨fun b k hb=>⟨(h.lt b k hb).1,Sk (h.lt b k hb).2 hsize⟩,fun b o k ho hb=>by
  obtain⟨o',h1,h2⟩:=h.obj b o k ho hb;exact⟨o',(hold k.c (h.lt b k hb).2).trans h1,h2⟩,h.inj,h.glob⟩
 size:=hsize
 full:=fun b h h' _=>Sw h (by omega)
 away:=fun _ _ _=>rfl
 fresh:=fun b k h h'=>by simp[h'] at h
 frame:=fun c hc _=>hold c hc
 calm:=hcalm
def tJ(hE:EnvOk E){pr:VI->VA Prim}(h:∀f p,pr f=some p->E.cP f=some p\/∀args m v m',p.run args m=some (v,m')->∀(j:aP) (w:UD) (args':VB Uz),MR E j m w->LR j args args'->gN E.P (E.cP f).isSome f args'.toArray w (jx E j m w v m')):EnvOk { E with cP:=pr}:=by
 refine⟨hE.call,hE.mixed,fun f p hp args m v m' hrun j w args' hm hl=>?_⟩;have hp':({ E with cP:=pr}:Env).cP f=some p:=hp;have hm0:MR E j m w:=MR.env (E:={ E with cP:=pr}) (E':=E) rfl hm;have key:∀v' w',jx E j m w v m' v' w'->jx { E with cP:=pr} j m w v m' v' w':=fun v' w' ⟨j',s,hv⟩=>⟨j',Sim.env (E:=E) rfl (fun e=>e) s,hv⟩;rcases h f p hp with h1|h1
 exact mh (fun _=>by rw[hp']; rfl) (hE.cP f p h1 args m v m' hrun j w args' hm0 hl) key
 exact mh (fun _=>by rw[hp']; rfl) (h1 args m v m' hrun j w args' hm0 hl) key
end
def FE{j:aP}{l:VB Uz}(h:∀x∈l,bC x=true):LR j l l :=
 ⟨rfl,fun i v hi=>⟨v,hi,VR.bC (h v (SA hi))⟩⟩
def yW{W W':UD}(hc:Calm W W')(hs:W.heap.size<=W'.heap.size)(hold:∀c,c<W.heap.size->W'.heap[c]? = W.heap[c]?):∃q os,W'=Sort.grow (W.drewN q) os:=by
 refine⟨W'.drawn-W.drawn,W'.heap.extract W.heap.size W'.heap.size,?_⟩;have hh:W'.heap=W.heap++W'.heap.extract W.heap.size W'.heap.size:=by
  apply Ul;intro i;rw[Array.getElem?_append]
  split
  exact hold i ‹_›
  rw[Array.getElem?_extract]
  split
  congr 1; omega
  exact Array.getElem?_eq_none (by omega)
 obtain⟨h1,h2,h3,h4⟩:=hc;cases W; cases W';simp only[Sort.grow,World.drewN] at *;subst h1; subst h2; subst h3
 congr 1
 omega
def A8{E:Env}(hE:EnvOk E)(hmono:E.mono:=by trivial){f:VI}{args:VB Uz}(hp:E.cP f=none){v:Uz}(hpl:∀x∈args,bC x=true)(hv:bC v=true)
  (h:aK E f args (Ey E.glob fun _=>none) fun v' _=>v'=v) {W:UD} (hW:E.glob<=W.heap.size) :
  Calls E.P f args.toArray W fun e W'=>e=.returned v/\∃q os,W'=Sort.grow (W.drewN q) os:=by
 obtain⟨v',m',⟨k,hr⟩,rfl⟩:=h;have hm:MR E (Ej E.glob) (Ey E.glob fun _=>none) W:=JB (Sa _) hW fun b cs hb=>by cases hb
 refine callsIn_wide.1 ((pW hE hr hp hm (FE hpl)).mono ?_);rintro e W' ⟨v1,rfl,j',s,hv1⟩;rw[gK hv hv1];refine⟨rfl,yW ⟨s.calm.1,s.calm.2.1,s.calm.2.2.1,s.calm.2.2.2 hmono⟩ s.size fun c hc=>s.frame c hc fun b k hb hl _=>?_⟩;have:(Ey E.glob fun _=>none).get b=none:=by simp[Vn.get,Ey,Heap.get_nil]
 rw[this] at hl; cases hl
def lK{w:UD}{B:Nat}{c:VD Uz}{e:UA}{fz:Nat×Nat}(h:w.heap[B]? = some (.cells c e fz))(f:VD Uz->VD Uz):Sort.mapBlock w B f=w.putObj B (.cells (f c) e fz):=by
 unfold Sort.mapBlock World.putObj
 congr 1
 apply Ul;intro i;rw[Array.getElem?_modify,TV]
 by_cases hi:B=i
 subst hi;obtain⟨hlt,hv⟩:=Sh.1 h;simp[hlt,hv,Sort.onCells]
 simp[hi]
def Co{E:Env}{j:aP}{m:Vn}{w:UD}(h:MR E j m w){b:Nat}{k:Blk}(hk:j b=some k){cs cs':VB Uz}{tag:Tag}(hg:m.get b=some (.cells cs tag))(hl:cs'.length=cs.length)(hp:cs'.all aQ=true)(n:Nat)(os:VD Obj) :
  Sim E j m w j (m.set b (.cells cs' tag)) (Sort.grow (Sort.putRow id (Sort.ahead w n) k.c 0 cs'.toArray) os):=by
 obtain⟨c,e,fz,h1,h2,h3⟩:=h.fV hk hg;have s1:Sim E j m w j m (Sort.ahead w n):=Sim.of_heap h rfl ⟨rfl,rfl,rfl,Nat.le_add_right _ _⟩;have hle:cs.length<=c.size:=by
  cases tag with
  | ro=>exact Ue h2.2.symm
  | own=>exact Ue h2.2.1.symm
  | more sz=>exact h2.2.1
 have hor:OR j k (.cells cs' tag) (.cells (Sort.putCells id 0 cs'.toArray c) e fz):=by
  have hget:∀i,(Sort.putCells id 0 cs'.toArray c)[i]? = if i<cs'.length then(if i<c.size then some cs'[i]! else none) else c[i]?:=by
   intro i;simp only[Sort.putCells,Array.getElem?_mapIdx,Tn,true_and,SE,T0,TN,id]
   by_cases hi:i<c.size
   rw[TQ hi];simp only[Ss]
   by_cases hj:i<cs'.length
   simp[hj,hi]
   simp[hj]
   rw[Array.getElem?_eq_none (by omega)]
   simp[hi]
  refine⟨?_,fun i v hi=>?_⟩
  rw[show cs'.length=cs.length from hl]
  refine pA.put h2 (by simp[Sort.putCells]) fun i hi=>?_
  rw[hget,UG]
  have hlt:i<cs'.length:=(Sl.1 hi).1;refine⟨v,?_,.aQ (Sp.1 hp v (SA hi))⟩;rw[hget,R7 hlt,UH,TP,hi]; rfl
 have s2:=iQ s1.mr hk (by rw[hg]; rfl) hor
 have e2:Sort.putRow id (Sort.ahead w n) k.c 0 cs'.toArray=(Sort.ahead w n).putObj k.c (.cells (Sort.putCells id 0 cs'.toArray c) e fz):=lK (w:=Sort.ahead w n) h1 _;rw[e2];refine(s1.trans h s2).trans h (Sim.same s2.mr (fun x hx=>?_) (by simp) ⟨rfl,rfl,rfl,fun _=>Sa _⟩)
 show(_++_:VD Obj)[x]? = _
 rw[Array.getElem?_append,R7 hx]
def zN{α:Type}[Inhabited α]{enc:α->VB Uz}{k:Nat}(hk:∀x,(enc x).length=k)(h0:0<k):∀(l:VB α) (t:Nat),t<l.length*k->(l.map enc).flatten[t]! =(enc l[t/k]!)[t%k]!
 | [],t,h=>by simp at h
 | x::l,t,h=>by
  simp only[Ts,S6];rw[TP,T6]
  by_cases ht:t<k
  rw[R7 (by rw[hk]; exact ht),Nat.div_eq_of_lt ht,TO ht,<-TP]; rfl
  rw[R5 (by rw[hk]; exact ht),hk,<-TP,zN hk h0 l (t-k) (by simp only[SS,TW,Nat.one_mul] at h; omega)]
  have e1:t/k=(t-k)/k+1:=by rw[Nat.div_eq_sub_div h0 (by omega)]
  have e2:t%k=(t-k)%k:=Nat.mod_eq_sub_mod (by omega)
  rw[e1,e2]; rfl
def cG{α:Type}{enc:α->VB Uz}{k:Nat}(hk:∀x,(enc x).length=k):∀l:VB α,(l.map enc).flatten.length=l.length*k
 | []=>by simp
 | x::l=>by simp only[Ts,S6,Sn,SS,hk,cG hk l,TW,Nat.one_mul]; omega
def gY{α:Type}[Inhabited α]{enc:α->VB Uz}{k:Nat}(hk:∀x,(enc x).length=k)(h0:0<k)(l:VB α):Sort.flatK enc k l.toArray=(l.map enc).flatten.toArray:=by
 refine Sort.ext_get! (by simp[cG hk]) fun t ht=>?_
 have ht':t<l.length*k:=by simpa using ht
 rw[Sort.get_flatK _ _ _ _ (by simpa using ht')]
 have:=zN hk h0 l t ht';simp at this ⊢;rw[this]
def u7{E:Env}{j:aP}{m:Vn}{w:UD}(h:MR E j m w){b:Nat}{k:Blk}(hk:j b=some k){cs:VB Uz}{tag:Tag}(hg:m.get b=some (.cells cs tag))(ht:tag≠.ro)(hp:cs.all aQ=true) :
  Sort.Holds id w k.c 0 cs.toArray:=by
 obtain⟨c,e,fz,h1,h2,h3⟩:=h.fV hk hg;have hfz:fz=(0,0):=by
  cases tag with
  | ro=>exact Sw rfl ht
  | own=>exact h2.2.2
  | more sz=>exact h2.2.2.1
 subst hfz;intro i hi;have hi':i<cs.length:=by simpa using hi
 obtain⟨v',g1,g2⟩:=h3 i cs[i] (R6 hi');have:=fN (Sp.1 hp _ (Su hi')) g2;subst this;refine⟨?_,?_⟩
 simp only[World.cell?,h1,SE];simp[g1,hi']
 simp only[World.frozen?,h1]; simp
def A9{E:Env}{j:aP}{m:Vn}{w:UD}(h:MR E j m w){b:Nat}{k:Blk}(hk:j b=some k){cs:VB Uz}{tag:Tag}(hg:m.get b=some (.cells cs tag))(ht:tag≠.ro) :
  ∃cc:VB Uz,LR j cs cc/\Sort.Holds id w k.c 0 cc.toArray:=by
 obtain⟨c,e,fz,h1,h2,h3⟩:=h.fV hk hg;have hfz:fz=(0,0):=by
  cases tag with
  | ro=>exact Sw rfl ht
  | own=>exact h2.2.2
  | more sz=>exact h2.2.2.1
 have hle:cs.length<=c.size:=by
  cases tag with
  | ro=>exact Sw rfl ht
  | own=>exact Ue h2.2.1.symm
  | more sz=>exact h2.2.1
 subst hfz;have hl:(c.toList.take cs.length).length=cs.length:=by rw[Sq]; exact Nat.min_eq_left (by simpa using hle)
 refine⟨c.toList.take cs.length,⟨hl.symm,fun i v hi=>?_⟩,fun i hi=>?_⟩
 obtain⟨v',g1,g2⟩:=h3 i v hi;have hlt:=(Sl.1 hi).1;exact⟨v',by rw[Tk,R7 hlt]; simpa using g1,g2⟩
 have hi':i<cs.length:=by rw[T0,hl] at hi; exact hi
 refine⟨?_,?_⟩
 simp only[World.cell?,h1,SE];have hic:i<c.size:=by omega
 simp[hi',hic]
 simp only[World.frozen?,h1]; simp
def E5{E:Env}{j:aP}{m:Vn}{w:UD}(h:MR E j m w){b:Nat}{k:Blk}(hk:j b=some k){cs cs' cc':VB Uz}{tag:Tag}(hg:m.get b=some (.cells cs tag))(hl:cs'.length=cs.length)(hp:LR j cs' cc')(n:Nat)(os:VD Obj) :
  Sim E j m w j (m.set b (.cells cs' tag)) (Sort.grow (Sort.putRow id (Sort.ahead w n) k.c 0 cc'.toArray) os):=by
 obtain⟨c,e,fz,h1,h2,h3⟩:=h.fV hk hg;have s1:Sim E j m w j m (Sort.ahead w n):=Sim.of_heap h rfl ⟨rfl,rfl,rfl,Nat.le_add_right _ _⟩;have hlc:cs'.length=cc'.length:=hp.1;have hle:cs.length<=c.size:=by
  cases tag with
  | ro=>exact Ue h2.2.symm
  | own=>exact Ue h2.2.1.symm
  | more sz=>exact h2.2.1
 have hor:OR j k (.cells cs' tag) (.cells (Sort.putCells id 0 cc'.toArray c) e fz):=by
  have hget:∀i,(Sort.putCells id 0 cc'.toArray c)[i]? = if i<cc'.length then(if i<c.size then some cc'[i]! else none) else c[i]?:=by
   intro i;simp only[Sort.putCells,Array.getElem?_mapIdx,Tn,true_and,SE,T0,TN,id]
   by_cases hi:i<c.size
   rw[TQ hi];simp only[Ss]
   by_cases hj:i<cc'.length
   simp[hj,hi]
   simp[hj]
   rw[Array.getElem?_eq_none (by omega)]
   simp[hi]
  refine⟨?_,fun i v hi=>?_⟩
  rw[show cs'.length=cs.length from hl]
  refine pA.put h2 (by simp[Sort.putCells]) fun i hi=>?_
  rw[hget,UG]
  have hlt:i<cs'.length:=(Sl.1 hi).1;obtain⟨v',g1,g2⟩:=hp.2 i v hi;refine⟨v',?_,g2⟩;rw[hget,UH,UH,TP,g1]; rfl
 have s2:=iQ s1.mr hk (by rw[hg]; rfl) hor
 have e2:Sort.putRow id (Sort.ahead w n) k.c 0 cc'.toArray=(Sort.ahead w n).putObj k.c (.cells (Sort.putCells id 0 cc'.toArray c) e fz):=lK (w:=Sort.ahead w n) h1 _;rw[e2];refine(s1.trans h s2).trans h (Sim.same s2.mr (fun x hx=>?_) (by simp) ⟨rfl,rfl,rfl,fun _=>Sa _⟩)
 show(_++_:VD Obj)[x]? = _
 rw[Array.getElem?_append,R7 hx]
end Go.Ab
namespace Go.Proofs
open Go.Shelf
def Try.Bn:Go.Shelf.Ren:=⟨fun|6=>51|15=>75|14=>74|28=>96|29=>97|20=>88|21=>89|22=>90|23=>91|24=>92|25=>93|26=>94|27=>95|46=>99|47=>100|48=>101|49=>102|50=>103|57=>104|n=>n,fun|22=>37|24=>44|25=>107|3=>3|39=>124|0=>0|53=>146|55=>148|4=>4|46=>140|45=>139|50=>72|5=>5|9=>9|66=>151|70=>155|76=>157|77=>90|n=>n,fun|n=>n⟩
def Try.AW:Go.Proofs.SlLaysF0.n6 Try.prog Try.Bn:={
 mixed:=by kernel_rfl
 f6:=⟨Try.f51.name,by decide,Try.func51.trans (SH some (by kernel_rfl))⟩
 f14:=⟨Try.f74.name,by decide,Try.func74.trans (SH some (by kernel_rfl))⟩
 f15:=Try.func75.trans (SH some (by kernel_rfl))
 f20:=⟨Try.f88.name,by decide,Try.func88.trans (SH some (by kernel_rfl))⟩
 f21:=⟨Try.f89.name,by decide,Try.func89.trans (SH some (by kernel_rfl))⟩
 f22:=⟨Try.f90.name,by decide,Try.func90.trans (SH some (by kernel_rfl))⟩
 f23:=⟨Try.f91.name,by decide,Try.func91.trans (SH some (by kernel_rfl))⟩
 f24:=⟨Try.f92.name,by decide,Try.func92.trans (SH some (by kernel_rfl))⟩
 f25:=⟨Try.f93.name,by decide,Try.func93.trans (SH some (by kernel_rfl))⟩
 f26:=⟨Try.f94.name,by decide,Try.func94.trans (SH some (by kernel_rfl))⟩
 f27:=⟨Try.f95.name,by decide,Try.func95.trans (SH some (by kernel_rfl))⟩
 f28:=Try.func96.trans (SH some (by kernel_rfl))
 f29:=Try.func97.trans (SH some (by kernel_rfl))
 f46:=⟨Try.f99.name,by decide,Try.func99.trans (SH some (by kernel_rfl))⟩
 f47:=Try.func100.trans (SH some (by kernel_rfl))
 f48:=Try.func101.trans (SH some (by kernel_rfl))
 f49:=⟨Try.f102.name,by decide,Try.func102.trans (SH some (by kernel_rfl))⟩
 f50:=⟨Try.f103.name,by decide,Try.func103.trans (SH some (by kernel_rfl))⟩
 f57:=⟨Try.f104.name,by decide,Try.func104.trans (SH some (by kernel_rfl))⟩
 t0:=Try.underlying0
 a0:=Try.isAgg0
 z0:=Try.sizeOf0
 v0:=Try.zeroValue0
 t3:=Try.underlying3
 a3:=Try.isAgg3
 z3:=Try.sizeOf3
 v3:=Try.zeroValue3
 t4:=Try.underlying4
 a4:=Try.isAgg4
 z4:=Try.sizeOf4
 v4:=Try.zeroValue4
 t5:=Try.underlying5
 a5:=Try.isAgg5
 z5:=Try.sizeOf5
 v5:=Try.zeroValue5
 t9:=Try.underlying9
 a9:=Try.isAgg9
 z9:=Try.sizeOf9
 v9:=Try.zeroValue9
 t22:=Try.underlying37
 a22:=Try.isAgg37
 z22:=Try.sizeOf37
 v22:=Try.zeroValue37
 t25:=Try.underlying107
 a25:=Try.isAgg107
 z25:=Try.sizeOf107
 v25:=Try.zeroValue107
 t39:=Try.underlying124
 a39:=Try.isAgg124
 z39:=Try.sizeOf124
 v39:=Try.zeroValue124
 t45:=Try.underlying139
 a45:=Try.isAgg139
 z45:=Try.sizeOf139
 v45:=Try.zeroValue139
 t46:=Try.underlying140
 a46:=Try.isAgg140
 z46:=Try.sizeOf140
 v46:=Try.zeroValue140
 t50:=Try.underlying72
 a50:=Try.isAgg72
 z50:=Try.sizeOf72
 v50:=Try.zeroValue72
 t53:=Try.underlying146
 a53:=Try.isAgg146
 z53:=Try.sizeOf146
 v53:=Try.zeroValue146
 t55:=Try.underlying148
 a55:=Try.isAgg148
 z55:=Try.sizeOf148
 v55:=Try.zeroValue148
 t66:=Try.underlying151
 a66:=Try.isAgg151
 z66:=Try.sizeOf151
 v66:=Try.zeroValue151
 t70:=Try.underlying155
 a70:=Try.isAgg155
 z70:=Try.sizeOf155
 v70:=Try.zeroValue155
 t76:=Try.underlying157
 a76:=Try.isAgg157
 z76:=Try.sizeOf157
 v76:=Try.zeroValue157
 t77:=Try.underlying90
 a77:=Try.isAgg90
 z77:=Try.sizeOf90
 v77:=Try.zeroValue90}
end Go.Proofs
namespace Go.Proofs.Ytmndpgfbkicndaa
open Go Go.Ab Go.Ab.W
set_option maxRecDepth 10000
noncomputable def Em:Env:={ P:=Try.prog,glob:=0,cP:=fun _=>none,mono:=True}
def pJ:EnvOk Em:=zg yZ fun f p hp=>by cases hp
namespace W52
set_option maxHeartbeats 4000000
attribute [local irreducible] Tm.at Trie.set Trie.get Vn.get Vn.set Vn.alloc Vn.ww Vn.kill
def Rx(n:Nat)(x1:Int)(x2:Int)(x3:Int)(x4:Int)(x5:Int)(x6:Int)(x7:Int)(x8:Int):VA Int :=
ob (some (UE ((UE (120*(UE (x1-x5))))+x2))) fun y11 =>
some (UE (y11-x6))
def FJ:∀b o,aC Em.P 44 (ptr b o) 0=some (ptr b (o+0)):=fun _ _=>by kernel_rfl
def bZ:TyI Em.P 3 false 1:=⟨by kernel_rfl,by kernel_rfl,by kernel_rfl⟩
def II:∀b o,aC Em.P 44 (ptr b o) 1=some (ptr b (o+1)):=fun _ _=>by kernel_rfl
def NO(n:Nat)(x1:Int)(x2:Int)(x3:Int)(x4:Int)(x5:Int)(x6:Int)(x7:Int)(x8:Int)  (r:Int)(hF:Rx n x1 x2 x3 x4 x5 x6 x7 x8=some r)(m:Vn)  :
  aK Em 52 [.agg #[.int .i64 x1,.int .i64 x2,.int .i64 x3,.int .i64 x4],.agg #[.int .i64 x5,.int .i64 x6,.int .i64 x7,.int .i64 x8]] m (Vm m (.int .i64 r)):=by
 unfold Rx at hF;refine aS (m0:=m) (ps:=[]) (N:=17) (rs:=[.tmp 4]) rfl Try.func52 rfl rfl rfl (UU m) ?_;refine UJ ?_;refine UK ?_;refine UX (Ma rfl) gn rfl fun b9=>?_;refine UX (Ma rfl) gn rfl fun b10=>?_;refine UI (bG rfl) rfl ?_;refine UQ ?_;refine UR ?_;refine UJ ?_;refine UK ?_;refine UI (aG (r:=ptr b9 0) rfl (FJ _ _)) rfl ?_;refine UI (aI (k:=1) bZ rfl rfl rfl) rfl ?_;refine UI (aG (r:=ptr b10 0) rfl (FJ _ _)) rfl ?_;refine UI (aI (k:=0) bZ rfl rfl rfl) rfl ?_;refine UI (aJ rfl rfl (cK _ _ _)) rfl ?_;refine UI (aJ rfl rfl (cT _ _ _)) rfl ?_;refine UI (aG (r:=ptr b9 1) rfl (II _ _)) rfl ?_;refine UI (aI (k:=1) bZ rfl rfl rfl) rfl ?_;obtain⟨y11,h12,hF⟩:=J hF;refine UI (aJ rfl rfl ((bD _ _ _).trans (cI h12))) rfl ?_;refine UI (aG (r:=ptr b10 1) rfl (II _ _)) rfl ?_;refine UI (aI (k:=0) bZ rfl rfl rfl) rfl ?_;refine UI (aJ rfl rfl (cK _ _ _)) rfl ?_;refine UI (bG rfl) rfl ?_;refine UQ ?_;refine UR ?_;refine U9 ?_;cases hF;exact UY (.tmp rfl .nil) fun m' hm=>⟨(),rfl,(UO [] rfl rfl) m' hm⟩
end W52
def vd(x y:dS):Int:=UE (UE (UE (120*UE (x.1-y.1))+x.2.1)-y.2.1)
def vm(x y:dS){W:UD} :
  Calls Try.prog 52 #[.agg (fa x).toArray,.agg (fa y).toArray] W fun e W'=>e=.returned (.int .i64 (vd x y))/\∃q os,W'=Sort.grow (W.drewN q) os :=
 A8 (E:=Em) pJ (hmono:=trivial) (f:=52) (args:=[.agg #[.int .i64 x.1,.int .i64 x.2.1,.int .i64 x.2.2.1,.int .i64 x.2.2.2],.agg #[.int .i64 y.1,.int .i64 y.2.1,.int .i64 y.2.2.1,.int .i64 y.2.2.2]]) rfl (by intro v hv; simp at hv; rcases hv with rfl|rfl<;>rfl) rfl
  ((W52.NO 5 x.1 x.2.1 x.2.2.1 x.2.2.2 y.1 y.2.1 y.2.2.1 y.2.2.2 (vd x y) rfl _).mono fun v m' ⟨_,h,_⟩=>h) (Tn _)
def rY{x:Int}(h1 : -1000000<=x)(h2:x<=1000000):UE x=x:=by
 simp only[IntKind.wrap,IntKind.bits,IntKind.signed]
 show(if(true&&decide (x%18446744073709551616≥9223372036854775808))=true then x%18446744073709551616-18446744073709551616 else x%18446744073709551616)=x
 simp only[TL,Sj]
 split<;>omega
def uD(x:dS):Prop:=0<=x.1/\x.1<120/\0<=x.2.1/\x.2.1<120
def HG{x y:dS}(hx:uD x)(hy:uD y):vd x y=120*(x.1-y.1)+x.2.1-y.2.1:=by
 obtain⟨a1,a2,a3,a4⟩:=hx;obtain⟨b1,b2,b3,b4⟩:=hy;unfold vd;rw[rY (x:=x.1-y.1) (by omega) (by omega),rY (x:=120*(x.1-y.1)) (by omega) (by omega),rY (x:=120*(x.1-y.1)+x.2.1) (by omega) (by omega),rY (by omega) (by omega)]
def Fq{x y:dS}(hx:uD x)(hy:uD y):vd x y<0↔x.1<y.1\/x.1=y.1/\x.2.1<y.2.1:=by
 rw[HG hx hy];obtain⟨a1,a2,a3,a4⟩:=hx;obtain⟨b1,b2,b3,b4⟩:=hy;omega
def Cn(w:UD):(isAgg 44).run Try.prog w=.ok true w:=by rw[nG (by kernel_rfl) w,show dQ Try.prog 44=true by kernel_rfl]
def zp(w:UD):(Go.sizeOf 44).run Try.prog w=.ok 4 w:=by rw[cB (by kernel_rfl) w,show aB Try.prog 44=4 by kernel_rfl]
def Db:∀args w,(callFunc 52 args).run Try.prog w=.ok (.enter 52 args) w:=fun args w=>pJ.call 52 _ _ Try.func52 rfl args w
end Go.Proofs.Ytmndpgfbkicndaa
namespace Go.Proofs
open Go.Shelf
def Try.FF:Go.Shelf.Ren:=⟨fun|45=>85|n=>n,fun|22=>52|23=>51|3=>3|4=>4|0=>0|n=>n,fun|n=>n⟩
def Try.Qz:Go.Proofs.SlLaysE.n45 Try.prog Try.FF:={
 mixed:=by kernel_rfl
 f45:=⟨Try.f85.name,by decide,Try.func85.trans (SH some (by kernel_rfl))⟩
 t0:=Try.underlying0
 a0:=Try.isAgg0
 z0:=Try.sizeOf0
 v0:=Try.zeroValue0
 t3:=Try.underlying3
 a3:=Try.isAgg3
 z3:=Try.sizeOf3
 v3:=Try.zeroValue3
 t4:=Try.underlying4
 a4:=Try.isAgg4
 z4:=Try.sizeOf4
 v4:=Try.zeroValue4
 t22:=Try.underlying52
 a22:=Try.isAgg52
 z22:=Try.sizeOf52
 v22:=Try.zeroValue52
 a23:=Try.isAgg51
 z23:=Try.sizeOf51}
def Try.Fp:Go.Shelf.Ren:=⟨fun|45=>48|n=>n,fun|22=>51|23=>3|3=>3|4=>4|0=>0|n=>n,fun|n=>n⟩
def Try.Ro:Go.Proofs.SlLaysE.n45 Try.prog Try.Fp:={
 mixed:=by kernel_rfl
 f45:=⟨Try.f48.name,by decide,Try.func48.trans (SH some (by kernel_rfl))⟩
 t0:=Try.underlying0
 a0:=Try.isAgg0
 z0:=Try.sizeOf0
 v0:=Try.zeroValue0
 t3:=Try.underlying3
 a3:=Try.isAgg3
 z3:=Try.sizeOf3
 v3:=Try.zeroValue3
 t4:=Try.underlying4
 a4:=Try.isAgg4
 z4:=Try.sizeOf4
 v4:=Try.zeroValue4
 t22:=Try.underlying51
 a22:=Try.isAgg51
 z22:=Try.sizeOf51
 v22:=Try.zeroValue51
 a23:=Try.isAgg3
 z23:=Try.sizeOf3}
end Go.Proofs
namespace Go.Ab
open Go
section
variable{E:Env}{j:aP}{m:Vn}{w:UD}
def VR.at{b o l c:Nat}{v':Uz}(h:VR j (.slice (some ⟨b,o,none⟩) l c) v'):∃k c',j b=some k/\v'=.slice (some ⟨k.c,o,none⟩) l c':=by
 cases h with
 | slice hj hm=>exact⟨_,_,hj,rfl⟩
 | sliceM hj hm _ _ _ _=>exact⟨_,_,hj,rfl⟩
end
end Go.Ab
namespace Go.Proofs.Ytmndpgfbkicndaa
open Go Go.Ab Go.Ab.W
set_option maxRecDepth 10000
def q5:∀l:VB dS,cF (l.map fa).flatten=some l
 | []=>rfl
 |(a,b,c,d)::l=>by
  show(cF (l.map fa).flatten).map _=_
  rw[q5 l]; rfl
def yc:∀{cs:VB Uz} {l:VB dS},cF cs=some l->cs=(l.map fa).flatten:=by
 intro cs
 induction cs using cF.induct with
 | case1=>intro l h; cases h; rfl
 | case2 a b c d r ih =>
  intro l h;have h':(cF r).map ((a,b,c,d)::·)=some l:=h;cases hr:cF r with
  | none=>rw[hr] at h'; cases h'
  | some l' =>
   rw[hr] at h'; cases h';rw[ih hr]; rfl
 | case3 cs h1 h2 =>
  intro l h;unfold cF at h
  split at h
  exact Sw rfl h1
  rename_i a b c d r;exact Sw rfl (h2 a b c d r)
  cases h
def oZ(l:VB dS):((l.map fa).flatten).all aQ=true:=by
 induction l with
 | nil=>rfl
 | cons x l ih=>rw[Ts,S6,List.all_append,ih]; rfl
def lX{m:Vn}{w b n n':Nat}{cs:VB Uz}{tg:Tag}(h:gO m w b n n'=some (cs,tg)):m.get b=some (.cells cs tg)/\tg≠.ro/\n=n'/\cs.length=n*w/\(tg=.own\/tg=.more w):=by
 unfold gO at h
 split at h
 rename_i cs' hg
 split at h
 rename_i hc; cases h; exact⟨hg,(by intro e; cases e),hc.1,hc.2,.inl rfl⟩
 cases h
 rename_i cs' k hg
 split at h
 rename_i hc; cases h; exact⟨hg,(by intro e; cases e),hc.1,hc.2.1,.inr (by rw[hc.2.2])⟩
 cases h
 cases h
def Ak{j:aP}{f:VI}{xs ys:VD Uz}{v:Uz}(h:VR j (.func (.func f) xs ys) v)(h1:xs.size=0)(h2:ys.size=0):v=.func (.func f) #[] #[]:=by
 cases h with
 | @func _ _ ys' _ ds a _ c _ =>
  have e1:ys'=#[]:=T5 (a.symm.trans h1);have e2:ds=#[]:=T5 (c.symm.trans h2);rw[e1,e2]
def oW{n:Nat}(h:lim n=true):n<=1073741824:=Th h
def tX{l:VB dS}(h:qz l=true):(∀x∈l,uD x)/\(l.map fun x=>(x.1,x.2.1)).Nodup:=by
 unfold qz at h;simp only[R9,Sj] at h;refine⟨fun x hx=>?_,h.2⟩;have:=Sp.1 h.1 x hx;simp only[R9,Sj] at this;exact⟨this.1.1.1,this.1.1.2,this.1.2,this.2⟩
section
variable(l:VB dS)
abbrev Pl:={ x:dS // x∈l}
def AA(x y:Pl l):Int:=vd x.1 y.1
variable{l}
def Oz(hl:∀x∈l,uD x)(x y:Pl l):Go.Proofs.ltOf (AA l) x y=decide (x.1.1<y.1.1\/x.1.1=y.1.1/\x.1.2.1<y.1.2.1):=by
 unfold Go.Proofs.ltOf AA
 congr 1
 exact propext (Fq (hl _ x.2) (hl _ y.2))
def PB(hl:∀x∈l,uD x):Go.Sort.SWO (Go.Proofs.ltOf (AA l)) where
 irrefl x:=by rw[Oz hl]; simp
 trans x y z h1 h2:=by rw[Oz hl] at *; simp only[Sj] at *; omega
 ntrans x y z h1 h2:=by rw[Oz hl] at *; simp only[decide_eq_false_iff_not] at *; omega
def nB{α β:Type}{f:α->β}:∀{l:VB α},(l.map f).Nodup->∀{x y:α},x∈l->y∈l->f x=f y->x=y
 | [],_,_,_,hx,_,_=>by cases hx
 | a::l,h,x,y,hx,hy,e=>by
  rw[Ts] at h;obtain⟨h1,h2⟩:=TI.1 h;rcases Sr.1 hx with ex|hx
  rcases Sr.1 hy with ey|hy
  rw[ex,ey]
  exact Sw (Sy.2 ⟨y,hy,by rw[<-e,ex]⟩) h1
  rcases Sr.1 hy with ey|hy
  exact Sw (Sy.2 ⟨x,hx,by rw[e,ey]⟩) h1
  exact nB h2 hx hy e
def O1(hl:∀x∈l,uD x)(hn:(l.map fun x=>(x.1,x.2.1)).Nodup)(x y:Pl l)(h1:Go.Proofs.ltOf (AA l) x y=false)(h2:Go.Proofs.ltOf (AA l) y x=false):x=y:=by
 rw[Oz hl] at h1 h2;simp only[decide_eq_false_iff_not] at h1 h2;exact Subtype.ext (nB hn x.2 y.2 (SO (by simp only; omega) (by simp only; omega)))
end
def EK{α β:Type}(f:α->β)(le:β->β->Bool):∀(n:Nat) (l:VB α),l.length=n->(l.mergeSort (fun x y=>le (f x) (f y))).map f=(l.map f).mergeSort le:=fun _ l _=>List.map_mergeSort (fun _ _ _ _=>rfl)
def JF{l:VB dS}(hl:∀x∈l,uD x):(fun x y:Pl l=>!(Go.Proofs.ltOf (AA l)) y x)=fun x y=>dY x.1 y.1:=by
 funext x y
 rw[Oz hl]; unfold dY;rw[<-decide_not]
 congr 1
 apply propext; omega
def xZ:∀args w,(callFunc 51 args).run Try.prog w=.ok (.enter 51 args) w:=fun args w=>pJ.call 51 _ _ Try.func51 rfl args w
def AM{p q:VA Prim}{pr:Bool}{args:VB Uz}{m m':Vn}{v:Uz}(h:k5 args m=some (v,m')){j:aP}{w:UD}{args':VB Uz}(hm:MR (Vq p q) j m w)(hl:LR j args args') :
  gN (Vq p q).P pr 51 args'.toArray w (jx (Vq p q) j m w v m'):=by
 unfold k5 at h
 split at h
 rename_i c xs ys
 split at h
 rename_i hc; cases h;obtain⟨v0,vs,rfl,h1,hvs⟩:=hl.cons_inv;obtain⟨v1,v2,rfl,h2,h3⟩:=hvs.cons_inv;obtain rfl:=h3.dm;have e2:=Ak h2 hc.1 hc.2;subst e2;cases h1;have hcon:=Go.Proofs.AnyF.slices_SortFunc_none Try.AW none c (.func (.func 52) #[] #[]) w
 change Calls Try.prog 51 _ _ _ at hcon
 refine .inl ⟨xZ _ _,callsIn_wide.2 ?_⟩;refine Calls.mono hcon ?_;rintro e w' ⟨rfl,rfl⟩;exact⟨_,rfl,j,.refl hm,VR.undef j⟩
 cases h
 rename_i b n n' xs ys
 split at h
 rename_i cs tg hcs;obtain⟨hg,htg,rfl,hcl,_⟩:=lX hcs
 split at h
 rename_i l h7
 split at h
 rename_i hc; cases h;obtain⟨⟨h8,h9⟩,hlim,hok⟩:=hc;obtain⟨h4,h10⟩:=tX hok;obtain⟨v0,vs,rfl,h1,hvs⟩:=hl.cons_inv;obtain⟨v1,v2,rfl,h2,h3⟩:=hvs.cons_inv;obtain rfl:=h3.dm;have e2:=Ak h2 h8 h9;subst e2;obtain⟨k,c',hk,rfl⟩:=h1.at
 have ecs:=yc h7;have hp:cs.all aQ=true:=by rw[ecs]; exact oZ l
 have h5:∀x:dS,(fa x).length=4:=fun _=>rfl;have hlen:l.length=n:=by
  have:=cG h5 l;rw[<-ecs,hcl] at this; omega
 by_cases hnil:l=[]
 
 subst hnil;have h11:n=0:=by rw[<-hlen]; rfl
 have h12:cs=[]:=ecs;subst h11 h12;have:Inhabited (Pl [((0,0,0,0):dS)]):=⟨⟨(0,0,0,0),Se.2 rfl⟩⟩;have h6:∀x∈[((0,0,0,0):dS)],uD x:=fun x hx=>by rw[Se.1 hx]; exact⟨by decide,by decide,by decide,by decide⟩
 have h0:∀x:Pl [((0,0,0,0):dS)],(fa x.1).length=4:=fun _=>rfl;have hH:Go.Sort.HoldsK (fun x:Pl [((0,0,0,0):dS)]=>fa x.1) 4 w k.c 0 ([]:VB (Pl [((0,0,0,0):dS)])).toArray:=by
  unfold Go.Sort.HoldsK;rw[gY h0 (by decide)]
  exact u7 hm hk hg htg rfl
 have hcon:=Go.Proofs.AnyQ.slices_SortFunc_total Try.AW 4 (fun w=>Cn w) (fun w=>zp w) (fun x:Pl [((0,0,0,0):dS)]=>fa x.1) h0 (fun x v hv=>by simp[fa,eP,eI] at hv; rcases hv with rfl|rfl|rfl|rfl<;>rfl) (AA _) (PB h6) 52 #[] k.c 0 c' ([]:VB (Pl [((0,0,0,0):dS)])).toArray w Db
  (fun m os dk _ x y=>vm x.1 y.1) hH (hm.lt b k hk).2 (by simp) (O1 h6 (by decide))
 change Calls Try.prog 51 _ _ _ at hcon
 simp only[T0,List.length_nil] at hcon;refine .inl ⟨xZ _ _,callsIn_wide.2 ?_⟩;refine Calls.mono hcon ?_;rintro e w' ⟨rfl,q,os,rfl⟩;refine⟨_,rfl,j,?_,VR.undef j⟩;unfold Go.Proofs.sortWorldK Go.Sort.putRowK;rw[gY h0 (by decide)]
 rw[List.mergeSort_nil,List.mergeSort_nil];exact Co hm hk hg rfl rfl q os
 have:Inhabited (Pl l):=⟨⟨l.head hnil,List.head_mem hnil⟩⟩;have h0:∀x:Pl l,(fa x.1).length=4:=fun _=>rfl;have eat:(l.attach.map fun x:Pl l=>fa x.1)=l.map fa:=by
  rw[show(fun x:Pl l=>fa x.1)=fa ∘ Subtype.val from rfl,<-Uf,List.attach_map_subtype_val]
 have hH:Go.Sort.HoldsK (fun x:Pl l=>fa x.1) 4 w k.c 0 l.attach.toArray:=by
  unfold Go.Sort.HoldsK;rw[gY h0 (by decide),eat,<-ecs]
  exact u7 hm hk hg htg hp
 have hcon:=Go.Proofs.AnyQ.slices_SortFunc_total Try.AW 4 (fun w=>Cn w) (fun w=>zp w) (fun x:Pl l=>fa x.1) h0 (fun x v hv=>by simp[fa,eP,eI] at hv; rcases hv with rfl|rfl|rfl|rfl<;>rfl) (AA l) (PB h4) 52 #[] k.c 0 c' l.attach.toArray w Db
  (fun m os dk _ x y=>vm x.1 y.1) hH (hm.lt b k hk).2 (by have:=oW hlim; simp; omega) (O1 h4 h10)
 change Calls Try.prog 51 _ _ _ at hcon
 rw[JF h4] at hcon;simp only[T0,List.length_attach,hlen] at hcon;refine .inl ⟨xZ _ _,callsIn_wide.2 ?_⟩;refine Calls.mono hcon ?_;rintro e w' ⟨rfl,q,os,rfl⟩;refine⟨_,rfl,j,?_,VR.undef j⟩;unfold Go.Proofs.sortWorldK Go.Sort.putRowK;rw[gY h0 (by decide)]
 have e0:((l.attach.mergeSort fun x y:Pl l=>dY x.1 y.1).map fun x:Pl l=>fa x.1)=(l.mergeSort dY).map fa:=by
  rw[show(fun x:Pl l=>fa x.1)=fa ∘ Subtype.val from rfl,<-Uf,EK Subtype.val dY _ _ rfl,List.attach_map_subtype_val]
 rw[e0];exact Co hm hk hg (by rw[cG h5,hcl,List.length_mergeSort,hlen]) (oZ _) q os
 cases h
 cases h
 cases h
 cases h
abbrev C1:={ v:Uz // v.oneCell'=true}
instance:Inhabited C1:=⟨⟨.slice none 0 0,rfl⟩⟩
def MG{j:aP}{v v':Uz}(h:VR j v v')(hv:kT v=true):v'.oneCell'=true:=by
 have h1:=uc h hv;cases v'<;>first|rfl|cases h1
def G1{j:aP}{cs cc:VB Uz}(h:LR j cs cc)(ho:cs.all kT=true):∃l:VB C1,l.map Subtype.val=cc:=by
 have h1:∀v∈cc,v.oneCell'=true:=fun v hv=>by
  obtain⟨i,hi⟩:=List.mem_iff_getElem?.1 hv;have hl:i<cs.length:=by rw[h.1]; exact(Sl.1 hi).1
  obtain⟨v',g1,g2⟩:=h.2 i cs[i] (R6 hl);rw[hi] at g1; cases g1;exact MG g2 (Sp.1 ho _ (Su hl))
 exact⟨cc.attach.map fun x=>⟨x.1,h1 x.1 x.2⟩,by rw[Uf]; exact List.attach_map_subtype_val cc⟩
def Hz{j:aP}{a a' b b':VB Uz}(h:LR j a a')(g:LR j b b'):LR j (a++b) (a'++b'):=by
 refine⟨by rw[Sn,Sn,h.1,g.1],fun i v hi=>?_⟩
 by_cases hc:i<a.length
 rw[T6,R7 hc] at hi;rw[T6,R7 (by have:=h.1; omega)]
 exact h.2 i v hi
 rw[T6,R5 hc] at hi;rw[T6,R5 (by have:=h.1; omega),<-h.1]
 exact g.2 _ v hi
def Jp{j:aP}{a a':VB Uz}(h:LR j a a')(n:Nat):LR j (a.take n) (a'.take n):=by
 refine⟨by rw[Sq,Sq,h.1],fun i v hi=>?_⟩
 rw[Tk] at hi ⊢
 split at hi
 rename_i hc; rw[R7 hc]; exact h.2 i v hi
 cases hi
def JU{j:aP}{a a':VB Uz}(h:LR j a a')(n:Nat):LR j (a.drop n) (a'.drop n):=by
 refine⟨by rw[SZ,SZ,h.1],fun i v hi=>?_⟩
 rw[Tl] at hi ⊢;exact h.2 _ v hi
def NJ{j:aP}{z z':Uz}(h:VR j z z')(n:Nat):LR j (List.replicate n z) (List.replicate n z'):=by
 refine⟨by simp,fun i v hi=>?_⟩
 rw[List.getElem?_replicate] at hi
 split at hi
 rename_i hc; cases hi;exact⟨z',by rw[List.getElem?_replicate,R7 hc],h⟩
 cases hi
def VR.Pw{E:Env}{j:aP}{m:Vn}{w:UD}(hm:MR E j m w){b n:Nat}{cs:VB Uz}{tg:Tag}(hg:m.get b=some (.cells cs tg))(htg:tg≠.ro)(hlim:lim n=true){v':Uz}(h:VR j (.slice (some ⟨b,0,none⟩) n n) v') :
  ∃k c',j b=some k/\v'=.slice (some ⟨k.c,0,none⟩) n c'/\(n<=c'/\c'<=9223372036854775807)/\∀x,x<=n->VR j (.slice (some ⟨b,0,none⟩) x n) (.slice (some ⟨k.c,0,none⟩) x c'):=by
 have hll:=oW hlim;cases h with
 | slice hj hmo=>exact⟨_,_,hj,rfl,⟨Sa _,by omega⟩,fun x _=>.slice hj hmo⟩
 | sliceM hj hmo a1 a2 a3 a4 =>
  rename_i c' sz na nc k;obtain⟨c0,e0,fz,g1,g2,g3⟩:=hm.fV hj hg;cases tg with
  | ro=>exact Sw rfl htg
  | own=>have:k.more=none:=g2.1; rw[hmo] at this; cases this
  | more sz' =>
   obtain⟨d1,d2,rfl,d4,d5⟩:k.more=some (sz',cs.length,c0.size)/\cs.length<=c0.size/\fz=(0,0)/\0<sz'/\iC sz' c0:=g2;rw[hmo] at d1;simp only[Option.some.injEq,Prod.mk.injEq] at d1;obtain⟨rfl,rfl,rfl⟩:=d1;refine⟨k,c',hj,rfl,⟨a4,?_⟩,fun x hx=>.sliceM hj hmo a1 a2 hx a4⟩;unfold iC at d5;rw[<-a2,TB,Nat.mul_comm] at d5;exact Nat.le_of_mul_le_mul_left d5 d4
def sL{p q:VA Prim}{pr:Bool}{f:VI}{z:Uz}{ρ:Go.Shelf.Ren}(L:Go.Proofs.SlLaysE.n45 Try.prog ρ)(hf:ρ.f 45=f)(F:Func)(c:Code)(hF:Try.prog.funcs[f]? = some F)(hb:F.body=some c)(h0:z.oneCell'=true)(hzr:∀j,VR j z z)
  (v0:∀w,(Go.zeroValue (ρ.t 23)).run Try.prog w=.ok z w) (i0:TypeInfo) (h1:Try.prog.info? (ρ.t 23)=some i0) (h2:i0.size=1)
  {args:VB Uz} {m m':Vn} {v:Uz} (h:jX z args m=some (v,m')) {j:aP} {w:UD} {args':VB Uz} (hm:MR (Vq p q) j m w) (hl:LR j args args') :
  gN (Vq p q).P pr f args'.toArray w (jx (Vq p q) j m w v m'):=by
 unfold jX at h
 split at h
 rename_i b n n' i k
 split at h
 rename_i cs tg hcs;obtain⟨hg,htg,rfl,hcl,_⟩:=lX hcs
 split at h
 rename_i hc; cases h;obtain⟨hi0',hik,hkn,hlim,hone⟩:=hc;obtain⟨v1,vs,rfl,h3,hvs⟩:=hl.cons_inv;obtain⟨v2,v3,rfl,h4,h5⟩:=hvs.cons_inv;obtain⟨v4,v5,rfl,h6,h7⟩:=h5.cons_inv;obtain rfl:=h7.dm;obtain⟨kb,c',hk,rfl,hcap,hres⟩:=VR.Pw hm hg htg hlim h3;cases h4;cases h6;obtain⟨i,rfl⟩:=TY hi0';obtain⟨k,rfl⟩:=TY (show 0<=k by omega)
 simp only[Int.ofNat_le,SG] at *;obtain⟨cc,hcc,hH⟩:=A9 hm hk hg htg;obtain⟨d,rfl⟩:=G1 hcc hone;have hdl:d.length=n:=by have:=hcc.1; rw[Si] at this; omega
 have eH:∀(w:UD) (l:VB C1),Go.Sort.Holds id w kb.c 0 (l.map Subtype.val).toArray->Go.Sort.Holds (Subtype.val:C1->Uz) w kb.c 0 l.toArray:=by
  intro w l h i hi;have hi':i<l.length:=by simpa using hi
  have:=h i (by simpa using hi')
  simpa [hi'] using this
 have hcon:=Go.Proofs.AnyE.slices_Delete L (Subtype.val:C1->Uz) (fun x=>x.2) ⟨z,h0⟩ v0 i0 h1 h2 kb.c 0 c' i k d.toArray w (eH _ _ hH) (by simp[hdl]; exact hcap.1) hcap.2 hik (by simp[hdl]; exact hkn)
 rw[hf] at hcon;simp only[T0,hdl] at hcon;have hent:∀args w,(callFunc f args).run Try.prog w=.ok (.enter f args) w:=fun args w=>pJ.call f F c hF hb args w;refine .inl ⟨hent _ _,callsIn_wide.2 ?_⟩;refine Calls.mono hcon ?_;rintro e w' ⟨rfl,q,rfl⟩;refine⟨_,rfl,j,?_,hres _ (Nat.sub_le _ _)⟩;have e0:Go.Sort.putRow (Subtype.val:C1->Uz) (Sort.ahead w q) kb.c 0 (d.take i++d.drop k++List.replicate (k-i) (⟨z,h0⟩:C1)).toArray=Go.Sort.putRow id (Sort.ahead w q) kb.c 0 ((d.map Subtype.val).take i++(d.map Subtype.val).drop k++List.replicate (k-i) z).toArray:=by
  have e2:∀l:VB C1,Go.Sort.putRow (Subtype.val:C1->Uz) (Sort.ahead w q) kb.c 0 l.toArray=Go.Sort.putRow id (Sort.ahead w q) kb.c 0 (l.map Subtype.val).toArray:=fun l=>by
   unfold Go.Sort.putRow Go.Sort.putCells
   congr 1
   funext c
   congr 1
   funext x v
   simp only[T0,Si,id]
   by_cases hx:0<=x/\x<0+l.length
   simp[show x<l.length by omega]
   rw[R5 hx,R5 hx]
  rw[e2];simp[List.map_take,List.map_drop]
 rw[e0,<-Sort.grow_empty (Go.Sort.putRow id _ _ _ _)];exact E5 hm hk hg (by simp; omega) (Hz (Hz (Jp hcc _) (JU hcc _)) (NJ (hzr j) _)) q #[]
 cases h
 cases h
 cases h
end Go.Proofs.Ytmndpgfbkicndaa
namespace Go.Proofs
open Go.Shelf
def Try.gz:Go.Shelf.Ren:=⟨fun|21=>49|27=>71|28=>72|35=>87|39=>46|n=>n,fun|22=>51|3=>3|4=>4|0=>0|n=>n,fun|n=>n⟩
def Try.EX:Go.Proofs.Lays2.n21 Try.prog Try.gz:={
 mixed:=by kernel_rfl
 f21:=Try.func49.trans (SH some (by kernel_rfl))
 f27:=Try.func71.trans (SH some (by kernel_rfl))
 f28:=Try.func72.trans (SH some (by kernel_rfl))
 f35:=Try.func87.trans (SH some (by kernel_rfl))
 f39:=Try.func46.trans (SH some (by kernel_rfl))
 t0:=Try.underlying0
 a0:=Try.isAgg0
 z0:=Try.sizeOf0
 v0:=Try.zeroValue0
 t3:=Try.underlying3
 a3:=Try.isAgg3
 z3:=Try.sizeOf3
 v3:=Try.zeroValue3
 t4:=Try.underlying4
 a4:=Try.isAgg4
 z4:=Try.sizeOf4
 v4:=Try.zeroValue4
 t22:=Try.underlying51
 a22:=Try.isAgg51
 z22:=Try.sizeOf51
 v22:=Try.zeroValue51
 i3:=by kernel_rfl}
end Go.Proofs
namespace Go.Proofs.Ytmndpgfbkicndaa
section
open Go Go.Ab Go.Ab.W
set_option maxRecDepth 10000
def zC{w:UD}{b o:Nat}{c:VD Uz}{e:UA}{fz:Nat×Nat}{v:Uz}(h:w.heap[b]? = some (.cells c e fz)):w.setCell ⟨b,o,none⟩ v=w.putObj b (.cells (c.setIfInBounds o v) e fz):=by
 unfold World.setCell World.putObj
 congr 1
 apply Ul;intro i;rw[Array.getElem?_modify,TV]
 by_cases hb:b=i
 subst hb;rw[R7 rfl,R7 rfl,h];have:=(Sh.1 h).1;rw[R7 this]; rfl
 rw[R5 hb,R5 hb]
def dO(c:VB Uz)(o:Nat)(v:Uz)(vs:VB Uz)(ho:o+vs.length+1<=c.length):ay (c.set o v) (o+1) vs=ay c o (v::vs):=by
 apply Tg;intro i;rw[aM,aM,Ub,SS,List.getElem?_set]
 by_cases h1:i=o
 subst h1;rw[UG,R7 rfl,UH,UH,Ur]; rfl
 by_cases h2:o+1<=i/\i<o+1+vs.length/\i<c.length
 rw[R7 h2,UH,show i-o=(i-(o+1))+1 by omega]; rfl
 rw[R5 h2,UG,UG]
def eW:∀(vs:VB Uz) (o:Nat) {w:UD} {b:Nat} {c:VD Uz} {e:UA} {fz:Nat×Nat},w.heap[b]? = some (.cells c e fz)->o+vs.length<=c.size->w.setCells b o vs=w.putObj b (.cells (ay c.toList o vs).toArray e fz)
 | [],o,w,b,c,e,fz,h,_=>by
  have:ay c.toList o []=c.toList:=by
   apply Tg;intro i;rw[aM,R5 (by simp; omega)]
  rw[this];exact(mJ h).symm
 | v::vs,o,w,b,c,e,fz,h,hl=>by
  have hb:=(Sh.1 h).1;rw[SS] at hl
  show(w.setCell ⟨b,o,none⟩ v).setCells b (o+1) vs=_
  rw[zC h,eW vs (o+1) (World.putObj_heap_same hb) (by simp; omega),jW]
  congr 3
  rw[Array.toList_setIfInBounds,dO];simp; omega
def Cc{c:VB Uz}{cs:VB Uz}{i:Nat}{v:Uz}(hc:∀(x:Nat) (u:Uz),cs[x]? = some u->c[x]? = some u)(hi:i<=cs.length)(hl:cs.length+1<=c.length) :
  ∀(x:Nat) (u:Uz),(cs.take i++v::cs.drop i)[x]? = some u->(ay (ay c (i+1) (cs.drop i)) i [v])[x]? = some u:=by
 intro x u hx;rw[aM,aM,aY];have hlt:(cs.take i).length=i:=by rw[Sq]; omega
 by_cases h1:x<i
 rw[SU (by omega),Tk,R7 h1] at hx
 rw[UG,UG]
 exact hc x u hx
 rw[SP (by omega),hlt] at hx
 by_cases h2:x=i
 subst h2;rw[Ur] at hx;rw[R7 (by simp; omega),Ur]; exact hx
 obtain⟨y,rfl⟩:∃y,x=i+1+y:=⟨x-(i+1),by omega⟩
 rw[show i+1+y-i=y+1 by omega,SQ] at hx
 have hy:=(Sl.1 hx).1;rw[SZ] at hy;rw[R5 (by simp; omega),R7 (by simp; omega),show i+1+y-(i+1)=y by omega]
 exact hx
def zZ{w:UD}{need old:Nat}{e:UA}(h:need<=1073741825):need<=grownCap w need old e/\grownCap w need old e<=9223372036854775807:=by
 unfold grownCap
 show need<=need+_%(2 ^ 63-need)/\need+_%(2 ^ 63-need)<=_
 have:=SY (w.tape w.drawn (.appendCap need old e)) (show 0<2 ^ 63-need by omega)
 omega
def Kl{ty:UA}{w:UD}{A:VD Uz}{i m:Nat}{vs ds:VB Uz}(h1:i+vs.length<=A.size)(h2:i+m+ds.length<=A.size) :
  ((((w.alloc (.cells A ty)).drew.setCells w.heap.size i vs).drew).setCells w.heap.size (i+m) ds)=w.drew.drew.alloc (.cells (ay (ay A.toList i vs) (i+m) ds).toArray ty):=by
 have hp:(w.alloc (.cells A ty)).heap[w.heap.size]? = some (.cells A ty (0,0)):=by unfold World.alloc; simp
 have hb:w.heap.size<(w.alloc (.cells A ty)).heap.size:=(Sh.1 hp).1;rw[eW (w:=(w.alloc (.cells A ty)).drew) vs i hp h1];have hp2:((w.alloc (.cells A ty)).drew.putObj w.heap.size (.cells (ay A.toList i vs).toArray ty (0,0))).drew.heap[w.heap.size]? = some (.cells (ay A.toList i vs).toArray ty (0,0)):=World.putObj_heap_same hb;rw[eW ds (i+m) hp2 (by simp[aY]; omega)]
 unfold World.alloc World.putObj World.drew;simp;apply Ul;intro x;rw[TV,TT,TT]
 by_cases hx:w.heap.size=x
 subst hx; simp
 rw[R5 hx]; simp[show ¬x=w.heap.size from fun h=>hx h.symm]
def VR.B4{E:Env}{j:aP}{m:Vn}{w:UD}(hm:MR E j m w){b n:Nat}{cs:VB Uz}{tg:Tag}(hg:m.get b=some (.cells cs tg))(htg:tg=.own\/tg=.more 1)(hcl:cs.length=n)(hlim:lim n=true)(hp:cs.all aQ=true){v':Uz}(h:VR j (.slice (some ⟨b,0,none⟩) n n) v') :
  ∃k c' c e,j b=some k/\v'=.slice (some ⟨k.c,0,none⟩) n c'/\w.heap[k.c]? = some (.cells c e (0,0))/\c.size=c'/\n<=c'/\c'<=9223372036854775807/\∀(x:Nat) (u:Uz),cs[x]? = some u->c.toList[x]? = some u:=by
 have hll:=oW hlim;have key:∀{c:VD Uz},(∀(i:Nat) (v:Uz),cs[i]? = some v->∃v',c[i]? = some v'/\VR j v v')->∀(x:Nat) (u:Uz),cs[x]? = some u->c.toList[x]? = some u:=fun g x u hx=>by
  obtain⟨u',g1,g2⟩:=g x u hx;have:=fN (Sp.1 hp u (SA hx)) g2;subst this
  simpa using g1
 cases h with
 | slice hj hmo =>
  rename_i k;obtain⟨c,e,fz,g1,g2,g3⟩:=hm.fV hj hg;rcases htg with rfl|rfl
  obtain⟨_,d2,rfl⟩:k.more=none/\c.size=cs.length/\fz=(0,0):=g2;exact⟨k,n,c,e,hj,rfl,g1,by omega,Sa _,by omega,key g3⟩
  have:k.more=some (1,cs.length,c.size):=g2.1;rw[hmo] at this; cases this
 | sliceM hj hmo a1 a2 a3 a4 =>
  rename_i c' sz na nc k;obtain⟨c,e,fz,g1,g2,g3⟩:=hm.fV hj hg;rcases htg with rfl|rfl
  have:k.more=none:=g2.1;rw[hmo] at this; cases this
  obtain⟨d1,d2,rfl,d4,d5⟩:k.more=some (1,cs.length,c.size)/\cs.length<=c.size/\fz=(0,0)/\0<1/\iC 1 c:=g2;rw[hmo] at d1;simp only[Option.some.injEq,Prod.mk.injEq] at d1;obtain⟨rfl,rfl,rfl⟩:=d1;unfold iC at d5;exact⟨k,c',c,e,hj,rfl,g1,by omega,a4,by omega,key g3⟩
def si(n:Nat):(Builtin.zeroCells (Value.int .i64 0).cells n)=(bj [.int .i64 0] n).toArray:=by
 rw[show(bj [Value.int .i64 0] n)=bj (Value.int .i64 0).cells.toList n from rfl,<-ko (zero:=(Value.int .i64 0).cells)]; rfl
def Cd{p q:VA Prim}{pr:Bool}{args:VB Uz}{m m':Vn}{v:Uz}(h:lu args m=some (v,m')){j:aP}{w:UD}{args':VB Uz}(hm:MR (Vq p q) j m w)(hl:LR j args args') :
  gN (Vq p q).P pr 49 args'.toArray w (jx (Vq p q) j m w v m'):=by
 have hent:∀args w,(callFunc 49 args).run Try.prog w=.ok (.enter 49 args) w:=fun args w=>pJ.call 49 _ _ Try.func49 rfl args w;unfold lu at h
 split at h
 rename_i vb
 split at h
 rename_i v0 h0;cases h;obtain⟨v1,vs,rfl,h1,hvs⟩:=hl.cons_inv;obtain⟨v2,v3,rfl,h2,h3⟩:=hvs.cons_inv;obtain⟨v4,v5,rfl,h4,h5⟩:=h3.cons_inv;obtain rfl:=h5.dm;cases h1; cases h2;obtain⟨kv,c0,cv,ev,hkv,rfl,gv,hv3',h8,h9,h6⟩:=VR.B4 hm h0 (.inl rfl) rfl rfl rfl h4;have hcv:∀(x:Nat) (u:Uz),[Value.int .i64 v0][x]? = some u->w.cell? ⟨kv.c,0+x,none⟩=some u:=fun x u hx=>by
  have:=h6 x u hx;simp only[World.cell?,gv,SE]
  simpa using this
 have hcon:=Go.Proofs.Any2.slices_Insert_int_end_grow Try.EX none 0 0 kv.c 0 1 c0 [] [.int .i64 v0] w (by decide) (by decide) (by decide) (by decide) rfl rfl (fun _=>rfl) (fun a h=>by cases h) hcv (fun v hv=>by rw[Se.1 hv]; rfl)
 change Calls Try.prog 49 _ _ _ at hcon
 refine .inl ⟨hent _ _,callsIn_wide.2 ?_⟩;refine Calls.mono hcon ?_;rintro e w' ⟨rfl,rfl⟩;obtain⟨g0,g2⟩:=zZ (w:=w) (need:=0+1) (old:=0) (e:=Try.gz.t 3) (by decide)
 generalize grownCap w (0+1) 0 (Try.gz.t 3)=cap at g0 g2 ⊢;obtain⟨j',s1,s2⟩:=fK hm (w0:=w.drew) ⟨rfl,rfl,rfl,rfl,Nat.le_succ _⟩ (cs:=[.int .i64 v0]) (cs':=[.int .i64 v0]) (rest:=bj [.int .i64 0] (cap-(0+1))) (elem:=Try.gz.t 3) (sz:=1) (n:=1) (cap:=cap) (.cons (.int _ _) (.nil _)) rfl (by simp[bJ]; omega) g0 (by decide) (ep (by decide) _) g2
 refine⟨_,rfl,j',?_,s2⟩;rw[si];have:(([]:VB Uz)++[Value.int .i64 v0]).toArray++(bj [Value.int .i64 0] (cap-(0+1))).toArray=([Value.int .i64 v0]++bj [Value.int .i64 0] (cap-(0+1))).toArray:=by simp
 rw[this];exact s1
 cases h
 rename_i b n n' i vb
 split at h
 rename_i v0 cs tg h0 hcs;obtain⟨hg,htg,rfl,hcl,h10⟩:=lX hcs;rw[Nat.mul_one] at hcl
 split at h
 rename_i hc;cases h;obtain⟨hne,h11,hin,hlim,hpl⟩:=hc;obtain⟨v1,vs,rfl,h1,hvs⟩:=hl.cons_inv;obtain⟨v2,v3,rfl,h2,h3⟩:=hvs.cons_inv;obtain⟨v4,v5,rfl,h4,h5⟩:=h3.cons_inv;obtain rfl:=h5.dm;cases h2;obtain⟨i,rfl⟩:=TY h11;simp only[Int.ofNat_le,SG] at *;obtain⟨kv,c0,cv,ev,hkv,rfl,gv,hv3',h8,h9,h6⟩:=VR.B4 hm h0 (.inl rfl) rfl rfl rfl h4;obtain⟨kb,c',c,e,hk,rfl,gb,hsz,hnc,h7,hcc⟩:=VR.B4 hm hg h10 hcl hlim hpl h1;have hll:=oW hlim;have hcell:∀{k:Blk} {c:VD Uz} {e:UA},w.heap[k.c]? = some (.cells c e (0,0))->∀x,w.cell? ⟨k.c,x,none⟩=c[x]?:=fun h x=>by simp[World.cell?,h]
 have hfrz:∀{k:Blk} {c:VD Uz} {e:UA},w.heap[k.c]? = some (.cells c e (0,0))->∀x,w.frozen? ⟨k.c,x,none⟩=false:=fun h x=>by simp[World.frozen?,h]
 have hvb:kv.c≠kb.c:=fun hcc=>hne (hm.inj vb b kv kb hkv hk (by rw[h0]; rfl) (by rw[hg]; rfl) hcc)
 have hcv:∀(x:Nat) (u:Uz),[Value.int .i64 v0][x]? = some u->w.cell? ⟨kv.c,0+x,none⟩=some u:=fun x u hx=>by
  have:=h6 x u hx;rw[hcell gv,SE]
  simpa using this
 have hcb:∀(x:Nat) (u:Uz),cs[x]? = some u->w.cell? ⟨kb.c,0+x,none⟩=some u:=fun x u hx=>by
  have:=hcc x u hx;rw[hcell gb,SE]
  simpa using this
 have h1v:∀u∈[Value.int .i64 v0],u.oneCell'=true:=fun u hu=>by rw[Se.1 hu]; rfl
 have h1c:∀u∈cs,u.oneCell'=true:=fun u hu=>by
  have:=Sp.1 hpl u hu;cases u<;>first|rfl|cases this
 have hsp:∀x,x<c'->(w.cell? ⟨kb.c,0+x,none⟩).isSome=true:=fun x hx=>by
  rw[hcell gb,SE,TQ (by omega)]; rfl
 have hbv:(w.heap[kb.c]?).isSome=true:=by rw[gb]; rfl
 have hnew:(cs.take i++Value.int .i64 v0::cs.drop i).length=n+1:=by simp; omega
 have hpn:(cs.take i++Value.int .i64 v0::cs.drop i).all aQ=true:=Sp.2 fun u hu=>by
  rcases St.1 hu with hu|hu
  exact Sp.1 hpl u (Tq hu)
  rcases Sr.1 hu with rfl|hu
  rfl
  exact Sp.1 hpl u (TF hu)
 by_cases hroom:n+1<=c'
 
 have hor:OR j ⟨kb.c,some (1,n+1,c')⟩ (.cells (cs.take i++Value.int .i64 v0::cs.drop i) (.more 1)) (.cells (ay (ay c.toList (i+1) (cs.drop i)) i [.int .i64 v0]).toArray e (0,0)):=by
  refine⟨⟨by rw[hnew]; simp[aY,hsz],by rw[hnew]; simp[aY]; omega,rfl,by decide,by unfold iC; simp[aY]; omega⟩,fun x u hx=>?_⟩
  have:=Cc (v:=.int .i64 v0) hcc (by omega:i<=cs.length) (by simp; omega) x u hx
  exact⟨u,by simpa using this,.aQ (Sp.1 hpn u (SA hx))⟩
 have fin:∀w0:UD,w0.heap=w.heap->Go.Ab.Calm w w0->jx (Vq p q) j m w (.slice (some ⟨m.next,0,none⟩) (n+1) (n+1)) ((m.kill b).alloc (.cells (cs.take i++Value.int .i64 v0::cs.drop i) (.more 1)))
   (.slice (some ⟨kb.c,0,none⟩) (n+1) c') (w0.putObj kb.c (.cells (ay (ay c.toList (i+1) (cs.drop i)) i [.int .i64 v0]).toArray e (0,0))):=fun w0 e0 c1=>by
  have s0:Sim (Vq p q) j m w j m w0:=Sim.of_heap hm e0 c1;have s1:=tK s0.mr hk (by rw[hg]; rfl) hor
  exact⟨_,s0.trans hm s1,.sliceM (k:=⟨kb.c,some (1,n+1,c')⟩) (aP.cd _ _ _) rfl (by omega) (by omega) (Sa _) hroom⟩
 by_cases hlt:i<n
 have hcon:=Go.Proofs.Any2.slices_Insert_int_shift Try.EX kb.c 0 n c' i kv.c 0 1 c0 cs [.int .i64 v0] w hlt (by decide) hroom h7 hvb hcl rfl hcb (fun x hx=>hsp x (by omega)) (fun x _=>hfrz gb _) hcv h1c h1v ev e cv.size c.size
  (by simp[World.shape?,gv]) (by simp[World.shape?,gb]) (by omega) (hfrz gv _) (hfrz gv _)
 change Calls Try.prog 49 _ _ _ at hcon
 refine .inl ⟨hent _ _,callsIn_wide.2 ?_⟩;refine Calls.mono hcon ?_;rintro e' w' ⟨rfl,rfl⟩;refine⟨_,rfl,?_⟩;rw[SE,SE,eW (w:=w.drew) (cs.drop i) (i+1) gb (by simp; omega),eW [.int .i64 v0] i (World.putObj_heap_same (w:=w.drew) (Sh.1 gb).1) (by simp[aY]; omega),jW]
 exact fin w.drew rfl ⟨rfl,rfl,rfl,Nat.le_succ _⟩
 obtain rfl:i=n:=by omega
 have hcon:=Go.Proofs.Any2.slices_Insert_int_end_room Try.EX kb.c 0 i c' kv.c 0 1 c0 [.int .i64 v0] w (by decide) hroom h7 rfl (fun x hx=>by rw[Nat.add_assoc]; exact hsp (i+x) (by omega)) (fun x _=>hfrz gb _) hcv h1v
 change Calls Try.prog 49 _ _ _ at hcon
 refine .inl ⟨hent _ _,callsIn_wide.2 ?_⟩;refine Calls.mono hcon ?_;rintro e' w' ⟨rfl,rfl⟩;refine⟨_,rfl,?_⟩;have hd:ay c.toList (i+1) (cs.drop i)=c.toList:=by
  rw[List.drop_of_length_le (by omega)]
  apply Tg;intro x;rw[aM,R5 (by simp; omega)]
 rw[SE,eW [.int .i64 v0] i gb (by simp; omega)]
 have:=fin w rfl ⟨rfl,rfl,rfl,Sa _⟩;rw[hd] at this;exact this
 
 have hc':c'=n:=by omega
 subst hc';have sk:=zq hm hk;have fin:∀(w0:UD) (cap:Nat) (rest:VB Uz),w0.heap=w.heap->Go.Ab.Calm w w0->c'+1<=cap->cap<=9223372036854775807->rest.all aQ=true->c'+1+rest.length=cap->jx (Vq p q) j m w (.slice (some ⟨m.next,0,none⟩) (c'+1) (c'+1)) ((m.kill b).alloc (.cells (cs.take i++Value.int .i64 v0::cs.drop i) (.more 1)))
   (.slice (some ⟨w.heap.size,0,none⟩) (c'+1) cap) (w0.alloc (.cells ((cs.take i++Value.int .i64 v0::cs.drop i)++rest).toArray (Try.gz.t 3))):=fun w0 cap rest e0 c1 g0 g2 g1 g3=>by
  obtain⟨j',s1,s2⟩:=fK sk.mr (w0:=w0) ⟨e0,c1⟩ (cs:=cs.take i++Value.int .i64 v0::cs.drop i) (cs':=cs.take i++Value.int .i64 v0::cs.drop i) (rest:=rest) (elem:=Try.gz.t 3) (sz:=1) (n:=c'+1) (cap:=cap) (LR.plain hpn) (by rw[hnew,Nat.mul_one]) (by rw[Sn,hnew]; omega) g0 (by decide) g1 g2
  have e3:(m.kill b).next=m.next:=Vn.next_kill _ _
  rw[e3] at s2;exact⟨j',sk.trans hm s1,s2⟩
 obtain⟨g0,g2⟩:=zZ (w:=w) (need:=c'+1) (old:=c') (e:=Try.gz.t 3) (by omega)
 by_cases hlt:i<c'
 have hcon:=Go.Proofs.Any2.slices_Insert_int_grow Try.EX kb.c 0 c' c' i kv.c 0 1 c0 cs [.int .i64 v0] w hlt (by decide) (Sa _) (by omega) (by omega) hcl rfl hcb hcv h1c h1v
 change Calls Try.prog 49 _ _ _ at hcon
 refine .inl ⟨hent _ _,callsIn_wide.2 ?_⟩;refine Calls.mono hcon ?_;rintro e' w' ⟨rfl,rfl⟩;generalize grownCap w (c'+1) c' (Try.gz.t 3)=cap at g0 g2 ⊢;refine⟨_,rfl,?_⟩;rw[si,si];obtain⟨A,hA⟩:∃A:VD Uz,A=(cs.take i).toArray++(bj [Value.int .i64 0] (c'+1-i)).toArray++(bj [Value.int .i64 0] (cap-(c'+1))).toArray:=⟨_,rfl⟩;have hAl:A.toList=cs.take i++(bj [Value.int .i64 0] (c'+1-i)++bj [Value.int .i64 0] (cap-(c'+1))):=by rw[hA]; simp
 have hAs:A.size=cap:=by rw[<-TS,hAl]; simp[bJ]; omega
 rw[<-hA,Kl (A:=A) (i:=i) (m:=1) (vs:=[.int .i64 v0]) (ds:=cs.drop i) (by simp; omega) (by simp; omega)]
 have:=fin w.drew.drew cap (bj [.int .i64 0] (cap-(c'+1))) rfl ⟨rfl,rfl,rfl,by show w.drawn<=w.drawn+1+1; omega⟩ g0 g2 (ep (by decide) _) (by simp[bJ]; omega)
 have e1:ay (ay A.toList i [Value.int .i64 v0]) (i+1) (cs.drop i)=(cs.take i++Value.int .i64 v0::cs.drop i)++bj [Value.int .i64 0] (cap-(c'+1)):=by
  apply Tg;intro x;have hti:(cs.take i).length=i:=by rw[Sq]; omega
  rw[aM,aM,aY];have hAL:A.toList.length=cap:=by rw[TS,hAs]
  by_cases h13:x<i
  rw[UG,UG,hAl,SU (by omega),S7,SU (by omega)]
  by_cases h12:x=i
  subst h12;rw[UG,R7 (by simp; omega),S7,SP (by omega),hti,Ur]; rfl
  by_cases h14:x<c'+1
  rw[R7 (by simp; omega),S7,SP (by omega),hti,show x-i=(x-(i+1))+1 by omega,TX,SQ,SU (by simp; omega)]
  rw[R5 (by simp; omega),R5 (by simp; omega),hAl,SP (by omega),hti,SP (by rw[bJ]; simp; omega),SP (by omega),bJ,hnew]
  congr 1
  simp; omega
 rw[e1]; exact this
 obtain rfl:i=c':=by omega
 have hcon:=Go.Proofs.Any2.slices_Insert_int_end_grow Try.EX (some ⟨kb.c,0,none⟩) i i kv.c 0 1 c0 cs [.int .i64 v0] w (by decide) (Sa _) (by omega) (by omega) hcl rfl (fun h=>by cases h) (fun a ha x u hx=>by cases ha; rw[Addr.add_lit]; exact hcb x u hx) hcv h1v
 change Calls Try.prog 49 _ _ _ at hcon
 refine .inl ⟨hent _ _,callsIn_wide.2 ?_⟩;refine Calls.mono hcon ?_;rintro e' w' ⟨rfl,rfl⟩;generalize grownCap w (i+1) i (Try.gz.t 3)=cap at g0 g2 ⊢;refine⟨_,rfl,?_⟩;rw[si];have:=fin w.drew cap (bj [.int .i64 0] (cap-(i+1))) rfl ⟨rfl,rfl,rfl,Nat.le_succ _⟩ g0 g2 (ep (by decide) _) (by simp[bJ]; omega)
 have e1:(cs++[Value.int .i64 v0]).toArray++(bj [Value.int .i64 0] (cap-(i+1))).toArray=((cs.take i++Value.int .i64 v0::cs.drop i)++bj [Value.int .i64 0] (cap-(i+1))).toArray:=by
  rw[TG (by omega),List.drop_of_length_le (by omega)]; simp
 rw[e1]; exact this
 cases h
 cases h
 cases h
end
section
open Go Go.Ab Go.Ab.W
def CI{t:UA}(h:(Try.prog.info? t).map (·.size)=some 1):∃i,Try.prog.info? t=some i/\i.size=1:=by
 cases e:Try.prog.info? t with
 | none=>rw[e] at h; cases h
 | some i=>rw[e] at h; exact⟨i,rfl,Sb h⟩
def s8:EnvOk (Vq none none):=zg yZ fun f P hp args m v m' h j w args' hm hl=>by
 have hp0:(Vq none none).cP f=KB f:=by
  show(if f=24 then none else if f=10 then none else KB f)=_
  split
  rename_i e; subst e; rfl
  split
  rename_i e; subst e; rfl
  rfl
 rw[hp0] at hp;unfold KB at hp
 split at hp
 rename_i e; subst e; cases hp;exact AM h hm hl
 split at hp
 rename_i e; subst e; cases hp;obtain⟨i0,hi0,hs⟩:=CI (t:=51) (by kernel_rfl)
 exact sL Try.Qz rfl _ _ Try.func85 rfl rfl (fun j=>.snil 0 0) Try.zeroValue51 i0 hi0 hs h hm hl
 split at hp
 rename_i e; subst e; cases hp;obtain⟨i0,hi0,hs⟩:=CI (t:=3) (by kernel_rfl)
 exact sL Try.Ro rfl _ _ Try.func48 rfl rfl (fun j=>.int _ _) Try.zeroValue3 i0 hi0 hs h hm hl
 split at hp
 rename_i e; subst e; cases hp;exact Cd h hm hl
 cases hp
end
end Go.Proofs.Ytmndpgfbkicndaa
namespace Go.Ab.W
open Go Go.Ab
section
variable{E:Env}{n:Nat}{m0 m:Vn}{fs fs':Fs}{ps ps':VB Pc}{ops:VD Oper}{os:VB Oper}{K:Tm->Vn->Prop}{dr:Bool}{fn:VI}{ro:VA Nat}{c:Code}{Q:Vo->Tm->Vn->Prop}
variable{ty oty:UA}{p:String}{af:VD Edge}{d:Nat}{g:VA (Nat×Bool)}{x:UB}{v:Uz}
def lw{σ ρ γ:Type}{δ:ρ->Type}{body:σ->VA (σ⊕ρ)}{X:(r:ρ)->δ r->En}{N:Nat}{s:σ}{r:ρ}(h:bK body N s=some r)(g:γ)(I:σ->γ->En)(T:aa m0 ps (I s g).ps)
  (hb:∀s g r,body s=some r->Wk E n fn ro c (match r with|.inl s'=>lY m0 (I s')|.inr r=>lY m0 (X r)) m0 (I s g).fs (I s g).ps)
  (hs:sub fs (I s g).fs:=by repeat first|exact sn|refine sc rfl ?_)
  (hn:∀s g,(I s g).e=.normal:=by exact fun _ _=>rfl) (hx:∀r g,(X r g).e≠.normal:=by intro r d; first |(intro e; cases e; done) |(rcases r with r|r<;>first |(intro e; cases e; done) |(rcases r with r|r<;>first |(intro e; cases e; done) |(rcases r with r|r<;>intro e<;>cases e)))):Wk E n fn ro (.loop c) (lY m0 (ap X r)) m0 fs ps:=.Gz hs T (Wk.loop body I X hb hn hx N s r h g)
def aT{γ:Type}{G:γ->En}{e:Vo}(g:γ)(T:aa m0 ps (G g).ps)(he:e=(G g).e:=by rfl)(hs:sub fs (G g).fs:=by repeat first|exact sn|refine sc rfl ?_):At (lY m0 G) e m0 fs ps:=At.en g he hs T
def aO:VB Pc->VB Pc->VA (VB Pc)
 | [],ps=>some ps
 | p::l,ps=>match aO l ps with
  | some q=>some (p::q)
  | none=>none
def K2:∀{l ps q:VB Pc},aO l ps=some q->q=l++ps
 | [],ps,q,h=>by cases h; rfl
 | p::l,ps,q,h=>by
  unfold aO at h
  split at h
  rename_i q' e; cases h; rw[K2 e]; rfl
  cases h
def RJ{α:Type}{r:Rep α}{ag:Bool}{sz b o w j c q off:Nat}{R:Uy}{L:VB α}{es:Uw}{z:α}{V:r.G->Uz}{N:r.G->VB Pc}(ht:TyI E.P ty ag sz)(hx:ev E fs x=some (ptr b off))(ho:off=o+j*w+c)(hli:∀m,Hp m0 m ps->qK m b o w es)(hq:pk ps q=some (.gen (cp r R L es)))(hl:L[j]? = some z)(hv:∀g,yw ag sz (r.V z g) c=some (V g))(hs:xI ag sz c w=true)(hN:∀g,aO (r.N z g R) ps=some (N g)):Ox E m0 fs ps (.load ty x) V N :=
 Qh ht hx ho hli hq hl hv hs fun g=>K2 (hN g)
def wl{α:Type}{r:Rep α}{ag:Bool}{sz b o j l off:Nat}{R:Uy}{L:VB α}{es:Uw}{z:α}{V:r.G->Uz}{N:r.G->VB Pc}(w c q k:Nat)(hl:L[j]? = some z)(kk:∀g,Wo dr E n ops K os m0 ((d,V g)::fs) (N g))(ht:TyI E.P oty ag sz:=by exact TyC.t)(hx:ev E fs x=some (ptr b off):=by rfl)(hp:pk ps k=some (.ro b o w l es):=by rfl)(ho:off=o+j*w+c:=by rfl)(hq:pk ps q=some (.gen (cp r R L es)):=by rfl)(hv:∀g,yw ag sz (r.V z g) c=some (V g):=by exact fun _=>rfl)(hs:xI ag sz c w=true:=by rfl)(hN:∀g,aO (r.N z g R) ps=some (N g):=by exact fun _=>rfl)(hd:Nat.blt d n=true:=by rfl):Wo dr E n ops K (⟨some d,.load oty x,ty,p,af,none⟩::os) m0 fs ps:=UX (RJ ht hx ho (O0 hp) hq hl hv hs hN) gn hd kk
variable{α:Type}{V:α->Uz}{N:α->VB Pc}{R S:α->Pc}{f:UB}{q:VI}{ars:VD UB}{ts:VD UA}{args:VB Uz}{prs:VB (Nat×Nat)}{ss:VB Nk}
def Fx(hg:vQ ops fs g true)(hc:∀m,Hp m0 m ps->aK E q args m (fun v m'=>∃x,v=V x/\Hp m m' [R x,S x,.gen (uL (mP ps))]))(k:∀x,Wo dr E n ops K os m0 ((d,V x)::fs) (R x::S x::ps))(hf:ev E fs f=some (.func (.func q) #[] #[]):=by rfl)(ha:gF E fs ars.toList=some args:=by rfl)(ho:∀x,uv [R x,S x]=true:=by exact fun _=>rfl)(hd:Nat.blt d n=true:=by rfl):Wo dr E n ops K (⟨some d,.call ⟨.value f,ars,ts⟩,ty,p,af,g⟩::os) m0 fs ps:=UX (Cq (N:=fun x=>[R x,S x]) hf ha hc ho) hg hd k
def wq{ρ γ:Type}{first cap:VD Uz}(F:ρ->γ->Uz×VB Pc)(r:ρ)(hc:∀m,Hp m0 m ps->aK E q (first.toList++args++cap.toList) m (fun v m'=>∃x,v=(F r x).1/\Hp m0 m' (F r x).2))(k:∀x,Wo dr E n ops K os m0 ((d,(F r x).1)::fs) (F r x).2)(hf:ev E fs f=some (.func (.func q) first cap):=by rfl)(ha:gF E fs ars.toList=some args:=by rfl)(hd:Nat.blt d n=true:=by rfl):Wo dr E n ops K (⟨some d,.call ⟨.value f,ars,ts⟩,ty,p,af,none⟩::os) m0 fs ps:=UX (mC hf ha hc) gn hd k
end
end Go.Ab.W
namespace Go.Proofs.Ytmndpgfbkicndaa
open Go Go.Ab Go.Ab.W
set_option maxRecDepth 10000
set_option maxHeartbeats 4000000
attribute [local irreducible] Wo Wk At Wn Od Ox bh bT
attribute [local irreducible] Tm.at Trie.set Trie.get Vn.get Vn.set Vn.alloc Vn.ww Vn.kill
variable{p q:VA Prim}
abbrev rR(z0)(z1)(z2):=Pc.rd z0 z1 2 (List.length z2) (List.map (eP (eI .i64) (eI .i64)) z2)
abbrev fT{γ0:Type}(z0:Rep γ0)(z1)(z2:VB γ0)(z3):=Pc.gen (cp z0 z1 z2 z3)
abbrev Oe(z0)(z1){β2:Type}(z2:VB β2)(z3)(z4)(z5){β6:Type}(z6:VB β6)(z7):=Pc.obj z0 (.cells [.slice z1 (List.length z2) z3,.slice (some ⟨z4,z5,none⟩) (List.length z6) z7] .own)
abbrev fS(z0):=Pc.obj z0 (.cells [.int .i64 0] .own)
abbrev EE(z0)(z1){β2:Type}(z2:VB β2)(z3)(z4){β5:Type}(z5:VB β5)(z6):=Pc.obj z0 (.cells [.slice z1 (List.length z2) z3,.slice z4 (List.length z5) z6] .own)
abbrev bQ(z0){β1:Type}(z1:VB β1):=Value.slice z0 (List.length z1) (List.length z1)
abbrev CK(z0)(z1){β2:Type}(z2:VB β2)(z3):=Pc.rd z0 z1 2 (List.length z2) z3
abbrev bg(z0):=Value.int .i64 z0
abbrev oT(z0)(z1)(z2){β3:Type}(z3:VB β3)(z4):=Pc.obj z0 (.cells [.slice (some ⟨z1,z2,none⟩) (List.length z3) z4] .own)
abbrev I1(z0){β1:Type}(z1:VB β1)(z2)(z3){β4:Type}(z4:VB β4)(z5)(z6){β7:Type}(z7:VB β7)(z8)(z9){β10:Type}(z10:VB β10)(z11)(z12){β13:Type}(z13:VB β13)(z14)(z15){β16:Type}(z16:VB β16)(z17):=Value.agg #[.slice z0 (List.length z1) z2,.slice z3 (List.length z4) z5,.slice z6 (List.length z7) z8,.slice z9 (List.length z10) z11,.slice z12 (List.length z13) z14,.slice z15 (List.length z16) z17]
abbrev Oo(z0)(z1)(z2){β3:Type}(z3:VB β3)(z4):=Pc.rd (some ⟨z0,z1,none⟩) z2 2 (List.length z3) z4
abbrev dg(z0)(z1):=Pc.sl z0 2 (List.length z1) (List.map (eP (eI .i64) (eI .i64)) z1)
abbrev gS(z0)(z1)(z2)(z3)(z4)(z5):=Pc.obj z0 (.cells [.int .i64 z1,.int .i64 z2,.int .i64 z3,.int .i64 z4,.int .i64 z5] .own)
abbrev gD(z0)(z1)(z2):=Pc.obj z0 (.cells [.int .i64 z1,.int .i64 z2] .own)
abbrev dC{β0:Type}(z0:VB β0):=Value.int .i64 ((List.length z0):Int)
abbrev tC(z0)(z1){β2:Type}(z2:VB β2)(z3){β4:Type}(z4:VB β4):=Pc.obj z0 (.cells [.slice z1 (List.length z2) (List.length z2),.slice z3 (List.length z4) (List.length z4)] .own)
abbrev j8(z0)(z1):=Pc.sl z0 4 (List.length z1) (List.map (eP (eI .i64) (eP (eI .i64) (eP (eI .i64) (eI .i64)))) z1)
abbrev fq(z0)(z1)(z2)(z3)(z4):=Pc.obj z0 (.cells [.int .i64 z1,.int .i64 z2,.int .i64 z3,.int .i64 z4] .own)
abbrev IQ(z0)(z1)(z2)(z3):=Pc.rd (some ⟨z0,z1,none⟩) z2 2 (List.length z3) (List.map (eP (eI .i64) (eI .i64)) z3)
abbrev pN(z0){β1:Type}(z1:VB β1):=Pc.obj z0 (.cells [.int .i64 ((List.length z1):Int)] .own)
abbrev bI(z0){β1:Type}(z1:VB β1)(z2):=Value.slice z0 (List.length z1) z2
abbrev OW(z0)(z1){β2:Type}(z2:VB β2)(z3):=Pc.ro z0 z1 2 (List.length z2) z3
abbrev ky(z0)(z1){β2:Type}(z2:VB β2)(z3){β4:Type}(z4:VB β4):=Pc.obj z0 (.cells [.slice z1 (List.length z2) (List.length z2),.slice (some ⟨z3,0,none⟩) (List.length z4) (List.length z4)] .own)
abbrev QA(z0)(z1)(z2){β3:Type}(z3:VB β3)(z4):=Pc.rd (some ⟨z0,z1,none⟩) z2 1 (List.length z3) z4
abbrev Rm(z0)(z1)(z2)(z3):=Pc.rd (some ⟨z0,z1,none⟩) z2 1 (List.length z3) (List.map (eI .i64) z3)
abbrev IG(z0)(z1)(z2):=Pc.ro z0 z1 2 (List.length z2) (List.map (eP (eI .i64) (eI .i64)) z2)
abbrev tY(z0)(z1){β2:Type}(z2:VB β2)(z3):=Value.slice (some ⟨z0,z1,none⟩) (List.length z2) z3
abbrev cy(z0):=Value.slice (some ⟨z0,0,none⟩) 4 4
abbrev jE(z0):=Pc.obj z0 (.cells [.slice none 0 0,.slice none 0 0] .own)
abbrev eJ(z0)(z1):=Pc.obj z0 (.cells [.int .i64 z1] .own)
abbrev yy(z0)(z1){β2:Type}(z2:VB β2)(z3):=Pc.obj z0 (.cells [.slice z1 (List.length z2) z3] .own)
abbrev eu(z0)(z1):=Pc.obj z0 (.cells [.map (some z1)] .own)
abbrev QI(z0)(z1)(z2)(z3){β4:Type}(z4:VB β4)(z5)(z6){β7:Type}(z7:VB β7)(z8)(z9):=Pc.obj z0 (.cells [.int .u8 ((z1:Nat):Int),.int .u8 ((z2:Nat):Int),.slice z3 (List.length z4) z5,.slice z6 (List.length z7) z8,.bool z9] .own)
abbrev kq(m)(z0)(z1)(z2):=Rd m z0 z1 2 (List.length z2) (List.map (eP (eI .i64) (eI .i64)) z2)
abbrev Q1(z0)(z1)(z2):=Pc.ro z0 z1 1 (List.length z2) (List.map (eI .i64) z2)
abbrev AG(z0)(z1)(z2)(z3)(z4)(z5)(z6):=Pc.obj z0 (.cells [.int .u8 ((z1:Nat):Int),.int .u8 ((z2:Nat):Int),.int .u8 ((z3:Nat):Int),.int .i64 z4,.int .i64 z5,.int .i64 z6] .own)
abbrev QX(z0)(z1){β2:Type}(z2:VB β2)(z3):=Pc.ro z0 z1 1 (List.length z2) z3
abbrev lO(z0){β1:Type}(z1:VB β1)(z2)(z3){β4:Type}(z4:VB β4)(z5):=Value.agg #[.slice z0 (List.length z1) z2,.slice z3 (List.length z4) z5]
abbrev Ca(z0)(z1){β2:Type}(z2:VB β2):=Pc.obj z0 (.cells [.slice z1 (List.length z2) (List.length z2)] .own)
abbrev s6(z0)(z1)(z2):=Pc.arr z0 4 (List.length z1) (List.map (eP (eI .i64) (eP (eI .i64) (eP (eI .i64) (eI .i64)))) z1) z2
abbrev lQ(z0){β1:Type}(z1:VB β1)(z2):=Pc.sl z0 2 (List.length z1) z2
abbrev Jj(z0)(z1)(z2):=Pc.rd z0 z1 1 (List.length z2) (List.map (eN .u8) z2)
abbrev PF(z0)(z1)(z2)(z3)(z4)(z5)(z6)(z7)(z8)(z9)(z10)(z11):=Value.agg #[.int .u8 ((z0:Nat):Int),.int .u8 ((z1:Nat):Int),.int .u8 ((z2:Nat):Int),.int .i64 z3,.int .i64 z4,.int .i64 z5,.int .u8 ((z6:Nat):Int),.int .u8 ((z7:Nat):Int),.int .u8 ((z8:Nat):Int),.int .i64 z9,.int .i64 z10,.int .i64 z11]
abbrev ye(z0)(z1):=Pc.obj z0 (.map (List.map (eM (fun n:Int=>.int .i64 n) (fun n:Int=>.int .i64 n)) z1))
abbrev oc(z0)(z1)(z2):=Pc.rd z0 z1 1 (List.length z2) (List.map (eI .i64) z2)
abbrev mI(z0)(z1):=Value.agg #[.int .i64 z0,.int .i64 z1]
abbrev ju(z0)(z1){β2:Type}(z2:VB β2)(z3):=Pc.rd z0 z1 1 (List.length z2) z3
abbrev lP(z0):=Value.slice (some ⟨z0,0,none⟩) 1 1
abbrev Gr(z0)(z1)(z2):=Value.slice (some ⟨z0,0,none⟩) ((z1++([z2]:Uv)).length) ((z1++([z2]:Uv)).length)
abbrev ee(z0):=Pc.gen (uL z0)
abbrev NI(z0)(z1)(z2){β3:Type}(z3:VB β3)(z4)(z5){β6:Type}(z6:VB β6)(z7)(z8):=Value.agg #[.int .u8 ((z0:Nat):Int),.int .u8 ((z1:Nat):Int),.slice z2 (List.length z3) z4,.slice z5 (List.length z6) z7,.bool z8]
abbrev tN(z0){β1:Type}(z1:VB β1):=Value.slice (some ⟨z0,0,none⟩) (List.length z1) (List.length z1)
abbrev nY(m)(z0)(z1){β2:Type}(z2:VB β2)(z3):=Rd m z0 z1 2 (List.length z2) z3
abbrev Bj(m)(z0)(z1)(z2):=Rd m z0 z1 1 (List.length z2) (List.map (eN .u8) z2)
abbrev LS(z0)(z1)(z2)(z3)(z4)(z5)(z6)(z7):=Value.agg #[.int .i64 z0,.int .i64 z1,.int .i64 z2,.int .i64 z3,.int .i64 z4,.int .i64 z5,.int .i64 z6,.int .i64 z7]
abbrev pT{γ0:Type}{ρ0:Rep γ0}(z0:Orp ρ0)(z1)(z2:VB γ0)(z3):=Pc.gen (cR z0 z1 z2 z3)
abbrev yd(z0)(z1):=Pc.sl z0 1 (List.length z1) (List.map (eI .i64) z1)
abbrev AR(m)(z0)(z1)(z2):=Rd m z0 z1 1 (List.length z2) (List.map (eI .i64) z2)
abbrev Jc(z0)(z1){β2:Type}(z2:VB β2):=Pc.obj z0 (.cells [.slice z1 (List.length z2) (List.length z2),.slice none 0 0] .own)
abbrev LG(z0)(z1)(z2)(z3)(z4):=Value.agg #[.int .i64 z0,.int .i64 z1,.int .i64 z2,.int .i64 z3,.int .i64 z4]
abbrev DA(z0):=Pc.obj z0 (.cells [.int .i64 10] .own)
abbrev DT(z0):=Pc.obj z0 (.cells [.int .i64 5] .own)
abbrev DC(z0):=Value.slice (some ⟨z0,0,none⟩) 3 3
abbrev FV(z0):=Pc.obj z0 (.cells [.int .i64 7] .own)
abbrev GP(z0):=Pc.obj z0 (.cells [.int .i64 8] .own)
abbrev Hy(z0):=Pc.obj z0 (.cells [.int .i64 9] .own)
abbrev I5(z0):=Value.slice (some ⟨z0,0,none⟩) 12 12
abbrev gC{τ0:Type}(z0)(z1)(z2)(z3)(z4)(z5)(z6:VB τ0)(z7)(z8)(z9:Rep τ0)(z10)(z:VB Pc):=Oe z0 z1 z2 z3 z4 z5 z6 z7::rR z1 z3 z2::OW z4 z5 z6 z8::fT z9 z10 z6 z8::Oo z4 z5 z7 z6 z8::z
abbrev fR{τ0:Type}(z0)(z1)(z2)(z3)(z4)(z5:VB τ0)(z6)(z7)(z8:Rep τ0)(z9)(z:VB Pc):=EE z0 z1 z2 z3 z4 z5 z6::rR z1 z3 z2::CK z4 z6 z5 z7::fT z8 z9 z5 z7::z
abbrev Fz{τ0:Type}(z0)(z1)(z2)(z3)(z4)(z5:VB τ0)(z6)(z7:Rep τ0)(z8)(z9)(z10)(z11)(z12)(z13)(z14:VB τ0)(z15)(z16)(z:VB Pc):=rR z0 z1 z2::CK z3 z4 z5 z6::fT z7 z8 z5 z6::rR z9 z10 z11::CK z12 z13 z14 z15::fT z7 z16 z14 z15::z
abbrev ki{τ0:Type}(z0)(z1)(z2:VB τ0)(z3)(z4:Rep τ0)(z5)(z6)(z:VB Pc):=QX z0 z1 z2 z3::fT z4 z5 z2 z3::QA z0 z1 z6 z2 z3::z
abbrev uw(z0)(z1)(z2)(z3)(z4)(z:VB Pc):=oT z0 z1 z2 z3 z4::IG z1 z2 z3::IQ z1 z2 z4 z3::z
abbrev rV{τ0:Type}(z0)(z1)(z2:VB τ0)(z3)(z4:Rep τ0)(z5)(z6)(z:VB Pc):=OW z0 z1 z2 z3::fT z4 z5 z2 z3::Oo z0 z1 z6 z2 z3::z
abbrev u9{τ0:Type}(z0)(z1)(z2)(z3)(z4:VB τ0)(z5)(z6:Rep τ0)(z7)(z:VB Pc):=tC z0 z1 z2 z3 z4::dg z1 z2::lQ z3 z4 z5::fT z6 z7 z4 z5::z
abbrev sO{τ0:Type}(z0)(z1)(z2:VB τ0)(z3)(z4)(z:Fs):=(10,tY z0 z1 z2 z3)::(11,dC z2)::(12,bg z4)::z
abbrev po(z0)(z1)(z2)(z3)(z:VB Pc):=Q1 z0 z1 z2::Rm z0 z1 z3 z2::z
abbrev iO(z0)(z1)(z:Fs):=(2,ptr z0 0)::(3,ptr z1 0)::z
abbrev rH{τ0:Type}(z0)(z1)(z2)(z3)(z4)(z5:VB τ0)(z6)(z7:Rep τ0)(z8)(z:VB Pc):=rR z0 z1 z2::CK z3 z4 z5 z6::fT z7 z8 z5 z6::z
abbrev AN(z0)(z1)(z2)(z3)(z4)(z:Fs):=(1,ptr z0 0)::(2,ptr z1 0)::(3,bg z2)::(4,bg z3)::(5,ptr z4 0)::z
abbrev uJ{τ0:Type}(z0)(z1)(z2:VB τ0)(z3)(z4)(z:Fs):=(18,tY z0 z1 z2 z3)::(19,dC z2)::(20,bg z4)::z
abbrev rB(z0)(z1)(z2)(z3)(z4)(z:VB Pc):=fS z0::fS z1::Ca z2 z3 z4::j8 z3 z4::z
abbrev jI(z0)(z1)(z2)(z3)(z:VB Pc):=yy z0 z1 z2 z3::rR z1 z3 z2::z
abbrev eZ{τ0:Type}(z0)(z1)(z2)(z3:VB τ0)(z:VB Pc):=fS z0::fS z1::pN z2 z3::z
abbrev yh(z0)(z1)(z2)(z3)(z4)(z5)(z6)(z7)(z8)(z9)(z10)(z:VB Pc):=QI z0 z1 z2 z3 z4 z5 z6 z7 z8 z9::Jj z3 z5 z4::Jj z6 z8 z7::jE z10::z
abbrev zH{τ0:Type}(z0)(z1:VB τ0)(z2)(z3)(z:Fs):=(10,bI z0 z1 z2)::(11,dC z1)::(12,bg z3)::z
abbrev AJ{τ0:Type}(z0)(z1:VB τ0)(z2)(z3)(z:Fs):=(7,bI z0 z1 z2)::(8,dC z1)::(9,bg z3)::z
abbrev rF{τ0:Type}(z0)(z1)(z2)(z3)(z4)(z5)(z6:VB τ0)(z7)(z8)(z9)(z:VB Pc):=Oe z0 z1 z2 z3 z4 z5 z6 z7::rR z1 z3 z2::fS z8::fS z9::z
abbrev bl:Rep (VB Int):=(rS (eI .i64) 1)
abbrev aj:Rep (VB Int×Uv):=(rP (rS (eI .i64) 1) (rL bl))
def Kf:(Vq p q).P.underlying 104=some (.array 2 3):=by kernel_rfl
def bZ:TyI (Vq p q).P 3 false 1:=⟨by kernel_rfl,by kernel_rfl,by kernel_rfl⟩
instance:TyC (Vq p q).P 3 false 1:=⟨bZ⟩
def u3:(Vq p q).P.underlying 3=some (.int .i64):=by kernel_rfl
def RG:bq (Vq p q).P 98=some (.map none):=by kernel_rfl
def PO:TyI (Vq p q).P 98 false 1:=⟨by kernel_rfl,by kernel_rfl,by kernel_rfl⟩
instance:TyC (Vq p q).P 98 false 1:=⟨PO⟩
def fB:TyI (Vq p q).P 34 true 2:=⟨by kernel_rfl,by kernel_rfl,by kernel_rfl⟩
instance:TyC (Vq p q).P 34 true 2:=⟨fB⟩
def fb:∀b o,aC (Vq p q).P 34 (ptr b o) 1=some (ptr b (o+1)):=fun _ _=>by kernel_rfl
instance:FaC (Vq p q).P 34 1 1:=⟨fb⟩
def mz:TyI (Vq p q).P 32 false 1:=⟨by kernel_rfl,by kernel_rfl,by kernel_rfl⟩
instance:TyC (Vq p q).P 32 false 1:=⟨mz⟩
def u32:(Vq p q).P.underlying 32=some (.slice 54):=by kernel_rfl
instance:UsC (Vq p q).P 32 54:=⟨u32⟩
def jU:SlT (Vq p q).P 32 54 2:=SlT.of (by kernel_rfl)
instance:SlC (Vq p q).P 32 54 2:=⟨jU⟩
def JW:TyI (Vq p q).P 54 true 2:=⟨by kernel_rfl,by kernel_rfl,by kernel_rfl⟩
instance:TyC (Vq p q).P 54 true 2:=⟨JW⟩
def z54:bq (Vq p q).P 54=some (.agg #[.slice none 0 0,.slice none 0 0]):=by kernel_rfl
def eA:∀b o,aC (Vq p q).P 54 (ptr b o) 0=some (ptr b (o+0)):=fun _ _=>by kernel_rfl
instance:FaC (Vq p q).P 54 0 0:=⟨eA⟩
def k7:TyI (Vq p q).P 51 false 1:=⟨by kernel_rfl,by kernel_rfl,by kernel_rfl⟩
instance:TyC (Vq p q).P 51 false 1:=⟨k7⟩
def z51:bq (Vq p q).P 51=some (.slice none 0 0):=by kernel_rfl
def fe:∀b o,aC (Vq p q).P 54 (ptr b o) 1=some (ptr b (o+1)):=fun _ _=>by kernel_rfl
instance:FaC (Vq p q).P 54 1 1:=⟨fe⟩
def mB:TyI (Vq p q).P 52 false 1:=⟨by kernel_rfl,by kernel_rfl,by kernel_rfl⟩
instance:TyC (Vq p q).P 52 false 1:=⟨mB⟩
def RD:bq (Vq p q).P 52=some (.slice none 0 0):=by kernel_rfl
abbrev xY:Rep (Uv):=(rL bl)
def Q4:(Vq p q).P.underlying 125=some (.slice 52):=by kernel_rfl
instance:UsC (Vq p q).P 125 52:=⟨Q4⟩
def Mr:SlT (Vq p q).P 125 52 1:=SlT.of (by kernel_rfl)
instance:SlC (Vq p q).P 125 52 1:=⟨Mr⟩
def Ko:(Vq p q).P.underlying 52=some (.slice 51):=by kernel_rfl
instance:UsC (Vq p q).P 52 51:=⟨Ko⟩
def qc:SlT (Vq p q).P 52 51 1:=SlT.of (by kernel_rfl)
instance:SlC (Vq p q).P 52 51 1:=⟨qc⟩
def MI:(Vq p q).P.underlying 51=some (.slice 3):=by kernel_rfl
instance:UsC (Vq p q).P 51 3:=⟨MI⟩
def fw:SlT (Vq p q).P 51 3 1:=SlT.of (by kernel_rfl)
instance:SlC (Vq p q).P 51 3 1:=⟨fw⟩
def rD:bq (Vq p q).P 103=some (.agg #[.int .i64 0,.int .i64 0,.int .i64 0,.int .i64 0]):=by kernel_rfl
def zo:BdT (Vq p q).P 103 (.agg #[.int .i64 0,.int .i64 0,.int .i64 0,.int .i64 0]) [(0,1),(1,1),(2,1),(3,1)]:=.mk' (by kernel_rfl) (by kernel_rfl)
def Hq:TyI (Vq p q).P 103 true 4:=⟨by kernel_rfl,by kernel_rfl,by kernel_rfl⟩
instance:TyC (Vq p q).P 103 true 4:=⟨Hq⟩
def xo:∀b o,aC (Vq p q).P 103 (ptr b o) 0=some (ptr b (o+0)):=fun _ _=>by kernel_rfl
instance:FaC (Vq p q).P 103 0 0:=⟨xo⟩
def xN:∀b o,aC (Vq p q).P 103 (ptr b o) 1=some (ptr b (o+1)):=fun _ _=>by kernel_rfl
instance:FaC (Vq p q).P 103 1 1:=⟨xN⟩
def Kq:bq (Vq p q).P 104=some (.agg #[.int .i64 0,.int .i64 0]):=by kernel_rfl
def Gw:BdT (Vq p q).P 104 (.agg #[.int .i64 0,.int .i64 0]) [(0,1),(1,1)]:=.mk' (by kernel_rfl) (by kernel_rfl)
def Ol:TyI (Vq p q).P 104 true 2:=⟨by kernel_rfl,by kernel_rfl,by kernel_rfl⟩
instance:TyC (Vq p q).P 104 true 2:=⟨Ol⟩
def Rh:(Vq p q).P.underlying 98=some (.map 104 44):=by kernel_rfl
def z44:bq (Vq p q).P 44=some (.agg #[.int .i64 0,.int .i64 0,.int .i64 0,.int .i64 0]):=by kernel_rfl
def Mn:TyI (Vq p q).P 44 true 4:=⟨by kernel_rfl,by kernel_rfl,by kernel_rfl⟩
instance:TyC (Vq p q).P 44 true 4:=⟨Mn⟩
def Oj:ArT (Vq p q).P 104 3 2 1:=⟨by kernel_rfl,by kernel_rfl,by kernel_rfl⟩
instance:ArC (Vq p q).P 104 3 2 1:=⟨Oj⟩
def Au:BdT (Vq p q).P 44 (.agg #[.int .i64 0,.int .i64 0,.int .i64 0,.int .i64 0]) [(0,1),(1,1),(2,1),(3,1)]:=.mk' (by kernel_rfl) (by kernel_rfl)
def nz:∀b o,aC (Vq p q).P 103 (ptr b o) 2=some (ptr b (o+2)):=fun _ _=>by kernel_rfl
instance:FaC (Vq p q).P 103 2 2:=⟨nz⟩
def NV:∀b o,aC (Vq p q).P 44 (ptr b o) 2=some (ptr b (o+2)):=fun _ _=>by kernel_rfl
instance:FaC (Vq p q).P 44 2 2:=⟨NV⟩
def Nh:∀b o,aC (Vq p q).P 44 (ptr b o) 3=some (ptr b (o+3)):=fun _ _=>by kernel_rfl
instance:FaC (Vq p q).P 44 3 3:=⟨Nh⟩
def Mv{n l1 a0 c0}{r0:Uy}{e0:Uw}{r}(hF:Qn n l1=some r)(m){H:Uy}(hH:∀b,H b->b<m.next)(h5:Rd m a0 c0 1 l1.length e0)(h6:∀b,kU a0=some b->¬H b)(h7:(cp xY r0 l1 e0).P m)(h8:∀b,r0 b->¬H b):
 aK (Vq p q) 53 [bI a0 l1 c0] m (fun v m'=>∃x:Ux×Nat×Nat×Uw ×(Nat->Prop),v=.slice x.1 x.2.2.1 x.2.1/\Hp m m' [.rd x.1 x.2.1 1 x.2.2.1 x.2.2.2.1,.gen (cp bl x.2.2.2.2 r x.2.2.2.1),ee H]):=by
 unfold Qn at hF;refine cw Try.func53 (Hp.Hb (l0:=[ju a0 c0 l1 e0]) (Hp.pE (l0:=[]) (Hp.ud m hH) eo h5 h6) (fg eo) h7 h8) ?_;refine gB ?_;refine UN ?_;obtain⟨v0,h0,hF⟩:=J hF;refine ct (fun v0 (_:VC)=>⟨(.exit 0),[(0,bI a0 l1 c0),(3,bg v0)],[ju a0 c0 l1 e0,fT xY r0 l1 e0,ee H]⟩) v0 ?_ ?_;refine lo h0 () [1,0,2] (fun(v1,v2) _=>⟨.normal,[(0,bI a0 l1 c0),(3,bg v1),(9,bI a0 l1 c0),(10,dC l1),(11,bg v2)],[ju a0 c0 l1 e0,fT xY r0 l1 e0,ee H]⟩) ?_;clear hF h0;rintro⟨v1,v2⟩ ⟨⟩ r hF;unfold p7 at hF;refine wz ?_;refine UJ ?_;rcases U hF with⟨h9,hF⟩|⟨h9,hF⟩;refine au ?_;obtain⟨h10,hF⟩:=cW hF;refine U0 (k:=0) rfl (aU h10) ?_;rintro b1 o1 rfl;refine wz ?_;obtain⟨l7,h11,hF⟩:=J hF;refine wl 1 0 2 0 h11 ?_;rintro⟨a6,c6,e7⟩;refine gB ?_;rcases U hF with⟨h3,hF⟩|⟨h3,hF⟩;refine U3 rfl h3 ?_;cases hF;refine au ?_;cases hF;exact ae () [3,4,5];refine wz ?_;cases hF;exact ae () [0,1,2];rintro⟨⟩;refine au ?_;obtain⟨l2,h12,hF⟩:=J hF;refine wq (fun l2 ((a1,c1,e3,r1):Ux×Nat×Uw ×(Nat->Prop))=>(.slice a1 l2.length c1,[.gen (nX a1 c1 1 l2.length e3),fT bl r1 l2 e3,ju a0 c0 l1 e0,fT xY r0 l1 e0,ee H])) l2 (fun m hm=>?_) ?_;clear hF;revert l2;intro r hF;refine aS (N:=27) (rs:=[.tmp 4]) rfl Try.func76 rfl rfl rfl hm ?_;refine au ?_;rcases U hF with⟨h4,hF⟩|⟨h4,hF⟩;refine U3 rfl h4 ?_;cases hF;refine wz ?_;refine UJ ?_;obtain⟨l3,h13,hF⟩:=J hF;refine ct (fun l3 ((a2,c2,e4,r3):Ux×Nat×Uw ×(Nat->Prop))=>⟨.normal,[(0,bI a2 l3 c2)],[.gen (nX a2 c2 1 l3.length e4),fT bl r3 l3 e4,ju a0 c0 l1 e0,fT xY r0 l1 e0,ee H]⟩) l3 ?_ ?_;clear hF;revert l3;intro r hF;refine wz ?_;refine UI (KY Ko rfl) rfl ?_;refine au ?_;rcases U hF with⟨h14,hF⟩|⟨h14,hF⟩;refine wz ?_;refine UI (KY Ko rfl) rfl<|UI (Pv qc rfl rfl (.inr ⟨_,rfl⟩)) rfl ?_;refine wz ?_;obtain⟨h15,hF⟩:=az hF;obtain⟨h16,hF⟩:=az hF;refine UX (Me (g:=fun e:VB Uz=>e) (z0:=[.slice none 0 0]) qc u3 rfl h15 h16 z51 rfl rfl) gn rfl fun b0=>?_;refine Wo.dp (r:=bl) (L:=(List.replicate (UE (v0-(UE (0-0)))).toNat ([]:VB Int))) (es:=((List.replicate (UE (v0-(UE (0-0)))).toNat [.slice none 0 0]).map fun e=>e)) (iy.rep (r:=bl) (z:=[]) (g:=(none,0)) Lf.s0 _) ?_;intro r6;refine UI (aV rfl) rfl<|UI (oU (k:=0) Ko rfl rfl (.inr rfl)) rfl ?_;obtain⟨h17,hF⟩:=az hF;obtain⟨h1,hF⟩:=az hF;replace h1:=of_decide_eq_true h1;refine UW (UP (k:=1) rfl)<|UW (aa.wT (k:=1) rfl)<|UZ (MY (r:=bl) (k:=1) (q:=0) (hi:=0) qc rfl rfl rfl rfl h17 h1) gn rfl ?_;refine wz ?_;cases hF;exact ae ((some ⟨b0,0,none⟩),(UE (v0-(UE (0-0)))).toNat,(((List.replicate (UE (v0-(UE (0-0)))).toNat [.slice none 0 0]).map fun e=>e).take UF),r6) [1,0,2,3,4];refine wz ?_;cases hF;exact aT (none,0,[],(fun _=>False)) (UT (aa.nil 1 rfl) (UT (aa.wT (k:=0) rfl) (UT (aa.Gi (r:=bl)) (UO [1,0,2,3,4] rfl rfl))));rintro⟨a2,c2,e4,r3⟩;refine gB ?_;obtain rfl:=Sb hF;exact ar (a2,c2,e4,r3) (Vg 0 5);rintro⟨a1,c1,e3,r1⟩;refine au ?_;refine UN ?_;obtain⟨l4,h2,hF⟩:=J hF;refine ct (fun l4 ((a3,c3,e5,r4):Ux×Nat×Uw ×(Nat->Prop))=>⟨(.exit 2),[(6,bI a3 l4 c3)],[.gen (nX a3 c3 1 l4.length e5),fT bl r4 l4 e5,ee H]⟩) l4 ?_ ?_;refine lo h2 (a1,c1,e3,r1) [0,1,2,3,4] (fun(l5,v3) ((a4,c4,e1,r5):Ux×Nat×Uw ×(Nat->Prop))=>⟨.normal,[(6,bI a4 l5 c4),(25,bI a0 l1 c0),(26,dC l1),(27,bg v3)],[.gen (nX a4 c4 1 l5.length e1),fT bl r5 l5 e1,ju a0 c0 l1 e0,fT xY r0 l1 e0,ee H]⟩) ?_;clear hF h2;rintro⟨l5,v3⟩ ⟨a4,c4,e1,r5⟩ r hF;unfold pI at hF;refine wz ?_;refine UJ ?_;rcases U hF with⟨h18,hF⟩|⟨h18,hF⟩;refine au ?_;obtain⟨h19,hF⟩:=cW hF;refine U0 (k:=2) rfl (aU h19) ?_;rintro b2 o2 rfl;refine wz ?_;obtain⟨l6,h20,hF⟩:=J hF;refine wl 1 0 4 0 h20 ?_;rintro⟨a7,c7,e6⟩;refine au ?_;obtain⟨h21,hF⟩:=az hF;refine UX (Mq (r:=bl) (k:=3) (q:=4) (q2:=1) (L:=l5) (L':=l6) qc ⟨_,Ko⟩ rfl rfl rfl rfl (fun m hm=>hm.q 0) rfl rfl h21) gn rfl ?_;rintro⟨a5,c5,r7⟩;refine au ?_;cases hF;exact ae (a5,c5,(e1++e6),r7) [3,4,5,6,7];refine wz ?_;cases hF;exact ae (a4,c4,e1,r5) [0,1,4];rintro⟨a3,c3,e5,r4⟩;refine gB ?_;obtain rfl:=Sb hF;exact UY (.tmp rfl .nil) fun m' hm=>⟨(a3,c3,l4.length,e5,r4),rfl,(UT (aa.GY (k:=0) rfl) (UO [0,1,2] rfl rfl)) m' hm⟩
def j7{n l1 l2 a0 c0 a1 c1}{r0:Uy}{e0:Uw}{r}(hF:Bq n l1 l2=some r)(m){H:Uy}(hH:∀b,H b->b<m.next)(h0:AR m a0 c0 l1)(h1:∀b,kU a0=some b->¬H b)(h2:Rd m a1 c1 1 l2.length e0)(h3:∀b,kU a1=some b->¬H b)(h4:(cp bl r0 l2 e0).P m)(h5:∀b,r0 b->¬H b):
 aK (Vq p q) 25 [lO a0 l1 c0 a1 l2 c1] m (fun v m'=>∃x:Ux×Nat×Nat×Uw ×(Nat->Prop),v=.slice x.1 x.2.2.1 x.2.1/\Hp m m' [.rd x.1 x.2.1 1 x.2.2.1 x.2.2.2.1,.gen (cp bl x.2.2.2.2 r x.2.2.2.1),ee H]):=by
 unfold Bq at hF;refine cw Try.func25 (Hp.Hb (l0:=[ju a1 c1 l2 e0,oc a0 c0 l1]) (Hp.pE (l0:=[oc a0 c0 l1]) (Hp.pE (l0:=[]) (Hp.ud m hH) eo h0 h1) (fg eo) h2 h3) (fg (fg eo)) h4 h5) ?_;refine wz ?_;refine wb fun b1=>?_;refine au ?_;refine UX (cm (es:=[[bI a0 l1 c0]]) qc rfl (cn qc z51 rfl rfl) rfl rfl) gn rfl fun b0=>?_;refine Wo.dp (r:=bl) (L:=([l1]:Uv)) (es:=[[bI a0 l1 c0]]) (iy.cons (r:=bl) (z:=l1) (g:=(a0,c0)) (Lf.s (k:=4) rfl) iy.nil) ?_;intro r3;refine UI (aG (r:=ptr b1 1) rfl (fe _ _)) rfl<|UI (aI (k:=2) mB rfl rfl rfl) rfl<|UW (UP (k:=1) rfl)<|UW (UM (k:=1) rfl)<|UX (cm (es:=[[lP b0],[bI a1 l2 c1]]) Mr rfl (cn Mr RD rfl rfl) rfl rfl) gn rfl fun b2=>?_;refine Wo.dp (r:=xY) (L:=([[l1],l2]:VB (Uv))) (es:=[[lP b0],[bI a1 l2 c1]]) (iy.cons (r:=xY) (z:=[l1]) (g:=((some ⟨b0,0,none⟩),1,[[bI a0 l1 c0]])) (Lf.l (k:=2) (q:=1) rfl rfl rfl) (iy.cons (r:=xY) (z:=l2) (g:=(a1,c1,e0)) (Lf.l (k:=5) (q:=4) rfl rfl rfl) iy.nil)) ?_;intro r4;obtain⟨l3,h6,hF⟩:=J hF;refine UW (UP (k:=1) rfl)<|UW (UM (k:=1) rfl)<|Fx gn (fun m hm=>Mv h6 m hm.dW (hm.q 1) (hm.no 1) (hm.dp (q:=0) rfl) (hm.gQ (q:=0) rfl)) ?_;rintro⟨a2,c2,n0,e1,r1⟩;refine Wo.jH (k:=0) (q:=1) (L:=l3) rfl (.inr (.inl ⟨_,rfl⟩)) rfl ?_;rintro rfl;refine au ?_;obtain rfl:=Sb hF;exact ar (a2,c2,l3.length,e1,r1) [0,1,10]
def I6(hE:EnvOk (Vq p q))(n:Nat)(l6:Uu)(l1:Us)(a1:Ux)(c3:Nat)(a0:Ux)(c0:Nat)(r0:Uy)(e0:Uw)(r:VB ((Int×Int) ×(Ut)))(hF:EV n l6 l1=some r)(m:Vn)(h23:kq m a1 c3 l6)(h24:nY m a0 c0 l1 e0)(h25:(cp aj r0 l1 e0).P m){R:Uz->Vn->Prop}(kN:∀g:Nat×Nat,Vk (Vq p q) 66 24 none (Qc 4 (ml Try.f24)) (jA (Vq p q) [.tmp 2] R) m ((fun(r:VB ((Int×Int) ×(Ut))) (g:Nat×Nat)=>match r,g with|l13,(b8,b9)=>([(3,ptr b8 0),(8,.slice none 0 0)]:Fs)) r g) ((fun(r:VB ((Int×Int) ×(Ut))) (g:Nat×Nat)=>match r,g with|l13,(b8,b9)=>([eu b8 b9,.obj b9 (.map (l13.map (eM (fun p:Int×Int=>.agg #[.int .i64 p.1,.int .i64 p.2]) (fun x:Ut=>.agg #[.int .i64 x.1,.int .i64 x.2.1,.int .i64 x.2.2.1,.int .i64 x.2.2.2]))))]:VB Pc)) r g)) :
 Vk (Vq p q) 66 24 none (ml Try.f24) (jA (Vq p q) [.tmp 2] R) m (oh [lO a1 l6 c3 a0 l1 c0] 0 []) [fT aj r0 l1 e0,CK a0 c0 l1 e0,rR a1 c3 l6]:=by
 unfold EV at hF;refine Vk.seq hE<|UK<|wb fun b13=>?_;refine wz ?_;refine At.Ih<|Vk.seq hE<|UK<|UX Fi gn rfl fun b0=>?_;refine wa RG fun b1=>?_;refine wz ?_;refine At.Ih<|Vk.seq hE ?_;refine wz ?_;obtain⟨l7,h4,hF⟩:=J hF;refine wq (fun l7 (b10:Nat)=>(.func (.func 73) #[] #[ptr b10 0],(fR b10 a1 l6 c3 a0 l1 c0 e0 aj r0 [eu b1 b0,.obj b0 (.map (l7.map (eM (fun p:Int×Int=>.agg #[.int .i64 p.1,.int .i64 p.2]) (fun x:Ut=>.agg #[.int .i64 x.1,.int .i64 x.2.1,.int .i64 x.2.2.1,.int .i64 x.2.2.2]))))]))) l7 (fun m hm=>?_) ?_;clear hF;revert l7;intro r hF;refine aS (N:=4) (rs:=[.tmp 2]) rfl Try.func50 rfl rfl rfl hm ?_;refine wz ?_;refine wb fun b11=>?_;refine au ?_;refine UI (j9 rfl rfl) rfl ?_;refine au ?_;cases hF;exact ar b11 [0,6,5,4,1,2];rintro b10;refine wz ?_;refine UN ?_;obtain⟨l8,h5,hF⟩:=J hF;refine Wk.range (N:=50) (rs:=[]) (γ:=VC) (X:=fun g=>(fun(r:VB ((Int×Int) ×(Ut))) (g:VC)=>(match r,g with|l8,_=>⟨.ready,none,[eu b1 b0,.obj b0 (.map (l8.map (eM (fun p:Int×Int=>.agg #[.int .i64 p.1,.int .i64 p.2]) (fun x:Ut=>.agg #[.int .i64 x.1,.int .i64 x.2.1,.int .i64 x.2.2.1,.int .i64 x.2.2.2]))))]⟩:Rn)) l8 g) rfl rfl Try.func73 rfl rfl rfl ?_ (fun y=>by intro e; cases e) ?_
 clear hF;revert l8;intro r hF;intro t0 l2 r1 h6 h7;refine wz ?_;refine UN ?_;obtain⟨l10,h0,hF⟩:=J hF;refine ct (fun l10 (_:VC)=>⟨(.exit 0),[],[.obj l2 (r1 .ready none),eu b1 b0,.obj b0 (.map (l10.map (eM (fun p:Int×Int=>.agg #[.int .i64 p.1,.int .i64 p.2]) (fun x:Ut=>.agg #[.int .i64 x.1,.int .i64 x.2.1,.int .i64 x.2.2.1,.int .i64 x.2.2.2]))))]⟩) l10 ?_ ?_;refine lo h0 () [0,3,4,5,6] (fun(v0,l14) _=>⟨.normal,((0,.func (.yield l2) #[] #[])::zH a0 l1 c0 v0 []),[.obj l2 (r1 .ready none),CK a0 c0 l1 e0,fT aj r0 l1 e0,eu b1 b0,.obj b0 (.map (l14.map (eM (fun p:Int×Int=>.agg #[.int .i64 p.1,.int .i64 p.2]) (fun x:Ut=>.agg #[.int .i64 x.1,.int .i64 x.2.1,.int .i64 x.2.2.1,.int .i64 x.2.2.2]))))]⟩) ?_;clear hF h0;rintro⟨v0,l14⟩ ⟨⟩ r hF;unfold vi at hF;refine wz ?_;refine UJ ?_;rcases U hF with⟨h8,hF⟩|⟨h8,hF⟩;refine au ?_;obtain⟨h9,hF⟩:=cW hF;refine U0 (k:=1) rfl (aU h9) ?_;rintro b2 o1 rfl;refine wz ?_;obtain⟨⟨l16,l17⟩,h10,hF⟩:=J hF;refine wl 2 0 3 0 h10 ?_;rintro⟨⟨a4,c4⟩,⟨a5,c5,e3⟩⟩;refine wa z54 fun b14=>?_;refine au ?_;obtain⟨l3,h11,hF⟩:=J hF;refine Fx gn (fun m hm=>j7 h11 m hm.dW (hm.q 1) (hm.no 1) (hm.q 2) (hm.no 2) (hm.dp (q:=3) rfl) (hm.gQ (q:=3) rfl)) ?_;rintro⟨a3,c1,n0,e1,r3⟩;refine Wo.jH (k:=0) (q:=1) (L:=l3) rfl (.inr (.inl ⟨_,rfl⟩)) rfl ?_;rintro rfl;refine wz ?_;refine UN ?_;obtain⟨l11,h1,hF⟩:=J hF;refine ct (fun l11 (_:VC)=>⟨(.exit 2),((0,.func (.yield l2) #[] #[])::sO b2 o1 l1 c0 v0 []),(.obj l2 (r1 .ready none)::rV b2 o1 l1 e0 aj r0 c0 [eu b1 b0,.obj b0 (.map (l11.map (eM (fun p:Int×Int=>.agg #[.int .i64 p.1,.int .i64 p.2]) (fun x:Ut=>.agg #[.int .i64 x.1,.int .i64 x.2.1,.int .i64 x.2.2.1,.int .i64 x.2.2.2]))))])⟩) l11 ?_ ?_;refine lo h1 () [7,6,9,8,0,1,10,11] (fun(v1,l15) _=>⟨.normal,((0,.func (.yield l2) #[] #[])::(3,bg v0)::sO b2 o1 l1 c0 v0 [(18,bI a3 l3 c1),(19,dC l3),(20,bg v1)]),(.obj l2 (r1 .ready none)::rV b2 o1 l1 e0 aj r0 c0 [ju a3 c1 l3 e1,fT bl r3 l3 e1,eu b1 b0,.obj b0 (.map (l15.map (eM (fun p:Int×Int=>.agg #[.int .i64 p.1,.int .i64 p.2]) (fun x:Ut=>.agg #[.int .i64 x.1,.int .i64 x.2.1,.int .i64 x.2.2.1,.int .i64 x.2.2.2]))))])⟩) ?_;clear hF h1;rintro⟨v1,l15⟩ ⟨⟩ r hF;unfold vP at hF;refine wz ?_;refine UJ ?_;rcases U hF with⟨h12,hF⟩|⟨h12,hF⟩;refine au ?_;obtain⟨h13,hF⟩:=cW hF;refine U0 (k:=4) rfl (aU h13) ?_;rintro b3 o2 rfl;refine wz ?_;obtain⟨l4,h14,hF⟩:=J hF;refine wl 1 0 6 0 h14 ?_;rintro⟨a2,c2⟩;refine au ?_;refine UN ?_;obtain⟨l12,h2,hF⟩:=J hF;refine ct (fun l12 (_:VC)=>⟨(.exit 4),((0,.func (.yield l2) #[] #[])::(3,bg v0)::sO b2 o1 l1 c0 v0 (uJ b3 o2 l3 c1 v1 [])),(.obj l2 (r1 .ready none)::rV b2 o1 l1 e0 aj r0 c0 (ki b3 o2 l3 e1 bl r3 c1 [eu b1 b0,.obj b0 (.map (l12.map (eM (fun p:Int×Int=>.agg #[.int .i64 p.1,.int .i64 p.2]) (fun x:Ut=>.agg #[.int .i64 x.1,.int .i64 x.2.1,.int .i64 x.2.2.1,.int .i64 x.2.2.2]))))]))⟩) l12 ?_ ?_;refine lo h2 () [2,0,3,4,5,1,7,6,8,9] (fun(v6,l5) _=>⟨.normal,((0,.func (.yield l2) #[] #[])::(3,bg v0)::(5,bg v1)::(6,bI a2 l4 c2)::sO b2 o1 l1 c0 v0 (uJ b3 o2 l3 c1 v1 [(25,bI a2 l4 c2),(26,dC l4),(27,bg v6)])),(.obj l2 (r1 .ready none)::oc a2 c2 l4::rV b2 o1 l1 e0 aj r0 c0 (ki b3 o2 l3 e1 bl r3 c1 [eu b1 b0,.obj b0 (.map (l5.map (eM (fun p:Int×Int=>.agg #[.int .i64 p.1,.int .i64 p.2]) (fun x:Ut=>.agg #[.int .i64 x.1,.int .i64 x.2.1,.int .i64 x.2.2.1,.int .i64 x.2.2.2]))))]))⟩) ?_;clear hF h2;rintro⟨v6,l5⟩ ⟨⟩ r hF;unfold vR at hF;refine wz ?_;refine UJ ?_;rcases U hF with⟨h15,hF⟩|⟨h15,hF⟩;refine au ?_;obtain⟨h16,hF⟩:=cW hF;refine U0 (k:=1) rfl (aU h16) ?_;rintro b5 o3 rfl;refine wz ?_;obtain⟨x3,h26,hF⟩:=J hF;refine au ?_;obtain⟨h17,hF⟩:=az hF;refine UI (aJ rfl rfl (cf _ _ h17)) rfl ?_;obtain⟨h27,hF⟩:=cW hF;refine wz ?_;obtain⟨x4,h28,hF⟩:=J hF;refine wz ?_;refine UI (cH rfl rD rfl (cJ zo rfl rfl rfl)) rfl ?_;obtain⟨l9,h3,hF⟩:=J hF;refine UX (xO (k:=1) (k1:=0) (γA:=Nat) (GA:=(fun g:Nat=>(match g with|b4=>⟨.normal,[(3,ptr b1 0),(4,ptr b4 0)],(.obj l2 (r1 .ready none)::eu b1 b0::.obj b0 (.map (l5.map (eM (fun p:Int×Int=>.agg #[.int .i64 p.1,.int .i64 p.2]) (fun x:Ut=>.agg #[.int .i64 x.1,.int .i64 x.2.1,.int .i64 x.2.2.1,.int .i64 x.2.2.2]))))::fq b4 x3 x4 v0 v1::po b5 o3 l4 c2 (rV b2 o1 l1 e0 aj r0 c0 (ki b3 o2 l3 e1 bl r3 c1 [])))⟩:En))) (γ:=VC) (G:=fun g=>(fun(r:VB ((Int×Int) ×(Ut))) (g:VC)=>(match r,g with|l9,_=>⟨.normal,[],(.obj l2 (r1 .busy none)::eu b1 b0::.obj b0 (.map (l9.map (eM (fun p:Int×Int=>.agg #[.int .i64 p.1,.int .i64 p.2]) (fun x:Ut=>.agg #[.int .i64 x.1,.int .i64 x.2.1,.int .i64 x.2.2.1,.int .i64 x.2.2.2]))))::po b5 o3 l4 c2 (rV b2 o1 l1 e0 aj r0 c0 (ki b3 o2 l3 e1 bl r3 c1 [])))⟩:En)) l9 g) rfl rfl rfl h7 h6 rfl ?_ (fun _=>rfl) (fun _=>rfl) ?_ (fun y=>rfl)) gn rfl ?_
 clear hF h3;refine UK<|wa rD fun b12=>?_;refine wz ?_;exact ae b12 (2::10::11::0::1::Vg 3 7);clear hF;revert l9;intro r hF;rintro b4;refine wz ?_;refine UI (kV rfl rfl (lH _ _)) rfl ?_;refine wz ?_;refine UI (kV rfl rfl (u6 _ _)) rfl<|UI (cH rfl Kq rfl (cJ Gw rfl rfl rfl)) rfl<|wa Kq fun b6=>?_;refine au ?_;obtain⟨⟨⟨y0,y1,y2,y3⟩,y4⟩,h18,hF⟩:=J hF;refine UI (IJ (q:=3) (xs:=l5) (k:=(mi x3 x4,ma x3 x4)) (vE:=(fun x:Ut=>.agg #[.int .i64 x.1,.int .i64 x.2.1,.int .i64 x.2.2.1,.int .i64 x.2.2.2])) (z0:=((0:Int),(0:Int),(0:Int),(0:Int))) Rh (JD Kf bZ.known bZ.size bZ.agg u3) z44 rfl rfl rfl rfl h18) rfl ?_;refine wz ?_;refine wa z44 fun b7=>?_;refine wz ?_;refine UJ ?_;obtain⟨r4,h19,hF⟩:=J hF;refine ct (fun(v2,v3,v7,v8) (_:VC)=>⟨.normal,[(3,ptr b1 0),(4,ptr b4 0),(5,ptr b6 0),(6,ptr b7 0)],(.obj l2 (r1 .busy none)::eu b1 b0::.obj b0 (.map (l5.map (eM (fun p:Int×Int=>.agg #[.int .i64 p.1,.int .i64 p.2]) (fun x:Ut=>.agg #[.int .i64 x.1,.int .i64 x.2.1,.int .i64 x.2.2.1,.int .i64 x.2.2.2]))))::fq b4 x3 x4 v0 v1::.obj b6 (.cells [.int .i64 (mi x3 x4),.int .i64 (ma x3 x4)] .own)::fq b7 v2 v3 v7 v8::po b5 o3 l4 c2 (rV b2 o1 l1 e0 aj r0 c0 (ki b3 o2 l3 e1 bl r3 c1 [])))⟩) r4 ?_ ?_;clear hF;revert r4;intro r hF;refine wz ?_;rcases U hF with⟨h20,hF⟩|⟨h20,hF⟩;refine wz ?_;refine UI (cH rfl z44 rfl (cJ Au rfl rfl rfl)) rfl ?_;refine wz ?_;cases hF;exact ae () (2::3::4::5::1::0::Vg 6 8);refine wz ?_;cases hF;exact ae () (2::3::4::5::1::0::Vg 6 8);clear h19;obtain⟨v2,v3,v7,v8⟩:=r4;rintro⟨⟩;refine UR<|UJ ?_;obtain⟨r5,h21,hF⟩:=J hF;refine ct (fun(v4,v5) (_:VC)=>⟨.normal,[(3,ptr b1 0),(4,ptr b4 0),(5,ptr b6 0),(6,ptr b7 0)],(.obj l2 (r1 .busy none)::eu b1 b0::.obj b0 (.map (l5.map (eM (fun p:Int×Int=>.agg #[.int .i64 p.1,.int .i64 p.2]) (fun x:Ut=>.agg #[.int .i64 x.1,.int .i64 x.2.1,.int .i64 x.2.2.1,.int .i64 x.2.2.2]))))::fq b4 x3 x4 v0 v1::.obj b6 (.cells [.int .i64 (mi x3 x4),.int .i64 (ma x3 x4)] .own)::fq b7 v2 v3 v4 v5::po b5 o3 l4 c2 (rV b2 o1 l1 e0 aj r0 c0 (ki b3 o2 l3 e1 bl r3 c1 [])))⟩) r5 ?_ ?_;clear hF;revert r5;intro r hF;refine wz ?_;rcases U hF with⟨h22,hF⟩|⟨h22,hF⟩;refine wz ?_;cases hF;exact ae () (Vg 0 14);refine wz ?_;cases hF;exact ae () (Vg 0 14);clear h21;obtain⟨v4,v5⟩:=r5;rintro⟨⟩;refine au ?_;refine U4 (D0 (q:=2) (xs:=l5) (k:=(mi x3 x4,ma x3 x4)) (v:=(v2,v3,v4,v5)) (vE:=(fun x:Ut=>.agg #[.int .i64 x.1,.int .i64 x.2.1,.int .i64 x.2.2.1,.int .i64 x.2.2.2])) Rh (JD Kf bZ.known bZ.size bZ.agg u3) rfl rfl rfl rfl) ?_;refine wz ?_;cases hF;exact ae () (0::1::2::Vg 6 8);rintro⟨⟩;refine gB ?_;cases hF;exact ae () [0,4,5,6,7,8,9,10,1,2];refine wz ?_;cases hF;exact ae () (0::Vg 2 8);rintro⟨⟩;refine au ?_;cases hF;exact ae () [0,1,2,3,6,5,7,8];refine wz ?_;cases hF;exact ae () [0,1,2,3,6,7];rintro⟨⟩;refine au ?_;cases hF;exact ae () [0,3,2,4,5];refine wz ?_;cases hF;exact ae () [0,3,4];rintro⟨⟩;refine Vf ?_;obtain rfl:=Sb hF;exact At.fin .nil fun m' hm=>⟨(),(UO [0,1,2] rfl rfl) m' hm⟩;rintro⟨⟩
 change At _ .normal _ _ _
 refine At.bn<|At.Ih<|Vk.seq hE ?_;refine wz ?_;refine At.Ih ?_;cases hF;exact Vk.Gz (sc rfl (sc rfl sn)) (UO [0,1] rfl rfl) (kN (b1,b0))
end Go.Proofs.Ytmndpgfbkicndaa
namespace Go.Ab
open Go
section
variable{E:Env}{j j1:aP}{m m1:Vn}{w w1:UD}
def Sim.Lc(h:MR E j m w)(s:Sim E j { m with wl:=m.next} w j1 m1 w1)(g:Grown m m1){b1:Nat}{k1:Blk}{cs:VB Uz}{tag:Tag}(hb:m.next<=b1)(hk:j1 b1=some k1)(ho:m1.get b1=some (.cells cs tag))(hp:cs.all aQ=true){k2:Blk}{tag2:Tag}(hc2:k2.c=k1.c)(htg:∀(c:VD Uz) (fz:Nat×Nat),pA k1 tag cs.length c fz->pA k2 tag2 cs.length c fz) :
  Sim E j m w (j.set m.next k2) (m.alloc (.cells cs tag2)) w1:=by
 have hn:j m.next=none:=h.nJ
 have hj1:j b1=none:=by
  cases e:j b1 with
  | none=>rfl
  | some k=>exact Sw (h.lt b1 k e).1 (by omega)
 have hfresh:w.heap.size<=k1.c:=by
  rcases s.fresh b1 k1 hk hj1 with hf|⟨b0,k0,a1,_,_,a4⟩
  exact hf
  have:=(h.lt b0 k0 a1).1; have:=g.wl; omega
 refine⟨.alloc m _,aP.oK k2 hn,?_,?_,s.size,?_,?_,?_,fun c hc _=>s.old h g c hc,s.calm⟩
 intro b k e e'
 by_cases hbm:b=m.next
 omega
 rw[aP.bS _ _ hbm,e'] at e; cases e
 ·have ha:=h.after s g;refine⟨fun b k e=>?_,fun b o k ho' e=>?_,fun b b' k k' e e' hl hl' hc=>?_,fun gl hgl=>?_⟩
  by_cases hbm:b=m.next
  subst hbm; rw[aP.cd] at e; cases e;exact⟨T3 _,hc2 ▸(s.mr.lt b1 k1 hk).2⟩
  rw[aP.bS _ _ hbm] at e;exact⟨Nat.lt_succ_of_lt (h.lt b k e).1,(ha.lt b k e).2⟩
  ·rw[Vn.aW] at ho'
   by_cases hbm:b=m.next
   ·subst hbm; rw[aP.cd] at e; cases e;rw[R7 rfl] at ho'; cases ho';obtain⟨o',h1,h2⟩:=s.mr.obj b1 _ k1 ho hk;refine⟨o',hc2▸h1,?_⟩;cases o' with
    | cells c ty fz =>
     refine⟨htg _ _ h2.1,fun i v hi=>?_⟩;obtain⟨v',h3,h4⟩:=h2.2 i v hi;have hpv:=Sp.1 hp v (SA hi);have:=fN hpv h4;subst this;exact⟨_,h3,.aQ hpv⟩
    | _=>exact h2.elim
   rw[R5 hbm] at ho';rw[aP.bS _ _ hbm] at e;obtain⟨o',h1,h2⟩:=ha.obj b o k ho' e;exact⟨o',h1,h2.mono (aP.oK k2 hn)⟩
  have old:∀{b k},j b=some k->(m.get b).isSome=true->k.c≠k1.c:=fun{b k} e hl hc=>by
   have hlt:=(h.lt b k e).1;have:=s.mr.inj b b1 k k1 (s.le b k e) hk (by rw[g.same b hlt]; exact hl) (by rw[ho]; rfl) hc
   omega
  by_cases hbm:b=m.next
  by_cases hbm':b'=m.next
  rw[hbm,hbm']
  subst hbm; rw[aP.cd] at e; cases e;rw[aP.bS _ _ hbm'] at e';rw[Vn.aW,R5 hbm'] at hl';exact Sw (hc.symm.trans hc2) (old e' hl')
  by_cases hbm':b'=m.next
  subst hbm'; rw[aP.cd] at e'; cases e';rw[aP.bS _ _ hbm] at e;rw[Vn.aW,R5 hbm] at hl;exact Sw (hc.trans hc2) (old e hl)
  rw[aP.bS _ _ hbm] at e;rw[aP.bS _ _ hbm'] at e';rw[Vn.aW,R5 hbm] at hl;rw[Vn.aW,R5 hbm'] at hl';exact h.inj b b' k k' e e' hl hl' hc
  have:=h.glob gl hgl;have hlt:=(h.lt gl _ this).1;rw[aP.bS _ _ (by omega)]; exact this
 intro b hb1 hb2 _;have:b=m.next:=by simp at hb2; omega
 subst this; exact⟨k2,aP.cd _ _ _⟩
 intro b hb _;rw[Vn.aW,UG]
 intro b k e e'
 by_cases hbm:b=m.next
 subst hbm; rw[aP.cd] at e; cases e;exact .inl (hc2▸hfresh)
 rw[aP.bS _ _ hbm,e'] at e; cases e
end
namespace W
def ry{E:Env}{f:VI}{args:VB Uz}{m:Vn}{v:Uz}{m':Vn}(h:FQ E f args { m with wl:=m.next} fun v1 m1=>Grown m m1 /\
  ((bC v=true/\v1=v/\m'=m)\/∃b1 cs tag sz n,0<sz/\cs.length=n*sz/\n<=9223372036854775807/\v1=.slice (some ⟨b1,0,none⟩) n n/\v=.slice (some ⟨m.next,0,none⟩) n n/\m.next<=b1/\b1<m1.next/\m1.get b1=some (.cells cs tag)/\(tag=.own\/tag=.more sz)/\cs.all aQ=true/\m'=m.alloc (.cells cs (.more sz)))) (pr:Bool) {j:aP} {w:UD} {args':VB Uz} (hm:MR E j m w) (hl:LR j args args'):gN E.P pr f args'.toArray w (jx E j m w v m'):=by
 refine mh (fun h=>by cases h) (h j w args' (MR.vc hm) hl) ?_
 rintro v' w' ⟨v1,m1,⟨hg,hc⟩,j',s,hv⟩;rcases hc with⟨hpv,rfl,rfl⟩|⟨b1,cs,tag,sz,n,hsz,hcl,hn,rfl,rfl,hb,hb1,ho,htag,hpl,rfl⟩
 exact⟨j,Sim.forget hm s hg,VR.D7 hpv hv⟩
 ·cases hv with
  | slice hj hmo =>
   rename_i k1;refine⟨_,Sim.Lc hm s hg hb hj ho hpl (k2:=⟨k1.c,some (sz,cs.length,cs.length)⟩) (tag2:=.more sz) rfl (fun c fz ht=>?_),.sliceM (k:=⟨k1.c,some (sz,cs.length,cs.length)⟩) (aP.cd _ _ _) rfl (by rw[hcl,TB]) (by rw[hcl,TB]) (Sa _) (Sa _)⟩
   rcases htag with rfl|rfl
   obtain⟨_,t2,rfl⟩:k1.more=none/\c.size=cs.length/\fz=(0,0):=ht;refine⟨by rw[t2],by rw[t2]; exact Sa _,rfl,hsz,?_⟩
   unfold iC;rw[t2,hcl,Nat.mul_comm]; exact Nat.mul_le_mul_left _ hn
   have:k1.more=some (sz,cs.length,c.size):=ht.1;rw[hmo] at this; cases this
  | sliceM hj hmo a1 a2 a3 a4 =>
   rename_i c' sz' na nc k1;refine⟨_,Sim.Lc hm s hg hb hj ho hpl (k2:=k1) (tag2:=.more sz) rfl (fun c fz ht=>?_),.sliceM (k:=k1) (aP.cd _ _ _) hmo a1 a2 a3 a4⟩;rcases htag with rfl|rfl
   have:k1.more=none:=ht.1;rw[hmo] at this; cases this
   exact ht
end W
end Go.Ab
namespace Go.Proofs.Ytmndpgfbkicndaa
section
open Go Go.Ab Go.Ab.W
set_option maxRecDepth 10000
def Is{m:Vn}{x b:Nat}:({ m with wl:=x}:Vn).get b=m.get b:=rfl
def CM{m:Vn}{x w c n:Nat}{a:Ux}{es:Uw}(h:Rd m a c w n es):Rd { m with wl:=x} a c w n es:=h
def KT{m:Vn}{x:Nat}{R:Uy}{L:Us}{es:Uw}(h:(cp aj R L es).P m):(cp aj R L es).P { m with wl:=x}:=h
attribute [local irreducible] Tm.at Trie.set Trie.get Vn.get Vn.set Vn.alloc Vn.ww Vn.kill
def tS(l:VB dS):((l.map fa).flatten).length=l.length*4:=by rw[cG (w:=4) (fun e he=>by obtain⟨x,_,rfl⟩:=Sy.1 he; rfl),Si]
def J9{p q:VA Prim}{m0 m:Vn}{ps:VB Pc}(h:Hp m0 m ps){k nn:Nat}{a:Ux}{l:VB dS}(hp:pk ps k=some (.sl a 4 nn (l.map fa)))(hok:qz l=true)(hlim:lim nn=true) :
    aK (Vq p q) 51 [.slice a nn nn,.func (.func 52) #[] #[]] m (fun v m'=>∃_:VC,v=.tuple #[]/\Hp m0 m' (bL ps k (.sl a 4 nn ((l.mergeSort dY).map fa)))):=by
  rcases h.get hp with⟨rfl,e2,rfl,_⟩|⟨b,tg,rfl,hO⟩
  have hl:l=[]:=T1.1 e2;subst hl;refine aK.cP (p:=⟨k5⟩) rfl (v:=.tuple #[]) (m':=m) rfl ⟨(),rfl,?_⟩;rw[List.mergeSort_nil,qg _ _ _ hp];exact h
  obtain⟨h1,h2,h3,h4,h5,h6,h7⟩:=hO;have hn:l.length=nn:=by simpa using h4
  subst hn;have hw:gO m 4 b l.length l.length=some ((l.map fa).flatten,tg):=by
    unfold gO;rcases h6 with rfl|rfl<;>simp only[h3]
    rw[R7 ⟨trivial,tS _⟩]
    rw[R7 ⟨trivial,tS _,trivial⟩]
  refine aK.cP (p:=⟨k5⟩) rfl (v:=.tuple #[]) (m':=m.set b (.cells ((l.mergeSort dY).map fa).flatten tg)) ?_ ⟨(),rfl,?_⟩
  show k5 [.slice (some ⟨b,0,none⟩) l.length l.length,.func (.func 52) #[] #[]] m=_
  simp only[k5,hw,q5];rw[R7 ⟨⟨rfl,rfl⟩,hlim,hok⟩]
  refine h.write hp rfl rfl rfl rfl (.inr ⟨b,tg,rfl,h1,?_,?_,?_,?_,h6,h7⟩)
  rw[Vn.next_set]; exact h2
  rw[Vn.bp,R7 rfl]
  simp
  intro e he;obtain⟨x,_,rfl⟩:=Sy.1 he
  rfl
def lR(r:VB ((Int×Int)×dS))(S:VB Nat):VB dS:=S.filterMap fun i=>(r[i]?).map (·.2)
def qm{r:VB ((Int×Int)×dS)}{S:VB Nat}{i:Nat}{e:(Int×Int)×dS}(h:r[i]? = some e):lR r (S++[i])=lR r S++[e.2]:=by
  unfold lR;rw[List.filterMap_append];simp[h]
def Nx:VB dS->Ux->Ux
  | [],_=>none
  | _::_,a=>a
def vn{l:VB dS}{x:dS}{a:Ux}:Nx (l++[x]) a=a:=by cases l<;>rfl
def Ie{r:VB ((Int×Int)×dS)}{S:VB Nat}:(lR r S).length<=S.length:=List.length_filterMap_le _ _
def BF(r:VB ((Int×Int)×dS)):lR r (List.range r.length)=r.map (·.2):=by
  unfold lR;have:∀(r:VB ((Int×Int)×dS)),(List.range r.length).filterMap (fun i=>(r[i]?).map (·.2))=r.map (·.2):=by
    intro r
    induction r with
    | nil=>rfl
    | cons x r ih =>
      rw[SS,List.range_succ_eq_map,List.filterMap_cons];simp only[SB,Ss,List.filterMap_map,Ts]
      congr 1
  exact this r
def Eb{r:VB ((Int×Int)×dS)}{S:VB Nat}(h:S.Perm (List.range r.length)):(lR r S).Perm (r.map (·.2)):=by
  rw[<-BF];exact h.filterMap _
def vL{l l':VB dS}(h:l.Perm l')(ho:qz l'=true):qz l=true:=by
  unfold qz at *;simp only[R9,Sj,Sp] at *;exact⟨fun x hx=>ho.1 x (h.mem_iff.1 hx),(h.map _).nodup_iff.2 ho.2⟩
def u0{l l':VB dS}(h:l.Perm l')(ho:qz l'=true):l.mergeSort dY=l'.mergeSort dY:=by
  obtain⟨h1,h2⟩:=tX ho;have tr:∀a b c:dS,dY a b=true->dY b c=true->dY a c=true:=by
    intro a b c; unfold dY; simp only[Sj]; omega
  have to:∀a b:dS,(dY a b||dY b a)=true:=by
    intro a b; unfold dY; simp only[Tv,Sj]; omega
  refine List.Perm.eq_of_pairwise (le:=fun a b=>dY a b=true) ?_ (List.pairwise_mergeSort tr to _) (List.pairwise_mergeSort tr to _) ((Uc _ _).trans (h.trans (Uc _ _).symm));intro a b ha hb e1 e2;have ha':=(h.mem_iff.1 ((Uc _ _).mem_iff.1 ha));have hb':=(Uc _ _).mem_iff.1 hb;refine nB h2 ha' hb' ?_;unfold dY at e1 e2;simp only[Sj] at e1 e2;exact SO (by simp only; omega) (by simp only; omega)
def qE(x:dS):∀l:VB dS,(DP x l).Perm (x::l)
  | []=>.refl _
  | y::l=>by
    unfold DP
    split
    exact .refl _
    exact((qE x l).cons y).trans (.swap x y l)
def mu:∀l:VB dS,(sU l).Perm l
  | []=>.refl _
  | x::l=>(qE x _).trans ((mu l).cons x)
def sZ(a b c:dS):dY a b=true->dY b c=true->dY a c=true:=by
  unfold dY; simp only[Sj]; omega
def BC{a b:dS}(h:dY a b=false):dY b a=true:=by
  unfold dY at *; simp only[Sj,decide_eq_false_iff_not] at *; omega
def qU(x:dS):∀{l:VB dS},l.Pairwise (fun a b=>dY a b=true)->(DP x l).Pairwise (fun a b=>dY a b=true)
  | [],_=>List.pairwise_singleton _ _
  | y::l,h=>by
    obtain⟨h1,h2⟩:=Sz.1 h;unfold DP
    split
    rename_i hc;refine Sz.2 ⟨fun z hz=>?_,h⟩;rcases Sr.1 hz with rfl|hz
    exact hc
    exact sZ _ _ _ hc (h1 z hz)
    rename_i hc;refine Sz.2 ⟨fun z hz=>?_,qU x h2⟩;rcases Sr.1 ((qE x l).mem_iff.1 hz) with rfl|hz
    exact BC (by simpa using hc)
    exact h1 z hz
def oz:∀l:VB dS,(sU l).Pairwise (fun a b=>dY a b=true)
  | []=>.nil
  | x::l=>qU x (oz l)
def vU{l:VB dS}(ho:qz l=true):sU l=l.mergeSort dY:=by
  obtain⟨h1,h2⟩:=tX ho;refine List.Perm.eq_of_pairwise (le:=fun a b=>dY a b=true) ?_ (oz l) (List.pairwise_mergeSort sZ (fun a b=>by unfold dY; simp only[Tv,Sj]; omega) _) ((mu l).trans (Uc _ _).symm)
  intro a b ha hb e1 e2;have ha':=(mu l).mem_iff.1 ha;have hb':=(Uc _ _).mem_iff.1 hb;refine nB h2 ha' hb' ?_;unfold dY at e1 e2;simp only[Sj] at e1 e2;exact SO (by simp only; omega) (by simp only; omega)
abbrev OK:(Int×Int)×dS->Uz×Uz:=eM (fun p:Int×Int=>.agg #[.int .i64 p.1,.int .i64 p.2]) (fun x:Ut=>.agg #[.int .i64 x.1,.int .i64 x.2.1,.int .i64 x.2.2.1,.int .i64 x.2.2.2])
def zR{E:Env}{m0 m:Vn}{t:Tm}{fs:Fs}{ps:VB Pc}{ty:UA}{x:UB}{v:Uz}{ag:Bool}{sz b o k:Nat}{cs:VB Uz}{tg:Tag}(ht:TyI E.P ty ag sz)(hx:ev E fs x=some (ptr b o))(hp:pk ps k=some (.obj b (.cells cs tg)))(hv:yw ag sz cs o=some v)(hf:Fr t fs)(hm:Hp m0 m ps):fj E t m (.load ty x)=some (v,m):=by
  have h1:=hf.ev hx;have h2:=rQ (P:=E.P) ht (hm.get hp).2.2 hv
  show(match al E t x with|some p=>(dT E.P ty p m).map fun v=>(v,m)|none=>none)=_
  rw[h1]
  show(dT E.P ty _ m).map _=_
  rw[h2]; rfl
def QQ{p q:VA Prim}:(Vq p q).P.underlying 37=some (.slice 44):=by kernel_rfl
def Oh{p q:VA Prim}:SlT (Vq p q).P 37 44 4:=SlT.of (by kernel_rfl)
instance{p q:VA Prim}:UsC (Vq p q).P 37 44:=⟨QQ⟩
instance{p q:VA Prim}:SlC (Vq p q).P 37 44 4:=⟨Oh⟩
section
variable{q:VA Prim}
set_option maxHeartbeats 4000000
def Mu{m:Vn}{r:VB ((Int×Int)×dS)}{b b2:Nat}(hlim:lim r.length=true)(hok:qz (r.map (·.2))=true){R:Uz->Vn->Prop}
    (hR:∀(a:Ux) (m':Vn),(r=[]->a=none)->Hp m m' [.sl a 4 r.length ((((r.map (·.2)).mergeSort dY)).map fa)]->R (.slice a r.length r.length) m') :
    Vk (Vq none none) 66 24 none (Qc 4 (ml Try.f24)) (jA (Vq none none) [.tmp 2] R) m [(3,ptr b 0),(8,.slice none 0 0)] [.obj b (.cells [.map (some b2)] .own),.obj b2 (.map (r.map OK))]:=by
  refine Vk.mapRange (E:=Vq none none) s8 (fun h=>h) (γ:=Ux) (kt:=104) (et:=44) ⟨rfl,rfl⟩ ⟨rfl,rfl,rfl⟩ Rh ⟨rfl,rfl,rfl⟩ ⟨rfl,rfl,rfl⟩ ⟨rfl,rfl,rfl⟩ rfl (by decide) (by decide) (bm:=b2) (k:=1) (es:=r.map OK)
    (fun t m' hf hm=>zR (k:=0) PO rfl rfl rfl hf hm) rfl
    (fun bi S a=>([(8,.slice (Nx (lR r S) a) (lR r S).length (lR r S).length),(54,ptr bi 0)],[.sl (Nx (lR r S) a) 4 (lR r S).length ((lR r S).map fa)]))
    (fun bi S g=>rfl) (fun bi S g p hp=>by rw[Se.1 hp]; exact⟨rfl,fun b hb=>.inl ⟨rfl,Pc.xP rfl hb⟩⟩) (fun _=>none) (fun bi=>⟨sc rfl (sc rfl sn),fun m1=>aa.nil 4 rfl⟩) ?_ ?_
  intro bi m1 S i e a hS hSl hi he;rw[Si] at hSl;rw[S5] at he;obtain⟨e,he0,rfl⟩:=Option.map_eq_some_iff.1 he;clear he;have he:=he0;have hn:(lR r (S++[i])).length<=r.length:=by
    refine SI Ie ?_;have hnd:(S++[i]).Nodup:=List.nodup_append.2 ⟨hS,TI.2 ⟨List.not_mem_nil,List.nodup_nil⟩,fun x hx y hy=>by rw[Se.1 hy]; exact fun e=>hi (e▸hx)⟩
    have hsub:(S++[i])⊆List.range r.length:=fun x hx=>by
      rw[SM];rcases St.1 hx with hx|hx
      exact hSl x hx
      rw[Se.1 hx]; exact(Sl.1 he).1
    simpa using hnd.length_le_of_subset hsub
  have hl2:lim (lR r S++[e.2]).length=true:=by
    rw[<-qm he];exact Nat.ble_eq_true_of_le (SI hn (oW hlim))
  refine UI (KD rfl rfl) rfl ?_;refine UX (uH z44 rfl) gn rfl fun b6=>?_;refine U4 (eg (k:=0) Mn rfl rfl rfl rfl rfl) ?_;refine UQ (Q:=fun _=>_) ?_
  show Wk (Vq none none) 66 24 none _ _ m1 _ _
  refine UK ?_;refine UI (aV rfl) rfl ?_;refine UI (aI (k:=0) Mn rfl rfl rfl) rfl ?_;refine UX (cm (es:=([e.2]:VB dS).map fa) Oh rfl (cn Oh z44 rfl rfl) rfl rfl) gn rfl fun b7=>?_;refine UX (uy (k:=2) (k2:=0) (xs:=lR r S) (ys:=[e.2]) (EC (tF .i64) (EC (tF .i64) (EC (tF .i64) (tF .i64)))) Oh ⟨_,QQ⟩ rfl rfl rfl (.arr _ _ _ _ _) hl2) gn rfl fun a8=>?_;refine UI (bG rfl) rfl ?_;refine UQ (Q:=fun _=>_) ?_;intro t' m' hf hm;refine⟨rfl,a8,?_,?_⟩
  rw[qm he,vn];exact hf.sub (sc rfl (sc rfl sn))
  rw[qm he,vn];exact(UO [2] rfl rfl) m' hm
  intro bi S a hS;rw[Si] at hS;have hp:=Eb hS;have hlen:(lR r S).length=r.length:=by rw[hp.length_eq,Si]
  refine Vk.of s8 ?_;refine UJ ?_;refine UK ?_;refine UI (aV rfl) rfl ?_;refine UX (mC (α:=VC) (V:=fun _=>.tuple #[]) (N:=fun _=>_) rfl rfl fun m' hm=>J9 (k:=0) (l:=lR r S) hm rfl (vL hp hok) (by rw[hlen]; exact hlim)) gn rfl fun _=>?_
  refine UQ ?_;refine UR ?_;refine UJ ?_;refine UK ?_;refine UI (aV rfl) rfl ?_;refine UI (bG rfl) rfl ?_;refine UQ ?_;refine UR ?_;refine U9 ?_;refine UY (.tmp rfl .nil) fun m' hm=>?_;rw[hlen,u0 hp hok] at hm;rw[hlen];exact hR _ m' (fun h=>by subst h; rw[SL.1 hlen]; rfl) ((UO [0] rfl rfl) m' hm)
end
abbrev wJ:Int×Int->VB Uz:=eP (eI .i64) (eI .i64)
abbrev Cx:=Uu×Us
def qo(m:Vn)(v:Uz)(x:Cx):Prop :=
  ∃a c a' c' R es,v=.agg #[.slice a x.1.length c,.slice a' x.2.length c']/\Rd m a c 2 x.1.length (x.1.map wJ)/\Rd m a' c' 2 x.2.length es/\(cp aj R x.2 es).P m
def Lw:∀x y:Int,eI .i64 x=eI .i64 y->x=y:=fun x y h=>by
  have:=TE h;injection this
def ON:∀x y:Int×Int,wJ x=wJ y->x=y:=fun x y h=>by
  have h1:=TE h;have h2:=TE (List.tail_eq_of_cons_eq h);injection h1 with _ h1;injection h2 with _ h2;exact SO h1 h2
def MN:yE aj:=Q5 (PY Lw) (Rc (PY Lw))
def qo.uniq{m:Vn}{v:Uz}{x y:Cx}(h:qo m v x)(h':qo m v y):x=y:=by
  obtain⟨a,c,b,d,R,es,rfl,h1,h2,h3⟩:=h;obtain⟨a',c',b',d',R',es',e,h1',h2',h3'⟩:=h';injection e with e;injection e with e;have e1:=TE e;have e2:=TE (List.tail_eq_of_cons_eq e);injection e1 with e3 e4 e5;injection e2 with e6 e7 e8;subst e3 e6;have x1:=wA ON h1 h1' e4;have x2:=vO h2 h2' e7;subst x2;exact SO x1 (h3.1.uniq MN h3'.1)
def nE(m:Vn)(l:VB dS):Uz×Vn:=if l=[] then(.slice none 0 0,m) else(.slice (some ⟨m.next,0,none⟩) l.length l.length,m.alloc (.cells (l.map fa).flatten (.more 4)))
open Classical in
noncomputable def mO (args:VB Uz) (m:Vn):VA (Uz×Vn) :=
  match args with
  | [v]=>if h:∃l,∃x:Cx,qo m v x/\E1 0 x.1 x.2=some l then some (nE m (Classical.choose h)) else none
  | _=>none
noncomputable def mK:Prim:=⟨mO⟩
open Classical in
def uR{m m':Vn}{v r:Uz}(h:mO [v] m=some (r,m')):∃x:Cx,∃l,qo m v x/\E1 0 x.1 x.2=some l/\nE m l=(r,m'):=by
  change dite _ _ _=_ at h
  by_cases hx:∃l,∃x:Cx,qo m v x/\E1 0 x.1 x.2=some l
  rw[dif_pos hx] at h;obtain⟨x,h1,h2⟩:=Tj hx;exact⟨x,_,h1,h2,Sb h⟩
  rw[dif_neg hx] at h; cases h
open Classical in
def zl{m:Vn}{v:Uz}{x:Cx}{l:VB dS}(h:qo m v x)(hF:E1 0 x.1 x.2=some l):mO [v] m=some (nE m l):=by
  have hx:∃l,∃x:Cx,qo m v x/\E1 0 x.1 x.2=some l:=⟨l,x,h,hF⟩
  change dite _ _ _=_
  rw[dif_pos hx];obtain⟨y,h1,h2⟩:=Tj hx;have e1:=h1.uniq h;subst e1;rw[hF] at h2;rw[<-Sb h2]
def wH{args:VB Uz}{m m':Vn}{v:Uz}(h:mO args m=some (v,m'))(pr:Bool){j:aP}{w:UD}{args':VB Uz}(hm:MR (Vq none none) j m w)(hl:LR j args args') :
    gN (Vq none none).P pr 24 args'.toArray w (jx (Vq none none) j m w v m'):=by
  have ha:∃v,args=[v]:=by
    unfold mO at h
    split at h
    exact⟨_,rfl⟩
    cases h
  obtain⟨va,rfl⟩:=ha;obtain⟨⟨l1,l5⟩,l,⟨a,c,a',c',R,es,rfl,h1,h2,h3⟩,hF,he⟩:=uR h;simp only at h1 h2 h3 hF;unfold E1 at hF;obtain⟨r,hFA,hF⟩:=J hF;obtain⟨hc,hF⟩:=az hF;rw[R9] at hc;have hl':=Sb hF;subst hl';rw[vU hc.1] at he;have hh1:Rd { m with wl:=m.next} a c 2 l1.length (l1.map wJ):=CM h1
  have hh2:Rd { m with wl:=m.next} a' c' 2 l5.length es:=CM h2
  have hh3:(cp aj R l5 es).P { m with wl:=m.next}:=KT h3
  refine ry (Ac (E:=Vq none none) (c:=ml Try.f24) (m0:={ m with wl:=m.next}) (m:={ m with wl:=m.next}) (N:=66) (rs:=[.tmp 2]) (ps:=[.gen (cp aj R l5 es),.rd a' c' 2 l5.length es,.rd a c 2 l1.length (l1.map wJ)]) s8 Try.func24 rfl rfl rfl ((((UU _).cU eo hh1).cU (fg eo) hh2).nV (fg (fg eo)) hh3) ?_) pr hm hl
  refine I6 s8 100000 l1 l5 a c a' c' R es r hFA _ hh1 hh2 hh3 fun g=>?_;refine Mu (by simpa using hc.2) hc.1 fun a6 m1 ha6 hm1=>?_
  have hn0:({ m with wl:=m.next}:Vn).next=m.next:=rfl
  refine⟨⟨hm1.ext.next,fun b hb=>(hm1.ext.same b hb).trans Is,by have:=hm1.ext.wl; rw[hn0] at this; exact SI (Ue (Nat.min_self _).symm) this⟩,?_⟩
  have hlen:((r.map (·.2)).mergeSort dY).length=r.length:=by rw[List.length_mergeSort,Si]
  rcases hm1.get (k:=0) rfl with⟨e3,e2,rfl,_⟩|⟨b,tg,rfl,g1,g2,g3,g4,g5,g6,g7⟩
  have e4:=T1.1 e2;rw[e4] at he;unfold nE at he;rw[R7 rfl] at he;cases he;exact .inl ⟨rfl,by rw[e3],rfl⟩
  have hr:r≠[]:=fun e=>by cases ha6 e
  have hs:(r.map (·.2)).mergeSort dY≠[]:=fun e=>hr (T1.1 (SL.1 (by rw[<-List.length_mergeSort (le:=dY),e]; rfl)))
  unfold nE at he;rw[R5 hs,hlen] at he;cases he;exact .inr ⟨b,_,tg,4,r.length,by decide,by rw[tS,hlen],SI (oW (by simpa using hc.2)) (by decide),rfl,rfl,g1,g2,g3,g6,oZ _,rfl⟩
def pt:EnvOk (Vq (some mK) none):=tJ (E:=Vq none none) s8 (pr:=(Vq (some mK) none).cP) fun f P hp=>by
  by_cases e:f=24
  subst e;have hp':some mK=some P:=hp;cases hp';exact .inr fun args m v m' h j w args' hm hl=>wH h _ hm hl
  refine .inl ?_;have:(Vq (some mK) none).cP f=(Vq none none).cP f:=by
    show(if f=24 then _ else _)=(if f=24 then _ else _)
    rw[R5 e,R5 e]
  rw[<-this]; exact hp
def E3{q:VA Prim}(n:Nat)(l1:Uu)(l5:Us)(a2:Ux)(c3:Nat)(a6:Ux)(c7:Nat)(rr8:Uy)(es9:Uw)(r:VB dS)(hF:E1 n l1 l5=some r)(m:Vn)(h4:Rd m a2 c3 2 l1.length (l1.map wJ))(h10:Rd m a6 c7 2 l5.length es9)(h11:(cp aj rr8 l5 es9).P m) :
    aK (Vq (some mK) q) 24 [.agg #[.slice a2 l1.length c3,.slice a6 l5.length c7]] m (fun v m'=>∃x:Ux×Nat,v=.slice x.1 x.2 x.2/\Hp m m' [.sl x.1 4 x.2 (r.map (eP (eI .i64) (eP (eI .i64) (eP (eI .i64) (eI .i64)))))]):=by
  have hrun:=zl (x:=(l1,l5)) ⟨a2,c3,a6,c7,rr8,es9,rfl,h4,h10,h11⟩ hF;unfold nE at hrun
  by_cases hr:r=[]
  rw[R7 hr] at hrun;refine aK.cP (p:=mK) rfl hrun ⟨(none,0),rfl,?_⟩;subst hr;exact(aa.nil 4 rfl) m (UU m)
  rw[R5 hr] at hrun;refine aK.cP (p:=mK) rfl hrun ⟨(some ⟨m.next,0,none⟩,r.length),rfl,?_⟩
  refine(UU m).cons (by rw[Vn.next_alloc]; exact Nat.le_succ _) ((Ext.refl m).alloc _) (fun b hlt=>by rw[Vn.aW,UG]) (.inr ⟨m.next,.more 4,rfl,Sa _,by rw[Vn.next_alloc]; exact T3 _,by rw[Vn.aW,R7 rfl],by simp,fun e he=>?_,.inr rfl,by decide⟩) (fun b' h'=>?_)
  obtain⟨x,_,rfl⟩:=Sy.1 he
  rfl
  cases h'; exact Sa _
end
section
open Go Go.Ab Go.Ab.W
set_option maxRecDepth 10000
set_option maxHeartbeats 4000000
attribute [local irreducible] Wo Wk At Wn Od Ox bh bT
attribute [local irreducible] Tm.at Trie.set Trie.get Vn.get Vn.set Vn.alloc Vn.ww Vn.kill
variable{p q:VA Prim}
def iz:∀b o,aC (Vq p q).P 34 (ptr b o) 0=some (ptr b (o+0)):=fun _ _=>by kernel_rfl
instance:FaC (Vq p q).P 34 0 0:=⟨iz⟩
def rI:TyI (Vq p q).P 31 false 1:=⟨by kernel_rfl,by kernel_rfl,by kernel_rfl⟩
instance:TyC (Vq p q).P 31 false 1:=⟨rI⟩
def Qa:(Vq p q).P.underlying 31=some (.slice 26):=by kernel_rfl
instance:UsC (Vq p q).P 31 26:=⟨Qa⟩
def vK:SlT (Vq p q).P 31 26 2:=SlT.of (by kernel_rfl)
instance:SlC (Vq p q).P 31 26 2:=⟨vK⟩
def cX:TyI (Vq p q).P 26 true 2:=⟨by kernel_rfl,by kernel_rfl,by kernel_rfl⟩
instance:TyC (Vq p q).P 26 true 2:=⟨cX⟩
def z26:bq (Vq p q).P 26=some (.agg #[.int .i64 0,.int .i64 0]):=by kernel_rfl
def dv:∀b o,aC (Vq p q).P 26 (ptr b o) 0=some (ptr b (o+0)):=fun _ _=>by kernel_rfl
instance:FaC (Vq p q).P 26 0 0:=⟨dv⟩
def du:∀b o,aC (Vq p q).P 26 (ptr b o) 1=some (ptr b (o+1)):=fun _ _=>by kernel_rfl
instance:FaC (Vq p q).P 26 1 1:=⟨du⟩
def C5:E7 (Vq p q).P 26 3 3 .i64 .i64=true:=by kernel_rfl
def GQ:(Vq p q).P.underlying 114=some (.map 26 4):=by kernel_rfl
def z4:bq (Vq p q).P 4=some (.bool false):=by kernel_rfl
def z116:bq (Vq p q).P 116=some (.nilFunc):=by kernel_rfl
def P0:TyI (Vq p q).P 116 false 1:=⟨by kernel_rfl,by kernel_rfl,by kernel_rfl⟩
instance:TyC (Vq p q).P 116 false 1:=⟨P0⟩
def Es:BdT (Vq p q).P 26 (.agg #[.int .i64 0,.int .i64 0]) [(0,1),(1,1)]:=.mk' (by kernel_rfl) (by kernel_rfl)
def Ru:(Vq p q).P.underlying 55=some (.slice 26):=by kernel_rfl
instance:UsC (Vq p q).P 55 26:=⟨Ru⟩
def Qi:SlT (Vq p q).P 55 26 2:=SlT.of (by kernel_rfl)
instance:SlC (Vq p q).P 55 26 2:=⟨Qi⟩
def z3:bq (Vq p q).P 3=some (.int .i64 0):=by kernel_rfl
def Qf:TyI (Vq p q).P 55 false 1:=⟨by kernel_rfl,by kernel_rfl,by kernel_rfl⟩
instance:TyC (Vq p q).P 55 false 1:=⟨Qf⟩
def z87:bq (Vq p q).P 87=some (.agg #[.int .i64 0,.int .i64 0,.int .i64 0,.int .i64 0,.int .i64 0]):=by kernel_rfl
def Ec:BdT (Vq p q).P 87 (.agg #[.int .i64 0,.int .i64 0,.int .i64 0,.int .i64 0,.int .i64 0]) [(0,1),(1,2),(3,2)]:=.mk' (by kernel_rfl) (by kernel_rfl)
def Nb:TyI (Vq p q).P 87 true 5:=⟨by kernel_rfl,by kernel_rfl,by kernel_rfl⟩
instance:TyC (Vq p q).P 87 true 5:=⟨Nb⟩
def fW:∀b o,aC (Vq p q).P 87 (ptr b o) 1=some (ptr b (o+1)):=fun _ _=>by kernel_rfl
instance:FaC (Vq p q).P 87 1 1:=⟨fW⟩
def iG:∀b o,aC (Vq p q).P 87 (ptr b o) 2=some (ptr b (o+3)):=fun _ _=>by kernel_rfl
instance:FaC (Vq p q).P 87 2 3:=⟨iG⟩
def M3:∀(x0 y0:Int) (x1 y1:Int),kD (Vq p q).P Op.maxDepth 26 (.agg #[bg x0,bg x1]) (.agg #[bg y0,bg y1])=some (decide (x0=y0)&&decide (x1=y1)):=fun x0 y0 x1 y1=>KU C5 x0 y0 x1 y1
def Mz:(Vq p q).P.eqGuardType (Vq p q).P.depth 26=false:=by kernel_rfl
def sB:∀b o,aC (Vq p q).P 87 (ptr b o) 0=some (ptr b (o+0)):=fun _ _=>by kernel_rfl
instance:FaC (Vq p q).P 87 0 0:=⟨sB⟩
def QC:bq (Vq p q).P 149=some (.agg #[.int .i64 0,.int .i64 0,.int .i64 0,.int .i64 0,.int .i64 0,.int .i64 0,.int .i64 0,.int .i64 0]):=by kernel_rfl
def PL:BdT (Vq p q).P 149 (.agg #[.int .i64 0,.int .i64 0,.int .i64 0,.int .i64 0,.int .i64 0,.int .i64 0,.int .i64 0,.int .i64 0]) [(0,2),(2,2),(4,2),(6,2)]:=.mk' (by kernel_rfl) (by kernel_rfl)
def zG:ArT (Vq p q).P 149 26 4 2:=⟨by kernel_rfl,by kernel_rfl,by kernel_rfl⟩
instance:ArC (Vq p q).P 149 26 4 2:=⟨zG⟩
def u4:(Vq p q).P.underlying 4=some (.bool):=by kernel_rfl
def z131:bq (Vq p q).P 131=some (.map none):=by kernel_rfl
def O9:TyI (Vq p q).P 131 false 1:=⟨by kernel_rfl,by kernel_rfl,by kernel_rfl⟩
instance:TyC (Vq p q).P 131 false 1:=⟨O9⟩
def OI:(Vq p q).P.underlying 131=some (.map 104 4):=by kernel_rfl
def Q7:bq (Vq p q).P 132=some (.slice none 0 0):=by kernel_rfl
def PW:TyI (Vq p q).P 132 false 1:=⟨by kernel_rfl,by kernel_rfl,by kernel_rfl⟩
instance:TyC (Vq p q).P 132 false 1:=⟨PW⟩
def O5:(Vq p q).P.underlying 132=some (.slice 103):=by kernel_rfl
instance:UsC (Vq p q).P 132 103:=⟨O5⟩
def Jq:SlT (Vq p q).P 132 103 4:=SlT.of (by kernel_rfl)
instance:SlC (Vq p q).P 132 103 4:=⟨Jq⟩
def Re:bq (Vq p q).P 135=some (.nilFunc):=by kernel_rfl
def IS:TyI (Vq p q).P 135 false 1:=⟨by kernel_rfl,by kernel_rfl,by kernel_rfl⟩
instance:TyC (Vq p q).P 135 false 1:=⟨IS⟩
def xx:∀b o,aC (Vq p q).P 103 (ptr b o) 3=some (ptr b (o+3)):=fun _ _=>by kernel_rfl
instance:FaC (Vq p q).P 103 3 3:=⟨xx⟩
def z70:bq (Vq p q).P 70=some (.map none):=by kernel_rfl
def JO:TyI (Vq p q).P 70 false 1:=⟨by kernel_rfl,by kernel_rfl,by kernel_rfl⟩
instance:TyC (Vq p q).P 70 false 1:=⟨JO⟩
def RI:bq (Vq p q).P 71=some (.nilFunc):=by kernel_rfl
def JP:TyI (Vq p q).P 71 false 1:=⟨by kernel_rfl,by kernel_rfl,by kernel_rfl⟩
instance:TyC (Vq p q).P 71 false 1:=⟨JP⟩
def BO:∀b o,aC (Vq p q).P 44 (ptr b o) 0=some (ptr b (o+0)):=fun _ _=>by kernel_rfl
instance:FaC (Vq p q).P 44 0 0:=⟨BO⟩
def Ce:∀b o,aC (Vq p q).P 44 (ptr b o) 1=some (ptr b (o+1)):=fun _ _=>by kernel_rfl
instance:FaC (Vq p q).P 44 1 1:=⟨Ce⟩
def RZ:bq (Vq p q).P 73=some (.agg #[.int .i64 0,.int .i64 0]):=by kernel_rfl
def QF:BdT (Vq p q).P 73 (.agg #[.int .i64 0,.int .i64 0]) [(0,1),(1,1)]:=.mk' (by kernel_rfl) (by kernel_rfl)
def LX:ArT (Vq p q).P 73 3 2 1:=⟨by kernel_rfl,by kernel_rfl,by kernel_rfl⟩
instance:ArC (Vq p q).P 73 3 2 1:=⟨LX⟩
def Ob:(Vq p q).P.underlying 70=some (.map 3 3):=by kernel_rfl
def H0{n x1 x2 r}(hF:Oa n x1 x2=some r)(m):
 aK (Vq p q) 30 [mI x1 x2] m (Vm m (.bool r)):=by
 unfold Oa at hF;refine cw Try.func30 (UU m) ?_;refine wz ?_;refine wb fun b3=>?_;refine au ?_;refine UI (kV rfl rfl (lH _ _)) rfl ?_;refine wz ?_;rcases U hF with⟨h4,hF⟩|⟨h4,hF⟩;refine au ?_;cases hF;exact ar () [];refine wz ?_;refine UZ (kV rfl rfl (u6 _ _)) (gg rfl rfl (qv h4)) rfl ?_;refine au ?_;cases hF;exact ar () []
def Nt{n l1 a2 c3 r}(hF:N2 n l1=some r)(m)(h4:AR m a2 c3 l1):
 aK (Vq p q) 63 [bI a2 l1 c3] m (Vm m (.int .i64 r)):=by
 unfold N2 at hF;refine cw Try.func63 (U2 (UU m) eo h4) ?_;refine au ?_;rcases U hF with⟨h6,hF⟩|⟨h6,hF⟩;refine U3 rfl h6 ?_;cases hF;refine au ?_;obtain⟨h7,hF⟩:=cW hF;refine U0 (k:=0) rfl (aU h7) ?_;rintro b8 o9 rfl;refine wz ?_;obtain⟨x10,h11,hF⟩:=J hF;refine au ?_;refine UN ?_;obtain⟨v22,h27,hF⟩:=J hF;refine ct (fun v22 (_:VC)=>⟨(.exit 0),[(3,bg v22)],[]⟩) v22 ?_ ?_;refine lo h27 () [0,1] (fun(v14,v15) _=>⟨.normal,[(0,tY b8 o9 l1 c3),(3,bg v14),(4,bg v15)],(po b8 o9 l1 c3 [])⟩) ?_;clear hF h27;rintro⟨v14,v15⟩ ⟨⟩ r hF;unfold zb at hF;refine wz ?_;rcases U hF with⟨h23,hF⟩|⟨h23,hF⟩;refine au ?_;obtain⟨h24,hF⟩:=cW hF;refine wz ?_;obtain⟨x25,h26,hF⟩:=J hF;refine wz ?_;refine UI (kV rfl rfl (lH _ _)) rfl ?_;refine au ?_;cases hF;exact ae () [0,1];refine wz ?_;cases hF;exact ae () [];rintro⟨⟩;refine gB ?_;obtain rfl:=Sb hF;exact ar () []
def LB{n l1 a2 c3 r}(hF:DW n l1=some r)(m)(h4:AR m a2 c3 l1):
 aK (Vq p q) 64 [bI a2 l1 c3] m (Vm m (.int .i64 r)):=by
 unfold DW at hF;refine cw Try.func64 (U2 (UU m) eo h4) ?_;refine au ?_;rcases U hF with⟨h6,hF⟩|⟨h6,hF⟩;refine U3 rfl h6 ?_;cases hF;refine au ?_;obtain⟨h7,hF⟩:=cW hF;refine U0 (k:=0) rfl (aU h7) ?_;rintro b8 o9 rfl;refine wz ?_;obtain⟨x10,h11,hF⟩:=J hF;refine au ?_;refine UN ?_;obtain⟨v22,h27,hF⟩:=J hF;refine ct (fun v22 (_:VC)=>⟨(.exit 0),[(3,bg v22)],[]⟩) v22 ?_ ?_;refine lo h27 () [0,1] (fun(v14,v15) _=>⟨.normal,[(0,tY b8 o9 l1 c3),(3,bg v14),(4,bg v15)],(po b8 o9 l1 c3 [])⟩) ?_;clear hF h27;rintro⟨v14,v15⟩ ⟨⟩ r hF;unfold yY at hF;refine wz ?_;rcases U hF with⟨h23,hF⟩|⟨h23,hF⟩;refine au ?_;obtain⟨h24,hF⟩:=cW hF;refine wz ?_;obtain⟨x25,h26,hF⟩:=J hF;refine wz ?_;refine UI (kV rfl rfl (u6 _ _)) rfl ?_;refine au ?_;cases hF;exact ae () [0,1];refine wz ?_;cases hF;exact ae () [];rintro⟨⟩;refine gB ?_;obtain rfl:=Sb hF;exact ar () []
def qw{n l1 l5 l12 x16 a2 c3 a6 c7}{rr8:Uy}{es9:Uw}{a13 c14 r}(hF:IY n l1 l5 l12 x16=some r)(m)(h4:kq m a2 c3 l1)(h10:nY m a6 c7 l5 es9)(h11:(cp aj rr8 l5 es9).P m)(h15:AR m a13 c14 l12):
 aK (Vq p q) 27 [lO a2 l1 c3 a6 l5 c7,bI a13 l12 c14,bg x16] m (fun v m'=>∃x:Ux×Nat,v=.slice x.1 x.2 x.2/\Hp m m' [.sl x.1 2 x.2 (r.map (eP (eI .i64) (eI .i64)))]):=by
 unfold IY at hF;refine cw Try.func27 (U2 (Hp.nV (U2 (U2 (UU m) eo h4) (fg eo) h10) (fg (fg eo)) h11) (Qm (fg (fg eo))) h15) ?_;refine UJ<|UK<|wb fun b17=>?_;refine UI (bG rfl) rfl<|UQ<|UR<|UJ<|UK<|UI (bG rfl) rfl<|UQ<|UR<|UJ<|UJ<|UK<|UI (aV rfl) rfl<|UI (oU (k:=1) MI rfl rfl (.inl rfl)) rfl<|UI (aV rfl) rfl<|UQ<|UR<|UN ?_;obtain⟨l58,h76,hF⟩:=J hF;refine ct (fun l58 (a59:Ux)=>⟨(.exit 0),[(7,bQ a59 l58)],[dg a59 l58]⟩) l58 ?_ ?_;refine lw h76 none (fun(l36,v38) a37=>⟨.normal,((2,bg x16)::(3,ptr b17 0)::(7,bQ a37 l36)::zH a13 l12 c14 v38 []),(fR b17 a2 l1 c3 a6 l5 c7 es9 aj rr8 [dg a37 l36,oc a13 c14 l12])⟩) (UT (aa.nil 2 rfl) (UO [1,5,4,3,0,2] rfl rfl)) ?_;clear hF h76;rintro⟨l36,v38⟩ a37 r hF;unfold yK at hF;refine UJ<|UK<|UI (aJ rfl rfl (hY _ _ _)) rfl<|UQ<|UR<|UJ ?_;rcases U hF with⟨h60,hF⟩|⟨h60,hF⟩;refine U3 rfl h60<|U5<|UR<|UJ<|UN<|UJ<|UK ?_;obtain⟨h61,hF⟩:=cW hF;refine U0 (k:=5) rfl (aU h61) ?_;rintro b62 o63 rfl;refine UZ (mW fw rfl rfl h61) gn rfl ?_;obtain⟨x64,h65,hF⟩:=J hF;refine UI (ou (k:=0) bZ rfl rfl (iF h65) rfl rfl) rfl<|UI (bG rfl) rfl<|UQ<|UR<|Wk.draw (by kernel_rfl)<|UI (aV rfl) rfl<|UI (aV rfl) rfl<|UI (aG (r:=ptr b17 0) rfl (iz _ _)) rfl<|UI (aI (k:=1) rI rfl rfl rfl) rfl<|UI (aV rfl) rfl ?_
 obtain⟨h66,hF⟩:=cW hF;refine U0 (k:=2) rfl (aU h66) ?_;rintro b67 o68 rfl;refine UZ (mW vK rfl rfl h66) gn rfl<|UI (aG (r:=ptr b67 (o68+x64.toNat*2+0)) rfl (dv _ _)) rfl ?_;obtain⟨⟨x69,x70⟩,h71,hF⟩:=J hF;refine UI (ou (k:=0) bZ rfl rfl (iF h71) rfl rfl) rfl<|UI (aJ rfl rfl (cT _ _ _)) rfl<|UI (aV rfl) rfl<|UI (aG (r:=ptr b17 0) rfl (iz _ _)) rfl<|UI (aI (k:=2) rI rfl rfl rfl) rfl<|UI (aV rfl) rfl ?_;obtain⟨h72,hF⟩:=cW hF;refine UZ (mW vK rfl rfl h72) gn rfl<|UI (aG (r:=ptr b67 (o68+x64.toNat*2+1)) rfl (du _ _)) rfl<|UI (ou (k:=0) bZ rfl rfl (iF h71) rfl rfl) rfl<|UI (aJ rfl rfl (cT _ _ _)) rfl<|UI (cH rfl z26 rfl (cJ Es rfl rfl rfl)) rfl<|UX (cm (es:=([(UE (x16*x69),UE (x16*x70))]:Uu).map (eP (eI .i64) (eI .i64))) Qi rfl (cn Qi z26 rfl rfl) rfl rfl) gn rfl fun b73=>?_;obtain⟨h74,hF⟩:=az hF;refine UX (uy (k:=7) (k2:=0) (xs:=(l36:Uu)) (ys:=([(UE (x16*x69),UE (x16*x70))]:Uu)) (EC (tF .i64) (tF .i64)) Qi ⟨_,Ru⟩ rfl rfl rfl (.arr _ _ _ _ _) h74) gn rfl fun a75=>?_;refine UI (bG rfl) rfl<|UQ<|At.bn<|UR<|UK<|UI (aJ rfl rfl (bD _ _ _)) rfl<|UI (aV rfl) rfl<|UQ ?_;cases hF;exact ae a75 (Vg 3 6);refine U8 rfl h60<|Wk.exit<|At.te ?_;cases hF;exact ae a37 [4];rintro a59;refine Vf<|UR<|UJ<|UK<|UI (aV rfl) rfl<|UI (bG rfl) rfl<|UQ<|UR<|U9 ?_;obtain rfl:=Sb hF;exact ar (a59,l58.length) [0]
def sV{n x1 x2 r}(hF:KF n x1 x2=some r)(m):
 aK (Vq p q) 38 [mI x1 x2] m (Vm m (.bool r)):=by
 unfold KF at hF;refine cw Try.func38 (UU m) ?_;refine wz ?_;refine wb fun b3=>?_;refine au ?_;refine UI (Er rfl (Lr _)) rfl ?_;refine wz ?_;refine UI (Er rfl (Lr _)) rfl ?_;obtain⟨y4,h5,hF⟩:=J hF;refine UI (kV rfl rfl (fun m=>(Mc _ _ _ _ m).trans (RC h5))) rfl ?_;refine wz ?_;rcases U hF with⟨h6,hF⟩|⟨h6,hF⟩;refine au ?_;cases hF;exact ar () [];refine wz ?_;refine UZ (kV rfl rfl (lH _ _)) (gg rfl rfl (qv h6)) rfl ?_;refine au ?_;cases hF;exact ar () []
def F5{n x1 r}(hF:PR n x1=some r)(m):
 aK (Vq p q) 80 [bg x1] m (Vm m (.bool r)):=by
 unfold PR at hF;refine cw Try.func80 (UU m) ?_;refine gB ?_;cases hF;exact ar () []
def BN{n x1 x2 r}(hF:NX n x1 x2=some r)(m):
 aK (Vq p q) 58 [bg x1,bg x2] m (Vm m (.int .i64 r)):=by
 unfold NX at hF;refine cw Try.func58 (UU m) ?_;refine au ?_;obtain⟨r4,h3,hF⟩:=J hF;refine wc gn (fun m hm=>F5 h3 m) ?_;rintro⟨⟩;refine au ?_;obtain⟨r6,h5,hF⟩:=J hF;refine wc gn (fun m hm=>F5 h5 m) ?_;rintro⟨⟩;refine au ?_;rcases U hF with⟨h7,hF⟩|⟨h7,hF⟩;refine wz ?_;rcases U hF with⟨h8,hF⟩|⟨h8,hF⟩;refine au ?_;cases hF;exact ar () [];refine gB ?_;cases hF;exact ar () [];refine au ?_;rcases U hF with⟨h9,hF⟩|⟨h9,hF⟩;refine au ?_;cases hF;exact ar () [];refine au ?_;rcases U hF with⟨h10,hF⟩|⟨h10,hF⟩;refine au ?_;cases hF;exact ar () [];refine au ?_;rcases U hF with⟨h11,hF⟩|⟨h11,hF⟩;refine au ?_;cases hF;exact ar () [];refine gB ?_;cases hF;exact ar () []
def qp{n x1 x2 x3 x4 x5 x6 r}(hF:IZ n x1 x2 x3 x4 x5 x6=some r)(m):
 aK (Vq p q) 41 [mI x1 x2,mI x3 x4,mI x5 x6] m (Vm m (.int .i64 r)):=by
 unfold IZ at hF;refine cw Try.func41 (UU m) ?_;refine wz ?_;refine wb fun b7=>?_;refine wb fun b8=>?_;refine wb fun b9=>?_;refine wz ?_;refine UJ<|UK<|UI (aG (r:=ptr b8 0) rfl (dv _ _)) rfl<|UI (aI (k:=1) bZ rfl rfl rfl) rfl<|UI (aG (r:=ptr b7 0) rfl (dv _ _)) rfl<|UI (aI (k:=2) bZ rfl rfl rfl) rfl<|UI (aJ rfl rfl (cK _ _ _)) rfl<|UI (aG (r:=ptr b9 1) rfl (du _ _)) rfl<|UI (aI (k:=0) bZ rfl rfl rfl) rfl<|UI (aG (r:=ptr b7 1) rfl (du _ _)) rfl<|UI (aI (k:=2) bZ rfl rfl rfl) rfl<|UI (aJ rfl rfl (cK _ _ _)) rfl ?_;obtain⟨y10,h11,hF⟩:=J hF;refine UI (aJ rfl rfl ((cT _ _ _).trans (cI h11))) rfl<|UI (aG (r:=ptr b8 1) rfl (du _ _)) rfl<|UI (aI (k:=1) bZ rfl rfl rfl) rfl<|UI (aG (r:=ptr b7 1) rfl (du _ _)) rfl<|UI (aI (k:=2) bZ rfl rfl rfl) rfl<|UI (aJ rfl rfl (cK _ _ _)) rfl<|UI (aG (r:=ptr b9 0) rfl (dv _ _)) rfl<|UI (aI (k:=0) bZ rfl rfl rfl) rfl<|UI (aG (r:=ptr b7 0) rfl (dv _ _)) rfl<|UI (aI (k:=2) bZ rfl rfl rfl) rfl<|UI (aJ rfl rfl (cK _ _ _)) rfl ?_;obtain⟨y12,h13,hF⟩:=J hF;refine UI (aJ rfl rfl ((cT _ _ _).trans (cI h13))) rfl ?_;obtain⟨r15,h14,hF⟩:=J hF;refine wc gn (fun m hm=>BN h14 m) ?_;rintro⟨⟩;refine au ?_;obtain rfl:=Sb hF;exact ar () []
def Mx{n l1 a2 c3 r}(hF:P4 n l1=some r)(m)(h4:AR m a2 c3 l1):
 aK (Vq p q) 79 [bI a2 l1 c3] m (Vm m (.int .i64 r)):=by
 unfold P4 at hF;refine cw Try.func79 (U2 (UU m) eo h4) ?_;refine gB ?_;refine UN ?_;obtain⟨r24,h23,hF⟩:=J hF;refine ct (fun(r:Int⊕VC) (g:VC)=>match r,g with|.inl v15,_=>⟨.ret,[(2,bg v15)],[]⟩|.inr _,_=>⟨(.exit 0),[(3,.int .i64 0)],[]⟩) r24 ?_ ?_
 refine lo h23 () [0] (fun v6 _=>⟨.normal,[(3,.int .i64 0),(6,bI a2 l1 c3),(7,dC l1),(8,bg v6)],[oc a2 c3 l1]⟩) ?_;clear hF h23;rintro v6 ⟨⟩ r hF;unfold qW at hF;refine wz ?_;refine UJ ?_;rcases U hF with⟨h16,hF⟩|⟨h16,hF⟩;refine au ?_;obtain⟨h17,hF⟩:=cW hF;refine U0 (k:=0) rfl (aU h17) ?_;rintro b18 o19 rfl;refine wz ?_;obtain⟨x20,h21,hF⟩:=J hF;refine au ?_;rcases U hF with⟨h22,hF⟩|⟨h22,hF⟩;refine au ?_;cases hF;exact ae () [];refine au ?_;cases hF;exact ae () [1];refine wz ?_;cases hF;exact ae () [];rcases r24 with v15|_;rintro⟨⟩;refine wz ?_;obtain rfl:=Sb hF;exact ar () [];rintro⟨⟩;refine gB ?_;cases hF;exact ar () []
def AX{n x1 x2 x3 x4 r}(hF:JH n x1 x2 x3 x4=some r)(m):
 aK (Vq p q) 57 [mI x1 x2,mI x3 x4] m (Vm m (.int .i64 r)):=by
 unfold JH at hF;refine cw Try.func57 (UU m) ?_;refine wz ?_;refine wb fun b5=>?_;refine wb fun b6=>?_;refine wz ?_;refine UJ<|U6 (prs:=[(4,6),(4,8)]) (by kernel_rfl)<|UL (aG (r:=ptr b5 0) rfl (dv _ _)) rfl<|UL (aI (k:=1) bZ rfl rfl rfl) rfl<|UL (aG (r:=ptr b6 0) rfl (dv _ _)) rfl<|UL (aI (k:=0) bZ rfl rfl rfl) rfl ?_
 obtain⟨r8,h7,hF⟩:=J hF;refine nc gn (fun m hm=>BN h7 m) ?_;rintro⟨⟩;refine UL (aG (r:=ptr b5 1) rfl (du _ _)) rfl<|UL (aI (k:=1) bZ rfl rfl rfl) rfl<|UL (aG (r:=ptr b6 1) rfl (du _ _)) rfl<|UL (aI (k:=0) bZ rfl rfl rfl) rfl ?_;obtain⟨r10,h9,hF⟩:=J hF;refine nc gn (fun m hm=>BN h9 m) ?_;rintro⟨⟩;refine Wn.x (cm (es:=([r8,r10]:VB (Int)).map (eI .i64)) fw rfl (cn fw z3 rfl rfl) rfl rfl) gn rfl fun b11=>?_;obtain⟨r13,h12,hF⟩:=J hF;refine nc gn (fun m hm=>Mx h12 m (hm.q 0)) ?_;rintro⟨⟩;refine UL (bG rfl) rfl<|U1 (fun m hm=>dq.all rfl) ?_;refine au ?_;obtain rfl:=Sb hF;exact ar () []
def Gj{n x1 x2 x3 x4 x5 x6 x7 r}(hF:N6 n x1 x2 x3 x4 x5 x6 x7=some r)(m):
 aK (Vq p q) 40 [LG x1 x2 x3 x4 x5,mI x6 x7] m (Vm m (.bool r)):=by
 unfold N6 at hF;refine cw Try.func40 (UU m) ?_;refine wz ?_;refine wb fun b8=>?_;refine wb fun b9=>?_;refine au ?_;obtain⟨r11,h10,hF⟩:=J hF;refine wc gn (fun m hm=>qp h10 m) ?_;rintro⟨⟩;refine wz ?_;rcases U hF with⟨h12,hF⟩|⟨h12,hF⟩;refine au ?_;cases hF;exact ar () [];refine wz ?_;refine UJ<|U6 (prs:=[(3,6)]) (by kernel_rfl)<|UL (aG (r:=ptr b8 1) rfl (fW _ _)) rfl<|UL (aI (k:=1) cX rfl rfl rfl) rfl<|UL (aG (r:=ptr b8 3) rfl (iG _ _)) rfl<|Vc rfl (aI (k:=1) cX rfl rfl rfl) rfl<|Wn.x (uH z26 rfl) gn rfl fun b13=>?_
 refine Wn.x (uH z26 rfl) gn rfl fun b14=>?_;refine Wn.G7 rfl (eg (k:=1) cX rfl rfl rfl rfl rfl)<|Wn.o0 (eg (k:=0) cX rfl rfl rfl rfl rfl)<|U1 (fun m hm=>(dq.rw rfl rfl rfl (hm.ne (i:=3) (j:=1) rfl rfl rfl rfl (by decide) rfl) dq.nil))<|UR<|UJ ?_
 obtain⟨r26,h25,hF⟩:=J hF;refine ct (fun(v18,v19,v20,v21) (_:VC)=>⟨.normal,[(3,ptr b9 0),(5,ptr b13 0),(6,ptr b14 0)],[gD b9 x6 x7,gD b13 v18 v19,gD b14 v20 v21]⟩) r26 ?_ ?_;clear hF;revert r26;intro r hF;refine wz ?_;obtain⟨r23,h22,hF⟩:=J hF;refine wc gn (fun m hm=>AX h22 m) ?_;rintro⟨⟩;refine wz ?_;rcases U hF with⟨h24,hF⟩|⟨h24,hF⟩;refine wz ?_;cases hF;exact ae () [2,1,0];refine wz ?_;cases hF;exact ae () [2,1,0];clear h25;obtain⟨v18,v19,v20,v21⟩:=r26;rintro⟨⟩;refine au ?_;obtain⟨r28,h27,hF⟩:=J hF;refine wc gn (fun m hm=>AX h27 m) ?_;rintro⟨⟩;refine wz ?_;rcases U hF with⟨h29,hF⟩|⟨h29,hF⟩;refine wz ?_;obtain⟨r31,h30,hF⟩:=J hF;refine wc (gg rfl rfl (fi h29)) (fun m hm=>AX h30 m) ?_;rintro⟨⟩;refine au ?_;cases hF;exact ar () [];refine au ?_;cases hF;exact ar () []
def Fv{n x1 x2 x3 x4 x5 x6 x7 x8 x9 x10 r}(hF:N5 n x1 x2 x3 x4 x5 x6 x7 x8 x9 x10=some r)(m):
 aK (Vq p q) 78 [LG x1 x2 x3 x4 x5,LG x6 x7 x8 x9 x10] m (Vm m (.int .i64 r)):=by
 unfold N5 at hF;refine cw Try.func78 (UU m) ?_;refine UJ<|UK<|wb fun b0=>?_;refine wb fun b1=>?_;refine UI (bG rfl) rfl<|UQ<|UR<|UJ<|U6 (prs:=[(6,8),(6,10),(6,12)]) (by kernel_rfl)<|UL (aG (r:=ptr b0 1) rfl (fW _ _)) rfl<|UL (aI (k:=1) cX rfl rfl rfl) rfl<|UL (aG (r:=ptr b0 3) rfl (iG _ _)) rfl<|UL (aI (k:=1) cX rfl rfl rfl) rfl<|UL (aG (r:=ptr b1 1) rfl (fW _ _)) rfl<|UL (aI (k:=0) cX rfl rfl rfl) rfl ?_
 obtain⟨r0,h12,hF⟩:=J hF;refine nc gn (fun m hm=>qp h12 m) ?_;rintro⟨⟩;refine UL (aG (r:=ptr b0 1) rfl (fW _ _)) rfl<|UL (aI (k:=1) cX rfl rfl rfl) rfl<|UL (aG (r:=ptr b0 3) rfl (iG _ _)) rfl<|UL (aI (k:=1) cX rfl rfl rfl) rfl<|UL (aG (r:=ptr b1 3) rfl (iG _ _)) rfl<|UL (aI (k:=0) cX rfl rfl rfl) rfl ?_;obtain⟨r1,h13,hF⟩:=J hF;refine nc gn (fun m hm=>qp h13 m) ?_;rintro⟨⟩;refine UL (bG rfl) rfl<|UL (bG rfl) rfl<|U1 (fun m hm=>dq.all rfl)<|UR<|UJ<|U6 (prs:=[(6,8),(6,10),(6,12)]) (by kernel_rfl)<|UL (aG (r:=ptr b1 1) rfl (fW _ _)) rfl<|UL (aI (k:=0) cX rfl rfl rfl) rfl<|UL (aG (r:=ptr b1 3) rfl (iG _ _)) rfl<|UL (aI (k:=0) cX rfl rfl rfl) rfl<|UL (aG (r:=ptr b0 1) rfl (fW _ _)) rfl<|UL (aI (k:=1) cX rfl rfl rfl) rfl ?_
 obtain⟨r3,h14,hF⟩:=J hF;refine nc gn (fun m hm=>qp h14 m) ?_;rintro⟨⟩;refine UL (aG (r:=ptr b1 1) rfl (fW _ _)) rfl<|UL (aI (k:=0) cX rfl rfl rfl) rfl<|UL (aG (r:=ptr b1 3) rfl (iG _ _)) rfl<|UL (aI (k:=0) cX rfl rfl rfl) rfl<|UL (aG (r:=ptr b0 3) rfl (iG _ _)) rfl<|UL (aI (k:=1) cX rfl rfl rfl) rfl ?_;obtain⟨r4,h15,hF⟩:=J hF;refine nc gn (fun m hm=>qp h15 m) ?_;rintro⟨⟩;refine UL (bG rfl) rfl<|UL (bG rfl) rfl<|U1 (fun m hm=>dq.all rfl)<|UR<|UJ<|UK<|UX Fi gn rfl fun b2=>?_;refine UI (bG rfl) rfl<|UQ<|UR<|UJ<|UJ<|UK<|UI (aG (r:=ptr b0 1) rfl (fW _ _)) rfl<|UI (aI (k:=2) cX rfl rfl rfl) rfl<|UI (aG (r:=ptr b0 3) rfl (iG _ _)) rfl<|UI (aI (k:=2) cX rfl rfl rfl) rfl<|UI (aG (r:=ptr b1 1) rfl (fW _ _)) rfl<|UI (aI (k:=1) cX rfl rfl rfl) rfl<|UI (aG (r:=ptr b1 3) rfl (iG _ _)) rfl<|UI (aI (k:=1) cX rfl rfl rfl) rfl<|UI (cH rfl QC rfl (cJ PL rfl rfl rfl)) rfl ?_;refine UI (aV rfl) rfl<|UQ<|UR<|UN ?_;obtain⟨l1,h3,hF⟩:=J hF;refine ct (fun l1 (_:VC)=>⟨(.exit 0),[(5,bg r0),(6,bg r1),(7,bg r3),(8,bg r4),(9,.map (some b2))],[.obj b2 (.map (l1.map (eM (fun p:Int×Int=>.agg #[.int .i64 p.1,.int .i64 p.2]) (fun b:Bool=>.bool b))))]⟩) l1 ?_ ?_;refine lo h3 () [2,1,0] (fun(l2,v0) _=>⟨.normal,(iO b0 b1 [(5,bg r0),(6,bg r1),(7,bg r3),(8,bg r4),(9,.map (some b2)),(49,LS x2 x3 x4 x5 x7 x8 x9 x10),(50,bg v0)]),[gS b0 x1 x2 x3 x4 x5,gS b1 x6 x7 x8 x9 x10,.obj b2 (.map (l2.map (eM (fun p:Int×Int=>.agg #[.int .i64 p.1,.int .i64 p.2]) (fun b:Bool=>.bool b))))]⟩) ?_;clear hF h3;rintro⟨l2,v0⟩ ⟨⟩ r hF;unfold qP at hF;refine UJ<|UK<|UI (aJ rfl rfl (hY _ _ _)) rfl<|UQ<|UR<|UJ ?_;rcases U hF with⟨h4,hF⟩|⟨h4,hF⟩;refine U3 rfl h4<|U5<|UR<|UJ ?_;obtain⟨l3,h16,hF⟩:=J hF;refine ct (fun l3 (_:VC)=>⟨.normal,(iO b0 b1 [(5,bg r0),(6,bg r1),(7,bg r3),(8,bg r4),(9,.map (some b2)),(49,LS x2 x3 x4 x5 x7 x8 x9 x10),(50,bg v0)]),[gS b0 x1 x2 x3 x4 x5,gS b1 x6 x7 x8 x9 x10,.obj b2 (.map (l3.map (eM (fun p:Int×Int=>.agg #[.int .i64 p.1,.int .i64 p.2]) (fun b:Bool=>.bool b))))]⟩) l3 ?_ ?_;clear hF;revert l3;intro r hF;refine UN<|UJ<|UK ?_;obtain⟨h17,hF⟩:=az hF;obtain⟨⟨x11,x12⟩,h0,hF⟩:=J hF;refine UX (E8 (α:=VC) (V:=fun g=>match g with|_=>.agg #[bg x11,bg x12]) (N:=fun g=>match g with|_=>[]++[gS b0 x1 x2 x3 x4 x5,gS b1 x6 x7 x8 x9 x10,.obj b2 (.map (l2.map (eM (fun p:Int×Int=>.agg #[.int .i64 p.1,.int .i64 p.2]) (fun b:Bool=>.bool b))))]) rfl rfl (fun m hm=>?_)) gn rfl ?_
 have hj:=pG h17;obtain⟨j,h11⟩:∃j:Nat,(v0:Int)=j:=⟨_,(To hj.1).symm⟩;rw[h11] at h0 hj ⊢;rw[SG] at h0 hj;replace hj:=hj.2;clear hF h11
 match j,hj,h0 with
 | 0,_,h0=>cases h0; exact⟨(),yp zG (i:=0) (by decide) (pg cX rfl),hm⟩
 | 1,_,h0=>cases h0; exact⟨(),yp zG (i:=1) (by decide) (pg cX rfl),hm⟩
 | 2,_,h0=>cases h0; exact⟨(),yp zG (i:=2) (by decide) (pg cX rfl),hm⟩
 | 3,_,h0=>cases h0; exact⟨(),yp zG (i:=3) (by decide) (pg cX rfl),hm⟩
 | _+4,hj,_=>exact Sw hj (by omega)
 rintro⟨⟩;refine wa z26 fun b3=>?_;refine U4 (eg (k:=0) cX rfl rfl rfl rfl rfl)<|UQ<|UR<|UJ ?_;obtain⟨v1,h18,hF⟩:=J hF;refine ct (fun v1 (_:VC)=>⟨.normal,(iO b0 b1 [(5,bg r0),(6,bg r1),(7,bg r3),(8,bg r4),(9,.map (some b2)),(11,ptr b3 0),(49,LS x2 x3 x4 x5 x7 x8 x9 x10),(50,bg v0),(60,.bool v1)]),[gS b0 x1 x2 x3 x4 x5,gS b1 x6 x7 x8 x9 x10,.obj b2 (.map (l2.map (eM (fun p:Int×Int=>.agg #[.int .i64 p.1,.int .i64 p.2]) (fun b:Bool=>.bool b)))),gD b3 x11 x12]⟩) v1 ?_ ?_;clear hF;revert v1;intro r hF;refine UK<|UI (aI (k:=1) Nb rfl rfl rfl) rfl<|UI (aI (k:=0) cX rfl rfl rfl) rfl ?_;obtain⟨r5,h19,hF⟩:=J hF;refine wc gn (fun m hm=>Gj h19 m) ?_;rintro⟨⟩;refine UI (aV rfl) rfl ?_;rcases U hF with⟨h2,hF⟩|⟨h2,hF⟩;refine UZ (aI (k:=2) Nb rfl rfl rfl) (gg rfl rfl (fi h2)) rfl<|UZ (aI (k:=0) cX rfl rfl rfl) (gg rfl rfl (fi h2)) rfl ?_;obtain⟨r6,h20,hF⟩:=J hF;refine wc (gg rfl rfl (fi h2)) (fun m hm=>Gj h20 m) ?_;rintro⟨⟩;refine UI (zj rfl h2 rfl) rfl<|UQ ?_;obtain rfl:=Sb hF;exact ae () [1,2,3,0];refine Wo.s (gg rfl rfl (wZ h2)) rfl<|Wo.s (gg rfl rfl (wZ h2)) rfl<|Wo.s (gg rfl rfl (wZ h2)) rfl<|UI (zh rfl h2 rfl) rfl<|UQ ?_;cases hF;exact ae () [1,2,3,0];rintro⟨⟩;refine UR ?_;rcases U hF with⟨h5,hF⟩|⟨h5,hF⟩;refine U3 rfl h5<|UK<|UI (aV rfl) rfl<|UI (aI (k:=3) cX rfl rfl rfl) rfl<|U4 (D0 (q:=2) (xs:=l2) (k:=(x11,x12)) (v:=true) (vE:=(fun b:Bool=>.bool b)) GQ (FT C5) rfl rfl rfl rfl)<|UQ<|At.bn ?_;cases hF;exact ae () [0,1,2];refine U8 rfl h5<|U5<|At.bn ?_;obtain rfl:=Sb hF;exact ae () [0,1,2];rintro⟨⟩;refine UR<|UK<|UI (aJ rfl rfl (bD _ _ _)) rfl<|UI (aV rfl) rfl<|UQ ?_;cases hF;exact ae () [0,1,2];refine U8 rfl h4<|Wk.exit<|At.te ?_;cases hF;exact ae () [2];rintro⟨⟩;refine Vf<|UR<|UJ<|UN<|UJ<|UK<|UI (aV rfl) rfl ?_;obtain⟨y0,h6,hF⟩:=J hF;replace h6:=Sb h6;refine UI (Bs (q:=0) (xs:=l1) GQ rfl rfl h6) rfl<|UI (aJ rfl rfl (rM _ _ _)) rfl<|UI (bG rfl) rfl<|UQ<|UR ?_;rcases U hF with⟨h7,hF⟩|⟨h7,hF⟩;refine U3 rfl h7<|UJ<|UK<|UI (bG rfl) rfl<|UQ<|UR<|U9<|At.br<|At.tr ?_;cases hF;exact ar () [];refine U8 rfl h7<|UJ<|UK<|UI (aV rfl) rfl ?_;obtain⟨y1,h8,hF⟩:=J hF;replace h8:=Sb h8;refine UI (Bs (q:=0) (xs:=l1) GQ rfl rfl h8) rfl<|UI (aJ rfl rfl (iN _ _ _)) rfl<|UI (bG rfl) rfl<|UQ<|UR ?_;rcases U hF with⟨h9,hF⟩|⟨h9,hF⟩;refine U3 rfl h9<|UJ<|UK<|UI (bG rfl) rfl<|UQ<|UR<|U9<|At.br<|At.tr ?_;cases hF;exact ar () [];refine U8 rfl h9<|UJ ?_;obtain⟨v2,h21,hF⟩:=J hF;refine ct (fun v2 (_:VC)=>⟨.normal,[(72,.bool v2)],[]⟩) v2 ?_ ?_;clear hF;revert v2;intro r hF;refine UK<|UI (aV rfl) rfl<|UI (aV rfl) rfl<|UI (aJ rfl rfl (cT _ _ _)) rfl<|UI (aJ rfl rfl (hY _ _ _)) rfl<|UI (aV rfl) rfl ?_;rcases U hF with⟨h1,hF⟩|⟨h1,hF⟩;refine UZ (aV rfl) (gg rfl rfl (fi h1)) rfl<|UZ (aV rfl) (gg rfl rfl (fi h1)) rfl<|UZ (aJ rfl rfl (cT _ _ _)) (gg rfl rfl (fi h1)) rfl<|UZ (aJ rfl rfl (hY _ _ _)) (gg rfl rfl (fi h1)) rfl<|UI (zj rfl h1 rfl) rfl<|UI (bG rfl) rfl<|UQ ?_;cases hF;exact ae () [];refine Wo.s (gg rfl rfl (wZ h1)) rfl<|Wo.s (gg rfl rfl (wZ h1)) rfl<|Wo.s (gg rfl rfl (wZ h1)) rfl<|Wo.s (gg rfl rfl (wZ h1)) rfl<|UI (zh rfl h1 rfl) rfl<|UI (bG rfl) rfl<|UQ ?_;cases hF;exact ae () [];rintro⟨⟩;refine UR ?_;rcases U hF with⟨h10,hF⟩|⟨h10,hF⟩;refine U3 rfl h10<|UJ<|UK<|UI (bG rfl) rfl<|UQ<|UR<|U9<|At.br<|At.tr ?_;cases hF;exact ar () [];refine U8 rfl h10<|U5<|At.bn<|UR<|UJ<|UK<|UI (bG rfl) rfl<|UQ<|UR<|U9 ?_;cases hF;exact ar () []
def L8{n l1 a0 c0 r}(hF:Pb n l1=some r)(m)(h14:kq m a0 c0 l1):
 aK (Vq p q) 55 [bI a0 l1 c0] m (Vm m (.tuple #[.int .i64 r.1,.int .i64 r.2])):=by
 unfold Pb at hF;refine cw Try.func55 (U2 (UU m) eo h14) ?_;refine wz ?_;refine wb fun b3=>?_;refine wa z3 fun b0=>?_;refine wa z3 fun b1=>?_;refine au ?_;refine wa z3 fun b2=>?_;refine wz ?_;refine UJ<|UJ ?_;obtain⟨v2,h15,hF⟩:=J hF;refine ct (fun v2 (_:VC)=>⟨.normal,((1,ptr b3 0)::iO b0 b1 [(4,ptr b2 0),(18,.bool v2)]),(jI b3 a0 l1 c0 (eZ b0 b1 b2 l1 []))⟩) v2 ?_ ?_;clear hF;revert v2;intro r hF;refine wz ?_;rcases U hF with⟨h16,hF⟩|⟨h16,hF⟩;refine wz ?_;cases hF;exact ae () [3,4,2,1,0];refine wz ?_;cases hF;exact ae () [3,4,2,1,0];rintro⟨⟩;refine UR ?_;rcases U hF with⟨h17,hF⟩|⟨h17,hF⟩;refine au ?_;cases hF;exact UY (.cell (k:=2) bZ rfl rfl rfl (.cell (k:=3) bZ rfl rfl rfl .nil)) fun m' hm=>⟨(),rfl,(UO [] rfl rfl) m' hm⟩;refine au ?_;obtain⟨v3,h18,hF⟩:=J hF;refine wq (fun v3 (_:VC)=>(.int .i64 v3,(jI b3 a0 l1 c0 (eZ b0 b1 b2 l1 [])))) v3 (fun m hm=>?_) ?_;clear hF;revert v3;intro r hF;refine aS (N:=19) (rs:=[.tmp 4]) rfl Try.func77 rfl rfl rfl hm ?_;refine au ?_;refine UN ?_;obtain⟨r13,h1,hF⟩:=J hF;refine ct (fun(r:Int⊕VC) (g:VC)=>match r,g with|.inl v8,_=>⟨.ret,[(4,bg v8)],(jI b3 a0 l1 c0 (eZ b0 b1 b2 l1 []))⟩|.inr _,_=>⟨(.exit 0),[],(jI b3 a0 l1 c0 (eZ b0 b1 b2 l1 []))⟩) r13 ?_ ?_
 refine lo h1 () [1,0,2,3,4] (fun v9 _=>⟨.normal,[(0,bI a0 l1 c0),(1,.func (.func 38) #[] #[]),(7,dC l1),(8,bg v9)],(rR a0 c0 l1::yy b3 a0 l1 c0::eZ b0 b1 b2 l1 [])⟩) ?_;clear hF h1;rintro v9 ⟨⟩ r hF;unfold yU at hF;refine wz ?_;refine UJ ?_;rcases U hF with⟨h19,hF⟩|⟨h19,hF⟩;refine gB ?_;obtain⟨h20,hF⟩:=cW hF;refine U0 (k:=0) rfl (aU h20) ?_;rintro b24 o4 rfl;refine wz ?_;obtain⟨⟨x24,x25⟩,h61,hF⟩:=J hF;refine wz ?_;obtain⟨r22,h21,hF⟩:=J hF;refine wc gn (fun m hm=>sV h21 m) ?_;rintro⟨⟩;refine wz ?_;rcases U hF with⟨h22,hF⟩|⟨h22,hF⟩;refine au ?_;cases hF;exact ae () [2,1,3,4,5];refine au ?_;cases hF;exact ae () (Vg 1 5);refine wz ?_;cases hF;exact ae () [1,0,2,3,4];rcases r13 with v8|_;rintro⟨⟩;refine wz ?_;obtain rfl:=Sb hF;exact ar () (Vg 0 5);rintro⟨⟩;refine gB ?_;cases hF;exact ar () (Vg 0 5);rintro⟨⟩;refine au ?_;rcases U hF with⟨h23,hF⟩|⟨h23,hF⟩;refine au ?_;cases hF;exact UY (.cell (k:=2) bZ rfl rfl rfl (.cell (k:=3) bZ rfl rfl rfl .nil)) fun m' hm=>⟨(),rfl,(UO [] rfl rfl) m' hm⟩;refine au ?_;obtain⟨r14,h24,hF⟩:=J hF;refine wq (fun _ (b10:Nat)=>(.func (.func 56) #[] #[ptr b10 0],(jI b10 a0 l1 c0 (yy b3 a0 l1 c0::eZ b0 b1 b2 l1 [])))) r14 (fun m hm=>?_) ?_;clear hF;revert r14;intro r hF;refine aS (N:=4) (rs:=[.tmp 2]) rfl Try.func39 rfl rfl rfl hm ?_;refine wz ?_;refine wb fun b16=>?_;refine au ?_;refine UI (j9 rfl rfl) rfl ?_;refine au ?_;cases hF;exact ar b16 [0,2,1,3,4,5];rintro b10;refine wz ?_;refine UN ?_;obtain⟨r5,h25,hF⟩:=J hF;refine Wk.range (N:=27) (rs:=[]) (γ:=VC) (X:=fun g=>(fun(r:Int⊕VC) (g:VC)=>(match r,g with|.inl v10,_=>⟨.done,(some .ret),(jI b3 a0 l1 c0 [.obj b0 (.cells [.int .i64 3] .own),eJ b1 v10,pN b2 l1])⟩|.inr _,_=>⟨.ready,none,(jI b3 a0 l1 c0 (eZ b0 b1 b2 l1 []))⟩:Rn)) r5 g) rfl rfl Try.func56 rfl rfl rfl ?_ (fun y=>by rcases r5 with _|_<;>(intro e; cases e)) ?_
 clear hF;revert r5;intro r hF;intro t0 l5 r4 h26 h27;refine wz ?_;refine UN ?_;obtain⟨r15,h2,hF⟩:=J hF;refine ct (fun(r:Int⊕VC) (g:VC)=>match r,g with|.inl v11,_=>⟨.ret,[],(.obj l5 (r4 .done (some .ret))::jI b3 a0 l1 c0 [.obj b0 (.cells [.int .i64 3] .own),eJ b1 v11,pN b2 l1])⟩|.inr _,_=>⟨(.exit 0),[],(.obj l5 (r4 .ready none)::jI b3 a0 l1 c0 (eZ b0 b1 b2 l1 []))⟩) r15 ?_ ?_
 refine lo h2 () [0,1,2,3,4,5,6] (fun v4 _=>⟨.normal,[(0,.func (.yield l5) #[] #[]),(1,ptr b10 0),(5,bI a0 l1 c0),(6,dC l1),(7,bg v4)],(.obj l5 (r4 .ready none)::jI b10 a0 l1 c0 (yy b3 a0 l1 c0::eZ b0 b1 b2 l1 []))⟩) ?_;clear hF h2;rintro v4 ⟨⟩ r hF;unfold Al at hF;refine wz ?_;refine UJ ?_;rcases U hF with⟨h28,hF⟩|⟨h28,hF⟩;refine au ?_;obtain⟨h29,hF⟩:=cW hF;refine U0 (k:=2) rfl (aU h29) ?_;rintro b12 o3 rfl;refine wz ?_;obtain⟨⟨x20,x21⟩,h62,hF⟩:=J hF;refine wz ?_;refine wa z26 fun b25=>?_;refine au ?_;obtain⟨h30,hF⟩:=az hF;refine UI (aJ rfl rfl (cf _ _ h30)) rfl ?_;obtain⟨h63,hF⟩:=cW hF;refine wz ?_;obtain⟨⟨x22,x23⟩,h64,hF⟩:=J hF;refine wz ?_;refine UI (cH rfl z87 rfl (cJ Ec rfl rfl rfl)) rfl ?_;obtain⟨r6,h6,hF⟩:=J hF;refine UX (xO (k:=2) (k1:=0) (γA:=Nat) (GA:=(fun g:Nat=>(match g with|b14=>⟨.normal,(iO b0 b1 [(6,ptr b14 0)]),(.obj l5 (r4 .ready none)::fS b0::fS b1::gS b14 v4 x20 x21 x22 x23::uw b3 b12 o3 l1 c0 [pN b2 l1,oT b10 b12 o3 l1 c0])⟩:En))) (γ:=VC) (G:=fun g=>(fun(r:VC⊕VC) (g:VC)=>(match r,g with|.inl _,_=>⟨.ret,[],(.obj l5 (r4 .busy none)::uw b3 b12 o3 l1 c0 [.obj b0 (.cells [.int .i64 3] .own),eJ b1 v4,pN b2 l1,oT b10 b12 o3 l1 c0])⟩|.inr _,_=>⟨.normal,[],(.obj l5 (r4 .busy none)::uw b3 b12 o3 l1 c0 (eZ b0 b1 b2 l1 [oT b10 b12 o3 l1 c0]))⟩:En)) r6 g) rfl rfl rfl h27 h26 rfl ?_ (fun _=>rfl) (fun _=>rfl) ?_ (fun y=>by rcases r6 with _|_<;>rfl)) gn rfl ?_
 clear hF h6;refine UK<|wa z87 fun b17=>?_;refine wz ?_;exact ae b17 [3,7,8,0,6,2,5,9,4];clear hF;revert r6;intro r hF;rintro b14;refine wz ?_;refine UI (aJ rfl rfl (GG Mz (M3 _ _ _ _))) rfl ?_;refine wz ?_;rcases U hF with⟨h7,hF⟩|⟨h7,hF⟩;refine U3 rfl h7<|UJ<|U6 (prs:=[(1,2)]) (by kernel_rfl)<|UL (aG (r:=ptr b14 0) rfl (sB _ _)) rfl<|Vc rfl (aI (k:=3) bZ rfl rfl rfl) rfl<|Wn.G7 rfl (eg (k:=1) bZ rfl rfl rfl rfl rfl)<|Wn.o0 (eg (k:=2) bZ rfl rfl rfl rfl rfl)<|U1 (fun m hm=>(dq.rw rfl rfl rfl (hm.ne (i:=3) (j:=1) rfl rfl rfl rfl (by decide) rfl) dq.nil)) ?_
 refine au ?_;cases hF;exact ae () [0,4,5,6,1,2,7,8];refine wz ?_;cases hF;exact ae () [0,4,5,6,1,2,7,8];rcases r6 with _|_;rintro⟨⟩;refine au ?_;cases hF;exact ae () [0,1,3,4,5,6];rintro⟨⟩;refine gB ?_;cases hF;exact ae () [0,7,3,1,4,5,6];refine wz ?_;cases hF;exact ae () [0,3,2,4,5,6];rcases r15 with v11|_;rintro⟨⟩;refine At.br ?_;cases hF;exact UY .nil fun m' hm=>⟨(),(UO (Vg 0 6) rfl rfl) m' hm⟩;rintro⟨⟩;refine Vf ?_;cases hF;exact At.fin .nil fun m' hm=>⟨(),(UO (Vg 0 6) rfl rfl) m' hm⟩;rcases r5 with v10|_;rintro⟨⟩
 change Wk _ _ _ _ .ret _ _ _ _
 refine wz ?_;cases hF;exact UY (.cell (k:=2) bZ rfl rfl rfl (.cell (k:=3) bZ rfl rfl rfl .nil)) fun m' hm=>⟨(),rfl,(UO [] rfl rfl) m' hm⟩;rintro⟨⟩
 change At _ .normal _ _ _
 refine au ?_;obtain⟨r16,h31,hF⟩:=J hF;refine wq (fun _ (b9:Nat)=>(.func (.func 56) #[] #[ptr b9 0],(jI b9 a0 l1 c0 (yy b3 a0 l1 c0::eZ b0 b1 b2 l1 [])))) r16 (fun m hm=>?_) ?_;clear hF;revert r16;intro r hF;refine aS (N:=4) (rs:=[.tmp 2]) rfl Try.func39 rfl rfl rfl hm ?_;refine wz ?_;refine wb fun b18=>?_;refine au ?_;refine UI (j9 rfl rfl) rfl ?_;refine au ?_;cases hF;exact ar b18 [0,2,1,3,4,5];rintro b9;refine wz ?_;refine UN ?_;obtain⟨r7,h32,hF⟩:=J hF;refine Wk.range (N:=27) (rs:=[]) (γ:=VC) (X:=fun g=>(fun(r:Int⊕VC) (g:VC)=>(match r,g with|.inl v12,_=>⟨.done,(some .ret),(jI b3 a0 l1 c0 [.obj b0 (.cells [.int .i64 4] .own),eJ b1 v12,pN b2 l1])⟩|.inr _,_=>⟨.ready,none,(jI b3 a0 l1 c0 (eZ b0 b1 b2 l1 []))⟩:Rn)) r7 g) rfl rfl Try.func56 rfl rfl rfl ?_ (fun y=>by rcases r7 with _|_<;>(intro e; cases e)) ?_
 clear hF;revert r7;intro r hF;intro t1 l4 r3 h33 h34;refine wz ?_;refine UN ?_;obtain⟨r17,h3,hF⟩:=J hF;refine ct (fun(r:Int⊕VC) (g:VC)=>match r,g with|.inl v13,_=>⟨.ret,[],(.obj l4 (r3 .done (some .ret))::jI b3 a0 l1 c0 [.obj b0 (.cells [.int .i64 4] .own),eJ b1 v13,pN b2 l1])⟩|.inr _,_=>⟨(.exit 0),[],(.obj l4 (r3 .ready none)::jI b3 a0 l1 c0 (eZ b0 b1 b2 l1 []))⟩) r17 ?_ ?_
 refine lo h3 () [0,1,2,3,4,5,6] (fun v1 _=>⟨.normal,[(0,.func (.yield l4) #[] #[]),(1,ptr b9 0),(5,bI a0 l1 c0),(6,dC l1),(7,bg v1)],(.obj l4 (r3 .ready none)::jI b9 a0 l1 c0 (yy b3 a0 l1 c0::eZ b0 b1 b2 l1 []))⟩) ?_;clear hF h3;rintro v1 ⟨⟩ r hF;unfold Aa at hF;refine wz ?_;refine UJ ?_;rcases U hF with⟨h35,hF⟩|⟨h35,hF⟩;refine au ?_;obtain⟨h36,hF⟩:=cW hF;refine U0 (k:=2) rfl (aU h36) ?_;rintro b11 o2 rfl;refine wz ?_;obtain⟨⟨x12,x13⟩,h65,hF⟩:=J hF;refine wz ?_;refine wa z26 fun b26=>?_;refine au ?_;obtain⟨h37,hF⟩:=az hF;refine UI (aJ rfl rfl (cf _ _ h37)) rfl ?_;obtain⟨h66,hF⟩:=cW hF;refine wz ?_;obtain⟨⟨x14,x15⟩,h67,hF⟩:=J hF;refine wz ?_;refine UI (cH rfl z87 rfl (cJ Ec rfl rfl rfl)) rfl ?_;obtain⟨r8,h8,hF⟩:=J hF;refine UX (xO (k:=2) (k1:=0) (γA:=Nat) (GA:=(fun g:Nat=>(match g with|b6=>⟨.normal,((1,ptr b3 0)::iO b0 b1 [(4,ptr b2 0),(7,ptr b6 0)]),(.obj l4 (r3 .ready none)::uw b3 b11 o2 l1 c0 (eZ b0 b1 b2 l1 [gS b6 v1 x12 x13 x14 x15,oT b9 b11 o2 l1 c0]))⟩:En))) (γ:=VC) (G:=fun g=>(fun(r:VC⊕VC) (g:VC)=>(match r,g with|.inl _,_=>⟨.ret,[],(.obj l4 (r3 .busy none)::uw b3 b11 o2 l1 c0 [.obj b0 (.cells [.int .i64 4] .own),eJ b1 v1,pN b2 l1,oT b9 b11 o2 l1 c0])⟩|.inr _,_=>⟨.normal,[],(.obj l4 (r3 .busy none)::uw b3 b11 o2 l1 c0 (eZ b0 b1 b2 l1 [oT b9 b11 o2 l1 c0]))⟩:En)) r8 g) rfl rfl rfl h34 h33 rfl ?_ (fun _=>rfl) (fun _=>rfl) ?_ (fun y=>by rcases r8 with _|_<;>rfl)) gn rfl ?_
 clear hF h8;refine UK<|wa z87 fun b19=>?_;refine wz ?_;exact ae b19 [3,6,2,5,7,8,9,0,4];clear hF;revert r8;intro r hF;rintro b6;refine UN<|UJ<|Wk.draw (by kernel_rfl)<|UI (aI (k:=1) Qf rfl rfl rfl) rfl<|UI (aG (r:=ptr b6 0) rfl (sB _ _)) rfl<|UI (aI (k:=7) bZ rfl rfl rfl) rfl<|UI (aI (k:=6) bZ rfl rfl rfl) rfl<|UI (aJ rfl rfl (bD _ _ _)) rfl<|UI (aJ rfl rfl (cK _ _ _)) rfl<|UI (aI (k:=6) bZ rfl rfl rfl) rfl ?_
 obtain⟨h38,hF⟩:=az hF;obtain⟨y0,h39,hF⟩:=J hF;refine UI (aJ rfl rfl ((cf _ _ h38).trans (cI h39))) rfl ?_;obtain⟨h68,hF⟩:=cW hF;refine wz ?_;obtain⟨⟨x26,x27⟩,h69,hF⟩:=J hF;refine wz ?_;refine wa z26 fun b15=>?_;refine wz ?_;refine UJ ?_;obtain⟨v5,h40,hF⟩:=J hF;refine ct (fun v5 (_:VC)=>⟨.normal,((1,ptr b3 0)::iO b0 b1 [(4,ptr b2 0),(7,ptr b6 0),(85,.bool v5)]),(.obj l4 (r3 .busy none)::uw b3 b11 o2 l1 c0 (eZ b0 b1 b2 l1 [gS b6 v1 x12 x13 x14 x15,oT b9 b11 o2 l1 c0]))⟩) v5 ?_ ?_;clear hF;revert v5;intro r hF;refine wz ?_;obtain⟨r23,h41,hF⟩:=J hF;refine wc gn (fun m hm=>qp h41 m) ?_;rintro⟨⟩;refine wz ?_;rcases U hF with⟨h0,hF⟩|⟨h0,hF⟩;refine UZ (aG (r:=ptr b6 1) rfl (fW _ _)) (gg rfl rfl (fi h0)) rfl<|UZ (aG (r:=ptr b6 1) rfl (dv _ _)) (gg rfl rfl (fi h0)) rfl<|UZ (aI (k:=8) bZ rfl rfl rfl) (gg rfl rfl (fi h0)) rfl<|UZ (aG (r:=ptr b15 0) rfl (dv _ _)) (gg rfl rfl (fi h0)) rfl<|UZ (aI (k:=0) bZ rfl rfl rfl) (gg rfl rfl (fi h0)) rfl<|UZ (aJ rfl rfl (cK _ _ _)) (gg rfl rfl (fi h0)) rfl<|UZ (aG (r:=ptr b6 3) rfl (iG _ _)) (gg rfl rfl (fi h0)) rfl<|UZ (aG (r:=ptr b6 3) rfl (dv _ _)) (gg rfl rfl (fi h0)) rfl<|UZ (aI (k:=8) bZ rfl rfl rfl) (gg rfl rfl (fi h0)) rfl<|UZ (aG (r:=ptr b6 1) rfl (fW _ _)) (gg rfl rfl (fi h0)) rfl<|UZ (aG (r:=ptr b6 1) rfl (dv _ _)) (gg rfl rfl (fi h0)) rfl<|UZ (aI (k:=8) bZ rfl rfl rfl) (gg rfl rfl (fi h0)) rfl<|UZ (aJ rfl rfl (cK _ _ _)) (gg rfl rfl (fi h0)) rfl ?_;obtain⟨y1,h42,hF⟩:=J hF;refine UZ (aJ rfl rfl ((cT _ _ _).trans (cI h42))) (gg rfl rfl (fi h0)) rfl<|UZ (aG (r:=ptr b6 1) rfl (fW _ _)) (gg rfl rfl (fi h0)) rfl<|UZ (aG (r:=ptr b6 2) rfl (du _ _)) (gg rfl rfl (fi h0)) rfl<|UZ (aI (k:=8) bZ rfl rfl rfl) (gg rfl rfl (fi h0)) rfl<|UZ (aG (r:=ptr b15 1) rfl (du _ _)) (gg rfl rfl (fi h0)) rfl<|UZ (aI (k:=0) bZ rfl rfl rfl) (gg rfl rfl (fi h0)) rfl<|UZ (aJ rfl rfl (cK _ _ _)) (gg rfl rfl (fi h0)) rfl<|UZ (aG (r:=ptr b6 3) rfl (iG _ _)) (gg rfl rfl (fi h0)) rfl<|UZ (aG (r:=ptr b6 4) rfl (du _ _)) (gg rfl rfl (fi h0)) rfl<|UZ (aI (k:=8) bZ rfl rfl rfl) (gg rfl rfl (fi h0)) rfl<|UZ (aG (r:=ptr b6 1) rfl (fW _ _)) (gg rfl rfl (fi h0)) rfl<|UZ (aG (r:=ptr b6 2) rfl (du _ _)) (gg rfl rfl (fi h0)) rfl<|UZ (aI (k:=8) bZ rfl rfl rfl) (gg rfl rfl (fi h0)) rfl<|UZ (aJ rfl rfl (cK _ _ _)) (gg rfl rfl (fi h0)) rfl ?_;obtain⟨y2,h43,hF⟩:=J hF;refine UZ (aJ rfl rfl ((cT _ _ _).trans (cI h43))) (gg rfl rfl (fi h0)) rfl ?_;refine wz ?_;cases hF;exact ae () (Vg 1 9);refine wz ?_;cases hF;exact ae () (Vg 1 9);rintro⟨⟩;refine UR ?_;rcases U hF with⟨h9,hF⟩|⟨h9,hF⟩;refine U3 rfl h9<|UJ<|U6 (prs:=[(1,2)]) (by kernel_rfl)<|UL (aG (r:=ptr b6 0) rfl (sB _ _)) rfl<|Vc rfl (aI (k:=7) bZ rfl rfl rfl) rfl<|Wn.G7 rfl (eg (k:=4) bZ rfl rfl rfl rfl rfl)<|Wn.o0 (eg (k:=5) bZ rfl rfl rfl rfl rfl)<|U1 (fun m hm=>(dq.rw rfl rfl rfl (hm.ne (i:=7) (j:=4) rfl rfl rfl rfl (by decide) rfl) dq.nil)) ?_
 refine au ?_;cases hF;exact ae () [0,1,2,3,4,5,6,8];refine wz ?_;cases hF;exact ae () [0,1,2,3,4,5,6,8];rcases r8 with _|_;rintro⟨⟩;refine au ?_;cases hF;exact ae () [0,1,3,4,5,6];rintro⟨⟩;refine gB ?_;cases hF;exact ae () [0,7,3,1,4,5,6];refine wz ?_;cases hF;exact ae () [0,3,2,4,5,6];rcases r17 with v13|_;rintro⟨⟩;refine At.br ?_;cases hF;exact UY .nil fun m' hm=>⟨(),(UO (Vg 0 6) rfl rfl) m' hm⟩;rintro⟨⟩;refine Vf ?_;cases hF;exact At.fin .nil fun m' hm=>⟨(),(UO (Vg 0 6) rfl rfl) m' hm⟩;rcases r7 with v12|_;rintro⟨⟩
 change Wk _ _ _ _ .ret _ _ _ _
 refine wz ?_;cases hF;exact UY (.cell (k:=2) bZ rfl rfl rfl (.cell (k:=3) bZ rfl rfl rfl .nil)) fun m' hm=>⟨(),rfl,(UO [] rfl rfl) m' hm⟩;rintro⟨⟩
 change At _ .normal _ _ _
 refine au ?_;obtain⟨r18,h44,hF⟩:=J hF;refine wq (fun _ (b5:Nat)=>(.func (.func 56) #[] #[ptr b5 0],(jI b5 a0 l1 c0 (yy b3 a0 l1 c0::eZ b0 b1 b2 l1 [])))) r18 (fun m hm=>?_) ?_;clear hF;revert r18;intro r hF;refine aS (N:=4) (rs:=[.tmp 2]) rfl Try.func39 rfl rfl rfl hm ?_;refine wz ?_;refine wb fun b20=>?_;refine au ?_;refine UI (j9 rfl rfl) rfl ?_;refine au ?_;cases hF;exact ar b20 [0,2,1,3,4,5];rintro b5;refine wz ?_;refine UN ?_;obtain⟨r9,h45,hF⟩:=J hF;refine Wk.range (N:=27) (rs:=[]) (γ:=VC) (X:=fun g=>(fun(r:Int⊕VC) (g:VC)=>(match r,g with|.inl v14,_=>⟨.done,(some .ret),(jI b3 a0 l1 c0 [DT b0,eJ b1 v14,pN b2 l1])⟩|.inr _,_=>⟨.ready,none,(jI b3 a0 l1 c0 (eZ b0 b1 b2 l1 []))⟩:Rn)) r9 g) rfl rfl Try.func56 rfl rfl rfl ?_ (fun y=>by rcases r9 with _|_<;>(intro e; cases e)) ?_
 clear hF;revert r9;intro r hF;intro t2 l2 r0 h46 h10;refine wz ?_;refine UN ?_;obtain⟨r19,h4,hF⟩:=J hF;refine ct (fun(r:Int⊕VC) (g:VC)=>match r,g with|.inl v15,_=>⟨.ret,[],(.obj l2 (r0 .done (some .ret))::jI b3 a0 l1 c0 [DT b0,eJ b1 v15,pN b2 l1])⟩|.inr _,_=>⟨(.exit 0),[],(.obj l2 (r0 .ready none)::jI b3 a0 l1 c0 (eZ b0 b1 b2 l1 []))⟩) r19 ?_ ?_
 refine lo h4 () [0,1,2,3,4,5,6] (fun v0 _=>⟨.normal,[(0,.func (.yield l2) #[] #[]),(1,ptr b5 0),(5,bI a0 l1 c0),(6,dC l1),(7,bg v0)],(.obj l2 (r0 .ready none)::jI b5 a0 l1 c0 (yy b3 a0 l1 c0::eZ b0 b1 b2 l1 []))⟩) ?_;clear hF h4;rintro v0 ⟨⟩ r hF;unfold zD at hF;refine wz ?_;refine UJ ?_;rcases U hF with⟨h47,hF⟩|⟨h47,hF⟩;refine au ?_;obtain⟨h48,hF⟩:=cW hF;refine U0 (k:=2) rfl (aU h48) ?_;rintro b4 o1 rfl;refine wz ?_;obtain⟨⟨x3,x4⟩,h70,hF⟩:=J hF;refine wz ?_;refine wa z26 fun b27=>?_;refine au ?_;obtain⟨h49,hF⟩:=az hF;refine UI (aJ rfl rfl (cf _ _ h49)) rfl ?_;obtain⟨h71,hF⟩:=cW hF;refine wz ?_;obtain⟨⟨x10,x11⟩,h72,hF⟩:=J hF;refine wz ?_;refine UI (cH rfl z87 rfl (cJ Ec rfl rfl rfl)) rfl ?_;obtain⟨r10,h11,hF⟩:=J hF;refine UX (xO (k:=2) (k1:=0) (γA:=Nat) (GA:=(fun g:Nat=>(match g with|b7=>⟨.normal,((1,ptr b3 0)::iO b0 b1 [(4,ptr b2 0),(9,ptr b7 0)]),(.obj l2 (r0 .ready none)::uw b3 b4 o1 l1 c0 (eZ b0 b1 b2 l1 [gS b7 v0 x3 x4 x10 x11,oT b5 b4 o1 l1 c0]))⟩:En))) (γ:=VC) (G:=fun g=>(fun(r:VC⊕VC) (g:VC)=>(match r,g with|.inl _,_=>⟨.normal,[],(.obj l2 (r0 .busy none)::uw b3 b4 o1 l1 c0 (eZ b0 b1 b2 l1 [oT b5 b4 o1 l1 c0]))⟩|.inr _,_=>⟨.ret,[],(.obj l2 (r0 .busy none)::uw b3 b4 o1 l1 c0 [DT b0,eJ b1 v0,pN b2 l1,oT b5 b4 o1 l1 c0])⟩:En)) r10 g) rfl rfl rfl h10 h46 rfl ?_ (fun _=>rfl) (fun _=>rfl) ?_ (fun y=>by rcases r10 with _|_<;>rfl)) gn rfl ?_
 clear hF h11;refine UK<|wa z87 fun b21=>?_;refine wz ?_;exact ae b21 [3,6,2,5,7,8,9,0,4];clear hF;revert r10;intro r hF;rintro b7;refine wz ?_;obtain⟨r20,h50,hF⟩:=J hF;refine wq (fun _ (b8:Nat)=>(.func (.func 56) #[] #[ptr b8 0],(.obj l2 (r0 .busy none)::uw b8 b4 o1 l1 c0 (oT b3 b4 o1 l1 c0::eZ b0 b1 b2 l1 [oT b5 b4 o1 l1 c0,gS b7 v0 x3 x4 x10 x11])))) r20 (fun m hm=>?_) ?_;clear hF;revert r20;intro r hF;refine aS (N:=4) (rs:=[.tmp 2]) rfl Try.func39 rfl rfl rfl hm ?_;refine wz ?_;refine wb fun b22=>?_;refine au ?_;refine UI (j9 rfl rfl) rfl ?_;refine au ?_;cases hF;exact ar b22 [1,0,3,4,2,5,6,7,9,8];rintro b8;refine wz ?_;refine UN ?_;obtain⟨r11,h51,hF⟩:=J hF;refine Wk.LH (k0:=0) (N:=27) (rs:=[]) (γ:=VC) (X:=fun g=>(fun(r:VC⊕VC⊕VC) (g:VC)=>(match r,g with|.inl _,_=>⟨.done,(some (.exit 6)),(.obj l2 (r0 .busy none)::uw b3 b4 o1 l1 c0 (eZ b0 b1 b2 l1 [oT b5 b4 o1 l1 c0,gS b7 v0 x3 x4 x10 x11]))⟩|.inr (.inl _),_=>⟨.done,(some .ret),(.obj l2 (r0 .busy none)::uw b3 b4 o1 l1 c0 [DT b0,eJ b1 v0,pN b2 l1,oT b5 b4 o1 l1 c0,gS b7 v0 x3 x4 x10 x11])⟩|.inr (.inr _),_=>⟨.ready,none,(.obj l2 (r0 .busy none)::uw b3 b4 o1 l1 c0 (eZ b0 b1 b2 l1 [oT b5 b4 o1 l1 c0,gS b7 v0 x3 x4 x10 x11]))⟩:Rn)) r11 g) rfl rfl Try.func56 rfl rfl rfl h10 rfl ?_ (fun y=>by rcases r11 with _|_|_<;>(intro e; cases e)) ?_
 clear hF;revert r11;intro r hF;intro t3 l3 r1 h52 h53;refine wz ?_;refine UN ?_;obtain⟨r21,h5,hF⟩:=J hF;refine ct (fun(r:VC⊕VC⊕VC) (g:VC)=>match r,g with|.inl _,_=>⟨.ret,[],(.obj l3 (r1 .done (some (.exit 6)))::.obj l2 (r0 .busy none)::uw b3 b4 o1 l1 c0 (eZ b0 b1 b2 l1 [oT b5 b4 o1 l1 c0,gS b7 v0 x3 x4 x10 x11]))⟩|.inr (.inl _),_=>⟨.ret,[],(.obj l3 (r1 .done (some .ret))::.obj l2 (r0 .busy none)::uw b3 b4 o1 l1 c0 [DT b0,eJ b1 v0,pN b2 l1,oT b5 b4 o1 l1 c0,gS b7 v0 x3 x4 x10 x11])⟩|.inr (.inr _),_=>⟨(.exit 0),[],(.obj l3 (r1 .ready none)::.obj l2 (r0 .busy none)::uw b3 b4 o1 l1 c0 (eZ b0 b1 b2 l1 [oT b5 b4 o1 l1 c0,gS b7 v0 x3 x4 x10 x11]))⟩) r21 ?_ ?_
 refine lo h5 () [0,1,2,3,4,5,6,7,8,9,10] (fun v6 _=>⟨.normal,[(0,.func (.yield l3) #[] #[]),(1,ptr b8 0),(5,tY b4 o1 l1 c0),(6,dC l1),(7,bg v6)],(.obj l3 (r1 .ready none)::.obj l2 (r0 .busy none)::uw b8 b4 o1 l1 c0 (oT b3 b4 o1 l1 c0::eZ b0 b1 b2 l1 [oT b5 b4 o1 l1 c0,gS b7 v0 x3 x4 x10 x11]))⟩) ?_;clear hF h5;rintro v6 ⟨⟩ r hF;unfold As at hF;refine wz ?_;refine UJ ?_;rcases U hF with⟨h54,hF⟩|⟨h54,hF⟩;refine au ?_;obtain⟨h73,hF⟩:=cW hF;refine wz ?_;obtain⟨⟨x16,x17⟩,h74,hF⟩:=J hF;refine wz ?_;refine wa z26 fun b28=>?_;refine au ?_;obtain⟨h55,hF⟩:=az hF;refine UI (aJ rfl rfl (cf _ _ h55)) rfl ?_;obtain⟨h75,hF⟩:=cW hF;refine wz ?_;obtain⟨⟨x18,x19⟩,h76,hF⟩:=J hF;refine wz ?_;refine UI (cH rfl z87 rfl (cJ Ec rfl rfl rfl)) rfl ?_;obtain⟨r12,h12,hF⟩:=J hF;refine UX (xO (k:=1) (k1:=0) (γA:=Nat) (GA:=(fun g:Nat=>(match g with|b13=>⟨.normal,(iO b0 b1 [(4,ptr b2 0),(9,ptr b7 0),(10,ptr b13 0)]),(.obj l3 (r1 .ready none)::.obj l2 (r0 .busy none)::eZ b0 b1 b2 l1 (gS b7 v0 x3 x4 x10 x11::gS b13 v6 x16 x17 x18 x19::uw b3 b4 o1 l1 c0 [oT b5 b4 o1 l1 c0,oT b8 b4 o1 l1 c0]))⟩:En))) (γ:=VC) (G:=fun g=>(fun(r:VC⊕VC⊕VC) (g:VC)=>(match r,g with|.inl _,_=>⟨(.exit 6),[],(.obj l3 (r1 .busy none)::.obj l2 (r0 .busy none)::uw b3 b4 o1 l1 c0 (eZ b0 b1 b2 l1 [oT b5 b4 o1 l1 c0,gS b7 v0 x3 x4 x10 x11,oT b8 b4 o1 l1 c0]))⟩|.inr (.inl _),_=>⟨.normal,[],(.obj l3 (r1 .busy none)::.obj l2 (r0 .busy none)::uw b3 b4 o1 l1 c0 (eZ b0 b1 b2 l1 [oT b5 b4 o1 l1 c0,gS b7 v0 x3 x4 x10 x11,oT b8 b4 o1 l1 c0]))⟩|.inr (.inr _),_=>⟨.ret,[],(.obj l3 (r1 .busy none)::.obj l2 (r0 .busy none)::uw b3 b4 o1 l1 c0 [DT b0,eJ b1 v0,pN b2 l1,oT b5 b4 o1 l1 c0,gS b7 v0 x3 x4 x10 x11,oT b8 b4 o1 l1 c0])⟩:En)) r12 g) rfl rfl rfl h53 h52 rfl ?_ (fun _=>rfl) (fun _=>rfl) ?_ (fun y=>by rcases r12 with _|_|_<;>rfl)) gn rfl ?_
 clear hF h12;refine UK<|wa z87 fun b23=>?_;refine wz ?_;exact ae b23 [2,3,8,9,10,12,0,7,5,6,11,4];clear hF;revert r12;intro r hF;rintro b13;refine wz ?_;rcases U hF with⟨h56,hF⟩|⟨h56,hF⟩;refine wz ?_;cases hF;exact ae () [0,1,7,8,9,2,3,4,10,5,11];refine wz ?_;refine UJ<|UJ ?_;obtain⟨v7,h57,hF⟩:=J hF;refine ct (fun v7 (_:VC)=>⟨.normal,(iO b0 b1 [(4,ptr b2 0),(9,ptr b7 0),(10,ptr b13 0),(109,.bool v7)]),(.obj l3 (r1 .busy none)::.obj l2 (r0 .busy none)::eZ b0 b1 b2 l1 (gS b7 v0 x3 x4 x10 x11::gS b13 v6 x16 x17 x18 x19::uw b3 b4 o1 l1 c0 [oT b5 b4 o1 l1 c0,oT b8 b4 o1 l1 c0]))⟩) v7 ?_ ?_;clear hF;revert v7;intro r hF;refine wz ?_;rcases U hF with⟨h58,hF⟩|⟨h58,hF⟩;refine wz ?_;cases hF;exact ae () (Vg 0 12);refine wz ?_;cases hF;exact ae () (Vg 0 12);rintro⟨⟩;refine UR ?_;rcases U hF with⟨h59,hF⟩|⟨h59,hF⟩;refine wz ?_;cases hF;exact ae () [0,1,7,8,9,2,3,4,10,5,11];refine au ?_;obtain⟨r24,h60,hF⟩:=J hF;refine wc gn (fun m hm=>Fv h60 m) ?_;rintro⟨⟩;refine wz ?_;rcases U hF with⟨h13,hF⟩|⟨h13,hF⟩;refine U3 rfl h13<|UJ<|U6 (prs:=[(1,2)]) (by kernel_rfl)<|UL (aG (r:=ptr b7 0) rfl (sB _ _)) rfl<|Vc rfl (aI (k:=5) bZ rfl rfl rfl) rfl<|Wn.G7 rfl (eg (k:=2) bZ rfl rfl rfl rfl rfl)<|Wn.o0 (eg (k:=3) bZ rfl rfl rfl rfl rfl)<|U1 (fun m hm=>(dq.rw rfl rfl rfl (hm.ne (i:=5) (j:=2) rfl rfl rfl rfl (by decide) rfl) dq.nil)) ?_
 refine au ?_;cases hF;exact ae () [0,1,7,8,9,2,3,4,10,5,11];refine wz ?_;cases hF;exact ae () [0,1,7,8,9,2,3,4,10,5,11];rcases r12 with _|_|_;rintro⟨⟩;refine au ?_;cases hF;exact ae () (Vg 0 10);rintro⟨⟩;refine gB ?_;cases hF;exact ae () [0,1,10,3,4,2,5,6,7,8,9];rintro⟨⟩;refine au ?_;cases hF;exact ae () (Vg 0 10);refine wz ?_;cases hF;exact ae () [0,1,5,3,4,6,7,8,9,10];rcases r21 with _ |(_|_);rintro⟨⟩;refine At.br ?_;cases hF;exact UY .nil fun m' hm=>⟨(),(UO (Vg 0 10) rfl rfl) m' hm⟩;rintro⟨⟩;refine At.br ?_;cases hF;exact UY .nil fun m' hm=>⟨(),(UO (Vg 0 10) rfl rfl) m' hm⟩;rintro⟨⟩;refine Vf ?_;cases hF;exact At.fin .nil fun m' hm=>⟨(),(UO (Vg 0 10) rfl rfl) m' hm⟩;rcases r11 with _|_|_;rintro⟨⟩
 change Wk _ _ _ _ (.exit 6) _ _ _ _
 refine wz ?_;cases hF;exact ae () (Vg 0 8);rintro⟨⟩
 change Wk _ _ _ _ .ret _ _ _ _
 refine wz ?_;cases hF;exact ae () (Vg 0 8);rintro⟨⟩
 change At _ .normal _ _ _
 refine wz ?_;cases hF;exact ae () (Vg 0 8);rcases r10 with _|_;rintro⟨⟩;refine gB ?_;cases hF;exact ae () [0,7,3,1,4,5,6];rintro⟨⟩;refine au ?_;cases hF;exact ae () [0,1,3,4,5,6];refine wz ?_;cases hF;exact ae () [0,3,2,4,5,6];rcases r19 with v15|_;rintro⟨⟩;refine At.br ?_;cases hF;exact UY .nil fun m' hm=>⟨(),(UO (Vg 0 6) rfl rfl) m' hm⟩;rintro⟨⟩;refine Vf ?_;cases hF;exact At.fin .nil fun m' hm=>⟨(),(UO (Vg 0 6) rfl rfl) m' hm⟩;rcases r9 with v14|_;rintro⟨⟩
 change Wk _ _ _ _ .ret _ _ _ _
 refine wz ?_;cases hF;exact UY (.cell (k:=2) bZ rfl rfl rfl (.cell (k:=3) bZ rfl rfl rfl .nil)) fun m' hm=>⟨(),rfl,(UO [] rfl rfl) m' hm⟩;rintro⟨⟩
 change At _ .normal _ _ _
 refine gB ?_;cases hF;exact UY (.cell (k:=2) bZ rfl rfl rfl (.cell (k:=3) bZ rfl rfl rfl .nil)) fun m' hm=>⟨(),rfl,(UO [] rfl rfl) m' hm⟩
def MW{n l1 a2 c3 r}(hF:PV n l1=some r)(m)(h4:kq m a2 c3 l1):
 aK (Vq p q) 37 [bI a2 l1 c3] m (Vm m (.int .i64 r)):=by
 unfold PV at hF;refine cw Try.func37 (U2 (UU m) eo h4) ?_;refine au ?_;obtain⟨⟨r6,r7⟩,h5,hF⟩:=J hF;refine wc gn (fun m hm=>L8 h5 m (hm.q 0)) ?_;rintro⟨⟩;refine au ?_;rcases U hF with⟨h8,hF⟩|⟨h8,hF⟩;refine au ?_;cases hF;exact ar () [];refine gB ?_;cases hF;exact ar () []
def E9{n l1 a2 c3 r}(hF:N8 n l1=some r)(m)(h4:kq m a2 c3 l1):
 aK (Vq p q) 26 [bI a2 l1 c3] m (Vm m (.int .i64 r)):=by
 unfold N8 at hF;refine cw Try.func26 (U2 (UU m) eo h4) ?_;refine gB ?_;refine UN ?_;obtain⟨v27,h44,hF⟩:=J hF;refine ct (fun v27 (_:VC)=>⟨(.exit 0),[(3,bg v27)],[]⟩) v27 ?_ ?_;refine lo h44 () [0] (fun(v7,v8) _=>⟨.normal,((0,bI a2 l1 c3)::(3,bg v7)::AJ a2 l1 c3 v8 []),[rR a2 c3 l1]⟩) ?_;clear hF h44;rintro⟨v7,v8⟩ ⟨⟩ r hF;unfold u1 at hF;refine wz ?_;refine UJ ?_;rcases U hF with⟨h28,hF⟩|⟨h28,hF⟩;refine au ?_;obtain⟨h29,hF⟩:=cW hF;refine U0 (k:=0) rfl (aU h29) ?_;rintro b30 o31 rfl;refine wz ?_;obtain⟨⟨x32,x33⟩,h34,hF⟩:=J hF;refine wz ?_;refine wa z26 fun b35=>?_;refine au ?_;obtain⟨h36,hF⟩:=az hF;refine UI (aJ rfl rfl (cf _ _ h36)) rfl ?_;obtain⟨h37,hF⟩:=cW hF;refine wz ?_;obtain⟨⟨x38,x39⟩,h40,hF⟩:=J hF;refine wz ?_;refine wa z26 fun b41=>?_;refine wz ?_;refine UK<|UI (aV rfl) rfl<|UI (aG (r:=ptr b35 0) rfl (dv _ _)) rfl<|UI (aI (k:=1) bZ rfl rfl rfl) rfl<|UI (aG (r:=ptr b41 1) rfl (du _ _)) rfl<|UI (aI (k:=0) bZ rfl rfl rfl) rfl<|UI (aJ rfl rfl (cT _ _ _)) rfl<|UI (aG (r:=ptr b35 1) rfl (du _ _)) rfl<|UI (aI (k:=1) bZ rfl rfl rfl) rfl<|UI (aG (r:=ptr b41 0) rfl (dv _ _)) rfl<|UI (aI (k:=0) bZ rfl rfl rfl) rfl<|UI (aJ rfl rfl (cT _ _ _)) rfl ?_;obtain⟨y42,h43,hF⟩:=J hF;refine UI (aJ rfl rfl ((cK _ _ _).trans (cI h43))) rfl ?_;refine au ?_;cases hF;exact ae () [3];refine wz ?_;cases hF;exact ae () [];rintro⟨⟩;refine gB ?_;obtain rfl:=Sb hF;exact ar () []
def LQ{n x1 x2 x3 x4 x5 x6 x7 x8 r}(hF:Ow n x1 x2 x3 x4 x5 x6 x7 x8=some r)(m):
 aK (Vq p q) 98 [mI x1 x2,mI x3 x4,mI x5 x6,mI x7 x8] m (Vm m (.tuple #[.int .i64 r.1,.int .i64 r.2])):=by
 unfold Ow at hF;refine cw Try.func98 (UU m) ?_;refine wz ?_;refine wb fun b9=>?_;refine wb fun b10=>?_;refine wb fun b11=>?_;refine wb fun b12=>?_;refine wz ?_;refine UJ<|UJ ?_;obtain⟨v56,h70,hF⟩:=J hF;refine ct (fun v56 (_:VC)=>⟨.normal,[(4,ptr b9 0),(5,ptr b10 0),(6,ptr b11 0),(7,ptr b12 0),(33,.bool v56)],[gD b9 x1 x2,gD b10 x3 x4,gD b11 x5 x6,gD b12 x7 x8]⟩) v56 ?_ ?_;clear hF;revert v56;intro r hF;refine wz ?_;obtain⟨r58,h57,hF⟩:=J hF;refine wc gn (fun m hm=>sV h57 m) ?_;rintro⟨⟩;refine wz ?_;rcases U hF with⟨h59,hF⟩|⟨h59,hF⟩;refine wz ?_;cases hF;exact ae () [3,2,1,0];refine wz ?_;obtain⟨r61,h60,hF⟩:=J hF;refine wc (gg rfl rfl (qv h59)) (fun m hm=>sV h60 m) ?_;rintro⟨⟩;refine wz ?_;rcases U hF with⟨h62,hF⟩|⟨h62,hF⟩;refine wz ?_;cases hF;exact ae () [3,2,1,0];refine wz ?_;obtain⟨r64,h63,hF⟩:=J hF;refine wc (gg rfl rfl (qv h62)) (fun m hm=>sV h63 m) ?_;rintro⟨⟩;refine wz ?_;rcases U hF with⟨h65,hF⟩|⟨h65,hF⟩;refine wz ?_;cases hF;exact ae () [3,2,1,0];refine wz ?_;obtain⟨r67,h66,hF⟩:=J hF;refine wc (gg rfl rfl (qv h65)) (fun m hm=>sV h66 m) ?_;rintro⟨⟩;refine wz ?_;rcases U hF with⟨h68,hF⟩|⟨h68,hF⟩;refine wz ?_;cases hF;exact ae () [3,2,1,0];refine wz ?_;refine UZ (aJ rfl rfl (GG Mz (M3 _ _ _ _))) (gg rfl rfl (qv h68)) rfl ?_;refine wz ?_;rcases U hF with⟨h69,hF⟩|⟨h69,hF⟩;refine wz ?_;cases hF;exact ae () [3,2,1,0];refine wz ?_;refine UZ (aJ rfl rfl (GG Mz (M3 _ _ _ _))) (gg rfl rfl (qv h69)) rfl ?_;refine wz ?_;cases hF;exact ae () [3,2,1,0];rintro⟨⟩;refine UR ?_;rcases U hF with⟨h72,hF⟩|⟨h72,hF⟩;refine au ?_;cases hF;exact ar () [];refine au ?_;refine UI (cH rfl z87 rfl (cJ Ec rfl rfl rfl)) rfl ?_;refine wz ?_;refine UI (cH rfl z87 rfl (cJ Ec rfl rfl rfl)) rfl ?_;obtain⟨r74,h73,hF⟩:=J hF;refine wc gn (fun m hm=>Fv h73 m) ?_;rintro⟨⟩;refine au ?_;cases hF;exact ar () []
def Ni{n l1 l5 x12 x13 x14 x15 x16 x17 x18 x19 a2 c3 a6 c7}{rr8:Uy}{es9:Uw}{r}(hF:Om n l1 l5 x12 x13 x14 x15 x16 x17 x18 x19=some r)(m)(h4:kq m a2 c3 l1)(h10:nY m a6 c7 l5 es9)(h11:(cp aj rr8 l5 es9).P m):
 aK (Vq p q) 83 [lO a2 l1 c3 a6 l5 c7,.agg #[bg x12,bg x13,bg x14,bg x15],.agg #[bg x16,bg x17,bg x18,bg x19]] m (Vm m (.bool r)):=by
 unfold Om at hF;refine cw Try.func83 (Hp.nV (U2 (U2 (UU m) eo h4) (fg eo) h10) (fg (fg eo)) h11) ?_;refine wz ?_;refine wb fun b20=>?_;refine wb fun b21=>?_;refine wb fun b22=>?_;refine wz ?_;refine UJ<|UJ ?_;obtain⟨v39,h44,hF⟩:=J hF;refine ct (fun v39 (_:VC)=>⟨.normal,[(3,ptr b20 0),(4,ptr b21 0),(5,ptr b22 0),(34,.bool v39)],(fR b20 a2 l1 c3 a6 l5 c7 es9 aj rr8 [fq b21 x12 x13 x14 x15,fq b22 x16 x17 x18 x19])⟩) v39 ?_ ?_;clear hF;revert v39;intro r hF;refine wz ?_;rcases U hF with⟨h40,hF⟩|⟨h40,hF⟩;refine wz ?_;rcases U hF with⟨h41,hF⟩|⟨h41,hF⟩;refine wz ?_;cases hF;exact ae () [2,5,4,3,1,0];refine wz ?_;rcases U hF with⟨h42,hF⟩|⟨h42,hF⟩;refine wz ?_;cases hF;exact ae () [2,5,4,3,1,0];refine wz ?_;cases hF;exact ae () [2,5,4,3,1,0];refine wz ?_;rcases U hF with⟨h43,hF⟩|⟨h43,hF⟩;refine wz ?_;cases hF;exact ae () [2,5,4,3,1,0];refine wz ?_;cases hF;exact ae () [2,5,4,3,1,0];rintro⟨⟩;refine UR ?_;rcases U hF with⟨h46,hF⟩|⟨h46,hF⟩;refine au ?_;cases hF;exact ar () [];refine au ?_;obtain⟨h47,hF⟩:=cW hF;refine U0 (k:=1) rfl (aU h47) ?_;rintro b48 o49 rfl;refine wz ?_;obtain⟨⟨x50,x51⟩,h52,hF⟩:=J hF;refine wz ?_;obtain⟨h53,hF⟩:=cW hF;refine wz ?_;obtain⟨⟨x54,x55⟩,h56,hF⟩:=J hF;refine wz ?_;obtain⟨h57,hF⟩:=cW hF;refine wz ?_;obtain⟨⟨x58,x59⟩,h60,hF⟩:=J hF;refine wz ?_;obtain⟨h61,hF⟩:=cW hF;refine wz ?_;obtain⟨⟨x62,x63⟩,h64,hF⟩:=J hF;refine wz ?_;obtain⟨⟨r66,r67⟩,h65,hF⟩:=J hF;refine wc gn (fun m hm=>LQ h65 m) ?_;rintro⟨⟩;refine gB ?_;rcases U hF with⟨h68,hF⟩|⟨h68,hF⟩;refine au ?_;cases hF;exact ar () [];refine wz ?_;rcases U hF with⟨h69,hF⟩|⟨h69,hF⟩;refine wz ?_;rcases U hF with⟨h70,hF⟩|⟨h70,hF⟩;refine wz ?_;rcases U hF with⟨h71,hF⟩|⟨h71,hF⟩;refine wz ?_;rcases U hF with⟨h72,hF⟩|⟨h72,hF⟩;refine au ?_;cases hF;exact ar () [];refine au ?_;cases hF;exact ar () [];refine au ?_;cases hF;exact ar () [];refine au ?_;cases hF;exact ar () [];refine gB ?_;cases hF;exact ar () []
def BQ{n l1 x5 x6 a0 c0 r}(hF:K1 n l1 x5 x6=some r)(m)(h7:kq m a0 c0 l1):
 aK (Vq p q) 36 [bI a0 l1 c0,mI x5 x6] m (Vm m (.int .i64 r)):=by
 unfold K1 at hF;refine cw Try.func36 (U2 (UU m) eo h7) ?_;refine wz ?_;refine wb fun b0=>?_;refine gB ?_;refine UN ?_;obtain⟨r1,h0,hF⟩:=J hF;refine ct (fun(r:VC⊕Int) (g:VC)=>match r,g with|.inl _,_=>⟨.ret,[(4,.int .i64 1)],[]⟩|.inr v5,_=>⟨(.exit 0),[(5,bg v5)],[]⟩) r1 ?_ ?_
 refine lo h0 () [1,0] (fun(v1,v0) _=>⟨.normal,((0,bI a0 l1 c0)::(3,ptr b0 0)::(5,bg v1)::zH a0 l1 c0 v0 []),[rR a0 c0 l1,gD b0 x5 x6]⟩) ?_;clear hF h0;rintro⟨v1,v0⟩ ⟨⟩ r hF;unfold tj at hF;refine wz ?_;refine UJ ?_;rcases U hF with⟨h8,hF⟩|⟨h8,hF⟩;refine wz ?_;refine UJ ?_;obtain⟨r0,h9,hF⟩:=J hF;refine ct (fun(r:VC⊕Int) (g:VC)=>match r,g with|.inl _,_=>⟨.ret,[(4,.int .i64 1)],[]⟩|.inr v6,_=>⟨.normal,((0,bI a0 l1 c0)::(3,ptr b0 0)::(5,bg v6)::zH a0 l1 c0 v0 []),[rR a0 c0 l1,gD b0 x5 x6]⟩) r0 ?_ ?_
 clear hF;revert r0;intro r hF;refine wz ?_;obtain⟨h10,hF⟩:=cW hF;refine U0 (k:=0) rfl (aU h10) ?_;rintro b1 o1 rfl;refine wz ?_;obtain⟨⟨x3,x4⟩,h23,hF⟩:=J hF;refine wz ?_;refine wa z26 fun b2=>?_;refine au ?_;obtain⟨h11,hF⟩:=az hF;refine UI (aJ rfl rfl (cf _ _ h11)) rfl ?_;obtain⟨h24,hF⟩:=cW hF;refine wz ?_;obtain⟨⟨x10,x11⟩,h25,hF⟩:=J hF;refine wz ?_;refine wa z26 fun b3=>?_;refine wz ?_;refine UJ<|UK<|UI (aG (r:=ptr b3 0) rfl (dv _ _)) rfl<|UI (aI (k:=0) bZ rfl rfl rfl) rfl<|UI (aG (r:=ptr b2 0) rfl (dv _ _)) rfl<|UI (aI (k:=1) bZ rfl rfl rfl) rfl<|UI (aJ rfl rfl (cK _ _ _)) rfl<|UI (aG (r:=ptr b0 1) rfl (du _ _)) rfl<|UI (aI (k:=4) bZ rfl rfl rfl) rfl<|UI (aG (r:=ptr b2 1) rfl (du _ _)) rfl<|UI (aI (k:=1) bZ rfl rfl rfl) rfl<|UI (aJ rfl rfl (cK _ _ _)) rfl ?_;obtain⟨y0,h12,hF⟩:=J hF;refine UI (aJ rfl rfl ((cT _ _ _).trans (cI h12))) rfl<|UI (aG (r:=ptr b3 1) rfl (du _ _)) rfl<|UI (aI (k:=0) bZ rfl rfl rfl) rfl<|UI (aG (r:=ptr b2 1) rfl (du _ _)) rfl<|UI (aI (k:=1) bZ rfl rfl rfl) rfl<|UI (aJ rfl rfl (cK _ _ _)) rfl<|UI (aG (r:=ptr b0 0) rfl (dv _ _)) rfl<|UI (aI (k:=4) bZ rfl rfl rfl) rfl<|UI (aG (r:=ptr b2 0) rfl (dv _ _)) rfl<|UI (aI (k:=1) bZ rfl rfl rfl) rfl<|UI (aJ rfl rfl (cK _ _ _)) rfl ?_;obtain⟨y1,h13,hF⟩:=J hF;refine UI (aJ rfl rfl ((cT _ _ _).trans (cI h13))) rfl ?_;refine wz ?_;refine UN<|UJ ?_;obtain⟨v2,h14,hF⟩:=J hF;refine ct (fun v2 (_:VC)=>⟨.normal,((0,tY b1 o1 l1 c0)::(3,ptr b0 0)::(5,bg v1)::(7,ptr b2 0)::(8,ptr b3 0)::(9,.int .i64 (UE (y0-y1)))::sO b1 o1 l1 c0 v0 [(48,.bool v2)]),[IG b1 o1 l1,IQ b1 o1 c0 l1,gD b0 x5 x6,gD b2 x3 x4,gD b3 x10 x11]⟩) v2 ?_ ?_;clear hF;revert v2;intro r hF;refine wz ?_;rcases U hF with⟨h1,hF⟩|⟨h1,hF⟩;refine wz ?_;refine UZ (kV rfl rfl (lH _ _)) (gg rfl rfl (fi h1)) rfl ?_;refine wz ?_;rcases U hF with⟨h2,hF⟩|⟨h2,hF⟩;refine wz ?_;refine UZ (kV rfl rfl (u6 _ _)) (gg rfl rfl (fi h2)) rfl ?_;refine wz ?_;rcases U hF with⟨h3,hF⟩|⟨h3,hF⟩;refine wz ?_;refine UZ (kV rfl rfl (lH _ _)) (gg rfl rfl (fi h3)) rfl ?_;refine wz ?_;rcases U hF with⟨h4,hF⟩|⟨h4,hF⟩;refine wz ?_;refine UZ (kV rfl rfl (u6 _ _)) (gg rfl rfl (fi h4)) rfl ?_;refine wz ?_;cases hF;exact ae () [2,3,4,1,0];refine wz ?_;cases hF;exact ae () [2,3,4,1,0];refine wz ?_;cases hF;exact ae () [2,3,4,1,0];refine wz ?_;cases hF;exact ae () [2,3,4,1,0];refine wz ?_;cases hF;exact ae () [2,3,4,1,0];rintro⟨⟩;refine UR ?_;rcases U hF with⟨h5,hF⟩|⟨h5,hF⟩;refine au ?_;cases hF;exact ae () [];refine U8 rfl h5<|UJ ?_;obtain⟨v3,h15,hF⟩:=J hF;refine ct (fun v3 (_:VC)=>⟨.normal,((0,tY b1 o1 l1 c0)::(3,ptr b0 0)::(5,bg v1)::(7,ptr b2 0)::(8,ptr b3 0)::(9,.int .i64 (UE (y0-y1)))::sO b1 o1 l1 c0 v0 [(91,.bool v3)]),[IG b1 o1 l1,IQ b1 o1 c0 l1,gD b0 x5 x6,gD b2 x3 x4,gD b3 x10 x11]⟩) v3 ?_ ?_;clear hF;revert v3;intro r hF;refine wz ?_;rcases U hF with⟨h16,hF⟩|⟨h16,hF⟩;refine wz ?_;rcases U hF with⟨h17,hF⟩|⟨h17,hF⟩;refine wz ?_;cases hF;exact ae () (Vg 0 5);refine wz ?_;cases hF;exact ae () (Vg 0 5);refine wz ?_;cases hF;exact ae () (Vg 0 5);rintro⟨⟩;refine UR ?_;rcases U hF with⟨h6,hF⟩|⟨h6,hF⟩;refine wz ?_;cases hF;exact ae () [1,2];refine U8 rfl h6<|UJ ?_;obtain⟨v4,h18,hF⟩:=J hF;refine ct (fun v4 (_:VC)=>⟨.normal,((0,tY b1 o1 l1 c0)::(3,ptr b0 0)::(5,bg v1)::sO b1 o1 l1 c0 v0 [(110,.bool v4)]),[IG b1 o1 l1,IQ b1 o1 c0 l1,gD b0 x5 x6]⟩) v4 ?_ ?_;clear hF;revert v4;intro r hF;refine wz ?_;rcases U hF with⟨h19,hF⟩|⟨h19,hF⟩;refine wz ?_;rcases U hF with⟨h20,hF⟩|⟨h20,hF⟩;refine wz ?_;cases hF;exact ae () [0,1,2];refine wz ?_;cases hF;exact ae () [0,1,2];refine wz ?_;cases hF;exact ae () [0,1,2];rintro⟨⟩;refine UR ?_;rcases U hF with⟨h21,hF⟩|⟨h21,hF⟩;refine wz ?_;cases hF;exact ae () [1,2];refine wz ?_;cases hF;exact ae () [1,2];rcases r0 with _|v6;rintro⟨⟩;refine At.tr ?_;cases hF;exact ae () [];rintro⟨⟩;refine au ?_;cases hF;exact ae () [0,1];refine wz ?_;cases hF;exact ae () [];rcases r1 with _|v5;rintro⟨⟩;refine wz ?_;cases hF;exact ar () [];rintro⟨⟩;refine au ?_;rcases U hF with⟨h22,hF⟩|⟨h22,hF⟩;refine au ?_;cases hF;exact ar () [];refine gB ?_;cases hF;exact ar () []
def AZ{n l3 l2 l4 l1 x3 x4 x10 a0 c1 a1 c2}{r0:Uy}{e1:Uw}{a3 c3 a2 c0}{r1:Uy}{e0:Uw}{r}(hF:I8 n l3 l2 l4 l1 x3 x4 x10=some r)(m)(h2:kq m a0 c1 l3)(h3:nY m a1 c2 l2 e1)(h4:(cp aj r0 l2 e1).P m)(h5:AR m a3 c3 l4)(h6:Rd m a2 c0 1 l1.length e0)(h7:(cp bl r1 l1 e0).P m):
 aK (Vq p q) 33 [lO a0 l3 c1 a1 l2 c2,lO a3 l4 c3 a2 l1 c0,mI x3 x4,bg x10] m (Vm m (.bool r)):=by
 unfold I8 at hF;refine cw Try.func33 (Hp.nV (U2 (U2 (Hp.nV (U2 (U2 (UU m) eo h2) (fg eo) h3) (fg (fg eo)) h4) (Qm (fg (fg eo))) h5) (fg (Qm (fg (fg eo)))) h6) (fg (fg (Qm (fg (fg eo))))) h7) ?_;refine wz ?_;refine wb fun b0=>?_;refine wb fun b3=>?_;refine wb fun b1=>?_;refine wb fun b2=>?_;refine wz ?_;refine UJ<|U6 (prs:=[(4,5)]) (by kernel_rfl)<|UL (aI (k:=3) fB rfl rfl rfl) rfl<|UL (aG (r:=ptr b3 0) rfl (eA _ _)) rfl<|UL (aI (k:=2) k7 rfl rfl rfl) rfl<|UL (aI (k:=0) bZ rfl rfl rfl) rfl ?_
 obtain⟨l5,h8,hF⟩:=J hF;refine nc gn (fun m hm=>qw h8 m (hm.q 9) (hm.q 8) (hm.dp (q:=7) rfl) (hm.q 6)) ?_;rintro⟨a4,n0⟩;refine Wn.len (k:=0) (xs:=l5) rfl ?_;rintro rfl;refine UL (aI (k:=2) cX rfl rfl rfl) rfl ?_;obtain⟨r4,h9,hF⟩:=J hF;refine nc gn (fun m hm=>BQ h9 m (hm.rd (k:=0) rfl (.sl _ _ _ _))) ?_;rintro⟨⟩;refine UL (aJ rfl rfl (iN _ _ _)) rfl<|UL (aV rfl) rfl ?_;rcases U hF with⟨h0,hF⟩|⟨h0,hF⟩;refine Va (aG (r:=ptr b3 1) rfl (fe _ _)) (gg rfl rfl (fi h0)) rfl<|Va (aI (k:=3) mB rfl rfl rfl) (gg rfl rfl (fi h0)) rfl<|Va (j9 rfl rfl) (gg rfl rfl (fi h0)) rfl ?_;obtain⟨v0,h10,hF⟩:=J hF;refine Wn.x (mC (α:=VC) (V:=fun g=>(fun(r:Int) (g:VC)=>match r,g with|v0,_=>(.int .i64 v0:Uz)) v0 g) (N:=fun g=>(fun(r:Int) (g:VC)=>match r,g with|v0,_=>([]:VB Pc)) v0 g) rfl rfl (fun m hm=>?_)) (gg rfl rfl (fi h0)) rfl ?_
 clear hF;revert v0;intro r hF;refine aS (N:=19) (rs:=[.tmp 4]) rfl Try.func34 rfl rfl rfl hm ?_;refine au ?_;refine UN ?_;obtain⟨r3,h1,hF⟩:=J hF;refine ct (fun(r:Int⊕VC) (g:VC)=>match r,g with|.inl v2,_=>⟨.ret,[(4,bg v2)],[]⟩|.inr _,_=>⟨(.exit 0),[],[]⟩) r3 ?_ ?_
 refine lo h1 () [4,10,9,8,1,2,6,5] (fun v3 _=>⟨.normal,((1,.func (.func 54) #[] #[ptr b0 0,ptr b2 0,ptr b1 0])::AJ a2 l1 c0 v3 []),(fR b0 a0 l3 c1 a1 l2 c2 e1 aj r0 [eJ b2 x10,gD b1 x3 x4,ju a2 c0 l1 e0,fT bl r1 l1 e0])⟩) ?_;clear hF h1;rintro v3 ⟨⟩ r hF;unfold zV at hF;refine wz ?_;refine UJ ?_;rcases U hF with⟨h11,hF⟩|⟨h11,hF⟩;refine au ?_;obtain⟨h12,hF⟩:=cW hF;refine U0 (k:=6) rfl (aU h12) ?_;rintro b4 o1 rfl;refine wz ?_;obtain⟨l7,h13,hF⟩:=J hF;refine wl 1 0 8 0 h13 ?_;rintro⟨a5,c4⟩;refine au ?_;obtain⟨v1,h14,hF⟩:=J hF;refine wq (fun v1 (_:VC)=>(.bool v1,(fR b0 a0 l3 c1 a1 l2 c2 e1 aj r0 (eJ b2 x10::gD b1 x3 x4::ki b4 o1 l1 e0 bl r1 c0 [])))) v1 (fun m hm=>?_) ?_;clear hF;revert v1;intro r hF;refine aS (N:=13) (rs:=[.tmp 5]) rfl Try.func54 rfl rfl rfl hm ?_;refine wz ?_;refine UJ<|U6 (prs:=[(3,4)]) (by kernel_rfl)<|UL (aI (k:=2) fB rfl rfl rfl) rfl<|UL (aV rfl) rfl<|UL (aI (k:=6) bZ rfl rfl rfl) rfl ?_
 obtain⟨l6,h15,hF⟩:=J hF;refine nc gn (fun m hm=>qw h15 m (hm.q 3) (hm.q 4) (hm.dp (q:=5) rfl) (hm.q 0)) ?_;rintro⟨a6,n1⟩;refine Wn.len (k:=0) (xs:=l6) rfl ?_;rintro rfl;refine UL (aI (k:=8) cX rfl rfl rfl) rfl ?_;obtain⟨r5,h16,hF⟩:=J hF;refine nc gn (fun m hm=>BQ h16 m (hm.rd (k:=0) rfl (.sl _ _ _ _))) ?_;rintro⟨⟩;refine UL (aJ rfl rfl (Bc _ _)) rfl<|UL (bG rfl) rfl<|U1 (fun m hm=>dq.all rfl) ?_;refine au ?_;cases hF;exact ar () [3,4,5,6,7,8,2,10,9];rintro⟨⟩;refine wz ?_;rcases U hF with⟨h17,hF⟩|⟨h17,hF⟩;refine au ?_;cases hF;exact ae () [];refine au ?_;cases hF;exact ae () [0,1,2,3,4,5,8,7];refine wz ?_;cases hF;exact ae () [];rcases r3 with v2|_;rintro⟨⟩;refine wz ?_;obtain rfl:=Sb hF;exact ar () [];rintro⟨⟩;refine gB ?_;cases hF;exact ar () [];rintro⟨⟩;refine Va (aJ rfl rfl (hY _ _ _)) (gg rfl rfl (fi h0)) rfl<|UL (zj rfl h0 rfl) rfl<|UL (bG rfl) rfl<|U1 (fun m hm=>dq.all rfl) ?_;refine au ?_;cases hF;exact ar () [];refine U7 (gg rfl rfl (wZ h0)) rfl<|U7 (gg rfl rfl (wZ h0)) rfl<|U7 (gg rfl rfl (wZ h0)) rfl<|U7 (gg rfl rfl (wZ h0)) rfl<|U7 (gg rfl rfl (wZ h0)) rfl<|UL (zh rfl h0 rfl) rfl<|UL (bG rfl) rfl<|U1 (fun m hm=>dq.all rfl) ?_;refine au ?_;cases hF;exact ar () []
end
end Go.Proofs.Ytmndpgfbkicndaa
