/- A part of the proof. -/
import Derived.Test.YtmndpgfbkicndaaCe3
import Derived.Shelf.GgSortFunc.RowK
import Derived.Shelf.SlSortCmp.WholeK
import Derived.Shelf.SlGeneric
import Derived.Ground.SlsfProg
import Derived.Test.YtmndpgfbkicndaaProg
import Derived.Shelf.SlSortCmp.NoneTotal
import Derived.Shelf.SlicesE.Delete
import Derived.Ground.SlgnProg
import Derived.Lib.Overlaps
import Derived.Ground.Names2Prog
import Derived.Shelf.Spec.SlicesInsert
import Derived.Shelf.Spec.SlicesInsertGrow
set_option linter.all false
section
open Go Go.Ab Go.Ab.W
abbrev Yp(m:Yq)(v0:Value):Value->Yq->Prop:=fun v m'=>∃x:YC,v=v0/\Hp m m' []
end
namespace Go.Proofs.Ytmndpgfbkicndaa
open Go Go.Ab Go.Ab.W
def QA(n:Nat)(x1:Int)(x2:Int):YA Bool :=
br (decide (mi x1 x2 < -1000000)) (
some true) (
some (decide (1000000<ma x1 x2)))
def Bf(n:Nat)(l1:YB (Int)):(Int×Int)->YA ((Int×Int)⊕Int):=fun(v14,v15) =>
br (decide (v15<(l1.length:Int))) (
gd (cM v15 l1.length) (
ob (l1[v15.toNat]?) fun x25 =>
some (.inl (mi v14 x25,XN (v15+1))))) (
some (.inr v14))
def Qp(n:Nat)(l1:YB (Int)):YA Int :=
br (decide ((l1.length:Int)<1)) (
none) (
gd (cM 0 l1.length) (
ob (l1[XO]?) fun x10 =>
ob (
bL (Bf n l1) n (x10,1)) fun v22 =>
some v22))
def Au(n:Nat)(l1:YB (Int)):(Int×Int)->YA ((Int×Int)⊕Int):=fun(v14,v15) =>
br (decide (v15<(l1.length:Int))) (
gd (cM v15 l1.length) (
ob (l1[v15.toNat]?) fun x25 =>
some (.inl (ma v14 x25,XN (v15+1))))) (
some (.inr v14))
def Fo(n:Nat)(l1:YB (Int)):YA Int :=
br (decide ((l1.length:Int)<1)) (
none) (
gd (cM 0 l1.length) (
ob (l1[XO]?) fun x10 =>
ob (
bL (Au n l1) n (x10,1)) fun v22 =>
some v22))
def B5(n:Nat)(l12:YB (Int))(l1:XD)(x16:Int):(XD×Int)->YA ((XD×Int)⊕XD):=fun(l36,v38) =>
br (decide (v38<(l12.length:Int))) (
gd (cM v38 l12.length) (
ob (l12[v38.toNat]?) fun x64 =>
gd (cM x64 l1.length) (
ob (l1[x64.toNat]?) fun(x69,x70) =>
gd (cM x64 l1.length) (
gd (lim (l36++[(XN (x16*x69),XN (x16*x70))]).length) (
some (.inl ((l36++[(XN (x16*x69),XN (x16*x70))]),XN (v38+1)))))))) (
some (.inr l36))
def KN(n:Nat)(l1:XD)(l5:XB)(l12:YB (Int))(x16:Int):YA XD :=
ob (
bL (B5 n l12 l1 x16) n (([]:XD),0)) fun l58 =>
some l58
def KS(n:Nat)(x1:Int)(x2:Int):YA Bool :=
ob (some (ma (ma (ma x1 (XN (0-x1))) x2) (XN (0-x2)))) fun y4 =>
br (decide (1000000<y4)) (
some true) (
some (decide (mi x1 x2 < -1000000)))
def Sd(n:Nat)(x1:Int):YA Bool :=
some (!decide (x1=x1))
def Px(n:Nat)(x1:Int)(x2:Int):YA Int :=
ob (Sd n x1) fun r4 =>
ob (Sd n x2) fun r6 =>
br (r4) (
br (r6) (
some 0) (
some (-1))) (
br (r6) (
some 1) (
br (decide (x1<x2)) (
some (-1)) (
br (decide (x2<x1)) (
some 1) (
some 0))))
def KH(n:Nat)(x1:Int)(x2:Int)(x3:Int)(x4:Int)(x5:Int)(x6:Int):YA Int :=
ob (some (XN ((XN (x3-x1))*(XN (x6-x2))))) fun y10 =>
ob (some (XN ((XN (x4-x2))*(XN (x5-x1))))) fun y12 =>
ob (Px n y10 y12) fun r15 =>
some r15
def sM(n:Nat)(l1:YB (Int)):Int->YA (Int⊕Int⊕YC):=fun v6 =>
br (decide (v6<(l1.length:Int))) (
gd (cM v6 l1.length) (
ob (l1[v6.toNat]?) fun x20 =>
br (!decide (x20=0)) (
some (.inr (.inl x20))) (
some (.inl (XN (v6+1)))))) (
some (.inr (.inr ())))
def Rz(n:Nat)(l1:YB (Int)):YA Int :=
ob (α:=(Int)⊕YC) (
bL (sM n l1) n 0) fun r24=>match r24 with
| .inl v15 =>
some v15
| .inr _ =>
some 0
def K7(n:Nat)(x1:Int)(x2:Int)(x3:Int)(x4:Int):YA Int :=
ob (Px n x1 x3) fun r8 =>
ob (Px n x2 x4) fun r10 =>
ob (Rz n ([r8,r10])) fun r13 =>
some r13
def Qy(n:Nat)(x1:Int)(x2:Int)(x3:Int)(x4:Int)(x5:Int)(x6:Int)(x7:Int):YA Bool :=
ob (KH n x2 x3 x4 x5 x6 x7) fun r11 =>
br (!decide (r11=0)) (
some false) (
ob (
ob (K7 n x2 x3 x4 x5) fun r23 =>
br (decide (0<r23)) (
some (x4,x5,x2,x3)) (
some (x2,x3,x4,x5))) fun(v18,v19,v20,v21) =>
ob (K7 n v18 v19 x6 x7) fun r28 =>
br (decide (r28<=0)) (
ob (K7 n x6 x7 v20 v21) fun r31 =>
some (decide (r31<=0))) (
some false))
def tj(n:Nat)(x2:Int)(x10:Int)(x11:Int)(x5:Int)(x7:Int)(x8:Int)(x9:Int)(x12:Int)(x1:Int)(x6:Int):(YB ((Int×Int)×Bool)×Int)->YA ((YB ((Int×Int)×Bool)×Int) ⊕(YB ((Int×Int)×Bool))):=fun(l1,v0) =>
br (decide (v0<4)) (
ob (
gd (cM v0 4) (
ob ([(x2,x10),(x11,x5),(x7,x8),(x9,x12)][v0.toNat]?) fun(x3,x4) =>
ob (
ob (Qy n x1 x2 x10 x11 x5 x3 x4) fun r0 =>
br (r0) (
ob (Qy n x6 x7 x8 x9 x12 x3 x4) fun r1 =>
some r1) (
some false)) fun v1 =>
br (v1) (
some (fX l1 (x3,x4) true)) (
some l1))) fun l2 =>
some (.inl (l2,XN (v0+1)))) (
some (.inr l1))
def Qs(n:Nat)(x1:Int)(x2:Int)(x3:Int)(x4:Int)(x5:Int)(x6:Int)(x7:Int)(x8:Int)(x9:Int)(x10:Int):YA Int :=
ob (KH n x2 x3 x4 x5 x7 x8) fun r0 =>
ob (KH n x2 x3 x4 x5 x9 x10) fun r1 =>
ob (KH n x7 x8 x9 x10 x2 x3) fun r3 =>
ob (KH n x7 x8 x9 x10 x4 x5) fun r4 =>
ob (
bL (tj n x2 x3 x4 x5 x7 x8 x9 x10 x1 x6) n (([]:YB ((Int×Int)×Bool)),0)) fun l1 =>
ob (some (l1.length)) fun y0 =>
br (decide (1<(y0:Int))) (
some 3) (
ob (some (l1.length)) fun y1 =>
br (decide ((y1:Int)=1)) (
some 1) (
ob (
br (decide (XN (r0*r1)<0)) (
some (decide (XN (r3*r4)<0))) (
some false)) fun v0 =>
br (v0) (
some 2) (
some 0)))
def A4(n:Nat)(l1:XD):Int->YA (Int⊕Int⊕YC):=fun v49 =>
br (decide (v49<(l1.length:Int))) (
gd (cM v49 l1.length) (
ob (l1[v49.toNat]?) fun(x66,x67) =>
ob (KS n x66 x67) fun r70 =>
br (r70) (
some (.inr (.inl v49))) (
some (.inl (XN (v49+1)))))) (
some (.inr (.inr ())))
def AF(n:Nat)(l1:XD):Int->YA (Int⊕Int⊕YC):=fun v0 =>
br (decide (v0<(l1.length:Int))) (
gd (cM v0 l1.length) (
ob (l1[v0.toNat]?) fun(x3,x4) =>
gd (decide ((l1.length:Int)≠0)) (
gd (cM (Int.tmod (XN (v0+1)) (l1.length:Int)) l1.length) (
ob (l1[(Int.tmod (XN (v0+1)) (l1.length:Int)).toNat]?) fun(x10,x11) =>
ob (α:=(YC)⊕YC) (
br ((decide (x3=x10)&&decide (x4=x11))) (
some (.inl ())) (
some (.inr ()))) fun r0=>match r0 with
| .inl _ =>
some (.inr (.inl v0))
| .inr _ =>
some (.inl (XN (v0+1))))))) (
some (.inr (.inr ())))
def AV(n:Nat)(l1:XD):Int->YA (Int⊕Int⊕YC):=fun v0 =>
br (decide (v0<(l1.length:Int))) (
gd (cM v0 l1.length) (
ob (l1[v0.toNat]?) fun(x3,x4) =>
gd (decide ((l1.length:Int)≠0)) (
gd (cM (Int.tmod (XN (v0+1)) (l1.length:Int)) l1.length) (
ob (l1[(Int.tmod (XN (v0+1)) (l1.length:Int)).toNat]?) fun(x10,x11) =>
ob (α:=(YC)⊕YC) (
gd (decide ((l1.length:Int)≠0)) (
ob (some (Int.tmod (XN ((XN (v0+(l1.length:Int)))-1)) (l1.length:Int))) fun y0 =>
gd (cM y0 l1.length) (
ob (l1[y0.toNat]?) fun(x12,x13) =>
ob (
ob (KH n x12 x13 x3 x4 x10 x11) fun r0 =>
br (decide (r0=0)) (
ob (some (XN ((XN (x3-x12))*(XN (x10-x3))))) fun y1 =>
ob (some (XN ((XN (x4-x13))*(XN (x11-x4))))) fun y2 =>
some (decide (XN (y1+y2)<0))) (
some false)) fun v1 =>
br (v1) (
some (.inl ())) (
some (.inr ()))))) fun r1=>match r1 with
| .inl _ =>
some (.inr (.inl v0))
| .inr _ =>
some (.inl (XN (v0+1))))))) (
some (.inr (.inr ())))
def Bk(n:Nat)(l1:XD)(v1:Int)(x3:Int)(x4:Int)(x10:Int)(x11:Int):Int->YA (Int⊕YC⊕YC⊕YC):=fun v0 =>
br (decide (v0<(l1.length:Int))) (
gd (cM v0 l1.length) (
ob (l1[v0.toNat]?) fun(x12,x13) =>
gd (decide ((l1.length:Int)≠0)) (
gd (cM (Int.tmod (XN (v0+1)) (l1.length:Int)) l1.length) (
ob (l1[(Int.tmod (XN (v0+1)) (l1.length:Int)).toNat]?) fun(x14,x15) =>
ob (α:=(YC)⊕YC⊕YC) (
br (decide (XN (v1-1)<=v0)) (
some (.inl ())) (
ob (
br (decide (v0=0)) (
some (decide (v1=XN ((l1.length:Int)-1)))) (
some false)) fun v2 =>
br (v2) (
some (.inr (.inl ()))) (
ob (Qs n v1 x3 x4 x10 x11 v0 x12 x13 x14 x15) fun r0 =>
br (!decide (r0=0)) (
some (.inr (.inr ()))) (
some (.inr (.inl ())))))) fun r1=>match r1 with
| .inl _ =>
some (.inr (.inl ()))
| .inr (.inl _) =>
some (.inl (XN (v0+1)))
| .inr (.inr _) =>
some (.inr (.inr (.inl ()))))))) (
some (.inr (.inr (.inr ()))))
def BG(n:Nat)(l1:XD):Int->YA (Int⊕Int⊕YC):=fun v0 =>
br (decide (v0<(l1.length:Int))) (
gd (cM v0 l1.length) (
ob (l1[v0.toNat]?) fun(x3,x4) =>
gd (decide ((l1.length:Int)≠0)) (
gd (cM (Int.tmod (XN (v0+1)) (l1.length:Int)) l1.length) (
ob (l1[(Int.tmod (XN (v0+1)) (l1.length:Int)).toNat]?) fun(x10,x11) =>
ob (α:=(YC)⊕YC) (
ob (
some ()) fun _ =>
ob (α:=(YC)⊕YC⊕YC) (
ob (α:=(YC)⊕YC⊕YC) (
bL (Bk n l1 v0 x3 x4 x10 x11) n 0) fun r0=>match r0 with
| .inl _ =>
some (.inl ())
| .inr (.inl _) =>
some (.inr (.inl ()))
| .inr (.inr _) =>
some (.inr (.inr ()))) fun r1=>match r1 with
| .inl _ =>
some (.inl ())
| .inr (.inl _) =>
some (.inr ())
| .inr (.inr _) =>
some (.inl ())) fun r3=>match r3 with
| .inl _ =>
some (.inl (XN (v0+1)))
| .inr _ =>
some (.inr (.inl v0)))))) (
some (.inr (.inr ())))
def Rt(n:Nat)(l1:XD):YA (Int×Int) :=
ob (
br (decide ((l1.length:Int)<3)) (
some true) (
some (decide (40<(l1.length:Int))))) fun v1 =>
br (v1) (
some (1,0)) (
ob (
ob (α:=(Int)⊕YC) (
bL (A4 n l1) n 0) fun r0=>match r0 with
| .inl v2 =>
some v2
| .inr _ =>
some (-1)) fun v0 =>
br (decide (0<=v0)) (
some (2,v0)) (
ob (
some ()) fun _ =>
ob (α:=(Int)⊕YC) (
ob (α:=(Int)⊕YC) (
bL (AF n l1) n 0) fun r1=>match r1 with
| .inl v3 =>
some (.inl v3)
| .inr _ =>
some (.inr ())) fun r3=>match r3 with
| .inl v4 =>
some (3,v4)
| .inr _ =>
ob (
some ()) fun _ =>
ob (α:=(Int)⊕YC) (
ob (α:=(Int)⊕YC) (
bL (AV n l1) n 0) fun r4=>match r4 with
| .inl v5 =>
some (.inl v5)
| .inr _ =>
some (.inr ())) fun r5=>match r5 with
| .inl v6 =>
some (4,v6)
| .inr _ =>
ob (
some ()) fun _ =>
ob (α:=(Int)⊕YC) (
ob (α:=(Int)⊕YC) (
bL (BG n l1) n 0) fun r6=>match r6 with
| .inl v7 =>
some (.inl v7)
| .inr _ =>
some (.inr ())) fun r7=>match r7 with
| .inl v8 =>
some (5,v8)
| .inr _ =>
some (0,0)))
def Q2(n:Nat)(l1:XD):YA Int :=
ob (Rt n l1) fun(r6,r7) =>
br (decide (0<r6)) (
some 140) (
some 0)
def xS(n:Nat)(l1:XD):(Int×Int)->YA ((Int×Int)⊕Int):=fun(v7,v8) =>
br (decide (v8<(l1.length:Int))) (
gd (cM v8 l1.length) (
ob (l1[v8.toNat]?) fun(x32,x33) =>
gd (decide ((l1.length:Int)≠0)) (
gd (cM (Int.tmod (XN (v8+1)) (l1.length:Int)) l1.length) (
ob (l1[(Int.tmod (XN (v8+1)) (l1.length:Int)).toNat]?) fun(x38,x39) =>
ob (some (XN ((XN (x32*x39))-(XN (x33*x38))))) fun y42 =>
some (.inl (XN (v7+y42),XN (v8+1))))))) (
some (.inr v7))
def Qu(n:Nat)(l1:XD):YA Int :=
ob (
bL (xS n l1) n (0,0)) fun v27 =>
some v27
def QV(n:Nat)(x1:Int)(x2:Int)(x3:Int)(x4:Int)(x5:Int)(x6:Int)(x7:Int)(x8:Int):YA (Int×Int) :=
ob (
ob (KS n x1 x2) fun r58 =>
br (r58) (
some true) (
ob (KS n x3 x4) fun r61 =>
br (r61) (
some true) (
ob (KS n x5 x6) fun r64 =>
br (r64) (
some true) (
ob (KS n x7 x8) fun r67 =>
br (r67) (
some true) (
br ((decide (x1=x3)&&decide (x2=x4))) (
some true) (
some (decide (x5=x7)&&decide (x6=x8)))))))) fun v56 =>
br (v56) (
some (0,2)) (
ob (Qs n 0 x1 x2 x3 x4 0 x5 x6 x7 x8) fun r74 =>
some (r74,0))
def Sc(n:Nat)(l1:XD)(l5:XB)(x12:Int)(x13:Int)(x14:Int)(x15:Int)(x16:Int)(x17:Int)(x18:Int)(x19:Int):YA Bool :=
ob (
br (decide (x12=x16)) (
br (decide (x13=x17)) (
some true) (
br (decide (x12=x17)) (
some (decide (x13=x16))) (
some false))) (
br (decide (x12=x17)) (
some (decide (x13=x16))) (
some false))) fun v39 =>
br (v39) (
some false) (
gd (cM x12 l1.length) (
ob (l1[x12.toNat]?) fun(x50,x51) =>
gd (cM x13 l1.length) (
ob (l1[x13.toNat]?) fun(x54,x55) =>
gd (cM x16 l1.length) (
ob (l1[x16.toNat]?) fun(x58,x59) =>
gd (cM x17 l1.length) (
ob (l1[x17.toNat]?) fun(x62,x63) =>
ob (QV n x50 x51 x54 x55 x58 x59 x62 x63) fun(r66,r67) =>
br (decide (r66=0)) (
some false) (
br (decide (r66=1)) (
br (!decide (x12=x16)) (
br (!decide (x12=x17)) (
br (!decide (x13=x16)) (
some (!decide (x13=x17))) (
some false)) (
some false)) (
some false)) (
some true)))))))
def vm(n:Nat)(l1:XD)(x6:Int)(x5:Int):(Int×Int)->YA ((Int×Int)⊕YC⊕Int):=fun(v1,v0) =>
br (decide (v0<(l1.length:Int))) (
ob (α:=(YC)⊕Int) (
gd (cM v0 l1.length) (
ob (l1[v0.toNat]?) fun(x10,x3) =>
gd (decide ((l1.length:Int)≠0)) (
gd (cM (Int.tmod (XN (v0+1)) (l1.length:Int)) l1.length) (
ob (l1[(Int.tmod (XN (v0+1)) (l1.length:Int)).toNat]?) fun(x11,x4) =>
ob (some (XN ((XN (x11-x10))*(XN (x6-x3))))) fun y0 =>
ob (some (XN ((XN (x4-x3))*(XN (x5-x10))))) fun y1 =>
ob (
br (decide (XN (y0-y1)=0)) (
br (decide (mi x10 x11<=x5)) (
br (decide (x5<=ma x10 x11)) (
br (decide (mi x3 x4<=x6)) (
some (decide (x6<=ma x3 x4))) (
some false)) (
some false)) (
some false)) (
some false)) fun v2 =>
br (v2) (
some (.inl ())) (
ob (
br (decide (x3<=x6)) (
br (decide (x6<x4)) (
some (decide (0<XN (y0-y1)))) (
some false)) (
some false)) fun v3 =>
br (v3) (
some (.inr (XN (v1+1)))) (
ob (
br (decide (x6<x3)) (
br (decide (x4<=x6)) (
some (decide (XN (y0-y1)<0))) (
some false)) (
some false)) fun v4 =>
br (v4) (
some (.inr (XN (v1-1)))) (
some (.inr v1)))))))) fun r0=>match r0 with
| .inl _ =>
some (.inr (.inl ()))
| .inr v5 =>
some (.inl (v5,XN (v0+1)))) (
some (.inr (.inr v1)))
def Nq(n:Nat)(l1:XD)(x5:Int)(x6:Int):YA Int :=
ob (α:=(YC)⊕Int) (
bL (vm n l1 x6 x5) n (0,0)) fun r0=>match r0 with
| .inl _ =>
some 1
| .inr v0 =>
br (decide (v0=0)) (
some 0) (
some 2)
def BO(n:Nat)(l1:XE)(l2:XD)(l3:XB)(x3:Int)(x4:Int)(x10:Int):Int->YA (Int⊕Int⊕YC):=fun v0 =>
br (decide (v0<(l1.length:Int))) (
gd (cM v0 l1.length) (
ob (l1[v0.toNat]?) fun l4 =>
ob (
ob (KN n l2 l3 l4 x3) fun l5 =>
ob (Nq n l5 x4 x10) fun r0 =>
some (!decide (r0=0))) fun v1 =>
br (v1) (
some (.inr (.inl v0))) (
some (.inl (XN (v0+1)))))) (
some (.inr (.inr ())))
def MF(n:Nat)(l1:XD)(l2:XB)(l3:YB (Int))(l4:XE)(x3:Int)(x4:Int)(x10:Int):YA Bool :=
ob (KN n l1 l2 l3 x10) fun l5 =>
ob (Nq n l5 x3 x4) fun r0 =>
br (decide (r0=2)) (
ob (
ob (α:=(Int)⊕YC) (
bL (BO n l4 l1 l2 x10 x3 x4) n 0) fun r1=>match r1 with
| .inl v0 =>
some v0
| .inr _ =>
some (-1)) fun v1 =>
some (decide (v1<0))) (
some false)
def sP(n:Nat)(l1:YB Int):(Int×YB ((Int×Int)×Bool))->YA ((Int×YB ((Int×Int)×Bool)) ⊕((YB ((Int×Int)×Bool)) ⊕(YB ((Int×Int)×Bool)))):=fun(v0,l2) =>
br (decide (v0<(l1.length:Int))) (
gd (cM v0 l1.length) (
ob (l1[v0.toNat]?) fun x3 =>
gd (decide ((l1.length:Int)≠0)) (
gd (cM (Int.tmod (XN (v0+1)) (l1.length:Int)) l1.length) (
ob (l1[(Int.tmod (XN (v0+1)) (l1.length:Int)).toNat]?) fun x4 =>
ob (α:=(YC)⊕YC) (
ob (some ((bR l2 (x3,x4)).getD false)) fun y0 =>
br (y0) (
some (.inl ())) (
some (.inr ()))) fun r0=>match r0 with
| .inl _ =>
some (.inr (.inl l2))
| .inr _ =>
some (.inl (XN (v0+1),(fX l2 (x3,x4) true))))))) (
some (.inr (.inr l2)))
def sK(n:Nat)(l1:XE):(Int×YB ((Int×Int)×Bool))->YA ((Int×YB ((Int×Int)×Bool)) ⊕((YB ((Int×Int)×Bool)) ⊕(YB ((Int×Int)×Bool)))):=fun(v0,l2) =>
br (decide (v0<(l1.length:Int))) (
gd (cM v0 l1.length) (
ob (l1[v0.toNat]?) fun l3 =>
ob (α:=(YB ((Int×Int)×Bool)) ⊕(YB ((Int×Int)×Bool))) (
bL (sP n l3) n (0,l2)) fun r0=>match r0 with
| .inl l4 =>
some (.inr (.inl l4))
| .inr l5 =>
some (.inl (XN (v0+1),l5)))) (
some (.inr (.inr l2)))
def sL(n:Nat)(l1:XB):(Int×YB ((Int×Int)×Bool))->YA ((Int×YB ((Int×Int)×Bool)) ⊕((Int×YB ((Int×Int)×Bool)) ⊕(YB ((Int×Int)×Bool)))):=fun(v0,l2) =>
br (decide (v0<(l1.length:Int))) (
gd (cM v0 l1.length) (
ob (l1[v0.toNat]?) fun(l3,l4) =>
ob (C6 n l3 l4) fun l5 =>
ob (α:=(YB ((Int×Int)×Bool)) ⊕(YB ((Int×Int)×Bool))) (
bL (sK n l5) n (0,l2)) fun r0=>match r0 with
| .inl l6 =>
some (.inr (.inl (v0,l6)))
| .inr l7 =>
some (.inl (XN (v0+1),l7)))) (
some (.inr (.inr l2)))
def wg(n:Nat)(l1:YB (XC))(l2:XD)(l3:XB)(x3:Int)(x4:Int)(v1:Int)(v2:Int):Int->YA (Int⊕Int⊕YC):=fun v0 =>
br (decide (v0<(l1.length:Int))) (
gd (cM v0 l1.length) (
ob (l1[v0.toNat]?) fun(x10,x11,x12,x13) =>
ob (
ob (Sc n l2 l3 x3 x4 v1 v2 x10 x11 x12 x13) fun r0 =>
some r0) fun v3 =>
br (v3) (
some (.inr (.inl v0))) (
some (.inl (XN (v0+1)))))) (
some (.inr (.inr ())))
def tp(n:Nat)(l1:YB Int)(l3:XD)(l4:XB)(v1:Int)(v2:Int):(Int×YB (XC))->YA ((Int×YB (XC)) ⊕((YB (XC)) ⊕(YB (XC)))):=fun(v0,l2) =>
br (decide (v0<(l1.length:Int))) (
gd (cM v0 l1.length) (
ob (l1[v0.toNat]?) fun x3 =>
gd (decide ((l1.length:Int)≠0)) (
gd (cM (Int.tmod (XN (v0+1)) (l1.length:Int)) l1.length) (
ob (l1[(Int.tmod (XN (v0+1)) (l1.length:Int)).toNat]?) fun x4 =>
ob (α:=(YC) ⊕(YB (XC))) (
ob (
ob (α:=(Int)⊕YC) (
bL (wg n l2 l3 l4 x3 x4 v1 v2) n 0) fun r0=>match r0 with
| .inl v3 =>
some v3
| .inr _ =>
some (-1)) fun v4 =>
br (decide (0<=v4)) (
some (.inl ())) (
gd (lim (l2++[(x3,x4,v1,v2)]).length) (
some (.inr (l2++[(x3,x4,v1,v2)]))))) fun r1=>match r1 with
| .inl _ =>
some (.inr (.inl l2))
| .inr l5 =>
some (.inl (XN (v0+1),l5)))))) (
some (.inr (.inr l2)))
def sV(n:Nat)(l1:XE)(l3:XD)(l4:XB)(v1:Int):(Int×YB (XC))->YA ((Int×YB (XC)) ⊕((YB (XC)) ⊕(YB (XC)))):=fun(v0,l2) =>
br (decide (v0<(l1.length:Int))) (
gd (cM v0 l1.length) (
ob (l1[v0.toNat]?) fun l5 =>
ob (α:=(YB (XC)) ⊕(YB (XC))) (
bL (tp n l5 l3 l4 v1 v0) n (0,l2)) fun r0=>match r0 with
| .inl l6 =>
some (.inr (.inl l6))
| .inr l7 =>
some (.inl (XN (v0+1),l7)))) (
some (.inr (.inr l2)))
def sX(n:Nat)(l1:XB)(l3:XD):(Int×YB (XC))->YA ((Int×YB (XC)) ⊕((Int×YB (XC)) ⊕(YB (XC)))):=fun(v0,l2) =>
br (decide (v0<(l1.length:Int))) (
gd (cM v0 l1.length) (
ob (l1[v0.toNat]?) fun(l4,l5) =>
ob (C6 n l4 l5) fun l6 =>
ob (α:=(YB (XC)) ⊕(YB (XC))) (
bL (sV n l6 l3 l1 v0) n (0,l2)) fun r0=>match r0 with
| .inl l7 =>
some (.inr (.inl (v0,l7)))
| .inr l8 =>
some (.inl (XN (v0+1),l8)))) (
some (.inr (.inr l2)))
def td(n:Nat)(l1:YB Int)(v1:Int)(v2:Int)(l3:XB)(l4:XE)(l2:XD)(l5:YB Int):Int->YA (Int⊕YC⊕YC):=fun v0 =>
br (decide (v0<(l1.length:Int))) (
gd (cM v0 l1.length) (
ob (l1[v0.toNat]?) fun x3 =>
gd (decide ((l1.length:Int)≠0)) (
gd (cM (Int.tmod (XN (v0+1)) (l1.length:Int)) l1.length) (
ob (l1[(Int.tmod (XN (v0+1)) (l1.length:Int)).toNat]?) fun x4 =>
ob (α:=(YC)⊕YC) (
br (decide (v1=0)) (
some (.inl ())) (
gd (cM v2 l3.length) (
ob (SM n l4) fun _ =>
ob (Q5 n l4 (XN (v1-1)) v1) fun l6 =>
ob (
gd (cM x3 l2.length) (
ob (l2[x3.toNat]?) fun(x10,x11) =>
gd (cM x4 l2.length) (
ob (l2[x4.toNat]?) fun(x12,x13) =>
some (XN (x10+x12),XN (x11+x13))))) fun(v3,v4) =>
ob (MF n l2 l3 l5 l6 v3 v4 2) fun r0 =>
br (!r0) (
some (.inr ())) (
some (.inl ()))))) fun r1=>match r1 with
| .inl _ =>
some (.inl (XN (v0+1)))
| .inr _ =>
some (.inr (.inl ())))))) (
some (.inr (.inr ())))
def s8(n:Nat)(l1:XE)(v1:Int)(l2:XB)(l3:XE)(l4:XD)(l5:YB Int):Int->YA (Int⊕YC⊕YC):=fun v0 =>
br (decide (v0<(l1.length:Int))) (
gd (cM v0 l1.length) (
ob (l1[v0.toNat]?) fun l6 =>
ob (α:=(YC)⊕YC) (
bL (td n l6 v0 v1 l2 l3 l4 l5) n 0) fun r0=>match r0 with
| .inl _ =>
some (.inr (.inl ()))
| .inr _ =>
some (.inl (XN (v0+1))))) (
some (.inr (.inr ())))
def nB(n:Nat)(l1:XB)(l4:XD):Int->YA (Int⊕Int⊕YC):=fun v0 =>
br (decide (v0<(l1.length:Int))) (
gd (cM v0 l1.length) (
ob (l1[v0.toNat]?) fun(l2,l3) =>
ob (C6 n l2 l3) fun l5 =>
ob (α:=(YC)⊕YC) (
bL (s8 n l5 v0 l1 l3 l4 l2) n 0) fun r0=>match r0 with
| .inl _ =>
some (.inr (.inl v0))
| .inr _ =>
some (.inl (XN (v0+1))))) (
some (.inr (.inr ())))
def ve(n:Nat)(l2:XB)(v1:Int)(x3:Int)(l1:XD)(x4:Int):Int->YA (Int⊕YC⊕YC):=fun v0 =>
br (decide (v0<(l2.length:Int))) (
gd (cM v0 l2.length) (
ob (l2[v0.toNat]?) fun(l3,l4) =>
ob (
br (!decide (v0=v1)) (
ob (
gd (cM x3 l1.length) (
ob (l1[x3.toNat]?) fun(x10,x11) =>
gd (cM x4 l1.length) (
ob (l1[x4.toNat]?) fun(x12,x13) =>
some (XN (x10+x12),XN (x11+x13))))) fun(v2,v3) =>
ob (MF n l1 l2 l3 l4 v2 v3 2) fun r0 =>
some r0) (
some false)) fun v4 =>
br (v4) (
some (.inr (.inl ()))) (
some (.inl (XN (v0+1)))))) (
some (.inr (.inr ())))
def oB(n:Nat)(l1:YB Int)(l2:XB)(v1:Int)(l3:XD):Int->YA (Int⊕YC⊕YC):=fun v0 =>
br (decide (v0<(l1.length:Int))) (
gd (cM v0 l1.length) (
ob (l1[v0.toNat]?) fun x3 =>
gd (decide ((l1.length:Int)≠0)) (
gd (cM (Int.tmod (XN (v0+1)) (l1.length:Int)) l1.length) (
ob (l1[(Int.tmod (XN (v0+1)) (l1.length:Int)).toNat]?) fun x4 =>
ob (α:=(YC)⊕YC) (
ob (α:=(YC)⊕YC) (
bL (ve n l2 v1 x3 l3 x4) n 0) fun r0=>match r0 with
| .inl _ =>
some (.inl ())
| .inr _ =>
some (.inr ())) fun r1=>match r1 with
| .inl _ =>
some (.inr (.inl ()))
| .inr _ =>
some (.inl (XN (v0+1))))))) (
some (.inr (.inr ())))
def nO(n:Nat)(l1:XE)(l2:XB)(v1:Int)(l3:XD):Int->YA (Int⊕YC⊕YC):=fun v0 =>
br (decide (v0<(l1.length:Int))) (
gd (cM v0 l1.length) (
ob (l1[v0.toNat]?) fun l4 =>
ob (α:=(YC)⊕YC) (
bL (oB n l4 l2 v1 l3) n 0) fun r0=>match r0 with
| .inl _ =>
some (.inr (.inl ()))
| .inr _ =>
some (.inl (XN (v0+1))))) (
some (.inr (.inr ())))
def om(n:Nat)(l1:XB)(l2:XD):Int->YA (Int⊕Int⊕YC):=fun v0 =>
br (decide (v0<(l1.length:Int))) (
gd (cM v0 l1.length) (
ob (l1[v0.toNat]?) fun(l3,l4) =>
ob (C6 n l3 l4) fun l5 =>
ob (α:=(YC)⊕YC) (
bL (nO n l5 l1 v0 l2) n 0) fun r0=>match r0 with
| .inl _ =>
some (.inr (.inl v0))
| .inr _ =>
some (.inl (XN (v0+1))))) (
some (.inr (.inr ())))
def Rh(n:Nat)(l2:XD)(l1:XB):YA (Int×Int) :=
ob (
some ([]:YB ((Int×Int)×Bool))) fun l3 =>
ob (α:=(Int×YB ((Int×Int)×Bool)) ⊕(YB ((Int×Int)×Bool))) (
ob (α:=(Int×YB ((Int×Int)×Bool)) ⊕(YB ((Int×Int)×Bool))) (
bL (sL n l1) n (0,l3)) fun r0=>match r0 with
| .inl (v0,l4) =>
some (.inl (v0,l4))
| .inr l5 =>
some (.inr l5)) fun r1=>match r1 with
| .inl (v1,l8) =>
some (7,v1)
| .inr l9 =>
ob (
some ()) fun _ =>
ob (α:=(Int×YB (XC)) ⊕(YB (XC))) (
ob (α:=(Int×YB (XC)) ⊕(YB (XC))) (
bL (sX n l1 l2) n (0,([]:YB (XC)))) fun r3=>match r3 with
| .inl (v2,l6) =>
some (.inl (v2,l6))
| .inr l7 =>
some (.inr l7)) fun r4=>match r4 with
| .inl (v3,l10) =>
some (8,v3)
| .inr l11 =>
ob (
some ()) fun _ =>
ob (α:=(Int)⊕YC) (
ob (α:=(Int)⊕YC) (
bL (nB n l1 l2) n 0) fun r5=>match r5 with
| .inl v4 =>
some (.inl v4)
| .inr _ =>
some (.inr ())) fun r6=>match r6 with
| .inl v5 =>
some (9,v5)
| .inr _ =>
ob (
some ()) fun _ =>
ob (α:=(Int)⊕YC) (
ob (α:=(Int)⊕YC) (
bL (om n l1 l2) n 0) fun r7=>match r7 with
| .inl v6 =>
some (.inl v6)
| .inr _ =>
some (.inr ())) fun r8=>match r8 with
| .inl v7 =>
some (10,v7)
| .inr _ =>
some (0,0)
def BA(n:Nat)(l1:XD):Int->YA (Int⊕Int⊕YC):=fun v63 =>
br (decide (v63<(l1.length:Int))) (
gd (cM v63 l1.length) (
ob (l1[v63.toNat]?) fun(x81,x82) =>
ob (QA n x81 x82) fun r86 =>
br (r86) (
some (.inr (.inl v63))) (
some (.inl (XN (v63+1)))))) (
some (.inr (.inr ())))
def s5(n:Nat)(l1:XD):(YB ((Int×Int)×Bool)×Int)->YA ((YB ((Int×Int)×Bool)×Int)⊕Int⊕YC):=fun(l2,v0) =>
br (decide (v0<(l1.length:Int))) (
gd (cM v0 l1.length) (
ob (l1[v0.toNat]?) fun(x3,x4) =>
ob (some ((bR l2 (x3,x4)).getD false)) fun y0 =>
br (y0) (
some (.inr (.inl v0))) (
some (.inl ((fX l2 (x3,x4) true),XN (v0+1)))))) (
some (.inr (.inr ())))
def Ci(n:Nat)(l2:XE)(l3:XD):Int->YA (Int⊕YC⊕YC):=fun v0 =>
br (decide (v0<(l2.length:Int))) (
gd (cM v0 l2.length) (
ob (l2[v0.toNat]?) fun l1 =>
ob (
br (decide ((l1.length:Int)<3)) (
some true) (
br (decide (40<(l1.length:Int))) (
some true) (
ob (Qp n l1) fun r0 =>
br (decide (r0<0)) (
some true) (
ob (Fo n l1) fun r1 =>
some (decide ((l3.length:Int)<=r1)))))) fun v1 =>
br (v1) (
some (.inr (.inl ()))) (
some (.inl (XN (v0+1)))))) (
some (.inr (.inr ())))
def BP(n:Nat)(l1:XB)(l3:XD):Int->YA (Int⊕Int⊕YC):=fun v0 =>
br (decide (v0<(l1.length:Int))) (
gd (cM v0 l1.length) (
ob (l1[v0.toNat]?) fun(l4,l2) =>
ob (
br (decide (8<(l2.length:Int))) (
some true) (
ob (
ob (C6 n l4 l2) fun l5 =>
ob (α:=(YC)⊕YC) (
bL (Ci n l5 l3) n 0) fun r0=>match r0 with
| .inl _ =>
some true
| .inr _ =>
some false) fun v1 =>
some v1)) fun v2 =>
br (v2) (
some (.inr (.inl v0))) (
some (.inl (XN (v0+1)))))) (
some (.inr (.inr ())))
def B9(n:Nat)(l1:XE)(l2:XD)(l3:XB):Int->YA (Int⊕YC⊕YC):=fun v0 =>
br (decide (v0<(l1.length:Int))) (
gd (cM v0 l1.length) (
ob (l1[v0.toNat]?) fun l4 =>
ob (
ob (KN n l2 l3 l4 1) fun l5 =>
ob (Q2 n l5) fun r0 =>
some (!decide (r0=0))) fun v1 =>
br (v1) (
some (.inr (.inl ()))) (
some (.inl (XN (v0+1)))))) (
some (.inr (.inr ())))
def B2(n:Nat)(l1:XB)(l2:XD):Int->YA (Int⊕Int⊕YC):=fun v0 =>
br (decide (v0<(l1.length:Int))) (
gd (cM v0 l1.length) (
ob (l1[v0.toNat]?) fun(l3,l4) =>
ob (
ob (
ob (C6 n l3 l4) fun l5 =>
ob (α:=(YC)⊕YC) (
bL (B9 n l5 l2 l1) n 0) fun r0=>match r0 with
| .inl _ =>
some true
| .inr _ =>
some false) fun v1 =>
some v1) fun v2 =>
br (v2) (
some (.inr (.inl v0))) (
some (.inl (XN (v0+1)))))) (
some (.inr (.inr ())))
def Ck(n:Nat)(l1:XE)(l2:XD)(l3:XB):Int->YA (Int⊕YC⊕YC):=fun v0 =>
br (decide (v0<(l1.length:Int))) (
gd (cM v0 l1.length) (
ob (l1[v0.toNat]?) fun l4 =>
ob (
ob (KN n l2 l3 l4 1) fun l5 =>
ob (Qu n l5) fun r0 =>
some ((decide (r0<0)) ==(decide (v0=0)))) fun v1 =>
br (v1) (
some (.inr (.inl ()))) (
some (.inl (XN (v0+1)))))) (
some (.inr (.inr ())))
def Ce(n:Nat)(l1:XB)(l2:XD):Int->YA (Int⊕Int⊕YC):=fun v0 =>
br (decide (v0<(l1.length:Int))) (
gd (cM v0 l1.length) (
ob (l1[v0.toNat]?) fun(l3,l4) =>
ob (
ob (
ob (C6 n l3 l4) fun l5 =>
ob (α:=(YC)⊕YC) (
bL (Ck n l5 l2 l1) n 0) fun r0=>match r0 with
| .inl _ =>
some true
| .inr _ =>
some false) fun v1 =>
some v1) fun v2 =>
br (v2) (
some (.inr (.inl v0))) (
some (.inl (XN (v0+1)))))) (
some (.inr (.inr ())))
def N0(n:Nat)(l1:XD)(l2:XB):YA (Int×Int) :=
ob (
br (decide ((l1.length:Int)<3)) (
some true) (
br (decide (120<(l1.length:Int))) (
some true) (
br (decide ((l2.length:Int)<1)) (
some true) (
some (decide (64<(l2.length:Int))))))) fun v4 =>
br (v4) (
some (1,0)) (
ob (
ob (α:=(Int)⊕YC) (
bL (BA n l1) n 0) fun r0=>match r0 with
| .inl v5 =>
some v5
| .inr _ =>
some (-1)) fun v0 =>
br (decide (0<=v0)) (
some (2,v0)) (
ob (α:=(Int)⊕YC) (
bL (s5 n l1) n (([]:YB ((Int×Int)×Bool)),0)) fun r1=>match r1 with
| .inl v6 =>
some (3,v6)
| .inr _ =>
ob (
ob (α:=(Int)⊕YC) (
bL (BP n l2 l1) n 0) fun r3=>match r3 with
| .inl v7 =>
some v7
| .inr _ =>
some (-1)) fun v1 =>
br (decide (0<=v1)) (
some (4,v1)) (
ob (
ob (α:=(Int)⊕YC) (
bL (B2 n l2 l1) n 0) fun r4=>match r4 with
| .inl v8 =>
some v8
| .inr _ =>
some (-1)) fun v2 =>
br (decide (0<=v2)) (
some (5,v2)) (
ob (
ob (α:=(Int)⊕YC) (
bL (Ce n l2 l1) n 0) fun r5=>match r5 with
| .inl v9 =>
some v9
| .inr _ =>
some (-1)) fun v3 =>
br (decide (0<=v3)) (
some (6,v3)) (
ob (Rh n l1 l2) fun(r6,r7) =>
some (r6,r7))))))
def G5(n:Nat)(l1:XD)(l5:XB):YA Int :=
ob (N0 n l1 l5) fun(r14,r15) =>
br (decide (0<r14)) (
some 150) (
some 0)
def CX(n:Nat)(r0:YC->Int->YA Int)(l1:XD):YC->Int->YA Int:=fun _ x3 =>
ob (some ((bR l1 x3).getD (0:Int),(bR l1 x3).isSome)) fun(y0,y1) =>
ob (
br (y1) (
some (!decide (y0=x3))) (
some false)) fun v0 =>
br (v0) (
ob (r0 () y0) fun r1 =>
some r1) (
some x3)
def KJ(n:Nat)(l79:XD):Nat->YC->Int->YA Int
 | 0=>fun _ _=>none
 | k+1=>CX n (KJ n l79 k) l79
def pH(n:Nat)(x4:Int)(x10:Int):(XD×Int)->YA ((XD×Int)⊕XD):=fun(l1,v0) =>
br (decide (v0<2)) (
ob (
gd (cM v0 2) (
ob ([x4,x10][v0.toNat]?) fun x3 =>
ob (some ((bR l1 x3).getD (0:Int),(bR l1 x3).isSome)) fun(y1,y0) =>
br (!y0) (
some (fX l1 x3 x3)) (
some l1))) fun l2 =>
some (.inl (l2,XN (v0+1)))) (
some (.inr l1))
def xP(n:Nat)(l1:YB (XC)):(XD×Int)->YA ((XD×Int)⊕XD):=fun(l3,v0) =>
br (decide (v0<(l1.length:Int))) (
gd (cM v0 l1.length) (
ob (l1[v0.toNat]?) fun(x3,x4,x10,x11) =>
ob (
bL (pH n x3 x4) n (l3,0)) fun l2 =>
ob (KJ n l2 n () x3) fun r0 =>
ob (KJ n l2 n () x4) fun r1 =>
some (.inl ((fX l2 r0 r1),XN (v0+1))))) (
some (.inr l3))
def GW(n:Nat)(l1:XD)(l2:XB):YA ((Int×Int×Int×Int×Int) ⊕(YB (XC)×XD)) :=
ob (G5 n l1 l2) fun r0 =>
br (!decide (r0=0)) (
some (.inl (0,0,0,0,r0))) (
ob (G4 n l1 l2) fun l3 =>
ob (
bL (xP n l3) n (([]:XD),0)) fun l4 =>
some (.inr (l3,l4)))
def fa(r:XD):Int:=(r.countP (fun p=>decide (p.1=p.2)):Nat)
def DV(_:Nat)(l1:XD)(l5:XB):YA (Int×Int×Int×Int×Int) :=
 ob (GW 100000 l1 l5) fun s=>match s with
 | .inl x=>some x
 | .inr (l,r)=>gd (lim r.length) (some ((r.length:Int),(l.length:Int),(l5.length:Int),fa r,0))
end Go.Proofs.Ytmndpgfbkicndaa
namespace Go.Ab
open Go
section
variable{E:Env}{j j1:aR}{m m1:Yq}{w w1:XM}
def Sim.same(h:MR E j m w)(hold:∀c,c<w.heap.size->w1.heap[c]? = w.heap[c]?)(hsize:w.heap.size<=w1.heap.size)(hcalm:j6 E w w1):Sim E j m w j m w1 where
 ext:=.refl m
 le:=.refl j
 new:=fun b k h h'=>by simp[h'] at h
 mr:=⟨fun b k hb=>⟨(h.lt b k hb).1,Vt (h.lt b k hb).2 hsize⟩,fun b o k ho hb=>by
  obtain⟨o',h1,h2⟩:=h.obj b o k ho hb;exact⟨o',(hold k.c (h.lt b k hb).2).trans h1,h2⟩,h.inj,h.glob⟩
 size:=hsize
 full:=fun b h h' _=>Vr h (by omega)
 away:=fun _ _ _=>rfl
 fresh:=fun b k h h'=>by simp[h'] at h
 frame:=fun c hc _=>hold c hc
 calm:=hcalm
def vW(hE:EnvOk E){pr:YI->YA Prim}(h:∀f p,pr f=some p->E.cZ f=some p\/∀args m v m',p.run args m=some (v,m')->∀(j:aR) (w:XM) (args':YB XI),MR E j m w->LR j args args'->iy E.P (E.cZ f).isSome f args'.toArray w (jR E j m w v m')):EnvOk { E with cZ:=pr}:=by
 refine⟨hE.call,hE.mixed,fun f p hp args m v m' hrun j w args' hm hl=>?_⟩;have hp':({ E with cZ:=pr}:Env).cZ f=some p:=hp;have hm0:MR E j m w:=MR.env (E:={ E with cZ:=pr}) (E':=E) rfl hm;have key:∀v' w',jR E j m w v m' v' w'->jR { E with cZ:=pr} j m w v m' v' w':=fun v' w' ⟨j',s,hv⟩=>⟨j',Sim.env (E:=E) rfl (fun e=>e) s,hv⟩;rcases h f p hp with h1|h1
 exact nE (fun _=>by rw[hp']; rfl) (hE.cZ f p h1 args m v m' hrun j w args' hm0 hl) key
 exact nE (fun _=>by rw[hp']; rfl) (h1 args m v m' hrun j w args' hm0 hl) key
end
def Iv{j:aR}{l:YB XI}(h:∀x∈l,bH x=true):LR j l l :=
 ⟨rfl,fun i v hi=>⟨v,hi,VR.bH (h v (VD hi))⟩⟩
def An{W W':XM}(hc:Calm W W')(hs:W.heap.size<=W'.heap.size)(hold:∀c,c<W.heap.size->W'.heap[c]? = W.heap[c]?):∃q os,W'=Sort.grow (W.drewN q) os:=by
 refine⟨W'.drawn-W.drawn,W'.heap.extract W.heap.size W'.heap.size,?_⟩;have hh:W'.heap=W.heap++W'.heap.extract W.heap.size W'.heap.size:=by
  apply Xw;intro i;rw[Array.getElem?_append]
  split
  exact hold i ‹_›
  rw[Array.getElem?_extract]
  split
  congr 1; omega
  exact Array.getElem?_eq_none (by omega)
 obtain⟨h1,h2,h3,h4⟩:=hc;cases W; cases W';simp only[Sort.grow,World.drewN] at *;subst h1; subst h2; subst h3
 congr 1
 omega
def CH{E:Env}(hE:EnvOk E)(hmono:E.mono:=by trivial){f:YI}{args:YB XI}(hp:E.cZ f=none){v:XI}(hpl:∀x∈args,bH x=true)(hv:bH v=true)
  (h:aK E f args (Fl E.glob fun _=>none) fun v' _=>v'=v) {W:XM} (hW:E.glob<=W.heap.size) :
  Calls E.P f args.toArray W fun e W'=>e=.returned v/\∃q os,W'=Sort.grow (W.drewN q) os:=by
 obtain⟨v',m',⟨k,hr⟩,rfl⟩:=h;have hm:MR E (Gh E.glob) (Fl E.glob fun _=>none) W:=Lb (U8 _) hW fun b cs hb=>by cases hb
 refine callsIn_wide.1 ((qP hE hr hp hm (Iv hpl)).mono ?_);rintro e W' ⟨v1,rfl,j',s,hv1⟩;rw[iE hv hv1];refine⟨rfl,An ⟨s.calm.1,s.calm.2.1,s.calm.2.2.1,s.calm.2.2.2 hmono⟩ s.size fun c hc=>s.frame c hc fun b k hb hl _=>?_⟩;have:(Fl E.glob fun _=>none).get b=none:=by simp[Yq.get,Fl,Heap.get_nil]
 rw[this] at hl; cases hl
def mM{w:XM}{B:Nat}{c:YD XI}{e:XJ}{fz:Nat×Nat}(h:w.heap[B]? = some (.cells c e fz))(f:YD XI->YD XI):Sort.mapBlock w B f=w.putObj B (.cells (f c) e fz):=by
 unfold Sort.mapBlock World.putObj
 congr 1
 apply Xw;intro i;rw[Array.getElem?_modify,WV]
 by_cases hi:B=i
 subst hi;obtain⟨hlt,hv⟩:=Vh.1 h;simp[hlt,hv,Sort.onCells]
 simp[hi]
def EM{E:Env}{j:aR}{m:Yq}{w:XM}(h:MR E j m w){b:Nat}{k:Blk}(hk:j b=some k){cs cs':YB XI}{tag:Tag}(hg:m.get b=some (.cells cs tag))(hl:cs'.length=cs.length)(hp:cs'.all aP=true)(n:Nat)(os:YD Obj) :
  Sim E j m w j (m.set b (.cells cs' tag)) (Sort.grow (Sort.putRow id (Sort.ahead w n) k.c 0 cs'.toArray) os):=by
 obtain⟨c,e,fz,h1,h2,h3⟩:=h.gP hk hg;have s1:Sim E j m w j m (Sort.ahead w n):=Sim.of_heap h rfl ⟨rfl,rfl,rfl,Nat.le_add_right _ _⟩;have hle:cs.length<=c.size:=by
  cases tag with
  | ro=>exact Xr h2.2.symm
  | own=>exact Xr h2.2.1.symm
  | more sz=>exact h2.2.1
 have hor:OR j k (.cells cs' tag) (.cells (Sort.putCells id 0 cs'.toArray c) e fz):=by
  have hget:∀i,(Sort.putCells id 0 cs'.toArray c)[i]? = if i<cs'.length then(if i<c.size then some cs'[i]! else none) else c[i]?:=by
   intro i;simp only[Sort.putCells,Array.getElem?_mapIdx,V9,true_and,VC,W2,WK,id]
   by_cases hi:i<c.size
   rw[WE hi];simp only[Vx]
   by_cases hj:i<cs'.length
   simp[hj,hi]
   simp[hj]
   rw[Array.getElem?_eq_none (by omega)]
   simp[hi]
  refine⟨?_,fun i v hi=>?_⟩
  rw[show cs'.length=cs.length from hl]
  refine qR.put h2 (by simp[Sort.putCells]) fun i hi=>?_
  rw[hget,XP]
  have hlt:i<cs'.length:=(Vn.1 hi).1;refine⟨v,?_,.aP (Vo.1 hp v (VD hi))⟩;rw[hget,U5 hlt,XQ,WL,hi]; rfl
 have s2:=jx s1.mr hk (by rw[hg]; rfl) hor
 have e2:Sort.putRow id (Sort.ahead w n) k.c 0 cs'.toArray=(Sort.ahead w n).putObj k.c (.cells (Sort.putCells id 0 cs'.toArray c) e fz):=mM (w:=Sort.ahead w n) h1 _;rw[e2];refine(s1.trans h s2).trans h (Sim.same s2.mr (fun x hx=>?_) (by simp) ⟨rfl,rfl,rfl,fun _=>U8 _⟩)
 show(_++_:YD Obj)[x]? = _
 rw[Array.getElem?_append,U5 hx]
def Cd{α:Type}[Inhabited α]{enc:α->YB XI}{k:Nat}(hk:∀x,(enc x).length=k)(h0:0<k):∀(l:YB α) (t:Nat),t<l.length*k->(l.map enc).flatten[t]! =(enc l[t/k]!)[t%k]!
 | [],t,h=>by simp at h
 | x::l,t,h=>by
  simp only[V6,V0];rw[WL,Xi]
  by_cases ht:t<k
  rw[U5 (by rw[hk]; exact ht),Nat.div_eq_of_lt ht,WA ht,<-WL]; rfl
  rw[U3 (by rw[hk]; exact ht),hk,<-WL,Cd hk h0 l (t-k) (by simp only[VF,WW,Nat.one_mul] at h; omega)]
  have e1:t/k=(t-k)/k+1:=by rw[Nat.div_eq_sub_div h0 (by omega)]
  have e2:t%k=(t-k)%k:=Nat.mod_eq_sub_mod (by omega)
  rw[e1,e2]; rfl
def cF{α:Type}{enc:α->YB XI}{k:Nat}(hk:∀x,(enc x).length=k):∀l:YB α,(l.map enc).flatten.length=l.length*k
 | []=>by simp
 | x::l=>by simp only[V6,V0,Vd,VF,hk,cF hk l,WW,Nat.one_mul]; omega
def iK{α:Type}[Inhabited α]{enc:α->YB XI}{k:Nat}(hk:∀x,(enc x).length=k)(h0:0<k)(l:YB α):Sort.flatK enc k l.toArray=(l.map enc).flatten.toArray:=by
 refine Sort.ext_get! (by simp[cF hk]) fun t ht=>?_
 have ht':t<l.length*k:=by simpa using ht
 rw[Sort.get_flatK _ _ _ _ (by simpa using ht')]
 have:=Cd hk h0 l t ht';simp at this ⊢;rw[this]
def xm{E:Env}{j:aR}{m:Yq}{w:XM}(h:MR E j m w){b:Nat}{k:Blk}(hk:j b=some k){cs:YB XI}{tag:Tag}(hg:m.get b=some (.cells cs tag))(ht:tag≠.ro)(hp:cs.all aP=true) :
  Sort.Holds id w k.c 0 cs.toArray:=by
 obtain⟨c,e,fz,h1,h2,h3⟩:=h.gP hk hg;have hfz:fz=(0,0):=by
  cases tag with
  | ro=>exact Vr rfl ht
  | own=>exact h2.2.2
  | more sz=>exact h2.2.2.1
 subst hfz;intro i hi;have hi':i<cs.length:=by simpa using hi
 obtain⟨v',g1,g2⟩:=h3 i cs[i] (U4 hi');have:=gI (Vo.1 hp _ (Vg hi')) g2;subst this;refine⟨?_,?_⟩
 simp only[World.cell?,h1,VC];simp[g1,hi']
 simp only[World.frozen?,h1]; simp
def Dv{E:Env}{j:aR}{m:Yq}{w:XM}(h:MR E j m w){b:Nat}{k:Blk}(hk:j b=some k){cs:YB XI}{tag:Tag}(hg:m.get b=some (.cells cs tag))(ht:tag≠.ro) :
  ∃cc:YB XI,LR j cs cc/\Sort.Holds id w k.c 0 cc.toArray:=by
 obtain⟨c,e,fz,h1,h2,h3⟩:=h.gP hk hg;have hfz:fz=(0,0):=by
  cases tag with
  | ro=>exact Vr rfl ht
  | own=>exact h2.2.2
  | more sz=>exact h2.2.2.1
 have hle:cs.length<=c.size:=by
  cases tag with
  | ro=>exact Vr rfl ht
  | own=>exact Xr h2.2.1.symm
  | more sz=>exact h2.2.1
 subst hfz;have hl:(c.toList.take cs.length).length=cs.length:=by rw[Vw]; exact Nat.min_eq_left (by simpa using hle)
 refine⟨c.toList.take cs.length,⟨hl.symm,fun i v hi=>?_⟩,fun i hi=>?_⟩
 obtain⟨v',g1,g2⟩:=h3 i v hi;have hlt:=(Vn.1 hi).1;exact⟨v',by rw[Wj,U5 hlt]; simpa using g1,g2⟩
 have hi':i<cs.length:=by rw[W2,hl] at hi; exact hi
 refine⟨?_,?_⟩
 simp only[World.cell?,h1,VC];have hic:i<c.size:=by omega
 simp[hi',hic]
 simp only[World.frozen?,h1]; simp
def IB{E:Env}{j:aR}{m:Yq}{w:XM}(h:MR E j m w){b:Nat}{k:Blk}(hk:j b=some k){cs cs' cc':YB XI}{tag:Tag}(hg:m.get b=some (.cells cs tag))(hl:cs'.length=cs.length)(hp:LR j cs' cc')(n:Nat)(os:YD Obj) :
  Sim E j m w j (m.set b (.cells cs' tag)) (Sort.grow (Sort.putRow id (Sort.ahead w n) k.c 0 cc'.toArray) os):=by
 obtain⟨c,e,fz,h1,h2,h3⟩:=h.gP hk hg;have s1:Sim E j m w j m (Sort.ahead w n):=Sim.of_heap h rfl ⟨rfl,rfl,rfl,Nat.le_add_right _ _⟩;have hlc:cs'.length=cc'.length:=hp.1;have hle:cs.length<=c.size:=by
  cases tag with
  | ro=>exact Xr h2.2.symm
  | own=>exact Xr h2.2.1.symm
  | more sz=>exact h2.2.1
 have hor:OR j k (.cells cs' tag) (.cells (Sort.putCells id 0 cc'.toArray c) e fz):=by
  have hget:∀i,(Sort.putCells id 0 cc'.toArray c)[i]? = if i<cc'.length then(if i<c.size then some cc'[i]! else none) else c[i]?:=by
   intro i;simp only[Sort.putCells,Array.getElem?_mapIdx,V9,true_and,VC,W2,WK,id]
   by_cases hi:i<c.size
   rw[WE hi];simp only[Vx]
   by_cases hj:i<cc'.length
   simp[hj,hi]
   simp[hj]
   rw[Array.getElem?_eq_none (by omega)]
   simp[hi]
  refine⟨?_,fun i v hi=>?_⟩
  rw[show cs'.length=cs.length from hl]
  refine qR.put h2 (by simp[Sort.putCells]) fun i hi=>?_
  rw[hget,XP]
  have hlt:i<cs'.length:=(Vn.1 hi).1;obtain⟨v',g1,g2⟩:=hp.2 i v hi;refine⟨v',?_,g2⟩;rw[hget,XQ,XQ,WL,g1]; rfl
 have s2:=jx s1.mr hk (by rw[hg]; rfl) hor
 have e2:Sort.putRow id (Sort.ahead w n) k.c 0 cc'.toArray=(Sort.ahead w n).putObj k.c (.cells (Sort.putCells id 0 cc'.toArray c) e fz):=mM (w:=Sort.ahead w n) h1 _;rw[e2];refine(s1.trans h s2).trans h (Sim.same s2.mr (fun x hx=>?_) (by simp) ⟨rfl,rfl,rfl,fun _=>U8 _⟩)
 show(_++_:YD Obj)[x]? = _
 rw[Array.getElem?_append,U5 hx]
end Go.Ab
namespace Go.Proofs
open Go.Shelf
def Try.DP:Go.Shelf.Ren:=⟨fun|6=>51|15=>75|14=>74|28=>96|29=>97|20=>88|21=>89|22=>90|23=>91|24=>92|25=>93|26=>94|27=>95|46=>99|47=>100|48=>101|49=>102|50=>103|57=>104|n=>n,fun|22=>37|24=>44|25=>107|3=>3|39=>124|0=>0|53=>146|55=>148|4=>4|46=>140|45=>139|50=>72|5=>5|9=>9|66=>151|70=>155|76=>157|77=>90|n=>n,fun|n=>n⟩
def Try.CK:Go.Proofs.SlLaysF0.n6 Try.prog Try.DP:={
 mixed:=by kernel_rfl
 f6:=⟨Try.f51.name,by decide,Try.func51.trans (Vs some (by kernel_rfl))⟩
 f14:=⟨Try.f74.name,by decide,Try.func74.trans (Vs some (by kernel_rfl))⟩
 f15:=Try.func75.trans (Vs some (by kernel_rfl))
 f20:=⟨Try.f88.name,by decide,Try.func88.trans (Vs some (by kernel_rfl))⟩
 f21:=⟨Try.f89.name,by decide,Try.func89.trans (Vs some (by kernel_rfl))⟩
 f22:=⟨Try.f90.name,by decide,Try.func90.trans (Vs some (by kernel_rfl))⟩
 f23:=⟨Try.f91.name,by decide,Try.func91.trans (Vs some (by kernel_rfl))⟩
 f24:=⟨Try.f92.name,by decide,Try.func92.trans (Vs some (by kernel_rfl))⟩
 f25:=⟨Try.f93.name,by decide,Try.func93.trans (Vs some (by kernel_rfl))⟩
 f26:=⟨Try.f94.name,by decide,Try.func94.trans (Vs some (by kernel_rfl))⟩
 f27:=⟨Try.f95.name,by decide,Try.func95.trans (Vs some (by kernel_rfl))⟩
 f28:=Try.func96.trans (Vs some (by kernel_rfl))
 f29:=Try.func97.trans (Vs some (by kernel_rfl))
 f46:=⟨Try.f99.name,by decide,Try.func99.trans (Vs some (by kernel_rfl))⟩
 f47:=Try.func100.trans (Vs some (by kernel_rfl))
 f48:=Try.func101.trans (Vs some (by kernel_rfl))
 f49:=⟨Try.f102.name,by decide,Try.func102.trans (Vs some (by kernel_rfl))⟩
 f50:=⟨Try.f103.name,by decide,Try.func103.trans (Vs some (by kernel_rfl))⟩
 f57:=⟨Try.f104.name,by decide,Try.func104.trans (Vs some (by kernel_rfl))⟩
 t0:=Try.underlying0
 a0:=Try.isAgg0
 z0:=Try.sizeOf0
 v0:=Try.zeroValue0
 t3:=Try.underlying3
 a3:=Try.isAgg3
 z3:=Try.sizeOf3
 v3:=Try.zeroValue3
 t4:=Try.underlying4
 a4:=Try.isAgg4
 z4:=Try.sizeOf4
 v4:=Try.zeroValue4
 t5:=Try.underlying5
 a5:=Try.isAgg5
 z5:=Try.sizeOf5
 v5:=Try.zeroValue5
 t9:=Try.underlying9
 a9:=Try.isAgg9
 z9:=Try.sizeOf9
 v9:=Try.zeroValue9
 t22:=Try.underlying37
 a22:=Try.isAgg37
 z22:=Try.sizeOf37
 v22:=Try.zeroValue37
 t25:=Try.underlying107
 a25:=Try.isAgg107
 z25:=Try.sizeOf107
 v25:=Try.zeroValue107
 t39:=Try.underlying124
 a39:=Try.isAgg124
 z39:=Try.sizeOf124
 v39:=Try.zeroValue124
 t45:=Try.underlying139
 a45:=Try.isAgg139
 z45:=Try.sizeOf139
 v45:=Try.zeroValue139
 t46:=Try.underlying140
 a46:=Try.isAgg140
 z46:=Try.sizeOf140
 v46:=Try.zeroValue140
 t50:=Try.underlying72
 a50:=Try.isAgg72
 z50:=Try.sizeOf72
 v50:=Try.zeroValue72
 t53:=Try.underlying146
 a53:=Try.isAgg146
 z53:=Try.sizeOf146
 v53:=Try.zeroValue146
 t55:=Try.underlying148
 a55:=Try.isAgg148
 z55:=Try.sizeOf148
 v55:=Try.zeroValue148
 t66:=Try.underlying151
 a66:=Try.isAgg151
 z66:=Try.sizeOf151
 v66:=Try.zeroValue151
 t70:=Try.underlying155
 a70:=Try.isAgg155
 z70:=Try.sizeOf155
 v70:=Try.zeroValue155
 t76:=Try.underlying157
 a76:=Try.isAgg157
 z76:=Try.sizeOf157
 v76:=Try.zeroValue157
 t77:=Try.underlying90
 a77:=Try.isAgg90
 z77:=Try.sizeOf90
 v77:=Try.zeroValue90}
end Go.Proofs
namespace Go.Proofs.Ytmndpgfbkicndaa
open Go Go.Ab Go.Ab.W
set_option maxRecDepth 10000
noncomputable def Gi:Env:={ P:=Try.prog,glob:=0,cZ:=fun _=>none,mono:=True}
def qZ:EnvOk Gi:=Ax BF fun f p hp=>by cases hp
namespace W52
set_option maxHeartbeats 4000000
attribute [local irreducible] Tm.at Trie.set Trie.get Yq.get Yq.set Yq.alloc Yq.ww Yq.kill
def Ug(n:Nat)(x1:Int)(x2:Int)(x3:Int)(x4:Int)(x5:Int)(x6:Int)(x7:Int)(x8:Int):YA Int :=
ob (some (XN ((XN (120*(XN (x1-x5))))+x2))) fun y11 =>
some (XN (y11-x6))
def G8:∀b o,aG Gi.P 44 (ptr b o) 0=some (ptr b (o+0)):=fun _ _=>by kernel_rfl
def cK:TyI Gi.P 3 false 1:=⟨by kernel_rfl,by kernel_rfl,by kernel_rfl⟩
def JO:∀b o,aG Gi.P 44 (ptr b o) 1=some (ptr b (o+1)):=fun _ _=>by kernel_rfl
def PS(n:Nat)(x1:Int)(x2:Int)(x3:Int)(x4:Int)(x5:Int)(x6:Int)(x7:Int)(x8:Int)  (r:Int)(hF:Ug n x1 x2 x3 x4 x5 x6 x7 x8=some r)(m:Yq)  :
  aK Gi 52 [.agg #[.int .i64 x1,.int .i64 x2,.int .i64 x3,.int .i64 x4],.agg #[.int .i64 x5,.int .i64 x6,.int .i64 x7,.int .i64 x8]] m (Yp m (.int .i64 r)):=by
 unfold Ug at hF;refine aS (m0:=m) (ps:=[]) (N:=17) (rs:=[.tmp 4]) rfl Try.func52 rfl rfl rfl (XZ m) ?_;refine XS ?_;refine XT ?_;refine X1 (Qg rfl) gn rfl fun b9=>?_;refine X1 (Qg rfl) gn rfl fun b10=>?_;refine XR (bE rfl) rfl ?_;refine XW ?_;refine XX ?_;refine XS ?_;refine XT ?_;refine XR (aI (r:=ptr b9 0) rfl (G8 _ _)) rfl ?_;refine XR (aJ (k:=1) cK rfl rfl rfl) rfl ?_;refine XR (aI (r:=ptr b10 0) rfl (G8 _ _)) rfl ?_;refine XR (aJ (k:=0) cK rfl rfl rfl) rfl ?_;refine XR (aL rfl rfl (df _ _ _)) rfl ?_;refine XR (aL rfl rfl (dV _ _ _)) rfl ?_;refine XR (aI (r:=ptr b9 1) rfl (JO _ _)) rfl ?_;refine XR (aJ (k:=1) cK rfl rfl rfl) rfl ?_;obtain⟨y11,h12,hF⟩:=J hF;refine XR (aL rfl rfl ((bD _ _ _).trans (cI h12))) rfl ?_;refine XR (aI (r:=ptr b10 1) rfl (JO _ _)) rfl ?_;refine XR (aJ (k:=0) cK rfl rfl rfl) rfl ?_;refine XR (aL rfl rfl (df _ _ _)) rfl ?_;refine XR (bE rfl) rfl ?_;refine XW ?_;refine XX ?_;refine Yb ?_;cases hF;exact X2 (.tmp rfl .nil) fun m' hm=>⟨(),rfl,(ai.aq [] rfl rfl) m' hm⟩
end W52
def xd(x y:dm):Int:=XN (XN (XN (120*XN (x.1-y.1))+x.2.1)-y.2.1)
def xG(x y:dm){W:XM} :
  Calls Try.prog 52 #[.agg (fL x).toArray,.agg (fL y).toArray] W fun e W'=>e=.returned (.int .i64 (xd x y))/\∃q os,W'=Sort.grow (W.drewN q) os :=
 CH (E:=Gi) qZ (hmono:=trivial) (f:=52) (args:=[.agg #[.int .i64 x.1,.int .i64 x.2.1,.int .i64 x.2.2.1,.int .i64 x.2.2.2],.agg #[.int .i64 y.1,.int .i64 y.2.1,.int .i64 y.2.2.1,.int .i64 y.2.2.2]]) rfl (by intro v hv; simp at hv; rcases hv with rfl|rfl<;>rfl) rfl
  ((W52.PS 5 x.1 x.2.1 x.2.2.1 x.2.2.2 y.1 y.2.1 y.2.2.1 y.2.2.2 (xd x y) rfl _).mono fun v m' ⟨_,h,_⟩=>h) (V9 _)
def tP{x:Int}(h1 : -1000000<=x)(h2:x<=1000000):XN x=x:=by
 simp only[IntKind.wrap,IntKind.bits,IntKind.signed]
 show(if(true&&decide (x%18446744073709551616≥9223372036854775808))=true then x%18446744073709551616-18446744073709551616 else x%18446744073709551616)=x
 simp only[WH,Vm]
 split<;>omega
def wU(x:dm):Prop:=0<=x.1/\x.1<120/\0<=x.2.1/\x.2.1<120
def IG{x y:dm}(hx:wU x)(hy:wU y):xd x y=120*(x.1-y.1)+x.2.1-y.2.1:=by
 obtain⟨a1,a2,a3,a4⟩:=hx;obtain⟨b1,b2,b3,b4⟩:=hy;unfold xd;rw[tP (x:=x.1-y.1) (by omega) (by omega),tP (x:=120*(x.1-y.1)) (by omega) (by omega),tP (x:=120*(x.1-y.1)+x.2.1) (by omega) (by omega),tP (by omega) (by omega)]
def Km{x y:dm}(hx:wU x)(hy:wU y):xd x y<0↔x.1<y.1\/x.1=y.1/\x.2.1<y.2.1:=by
 rw[IG hx hy];obtain⟨a1,a2,a3,a4⟩:=hx;obtain⟨b1,b2,b3,b4⟩:=hy;omega
def EW(w:XM):(isAgg 44).run Try.prog w=.ok true w:=by rw[pd (by kernel_rfl) w,show eh Try.prog 44=true by kernel_rfl]
def BD(w:XM):(Go.sizeOf 44).run Try.prog w=.ok 4 w:=by rw[cL (by kernel_rfl) w,show aE Try.prog 44=4 by kernel_rfl]
def DU:∀args w,(callFunc 52 args).run Try.prog w=.ok (.enter 52 args) w:=fun args w=>qZ.call 52 _ _ Try.func52 rfl args w
end Go.Proofs.Ytmndpgfbkicndaa
namespace Go.Proofs
open Go.Shelf
def Try.G3:Go.Shelf.Ren:=⟨fun|45=>85|n=>n,fun|22=>52|23=>51|3=>3|4=>4|0=>0|n=>n,fun|n=>n⟩
def Try.TG:Go.Proofs.SlLaysE.n45 Try.prog Try.G3:={
 mixed:=by kernel_rfl
 f45:=⟨Try.f85.name,by decide,Try.func85.trans (Vs some (by kernel_rfl))⟩
 t0:=Try.underlying0
 a0:=Try.isAgg0
 z0:=Try.sizeOf0
 v0:=Try.zeroValue0
 t3:=Try.underlying3
 a3:=Try.isAgg3
 z3:=Try.sizeOf3
 v3:=Try.zeroValue3
 t4:=Try.underlying4
 a4:=Try.isAgg4
 z4:=Try.sizeOf4
 v4:=Try.zeroValue4
 t22:=Try.underlying52
 a22:=Try.isAgg52
 z22:=Try.sizeOf52
 v22:=Try.zeroValue52
 a23:=Try.isAgg51
 z23:=Try.sizeOf51}
def Try.HK:Go.Shelf.Ren:=⟨fun|45=>48|n=>n,fun|22=>51|23=>3|3=>3|4=>4|0=>0|n=>n,fun|n=>n⟩
def Try.T8:Go.Proofs.SlLaysE.n45 Try.prog Try.HK:={
 mixed:=by kernel_rfl
 f45:=⟨Try.f48.name,by decide,Try.func48.trans (Vs some (by kernel_rfl))⟩
 t0:=Try.underlying0
 a0:=Try.isAgg0
 z0:=Try.sizeOf0
 v0:=Try.zeroValue0
 t3:=Try.underlying3
 a3:=Try.isAgg3
 z3:=Try.sizeOf3
 v3:=Try.zeroValue3
 t4:=Try.underlying4
 a4:=Try.isAgg4
 z4:=Try.sizeOf4
 v4:=Try.zeroValue4
 t22:=Try.underlying51
 a22:=Try.isAgg51
 z22:=Try.sizeOf51
 v22:=Try.zeroValue51
 a23:=Try.isAgg3
 z23:=Try.sizeOf3}
end Go.Proofs
namespace Go.Ab
open Go
section
variable{E:Env}{j:aR}{m:Yq}{w:XM}
def VR.at{b o l c:Nat}{v':XI}(h:VR j (.slice (some ⟨b,o,none⟩) l c) v'):∃k c',j b=some k/\v'=.slice (some ⟨k.c,o,none⟩) l c':=by
 cases h with
 | slice hj hm=>exact⟨_,_,hj,rfl⟩
 | sliceM hj hm _ _ _ _=>exact⟨_,_,hj,rfl⟩
end
end Go.Ab
namespace Go.Proofs.Ytmndpgfbkicndaa
open Go Go.Ab Go.Ab.W
set_option maxRecDepth 10000
def sO:∀l:YB dm,cN (l.map fL).flatten=some l
 | []=>rfl
 |(a,b,c,d)::l=>by
  show(cN (l.map fL).flatten).map _=_
  rw[sO l]; rfl
def yj:∀{cs:YB XI} {l:YB dm},cN cs=some l->cs=(l.map fL).flatten:=by
 intro cs
 induction cs using cN.induct with
 | case1=>intro l h; cases h; rfl
 | case2 a b c d r ih =>
  intro l h;have h':(cN r).map ((a,b,c,d)::·)=some l:=h;cases hr:cN r with
  | none=>rw[hr] at h'; cases h'
  | some l' =>
   rw[hr] at h'; cases h';rw[ih hr]; rfl
 | case3 cs h1 h2 =>
  intro l h;unfold cN at h
  split at h
  exact Vr rfl h1
  rename_i a b c d r;exact Vr rfl (h2 a b c d r)
  cases h
def qc(l:YB dm):((l.map fL).flatten).all aP=true:=by
 induction l with
 | nil=>rfl
 | cons x l ih=>rw[V6,V0,List.all_append,ih]; rfl
def nS{m:Yq}{w b n n':Nat}{cs:YB XI}{tg:Tag}(h:ir m w b n n'=some (cs,tg)):m.get b=some (.cells cs tg)/\tg≠.ro/\n=n'/\cs.length=n*w/\(tg=.own\/tg=.more w):=by
 unfold ir at h
 split at h
 rename_i cs' hg
 split at h
 rename_i hc; cases h; exact⟨hg,(by intro e; cases e),hc.1,hc.2,.inl rfl⟩
 cases h
 rename_i cs' k hg
 split at h
 rename_i hc; cases h; exact⟨hg,(by intro e; cases e),hc.1,hc.2.1,.inr (by rw[hc.2.2])⟩
 cases h
 cases h
def BL{j:aR}{f:YI}{xs ys:YD XI}{v:XI}(h:VR j (.func (.func f) xs ys) v)(h1:xs.size=0)(h2:ys.size=0):v=.func (.func f) #[] #[]:=by
 cases h with
 | @func _ _ ys' _ ds a _ c _ =>
  have e1:ys'=#[]:=Xf (a.symm.trans h1);have e2:ds=#[]:=Xf (c.symm.trans h2);rw[e1,e2]
def qx{n:Nat}(h:lim n=true):n<=1073741824:=V7 h
def uX{l:YB dm}(h:rJ l=true):(∀x∈l,wU x)/\(l.map fun x=>(x.1,x.2.1)).Nodup:=by
 unfold rJ at h;simp only[Va,Vm] at h;refine⟨fun x hx=>?_,h.2⟩;have:=Vo.1 h.1 x hx;simp only[Va,Vm] at this;exact⟨this.1.1.1,this.1.1.2,this.1.2,this.2⟩
section
variable(l:YB dm)
abbrev Pl:={ x:dm // x∈l}
def Bn(x y:Pl l):Int:=xd x.1 y.1
variable{l}
def Sm(hl:∀x∈l,wU x)(x y:Pl l):Go.Proofs.ltOf (Bn l) x y=decide (x.1.1<y.1.1\/x.1.1=y.1.1/\x.1.2.1<y.1.2.1):=by
 unfold Go.Proofs.ltOf Bn
 congr 1
 exact propext (Km (hl _ x.2) (hl _ y.2))
def SE(hl:∀x∈l,wU x):Go.Sort.SWO (Go.Proofs.ltOf (Bn l)) where
 irrefl x:=by rw[Sm hl]; simp
 trans x y z h1 h2:=by rw[Sm hl] at *; simp only[Vm] at *; omega
 ntrans x y z h1 h2:=by rw[Sm hl] at *; simp only[decide_eq_false_iff_not] at *; omega
def oM{α β:Type}{f:α->β}:∀{l:YB α},(l.map f).Nodup->∀{x y:α},x∈l->y∈l->f x=f y->x=y
 | [],_,_,_,hx,_,_=>by cases hx
 | a::l,h,x,y,hx,hy,e=>by
  rw[V6] at h;obtain⟨h1,h2⟩:=Ww.1 h;rcases Vu.1 hx with ex|hx
  rcases Vu.1 hy with ey|hy
  rw[ex,ey]
  exact Vr (Vi.2 ⟨y,hy,by rw[<-e,ex]⟩) h1
  rcases Vu.1 hy with ey|hy
  exact Vr (Vi.2 ⟨x,hx,by rw[e,ey]⟩) h1
  exact oM h2 hx hy e
def R9(hl:∀x∈l,wU x)(hn:(l.map fun x=>(x.1,x.2.1)).Nodup)(x y:Pl l)(h1:Go.Proofs.ltOf (Bn l) x y=false)(h2:Go.Proofs.ltOf (Bn l) y x=false):x=y:=by
 rw[Sm hl] at h1 h2;simp only[decide_eq_false_iff_not] at h1 h2;exact Subtype.ext (oM hn x.2 y.2 (VN (by simp only; omega) (by simp only; omega)))
end
def Jl{α β:Type}(f:α->β)(le:β->β->Bool):∀(n:Nat) (l:YB α),l.length=n->(l.mergeSort (fun x y=>le (f x) (f y))).map f=(l.map f).mergeSort le:=fun _ l _=>List.map_mergeSort (fun _ _ _ _=>rfl)
def Lv{l:YB dm}(hl:∀x∈l,wU x):(fun x y:Pl l=>!(Go.Proofs.ltOf (Bn l)) y x)=fun x y=>eK x.1 y.1:=by
 funext x y
 rw[Sm hl]; unfold eK;rw[<-decide_not]
 congr 1
 apply propext; omega
def zL:∀args w,(callFunc 51 args).run Try.prog w=.ok (.enter 51 args) w:=fun args w=>qZ.call 51 _ _ Try.func51 rfl args w
def AM{p q:YA Prim}{pr:Bool}{args:YB XI}{m m':Yq}{v:XI}(h:lI args m=some (v,m')){j:aR}{w:XM}{args':YB XI}(hm:MR (Yt p q) j m w)(hl:LR j args args') :
  iy (Yt p q).P pr 51 args'.toArray w (jR (Yt p q) j m w v m'):=by
 unfold lI at h
 split at h
 rename_i c xs ys
 split at h
 rename_i hc; cases h;obtain⟨v0,vs,rfl,h1,hvs⟩:=hl.cons_inv;obtain⟨v1,v2,rfl,h2,h3⟩:=hvs.cons_inv;obtain rfl:=h3.dI;have e2:=BL h2 hc.1 hc.2;subst e2;cases h1;have hcon:=Go.Proofs.AnyF.slices_SortFunc_none Try.CK none c (.func (.func 52) #[] #[]) w
 change Calls Try.prog 51 _ _ _ at hcon
 refine .inl ⟨zL _ _,callsIn_wide.2 ?_⟩;refine Calls.mono hcon ?_;rintro e w' ⟨rfl,rfl⟩;exact⟨_,rfl,j,.refl hm,VR.undef j⟩
 cases h
 rename_i b n n' xs ys
 split at h
 rename_i cs tg hcs;obtain⟨hg,htg,rfl,hcl,_⟩:=nS hcs
 split at h
 rename_i l h7
 split at h
 rename_i hc; cases h;obtain⟨⟨h8,h9⟩,hlim,hok⟩:=hc;obtain⟨h4,h10⟩:=uX hok;obtain⟨v0,vs,rfl,h1,hvs⟩:=hl.cons_inv;obtain⟨v1,v2,rfl,h2,h3⟩:=hvs.cons_inv;obtain rfl:=h3.dI;have e2:=BL h2 h8 h9;subst e2;obtain⟨k,c',hk,rfl⟩:=h1.at
 have ecs:=yj h7;have hp:cs.all aP=true:=by rw[ecs]; exact qc l
 have h5:∀x:dm,(fL x).length=4:=fun _=>rfl;have hlen:l.length=n:=by
  have:=cF h5 l;rw[<-ecs,hcl] at this; omega
 by_cases hnil:l=[]
 
 subst hnil;have h11:n=0:=by rw[<-hlen]; rfl
 have h12:cs=[]:=ecs;subst h11 h12;have:Inhabited (Pl [((0,0,0,0):dm)]):=⟨⟨(0,0,0,0),Vb.2 rfl⟩⟩;have h6:∀x∈[((0,0,0,0):dm)],wU x:=fun x hx=>by rw[Vb.1 hx]; exact⟨by decide,by decide,by decide,by decide⟩
 have h0:∀x:Pl [((0,0,0,0):dm)],(fL x.1).length=4:=fun _=>rfl;have hH:Go.Sort.HoldsK (fun x:Pl [((0,0,0,0):dm)]=>fL x.1) 4 w k.c 0 ([]:YB (Pl [((0,0,0,0):dm)])).toArray:=by
  unfold Go.Sort.HoldsK;rw[iK h0 (by decide)]
  exact xm hm hk hg htg rfl
 have hcon:=Go.Proofs.AnyQ.slices_SortFunc_total Try.CK 4 (fun w=>EW w) (fun w=>BD w) (fun x:Pl [((0,0,0,0):dm)]=>fL x.1) h0 (fun x v hv=>by simp[fL,eP,eI] at hv; rcases hv with rfl|rfl|rfl|rfl<;>rfl) (Bn _) (SE h6) 52 #[] k.c 0 c' ([]:YB (Pl [((0,0,0,0):dm)])).toArray w DU
  (fun m os dk _ x y=>xG x.1 y.1) hH (hm.lt b k hk).2 (by simp) (R9 h6 (by decide))
 change Calls Try.prog 51 _ _ _ at hcon
 simp only[W2,WJ] at hcon;refine .inl ⟨zL _ _,callsIn_wide.2 ?_⟩;refine Calls.mono hcon ?_;rintro e w' ⟨rfl,q,os,rfl⟩;refine⟨_,rfl,j,?_,VR.undef j⟩;unfold Go.Proofs.sortWorldK Go.Sort.putRowK;rw[iK h0 (by decide)]
 rw[List.mergeSort_nil,List.mergeSort_nil];exact EM hm hk hg rfl rfl q os
 have:Inhabited (Pl l):=⟨⟨l.head hnil,List.head_mem hnil⟩⟩;have h0:∀x:Pl l,(fL x.1).length=4:=fun _=>rfl;have eat:(l.attach.map fun x:Pl l=>fL x.1)=l.map fL:=by
  rw[show(fun x:Pl l=>fL x.1)=fL ∘ Subtype.val from rfl,<-Xh,List.attach_map_subtype_val]
 have hH:Go.Sort.HoldsK (fun x:Pl l=>fL x.1) 4 w k.c 0 l.attach.toArray:=by
  unfold Go.Sort.HoldsK;rw[iK h0 (by decide),eat,<-ecs]
  exact xm hm hk hg htg hp
 have hcon:=Go.Proofs.AnyQ.slices_SortFunc_total Try.CK 4 (fun w=>EW w) (fun w=>BD w) (fun x:Pl l=>fL x.1) h0 (fun x v hv=>by simp[fL,eP,eI] at hv; rcases hv with rfl|rfl|rfl|rfl<;>rfl) (Bn l) (SE h4) 52 #[] k.c 0 c' l.attach.toArray w DU
  (fun m os dk _ x y=>xG x.1 y.1) hH (hm.lt b k hk).2 (by have:=qx hlim; simp; omega) (R9 h4 h10)
 change Calls Try.prog 51 _ _ _ at hcon
 rw[Lv h4] at hcon;simp only[W2,List.length_attach,hlen] at hcon;refine .inl ⟨zL _ _,callsIn_wide.2 ?_⟩;refine Calls.mono hcon ?_;rintro e w' ⟨rfl,q,os,rfl⟩;refine⟨_,rfl,j,?_,VR.undef j⟩;unfold Go.Proofs.sortWorldK Go.Sort.putRowK;rw[iK h0 (by decide)]
 have e0:((l.attach.mergeSort fun x y:Pl l=>eK x.1 y.1).map fun x:Pl l=>fL x.1)=(l.mergeSort eK).map fL:=by
  rw[show(fun x:Pl l=>fL x.1)=fL ∘ Subtype.val from rfl,<-Xh,Jl Subtype.val eK _ _ rfl,List.attach_map_subtype_val]
 rw[e0];exact EM hm hk hg (by rw[cF h5,hcl,List.length_mergeSort,hlen]) (qc _) q os
 cases h
 cases h
 cases h
 cases h
abbrev C1:={ v:XI // v.oneCell'=true}
instance:Inhabited C1:=⟨⟨.slice none 0 0,rfl⟩⟩
def Qo{j:aR}{v v':XI}(h:VR j v v')(hv:mh v=true):v'.oneCell'=true:=by
 have h1:=uA h hv;cases v'<;>first|rfl|cases h1
def Ji{j:aR}{cs cc:YB XI}(h:LR j cs cc)(ho:cs.all mh=true):∃l:YB C1,l.map Subtype.val=cc:=by
 have h1:∀v∈cc,v.oneCell'=true:=fun v hv=>by
  obtain⟨i,hi⟩:=List.mem_iff_getElem?.1 hv;have hl:i<cs.length:=by rw[h.1]; exact(Vn.1 hi).1
  obtain⟨v',g1,g2⟩:=h.2 i cs[i] (U4 hl);rw[hi] at g1; cases g1;exact Qo g2 (Vo.1 ho _ (Vg hl))
 exact⟨cc.attach.map fun x=>⟨x.1,h1 x.1 x.2⟩,by rw[Xh]; exact List.attach_map_subtype_val cc⟩
def Hi{j:aR}{a a' b b':YB XI}(h:LR j a a')(g:LR j b b'):LR j (a++b) (a'++b'):=by
 refine⟨by rw[Vd,Vd,h.1,g.1],fun i v hi=>?_⟩
 by_cases hc:i<a.length
 rw[Xi,U5 hc] at hi;rw[Xi,U5 (by have:=h.1; omega)]
 exact h.2 i v hi
 rw[Xi,U3 hc] at hi;rw[Xi,U3 (by have:=h.1; omega),<-h.1]
 exact g.2 _ v hi
def M4{j:aR}{a a':YB XI}(h:LR j a a')(n:Nat):LR j (a.take n) (a'.take n):=by
 refine⟨by rw[Vw,Vw,h.1],fun i v hi=>?_⟩
 rw[Wj] at hi ⊢
 split at hi
 rename_i hc; rw[U5 hc]; exact h.2 i v hi
 cases hi
def MN{j:aR}{a a':YB XI}(h:LR j a a')(n:Nat):LR j (a.drop n) (a'.drop n):=by
 refine⟨by rw[VZ,VZ,h.1],fun i v hi=>?_⟩
 rw[Wl] at hi ⊢;exact h.2 _ v hi
def PQ{j:aR}{z z':XI}(h:VR j z z')(n:Nat):LR j (List.replicate n z) (List.replicate n z'):=by
 refine⟨by simp,fun i v hi=>?_⟩
 rw[List.getElem?_replicate] at hi
 split at hi
 rename_i hc; cases hi;exact⟨z',by rw[List.getElem?_replicate,U5 hc],h⟩
 cases hi
def VR.Ry{E:Env}{j:aR}{m:Yq}{w:XM}(hm:MR E j m w){b n:Nat}{cs:YB XI}{tg:Tag}(hg:m.get b=some (.cells cs tg))(htg:tg≠.ro)(hlim:lim n=true){v':XI}(h:VR j (.slice (some ⟨b,0,none⟩) n n) v') :
  ∃k c',j b=some k/\v'=.slice (some ⟨k.c,0,none⟩) n c'/\(n<=c'/\c'<=9223372036854775807)/\∀x,x<=n->VR j (.slice (some ⟨b,0,none⟩) x n) (.slice (some ⟨k.c,0,none⟩) x c'):=by
 have hll:=qx hlim;cases h with
 | slice hj hmo=>exact⟨_,_,hj,rfl,⟨U8 _,by omega⟩,fun x _=>.slice hj hmo⟩
 | sliceM hj hmo a1 a2 a3 a4 =>
  rename_i c' sz na nc k;obtain⟨c0,e0,fz,g1,g2,g3⟩:=hm.gP hj hg;cases tg with
  | ro=>exact Vr rfl htg
  | own=>have:k.more=none:=g2.1; rw[hmo] at this; cases this
  | more sz' =>
   obtain⟨d1,d2,rfl,d4,d5⟩:k.more=some (sz',cs.length,c0.size)/\cs.length<=c0.size/\fz=(0,0)/\0<sz'/\jj sz' c0:=g2;rw[hmo] at d1;simp only[Option.some.injEq,Prod.mk.injEq] at d1;obtain⟨rfl,rfl,rfl⟩:=d1;refine⟨k,c',hj,rfl,⟨a4,?_⟩,fun x hx=>.sliceM hj hmo a1 a2 hx a4⟩;unfold jj at d5;rw[<-a2,Wf,Nat.mul_comm] at d5;exact Nat.le_of_mul_le_mul_left d5 d4
def u2{p q:YA Prim}{pr:Bool}{f:YI}{z:XI}{ρ:Go.Shelf.Ren}(L:Go.Proofs.SlLaysE.n45 Try.prog ρ)(hf:ρ.f 45=f)(F:Func)(c:Code)(hF:Try.prog.funcs[f]? = some F)(hb:F.body=some c)(h0:z.oneCell'=true)(hzr:∀j,VR j z z)
  (v0:∀w,(Go.zeroValue (ρ.t 23)).run Try.prog w=.ok z w) (i0:TypeInfo) (h1:Try.prog.info? (ρ.t 23)=some i0) (h2:i0.size=1)
  {args:YB XI} {m m':Yq} {v:XI} (h:kP z args m=some (v,m')) {j:aR} {w:XM} {args':YB XI} (hm:MR (Yt p q) j m w) (hl:LR j args args') :
  iy (Yt p q).P pr f args'.toArray w (jR (Yt p q) j m w v m'):=by
 unfold kP at h
 split at h
 rename_i b n n' i k
 split at h
 rename_i cs tg hcs;obtain⟨hg,htg,rfl,hcl,_⟩:=nS hcs
 split at h
 rename_i hc; cases h;obtain⟨hi0',hik,hkn,hlim,hone⟩:=hc;obtain⟨v1,vs,rfl,h3,hvs⟩:=hl.cons_inv;obtain⟨v2,v3,rfl,h4,h5⟩:=hvs.cons_inv;obtain⟨v4,v5,rfl,h6,h7⟩:=h5.cons_inv;obtain rfl:=h7.dI;obtain⟨kb,c',hk,rfl,hcap,hres⟩:=VR.Ry hm hg htg hlim h3;cases h4;cases h6;obtain⟨i,rfl⟩:=WZ hi0';obtain⟨k,rfl⟩:=WZ (show 0<=k by omega)
 simp only[Int.ofNat_le,VH] at *;obtain⟨cc,hcc,hH⟩:=Dv hm hk hg htg;obtain⟨d,rfl⟩:=Ji hcc hone;have hdl:d.length=n:=by have:=hcc.1; rw[Vf] at this; omega
 have eH:∀(w:XM) (l:YB C1),Go.Sort.Holds id w kb.c 0 (l.map Subtype.val).toArray->Go.Sort.Holds (Subtype.val:C1->XI) w kb.c 0 l.toArray:=by
  intro w l h i hi;have hi':i<l.length:=by simpa using hi
  have:=h i (by simpa using hi')
  simpa [hi'] using this
 have hcon:=Go.Proofs.AnyE.slices_Delete L (Subtype.val:C1->XI) (fun x=>x.2) ⟨z,h0⟩ v0 i0 h1 h2 kb.c 0 c' i k d.toArray w (eH _ _ hH) (by simp[hdl]; exact hcap.1) hcap.2 hik (by simp[hdl]; exact hkn)
 rw[hf] at hcon;simp only[W2,hdl] at hcon;have hent:∀args w,(callFunc f args).run Try.prog w=.ok (.enter f args) w:=fun args w=>qZ.call f F c hF hb args w;refine .inl ⟨hent _ _,callsIn_wide.2 ?_⟩;refine Calls.mono hcon ?_;rintro e w' ⟨rfl,q,rfl⟩;refine⟨_,rfl,j,?_,hres _ (Nat.sub_le _ _)⟩;have e0:Go.Sort.putRow (Subtype.val:C1->XI) (Sort.ahead w q) kb.c 0 (d.take i++d.drop k++List.replicate (k-i) (⟨z,h0⟩:C1)).toArray=Go.Sort.putRow id (Sort.ahead w q) kb.c 0 ((d.map Subtype.val).take i++(d.map Subtype.val).drop k++List.replicate (k-i) z).toArray:=by
  have e2:∀l:YB C1,Go.Sort.putRow (Subtype.val:C1->XI) (Sort.ahead w q) kb.c 0 l.toArray=Go.Sort.putRow id (Sort.ahead w q) kb.c 0 (l.map Subtype.val).toArray:=fun l=>by
   unfold Go.Sort.putRow Go.Sort.putCells
   congr 1
   funext c
   congr 1
   funext x v
   simp only[W2,Vf,id]
   by_cases hx:0<=x/\x<0+l.length
   simp[show x<l.length by omega]
   rw[U3 hx,U3 hx]
  rw[e2];simp[List.map_take,List.map_drop]
 rw[e0,<-Sort.grow_empty (Go.Sort.putRow id _ _ _ _)];exact IB hm hk hg (by simp; omega) (Hi (Hi (M4 hcc _) (MN hcc _)) (PQ (hzr j) _)) q #[]
 cases h
 cases h
 cases h
end Go.Proofs.Ytmndpgfbkicndaa
namespace Go.Proofs
open Go.Shelf
def Try.gU:Go.Shelf.Ren:=⟨fun|21=>49|27=>71|28=>72|35=>87|39=>46|n=>n,fun|22=>51|3=>3|4=>4|0=>0|n=>n,fun|n=>n⟩
def Try.Jn:Go.Proofs.Lays2.n21 Try.prog Try.gU:={
 mixed:=by kernel_rfl
 f21:=Try.func49.trans (Vs some (by kernel_rfl))
 f27:=Try.func71.trans (Vs some (by kernel_rfl))
 f28:=Try.func72.trans (Vs some (by kernel_rfl))
 f35:=Try.func87.trans (Vs some (by kernel_rfl))
 f39:=Try.func46.trans (Vs some (by kernel_rfl))
 t0:=Try.underlying0
 a0:=Try.isAgg0
 z0:=Try.sizeOf0
 v0:=Try.zeroValue0
 t3:=Try.underlying3
 a3:=Try.isAgg3
 z3:=Try.sizeOf3
 v3:=Try.zeroValue3
 t4:=Try.underlying4
 a4:=Try.isAgg4
 z4:=Try.sizeOf4
 v4:=Try.zeroValue4
 t22:=Try.underlying51
 a22:=Try.isAgg51
 z22:=Try.sizeOf51
 v22:=Try.zeroValue51
 i3:=by kernel_rfl}
end Go.Proofs
namespace Go.Proofs.Ytmndpgfbkicndaa
section
open Go Go.Ab Go.Ab.W
set_option maxRecDepth 10000
def Aw{w:XM}{b o:Nat}{c:YD XI}{e:XJ}{fz:Nat×Nat}{v:XI}(h:w.heap[b]? = some (.cells c e fz)):w.setCell ⟨b,o,none⟩ v=w.putObj b (.cells (c.setIfInBounds o v) e fz):=by
 unfold World.setCell World.putObj
 congr 1
 apply Xw;intro i;rw[Array.getElem?_modify,WV]
 by_cases hb:b=i
 subst hb;rw[U5 rfl,U5 rfl,h];have:=(Vh.1 h).1;rw[U5 this]; rfl
 rw[U3 hb,U3 hb]
def ee(c:YB XI)(o:Nat)(v:XI)(vs:YB XI)(ho:o+vs.length+1<=c.length):aB (c.set o v) (o+1) vs=aB c o (v::vs):=by
 apply Wg;intro i;rw[aQ,aQ,W7,VF,List.getElem?_set]
 by_cases h1:i=o
 subst h1;rw[XP,U5 rfl,XQ,XQ,Xz]; rfl
 by_cases h2:o+1<=i/\i<o+1+vs.length/\i<c.length
 rw[U5 h2,XQ,show i-o=(i-(o+1))+1 by omega]; rfl
 rw[U3 h2,XP,XP]
def fA:∀(vs:YB XI) (o:Nat) {w:XM} {b:Nat} {c:YD XI} {e:XJ} {fz:Nat×Nat},w.heap[b]? = some (.cells c e fz)->o+vs.length<=c.size->w.setCells b o vs=w.putObj b (.cells (aB c.toList o vs).toArray e fz)
 | [],o,w,b,c,e,fz,h,_=>by
  have:aB c.toList o []=c.toList:=by
   apply Wg;intro i;rw[aQ,U3 (by simp; omega)]
  rw[this];exact(nR h).symm
 | v::vs,o,w,b,c,e,fz,h,hl=>by
  have hb:=(Vh.1 h).1;rw[VF] at hl
  show(w.setCell ⟨b,o,none⟩ v).setCells b (o+1) vs=_
  rw[Aw h,fA vs (o+1) (World.putObj_heap_same hb) (by simp; omega),kS]
  congr 3
  rw[Array.toList_setIfInBounds,ee];simp; omega
def Db{c:YB XI}{cs:YB XI}{i:Nat}{v:XI}(hc:∀(x:Nat) (u:XI),cs[x]? = some u->c[x]? = some u)(hi:i<=cs.length)(hl:cs.length+1<=c.length) :
  ∀(x:Nat) (u:XI),(cs.take i++v::cs.drop i)[x]? = some u->(aB (aB c (i+1) (cs.drop i)) i [v])[x]? = some u:=by
 intro x u hx;rw[aQ,aQ,bc];have hlt:(cs.take i).length=i:=by rw[Vw]; omega
 by_cases h1:x<i
 rw[VU (by omega),Wj,U5 h1] at hx
 rw[XP,XP]
 exact hc x u hx
 rw[VO (by omega),hlt] at hx
 by_cases h2:x=i
 subst h2;rw[Xz] at hx;rw[U5 (by simp; omega),Xz]; exact hx
 obtain⟨y,rfl⟩:∃y,x=i+1+y:=⟨x-(i+1),by omega⟩
 rw[show i+1+y-i=y+1 by omega,VV] at hx
 have hy:=(Vn.1 hx).1;rw[VZ] at hy;rw[U3 (by simp; omega),U5 (by simp; omega),show i+1+y-(i+1)=y by omega]
 exact hx
def Cl{w:XM}{need old:Nat}{e:XJ}(h:need<=1073741825):need<=grownCap w need old e/\grownCap w need old e<=9223372036854775807:=by
 unfold grownCap
 show need<=need+_%(2 ^ 63-need)/\need+_%(2 ^ 63-need)<=_
 have:=VM (w.tape w.drawn (.appendCap need old e)) (show 0<2 ^ 63-need by omega)
 omega
def L4{ty:XJ}{w:XM}{A:YD XI}{i m:Nat}{vs ds:YB XI}(h1:i+vs.length<=A.size)(h2:i+m+ds.length<=A.size) :
  ((((w.alloc (.cells A ty)).drew.setCells w.heap.size i vs).drew).setCells w.heap.size (i+m) ds)=w.drew.drew.alloc (.cells (aB (aB A.toList i vs) (i+m) ds).toArray ty):=by
 have hp:(w.alloc (.cells A ty)).heap[w.heap.size]? = some (.cells A ty (0,0)):=by unfold World.alloc; simp
 have hb:w.heap.size<(w.alloc (.cells A ty)).heap.size:=(Vh.1 hp).1;rw[fA (w:=(w.alloc (.cells A ty)).drew) vs i hp h1];have hp2:((w.alloc (.cells A ty)).drew.putObj w.heap.size (.cells (aB A.toList i vs).toArray ty (0,0))).drew.heap[w.heap.size]? = some (.cells (aB A.toList i vs).toArray ty (0,0)):=World.putObj_heap_same hb;rw[fA ds (i+m) hp2 (by simp[bc]; omega)]
 unfold World.alloc World.putObj World.drew;simp;apply Xw;intro x;rw[WV,WO,WO]
 by_cases hx:w.heap.size=x
 subst hx; simp
 rw[U3 hx]; simp[show ¬x=w.heap.size from fun h=>hx h.symm]
def VR.CN{E:Env}{j:aR}{m:Yq}{w:XM}(hm:MR E j m w){b n:Nat}{cs:YB XI}{tg:Tag}(hg:m.get b=some (.cells cs tg))(htg:tg=.own\/tg=.more 1)(hcl:cs.length=n)(hlim:lim n=true)(hp:cs.all aP=true){v':XI}(h:VR j (.slice (some ⟨b,0,none⟩) n n) v') :
  ∃k c' c e,j b=some k/\v'=.slice (some ⟨k.c,0,none⟩) n c'/\w.heap[k.c]? = some (.cells c e (0,0))/\c.size=c'/\n<=c'/\c'<=9223372036854775807/\∀(x:Nat) (u:XI),cs[x]? = some u->c.toList[x]? = some u:=by
 have hll:=qx hlim;have key:∀{c:YD XI},(∀(i:Nat) (v:XI),cs[i]? = some v->∃v',c[i]? = some v'/\VR j v v')->∀(x:Nat) (u:XI),cs[x]? = some u->c.toList[x]? = some u:=fun g x u hx=>by
  obtain⟨u',g1,g2⟩:=g x u hx;have:=gI (Vo.1 hp u (VD hx)) g2;subst this
  simpa using g1
 cases h with
 | slice hj hmo =>
  rename_i k;obtain⟨c,e,fz,g1,g2,g3⟩:=hm.gP hj hg;rcases htg with rfl|rfl
  obtain⟨_,d2,rfl⟩:k.more=none/\c.size=cs.length/\fz=(0,0):=g2;exact⟨k,n,c,e,hj,rfl,g1,by omega,U8 _,by omega,key g3⟩
  have:k.more=some (1,cs.length,c.size):=g2.1;rw[hmo] at this; cases this
 | sliceM hj hmo a1 a2 a3 a4 =>
  rename_i c' sz na nc k;obtain⟨c,e,fz,g1,g2,g3⟩:=hm.gP hj hg;rcases htg with rfl|rfl
  have:k.more=none:=g2.1;rw[hmo] at this; cases this
  obtain⟨d1,d2,rfl,d4,d5⟩:k.more=some (1,cs.length,c.size)/\cs.length<=c.size/\fz=(0,0)/\0<1/\jj 1 c:=g2;rw[hmo] at d1;simp only[Option.some.injEq,Prod.mk.injEq] at d1;obtain⟨rfl,rfl,rfl⟩:=d1;unfold jj at d5;exact⟨k,c',c,e,hj,rfl,g1,by omega,a4,by omega,key g3⟩
def tY(n:Nat):(Builtin.zeroCells (Value.int .i64 0).cells n)=(bl [.int .i64 0] n).toArray:=by
 rw[show(bl [Value.int .i64 0] n)=bl (Value.int .i64 0).cells.toList n from rfl,<-lC (zero:=(Value.int .i64 0).cells)]; rfl
def Dw{p q:YA Prim}{pr:Bool}{args:YB XI}{m m':Yq}{v:XI}(h:lL args m=some (v,m')){j:aR}{w:XM}{args':YB XI}(hm:MR (Yt p q) j m w)(hl:LR j args args') :
  iy (Yt p q).P pr 49 args'.toArray w (jR (Yt p q) j m w v m'):=by
 have hent:∀args w,(callFunc 49 args).run Try.prog w=.ok (.enter 49 args) w:=fun args w=>qZ.call 49 _ _ Try.func49 rfl args w;unfold lL at h
 split at h
 rename_i vb
 split at h
 rename_i v0 h0;cases h;obtain⟨v1,vs,rfl,h1,hvs⟩:=hl.cons_inv;obtain⟨v2,v3,rfl,h2,h3⟩:=hvs.cons_inv;obtain⟨v4,v5,rfl,h4,h5⟩:=h3.cons_inv;obtain rfl:=h5.dI;cases h1; cases h2;obtain⟨kv,c0,cv,ev,hkv,rfl,gv,hv3',h8,h9,h6⟩:=VR.CN hm h0 (.inl rfl) rfl rfl rfl h4;have hcv:∀(x:Nat) (u:XI),[Value.int .i64 v0][x]? = some u->w.cell? ⟨kv.c,0+x,none⟩=some u:=fun x u hx=>by
  have:=h6 x u hx;simp only[World.cell?,gv,VC]
  simpa using this
 have hcon:=Go.Proofs.Any2.slices_Insert_int_end_grow Try.Jn none 0 0 kv.c 0 1 c0 [] [.int .i64 v0] w (by decide) (by decide) (by decide) (by decide) rfl rfl (fun _=>rfl) (fun a h=>by cases h) hcv (fun v hv=>by rw[Vb.1 hv]; rfl)
 change Calls Try.prog 49 _ _ _ at hcon
 refine .inl ⟨hent _ _,callsIn_wide.2 ?_⟩;refine Calls.mono hcon ?_;rintro e w' ⟨rfl,rfl⟩;obtain⟨g0,g2⟩:=Cl (w:=w) (need:=0+1) (old:=0) (e:=Try.gU.t 3) (by decide)
 generalize grownCap w (0+1) 0 (Try.gU.t 3)=cap at g0 g2 ⊢;obtain⟨j',s1,s2⟩:=gK hm (w0:=w.drew) ⟨rfl,rfl,rfl,rfl,Nat.le_succ _⟩ (cs:=[.int .i64 v0]) (cs':=[.int .i64 v0]) (rest:=bl [.int .i64 0] (cap-(0+1))) (elem:=Try.gU.t 3) (sz:=1) (n:=1) (cap:=cap) (.cons (.int _ _) (.nil _)) rfl (by simp[bO]; omega) g0 (by decide) (eS (by decide) _) g2
 refine⟨_,rfl,j',?_,s2⟩;rw[tY];have:(([]:YB XI)++[Value.int .i64 v0]).toArray++(bl [Value.int .i64 0] (cap-(0+1))).toArray=([Value.int .i64 v0]++bl [Value.int .i64 0] (cap-(0+1))).toArray:=by simp
 rw[this];exact s1
 cases h
 rename_i b n n' i vb
 split at h
 rename_i v0 cs tg h0 hcs;obtain⟨hg,htg,rfl,hcl,h10⟩:=nS hcs;rw[Nat.mul_one] at hcl
 split at h
 rename_i hc;cases h;obtain⟨hne,h11,hin,hlim,hpl⟩:=hc;obtain⟨v1,vs,rfl,h1,hvs⟩:=hl.cons_inv;obtain⟨v2,v3,rfl,h2,h3⟩:=hvs.cons_inv;obtain⟨v4,v5,rfl,h4,h5⟩:=h3.cons_inv;obtain rfl:=h5.dI;cases h2;obtain⟨i,rfl⟩:=WZ h11;simp only[Int.ofNat_le,VH] at *;obtain⟨kv,c0,cv,ev,hkv,rfl,gv,hv3',h8,h9,h6⟩:=VR.CN hm h0 (.inl rfl) rfl rfl rfl h4;obtain⟨kb,c',c,e,hk,rfl,gb,hsz,hnc,h7,hcc⟩:=VR.CN hm hg h10 hcl hlim hpl h1;have hll:=qx hlim;have hcell:∀{k:Blk} {c:YD XI} {e:XJ},w.heap[k.c]? = some (.cells c e (0,0))->∀x,w.cell? ⟨k.c,x,none⟩=c[x]?:=fun h x=>by simp[World.cell?,h]
 have hfrz:∀{k:Blk} {c:YD XI} {e:XJ},w.heap[k.c]? = some (.cells c e (0,0))->∀x,w.frozen? ⟨k.c,x,none⟩=false:=fun h x=>by simp[World.frozen?,h]
 have hvb:kv.c≠kb.c:=fun hcc=>hne (hm.inj vb b kv kb hkv hk (by rw[h0]; rfl) (by rw[hg]; rfl) hcc)
 have hcv:∀(x:Nat) (u:XI),[Value.int .i64 v0][x]? = some u->w.cell? ⟨kv.c,0+x,none⟩=some u:=fun x u hx=>by
  have:=h6 x u hx;rw[hcell gv,VC]
  simpa using this
 have hcb:∀(x:Nat) (u:XI),cs[x]? = some u->w.cell? ⟨kb.c,0+x,none⟩=some u:=fun x u hx=>by
  have:=hcc x u hx;rw[hcell gb,VC]
  simpa using this
 have h1v:∀u∈[Value.int .i64 v0],u.oneCell'=true:=fun u hu=>by rw[Vb.1 hu]; rfl
 have h1c:∀u∈cs,u.oneCell'=true:=fun u hu=>by
  have:=Vo.1 hpl u hu;cases u<;>first|rfl|cases this
 have hsp:∀x,x<c'->(w.cell? ⟨kb.c,0+x,none⟩).isSome=true:=fun x hx=>by
  rw[hcell gb,VC,WE (by omega)]; rfl
 have hbv:(w.heap[kb.c]?).isSome=true:=by rw[gb]; rfl
 have hnew:(cs.take i++Value.int .i64 v0::cs.drop i).length=n+1:=by simp; omega
 have hpn:(cs.take i++Value.int .i64 v0::cs.drop i).all aP=true:=Vo.2 fun u hu=>by
  rcases Vq.1 hu with hu|hu
  exact Vo.1 hpl u (WC hu)
  rcases Vu.1 hu with rfl|hu
  rfl
  exact Vo.1 hpl u (WD hu)
 by_cases hroom:n+1<=c'
 
 have hor:OR j ⟨kb.c,some (1,n+1,c')⟩ (.cells (cs.take i++Value.int .i64 v0::cs.drop i) (.more 1)) (.cells (aB (aB c.toList (i+1) (cs.drop i)) i [.int .i64 v0]).toArray e (0,0)):=by
  refine⟨⟨by rw[hnew]; simp[bc,hsz],by rw[hnew]; simp[bc]; omega,rfl,by decide,by unfold jj; simp[bc]; omega⟩,fun x u hx=>?_⟩
  have:=Db (v:=.int .i64 v0) hcc (by omega:i<=cs.length) (by simp; omega) x u hx
  exact⟨u,by simpa using this,.aP (Vo.1 hpn u (VD hx))⟩
 have fin:∀w0:XM,w0.heap=w.heap->Go.Ab.Calm w w0->jR (Yt p q) j m w (.slice (some ⟨m.next,0,none⟩) (n+1) (n+1)) ((m.kill b).alloc (.cells (cs.take i++Value.int .i64 v0::cs.drop i) (.more 1)))
   (.slice (some ⟨kb.c,0,none⟩) (n+1) c') (w0.putObj kb.c (.cells (aB (aB c.toList (i+1) (cs.drop i)) i [.int .i64 v0]).toArray e (0,0))):=fun w0 e0 c1=>by
  have s0:Sim (Yt p q) j m w j m w0:=Sim.of_heap hm e0 c1;have s1:=vi s0.mr hk (by rw[hg]; rfl) hor
  exact⟨_,s0.trans hm s1,.sliceM (k:=⟨kb.c,some (1,n+1,c')⟩) (aR.cn _ _ _) rfl (by omega) (by omega) (U8 _) hroom⟩
 by_cases hlt:i<n
 have hcon:=Go.Proofs.Any2.slices_Insert_int_shift Try.Jn kb.c 0 n c' i kv.c 0 1 c0 cs [.int .i64 v0] w hlt (by decide) hroom h7 hvb hcl rfl hcb (fun x hx=>hsp x (by omega)) (fun x _=>hfrz gb _) hcv h1c h1v ev e cv.size c.size
  (by simp[World.shape?,gv]) (by simp[World.shape?,gb]) (by omega) (hfrz gv _) (hfrz gv _)
 change Calls Try.prog 49 _ _ _ at hcon
 refine .inl ⟨hent _ _,callsIn_wide.2 ?_⟩;refine Calls.mono hcon ?_;rintro e' w' ⟨rfl,rfl⟩;refine⟨_,rfl,?_⟩;rw[VC,VC,fA (w:=w.drew) (cs.drop i) (i+1) gb (by simp; omega),fA [.int .i64 v0] i (World.putObj_heap_same (w:=w.drew) (Vh.1 gb).1) (by simp[bc]; omega),kS]
 exact fin w.drew rfl ⟨rfl,rfl,rfl,Nat.le_succ _⟩
 obtain rfl:i=n:=by omega
 have hcon:=Go.Proofs.Any2.slices_Insert_int_end_room Try.Jn kb.c 0 i c' kv.c 0 1 c0 [.int .i64 v0] w (by decide) hroom h7 rfl (fun x hx=>by rw[Nat.add_assoc]; exact hsp (i+x) (by omega)) (fun x _=>hfrz gb _) hcv h1v
 change Calls Try.prog 49 _ _ _ at hcon
 refine .inl ⟨hent _ _,callsIn_wide.2 ?_⟩;refine Calls.mono hcon ?_;rintro e' w' ⟨rfl,rfl⟩;refine⟨_,rfl,?_⟩;have hd:aB c.toList (i+1) (cs.drop i)=c.toList:=by
  rw[List.drop_of_length_le (by omega)]
  apply Wg;intro x;rw[aQ,U3 (by simp; omega)]
 rw[VC,fA [.int .i64 v0] i gb (by simp; omega)]
 have:=fin w rfl ⟨rfl,rfl,rfl,U8 _⟩;rw[hd] at this;exact this
 
 have hc':c'=n:=by omega
 subst hc';have sk:=Bq hm hk;have fin:∀(w0:XM) (cap:Nat) (rest:YB XI),w0.heap=w.heap->Go.Ab.Calm w w0->c'+1<=cap->cap<=9223372036854775807->rest.all aP=true->c'+1+rest.length=cap->jR (Yt p q) j m w (.slice (some ⟨m.next,0,none⟩) (c'+1) (c'+1)) ((m.kill b).alloc (.cells (cs.take i++Value.int .i64 v0::cs.drop i) (.more 1)))
   (.slice (some ⟨w.heap.size,0,none⟩) (c'+1) cap) (w0.alloc (.cells ((cs.take i++Value.int .i64 v0::cs.drop i)++rest).toArray (Try.gU.t 3))):=fun w0 cap rest e0 c1 g0 g2 g1 g3=>by
  obtain⟨j',s1,s2⟩:=gK sk.mr (w0:=w0) ⟨e0,c1⟩ (cs:=cs.take i++Value.int .i64 v0::cs.drop i) (cs':=cs.take i++Value.int .i64 v0::cs.drop i) (rest:=rest) (elem:=Try.gU.t 3) (sz:=1) (n:=c'+1) (cap:=cap) (LR.plain hpn) (by rw[hnew,Nat.mul_one]) (by rw[Vd,hnew]; omega) g0 (by decide) g1 g2
  have e3:(m.kill b).next=m.next:=Yq.next_kill _ _
  rw[e3] at s2;exact⟨j',sk.trans hm s1,s2⟩
 obtain⟨g0,g2⟩:=Cl (w:=w) (need:=c'+1) (old:=c') (e:=Try.gU.t 3) (by omega)
 by_cases hlt:i<c'
 have hcon:=Go.Proofs.Any2.slices_Insert_int_grow Try.Jn kb.c 0 c' c' i kv.c 0 1 c0 cs [.int .i64 v0] w hlt (by decide) (U8 _) (by omega) (by omega) hcl rfl hcb hcv h1c h1v
 change Calls Try.prog 49 _ _ _ at hcon
 refine .inl ⟨hent _ _,callsIn_wide.2 ?_⟩;refine Calls.mono hcon ?_;rintro e' w' ⟨rfl,rfl⟩;generalize grownCap w (c'+1) c' (Try.gU.t 3)=cap at g0 g2 ⊢;refine⟨_,rfl,?_⟩;rw[tY,tY];obtain⟨A,hA⟩:∃A:YD XI,A=(cs.take i).toArray++(bl [Value.int .i64 0] (c'+1-i)).toArray++(bl [Value.int .i64 0] (cap-(c'+1))).toArray:=⟨_,rfl⟩;have hAl:A.toList=cs.take i++(bl [Value.int .i64 0] (c'+1-i)++bl [Value.int .i64 0] (cap-(c'+1))):=by rw[hA]; simp
 have hAs:A.size=cap:=by rw[<-WN,hAl]; simp[bO]; omega
 rw[<-hA,L4 (A:=A) (i:=i) (m:=1) (vs:=[.int .i64 v0]) (ds:=cs.drop i) (by simp; omega) (by simp; omega)]
 have:=fin w.drew.drew cap (bl [.int .i64 0] (cap-(c'+1))) rfl ⟨rfl,rfl,rfl,by show w.drawn<=w.drawn+1+1; omega⟩ g0 g2 (eS (by decide) _) (by simp[bO]; omega)
 have e1:aB (aB A.toList i [Value.int .i64 v0]) (i+1) (cs.drop i)=(cs.take i++Value.int .i64 v0::cs.drop i)++bl [Value.int .i64 0] (cap-(c'+1)):=by
  apply Wg;intro x;have hti:(cs.take i).length=i:=by rw[Vw]; omega
  rw[aQ,aQ,bc];have hAL:A.toList.length=cap:=by rw[WN,hAs]
  by_cases h13:x<i
  rw[XP,XP,hAl,VU (by omega),VT,VU (by omega)]
  by_cases h12:x=i
  subst h12;rw[XP,U5 (by simp; omega),VT,VO (by omega),hti,Xz]; rfl
  by_cases h14:x<c'+1
  rw[U5 (by simp; omega),VT,VO (by omega),hti,show x-i=(x-(i+1))+1 by omega,WY,VV,VU (by simp; omega)]
  rw[U3 (by simp; omega),U3 (by simp; omega),hAl,VO (by omega),hti,VO (by rw[bO]; simp; omega),VO (by omega),bO,hnew]
  congr 1
  simp; omega
 rw[e1]; exact this
 obtain rfl:i=c':=by omega
 have hcon:=Go.Proofs.Any2.slices_Insert_int_end_grow Try.Jn (some ⟨kb.c,0,none⟩) i i kv.c 0 1 c0 cs [.int .i64 v0] w (by decide) (U8 _) (by omega) (by omega) hcl rfl (fun h=>by cases h) (fun a ha x u hx=>by cases ha; rw[Addr.add_lit]; exact hcb x u hx) hcv h1v
 change Calls Try.prog 49 _ _ _ at hcon
 refine .inl ⟨hent _ _,callsIn_wide.2 ?_⟩;refine Calls.mono hcon ?_;rintro e' w' ⟨rfl,rfl⟩;generalize grownCap w (i+1) i (Try.gU.t 3)=cap at g0 g2 ⊢;refine⟨_,rfl,?_⟩;rw[tY];have:=fin w.drew cap (bl [.int .i64 0] (cap-(i+1))) rfl ⟨rfl,rfl,rfl,Nat.le_succ _⟩ g0 g2 (eS (by decide) _) (by simp[bO]; omega)
 have e1:(cs++[Value.int .i64 v0]).toArray++(bl [Value.int .i64 0] (cap-(i+1))).toArray=((cs.take i++Value.int .i64 v0::cs.drop i)++bl [Value.int .i64 0] (cap-(i+1))).toArray:=by
  rw[WG (by omega),List.drop_of_length_le (by omega)]; simp
 rw[e1]; exact this
 cases h
 cases h
 cases h
end
section
open Go Go.Ab Go.Ab.W
def E2{t:XJ}(h:(Try.prog.info? t).map (·.size)=some 1):∃i,Try.prog.info? t=some i/\i.size=1:=by
 cases e:Try.prog.info? t with
 | none=>rw[e] at h; cases h
 | some i=>rw[e] at h; exact⟨i,rfl,U9 h⟩
def vY:EnvOk (Yt none none):=Ax BF fun f P hp args m v m' h j w args' hm hl=>by
 have hp0:(Yt none none).cZ f=Lo f:=by
  show(if f=24 then none else if f=10 then none else Lo f)=_
  split
  rename_i e; subst e; rfl
  split
  rename_i e; subst e; rfl
  rfl
 rw[hp0] at hp;unfold Lo at hp
 split at hp
 rename_i e; subst e; cases hp;exact AM h hm hl
 split at hp
 rename_i e; subst e; cases hp;obtain⟨i0,hi0,hs⟩:=E2 (t:=51) (by kernel_rfl)
 exact u2 Try.TG rfl _ _ Try.func85 rfl rfl (fun j=>.snil 0 0) Try.zeroValue51 i0 hi0 hs h hm hl
 split at hp
 rename_i e; subst e; cases hp;obtain⟨i0,hi0,hs⟩:=E2 (t:=3) (by kernel_rfl)
 exact u2 Try.T8 rfl _ _ Try.func48 rfl rfl (fun j=>.int _ _) Try.zeroValue3 i0 hi0 hs h hm hl
 split at hp
 rename_i e; subst e; cases hp;exact Dw h hm hl
 cases hp
end
end Go.Proofs.Ytmndpgfbkicndaa
namespace Go.Ab.W
open Go Go.Ab
section
variable{E:Env}{n:Nat}{m0 m:Yq}{fs fs':Fs}{ps ps':YB Pc}{ops:YD Oper}{os:YB Oper}{K:Tm->Yq->Prop}{dr:Bool}{fn:YI}{ro:YA Nat}{c:Code}{Q:Yr->Tm->Yq->Prop}
variable{ty oty:XJ}{p:String}{af:YD Edge}{d:Nat}{g:YA (Nat×Bool)}{x:XK}{v:XI}
def lw{σ ρ γ:Type}{δ:ρ->Type}{body:σ->YA (σ⊕ρ)}{X:(r:ρ)->δ r->En}{N:Nat}{s:σ}{r:ρ}(h:bL body N s=some r)(g:γ)(I:σ->γ->En)(T:ai m0 ps (I s g).ps)
  (hb:∀s g r,body s=some r->Wk E n fn ro c (match r with|.inl s'=>oa m0 (I s')|.inr r=>oa m0 (X r)) m0 (I s g).fs (I s g).ps)
  (hs:sub fs (I s g).fs:=by repeat first|exact sn|refine sc rfl ?_)
  (hn:∀s g,(I s g).e=.normal:=by exact fun _ _=>rfl) (hx:∀r g,(X r g).e≠.normal:=by intro r d; first |(intro e; cases e; done) |(rcases r with r|r<;>first |(intro e; cases e; done) |(rcases r with r|r<;>first |(intro e; cases e; done) |(rcases r with r|r<;>intro e<;>cases e)))):Wk E n fn ro (.loop c) (oa m0 (ap X r)) m0 fs ps:=.H4 hs T (Wk.loop body I X hb hn hx N s r h g)
def aT{γ:Type}{G:γ->En}{e:Yr}(g:γ)(T:ai m0 ps (G g).ps)(he:e=(G g).e:=by rfl)(hs:sub fs (G g).fs:=by repeat first|exact sn|refine sc rfl ?_):At (oa m0 G) e m0 fs ps:=At.en g he hs T
def aO:YB Pc->YB Pc->YA (YB Pc)
 | [],ps=>some ps
 | p::l,ps=>match aO l ps with
  | some q=>some (p::q)
  | none=>none
def Ns:∀{l ps q:YB Pc},aO l ps=some q->q=l++ps
 | [],ps,q,h=>by cases h; rfl
 | p::l,ps,q,h=>by
  unfold aO at h
  split at h
  rename_i q' e; cases h; rw[Ns e]; rfl
  cases h
def UD{α:Type}{r:Rep α}{ag:Bool}{sz b o w j c q off:Nat}{R:XH}{L:YB α}{es:XF}{z:α}{V:r.G->XI}{N:r.G->YB Pc}(ht:TyI E.P ty ag sz)(hx:ev E fs x=some (ptr b off))(ho:off=o+j*w+c)(hli:∀m,Hp m0 m ps->rM m b o w es)(hq:pk ps q=some (.gen (cE r R L es)))(hl:L[j]? = some z)(hv:∀g,Ag ag sz (r.V z g) c=some (V g))(hs:yO ag sz c w=true)(hN:∀g,aO (r.N z g R) ps=some (N g)):Ox E m0 fs ps (.load ty x) V N :=
 QI ht hx ho hli hq hl hv hs fun g=>Ns (hN g)
def wl{α:Type}{r:Rep α}{ag:Bool}{sz b o j l off:Nat}{R:XH}{L:YB α}{es:XF}{z:α}{V:r.G->XI}{N:r.G->YB Pc}(w c q k:Nat)(hl:L[j]? = some z)(kk:∀g,Wo dr E n ops K os m0 ((d,V g)::fs) (N g))(ht:TyI E.P oty ag sz:=by exact TyC.t)(hx:ev E fs x=some (ptr b off):=by rfl)(hp:pk ps k=some (.ro b o w l es):=by rfl)(ho:off=o+j*w+c:=by rfl)(hq:pk ps q=some (.gen (cE r R L es)):=by rfl)(hv:∀g,Ag ag sz (r.V z g) c=some (V g):=by exact fun _=>rfl)(hs:yO ag sz c w=true:=by rfl)(hN:∀g,aO (r.N z g R) ps=some (N g):=by exact fun _=>rfl)(hd:Nat.blt d n=true:=by rfl):Wo dr E n ops K (⟨some d,.load oty x,ty,p,af,none⟩::os) m0 fs ps:=X1 (UD ht hx ho (RZ hp) hq hl hv hs hN) gn hd kk
variable{α:Type}{V:α->XI}{N:α->YB Pc}{R S:α->Pc}{f:XK}{q:YI}{ars:YD XK}{ts:YD XJ}{args:YB XI}{prs:YB (Nat×Nat)}{ss:YB Nk}
def Hr(hg:xJ ops fs g true)(hc:∀m,Hp m0 m ps->aK E q args m (fun v m'=>∃x,v=V x/\Hp m m' [R x,S x,.gen (wG (nA ps))]))(k:∀x,Wo dr E n ops K os m0 ((d,V x)::fs) (R x::S x::ps))(hf:ev E fs f=some (.func (.func q) #[] #[]):=by rfl)(ha:ia E fs ars.toList=some args:=by rfl)(ho:∀x,uD [R x,S x]=true:=by exact fun _=>rfl)(hd:Nat.blt d n=true:=by rfl):Wo dr E n ops K (⟨some d,.call ⟨.value f,ars,ts⟩,ty,p,af,g⟩::os) m0 fs ps:=X1 (Be (N:=fun x=>[R x,S x]) hf ha hc ho) hg hd k
def wq{ρ γ:Type}{first cap:YD XI}(F:ρ->γ->XI×YB Pc)(r:ρ)(hc:∀m,Hp m0 m ps->aK E q (first.toList++args++cap.toList) m (fun v m'=>∃x,v=(F r x).1/\Hp m0 m' (F r x).2))(k:∀x,Wo dr E n ops K os m0 ((d,(F r x).1)::fs) (F r x).2)(hf:ev E fs f=some (.func (.func q) first cap):=by rfl)(ha:ia E fs ars.toList=some args:=by rfl)(hd:Nat.blt d n=true:=by rfl):Wo dr E n ops K (⟨some d,.call ⟨.value f,ars,ts⟩,ty,p,af,none⟩::os) m0 fs ps:=X1 (nq hf ha hc) gn hd k
end
end Go.Ab.W
namespace Go.Proofs.Ytmndpgfbkicndaa
open Go Go.Ab Go.Ab.W
set_option maxRecDepth 10000
set_option maxHeartbeats 4000000
attribute [local irreducible] Wo Wk At Wn Od Ox bj bW
attribute [local irreducible] Tm.at Trie.set Trie.get Yq.get Yq.set Yq.alloc Yq.ww Yq.kill
variable{p q:YA Prim}
abbrev tL(z0)(z1)(z2):=Pc.rd z0 z1 2 (List.length z2) (List.map (eP (eI .i64) (eI .i64)) z2)
abbrev gQ{γ0:Type}(z0:Rep γ0)(z1)(z2:YB γ0)(z3):=Pc.gen (cE z0 z1 z2 z3)
abbrev Qq(z0)(z1){β2:Type}(z2:YB β2)(z3)(z4)(z5){β6:Type}(z6:YB β6)(z7):=Pc.obj z0 (.cells [.slice z1 (List.length z2) z3,.slice (some ⟨z4,z5,none⟩) (List.length z6) z7] .own)
abbrev gL(z0):=Pc.obj z0 (.cells [.int .i64 0] .own)
abbrev Gv(z0)(z1){β2:Type}(z2:YB β2)(z3)(z4){β5:Type}(z5:YB β5)(z6):=Pc.obj z0 (.cells [.slice z1 (List.length z2) z3,.slice z4 (List.length z5) z6] .own)
abbrev Fx(z0)(z1){β2:Type}(z2:YB β2)(z3):=Pc.rd z0 z1 2 (List.length z2) z3
abbrev bZ(z0){β1:Type}(z1:YB β1):=Value.slice z0 (List.length z1) (List.length z1)
abbrev Uh(z0){β1:Type}(z1:YB β1)(z2)(z3){β4:Type}(z4:YB β4)(z5)(z6){β7:Type}(z7:YB β7)(z8)(z9){β10:Type}(z10:YB β10)(z11)(z12){β13:Type}(z13:YB β13)(z14)(z15){β16:Type}(z16:YB β16)(z17):=Value.agg #[.slice z0 (List.length z1) z2,.slice z3 (List.length z4) z5,.slice z6 (List.length z7) z8,.slice z9 (List.length z10) z11,.slice z12 (List.length z13) z14,.slice z15 (List.length z16) z17]
abbrev bu(z0):=Value.int .i64 z0
abbrev qo(z0)(z1)(z2){β3:Type}(z3:YB β3)(z4):=Pc.obj z0 (.cells [.slice (some ⟨z1,z2,none⟩) (List.length z3) z4] .own)
abbrev Rp(z0)(z1)(z2){β3:Type}(z3:YB β3)(z4):=Pc.rd (some ⟨z0,z1,none⟩) z2 2 (List.length z3) z4
abbrev dz(z0)(z1):=Pc.sl z0 2 (List.length z1) (List.map (eP (eI .i64) (eI .i64)) z1)
abbrev iq(z0)(z1)(z2)(z3)(z4)(z5):=Pc.obj z0 (.cells [.int .i64 z1,.int .i64 z2,.int .i64 z3,.int .i64 z4,.int .i64 z5] .own)
abbrev iQ(z0)(z1)(z2):=Pc.obj z0 (.cells [.int .i64 z1,.int .i64 z2] .own)
abbrev eD{β0:Type}(z0:YB β0):=Value.int .i64 ((List.length z0):Int)
abbrev vz(z0)(z1){β2:Type}(z2:YB β2)(z3){β4:Type}(z4:YB β4):=Pc.obj z0 (.cells [.slice z1 (List.length z2) (List.length z2),.slice z3 (List.length z4) (List.length z4)] .own)
abbrev pz(z0)(z1):=Pc.sl z0 4 (List.length z1) (List.map (eP (eI .i64) (eP (eI .i64) (eP (eI .i64) (eI .i64)))) z1)
abbrev gN(z0)(z1)(z2)(z3)(z4):=Pc.obj z0 (.cells [.int .i64 z1,.int .i64 z2,.int .i64 z3,.int .i64 z4] .own)
abbrev KW(z0)(z1)(z2)(z3):=Pc.rd (some ⟨z0,z1,none⟩) z2 2 (List.length z3) (List.map (eP (eI .i64) (eI .i64)) z3)
abbrev bQ(z0){β1:Type}(z1:YB β1)(z2):=Value.slice z0 (List.length z1) z2
abbrev rl(z0){β1:Type}(z1:YB β1):=Pc.obj z0 (.cells [.int .i64 ((List.length z1):Int)] .own)
abbrev TM(z0)(z1)(z2)(z3){β4:Type}(z4:YB β4)(z5)(z6){β7:Type}(z7:YB β7)(z8)(z9):=Pc.obj z0 (.cells [.int .u8 ((z1:Nat):Int),.int .u8 ((z2:Nat):Int),.slice z3 (List.length z4) z5,.slice z6 (List.length z7) z8,.bool z9] .own)
abbrev Ss(z0)(z1){β2:Type}(z2:YB β2)(z3):=Pc.ro z0 z1 2 (List.length z2) z3
abbrev lq(z0)(z1){β2:Type}(z2:YB β2)(z3){β4:Type}(z4:YB β4):=Pc.obj z0 (.cells [.slice z1 (List.length z2) (List.length z2),.slice (some ⟨z3,0,none⟩) (List.length z4) (List.length z4)] .own)
abbrev Ty(z0)(z1)(z2){β3:Type}(z3:YB β3)(z4):=Pc.rd (some ⟨z0,z1,none⟩) z2 1 (List.length z3) z4
abbrev TI(z0)(z1)(z2)(z3):=Pc.rd (some ⟨z0,z1,none⟩) z2 1 (List.length z3) (List.map (eI .i64) z3)
abbrev Mf(z0)(z1)(z2):=Pc.ro z0 z1 2 (List.length z2) (List.map (eP (eI .i64) (eI .i64)) z2)
abbrev wV(z0)(z1){β2:Type}(z2:YB β2)(z3):=Value.slice (some ⟨z0,z1,none⟩) (List.length z2) z3
abbrev cG(z0):=Value.slice (some ⟨z0,0,none⟩) 4 4
abbrev gA(z0):=Pc.obj z0 (.cells [.slice none 0 0,.slice none 0 0] .own)
abbrev fk(z0)(z1):=Pc.obj z0 (.cells [.int .i64 z1] .own)
abbrev BQ(z0)(z1){β2:Type}(z2:YB β2)(z3):=Pc.obj z0 (.cells [.slice z1 (List.length z2) z3] .own)
abbrev eW(z0)(z1):=Pc.obj z0 (.cells [.map (some z1)] .own)
abbrev Mv(z0)(z1)(z2):=Pc.rd z0 z1 1 (List.length z2) (List.map (eN .u8) z2)
abbrev lF(m)(z0)(z1)(z2):=Rd m z0 z1 2 (List.length z2) (List.map (eP (eI .i64) (eI .i64)) z2)
abbrev TV(z0)(z1)(z2):=Pc.ro z0 z1 1 (List.length z2) (List.map (eI .i64) z2)
abbrev AZ(z0)(z1)(z2)(z3)(z4)(z5)(z6):=Pc.obj z0 (.cells [.int .u8 ((z1:Nat):Int),.int .u8 ((z2:Nat):Int),.int .u8 ((z3:Nat):Int),.int .i64 z4,.int .i64 z5,.int .i64 z6] .own)
abbrev TO(z0)(z1){β2:Type}(z2:YB β2)(z3):=Pc.ro z0 z1 1 (List.length z2) z3
abbrev mU(z0){β1:Type}(z1:YB β1)(z2)(z3){β4:Type}(z4:YB β4)(z5):=Value.agg #[.slice z0 (List.length z1) z2,.slice z3 (List.length z4) z5]
abbrev RL(z0)(z1)(z2)(z3)(z4)(z5)(z6)(z7)(z8)(z9)(z10)(z11):=Value.agg #[.int .u8 ((z0:Nat):Int),.int .u8 ((z1:Nat):Int),.int .u8 ((z2:Nat):Int),.int .i64 z3,.int .i64 z4,.int .i64 z5,.int .u8 ((z6:Nat):Int),.int .u8 ((z7:Nat):Int),.int .u8 ((z8:Nat):Int),.int .i64 z9,.int .i64 z10,.int .i64 z11]
abbrev CV(z0)(z1){β2:Type}(z2:YB β2):=Pc.obj z0 (.cells [.slice z1 (List.length z2) (List.length z2)] .own)
abbrev y7(z0)(z1)(z2):=Pc.arr z0 4 (List.length z1) (List.map (eP (eI .i64) (eP (eI .i64) (eP (eI .i64) (eI .i64)))) z1) z2
abbrev mV(z0){β1:Type}(z1:YB β1)(z2):=Pc.sl z0 2 (List.length z1) z2
abbrev yS(z0)(z1):=Pc.obj z0 (.map (List.map (eM (fun n:Int=>.int .i64 n) (fun n:Int=>.int .i64 n)) z1))
abbrev pD(z0)(z1)(z2):=Pc.rd z0 z1 1 (List.length z2) (List.map (eI .i64) z2)
abbrev OQ(z0)(z1)(z2){β3:Type}(z3:YB β3)(z4)(z5){β6:Type}(z6:YB β6)(z7)(z8):=Value.agg #[.int .u8 ((z0:Nat):Int),.int .u8 ((z1:Nat):Int),.slice z2 (List.length z3) z4,.slice z5 (List.length z6) z7,.bool z8]
abbrev nK(z0)(z1):=Value.agg #[.int .i64 z0,.int .i64 z1]
abbrev km(z0)(z1){β2:Type}(z2:YB β2)(z3):=Pc.rd z0 z1 1 (List.length z2) z3
abbrev mW(z0):=Value.slice (some ⟨z0,0,none⟩) 1 1
abbrev HD(z0)(z1)(z2):=Value.slice (some ⟨z0,0,none⟩) ((z1++([z2]:XE)).length) ((z1++([z2]:XE)).length)
abbrev eQ(z0):=Pc.gen (wG z0)
abbrev yw(z0){β1:Type}(z1:YB β1):=Value.slice (some ⟨z0,0,none⟩) (List.length z1) (List.length z1)
abbrev pC(m)(z0)(z1){β2:Type}(z2:YB β2)(z3):=Rd m z0 z1 2 (List.length z2) z3
abbrev CU(m)(z0)(z1)(z2):=Rd m z0 z1 1 (List.length z2) (List.map (eN .u8) z2)
abbrev Qe(z0)(z1)(z2)(z3){β4:Type}(z4:YB β4)(z5){β6:Type}(z6:YB β6)(z7):=Pc.obj z0 (.cells [.int .u8 ((z1:Nat):Int),.int .u8 ((z2:Nat):Int),.slice z3 (List.length z4) (List.length z4),.slice z5 (List.length z6) z7,.bool false] .own)
abbrev N6(z0)(z1)(z2)(z3)(z4)(z5)(z6)(z7):=Value.agg #[.int .i64 z0,.int .i64 z1,.int .i64 z2,.int .i64 z3,.int .i64 z4,.int .i64 z5,.int .i64 z6,.int .i64 z7]
abbrev q6{γ0:Type}{ρ0:Rep γ0}(z0:Orp ρ0)(z1)(z2:YB γ0)(z3):=Pc.gen (cY z0 z1 z2 z3)
abbrev yB(z0)(z1):=Pc.sl z0 1 (List.length z1) (List.map (eI .i64) z1)
abbrev Dm(m)(z0)(z1)(z2):=Rd m z0 z1 1 (List.length z2) (List.map (eI .i64) z2)
abbrev Lc(z0)(z1){β2:Type}(z2:YB β2):=Pc.obj z0 (.cells [.slice z1 (List.length z2) (List.length z2),.slice none 0 0] .own)
abbrev OB(z0)(z1)(z2)(z3)(z4):=Value.agg #[.int .i64 z0,.int .i64 z1,.int .i64 z2,.int .i64 z3,.int .i64 z4]
abbrev FQ(z0):=Pc.obj z0 (.cells [.int .i64 10] .own)
abbrev Fu(z0):=Pc.obj z0 (.cells [.int .i64 5] .own)
abbrev Fe(z0):=Value.slice (some ⟨z0,0,none⟩) 3 3
abbrev Kt(z0):=Pc.obj z0 (.cells [.int .i64 7] .own)
abbrev JA(z0):=Pc.obj z0 (.cells [.int .i64 8] .own)
abbrev JJ(z0):=Pc.obj z0 (.cells [.int .i64 9] .own)
abbrev Mo(z0):=Value.slice (some ⟨z0,0,none⟩) 12 12
abbrev ic{τ0:Type}(z0)(z1)(z2)(z3)(z4)(z5)(z6:YB τ0)(z7)(z8)(z9:Rep τ0)(z10)(z:YB Pc):=Qq z0 z1 z2 z3 z4 z5 z6 z7::tL z1 z3 z2::Ss z4 z5 z6 z8::gQ z9 z10 z6 z8::Rp z4 z5 z7 z6 z8::z
abbrev Tu{τ0:Type}(z0)(z1)(z2)(z3)(z4)(z5:YB τ0)(z6)(z7:Rep τ0)(z8)(z9)(z10)(z11)(z12)(z13)(z14:YB τ0)(z15)(z16)(z:YB Pc):=tL z0 z1 z2::Fx z3 z4 z5 z6::gQ z7 z8 z5 z6::tL z9 z10 z11::Fx z12 z13 z14 z15::gQ z7 z16 z14 z15::z
abbrev ig{τ0:Type}(z0)(z1)(z2)(z3)(z4)(z5:YB τ0)(z6)(z7)(z8:Rep τ0)(z9)(z:YB Pc):=Gv z0 z1 z2 z3 z4 z5 z6::tL z1 z3 z2::Fx z4 z6 z5 z7::gQ z8 z9 z5 z7::z
abbrev kT{τ0:Type}(z0)(z1)(z2:YB τ0)(z3)(z4:Rep τ0)(z5)(z6)(z:YB Pc):=TO z0 z1 z2 z3::gQ z4 z5 z2 z3::Ty z0 z1 z6 z2 z3::z
abbrev vU(z0)(z1)(z2)(z3)(z4)(z:YB Pc):=qo z0 z1 z2 z3 z4::Mf z1 z2 z3::KW z1 z2 z4 z3::z
abbrev ud{τ0:Type}(z0)(z1)(z2:YB τ0)(z3)(z4:Rep τ0)(z5)(z6)(z:YB Pc):=Ss z0 z1 z2 z3::gQ z4 z5 z2 z3::Rp z0 z1 z6 z2 z3::z
abbrev xa{τ0:Type}(z0)(z1)(z2)(z3)(z4:YB τ0)(z5)(z6:Rep τ0)(z7)(z:YB Pc):=vz z0 z1 z2 z3 z4::dz z1 z2::mV z3 z4 z5::gQ z6 z7 z4 z5::z
abbrev vS{τ0:Type}(z0)(z1)(z2:YB τ0)(z3)(z4)(z:Fs):=(10,wV z0 z1 z2 z3)::(11,eD z2)::(12,bu z4)::z
abbrev qB(z0)(z1)(z2)(z3)(z:YB Pc):=TV z0 z1 z2::TI z0 z1 z3 z2::z
abbrev py(z0)(z1)(z2)(z3)(z4)(z5)(z6)(z7)(z8)(z9)(z:YB Pc):=TM z0 z1 z2 z3 z4 z5 z6 z7 z8 z9::Mv z3 z5 z4::Mv z6 z8 z7::z
abbrev jC(z0)(z1)(z:Fs):=(2,ptr z0 0)::(3,ptr z1 0)::z
abbrev Aq(z0)(z1)(z2)(z3)(z4)(z:Fs):=(1,ptr z0 0)::(2,ptr z1 0)::(3,bu z2)::(4,bu z3)::(5,ptr z4 0)::z
abbrev MZ{τ0:Type}(z0)(z1)(z2)(z3)(z4)(z5:YB τ0)(z6)(z7:Rep τ0)(z8)(z:YB Pc):=tL z0 z1 z2::Fx z3 z4 z5 z6::gQ z7 z8 z5 z6::z
abbrev wZ{τ0:Type}(z0)(z1)(z2:YB τ0)(z3)(z4)(z:Fs):=(18,wV z0 z1 z2 z3)::(19,eD z2)::(20,bu z4)::z
abbrev tF(z0)(z1)(z2)(z3)(z4)(z:YB Pc):=gL z0::gL z1::CV z2 z3 z4::pz z3 z4::z
abbrev kq(z0)(z1)(z2)(z3)(z:YB Pc):=BQ z0 z1 z2 z3::tL z1 z3 z2::z
abbrev fJ{τ0:Type}(z0)(z1)(z2)(z3:YB τ0)(z:YB Pc):=gL z0::gL z1::rl z2 z3::z
abbrev BB{τ0:Type}(z0)(z1:YB τ0)(z2)(z3)(z:Fs):=(10,bQ z0 z1 z2)::(11,eD z1)::(12,bu z3)::z
abbrev BI{τ0:Type}(z0)(z1:YB τ0)(z2)(z3)(z:Fs):=(7,bQ z0 z1 z2)::(8,eD z1)::(9,bu z3)::z
abbrev tE{τ0:Type}(z0)(z1)(z2)(z3)(z4)(z5)(z6:YB τ0)(z7)(z8)(z9)(z:YB Pc):=Qq z0 z1 z2 z3 z4 z5 z6 z7::tL z1 z3 z2::gL z8::gL z9::z
abbrev bq:Rep (YB Int):=(rS (eI .i64) 1)
abbrev al:Rep (YB Int×XE):=(rP (rS (eI .i64) 1) (rL bq))
def Mk:(Yt p q).P.underlying 104=some (.array 2 3):=by kernel_rfl
def cK:TyI (Yt p q).P 3 false 1:=⟨by kernel_rfl,by kernel_rfl,by kernel_rfl⟩
instance:TyC (Yt p q).P 3 false 1:=⟨cK⟩
def u3:(Yt p q).P.underlying 3=some (.int .i64):=by kernel_rfl
def UR:bp (Yt p q).P 98=some (.map none):=by kernel_rfl
def RV:TyI (Yt p q).P 98 false 1:=⟨by kernel_rfl,by kernel_rfl,by kernel_rfl⟩
instance:TyC (Yt p q).P 98 false 1:=⟨RV⟩
def fZ:TyI (Yt p q).P 34 true 2:=⟨by kernel_rfl,by kernel_rfl,by kernel_rfl⟩
instance:TyC (Yt p q).P 34 true 2:=⟨fZ⟩
def fF:∀b o,aG (Yt p q).P 34 (ptr b o) 1=some (ptr b (o+1)):=fun _ _=>by kernel_rfl
instance:FaC (Yt p q).P 34 1 1:=⟨fF⟩
def nu:TyI (Yt p q).P 32 false 1:=⟨by kernel_rfl,by kernel_rfl,by kernel_rfl⟩
instance:TyC (Yt p q).P 32 false 1:=⟨nu⟩
def u32:(Yt p q).P.underlying 32=some (.slice 54):=by kernel_rfl
instance:UsC (Yt p q).P 32 54:=⟨u32⟩
def kJ:SlT (Yt p q).P 32 54 2:=SlT.of (by kernel_rfl)
instance:SlC (Yt p q).P 32 54 2:=⟨kJ⟩
def Lu:TyI (Yt p q).P 54 true 2:=⟨by kernel_rfl,by kernel_rfl,by kernel_rfl⟩
instance:TyC (Yt p q).P 54 true 2:=⟨Lu⟩
def z54:bp (Yt p q).P 54=some (.agg #[.slice none 0 0,.slice none 0 0]):=by kernel_rfl
def eY:∀b o,aG (Yt p q).P 54 (ptr b o) 0=some (ptr b (o+0)):=fun _ _=>by kernel_rfl
instance:FaC (Yt p q).P 54 0 0:=⟨eY⟩
def mc:TyI (Yt p q).P 51 false 1:=⟨by kernel_rfl,by kernel_rfl,by kernel_rfl⟩
instance:TyC (Yt p q).P 51 false 1:=⟨mc⟩
def z51:bp (Yt p q).P 51=some (.slice none 0 0):=by kernel_rfl
def fK:∀b o,aG (Yt p q).P 54 (ptr b o) 1=some (ptr b (o+1)):=fun _ _=>by kernel_rfl
instance:FaC (Yt p q).P 54 1 1:=⟨fK⟩
def oc:TyI (Yt p q).P 52 false 1:=⟨by kernel_rfl,by kernel_rfl,by kernel_rfl⟩
instance:TyC (Yt p q).P 52 false 1:=⟨oc⟩
def UX:bp (Yt p q).P 52=some (.slice none 0 0):=by kernel_rfl
abbrev zI:Rep (XE):=(rL bq)
def T3:(Yt p q).P.underlying 125=some (.slice 52):=by kernel_rfl
instance:UsC (Yt p q).P 125 52:=⟨T3⟩
def OW:SlT (Yt p q).P 125 52 1:=SlT.of (by kernel_rfl)
instance:SlC (Yt p q).P 125 52 1:=⟨OW⟩
def LH:(Yt p q).P.underlying 52=some (.slice 51):=by kernel_rfl
instance:UsC (Yt p q).P 52 51:=⟨LH⟩
def rA:SlT (Yt p q).P 52 51 1:=SlT.of (by kernel_rfl)
instance:SlC (Yt p q).P 52 51 1:=⟨rA⟩
def PD:(Yt p q).P.underlying 51=some (.slice 3):=by kernel_rfl
instance:UsC (Yt p q).P 51 3:=⟨PD⟩
def fQ:SlT (Yt p q).P 51 3 1:=SlT.of (by kernel_rfl)
instance:SlC (Yt p q).P 51 3 1:=⟨fQ⟩
def tB:bp (Yt p q).P 103=some (.agg #[.int .i64 0,.int .i64 0,.int .i64 0,.int .i64 0]):=by kernel_rfl
def Ah:BdT (Yt p q).P 103 (.agg #[.int .i64 0,.int .i64 0,.int .i64 0,.int .i64 0]) [(0,1),(1,1),(2,1),(3,1)]:=.mk' (by kernel_rfl) (by kernel_rfl)
def GI:TyI (Yt p q).P 103 true 4:=⟨by kernel_rfl,by kernel_rfl,by kernel_rfl⟩
instance:TyC (Yt p q).P 103 true 4:=⟨GI⟩
def yn:∀b o,aG (Yt p q).P 103 (ptr b o) 0=some (ptr b (o+0)):=fun _ _=>by kernel_rfl
instance:FaC (Yt p q).P 103 0 0:=⟨yn⟩
def zg:∀b o,aG (Yt p q).P 103 (ptr b o) 1=some (ptr b (o+1)):=fun _ _=>by kernel_rfl
instance:FaC (Yt p q).P 103 1 1:=⟨zg⟩
def K1:bp (Yt p q).P 104=some (.agg #[.int .i64 0,.int .i64 0]):=by kernel_rfl
def Im:BdT (Yt p q).P 104 (.agg #[.int .i64 0,.int .i64 0]) [(0,1),(1,1)]:=.mk' (by kernel_rfl) (by kernel_rfl)
def Q6:TyI (Yt p q).P 104 true 2:=⟨by kernel_rfl,by kernel_rfl,by kernel_rfl⟩
instance:TyC (Yt p q).P 104 true 2:=⟨Q6⟩
def TQ:(Yt p q).P.underlying 98=some (.map 104 44):=by kernel_rfl
def z44:bp (Yt p q).P 44=some (.agg #[.int .i64 0,.int .i64 0,.int .i64 0,.int .i64 0]):=by kernel_rfl
def PC:TyI (Yt p q).P 44 true 4:=⟨by kernel_rfl,by kernel_rfl,by kernel_rfl⟩
instance:TyC (Yt p q).P 44 true 4:=⟨PC⟩
def SC:ArT (Yt p q).P 104 3 2 1:=⟨by kernel_rfl,by kernel_rfl,by kernel_rfl⟩
instance:ArC (Yt p q).P 104 3 2 1:=⟨SC⟩
def BV:BdT (Yt p q).P 44 (.agg #[.int .i64 0,.int .i64 0,.int .i64 0,.int .i64 0]) [(0,1),(1,1),(2,1),(3,1)]:=.mk' (by kernel_rfl) (by kernel_rfl)
def oF:∀b o,aG (Yt p q).P 103 (ptr b o) 2=some (ptr b (o+2)):=fun _ _=>by kernel_rfl
instance:FaC (Yt p q).P 103 2 2:=⟨oF⟩
def OE:∀b o,aG (Yt p q).P 44 (ptr b o) 2=some (ptr b (o+2)):=fun _ _=>by kernel_rfl
instance:FaC (Yt p q).P 44 2 2:=⟨OE⟩
def PH:∀b o,aG (Yt p q).P 44 (ptr b o) 3=some (ptr b (o+3)):=fun _ _=>by kernel_rfl
instance:FaC (Yt p q).P 44 3 3:=⟨PH⟩
def O2{n l1 a0 c0}{r0:XH}{e0:XF}{r}(hF:SX n l1=some r)(m){H:XH}(hH:∀b,H b->b<m.next)(h5:Rd m a0 c0 1 l1.length e0)(h6:∀b,mz a0=some b->¬H b)(h7:(cE zI r0 l1 e0).P m)(h8:∀b,r0 b->¬H b):
 aK (Yt p q) 53 [bQ a0 l1 c0] m (fun v m'=>∃x:XG×Nat×Nat×XF ×(Nat->Prop),v=.slice x.1 x.2.2.1 x.2.1/\Hp m m' [.rd x.1 x.2.1 1 x.2.2.1 x.2.2.2.1,.gen (cE bq x.2.2.2.2 r x.2.2.2.1),eQ H]):=by
 unfold SX at hF;refine cw Try.func53 (Hp.Iy (l0:=[km a0 c0 l1 e0]) (Hp.qG (l0:=[]) (Hp.uF m hH) eL h5 h6) (fH eL) h7 h8) ?_;refine ja ?_;refine XV ?_;obtain⟨v0,h0,hF⟩:=J hF;refine ct (fun v0 (_:YC)=>⟨(.exit 0),[(0,bQ a0 l1 c0),(3,bu v0)],[km a0 c0 l1 e0,gQ zI r0 l1 e0,eQ H]⟩) v0 ?_ ?_;refine lo h0 () [1,0,2] (fun(v1,v2) _=>⟨.normal,[(0,bQ a0 l1 c0),(3,bu v1),(9,bQ a0 l1 c0),(10,eD l1),(11,bu v2)],[km a0 c0 l1 e0,gQ zI r0 l1 e0,eQ H]⟩) ?_;clear hF h0;rintro⟨v1,v2⟩ ⟨⟩ r hF;unfold q9 at hF;refine wz ?_;refine XS ?_;rcases aa hF with⟨h9,hF⟩|⟨h9,hF⟩;refine az ?_;obtain⟨h10,hF⟩:=du hF;refine X4 (k:=0) rfl (aW h10) ?_;rintro b1 o5 rfl;refine wz ?_;obtain⟨l7,h11,hF⟩:=J hF;refine wl 1 0 2 0 h11 ?_;rintro⟨a6,c6,e7⟩;refine ja ?_;rcases aa hF with⟨h3,hF⟩|⟨h3,hF⟩;refine X7 rfl h3 ?_;cases hF;refine az ?_;cases hF;exact ae () [3,4,5];refine wz ?_;cases hF;exact ae () [0,1,2];rintro⟨⟩;refine az ?_;obtain⟨l2,h12,hF⟩:=J hF;refine wq (fun l2 ((a1,c1,e3,r1):XG×Nat×XF ×(Nat->Prop))=>(.slice a1 l2.length c1,[.gen (pF a1 c1 1 l2.length e3),gQ bq r1 l2 e3,km a0 c0 l1 e0,gQ zI r0 l1 e0,eQ H])) l2 (fun m hm=>?_) ?_;clear hF;revert l2;intro r hF;refine aS (N:=27) (rs:=[.tmp 4]) rfl Try.func76 rfl rfl rfl hm ?_;refine az ?_;rcases aa hF with⟨h4,hF⟩|⟨h4,hF⟩;refine X7 rfl h4 ?_;cases hF;refine wz ?_;refine XS ?_;obtain⟨l3,h13,hF⟩:=J hF;refine ct (fun l3 ((a2,c2,e4,r3):XG×Nat×XF ×(Nat->Prop))=>⟨.normal,[(0,bQ a2 l3 c2)],[.gen (pF a2 c2 1 l3.length e4),gQ bq r3 l3 e4,km a0 c0 l1 e0,gQ zI r0 l1 e0,eQ H]⟩) l3 ?_ ?_;clear hF;revert l3;intro r hF;refine wz ?_;refine XR (M9 LH rfl) rfl ?_;refine az ?_;rcases aa hF with⟨h14,hF⟩|⟨h14,hF⟩;refine wz ?_;refine XR (M9 LH rfl) rfl<|XR (SG rA rfl rfl (.inr ⟨_,rfl⟩)) rfl ?_;refine wz ?_;obtain⟨h15,hF⟩:=aD hF;obtain⟨h16,hF⟩:=aD hF;refine X1 (OO (g:=fun e:YB XI=>e) (z0:=[.slice none 0 0]) rA u3 rfl h15 h16 z51 rfl rfl) gn rfl fun b0=>?_;refine Wo.dp (r:=bq) (L:=(List.replicate (XN (v0-(XN (0-0)))).toNat ([]:YB Int))) (es:=((List.replicate (XN (v0-(XN (0-0)))).toNat [.slice none 0 0]).map fun e=>e)) (jg.rep (r:=bq) (z:=[]) (g:=(none,0)) Lf.s0 _) ?_;intro r6;refine XR (aX rfl) rfl<|XR (qv (k:=0) LH rfl rfl (.inr rfl)) rfl ?_;obtain⟨h17,hF⟩:=aD hF;obtain⟨h1,hF⟩:=aD hF;replace h1:=of_decide_eq_true h1;refine X0 (ai.close (k:=1) rfl)<|X0 (ai.zr (k:=1) rfl)<|X3 (OU (r:=bq) (k:=1) (q:=0) (hi:=0) rA rfl rfl rfl rfl h17 h1) gn rfl ?_;refine wz ?_;cases hF;exact ae ((some ⟨b0,0,none⟩),(XN (v0-(XN (0-0)))).toNat,(((List.replicate (XN (v0-(XN (0-0)))).toNat [.slice none 0 0]).map fun e=>e).take XO),r6) [1,0,2,3,4];refine wz ?_;cases hF;exact aT (none,0,[],(fun _=>False)) (ai.trans (ai.nil 1 rfl) (ai.trans (ai.zr (k:=0) rfl) (ai.trans (ai.HT (r:=bq)) (ai.aq [1,0,2,3,4] rfl rfl))));rintro⟨a2,c2,e4,r3⟩;refine ja ?_;obtain rfl:=U9 hF;exact ar (a2,c2,e4,r3) (Yk 0 5);rintro⟨a1,c1,e3,r1⟩;refine az ?_;refine XV ?_;obtain⟨l4,h2,hF⟩:=J hF;refine ct (fun l4 ((a3,c3,e5,r4):XG×Nat×XF ×(Nat->Prop))=>⟨(.exit 2),[(6,bQ a3 l4 c3)],[.gen (pF a3 c3 1 l4.length e5),gQ bq r4 l4 e5,eQ H]⟩) l4 ?_ ?_;refine lo h2 (a1,c1,e3,r1) [0,1,2,3,4] (fun(l5,v3) ((a4,c4,e1,r5):XG×Nat×XF ×(Nat->Prop))=>⟨.normal,[(6,bQ a4 l5 c4),(25,bQ a0 l1 c0),(26,eD l1),(27,bu v3)],[.gen (pF a4 c4 1 l5.length e1),gQ bq r5 l5 e1,km a0 c0 l1 e0,gQ zI r0 l1 e0,eQ H]⟩) ?_;clear hF h2;rintro⟨l5,v3⟩ ⟨a4,c4,e1,r5⟩ r hF;unfold rr at hF;refine wz ?_;refine XS ?_;rcases aa hF with⟨h18,hF⟩|⟨h18,hF⟩;refine az ?_;obtain⟨h19,hF⟩:=du hF;refine X4 (k:=2) rfl (aW h19) ?_;rintro b2 o6 rfl;refine wz ?_;obtain⟨l6,h20,hF⟩:=J hF;refine wl 1 0 4 0 h20 ?_;rintro⟨a7,c7,e6⟩;refine az ?_;obtain⟨h21,hF⟩:=aD hF;refine X1 (Ov (r:=bq) (k:=3) (q:=4) (q2:=1) (L:=l5) (L':=l6) rA ⟨_,LH⟩ rfl rfl rfl rfl (fun m hm=>hm.q 0) rfl rfl h21) gn rfl ?_;rintro⟨a5,c5,r7⟩;refine az ?_;cases hF;exact ae (a5,c5,(e1++e6),r7) [3,4,5,6,7];refine wz ?_;cases hF;exact ae (a4,c4,e1,r5) [0,1,4];rintro⟨a3,c3,e5,r4⟩;refine ja ?_;obtain rfl:=U9 hF;exact X2 (.tmp rfl .nil) fun m' hm=>⟨(a3,c3,l4.length,e5,r4),rfl,(ai.trans (ai.GH (k:=0) rfl) (ai.aq [0,1,2] rfl rfl)) m' hm⟩
def kQ{n l1 l2 a0 c0 a1 c1}{r0:XH}{e0:XF}{r}(hF:C6 n l1 l2=some r)(m){H:XH}(hH:∀b,H b->b<m.next)(h0:Dm m a0 c0 l1)(h1:∀b,mz a0=some b->¬H b)(h2:Rd m a1 c1 1 l2.length e0)(h3:∀b,mz a1=some b->¬H b)(h4:(cE bq r0 l2 e0).P m)(h5:∀b,r0 b->¬H b):
 aK (Yt p q) 25 [mU a0 l1 c0 a1 l2 c1] m (fun v m'=>∃x:XG×Nat×Nat×XF ×(Nat->Prop),v=.slice x.1 x.2.2.1 x.2.1/\Hp m m' [.rd x.1 x.2.1 1 x.2.2.1 x.2.2.2.1,.gen (cE bq x.2.2.2.2 r x.2.2.2.1),eQ H]):=by
 unfold C6 at hF;refine cw Try.func25 (Hp.Iy (l0:=[km a1 c1 l2 e0,pD a0 c0 l1]) (Hp.qG (l0:=[pD a0 c0 l1]) (Hp.qG (l0:=[]) (Hp.uF m hH) eL h0 h1) (fH eL) h2 h3) (fH (fH eL)) h4 h5) ?_;refine wz ?_;refine wb fun b1=>?_;refine az ?_;refine X1 (cB (es:=[[bQ a0 l1 c0]]) rA rfl (cz rA z51 rfl rfl) rfl rfl) gn rfl fun b0=>?_;refine Wo.dp (r:=bq) (L:=([l1]:XE)) (es:=[[bQ a0 l1 c0]]) (jg.cons (r:=bq) (z:=l1) (g:=(a0,c0)) (Lf.s (k:=4) rfl) jg.nil) ?_;intro r3;refine XR (aI (r:=ptr b1 1) rfl (fK _ _)) rfl<|XR (aJ (k:=2) oc rfl rfl rfl) rfl<|X0 (ai.close (k:=1) rfl)<|X0 (ai.freeze (k:=1) rfl)<|X1 (cB (es:=[[mW b0],[bQ a1 l2 c1]]) OW rfl (cz OW UX rfl rfl) rfl rfl) gn rfl fun b2=>?_;refine Wo.dp (r:=zI) (L:=([[l1],l2]:YB (XE))) (es:=[[mW b0],[bQ a1 l2 c1]]) (jg.cons (r:=zI) (z:=[l1]) (g:=((some ⟨b0,0,none⟩),1,[[bQ a0 l1 c0]])) (Lf.l (k:=2) (q:=1) rfl rfl rfl) (jg.cons (r:=zI) (z:=l2) (g:=(a1,c1,e0)) (Lf.l (k:=5) (q:=4) rfl rfl rfl) jg.nil)) ?_;intro r4;obtain⟨l3,h6,hF⟩:=J hF;refine X0 (ai.close (k:=1) rfl)<|X0 (ai.freeze (k:=1) rfl)<|Hr gn (fun m hm=>O2 h6 m hm.dX (hm.q 1) (hm.no 1) (hm.dp (q:=0) rfl) (hm.iA (q:=0) rfl)) ?_;rintro⟨a2,c2,n0,e1,r1⟩;refine Yj (k:=0) (q:=1) (L:=l3) rfl (.inr (.inl ⟨_,rfl⟩)) rfl ?_;rintro rfl;refine az ?_;obtain rfl:=U9 hF;exact ar (a2,c2,l3.length,e1,r1) [0,1,10]
def MG(hE:EnvOk (Yt p q))(n:Nat)(l6:XD)(l1:XB)(a1:XG)(c3:Nat)(a0:XG)(c0:Nat)(r0:XH)(e0:XF)(r:YB ((Int×Int) ×(XC)))(hF:KE n l6 l1=some r)(m:Yq)(h23:lF m a1 c3 l6)(h24:pC m a0 c0 l1 e0)(h25:(cE al r0 l1 e0).P m){R:XI->Yq->Prop}(kN:∀g:Nat×Nat,Vk (Yt p q) 66 24 none (Sr 4 (oe Try.f24)) (j5 (Yt p q) [.tmp 2] R) m ((fun(r:YB ((Int×Int) ×(XC))) (g:Nat×Nat)=>match r,g with|l13,(b8,b9)=>([(3,ptr b8 0),(8,.slice none 0 0)]:Fs)) r g) ((fun(r:YB ((Int×Int) ×(XC))) (g:Nat×Nat)=>match r,g with|l13,(b8,b9)=>([eW b8 b9,.obj b9 (.map (l13.map (eM (fun p:Int×Int=>.agg #[.int .i64 p.1,.int .i64 p.2]) (fun x:XC=>.agg #[.int .i64 x.1,.int .i64 x.2.1,.int .i64 x.2.2.1,.int .i64 x.2.2.2]))))]:YB Pc)) r g)) :
 Vk (Yt p q) 66 24 none (oe Try.f24) (j5 (Yt p q) [.tmp 2] R) m (pL [mU a1 l6 c3 a0 l1 c0] 0 []) [gQ al r0 l1 e0,Fx a0 c0 l1 e0,tL a1 c3 l6]:=by
 unfold KE at hF;refine Vk.seq hE<|XT<|wb fun b13=>?_;refine wz ?_;refine At.Iu<|Vk.seq hE<|XT<|X1 Hc gn rfl fun b0=>?_;refine wa UR fun b1=>?_;refine wz ?_;refine At.Iu<|Vk.seq hE ?_;refine wz ?_;obtain⟨l7,h4,hF⟩:=J hF;refine wq (fun l7 (b10:Nat)=>(.func (.func 73) #[] #[ptr b10 0],(ig b10 a1 l6 c3 a0 l1 c0 e0 al r0 [eW b1 b0,.obj b0 (.map (l7.map (eM (fun p:Int×Int=>.agg #[.int .i64 p.1,.int .i64 p.2]) (fun x:XC=>.agg #[.int .i64 x.1,.int .i64 x.2.1,.int .i64 x.2.2.1,.int .i64 x.2.2.2]))))]))) l7 (fun m hm=>?_) ?_;clear hF;revert l7;intro r hF;refine aS (N:=4) (rs:=[.tmp 2]) rfl Try.func50 rfl rfl rfl hm ?_;refine wz ?_;refine wb fun b11=>?_;refine az ?_;refine XR (kX rfl rfl) rfl ?_;refine az ?_;cases hF;exact ar b11 [0,6,5,4,1,2];rintro b10;refine wz ?_;refine XV ?_;obtain⟨l8,h5,hF⟩:=J hF;refine Wk.range (N:=50) (rs:=[]) (γ:=YC) (X:=fun g=>(fun(r:YB ((Int×Int) ×(XC))) (g:YC)=>(match r,g with|l8,_=>⟨.ready,none,[eW b1 b0,.obj b0 (.map (l8.map (eM (fun p:Int×Int=>.agg #[.int .i64 p.1,.int .i64 p.2]) (fun x:XC=>.agg #[.int .i64 x.1,.int .i64 x.2.1,.int .i64 x.2.2.1,.int .i64 x.2.2.2]))))]⟩:Rn)) l8 g) rfl rfl Try.func73 rfl rfl rfl ?_ (fun y=>by intro e; cases e) ?_
 clear hF;revert l8;intro r hF;intro t0 l2 r1 h6 h7;refine wz ?_;refine XV ?_;obtain⟨l10,h0,hF⟩:=J hF;refine ct (fun l10 (_:YC)=>⟨(.exit 0),[],[.obj l2 (r1 .ready none),eW b1 b0,.obj b0 (.map (l10.map (eM (fun p:Int×Int=>.agg #[.int .i64 p.1,.int .i64 p.2]) (fun x:XC=>.agg #[.int .i64 x.1,.int .i64 x.2.1,.int .i64 x.2.2.1,.int .i64 x.2.2.2]))))]⟩) l10 ?_ ?_;refine lo h0 () [0,3,4,5,6] (fun(v0,l14) _=>⟨.normal,((0,.func (.yield l2) #[] #[])::BB a0 l1 c0 v0 []),[.obj l2 (r1 .ready none),Fx a0 c0 l1 e0,gQ al r0 l1 e0,eW b1 b0,.obj b0 (.map (l14.map (eM (fun p:Int×Int=>.agg #[.int .i64 p.1,.int .i64 p.2]) (fun x:XC=>.agg #[.int .i64 x.1,.int .i64 x.2.1,.int .i64 x.2.2.1,.int .i64 x.2.2.2]))))]⟩) ?_;clear hF h0;rintro⟨v0,l14⟩ ⟨⟩ r hF;unfold w5 at hF;refine wz ?_;refine XS ?_;rcases aa hF with⟨h8,hF⟩|⟨h8,hF⟩;refine az ?_;obtain⟨h9,hF⟩:=du hF;refine X4 (k:=1) rfl (aW h9) ?_;rintro b2 o5 rfl;refine wz ?_;obtain⟨⟨l16,l17⟩,h10,hF⟩:=J hF;refine wl 2 0 3 0 h10 ?_;rintro⟨⟨a4,c4⟩,⟨a5,c5,e3⟩⟩;refine wa z54 fun b14=>?_;refine az ?_;obtain⟨l3,h11,hF⟩:=J hF;refine Hr gn (fun m hm=>kQ h11 m hm.dX (hm.q 1) (hm.no 1) (hm.q 2) (hm.no 2) (hm.dp (q:=3) rfl) (hm.iA (q:=3) rfl)) ?_;rintro⟨a3,c1,n0,e1,r3⟩;refine Yj (k:=0) (q:=1) (L:=l3) rfl (.inr (.inl ⟨_,rfl⟩)) rfl ?_;rintro rfl;refine wz ?_;refine XV ?_;obtain⟨l11,h1,hF⟩:=J hF;refine ct (fun l11 (_:YC)=>⟨(.exit 2),((0,.func (.yield l2) #[] #[])::vS b2 o5 l1 c0 v0 []),(.obj l2 (r1 .ready none)::ud b2 o5 l1 e0 al r0 c0 [eW b1 b0,.obj b0 (.map (l11.map (eM (fun p:Int×Int=>.agg #[.int .i64 p.1,.int .i64 p.2]) (fun x:XC=>.agg #[.int .i64 x.1,.int .i64 x.2.1,.int .i64 x.2.2.1,.int .i64 x.2.2.2]))))])⟩) l11 ?_ ?_;refine lo h1 () [7,6,9,8,0,1,10,11] (fun(v1,l15) _=>⟨.normal,((0,.func (.yield l2) #[] #[])::(3,bu v0)::vS b2 o5 l1 c0 v0 [(18,bQ a3 l3 c1),(19,eD l3),(20,bu v1)]),(.obj l2 (r1 .ready none)::ud b2 o5 l1 e0 al r0 c0 [km a3 c1 l3 e1,gQ bq r3 l3 e1,eW b1 b0,.obj b0 (.map (l15.map (eM (fun p:Int×Int=>.agg #[.int .i64 p.1,.int .i64 p.2]) (fun x:XC=>.agg #[.int .i64 x.1,.int .i64 x.2.1,.int .i64 x.2.2.1,.int .i64 x.2.2.2]))))])⟩) ?_;clear hF h1;rintro⟨v1,l15⟩ ⟨⟩ r hF;unfold xZ at hF;refine wz ?_;refine XS ?_;rcases aa hF with⟨h12,hF⟩|⟨h12,hF⟩;refine az ?_;obtain⟨h13,hF⟩:=du hF;refine X4 (k:=4) rfl (aW h13) ?_;rintro b3 o6 rfl;refine wz ?_;obtain⟨l4,h14,hF⟩:=J hF;refine wl 1 0 6 0 h14 ?_;rintro⟨a2,c2⟩;refine az ?_;refine XV ?_;obtain⟨l12,h2,hF⟩:=J hF;refine ct (fun l12 (_:YC)=>⟨(.exit 4),((0,.func (.yield l2) #[] #[])::(3,bu v0)::vS b2 o5 l1 c0 v0 (wZ b3 o6 l3 c1 v1 [])),(.obj l2 (r1 .ready none)::ud b2 o5 l1 e0 al r0 c0 (kT b3 o6 l3 e1 bq r3 c1 [eW b1 b0,.obj b0 (.map (l12.map (eM (fun p:Int×Int=>.agg #[.int .i64 p.1,.int .i64 p.2]) (fun x:XC=>.agg #[.int .i64 x.1,.int .i64 x.2.1,.int .i64 x.2.2.1,.int .i64 x.2.2.2]))))]))⟩) l12 ?_ ?_;refine lo h2 () [2,0,3,4,5,1,7,6,8,9] (fun(v6,l5) _=>⟨.normal,((0,.func (.yield l2) #[] #[])::(3,bu v0)::(5,bu v1)::(6,bQ a2 l4 c2)::vS b2 o5 l1 c0 v0 (wZ b3 o6 l3 c1 v1 [(25,bQ a2 l4 c2),(26,eD l4),(27,bu v6)])),(.obj l2 (r1 .ready none)::pD a2 c2 l4::ud b2 o5 l1 e0 al r0 c0 (kT b3 o6 l3 e1 bq r3 c1 [eW b1 b0,.obj b0 (.map (l5.map (eM (fun p:Int×Int=>.agg #[.int .i64 p.1,.int .i64 p.2]) (fun x:XC=>.agg #[.int .i64 x.1,.int .i64 x.2.1,.int .i64 x.2.2.1,.int .i64 x.2.2.2]))))]))⟩) ?_;clear hF h2;rintro⟨v6,l5⟩ ⟨⟩ r hF;unfold xu at hF;refine wz ?_;refine XS ?_;rcases aa hF with⟨h15,hF⟩|⟨h15,hF⟩;refine az ?_;obtain⟨h16,hF⟩:=du hF;refine X4 (k:=1) rfl (aW h16) ?_;rintro b5 o7 rfl;refine wz ?_;obtain⟨x3,h26,hF⟩:=J hF;refine az ?_;obtain⟨h17,hF⟩:=aD hF;refine XR (aL rfl rfl (cu _ _ h17)) rfl ?_;obtain⟨h27,hF⟩:=du hF;refine wz ?_;obtain⟨x4,h28,hF⟩:=J hF;refine wz ?_;refine XR (cR rfl tB rfl (cQ Ah rfl rfl rfl)) rfl ?_;obtain⟨l9,h3,hF⟩:=J hF;refine X1 (yq (k:=1) (k1:=0) (γA:=Nat) (GA:=(fun g:Nat=>(match g with|b4=>⟨.normal,[(3,ptr b1 0),(4,ptr b4 0)],(.obj l2 (r1 .ready none)::eW b1 b0::.obj b0 (.map (l5.map (eM (fun p:Int×Int=>.agg #[.int .i64 p.1,.int .i64 p.2]) (fun x:XC=>.agg #[.int .i64 x.1,.int .i64 x.2.1,.int .i64 x.2.2.1,.int .i64 x.2.2.2]))))::gN b4 x3 x4 v0 v1::qB b5 o7 l4 c2 (ud b2 o5 l1 e0 al r0 c0 (kT b3 o6 l3 e1 bq r3 c1 [])))⟩:En))) (γ:=YC) (G:=fun g=>(fun(r:YB ((Int×Int) ×(XC))) (g:YC)=>(match r,g with|l9,_=>⟨.normal,[],(.obj l2 (r1 .busy none)::eW b1 b0::.obj b0 (.map (l9.map (eM (fun p:Int×Int=>.agg #[.int .i64 p.1,.int .i64 p.2]) (fun x:XC=>.agg #[.int .i64 x.1,.int .i64 x.2.1,.int .i64 x.2.2.1,.int .i64 x.2.2.2]))))::qB b5 o7 l4 c2 (ud b2 o5 l1 e0 al r0 c0 (kT b3 o6 l3 e1 bq r3 c1 [])))⟩:En)) l9 g) rfl rfl rfl h7 h6 rfl ?_ (fun _=>rfl) (fun _=>rfl) ?_ (fun y=>rfl)) gn rfl ?_
 clear hF h3;refine XT<|wa tB fun b12=>?_;refine wz ?_;exact ae b12 (2::10::11::0::1::Yk 3 7);clear hF;revert l9;intro r hF;rintro b4;refine wz ?_;refine XR (nI rfl rfl (nk _ _)) rfl ?_;refine wz ?_;refine XR (nI rfl rfl (Al _ _)) rfl<|XR (cR rfl K1 rfl (cQ Im rfl rfl rfl)) rfl<|wa K1 fun b6=>?_;refine az ?_;obtain⟨⟨⟨y0,y1,y2,y3⟩,y4⟩,h18,hF⟩:=J hF;refine XR (Jj (q:=3) (xs:=l5) (k:=(mi x3 x4,ma x3 x4)) (vE:=(fun x:XC=>.agg #[.int .i64 x.1,.int .i64 x.2.1,.int .i64 x.2.2.1,.int .i64 x.2.2.2])) (z0:=((0:Int),(0:Int),(0:Int),(0:Int))) TQ (KY Mk cK.known cK.size cK.agg u3) z44 rfl rfl rfl rfl h18) rfl ?_;refine wz ?_;refine wa z44 fun b7=>?_;refine wz ?_;refine XS ?_;obtain⟨r4,h19,hF⟩:=J hF;refine ct (fun(v2,v3,v7,v8) (_:YC)=>⟨.normal,[(3,ptr b1 0),(4,ptr b4 0),(5,ptr b6 0),(6,ptr b7 0)],(.obj l2 (r1 .busy none)::eW b1 b0::.obj b0 (.map (l5.map (eM (fun p:Int×Int=>.agg #[.int .i64 p.1,.int .i64 p.2]) (fun x:XC=>.agg #[.int .i64 x.1,.int .i64 x.2.1,.int .i64 x.2.2.1,.int .i64 x.2.2.2]))))::gN b4 x3 x4 v0 v1::.obj b6 (.cells [.int .i64 (mi x3 x4),.int .i64 (ma x3 x4)] .own)::gN b7 v2 v3 v7 v8::qB b5 o7 l4 c2 (ud b2 o5 l1 e0 al r0 c0 (kT b3 o6 l3 e1 bq r3 c1 [])))⟩) r4 ?_ ?_;clear hF;revert r4;intro r hF;refine wz ?_;rcases aa hF with⟨h20,hF⟩|⟨h20,hF⟩;refine wz ?_;refine XR (cR rfl z44 rfl (cQ BV rfl rfl rfl)) rfl ?_;refine wz ?_;cases hF;exact ae () (2::3::4::5::1::0::Yk 6 8);refine wz ?_;cases hF;exact ae () (2::3::4::5::1::0::Yk 6 8);clear h19;obtain⟨v2,v3,v7,v8⟩:=r4;rintro⟨⟩;refine XX<|XS ?_;obtain⟨r5,h21,hF⟩:=J hF;refine ct (fun(v4,v5) (_:YC)=>⟨.normal,[(3,ptr b1 0),(4,ptr b4 0),(5,ptr b6 0),(6,ptr b7 0)],(.obj l2 (r1 .busy none)::eW b1 b0::.obj b0 (.map (l5.map (eM (fun p:Int×Int=>.agg #[.int .i64 p.1,.int .i64 p.2]) (fun x:XC=>.agg #[.int .i64 x.1,.int .i64 x.2.1,.int .i64 x.2.2.1,.int .i64 x.2.2.2]))))::gN b4 x3 x4 v0 v1::.obj b6 (.cells [.int .i64 (mi x3 x4),.int .i64 (ma x3 x4)] .own)::gN b7 v2 v3 v4 v5::qB b5 o7 l4 c2 (ud b2 o5 l1 e0 al r0 c0 (kT b3 o6 l3 e1 bq r3 c1 [])))⟩) r5 ?_ ?_;clear hF;revert r5;intro r hF;refine wz ?_;rcases aa hF with⟨h22,hF⟩|⟨h22,hF⟩;refine wz ?_;cases hF;exact ae () (Yk 0 14);refine wz ?_;cases hF;exact ae () (Yk 0 14);clear h21;obtain⟨v4,v5⟩:=r5;rintro⟨⟩;refine az ?_;refine X8 (FH (q:=2) (xs:=l5) (k:=(mi x3 x4,ma x3 x4)) (v:=(v2,v3,v4,v5)) (vE:=(fun x:XC=>.agg #[.int .i64 x.1,.int .i64 x.2.1,.int .i64 x.2.2.1,.int .i64 x.2.2.2])) TQ (KY Mk cK.known cK.size cK.agg u3) rfl rfl rfl rfl) ?_;refine wz ?_;cases hF;exact ae () (0::1::2::Yk 6 8);rintro⟨⟩;refine ja ?_;cases hF;exact ae () [0,4,5,6,7,8,9,10,1,2];refine wz ?_;cases hF;exact ae () (0::Yk 2 8);rintro⟨⟩;refine az ?_;cases hF;exact ae () [0,1,2,3,6,5,7,8];refine wz ?_;cases hF;exact ae () [0,1,2,3,6,7];rintro⟨⟩;refine az ?_;cases hF;exact ae () [0,3,2,4,5];refine wz ?_;cases hF;exact ae () [0,3,4];rintro⟨⟩;refine Yi ?_;obtain rfl:=U9 hF;exact At.fin .nil fun m' hm=>⟨(),(ai.aq [0,1,2] rfl rfl) m' hm⟩;rintro⟨⟩
 change At _ .normal _ _ _
 refine At.bn<|At.Iu<|Vk.seq hE ?_;refine wz ?_;refine At.Iu ?_;cases hF;exact Vk.H4 (sc rfl (sc rfl sn)) (ai.aq [0,1] rfl rfl) (kN (b1,b0))
end Go.Proofs.Ytmndpgfbkicndaa
namespace Go.Ab
open Go
section
variable{E:Env}{j j1:aR}{m m1:Yq}{w w1:XM}
def Sim.NB(h:MR E j m w)(s:Sim E j { m with wl:=m.next} w j1 m1 w1)(g:Grown m m1){b1:Nat}{k1:Blk}{cs:YB XI}{tag:Tag}(hb:m.next<=b1)(hk:j1 b1=some k1)(ho:m1.get b1=some (.cells cs tag))(hp:cs.all aP=true){k2:Blk}{tag2:Tag}(hc2:k2.c=k1.c)(htg:∀(c:YD XI) (fz:Nat×Nat),qR k1 tag cs.length c fz->qR k2 tag2 cs.length c fz) :
  Sim E j m w (j.set m.next k2) (m.alloc (.cells cs tag2)) w1:=by
 have hn:j m.next=none:=h.oI
 have hj1:j b1=none:=by
  cases e:j b1 with
  | none=>rfl
  | some k=>exact Vr (h.lt b1 k e).1 (by omega)
 have hfresh:w.heap.size<=k1.c:=by
  rcases s.fresh b1 k1 hk hj1 with hf|⟨b0,k0,a1,_,_,a4⟩
  exact hf
  have:=(h.lt b0 k0 a1).1; have:=g.wl; omega
 refine⟨.alloc m _,aR.qw k2 hn,?_,?_,s.size,?_,?_,?_,fun c hc _=>s.old h g c hc,s.calm⟩
 intro b k e e'
 by_cases hbm:b=m.next
 omega
 rw[aR.bV _ _ hbm,e'] at e; cases e
 ·have ha:=h.after s g;refine⟨fun b k e=>?_,fun b o k ho' e=>?_,fun b b' k k' e e' hl hl' hc=>?_,fun gl hgl=>?_⟩
  by_cases hbm:b=m.next
  subst hbm; rw[aR.cn] at e; cases e;exact⟨Xb _,hc2 ▸(s.mr.lt b1 k1 hk).2⟩
  rw[aR.bV _ _ hbm] at e;exact⟨Nat.lt_succ_of_lt (h.lt b k e).1,(ha.lt b k e).2⟩
  ·rw[Yq.aU] at ho'
   by_cases hbm:b=m.next
   ·subst hbm; rw[aR.cn] at e; cases e;rw[U5 rfl] at ho'; cases ho';obtain⟨o',h1,h2⟩:=s.mr.obj b1 _ k1 ho hk;refine⟨o',hc2▸h1,?_⟩;cases o' with
    | cells c ty fz =>
     refine⟨htg _ _ h2.1,fun i v hi=>?_⟩;obtain⟨v',h3,h4⟩:=h2.2 i v hi;have hpv:=Vo.1 hp v (VD hi);have:=gI hpv h4;subst this;exact⟨_,h3,.aP hpv⟩
    | _=>exact h2.elim
   rw[U3 hbm] at ho';rw[aR.bV _ _ hbm] at e;obtain⟨o',h1,h2⟩:=ha.obj b o k ho' e;exact⟨o',h1,h2.mono (aR.qw k2 hn)⟩
  have old:∀{b k},j b=some k->(m.get b).isSome=true->k.c≠k1.c:=fun{b k} e hl hc=>by
   have hlt:=(h.lt b k e).1;have:=s.mr.inj b b1 k k1 (s.le b k e) hk (by rw[g.same b hlt]; exact hl) (by rw[ho]; rfl) hc
   omega
  by_cases hbm:b=m.next
  by_cases hbm':b'=m.next
  rw[hbm,hbm']
  subst hbm; rw[aR.cn] at e; cases e;rw[aR.bV _ _ hbm'] at e';rw[Yq.aU,U3 hbm'] at hl';exact Vr (hc.symm.trans hc2) (old e' hl')
  by_cases hbm':b'=m.next
  subst hbm'; rw[aR.cn] at e'; cases e';rw[aR.bV _ _ hbm] at e;rw[Yq.aU,U3 hbm] at hl;exact Vr (hc.trans hc2) (old e hl)
  rw[aR.bV _ _ hbm] at e;rw[aR.bV _ _ hbm'] at e';rw[Yq.aU,U3 hbm] at hl;rw[Yq.aU,U3 hbm'] at hl';exact h.inj b b' k k' e e' hl hl' hc
  have:=h.glob gl hgl;have hlt:=(h.lt gl _ this).1;rw[aR.bV _ _ (by omega)]; exact this
 intro b hb1 hb2 _;have:b=m.next:=by simp at hb2; omega
 subst this; exact⟨k2,aR.cn _ _ _⟩
 intro b hb _;rw[Yq.aU,XP]
 intro b k e e'
 by_cases hbm:b=m.next
 subst hbm; rw[aR.cn] at e; cases e;exact .inl (hc2▸hfresh)
 rw[aR.bV _ _ hbm,e'] at e; cases e
end
namespace W
def sI{E:Env}{f:YI}{args:YB XI}{m:Yq}{v:XI}{m':Yq}(h:IL E f args { m with wl:=m.next} fun v1 m1=>Grown m m1 /\
  ((bH v=true/\v1=v/\m'=m)\/∃b1 cs tag sz n,0<sz/\cs.length=n*sz/\n<=9223372036854775807/\v1=.slice (some ⟨b1,0,none⟩) n n/\v=.slice (some ⟨m.next,0,none⟩) n n/\m.next<=b1/\b1<m1.next/\m1.get b1=some (.cells cs tag)/\(tag=.own\/tag=.more sz)/\cs.all aP=true/\m'=m.alloc (.cells cs (.more sz)))) (pr:Bool) {j:aR} {w:XM} {args':YB XI} (hm:MR E j m w) (hl:LR j args args'):iy E.P pr f args'.toArray w (jR E j m w v m'):=by
 refine nE (fun h=>by cases h) (h j w args' (MR.xU hm) hl) ?_
 rintro v' w' ⟨v1,m1,⟨hg,hc⟩,j',s,hv⟩;rcases hc with⟨hpv,rfl,rfl⟩|⟨b1,cs,tag,sz,n,hsz,hcl,hn,rfl,rfl,hb,hb1,ho,htag,hpl,rfl⟩
 exact⟨j,Sim.forget hm s hg,VR.Fm hpv hv⟩
 ·cases hv with
  | slice hj hmo =>
   rename_i k1;refine⟨_,Sim.NB hm s hg hb hj ho hpl (k2:=⟨k1.c,some (sz,cs.length,cs.length)⟩) (tag2:=.more sz) rfl (fun c fz ht=>?_),.sliceM (k:=⟨k1.c,some (sz,cs.length,cs.length)⟩) (aR.cn _ _ _) rfl (by rw[hcl,Wf]) (by rw[hcl,Wf]) (U8 _) (U8 _)⟩
   rcases htag with rfl|rfl
   obtain⟨_,t2,rfl⟩:k1.more=none/\c.size=cs.length/\fz=(0,0):=ht;refine⟨by rw[t2],by rw[t2]; exact U8 _,rfl,hsz,?_⟩
   unfold jj;rw[t2,hcl,Nat.mul_comm]; exact Nat.mul_le_mul_left _ hn
   have:k1.more=some (sz,cs.length,c.size):=ht.1;rw[hmo] at this; cases this
  | sliceM hj hmo a1 a2 a3 a4 =>
   rename_i c' sz' na nc k1;refine⟨_,Sim.NB hm s hg hb hj ho hpl (k2:=k1) (tag2:=.more sz) rfl (fun c fz ht=>?_),.sliceM (k:=k1) (aR.cn _ _ _) hmo a1 a2 a3 a4⟩;rcases htag with rfl|rfl
   have:k1.more=none:=ht.1;rw[hmo] at this; cases this
   exact ht
end W
end Go.Ab
namespace Go.Proofs.Ytmndpgfbkicndaa
section
open Go Go.Ab Go.Ab.W
set_option maxRecDepth 10000
def Ik{m:Yq}{x b:Nat}:({ m with wl:=x}:Yq).get b=m.get b:=rfl
def D4{m:Yq}{x w c n:Nat}{a:XG}{es:XF}(h:Rd m a c w n es):Rd { m with wl:=x} a c w n es:=h
def Np{m:Yq}{x:Nat}{R:XH}{L:XB}{es:XF}(h:(cE al R L es).P m):(cE al R L es).P { m with wl:=x}:=h
attribute [local irreducible] Tm.at Trie.set Trie.get Yq.get Yq.set Yq.alloc Yq.ww Yq.kill
def uL(l:YB dm):((l.map fL).flatten).length=l.length*4:=by rw[cF (w:=4) (fun e he=>by obtain⟨x,_,rfl⟩:=Vi.1 he; rfl),Vf]
def Ln{p q:YA Prim}{m0 m:Yq}{ps:YB Pc}(h:Hp m0 m ps){k nn:Nat}{a:XG}{l:YB dm}(hp:pk ps k=some (.sl a 4 nn (l.map fL)))(hok:rJ l=true)(hlim:lim nn=true) :
    aK (Yt p q) 51 [.slice a nn nn,.func (.func 52) #[] #[]] m (fun v m'=>∃_:YC,v=.tuple #[]/\Hp m0 m' (bJ ps k (.sl a 4 nn ((l.mergeSort eK).map fL)))):=by
  rcases h.get hp with⟨rfl,e2,rfl,_⟩|⟨b,tg,rfl,hO⟩
  have hl:l=[]:=W5.1 e2;subst hl;refine aK.cZ (p:=⟨lI⟩) rfl (v:=.tuple #[]) (m':=m) rfl ⟨(),rfl,?_⟩;rw[List.mergeSort_nil,rX _ _ _ hp];exact h
  obtain⟨h1,h2,h3,h4,h5,h6,h7⟩:=hO;have hn:l.length=nn:=by simpa using h4
  subst hn;have hw:ir m 4 b l.length l.length=some ((l.map fL).flatten,tg):=by
    unfold ir;rcases h6 with rfl|rfl<;>simp only[h3]
    rw[U5 ⟨trivial,uL _⟩]
    rw[U5 ⟨trivial,uL _,trivial⟩]
  refine aK.cZ (p:=⟨lI⟩) rfl (v:=.tuple #[]) (m':=m.set b (.cells ((l.mergeSort eK).map fL).flatten tg)) ?_ ⟨(),rfl,?_⟩
  show lI [.slice (some ⟨b,0,none⟩) l.length l.length,.func (.func 52) #[] #[]] m=_
  simp only[lI,hw,sO];rw[U5 ⟨⟨rfl,rfl⟩,hlim,hok⟩]
  refine h.write hp rfl rfl rfl rfl (.inr ⟨b,tg,rfl,h1,?_,?_,?_,?_,h6,h7⟩)
  rw[Yq.next_set]; exact h2
  rw[Yq.bz,U5 rfl]
  simp
  intro e he;obtain⟨x,_,rfl⟩:=Vi.1 he
  rfl
def mT(r:YB ((Int×Int)×dm))(S:YB Nat):YB dm:=S.filterMap fun i=>(r[i]?).map (·.2)
def rF{r:YB ((Int×Int)×dm)}{S:YB Nat}{i:Nat}{e:(Int×Int)×dm}(h:r[i]? = some e):mT r (S++[i])=mT r S++[e.2]:=by
  unfold mT;rw[List.filterMap_append];simp[h]
def Oq:YB dm->XG->XG
  | [],_=>none
  | _::_,a=>a
def xT{l:YB dm}{x:dm}{a:XG}:Oq (l++[x]) a=a:=by cases l<;>rfl
def Jv{r:YB ((Int×Int)×dm)}{S:YB Nat}:(mT r S).length<=S.length:=List.length_filterMap_le _ _
def CB(r:YB ((Int×Int)×dm)):mT r (List.range r.length)=r.map (·.2):=by
  unfold mT;have:∀(r:YB ((Int×Int)×dm)),(List.range r.length).filterMap (fun i=>(r[i]?).map (·.2))=r.map (·.2):=by
    intro r
    induction r with
    | nil=>rfl
    | cons x r ih =>
      rw[VF,List.range_succ_eq_map,List.filterMap_cons];simp only[VB,Vx,List.filterMap_map,V6]
      congr 1
  exact this r
def Gc{r:YB ((Int×Int)×dm)}{S:YB Nat}(h:S.Perm (List.range r.length)):(mT r S).Perm (r.map (·.2)):=by
  rw[<-CB];exact h.filterMap _
def xE{l l':YB dm}(h:l.Perm l')(ho:rJ l'=true):rJ l=true:=by
  unfold rJ at *;simp only[Va,Vm,Vo] at *;exact⟨fun x hx=>ho.1 x (h.mem_iff.1 hx),(h.map _).nodup_iff.2 ho.2⟩
def xB{l l':YB dm}(h:l.Perm l')(ho:rJ l'=true):l.mergeSort eK=l'.mergeSort eK:=by
  obtain⟨h1,h2⟩:=uX ho;have tr:∀a b c:dm,eK a b=true->eK b c=true->eK a c=true:=by
    intro a b c; unfold eK; simp only[Vm]; omega
  have to:∀a b:dm,(eK a b||eK b a)=true:=by
    intro a b; unfold eK; simp only[Wv,Vm]; omega
  refine List.Perm.eq_of_pairwise (le:=fun a b=>eK a b=true) ?_ (List.pairwise_mergeSort tr to _) (List.pairwise_mergeSort tr to _) ((Xo _ _).trans (h.trans (Xo _ _).symm));intro a b ha hb e1 e2;have ha':=(h.mem_iff.1 ((Xo _ _).mem_iff.1 ha));have hb':=(Xo _ _).mem_iff.1 hb;refine oM h2 ha' hb' ?_;unfold eK at e1 e2;simp only[Vm] at e1 e2;exact VN (by simp only; omega) (by simp only; omega)
def sq(x:dm):∀l:YB dm,(Gg x l).Perm (x::l)
  | []=>.refl _
  | y::l=>by
    unfold Gg
    split
    exact .refl _
    exact((sq x l).cons y).trans (.swap x y l)
def nV:∀l:YB dm,(vD l).Perm l
  | []=>.refl _
  | x::l=>(sq x _).trans ((nV l).cons x)
def u7(a b c:dm):eK a b=true->eK b c=true->eK a c=true:=by
  unfold eK; simp only[Vm]; omega
def CL{a b:dm}(h:eK a b=false):eK b a=true:=by
  unfold eK at *; simp only[Vm,decide_eq_false_iff_not] at *; omega
def sU(x:dm):∀{l:YB dm},l.Pairwise (fun a b=>eK a b=true)->(Gg x l).Pairwise (fun a b=>eK a b=true)
  | [],_=>List.pairwise_singleton _ _
  | y::l,h=>by
    obtain⟨h1,h2⟩:=VA.1 h;unfold Gg
    split
    rename_i hc;refine VA.2 ⟨fun z hz=>?_,h⟩;rcases Vu.1 hz with rfl|hz
    exact hc
    exact u7 _ _ _ hc (h1 z hz)
    rename_i hc;refine VA.2 ⟨fun z hz=>?_,sU x h2⟩;rcases Vu.1 ((sq x l).mem_iff.1 hz) with rfl|hz
    exact CL (by simpa using hc)
    exact h1 z hz
def pI:∀l:YB dm,(vD l).Pairwise (fun a b=>eK a b=true)
  | []=>.nil
  | x::l=>sU x (pI l)
def xD{l:YB dm}(ho:rJ l=true):vD l=l.mergeSort eK:=by
  obtain⟨h1,h2⟩:=uX ho;refine List.Perm.eq_of_pairwise (le:=fun a b=>eK a b=true) ?_ (pI l) (List.pairwise_mergeSort u7 (fun a b=>by unfold eK; simp only[Wv,Vm]; omega) _) ((nV l).trans (Xo _ _).symm)
  intro a b ha hb e1 e2;have ha':=(nV l).mem_iff.1 ha;have hb':=(Xo _ _).mem_iff.1 hb;refine oM h2 ha' hb' ?_;unfold eK at e1 e2;simp only[Vm] at e1 e2;exact VN (by simp only; omega) (by simp only; omega)
abbrev RI:(Int×Int)×dm->XI×XI:=eM (fun p:Int×Int=>.agg #[.int .i64 p.1,.int .i64 p.2]) (fun x:XC=>.agg #[.int .i64 x.1,.int .i64 x.2.1,.int .i64 x.2.2.1,.int .i64 x.2.2.2])
def AD{E:Env}{m0 m:Yq}{t:Tm}{fs:Fs}{ps:YB Pc}{ty:XJ}{x:XK}{v:XI}{ag:Bool}{sz b o k:Nat}{cs:YB XI}{tg:Tag}(ht:TyI E.P ty ag sz)(hx:ev E fs x=some (ptr b o))(hp:pk ps k=some (.obj b (.cells cs tg)))(hv:Ag ag sz cs o=some v)(hf:Fr t fs)(hm:Hp m0 m ps):fM E t m (.load ty x)=some (v,m):=by
  have h1:=hf.ev hx;have h2:=tI (P:=E.P) ht (hm.get hp).2.2 hv
  show(match an E t x with|some p=>(eB E.P ty p m).map fun v=>(v,m)|none=>none)=_
  rw[h1]
  show(eB E.P ty _ m).map _=_
  rw[h2]; rfl
def TK{p q:YA Prim}:(Yt p q).P.underlying 37=some (.slice 44):=by kernel_rfl
def QE{p q:YA Prim}:SlT (Yt p q).P 37 44 4:=SlT.of (by kernel_rfl)
instance{p q:YA Prim}:UsC (Yt p q).P 37 44:=⟨TK⟩
instance{p q:YA Prim}:SlC (Yt p q).P 37 44 4:=⟨QE⟩
section
variable{q:YA Prim}
set_option maxHeartbeats 4000000
def Qa{m:Yq}{r:YB ((Int×Int)×dm)}{b b2:Nat}(hlim:lim r.length=true)(hok:rJ (r.map (·.2))=true){R:XI->Yq->Prop}
    (hR:∀(a:XG) (m':Yq),(r=[]->a=none)->Hp m m' [.sl a 4 r.length ((((r.map (·.2)).mergeSort eK)).map fL)]->R (.slice a r.length r.length) m') :
    Vk (Yt none none) 66 24 none (Sr 4 (oe Try.f24)) (j5 (Yt none none) [.tmp 2] R) m [(3,ptr b 0),(8,.slice none 0 0)] [.obj b (.cells [.map (some b2)] .own),.obj b2 (.map (r.map RI))]:=by
  refine Vk.mapRange (E:=Yt none none) vY (fun h=>h) (γ:=XG) (kt:=104) (et:=44) ⟨rfl,rfl⟩ ⟨rfl,rfl,rfl⟩ TQ ⟨rfl,rfl,rfl⟩ ⟨rfl,rfl,rfl⟩ ⟨rfl,rfl,rfl⟩ rfl (by decide) (by decide) (bm:=b2) (k:=1) (es:=r.map RI)
    (fun t m' hf hm=>AD (k:=0) RV rfl rfl rfl hf hm) rfl
    (fun bi S a=>([(8,.slice (Oq (mT r S) a) (mT r S).length (mT r S).length),(54,ptr bi 0)],[.sl (Oq (mT r S) a) 4 (mT r S).length ((mT r S).map fL)]))
    (fun bi S g=>rfl) (fun bi S g p hp=>by rw[Vb.1 hp]; exact⟨rfl,fun b hb=>.inl ⟨rfl,Pc.yI rfl hb⟩⟩) (fun _=>none) (fun bi=>⟨sc rfl (sc rfl sn),fun m1=>ai.nil 4 rfl⟩) ?_ ?_
  intro bi m1 S i e a hS hSl hi he;rw[Vf] at hSl;rw[VQ] at he;obtain⟨e,he0,rfl⟩:=W1.1 he;clear he;have he:=he0;have hn:(mT r (S++[i])).length<=r.length:=by
    refine VK Jv ?_;have hnd:(S++[i]).Nodup:=List.nodup_append.2 ⟨hS,Ww.2 ⟨WX,List.nodup_nil⟩,fun x hx y hy=>by rw[Vb.1 hy]; exact fun e=>hi (e▸hx)⟩
    have hsub:(S++[i])⊆List.range r.length:=fun x hx=>by
      rw[Vy];rcases Vq.1 hx with hx|hx
      exact hSl x hx
      rw[Vb.1 hx]; exact(Vn.1 he).1
    simpa using hnd.length_le_of_subset hsub
  have hl2:lim (mT r S++[e.2]).length=true:=by
    rw[<-rF he];exact Nat.ble_eq_true_of_le (VK hn (qx hlim))
  refine XR (LU rfl rfl) rfl ?_;refine X1 (Bg z44 rfl) gn rfl fun b6=>?_;refine X8 (fe (k:=0) PC rfl rfl rfl rfl rfl) ?_;refine XW (Q:=fun _=>_) ?_
  show Wk (Yt none none) 66 24 none _ _ m1 _ _
  refine XT ?_;refine XR (aX rfl) rfl ?_;refine XR (aJ (k:=0) PC rfl rfl rfl) rfl ?_;refine X1 (cB (es:=([e.2]:YB dm).map fL) QE rfl (cz QE z44 rfl rfl) rfl rfl) gn rfl fun b7=>?_;refine X1 (vy (k:=2) (k2:=0) (xs:=mT r S) (ys:=[e.2]) (Gs (uV .i64) (Gs (uV .i64) (Gs (uV .i64) (uV .i64)))) QE ⟨_,TK⟩ rfl rfl rfl (.arr _ _ _ _ _) hl2) gn rfl fun a8=>?_;refine XR (bE rfl) rfl ?_;refine XW (Q:=fun _=>_) ?_;intro t' m' hf hm;refine⟨rfl,a8,?_,?_⟩
  rw[rF he,xT];exact hf.sub (sc rfl (sc rfl sn))
  rw[rF he,xT];exact(ai.aq [2] rfl rfl) m' hm
  intro bi S a hS;rw[Vf] at hS;have hp:=Gc hS;have hlen:(mT r S).length=r.length:=by rw[hp.length_eq,Vf]
  refine Vk.of vY ?_;refine XS ?_;refine XT ?_;refine XR (aX rfl) rfl ?_;refine X1 (nq (α:=YC) (V:=fun _=>.tuple #[]) (N:=fun _=>_) rfl rfl fun m' hm=>Ln (k:=0) (l:=mT r S) hm rfl (xE hp hok) (by rw[hlen]; exact hlim)) gn rfl fun _=>?_
  refine XW ?_;refine XX ?_;refine XS ?_;refine XT ?_;refine XR (aX rfl) rfl ?_;refine XR (bE rfl) rfl ?_;refine XW ?_;refine XX ?_;refine Yb ?_;refine X2 (.tmp rfl .nil) fun m' hm=>?_;rw[hlen,xB hp hok] at hm;rw[hlen];exact hR _ m' (fun h=>by subst h; rw[VJ.1 hlen]; rfl) ((ai.aq [0] rfl rfl) m' hm)
end
abbrev zt:Int×Int->YB XI:=eP (eI .i64) (eI .i64)
abbrev Cx:=XD×XB
def sG(m:Yq)(v:XI)(x:Cx):Prop :=
  ∃a c a' c' R es,v=.agg #[.slice a x.1.length c,.slice a' x.2.length c']/\Rd m a c 2 x.1.length (x.1.map zt)/\Rd m a' c' 2 x.2.length es/\(cE al R x.2 es).P m
def NY:∀x y:Int,eI .i64 x=eI .i64 y->x=y:=fun x y h=>by
  have:=WB h;injection this
def QK:∀x y:Int×Int,zt x=zt y->x=y:=fun x y h=>by
  have h1:=WB h;have h2:=WB (List.tail_eq_of_cons_eq h);injection h1 with _ h1;injection h2 with _ h2;exact VN h1 h2
def P5:AU al:=TE (Rs NY) (Ti (Rs NY))
def sG.uniq{m:Yq}{v:XI}{x y:Cx}(h:sG m v x)(h':sG m v y):x=y:=by
  obtain⟨a,c,b,d,R,es,rfl,h1,h2,h3⟩:=h;obtain⟨a',c',b',d',R',es',e,h1',h2',h3'⟩:=h';injection e with e;injection e with e;have e1:=WB e;have e2:=WB (List.tail_eq_of_cons_eq e);injection e1 with e3 e4 e5;injection e2 with e6 e7 e8;subst e3 e6;have x1:=zO QK h1 h1' e4;have x2:=xr h2 h2' e7;subst x2;exact VN x1 (h3.1.uniq P5 h3'.1)
def oD(m:Yq)(l:YB dm):XI×Yq:=if l=[] then(.slice none 0 0,m) else(.slice (some ⟨m.next,0,none⟩) l.length l.length,m.alloc (.cells (l.map fL).flatten (.more 4)))
open Classical in
noncomputable def nh (args:YB XI) (m:Yq):YA (XI×Yq) :=
  match args with
  | [v]=>if h:∃l,∃x:Cx,sG m v x/\G4 0 x.1 x.2=some l then some (oD m (Classical.choose h)) else none
  | _=>none
noncomputable def nC:Prim:=⟨nh⟩
open Classical in
def wX{m m':Yq}{v r:XI}(h:nh [v] m=some (r,m')):∃x:Cx,∃l,sG m v x/\G4 0 x.1 x.2=some l/\oD m l=(r,m'):=by
  change dite _ _ _=_ at h
  by_cases hx:∃l,∃x:Cx,sG m v x/\G4 0 x.1 x.2=some l
  rw[dif_pos hx] at h;obtain⟨x,h1,h2⟩:=Wi hx;exact⟨x,_,h1,h2,U9 h⟩
  rw[dif_neg hx] at h; cases h
open Classical in
def Co{m:Yq}{v:XI}{x:Cx}{l:YB dm}(h:sG m v x)(hF:G4 0 x.1 x.2=some l):nh [v] m=some (oD m l):=by
  have hx:∃l,∃x:Cx,sG m v x/\G4 0 x.1 x.2=some l:=⟨l,x,h,hF⟩
  change dite _ _ _=_
  rw[dif_pos hx];obtain⟨y,h1,h2⟩:=Wi hx;have e1:=h1.uniq h;subst e1;rw[hF] at h2;rw[<-U9 h2]
def zP{args:YB XI}{m m':Yq}{v:XI}(h:nh args m=some (v,m'))(pr:Bool){j:aR}{w:XM}{args':YB XI}(hm:MR (Yt none none) j m w)(hl:LR j args args') :
    iy (Yt none none).P pr 24 args'.toArray w (jR (Yt none none) j m w v m'):=by
  have ha:∃v,args=[v]:=by
    unfold nh at h
    split at h
    exact⟨_,rfl⟩
    cases h
  obtain⟨va,rfl⟩:=ha;obtain⟨⟨l1,l5⟩,l,⟨a,c,a',c',R,es,rfl,h1,h2,h3⟩,hF,he⟩:=wX h;simp only at h1 h2 h3 hF;unfold G4 at hF;obtain⟨r,hFA,hF⟩:=J hF;obtain⟨hc,hF⟩:=aD hF;rw[Va] at hc;have hl':=U9 hF;subst hl';rw[xD hc.1] at he;have hh1:Rd { m with wl:=m.next} a c 2 l1.length (l1.map zt):=D4 h1
  have hh2:Rd { m with wl:=m.next} a' c' 2 l5.length es:=D4 h2
  have hh3:(cE al R l5 es).P { m with wl:=m.next}:=Np h3
  refine sI (AB (E:=Yt none none) (c:=oe Try.f24) (m0:={ m with wl:=m.next}) (m:={ m with wl:=m.next}) (N:=66) (rs:=[.tmp 2]) (ps:=[.gen (cE al R l5 es),.rd a' c' 2 l5.length es,.rd a c 2 l1.length (l1.map zt)]) vY Try.func24 rfl rfl rfl ((((XZ _).dc eL hh1).dc (fH eL) hh2).pG (fH (fH eL)) hh3) ?_) pr hm hl
  refine MG vY 100000 l1 l5 a c a' c' R es r hFA _ hh1 hh2 hh3 fun g=>?_;refine Qa (by simpa using hc.2) hc.1 fun a6 m1 ha6 hm1=>?_
  have hn0:({ m with wl:=m.next}:Yq).next=m.next:=rfl
  refine⟨⟨hm1.ext.next,fun b hb=>(hm1.ext.same b hb).trans Ik,by have:=hm1.ext.wl; rw[hn0] at this; exact VK (Xr (Nat.min_self _).symm) this⟩,?_⟩
  have hlen:((r.map (·.2)).mergeSort eK).length=r.length:=by rw[List.length_mergeSort,Vf]
  rcases hm1.get (k:=0) rfl with⟨e3,e2,rfl,_⟩|⟨b,tg,rfl,g1,g2,g3,g4,g5,g6,g7⟩
  have e4:=W5.1 e2;rw[e4] at he;unfold oD at he;rw[U5 rfl] at he;cases he;exact .inl ⟨rfl,by rw[e3],rfl⟩
  have hr:r≠[]:=fun e=>by cases ha6 e
  have hs:(r.map (·.2)).mergeSort eK≠[]:=fun e=>hr (W5.1 (VJ.1 (by rw[<-List.length_mergeSort (le:=eK),e]; rfl)))
  unfold oD at he;rw[U3 hs,hlen] at he;cases he;exact .inr ⟨b,_,tg,4,r.length,by decide,by rw[uL,hlen],VK (qx (by simpa using hc.2)) (by decide),rfl,rfl,g1,g2,g3,g6,qc _,rfl⟩
def qW:EnvOk (Yt (some nC) none):=vW (E:=Yt none none) vY (pr:=(Yt (some nC) none).cZ) fun f P hp=>by
  by_cases e:f=24
  subst e;have hp':some nC=some P:=hp;cases hp';exact .inr fun args m v m' h j w args' hm hl=>zP h _ hm hl
  refine .inl ?_;have:(Yt (some nC) none).cZ f=(Yt none none).cZ f:=by
    show(if f=24 then _ else _)=(if f=24 then _ else _)
    rw[U3 e,U3 e]
  rw[<-this]; exact hp
def Il{q:YA Prim}(n:Nat)(l1:XD)(l5:XB)(a2:XG)(c3:Nat)(a6:XG)(c7:Nat)(rr8:XH)(es9:XF)(r:YB dm)(hF:G4 n l1 l5=some r)(m:Yq)(h4:Rd m a2 c3 2 l1.length (l1.map zt))(h10:Rd m a6 c7 2 l5.length es9)(h11:(cE al rr8 l5 es9).P m) :
    aK (Yt (some nC) q) 24 [.agg #[.slice a2 l1.length c3,.slice a6 l5.length c7]] m (fun v m'=>∃x:XG×Nat,v=.slice x.1 x.2 x.2/\Hp m m' [.sl x.1 4 x.2 (r.map (eP (eI .i64) (eP (eI .i64) (eP (eI .i64) (eI .i64)))))]):=by
  have hrun:=Co (x:=(l1,l5)) ⟨a2,c3,a6,c7,rr8,es9,rfl,h4,h10,h11⟩ hF;unfold oD at hrun
  by_cases hr:r=[]
  rw[U5 hr] at hrun;refine aK.cZ (p:=nC) rfl hrun ⟨(none,0),rfl,?_⟩;subst hr;exact(ai.nil 4 rfl) m (XZ m)
  rw[U3 hr] at hrun;refine aK.cZ (p:=nC) rfl hrun ⟨(some ⟨m.next,0,none⟩,r.length),rfl,?_⟩
  refine(XZ m).cons (by rw[Yq.next_alloc]; exact Nat.le_succ _) ((Ext.refl m).alloc _) (fun b hlt=>by rw[Yq.aU,XP]) (.inr ⟨m.next,.more 4,rfl,U8 _,by rw[Yq.next_alloc]; exact Xb _,by rw[Yq.aU,U5 rfl],by simp,fun e he=>?_,.inr rfl,by decide⟩) (fun b' h'=>?_)
  obtain⟨x,_,rfl⟩:=Vi.1 he
  rfl
  cases h'; exact U8 _
end
section
open Go Go.Ab Go.Ab.W
set_option maxRecDepth 10000
set_option maxHeartbeats 4000000
attribute [local irreducible] Wo Wk At Wn Od Ox bj bW
attribute [local irreducible] Tm.at Trie.set Trie.get Yq.get Yq.set Yq.alloc Yq.ww Yq.kill
variable{p q:YA Prim}
def kW:∀b o,aG (Yt p q).P 34 (ptr b o) 0=some (ptr b (o+0)):=fun _ _=>by kernel_rfl
instance:FaC (Yt p q).P 34 0 0:=⟨kW⟩
def wQ:TyI (Yt p q).P 31 false 1:=⟨by kernel_rfl,by kernel_rfl,by kernel_rfl⟩
instance:TyC (Yt p q).P 31 false 1:=⟨wQ⟩
def Q7:(Yt p q).P.underlying 31=some (.slice 26):=by kernel_rfl
instance:UsC (Yt p q).P 31 26:=⟨Q7⟩
def Ae:SlT (Yt p q).P 31 26 2:=SlT.of (by kernel_rfl)
instance:SlC (Yt p q).P 31 26 2:=⟨Ae⟩
def dN:TyI (Yt p q).P 26 true 2:=⟨by kernel_rfl,by kernel_rfl,by kernel_rfl⟩
instance:TyC (Yt p q).P 26 true 2:=⟨dN⟩
def z26:bp (Yt p q).P 26=some (.agg #[.int .i64 0,.int .i64 0]):=by kernel_rfl
def eX:∀b o,aG (Yt p q).P 26 (ptr b o) 0=some (ptr b (o+0)):=fun _ _=>by kernel_rfl
instance:FaC (Yt p q).P 26 0 0:=⟨eX⟩
def eV:∀b o,aG (Yt p q).P 26 (ptr b o) 1=some (ptr b (o+1)):=fun _ _=>by kernel_rfl
instance:FaC (Yt p q).P 26 1 1:=⟨eV⟩
def DX:GK (Yt p q).P 26 3 3 .i64 .i64=true:=by kernel_rfl
def JG:(Yt p q).P.underlying 114=some (.map 26 4):=by kernel_rfl
def z4:bp (Yt p q).P 4=some (.bool false):=by kernel_rfl
def z116:bp (Yt p q).P 116=some (.nilFunc):=by kernel_rfl
def RC:TyI (Yt p q).P 116 false 1:=⟨by kernel_rfl,by kernel_rfl,by kernel_rfl⟩
instance:TyC (Yt p q).P 116 false 1:=⟨RC⟩
def FT:BdT (Yt p q).P 26 (.agg #[.int .i64 0,.int .i64 0]) [(0,1),(1,1)]:=.mk' (by kernel_rfl) (by kernel_rfl)
def Ul:(Yt p q).P.underlying 55=some (.slice 26):=by kernel_rfl
instance:UsC (Yt p q).P 55 26:=⟨Ul⟩
def SZ:SlT (Yt p q).P 55 26 2:=SlT.of (by kernel_rfl)
instance:SlC (Yt p q).P 55 26 2:=⟨SZ⟩
def z3:bp (Yt p q).P 3=some (.int .i64 0):=by kernel_rfl
def Q1:TyI (Yt p q).P 55 false 1:=⟨by kernel_rfl,by kernel_rfl,by kernel_rfl⟩
instance:TyC (Yt p q).P 55 false 1:=⟨Q1⟩
def z87:bp (Yt p q).P 87=some (.agg #[.int .i64 0,.int .i64 0,.int .i64 0,.int .i64 0,.int .i64 0]):=by kernel_rfl
def F3:BdT (Yt p q).P 87 (.agg #[.int .i64 0,.int .i64 0,.int .i64 0,.int .i64 0,.int .i64 0]) [(0,1),(1,2),(3,2)]:=.mk' (by kernel_rfl) (by kernel_rfl)
def Og:TyI (Yt p q).P 87 true 5:=⟨by kernel_rfl,by kernel_rfl,by kernel_rfl⟩
instance:TyC (Yt p q).P 87 true 5:=⟨Og⟩
def gT:∀b o,aG (Yt p q).P 87 (ptr b o) 1=some (ptr b (o+1)):=fun _ _=>by kernel_rfl
instance:FaC (Yt p q).P 87 1 1:=⟨gT⟩
def jq:∀b o,aG (Yt p q).P 87 (ptr b o) 2=some (ptr b (o+3)):=fun _ _=>by kernel_rfl
instance:FaC (Yt p q).P 87 2 3:=⟨jq⟩
def Pj:∀(x0 y0:Int) (x1 y1:Int),k8 (Yt p q).P Op.maxDepth 26 (.agg #[bu x0,bu x1]) (.agg #[bu y0,bu y1])=some (decide (x0=y0)&&decide (x1=y1)):=fun x0 y0 x1 y1=>NX DX x0 y0 x1 y1
def Pk:(Yt p q).P.eqGuardType (Yt p q).P.depth 26=false:=by kernel_rfl
def vN:∀b o,aG (Yt p q).P 87 (ptr b o) 0=some (ptr b (o+0)):=fun _ _=>by kernel_rfl
instance:FaC (Yt p q).P 87 0 0:=⟨vN⟩
def Ts:bp (Yt p q).P 149=some (.agg #[.int .i64 0,.int .i64 0,.int .i64 0,.int .i64 0,.int .i64 0,.int .i64 0,.int .i64 0,.int .i64 0]):=by kernel_rfl
def R6:BdT (Yt p q).P 149 (.agg #[.int .i64 0,.int .i64 0,.int .i64 0,.int .i64 0,.int .i64 0,.int .i64 0,.int .i64 0,.int .i64 0]) [(0,2),(2,2),(4,2),(6,2)]:=.mk' (by kernel_rfl) (by kernel_rfl)
def BE:ArT (Yt p q).P 149 26 4 2:=⟨by kernel_rfl,by kernel_rfl,by kernel_rfl⟩
instance:ArC (Yt p q).P 149 26 4 2:=⟨BE⟩
def u4:(Yt p q).P.underlying 4=some (.bool):=by kernel_rfl
def z131:bp (Yt p q).P 131=some (.map none):=by kernel_rfl
def QH:TyI (Yt p q).P 131 false 1:=⟨by kernel_rfl,by kernel_rfl,by kernel_rfl⟩
instance:TyC (Yt p q).P 131 false 1:=⟨QH⟩
def Si:(Yt p q).P.underlying 131=some (.map 104 4):=by kernel_rfl
def T1:bp (Yt p q).P 132=some (.slice none 0 0):=by kernel_rfl
def RD:TyI (Yt p q).P 132 false 1:=⟨by kernel_rfl,by kernel_rfl,by kernel_rfl⟩
instance:TyC (Yt p q).P 132 false 1:=⟨RD⟩
def Sv:(Yt p q).P.underlying 132=some (.slice 103):=by kernel_rfl
instance:UsC (Yt p q).P 132 103:=⟨Sv⟩
def LO:SlT (Yt p q).P 132 103 4:=SlT.of (by kernel_rfl)
instance:SlC (Yt p q).P 132 103 4:=⟨LO⟩
def Tg:bp (Yt p q).P 135=some (.nilFunc):=by kernel_rfl
def IN:TyI (Yt p q).P 135 false 1:=⟨by kernel_rfl,by kernel_rfl,by kernel_rfl⟩
instance:TyC (Yt p q).P 135 false 1:=⟨IN⟩
def zJ:∀b o,aG (Yt p q).P 103 (ptr b o) 3=some (ptr b (o+3)):=fun _ _=>by kernel_rfl
instance:FaC (Yt p q).P 103 3 3:=⟨zJ⟩
def z70:bp (Yt p q).P 70=some (.map none):=by kernel_rfl
def LN:TyI (Yt p q).P 70 false 1:=⟨by kernel_rfl,by kernel_rfl,by kernel_rfl⟩
instance:TyC (Yt p q).P 70 false 1:=⟨LN⟩
def UC:bp (Yt p q).P 71=some (.nilFunc):=by kernel_rfl
def M1:TyI (Yt p q).P 71 false 1:=⟨by kernel_rfl,by kernel_rfl,by kernel_rfl⟩
instance:TyC (Yt p q).P 71 false 1:=⟨M1⟩
def JC:∀b o,aG (Yt p q).P 44 (ptr b o) 0=some (ptr b (o+0)):=fun _ _=>by kernel_rfl
instance:FaC (Yt p q).P 44 0 0:=⟨JC⟩
def I7:∀b o,aG (Yt p q).P 44 (ptr b o) 1=some (ptr b (o+1)):=fun _ _=>by kernel_rfl
instance:FaC (Yt p q).P 44 1 1:=⟨I7⟩
def UI:bp (Yt p q).P 73=some (.agg #[.int .i64 0,.int .i64 0]):=by kernel_rfl
def TL:BdT (Yt p q).P 73 (.agg #[.int .i64 0,.int .i64 0]) [(0,1),(1,1)]:=.mk' (by kernel_rfl) (by kernel_rfl)
def Qi:ArT (Yt p q).P 73 3 2 1:=⟨by kernel_rfl,by kernel_rfl,by kernel_rfl⟩
instance:ArC (Yt p q).P 73 3 2 1:=⟨Qi⟩
def Qv:(Yt p q).P.underlying 70=some (.map 3 3):=by kernel_rfl
def Kz{n x1 x2 r}(hF:QA n x1 x2=some r)(m):
 aK (Yt p q) 30 [nK x1 x2] m (Yp m (.bool r)):=by
 unfold QA at hF;refine cw Try.func30 (XZ m) ?_;refine wz ?_;refine wb fun b3=>?_;refine az ?_;refine XR (nI rfl rfl (nk _ _)) rfl ?_;refine wz ?_;rcases aa hF with⟨h4,hF⟩|⟨h4,hF⟩;refine az ?_;cases hF;exact ar () [];refine wz ?_;refine X3 (nI rfl rfl (Al _ _)) (gg rfl rfl (tD h4)) rfl ?_;refine az ?_;cases hF;exact ar () []
def Qf{n l1 a2 c3 r}(hF:Qp n l1=some r)(m)(h4:Dm m a2 c3 l1):
 aK (Yt p q) 63 [bQ a2 l1 c3] m (Yp m (.int .i64 r)):=by
 unfold Qp at hF;refine cw Try.func63 (X6 (XZ m) eL h4) ?_;refine az ?_;rcases aa hF with⟨h6,hF⟩|⟨h6,hF⟩;refine X7 rfl h6 ?_;cases hF;refine az ?_;obtain⟨h7,hF⟩:=du hF;refine X4 (k:=0) rfl (aW h7) ?_;rintro b8 o9 rfl;refine wz ?_;obtain⟨x10,h11,hF⟩:=J hF;refine az ?_;refine XV ?_;obtain⟨v22,h27,hF⟩:=J hF;refine ct (fun v22 (_:YC)=>⟨(.exit 0),[(3,bu v22)],[]⟩) v22 ?_ ?_;refine lo h27 () [0,1] (fun(v14,v15) _=>⟨.normal,[(0,wV b8 o9 l1 c3),(3,bu v14),(4,bu v15)],(qB b8 o9 l1 c3 [])⟩) ?_;clear hF h27;rintro⟨v14,v15⟩ ⟨⟩ r hF;unfold Bf at hF;refine wz ?_;rcases aa hF with⟨h23,hF⟩|⟨h23,hF⟩;refine az ?_;obtain⟨h24,hF⟩:=du hF;refine wz ?_;obtain⟨x25,h26,hF⟩:=J hF;refine wz ?_;refine XR (nI rfl rfl (nk _ _)) rfl ?_;refine az ?_;cases hF;exact ae () [0,1];refine wz ?_;cases hF;exact ae () [];rintro⟨⟩;refine ja ?_;obtain rfl:=U9 hF;exact ar () []
def Om{n l1 a2 c3 r}(hF:Fo n l1=some r)(m)(h4:Dm m a2 c3 l1):
 aK (Yt p q) 64 [bQ a2 l1 c3] m (Yp m (.int .i64 r)):=by
 unfold Fo at hF;refine cw Try.func64 (X6 (XZ m) eL h4) ?_;refine az ?_;rcases aa hF with⟨h6,hF⟩|⟨h6,hF⟩;refine X7 rfl h6 ?_;cases hF;refine az ?_;obtain⟨h7,hF⟩:=du hF;refine X4 (k:=0) rfl (aW h7) ?_;rintro b8 o9 rfl;refine wz ?_;obtain⟨x10,h11,hF⟩:=J hF;refine az ?_;refine XV ?_;obtain⟨v22,h27,hF⟩:=J hF;refine ct (fun v22 (_:YC)=>⟨(.exit 0),[(3,bu v22)],[]⟩) v22 ?_ ?_;refine lo h27 () [0,1] (fun(v14,v15) _=>⟨.normal,[(0,wV b8 o9 l1 c3),(3,bu v14),(4,bu v15)],(qB b8 o9 l1 c3 [])⟩) ?_;clear hF h27;rintro⟨v14,v15⟩ ⟨⟩ r hF;unfold Au at hF;refine wz ?_;rcases aa hF with⟨h23,hF⟩|⟨h23,hF⟩;refine az ?_;obtain⟨h24,hF⟩:=du hF;refine wz ?_;obtain⟨x25,h26,hF⟩:=J hF;refine wz ?_;refine XR (nI rfl rfl (Al _ _)) rfl ?_;refine az ?_;cases hF;exact ae () [0,1];refine wz ?_;cases hF;exact ae () [];rintro⟨⟩;refine ja ?_;obtain rfl:=U9 hF;exact ar () []
def rK{n l1 l5 l12 x16 a2 c3 a6 c7}{rr8:XH}{es9:XF}{a13 c14 r}(hF:KN n l1 l5 l12 x16=some r)(m)(h4:lF m a2 c3 l1)(h10:pC m a6 c7 l5 es9)(h11:(cE al rr8 l5 es9).P m)(h15:Dm m a13 c14 l12):
 aK (Yt p q) 27 [mU a2 l1 c3 a6 l5 c7,bQ a13 l12 c14,bu x16] m (fun v m'=>∃x:XG×Nat,v=.slice x.1 x.2 x.2/\Hp m m' [.sl x.1 2 x.2 (r.map (eP (eI .i64) (eI .i64)))]):=by
 unfold KN at hF;refine cw Try.func27 (X6 (Hp.pG (X6 (X6 (XZ m) eL h4) (fH eL) h10) (fH (fH eL)) h11) (SN (fH (fH eL))) h15) ?_;refine XS<|XT<|wb fun b17=>?_;refine XR (bE rfl) rfl<|XW<|XX<|XS<|XT<|XR (bE rfl) rfl<|XW<|XX<|XS<|XS<|XT<|XR (aX rfl) rfl<|XR (qv (k:=1) PD rfl rfl (.inl rfl)) rfl<|XR (aX rfl) rfl<|XW<|XX<|XV ?_;obtain⟨l58,h76,hF⟩:=J hF;refine ct (fun l58 (a59:XG)=>⟨(.exit 0),[(7,bZ a59 l58)],[dz a59 l58]⟩) l58 ?_ ?_;refine lw h76 none (fun(l36,v38) a37=>⟨.normal,((2,bu x16)::(3,ptr b17 0)::(7,bZ a37 l36)::BB a13 l12 c14 v38 []),(ig b17 a2 l1 c3 a6 l5 c7 es9 al rr8 [dz a37 l36,pD a13 c14 l12])⟩) (ai.trans (ai.nil 2 rfl) (ai.aq [1,5,4,3,0,2] rfl rfl)) ?_;clear hF h76;rintro⟨l36,v38⟩ a37 r hF;unfold B5 at hF;refine XS<|XT<|XR (aL rfl rfl (iJ _ _ _)) rfl<|XW<|XX<|XS ?_;rcases aa hF with⟨h60,hF⟩|⟨h60,hF⟩;refine X7 rfl h60<|X9<|XX<|XS<|XV<|XS<|XT ?_;obtain⟨h61,hF⟩:=du hF;refine X4 (k:=5) rfl (aW h61) ?_;rintro b62 o63 rfl;refine X3 (qX fQ rfl rfl h61) gn rfl ?_;obtain⟨x64,h65,hF⟩:=J hF;refine XR (sY (k:=0) cK rfl rfl (kV h65) rfl rfl) rfl<|XR (bE rfl) rfl<|XW<|XX<|Wk.draw (by kernel_rfl)<|XR (aX rfl) rfl<|XR (aX rfl) rfl<|XR (aI (r:=ptr b17 0) rfl (kW _ _)) rfl<|XR (aJ (k:=1) wQ rfl rfl rfl) rfl<|XR (aX rfl) rfl ?_
 obtain⟨h66,hF⟩:=du hF;refine X4 (k:=2) rfl (aW h66) ?_;rintro b67 o68 rfl;refine X3 (qX Ae rfl rfl h66) gn rfl<|XR (aI (r:=ptr b67 (o68+x64.toNat*2+0)) rfl (eX _ _)) rfl ?_;obtain⟨⟨x69,x70⟩,h71,hF⟩:=J hF;refine XR (sY (k:=0) cK rfl rfl (kV h71) rfl rfl) rfl<|XR (aL rfl rfl (dV _ _ _)) rfl<|XR (aX rfl) rfl<|XR (aI (r:=ptr b17 0) rfl (kW _ _)) rfl<|XR (aJ (k:=2) wQ rfl rfl rfl) rfl<|XR (aX rfl) rfl ?_;obtain⟨h72,hF⟩:=du hF;refine X3 (qX Ae rfl rfl h72) gn rfl<|XR (aI (r:=ptr b67 (o68+x64.toNat*2+1)) rfl (eV _ _)) rfl<|XR (sY (k:=0) cK rfl rfl (kV h71) rfl rfl) rfl<|XR (aL rfl rfl (dV _ _ _)) rfl<|XR (cR rfl z26 rfl (cQ FT rfl rfl rfl)) rfl<|X1 (cB (es:=([(XN (x16*x69),XN (x16*x70))]:XD).map (eP (eI .i64) (eI .i64))) SZ rfl (cz SZ z26 rfl rfl) rfl rfl) gn rfl fun b73=>?_;obtain⟨h74,hF⟩:=aD hF;refine X1 (vy (k:=7) (k2:=0) (xs:=(l36:XD)) (ys:=([(XN (x16*x69),XN (x16*x70))]:XD)) (Gs (uV .i64) (uV .i64)) SZ ⟨_,Ul⟩ rfl rfl rfl (.arr _ _ _ _ _) h74) gn rfl fun a75=>?_;refine XR (bE rfl) rfl<|XW<|At.bn<|XX<|XT<|XR (aL rfl rfl (bD _ _ _)) rfl<|XR (aX rfl) rfl<|XW ?_;cases hF;exact ae a75 (Yk 3 6);refine Yc rfl h60<|Wk.exit<|At.te ?_;cases hF;exact ae a37 [4];rintro a59;refine Yi<|XX<|XS<|XT<|XR (aX rfl) rfl<|XR (bE rfl) rfl<|XW<|XX<|Yb ?_;obtain rfl:=U9 hF;exact ar (a59,l58.length) [0]
def vO{n x1 x2 r}(hF:KS n x1 x2=some r)(m):
 aK (Yt p q) 38 [nK x1 x2] m (Yp m (.bool r)):=by
 unfold KS at hF;refine cw Try.func38 (XZ m) ?_;refine wz ?_;refine wb fun b3=>?_;refine az ?_;refine XR (FG rfl (NG _)) rfl ?_;refine wz ?_;refine XR (FG rfl (NG _)) rfl ?_;obtain⟨y4,h5,hF⟩:=J hF;refine XR (nI rfl rfl (fun m=>(Oj _ _ _ _ m).trans (U1 h5))) rfl ?_;refine wz ?_;rcases aa hF with⟨h6,hF⟩|⟨h6,hF⟩;refine az ?_;cases hF;exact ar () [];refine wz ?_;refine X3 (nI rfl rfl (nk _ _)) (gg rfl rfl (tD h6)) rfl ?_;refine az ?_;cases hF;exact ar () []
def Je{n x1 r}(hF:Sd n x1=some r)(m):
 aK (Yt p q) 80 [bu x1] m (Yp m (.bool r)):=by
 unfold Sd at hF;refine cw Try.func80 (XZ m) ?_;refine ja ?_;cases hF;exact ar () []
def DJ{n x1 x2 r}(hF:Px n x1 x2=some r)(m):
 aK (Yt p q) 58 [bu x1,bu x2] m (Yp m (.int .i64 r)):=by
 unfold Px at hF;refine cw Try.func58 (XZ m) ?_;refine az ?_;obtain⟨r4,h3,hF⟩:=J hF;refine wc gn (fun m hm=>Je h3 m) ?_;rintro⟨⟩;refine az ?_;obtain⟨r6,h5,hF⟩:=J hF;refine wc gn (fun m hm=>Je h5 m) ?_;rintro⟨⟩;refine az ?_;rcases aa hF with⟨h7,hF⟩|⟨h7,hF⟩;refine wz ?_;rcases aa hF with⟨h8,hF⟩|⟨h8,hF⟩;refine az ?_;cases hF;exact ar () [];refine ja ?_;cases hF;exact ar () [];refine az ?_;rcases aa hF with⟨h9,hF⟩|⟨h9,hF⟩;refine az ?_;cases hF;exact ar () [];refine az ?_;rcases aa hF with⟨h10,hF⟩|⟨h10,hF⟩;refine az ?_;cases hF;exact ar () [];refine az ?_;rcases aa hF with⟨h11,hF⟩|⟨h11,hF⟩;refine az ?_;cases hF;exact ar () [];refine ja ?_;cases hF;exact ar () []
def rZ{n x1 x2 x3 x4 x5 x6 r}(hF:KH n x1 x2 x3 x4 x5 x6=some r)(m):
 aK (Yt p q) 41 [nK x1 x2,nK x3 x4,nK x5 x6] m (Yp m (.int .i64 r)):=by
 unfold KH at hF;refine cw Try.func41 (XZ m) ?_;refine wz ?_;refine wb fun b7=>?_;refine wb fun b8=>?_;refine wb fun b9=>?_;refine wz ?_;refine XS<|XT<|XR (aI (r:=ptr b8 0) rfl (eX _ _)) rfl<|XR (aJ (k:=1) cK rfl rfl rfl) rfl<|XR (aI (r:=ptr b7 0) rfl (eX _ _)) rfl<|XR (aJ (k:=2) cK rfl rfl rfl) rfl<|XR (aL rfl rfl (df _ _ _)) rfl<|XR (aI (r:=ptr b9 1) rfl (eV _ _)) rfl<|XR (aJ (k:=0) cK rfl rfl rfl) rfl<|XR (aI (r:=ptr b7 1) rfl (eV _ _)) rfl<|XR (aJ (k:=2) cK rfl rfl rfl) rfl<|XR (aL rfl rfl (df _ _ _)) rfl ?_;obtain⟨y10,h11,hF⟩:=J hF;refine XR (aL rfl rfl ((dV _ _ _).trans (cI h11))) rfl<|XR (aI (r:=ptr b8 1) rfl (eV _ _)) rfl<|XR (aJ (k:=1) cK rfl rfl rfl) rfl<|XR (aI (r:=ptr b7 1) rfl (eV _ _)) rfl<|XR (aJ (k:=2) cK rfl rfl rfl) rfl<|XR (aL rfl rfl (df _ _ _)) rfl<|XR (aI (r:=ptr b9 0) rfl (eX _ _)) rfl<|XR (aJ (k:=0) cK rfl rfl rfl) rfl<|XR (aI (r:=ptr b7 0) rfl (eX _ _)) rfl<|XR (aJ (k:=2) cK rfl rfl rfl) rfl<|XR (aL rfl rfl (df _ _ _)) rfl ?_;obtain⟨y12,h13,hF⟩:=J hF;refine XR (aL rfl rfl ((dV _ _ _).trans (cI h13))) rfl ?_;obtain⟨r15,h14,hF⟩:=J hF;refine wc gn (fun m hm=>DJ h14 m) ?_;rintro⟨⟩;refine az ?_;obtain rfl:=U9 hF;exact ar () []
def Qd{n l1 a2 c3 r}(hF:Rz n l1=some r)(m)(h4:Dm m a2 c3 l1):
 aK (Yt p q) 79 [bQ a2 l1 c3] m (Yp m (.int .i64 r)):=by
 unfold Rz at hF;refine cw Try.func79 (X6 (XZ m) eL h4) ?_;refine ja ?_;refine XV ?_;obtain⟨r24,h23,hF⟩:=J hF;refine ct (fun(r:Int⊕YC) (g:YC)=>match r,g with|.inl v15,_=>⟨.ret,[(2,bu v15)],[]⟩|.inr _,_=>⟨(.exit 0),[(3,.int .i64 0)],[]⟩) r24 ?_ ?_
 refine lo h23 () [0] (fun v6 _=>⟨.normal,[(3,.int .i64 0),(6,bQ a2 l1 c3),(7,eD l1),(8,bu v6)],[pD a2 c3 l1]⟩) ?_;clear hF h23;rintro v6 ⟨⟩ r hF;unfold sM at hF;refine wz ?_;refine XS ?_;rcases aa hF with⟨h16,hF⟩|⟨h16,hF⟩;refine az ?_;obtain⟨h17,hF⟩:=du hF;refine X4 (k:=0) rfl (aW h17) ?_;rintro b18 o19 rfl;refine wz ?_;obtain⟨x20,h21,hF⟩:=J hF;refine az ?_;rcases aa hF with⟨h22,hF⟩|⟨h22,hF⟩;refine az ?_;cases hF;exact ae () [];refine az ?_;cases hF;exact ae () [1];refine wz ?_;cases hF;exact ae () [];rcases r24 with v15|_;rintro⟨⟩;refine wz ?_;obtain rfl:=U9 hF;exact ar () [];rintro⟨⟩;refine ja ?_;cases hF;exact ar () []
def C0{n x1 x2 x3 x4 r}(hF:K7 n x1 x2 x3 x4=some r)(m):
 aK (Yt p q) 57 [nK x1 x2,nK x3 x4] m (Yp m (.int .i64 r)):=by
 unfold K7 at hF;refine cw Try.func57 (XZ m) ?_;refine wz ?_;refine wb fun b5=>?_;refine wb fun b6=>?_;refine wz ?_;refine XS<|Ya (prs:=[(4,6),(4,8)]) (by kernel_rfl)<|XU (aI (r:=ptr b5 0) rfl (eX _ _)) rfl<|XU (aJ (k:=1) cK rfl rfl rfl) rfl<|XU (aI (r:=ptr b6 0) rfl (eX _ _)) rfl<|XU (aJ (k:=0) cK rfl rfl rfl) rfl ?_
 obtain⟨r8,h7,hF⟩:=J hF;refine nc gn (fun m hm=>DJ h7 m) ?_;rintro⟨⟩;refine XU (aI (r:=ptr b5 1) rfl (eV _ _)) rfl<|XU (aJ (k:=1) cK rfl rfl rfl) rfl<|XU (aI (r:=ptr b6 1) rfl (eV _ _)) rfl<|XU (aJ (k:=0) cK rfl rfl rfl) rfl ?_;obtain⟨r10,h9,hF⟩:=J hF;refine nc gn (fun m hm=>DJ h9 m) ?_;rintro⟨⟩;refine Wn.x (cB (es:=([r8,r10]:YB (Int)).map (eI .i64)) fQ rfl (cz fQ z3 rfl rfl) rfl rfl) gn rfl fun b11=>?_;obtain⟨r13,h12,hF⟩:=J hF;refine nc gn (fun m hm=>Qd h12 m (hm.q 0)) ?_;rintro⟨⟩;refine XU (bE rfl) rfl<|X5 (fun m hm=>dQ.all rfl) ?_;refine az ?_;obtain rfl:=U9 hF;exact ar () []
def Gx{n x1 x2 x3 x4 x5 x6 x7 r}(hF:Qy n x1 x2 x3 x4 x5 x6 x7=some r)(m):
 aK (Yt p q) 40 [OB x1 x2 x3 x4 x5,nK x6 x7] m (Yp m (.bool r)):=by
 unfold Qy at hF;refine cw Try.func40 (XZ m) ?_;refine wz ?_;refine wb fun b8=>?_;refine wb fun b9=>?_;refine az ?_;obtain⟨r11,h10,hF⟩:=J hF;refine wc gn (fun m hm=>rZ h10 m) ?_;rintro⟨⟩;refine wz ?_;rcases aa hF with⟨h12,hF⟩|⟨h12,hF⟩;refine az ?_;cases hF;exact ar () [];refine wz ?_;refine XS<|Ya (prs:=[(3,6)]) (by kernel_rfl)<|XU (aI (r:=ptr b8 1) rfl (gT _ _)) rfl<|XU (aJ (k:=1) dN rfl rfl rfl) rfl<|XU (aI (r:=ptr b8 3) rfl (jq _ _)) rfl<|Wn.yX rfl (aJ (k:=1) dN rfl rfl rfl) rfl<|Wn.x (Bg z26 rfl) gn rfl fun b13=>?_
 refine Wn.x (Bg z26 rfl) gn rfl fun b14=>?_;refine Wn.KI rfl (fe (k:=1) dN rfl rfl rfl rfl rfl)<|Wn.o0 (fe (k:=0) dN rfl rfl rfl rfl rfl)<|X5 (fun m hm=>(dQ.rw rfl rfl rfl (hm.ne (i:=3) (j:=1) rfl rfl rfl rfl (by decide) rfl) dQ.nil))<|XX<|XS ?_
 obtain⟨r26,h25,hF⟩:=J hF;refine ct (fun(v18,v19,v20,v21) (_:YC)=>⟨.normal,[(3,ptr b9 0),(5,ptr b13 0),(6,ptr b14 0)],[iQ b9 x6 x7,iQ b13 v18 v19,iQ b14 v20 v21]⟩) r26 ?_ ?_;clear hF;revert r26;intro r hF;refine wz ?_;obtain⟨r23,h22,hF⟩:=J hF;refine wc gn (fun m hm=>C0 h22 m) ?_;rintro⟨⟩;refine wz ?_;rcases aa hF with⟨h24,hF⟩|⟨h24,hF⟩;refine wz ?_;cases hF;exact ae () [2,1,0];refine wz ?_;cases hF;exact ae () [2,1,0];clear h25;obtain⟨v18,v19,v20,v21⟩:=r26;rintro⟨⟩;refine az ?_;obtain⟨r28,h27,hF⟩:=J hF;refine wc gn (fun m hm=>C0 h27 m) ?_;rintro⟨⟩;refine wz ?_;rcases aa hF with⟨h29,hF⟩|⟨h29,hF⟩;refine wz ?_;obtain⟨r31,h30,hF⟩:=J hF;refine wc (gg rfl rfl (fg h29)) (fun m hm=>C0 h30 m) ?_;rintro⟨⟩;refine az ?_;cases hF;exact ar () [];refine az ?_;cases hF;exact ar () []
def G1{n x1 x2 x3 x4 x5 x6 x7 x8 x9 x10 r}(hF:Qs n x1 x2 x3 x4 x5 x6 x7 x8 x9 x10=some r)(m):
 aK (Yt p q) 78 [OB x1 x2 x3 x4 x5,OB x6 x7 x8 x9 x10] m (Yp m (.int .i64 r)):=by
 unfold Qs at hF;refine cw Try.func78 (XZ m) ?_;refine XS<|XT<|wb fun b0=>?_;refine wb fun b1=>?_;refine XR (bE rfl) rfl<|XW<|XX<|XS<|Ya (prs:=[(6,8),(6,10),(6,12)]) (by kernel_rfl)<|XU (aI (r:=ptr b0 1) rfl (gT _ _)) rfl<|XU (aJ (k:=1) dN rfl rfl rfl) rfl<|XU (aI (r:=ptr b0 3) rfl (jq _ _)) rfl<|XU (aJ (k:=1) dN rfl rfl rfl) rfl<|XU (aI (r:=ptr b1 1) rfl (gT _ _)) rfl<|XU (aJ (k:=0) dN rfl rfl rfl) rfl ?_
 obtain⟨r0,h12,hF⟩:=J hF;refine nc gn (fun m hm=>rZ h12 m) ?_;rintro⟨⟩;refine XU (aI (r:=ptr b0 1) rfl (gT _ _)) rfl<|XU (aJ (k:=1) dN rfl rfl rfl) rfl<|XU (aI (r:=ptr b0 3) rfl (jq _ _)) rfl<|XU (aJ (k:=1) dN rfl rfl rfl) rfl<|XU (aI (r:=ptr b1 3) rfl (jq _ _)) rfl<|XU (aJ (k:=0) dN rfl rfl rfl) rfl ?_;obtain⟨r1,h13,hF⟩:=J hF;refine nc gn (fun m hm=>rZ h13 m) ?_;rintro⟨⟩;refine XU (bE rfl) rfl<|XU (bE rfl) rfl<|X5 (fun m hm=>dQ.all rfl)<|XX<|XS<|Ya (prs:=[(6,8),(6,10),(6,12)]) (by kernel_rfl)<|XU (aI (r:=ptr b1 1) rfl (gT _ _)) rfl<|XU (aJ (k:=0) dN rfl rfl rfl) rfl<|XU (aI (r:=ptr b1 3) rfl (jq _ _)) rfl<|XU (aJ (k:=0) dN rfl rfl rfl) rfl<|XU (aI (r:=ptr b0 1) rfl (gT _ _)) rfl<|XU (aJ (k:=1) dN rfl rfl rfl) rfl ?_
 obtain⟨r3,h14,hF⟩:=J hF;refine nc gn (fun m hm=>rZ h14 m) ?_;rintro⟨⟩;refine XU (aI (r:=ptr b1 1) rfl (gT _ _)) rfl<|XU (aJ (k:=0) dN rfl rfl rfl) rfl<|XU (aI (r:=ptr b1 3) rfl (jq _ _)) rfl<|XU (aJ (k:=0) dN rfl rfl rfl) rfl<|XU (aI (r:=ptr b0 3) rfl (jq _ _)) rfl<|XU (aJ (k:=1) dN rfl rfl rfl) rfl ?_;obtain⟨r4,h15,hF⟩:=J hF;refine nc gn (fun m hm=>rZ h15 m) ?_;rintro⟨⟩;refine XU (bE rfl) rfl<|XU (bE rfl) rfl<|X5 (fun m hm=>dQ.all rfl)<|XX<|XS<|XT<|X1 Hc gn rfl fun b2=>?_;refine XR (bE rfl) rfl<|XW<|XX<|XS<|XS<|XT<|XR (aI (r:=ptr b0 1) rfl (gT _ _)) rfl<|XR (aJ (k:=2) dN rfl rfl rfl) rfl<|XR (aI (r:=ptr b0 3) rfl (jq _ _)) rfl<|XR (aJ (k:=2) dN rfl rfl rfl) rfl<|XR (aI (r:=ptr b1 1) rfl (gT _ _)) rfl<|XR (aJ (k:=1) dN rfl rfl rfl) rfl<|XR (aI (r:=ptr b1 3) rfl (jq _ _)) rfl<|XR (aJ (k:=1) dN rfl rfl rfl) rfl<|XR (cR rfl Ts rfl (cQ R6 rfl rfl rfl)) rfl ?_;refine XR (aX rfl) rfl<|XW<|XX<|XV ?_;obtain⟨l1,h3,hF⟩:=J hF;refine ct (fun l1 (_:YC)=>⟨(.exit 0),[(5,bu r0),(6,bu r1),(7,bu r3),(8,bu r4),(9,.map (some b2))],[.obj b2 (.map (l1.map (eM (fun p:Int×Int=>.agg #[.int .i64 p.1,.int .i64 p.2]) (fun b:Bool=>.bool b))))]⟩) l1 ?_ ?_;refine lo h3 () [2,1,0] (fun(l2,v0) _=>⟨.normal,(jC b0 b1 [(5,bu r0),(6,bu r1),(7,bu r3),(8,bu r4),(9,.map (some b2)),(49,N6 x2 x3 x4 x5 x7 x8 x9 x10),(50,bu v0)]),[iq b0 x1 x2 x3 x4 x5,iq b1 x6 x7 x8 x9 x10,.obj b2 (.map (l2.map (eM (fun p:Int×Int=>.agg #[.int .i64 p.1,.int .i64 p.2]) (fun b:Bool=>.bool b))))]⟩) ?_;clear hF h3;rintro⟨l2,v0⟩ ⟨⟩ r hF;unfold tj at hF;refine XS<|XT<|XR (aL rfl rfl (iJ _ _ _)) rfl<|XW<|XX<|XS ?_;rcases aa hF with⟨h4,hF⟩|⟨h4,hF⟩;refine X7 rfl h4<|X9<|XX<|XS ?_;obtain⟨l3,h16,hF⟩:=J hF;refine ct (fun l3 (_:YC)=>⟨.normal,(jC b0 b1 [(5,bu r0),(6,bu r1),(7,bu r3),(8,bu r4),(9,.map (some b2)),(49,N6 x2 x3 x4 x5 x7 x8 x9 x10),(50,bu v0)]),[iq b0 x1 x2 x3 x4 x5,iq b1 x6 x7 x8 x9 x10,.obj b2 (.map (l3.map (eM (fun p:Int×Int=>.agg #[.int .i64 p.1,.int .i64 p.2]) (fun b:Bool=>.bool b))))]⟩) l3 ?_ ?_;clear hF;revert l3;intro r hF;refine XV<|XS<|XT ?_;obtain⟨h17,hF⟩:=aD hF;obtain⟨⟨x11,x12⟩,h0,hF⟩:=J hF;refine X1 (Hz (α:=YC) (V:=fun g=>match g with|_=>.agg #[bu x11,bu x12]) (N:=fun g=>match g with|_=>[]++[iq b0 x1 x2 x3 x4 x5,iq b1 x6 x7 x8 x9 x10,.obj b2 (.map (l2.map (eM (fun p:Int×Int=>.agg #[.int .i64 p.1,.int .i64 p.2]) (fun b:Bool=>.bool b))))]) rfl rfl (fun m hm=>?_)) gn rfl ?_
 have hj:=qS h17;obtain⟨j,h11⟩:∃j:Nat,(v0:Int)=j:=⟨_,(Ws hj.1).symm⟩;rw[h11] at h0 hj ⊢;rw[VH] at h0 hj;replace hj:=hj.2;clear hF h11
 match j,hj,h0 with
 | 0,_,h0=>cases h0; exact⟨(),zi BE (i:=0) (by decide) (qt dN rfl),hm⟩
 | 1,_,h0=>cases h0; exact⟨(),zi BE (i:=1) (by decide) (qt dN rfl),hm⟩
 | 2,_,h0=>cases h0; exact⟨(),zi BE (i:=2) (by decide) (qt dN rfl),hm⟩
 | 3,_,h0=>cases h0; exact⟨(),zi BE (i:=3) (by decide) (qt dN rfl),hm⟩
 | _+4,hj,_=>exact Vr hj (by omega)
 rintro⟨⟩;refine wa z26 fun b3=>?_;refine X8 (fe (k:=0) dN rfl rfl rfl rfl rfl)<|XW<|XX<|XS ?_;obtain⟨v1,h18,hF⟩:=J hF;refine ct (fun v1 (_:YC)=>⟨.normal,(jC b0 b1 [(5,bu r0),(6,bu r1),(7,bu r3),(8,bu r4),(9,.map (some b2)),(11,ptr b3 0),(49,N6 x2 x3 x4 x5 x7 x8 x9 x10),(50,bu v0),(60,.bool v1)]),[iq b0 x1 x2 x3 x4 x5,iq b1 x6 x7 x8 x9 x10,.obj b2 (.map (l2.map (eM (fun p:Int×Int=>.agg #[.int .i64 p.1,.int .i64 p.2]) (fun b:Bool=>.bool b)))),iQ b3 x11 x12]⟩) v1 ?_ ?_;clear hF;revert v1;intro r hF;refine XT<|XR (aJ (k:=1) Og rfl rfl rfl) rfl<|XR (aJ (k:=0) dN rfl rfl rfl) rfl ?_;obtain⟨r5,h19,hF⟩:=J hF;refine wc gn (fun m hm=>Gx h19 m) ?_;rintro⟨⟩;refine XR (aX rfl) rfl ?_;rcases aa hF with⟨h2,hF⟩|⟨h2,hF⟩;refine X3 (aJ (k:=2) Og rfl rfl rfl) (gg rfl rfl (fg h2)) rfl<|X3 (aJ (k:=0) dN rfl rfl rfl) (gg rfl rfl (fg h2)) rfl ?_;obtain⟨r6,h20,hF⟩:=J hF;refine wc (gg rfl rfl (fg h2)) (fun m hm=>Gx h20 m) ?_;rintro⟨⟩;refine XR (Ar rfl h2 rfl) rfl<|XW ?_;obtain rfl:=U9 hF;exact ae () [1,2,3,0];refine Wo.s (gg rfl rfl (zn h2)) rfl<|Wo.s (gg rfl rfl (zn h2)) rfl<|Wo.s (gg rfl rfl (zn h2)) rfl<|XR (Cb rfl h2 rfl) rfl<|XW ?_;cases hF;exact ae () [1,2,3,0];rintro⟨⟩;refine XX ?_;rcases aa hF with⟨h5,hF⟩|⟨h5,hF⟩;refine X7 rfl h5<|XT<|XR (aX rfl) rfl<|XR (aJ (k:=3) dN rfl rfl rfl) rfl<|X8 (FH (q:=2) (xs:=l2) (k:=(x11,x12)) (v:=true) (vE:=(fun b:Bool=>.bool b)) JG (Jk DX) rfl rfl rfl rfl)<|XW<|At.bn ?_;cases hF;exact ae () [0,1,2];refine Yc rfl h5<|X9<|At.bn ?_;obtain rfl:=U9 hF;exact ae () [0,1,2];rintro⟨⟩;refine XX<|XT<|XR (aL rfl rfl (bD _ _ _)) rfl<|XR (aX rfl) rfl<|XW ?_;cases hF;exact ae () [0,1,2];refine Yc rfl h4<|Wk.exit<|At.te ?_;cases hF;exact ae () [2];rintro⟨⟩;refine Yi<|XX<|XS<|XV<|XS<|XT<|XR (aX rfl) rfl ?_;obtain⟨y0,h6,hF⟩:=J hF;replace h6:=U9 h6;refine XR (Dk (q:=0) (xs:=l1) JG rfl rfl h6) rfl<|XR (aL rfl rfl (tM _ _ _)) rfl<|XR (bE rfl) rfl<|XW<|XX ?_;rcases aa hF with⟨h7,hF⟩|⟨h7,hF⟩;refine X7 rfl h7<|XS<|XT<|XR (bE rfl) rfl<|XW<|XX<|Yb<|At.br<|At.tr ?_;cases hF;exact ar () [];refine Yc rfl h7<|XS<|XT<|XR (aX rfl) rfl ?_;obtain⟨y1,h8,hF⟩:=J hF;replace h8:=U9 h8;refine XR (Dk (q:=0) (xs:=l1) JG rfl rfl h8) rfl<|XR (aL rfl rfl (jv _ _ _)) rfl<|XR (bE rfl) rfl<|XW<|XX ?_;rcases aa hF with⟨h9,hF⟩|⟨h9,hF⟩;refine X7 rfl h9<|XS<|XT<|XR (bE rfl) rfl<|XW<|XX<|Yb<|At.br<|At.tr ?_;cases hF;exact ar () [];refine Yc rfl h9<|XS ?_;obtain⟨v2,h21,hF⟩:=J hF;refine ct (fun v2 (_:YC)=>⟨.normal,[(72,.bool v2)],[]⟩) v2 ?_ ?_;clear hF;revert v2;intro r hF;refine XT<|XR (aX rfl) rfl<|XR (aX rfl) rfl<|XR (aL rfl rfl (dV _ _ _)) rfl<|XR (aL rfl rfl (iJ _ _ _)) rfl<|XR (aX rfl) rfl ?_;rcases aa hF with⟨h1,hF⟩|⟨h1,hF⟩;refine X3 (aX rfl) (gg rfl rfl (fg h1)) rfl<|X3 (aX rfl) (gg rfl rfl (fg h1)) rfl<|X3 (aL rfl rfl (dV _ _ _)) (gg rfl rfl (fg h1)) rfl<|X3 (aL rfl rfl (iJ _ _ _)) (gg rfl rfl (fg h1)) rfl<|XR (Ar rfl h1 rfl) rfl<|XR (bE rfl) rfl<|XW ?_;cases hF;exact ae () [];refine Wo.s (gg rfl rfl (zn h1)) rfl<|Wo.s (gg rfl rfl (zn h1)) rfl<|Wo.s (gg rfl rfl (zn h1)) rfl<|Wo.s (gg rfl rfl (zn h1)) rfl<|XR (Cb rfl h1 rfl) rfl<|XR (bE rfl) rfl<|XW ?_;cases hF;exact ae () [];rintro⟨⟩;refine XX ?_;rcases aa hF with⟨h10,hF⟩|⟨h10,hF⟩;refine X7 rfl h10<|XS<|XT<|XR (bE rfl) rfl<|XW<|XX<|Yb<|At.br<|At.tr ?_;cases hF;exact ar () [];refine Yc rfl h10<|X9<|At.bn<|XX<|XS<|XT<|XR (bE rfl) rfl<|XW<|XX<|Yb ?_;cases hF;exact ar () []
def Ow{n l1 a0 c0 r}(hF:Rt n l1=some r)(m)(h14:lF m a0 c0 l1):
 aK (Yt p q) 55 [bQ a0 l1 c0] m (Yp m (.tuple #[.int .i64 r.1,.int .i64 r.2])):=by
 unfold Rt at hF;refine cw Try.func55 (X6 (XZ m) eL h14) ?_;refine wz ?_;refine wb fun b3=>?_;refine wa z3 fun b0=>?_;refine wa z3 fun b1=>?_;refine az ?_;refine wa z3 fun b2=>?_;refine wz ?_;refine XS<|XS ?_;obtain⟨v2,h15,hF⟩:=J hF;refine ct (fun v2 (_:YC)=>⟨.normal,((1,ptr b3 0)::jC b0 b1 [(4,ptr b2 0),(18,.bool v2)]),(kq b3 a0 l1 c0 (fJ b0 b1 b2 l1 []))⟩) v2 ?_ ?_;clear hF;revert v2;intro r hF;refine wz ?_;rcases aa hF with⟨h16,hF⟩|⟨h16,hF⟩;refine wz ?_;cases hF;exact ae () [3,4,2,1,0];refine wz ?_;cases hF;exact ae () [3,4,2,1,0];rintro⟨⟩;refine XX ?_;rcases aa hF with⟨h17,hF⟩|⟨h17,hF⟩;refine az ?_;cases hF;exact X2 (.cell (k:=2) cK rfl rfl rfl (.cell (k:=3) cK rfl rfl rfl .nil)) fun m' hm=>⟨(),rfl,(ai.aq [] rfl rfl) m' hm⟩;refine az ?_;obtain⟨v3,h18,hF⟩:=J hF;refine wq (fun v3 (_:YC)=>(.int .i64 v3,(kq b3 a0 l1 c0 (fJ b0 b1 b2 l1 [])))) v3 (fun m hm=>?_) ?_;clear hF;revert v3;intro r hF;refine aS (N:=19) (rs:=[.tmp 4]) rfl Try.func77 rfl rfl rfl hm ?_;refine az ?_;refine XV ?_;obtain⟨r13,h1,hF⟩:=J hF;refine ct (fun(r:Int⊕YC) (g:YC)=>match r,g with|.inl v8,_=>⟨.ret,[(4,bu v8)],(kq b3 a0 l1 c0 (fJ b0 b1 b2 l1 []))⟩|.inr _,_=>⟨(.exit 0),[],(kq b3 a0 l1 c0 (fJ b0 b1 b2 l1 []))⟩) r13 ?_ ?_
 refine lo h1 () [1,0,2,3,4] (fun v9 _=>⟨.normal,[(0,bQ a0 l1 c0),(1,.func (.func 38) #[] #[]),(7,eD l1),(8,bu v9)],(tL a0 c0 l1::BQ b3 a0 l1 c0::fJ b0 b1 b2 l1 [])⟩) ?_;clear hF h1;rintro v9 ⟨⟩ r hF;unfold A4 at hF;refine wz ?_;refine XS ?_;rcases aa hF with⟨h19,hF⟩|⟨h19,hF⟩;refine ja ?_;obtain⟨h20,hF⟩:=du hF;refine X4 (k:=0) rfl (aW h20) ?_;rintro b24 o8 rfl;refine wz ?_;obtain⟨⟨x24,x25⟩,h61,hF⟩:=J hF;refine wz ?_;obtain⟨r22,h21,hF⟩:=J hF;refine wc gn (fun m hm=>vO h21 m) ?_;rintro⟨⟩;refine wz ?_;rcases aa hF with⟨h22,hF⟩|⟨h22,hF⟩;refine az ?_;cases hF;exact ae () [2,1,3,4,5];refine az ?_;cases hF;exact ae () (Yk 1 5);refine wz ?_;cases hF;exact ae () [1,0,2,3,4];rcases r13 with v8|_;rintro⟨⟩;refine wz ?_;obtain rfl:=U9 hF;exact ar () (Yk 0 5);rintro⟨⟩;refine ja ?_;cases hF;exact ar () (Yk 0 5);rintro⟨⟩;refine az ?_;rcases aa hF with⟨h23,hF⟩|⟨h23,hF⟩;refine az ?_;cases hF;exact X2 (.cell (k:=2) cK rfl rfl rfl (.cell (k:=3) cK rfl rfl rfl .nil)) fun m' hm=>⟨(),rfl,(ai.aq [] rfl rfl) m' hm⟩;refine az ?_;obtain⟨r14,h24,hF⟩:=J hF;refine wq (fun _ (b10:Nat)=>(.func (.func 56) #[] #[ptr b10 0],(kq b10 a0 l1 c0 (BQ b3 a0 l1 c0::fJ b0 b1 b2 l1 [])))) r14 (fun m hm=>?_) ?_;clear hF;revert r14;intro r hF;refine aS (N:=4) (rs:=[.tmp 2]) rfl Try.func39 rfl rfl rfl hm ?_;refine wz ?_;refine wb fun b16=>?_;refine az ?_;refine XR (kX rfl rfl) rfl ?_;refine az ?_;cases hF;exact ar b16 [0,2,1,3,4,5];rintro b10;refine wz ?_;refine XV ?_;obtain⟨r5,h25,hF⟩:=J hF;refine Wk.range (N:=27) (rs:=[]) (γ:=YC) (X:=fun g=>(fun(r:Int⊕YC) (g:YC)=>(match r,g with|.inl v10,_=>⟨.done,(some .ret),(kq b3 a0 l1 c0 [.obj b0 (.cells [.int .i64 3] .own),fk b1 v10,rl b2 l1])⟩|.inr _,_=>⟨.ready,none,(kq b3 a0 l1 c0 (fJ b0 b1 b2 l1 []))⟩:Rn)) r5 g) rfl rfl Try.func56 rfl rfl rfl ?_ (fun y=>by rcases r5 with _|_<;>(intro e; cases e)) ?_
 clear hF;revert r5;intro r hF;intro t0 l5 r4 h26 h27;refine wz ?_;refine XV ?_;obtain⟨r15,h2,hF⟩:=J hF;refine ct (fun(r:Int⊕YC) (g:YC)=>match r,g with|.inl v11,_=>⟨.ret,[],(.obj l5 (r4 .done (some .ret))::kq b3 a0 l1 c0 [.obj b0 (.cells [.int .i64 3] .own),fk b1 v11,rl b2 l1])⟩|.inr _,_=>⟨(.exit 0),[],(.obj l5 (r4 .ready none)::kq b3 a0 l1 c0 (fJ b0 b1 b2 l1 []))⟩) r15 ?_ ?_
 refine lo h2 () [0,1,2,3,4,5,6] (fun v4 _=>⟨.normal,[(0,.func (.yield l5) #[] #[]),(1,ptr b10 0),(5,bQ a0 l1 c0),(6,eD l1),(7,bu v4)],(.obj l5 (r4 .ready none)::kq b10 a0 l1 c0 (BQ b3 a0 l1 c0::fJ b0 b1 b2 l1 []))⟩) ?_;clear hF h2;rintro v4 ⟨⟩ r hF;unfold AF at hF;refine wz ?_;refine XS ?_;rcases aa hF with⟨h28,hF⟩|⟨h28,hF⟩;refine az ?_;obtain⟨h29,hF⟩:=du hF;refine X4 (k:=2) rfl (aW h29) ?_;rintro b12 o7 rfl;refine wz ?_;obtain⟨⟨x20,x21⟩,h62,hF⟩:=J hF;refine wz ?_;refine wa z26 fun b25=>?_;refine az ?_;obtain⟨h30,hF⟩:=aD hF;refine XR (aL rfl rfl (cu _ _ h30)) rfl ?_;obtain⟨h63,hF⟩:=du hF;refine wz ?_;obtain⟨⟨x22,x23⟩,h64,hF⟩:=J hF;refine wz ?_;refine XR (cR rfl z87 rfl (cQ F3 rfl rfl rfl)) rfl ?_;obtain⟨r6,h6,hF⟩:=J hF;refine X1 (yq (k:=2) (k1:=0) (γA:=Nat) (GA:=(fun g:Nat=>(match g with|b14=>⟨.normal,(jC b0 b1 [(6,ptr b14 0)]),(.obj l5 (r4 .ready none)::gL b0::gL b1::iq b14 v4 x20 x21 x22 x23::vU b3 b12 o7 l1 c0 [rl b2 l1,qo b10 b12 o7 l1 c0])⟩:En))) (γ:=YC) (G:=fun g=>(fun(r:YC⊕YC) (g:YC)=>(match r,g with|.inl _,_=>⟨.ret,[],(.obj l5 (r4 .busy none)::vU b3 b12 o7 l1 c0 [.obj b0 (.cells [.int .i64 3] .own),fk b1 v4,rl b2 l1,qo b10 b12 o7 l1 c0])⟩|.inr _,_=>⟨.normal,[],(.obj l5 (r4 .busy none)::vU b3 b12 o7 l1 c0 (fJ b0 b1 b2 l1 [qo b10 b12 o7 l1 c0]))⟩:En)) r6 g) rfl rfl rfl h27 h26 rfl ?_ (fun _=>rfl) (fun _=>rfl) ?_ (fun y=>by rcases r6 with _|_<;>rfl)) gn rfl ?_
 clear hF h6;refine XT<|wa z87 fun b17=>?_;refine wz ?_;exact ae b17 [3,7,8,0,6,2,5,9,4];clear hF;revert r6;intro r hF;rintro b14;refine wz ?_;refine XR (aL rfl rfl (I3 Pk (Pj _ _ _ _))) rfl ?_;refine wz ?_;rcases aa hF with⟨h7,hF⟩|⟨h7,hF⟩;refine X7 rfl h7<|XS<|Ya (prs:=[(1,2)]) (by kernel_rfl)<|XU (aI (r:=ptr b14 0) rfl (vN _ _)) rfl<|Wn.yX rfl (aJ (k:=3) cK rfl rfl rfl) rfl<|Wn.KI rfl (fe (k:=1) cK rfl rfl rfl rfl rfl)<|Wn.o0 (fe (k:=2) cK rfl rfl rfl rfl rfl)<|X5 (fun m hm=>(dQ.rw rfl rfl rfl (hm.ne (i:=3) (j:=1) rfl rfl rfl rfl (by decide) rfl) dQ.nil)) ?_
 refine az ?_;cases hF;exact ae () [0,4,5,6,1,2,7,8];refine wz ?_;cases hF;exact ae () [0,4,5,6,1,2,7,8];rcases r6 with _|_;rintro⟨⟩;refine az ?_;cases hF;exact ae () [0,1,3,4,5,6];rintro⟨⟩;refine ja ?_;cases hF;exact ae () [0,7,3,1,4,5,6];refine wz ?_;cases hF;exact ae () [0,3,2,4,5,6];rcases r15 with v11|_;rintro⟨⟩;refine At.br ?_;cases hF;exact X2 .nil fun m' hm=>⟨(),(ai.aq [0,1,2,3,4,5] rfl rfl) m' hm⟩;rintro⟨⟩;refine Yi ?_;cases hF;exact At.fin .nil fun m' hm=>⟨(),(ai.aq [0,1,2,3,4,5] rfl rfl) m' hm⟩;rcases r5 with v10|_;rintro⟨⟩
 change Wk _ _ _ _ .ret _ _ _ _
 refine wz ?_;cases hF;exact X2 (.cell (k:=2) cK rfl rfl rfl (.cell (k:=3) cK rfl rfl rfl .nil)) fun m' hm=>⟨(),rfl,(ai.aq [] rfl rfl) m' hm⟩;rintro⟨⟩
 change At _ .normal _ _ _
 refine az ?_;obtain⟨r16,h31,hF⟩:=J hF;refine wq (fun _ (b9:Nat)=>(.func (.func 56) #[] #[ptr b9 0],(kq b9 a0 l1 c0 (BQ b3 a0 l1 c0::fJ b0 b1 b2 l1 [])))) r16 (fun m hm=>?_) ?_;clear hF;revert r16;intro r hF;refine aS (N:=4) (rs:=[.tmp 2]) rfl Try.func39 rfl rfl rfl hm ?_;refine wz ?_;refine wb fun b18=>?_;refine az ?_;refine XR (kX rfl rfl) rfl ?_;refine az ?_;cases hF;exact ar b18 [0,2,1,3,4,5];rintro b9;refine wz ?_;refine XV ?_;obtain⟨r7,h32,hF⟩:=J hF;refine Wk.range (N:=27) (rs:=[]) (γ:=YC) (X:=fun g=>(fun(r:Int⊕YC) (g:YC)=>(match r,g with|.inl v12,_=>⟨.done,(some .ret),(kq b3 a0 l1 c0 [.obj b0 (.cells [.int .i64 4] .own),fk b1 v12,rl b2 l1])⟩|.inr _,_=>⟨.ready,none,(kq b3 a0 l1 c0 (fJ b0 b1 b2 l1 []))⟩:Rn)) r7 g) rfl rfl Try.func56 rfl rfl rfl ?_ (fun y=>by rcases r7 with _|_<;>(intro e; cases e)) ?_
 clear hF;revert r7;intro r hF;intro t1 l4 r3 h33 h34;refine wz ?_;refine XV ?_;obtain⟨r17,h3,hF⟩:=J hF;refine ct (fun(r:Int⊕YC) (g:YC)=>match r,g with|.inl v13,_=>⟨.ret,[],(.obj l4 (r3 .done (some .ret))::kq b3 a0 l1 c0 [.obj b0 (.cells [.int .i64 4] .own),fk b1 v13,rl b2 l1])⟩|.inr _,_=>⟨(.exit 0),[],(.obj l4 (r3 .ready none)::kq b3 a0 l1 c0 (fJ b0 b1 b2 l1 []))⟩) r17 ?_ ?_
 refine lo h3 () [0,1,2,3,4,5,6] (fun v1 _=>⟨.normal,[(0,.func (.yield l4) #[] #[]),(1,ptr b9 0),(5,bQ a0 l1 c0),(6,eD l1),(7,bu v1)],(.obj l4 (r3 .ready none)::kq b9 a0 l1 c0 (BQ b3 a0 l1 c0::fJ b0 b1 b2 l1 []))⟩) ?_;clear hF h3;rintro v1 ⟨⟩ r hF;unfold AV at hF;refine wz ?_;refine XS ?_;rcases aa hF with⟨h35,hF⟩|⟨h35,hF⟩;refine az ?_;obtain⟨h36,hF⟩:=du hF;refine X4 (k:=2) rfl (aW h36) ?_;rintro b11 o6 rfl;refine wz ?_;obtain⟨⟨x12,x13⟩,h65,hF⟩:=J hF;refine wz ?_;refine wa z26 fun b26=>?_;refine az ?_;obtain⟨h37,hF⟩:=aD hF;refine XR (aL rfl rfl (cu _ _ h37)) rfl ?_;obtain⟨h66,hF⟩:=du hF;refine wz ?_;obtain⟨⟨x14,x15⟩,h67,hF⟩:=J hF;refine wz ?_;refine XR (cR rfl z87 rfl (cQ F3 rfl rfl rfl)) rfl ?_;obtain⟨r8,h8,hF⟩:=J hF;refine X1 (yq (k:=2) (k1:=0) (γA:=Nat) (GA:=(fun g:Nat=>(match g with|b6=>⟨.normal,((1,ptr b3 0)::jC b0 b1 [(4,ptr b2 0),(7,ptr b6 0)]),(.obj l4 (r3 .ready none)::vU b3 b11 o6 l1 c0 (fJ b0 b1 b2 l1 [iq b6 v1 x12 x13 x14 x15,qo b9 b11 o6 l1 c0]))⟩:En))) (γ:=YC) (G:=fun g=>(fun(r:YC⊕YC) (g:YC)=>(match r,g with|.inl _,_=>⟨.ret,[],(.obj l4 (r3 .busy none)::vU b3 b11 o6 l1 c0 [.obj b0 (.cells [.int .i64 4] .own),fk b1 v1,rl b2 l1,qo b9 b11 o6 l1 c0])⟩|.inr _,_=>⟨.normal,[],(.obj l4 (r3 .busy none)::vU b3 b11 o6 l1 c0 (fJ b0 b1 b2 l1 [qo b9 b11 o6 l1 c0]))⟩:En)) r8 g) rfl rfl rfl h34 h33 rfl ?_ (fun _=>rfl) (fun _=>rfl) ?_ (fun y=>by rcases r8 with _|_<;>rfl)) gn rfl ?_
 clear hF h8;refine XT<|wa z87 fun b19=>?_;refine wz ?_;exact ae b19 [3,6,2,5,7,8,9,0,4];clear hF;revert r8;intro r hF;rintro b6;refine XV<|XS<|Wk.draw (by kernel_rfl)<|XR (aJ (k:=1) Q1 rfl rfl rfl) rfl<|XR (aI (r:=ptr b6 0) rfl (vN _ _)) rfl<|XR (aJ (k:=7) cK rfl rfl rfl) rfl<|XR (aJ (k:=6) cK rfl rfl rfl) rfl<|XR (aL rfl rfl (bD _ _ _)) rfl<|XR (aL rfl rfl (df _ _ _)) rfl<|XR (aJ (k:=6) cK rfl rfl rfl) rfl ?_
 obtain⟨h38,hF⟩:=aD hF;obtain⟨y0,h39,hF⟩:=J hF;refine XR (aL rfl rfl ((cu _ _ h38).trans (cI h39))) rfl ?_;obtain⟨h68,hF⟩:=du hF;refine wz ?_;obtain⟨⟨x26,x27⟩,h69,hF⟩:=J hF;refine wz ?_;refine wa z26 fun b15=>?_;refine wz ?_;refine XS ?_;obtain⟨v5,h40,hF⟩:=J hF;refine ct (fun v5 (_:YC)=>⟨.normal,((1,ptr b3 0)::jC b0 b1 [(4,ptr b2 0),(7,ptr b6 0),(85,.bool v5)]),(.obj l4 (r3 .busy none)::vU b3 b11 o6 l1 c0 (fJ b0 b1 b2 l1 [iq b6 v1 x12 x13 x14 x15,qo b9 b11 o6 l1 c0]))⟩) v5 ?_ ?_;clear hF;revert v5;intro r hF;refine wz ?_;obtain⟨r23,h41,hF⟩:=J hF;refine wc gn (fun m hm=>rZ h41 m) ?_;rintro⟨⟩;refine wz ?_;rcases aa hF with⟨h0,hF⟩|⟨h0,hF⟩;refine X3 (aI (r:=ptr b6 1) rfl (gT _ _)) (gg rfl rfl (fg h0)) rfl<|X3 (aI (r:=ptr b6 1) rfl (eX _ _)) (gg rfl rfl (fg h0)) rfl<|X3 (aJ (k:=8) cK rfl rfl rfl) (gg rfl rfl (fg h0)) rfl<|X3 (aI (r:=ptr b15 0) rfl (eX _ _)) (gg rfl rfl (fg h0)) rfl<|X3 (aJ (k:=0) cK rfl rfl rfl) (gg rfl rfl (fg h0)) rfl<|X3 (aL rfl rfl (df _ _ _)) (gg rfl rfl (fg h0)) rfl<|X3 (aI (r:=ptr b6 3) rfl (jq _ _)) (gg rfl rfl (fg h0)) rfl<|X3 (aI (r:=ptr b6 3) rfl (eX _ _)) (gg rfl rfl (fg h0)) rfl<|X3 (aJ (k:=8) cK rfl rfl rfl) (gg rfl rfl (fg h0)) rfl<|X3 (aI (r:=ptr b6 1) rfl (gT _ _)) (gg rfl rfl (fg h0)) rfl<|X3 (aI (r:=ptr b6 1) rfl (eX _ _)) (gg rfl rfl (fg h0)) rfl<|X3 (aJ (k:=8) cK rfl rfl rfl) (gg rfl rfl (fg h0)) rfl<|X3 (aL rfl rfl (df _ _ _)) (gg rfl rfl (fg h0)) rfl ?_;obtain⟨y1,h42,hF⟩:=J hF;refine X3 (aL rfl rfl ((dV _ _ _).trans (cI h42))) (gg rfl rfl (fg h0)) rfl<|X3 (aI (r:=ptr b6 1) rfl (gT _ _)) (gg rfl rfl (fg h0)) rfl<|X3 (aI (r:=ptr b6 2) rfl (eV _ _)) (gg rfl rfl (fg h0)) rfl<|X3 (aJ (k:=8) cK rfl rfl rfl) (gg rfl rfl (fg h0)) rfl<|X3 (aI (r:=ptr b15 1) rfl (eV _ _)) (gg rfl rfl (fg h0)) rfl<|X3 (aJ (k:=0) cK rfl rfl rfl) (gg rfl rfl (fg h0)) rfl<|X3 (aL rfl rfl (df _ _ _)) (gg rfl rfl (fg h0)) rfl<|X3 (aI (r:=ptr b6 3) rfl (jq _ _)) (gg rfl rfl (fg h0)) rfl<|X3 (aI (r:=ptr b6 4) rfl (eV _ _)) (gg rfl rfl (fg h0)) rfl<|X3 (aJ (k:=8) cK rfl rfl rfl) (gg rfl rfl (fg h0)) rfl<|X3 (aI (r:=ptr b6 1) rfl (gT _ _)) (gg rfl rfl (fg h0)) rfl<|X3 (aI (r:=ptr b6 2) rfl (eV _ _)) (gg rfl rfl (fg h0)) rfl<|X3 (aJ (k:=8) cK rfl rfl rfl) (gg rfl rfl (fg h0)) rfl<|X3 (aL rfl rfl (df _ _ _)) (gg rfl rfl (fg h0)) rfl ?_;obtain⟨y2,h43,hF⟩:=J hF;refine X3 (aL rfl rfl ((dV _ _ _).trans (cI h43))) (gg rfl rfl (fg h0)) rfl ?_;refine wz ?_;cases hF;exact ae () (Yk 1 9);refine wz ?_;cases hF;exact ae () (Yk 1 9);rintro⟨⟩;refine XX ?_;rcases aa hF with⟨h9,hF⟩|⟨h9,hF⟩;refine X7 rfl h9<|XS<|Ya (prs:=[(1,2)]) (by kernel_rfl)<|XU (aI (r:=ptr b6 0) rfl (vN _ _)) rfl<|Wn.yX rfl (aJ (k:=7) cK rfl rfl rfl) rfl<|Wn.KI rfl (fe (k:=4) cK rfl rfl rfl rfl rfl)<|Wn.o0 (fe (k:=5) cK rfl rfl rfl rfl rfl)<|X5 (fun m hm=>(dQ.rw rfl rfl rfl (hm.ne (i:=7) (j:=4) rfl rfl rfl rfl (by decide) rfl) dQ.nil)) ?_
 refine az ?_;cases hF;exact ae () [0,1,2,3,4,5,6,8];refine wz ?_;cases hF;exact ae () [0,1,2,3,4,5,6,8];rcases r8 with _|_;rintro⟨⟩;refine az ?_;cases hF;exact ae () [0,1,3,4,5,6];rintro⟨⟩;refine ja ?_;cases hF;exact ae () [0,7,3,1,4,5,6];refine wz ?_;cases hF;exact ae () [0,3,2,4,5,6];rcases r17 with v13|_;rintro⟨⟩;refine At.br ?_;cases hF;exact X2 .nil fun m' hm=>⟨(),(ai.aq [0,1,2,3,4,5] rfl rfl) m' hm⟩;rintro⟨⟩;refine Yi ?_;cases hF;exact At.fin .nil fun m' hm=>⟨(),(ai.aq [0,1,2,3,4,5] rfl rfl) m' hm⟩;rcases r7 with v12|_;rintro⟨⟩
 change Wk _ _ _ _ .ret _ _ _ _
 refine wz ?_;cases hF;exact X2 (.cell (k:=2) cK rfl rfl rfl (.cell (k:=3) cK rfl rfl rfl .nil)) fun m' hm=>⟨(),rfl,(ai.aq [] rfl rfl) m' hm⟩;rintro⟨⟩
 change At _ .normal _ _ _
 refine az ?_;obtain⟨r18,h44,hF⟩:=J hF;refine wq (fun _ (b5:Nat)=>(.func (.func 56) #[] #[ptr b5 0],(kq b5 a0 l1 c0 (BQ b3 a0 l1 c0::fJ b0 b1 b2 l1 [])))) r18 (fun m hm=>?_) ?_;clear hF;revert r18;intro r hF;refine aS (N:=4) (rs:=[.tmp 2]) rfl Try.func39 rfl rfl rfl hm ?_;refine wz ?_;refine wb fun b20=>?_;refine az ?_;refine XR (kX rfl rfl) rfl ?_;refine az ?_;cases hF;exact ar b20 [0,2,1,3,4,5];rintro b5;refine wz ?_;refine XV ?_;obtain⟨r9,h45,hF⟩:=J hF;refine Wk.range (N:=27) (rs:=[]) (γ:=YC) (X:=fun g=>(fun(r:Int⊕YC) (g:YC)=>(match r,g with|.inl v14,_=>⟨.done,(some .ret),(kq b3 a0 l1 c0 [Fu b0,fk b1 v14,rl b2 l1])⟩|.inr _,_=>⟨.ready,none,(kq b3 a0 l1 c0 (fJ b0 b1 b2 l1 []))⟩:Rn)) r9 g) rfl rfl Try.func56 rfl rfl rfl ?_ (fun y=>by rcases r9 with _|_<;>(intro e; cases e)) ?_
 clear hF;revert r9;intro r hF;intro t2 l2 r0 h46 h10;refine wz ?_;refine XV ?_;obtain⟨r19,h4,hF⟩:=J hF;refine ct (fun(r:Int⊕YC) (g:YC)=>match r,g with|.inl v15,_=>⟨.ret,[],(.obj l2 (r0 .done (some .ret))::kq b3 a0 l1 c0 [Fu b0,fk b1 v15,rl b2 l1])⟩|.inr _,_=>⟨(.exit 0),[],(.obj l2 (r0 .ready none)::kq b3 a0 l1 c0 (fJ b0 b1 b2 l1 []))⟩) r19 ?_ ?_
 refine lo h4 () [0,1,2,3,4,5,6] (fun v0 _=>⟨.normal,[(0,.func (.yield l2) #[] #[]),(1,ptr b5 0),(5,bQ a0 l1 c0),(6,eD l1),(7,bu v0)],(.obj l2 (r0 .ready none)::kq b5 a0 l1 c0 (BQ b3 a0 l1 c0::fJ b0 b1 b2 l1 []))⟩) ?_;clear hF h4;rintro v0 ⟨⟩ r hF;unfold BG at hF;refine wz ?_;refine XS ?_;rcases aa hF with⟨h47,hF⟩|⟨h47,hF⟩;refine az ?_;obtain⟨h48,hF⟩:=du hF;refine X4 (k:=2) rfl (aW h48) ?_;rintro b4 o5 rfl;refine wz ?_;obtain⟨⟨x3,x4⟩,h70,hF⟩:=J hF;refine wz ?_;refine wa z26 fun b27=>?_;refine az ?_;obtain⟨h49,hF⟩:=aD hF;refine XR (aL rfl rfl (cu _ _ h49)) rfl ?_;obtain⟨h71,hF⟩:=du hF;refine wz ?_;obtain⟨⟨x10,x11⟩,h72,hF⟩:=J hF;refine wz ?_;refine XR (cR rfl z87 rfl (cQ F3 rfl rfl rfl)) rfl ?_;obtain⟨r10,h11,hF⟩:=J hF;refine X1 (yq (k:=2) (k1:=0) (γA:=Nat) (GA:=(fun g:Nat=>(match g with|b7=>⟨.normal,((1,ptr b3 0)::jC b0 b1 [(4,ptr b2 0),(9,ptr b7 0)]),(.obj l2 (r0 .ready none)::vU b3 b4 o5 l1 c0 (fJ b0 b1 b2 l1 [iq b7 v0 x3 x4 x10 x11,qo b5 b4 o5 l1 c0]))⟩:En))) (γ:=YC) (G:=fun g=>(fun(r:YC⊕YC) (g:YC)=>(match r,g with|.inl _,_=>⟨.normal,[],(.obj l2 (r0 .busy none)::vU b3 b4 o5 l1 c0 (fJ b0 b1 b2 l1 [qo b5 b4 o5 l1 c0]))⟩|.inr _,_=>⟨.ret,[],(.obj l2 (r0 .busy none)::vU b3 b4 o5 l1 c0 [Fu b0,fk b1 v0,rl b2 l1,qo b5 b4 o5 l1 c0])⟩:En)) r10 g) rfl rfl rfl h10 h46 rfl ?_ (fun _=>rfl) (fun _=>rfl) ?_ (fun y=>by rcases r10 with _|_<;>rfl)) gn rfl ?_
 clear hF h11;refine XT<|wa z87 fun b21=>?_;refine wz ?_;exact ae b21 [3,6,2,5,7,8,9,0,4];clear hF;revert r10;intro r hF;rintro b7;refine wz ?_;obtain⟨r20,h50,hF⟩:=J hF;refine wq (fun _ (b8:Nat)=>(.func (.func 56) #[] #[ptr b8 0],(.obj l2 (r0 .busy none)::vU b8 b4 o5 l1 c0 (qo b3 b4 o5 l1 c0::fJ b0 b1 b2 l1 [qo b5 b4 o5 l1 c0,iq b7 v0 x3 x4 x10 x11])))) r20 (fun m hm=>?_) ?_;clear hF;revert r20;intro r hF;refine aS (N:=4) (rs:=[.tmp 2]) rfl Try.func39 rfl rfl rfl hm ?_;refine wz ?_;refine wb fun b22=>?_;refine az ?_;refine XR (kX rfl rfl) rfl ?_;refine az ?_;cases hF;exact ar b22 [1,0,3,4,2,5,6,7,9,8];rintro b8;refine wz ?_;refine XV ?_;obtain⟨r11,h51,hF⟩:=J hF;refine Wk.PO (k0:=0) (N:=27) (rs:=[]) (γ:=YC) (X:=fun g=>(fun(r:YC⊕YC⊕YC) (g:YC)=>(match r,g with|.inl _,_=>⟨.done,(some (.exit 6)),(.obj l2 (r0 .busy none)::vU b3 b4 o5 l1 c0 (fJ b0 b1 b2 l1 [qo b5 b4 o5 l1 c0,iq b7 v0 x3 x4 x10 x11]))⟩|.inr (.inl _),_=>⟨.done,(some .ret),(.obj l2 (r0 .busy none)::vU b3 b4 o5 l1 c0 [Fu b0,fk b1 v0,rl b2 l1,qo b5 b4 o5 l1 c0,iq b7 v0 x3 x4 x10 x11])⟩|.inr (.inr _),_=>⟨.ready,none,(.obj l2 (r0 .busy none)::vU b3 b4 o5 l1 c0 (fJ b0 b1 b2 l1 [qo b5 b4 o5 l1 c0,iq b7 v0 x3 x4 x10 x11]))⟩:Rn)) r11 g) rfl rfl Try.func56 rfl rfl rfl h10 rfl ?_ (fun y=>by rcases r11 with _|_|_<;>(intro e; cases e)) ?_
 clear hF;revert r11;intro r hF;intro t3 l3 r1 h52 h53;refine wz ?_;refine XV ?_;obtain⟨r21,h5,hF⟩:=J hF;refine ct (fun(r:YC⊕YC⊕YC) (g:YC)=>match r,g with|.inl _,_=>⟨.ret,[],(.obj l3 (r1 .done (some (.exit 6)))::.obj l2 (r0 .busy none)::vU b3 b4 o5 l1 c0 (fJ b0 b1 b2 l1 [qo b5 b4 o5 l1 c0,iq b7 v0 x3 x4 x10 x11]))⟩|.inr (.inl _),_=>⟨.ret,[],(.obj l3 (r1 .done (some .ret))::.obj l2 (r0 .busy none)::vU b3 b4 o5 l1 c0 [Fu b0,fk b1 v0,rl b2 l1,qo b5 b4 o5 l1 c0,iq b7 v0 x3 x4 x10 x11])⟩|.inr (.inr _),_=>⟨(.exit 0),[],(.obj l3 (r1 .ready none)::.obj l2 (r0 .busy none)::vU b3 b4 o5 l1 c0 (fJ b0 b1 b2 l1 [qo b5 b4 o5 l1 c0,iq b7 v0 x3 x4 x10 x11]))⟩) r21 ?_ ?_
 refine lo h5 () [0,1,2,3,4,5,6,7,8,9,10] (fun v6 _=>⟨.normal,[(0,.func (.yield l3) #[] #[]),(1,ptr b8 0),(5,wV b4 o5 l1 c0),(6,eD l1),(7,bu v6)],(.obj l3 (r1 .ready none)::.obj l2 (r0 .busy none)::vU b8 b4 o5 l1 c0 (qo b3 b4 o5 l1 c0::fJ b0 b1 b2 l1 [qo b5 b4 o5 l1 c0,iq b7 v0 x3 x4 x10 x11]))⟩) ?_;clear hF h5;rintro v6 ⟨⟩ r hF;unfold Bk at hF;refine wz ?_;refine XS ?_;rcases aa hF with⟨h54,hF⟩|⟨h54,hF⟩;refine az ?_;obtain⟨h73,hF⟩:=du hF;refine wz ?_;obtain⟨⟨x16,x17⟩,h74,hF⟩:=J hF;refine wz ?_;refine wa z26 fun b28=>?_;refine az ?_;obtain⟨h55,hF⟩:=aD hF;refine XR (aL rfl rfl (cu _ _ h55)) rfl ?_;obtain⟨h75,hF⟩:=du hF;refine wz ?_;obtain⟨⟨x18,x19⟩,h76,hF⟩:=J hF;refine wz ?_;refine XR (cR rfl z87 rfl (cQ F3 rfl rfl rfl)) rfl ?_;obtain⟨r12,h12,hF⟩:=J hF;refine X1 (yq (k:=1) (k1:=0) (γA:=Nat) (GA:=(fun g:Nat=>(match g with|b13=>⟨.normal,(jC b0 b1 [(4,ptr b2 0),(9,ptr b7 0),(10,ptr b13 0)]),(.obj l3 (r1 .ready none)::.obj l2 (r0 .busy none)::fJ b0 b1 b2 l1 (iq b7 v0 x3 x4 x10 x11::iq b13 v6 x16 x17 x18 x19::vU b3 b4 o5 l1 c0 [qo b5 b4 o5 l1 c0,qo b8 b4 o5 l1 c0]))⟩:En))) (γ:=YC) (G:=fun g=>(fun(r:YC⊕YC⊕YC) (g:YC)=>(match r,g with|.inl _,_=>⟨(.exit 6),[],(.obj l3 (r1 .busy none)::.obj l2 (r0 .busy none)::vU b3 b4 o5 l1 c0 (fJ b0 b1 b2 l1 [qo b5 b4 o5 l1 c0,iq b7 v0 x3 x4 x10 x11,qo b8 b4 o5 l1 c0]))⟩|.inr (.inl _),_=>⟨.normal,[],(.obj l3 (r1 .busy none)::.obj l2 (r0 .busy none)::vU b3 b4 o5 l1 c0 (fJ b0 b1 b2 l1 [qo b5 b4 o5 l1 c0,iq b7 v0 x3 x4 x10 x11,qo b8 b4 o5 l1 c0]))⟩|.inr (.inr _),_=>⟨.ret,[],(.obj l3 (r1 .busy none)::.obj l2 (r0 .busy none)::vU b3 b4 o5 l1 c0 [Fu b0,fk b1 v0,rl b2 l1,qo b5 b4 o5 l1 c0,iq b7 v0 x3 x4 x10 x11,qo b8 b4 o5 l1 c0])⟩:En)) r12 g) rfl rfl rfl h53 h52 rfl ?_ (fun _=>rfl) (fun _=>rfl) ?_ (fun y=>by rcases r12 with _|_|_<;>rfl)) gn rfl ?_
 clear hF h12;refine XT<|wa z87 fun b23=>?_;refine wz ?_;exact ae b23 [2,3,8,9,10,12,0,7,5,6,11,4];clear hF;revert r12;intro r hF;rintro b13;refine wz ?_;rcases aa hF with⟨h56,hF⟩|⟨h56,hF⟩;refine wz ?_;cases hF;exact ae () [0,1,7,8,9,2,3,4,10,5,11];refine wz ?_;refine XS<|XS ?_;obtain⟨v7,h57,hF⟩:=J hF;refine ct (fun v7 (_:YC)=>⟨.normal,(jC b0 b1 [(4,ptr b2 0),(9,ptr b7 0),(10,ptr b13 0),(109,.bool v7)]),(.obj l3 (r1 .busy none)::.obj l2 (r0 .busy none)::fJ b0 b1 b2 l1 (iq b7 v0 x3 x4 x10 x11::iq b13 v6 x16 x17 x18 x19::vU b3 b4 o5 l1 c0 [qo b5 b4 o5 l1 c0,qo b8 b4 o5 l1 c0]))⟩) v7 ?_ ?_;clear hF;revert v7;intro r hF;refine wz ?_;rcases aa hF with⟨h58,hF⟩|⟨h58,hF⟩;refine wz ?_;cases hF;exact ae () (Yk 0 12);refine wz ?_;cases hF;exact ae () (Yk 0 12);rintro⟨⟩;refine XX ?_;rcases aa hF with⟨h59,hF⟩|⟨h59,hF⟩;refine wz ?_;cases hF;exact ae () [0,1,7,8,9,2,3,4,10,5,11];refine az ?_;obtain⟨r24,h60,hF⟩:=J hF;refine wc gn (fun m hm=>G1 h60 m) ?_;rintro⟨⟩;refine wz ?_;rcases aa hF with⟨h13,hF⟩|⟨h13,hF⟩;refine X7 rfl h13<|XS<|Ya (prs:=[(1,2)]) (by kernel_rfl)<|XU (aI (r:=ptr b7 0) rfl (vN _ _)) rfl<|Wn.yX rfl (aJ (k:=5) cK rfl rfl rfl) rfl<|Wn.KI rfl (fe (k:=2) cK rfl rfl rfl rfl rfl)<|Wn.o0 (fe (k:=3) cK rfl rfl rfl rfl rfl)<|X5 (fun m hm=>(dQ.rw rfl rfl rfl (hm.ne (i:=5) (j:=2) rfl rfl rfl rfl (by decide) rfl) dQ.nil)) ?_
 refine az ?_;cases hF;exact ae () [0,1,7,8,9,2,3,4,10,5,11];refine wz ?_;cases hF;exact ae () [0,1,7,8,9,2,3,4,10,5,11];rcases r12 with _|_|_;rintro⟨⟩;refine az ?_;cases hF;exact ae () (Yk 0 10);rintro⟨⟩;refine ja ?_;cases hF;exact ae () [0,1,10,3,4,2,5,6,7,8,9];rintro⟨⟩;refine az ?_;cases hF;exact ae () (Yk 0 10);refine wz ?_;cases hF;exact ae () [0,1,5,3,4,6,7,8,9,10];rcases r21 with _ |(_|_);rintro⟨⟩;refine At.br ?_;cases hF;exact X2 .nil fun m' hm=>⟨(),(ai.aq [0,1,2,3,4,5,6,7,8,9] rfl rfl) m' hm⟩;rintro⟨⟩;refine At.br ?_;cases hF;exact X2 .nil fun m' hm=>⟨(),(ai.aq [0,1,2,3,4,5,6,7,8,9] rfl rfl) m' hm⟩;rintro⟨⟩;refine Yi ?_;cases hF;exact At.fin .nil fun m' hm=>⟨(),(ai.aq [0,1,2,3,4,5,6,7,8,9] rfl rfl) m' hm⟩;rcases r11 with _|_|_;rintro⟨⟩
 change Wk _ _ _ _ (.exit 6) _ _ _ _
 refine wz ?_;cases hF;exact ae () (Yk 0 8);rintro⟨⟩
 change Wk _ _ _ _ .ret _ _ _ _
 refine wz ?_;cases hF;exact ae () (Yk 0 8);rintro⟨⟩
 change At _ .normal _ _ _
 refine wz ?_;cases hF;exact ae () (Yk 0 8);rcases r10 with _|_;rintro⟨⟩;refine ja ?_;cases hF;exact ae () [0,7,3,1,4,5,6];rintro⟨⟩;refine az ?_;cases hF;exact ae () [0,1,3,4,5,6];refine wz ?_;cases hF;exact ae () [0,3,2,4,5,6];rcases r19 with v15|_;rintro⟨⟩;refine At.br ?_;cases hF;exact X2 .nil fun m' hm=>⟨(),(ai.aq [0,1,2,3,4,5] rfl rfl) m' hm⟩;rintro⟨⟩;refine Yi ?_;cases hF;exact At.fin .nil fun m' hm=>⟨(),(ai.aq [0,1,2,3,4,5] rfl rfl) m' hm⟩;rcases r9 with v14|_;rintro⟨⟩
 change Wk _ _ _ _ .ret _ _ _ _
 refine wz ?_;cases hF;exact X2 (.cell (k:=2) cK rfl rfl rfl (.cell (k:=3) cK rfl rfl rfl .nil)) fun m' hm=>⟨(),rfl,(ai.aq [] rfl rfl) m' hm⟩;rintro⟨⟩
 change At _ .normal _ _ _
 refine ja ?_;cases hF;exact X2 (.cell (k:=2) cK rfl rfl rfl (.cell (k:=3) cK rfl rfl rfl .nil)) fun m' hm=>⟨(),rfl,(ai.aq [] rfl rfl) m' hm⟩
def On{n l1 a2 c3 r}(hF:Q2 n l1=some r)(m)(h4:lF m a2 c3 l1):
 aK (Yt p q) 37 [bQ a2 l1 c3] m (Yp m (.int .i64 r)):=by
 unfold Q2 at hF;refine cw Try.func37 (X6 (XZ m) eL h4) ?_;refine az ?_;obtain⟨⟨r6,r7⟩,h5,hF⟩:=J hF;refine wc gn (fun m hm=>Ow h5 m (hm.q 0)) ?_;rintro⟨⟩;refine az ?_;rcases aa hF with⟨h8,hF⟩|⟨h8,hF⟩;refine az ?_;cases hF;exact ar () [];refine ja ?_;cases hF;exact ar () []
def Ic{n l1 a2 c3 r}(hF:Qu n l1=some r)(m)(h4:lF m a2 c3 l1):
 aK (Yt p q) 26 [bQ a2 l1 c3] m (Yp m (.int .i64 r)):=by
 unfold Qu at hF;refine cw Try.func26 (X6 (XZ m) eL h4) ?_;refine ja ?_;refine XV ?_;obtain⟨v27,h44,hF⟩:=J hF;refine ct (fun v27 (_:YC)=>⟨(.exit 0),[(3,bu v27)],[]⟩) v27 ?_ ?_;refine lo h44 () [0] (fun(v7,v8) _=>⟨.normal,((0,bQ a2 l1 c3)::(3,bu v7)::BI a2 l1 c3 v8 []),[tL a2 c3 l1]⟩) ?_;clear hF h44;rintro⟨v7,v8⟩ ⟨⟩ r hF;unfold xS at hF;refine wz ?_;refine XS ?_;rcases aa hF with⟨h28,hF⟩|⟨h28,hF⟩;refine az ?_;obtain⟨h29,hF⟩:=du hF;refine X4 (k:=0) rfl (aW h29) ?_;rintro b30 o31 rfl;refine wz ?_;obtain⟨⟨x32,x33⟩,h34,hF⟩:=J hF;refine wz ?_;refine wa z26 fun b35=>?_;refine az ?_;obtain⟨h36,hF⟩:=aD hF;refine XR (aL rfl rfl (cu _ _ h36)) rfl ?_;obtain⟨h37,hF⟩:=du hF;refine wz ?_;obtain⟨⟨x38,x39⟩,h40,hF⟩:=J hF;refine wz ?_;refine wa z26 fun b41=>?_;refine wz ?_;refine XT<|XR (aX rfl) rfl<|XR (aI (r:=ptr b35 0) rfl (eX _ _)) rfl<|XR (aJ (k:=1) cK rfl rfl rfl) rfl<|XR (aI (r:=ptr b41 1) rfl (eV _ _)) rfl<|XR (aJ (k:=0) cK rfl rfl rfl) rfl<|XR (aL rfl rfl (dV _ _ _)) rfl<|XR (aI (r:=ptr b35 1) rfl (eV _ _)) rfl<|XR (aJ (k:=1) cK rfl rfl rfl) rfl<|XR (aI (r:=ptr b41 0) rfl (eX _ _)) rfl<|XR (aJ (k:=0) cK rfl rfl rfl) rfl<|XR (aL rfl rfl (dV _ _ _)) rfl ?_;obtain⟨y42,h43,hF⟩:=J hF;refine XR (aL rfl rfl ((df _ _ _).trans (cI h43))) rfl ?_;refine az ?_;cases hF;exact ae () [3];refine wz ?_;cases hF;exact ae () [];rintro⟨⟩;refine ja ?_;obtain rfl:=U9 hF;exact ar () []
def OK{n x1 x2 x3 x4 x5 x6 x7 x8 r}(hF:QV n x1 x2 x3 x4 x5 x6 x7 x8=some r)(m):
 aK (Yt p q) 98 [nK x1 x2,nK x3 x4,nK x5 x6,nK x7 x8] m (Yp m (.tuple #[.int .i64 r.1,.int .i64 r.2])):=by
 unfold QV at hF;refine cw Try.func98 (XZ m) ?_;refine wz ?_;refine wb fun b9=>?_;refine wb fun b10=>?_;refine wb fun b11=>?_;refine wb fun b12=>?_;refine wz ?_;refine XS<|XS ?_;obtain⟨v56,h70,hF⟩:=J hF;refine ct (fun v56 (_:YC)=>⟨.normal,[(4,ptr b9 0),(5,ptr b10 0),(6,ptr b11 0),(7,ptr b12 0),(33,.bool v56)],[iQ b9 x1 x2,iQ b10 x3 x4,iQ b11 x5 x6,iQ b12 x7 x8]⟩) v56 ?_ ?_;clear hF;revert v56;intro r hF;refine wz ?_;obtain⟨r58,h57,hF⟩:=J hF;refine wc gn (fun m hm=>vO h57 m) ?_;rintro⟨⟩;refine wz ?_;rcases aa hF with⟨h59,hF⟩|⟨h59,hF⟩;refine wz ?_;cases hF;exact ae () [3,2,1,0];refine wz ?_;obtain⟨r61,h60,hF⟩:=J hF;refine wc (gg rfl rfl (tD h59)) (fun m hm=>vO h60 m) ?_;rintro⟨⟩;refine wz ?_;rcases aa hF with⟨h62,hF⟩|⟨h62,hF⟩;refine wz ?_;cases hF;exact ae () [3,2,1,0];refine wz ?_;obtain⟨r64,h63,hF⟩:=J hF;refine wc (gg rfl rfl (tD h62)) (fun m hm=>vO h63 m) ?_;rintro⟨⟩;refine wz ?_;rcases aa hF with⟨h65,hF⟩|⟨h65,hF⟩;refine wz ?_;cases hF;exact ae () [3,2,1,0];refine wz ?_;obtain⟨r67,h66,hF⟩:=J hF;refine wc (gg rfl rfl (tD h65)) (fun m hm=>vO h66 m) ?_;rintro⟨⟩;refine wz ?_;rcases aa hF with⟨h68,hF⟩|⟨h68,hF⟩;refine wz ?_;cases hF;exact ae () [3,2,1,0];refine wz ?_;refine X3 (aL rfl rfl (I3 Pk (Pj _ _ _ _))) (gg rfl rfl (tD h68)) rfl ?_;refine wz ?_;rcases aa hF with⟨h69,hF⟩|⟨h69,hF⟩;refine wz ?_;cases hF;exact ae () [3,2,1,0];refine wz ?_;refine X3 (aL rfl rfl (I3 Pk (Pj _ _ _ _))) (gg rfl rfl (tD h69)) rfl ?_;refine wz ?_;cases hF;exact ae () [3,2,1,0];rintro⟨⟩;refine XX ?_;rcases aa hF with⟨h72,hF⟩|⟨h72,hF⟩;refine az ?_;cases hF;exact ar () [];refine az ?_;refine XR (cR rfl z87 rfl (cQ F3 rfl rfl rfl)) rfl ?_;refine wz ?_;refine XR (cR rfl z87 rfl (cQ F3 rfl rfl rfl)) rfl ?_;obtain⟨r74,h73,hF⟩:=J hF;refine wc gn (fun m hm=>G1 h73 m) ?_;rintro⟨⟩;refine az ?_;cases hF;exact ar () []
def O9{n l1 l5 x12 x13 x14 x15 x16 x17 x18 x19 a2 c3 a6 c7}{rr8:XH}{es9:XF}{r}(hF:Sc n l1 l5 x12 x13 x14 x15 x16 x17 x18 x19=some r)(m)(h4:lF m a2 c3 l1)(h10:pC m a6 c7 l5 es9)(h11:(cE al rr8 l5 es9).P m):
 aK (Yt p q) 83 [mU a2 l1 c3 a6 l5 c7,.agg #[bu x12,bu x13,bu x14,bu x15],.agg #[bu x16,bu x17,bu x18,bu x19]] m (Yp m (.bool r)):=by
 unfold Sc at hF;refine cw Try.func83 (Hp.pG (X6 (X6 (XZ m) eL h4) (fH eL) h10) (fH (fH eL)) h11) ?_;refine wz ?_;refine wb fun b20=>?_;refine wb fun b21=>?_;refine wb fun b22=>?_;refine wz ?_;refine XS<|XS ?_;obtain⟨v39,h44,hF⟩:=J hF;refine ct (fun v39 (_:YC)=>⟨.normal,[(3,ptr b20 0),(4,ptr b21 0),(5,ptr b22 0),(34,.bool v39)],(ig b20 a2 l1 c3 a6 l5 c7 es9 al rr8 [gN b21 x12 x13 x14 x15,gN b22 x16 x17 x18 x19])⟩) v39 ?_ ?_;clear hF;revert v39;intro r hF;refine wz ?_;rcases aa hF with⟨h40,hF⟩|⟨h40,hF⟩;refine wz ?_;rcases aa hF with⟨h41,hF⟩|⟨h41,hF⟩;refine wz ?_;cases hF;exact ae () [2,5,4,3,1,0];refine wz ?_;rcases aa hF with⟨h42,hF⟩|⟨h42,hF⟩;refine wz ?_;cases hF;exact ae () [2,5,4,3,1,0];refine wz ?_;cases hF;exact ae () [2,5,4,3,1,0];refine wz ?_;rcases aa hF with⟨h43,hF⟩|⟨h43,hF⟩;refine wz ?_;cases hF;exact ae () [2,5,4,3,1,0];refine wz ?_;cases hF;exact ae () [2,5,4,3,1,0];rintro⟨⟩;refine XX ?_;rcases aa hF with⟨h46,hF⟩|⟨h46,hF⟩;refine az ?_;cases hF;exact ar () [];refine az ?_;obtain⟨h47,hF⟩:=du hF;refine X4 (k:=1) rfl (aW h47) ?_;rintro b48 o49 rfl;refine wz ?_;obtain⟨⟨x50,x51⟩,h52,hF⟩:=J hF;refine wz ?_;obtain⟨h53,hF⟩:=du hF;refine wz ?_;obtain⟨⟨x54,x55⟩,h56,hF⟩:=J hF;refine wz ?_;obtain⟨h57,hF⟩:=du hF;refine wz ?_;obtain⟨⟨x58,x59⟩,h60,hF⟩:=J hF;refine wz ?_;obtain⟨h61,hF⟩:=du hF;refine wz ?_;obtain⟨⟨x62,x63⟩,h64,hF⟩:=J hF;refine wz ?_;obtain⟨⟨r66,r67⟩,h65,hF⟩:=J hF;refine wc gn (fun m hm=>OK h65 m) ?_;rintro⟨⟩;refine ja ?_;rcases aa hF with⟨h68,hF⟩|⟨h68,hF⟩;refine az ?_;cases hF;exact ar () [];refine wz ?_;rcases aa hF with⟨h69,hF⟩|⟨h69,hF⟩;refine wz ?_;rcases aa hF with⟨h70,hF⟩|⟨h70,hF⟩;refine wz ?_;rcases aa hF with⟨h71,hF⟩|⟨h71,hF⟩;refine wz ?_;rcases aa hF with⟨h72,hF⟩|⟨h72,hF⟩;refine az ?_;cases hF;exact ar () [];refine az ?_;cases hF;exact ar () [];refine az ?_;cases hF;exact ar () [];refine az ?_;cases hF;exact ar () [];refine ja ?_;cases hF;exact ar () []
def Di{n l1 x5 x6 a0 c0 r}(hF:Nq n l1 x5 x6=some r)(m)(h7:lF m a0 c0 l1):
 aK (Yt p q) 36 [bQ a0 l1 c0,nK x5 x6] m (Yp m (.int .i64 r)):=by
 unfold Nq at hF;refine cw Try.func36 (X6 (XZ m) eL h7) ?_;refine wz ?_;refine wb fun b0=>?_;refine ja ?_;refine XV ?_;obtain⟨r1,h0,hF⟩:=J hF;refine ct (fun(r:YC⊕Int) (g:YC)=>match r,g with|.inl _,_=>⟨.ret,[(4,.int .i64 1)],[]⟩|.inr v5,_=>⟨(.exit 0),[(5,bu v5)],[]⟩) r1 ?_ ?_
 refine lo h0 () [1,0] (fun(v1,v0) _=>⟨.normal,((0,bQ a0 l1 c0)::(3,ptr b0 0)::(5,bu v1)::BB a0 l1 c0 v0 []),[tL a0 c0 l1,iQ b0 x5 x6]⟩) ?_;clear hF h0;rintro⟨v1,v0⟩ ⟨⟩ r hF;unfold vm at hF;refine wz ?_;refine XS ?_;rcases aa hF with⟨h8,hF⟩|⟨h8,hF⟩;refine wz ?_;refine XS ?_;obtain⟨r0,h9,hF⟩:=J hF;refine ct (fun(r:YC⊕Int) (g:YC)=>match r,g with|.inl _,_=>⟨.ret,[(4,.int .i64 1)],[]⟩|.inr v6,_=>⟨.normal,((0,bQ a0 l1 c0)::(3,ptr b0 0)::(5,bu v6)::BB a0 l1 c0 v0 []),[tL a0 c0 l1,iQ b0 x5 x6]⟩) r0 ?_ ?_
 clear hF;revert r0;intro r hF;refine wz ?_;obtain⟨h10,hF⟩:=du hF;refine X4 (k:=0) rfl (aW h10) ?_;rintro b1 o5 rfl;refine wz ?_;obtain⟨⟨x3,x4⟩,h23,hF⟩:=J hF;refine wz ?_;refine wa z26 fun b2=>?_;refine az ?_;obtain⟨h11,hF⟩:=aD hF;refine XR (aL rfl rfl (cu _ _ h11)) rfl ?_;obtain⟨h24,hF⟩:=du hF;refine wz ?_;obtain⟨⟨x10,x11⟩,h25,hF⟩:=J hF;refine wz ?_;refine wa z26 fun b3=>?_;refine wz ?_;refine XS<|XT<|XR (aI (r:=ptr b3 0) rfl (eX _ _)) rfl<|XR (aJ (k:=0) cK rfl rfl rfl) rfl<|XR (aI (r:=ptr b2 0) rfl (eX _ _)) rfl<|XR (aJ (k:=1) cK rfl rfl rfl) rfl<|XR (aL rfl rfl (df _ _ _)) rfl<|XR (aI (r:=ptr b0 1) rfl (eV _ _)) rfl<|XR (aJ (k:=4) cK rfl rfl rfl) rfl<|XR (aI (r:=ptr b2 1) rfl (eV _ _)) rfl<|XR (aJ (k:=1) cK rfl rfl rfl) rfl<|XR (aL rfl rfl (df _ _ _)) rfl ?_;obtain⟨y0,h12,hF⟩:=J hF;refine XR (aL rfl rfl ((dV _ _ _).trans (cI h12))) rfl<|XR (aI (r:=ptr b3 1) rfl (eV _ _)) rfl<|XR (aJ (k:=0) cK rfl rfl rfl) rfl<|XR (aI (r:=ptr b2 1) rfl (eV _ _)) rfl<|XR (aJ (k:=1) cK rfl rfl rfl) rfl<|XR (aL rfl rfl (df _ _ _)) rfl<|XR (aI (r:=ptr b0 0) rfl (eX _ _)) rfl<|XR (aJ (k:=4) cK rfl rfl rfl) rfl<|XR (aI (r:=ptr b2 0) rfl (eX _ _)) rfl<|XR (aJ (k:=1) cK rfl rfl rfl) rfl<|XR (aL rfl rfl (df _ _ _)) rfl ?_;obtain⟨y1,h13,hF⟩:=J hF;refine XR (aL rfl rfl ((dV _ _ _).trans (cI h13))) rfl ?_;refine wz ?_;refine XV<|XS ?_;obtain⟨v2,h14,hF⟩:=J hF;refine ct (fun v2 (_:YC)=>⟨.normal,((0,wV b1 o5 l1 c0)::(3,ptr b0 0)::(5,bu v1)::(7,ptr b2 0)::(8,ptr b3 0)::(9,.int .i64 (XN (y0-y1)))::vS b1 o5 l1 c0 v0 [(48,.bool v2)]),[Mf b1 o5 l1,KW b1 o5 c0 l1,iQ b0 x5 x6,iQ b2 x3 x4,iQ b3 x10 x11]⟩) v2 ?_ ?_;clear hF;revert v2;intro r hF;refine wz ?_;rcases aa hF with⟨h1,hF⟩|⟨h1,hF⟩;refine wz ?_;refine X3 (nI rfl rfl (nk _ _)) (gg rfl rfl (fg h1)) rfl ?_;refine wz ?_;rcases aa hF with⟨h2,hF⟩|⟨h2,hF⟩;refine wz ?_;refine X3 (nI rfl rfl (Al _ _)) (gg rfl rfl (fg h2)) rfl ?_;refine wz ?_;rcases aa hF with⟨h3,hF⟩|⟨h3,hF⟩;refine wz ?_;refine X3 (nI rfl rfl (nk _ _)) (gg rfl rfl (fg h3)) rfl ?_;refine wz ?_;rcases aa hF with⟨h4,hF⟩|⟨h4,hF⟩;refine wz ?_;refine X3 (nI rfl rfl (Al _ _)) (gg rfl rfl (fg h4)) rfl ?_;refine wz ?_;cases hF;exact ae () [2,3,4,1,0];refine wz ?_;cases hF;exact ae () [2,3,4,1,0];refine wz ?_;cases hF;exact ae () [2,3,4,1,0];refine wz ?_;cases hF;exact ae () [2,3,4,1,0];refine wz ?_;cases hF;exact ae () [2,3,4,1,0];rintro⟨⟩;refine XX ?_;rcases aa hF with⟨h5,hF⟩|⟨h5,hF⟩;refine az ?_;cases hF;exact ae () [];refine Yc rfl h5<|XS ?_;obtain⟨v3,h15,hF⟩:=J hF;refine ct (fun v3 (_:YC)=>⟨.normal,((0,wV b1 o5 l1 c0)::(3,ptr b0 0)::(5,bu v1)::(7,ptr b2 0)::(8,ptr b3 0)::(9,.int .i64 (XN (y0-y1)))::vS b1 o5 l1 c0 v0 [(91,.bool v3)]),[Mf b1 o5 l1,KW b1 o5 c0 l1,iQ b0 x5 x6,iQ b2 x3 x4,iQ b3 x10 x11]⟩) v3 ?_ ?_;clear hF;revert v3;intro r hF;refine wz ?_;rcases aa hF with⟨h16,hF⟩|⟨h16,hF⟩;refine wz ?_;rcases aa hF with⟨h17,hF⟩|⟨h17,hF⟩;refine wz ?_;cases hF;exact ae () (Yk 0 5);refine wz ?_;cases hF;exact ae () (Yk 0 5);refine wz ?_;cases hF;exact ae () (Yk 0 5);rintro⟨⟩;refine XX ?_;rcases aa hF with⟨h6,hF⟩|⟨h6,hF⟩;refine wz ?_;cases hF;exact ae () [1,2];refine Yc rfl h6<|XS ?_;obtain⟨v4,h18,hF⟩:=J hF;refine ct (fun v4 (_:YC)=>⟨.normal,((0,wV b1 o5 l1 c0)::(3,ptr b0 0)::(5,bu v1)::vS b1 o5 l1 c0 v0 [(110,.bool v4)]),[Mf b1 o5 l1,KW b1 o5 c0 l1,iQ b0 x5 x6]⟩) v4 ?_ ?_;clear hF;revert v4;intro r hF;refine wz ?_;rcases aa hF with⟨h19,hF⟩|⟨h19,hF⟩;refine wz ?_;rcases aa hF with⟨h20,hF⟩|⟨h20,hF⟩;refine wz ?_;cases hF;exact ae () [0,1,2];refine wz ?_;cases hF;exact ae () [0,1,2];refine wz ?_;cases hF;exact ae () [0,1,2];rintro⟨⟩;refine XX ?_;rcases aa hF with⟨h21,hF⟩|⟨h21,hF⟩;refine wz ?_;cases hF;exact ae () [1,2];refine wz ?_;cases hF;exact ae () [1,2];rcases r0 with _|v6;rintro⟨⟩;refine At.tr ?_;cases hF;exact ae () [];rintro⟨⟩;refine az ?_;cases hF;exact ae () [0,1];refine wz ?_;cases hF;exact ae () [];rcases r1 with _|v5;rintro⟨⟩;refine wz ?_;cases hF;exact ar () [];rintro⟨⟩;refine az ?_;rcases aa hF with⟨h22,hF⟩|⟨h22,hF⟩;refine az ?_;cases hF;exact ar () [];refine ja ?_;cases hF;exact ar () []
def DG{n l3 l2 l4 l1 x3 x4 x10 a0 c1 a1 c2}{r0:XH}{e1:XF}{a3 c3 a2 c0}{r1:XH}{e0:XF}{r}(hF:MF n l3 l2 l4 l1 x3 x4 x10=some r)(m)(h2:lF m a0 c1 l3)(h3:pC m a1 c2 l2 e1)(h4:(cE al r0 l2 e1).P m)(h5:Dm m a3 c3 l4)(h6:Rd m a2 c0 1 l1.length e0)(h7:(cE bq r1 l1 e0).P m):
 aK (Yt p q) 33 [mU a0 l3 c1 a1 l2 c2,mU a3 l4 c3 a2 l1 c0,nK x3 x4,bu x10] m (Yp m (.bool r)):=by
 unfold MF at hF;refine cw Try.func33 (Hp.pG (X6 (X6 (Hp.pG (X6 (X6 (XZ m) eL h2) (fH eL) h3) (fH (fH eL)) h4) (SN (fH (fH eL))) h5) (fH (SN (fH (fH eL)))) h6) (fH (fH (SN (fH (fH eL))))) h7) ?_;refine wz ?_;refine wb fun b0=>?_;refine wb fun b3=>?_;refine wb fun b1=>?_;refine wb fun b2=>?_;refine wz ?_;refine XS<|Ya (prs:=[(4,5)]) (by kernel_rfl)<|XU (aJ (k:=3) fZ rfl rfl rfl) rfl<|XU (aI (r:=ptr b3 0) rfl (eY _ _)) rfl<|XU (aJ (k:=2) mc rfl rfl rfl) rfl<|XU (aJ (k:=0) cK rfl rfl rfl) rfl ?_
 obtain⟨l5,h8,hF⟩:=J hF;refine nc gn (fun m hm=>rK h8 m (hm.q 9) (hm.q 8) (hm.dp (q:=7) rfl) (hm.q 6)) ?_;rintro⟨a4,n0⟩;refine Wn.len (k:=0) (xs:=l5) rfl ?_;rintro rfl;refine XU (aJ (k:=2) dN rfl rfl rfl) rfl ?_;obtain⟨r4,h9,hF⟩:=J hF;refine nc gn (fun m hm=>Di h9 m (hm.rd (k:=0) rfl (.sl _ _ _ _))) ?_;rintro⟨⟩;refine XU (aL rfl rfl (jv _ _ _)) rfl<|XU (aX rfl) rfl ?_;rcases aa hF with⟨h0,hF⟩|⟨h0,hF⟩;refine Yf (aI (r:=ptr b3 1) rfl (fK _ _)) (gg rfl rfl (fg h0)) rfl<|Yf (aJ (k:=3) oc rfl rfl rfl) (gg rfl rfl (fg h0)) rfl<|Yf (kX rfl rfl) (gg rfl rfl (fg h0)) rfl ?_;obtain⟨v0,h10,hF⟩:=J hF;refine Wn.x (nq (α:=YC) (V:=fun g=>(fun(r:Int) (g:YC)=>match r,g with|v0,_=>(.int .i64 v0:XI)) v0 g) (N:=fun g=>(fun(r:Int) (g:YC)=>match r,g with|v0,_=>([]:YB Pc)) v0 g) rfl rfl (fun m hm=>?_)) (gg rfl rfl (fg h0)) rfl ?_
 clear hF;revert v0;intro r hF;refine aS (N:=19) (rs:=[.tmp 4]) rfl Try.func34 rfl rfl rfl hm ?_;refine az ?_;refine XV ?_;obtain⟨r3,h1,hF⟩:=J hF;refine ct (fun(r:Int⊕YC) (g:YC)=>match r,g with|.inl v2,_=>⟨.ret,[(4,bu v2)],[]⟩|.inr _,_=>⟨(.exit 0),[],[]⟩) r3 ?_ ?_
 refine lo h1 () [4,10,9,8,1,2,6,5] (fun v3 _=>⟨.normal,((1,.func (.func 54) #[] #[ptr b0 0,ptr b2 0,ptr b1 0])::BI a2 l1 c0 v3 []),(ig b0 a0 l3 c1 a1 l2 c2 e1 al r0 [fk b2 x10,iQ b1 x3 x4,km a2 c0 l1 e0,gQ bq r1 l1 e0])⟩) ?_;clear hF h1;rintro v3 ⟨⟩ r hF;unfold BO at hF;refine wz ?_;refine XS ?_;rcases aa hF with⟨h11,hF⟩|⟨h11,hF⟩;refine az ?_;obtain⟨h12,hF⟩:=du hF;refine X4 (k:=6) rfl (aW h12) ?_;rintro b4 o5 rfl;refine wz ?_;obtain⟨l7,h13,hF⟩:=J hF;refine wl 1 0 8 0 h13 ?_;rintro⟨a5,c4⟩;refine az ?_;obtain⟨v1,h14,hF⟩:=J hF;refine wq (fun v1 (_:YC)=>(.bool v1,(ig b0 a0 l3 c1 a1 l2 c2 e1 al r0 (fk b2 x10::iQ b1 x3 x4::kT b4 o5 l1 e0 bq r1 c0 [])))) v1 (fun m hm=>?_) ?_;clear hF;revert v1;intro r hF;refine aS (N:=13) (rs:=[.tmp 5]) rfl Try.func54 rfl rfl rfl hm ?_;refine wz ?_;refine XS<|Ya (prs:=[(3,4)]) (by kernel_rfl)<|XU (aJ (k:=2) fZ rfl rfl rfl) rfl<|XU (aX rfl) rfl<|XU (aJ (k:=6) cK rfl rfl rfl) rfl ?_
 obtain⟨l6,h15,hF⟩:=J hF;refine nc gn (fun m hm=>rK h15 m (hm.q 3) (hm.q 4) (hm.dp (q:=5) rfl) (hm.q 0)) ?_;rintro⟨a6,n1⟩;refine Wn.len (k:=0) (xs:=l6) rfl ?_;rintro rfl;refine XU (aJ (k:=8) dN rfl rfl rfl) rfl ?_;obtain⟨r5,h16,hF⟩:=J hF;refine nc gn (fun m hm=>Di h16 m (hm.rd (k:=0) rfl (.sl _ _ _ _))) ?_;rintro⟨⟩;refine XU (aL rfl rfl (CZ _ _)) rfl<|XU (bE rfl) rfl<|X5 (fun m hm=>dQ.all rfl) ?_;refine az ?_;cases hF;exact ar () [3,4,5,6,7,8,2,10,9];rintro⟨⟩;refine wz ?_;rcases aa hF with⟨h17,hF⟩|⟨h17,hF⟩;refine az ?_;cases hF;exact ae () [];refine az ?_;cases hF;exact ae () [0,1,2,3,4,5,8,7];refine wz ?_;cases hF;exact ae () [];rcases r3 with v2|_;rintro⟨⟩;refine wz ?_;obtain rfl:=U9 hF;exact ar () [];rintro⟨⟩;refine ja ?_;cases hF;exact ar () [];rintro⟨⟩;refine Yf (aL rfl rfl (iJ _ _ _)) (gg rfl rfl (fg h0)) rfl<|XU (Ar rfl h0 rfl) rfl<|XU (bE rfl) rfl<|X5 (fun m hm=>dQ.all rfl) ?_;refine az ?_;cases hF;exact ar () [];refine Yd (gg rfl rfl (zn h0)) rfl<|Yd (gg rfl rfl (zn h0)) rfl<|Yd (gg rfl rfl (zn h0)) rfl<|Yd (gg rfl rfl (zn h0)) rfl<|Yd (gg rfl rfl (zn h0)) rfl<|XU (Cb rfl h0 rfl) rfl<|XU (bE rfl) rfl<|X5 (fun m hm=>dQ.all rfl) ?_;refine az ?_;cases hF;exact ar () []
end
end Go.Proofs.Ytmndpgfbkicndaa
