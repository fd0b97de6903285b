/- A part of the proof. -/
import Derived.Test.YtmndpgfbkicndaaCp3
import Derived.Shelf.GgSortFunc.RowK
import Derived.Shelf.SlSortCmp.WholeK
import Derived.Shelf.SlGeneric
import Derived.Ground.SlsfProg
import Derived.Test.YtmndpgfbkicndaaProg
import Derived.Shelf.SlSortCmp.NoneTotal
import Derived.Shelf.SlicesE.Delete
import Derived.Ground.SlgnProg
import Derived.Lib.Overlaps
import Derived.Ground.Names2Prog
import Derived.Shelf.Spec.SlicesInsert
import Derived.Shelf.Spec.SlicesInsertGrow
set_option linter.all false
section
open Go Go.Ab Go.Ab.W
abbrev TQ(m:TS)(v0:Value):Value->TS->Prop:=fun v m'=>∃x:TP,v=v0/\Hp m m' []
end
namespace Go.Proofs.Ytmndpgfbkicndaa
open Go Go.Ab Go.Ab.W
def MH(n:Nat)(x1:Int)(x2:Int):TN Bool :=
br (decide (mi x1 x2 < -1000000)) (
some true) (
some (decide (1000000<ma x1 x2)))
def zw(n:Nat)(l1:TO (Int)):(Int×Int)->TN ((Int×Int)⊕Int):=fun(v14,v15) =>
br (decide (v15<(l1.length:Int))) (
gd (ck v15 l1.length) (
ob (l1[v15.toNat]?) fun x25 =>
some (.inl (mi v14 x25,S6 (v15+1))))) (
some (.inr v14))
def MJ(n:Nat)(l1:TO (Int)):TN Int :=
br (decide ((l1.length:Int)<1)) (
none) (
gd (ck 0 l1.length) (
ob (l1[S7]?) fun x10 =>
ob (
bH (zw n l1) n (x10,1)) fun v22 =>
some v22))
def xi(n:Nat)(l1:TO (Int)):(Int×Int)->TN ((Int×Int)⊕Int):=fun(v14,v15) =>
br (decide (v15<(l1.length:Int))) (
gd (ck v15 l1.length) (
ob (l1[v15.toNat]?) fun x25 =>
some (.inl (ma v14 x25,S6 (v15+1))))) (
some (.inr v14))
def CC(n:Nat)(l1:TO (Int)):TN Int :=
br (decide ((l1.length:Int)<1)) (
none) (
gd (ck 0 l1.length) (
ob (l1[S7]?) fun x10 =>
ob (
bH (xi n l1) n (x10,1)) fun v22 =>
some v22))
def zg(n:Nat)(l12:TO (Int))(l1:SQ)(x16:Int):(SQ×Int)->TN ((SQ×Int)⊕SQ):=fun(l36,v38) =>
br (decide (v38<(l12.length:Int))) (
gd (ck v38 l12.length) (
ob (l12[v38.toNat]?) fun x64 =>
gd (ck x64 l1.length) (
ob (l1[x64.toNat]?) fun(x69,x70) =>
gd (ck x64 l1.length) (
gd (lim (l36++[(S6 (x16*x69),S6 (x16*x70))]).length) (
some (.inl ((l36++[(S6 (x16*x69),S6 (x16*x70))]),S6 (v38+1)))))))) (
some (.inr l36))
def E2(n:Nat)(l1:SQ)(l5:SO)(l12:TO (Int))(x16:Int):TN SQ :=
ob (
bH (zg n l12 l1 x16) n (([]:SQ),0)) fun l58 =>
some l58
def Hs(n:Nat)(x1:Int)(x2:Int):TN Bool :=
ob (some (ma (ma (ma x1 (S6 (0-x1))) x2) (S6 (0-x2)))) fun y4 =>
br (decide (1000000<y4)) (
some true) (
some (decide (mi x1 x2 < -1000000)))
def Oh(n:Nat)(x1:Int):TN Bool :=
some (!decide (x1=x1))
def L4(n:Nat)(x1:Int)(x2:Int):TN Int :=
ob (Oh n x1) fun r4 =>
ob (Oh n x2) fun r6 =>
br (r4) (
br (r6) (
some 0) (
some (-1))) (
br (r6) (
some 1) (
br (decide (x1<x2)) (
some (-1)) (
br (decide (x2<x1)) (
some 1) (
some 0))))
def Gb(n:Nat)(x1:Int)(x2:Int)(x3:Int)(x4:Int)(x5:Int)(x6:Int):TN Int :=
ob (some (S6 ((S6 (x3-x1))*(S6 (x6-x2))))) fun y10 =>
ob (some (S6 ((S6 (x4-x2))*(S6 (x5-x1))))) fun y12 =>
ob (L4 n y10 y12) fun r15 =>
some r15
def qa(n:Nat)(l1:TO (Int)):Int->TN (Int⊕Int⊕TP):=fun v6 =>
br (decide (v6<(l1.length:Int))) (
gd (ck v6 l1.length) (
ob (l1[v6.toNat]?) fun x20 =>
br (!decide (x20=0)) (
some (.inr (.inl x20))) (
some (.inl (S6 (v6+1)))))) (
some (.inr (.inr ())))
def OE(n:Nat)(l1:TO (Int)):TN Int :=
ob (α:=(Int)⊕TP) (
bH (qa n l1) n 0) fun r24=>match r24 with
| .inl v15 =>
some v15
| .inr _ =>
some 0
def I1(n:Nat)(x1:Int)(x2:Int)(x3:Int)(x4:Int):TN Int :=
ob (L4 n x1 x3) fun r8 =>
ob (L4 n x2 x4) fun r10 =>
ob (OE n ([r8,r10])) fun r13 =>
some r13
def Lw(n:Nat)(x1:Int)(x2:Int)(x3:Int)(x4:Int)(x5:Int)(x6:Int)(x7:Int):TN Bool :=
ob (Gb n x2 x3 x4 x5 x6 x7) fun r11 =>
br (!decide (r11=0)) (
some false) (
ob (
ob (I1 n x2 x3 x4 x5) fun r23 =>
br (decide (0<r23)) (
some (x4,x5,x2,x3)) (
some (x2,x3,x4,x5))) fun(v18,v19,v20,v21) =>
ob (I1 n v18 v19 x6 x7) fun r28 =>
br (decide (r28<=0)) (
ob (I1 n x6 x7 v20 v21) fun r31 =>
some (decide (r31<=0))) (
some false))
def qe(n:Nat)(x2:Int)(x10:Int)(x11:Int)(x5:Int)(x7:Int)(x8:Int)(x9:Int)(x12:Int)(x1:Int)(x6:Int):(TO ((Int×Int)×Bool)×Int)->TN ((TO ((Int×Int)×Bool)×Int) ⊕(TO ((Int×Int)×Bool))):=fun(l1,v0) =>
br (decide (v0<4)) (
ob (
gd (ck v0 4) (
ob ([(x2,x10),(x11,x5),(x7,x8),(x9,x12)][v0.toNat]?) fun(x3,x4) =>
ob (
ob (Lw n x1 x2 x10 x11 x5 x3 x4) fun r0 =>
br (r0) (
ob (Lw n x6 x7 x8 x9 x12 x3 x4) fun r1 =>
some r1) (
some false)) fun v1 =>
br (v1) (
some (jA l1 (x3,x4) true)) (
some l1))) fun l2 =>
some (.inl (l2,S6 (v0+1)))) (
some (.inr l1))
def MN(n:Nat)(x1:Int)(x2:Int)(x3:Int)(x4:Int)(x5:Int)(x6:Int)(x7:Int)(x8:Int)(x9:Int)(x10:Int):TN Int :=
ob (Gb n x2 x3 x4 x5 x7 x8) fun r0 =>
ob (Gb n x2 x3 x4 x5 x9 x10) fun r1 =>
ob (Gb n x7 x8 x9 x10 x2 x3) fun r3 =>
ob (Gb n x7 x8 x9 x10 x4 x5) fun r4 =>
ob (
bH (qe n x2 x3 x4 x5 x7 x8 x9 x10 x1 x6) n (([]:TO ((Int×Int)×Bool)),0)) fun l1 =>
ob (some (l1.length)) fun y0 =>
br (decide (1<(y0:Int))) (
some 3) (
ob (some (l1.length)) fun y1 =>
br (decide ((y1:Int)=1)) (
some 1) (
ob (
br (decide (S6 (r0*r1)<0)) (
some (decide (S6 (r3*r4)<0))) (
some false)) fun v0 =>
br (v0) (
some 2) (
some 0)))
def xQ(n:Nat)(l1:SQ):Int->TN (Int⊕Int⊕TP):=fun v49 =>
br (decide (v49<(l1.length:Int))) (
gd (ck v49 l1.length) (
ob (l1[v49.toNat]?) fun(x66,x67) =>
ob (Hs n x66 x67) fun r70 =>
br (r70) (
some (.inr (.inl v49))) (
some (.inl (S6 (v49+1)))))) (
some (.inr (.inr ())))
def xJ(n:Nat)(l1:SQ):Int->TN (Int⊕Int⊕TP):=fun v0 =>
br (decide (v0<(l1.length:Int))) (
gd (ck v0 l1.length) (
ob (l1[v0.toNat]?) fun(x3,x4) =>
gd (decide ((l1.length:Int)≠0)) (
gd (ck (Int.tmod (S6 (v0+1)) (l1.length:Int)) l1.length) (
ob (l1[(Int.tmod (S6 (v0+1)) (l1.length:Int)).toNat]?) fun(x10,x11) =>
ob (α:=(TP)⊕TP) (
br ((decide (x3=x10)&&decide (x4=x11))) (
some (.inl ())) (
some (.inr ()))) fun r0=>match r0 with
| .inl _ =>
some (.inr (.inl v0))
| .inr _ =>
some (.inl (S6 (v0+1))))))) (
some (.inr (.inr ())))
def xM(n:Nat)(l1:SQ):Int->TN (Int⊕Int⊕TP):=fun v0 =>
br (decide (v0<(l1.length:Int))) (
gd (ck v0 l1.length) (
ob (l1[v0.toNat]?) fun(x3,x4) =>
gd (decide ((l1.length:Int)≠0)) (
gd (ck (Int.tmod (S6 (v0+1)) (l1.length:Int)) l1.length) (
ob (l1[(Int.tmod (S6 (v0+1)) (l1.length:Int)).toNat]?) fun(x10,x11) =>
ob (α:=(TP)⊕TP) (
gd (decide ((l1.length:Int)≠0)) (
ob (some (Int.tmod (S6 ((S6 (v0+(l1.length:Int)))-1)) (l1.length:Int))) fun y0 =>
gd (ck y0 l1.length) (
ob (l1[y0.toNat]?) fun(x12,x13) =>
ob (
ob (Gb n x12 x13 x3 x4 x10 x11) fun r0 =>
br (decide (r0=0)) (
ob (some (S6 ((S6 (x3-x12))*(S6 (x10-x3))))) fun y1 =>
ob (some (S6 ((S6 (x4-x13))*(S6 (x11-x4))))) fun y2 =>
some (decide (S6 (y1+y2)<0))) (
some false)) fun v1 =>
br (v1) (
some (.inl ())) (
some (.inr ()))))) fun r1=>match r1 with
| .inl _ =>
some (.inr (.inl v0))
| .inr _ =>
some (.inl (S6 (v0+1))))))) (
some (.inr (.inr ())))
def zb(n:Nat)(l1:SQ)(v1:Int)(x3:Int)(x4:Int)(x10:Int)(x11:Int):Int->TN (Int⊕TP⊕TP⊕TP):=fun v0 =>
br (decide (v0<(l1.length:Int))) (
gd (ck v0 l1.length) (
ob (l1[v0.toNat]?) fun(x12,x13) =>
gd (decide ((l1.length:Int)≠0)) (
gd (ck (Int.tmod (S6 (v0+1)) (l1.length:Int)) l1.length) (
ob (l1[(Int.tmod (S6 (v0+1)) (l1.length:Int)).toNat]?) fun(x14,x15) =>
ob (α:=(TP)⊕TP⊕TP) (
br (decide (S6 (v1-1)<=v0)) (
some (.inl ())) (
ob (
br (decide (v0=0)) (
some (decide (v1=S6 ((l1.length:Int)-1)))) (
some false)) fun v2 =>
br (v2) (
some (.inr (.inl ()))) (
ob (MN n v1 x3 x4 x10 x11 v0 x12 x13 x14 x15) fun r0 =>
br (!decide (r0=0)) (
some (.inr (.inr ()))) (
some (.inr (.inl ())))))) fun r1=>match r1 with
| .inl _ =>
some (.inr (.inl ()))
| .inr (.inl _) =>
some (.inl (S6 (v0+1)))
| .inr (.inr _) =>
some (.inr (.inr (.inl ()))))))) (
some (.inr (.inr (.inr ()))))
def yY(n:Nat)(l1:SQ):Int->TN (Int⊕Int⊕TP):=fun v0 =>
br (decide (v0<(l1.length:Int))) (
gd (ck v0 l1.length) (
ob (l1[v0.toNat]?) fun(x3,x4) =>
gd (decide ((l1.length:Int)≠0)) (
gd (ck (Int.tmod (S6 (v0+1)) (l1.length:Int)) l1.length) (
ob (l1[(Int.tmod (S6 (v0+1)) (l1.length:Int)).toNat]?) fun(x10,x11) =>
ob (α:=(TP)⊕TP) (
ob (
some ()) fun _ =>
ob (α:=(TP)⊕TP⊕TP) (
ob (α:=(TP)⊕TP⊕TP) (
bH (zb n l1 v0 x3 x4 x10 x11) n 0) fun r0=>match r0 with
| .inl _ =>
some (.inl ())
| .inr (.inl _) =>
some (.inr (.inl ()))
| .inr (.inr _) =>
some (.inr (.inr ()))) fun r1=>match r1 with
| .inl _ =>
some (.inl ())
| .inr (.inl _) =>
some (.inr ())
| .inr (.inr _) =>
some (.inl ())) fun r3=>match r3 with
| .inl _ =>
some (.inl (S6 (v0+1)))
| .inr _ =>
some (.inr (.inl v0)))))) (
some (.inr (.inr ())))
def Ov(n:Nat)(l1:SQ):TN (Int×Int) :=
ob (
br (decide ((l1.length:Int)<3)) (
some true) (
some (decide (40<(l1.length:Int))))) fun v1 =>
br (v1) (
some (1,0)) (
ob (
ob (α:=(Int)⊕TP) (
bH (xQ n l1) n 0) fun r0=>match r0 with
| .inl v2 =>
some v2
| .inr _ =>
some (-1)) fun v0 =>
br (decide (0<=v0)) (
some (2,v0)) (
ob (
some ()) fun _ =>
ob (α:=(Int)⊕TP) (
ob (α:=(Int)⊕TP) (
bH (xJ n l1) n 0) fun r1=>match r1 with
| .inl v3 =>
some (.inl v3)
| .inr _ =>
some (.inr ())) fun r3=>match r3 with
| .inl v4 =>
some (3,v4)
| .inr _ =>
ob (
some ()) fun _ =>
ob (α:=(Int)⊕TP) (
ob (α:=(Int)⊕TP) (
bH (xM n l1) n 0) fun r4=>match r4 with
| .inl v5 =>
some (.inl v5)
| .inr _ =>
some (.inr ())) fun r5=>match r5 with
| .inl v6 =>
some (4,v6)
| .inr _ =>
ob (
some ()) fun _ =>
ob (α:=(Int)⊕TP) (
ob (α:=(Int)⊕TP) (
bH (yY n l1) n 0) fun r6=>match r6 with
| .inl v7 =>
some (.inl v7)
| .inr _ =>
some (.inr ())) fun r7=>match r7 with
| .inl v8 =>
some (5,v8)
| .inr _ =>
some (0,0)))
def MC(n:Nat)(l1:SQ):TN Int :=
ob (Ov n l1) fun(r6,r7) =>
br (decide (0<r6)) (
some 140) (
some 0)
def ug(n:Nat)(l1:SQ):(Int×Int)->TN ((Int×Int)⊕Int):=fun(v7,v8) =>
br (decide (v8<(l1.length:Int))) (
gd (ck v8 l1.length) (
ob (l1[v8.toNat]?) fun(x32,x33) =>
gd (decide ((l1.length:Int)≠0)) (
gd (ck (Int.tmod (S6 (v8+1)) (l1.length:Int)) l1.length) (
ob (l1[(Int.tmod (S6 (v8+1)) (l1.length:Int)).toNat]?) fun(x38,x39) =>
ob (some (S6 ((S6 (x32*x39))-(S6 (x33*x38))))) fun y42 =>
some (.inl (S6 (v7+y42),S6 (v8+1))))))) (
some (.inr v7))
def MM(n:Nat)(l1:SQ):TN Int :=
ob (
bH (ug n l1) n (0,0)) fun v27 =>
some v27
def Oj(n:Nat)(x1:Int)(x2:Int)(x3:Int)(x4:Int)(x5:Int)(x6:Int)(x7:Int)(x8:Int):TN (Int×Int) :=
ob (
ob (Hs n x1 x2) fun r58 =>
br (r58) (
some true) (
ob (Hs n x3 x4) fun r61 =>
br (r61) (
some true) (
ob (Hs n x5 x6) fun r64 =>
br (r64) (
some true) (
ob (Hs n x7 x8) fun r67 =>
br (r67) (
some true) (
br ((decide (x1=x3)&&decide (x2=x4))) (
some true) (
some (decide (x5=x7)&&decide (x6=x8)))))))) fun v56 =>
br (v56) (
some (0,2)) (
ob (MN n 0 x1 x2 x3 x4 0 x5 x6 x7 x8) fun r74 =>
some (r74,0))
def Ng(n:Nat)(l1:SQ)(l5:SO)(x12:Int)(x13:Int)(x14:Int)(x15:Int)(x16:Int)(x17:Int)(x18:Int)(x19:Int):TN Bool :=
ob (
br (decide (x12=x16)) (
br (decide (x13=x17)) (
some true) (
br (decide (x12=x17)) (
some (decide (x13=x16))) (
some false))) (
br (decide (x12=x17)) (
some (decide (x13=x16))) (
some false))) fun v39 =>
br (v39) (
some false) (
gd (ck x12 l1.length) (
ob (l1[x12.toNat]?) fun(x50,x51) =>
gd (ck x13 l1.length) (
ob (l1[x13.toNat]?) fun(x54,x55) =>
gd (ck x16 l1.length) (
ob (l1[x16.toNat]?) fun(x58,x59) =>
gd (ck x17 l1.length) (
ob (l1[x17.toNat]?) fun(x62,x63) =>
ob (Oj n x50 x51 x54 x55 x58 x59 x62 x63) fun(r66,r67) =>
br (decide (r66=0)) (
some false) (
br (decide (r66=1)) (
br (!decide (x12=x16)) (
br (!decide (x12=x17)) (
br (!decide (x13=x16)) (
some (!decide (x13=x17))) (
some false)) (
some false)) (
some false)) (
some true)))))))
def rI(n:Nat)(l1:SQ)(x6:Int)(x5:Int):(Int×Int)->TN ((Int×Int)⊕TP⊕Int):=fun(v1,v0) =>
br (decide (v0<(l1.length:Int))) (
ob (α:=(TP)⊕Int) (
gd (ck v0 l1.length) (
ob (l1[v0.toNat]?) fun(x10,x3) =>
gd (decide ((l1.length:Int)≠0)) (
gd (ck (Int.tmod (S6 (v0+1)) (l1.length:Int)) l1.length) (
ob (l1[(Int.tmod (S6 (v0+1)) (l1.length:Int)).toNat]?) fun(x11,x4) =>
ob (some (S6 ((S6 (x11-x10))*(S6 (x6-x3))))) fun y0 =>
ob (some (S6 ((S6 (x4-x3))*(S6 (x5-x10))))) fun y1 =>
ob (
br (decide (S6 (y0-y1)=0)) (
br (decide (mi x10 x11<=x5)) (
br (decide (x5<=ma x10 x11)) (
br (decide (mi x3 x4<=x6)) (
some (decide (x6<=ma x3 x4))) (
some false)) (
some false)) (
some false)) (
some false)) fun v2 =>
br (v2) (
some (.inl ())) (
ob (
br (decide (x3<=x6)) (
br (decide (x6<x4)) (
some (decide (0<S6 (y0-y1)))) (
some false)) (
some false)) fun v3 =>
br (v3) (
some (.inr (S6 (v1+1)))) (
ob (
br (decide (x6<x3)) (
br (decide (x4<=x6)) (
some (decide (S6 (y0-y1)<0))) (
some false)) (
some false)) fun v4 =>
br (v4) (
some (.inr (S6 (v1-1)))) (
some (.inr v1)))))))) fun r0=>match r0 with
| .inl _ =>
some (.inr (.inl ()))
| .inr v5 =>
some (.inl (v5,S6 (v0+1)))) (
some (.inr (.inr v1)))
def I8(n:Nat)(l1:SQ)(x5:Int)(x6:Int):TN Int :=
ob (α:=(TP)⊕Int) (
bH (rI n l1 x6 x5) n (0,0)) fun r0=>match r0 with
| .inl _ =>
some 1
| .inr v0 =>
br (decide (v0=0)) (
some 0) (
some 2)
def qm(n:Nat)(l1:SR)(l2:SQ)(l3:SO)(x3:Int)(x4:Int)(x10:Int):Int->TN (Int⊕Int⊕TP):=fun v0 =>
br (decide (v0<(l1.length:Int))) (
gd (ck v0 l1.length) (
ob (l1[v0.toNat]?) fun l4 =>
ob (
ob (E2 n l2 l3 l4 x3) fun l5 =>
ob (I8 n l5 x4 x10) fun r0 =>
some (!decide (r0=0))) fun v1 =>
br (v1) (
some (.inr (.inl v0))) (
some (.inl (S6 (v0+1)))))) (
some (.inr (.inr ())))
def Ez(n:Nat)(l1:SQ)(l2:SO)(l3:TO (Int))(l4:SR)(x3:Int)(x4:Int)(x10:Int):TN Bool :=
ob (E2 n l1 l2 l3 x10) fun l5 =>
ob (I8 n l5 x3 x4) fun r0 =>
br (decide (r0=2)) (
ob (
ob (α:=(Int)⊕TP) (
bH (qm n l4 l1 l2 x10 x3 x4) n 0) fun r1=>match r1 with
| .inl v0 =>
some v0
| .inr _ =>
some (-1)) fun v1 =>
some (decide (v1<0))) (
some false)
def qc(n:Nat)(l1:TO Int):(Int×TO ((Int×Int)×Bool))->TN ((Int×TO ((Int×Int)×Bool)) ⊕((TO ((Int×Int)×Bool)) ⊕(TO ((Int×Int)×Bool)))):=fun(v0,l2) =>
br (decide (v0<(l1.length:Int))) (
gd (ck v0 l1.length) (
ob (l1[v0.toNat]?) fun x3 =>
gd (decide ((l1.length:Int)≠0)) (
gd (ck (Int.tmod (S6 (v0+1)) (l1.length:Int)) l1.length) (
ob (l1[(Int.tmod (S6 (v0+1)) (l1.length:Int)).toNat]?) fun x4 =>
ob (α:=(TP)⊕TP) (
ob (some ((fk l2 (x3,x4)).getD false)) fun y0 =>
br (y0) (
some (.inl ())) (
some (.inr ()))) fun r0=>match r0 with
| .inl _ =>
some (.inr (.inl l2))
| .inr _ =>
some (.inl (S6 (v0+1),(jA l2 (x3,x4) true))))))) (
some (.inr (.inr l2)))
def qg(n:Nat)(l1:SR):(Int×TO ((Int×Int)×Bool))->TN ((Int×TO ((Int×Int)×Bool)) ⊕((TO ((Int×Int)×Bool)) ⊕(TO ((Int×Int)×Bool)))):=fun(v0,l2) =>
br (decide (v0<(l1.length:Int))) (
gd (ck v0 l1.length) (
ob (l1[v0.toNat]?) fun l3 =>
ob (α:=(TO ((Int×Int)×Bool)) ⊕(TO ((Int×Int)×Bool))) (
bH (qc n l3) n (0,l2)) fun r0=>match r0 with
| .inl l4 =>
some (.inr (.inl l4))
| .inr l5 =>
some (.inl (S6 (v0+1),l5)))) (
some (.inr (.inr l2)))
def qx(n:Nat)(l1:SO):(Int×TO ((Int×Int)×Bool))->TN ((Int×TO ((Int×Int)×Bool)) ⊕((Int×TO ((Int×Int)×Bool)) ⊕(TO ((Int×Int)×Bool)))):=fun(v0,l2) =>
br (decide (v0<(l1.length:Int))) (
gd (ck v0 l1.length) (
ob (l1[v0.toNat]?) fun(l3,l4) =>
ob (zD n l3 l4) fun l5 =>
ob (α:=(TO ((Int×Int)×Bool)) ⊕(TO ((Int×Int)×Bool))) (
bH (qg n l5) n (0,l2)) fun r0=>match r0 with
| .inl l6 =>
some (.inr (.inl (v0,l6)))
| .inr l7 =>
some (.inl (S6 (v0+1),l7)))) (
some (.inr (.inr l2)))
def tv(n:Nat)(l1:TO (SP))(l2:SQ)(l3:SO)(x3:Int)(x4:Int)(v1:Int)(v2:Int):Int->TN (Int⊕Int⊕TP):=fun v0 =>
br (decide (v0<(l1.length:Int))) (
gd (ck v0 l1.length) (
ob (l1[v0.toNat]?) fun(x10,x11,x12,x13) =>
ob (
ob (Ng n l2 l3 x3 x4 v1 v2 x10 x11 x12 x13) fun r0 =>
some r0) fun v3 =>
br (v3) (
some (.inr (.inl v0))) (
some (.inl (S6 (v0+1)))))) (
some (.inr (.inr ())))
def qC(n:Nat)(l1:TO Int)(l3:SQ)(l4:SO)(v1:Int)(v2:Int):(Int×TO (SP))->TN ((Int×TO (SP)) ⊕((TO (SP)) ⊕(TO (SP)))):=fun(v0,l2) =>
br (decide (v0<(l1.length:Int))) (
gd (ck v0 l1.length) (
ob (l1[v0.toNat]?) fun x3 =>
gd (decide ((l1.length:Int)≠0)) (
gd (ck (Int.tmod (S6 (v0+1)) (l1.length:Int)) l1.length) (
ob (l1[(Int.tmod (S6 (v0+1)) (l1.length:Int)).toNat]?) fun x4 =>
ob (α:=(TP) ⊕(TO (SP))) (
ob (
ob (α:=(Int)⊕TP) (
bH (tv n l2 l3 l4 x3 x4 v1 v2) n 0) fun r0=>match r0 with
| .inl v3 =>
some v3
| .inr _ =>
some (-1)) fun v4 =>
br (decide (0<=v4)) (
some (.inl ())) (
gd (lim (l2++[(x3,x4,v1,v2)]).length) (
some (.inr (l2++[(x3,x4,v1,v2)]))))) fun r1=>match r1 with
| .inl _ =>
some (.inr (.inl l2))
| .inr l5 =>
some (.inl (S6 (v0+1),l5)))))) (
some (.inr (.inr l2)))
def ql(n:Nat)(l1:SR)(l3:SQ)(l4:SO)(v1:Int):(Int×TO (SP))->TN ((Int×TO (SP)) ⊕((TO (SP)) ⊕(TO (SP)))):=fun(v0,l2) =>
br (decide (v0<(l1.length:Int))) (
gd (ck v0 l1.length) (
ob (l1[v0.toNat]?) fun l5 =>
ob (α:=(TO (SP)) ⊕(TO (SP))) (
bH (qC n l5 l3 l4 v1 v0) n (0,l2)) fun r0=>match r0 with
| .inl l6 =>
some (.inr (.inl l6))
| .inr l7 =>
some (.inl (S6 (v0+1),l7)))) (
some (.inr (.inr l2)))
def qz(n:Nat)(l1:SO)(l3:SQ):(Int×TO (SP))->TN ((Int×TO (SP)) ⊕((Int×TO (SP)) ⊕(TO (SP)))):=fun(v0,l2) =>
br (decide (v0<(l1.length:Int))) (
gd (ck v0 l1.length) (
ob (l1[v0.toNat]?) fun(l4,l5) =>
ob (zD n l4 l5) fun l6 =>
ob (α:=(TO (SP)) ⊕(TO (SP))) (
bH (ql n l6 l3 l1 v0) n (0,l2)) fun r0=>match r0 with
| .inl l7 =>
some (.inr (.inl (v0,l7)))
| .inr l8 =>
some (.inl (S6 (v0+1),l8)))) (
some (.inr (.inr l2)))
def qd(n:Nat)(l1:TO Int)(v1:Int)(v2:Int)(l3:SO)(l4:SR)(l2:SQ)(l5:TO Int):Int->TN (Int⊕TP⊕TP):=fun v0 =>
br (decide (v0<(l1.length:Int))) (
gd (ck v0 l1.length) (
ob (l1[v0.toNat]?) fun x3 =>
gd (decide ((l1.length:Int)≠0)) (
gd (ck (Int.tmod (S6 (v0+1)) (l1.length:Int)) l1.length) (
ob (l1[(Int.tmod (S6 (v0+1)) (l1.length:Int)).toNat]?) fun x4 =>
ob (α:=(TP)⊕TP) (
br (decide (v1=0)) (
some (.inl ())) (
gd (ck v2 l3.length) (
ob (OX n l4) fun _ =>
ob (M5 n l4 (S6 (v1-1)) v1) fun l6 =>
ob (
gd (ck x3 l2.length) (
ob (l2[x3.toNat]?) fun(x10,x11) =>
gd (ck x4 l2.length) (
ob (l2[x4.toNat]?) fun(x12,x13) =>
some (S6 (x10+x12),S6 (x11+x13))))) fun(v3,v4) =>
ob (Ez n l2 l3 l5 l6 v3 v4 2) fun r0 =>
br (!r0) (
some (.inr ())) (
some (.inl ()))))) fun r1=>match r1 with
| .inl _ =>
some (.inl (S6 (v0+1)))
| .inr _ =>
some (.inr (.inl ())))))) (
some (.inr (.inr ())))
def qk(n:Nat)(l1:SR)(v1:Int)(l2:SO)(l3:SR)(l4:SQ)(l5:TO Int):Int->TN (Int⊕TP⊕TP):=fun v0 =>
br (decide (v0<(l1.length:Int))) (
gd (ck v0 l1.length) (
ob (l1[v0.toNat]?) fun l6 =>
ob (α:=(TP)⊕TP) (
bH (qd n l6 v0 v1 l2 l3 l4 l5) n 0) fun r0=>match r0 with
| .inl _ =>
some (.inr (.inl ()))
| .inr _ =>
some (.inl (S6 (v0+1))))) (
some (.inr (.inr ())))
def lK(n:Nat)(l1:SO)(l4:SQ):Int->TN (Int⊕Int⊕TP):=fun v0 =>
br (decide (v0<(l1.length:Int))) (
gd (ck v0 l1.length) (
ob (l1[v0.toNat]?) fun(l2,l3) =>
ob (zD n l2 l3) fun l5 =>
ob (α:=(TP)⊕TP) (
bH (qk n l5 v0 l1 l3 l4 l2) n 0) fun r0=>match r0 with
| .inl _ =>
some (.inr (.inl v0))
| .inr _ =>
some (.inl (S6 (v0+1))))) (
some (.inr (.inr ())))
def sR(n:Nat)(l2:SO)(v1:Int)(x3:Int)(l1:SQ)(x4:Int):Int->TN (Int⊕TP⊕TP):=fun v0 =>
br (decide (v0<(l2.length:Int))) (
gd (ck v0 l2.length) (
ob (l2[v0.toNat]?) fun(l3,l4) =>
ob (
br (!decide (v0=v1)) (
ob (
gd (ck x3 l1.length) (
ob (l1[x3.toNat]?) fun(x10,x11) =>
gd (ck x4 l1.length) (
ob (l1[x4.toNat]?) fun(x12,x13) =>
some (S6 (x10+x12),S6 (x11+x13))))) fun(v2,v3) =>
ob (Ez n l1 l2 l3 l4 v2 v3 2) fun r0 =>
some r0) (
some false)) fun v4 =>
br (v4) (
some (.inr (.inl ()))) (
some (.inl (S6 (v0+1)))))) (
some (.inr (.inr ())))
def lC(n:Nat)(l1:TO Int)(l2:SO)(v1:Int)(l3:SQ):Int->TN (Int⊕TP⊕TP):=fun v0 =>
br (decide (v0<(l1.length:Int))) (
gd (ck v0 l1.length) (
ob (l1[v0.toNat]?) fun x3 =>
gd (decide ((l1.length:Int)≠0)) (
gd (ck (Int.tmod (S6 (v0+1)) (l1.length:Int)) l1.length) (
ob (l1[(Int.tmod (S6 (v0+1)) (l1.length:Int)).toNat]?) fun x4 =>
ob (α:=(TP)⊕TP) (
ob (α:=(TP)⊕TP) (
bH (sR n l2 v1 x3 l3 x4) n 0) fun r0=>match r0 with
| .inl _ =>
some (.inl ())
| .inr _ =>
some (.inr ())) fun r1=>match r1 with
| .inl _ =>
some (.inr (.inl ()))
| .inr _ =>
some (.inl (S6 (v0+1))))))) (
some (.inr (.inr ())))
def lz(n:Nat)(l1:SR)(l2:SO)(v1:Int)(l3:SQ):Int->TN (Int⊕TP⊕TP):=fun v0 =>
br (decide (v0<(l1.length:Int))) (
gd (ck v0 l1.length) (
ob (l1[v0.toNat]?) fun l4 =>
ob (α:=(TP)⊕TP) (
bH (lC n l4 l2 v1 l3) n 0) fun r0=>match r0 with
| .inl _ =>
some (.inr (.inl ()))
| .inr _ =>
some (.inl (S6 (v0+1))))) (
some (.inr (.inr ())))
def lE(n:Nat)(l1:SO)(l2:SQ):Int->TN (Int⊕Int⊕TP):=fun v0 =>
br (decide (v0<(l1.length:Int))) (
gd (ck v0 l1.length) (
ob (l1[v0.toNat]?) fun(l3,l4) =>
ob (zD n l3 l4) fun l5 =>
ob (α:=(TP)⊕TP) (
bH (lz n l5 l1 v0 l2) n 0) fun r0=>match r0 with
| .inl _ =>
some (.inr (.inl v0))
| .inr _ =>
some (.inl (S6 (v0+1))))) (
some (.inr (.inr ())))
def NN(n:Nat)(l2:SQ)(l1:SO):TN (Int×Int) :=
ob (
some ([]:TO ((Int×Int)×Bool))) fun l3 =>
ob (α:=(Int×TO ((Int×Int)×Bool)) ⊕(TO ((Int×Int)×Bool))) (
ob (α:=(Int×TO ((Int×Int)×Bool)) ⊕(TO ((Int×Int)×Bool))) (
bH (qx n l1) n (0,l3)) fun r0=>match r0 with
| .inl (v0,l4) =>
some (.inl (v0,l4))
| .inr l5 =>
some (.inr l5)) fun r1=>match r1 with
| .inl (v1,l8) =>
some (7,v1)
| .inr l9 =>
ob (
some ()) fun _ =>
ob (α:=(Int×TO (SP)) ⊕(TO (SP))) (
ob (α:=(Int×TO (SP)) ⊕(TO (SP))) (
bH (qz n l1 l2) n (0,([]:TO (SP)))) fun r3=>match r3 with
| .inl (v2,l6) =>
some (.inl (v2,l6))
| .inr l7 =>
some (.inr l7)) fun r4=>match r4 with
| .inl (v3,l10) =>
some (8,v3)
| .inr l11 =>
ob (
some ()) fun _ =>
ob (α:=(Int)⊕TP) (
ob (α:=(Int)⊕TP) (
bH (lK n l1 l2) n 0) fun r5=>match r5 with
| .inl v4 =>
some (.inl v4)
| .inr _ =>
some (.inr ())) fun r6=>match r6 with
| .inl v5 =>
some (9,v5)
| .inr _ =>
ob (
some ()) fun _ =>
ob (α:=(Int)⊕TP) (
ob (α:=(Int)⊕TP) (
bH (lE n l1 l2) n 0) fun r7=>match r7 with
| .inl v6 =>
some (.inl v6)
| .inr _ =>
some (.inr ())) fun r8=>match r8 with
| .inl v7 =>
some (10,v7)
| .inr _ =>
some (0,0)
def yN(n:Nat)(l1:SQ):Int->TN (Int⊕Int⊕TP):=fun v63 =>
br (decide (v63<(l1.length:Int))) (
gd (ck v63 l1.length) (
ob (l1[v63.toNat]?) fun(x81,x82) =>
ob (MH n x81 x82) fun r86 =>
br (r86) (
some (.inr (.inl v63))) (
some (.inl (S6 (v63+1)))))) (
some (.inr (.inr ())))
def qb(n:Nat)(l1:SQ):(TO ((Int×Int)×Bool)×Int)->TN ((TO ((Int×Int)×Bool)×Int)⊕Int⊕TP):=fun(l2,v0) =>
br (decide (v0<(l1.length:Int))) (
gd (ck v0 l1.length) (
ob (l1[v0.toNat]?) fun(x3,x4) =>
ob (some ((fk l2 (x3,x4)).getD false)) fun y0 =>
br (y0) (
some (.inr (.inl v0))) (
some (.inl ((jA l2 (x3,x4) true),S6 (v0+1)))))) (
some (.inr (.inr ())))
def xT(n:Nat)(l2:SR)(l3:SQ):Int->TN (Int⊕TP⊕TP):=fun v0 =>
br (decide (v0<(l2.length:Int))) (
gd (ck v0 l2.length) (
ob (l2[v0.toNat]?) fun l1 =>
ob (
br (decide ((l1.length:Int)<3)) (
some true) (
br (decide (40<(l1.length:Int))) (
some true) (
ob (MJ n l1) fun r0 =>
br (decide (r0<0)) (
some true) (
ob (CC n l1) fun r1 =>
some (decide ((l3.length:Int)<=r1)))))) fun v1 =>
br (v1) (
some (.inr (.inl ()))) (
some (.inl (S6 (v0+1)))))) (
some (.inr (.inr ())))
def zj(n:Nat)(l1:SO)(l3:SQ):Int->TN (Int⊕Int⊕TP):=fun v0 =>
br (decide (v0<(l1.length:Int))) (
gd (ck v0 l1.length) (
ob (l1[v0.toNat]?) fun(l4,l2) =>
ob (
br (decide (8<(l2.length:Int))) (
some true) (
ob (
ob (zD n l4 l2) fun l5 =>
ob (α:=(TP)⊕TP) (
bH (xT n l5 l3) n 0) fun r0=>match r0 with
| .inl _ =>
some true
| .inr _ =>
some false) fun v1 =>
some v1)) fun v2 =>
br (v2) (
some (.inr (.inl v0))) (
some (.inl (S6 (v0+1)))))) (
some (.inr (.inr ())))
def xh(n:Nat)(l1:SR)(l2:SQ)(l3:SO):Int->TN (Int⊕TP⊕TP):=fun v0 =>
br (decide (v0<(l1.length:Int))) (
gd (ck v0 l1.length) (
ob (l1[v0.toNat]?) fun l4 =>
ob (
ob (E2 n l2 l3 l4 1) fun l5 =>
ob (MC n l5) fun r0 =>
some (!decide (r0=0))) fun v1 =>
br (v1) (
some (.inr (.inl ()))) (
some (.inl (S6 (v0+1)))))) (
some (.inr (.inr ())))
def yl(n:Nat)(l1:SO)(l2:SQ):Int->TN (Int⊕Int⊕TP):=fun v0 =>
br (decide (v0<(l1.length:Int))) (
gd (ck v0 l1.length) (
ob (l1[v0.toNat]?) fun(l3,l4) =>
ob (
ob (
ob (zD n l3 l4) fun l5 =>
ob (α:=(TP)⊕TP) (
bH (xh n l5 l2 l1) n 0) fun r0=>match r0 with
| .inl _ =>
some true
| .inr _ =>
some false) fun v1 =>
some v1) fun v2 =>
br (v2) (
some (.inr (.inl v0))) (
some (.inl (S6 (v0+1)))))) (
some (.inr (.inr ())))
def ze(n:Nat)(l1:SR)(l2:SQ)(l3:SO):Int->TN (Int⊕TP⊕TP):=fun v0 =>
br (decide (v0<(l1.length:Int))) (
gd (ck v0 l1.length) (
ob (l1[v0.toNat]?) fun l4 =>
ob (
ob (E2 n l2 l3 l4 1) fun l5 =>
ob (MM n l5) fun r0 =>
some ((decide (r0<0)) ==(decide (v0=0)))) fun v1 =>
br (v1) (
some (.inr (.inl ()))) (
some (.inl (S6 (v0+1)))))) (
some (.inr (.inr ())))
def xd(n:Nat)(l1:SO)(l2:SQ):Int->TN (Int⊕Int⊕TP):=fun v0 =>
br (decide (v0<(l1.length:Int))) (
gd (ck v0 l1.length) (
ob (l1[v0.toNat]?) fun(l3,l4) =>
ob (
ob (
ob (zD n l3 l4) fun l5 =>
ob (α:=(TP)⊕TP) (
bH (ze n l5 l2 l1) n 0) fun r0=>match r0 with
| .inl _ =>
some true
| .inr _ =>
some false) fun v1 =>
some v1) fun v2 =>
br (v2) (
some (.inr (.inl v0))) (
some (.inl (S6 (v0+1)))))) (
some (.inr (.inr ())))
def MI(n:Nat)(l1:SQ)(l2:SO):TN (Int×Int) :=
ob (
br (decide ((l1.length:Int)<3)) (
some true) (
br (decide (120<(l1.length:Int))) (
some true) (
br (decide ((l2.length:Int)<1)) (
some true) (
some (decide (64<(l2.length:Int))))))) fun v4 =>
br (v4) (
some (1,0)) (
ob (
ob (α:=(Int)⊕TP) (
bH (yN n l1) n 0) fun r0=>match r0 with
| .inl v5 =>
some v5
| .inr _ =>
some (-1)) fun v0 =>
br (decide (0<=v0)) (
some (2,v0)) (
ob (α:=(Int)⊕TP) (
bH (qb n l1) n (([]:TO ((Int×Int)×Bool)),0)) fun r1=>match r1 with
| .inl v6 =>
some (3,v6)
| .inr _ =>
ob (
ob (α:=(Int)⊕TP) (
bH (zj n l2 l1) n 0) fun r3=>match r3 with
| .inl v7 =>
some v7
| .inr _ =>
some (-1)) fun v1 =>
br (decide (0<=v1)) (
some (4,v1)) (
ob (
ob (α:=(Int)⊕TP) (
bH (yl n l2 l1) n 0) fun r4=>match r4 with
| .inl v8 =>
some v8
| .inr _ =>
some (-1)) fun v2 =>
br (decide (0<=v2)) (
some (5,v2)) (
ob (
ob (α:=(Int)⊕TP) (
bH (xd n l2 l1) n 0) fun r5=>match r5 with
| .inl v9 =>
some v9
| .inr _ =>
some (-1)) fun v3 =>
br (decide (0<=v3)) (
some (6,v3)) (
ob (NN n l1 l2) fun(r6,r7) =>
some (r6,r7))))))
def Dl(n:Nat)(l1:SQ)(l5:SO):TN Int :=
ob (MI n l1 l5) fun(r14,r15) =>
br (decide (0<r14)) (
some 150) (
some 0)
def LC(n:Nat)(r0:TP->Int->TN Int)(l1:SQ):TP->Int->TN Int:=fun _ x3 =>
ob (some ((fk l1 x3).getD (0:Int),(fk l1 x3).isSome)) fun(y0,y1) =>
ob (
br (y1) (
some (!decide (y0=x3))) (
some false)) fun v0 =>
br (v0) (
ob (r0 () y0) fun r1 =>
some r1) (
some x3)
def NU(n:Nat)(l79:SQ):Nat->TP->Int->TN Int
 | 0=>fun _ _=>none
 | k+1=>LC n (NU n l79 k) l79
def Kd(n:Nat)(x4:Int)(x10:Int):(SQ×Int)->TN ((SQ×Int)⊕SQ):=fun(l1,v0) =>
br (decide (v0<2)) (
ob (
gd (ck v0 2) (
ob ([x4,x10][v0.toNat]?) fun x3 =>
ob (some ((fk l1 x3).getD (0:Int),(fk l1 x3).isSome)) fun(y1,y0) =>
br (!y0) (
some (jA l1 x3 x3)) (
some l1))) fun l2 =>
some (.inl (l2,S6 (v0+1)))) (
some (.inr l1))
def JG(n:Nat)(l1:TO (SP)):(SQ×Int)->TN ((SQ×Int)⊕SQ):=fun(l3,v0) =>
br (decide (v0<(l1.length:Int))) (
gd (ck v0 l1.length) (
ob (l1[v0.toNat]?) fun(x3,x4,x10,x11) =>
ob (
bH (Kd n x3 x4) n (l3,0)) fun l2 =>
ob (NU n l2 n () x3) fun r0 =>
ob (NU n l2 n () x4) fun r1 =>
some (.inl ((jA l2 r0 r1),S6 (v0+1))))) (
some (.inr l3))
def MB(n:Nat)(l1:SQ)(l2:SO):TN ((Int×Int×Int×Int×Int) ⊕(TO (SP)×SQ)) :=
ob (Dl n l1 l2) fun r0 =>
br (!decide (r0=0)) (
some (.inl (0,0,0,0,r0))) (
ob (Iq n l1 l2) fun l3 =>
ob (
bH (JG n l3) n (([]:SQ),0)) fun l4 =>
some (.inr (l3,l4)))
def oC(r:SQ):Int:=(r.countP (fun p=>decide (p.1=p.2)):Nat)
def JE(_:Nat)(l1:SQ)(l5:SO):TN (Int×Int×Int×Int×Int) :=
 ob (MB 100000 l1 l5) fun s=>match s with
 | .inl x=>some x
 | .inr (l,r)=>gd (lim r.length) (some ((r.length:Int),(l.length:Int),(l5.length:Int),oC r,0))
end Go.Proofs.Ytmndpgfbkicndaa
namespace Go.Ab
open Go
section
variable{E:Env}{j j1:aN}{m m1:TS}{w w1:S5}
def Sim.same(h:MR E j m w)(hold:∀c,c<w.heap.size->w1.heap[c]? = w.heap[c]?)(hsize:w.heap.size<=w1.heap.size)(hcalm:iN E w w1):Sim E j m w j m w1 where
 ext:=.refl m
 le:=.refl j
 new:=fun b k h h'=>by simp[h'] at h
 mr:=⟨fun b k hb=>⟨(h.lt b k hb).1,QT (h.lt b k hb).2 hsize⟩,fun b o k ho hb=>by
  obtain⟨o',h1,h2⟩:=h.obj b o k ho hb;exact⟨o',(hold k.c (h.lt b k hb).2).trans h1,h2⟩,h.inj,h.glob⟩
 size:=hsize
 full:=fun b h h' _=>Q1 h (by omega)
 away:=fun _ _ _=>rfl
 fresh:=fun b k h h'=>by simp[h'] at h
 frame:=fun c hc _=>hold c hc
 calm:=hcalm
def rH(hE:EnvOk E){pr:T1->TN Prim}(h:∀f p,pr f=some p->E.cH f=some p\/∀args m v m',p.run args m=some (v,m')->∀(j:aN) (w:S5) (args':TO SX),MR E j m w->LR j args args'->gk E.P (E.cH f).isSome f args'.toArray w (iC E j m w v m')):EnvOk { E with cH:=pr}:=by
 refine⟨hE.call,hE.mixed,fun f p hp args m v m' hrun j w args' hm hl=>?_⟩;have hp':({ E with cH:=pr}:Env).cH f=some p:=hp;have hm0:MR E j m w:=MR.env (E:={ E with cH:=pr}) (E':=E) rfl hm;have key:∀v' w',iC E j m w v m' v' w'->iC { E with cH:=pr} j m w v m' v' w':=fun v' w' ⟨j',s,hv⟩=>⟨j',Sim.env (E:=E) rfl (fun e=>e) s,hv⟩;rcases h f p hp with h1|h1
 exact lN (fun _=>by rw[hp']; rfl) (hE.cH f p h1 args m v m' hrun j w args' hm0 hl) key
 exact lN (fun _=>by rw[hp']; rfl) (h1 args m v m' hrun j w args' hm0 hl) key
end
def Gw{j:aN}{l:TO SX}(h:∀x∈l,bB x=true):LR j l l :=
 ⟨rfl,fun i v hi=>⟨v,hi,VR.bB (h v (Q4 hi))⟩⟩
def yn{W W':S5}(hc:Calm W W')(hs:W.heap.size<=W'.heap.size)(hold:∀c,c<W.heap.size->W'.heap[c]? = W.heap[c]?):∃q os,W'=Sort.grow (W.drewN q) os:=by
 refine⟨W'.drawn-W.drawn,W'.heap.extract W.heap.size W'.heap.size,?_⟩;have hh:W'.heap=W.heap++W'.heap.extract W.heap.size W'.heap.size:=by
  apply SI;intro i;rw[Array.getElem?_append]
  split
  exact hold i ‹_›
  rw[Array.getElem?_extract]
  split
  congr 1; omega
  exact Array.getElem?_eq_none (by omega)
 obtain⟨h1,h2,h3,h4⟩:=hc;cases W; cases W';simp only[Sort.grow,World.drewN] at *;subst h1; subst h2; subst h3
 congr 1
 omega
def zU{E:Env}(hE:EnvOk E)(hmono:E.mono:=by trivial){f:T1}{args:TO SX}(hp:E.cH f=none){v:SX}(hpl:∀x∈args,bB x=true)(hv:bB v=true)
  (h:aI E f args (Di E.glob fun _=>none) fun v' _=>v'=v) {W:S5} (hW:E.glob<=W.heap.size) :
  Calls E.P f args.toArray W fun e W'=>e=.returned v/\∃q os,W'=Sort.grow (W.drewN q) os:=by
 obtain⟨v',m',⟨k,hr⟩,rfl⟩:=h;have hm:MR E (C5 E.glob) (Di E.glob fun _=>none) W:=It (QK _) hW fun b cs hb=>by cases hb
 refine callsIn_wide.1 ((px hE hr hp hm (Gw hpl)).mono ?_);rintro e W' ⟨v1,rfl,j',s,hv1⟩;rw[gq hv hv1];refine⟨rfl,yn ⟨s.calm.1,s.calm.2.1,s.calm.2.2.1,s.calm.2.2.2 hmono⟩ s.size fun c hc=>s.frame c hc fun b k hb hl _=>?_⟩;have:(Di E.glob fun _=>none).get b=none:=by simp[TS.get,Di,Heap.get_nil]
 rw[this] at hl; cases hl
def kP{w:S5}{B:Nat}{c:TW SX}{e:SY}{fz:Nat×Nat}(h:w.heap[B]? = some (.cells c e fz))(f:TW SX->TW SX):Sort.mapBlock w B f=w.putObj B (.cells (f c) e fz):=by
 unfold Sort.mapBlock World.putObj
 congr 1
 apply SI;intro i;rw[Array.getElem?_modify,Sl]
 by_cases hi:B=i
 subst hi;obtain⟨hlt,hv⟩:=QP.1 h;simp[hlt,hv,Sort.onCells]
 simp[hi]
def BL{E:Env}{j:aN}{m:TS}{w:S5}(h:MR E j m w){b:Nat}{k:Blk}(hk:j b=some k){cs cs':TO SX}{tag:Tag}(hg:m.get b=some (.cells cs tag))(hl:cs'.length=cs.length)(hp:cs'.all aP=true)(n:Nat)(os:TW Obj) :
  Sim E j m w j (m.set b (.cells cs' tag)) (Sort.grow (Sort.putRow id (Sort.ahead w n) k.c 0 cs'.toArray) os):=by
 obtain⟨c,e,fz,h1,h2,h3⟩:=h.fP hk hg;have s1:Sim E j m w j m (Sort.ahead w n):=Sim.of_heap h rfl ⟨rfl,rfl,rfl,Nat.le_add_right _ _⟩;have hle:cs.length<=c.size:=by
  cases tag with
  | ro=>exact SE h2.2.symm
  | own=>exact SE h2.2.1.symm
  | more sz=>exact h2.2.1
 have hor:OR j k (.cells cs' tag) (.cells (Sort.putCells id 0 cs'.toArray c) e fz):=by
  have hget:∀i,(Sort.putCells id 0 cs'.toArray c)[i]? = if i<cs'.length then(if i<c.size then some cs'[i]! else none) else c[i]?:=by
   intro i;simp only[Sort.putCells,Array.getElem?_mapIdx,RF,true_and,Ra,Sq,Sd,id]
   by_cases hi:i<c.size
   rw[Sf hi];simp only[QZ]
   by_cases hj:i<cs'.length
   simp[hj,hi]
   simp[hj]
   rw[Array.getElem?_eq_none (by omega)]
   simp[hi]
  refine⟨?_,fun i v hi=>?_⟩
  rw[show cs'.length=cs.length from hl]
  refine pj.put h2 (by simp[Sort.putCells]) fun i hi=>?_
  rw[hget,S8]
  have hlt:i<cs'.length:=(QU.1 hi).1;refine⟨v,?_,.aP (QS.1 hp v (Q4 hi))⟩;rw[hget,QH hlt,S9,Se,hi]; rfl
 have s2:=ig s1.mr hk (by rw[hg]; rfl) hor
 have e2:Sort.putRow id (Sort.ahead w n) k.c 0 cs'.toArray=(Sort.ahead w n).putObj k.c (.cells (Sort.putCells id 0 cs'.toArray c) e fz):=kP (w:=Sort.ahead w n) h1 _;rw[e2];refine(s1.trans h s2).trans h (Sim.same s2.mr (fun x hx=>?_) (by simp) ⟨rfl,rfl,rfl,fun _=>QK _⟩)
 show(_++_:TW Obj)[x]? = _
 rw[Array.getElem?_append,QH hx]
def xa{α:Type}[Inhabited α]{enc:α->TO SX}{k:Nat}(hk:∀x,(enc x).length=k)(h0:0<k):∀(l:TO α) (t:Nat),t<l.length*k->(l.map enc).flatten[t]! =(enc l[t/k]!)[t%k]!
 | [],t,h=>by simp at h
 | x::l,t,h=>by
  simp only[RQ,Rx];rw[Se,Sw]
  by_cases ht:t<k
  rw[QH (by rw[hk]; exact ht),Nat.div_eq_of_lt ht,R9 ht,<-Se]; rfl
  rw[QF (by rw[hk]; exact ht),hk,<-Se,xa hk h0 l (t-k) (by simp only[Rl,Sm,Nat.one_mul] at h; omega)]
  have e1:t/k=(t-k)/k+1:=by rw[Nat.div_eq_sub_div h0 (by omega)]
  have e2:t%k=(t-k)%k:=Nat.mod_eq_sub_mod (by omega)
  rw[e1,e2]; rfl
def cy{α:Type}{enc:α->TO SX}{k:Nat}(hk:∀x,(enc x).length=k):∀l:TO α,(l.map enc).flatten.length=l.length*k
 | []=>by simp
 | x::l=>by simp only[RQ,Rx,QV,Rl,hk,cy hk l,Sm,Nat.one_mul]; omega
def gz{α:Type}[Inhabited α]{enc:α->TO SX}{k:Nat}(hk:∀x,(enc x).length=k)(h0:0<k)(l:TO α):Sort.flatK enc k l.toArray=(l.map enc).flatten.toArray:=by
 refine Sort.ext_get! (by simp[cy hk]) fun t ht=>?_
 have ht':t<l.length*k:=by simpa using ht
 rw[Sort.get_flatK _ _ _ _ (by simpa using ht')]
 have:=xa hk h0 l t ht';simp at this ⊢;rw[this]
def uD{E:Env}{j:aN}{m:TS}{w:S5}(h:MR E j m w){b:Nat}{k:Blk}(hk:j b=some k){cs:TO SX}{tag:Tag}(hg:m.get b=some (.cells cs tag))(ht:tag≠.ro)(hp:cs.all aP=true) :
  Sort.Holds id w k.c 0 cs.toArray:=by
 obtain⟨c,e,fz,h1,h2,h3⟩:=h.fP hk hg;have hfz:fz=(0,0):=by
  cases tag with
  | ro=>exact Q1 rfl ht
  | own=>exact h2.2.2
  | more sz=>exact h2.2.2.1
 subst hfz;intro i hi;have hi':i<cs.length:=by simpa using hi
 obtain⟨v',g1,g2⟩:=h3 i cs[i] (QG hi');have:=fB (QS.1 hp _ (Q5 hi')) g2;subst this;refine⟨?_,?_⟩
 simp only[World.cell?,h1,Ra];simp[g1,hi']
 simp only[World.frozen?,h1]; simp
def AB{E:Env}{j:aN}{m:TS}{w:S5}(h:MR E j m w){b:Nat}{k:Blk}(hk:j b=some k){cs:TO SX}{tag:Tag}(hg:m.get b=some (.cells cs tag))(ht:tag≠.ro) :
  ∃cc:TO SX,LR j cs cc/\Sort.Holds id w k.c 0 cc.toArray:=by
 obtain⟨c,e,fz,h1,h2,h3⟩:=h.fP hk hg;have hfz:fz=(0,0):=by
  cases tag with
  | ro=>exact Q1 rfl ht
  | own=>exact h2.2.2
  | more sz=>exact h2.2.2.1
 have hle:cs.length<=c.size:=by
  cases tag with
  | ro=>exact Q1 rfl ht
  | own=>exact SE h2.2.1.symm
  | more sz=>exact h2.2.1
 subst hfz;have hl:(c.toList.take cs.length).length=cs.length:=by rw[QX]; exact Nat.min_eq_left (by simpa using hle)
 refine⟨c.toList.take cs.length,⟨hl.symm,fun i v hi=>?_⟩,fun i hi=>?_⟩
 obtain⟨v',g1,g2⟩:=h3 i v hi;have hlt:=(QU.1 hi).1;exact⟨v',by rw[RK,QH hlt]; simpa using g1,g2⟩
 have hi':i<cs.length:=by rw[Sq,hl] at hi; exact hi
 refine⟨?_,?_⟩
 simp only[World.cell?,h1,Ra];have hic:i<c.size:=by omega
 simp[hi',hic]
 simp only[World.frozen?,h1]; simp
def Ee{E:Env}{j:aN}{m:TS}{w:S5}(h:MR E j m w){b:Nat}{k:Blk}(hk:j b=some k){cs cs' cc':TO SX}{tag:Tag}(hg:m.get b=some (.cells cs tag))(hl:cs'.length=cs.length)(hp:LR j cs' cc')(n:Nat)(os:TW Obj) :
  Sim E j m w j (m.set b (.cells cs' tag)) (Sort.grow (Sort.putRow id (Sort.ahead w n) k.c 0 cc'.toArray) os):=by
 obtain⟨c,e,fz,h1,h2,h3⟩:=h.fP hk hg;have s1:Sim E j m w j m (Sort.ahead w n):=Sim.of_heap h rfl ⟨rfl,rfl,rfl,Nat.le_add_right _ _⟩;have hlc:cs'.length=cc'.length:=hp.1;have hle:cs.length<=c.size:=by
  cases tag with
  | ro=>exact SE h2.2.symm
  | own=>exact SE h2.2.1.symm
  | more sz=>exact h2.2.1
 have hor:OR j k (.cells cs' tag) (.cells (Sort.putCells id 0 cc'.toArray c) e fz):=by
  have hget:∀i,(Sort.putCells id 0 cc'.toArray c)[i]? = if i<cc'.length then(if i<c.size then some cc'[i]! else none) else c[i]?:=by
   intro i;simp only[Sort.putCells,Array.getElem?_mapIdx,RF,true_and,Ra,Sq,Sd,id]
   by_cases hi:i<c.size
   rw[Sf hi];simp only[QZ]
   by_cases hj:i<cc'.length
   simp[hj,hi]
   simp[hj]
   rw[Array.getElem?_eq_none (by omega)]
   simp[hi]
  refine⟨?_,fun i v hi=>?_⟩
  rw[show cs'.length=cs.length from hl]
  refine pj.put h2 (by simp[Sort.putCells]) fun i hi=>?_
  rw[hget,S8]
  have hlt:i<cs'.length:=(QU.1 hi).1;obtain⟨v',g1,g2⟩:=hp.2 i v hi;refine⟨v',?_,g2⟩;rw[hget,S9,S9,Se,g1]; rfl
 have s2:=ig s1.mr hk (by rw[hg]; rfl) hor
 have e2:Sort.putRow id (Sort.ahead w n) k.c 0 cc'.toArray=(Sort.ahead w n).putObj k.c (.cells (Sort.putCells id 0 cc'.toArray c) e fz):=kP (w:=Sort.ahead w n) h1 _;rw[e2];refine(s1.trans h s2).trans h (Sim.same s2.mr (fun x hx=>?_) (by simp) ⟨rfl,rfl,rfl,fun _=>QK _⟩)
 show(_++_:TW Obj)[x]? = _
 rw[Array.getElem?_append,QH hx]
end Go.Ab
namespace Go.Proofs
open Go.Shelf
def Try.Bi:Go.Shelf.Ren:=⟨fun|6=>51|15=>75|14=>74|28=>96|29=>97|20=>88|21=>89|22=>90|23=>91|24=>92|25=>93|26=>94|27=>95|46=>99|47=>100|48=>101|49=>102|50=>103|57=>104|n=>n,fun|22=>37|24=>44|25=>107|3=>3|39=>124|0=>0|53=>146|55=>148|4=>4|46=>140|45=>139|50=>72|5=>5|9=>9|66=>151|70=>155|76=>157|77=>90|n=>n,fun|n=>n⟩
def Try.AO:Go.Proofs.SlLaysF0.n6 Try.prog Try.Bi:={
 mixed:=by kernel_rfl
 f6:=⟨Try.f51.name,by decide,Try.func51.trans (Rf some (by kernel_rfl))⟩
 f14:=⟨Try.f74.name,by decide,Try.func74.trans (Rf some (by kernel_rfl))⟩
 f15:=Try.func75.trans (Rf some (by kernel_rfl))
 f20:=⟨Try.f88.name,by decide,Try.func88.trans (Rf some (by kernel_rfl))⟩
 f21:=⟨Try.f89.name,by decide,Try.func89.trans (Rf some (by kernel_rfl))⟩
 f22:=⟨Try.f90.name,by decide,Try.func90.trans (Rf some (by kernel_rfl))⟩
 f23:=⟨Try.f91.name,by decide,Try.func91.trans (Rf some (by kernel_rfl))⟩
 f24:=⟨Try.f92.name,by decide,Try.func92.trans (Rf some (by kernel_rfl))⟩
 f25:=⟨Try.f93.name,by decide,Try.func93.trans (Rf some (by kernel_rfl))⟩
 f26:=⟨Try.f94.name,by decide,Try.func94.trans (Rf some (by kernel_rfl))⟩
 f27:=⟨Try.f95.name,by decide,Try.func95.trans (Rf some (by kernel_rfl))⟩
 f28:=Try.func96.trans (Rf some (by kernel_rfl))
 f29:=Try.func97.trans (Rf some (by kernel_rfl))
 f46:=⟨Try.f99.name,by decide,Try.func99.trans (Rf some (by kernel_rfl))⟩
 f47:=Try.func100.trans (Rf some (by kernel_rfl))
 f48:=Try.func101.trans (Rf some (by kernel_rfl))
 f49:=⟨Try.f102.name,by decide,Try.func102.trans (Rf some (by kernel_rfl))⟩
 f50:=⟨Try.f103.name,by decide,Try.func103.trans (Rf some (by kernel_rfl))⟩
 f57:=⟨Try.f104.name,by decide,Try.func104.trans (Rf some (by kernel_rfl))⟩
 t0:=Try.underlying0
 a0:=Try.isAgg0
 z0:=Try.sizeOf0
 v0:=Try.zeroValue0
 t3:=Try.underlying3
 a3:=Try.isAgg3
 z3:=Try.sizeOf3
 v3:=Try.zeroValue3
 t4:=Try.underlying4
 a4:=Try.isAgg4
 z4:=Try.sizeOf4
 v4:=Try.zeroValue4
 t5:=Try.underlying5
 a5:=Try.isAgg5
 z5:=Try.sizeOf5
 v5:=Try.zeroValue5
 t9:=Try.underlying9
 a9:=Try.isAgg9
 z9:=Try.sizeOf9
 v9:=Try.zeroValue9
 t22:=Try.underlying37
 a22:=Try.isAgg37
 z22:=Try.sizeOf37
 v22:=Try.zeroValue37
 t25:=Try.underlying107
 a25:=Try.isAgg107
 z25:=Try.sizeOf107
 v25:=Try.zeroValue107
 t39:=Try.underlying124
 a39:=Try.isAgg124
 z39:=Try.sizeOf124
 v39:=Try.zeroValue124
 t45:=Try.underlying139
 a45:=Try.isAgg139
 z45:=Try.sizeOf139
 v45:=Try.zeroValue139
 t46:=Try.underlying140
 a46:=Try.isAgg140
 z46:=Try.sizeOf140
 v46:=Try.zeroValue140
 t50:=Try.underlying72
 a50:=Try.isAgg72
 z50:=Try.sizeOf72
 v50:=Try.zeroValue72
 t53:=Try.underlying146
 a53:=Try.isAgg146
 z53:=Try.sizeOf146
 v53:=Try.zeroValue146
 t55:=Try.underlying148
 a55:=Try.isAgg148
 z55:=Try.sizeOf148
 v55:=Try.zeroValue148
 t66:=Try.underlying151
 a66:=Try.isAgg151
 z66:=Try.sizeOf151
 v66:=Try.zeroValue151
 t70:=Try.underlying155
 a70:=Try.isAgg155
 z70:=Try.sizeOf155
 v70:=Try.zeroValue155
 t76:=Try.underlying157
 a76:=Try.isAgg157
 z76:=Try.sizeOf157
 v76:=Try.zeroValue157
 t77:=Try.underlying90
 a77:=Try.isAgg90
 z77:=Try.sizeOf90
 v77:=Try.zeroValue90}
end Go.Proofs
namespace Go.Proofs.Ytmndpgfbkicndaa
open Go Go.Ab Go.Ab.W
set_option maxRecDepth 10000
noncomputable def CL:Env:={ P:=Try.prog,glob:=0,cH:=fun _=>none,mono:=True}
def oz:EnvOk CL:=yq yL fun f p hp=>by cases hp
namespace W52
set_option maxHeartbeats 4000000
attribute [local irreducible] Tm.at Trie.set Trie.get TS.get TS.set TS.alloc TS.ww TS.kill
def P7(n:Nat)(x1:Int)(x2:Int)(x3:Int)(x4:Int)(x5:Int)(x6:Int)(x7:Int)(x8:Int):TN Int :=
ob (some (S6 ((S6 (120*(S6 (x1-x5))))+x2))) fun y11 =>
some (S6 (y11-x6))
def D6:∀b o,aD CL.P 44 (ptr b o) 0=some (ptr b (o+0)):=fun _ _=>by kernel_rfl
def cb:TyI CL.P 3 false 1:=⟨by kernel_rfl,by kernel_rfl,by kernel_rfl⟩
def Fm:∀b o,aD CL.P 44 (ptr b o) 1=some (ptr b (o+1)):=fun _ _=>by kernel_rfl
def Kq(n:Nat)(x1:Int)(x2:Int)(x3:Int)(x4:Int)(x5:Int)(x6:Int)(x7:Int)(x8:Int)  (r:Int)(hF:P7 n x1 x2 x3 x4 x5 x6 x7 x8=some r)(m:TS)  :
  aI CL 52 [.agg #[.int .i64 x1,.int .i64 x2,.int .i64 x3,.int .i64 x4],.agg #[.int .i64 x5,.int .i64 x6,.int .i64 x7,.int .i64 x8]] m (TQ m (.int .i64 r)):=by
 unfold P7 at hF;refine aQ (m0:=m) (ps:=[]) (N:=17) (rs:=[.tmp 4]) rfl Try.func52 rfl rfl rfl (Tp m) ?_;refine Td ?_;refine Te ?_;refine Ts (KZ rfl) gn rfl fun b9=>?_;refine Ts (KZ rfl) gn rfl fun b10=>?_;refine Tc (bC rfl) rfl ?_;refine Tk ?_;refine Tl ?_;refine Td ?_;refine Te ?_;refine Tc (aG (r:=ptr b9 0) rfl (D6 _ _)) rfl ?_;refine Tc (aH (k:=1) cb rfl rfl rfl) rfl ?_;refine Tc (aG (r:=ptr b10 0) rfl (D6 _ _)) rfl ?_;refine Tc (aH (k:=0) cb rfl rfl rfl) rfl ?_;refine Tc (aJ rfl rfl (cR _ _ _)) rfl ?_;refine Tc (aJ rfl rfl (dO _ _ _)) rfl ?_;refine Tc (aG (r:=ptr b9 1) rfl (Fm _ _)) rfl ?_;refine Tc (aH (k:=1) cb rfl rfl rfl) rfl ?_;obtain⟨y11,h12,hF⟩:=J hF;refine Tc (aJ rfl rfl ((bu _ _ _).trans (cI h12))) rfl ?_;refine Tc (aG (r:=ptr b10 1) rfl (Fm _ _)) rfl ?_;refine Tc (aH (k:=0) cb rfl rfl rfl) rfl ?_;refine Tc (aJ rfl rfl (cR _ _ _)) rfl ?_;refine Tc (bC rfl) rfl ?_;refine Tk ?_;refine Tl ?_;refine TF ?_;cases hF;exact Tt (.tmp rfl .nil) fun m' hm=>⟨(),rfl,(Ti [] rfl rfl) m' hm⟩
end W52
def uI(x y:fe):Int:=S6 (S6 (S6 (120*S6 (x.1-y.1))+x.2.1)-y.2.1)
def ur(x y:fe){W:S5} :
  Calls Try.prog 52 #[.agg (eQ x).toArray,.agg (eQ y).toArray] W fun e W'=>e=.returned (.int .i64 (uI x y))/\∃q os,W'=Sort.grow (W.drewN q) os :=
 zU (E:=CL) oz (hmono:=trivial) (f:=52) (args:=[.agg #[.int .i64 x.1,.int .i64 x.2.1,.int .i64 x.2.2.1,.int .i64 x.2.2.2],.agg #[.int .i64 y.1,.int .i64 y.2.1,.int .i64 y.2.2.1,.int .i64 y.2.2.2]]) rfl (by intro v hv; simp at hv; rcases hv with rfl|rfl<;>rfl) rfl
  ((W52.Kq 5 x.1 x.2.1 x.2.2.1 x.2.2.2 y.1 y.2.1 y.2.2.1 y.2.2.2 (uI x y) rfl _).mono fun v m' ⟨_,h,_⟩=>h) (RF _)
def qR{x:Int}(h1 : -1000000<=x)(h2:x<=1000000):S6 x=x:=by
 simp only[IntKind.wrap,IntKind.bits,IntKind.signed]
 show(if(true&&decide (x%18446744073709551616≥9223372036854775808))=true then x%18446744073709551616-18446744073709551616 else x%18446744073709551616)=x
 simp only[RE,QR]
 split<;>omega
def tE(x:fe):Prop:=0<=x.1/\x.1<120/\0<=x.2.1/\x.2.1<120
def EN{x y:fe}(hx:tE x)(hy:tE y):uI x y=120*(x.1-y.1)+x.2.1-y.2.1:=by
 obtain⟨a1,a2,a3,a4⟩:=hx;obtain⟨b1,b2,b3,b4⟩:=hy;unfold uI;rw[qR (x:=x.1-y.1) (by omega) (by omega),qR (x:=120*(x.1-y.1)) (by omega) (by omega),qR (x:=120*(x.1-y.1)+x.2.1) (by omega) (by omega),qR (by omega) (by omega)]
def E7{x y:fe}(hx:tE x)(hy:tE y):uI x y<0↔x.1<y.1\/x.1=y.1/\x.2.1<y.2.1:=by
 rw[EN hx hy];obtain⟨a1,a2,a3,a4⟩:=hx;obtain⟨b1,b2,b3,b4⟩:=hy;omega
def B0(w:S5):(isAgg 44).run Try.prog w=.ok true w:=by rw[mG (by kernel_rfl) w,show dD Try.prog 44=true by kernel_rfl]
def yz(w:S5):(Go.sizeOf 44).run Try.prog w=.ok 4 w:=by rw[cn (by kernel_rfl) w,show aB Try.prog 44=4 by kernel_rfl]
def B5:∀args w,(callFunc 52 args).run Try.prog w=.ok (.enter 52 args) w:=fun args w=>oz.call 52 _ _ Try.func52 rfl args w
end Go.Proofs.Ytmndpgfbkicndaa
namespace Go.Proofs
open Go.Shelf
def Try.F3:Go.Shelf.Ren:=⟨fun|45=>85|n=>n,fun|22=>52|23=>51|3=>3|4=>4|0=>0|n=>n,fun|n=>n⟩
def Try.PX:Go.Proofs.SlLaysE.n45 Try.prog Try.F3:={
 mixed:=by kernel_rfl
 f45:=⟨Try.f85.name,by decide,Try.func85.trans (Rf some (by kernel_rfl))⟩
 t0:=Try.underlying0
 a0:=Try.isAgg0
 z0:=Try.sizeOf0
 v0:=Try.zeroValue0
 t3:=Try.underlying3
 a3:=Try.isAgg3
 z3:=Try.sizeOf3
 v3:=Try.zeroValue3
 t4:=Try.underlying4
 a4:=Try.isAgg4
 z4:=Try.sizeOf4
 v4:=Try.zeroValue4
 t22:=Try.underlying52
 a22:=Try.isAgg52
 z22:=Try.sizeOf52
 v22:=Try.zeroValue52
 a23:=Try.isAgg51
 z23:=Try.sizeOf51}
def Try.Ep:Go.Shelf.Ren:=⟨fun|45=>48|n=>n,fun|22=>51|23=>3|3=>3|4=>4|0=>0|n=>n,fun|n=>n⟩
def Try.O6:Go.Proofs.SlLaysE.n45 Try.prog Try.Ep:={
 mixed:=by kernel_rfl
 f45:=⟨Try.f48.name,by decide,Try.func48.trans (Rf some (by kernel_rfl))⟩
 t0:=Try.underlying0
 a0:=Try.isAgg0
 z0:=Try.sizeOf0
 v0:=Try.zeroValue0
 t3:=Try.underlying3
 a3:=Try.isAgg3
 z3:=Try.sizeOf3
 v3:=Try.zeroValue3
 t4:=Try.underlying4
 a4:=Try.isAgg4
 z4:=Try.sizeOf4
 v4:=Try.zeroValue4
 t22:=Try.underlying51
 a22:=Try.isAgg51
 z22:=Try.sizeOf51
 v22:=Try.zeroValue51
 a23:=Try.isAgg3
 z23:=Try.sizeOf3}
end Go.Proofs
namespace Go.Ab
open Go
section
variable{E:Env}{j:aN}{m:TS}{w:S5}
def VR.at{b o l c:Nat}{v':SX}(h:VR j (.slice (some ⟨b,o,none⟩) l c) v'):∃k c',j b=some k/\v'=.slice (some ⟨k.c,o,none⟩) l c':=by
 cases h with
 | slice hj hm=>exact⟨_,_,hj,rfl⟩
 | sliceM hj hm _ _ _ _=>exact⟨_,_,hj,rfl⟩
end
end Go.Ab
namespace Go.Proofs.Ytmndpgfbkicndaa
open Go Go.Ab Go.Ab.W
set_option maxRecDepth 10000
def p7:∀l:TO fe,cu (l.map eQ).flatten=some l
 | []=>rfl
 |(a,b,c,d)::l=>by
  show(cu (l.map eQ).flatten).map _=_
  rw[p7 l]; rfl
def wG:∀{cs:TO SX} {l:TO fe},cu cs=some l->cs=(l.map eQ).flatten:=by
 intro cs
 induction cs using cu.induct with
 | case1=>intro l h; cases h; rfl
 | case2 a b c d r ih =>
  intro l h;have h':(cu r).map ((a,b,c,d)::·)=some l:=h;cases hr:cu r with
  | none=>rw[hr] at h'; cases h'
  | some l' =>
   rw[hr] at h'; cases h';rw[ih hr]; rfl
 | case3 cs h1 h2 =>
  intro l h;unfold cu at h
  split at h
  exact Q1 rfl h1
  rename_i a b c d r;exact Q1 rfl (h2 a b c d r)
  cases h
def nI(l:TO fe):((l.map eQ).flatten).all aP=true:=by
 induction l with
 | nil=>rfl
 | cons x l ih=>rw[RQ,Rx,SK,ih]; rfl
def lZ{m:TS}{w b n n':Nat}{cs:TO SX}{tg:Tag}(h:gh m w b n n'=some (cs,tg)):m.get b=some (.cells cs tg)/\tg≠.ro/\n=n'/\cs.length=n*w/\(tg=.own\/tg=.more w):=by
 unfold gh at h
 split at h
 rename_i cs' hg
 split at h
 rename_i hc; cases h; exact⟨hg,(by intro e; cases e),hc.1,hc.2,.inl rfl⟩
 cases h
 rename_i cs' k hg
 split at h
 rename_i hc; cases h; exact⟨hg,(by intro e; cases e),hc.1,hc.2.1,.inr (by rw[hc.2.2])⟩
 cases h
 cases h
def zx{j:aN}{f:T1}{xs ys:TW SX}{v:SX}(h:VR j (.func (.func f) xs ys) v)(h1:xs.size=0)(h2:ys.size=0):v=.func (.func f) #[] #[]:=by
 cases h with
 | @func _ _ ys' _ ds a _ c _ =>
  have e1:ys'=#[]:=Su (a.symm.trans h1);have e2:ds=#[]:=Su (c.symm.trans h2);rw[e1,e2]
def nW{n:Nat}(h:lim n=true):n<=1073741824:=RH h
def sD{l:TO fe}(h:rG l=true):(∀x∈l,tE x)/\(l.map fun x=>(x.1,x.2.1)).Nodup:=by
 unfold rG at h;simp only[QJ,QR] at h;refine⟨fun x hx=>?_,h.2⟩;have:=QS.1 h.1 x hx;simp only[QJ,QR] at this;exact⟨this.1.1.1,this.1.1.2,this.1.2,this.2⟩
section
variable(l:TO fe)
abbrev Pl:={ x:fe // x∈l}
def xW(x y:Pl l):Int:=uI x.1 y.1
variable{l}
def OO(hl:∀x∈l,tE x)(x y:Pl l):Go.Proofs.ltOf (xW l) x y=decide (x.1.1<y.1.1\/x.1.1=y.1.1/\x.1.2.1<y.1.2.1):=by
 unfold Go.Proofs.ltOf xW
 congr 1
 exact propext (E7 (hl _ x.2) (hl _ y.2))
def Ns(hl:∀x∈l,tE x):Go.Sort.SWO (Go.Proofs.ltOf (xW l)) where
 irrefl x:=by rw[OO hl]; simp
 trans x y z h1 h2:=by rw[OO hl] at *; simp only[QR] at *; omega
 ntrans x y z h1 h2:=by rw[OO hl] at *; simp only[decide_eq_false_iff_not] at *; omega
def mX{α β:Type}{f:α->β}:∀{l:TO α},(l.map f).Nodup->∀{x y:α},x∈l->y∈l->f x=f y->x=y
 | [],_,_,_,hx,_,_=>by cases hx
 | a::l,h,x,y,hx,hy,e=>by
  rw[RQ] at h;obtain⟨h1,h2⟩:=Sb.1 h;rcases QY.1 hx with ex|hx
  rcases QY.1 hy with ey|hy
  rw[ex,ey]
  exact Q1 (Rj.2 ⟨y,hy,by rw[<-e,ex]⟩) h1
  rcases QY.1 hy with ey|hy
  exact Q1 (Rj.2 ⟨x,hx,by rw[e,ey]⟩) h1
  exact mX h2 hx hy e
def NB(hl:∀x∈l,tE x)(hn:(l.map fun x=>(x.1,x.2.1)).Nodup)(x y:Pl l)(h1:Go.Proofs.ltOf (xW l) x y=false)(h2:Go.Proofs.ltOf (xW l) y x=false):x=y:=by
 rw[OO hl] at h1 h2;simp only[decide_eq_false_iff_not] at h1 h2;exact Subtype.ext (mX hn x.2 y.2 (Rz (by simp only; omega) (by simp only; omega)))
end
def GX{α β:Type}(f:α->β)(le:β->β->Bool):∀(n:Nat) (l:TO α),l.length=n->(l.mergeSort (fun x y=>le (f x) (f y))).map f=(l.map f).mergeSort le:=fun _ l _=>List.map_mergeSort (fun _ _ _ _=>rfl)
def H8{l:TO fe}(hl:∀x∈l,tE x):(fun x y:Pl l=>!(Go.Proofs.ltOf (xW l)) y x)=fun x y=>dS x.1 y.1:=by
 funext x y
 rw[OO hl]; unfold dS;rw[<-decide_not]
 congr 1
 apply propext; omega
def vI:∀args w,(callFunc 51 args).run Try.prog w=.ok (.enter 51 args) w:=fun args w=>oz.call 51 _ _ Try.func51 rfl args w
def xY{p q:TN Prim}{pr:Bool}{args:TO SX}{m m':TS}{v:SX}(h:kq args m=some (v,m')){j:aN}{w:S5}{args':TO SX}(hm:MR (TV p q) j m w)(hl:LR j args args') :
  gk (TV p q).P pr 51 args'.toArray w (iC (TV p q) j m w v m'):=by
 unfold kq at h
 split at h
 rename_i c xs ys
 split at h
 rename_i hc; cases h;obtain⟨v0,vs,rfl,h1,hvs⟩:=hl.cons_inv;obtain⟨v1,v2,rfl,h2,h3⟩:=hvs.cons_inv;obtain rfl:=h3.da;have e2:=zx h2 hc.1 hc.2;subst e2;cases h1;have hcon:=Go.Proofs.AnyF.slices_SortFunc_none Try.AO none c (.func (.func 52) #[] #[]) w
 change Calls Try.prog 51 _ _ _ at hcon
 refine .inl ⟨vI _ _,callsIn_wide.2 ?_⟩;refine Calls.mono hcon ?_;rintro e w' ⟨rfl,rfl⟩;exact⟨_,rfl,j,.refl hm,VR.undef j⟩
 cases h
 rename_i b n n' xs ys
 split at h
 rename_i cs tg hcs;obtain⟨hg,htg,rfl,hcl,_⟩:=lZ hcs
 split at h
 rename_i l h7
 split at h
 rename_i hc; cases h;obtain⟨⟨h8,h9⟩,hlim,hok⟩:=hc;obtain⟨h4,h10⟩:=sD hok;obtain⟨v0,vs,rfl,h1,hvs⟩:=hl.cons_inv;obtain⟨v1,v2,rfl,h2,h3⟩:=hvs.cons_inv;obtain rfl:=h3.da;have e2:=zx h2 h8 h9;subst e2;obtain⟨k,c',hk,rfl⟩:=h1.at
 have ecs:=wG h7;have hp:cs.all aP=true:=by rw[ecs]; exact nI l
 have h5:∀x:fe,(eQ x).length=4:=fun _=>rfl;have hlen:l.length=n:=by
  have:=cy h5 l;rw[<-ecs,hcl] at this; omega
 by_cases hnil:l=[]
 
 subst hnil;have h11:n=0:=by rw[<-hlen]; rfl
 have h12:cs=[]:=ecs;subst h11 h12;have:Inhabited (Pl [((0,0,0,0):fe)]):=⟨⟨(0,0,0,0),QW.2 rfl⟩⟩;have h6:∀x∈[((0,0,0,0):fe)],tE x:=fun x hx=>by rw[QW.1 hx]; exact⟨by decide,by decide,by decide,by decide⟩
 have h0:∀x:Pl [((0,0,0,0):fe)],(eQ x.1).length=4:=fun _=>rfl;have hH:Go.Sort.HoldsK (fun x:Pl [((0,0,0,0):fe)]=>eQ x.1) 4 w k.c 0 ([]:TO (Pl [((0,0,0,0):fe)])).toArray:=by
  unfold Go.Sort.HoldsK;rw[gz h0 (by decide)]
  exact uD hm hk hg htg rfl
 have hcon:=Go.Proofs.AnyQ.slices_SortFunc_total Try.AO 4 (fun w=>B0 w) (fun w=>yz w) (fun x:Pl [((0,0,0,0):fe)]=>eQ x.1) h0 (fun x v hv=>by simp[eQ,eP,eI] at hv; rcases hv with rfl|rfl|rfl|rfl<;>rfl) (xW _) (Ns h6) 52 #[] k.c 0 c' ([]:TO (Pl [((0,0,0,0):fe)])).toArray w B5
  (fun m os dk _ x y=>ur x.1 y.1) hH (hm.lt b k hk).2 (by simp) (NB h6 (by decide))
 change Calls Try.prog 51 _ _ _ at hcon
 simp only[Sq,List.length_nil] at hcon;refine .inl ⟨vI _ _,callsIn_wide.2 ?_⟩;refine Calls.mono hcon ?_;rintro e w' ⟨rfl,q,os,rfl⟩;refine⟨_,rfl,j,?_,VR.undef j⟩;unfold Go.Proofs.sortWorldK Go.Sort.putRowK;rw[gz h0 (by decide)]
 rw[List.mergeSort_nil,List.mergeSort_nil];exact BL hm hk hg rfl rfl q os
 have:Inhabited (Pl l):=⟨⟨l.head hnil,List.head_mem hnil⟩⟩;have h0:∀x:Pl l,(eQ x.1).length=4:=fun _=>rfl;have eat:(l.attach.map fun x:Pl l=>eQ x.1)=l.map eQ:=by
  rw[show(fun x:Pl l=>eQ x.1)=eQ ∘ Subtype.val from rfl,<-List.map_map,List.attach_map_subtype_val]
 have hH:Go.Sort.HoldsK (fun x:Pl l=>eQ x.1) 4 w k.c 0 l.attach.toArray:=by
  unfold Go.Sort.HoldsK;rw[gz h0 (by decide),eat,<-ecs]
  exact uD hm hk hg htg hp
 have hcon:=Go.Proofs.AnyQ.slices_SortFunc_total Try.AO 4 (fun w=>B0 w) (fun w=>yz w) (fun x:Pl l=>eQ x.1) h0 (fun x v hv=>by simp[eQ,eP,eI] at hv; rcases hv with rfl|rfl|rfl|rfl<;>rfl) (xW l) (Ns h4) 52 #[] k.c 0 c' l.attach.toArray w B5
  (fun m os dk _ x y=>ur x.1 y.1) hH (hm.lt b k hk).2 (by have:=nW hlim; simp; omega) (NB h4 h10)
 change Calls Try.prog 51 _ _ _ at hcon
 rw[H8 h4] at hcon;simp only[Sq,List.length_attach,hlen] at hcon;refine .inl ⟨vI _ _,callsIn_wide.2 ?_⟩;refine Calls.mono hcon ?_;rintro e w' ⟨rfl,q,os,rfl⟩;refine⟨_,rfl,j,?_,VR.undef j⟩;unfold Go.Proofs.sortWorldK Go.Sort.putRowK;rw[gz h0 (by decide)]
 have e0:((l.attach.mergeSort fun x y:Pl l=>dS x.1 y.1).map fun x:Pl l=>eQ x.1)=(l.mergeSort dS).map eQ:=by
  rw[show(fun x:Pl l=>eQ x.1)=eQ ∘ Subtype.val from rfl,<-List.map_map,GX Subtype.val dS _ _ rfl,List.attach_map_subtype_val]
 rw[e0];exact BL hm hk hg (by rw[cy h5,hcl,List.length_mergeSort,hlen]) (nI _) q os
 cases h
 cases h
 cases h
 cases h
abbrev C1:={ v:SX // v.oneCell'=true}
instance:Inhabited C1:=⟨⟨.slice none 0 0,rfl⟩⟩
def Lp{j:aN}{v v':SX}(h:VR j v v')(hv:j8 v=true):v'.oneCell'=true:=by
 have h1:=rU h hv;cases v'<;>first|rfl|cases h1
def Fw{j:aN}{cs cc:TO SX}(h:LR j cs cc)(ho:cs.all j8=true):∃l:TO C1,l.map Subtype.val=cc:=by
 have h1:∀v∈cc,v.oneCell'=true:=fun v hv=>by
  obtain⟨i,hi⟩:=List.mem_iff_getElem?.1 hv;have hl:i<cs.length:=by rw[h.1]; exact(QU.1 hi).1
  obtain⟨v',g1,g2⟩:=h.2 i cs[i] (QG hl);rw[hi] at g1; cases g1;exact Lp g2 (QS.1 ho _ (Q5 hl))
 exact⟨cc.attach.map fun x=>⟨x.1,h1 x.1 x.2⟩,by rw[List.map_map]; exact List.attach_map_subtype_val cc⟩
def DH{j:aN}{a a' b b':TO SX}(h:LR j a a')(g:LR j b b'):LR j (a++b) (a'++b'):=by
 refine⟨by rw[QV,QV,h.1,g.1],fun i v hi=>?_⟩
 by_cases hc:i<a.length
 rw[Sw,QH hc] at hi;rw[Sw,QH (by have:=h.1; omega)]
 exact h.2 i v hi
 rw[Sw,QF hc] at hi;rw[Sw,QF (by have:=h.1; omega),<-h.1]
 exact g.2 _ v hi
def HI{j:aN}{a a':TO SX}(h:LR j a a')(n:Nat):LR j (a.take n) (a'.take n):=by
 refine⟨by rw[QX,QX,h.1],fun i v hi=>?_⟩
 rw[RK] at hi ⊢
 split at hi
 rename_i hc; rw[QH hc]; exact h.2 i v hi
 cases hi
def Ik{j:aN}{a a':TO SX}(h:LR j a a')(n:Nat):LR j (a.drop n) (a'.drop n):=by
 refine⟨by rw[Rt,Rt,h.1],fun i v hi=>?_⟩
 rw[RL] at hi ⊢;exact h.2 _ v hi
def KF{j:aN}{z z':SX}(h:VR j z z')(n:Nat):LR j (List.replicate n z) (List.replicate n z'):=by
 refine⟨by simp,fun i v hi=>?_⟩
 rw[List.getElem?_replicate] at hi
 split at hi
 rename_i hc; cases hi;exact⟨z',by rw[List.getElem?_replicate,QH hc],h⟩
 cases hi
def VR.MY{E:Env}{j:aN}{m:TS}{w:S5}(hm:MR E j m w){b n:Nat}{cs:TO SX}{tg:Tag}(hg:m.get b=some (.cells cs tg))(htg:tg≠.ro)(hlim:lim n=true){v':SX}(h:VR j (.slice (some ⟨b,0,none⟩) n n) v') :
  ∃k c',j b=some k/\v'=.slice (some ⟨k.c,0,none⟩) n c'/\(n<=c'/\c'<=9223372036854775807)/\∀x,x<=n->VR j (.slice (some ⟨b,0,none⟩) x n) (.slice (some ⟨k.c,0,none⟩) x c'):=by
 have hll:=nW hlim;cases h with
 | slice hj hmo=>exact⟨_,_,hj,rfl,⟨QK _,by omega⟩,fun x _=>.slice hj hmo⟩
 | sliceM hj hmo a1 a2 a3 a4 =>
  rename_i c' sz na nc k;obtain⟨c0,e0,fz,g1,g2,g3⟩:=hm.fP hj hg;cases tg with
  | ro=>exact Q1 rfl htg
  | own=>have:k.more=none:=g2.1; rw[hmo] at this; cases this
  | more sz' =>
   obtain⟨d1,d2,rfl,d4,d5⟩:k.more=some (sz',cs.length,c0.size)/\cs.length<=c0.size/\fz=(0,0)/\0<sz'/\hY sz' c0:=g2;rw[hmo] at d1;simp only[Option.some.injEq,Prod.mk.injEq] at d1;obtain⟨rfl,rfl,rfl⟩:=d1;refine⟨k,c',hj,rfl,⟨a4,?_⟩,fun x hx=>.sliceM hj hmo a1 a2 hx a4⟩;unfold hY at d5;rw[<-a2,RV,Nat.mul_comm] at d5;exact Nat.le_of_mul_le_mul_left d5 d4
def ru{p q:TN Prim}{pr:Bool}{f:T1}{z:SX}{ρ:Go.Shelf.Ren}(L:Go.Proofs.SlLaysE.n45 Try.prog ρ)(hf:ρ.f 45=f)(F:Func)(c:Code)(hF:Try.prog.funcs[f]? = some F)(hb:F.body=some c)(h0:z.oneCell'=true)(hzr:∀j,VR j z z)
  (v0:∀w,(Go.zeroValue (ρ.t 23)).run Try.prog w=.ok z w) (i0:TypeInfo) (h1:Try.prog.info? (ρ.t 23)=some i0) (h2:i0.size=1)
  {args:TO SX} {m m':TS} {v:SX} (h:jv z args m=some (v,m')) {j:aN} {w:S5} {args':TO SX} (hm:MR (TV p q) j m w) (hl:LR j args args') :
  gk (TV p q).P pr f args'.toArray w (iC (TV p q) j m w v m'):=by
 unfold jv at h
 split at h
 rename_i b n n' i k
 split at h
 rename_i cs tg hcs;obtain⟨hg,htg,rfl,hcl,_⟩:=lZ hcs
 split at h
 rename_i hc; cases h;obtain⟨hi0',hik,hkn,hlim,hone⟩:=hc;obtain⟨v1,vs,rfl,h3,hvs⟩:=hl.cons_inv;obtain⟨v2,v3,rfl,h4,h5⟩:=hvs.cons_inv;obtain⟨v4,v5,rfl,h6,h7⟩:=h5.cons_inv;obtain rfl:=h7.da;obtain⟨kb,c',hk,rfl,hcap,hres⟩:=VR.MY hm hg htg hlim h3;cases h4;cases h6;obtain⟨i,rfl⟩:=Sp hi0';obtain⟨k,rfl⟩:=Sp (show 0<=k by omega)
 simp only[Int.ofNat_le,Rb] at *;obtain⟨cc,hcc,hH⟩:=AB hm hk hg htg;obtain⟨d,rfl⟩:=Fw hcc hone;have hdl:d.length=n:=by have:=hcc.1; rw[Q0] at this; omega
 have eH:∀(w:S5) (l:TO C1),Go.Sort.Holds id w kb.c 0 (l.map Subtype.val).toArray->Go.Sort.Holds (Subtype.val:C1->SX) w kb.c 0 l.toArray:=by
  intro w l h i hi;have hi':i<l.length:=by simpa using hi
  have:=h i (by simpa using hi')
  simpa [hi'] using this
 have hcon:=Go.Proofs.AnyE.slices_Delete L (Subtype.val:C1->SX) (fun x=>x.2) ⟨z,h0⟩ v0 i0 h1 h2 kb.c 0 c' i k d.toArray w (eH _ _ hH) (by simp[hdl]; exact hcap.1) hcap.2 hik (by simp[hdl]; exact hkn)
 rw[hf] at hcon;simp only[Sq,hdl] at hcon;have hent:∀args w,(callFunc f args).run Try.prog w=.ok (.enter f args) w:=fun args w=>oz.call f F c hF hb args w;refine .inl ⟨hent _ _,callsIn_wide.2 ?_⟩;refine Calls.mono hcon ?_;rintro e w' ⟨rfl,q,rfl⟩;refine⟨_,rfl,j,?_,hres _ (Nat.sub_le _ _)⟩;have e0:Go.Sort.putRow (Subtype.val:C1->SX) (Sort.ahead w q) kb.c 0 (d.take i++d.drop k++List.replicate (k-i) (⟨z,h0⟩:C1)).toArray=Go.Sort.putRow id (Sort.ahead w q) kb.c 0 ((d.map Subtype.val).take i++(d.map Subtype.val).drop k++List.replicate (k-i) z).toArray:=by
  have e2:∀l:TO C1,Go.Sort.putRow (Subtype.val:C1->SX) (Sort.ahead w q) kb.c 0 l.toArray=Go.Sort.putRow id (Sort.ahead w q) kb.c 0 (l.map Subtype.val).toArray:=fun l=>by
   unfold Go.Sort.putRow Go.Sort.putCells
   congr 1
   funext c
   congr 1
   funext x v
   simp only[Sq,Q0,id]
   by_cases hx:0<=x/\x<0+l.length
   simp[show x<l.length by omega]
   rw[QF hx,QF hx]
  rw[e2];simp[List.map_take,List.map_drop]
 rw[e0,<-Sort.grow_empty (Go.Sort.putRow id _ _ _ _)];exact Ee hm hk hg (by simp; omega) (DH (DH (HI hcc _) (Ik hcc _)) (KF (hzr j) _)) q #[]
 cases h
 cases h
 cases h
end Go.Proofs.Ytmndpgfbkicndaa
namespace Go.Proofs
open Go.Shelf
def Try.fM:Go.Shelf.Ren:=⟨fun|21=>49|27=>71|28=>72|35=>87|39=>46|n=>n,fun|22=>51|3=>3|4=>4|0=>0|n=>n,fun|n=>n⟩
def Try.FV:Go.Proofs.Lays2.n21 Try.prog Try.fM:={
 mixed:=by kernel_rfl
 f21:=Try.func49.trans (Rf some (by kernel_rfl))
 f27:=Try.func71.trans (Rf some (by kernel_rfl))
 f28:=Try.func72.trans (Rf some (by kernel_rfl))
 f35:=Try.func87.trans (Rf some (by kernel_rfl))
 f39:=Try.func46.trans (Rf some (by kernel_rfl))
 t0:=Try.underlying0
 a0:=Try.isAgg0
 z0:=Try.sizeOf0
 v0:=Try.zeroValue0
 t3:=Try.underlying3
 a3:=Try.isAgg3
 z3:=Try.sizeOf3
 v3:=Try.zeroValue3
 t4:=Try.underlying4
 a4:=Try.isAgg4
 z4:=Try.sizeOf4
 v4:=Try.zeroValue4
 t22:=Try.underlying51
 a22:=Try.isAgg51
 z22:=Try.sizeOf51
 v22:=Try.zeroValue51
 i3:=by kernel_rfl}
end Go.Proofs
namespace Go.Proofs.Ytmndpgfbkicndaa
section
open Go Go.Ab Go.Ab.W
set_option maxRecDepth 10000
def yC{w:S5}{b o:Nat}{c:TW SX}{e:SY}{fz:Nat×Nat}{v:SX}(h:w.heap[b]? = some (.cells c e fz)):w.setCell ⟨b,o,none⟩ v=w.putObj b (.cells (c.setIfInBounds o v) e fz):=by
 unfold World.setCell World.putObj
 congr 1
 apply SI;intro i;rw[Array.getElem?_modify,Sl]
 by_cases hb:b=i
 subst hb;rw[QH rfl,QH rfl,h];have:=(QP.1 h).1;rw[QH this]; rfl
 rw[QF hb,QF hb]
def dy(c:TO SX)(o:Nat)(v:SX)(vs:TO SX)(ho:o+vs.length+1<=c.length):ay (c.set o v) (o+1) vs=ay c o (v::vs):=by
 apply RG;intro i;rw[aL,aL,SB,Rl,List.getElem?_set]
 by_cases h1:i=o
 subst h1;rw[S8,QH rfl,S9,S9,SN]; rfl
 by_cases h2:o+1<=i/\i<o+1+vs.length/\i<c.length
 rw[QH h2,S9,show i-o=(i-(o+1))+1 by omega]; rfl
 rw[QF h2,S8,S8]
def eD:∀(vs:TO SX) (o:Nat) {w:S5} {b:Nat} {c:TW SX} {e:SY} {fz:Nat×Nat},w.heap[b]? = some (.cells c e fz)->o+vs.length<=c.size->w.setCells b o vs=w.putObj b (.cells (ay c.toList o vs).toArray e fz)
 | [],o,w,b,c,e,fz,h,_=>by
  have:ay c.toList o []=c.toList:=by
   apply RG;intro i;rw[aL,QF (by simp; omega)]
  rw[this];exact(lb h).symm
 | v::vs,o,w,b,c,e,fz,h,hl=>by
  have hb:=(QP.1 h).1;rw[Rl] at hl
  show(w.setCell ⟨b,o,none⟩ v).setCells b (o+1) vs=_
  rw[yC h,eD vs (o+1) (World.putObj_heap_same hb) (by simp; omega),jC]
  congr 3
  rw[Array.toList_setIfInBounds,dy];simp; omega
def Ax{c:TO SX}{cs:TO SX}{i:Nat}{v:SX}(hc:∀(x:Nat) (u:SX),cs[x]? = some u->c[x]? = some u)(hi:i<=cs.length)(hl:cs.length+1<=c.length) :
  ∀(x:Nat) (u:SX),(cs.take i++v::cs.drop i)[x]? = some u->(ay (ay c (i+1) (cs.drop i)) i [v])[x]? = some u:=by
 intro x u hx;rw[aL,aL,aW];have hlt:(cs.take i).length=i:=by rw[QX]; omega
 by_cases h1:x<i
 rw[Rp (by omega),RK,QH h1] at hx
 rw[S8,S8]
 exact hc x u hx
 rw[Rk (by omega),hlt] at hx
 by_cases h2:x=i
 subst h2;rw[SN] at hx;rw[QH (by simp; omega),SN]; exact hx
 obtain⟨y,rfl⟩:∃y,x=i+1+y:=⟨x-(i+1),by omega⟩
 rw[show i+1+y-i=y+1 by omega,Rm] at hx
 have hy:=(QU.1 hx).1;rw[Rt] at hy;rw[QF (by simp; omega),QH (by simp; omega),show i+1+y-(i+1)=y by omega]
 exact hx
def xF{w:S5}{need old:Nat}{e:SY}(h:need<=1073741825):need<=grownCap w need old e/\grownCap w need old e<=9223372036854775807:=by
 unfold grownCap
 show need<=need+_%(2 ^ 63-need)/\need+_%(2 ^ 63-need)<=_
 have:=Ru (w.tape w.drawn (.appendCap need old e)) (show 0<2 ^ 63-need by omega)
 omega
def HV{ty:SY}{w:S5}{A:TW SX}{i m:Nat}{vs ds:TO SX}(h1:i+vs.length<=A.size)(h2:i+m+ds.length<=A.size) :
  ((((w.alloc (.cells A ty)).drew.setCells w.heap.size i vs).drew).setCells w.heap.size (i+m) ds)=w.drew.drew.alloc (.cells (ay (ay A.toList i vs) (i+m) ds).toArray ty):=by
 have hp:(w.alloc (.cells A ty)).heap[w.heap.size]? = some (.cells A ty (0,0)):=by unfold World.alloc; simp
 have hb:w.heap.size<(w.alloc (.cells A ty)).heap.size:=(QP.1 hp).1;rw[eD (w:=(w.alloc (.cells A ty)).drew) vs i hp h1];have hp2:((w.alloc (.cells A ty)).drew.putObj w.heap.size (.cells (ay A.toList i vs).toArray ty (0,0))).drew.heap[w.heap.size]? = some (.cells (ay A.toList i vs).toArray ty (0,0)):=World.putObj_heap_same hb;rw[eD ds (i+m) hp2 (by simp[aW]; omega)]
 unfold World.alloc World.putObj World.drew;simp;apply SI;intro x;rw[Sl,Si,Si]
 by_cases hx:w.heap.size=x
 subst hx; simp
 rw[QF hx]; simp[show ¬x=w.heap.size from fun h=>hx h.symm]
def VR.AL{E:Env}{j:aN}{m:TS}{w:S5}(hm:MR E j m w){b n:Nat}{cs:TO SX}{tg:Tag}(hg:m.get b=some (.cells cs tg))(htg:tg=.own\/tg=.more 1)(hcl:cs.length=n)(hlim:lim n=true)(hp:cs.all aP=true){v':SX}(h:VR j (.slice (some ⟨b,0,none⟩) n n) v') :
  ∃k c' c e,j b=some k/\v'=.slice (some ⟨k.c,0,none⟩) n c'/\w.heap[k.c]? = some (.cells c e (0,0))/\c.size=c'/\n<=c'/\c'<=9223372036854775807/\∀(x:Nat) (u:SX),cs[x]? = some u->c.toList[x]? = some u:=by
 have hll:=nW hlim;have key:∀{c:TW SX},(∀(i:Nat) (v:SX),cs[i]? = some v->∃v',c[i]? = some v'/\VR j v v')->∀(x:Nat) (u:SX),cs[x]? = some u->c.toList[x]? = some u:=fun g x u hx=>by
  obtain⟨u',g1,g2⟩:=g x u hx;have:=fB (QS.1 hp u (Q4 hx)) g2;subst this
  simpa using g1
 cases h with
 | slice hj hmo =>
  rename_i k;obtain⟨c,e,fz,g1,g2,g3⟩:=hm.fP hj hg;rcases htg with rfl|rfl
  obtain⟨_,d2,rfl⟩:k.more=none/\c.size=cs.length/\fz=(0,0):=g2;exact⟨k,n,c,e,hj,rfl,g1,by omega,QK _,by omega,key g3⟩
  have:k.more=some (1,cs.length,c.size):=g2.1;rw[hmo] at this; cases this
 | sliceM hj hmo a1 a2 a3 a4 =>
  rename_i c' sz na nc k;obtain⟨c,e,fz,g1,g2,g3⟩:=hm.fP hj hg;rcases htg with rfl|rfl
  have:k.more=none:=g2.1;rw[hmo] at this; cases this
  obtain⟨d1,d2,rfl,d4,d5⟩:k.more=some (1,cs.length,c.size)/\cs.length<=c.size/\fz=(0,0)/\0<1/\hY 1 c:=g2;rw[hmo] at d1;simp only[Option.some.injEq,Prod.mk.injEq] at d1;obtain⟨rfl,rfl,rfl⟩:=d1;unfold hY at d5;exact⟨k,c',c,e,hj,rfl,g1,by omega,a4,by omega,key g3⟩
def qV(n:Nat):(Builtin.zeroCells (Value.int .i64 0).cells n)=(bf [.int .i64 0] n).toArray:=by
 rw[show(bf [Value.int .i64 0] n)=bf (Value.int .i64 0).cells.toList n from rfl,<-jI (zero:=(Value.int .i64 0).cells)]; rfl
def zZ{p q:TN Prim}{pr:Bool}{args:TO SX}{m m':TS}{v:SX}(h:jW args m=some (v,m')){j:aN}{w:S5}{args':TO SX}(hm:MR (TV p q) j m w)(hl:LR j args args') :
  gk (TV p q).P pr 49 args'.toArray w (iC (TV p q) j m w v m'):=by
 have hent:∀args w,(callFunc 49 args).run Try.prog w=.ok (.enter 49 args) w:=fun args w=>oz.call 49 _ _ Try.func49 rfl args w;unfold jW at h
 split at h
 rename_i vb
 split at h
 rename_i v0 h0;cases h;obtain⟨v1,vs,rfl,h1,hvs⟩:=hl.cons_inv;obtain⟨v2,v3,rfl,h2,h3⟩:=hvs.cons_inv;obtain⟨v4,v5,rfl,h4,h5⟩:=h3.cons_inv;obtain rfl:=h5.da;cases h1; cases h2;obtain⟨kv,c0,cv,ev,hkv,rfl,gv,hv3',h8,h9,h6⟩:=VR.AL hm h0 (.inl rfl) rfl rfl rfl h4;have hcv:∀(x:Nat) (u:SX),[Value.int .i64 v0][x]? = some u->w.cell? ⟨kv.c,0+x,none⟩=some u:=fun x u hx=>by
  have:=h6 x u hx;simp only[World.cell?,gv,Ra]
  simpa using this
 have hcon:=Go.Proofs.Any2.slices_Insert_int_end_grow Try.FV none 0 0 kv.c 0 1 c0 [] [.int .i64 v0] w (by decide) (by decide) (by decide) (by decide) rfl rfl (fun _=>rfl) (fun a h=>by cases h) hcv (fun v hv=>by rw[QW.1 hv]; rfl)
 change Calls Try.prog 49 _ _ _ at hcon
 refine .inl ⟨hent _ _,callsIn_wide.2 ?_⟩;refine Calls.mono hcon ?_;rintro e w' ⟨rfl,rfl⟩;obtain⟨g0,g1⟩:=xF (w:=w) (need:=0+1) (old:=0) (e:=Try.fM.t 3) (by decide)
 generalize grownCap w (0+1) 0 (Try.fM.t 3)=cap at g0 g1 ⊢;obtain⟨j',s1,s2⟩:=fy hm (w0:=w.drew) ⟨rfl,rfl,rfl,rfl,Nat.le_succ _⟩ (cs:=[.int .i64 v0]) (cs':=[.int .i64 v0]) (rest:=bf [.int .i64 0] (cap-(0+1))) (elem:=Try.fM.t 3) (sz:=1) (n:=1) (cap:=cap) (.cons (.int _ _) (.nil _)) rfl (by simp[bE]; omega) g0 (by decide) (dV (by decide) _) g1
 refine⟨_,rfl,j',?_,s2⟩;rw[qV];have:(([]:TO SX)++[Value.int .i64 v0]).toArray++(bf [Value.int .i64 0] (cap-(0+1))).toArray=([Value.int .i64 v0]++bf [Value.int .i64 0] (cap-(0+1))).toArray:=by simp
 rw[this];exact s1
 cases h
 rename_i b n n' i vb
 split at h
 rename_i v0 cs tg h0 hcs;obtain⟨hg,htg,rfl,hcl,h10⟩:=lZ hcs;rw[Nat.mul_one] at hcl
 split at h
 rename_i hc;cases h;obtain⟨hne,h11,hin,hlim,hpl⟩:=hc;obtain⟨v1,vs,rfl,h1,hvs⟩:=hl.cons_inv;obtain⟨v2,v3,rfl,h2,h3⟩:=hvs.cons_inv;obtain⟨v4,v5,rfl,h4,h5⟩:=h3.cons_inv;obtain rfl:=h5.da;cases h2;obtain⟨i,rfl⟩:=Sp h11;simp only[Int.ofNat_le,Rb] at *;obtain⟨kv,c0,cv,ev,hkv,rfl,gv,hv3',h8,h9,h6⟩:=VR.AL hm h0 (.inl rfl) rfl rfl rfl h4;obtain⟨kb,c',c,e,hk,rfl,gb,hsz,hnc,h7,hcc⟩:=VR.AL hm hg h10 hcl hlim hpl h1;have hll:=nW hlim;have hcell:∀{k:Blk} {c:TW SX} {e:SY},w.heap[k.c]? = some (.cells c e (0,0))->∀x,w.cell? ⟨k.c,x,none⟩=c[x]?:=fun h x=>by simp[World.cell?,h]
 have hfrz:∀{k:Blk} {c:TW SX} {e:SY},w.heap[k.c]? = some (.cells c e (0,0))->∀x,w.frozen? ⟨k.c,x,none⟩=false:=fun h x=>by simp[World.frozen?,h]
 have hvb:kv.c≠kb.c:=fun hcc=>hne (hm.inj vb b kv kb hkv hk (by rw[h0]; rfl) (by rw[hg]; rfl) hcc)
 have hcv:∀(x:Nat) (u:SX),[Value.int .i64 v0][x]? = some u->w.cell? ⟨kv.c,0+x,none⟩=some u:=fun x u hx=>by
  have:=h6 x u hx;rw[hcell gv,Ra]
  simpa using this
 have hcb:∀(x:Nat) (u:SX),cs[x]? = some u->w.cell? ⟨kb.c,0+x,none⟩=some u:=fun x u hx=>by
  have:=hcc x u hx;rw[hcell gb,Ra]
  simpa using this
 have h1v:∀u∈[Value.int .i64 v0],u.oneCell'=true:=fun u hu=>by rw[QW.1 hu]; rfl
 have h1c:∀u∈cs,u.oneCell'=true:=fun u hu=>by
  have:=QS.1 hpl u hu;cases u<;>first|rfl|cases this
 have hsp:∀x,x<c'->(w.cell? ⟨kb.c,0+x,none⟩).isSome=true:=fun x hx=>by
  rw[hcell gb,Ra,Sf (by omega)]; rfl
 have hbv:(w.heap[kb.c]?).isSome=true:=by rw[gb]; rfl
 have hnew:(cs.take i++Value.int .i64 v0::cs.drop i).length=n+1:=by simp; omega
 have hpn:(cs.take i++Value.int .i64 v0::cs.drop i).all aP=true:=QS.2 fun u hu=>by
  rcases Q3.1 hu with hu|hu
  exact QS.1 hpl u (R3 hu)
  rcases QY.1 hu with rfl|hu
  rfl
  exact QS.1 hpl u (R4 hu)
 by_cases hroom:n+1<=c'
 
 have hor:OR j ⟨kb.c,some (1,n+1,c')⟩ (.cells (cs.take i++Value.int .i64 v0::cs.drop i) (.more 1)) (.cells (ay (ay c.toList (i+1) (cs.drop i)) i [.int .i64 v0]).toArray e (0,0)):=by
  refine⟨⟨by rw[hnew]; simp[aW,hsz],by rw[hnew]; simp[aW]; omega,rfl,by decide,by unfold hY; simp[aW]; omega⟩,fun x u hx=>?_⟩
  have:=Ax (v:=.int .i64 v0) hcc (by omega:i<=cs.length) (by simp; omega) x u hx
  exact⟨u,by simpa using this,.aP (QS.1 hpn u (Q4 hx))⟩
 have fin:∀w0:S5,w0.heap=w.heap->Go.Ab.Calm w w0->iC (TV p q) j m w (.slice (some ⟨m.next,0,none⟩) (n+1) (n+1)) ((m.kill b).alloc (.cells (cs.take i++Value.int .i64 v0::cs.drop i) (.more 1)))
   (.slice (some ⟨kb.c,0,none⟩) (n+1) c') (w0.putObj kb.c (.cells (ay (ay c.toList (i+1) (cs.drop i)) i [.int .i64 v0]).toArray e (0,0))):=fun w0 e0 c1=>by
  have s0:Sim (TV p q) j m w j m w0:=Sim.of_heap hm e0 c1;have s1:=rJ s0.mr hk (by rw[hg]; rfl) hor
  exact⟨_,s0.trans hm s1,.sliceM (k:=⟨kb.c,some (1,n+1,c')⟩) (aN.bV _ _ _) rfl (by omega) (by omega) (QK _) hroom⟩
 by_cases hlt:i<n
 have hcon:=Go.Proofs.Any2.slices_Insert_int_shift Try.FV kb.c 0 n c' i kv.c 0 1 c0 cs [.int .i64 v0] w hlt (by decide) hroom h7 hvb hcl rfl hcb (fun x hx=>hsp x (by omega)) (fun x _=>hfrz gb _) hcv h1c h1v ev e cv.size c.size
  (by simp[World.shape?,gv]) (by simp[World.shape?,gb]) (by omega) (hfrz gv _) (hfrz gv _)
 change Calls Try.prog 49 _ _ _ at hcon
 refine .inl ⟨hent _ _,callsIn_wide.2 ?_⟩;refine Calls.mono hcon ?_;rintro e' w' ⟨rfl,rfl⟩;refine⟨_,rfl,?_⟩;rw[Ra,Ra,eD (w:=w.drew) (cs.drop i) (i+1) gb (by simp; omega),eD [.int .i64 v0] i (World.putObj_heap_same (w:=w.drew) (QP.1 gb).1) (by simp[aW]; omega),jC]
 exact fin w.drew rfl ⟨rfl,rfl,rfl,Nat.le_succ _⟩
 obtain rfl:i=n:=by omega
 have hcon:=Go.Proofs.Any2.slices_Insert_int_end_room Try.FV kb.c 0 i c' kv.c 0 1 c0 [.int .i64 v0] w (by decide) hroom h7 rfl (fun x hx=>by rw[Nat.add_assoc]; exact hsp (i+x) (by omega)) (fun x _=>hfrz gb _) hcv h1v
 change Calls Try.prog 49 _ _ _ at hcon
 refine .inl ⟨hent _ _,callsIn_wide.2 ?_⟩;refine Calls.mono hcon ?_;rintro e' w' ⟨rfl,rfl⟩;refine⟨_,rfl,?_⟩;have hd:ay c.toList (i+1) (cs.drop i)=c.toList:=by
  rw[List.drop_of_length_le (by omega)]
  apply RG;intro x;rw[aL,QF (by simp; omega)]
 rw[Ra,eD [.int .i64 v0] i gb (by simp; omega)]
 have:=fin w rfl ⟨rfl,rfl,rfl,QK _⟩;rw[hd] at this;exact this
 
 have hc':c'=n:=by omega
 subst hc';have sk:=xo hm hk;have fin:∀(w0:S5) (cap:Nat) (rest:TO SX),w0.heap=w.heap->Go.Ab.Calm w w0->c'+1<=cap->cap<=9223372036854775807->rest.all aP=true->c'+1+rest.length=cap->iC (TV p q) j m w (.slice (some ⟨m.next,0,none⟩) (c'+1) (c'+1)) ((m.kill b).alloc (.cells (cs.take i++Value.int .i64 v0::cs.drop i) (.more 1)))
   (.slice (some ⟨w.heap.size,0,none⟩) (c'+1) cap) (w0.alloc (.cells ((cs.take i++Value.int .i64 v0::cs.drop i)++rest).toArray (Try.fM.t 3))):=fun w0 cap rest e0 c1 g0 g1 g2 g3=>by
  obtain⟨j',s1,s2⟩:=fy sk.mr (w0:=w0) ⟨e0,c1⟩ (cs:=cs.take i++Value.int .i64 v0::cs.drop i) (cs':=cs.take i++Value.int .i64 v0::cs.drop i) (rest:=rest) (elem:=Try.fM.t 3) (sz:=1) (n:=c'+1) (cap:=cap) (LR.plain hpn) (by rw[hnew,Nat.mul_one]) (by rw[QV,hnew]; omega) g0 (by decide) g2 g1
  have e3:(m.kill b).next=m.next:=TS.next_kill _ _
  rw[e3] at s2;exact⟨j',sk.trans hm s1,s2⟩
 obtain⟨g0,g1⟩:=xF (w:=w) (need:=c'+1) (old:=c') (e:=Try.fM.t 3) (by omega)
 by_cases hlt:i<c'
 have hcon:=Go.Proofs.Any2.slices_Insert_int_grow Try.FV kb.c 0 c' c' i kv.c 0 1 c0 cs [.int .i64 v0] w hlt (by decide) (QK _) (by omega) (by omega) hcl rfl hcb hcv h1c h1v
 change Calls Try.prog 49 _ _ _ at hcon
 refine .inl ⟨hent _ _,callsIn_wide.2 ?_⟩;refine Calls.mono hcon ?_;rintro e' w' ⟨rfl,rfl⟩;generalize grownCap w (c'+1) c' (Try.fM.t 3)=cap at g0 g1 ⊢;refine⟨_,rfl,?_⟩;rw[qV,qV];obtain⟨A,hA⟩:∃A:TW SX,A=(cs.take i).toArray++(bf [Value.int .i64 0] (c'+1-i)).toArray++(bf [Value.int .i64 0] (cap-(c'+1))).toArray:=⟨_,rfl⟩;have hAl:A.toList=cs.take i++(bf [Value.int .i64 0] (c'+1-i)++bf [Value.int .i64 0] (cap-(c'+1))):=by rw[hA]; simp
 have hAs:A.size=cap:=by rw[<-Sh,hAl]; simp[bE]; omega
 rw[<-hA,HV (A:=A) (i:=i) (m:=1) (vs:=[.int .i64 v0]) (ds:=cs.drop i) (by simp; omega) (by simp; omega)]
 have:=fin w.drew.drew cap (bf [.int .i64 0] (cap-(c'+1))) rfl ⟨rfl,rfl,rfl,by show w.drawn<=w.drawn+1+1; omega⟩ g0 g1 (dV (by decide) _) (by simp[bE]; omega)
 have e1:ay (ay A.toList i [Value.int .i64 v0]) (i+1) (cs.drop i)=(cs.take i++Value.int .i64 v0::cs.drop i)++bf [Value.int .i64 0] (cap-(c'+1)):=by
  apply RG;intro x;have hti:(cs.take i).length=i:=by rw[QX]; omega
  rw[aL,aL,aW];have hAL:A.toList.length=cap:=by rw[Sh,hAs]
  by_cases h13:x<i
  rw[S8,S8,hAl,Rp (by omega),Ry,Rp (by omega)]
  by_cases h12:x=i
  subst h12;rw[S8,QH (by simp; omega),Ry,Rk (by omega),hti,SN]; rfl
  by_cases h14:x<c'+1
  rw[QH (by simp; omega),Ry,Rk (by omega),hti,show x-i=(x-(i+1))+1 by omega,Sn,Rm,Rp (by simp; omega)]
  rw[QF (by simp; omega),QF (by simp; omega),hAl,Rk (by omega),hti,Rk (by rw[bE]; simp; omega),Rk (by omega),bE,hnew]
  congr 1
  simp; omega
 rw[e1]; exact this
 obtain rfl:i=c':=by omega
 have hcon:=Go.Proofs.Any2.slices_Insert_int_end_grow Try.FV (some ⟨kb.c,0,none⟩) i i kv.c 0 1 c0 cs [.int .i64 v0] w (by decide) (QK _) (by omega) (by omega) hcl rfl (fun h=>by cases h) (fun a ha x u hx=>by cases ha; rw[Addr.add_lit]; exact hcb x u hx) hcv h1v
 change Calls Try.prog 49 _ _ _ at hcon
 refine .inl ⟨hent _ _,callsIn_wide.2 ?_⟩;refine Calls.mono hcon ?_;rintro e' w' ⟨rfl,rfl⟩;generalize grownCap w (i+1) i (Try.fM.t 3)=cap at g0 g1 ⊢;refine⟨_,rfl,?_⟩;rw[qV];have:=fin w.drew cap (bf [.int .i64 0] (cap-(i+1))) rfl ⟨rfl,rfl,rfl,Nat.le_succ _⟩ g0 g1 (dV (by decide) _) (by simp[bE]; omega)
 have e1:(cs++[Value.int .i64 v0]).toArray++(bf [Value.int .i64 0] (cap-(i+1))).toArray=((cs.take i++Value.int .i64 v0::cs.drop i)++bf [Value.int .i64 0] (cap-(i+1))).toArray:=by
  rw[R6 (by omega),List.drop_of_length_le (by omega)]; simp
 rw[e1]; exact this
 cases h
 cases h
 cases h
end
section
open Go Go.Ab Go.Ab.W
def BB{t:SY}(h:(Try.prog.info? t).map (·.size)=some 1):∃i,Try.prog.info? t=some i/\i.size=1:=by
 cases e:Try.prog.info? t with
 | none=>rw[e] at h; cases h
 | some i=>rw[e] at h; exact⟨i,rfl,QL h⟩
def rX:EnvOk (TV none none):=yq yL fun f P hp args m v m' h j w args' hm hl=>by
 have hp0:(TV none none).cH f=HQ f:=by
  show(if f=24 then none else if f=10 then none else HQ f)=_
  split
  rename_i e; subst e; rfl
  split
  rename_i e; subst e; rfl
  rfl
 rw[hp0] at hp;unfold HQ at hp
 split at hp
 rename_i e; subst e; cases hp;exact xY h hm hl
 split at hp
 rename_i e; subst e; cases hp;obtain⟨i0,hi0,hs⟩:=BB (t:=51) (by kernel_rfl)
 exact ru Try.PX rfl _ _ Try.func85 rfl rfl (fun j=>.snil 0 0) Try.zeroValue51 i0 hi0 hs h hm hl
 split at hp
 rename_i e; subst e; cases hp;obtain⟨i0,hi0,hs⟩:=BB (t:=3) (by kernel_rfl)
 exact ru Try.O6 rfl _ _ Try.func48 rfl rfl (fun j=>.int _ _) Try.zeroValue3 i0 hi0 hs h hm hl
 split at hp
 rename_i e; subst e; cases hp;exact zZ h hm hl
 cases hp
end
end Go.Proofs.Ytmndpgfbkicndaa
namespace Go.Ab.W
open Go Go.Ab
section
variable{E:Env}{n:Nat}{m0 m:TS}{fs fs':Fs}{ps ps':TO Pc}{ops:TW Oper}{os:TO Oper}{K:Tm->TS->Prop}{dr:Bool}{fn:T1}{ro:TN Nat}{c:Code}{Q:TT->Tm->TS->Prop}
variable{ty oty:SY}{p:String}{af:TW Edge}{d:Nat}{g:TN (Nat×Bool)}{x:SZ}{v:SX}
def lw{σ ρ γ:Type}{δ:ρ->Type}{body:σ->TN (σ⊕ρ)}{X:(r:ρ)->δ r->En}{N:Nat}{s:σ}{r:ρ}(h:bH body N s=some r)(g:γ)(I:σ->γ->En)(T:aa m0 ps (I s g).ps)
  (hb:∀s g r,body s=some r->Wk E n fn ro c (match r with|.inl s'=>lT m0 (I s')|.inr r=>lT m0 (X r)) m0 (I s g).fs (I s g).ps)
  (hs:sub fs (I s g).fs:=by repeat first|exact sn|refine sc rfl ?_)
  (hn:∀s g,(I s g).e=.normal:=by exact fun _ _=>rfl) (hx:∀r g,(X r g).e≠.normal:=by intro r d; first |(intro e; cases e; done) |(rcases r with r|r<;>first |(intro e; cases e; done) |(rcases r with r|r<;>first |(intro e; cases e; done) |(rcases r with r|r<;>intro e<;>cases e)))):Wk E n fn ro (.loop c) (lT m0 (ap X r)) m0 fs ps:=.Fq hs T (Wk.loop body I X hb hn hx N s r h g)
def aT{γ:Type}{G:γ->En}{e:TT}(g:γ)(T:aa m0 ps (G g).ps)(he:e=(G g).e:=by rfl)(hs:sub fs (G g).fs:=by repeat first|exact sn|refine sc rfl ?_):At (lT m0 G) e m0 fs ps:=At.en g he hs T
def aO:TO Pc->TO Pc->TN (TO Pc)
 | [],ps=>some ps
 | p::l,ps=>match aO l ps with
  | some q=>some (p::q)
  | none=>none
def JK:∀{l ps q:TO Pc},aO l ps=some q->q=l++ps
 | [],ps,q,h=>by cases h; rfl
 | p::l,ps,q,h=>by
  unfold aO at h
  split at h
  rename_i q' e; cases h; rw[JK e]; rfl
  cases h
def O0{α:Type}{r:Rep α}{ag:Bool}{sz b o w j c q off:Nat}{R:SV}{L:TO α}{es:SS}{z:α}{V:r.G->SX}{N:r.G->TO Pc}(ht:TyI E.P ty ag sz)(hx:ev E fs x=some (ptr b off))(ho:off=o+j*w+c)(hli:∀m,Hp m0 m ps->pE m b o w es)(hq:pk ps q=some (.gen (cd r R L es)))(hl:L[j]? = some z)(hv:∀g,w7 ag sz (r.V z g) c=some (V g))(hs:wg ag sz c w=true)(hN:∀g,aO (r.N z g R) ps=some (N g)):Ox E m0 fs ps (.load ty x) V N :=
 Ny ht hx ho hli hq hl hv hs fun g=>JK (hN g)
def wl{α:Type}{r:Rep α}{ag:Bool}{sz b o j l off:Nat}{R:SV}{L:TO α}{es:SS}{z:α}{V:r.G->SX}{N:r.G->TO Pc}(w c q k:Nat)(hl:L[j]? = some z)(kk:∀g,Wo dr E n ops K os m0 ((d,V g)::fs) (N g))(ht:TyI E.P oty ag sz:=by exact TyC.t)(hx:ev E fs x=some (ptr b off):=by rfl)(hp:pk ps k=some (.ro b o w l es):=by rfl)(ho:off=o+j*w+c:=by rfl)(hq:pk ps q=some (.gen (cd r R L es)):=by rfl)(hv:∀g,w7 ag sz (r.V z g) c=some (V g):=by exact fun _=>rfl)(hs:wg ag sz c w=true:=by rfl)(hN:∀g,aO (r.N z g R) ps=some (N g):=by exact fun _=>rfl)(hd:Nat.blt d n=true:=by rfl):Wo dr E n ops K (⟨some d,.load oty x,ty,p,af,none⟩::os) m0 fs ps:=Ts (O0 ht hx ho (BY hp) hq hl hv hs hN) gn hd kk
variable{α:Type}{V:α->SX}{N:α->TO Pc}{R S:α->Pc}{f:SZ}{q:T1}{ars:TW SZ}{ts:TW SY}{args:TO SX}{prs:TO (Nat×Nat)}{ss:TO Nk}
def EU(hg:tF ops fs g true)(hc:∀m,Hp m0 m ps->aI E q args m (fun v m'=>∃x,v=V x/\Hp m m' [R x,S x,.gen (th (k5 ps))]))(k:∀x,Wo dr E n ops K os m0 ((d,V x)::fs) (R x::S x::ps))(hf:ev E fs f=some (.func (.func q) #[] #[]):=by rfl)(ha:fX E fs ars.toList=some args:=by rfl)(ho:∀x,oA [R x,S x]=true:=by exact fun _=>rfl)(hd:Nat.blt d n=true:=by rfl):Wo dr E n ops K (⟨some d,.call ⟨.value f,ars,ts⟩,ty,p,af,g⟩::os) m0 fs ps:=Ts (Ch (N:=fun x=>[R x,S x]) hf ha hc ho) hg hd k
def Qr(hg:tF ops fs g true)(hc:∀m,Hp m0 m ps->aI E q args m (fun v m'=>∃x,v=V x/\Hp m m' [R x,S x,.gen (th (k5 ps))]))(k:∀x,Wn E n ops prs K os (.call::ss) m0 ((d,V x)::fs) (R x::S x::ps))(hf:ev E fs f=some (.func (.func q) #[] #[]):=by rfl)(ha:fX E fs ars.toList=some args:=by rfl)(ho:∀x,oA [R x,S x]=true:=by exact fun _=>rfl)(hd:Nat.blt d n=true:=by rfl):Wn E n ops prs K (⟨some d,.call ⟨.value f,ars,ts⟩,ty,p,af,g⟩::os) ss m0 fs ps:=Wn.c (JX (N:=fun x=>[R x,S x]) hf ha hc ho) hg hd k
def wq{ρ γ:Type}{first cap:TW SX}(F:ρ->γ->SX×TO Pc)(r:ρ)(hc:∀m,Hp m0 m ps->aI E q (first.toList++args++cap.toList) m (fun v m'=>∃x,v=(F r x).1/\Hp m0 m' (F r x).2))(k:∀x,Wo dr E n ops K os m0 ((d,(F r x).1)::fs) (F r x).2)(hf:ev E fs f=some (.func (.func q) first cap):=by rfl)(ha:fX E fs ars.toList=some args:=by rfl)(hd:Nat.blt d n=true:=by rfl):Wo dr E n ops K (⟨some d,.call ⟨.value f,ars,ts⟩,ty,p,af,none⟩::os) m0 fs ps:=Ts (ln hf ha hc) gn hd k
end
end Go.Ab.W
namespace Go.Proofs.Ytmndpgfbkicndaa
open Go Go.Ab Go.Ab.W
set_option maxRecDepth 10000
set_option maxHeartbeats 4000000
attribute [local irreducible] Wo Wk At Wn Od Ox bc bR
attribute [local irreducible] Tm.at Trie.set Trie.get TS.get TS.set TS.alloc TS.ww TS.kill
variable{p q:TN Prim}
abbrev q6(z0)(z1)(z2):=Pc.rd z0 z1 2 (List.length z2) (List.map (eP (eI .i64) (eI .i64)) z2)
abbrev fO{γ0:Type}(z0:Rep γ0)(z1)(z2:TO γ0)(z3):=Pc.gen (cd z0 z1 z2 z3)
abbrev MG(z0)(z1){β2:Type}(z2:TO β2)(z3)(z4)(z5){β6:Type}(z6:TO β6)(z7):=Pc.obj z0 (.cells [.slice z1 (List.length z2) z3,.slice (some ⟨z4,z5,none⟩) (List.length z6) z7] .own)
abbrev dH(z0):=Pc.obj z0 (.cells [.int .i64 0] .own)
abbrev DB(z0)(z1){β2:Type}(z2:TO β2)(z3)(z4){β5:Type}(z5:TO β5)(z6):=Pc.obj z0 (.cells [.slice z1 (List.length z2) z3,.slice z4 (List.length z5) z6] .own)
abbrev bN(z0){β1:Type}(z1:TO β1):=Value.slice z0 (List.length z1) (List.length z1)
abbrev De(z0)(z1){β2:Type}(z2:TO β2)(z3):=Pc.rd z0 z1 2 (List.length z2) z3
abbrev ba(z0):=Value.int .i64 z0
abbrev nH(z0)(z1)(z2){β3:Type}(z3:TO β3)(z4):=Pc.obj z0 (.cells [.slice (some ⟨z1,z2,none⟩) (List.length z3) z4] .own)
abbrev CV(z0){β1:Type}(z1:TO β1)(z2)(z3){β4:Type}(z4:TO β4)(z5)(z6){β7:Type}(z7:TO β7)(z8)(z9){β10:Type}(z10:TO β10)(z11)(z12){β13:Type}(z13:TO β13)(z14)(z15){β16:Type}(z16:TO β16)(z17):=Value.agg #[.slice z0 (List.length z1) z2,.slice z3 (List.length z4) z5,.slice z6 (List.length z7) z8,.slice z9 (List.length z10) z11,.slice z12 (List.length z13) z14,.slice z15 (List.length z16) z17]
abbrev Oi(z0)(z1)(z2){β3:Type}(z3:TO β3)(z4):=Pc.rd (some ⟨z0,z1,none⟩) z2 2 (List.length z3) z4
abbrev cV(z0)(z1):=Pc.sl z0 2 (List.length z1) (List.map (eP (eI .i64) (eI .i64)) z1)
abbrev fG(z0)(z1)(z2)(z3)(z4)(z5):=Pc.obj z0 (.cells [.int .i64 z1,.int .i64 z2,.int .i64 z3,.int .i64 z4,.int .i64 z5] .own)
abbrev cK(z0)(z1)(z2):=Pc.obj z0 (.cells [.int .i64 z1,.int .i64 z2] .own)
abbrev dN{β0:Type}(z0:TO β0):=Value.int .i64 ((List.length z0):Int)
abbrev tx(z0)(z1){β2:Type}(z2:TO β2)(z3){β4:Type}(z4:TO β4):=Pc.obj z0 (.cells [.slice z1 (List.length z2) (List.length z2),.slice z3 (List.length z4) (List.length z4)] .own)
abbrev nj(z0)(z1):=Pc.sl z0 4 (List.length z1) (List.map (eP (eI .i64) (eP (eI .i64) (eP (eI .i64) (eI .i64)))) z1)
abbrev fF(z0)(z1)(z2)(z3)(z4):=Pc.obj z0 (.cells [.int .i64 z1,.int .i64 z2,.int .i64 z3,.int .i64 z4] .own)
abbrev IA(z0)(z1)(z2)(z3):=Pc.rd (some ⟨z0,z1,none⟩) z2 2 (List.length z3) (List.map (eP (eI .i64) (eI .i64)) z3)
abbrev oT(z0){β1:Type}(z1:TO β1):=Pc.obj z0 (.cells [.int .i64 ((List.length z1):Int)] .own)
abbrev bD(z0){β1:Type}(z1:TO β1)(z2):=Value.slice z0 (List.length z1) z2
abbrev NA(z0)(z1){β2:Type}(z2:TO β2)(z3):=Pc.ro z0 z1 2 (List.length z2) z3
abbrev jG(z0)(z1){β2:Type}(z2:TO β2)(z3){β4:Type}(z4:TO β4):=Pc.obj z0 (.cells [.slice z1 (List.length z2) (List.length z2),.slice (some ⟨z3,0,none⟩) (List.length z4) (List.length z4)] .own)
abbrev Pp(z0)(z1)(z2){β3:Type}(z3:TO β3)(z4):=Pc.rd (some ⟨z0,z1,none⟩) z2 1 (List.length z3) z4
abbrev Pq(z0)(z1)(z2)(z3):=Pc.rd (some ⟨z0,z1,none⟩) z2 1 (List.length z3) (List.map (eI .i64) z3)
abbrev Jq(z0)(z1)(z2):=Pc.ro z0 z1 2 (List.length z2) (List.map (eP (eI .i64) (eI .i64)) z2)
abbrev tK(z0)(z1){β2:Type}(z2:TO β2)(z3):=Value.slice (some ⟨z0,z1,none⟩) (List.length z2) z3
abbrev cf(z0):=Value.slice (some ⟨z0,0,none⟩) 4 4
abbrev iZ(z0):=Pc.obj z0 (.cells [.slice none 0 0,.slice none 0 0] .own)
abbrev db(z0)(z1):=Pc.obj z0 (.cells [.int .i64 z1] .own)
abbrev zo(z0)(z1){β2:Type}(z2:TO β2)(z3):=Pc.obj z0 (.cells [.slice z1 (List.length z2) z3] .own)
abbrev dW(z0)(z1):=Pc.obj z0 (.cells [.map (some z1)] .own)
abbrev PS(z0)(z1)(z2)(z3){β4:Type}(z4:TO β4)(z5)(z6){β7:Type}(z7:TO β7)(z8)(z9):=Pc.obj z0 (.cells [.int .u8 ((z1:Nat):Int),.int .u8 ((z2:Nat):Int),.slice z3 (List.length z4) z5,.slice z6 (List.length z7) z8,.bool z9] .own)
abbrev ja(m)(z0)(z1)(z2):=Rd m z0 z1 2 (List.length z2) (List.map (eP (eI .i64) (eI .i64)) z2)
abbrev Pv(z0)(z1)(z2):=Pc.ro z0 z1 1 (List.length z2) (List.map (eI .i64) z2)
abbrev zp(z0)(z1)(z2)(z3)(z4)(z5)(z6):=Pc.obj z0 (.cells [.int .u8 ((z1:Nat):Int),.int .u8 ((z2:Nat):Int),.int .u8 ((z3:Nat):Int),.int .i64 z4,.int .i64 z5,.int .i64 z6] .own)
abbrev PI(z0)(z1){β2:Type}(z2:TO β2)(z3):=Pc.ro z0 z1 1 (List.length z2) z3
abbrev kI(z0){β1:Type}(z1:TO β1)(z2)(z3){β4:Type}(z4:TO β4)(z5):=Value.agg #[.slice z0 (List.length z1) z2,.slice z3 (List.length z4) z5]
abbrev Bc(z0)(z1){β2:Type}(z2:TO β2):=Pc.obj z0 (.cells [.slice z1 (List.length z2) (List.length z2)] .own)
abbrev vU(z0)(z1)(z2):=Pc.arr z0 4 (List.length z1) (List.map (eP (eI .i64) (eP (eI .i64) (eP (eI .i64) (eI .i64)))) z1) z2
abbrev kX(z0){β1:Type}(z1:TO β1)(z2):=Pc.sl z0 2 (List.length z1) z2
abbrev Ia(z0)(z1)(z2):=Pc.rd z0 z1 1 (List.length z2) (List.map (eN .u8) z2)
abbrev M7(z0)(z1)(z2)(z3)(z4)(z5)(z6)(z7)(z8)(z9)(z10)(z11):=Value.agg #[.int .u8 ((z0:Nat):Int),.int .u8 ((z1:Nat):Int),.int .u8 ((z2:Nat):Int),.int .i64 z3,.int .i64 z4,.int .i64 z5,.int .u8 ((z6:Nat):Int),.int .u8 ((z7:Nat):Int),.int .u8 ((z8:Nat):Int),.int .i64 z9,.int .i64 z10,.int .i64 z11]
abbrev vX(z0)(z1):=Pc.obj z0 (.map (List.map (eM (fun n:Int=>.int .i64 n) (fun n:Int=>.int .i64 n)) z1))
abbrev mY(z0)(z1)(z2):=Pc.rd z0 z1 1 (List.length z2) (List.map (eI .i64) z2)
abbrev kW(z0)(z1):=Value.agg #[.int .i64 z0,.int .i64 z1]
abbrev iM(z0)(z1){β2:Type}(z2:TO β2)(z3):=Pc.rd z0 z1 1 (List.length z2) z3
abbrev kZ(z0):=Value.slice (some ⟨z0,0,none⟩) 1 1
abbrev El(z0)(z1)(z2):=Value.slice (some ⟨z0,0,none⟩) ((z1++([z2]:SR)).length) ((z1++([z2]:SR)).length)
abbrev dT(z0):=Pc.gen (th z0)
abbrev Lj(z0)(z1)(z2){β3:Type}(z3:TO β3)(z4)(z5){β6:Type}(z6:TO β6)(z7)(z8):=Value.agg #[.int .u8 ((z0:Nat):Int),.int .u8 ((z1:Nat):Int),.slice z2 (List.length z3) z4,.slice z5 (List.length z6) z7,.bool z8]
abbrev vt(z0){β1:Type}(z1:TO β1):=Value.slice (some ⟨z0,0,none⟩) (List.length z1) (List.length z1)
abbrev lW(m)(z0)(z1){β2:Type}(z2:TO β2)(z3):=Rd m z0 z1 2 (List.length z2) z3
abbrev A8(m)(z0)(z1)(z2):=Rd m z0 z1 1 (List.length z2) (List.map (eN .u8) z2)
abbrev LA(z0)(z1)(z2)(z3)(z4)(z5)(z6)(z7):=Value.agg #[.int .i64 z0,.int .i64 z1,.int .i64 z2,.int .i64 z3,.int .i64 z4,.int .i64 z5,.int .i64 z6,.int .i64 z7]
abbrev ot{γ0:Type}{ρ0:Rep γ0}(z0:Orp ρ0)(z1)(z2:TO γ0)(z3):=Pc.gen (cL z0 z1 z2 z3)
abbrev vA(z0)(z1):=Pc.sl z0 1 (List.length z1) (List.map (eI .i64) z1)
abbrev Ah(m)(z0)(z1)(z2):=Rd m z0 z1 1 (List.length z2) (List.map (eI .i64) z2)
abbrev HJ(z0)(z1){β2:Type}(z2:TO β2):=Pc.obj z0 (.cells [.slice z1 (List.length z2) (List.length z2),.slice none 0 0] .own)
abbrev Mn(z0)(z1)(z2)(z3)(z4):=Value.agg #[.int .i64 z0,.int .i64 z1,.int .i64 z2,.int .i64 z3,.int .i64 z4]
abbrev C6(z0):=Pc.obj z0 (.cells [.int .i64 10] .own)
abbrev Dx(z0):=Pc.obj z0 (.cells [.int .i64 5] .own)
abbrev Dy(z0):=Value.slice (some ⟨z0,0,none⟩) 3 3
abbrev EO(z0):=Pc.obj z0 (.cells [.int .i64 7] .own)
abbrev Ff(z0):=Pc.obj z0 (.cells [.int .i64 8] .own)
abbrev DL(z0):=Pc.obj z0 (.cells [.int .i64 9] .own)
abbrev IW(z0):=Value.slice (some ⟨z0,0,none⟩) 12 12
abbrev fH{τ0:Type}(z0)(z1)(z2)(z3)(z4)(z5)(z6:TO τ0)(z7)(z8)(z9:Rep τ0)(z10)(z:TO Pc):=MG z0 z1 z2 z3 z4 z5 z6 z7::q6 z1 z3 z2::NA z4 z5 z6 z8::fO z9 z10 z6 z8::Oi z4 z5 z7 z6 z8::z
abbrev fp{τ0:Type}(z0)(z1)(z2)(z3)(z4)(z5:TO τ0)(z6)(z7)(z8:Rep τ0)(z9)(z:TO Pc):=DB z0 z1 z2 z3 z4 z5 z6::q6 z1 z3 z2::De z4 z6 z5 z7::fO z8 z9 z5 z7::z
abbrev Ca{τ0:Type}(z0)(z1)(z2)(z3)(z4)(z5:TO τ0)(z6)(z7:Rep τ0)(z8)(z9)(z10)(z11)(z12)(z13)(z14:TO τ0)(z15)(z16)(z:TO Pc):=q6 z0 z1 z2::De z3 z4 z5 z6::fO z7 z8 z5 z6::q6 z9 z10 z11::De z12 z13 z14 z15::fO z7 z16 z14 z15::z
abbrev jr{τ0:Type}(z0)(z1)(z2:TO τ0)(z3)(z4:Rep τ0)(z5)(z6)(z:TO Pc):=PI z0 z1 z2 z3::fO z4 z5 z2 z3::Pp z0 z1 z6 z2 z3::z
abbrev pA(z0)(z1)(z2)(z3)(z4)(z:TO Pc):=nH z0 z1 z2 z3 z4::Jq z1 z2 z3::IA z1 z2 z4 z3::z
abbrev q7{τ0:Type}(z0)(z1)(z2:TO τ0)(z3)(z4:Rep τ0)(z5)(z6)(z:TO Pc):=NA z0 z1 z2 z3::fO z4 z5 z2 z3::Oi z0 z1 z6 z2 z3::z
abbrev uo{τ0:Type}(z0)(z1)(z2)(z3)(z4:TO τ0)(z5)(z6:Rep τ0)(z7)(z:TO Pc):=tx z0 z1 z2 z3 z4::cV z1 z2::kX z3 z4 z5::fO z6 z7 z4 z5::z
abbrev sy{τ0:Type}(z0)(z1)(z2:TO τ0)(z3)(z4)(z:Fs):=(10,tK z0 z1 z2 z3)::(11,dN z2)::(12,ba z4)::z
abbrev om(z0)(z1)(z2)(z3)(z:TO Pc):=Pv z0 z1 z2::Pq z0 z1 z3 z2::z
abbrev H4(z0)(z1)(z2)(z3)(z4)(z:Fs):=(9,ptr z0 0)::(11,ptr z1 0)::(12,ba z2)::(14,ba z3)::(15,ba z4)::z
abbrev ic(z0)(z1)(z:Fs):=(2,ptr z0 0)::(3,ptr z1 0)::z
abbrev oh{τ0:Type}(z0)(z1)(z2)(z3)(z4)(z5:TO τ0)(z6)(z7:Rep τ0)(z8)(z:TO Pc):=q6 z0 z1 z2::De z3 z4 z5 z6::fO z7 z8 z5 z6::z
abbrev yp(z0)(z1)(z2)(z3)(z4)(z:Fs):=(1,ptr z0 0)::(2,ptr z1 0)::(3,ba z2)::(4,ba z3)::(5,ptr z4 0)::z
abbrev tP{τ0:Type}(z0)(z1)(z2:TO τ0)(z3)(z4)(z:Fs):=(18,tK z0 z1 z2 z3)::(19,dN z2)::(20,ba z4)::z
abbrev qG(z0)(z1)(z2)(z3)(z4)(z:TO Pc):=dH z0::dH z1::Bc z2 z3 z4::nj z3 z4::z
abbrev ib(z0)(z1)(z2)(z3)(z:TO Pc):=zo z0 z1 z2 z3::q6 z1 z3 z2::z
abbrev eL{τ0:Type}(z0)(z1)(z2)(z3:TO τ0)(z:TO Pc):=dH z0::dH z1::oT z2 z3::z
abbrev uS(z0)(z1)(z2)(z3)(z4)(z5)(z6)(z7)(z8)(z9)(z10)(z:TO Pc):=PS z0 z1 z2 z3 z4 z5 z6 z7 z8 z9::Ia z3 z5 z4::Ia z6 z8 z7::iZ z10::z
abbrev u0{τ0:Type}(z0)(z1:TO τ0)(z2)(z:Fs):=(38,ba z0)::(51,dN z1)::(52,ba z2)::z
abbrev ym{τ0:Type}(z0)(z1:TO τ0)(z2)(z3)(z:Fs):=(10,bD z0 z1 z2)::(11,dN z1)::(12,ba z3)::z
abbrev yy{τ0:Type}(z0)(z1:TO τ0)(z2)(z3)(z:Fs):=(7,bD z0 z1 z2)::(8,dN z1)::(9,ba z3)::z
abbrev qE{τ0:Type}(z0)(z1)(z2)(z3)(z4)(z5)(z6:TO τ0)(z7)(z8)(z9)(z:TO Pc):=MG z0 z1 z2 z3 z4 z5 z6 z7::q6 z1 z3 z2::dH z8::dH z9::z
abbrev bg:Rep (TO Int):=(rS (eI .i64) 1)
abbrev ak:Rep (TO Int×SR):=(rP (rS (eI .i64) 1) (rL bg))
def Jb:(TV p q).P.underlying 104=some (.array 2 3):=by kernel_rfl
def cb:TyI (TV p q).P 3 false 1:=⟨by kernel_rfl,by kernel_rfl,by kernel_rfl⟩
instance:TyC (TV p q).P 3 false 1:=⟨cb⟩
def u3:(TV p q).P.underlying 3=some (.int .i64):=by kernel_rfl
def Qg:bj (TV p q).P 98=some (.map none):=by kernel_rfl
def OB:TyI (TV p q).P 98 false 1:=⟨by kernel_rfl,by kernel_rfl,by kernel_rfl⟩
instance:TyC (TV p q).P 98 false 1:=⟨OB⟩
def eW:TyI (TV p q).P 34 true 2:=⟨by kernel_rfl,by kernel_rfl,by kernel_rfl⟩
instance:TyC (TV p q).P 34 true 2:=⟨eW⟩
def ep:∀b o,aD (TV p q).P 34 (ptr b o) 1=some (ptr b (o+1)):=fun _ _=>by kernel_rfl
instance:FaC (TV p q).P 34 1 1:=⟨ep⟩
def kY:TyI (TV p q).P 32 false 1:=⟨by kernel_rfl,by kernel_rfl,by kernel_rfl⟩
instance:TyC (TV p q).P 32 false 1:=⟨kY⟩
def u32:(TV p q).P.underlying 32=some (.slice 54):=by kernel_rfl
instance:UsC (TV p q).P 32 54:=⟨u32⟩
def jd:SlT (TV p q).P 32 54 2:=SlT.of (by kernel_rfl)
instance:SlC (TV p q).P 32 54 2:=⟨jd⟩
def Hl:TyI (TV p q).P 54 true 2:=⟨by kernel_rfl,by kernel_rfl,by kernel_rfl⟩
instance:TyC (TV p q).P 54 true 2:=⟨Hl⟩
def z54:bj (TV p q).P 54=some (.agg #[.slice none 0 0,.slice none 0 0]):=by kernel_rfl
def dY:∀b o,aD (TV p q).P 54 (ptr b o) 0=some (ptr b (o+0)):=fun _ _=>by kernel_rfl
instance:FaC (TV p q).P 54 0 0:=⟨dY⟩
def jL:TyI (TV p q).P 51 false 1:=⟨by kernel_rfl,by kernel_rfl,by kernel_rfl⟩
instance:TyC (TV p q).P 51 false 1:=⟨jL⟩
def z51:bj (TV p q).P 51=some (.slice none 0 0):=by kernel_rfl
def eO:∀b o,aD (TV p q).P 54 (ptr b o) 1=some (ptr b (o+1)):=fun _ _=>by kernel_rfl
instance:FaC (TV p q).P 54 1 1:=⟨eO⟩
def kT:TyI (TV p q).P 52 false 1:=⟨by kernel_rfl,by kernel_rfl,by kernel_rfl⟩
instance:TyC (TV p q).P 52 false 1:=⟨kT⟩
def Ql:bj (TV p q).P 52=some (.slice none 0 0):=by kernel_rfl
abbrev u2:Rep (SR):=(rL bg)
def Pg:(TV p q).P.underlying 125=some (.slice 52):=by kernel_rfl
instance:UsC (TV p q).P 125 52:=⟨Pg⟩
def KN:SlT (TV p q).P 125 52 1:=SlT.of (by kernel_rfl)
instance:SlC (TV p q).P 125 52 1:=⟨KN⟩
def HW:(TV p q).P.underlying 52=some (.slice 51):=by kernel_rfl
instance:UsC (TV p q).P 52 51:=⟨HW⟩
def pw:SlT (TV p q).P 52 51 1:=SlT.of (by kernel_rfl)
instance:SlC (TV p q).P 52 51 1:=⟨pw⟩
def Ma:(TV p q).P.underlying 51=some (.slice 3):=by kernel_rfl
instance:UsC (TV p q).P 51 3:=⟨Ma⟩
def eU:SlT (TV p q).P 51 3 1:=SlT.of (by kernel_rfl)
instance:SlC (TV p q).P 51 3 1:=⟨eU⟩
def qH:bj (TV p q).P 103=some (.agg #[.int .i64 0,.int .i64 0,.int .i64 0,.int .i64 0]):=by kernel_rfl
def xz:BdT (TV p q).P 103 (.agg #[.int .i64 0,.int .i64 0,.int .i64 0,.int .i64 0]) [(0,1),(1,1),(2,1),(3,1)]:=.mk' (by kernel_rfl) (by kernel_rfl)
def FN:TyI (TV p q).P 103 true 4:=⟨by kernel_rfl,by kernel_rfl,by kernel_rfl⟩
instance:TyC (TV p q).P 103 true 4:=⟨FN⟩
def vT:∀b o,aD (TV p q).P 103 (ptr b o) 0=some (ptr b (o+0)):=fun _ _=>by kernel_rfl
instance:FaC (TV p q).P 103 0 0:=⟨vT⟩
def vm:∀b o,aD (TV p q).P 103 (ptr b o) 1=some (ptr b (o+1)):=fun _ _=>by kernel_rfl
instance:FaC (TV p q).P 103 1 1:=⟨vm⟩
def IS:bj (TV p q).P 104=some (.agg #[.int .i64 0,.int .i64 0]):=by kernel_rfl
def Gj:BdT (TV p q).P 104 (.agg #[.int .i64 0,.int .i64 0]) [(0,1),(1,1)]:=.mk' (by kernel_rfl) (by kernel_rfl)
def N6:TyI (TV p q).P 104 true 2:=⟨by kernel_rfl,by kernel_rfl,by kernel_rfl⟩
instance:TyC (TV p q).P 104 true 2:=⟨N6⟩
def Pk:(TV p q).P.underlying 98=some (.map 104 44):=by kernel_rfl
def z44:bj (TV p q).P 44=some (.agg #[.int .i64 0,.int .i64 0,.int .i64 0,.int .i64 0]):=by kernel_rfl
def Kp:TyI (TV p q).P 44 true 4:=⟨by kernel_rfl,by kernel_rfl,by kernel_rfl⟩
instance:TyC (TV p q).P 44 true 4:=⟨Kp⟩
def NC:ArT (TV p q).P 104 3 2 1:=⟨by kernel_rfl,by kernel_rfl,by kernel_rfl⟩
instance:ArC (TV p q).P 104 3 2 1:=⟨NC⟩
def zq:BdT (TV p q).P 44 (.agg #[.int .i64 0,.int .i64 0,.int .i64 0,.int .i64 0]) [(0,1),(1,1),(2,1),(3,1)]:=.mk' (by kernel_rfl) (by kernel_rfl)
def mM:∀b o,aD (TV p q).P 103 (ptr b o) 2=some (ptr b (o+2)):=fun _ _=>by kernel_rfl
instance:FaC (TV p q).P 103 2 2:=⟨mM⟩
def K1:∀b o,aD (TV p q).P 44 (ptr b o) 2=some (ptr b (o+2)):=fun _ _=>by kernel_rfl
instance:FaC (TV p q).P 44 2 2:=⟨K1⟩
def Kw:∀b o,aD (TV p q).P 44 (ptr b o) 3=some (ptr b (o+3)):=fun _ _=>by kernel_rfl
instance:FaC (TV p q).P 44 3 3:=⟨Kw⟩
def Ko{n l1 a0 c0}{r0:SV}{e0:SS}{r}(hF:OU n l1=some r)(m){H:SV}(hH:∀b,H b->b<m.next)(h5:Rd m a0 c0 1 l1.length e0)(h6:∀b,kK a0=some b->¬H b)(h7:(cd u2 r0 l1 e0).P m)(h8:∀b,r0 b->¬H b):
 aI (TV p q) 53 [bD a0 l1 c0] m (fun v m'=>∃x:SU×Nat×Nat×SS ×(Nat->Prop),v=.slice x.1 x.2.2.1 x.2.1/\Hp m m' [.rd x.1 x.2.1 1 x.2.2.1 x.2.2.2.1,.gen (cd bg x.2.2.2.2 r x.2.2.2.1),dT H]):=by
 unfold OU at hF;refine cw Try.func53 (Hp.GM (l0:=[iM a0 c0 l1 e0]) (Hp.oU (l0:=[]) (Hp.sb m hH) dI h5 h6) (eC dI) h7 h8) ?_;refine fW ?_;refine Th ?_;obtain⟨v0,h0,hF⟩:=J hF;refine ct (fun v0 (_:TP)=>⟨(.exit 0),[(0,bD a0 l1 c0),(3,ba v0)],[iM a0 c0 l1 e0,fO u2 r0 l1 e0,dT H]⟩) v0 ?_ ?_;refine lo h0 () [1,0,2] (fun(v1,v2) _=>⟨.normal,[(0,bD a0 l1 c0),(3,ba v1),(9,bD a0 l1 c0),(10,dN l1),(11,ba v2)],[iM a0 c0 l1 e0,fO u2 r0 l1 e0,dT H]⟩) ?_;clear hF h0;rintro⟨v1,v2⟩ ⟨⟩ r hF;unfold ou at hF;refine wz ?_;refine Td ?_;rcases U hF with⟨h9,hF⟩|⟨h9,hF⟩;refine au ?_;obtain⟨h10,hF⟩:=cO hF;refine Tv (k:=0) rfl (aM h10) ?_;rintro b1 o1 rfl;refine wz ?_;obtain⟨l7,h11,hF⟩:=J hF;refine wl 1 0 2 0 h11 ?_;rintro⟨a6,c6,e7⟩;refine fW ?_;rcases U hF with⟨h3,hF⟩|⟨h3,hF⟩;refine Ty rfl h3 ?_;cases hF;refine au ?_;cases hF;exact ae () [3,4,5];refine wz ?_;cases hF;exact ae () [0,1,2];rintro⟨⟩;refine au ?_;obtain⟨l2,h12,hF⟩:=J hF;refine wq (fun l2 ((a1,c1,e3,r1):SU×Nat×SS ×(Nat->Prop))=>(.slice a1 l2.length c1,[.gen (mZ a1 c1 1 l2.length e3),fO bg r1 l2 e3,iM a0 c0 l1 e0,fO u2 r0 l1 e0,dT H])) l2 (fun m hm=>?_) ?_;clear hF;revert l2;intro r hF;refine aQ (N:=27) (rs:=[.tmp 4]) rfl Try.func76 rfl rfl rfl hm ?_;refine au ?_;rcases U hF with⟨h4,hF⟩|⟨h4,hF⟩;refine Ty rfl h4 ?_;cases hF;refine wz ?_;refine Td ?_;obtain⟨l3,h13,hF⟩:=J hF;refine ct (fun l3 ((a2,c2,e4,r3):SU×Nat×SS ×(Nat->Prop))=>⟨.normal,[(0,bD a2 l3 c2)],[.gen (mZ a2 c2 1 l3.length e4),fO bg r3 l3 e4,iM a0 c0 l1 e0,fO u2 r0 l1 e0,dT H]⟩) l3 ?_ ?_;clear hF;revert l3;intro r hF;refine wz ?_;refine Tc (JU HW rfl) rfl ?_;refine au ?_;rcases U hF with⟨h14,hF⟩|⟨h14,hF⟩;refine wz ?_;refine Tc (JU HW rfl) rfl<|Tc (Ot pw rfl rfl (.inr ⟨_,rfl⟩)) rfl ?_;refine wz ?_;obtain⟨h15,hF⟩:=az hF;obtain⟨h16,hF⟩:=az hF;refine Ts (KY (g:=fun e:TO SX=>e) (z0:=[.slice none 0 0]) pw u3 rfl h15 h16 z51 rfl rfl) gn rfl fun b0=>?_;refine Wo.dp (r:=bg) (L:=(List.replicate (S6 (v0-(S6 (0-0)))).toNat ([]:TO Int))) (es:=((List.replicate (S6 (v0-(S6 (0-0)))).toNat [.slice none 0 0]).map fun e=>e)) (gT.rep (r:=bg) (z:=[]) (g:=(none,0)) Lf.s0 _) ?_;intro r6;refine Tc (aS rfl) rfl<|Tc (nX (k:=0) HW rfl rfl (.inr rfl)) rfl ?_;obtain⟨h17,hF⟩:=az hF;obtain⟨h1,hF⟩:=az hF;replace h1:=of_decide_eq_true h1;refine Tq (Tj (k:=1) rfl)<|Tq (aa.vW (k:=1) rfl)<|Tu (LU (r:=bg) (k:=1) (q:=0) (hi:=0) pw rfl rfl rfl rfl h17 h1) gn rfl ?_;refine wz ?_;cases hF;exact ae ((some ⟨b0,0,none⟩),(S6 (v0-(S6 (0-0)))).toNat,(((List.replicate (S6 (v0-(S6 (0-0)))).toNat [.slice none 0 0]).map fun e=>e).take S7),r6) [1,0,2,3,4];refine wz ?_;cases hF;exact aT (none,0,[],(fun _=>False)) (To (TH 1 rfl) (To (aa.vW (k:=0) rfl) (To (aa.EY (r:=bg)) (Ti [1,0,2,3,4] rfl rfl))));rintro⟨a2,c2,e4,r3⟩;refine fW ?_;obtain rfl:=QL hF;exact ar (a2,c2,e4,r3) (TL 0 5);rintro⟨a1,c1,e3,r1⟩;refine au ?_;refine Th ?_;obtain⟨l4,h2,hF⟩:=J hF;refine ct (fun l4 ((a3,c3,e5,r4):SU×Nat×SS ×(Nat->Prop))=>⟨(.exit 2),[(6,bD a3 l4 c3)],[.gen (mZ a3 c3 1 l4.length e5),fO bg r4 l4 e5,dT H]⟩) l4 ?_ ?_;refine lo h2 (a1,c1,e3,r1) [0,1,2,3,4] (fun(l5,v3) ((a4,c4,e1,r5):SU×Nat×SS ×(Nat->Prop))=>⟨.normal,[(6,bD a4 l5 c4),(25,bD a0 l1 c0),(26,dN l1),(27,ba v3)],[.gen (mZ a4 c4 1 l5.length e1),fO bg r5 l5 e1,iM a0 c0 l1 e0,fO u2 r0 l1 e0,dT H]⟩) ?_;clear hF h2;rintro⟨l5,v3⟩ ⟨a4,c4,e1,r5⟩ r hF;unfold oq at hF;refine wz ?_;refine Td ?_;rcases U hF with⟨h18,hF⟩|⟨h18,hF⟩;refine au ?_;obtain⟨h19,hF⟩:=cO hF;refine Tv (k:=2) rfl (aM h19) ?_;rintro b2 o2 rfl;refine wz ?_;obtain⟨l6,h20,hF⟩:=J hF;refine wl 1 0 4 0 h20 ?_;rintro⟨a7,c7,e6⟩;refine au ?_;obtain⟨h21,hF⟩:=az hF;refine Ts (Lc (r:=bg) (k:=3) (q:=4) (q2:=1) (L:=l5) (L':=l6) pw ⟨_,HW⟩ rfl rfl rfl rfl (fun m hm=>hm.q 0) rfl rfl h21) gn rfl ?_;rintro⟨a5,c5,r7⟩;refine au ?_;cases hF;exact ae (a5,c5,(e1++e6),r7) [3,4,5,6,7];refine wz ?_;cases hF;exact ae (a4,c4,e1,r5) [0,1,4];rintro⟨a3,c3,e5,r4⟩;refine fW ?_;obtain rfl:=QL hF;exact Tt (.tmp rfl .nil) fun m' hm=>⟨(a3,c3,l4.length,e5,r4),rfl,(To (aa.qF (k:=0) rfl) (Ti [0,1,2] rfl rfl)) m' hm⟩
def iD{n l1 l2 a0 c0 a1 c1}{r0:SV}{e0:SS}{r}(hF:zD n l1 l2=some r)(m){H:SV}(hH:∀b,H b->b<m.next)(h0:Ah m a0 c0 l1)(h1:∀b,kK a0=some b->¬H b)(h2:Rd m a1 c1 1 l2.length e0)(h3:∀b,kK a1=some b->¬H b)(h4:(cd bg r0 l2 e0).P m)(h5:∀b,r0 b->¬H b):
 aI (TV p q) 25 [kI a0 l1 c0 a1 l2 c1] m (fun v m'=>∃x:SU×Nat×Nat×SS ×(Nat->Prop),v=.slice x.1 x.2.2.1 x.2.1/\Hp m m' [.rd x.1 x.2.1 1 x.2.2.1 x.2.2.2.1,.gen (cd bg x.2.2.2.2 r x.2.2.2.1),dT H]):=by
 unfold zD at hF;refine cw Try.func25 (Hp.GM (l0:=[iM a1 c1 l2 e0,mY a0 c0 l1]) (Hp.oU (l0:=[mY a0 c0 l1]) (Hp.oU (l0:=[]) (Hp.sb m hH) dI h0 h1) (eC dI) h2 h3) (eC (eC dI)) h4 h5) ?_;refine wz ?_;refine wb fun b1=>?_;refine au ?_;refine Ts (bY (es:=[[bD a0 l1 c0]]) pw rfl (bZ pw z51 rfl rfl) rfl rfl) gn rfl fun b0=>?_;refine Wo.dp (r:=bg) (L:=([l1]:SR)) (es:=[[bD a0 l1 c0]]) (gT.cons (r:=bg) (z:=l1) (g:=(a0,c0)) (Lf.s (k:=4) rfl) gT.nil) ?_;intro r3;refine Tc (aG (r:=ptr b1 1) rfl (eO _ _)) rfl<|Tc (aH (k:=2) kT rfl rfl rfl) rfl<|Tq (Tj (k:=1) rfl)<|Tq (Tg (k:=1) rfl)<|Ts (bY (es:=[[kZ b0],[bD a1 l2 c1]]) KN rfl (bZ KN Ql rfl rfl) rfl rfl) gn rfl fun b2=>?_;refine Wo.dp (r:=u2) (L:=([[l1],l2]:TO (SR))) (es:=[[kZ b0],[bD a1 l2 c1]]) (gT.cons (r:=u2) (z:=[l1]) (g:=((some ⟨b0,0,none⟩),1,[[bD a0 l1 c0]])) (Lf.l (k:=2) (q:=1) rfl rfl rfl) (gT.cons (r:=u2) (z:=l2) (g:=(a1,c1,e0)) (Lf.l (k:=5) (q:=4) rfl rfl rfl) gT.nil)) ?_;intro r4;obtain⟨l3,h6,hF⟩:=J hF;refine Tq (Tj (k:=1) rfl)<|Tq (Tg (k:=1) rfl)<|EU gn (fun m hm=>Ko h6 m hm.du (hm.q 1) (hm.no 1) (hm.dp (q:=0) rfl) (hm.fQ (q:=0) rfl)) ?_;rintro⟨a2,c2,n0,e1,r1⟩;refine Wo.iv (k:=0) (q:=1) (L:=l3) rfl (.inr (.inl ⟨_,rfl⟩)) rfl ?_;rintro rfl;refine au ?_;obtain rfl:=QL hF;exact ar (a2,c2,l3.length,e1,r1) [0,1,10]
def JA(hE:EnvOk (TV p q))(n:Nat)(l6:SQ)(l1:SO)(a1:SU)(c3:Nat)(a0:SU)(c0:Nat)(r0:SV)(e0:SS)(r:TO ((Int×Int) ×(SP)))(hF:KK n l6 l1=some r)(m:TS)(h23:ja m a1 c3 l6)(h24:lW m a0 c0 l1 e0)(h25:(cd ak r0 l1 e0).P m){R:SX->TS->Prop}(kN:∀g:Nat×Nat,Vk (TV p q) 66 24 none (OC 4 (k8 Try.f24)) (iF (TV p q) [.tmp 2] R) m ((fun(r:TO ((Int×Int) ×(SP))) (g:Nat×Nat)=>match r,g with|l13,(b8,b9)=>([(3,ptr b8 0),(8,.slice none 0 0)]:Fs)) r g) ((fun(r:TO ((Int×Int) ×(SP))) (g:Nat×Nat)=>match r,g with|l13,(b8,b9)=>([dW b8 b9,.obj b9 (.map (l13.map (eM (fun p:Int×Int=>.agg #[.int .i64 p.1,.int .i64 p.2]) (fun x:SP=>.agg #[.int .i64 x.1,.int .i64 x.2.1,.int .i64 x.2.2.1,.int .i64 x.2.2.2]))))]:TO Pc)) r g)) :
 Vk (TV p q) 66 24 none (k8 Try.f24) (iF (TV p q) [.tmp 2] R) m (nB [kI a1 l6 c3 a0 l1 c0] 0 []) [fO ak r0 l1 e0,De a0 c0 l1 e0,q6 a1 c3 l6]:=by
 unfold KK at hF;refine Vk.seq hE<|Te<|wb fun b13=>?_;refine wz ?_;refine At.Hh<|Vk.seq hE<|Te<|Ts Fu gn rfl fun b0=>?_;refine wa Qg fun b1=>?_;refine wz ?_;refine At.Hh<|Vk.seq hE ?_;refine wz ?_;obtain⟨l7,h4,hF⟩:=J hF;refine wq (fun l7 (b10:Nat)=>(.func (.func 73) #[] #[ptr b10 0],(fp b10 a1 l6 c3 a0 l1 c0 e0 ak r0 [dW b1 b0,.obj b0 (.map (l7.map (eM (fun p:Int×Int=>.agg #[.int .i64 p.1,.int .i64 p.2]) (fun x:SP=>.agg #[.int .i64 x.1,.int .i64 x.2.1,.int .i64 x.2.2.1,.int .i64 x.2.2.2]))))]))) l7 (fun m hm=>?_) ?_;clear hF;revert l7;intro r hF;refine aQ (N:=4) (rs:=[.tmp 2]) rfl Try.func50 rfl rfl rfl hm ?_;refine wz ?_;refine wb fun b11=>?_;refine au ?_;refine Tc (je rfl rfl) rfl ?_;refine au ?_;cases hF;exact ar b11 [0,6,5,4,1,2];rintro b10;refine wz ?_;refine Th ?_;obtain⟨l8,h5,hF⟩:=J hF;refine Wk.range (N:=50) (rs:=[]) (γ:=TP) (X:=fun g=>(fun(r:TO ((Int×Int) ×(SP))) (g:TP)=>(match r,g with|l8,_=>⟨.ready,none,[dW b1 b0,.obj b0 (.map (l8.map (eM (fun p:Int×Int=>.agg #[.int .i64 p.1,.int .i64 p.2]) (fun x:SP=>.agg #[.int .i64 x.1,.int .i64 x.2.1,.int .i64 x.2.2.1,.int .i64 x.2.2.2]))))]⟩:Rn)) l8 g) rfl rfl Try.func73 rfl rfl rfl ?_ (fun y=>by intro e; cases e) ?_
 clear hF;revert l8;intro r hF;intro t0 l2 r1 h6 h7;refine wz ?_;refine Th ?_;obtain⟨l10,h0,hF⟩:=J hF;refine ct (fun l10 (_:TP)=>⟨(.exit 0),[],[.obj l2 (r1 .ready none),dW b1 b0,.obj b0 (.map (l10.map (eM (fun p:Int×Int=>.agg #[.int .i64 p.1,.int .i64 p.2]) (fun x:SP=>.agg #[.int .i64 x.1,.int .i64 x.2.1,.int .i64 x.2.2.1,.int .i64 x.2.2.2]))))]⟩) l10 ?_ ?_;refine lo h0 () [0,3,4,5,6] (fun(v0,l14) _=>⟨.normal,((0,.func (.yield l2) #[] #[])::ym a0 l1 c0 v0 []),[.obj l2 (r1 .ready none),De a0 c0 l1 e0,fO ak r0 l1 e0,dW b1 b0,.obj b0 (.map (l14.map (eM (fun p:Int×Int=>.agg #[.int .i64 p.1,.int .i64 p.2]) (fun x:SP=>.agg #[.int .i64 x.1,.int .i64 x.2.1,.int .i64 x.2.2.1,.int .i64 x.2.2.2]))))]⟩) ?_;clear hF h0;rintro⟨v0,l14⟩ ⟨⟩ r hF;unfold Ka at hF;refine wz ?_;refine Td ?_;rcases U hF with⟨h8,hF⟩|⟨h8,hF⟩;refine au ?_;obtain⟨h9,hF⟩:=cO hF;refine Tv (k:=1) rfl (aM h9) ?_;rintro b2 o1 rfl;refine wz ?_;obtain⟨⟨l16,l17⟩,h10,hF⟩:=J hF;refine wl 2 0 3 0 h10 ?_;rintro⟨⟨a4,c4⟩,⟨a5,c5,e3⟩⟩;refine wa z54 fun b14=>?_;refine au ?_;obtain⟨l3,h11,hF⟩:=J hF;refine EU gn (fun m hm=>iD h11 m hm.du (hm.q 1) (hm.no 1) (hm.q 2) (hm.no 2) (hm.dp (q:=3) rfl) (hm.fQ (q:=3) rfl)) ?_;rintro⟨a3,c1,n0,e1,r3⟩;refine Wo.iv (k:=0) (q:=1) (L:=l3) rfl (.inr (.inl ⟨_,rfl⟩)) rfl ?_;rintro rfl;refine wz ?_;refine Th ?_;obtain⟨l11,h1,hF⟩:=J hF;refine ct (fun l11 (_:TP)=>⟨(.exit 2),((0,.func (.yield l2) #[] #[])::sy b2 o1 l1 c0 v0 []),(.obj l2 (r1 .ready none)::q7 b2 o1 l1 e0 ak r0 c0 [dW b1 b0,.obj b0 (.map (l11.map (eM (fun p:Int×Int=>.agg #[.int .i64 p.1,.int .i64 p.2]) (fun x:SP=>.agg #[.int .i64 x.1,.int .i64 x.2.1,.int .i64 x.2.2.1,.int .i64 x.2.2.2]))))])⟩) l11 ?_ ?_;refine lo h1 () [7,6,9,8,0,1,10,11] (fun(v1,l15) _=>⟨.normal,((0,.func (.yield l2) #[] #[])::(3,ba v0)::sy b2 o1 l1 c0 v0 [(18,bD a3 l3 c1),(19,dN l3),(20,ba v1)]),(.obj l2 (r1 .ready none)::q7 b2 o1 l1 e0 ak r0 c0 [iM a3 c1 l3 e1,fO bg r3 l3 e1,dW b1 b0,.obj b0 (.map (l15.map (eM (fun p:Int×Int=>.agg #[.int .i64 p.1,.int .i64 p.2]) (fun x:SP=>.agg #[.int .i64 x.1,.int .i64 x.2.1,.int .i64 x.2.2.1,.int .i64 x.2.2.2]))))])⟩) ?_;clear hF h1;rintro⟨v1,l15⟩ ⟨⟩ r hF;unfold Ke at hF;refine wz ?_;refine Td ?_;rcases U hF with⟨h12,hF⟩|⟨h12,hF⟩;refine au ?_;obtain⟨h13,hF⟩:=cO hF;refine Tv (k:=4) rfl (aM h13) ?_;rintro b3 o2 rfl;refine wz ?_;obtain⟨l4,h14,hF⟩:=J hF;refine wl 1 0 6 0 h14 ?_;rintro⟨a2,c2⟩;refine au ?_;refine Th ?_;obtain⟨l12,h2,hF⟩:=J hF;refine ct (fun l12 (_:TP)=>⟨(.exit 4),((0,.func (.yield l2) #[] #[])::(3,ba v0)::sy b2 o1 l1 c0 v0 (tP b3 o2 l3 c1 v1 [])),(.obj l2 (r1 .ready none)::q7 b2 o1 l1 e0 ak r0 c0 (jr b3 o2 l3 e1 bg r3 c1 [dW b1 b0,.obj b0 (.map (l12.map (eM (fun p:Int×Int=>.agg #[.int .i64 p.1,.int .i64 p.2]) (fun x:SP=>.agg #[.int .i64 x.1,.int .i64 x.2.1,.int .i64 x.2.2.1,.int .i64 x.2.2.2]))))]))⟩) l12 ?_ ?_;refine lo h2 () [2,0,3,4,5,1,7,6,8,9] (fun(v6,l5) _=>⟨.normal,((0,.func (.yield l2) #[] #[])::(3,ba v0)::(5,ba v1)::(6,bD a2 l4 c2)::sy b2 o1 l1 c0 v0 (tP b3 o2 l3 c1 v1 [(25,bD a2 l4 c2),(26,dN l4),(27,ba v6)])),(.obj l2 (r1 .ready none)::mY a2 c2 l4::q7 b2 o1 l1 e0 ak r0 c0 (jr b3 o2 l3 e1 bg r3 c1 [dW b1 b0,.obj b0 (.map (l5.map (eM (fun p:Int×Int=>.agg #[.int .i64 p.1,.int .i64 p.2]) (fun x:SP=>.agg #[.int .i64 x.1,.int .i64 x.2.1,.int .i64 x.2.2.1,.int .i64 x.2.2.2]))))]))⟩) ?_;clear hF h2;rintro⟨v6,l5⟩ ⟨⟩ r hF;unfold JR at hF;refine wz ?_;refine Td ?_;rcases U hF with⟨h15,hF⟩|⟨h15,hF⟩;refine au ?_;obtain⟨h16,hF⟩:=cO hF;refine Tv (k:=1) rfl (aM h16) ?_;rintro b5 o3 rfl;refine wz ?_;obtain⟨x3,h26,hF⟩:=J hF;refine au ?_;obtain⟨h17,hF⟩:=az hF;refine Tc (aJ rfl rfl (bU _ _ h17)) rfl ?_;obtain⟨h27,hF⟩:=cO hF;refine wz ?_;obtain⟨x4,h28,hF⟩:=J hF;refine wz ?_;refine Tc (cp rfl qH rfl (cm xz rfl rfl rfl)) rfl ?_;obtain⟨l9,h3,hF⟩:=J hF;refine Ts (tJ (k:=1) (k1:=0) (γA:=Nat) (GA:=(fun g:Nat=>(match g with|b4=>⟨.normal,[(3,ptr b1 0),(4,ptr b4 0)],(.obj l2 (r1 .ready none)::dW b1 b0::.obj b0 (.map (l5.map (eM (fun p:Int×Int=>.agg #[.int .i64 p.1,.int .i64 p.2]) (fun x:SP=>.agg #[.int .i64 x.1,.int .i64 x.2.1,.int .i64 x.2.2.1,.int .i64 x.2.2.2]))))::fF b4 x3 x4 v0 v1::om b5 o3 l4 c2 (q7 b2 o1 l1 e0 ak r0 c0 (jr b3 o2 l3 e1 bg r3 c1 [])))⟩:En))) (γ:=TP) (G:=fun g=>(fun(r:TO ((Int×Int) ×(SP))) (g:TP)=>(match r,g with|l9,_=>⟨.normal,[],(.obj l2 (r1 .busy none)::dW b1 b0::.obj b0 (.map (l9.map (eM (fun p:Int×Int=>.agg #[.int .i64 p.1,.int .i64 p.2]) (fun x:SP=>.agg #[.int .i64 x.1,.int .i64 x.2.1,.int .i64 x.2.2.1,.int .i64 x.2.2.2]))))::om b5 o3 l4 c2 (q7 b2 o1 l1 e0 ak r0 c0 (jr b3 o2 l3 e1 bg r3 c1 [])))⟩:En)) l9 g) rfl rfl rfl h7 h6 rfl ?_ (fun _=>rfl) (fun _=>rfl) ?_ (fun y=>rfl)) gn rfl ?_
 clear hF h3;refine Te<|wa qH fun b12=>?_;refine wz ?_;exact ae b12 (2::10::11::0::1::TL 3 7);clear hF;revert l9;intro r hF;rintro b4;refine wz ?_;refine Tc (ll rfl rfl (mc _ _)) rfl ?_;refine wz ?_;refine Tc (ll rfl rfl (zf _ _)) rfl<|Tc (cp rfl IS rfl (cm Gj rfl rfl rfl)) rfl<|wa IS fun b6=>?_;refine au ?_;obtain⟨⟨⟨y0,y1,y2,y3⟩,y4⟩,h18,hF⟩:=J hF;refine Tc (Fg (q:=3) (xs:=l5) (k:=(mi x3 x4,ma x3 x4)) (vE:=(fun x:SP=>.agg #[.int .i64 x.1,.int .i64 x.2.1,.int .i64 x.2.2.1,.int .i64 x.2.2.2])) (z0:=((0:Int),(0:Int),(0:Int),(0:Int))) Pk (Jk Jb cb.known cb.size cb.agg u3) z44 rfl rfl rfl rfl h18) rfl ?_;refine wz ?_;refine wa z44 fun b7=>?_;refine wz ?_;refine Td ?_;obtain⟨r4,h19,hF⟩:=J hF;refine ct (fun(v2,v3,v7,v8) (_:TP)=>⟨.normal,[(3,ptr b1 0),(4,ptr b4 0),(5,ptr b6 0),(6,ptr b7 0)],(.obj l2 (r1 .busy none)::dW b1 b0::.obj b0 (.map (l5.map (eM (fun p:Int×Int=>.agg #[.int .i64 p.1,.int .i64 p.2]) (fun x:SP=>.agg #[.int .i64 x.1,.int .i64 x.2.1,.int .i64 x.2.2.1,.int .i64 x.2.2.2]))))::fF b4 x3 x4 v0 v1::.obj b6 (.cells [.int .i64 (mi x3 x4),.int .i64 (ma x3 x4)] .own)::fF b7 v2 v3 v7 v8::om b5 o3 l4 c2 (q7 b2 o1 l1 e0 ak r0 c0 (jr b3 o2 l3 e1 bg r3 c1 [])))⟩) r4 ?_ ?_;clear hF;revert r4;intro r hF;refine wz ?_;rcases U hF with⟨h20,hF⟩|⟨h20,hF⟩;refine wz ?_;refine Tc (cp rfl z44 rfl (cm zq rfl rfl rfl)) rfl ?_;refine wz ?_;cases hF;exact ae () (2::3::4::5::1::0::TL 6 8);refine wz ?_;cases hF;exact ae () (2::3::4::5::1::0::TL 6 8);clear h19;obtain⟨v2,v3,v7,v8⟩:=r4;rintro⟨⟩;refine Tl<|Td ?_;obtain⟨r5,h21,hF⟩:=J hF;refine ct (fun(v4,v5) (_:TP)=>⟨.normal,[(3,ptr b1 0),(4,ptr b4 0),(5,ptr b6 0),(6,ptr b7 0)],(.obj l2 (r1 .busy none)::dW b1 b0::.obj b0 (.map (l5.map (eM (fun p:Int×Int=>.agg #[.int .i64 p.1,.int .i64 p.2]) (fun x:SP=>.agg #[.int .i64 x.1,.int .i64 x.2.1,.int .i64 x.2.2.1,.int .i64 x.2.2.2]))))::fF b4 x3 x4 v0 v1::.obj b6 (.cells [.int .i64 (mi x3 x4),.int .i64 (ma x3 x4)] .own)::fF b7 v2 v3 v4 v5::om b5 o3 l4 c2 (q7 b2 o1 l1 e0 ak r0 c0 (jr b3 o2 l3 e1 bg r3 c1 [])))⟩) r5 ?_ ?_;clear hF;revert r5;intro r hF;refine wz ?_;rcases U hF with⟨h22,hF⟩|⟨h22,hF⟩;refine wz ?_;cases hF;exact ae () (TL 0 14);refine wz ?_;cases hF;exact ae () (TL 0 14);clear h21;obtain⟨v4,v5⟩:=r5;rintro⟨⟩;refine au ?_;refine Tz (Dn (q:=2) (xs:=l5) (k:=(mi x3 x4,ma x3 x4)) (v:=(v2,v3,v4,v5)) (vE:=(fun x:SP=>.agg #[.int .i64 x.1,.int .i64 x.2.1,.int .i64 x.2.2.1,.int .i64 x.2.2.2])) Pk (Jk Jb cb.known cb.size cb.agg u3) rfl rfl rfl rfl) ?_;refine wz ?_;cases hF;exact ae () (0::1::2::TL 6 8);rintro⟨⟩;refine fW ?_;cases hF;exact ae () [0,4,5,6,7,8,9,10,1,2];refine wz ?_;cases hF;exact ae () (0::TL 2 8);rintro⟨⟩;refine au ?_;cases hF;exact ae () [0,1,2,3,6,5,7,8];refine wz ?_;cases hF;exact ae () [0,1,2,3,6,7];rintro⟨⟩;refine au ?_;cases hF;exact ae () [0,3,2,4,5];refine wz ?_;cases hF;exact ae () [0,3,4];rintro⟨⟩;refine TJ ?_;obtain rfl:=QL hF;exact At.fin .nil fun m' hm=>⟨(),(Ti [0,1,2] rfl rfl) m' hm⟩;rintro⟨⟩
 change At _ .normal _ _ _
 refine At.bn<|At.Hh<|Vk.seq hE ?_;refine wz ?_;refine At.Hh ?_;cases hF;exact Vk.Fq (sc rfl (sc rfl sn)) (Ti [0,1] rfl rfl) (kN (b1,b0))
end Go.Proofs.Ytmndpgfbkicndaa
namespace Go.Ab
open Go
section
variable{E:Env}{j j1:aN}{m m1:TS}{w w1:S5}
def Sim.J1(h:MR E j m w)(s:Sim E j { m with wl:=m.next} w j1 m1 w1)(g:Grown m m1){b1:Nat}{k1:Blk}{cs:TO SX}{tag:Tag}(hb:m.next<=b1)(hk:j1 b1=some k1)(ho:m1.get b1=some (.cells cs tag))(hp:cs.all aP=true){k2:Blk}{tag2:Tag}(hc2:k2.c=k1.c)(htg:∀(c:TW SX) (fz:Nat×Nat),pj k1 tag cs.length c fz->pj k2 tag2 cs.length c fz) :
  Sim E j m w (j.set m.next k2) (m.alloc (.cells cs tag2)) w1:=by
 have hn:j m.next=none:=h.mT
 have hj1:j b1=none:=by
  cases e:j b1 with
  | none=>rfl
  | some k=>exact Q1 (h.lt b1 k e).1 (by omega)
 have hfresh:w.heap.size<=k1.c:=by
  rcases s.fresh b1 k1 hk hj1 with hf|⟨b0,k0,a1,_,_,a4⟩
  exact hf
  have:=(h.lt b0 k0 a1).1; have:=g.wl; omega
 refine⟨.alloc m _,aN.nJ k2 hn,?_,?_,s.size,?_,?_,?_,fun c hc _=>s.old h g c hc,s.calm⟩
 intro b k e e'
 by_cases hbm:b=m.next
 omega
 rw[aN.bM _ _ hbm,e'] at e; cases e
 ·have ha:=h.after s g;refine⟨fun b k e=>?_,fun b o k ho' e=>?_,fun b b' k k' e e' hl hl' hc=>?_,fun gl hgl=>?_⟩
  by_cases hbm:b=m.next
  subst hbm; rw[aN.bV] at e; cases e;exact⟨Ss _,hc2 ▸(s.mr.lt b1 k1 hk).2⟩
  rw[aN.bM _ _ hbm] at e;exact⟨Nat.lt_succ_of_lt (h.lt b k e).1,(ha.lt b k e).2⟩
  ·rw[TS.aU] at ho'
   by_cases hbm:b=m.next
   ·subst hbm; rw[aN.bV] at e; cases e;rw[QH rfl] at ho'; cases ho';obtain⟨o',h1,h2⟩:=s.mr.obj b1 _ k1 ho hk;refine⟨o',hc2▸h1,?_⟩;cases o' with
    | cells c ty fz =>
     refine⟨htg _ _ h2.1,fun i v hi=>?_⟩;obtain⟨v',h3,h4⟩:=h2.2 i v hi;have hpv:=QS.1 hp v (Q4 hi);have:=fB hpv h4;subst this;exact⟨_,h3,.aP hpv⟩
    | _=>exact h2.elim
   rw[QF hbm] at ho';rw[aN.bM _ _ hbm] at e;obtain⟨o',h1,h2⟩:=ha.obj b o k ho' e;exact⟨o',h1,h2.mono (aN.nJ k2 hn)⟩
  have old:∀{b k},j b=some k->(m.get b).isSome=true->k.c≠k1.c:=fun{b k} e hl hc=>by
   have hlt:=(h.lt b k e).1;have:=s.mr.inj b b1 k k1 (s.le b k e) hk (by rw[g.same b hlt]; exact hl) (by rw[ho]; rfl) hc
   omega
  by_cases hbm:b=m.next
  by_cases hbm':b'=m.next
  rw[hbm,hbm']
  subst hbm; rw[aN.bV] at e; cases e;rw[aN.bM _ _ hbm'] at e';rw[TS.aU,QF hbm'] at hl';exact Q1 (hc.symm.trans hc2) (old e' hl')
  by_cases hbm':b'=m.next
  subst hbm'; rw[aN.bV] at e'; cases e';rw[aN.bM _ _ hbm] at e;rw[TS.aU,QF hbm] at hl;exact Q1 (hc.trans hc2) (old e hl)
  rw[aN.bM _ _ hbm] at e;rw[aN.bM _ _ hbm'] at e';rw[TS.aU,QF hbm] at hl;rw[TS.aU,QF hbm'] at hl';exact h.inj b b' k k' e e' hl hl' hc
  have:=h.glob gl hgl;have hlt:=(h.lt gl _ this).1;rw[aN.bM _ _ (by omega)]; exact this
 intro b hb1 hb2 _;have:b=m.next:=by simp at hb2; omega
 subst this; exact⟨k2,aN.bV _ _ _⟩
 intro b hb _;rw[TS.aU,S8]
 intro b k e e'
 by_cases hbm:b=m.next
 subst hbm; rw[aN.bV] at e; cases e;exact .inl (hc2▸hfresh)
 rw[aN.bM _ _ hbm,e'] at e; cases e
end
namespace W
def qn{E:Env}{f:T1}{args:TO SX}{m:TS}{v:SX}{m':TS}(h:Fy E f args { m with wl:=m.next} fun v1 m1=>Grown m m1 /\
  ((bB v=true/\v1=v/\m'=m)\/∃b1 cs tag sz n,0<sz/\cs.length=n*sz/\n<=9223372036854775807/\v1=.slice (some ⟨b1,0,none⟩) n n/\v=.slice (some ⟨m.next,0,none⟩) n n/\m.next<=b1/\b1<m1.next/\m1.get b1=some (.cells cs tag)/\(tag=.own\/tag=.more sz)/\cs.all aP=true/\m'=m.alloc (.cells cs (.more sz)))) (pr:Bool) {j:aN} {w:S5} {args':TO SX} (hm:MR E j m w) (hl:LR j args args'):gk E.P pr f args'.toArray w (iC E j m w v m'):=by
 refine lN (fun h=>by cases h) (h j w args' (MR.uH hm) hl) ?_
 rintro v' w' ⟨v1,m1,⟨hg,hc⟩,j',s,hv⟩;rcases hc with⟨hpv,rfl,rfl⟩|⟨b1,cs,tag,sz,n,hsz,hcl,hn,rfl,rfl,hb,hb1,ho,htag,hpl,rfl⟩
 exact⟨j,Sim.forget hm s hg,VR.Dm hpv hv⟩
 ·cases hv with
  | slice hj hmo =>
   rename_i k1;refine⟨_,Sim.J1 hm s hg hb hj ho hpl (k2:=⟨k1.c,some (sz,cs.length,cs.length)⟩) (tag2:=.more sz) rfl (fun c fz ht=>?_),.sliceM (k:=⟨k1.c,some (sz,cs.length,cs.length)⟩) (aN.bV _ _ _) rfl (by rw[hcl,RV]) (by rw[hcl,RV]) (QK _) (QK _)⟩
   rcases htag with rfl|rfl
   obtain⟨_,t2,rfl⟩:k1.more=none/\c.size=cs.length/\fz=(0,0):=ht;refine⟨by rw[t2],by rw[t2]; exact QK _,rfl,hsz,?_⟩
   unfold hY;rw[t2,hcl,Nat.mul_comm]; exact Nat.mul_le_mul_left _ hn
   have:k1.more=some (sz,cs.length,c.size):=ht.1;rw[hmo] at this; cases this
  | sliceM hj hmo a1 a2 a3 a4 =>
   rename_i c' sz' na nc k1;refine⟨_,Sim.J1 hm s hg hb hj ho hpl (k2:=k1) (tag2:=.more sz) rfl (fun c fz ht=>?_),.sliceM (k:=k1) (aN.bV _ _ _) hmo a1 a2 a3 a4⟩;rcases htag with rfl|rfl
   have:k1.more=none:=ht.1;rw[hmo] at this; cases this
   exact ht
end W
end Go.Ab
namespace Go.Proofs.Ytmndpgfbkicndaa
section
open Go Go.Ab Go.Ab.W
set_option maxRecDepth 10000
def Eo{m:TS}{x b:Nat}:({ m with wl:=x}:TS).get b=m.get b:=rfl
def BS{m:TS}{x w c n:Nat}{a:SU}{es:SS}(h:Rd m a c w n es):Rd { m with wl:=x} a c w n es:=h
def J0{m:TS}{x:Nat}{R:SV}{L:SO}{es:SS}(h:(cd ak R L es).P m):(cd ak R L es).P { m with wl:=x}:=h
attribute [local irreducible] Tm.at Trie.set Trie.get TS.get TS.set TS.alloc TS.ww TS.kill
def rp(l:TO fe):((l.map eQ).flatten).length=l.length*4:=by rw[cy (w:=4) (fun e he=>by obtain⟨x,_,rfl⟩:=Rj.1 he; rfl),Q0]
def H3{p q:TN Prim}{m0 m:TS}{ps:TO Pc}(h:Hp m0 m ps){k nn:Nat}{a:SU}{l:TO fe}(hp:pk ps k=some (.sl a 4 nn (l.map eQ)))(hok:rG l=true)(hlim:lim nn=true) :
    aI (TV p q) 51 [.slice a nn nn,.func (.func 52) #[] #[]] m (fun v m'=>∃_:TP,v=.tuple #[]/\Hp m0 m' (bI ps k (.sl a 4 nn ((l.mergeSort dS).map eQ)))):=by
  rcases h.get hp with⟨rfl,e2,rfl,_⟩|⟨b,tg,rfl,hO⟩
  have hl:l=[]:=Sr.1 e2;subst hl;refine aI.cH (p:=⟨kq⟩) rfl (v:=.tuple #[]) (m':=m) rfl ⟨(),rfl,?_⟩;rw[List.mergeSort_nil,pF _ _ _ hp];exact h
  obtain⟨h1,h2,h3,h4,h5,h6,h7⟩:=hO;have hn:l.length=nn:=by simpa using h4
  subst hn;have hw:gh m 4 b l.length l.length=some ((l.map eQ).flatten,tg):=by
    unfold gh;rcases h6 with rfl|rfl<;>simp only[h3]
    rw[QH ⟨trivial,rp _⟩]
    rw[QH ⟨trivial,rp _,trivial⟩]
  refine aI.cH (p:=⟨kq⟩) rfl (v:=.tuple #[]) (m':=m.set b (.cells ((l.mergeSort dS).map eQ).flatten tg)) ?_ ⟨(),rfl,?_⟩
  show kq [.slice (some ⟨b,0,none⟩) l.length l.length,.func (.func 52) #[] #[]] m=_
  simp only[kq,hw,p7];rw[QH ⟨⟨rfl,rfl⟩,hlim,hok⟩]
  refine h.write hp rfl rfl rfl rfl (.inr ⟨b,tg,rfl,h1,?_,?_,?_,?_,h6,h7⟩)
  rw[TS.next_set]; exact h2
  rw[TS.bl,QH rfl]
  simp
  intro e he;obtain⟨x,_,rfl⟩:=Rj.1 he
  rfl
def kV(r:TO ((Int×Int)×fe))(S:TO Nat):TO fe:=S.filterMap fun i=>(r[i]?).map (·.2)
def pV{r:TO ((Int×Int)×fe)}{S:TO Nat}{i:Nat}{e:(Int×Int)×fe}(h:r[i]? = some e):kV r (S++[i])=kV r S++[e.2]:=by
  unfold kV;rw[List.filterMap_append];simp[h]
def KQ:TO fe->SU->SU
  | [],_=>none
  | _::_,a=>a
def uL{l:TO fe}{x:fe}{a:SU}:KQ (l++[x]) a=a:=by cases l<;>rfl
def E5{r:TO ((Int×Int)×fe)}{S:TO Nat}:(kV r S).length<=S.length:=List.length_filterMap_le _ _
def As(r:TO ((Int×Int)×fe)):kV r (List.range r.length)=r.map (·.2):=by
  unfold kV;have:∀(r:TO ((Int×Int)×fe)),(List.range r.length).filterMap (fun i=>(r[i]?).map (·.2))=r.map (·.2):=by
    intro r
    induction r with
    | nil=>rfl
    | cons x r ih =>
      rw[Rl,List.range_succ_eq_map,List.filterMap_cons];simp only[Q6,QZ,List.filterMap_map,RQ]
      congr 1
  exact this r
def Dp{r:TO ((Int×Int)×fe)}{S:TO Nat}(h:S.Perm (List.range r.length)):(kV r S).Perm (r.map (·.2)):=by
  rw[<-As];exact h.filterMap _
def CT{l l':TO fe}(h:l.Perm l')(ho:rG l'=true):rG l=true:=by
  unfold rG at *;simp only[QJ,QR,QS] at *;exact⟨fun x hx=>ho.1 x (h.mem_iff.1 hx),(h.map _).nodup_iff.2 ho.2⟩
def CK{l l':TO fe}(h:l.Perm l')(ho:rG l'=true):l.mergeSort dS=l'.mergeSort dS:=by
  obtain⟨h1,h2⟩:=sD ho;have tr:∀a b c:fe,dS a b=true->dS b c=true->dS a c=true:=by
    intro a b c; unfold dS; simp only[QR]; omega
  have to:∀a b:fe,(dS a b||dS b a)=true:=by
    intro a b; unfold dS; simp only[RO,QR]; omega
  refine List.Perm.eq_of_pairwise (le:=fun a b=>dS a b=true) ?_ (List.pairwise_mergeSort tr to _) (List.pairwise_mergeSort tr to _) ((SC _ _).trans (h.trans (SC _ _).symm));intro a b ha hb e1 e2;have ha':=(h.mem_iff.1 ((SC _ _).mem_iff.1 ha));have hb':=(SC _ _).mem_iff.1 hb;refine mX h2 ha' hb' ?_;unfold dS at e1 e2;simp only[QR] at e1 e2;exact Rz (by simp only; omega) (by simp only; omega)
def pH(x:fe):∀l:TO fe,(C4 x l).Perm (x::l)
  | []=>.refl _
  | y::l=>by
    unfold C4
    split
    exact .refl _
    exact((pH x l).cons y).trans (.swap x y l)
def lG:∀l:TO fe,(se l).Perm l
  | []=>.refl _
  | x::l=>(pH x _).trans ((lG l).cons x)
def rN(a b c:fe):dS a b=true->dS b c=true->dS a c=true:=by
  unfold dS; simp only[QR]; omega
def zG{a b:fe}(h:dS a b=false):dS b a=true:=by
  unfold dS at *; simp only[QR,decide_eq_false_iff_not] at *; omega
def qv(x:fe):∀{l:TO fe},l.Pairwise (fun a b=>dS a b=true)->(C4 x l).Pairwise (fun a b=>dS a b=true)
  | [],_=>List.pairwise_singleton _ _
  | y::l,h=>by
    obtain⟨h1,h2⟩:=Q2.1 h;unfold C4
    split
    rename_i hc;refine Q2.2 ⟨fun z hz=>?_,h⟩;rcases QY.1 hz with rfl|hz
    exact hc
    exact rN _ _ _ hc (h1 z hz)
    rename_i hc;refine Q2.2 ⟨fun z hz=>?_,qv x h2⟩;rcases QY.1 ((pH x l).mem_iff.1 hz) with rfl|hz
    exact zG (by simpa using hc)
    exact h1 z hz
def nz:∀l:TO fe,(se l).Pairwise (fun a b=>dS a b=true)
  | []=>.nil
  | x::l=>qv x (nz l)
def C0{l:TO fe}(ho:rG l=true):se l=l.mergeSort dS:=by
  obtain⟨h1,h2⟩:=sD ho;refine List.Perm.eq_of_pairwise (le:=fun a b=>dS a b=true) ?_ (nz l) (List.pairwise_mergeSort rN (fun a b=>by unfold dS; simp only[RO,QR]; omega) _) ((lG l).trans (SC _ _).symm)
  intro a b ha hb e1 e2;have ha':=(lG l).mem_iff.1 ha;have hb':=(SC _ _).mem_iff.1 hb;refine mX h2 ha' hb' ?_;unfold dS at e1 e2;simp only[QR] at e1 e2;exact Rz (by simp only; omega) (by simp only; omega)
abbrev OG:(Int×Int)×fe->SX×SX:=eM (fun p:Int×Int=>.agg #[.int .i64 p.1,.int .i64 p.2]) (fun x:SP=>.agg #[.int .i64 x.1,.int .i64 x.2.1,.int .i64 x.2.2.1,.int .i64 x.2.2.2])
def xf{E:Env}{m0 m:TS}{t:Tm}{fs:Fs}{ps:TO Pc}{ty:SY}{x:SZ}{v:SX}{ag:Bool}{sz b o k:Nat}{cs:TO SX}{tg:Tag}(ht:TyI E.P ty ag sz)(hx:ev E fs x=some (ptr b o))(hp:pk ps k=some (.obj b (.cells cs tg)))(hv:w7 ag sz cs o=some v)(hf:Fr t fs)(hm:Hp m0 m ps):eS E t m (.load ty x)=some (v,m):=by
  have h1:=hf.ev hx;have h2:=qK (P:=E.P) ht (hm.get hp).2.2 hv
  show(match an E t x with|some p=>(dK E.P ty p m).map fun v=>(v,m)|none=>none)=_
  rw[h1]
  show(dK E.P ty _ m).map _=_
  rw[h2]; rfl
def Pt{p q:TN Prim}:(TV p q).P.underlying 37=some (.slice 44):=by kernel_rfl
def MD{p q:TN Prim}:SlT (TV p q).P 37 44 4:=SlT.of (by kernel_rfl)
instance{p q:TN Prim}:UsC (TV p q).P 37 44:=⟨Pt⟩
instance{p q:TN Prim}:SlC (TV p q).P 37 44 4:=⟨MD⟩
section
variable{q:TN Prim}
set_option maxHeartbeats 4000000
def Mf{m:TS}{r:TO ((Int×Int)×fe)}{b b2:Nat}(hlim:lim r.length=true)(hok:rG (r.map (·.2))=true){R:SX->TS->Prop}
    (hR:∀(a:SU) (m':TS),(r=[]->a=none)->Hp m m' [.sl a 4 r.length ((((r.map (·.2)).mergeSort dS)).map eQ)]->R (.slice a r.length r.length) m') :
    Vk (TV none none) 66 24 none (OC 4 (k8 Try.f24)) (iF (TV none none) [.tmp 2] R) m [(3,ptr b 0),(8,.slice none 0 0)] [.obj b (.cells [.map (some b2)] .own),.obj b2 (.map (r.map OG))]:=by
  refine Vk.mapRange (E:=TV none none) rX (fun h=>h) (γ:=SU) (kt:=104) (et:=44) ⟨rfl,rfl⟩ ⟨rfl,rfl,rfl⟩ Pk ⟨rfl,rfl,rfl⟩ ⟨rfl,rfl,rfl⟩ ⟨rfl,rfl,rfl⟩ rfl (by decide) (by decide) (bm:=b2) (k:=1) (es:=r.map OG)
    (fun t m' hf hm=>xf (k:=0) OB rfl rfl rfl hf hm) rfl
    (fun bi S a=>([(8,.slice (KQ (kV r S) a) (kV r S).length (kV r S).length),(54,ptr bi 0)],[.sl (KQ (kV r S) a) 4 (kV r S).length ((kV r S).map eQ)]))
    (fun bi S g=>rfl) (fun bi S g p hp=>by rw[QW.1 hp]; exact⟨rfl,fun b hb=>.inl ⟨rfl,Pc.uY rfl hb⟩⟩) (fun _=>none) (fun bi=>⟨sc rfl (sc rfl sn),fun m1=>TH 4 rfl⟩) ?_ ?_
  intro bi m1 S i e a hS hSl hi he;rw[Q0] at hSl;rw[Rw] at he;obtain⟨e,he0,rfl⟩:=Option.map_eq_some_iff.1 he;clear he;have he:=he0;have hn:(kV r (S++[i])).length<=r.length:=by
    refine Rc E5 ?_;have hnd:(S++[i]).Nodup:=List.nodup_append.2 ⟨hS,Sb.2 ⟨List.not_mem_nil,List.nodup_nil⟩,fun x hx y hy=>by rw[QW.1 hy]; exact fun e=>hi (e▸hx)⟩
    have hsub:(S++[i])⊆List.range r.length:=fun x hx=>by
      rw[RB];rcases Q3.1 hx with hx|hx
      exact hSl x hx
      rw[QW.1 hx]; exact(QU.1 he).1
    simpa using hnd.length_le_of_subset hsub
  have hl2:lim (kV r S++[e.2]).length=true:=by
    rw[<-pV he];exact Nat.ble_eq_true_of_le (Rc hn (nW hlim))
  refine Tc (HT rfl rfl) rfl ?_;refine Ts (xr z44 rfl) gn rfl fun b6=>?_;refine Tz (ek (k:=0) Kp rfl rfl rfl rfl rfl) ?_;refine Tk (Q:=fun _=>_) ?_
  show Wk (TV none none) 66 24 none _ _ m1 _ _
  refine Te ?_;refine Tc (aS rfl) rfl ?_;refine Tc (aH (k:=0) Kp rfl rfl rfl) rfl ?_;refine Ts (bY (es:=([e.2]:TO fe).map eQ) MD rfl (bZ MD z44 rfl rfl) rfl rfl) gn rfl fun b7=>?_;refine Ts (so (k:=2) (k2:=0) (xs:=kV r S) (ys:=[e.2]) (DC (sF .i64) (DC (sF .i64) (DC (sF .i64) (sF .i64)))) MD ⟨_,Pt⟩ rfl rfl rfl (.arr _ _ _ _ _) hl2) gn rfl fun a8=>?_;refine Tc (bC rfl) rfl ?_;refine Tk (Q:=fun _=>_) ?_;intro t' m' hf hm;refine⟨rfl,a8,?_,?_⟩
  rw[pV he,uL];exact hf.sub (sc rfl (sc rfl sn))
  rw[pV he,uL];exact(Ti [2] rfl rfl) m' hm
  intro bi S a hS;rw[Q0] at hS;have hp:=Dp hS;have hlen:(kV r S).length=r.length:=by rw[hp.length_eq,Q0]
  refine Vk.of rX ?_;refine Td ?_;refine Te ?_;refine Tc (aS rfl) rfl ?_;refine Ts (ln (α:=TP) (V:=fun _=>.tuple #[]) (N:=fun _=>_) rfl rfl fun m' hm=>H3 (k:=0) (l:=kV r S) hm rfl (CT hp hok) (by rw[hlen]; exact hlim)) gn rfl fun _=>?_
  refine Tk ?_;refine Tl ?_;refine Td ?_;refine Te ?_;refine Tc (aS rfl) rfl ?_;refine Tc (bC rfl) rfl ?_;refine Tk ?_;refine Tl ?_;refine TF ?_;refine Tt (.tmp rfl .nil) fun m' hm=>?_;rw[hlen,CK hp hok] at hm;rw[hlen];exact hR _ m' (fun h=>by subst h; rw[Rh.1 hlen]; rfl) ((Ti [0] rfl rfl) m' hm)
end
abbrev vq:Int×Int->TO SX:=eP (eI .i64) (eI .i64)
abbrev Cx:=SQ×SO
def pX(m:TS)(v:SX)(x:Cx):Prop :=
  ∃a c a' c' R es,v=.agg #[.slice a x.1.length c,.slice a' x.2.length c']/\Rd m a c 2 x.1.length (x.1.map vq)/\Rd m a' c' 2 x.2.length es/\(cd ak R x.2 es).P m
def JF:∀x y:Int,eI .i64 x=eI .i64 y->x=y:=fun x y h=>by
  have:=R1 h;injection this
def Nu:∀x y:Int×Int,vq x=vq y->x=y:=fun x y h=>by
  have h1:=R1 h;have h2:=R1 (List.tail_eq_of_cons_eq h);injection h1 with _ h1;injection h2 with _ h2;exact Rz h1 h2
def Kr:yS ak:=Ps (Oy JF) (Ph (Oy JF))
def pX.uniq{m:TS}{v:SX}{x y:Cx}(h:pX m v x)(h':pX m v y):x=y:=by
  obtain⟨a,c,b,d,R,es,rfl,h1,h2,h3⟩:=h;obtain⟨a',c',b',d',R',es',e,h1',h2',h3'⟩:=h';injection e with e;injection e with e;have e1:=R1 e;have e2:=R1 (List.tail_eq_of_cons_eq e);injection e1 with e3 e4 e5;injection e2 with e6 e7 e8;subst e3 e6;have x1:=vZ Nu h1 h1' e4;have x2:=uR h2 h2' e7;subst x2;exact Rz x1 (h3.1.uniq Kr h3'.1)
def mK(m:TS)(l:TO fe):SX×TS:=if l=[] then(.slice none 0 0,m) else(.slice (some ⟨m.next,0,none⟩) l.length l.length,m.alloc (.cells (l.map eQ).flatten (.more 4)))
open Classical in
noncomputable def ly (args:TO SX) (m:TS):TN (SX×TS) :=
  match args with
  | [v]=>if h:∃l,∃x:Cx,pX m v x/\Iq 0 x.1 x.2=some l then some (mK m (Classical.choose h)) else none
  | _=>none
noncomputable def lu:Prim:=⟨ly⟩
open Classical in
def tO{m m':TS}{v r:SX}(h:ly [v] m=some (r,m')):∃x:Cx,∃l,pX m v x/\Iq 0 x.1 x.2=some l/\mK m l=(r,m'):=by
  change dite _ _ _=_ at h
  by_cases hx:∃l,∃x:Cx,pX m v x/\Iq 0 x.1 x.2=some l
  rw[dif_pos hx] at h;obtain⟨x,h1,h2⟩:=RJ hx;exact⟨x,_,h1,h2,QL h⟩
  rw[dif_neg hx] at h; cases h
open Classical in
def xV{m:TS}{v:SX}{x:Cx}{l:TO fe}(h:pX m v x)(hF:Iq 0 x.1 x.2=some l):ly [v] m=some (mK m l):=by
  have hx:∃l,∃x:Cx,pX m v x/\Iq 0 x.1 x.2=some l:=⟨l,x,h,hF⟩
  change dite _ _ _=_
  rw[dif_pos hx];obtain⟨y,h1,h2⟩:=RJ hx;have e1:=h1.uniq h;subst e1;rw[hF] at h2;rw[<-QL h2]
def wx{args:TO SX}{m m':TS}{v:SX}(h:ly args m=some (v,m'))(pr:Bool){j:aN}{w:S5}{args':TO SX}(hm:MR (TV none none) j m w)(hl:LR j args args') :
    gk (TV none none).P pr 24 args'.toArray w (iC (TV none none) j m w v m'):=by
  have ha:∃v,args=[v]:=by
    unfold ly at h
    split at h
    exact⟨_,rfl⟩
    cases h
  obtain⟨va,rfl⟩:=ha;obtain⟨⟨l1,l5⟩,l,⟨a,c,a',c',R,es,rfl,h1,h2,h3⟩,hF,he⟩:=tO h;simp only at h1 h2 h3 hF;unfold Iq at hF;obtain⟨r,hFA,hF⟩:=J hF;obtain⟨hc,hF⟩:=az hF;rw[QJ] at hc;have hl':=QL hF;subst hl';rw[C0 hc.1] at he;have hh1:Rd { m with wl:=m.next} a c 2 l1.length (l1.map vq):=BS h1
  have hh2:Rd { m with wl:=m.next} a' c' 2 l5.length es:=BS h2
  have hh3:(cd ak R l5 es).P { m with wl:=m.next}:=J0 h3
  refine qn (zh (E:=TV none none) (c:=k8 Try.f24) (m0:={ m with wl:=m.next}) (m:={ m with wl:=m.next}) (N:=66) (rs:=[.tmp 2]) (ps:=[.gen (cd ak R l5 es),.rd a' c' 2 l5.length es,.rd a c 2 l1.length (l1.map vq)]) rX Try.func24 rfl rfl rfl ((((Tp _).cF dI hh1).cF (eC dI) hh2).mz (eC (eC dI)) hh3) ?_) pr hm hl
  refine JA rX 100000 l1 l5 a c a' c' R es r hFA _ hh1 hh2 hh3 fun g=>?_;refine Mf (by simpa using hc.2) hc.1 fun a6 m1 ha6 hm1=>?_
  have hn0:({ m with wl:=m.next}:TS).next=m.next:=rfl
  refine⟨⟨hm1.ext.next,fun b hb=>(hm1.ext.same b hb).trans Eo,by have:=hm1.ext.wl; rw[hn0] at this; exact Rc (SE (Nat.min_self _).symm) this⟩,?_⟩
  have hlen:((r.map (·.2)).mergeSort dS).length=r.length:=by rw[List.length_mergeSort,Q0]
  rcases hm1.get (k:=0) rfl with⟨e3,e2,rfl,_⟩|⟨b,tg,rfl,g1,g2,g3,g4,g5,g6,g7⟩
  have e4:=Sr.1 e2;rw[e4] at he;unfold mK at he;rw[QH rfl] at he;cases he;exact .inl ⟨rfl,by rw[e3],rfl⟩
  have hr:r≠[]:=fun e=>by cases ha6 e
  have hs:(r.map (·.2)).mergeSort dS≠[]:=fun e=>hr (Sr.1 (Rh.1 (by rw[<-List.length_mergeSort (le:=dS),e]; rfl)))
  unfold mK at he;rw[QF hs,hlen] at he;cases he;exact .inr ⟨b,_,tg,4,r.length,by decide,by rw[rp,hlen],Rc (nW (by simpa using hc.2)) (by decide),rfl,rfl,g1,g2,g3,g6,nI _,rfl⟩
def oG:EnvOk (TV (some lu) none):=rH (E:=TV none none) rX (pr:=(TV (some lu) none).cH) fun f P hp=>by
  by_cases e:f=24
  subst e;have hp':some lu=some P:=hp;cases hp';exact .inr fun args m v m' h j w args' hm hl=>wx h _ hm hl
  refine .inl ?_;have:(TV (some lu) none).cH f=(TV none none).cH f:=by
    show(if f=24 then _ else _)=(if f=24 then _ else _)
    rw[QF e,QF e]
  rw[<-this]; exact hp
def GJ{q:TN Prim}(n:Nat)(l1:SQ)(l5:SO)(a2:SU)(c3:Nat)(a6:SU)(c7:Nat)(rr8:SV)(es9:SS)(r:TO fe)(hF:Iq n l1 l5=some r)(m:TS)(h4:Rd m a2 c3 2 l1.length (l1.map vq))(h10:Rd m a6 c7 2 l5.length es9)(h11:(cd ak rr8 l5 es9).P m) :
    aI (TV (some lu) q) 24 [.agg #[.slice a2 l1.length c3,.slice a6 l5.length c7]] m (fun v m'=>∃x:SU×Nat,v=.slice x.1 x.2 x.2/\Hp m m' [.sl x.1 4 x.2 (r.map (eP (eI .i64) (eP (eI .i64) (eP (eI .i64) (eI .i64)))))]):=by
  have hrun:=xV (x:=(l1,l5)) ⟨a2,c3,a6,c7,rr8,es9,rfl,h4,h10,h11⟩ hF;unfold mK at hrun
  by_cases hr:r=[]
  rw[QH hr] at hrun;refine aI.cH (p:=lu) rfl hrun ⟨(none,0),rfl,?_⟩;subst hr;exact(TH 4 rfl) m (Tp m)
  rw[QF hr] at hrun;refine aI.cH (p:=lu) rfl hrun ⟨(some ⟨m.next,0,none⟩,r.length),rfl,?_⟩
  refine(Tp m).cons (by rw[TS.next_alloc]; exact Nat.le_succ _) ((Ext.refl m).alloc _) (fun b hlt=>by rw[TS.aU,S8]) (.inr ⟨m.next,.more 4,rfl,QK _,by rw[TS.next_alloc]; exact Ss _,by rw[TS.aU,QH rfl],by simp,fun e he=>?_,.inr rfl,by decide⟩) (fun b' h'=>?_)
  obtain⟨x,_,rfl⟩:=Rj.1 he
  rfl
  cases h'; exact QK _
end
section
open Go Go.Ab Go.Ab.W
set_option maxRecDepth 10000
set_option maxHeartbeats 4000000
attribute [local irreducible] Wo Wk At Wn Od Ox bc bR
attribute [local irreducible] Tm.at Trie.set Trie.get TS.get TS.set TS.alloc TS.ww TS.kill
variable{p q:TN Prim}
def ju:∀b o,aD (TV p q).P 34 (ptr b o) 0=some (ptr b (o+0)):=fun _ _=>by kernel_rfl
instance:FaC (TV p q).P 34 0 0:=⟨ju⟩
def tL:TyI (TV p q).P 31 false 1:=⟨by kernel_rfl,by kernel_rfl,by kernel_rfl⟩
instance:TyC (TV p q).P 31 false 1:=⟨tL⟩
def Nb:(TV p q).P.underlying 31=some (.slice 26):=by kernel_rfl
instance:UsC (TV p q).P 31 26:=⟨Nb⟩
def w5:SlT (TV p q).P 31 26 2:=SlT.of (by kernel_rfl)
instance:SlC (TV p q).P 31 26 2:=⟨w5⟩
def df:TyI (TV p q).P 26 true 2:=⟨by kernel_rfl,by kernel_rfl,by kernel_rfl⟩
instance:TyC (TV p q).P 26 true 2:=⟨df⟩
def z26:bj (TV p q).P 26=some (.agg #[.int .i64 0,.int .i64 0]):=by kernel_rfl
def ec:∀b o,aD (TV p q).P 26 (ptr b o) 0=some (ptr b (o+0)):=fun _ _=>by kernel_rfl
instance:FaC (TV p q).P 26 0 0:=⟨ec⟩
def dZ:∀b o,aD (TV p q).P 26 (ptr b o) 1=some (ptr b (o+1)):=fun _ _=>by kernel_rfl
instance:FaC (TV p q).P 26 1 1:=⟨dZ⟩
def BT:GO (TV p q).P 26 3 3 .i64 .i64=true:=by kernel_rfl
def EZ:(TV p q).P.underlying 114=some (.map 26 4):=by kernel_rfl
def z4:bj (TV p q).P 4=some (.bool false):=by kernel_rfl
def z116:bj (TV p q).P 116=some (.nilFunc):=by kernel_rfl
def OI:TyI (TV p q).P 116 false 1:=⟨by kernel_rfl,by kernel_rfl,by kernel_rfl⟩
instance:TyC (TV p q).P 116 false 1:=⟨OI⟩
def Ar:BdT (TV p q).P 26 (.agg #[.int .i64 0,.int .i64 0]) [(0,1),(1,1)]:=.mk' (by kernel_rfl) (by kernel_rfl)
def P0:(TV p q).P.underlying 55=some (.slice 26):=by kernel_rfl
instance:UsC (TV p q).P 55 26:=⟨P0⟩
def OT:SlT (TV p q).P 55 26 2:=SlT.of (by kernel_rfl)
instance:SlC (TV p q).P 55 26 2:=⟨OT⟩
def z3:bj (TV p q).P 3=some (.int .i64 0):=by kernel_rfl
def NH:TyI (TV p q).P 55 false 1:=⟨by kernel_rfl,by kernel_rfl,by kernel_rfl⟩
instance:TyC (TV p q).P 55 false 1:=⟨NH⟩
def z87:bj (TV p q).P 87=some (.agg #[.int .i64 0,.int .i64 0,.int .i64 0,.int .i64 0,.int .i64 0]):=by kernel_rfl
def AI:BdT (TV p q).P 87 (.agg #[.int .i64 0,.int .i64 0,.int .i64 0,.int .i64 0,.int .i64 0]) [(0,1),(1,2),(3,2)]:=.mk' (by kernel_rfl) (by kernel_rfl)
def K3:TyI (TV p q).P 87 true 5:=⟨by kernel_rfl,by kernel_rfl,by kernel_rfl⟩
instance:TyC (TV p q).P 87 true 5:=⟨K3⟩
def fJ:∀b o,aD (TV p q).P 87 (ptr b o) 1=some (ptr b (o+1)):=fun _ _=>by kernel_rfl
instance:FaC (TV p q).P 87 1 1:=⟨fJ⟩
def gX:∀b o,aD (TV p q).P 87 (ptr b o) 2=some (ptr b (o+3)):=fun _ _=>by kernel_rfl
instance:FaC (TV p q).P 87 2 3:=⟨gX⟩
def Me:∀(x0 y0:Int) (x1 y1:Int),jK (TV p q).P Op.maxDepth 26 (.agg #[ba x0,ba x1]) (.agg #[ba y0,ba y1])=some (decide (x0=y0)&&decide (x1=y1)):=fun x0 y0 x1 y1=>J2 BT x0 y0 x1 y1
def Mr:(TV p q).P.eqGuardType (TV p q).P.depth 26=false:=by kernel_rfl
def sQ:∀b o,aD (TV p q).P 87 (ptr b o) 0=some (ptr b (o+0)):=fun _ _=>by kernel_rfl
instance:FaC (TV p q).P 87 0 0:=⟨sQ⟩
def PV:bj (TV p q).P 149=some (.agg #[.int .i64 0,.int .i64 0,.int .i64 0,.int .i64 0,.int .i64 0,.int .i64 0,.int .i64 0,.int .i64 0]):=by kernel_rfl
def ND:BdT (TV p q).P 149 (.agg #[.int .i64 0,.int .i64 0,.int .i64 0,.int .i64 0,.int .i64 0,.int .i64 0,.int .i64 0,.int .i64 0]) [(0,2),(2,2),(4,2),(6,2)]:=.mk' (by kernel_rfl) (by kernel_rfl)
def yF:ArT (TV p q).P 149 26 4 2:=⟨by kernel_rfl,by kernel_rfl,by kernel_rfl⟩
instance:ArC (TV p q).P 149 26 4 2:=⟨yF⟩
def u4:(TV p q).P.underlying 4=some (.bool):=by kernel_rfl
def z131:bj (TV p q).P 131=some (.map none):=by kernel_rfl
def Nx:TyI (TV p q).P 131 false 1:=⟨by kernel_rfl,by kernel_rfl,by kernel_rfl⟩
instance:TyC (TV p q).P 131 false 1:=⟨Nx⟩
def Nj:(TV p q).P.underlying 131=some (.map 104 4):=by kernel_rfl
def Pe:bj (TV p q).P 132=some (.slice none 0 0):=by kernel_rfl
def MW:TyI (TV p q).P 132 false 1:=⟨by kernel_rfl,by kernel_rfl,by kernel_rfl⟩
instance:TyC (TV p q).P 132 false 1:=⟨MW⟩
def NX:(TV p q).P.underlying 132=some (.slice 103):=by kernel_rfl
instance:UsC (TV p q).P 132 103:=⟨NX⟩
def IT:SlT (TV p q).P 132 103 4:=SlT.of (by kernel_rfl)
instance:SlC (TV p q).P 132 103 4:=⟨IT⟩
def Px:bj (TV p q).P 135=some (.nilFunc):=by kernel_rfl
def EL:TyI (TV p q).P 135 false 1:=⟨by kernel_rfl,by kernel_rfl,by kernel_rfl⟩
instance:TyC (TV p q).P 135 false 1:=⟨EL⟩
def wP:∀b o,aD (TV p q).P 103 (ptr b o) 3=some (ptr b (o+3)):=fun _ _=>by kernel_rfl
instance:FaC (TV p q).P 103 3 3:=⟨wP⟩
def z70:bj (TV p q).P 70=some (.map none):=by kernel_rfl
def Iv:TyI (TV p q).P 70 false 1:=⟨by kernel_rfl,by kernel_rfl,by kernel_rfl⟩
instance:TyC (TV p q).P 70 false 1:=⟨Iv⟩
def Qp:bj (TV p q).P 71=some (.nilFunc):=by kernel_rfl
def Iw:TyI (TV p q).P 71 false 1:=⟨by kernel_rfl,by kernel_rfl,by kernel_rfl⟩
instance:TyC (TV p q).P 71 false 1:=⟨Iw⟩
def Fj:∀b o,aD (TV p q).P 44 (ptr b o) 0=some (ptr b (o+0)):=fun _ _=>by kernel_rfl
instance:FaC (TV p q).P 44 0 0:=⟨Fj⟩
def GY:∀b o,aD (TV p q).P 44 (ptr b o) 1=some (ptr b (o+1)):=fun _ _=>by kernel_rfl
instance:FaC (TV p q).P 44 1 1:=⟨GY⟩
def Qn:bj (TV p q).P 73=some (.agg #[.int .i64 0,.int .i64 0]):=by kernel_rfl
def Pb:BdT (TV p q).P 73 (.agg #[.int .i64 0,.int .i64 0]) [(0,1),(1,1)]:=.mk' (by kernel_rfl) (by kernel_rfl)
def LW:ArT (TV p q).P 73 3 2 1:=⟨by kernel_rfl,by kernel_rfl,by kernel_rfl⟩
instance:ArC (TV p q).P 73 3 2 1:=⟨LW⟩
def MO:(TV p q).P.underlying 70=some (.map 3 3):=by kernel_rfl
def FI{n x1 x2 r}(hF:MH n x1 x2=some r)(m):
 aI (TV p q) 30 [kW x1 x2] m (TQ m (.bool r)):=by
 unfold MH at hF;refine cw Try.func30 (Tp m) ?_;refine wz ?_;refine wb fun b3=>?_;refine au ?_;refine Tc (ll rfl rfl (mc _ _)) rfl ?_;refine wz ?_;rcases U hF with⟨h4,hF⟩|⟨h4,hF⟩;refine au ?_;cases hF;exact ar () [];refine wz ?_;refine Tu (ll rfl rfl (zf _ _)) (gg rfl rfl (p9 h4)) rfl ?_;refine au ?_;cases hF;exact ar () []
def KV{n l1 a2 c3 r}(hF:MJ n l1=some r)(m)(h4:Ah m a2 c3 l1):
 aI (TV p q) 63 [bD a2 l1 c3] m (TQ m (.int .i64 r)):=by
 unfold MJ at hF;refine cw Try.func63 (Tw (Tp m) dI h4) ?_;refine au ?_;rcases U hF with⟨h6,hF⟩|⟨h6,hF⟩;refine Ty rfl h6 ?_;cases hF;refine au ?_;obtain⟨h7,hF⟩:=cO hF;refine Tv (k:=0) rfl (aM h7) ?_;rintro b8 o9 rfl;refine wz ?_;obtain⟨x10,h11,hF⟩:=J hF;refine au ?_;refine Th ?_;obtain⟨v22,h27,hF⟩:=J hF;refine ct (fun v22 (_:TP)=>⟨(.exit 0),[(3,ba v22)],[]⟩) v22 ?_ ?_;refine lo h27 () [0,1] (fun(v14,v15) _=>⟨.normal,[(0,tK b8 o9 l1 c3),(3,ba v14),(4,ba v15)],(om b8 o9 l1 c3 [])⟩) ?_;clear hF h27;rintro⟨v14,v15⟩ ⟨⟩ r hF;unfold zw at hF;refine wz ?_;rcases U hF with⟨h23,hF⟩|⟨h23,hF⟩;refine au ?_;obtain⟨h24,hF⟩:=cO hF;refine wz ?_;obtain⟨x25,h26,hF⟩:=J hF;refine wz ?_;refine Tc (ll rfl rfl (mc _ _)) rfl ?_;refine au ?_;cases hF;exact ae () [0,1];refine wz ?_;cases hF;exact ae () [];rintro⟨⟩;refine fW ?_;obtain rfl:=QL hF;exact ar () []
def KG{n l1 a2 c3 r}(hF:CC n l1=some r)(m)(h4:Ah m a2 c3 l1):
 aI (TV p q) 64 [bD a2 l1 c3] m (TQ m (.int .i64 r)):=by
 unfold CC at hF;refine cw Try.func64 (Tw (Tp m) dI h4) ?_;refine au ?_;rcases U hF with⟨h6,hF⟩|⟨h6,hF⟩;refine Ty rfl h6 ?_;cases hF;refine au ?_;obtain⟨h7,hF⟩:=cO hF;refine Tv (k:=0) rfl (aM h7) ?_;rintro b8 o9 rfl;refine wz ?_;obtain⟨x10,h11,hF⟩:=J hF;refine au ?_;refine Th ?_;obtain⟨v22,h27,hF⟩:=J hF;refine ct (fun v22 (_:TP)=>⟨(.exit 0),[(3,ba v22)],[]⟩) v22 ?_ ?_;refine lo h27 () [0,1] (fun(v14,v15) _=>⟨.normal,[(0,tK b8 o9 l1 c3),(3,ba v14),(4,ba v15)],(om b8 o9 l1 c3 [])⟩) ?_;clear hF h27;rintro⟨v14,v15⟩ ⟨⟩ r hF;unfold xi at hF;refine wz ?_;rcases U hF with⟨h23,hF⟩|⟨h23,hF⟩;refine au ?_;obtain⟨h24,hF⟩:=cO hF;refine wz ?_;obtain⟨x25,h26,hF⟩:=J hF;refine wz ?_;refine Tc (ll rfl rfl (zf _ _)) rfl ?_;refine au ?_;cases hF;exact ae () [0,1];refine wz ?_;cases hF;exact ae () [];rintro⟨⟩;refine fW ?_;obtain rfl:=QL hF;exact ar () []
def nT{n l1 l5 l12 x16 a2 c3 a6 c7}{rr8:SV}{es9:SS}{a13 c14 r}(hF:E2 n l1 l5 l12 x16=some r)(m)(h4:ja m a2 c3 l1)(h10:lW m a6 c7 l5 es9)(h11:(cd ak rr8 l5 es9).P m)(h15:Ah m a13 c14 l12):
 aI (TV p q) 27 [kI a2 l1 c3 a6 l5 c7,bD a13 l12 c14,ba x16] m (fun v m'=>∃x:SU×Nat,v=.slice x.1 x.2 x.2/\Hp m m' [.sl x.1 2 x.2 (r.map (eP (eI .i64) (eI .i64)))]):=by
 unfold E2 at hF;refine cw Try.func27 (Tw (Hp.mz (Tw (Tw (Tp m) dI h4) (eC dI) h10) (eC (eC dI)) h11) (O4 (eC (eC dI))) h15) ?_;refine Td<|Te<|wb fun b17=>?_;refine Tc (bC rfl) rfl<|Tk<|Tl<|Td<|Te<|Tc (bC rfl) rfl<|Tk<|Tl<|Td<|Td<|Te<|Tc (aS rfl) rfl<|Tc (nX (k:=1) Ma rfl rfl (.inl rfl)) rfl<|Tc (aS rfl) rfl<|Tk<|Tl<|Th ?_;obtain⟨l58,h76,hF⟩:=J hF;refine ct (fun l58 (a59:SU)=>⟨(.exit 0),[(7,bN a59 l58)],[cV a59 l58]⟩) l58 ?_ ?_;refine lw h76 none (fun(l36,v38) a37=>⟨.normal,((2,ba x16)::(3,ptr b17 0)::(7,bN a37 l36)::ym a13 l12 c14 v38 []),(fp b17 a2 l1 c3 a6 l5 c7 es9 ak rr8 [cV a37 l36,mY a13 c14 l12])⟩) (To (TH 2 rfl) (Ti [1,5,4,3,0,2] rfl rfl)) ?_;clear hF h76;rintro⟨l36,v38⟩ a37 r hF;unfold zg at hF;refine Td<|Te<|Tc (aJ rfl rfl (gC _ _ _)) rfl<|Tk<|Tl<|Td ?_;rcases U hF with⟨h60,hF⟩|⟨h60,hF⟩;refine Ty rfl h60<|TA<|Tl<|Td<|Th<|Td<|Te ?_;obtain⟨h61,hF⟩:=cO hF;refine Tv (k:=5) rfl (aM h61) ?_;rintro b62 o63 rfl;refine Tu (lL eU rfl rfl h61) gn rfl ?_;obtain⟨x64,h65,hF⟩:=J hF;refine Tc (p8 (k:=0) cb rfl rfl (js h65) rfl rfl) rfl<|Tc (bC rfl) rfl<|Tk<|Tl<|Wk.draw (by kernel_rfl)<|Tc (aS rfl) rfl<|Tc (aS rfl) rfl<|Tc (aG (r:=ptr b17 0) rfl (ju _ _)) rfl<|Tc (aH (k:=1) tL rfl rfl rfl) rfl<|Tc (aS rfl) rfl ?_
 obtain⟨h66,hF⟩:=cO hF;refine Tv (k:=2) rfl (aM h66) ?_;rintro b67 o68 rfl;refine Tu (lL w5 rfl rfl h66) gn rfl<|Tc (aG (r:=ptr b67 (o68+x64.toNat*2+0)) rfl (ec _ _)) rfl ?_;obtain⟨⟨x69,x70⟩,h71,hF⟩:=J hF;refine Tc (p8 (k:=0) cb rfl rfl (js h71) rfl rfl) rfl<|Tc (aJ rfl rfl (dO _ _ _)) rfl<|Tc (aS rfl) rfl<|Tc (aG (r:=ptr b17 0) rfl (ju _ _)) rfl<|Tc (aH (k:=2) tL rfl rfl rfl) rfl<|Tc (aS rfl) rfl ?_;obtain⟨h72,hF⟩:=cO hF;refine Tu (lL w5 rfl rfl h72) gn rfl<|Tc (aG (r:=ptr b67 (o68+x64.toNat*2+1)) rfl (dZ _ _)) rfl<|Tc (p8 (k:=0) cb rfl rfl (js h71) rfl rfl) rfl<|Tc (aJ rfl rfl (dO _ _ _)) rfl<|Tc (cp rfl z26 rfl (cm Ar rfl rfl rfl)) rfl<|Ts (bY (es:=([(S6 (x16*x69),S6 (x16*x70))]:SQ).map (eP (eI .i64) (eI .i64))) OT rfl (bZ OT z26 rfl rfl) rfl rfl) gn rfl fun b73=>?_;obtain⟨h74,hF⟩:=az hF;refine Ts (so (k:=7) (k2:=0) (xs:=(l36:SQ)) (ys:=([(S6 (x16*x69),S6 (x16*x70))]:SQ)) (DC (sF .i64) (sF .i64)) OT ⟨_,P0⟩ rfl rfl rfl (.arr _ _ _ _ _) h74) gn rfl fun a75=>?_;refine Tc (bC rfl) rfl<|Tk<|At.bn<|Tl<|Te<|Tc (aJ rfl rfl (bu _ _ _)) rfl<|Tc (aS rfl) rfl<|Tk ?_;cases hF;exact ae a75 (TL 3 6);refine TC rfl h60<|Wk.exit<|At.te ?_;cases hF;exact ae a37 [4];rintro a59;refine TJ<|Tl<|Td<|Te<|Tc (aS rfl) rfl<|Tc (bC rfl) rfl<|Tk<|Tl<|TF ?_;obtain rfl:=QL hF;exact ar (a59,l58.length) [0]
def pR{n x1 x2 r}(hF:Hs n x1 x2=some r)(m):
 aI (TV p q) 38 [kW x1 x2] m (TQ m (.bool r)):=by
 unfold Hs at hF;refine cw Try.func38 (Tp m) ?_;refine wz ?_;refine wb fun b3=>?_;refine au ?_;refine Tc (Cs rfl (JJ _)) rfl ?_;refine wz ?_;refine Tc (Cs rfl (JJ _)) rfl ?_;obtain⟨y4,h5,hF⟩:=J hF;refine Tc (ll rfl rfl (fun m=>(LP _ _ _ _ m).trans (Qu h5))) rfl ?_;refine wz ?_;rcases U hF with⟨h6,hF⟩|⟨h6,hF⟩;refine au ?_;cases hF;exact ar () [];refine wz ?_;refine Tu (ll rfl rfl (mc _ _)) (gg rfl rfl (p9 h6)) rfl ?_;refine au ?_;cases hF;exact ar () []
def Hn{n x1 r}(hF:Oh n x1=some r)(m):
 aI (TV p q) 80 [ba x1] m (TQ m (.bool r)):=by
 unfold Oh at hF;refine cw Try.func80 (Tp m) ?_;refine fW ?_;cases hF;exact ar () []
def Bh{n x1 x2 r}(hF:L4 n x1 x2=some r)(m):
 aI (TV p q) 58 [ba x1,ba x2] m (TQ m (.int .i64 r)):=by
 unfold L4 at hF;refine cw Try.func58 (Tp m) ?_;refine au ?_;obtain⟨r4,h3,hF⟩:=J hF;refine wc gn (fun m hm=>Hn h3 m) ?_;rintro⟨⟩;refine au ?_;obtain⟨r6,h5,hF⟩:=J hF;refine wc gn (fun m hm=>Hn h5 m) ?_;rintro⟨⟩;refine au ?_;rcases U hF with⟨h7,hF⟩|⟨h7,hF⟩;refine wz ?_;rcases U hF with⟨h8,hF⟩|⟨h8,hF⟩;refine au ?_;cases hF;exact ar () [];refine fW ?_;cases hF;exact ar () [];refine au ?_;rcases U hF with⟨h9,hF⟩|⟨h9,hF⟩;refine au ?_;cases hF;exact ar () [];refine au ?_;rcases U hF with⟨h10,hF⟩|⟨h10,hF⟩;refine au ?_;cases hF;exact ar () [];refine au ?_;rcases U hF with⟨h11,hF⟩|⟨h11,hF⟩;refine au ?_;cases hF;exact ar () [];refine fW ?_;cases hF;exact ar () []
def oa{n x1 x2 x3 x4 x5 x6 r}(hF:Gb n x1 x2 x3 x4 x5 x6=some r)(m):
 aI (TV p q) 41 [kW x1 x2,kW x3 x4,kW x5 x6] m (TQ m (.int .i64 r)):=by
 unfold Gb at hF;refine cw Try.func41 (Tp m) ?_;refine wz ?_;refine wb fun b7=>?_;refine wb fun b8=>?_;refine wb fun b9=>?_;refine wz ?_;refine Td<|Te<|Tc (aG (r:=ptr b8 0) rfl (ec _ _)) rfl<|Tc (aH (k:=1) cb rfl rfl rfl) rfl<|Tc (aG (r:=ptr b7 0) rfl (ec _ _)) rfl<|Tc (aH (k:=2) cb rfl rfl rfl) rfl<|Tc (aJ rfl rfl (cR _ _ _)) rfl<|Tc (aG (r:=ptr b9 1) rfl (dZ _ _)) rfl<|Tc (aH (k:=0) cb rfl rfl rfl) rfl<|Tc (aG (r:=ptr b7 1) rfl (dZ _ _)) rfl<|Tc (aH (k:=2) cb rfl rfl rfl) rfl<|Tc (aJ rfl rfl (cR _ _ _)) rfl ?_;obtain⟨y10,h11,hF⟩:=J hF;refine Tc (aJ rfl rfl ((dO _ _ _).trans (cI h11))) rfl<|Tc (aG (r:=ptr b8 1) rfl (dZ _ _)) rfl<|Tc (aH (k:=1) cb rfl rfl rfl) rfl<|Tc (aG (r:=ptr b7 1) rfl (dZ _ _)) rfl<|Tc (aH (k:=2) cb rfl rfl rfl) rfl<|Tc (aJ rfl rfl (cR _ _ _)) rfl<|Tc (aG (r:=ptr b9 0) rfl (ec _ _)) rfl<|Tc (aH (k:=0) cb rfl rfl rfl) rfl<|Tc (aG (r:=ptr b7 0) rfl (ec _ _)) rfl<|Tc (aH (k:=2) cb rfl rfl rfl) rfl<|Tc (aJ rfl rfl (cR _ _ _)) rfl ?_;obtain⟨y12,h13,hF⟩:=J hF;refine Tc (aJ rfl rfl ((dO _ _ _).trans (cI h13))) rfl ?_;obtain⟨r15,h14,hF⟩:=J hF;refine wc gn (fun m hm=>Bh h14 m) ?_;rintro⟨⟩;refine au ?_;obtain rfl:=QL hF;exact ar () []
def Lu{n l1 a2 c3 r}(hF:OE n l1=some r)(m)(h4:Ah m a2 c3 l1):
 aI (TV p q) 79 [bD a2 l1 c3] m (TQ m (.int .i64 r)):=by
 unfold OE at hF;refine cw Try.func79 (Tw (Tp m) dI h4) ?_;refine fW ?_;refine Th ?_;obtain⟨r24,h23,hF⟩:=J hF;refine ct (fun(r:Int⊕TP) (g:TP)=>match r,g with|.inl v15,_=>⟨.ret,[(2,ba v15)],[]⟩|.inr _,_=>⟨(.exit 0),[(3,.int .i64 0)],[]⟩) r24 ?_ ?_
 refine lo h23 () [0] (fun v6 _=>⟨.normal,[(3,.int .i64 0),(6,bD a2 l1 c3),(7,dN l1),(8,ba v6)],[mY a2 c3 l1]⟩) ?_;clear hF h23;rintro v6 ⟨⟩ r hF;unfold qa at hF;refine wz ?_;refine Td ?_;rcases U hF with⟨h16,hF⟩|⟨h16,hF⟩;refine au ?_;obtain⟨h17,hF⟩:=cO hF;refine Tv (k:=0) rfl (aM h17) ?_;rintro b18 o19 rfl;refine wz ?_;obtain⟨x20,h21,hF⟩:=J hF;refine au ?_;rcases U hF with⟨h22,hF⟩|⟨h22,hF⟩;refine au ?_;cases hF;exact ae () [];refine au ?_;cases hF;exact ae () [1];refine wz ?_;cases hF;exact ae () [];rcases r24 with v15|_;rintro⟨⟩;refine wz ?_;obtain rfl:=QL hF;exact ar () [];rintro⟨⟩;refine fW ?_;cases hF;exact ar () []
def AU{n x1 x2 x3 x4 r}(hF:I1 n x1 x2 x3 x4=some r)(m):
 aI (TV p q) 57 [kW x1 x2,kW x3 x4] m (TQ m (.int .i64 r)):=by
 unfold I1 at hF;refine cw Try.func57 (Tp m) ?_;refine wz ?_;refine wb fun b5=>?_;refine wb fun b6=>?_;refine wz ?_;refine Td<|TB (prs:=[(4,6),(4,8)]) (by kernel_rfl)<|Tf (aG (r:=ptr b5 0) rfl (ec _ _)) rfl<|Tf (aH (k:=1) cb rfl rfl rfl) rfl<|Tf (aG (r:=ptr b6 0) rfl (ec _ _)) rfl<|Tf (aH (k:=0) cb rfl rfl rfl) rfl ?_
 obtain⟨r8,h7,hF⟩:=J hF;refine nc gn (fun m hm=>Bh h7 m) ?_;rintro⟨⟩;refine Tf (aG (r:=ptr b5 1) rfl (dZ _ _)) rfl<|Tf (aH (k:=1) cb rfl rfl rfl) rfl<|Tf (aG (r:=ptr b6 1) rfl (dZ _ _)) rfl<|Tf (aH (k:=0) cb rfl rfl rfl) rfl ?_;obtain⟨r10,h9,hF⟩:=J hF;refine nc gn (fun m hm=>Bh h9 m) ?_;rintro⟨⟩;refine Wn.x (bY (es:=([r8,r10]:TO (Int)).map (eI .i64)) eU rfl (bZ eU z3 rfl rfl) rfl rfl) gn rfl fun b11=>?_;obtain⟨r13,h12,hF⟩:=J hF;refine nc gn (fun m hm=>Lu h12 m (hm.q 0)) ?_;rintro⟨⟩;refine Tf (bC rfl) rfl<|Tx (fun m hm=>dj.all rfl) ?_;refine au ?_;obtain rfl:=QL hF;exact ar () []
def Av{n x1 x2 x3 x4 x5 x6 x7 r}(hF:Lw n x1 x2 x3 x4 x5 x6 x7=some r)(m):
 aI (TV p q) 40 [Mn x1 x2 x3 x4 x5,kW x6 x7] m (TQ m (.bool r)):=by
 unfold Lw at hF;refine cw Try.func40 (Tp m) ?_;refine wz ?_;refine wb fun b8=>?_;refine wb fun b9=>?_;refine au ?_;obtain⟨r11,h10,hF⟩:=J hF;refine wc gn (fun m hm=>oa h10 m) ?_;rintro⟨⟩;refine wz ?_;rcases U hF with⟨h12,hF⟩|⟨h12,hF⟩;refine au ?_;cases hF;exact ar () [];refine wz ?_;refine Td<|TB (prs:=[(3,6)]) (by kernel_rfl)<|Tf (aG (r:=ptr b8 1) rfl (fJ _ _)) rfl<|Tf (aH (k:=1) df rfl rfl rfl) rfl<|Tf (aG (r:=ptr b8 3) rfl (gX _ _)) rfl<|Wn.uZ rfl (aH (k:=1) df rfl rfl rfl) rfl<|Wn.x (xr z26 rfl) gn rfl fun b13=>?_
 refine Wn.x (xr z26 rfl) gn rfl fun b14=>?_;refine Wn.Ht rfl (ek (k:=1) df rfl rfl rfl rfl rfl)<|Wn.o0 (ek (k:=0) df rfl rfl rfl rfl rfl)<|Tx (fun m hm=>(dj.rw rfl rfl rfl (hm.ne (i:=3) (j:=1) rfl rfl rfl rfl (by decide) rfl) dj.nil))<|Tl<|Td ?_
 obtain⟨r26,h25,hF⟩:=J hF;refine ct (fun(v18,v19,v20,v21) (_:TP)=>⟨.normal,[(3,ptr b9 0),(5,ptr b13 0),(6,ptr b14 0)],[cK b9 x6 x7,cK b13 v18 v19,cK b14 v20 v21]⟩) r26 ?_ ?_;clear hF;revert r26;intro r hF;refine wz ?_;obtain⟨r23,h22,hF⟩:=J hF;refine wc gn (fun m hm=>AU h22 m) ?_;rintro⟨⟩;refine wz ?_;rcases U hF with⟨h24,hF⟩|⟨h24,hF⟩;refine wz ?_;cases hF;exact ae () [2,1,0];refine wz ?_;cases hF;exact ae () [2,1,0];clear h25;obtain⟨v18,v19,v20,v21⟩:=r26;rintro⟨⟩;refine au ?_;obtain⟨r28,h27,hF⟩:=J hF;refine wc gn (fun m hm=>AU h27 m) ?_;rintro⟨⟩;refine wz ?_;rcases U hF with⟨h29,hF⟩|⟨h29,hF⟩;refine wz ?_;obtain⟨r31,h30,hF⟩:=J hF;refine wc (gg rfl rfl (eT h29)) (fun m hm=>AU h30 m) ?_;rintro⟨⟩;refine au ?_;cases hF;exact ar () [];refine au ?_;cases hF;exact ar () []
def Gl{n x1 x2 x3 x4 x5 x6 x7 x8 x9 x10 r}(hF:MN n x1 x2 x3 x4 x5 x6 x7 x8 x9 x10=some r)(m):
 aI (TV p q) 78 [Mn x1 x2 x3 x4 x5,Mn x6 x7 x8 x9 x10] m (TQ m (.int .i64 r)):=by
 unfold MN at hF;refine cw Try.func78 (Tp m) ?_;refine Td<|Te<|wb fun b0=>?_;refine wb fun b1=>?_;refine Tc (bC rfl) rfl<|Tk<|Tl<|Td<|TB (prs:=[(6,8),(6,10),(6,12)]) (by kernel_rfl)<|Tf (aG (r:=ptr b0 1) rfl (fJ _ _)) rfl<|Tf (aH (k:=1) df rfl rfl rfl) rfl<|Tf (aG (r:=ptr b0 3) rfl (gX _ _)) rfl<|Tf (aH (k:=1) df rfl rfl rfl) rfl<|Tf (aG (r:=ptr b1 1) rfl (fJ _ _)) rfl<|Tf (aH (k:=0) df rfl rfl rfl) rfl ?_
 obtain⟨r0,h12,hF⟩:=J hF;refine nc gn (fun m hm=>oa h12 m) ?_;rintro⟨⟩;refine Tf (aG (r:=ptr b0 1) rfl (fJ _ _)) rfl<|Tf (aH (k:=1) df rfl rfl rfl) rfl<|Tf (aG (r:=ptr b0 3) rfl (gX _ _)) rfl<|Tf (aH (k:=1) df rfl rfl rfl) rfl<|Tf (aG (r:=ptr b1 3) rfl (gX _ _)) rfl<|Tf (aH (k:=0) df rfl rfl rfl) rfl ?_;obtain⟨r1,h13,hF⟩:=J hF;refine nc gn (fun m hm=>oa h13 m) ?_;rintro⟨⟩;refine Tf (bC rfl) rfl<|Tf (bC rfl) rfl<|Tx (fun m hm=>dj.all rfl)<|Tl<|Td<|TB (prs:=[(6,8),(6,10),(6,12)]) (by kernel_rfl)<|Tf (aG (r:=ptr b1 1) rfl (fJ _ _)) rfl<|Tf (aH (k:=0) df rfl rfl rfl) rfl<|Tf (aG (r:=ptr b1 3) rfl (gX _ _)) rfl<|Tf (aH (k:=0) df rfl rfl rfl) rfl<|Tf (aG (r:=ptr b0 1) rfl (fJ _ _)) rfl<|Tf (aH (k:=1) df rfl rfl rfl) rfl ?_
 obtain⟨r3,h14,hF⟩:=J hF;refine nc gn (fun m hm=>oa h14 m) ?_;rintro⟨⟩;refine Tf (aG (r:=ptr b1 1) rfl (fJ _ _)) rfl<|Tf (aH (k:=0) df rfl rfl rfl) rfl<|Tf (aG (r:=ptr b1 3) rfl (gX _ _)) rfl<|Tf (aH (k:=0) df rfl rfl rfl) rfl<|Tf (aG (r:=ptr b0 3) rfl (gX _ _)) rfl<|Tf (aH (k:=1) df rfl rfl rfl) rfl ?_;obtain⟨r4,h15,hF⟩:=J hF;refine nc gn (fun m hm=>oa h15 m) ?_;rintro⟨⟩;refine Tf (bC rfl) rfl<|Tf (bC rfl) rfl<|Tx (fun m hm=>dj.all rfl)<|Tl<|Td<|Te<|Ts Fu gn rfl fun b2=>?_;refine Tc (bC rfl) rfl<|Tk<|Tl<|Td<|Td<|Te<|Tc (aG (r:=ptr b0 1) rfl (fJ _ _)) rfl<|Tc (aH (k:=2) df rfl rfl rfl) rfl<|Tc (aG (r:=ptr b0 3) rfl (gX _ _)) rfl<|Tc (aH (k:=2) df rfl rfl rfl) rfl<|Tc (aG (r:=ptr b1 1) rfl (fJ _ _)) rfl<|Tc (aH (k:=1) df rfl rfl rfl) rfl<|Tc (aG (r:=ptr b1 3) rfl (gX _ _)) rfl<|Tc (aH (k:=1) df rfl rfl rfl) rfl<|Tc (cp rfl PV rfl (cm ND rfl rfl rfl)) rfl ?_;refine Tc (aS rfl) rfl<|Tk<|Tl<|Th ?_;obtain⟨l1,h3,hF⟩:=J hF;refine ct (fun l1 (_:TP)=>⟨(.exit 0),[(5,ba r0),(6,ba r1),(7,ba r3),(8,ba r4),(9,.map (some b2))],[.obj b2 (.map (l1.map (eM (fun p:Int×Int=>.agg #[.int .i64 p.1,.int .i64 p.2]) (fun b:Bool=>.bool b))))]⟩) l1 ?_ ?_;refine lo h3 () [2,1,0] (fun(l2,v0) _=>⟨.normal,(ic b0 b1 [(5,ba r0),(6,ba r1),(7,ba r3),(8,ba r4),(9,.map (some b2)),(49,LA x2 x3 x4 x5 x7 x8 x9 x10),(50,ba v0)]),[fG b0 x1 x2 x3 x4 x5,fG b1 x6 x7 x8 x9 x10,.obj b2 (.map (l2.map (eM (fun p:Int×Int=>.agg #[.int .i64 p.1,.int .i64 p.2]) (fun b:Bool=>.bool b))))]⟩) ?_;clear hF h3;rintro⟨l2,v0⟩ ⟨⟩ r hF;unfold qe at hF;refine Td<|Te<|Tc (aJ rfl rfl (gC _ _ _)) rfl<|Tk<|Tl<|Td ?_;rcases U hF with⟨h4,hF⟩|⟨h4,hF⟩;refine Ty rfl h4<|TA<|Tl<|Td ?_;obtain⟨l3,h16,hF⟩:=J hF;refine ct (fun l3 (_:TP)=>⟨.normal,(ic b0 b1 [(5,ba r0),(6,ba r1),(7,ba r3),(8,ba r4),(9,.map (some b2)),(49,LA x2 x3 x4 x5 x7 x8 x9 x10),(50,ba v0)]),[fG b0 x1 x2 x3 x4 x5,fG b1 x6 x7 x8 x9 x10,.obj b2 (.map (l3.map (eM (fun p:Int×Int=>.agg #[.int .i64 p.1,.int .i64 p.2]) (fun b:Bool=>.bool b))))]⟩) l3 ?_ ?_;clear hF;revert l3;intro r hF;refine Th<|Td<|Te ?_;obtain⟨h17,hF⟩:=az hF;obtain⟨⟨x11,x12⟩,h0,hF⟩:=J hF;refine Ts (DP (α:=TP) (V:=fun g=>match g with|_=>.agg #[ba x11,ba x12]) (N:=fun g=>match g with|_=>[]++[fG b0 x1 x2 x3 x4 x5,fG b1 x6 x7 x8 x9 x10,.obj b2 (.map (l2.map (eM (fun p:Int×Int=>.agg #[.int .i64 p.1,.int .i64 p.2]) (fun b:Bool=>.bool b))))]) rfl rfl (fun m hm=>?_)) gn rfl ?_
 have hj:=oM h17;obtain⟨j,h11⟩:∃j:Nat,(v0:Int)=j:=⟨_,(RY hj.1).symm⟩;rw[h11] at h0 hj ⊢;rw[Rb] at h0 hj;replace hj:=hj.2;clear hF h11
 match j,hj,h0 with
 | 0,_,h0=>cases h0; exact⟨(),uW yF (i:=0) (by decide) (nM df rfl),hm⟩
 | 1,_,h0=>cases h0; exact⟨(),uW yF (i:=1) (by decide) (nM df rfl),hm⟩
 | 2,_,h0=>cases h0; exact⟨(),uW yF (i:=2) (by decide) (nM df rfl),hm⟩
 | 3,_,h0=>cases h0; exact⟨(),uW yF (i:=3) (by decide) (nM df rfl),hm⟩
 | _+4,hj,_=>exact Q1 hj (by omega)
 rintro⟨⟩;refine wa z26 fun b3=>?_;refine Tz (ek (k:=0) df rfl rfl rfl rfl rfl)<|Tk<|Tl<|Td ?_;obtain⟨v1,h18,hF⟩:=J hF;refine ct (fun v1 (_:TP)=>⟨.normal,(ic b0 b1 [(5,ba r0),(6,ba r1),(7,ba r3),(8,ba r4),(9,.map (some b2)),(11,ptr b3 0),(49,LA x2 x3 x4 x5 x7 x8 x9 x10),(50,ba v0),(60,.bool v1)]),[fG b0 x1 x2 x3 x4 x5,fG b1 x6 x7 x8 x9 x10,.obj b2 (.map (l2.map (eM (fun p:Int×Int=>.agg #[.int .i64 p.1,.int .i64 p.2]) (fun b:Bool=>.bool b)))),cK b3 x11 x12]⟩) v1 ?_ ?_;clear hF;revert v1;intro r hF;refine Te<|Tc (aH (k:=1) K3 rfl rfl rfl) rfl<|Tc (aH (k:=0) df rfl rfl rfl) rfl ?_;obtain⟨r5,h19,hF⟩:=J hF;refine wc gn (fun m hm=>Av h19 m) ?_;rintro⟨⟩;refine Tc (aS rfl) rfl ?_;rcases U hF with⟨h2,hF⟩|⟨h2,hF⟩;refine Tu (aH (k:=2) K3 rfl rfl rfl) (gg rfl rfl (eT h2)) rfl<|Tu (aH (k:=0) df rfl rfl rfl) (gg rfl rfl (eT h2)) rfl ?_;obtain⟨r6,h20,hF⟩:=J hF;refine wc (gg rfl rfl (eT h2)) (fun m hm=>Av h20 m) ?_;rintro⟨⟩;refine Tc (yr rfl h2 rfl) rfl<|Tk ?_;obtain rfl:=QL hF;exact ae () [1,2,3,0];refine Wo.s (gg rfl rfl (vP h2)) rfl<|Wo.s (gg rfl rfl (vP h2)) rfl<|Wo.s (gg rfl rfl (vP h2)) rfl<|Tc (yi rfl h2 rfl) rfl<|Tk ?_;cases hF;exact ae () [1,2,3,0];rintro⟨⟩;refine Tl ?_;rcases U hF with⟨h5,hF⟩|⟨h5,hF⟩;refine Ty rfl h5<|Te<|Tc (aS rfl) rfl<|Tc (aH (k:=3) df rfl rfl rfl) rfl<|Tz (Dn (q:=2) (xs:=l2) (k:=(x11,x12)) (v:=true) (vE:=(fun b:Bool=>.bool b)) EZ (Ge BT) rfl rfl rfl rfl)<|Tk<|At.bn ?_;cases hF;exact ae () [0,1,2];refine TC rfl h5<|TA<|At.bn ?_;obtain rfl:=QL hF;exact ae () [0,1,2];rintro⟨⟩;refine Tl<|Te<|Tc (aJ rfl rfl (bu _ _ _)) rfl<|Tc (aS rfl) rfl<|Tk ?_;cases hF;exact ae () [0,1,2];refine TC rfl h4<|Wk.exit<|At.te ?_;cases hF;exact ae () [2];rintro⟨⟩;refine TJ<|Tl<|Td<|Th<|Td<|Te<|Tc (aS rfl) rfl ?_;obtain⟨y0,h6,hF⟩:=J hF;replace h6:=QL h6;refine Tc (Ag (q:=0) (xs:=l1) EZ rfl rfl h6) rfl<|Tc (aJ rfl rfl (qL _ _ _)) rfl<|Tc (bC rfl) rfl<|Tk<|Tl ?_;rcases U hF with⟨h7,hF⟩|⟨h7,hF⟩;refine Ty rfl h7<|Td<|Te<|Tc (bC rfl) rfl<|Tk<|Tl<|TF<|At.br<|At.tr ?_;cases hF;exact ar () [];refine TC rfl h7<|Td<|Te<|Tc (aS rfl) rfl ?_;obtain⟨y1,h8,hF⟩:=J hF;replace h8:=QL h8;refine Tc (Ag (q:=0) (xs:=l1) EZ rfl rfl h8) rfl<|Tc (aJ rfl rfl (ij _ _ _)) rfl<|Tc (bC rfl) rfl<|Tk<|Tl ?_;rcases U hF with⟨h9,hF⟩|⟨h9,hF⟩;refine Ty rfl h9<|Td<|Te<|Tc (bC rfl) rfl<|Tk<|Tl<|TF<|At.br<|At.tr ?_;cases hF;exact ar () [];refine TC rfl h9<|Td ?_;obtain⟨v2,h21,hF⟩:=J hF;refine ct (fun v2 (_:TP)=>⟨.normal,[(72,.bool v2)],[]⟩) v2 ?_ ?_;clear hF;revert v2;intro r hF;refine Te<|Tc (aS rfl) rfl<|Tc (aS rfl) rfl<|Tc (aJ rfl rfl (dO _ _ _)) rfl<|Tc (aJ rfl rfl (gC _ _ _)) rfl<|Tc (aS rfl) rfl ?_;rcases U hF with⟨h1,hF⟩|⟨h1,hF⟩;refine Tu (aS rfl) (gg rfl rfl (eT h1)) rfl<|Tu (aS rfl) (gg rfl rfl (eT h1)) rfl<|Tu (aJ rfl rfl (dO _ _ _)) (gg rfl rfl (eT h1)) rfl<|Tu (aJ rfl rfl (gC _ _ _)) (gg rfl rfl (eT h1)) rfl<|Tc (yr rfl h1 rfl) rfl<|Tc (bC rfl) rfl<|Tk ?_;cases hF;exact ae () [];refine Wo.s (gg rfl rfl (vP h1)) rfl<|Wo.s (gg rfl rfl (vP h1)) rfl<|Wo.s (gg rfl rfl (vP h1)) rfl<|Wo.s (gg rfl rfl (vP h1)) rfl<|Tc (yi rfl h1 rfl) rfl<|Tc (bC rfl) rfl<|Tk ?_;cases hF;exact ae () [];rintro⟨⟩;refine Tl ?_;rcases U hF with⟨h10,hF⟩|⟨h10,hF⟩;refine Ty rfl h10<|Td<|Te<|Tc (bC rfl) rfl<|Tk<|Tl<|TF<|At.br<|At.tr ?_;cases hF;exact ar () [];refine TC rfl h10<|TA<|At.bn<|Tl<|Td<|Te<|Tc (bC rfl) rfl<|Tk<|Tl<|TF ?_;cases hF;exact ar () []
def Lh{n l1 a0 c0 r}(hF:Ov n l1=some r)(m)(h14:ja m a0 c0 l1):
 aI (TV p q) 55 [bD a0 l1 c0] m (TQ m (.tuple #[.int .i64 r.1,.int .i64 r.2])):=by
 unfold Ov at hF;refine cw Try.func55 (Tw (Tp m) dI h14) ?_;refine wz ?_;refine wb fun b3=>?_;refine wa z3 fun b0=>?_;refine wa z3 fun b1=>?_;refine au ?_;refine wa z3 fun b2=>?_;refine wz ?_;refine Td<|Td ?_;obtain⟨v2,h15,hF⟩:=J hF;refine ct (fun v2 (_:TP)=>⟨.normal,((1,ptr b3 0)::ic b0 b1 [(4,ptr b2 0),(18,.bool v2)]),(ib b3 a0 l1 c0 (eL b0 b1 b2 l1 []))⟩) v2 ?_ ?_;clear hF;revert v2;intro r hF;refine wz ?_;rcases U hF with⟨h16,hF⟩|⟨h16,hF⟩;refine wz ?_;cases hF;exact ae () [3,4,2,1,0];refine wz ?_;cases hF;exact ae () [3,4,2,1,0];rintro⟨⟩;refine Tl ?_;rcases U hF with⟨h17,hF⟩|⟨h17,hF⟩;refine au ?_;cases hF;exact Tt (.cell (k:=2) cb rfl rfl rfl (.cell (k:=3) cb rfl rfl rfl .nil)) fun m' hm=>⟨(),rfl,(Ti [] rfl rfl) m' hm⟩;refine au ?_;obtain⟨v3,h18,hF⟩:=J hF;refine wq (fun v3 (_:TP)=>(.int .i64 v3,(ib b3 a0 l1 c0 (eL b0 b1 b2 l1 [])))) v3 (fun m hm=>?_) ?_;clear hF;revert v3;intro r hF;refine aQ (N:=19) (rs:=[.tmp 4]) rfl Try.func77 rfl rfl rfl hm ?_;refine au ?_;refine Th ?_;obtain⟨r13,h1,hF⟩:=J hF;refine ct (fun(r:Int⊕TP) (g:TP)=>match r,g with|.inl v8,_=>⟨.ret,[(4,ba v8)],(ib b3 a0 l1 c0 (eL b0 b1 b2 l1 []))⟩|.inr _,_=>⟨(.exit 0),[],(ib b3 a0 l1 c0 (eL b0 b1 b2 l1 []))⟩) r13 ?_ ?_
 refine lo h1 () [1,0,2,3,4] (fun v9 _=>⟨.normal,[(0,bD a0 l1 c0),(1,.func (.func 38) #[] #[]),(7,dN l1),(8,ba v9)],(q6 a0 c0 l1::zo b3 a0 l1 c0::eL b0 b1 b2 l1 [])⟩) ?_;clear hF h1;rintro v9 ⟨⟩ r hF;unfold xQ at hF;refine wz ?_;refine Td ?_;rcases U hF with⟨h19,hF⟩|⟨h19,hF⟩;refine fW ?_;obtain⟨h20,hF⟩:=cO hF;refine Tv (k:=0) rfl (aM h20) ?_;rintro b24 o4 rfl;refine wz ?_;obtain⟨⟨x24,x25⟩,h61,hF⟩:=J hF;refine wz ?_;obtain⟨r22,h21,hF⟩:=J hF;refine wc gn (fun m hm=>pR h21 m) ?_;rintro⟨⟩;refine wz ?_;rcases U hF with⟨h22,hF⟩|⟨h22,hF⟩;refine au ?_;cases hF;exact ae () [2,1,3,4,5];refine au ?_;cases hF;exact ae () (TL 1 5);refine wz ?_;cases hF;exact ae () [1,0,2,3,4];rcases r13 with v8|_;rintro⟨⟩;refine wz ?_;obtain rfl:=QL hF;exact ar () (TL 0 5);rintro⟨⟩;refine fW ?_;cases hF;exact ar () (TL 0 5);rintro⟨⟩;refine au ?_;rcases U hF with⟨h23,hF⟩|⟨h23,hF⟩;refine au ?_;cases hF;exact Tt (.cell (k:=2) cb rfl rfl rfl (.cell (k:=3) cb rfl rfl rfl .nil)) fun m' hm=>⟨(),rfl,(Ti [] rfl rfl) m' hm⟩;refine au ?_;obtain⟨r14,h24,hF⟩:=J hF;refine wq (fun _ (b10:Nat)=>(.func (.func 56) #[] #[ptr b10 0],(ib b10 a0 l1 c0 (zo b3 a0 l1 c0::eL b0 b1 b2 l1 [])))) r14 (fun m hm=>?_) ?_;clear hF;revert r14;intro r hF;refine aQ (N:=4) (rs:=[.tmp 2]) rfl Try.func39 rfl rfl rfl hm ?_;refine wz ?_;refine wb fun b16=>?_;refine au ?_;refine Tc (je rfl rfl) rfl ?_;refine au ?_;cases hF;exact ar b16 [0,2,1,3,4,5];rintro b10;refine wz ?_;refine Th ?_;obtain⟨r5,h25,hF⟩:=J hF;refine Wk.range (N:=27) (rs:=[]) (γ:=TP) (X:=fun g=>(fun(r:Int⊕TP) (g:TP)=>(match r,g with|.inl v10,_=>⟨.done,(some .ret),(ib b3 a0 l1 c0 [.obj b0 (.cells [.int .i64 3] .own),db b1 v10,oT b2 l1])⟩|.inr _,_=>⟨.ready,none,(ib b3 a0 l1 c0 (eL b0 b1 b2 l1 []))⟩:Rn)) r5 g) rfl rfl Try.func56 rfl rfl rfl ?_ (fun y=>by rcases r5 with _|_<;>(intro e; cases e)) ?_
 clear hF;revert r5;intro r hF;intro t0 l5 r4 h26 h27;refine wz ?_;refine Th ?_;obtain⟨r15,h2,hF⟩:=J hF;refine ct (fun(r:Int⊕TP) (g:TP)=>match r,g with|.inl v11,_=>⟨.ret,[],(.obj l5 (r4 .done (some .ret))::ib b3 a0 l1 c0 [.obj b0 (.cells [.int .i64 3] .own),db b1 v11,oT b2 l1])⟩|.inr _,_=>⟨(.exit 0),[],(.obj l5 (r4 .ready none)::ib b3 a0 l1 c0 (eL b0 b1 b2 l1 []))⟩) r15 ?_ ?_
 refine lo h2 () [0,1,2,3,4,5,6] (fun v4 _=>⟨.normal,[(0,.func (.yield l5) #[] #[]),(1,ptr b10 0),(5,bD a0 l1 c0),(6,dN l1),(7,ba v4)],(.obj l5 (r4 .ready none)::ib b10 a0 l1 c0 (zo b3 a0 l1 c0::eL b0 b1 b2 l1 []))⟩) ?_;clear hF h2;rintro v4 ⟨⟩ r hF;unfold xJ at hF;refine wz ?_;refine Td ?_;rcases U hF with⟨h28,hF⟩|⟨h28,hF⟩;refine au ?_;obtain⟨h29,hF⟩:=cO hF;refine Tv (k:=2) rfl (aM h29) ?_;rintro b12 o3 rfl;refine wz ?_;obtain⟨⟨x20,x21⟩,h62,hF⟩:=J hF;refine wz ?_;refine wa z26 fun b25=>?_;refine au ?_;obtain⟨h30,hF⟩:=az hF;refine Tc (aJ rfl rfl (bU _ _ h30)) rfl ?_;obtain⟨h63,hF⟩:=cO hF;refine wz ?_;obtain⟨⟨x22,x23⟩,h64,hF⟩:=J hF;refine wz ?_;refine Tc (cp rfl z87 rfl (cm AI rfl rfl rfl)) rfl ?_;obtain⟨r6,h6,hF⟩:=J hF;refine Ts (tJ (k:=2) (k1:=0) (γA:=Nat) (GA:=(fun g:Nat=>(match g with|b14=>⟨.normal,(ic b0 b1 [(6,ptr b14 0)]),(.obj l5 (r4 .ready none)::dH b0::dH b1::fG b14 v4 x20 x21 x22 x23::pA b3 b12 o3 l1 c0 [oT b2 l1,nH b10 b12 o3 l1 c0])⟩:En))) (γ:=TP) (G:=fun g=>(fun(r:TP⊕TP) (g:TP)=>(match r,g with|.inl _,_=>⟨.ret,[],(.obj l5 (r4 .busy none)::pA b3 b12 o3 l1 c0 [.obj b0 (.cells [.int .i64 3] .own),db b1 v4,oT b2 l1,nH b10 b12 o3 l1 c0])⟩|.inr _,_=>⟨.normal,[],(.obj l5 (r4 .busy none)::pA b3 b12 o3 l1 c0 (eL b0 b1 b2 l1 [nH b10 b12 o3 l1 c0]))⟩:En)) r6 g) rfl rfl rfl h27 h26 rfl ?_ (fun _=>rfl) (fun _=>rfl) ?_ (fun y=>by rcases r6 with _|_<;>rfl)) gn rfl ?_
 clear hF h6;refine Te<|wa z87 fun b17=>?_;refine wz ?_;exact ae b17 [3,7,8,0,6,2,5,9,4];clear hF;revert r6;intro r hF;rintro b14;refine wz ?_;refine Tc (aJ rfl rfl (GN Mr (Me _ _ _ _))) rfl ?_;refine wz ?_;rcases U hF with⟨h7,hF⟩|⟨h7,hF⟩;refine Ty rfl h7<|Td<|TB (prs:=[(1,2)]) (by kernel_rfl)<|Tf (aG (r:=ptr b14 0) rfl (sQ _ _)) rfl<|Wn.uZ rfl (aH (k:=3) cb rfl rfl rfl) rfl<|Wn.Ht rfl (ek (k:=1) cb rfl rfl rfl rfl rfl)<|Wn.o0 (ek (k:=2) cb rfl rfl rfl rfl rfl)<|Tx (fun m hm=>(dj.rw rfl rfl rfl (hm.ne (i:=3) (j:=1) rfl rfl rfl rfl (by decide) rfl) dj.nil)) ?_
 refine au ?_;cases hF;exact ae () [0,4,5,6,1,2,7,8];refine wz ?_;cases hF;exact ae () [0,4,5,6,1,2,7,8];rcases r6 with _|_;rintro⟨⟩;refine au ?_;cases hF;exact ae () [0,1,3,4,5,6];rintro⟨⟩;refine fW ?_;cases hF;exact ae () [0,7,3,1,4,5,6];refine wz ?_;cases hF;exact ae () [0,3,2,4,5,6];rcases r15 with v11|_;rintro⟨⟩;refine At.br ?_;cases hF;exact Tt .nil fun m' hm=>⟨(),(Ti [0,1,2,3,4,5] rfl rfl) m' hm⟩;rintro⟨⟩;refine TJ ?_;cases hF;exact At.fin .nil fun m' hm=>⟨(),(Ti [0,1,2,3,4,5] rfl rfl) m' hm⟩;rcases r5 with v10|_;rintro⟨⟩
 change Wk _ _ _ _ .ret _ _ _ _
 refine wz ?_;cases hF;exact Tt (.cell (k:=2) cb rfl rfl rfl (.cell (k:=3) cb rfl rfl rfl .nil)) fun m' hm=>⟨(),rfl,(Ti [] rfl rfl) m' hm⟩;rintro⟨⟩
 change At _ .normal _ _ _
 refine au ?_;obtain⟨r16,h31,hF⟩:=J hF;refine wq (fun _ (b9:Nat)=>(.func (.func 56) #[] #[ptr b9 0],(ib b9 a0 l1 c0 (zo b3 a0 l1 c0::eL b0 b1 b2 l1 [])))) r16 (fun m hm=>?_) ?_;clear hF;revert r16;intro r hF;refine aQ (N:=4) (rs:=[.tmp 2]) rfl Try.func39 rfl rfl rfl hm ?_;refine wz ?_;refine wb fun b18=>?_;refine au ?_;refine Tc (je rfl rfl) rfl ?_;refine au ?_;cases hF;exact ar b18 [0,2,1,3,4,5];rintro b9;refine wz ?_;refine Th ?_;obtain⟨r7,h32,hF⟩:=J hF;refine Wk.range (N:=27) (rs:=[]) (γ:=TP) (X:=fun g=>(fun(r:Int⊕TP) (g:TP)=>(match r,g with|.inl v12,_=>⟨.done,(some .ret),(ib b3 a0 l1 c0 [.obj b0 (.cells [.int .i64 4] .own),db b1 v12,oT b2 l1])⟩|.inr _,_=>⟨.ready,none,(ib b3 a0 l1 c0 (eL b0 b1 b2 l1 []))⟩:Rn)) r7 g) rfl rfl Try.func56 rfl rfl rfl ?_ (fun y=>by rcases r7 with _|_<;>(intro e; cases e)) ?_
 clear hF;revert r7;intro r hF;intro t1 l4 r3 h33 h34;refine wz ?_;refine Th ?_;obtain⟨r17,h3,hF⟩:=J hF;refine ct (fun(r:Int⊕TP) (g:TP)=>match r,g with|.inl v13,_=>⟨.ret,[],(.obj l4 (r3 .done (some .ret))::ib b3 a0 l1 c0 [.obj b0 (.cells [.int .i64 4] .own),db b1 v13,oT b2 l1])⟩|.inr _,_=>⟨(.exit 0),[],(.obj l4 (r3 .ready none)::ib b3 a0 l1 c0 (eL b0 b1 b2 l1 []))⟩) r17 ?_ ?_
 refine lo h3 () [0,1,2,3,4,5,6] (fun v1 _=>⟨.normal,[(0,.func (.yield l4) #[] #[]),(1,ptr b9 0),(5,bD a0 l1 c0),(6,dN l1),(7,ba v1)],(.obj l4 (r3 .ready none)::ib b9 a0 l1 c0 (zo b3 a0 l1 c0::eL b0 b1 b2 l1 []))⟩) ?_;clear hF h3;rintro v1 ⟨⟩ r hF;unfold xM at hF;refine wz ?_;refine Td ?_;rcases U hF with⟨h35,hF⟩|⟨h35,hF⟩;refine au ?_;obtain⟨h36,hF⟩:=cO hF;refine Tv (k:=2) rfl (aM h36) ?_;rintro b11 o2 rfl;refine wz ?_;obtain⟨⟨x12,x13⟩,h65,hF⟩:=J hF;refine wz ?_;refine wa z26 fun b26=>?_;refine au ?_;obtain⟨h37,hF⟩:=az hF;refine Tc (aJ rfl rfl (bU _ _ h37)) rfl ?_;obtain⟨h66,hF⟩:=cO hF;refine wz ?_;obtain⟨⟨x14,x15⟩,h67,hF⟩:=J hF;refine wz ?_;refine Tc (cp rfl z87 rfl (cm AI rfl rfl rfl)) rfl ?_;obtain⟨r8,h8,hF⟩:=J hF;refine Ts (tJ (k:=2) (k1:=0) (γA:=Nat) (GA:=(fun g:Nat=>(match g with|b6=>⟨.normal,((1,ptr b3 0)::ic b0 b1 [(4,ptr b2 0),(7,ptr b6 0)]),(.obj l4 (r3 .ready none)::pA b3 b11 o2 l1 c0 (eL b0 b1 b2 l1 [fG b6 v1 x12 x13 x14 x15,nH b9 b11 o2 l1 c0]))⟩:En))) (γ:=TP) (G:=fun g=>(fun(r:TP⊕TP) (g:TP)=>(match r,g with|.inl _,_=>⟨.ret,[],(.obj l4 (r3 .busy none)::pA b3 b11 o2 l1 c0 [.obj b0 (.cells [.int .i64 4] .own),db b1 v1,oT b2 l1,nH b9 b11 o2 l1 c0])⟩|.inr _,_=>⟨.normal,[],(.obj l4 (r3 .busy none)::pA b3 b11 o2 l1 c0 (eL b0 b1 b2 l1 [nH b9 b11 o2 l1 c0]))⟩:En)) r8 g) rfl rfl rfl h34 h33 rfl ?_ (fun _=>rfl) (fun _=>rfl) ?_ (fun y=>by rcases r8 with _|_<;>rfl)) gn rfl ?_
 clear hF h8;refine Te<|wa z87 fun b19=>?_;refine wz ?_;exact ae b19 [3,6,2,5,7,8,9,0,4];clear hF;revert r8;intro r hF;rintro b6;refine Th<|Td<|Wk.draw (by kernel_rfl)<|Tc (aH (k:=1) NH rfl rfl rfl) rfl<|Tc (aG (r:=ptr b6 0) rfl (sQ _ _)) rfl<|Tc (aH (k:=7) cb rfl rfl rfl) rfl<|Tc (aH (k:=6) cb rfl rfl rfl) rfl<|Tc (aJ rfl rfl (bu _ _ _)) rfl<|Tc (aJ rfl rfl (cR _ _ _)) rfl<|Tc (aH (k:=6) cb rfl rfl rfl) rfl ?_
 obtain⟨h38,hF⟩:=az hF;obtain⟨y0,h39,hF⟩:=J hF;refine Tc (aJ rfl rfl ((bU _ _ h38).trans (cI h39))) rfl ?_;obtain⟨h68,hF⟩:=cO hF;refine wz ?_;obtain⟨⟨x26,x27⟩,h69,hF⟩:=J hF;refine wz ?_;refine wa z26 fun b15=>?_;refine wz ?_;refine Td ?_;obtain⟨v5,h40,hF⟩:=J hF;refine ct (fun v5 (_:TP)=>⟨.normal,((1,ptr b3 0)::ic b0 b1 [(4,ptr b2 0),(7,ptr b6 0),(85,.bool v5)]),(.obj l4 (r3 .busy none)::pA b3 b11 o2 l1 c0 (eL b0 b1 b2 l1 [fG b6 v1 x12 x13 x14 x15,nH b9 b11 o2 l1 c0]))⟩) v5 ?_ ?_;clear hF;revert v5;intro r hF;refine wz ?_;obtain⟨r23,h41,hF⟩:=J hF;refine wc gn (fun m hm=>oa h41 m) ?_;rintro⟨⟩;refine wz ?_;rcases U hF with⟨h0,hF⟩|⟨h0,hF⟩;refine Tu (aG (r:=ptr b6 1) rfl (fJ _ _)) (gg rfl rfl (eT h0)) rfl<|Tu (aG (r:=ptr b6 1) rfl (ec _ _)) (gg rfl rfl (eT h0)) rfl<|Tu (aH (k:=8) cb rfl rfl rfl) (gg rfl rfl (eT h0)) rfl<|Tu (aG (r:=ptr b15 0) rfl (ec _ _)) (gg rfl rfl (eT h0)) rfl<|Tu (aH (k:=0) cb rfl rfl rfl) (gg rfl rfl (eT h0)) rfl<|Tu (aJ rfl rfl (cR _ _ _)) (gg rfl rfl (eT h0)) rfl<|Tu (aG (r:=ptr b6 3) rfl (gX _ _)) (gg rfl rfl (eT h0)) rfl<|Tu (aG (r:=ptr b6 3) rfl (ec _ _)) (gg rfl rfl (eT h0)) rfl<|Tu (aH (k:=8) cb rfl rfl rfl) (gg rfl rfl (eT h0)) rfl<|Tu (aG (r:=ptr b6 1) rfl (fJ _ _)) (gg rfl rfl (eT h0)) rfl<|Tu (aG (r:=ptr b6 1) rfl (ec _ _)) (gg rfl rfl (eT h0)) rfl<|Tu (aH (k:=8) cb rfl rfl rfl) (gg rfl rfl (eT h0)) rfl<|Tu (aJ rfl rfl (cR _ _ _)) (gg rfl rfl (eT h0)) rfl ?_;obtain⟨y1,h42,hF⟩:=J hF;refine Tu (aJ rfl rfl ((dO _ _ _).trans (cI h42))) (gg rfl rfl (eT h0)) rfl<|Tu (aG (r:=ptr b6 1) rfl (fJ _ _)) (gg rfl rfl (eT h0)) rfl<|Tu (aG (r:=ptr b6 2) rfl (dZ _ _)) (gg rfl rfl (eT h0)) rfl<|Tu (aH (k:=8) cb rfl rfl rfl) (gg rfl rfl (eT h0)) rfl<|Tu (aG (r:=ptr b15 1) rfl (dZ _ _)) (gg rfl rfl (eT h0)) rfl<|Tu (aH (k:=0) cb rfl rfl rfl) (gg rfl rfl (eT h0)) rfl<|Tu (aJ rfl rfl (cR _ _ _)) (gg rfl rfl (eT h0)) rfl<|Tu (aG (r:=ptr b6 3) rfl (gX _ _)) (gg rfl rfl (eT h0)) rfl<|Tu (aG (r:=ptr b6 4) rfl (dZ _ _)) (gg rfl rfl (eT h0)) rfl<|Tu (aH (k:=8) cb rfl rfl rfl) (gg rfl rfl (eT h0)) rfl<|Tu (aG (r:=ptr b6 1) rfl (fJ _ _)) (gg rfl rfl (eT h0)) rfl<|Tu (aG (r:=ptr b6 2) rfl (dZ _ _)) (gg rfl rfl (eT h0)) rfl<|Tu (aH (k:=8) cb rfl rfl rfl) (gg rfl rfl (eT h0)) rfl<|Tu (aJ rfl rfl (cR _ _ _)) (gg rfl rfl (eT h0)) rfl ?_;obtain⟨y2,h43,hF⟩:=J hF;refine Tu (aJ rfl rfl ((dO _ _ _).trans (cI h43))) (gg rfl rfl (eT h0)) rfl ?_;refine wz ?_;cases hF;exact ae () (TL 1 9);refine wz ?_;cases hF;exact ae () (TL 1 9);rintro⟨⟩;refine Tl ?_;rcases U hF with⟨h9,hF⟩|⟨h9,hF⟩;refine Ty rfl h9<|Td<|TB (prs:=[(1,2)]) (by kernel_rfl)<|Tf (aG (r:=ptr b6 0) rfl (sQ _ _)) rfl<|Wn.uZ rfl (aH (k:=7) cb rfl rfl rfl) rfl<|Wn.Ht rfl (ek (k:=4) cb rfl rfl rfl rfl rfl)<|Wn.o0 (ek (k:=5) cb rfl rfl rfl rfl rfl)<|Tx (fun m hm=>(dj.rw rfl rfl rfl (hm.ne (i:=7) (j:=4) rfl rfl rfl rfl (by decide) rfl) dj.nil)) ?_
 refine au ?_;cases hF;exact ae () [0,1,2,3,4,5,6,8];refine wz ?_;cases hF;exact ae () [0,1,2,3,4,5,6,8];rcases r8 with _|_;rintro⟨⟩;refine au ?_;cases hF;exact ae () [0,1,3,4,5,6];rintro⟨⟩;refine fW ?_;cases hF;exact ae () [0,7,3,1,4,5,6];refine wz ?_;cases hF;exact ae () [0,3,2,4,5,6];rcases r17 with v13|_;rintro⟨⟩;refine At.br ?_;cases hF;exact Tt .nil fun m' hm=>⟨(),(Ti [0,1,2,3,4,5] rfl rfl) m' hm⟩;rintro⟨⟩;refine TJ ?_;cases hF;exact At.fin .nil fun m' hm=>⟨(),(Ti [0,1,2,3,4,5] rfl rfl) m' hm⟩;rcases r7 with v12|_;rintro⟨⟩
 change Wk _ _ _ _ .ret _ _ _ _
 refine wz ?_;cases hF;exact Tt (.cell (k:=2) cb rfl rfl rfl (.cell (k:=3) cb rfl rfl rfl .nil)) fun m' hm=>⟨(),rfl,(Ti [] rfl rfl) m' hm⟩;rintro⟨⟩
 change At _ .normal _ _ _
 refine au ?_;obtain⟨r18,h44,hF⟩:=J hF;refine wq (fun _ (b5:Nat)=>(.func (.func 56) #[] #[ptr b5 0],(ib b5 a0 l1 c0 (zo b3 a0 l1 c0::eL b0 b1 b2 l1 [])))) r18 (fun m hm=>?_) ?_;clear hF;revert r18;intro r hF;refine aQ (N:=4) (rs:=[.tmp 2]) rfl Try.func39 rfl rfl rfl hm ?_;refine wz ?_;refine wb fun b20=>?_;refine au ?_;refine Tc (je rfl rfl) rfl ?_;refine au ?_;cases hF;exact ar b20 [0,2,1,3,4,5];rintro b5;refine wz ?_;refine Th ?_;obtain⟨r9,h45,hF⟩:=J hF;refine Wk.range (N:=27) (rs:=[]) (γ:=TP) (X:=fun g=>(fun(r:Int⊕TP) (g:TP)=>(match r,g with|.inl v14,_=>⟨.done,(some .ret),(ib b3 a0 l1 c0 [Dx b0,db b1 v14,oT b2 l1])⟩|.inr _,_=>⟨.ready,none,(ib b3 a0 l1 c0 (eL b0 b1 b2 l1 []))⟩:Rn)) r9 g) rfl rfl Try.func56 rfl rfl rfl ?_ (fun y=>by rcases r9 with _|_<;>(intro e; cases e)) ?_
 clear hF;revert r9;intro r hF;intro t2 l2 r0 h46 h10;refine wz ?_;refine Th ?_;obtain⟨r19,h4,hF⟩:=J hF;refine ct (fun(r:Int⊕TP) (g:TP)=>match r,g with|.inl v15,_=>⟨.ret,[],(.obj l2 (r0 .done (some .ret))::ib b3 a0 l1 c0 [Dx b0,db b1 v15,oT b2 l1])⟩|.inr _,_=>⟨(.exit 0),[],(.obj l2 (r0 .ready none)::ib b3 a0 l1 c0 (eL b0 b1 b2 l1 []))⟩) r19 ?_ ?_
 refine lo h4 () [0,1,2,3,4,5,6] (fun v0 _=>⟨.normal,[(0,.func (.yield l2) #[] #[]),(1,ptr b5 0),(5,bD a0 l1 c0),(6,dN l1),(7,ba v0)],(.obj l2 (r0 .ready none)::ib b5 a0 l1 c0 (zo b3 a0 l1 c0::eL b0 b1 b2 l1 []))⟩) ?_;clear hF h4;rintro v0 ⟨⟩ r hF;unfold yY at hF;refine wz ?_;refine Td ?_;rcases U hF with⟨h47,hF⟩|⟨h47,hF⟩;refine au ?_;obtain⟨h48,hF⟩:=cO hF;refine Tv (k:=2) rfl (aM h48) ?_;rintro b4 o1 rfl;refine wz ?_;obtain⟨⟨x3,x4⟩,h70,hF⟩:=J hF;refine wz ?_;refine wa z26 fun b27=>?_;refine au ?_;obtain⟨h49,hF⟩:=az hF;refine Tc (aJ rfl rfl (bU _ _ h49)) rfl ?_;obtain⟨h71,hF⟩:=cO hF;refine wz ?_;obtain⟨⟨x10,x11⟩,h72,hF⟩:=J hF;refine wz ?_;refine Tc (cp rfl z87 rfl (cm AI rfl rfl rfl)) rfl ?_;obtain⟨r10,h11,hF⟩:=J hF;refine Ts (tJ (k:=2) (k1:=0) (γA:=Nat) (GA:=(fun g:Nat=>(match g with|b7=>⟨.normal,((1,ptr b3 0)::ic b0 b1 [(4,ptr b2 0),(9,ptr b7 0)]),(.obj l2 (r0 .ready none)::pA b3 b4 o1 l1 c0 (eL b0 b1 b2 l1 [fG b7 v0 x3 x4 x10 x11,nH b5 b4 o1 l1 c0]))⟩:En))) (γ:=TP) (G:=fun g=>(fun(r:TP⊕TP) (g:TP)=>(match r,g with|.inl _,_=>⟨.normal,[],(.obj l2 (r0 .busy none)::pA b3 b4 o1 l1 c0 (eL b0 b1 b2 l1 [nH b5 b4 o1 l1 c0]))⟩|.inr _,_=>⟨.ret,[],(.obj l2 (r0 .busy none)::pA b3 b4 o1 l1 c0 [Dx b0,db b1 v0,oT b2 l1,nH b5 b4 o1 l1 c0])⟩:En)) r10 g) rfl rfl rfl h10 h46 rfl ?_ (fun _=>rfl) (fun _=>rfl) ?_ (fun y=>by rcases r10 with _|_<;>rfl)) gn rfl ?_
 clear hF h11;refine Te<|wa z87 fun b21=>?_;refine wz ?_;exact ae b21 [3,6,2,5,7,8,9,0,4];clear hF;revert r10;intro r hF;rintro b7;refine wz ?_;obtain⟨r20,h50,hF⟩:=J hF;refine wq (fun _ (b8:Nat)=>(.func (.func 56) #[] #[ptr b8 0],(.obj l2 (r0 .busy none)::pA b8 b4 o1 l1 c0 (nH b3 b4 o1 l1 c0::eL b0 b1 b2 l1 [nH b5 b4 o1 l1 c0,fG b7 v0 x3 x4 x10 x11])))) r20 (fun m hm=>?_) ?_;clear hF;revert r20;intro r hF;refine aQ (N:=4) (rs:=[.tmp 2]) rfl Try.func39 rfl rfl rfl hm ?_;refine wz ?_;refine wb fun b22=>?_;refine au ?_;refine Tc (je rfl rfl) rfl ?_;refine au ?_;cases hF;exact ar b22 [1,0,3,4,2,5,6,7,9,8];rintro b8;refine wz ?_;refine Th ?_;obtain⟨r11,h51,hF⟩:=J hF;refine Wk.Ki (k0:=0) (N:=27) (rs:=[]) (γ:=TP) (X:=fun g=>(fun(r:TP⊕TP⊕TP) (g:TP)=>(match r,g with|.inl _,_=>⟨.done,(some (.exit 6)),(.obj l2 (r0 .busy none)::pA b3 b4 o1 l1 c0 (eL b0 b1 b2 l1 [nH b5 b4 o1 l1 c0,fG b7 v0 x3 x4 x10 x11]))⟩|.inr (.inl _),_=>⟨.done,(some .ret),(.obj l2 (r0 .busy none)::pA b3 b4 o1 l1 c0 [Dx b0,db b1 v0,oT b2 l1,nH b5 b4 o1 l1 c0,fG b7 v0 x3 x4 x10 x11])⟩|.inr (.inr _),_=>⟨.ready,none,(.obj l2 (r0 .busy none)::pA b3 b4 o1 l1 c0 (eL b0 b1 b2 l1 [nH b5 b4 o1 l1 c0,fG b7 v0 x3 x4 x10 x11]))⟩:Rn)) r11 g) rfl rfl Try.func56 rfl rfl rfl h10 rfl ?_ (fun y=>by rcases r11 with _|_|_<;>(intro e; cases e)) ?_
 clear hF;revert r11;intro r hF;intro t3 l3 r1 h52 h53;refine wz ?_;refine Th ?_;obtain⟨r21,h5,hF⟩:=J hF;refine ct (fun(r:TP⊕TP⊕TP) (g:TP)=>match r,g with|.inl _,_=>⟨.ret,[],(.obj l3 (r1 .done (some (.exit 6)))::.obj l2 (r0 .busy none)::pA b3 b4 o1 l1 c0 (eL b0 b1 b2 l1 [nH b5 b4 o1 l1 c0,fG b7 v0 x3 x4 x10 x11]))⟩|.inr (.inl _),_=>⟨.ret,[],(.obj l3 (r1 .done (some .ret))::.obj l2 (r0 .busy none)::pA b3 b4 o1 l1 c0 [Dx b0,db b1 v0,oT b2 l1,nH b5 b4 o1 l1 c0,fG b7 v0 x3 x4 x10 x11])⟩|.inr (.inr _),_=>⟨(.exit 0),[],(.obj l3 (r1 .ready none)::.obj l2 (r0 .busy none)::pA b3 b4 o1 l1 c0 (eL b0 b1 b2 l1 [nH b5 b4 o1 l1 c0,fG b7 v0 x3 x4 x10 x11]))⟩) r21 ?_ ?_
 refine lo h5 () [0,1,2,3,4,5,6,7,8,9,10] (fun v6 _=>⟨.normal,[(0,.func (.yield l3) #[] #[]),(1,ptr b8 0),(5,tK b4 o1 l1 c0),(6,dN l1),(7,ba v6)],(.obj l3 (r1 .ready none)::.obj l2 (r0 .busy none)::pA b8 b4 o1 l1 c0 (nH b3 b4 o1 l1 c0::eL b0 b1 b2 l1 [nH b5 b4 o1 l1 c0,fG b7 v0 x3 x4 x10 x11]))⟩) ?_;clear hF h5;rintro v6 ⟨⟩ r hF;unfold zb at hF;refine wz ?_;refine Td ?_;rcases U hF with⟨h54,hF⟩|⟨h54,hF⟩;refine au ?_;obtain⟨h73,hF⟩:=cO hF;refine wz ?_;obtain⟨⟨x16,x17⟩,h74,hF⟩:=J hF;refine wz ?_;refine wa z26 fun b28=>?_;refine au ?_;obtain⟨h55,hF⟩:=az hF;refine Tc (aJ rfl rfl (bU _ _ h55)) rfl ?_;obtain⟨h75,hF⟩:=cO hF;refine wz ?_;obtain⟨⟨x18,x19⟩,h76,hF⟩:=J hF;refine wz ?_;refine Tc (cp rfl z87 rfl (cm AI rfl rfl rfl)) rfl ?_;obtain⟨r12,h12,hF⟩:=J hF;refine Ts (tJ (k:=1) (k1:=0) (γA:=Nat) (GA:=(fun g:Nat=>(match g with|b13=>⟨.normal,(ic b0 b1 [(4,ptr b2 0),(9,ptr b7 0),(10,ptr b13 0)]),(.obj l3 (r1 .ready none)::.obj l2 (r0 .busy none)::eL b0 b1 b2 l1 (fG b7 v0 x3 x4 x10 x11::fG b13 v6 x16 x17 x18 x19::pA b3 b4 o1 l1 c0 [nH b5 b4 o1 l1 c0,nH b8 b4 o1 l1 c0]))⟩:En))) (γ:=TP) (G:=fun g=>(fun(r:TP⊕TP⊕TP) (g:TP)=>(match r,g with|.inl _,_=>⟨(.exit 6),[],(.obj l3 (r1 .busy none)::.obj l2 (r0 .busy none)::pA b3 b4 o1 l1 c0 (eL b0 b1 b2 l1 [nH b5 b4 o1 l1 c0,fG b7 v0 x3 x4 x10 x11,nH b8 b4 o1 l1 c0]))⟩|.inr (.inl _),_=>⟨.normal,[],(.obj l3 (r1 .busy none)::.obj l2 (r0 .busy none)::pA b3 b4 o1 l1 c0 (eL b0 b1 b2 l1 [nH b5 b4 o1 l1 c0,fG b7 v0 x3 x4 x10 x11,nH b8 b4 o1 l1 c0]))⟩|.inr (.inr _),_=>⟨.ret,[],(.obj l3 (r1 .busy none)::.obj l2 (r0 .busy none)::pA b3 b4 o1 l1 c0 [Dx b0,db b1 v0,oT b2 l1,nH b5 b4 o1 l1 c0,fG b7 v0 x3 x4 x10 x11,nH b8 b4 o1 l1 c0])⟩:En)) r12 g) rfl rfl rfl h53 h52 rfl ?_ (fun _=>rfl) (fun _=>rfl) ?_ (fun y=>by rcases r12 with _|_|_<;>rfl)) gn rfl ?_
 clear hF h12;refine Te<|wa z87 fun b23=>?_;refine wz ?_;exact ae b23 [2,3,8,9,10,12,0,7,5,6,11,4];clear hF;revert r12;intro r hF;rintro b13;refine wz ?_;rcases U hF with⟨h56,hF⟩|⟨h56,hF⟩;refine wz ?_;cases hF;exact ae () [0,1,7,8,9,2,3,4,10,5,11];refine wz ?_;refine Td<|Td ?_;obtain⟨v7,h57,hF⟩:=J hF;refine ct (fun v7 (_:TP)=>⟨.normal,(ic b0 b1 [(4,ptr b2 0),(9,ptr b7 0),(10,ptr b13 0),(109,.bool v7)]),(.obj l3 (r1 .busy none)::.obj l2 (r0 .busy none)::eL b0 b1 b2 l1 (fG b7 v0 x3 x4 x10 x11::fG b13 v6 x16 x17 x18 x19::pA b3 b4 o1 l1 c0 [nH b5 b4 o1 l1 c0,nH b8 b4 o1 l1 c0]))⟩) v7 ?_ ?_;clear hF;revert v7;intro r hF;refine wz ?_;rcases U hF with⟨h58,hF⟩|⟨h58,hF⟩;refine wz ?_;cases hF;exact ae () (TL 0 12);refine wz ?_;cases hF;exact ae () (TL 0 12);rintro⟨⟩;refine Tl ?_;rcases U hF with⟨h59,hF⟩|⟨h59,hF⟩;refine wz ?_;cases hF;exact ae () [0,1,7,8,9,2,3,4,10,5,11];refine au ?_;obtain⟨r24,h60,hF⟩:=J hF;refine wc gn (fun m hm=>Gl h60 m) ?_;rintro⟨⟩;refine wz ?_;rcases U hF with⟨h13,hF⟩|⟨h13,hF⟩;refine Ty rfl h13<|Td<|TB (prs:=[(1,2)]) (by kernel_rfl)<|Tf (aG (r:=ptr b7 0) rfl (sQ _ _)) rfl<|Wn.uZ rfl (aH (k:=5) cb rfl rfl rfl) rfl<|Wn.Ht rfl (ek (k:=2) cb rfl rfl rfl rfl rfl)<|Wn.o0 (ek (k:=3) cb rfl rfl rfl rfl rfl)<|Tx (fun m hm=>(dj.rw rfl rfl rfl (hm.ne (i:=5) (j:=2) rfl rfl rfl rfl (by decide) rfl) dj.nil)) ?_
 refine au ?_;cases hF;exact ae () [0,1,7,8,9,2,3,4,10,5,11];refine wz ?_;cases hF;exact ae () [0,1,7,8,9,2,3,4,10,5,11];rcases r12 with _|_|_;rintro⟨⟩;refine au ?_;cases hF;exact ae () (TL 0 10);rintro⟨⟩;refine fW ?_;cases hF;exact ae () [0,1,10,3,4,2,5,6,7,8,9];rintro⟨⟩;refine au ?_;cases hF;exact ae () (TL 0 10);refine wz ?_;cases hF;exact ae () [0,1,5,3,4,6,7,8,9,10];rcases r21 with _ |(_|_);rintro⟨⟩;refine At.br ?_;cases hF;exact Tt .nil fun m' hm=>⟨(),(Ti [0,1,2,3,4,5,6,7,8,9] rfl rfl) m' hm⟩;rintro⟨⟩;refine At.br ?_;cases hF;exact Tt .nil fun m' hm=>⟨(),(Ti [0,1,2,3,4,5,6,7,8,9] rfl rfl) m' hm⟩;rintro⟨⟩;refine TJ ?_;cases hF;exact At.fin .nil fun m' hm=>⟨(),(Ti [0,1,2,3,4,5,6,7,8,9] rfl rfl) m' hm⟩;rcases r11 with _|_|_;rintro⟨⟩
 change Wk _ _ _ _ (.exit 6) _ _ _ _
 refine wz ?_;cases hF;exact ae () (TL 0 8);rintro⟨⟩
 change Wk _ _ _ _ .ret _ _ _ _
 refine wz ?_;cases hF;exact ae () (TL 0 8);rintro⟨⟩
 change At _ .normal _ _ _
 refine wz ?_;cases hF;exact ae () (TL 0 8);rcases r10 with _|_;rintro⟨⟩;refine fW ?_;cases hF;exact ae () [0,7,3,1,4,5,6];rintro⟨⟩;refine au ?_;cases hF;exact ae () [0,1,3,4,5,6];refine wz ?_;cases hF;exact ae () [0,3,2,4,5,6];rcases r19 with v15|_;rintro⟨⟩;refine At.br ?_;cases hF;exact Tt .nil fun m' hm=>⟨(),(Ti [0,1,2,3,4,5] rfl rfl) m' hm⟩;rintro⟨⟩;refine TJ ?_;cases hF;exact At.fin .nil fun m' hm=>⟨(),(Ti [0,1,2,3,4,5] rfl rfl) m' hm⟩;rcases r9 with v14|_;rintro⟨⟩
 change Wk _ _ _ _ .ret _ _ _ _
 refine wz ?_;cases hF;exact Tt (.cell (k:=2) cb rfl rfl rfl (.cell (k:=3) cb rfl rfl rfl .nil)) fun m' hm=>⟨(),rfl,(Ti [] rfl rfl) m' hm⟩;rintro⟨⟩
 change At _ .normal _ _ _
 refine fW ?_;cases hF;exact Tt (.cell (k:=2) cb rfl rfl rfl (.cell (k:=3) cb rfl rfl rfl .nil)) fun m' hm=>⟨(),rfl,(Ti [] rfl rfl) m' hm⟩
def DE{n l1 a2 c3 r}(hF:MC n l1=some r)(m)(h4:ja m a2 c3 l1):
 aI (TV p q) 37 [bD a2 l1 c3] m (TQ m (.int .i64 r)):=by
 unfold MC at hF;refine cw Try.func37 (Tw (Tp m) dI h4) ?_;refine au ?_;obtain⟨⟨r6,r7⟩,h5,hF⟩:=J hF;refine wc gn (fun m hm=>Lh h5 m (hm.q 0)) ?_;rintro⟨⟩;refine au ?_;rcases U hF with⟨h8,hF⟩|⟨h8,hF⟩;refine au ?_;cases hF;exact ar () [];refine fW ?_;cases hF;exact ar () []
def Gd{n l1 a2 c3 r}(hF:MM n l1=some r)(m)(h4:ja m a2 c3 l1):
 aI (TV p q) 26 [bD a2 l1 c3] m (TQ m (.int .i64 r)):=by
 unfold MM at hF;refine cw Try.func26 (Tw (Tp m) dI h4) ?_;refine fW ?_;refine Th ?_;obtain⟨v27,h44,hF⟩:=J hF;refine ct (fun v27 (_:TP)=>⟨(.exit 0),[(3,ba v27)],[]⟩) v27 ?_ ?_;refine lo h44 () [0] (fun(v7,v8) _=>⟨.normal,((0,bD a2 l1 c3)::(3,ba v7)::yy a2 l1 c3 v8 []),[q6 a2 c3 l1]⟩) ?_;clear hF h44;rintro⟨v7,v8⟩ ⟨⟩ r hF;unfold ug at hF;refine wz ?_;refine Td ?_;rcases U hF with⟨h28,hF⟩|⟨h28,hF⟩;refine au ?_;obtain⟨h29,hF⟩:=cO hF;refine Tv (k:=0) rfl (aM h29) ?_;rintro b30 o31 rfl;refine wz ?_;obtain⟨⟨x32,x33⟩,h34,hF⟩:=J hF;refine wz ?_;refine wa z26 fun b35=>?_;refine au ?_;obtain⟨h36,hF⟩:=az hF;refine Tc (aJ rfl rfl (bU _ _ h36)) rfl ?_;obtain⟨h37,hF⟩:=cO hF;refine wz ?_;obtain⟨⟨x38,x39⟩,h40,hF⟩:=J hF;refine wz ?_;refine wa z26 fun b41=>?_;refine wz ?_;refine Te<|Tc (aS rfl) rfl<|Tc (aG (r:=ptr b35 0) rfl (ec _ _)) rfl<|Tc (aH (k:=1) cb rfl rfl rfl) rfl<|Tc (aG (r:=ptr b41 1) rfl (dZ _ _)) rfl<|Tc (aH (k:=0) cb rfl rfl rfl) rfl<|Tc (aJ rfl rfl (dO _ _ _)) rfl<|Tc (aG (r:=ptr b35 1) rfl (dZ _ _)) rfl<|Tc (aH (k:=1) cb rfl rfl rfl) rfl<|Tc (aG (r:=ptr b41 0) rfl (ec _ _)) rfl<|Tc (aH (k:=0) cb rfl rfl rfl) rfl<|Tc (aJ rfl rfl (dO _ _ _)) rfl ?_;obtain⟨y42,h43,hF⟩:=J hF;refine Tc (aJ rfl rfl ((cR _ _ _).trans (cI h43))) rfl ?_;refine au ?_;cases hF;exact ae () [3];refine wz ?_;cases hF;exact ae () [];rintro⟨⟩;refine fW ?_;obtain rfl:=QL hF;exact ar () []
def Ls{n x1 x2 x3 x4 x5 x6 x7 x8 r}(hF:Oj n x1 x2 x3 x4 x5 x6 x7 x8=some r)(m):
 aI (TV p q) 98 [kW x1 x2,kW x3 x4,kW x5 x6,kW x7 x8] m (TQ m (.tuple #[.int .i64 r.1,.int .i64 r.2])):=by
 unfold Oj at hF;refine cw Try.func98 (Tp m) ?_;refine wz ?_;refine wb fun b9=>?_;refine wb fun b10=>?_;refine wb fun b11=>?_;refine wb fun b12=>?_;refine wz ?_;refine Td<|Td ?_;obtain⟨v56,h70,hF⟩:=J hF;refine ct (fun v56 (_:TP)=>⟨.normal,[(4,ptr b9 0),(5,ptr b10 0),(6,ptr b11 0),(7,ptr b12 0),(33,.bool v56)],[cK b9 x1 x2,cK b10 x3 x4,cK b11 x5 x6,cK b12 x7 x8]⟩) v56 ?_ ?_;clear hF;revert v56;intro r hF;refine wz ?_;obtain⟨r58,h57,hF⟩:=J hF;refine wc gn (fun m hm=>pR h57 m) ?_;rintro⟨⟩;refine wz ?_;rcases U hF with⟨h59,hF⟩|⟨h59,hF⟩;refine wz ?_;cases hF;exact ae () [3,2,1,0];refine wz ?_;obtain⟨r61,h60,hF⟩:=J hF;refine wc (gg rfl rfl (p9 h59)) (fun m hm=>pR h60 m) ?_;rintro⟨⟩;refine wz ?_;rcases U hF with⟨h62,hF⟩|⟨h62,hF⟩;refine wz ?_;cases hF;exact ae () [3,2,1,0];refine wz ?_;obtain⟨r64,h63,hF⟩:=J hF;refine wc (gg rfl rfl (p9 h62)) (fun m hm=>pR h63 m) ?_;rintro⟨⟩;refine wz ?_;rcases U hF with⟨h65,hF⟩|⟨h65,hF⟩;refine wz ?_;cases hF;exact ae () [3,2,1,0];refine wz ?_;obtain⟨r67,h66,hF⟩:=J hF;refine wc (gg rfl rfl (p9 h65)) (fun m hm=>pR h66 m) ?_;rintro⟨⟩;refine wz ?_;rcases U hF with⟨h68,hF⟩|⟨h68,hF⟩;refine wz ?_;cases hF;exact ae () [3,2,1,0];refine wz ?_;refine Tu (aJ rfl rfl (GN Mr (Me _ _ _ _))) (gg rfl rfl (p9 h68)) rfl ?_;refine wz ?_;rcases U hF with⟨h69,hF⟩|⟨h69,hF⟩;refine wz ?_;cases hF;exact ae () [3,2,1,0];refine wz ?_;refine Tu (aJ rfl rfl (GN Mr (Me _ _ _ _))) (gg rfl rfl (p9 h69)) rfl ?_;refine wz ?_;cases hF;exact ae () [3,2,1,0];rintro⟨⟩;refine Tl ?_;rcases U hF with⟨h72,hF⟩|⟨h72,hF⟩;refine au ?_;cases hF;exact ar () [];refine au ?_;refine Tc (cp rfl z87 rfl (cm AI rfl rfl rfl)) rfl ?_;refine wz ?_;refine Tc (cp rfl z87 rfl (cm AI rfl rfl rfl)) rfl ?_;obtain⟨r74,h73,hF⟩:=J hF;refine wc gn (fun m hm=>Gl h73 m) ?_;rintro⟨⟩;refine au ?_;cases hF;exact ar () []
def Ku{n l1 l5 x12 x13 x14 x15 x16 x17 x18 x19 a2 c3 a6 c7}{rr8:SV}{es9:SS}{r}(hF:Ng n l1 l5 x12 x13 x14 x15 x16 x17 x18 x19=some r)(m)(h4:ja m a2 c3 l1)(h10:lW m a6 c7 l5 es9)(h11:(cd ak rr8 l5 es9).P m):
 aI (TV p q) 83 [kI a2 l1 c3 a6 l5 c7,.agg #[ba x12,ba x13,ba x14,ba x15],.agg #[ba x16,ba x17,ba x18,ba x19]] m (TQ m (.bool r)):=by
 unfold Ng at hF;refine cw Try.func83 (Hp.mz (Tw (Tw (Tp m) dI h4) (eC dI) h10) (eC (eC dI)) h11) ?_;refine wz ?_;refine wb fun b20=>?_;refine wb fun b21=>?_;refine wb fun b22=>?_;refine wz ?_;refine Td<|Td ?_;obtain⟨v39,h44,hF⟩:=J hF;refine ct (fun v39 (_:TP)=>⟨.normal,[(3,ptr b20 0),(4,ptr b21 0),(5,ptr b22 0),(34,.bool v39)],(fp b20 a2 l1 c3 a6 l5 c7 es9 ak rr8 [fF b21 x12 x13 x14 x15,fF b22 x16 x17 x18 x19])⟩) v39 ?_ ?_;clear hF;revert v39;intro r hF;refine wz ?_;rcases U hF with⟨h40,hF⟩|⟨h40,hF⟩;refine wz ?_;rcases U hF with⟨h41,hF⟩|⟨h41,hF⟩;refine wz ?_;cases hF;exact ae () [2,5,4,3,1,0];refine wz ?_;rcases U hF with⟨h42,hF⟩|⟨h42,hF⟩;refine wz ?_;cases hF;exact ae () [2,5,4,3,1,0];refine wz ?_;cases hF;exact ae () [2,5,4,3,1,0];refine wz ?_;rcases U hF with⟨h43,hF⟩|⟨h43,hF⟩;refine wz ?_;cases hF;exact ae () [2,5,4,3,1,0];refine wz ?_;cases hF;exact ae () [2,5,4,3,1,0];rintro⟨⟩;refine Tl ?_;rcases U hF with⟨h46,hF⟩|⟨h46,hF⟩;refine au ?_;cases hF;exact ar () [];refine au ?_;obtain⟨h47,hF⟩:=cO hF;refine Tv (k:=1) rfl (aM h47) ?_;rintro b48 o49 rfl;refine wz ?_;obtain⟨⟨x50,x51⟩,h52,hF⟩:=J hF;refine wz ?_;obtain⟨h53,hF⟩:=cO hF;refine wz ?_;obtain⟨⟨x54,x55⟩,h56,hF⟩:=J hF;refine wz ?_;obtain⟨h57,hF⟩:=cO hF;refine wz ?_;obtain⟨⟨x58,x59⟩,h60,hF⟩:=J hF;refine wz ?_;obtain⟨h61,hF⟩:=cO hF;refine wz ?_;obtain⟨⟨x62,x63⟩,h64,hF⟩:=J hF;refine wz ?_;obtain⟨⟨r66,r67⟩,h65,hF⟩:=J hF;refine wc gn (fun m hm=>Ls h65 m) ?_;rintro⟨⟩;refine fW ?_;rcases U hF with⟨h68,hF⟩|⟨h68,hF⟩;refine au ?_;cases hF;exact ar () [];refine wz ?_;rcases U hF with⟨h69,hF⟩|⟨h69,hF⟩;refine wz ?_;rcases U hF with⟨h70,hF⟩|⟨h70,hF⟩;refine wz ?_;rcases U hF with⟨h71,hF⟩|⟨h71,hF⟩;refine wz ?_;rcases U hF with⟨h72,hF⟩|⟨h72,hF⟩;refine au ?_;cases hF;exact ar () [];refine au ?_;cases hF;exact ar () [];refine au ?_;cases hF;exact ar () [];refine au ?_;cases hF;exact ar () [];refine fW ?_;cases hF;exact ar () []
def AK{n l1 x5 x6 a0 c0 r}(hF:I8 n l1 x5 x6=some r)(m)(h7:ja m a0 c0 l1):
 aI (TV p q) 36 [bD a0 l1 c0,kW x5 x6] m (TQ m (.int .i64 r)):=by
 unfold I8 at hF;refine cw Try.func36 (Tw (Tp m) dI h7) ?_;refine wz ?_;refine wb fun b0=>?_;refine fW ?_;refine Th ?_;obtain⟨r1,h0,hF⟩:=J hF;refine ct (fun(r:TP⊕Int) (g:TP)=>match r,g with|.inl _,_=>⟨.ret,[(4,.int .i64 1)],[]⟩|.inr v5,_=>⟨(.exit 0),[(5,ba v5)],[]⟩) r1 ?_ ?_
 refine lo h0 () [1,0] (fun(v1,v0) _=>⟨.normal,((0,bD a0 l1 c0)::(3,ptr b0 0)::(5,ba v1)::ym a0 l1 c0 v0 []),[q6 a0 c0 l1,cK b0 x5 x6]⟩) ?_;clear hF h0;rintro⟨v1,v0⟩ ⟨⟩ r hF;unfold rI at hF;refine wz ?_;refine Td ?_;rcases U hF with⟨h8,hF⟩|⟨h8,hF⟩;refine wz ?_;refine Td ?_;obtain⟨r0,h9,hF⟩:=J hF;refine ct (fun(r:TP⊕Int) (g:TP)=>match r,g with|.inl _,_=>⟨.ret,[(4,.int .i64 1)],[]⟩|.inr v6,_=>⟨.normal,((0,bD a0 l1 c0)::(3,ptr b0 0)::(5,ba v6)::ym a0 l1 c0 v0 []),[q6 a0 c0 l1,cK b0 x5 x6]⟩) r0 ?_ ?_
 clear hF;revert r0;intro r hF;refine wz ?_;obtain⟨h10,hF⟩:=cO hF;refine Tv (k:=0) rfl (aM h10) ?_;rintro b1 o1 rfl;refine wz ?_;obtain⟨⟨x3,x4⟩,h23,hF⟩:=J hF;refine wz ?_;refine wa z26 fun b2=>?_;refine au ?_;obtain⟨h11,hF⟩:=az hF;refine Tc (aJ rfl rfl (bU _ _ h11)) rfl ?_;obtain⟨h24,hF⟩:=cO hF;refine wz ?_;obtain⟨⟨x10,x11⟩,h25,hF⟩:=J hF;refine wz ?_;refine wa z26 fun b3=>?_;refine wz ?_;refine Td<|Te<|Tc (aG (r:=ptr b3 0) rfl (ec _ _)) rfl<|Tc (aH (k:=0) cb rfl rfl rfl) rfl<|Tc (aG (r:=ptr b2 0) rfl (ec _ _)) rfl<|Tc (aH (k:=1) cb rfl rfl rfl) rfl<|Tc (aJ rfl rfl (cR _ _ _)) rfl<|Tc (aG (r:=ptr b0 1) rfl (dZ _ _)) rfl<|Tc (aH (k:=4) cb rfl rfl rfl) rfl<|Tc (aG (r:=ptr b2 1) rfl (dZ _ _)) rfl<|Tc (aH (k:=1) cb rfl rfl rfl) rfl<|Tc (aJ rfl rfl (cR _ _ _)) rfl ?_;obtain⟨y0,h12,hF⟩:=J hF;refine Tc (aJ rfl rfl ((dO _ _ _).trans (cI h12))) rfl<|Tc (aG (r:=ptr b3 1) rfl (dZ _ _)) rfl<|Tc (aH (k:=0) cb rfl rfl rfl) rfl<|Tc (aG (r:=ptr b2 1) rfl (dZ _ _)) rfl<|Tc (aH (k:=1) cb rfl rfl rfl) rfl<|Tc (aJ rfl rfl (cR _ _ _)) rfl<|Tc (aG (r:=ptr b0 0) rfl (ec _ _)) rfl<|Tc (aH (k:=4) cb rfl rfl rfl) rfl<|Tc (aG (r:=ptr b2 0) rfl (ec _ _)) rfl<|Tc (aH (k:=1) cb rfl rfl rfl) rfl<|Tc (aJ rfl rfl (cR _ _ _)) rfl ?_;obtain⟨y1,h13,hF⟩:=J hF;refine Tc (aJ rfl rfl ((dO _ _ _).trans (cI h13))) rfl ?_;refine wz ?_;refine Th<|Td ?_;obtain⟨v2,h14,hF⟩:=J hF;refine ct (fun v2 (_:TP)=>⟨.normal,((0,tK b1 o1 l1 c0)::(3,ptr b0 0)::(5,ba v1)::(7,ptr b2 0)::(8,ptr b3 0)::(9,.int .i64 (S6 (y0-y1)))::sy b1 o1 l1 c0 v0 [(48,.bool v2)]),[Jq b1 o1 l1,IA b1 o1 c0 l1,cK b0 x5 x6,cK b2 x3 x4,cK b3 x10 x11]⟩) v2 ?_ ?_;clear hF;revert v2;intro r hF;refine wz ?_;rcases U hF with⟨h1,hF⟩|⟨h1,hF⟩;refine wz ?_;refine Tu (ll rfl rfl (mc _ _)) (gg rfl rfl (eT h1)) rfl ?_;refine wz ?_;rcases U hF with⟨h2,hF⟩|⟨h2,hF⟩;refine wz ?_;refine Tu (ll rfl rfl (zf _ _)) (gg rfl rfl (eT h2)) rfl ?_;refine wz ?_;rcases U hF with⟨h3,hF⟩|⟨h3,hF⟩;refine wz ?_;refine Tu (ll rfl rfl (mc _ _)) (gg rfl rfl (eT h3)) rfl ?_;refine wz ?_;rcases U hF with⟨h4,hF⟩|⟨h4,hF⟩;refine wz ?_;refine Tu (ll rfl rfl (zf _ _)) (gg rfl rfl (eT h4)) rfl ?_;refine wz ?_;cases hF;exact ae () [2,3,4,1,0];refine wz ?_;cases hF;exact ae () [2,3,4,1,0];refine wz ?_;cases hF;exact ae () [2,3,4,1,0];refine wz ?_;cases hF;exact ae () [2,3,4,1,0];refine wz ?_;cases hF;exact ae () [2,3,4,1,0];rintro⟨⟩;refine Tl ?_;rcases U hF with⟨h5,hF⟩|⟨h5,hF⟩;refine au ?_;cases hF;exact ae () [];refine TC rfl h5<|Td ?_;obtain⟨v3,h15,hF⟩:=J hF;refine ct (fun v3 (_:TP)=>⟨.normal,((0,tK b1 o1 l1 c0)::(3,ptr b0 0)::(5,ba v1)::(7,ptr b2 0)::(8,ptr b3 0)::(9,.int .i64 (S6 (y0-y1)))::sy b1 o1 l1 c0 v0 [(91,.bool v3)]),[Jq b1 o1 l1,IA b1 o1 c0 l1,cK b0 x5 x6,cK b2 x3 x4,cK b3 x10 x11]⟩) v3 ?_ ?_;clear hF;revert v3;intro r hF;refine wz ?_;rcases U hF with⟨h16,hF⟩|⟨h16,hF⟩;refine wz ?_;rcases U hF with⟨h17,hF⟩|⟨h17,hF⟩;refine wz ?_;cases hF;exact ae () (TL 0 5);refine wz ?_;cases hF;exact ae () (TL 0 5);refine wz ?_;cases hF;exact ae () (TL 0 5);rintro⟨⟩;refine Tl ?_;rcases U hF with⟨h6,hF⟩|⟨h6,hF⟩;refine wz ?_;cases hF;exact ae () [1,2];refine TC rfl h6<|Td ?_;obtain⟨v4,h18,hF⟩:=J hF;refine ct (fun v4 (_:TP)=>⟨.normal,((0,tK b1 o1 l1 c0)::(3,ptr b0 0)::(5,ba v1)::sy b1 o1 l1 c0 v0 [(110,.bool v4)]),[Jq b1 o1 l1,IA b1 o1 c0 l1,cK b0 x5 x6]⟩) v4 ?_ ?_;clear hF;revert v4;intro r hF;refine wz ?_;rcases U hF with⟨h19,hF⟩|⟨h19,hF⟩;refine wz ?_;rcases U hF with⟨h20,hF⟩|⟨h20,hF⟩;refine wz ?_;cases hF;exact ae () [0,1,2];refine wz ?_;cases hF;exact ae () [0,1,2];refine wz ?_;cases hF;exact ae () [0,1,2];rintro⟨⟩;refine Tl ?_;rcases U hF with⟨h21,hF⟩|⟨h21,hF⟩;refine wz ?_;cases hF;exact ae () [1,2];refine wz ?_;cases hF;exact ae () [1,2];rcases r0 with _|v6;rintro⟨⟩;refine At.tr ?_;cases hF;exact ae () [];rintro⟨⟩;refine au ?_;cases hF;exact ae () [0,1];refine wz ?_;cases hF;exact ae () [];rcases r1 with _|v5;rintro⟨⟩;refine wz ?_;cases hF;exact ar () [];rintro⟨⟩;refine au ?_;rcases U hF with⟨h22,hF⟩|⟨h22,hF⟩;refine au ?_;cases hF;exact ar () [];refine fW ?_;cases hF;exact ar () []
def AN{n l3 l2 l4 l1 x3 x4 x10 a0 c1 a1 c2}{r0:SV}{e1:SS}{a3 c3 a2 c0}{r1:SV}{e0:SS}{r}(hF:Ez n l3 l2 l4 l1 x3 x4 x10=some r)(m)(h2:ja m a0 c1 l3)(h3:lW m a1 c2 l2 e1)(h4:(cd ak r0 l2 e1).P m)(h5:Ah m a3 c3 l4)(h6:Rd m a2 c0 1 l1.length e0)(h7:(cd bg r1 l1 e0).P m):
 aI (TV p q) 33 [kI a0 l3 c1 a1 l2 c2,kI a3 l4 c3 a2 l1 c0,kW x3 x4,ba x10] m (TQ m (.bool r)):=by
 unfold Ez at hF;refine cw Try.func33 (Hp.mz (Tw (Tw (Hp.mz (Tw (Tw (Tp m) dI h2) (eC dI) h3) (eC (eC dI)) h4) (O4 (eC (eC dI))) h5) (eC (O4 (eC (eC dI)))) h6) (eC (eC (O4 (eC (eC dI))))) h7) ?_;refine wz ?_;refine wb fun b0=>?_;refine wb fun b3=>?_;refine wb fun b1=>?_;refine wb fun b2=>?_;refine wz ?_;refine Td<|TB (prs:=[(4,5)]) (by kernel_rfl)<|Tf (aH (k:=3) eW rfl rfl rfl) rfl<|Tf (aG (r:=ptr b3 0) rfl (dY _ _)) rfl<|Tf (aH (k:=2) jL rfl rfl rfl) rfl<|Tf (aH (k:=0) cb rfl rfl rfl) rfl ?_
 obtain⟨l5,h8,hF⟩:=J hF;refine nc gn (fun m hm=>nT h8 m (hm.q 9) (hm.q 8) (hm.dp (q:=7) rfl) (hm.q 6)) ?_;rintro⟨a4,n0⟩;refine Wn.len (k:=0) (xs:=l5) rfl ?_;rintro rfl;refine Tf (aH (k:=2) df rfl rfl rfl) rfl ?_;obtain⟨r4,h9,hF⟩:=J hF;refine nc gn (fun m hm=>AK h9 m (hm.rd (k:=0) rfl (.sl _ _ _ _))) ?_;rintro⟨⟩;refine Tf (aJ rfl rfl (ij _ _ _)) rfl<|Tf (aS rfl) rfl ?_;rcases U hF with⟨h0,hF⟩|⟨h0,hF⟩;refine TG (aG (r:=ptr b3 1) rfl (eO _ _)) (gg rfl rfl (eT h0)) rfl<|TG (aH (k:=3) kT rfl rfl rfl) (gg rfl rfl (eT h0)) rfl<|TG (je rfl rfl) (gg rfl rfl (eT h0)) rfl ?_;obtain⟨v0,h10,hF⟩:=J hF;refine Wn.x (ln (α:=TP) (V:=fun g=>(fun(r:Int) (g:TP)=>match r,g with|v0,_=>(.int .i64 v0:SX)) v0 g) (N:=fun g=>(fun(r:Int) (g:TP)=>match r,g with|v0,_=>([]:TO Pc)) v0 g) rfl rfl (fun m hm=>?_)) (gg rfl rfl (eT h0)) rfl ?_
 clear hF;revert v0;intro r hF;refine aQ (N:=19) (rs:=[.tmp 4]) rfl Try.func34 rfl rfl rfl hm ?_;refine au ?_;refine Th ?_;obtain⟨r3,h1,hF⟩:=J hF;refine ct (fun(r:Int⊕TP) (g:TP)=>match r,g with|.inl v2,_=>⟨.ret,[(4,ba v2)],[]⟩|.inr _,_=>⟨(.exit 0),[],[]⟩) r3 ?_ ?_
 refine lo h1 () [4,10,9,8,1,2,6,5] (fun v3 _=>⟨.normal,((1,.func (.func 54) #[] #[ptr b0 0,ptr b2 0,ptr b1 0])::yy a2 l1 c0 v3 []),(fp b0 a0 l3 c1 a1 l2 c2 e1 ak r0 [db b2 x10,cK b1 x3 x4,iM a2 c0 l1 e0,fO bg r1 l1 e0])⟩) ?_;clear hF h1;rintro v3 ⟨⟩ r hF;unfold qm at hF;refine wz ?_;refine Td ?_;rcases U hF with⟨h11,hF⟩|⟨h11,hF⟩;refine au ?_;obtain⟨h12,hF⟩:=cO hF;refine Tv (k:=6) rfl (aM h12) ?_;rintro b4 o1 rfl;refine wz ?_;obtain⟨l7,h13,hF⟩:=J hF;refine wl 1 0 8 0 h13 ?_;rintro⟨a5,c4⟩;refine au ?_;obtain⟨v1,h14,hF⟩:=J hF;refine wq (fun v1 (_:TP)=>(.bool v1,(fp b0 a0 l3 c1 a1 l2 c2 e1 ak r0 (db b2 x10::cK b1 x3 x4::jr b4 o1 l1 e0 bg r1 c0 [])))) v1 (fun m hm=>?_) ?_;clear hF;revert v1;intro r hF;refine aQ (N:=13) (rs:=[.tmp 5]) rfl Try.func54 rfl rfl rfl hm ?_;refine wz ?_;refine Td<|TB (prs:=[(3,4)]) (by kernel_rfl)<|Tf (aH (k:=2) eW rfl rfl rfl) rfl<|Tf (aS rfl) rfl<|Tf (aH (k:=6) cb rfl rfl rfl) rfl ?_
 obtain⟨l6,h15,hF⟩:=J hF;refine nc gn (fun m hm=>nT h15 m (hm.q 3) (hm.q 4) (hm.dp (q:=5) rfl) (hm.q 0)) ?_;rintro⟨a6,n1⟩;refine Wn.len (k:=0) (xs:=l6) rfl ?_;rintro rfl;refine Tf (aH (k:=8) df rfl rfl rfl) rfl ?_;obtain⟨r5,h16,hF⟩:=J hF;refine nc gn (fun m hm=>AK h16 m (hm.rd (k:=0) rfl (.sl _ _ _ _))) ?_;rintro⟨⟩;refine Tf (aJ rfl rfl (AS _ _)) rfl<|Tf (bC rfl) rfl<|Tx (fun m hm=>dj.all rfl) ?_;refine au ?_;cases hF;exact ar () [3,4,5,6,7,8,2,10,9];rintro⟨⟩;refine wz ?_;rcases U hF with⟨h17,hF⟩|⟨h17,hF⟩;refine au ?_;cases hF;exact ae () [];refine au ?_;cases hF;exact ae () [0,1,2,3,4,5,8,7];refine wz ?_;cases hF;exact ae () [];rcases r3 with v2|_;rintro⟨⟩;refine wz ?_;obtain rfl:=QL hF;exact ar () [];rintro⟨⟩;refine fW ?_;cases hF;exact ar () [];rintro⟨⟩;refine TG (aJ rfl rfl (gC _ _ _)) (gg rfl rfl (eT h0)) rfl<|Tf (yr rfl h0 rfl) rfl<|Tf (bC rfl) rfl<|Tx (fun m hm=>dj.all rfl) ?_;refine au ?_;cases hF;exact ar () [];refine TE (gg rfl rfl (vP h0)) rfl<|TE (gg rfl rfl (vP h0)) rfl<|TE (gg rfl rfl (vP h0)) rfl<|TE (gg rfl rfl (vP h0)) rfl<|TE (gg rfl rfl (vP h0)) rfl<|Tf (yi rfl h0 rfl) rfl<|Tf (bC rfl) rfl<|Tx (fun m hm=>dj.all rfl) ?_;refine au ?_;cases hF;exact ar () []
end
end Go.Proofs.Ytmndpgfbkicndaa
