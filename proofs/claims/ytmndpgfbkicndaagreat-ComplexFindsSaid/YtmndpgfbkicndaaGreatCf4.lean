/- A part of the proof. -/
import Derived.Test.YtmndpgfbkicndaaGreatCf3
import Derived.Shelf.GgSortFunc.RowK
import Derived.Shelf.SlSortCmp.WholeK
import Derived.Shelf.SlGeneric
import Derived.Ground.SlsfProg
import Derived.Test.YtmndpgfbkicndaaGreatProg
import Derived.Shelf.SlSortCmp.NoneTotal
import Derived.Shelf.SlicesE.Delete
import Derived.Ground.SlgnProg
import Derived.Lib.Overlaps
import Derived.Ground.Names2Prog
import Derived.Shelf.Spec.SlicesInsert
import Derived.Shelf.Spec.SlicesInsertGrow
set_option linter.all false
section
open Go Go.Ab Go.Ab.W
abbrev Vn(m:Vo)(v0:Value):Value->Vo->Prop:=fun v m'=>∃x:Unit,v=v0/\Hp m m' []
abbrev UH:=@Wo.od
abbrev UI:=@Wn.od
abbrev UJ:=@Wk.seq
abbrev UK:=@Wk.block
abbrev UL:=@aa.freeze
abbrev UM:=@Wk.region
abbrev UN:=@aa.av
abbrev UO:=@aa.close
abbrev UP:=@Hp.start
abbrev UQ:=@aa.trans
abbrev UR:=@At.ay
abbrev US:=@At.tn
abbrev UT:=@Hp.bq
abbrev UU:=@Wo.nil
abbrev UW:=@Wo.ay
abbrev UX:=@Wo.x
abbrev UY:=@Wo.aP
abbrev UZ:=@Wo.og
abbrev U0:=@Wn.nil
abbrev U1:=@At.ret
abbrev U2:=@Wn.og
abbrev U3:=@Wk.ck
abbrev U4:=@Wn.s
abbrev U5:=@Hp.ep
abbrev U6:=@Wn.nZ
abbrev U7:=@Wo.len
abbrev U8:=@Wk.cY
abbrev U9:=@Wo.open
abbrev Va:=@Wn.x
abbrev Vb:=@Wo.fD
abbrev Vc:=@Wn.o0
abbrev Vd:=@aa.nil
abbrev Ve:=@Wk.skip
abbrev Vf:=@Wo.o0
abbrev Vg:=@Wn.ay
def Vh:Nat->Nat->List Nat
 | _,0=>[]
 | a,n+1=>a::Vh (a+1) n
abbrev Vi{α:Type}(l:List α)(k:Int):List α:=(l.drop UE).take ((mi (l.length:Int) k).toNat-UE)
end
namespace Go.Proofs.YtmndpgfbkicndaaGreat
open Go Go.Ab Go.Ab.W
def Oh(n:Nat)(x1:Int)(x2:Int):Option (Bool) :=
br (decide (mi x1 x2 < -1000000)) (
some true) (
some (decide (1000000<ma x1 x2)))
def yV(n:Nat)(l1:List (Int)):(Int×Int)->Option ((Int×Int) ⊕(Int)):=fun(v14,v15) =>
br (decide (v15<(l1.length:Int))) (
gd (bw v15 l1.length) (
ob (l1[v15.toNat]?) fun x25 =>
some (.inl (mi v14 x25,UD (v15+1))))) (
some (.inr v14))
def Ob(n:Nat)(l1:List (Int)):Option (Int) :=
br (decide ((l1.length:Int)<1)) (
none) (
gd (bw 0 l1.length) (
ob (l1[UE]?) fun x10 =>
ob (
bh (yV n l1) n (x10,1)) fun v22 =>
some v22))
def zY(n:Nat)(l1:List (Int)):(Int×Int)->Option ((Int×Int) ⊕(Int)):=fun(v14,v15) =>
br (decide (v15<(l1.length:Int))) (
gd (bw v15 l1.length) (
ob (l1[v15.toNat]?) fun x25 =>
some (.inl (ma v14 x25,UD (v15+1))))) (
some (.inr v14))
def Oi(n:Nat)(l1:List (Int)):Option (Int) :=
br (decide ((l1.length:Int)<1)) (
none) (
gd (bw 0 l1.length) (
ob (l1[UE]?) fun x10 =>
ob (
bh (zY n l1) n (x10,1)) fun v22 =>
some v22))
def zA(n:Nat)(l12:List (Int))(l1:Ut)(x16:Int):(Ut×Int)->Option ((Ut×Int) ⊕(Ut)):=fun(l36,v38) =>
br (decide (v38<(l12.length:Int))) (
gd (bw v38 l12.length) (
ob (l12[v38.toNat]?) fun x64 =>
gd (bw x64 l1.length) (
ob (l1[x64.toNat]?) fun(x69,x70) =>
gd (bw x64 l1.length) (
gd (lim (l36++[(UD (x16*x69),UD (x16*x70))]).length) (
some (.inl ((l36++[(UD (x16*x69),UD (x16*x70))]),UD (v38+1)))))))) (
some (.inr l36))
def Ic(n:Nat)(l1:Ut)(l5:Ur)(l12:List (Int))(x16:Int):Option (Ut) :=
ob (
bh (zA n l12 l1 x16) n (([]:Ut),0)) fun l58 =>
some l58
def xq(n:Nat)(x1:Int)(x2:Int):Option (Bool) :=
ob (some (ma (ma (ma x1 (UD (0-x1))) x2) (UD (0-x2)))) fun y4 =>
br (decide (1000000<y4)) (
some true) (
some (decide (mi x1 x2 < -1000000)))
def FG(n:Nat)(x1:Int):Option (Bool) :=
some (!decide (x1=x1))
def Bm(n:Nat)(x1:Int)(x2:Int):Option (Int) :=
ob (FG n x1) fun r4 =>
ob (FG n x2) fun r6 =>
br (r4) (
br (r6) (
some 0) (
some (-1))) (
br (r6) (
some 1) (
br (decide (x1<x2)) (
some (-1)) (
br (decide (x2<x1)) (
some 1) (
some 0))))
def uf(n:Nat)(x1:Int)(x2:Int)(x3:Int)(x4:Int)(x5:Int)(x6:Int):Option (Int) :=
ob (some (UD ((UD (x3-x1))*(UD (x6-x2))))) fun y10 =>
ob (some (UD ((UD (x4-x2))*(UD (x5-x1))))) fun y12 =>
ob (Bm n y10 y12) fun r15 =>
some r15
def mw(n:Nat)(l1:List (Int)):Int->Option ((Int) ⊕((Int) ⊕(Unit))):=fun v6 =>
br (decide (v6<(l1.length:Int))) (
gd (bw v6 l1.length) (
ob (l1[v6.toNat]?) fun x20 =>
br (!decide (x20=0)) (
some (.inr (.inl x20))) (
some (.inl (UD (v6+1)))))) (
some (.inr (.inr ())))
def Hs(n:Nat)(l1:List (Int)):Option (Int) :=
ob (α:=(Int) ⊕(Unit)) (
bh (mw n l1) n 0) fun r24=>match r24 with
| .inl v15 =>
some v15
| .inr _ =>
some 0
def xf(n:Nat)(x1:Int)(x2:Int)(x3:Int)(x4:Int):Option (Int) :=
ob (Bm n x1 x3) fun r8 =>
ob (Bm n x2 x4) fun r10 =>
ob (Hs n ([r8,r10])) fun r13 =>
some r13
def Dh(n:Nat)(x1:Int)(x2:Int)(x3:Int)(x4:Int)(x5:Int)(x6:Int)(x7:Int):Option (Bool) :=
ob (uf n x2 x3 x4 x5 x6 x7) fun r11 =>
br (!decide (r11=0)) (
some false) (
ob (
ob (xf n x2 x3 x4 x5) fun r23 =>
br (decide (0<r23)) (
some (x4,x5,x2,x3)) (
some (x2,x3,x4,x5))) fun(v18,v19,v20,v21) =>
ob (xf n v18 v19 x6 x7) fun r28 =>
br (decide (r28<=0)) (
ob (xf n x6 x7 v20 v21) fun r31 =>
some (decide (r31<=0))) (
some false))
def lQ(n:Nat)(x2:Int)(x10:Int)(x11:Int)(x5:Int)(x7:Int)(x8:Int)(x9:Int)(x12:Int)(x1:Int)(x6:Int):(List ((Int×Int)×Bool)×Int)->Option ((List ((Int×Int)×Bool)×Int) ⊕(List ((Int×Int)×Bool))):=fun(l1,v0) =>
br (decide (v0<4)) (
ob (
gd (bw v0 4) (
ob ([(x2,x10),(x11,x5),(x7,x8),(x9,x12)][v0.toNat]?) fun(x3,x4) =>
ob (
ob (Dh n x1 x2 x10 x11 x5 x3 x4) fun r0 =>
br (r0) (
ob (Dh n x6 x7 x8 x9 x12 x3 x4) fun r1 =>
some r1) (
some false)) fun v1 =>
br (v1) (
some (jP l1 (x3,x4) true)) (
some l1))) fun l2 =>
some (.inl (l2,UD (v0+1)))) (
some (.inr l1))
def Dd(n:Nat)(x1:Int)(x2:Int)(x3:Int)(x4:Int)(x5:Int)(x6:Int)(x7:Int)(x8:Int)(x9:Int)(x10:Int):Option (Int) :=
ob (uf n x2 x3 x4 x5 x7 x8) fun r0 =>
ob (uf n x2 x3 x4 x5 x9 x10) fun r1 =>
ob (uf n x7 x8 x9 x10 x2 x3) fun r3 =>
ob (uf n x7 x8 x9 x10 x4 x5) fun r4 =>
ob (
bh (lQ n x2 x3 x4 x5 x7 x8 x9 x10 x1 x6) n (([]:List ((Int×Int)×Bool)),0)) fun l1 =>
ob (some (l1.length)) fun y0 =>
br (decide (1<(y0:Int))) (
some 3) (
ob (some (l1.length)) fun y1 =>
br (decide ((y1:Int)=1)) (
some 1) (
ob (
br (decide (UD (r0*r1)<0)) (
some (decide (UD (r3*r4)<0))) (
some false)) fun v0 =>
br (v0) (
some 2) (
some 0)))
def tl(n:Nat)(l1:Ut):Int->Option ((Int) ⊕((Int) ⊕(Unit))):=fun v49 =>
br (decide (v49<(l1.length:Int))) (
gd (bw v49 l1.length) (
ob (l1[v49.toNat]?) fun(x66,x67) =>
ob (xq n x66 x67) fun r70 =>
br (r70) (
some (.inr (.inl v49))) (
some (.inl (UD (v49+1)))))) (
some (.inr (.inr ())))
def tG(n:Nat)(l1:Ut):Int->Option ((Int) ⊕((Int) ⊕(Unit))):=fun v0 =>
br (decide (v0<(l1.length:Int))) (
gd (bw v0 l1.length) (
ob (l1[v0.toNat]?) fun(x3,x4) =>
gd (decide ((l1.length:Int)≠0)) (
gd (bw (Int.tmod (UD (v0+1)) (l1.length:Int)) l1.length) (
ob (l1[(Int.tmod (UD (v0+1)) (l1.length:Int)).toNat]?) fun(x10,x11) =>
ob (α:=(Unit) ⊕(Unit)) (
br ((decide (x3=x10)&&decide (x4=x11))) (
some (.inl ())) (
some (.inr ()))) fun r0=>match r0 with
| .inl _ =>
some (.inr (.inl v0))
| .inr _ =>
some (.inl (UD (v0+1))))))) (
some (.inr (.inr ())))
def tS(n:Nat)(l1:Ut):Int->Option ((Int) ⊕((Int) ⊕(Unit))):=fun v0 =>
br (decide (v0<(l1.length:Int))) (
gd (bw v0 l1.length) (
ob (l1[v0.toNat]?) fun(x3,x4) =>
gd (decide ((l1.length:Int)≠0)) (
gd (bw (Int.tmod (UD (v0+1)) (l1.length:Int)) l1.length) (
ob (l1[(Int.tmod (UD (v0+1)) (l1.length:Int)).toNat]?) fun(x10,x11) =>
ob (α:=(Unit) ⊕(Unit)) (
gd (decide ((l1.length:Int)≠0)) (
ob (some (Int.tmod (UD ((UD (v0+(l1.length:Int)))-1)) (l1.length:Int))) fun y0 =>
gd (bw y0 l1.length) (
ob (l1[y0.toNat]?) fun(x12,x13) =>
ob (
ob (uf n x12 x13 x3 x4 x10 x11) fun r0 =>
br (decide (r0=0)) (
ob (some (UD ((UD (x3-x12))*(UD (x10-x3))))) fun y1 =>
ob (some (UD ((UD (x4-x13))*(UD (x11-x4))))) fun y2 =>
some (decide (UD (y1+y2)<0))) (
some false)) fun v1 =>
br (v1) (
some (.inl ())) (
some (.inr ()))))) fun r1=>match r1 with
| .inl _ =>
some (.inr (.inl v0))
| .inr _ =>
some (.inl (UD (v0+1))))))) (
some (.inr (.inr ())))
def tz(n:Nat)(l1:Ut)(v1:Int)(x3:Int)(x4:Int)(x10:Int)(x11:Int):Int->Option ((Int) ⊕((Unit) ⊕((Unit) ⊕(Unit)))):=fun v0 =>
br (decide (v0<(l1.length:Int))) (
gd (bw v0 l1.length) (
ob (l1[v0.toNat]?) fun(x12,x13) =>
gd (decide ((l1.length:Int)≠0)) (
gd (bw (Int.tmod (UD (v0+1)) (l1.length:Int)) l1.length) (
ob (l1[(Int.tmod (UD (v0+1)) (l1.length:Int)).toNat]?) fun(x14,x15) =>
ob (α:=(Unit) ⊕((Unit) ⊕(Unit))) (
br (decide (UD (v1-1)<=v0)) (
some (.inl ())) (
ob (
br (decide (v0=0)) (
some (decide (v1=UD ((l1.length:Int)-1)))) (
some false)) fun v2 =>
br (v2) (
some (.inr (.inl ()))) (
ob (Dd n v1 x3 x4 x10 x11 v0 x12 x13 x14 x15) fun r0 =>
br (!decide (r0=0)) (
some (.inr (.inr ()))) (
some (.inr (.inl ())))))) fun r1=>match r1 with
| .inl _ =>
some (.inr (.inl ()))
| .inr (.inl _) =>
some (.inl (UD (v0+1)))
| .inr (.inr _) =>
some (.inr (.inr (.inl ()))))))) (
some (.inr (.inr (.inr ()))))
def sR(n:Nat)(l1:Ut):Int->Option ((Int) ⊕((Int) ⊕(Unit))):=fun v0 =>
br (decide (v0<(l1.length:Int))) (
gd (bw v0 l1.length) (
ob (l1[v0.toNat]?) fun(x3,x4) =>
gd (decide ((l1.length:Int)≠0)) (
gd (bw (Int.tmod (UD (v0+1)) (l1.length:Int)) l1.length) (
ob (l1[(Int.tmod (UD (v0+1)) (l1.length:Int)).toNat]?) fun(x10,x11) =>
ob (α:=(Unit) ⊕(Unit)) (
ob (
some ()) fun _ =>
ob (α:=(Unit) ⊕((Unit) ⊕(Unit))) (
ob (α:=(Unit) ⊕((Unit) ⊕(Unit))) (
bh (tz n l1 v0 x3 x4 x10 x11) n 0) fun r0=>match r0 with
| .inl _ =>
some (.inl ())
| .inr (.inl _) =>
some (.inr (.inl ()))
| .inr (.inr _) =>
some (.inr (.inr ()))) fun r1=>match r1 with
| .inl _ =>
some (.inl ())
| .inr (.inl _) =>
some (.inr ())
| .inr (.inr _) =>
some (.inl ())) fun r3=>match r3 with
| .inl _ =>
some (.inl (UD (v0+1)))
| .inr _ =>
some (.inr (.inl v0)))))) (
some (.inr (.inr ())))
def Fu(n:Nat)(l1:Ut):Option (Int×Int) :=
ob (
br (decide ((l1.length:Int)<3)) (
some true) (
some (decide (40<(l1.length:Int))))) fun v1 =>
br (v1) (
some (1,0)) (
ob (
ob (α:=(Int) ⊕(Unit)) (
bh (tl n l1) n 0) fun r0=>match r0 with
| .inl v2 =>
some v2
| .inr _ =>
some (-1)) fun v0 =>
br (decide (0<=v0)) (
some (2,v0)) (
ob (
some ()) fun _ =>
ob (α:=(Int) ⊕(Unit)) (
ob (α:=(Int) ⊕(Unit)) (
bh (tG n l1) n 0) fun r1=>match r1 with
| .inl v3 =>
some (.inl v3)
| .inr _ =>
some (.inr ())) fun r3=>match r3 with
| .inl v4 =>
some (3,v4)
| .inr _ =>
ob (
some ()) fun _ =>
ob (α:=(Int) ⊕(Unit)) (
ob (α:=(Int) ⊕(Unit)) (
bh (tS n l1) n 0) fun r4=>match r4 with
| .inl v5 =>
some (.inl v5)
| .inr _ =>
some (.inr ())) fun r5=>match r5 with
| .inl v6 =>
some (4,v6)
| .inr _ =>
ob (
some ()) fun _ =>
ob (α:=(Int) ⊕(Unit)) (
ob (α:=(Int) ⊕(Unit)) (
bh (sR n l1) n 0) fun r6=>match r6 with
| .inl v7 =>
some (.inl v7)
| .inr _ =>
some (.inr ())) fun r7=>match r7 with
| .inl v8 =>
some (5,v8)
| .inr _ =>
some (0,0)))
def OU(n:Nat)(l1:Ut):Option (Int) :=
ob (Fu n l1) fun(r6,r7) =>
br (decide (0<r6)) (
some 140) (
some 0)
def ve(n:Nat)(l1:Ut):(Int×Int)->Option ((Int×Int) ⊕(Int)):=fun(v7,v8) =>
br (decide (v8<(l1.length:Int))) (
gd (bw v8 l1.length) (
ob (l1[v8.toNat]?) fun(x32,x33) =>
gd (decide ((l1.length:Int)≠0)) (
gd (bw (Int.tmod (UD (v8+1)) (l1.length:Int)) l1.length) (
ob (l1[(Int.tmod (UD (v8+1)) (l1.length:Int)).toNat]?) fun(x38,x39) =>
ob (some (UD ((UD (x32*x39))-(UD (x33*x38))))) fun y42 =>
some (.inl (UD (v7+y42),UD (v8+1))))))) (
some (.inr v7))
def On(n:Nat)(l1:Ut):Option (Int) :=
ob (
bh (ve n l1) n (0,0)) fun v27 =>
some v27
def EV(n:Nat)(x1:Int)(x2:Int)(x3:Int)(x4:Int)(x5:Int)(x6:Int)(x7:Int)(x8:Int):Option (Int×Int) :=
ob (
ob (xq n x1 x2) fun r58 =>
br (r58) (
some true) (
ob (xq n x3 x4) fun r61 =>
br (r61) (
some true) (
ob (xq n x5 x6) fun r64 =>
br (r64) (
some true) (
ob (xq n x7 x8) fun r67 =>
br (r67) (
some true) (
br ((decide (x1=x3)&&decide (x2=x4))) (
some true) (
some (decide (x5=x7)&&decide (x6=x8)))))))) fun v56 =>
br (v56) (
some (0,2)) (
ob (Dd n 0 x1 x2 x3 x4 0 x5 x6 x7 x8) fun r74 =>
some (r74,0))
def E5(n:Nat)(l1:Ut)(l5:Ur)(x12:Int)(x13:Int)(x14:Int)(x15:Int)(x16:Int)(x17:Int)(x18:Int)(x19:Int):Option (Bool) :=
ob (
br (decide (x12=x16)) (
br (decide (x13=x17)) (
some true) (
br (decide (x12=x17)) (
some (decide (x13=x16))) (
some false))) (
br (decide (x12=x17)) (
some (decide (x13=x16))) (
some false))) fun v39 =>
br (v39) (
some false) (
gd (bw x12 l1.length) (
ob (l1[x12.toNat]?) fun(x50,x51) =>
gd (bw x13 l1.length) (
ob (l1[x13.toNat]?) fun(x54,x55) =>
gd (bw x16 l1.length) (
ob (l1[x16.toNat]?) fun(x58,x59) =>
gd (bw x17 l1.length) (
ob (l1[x17.toNat]?) fun(x62,x63) =>
ob (EV n x50 x51 x54 x55 x58 x59 x62 x63) fun(r66,r67) =>
br (decide (r66=0)) (
some false) (
br (decide (r66=1)) (
br (!decide (x12=x16)) (
br (!decide (x12=x17)) (
br (!decide (x13=x16)) (
some (!decide (x13=x17))) (
some false)) (
some false)) (
some false)) (
some true)))))))
def tL(n:Nat)(l1:Ut)(x6:Int)(x5:Int):(Int×Int)->Option ((Int×Int) ⊕((Unit) ⊕(Int))):=fun(v1,v0) =>
br (decide (v0<(l1.length:Int))) (
ob (α:=(Unit) ⊕(Int)) (
gd (bw v0 l1.length) (
ob (l1[v0.toNat]?) fun(x10,x3) =>
gd (decide ((l1.length:Int)≠0)) (
gd (bw (Int.tmod (UD (v0+1)) (l1.length:Int)) l1.length) (
ob (l1[(Int.tmod (UD (v0+1)) (l1.length:Int)).toNat]?) fun(x11,x4) =>
ob (some (UD ((UD (x11-x10))*(UD (x6-x3))))) fun y0 =>
ob (some (UD ((UD (x4-x3))*(UD (x5-x10))))) fun y1 =>
ob (
br (decide (UD (y0-y1)=0)) (
br (decide (mi x10 x11<=x5)) (
br (decide (x5<=ma x10 x11)) (
br (decide (mi x3 x4<=x6)) (
some (decide (x6<=ma x3 x4))) (
some false)) (
some false)) (
some false)) (
some false)) fun v2 =>
br (v2) (
some (.inl ())) (
ob (
br (decide (x3<=x6)) (
br (decide (x6<x4)) (
some (decide (0<UD (y0-y1)))) (
some false)) (
some false)) fun v3 =>
br (v3) (
some (.inr (UD (v1+1)))) (
ob (
br (decide (x6<x3)) (
br (decide (x4<=x6)) (
some (decide (UD (y0-y1)<0))) (
some false)) (
some false)) fun v4 =>
br (v4) (
some (.inr (UD (v1-1)))) (
some (.inr v1)))))))) fun r0=>match r0 with
| .inl _ =>
some (.inr (.inl ()))
| .inr v5 =>
some (.inl (v5,UD (v0+1)))) (
some (.inr (.inr v1)))
def I0(n:Nat)(l1:Ut)(x5:Int)(x6:Int):Option (Int) :=
ob (α:=(Unit) ⊕(Int)) (
bh (tL n l1 x6 x5) n (0,0)) fun r0=>match r0 with
| .inl _ =>
some 1
| .inr v0 =>
br (decide (v0=0)) (
some 0) (
some 2)
def qO(n:Nat)(l1:Uu)(l2:Ut)(l3:Ur)(x3:Int)(x4:Int)(x10:Int):Int->Option ((Int) ⊕((Int) ⊕(Unit))):=fun v0 =>
br (decide (v0<(l1.length:Int))) (
gd (bw v0 l1.length) (
ob (l1[v0.toNat]?) fun l4 =>
ob (
ob (Ic n l2 l3 l4 x3) fun l5 =>
ob (I0 n l5 x4 x10) fun r0 =>
some (!decide (r0=0))) fun v1 =>
br (v1) (
some (.inr (.inl v0))) (
some (.inl (UD (v0+1)))))) (
some (.inr (.inr ())))
def FZ(n:Nat)(l1:Ut)(l2:Ur)(l3:List (Int))(l4:Uu)(x3:Int)(x4:Int)(x10:Int):Option (Bool) :=
ob (Ic n l1 l2 l3 x10) fun l5 =>
ob (I0 n l5 x3 x4) fun r0 =>
br (decide (r0=2)) (
ob (
ob (α:=(Int) ⊕(Unit)) (
bh (qO n l4 l1 l2 x10 x3 x4) n 0) fun r1=>match r1 with
| .inl v0 =>
some v0
| .inr _ =>
some (-1)) fun v1 =>
some (decide (v1<0))) (
some false)
def qI(n:Nat)(l1:List Int):(Int×List ((Int×Int)×Bool))->Option ((Int×List ((Int×Int)×Bool)) ⊕((List ((Int×Int)×Bool)) ⊕(List ((Int×Int)×Bool)))):=fun(v0,l2) =>
br (decide (v0<(l1.length:Int))) (
gd (bw v0 l1.length) (
ob (l1[v0.toNat]?) fun x3 =>
gd (decide ((l1.length:Int)≠0)) (
gd (bw (Int.tmod (UD (v0+1)) (l1.length:Int)) l1.length) (
ob (l1[(Int.tmod (UD (v0+1)) (l1.length:Int)).toNat]?) fun x4 =>
ob (α:=(Unit) ⊕(Unit)) (
ob (some ((fX l2 (x3,x4)).getD false)) fun y0 =>
br (y0) (
some (.inl ())) (
some (.inr ()))) fun r0=>match r0 with
| .inl _ =>
some (.inr (.inl l2))
| .inr _ =>
some (.inl (UD (v0+1),(jP l2 (x3,x4) true))))))) (
some (.inr (.inr l2)))
def qx(n:Nat)(l1:Uu):(Int×List ((Int×Int)×Bool))->Option ((Int×List ((Int×Int)×Bool)) ⊕((List ((Int×Int)×Bool)) ⊕(List ((Int×Int)×Bool)))):=fun(v0,l2) =>
br (decide (v0<(l1.length:Int))) (
gd (bw v0 l1.length) (
ob (l1[v0.toNat]?) fun l3 =>
ob (α:=(List ((Int×Int)×Bool)) ⊕(List ((Int×Int)×Bool))) (
bh (qI n l3) n (0,l2)) fun r0=>match r0 with
| .inl l4 =>
some (.inr (.inl l4))
| .inr l5 =>
some (.inl (UD (v0+1),l5)))) (
some (.inr (.inr l2)))
def qJ(n:Nat)(l1:Ur):(Int×List ((Int×Int)×Bool))->Option ((Int×List ((Int×Int)×Bool)) ⊕((Int×List ((Int×Int)×Bool)) ⊕(List ((Int×Int)×Bool)))):=fun(v0,l2) =>
br (decide (v0<(l1.length:Int))) (
gd (bw v0 l1.length) (
ob (l1[v0.toNat]?) fun(l3,l4) =>
ob (As n l3 l4) fun l5 =>
ob (α:=(List ((Int×Int)×Bool)) ⊕(List ((Int×Int)×Bool))) (
bh (qx n l5) n (0,l2)) fun r0=>match r0 with
| .inl l6 =>
some (.inr (.inl (v0,l6)))
| .inr l7 =>
some (.inl (UD (v0+1),l7)))) (
some (.inr (.inr l2)))
def rO(n:Nat)(l1:List (Us))(l2:Ut)(l3:Ur)(x3:Int)(x4:Int)(v1:Int)(v2:Int):Int->Option ((Int) ⊕((Int) ⊕(Unit))):=fun v0 =>
br (decide (v0<(l1.length:Int))) (
gd (bw v0 l1.length) (
ob (l1[v0.toNat]?) fun(x10,x11,x12,x13) =>
ob (
ob (E5 n l2 l3 x3 x4 v1 v2 x10 x11 x12 x13) fun r0 =>
some r0) fun v3 =>
br (v3) (
some (.inr (.inl v0))) (
some (.inl (UD (v0+1)))))) (
some (.inr (.inr ())))
def qM(n:Nat)(l1:List Int)(l3:Ut)(l4:Ur)(v1:Int)(v2:Int):(Int×List (Us))->Option ((Int×List (Us)) ⊕((List (Us)) ⊕(List (Us)))):=fun(v0,l2) =>
br (decide (v0<(l1.length:Int))) (
gd (bw v0 l1.length) (
ob (l1[v0.toNat]?) fun x3 =>
gd (decide ((l1.length:Int)≠0)) (
gd (bw (Int.tmod (UD (v0+1)) (l1.length:Int)) l1.length) (
ob (l1[(Int.tmod (UD (v0+1)) (l1.length:Int)).toNat]?) fun x4 =>
ob (α:=(Unit) ⊕(List (Us))) (
ob (
ob (α:=(Int) ⊕(Unit)) (
bh (rO n l2 l3 l4 x3 x4 v1 v2) n 0) fun r0=>match r0 with
| .inl v3 =>
some v3
| .inr _ =>
some (-1)) fun v4 =>
br (decide (0<=v4)) (
some (.inl ())) (
gd (lim (l2++[(x3,x4,v1,v2)]).length) (
some (.inr (l2++[(x3,x4,v1,v2)]))))) fun r1=>match r1 with
| .inl _ =>
some (.inr (.inl l2))
| .inr l5 =>
some (.inl (UD (v0+1),l5)))))) (
some (.inr (.inr l2)))
def qu(n:Nat)(l1:Uu)(l3:Ut)(l4:Ur)(v1:Int):(Int×List (Us))->Option ((Int×List (Us)) ⊕((List (Us)) ⊕(List (Us)))):=fun(v0,l2) =>
br (decide (v0<(l1.length:Int))) (
gd (bw v0 l1.length) (
ob (l1[v0.toNat]?) fun l5 =>
ob (α:=(List (Us)) ⊕(List (Us))) (
bh (qM n l5 l3 l4 v1 v0) n (0,l2)) fun r0=>match r0 with
| .inl l6 =>
some (.inr (.inl l6))
| .inr l7 =>
some (.inl (UD (v0+1),l7)))) (
some (.inr (.inr l2)))
def qT(n:Nat)(l1:Ur)(l3:Ut):(Int×List (Us))->Option ((Int×List (Us)) ⊕((Int×List (Us)) ⊕(List (Us)))):=fun(v0,l2) =>
br (decide (v0<(l1.length:Int))) (
gd (bw v0 l1.length) (
ob (l1[v0.toNat]?) fun(l4,l5) =>
ob (As n l4 l5) fun l6 =>
ob (α:=(List (Us)) ⊕(List (Us))) (
bh (qu n l6 l3 l1 v0) n (0,l2)) fun r0=>match r0 with
| .inl l7 =>
some (.inr (.inl (v0,l7)))
| .inr l8 =>
some (.inl (UD (v0+1),l8)))) (
some (.inr (.inr l2)))
def qN(n:Nat)(l1:List Int)(v1:Int)(v2:Int)(l3:Ur)(l4:Uu)(l2:Ut)(l5:List Int):Int->Option ((Int) ⊕((Unit) ⊕(Unit))):=fun v0 =>
br (decide (v0<(l1.length:Int))) (
gd (bw v0 l1.length) (
ob (l1[v0.toNat]?) fun x3 =>
gd (decide ((l1.length:Int)≠0)) (
gd (bw (Int.tmod (UD (v0+1)) (l1.length:Int)) l1.length) (
ob (l1[(Int.tmod (UD (v0+1)) (l1.length:Int)).toNat]?) fun x4 =>
ob (α:=(Unit) ⊕(Unit)) (
br (decide (v1=0)) (
some (.inl ())) (
gd (bw v2 l3.length) (
ob (K4 n l4) fun _ =>
ob (Hw n l4 (UD (v1-1)) v1) fun l6 =>
ob (
gd (bw x3 l2.length) (
ob (l2[x3.toNat]?) fun(x10,x11) =>
gd (bw x4 l2.length) (
ob (l2[x4.toNat]?) fun(x12,x13) =>
some (UD (x10+x12),UD (x11+x13))))) fun(v3,v4) =>
ob (FZ n l2 l3 l5 l6 v3 v4 2) fun r0 =>
br (!r0) (
some (.inr ())) (
some (.inl ()))))) fun r1=>match r1 with
| .inl _ =>
some (.inl (UD (v0+1)))
| .inr _ =>
some (.inr (.inl ())))))) (
some (.inr (.inr ())))
def qL(n:Nat)(l1:Uu)(v1:Int)(l2:Ur)(l3:Uu)(l4:Ut)(l5:List Int):Int->Option ((Int) ⊕((Unit) ⊕(Unit))):=fun v0 =>
br (decide (v0<(l1.length:Int))) (
gd (bw v0 l1.length) (
ob (l1[v0.toNat]?) fun l6 =>
ob (α:=(Unit) ⊕(Unit)) (
bh (qN n l6 v0 v1 l2 l3 l4 l5) n 0) fun r0=>match r0 with
| .inl _ =>
some (.inr (.inl ()))
| .inr _ =>
some (.inl (UD (v0+1))))) (
some (.inr (.inr ())))
def mA(n:Nat)(l1:Ur)(l4:Ut):Int->Option ((Int) ⊕((Int) ⊕(Unit))):=fun v0 =>
br (decide (v0<(l1.length:Int))) (
gd (bw v0 l1.length) (
ob (l1[v0.toNat]?) fun(l2,l3) =>
ob (As n l2 l3) fun l5 =>
ob (α:=(Unit) ⊕(Unit)) (
bh (qL n l5 v0 l1 l3 l4 l2) n 0) fun r0=>match r0 with
| .inl _ =>
some (.inr (.inl v0))
| .inr _ =>
some (.inl (UD (v0+1))))) (
some (.inr (.inr ())))
def rN(n:Nat)(l2:Ur)(v1:Int)(x3:Int)(l1:Ut)(x4:Int):Int->Option ((Int) ⊕((Unit) ⊕(Unit))):=fun v0 =>
br (decide (v0<(l2.length:Int))) (
gd (bw v0 l2.length) (
ob (l2[v0.toNat]?) fun(l3,l4) =>
ob (
br (!decide (v0=v1)) (
ob (
gd (bw x3 l1.length) (
ob (l1[x3.toNat]?) fun(x10,x11) =>
gd (bw x4 l1.length) (
ob (l1[x4.toNat]?) fun(x12,x13) =>
some (UD (x10+x12),UD (x11+x13))))) fun(v2,v3) =>
ob (FZ n l1 l2 l3 l4 v2 v3 2) fun r0 =>
some r0) (
some false)) fun v4 =>
br (v4) (
some (.inr (.inl ()))) (
some (.inl (UD (v0+1)))))) (
some (.inr (.inr ())))
def lE(n:Nat)(l1:List Int)(l2:Ur)(v1:Int)(l3:Ut):Int->Option ((Int) ⊕((Unit) ⊕(Unit))):=fun v0 =>
br (decide (v0<(l1.length:Int))) (
gd (bw v0 l1.length) (
ob (l1[v0.toNat]?) fun x3 =>
gd (decide ((l1.length:Int)≠0)) (
gd (bw (Int.tmod (UD (v0+1)) (l1.length:Int)) l1.length) (
ob (l1[(Int.tmod (UD (v0+1)) (l1.length:Int)).toNat]?) fun x4 =>
ob (α:=(Unit) ⊕(Unit)) (
ob (α:=(Unit) ⊕(Unit)) (
bh (rN n l2 v1 x3 l3 x4) n 0) fun r0=>match r0 with
| .inl _ =>
some (.inl ())
| .inr _ =>
some (.inr ())) fun r1=>match r1 with
| .inl _ =>
some (.inr (.inl ()))
| .inr _ =>
some (.inl (UD (v0+1))))))) (
some (.inr (.inr ())))
def lD(n:Nat)(l1:Uu)(l2:Ur)(v1:Int)(l3:Ut):Int->Option ((Int) ⊕((Unit) ⊕(Unit))):=fun v0 =>
br (decide (v0<(l1.length:Int))) (
gd (bw v0 l1.length) (
ob (l1[v0.toNat]?) fun l4 =>
ob (α:=(Unit) ⊕(Unit)) (
bh (lE n l4 l2 v1 l3) n 0) fun r0=>match r0 with
| .inl _ =>
some (.inr (.inl ()))
| .inr _ =>
some (.inl (UD (v0+1))))) (
some (.inr (.inr ())))
def lU(n:Nat)(l1:Ur)(l2:Ut):Int->Option ((Int) ⊕((Int) ⊕(Unit))):=fun v0 =>
br (decide (v0<(l1.length:Int))) (
gd (bw v0 l1.length) (
ob (l1[v0.toNat]?) fun(l3,l4) =>
ob (As n l3 l4) fun l5 =>
ob (α:=(Unit) ⊕(Unit)) (
bh (lD n l5 l1 v0 l2) n 0) fun r0=>match r0 with
| .inl _ =>
some (.inr (.inl v0))
| .inr _ =>
some (.inl (UD (v0+1))))) (
some (.inr (.inr ())))
def Qg(n:Nat)(l2:Ut)(l1:Ur):Option (Int×Int) :=
ob (
some ([]:List ((Int×Int)×Bool))) fun l3 =>
ob (α:=(Int×List ((Int×Int)×Bool)) ⊕(List ((Int×Int)×Bool))) (
ob (α:=(Int×List ((Int×Int)×Bool)) ⊕(List ((Int×Int)×Bool))) (
bh (qJ n l1) n (0,l3)) fun r0=>match r0 with
| .inl (v0,l4) =>
some (.inl (v0,l4))
| .inr l5 =>
some (.inr l5)) fun r1=>match r1 with
| .inl (v1,l8) =>
some (7,v1)
| .inr l9 =>
ob (
some ()) fun _ =>
ob (α:=(Int×List (Us)) ⊕(List (Us))) (
ob (α:=(Int×List (Us)) ⊕(List (Us))) (
bh (qT n l1 l2) n (0,([]:List (Us)))) fun r3=>match r3 with
| .inl (v2,l6) =>
some (.inl (v2,l6))
| .inr l7 =>
some (.inr l7)) fun r4=>match r4 with
| .inl (v3,l10) =>
some (8,v3)
| .inr l11 =>
ob (
some ()) fun _ =>
ob (α:=(Int) ⊕(Unit)) (
ob (α:=(Int) ⊕(Unit)) (
bh (mA n l1 l2) n 0) fun r5=>match r5 with
| .inl v4 =>
some (.inl v4)
| .inr _ =>
some (.inr ())) fun r6=>match r6 with
| .inl v5 =>
some (9,v5)
| .inr _ =>
ob (
some ()) fun _ =>
ob (α:=(Int) ⊕(Unit)) (
ob (α:=(Int) ⊕(Unit)) (
bh (lU n l1 l2) n 0) fun r7=>match r7 with
| .inl v6 =>
some (.inl v6)
| .inr _ =>
some (.inr ())) fun r8=>match r8 with
| .inl v7 =>
some (10,v7)
| .inr _ =>
some (0,0)
def xS(n:Nat)(l1:Ut):Int->Option ((Int) ⊕((Int) ⊕(Unit))):=fun v63 =>
br (decide (v63<(l1.length:Int))) (
gd (bw v63 l1.length) (
ob (l1[v63.toNat]?) fun(x81,x82) =>
ob (Oh n x81 x82) fun r86 =>
br (r86) (
some (.inr (.inl v63))) (
some (.inl (UD (v63+1)))))) (
some (.inr (.inr ())))
def qz(n:Nat)(l1:Ut):(List ((Int×Int)×Bool)×Int)->Option ((List ((Int×Int)×Bool)×Int) ⊕((Int) ⊕(Unit))):=fun(l2,v0) =>
br (decide (v0<(l1.length:Int))) (
gd (bw v0 l1.length) (
ob (l1[v0.toNat]?) fun(x3,x4) =>
ob (some ((fX l2 (x3,x4)).getD false)) fun y0 =>
br (y0) (
some (.inr (.inl v0))) (
some (.inl ((jP l2 (x3,x4) true),UD (v0+1)))))) (
some (.inr (.inr ())))
def yA(n:Nat)(l2:Uu)(l3:Ut):Int->Option ((Int) ⊕((Unit) ⊕(Unit))):=fun v0 =>
br (decide (v0<(l2.length:Int))) (
gd (bw v0 l2.length) (
ob (l2[v0.toNat]?) fun l1 =>
ob (
br (decide ((l1.length:Int)<3)) (
some true) (
br (decide (40<(l1.length:Int))) (
some true) (
ob (Ob n l1) fun r0 =>
br (decide (r0<0)) (
some true) (
ob (Oi n l1) fun r1 =>
some (decide ((l3.length:Int)<=r1)))))) fun v1 =>
br (v1) (
some (.inr (.inl ()))) (
some (.inl (UD (v0+1)))))) (
some (.inr (.inr ())))
def zi(n:Nat)(l1:Ur)(l3:Ut):Int->Option ((Int) ⊕((Int) ⊕(Unit))):=fun v0 =>
br (decide (v0<(l1.length:Int))) (
gd (bw v0 l1.length) (
ob (l1[v0.toNat]?) fun(l4,l2) =>
ob (
br (decide (8<(l2.length:Int))) (
some true) (
ob (
ob (As n l4 l2) fun l5 =>
ob (α:=(Unit) ⊕(Unit)) (
bh (yA n l5 l3) n 0) fun r0=>match r0 with
| .inl _ =>
some true
| .inr _ =>
some false) fun v1 =>
some v1)) fun v2 =>
br (v2) (
some (.inr (.inl v0))) (
some (.inl (UD (v0+1)))))) (
some (.inr (.inr ())))
def zH(n:Nat)(l1:Uu)(l2:Ut)(l3:Ur):Int->Option ((Int) ⊕((Unit) ⊕(Unit))):=fun v0 =>
br (decide (v0<(l1.length:Int))) (
gd (bw v0 l1.length) (
ob (l1[v0.toNat]?) fun l4 =>
ob (
ob (Ic n l2 l3 l4 1) fun l5 =>
ob (OU n l5) fun r0 =>
some (!decide (r0=0))) fun v1 =>
br (v1) (
some (.inr (.inl ()))) (
some (.inl (UD (v0+1)))))) (
some (.inr (.inr ())))
def yK(n:Nat)(l1:Ur)(l2:Ut):Int->Option ((Int) ⊕((Int) ⊕(Unit))):=fun v0 =>
br (decide (v0<(l1.length:Int))) (
gd (bw v0 l1.length) (
ob (l1[v0.toNat]?) fun(l3,l4) =>
ob (
ob (
ob (As n l3 l4) fun l5 =>
ob (α:=(Unit) ⊕(Unit)) (
bh (zH n l5 l2 l1) n 0) fun r0=>match r0 with
| .inl _ =>
some true
| .inr _ =>
some false) fun v1 =>
some v1) fun v2 =>
br (v2) (
some (.inr (.inl v0))) (
some (.inl (UD (v0+1)))))) (
some (.inr (.inr ())))
def Am(n:Nat)(l1:Uu)(l2:Ut)(l3:Ur):Int->Option ((Int) ⊕((Unit) ⊕(Unit))):=fun v0 =>
br (decide (v0<(l1.length:Int))) (
gd (bw v0 l1.length) (
ob (l1[v0.toNat]?) fun l4 =>
ob (
ob (Ic n l2 l3 l4 1) fun l5 =>
ob (On n l5) fun r0 =>
some ((decide (r0<0)) ==(decide (v0=0)))) fun v1 =>
br (v1) (
some (.inr (.inl ()))) (
some (.inl (UD (v0+1)))))) (
some (.inr (.inr ())))
def yj(n:Nat)(l1:Ur)(l2:Ut):Int->Option ((Int) ⊕((Int) ⊕(Unit))):=fun v0 =>
br (decide (v0<(l1.length:Int))) (
gd (bw v0 l1.length) (
ob (l1[v0.toNat]?) fun(l3,l4) =>
ob (
ob (
ob (As n l3 l4) fun l5 =>
ob (α:=(Unit) ⊕(Unit)) (
bh (Am n l5 l2 l1) n 0) fun r0=>match r0 with
| .inl _ =>
some true
| .inr _ =>
some false) fun v1 =>
some v1) fun v2 =>
br (v2) (
some (.inr (.inl v0))) (
some (.inl (UD (v0+1)))))) (
some (.inr (.inr ())))
def Oe(n:Nat)(l1:Ut)(l2:Ur):Option (Int×Int) :=
ob (
br (decide ((l1.length:Int)<3)) (
some true) (
br (decide (120<(l1.length:Int))) (
some true) (
br (decide ((l2.length:Int)<1)) (
some true) (
some (decide (64<(l2.length:Int))))))) fun v4 =>
br (v4) (
some (1,0)) (
ob (
ob (α:=(Int) ⊕(Unit)) (
bh (xS n l1) n 0) fun r0=>match r0 with
| .inl v5 =>
some v5
| .inr _ =>
some (-1)) fun v0 =>
br (decide (0<=v0)) (
some (2,v0)) (
ob (α:=(Int) ⊕(Unit)) (
bh (qz n l1) n (([]:List ((Int×Int)×Bool)),0)) fun r1=>match r1 with
| .inl v6 =>
some (3,v6)
| .inr _ =>
ob (
ob (α:=(Int) ⊕(Unit)) (
bh (zi n l2 l1) n 0) fun r3=>match r3 with
| .inl v7 =>
some v7
| .inr _ =>
some (-1)) fun v1 =>
br (decide (0<=v1)) (
some (4,v1)) (
ob (
ob (α:=(Int) ⊕(Unit)) (
bh (yK n l2 l1) n 0) fun r4=>match r4 with
| .inl v8 =>
some v8
| .inr _ =>
some (-1)) fun v2 =>
br (decide (0<=v2)) (
some (5,v2)) (
ob (
ob (α:=(Int) ⊕(Unit)) (
bh (yj n l2 l1) n 0) fun r5=>match r5 with
| .inl v9 =>
some v9
| .inr _ =>
some (-1)) fun v3 =>
br (decide (0<=v3)) (
some (6,v3)) (
ob (Qg n l1 l2) fun(r6,r7) =>
some (r6,r7))))))
def Jv(n:Nat)(l1:Ut)(l5:Ur):Option (Int) :=
ob (Oe n l1 l5) fun(r14,r15) =>
br (decide (0<r14)) (
some 150) (
some 0)
def Mb(n:Nat)(r0:Unit->Int->Option (Int))(l1:Ut):Unit->Int->Option (Int):=fun _ x3 =>
ob (some ((fX l1 x3).getD (0:Int),(fX l1 x3).isSome)) fun(y0,y1) =>
ob (
br (y1) (
some (!decide (y0=x3))) (
some false)) fun v0 =>
br (v0) (
ob (r0 () y0) fun r1 =>
some r1) (
some x3)
def Qi(n:Nat)(l79:Ut):Nat->Unit->Int->Option (Int)
 | 0=>fun _ _=>none
 | k+1=>Mb n (Qi n l79 k) l79
def LJ(n:Nat)(x4:Int)(x10:Int):(Ut×Int)->Option ((Ut×Int) ⊕(Ut)):=fun(l1,v0) =>
br (decide (v0<2)) (
ob (
gd (bw v0 2) (
ob ([x4,x10][v0.toNat]?) fun x3 =>
ob (some ((fX l1 x3).getD (0:Int),(fX l1 x3).isSome)) fun(y1,y0) =>
br (!y0) (
some (jP l1 x3 x3)) (
some l1))) fun l2 =>
some (.inl (l2,UD (v0+1)))) (
some (.inr l1))
def LD(n:Nat)(l1:List (Us)):(Ut×Int)->Option ((Ut×Int) ⊕(Ut)):=fun(l3,v0) =>
br (decide (v0<(l1.length:Int))) (
gd (bw v0 l1.length) (
ob (l1[v0.toNat]?) fun(x3,x4,x10,x11) =>
ob (
bh (LJ n x3 x4) n (l3,0)) fun l2 =>
ob (Qi n l2 n () x3) fun r0 =>
ob (Qi n l2 n () x4) fun r1 =>
some (.inl ((jP l2 r0 r1),UD (v0+1))))) (
some (.inr l3))
def LZ(n:Nat)(l1:Ut)(l2:Ur):Option ((Int×Int×Int×Int×Int) ⊕(List (Us)×Ut)) :=
ob (Jv n l1 l2) fun r0 =>
br (!decide (r0=0)) (
some (.inl (0,0,0,0,r0))) (
ob (KF n l1 l2) fun l3 =>
ob (
bh (LD n l3) n (([]:Ut),0)) fun l4 =>
some (.inr (l3,l4)))
def pK(r:Ut):Int:=(r.countP (fun p=>decide (p.1=p.2)):Nat)
def LI(_:Nat)(l1:Ut)(l5:Ur):Option (Int×Int×Int×Int×Int) :=
 ob (LZ 100000 l1 l5) fun s=>match s with
 | .inl x=>some x
 | .inr (l,r)=>gd (lim r.length) (some ((r.length:Int),(l.length:Int),(l5.length:Int),pK r,0))
end Go.Proofs.YtmndpgfbkicndaaGreat
namespace Go.Ab
open Go
section
variable{E:Env}{j j1:aS}{m m1:Vo}{w w1:UC}
def Sim.same(h:MR E j m w)(hold:∀c,c<w.heap.size->w1.heap[c]? = w.heap[c]?)(hsize:w.heap.size<=w1.heap.size)(hcalm:jb E w w1):Sim E j m w j m w1 where
 ext:=.refl m
 le:=.refl j
 new:=fun b k h h'=>by simp[h'] at h
 mr:=⟨fun b k hb=>⟨(h.lt b k hb).1,Sj (h.lt b k hb).2 hsize⟩,fun b o k ho hb=>by
  obtain⟨o',h1,h2⟩:=h.obj b o k ho hb;exact⟨o',(hold k.c (h.lt b k hb).2).trans h1,h2⟩,h.inj,h.glob⟩
 size:=hsize
 full:=fun b h h' _=>Ss h (by omega)
 away:=fun _ _ _=>rfl
 fresh:=fun b k h h'=>by simp[h'] at h
 frame:=fun c hc _=>hold c hc
 calm:=hcalm
def su(hE:EnvOk E){pr:FuncId->Option Prim}(h:∀f p,pr f=some p->E.cZ f=some p\/∀args m v m',p.run args m=some (v,m')->∀(j:aS) (w:UC) (args':List Uy),MR E j m w->LR j args args'->gI E.P (E.cZ f).isSome f args'.toArray w (ji E j m w v m')):EnvOk { E with cZ:=pr}:=by
 refine⟨hE.call,hE.mixed,fun f p hp args m v m' hrun j w args' hm hl=>?_⟩;have hp':({ E with cZ:=pr}:Env).cZ f=some p:=hp;have hm0:MR E j m w:=MR.env (E:={ E with cZ:=pr}) (E':=E) rfl hm;have key:∀v' w',ji E j m w v m' v' w'->ji { E with cZ:=pr} j m w v m' v' w':=fun v' w' ⟨j',s,hv⟩=>⟨j',Sim.env (E:=E) rfl (fun e=>e) s,hv⟩;rcases h f p hp with h1|h1
 exact mu (fun _=>by rw[hp']; rfl) (hE.cZ f p h1 args m v m' hrun j w args' hm0 hl) key
 exact mu (fun _=>by rw[hp']; rfl) (h1 args m v m' hrun j w args' hm0 hl) key
end
def FI{j:aS}{l:List Uy}(h:∀x∈l,bL x=true):LR j l l :=
 ⟨rfl,fun i v hi=>⟨v,hi,VR.bL (h v (Sf hi))⟩⟩
def yO{W W':UC}(hc:Calm W W')(hs:W.heap.size<=W'.heap.size)(hold:∀c,c<W.heap.size->W'.heap[c]? = W.heap[c]?):∃q os,W'=Sort.grow (W.drewN q) os:=by
 refine⟨W'.drawn-W.drawn,W'.heap.extract W.heap.size W'.heap.size,?_⟩;have hh:W'.heap=W.heap++W'.heap.extract W.heap.size W'.heap.size:=by
  apply Ul;intro i;rw[Array.getElem?_append]
  split
  exact hold i ‹_›
  rw[Array.getElem?_extract]
  split
  congr 1; omega
  exact Array.getElem?_eq_none (by omega)
 obtain⟨h1,h2,h3,h4⟩:=hc;cases W; cases W';simp only[Sort.grow,World.drewN] at *;subst h1; subst h2; subst h3
 congr 1
 omega
def Av{E:Env}(hE:EnvOk E)(hmono:E.mono:=by trivial){f:FuncId}{args:List Uy}(hp:E.cZ f=none){v:Uy}(hpl:∀x∈args,bL x=true)(hv:bL v=true)
  (h:aC E f args (Eo E.glob fun _=>none) fun v' _=>v'=v) {W:UC} (hW:E.glob<=W.heap.size) :
  Calls E.P f args.toArray W fun e W'=>e=.returned v/\∃q os,W'=Sort.grow (W.drewN q) os:=by
 obtain⟨v',m',⟨k,hr⟩,rfl⟩:=h;have hm:MR E (DD E.glob) (Eo E.glob fun _=>none) W:=KJ (Sc _) hW fun b cs hb=>by cases hb
 refine callsIn_wide.1 ((pn hE hr hp hm (FI hpl)).mono ?_);rintro e W' ⟨v1,rfl,j',s,hv1⟩;rw[gJ hv hv1];refine⟨rfl,yO ⟨s.calm.1,s.calm.2.1,s.calm.2.2.1,s.calm.2.2.2 hmono⟩ s.size fun c hc=>s.frame c hc fun b k hb hl _=>?_⟩;have:(Eo E.glob fun _=>none).get b=none:=by simp[Vo.get,Eo,Heap.get_nil]
 rw[this] at hl; cases hl
def lu{w:UC}{B:Nat}{c:Array Uy}{e:Uz}{fz:Nat×Nat}(h:w.heap[B]? = some (.cells c e fz))(f:Array Uy->Array Uy):Sort.mapBlock w B f=w.putObj B (.cells (f c) e fz):=by
 unfold Sort.mapBlock World.putObj
 congr 1
 apply Ul;intro i;rw[Array.getElem?_modify,TU]
 by_cases hi:B=i
 subst hi;obtain⟨hlt,hv⟩:=Sh.1 h;simp[hlt,hv,Sort.onCells]
 simp[hi]
def BQ{E:Env}{j:aS}{m:Vo}{w:UC}(h:MR E j m w){b:Nat}{k:Blk}(hk:j b=some k){cs cs':List Uy}{tag:Tag}(hg:m.get b=some (.cells cs tag))(hl:cs'.length=cs.length)(hp:cs'.all aU=true)(n:Nat)(os:Array Obj) :
  Sim E j m w j (m.set b (.cells cs' tag)) (Sort.grow (Sort.putRow id (Sort.ahead w n) k.c 0 cs'.toArray) os):=by
 obtain⟨c,e,fz,h1,h2,h3⟩:=h.fY hk hg;have s1:Sim E j m w j m (Sort.ahead w n):=Sim.of_heap h rfl ⟨rfl,rfl,rfl,Nat.le_add_right _ _⟩;have hle:cs.length<=c.size:=by
  cases tag with
  | ro=>exact Uh h2.2.symm
  | own=>exact Uh h2.2.1.symm
  | more sz=>exact h2.2.1
 have hor:OR j k (.cells cs' tag) (.cells (Sort.putCells id 0 cs'.toArray c) e fz):=by
  have hget:∀i,(Sort.putCells id 0 cs'.toArray c)[i]? = if i<cs'.length then(if i<c.size then some cs'[i]! else none) else c[i]?:=by
   intro i;simp only[Sort.putCells,Array.getElem?_mapIdx,Th,true_and,SD,T0,TK,id]
   by_cases hi:i<c.size
   rw[TN hi];simp only[Sq]
   by_cases hj:i<cs'.length
   simp[hj,hi]
   simp[hj]
   rw[Array.getElem?_eq_none (by omega)]
   simp[hi]
  refine⟨?_,fun i v hi=>?_⟩
  rw[show cs'.length=cs.length from hl]
  refine pt.put h2 (by simp[Sort.putCells]) fun i hi=>?_
  rw[hget,UF]
  have hlt:i<cs'.length:=(Sl.1 hi).1;refine⟨v,?_,.aU (Si.1 hp v (Sf hi))⟩;rw[hget,R7 hlt,UG,TM,hi]; rfl
 have s2:=iL s1.mr hk (by rw[hg]; rfl) hor
 have e2:Sort.putRow id (Sort.ahead w n) k.c 0 cs'.toArray=(Sort.ahead w n).putObj k.c (.cells (Sort.putCells id 0 cs'.toArray c) e fz):=lu (w:=Sort.ahead w n) h1 _;rw[e2];refine(s1.trans h s2).trans h (Sim.same s2.mr (fun x hx=>?_) (by simp) ⟨rfl,rfl,rfl,fun _=>Sc _⟩)
 show(_++_:Array Obj)[x]? = _
 rw[Array.getElem?_append,R7 hx]
def zg{α:Type}[Inhabited α]{enc:α->List Uy}{k:Nat}(hk:∀x,(enc x).length=k)(h0:0<k):∀(l:List α) (t:Nat),t<l.length*k->(l.map enc).flatten[t]! =(enc l[t/k]!)[t%k]!
 | [],t,h=>by simp at h
 | x::l,t,h=>by
  simp only[Tt,SY];rw[TM,T8]
  by_cases ht:t<k
  rw[R7 (by rw[hk]; exact ht),Nat.div_eq_of_lt ht,TL ht,<-TM]; rfl
  rw[R6 (by rw[hk]; exact ht),hk,<-TM,zg hk h0 l (t-k) (by simp only[SJ,TW,Nat.one_mul] at h; omega)]
  have e1:t/k=(t-k)/k+1:=by rw[Nat.div_eq_sub_div h0 (by omega)]
  have e2:t%k=(t-k)%k:=Nat.mod_eq_sub_mod (by omega)
  rw[e1,e2]; rfl
def cO{α:Type}{enc:α->List Uy}{k:Nat}(hk:∀x,(enc x).length=k):∀l:List α,(l.map enc).flatten.length=l.length*k
 | []=>by simp
 | x::l=>by simp only[Tt,SY,Sk,SJ,hk,cO hk l,TW,Nat.one_mul]; omega
def gW{α:Type}[Inhabited α]{enc:α->List Uy}{k:Nat}(hk:∀x,(enc x).length=k)(h0:0<k)(l:List α):Sort.flatK enc k l.toArray=(l.map enc).flatten.toArray:=by
 refine Sort.ext_get! (by simp[cO hk]) fun t ht=>?_
 have ht':t<l.length*k:=by simpa using ht
 rw[Sort.get_flatK _ _ _ _ (by simpa using ht')]
 have:=zg hk h0 l t ht';simp at this ⊢;rw[this]
def vf{E:Env}{j:aS}{m:Vo}{w:UC}(h:MR E j m w){b:Nat}{k:Blk}(hk:j b=some k){cs:List Uy}{tag:Tag}(hg:m.get b=some (.cells cs tag))(ht:tag≠.ro)(hp:cs.all aU=true) :
  Sort.Holds id w k.c 0 cs.toArray:=by
 obtain⟨c,e,fz,h1,h2,h3⟩:=h.fY hk hg;have hfz:fz=(0,0):=by
  cases tag with
  | ro=>exact Ss rfl ht
  | own=>exact h2.2.2
  | more sz=>exact h2.2.2.1
 subst hfz;intro i hi;have hi':i<cs.length:=by simpa using hi
 obtain⟨v',g1,g2⟩:=h3 i cs[i] (R5 hi');have:=fV (Si.1 hp _ (SB hi')) g2;subst this;refine⟨?_,?_⟩
 simp only[World.cell?,h1,SD];simp[g1,hi']
 simp only[World.frozen?,h1]; simp
def A7{E:Env}{j:aS}{m:Vo}{w:UC}(h:MR E j m w){b:Nat}{k:Blk}(hk:j b=some k){cs:List Uy}{tag:Tag}(hg:m.get b=some (.cells cs tag))(ht:tag≠.ro) :
  ∃cc:List Uy,LR j cs cc/\Sort.Holds id w k.c 0 cc.toArray:=by
 obtain⟨c,e,fz,h1,h2,h3⟩:=h.fY hk hg;have hfz:fz=(0,0):=by
  cases tag with
  | ro=>exact Ss rfl ht
  | own=>exact h2.2.2
  | more sz=>exact h2.2.2.1
 have hle:cs.length<=c.size:=by
  cases tag with
  | ro=>exact Ss rfl ht
  | own=>exact Uh h2.2.1.symm
  | more sz=>exact h2.2.1
 subst hfz;have hl:(c.toList.take cs.length).length=cs.length:=by rw[Sm]; exact Nat.min_eq_left (by simpa using hle)
 refine⟨c.toList.take cs.length,⟨hl.symm,fun i v hi=>?_⟩,fun i hi=>?_⟩
 obtain⟨v',g1,g2⟩:=h3 i v hi;have hlt:=(Sl.1 hi).1;exact⟨v',by rw[Tf,R7 hlt]; simpa using g1,g2⟩
 have hi':i<cs.length:=by rw[T0,hl] at hi; exact hi
 refine⟨?_,?_⟩
 simp only[World.cell?,h1,SD];have hic:i<c.size:=by omega
 simp[hi',hic]
 simp only[World.frozen?,h1]; simp
def Fw{E:Env}{j:aS}{m:Vo}{w:UC}(h:MR E j m w){b:Nat}{k:Blk}(hk:j b=some k){cs cs' cc':List Uy}{tag:Tag}(hg:m.get b=some (.cells cs tag))(hl:cs'.length=cs.length)(hp:LR j cs' cc')(n:Nat)(os:Array Obj) :
  Sim E j m w j (m.set b (.cells cs' tag)) (Sort.grow (Sort.putRow id (Sort.ahead w n) k.c 0 cc'.toArray) os):=by
 obtain⟨c,e,fz,h1,h2,h3⟩:=h.fY hk hg;have s1:Sim E j m w j m (Sort.ahead w n):=Sim.of_heap h rfl ⟨rfl,rfl,rfl,Nat.le_add_right _ _⟩;have hlc:cs'.length=cc'.length:=hp.1;have hle:cs.length<=c.size:=by
  cases tag with
  | ro=>exact Uh h2.2.symm
  | own=>exact Uh h2.2.1.symm
  | more sz=>exact h2.2.1
 have hor:OR j k (.cells cs' tag) (.cells (Sort.putCells id 0 cc'.toArray c) e fz):=by
  have hget:∀i,(Sort.putCells id 0 cc'.toArray c)[i]? = if i<cc'.length then(if i<c.size then some cc'[i]! else none) else c[i]?:=by
   intro i;simp only[Sort.putCells,Array.getElem?_mapIdx,Th,true_and,SD,T0,TK,id]
   by_cases hi:i<c.size
   rw[TN hi];simp only[Sq]
   by_cases hj:i<cc'.length
   simp[hj,hi]
   simp[hj]
   rw[Array.getElem?_eq_none (by omega)]
   simp[hi]
  refine⟨?_,fun i v hi=>?_⟩
  rw[show cs'.length=cs.length from hl]
  refine pt.put h2 (by simp[Sort.putCells]) fun i hi=>?_
  rw[hget,UF]
  have hlt:i<cs'.length:=(Sl.1 hi).1;obtain⟨v',g1,g2⟩:=hp.2 i v hi;refine⟨v',?_,g2⟩;rw[hget,UG,UG,TM,g1]; rfl
 have s2:=iL s1.mr hk (by rw[hg]; rfl) hor
 have e2:Sort.putRow id (Sort.ahead w n) k.c 0 cc'.toArray=(Sort.ahead w n).putObj k.c (.cells (Sort.putCells id 0 cc'.toArray c) e fz):=lu (w:=Sort.ahead w n) h1 _;rw[e2];refine(s1.trans h s2).trans h (Sim.same s2.mr (fun x hx=>?_) (by simp) ⟨rfl,rfl,rfl,fun _=>Sc _⟩)
 show(_++_:Array Obj)[x]? = _
 rw[Array.getElem?_append,R7 hx]
end Go.Ab
namespace Go.Proofs
open Go.Shelf
def Tryz.Bc:Go.Shelf.Ren:=⟨fun|6=>104|15=>128|14=>127|28=>149|29=>150|20=>141|21=>142|22=>143|23=>144|24=>145|25=>146|26=>147|27=>148|46=>156|47=>157|48=>158|49=>159|50=>160|57=>164|n=>n,fun|22=>57|24=>64|25=>126|3=>3|39=>150|0=>0|53=>171|55=>173|4=>4|46=>165|45=>164|50=>94|5=>5|9=>9|66=>177|70=>181|76=>185|77=>75|n=>n,fun|n=>n⟩
def Tryz.Bj:Go.Proofs.SlLaysF0.n6 Tryz.prog Tryz.Bc:={
 mixed:=by kernel_rfl
 f6:=⟨Tryz.f104.name,by decide,Tryz.func104.trans (SK some (by kernel_rfl))⟩
 f14:=⟨Tryz.f127.name,by decide,Tryz.func127.trans (SK some (by kernel_rfl))⟩
 f15:=Tryz.func128.trans (SK some (by kernel_rfl))
 f20:=⟨Tryz.f141.name,by decide,Tryz.func141.trans (SK some (by kernel_rfl))⟩
 f21:=⟨Tryz.f142.name,by decide,Tryz.func142.trans (SK some (by kernel_rfl))⟩
 f22:=⟨Tryz.f143.name,by decide,Tryz.func143.trans (SK some (by kernel_rfl))⟩
 f23:=⟨Tryz.f144.name,by decide,Tryz.func144.trans (SK some (by kernel_rfl))⟩
 f24:=⟨Tryz.f145.name,by decide,Tryz.func145.trans (SK some (by kernel_rfl))⟩
 f25:=⟨Tryz.f146.name,by decide,Tryz.func146.trans (SK some (by kernel_rfl))⟩
 f26:=⟨Tryz.f147.name,by decide,Tryz.func147.trans (SK some (by kernel_rfl))⟩
 f27:=⟨Tryz.f148.name,by decide,Tryz.func148.trans (SK some (by kernel_rfl))⟩
 f28:=Tryz.func149.trans (SK some (by kernel_rfl))
 f29:=Tryz.func150.trans (SK some (by kernel_rfl))
 f46:=⟨Tryz.f156.name,by decide,Tryz.func156.trans (SK some (by kernel_rfl))⟩
 f47:=Tryz.func157.trans (SK some (by kernel_rfl))
 f48:=Tryz.func158.trans (SK some (by kernel_rfl))
 f49:=⟨Tryz.f159.name,by decide,Tryz.func159.trans (SK some (by kernel_rfl))⟩
 f50:=⟨Tryz.f160.name,by decide,Tryz.func160.trans (SK some (by kernel_rfl))⟩
 f57:=⟨Tryz.f164.name,by decide,Tryz.func164.trans (SK some (by kernel_rfl))⟩
 t0:=Tryz.underlying0
 a0:=Tryz.isAgg0
 z0:=Tryz.sizeOf0
 v0:=Tryz.zeroValue0
 t3:=Tryz.underlying3
 a3:=Tryz.isAgg3
 z3:=Tryz.sizeOf3
 v3:=Tryz.zeroValue3
 t4:=Tryz.underlying4
 a4:=Tryz.isAgg4
 z4:=Tryz.sizeOf4
 v4:=Tryz.zeroValue4
 t5:=Tryz.underlying5
 a5:=Tryz.isAgg5
 z5:=Tryz.sizeOf5
 v5:=Tryz.zeroValue5
 t9:=Tryz.underlying9
 a9:=Tryz.isAgg9
 z9:=Tryz.sizeOf9
 v9:=Tryz.zeroValue9
 t22:=Tryz.underlying57
 a22:=Tryz.isAgg57
 z22:=Tryz.sizeOf57
 v22:=Tryz.zeroValue57
 t25:=Tryz.underlying126
 a25:=Tryz.isAgg126
 z25:=Tryz.sizeOf126
 v25:=Tryz.zeroValue126
 t39:=Tryz.underlying150
 a39:=Tryz.isAgg150
 z39:=Tryz.sizeOf150
 v39:=Tryz.zeroValue150
 t45:=Tryz.underlying164
 a45:=Tryz.isAgg164
 z45:=Tryz.sizeOf164
 v45:=Tryz.zeroValue164
 t46:=Tryz.underlying165
 a46:=Tryz.isAgg165
 z46:=Tryz.sizeOf165
 v46:=Tryz.zeroValue165
 t50:=Tryz.underlying94
 a50:=Tryz.isAgg94
 z50:=Tryz.sizeOf94
 v50:=Tryz.zeroValue94
 t53:=Tryz.underlying171
 a53:=Tryz.isAgg171
 z53:=Tryz.sizeOf171
 v53:=Tryz.zeroValue171
 t55:=Tryz.underlying173
 a55:=Tryz.isAgg173
 z55:=Tryz.sizeOf173
 v55:=Tryz.zeroValue173
 t66:=Tryz.underlying177
 a66:=Tryz.isAgg177
 z66:=Tryz.sizeOf177
 v66:=Tryz.zeroValue177
 t70:=Tryz.underlying181
 a70:=Tryz.isAgg181
 z70:=Tryz.sizeOf181
 v70:=Tryz.zeroValue181
 t76:=Tryz.underlying185
 a76:=Tryz.isAgg185
 z76:=Tryz.sizeOf185
 v76:=Tryz.zeroValue185
 t77:=Tryz.underlying75
 a77:=Tryz.isAgg75
 z77:=Tryz.sizeOf75
 v77:=Tryz.zeroValue75}
end Go.Proofs
namespace Go.Proofs.YtmndpgfbkicndaaGreat
open Go Go.Ab Go.Ab.W
set_option maxRecDepth 10000
noncomputable def DO:Env:={ P:=Tryz.prog,glob:=0,cZ:=fun _=>none,mono:=True}
def pD:EnvOk DO:=yq Ai fun f p hp=>by cases hp
namespace W105
set_option maxHeartbeats 4000000
attribute [local irreducible] Tm.at Trie.set Trie.get Vo.get Vo.set Vo.alloc Vo.ww Vo.kill
def Pz(n:Nat)(x1:Int)(x2:Int)(x3:Int)(x4:Int)(x5:Int)(x6:Int)(x7:Int)(x8:Int):Option (Int) :=
ob (some (UD ((UD (120*(UD (x1-x5))))+x2))) fun y11 =>
some (UD (y11-x6))
def qe:∀b o,aF DO.P 64 (ptr b o) 0=some (ptr b (o+0)):=fun _ _=>by kernel_rfl
def bX:TyI DO.P 3 false 1:=⟨by kernel_rfl,by kernel_rfl,by kernel_rfl⟩
def pO:∀b o,aF DO.P 64 (ptr b o) 1=some (ptr b (o+1)):=fun _ _=>by kernel_rfl
def KP(n:Nat)(x1:Int)(x2:Int)(x3:Int)(x4:Int)(x5:Int)(x6:Int)(x7:Int)(x8:Int)  (r:Int)(hF:Pz n x1 x2 x3 x4 x5 x6 x7 x8=some r)(m:Vo)  :
  aC DO 105 [.agg #[.int .i64 x1,.int .i64 x2,.int .i64 x3,.int .i64 x4],.agg #[.int .i64 x5,.int .i64 x6,.int .i64 x7,.int .i64 x8]] m (Vn m (.int .i64 r)):=by
 unfold Pz at hF;refine aW (m0:=m) (ps:=[]) (N:=17) (rs:=[.tmp 4]) rfl Tryz.func105 rfl rfl rfl (UP m) ?_;refine UJ ?_;refine UM ?_;refine UX (Ns rfl) gn rfl fun b9=>?_;refine UX (Ns rfl) gn rfl fun b10=>?_;refine UH (bH rfl) rfl ?_;refine UU ?_;refine US ?_;refine UJ ?_;refine UM ?_;refine UH (aM (r:=ptr b9 0) rfl (qe _ _)) rfl ?_;refine UH (aD (k:=1) bX rfl rfl rfl) rfl ?_;refine UH (aM (r:=ptr b10 0) rfl (qe _ _)) rfl ?_;refine UH (aD (k:=0) bX rfl rfl rfl) rfl ?_;refine UH (aI rfl rfl (bN _ _ _)) rfl ?_;refine UH (aI rfl rfl (cz _ _ _)) rfl ?_;refine UH (aM (r:=ptr b9 1) rfl (pO _ _)) rfl ?_;refine UH (aD (k:=1) bX rfl rfl rfl) rfl ?_;obtain⟨y11,h12,hF⟩:=J hF;refine UH (aI rfl rfl ((bR _ _ _).trans (cI h12))) rfl ?_;refine UH (aM (r:=ptr b10 1) rfl (pO _ _)) rfl ?_;refine UH (aD (k:=0) bX rfl rfl rfl) rfl ?_;refine UH (aI rfl rfl (bN _ _ _)) rfl ?_;refine UH (bH rfl) rfl ?_;refine UU ?_;refine US ?_;refine Wk.ret ?_;cases hF;exact U1 (.tmp rfl .nil) fun m' hm=>⟨(),rfl,(UN [] rfl rfl) m' hm⟩
end W105
def u7(x y:fN):Int:=UD (UD (UD (120*UD (x.1-y.1))+x.2.1)-y.2.1)
def td(x y:fN){W:UC} :
  Calls Tryz.prog 105 #[.agg (fk x).toArray,.agg (fk y).toArray] W fun e W'=>e=.returned (.int .i64 (u7 x y))/\∃q os,W'=Sort.grow (W.drewN q) os :=
 Av (E:=DO) pD (hmono:=trivial) (f:=105) (args:=[.agg #[.int .i64 x.1,.int .i64 x.2.1,.int .i64 x.2.2.1,.int .i64 x.2.2.2],.agg #[.int .i64 y.1,.int .i64 y.2.1,.int .i64 y.2.2.1,.int .i64 y.2.2.2]]) rfl (by intro v hv; simp at hv; rcases hv with rfl|rfl<;>rfl) rfl
  ((W105.KP 5 x.1 x.2.1 x.2.2.1 x.2.2.2 y.1 y.2.1 y.2.2.1 y.2.2.2 (u7 x y) rfl _).mono fun v m' ⟨_,h,_⟩=>h) (Th _)
def rv{x:Int}(h1 : -1000000<=x)(h2:x<=1000000):UD x=x:=by
 simp only[IntKind.wrap,IntKind.bits,IntKind.signed]
 show(if(true&&decide (x%18446744073709551616≥9223372036854775808))=true then x%18446744073709551616-18446744073709551616 else x%18446744073709551616)=x
 simp only[Ty,Sn]
 split<;>omega
def uw(x:fN):Prop:=0<=x.1/\x.1<120/\0<=x.2.1/\x.2.1<120
def FT{x y:fN}(hx:uw x)(hy:uw y):u7 x y=120*(x.1-y.1)+x.2.1-y.2.1:=by
 obtain⟨a1,a2,a3,a4⟩:=hx;obtain⟨b1,b2,b3,b4⟩:=hy;unfold u7;rw[rv (x:=x.1-y.1) (by omega) (by omega),rv (x:=120*(x.1-y.1)) (by omega) (by omega),rv (x:=120*(x.1-y.1)+x.2.1) (by omega) (by omega),rv (by omega) (by omega)]
def Gw{x y:fN}(hx:uw x)(hy:uw y):u7 x y<0↔x.1<y.1\/x.1=y.1/\x.2.1<y.2.1:=by
 rw[FT hx hy];obtain⟨a1,a2,a3,a4⟩:=hx;obtain⟨b1,b2,b3,b4⟩:=hy;omega
def CX(w:UC):(isAgg 64).run Tryz.prog w=.ok true w:=by rw[mT (by kernel_rfl) w,show dY Tryz.prog 64=true by kernel_rfl]
def yf(w:UC):(Go.sizeOf 64).run Tryz.prog w=.ok 4 w:=by rw[cL (by kernel_rfl) w,show aH Tryz.prog 64=4 by kernel_rfl]
def xY:∀args w,(callFunc 105 args).run Tryz.prog w=.ok (.enter 105 args) w:=fun args w=>pD.call 105 _ _ Tryz.func105 rfl args w
end Go.Proofs.YtmndpgfbkicndaaGreat
namespace Go.Proofs
open Go.Shelf
def Tryz.Ht:Go.Shelf.Ren:=⟨fun|45=>115|n=>n,fun|22=>29|23=>28|3=>3|4=>4|0=>0|n=>n,fun|n=>n⟩
def Tryz.Q8:Go.Proofs.SlLaysE.n45 Tryz.prog Tryz.Ht:={
 mixed:=by kernel_rfl
 f45:=⟨Tryz.f115.name,by decide,Tryz.func115.trans (SK some (by kernel_rfl))⟩
 t0:=Tryz.underlying0
 a0:=Tryz.isAgg0
 z0:=Tryz.sizeOf0
 v0:=Tryz.zeroValue0
 t3:=Tryz.underlying3
 a3:=Tryz.isAgg3
 z3:=Tryz.sizeOf3
 v3:=Tryz.zeroValue3
 t4:=Tryz.underlying4
 a4:=Tryz.isAgg4
 z4:=Tryz.sizeOf4
 v4:=Tryz.zeroValue4
 t22:=Tryz.underlying29
 a22:=Tryz.isAgg29
 z22:=Tryz.sizeOf29
 v22:=Tryz.zeroValue29
 a23:=Tryz.isAgg28
 z23:=Tryz.sizeOf28}
def Tryz.GL:Go.Shelf.Ren:=⟨fun|45=>101|n=>n,fun|22=>28|23=>3|3=>3|4=>4|0=>0|n=>n,fun|n=>n⟩
def Tryz.Q6:Go.Proofs.SlLaysE.n45 Tryz.prog Tryz.GL:={
 mixed:=by kernel_rfl
 f45:=⟨Tryz.f101.name,by decide,Tryz.func101.trans (SK some (by kernel_rfl))⟩
 t0:=Tryz.underlying0
 a0:=Tryz.isAgg0
 z0:=Tryz.sizeOf0
 v0:=Tryz.zeroValue0
 t3:=Tryz.underlying3
 a3:=Tryz.isAgg3
 z3:=Tryz.sizeOf3
 v3:=Tryz.zeroValue3
 t4:=Tryz.underlying4
 a4:=Tryz.isAgg4
 z4:=Tryz.sizeOf4
 v4:=Tryz.zeroValue4
 t22:=Tryz.underlying28
 a22:=Tryz.isAgg28
 z22:=Tryz.sizeOf28
 v22:=Tryz.zeroValue28
 a23:=Tryz.isAgg3
 z23:=Tryz.sizeOf3}
end Go.Proofs
namespace Go.Ab
open Go
section
variable{E:Env}{j:aS}{m:Vo}{w:UC}
def VR.at{b o l c:Nat}{v':Uy}(h:VR j (.slice (some ⟨b,o,none⟩) l c) v'):∃k c',j b=some k/\v'=.slice (some ⟨k.c,o,none⟩) l c':=by
 cases h with
 | slice hj hm=>exact⟨_,_,hj,rfl⟩
 | sliceM hj hm _ _ _ _=>exact⟨_,_,hj,rfl⟩
end
end Go.Ab
namespace Go.Proofs.YtmndpgfbkicndaaGreat
open Go Go.Ab Go.Ab.W
set_option maxRecDepth 10000
def qK:∀l:List fN,cM (l.map fk).flatten=some l
 | []=>rfl
 |(a,b,c,d)::l=>by
  show(cM (l.map fk).flatten).map _=_
  rw[qK l]; rfl
def wk:∀{cs:List Uy} {l:List fN},cM cs=some l->cs=(l.map fk).flatten:=by
 intro cs
 induction cs using cM.induct with
 | case1=>intro l h; cases h; rfl
 | case2 a b c d r ih =>
  intro l h;have h':(cM r).map ((a,b,c,d)::·)=some l:=h;cases hr:cM r with
  | none=>rw[hr] at h'; cases h'
  | some l' =>
   rw[hr] at h'; cases h';rw[ih hr]; rfl
 | case3 cs h1 h2 =>
  intro l h;unfold cM at h
  split at h
  exact Ss rfl h1
  rename_i a b c d r;exact Ss rfl (h2 a b c d r)
  cases h
def oD(l:List fN):((l.map fk).flatten).all aU=true:=by
 induction l with
 | nil=>rfl
 | cons x l ih=>rw[Tt,SY,List.all_append,ih]; rfl
def mJ{m:Vo}{w b n n':Nat}{cs:List Uy}{tg:Tag}(h:gF m w b n n'=some (cs,tg)):m.get b=some (.cells cs tg)/\tg≠.ro/\n=n'/\cs.length=n*w/\(tg=.own\/tg=.more w):=by
 unfold gF at h
 split at h
 rename_i cs' hg
 split at h
 rename_i hc; cases h; exact⟨hg,(by intro e; cases e),hc.1,hc.2,.inl rfl⟩
 cases h
 rename_i cs' k hg
 split at h
 rename_i hc; cases h; exact⟨hg,(by intro e; cases e),hc.1,hc.2.1,.inr (by rw[hc.2.2])⟩
 cases h
 cases h
def Af{j:aS}{f:FuncId}{xs ys:Array Uy}{v:Uy}(h:VR j (.func (.func f) xs ys) v)(h1:xs.size=0)(h2:ys.size=0):v=.func (.func f) #[] #[]:=by
 cases h with
 | @func _ _ ys' _ ds a _ c _ =>
  have e1:ys'=#[]:=T5 (a.symm.trans h1);have e2:ds=#[]:=T5 (c.symm.trans h2);rw[e1,e2]
def oh{n:Nat}(h:lim n=true):n<=1073741824:=Tc h
def sW{l:List fN}(h:sM l=true):(∀x∈l,uw x)/\(l.map fun x=>(x.1,x.2.1)).Nodup:=by
 unfold sM at h;simp only[Sa,Sn] at h;refine⟨fun x hx=>?_,h.2⟩;have:=Si.1 h.1 x hx;simp only[Sa,Sn] at this;exact⟨this.1.1.1,this.1.1.2,this.1.2,this.2⟩
section
variable(l:List fN)
abbrev Pl:={ x:fN // x∈l}
def yY(x y:Pl l):Int:=u7 x.1 y.1
variable{l}
def PN(hl:∀x∈l,uw x)(x y:Pl l):Go.Proofs.ltOf (yY l) x y=decide (x.1.1<y.1.1\/x.1.1=y.1.1/\x.1.2.1<y.1.2.1):=by
 unfold Go.Proofs.ltOf yY
 congr 1
 exact propext (Gw (hl _ x.2) (hl _ y.2))
def OQ(hl:∀x∈l,uw x):Go.Sort.SWO (Go.Proofs.ltOf (yY l)) where
 irrefl x:=by rw[PN hl]; simp
 trans x y z h1 h2:=by rw[PN hl] at *; simp only[Sn] at *; omega
 ntrans x y z h1 h2:=by rw[PN hl] at *; simp only[decide_eq_false_iff_not] at *; omega
def mS{α β:Type}{f:α->β}:∀{l:List α},(l.map f).Nodup->∀{x y:α},x∈l->y∈l->f x=f y->x=y
 | [],_,_,_,hx,_,_=>by cases hx
 | a::l,h,x,y,hx,hy,e=>by
  rw[Tt] at h;obtain⟨h1,h2⟩:=TT.1 h;rcases Sx.1 hx with ex|hx
  rcases Sx.1 hy with ey|hy
  rw[ex,ey]
  exact Ss (Ts.2 ⟨y,hy,by rw[<-e,ex]⟩) h1
  rcases Sx.1 hy with ey|hy
  exact Ss (Ts.2 ⟨x,hx,by rw[e,ey]⟩) h1
  exact mS h2 hx hy e
def PB(hl:∀x∈l,uw x)(hn:(l.map fun x=>(x.1,x.2.1)).Nodup)(x y:Pl l)(h1:Go.Proofs.ltOf (yY l) x y=false)(h2:Go.Proofs.ltOf (yY l) y x=false):x=y:=by
 rw[PN hl] at h1 h2;simp only[decide_eq_false_iff_not] at h1 h2;exact Subtype.ext (mS hn x.2 y.2 (S5 (by simp only; omega) (by simp only; omega)))
end
def Im{α β:Type}(f:α->β)(le:β->β->Bool):∀(n:Nat) (l:List α),l.length=n->(l.mergeSort (fun x y=>le (f x) (f y))).map f=(l.map f).mergeSort le:=fun _ l _=>List.map_mergeSort (fun _ _ _ _=>rfl)
def J7{l:List fN}(hl:∀x∈l,uw x):(fun x y:Pl l=>!(Go.Proofs.ltOf (yY l)) y x)=fun x y=>er x.1 y.1:=by
 funext x y
 rw[PN hl]; unfold er;rw[<-decide_not]
 congr 1
 apply propext; omega
def rX:∀args w,(callFunc 104 args).run Tryz.prog w=.ok (.enter 104 args) w:=fun args w=>pD.call 104 _ _ Tryz.func104 rfl args w
def zM{p q:Option Prim}{pr:Bool}{args:List Uy}{m m':Vo}{v:Uy}(h:kL args m=some (v,m')){j:aS}{w:UC}{args':List Uy}(hm:MR (Vr p q) j m w)(hl:LR j args args') :
  gI (Vr p q).P pr 104 args'.toArray w (ji (Vr p q) j m w v m'):=by
 unfold kL at h
 split at h
 rename_i c xs ys
 split at h
 rename_i hc; cases h;obtain⟨v0,vs,rfl,h1,hvs⟩:=hl.cons_inv;obtain⟨v1,v2,rfl,h2,h3⟩:=hvs.cons_inv;obtain rfl:=h3.dx;have e2:=Af h2 hc.1 hc.2;subst e2;cases h1;have hcon:=Go.Proofs.AnyF.slices_SortFunc_none Tryz.Bj none c (.func (.func 105) #[] #[]) w
 change Calls Tryz.prog 104 _ _ _ at hcon
 refine .inl ⟨rX _ _,callsIn_wide.2 ?_⟩;refine Calls.mono hcon ?_;rintro e w' ⟨rfl,rfl⟩;exact⟨_,rfl,j,.refl hm,VR.undef j⟩
 cases h
 rename_i b n n' xs ys
 split at h
 rename_i cs tg hcs;obtain⟨hg,htg,rfl,hcl,_⟩:=mJ hcs
 split at h
 rename_i l h7
 split at h
 rename_i hc; cases h;obtain⟨⟨h8,h9⟩,hlim,hok⟩:=hc;obtain⟨h4,h10⟩:=sW hok;obtain⟨v0,vs,rfl,h1,hvs⟩:=hl.cons_inv;obtain⟨v1,v2,rfl,h2,h3⟩:=hvs.cons_inv;obtain rfl:=h3.dx;have e2:=Af h2 h8 h9;subst e2;obtain⟨k,c',hk,rfl⟩:=h1.at
 have ecs:=wk h7;have hp:cs.all aU=true:=by rw[ecs]; exact oD l
 have h5:∀x:fN,(fk x).length=4:=fun _=>rfl;have hlen:l.length=n:=by
  have:=cO h5 l;rw[<-ecs,hcl] at this; omega
 by_cases hnil:l=[]
 
 subst hnil;have h11:n=0:=by rw[<-hlen]; rfl
 have h12:cs=[]:=ecs;subst h11 h12;have:Inhabited (Pl [((0,0,0,0):fN)]):=⟨⟨(0,0,0,0),Sp.2 rfl⟩⟩;have h6:∀x∈[((0,0,0,0):fN)],uw x:=fun x hx=>by rw[Sp.1 hx]; exact⟨by decide,by decide,by decide,by decide⟩
 have h0:∀x:Pl [((0,0,0,0):fN)],(fk x.1).length=4:=fun _=>rfl;have hH:Go.Sort.HoldsK (fun x:Pl [((0,0,0,0):fN)]=>fk x.1) 4 w k.c 0 ([]:List (Pl [((0,0,0,0):fN)])).toArray:=by
  unfold Go.Sort.HoldsK;rw[gW h0 (by decide)]
  exact vf hm hk hg htg rfl
 have hcon:=Go.Proofs.AnyQ.slices_SortFunc_total Tryz.Bj 4 (fun w=>CX w) (fun w=>yf w) (fun x:Pl [((0,0,0,0):fN)]=>fk x.1) h0 (fun x v hv=>by simp[fk,eP,eI] at hv; rcases hv with rfl|rfl|rfl|rfl<;>rfl) (yY _) (OQ h6) 105 #[] k.c 0 c' ([]:List (Pl [((0,0,0,0):fN)])).toArray w xY
  (fun m os dk _ x y=>td x.1 y.1) hH (hm.lt b k hk).2 (by simp) (PB h6 (by decide))
 change Calls Tryz.prog 104 _ _ _ at hcon
 simp only[T0,List.length_nil] at hcon;refine .inl ⟨rX _ _,callsIn_wide.2 ?_⟩;refine Calls.mono hcon ?_;rintro e w' ⟨rfl,q,os,rfl⟩;refine⟨_,rfl,j,?_,VR.undef j⟩;unfold Go.Proofs.sortWorldK Go.Sort.putRowK;rw[gW h0 (by decide)]
 rw[List.mergeSort_nil,List.mergeSort_nil];exact BQ hm hk hg rfl rfl q os
 have:Inhabited (Pl l):=⟨⟨l.head hnil,List.head_mem hnil⟩⟩;have h0:∀x:Pl l,(fk x.1).length=4:=fun _=>rfl;have eat:(l.attach.map fun x:Pl l=>fk x.1)=l.map fk:=by
  rw[show(fun x:Pl l=>fk x.1)=fk ∘ Subtype.val from rfl,<-List.map_map,List.attach_map_subtype_val]
 have hH:Go.Sort.HoldsK (fun x:Pl l=>fk x.1) 4 w k.c 0 l.attach.toArray:=by
  unfold Go.Sort.HoldsK;rw[gW h0 (by decide),eat,<-ecs]
  exact vf hm hk hg htg hp
 have hcon:=Go.Proofs.AnyQ.slices_SortFunc_total Tryz.Bj 4 (fun w=>CX w) (fun w=>yf w) (fun x:Pl l=>fk x.1) h0 (fun x v hv=>by simp[fk,eP,eI] at hv; rcases hv with rfl|rfl|rfl|rfl<;>rfl) (yY l) (OQ h4) 105 #[] k.c 0 c' l.attach.toArray w xY
  (fun m os dk _ x y=>td x.1 y.1) hH (hm.lt b k hk).2 (by have:=oh hlim; simp; omega) (PB h4 h10)
 change Calls Tryz.prog 104 _ _ _ at hcon
 rw[J7 h4] at hcon;simp only[T0,List.length_attach,hlen] at hcon;refine .inl ⟨rX _ _,callsIn_wide.2 ?_⟩;refine Calls.mono hcon ?_;rintro e w' ⟨rfl,q,os,rfl⟩;refine⟨_,rfl,j,?_,VR.undef j⟩;unfold Go.Proofs.sortWorldK Go.Sort.putRowK;rw[gW h0 (by decide)]
 have e0:((l.attach.mergeSort fun x y:Pl l=>er x.1 y.1).map fun x:Pl l=>fk x.1)=(l.mergeSort er).map fk:=by
  rw[show(fun x:Pl l=>fk x.1)=fk ∘ Subtype.val from rfl,<-List.map_map,Im Subtype.val er _ _ rfl,List.attach_map_subtype_val]
 rw[e0];exact BQ hm hk hg (by rw[cO h5,hcl,List.length_mergeSort,hlen]) (oD _) q os
 cases h
 cases h
 cases h
 cases h
abbrev C1:={ v:Uy // v.oneCell'=true}
instance:Inhabited C1:=⟨⟨.slice none 0 0,rfl⟩⟩
def LQ{j:aS}{v v':Uy}(h:VR j v v')(hv:kM v=true):v'.oneCell'=true:=by
 have h1:=s8 h hv;cases v'<;>first|rfl|cases h1
def HE{j:aS}{cs cc:List Uy}(h:LR j cs cc)(ho:cs.all kM=true):∃l:List C1,l.map Subtype.val=cc:=by
 have h1:∀v∈cc,v.oneCell'=true:=fun v hv=>by
  obtain⟨i,hi⟩:=List.mem_iff_getElem?.1 hv;have hl:i<cs.length:=by rw[h.1]; exact(Sl.1 hi).1
  obtain⟨v',g1,g2⟩:=h.2 i cs[i] (R5 hl);rw[hi] at g1; cases g1;exact LQ g2 (Si.1 ho _ (SB hl))
 exact⟨cc.attach.map fun x=>⟨x.1,h1 x.1 x.2⟩,by rw[List.map_map]; exact List.attach_map_subtype_val cc⟩
def Ie{j:aS}{a a' b b':List Uy}(h:LR j a a')(g:LR j b b'):LR j (a++b) (a'++b'):=by
 refine⟨by rw[Sk,Sk,h.1,g.1],fun i v hi=>?_⟩
 by_cases hc:i<a.length
 rw[T8,R7 hc] at hi;rw[T8,R7 (by have:=h.1; omega)]
 exact h.2 i v hi
 rw[T8,R6 hc] at hi;rw[T8,R6 (by have:=h.1; omega),<-h.1]
 exact g.2 _ v hi
def IX{j:aS}{a a':List Uy}(h:LR j a a')(n:Nat):LR j (a.take n) (a'.take n):=by
 refine⟨by rw[Sm,Sm,h.1],fun i v hi=>?_⟩
 rw[Tf] at hi ⊢
 split at hi
 rename_i hc; rw[R7 hc]; exact h.2 i v hi
 cases hi
def J9{j:aS}{a a':List Uy}(h:LR j a a')(n:Nat):LR j (a.drop n) (a'.drop n):=by
 refine⟨by rw[SR,SR,h.1],fun i v hi=>?_⟩
 rw[Tg] at hi ⊢;exact h.2 _ v hi
def Nb{j:aS}{z z':Uy}(h:VR j z z')(n:Nat):LR j (List.replicate n z) (List.replicate n z'):=by
 refine⟨by simp,fun i v hi=>?_⟩
 rw[List.getElem?_replicate] at hi
 split at hi
 rename_i hc; cases hi;exact⟨z',by rw[List.getElem?_replicate,R7 hc],h⟩
 cases hi
def VR.OS{E:Env}{j:aS}{m:Vo}{w:UC}(hm:MR E j m w){b n:Nat}{cs:List Uy}{tg:Tag}(hg:m.get b=some (.cells cs tg))(htg:tg≠.ro)(hlim:lim n=true){v':Uy}(h:VR j (.slice (some ⟨b,0,none⟩) n n) v') :
  ∃k c',j b=some k/\v'=.slice (some ⟨k.c,0,none⟩) n c'/\(n<=c'/\c'<=9223372036854775807)/\∀x,x<=n->VR j (.slice (some ⟨b,0,none⟩) x n) (.slice (some ⟨k.c,0,none⟩) x c'):=by
 have hll:=oh hlim;cases h with
 | slice hj hmo=>exact⟨_,_,hj,rfl,⟨Sc _,by omega⟩,fun x _=>.slice hj hmo⟩
 | sliceM hj hmo a1 a2 a3 a4 =>
  rename_i c' sz na nc k;obtain⟨c0,e0,fz,g1,g2,g3⟩:=hm.fY hj hg;cases tg with
  | ro=>exact Ss rfl htg
  | own=>have:k.more=none:=g2.1; rw[hmo] at this; cases this
  | more sz' =>
   obtain⟨d1,d2,rfl,d4,d5⟩:k.more=some (sz',cs.length,c0.size)/\cs.length<=c0.size/\fz=(0,0)/\0<sz'/\iy sz' c0:=g2;rw[hmo] at d1;simp only[Option.some.injEq,Prod.mk.injEq] at d1;obtain⟨rfl,rfl,rfl⟩:=d1;refine⟨k,c',hj,rfl,⟨a4,?_⟩,fun x hx=>.sliceM hj hmo a1 a2 hx a4⟩;unfold iy at d5;rw[<-a2,Tn,Nat.mul_comm] at d5;exact Nat.le_of_mul_le_mul_left d5 d4
def tp{p q:Option Prim}{pr:Bool}{f:FuncId}{z:Uy}{ρ:Go.Shelf.Ren}(L:Go.Proofs.SlLaysE.n45 Tryz.prog ρ)(hf:ρ.f 45=f)(F:Func)(c:Code)(hF:Tryz.prog.funcs[f]? = some F)(hb:F.body=some c)(h0:z.oneCell'=true)(hzr:∀j,VR j z z)
  (v0:∀w,(Go.zeroValue (ρ.t 23)).run Tryz.prog w=.ok z w) (i0:TypeInfo) (h1:Tryz.prog.info? (ρ.t 23)=some i0) (h2:i0.size=1)
  {args:List Uy} {m m':Vo} {v:Uy} (h:jX z args m=some (v,m')) {j:aS} {w:UC} {args':List Uy} (hm:MR (Vr p q) j m w) (hl:LR j args args') :
  gI (Vr p q).P pr f args'.toArray w (ji (Vr p q) j m w v m'):=by
 unfold jX at h
 split at h
 rename_i b n n' i k
 split at h
 rename_i cs tg hcs;obtain⟨hg,htg,rfl,hcl,_⟩:=mJ hcs
 split at h
 rename_i hc; cases h;obtain⟨hi0',hik,hkn,hlim,hone⟩:=hc;obtain⟨v1,vs,rfl,h3,hvs⟩:=hl.cons_inv;obtain⟨v2,v3,rfl,h4,h5⟩:=hvs.cons_inv;obtain⟨v4,v5,rfl,h6,h7⟩:=h5.cons_inv;obtain rfl:=h7.dx;obtain⟨kb,c',hk,rfl,hcap,hres⟩:=VR.OS hm hg htg hlim h3;cases h4;cases h6;obtain⟨i,rfl⟩:=TY hi0';obtain⟨k,rfl⟩:=TY (show 0<=k by omega)
 simp only[Int.ofNat_le,Sv] at *;obtain⟨cc,hcc,hH⟩:=A7 hm hk hg htg;obtain⟨d,rfl⟩:=HE hcc hone;have hdl:d.length=n:=by have:=hcc.1; rw[Sz] at this; omega
 have eH:∀(w:UC) (l:List C1),Go.Sort.Holds id w kb.c 0 (l.map Subtype.val).toArray->Go.Sort.Holds (Subtype.val:C1->Uy) w kb.c 0 l.toArray:=by
  intro w l h i hi;have hi':i<l.length:=by simpa using hi
  have:=h i (by simpa using hi')
  simpa [hi'] using this
 have hcon:=Go.Proofs.AnyE.slices_Delete L (Subtype.val:C1->Uy) (fun x=>x.2) ⟨z,h0⟩ v0 i0 h1 h2 kb.c 0 c' i k d.toArray w (eH _ _ hH) (by simp[hdl]; exact hcap.1) hcap.2 hik (by simp[hdl]; exact hkn)
 rw[hf] at hcon;simp only[T0,hdl] at hcon;have hent:∀args w,(callFunc f args).run Tryz.prog w=.ok (.enter f args) w:=fun args w=>pD.call f F c hF hb args w;refine .inl ⟨hent _ _,callsIn_wide.2 ?_⟩;refine Calls.mono hcon ?_;rintro e w' ⟨rfl,q,rfl⟩;refine⟨_,rfl,j,?_,hres _ (Nat.sub_le _ _)⟩;have e0:Go.Sort.putRow (Subtype.val:C1->Uy) (Sort.ahead w q) kb.c 0 (d.take i++d.drop k++List.replicate (k-i) (⟨z,h0⟩:C1)).toArray=Go.Sort.putRow id (Sort.ahead w q) kb.c 0 ((d.map Subtype.val).take i++(d.map Subtype.val).drop k++List.replicate (k-i) z).toArray:=by
  have e2:∀l:List C1,Go.Sort.putRow (Subtype.val:C1->Uy) (Sort.ahead w q) kb.c 0 l.toArray=Go.Sort.putRow id (Sort.ahead w q) kb.c 0 (l.map Subtype.val).toArray:=fun l=>by
   unfold Go.Sort.putRow Go.Sort.putCells
   congr 1
   funext c
   congr 1
   funext x v
   simp only[T0,Sz,id]
   by_cases hx:0<=x/\x<0+l.length
   simp[show x<l.length by omega]
   rw[R6 hx,R6 hx]
  rw[e2];simp[List.map_take,List.map_drop]
 rw[e0,<-Sort.grow_empty (Go.Sort.putRow id _ _ _ _)];exact Fw hm hk hg (by simp; omega) (Ie (Ie (IX hcc _) (J9 hcc _)) (Nb (hzr j) _)) q #[]
 cases h
 cases h
 cases h
end Go.Proofs.YtmndpgfbkicndaaGreat
namespace Go.Proofs
open Go.Shelf
def Tryz.gq:Go.Shelf.Ren:=⟨fun|21=>102|27=>124|28=>125|35=>140|39=>99|n=>n,fun|22=>28|3=>3|4=>4|0=>0|n=>n,fun|n=>n⟩
def Tryz.G0:Go.Proofs.Lays2.n21 Tryz.prog Tryz.gq:={
 mixed:=by kernel_rfl
 f21:=Tryz.func102.trans (SK some (by kernel_rfl))
 f27:=Tryz.func124.trans (SK some (by kernel_rfl))
 f28:=Tryz.func125.trans (SK some (by kernel_rfl))
 f35:=Tryz.func140.trans (SK some (by kernel_rfl))
 f39:=Tryz.func99.trans (SK some (by kernel_rfl))
 t0:=Tryz.underlying0
 a0:=Tryz.isAgg0
 z0:=Tryz.sizeOf0
 v0:=Tryz.zeroValue0
 t3:=Tryz.underlying3
 a3:=Tryz.isAgg3
 z3:=Tryz.sizeOf3
 v3:=Tryz.zeroValue3
 t4:=Tryz.underlying4
 a4:=Tryz.isAgg4
 z4:=Tryz.sizeOf4
 v4:=Tryz.zeroValue4
 t22:=Tryz.underlying28
 a22:=Tryz.isAgg28
 z22:=Tryz.sizeOf28
 v22:=Tryz.zeroValue28
 i3:=by kernel_rfl}
end Go.Proofs
namespace Go.Proofs.YtmndpgfbkicndaaGreat
section
open Go Go.Ab Go.Ab.W
set_option maxRecDepth 10000
def zw{w:UC}{b o:Nat}{c:Array Uy}{e:Uz}{fz:Nat×Nat}{v:Uy}(h:w.heap[b]? = some (.cells c e fz)):w.setCell ⟨b,o,none⟩ v=w.putObj b (.cells (c.setIfInBounds o v) e fz):=by
 unfold World.setCell World.putObj
 congr 1
 apply Ul;intro i;rw[Array.getElem?_modify,TU]
 by_cases hb:b=i
 subst hb;rw[R7 rfl,R7 rfl,h];have:=(Sh.1 h).1;rw[R7 this]; rfl
 rw[R6 hb,R6 hb]
def ec(c:List Uy)(o:Nat)(v:Uy)(vs:List Uy)(ho:o+vs.length+1<=c.length):aG (c.set o v) (o+1) vs=aG c o (v::vs):=by
 apply S9;intro i;rw[aR,aR,Ud,SJ,List.getElem?_set]
 by_cases h1:i=o
 subst h1;rw[UF,R7 rfl,UG,UG,Uo]; rfl
 by_cases h2:o+1<=i/\i<o+1+vs.length/\i<c.length
 rw[R7 h2,UG,show i-o=(i-(o+1))+1 by omega]; rfl
 rw[R6 h2,UF,UF]
def fe:∀(vs:List Uy) (o:Nat) {w:UC} {b:Nat} {c:Array Uy} {e:Uz} {fz:Nat×Nat},w.heap[b]? = some (.cells c e fz)->o+vs.length<=c.size->w.setCells b o vs=w.putObj b (.cells (aG c.toList o vs).toArray e fz)
 | [],o,w,b,c,e,fz,h,_=>by
  have:aG c.toList o []=c.toList:=by
   apply S9;intro i;rw[aR,R6 (by simp; omega)]
  rw[this];exact(mh h).symm
 | v::vs,o,w,b,c,e,fz,h,hl=>by
  have hb:=(Sh.1 h).1;rw[SJ] at hl
  show(w.setCell ⟨b,o,none⟩ v).setCells b (o+1) vs=_
  rw[zw h,fe vs (o+1) (World.putObj_heap_same hb) (by simp; omega),jS]
  congr 3
  rw[Array.toList_setIfInBounds,ec];simp; omega
def Bg{c:List Uy}{cs:List Uy}{i:Nat}{v:Uy}(hc:∀(x:Nat) (u:Uy),cs[x]? = some u->c[x]? = some u)(hi:i<=cs.length)(hl:cs.length+1<=c.length) :
  ∀(x:Nat) (u:Uy),(cs.take i++v::cs.drop i)[x]? = some u->(aG (aG c (i+1) (cs.drop i)) i [v])[x]? = some u:=by
 intro x u hx;rw[aR,aR,bf];have hlt:(cs.take i).length=i:=by rw[Sm]; omega
 by_cases h1:x<i
 rw[SS (by omega),Tf,R7 h1] at hx
 rw[UF,UF]
 exact hc x u hx
 rw[SO (by omega),hlt] at hx
 by_cases h2:x=i
 subst h2;rw[Uo] at hx;rw[R7 (by simp; omega),Uo]; exact hx
 obtain⟨y,rfl⟩:∃y,x=i+1+y:=⟨x-(i+1),by omega⟩
 rw[show i+1+y-i=y+1 by omega,SH] at hx
 have hy:=(Sl.1 hx).1;rw[SR] at hy;rw[R6 (by simp; omega),R7 (by simp; omega),show i+1+y-(i+1)=y by omega]
 exact hx
def xV{w:UC}{need old:Nat}{e:Uz}(h:need<=1073741825):need<=grownCap w need old e/\grownCap w need old e<=9223372036854775807:=by
 unfold grownCap
 show need<=need+_%(2 ^ 63-need)/\need+_%(2 ^ 63-need)<=_
 have:=S6 (w.tape w.drawn (.appendCap need old e)) (show 0<2 ^ 63-need by omega)
 omega
def K5{ty:Uz}{w:UC}{A:Array Uy}{i m:Nat}{vs ds:List Uy}(h1:i+vs.length<=A.size)(h2:i+m+ds.length<=A.size) :
  ((((w.alloc (.cells A ty)).drew.setCells w.heap.size i vs).drew).setCells w.heap.size (i+m) ds)=w.drew.drew.alloc (.cells (aG (aG A.toList i vs) (i+m) ds).toArray ty):=by
 have hp:(w.alloc (.cells A ty)).heap[w.heap.size]? = some (.cells A ty (0,0)):=by unfold World.alloc; simp
 have hb:w.heap.size<(w.alloc (.cells A ty)).heap.size:=(Sh.1 hp).1;rw[fe (w:=(w.alloc (.cells A ty)).drew) vs i hp h1];have hp2:((w.alloc (.cells A ty)).drew.putObj w.heap.size (.cells (aG A.toList i vs).toArray ty (0,0))).drew.heap[w.heap.size]? = some (.cells (aG A.toList i vs).toArray ty (0,0)):=World.putObj_heap_same hb;rw[fe ds (i+m) hp2 (by simp[bf]; omega)]
 unfold World.alloc World.putObj World.drew;simp;apply Ul;intro x;rw[TU,TP,TP]
 by_cases hx:w.heap.size=x
 subst hx; simp
 rw[R6 hx]; simp[show ¬x=w.heap.size from fun h=>hx h.symm]
def VR.Br{E:Env}{j:aS}{m:Vo}{w:UC}(hm:MR E j m w){b n:Nat}{cs:List Uy}{tg:Tag}(hg:m.get b=some (.cells cs tg))(htg:tg=.own\/tg=.more 1)(hcl:cs.length=n)(hlim:lim n=true)(hp:cs.all aU=true){v':Uy}(h:VR j (.slice (some ⟨b,0,none⟩) n n) v') :
  ∃k c' c e,j b=some k/\v'=.slice (some ⟨k.c,0,none⟩) n c'/\w.heap[k.c]? = some (.cells c e (0,0))/\c.size=c'/\n<=c'/\c'<=9223372036854775807/\∀(x:Nat) (u:Uy),cs[x]? = some u->c.toList[x]? = some u:=by
 have hll:=oh hlim;have key:∀{c:Array Uy},(∀(i:Nat) (v:Uy),cs[i]? = some v->∃v',c[i]? = some v'/\VR j v v')->∀(x:Nat) (u:Uy),cs[x]? = some u->c.toList[x]? = some u:=fun g x u hx=>by
  obtain⟨u',g1,g2⟩:=g x u hx;have:=fV (Si.1 hp u (Sf hx)) g2;subst this
  simpa using g1
 cases h with
 | slice hj hmo =>
  rename_i k;obtain⟨c,e,fz,g1,g2,g3⟩:=hm.fY hj hg;rcases htg with rfl|rfl
  obtain⟨_,d2,rfl⟩:k.more=none/\c.size=cs.length/\fz=(0,0):=g2;exact⟨k,n,c,e,hj,rfl,g1,by omega,Sc _,by omega,key g3⟩
  have:k.more=some (1,cs.length,c.size):=g2.1;rw[hmo] at this; cases this
 | sliceM hj hmo a1 a2 a3 a4 =>
  rename_i c' sz na nc k;obtain⟨c,e,fz,g1,g2,g3⟩:=hm.fY hj hg;rcases htg with rfl|rfl
  have:k.more=none:=g2.1;rw[hmo] at this; cases this
  obtain⟨d1,d2,rfl,d4,d5⟩:k.more=some (1,cs.length,c.size)/\cs.length<=c.size/\fz=(0,0)/\0<1/\iy 1 c:=g2;rw[hmo] at d1;simp only[Option.some.injEq,Prod.mk.injEq] at d1;obtain⟨rfl,rfl,rfl⟩:=d1;unfold iy at d5;exact⟨k,c',c,e,hj,rfl,g1,by omega,a4,by omega,key g3⟩
def rC(n:Nat):(Builtin.zeroCells (Value.int .i64 0).cells n)=(bp [.int .i64 0] n).toArray:=by
 rw[show(bp [Value.int .i64 0] n)=bp (Value.int .i64 0).cells.toList n from rfl,<-j8 (zero:=(Value.int .i64 0).cells)]; rfl
def Bp{p q:Option Prim}{pr:Bool}{args:List Uy}{m m':Vo}{v:Uy}(h:kW args m=some (v,m')){j:aS}{w:UC}{args':List Uy}(hm:MR (Vr p q) j m w)(hl:LR j args args') :
  gI (Vr p q).P pr 102 args'.toArray w (ji (Vr p q) j m w v m'):=by
 have hent:∀args w,(callFunc 102 args).run Tryz.prog w=.ok (.enter 102 args) w:=fun args w=>pD.call 102 _ _ Tryz.func102 rfl args w;unfold kW at h
 split at h
 rename_i vb
 split at h
 rename_i v0 h0;cases h;obtain⟨v1,vs,rfl,h1,hvs⟩:=hl.cons_inv;obtain⟨v2,v3,rfl,h2,h3⟩:=hvs.cons_inv;obtain⟨v4,v5,rfl,h4,h5⟩:=h3.cons_inv;obtain rfl:=h5.dx;cases h1; cases h2;obtain⟨kv,c0,cv,ev,hkv,rfl,gv,hv3',h8,h9,h6⟩:=VR.Br hm h0 (.inl rfl) rfl rfl rfl h4;have hcv:∀(x:Nat) (u:Uy),[Value.int .i64 v0][x]? = some u->w.cell? ⟨kv.c,0+x,none⟩=some u:=fun x u hx=>by
  have:=h6 x u hx;simp only[World.cell?,gv,SD]
  simpa using this
 have hcon:=Go.Proofs.Any2.slices_Insert_int_end_grow Tryz.G0 none 0 0 kv.c 0 1 c0 [] [.int .i64 v0] w (by decide) (by decide) (by decide) (by decide) rfl rfl (fun _=>rfl) (fun a h=>by cases h) hcv (fun v hv=>by rw[Sp.1 hv]; rfl)
 change Calls Tryz.prog 102 _ _ _ at hcon
 refine .inl ⟨hent _ _,callsIn_wide.2 ?_⟩;refine Calls.mono hcon ?_;rintro e w' ⟨rfl,rfl⟩;obtain⟨g0,g1⟩:=xV (w:=w) (need:=0+1) (old:=0) (e:=Tryz.gq.t 3) (by decide)
 generalize grownCap w (0+1) 0 (Tryz.gq.t 3)=cap at g0 g1 ⊢;obtain⟨j',s1,s2⟩:=fT hm (w0:=w.drew) ⟨rfl,rfl,rfl,rfl,Nat.le_succ _⟩ (cs:=[.int .i64 v0]) (cs':=[.int .i64 v0]) (rest:=bp [.int .i64 0] (cap-(0+1))) (elem:=Tryz.gq.t 3) (sz:=1) (n:=1) (cap:=cap) (.cons (.int _ _) (.nil _)) rfl (by simp[bP]; omega) g0 (by decide) (eB (by decide) _) g1
 refine⟨_,rfl,j',?_,s2⟩;rw[rC];have:(([]:List Uy)++[Value.int .i64 v0]).toArray++(bp [Value.int .i64 0] (cap-(0+1))).toArray=([Value.int .i64 v0]++bp [Value.int .i64 0] (cap-(0+1))).toArray:=by simp
 rw[this];exact s1
 cases h
 rename_i b n n' i vb
 split at h
 rename_i v0 cs tg h0 hcs;obtain⟨hg,htg,rfl,hcl,h10⟩:=mJ hcs;rw[Nat.mul_one] at hcl
 split at h
 rename_i hc;cases h;obtain⟨hne,h11,hin,hlim,hpl⟩:=hc;obtain⟨v1,vs,rfl,h1,hvs⟩:=hl.cons_inv;obtain⟨v2,v3,rfl,h2,h3⟩:=hvs.cons_inv;obtain⟨v4,v5,rfl,h4,h5⟩:=h3.cons_inv;obtain rfl:=h5.dx;cases h2;obtain⟨i,rfl⟩:=TY h11;simp only[Int.ofNat_le,Sv] at *;obtain⟨kv,c0,cv,ev,hkv,rfl,gv,hv3',h8,h9,h6⟩:=VR.Br hm h0 (.inl rfl) rfl rfl rfl h4;obtain⟨kb,c',c,e,hk,rfl,gb,hsz,hnc,h7,hcc⟩:=VR.Br hm hg h10 hcl hlim hpl h1;have hll:=oh hlim;have hcell:∀{k:Blk} {c:Array Uy} {e:Uz},w.heap[k.c]? = some (.cells c e (0,0))->∀x,w.cell? ⟨k.c,x,none⟩=c[x]?:=fun h x=>by simp[World.cell?,h]
 have hfrz:∀{k:Blk} {c:Array Uy} {e:Uz},w.heap[k.c]? = some (.cells c e (0,0))->∀x,w.frozen? ⟨k.c,x,none⟩=false:=fun h x=>by simp[World.frozen?,h]
 have hvb:kv.c≠kb.c:=fun hcc=>hne (hm.inj vb b kv kb hkv hk (by rw[h0]; rfl) (by rw[hg]; rfl) hcc)
 have hcv:∀(x:Nat) (u:Uy),[Value.int .i64 v0][x]? = some u->w.cell? ⟨kv.c,0+x,none⟩=some u:=fun x u hx=>by
  have:=h6 x u hx;rw[hcell gv,SD]
  simpa using this
 have hcb:∀(x:Nat) (u:Uy),cs[x]? = some u->w.cell? ⟨kb.c,0+x,none⟩=some u:=fun x u hx=>by
  have:=hcc x u hx;rw[hcell gb,SD]
  simpa using this
 have h1v:∀u∈[Value.int .i64 v0],u.oneCell'=true:=fun u hu=>by rw[Sp.1 hu]; rfl
 have h1c:∀u∈cs,u.oneCell'=true:=fun u hu=>by
  have:=Si.1 hpl u hu;cases u<;>first|rfl|cases this
 have hsp:∀x,x<c'->(w.cell? ⟨kb.c,0+x,none⟩).isSome=true:=fun x hx=>by
  rw[hcell gb,SD,TN (by omega)]; rfl
 have hbv:(w.heap[kb.c]?).isSome=true:=by rw[gb]; rfl
 have hnew:(cs.take i++Value.int .i64 v0::cs.drop i).length=n+1:=by simp; omega
 have hpn:(cs.take i++Value.int .i64 v0::cs.drop i).all aU=true:=Si.2 fun u hu=>by
  rcases Su.1 hu with hu|hu
  exact Si.1 hpl u (TG hu)
  rcases Sx.1 hu with rfl|hu
  rfl
  exact Si.1 hpl u (TH hu)
 by_cases hroom:n+1<=c'
 
 have hor:OR j ⟨kb.c,some (1,n+1,c')⟩ (.cells (cs.take i++Value.int .i64 v0::cs.drop i) (.more 1)) (.cells (aG (aG c.toList (i+1) (cs.drop i)) i [.int .i64 v0]).toArray e (0,0)):=by
  refine⟨⟨by rw[hnew]; simp[bf,hsz],by rw[hnew]; simp[bf]; omega,rfl,by decide,by unfold iy; simp[bf]; omega⟩,fun x u hx=>?_⟩
  have:=Bg (v:=.int .i64 v0) hcc (by omega:i<=cs.length) (by simp; omega) x u hx
  exact⟨u,by simpa using this,.aU (Si.1 hpn u (Sf hx))⟩
 have fin:∀w0:UC,w0.heap=w.heap->Go.Ab.Calm w w0->ji (Vr p q) j m w (.slice (some ⟨m.next,0,none⟩) (n+1) (n+1)) ((m.kill b).alloc (.cells (cs.take i++Value.int .i64 v0::cs.drop i) (.more 1)))
   (.slice (some ⟨kb.c,0,none⟩) (n+1) c') (w0.putObj kb.c (.cells (aG (aG c.toList (i+1) (cs.drop i)) i [.int .i64 v0]).toArray e (0,0))):=fun w0 e0 c1=>by
  have s0:Sim (Vr p q) j m w j m w0:=Sim.of_heap hm e0 c1;have s1:=sV s0.mr hk (by rw[hg]; rfl) hor
  exact⟨_,s0.trans hm s1,.sliceM (k:=⟨kb.c,some (1,n+1,c')⟩) (aS.cB _ _ _) rfl (by omega) (by omega) (Sc _) hroom⟩
 by_cases hlt:i<n
 have hcon:=Go.Proofs.Any2.slices_Insert_int_shift Tryz.G0 kb.c 0 n c' i kv.c 0 1 c0 cs [.int .i64 v0] w hlt (by decide) hroom h7 hvb hcl rfl hcb (fun x hx=>hsp x (by omega)) (fun x _=>hfrz gb _) hcv h1c h1v ev e cv.size c.size
  (by simp[World.shape?,gv]) (by simp[World.shape?,gb]) (by omega) (hfrz gv _) (hfrz gv _)
 change Calls Tryz.prog 102 _ _ _ at hcon
 refine .inl ⟨hent _ _,callsIn_wide.2 ?_⟩;refine Calls.mono hcon ?_;rintro e' w' ⟨rfl,rfl⟩;refine⟨_,rfl,?_⟩;rw[SD,SD,fe (w:=w.drew) (cs.drop i) (i+1) gb (by simp; omega),fe [.int .i64 v0] i (World.putObj_heap_same (w:=w.drew) (Sh.1 gb).1) (by simp[bf]; omega),jS]
 exact fin w.drew rfl ⟨rfl,rfl,rfl,Nat.le_succ _⟩
 obtain rfl:i=n:=by omega
 have hcon:=Go.Proofs.Any2.slices_Insert_int_end_room Tryz.G0 kb.c 0 i c' kv.c 0 1 c0 [.int .i64 v0] w (by decide) hroom h7 rfl (fun x hx=>by rw[Nat.add_assoc]; exact hsp (i+x) (by omega)) (fun x _=>hfrz gb _) hcv h1v
 change Calls Tryz.prog 102 _ _ _ at hcon
 refine .inl ⟨hent _ _,callsIn_wide.2 ?_⟩;refine Calls.mono hcon ?_;rintro e' w' ⟨rfl,rfl⟩;refine⟨_,rfl,?_⟩;have hd:aG c.toList (i+1) (cs.drop i)=c.toList:=by
  rw[List.drop_of_length_le (by omega)]
  apply S9;intro x;rw[aR,R6 (by simp; omega)]
 rw[SD,fe [.int .i64 v0] i gb (by simp; omega)]
 have:=fin w rfl ⟨rfl,rfl,rfl,Sc _⟩;rw[hd] at this;exact this
 
 have hc':c'=n:=by omega
 subst hc';have sk:=y5 hm hk;have fin:∀(w0:UC) (cap:Nat) (rest:List Uy),w0.heap=w.heap->Go.Ab.Calm w w0->c'+1<=cap->cap<=9223372036854775807->rest.all aU=true->c'+1+rest.length=cap->ji (Vr p q) j m w (.slice (some ⟨m.next,0,none⟩) (c'+1) (c'+1)) ((m.kill b).alloc (.cells (cs.take i++Value.int .i64 v0::cs.drop i) (.more 1)))
   (.slice (some ⟨w.heap.size,0,none⟩) (c'+1) cap) (w0.alloc (.cells ((cs.take i++Value.int .i64 v0::cs.drop i)++rest).toArray (Tryz.gq.t 3))):=fun w0 cap rest e0 c1 g0 g1 g2 g3=>by
  obtain⟨j',s1,s2⟩:=fT sk.mr (w0:=w0) ⟨e0,c1⟩ (cs:=cs.take i++Value.int .i64 v0::cs.drop i) (cs':=cs.take i++Value.int .i64 v0::cs.drop i) (rest:=rest) (elem:=Tryz.gq.t 3) (sz:=1) (n:=c'+1) (cap:=cap) (LR.plain hpn) (by rw[hnew,Nat.mul_one]) (by rw[Sk,hnew]; omega) g0 (by decide) g2 g1
  have e3:(m.kill b).next=m.next:=Vo.next_kill _ _
  rw[e3] at s2;exact⟨j',sk.trans hm s1,s2⟩
 obtain⟨g0,g1⟩:=xV (w:=w) (need:=c'+1) (old:=c') (e:=Tryz.gq.t 3) (by omega)
 by_cases hlt:i<c'
 have hcon:=Go.Proofs.Any2.slices_Insert_int_grow Tryz.G0 kb.c 0 c' c' i kv.c 0 1 c0 cs [.int .i64 v0] w hlt (by decide) (Sc _) (by omega) (by omega) hcl rfl hcb hcv h1c h1v
 change Calls Tryz.prog 102 _ _ _ at hcon
 refine .inl ⟨hent _ _,callsIn_wide.2 ?_⟩;refine Calls.mono hcon ?_;rintro e' w' ⟨rfl,rfl⟩;generalize grownCap w (c'+1) c' (Tryz.gq.t 3)=cap at g0 g1 ⊢;refine⟨_,rfl,?_⟩;rw[rC,rC];obtain⟨A,hA⟩:∃A:Array Uy,A=(cs.take i).toArray++(bp [Value.int .i64 0] (c'+1-i)).toArray++(bp [Value.int .i64 0] (cap-(c'+1))).toArray:=⟨_,rfl⟩;have hAl:A.toList=cs.take i++(bp [Value.int .i64 0] (c'+1-i)++bp [Value.int .i64 0] (cap-(c'+1))):=by rw[hA]; simp
 have hAs:A.size=cap:=by rw[<-TO,hAl]; simp[bP]; omega
 rw[<-hA,K5 (A:=A) (i:=i) (m:=1) (vs:=[.int .i64 v0]) (ds:=cs.drop i) (by simp; omega) (by simp; omega)]
 have:=fin w.drew.drew cap (bp [.int .i64 0] (cap-(c'+1))) rfl ⟨rfl,rfl,rfl,by show w.drawn<=w.drawn+1+1; omega⟩ g0 g1 (eB (by decide) _) (by simp[bP]; omega)
 have e1:aG (aG A.toList i [Value.int .i64 v0]) (i+1) (cs.drop i)=(cs.take i++Value.int .i64 v0::cs.drop i)++bp [Value.int .i64 0] (cap-(c'+1)):=by
  apply S9;intro x;have hti:(cs.take i).length=i:=by rw[Sm]; omega
  rw[aR,aR,bf];have hAL:A.toList.length=cap:=by rw[TO,hAs]
  by_cases h13:x<i
  rw[UF,UF,hAl,SS (by omega),SZ,SS (by omega)]
  by_cases h12:x=i
  subst h12;rw[UF,R7 (by simp; omega),SZ,SO (by omega),hti,Uo]; rfl
  by_cases h14:x<c'+1
  rw[R7 (by simp; omega),SZ,SO (by omega),hti,show x-i=(x-(i+1))+1 by omega,Uj,SH,SS (by simp; omega)]
  rw[R6 (by simp; omega),R6 (by simp; omega),hAl,SO (by omega),hti,SO (by rw[bP]; simp; omega),SO (by omega),bP,hnew]
  congr 1
  simp; omega
 rw[e1]; exact this
 obtain rfl:i=c':=by omega
 have hcon:=Go.Proofs.Any2.slices_Insert_int_end_grow Tryz.G0 (some ⟨kb.c,0,none⟩) i i kv.c 0 1 c0 cs [.int .i64 v0] w (by decide) (Sc _) (by omega) (by omega) hcl rfl (fun h=>by cases h) (fun a ha x u hx=>by cases ha; rw[Addr.add_lit]; exact hcb x u hx) hcv h1v
 change Calls Tryz.prog 102 _ _ _ at hcon
 refine .inl ⟨hent _ _,callsIn_wide.2 ?_⟩;refine Calls.mono hcon ?_;rintro e' w' ⟨rfl,rfl⟩;generalize grownCap w (i+1) i (Tryz.gq.t 3)=cap at g0 g1 ⊢;refine⟨_,rfl,?_⟩;rw[rC];have:=fin w.drew cap (bp [.int .i64 0] (cap-(i+1))) rfl ⟨rfl,rfl,rfl,Nat.le_succ _⟩ g0 g1 (eB (by decide) _) (by simp[bP]; omega)
 have e1:(cs++[Value.int .i64 v0]).toArray++(bp [Value.int .i64 0] (cap-(i+1))).toArray=((cs.take i++Value.int .i64 v0::cs.drop i)++bp [Value.int .i64 0] (cap-(i+1))).toArray:=by
  rw[TB (by omega),List.drop_of_length_le (by omega)]; simp
 rw[e1]; exact this
 cases h
 cases h
 cases h
end
section
open Go Go.Ab Go.Ab.W
def CO{t:Uz}(h:(Tryz.prog.info? t).map (·.size)=some 1):∃i,Tryz.prog.info? t=some i/\i.size=1:=by
 cases e:Tryz.prog.info? t with
 | none=>rw[e] at h; cases h
 | some i=>rw[e] at h; exact⟨i,rfl,R9 h⟩
def sN:EnvOk (Vr none none):=yq Ai fun f P hp args m v m' h j w args' hm hl=>by
 have hp0:(Vr none none).cZ f=Kl f:=by
  show(if f=65 then none else if f=38 then none else Kl f)=_
  split
  rename_i e; subst e; rfl
  split
  rename_i e; subst e; rfl
  rfl
 rw[hp0] at hp;unfold Kl at hp
 split at hp
 rename_i e; subst e; cases hp;exact zM h hm hl
 split at hp
 rename_i e; subst e; cases hp;obtain⟨i0,hi0,hs⟩:=CO (t:=28) (by kernel_rfl)
 exact tp Tryz.Q8 rfl _ _ Tryz.func115 rfl rfl (fun j=>.snil 0 0) Tryz.zeroValue28 i0 hi0 hs h hm hl
 split at hp
 rename_i e; subst e; cases hp;obtain⟨i0,hi0,hs⟩:=CO (t:=3) (by kernel_rfl)
 exact tp Tryz.Q6 rfl _ _ Tryz.func101 rfl rfl (fun j=>.int _ _) Tryz.zeroValue3 i0 hi0 hs h hm hl
 split at hp
 rename_i e; subst e; cases hp;exact Bp h hm hl
 cases hp
end
end Go.Proofs.YtmndpgfbkicndaaGreat
namespace Go.Ab.W
open Go Go.Ab
section
variable{E:Env}{n:Nat}{m0 m:Vo}{fs fs':Fs}{ps ps':List Pc}{ops:Array Oper}{os:List Oper}{K:Tm->Vo->Prop}{dr:Bool}{fn:FuncId}{ro:Option Nat}{c:Code}{Q:Vp->Tm->Vo->Prop}
variable{ty oty:Uz}{p:String}{af:Array Edge}{d:Nat}{g:Option (Nat×Bool)}{x:UA}{v:Uy}
def lw{σ ρ γ:Type}{δ:ρ->Type}{body:σ->Option (σ⊕ρ)}{X:(r:ρ)->δ r->En}{N:Nat}{s:σ}{r:ρ}(h:bh body N s=some r)(g:γ)(I:σ->γ->En)(T:aa m0 ps (I s g).ps)
  (hb:∀s g r,body s=some r->Wk E n fn ro c (match r with|.inl s'=>mj m0 (I s')|.inr r=>mj m0 (X r)) m0 (I s g).fs (I s g).ps)
  (hs:sub fs (I s g).fs:=by repeat first|exact sn|refine sc rfl ?_)
  (hn:∀s g,(I s g).e=.normal:=by exact fun _ _=>rfl) (hx:∀r g,(X r g).e≠.normal:=by intro r d; first |(intro e; cases e; done) |(rcases r with r|r<;>first |(intro e; cases e; done) |(rcases r with r|r<;>first |(intro e; cases e; done) |(rcases r with r|r<;>intro e<;>cases e)))):Wk E n fn ro (.loop c) (mj m0 (ap X r)) m0 fs ps:=.G7 hs T (Wk.loop body I X hb hn hx N s r h g)
def aT{γ:Type}{G:γ->En}{e:Vp}(g:γ)(T:aa m0 ps (G g).ps)(he:e=(G g).e:=by rfl)(hs:sub fs (G g).fs:=by repeat first|exact sn|refine sc rfl ?_):At (mj m0 G) e m0 fs ps:=At.en g he hs T
def aO:List Pc->List Pc->Option (List Pc)
 | [],ps=>some ps
 | p::l,ps=>match aO l ps with
  | some q=>some (p::q)
  | none=>none
def Ll:∀{l ps q:List Pc},aO l ps=some q->q=l++ps
 | [],ps,q,h=>by cases h; rfl
 | p::l,ps,q,h=>by
  unfold aO at h
  split at h
  rename_i q' e; cases h; rw[Ll e]; rfl
  cases h
def Ey{α:Type}{r:Rep α}{ag:Bool}{sz b o w j c q off:Nat}{R:Ux}{L:List α}{es:Uv}{z:α}{V:r.G->Uy}{N:r.G->List Pc}(ht:TyI E.P ty ag sz)(hx:ev E fs x=some (ptr b off))(ho:off=o+j*w+c)(hli:∀m,Hp m0 m ps->qd m b o w es)(hq:pk ps q=some (.gen (bT r R L es)))(hl:L[j]? = some z)(hv:∀g,xN ag sz (r.V z g) c=some (V g))(hs:xH ag sz c w=true)(hN:∀g,aO (r.N z g R) ps=some (N g)):Ox E m0 fs ps (.load ty x) V N :=
 P5 ht hx ho hli hq hl hv hs fun g=>Ll (hN g)
def wl{α:Type}{r:Rep α}{ag:Bool}{sz b o j l off:Nat}{R:Ux}{L:List α}{es:Uv}{z:α}{V:r.G->Uy}{N:r.G->List Pc}(w c q k:Nat)(hl:L[j]? = some z)(kk:∀g,Wo dr E n ops K os m0 ((d,V g)::fs) (N g))(ht:TyI E.P oty ag sz:=by exact TyC.t)(hx:ev E fs x=some (ptr b off):=by rfl)(hp:pk ps k=some (.ro b o w l es):=by rfl)(ho:off=o+j*w+c:=by rfl)(hq:pk ps q=some (.gen (bT r R L es)):=by rfl)(hv:∀g,xN ag sz (r.V z g) c=some (V g):=by exact fun _=>rfl)(hs:xH ag sz c w=true:=by rfl)(hN:∀g,aO (r.N z g R) ps=some (N g):=by exact fun _=>rfl)(hd:Nat.blt d n=true:=by rfl):Wo dr E n ops K (⟨some d,.load oty x,ty,p,af,none⟩::os) m0 fs ps:=UX (Ey ht hx ho (ln hp) hq hl hv hs hN) gn hd kk
variable{α:Type}{V:α->Uy}{N:α->List Pc}{R S:α->Pc}{f:UA}{q:FuncId}{ars:Array UA}{ts:Array Uz}{args:List Uy}{prs:List (Nat×Nat)}{ss:List Nk}
def vN(hg:uK ops fs g true)(hc:∀m,Hp m0 m ps->aC E q args m (fun v m'=>∃x,v=V x/\Hp m m' [R x,S x,.gen (rY (ly ps))]))(k:∀x,Wo dr E n ops K os m0 ((d,V x)::fs) (R x::S x::ps))(hf:ev E fs f=some (.func (.func q) #[] #[]):=by rfl)(ha:gw E fs ars.toList=some args:=by rfl)(ho:∀x,pg [R x,S x]=true:=by exact fun _=>rfl)(hd:Nat.blt d n=true:=by rfl):Wo dr E n ops K (⟨some d,.call ⟨.value f,ars,ts⟩,ty,p,af,g⟩::os) m0 fs ps:=UX (CK (N:=fun x=>[R x,S x]) hf ha hc ho) hg hd k
def Rx(hg:uK ops fs g true)(hc:∀m,Hp m0 m ps->aC E q args m (fun v m'=>∃x,v=V x/\Hp m m' [R x,S x,.gen (rY (ly ps))]))(k:∀x,Wn E n ops prs K os (.call::ss) m0 ((d,V x)::fs) (R x::S x::ps))(hf:ev E fs f=some (.func (.func q) #[] #[]):=by rfl)(ha:gw E fs ars.toList=some args:=by rfl)(ho:∀x,pg [R x,S x]=true:=by exact fun _=>rfl)(hd:Nat.blt d n=true:=by rfl):Wn E n ops prs K (⟨some d,.call ⟨.value f,ars,ts⟩,ty,p,af,g⟩::os) ss m0 fs ps:=Wn.c (Lp (N:=fun x=>[R x,S x]) hf ha hc ho) hg hd k
def wq{ρ γ:Type}{first cap:Array Uy}(F:ρ->γ->Uy×List Pc)(r:ρ)(hc:∀m,Hp m0 m ps->aC E q (first.toList++args++cap.toList) m (fun v m'=>∃x,v=(F r x).1/\Hp m0 m' (F r x).2))(k:∀x,Wo dr E n ops K os m0 ((d,(F r x).1)::fs) (F r x).2)(hf:ev E fs f=some (.func (.func q) first cap):=by rfl)(ha:gw E fs ars.toList=some args:=by rfl)(hd:Nat.blt d n=true:=by rfl):Wo dr E n ops K (⟨some d,.call ⟨.value f,ars,ts⟩,ty,p,af,none⟩::os) m0 fs ps:=UX (lN hf ha hc) gn hd k
end
end Go.Ab.W
namespace Go.Proofs.YtmndpgfbkicndaaGreat
open Go Go.Ab Go.Ab.W
set_option maxRecDepth 10000
set_option maxHeartbeats 4000000
attribute [local irreducible] Wo Wk At Wn Od Ox bo cb
attribute [local irreducible] Tm.at Trie.set Trie.get Vo.get Vo.set Vo.alloc Vo.ww Vo.kill
variable{p q:Option Prim}
abbrev gr(z0)(z1)(z2):=Pc.rd z0 z1 2 (List.length z2) (List.map (eP (eI .i64) (eI .i64)) z2)
abbrev iH{γ0:Type}(z0:Rep γ0)(z1)(z2:List γ0)(z3):=Pc.gen (bT z0 z1 z2 z3)
abbrev EB(z0)(z1){β2:Type}(z2:List β2)(z3)(z4){β5:Type}(z5:List β5)(z6):=Pc.obj z0 (.cells [.slice z1 (List.length z2) z3,.slice z4 (List.length z5) z6] .own)
abbrev Ou(z0)(z1){β2:Type}(z2:List β2)(z3)(z4)(z5){β6:Type}(z6:List β6)(z7):=Pc.obj z0 (.cells [.slice z1 (List.length z2) z3,.slice (some ⟨z4,z5,none⟩) (List.length z6) z7] .own)
abbrev dg(z0):=Pc.obj z0 (.cells [.int .i64 0] .own)
abbrev aL(z0):=Value.int .i64 z0
abbrev bU(z0){β1:Type}(z1:List β1):=Value.slice z0 (List.length z1) (List.length z1)
abbrev Ry(z0)(z1)(z2){β3:Type}(z3:List β3)(z4):=Pc.rd (some ⟨z0,z1,none⟩) z2 2 (List.length z3) z4
abbrev lj(z0)(z1):=Pc.sl z0 4 (List.length z1) (List.map (eP (eI .i64) (eP (eI .i64) (eP (eI .i64) (eI .i64)))) z1)
abbrev sd(z0)(z1){β2:Type}(z2:List β2)(z3):=Pc.rd z0 z1 2 (List.length z2) z3
abbrev de(z0)(z1):=Pc.sl z0 2 (List.length z1) (List.map (eP (eI .i64) (eI .i64)) z1)
abbrev fO(z0)(z1)(z2){β3:Type}(z3:List β3)(z4):=Pc.obj z0 (.cells [.slice (some ⟨z1,z2,none⟩) (List.length z3) z4] .own)
abbrev bl(z0){β1:Type}(z1:List β1)(z2):=Value.slice z0 (List.length z1) z2
abbrev dA(m)(z0)(z1)(z2):=Rd m z0 z1 2 (List.length z2) (List.map (eP (eI .i64) (eI .i64)) z2)
abbrev cS(z0)(z1)(z2):=Pc.obj z0 (.cells [.int .i64 z1,.int .i64 z2] .own)
abbrev sK(z0)(z1){β2:Type}(z2:List β2)(z3){β4:Type}(z4:List β4):=Pc.obj z0 (.cells [.slice z1 (List.length z2) (List.length z2),.slice z3 (List.length z4) (List.length z4)] .own)
abbrev eh{β0:Type}(z0:List β0):=Value.int .i64 ((List.length z0):Int)
abbrev fG(z0)(z1)(z2)(z3)(z4):=Pc.obj z0 (.cells [.int .i64 z1,.int .i64 z2,.int .i64 z3,.int .i64 z4] .own)
abbrev gN(z0)(z1)(z2)(z3)(z4)(z5):=Pc.obj z0 (.cells [.int .i64 z1,.int .i64 z2,.int .i64 z3,.int .i64 z4,.int .i64 z5] .own)
abbrev Qh(z0)(z1){β2:Type}(z2:List β2)(z3):=Pc.ro z0 z1 2 (List.length z2) z3
abbrev dZ(z0){β1:Type}(z1:List β1)(z2)(z3){β4:Type}(z4:List β4)(z5):=Value.agg #[.slice z0 (List.length z1) z2,.slice z3 (List.length z4) z5]
abbrev fB(z0){β1:Type}(z1:List β1):=Pc.obj z0 (.cells [.int .i64 ((List.length z1):Int)] .own)
abbrev QZ(z0)(z1)(z2){β3:Type}(z3:List β3)(z4):=Pc.rd (some ⟨z0,z1,none⟩) z2 1 (List.length z3) z4
abbrev Dg(z0)(z1)(z2)(z3):=Pc.rd (some ⟨z0,z1,none⟩) z2 2 (List.length z3) (List.map (eP (eI .i64) (eI .i64)) z3)
abbrev j5(z0)(z1){β2:Type}(z2:List β2)(z3){β4:Type}(z4:List β4):=Pc.obj z0 (.cells [.slice z1 (List.length z2) (List.length z2),.slice (some ⟨z3,0,none⟩) (List.length z4) (List.length z4)] .own)
abbrev nL(z0)(z1){β2:Type}(z2:List β2)(z3):=Value.slice (some ⟨z0,z1,none⟩) (List.length z2) z3
abbrev QC(z0)(z1)(z2)(z3):=Pc.rd (some ⟨z0,z1,none⟩) z2 1 (List.length z3) (List.map (eI .i64) z3)
abbrev cJ(z0):=Value.slice (some ⟨z0,0,none⟩) 4 4
abbrev ja(z0):=Pc.obj z0 (.cells [.slice none 0 0,.slice none 0 0] .own)
abbrev D5(z0)(z1)(z2):=Pc.ro z0 z1 2 (List.length z2) (List.map (eP (eI .i64) (eI .i64)) z2)
abbrev eJ(z0)(z1):=Pc.obj z0 (.cells [.map (some z1)] .own)
abbrev uj(z0)(z1){β2:Type}(z2:List β2)(z3):=Pc.obj z0 (.cells [.slice z1 (List.length z2) z3] .own)
abbrev QF(z0)(z1)(z2)(z3){β4:Type}(z4:List β4)(z5)(z6){β7:Type}(z7:List β7)(z8)(z9):=Pc.obj z0 (.cells [.int .u8 ((z1:Nat):Int),.int .u8 ((z2:Nat):Int),.slice z3 (List.length z4) z5,.slice z6 (List.length z7) z8,.bool z9] .own)
abbrev eZ(z0)(z1):=Pc.obj z0 (.cells [.int .i64 z1] .own)
abbrev Qy(z0)(z1)(z2):=Pc.ro z0 z1 1 (List.length z2) (List.map (eI .i64) z2)
abbrev QU(z0)(z1){β2:Type}(z2:List β2)(z3):=Pc.ro z0 z1 1 (List.length z2) z3
abbrev eU(z0)(z1):=Value.agg #[.int .i64 z0,.int .i64 z1]
abbrev zI(z0)(z1)(z2)(z3)(z4)(z5)(z6):=Pc.obj z0 (.cells [.int .u8 ((z1:Nat):Int),.int .u8 ((z2:Nat):Int),.int .u8 ((z3:Nat):Int),.int .i64 z4,.int .i64 z5,.int .i64 z6] .own)
abbrev AK(z0){β1:Type}(z1:List β1)(z2)(z3){β4:Type}(z4:List β4)(z5)(z6){β7:Type}(z7:List β7)(z8)(z9){β10:Type}(z10:List β10)(z11)(z12){β13:Type}(z13:List β13)(z14)(z15){β16:Type}(z16:List β16)(z17):=Value.agg #[.slice z0 (List.length z1) z2,.slice z3 (List.length z4) z5,.slice z6 (List.length z7) z8,.slice z9 (List.length z10) z11,.slice z12 (List.length z13) z14,.slice z15 (List.length z16) z17]
abbrev qX(z0)(z1)(z2):=Pc.arr z0 4 (List.length z1) (List.map (eP (eI .i64) (eP (eI .i64) (eP (eI .i64) (eI .i64)))) z1) z2
abbrev Kv(z0)(z1){β2:Type}(z2:List β2)(z3):=Pc.rd z0 z1 1 (List.length z2) z3
abbrev AY(z0)(z1){β2:Type}(z2:List β2):=Pc.obj z0 (.cells [.slice z1 (List.length z2) (List.length z2)] .own)
abbrev fa(m)(z0)(z1){β2:Type}(z2:List β2)(z3):=Rd m z0 z1 2 (List.length z2) z3
abbrev lz(z0){β1:Type}(z1:List β1)(z2):=Pc.sl z0 2 (List.length z1) z2
abbrev Jr(z0)(z1)(z2):=Pc.rd z0 z1 1 (List.length z2) (List.map (eN .u8) z2)
abbrev k9(z0)(z1)(z2):=Pc.rd z0 z1 1 (List.length z2) (List.map (eI .i64) z2)
abbrev uM(z0)(z1)(z2):=Pc.obj z0 (.cells [.int .u8 ((z1:Nat):Int),.int .u8 ((z2:Nat):Int)] .own)
abbrev vJ(z0)(z1):=Pc.obj z0 (.map (List.map (eM (fun n:Int=>.int .i64 n) (fun n:Int=>.int .i64 n)) z1))
abbrev lB(z0):=Value.slice (some ⟨z0,0,none⟩) 1 1
abbrev ef(z0):=Pc.gen (rY z0)
abbrev F6(z0)(z1)(z2):=Value.slice (some ⟨z0,0,none⟩) ((z1++([z2]:Uu)).length) ((z1++([z2]:Uu)).length)
abbrev PS(z0)(z1)(z2)(z3)(z4)(z5)(z6)(z7)(z8)(z9)(z10)(z11):=Value.agg #[.int .u8 ((z0:Nat):Int),.int .u8 ((z1:Nat):Int),.int .u8 ((z2:Nat):Int),.int .i64 z3,.int .i64 z4,.int .i64 z5,.int .u8 ((z6:Nat):Int),.int .u8 ((z7:Nat):Int),.int .u8 ((z8:Nat):Int),.int .i64 z9,.int .i64 z10,.int .i64 z11]
abbrev re(z0){β1:Type}(z1:List β1):=Value.slice (some ⟨z0,0,none⟩) (List.length z1) (List.length z1)
abbrev qY(m)(z0)(z1)(z2):=Rd m z0 z1 1 (List.length z2) (List.map (eI .i64) z2)
abbrev Nd(z0)(z1)(z2){β3:Type}(z3:List β3)(z4)(z5){β6:Type}(z6:List β6)(z7)(z8):=Value.agg #[.int .u8 ((z0:Nat):Int),.int .u8 ((z1:Nat):Int),.slice z2 (List.length z3) z4,.slice z5 (List.length z6) z7,.bool z8]
abbrev NI(z0)(z1)(z2)(z3)(z4)(z5)(z6)(z7):=Value.agg #[.int .i64 z0,.int .i64 z1,.int .i64 z2,.int .i64 z3,.int .i64 z4,.int .i64 z5,.int .i64 z6,.int .i64 z7]
abbrev dL(z0):=Value.bool z0
abbrev pJ{γ0:Type}{ρ0:Rep γ0}(z0:Orp ρ0)(z1)(z2:List γ0)(z3):=Pc.gen (cV z0 z1 z2 z3)
abbrev wH(z0)(z1):=Pc.sl z0 1 (List.length z1) (List.map (eI .i64) z1)
abbrev PR(z0)(z1)(z2)(z3)(z4):=Value.agg #[.int .i64 z0,.int .i64 z1,.int .i64 z2,.int .i64 (-1),.int .i64 z3,.int .i64 (UD ((z4%2:Nat):Int)),.int .i64 z0,.int .i64 (-1)]
abbrev Gj(z0)(z1)(z2)(z3):=Value.agg #[.int .i64 z0,.int .i64 z1,.int .i64 z2,.int .i64 z3]
abbrev AW(m)(z0)(z1)(z2):=Rd m z0 z1 1 (List.length z2) (List.map (eN .u8) z2)
abbrev Jy(z0)(z1){β2:Type}(z2:List β2):=Pc.obj z0 (.cells [.slice z1 (List.length z2) (List.length z2),.slice none 0 0] .own)
abbrev PM(z0)(z1)(z2)(z3):=Value.agg #[.int .i64 z0,.int .i64 z1,.int .i64 (UD ((z2%22:Nat):Int)),.int .i64 (UD ((z3%18:Nat):Int))]
abbrev MS(z0)(z1)(z2)(z3)(z4):=Value.agg #[.int .i64 z0,.int .i64 z1,.int .i64 z2,.int .i64 z3,.int .i64 z4]
abbrev D7(z0):=Pc.obj z0 (.cells [.int .i64 10] .own)
abbrev DW(z0):=Pc.obj z0 (.cells [.int .i64 5] .own)
abbrev C9(z0):=Value.slice (some ⟨z0,0,none⟩) 3 3
abbrev GW(z0):=Pc.obj z0 (.cells [.int .i64 7] .own)
abbrev GX(z0):=Pc.obj z0 (.cells [.int .i64 8] .own)
abbrev Fv(z0):=Pc.obj z0 (.cells [.int .i64 9] .own)
abbrev Jn(z0):=Value.slice (some ⟨z0,0,none⟩) 12 12
abbrev fg{τ0:Type}(z0)(z1)(z2)(z3)(z4)(z5)(z6:List τ0)(z7)(z8)(z9:Rep τ0)(z10)(z:List Pc):=Ou z0 z1 z2 z3 z4 z5 z6 z7::gr z1 z3 z2::Qh z4 z5 z6 z8::iH z9 z10 z6 z8::Ry z4 z5 z7 z6 z8::z
abbrev cR{τ0:Type}(z0)(z1)(z2)(z3)(z4)(z5:List τ0)(z6)(z7)(z8:Rep τ0)(z9)(z:List Pc):=EB z0 z1 z2 z3 z4 z5 z6::gr z1 z3 z2::sd z4 z6 z5 z7::iH z8 z9 z5 z7::z
abbrev iV{τ0:Type}(z0)(z1)(z2:List τ0)(z3)(z4:Rep τ0)(z5)(z6)(z:List Pc):=QU z0 z1 z2 z3::iH z4 z5 z2 z3::QZ z0 z1 z6 z2 z3::z
abbrev sY(z0)(z1)(z2)(z3)(z4)(z:List Pc):=fO z0 z1 z2 z3 z4::D5 z1 z2 z3::Dg z1 z2 z4 z3::z
abbrev vm{τ0:Type}(z0)(z1)(z2)(z3)(z4:List τ0)(z5)(z6:Rep τ0)(z7)(z:List Pc):=sK z0 z1 z2 z3 z4::de z1 z2::lz z3 z4 z5::iH z6 z7 z4 z5::z
abbrev rI{τ0:Type}(z0)(z1)(z2:List τ0)(z3)(z4:Rep τ0)(z5)(z6)(z:List Pc):=Qh z0 z1 z2 z3::iH z4 z5 z2 z3::Ry z0 z1 z6 z2 z3::z
abbrev IN{τ0:Type}(z0)(z1)(z2)(z3)(z4)(z5:List τ0)(z6)(z7:Rep τ0)(z8)(z9)(z10)(z11)(z12)(z13)(z14:List τ0)(z15)(z16)(z:List Pc):=gr z0 z1 z2::sd z3 z4 z5 z6::iH z7 z8 z5 z6::gr z9 z10 z11::sd z12 z13 z14 z15::iH z7 z16 z14 z15::z
abbrev tj{τ0:Type}(z0)(z1)(z2:List τ0)(z3)(z4)(z:Fs):=(10,nL z0 z1 z2 z3)::(11,eh z2)::(12,aL z4)::z
abbrev oU(z0)(z1)(z2)(z3)(z:List Pc):=Qy z0 z1 z2::QC z0 z1 z3 z2::z
abbrev ra(z0)(z1)(z:Fs):=(2,ptr z0 0)::(3,ptr z1 0)::z
abbrev yv(z0)(z1)(z2)(z3)(z4)(z:Fs):=(1,ptr z0 0)::(2,ptr z1 0)::(3,aL z2)::(4,aL z3)::(5,ptr z4 0)::z
abbrev ff{τ0:Type}(z0)(z1)(z2:List τ0)(z3)(z4:Rep τ0)(z5)(z:List Pc):=Kv z0 z1 z2 z3::iH z4 z5 z2 z3::z
abbrev uo{τ0:Type}(z0)(z1)(z2:List τ0)(z3)(z4)(z:Fs):=(18,nL z0 z1 z2 z3)::(19,eh z2)::(20,aL z4)::z
abbrev uA(z0)(z1)(z2)(z3)(z4)(z5)(z6)(z:List Pc):=uj z0 z1 z2 z3::gr z1 z3 z2::dg z4::dg z5::fB z6 z2::z
abbrev q8(z0)(z1)(z2)(z3)(z4)(z:List Pc):=dg z0::dg z1::AY z2 z3 z4::lj z3 z4::z
abbrev Bt(z0)(z1)(z2)(z3)(z:Fs):=(2,aL z0)::(3,aL z1)::(10,ptr z2 0)::(11,ptr z3 0)::z
abbrev xh(z0)(z1)(z2)(z3)(z4)(z5)(z6)(z7)(z8)(z9)(z10)(z:List Pc):=QF z0 z1 z2 z3 z4 z5 z6 z7 z8 z9::Jr z3 z5 z4::Jr z6 z8 z7::ja z10::z
abbrev zP{τ0:Type}(z0)(z1:List τ0)(z2)(z3)(z:Fs):=(10,bl z0 z1 z2)::(11,eh z1)::(12,aL z3)::z
abbrev nH{τ0:Type}(z0)(z1)(z2:List τ0)(z:Fs):=(1,ptr z0 0)::(4,bU z1 z2)::z
abbrev Dn(z0)(z1)(z2)(z3)(z4)(z5)(z6)(z7)(z:List Pc):=uj z0 z1 z2 z3::gr z1 z3 z2::uj z4 z1 z2 z3::dg z5::dg z6::fB z7 z2::z
abbrev qZ{τ0:Type}(z0)(z1:List τ0)(z2)(z:Fs):=(0,bl z0 z1 z2)::(4,eh z1)::z
abbrev xT{τ0:Type}(z0)(z1:List τ0)(z2)(z3)(z:Fs):=(7,bl z0 z1 z2)::(8,eh z1)::(9,aL z3)::z
abbrev qW{τ0:Type}(z0)(z1)(z2)(z3)(z4)(z5)(z6:List τ0)(z7)(z8)(z9)(z:List Pc):=Ou z0 z1 z2 z3 z4 z5 z6 z7::gr z1 z3 z2::dg z8::dg z9::z
abbrev ba:Rep (List Int):=(rS (eI .i64) 1)
abbrev ai:Rep (List Int×Uu):=(rP (rS (eI .i64) 1) (rL ba))
def JT:(Vr p q).P.underlying 123=some (.array 2 3):=by kernel_rfl
def bX:TyI (Vr p q).P 3 false 1:=⟨by kernel_rfl,by kernel_rfl,by kernel_rfl⟩
instance:TyC (Vr p q).P 3 false 1:=⟨bX⟩
def u3:(Vr p q).P.underlying 3=some (.int .i64):=by kernel_rfl
def z117:bu (Vr p q).P 117=some (.map none):=by kernel_rfl
def K8:TyI (Vr p q).P 117 false 1:=⟨by kernel_rfl,by kernel_rfl,by kernel_rfl⟩
instance:TyC (Vr p q).P 117 false 1:=⟨K8⟩
def eS:TyI (Vr p q).P 26 true 2:=⟨by kernel_rfl,by kernel_rfl,by kernel_rfl⟩
instance:TyC (Vr p q).P 26 true 2:=⟨eS⟩
def iq:∀b o,aF (Vr p q).P 26 (ptr b o) 1=some (ptr b (o+1)):=fun _ _=>by kernel_rfl
instance:FaC (Vr p q).P 26 1 1:=⟨iq⟩
def qk:TyI (Vr p q).P 24 false 1:=⟨by kernel_rfl,by kernel_rfl,by kernel_rfl⟩
instance:TyC (Vr p q).P 24 false 1:=⟨qk⟩
def A4:(Vr p q).P.underlying 24=some (.slice 31):=by kernel_rfl
instance:UsC (Vr p q).P 24 31:=⟨A4⟩
def jA:SlT (Vr p q).P 24 31 2:=SlT.of (by kernel_rfl)
instance:SlC (Vr p q).P 24 31 2:=⟨jA⟩
def Bk:TyI (Vr p q).P 31 true 2:=⟨by kernel_rfl,by kernel_rfl,by kernel_rfl⟩
instance:TyC (Vr p q).P 31 true 2:=⟨Bk⟩
def z31:bu (Vr p q).P 31=some (.agg #[.slice none 0 0,.slice none 0 0]):=by kernel_rfl
def eD:∀b o,aF (Vr p q).P 31 (ptr b o) 0=some (ptr b (o+0)):=fun _ _=>by kernel_rfl
instance:FaC (Vr p q).P 31 0 0:=⟨eD⟩
def ia:TyI (Vr p q).P 28 false 1:=⟨by kernel_rfl,by kernel_rfl,by kernel_rfl⟩
instance:TyC (Vr p q).P 28 false 1:=⟨ia⟩
def z28:bu (Vr p q).P 28=some (.slice none 0 0):=by kernel_rfl
def eC:∀b o,aF (Vr p q).P 31 (ptr b o) 1=some (ptr b (o+1)):=fun _ _=>by kernel_rfl
instance:FaC (Vr p q).P 31 1 1:=⟨eC⟩
def jU:TyI (Vr p q).P 29 false 1:=⟨by kernel_rfl,by kernel_rfl,by kernel_rfl⟩
instance:TyC (Vr p q).P 29 false 1:=⟨jU⟩
def RA:bu (Vr p q).P 29=some (.slice none 0 0):=by kernel_rfl
abbrev xr:Rep (Uu):=(rL ba)
def QN:(Vr p q).P.underlying 144=some (.slice 29):=by kernel_rfl
instance:UsC (Vr p q).P 144 29:=⟨QN⟩
def Nv:SlT (Vr p q).P 144 29 1:=SlT.of (by kernel_rfl)
instance:SlC (Vr p q).P 144 29 1:=⟨Nv⟩
def Ez:(Vr p q).P.underlying 29=some (.slice 28):=by kernel_rfl
instance:UsC (Vr p q).P 29 28:=⟨Ez⟩
def kn:SlT (Vr p q).P 29 28 1:=SlT.of (by kernel_rfl)
instance:SlC (Vr p q).P 29 28 1:=⟨kn⟩
def I8:(Vr p q).P.underlying 28=some (.slice 3):=by kernel_rfl
instance:UsC (Vr p q).P 28 3:=⟨I8⟩
def fu:SlT (Vr p q).P 28 3 1:=SlT.of (by kernel_rfl)
instance:SlC (Vr p q).P 28 3 1:=⟨fu⟩
def q7:bu (Vr p q).P 122=some (.agg #[.int .i64 0,.int .i64 0,.int .i64 0,.int .i64 0]):=by kernel_rfl
def zu:BdT (Vr p q).P 122 (.agg #[.int .i64 0,.int .i64 0,.int .i64 0,.int .i64 0]) [(0,1),(1,1),(2,1),(3,1)]:=.mk' (by kernel_rfl) (by kernel_rfl)
def G2:TyI (Vr p q).P 122 true 4:=⟨by kernel_rfl,by kernel_rfl,by kernel_rfl⟩
instance:TyC (Vr p q).P 122 true 4:=⟨G2⟩
def xB:∀b o,aF (Vr p q).P 122 (ptr b o) 0=some (ptr b (o+0)):=fun _ _=>by kernel_rfl
instance:FaC (Vr p q).P 122 0 0:=⟨xB⟩
def vP:∀b o,aF (Vr p q).P 122 (ptr b o) 1=some (ptr b (o+1)):=fun _ _=>by kernel_rfl
instance:FaC (Vr p q).P 122 1 1:=⟨vP⟩
def Ko:bu (Vr p q).P 123=some (.agg #[.int .i64 0,.int .i64 0]):=by kernel_rfl
def Ge:BdT (Vr p q).P 123 (.agg #[.int .i64 0,.int .i64 0]) [(0,1),(1,1)]:=.mk' (by kernel_rfl) (by kernel_rfl)
def O3:TyI (Vr p q).P 123 true 2:=⟨by kernel_rfl,by kernel_rfl,by kernel_rfl⟩
instance:TyC (Vr p q).P 123 true 2:=⟨O3⟩
def ME:(Vr p q).P.underlying 117=some (.map 123 64):=by kernel_rfl
def z64:bu (Vr p q).P 64=some (.agg #[.int .i64 0,.int .i64 0,.int .i64 0,.int .i64 0]):=by kernel_rfl
def AB:TyI (Vr p q).P 64 true 4:=⟨by kernel_rfl,by kernel_rfl,by kernel_rfl⟩
instance:TyC (Vr p q).P 64 true 4:=⟨AB⟩
def Qk:ArT (Vr p q).P 123 3 2 1:=⟨by kernel_rfl,by kernel_rfl,by kernel_rfl⟩
instance:ArC (Vr p q).P 123 3 2 1:=⟨Qk⟩
def zp:BdT (Vr p q).P 64 (.agg #[.int .i64 0,.int .i64 0,.int .i64 0,.int .i64 0]) [(0,1),(1,1),(2,1),(3,1)]:=.mk' (by kernel_rfl) (by kernel_rfl)
def mZ:∀b o,aF (Vr p q).P 122 (ptr b o) 2=some (ptr b (o+2)):=fun _ _=>by kernel_rfl
instance:FaC (Vr p q).P 122 2 2:=⟨mZ⟩
def L4:∀b o,aF (Vr p q).P 64 (ptr b o) 2=some (ptr b (o+2)):=fun _ _=>by kernel_rfl
instance:FaC (Vr p q).P 64 2 2:=⟨L4⟩
def Mn:∀b o,aF (Vr p q).P 64 (ptr b o) 3=some (ptr b (o+3)):=fun _ _=>by kernel_rfl
instance:FaC (Vr p q).P 64 3 3:=⟨Mn⟩
def Nq{n l1 a0 c0}{r0:Ux}{e0:Uv}{r}(hF:Qp n l1=some r)(m){H:Ux}(hH:∀b,H b->b<m.next)(h5:Rd m a0 c0 1 l1.length e0)(h6:∀b,j4 a0=some b->¬H b)(h7:(bT xr r0 l1 e0).P m)(h8:∀b,r0 b->¬H b):
 aC (Vr p q) 94 [bl a0 l1 c0] m (fun v m'=>∃x:Uw×Nat×Nat×Uv ×(Nat->Prop),v=.slice x.1 x.2.2.1 x.2.1/\Hp m m' [.rd x.1 x.2.1 1 x.2.2.1 x.2.2.2.1,.gen (bT ba x.2.2.2.2 r x.2.2.2.1),ef H]):=by
 unfold Qp at hF;refine cw Tryz.func94 (Hp.CB (l0:=[Kv a0 c0 l1 e0]) (Hp.mD (l0:=[]) (Hp.p9 m hH) bQ h5 h6) (bO bQ) h7 h8) ?_;refine dM ?_;refine UK ?_;obtain⟨v0,h0,hF⟩:=J hF;refine ct (fun v0 (_:Unit)=>⟨(.exit 0),[(0,bl a0 l1 c0),(3,aL v0)],(ff a0 c0 l1 e0 xr r0 [ef H])⟩) v0 ?_ ?_;refine lo h0 () [1,0,2] (fun(v1,v2) _=>⟨.normal,[(0,bl a0 l1 c0),(3,aL v1),(9,bl a0 l1 c0),(10,eh l1),(11,aL v2)],(ff a0 c0 l1 e0 xr r0 [ef H])⟩) ?_;clear hF h0;rintro⟨v1,v2⟩ ⟨⟩ r hF;unfold pH at hF;refine wz ?_;refine UJ ?_;rcases U hF with⟨h9,hF⟩|⟨h9,hF⟩;refine an ?_;obtain⟨h10,hF⟩:=bI hF;refine UY (k:=0) rfl (az h10) ?_;rintro b1 o1 rfl;refine wz ?_;obtain⟨l7,h11,hF⟩:=J hF;refine wl 1 0 2 0 h11 ?_;rintro⟨a6,c6,e7⟩;refine dM ?_;rcases U hF with⟨h3,hF⟩|⟨h3,hF⟩;refine U8 rfl h3 ?_;cases hF;refine an ?_;cases hF;exact ae () [3,4,5];refine wz ?_;cases hF;exact ae () [0,1,2];rintro⟨⟩;refine an ?_;obtain⟨l2,h12,hF⟩:=J hF;refine wq (fun l2 ((a1,c1,e3,r1):Uw×Nat×Uv ×(Nat->Prop))=>(.slice a1 l2.length c1,(.gen (nG a1 c1 1 l2.length e3)::iH ba r1 l2 e3::ff a0 c0 l1 e0 xr r0 [ef H]))) l2 (fun m hm=>?_) ?_;clear hF;revert l2;intro r hF;refine aW (N:=27) (rs:=[.tmp 4]) rfl Tryz.func122 rfl rfl rfl hm ?_;refine an ?_;rcases U hF with⟨h4,hF⟩|⟨h4,hF⟩;refine U8 rfl h4 ?_;cases hF;refine wz ?_;refine UJ ?_;obtain⟨l3,h13,hF⟩:=J hF;refine ct (fun l3 ((a2,c2,e4,r3):Uw×Nat×Uv ×(Nat->Prop))=>⟨.normal,[(0,bl a2 l3 c2)],(.gen (nG a2 c2 1 l3.length e4)::iH ba r3 l3 e4::ff a0 c0 l1 e0 xr r0 [ef H])⟩) l3 ?_ ?_;clear hF;revert l3;intro r hF;refine wz ?_;refine UH (Ld Ez rfl) rfl ?_;refine an ?_;rcases U hF with⟨h14,hF⟩|⟨h14,hF⟩;refine wz ?_;refine UH (Ld Ez rfl) rfl<|UH (PD kn rfl rfl (.inr ⟨_,rfl⟩)) rfl ?_;refine wz ?_;obtain⟨h15,hF⟩:=aA hF;obtain⟨h16,hF⟩:=aA hF;refine UX (N2 (g:=fun e:List Uy=>e) (z0:=[.slice none 0 0]) kn u3 rfl h15 h16 z28 rfl rfl) gn rfl fun b0=>?_;refine Wo.dp (r:=ba) (L:=(List.replicate (UD (v0-(UD (0-0)))).toNat ([]:List Int))) (es:=((List.replicate (UD (v0-(UD (0-0)))).toNat [.slice none 0 0]).map fun e=>e)) (gU.rep (r:=ba) (z:=[]) (g:=(none,0)) Lf.s0 _) ?_;intro r6;refine UH (aK rfl) rfl<|UH (il (k:=0) Ez rfl rfl (.inr rfl)) rfl ?_;obtain⟨h17,hF⟩:=aA hF;obtain⟨h1,hF⟩:=aA hF;replace h1:=of_decide_eq_true h1;refine UW (UO (k:=1) rfl)<|UW (aa.xA (k:=1) rfl)<|UZ (Mx (r:=ba) (k:=1) (q:=0) (hi:=0) kn rfl rfl rfl rfl h17 h1) gn rfl ?_;refine wz ?_;cases hF;exact ae ((some ⟨b0,0,none⟩),(UD (v0-(UD (0-0)))).toNat,(((List.replicate (UD (v0-(UD (0-0)))).toNat [.slice none 0 0]).map fun e=>e).take UE),r6) [1,0,2,3,4];refine wz ?_;cases hF;exact aT (none,0,[],(fun _=>False)) (UQ (Vd 1 rfl) (UQ (aa.xA (k:=0) rfl) (UQ (aa.Gu (r:=ba)) (UN [1,0,2,3,4] rfl rfl))));rintro⟨a2,c2,e4,r3⟩;refine dM ?_;obtain rfl:=R9 hF;exact ar (a2,c2,e4,r3) (Vh 0 5);rintro⟨a1,c1,e3,r1⟩;refine an ?_;refine UK ?_;obtain⟨l4,h2,hF⟩:=J hF;refine ct (fun l4 ((a3,c3,e5,r4):Uw×Nat×Uv ×(Nat->Prop))=>⟨(.exit 2),[(6,bl a3 l4 c3)],[.gen (nG a3 c3 1 l4.length e5),iH ba r4 l4 e5,ef H]⟩) l4 ?_ ?_;refine lo h2 (a1,c1,e3,r1) [0,1,2,3,4] (fun(l5,v3) ((a4,c4,e1,r5):Uw×Nat×Uv ×(Nat->Prop))=>⟨.normal,[(6,bl a4 l5 c4),(25,bl a0 l1 c0),(26,eh l1),(27,aL v3)],(.gen (nG a4 c4 1 l5.length e1)::iH ba r5 l5 e1::ff a0 c0 l1 e0 xr r0 [ef H])⟩) ?_;clear hF h2;rintro⟨l5,v3⟩ ⟨a4,c4,e1,r5⟩ r hF;unfold pF at hF;refine wz ?_;refine UJ ?_;rcases U hF with⟨h18,hF⟩|⟨h18,hF⟩;refine an ?_;obtain⟨h19,hF⟩:=bI hF;refine UY (k:=2) rfl (az h19) ?_;rintro b2 o2 rfl;refine wz ?_;obtain⟨l6,h20,hF⟩:=J hF;refine wl 1 0 4 0 h20 ?_;rintro⟨a7,c7,e6⟩;refine an ?_;obtain⟨h21,hF⟩:=aA hF;refine UX (NL (r:=ba) (k:=3) (q:=4) (q2:=1) (L:=l5) (L':=l6) kn ⟨_,Ez⟩ rfl rfl rfl rfl (fun m hm=>hm.q 0) rfl rfl h21) gn rfl ?_;rintro⟨a5,c5,r7⟩;refine an ?_;cases hF;exact ae (a5,c5,(e1++e6),r7) [3,4,5,6,7];refine wz ?_;cases hF;exact ae (a4,c4,e1,r5) [0,1,4];rintro⟨a3,c3,e5,r4⟩;refine dM ?_;obtain rfl:=R9 hF;exact U1 (.tmp rfl .nil) fun m' hm=>⟨(a3,c3,l4.length,e5,r4),rfl,(UQ (aa.E1 (k:=0) rfl) (UN [0,1,2] rfl rfl)) m' hm⟩
def jx{n l1 l2 a0 c0 a1 c1}{r0:Ux}{e0:Uv}{r}(hF:As n l1 l2=some r)(m){H:Ux}(hH:∀b,H b->b<m.next)(h0:qY m a0 c0 l1)(h1:∀b,j4 a0=some b->¬H b)(h2:Rd m a1 c1 1 l2.length e0)(h3:∀b,j4 a1=some b->¬H b)(h4:(bT ba r0 l2 e0).P m)(h5:∀b,r0 b->¬H b):
 aC (Vr p q) 54 [dZ a0 l1 c0 a1 l2 c1] m (fun v m'=>∃x:Uw×Nat×Nat×Uv ×(Nat->Prop),v=.slice x.1 x.2.2.1 x.2.1/\Hp m m' [.rd x.1 x.2.1 1 x.2.2.1 x.2.2.2.1,.gen (bT ba x.2.2.2.2 r x.2.2.2.1),ef H]):=by
 unfold As at hF;refine cw Tryz.func54 (Hp.CB (l0:=[Kv a1 c1 l2 e0,k9 a0 c0 l1]) (Hp.mD (l0:=[k9 a0 c0 l1]) (Hp.mD (l0:=[]) (Hp.p9 m hH) bQ h0 h1) (bO bQ) h2 h3) (bO (bO bQ)) h4 h5) ?_;refine wz ?_;refine wb fun b1=>?_;refine an ?_;refine UX (cu (es:=[[bl a0 l1 c0]]) kn rfl (cx kn z28 rfl rfl) rfl rfl) gn rfl fun b0=>?_;refine Wo.dp (r:=ba) (L:=([l1]:Uu)) (es:=[[bl a0 l1 c0]]) (gU.cons (r:=ba) (z:=l1) (g:=(a0,c0)) (Lf.s (k:=4) rfl) gU.nil) ?_;intro r3;refine UH (aM (r:=ptr b1 1) rfl (eC _ _)) rfl<|UH (aD (k:=2) jU rfl rfl rfl) rfl<|UW (UO (k:=1) rfl)<|UW (UL (k:=1) rfl)<|UX (cu (es:=[[lB b0],[bl a1 l2 c1]]) Nv rfl (cx Nv RA rfl rfl) rfl rfl) gn rfl fun b2=>?_;refine Wo.dp (r:=xr) (L:=([[l1],l2]:List (Uu))) (es:=[[lB b0],[bl a1 l2 c1]]) (gU.cons (r:=xr) (z:=[l1]) (g:=((some ⟨b0,0,none⟩),1,[[bl a0 l1 c0]])) (Lf.l (k:=2) (q:=1) rfl rfl rfl) (gU.cons (r:=xr) (z:=l2) (g:=(a1,c1,e0)) (Lf.l (k:=5) (q:=4) rfl rfl rfl) gU.nil)) ?_;intro r4;obtain⟨l3,h6,hF⟩:=J hF;refine UW (UO (k:=1) rfl)<|UW (UL (k:=1) rfl)<|vN gn (fun m hm=>Nq h6 m hm.cy (hm.q 1) (hm.no 1) (hm.dp (q:=0) rfl) (hm.dw (q:=0) rfl)) ?_;rintro⟨a2,c2,n0,e1,r1⟩;refine Vb (k:=0) (q:=1) (L:=l3) rfl (.inr (.inl ⟨_,rfl⟩)) rfl ?_;rintro rfl;refine an ?_;obtain rfl:=R9 hF;exact ar (a2,c2,l3.length,e1,r1) [0,1,10]
def JY(hE:EnvOk (Vr p q))(n:Nat)(l6:Ut)(l1:Ur)(a1:Uw)(c3:Nat)(a0:Uw)(c0:Nat)(r0:Ux)(e0:Uv)(r:List ((Int×Int) ×(Us)))(hF:MX n l6 l1=some r)(m:Vo)(h23:dA m a1 c3 l6)(h24:fa m a0 c0 l1 e0)(h25:(bT ai r0 l1 e0).P m){R:Uy->Vo->Prop}(kN:∀g:Nat×Nat,Vk (Vr p q) 66 65 none (Pp 4 (mc Tryz.f65)) (jh (Vr p q) [.tmp 2] R) m ((fun(r:List ((Int×Int) ×(Us))) (g:Nat×Nat)=>match r,g with|l13,(b8,b9)=>([(3,ptr b8 0),(8,.slice none 0 0)]:Fs)) r g) ((fun(r:List ((Int×Int) ×(Us))) (g:Nat×Nat)=>match r,g with|l13,(b8,b9)=>([eJ b8 b9,.obj b9 (.map (l13.map (eM (fun p:Int×Int=>.agg #[.int .i64 p.1,.int .i64 p.2]) (fun x:Us=>.agg #[.int .i64 x.1,.int .i64 x.2.1,.int .i64 x.2.2.1,.int .i64 x.2.2.2]))))]:List Pc)) r g)) :
 Vk (Vr p q) 66 65 none (mc Tryz.f65) (jh (Vr p q) [.tmp 2] R) m (nQ [dZ a1 l6 c3 a0 l1 c0] 0 []) [iH ai r0 l1 e0,sd a0 c0 l1 e0,gr a1 c3 l6]:=by
 unfold MX at hF;refine Vk.seq hE<|UM<|wb fun b13=>?_;refine wz ?_;refine At.HT<|Vk.seq hE<|UM<|UX Gt gn rfl fun b0=>?_;refine wa z117 fun b1=>?_;refine wz ?_;refine At.HT<|Vk.seq hE ?_;refine wz ?_;obtain⟨l7,h4,hF⟩:=J hF;refine wq (fun l7 (b10:Nat)=>(.func (.func 126) #[] #[ptr b10 0],(cR b10 a1 l6 c3 a0 l1 c0 e0 ai r0 [eJ b1 b0,.obj b0 (.map (l7.map (eM (fun p:Int×Int=>.agg #[.int .i64 p.1,.int .i64 p.2]) (fun x:Us=>.agg #[.int .i64 x.1,.int .i64 x.2.1,.int .i64 x.2.2.1,.int .i64 x.2.2.2]))))]))) l7 (fun m hm=>?_) ?_;clear hF;revert l7;intro r hF;refine aW (N:=4) (rs:=[.tmp 2]) rfl Tryz.func103 rfl rfl rfl hm ?_;refine wz ?_;refine wb fun b11=>?_;refine an ?_;refine UH (jO rfl rfl) rfl ?_;refine an ?_;cases hF;exact ar b11 [0,6,5,4,1,2];rintro b10;refine wz ?_;refine UK ?_;obtain⟨l8,h5,hF⟩:=J hF;refine Wk.range (N:=50) (rs:=[]) (γ:=Unit) (X:=fun g=>(fun(r:List ((Int×Int) ×(Us))) (g:Unit)=>(match r,g with|l8,_=>⟨.ready,none,[eJ b1 b0,.obj b0 (.map (l8.map (eM (fun p:Int×Int=>.agg #[.int .i64 p.1,.int .i64 p.2]) (fun x:Us=>.agg #[.int .i64 x.1,.int .i64 x.2.1,.int .i64 x.2.2.1,.int .i64 x.2.2.2]))))]⟩:Rn)) l8 g) rfl rfl Tryz.func126 rfl rfl rfl ?_ (fun y=>by intro e; cases e) ?_
 clear hF;revert l8;intro r hF;intro t0 l2 r1 h6 h7;refine wz ?_;refine UK ?_;obtain⟨l10,h0,hF⟩:=J hF;refine ct (fun l10 (_:Unit)=>⟨(.exit 0),[],[.obj l2 (r1 .ready none),eJ b1 b0,.obj b0 (.map (l10.map (eM (fun p:Int×Int=>.agg #[.int .i64 p.1,.int .i64 p.2]) (fun x:Us=>.agg #[.int .i64 x.1,.int .i64 x.2.1,.int .i64 x.2.2.1,.int .i64 x.2.2.2]))))]⟩) l10 ?_ ?_;refine lo h0 () [0,3,4,5,6] (fun(v0,l14) _=>⟨.normal,((0,.func (.yield l2) #[] #[])::zP a0 l1 c0 v0 []),[.obj l2 (r1 .ready none),sd a0 c0 l1 e0,iH ai r0 l1 e0,eJ b1 b0,.obj b0 (.map (l14.map (eM (fun p:Int×Int=>.agg #[.int .i64 p.1,.int .i64 p.2]) (fun x:Us=>.agg #[.int .i64 x.1,.int .i64 x.2.1,.int .i64 x.2.2.1,.int .i64 x.2.2.2]))))]⟩) ?_;clear hF h0;rintro⟨v0,l14⟩ ⟨⟩ r hF;unfold LK at hF;refine wz ?_;refine UJ ?_;rcases U hF with⟨h8,hF⟩|⟨h8,hF⟩;refine an ?_;obtain⟨h9,hF⟩:=bI hF;refine UY (k:=1) rfl (az h9) ?_;rintro b2 o1 rfl;refine wz ?_;obtain⟨⟨l16,l17⟩,h10,hF⟩:=J hF;refine wl 2 0 3 0 h10 ?_;rintro⟨⟨a4,c4⟩,⟨a5,c5,e3⟩⟩;refine wa z31 fun b14=>?_;refine an ?_;obtain⟨l3,h11,hF⟩:=J hF;refine vN gn (fun m hm=>jx h11 m hm.cy (hm.q 1) (hm.no 1) (hm.q 2) (hm.no 2) (hm.dp (q:=3) rfl) (hm.dw (q:=3) rfl)) ?_;rintro⟨a3,c1,n0,e1,r3⟩;refine Vb (k:=0) (q:=1) (L:=l3) rfl (.inr (.inl ⟨_,rfl⟩)) rfl ?_;rintro rfl;refine wz ?_;refine UK ?_;obtain⟨l11,h1,hF⟩:=J hF;refine ct (fun l11 (_:Unit)=>⟨(.exit 2),((0,.func (.yield l2) #[] #[])::tj b2 o1 l1 c0 v0 []),(.obj l2 (r1 .ready none)::rI b2 o1 l1 e0 ai r0 c0 [eJ b1 b0,.obj b0 (.map (l11.map (eM (fun p:Int×Int=>.agg #[.int .i64 p.1,.int .i64 p.2]) (fun x:Us=>.agg #[.int .i64 x.1,.int .i64 x.2.1,.int .i64 x.2.2.1,.int .i64 x.2.2.2]))))])⟩) l11 ?_ ?_;refine lo h1 () [7,6,9,8,0,1,10,11] (fun(v1,l15) _=>⟨.normal,((0,.func (.yield l2) #[] #[])::(3,aL v0)::tj b2 o1 l1 c0 v0 [(18,bl a3 l3 c1),(19,eh l3),(20,aL v1)]),(.obj l2 (r1 .ready none)::rI b2 o1 l1 e0 ai r0 c0 (ff a3 c1 l3 e1 ba r3 [eJ b1 b0,.obj b0 (.map (l15.map (eM (fun p:Int×Int=>.agg #[.int .i64 p.1,.int .i64 p.2]) (fun x:Us=>.agg #[.int .i64 x.1,.int .i64 x.2.1,.int .i64 x.2.2.1,.int .i64 x.2.2.2]))))]))⟩) ?_;clear hF h1;rintro⟨v1,l15⟩ ⟨⟩ r hF;unfold K9 at hF;refine wz ?_;refine UJ ?_;rcases U hF with⟨h12,hF⟩|⟨h12,hF⟩;refine an ?_;obtain⟨h13,hF⟩:=bI hF;refine UY (k:=4) rfl (az h13) ?_;rintro b3 o2 rfl;refine wz ?_;obtain⟨l4,h14,hF⟩:=J hF;refine wl 1 0 6 0 h14 ?_;rintro⟨a2,c2⟩;refine an ?_;refine UK ?_;obtain⟨l12,h2,hF⟩:=J hF;refine ct (fun l12 (_:Unit)=>⟨(.exit 4),((0,.func (.yield l2) #[] #[])::(3,aL v0)::tj b2 o1 l1 c0 v0 (uo b3 o2 l3 c1 v1 [])),(.obj l2 (r1 .ready none)::rI b2 o1 l1 e0 ai r0 c0 (iV b3 o2 l3 e1 ba r3 c1 [eJ b1 b0,.obj b0 (.map (l12.map (eM (fun p:Int×Int=>.agg #[.int .i64 p.1,.int .i64 p.2]) (fun x:Us=>.agg #[.int .i64 x.1,.int .i64 x.2.1,.int .i64 x.2.2.1,.int .i64 x.2.2.2]))))]))⟩) l12 ?_ ?_;refine lo h2 () [2,0,3,4,5,1,7,6,8,9] (fun(v6,l5) _=>⟨.normal,((0,.func (.yield l2) #[] #[])::(3,aL v0)::(5,aL v1)::(6,bl a2 l4 c2)::tj b2 o1 l1 c0 v0 (uo b3 o2 l3 c1 v1 [(25,bl a2 l4 c2),(26,eh l4),(27,aL v6)])),(.obj l2 (r1 .ready none)::k9 a2 c2 l4::rI b2 o1 l1 e0 ai r0 c0 (iV b3 o2 l3 e1 ba r3 c1 [eJ b1 b0,.obj b0 (.map (l5.map (eM (fun p:Int×Int=>.agg #[.int .i64 p.1,.int .i64 p.2]) (fun x:Us=>.agg #[.int .i64 x.1,.int .i64 x.2.1,.int .i64 x.2.2.1,.int .i64 x.2.2.2]))))]))⟩) ?_;clear hF h2;rintro⟨v6,l5⟩ ⟨⟩ r hF;unfold LL at hF;refine wz ?_;refine UJ ?_;rcases U hF with⟨h15,hF⟩|⟨h15,hF⟩;refine an ?_;obtain⟨h16,hF⟩:=bI hF;refine UY (k:=1) rfl (az h16) ?_;rintro b5 o3 rfl;refine wz ?_;obtain⟨x3,h26,hF⟩:=J hF;refine an ?_;obtain⟨h17,hF⟩:=aA hF;refine UH (aI rfl rfl (bZ _ _ h17)) rfl ?_;obtain⟨h27,hF⟩:=bI hF;refine wz ?_;obtain⟨x4,h28,hF⟩:=J hF;refine wz ?_;refine UH (cj rfl q7 rfl (cm zu rfl rfl rfl)) rfl ?_;obtain⟨l9,h3,hF⟩:=J hF;refine UX (vU (k:=1) (k1:=0) (γA:=Nat) (GA:=(fun g:Nat=>(match g with|b4=>⟨.normal,[(3,ptr b1 0),(4,ptr b4 0)],(.obj l2 (r1 .ready none)::eJ b1 b0::.obj b0 (.map (l5.map (eM (fun p:Int×Int=>.agg #[.int .i64 p.1,.int .i64 p.2]) (fun x:Us=>.agg #[.int .i64 x.1,.int .i64 x.2.1,.int .i64 x.2.2.1,.int .i64 x.2.2.2]))))::fG b4 x3 x4 v0 v1::oU b5 o3 l4 c2 (rI b2 o1 l1 e0 ai r0 c0 (iV b3 o2 l3 e1 ba r3 c1 [])))⟩:En))) (γ:=Unit) (G:=fun g=>(fun(r:List ((Int×Int) ×(Us))) (g:Unit)=>(match r,g with|l9,_=>⟨.normal,[],(.obj l2 (r1 .busy none)::eJ b1 b0::.obj b0 (.map (l9.map (eM (fun p:Int×Int=>.agg #[.int .i64 p.1,.int .i64 p.2]) (fun x:Us=>.agg #[.int .i64 x.1,.int .i64 x.2.1,.int .i64 x.2.2.1,.int .i64 x.2.2.2]))))::oU b5 o3 l4 c2 (rI b2 o1 l1 e0 ai r0 c0 (iV b3 o2 l3 e1 ba r3 c1 [])))⟩:En)) l9 g) rfl rfl rfl h7 h6 rfl ?_ (fun _=>rfl) (fun _=>rfl) ?_ (fun y=>rfl)) gn rfl ?_
 clear hF h3;refine UM<|wa q7 fun b12=>?_;refine wz ?_;exact ae b12 (2::10::11::0::1::Vh 3 7);clear hF;revert l9;intro r hF;rintro b4;refine wz ?_;refine UH (fp rfl rfl (gp _ _)) rfl ?_;refine wz ?_;refine UH (fp rfl rfl (j6 _ _)) rfl<|UH (cj rfl Ko rfl (cm Ge rfl rfl rfl)) rfl<|wa Ko fun b6=>?_;refine an ?_;obtain⟨⟨⟨y0,y1,y2,y3⟩,y4⟩,h18,hF⟩:=J hF;refine UH (H7 (q:=3) (xs:=l5) (k:=(mi x3 x4,ma x3 x4)) (vE:=(fun x:Us=>.agg #[.int .i64 x.1,.int .i64 x.2.1,.int .i64 x.2.2.1,.int .i64 x.2.2.2])) (z0:=((0:Int),(0:Int),(0:Int),(0:Int))) ME (JK JT bX.known bX.size bX.agg u3) z64 rfl rfl rfl rfl h18) rfl ?_;refine wz ?_;refine wa z64 fun b7=>?_;refine wz ?_;refine UJ ?_;obtain⟨r4,h19,hF⟩:=J hF;refine ct (fun(v2,v3,v7,v8) (_:Unit)=>⟨.normal,[(3,ptr b1 0),(4,ptr b4 0),(5,ptr b6 0),(6,ptr b7 0)],(.obj l2 (r1 .busy none)::eJ b1 b0::.obj b0 (.map (l5.map (eM (fun p:Int×Int=>.agg #[.int .i64 p.1,.int .i64 p.2]) (fun x:Us=>.agg #[.int .i64 x.1,.int .i64 x.2.1,.int .i64 x.2.2.1,.int .i64 x.2.2.2]))))::fG b4 x3 x4 v0 v1::.obj b6 (.cells [.int .i64 (mi x3 x4),.int .i64 (ma x3 x4)] .own)::fG b7 v2 v3 v7 v8::oU b5 o3 l4 c2 (rI b2 o1 l1 e0 ai r0 c0 (iV b3 o2 l3 e1 ba r3 c1 [])))⟩) r4 ?_ ?_;clear hF;revert r4;intro r hF;refine wz ?_;rcases U hF with⟨h20,hF⟩|⟨h20,hF⟩;refine wz ?_;refine UH (cj rfl z64 rfl (cm zp rfl rfl rfl)) rfl ?_;refine wz ?_;cases hF;exact ae () (2::3::4::5::1::0::Vh 6 8);refine wz ?_;cases hF;exact ae () (2::3::4::5::1::0::Vh 6 8);clear h19;obtain⟨v2,v3,v7,v8⟩:=r4;rintro⟨⟩;refine US<|UJ ?_;obtain⟨r5,h21,hF⟩:=J hF;refine ct (fun(v4,v5) (_:Unit)=>⟨.normal,[(3,ptr b1 0),(4,ptr b4 0),(5,ptr b6 0),(6,ptr b7 0)],(.obj l2 (r1 .busy none)::eJ b1 b0::.obj b0 (.map (l5.map (eM (fun p:Int×Int=>.agg #[.int .i64 p.1,.int .i64 p.2]) (fun x:Us=>.agg #[.int .i64 x.1,.int .i64 x.2.1,.int .i64 x.2.2.1,.int .i64 x.2.2.2]))))::fG b4 x3 x4 v0 v1::.obj b6 (.cells [.int .i64 (mi x3 x4),.int .i64 (ma x3 x4)] .own)::fG b7 v2 v3 v4 v5::oU b5 o3 l4 c2 (rI b2 o1 l1 e0 ai r0 c0 (iV b3 o2 l3 e1 ba r3 c1 [])))⟩) r5 ?_ ?_;clear hF;revert r5;intro r hF;refine wz ?_;rcases U hF with⟨h22,hF⟩|⟨h22,hF⟩;refine wz ?_;cases hF;exact ae () (Vh 0 14);refine wz ?_;cases hF;exact ae () (Vh 0 14);clear h21;obtain⟨v4,v5⟩:=r5;rintro⟨⟩;refine an ?_;refine Vf (Dq (q:=2) (xs:=l5) (k:=(mi x3 x4,ma x3 x4)) (v:=(v2,v3,v4,v5)) (vE:=(fun x:Us=>.agg #[.int .i64 x.1,.int .i64 x.2.1,.int .i64 x.2.2.1,.int .i64 x.2.2.2])) ME (JK JT bX.known bX.size bX.agg u3) rfl rfl rfl rfl) ?_;refine wz ?_;cases hF;exact ae () (0::1::2::Vh 6 8);rintro⟨⟩;refine dM ?_;cases hF;exact ae () [0,4,5,6,7,8,9,10,1,2];refine wz ?_;cases hF;exact ae () (0::Vh 2 8);rintro⟨⟩;refine an ?_;cases hF;exact ae () [0,1,2,3,6,5,7,8];refine wz ?_;cases hF;exact ae () [0,1,2,3,6,7];rintro⟨⟩;refine an ?_;cases hF;exact ae () [0,3,2,4,5];refine wz ?_;cases hF;exact ae () [0,3,4];rintro⟨⟩;refine At.be ?_;obtain rfl:=R9 hF;exact At.fin .nil fun m' hm=>⟨(),(UN [0,1,2] rfl rfl) m' hm⟩;rintro⟨⟩
 change At _ .normal _ _ _
 refine At.bn<|At.HT<|Vk.seq hE ?_;refine wz ?_;refine At.HT ?_;cases hF;exact Vk.G7 (sc rfl (sc rfl sn)) (UN [0,1] rfl rfl) (kN (b1,b0))
end Go.Proofs.YtmndpgfbkicndaaGreat
namespace Go.Ab
open Go
section
variable{E:Env}{j j1:aS}{m m1:Vo}{w w1:UC}
def Sim.La(h:MR E j m w)(s:Sim E j { m with wl:=m.next} w j1 m1 w1)(g:Grown m m1){b1:Nat}{k1:Blk}{cs:List Uy}{tag:Tag}(hb:m.next<=b1)(hk:j1 b1=some k1)(ho:m1.get b1=some (.cells cs tag))(hp:cs.all aU=true){k2:Blk}{tag2:Tag}(hc2:k2.c=k1.c)(htg:∀(c:Array Uy) (fz:Nat×Nat),pt k1 tag cs.length c fz->pt k2 tag2 cs.length c fz) :
  Sim E j m w (j.set m.next k2) (m.alloc (.cells cs tag2)) w1:=by
 have hn:j m.next=none:=h.nE
 have hj1:j b1=none:=by
  cases e:j b1 with
  | none=>rfl
  | some k=>exact Ss (h.lt b1 k e).1 (by omega)
 have hfresh:w.heap.size<=k1.c:=by
  rcases s.fresh b1 k1 hk hj1 with hf|⟨b0,k0,a1,_,_,a4⟩
  exact hf
  have:=(h.lt b0 k0 a1).1; have:=g.wl; omega
 refine⟨.alloc m _,aS.oJ k2 hn,?_,?_,s.size,?_,?_,?_,fun c hc _=>s.old h g c hc,s.calm⟩
 intro b k e e'
 by_cases hbm:b=m.next
 omega
 rw[aS.cd _ _ hbm,e'] at e; cases e
 ·have ha:=h.after s g;refine⟨fun b k e=>?_,fun b o k ho' e=>?_,fun b b' k k' e e' hl hl' hc=>?_,fun gl hgl=>?_⟩
  by_cases hbm:b=m.next
  subst hbm; rw[aS.cB] at e; cases e;exact⟨T3 _,hc2 ▸(s.mr.lt b1 k1 hk).2⟩
  rw[aS.cd _ _ hbm] at e;exact⟨Nat.lt_succ_of_lt (h.lt b k e).1,(ha.lt b k e).2⟩
  ·rw[Vo.aZ] at ho'
   by_cases hbm:b=m.next
   ·subst hbm; rw[aS.cB] at e; cases e;rw[R7 rfl] at ho'; cases ho';obtain⟨o',h1,h2⟩:=s.mr.obj b1 _ k1 ho hk;refine⟨o',hc2▸h1,?_⟩;cases o' with
    | cells c ty fz =>
     refine⟨htg _ _ h2.1,fun i v hi=>?_⟩;obtain⟨v',h3,h4⟩:=h2.2 i v hi;have hpv:=Si.1 hp v (Sf hi);have:=fV hpv h4;subst this;exact⟨_,h3,.aU hpv⟩
    | _=>exact h2.elim
   rw[R6 hbm] at ho';rw[aS.cd _ _ hbm] at e;obtain⟨o',h1,h2⟩:=ha.obj b o k ho' e;exact⟨o',h1,h2.mono (aS.oJ k2 hn)⟩
  have old:∀{b k},j b=some k->(m.get b).isSome=true->k.c≠k1.c:=fun{b k} e hl hc=>by
   have hlt:=(h.lt b k e).1;have:=s.mr.inj b b1 k k1 (s.le b k e) hk (by rw[g.same b hlt]; exact hl) (by rw[ho]; rfl) hc
   omega
  by_cases hbm:b=m.next
  by_cases hbm':b'=m.next
  rw[hbm,hbm']
  subst hbm; rw[aS.cB] at e; cases e;rw[aS.cd _ _ hbm'] at e';rw[Vo.aZ,R6 hbm'] at hl';exact Ss (hc.symm.trans hc2) (old e' hl')
  by_cases hbm':b'=m.next
  subst hbm'; rw[aS.cB] at e'; cases e';rw[aS.cd _ _ hbm] at e;rw[Vo.aZ,R6 hbm] at hl;exact Ss (hc.trans hc2) (old e hl)
  rw[aS.cd _ _ hbm] at e;rw[aS.cd _ _ hbm'] at e';rw[Vo.aZ,R6 hbm] at hl;rw[Vo.aZ,R6 hbm'] at hl';exact h.inj b b' k k' e e' hl hl' hc
  have:=h.glob gl hgl;have hlt:=(h.lt gl _ this).1;rw[aS.cd _ _ (by omega)]; exact this
 intro b hb1 hb2 _;have:b=m.next:=by simp at hb2; omega
 subst this; exact⟨k2,aS.cB _ _ _⟩
 intro b hb _;rw[Vo.aZ,UF]
 intro b k e e'
 by_cases hbm:b=m.next
 subst hbm; rw[aS.cB] at e; cases e;exact .inl (hc2▸hfresh)
 rw[aS.cd _ _ hbm,e'] at e; cases e
end
namespace W
def qD{E:Env}{f:FuncId}{args:List Uy}{m:Vo}{v:Uy}{m':Vo}(h:EO E f args { m with wl:=m.next} fun v1 m1=>Grown m m1 /\
  ((bL v=true/\v1=v/\m'=m)\/∃b1 cs tag sz n,0<sz/\cs.length=n*sz/\n<=9223372036854775807/\v1=.slice (some ⟨b1,0,none⟩) n n/\v=.slice (some ⟨m.next,0,none⟩) n n/\m.next<=b1/\b1<m1.next/\m1.get b1=some (.cells cs tag)/\(tag=.own\/tag=.more sz)/\cs.all aU=true/\m'=m.alloc (.cells cs (.more sz)))) (pr:Bool) {j:aS} {w:UC} {args':List Uy} (hm:MR E j m w) (hl:LR j args args'):gI E.P pr f args'.toArray w (ji E j m w v m'):=by
 refine mu (fun h=>by cases h) (h j w args' (MR.vn hm) hl) ?_
 rintro v' w' ⟨v1,m1,⟨hg,hc⟩,j',s,hv⟩;rcases hc with⟨hpv,rfl,rfl⟩|⟨b1,cs,tag,sz,n,hsz,hcl,hn,rfl,rfl,hb,hb1,ho,htag,hpl,rfl⟩
 exact⟨j,Sim.forget hm s hg,VR.Dc hpv hv⟩
 ·cases hv with
  | slice hj hmo =>
   rename_i k1;refine⟨_,Sim.La hm s hg hb hj ho hpl (k2:=⟨k1.c,some (sz,cs.length,cs.length)⟩) (tag2:=.more sz) rfl (fun c fz ht=>?_),.sliceM (k:=⟨k1.c,some (sz,cs.length,cs.length)⟩) (aS.cB _ _ _) rfl (by rw[hcl,Tn]) (by rw[hcl,Tn]) (Sc _) (Sc _)⟩
   rcases htag with rfl|rfl
   obtain⟨_,t2,rfl⟩:k1.more=none/\c.size=cs.length/\fz=(0,0):=ht;refine⟨by rw[t2],by rw[t2]; exact Sc _,rfl,hsz,?_⟩
   unfold iy;rw[t2,hcl,Nat.mul_comm]; exact Nat.mul_le_mul_left _ hn
   have:k1.more=some (sz,cs.length,c.size):=ht.1;rw[hmo] at this; cases this
  | sliceM hj hmo a1 a2 a3 a4 =>
   rename_i c' sz' na nc k1;refine⟨_,Sim.La hm s hg hb hj ho hpl (k2:=k1) (tag2:=.more sz) rfl (fun c fz ht=>?_),.sliceM (k:=k1) (aS.cB _ _ _) hmo a1 a2 a3 a4⟩;rcases htag with rfl|rfl
   have:k1.more=none:=ht.1;rw[hmo] at this; cases this
   exact ht
end W
end Go.Ab
namespace Go.Proofs.YtmndpgfbkicndaaGreat
section
open Go Go.Ab Go.Ab.W
set_option maxRecDepth 10000
def HD{m:Vo}{x b:Nat}:({ m with wl:=x}:Vo).get b=m.get b:=rfl
def B1{m:Vo}{x w c n:Nat}{a:Uw}{es:Uv}(h:Rd m a c w n es):Rd { m with wl:=x} a c w n es:=h
def LA{m:Vo}{x:Nat}{R:Ux}{L:Ur}{es:Uv}(h:(bT ai R L es).P m):(bT ai R L es).P { m with wl:=x}:=h
attribute [local irreducible] Tm.at Trie.set Trie.get Vo.get Vo.set Vo.alloc Vo.ww Vo.kill
def sJ(l:List fN):((l.map fk).flatten).length=l.length*4:=by rw[cO (w:=4) (fun e he=>by obtain⟨x,_,rfl⟩:=Ts.1 he; rfl),Sz]
def H5{p q:Option Prim}{m0 m:Vo}{ps:List Pc}(h:Hp m0 m ps){k nn:Nat}{a:Uw}{l:List fN}(hp:pk ps k=some (.sl a 4 nn (l.map fk)))(hok:sM l=true)(hlim:lim nn=true) :
    aC (Vr p q) 104 [.slice a nn nn,.func (.func 105) #[] #[]] m (fun v m'=>∃_:Unit,v=.tuple #[]/\Hp m0 m' (bS ps k (.sl a 4 nn ((l.mergeSort er).map fk)))):=by
  rcases h.get hp with⟨rfl,e2,rfl,_⟩|⟨b,tg,rfl,hO⟩
  have hl:l=[]:=T1.1 e2;subst hl;refine aC.cZ (p:=⟨kL⟩) rfl (v:=.tuple #[]) (m':=m) rfl ⟨(),rfl,?_⟩;rw[List.mergeSort_nil,pQ _ _ _ hp];exact h
  obtain⟨h1,h2,h3,h4,h5,h6,h7⟩:=hO;have hn:l.length=nn:=by simpa using h4
  subst hn;have hw:gF m 4 b l.length l.length=some ((l.map fk).flatten,tg):=by
    unfold gF;rcases h6 with rfl|rfl<;>simp only[h3]
    rw[R7 ⟨trivial,sJ _⟩]
    rw[R7 ⟨trivial,sJ _,trivial⟩]
  refine aC.cZ (p:=⟨kL⟩) rfl (v:=.tuple #[]) (m':=m.set b (.cells ((l.mergeSort er).map fk).flatten tg)) ?_ ⟨(),rfl,?_⟩
  show kL [.slice (some ⟨b,0,none⟩) l.length l.length,.func (.func 105) #[] #[]] m=_
  simp only[kL,hw,qK];rw[R7 ⟨⟨rfl,rfl⟩,hlim,hok⟩]
  refine h.write hp rfl rfl rfl rfl (.inr ⟨b,tg,rfl,h1,?_,?_,?_,?_,h6,h7⟩)
  rw[Vo.next_set]; exact h2
  rw[Vo.bC,R7 rfl]
  simp
  intro e he;obtain⟨x,_,rfl⟩:=Ts.1 he
  rfl
def lA(r:List ((Int×Int)×fN))(S:List Nat):List fN:=S.filterMap fun i=>(r[i]?).map (·.2)
def qi{r:List ((Int×Int)×fN)}{S:List Nat}{i:Nat}{e:(Int×Int)×fN}(h:r[i]? = some e):lA r (S++[i])=lA r S++[e.2]:=by
  unfold lA;rw[List.filterMap_append];simp[h]
def Mc:List fN->Uw->Uw
  | [],_=>none
  | _::_,a=>a
def vq{l:List fN}{x:fN}{a:Uw}:Mc (l++[x]) a=a:=by cases l<;>rfl
def Il{r:List ((Int×Int)×fN)}{S:List Nat}:(lA r S).length<=S.length:=List.length_filterMap_le _ _
def Ay(r:List ((Int×Int)×fN)):lA r (List.range r.length)=r.map (·.2):=by
  unfold lA;have:∀(r:List ((Int×Int)×fN)),(List.range r.length).filterMap (fun i=>(r[i]?).map (·.2))=r.map (·.2):=by
    intro r
    induction r with
    | nil=>rfl
    | cons x r ih =>
      rw[SJ,List.range_succ_eq_map,List.filterMap_cons];simp only[Sy,Sq,List.filterMap_map,Tt]
      congr 1
  exact this r
def DA{r:List ((Int×Int)×fN)}{S:List Nat}(h:S.Perm (List.range r.length)):(lA r S).Perm (r.map (·.2)):=by
  rw[<-Ay];exact h.filterMap _
def D8{l l':List fN}(h:l.Perm l')(ho:sM l'=true):sM l=true:=by
  unfold sM at *;simp only[Sa,Sn,Si] at *;exact⟨fun x hx=>ho.1 x (h.mem_iff.1 hx),(h.map _).nodup_iff.2 ho.2⟩
def D4{l l':List fN}(h:l.Perm l')(ho:sM l'=true):l.mergeSort er=l'.mergeSort er:=by
  obtain⟨h1,h2⟩:=sW ho;have tr:∀a b c:fN,er a b=true->er b c=true->er a c=true:=by
    intro a b c; unfold er; simp only[Sn]; omega
  have to:∀a b:fN,(er a b||er b a)=true:=by
    intro a b; unfold er; simp only[Tp,Sn]; omega
  refine List.Perm.eq_of_pairwise (le:=fun a b=>er a b=true) ?_ (List.pairwise_mergeSort tr to _) (List.pairwise_mergeSort tr to _) ((Ue _ _).trans (h.trans (Ue _ _).symm));intro a b ha hb e1 e2;have ha':=(h.mem_iff.1 ((Ue _ _).mem_iff.1 ha));have hb':=(Ue _ _).mem_iff.1 hb;refine mS h2 ha' hb' ?_;unfold er at e1 e2;simp only[Sn] at e1 e2;exact S5 (by simp only; omega) (by simp only; omega)
def p7(x:fN):∀l:List fN,(DY x l).Perm (x::l)
  | []=>.refl _
  | y::l=>by
    unfold DY
    split
    exact .refl _
    exact((p7 x l).cons y).trans (.swap x y l)
def mL:∀l:List fN,(tF l).Perm l
  | []=>.refl _
  | x::l=>(p7 x _).trans ((mL l).cons x)
def tw(a b c:fN):er a b=true->er b c=true->er a c=true:=by
  unfold er; simp only[Sn]; omega
def BH{a b:fN}(h:er a b=false):er b a=true:=by
  unfold er at *; simp only[Sn,decide_eq_false_iff_not] at *; omega
def qG(x:fN):∀{l:List fN},l.Pairwise (fun a b=>er a b=true)->(DY x l).Pairwise (fun a b=>er a b=true)
  | [],_=>List.pairwise_singleton _ _
  | y::l,h=>by
    obtain⟨h1,h2⟩:=Sr.1 h;unfold DY
    split
    rename_i hc;refine Sr.2 ⟨fun z hz=>?_,h⟩;rcases Sx.1 hz with rfl|hz
    exact hc
    exact tw _ _ _ hc (h1 z hz)
    rename_i hc;refine Sr.2 ⟨fun z hz=>?_,qG x h2⟩;rcases Sx.1 ((p7 x l).mem_iff.1 hz) with rfl|hz
    exact BH (by simpa using hc)
    exact h1 z hz
def nW:∀l:List fN,(tF l).Pairwise (fun a b=>er a b=true)
  | []=>.nil
  | x::l=>qG x (nW l)
def Dj{l:List fN}(ho:sM l=true):tF l=l.mergeSort er:=by
  obtain⟨h1,h2⟩:=sW ho;refine List.Perm.eq_of_pairwise (le:=fun a b=>er a b=true) ?_ (nW l) (List.pairwise_mergeSort tw (fun a b=>by unfold er; simp only[Tp,Sn]; omega) _) ((mL l).trans (Ue _ _).symm)
  intro a b ha hb e1 e2;have ha':=(mL l).mem_iff.1 ha;have hb':=(Ue _ _).mem_iff.1 hb;refine mS h2 ha' hb' ?_;unfold er at e1 e2;simp only[Sn] at e1 e2;exact S5 (by simp only; omega) (by simp only; omega)
abbrev OD:(Int×Int)×fN->Uy×Uy:=eM (fun p:Int×Int=>.agg #[.int .i64 p.1,.int .i64 p.2]) (fun x:Us=>.agg #[.int .i64 x.1,.int .i64 x.2.1,.int .i64 x.2.2.1,.int .i64 x.2.2.2])
def zU{E:Env}{m0 m:Vo}{t:Tm}{fs:Fs}{ps:List Pc}{ty:Uz}{x:UA}{v:Uy}{ag:Bool}{sz b o k:Nat}{cs:List Uy}{tg:Tag}(ht:TyI E.P ty ag sz)(hx:ev E fs x=some (ptr b o))(hp:pk ps k=some (.obj b (.cells cs tg)))(hv:xN ag sz cs o=some v)(hf:Fr t fs)(hm:Hp m0 m ps):fq E t m (.load ty x)=some (v,m):=by
  have h1:=hf.ev hx;have h2:=rA (P:=E.P) ht (hm.get hp).2.2 hv
  show(match aw E t x with|some p=>(ee E.P ty p m).map fun v=>(v,m)|none=>none)=_
  rw[h1]
  show(ee E.P ty _ m).map _=_
  rw[h2]; rfl
def Of{p q:Option Prim}:(Vr p q).P.underlying 57=some (.slice 64):=by kernel_rfl
def Lv{p q:Option Prim}:SlT (Vr p q).P 57 64 4:=SlT.of (by kernel_rfl)
section
variable{q:Option Prim}
set_option maxHeartbeats 4000000
def Mz{m:Vo}{r:List ((Int×Int)×fN)}{b b2:Nat}(hlim:lim r.length=true)(hok:sM (r.map (·.2))=true){R:Uy->Vo->Prop}
    (hR:∀(a:Uw) (m':Vo),(r=[]->a=none)->Hp m m' [.sl a 4 r.length ((((r.map (·.2)).mergeSort er)).map fk)]->R (.slice a r.length r.length) m') :
    Vk (Vr none none) 66 65 none (Pp 4 (mc Tryz.f65)) (jh (Vr none none) [.tmp 2] R) m [(3,ptr b 0),(8,.slice none 0 0)] [.obj b (.cells [.map (some b2)] .own),.obj b2 (.map (r.map OD))]:=by
  refine Vk.mapRange (E:=Vr none none) sN (fun h=>h) (γ:=Uw) (kt:=123) (et:=64) ⟨rfl,rfl⟩ ⟨rfl,rfl,rfl⟩ ME ⟨rfl,rfl,rfl⟩ ⟨rfl,rfl,rfl⟩ ⟨rfl,rfl,rfl⟩ rfl (by decide) (by decide) (bm:=b2) (k:=1) (es:=r.map OD)
    (fun t m' hf hm=>zU (k:=0) K8 rfl rfl rfl hf hm) rfl
    (fun bi S a=>([(8,.slice (Mc (lA r S) a) (lA r S).length (lA r S).length),(54,ptr bi 0)],[.sl (Mc (lA r S) a) 4 (lA r S).length ((lA r S).map fk)]))
    (fun bi S g=>rfl) (fun bi S g p hp=>by rw[Sp.1 hp]; exact⟨rfl,fun b hb=>.inl ⟨rfl,Pc.wT rfl hb⟩⟩) (fun _=>none) (fun bi=>⟨sc rfl (sc rfl sn),fun m1=>Vd 4 rfl⟩) ?_ ?_
  intro bi m1 S i e a hS hSl hi he;rw[Sz] at hSl;rw[SX] at he;obtain⟨e,he0,rfl⟩:=Option.map_eq_some_iff.1 he;clear he;have he:=he0;have hn:(lA r (S++[i])).length<=r.length:=by
    refine SC Il ?_;have hnd:(S++[i]).Nodup:=List.nodup_append.2 ⟨hS,TT.2 ⟨List.not_mem_nil,List.nodup_nil⟩,fun x hx y hy=>by rw[Sp.1 hy]; exact fun e=>hi (e▸hx)⟩
    have hsub:(S++[i])⊆List.range r.length:=fun x hx=>by
      rw[TF];rcases Su.1 hx with hx|hx
      exact hSl x hx
      rw[Sp.1 hx]; exact(Sl.1 he).1
    simpa using hnd.length_le_of_subset hsub
  have hl2:lim (lA r S++[e.2]).length=true:=by
    rw[<-qi he];exact Nat.ble_eq_true_of_le (SC hn (oh hlim))
  refine UH (Ec rfl rfl) rfl ?_;refine UX (jR z64 rfl) gn rfl fun b6=>?_;refine Vf (dK (k:=0) AB rfl rfl rfl rfl rfl) ?_;refine UU (Q:=fun _=>_) ?_
  show Wk (Vr none none) 66 65 none _ _ m1 _ _
  refine UM ?_;refine UH (aK rfl) rfl ?_;refine UH (aD (k:=0) AB rfl rfl rfl) rfl ?_;refine UX (cu (es:=([e.2]:List fN).map fk) Lv rfl (cx Lv z64 rfl rfl) rfl rfl) gn rfl fun b7=>?_;refine UX (ph (k:=2) (k2:=0) (xs:=lA r S) (ys:=[e.2]) (Ar (py .i64) (Ar (py .i64) (Ar (py .i64) (py .i64)))) Lv ⟨_,Of⟩ rfl rfl rfl (.arr _ _ _ _ _) hl2) gn rfl fun a8=>?_;refine UH (bH rfl) rfl ?_;refine UU (Q:=fun _=>_) ?_;intro t' m' hf hm;refine⟨rfl,a8,?_,?_⟩
  rw[qi he,vq];exact hf.sub (sc rfl (sc rfl sn))
  rw[qi he,vq];exact(UN [2] rfl rfl) m' hm
  intro bi S a hS;rw[Sz] at hS;have hp:=DA hS;have hlen:(lA r S).length=r.length:=by rw[hp.length_eq,Sz]
  refine Vk.of sN ?_;refine UJ ?_;refine UM ?_;refine UH (aK rfl) rfl ?_;refine UX (lN (α:=Unit) (V:=fun _=>.tuple #[]) (N:=fun _=>_) rfl rfl fun m' hm=>H5 (k:=0) (l:=lA r S) hm rfl (D8 hp hok) (by rw[hlen]; exact hlim)) gn rfl fun _=>?_
  refine UU ?_;refine US ?_;refine UJ ?_;refine UM ?_;refine UH (aK rfl) rfl ?_;refine UH (bH rfl) rfl ?_;refine UU ?_;refine US ?_;refine Wk.ret ?_;refine U1 (.tmp rfl .nil) fun m' hm=>?_;rw[hlen,D4 hp hok] at hm;rw[hlen];exact hR _ m' (fun h=>by subst h; rw[SN.1 hlen]; rfl) ((UN [0] rfl rfl) m' hm)
end
abbrev xy:Int×Int->List Uy:=eP (eI .i64) (eI .i64)
abbrev Cx:=Ut×Ur
def pW(m:Vo)(v:Uy)(x:Cx):Prop :=
  ∃a c a' c' R es,v=.agg #[.slice a x.1.length c,.slice a' x.2.length c']/\Rd m a c 2 x.1.length (x.1.map xy)/\Rd m a' c' 2 x.2.length es/\(bT ai R x.2 es).P m
def Lr:∀x y:Int,eI .i64 x=eI .i64 y->x=y:=fun x y h=>by
  have:=Tx h;injection this
def OA:∀x y:Int×Int,xy x=xy y->x=y:=fun x y h=>by
  have h1:=Tx h;have h2:=Tx (List.tail_eq_of_cons_eq h);injection h1 with _ h1;injection h2 with _ h2;exact S5 h1 h2
def Np:xU ai:=QH (Pf Lr) (Q1 (Pf Lr))
def pW.uniq{m:Vo}{v:Uy}{x y:Cx}(h:pW m v x)(h':pW m v y):x=y:=by
  obtain⟨a,c,b,d,R,es,rfl,h1,h2,h3⟩:=h;obtain⟨a',c',b',d',R',es',e,h1',h2',h3'⟩:=h';injection e with e;injection e with e;have e1:=Tx e;have e2:=Tx (List.tail_eq_of_cons_eq e);injection e1 with e3 e4 e5;injection e2 with e6 e7 e8;subst e3 e6;have x1:=wY OA h1 h1' e4;have x2:=uX h2 h2' e7;subst x2;exact S5 x1 (h3.1.uniq Np h3'.1)
def mO(m:Vo)(l:List fN):Uy×Vo:=if l=[] then(.slice none 0 0,m) else(.slice (some ⟨m.next,0,none⟩) l.length l.length,m.alloc (.cells (l.map fk).flatten (.more 4)))
open Classical in
noncomputable def lH (args:List Uy) (m:Vo):Option (Uy×Vo) :=
  match args with
  | [v]=>if h:∃l,∃x:Cx,pW m v x/\KF 0 x.1 x.2=some l then some (mO m (Classical.choose h)) else none
  | _=>none
noncomputable def lL:Prim:=⟨lH⟩
open Classical in
def uC{m m':Vo}{v r:Uy}(h:lH [v] m=some (r,m')):∃x:Cx,∃l,pW m v x/\KF 0 x.1 x.2=some l/\mO m l=(r,m'):=by
  change dite _ _ _=_ at h
  by_cases hx:∃l,∃x:Cx,pW m v x/\KF 0 x.1 x.2=some l
  rw[dif_pos hx] at h;obtain⟨x,h1,h2⟩:=Te hx;exact⟨x,_,h1,h2,R9 h⟩
  rw[dif_neg hx] at h; cases h
open Classical in
def zk{m:Vo}{v:Uy}{x:Cx}{l:List fN}(h:pW m v x)(hF:KF 0 x.1 x.2=some l):lH [v] m=some (mO m l):=by
  have hx:∃l,∃x:Cx,pW m v x/\KF 0 x.1 x.2=some l:=⟨l,x,h,hF⟩
  change dite _ _ _=_
  rw[dif_pos hx];obtain⟨y,h1,h2⟩:=Te hx;have e1:=h1.uniq h;subst e1;rw[hF] at h2;rw[<-R9 h2]
def wg{args:List Uy}{m m':Vo}{v:Uy}(h:lH args m=some (v,m'))(pr:Bool){j:aS}{w:UC}{args':List Uy}(hm:MR (Vr none none) j m w)(hl:LR j args args') :
    gI (Vr none none).P pr 65 args'.toArray w (ji (Vr none none) j m w v m'):=by
  have ha:∃v,args=[v]:=by
    unfold lH at h
    split at h
    exact⟨_,rfl⟩
    cases h
  obtain⟨va,rfl⟩:=ha;obtain⟨⟨l1,l5⟩,l,⟨a,c,a',c',R,es,rfl,h1,h2,h3⟩,hF,he⟩:=uC h;simp only at h1 h2 h3 hF;unfold KF at hF;obtain⟨r,hFA,hF⟩:=J hF;obtain⟨hc,hF⟩:=aA hF;rw[Sa] at hc;have hl':=R9 hF;subst hl';rw[Dj hc.1] at he;have hh1:Rd { m with wl:=m.next} a c 2 l1.length (l1.map xy):=B1 h1
  have hh2:Rd { m with wl:=m.next} a' c' 2 l5.length es:=B1 h2
  have hh3:(bT ai R l5 es).P { m with wl:=m.next}:=LA h3
  refine qD (y9 (E:=Vr none none) (c:=mc Tryz.f65) (m0:={ m with wl:=m.next}) (m:={ m with wl:=m.next}) (N:=66) (rs:=[.tmp 2]) (ps:=[.gen (bT ai R l5 es),.rd a' c' 2 l5.length es,.rd a c 2 l1.length (l1.map xy)]) sN Tryz.func65 rfl rfl rfl ((((UP _).bq bQ hh1).bq (bO bQ) hh2).ep (bO (bO bQ)) hh3) ?_) pr hm hl
  refine JY sN 100000 l1 l5 a c a' c' R es r hFA _ hh1 hh2 hh3 fun g=>?_;refine Mz (by simpa using hc.2) hc.1 fun a6 m1 ha6 hm1=>?_
  have hn0:({ m with wl:=m.next}:Vo).next=m.next:=rfl
  refine⟨⟨hm1.ext.next,fun b hb=>(hm1.ext.same b hb).trans HD,by have:=hm1.ext.wl; rw[hn0] at this; exact SC (Uh (Nat.min_self _).symm) this⟩,?_⟩
  have hlen:((r.map (·.2)).mergeSort er).length=r.length:=by rw[List.length_mergeSort,Sz]
  rcases hm1.get (k:=0) rfl with⟨e3,e2,rfl,_⟩|⟨b,tg,rfl,g1,g2,g3,g4,g5,g6,g7⟩
  have e4:=T1.1 e2;rw[e4] at he;unfold mO at he;rw[R7 rfl] at he;cases he;exact .inl ⟨rfl,by rw[e3],rfl⟩
  have hr:r≠[]:=fun e=>by cases ha6 e
  have hs:(r.map (·.2)).mergeSort er≠[]:=fun e=>hr (T1.1 (SN.1 (by rw[<-List.length_mergeSort (le:=er),e]; rfl)))
  unfold mO at he;rw[R6 hs,hlen] at he;cases he;exact .inr ⟨b,_,tg,4,r.length,by decide,by rw[sJ,hlen],SC (oh (by simpa using hc.2)) (by decide),rfl,rfl,g1,g2,g3,g6,oD _,rfl⟩
def pA:EnvOk (Vr (some lL) none):=su (E:=Vr none none) sN (pr:=(Vr (some lL) none).cZ) fun f P hp=>by
  by_cases e:f=65
  subst e;have hp':some lL=some P:=hp;cases hp';exact .inr fun args m v m' h j w args' hm hl=>wg h _ hm hl
  refine .inl ?_;have:(Vr (some lL) none).cZ f=(Vr none none).cZ f:=by
    show(if f=65 then _ else _)=(if f=65 then _ else _)
    rw[R6 e,R6 e]
  rw[<-this]; exact hp
def IE{q:Option Prim}(n:Nat)(l1:Ut)(l5:Ur)(a2:Uw)(c3:Nat)(a6:Uw)(c7:Nat)(rr8:Ux)(es9:Uv)(r:List fN)(hF:KF n l1 l5=some r)(m:Vo)(h4:Rd m a2 c3 2 l1.length (l1.map xy))(h10:Rd m a6 c7 2 l5.length es9)(h11:(bT ai rr8 l5 es9).P m) :
    aC (Vr (some lL) q) 65 [.agg #[.slice a2 l1.length c3,.slice a6 l5.length c7]] m (fun v m'=>∃x:Uw×Nat,v=.slice x.1 x.2 x.2/\Hp m m' [.sl x.1 4 x.2 (r.map (eP (eI .i64) (eP (eI .i64) (eP (eI .i64) (eI .i64)))))]):=by
  have hrun:=zk (x:=(l1,l5)) ⟨a2,c3,a6,c7,rr8,es9,rfl,h4,h10,h11⟩ hF;unfold mO at hrun
  by_cases hr:r=[]
  rw[R7 hr] at hrun;refine aC.cZ (p:=lL) rfl hrun ⟨(none,0),rfl,?_⟩;subst hr;exact(Vd 4 rfl) m (UP m)
  rw[R6 hr] at hrun;refine aC.cZ (p:=lL) rfl hrun ⟨(some ⟨m.next,0,none⟩,r.length),rfl,?_⟩
  refine(UP m).cons (by rw[Vo.next_alloc]; exact Nat.le_succ _) ((Ext.refl m).alloc _) (fun b hlt=>by rw[Vo.aZ,UF]) (.inr ⟨m.next,.more 4,rfl,Sc _,by rw[Vo.next_alloc]; exact T3 _,by rw[Vo.aZ,R7 rfl],by simp,fun e he=>?_,.inr rfl,by decide⟩) (fun b' h'=>?_)
  obtain⟨x,_,rfl⟩:=Ts.1 he
  rfl
  cases h'; exact Sc _
end
section
open Go Go.Ab Go.Ab.W
set_option maxRecDepth 10000
set_option maxHeartbeats 4000000
attribute [local irreducible] Wo Wk At Wn Od Ox bo cb
attribute [local irreducible] Tm.at Trie.set Trie.get Vo.get Vo.set Vo.alloc Vo.ww Vo.kill
variable{p q:Option Prim}
def gE:∀b o,aF (Vr p q).P 26 (ptr b o) 0=some (ptr b (o+0)):=fun _ _=>by kernel_rfl
instance:FaC (Vr p q).P 26 0 0:=⟨gE⟩
def qb:TyI (Vr p q).P 23 false 1:=⟨by kernel_rfl,by kernel_rfl,by kernel_rfl⟩
instance:TyC (Vr p q).P 23 false 1:=⟨qb⟩
def N4:(Vr p q).P.underlying 23=some (.slice 38):=by kernel_rfl
instance:UsC (Vr p q).P 23 38:=⟨N4⟩
def ue:SlT (Vr p q).P 23 38 2:=SlT.of (by kernel_rfl)
instance:SlC (Vr p q).P 23 38 2:=⟨ue⟩
def bJ:TyI (Vr p q).P 38 true 2:=⟨by kernel_rfl,by kernel_rfl,by kernel_rfl⟩
instance:TyC (Vr p q).P 38 true 2:=⟨bJ⟩
def iv:bu (Vr p q).P 38=some (.agg #[.int .i64 0,.int .i64 0]):=by kernel_rfl
def dv:∀b o,aF (Vr p q).P 38 (ptr b o) 0=some (ptr b (o+0)):=fun _ _=>by kernel_rfl
instance:FaC (Vr p q).P 38 0 0:=⟨dv⟩
def cH:∀b o,aF (Vr p q).P 38 (ptr b o) 1=some (ptr b (o+1)):=fun _ _=>by kernel_rfl
instance:FaC (Vr p q).P 38 1 1:=⟨cH⟩
def BN:Iq (Vr p q).P 38 3 3 .i64 .i64=true:=by kernel_rfl
def Ph:(Vr p q).P.underlying 99=some (.map 38 4):=by kernel_rfl
def z4:bu (Vr p q).P 4=some (.bool false):=by kernel_rfl
def QO:bu (Vr p q).P 101=some (.nilFunc):=by kernel_rfl
def OZ:TyI (Vr p q).P 101 false 1:=⟨by kernel_rfl,by kernel_rfl,by kernel_rfl⟩
instance:TyC (Vr p q).P 101 false 1:=⟨OZ⟩
def vV:BdT (Vr p q).P 38 (.agg #[.int .i64 0,.int .i64 0]) [(0,1),(1,1)]:=.mk' (by kernel_rfl) (by kernel_rfl)
def Rj:(Vr p q).P.underlying 41=some (.slice 38):=by kernel_rfl
instance:UsC (Vr p q).P 41 38:=⟨Rj⟩
def BO:SlT (Vr p q).P 41 38 2:=SlT.of (by kernel_rfl)
instance:SlC (Vr p q).P 41 38 2:=⟨BO⟩
def z3:bu (Vr p q).P 3=some (.int .i64 0):=by kernel_rfl
def OP:TyI (Vr p q).P 41 false 1:=⟨by kernel_rfl,by kernel_rfl,by kernel_rfl⟩
instance:TyC (Vr p q).P 41 false 1:=⟨OP⟩
def z159:bu (Vr p q).P 159=some (.agg #[.int .i64 0,.int .i64 0,.int .i64 0,.int .i64 0,.int .i64 0]):=by kernel_rfl
def vz:BdT (Vr p q).P 159 (.agg #[.int .i64 0,.int .i64 0,.int .i64 0,.int .i64 0,.int .i64 0]) [(0,1),(1,2),(3,2)]:=.mk' (by kernel_rfl) (by kernel_rfl)
def P8:TyI (Vr p q).P 159 true 5:=⟨by kernel_rfl,by kernel_rfl,by kernel_rfl⟩
instance:TyC (Vr p q).P 159 true 5:=⟨P8⟩
def fH:∀b o,aF (Vr p q).P 159 (ptr b o) 1=some (ptr b (o+1)):=fun _ _=>by kernel_rfl
instance:FaC (Vr p q).P 159 1 1:=⟨fH⟩
def gQ:∀b o,aF (Vr p q).P 159 (ptr b o) 2=some (ptr b (o+3)):=fun _ _=>by kernel_rfl
instance:FaC (Vr p q).P 159 2 3:=⟨gQ⟩
def DF:∀(x0 y0:Int) (x1 y1:Int),jY (Vr p q).P Op.maxDepth 38 (.agg #[aL x0,aL x1]) (.agg #[aL y0,aL y1])=some (decide (x0=y0)&&decide (x1=y1)):=fun x0 y0 x1 y1=>LM BN x0 y0 x1 y1
def Ej:(Vr p q).P.eqGuardType (Vr p q).P.depth 38=false:=by kernel_rfl
def px:∀b o,aF (Vr p q).P 159 (ptr b o) 0=some (ptr b (o+0)):=fun _ _=>by kernel_rfl
instance:FaC (Vr p q).P 159 0 0:=⟨px⟩
def Ro:bu (Vr p q).P 176=some (.agg #[.int .i64 0,.int .i64 0,.int .i64 0,.int .i64 0,.int .i64 0,.int .i64 0,.int .i64 0,.int .i64 0]):=by kernel_rfl
def Pq:BdT (Vr p q).P 176 (.agg #[.int .i64 0,.int .i64 0,.int .i64 0,.int .i64 0,.int .i64 0,.int .i64 0,.int .i64 0,.int .i64 0]) [(0,2),(2,2),(4,2),(6,2)]:=.mk' (by kernel_rfl) (by kernel_rfl)
def ze:ArT (Vr p q).P 176 38 4 2:=⟨by kernel_rfl,by kernel_rfl,by kernel_rfl⟩
instance:ArC (Vr p q).P 176 38 4 2:=⟨ze⟩
def u4:(Vr p q).P.underlying 4=some (.bool):=by kernel_rfl
def Q3:bu (Vr p q).P 133=some (.map none):=by kernel_rfl
def P6:TyI (Vr p q).P 133 false 1:=⟨by kernel_rfl,by kernel_rfl,by kernel_rfl⟩
instance:TyC (Vr p q).P 133 false 1:=⟨P6⟩
def PH:(Vr p q).P.underlying 133=some (.map 123 4):=by kernel_rfl
def Q9:bu (Vr p q).P 134=some (.slice none 0 0):=by kernel_rfl
def OC:TyI (Vr p q).P 134 false 1:=⟨by kernel_rfl,by kernel_rfl,by kernel_rfl⟩
instance:TyC (Vr p q).P 134 false 1:=⟨OC⟩
def Py:(Vr p q).P.underlying 134=some (.slice 122):=by kernel_rfl
instance:UsC (Vr p q).P 134 122:=⟨Py⟩
def J4:SlT (Vr p q).P 134 122 4:=SlT.of (by kernel_rfl)
instance:SlC (Vr p q).P 134 122 4:=⟨J4⟩
def z138:bu (Vr p q).P 138=some (.nilFunc):=by kernel_rfl
def EW:TyI (Vr p q).P 138 false 1:=⟨by kernel_rfl,by kernel_rfl,by kernel_rfl⟩
instance:TyC (Vr p q).P 138 false 1:=⟨EW⟩
def w7:∀b o,aF (Vr p q).P 122 (ptr b o) 3=some (ptr b (o+3)):=fun _ _=>by kernel_rfl
instance:FaC (Vr p q).P 122 3 3:=⟨w7⟩
def R4:bu (Vr p q).P 92=some (.map none):=by kernel_rfl
def Bb:TyI (Vr p q).P 92 false 1:=⟨by kernel_rfl,by kernel_rfl,by kernel_rfl⟩
instance:TyC (Vr p q).P 92 false 1:=⟨Bb⟩
def z93:bu (Vr p q).P 93=some (.nilFunc):=by kernel_rfl
def FV:TyI (Vr p q).P 93 false 1:=⟨by kernel_rfl,by kernel_rfl,by kernel_rfl⟩
instance:TyC (Vr p q).P 93 false 1:=⟨FV⟩
def qe:∀b o,aF (Vr p q).P 64 (ptr b o) 0=some (ptr b (o+0)):=fun _ _=>by kernel_rfl
instance:FaC (Vr p q).P 64 0 0:=⟨qe⟩
def pO:∀b o,aF (Vr p q).P 64 (ptr b o) 1=some (ptr b (o+1)):=fun _ _=>by kernel_rfl
instance:FaC (Vr p q).P 64 1 1:=⟨pO⟩
def z67:bu (Vr p q).P 67=some (.agg #[.int .i64 0,.int .i64 0]):=by kernel_rfl
def II:BdT (Vr p q).P 67 (.agg #[.int .i64 0,.int .i64 0]) [(0,1),(1,1)]:=.mk' (by kernel_rfl) (by kernel_rfl)
def LO:ArT (Vr p q).P 67 3 2 1:=⟨by kernel_rfl,by kernel_rfl,by kernel_rfl⟩
instance:ArC (Vr p q).P 67 3 2 1:=⟨LO⟩
def N9:(Vr p q).P.underlying 92=some (.map 3 3):=by kernel_rfl
def Fq{n x1 x2 r}(hF:Oh n x1 x2=some r)(m):
 aC (Vr p q) 56 [eU x1 x2] m (Vn m (.bool r)):=by
 unfold Oh at hF;refine cw Tryz.func56 (UP m) ?_;refine wz ?_;refine wb fun b3=>?_;refine an ?_;refine UH (fp rfl rfl (gp _ _)) rfl ?_;refine wz ?_;rcases U hF with⟨h4,hF⟩|⟨h4,hF⟩;refine an ?_;cases hF;exact ar () [];refine wz ?_;refine UZ (fp rfl rfl (j6 _ _)) (gg rfl rfl (iM h4)) rfl ?_;refine an ?_;cases hF;exact ar () []
def MG{n l1 a2 c3 r}(hF:Ob n l1=some r)(m)(h4:qY m a2 c3 l1):
 aC (Vr p q) 77 [bl a2 l1 c3] m (Vn m (.int .i64 r)):=by
 unfold Ob at hF;refine cw Tryz.func77 (UT (UP m) bQ h4) ?_;refine an ?_;rcases U hF with⟨h6,hF⟩|⟨h6,hF⟩;refine U8 rfl h6 ?_;cases hF;refine an ?_;obtain⟨h7,hF⟩:=bI hF;refine UY (k:=0) rfl (az h7) ?_;rintro b8 o9 rfl;refine wz ?_;obtain⟨x10,h11,hF⟩:=J hF;refine an ?_;refine UK ?_;obtain⟨v22,h27,hF⟩:=J hF;refine ct (fun v22 (_:Unit)=>⟨(.exit 0),[(3,aL v22)],[]⟩) v22 ?_ ?_;refine lo h27 () [0,1] (fun(v14,v15) _=>⟨.normal,[(0,nL b8 o9 l1 c3),(3,aL v14),(4,aL v15)],(oU b8 o9 l1 c3 [])⟩) ?_;clear hF h27;rintro⟨v14,v15⟩ ⟨⟩ r hF;unfold yV at hF;refine wz ?_;rcases U hF with⟨h23,hF⟩|⟨h23,hF⟩;refine an ?_;obtain⟨h24,hF⟩:=bI hF;refine wz ?_;obtain⟨x25,h26,hF⟩:=J hF;refine wz ?_;refine UH (fp rfl rfl (gp _ _)) rfl ?_;refine an ?_;cases hF;exact ae () [0,1];refine wz ?_;cases hF;exact ae () [];rintro⟨⟩;refine dM ?_;obtain rfl:=R9 hF;exact ar () []
def Mg{n l1 a2 c3 r}(hF:Oi n l1=some r)(m)(h4:qY m a2 c3 l1):
 aC (Vr p q) 78 [bl a2 l1 c3] m (Vn m (.int .i64 r)):=by
 unfold Oi at hF;refine cw Tryz.func78 (UT (UP m) bQ h4) ?_;refine an ?_;rcases U hF with⟨h6,hF⟩|⟨h6,hF⟩;refine U8 rfl h6 ?_;cases hF;refine an ?_;obtain⟨h7,hF⟩:=bI hF;refine UY (k:=0) rfl (az h7) ?_;rintro b8 o9 rfl;refine wz ?_;obtain⟨x10,h11,hF⟩:=J hF;refine an ?_;refine UK ?_;obtain⟨v22,h27,hF⟩:=J hF;refine ct (fun v22 (_:Unit)=>⟨(.exit 0),[(3,aL v22)],[]⟩) v22 ?_ ?_;refine lo h27 () [0,1] (fun(v14,v15) _=>⟨.normal,[(0,nL b8 o9 l1 c3),(3,aL v14),(4,aL v15)],(oU b8 o9 l1 c3 [])⟩) ?_;clear hF h27;rintro⟨v14,v15⟩ ⟨⟩ r hF;unfold zY at hF;refine wz ?_;rcases U hF with⟨h23,hF⟩|⟨h23,hF⟩;refine an ?_;obtain⟨h24,hF⟩:=bI hF;refine wz ?_;obtain⟨x25,h26,hF⟩:=J hF;refine wz ?_;refine UH (fp rfl rfl (j6 _ _)) rfl ?_;refine an ?_;cases hF;exact ae () [0,1];refine wz ?_;cases hF;exact ae () [];rintro⟨⟩;refine dM ?_;obtain rfl:=R9 hF;exact ar () []
def oH{n l1 l5 l12 x16 a2 c3 a6 c7}{rr8:Ux}{es9:Uv}{a13 c14 r}(hF:Ic n l1 l5 l12 x16=some r)(m)(h4:dA m a2 c3 l1)(h10:fa m a6 c7 l5 es9)(h11:(bT ai rr8 l5 es9).P m)(h15:qY m a13 c14 l12):
 aC (Vr p q) 53 [dZ a2 l1 c3 a6 l5 c7,bl a13 l12 c14,aL x16] m (fun v m'=>∃x:Uw×Nat,v=.slice x.1 x.2 x.2/\Hp m m' [.sl x.1 2 x.2 (r.map (eP (eI .i64) (eI .i64)))]):=by
 unfold Ic at hF;refine cw Tryz.func53 (UT (U5 (UT (UT (UP m) bQ h4) (bO bQ) h10) (bO (bO bQ)) h11) (B2 (bO (bO bQ))) h15) ?_;refine wz ?_;refine wb fun b17=>?_;refine dM ?_;refine UK ?_;obtain⟨l58,h76,hF⟩:=J hF;refine ct (fun l58 (a59:Uw)=>⟨(.exit 0),[(7,bU a59 l58)],[de a59 l58]⟩) l58 ?_ ?_;refine lw h76 none (fun(l36,v38) a37=>⟨.normal,((2,aL x16)::(3,ptr b17 0)::(7,bU a37 l36)::zP a13 l12 c14 v38 []),(cR b17 a2 l1 c3 a6 l5 c7 es9 ai rr8 [de a37 l36,k9 a13 c14 l12])⟩) (UQ (Vd 2 rfl) (UN [1,5,4,3,0,2] rfl rfl)) ?_;clear hF h76;rintro⟨l36,v38⟩ a37 r hF;unfold zA at hF;refine wz ?_;refine UJ ?_;rcases U hF with⟨h60,hF⟩|⟨h60,hF⟩;refine an ?_;obtain⟨h61,hF⟩:=bI hF;refine UY (k:=5) rfl (az h61) ?_;rintro b62 o63 rfl;refine wz ?_;obtain⟨x64,h65,hF⟩:=J hF;refine an ?_;obtain⟨h66,hF⟩:=bI hF;refine UY (k:=2) rfl (az h66) ?_;rintro b67 o68 rfl;refine wz ?_;obtain⟨⟨x69,x70⟩,h71,hF⟩:=J hF;refine wz ?_;refine UH (aI rfl rfl (cz _ _ _)) rfl ?_;refine wz ?_;obtain⟨h72,hF⟩:=bI hF;refine wz ?_;refine UH (aI rfl rfl (cz _ _ _)) rfl<|UH (cj rfl iv rfl (cm vV rfl rfl rfl)) rfl<|UX (cu (es:=([(UD (x16*x69),UD (x16*x70))]:Ut).map (eP (eI .i64) (eI .i64))) BO rfl (cx BO iv rfl rfl) rfl rfl) gn rfl fun b73=>?_;obtain⟨h74,hF⟩:=aA hF;refine UX (ph (k:=7) (k2:=0) (xs:=(l36:Ut)) (ys:=([(UD (x16*x69),UD (x16*x70))]:Ut)) (Ar (py .i64) (py .i64)) BO ⟨_,Rj⟩ rfl rfl rfl (.arr _ _ _ _ _) h74) gn rfl fun a75=>?_;refine an ?_;cases hF;exact ae a75 (Vh 3 6);refine wz ?_;cases hF;exact ae a37 [4];rintro a59;refine dM ?_;obtain rfl:=R9 hF;exact ar (a59,l58.length) [0]
def oW{n x1 x2 r}(hF:xq n x1 x2=some r)(m):
 aC (Vr p q) 133 [eU x1 x2] m (Vn m (.bool r)):=by
 unfold xq at hF;refine cw Tryz.func133 (UP m) ?_;refine wz ?_;refine wb fun b3=>?_;refine an ?_;refine UH (AA rfl (LB _)) rfl ?_;refine wz ?_;refine UH (AA rfl (LB _)) rfl ?_;obtain⟨y4,h5,hF⟩:=J hF;refine UH (fp rfl rfl (fun m=>(NP _ _ _ _ m).trans (RN h5))) rfl ?_;refine wz ?_;rcases U hF with⟨h6,hF⟩|⟨h6,hF⟩;refine an ?_;cases hF;exact ar () [];refine wz ?_;refine UZ (fp rfl rfl (gp _ _)) (gg rfl rfl (iM h6)) rfl ?_;refine an ?_;cases hF;exact ar () []
def Cp{n x1 r}(hF:FG n x1=some r)(m):
 aC (Vr p q) 161 [aL x1] m (Vn m (.bool r)):=by
 unfold FG at hF;refine cw Tryz.func161 (UP m) ?_;refine dM ?_;cases hF;exact ar () []
def wo{n x1 x2 r}(hF:Bm n x1 x2=some r)(m):
 aC (Vr p q) 152 [aL x1,aL x2] m (Vn m (.int .i64 r)):=by
 unfold Bm at hF;refine cw Tryz.func152 (UP m) ?_;refine an ?_;obtain⟨r4,h3,hF⟩:=J hF;refine wc gn (fun m hm=>Cp h3 m) ?_;rintro⟨⟩;refine an ?_;obtain⟨r6,h5,hF⟩:=J hF;refine wc gn (fun m hm=>Cp h5 m) ?_;rintro⟨⟩;refine an ?_;rcases U hF with⟨h7,hF⟩|⟨h7,hF⟩;refine wz ?_;rcases U hF with⟨h8,hF⟩|⟨h8,hF⟩;refine an ?_;cases hF;exact ar () [];refine dM ?_;cases hF;exact ar () [];refine an ?_;rcases U hF with⟨h9,hF⟩|⟨h9,hF⟩;refine an ?_;cases hF;exact ar () [];refine an ?_;rcases U hF with⟨h10,hF⟩|⟨h10,hF⟩;refine an ?_;cases hF;exact ar () [];refine an ?_;rcases U hF with⟨h11,hF⟩|⟨h11,hF⟩;refine an ?_;cases hF;exact ar () [];refine dM ?_;cases hF;exact ar () []
def nA{n x1 x2 x3 x4 x5 x6 r}(hF:uf n x1 x2 x3 x4 x5 x6=some r)(m):
 aC (Vr p q) 135 [eU x1 x2,eU x3 x4,eU x5 x6] m (Vn m (.int .i64 r)):=by
 unfold uf at hF;refine cw Tryz.func135 (UP m) ?_;refine wz ?_;refine wb fun b7=>?_;refine wb fun b8=>?_;refine wb fun b9=>?_;refine wz ?_;refine UJ<|UM<|UH (aM (r:=ptr b8 0) rfl (dv _ _)) rfl<|UH (aD (k:=1) bX rfl rfl rfl) rfl<|UH (aM (r:=ptr b7 0) rfl (dv _ _)) rfl<|UH (aD (k:=2) bX rfl rfl rfl) rfl<|UH (aI rfl rfl (bN _ _ _)) rfl<|UH (aM (r:=ptr b9 1) rfl (cH _ _)) rfl<|UH (aD (k:=0) bX rfl rfl rfl) rfl<|UH (aM (r:=ptr b7 1) rfl (cH _ _)) rfl<|UH (aD (k:=2) bX rfl rfl rfl) rfl<|UH (aI rfl rfl (bN _ _ _)) rfl ?_;obtain⟨y10,h11,hF⟩:=J hF;refine UH (aI rfl rfl ((cz _ _ _).trans (cI h11))) rfl<|UH (aM (r:=ptr b8 1) rfl (cH _ _)) rfl<|UH (aD (k:=1) bX rfl rfl rfl) rfl<|UH (aM (r:=ptr b7 1) rfl (cH _ _)) rfl<|UH (aD (k:=2) bX rfl rfl rfl) rfl<|UH (aI rfl rfl (bN _ _ _)) rfl<|UH (aM (r:=ptr b9 0) rfl (dv _ _)) rfl<|UH (aD (k:=0) bX rfl rfl rfl) rfl<|UH (aM (r:=ptr b7 0) rfl (dv _ _)) rfl<|UH (aD (k:=2) bX rfl rfl rfl) rfl<|UH (aI rfl rfl (bN _ _ _)) rfl ?_;obtain⟨y12,h13,hF⟩:=J hF;refine UH (aI rfl rfl ((cz _ _ _).trans (cI h13))) rfl ?_;obtain⟨r15,h14,hF⟩:=J hF;refine wc gn (fun m hm=>wo h14 m) ?_;rintro⟨⟩;refine an ?_;obtain rfl:=R9 hF;exact ar () []
def JG{n l1 a2 c3 r}(hF:Hs n l1=some r)(m)(h4:qY m a2 c3 l1):
 aC (Vr p q) 165 [bl a2 l1 c3] m (Vn m (.int .i64 r)):=by
 unfold Hs at hF;refine cw Tryz.func165 (UT (UP m) bQ h4) ?_;refine dM ?_;refine UK ?_;obtain⟨r24,h23,hF⟩:=J hF;refine ct (fun(r:(Int) ⊕(Unit)) (g:Unit)=>match r,g with|.inl v15,_=>⟨.ret,[(2,aL v15)],[]⟩|.inr _,_=>⟨(.exit 0),[(3,.int .i64 0)],[]⟩) r24 ?_ ?_
 refine lo h23 () [0] (fun v6 _=>⟨.normal,[(3,.int .i64 0),(6,bl a2 l1 c3),(7,eh l1),(8,aL v6)],[k9 a2 c3 l1]⟩) ?_;clear hF h23;rintro v6 ⟨⟩ r hF;unfold mw at hF;refine wz ?_;refine UJ ?_;rcases U hF with⟨h16,hF⟩|⟨h16,hF⟩;refine an ?_;obtain⟨h17,hF⟩:=bI hF;refine UY (k:=0) rfl (az h17) ?_;rintro b18 o19 rfl;refine wz ?_;obtain⟨x20,h21,hF⟩:=J hF;refine an ?_;rcases U hF with⟨h22,hF⟩|⟨h22,hF⟩;refine an ?_;cases hF;exact ae () [];refine an ?_;cases hF;exact ae () [1];refine wz ?_;cases hF;exact ae () [];rcases r24 with v15|_;rintro⟨⟩;refine wz ?_;obtain rfl:=R9 hF;exact ar () [];rintro⟨⟩;refine dM ?_;cases hF;exact ar () []
def xb{n x1 x2 x3 x4 r}(hF:xf n x1 x2 x3 x4=some r)(m):
 aC (Vr p q) 162 [eU x1 x2,eU x3 x4] m (Vn m (.int .i64 r)):=by
 unfold xf at hF;refine cw Tryz.func162 (UP m) ?_;refine wz ?_;refine wb fun b5=>?_;refine wb fun b6=>?_;refine wz ?_;refine UJ<|U3 (prs:=[(4,6),(4,8)]) (by kernel_rfl)<|UI (aM (r:=ptr b5 0) rfl (dv _ _)) rfl<|UI (aD (k:=1) bX rfl rfl rfl) rfl<|UI (aM (r:=ptr b6 0) rfl (dv _ _)) rfl<|UI (aD (k:=0) bX rfl rfl rfl) rfl ?_
 obtain⟨r8,h7,hF⟩:=J hF;refine nc gn (fun m hm=>wo h7 m) ?_;rintro⟨⟩;refine UI (aM (r:=ptr b5 1) rfl (cH _ _)) rfl<|UI (aD (k:=1) bX rfl rfl rfl) rfl<|UI (aM (r:=ptr b6 1) rfl (cH _ _)) rfl<|UI (aD (k:=0) bX rfl rfl rfl) rfl ?_;obtain⟨r10,h9,hF⟩:=J hF;refine nc gn (fun m hm=>wo h9 m) ?_;rintro⟨⟩;refine Va (cu (es:=([r8,r10]:List (Int)).map (eI .i64)) fu rfl (cx fu z3 rfl rfl) rfl rfl) gn rfl fun b11=>?_;obtain⟨r13,h12,hF⟩:=J hF;refine nc gn (fun m hm=>JG h12 m (hm.q 0)) ?_;rintro⟨⟩;refine UI (bH rfl) rfl<|U0 (fun m hm=>cq.all rfl) ?_;refine an ?_;obtain rfl:=R9 hF;exact ar () []
def BZ{n x1 x2 x3 x4 x5 x6 x7 r}(hF:Dh n x1 x2 x3 x4 x5 x6 x7=some r)(m):
 aC (Vr p q) 153 [MS x1 x2 x3 x4 x5,eU x6 x7] m (Vn m (.bool r)):=by
 unfold Dh at hF;refine cw Tryz.func153 (UP m) ?_;refine wz ?_;refine wb fun b8=>?_;refine wb fun b9=>?_;refine an ?_;obtain⟨r11,h10,hF⟩:=J hF;refine wc gn (fun m hm=>nA h10 m) ?_;rintro⟨⟩;refine wz ?_;rcases U hF with⟨h12,hF⟩|⟨h12,hF⟩;refine an ?_;cases hF;exact ar () [];refine wz ?_;refine UJ<|U3 (prs:=[(3,6)]) (by kernel_rfl)<|UI (aM (r:=ptr b8 1) rfl (fH _ _)) rfl<|UI (aD (k:=1) bJ rfl rfl rfl) rfl<|UI (aM (r:=ptr b8 3) rfl (gQ _ _)) rfl<|U6 rfl (aD (k:=1) bJ rfl rfl rfl) rfl<|Va (jR iv rfl) gn rfl fun b13=>?_
 refine Va (jR iv rfl) gn rfl fun b14=>?_;refine Wn.AR rfl (dK (k:=1) bJ rfl rfl rfl rfl rfl)<|Vc (dK (k:=0) bJ rfl rfl rfl rfl rfl)<|U0 (fun m hm=>(cq.rw rfl rfl rfl (hm.ne (i:=3) (j:=1) rfl rfl rfl rfl (by decide) rfl) cq.nil))<|US<|UJ ?_
 obtain⟨r26,h25,hF⟩:=J hF;refine ct (fun(v18,v19,v20,v21) (_:Unit)=>⟨.normal,[(3,ptr b9 0),(5,ptr b13 0),(6,ptr b14 0)],[cS b9 x6 x7,cS b13 v18 v19,cS b14 v20 v21]⟩) r26 ?_ ?_;clear hF;revert r26;intro r hF;refine wz ?_;obtain⟨r23,h22,hF⟩:=J hF;refine wc gn (fun m hm=>xb h22 m) ?_;rintro⟨⟩;refine wz ?_;rcases U hF with⟨h24,hF⟩|⟨h24,hF⟩;refine wz ?_;cases hF;exact ae () [2,1,0];refine wz ?_;cases hF;exact ae () [2,1,0];clear h25;obtain⟨v18,v19,v20,v21⟩:=r26;rintro⟨⟩;refine an ?_;obtain⟨r28,h27,hF⟩:=J hF;refine wc gn (fun m hm=>xb h27 m) ?_;rintro⟨⟩;refine wz ?_;rcases U hF with⟨h29,hF⟩|⟨h29,hF⟩;refine wz ?_;obtain⟨r31,h30,hF⟩:=J hF;refine wc (gg rfl rfl (dJ h29)) (fun m hm=>xb h30 m) ?_;rintro⟨⟩;refine an ?_;cases hF;exact ar () [];refine an ?_;cases hF;exact ar () []
def Cy{n x1 x2 x3 x4 x5 x6 x7 x8 x9 x10 r}(hF:Dd n x1 x2 x3 x4 x5 x6 x7 x8 x9 x10=some r)(m):
 aC (Vr p q) 136 [MS x1 x2 x3 x4 x5,MS x6 x7 x8 x9 x10] m (Vn m (.int .i64 r)):=by
 unfold Dd at hF;refine cw Tryz.func136 (UP m) ?_;refine wz ?_;refine wb fun b0=>?_;refine wb fun b1=>?_;refine wz ?_;refine UJ<|U3 (prs:=[(6,8),(6,10),(6,12)]) (by kernel_rfl)<|UI (aM (r:=ptr b0 1) rfl (fH _ _)) rfl<|UI (aD (k:=1) bJ rfl rfl rfl) rfl<|UI (aM (r:=ptr b0 3) rfl (gQ _ _)) rfl<|UI (aD (k:=1) bJ rfl rfl rfl) rfl<|UI (aM (r:=ptr b1 1) rfl (fH _ _)) rfl<|UI (aD (k:=0) bJ rfl rfl rfl) rfl ?_
 obtain⟨r0,h8,hF⟩:=J hF;refine nc gn (fun m hm=>nA h8 m) ?_;rintro⟨⟩;refine UI (aM (r:=ptr b0 1) rfl (fH _ _)) rfl<|UI (aD (k:=1) bJ rfl rfl rfl) rfl<|UI (aM (r:=ptr b0 3) rfl (gQ _ _)) rfl<|UI (aD (k:=1) bJ rfl rfl rfl) rfl<|UI (aM (r:=ptr b1 3) rfl (gQ _ _)) rfl<|UI (aD (k:=0) bJ rfl rfl rfl) rfl ?_;obtain⟨r1,h9,hF⟩:=J hF;refine nc gn (fun m hm=>nA h9 m) ?_;rintro⟨⟩;refine UI (bH rfl) rfl<|UI (bH rfl) rfl<|U0 (fun m hm=>cq.all rfl)<|US<|UJ<|U3 (prs:=[(6,8),(6,10),(6,12)]) (by kernel_rfl)<|UI (aM (r:=ptr b1 1) rfl (fH _ _)) rfl<|UI (aD (k:=0) bJ rfl rfl rfl) rfl<|UI (aM (r:=ptr b1 3) rfl (gQ _ _)) rfl<|UI (aD (k:=0) bJ rfl rfl rfl) rfl<|UI (aM (r:=ptr b0 1) rfl (fH _ _)) rfl<|UI (aD (k:=1) bJ rfl rfl rfl) rfl ?_
 obtain⟨r3,h10,hF⟩:=J hF;refine nc gn (fun m hm=>nA h10 m) ?_;rintro⟨⟩;refine UI (aM (r:=ptr b1 1) rfl (fH _ _)) rfl<|UI (aD (k:=0) bJ rfl rfl rfl) rfl<|UI (aM (r:=ptr b1 3) rfl (gQ _ _)) rfl<|UI (aD (k:=0) bJ rfl rfl rfl) rfl<|UI (aM (r:=ptr b0 3) rfl (gQ _ _)) rfl<|UI (aD (k:=1) bJ rfl rfl rfl) rfl ?_;obtain⟨r4,h11,hF⟩:=J hF;refine nc gn (fun m hm=>nA h11 m) ?_;rintro⟨⟩;refine UI (bH rfl) rfl<|UI (bH rfl) rfl<|U0 (fun m hm=>cq.all rfl) ?_;refine an ?_;refine UX Gt gn rfl fun b2=>?_;refine an ?_;refine UH (cj rfl Ro rfl (cm Pq rfl rfl rfl)) rfl ?_;refine wz ?_;refine UK ?_;obtain⟨l1,h1,hF⟩:=J hF;refine ct (fun l1 (_:Unit)=>⟨(.exit 0),[(5,aL r0),(6,aL r1),(7,aL r3),(8,aL r4),(9,.map (some b2))],[.obj b2 (.map (l1.map (eM (fun p:Int×Int=>.agg #[.int .i64 p.1,.int .i64 p.2]) (fun b:Bool=>.bool b))))]⟩) l1 ?_ ?_;refine lo h1 () [2,1,0] (fun(l2,v0) _=>⟨.normal,(ra b0 b1 [(5,aL r0),(6,aL r1),(7,aL r3),(8,aL r4),(9,.map (some b2)),(49,NI x2 x3 x4 x5 x7 x8 x9 x10),(50,aL v0)]),[gN b0 x1 x2 x3 x4 x5,gN b1 x6 x7 x8 x9 x10,.obj b2 (.map (l2.map (eM (fun p:Int×Int=>.agg #[.int .i64 p.1,.int .i64 p.2]) (fun b:Bool=>.bool b))))]⟩) ?_;clear hF h1;rintro⟨l2,v0⟩ ⟨⟩ r hF;unfold lQ at hF;refine wz ?_;refine UJ ?_;rcases U hF with⟨h12,hF⟩|⟨h12,hF⟩;refine wz ?_;refine UJ ?_;obtain⟨l3,h13,hF⟩:=J hF;refine ct (fun l3 (_:Unit)=>⟨.normal,(ra b0 b1 [(5,aL r0),(6,aL r1),(7,aL r3),(8,aL r4),(9,.map (some b2)),(49,NI x2 x3 x4 x5 x7 x8 x9 x10),(50,aL v0)]),[gN b0 x1 x2 x3 x4 x5,gN b1 x6 x7 x8 x9 x10,.obj b2 (.map (l3.map (eM (fun p:Int×Int=>.agg #[.int .i64 p.1,.int .i64 p.2]) (fun b:Bool=>.bool b))))]⟩) l3 ?_ ?_;clear hF;revert l3;intro r hF;refine wz ?_;obtain⟨h14,hF⟩:=aA hF;obtain⟨⟨x11,x12⟩,h0,hF⟩:=J hF;refine UX (yH (α:=Unit) (V:=fun g=>match g with|_=>.agg #[aL x11,aL x12]) (N:=fun g=>match g with|_=>[]++[gN b0 x1 x2 x3 x4 x5,gN b1 x6 x7 x8 x9 x10,.obj b2 (.map (l2.map (eM (fun p:Int×Int=>.agg #[.int .i64 p.1,.int .i64 p.2]) (fun b:Bool=>.bool b))))]) rfl rfl (fun m hm=>?_)) gn rfl ?_
 have hj:=kj h14;obtain⟨j,h4⟩:∃j:Nat,(v0:Int)=j:=⟨_,(Ti hj.1).symm⟩;rw[h4] at h0 hj ⊢;rw[Sv] at h0 hj;replace hj:=hj.2;clear hF h4
 match j,hj,h0 with
 | 0,_,h0=>cases h0; exact⟨(),oM ze (i:=0) (by decide) (gK bJ rfl),hm⟩
 | 1,_,h0=>cases h0; exact⟨(),oM ze (i:=1) (by decide) (gK bJ rfl),hm⟩
 | 2,_,h0=>cases h0; exact⟨(),oM ze (i:=2) (by decide) (gK bJ rfl),hm⟩
 | 3,_,h0=>cases h0; exact⟨(),oM ze (i:=3) (by decide) (gK bJ rfl),hm⟩
 | _+4,hj,_=>exact Ss hj (by omega)
 rintro⟨⟩;refine wa iv fun b3=>?_;refine wz ?_;refine UJ ?_;obtain⟨v1,h15,hF⟩:=J hF;refine ct (fun v1 (_:Unit)=>⟨.normal,(ra b0 b1 [(5,aL r0),(6,aL r1),(7,aL r3),(8,aL r4),(9,.map (some b2)),(11,ptr b3 0),(49,NI x2 x3 x4 x5 x7 x8 x9 x10),(50,aL v0),(60,dL v1)]),[gN b0 x1 x2 x3 x4 x5,gN b1 x6 x7 x8 x9 x10,.obj b2 (.map (l2.map (eM (fun p:Int×Int=>.agg #[.int .i64 p.1,.int .i64 p.2]) (fun b:Bool=>.bool b)))),cS b3 x11 x12]⟩) v1 ?_ ?_;clear hF;revert v1;intro r hF;refine wz ?_;obtain⟨r5,h16,hF⟩:=J hF;refine wc gn (fun m hm=>BZ h16 m) ?_;rintro⟨⟩;refine wz ?_;rcases U hF with⟨h5,hF⟩|⟨h5,hF⟩;refine wz ?_;obtain⟨r6,h17,hF⟩:=J hF;refine wc (gg rfl rfl (dJ h5)) (fun m hm=>BZ h17 m) ?_;rintro⟨⟩;refine wz ?_;obtain rfl:=R9 hF;exact ae () [1,2,3,0];refine wz ?_;cases hF;exact ae () [1,2,3,0];rintro⟨⟩;refine US ?_;rcases U hF with⟨h18,hF⟩|⟨h18,hF⟩;refine wz ?_;refine Vf (Dq (q:=2) (xs:=l2) (k:=(x11,x12)) (v:=true) (vE:=(fun b:Bool=>.bool b)) Ph (EG BN) rfl rfl rfl rfl) ?_;refine wz ?_;cases hF;exact ae () [0,1,2];refine wz ?_;obtain rfl:=R9 hF;exact ae () [0,1,2];rintro⟨⟩;refine an ?_;cases hF;exact ae () [0,1,2];refine wz ?_;cases hF;exact ae () [2];rintro⟨⟩;refine an ?_;obtain⟨y0,h2,hF⟩:=J hF;replace h2:=R9 h2;refine UH (A0 (q:=0) (xs:=l1) Ph rfl rfl h2) rfl ?_;refine wz ?_;rcases U hF with⟨h19,hF⟩|⟨h19,hF⟩;refine an ?_;cases hF;exact ar () [];refine wz ?_;obtain⟨y1,h3,hF⟩:=J hF;replace h3:=R9 h3;refine UH (A0 (q:=0) (xs:=l1) Ph rfl rfl h3) rfl ?_;refine wz ?_;rcases U hF with⟨h6,hF⟩|⟨h6,hF⟩;refine an ?_;cases hF;exact ar () [];refine Wk.eY rfl h6<|UJ ?_;obtain⟨v2,h20,hF⟩:=J hF;refine ct (fun v2 (_:Unit)=>⟨.normal,[(72,dL v2)],[]⟩) v2 ?_ ?_;clear hF;revert v2;intro r hF;refine wz ?_;refine UH (aI rfl rfl (cz _ _ _)) rfl ?_;refine wz ?_;rcases U hF with⟨h7,hF⟩|⟨h7,hF⟩;refine wz ?_;refine UZ (aI rfl rfl (cz _ _ _)) (gg rfl rfl (dJ h7)) rfl ?_;refine wz ?_;cases hF;exact ae () [];refine wz ?_;cases hF;exact ae () [];rintro⟨⟩;refine US ?_;rcases U hF with⟨h21,hF⟩|⟨h21,hF⟩;refine an ?_;cases hF;exact ar () [];refine dM ?_;cases hF;exact ar () []
def KD{n l1 a0 c0 r}(hF:Fu n l1=some r)(m)(h14:dA m a0 c0 l1):
 aC (Vr p q) 110 [bl a0 l1 c0] m (Vn m (.tuple #[.int .i64 r.1,.int .i64 r.2])):=by
 unfold Fu at hF;refine cw Tryz.func110 (UT (UP m) bQ h14) ?_;refine wz ?_;refine wb fun b3=>?_;refine wa z3 fun b0=>?_;refine wa z3 fun b1=>?_;refine an ?_;refine wa z3 fun b2=>?_;refine wz ?_;refine UJ<|UJ ?_;obtain⟨v2,h15,hF⟩:=J hF;refine ct (fun v2 (_:Unit)=>⟨.normal,((1,ptr b3 0)::ra b0 b1 [(4,ptr b2 0),(18,dL v2)]),(uA b3 a0 l1 c0 b0 b1 b2 [])⟩) v2 ?_ ?_;clear hF;revert v2;intro r hF;refine wz ?_;rcases U hF with⟨h16,hF⟩|⟨h16,hF⟩;refine wz ?_;cases hF;exact ae () [3,4,2,1,0];refine wz ?_;cases hF;exact ae () [3,4,2,1,0];rintro⟨⟩;refine US ?_;rcases U hF with⟨h17,hF⟩|⟨h17,hF⟩;refine an ?_;cases hF;exact U1 (.cell (k:=2) bX rfl rfl rfl (.cell (k:=3) bX rfl rfl rfl .nil)) fun m' hm=>⟨(),rfl,(UN [] rfl rfl) m' hm⟩;refine an ?_;obtain⟨v3,h18,hF⟩:=J hF;refine wq (fun v3 (_:Unit)=>(.int .i64 v3,(uA b3 a0 l1 c0 b0 b1 b2 []))) v3 (fun m hm=>?_) ?_;clear hF;revert v3;intro r hF;refine aW (N:=19) (rs:=[.tmp 4]) rfl Tryz.func132 rfl rfl rfl hm ?_;refine an ?_;refine UK ?_;obtain⟨r13,h1,hF⟩:=J hF;refine ct (fun(r:(Int) ⊕(Unit)) (g:Unit)=>match r,g with|.inl v8,_=>⟨.ret,[(4,aL v8)],(uA b3 a0 l1 c0 b0 b1 b2 [])⟩|.inr _,_=>⟨(.exit 0),[],(uA b3 a0 l1 c0 b0 b1 b2 [])⟩) r13 ?_ ?_
 refine lo h1 () [1,0,2,3,4] (fun v9 _=>⟨.normal,[(0,bl a0 l1 c0),(1,.func (.func 133) #[] #[]),(7,eh l1),(8,aL v9)],[gr a0 c0 l1,uj b3 a0 l1 c0,dg b0,dg b1,fB b2 l1]⟩) ?_;clear hF h1;rintro v9 ⟨⟩ r hF;unfold tl at hF;refine wz ?_;refine UJ ?_;rcases U hF with⟨h19,hF⟩|⟨h19,hF⟩;refine dM ?_;obtain⟨h20,hF⟩:=bI hF;refine UY (k:=0) rfl (az h20) ?_;rintro b24 o4 rfl;refine wz ?_;obtain⟨⟨x24,x25⟩,h61,hF⟩:=J hF;refine wz ?_;obtain⟨r22,h21,hF⟩:=J hF;refine wc gn (fun m hm=>oW h21 m) ?_;rintro⟨⟩;refine wz ?_;rcases U hF with⟨h22,hF⟩|⟨h22,hF⟩;refine an ?_;cases hF;exact ae () [2,1,3,4,5];refine an ?_;cases hF;exact ae () (Vh 1 5);refine wz ?_;cases hF;exact ae () [1,0,2,3,4];rcases r13 with v8|_;rintro⟨⟩;refine wz ?_;obtain rfl:=R9 hF;exact ar () (Vh 0 5);rintro⟨⟩;refine dM ?_;cases hF;exact ar () (Vh 0 5);rintro⟨⟩;refine an ?_;rcases U hF with⟨h23,hF⟩|⟨h23,hF⟩;refine an ?_;cases hF;exact U1 (.cell (k:=2) bX rfl rfl rfl (.cell (k:=3) bX rfl rfl rfl .nil)) fun m' hm=>⟨(),rfl,(UN [] rfl rfl) m' hm⟩;refine an ?_;obtain⟨r14,h24,hF⟩:=J hF;refine wq (fun _ (b10:Nat)=>(.func (.func 151) #[] #[ptr b10 0],(Dn b10 a0 l1 c0 b3 b0 b1 b2 []))) r14 (fun m hm=>?_) ?_;clear hF;revert r14;intro r hF;refine aW (N:=4) (rs:=[.tmp 2]) rfl Tryz.func134 rfl rfl rfl hm ?_;refine wz ?_;refine wb fun b16=>?_;refine an ?_;refine UH (jO rfl rfl) rfl ?_;refine an ?_;cases hF;exact ar b16 [0,2,1,3,4,5];rintro b10;refine wz ?_;refine UK ?_;obtain⟨r5,h25,hF⟩:=J hF;refine Wk.range (N:=27) (rs:=[]) (γ:=Unit) (X:=fun g=>(fun(r:(Int) ⊕(Unit)) (g:Unit)=>(match r,g with|.inl v10,_=>⟨.done,(some .ret),[uj b3 a0 l1 c0,gr a0 c0 l1,.obj b0 (.cells [.int .i64 3] .own),eZ b1 v10,fB b2 l1]⟩|.inr _,_=>⟨.ready,none,(uA b3 a0 l1 c0 b0 b1 b2 [])⟩:Rn)) r5 g) rfl rfl Tryz.func151 rfl rfl rfl ?_ (fun y=>by rcases r5 with _|_<;>(intro e; cases e)) ?_
 clear hF;revert r5;intro r hF;intro t0 l5 r4 h26 h27;refine wz ?_;refine UK ?_;obtain⟨r15,h2,hF⟩:=J hF;refine ct (fun(r:(Int) ⊕(Unit)) (g:Unit)=>match r,g with|.inl v11,_=>⟨.ret,[],[.obj l5 (r4 .done (some .ret)),uj b3 a0 l1 c0,gr a0 c0 l1,.obj b0 (.cells [.int .i64 3] .own),eZ b1 v11,fB b2 l1]⟩|.inr _,_=>⟨(.exit 0),[],(.obj l5 (r4 .ready none)::uA b3 a0 l1 c0 b0 b1 b2 [])⟩) r15 ?_ ?_
 refine lo h2 () [0,1,2,3,4,5,6] (fun v4 _=>⟨.normal,[(0,.func (.yield l5) #[] #[]),(1,ptr b10 0),(5,bl a0 l1 c0),(6,eh l1),(7,aL v4)],(.obj l5 (r4 .ready none)::Dn b10 a0 l1 c0 b3 b0 b1 b2 [])⟩) ?_;clear hF h2;rintro v4 ⟨⟩ r hF;unfold tG at hF;refine wz ?_;refine UJ ?_;rcases U hF with⟨h28,hF⟩|⟨h28,hF⟩;refine an ?_;obtain⟨h29,hF⟩:=bI hF;refine UY (k:=2) rfl (az h29) ?_;rintro b12 o3 rfl;refine wz ?_;obtain⟨⟨x20,x21⟩,h62,hF⟩:=J hF;refine wz ?_;refine wa iv fun b25=>?_;refine an ?_;obtain⟨h30,hF⟩:=aA hF;refine UH (aI rfl rfl (bZ _ _ h30)) rfl ?_;obtain⟨h63,hF⟩:=bI hF;refine wz ?_;obtain⟨⟨x22,x23⟩,h64,hF⟩:=J hF;refine wz ?_;refine UH (cj rfl z159 rfl (cm vz rfl rfl rfl)) rfl ?_;obtain⟨r6,h6,hF⟩:=J hF;refine UX (vU (k:=2) (k1:=0) (γA:=Nat) (GA:=(fun g:Nat=>(match g with|b14=>⟨.normal,(ra b0 b1 [(6,ptr b14 0)]),(.obj l5 (r4 .ready none)::dg b0::dg b1::gN b14 v4 x20 x21 x22 x23::sY b3 b12 o3 l1 c0 [fB b2 l1,fO b10 b12 o3 l1 c0])⟩:En))) (γ:=Unit) (G:=fun g=>(fun(r:(Unit) ⊕(Unit)) (g:Unit)=>(match r,g with|.inl _,_=>⟨.ret,[],(.obj l5 (r4 .busy none)::sY b3 b12 o3 l1 c0 [.obj b0 (.cells [.int .i64 3] .own),eZ b1 v4,fB b2 l1,fO b10 b12 o3 l1 c0])⟩|.inr _,_=>⟨.normal,[],(.obj l5 (r4 .busy none)::sY b3 b12 o3 l1 c0 [dg b0,dg b1,fB b2 l1,fO b10 b12 o3 l1 c0])⟩:En)) r6 g) rfl rfl rfl h27 h26 rfl ?_ (fun _=>rfl) (fun _=>rfl) ?_ (fun y=>by rcases r6 with _|_<;>rfl)) gn rfl ?_
 clear hF h6;refine UM<|wa z159 fun b17=>?_;refine wz ?_;exact ae b17 [3,7,8,0,6,2,5,9,4];clear hF;revert r6;intro r hF;rintro b14;refine wz ?_;refine UH (aI rfl rfl (xZ Ej (DF _ _ _ _))) rfl ?_;refine wz ?_;rcases U hF with⟨h7,hF⟩|⟨h7,hF⟩;refine U8 rfl h7<|UJ<|U3 (prs:=[(1,2)]) (by kernel_rfl)<|UI (aM (r:=ptr b14 0) rfl (px _ _)) rfl<|U6 rfl (aD (k:=3) bX rfl rfl rfl) rfl<|Wn.AR rfl (dK (k:=1) bX rfl rfl rfl rfl rfl)<|Vc (dK (k:=2) bX rfl rfl rfl rfl rfl)<|U0 (fun m hm=>(cq.rw rfl rfl rfl (hm.ne (i:=3) (j:=1) rfl rfl rfl rfl (by decide) rfl) cq.nil)) ?_
 refine an ?_;cases hF;exact ae () [0,4,5,6,1,2,7,8];refine wz ?_;cases hF;exact ae () [0,4,5,6,1,2,7,8];rcases r6 with _|_;rintro⟨⟩;refine an ?_;cases hF;exact ae () [0,1,3,4,5,6];rintro⟨⟩;refine dM ?_;cases hF;exact ae () [0,7,3,1,4,5,6];refine wz ?_;cases hF;exact ae () [0,3,2,4,5,6];rcases r15 with v11|_;rintro⟨⟩;refine At.br ?_;cases hF;exact U1 .nil fun m' hm=>⟨(),(UN [0,1,2,3,4,5] rfl rfl) m' hm⟩;rintro⟨⟩;refine At.be ?_;cases hF;exact At.fin .nil fun m' hm=>⟨(),(UN [0,1,2,3,4,5] rfl rfl) m' hm⟩;rcases r5 with v10|_;rintro⟨⟩
 change Wk _ _ _ _ .ret _ _ _ _
 refine wz ?_;cases hF;exact U1 (.cell (k:=2) bX rfl rfl rfl (.cell (k:=3) bX rfl rfl rfl .nil)) fun m' hm=>⟨(),rfl,(UN [] rfl rfl) m' hm⟩;rintro⟨⟩
 change At _ .normal _ _ _
 refine an ?_;obtain⟨r16,h31,hF⟩:=J hF;refine wq (fun _ (b9:Nat)=>(.func (.func 151) #[] #[ptr b9 0],(Dn b9 a0 l1 c0 b3 b0 b1 b2 []))) r16 (fun m hm=>?_) ?_;clear hF;revert r16;intro r hF;refine aW (N:=4) (rs:=[.tmp 2]) rfl Tryz.func134 rfl rfl rfl hm ?_;refine wz ?_;refine wb fun b18=>?_;refine an ?_;refine UH (jO rfl rfl) rfl ?_;refine an ?_;cases hF;exact ar b18 [0,2,1,3,4,5];rintro b9;refine wz ?_;refine UK ?_;obtain⟨r7,h32,hF⟩:=J hF;refine Wk.range (N:=27) (rs:=[]) (γ:=Unit) (X:=fun g=>(fun(r:(Int) ⊕(Unit)) (g:Unit)=>(match r,g with|.inl v12,_=>⟨.done,(some .ret),[uj b3 a0 l1 c0,gr a0 c0 l1,.obj b0 (.cells [.int .i64 4] .own),eZ b1 v12,fB b2 l1]⟩|.inr _,_=>⟨.ready,none,(uA b3 a0 l1 c0 b0 b1 b2 [])⟩:Rn)) r7 g) rfl rfl Tryz.func151 rfl rfl rfl ?_ (fun y=>by rcases r7 with _|_<;>(intro e; cases e)) ?_
 clear hF;revert r7;intro r hF;intro t1 l4 r3 h33 h34;refine wz ?_;refine UK ?_;obtain⟨r17,h3,hF⟩:=J hF;refine ct (fun(r:(Int) ⊕(Unit)) (g:Unit)=>match r,g with|.inl v13,_=>⟨.ret,[],[.obj l4 (r3 .done (some .ret)),uj b3 a0 l1 c0,gr a0 c0 l1,.obj b0 (.cells [.int .i64 4] .own),eZ b1 v13,fB b2 l1]⟩|.inr _,_=>⟨(.exit 0),[],(.obj l4 (r3 .ready none)::uA b3 a0 l1 c0 b0 b1 b2 [])⟩) r17 ?_ ?_
 refine lo h3 () [0,1,2,3,4,5,6] (fun v1 _=>⟨.normal,[(0,.func (.yield l4) #[] #[]),(1,ptr b9 0),(5,bl a0 l1 c0),(6,eh l1),(7,aL v1)],(.obj l4 (r3 .ready none)::Dn b9 a0 l1 c0 b3 b0 b1 b2 [])⟩) ?_;clear hF h3;rintro v1 ⟨⟩ r hF;unfold tS at hF;refine wz ?_;refine UJ ?_;rcases U hF with⟨h35,hF⟩|⟨h35,hF⟩;refine an ?_;obtain⟨h36,hF⟩:=bI hF;refine UY (k:=2) rfl (az h36) ?_;rintro b11 o2 rfl;refine wz ?_;obtain⟨⟨x12,x13⟩,h65,hF⟩:=J hF;refine wz ?_;refine wa iv fun b26=>?_;refine an ?_;obtain⟨h37,hF⟩:=aA hF;refine UH (aI rfl rfl (bZ _ _ h37)) rfl ?_;obtain⟨h66,hF⟩:=bI hF;refine wz ?_;obtain⟨⟨x14,x15⟩,h67,hF⟩:=J hF;refine wz ?_;refine UH (cj rfl z159 rfl (cm vz rfl rfl rfl)) rfl ?_;obtain⟨r8,h8,hF⟩:=J hF;refine UX (vU (k:=2) (k1:=0) (γA:=Nat) (GA:=(fun g:Nat=>(match g with|b6=>⟨.normal,((1,ptr b3 0)::ra b0 b1 [(4,ptr b2 0),(7,ptr b6 0)]),(.obj l4 (r3 .ready none)::sY b3 b11 o2 l1 c0 [dg b0,dg b1,fB b2 l1,gN b6 v1 x12 x13 x14 x15,fO b9 b11 o2 l1 c0])⟩:En))) (γ:=Unit) (G:=fun g=>(fun(r:(Unit) ⊕(Unit)) (g:Unit)=>(match r,g with|.inl _,_=>⟨.ret,[],(.obj l4 (r3 .busy none)::sY b3 b11 o2 l1 c0 [.obj b0 (.cells [.int .i64 4] .own),eZ b1 v1,fB b2 l1,fO b9 b11 o2 l1 c0])⟩|.inr _,_=>⟨.normal,[],(.obj l4 (r3 .busy none)::sY b3 b11 o2 l1 c0 [dg b0,dg b1,fB b2 l1,fO b9 b11 o2 l1 c0])⟩:En)) r8 g) rfl rfl rfl h34 h33 rfl ?_ (fun _=>rfl) (fun _=>rfl) ?_ (fun y=>by rcases r8 with _|_<;>rfl)) gn rfl ?_
 clear hF h8;refine UM<|wa z159 fun b19=>?_;refine wz ?_;exact ae b19 [3,6,2,5,7,8,9,0,4];clear hF;revert r8;intro r hF;rintro b6;refine UK<|UJ<|Wk.draw (by kernel_rfl)<|UH (aD (k:=1) OP rfl rfl rfl) rfl<|UH (aM (r:=ptr b6 0) rfl (px _ _)) rfl<|UH (aD (k:=7) bX rfl rfl rfl) rfl<|UH (aD (k:=6) bX rfl rfl rfl) rfl<|UH (aI rfl rfl (bR _ _ _)) rfl<|UH (aI rfl rfl (bN _ _ _)) rfl<|UH (aD (k:=6) bX rfl rfl rfl) rfl ?_
 obtain⟨h38,hF⟩:=aA hF;obtain⟨y0,h39,hF⟩:=J hF;refine UH (aI rfl rfl ((bZ _ _ h38).trans (cI h39))) rfl ?_;obtain⟨h68,hF⟩:=bI hF;refine wz ?_;obtain⟨⟨x26,x27⟩,h69,hF⟩:=J hF;refine wz ?_;refine wa iv fun b15=>?_;refine wz ?_;refine UJ ?_;obtain⟨v5,h40,hF⟩:=J hF;refine ct (fun v5 (_:Unit)=>⟨.normal,((1,ptr b3 0)::ra b0 b1 [(4,ptr b2 0),(7,ptr b6 0),(85,dL v5)]),(.obj l4 (r3 .busy none)::sY b3 b11 o2 l1 c0 [dg b0,dg b1,fB b2 l1,gN b6 v1 x12 x13 x14 x15,fO b9 b11 o2 l1 c0])⟩) v5 ?_ ?_;clear hF;revert v5;intro r hF;refine wz ?_;obtain⟨r23,h41,hF⟩:=J hF;refine wc gn (fun m hm=>nA h41 m) ?_;rintro⟨⟩;refine wz ?_;rcases U hF with⟨h0,hF⟩|⟨h0,hF⟩;refine UZ (aM (r:=ptr b6 1) rfl (fH _ _)) (gg rfl rfl (dJ h0)) rfl<|UZ (aM (r:=ptr b6 1) rfl (dv _ _)) (gg rfl rfl (dJ h0)) rfl<|UZ (aD (k:=8) bX rfl rfl rfl) (gg rfl rfl (dJ h0)) rfl<|UZ (aM (r:=ptr b15 0) rfl (dv _ _)) (gg rfl rfl (dJ h0)) rfl<|UZ (aD (k:=0) bX rfl rfl rfl) (gg rfl rfl (dJ h0)) rfl<|UZ (aI rfl rfl (bN _ _ _)) (gg rfl rfl (dJ h0)) rfl<|UZ (aM (r:=ptr b6 3) rfl (gQ _ _)) (gg rfl rfl (dJ h0)) rfl<|UZ (aM (r:=ptr b6 3) rfl (dv _ _)) (gg rfl rfl (dJ h0)) rfl<|UZ (aD (k:=8) bX rfl rfl rfl) (gg rfl rfl (dJ h0)) rfl<|UZ (aM (r:=ptr b6 1) rfl (fH _ _)) (gg rfl rfl (dJ h0)) rfl<|UZ (aM (r:=ptr b6 1) rfl (dv _ _)) (gg rfl rfl (dJ h0)) rfl<|UZ (aD (k:=8) bX rfl rfl rfl) (gg rfl rfl (dJ h0)) rfl<|UZ (aI rfl rfl (bN _ _ _)) (gg rfl rfl (dJ h0)) rfl ?_;obtain⟨y1,h42,hF⟩:=J hF;refine UZ (aI rfl rfl ((cz _ _ _).trans (cI h42))) (gg rfl rfl (dJ h0)) rfl<|UZ (aM (r:=ptr b6 1) rfl (fH _ _)) (gg rfl rfl (dJ h0)) rfl<|UZ (aM (r:=ptr b6 2) rfl (cH _ _)) (gg rfl rfl (dJ h0)) rfl<|UZ (aD (k:=8) bX rfl rfl rfl) (gg rfl rfl (dJ h0)) rfl<|UZ (aM (r:=ptr b15 1) rfl (cH _ _)) (gg rfl rfl (dJ h0)) rfl<|UZ (aD (k:=0) bX rfl rfl rfl) (gg rfl rfl (dJ h0)) rfl<|UZ (aI rfl rfl (bN _ _ _)) (gg rfl rfl (dJ h0)) rfl<|UZ (aM (r:=ptr b6 3) rfl (gQ _ _)) (gg rfl rfl (dJ h0)) rfl<|UZ (aM (r:=ptr b6 4) rfl (cH _ _)) (gg rfl rfl (dJ h0)) rfl<|UZ (aD (k:=8) bX rfl rfl rfl) (gg rfl rfl (dJ h0)) rfl<|UZ (aM (r:=ptr b6 1) rfl (fH _ _)) (gg rfl rfl (dJ h0)) rfl<|UZ (aM (r:=ptr b6 2) rfl (cH _ _)) (gg rfl rfl (dJ h0)) rfl<|UZ (aD (k:=8) bX rfl rfl rfl) (gg rfl rfl (dJ h0)) rfl<|UZ (aI rfl rfl (bN _ _ _)) (gg rfl rfl (dJ h0)) rfl ?_;obtain⟨y2,h43,hF⟩:=J hF;refine UZ (aI rfl rfl ((cz _ _ _).trans (cI h43))) (gg rfl rfl (dJ h0)) rfl ?_;refine wz ?_;cases hF;exact ae () (Vh 1 9);refine wz ?_;cases hF;exact ae () (Vh 1 9);rintro⟨⟩;refine US ?_;rcases U hF with⟨h9,hF⟩|⟨h9,hF⟩;refine U8 rfl h9<|UJ<|U3 (prs:=[(1,2)]) (by kernel_rfl)<|UI (aM (r:=ptr b6 0) rfl (px _ _)) rfl<|U6 rfl (aD (k:=7) bX rfl rfl rfl) rfl<|Wn.AR rfl (dK (k:=4) bX rfl rfl rfl rfl rfl)<|Vc (dK (k:=5) bX rfl rfl rfl rfl rfl)<|U0 (fun m hm=>(cq.rw rfl rfl rfl (hm.ne (i:=7) (j:=4) rfl rfl rfl rfl (by decide) rfl) cq.nil)) ?_
 refine an ?_;cases hF;exact ae () [0,1,2,3,4,5,6,8];refine wz ?_;cases hF;exact ae () [0,1,2,3,4,5,6,8];rcases r8 with _|_;rintro⟨⟩;refine an ?_;cases hF;exact ae () [0,1,3,4,5,6];rintro⟨⟩;refine dM ?_;cases hF;exact ae () [0,7,3,1,4,5,6];refine wz ?_;cases hF;exact ae () [0,3,2,4,5,6];rcases r17 with v13|_;rintro⟨⟩;refine At.br ?_;cases hF;exact U1 .nil fun m' hm=>⟨(),(UN [0,1,2,3,4,5] rfl rfl) m' hm⟩;rintro⟨⟩;refine At.be ?_;cases hF;exact At.fin .nil fun m' hm=>⟨(),(UN [0,1,2,3,4,5] rfl rfl) m' hm⟩;rcases r7 with v12|_;rintro⟨⟩
 change Wk _ _ _ _ .ret _ _ _ _
 refine wz ?_;cases hF;exact U1 (.cell (k:=2) bX rfl rfl rfl (.cell (k:=3) bX rfl rfl rfl .nil)) fun m' hm=>⟨(),rfl,(UN [] rfl rfl) m' hm⟩;rintro⟨⟩
 change At _ .normal _ _ _
 refine an ?_;obtain⟨r18,h44,hF⟩:=J hF;refine wq (fun _ (b5:Nat)=>(.func (.func 151) #[] #[ptr b5 0],(Dn b5 a0 l1 c0 b3 b0 b1 b2 []))) r18 (fun m hm=>?_) ?_;clear hF;revert r18;intro r hF;refine aW (N:=4) (rs:=[.tmp 2]) rfl Tryz.func134 rfl rfl rfl hm ?_;refine wz ?_;refine wb fun b20=>?_;refine an ?_;refine UH (jO rfl rfl) rfl ?_;refine an ?_;cases hF;exact ar b20 [0,2,1,3,4,5];rintro b5;refine wz ?_;refine UK ?_;obtain⟨r9,h45,hF⟩:=J hF;refine Wk.range (N:=27) (rs:=[]) (γ:=Unit) (X:=fun g=>(fun(r:(Int) ⊕(Unit)) (g:Unit)=>(match r,g with|.inl v14,_=>⟨.done,(some .ret),[uj b3 a0 l1 c0,gr a0 c0 l1,DW b0,eZ b1 v14,fB b2 l1]⟩|.inr _,_=>⟨.ready,none,(uA b3 a0 l1 c0 b0 b1 b2 [])⟩:Rn)) r9 g) rfl rfl Tryz.func151 rfl rfl rfl ?_ (fun y=>by rcases r9 with _|_<;>(intro e; cases e)) ?_
 clear hF;revert r9;intro r hF;intro t2 l2 r0 h46 h10;refine wz ?_;refine UK ?_;obtain⟨r19,h4,hF⟩:=J hF;refine ct (fun(r:(Int) ⊕(Unit)) (g:Unit)=>match r,g with|.inl v15,_=>⟨.ret,[],[.obj l2 (r0 .done (some .ret)),uj b3 a0 l1 c0,gr a0 c0 l1,DW b0,eZ b1 v15,fB b2 l1]⟩|.inr _,_=>⟨(.exit 0),[],(.obj l2 (r0 .ready none)::uA b3 a0 l1 c0 b0 b1 b2 [])⟩) r19 ?_ ?_
 refine lo h4 () [0,1,2,3,4,5,6] (fun v0 _=>⟨.normal,[(0,.func (.yield l2) #[] #[]),(1,ptr b5 0),(5,bl a0 l1 c0),(6,eh l1),(7,aL v0)],(.obj l2 (r0 .ready none)::Dn b5 a0 l1 c0 b3 b0 b1 b2 [])⟩) ?_;clear hF h4;rintro v0 ⟨⟩ r hF;unfold sR at hF;refine wz ?_;refine UJ ?_;rcases U hF with⟨h47,hF⟩|⟨h47,hF⟩;refine an ?_;obtain⟨h48,hF⟩:=bI hF;refine UY (k:=2) rfl (az h48) ?_;rintro b4 o1 rfl;refine wz ?_;obtain⟨⟨x3,x4⟩,h70,hF⟩:=J hF;refine wz ?_;refine wa iv fun b27=>?_;refine an ?_;obtain⟨h49,hF⟩:=aA hF;refine UH (aI rfl rfl (bZ _ _ h49)) rfl ?_;obtain⟨h71,hF⟩:=bI hF;refine wz ?_;obtain⟨⟨x10,x11⟩,h72,hF⟩:=J hF;refine wz ?_;refine UH (cj rfl z159 rfl (cm vz rfl rfl rfl)) rfl ?_;obtain⟨r10,h11,hF⟩:=J hF;refine UX (vU (k:=2) (k1:=0) (γA:=Nat) (GA:=(fun g:Nat=>(match g with|b7=>⟨.normal,((1,ptr b3 0)::ra b0 b1 [(4,ptr b2 0),(9,ptr b7 0)]),(.obj l2 (r0 .ready none)::sY b3 b4 o1 l1 c0 [dg b0,dg b1,fB b2 l1,gN b7 v0 x3 x4 x10 x11,fO b5 b4 o1 l1 c0])⟩:En))) (γ:=Unit) (G:=fun g=>(fun(r:(Unit) ⊕(Unit)) (g:Unit)=>(match r,g with|.inl _,_=>⟨.normal,[],(.obj l2 (r0 .busy none)::sY b3 b4 o1 l1 c0 [dg b0,dg b1,fB b2 l1,fO b5 b4 o1 l1 c0])⟩|.inr _,_=>⟨.ret,[],(.obj l2 (r0 .busy none)::sY b3 b4 o1 l1 c0 [DW b0,eZ b1 v0,fB b2 l1,fO b5 b4 o1 l1 c0])⟩:En)) r10 g) rfl rfl rfl h10 h46 rfl ?_ (fun _=>rfl) (fun _=>rfl) ?_ (fun y=>by rcases r10 with _|_<;>rfl)) gn rfl ?_
 clear hF h11;refine UM<|wa z159 fun b21=>?_;refine wz ?_;exact ae b21 [3,6,2,5,7,8,9,0,4];clear hF;revert r10;intro r hF;rintro b7;refine wz ?_;obtain⟨r20,h50,hF⟩:=J hF;refine wq (fun _ (b8:Nat)=>(.func (.func 151) #[] #[ptr b8 0],(.obj l2 (r0 .busy none)::sY b8 b4 o1 l1 c0 [fO b3 b4 o1 l1 c0,dg b0,dg b1,fB b2 l1,fO b5 b4 o1 l1 c0,gN b7 v0 x3 x4 x10 x11]))) r20 (fun m hm=>?_) ?_;clear hF;revert r20;intro r hF;refine aW (N:=4) (rs:=[.tmp 2]) rfl Tryz.func134 rfl rfl rfl hm ?_;refine wz ?_;refine wb fun b22=>?_;refine an ?_;refine UH (jO rfl rfl) rfl ?_;refine an ?_;cases hF;exact ar b22 [1,0,3,4,2,5,6,7,9,8];rintro b8;refine wz ?_;refine UK ?_;obtain⟨r11,h51,hF⟩:=J hF;refine Wk.NH (k0:=0) (N:=27) (rs:=[]) (γ:=Unit) (X:=fun g=>(fun(r:(Unit) ⊕((Unit) ⊕(Unit))) (g:Unit)=>(match r,g with|.inl _,_=>⟨.done,(some (.exit 6)),(.obj l2 (r0 .busy none)::sY b3 b4 o1 l1 c0 [dg b0,dg b1,fB b2 l1,fO b5 b4 o1 l1 c0,gN b7 v0 x3 x4 x10 x11])⟩|.inr (.inl _),_=>⟨.done,(some .ret),(.obj l2 (r0 .busy none)::sY b3 b4 o1 l1 c0 [DW b0,eZ b1 v0,fB b2 l1,fO b5 b4 o1 l1 c0,gN b7 v0 x3 x4 x10 x11])⟩|.inr (.inr _),_=>⟨.ready,none,(.obj l2 (r0 .busy none)::sY b3 b4 o1 l1 c0 [dg b0,dg b1,fB b2 l1,fO b5 b4 o1 l1 c0,gN b7 v0 x3 x4 x10 x11])⟩:Rn)) r11 g) rfl rfl Tryz.func151 rfl rfl rfl h10 rfl ?_ (fun y=>by rcases r11 with _|_|_<;>(intro e; cases e)) ?_
 clear hF;revert r11;intro r hF;intro t3 l3 r1 h52 h53;refine wz ?_;refine UK ?_;obtain⟨r21,h5,hF⟩:=J hF;refine ct (fun(r:(Unit) ⊕((Unit) ⊕(Unit))) (g:Unit)=>match r,g with|.inl _,_=>⟨.ret,[],(.obj l3 (r1 .done (some (.exit 6)))::.obj l2 (r0 .busy none)::sY b3 b4 o1 l1 c0 [dg b0,dg b1,fB b2 l1,fO b5 b4 o1 l1 c0,gN b7 v0 x3 x4 x10 x11])⟩|.inr (.inl _),_=>⟨.ret,[],(.obj l3 (r1 .done (some .ret))::.obj l2 (r0 .busy none)::sY b3 b4 o1 l1 c0 [DW b0,eZ b1 v0,fB b2 l1,fO b5 b4 o1 l1 c0,gN b7 v0 x3 x4 x10 x11])⟩|.inr (.inr _),_=>⟨(.exit 0),[],(.obj l3 (r1 .ready none)::.obj l2 (r0 .busy none)::sY b3 b4 o1 l1 c0 [dg b0,dg b1,fB b2 l1,fO b5 b4 o1 l1 c0,gN b7 v0 x3 x4 x10 x11])⟩) r21 ?_ ?_
 refine lo h5 () [0,1,2,3,4,5,6,7,8,9,10] (fun v6 _=>⟨.normal,[(0,.func (.yield l3) #[] #[]),(1,ptr b8 0),(5,nL b4 o1 l1 c0),(6,eh l1),(7,aL v6)],(.obj l3 (r1 .ready none)::.obj l2 (r0 .busy none)::sY b8 b4 o1 l1 c0 [fO b3 b4 o1 l1 c0,dg b0,dg b1,fB b2 l1,fO b5 b4 o1 l1 c0,gN b7 v0 x3 x4 x10 x11])⟩) ?_;clear hF h5;rintro v6 ⟨⟩ r hF;unfold tz at hF;refine wz ?_;refine UJ ?_;rcases U hF with⟨h54,hF⟩|⟨h54,hF⟩;refine an ?_;obtain⟨h73,hF⟩:=bI hF;refine wz ?_;obtain⟨⟨x16,x17⟩,h74,hF⟩:=J hF;refine wz ?_;refine wa iv fun b28=>?_;refine an ?_;obtain⟨h55,hF⟩:=aA hF;refine UH (aI rfl rfl (bZ _ _ h55)) rfl ?_;obtain⟨h75,hF⟩:=bI hF;refine wz ?_;obtain⟨⟨x18,x19⟩,h76,hF⟩:=J hF;refine wz ?_;refine UH (cj rfl z159 rfl (cm vz rfl rfl rfl)) rfl ?_;obtain⟨r12,h12,hF⟩:=J hF;refine UX (vU (k:=1) (k1:=0) (γA:=Nat) (GA:=(fun g:Nat=>(match g with|b13=>⟨.normal,(ra b0 b1 [(4,ptr b2 0),(9,ptr b7 0),(10,ptr b13 0)]),(.obj l3 (r1 .ready none)::.obj l2 (r0 .busy none)::dg b0::dg b1::fB b2 l1::gN b7 v0 x3 x4 x10 x11::gN b13 v6 x16 x17 x18 x19::sY b3 b4 o1 l1 c0 [fO b5 b4 o1 l1 c0,fO b8 b4 o1 l1 c0])⟩:En))) (γ:=Unit) (G:=fun g=>(fun(r:(Unit) ⊕((Unit) ⊕(Unit))) (g:Unit)=>(match r,g with|.inl _,_=>⟨(.exit 6),[],(.obj l3 (r1 .busy none)::.obj l2 (r0 .busy none)::sY b3 b4 o1 l1 c0 [dg b0,dg b1,fB b2 l1,fO b5 b4 o1 l1 c0,gN b7 v0 x3 x4 x10 x11,fO b8 b4 o1 l1 c0])⟩|.inr (.inl _),_=>⟨.normal,[],(.obj l3 (r1 .busy none)::.obj l2 (r0 .busy none)::sY b3 b4 o1 l1 c0 [dg b0,dg b1,fB b2 l1,fO b5 b4 o1 l1 c0,gN b7 v0 x3 x4 x10 x11,fO b8 b4 o1 l1 c0])⟩|.inr (.inr _),_=>⟨.ret,[],(.obj l3 (r1 .busy none)::.obj l2 (r0 .busy none)::sY b3 b4 o1 l1 c0 [DW b0,eZ b1 v0,fB b2 l1,fO b5 b4 o1 l1 c0,gN b7 v0 x3 x4 x10 x11,fO b8 b4 o1 l1 c0])⟩:En)) r12 g) rfl rfl rfl h53 h52 rfl ?_ (fun _=>rfl) (fun _=>rfl) ?_ (fun y=>by rcases r12 with _|_|_<;>rfl)) gn rfl ?_
 clear hF h12;refine UM<|wa z159 fun b23=>?_;refine wz ?_;exact ae b23 [2,3,8,9,10,12,0,7,5,6,11,4];clear hF;revert r12;intro r hF;rintro b13;refine wz ?_;rcases U hF with⟨h56,hF⟩|⟨h56,hF⟩;refine wz ?_;cases hF;exact ae () [0,1,7,8,9,2,3,4,10,5,11];refine wz ?_;refine UJ<|UJ ?_;obtain⟨v7,h57,hF⟩:=J hF;refine ct (fun v7 (_:Unit)=>⟨.normal,(ra b0 b1 [(4,ptr b2 0),(9,ptr b7 0),(10,ptr b13 0),(109,dL v7)]),(.obj l3 (r1 .busy none)::.obj l2 (r0 .busy none)::dg b0::dg b1::fB b2 l1::gN b7 v0 x3 x4 x10 x11::gN b13 v6 x16 x17 x18 x19::sY b3 b4 o1 l1 c0 [fO b5 b4 o1 l1 c0,fO b8 b4 o1 l1 c0])⟩) v7 ?_ ?_;clear hF;revert v7;intro r hF;refine wz ?_;rcases U hF with⟨h58,hF⟩|⟨h58,hF⟩;refine wz ?_;cases hF;exact ae () (Vh 0 12);refine wz ?_;cases hF;exact ae () (Vh 0 12);rintro⟨⟩;refine US ?_;rcases U hF with⟨h59,hF⟩|⟨h59,hF⟩;refine wz ?_;cases hF;exact ae () [0,1,7,8,9,2,3,4,10,5,11];refine an ?_;obtain⟨r24,h60,hF⟩:=J hF;refine wc gn (fun m hm=>Cy h60 m) ?_;rintro⟨⟩;refine wz ?_;rcases U hF with⟨h13,hF⟩|⟨h13,hF⟩;refine U8 rfl h13<|UJ<|U3 (prs:=[(1,2)]) (by kernel_rfl)<|UI (aM (r:=ptr b7 0) rfl (px _ _)) rfl<|U6 rfl (aD (k:=5) bX rfl rfl rfl) rfl<|Wn.AR rfl (dK (k:=2) bX rfl rfl rfl rfl rfl)<|Vc (dK (k:=3) bX rfl rfl rfl rfl rfl)<|U0 (fun m hm=>(cq.rw rfl rfl rfl (hm.ne (i:=5) (j:=2) rfl rfl rfl rfl (by decide) rfl) cq.nil)) ?_
 refine an ?_;cases hF;exact ae () [0,1,7,8,9,2,3,4,10,5,11];refine wz ?_;cases hF;exact ae () [0,1,7,8,9,2,3,4,10,5,11];rcases r12 with _|_|_;rintro⟨⟩;refine an ?_;cases hF;exact ae () (Vh 0 10);rintro⟨⟩;refine dM ?_;cases hF;exact ae () [0,1,10,3,4,2,5,6,7,8,9];rintro⟨⟩;refine an ?_;cases hF;exact ae () (Vh 0 10);refine wz ?_;cases hF;exact ae () [0,1,5,3,4,6,7,8,9,10];rcases r21 with _ |(_|_);rintro⟨⟩;refine At.br ?_;cases hF;exact U1 .nil fun m' hm=>⟨(),(UN [0,1,2,3,4,5,6,7,8,9] rfl rfl) m' hm⟩;rintro⟨⟩;refine At.br ?_;cases hF;exact U1 .nil fun m' hm=>⟨(),(UN [0,1,2,3,4,5,6,7,8,9] rfl rfl) m' hm⟩;rintro⟨⟩;refine At.be ?_;cases hF;exact At.fin .nil fun m' hm=>⟨(),(UN [0,1,2,3,4,5,6,7,8,9] rfl rfl) m' hm⟩;rcases r11 with _|_|_;rintro⟨⟩
 change Wk _ _ _ _ (.exit 6) _ _ _ _
 refine wz ?_;cases hF;exact ae () (Vh 0 8);rintro⟨⟩
 change Wk _ _ _ _ .ret _ _ _ _
 refine wz ?_;cases hF;exact ae () (Vh 0 8);rintro⟨⟩
 change At _ .normal _ _ _
 refine wz ?_;cases hF;exact ae () (Vh 0 8);rcases r10 with _|_;rintro⟨⟩;refine dM ?_;cases hF;exact ae () [0,7,3,1,4,5,6];rintro⟨⟩;refine an ?_;cases hF;exact ae () [0,1,3,4,5,6];refine wz ?_;cases hF;exact ae () [0,3,2,4,5,6];rcases r19 with v15|_;rintro⟨⟩;refine At.br ?_;cases hF;exact U1 .nil fun m' hm=>⟨(),(UN [0,1,2,3,4,5] rfl rfl) m' hm⟩;rintro⟨⟩;refine At.be ?_;cases hF;exact At.fin .nil fun m' hm=>⟨(),(UN [0,1,2,3,4,5] rfl rfl) m' hm⟩;rcases r9 with v14|_;rintro⟨⟩
 change Wk _ _ _ _ .ret _ _ _ _
 refine wz ?_;cases hF;exact U1 (.cell (k:=2) bX rfl rfl rfl (.cell (k:=3) bX rfl rfl rfl .nil)) fun m' hm=>⟨(),rfl,(UN [] rfl rfl) m' hm⟩;rintro⟨⟩
 change At _ .normal _ _ _
 refine dM ?_;cases hF;exact U1 (.cell (k:=2) bX rfl rfl rfl (.cell (k:=3) bX rfl rfl rfl .nil)) fun m' hm=>⟨(),rfl,(UN [] rfl rfl) m' hm⟩
def NA{n l1 a2 c3 r}(hF:OU n l1=some r)(m)(h4:dA m a2 c3 l1):
 aC (Vr p q) 81 [bl a2 l1 c3] m (Vn m (.int .i64 r)):=by
 unfold OU at hF;refine cw Tryz.func81 (UT (UP m) bQ h4) ?_;refine an ?_;obtain⟨⟨r6,r7⟩,h5,hF⟩:=J hF;refine wc gn (fun m hm=>KD h5 m (hm.q 0)) ?_;rintro⟨⟩;refine an ?_;rcases U hF with⟨h8,hF⟩|⟨h8,hF⟩;refine an ?_;cases hF;exact ar () [];refine dM ?_;cases hF;exact ar () []
def GP{n l1 a2 c3 r}(hF:On n l1=some r)(m)(h4:dA m a2 c3 l1):
 aC (Vr p q) 55 [bl a2 l1 c3] m (Vn m (.int .i64 r)):=by
 unfold On at hF;refine cw Tryz.func55 (UT (UP m) bQ h4) ?_;refine dM ?_;refine UK ?_;obtain⟨v27,h44,hF⟩:=J hF;refine ct (fun v27 (_:Unit)=>⟨(.exit 0),[(3,aL v27)],[]⟩) v27 ?_ ?_;refine lo h44 () [0] (fun(v7,v8) _=>⟨.normal,((0,bl a2 l1 c3)::(3,aL v7)::xT a2 l1 c3 v8 []),[gr a2 c3 l1]⟩) ?_;clear hF h44;rintro⟨v7,v8⟩ ⟨⟩ r hF;unfold ve at hF;refine wz ?_;refine UJ ?_;rcases U hF with⟨h28,hF⟩|⟨h28,hF⟩;refine an ?_;obtain⟨h29,hF⟩:=bI hF;refine UY (k:=0) rfl (az h29) ?_;rintro b30 o31 rfl;refine wz ?_;obtain⟨⟨x32,x33⟩,h34,hF⟩:=J hF;refine wz ?_;refine wa iv fun b35=>?_;refine an ?_;obtain⟨h36,hF⟩:=aA hF;refine UH (aI rfl rfl (bZ _ _ h36)) rfl ?_;obtain⟨h37,hF⟩:=bI hF;refine wz ?_;obtain⟨⟨x38,x39⟩,h40,hF⟩:=J hF;refine wz ?_;refine wa iv fun b41=>?_;refine an ?_;refine UH (aI rfl rfl (cz _ _ _)) rfl ?_;refine wz ?_;refine UH (aI rfl rfl (cz _ _ _)) rfl ?_;obtain⟨y42,h43,hF⟩:=J hF;refine UH (aI rfl rfl ((bN _ _ _).trans (cI h43))) rfl ?_;refine an ?_;cases hF;exact ae () [3];refine wz ?_;cases hF;exact ae () [];rintro⟨⟩;refine dM ?_;obtain rfl:=R9 hF;exact ar () []
def JQ{n x1 x2 x3 x4 x5 x6 x7 x8 r}(hF:EV n x1 x2 x3 x4 x5 x6 x7 x8=some r)(m):
 aC (Vr p q) 137 [eU x1 x2,eU x3 x4,eU x5 x6,eU x7 x8] m (Vn m (.tuple #[.int .i64 r.1,.int .i64 r.2])):=by
 unfold EV at hF;refine cw Tryz.func137 (UP m) ?_;refine wz ?_;refine wb fun b9=>?_;refine wb fun b10=>?_;refine wb fun b11=>?_;refine wb fun b12=>?_;refine wz ?_;refine UJ<|UJ ?_;obtain⟨v56,h70,hF⟩:=J hF;refine ct (fun v56 (_:Unit)=>⟨.normal,[(4,ptr b9 0),(5,ptr b10 0),(6,ptr b11 0),(7,ptr b12 0),(33,dL v56)],[cS b9 x1 x2,cS b10 x3 x4,cS b11 x5 x6,cS b12 x7 x8]⟩) v56 ?_ ?_;clear hF;revert v56;intro r hF;refine wz ?_;obtain⟨r58,h57,hF⟩:=J hF;refine wc gn (fun m hm=>oW h57 m) ?_;rintro⟨⟩;refine wz ?_;rcases U hF with⟨h59,hF⟩|⟨h59,hF⟩;refine wz ?_;cases hF;exact ae () [3,2,1,0];refine wz ?_;obtain⟨r61,h60,hF⟩:=J hF;refine wc (gg rfl rfl (iM h59)) (fun m hm=>oW h60 m) ?_;rintro⟨⟩;refine wz ?_;rcases U hF with⟨h62,hF⟩|⟨h62,hF⟩;refine wz ?_;cases hF;exact ae () [3,2,1,0];refine wz ?_;obtain⟨r64,h63,hF⟩:=J hF;refine wc (gg rfl rfl (iM h62)) (fun m hm=>oW h63 m) ?_;rintro⟨⟩;refine wz ?_;rcases U hF with⟨h65,hF⟩|⟨h65,hF⟩;refine wz ?_;cases hF;exact ae () [3,2,1,0];refine wz ?_;obtain⟨r67,h66,hF⟩:=J hF;refine wc (gg rfl rfl (iM h65)) (fun m hm=>oW h66 m) ?_;rintro⟨⟩;refine wz ?_;rcases U hF with⟨h68,hF⟩|⟨h68,hF⟩;refine wz ?_;cases hF;exact ae () [3,2,1,0];refine wz ?_;refine UZ (aI rfl rfl (xZ Ej (DF _ _ _ _))) (gg rfl rfl (iM h68)) rfl ?_;refine wz ?_;rcases U hF with⟨h69,hF⟩|⟨h69,hF⟩;refine wz ?_;cases hF;exact ae () [3,2,1,0];refine wz ?_;refine UZ (aI rfl rfl (xZ Ej (DF _ _ _ _))) (gg rfl rfl (iM h69)) rfl ?_;refine wz ?_;cases hF;exact ae () [3,2,1,0];rintro⟨⟩;refine US ?_;rcases U hF with⟨h72,hF⟩|⟨h72,hF⟩;refine an ?_;cases hF;exact ar () [];refine an ?_;refine UH (cj rfl z159 rfl (cm vz rfl rfl rfl)) rfl ?_;refine wz ?_;refine UH (cj rfl z159 rfl (cm vz rfl rfl rfl)) rfl ?_;obtain⟨r74,h73,hF⟩:=J hF;refine wc gn (fun m hm=>Cy h73 m) ?_;rintro⟨⟩;refine an ?_;cases hF;exact ar () []
def IY{n l1 l5 x12 x13 x14 x15 x16 x17 x18 x19 a2 c3 a6 c7}{rr8:Ux}{es9:Uv}{r}(hF:E5 n l1 l5 x12 x13 x14 x15 x16 x17 x18 x19=some r)(m)(h4:dA m a2 c3 l1)(h10:fa m a6 c7 l5 es9)(h11:(bT ai rr8 l5 es9).P m):
 aC (Vr p q) 113 [dZ a2 l1 c3 a6 l5 c7,Gj x12 x13 x14 x15,Gj x16 x17 x18 x19] m (Vn m (.bool r)):=by
 unfold E5 at hF;refine cw Tryz.func113 (U5 (UT (UT (UP m) bQ h4) (bO bQ) h10) (bO (bO bQ)) h11) ?_;refine wz ?_;refine wb fun b20=>?_;refine wb fun b21=>?_;refine wb fun b22=>?_;refine wz ?_;refine UJ<|UJ ?_;obtain⟨v39,h44,hF⟩:=J hF;refine ct (fun v39 (_:Unit)=>⟨.normal,[(3,ptr b20 0),(4,ptr b21 0),(5,ptr b22 0),(34,dL v39)],(cR b20 a2 l1 c3 a6 l5 c7 es9 ai rr8 [fG b21 x12 x13 x14 x15,fG b22 x16 x17 x18 x19])⟩) v39 ?_ ?_;clear hF;revert v39;intro r hF;refine wz ?_;rcases U hF with⟨h40,hF⟩|⟨h40,hF⟩;refine wz ?_;rcases U hF with⟨h41,hF⟩|⟨h41,hF⟩;refine wz ?_;cases hF;exact ae () [2,5,4,3,1,0];refine wz ?_;rcases U hF with⟨h42,hF⟩|⟨h42,hF⟩;refine wz ?_;cases hF;exact ae () [2,5,4,3,1,0];refine wz ?_;cases hF;exact ae () [2,5,4,3,1,0];refine wz ?_;rcases U hF with⟨h43,hF⟩|⟨h43,hF⟩;refine wz ?_;cases hF;exact ae () [2,5,4,3,1,0];refine wz ?_;cases hF;exact ae () [2,5,4,3,1,0];rintro⟨⟩;refine US ?_;rcases U hF with⟨h46,hF⟩|⟨h46,hF⟩;refine an ?_;cases hF;exact ar () [];refine an ?_;obtain⟨h47,hF⟩:=bI hF;refine UY (k:=1) rfl (az h47) ?_;rintro b48 o49 rfl;refine wz ?_;obtain⟨⟨x50,x51⟩,h52,hF⟩:=J hF;refine wz ?_;obtain⟨h53,hF⟩:=bI hF;refine wz ?_;obtain⟨⟨x54,x55⟩,h56,hF⟩:=J hF;refine wz ?_;obtain⟨h57,hF⟩:=bI hF;refine wz ?_;obtain⟨⟨x58,x59⟩,h60,hF⟩:=J hF;refine wz ?_;obtain⟨h61,hF⟩:=bI hF;refine wz ?_;obtain⟨⟨x62,x63⟩,h64,hF⟩:=J hF;refine wz ?_;obtain⟨⟨r66,r67⟩,h65,hF⟩:=J hF;refine wc gn (fun m hm=>JQ h65 m) ?_;rintro⟨⟩;refine dM ?_;rcases U hF with⟨h68,hF⟩|⟨h68,hF⟩;refine an ?_;cases hF;exact ar () [];refine wz ?_;rcases U hF with⟨h69,hF⟩|⟨h69,hF⟩;refine wz ?_;rcases U hF with⟨h70,hF⟩|⟨h70,hF⟩;refine wz ?_;rcases U hF with⟨h71,hF⟩|⟨h71,hF⟩;refine wz ?_;rcases U hF with⟨h72,hF⟩|⟨h72,hF⟩;refine an ?_;cases hF;exact ar () [];refine an ?_;cases hF;exact ar () [];refine an ?_;cases hF;exact ar () [];refine an ?_;cases hF;exact ar () [];refine dM ?_;cases hF;exact ar () []
def Ba{n l1 x5 x6 a0 c0 r}(hF:I0 n l1 x5 x6=some r)(m)(h7:dA m a0 c0 l1):
 aC (Vr p q) 62 [bl a0 l1 c0,eU x5 x6] m (Vn m (.int .i64 r)):=by
 unfold I0 at hF;refine cw Tryz.func62 (UT (UP m) bQ h7) ?_;refine wz ?_;refine wb fun b0=>?_;refine dM ?_;refine UK ?_;obtain⟨r1,h0,hF⟩:=J hF;refine ct (fun(r:(Unit) ⊕(Int)) (g:Unit)=>match r,g with|.inl _,_=>⟨.ret,[(4,.int .i64 1)],[]⟩|.inr v5,_=>⟨(.exit 0),[(5,aL v5)],[]⟩) r1 ?_ ?_
 refine lo h0 () [1,0] (fun(v1,v0) _=>⟨.normal,((0,bl a0 l1 c0)::(3,ptr b0 0)::(5,aL v1)::zP a0 l1 c0 v0 []),[gr a0 c0 l1,cS b0 x5 x6]⟩) ?_;clear hF h0;rintro⟨v1,v0⟩ ⟨⟩ r hF;unfold tL at hF;refine wz ?_;refine UJ ?_;rcases U hF with⟨h8,hF⟩|⟨h8,hF⟩;refine wz ?_;refine UJ ?_;obtain⟨r0,h9,hF⟩:=J hF;refine ct (fun(r:(Unit) ⊕(Int)) (g:Unit)=>match r,g with|.inl _,_=>⟨.ret,[(4,.int .i64 1)],[]⟩|.inr v6,_=>⟨.normal,((0,bl a0 l1 c0)::(3,ptr b0 0)::(5,aL v6)::zP a0 l1 c0 v0 []),[gr a0 c0 l1,cS b0 x5 x6]⟩) r0 ?_ ?_
 clear hF;revert r0;intro r hF;refine wz ?_;obtain⟨h10,hF⟩:=bI hF;refine UY (k:=0) rfl (az h10) ?_;rintro b1 o1 rfl;refine wz ?_;obtain⟨⟨x3,x4⟩,h23,hF⟩:=J hF;refine wz ?_;refine wa iv fun b2=>?_;refine an ?_;obtain⟨h11,hF⟩:=aA hF;refine UH (aI rfl rfl (bZ _ _ h11)) rfl ?_;obtain⟨h24,hF⟩:=bI hF;refine wz ?_;obtain⟨⟨x10,x11⟩,h25,hF⟩:=J hF;refine wz ?_;refine wa iv fun b3=>?_;refine wz ?_;refine UJ<|UM<|UH (aM (r:=ptr b3 0) rfl (dv _ _)) rfl<|UH (aD (k:=0) bX rfl rfl rfl) rfl<|UH (aM (r:=ptr b2 0) rfl (dv _ _)) rfl<|UH (aD (k:=1) bX rfl rfl rfl) rfl<|UH (aI rfl rfl (bN _ _ _)) rfl<|UH (aM (r:=ptr b0 1) rfl (cH _ _)) rfl<|UH (aD (k:=4) bX rfl rfl rfl) rfl<|UH (aM (r:=ptr b2 1) rfl (cH _ _)) rfl<|UH (aD (k:=1) bX rfl rfl rfl) rfl<|UH (aI rfl rfl (bN _ _ _)) rfl ?_;obtain⟨y0,h12,hF⟩:=J hF;refine UH (aI rfl rfl ((cz _ _ _).trans (cI h12))) rfl<|UH (aM (r:=ptr b3 1) rfl (cH _ _)) rfl<|UH (aD (k:=0) bX rfl rfl rfl) rfl<|UH (aM (r:=ptr b2 1) rfl (cH _ _)) rfl<|UH (aD (k:=1) bX rfl rfl rfl) rfl<|UH (aI rfl rfl (bN _ _ _)) rfl<|UH (aM (r:=ptr b0 0) rfl (dv _ _)) rfl<|UH (aD (k:=4) bX rfl rfl rfl) rfl<|UH (aM (r:=ptr b2 0) rfl (dv _ _)) rfl<|UH (aD (k:=1) bX rfl rfl rfl) rfl<|UH (aI rfl rfl (bN _ _ _)) rfl ?_;obtain⟨y1,h13,hF⟩:=J hF;refine UH (aI rfl rfl ((cz _ _ _).trans (cI h13))) rfl ?_;refine wz ?_;refine UK<|UJ ?_;obtain⟨v2,h14,hF⟩:=J hF;refine ct (fun v2 (_:Unit)=>⟨.normal,((0,nL b1 o1 l1 c0)::(3,ptr b0 0)::(5,aL v1)::(7,ptr b2 0)::(8,ptr b3 0)::(9,.int .i64 (UD (y0-y1)))::tj b1 o1 l1 c0 v0 [(48,dL v2)]),[D5 b1 o1 l1,Dg b1 o1 c0 l1,cS b0 x5 x6,cS b2 x3 x4,cS b3 x10 x11]⟩) v2 ?_ ?_;clear hF;revert v2;intro r hF;refine wz ?_;rcases U hF with⟨h1,hF⟩|⟨h1,hF⟩;refine wz ?_;refine UZ (fp rfl rfl (gp _ _)) (gg rfl rfl (dJ h1)) rfl ?_;refine wz ?_;rcases U hF with⟨h2,hF⟩|⟨h2,hF⟩;refine wz ?_;refine UZ (fp rfl rfl (j6 _ _)) (gg rfl rfl (dJ h2)) rfl ?_;refine wz ?_;rcases U hF with⟨h3,hF⟩|⟨h3,hF⟩;refine wz ?_;refine UZ (fp rfl rfl (gp _ _)) (gg rfl rfl (dJ h3)) rfl ?_;refine wz ?_;rcases U hF with⟨h4,hF⟩|⟨h4,hF⟩;refine wz ?_;refine UZ (fp rfl rfl (j6 _ _)) (gg rfl rfl (dJ h4)) rfl ?_;refine wz ?_;cases hF;exact ae () [2,3,4,1,0];refine wz ?_;cases hF;exact ae () [2,3,4,1,0];refine wz ?_;cases hF;exact ae () [2,3,4,1,0];refine wz ?_;cases hF;exact ae () [2,3,4,1,0];refine wz ?_;cases hF;exact ae () [2,3,4,1,0];rintro⟨⟩;refine US ?_;rcases U hF with⟨h5,hF⟩|⟨h5,hF⟩;refine an ?_;cases hF;exact ae () [];refine Wk.eY rfl h5<|UJ ?_;obtain⟨v3,h15,hF⟩:=J hF;refine ct (fun v3 (_:Unit)=>⟨.normal,((0,nL b1 o1 l1 c0)::(3,ptr b0 0)::(5,aL v1)::(7,ptr b2 0)::(8,ptr b3 0)::(9,.int .i64 (UD (y0-y1)))::tj b1 o1 l1 c0 v0 [(91,dL v3)]),[D5 b1 o1 l1,Dg b1 o1 c0 l1,cS b0 x5 x6,cS b2 x3 x4,cS b3 x10 x11]⟩) v3 ?_ ?_;clear hF;revert v3;intro r hF;refine wz ?_;rcases U hF with⟨h16,hF⟩|⟨h16,hF⟩;refine wz ?_;rcases U hF with⟨h17,hF⟩|⟨h17,hF⟩;refine wz ?_;cases hF;exact ae () (Vh 0 5);refine wz ?_;cases hF;exact ae () (Vh 0 5);refine wz ?_;cases hF;exact ae () (Vh 0 5);rintro⟨⟩;refine US ?_;rcases U hF with⟨h6,hF⟩|⟨h6,hF⟩;refine wz ?_;cases hF;exact ae () [1,2];refine Wk.eY rfl h6<|UJ ?_;obtain⟨v4,h18,hF⟩:=J hF;refine ct (fun v4 (_:Unit)=>⟨.normal,((0,nL b1 o1 l1 c0)::(3,ptr b0 0)::(5,aL v1)::tj b1 o1 l1 c0 v0 [(110,dL v4)]),[D5 b1 o1 l1,Dg b1 o1 c0 l1,cS b0 x5 x6]⟩) v4 ?_ ?_;clear hF;revert v4;intro r hF;refine wz ?_;rcases U hF with⟨h19,hF⟩|⟨h19,hF⟩;refine wz ?_;rcases U hF with⟨h20,hF⟩|⟨h20,hF⟩;refine wz ?_;cases hF;exact ae () [0,1,2];refine wz ?_;cases hF;exact ae () [0,1,2];refine wz ?_;cases hF;exact ae () [0,1,2];rintro⟨⟩;refine US ?_;rcases U hF with⟨h21,hF⟩|⟨h21,hF⟩;refine wz ?_;cases hF;exact ae () [1,2];refine wz ?_;cases hF;exact ae () [1,2];rcases r0 with _|v6;rintro⟨⟩;refine At.tr ?_;cases hF;exact ae () [];rintro⟨⟩;refine an ?_;cases hF;exact ae () [0,1];refine wz ?_;cases hF;exact ae () [];rcases r1 with _|v5;rintro⟨⟩;refine wz ?_;cases hF;exact ar () [];rintro⟨⟩;refine an ?_;rcases U hF with⟨h22,hF⟩|⟨h22,hF⟩;refine an ?_;cases hF;exact ar () [];refine dM ?_;cases hF;exact ar () []
def AJ{n l3 l2 l4 l1 x3 x4 x10 a0 c1 a1 c2}{r0:Ux}{e0:Uv}{a3 c3 a2 c0}{r1:Ux}{e1:Uv}{r}(hF:FZ n l3 l2 l4 l1 x3 x4 x10=some r)(m)(h2:dA m a0 c1 l3)(h3:fa m a1 c2 l2 e0)(h4:(bT ai r0 l2 e0).P m)(h5:qY m a3 c3 l4)(h6:Rd m a2 c0 1 l1.length e1)(h7:(bT ba r1 l1 e1).P m):
 aC (Vr p q) 59 [dZ a0 l3 c1 a1 l2 c2,dZ a3 l4 c3 a2 l1 c0,eU x3 x4,aL x10] m (Vn m (.bool r)):=by
 unfold FZ at hF;refine cw Tryz.func59 (U5 (UT (UT (U5 (UT (UT (UP m) bQ h2) (bO bQ) h3) (bO (bO bQ)) h4) (B2 (bO (bO bQ))) h5) (bO (B2 (bO (bO bQ)))) h6) (bO (bO (B2 (bO (bO bQ))))) h7) ?_;refine wz ?_;refine wb fun b0=>?_;refine wb fun b3=>?_;refine wb fun b1=>?_;refine wb fun b2=>?_;refine wz ?_;refine UJ<|U3 (prs:=[(4,5)]) (by kernel_rfl)<|UI (aD (k:=3) eS rfl rfl rfl) rfl<|UI (aM (r:=ptr b3 0) rfl (eD _ _)) rfl<|UI (aD (k:=2) ia rfl rfl rfl) rfl<|UI (aD (k:=0) bX rfl rfl rfl) rfl ?_
 obtain⟨l5,h8,hF⟩:=J hF;refine nc gn (fun m hm=>oH h8 m (hm.q 9) (hm.q 8) (hm.dp (q:=7) rfl) (hm.q 6)) ?_;rintro⟨a4,n0⟩;refine Wn.len (k:=0) (xs:=l5) rfl ?_;rintro rfl;refine UI (aD (k:=2) bJ rfl rfl rfl) rfl ?_;obtain⟨r4,h9,hF⟩:=J hF;refine nc gn (fun m hm=>Ba h9 m (hm.rd (k:=0) rfl (.sl _ _ _ _))) ?_;rintro⟨⟩;refine UI (aI rfl rfl (ng _ _ _)) rfl<|UI (aK rfl) rfl ?_;rcases U hF with⟨h0,hF⟩|⟨h0,hF⟩;refine U2 (aM (r:=ptr b3 1) rfl (eC _ _)) (gg rfl rfl (dJ h0)) rfl<|U2 (aD (k:=3) jU rfl rfl rfl) (gg rfl rfl (dJ h0)) rfl<|U2 (jO rfl rfl) (gg rfl rfl (dJ h0)) rfl ?_;obtain⟨v0,h10,hF⟩:=J hF;refine Va (lN (α:=Unit) (V:=fun g=>(fun(r:Int) (g:Unit)=>match r,g with|v0,_=>(.int .i64 v0:Uy)) v0 g) (N:=fun g=>(fun(r:Int) (g:Unit)=>match r,g with|v0,_=>([]:List Pc)) v0 g) rfl rfl (fun m hm=>?_)) (gg rfl rfl (dJ h0)) rfl ?_
 clear hF;revert v0;intro r hF;refine aW (N:=19) (rs:=[.tmp 4]) rfl Tryz.func60 rfl rfl rfl hm ?_;refine an ?_;refine UK ?_;obtain⟨r3,h1,hF⟩:=J hF;refine ct (fun(r:(Int) ⊕(Unit)) (g:Unit)=>match r,g with|.inl v2,_=>⟨.ret,[(4,aL v2)],[]⟩|.inr _,_=>⟨(.exit 0),[],[]⟩) r3 ?_ ?_
 refine lo h1 () [4,10,9,8,1,2,6,5] (fun v3 _=>⟨.normal,((1,.func (.func 95) #[] #[ptr b0 0,ptr b2 0,ptr b1 0])::xT a2 l1 c0 v3 []),(cR b0 a0 l3 c1 a1 l2 c2 e0 ai r0 (eZ b2 x10::cS b1 x3 x4::ff a2 c0 l1 e1 ba r1 []))⟩) ?_;clear hF h1;rintro v3 ⟨⟩ r hF;unfold qO at hF;refine wz ?_;refine UJ ?_;rcases U hF with⟨h11,hF⟩|⟨h11,hF⟩;refine an ?_;obtain⟨h12,hF⟩:=bI hF;refine UY (k:=6) rfl (az h12) ?_;rintro b4 o1 rfl;refine wz ?_;obtain⟨l7,h13,hF⟩:=J hF;refine wl 1 0 8 0 h13 ?_;rintro⟨a5,c4⟩;refine an ?_;obtain⟨v1,h14,hF⟩:=J hF;refine wq (fun v1 (_:Unit)=>(.bool v1,(cR b0 a0 l3 c1 a1 l2 c2 e0 ai r0 (eZ b2 x10::cS b1 x3 x4::iV b4 o1 l1 e1 ba r1 c0 [])))) v1 (fun m hm=>?_) ?_;clear hF;revert v1;intro r hF;refine aW (N:=13) (rs:=[.tmp 5]) rfl Tryz.func95 rfl rfl rfl hm ?_;refine wz ?_;refine UJ<|U3 (prs:=[(3,4)]) (by kernel_rfl)<|UI (aD (k:=2) eS rfl rfl rfl) rfl<|UI (aK rfl) rfl<|UI (aD (k:=6) bX rfl rfl rfl) rfl ?_
 obtain⟨l6,h15,hF⟩:=J hF;refine nc gn (fun m hm=>oH h15 m (hm.q 3) (hm.q 4) (hm.dp (q:=5) rfl) (hm.q 0)) ?_;rintro⟨a6,n1⟩;refine Wn.len (k:=0) (xs:=l6) rfl ?_;rintro rfl;refine UI (aD (k:=8) bJ rfl rfl rfl) rfl ?_;obtain⟨r5,h16,hF⟩:=J hF;refine nc gn (fun m hm=>Ba h16 m (hm.rd (k:=0) rfl (.sl _ _ _ _))) ?_;rintro⟨⟩;refine UI (aI rfl rfl (oj _ _)) rfl<|UI (bH rfl) rfl<|U0 (fun m hm=>cq.all rfl) ?_;refine an ?_;cases hF;exact ar () [3,4,5,6,7,8,2,10,9];rintro⟨⟩;refine wz ?_;rcases U hF with⟨h17,hF⟩|⟨h17,hF⟩;refine an ?_;cases hF;exact ae () [];refine an ?_;cases hF;exact ae () [0,1,2,3,4,5,8,7];refine wz ?_;cases hF;exact ae () [];rcases r3 with v2|_;rintro⟨⟩;refine wz ?_;obtain rfl:=R9 hF;exact ar () [];rintro⟨⟩;refine dM ?_;cases hF;exact ar () [];rintro⟨⟩;refine U2 (aI rfl rfl (gi _ _ _)) (gg rfl rfl (dJ h0)) rfl<|UI (ux rfl h0 rfl) rfl<|UI (bH rfl) rfl<|U0 (fun m hm=>cq.all rfl) ?_;refine an ?_;cases hF;exact ar () [];refine U4 (gg rfl rfl (nO h0)) rfl<|U4 (gg rfl rfl (nO h0)) rfl<|U4 (gg rfl rfl (nO h0)) rfl<|U4 (gg rfl rfl (nO h0)) rfl<|U4 (gg rfl rfl (nO h0)) rfl<|UI (ui rfl h0 rfl) rfl<|UI (bH rfl) rfl<|U0 (fun m hm=>cq.all rfl) ?_;refine an ?_;cases hF;exact ar () []
end
end Go.Proofs.YtmndpgfbkicndaaGreat
