/- A part of the proof. -/
import Derived.Test.YtmndpgfbkicndaaGreatCe3
import Derived.Shelf.GgSortFunc.RowK
import Derived.Shelf.SlSortCmp.WholeK
import Derived.Shelf.SlGeneric
import Derived.Ground.SlsfProg
import Derived.Test.YtmndpgfbkicndaaGreatProg
import Derived.Shelf.SlSortCmp.NoneTotal
import Derived.Shelf.SlicesE.Delete
import Derived.Ground.SlgnProg
import Derived.Lib.Overlaps
import Derived.Ground.Names2Prog
import Derived.Shelf.Spec.SlicesInsert
import Derived.Shelf.Spec.SlicesInsertGrow
set_option linter.all false
section
open Go Go.Ab Go.Ab.W
abbrev Wa(m:Wb)(v0:Value):Value->Wb->Prop:=fun v m'=>∃x:WC,v=v0/\Hp m m' []
abbrev VB:=@Wo.od
abbrev VC:=@Wn.od
abbrev VD:=@Wk.seq
abbrev VE:=@Wk.block
abbrev VF:=@Wk.region
abbrev VG:=@Hp.start
abbrev VH:=@At.az
abbrev VI:=@At.tn
abbrev VJ:=@Hp.bB
abbrev VK:=@Wo.az
abbrev VL:=@Wo.x
abbrev VM:=@Wo.og
abbrev VN:=@Wo.nil
abbrev VO:=@Wo.aZ
abbrev VP:=@Wn.nil
abbrev VQ:=@At.ret
abbrev VS:=@Wn.og
abbrev VT:=@Wk.cF
abbrev VU:=@Wn.s
abbrev VV:=@Wo.open
abbrev VW:=@Hp.eW
abbrev VX:=@Wn.oj
abbrev VY:=@Wo.len
abbrev VZ:=@Wk.dx
abbrev V0:=@Wo.o0
abbrev V1:=@Wn.o0
abbrev V2:=@Wo.gF
abbrev V3:=@Wn.x
abbrev V4:=@Wn.az
def V5:Nat->Nat->WB Nat
 | _,0=>[]
 | a,n+1=>a::V5 (a+1) n
abbrev V6{α:Type}(l:WB α)(k:Int):WB α:=(l.drop Vy).take ((mi (l.length:Int) k).toNat-Vy)
end
namespace Go.Proofs.YtmndpgfbkicndaaGreat
open Go Go.Ab Go.Ab.W
def Pf(n:Nat)(x1:Int)(x2:Int):WA Bool :=
br (decide (mi x1 x2 < -1000000)) (
some true) (
some (decide (1000000<ma x1 x2)))
def zb(n:Nat)(l1:WB (Int)):(Int×Int)->WA ((Int×Int) ⊕(Int)):=fun(v14,v15) =>
br (decide (v15<(l1.length:Int))) (
gd (bu v15 l1.length) (
ob (l1[v15.toNat]?) fun x25 =>
some (.inl (mi v14 x25,Vx (v15+1))))) (
some (.inr v14))
def Pg(n:Nat)(l1:WB (Int)):WA Int :=
br (decide ((l1.length:Int)<1)) (
none) (
gd (bu 0 l1.length) (
ob (l1[Vy]?) fun x10 =>
ob (
bh (zb n l1) n (x10,1)) fun v22 =>
some v22))
def AB(n:Nat)(l1:WB (Int)):(Int×Int)->WA ((Int×Int) ⊕(Int)):=fun(v14,v15) =>
br (decide (v15<(l1.length:Int))) (
gd (bu v15 l1.length) (
ob (l1[v15.toNat]?) fun x25 =>
some (.inl (ma v14 x25,Vx (v15+1))))) (
some (.inr v14))
def O6(n:Nat)(l1:WB (Int)):WA Int :=
br (decide ((l1.length:Int)<1)) (
none) (
gd (bu 0 l1.length) (
ob (l1[Vy]?) fun x10 =>
ob (
bh (AB n l1) n (x10,1)) fun v22 =>
some v22))
def zS(n:Nat)(l12:WB (Int))(l1:Vn)(x16:Int):(Vn×Int)->WA ((Vn×Int) ⊕(Vn)):=fun(l36,v38) =>
br (decide (v38<(l12.length:Int))) (
gd (bu v38 l12.length) (
ob (l12[v38.toNat]?) fun x64 =>
gd (bu x64 l1.length) (
ob (l1[x64.toNat]?) fun(x69,x70) =>
gd (bu x64 l1.length) (
gd (lim (l36++[(Vx (x16*x69),Vx (x16*x70))]).length) (
some (.inl ((l36++[(Vx (x16*x69),Vx (x16*x70))]),Vx (v38+1)))))))) (
some (.inr l36))
def JO(n:Nat)(l1:Vn)(l5:Vl)(l12:WB (Int))(x16:Int):WA Vn :=
ob (
bh (zS n l12 l1 x16) n (([]:Vn),0)) fun l58 =>
some l58
def xE(n:Nat)(x1:Int)(x2:Int):WA Bool :=
ob (some (ma (ma (ma x1 (Vx (0-x1))) x2) (Vx (0-x2)))) fun y4 =>
br (decide (1000000<y4)) (
some true) (
some (decide (mi x1 x2 < -1000000)))
def Jg(n:Nat)(x1:Int):WA Bool :=
some (!decide (x1=x1))
def BE(n:Nat)(x1:Int)(x2:Int):WA Int :=
ob (Jg n x1) fun r4 =>
ob (Jg n x2) fun r6 =>
br (r4) (
br (r6) (
some 0) (
some (-1))) (
br (r6) (
some 1) (
br (decide (x1<x2)) (
some (-1)) (
br (decide (x2<x1)) (
some 1) (
some 0))))
def uU(n:Nat)(x1:Int)(x2:Int)(x3:Int)(x4:Int)(x5:Int)(x6:Int):WA Int :=
ob (some (Vx ((Vx (x3-x1))*(Vx (x6-x2))))) fun y10 =>
ob (some (Vx ((Vx (x4-x2))*(Vx (x5-x1))))) fun y12 =>
ob (BE n y10 y12) fun r15 =>
some r15
def lW(n:Nat)(l1:WB (Int)):Int->WA (Int ⊕(Int ⊕(WC))):=fun v6 =>
br (decide (v6<(l1.length:Int))) (
gd (bu v6 l1.length) (
ob (l1[v6.toNat]?) fun x20 =>
br (!decide (x20=0)) (
some (.inr (.inl x20))) (
some (.inl (Vx (v6+1)))))) (
some (.inr (.inr ())))
def JG(n:Nat)(l1:WB (Int)):WA Int :=
ob (α:=(Int) ⊕(WC)) (
bh (lW n l1) n 0) fun r24=>match r24 with
| .inl v15 =>
some v15
| .inr _ =>
some 0
def xC(n:Nat)(x1:Int)(x2:Int)(x3:Int)(x4:Int):WA Int :=
ob (BE n x1 x3) fun r8 =>
ob (BE n x2 x4) fun r10 =>
ob (JG n ([r8,r10])) fun r13 =>
some r13
def EZ(n:Nat)(x1:Int)(x2:Int)(x3:Int)(x4:Int)(x5:Int)(x6:Int)(x7:Int):WA Bool :=
ob (uU n x2 x3 x4 x5 x6 x7) fun r11 =>
br (!decide (r11=0)) (
some false) (
ob (
ob (xC n x2 x3 x4 x5) fun r23 =>
br (decide (0<r23)) (
some (x4,x5,x2,x3)) (
some (x2,x3,x4,x5))) fun(v18,v19,v20,v21) =>
ob (xC n v18 v19 x6 x7) fun r28 =>
br (decide (r28<=0)) (
ob (xC n x6 x7 v20 v21) fun r31 =>
some (decide (r31<=0))) (
some false))
def mq(n:Nat)(x2:Int)(x10:Int)(x11:Int)(x5:Int)(x7:Int)(x8:Int)(x9:Int)(x12:Int)(x1:Int)(x6:Int):(WB ((Int×Int)×Bool)×Int)->WA ((WB ((Int×Int)×Bool)×Int) ⊕(WB ((Int×Int)×Bool))):=fun(l1,v0) =>
br (decide (v0<4)) (
ob (
gd (bu v0 4) (
ob ([(x2,x10),(x11,x5),(x7,x8),(x9,x12)][v0.toNat]?) fun(x3,x4) =>
ob (
ob (EZ n x1 x2 x10 x11 x5 x3 x4) fun r0 =>
br (r0) (
ob (EZ n x6 x7 x8 x9 x12 x3 x4) fun r1 =>
some r1) (
some false)) fun v1 =>
br (v1) (
some (gS l1 (x3,x4) true)) (
some l1))) fun l2 =>
some (.inl (l2,Vx (v0+1)))) (
some (.inr l1))
def DB(n:Nat)(x1:Int)(x2:Int)(x3:Int)(x4:Int)(x5:Int)(x6:Int)(x7:Int)(x8:Int)(x9:Int)(x10:Int):WA Int :=
ob (uU n x2 x3 x4 x5 x7 x8) fun r0 =>
ob (uU n x2 x3 x4 x5 x9 x10) fun r1 =>
ob (uU n x7 x8 x9 x10 x2 x3) fun r3 =>
ob (uU n x7 x8 x9 x10 x4 x5) fun r4 =>
ob (
bh (mq n x2 x3 x4 x5 x7 x8 x9 x10 x1 x6) n (([]:WB ((Int×Int)×Bool)),0)) fun l1 =>
ob (some (l1.length)) fun y0 =>
br (decide (1<(y0:Int))) (
some 3) (
ob (some (l1.length)) fun y1 =>
br (decide ((y1:Int)=1)) (
some 1) (
ob (
br (decide (Vx (r0*r1)<0)) (
some (decide (Vx (r3*r4)<0))) (
some false)) fun v0 =>
br (v0) (
some 2) (
some 0)))
def tZ(n:Nat)(l1:Vn):Int->WA (Int ⊕(Int ⊕(WC))):=fun v49 =>
br (decide (v49<(l1.length:Int))) (
gd (bu v49 l1.length) (
ob (l1[v49.toNat]?) fun(x66,x67) =>
ob (xE n x66 x67) fun r70 =>
br (r70) (
some (.inr (.inl v49))) (
some (.inl (Vx (v49+1)))))) (
some (.inr (.inr ())))
def rT(n:Nat)(l1:Vn):Int->WA (Int ⊕(Int ⊕(WC))):=fun v0 =>
br (decide (v0<(l1.length:Int))) (
gd (bu v0 l1.length) (
ob (l1[v0.toNat]?) fun(x3,x4) =>
gd (decide ((l1.length:Int)≠0)) (
gd (bu (Int.tmod (Vx (v0+1)) (l1.length:Int)) l1.length) (
ob (l1[(Int.tmod (Vx (v0+1)) (l1.length:Int)).toNat]?) fun(x10,x11) =>
ob (α:=(WC) ⊕(WC)) (
br ((decide (x3=x10)&&decide (x4=x11))) (
some (.inl ())) (
some (.inr ()))) fun r0=>match r0 with
| .inl _ =>
some (.inr (.inl v0))
| .inr _ =>
some (.inl (Vx (v0+1))))))) (
some (.inr (.inr ())))
def sU(n:Nat)(l1:Vn):Int->WA (Int ⊕(Int ⊕(WC))):=fun v0 =>
br (decide (v0<(l1.length:Int))) (
gd (bu v0 l1.length) (
ob (l1[v0.toNat]?) fun(x3,x4) =>
gd (decide ((l1.length:Int)≠0)) (
gd (bu (Int.tmod (Vx (v0+1)) (l1.length:Int)) l1.length) (
ob (l1[(Int.tmod (Vx (v0+1)) (l1.length:Int)).toNat]?) fun(x10,x11) =>
ob (α:=(WC) ⊕(WC)) (
gd (decide ((l1.length:Int)≠0)) (
ob (some (Int.tmod (Vx ((Vx (v0+(l1.length:Int)))-1)) (l1.length:Int))) fun y0 =>
gd (bu y0 l1.length) (
ob (l1[y0.toNat]?) fun(x12,x13) =>
ob (
ob (uU n x12 x13 x3 x4 x10 x11) fun r0 =>
br (decide (r0=0)) (
ob (some (Vx ((Vx (x3-x12))*(Vx (x10-x3))))) fun y1 =>
ob (some (Vx ((Vx (x4-x13))*(Vx (x11-x4))))) fun y2 =>
some (decide (Vx (y1+y2)<0))) (
some false)) fun v1 =>
br (v1) (
some (.inl ())) (
some (.inr ()))))) fun r1=>match r1 with
| .inl _ =>
some (.inr (.inl v0))
| .inr _ =>
some (.inl (Vx (v0+1))))))) (
some (.inr (.inr ())))
def ui(n:Nat)(l1:Vn)(v1:Int)(x3:Int)(x4:Int)(x10:Int)(x11:Int):Int->WA (Int ⊕(WC ⊕(WC ⊕(WC)))):=fun v0 =>
br (decide (v0<(l1.length:Int))) (
gd (bu v0 l1.length) (
ob (l1[v0.toNat]?) fun(x12,x13) =>
gd (decide ((l1.length:Int)≠0)) (
gd (bu (Int.tmod (Vx (v0+1)) (l1.length:Int)) l1.length) (
ob (l1[(Int.tmod (Vx (v0+1)) (l1.length:Int)).toNat]?) fun(x14,x15) =>
ob (α:=(WC) ⊕(WC ⊕(WC))) (
br (decide (Vx (v1-1)<=v0)) (
some (.inl ())) (
ob (
br (decide (v0=0)) (
some (decide (v1=Vx ((l1.length:Int)-1)))) (
some false)) fun v2 =>
br (v2) (
some (.inr (.inl ()))) (
ob (DB n v1 x3 x4 x10 x11 v0 x12 x13 x14 x15) fun r0 =>
br (!decide (r0=0)) (
some (.inr (.inr ()))) (
some (.inr (.inl ())))))) fun r1=>match r1 with
| .inl _ =>
some (.inr (.inl ()))
| .inr (.inl _) =>
some (.inl (Vx (v0+1)))
| .inr (.inr _) =>
some (.inr (.inr (.inl ()))))))) (
some (.inr (.inr (.inr ()))))
def tR(n:Nat)(l1:Vn):Int->WA (Int ⊕(Int ⊕(WC))):=fun v0 =>
br (decide (v0<(l1.length:Int))) (
gd (bu v0 l1.length) (
ob (l1[v0.toNat]?) fun(x3,x4) =>
gd (decide ((l1.length:Int)≠0)) (
gd (bu (Int.tmod (Vx (v0+1)) (l1.length:Int)) l1.length) (
ob (l1[(Int.tmod (Vx (v0+1)) (l1.length:Int)).toNat]?) fun(x10,x11) =>
ob (α:=(WC) ⊕(WC)) (
ob (
some ()) fun _ =>
ob (α:=(WC) ⊕(WC ⊕(WC))) (
ob (α:=(WC) ⊕(WC ⊕(WC))) (
bh (ui n l1 v0 x3 x4 x10 x11) n 0) fun r0=>match r0 with
| .inl _ =>
some (.inl ())
| .inr (.inl _) =>
some (.inr (.inl ()))
| .inr (.inr _) =>
some (.inr (.inr ()))) fun r1=>match r1 with
| .inl _ =>
some (.inl ())
| .inr (.inl _) =>
some (.inr ())
| .inr (.inr _) =>
some (.inl ())) fun r3=>match r3 with
| .inl _ =>
some (.inl (Vx (v0+1)))
| .inr _ =>
some (.inr (.inl v0)))))) (
some (.inr (.inr ())))
def Im(n:Nat)(l1:Vn):WA (Int×Int) :=
ob (
br (decide ((l1.length:Int)<3)) (
some true) (
some (decide (40<(l1.length:Int))))) fun v1 =>
br (v1) (
some (1,0)) (
ob (
ob (α:=(Int) ⊕(WC)) (
bh (tZ n l1) n 0) fun r0=>match r0 with
| .inl v2 =>
some v2
| .inr _ =>
some (-1)) fun v0 =>
br (decide (0<=v0)) (
some (2,v0)) (
ob (
some ()) fun _ =>
ob (α:=(Int) ⊕(WC)) (
ob (α:=(Int) ⊕(WC)) (
bh (rT n l1) n 0) fun r1=>match r1 with
| .inl v3 =>
some (.inl v3)
| .inr _ =>
some (.inr ())) fun r3=>match r3 with
| .inl v4 =>
some (3,v4)
| .inr _ =>
ob (
some ()) fun _ =>
ob (α:=(Int) ⊕(WC)) (
ob (α:=(Int) ⊕(WC)) (
bh (sU n l1) n 0) fun r4=>match r4 with
| .inl v5 =>
some (.inl v5)
| .inr _ =>
some (.inr ())) fun r5=>match r5 with
| .inl v6 =>
some (4,v6)
| .inr _ =>
ob (
some ()) fun _ =>
ob (α:=(Int) ⊕(WC)) (
ob (α:=(Int) ⊕(WC)) (
bh (tR n l1) n 0) fun r6=>match r6 with
| .inl v7 =>
some (.inl v7)
| .inr _ =>
some (.inr ())) fun r7=>match r7 with
| .inl v8 =>
some (5,v8)
| .inr _ =>
some (0,0)))
def PI(n:Nat)(l1:Vn):WA Int :=
ob (Im n l1) fun(r6,r7) =>
br (decide (0<r6)) (
some 140) (
some 0)
def wo(n:Nat)(l1:Vn):(Int×Int)->WA ((Int×Int) ⊕(Int)):=fun(v7,v8) =>
br (decide (v8<(l1.length:Int))) (
gd (bu v8 l1.length) (
ob (l1[v8.toNat]?) fun(x32,x33) =>
gd (decide ((l1.length:Int)≠0)) (
gd (bu (Int.tmod (Vx (v8+1)) (l1.length:Int)) l1.length) (
ob (l1[(Int.tmod (Vx (v8+1)) (l1.length:Int)).toNat]?) fun(x38,x39) =>
ob (some (Vx ((Vx (x32*x39))-(Vx (x33*x38))))) fun y42 =>
some (.inl (Vx (v7+y42),Vx (v8+1))))))) (
some (.inr v7))
def O7(n:Nat)(l1:Vn):WA Int :=
ob (
bh (wo n l1) n (0,0)) fun v27 =>
some v27
def Gn(n:Nat)(x1:Int)(x2:Int)(x3:Int)(x4:Int)(x5:Int)(x6:Int)(x7:Int)(x8:Int):WA (Int×Int) :=
ob (
ob (xE n x1 x2) fun r58 =>
br (r58) (
some true) (
ob (xE n x3 x4) fun r61 =>
br (r61) (
some true) (
ob (xE n x5 x6) fun r64 =>
br (r64) (
some true) (
ob (xE n x7 x8) fun r67 =>
br (r67) (
some true) (
br ((decide (x1=x3)&&decide (x2=x4))) (
some true) (
some (decide (x5=x7)&&decide (x6=x8)))))))) fun v56 =>
br (v56) (
some (0,2)) (
ob (DB n 0 x1 x2 x3 x4 0 x5 x6 x7 x8) fun r74 =>
some (r74,0))
def FY(n:Nat)(l1:Vn)(l5:Vl)(x12:Int)(x13:Int)(x14:Int)(x15:Int)(x16:Int)(x17:Int)(x18:Int)(x19:Int):WA Bool :=
ob (
br (decide (x12=x16)) (
br (decide (x13=x17)) (
some true) (
br (decide (x12=x17)) (
some (decide (x13=x16))) (
some false))) (
br (decide (x12=x17)) (
some (decide (x13=x16))) (
some false))) fun v39 =>
br (v39) (
some false) (
gd (bu x12 l1.length) (
ob (l1[x12.toNat]?) fun(x50,x51) =>
gd (bu x13 l1.length) (
ob (l1[x13.toNat]?) fun(x54,x55) =>
gd (bu x16 l1.length) (
ob (l1[x16.toNat]?) fun(x58,x59) =>
gd (bu x17 l1.length) (
ob (l1[x17.toNat]?) fun(x62,x63) =>
ob (Gn n x50 x51 x54 x55 x58 x59 x62 x63) fun(r66,r67) =>
br (decide (r66=0)) (
some false) (
br (decide (r66=1)) (
br (!decide (x12=x16)) (
br (!decide (x12=x17)) (
br (!decide (x13=x16)) (
some (!decide (x13=x17))) (
some false)) (
some false)) (
some false)) (
some true)))))))
def tM(n:Nat)(l1:Vn)(x6:Int)(x5:Int):(Int×Int)->WA ((Int×Int) ⊕(WC ⊕(Int))):=fun(v1,v0) =>
br (decide (v0<(l1.length:Int))) (
ob (α:=(WC) ⊕(Int)) (
gd (bu v0 l1.length) (
ob (l1[v0.toNat]?) fun(x10,x3) =>
gd (decide ((l1.length:Int)≠0)) (
gd (bu (Int.tmod (Vx (v0+1)) (l1.length:Int)) l1.length) (
ob (l1[(Int.tmod (Vx (v0+1)) (l1.length:Int)).toNat]?) fun(x11,x4) =>
ob (some (Vx ((Vx (x11-x10))*(Vx (x6-x3))))) fun y0 =>
ob (some (Vx ((Vx (x4-x3))*(Vx (x5-x10))))) fun y1 =>
ob (
br (decide (Vx (y0-y1)=0)) (
br (decide (mi x10 x11<=x5)) (
br (decide (x5<=ma x10 x11)) (
br (decide (mi x3 x4<=x6)) (
some (decide (x6<=ma x3 x4))) (
some false)) (
some false)) (
some false)) (
some false)) fun v2 =>
br (v2) (
some (.inl ())) (
ob (
br (decide (x3<=x6)) (
br (decide (x6<x4)) (
some (decide (0<Vx (y0-y1)))) (
some false)) (
some false)) fun v3 =>
br (v3) (
some (.inr (Vx (v1+1)))) (
ob (
br (decide (x6<x3)) (
br (decide (x4<=x6)) (
some (decide (Vx (y0-y1)<0))) (
some false)) (
some false)) fun v4 =>
br (v4) (
some (.inr (Vx (v1-1)))) (
some (.inr v1)))))))) fun r0=>match r0 with
| .inl _ =>
some (.inr (.inl ()))
| .inr v5 =>
some (.inl (v5,Vx (v0+1)))) (
some (.inr (.inr v1)))
def Mx(n:Nat)(l1:Vn)(x5:Int)(x6:Int):WA Int :=
ob (α:=(WC) ⊕(Int)) (
bh (tM n l1 x6 x5) n (0,0)) fun r0=>match r0 with
| .inl _ =>
some 1
| .inr v0 =>
br (decide (v0=0)) (
some 0) (
some 2)
def zu(n:Nat)(l1:Vo)(l2:Vn)(l3:Vl)(x3:Int)(x4:Int)(x10:Int):Int->WA (Int ⊕(Int ⊕(WC))):=fun v0 =>
br (decide (v0<(l1.length:Int))) (
gd (bu v0 l1.length) (
ob (l1[v0.toNat]?) fun l4 =>
ob (
ob (JO n l2 l3 l4 x3) fun l5 =>
ob (Mx n l5 x4 x10) fun r0 =>
some (!decide (r0=0))) fun v1 =>
br (v1) (
some (.inr (.inl v0))) (
some (.inl (Vx (v0+1)))))) (
some (.inr (.inr ())))
def K7(n:Nat)(l1:Vn)(l2:Vl)(l3:WB (Int))(l4:Vo)(x3:Int)(x4:Int)(x10:Int):WA Bool :=
ob (JO n l1 l2 l3 x10) fun l5 =>
ob (Mx n l5 x3 x4) fun r0 =>
br (decide (r0=2)) (
ob (
ob (α:=(Int) ⊕(WC)) (
bh (zu n l4 l1 l2 x10 x3 x4) n 0) fun r1=>match r1 with
| .inl v0 =>
some v0
| .inr _ =>
some (-1)) fun v1 =>
some (decide (v1<0))) (
some false)
def qW(n:Nat)(l1:WB Int):(Int×WB ((Int×Int)×Bool))->WA ((Int×WB ((Int×Int)×Bool)) ⊕((WB ((Int×Int)×Bool)) ⊕(WB ((Int×Int)×Bool)))):=fun(v0,l2) =>
br (decide (v0<(l1.length:Int))) (
gd (bu v0 l1.length) (
ob (l1[v0.toNat]?) fun x3 =>
gd (decide ((l1.length:Int)≠0)) (
gd (bu (Int.tmod (Vx (v0+1)) (l1.length:Int)) l1.length) (
ob (l1[(Int.tmod (Vx (v0+1)) (l1.length:Int)).toNat]?) fun x4 =>
ob (α:=(WC) ⊕(WC)) (
ob (some ((cR l2 (x3,x4)).getD false)) fun y0 =>
br (y0) (
some (.inl ())) (
some (.inr ()))) fun r0=>match r0 with
| .inl _ =>
some (.inr (.inl l2))
| .inr _ =>
some (.inl (Vx (v0+1),(gS l2 (x3,x4) true))))))) (
some (.inr (.inr l2)))
def qH(n:Nat)(l1:Vo):(Int×WB ((Int×Int)×Bool))->WA ((Int×WB ((Int×Int)×Bool)) ⊕((WB ((Int×Int)×Bool)) ⊕(WB ((Int×Int)×Bool)))):=fun(v0,l2) =>
br (decide (v0<(l1.length:Int))) (
gd (bu v0 l1.length) (
ob (l1[v0.toNat]?) fun l3 =>
ob (α:=(WB ((Int×Int)×Bool)) ⊕(WB ((Int×Int)×Bool))) (
bh (qW n l3) n (0,l2)) fun r0=>match r0 with
| .inl l4 =>
some (.inr (.inl l4))
| .inr l5 =>
some (.inl (Vx (v0+1),l5)))) (
some (.inr (.inr l2)))
def qQ(n:Nat)(l1:Vl):(Int×WB ((Int×Int)×Bool))->WA ((Int×WB ((Int×Int)×Bool)) ⊕((Int×WB ((Int×Int)×Bool)) ⊕(WB ((Int×Int)×Bool)))):=fun(v0,l2) =>
br (decide (v0<(l1.length:Int))) (
gd (bu v0 l1.length) (
ob (l1[v0.toNat]?) fun(l3,l4) =>
ob (Bv n l3 l4) fun l5 =>
ob (α:=(WB ((Int×Int)×Bool)) ⊕(WB ((Int×Int)×Bool))) (
bh (qH n l5) n (0,l2)) fun r0=>match r0 with
| .inl l6 =>
some (.inr (.inl (v0,l6)))
| .inr l7 =>
some (.inl (Vx (v0+1),l7)))) (
some (.inr (.inr l2)))
def sW(n:Nat)(l1:WB (Vm))(l2:Vn)(l3:Vl)(x3:Int)(x4:Int)(v1:Int)(v2:Int):Int->WA (Int ⊕(Int ⊕(WC))):=fun v0 =>
br (decide (v0<(l1.length:Int))) (
gd (bu v0 l1.length) (
ob (l1[v0.toNat]?) fun(x10,x11,x12,x13) =>
ob (
ob (FY n l2 l3 x3 x4 v1 v2 x10 x11 x12 x13) fun r0 =>
some r0) fun v3 =>
br (v3) (
some (.inr (.inl v0))) (
some (.inl (Vx (v0+1)))))) (
some (.inr (.inr ())))
def qO(n:Nat)(l1:WB Int)(l3:Vn)(l4:Vl)(v1:Int)(v2:Int):(Int×WB (Vm))->WA ((Int×WB (Vm)) ⊕((WB (Vm)) ⊕(WB (Vm)))):=fun(v0,l2) =>
br (decide (v0<(l1.length:Int))) (
gd (bu v0 l1.length) (
ob (l1[v0.toNat]?) fun x3 =>
gd (decide ((l1.length:Int)≠0)) (
gd (bu (Int.tmod (Vx (v0+1)) (l1.length:Int)) l1.length) (
ob (l1[(Int.tmod (Vx (v0+1)) (l1.length:Int)).toNat]?) fun x4 =>
ob (α:=(WC) ⊕(WB (Vm))) (
ob (
ob (α:=(Int) ⊕(WC)) (
bh (sW n l2 l3 l4 x3 x4 v1 v2) n 0) fun r0=>match r0 with
| .inl v3 =>
some v3
| .inr _ =>
some (-1)) fun v4 =>
br (decide (0<=v4)) (
some (.inl ())) (
gd (lim (l2++[(x3,x4,v1,v2)]).length) (
some (.inr (l2++[(x3,x4,v1,v2)]))))) fun r1=>match r1 with
| .inl _ =>
some (.inr (.inl l2))
| .inr l5 =>
some (.inl (Vx (v0+1),l5)))))) (
some (.inr (.inr l2)))
def qX(n:Nat)(l1:Vo)(l3:Vn)(l4:Vl)(v1:Int):(Int×WB (Vm))->WA ((Int×WB (Vm)) ⊕((WB (Vm)) ⊕(WB (Vm)))):=fun(v0,l2) =>
br (decide (v0<(l1.length:Int))) (
gd (bu v0 l1.length) (
ob (l1[v0.toNat]?) fun l5 =>
ob (α:=(WB (Vm)) ⊕(WB (Vm))) (
bh (qO n l5 l3 l4 v1 v0) n (0,l2)) fun r0=>match r0 with
| .inl l6 =>
some (.inr (.inl l6))
| .inr l7 =>
some (.inl (Vx (v0+1),l7)))) (
some (.inr (.inr l2)))
def qV(n:Nat)(l1:Vl)(l3:Vn):(Int×WB (Vm))->WA ((Int×WB (Vm)) ⊕((Int×WB (Vm)) ⊕(WB (Vm)))):=fun(v0,l2) =>
br (decide (v0<(l1.length:Int))) (
gd (bu v0 l1.length) (
ob (l1[v0.toNat]?) fun(l4,l5) =>
ob (Bv n l4 l5) fun l6 =>
ob (α:=(WB (Vm)) ⊕(WB (Vm))) (
bh (qX n l6 l3 l1 v0) n (0,l2)) fun r0=>match r0 with
| .inl l7 =>
some (.inr (.inl (v0,l7)))
| .inr l8 =>
some (.inl (Vx (v0+1),l8)))) (
some (.inr (.inr l2)))
def qL(n:Nat)(l1:WB Int)(v1:Int)(v2:Int)(l3:Vl)(l4:Vo)(l2:Vn)(l5:WB Int):Int->WA (Int ⊕(WC ⊕(WC))):=fun v0 =>
br (decide (v0<(l1.length:Int))) (
gd (bu v0 l1.length) (
ob (l1[v0.toNat]?) fun x3 =>
gd (decide ((l1.length:Int)≠0)) (
gd (bu (Int.tmod (Vx (v0+1)) (l1.length:Int)) l1.length) (
ob (l1[(Int.tmod (Vx (v0+1)) (l1.length:Int)).toNat]?) fun x4 =>
ob (α:=(WC) ⊕(WC)) (
br (decide (v1=0)) (
some (.inl ())) (
gd (bu v2 l3.length) (
ob (LD n l4) fun _ =>
ob (GW n l4 (Vx (v1-1)) v1) fun l6 =>
ob (
gd (bu x3 l2.length) (
ob (l2[x3.toNat]?) fun(x10,x11) =>
gd (bu x4 l2.length) (
ob (l2[x4.toNat]?) fun(x12,x13) =>
some (Vx (x10+x12),Vx (x11+x13))))) fun(v3,v4) =>
ob (K7 n l2 l3 l5 l6 v3 v4 2) fun r0 =>
br (!r0) (
some (.inr ())) (
some (.inl ()))))) fun r1=>match r1 with
| .inl _ =>
some (.inl (Vx (v0+1)))
| .inr _ =>
some (.inr (.inl ())))))) (
some (.inr (.inr ())))
def qG(n:Nat)(l1:Vo)(v1:Int)(l2:Vl)(l3:Vo)(l4:Vn)(l5:WB Int):Int->WA (Int ⊕(WC ⊕(WC))):=fun v0 =>
br (decide (v0<(l1.length:Int))) (
gd (bu v0 l1.length) (
ob (l1[v0.toNat]?) fun l6 =>
ob (α:=(WC) ⊕(WC)) (
bh (qL n l6 v0 v1 l2 l3 l4 l5) n 0) fun r0=>match r0 with
| .inl _ =>
some (.inr (.inl ()))
| .inr _ =>
some (.inl (Vx (v0+1))))) (
some (.inr (.inr ())))
def mK(n:Nat)(l1:Vl)(l4:Vn):Int->WA (Int ⊕(Int ⊕(WC))):=fun v0 =>
br (decide (v0<(l1.length:Int))) (
gd (bu v0 l1.length) (
ob (l1[v0.toNat]?) fun(l2,l3) =>
ob (Bv n l2 l3) fun l5 =>
ob (α:=(WC) ⊕(WC)) (
bh (qG n l5 v0 l1 l3 l4 l2) n 0) fun r0=>match r0 with
| .inl _ =>
some (.inr (.inl v0))
| .inr _ =>
some (.inl (Vx (v0+1))))) (
some (.inr (.inr ())))
def sO(n:Nat)(l2:Vl)(v1:Int)(x3:Int)(l1:Vn)(x4:Int):Int->WA (Int ⊕(WC ⊕(WC))):=fun v0 =>
br (decide (v0<(l2.length:Int))) (
gd (bu v0 l2.length) (
ob (l2[v0.toNat]?) fun(l3,l4) =>
ob (
br (!decide (v0=v1)) (
ob (
gd (bu x3 l1.length) (
ob (l1[x3.toNat]?) fun(x10,x11) =>
gd (bu x4 l1.length) (
ob (l1[x4.toNat]?) fun(x12,x13) =>
some (Vx (x10+x12),Vx (x11+x13))))) fun(v2,v3) =>
ob (K7 n l1 l2 l3 l4 v2 v3 2) fun r0 =>
some r0) (
some false)) fun v4 =>
br (v4) (
some (.inr (.inl ()))) (
some (.inl (Vx (v0+1)))))) (
some (.inr (.inr ())))
def lS(n:Nat)(l1:WB Int)(l2:Vl)(v1:Int)(l3:Vn):Int->WA (Int ⊕(WC ⊕(WC))):=fun v0 =>
br (decide (v0<(l1.length:Int))) (
gd (bu v0 l1.length) (
ob (l1[v0.toNat]?) fun x3 =>
gd (decide ((l1.length:Int)≠0)) (
gd (bu (Int.tmod (Vx (v0+1)) (l1.length:Int)) l1.length) (
ob (l1[(Int.tmod (Vx (v0+1)) (l1.length:Int)).toNat]?) fun x4 =>
ob (α:=(WC) ⊕(WC)) (
ob (α:=(WC) ⊕(WC)) (
bh (sO n l2 v1 x3 l3 x4) n 0) fun r0=>match r0 with
| .inl _ =>
some (.inl ())
| .inr _ =>
some (.inr ())) fun r1=>match r1 with
| .inl _ =>
some (.inr (.inl ()))
| .inr _ =>
some (.inl (Vx (v0+1))))))) (
some (.inr (.inr ())))
def mL(n:Nat)(l1:Vo)(l2:Vl)(v1:Int)(l3:Vn):Int->WA (Int ⊕(WC ⊕(WC))):=fun v0 =>
br (decide (v0<(l1.length:Int))) (
gd (bu v0 l1.length) (
ob (l1[v0.toNat]?) fun l4 =>
ob (α:=(WC) ⊕(WC)) (
bh (lS n l4 l2 v1 l3) n 0) fun r0=>match r0 with
| .inl _ =>
some (.inr (.inl ()))
| .inr _ =>
some (.inl (Vx (v0+1))))) (
some (.inr (.inr ())))
def my(n:Nat)(l1:Vl)(l2:Vn):Int->WA (Int ⊕(Int ⊕(WC))):=fun v0 =>
br (decide (v0<(l1.length:Int))) (
gd (bu v0 l1.length) (
ob (l1[v0.toNat]?) fun(l3,l4) =>
ob (Bv n l3 l4) fun l5 =>
ob (α:=(WC) ⊕(WC)) (
bh (mL n l5 l1 v0 l2) n 0) fun r0=>match r0 with
| .inl _ =>
some (.inr (.inl v0))
| .inr _ =>
some (.inl (Vx (v0+1))))) (
some (.inr (.inr ())))
def QT(n:Nat)(l2:Vn)(l1:Vl):WA (Int×Int) :=
ob (
some ([]:WB ((Int×Int)×Bool))) fun l3 =>
ob (α:=(Int×WB ((Int×Int)×Bool)) ⊕(WB ((Int×Int)×Bool))) (
ob (α:=(Int×WB ((Int×Int)×Bool)) ⊕(WB ((Int×Int)×Bool))) (
bh (qQ n l1) n (0,l3)) fun r0=>match r0 with
| .inl (v0,l4) =>
some (.inl (v0,l4))
| .inr l5 =>
some (.inr l5)) fun r1=>match r1 with
| .inl (v1,l8) =>
some (7,v1)
| .inr l9 =>
ob (
some ()) fun _ =>
ob (α:=(Int×WB (Vm)) ⊕(WB (Vm))) (
ob (α:=(Int×WB (Vm)) ⊕(WB (Vm))) (
bh (qV n l1 l2) n (0,([]:WB (Vm)))) fun r3=>match r3 with
| .inl (v2,l6) =>
some (.inl (v2,l6))
| .inr l7 =>
some (.inr l7)) fun r4=>match r4 with
| .inl (v3,l10) =>
some (8,v3)
| .inr l11 =>
ob (
some ()) fun _ =>
ob (α:=(Int) ⊕(WC)) (
ob (α:=(Int) ⊕(WC)) (
bh (mK n l1 l2) n 0) fun r5=>match r5 with
| .inl v4 =>
some (.inl v4)
| .inr _ =>
some (.inr ())) fun r6=>match r6 with
| .inl v5 =>
some (9,v5)
| .inr _ =>
ob (
some ()) fun _ =>
ob (α:=(Int) ⊕(WC)) (
ob (α:=(Int) ⊕(WC)) (
bh (my n l1 l2) n 0) fun r7=>match r7 with
| .inl v6 =>
some (.inl v6)
| .inr _ =>
some (.inr ())) fun r8=>match r8 with
| .inl v7 =>
some (10,v7)
| .inr _ =>
some (0,0)
def zq(n:Nat)(l1:Vn):Int->WA (Int ⊕(Int ⊕(WC))):=fun v63 =>
br (decide (v63<(l1.length:Int))) (
gd (bu v63 l1.length) (
ob (l1[v63.toNat]?) fun(x81,x82) =>
ob (Pf n x81 x82) fun r86 =>
br (r86) (
some (.inr (.inl v63))) (
some (.inl (Vx (v63+1)))))) (
some (.inr (.inr ())))
def qC(n:Nat)(l1:Vn):(WB ((Int×Int)×Bool)×Int)->WA ((WB ((Int×Int)×Bool)×Int) ⊕(Int ⊕(WC))):=fun(l2,v0) =>
br (decide (v0<(l1.length:Int))) (
gd (bu v0 l1.length) (
ob (l1[v0.toNat]?) fun(x3,x4) =>
ob (some ((cR l2 (x3,x4)).getD false)) fun y0 =>
br (y0) (
some (.inr (.inl v0))) (
some (.inl ((gS l2 (x3,x4) true),Vx (v0+1)))))) (
some (.inr (.inr ())))
def AI(n:Nat)(l2:Vo)(l3:Vn):Int->WA (Int ⊕(WC ⊕(WC))):=fun v0 =>
br (decide (v0<(l2.length:Int))) (
gd (bu v0 l2.length) (
ob (l2[v0.toNat]?) fun l1 =>
ob (
br (decide ((l1.length:Int)<3)) (
some true) (
br (decide (40<(l1.length:Int))) (
some true) (
ob (Pg n l1) fun r0 =>
br (decide (r0<0)) (
some true) (
ob (O6 n l1) fun r1 =>
some (decide ((l3.length:Int)<=r1)))))) fun v1 =>
br (v1) (
some (.inr (.inl ()))) (
some (.inl (Vx (v0+1)))))) (
some (.inr (.inr ())))
def Ar(n:Nat)(l1:Vl)(l3:Vn):Int->WA (Int ⊕(Int ⊕(WC))):=fun v0 =>
br (decide (v0<(l1.length:Int))) (
gd (bu v0 l1.length) (
ob (l1[v0.toNat]?) fun(l4,l2) =>
ob (
br (decide (8<(l2.length:Int))) (
some true) (
ob (
ob (Bv n l4 l2) fun l5 =>
ob (α:=(WC) ⊕(WC)) (
bh (AI n l5 l3) n 0) fun r0=>match r0 with
| .inl _ =>
some true
| .inr _ =>
some false) fun v1 =>
some v1)) fun v2 =>
br (v2) (
some (.inr (.inl v0))) (
some (.inl (Vx (v0+1)))))) (
some (.inr (.inr ())))
def yL(n:Nat)(l1:Vo)(l2:Vn)(l3:Vl):Int->WA (Int ⊕(WC ⊕(WC))):=fun v0 =>
br (decide (v0<(l1.length:Int))) (
gd (bu v0 l1.length) (
ob (l1[v0.toNat]?) fun l4 =>
ob (
ob (JO n l2 l3 l4 1) fun l5 =>
ob (PI n l5) fun r0 =>
some (!decide (r0=0))) fun v1 =>
br (v1) (
some (.inr (.inl ()))) (
some (.inl (Vx (v0+1)))))) (
some (.inr (.inr ())))
def ze(n:Nat)(l1:Vl)(l2:Vn):Int->WA (Int ⊕(Int ⊕(WC))):=fun v0 =>
br (decide (v0<(l1.length:Int))) (
gd (bu v0 l1.length) (
ob (l1[v0.toNat]?) fun(l3,l4) =>
ob (
ob (
ob (Bv n l3 l4) fun l5 =>
ob (α:=(WC) ⊕(WC)) (
bh (yL n l5 l2 l1) n 0) fun r0=>match r0 with
| .inl _ =>
some true
| .inr _ =>
some false) fun v1 =>
some v1) fun v2 =>
br (v2) (
some (.inr (.inl v0))) (
some (.inl (Vx (v0+1)))))) (
some (.inr (.inr ())))
def yP(n:Nat)(l1:Vo)(l2:Vn)(l3:Vl):Int->WA (Int ⊕(WC ⊕(WC))):=fun v0 =>
br (decide (v0<(l1.length:Int))) (
gd (bu v0 l1.length) (
ob (l1[v0.toNat]?) fun l4 =>
ob (
ob (JO n l2 l3 l4 1) fun l5 =>
ob (O7 n l5) fun r0 =>
some ((decide (r0<0)) ==(decide (v0=0)))) fun v1 =>
br (v1) (
some (.inr (.inl ()))) (
some (.inl (Vx (v0+1)))))) (
some (.inr (.inr ())))
def zM(n:Nat)(l1:Vl)(l2:Vn):Int->WA (Int ⊕(Int ⊕(WC))):=fun v0 =>
br (decide (v0<(l1.length:Int))) (
gd (bu v0 l1.length) (
ob (l1[v0.toNat]?) fun(l3,l4) =>
ob (
ob (
ob (Bv n l3 l4) fun l5 =>
ob (α:=(WC) ⊕(WC)) (
bh (yP n l5 l2 l1) n 0) fun r0=>match r0 with
| .inl _ =>
some true
| .inr _ =>
some false) fun v1 =>
some v1) fun v2 =>
br (v2) (
some (.inr (.inl v0))) (
some (.inl (Vx (v0+1)))))) (
some (.inr (.inr ())))
def Po(n:Nat)(l1:Vn)(l2:Vl):WA (Int×Int) :=
ob (
br (decide ((l1.length:Int)<3)) (
some true) (
br (decide (120<(l1.length:Int))) (
some true) (
br (decide ((l2.length:Int)<1)) (
some true) (
some (decide (64<(l2.length:Int))))))) fun v4 =>
br (v4) (
some (1,0)) (
ob (
ob (α:=(Int) ⊕(WC)) (
bh (zq n l1) n 0) fun r0=>match r0 with
| .inl v5 =>
some v5
| .inr _ =>
some (-1)) fun v0 =>
br (decide (0<=v0)) (
some (2,v0)) (
ob (α:=(Int) ⊕(WC)) (
bh (qC n l1) n (([]:WB ((Int×Int)×Bool)),0)) fun r1=>match r1 with
| .inl v6 =>
some (3,v6)
| .inr _ =>
ob (
ob (α:=(Int) ⊕(WC)) (
bh (Ar n l2 l1) n 0) fun r3=>match r3 with
| .inl v7 =>
some v7
| .inr _ =>
some (-1)) fun v1 =>
br (decide (0<=v1)) (
some (4,v1)) (
ob (
ob (α:=(Int) ⊕(WC)) (
bh (ze n l2 l1) n 0) fun r4=>match r4 with
| .inl v8 =>
some v8
| .inr _ =>
some (-1)) fun v2 =>
br (decide (0<=v2)) (
some (5,v2)) (
ob (
ob (α:=(Int) ⊕(WC)) (
bh (zM n l2 l1) n 0) fun r5=>match r5 with
| .inl v9 =>
some v9
| .inr _ =>
some (-1)) fun v3 =>
br (decide (0<=v3)) (
some (6,v3)) (
ob (QT n l1 l2) fun(r6,r7) =>
some (r6,r7))))))
def Mh(n:Nat)(l1:Vn)(l5:Vl):WA Int :=
ob (Po n l1 l5) fun(r14,r15) =>
br (decide (0<r14)) (
some 150) (
some 0)
def BQ(n:Nat)(r0:WC->Int->WA Int)(l1:Vn):WC->Int->WA Int:=fun _ x3 =>
ob (some ((cR l1 x3).getD (0:Int),(cR l1 x3).isSome)) fun(y0,y1) =>
ob (
br (y1) (
some (!decide (y0=x3))) (
some false)) fun v0 =>
br (v0) (
ob (r0 () y0) fun r1 =>
some r1) (
some x3)
def JI(n:Nat)(l79:Vn):Nat->WC->Int->WA Int
 | 0=>fun _ _=>none
 | k+1=>BQ n (JI n l79 k) l79
def oe(n:Nat)(x4:Int)(x10:Int):(Vn×Int)->WA ((Vn×Int) ⊕(Vn)):=fun(l1,v0) =>
br (decide (v0<2)) (
ob (
gd (bu v0 2) (
ob ([x4,x10][v0.toNat]?) fun x3 =>
ob (some ((cR l1 x3).getD (0:Int),(cR l1 x3).isSome)) fun(y1,y0) =>
br (!y0) (
some (gS l1 x3 x3)) (
some l1))) fun l2 =>
some (.inl (l2,Vx (v0+1)))) (
some (.inr l1))
def u1(n:Nat)(l1:WB (Vm)):(Vn×Int)->WA ((Vn×Int) ⊕(Vn)):=fun(l3,v0) =>
br (decide (v0<(l1.length:Int))) (
gd (bu v0 l1.length) (
ob (l1[v0.toNat]?) fun(x3,x4,x10,x11) =>
ob (
bh (oe n x3 x4) n (l3,0)) fun l2 =>
ob (JI n l2 n () x3) fun r0 =>
ob (JI n l2 n () x4) fun r1 =>
some (.inl ((gS l2 r0 r1),Vx (v0+1))))) (
some (.inr l3))
def Ku(n:Nat)(l1:Vn)(l2:Vl):WA ((Int×Int×Int×Int×Int) ⊕(WB (Vm)×Vn)) :=
ob (Mh n l1 l2) fun r0 =>
br (!decide (r0=0)) (
some (.inl (0,0,0,0,r0))) (
ob (IQ n l1 l2) fun l3 =>
ob (
bh (u1 n l3) n (([]:Vn),0)) fun l4 =>
some (.inr (l3,l4)))
def jK(r:Vn):Int:=(r.countP (fun p=>decide (p.1=p.2)):Nat)
def Fo(_:Nat)(l1:Vn)(l5:Vl):WA (Int×Int×Int×Int×Int) :=
 ob (Ku 100000 l1 l5) fun s=>match s with
 | .inl x=>some x
 | .inr (l,r)=>gd (lim r.length) (some ((r.length:Int),(l.length:Int),(l5.length:Int),jK r,0))
end Go.Proofs.YtmndpgfbkicndaaGreat
namespace Go.Ab
open Go
section
variable{E:Env}{j j1:aU}{m m1:Wb}{w w1:Vw}
def Sim.same(h:MR E j m w)(hold:∀c,c<w.heap.size->w1.heap[c]? = w.heap[c]?)(hsize:w.heap.size<=w1.heap.size)(hcalm:jh E w w1):Sim E j m w j m w1 where
 ext:=.refl m
 le:=.refl j
 new:=fun b k h h'=>by simp[h'] at h
 mr:=⟨fun b k hb=>⟨(h.lt b k hb).1,Tf (h.lt b k hb).2 hsize⟩,fun b o k ho hb=>by
  obtain⟨o',h1,h2⟩:=h.obj b o k ho hb;exact⟨o',(hold k.c (h.lt b k hb).2).trans h1,h2⟩,h.inj,h.glob⟩
 size:=hsize
 full:=fun b h h' _=>Tj h (by omega)
 away:=fun _ _ _=>rfl
 fresh:=fun b k h h'=>by simp[h'] at h
 frame:=fun c hc _=>hold c hc
 calm:=hcalm
def tx(hE:EnvOk E){pr:WJ->WA Prim}(h:∀f p,pr f=some p->E.dc f=some p\/∀args m v m',p.run args m=some (v,m')->∀(j:aU) (w:Vw) (args':WB Vs),MR E j m w->LR j args args'->gV E.P (E.dc f).isSome f args'.toArray w (jt E j m w v m')):EnvOk { E with dc:=pr}:=by
 refine⟨hE.call,hE.mixed,fun f p hp args m v m' hrun j w args' hm hl=>?_⟩;have hp':({ E with dc:=pr}:Env).dc f=some p:=hp;have hm0:MR E j m w:=MR.env (E:={ E with dc:=pr}) (E':=E) rfl hm;have key:∀v' w',jt E j m w v m' v' w'->jt { E with dc:=pr} j m w v m' v' w':=fun v' w' ⟨j',s,hv⟩=>⟨j',Sim.env (E:=E) rfl (fun e=>e) s,hv⟩;rcases h f p hp with h1|h1
 exact mH (fun _=>by rw[hp']; rfl) (hE.dc f p h1 args m v m' hrun j w args' hm0 hl) key
 exact mH (fun _=>by rw[hp']; rfl) (h1 args m v m' hrun j w args' hm0 hl) key
end
def H5{j:aU}{l:WB Vs}(h:∀x∈l,bK x=true):LR j l l :=
 ⟨rfl,fun i v hi=>⟨v,hi,VR.bK (h v (Td hi))⟩⟩
def zo{W W':Vw}(hc:Calm W W')(hs:W.heap.size<=W'.heap.size)(hold:∀c,c<W.heap.size->W'.heap[c]? = W.heap[c]?):∃q os,W'=Sort.grow (W.drewN q) os:=by
 refine⟨W'.drawn-W.drawn,W'.heap.extract W.heap.size W'.heap.size,?_⟩;have hh:W'.heap=W.heap++W'.heap.extract W.heap.size W'.heap.size:=by
  apply Ve;intro i;rw[Array.getElem?_append]
  split
  exact hold i ‹_›
  rw[Array.getElem?_extract]
  split
  congr 1; omega
  exact Array.getElem?_eq_none (by omega)
 obtain⟨h1,h2,h3,h4⟩:=hc;cases W; cases W';simp only[Sort.grow,World.drewN] at *;subst h1; subst h2; subst h3
 congr 1
 omega
def BI{E:Env}(hE:EnvOk E)(hmono:E.mono:=by trivial){f:WJ}{args:WB Vs}(hp:E.dc f=none){v:Vs}(hpl:∀x∈args,bK x=true)(hv:bK v=true)
  (h:aG E f args (D8 E.glob fun _=>none) fun v' _=>v'=v) {W:Vw} (hW:E.glob<=W.heap.size) :
  Calls E.P f args.toArray W fun e W'=>e=.returned v/\∃q os,W'=Sort.grow (W.drewN q) os:=by
 obtain⟨v',m',⟨k,hr⟩,rfl⟩:=h;have hm:MR E (E3 E.glob) (D8 E.glob fun _=>none) W:=KD (S0 _) hW fun b cs hb=>by cases hb
 refine callsIn_wide.1 ((pn hE hr hp hm (H5 hpl)).mono ?_);rintro e W' ⟨v1,rfl,j',s,hv1⟩;rw[gR hv hv1];refine⟨rfl,zo ⟨s.calm.1,s.calm.2.1,s.calm.2.2.1,s.calm.2.2.2 hmono⟩ s.size fun c hc=>s.frame c hc fun b k hb hl _=>?_⟩;have:(D8 E.glob fun _=>none).get b=none:=by simp[Wb.get,D8,Heap.get_nil]
 rw[this] at hl; cases hl
def ly{w:Vw}{B:Nat}{c:WD Vs}{e:Vt}{fz:Nat×Nat}(h:w.heap[B]? = some (.cells c e fz))(f:WD Vs->WD Vs):Sort.mapBlock w B f=w.putObj B (.cells (f c) e fz):=by
 unfold Sort.mapBlock World.putObj
 congr 1
 apply Ve;intro i;rw[Array.getElem?_modify,UL]
 by_cases hi:B=i
 subst hi;obtain⟨hlt,hv⟩:=S8.1 h;simp[hlt,hv,Sort.onCells]
 simp[hi]
def CE{E:Env}{j:aU}{m:Wb}{w:Vw}(h:MR E j m w){b:Nat}{k:Blk}(hk:j b=some k){cs cs':WB Vs}{tag:Tag}(hg:m.get b=some (.cells cs tag))(hl:cs'.length=cs.length)(hp:cs'.all aP=true)(n:Nat)(os:WD Obj) :
  Sim E j m w j (m.set b (.cells cs' tag)) (Sort.grow (Sort.putRow id (Sort.ahead w n) k.c 0 cs'.toArray) os):=by
 obtain⟨c,e,fz,h1,h2,h3⟩:=h.gD hk hg;have s1:Sim E j m w j m (Sort.ahead w n):=Sim.of_heap h rfl ⟨rfl,rfl,rfl,Nat.le_add_right _ _⟩;have hle:cs.length<=c.size:=by
  cases tag with
  | ro=>exact U7 h2.2.symm
  | own=>exact U7 h2.2.1.symm
  | more sz=>exact h2.2.1
 have hor:OR j k (.cells cs' tag) (.cells (Sort.putCells id 0 cs'.toArray c) e fz):=by
  have hget:∀i,(Sort.putCells id 0 cs'.toArray c)[i]? = if i<cs'.length then(if i<c.size then some cs'[i]! else none) else c[i]?:=by
   intro i;simp only[Sort.putCells,Array.getElem?_mapIdx,T4,true_and,Tw,UQ,UC,id]
   by_cases hi:i<c.size
   rw[UF hi];simp only[Tl]
   by_cases hj:i<cs'.length
   simp[hj,hi]
   simp[hj]
   rw[Array.getElem?_eq_none (by omega)]
   simp[hi]
  refine⟨?_,fun i v hi=>?_⟩
  rw[show cs'.length=cs.length from hl]
  refine pz.put h2 (by simp[Sort.putCells]) fun i hi=>?_
  rw[hget,Vz]
  have hlt:i<cs'.length:=(Tg.1 hi).1;refine⟨v,?_,.aP (Tc.1 hp v (Td hi))⟩;rw[hget,SU hlt,VA,UE,hi]; rfl
 have s2:=iP s1.mr hk (by rw[hg]; rfl) hor
 have e2:Sort.putRow id (Sort.ahead w n) k.c 0 cs'.toArray=(Sort.ahead w n).putObj k.c (.cells (Sort.putCells id 0 cs'.toArray c) e fz):=ly (w:=Sort.ahead w n) h1 _;rw[e2];refine(s1.trans h s2).trans h (Sim.same s2.mr (fun x hx=>?_) (by simp) ⟨rfl,rfl,rfl,fun _=>S0 _⟩)
 show(_++_:WD Obj)[x]? = _
 rw[Array.getElem?_append,SU hx]
def AF{α:Type}[Inhabited α]{enc:α->WB Vs}{k:Nat}(hk:∀x,(enc x).length=k)(h0:0<k):∀(l:WB α) (t:Nat),t<l.length*k->(l.map enc).flatten[t]! =(enc l[t/k]!)[t%k]!
 | [],t,h=>by simp at h
 | x::l,t,h=>by
  simp only[Ub,TW];rw[UE,UZ]
  by_cases ht:t<k
  rw[SU (by rw[hk]; exact ht),Nat.div_eq_of_lt ht,UD ht,<-UE]; rfl
  rw[SS (by rw[hk]; exact ht),hk,<-UE,AF hk h0 l (t-k) (by simp only[TJ,UN,Nat.one_mul] at h; omega)]
  have e1:t/k=(t-k)/k+1:=by rw[Nat.div_eq_sub_div h0 (by omega)]
  have e2:t%k=(t-k)%k:=Nat.mod_eq_sub_mod (by omega)
  rw[e1,e2]; rfl
def cQ{α:Type}{enc:α->WB Vs}{k:Nat}(hk:∀x,(enc x).length=k):∀l:WB α,(l.map enc).flatten.length=l.length*k
 | []=>by simp
 | x::l=>by simp only[Ub,TW,Te,TJ,hk,cQ hk l,UN,Nat.one_mul]; omega
def hJ{α:Type}[Inhabited α]{enc:α->WB Vs}{k:Nat}(hk:∀x,(enc x).length=k)(h0:0<k)(l:WB α):Sort.flatK enc k l.toArray=(l.map enc).flatten.toArray:=by
 refine Sort.ext_get! (by simp[cQ hk]) fun t ht=>?_
 have ht':t<l.length*k:=by simpa using ht
 rw[Sort.get_flatK _ _ _ _ (by simpa using ht')]
 have:=AF hk h0 l t ht';simp at this ⊢;rw[this]
def vT{E:Env}{j:aU}{m:Wb}{w:Vw}(h:MR E j m w){b:Nat}{k:Blk}(hk:j b=some k){cs:WB Vs}{tag:Tag}(hg:m.get b=some (.cells cs tag))(ht:tag≠.ro)(hp:cs.all aP=true) :
  Sort.Holds id w k.c 0 cs.toArray:=by
 obtain⟨c,e,fz,h1,h2,h3⟩:=h.gD hk hg;have hfz:fz=(0,0):=by
  cases tag with
  | ro=>exact Tj rfl ht
  | own=>exact h2.2.2
  | more sz=>exact h2.2.2.1
 subst hfz;intro i hi;have hi':i<cs.length:=by simpa using hi
 obtain⟨v',g1,g2⟩:=h3 i cs[i] (SR hi');have:=gi (Tc.1 hp _ (Tx hi')) g2;subst this;refine⟨?_,?_⟩
 simp only[World.cell?,h1,Tw];simp[g1,hi']
 simp only[World.frozen?,h1]; simp
def BG{E:Env}{j:aU}{m:Wb}{w:Vw}(h:MR E j m w){b:Nat}{k:Blk}(hk:j b=some k){cs:WB Vs}{tag:Tag}(hg:m.get b=some (.cells cs tag))(ht:tag≠.ro) :
  ∃cc:WB Vs,LR j cs cc/\Sort.Holds id w k.c 0 cc.toArray:=by
 obtain⟨c,e,fz,h1,h2,h3⟩:=h.gD hk hg;have hfz:fz=(0,0):=by
  cases tag with
  | ro=>exact Tj rfl ht
  | own=>exact h2.2.2
  | more sz=>exact h2.2.2.1
 have hle:cs.length<=c.size:=by
  cases tag with
  | ro=>exact Tj rfl ht
  | own=>exact U7 h2.2.1.symm
  | more sz=>exact h2.2.1
 subst hfz;have hl:(c.toList.take cs.length).length=cs.length:=by rw[Th]; exact Nat.min_eq_left (by simpa using hle)
 refine⟨c.toList.take cs.length,⟨hl.symm,fun i v hi=>?_⟩,fun i hi=>?_⟩
 obtain⟨v',g1,g2⟩:=h3 i v hi;have hlt:=(Tg.1 hi).1;exact⟨v',by rw[T8,SU hlt]; simpa using g1,g2⟩
 have hi':i<cs.length:=by rw[UQ,hl] at hi; exact hi
 refine⟨?_,?_⟩
 simp only[World.cell?,h1,Tw];have hic:i<c.size:=by omega
 simp[hi',hic]
 simp only[World.frozen?,h1]; simp
def Ga{E:Env}{j:aU}{m:Wb}{w:Vw}(h:MR E j m w){b:Nat}{k:Blk}(hk:j b=some k){cs cs' cc':WB Vs}{tag:Tag}(hg:m.get b=some (.cells cs tag))(hl:cs'.length=cs.length)(hp:LR j cs' cc')(n:Nat)(os:WD Obj) :
  Sim E j m w j (m.set b (.cells cs' tag)) (Sort.grow (Sort.putRow id (Sort.ahead w n) k.c 0 cc'.toArray) os):=by
 obtain⟨c,e,fz,h1,h2,h3⟩:=h.gD hk hg;have s1:Sim E j m w j m (Sort.ahead w n):=Sim.of_heap h rfl ⟨rfl,rfl,rfl,Nat.le_add_right _ _⟩;have hlc:cs'.length=cc'.length:=hp.1;have hle:cs.length<=c.size:=by
  cases tag with
  | ro=>exact U7 h2.2.symm
  | own=>exact U7 h2.2.1.symm
  | more sz=>exact h2.2.1
 have hor:OR j k (.cells cs' tag) (.cells (Sort.putCells id 0 cc'.toArray c) e fz):=by
  have hget:∀i,(Sort.putCells id 0 cc'.toArray c)[i]? = if i<cc'.length then(if i<c.size then some cc'[i]! else none) else c[i]?:=by
   intro i;simp only[Sort.putCells,Array.getElem?_mapIdx,T4,true_and,Tw,UQ,UC,id]
   by_cases hi:i<c.size
   rw[UF hi];simp only[Tl]
   by_cases hj:i<cc'.length
   simp[hj,hi]
   simp[hj]
   rw[Array.getElem?_eq_none (by omega)]
   simp[hi]
  refine⟨?_,fun i v hi=>?_⟩
  rw[show cs'.length=cs.length from hl]
  refine pz.put h2 (by simp[Sort.putCells]) fun i hi=>?_
  rw[hget,Vz]
  have hlt:i<cs'.length:=(Tg.1 hi).1;obtain⟨v',g1,g2⟩:=hp.2 i v hi;refine⟨v',?_,g2⟩;rw[hget,VA,VA,UE,g1]; rfl
 have s2:=iP s1.mr hk (by rw[hg]; rfl) hor
 have e2:Sort.putRow id (Sort.ahead w n) k.c 0 cc'.toArray=(Sort.ahead w n).putObj k.c (.cells (Sort.putCells id 0 cc'.toArray c) e fz):=ly (w:=Sort.ahead w n) h1 _;rw[e2];refine(s1.trans h s2).trans h (Sim.same s2.mr (fun x hx=>?_) (by simp) ⟨rfl,rfl,rfl,fun _=>S0 _⟩)
 show(_++_:WD Obj)[x]? = _
 rw[Array.getElem?_append,SU hx]
end Go.Ab
namespace Go.Proofs
open Go.Shelf
def Tryz.BW:Go.Shelf.Ren:=⟨fun|6=>104|15=>128|14=>127|28=>149|29=>150|20=>141|21=>142|22=>143|23=>144|24=>145|25=>146|26=>147|27=>148|46=>156|47=>157|48=>158|49=>159|50=>160|57=>164|n=>n,fun|22=>57|24=>64|25=>126|3=>3|39=>150|0=>0|53=>171|55=>173|4=>4|46=>165|45=>164|50=>94|5=>5|9=>9|66=>177|70=>181|76=>185|77=>75|n=>n,fun|n=>n⟩
def Tryz.B1:Go.Proofs.SlLaysF0.n6 Tryz.prog Tryz.BW:={
 mixed:=by kernel_rfl
 f6:=⟨Tryz.f104.name,by decide,Tryz.func104.trans (TB some (by kernel_rfl))⟩
 f14:=⟨Tryz.f127.name,by decide,Tryz.func127.trans (TB some (by kernel_rfl))⟩
 f15:=Tryz.func128.trans (TB some (by kernel_rfl))
 f20:=⟨Tryz.f141.name,by decide,Tryz.func141.trans (TB some (by kernel_rfl))⟩
 f21:=⟨Tryz.f142.name,by decide,Tryz.func142.trans (TB some (by kernel_rfl))⟩
 f22:=⟨Tryz.f143.name,by decide,Tryz.func143.trans (TB some (by kernel_rfl))⟩
 f23:=⟨Tryz.f144.name,by decide,Tryz.func144.trans (TB some (by kernel_rfl))⟩
 f24:=⟨Tryz.f145.name,by decide,Tryz.func145.trans (TB some (by kernel_rfl))⟩
 f25:=⟨Tryz.f146.name,by decide,Tryz.func146.trans (TB some (by kernel_rfl))⟩
 f26:=⟨Tryz.f147.name,by decide,Tryz.func147.trans (TB some (by kernel_rfl))⟩
 f27:=⟨Tryz.f148.name,by decide,Tryz.func148.trans (TB some (by kernel_rfl))⟩
 f28:=Tryz.func149.trans (TB some (by kernel_rfl))
 f29:=Tryz.func150.trans (TB some (by kernel_rfl))
 f46:=⟨Tryz.f156.name,by decide,Tryz.func156.trans (TB some (by kernel_rfl))⟩
 f47:=Tryz.func157.trans (TB some (by kernel_rfl))
 f48:=Tryz.func158.trans (TB some (by kernel_rfl))
 f49:=⟨Tryz.f159.name,by decide,Tryz.func159.trans (TB some (by kernel_rfl))⟩
 f50:=⟨Tryz.f160.name,by decide,Tryz.func160.trans (TB some (by kernel_rfl))⟩
 f57:=⟨Tryz.f164.name,by decide,Tryz.func164.trans (TB some (by kernel_rfl))⟩
 t0:=Tryz.underlying0
 a0:=Tryz.isAgg0
 z0:=Tryz.sizeOf0
 v0:=Tryz.zeroValue0
 t3:=Tryz.underlying3
 a3:=Tryz.isAgg3
 z3:=Tryz.sizeOf3
 v3:=Tryz.zeroValue3
 t4:=Tryz.underlying4
 a4:=Tryz.isAgg4
 z4:=Tryz.sizeOf4
 v4:=Tryz.zeroValue4
 t5:=Tryz.underlying5
 a5:=Tryz.isAgg5
 z5:=Tryz.sizeOf5
 v5:=Tryz.zeroValue5
 t9:=Tryz.underlying9
 a9:=Tryz.isAgg9
 z9:=Tryz.sizeOf9
 v9:=Tryz.zeroValue9
 t22:=Tryz.underlying57
 a22:=Tryz.isAgg57
 z22:=Tryz.sizeOf57
 v22:=Tryz.zeroValue57
 t25:=Tryz.underlying126
 a25:=Tryz.isAgg126
 z25:=Tryz.sizeOf126
 v25:=Tryz.zeroValue126
 t39:=Tryz.underlying150
 a39:=Tryz.isAgg150
 z39:=Tryz.sizeOf150
 v39:=Tryz.zeroValue150
 t45:=Tryz.underlying164
 a45:=Tryz.isAgg164
 z45:=Tryz.sizeOf164
 v45:=Tryz.zeroValue164
 t46:=Tryz.underlying165
 a46:=Tryz.isAgg165
 z46:=Tryz.sizeOf165
 v46:=Tryz.zeroValue165
 t50:=Tryz.underlying94
 a50:=Tryz.isAgg94
 z50:=Tryz.sizeOf94
 v50:=Tryz.zeroValue94
 t53:=Tryz.underlying171
 a53:=Tryz.isAgg171
 z53:=Tryz.sizeOf171
 v53:=Tryz.zeroValue171
 t55:=Tryz.underlying173
 a55:=Tryz.isAgg173
 z55:=Tryz.sizeOf173
 v55:=Tryz.zeroValue173
 t66:=Tryz.underlying177
 a66:=Tryz.isAgg177
 z66:=Tryz.sizeOf177
 v66:=Tryz.zeroValue177
 t70:=Tryz.underlying181
 a70:=Tryz.isAgg181
 z70:=Tryz.sizeOf181
 v70:=Tryz.zeroValue181
 t76:=Tryz.underlying185
 a76:=Tryz.isAgg185
 z76:=Tryz.sizeOf185
 v76:=Tryz.zeroValue185
 t77:=Tryz.underlying75
 a77:=Tryz.isAgg75
 z77:=Tryz.sizeOf75
 v77:=Tryz.zeroValue75}
end Go.Proofs
namespace Go.Proofs.YtmndpgfbkicndaaGreat
open Go Go.Ab Go.Ab.W
set_option maxRecDepth 10000
noncomputable def Eo:Env:={ P:=Tryz.prog,glob:=0,dc:=fun _=>none,mono:=True}
def pM:EnvOk Eo:=yN AY fun f p hp=>by cases hp
namespace W105
set_option maxHeartbeats 4000000
attribute [local irreducible] Tm.at Trie.set Trie.get Wb.get Wb.set Wb.alloc Wb.ww Wb.kill
def QR(n:Nat)(x1:Int)(x2:Int)(x3:Int)(x4:Int)(x5:Int)(x6:Int)(x7:Int)(x8:Int):WA Int :=
ob (some (Vx ((Vx (120*(Vx (x1-x5))))+x2))) fun y11 =>
some (Vx (y11-x6))
def sQ:∀b o,aE Eo.P 64 (ptr b o) 0=some (ptr b (o+0)):=fun _ _=>by kernel_rfl
def bS:TyI Eo.P 3 false 1:=⟨by kernel_rfl,by kernel_rfl,by kernel_rfl⟩
def tC:∀b o,aE Eo.P 64 (ptr b o) 1=some (ptr b (o+1)):=fun _ _=>by kernel_rfl
def Kj(n:Nat)(x1:Int)(x2:Int)(x3:Int)(x4:Int)(x5:Int)(x6:Int)(x7:Int)(x8:Int)  (r:Int)(hF:QR n x1 x2 x3 x4 x5 x6 x7 x8=some r)(m:Wb)  :
  aG Eo 105 [.agg #[.int .i64 x1,.int .i64 x2,.int .i64 x3,.int .i64 x4],.agg #[.int .i64 x5,.int .i64 x6,.int .i64 x7,.int .i64 x8]] m (Wa m (.int .i64 r)):=by
 unfold QR at hF;refine aW (m0:=m) (ps:=[]) (N:=17) (rs:=[.tmp 4]) rfl Tryz.func105 rfl rfl rfl (VG m) ?_;refine VD ?_;refine VF ?_;refine VL (Ni rfl) gn rfl fun b9=>?_;refine VL (Ni rfl) gn rfl fun b10=>?_;refine VB (bQ rfl) rfl ?_;refine VN ?_;refine VI ?_;refine VD ?_;refine VF ?_;refine VB (aM (r:=ptr b9 0) rfl (sQ _ _)) rfl ?_;refine VB (aH (k:=1) bS rfl rfl rfl) rfl ?_;refine VB (aM (r:=ptr b10 0) rfl (sQ _ _)) rfl ?_;refine VB (aH (k:=0) bS rfl rfl rfl) rfl ?_;refine VB (aJ rfl rfl (bJ _ _ _)) rfl ?_;refine VB (aJ rfl rfl (bT _ _ _)) rfl ?_;refine VB (aM (r:=ptr b9 1) rfl (tC _ _)) rfl ?_;refine VB (aH (k:=1) bS rfl rfl rfl) rfl ?_;obtain⟨y11,h12,hF⟩:=J hF;refine VB (aJ rfl rfl ((bM _ _ _).trans (cI h12))) rfl ?_;refine VB (aM (r:=ptr b10 1) rfl (tC _ _)) rfl ?_;refine VB (aH (k:=0) bS rfl rfl rfl) rfl ?_;refine VB (aJ rfl rfl (bJ _ _ _)) rfl ?_;refine VB (bQ rfl) rfl ?_;refine VN ?_;refine VI ?_;refine Wk.ret ?_;cases hF;exact VQ (.tmp rfl .nil) fun m' hm=>⟨(),rfl,(ah.aq [] rfl rfl) m' hm⟩
end W105
def vk(x y:dy):Int:=Vx (Vx (Vx (120*Vx (x.1-y.1))+x.2.1)-y.2.1)
def rR(x y:dy){W:Vw} :
  Calls Tryz.prog 105 #[.agg (fw x).toArray,.agg (fw y).toArray] W fun e W'=>e=.returned (.int .i64 (vk x y))/\∃q os,W'=Sort.grow (W.drewN q) os :=
 BI (E:=Eo) pM (hmono:=trivial) (f:=105) (args:=[.agg #[.int .i64 x.1,.int .i64 x.2.1,.int .i64 x.2.2.1,.int .i64 x.2.2.2],.agg #[.int .i64 y.1,.int .i64 y.2.1,.int .i64 y.2.2.1,.int .i64 y.2.2.2]]) rfl (by intro v hv; simp at hv; rcases hv with rfl|rfl<;>rfl) rfl
  ((W105.Kj 5 x.1 x.2.1 x.2.2.1 x.2.2.2 y.1 y.2.1 y.2.2.1 y.2.2.2 (vk x y) rfl _).mono fun v m' ⟨_,h,_⟩=>h) (T4 _)
def rq{x:Int}(h1 : -1000000<=x)(h2:x<=1000000):Vx x=x:=by
 simp only[IntKind.wrap,IntKind.bits,IntKind.signed]
 show(if(true&&decide (x%18446744073709551616≥9223372036854775808))=true then x%18446744073709551616-18446744073709551616 else x%18446744073709551616)=x
 simp only[Ut,S9]
 split<;>omega
def uy(x:dy):Prop:=0<=x.1/\x.1<120/\0<=x.2.1/\x.2.1<120
def FQ{x y:dy}(hx:uy x)(hy:uy y):vk x y=120*(x.1-y.1)+x.2.1-y.2.1:=by
 obtain⟨a1,a2,a3,a4⟩:=hx;obtain⟨b1,b2,b3,b4⟩:=hy;unfold vk;rw[rq (x:=x.1-y.1) (by omega) (by omega),rq (x:=120*(x.1-y.1)) (by omega) (by omega),rq (x:=120*(x.1-y.1)+x.2.1) (by omega) (by omega),rq (by omega) (by omega)]
def IK{x y:dy}(hx:uy x)(hy:uy y):vk x y<0↔x.1<y.1\/x.1=y.1/\x.2.1<y.2.1:=by
 rw[FQ hx hy];obtain⟨a1,a2,a3,a4⟩:=hx;obtain⟨b1,b2,b3,b4⟩:=hy;omega
def Ch(w:Vw):(isAgg 64).run Tryz.prog w=.ok true w:=by rw[mW (by kernel_rfl) w,show dT Tryz.prog 64=true by kernel_rfl]
def AZ(w:Vw):(Go.sizeOf 64).run Tryz.prog w=.ok 4 w:=by rw[cN (by kernel_rfl) w,show aI Tryz.prog 64=4 by kernel_rfl]
def AJ:∀args w,(callFunc 105 args).run Tryz.prog w=.ok (.enter 105 args) w:=fun args w=>pM.call 105 _ _ Tryz.func105 rfl args w
end Go.Proofs.YtmndpgfbkicndaaGreat
namespace Go.Proofs
open Go.Shelf
def Tryz.Il:Go.Shelf.Ren:=⟨fun|45=>115|n=>n,fun|22=>29|23=>28|3=>3|4=>4|0=>0|n=>n,fun|n=>n⟩
def Tryz.R6:Go.Proofs.SlLaysE.n45 Tryz.prog Tryz.Il:={
 mixed:=by kernel_rfl
 f45:=⟨Tryz.f115.name,by decide,Tryz.func115.trans (TB some (by kernel_rfl))⟩
 t0:=Tryz.underlying0
 a0:=Tryz.isAgg0
 z0:=Tryz.sizeOf0
 v0:=Tryz.zeroValue0
 t3:=Tryz.underlying3
 a3:=Tryz.isAgg3
 z3:=Tryz.sizeOf3
 v3:=Tryz.zeroValue3
 t4:=Tryz.underlying4
 a4:=Tryz.isAgg4
 z4:=Tryz.sizeOf4
 v4:=Tryz.zeroValue4
 t22:=Tryz.underlying29
 a22:=Tryz.isAgg29
 z22:=Tryz.sizeOf29
 v22:=Tryz.zeroValue29
 a23:=Tryz.isAgg28
 z23:=Tryz.sizeOf28}
def Tryz.JF:Go.Shelf.Ren:=⟨fun|45=>101|n=>n,fun|22=>28|23=>3|3=>3|4=>4|0=>0|n=>n,fun|n=>n⟩
def Tryz.Rp:Go.Proofs.SlLaysE.n45 Tryz.prog Tryz.JF:={
 mixed:=by kernel_rfl
 f45:=⟨Tryz.f101.name,by decide,Tryz.func101.trans (TB some (by kernel_rfl))⟩
 t0:=Tryz.underlying0
 a0:=Tryz.isAgg0
 z0:=Tryz.sizeOf0
 v0:=Tryz.zeroValue0
 t3:=Tryz.underlying3
 a3:=Tryz.isAgg3
 z3:=Tryz.sizeOf3
 v3:=Tryz.zeroValue3
 t4:=Tryz.underlying4
 a4:=Tryz.isAgg4
 z4:=Tryz.sizeOf4
 v4:=Tryz.zeroValue4
 t22:=Tryz.underlying28
 a22:=Tryz.isAgg28
 z22:=Tryz.sizeOf28
 v22:=Tryz.zeroValue28
 a23:=Tryz.isAgg3
 z23:=Tryz.sizeOf3}
end Go.Proofs
namespace Go.Ab
open Go
section
variable{E:Env}{j:aU}{m:Wb}{w:Vw}
def VR.at{b o l c:Nat}{v':Vs}(h:VR j (.slice (some ⟨b,o,none⟩) l c) v'):∃k c',j b=some k/\v'=.slice (some ⟨k.c,o,none⟩) l c':=by
 cases h with
 | slice hj hm=>exact⟨_,_,hj,rfl⟩
 | sliceM hj hm _ _ _ _=>exact⟨_,_,hj,rfl⟩
end
end Go.Ab
namespace Go.Proofs.YtmndpgfbkicndaaGreat
open Go Go.Ab Go.Ab.W
set_option maxRecDepth 10000
def qJ:∀l:WB dy,cO (l.map fw).flatten=some l
 | []=>rfl
 |(a,b,c,d)::l=>by
  show(cO (l.map fw).flatten).map _=_
  rw[qJ l]; rfl
def xD:∀{cs:WB Vs} {l:WB dy},cO cs=some l->cs=(l.map fw).flatten:=by
 intro cs
 induction cs using cO.induct with
 | case1=>intro l h; cases h; rfl
 | case2 a b c d r ih =>
  intro l h;have h':(cO r).map ((a,b,c,d)::·)=some l:=h;cases hr:cO r with
  | none=>rw[hr] at h'; cases h'
  | some l' =>
   rw[hr] at h'; cases h';rw[ih hr]; rfl
 | case3 cs h1 h2 =>
  intro l h;unfold cO at h
  split at h
  exact Tj rfl h1
  rename_i a b c d r;exact Tj rfl (h2 a b c d r)
  cases h
def oK(l:WB dy):((l.map fw).flatten).all aP=true:=by
 induction l with
 | nil=>rfl
 | cons x l ih=>rw[Ub,TW,List.all_append,ih]; rfl
def mJ{m:Wb}{w b n n':Nat}{cs:WB Vs}{tg:Tag}(h:gW m w b n n'=some (cs,tg)):m.get b=some (.cells cs tg)/\tg≠.ro/\n=n'/\cs.length=n*w/\(tg=.own\/tg=.more w):=by
 unfold gW at h
 split at h
 rename_i cs' hg
 split at h
 rename_i hc; cases h; exact⟨hg,(by intro e; cases e),hc.1,hc.2,.inl rfl⟩
 cases h
 rename_i cs' k hg
 split at h
 rename_i hc; cases h; exact⟨hg,(by intro e; cases e),hc.1,hc.2.1,.inr (by rw[hc.2.2])⟩
 cases h
 cases h
def yA{j:aU}{f:WJ}{xs ys:WD Vs}{v:Vs}(h:VR j (.func (.func f) xs ys) v)(h1:xs.size=0)(h2:ys.size=0):v=.func (.func f) #[] #[]:=by
 cases h with
 | @func _ _ ys' _ ds a _ c _ =>
  have e1:ys'=#[]:=UX (a.symm.trans h1);have e2:ds=#[]:=UX (c.symm.trans h2);rw[e1,e2]
def oW{n:Nat}(h:lim n=true):n<=1073741824:=T2 h
def sS{l:WB dy}(h:p7 l=true):(∀x∈l,uy x)/\(l.map fun x=>(x.1,x.2.1)).Nodup:=by
 unfold p7 at h;simp only[SY,S9] at h;refine⟨fun x hx=>?_,h.2⟩;have:=Tc.1 h.1 x hx;simp only[SY,S9] at this;exact⟨this.1.1.1,this.1.1.2,this.1.2,this.2⟩
section
variable(l:WB dy)
abbrev Pl:={ x:dy // x∈l}
def Ax(x y:Pl l):Int:=vk x.1 y.1
variable{l}
def QF(hl:∀x∈l,uy x)(x y:Pl l):Go.Proofs.ltOf (Ax l) x y=decide (x.1.1<y.1.1\/x.1.1=y.1.1/\x.1.2.1<y.1.2.1):=by
 unfold Go.Proofs.ltOf Ax
 congr 1
 exact propext (IK (hl _ x.2) (hl _ y.2))
def Qt(hl:∀x∈l,uy x):Go.Sort.SWO (Go.Proofs.ltOf (Ax l)) where
 irrefl x:=by rw[QF hl]; simp
 trans x y z h1 h2:=by rw[QF hl] at *; simp only[S9] at *; omega
 ntrans x y z h1 h2:=by rw[QF hl] at *; simp only[decide_eq_false_iff_not] at *; omega
def nK{α β:Type}{f:α->β}:∀{l:WB α},(l.map f).Nodup->∀{x y:α},x∈l->y∈l->f x=f y->x=y
 | [],_,_,_,hx,_,_=>by cases hx
 | a::l,h,x,y,hx,hy,e=>by
  rw[Ub] at h;obtain⟨h1,h2⟩:=Ue.1 h;rcases Tq.1 hx with ex|hx
  rcases Tq.1 hy with ey|hy
  rw[ex,ey]
  exact Tj (TS.2 ⟨y,hy,by rw[<-e,ex]⟩) h1
  rcases Tq.1 hy with ey|hy
  exact Tj (TS.2 ⟨x,hx,by rw[e,ey]⟩) h1
  exact nK h2 hx hy e
def PT(hl:∀x∈l,uy x)(hn:(l.map fun x=>(x.1,x.2.1)).Nodup)(x y:Pl l)(h1:Go.Proofs.ltOf (Ax l) x y=false)(h2:Go.Proofs.ltOf (Ax l) y x=false):x=y:=by
 rw[QF hl] at h1 h2;simp only[decide_eq_false_iff_not] at h1 h2;exact Subtype.ext (nK hn x.2 y.2 (TZ (by simp only; omega) (by simp only; omega)))
end
def Jc{α β:Type}(f:α->β)(le:β->β->Bool):∀(n:Nat) (l:WB α),l.length=n->(l.mergeSort (fun x y=>le (f x) (f y))).map f=(l.map f).mergeSort le:=fun _ l _=>List.map_mergeSort (fun _ _ _ _=>rfl)
def LP{l:WB dy}(hl:∀x∈l,uy x):(fun x y:Pl l=>!(Go.Proofs.ltOf (Ax l)) y x)=fun x y=>eh x.1 y.1:=by
 funext x y
 rw[QF hl]; unfold eh;rw[<-decide_not]
 congr 1
 apply propext; omega
def rY:∀args w,(callFunc 104 args).run Tryz.prog w=.ok (.enter 104 args) w:=fun args w=>pM.call 104 _ _ Tryz.func104 rfl args w
def zX{p q:WA Prim}{pr:Bool}{args:WB Vs}{m m':Wb}{v:Vs}(h:lh args m=some (v,m')){j:aU}{w:Vw}{args':WB Vs}(hm:MR (We p q) j m w)(hl:LR j args args') :
  gV (We p q).P pr 104 args'.toArray w (jt (We p q) j m w v m'):=by
 unfold lh at h
 split at h
 rename_i c xs ys
 split at h
 rename_i hc; cases h;obtain⟨v0,vs,rfl,h1,hvs⟩:=hl.cons_inv;obtain⟨v1,v2,rfl,h2,h3⟩:=hvs.cons_inv;obtain rfl:=h3.dv;have e2:=yA h2 hc.1 hc.2;subst e2;cases h1;have hcon:=Go.Proofs.AnyF.slices_SortFunc_none Tryz.B1 none c (.func (.func 105) #[] #[]) w
 change Calls Tryz.prog 104 _ _ _ at hcon
 refine .inl ⟨rY _ _,callsIn_wide.2 ?_⟩;refine Calls.mono hcon ?_;rintro e w' ⟨rfl,rfl⟩;exact⟨_,rfl,j,.refl hm,VR.undef j⟩
 cases h
 rename_i b n n' xs ys
 split at h
 rename_i cs tg hcs;obtain⟨hg,htg,rfl,hcl,_⟩:=mJ hcs
 split at h
 rename_i l h7
 split at h
 rename_i hc; cases h;obtain⟨⟨h8,h9⟩,hlim,hok⟩:=hc;obtain⟨h4,h10⟩:=sS hok;obtain⟨v0,vs,rfl,h1,hvs⟩:=hl.cons_inv;obtain⟨v1,v2,rfl,h2,h3⟩:=hvs.cons_inv;obtain rfl:=h3.dv;have e2:=yA h2 h8 h9;subst e2;obtain⟨k,c',hk,rfl⟩:=h1.at
 have ecs:=xD h7;have hp:cs.all aP=true:=by rw[ecs]; exact oK l
 have h5:∀x:dy,(fw x).length=4:=fun _=>rfl;have hlen:l.length=n:=by
  have:=cQ h5 l;rw[<-ecs,hcl] at this; omega
 by_cases hnil:l=[]
 
 subst hnil;have h11:n=0:=by rw[<-hlen]; rfl
 have h12:cs=[]:=ecs;subst h11 h12;have:Inhabited (Pl [((0,0,0,0):dy)]):=⟨⟨(0,0,0,0),S6.2 rfl⟩⟩;have h6:∀x∈[((0,0,0,0):dy)],uy x:=fun x hx=>by rw[S6.1 hx]; exact⟨by decide,by decide,by decide,by decide⟩
 have h0:∀x:Pl [((0,0,0,0):dy)],(fw x.1).length=4:=fun _=>rfl;have hH:Go.Sort.HoldsK (fun x:Pl [((0,0,0,0):dy)]=>fw x.1) 4 w k.c 0 ([]:WB (Pl [((0,0,0,0):dy)])).toArray:=by
  unfold Go.Sort.HoldsK;rw[hJ h0 (by decide)]
  exact vT hm hk hg htg rfl
 have hcon:=Go.Proofs.AnyQ.slices_SortFunc_total Tryz.B1 4 (fun w=>Ch w) (fun w=>AZ w) (fun x:Pl [((0,0,0,0):dy)]=>fw x.1) h0 (fun x v hv=>by simp[fw,eP,eI] at hv; rcases hv with rfl|rfl|rfl|rfl<;>rfl) (Ax _) (Qt h6) 105 #[] k.c 0 c' ([]:WB (Pl [((0,0,0,0):dy)])).toArray w AJ
  (fun m os dk _ x y=>rR x.1 y.1) hH (hm.lt b k hk).2 (by simp) (PT h6 (by decide))
 change Calls Tryz.prog 104 _ _ _ at hcon
 simp only[UQ,List.length_nil] at hcon;refine .inl ⟨rY _ _,callsIn_wide.2 ?_⟩;refine Calls.mono hcon ?_;rintro e w' ⟨rfl,q,os,rfl⟩;refine⟨_,rfl,j,?_,VR.undef j⟩;unfold Go.Proofs.sortWorldK Go.Sort.putRowK;rw[hJ h0 (by decide)]
 rw[List.mergeSort_nil,List.mergeSort_nil];exact CE hm hk hg rfl rfl q os
 have:Inhabited (Pl l):=⟨⟨l.head hnil,List.head_mem hnil⟩⟩;have h0:∀x:Pl l,(fw x.1).length=4:=fun _=>rfl;have eat:(l.attach.map fun x:Pl l=>fw x.1)=l.map fw:=by
  rw[show(fun x:Pl l=>fw x.1)=fw ∘ Subtype.val from rfl,<-List.map_map,List.attach_map_subtype_val]
 have hH:Go.Sort.HoldsK (fun x:Pl l=>fw x.1) 4 w k.c 0 l.attach.toArray:=by
  unfold Go.Sort.HoldsK;rw[hJ h0 (by decide),eat,<-ecs]
  exact vT hm hk hg htg hp
 have hcon:=Go.Proofs.AnyQ.slices_SortFunc_total Tryz.B1 4 (fun w=>Ch w) (fun w=>AZ w) (fun x:Pl l=>fw x.1) h0 (fun x v hv=>by simp[fw,eP,eI] at hv; rcases hv with rfl|rfl|rfl|rfl<;>rfl) (Ax l) (Qt h4) 105 #[] k.c 0 c' l.attach.toArray w AJ
  (fun m os dk _ x y=>rR x.1 y.1) hH (hm.lt b k hk).2 (by have:=oW hlim; simp; omega) (PT h4 h10)
 change Calls Tryz.prog 104 _ _ _ at hcon
 rw[LP h4] at hcon;simp only[UQ,List.length_attach,hlen] at hcon;refine .inl ⟨rY _ _,callsIn_wide.2 ?_⟩;refine Calls.mono hcon ?_;rintro e w' ⟨rfl,q,os,rfl⟩;refine⟨_,rfl,j,?_,VR.undef j⟩;unfold Go.Proofs.sortWorldK Go.Sort.putRowK;rw[hJ h0 (by decide)]
 have e0:((l.attach.mergeSort fun x y:Pl l=>eh x.1 y.1).map fun x:Pl l=>fw x.1)=(l.mergeSort eh).map fw:=by
  rw[show(fun x:Pl l=>fw x.1)=fw ∘ Subtype.val from rfl,<-List.map_map,Jc Subtype.val eh _ _ rfl,List.attach_map_subtype_val]
 rw[e0];exact CE hm hk hg (by rw[cQ h5,hcl,List.length_mergeSort,hlen]) (oK _) q os
 cases h
 cases h
 cases h
 cases h
abbrev C1:={ v:Vs // v.oneCell'=true}
instance:Inhabited C1:=⟨⟨.slice none 0 0,rfl⟩⟩
def N2{j:aU}{v v':Vs}(h:VR j v v')(hv:kW v=true):v'.oneCell'=true:=by
 have h1:=sY h hv;cases v'<;>first|rfl|cases h1
def FI{j:aU}{cs cc:WB Vs}(h:LR j cs cc)(ho:cs.all kW=true):∃l:WB C1,l.map Subtype.val=cc:=by
 have h1:∀v∈cc,v.oneCell'=true:=fun v hv=>by
  obtain⟨i,hi⟩:=List.mem_iff_getElem?.1 hv;have hl:i<cs.length:=by rw[h.1]; exact(Tg.1 hi).1
  obtain⟨v',g1,g2⟩:=h.2 i cs[i] (SR hl);rw[hi] at g1; cases g1;exact N2 g2 (Tc.1 ho _ (Tx hl))
 exact⟨cc.attach.map fun x=>⟨x.1,h1 x.1 x.2⟩,by rw[List.map_map]; exact List.attach_map_subtype_val cc⟩
def JC{j:aU}{a a' b b':WB Vs}(h:LR j a a')(g:LR j b b'):LR j (a++b) (a'++b'):=by
 refine⟨by rw[Te,Te,h.1,g.1],fun i v hi=>?_⟩
 by_cases hc:i<a.length
 rw[UZ,SU hc] at hi;rw[UZ,SU (by have:=h.1; omega)]
 exact h.2 i v hi
 rw[UZ,SS hc] at hi;rw[UZ,SS (by have:=h.1; omega),<-h.1]
 exact g.2 _ v hi
def K8{j:aU}{a a':WB Vs}(h:LR j a a')(n:Nat):LR j (a.take n) (a'.take n):=by
 refine⟨by rw[Th,Th,h.1],fun i v hi=>?_⟩
 rw[T8] at hi ⊢
 split at hi
 rename_i hc; rw[SU hc]; exact h.2 i v hi
 cases hi
def LJ{j:aU}{a a':WB Vs}(h:LR j a a')(n:Nat):LR j (a.drop n) (a'.drop n):=by
 refine⟨by rw[TP,TP,h.1],fun i v hi=>?_⟩
 rw[T9] at hi ⊢;exact h.2 _ v hi
def Og{j:aU}{z z':Vs}(h:VR j z z')(n:Nat):LR j (List.replicate n z) (List.replicate n z'):=by
 refine⟨by simp,fun i v hi=>?_⟩
 rw[U2] at hi
 split at hi
 rename_i hc; cases hi;exact⟨z',by rw[U2,SU hc],h⟩
 cases hi
def VR.Q5{E:Env}{j:aU}{m:Wb}{w:Vw}(hm:MR E j m w){b n:Nat}{cs:WB Vs}{tg:Tag}(hg:m.get b=some (.cells cs tg))(htg:tg≠.ro)(hlim:lim n=true){v':Vs}(h:VR j (.slice (some ⟨b,0,none⟩) n n) v') :
  ∃k c',j b=some k/\v'=.slice (some ⟨k.c,0,none⟩) n c'/\(n<=c'/\c'<=9223372036854775807)/\∀x,x<=n->VR j (.slice (some ⟨b,0,none⟩) x n) (.slice (some ⟨k.c,0,none⟩) x c'):=by
 have hll:=oW hlim;cases h with
 | slice hj hmo=>exact⟨_,_,hj,rfl,⟨S0 _,by omega⟩,fun x _=>.slice hj hmo⟩
 | sliceM hj hmo a1 a2 a3 a4 =>
  rename_i c' sz na nc k;obtain⟨c0,e0,fz,g1,g2,g3⟩:=hm.gD hj hg;cases tg with
  | ro=>exact Tj rfl htg
  | own=>have:k.more=none:=g2.1; rw[hmo] at this; cases this
  | more sz' =>
   obtain⟨d1,d2,rfl,d4,d5⟩:k.more=some (sz',cs.length,c0.size)/\cs.length<=c0.size/\fz=(0,0)/\0<sz'/\iC sz' c0:=g2;rw[hmo] at d1;simp only[Option.some.injEq,Prod.mk.injEq] at d1;obtain⟨rfl,rfl,rfl⟩:=d1;refine⟨k,c',hj,rfl,⟨a4,?_⟩,fun x hx=>.sliceM hj hmo a1 a2 hx a4⟩;unfold iC at d5;rw[<-a2,Ui,Nat.mul_comm] at d5;exact Nat.le_of_mul_le_mul_left d5 d4
def ua{p q:WA Prim}{pr:Bool}{f:WJ}{z:Vs}{ρ:Go.Shelf.Ren}(L:Go.Proofs.SlLaysE.n45 Tryz.prog ρ)(hf:ρ.f 45=f)(F:Func)(c:Code)(hF:Tryz.prog.funcs[f]? = some F)(hb:F.body=some c)(h0:z.oneCell'=true)(hzr:∀j,VR j z z)
  (v0:∀w,(Go.zeroValue (ρ.t 23)).run Tryz.prog w=.ok z w) (i0:TypeInfo) (h1:Tryz.prog.info? (ρ.t 23)=some i0) (h2:i0.size=1)
  {args:WB Vs} {m m':Wb} {v:Vs} (h:j4 z args m=some (v,m')) {j:aU} {w:Vw} {args':WB Vs} (hm:MR (We p q) j m w) (hl:LR j args args') :
  gV (We p q).P pr f args'.toArray w (jt (We p q) j m w v m'):=by
 unfold j4 at h
 split at h
 rename_i b n n' i k
 split at h
 rename_i cs tg hcs;obtain⟨hg,htg,rfl,hcl,_⟩:=mJ hcs
 split at h
 rename_i hc; cases h;obtain⟨hi0',hik,hkn,hlim,hone⟩:=hc;obtain⟨v1,vs,rfl,h3,hvs⟩:=hl.cons_inv;obtain⟨v2,v3,rfl,h4,h5⟩:=hvs.cons_inv;obtain⟨v4,v5,rfl,h6,h7⟩:=h5.cons_inv;obtain rfl:=h7.dv;obtain⟨kb,c',hk,rfl,hcap,hres⟩:=VR.Q5 hm hg htg hlim h3;cases h4;cases h6;obtain⟨i,rfl⟩:=UO hi0';obtain⟨k,rfl⟩:=UO (show 0<=k by omega)
 simp only[Int.ofNat_le,Ti] at *;obtain⟨cc,hcc,hH⟩:=BG hm hk hg htg;obtain⟨d,rfl⟩:=FI hcc hone;have hdl:d.length=n:=by have:=hcc.1; rw[To] at this; omega
 have eH:∀(w:Vw) (l:WB C1),Go.Sort.Holds id w kb.c 0 (l.map Subtype.val).toArray->Go.Sort.Holds (Subtype.val:C1->Vs) w kb.c 0 l.toArray:=by
  intro w l h i hi;have hi':i<l.length:=by simpa using hi
  have:=h i (by simpa using hi')
  simpa [hi'] using this
 have hcon:=Go.Proofs.AnyE.slices_Delete L (Subtype.val:C1->Vs) (fun x=>x.2) ⟨z,h0⟩ v0 i0 h1 h2 kb.c 0 c' i k d.toArray w (eH _ _ hH) (by simp[hdl]; exact hcap.1) hcap.2 hik (by simp[hdl]; exact hkn)
 rw[hf] at hcon;simp only[UQ,hdl] at hcon;have hent:∀args w,(callFunc f args).run Tryz.prog w=.ok (.enter f args) w:=fun args w=>pM.call f F c hF hb args w;refine .inl ⟨hent _ _,callsIn_wide.2 ?_⟩;refine Calls.mono hcon ?_;rintro e w' ⟨rfl,q,rfl⟩;refine⟨_,rfl,j,?_,hres _ (Nat.sub_le _ _)⟩;have e0:Go.Sort.putRow (Subtype.val:C1->Vs) (Sort.ahead w q) kb.c 0 (d.take i++d.drop k++List.replicate (k-i) (⟨z,h0⟩:C1)).toArray=Go.Sort.putRow id (Sort.ahead w q) kb.c 0 ((d.map Subtype.val).take i++(d.map Subtype.val).drop k++List.replicate (k-i) z).toArray:=by
  have e2:∀l:WB C1,Go.Sort.putRow (Subtype.val:C1->Vs) (Sort.ahead w q) kb.c 0 l.toArray=Go.Sort.putRow id (Sort.ahead w q) kb.c 0 (l.map Subtype.val).toArray:=fun l=>by
   unfold Go.Sort.putRow Go.Sort.putCells
   congr 1
   funext c
   congr 1
   funext x v
   simp only[UQ,To,id]
   by_cases hx:0<=x/\x<0+l.length
   simp[show x<l.length by omega]
   rw[SS hx,SS hx]
  rw[e2];simp[List.map_take,List.map_drop]
 rw[e0,<-Sort.grow_empty (Go.Sort.putRow id _ _ _ _)];exact Ga hm hk hg (by simp; omega) (JC (JC (K8 hcc _) (LJ hcc _)) (Og (hzr j) _)) q #[]
 cases h
 cases h
 cases h
end Go.Proofs.YtmndpgfbkicndaaGreat
namespace Go.Proofs
open Go.Shelf
def Tryz.gw:Go.Shelf.Ren:=⟨fun|21=>102|27=>124|28=>125|35=>140|39=>99|n=>n,fun|22=>28|3=>3|4=>4|0=>0|n=>n,fun|n=>n⟩
def Tryz.Gx:Go.Proofs.Lays2.n21 Tryz.prog Tryz.gw:={
 mixed:=by kernel_rfl
 f21:=Tryz.func102.trans (TB some (by kernel_rfl))
 f27:=Tryz.func124.trans (TB some (by kernel_rfl))
 f28:=Tryz.func125.trans (TB some (by kernel_rfl))
 f35:=Tryz.func140.trans (TB some (by kernel_rfl))
 f39:=Tryz.func99.trans (TB some (by kernel_rfl))
 t0:=Tryz.underlying0
 a0:=Tryz.isAgg0
 z0:=Tryz.sizeOf0
 v0:=Tryz.zeroValue0
 t3:=Tryz.underlying3
 a3:=Tryz.isAgg3
 z3:=Tryz.sizeOf3
 v3:=Tryz.zeroValue3
 t4:=Tryz.underlying4
 a4:=Tryz.isAgg4
 z4:=Tryz.sizeOf4
 v4:=Tryz.zeroValue4
 t22:=Tryz.underlying28
 a22:=Tryz.isAgg28
 z22:=Tryz.sizeOf28
 v22:=Tryz.zeroValue28
 i3:=by kernel_rfl}
end Go.Proofs
namespace Go.Proofs.YtmndpgfbkicndaaGreat
section
open Go Go.Ab Go.Ab.W
set_option maxRecDepth 10000
def yJ{w:Vw}{b o:Nat}{c:WD Vs}{e:Vt}{fz:Nat×Nat}{v:Vs}(h:w.heap[b]? = some (.cells c e fz)):w.setCell ⟨b,o,none⟩ v=w.putObj b (.cells (c.setIfInBounds o v) e fz):=by
 unfold World.setCell World.putObj
 congr 1
 apply Ve;intro i;rw[Array.getElem?_modify,UL]
 by_cases hb:b=i
 subst hb;rw[SU rfl,SU rfl,h];have:=(S8.1 h).1;rw[SU this]; rfl
 rw[SS hb,SS hb]
def dQ(c:WB Vs)(o:Nat)(v:Vs)(vs:WB Vs)(ho:o+vs.length+1<=c.length):aF (c.set o v) (o+1) vs=aF c o (v::vs):=by
 apply T6;intro i;rw[aS,aS,T0,TJ,Us]
 by_cases h1:i=o
 subst h1;rw[Vz,SU rfl,VA,VA,Vj]; rfl
 by_cases h2:o+1<=i/\i<o+1+vs.length/\i<c.length
 rw[SU h2,VA,show i-o=(i-(o+1))+1 by omega]; rfl
 rw[SS h2,Vz,Vz]
def fj:∀(vs:WB Vs) (o:Nat) {w:Vw} {b:Nat} {c:WD Vs} {e:Vt} {fz:Nat×Nat},w.heap[b]? = some (.cells c e fz)->o+vs.length<=c.size->w.setCells b o vs=w.putObj b (.cells (aF c.toList o vs).toArray e fz)
 | [],o,w,b,c,e,fz,h,_=>by
  have:aF c.toList o []=c.toList:=by
   apply T6;intro i;rw[aS,SS (by simp; omega)]
  rw[this];exact(mG h).symm
 | v::vs,o,w,b,c,e,fz,h,hl=>by
  have hb:=(S8.1 h).1;rw[TJ] at hl
  show(w.setCell ⟨b,o,none⟩ v).setCells b (o+1) vs=_
  rw[yJ h,fj vs (o+1) (World.putObj_heap_same hb) (by simp; omega),jT]
  congr 3
  rw[Array.toList_setIfInBounds,dQ];simp; omega
def BT{c:WB Vs}{cs:WB Vs}{i:Nat}{v:Vs}(hc:∀(x:Nat) (u:Vs),cs[x]? = some u->c[x]? = some u)(hi:i<=cs.length)(hl:cs.length+1<=c.length) :
  ∀(x:Nat) (u:Vs),(cs.take i++v::cs.drop i)[x]? = some u->(aF (aF c (i+1) (cs.drop i)) i [v])[x]? = some u:=by
 intro x u hx;rw[aS,aS,bg];have hlt:(cs.take i).length=i:=by rw[Th]; omega
 by_cases h1:x<i
 rw[TQ (by omega),T8,SU h1] at hx
 rw[Vz,Vz]
 exact hc x u hx
 rw[TN (by omega),hlt] at hx
 by_cases h2:x=i
 subst h2;rw[Vj] at hx;rw[SU (by simp; omega),Vj]; exact hx
 obtain⟨y,rfl⟩:∃y,x=i+1+y:=⟨x-(i+1),by omega⟩
 rw[show i+1+y-i=y+1 by omega,TK] at hx
 have hy:=(Tg.1 hx).1;rw[TP] at hy;rw[SS (by simp; omega),SU (by simp; omega),show i+1+y-(i+1)=y by omega]
 exact hx
def zw{w:Vw}{need old:Nat}{e:Vt}(h:need<=1073741825):need<=grownCap w need old e/\grownCap w need old e<=9223372036854775807:=by
 unfold grownCap
 show need<=need+_%(2 ^ 63-need)/\need+_%(2 ^ 63-need)<=_
 have:=TY (w.tape w.drawn (.appendCap need old e)) (show 0<2 ^ 63-need by omega)
 omega
def KJ{ty:Vt}{w:Vw}{A:WD Vs}{i m:Nat}{vs ds:WB Vs}(h1:i+vs.length<=A.size)(h2:i+m+ds.length<=A.size) :
  ((((w.alloc (.cells A ty)).drew.setCells w.heap.size i vs).drew).setCells w.heap.size (i+m) ds)=w.drew.drew.alloc (.cells (aF (aF A.toList i vs) (i+m) ds).toArray ty):=by
 have hp:(w.alloc (.cells A ty)).heap[w.heap.size]? = some (.cells A ty (0,0)):=by unfold World.alloc; simp
 have hb:w.heap.size<(w.alloc (.cells A ty)).heap.size:=(S8.1 hp).1;rw[fj (w:=(w.alloc (.cells A ty)).drew) vs i hp h1];have hp2:((w.alloc (.cells A ty)).drew.putObj w.heap.size (.cells (aF A.toList i vs).toArray ty (0,0))).drew.heap[w.heap.size]? = some (.cells (aF A.toList i vs).toArray ty (0,0)):=World.putObj_heap_same hb;rw[fj ds (i+m) hp2 (by simp[bg]; omega)]
 unfold World.alloc World.putObj World.drew;simp;apply Ve;intro x;rw[UL,UH,UH]
 by_cases hx:w.heap.size=x
 subst hx; simp
 rw[SS hx]; simp[show ¬x=w.heap.size from fun h=>hx h.symm]
def VR.BR{E:Env}{j:aU}{m:Wb}{w:Vw}(hm:MR E j m w){b n:Nat}{cs:WB Vs}{tg:Tag}(hg:m.get b=some (.cells cs tg))(htg:tg=.own\/tg=.more 1)(hcl:cs.length=n)(hlim:lim n=true)(hp:cs.all aP=true){v':Vs}(h:VR j (.slice (some ⟨b,0,none⟩) n n) v') :
  ∃k c' c e,j b=some k/\v'=.slice (some ⟨k.c,0,none⟩) n c'/\w.heap[k.c]? = some (.cells c e (0,0))/\c.size=c'/\n<=c'/\c'<=9223372036854775807/\∀(x:Nat) (u:Vs),cs[x]? = some u->c.toList[x]? = some u:=by
 have hll:=oW hlim;have key:∀{c:WD Vs},(∀(i:Nat) (v:Vs),cs[i]? = some v->∃v',c[i]? = some v'/\VR j v v')->∀(x:Nat) (u:Vs),cs[x]? = some u->c.toList[x]? = some u:=fun g x u hx=>by
  obtain⟨u',g1,g2⟩:=g x u hx;have:=gi (Tc.1 hp u (Td hx)) g2;subst this
  simpa using g1
 cases h with
 | slice hj hmo =>
  rename_i k;obtain⟨c,e,fz,g1,g2,g3⟩:=hm.gD hj hg;rcases htg with rfl|rfl
  obtain⟨_,d2,rfl⟩:k.more=none/\c.size=cs.length/\fz=(0,0):=g2;exact⟨k,n,c,e,hj,rfl,g1,by omega,S0 _,by omega,key g3⟩
  have:k.more=some (1,cs.length,c.size):=g2.1;rw[hmo] at this; cases this
 | sliceM hj hmo a1 a2 a3 a4 =>
  rename_i c' sz na nc k;obtain⟨c,e,fz,g1,g2,g3⟩:=hm.gD hj hg;rcases htg with rfl|rfl
  have:k.more=none:=g2.1;rw[hmo] at this; cases this
  obtain⟨d1,d2,rfl,d4,d5⟩:k.more=some (1,cs.length,c.size)/\cs.length<=c.size/\fz=(0,0)/\0<1/\iC 1 c:=g2;rw[hmo] at d1;simp only[Option.some.injEq,Prod.mk.injEq] at d1;obtain⟨rfl,rfl,rfl⟩:=d1;unfold iC at d5;exact⟨k,c',c,e,hj,rfl,g1,by omega,a4,by omega,key g3⟩
def rH(n:Nat):(Builtin.zeroCells (Value.int .i64 0).cells n)=(bt [.int .i64 0] n).toArray:=by
 rw[show(bt [Value.int .i64 0] n)=bt (Value.int .i64 0).cells.toList n from rfl,<-kn (zero:=(Value.int .i64 0).cells)]; rfl
def A5{p q:WA Prim}{pr:Bool}{args:WB Vs}{m m':Wb}{v:Vs}(h:kD args m=some (v,m')){j:aU}{w:Vw}{args':WB Vs}(hm:MR (We p q) j m w)(hl:LR j args args') :
  gV (We p q).P pr 102 args'.toArray w (jt (We p q) j m w v m'):=by
 have hent:∀args w,(callFunc 102 args).run Tryz.prog w=.ok (.enter 102 args) w:=fun args w=>pM.call 102 _ _ Tryz.func102 rfl args w;unfold kD at h
 split at h
 rename_i vb
 split at h
 rename_i v0 h0;cases h;obtain⟨v1,vs,rfl,h1,hvs⟩:=hl.cons_inv;obtain⟨v2,v3,rfl,h2,h3⟩:=hvs.cons_inv;obtain⟨v4,v5,rfl,h4,h5⟩:=h3.cons_inv;obtain rfl:=h5.dv;cases h1; cases h2;obtain⟨kv,c0,cv,ev,hkv,rfl,gv,hv3',h8,h9,h6⟩:=VR.BR hm h0 (.inl rfl) rfl rfl rfl h4;have hcv:∀(x:Nat) (u:Vs),[Value.int .i64 v0][x]? = some u->w.cell? ⟨kv.c,0+x,none⟩=some u:=fun x u hx=>by
  have:=h6 x u hx;simp only[World.cell?,gv,Tw]
  simpa using this
 have hcon:=Go.Proofs.Any2.slices_Insert_int_end_grow Tryz.Gx none 0 0 kv.c 0 1 c0 [] [.int .i64 v0] w (by decide) (by decide) (by decide) (by decide) rfl rfl (fun _=>rfl) (fun a h=>by cases h) hcv (fun v hv=>by rw[S6.1 hv]; rfl)
 change Calls Tryz.prog 102 _ _ _ at hcon
 refine .inl ⟨hent _ _,callsIn_wide.2 ?_⟩;refine Calls.mono hcon ?_;rintro e w' ⟨rfl,rfl⟩;obtain⟨g0,g1⟩:=zw (w:=w) (need:=0+1) (old:=0) (e:=Tryz.gw.t 3) (by decide)
 generalize grownCap w (0+1) 0 (Tryz.gw.t 3)=cap at g0 g1 ⊢;obtain⟨j',s1,s2⟩:=gk hm (w0:=w.drew) ⟨rfl,rfl,rfl,rfl,Nat.le_succ _⟩ (cs:=[.int .i64 v0]) (cs':=[.int .i64 v0]) (rest:=bt [.int .i64 0] (cap-(0+1))) (elem:=Tryz.gw.t 3) (sz:=1) (n:=1) (cap:=cap) (.cons (.int _ _) (.nil _)) rfl (by simp[bO]; omega) g0 (by decide) (eA (by decide) _) g1
 refine⟨_,rfl,j',?_,s2⟩;rw[rH];have:(([]:WB Vs)++[Value.int .i64 v0]).toArray++(bt [Value.int .i64 0] (cap-(0+1))).toArray=([Value.int .i64 v0]++bt [Value.int .i64 0] (cap-(0+1))).toArray:=by simp
 rw[this];exact s1
 cases h
 rename_i b n n' i vb
 split at h
 rename_i v0 cs tg h0 hcs;obtain⟨hg,htg,rfl,hcl,h10⟩:=mJ hcs;rw[Nat.mul_one] at hcl
 split at h
 rename_i hc;cases h;obtain⟨hne,h11,hin,hlim,hpl⟩:=hc;obtain⟨v1,vs,rfl,h1,hvs⟩:=hl.cons_inv;obtain⟨v2,v3,rfl,h2,h3⟩:=hvs.cons_inv;obtain⟨v4,v5,rfl,h4,h5⟩:=h3.cons_inv;obtain rfl:=h5.dv;cases h2;obtain⟨i,rfl⟩:=UO h11;simp only[Int.ofNat_le,Ti] at *;obtain⟨kv,c0,cv,ev,hkv,rfl,gv,hv3',h8,h9,h6⟩:=VR.BR hm h0 (.inl rfl) rfl rfl rfl h4;obtain⟨kb,c',c,e,hk,rfl,gb,hsz,hnc,h7,hcc⟩:=VR.BR hm hg h10 hcl hlim hpl h1;have hll:=oW hlim;have hcell:∀{k:Blk} {c:WD Vs} {e:Vt},w.heap[k.c]? = some (.cells c e (0,0))->∀x,w.cell? ⟨k.c,x,none⟩=c[x]?:=fun h x=>by simp[World.cell?,h]
 have hfrz:∀{k:Blk} {c:WD Vs} {e:Vt},w.heap[k.c]? = some (.cells c e (0,0))->∀x,w.frozen? ⟨k.c,x,none⟩=false:=fun h x=>by simp[World.frozen?,h]
 have hvb:kv.c≠kb.c:=fun hcc=>hne (hm.inj vb b kv kb hkv hk (by rw[h0]; rfl) (by rw[hg]; rfl) hcc)
 have hcv:∀(x:Nat) (u:Vs),[Value.int .i64 v0][x]? = some u->w.cell? ⟨kv.c,0+x,none⟩=some u:=fun x u hx=>by
  have:=h6 x u hx;rw[hcell gv,Tw]
  simpa using this
 have hcb:∀(x:Nat) (u:Vs),cs[x]? = some u->w.cell? ⟨kb.c,0+x,none⟩=some u:=fun x u hx=>by
  have:=hcc x u hx;rw[hcell gb,Tw]
  simpa using this
 have h1v:∀u∈[Value.int .i64 v0],u.oneCell'=true:=fun u hu=>by rw[S6.1 hu]; rfl
 have h1c:∀u∈cs,u.oneCell'=true:=fun u hu=>by
  have:=Tc.1 hpl u hu;cases u<;>first|rfl|cases this
 have hsp:∀x,x<c'->(w.cell? ⟨kb.c,0+x,none⟩).isSome=true:=fun x hx=>by
  rw[hcell gb,Tw,UF (by omega)]; rfl
 have hbv:(w.heap[kb.c]?).isSome=true:=by rw[gb]; rfl
 have hnew:(cs.take i++Value.int .i64 v0::cs.drop i).length=n+1:=by simp; omega
 have hpn:(cs.take i++Value.int .i64 v0::cs.drop i).all aP=true:=Tc.2 fun u hu=>by
  rcases Tk.1 hu with hu|hu
  exact Tc.1 hpl u (Uz hu)
  rcases Tq.1 hu with rfl|hu
  rfl
  exact Tc.1 hpl u (UA hu)
 by_cases hroom:n+1<=c'
 
 have hor:OR j ⟨kb.c,some (1,n+1,c')⟩ (.cells (cs.take i++Value.int .i64 v0::cs.drop i) (.more 1)) (.cells (aF (aF c.toList (i+1) (cs.drop i)) i [.int .i64 v0]).toArray e (0,0)):=by
  refine⟨⟨by rw[hnew]; simp[bg,hsz],by rw[hnew]; simp[bg]; omega,rfl,by decide,by unfold iC; simp[bg]; omega⟩,fun x u hx=>?_⟩
  have:=BT (v:=.int .i64 v0) hcc (by omega:i<=cs.length) (by simp; omega) x u hx
  exact⟨u,by simpa using this,.aP (Tc.1 hpn u (Td hx))⟩
 have fin:∀w0:Vw,w0.heap=w.heap->Go.Ab.Calm w w0->jt (We p q) j m w (.slice (some ⟨m.next,0,none⟩) (n+1) (n+1)) ((m.kill b).alloc (.cells (cs.take i++Value.int .i64 v0::cs.drop i) (.more 1)))
   (.slice (some ⟨kb.c,0,none⟩) (n+1) c') (w0.putObj kb.c (.cells (aF (aF c.toList (i+1) (cs.drop i)) i [.int .i64 v0]).toArray e (0,0))):=fun w0 e0 c1=>by
  have s0:Sim (We p q) j m w j m w0:=Sim.of_heap hm e0 c1;have s1:=ue s0.mr hk (by rw[hg]; rfl) hor
  exact⟨_,s0.trans hm s1,.sliceM (k:=⟨kb.c,some (1,n+1,c')⟩) (aU.cu _ _ _) rfl (by omega) (by omega) (S0 _) hroom⟩
 by_cases hlt:i<n
 have hcon:=Go.Proofs.Any2.slices_Insert_int_shift Tryz.Gx kb.c 0 n c' i kv.c 0 1 c0 cs [.int .i64 v0] w hlt (by decide) hroom h7 hvb hcl rfl hcb (fun x hx=>hsp x (by omega)) (fun x _=>hfrz gb _) hcv h1c h1v ev e cv.size c.size
  (by simp[World.shape?,gv]) (by simp[World.shape?,gb]) (by omega) (hfrz gv _) (hfrz gv _)
 change Calls Tryz.prog 102 _ _ _ at hcon
 refine .inl ⟨hent _ _,callsIn_wide.2 ?_⟩;refine Calls.mono hcon ?_;rintro e' w' ⟨rfl,rfl⟩;refine⟨_,rfl,?_⟩;rw[Tw,Tw,fj (w:=w.drew) (cs.drop i) (i+1) gb (by simp; omega),fj [.int .i64 v0] i (World.putObj_heap_same (w:=w.drew) (S8.1 gb).1) (by simp[bg]; omega),jT]
 exact fin w.drew rfl ⟨rfl,rfl,rfl,Nat.le_succ _⟩
 obtain rfl:i=n:=by omega
 have hcon:=Go.Proofs.Any2.slices_Insert_int_end_room Tryz.Gx kb.c 0 i c' kv.c 0 1 c0 [.int .i64 v0] w (by decide) hroom h7 rfl (fun x hx=>by rw[Nat.add_assoc]; exact hsp (i+x) (by omega)) (fun x _=>hfrz gb _) hcv h1v
 change Calls Tryz.prog 102 _ _ _ at hcon
 refine .inl ⟨hent _ _,callsIn_wide.2 ?_⟩;refine Calls.mono hcon ?_;rintro e' w' ⟨rfl,rfl⟩;refine⟨_,rfl,?_⟩;have hd:aF c.toList (i+1) (cs.drop i)=c.toList:=by
  rw[List.drop_of_length_le (by omega)]
  apply T6;intro x;rw[aS,SS (by simp; omega)]
 rw[Tw,fj [.int .i64 v0] i gb (by simp; omega)]
 have:=fin w rfl ⟨rfl,rfl,rfl,S0 _⟩;rw[hd] at this;exact this
 
 have hc':c'=n:=by omega
 subst hc';have sk:=zD hm hk;have fin:∀(w0:Vw) (cap:Nat) (rest:WB Vs),w0.heap=w.heap->Go.Ab.Calm w w0->c'+1<=cap->cap<=9223372036854775807->rest.all aP=true->c'+1+rest.length=cap->jt (We p q) j m w (.slice (some ⟨m.next,0,none⟩) (c'+1) (c'+1)) ((m.kill b).alloc (.cells (cs.take i++Value.int .i64 v0::cs.drop i) (.more 1)))
   (.slice (some ⟨w.heap.size,0,none⟩) (c'+1) cap) (w0.alloc (.cells ((cs.take i++Value.int .i64 v0::cs.drop i)++rest).toArray (Tryz.gw.t 3))):=fun w0 cap rest e0 c1 g0 g1 g2 g3=>by
  obtain⟨j',s1,s2⟩:=gk sk.mr (w0:=w0) ⟨e0,c1⟩ (cs:=cs.take i++Value.int .i64 v0::cs.drop i) (cs':=cs.take i++Value.int .i64 v0::cs.drop i) (rest:=rest) (elem:=Tryz.gw.t 3) (sz:=1) (n:=c'+1) (cap:=cap) (LR.plain hpn) (by rw[hnew,Nat.mul_one]) (by rw[Te,hnew]; omega) g0 (by decide) g2 g1
  have e3:(m.kill b).next=m.next:=Wb.next_kill _ _
  rw[e3] at s2;exact⟨j',sk.trans hm s1,s2⟩
 obtain⟨g0,g1⟩:=zw (w:=w) (need:=c'+1) (old:=c') (e:=Tryz.gw.t 3) (by omega)
 by_cases hlt:i<c'
 have hcon:=Go.Proofs.Any2.slices_Insert_int_grow Tryz.Gx kb.c 0 c' c' i kv.c 0 1 c0 cs [.int .i64 v0] w hlt (by decide) (S0 _) (by omega) (by omega) hcl rfl hcb hcv h1c h1v
 change Calls Tryz.prog 102 _ _ _ at hcon
 refine .inl ⟨hent _ _,callsIn_wide.2 ?_⟩;refine Calls.mono hcon ?_;rintro e' w' ⟨rfl,rfl⟩;generalize grownCap w (c'+1) c' (Tryz.gw.t 3)=cap at g0 g1 ⊢;refine⟨_,rfl,?_⟩;rw[rH,rH];obtain⟨A,hA⟩:∃A:WD Vs,A=(cs.take i).toArray++(bt [Value.int .i64 0] (c'+1-i)).toArray++(bt [Value.int .i64 0] (cap-(c'+1))).toArray:=⟨_,rfl⟩;have hAl:A.toList=cs.take i++(bt [Value.int .i64 0] (c'+1-i)++bt [Value.int .i64 0] (cap-(c'+1))):=by rw[hA]; simp
 have hAs:A.size=cap:=by rw[<-UG,hAl]; simp[bO]; omega
 rw[<-hA,KJ (A:=A) (i:=i) (m:=1) (vs:=[.int .i64 v0]) (ds:=cs.drop i) (by simp; omega) (by simp; omega)]
 have:=fin w.drew.drew cap (bt [.int .i64 0] (cap-(c'+1))) rfl ⟨rfl,rfl,rfl,by show w.drawn<=w.drawn+1+1; omega⟩ g0 g1 (eA (by decide) _) (by simp[bO]; omega)
 have e1:aF (aF A.toList i [Value.int .i64 v0]) (i+1) (cs.drop i)=(cs.take i++Value.int .i64 v0::cs.drop i)++bt [Value.int .i64 0] (cap-(c'+1)):=by
  apply T6;intro x;have hti:(cs.take i).length=i:=by rw[Th]; omega
  rw[aS,aS,bg];have hAL:A.toList.length=cap:=by rw[UG,hAs]
  by_cases h13:x<i
  rw[Vz,Vz,hAl,TQ (by omega),TU,TQ (by omega)]
  by_cases h12:x=i
  subst h12;rw[Vz,SU (by simp; omega),TU,TN (by omega),hti,Vj]; rfl
  by_cases h14:x<c'+1
  rw[SU (by simp; omega),TU,TN (by omega),hti,show x-i=(x-(i+1))+1 by omega,Vd,TK,TQ (by simp; omega)]
  rw[SS (by simp; omega),SS (by simp; omega),hAl,TN (by omega),hti,TN (by rw[bO]; simp; omega),TN (by omega),bO,hnew]
  congr 1
  simp; omega
 rw[e1]; exact this
 obtain rfl:i=c':=by omega
 have hcon:=Go.Proofs.Any2.slices_Insert_int_end_grow Tryz.Gx (some ⟨kb.c,0,none⟩) i i kv.c 0 1 c0 cs [.int .i64 v0] w (by decide) (S0 _) (by omega) (by omega) hcl rfl (fun h=>by cases h) (fun a ha x u hx=>by cases ha; rw[Addr.add_lit]; exact hcb x u hx) hcv h1v
 change Calls Tryz.prog 102 _ _ _ at hcon
 refine .inl ⟨hent _ _,callsIn_wide.2 ?_⟩;refine Calls.mono hcon ?_;rintro e' w' ⟨rfl,rfl⟩;generalize grownCap w (i+1) i (Tryz.gw.t 3)=cap at g0 g1 ⊢;refine⟨_,rfl,?_⟩;rw[rH];have:=fin w.drew cap (bt [.int .i64 0] (cap-(i+1))) rfl ⟨rfl,rfl,rfl,Nat.le_succ _⟩ g0 g1 (eA (by decide) _) (by simp[bO]; omega)
 have e1:(cs++[Value.int .i64 v0]).toArray++(bt [Value.int .i64 0] (cap-(i+1))).toArray=((cs.take i++Value.int .i64 v0::cs.drop i)++bt [Value.int .i64 0] (cap-(i+1))).toArray:=by
  rw[Uv (by omega),List.drop_of_length_le (by omega)]; simp
 rw[e1]; exact this
 cases h
 cases h
 cases h
end
section
open Go Go.Ab Go.Ab.W
def Dm{t:Vt}(h:(Tryz.prog.info? t).map (·.size)=some 1):∃i,Tryz.prog.info? t=some i/\i.size=1:=by
 cases e:Tryz.prog.info? t with
 | none=>rw[e] at h; cases h
 | some i=>rw[e] at h; exact⟨i,rfl,SX h⟩
def ub:EnvOk (We none none):=yN AY fun f P hp args m v m' h j w args' hm hl=>by
 have hp0:(We none none).dc f=KX f:=by
  show(if f=65 then none else if f=38 then none else KX f)=_
  split
  rename_i e; subst e; rfl
  split
  rename_i e; subst e; rfl
  rfl
 rw[hp0] at hp;unfold KX at hp
 split at hp
 rename_i e; subst e; cases hp;exact zX h hm hl
 split at hp
 rename_i e; subst e; cases hp;obtain⟨i0,hi0,hs⟩:=Dm (t:=28) (by kernel_rfl)
 exact ua Tryz.R6 rfl _ _ Tryz.func115 rfl rfl (fun j=>.snil 0 0) Tryz.zeroValue28 i0 hi0 hs h hm hl
 split at hp
 rename_i e; subst e; cases hp;obtain⟨i0,hi0,hs⟩:=Dm (t:=3) (by kernel_rfl)
 exact ua Tryz.Rp rfl _ _ Tryz.func101 rfl rfl (fun j=>.int _ _) Tryz.zeroValue3 i0 hi0 hs h hm hl
 split at hp
 rename_i e; subst e; cases hp;exact A5 h hm hl
 cases hp
end
end Go.Proofs.YtmndpgfbkicndaaGreat
namespace Go.Ab.W
open Go Go.Ab
section
variable{E:Env}{n:Nat}{m0 m:Wb}{fs fs':Fs}{ps ps':WB Pc}{ops:WD Oper}{os:WB Oper}{K:Tm->Wb->Prop}{dr:Bool}{fn:WJ}{ro:WA Nat}{c:Code}{Q:Wc->Tm->Wb->Prop}
variable{ty oty:Vt}{p:String}{af:WD Edge}{d:Nat}{g:WA (Nat×Bool)}{x:Vu}{v:Vs}
def lw{σ ρ γ:Type}{δ:ρ->Type}{body:σ->WA (σ⊕ρ)}{X:(r:ρ)->δ r->En}{N:Nat}{s:σ}{r:ρ}(h:bh body N s=some r)(g:γ)(I:σ->γ->En)(T:ah m0 ps (I s g).ps)
  (hb:∀s g r,body s=some r->Wk E n fn ro c (match r with|.inl s'=>mw m0 (I s')|.inr r=>mw m0 (X r)) m0 (I s g).fs (I s g).ps)
  (hs:sub fs (I s g).fs:=by repeat first|exact sn|refine sc rfl ?_)
  (hn:∀s g,(I s g).e=.normal:=by exact fun _ _=>rfl) (hx:∀r g,(X r g).e≠.normal:=by intro r d; first |(intro e; cases e; done) |(rcases r with r|r<;>first |(intro e; cases e; done) |(rcases r with r|r<;>first |(intro e; cases e; done) |(rcases r with r|r<;>intro e<;>cases e)))):Wk E n fn ro (.loop c) (mw m0 (ap X r)) m0 fs ps:=.Jr hs T (Wk.loop body I X hb hn hx N s r h g)
def aT{γ:Type}{G:γ->En}{e:Wc}(g:γ)(T:ah m0 ps (G g).ps)(he:e=(G g).e:=by rfl)(hs:sub fs (G g).fs:=by repeat first|exact sn|refine sc rfl ?_):At (mw m0 G) e m0 fs ps:=At.en g he hs T
def aO:WB Pc->WB Pc->WA (WB Pc)
 | [],ps=>some ps
 | p::l,ps=>match aO l ps with
  | some q=>some (p::q)
  | none=>none
def Mq:∀{l ps q:WB Pc},aO l ps=some q->q=l++ps
 | [],ps,q,h=>by cases h; rfl
 | p::l,ps,q,h=>by
  unfold aO at h
  split at h
  rename_i q' e; cases h; rw[Mq e]; rfl
  cases h
def PD{α:Type}{r:Rep α}{ag:Bool}{sz b o w j c q off:Nat}{R:Vr}{L:WB α}{es:Vp}{z:α}{V:r.G->Vs}{N:r.G->WB Pc}(ht:TyI E.P ty ag sz)(hx:ev E fs x=some (ptr b off))(ho:off=o+j*w+c)(hli:∀m,Hp m0 m ps->qA m b o w es)(hq:pk ps q=some (.gen (bY r R L es)))(hl:L[j]? = some z)(hv:∀g,yz ag sz (r.V z g) c=some (V g))(hs:xu ag sz c w=true)(hN:∀g,aO (r.N z g R) ps=some (N g)):Ox E m0 fs ps (.load ty x) V N :=
 P4 ht hx ho hli hq hl hv hs fun g=>Mq (hN g)
def wl{α:Type}{r:Rep α}{ag:Bool}{sz b o j l off:Nat}{R:Vr}{L:WB α}{es:Vp}{z:α}{V:r.G->Vs}{N:r.G->WB Pc}(w c q k:Nat)(hl:L[j]? = some z)(kk:∀g,Wo dr E n ops K os m0 ((d,V g)::fs) (N g))(ht:TyI E.P oty ag sz:=by exact TyC.t)(hx:ev E fs x=some (ptr b off):=by rfl)(hp:pk ps k=some (.ro b o w l es):=by rfl)(ho:off=o+j*w+c:=by rfl)(hq:pk ps q=some (.gen (bY r R L es)):=by rfl)(hv:∀g,yz ag sz (r.V z g) c=some (V g):=by exact fun _=>rfl)(hs:xu ag sz c w=true:=by rfl)(hN:∀g,aO (r.N z g R) ps=some (N g):=by exact fun _=>rfl)(hd:Nat.blt d n=true:=by rfl):Wo dr E n ops K (⟨some d,.load oty x,ty,p,af,none⟩::os) m0 fs ps:=VL (PD ht hx ho (zW hp) hq hl hv hs hN) gn hd kk
variable{α:Type}{V:α->Vs}{N:α->WB Pc}{R S:α->Pc}{f:Vu}{q:WJ}{ars:WD Vu}{ts:WD Vt}{args:WB Vs}{prs:WB (Nat×Nat)}{ss:WB Nk}
def yU(hg:vq ops fs g true)(hc:∀m,Hp m0 m ps->aG E q args m (fun v m'=>∃x,v=V x/\Hp m m' [R x,S x,.gen (uR (mD ps))]))(k:∀x,Wo dr E n ops K os m0 ((d,V x)::fs) (R x::S x::ps))(hf:ev E fs f=some (.func (.func q) #[] #[]):=by rfl)(ha:gG E fs ars.toList=some args:=by rfl)(ho:∀x,sC [R x,S x]=true:=by exact fun _=>rfl)(hd:Nat.blt d n=true:=by rfl):Wo dr E n ops K (⟨some d,.call ⟨.value f,ars,ts⟩,ty,p,af,g⟩::os) m0 fs ps:=VL (C3 (N:=fun x=>[R x,S x]) hf ha hc ho) hg hd k
def wq{ρ γ:Type}{first cap:WD Vs}(F:ρ->γ->Vs×WB Pc)(r:ρ)(hc:∀m,Hp m0 m ps->aG E q (first.toList++args++cap.toList) m (fun v m'=>∃x,v=(F r x).1/\Hp m0 m' (F r x).2))(k:∀x,Wo dr E n ops K os m0 ((d,(F r x).1)::fs) (F r x).2)(hf:ev E fs f=some (.func (.func q) first cap):=by rfl)(ha:gG E fs ars.toList=some args:=by rfl)(hd:Nat.blt d n=true:=by rfl):Wo dr E n ops K (⟨some d,.call ⟨.value f,ars,ts⟩,ty,p,af,none⟩::os) m0 fs ps:=VL (mz hf ha hc) gn hd k
end
end Go.Ab.W
namespace Go.Proofs.YtmndpgfbkicndaaGreat
open Go Go.Ab Go.Ab.W
set_option maxRecDepth 10000
set_option maxHeartbeats 4000000
attribute [local irreducible] Wo Wk At Wn Od Ox bq bZ
attribute [local irreducible] Tm.at Trie.set Trie.get Wb.get Wb.set Wb.alloc Wb.ww Wb.kill
variable{p q:WA Prim}
abbrev iq(z0)(z1)(z2):=Pc.rd z0 z1 2 (List.length z2) (List.map (eP (eI .i64) (eI .i64)) z2)
abbrev E8(z0)(z1){β2:Type}(z2:WB β2)(z3)(z4){β5:Type}(z5:WB β5)(z6):=Pc.obj z0 (.cells [.slice z1 (List.length z2) z3,.slice z4 (List.length z5) z6] .own)
abbrev jH{γ0:Type}(z0:Rep γ0)(z1)(z2:WB γ0)(z3):=Pc.gen (bY z0 z1 z2 z3)
abbrev O3(z0)(z1){β2:Type}(z2:WB β2)(z3)(z4)(z5){β6:Type}(z6:WB β6)(z7):=Pc.obj z0 (.cells [.slice z1 (List.length z2) z3,.slice (some ⟨z4,z5,none⟩) (List.length z6) z7] .own)
abbrev df(z0):=Pc.obj z0 (.cells [.int .i64 0] .own)
abbrev bP(z0){β1:Type}(z1:WB β1):=Value.slice z0 (List.length z1) (List.length z1)
abbrev iu(z0)(z1):=Pc.sl z0 4 (List.length z1) (List.map (eP (eI .i64) (eP (eI .i64) (eP (eI .i64) (eI .i64)))) z1)
abbrev aN(z0):=Value.int .i64 z0
abbrev Sl(z0)(z1)(z2){β3:Type}(z3:WB β3)(z4):=Pc.rd (some ⟨z0,z1,none⟩) z2 2 (List.length z3) z4
abbrev iO(z0)(z1):=Pc.sl z0 2 (List.length z1) (List.map (eP (eI .i64) (eI .i64)) z1)
abbrev fU(z0)(z1)(z2){β3:Type}(z3:WB β3)(z4):=Pc.obj z0 (.cells [.slice (some ⟨z1,z2,none⟩) (List.length z3) z4] .own)
abbrev ko(z0)(z1){β2:Type}(z2:WB β2)(z3):=Pc.rd z0 z1 2 (List.length z2) z3
abbrev bj(z0){β1:Type}(z1:WB β1)(z2):=Value.slice z0 (List.length z1) z2
abbrev dh{β0:Type}(z0:WB β0):=Value.int .i64 ((List.length z0):Int)
abbrev sG(z0)(z1){β2:Type}(z2:WB β2)(z3){β4:Type}(z4:WB β4):=Pc.obj z0 (.cells [.slice z1 (List.length z2) (List.length z2),.slice z3 (List.length z4) (List.length z4)] .own)
abbrev fF(z0)(z1)(z2)(z3)(z4):=Pc.obj z0 (.cells [.int .i64 z1,.int .i64 z2,.int .i64 z3,.int .i64 z4] .own)
abbrev gL(z0)(z1)(z2)(z3)(z4)(z5):=Pc.obj z0 (.cells [.int .i64 z1,.int .i64 z2,.int .i64 z3,.int .i64 z4,.int .i64 z5] .own)
abbrev Qh(z0)(z1){β2:Type}(z2:WB β2)(z3):=Pc.ro z0 z1 2 (List.length z2) z3
abbrev dZ(m)(z0)(z1)(z2):=Rd m z0 z1 2 (List.length z2) (List.map (eP (eI .i64) (eI .i64)) z2)
abbrev fD(z0){β1:Type}(z1:WB β1):=Pc.obj z0 (.cells [.int .i64 ((List.length z1):Int)] .own)
abbrev eu(z0){β1:Type}(z1:WB β1)(z2)(z3){β4:Type}(z4:WB β4)(z5):=Value.agg #[.slice z0 (List.length z1) z2,.slice z3 (List.length z4) z5]
abbrev R1(z0)(z1)(z2){β3:Type}(z3:WB β3)(z4):=Pc.rd (some ⟨z0,z1,none⟩) z2 1 (List.length z3) z4
abbrev Ee(z0)(z1)(z2)(z3):=Pc.rd (some ⟨z0,z1,none⟩) z2 2 (List.length z3) (List.map (eP (eI .i64) (eI .i64)) z3)
abbrev kl(z0)(z1){β2:Type}(z2:WB β2)(z3){β4:Type}(z4:WB β4):=Pc.obj z0 (.cells [.slice z1 (List.length z2) (List.length z2),.slice (some ⟨z3,0,none⟩) (List.length z4) (List.length z4)] .own)
abbrev nQ(z0)(z1){β2:Type}(z2:WB β2)(z3):=Value.slice (some ⟨z0,z1,none⟩) (List.length z2) z3
abbrev ef(z0)(z1)(z2):=Pc.obj z0 (.cells [.int .i64 z1,.int .i64 z2] .own)
abbrev RY(z0)(z1)(z2)(z3):=Pc.rd (some ⟨z0,z1,none⟩) z2 1 (List.length z3) (List.map (eI .i64) z3)
abbrev cM(z0):=Value.slice (some ⟨z0,0,none⟩) 4 4
abbrev ji(z0):=Pc.obj z0 (.cells [.slice none 0 0,.slice none 0 0] .own)
abbrev Eh(z0)(z1)(z2):=Pc.ro z0 z1 2 (List.length z2) (List.map (eP (eI .i64) (eI .i64)) z2)
abbrev eD(z0)(z1):=Pc.obj z0 (.cells [.map (some z1)] .own)
abbrev uS(z0)(z1){β2:Type}(z2:WB β2)(z3):=Pc.obj z0 (.cells [.slice z1 (List.length z2) z3] .own)
abbrev Rs(z0)(z1)(z2)(z3){β4:Type}(z4:WB β4)(z5)(z6){β7:Type}(z7:WB β7)(z8)(z9):=Pc.obj z0 (.cells [.int .u8 ((z1:Nat):Int),.int .u8 ((z2:Nat):Int),.slice z3 (List.length z4) z5,.slice z6 (List.length z7) z8,.bool z9] .own)
abbrev eY(z0)(z1):=Pc.obj z0 (.cells [.int .i64 z1] .own)
abbrev RU(z0)(z1)(z2):=Pc.ro z0 z1 1 (List.length z2) (List.map (eI .i64) z2)
abbrev RH(z0)(z1){β2:Type}(z2:WB β2)(z3):=Pc.ro z0 z1 1 (List.length z2) z3
abbrev PB(z0){β1:Type}(z1:WB β1):=Value.slice (some ⟨z0,0,none⟩) (((List.length z1):Int).toNat) (((List.length z1):Int).toNat)
abbrev yB(z0)(z1)(z2)(z3)(z4)(z5)(z6):=Pc.obj z0 (.cells [.int .u8 ((z1:Nat):Int),.int .u8 ((z2:Nat):Int),.int .u8 ((z3:Nat):Int),.int .i64 z4,.int .i64 z5,.int .i64 z6] .own)
abbrev fy(z0)(z1):=Value.agg #[.int .i64 z0,.int .i64 z1]
abbrev q8(z0)(z1)(z2):=Pc.arr z0 4 (List.length z1) (List.map (eP (eI .i64) (eP (eI .i64) (eP (eI .i64) (eI .i64)))) z1) z2
abbrev Bz(z0)(z1){β2:Type}(z2:WB β2):=Pc.obj z0 (.cells [.slice z1 (List.length z2) (List.length z2)] .own)
abbrev Lc(z0)(z1){β2:Type}(z2:WB β2)(z3):=Pc.rd z0 z1 1 (List.length z2) z3
abbrev fN(m)(z0)(z1){β2:Type}(z2:WB β2)(z3):=Rd m z0 z1 2 (List.length z2) z3
abbrev lC(z0){β1:Type}(z1:WB β1)(z2):=Pc.sl z0 2 (List.length z1) z2
abbrev KR(z0)(z1)(z2):=Pc.rd z0 z1 1 (List.length z2) (List.map (eN .u8) z2)
abbrev lp(z0)(z1)(z2):=Pc.rd z0 z1 1 (List.length z2) (List.map (eI .i64) z2)
abbrev yq(z0)(z1):=Pc.obj z0 (.map (List.map (eM (fun n:Int=>.int .i64 n) (fun n:Int=>.int .i64 n)) z1))
abbrev lG(z0):=Value.slice (some ⟨z0,0,none⟩) 1 1
abbrev ei(z0):=Pc.gen (uR z0)
abbrev Gv(z0)(z1)(z2):=Value.slice (some ⟨z0,0,none⟩) ((z1++([z2]:Vo)).length) ((z1++([z2]:Vo)).length)
abbrev Qr(z0)(z1)(z2)(z3)(z4)(z5)(z6)(z7)(z8)(z9)(z10)(z11):=Value.agg #[.int .u8 ((z0:Nat):Int),.int .u8 ((z1:Nat):Int),.int .u8 ((z2:Nat):Int),.int .i64 z3,.int .i64 z4,.int .i64 z5,.int .u8 ((z6:Nat):Int),.int .u8 ((z7:Nat):Int),.int .u8 ((z8:Nat):Int),.int .i64 z9,.int .i64 z10,.int .i64 z11]
abbrev rf(z0){β1:Type}(z1:WB β1):=Value.slice (some ⟨z0,0,none⟩) (List.length z1) (List.length z1)
abbrev rh(m)(z0)(z1)(z2):=Rd m z0 z1 1 (List.length z2) (List.map (eI .i64) z2)
abbrev y5(z0){β1:Type}(z1:WB β1)(z2):=Pc.arr z0 1 (((List.length z1):Int).toNat) (List.map (eI .i64) z2) .own
abbrev MY(z0)(z1)(z2){β3:Type}(z3:WB β3)(z4)(z5){β6:Type}(z6:WB β6)(z7)(z8):=Value.agg #[.int .u8 ((z0:Nat):Int),.int .u8 ((z1:Nat):Int),.slice z2 (List.length z3) z4,.slice z5 (List.length z6) z7,.bool z8]
abbrev M8(z0)(z1)(z2)(z3)(z4)(z5)(z6)(z7):=Value.agg #[.int .i64 z0,.int .i64 z1,.int .i64 z2,.int .i64 z3,.int .i64 z4,.int .i64 z5,.int .i64 z6,.int .i64 z7]
abbrev pP{γ0:Type}{ρ0:Rep γ0}(z0:Orp ρ0)(z1)(z2:WB γ0)(z3):=Pc.gen (cY z0 z1 z2 z3)
abbrev xZ(z0)(z1):=Pc.sl z0 1 (List.length z1) (List.map (eI .i64) z1)
abbrev EI(z0){β1:Type}(z1:WB β1)(z2):=Pc.arr z0 1 (((List.length z1):Int).toNat) (List.map (eB) z2) .own
abbrev FV(z0)(z1)(z2)(z3):=Value.agg #[.int .i64 z0,.int .i64 z1,.int .i64 z2,.int .i64 z3]
abbrev By(m)(z0)(z1)(z2):=Rd m z0 z1 1 (List.length z2) (List.map (eN .u8) z2)
abbrev KZ(z0)(z1){β2:Type}(z2:WB β2):=Pc.obj z0 (.cells [.slice z1 (List.length z2) (List.length z2),.slice none 0 0] .own)
abbrev Oq(z0)(z1)(z2)(z3)(z4):=Value.agg #[.int .i64 z0,.int .i64 z1,.int .i64 z2,.int .i64 z3,.int .i64 z4]
abbrev DV(z0):=Pc.obj z0 (.cells [.int .i64 10] .own)
abbrev QS(z0){β1:Type}(z1:WB β1):=Pc.arr z0 1 (((List.length z1):Int).toNat) ((List.replicate ((List.length z1):Int).toNat (false:Bool)).map (eB)) .own
abbrev EH(z0):=Pc.obj z0 (.cells [.int .i64 5] .own)
abbrev DJ(z0)(z1)(z2):=Pc.sl z0 1 z1 (List.map (eI .i64) z2)
abbrev EA(z0):=Value.slice (some ⟨z0,0,none⟩) 3 3
abbrev Ge(z0):=Pc.obj z0 (.cells [.int .i64 7] .own)
abbrev IS(z0):=Pc.obj z0 (.cells [.int .i64 8] .own)
abbrev H9(z0):=Pc.obj z0 (.cells [.int .i64 9] .own)
abbrev J9(z0):=Value.slice (some ⟨z0,0,none⟩) 12 12
abbrev fB{τ0:Type}(z0)(z1)(z2)(z3)(z4)(z5)(z6:WB τ0)(z7)(z8)(z9:Rep τ0)(z10)(z:WB Pc):=O3 z0 z1 z2 z3 z4 z5 z6 z7::iq z1 z3 z2::Qh z4 z5 z6 z8::jH z9 z10 z6 z8::Sl z4 z5 z7 z6 z8::z
abbrev cV{τ0:Type}(z0)(z1)(z2)(z3)(z4)(z5:WB τ0)(z6)(z7)(z8:Rep τ0)(z9)(z:WB Pc):=E8 z0 z1 z2 z3 z4 z5 z6::iq z1 z3 z2::ko z4 z6 z5 z7::jH z8 z9 z5 z7::z
abbrev jl{τ0:Type}(z0)(z1)(z2:WB τ0)(z3)(z4:Rep τ0)(z5)(z6)(z:WB Pc):=RH z0 z1 z2 z3::jH z4 z5 z2 z3::R1 z0 z1 z6 z2 z3::z
abbrev sd(z0)(z1)(z2)(z3)(z4)(z:WB Pc):=fU z0 z1 z2 z3 z4::Eh z1 z2 z3::Ee z1 z2 z4 z3::z
abbrev vF{τ0:Type}(z0)(z1)(z2)(z3)(z4:WB τ0)(z5)(z6:Rep τ0)(z7)(z:WB Pc):=sG z0 z1 z2 z3 z4::iO z1 z2::lC z3 z4 z5::jH z6 z7 z4 z5::z
abbrev rJ{τ0:Type}(z0)(z1)(z2:WB τ0)(z3)(z4:Rep τ0)(z5)(z6)(z:WB Pc):=Qh z0 z1 z2 z3::jH z4 z5 z2 z3::Sl z0 z1 z6 z2 z3::z
abbrev sq{τ0:Type}(z0)(z1)(z2:WB τ0)(z3)(z4)(z:Fs):=(10,nQ z0 z1 z2 z3)::(11,dh z2)::(12,aN z4)::z
abbrev pb(z0)(z1)(z2)(z3)(z:WB Pc):=RU z0 z1 z2::RY z0 z1 z3 z2::z
abbrev rM(z0)(z1)(z:Fs):=(2,ptr z0 0)::(3,ptr z1 0)::z
abbrev MH(z0)(z1)(z2)(z3)(z4)(z:Fs):=(1,ptr z0 0)::(2,ptr z1 0)::(3,aN z2)::(4,aN z3)::(5,ptr z4 0)::z
abbrev uH{τ0:Type}(z0)(z1)(z2:WB τ0)(z3)(z4)(z:Fs):=(18,nQ z0 z1 z2 z3)::(19,dh z2)::(20,aN z4)::z
abbrev fL{τ0:Type}(z0)(z1)(z2:WB τ0)(z3)(z4:Rep τ0)(z5)(z:WB Pc):=Lc z0 z1 z2 z3::jH z4 z5 z2 z3::z
abbrev Ad{τ0:Type}{τ1:Type}(z0)(z1)(z2:WB τ0)(z3)(z4:WB τ1)(z5)(z:Fs):=(1,ptr z0 0)::(8,bP z1 z2)::(9,PB z3 z4)::(10,PB z5 z4)::z
abbrev uJ(z0)(z1)(z2)(z3)(z4)(z5)(z6)(z:WB Pc):=uS z0 z1 z2 z3::iq z1 z3 z2::df z4::df z5::fD z6 z2::z
abbrev q9(z0)(z1)(z2)(z3)(z4)(z:WB Pc):=df z0::df z1::Bz z2 z3 z4::iu z3 z4::z
abbrev xz(z0)(z1)(z2)(z3)(z4)(z5)(z6)(z7)(z8)(z9)(z10)(z:WB Pc):=Rs z0 z1 z2 z3 z4 z5 z6 z7 z8 z9::KR z3 z5 z4::KR z6 z8 z7::ji z10::z
abbrev Au{τ0:Type}(z0)(z1:WB τ0)(z2)(z3)(z:Fs):=(10,bj z0 z1 z2)::(11,dh z1)::(12,aN z3)::z
abbrev nS{τ0:Type}(z0)(z1)(z2:WB τ0)(z:Fs):=(1,ptr z0 0)::(4,bP z1 z2)::z
abbrev Ei(z0)(z1)(z2)(z3)(z4)(z5)(z6)(z7)(z:WB Pc):=uS z0 z1 z2 z3::iq z1 z3 z2::uS z4 z1 z2 z3::df z5::df z6::fD z7 z2::z
abbrev re{τ0:Type}(z0)(z1:WB τ0)(z2)(z:Fs):=(0,bj z0 z1 z2)::(4,dh z1)::z
abbrev Al{τ0:Type}(z0)(z1:WB τ0)(z2)(z3)(z:Fs):=(7,bj z0 z1 z2)::(8,dh z1)::(9,aN z3)::z
abbrev q6{τ0:Type}(z0)(z1)(z2)(z3)(z4)(z5)(z6:WB τ0)(z7)(z8)(z9)(z:WB Pc):=O3 z0 z1 z2 z3 z4 z5 z6 z7::iq z1 z3 z2::df z8::df z9::z
abbrev ba:Rep (WB Int):=(rS (eI .i64) 1)
abbrev aj:Rep (WB Int×Vo):=(rP (rS (eI .i64) 1) (rL ba))
def JP:(We p q).P.underlying 123=some (.array 2 3):=by kernel_rfl
def bS:TyI (We p q).P 3 false 1:=⟨by kernel_rfl,by kernel_rfl,by kernel_rfl⟩
instance:TyC (We p q).P 3 false 1:=⟨bS⟩
def u3:(We p q).P.underlying 3=some (.int .i64):=by kernel_rfl
def z117:bw (We p q).P 117=some (.map none):=by kernel_rfl
def Mu:TyI (We p q).P 117 false 1:=⟨by kernel_rfl,by kernel_rfl,by kernel_rfl⟩
instance:TyC (We p q).P 117 false 1:=⟨Mu⟩
def fG:TyI (We p q).P 26 true 2:=⟨by kernel_rfl,by kernel_rfl,by kernel_rfl⟩
instance:TyC (We p q).P 26 true 2:=⟨fG⟩
def mN:∀b o,aE (We p q).P 26 (ptr b o) 1=some (ptr b (o+1)):=fun _ _=>by kernel_rfl
instance:FaC (We p q).P 26 1 1:=⟨mN⟩
def yn:TyI (We p q).P 24 false 1:=⟨by kernel_rfl,by kernel_rfl,by kernel_rfl⟩
instance:TyC (We p q).P 24 false 1:=⟨yn⟩
def EV:(We p q).P.underlying 24=some (.slice 31):=by kernel_rfl
instance:UsC (We p q).P 24 31:=⟨EV⟩
def jQ:SlT (We p q).P 24 31 2:=SlT.of (by kernel_rfl)
instance:SlC (We p q).P 24 31 2:=⟨jQ⟩
def HH:TyI (We p q).P 31 true 2:=⟨by kernel_rfl,by kernel_rfl,by kernel_rfl⟩
instance:TyC (We p q).P 31 true 2:=⟨HH⟩
def z31:bw (We p q).P 31=some (.agg #[.slice none 0 0,.slice none 0 0]):=by kernel_rfl
def eL:∀b o,aE (We p q).P 31 (ptr b o) 0=some (ptr b (o+0)):=fun _ _=>by kernel_rfl
instance:FaC (We p q).P 31 0 0:=⟨eL⟩
def jm:TyI (We p q).P 28 false 1:=⟨by kernel_rfl,by kernel_rfl,by kernel_rfl⟩
instance:TyC (We p q).P 28 false 1:=⟨jm⟩
def z28:bw (We p q).P 28=some (.slice none 0 0):=by kernel_rfl
def eE:∀b o,aE (We p q).P 31 (ptr b o) 1=some (ptr b (o+1)):=fun _ _=>by kernel_rfl
instance:FaC (We p q).P 31 1 1:=⟨eE⟩
def kX:TyI (We p q).P 29 false 1:=⟨by kernel_rfl,by kernel_rfl,by kernel_rfl⟩
instance:TyC (We p q).P 29 false 1:=⟨kX⟩
def Sy:bw (We p q).P 29=some (.slice none 0 0):=by kernel_rfl
abbrev wV:Rep (Vo):=(rL ba)
def RN:(We p q).P.underlying 144=some (.slice 29):=by kernel_rfl
instance:UsC (We p q).P 144 29:=⟨RN⟩
def MS:SlT (We p q).P 144 29 1:=SlT.of (by kernel_rfl)
instance:SlC (We p q).P 144 29 1:=⟨MS⟩
def E6:(We p q).P.underlying 29=some (.slice 28):=by kernel_rfl
instance:UsC (We p q).P 29 28:=⟨E6⟩
def lu:SlT (We p q).P 29 28 1:=SlT.of (by kernel_rfl)
instance:SlC (We p q).P 29 28 1:=⟨lu⟩
def Kq:(We p q).P.underlying 28=some (.slice 3):=by kernel_rfl
instance:UsC (We p q).P 28 3:=⟨Kq⟩
def fa:SlT (We p q).P 28 3 1:=SlT.of (by kernel_rfl)
instance:SlC (We p q).P 28 3 1:=⟨fa⟩
def q7:bw (We p q).P 122=some (.agg #[.int .i64 0,.int .i64 0,.int .i64 0,.int .i64 0]):=by kernel_rfl
def AU:BdT (We p q).P 122 (.agg #[.int .i64 0,.int .i64 0,.int .i64 0,.int .i64 0]) [(0,1),(1,1),(2,1),(3,1)]:=.mk' (by kernel_rfl) (by kernel_rfl)
def Jj:TyI (We p q).P 122 true 4:=⟨by kernel_rfl,by kernel_rfl,by kernel_rfl⟩
instance:TyC (We p q).P 122 true 4:=⟨Jj⟩
def wE:∀b o,aE (We p q).P 122 (ptr b o) 0=some (ptr b (o+0)):=fun _ _=>by kernel_rfl
instance:FaC (We p q).P 122 0 0:=⟨wE⟩
def wW:∀b o,aE (We p q).P 122 (ptr b o) 1=some (ptr b (o+1)):=fun _ _=>by kernel_rfl
instance:FaC (We p q).P 122 1 1:=⟨wW⟩
def Kz:bw (We p q).P 123=some (.agg #[.int .i64 0,.int .i64 0]):=by kernel_rfl
def Ho:BdT (We p q).P 123 (.agg #[.int .i64 0,.int .i64 0]) [(0,1),(1,1)]:=.mk' (by kernel_rfl) (by kernel_rfl)
def Qo:TyI (We p q).P 123 true 2:=⟨by kernel_rfl,by kernel_rfl,by kernel_rfl⟩
instance:TyC (We p q).P 123 true 2:=⟨Qo⟩
def OS:(We p q).P.underlying 117=some (.map 123 64):=by kernel_rfl
def z64:bw (We p q).P 64=some (.agg #[.int .i64 0,.int .i64 0,.int .i64 0,.int .i64 0]):=by kernel_rfl
def Np:TyI (We p q).P 64 true 4:=⟨by kernel_rfl,by kernel_rfl,by kernel_rfl⟩
instance:TyC (We p q).P 64 true 4:=⟨Np⟩
def PC:ArT (We p q).P 123 3 2 1:=⟨by kernel_rfl,by kernel_rfl,by kernel_rfl⟩
instance:ArC (We p q).P 123 3 2 1:=⟨PC⟩
def xx:BdT (We p q).P 64 (.agg #[.int .i64 0,.int .i64 0,.int .i64 0,.int .i64 0]) [(0,1),(1,1),(2,1),(3,1)]:=.mk' (by kernel_rfl) (by kernel_rfl)
def nE:∀b o,aE (We p q).P 122 (ptr b o) 2=some (ptr b (o+2)):=fun _ _=>by kernel_rfl
instance:FaC (We p q).P 122 2 2:=⟨nE⟩
def Nq:∀b o,aE (We p q).P 64 (ptr b o) 2=some (ptr b (o+2)):=fun _ _=>by kernel_rfl
instance:FaC (We p q).P 64 2 2:=⟨Nq⟩
def OZ:∀b o,aE (We p q).P 64 (ptr b o) 3=some (ptr b (o+3)):=fun _ _=>by kernel_rfl
instance:FaC (We p q).P 64 3 3:=⟨OZ⟩
def M4{n l1 a0 c0}{r0:Vr}{e0:Vp}{r}(hF:Rh n l1=some r)(m){H:Vr}(hH:∀b,H b->b<m.next)(h5:Rd m a0 c0 1 l1.length e0)(h6:∀b,kz a0=some b->¬H b)(h7:(bY wV r0 l1 e0).P m)(h8:∀b,r0 b->¬H b):
 aG (We p q) 94 [bj a0 l1 c0] m (fun v m'=>∃x:Vq×Nat×Nat×Vp ×(Nat->Prop),v=.slice x.1 x.2.2.1 x.2.1/\Hp m m' [.rd x.1 x.2.1 1 x.2.2.1 x.2.2.2.1,.gen (bY ba x.2.2.2.2 r x.2.2.2.1),ei H]):=by
 unfold Rh at hF;refine cw Tryz.func94 (Hp.CF (l0:=[Lc a0 c0 l1 e0]) (Hp.mR (l0:=[]) (Hp.qp m hH) bX h5 h6) (bU bX) h7 h8) ?_;refine dM ?_;refine VE ?_;obtain⟨v0,h0,hF⟩:=J hF;refine ct (fun v0 (_:WC)=>⟨(.exit 0),[(0,bj a0 l1 c0),(3,aN v0)],(fL a0 c0 l1 e0 wV r0 [ei H])⟩) v0 ?_ ?_;refine lo h0 () [1,0,2] (fun(v1,v2) _=>⟨.normal,[(0,bj a0 l1 c0),(3,aN v1),(9,bj a0 l1 c0),(10,dh l1),(11,aN v2)],(fL a0 c0 l1 e0 wV r0 [ei H])⟩) ?_;clear hF h0;rintro⟨v1,v2⟩ ⟨⟩ r hF;unfold pC at hF;refine wz ?_;refine VD ?_;rcases aa hF with⟨h9,hF⟩|⟨h9,hF⟩;refine an ?_;obtain⟨h10,hF⟩:=bE hF;refine VO (k:=0) rfl (aC h10) ?_;rintro b1 o1 rfl;refine wz ?_;obtain⟨l7,h11,hF⟩:=J hF;refine wl 1 0 2 0 h11 ?_;rintro⟨a6,c6,e7⟩;refine dM ?_;rcases aa hF with⟨h3,hF⟩|⟨h3,hF⟩;refine VZ rfl h3 ?_;cases hF;refine an ?_;cases hF;exact ae () [3,4,5];refine wz ?_;cases hF;exact ae () [0,1,2];rintro⟨⟩;refine an ?_;obtain⟨l2,h12,hF⟩:=J hF;refine wq (fun l2 ((a1,c1,e3,r1):Vq×Nat×Vp ×(Nat->Prop))=>(.slice a1 l2.length c1,(.gen (nO a1 c1 1 l2.length e3)::jH ba r1 l2 e3::fL a0 c0 l1 e0 wV r0 [ei H]))) l2 (fun m hm=>?_) ?_;clear hF;revert l2;intro r hF;refine aW (N:=27) (rs:=[.tmp 4]) rfl Tryz.func122 rfl rfl rfl hm ?_;refine an ?_;rcases aa hF with⟨h4,hF⟩|⟨h4,hF⟩;refine VZ rfl h4 ?_;cases hF;refine wz ?_;refine VD ?_;obtain⟨l3,h13,hF⟩:=J hF;refine ct (fun l3 ((a2,c2,e4,r3):Vq×Nat×Vp ×(Nat->Prop))=>⟨.normal,[(0,bj a2 l3 c2)],(.gen (nO a2 c2 1 l3.length e4)::jH ba r3 l3 e4::fL a0 c0 l1 e0 wV r0 [ei H])⟩) l3 ?_ ?_;clear hF;revert l3;intro r hF;refine wz ?_;refine VB (Mv E6 rfl) rfl ?_;refine an ?_;rcases aa hF with⟨h14,hF⟩|⟨h14,hF⟩;refine wz ?_;refine VB (Mv E6 rfl) rfl<|VB (Q9 lu rfl rfl (.inr ⟨_,rfl⟩)) rfl ?_;refine wz ?_;obtain⟨h15,hF⟩:=aB hF;obtain⟨h16,hF⟩:=aB hF;refine VL (Nf (g:=fun e:WB Vs=>e) (z0:=[.slice none 0 0]) lu u3 rfl h15 h16 z28 rfl rfl) gn rfl fun b0=>?_;refine Wo.dp (r:=ba) (L:=(List.replicate (Vx (v0-(Vx (0-0)))).toNat ([]:WB Int))) (es:=((List.replicate (Vx (v0-(Vx (0-0)))).toNat [.slice none 0 0]).map fun e=>e)) (gX.rep (r:=ba) (z:=[]) (g:=(none,0)) Lf.s0 _) ?_;intro r6;refine VB (aK rfl) rfl<|VB (jU (k:=0) E6 rfl rfl (.inr rfl)) rfl ?_;obtain⟨h17,hF⟩:=aB hF;obtain⟨h1,hF⟩:=aB hF;replace h1:=of_decide_eq_true h1;refine VK (ah.close (k:=1) rfl)<|VK (ah.yf (k:=1) rfl)<|VM (Ng (r:=ba) (k:=1) (q:=0) (hi:=0) lu rfl rfl rfl rfl h17 h1) gn rfl ?_;refine wz ?_;cases hF;exact ae ((some ⟨b0,0,none⟩),(Vx (v0-(Vx (0-0)))).toNat,(((List.replicate (Vx (v0-(Vx (0-0)))).toNat [.slice none 0 0]).map fun e=>e).take Vy),r6) [1,0,2,3,4];refine wz ?_;cases hF;exact aT (none,0,[],(fun _=>False)) (ah.trans (ah.nil 1 rfl) (ah.trans (ah.yf (k:=0) rfl) (ah.trans (ah.F1 (r:=ba)) (ah.aq [1,0,2,3,4] rfl rfl))));rintro⟨a2,c2,e4,r3⟩;refine dM ?_;obtain rfl:=SX hF;exact ar (a2,c2,e4,r3) (V5 0 5);rintro⟨a1,c1,e3,r1⟩;refine an ?_;refine VE ?_;obtain⟨l4,h2,hF⟩:=J hF;refine ct (fun l4 ((a3,c3,e5,r4):Vq×Nat×Vp ×(Nat->Prop))=>⟨(.exit 2),[(6,bj a3 l4 c3)],[.gen (nO a3 c3 1 l4.length e5),jH ba r4 l4 e5,ei H]⟩) l4 ?_ ?_;refine lo h2 (a1,c1,e3,r1) [0,1,2,3,4] (fun(l5,v3) ((a4,c4,e1,r5):Vq×Nat×Vp ×(Nat->Prop))=>⟨.normal,[(6,bj a4 l5 c4),(25,bj a0 l1 c0),(26,dh l1),(27,aN v3)],(.gen (nO a4 c4 1 l5.length e1)::jH ba r5 l5 e1::fL a0 c0 l1 e0 wV r0 [ei H])⟩) ?_;clear hF h2;rintro⟨l5,v3⟩ ⟨a4,c4,e1,r5⟩ r hF;unfold ph at hF;refine wz ?_;refine VD ?_;rcases aa hF with⟨h18,hF⟩|⟨h18,hF⟩;refine an ?_;obtain⟨h19,hF⟩:=bE hF;refine VO (k:=2) rfl (aC h19) ?_;rintro b2 o2 rfl;refine wz ?_;obtain⟨l6,h20,hF⟩:=J hF;refine wl 1 0 4 0 h20 ?_;rintro⟨a7,c7,e6⟩;refine an ?_;obtain⟨h21,hF⟩:=aB hF;refine VL (MU (r:=ba) (k:=3) (q:=4) (q2:=1) (L:=l5) (L':=l6) lu ⟨_,E6⟩ rfl rfl rfl rfl (fun m hm=>hm.q 0) rfl rfl h21) gn rfl ?_;rintro⟨a5,c5,r7⟩;refine an ?_;cases hF;exact ae (a5,c5,(e1++e6),r7) [3,4,5,6,7];refine wz ?_;cases hF;exact ae (a4,c4,e1,r5) [0,1,4];rintro⟨a3,c3,e5,r4⟩;refine dM ?_;obtain rfl:=SX hF;exact VQ (.tmp rfl .nil) fun m' hm=>⟨(a3,c3,l4.length,e5,r4),rfl,(ah.trans (ah.GP (k:=0) rfl) (ah.aq [0,1,2] rfl rfl)) m' hm⟩
def jW{n l1 l2 a0 c0 a1 c1}{r0:Vr}{e0:Vp}{r}(hF:Bv n l1 l2=some r)(m){H:Vr}(hH:∀b,H b->b<m.next)(h0:rh m a0 c0 l1)(h1:∀b,kz a0=some b->¬H b)(h2:Rd m a1 c1 1 l2.length e0)(h3:∀b,kz a1=some b->¬H b)(h4:(bY ba r0 l2 e0).P m)(h5:∀b,r0 b->¬H b):
 aG (We p q) 54 [eu a0 l1 c0 a1 l2 c1] m (fun v m'=>∃x:Vq×Nat×Nat×Vp ×(Nat->Prop),v=.slice x.1 x.2.2.1 x.2.1/\Hp m m' [.rd x.1 x.2.1 1 x.2.2.1 x.2.2.2.1,.gen (bY ba x.2.2.2.2 r x.2.2.2.1),ei H]):=by
 unfold Bv at hF;refine cw Tryz.func54 (Hp.CF (l0:=[Lc a1 c1 l2 e0,lp a0 c0 l1]) (Hp.mR (l0:=[lp a0 c0 l1]) (Hp.mR (l0:=[]) (Hp.qp m hH) bX h0 h1) (bU bX) h2 h3) (bU (bU bX)) h4 h5) ?_;refine wz ?_;refine wb fun b1=>?_;refine an ?_;refine VL (cn (es:=[[bj a0 l1 c0]]) lu rfl (cm lu z28 rfl rfl) rfl rfl) gn rfl fun b0=>?_;refine Wo.dp (r:=ba) (L:=([l1]:Vo)) (es:=[[bj a0 l1 c0]]) (gX.cons (r:=ba) (z:=l1) (g:=(a0,c0)) (Lf.s (k:=4) rfl) gX.nil) ?_;intro r3;refine VB (aM (r:=ptr b1 1) rfl (eE _ _)) rfl<|VB (aH (k:=2) kX rfl rfl rfl) rfl<|VK (ah.close (k:=1) rfl)<|VK (ah.freeze (k:=1) rfl)<|VL (cn (es:=[[lG b0],[bj a1 l2 c1]]) MS rfl (cm MS Sy rfl rfl) rfl rfl) gn rfl fun b2=>?_;refine Wo.dp (r:=wV) (L:=([[l1],l2]:WB (Vo))) (es:=[[lG b0],[bj a1 l2 c1]]) (gX.cons (r:=wV) (z:=[l1]) (g:=((some ⟨b0,0,none⟩),1,[[bj a0 l1 c0]])) (Lf.l (k:=2) (q:=1) rfl rfl rfl) (gX.cons (r:=wV) (z:=l2) (g:=(a1,c1,e0)) (Lf.l (k:=5) (q:=4) rfl rfl rfl) gX.nil)) ?_;intro r4;obtain⟨l3,h6,hF⟩:=J hF;refine VK (ah.close (k:=1) rfl)<|VK (ah.freeze (k:=1) rfl)<|yU gn (fun m hm=>M4 h6 m hm.cS (hm.q 1) (hm.no 1) (hm.dp (q:=0) rfl) (hm.ep (q:=0) rfl)) ?_;rintro⟨a2,c2,n0,e1,r1⟩;refine V2 (k:=0) (q:=1) (L:=l3) rfl (.inr (.inl ⟨_,rfl⟩)) rfl ?_;rintro rfl;refine an ?_;obtain rfl:=SX hF;exact ar (a2,c2,l3.length,e1,r1) [0,1,10]
def LS(hE:EnvOk (We p q))(n:Nat)(l6:Vn)(l1:Vl)(a1:Vq)(c3:Nat)(a0:Vq)(c0:Nat)(r0:Vr)(e0:Vp)(r:WB ((Int×Int) ×(Vm)))(hF:Hh n l6 l1=some r)(m:Wb)(h23:dZ m a1 c3 l6)(h24:fN m a0 c0 l1 e0)(h25:(bY aj r0 l1 e0).P m){R:Vs->Wb->Prop}(kN:∀g:Nat×Nat,Vk (We p q) 66 65 none (QQ 4 (mO Tryz.f65)) (jy (We p q) [.tmp 2] R) m ((fun(r:WB ((Int×Int) ×(Vm))) (g:Nat×Nat)=>match r,g with|l13,(b8,b9)=>([(3,ptr b8 0),(8,.slice none 0 0)]:Fs)) r g) ((fun(r:WB ((Int×Int) ×(Vm))) (g:Nat×Nat)=>match r,g with|l13,(b8,b9)=>([eD b8 b9,.obj b9 (.map (l13.map (eM (fun p:Int×Int=>.agg #[.int .i64 p.1,.int .i64 p.2]) (fun x:Vm=>.agg #[.int .i64 x.1,.int .i64 x.2.1,.int .i64 x.2.2.1,.int .i64 x.2.2.2]))))]:WB Pc)) r g)) :
 Vk (We p q) 66 65 none (mO Tryz.f65) (jy (We p q) [.tmp 2] R) m (nX [eu a1 l6 c3 a0 l1 c0] 0 []) [jH aj r0 l1 e0,ko a0 c0 l1 e0,iq a1 c3 l6]:=by
 unfold Hh at hF;refine Vk.seq hE<|VF<|wb fun b13=>?_;refine wz ?_;refine At.IF<|Vk.seq hE<|VF<|VL HI gn rfl fun b0=>?_;refine wa z117 fun b1=>?_;refine wz ?_;refine At.IF<|Vk.seq hE ?_;refine wz ?_;obtain⟨l7,h4,hF⟩:=J hF;refine wq (fun l7 (b10:Nat)=>(.func (.func 126) #[] #[ptr b10 0],(cV b10 a1 l6 c3 a0 l1 c0 e0 aj r0 [eD b1 b0,.obj b0 (.map (l7.map (eM (fun p:Int×Int=>.agg #[.int .i64 p.1,.int .i64 p.2]) (fun x:Vm=>.agg #[.int .i64 x.1,.int .i64 x.2.1,.int .i64 x.2.2.1,.int .i64 x.2.2.2]))))]))) l7 (fun m hm=>?_) ?_;clear hF;revert l7;intro r hF;refine aW (N:=4) (rs:=[.tmp 2]) rfl Tryz.func103 rfl rfl rfl hm ?_;refine wz ?_;refine wb fun b11=>?_;refine an ?_;refine VB (jY rfl rfl) rfl ?_;refine an ?_;cases hF;exact ar b11 [0,6,5,4,1,2];rintro b10;refine wz ?_;refine VE ?_;obtain⟨l8,h5,hF⟩:=J hF;refine Wk.range (N:=50) (rs:=[]) (γ:=WC) (X:=fun g=>(fun(r:WB ((Int×Int) ×(Vm))) (g:WC)=>(match r,g with|l8,_=>⟨.ready,none,[eD b1 b0,.obj b0 (.map (l8.map (eM (fun p:Int×Int=>.agg #[.int .i64 p.1,.int .i64 p.2]) (fun x:Vm=>.agg #[.int .i64 x.1,.int .i64 x.2.1,.int .i64 x.2.2.1,.int .i64 x.2.2.2]))))]⟩:Rn)) l8 g) rfl rfl Tryz.func126 rfl rfl rfl ?_ (fun y=>by intro e; cases e) ?_
 clear hF;revert l8;intro r hF;intro t0 l2 r1 h6 h7;refine wz ?_;refine VE ?_;obtain⟨l10,h0,hF⟩:=J hF;refine ct (fun l10 (_:WC)=>⟨(.exit 0),[],[.obj l2 (r1 .ready none),eD b1 b0,.obj b0 (.map (l10.map (eM (fun p:Int×Int=>.agg #[.int .i64 p.1,.int .i64 p.2]) (fun x:Vm=>.agg #[.int .i64 x.1,.int .i64 x.2.1,.int .i64 x.2.2.1,.int .i64 x.2.2.2]))))]⟩) l10 ?_ ?_;refine lo h0 () [0,3,4,5,6] (fun(v0,l14) _=>⟨.normal,((0,.func (.yield l2) #[] #[])::Au a0 l1 c0 v0 []),[.obj l2 (r1 .ready none),ko a0 c0 l1 e0,jH aj r0 l1 e0,eD b1 b0,.obj b0 (.map (l14.map (eM (fun p:Int×Int=>.agg #[.int .i64 p.1,.int .i64 p.2]) (fun x:Vm=>.agg #[.int .i64 x.1,.int .i64 x.2.1,.int .i64 x.2.2.1,.int .i64 x.2.2.2]))))]⟩) ?_;clear hF h0;rintro⟨v0,l14⟩ ⟨⟩ r hF;unfold vH at hF;refine wz ?_;refine VD ?_;rcases aa hF with⟨h8,hF⟩|⟨h8,hF⟩;refine an ?_;obtain⟨h9,hF⟩:=bE hF;refine VO (k:=1) rfl (aC h9) ?_;rintro b2 o1 rfl;refine wz ?_;obtain⟨⟨l16,l17⟩,h10,hF⟩:=J hF;refine wl 2 0 3 0 h10 ?_;rintro⟨⟨a4,c4⟩,⟨a5,c5,e3⟩⟩;refine wa z31 fun b14=>?_;refine an ?_;obtain⟨l3,h11,hF⟩:=J hF;refine yU gn (fun m hm=>jW h11 m hm.cS (hm.q 1) (hm.no 1) (hm.q 2) (hm.no 2) (hm.dp (q:=3) rfl) (hm.ep (q:=3) rfl)) ?_;rintro⟨a3,c1,n0,e1,r3⟩;refine V2 (k:=0) (q:=1) (L:=l3) rfl (.inr (.inl ⟨_,rfl⟩)) rfl ?_;rintro rfl;refine wz ?_;refine VE ?_;obtain⟨l11,h1,hF⟩:=J hF;refine ct (fun l11 (_:WC)=>⟨(.exit 2),((0,.func (.yield l2) #[] #[])::sq b2 o1 l1 c0 v0 []),(.obj l2 (r1 .ready none)::rJ b2 o1 l1 e0 aj r0 c0 [eD b1 b0,.obj b0 (.map (l11.map (eM (fun p:Int×Int=>.agg #[.int .i64 p.1,.int .i64 p.2]) (fun x:Vm=>.agg #[.int .i64 x.1,.int .i64 x.2.1,.int .i64 x.2.2.1,.int .i64 x.2.2.2]))))])⟩) l11 ?_ ?_;refine lo h1 () [7,6,9,8,0,1,10,11] (fun(v1,l15) _=>⟨.normal,((0,.func (.yield l2) #[] #[])::(3,aN v0)::sq b2 o1 l1 c0 v0 [(18,bj a3 l3 c1),(19,dh l3),(20,aN v1)]),(.obj l2 (r1 .ready none)::rJ b2 o1 l1 e0 aj r0 c0 (fL a3 c1 l3 e1 ba r3 [eD b1 b0,.obj b0 (.map (l15.map (eM (fun p:Int×Int=>.agg #[.int .i64 p.1,.int .i64 p.2]) (fun x:Vm=>.agg #[.int .i64 x.1,.int .i64 x.2.1,.int .i64 x.2.2.1,.int .i64 x.2.2.2]))))]))⟩) ?_;clear hF h1;rintro⟨v1,l15⟩ ⟨⟩ r hF;unfold vl at hF;refine wz ?_;refine VD ?_;rcases aa hF with⟨h12,hF⟩|⟨h12,hF⟩;refine an ?_;obtain⟨h13,hF⟩:=bE hF;refine VO (k:=4) rfl (aC h13) ?_;rintro b3 o2 rfl;refine wz ?_;obtain⟨l4,h14,hF⟩:=J hF;refine wl 1 0 6 0 h14 ?_;rintro⟨a2,c2⟩;refine an ?_;refine VE ?_;obtain⟨l12,h2,hF⟩:=J hF;refine ct (fun l12 (_:WC)=>⟨(.exit 4),((0,.func (.yield l2) #[] #[])::(3,aN v0)::sq b2 o1 l1 c0 v0 (uH b3 o2 l3 c1 v1 [])),(.obj l2 (r1 .ready none)::rJ b2 o1 l1 e0 aj r0 c0 (jl b3 o2 l3 e1 ba r3 c1 [eD b1 b0,.obj b0 (.map (l12.map (eM (fun p:Int×Int=>.agg #[.int .i64 p.1,.int .i64 p.2]) (fun x:Vm=>.agg #[.int .i64 x.1,.int .i64 x.2.1,.int .i64 x.2.2.1,.int .i64 x.2.2.2]))))]))⟩) l12 ?_ ?_;refine lo h2 () [2,0,3,4,5,1,7,6,8,9] (fun(v6,l5) _=>⟨.normal,((0,.func (.yield l2) #[] #[])::(3,aN v0)::(5,aN v1)::(6,bj a2 l4 c2)::sq b2 o1 l1 c0 v0 (uH b3 o2 l3 c1 v1 [(25,bj a2 l4 c2),(26,dh l4),(27,aN v6)])),(.obj l2 (r1 .ready none)::lp a2 c2 l4::rJ b2 o1 l1 e0 aj r0 c0 (jl b3 o2 l3 e1 ba r3 c1 [eD b1 b0,.obj b0 (.map (l5.map (eM (fun p:Int×Int=>.agg #[.int .i64 p.1,.int .i64 p.2]) (fun x:Vm=>.agg #[.int .i64 x.1,.int .i64 x.2.1,.int .i64 x.2.2.1,.int .i64 x.2.2.2]))))]))⟩) ?_;clear hF h2;rintro⟨v6,l5⟩ ⟨⟩ r hF;unfold uY at hF;refine wz ?_;refine VD ?_;rcases aa hF with⟨h15,hF⟩|⟨h15,hF⟩;refine an ?_;obtain⟨h16,hF⟩:=bE hF;refine VO (k:=1) rfl (aC h16) ?_;rintro b5 o3 rfl;refine wz ?_;obtain⟨x3,h26,hF⟩:=J hF;refine an ?_;obtain⟨h17,hF⟩:=aB hF;refine VB (aJ rfl rfl (cg _ _ h17)) rfl ?_;obtain⟨h27,hF⟩:=bE hF;refine wz ?_;obtain⟨x4,h28,hF⟩:=J hF;refine wz ?_;refine VB (cL rfl q7 rfl (cJ AU rfl rfl rfl)) rfl ?_;obtain⟨l9,h3,hF⟩:=J hF;refine VL (yb (k:=1) (k1:=0) (γA:=Nat) (GA:=(fun g:Nat=>(match g with|b4=>⟨.normal,[(3,ptr b1 0),(4,ptr b4 0)],(.obj l2 (r1 .ready none)::eD b1 b0::.obj b0 (.map (l5.map (eM (fun p:Int×Int=>.agg #[.int .i64 p.1,.int .i64 p.2]) (fun x:Vm=>.agg #[.int .i64 x.1,.int .i64 x.2.1,.int .i64 x.2.2.1,.int .i64 x.2.2.2]))))::fF b4 x3 x4 v0 v1::pb b5 o3 l4 c2 (rJ b2 o1 l1 e0 aj r0 c0 (jl b3 o2 l3 e1 ba r3 c1 [])))⟩:En))) (γ:=WC) (G:=fun g=>(fun(r:WB ((Int×Int) ×(Vm))) (g:WC)=>(match r,g with|l9,_=>⟨.normal,[],(.obj l2 (r1 .busy none)::eD b1 b0::.obj b0 (.map (l9.map (eM (fun p:Int×Int=>.agg #[.int .i64 p.1,.int .i64 p.2]) (fun x:Vm=>.agg #[.int .i64 x.1,.int .i64 x.2.1,.int .i64 x.2.2.1,.int .i64 x.2.2.2]))))::pb b5 o3 l4 c2 (rJ b2 o1 l1 e0 aj r0 c0 (jl b3 o2 l3 e1 ba r3 c1 [])))⟩:En)) l9 g) rfl rfl rfl h7 h6 rfl ?_ (fun _=>rfl) (fun _=>rfl) ?_ (fun y=>rfl)) gn rfl ?_
 clear hF h3;refine VF<|wa q7 fun b12=>?_;refine wz ?_;exact ae b12 (2::10::11::0::1::V5 3 7);clear hF;revert l9;intro r hF;rintro b4;refine wz ?_;refine VB (fk rfl rfl (fY _ _)) rfl ?_;refine wz ?_;refine VB (fk rfl rfl (ku _ _)) rfl<|VB (cL rfl Kz rfl (cJ Ho rfl rfl rfl)) rfl<|wa Kz fun b6=>?_;refine an ?_;obtain⟨⟨⟨y0,y1,y2,y3⟩,y4⟩,h18,hF⟩:=J hF;refine VB (GJ (q:=3) (xs:=l5) (k:=(mi x3 x4,ma x3 x4)) (vE:=(fun x:Vm=>.agg #[.int .i64 x.1,.int .i64 x.2.1,.int .i64 x.2.2.1,.int .i64 x.2.2.2])) (z0:=((0:Int),(0:Int),(0:Int),(0:Int))) OS (J5 JP bS.known bS.size bS.agg u3) z64 rfl rfl rfl rfl h18) rfl ?_;refine wz ?_;refine wa z64 fun b7=>?_;refine wz ?_;refine VD ?_;obtain⟨r4,h19,hF⟩:=J hF;refine ct (fun(v2,v3,v7,v8) (_:WC)=>⟨.normal,[(3,ptr b1 0),(4,ptr b4 0),(5,ptr b6 0),(6,ptr b7 0)],(.obj l2 (r1 .busy none)::eD b1 b0::.obj b0 (.map (l5.map (eM (fun p:Int×Int=>.agg #[.int .i64 p.1,.int .i64 p.2]) (fun x:Vm=>.agg #[.int .i64 x.1,.int .i64 x.2.1,.int .i64 x.2.2.1,.int .i64 x.2.2.2]))))::fF b4 x3 x4 v0 v1::.obj b6 (.cells [.int .i64 (mi x3 x4),.int .i64 (ma x3 x4)] .own)::fF b7 v2 v3 v7 v8::pb b5 o3 l4 c2 (rJ b2 o1 l1 e0 aj r0 c0 (jl b3 o2 l3 e1 ba r3 c1 [])))⟩) r4 ?_ ?_;clear hF;revert r4;intro r hF;refine wz ?_;rcases aa hF with⟨h20,hF⟩|⟨h20,hF⟩;refine wz ?_;refine VB (cL rfl z64 rfl (cJ xx rfl rfl rfl)) rfl ?_;refine wz ?_;cases hF;exact ae () (2::3::4::5::1::0::V5 6 8);refine wz ?_;cases hF;exact ae () (2::3::4::5::1::0::V5 6 8);clear h19;obtain⟨v2,v3,v7,v8⟩:=r4;rintro⟨⟩;refine VI<|VD ?_;obtain⟨r5,h21,hF⟩:=J hF;refine ct (fun(v4,v5) (_:WC)=>⟨.normal,[(3,ptr b1 0),(4,ptr b4 0),(5,ptr b6 0),(6,ptr b7 0)],(.obj l2 (r1 .busy none)::eD b1 b0::.obj b0 (.map (l5.map (eM (fun p:Int×Int=>.agg #[.int .i64 p.1,.int .i64 p.2]) (fun x:Vm=>.agg #[.int .i64 x.1,.int .i64 x.2.1,.int .i64 x.2.2.1,.int .i64 x.2.2.2]))))::fF b4 x3 x4 v0 v1::.obj b6 (.cells [.int .i64 (mi x3 x4),.int .i64 (ma x3 x4)] .own)::fF b7 v2 v3 v4 v5::pb b5 o3 l4 c2 (rJ b2 o1 l1 e0 aj r0 c0 (jl b3 o2 l3 e1 ba r3 c1 [])))⟩) r5 ?_ ?_;clear hF;revert r5;intro r hF;refine wz ?_;rcases aa hF with⟨h22,hF⟩|⟨h22,hF⟩;refine wz ?_;cases hF;exact ae () (V5 0 14);refine wz ?_;cases hF;exact ae () (V5 0 14);clear h21;obtain⟨v4,v5⟩:=r5;rintro⟨⟩;refine an ?_;refine V0 (D9 (q:=2) (xs:=l5) (k:=(mi x3 x4,ma x3 x4)) (v:=(v2,v3,v4,v5)) (vE:=(fun x:Vm=>.agg #[.int .i64 x.1,.int .i64 x.2.1,.int .i64 x.2.2.1,.int .i64 x.2.2.2])) OS (J5 JP bS.known bS.size bS.agg u3) rfl rfl rfl rfl) ?_;refine wz ?_;cases hF;exact ae () (0::1::2::V5 6 8);rintro⟨⟩;refine dM ?_;cases hF;exact ae () [0,4,5,6,7,8,9,10,1,2];refine wz ?_;cases hF;exact ae () (0::V5 2 8);rintro⟨⟩;refine an ?_;cases hF;exact ae () [0,1,2,3,6,5,7,8];refine wz ?_;cases hF;exact ae () [0,1,2,3,6,7];rintro⟨⟩;refine an ?_;cases hF;exact ae () [0,3,2,4,5];refine wz ?_;cases hF;exact ae () [0,3,4];rintro⟨⟩;refine At.be ?_;obtain rfl:=SX hF;exact At.fin .nil fun m' hm=>⟨(),(ah.aq [0,1,2] rfl rfl) m' hm⟩;rintro⟨⟩
 change At _ .normal _ _ _
 refine At.bn<|At.IF<|Vk.seq hE ?_;refine wz ?_;refine At.IF ?_;cases hF;exact Vk.Jr (sc rfl (sc rfl sn)) (ah.aq [0,1] rfl rfl) (kN (b1,b0))
end Go.Proofs.YtmndpgfbkicndaaGreat
namespace Go.Ab
open Go
section
variable{E:Env}{j j1:aU}{m m1:Wb}{w w1:Vw}
def Sim.Mn(h:MR E j m w)(s:Sim E j { m with wl:=m.next} w j1 m1 w1)(g:Grown m m1){b1:Nat}{k1:Blk}{cs:WB Vs}{tag:Tag}(hb:m.next<=b1)(hk:j1 b1=some k1)(ho:m1.get b1=some (.cells cs tag))(hp:cs.all aP=true){k2:Blk}{tag2:Tag}(hc2:k2.c=k1.c)(htg:∀(c:WD Vs) (fz:Nat×Nat),pz k1 tag cs.length c fz->pz k2 tag2 cs.length c fz) :
  Sim E j m w (j.set m.next k2) (m.alloc (.cells cs tag2)) w1:=by
 have hn:j m.next=none:=h.mY
 have hj1:j b1=none:=by
  cases e:j b1 with
  | none=>rfl
  | some k=>exact Tj (h.lt b1 k e).1 (by omega)
 have hfresh:w.heap.size<=k1.c:=by
  rcases s.fresh b1 k1 hk hj1 with hf|⟨b0,k0,a1,_,_,a4⟩
  exact hf
  have:=(h.lt b0 k0 a1).1; have:=g.wl; omega
 refine⟨.alloc m _,aU.oM k2 hn,?_,?_,s.size,?_,?_,?_,fun c hc _=>s.old h g c hc,s.calm⟩
 intro b k e e'
 by_cases hbm:b=m.next
 omega
 rw[aU.cd _ _ hbm,e'] at e; cases e
 ·have ha:=h.after s g;refine⟨fun b k e=>?_,fun b o k ho' e=>?_,fun b b' k k' e e' hl hl' hc=>?_,fun gl hgl=>?_⟩
  by_cases hbm:b=m.next
  subst hbm; rw[aU.cu] at e; cases e;exact⟨UT _,hc2 ▸(s.mr.lt b1 k1 hk).2⟩
  rw[aU.cd _ _ hbm] at e;exact⟨Nat.lt_succ_of_lt (h.lt b k e).1,(ha.lt b k e).2⟩
  ·rw[Wb.aY] at ho'
   by_cases hbm:b=m.next
   ·subst hbm; rw[aU.cu] at e; cases e;rw[SU rfl] at ho'; cases ho';obtain⟨o',h1,h2⟩:=s.mr.obj b1 _ k1 ho hk;refine⟨o',hc2▸h1,?_⟩;cases o' with
    | cells c ty fz =>
     refine⟨htg _ _ h2.1,fun i v hi=>?_⟩;obtain⟨v',h3,h4⟩:=h2.2 i v hi;have hpv:=Tc.1 hp v (Td hi);have:=gi hpv h4;subst this;exact⟨_,h3,.aP hpv⟩
    | _=>exact h2.elim
   rw[SS hbm] at ho';rw[aU.cd _ _ hbm] at e;obtain⟨o',h1,h2⟩:=ha.obj b o k ho' e;exact⟨o',h1,h2.mono (aU.oM k2 hn)⟩
  have old:∀{b k},j b=some k->(m.get b).isSome=true->k.c≠k1.c:=fun{b k} e hl hc=>by
   have hlt:=(h.lt b k e).1;have:=s.mr.inj b b1 k k1 (s.le b k e) hk (by rw[g.same b hlt]; exact hl) (by rw[ho]; rfl) hc
   omega
  by_cases hbm:b=m.next
  by_cases hbm':b'=m.next
  rw[hbm,hbm']
  subst hbm; rw[aU.cu] at e; cases e;rw[aU.cd _ _ hbm'] at e';rw[Wb.aY,SS hbm'] at hl';exact Tj (hc.symm.trans hc2) (old e' hl')
  by_cases hbm':b'=m.next
  subst hbm'; rw[aU.cu] at e'; cases e';rw[aU.cd _ _ hbm] at e;rw[Wb.aY,SS hbm] at hl;exact Tj (hc.trans hc2) (old e hl)
  rw[aU.cd _ _ hbm] at e;rw[aU.cd _ _ hbm'] at e';rw[Wb.aY,SS hbm] at hl;rw[Wb.aY,SS hbm'] at hl';exact h.inj b b' k k' e e' hl hl' hc
  have:=h.glob gl hgl;have hlt:=(h.lt gl _ this).1;rw[aU.cd _ _ (by omega)]; exact this
 intro b hb1 hb2 _;have:b=m.next:=by simp at hb2; omega
 subst this; exact⟨k2,aU.cu _ _ _⟩
 intro b hb _;rw[Wb.aY,Vz]
 intro b k e e'
 by_cases hbm:b=m.next
 subst hbm; rw[aU.cu] at e; cases e;exact .inl (hc2▸hfresh)
 rw[aU.cd _ _ hbm,e'] at e; cases e
end
namespace W
def qT{E:Env}{f:WJ}{args:WB Vs}{m:Wb}{v:Vs}{m':Wb}(h:I1 E f args { m with wl:=m.next} fun v1 m1=>Grown m m1 /\
  ((bK v=true/\v1=v/\m'=m)\/∃b1 cs tag sz n,0<sz/\cs.length=n*sz/\n<=9223372036854775807/\v1=.slice (some ⟨b1,0,none⟩) n n/\v=.slice (some ⟨m.next,0,none⟩) n n/\m.next<=b1/\b1<m1.next/\m1.get b1=some (.cells cs tag)/\(tag=.own\/tag=.more sz)/\cs.all aP=true/\m'=m.alloc (.cells cs (.more sz)))) (pr:Bool) {j:aU} {w:Vw} {args':WB Vs} (hm:MR E j m w) (hl:LR j args args'):gV E.P pr f args'.toArray w (jt E j m w v m'):=by
 refine mH (fun h=>by cases h) (h j w args' (MR.vY hm) hl) ?_
 rintro v' w' ⟨v1,m1,⟨hg,hc⟩,j',s,hv⟩;rcases hc with⟨hpv,rfl,rfl⟩|⟨b1,cs,tag,sz,n,hsz,hcl,hn,rfl,rfl,hb,hb1,ho,htag,hpl,rfl⟩
 exact⟨j,Sim.forget hm s hg,VR.ET hpv hv⟩
 ·cases hv with
  | slice hj hmo =>
   rename_i k1;refine⟨_,Sim.Mn hm s hg hb hj ho hpl (k2:=⟨k1.c,some (sz,cs.length,cs.length)⟩) (tag2:=.more sz) rfl (fun c fz ht=>?_),.sliceM (k:=⟨k1.c,some (sz,cs.length,cs.length)⟩) (aU.cu _ _ _) rfl (by rw[hcl,Ui]) (by rw[hcl,Ui]) (S0 _) (S0 _)⟩
   rcases htag with rfl|rfl
   obtain⟨_,t2,rfl⟩:k1.more=none/\c.size=cs.length/\fz=(0,0):=ht;refine⟨by rw[t2],by rw[t2]; exact S0 _,rfl,hsz,?_⟩
   unfold iC;rw[t2,hcl,Nat.mul_comm]; exact Nat.mul_le_mul_left _ hn
   have:k1.more=some (sz,cs.length,c.size):=ht.1;rw[hmo] at this; cases this
  | sliceM hj hmo a1 a2 a3 a4 =>
   rename_i c' sz' na nc k1;refine⟨_,Sim.Mn hm s hg hb hj ho hpl (k2:=k1) (tag2:=.more sz) rfl (fun c fz ht=>?_),.sliceM (k:=k1) (aU.cu _ _ _) hmo a1 a2 a3 a4⟩;rcases htag with rfl|rfl
   have:k1.more=none:=ht.1;rw[hmo] at this; cases this
   exact ht
end W
end Go.Ab
namespace Go.Proofs.YtmndpgfbkicndaaGreat
section
open Go Go.Ab Go.Ab.W
set_option maxRecDepth 10000
def I8{m:Wb}{x b:Nat}:({ m with wl:=x}:Wb).get b=m.get b:=rfl
def Df{m:Wb}{x w c n:Nat}{a:Vq}{es:Vp}(h:Rd m a c w n es):Rd { m with wl:=x} a c w n es:=h
def Ml{m:Wb}{x:Nat}{R:Vr}{L:Vl}{es:Vp}(h:(bY aj R L es).P m):(bY aj R L es).P { m with wl:=x}:=h
attribute [local irreducible] Tm.at Trie.set Trie.get Wb.get Wb.set Wb.alloc Wb.ww Wb.kill
def tH(l:WB dy):((l.map fw).flatten).length=l.length*4:=by rw[cQ (w:=4) (fun e he=>by obtain⟨x,_,rfl⟩:=TS.1 he; rfl),To]
def IP{p q:WA Prim}{m0 m:Wb}{ps:WB Pc}(h:Hp m0 m ps){k nn:Nat}{a:Vq}{l:WB dy}(hp:pk ps k=some (.sl a 4 nn (l.map fw)))(hok:p7 l=true)(hlim:lim nn=true) :
    aG (We p q) 104 [.slice a nn nn,.func (.func 105) #[] #[]] m (fun v m'=>∃_:WC,v=.tuple #[]/\Hp m0 m' (bR ps k (.sl a 4 nn ((l.mergeSort eh).map fw)))):=by
  rcases h.get hp with⟨rfl,e2,rfl,_⟩|⟨b,tg,rfl,hO⟩
  have hl:l=[]:=UR.1 e2;subst hl;refine aG.dc (p:=⟨lh⟩) rfl (v:=.tuple #[]) (m':=m) rfl ⟨(),rfl,?_⟩;rw[List.mergeSort_nil,qz _ _ _ hp];exact h
  obtain⟨h1,h2,h3,h4,h5,h6,h7⟩:=hO;have hn:l.length=nn:=by simpa using h4
  subst hn;have hw:gW m 4 b l.length l.length=some ((l.map fw).flatten,tg):=by
    unfold gW;rcases h6 with rfl|rfl<;>simp only[h3]
    rw[SU ⟨trivial,tH _⟩]
    rw[SU ⟨trivial,tH _,trivial⟩]
  refine aG.dc (p:=⟨lh⟩) rfl (v:=.tuple #[]) (m':=m.set b (.cells ((l.mergeSort eh).map fw).flatten tg)) ?_ ⟨(),rfl,?_⟩
  show lh [.slice (some ⟨b,0,none⟩) l.length l.length,.func (.func 105) #[] #[]] m=_
  simp only[lh,hw,qJ];rw[SU ⟨⟨rfl,rfl⟩,hlim,hok⟩]
  refine h.write hp rfl rfl rfl rfl (.inr ⟨b,tg,rfl,h1,?_,?_,?_,?_,h6,h7⟩)
  rw[Wb.next_set]; exact h2
  rw[Wb.bC,SU rfl]
  simp
  intro e he;obtain⟨x,_,rfl⟩:=TS.1 he
  rfl
def lF(r:WB ((Int×Int)×dy))(S:WB Nat):WB dy:=S.filterMap fun i=>(r[i]?).map (·.2)
def qb{r:WB ((Int×Int)×dy)}{S:WB Nat}{i:Nat}{e:(Int×Int)×dy}(h:r[i]? = some e):lF r (S++[i])=lF r S++[e.2]:=by
  unfold lF;rw[List.filterMap_append];simp[h]
def N3:WB dy->Vq->Vq
  | [],_=>none
  | _::_,a=>a
def vW{l:WB dy}{x:dy}{a:Vq}:N3 (l++[x]) a=a:=by cases l<;>rfl
def IC{r:WB ((Int×Int)×dy)}{S:WB Nat}:(lF r S).length<=S.length:=List.length_filterMap_le _ _
def A2(r:WB ((Int×Int)×dy)):lF r (List.range r.length)=r.map (·.2):=by
  unfold lF;have:∀(r:WB ((Int×Int)×dy)),(List.range r.length).filterMap (fun i=>(r[i]?).map (·.2))=r.map (·.2):=by
    intro r
    induction r with
    | nil=>rfl
    | cons x r ih =>
      rw[TJ,List.range_succ_eq_map,List.filterMap_cons];simp only[Tt,Tl,List.filterMap_map,Ub]
      congr 1
  exact this r
def E0{r:WB ((Int×Int)×dy)}{S:WB Nat}(h:S.Perm (List.range r.length)):(lF r S).Perm (r.map (·.2)):=by
  rw[<-A2];exact h.filterMap _
def vm{l l':WB dy}(h:l.Perm l')(ho:p7 l'=true):p7 l=true:=by
  unfold p7 at *;simp only[SY,S9,Tc] at *;exact⟨fun x hx=>ho.1 x (h.mem_iff.1 hx),(h.map _).nodup_iff.2 ho.2⟩
def vZ{l l':WB dy}(h:l.Perm l')(ho:p7 l'=true):l.mergeSort eh=l'.mergeSort eh:=by
  obtain⟨h1,h2⟩:=sS ho;have tr:∀a b c:dy,eh a b=true->eh b c=true->eh a c=true:=by
    intro a b c; unfold eh; simp only[S9]; omega
  have to:∀a b:dy,(eh a b||eh b a)=true:=by
    intro a b; unfold eh; simp only[Ug,S9]; omega
  refine List.Perm.eq_of_pairwise (le:=fun a b=>eh a b=true) ?_ (List.pairwise_mergeSort tr to _) (List.pairwise_mergeSort tr to _) ((U5 _ _).trans (h.trans (U5 _ _).symm));intro a b ha hb e1 e2;have ha':=(h.mem_iff.1 ((U5 _ _).mem_iff.1 ha));have hb':=(U5 _ _).mem_iff.1 hb;refine nK h2 ha' hb' ?_;unfold eh at e1 e2;simp only[S9] at e1 e2;exact TZ (by simp only; omega) (by simp only; omega)
def qg(x:dy):∀l:WB dy,(DF x l).Perm (x::l)
  | []=>.refl _
  | y::l=>by
    unfold DF
    split
    exact .refl _
    exact((qg x l).cons y).trans (.swap x y l)
def lL:∀l:WB dy,(tD l).Perm l
  | []=>.refl _
  | x::l=>(qg x _).trans ((lL l).cons x)
def tB(a b c:dy):eh a b=true->eh b c=true->eh a c=true:=by
  unfold eh; simp only[S9]; omega
def BY{a b:dy}(h:eh a b=false):eh b a=true:=by
  unfold eh at *; simp only[S9,decide_eq_false_iff_not] at *; omega
def qN(x:dy):∀{l:WB dy},l.Pairwise (fun a b=>eh a b=true)->(DF x l).Pairwise (fun a b=>eh a b=true)
  | [],_=>List.pairwise_singleton _ _
  | y::l,h=>by
    obtain⟨h1,h2⟩:=Tp.1 h;unfold DF
    split
    rename_i hc;refine Tp.2 ⟨fun z hz=>?_,h⟩;rcases Tq.1 hz with rfl|hz
    exact hc
    exact tB _ _ _ hc (h1 z hz)
    rename_i hc;refine Tp.2 ⟨fun z hz=>?_,qN x h2⟩;rcases Tq.1 ((qg x l).mem_iff.1 hz) with rfl|hz
    exact BY (by simpa using hc)
    exact h1 z hz
def nU:∀l:WB dy,(tD l).Pairwise (fun a b=>eh a b=true)
  | []=>.nil
  | x::l=>qN x (nU l)
def uZ{l:WB dy}(ho:p7 l=true):tD l=l.mergeSort eh:=by
  obtain⟨h1,h2⟩:=sS ho;refine List.Perm.eq_of_pairwise (le:=fun a b=>eh a b=true) ?_ (nU l) (List.pairwise_mergeSort tB (fun a b=>by unfold eh; simp only[Ug,S9]; omega) _) ((lL l).trans (U5 _ _).symm)
  intro a b ha hb e1 e2;have ha':=(lL l).mem_iff.1 ha;have hb':=(U5 _ _).mem_iff.1 hb;refine nK h2 ha' hb' ?_;unfold eh at e1 e2;simp only[S9] at e1 e2;exact TZ (by simp only; omega) (by simp only; omega)
abbrev Px:(Int×Int)×dy->Vs×Vs:=eM (fun p:Int×Int=>.agg #[.int .i64 p.1,.int .i64 p.2]) (fun x:Vm=>.agg #[.int .i64 x.1,.int .i64 x.2.1,.int .i64 x.2.2.1,.int .i64 x.2.2.2])
def y9{E:Env}{m0 m:Wb}{t:Tm}{fs:Fs}{ps:WB Pc}{ty:Vt}{x:Vu}{v:Vs}{ag:Bool}{sz b o k:Nat}{cs:WB Vs}{tg:Tag}(ht:TyI E.P ty ag sz)(hx:ev E fs x=some (ptr b o))(hp:pk ps k=some (.obj b (.cells cs tg)))(hv:yz ag sz cs o=some v)(hf:Fr t fs)(hm:Hp m0 m ps):fq E t m (.load ty x)=some (v,m):=by
  have h1:=hf.ev hx;have h2:=rF (P:=E.P) ht (hm.get hp).2.2 hv
  show(match ay E t x with|some p=>(ed E.P ty p m).map fun v=>(v,m)|none=>none)=_
  rw[h1]
  show(ed E.P ty _ m).map _=_
  rw[h2]; rfl
def Rc{p q:WA Prim}:(We p q).P.underlying 57=some (.slice 64):=by kernel_rfl
def KT{p q:WA Prim}:SlT (We p q).P 57 64 4:=SlT.of (by kernel_rfl)
instance{p q:WA Prim}:UsC (We p q).P 57 64:=⟨Rc⟩
instance{p q:WA Prim}:SlC (We p q).P 57 64 4:=⟨KT⟩
section
variable{q:WA Prim}
set_option maxHeartbeats 4000000
def NC{m:Wb}{r:WB ((Int×Int)×dy)}{b b2:Nat}(hlim:lim r.length=true)(hok:p7 (r.map (·.2))=true){R:Vs->Wb->Prop}
    (hR:∀(a:Vq) (m':Wb),(r=[]->a=none)->Hp m m' [.sl a 4 r.length ((((r.map (·.2)).mergeSort eh)).map fw)]->R (.slice a r.length r.length) m') :
    Vk (We none none) 66 65 none (QQ 4 (mO Tryz.f65)) (jy (We none none) [.tmp 2] R) m [(3,ptr b 0),(8,.slice none 0 0)] [.obj b (.cells [.map (some b2)] .own),.obj b2 (.map (r.map Px))]:=by
  refine Vk.mapRange (E:=We none none) ub (fun h=>h) (γ:=Vq) (kt:=123) (et:=64) ⟨rfl,rfl⟩ ⟨rfl,rfl,rfl⟩ OS ⟨rfl,rfl,rfl⟩ ⟨rfl,rfl,rfl⟩ ⟨rfl,rfl,rfl⟩ rfl (by decide) (by decide) (bm:=b2) (k:=1) (es:=r.map Px)
    (fun t m' hf hm=>y9 (k:=0) Mu rfl rfl rfl hf hm) rfl
    (fun bi S a=>([(8,.slice (N3 (lF r S) a) (lF r S).length (lF r S).length),(54,ptr bi 0)],[.sl (N3 (lF r S) a) 4 (lF r S).length ((lF r S).map fw)]))
    (fun bi S g=>rfl) (fun bi S g p hp=>by rw[S6.1 hp]; exact⟨rfl,fun b hb=>.inl ⟨rfl,Pc.yj rfl hb⟩⟩) (fun _=>none) (fun bi=>⟨sc rfl (sc rfl sn),fun m1=>ah.nil 4 rfl⟩) ?_ ?_
  intro bi m1 S i e a hS hSl hi he;rw[To] at hSl;rw[TT] at he;obtain⟨e,he0,rfl⟩:=Option.map_eq_some_iff.1 he;clear he;have he:=he0;have hn:(lF r (S++[i])).length<=r.length:=by
    refine Tv IC ?_;have hnd:(S++[i]).Nodup:=List.nodup_append.2 ⟨hS,Ue.2 ⟨List.not_mem_nil,List.nodup_nil⟩,fun x hx y hy=>by rw[S6.1 hy]; exact fun e=>hi (e▸hx)⟩
    have hsub:(S++[i])⊆List.range r.length:=fun x hx=>by
      rw[Ua];rcases Tk.1 hx with hx|hx
      exact hSl x hx
      rw[S6.1 hx]; exact(Tg.1 he).1
    simpa using hnd.length_le_of_subset hsub
  have hl2:lim (lF r S++[e.2]).length=true:=by
    rw[<-qb he];exact Nat.ble_eq_true_of_le (Tv hn (oW hlim))
  refine VB (K9 rfl rfl) rfl ?_;refine VL (jX z64 rfl) gn rfl fun b6=>?_;refine V0 (ek (k:=0) Np rfl rfl rfl rfl rfl) ?_;refine VN (Q:=fun _=>_) ?_
  show Wk (We none none) 66 65 none _ _ m1 _ _
  refine VF ?_;refine VB (aK rfl) rfl ?_;refine VB (aH (k:=0) Np rfl rfl rfl) rfl ?_;refine VL (cn (es:=([e.2]:WB dy).map fw) KT rfl (cm KT z64 rfl rfl) rfl rfl) gn rfl fun b7=>?_;refine VL (om (k:=2) (k2:=0) (xs:=lF r S) (ys:=[e.2]) (xb (nT .i64) (xb (nT .i64) (xb (nT .i64) (nT .i64)))) KT ⟨_,Rc⟩ rfl rfl rfl (.arr _ _ _ _ _) hl2) gn rfl fun a8=>?_;refine VB (bQ rfl) rfl ?_;refine VN (Q:=fun _=>_) ?_;intro t' m' hf hm;refine⟨rfl,a8,?_,?_⟩
  rw[qb he,vW];exact hf.sub (sc rfl (sc rfl sn))
  rw[qb he,vW];exact(ah.aq [2] rfl rfl) m' hm
  intro bi S a hS;rw[To] at hS;have hp:=E0 hS;have hlen:(lF r S).length=r.length:=by rw[hp.length_eq,To]
  refine Vk.of ub ?_;refine VD ?_;refine VF ?_;refine VB (aK rfl) rfl ?_;refine VL (mz (α:=WC) (V:=fun _=>.tuple #[]) (N:=fun _=>_) rfl rfl fun m' hm=>IP (k:=0) (l:=lF r S) hm rfl (vm hp hok) (by rw[hlen]; exact hlim)) gn rfl fun _=>?_
  refine VN ?_;refine VI ?_;refine VD ?_;refine VF ?_;refine VB (aK rfl) rfl ?_;refine VB (bQ rfl) rfl ?_;refine VN ?_;refine VI ?_;refine Wk.ret ?_;refine VQ (.tmp rfl .nil) fun m' hm=>?_;rw[hlen,vZ hp hok] at hm;rw[hlen];exact hR _ m' (fun h=>by subst h; rw[TM.1 hlen]; rfl) ((ah.aq [0] rfl rfl) m' hm)
end
abbrev xn:Int×Int->WB Vs:=eP (eI .i64) (eI .i64)
abbrev Cx:=Vn×Vl
def qa(m:Wb)(v:Vs)(x:Cx):Prop :=
  ∃a c a' c' R es,v=.agg #[.slice a x.1.length c,.slice a' x.2.length c']/\Rd m a c 2 x.1.length (x.1.map xn)/\Rd m a' c' 2 x.2.length es/\(bY aj R x.2 es).P m
def Mg:∀x y:Int,eI .i64 x=eI .i64 y->x=y:=fun x y h=>by
  have:=Ur h;injection this
def QH:∀x y:Int×Int,xn x=xn y->x=y:=fun x y h=>by
  have h1:=Ur h;have h2:=Ur (List.tail_eq_of_cons_eq h);injection h1 with _ h1;injection h2 with _ h2;exact TZ h1 h2
def OA:zU aj:=RI (QY Mg) (RL (QY Mg))
def qa.uniq{m:Wb}{v:Vs}{x y:Cx}(h:qa m v x)(h':qa m v y):x=y:=by
  obtain⟨a,c,b,d,R,es,rfl,h1,h2,h3⟩:=h;obtain⟨a',c',b',d',R',es',e,h1',h2',h3'⟩:=h';injection e with e;injection e with e;have e1:=Ur e;have e2:=Ur (List.tail_eq_of_cons_eq e);injection e1 with e3 e4 e5;injection e2 with e6 e7 e8;subst e3 e6;have x1:=xB QH h1 h1' e4;have x2:=vI h2 h2' e7;subst x2;exact TZ x1 (h3.1.uniq OA h3'.1)
def mU(m:Wb)(l:WB dy):Vs×Wb:=if l=[] then(.slice none 0 0,m) else(.slice (some ⟨m.next,0,none⟩) l.length l.length,m.alloc (.cells (l.map fw).flatten (.more 4)))
open Classical in
noncomputable def lY (args:WB Vs) (m:Wb):WA (Vs×Wb) :=
  match args with
  | [v]=>if h:∃l,∃x:Cx,qa m v x/\IQ 0 x.1 x.2=some l then some (mU m (Classical.choose h)) else none
  | _=>none
noncomputable def mP:Prim:=⟨lY⟩
open Classical in
def uF{m m':Wb}{v r:Vs}(h:lY [v] m=some (r,m')):∃x:Cx,∃l,qa m v x/\IQ 0 x.1 x.2=some l/\mU m l=(r,m'):=by
  change dite _ _ _=_ at h
  by_cases hx:∃l,∃x:Cx,qa m v x/\IQ 0 x.1 x.2=some l
  rw[dif_pos hx] at h;obtain⟨x,h1,h2⟩:=T3 hx;exact⟨x,_,h1,h2,SX h⟩
  rw[dif_neg hx] at h; cases h
open Classical in
def Aa{m:Wb}{v:Vs}{x:Cx}{l:WB dy}(h:qa m v x)(hF:IQ 0 x.1 x.2=some l):lY [v] m=some (mU m l):=by
  have hx:∃l,∃x:Cx,qa m v x/\IQ 0 x.1 x.2=some l:=⟨l,x,h,hF⟩
  change dite _ _ _=_
  rw[dif_pos hx];obtain⟨y,h1,h2⟩:=T3 hx;have e1:=h1.uniq h;subst e1;rw[hF] at h2;rw[<-SX h2]
def wS{args:WB Vs}{m m':Wb}{v:Vs}(h:lY args m=some (v,m'))(pr:Bool){j:aU}{w:Vw}{args':WB Vs}(hm:MR (We none none) j m w)(hl:LR j args args') :
    gV (We none none).P pr 65 args'.toArray w (jt (We none none) j m w v m'):=by
  have ha:∃v,args=[v]:=by
    unfold lY at h
    split at h
    exact⟨_,rfl⟩
    cases h
  obtain⟨va,rfl⟩:=ha;obtain⟨⟨l1,l5⟩,l,⟨a,c,a',c',R,es,rfl,h1,h2,h3⟩,hF,he⟩:=uF h;simp only at h1 h2 h3 hF;unfold IQ at hF;obtain⟨r,hFA,hF⟩:=J hF;obtain⟨hc,hF⟩:=aB hF;rw[SY] at hc;have hl':=SX hF;subst hl';rw[uZ hc.1] at he;have hh1:Rd { m with wl:=m.next} a c 2 l1.length (l1.map xn):=Df h1
  have hh2:Rd { m with wl:=m.next} a' c' 2 l5.length es:=Df h2
  have hh3:(bY aj R l5 es).P { m with wl:=m.next}:=Ml h3
  refine qT (yG (E:=We none none) (c:=mO Tryz.f65) (m0:={ m with wl:=m.next}) (m:={ m with wl:=m.next}) (N:=66) (rs:=[.tmp 2]) (ps:=[.gen (bY aj R l5 es),.rd a' c' 2 l5.length es,.rd a c 2 l1.length (l1.map xn)]) ub Tryz.func65 rfl rfl rfl ((((VG _).bB bX hh1).bB (bU bX) hh2).eW (bU (bU bX)) hh3) ?_) pr hm hl
  refine LS ub 100000 l1 l5 a c a' c' R es r hFA _ hh1 hh2 hh3 fun g=>?_;refine NC (by simpa using hc.2) hc.1 fun a6 m1 ha6 hm1=>?_
  have hn0:({ m with wl:=m.next}:Wb).next=m.next:=rfl
  refine⟨⟨hm1.ext.next,fun b hb=>(hm1.ext.same b hb).trans I8,by have:=hm1.ext.wl; rw[hn0] at this; exact Tv (U7 (Nat.min_self _).symm) this⟩,?_⟩
  have hlen:((r.map (·.2)).mergeSort eh).length=r.length:=by rw[List.length_mergeSort,To]
  rcases hm1.get (k:=0) rfl with⟨e3,e2,rfl,_⟩|⟨b,tg,rfl,g1,g2,g3,g4,g5,g6,g7⟩
  have e4:=UR.1 e2;rw[e4] at he;unfold mU at he;rw[SU rfl] at he;cases he;exact .inl ⟨rfl,by rw[e3],rfl⟩
  have hr:r≠[]:=fun e=>by cases ha6 e
  have hs:(r.map (·.2)).mergeSort eh≠[]:=fun e=>hr (UR.1 (TM.1 (by rw[<-List.length_mergeSort (le:=eh),e]; rfl)))
  unfold mU at he;rw[SS hs,hlen] at he;cases he;exact .inr ⟨b,_,tg,4,r.length,by decide,by rw[tH,hlen],Tv (oW (by simpa using hc.2)) (by decide),rfl,rfl,g1,g2,g3,g6,oK _,rfl⟩
def pG:EnvOk (We (some mP) none):=tx (E:=We none none) ub (pr:=(We (some mP) none).dc) fun f P hp=>by
  by_cases e:f=65
  subst e;have hp':some mP=some P:=hp;cases hp';exact .inr fun args m v m' h j w args' hm hl=>wS h _ hm hl
  refine .inl ?_;have:(We (some mP) none).dc f=(We none none).dc f:=by
    show(if f=65 then _ else _)=(if f=65 then _ else _)
    rw[SS e,SS e]
  rw[<-this]; exact hp
def IL{q:WA Prim}(n:Nat)(l1:Vn)(l5:Vl)(a2:Vq)(c3:Nat)(a6:Vq)(c7:Nat)(rr8:Vr)(es9:Vp)(r:WB dy)(hF:IQ n l1 l5=some r)(m:Wb)(h4:Rd m a2 c3 2 l1.length (l1.map xn))(h10:Rd m a6 c7 2 l5.length es9)(h11:(bY aj rr8 l5 es9).P m) :
    aG (We (some mP) q) 65 [.agg #[.slice a2 l1.length c3,.slice a6 l5.length c7]] m (fun v m'=>∃x:Vq×Nat,v=.slice x.1 x.2 x.2/\Hp m m' [.sl x.1 4 x.2 (r.map (eP (eI .i64) (eP (eI .i64) (eP (eI .i64) (eI .i64)))))]):=by
  have hrun:=Aa (x:=(l1,l5)) ⟨a2,c3,a6,c7,rr8,es9,rfl,h4,h10,h11⟩ hF;unfold mU at hrun
  by_cases hr:r=[]
  rw[SU hr] at hrun;refine aG.dc (p:=mP) rfl hrun ⟨(none,0),rfl,?_⟩;subst hr;exact(ah.nil 4 rfl) m (VG m)
  rw[SS hr] at hrun;refine aG.dc (p:=mP) rfl hrun ⟨(some ⟨m.next,0,none⟩,r.length),rfl,?_⟩
  refine(VG m).cons (by rw[Wb.next_alloc]; exact Nat.le_succ _) ((Ext.refl m).alloc _) (fun b hlt=>by rw[Wb.aY,Vz]) (.inr ⟨m.next,.more 4,rfl,S0 _,by rw[Wb.next_alloc]; exact UT _,by rw[Wb.aY,SU rfl],by simp,fun e he=>?_,.inr rfl,by decide⟩) (fun b' h'=>?_)
  obtain⟨x,_,rfl⟩:=TS.1 he
  rfl
  cases h'; exact S0 _
end
section
open Go Go.Ab Go.Ab.W
set_option maxRecDepth 10000
set_option maxHeartbeats 4000000
attribute [local irreducible] Wo Wk At Wn Od Ox bq bZ
attribute [local irreducible] Tm.at Trie.set Trie.get Wb.get Wb.set Wb.alloc Wb.ww Wb.kill
variable{p q:WA Prim}
def gA:∀b o,aE (We p q).P 26 (ptr b o) 0=some (ptr b (o+0)):=fun _ _=>by kernel_rfl
instance:FaC (We p q).P 26 0 0:=⟨gA⟩
def pE:TyI (We p q).P 23 false 1:=⟨by kernel_rfl,by kernel_rfl,by kernel_rfl⟩
instance:TyC (We p q).P 23 false 1:=⟨pE⟩
def NY:(We p q).P.underlying 23=some (.slice 38):=by kernel_rfl
instance:UsC (We p q).P 23 38:=⟨NY⟩
def uu:SlT (We p q).P 23 38 2:=SlT.of (by kernel_rfl)
instance:SlC (We p q).P 23 38 2:=⟨uu⟩
def bN:TyI (We p q).P 38 true 2:=⟨by kernel_rfl,by kernel_rfl,by kernel_rfl⟩
instance:TyC (We p q).P 38 true 2:=⟨bN⟩
def iT:bw (We p q).P 38=some (.agg #[.int .i64 0,.int .i64 0]):=by kernel_rfl
def du:∀b o,aE (We p q).P 38 (ptr b o) 0=some (ptr b (o+0)):=fun _ _=>by kernel_rfl
instance:FaC (We p q).P 38 0 0:=⟨du⟩
def cG:∀b o,aE (We p q).P 38 (ptr b o) 1=some (ptr b (o+1)):=fun _ _=>by kernel_rfl
instance:FaC (We p q).P 38 1 1:=⟨cG⟩
def CV:Ia (We p q).P 38 3 3 .i64 .i64=true:=by kernel_rfl
def Qg:(We p q).P.underlying 99=some (.map 38 4):=by kernel_rfl
def z4:bw (We p q).P 4=some (.bool false):=by kernel_rfl
def Sd:bw (We p q).P 101=some (.nilFunc):=by kernel_rfl
def Pt:TyI (We p q).P 101 false 1:=⟨by kernel_rfl,by kernel_rfl,by kernel_rfl⟩
instance:TyC (We p q).P 101 false 1:=⟨Pt⟩
def yD:BdT (We p q).P 38 (.agg #[.int .i64 0,.int .i64 0]) [(0,1),(1,1)]:=.mk' (by kernel_rfl) (by kernel_rfl)
def RV:(We p q).P.underlying 41=some (.slice 38):=by kernel_rfl
instance:UsC (We p q).P 41 38:=⟨RV⟩
def CT:SlT (We p q).P 41 38 2:=SlT.of (by kernel_rfl)
instance:SlC (We p q).P 41 38 2:=⟨CT⟩
def z3:bw (We p q).P 3=some (.int .i64 0):=by kernel_rfl
def QC:TyI (We p q).P 41 false 1:=⟨by kernel_rfl,by kernel_rfl,by kernel_rfl⟩
instance:TyC (We p q).P 41 false 1:=⟨QC⟩
def z159:bw (We p q).P 159=some (.agg #[.int .i64 0,.int .i64 0,.int .i64 0,.int .i64 0,.int .i64 0]):=by kernel_rfl
def vP:BdT (We p q).P 159 (.agg #[.int .i64 0,.int .i64 0,.int .i64 0,.int .i64 0,.int .i64 0]) [(0,1),(1,2),(3,2)]:=.mk' (by kernel_rfl) (by kernel_rfl)
def QX:TyI (We p q).P 159 true 5:=⟨by kernel_rfl,by kernel_rfl,by kernel_rfl⟩
instance:TyC (We p q).P 159 true 5:=⟨QX⟩
def fP:∀b o,aE (We p q).P 159 (ptr b o) 1=some (ptr b (o+1)):=fun _ _=>by kernel_rfl
instance:FaC (We p q).P 159 1 1:=⟨fP⟩
def ib:∀b o,aE (We p q).P 159 (ptr b o) 2=some (ptr b (o+3)):=fun _ _=>by kernel_rfl
instance:FaC (We p q).P 159 2 3:=⟨ib⟩
def Fy:∀(x0 y0:Int) (x1 y1:Int),j7 (We p q).P Op.maxDepth 38 (.agg #[aN x0,aN x1]) (.agg #[aN y0,aN y1])=some (decide (x0=y0)&&decide (x1=y1)):=fun x0 y0 x1 y1=>ML CV x0 y0 x1 y1
def H4:(We p q).P.eqGuardType (We p q).P.depth 38=false:=by kernel_rfl
def pV:∀b o,aE (We p q).P 159 (ptr b o) 0=some (ptr b (o+0)):=fun _ _=>by kernel_rfl
instance:FaC (We p q).P 159 0 0:=⟨pV⟩
def RD:bw (We p q).P 176=some (.agg #[.int .i64 0,.int .i64 0,.int .i64 0,.int .i64 0,.int .i64 0,.int .i64 0,.int .i64 0,.int .i64 0]):=by kernel_rfl
def Q0:BdT (We p q).P 176 (.agg #[.int .i64 0,.int .i64 0,.int .i64 0,.int .i64 0,.int .i64 0,.int .i64 0,.int .i64 0,.int .i64 0]) [(0,2),(2,2),(4,2),(6,2)]:=.mk' (by kernel_rfl) (by kernel_rfl)
def Ai:ArT (We p q).P 176 38 4 2:=⟨by kernel_rfl,by kernel_rfl,by kernel_rfl⟩
instance:ArC (We p q).P 176 38 4 2:=⟨Ai⟩
def u4:(We p q).P.underlying 4=some (.bool):=by kernel_rfl
def RO:bw (We p q).P 133=some (.map none):=by kernel_rfl
def PH:TyI (We p q).P 133 false 1:=⟨by kernel_rfl,by kernel_rfl,by kernel_rfl⟩
instance:TyC (We p q).P 133 false 1:=⟨PH⟩
def Qz:(We p q).P.underlying 133=some (.map 123 4):=by kernel_rfl
def Rw:bw (We p q).P 134=some (.slice none 0 0):=by kernel_rfl
def PS:TyI (We p q).P 134 false 1:=⟨by kernel_rfl,by kernel_rfl,by kernel_rfl⟩
instance:TyC (We p q).P 134 false 1:=⟨PS⟩
def Qc:(We p q).P.underlying 134=some (.slice 122):=by kernel_rfl
instance:UsC (We p q).P 134 122:=⟨Qc⟩
def JV:SlT (We p q).P 134 122 4:=SlT.of (by kernel_rfl)
instance:SlC (We p q).P 134 122 4:=⟨JV⟩
def z138:bw (We p q).P 138=some (.nilFunc):=by kernel_rfl
def Jz:TyI (We p q).P 138 false 1:=⟨by kernel_rfl,by kernel_rfl,by kernel_rfl⟩
instance:TyC (We p q).P 138 false 1:=⟨Jz⟩
def w5:∀b o,aE (We p q).P 122 (ptr b o) 3=some (ptr b (o+3)):=fun _ _=>by kernel_rfl
instance:FaC (We p q).P 122 3 3:=⟨w5⟩
def Sz:bw (We p q).P 92=some (.map none):=by kernel_rfl
def LZ:TyI (We p q).P 92 false 1:=⟨by kernel_rfl,by kernel_rfl,by kernel_rfl⟩
instance:TyC (We p q).P 92 false 1:=⟨LZ⟩
def z93:bw (We p q).P 93=some (.nilFunc):=by kernel_rfl
def Kf:TyI (We p q).P 93 false 1:=⟨by kernel_rfl,by kernel_rfl,by kernel_rfl⟩
instance:TyC (We p q).P 93 false 1:=⟨Kf⟩
def sQ:∀b o,aE (We p q).P 64 (ptr b o) 0=some (ptr b (o+0)):=fun _ _=>by kernel_rfl
instance:FaC (We p q).P 64 0 0:=⟨sQ⟩
def tC:∀b o,aE (We p q).P 64 (ptr b o) 1=some (ptr b (o+1)):=fun _ _=>by kernel_rfl
instance:FaC (We p q).P 64 1 1:=⟨tC⟩
def z67:bw (We p q).P 67=some (.agg #[.int .i64 0,.int .i64 0]):=by kernel_rfl
def RM:BdT (We p q).P 67 (.agg #[.int .i64 0,.int .i64 0]) [(0,1),(1,1)]:=.mk' (by kernel_rfl) (by kernel_rfl)
def N9:ArT (We p q).P 67 3 2 1:=⟨by kernel_rfl,by kernel_rfl,by kernel_rfl⟩
instance:ArC (We p q).P 67 3 2 1:=⟨N9⟩
def Pq:(We p q).P.underlying 92=some (.map 3 3):=by kernel_rfl
def Fj{n x1 x2 r}(hF:Pf n x1 x2=some r)(m):
 aG (We p q) 56 [fy x1 x2] m (Wa m (.bool r)):=by
 unfold Pf at hF;refine cw Tryz.func56 (VG m) ?_;refine wz ?_;refine wb fun b3=>?_;refine an ?_;refine VB (fk rfl rfl (fY _ _)) rfl ?_;refine wz ?_;rcases aa hF with⟨h4,hF⟩|⟨h4,hF⟩;refine an ?_;cases hF;exact ar () [];refine wz ?_;refine VM (fk rfl rfl (ku _ _)) (gg rfl rfl (jG h4)) rfl ?_;refine an ?_;cases hF;exact ar () []
def Ny{n l1 a2 c3 r}(hF:Pg n l1=some r)(m)(h4:rh m a2 c3 l1):
 aG (We p q) 77 [bj a2 l1 c3] m (Wa m (.int .i64 r)):=by
 unfold Pg at hF;refine cw Tryz.func77 (VJ (VG m) bX h4) ?_;refine an ?_;rcases aa hF with⟨h6,hF⟩|⟨h6,hF⟩;refine VZ rfl h6 ?_;cases hF;refine an ?_;obtain⟨h7,hF⟩:=bE hF;refine VO (k:=0) rfl (aC h7) ?_;rintro b8 o9 rfl;refine wz ?_;obtain⟨x10,h11,hF⟩:=J hF;refine an ?_;refine VE ?_;obtain⟨v22,h27,hF⟩:=J hF;refine ct (fun v22 (_:WC)=>⟨(.exit 0),[(3,aN v22)],[]⟩) v22 ?_ ?_;refine lo h27 () [0,1] (fun(v14,v15) _=>⟨.normal,[(0,nQ b8 o9 l1 c3),(3,aN v14),(4,aN v15)],(pb b8 o9 l1 c3 [])⟩) ?_;clear hF h27;rintro⟨v14,v15⟩ ⟨⟩ r hF;unfold zb at hF;refine wz ?_;rcases aa hF with⟨h23,hF⟩|⟨h23,hF⟩;refine an ?_;obtain⟨h24,hF⟩:=bE hF;refine wz ?_;obtain⟨x25,h26,hF⟩:=J hF;refine wz ?_;refine VB (fk rfl rfl (fY _ _)) rfl ?_;refine an ?_;cases hF;exact ae () [0,1];refine wz ?_;cases hF;exact ae () [];rintro⟨⟩;refine dM ?_;obtain rfl:=SX hF;exact ar () []
def O1{n l1 a2 c3 r}(hF:O6 n l1=some r)(m)(h4:rh m a2 c3 l1):
 aG (We p q) 78 [bj a2 l1 c3] m (Wa m (.int .i64 r)):=by
 unfold O6 at hF;refine cw Tryz.func78 (VJ (VG m) bX h4) ?_;refine an ?_;rcases aa hF with⟨h6,hF⟩|⟨h6,hF⟩;refine VZ rfl h6 ?_;cases hF;refine an ?_;obtain⟨h7,hF⟩:=bE hF;refine VO (k:=0) rfl (aC h7) ?_;rintro b8 o9 rfl;refine wz ?_;obtain⟨x10,h11,hF⟩:=J hF;refine an ?_;refine VE ?_;obtain⟨v22,h27,hF⟩:=J hF;refine ct (fun v22 (_:WC)=>⟨(.exit 0),[(3,aN v22)],[]⟩) v22 ?_ ?_;refine lo h27 () [0,1] (fun(v14,v15) _=>⟨.normal,[(0,nQ b8 o9 l1 c3),(3,aN v14),(4,aN v15)],(pb b8 o9 l1 c3 [])⟩) ?_;clear hF h27;rintro⟨v14,v15⟩ ⟨⟩ r hF;unfold AB at hF;refine wz ?_;rcases aa hF with⟨h23,hF⟩|⟨h23,hF⟩;refine an ?_;obtain⟨h24,hF⟩:=bE hF;refine wz ?_;obtain⟨x25,h26,hF⟩:=J hF;refine wz ?_;refine VB (fk rfl rfl (ku _ _)) rfl ?_;refine an ?_;cases hF;exact ae () [0,1];refine wz ?_;cases hF;exact ae () [];rintro⟨⟩;refine dM ?_;obtain rfl:=SX hF;exact ar () []
def p5{n l1 l5 l12 x16 a2 c3 a6 c7}{rr8:Vr}{es9:Vp}{a13 c14 r}(hF:JO n l1 l5 l12 x16=some r)(m)(h4:dZ m a2 c3 l1)(h10:fN m a6 c7 l5 es9)(h11:(bY aj rr8 l5 es9).P m)(h15:rh m a13 c14 l12):
 aG (We p q) 53 [eu a2 l1 c3 a6 l5 c7,bj a13 l12 c14,aN x16] m (fun v m'=>∃x:Vq×Nat,v=.slice x.1 x.2 x.2/\Hp m m' [.sl x.1 2 x.2 (r.map (eP (eI .i64) (eI .i64)))]):=by
 unfold JO at hF;refine cw Tryz.func53 (VJ (VW (VJ (VJ (VG m) bX h4) (bU bX) h10) (bU (bU bX)) h11) (Ce (bU (bU bX))) h15) ?_;refine wz ?_;refine wb fun b17=>?_;refine dM ?_;refine VE ?_;obtain⟨l58,h76,hF⟩:=J hF;refine ct (fun l58 (a59:Vq)=>⟨(.exit 0),[(7,bP a59 l58)],[iO a59 l58]⟩) l58 ?_ ?_;refine lw h76 none (fun(l36,v38) a37=>⟨.normal,((2,aN x16)::(3,ptr b17 0)::(7,bP a37 l36)::Au a13 l12 c14 v38 []),(cV b17 a2 l1 c3 a6 l5 c7 es9 aj rr8 [iO a37 l36,lp a13 c14 l12])⟩) (ah.trans (ah.nil 2 rfl) (ah.aq [1,5,4,3,0,2] rfl rfl)) ?_;clear hF h76;rintro⟨l36,v38⟩ a37 r hF;unfold zS at hF;refine wz ?_;refine VD ?_;rcases aa hF with⟨h60,hF⟩|⟨h60,hF⟩;refine an ?_;obtain⟨h61,hF⟩:=bE hF;refine VO (k:=5) rfl (aC h61) ?_;rintro b62 o63 rfl;refine wz ?_;obtain⟨x64,h65,hF⟩:=J hF;refine an ?_;obtain⟨h66,hF⟩:=bE hF;refine VO (k:=2) rfl (aC h66) ?_;rintro b67 o68 rfl;refine wz ?_;obtain⟨⟨x69,x70⟩,h71,hF⟩:=J hF;refine wz ?_;refine VB (aJ rfl rfl (bT _ _ _)) rfl ?_;refine wz ?_;obtain⟨h72,hF⟩:=bE hF;refine wz ?_;refine VB (aJ rfl rfl (bT _ _ _)) rfl<|VB (cL rfl iT rfl (cJ yD rfl rfl rfl)) rfl<|VL (cn (es:=([(Vx (x16*x69),Vx (x16*x70))]:Vn).map (eP (eI .i64) (eI .i64))) CT rfl (cm CT iT rfl rfl) rfl rfl) gn rfl fun b73=>?_;obtain⟨h74,hF⟩:=aB hF;refine VL (om (k:=7) (k2:=0) (xs:=(l36:Vn)) (ys:=([(Vx (x16*x69),Vx (x16*x70))]:Vn)) (xb (nT .i64) (nT .i64)) CT ⟨_,RV⟩ rfl rfl rfl (.arr _ _ _ _ _) h74) gn rfl fun a75=>?_;refine an ?_;cases hF;exact ae a75 (V5 3 6);refine wz ?_;cases hF;exact ae a37 [4];rintro a59;refine dM ?_;obtain rfl:=SX hF;exact ar (a59,l58.length) [0]
def px{n x1 x2 r}(hF:xE n x1 x2=some r)(m):
 aG (We p q) 133 [fy x1 x2] m (Wa m (.bool r)):=by
 unfold xE at hF;refine cw Tryz.func133 (VG m) ?_;refine wz ?_;refine wb fun b3=>?_;refine an ?_;refine VB (DZ rfl (MA _)) rfl ?_;refine wz ?_;refine VB (DZ rfl (MA _)) rfl ?_;obtain⟨y4,h5,hF⟩:=J hF;refine VB (fk rfl rfl (fun m=>(OF _ _ _ _ m).trans (SA h5))) rfl ?_;refine wz ?_;rcases aa hF with⟨h6,hF⟩|⟨h6,hF⟩;refine an ?_;cases hF;exact ar () [];refine wz ?_;refine VM (fk rfl rfl (fY _ _)) (gg rfl rfl (jG h6)) rfl ?_;refine an ?_;cases hF;exact ar () []
def CL{n x1 r}(hF:Jg n x1=some r)(m):
 aG (We p q) 161 [aN x1] m (Wa m (.bool r)):=by
 unfold Jg at hF;refine cw Tryz.func161 (VG m) ?_;refine dM ?_;cases hF;exact ar () []
def yr{n x1 x2 r}(hF:BE n x1 x2=some r)(m):
 aG (We p q) 152 [aN x1,aN x2] m (Wa m (.int .i64 r)):=by
 unfold BE at hF;refine cw Tryz.func152 (VG m) ?_;refine an ?_;obtain⟨r4,h3,hF⟩:=J hF;refine wc gn (fun m hm=>CL h3 m) ?_;rintro⟨⟩;refine an ?_;obtain⟨r6,h5,hF⟩:=J hF;refine wc gn (fun m hm=>CL h5 m) ?_;rintro⟨⟩;refine an ?_;rcases aa hF with⟨h7,hF⟩|⟨h7,hF⟩;refine wz ?_;rcases aa hF with⟨h8,hF⟩|⟨h8,hF⟩;refine an ?_;cases hF;exact ar () [];refine dM ?_;cases hF;exact ar () [];refine an ?_;rcases aa hF with⟨h9,hF⟩|⟨h9,hF⟩;refine an ?_;cases hF;exact ar () [];refine an ?_;rcases aa hF with⟨h10,hF⟩|⟨h10,hF⟩;refine an ?_;cases hF;exact ar () [];refine an ?_;rcases aa hF with⟨h11,hF⟩|⟨h11,hF⟩;refine an ?_;cases hF;exact ar () [];refine dM ?_;cases hF;exact ar () []
def mV{n x1 x2 x3 x4 x5 x6 r}(hF:uU n x1 x2 x3 x4 x5 x6=some r)(m):
 aG (We p q) 135 [fy x1 x2,fy x3 x4,fy x5 x6] m (Wa m (.int .i64 r)):=by
 unfold uU at hF;refine cw Tryz.func135 (VG m) ?_;refine wz ?_;refine wb fun b7=>?_;refine wb fun b8=>?_;refine wb fun b9=>?_;refine wz ?_;refine VD<|VF<|VB (aM (r:=ptr b8 0) rfl (du _ _)) rfl<|VB (aH (k:=1) bS rfl rfl rfl) rfl<|VB (aM (r:=ptr b7 0) rfl (du _ _)) rfl<|VB (aH (k:=2) bS rfl rfl rfl) rfl<|VB (aJ rfl rfl (bJ _ _ _)) rfl<|VB (aM (r:=ptr b9 1) rfl (cG _ _)) rfl<|VB (aH (k:=0) bS rfl rfl rfl) rfl<|VB (aM (r:=ptr b7 1) rfl (cG _ _)) rfl<|VB (aH (k:=2) bS rfl rfl rfl) rfl<|VB (aJ rfl rfl (bJ _ _ _)) rfl ?_;obtain⟨y10,h11,hF⟩:=J hF;refine VB (aJ rfl rfl ((bT _ _ _).trans (cI h11))) rfl<|VB (aM (r:=ptr b8 1) rfl (cG _ _)) rfl<|VB (aH (k:=1) bS rfl rfl rfl) rfl<|VB (aM (r:=ptr b7 1) rfl (cG _ _)) rfl<|VB (aH (k:=2) bS rfl rfl rfl) rfl<|VB (aJ rfl rfl (bJ _ _ _)) rfl<|VB (aM (r:=ptr b9 0) rfl (du _ _)) rfl<|VB (aH (k:=0) bS rfl rfl rfl) rfl<|VB (aM (r:=ptr b7 0) rfl (du _ _)) rfl<|VB (aH (k:=2) bS rfl rfl rfl) rfl<|VB (aJ rfl rfl (bJ _ _ _)) rfl ?_;obtain⟨y12,h13,hF⟩:=J hF;refine VB (aJ rfl rfl ((bT _ _ _).trans (cI h13))) rfl ?_;obtain⟨r15,h14,hF⟩:=J hF;refine wc gn (fun m hm=>yr h14 m) ?_;rintro⟨⟩;refine an ?_;obtain rfl:=SX hF;exact ar () []
def KI{n l1 a2 c3 r}(hF:JG n l1=some r)(m)(h4:rh m a2 c3 l1):
 aG (We p q) 165 [bj a2 l1 c3] m (Wa m (.int .i64 r)):=by
 unfold JG at hF;refine cw Tryz.func165 (VJ (VG m) bX h4) ?_;refine dM ?_;refine VE ?_;obtain⟨r24,h23,hF⟩:=J hF;refine ct (fun(r:Int ⊕(WC)) (g:WC)=>match r,g with|.inl v15,_=>⟨.ret,[(2,aN v15)],[]⟩|.inr _,_=>⟨(.exit 0),[(3,.int .i64 0)],[]⟩) r24 ?_ ?_
 refine lo h23 () [0] (fun v6 _=>⟨.normal,[(3,.int .i64 0),(6,bj a2 l1 c3),(7,dh l1),(8,aN v6)],[lp a2 c3 l1]⟩) ?_;clear hF h23;rintro v6 ⟨⟩ r hF;unfold lW at hF;refine wz ?_;refine VD ?_;rcases aa hF with⟨h16,hF⟩|⟨h16,hF⟩;refine an ?_;obtain⟨h17,hF⟩:=bE hF;refine VO (k:=0) rfl (aC h17) ?_;rintro b18 o19 rfl;refine wz ?_;obtain⟨x20,h21,hF⟩:=J hF;refine an ?_;rcases aa hF with⟨h22,hF⟩|⟨h22,hF⟩;refine an ?_;cases hF;exact ae () [];refine an ?_;cases hF;exact ae () [1];refine wz ?_;cases hF;exact ae () [];rcases r24 with v15|_;rintro⟨⟩;refine wz ?_;obtain rfl:=SX hF;exact ar () [];rintro⟨⟩;refine dM ?_;cases hF;exact ar () []
def w7{n x1 x2 x3 x4 r}(hF:xC n x1 x2 x3 x4=some r)(m):
 aG (We p q) 162 [fy x1 x2,fy x3 x4] m (Wa m (.int .i64 r)):=by
 unfold xC at hF;refine cw Tryz.func162 (VG m) ?_;refine wz ?_;refine wb fun b5=>?_;refine wb fun b6=>?_;refine wz ?_;refine VD<|VT (prs:=[(4,6),(4,8)]) (by kernel_rfl)<|VC (aM (r:=ptr b5 0) rfl (du _ _)) rfl<|VC (aH (k:=1) bS rfl rfl rfl) rfl<|VC (aM (r:=ptr b6 0) rfl (du _ _)) rfl<|VC (aH (k:=0) bS rfl rfl rfl) rfl ?_
 obtain⟨r8,h7,hF⟩:=J hF;refine nc gn (fun m hm=>yr h7 m) ?_;rintro⟨⟩;refine VC (aM (r:=ptr b5 1) rfl (cG _ _)) rfl<|VC (aH (k:=1) bS rfl rfl rfl) rfl<|VC (aM (r:=ptr b6 1) rfl (cG _ _)) rfl<|VC (aH (k:=0) bS rfl rfl rfl) rfl ?_;obtain⟨r10,h9,hF⟩:=J hF;refine nc gn (fun m hm=>yr h9 m) ?_;rintro⟨⟩;refine V3 (cn (es:=([r8,r10]:WB (Int)).map (eI .i64)) fa rfl (cm fa z3 rfl rfl) rfl rfl) gn rfl fun b11=>?_;obtain⟨r13,h12,hF⟩:=J hF;refine nc gn (fun m hm=>KI h12 m (hm.q 0)) ?_;rintro⟨⟩;refine VC (bQ rfl) rfl<|VP (fun m hm=>cA.all rfl) ?_;refine an ?_;obtain rfl:=SX hF;exact ar () []
def Dz{n x1 x2 x3 x4 x5 x6 x7 r}(hF:EZ n x1 x2 x3 x4 x5 x6 x7=some r)(m):
 aG (We p q) 153 [Oq x1 x2 x3 x4 x5,fy x6 x7] m (Wa m (.bool r)):=by
 unfold EZ at hF;refine cw Tryz.func153 (VG m) ?_;refine wz ?_;refine wb fun b8=>?_;refine wb fun b9=>?_;refine an ?_;obtain⟨r11,h10,hF⟩:=J hF;refine wc gn (fun m hm=>mV h10 m) ?_;rintro⟨⟩;refine wz ?_;rcases aa hF with⟨h12,hF⟩|⟨h12,hF⟩;refine an ?_;cases hF;exact ar () [];refine wz ?_;refine VD<|VT (prs:=[(3,6)]) (by kernel_rfl)<|VC (aM (r:=ptr b8 1) rfl (fP _ _)) rfl<|VC (aH (k:=1) bN rfl rfl rfl) rfl<|VC (aM (r:=ptr b8 3) rfl (ib _ _)) rfl<|VX rfl (aH (k:=1) bN rfl rfl rfl) rfl<|V3 (jX iT rfl) gn rfl fun b13=>?_
 refine V3 (jX iT rfl) gn rfl fun b14=>?_;refine Wn.Bl rfl (ek (k:=1) bN rfl rfl rfl rfl rfl)<|V1 (ek (k:=0) bN rfl rfl rfl rfl rfl)<|VP (fun m hm=>(cA.rw rfl rfl rfl (hm.ne (i:=3) (j:=1) rfl rfl rfl rfl (by decide) rfl) cA.nil))<|VI<|VD ?_
 obtain⟨r26,h25,hF⟩:=J hF;refine ct (fun(v18,v19,v20,v21) (_:WC)=>⟨.normal,[(3,ptr b9 0),(5,ptr b13 0),(6,ptr b14 0)],[ef b9 x6 x7,ef b13 v18 v19,ef b14 v20 v21]⟩) r26 ?_ ?_;clear hF;revert r26;intro r hF;refine wz ?_;obtain⟨r23,h22,hF⟩:=J hF;refine wc gn (fun m hm=>w7 h22 m) ?_;rintro⟨⟩;refine wz ?_;rcases aa hF with⟨h24,hF⟩|⟨h24,hF⟩;refine wz ?_;cases hF;exact ae () [2,1,0];refine wz ?_;cases hF;exact ae () [2,1,0];clear h25;obtain⟨v18,v19,v20,v21⟩:=r26;rintro⟨⟩;refine an ?_;obtain⟨r28,h27,hF⟩:=J hF;refine wc gn (fun m hm=>w7 h27 m) ?_;rintro⟨⟩;refine wz ?_;rcases aa hF with⟨h29,hF⟩|⟨h29,hF⟩;refine wz ?_;obtain⟨r31,h30,hF⟩:=J hF;refine wc (gg rfl rfl (dL h29)) (fun m hm=>w7 h30 m) ?_;rintro⟨⟩;refine an ?_;cases hF;exact ar () [];refine an ?_;cases hF;exact ar () []
def Ci{n x1 x2 x3 x4 x5 x6 x7 x8 x9 x10 r}(hF:DB n x1 x2 x3 x4 x5 x6 x7 x8 x9 x10=some r)(m):
 aG (We p q) 136 [Oq x1 x2 x3 x4 x5,Oq x6 x7 x8 x9 x10] m (Wa m (.int .i64 r)):=by
 unfold DB at hF;refine cw Tryz.func136 (VG m) ?_;refine wz ?_;refine wb fun b0=>?_;refine wb fun b1=>?_;refine wz ?_;refine VD<|VT (prs:=[(6,8),(6,10),(6,12)]) (by kernel_rfl)<|VC (aM (r:=ptr b0 1) rfl (fP _ _)) rfl<|VC (aH (k:=1) bN rfl rfl rfl) rfl<|VC (aM (r:=ptr b0 3) rfl (ib _ _)) rfl<|VC (aH (k:=1) bN rfl rfl rfl) rfl<|VC (aM (r:=ptr b1 1) rfl (fP _ _)) rfl<|VC (aH (k:=0) bN rfl rfl rfl) rfl ?_
 obtain⟨r0,h8,hF⟩:=J hF;refine nc gn (fun m hm=>mV h8 m) ?_;rintro⟨⟩;refine VC (aM (r:=ptr b0 1) rfl (fP _ _)) rfl<|VC (aH (k:=1) bN rfl rfl rfl) rfl<|VC (aM (r:=ptr b0 3) rfl (ib _ _)) rfl<|VC (aH (k:=1) bN rfl rfl rfl) rfl<|VC (aM (r:=ptr b1 3) rfl (ib _ _)) rfl<|VC (aH (k:=0) bN rfl rfl rfl) rfl ?_;obtain⟨r1,h9,hF⟩:=J hF;refine nc gn (fun m hm=>mV h9 m) ?_;rintro⟨⟩;refine VC (bQ rfl) rfl<|VC (bQ rfl) rfl<|VP (fun m hm=>cA.all rfl)<|VI<|VD<|VT (prs:=[(6,8),(6,10),(6,12)]) (by kernel_rfl)<|VC (aM (r:=ptr b1 1) rfl (fP _ _)) rfl<|VC (aH (k:=0) bN rfl rfl rfl) rfl<|VC (aM (r:=ptr b1 3) rfl (ib _ _)) rfl<|VC (aH (k:=0) bN rfl rfl rfl) rfl<|VC (aM (r:=ptr b0 1) rfl (fP _ _)) rfl<|VC (aH (k:=1) bN rfl rfl rfl) rfl ?_
 obtain⟨r3,h10,hF⟩:=J hF;refine nc gn (fun m hm=>mV h10 m) ?_;rintro⟨⟩;refine VC (aM (r:=ptr b1 1) rfl (fP _ _)) rfl<|VC (aH (k:=0) bN rfl rfl rfl) rfl<|VC (aM (r:=ptr b1 3) rfl (ib _ _)) rfl<|VC (aH (k:=0) bN rfl rfl rfl) rfl<|VC (aM (r:=ptr b0 3) rfl (ib _ _)) rfl<|VC (aH (k:=1) bN rfl rfl rfl) rfl ?_;obtain⟨r4,h11,hF⟩:=J hF;refine nc gn (fun m hm=>mV h11 m) ?_;rintro⟨⟩;refine VC (bQ rfl) rfl<|VC (bQ rfl) rfl<|VP (fun m hm=>cA.all rfl) ?_;refine an ?_;refine VL HI gn rfl fun b2=>?_;refine an ?_;refine VB (cL rfl RD rfl (cJ Q0 rfl rfl rfl)) rfl ?_;refine wz ?_;refine VE ?_;obtain⟨l1,h1,hF⟩:=J hF;refine ct (fun l1 (_:WC)=>⟨(.exit 0),[(5,aN r0),(6,aN r1),(7,aN r3),(8,aN r4),(9,.map (some b2))],[.obj b2 (.map (l1.map (eM (fun p:Int×Int=>.agg #[.int .i64 p.1,.int .i64 p.2]) (fun b:Bool=>.bool b))))]⟩) l1 ?_ ?_;refine lo h1 () [2,1,0] (fun(l2,v0) _=>⟨.normal,(rM b0 b1 [(5,aN r0),(6,aN r1),(7,aN r3),(8,aN r4),(9,.map (some b2)),(49,M8 x2 x3 x4 x5 x7 x8 x9 x10),(50,aN v0)]),[gL b0 x1 x2 x3 x4 x5,gL b1 x6 x7 x8 x9 x10,.obj b2 (.map (l2.map (eM (fun p:Int×Int=>.agg #[.int .i64 p.1,.int .i64 p.2]) (fun b:Bool=>.bool b))))]⟩) ?_;clear hF h1;rintro⟨l2,v0⟩ ⟨⟩ r hF;unfold mq at hF;refine wz ?_;refine VD ?_;rcases aa hF with⟨h12,hF⟩|⟨h12,hF⟩;refine wz ?_;refine VD ?_;obtain⟨l3,h13,hF⟩:=J hF;refine ct (fun l3 (_:WC)=>⟨.normal,(rM b0 b1 [(5,aN r0),(6,aN r1),(7,aN r3),(8,aN r4),(9,.map (some b2)),(49,M8 x2 x3 x4 x5 x7 x8 x9 x10),(50,aN v0)]),[gL b0 x1 x2 x3 x4 x5,gL b1 x6 x7 x8 x9 x10,.obj b2 (.map (l3.map (eM (fun p:Int×Int=>.agg #[.int .i64 p.1,.int .i64 p.2]) (fun b:Bool=>.bool b))))]⟩) l3 ?_ ?_;clear hF;revert l3;intro r hF;refine wz ?_;obtain⟨h14,hF⟩:=aB hF;obtain⟨⟨x11,x12⟩,h0,hF⟩:=J hF;refine VL (FE (α:=WC) (V:=fun g=>match g with|_=>.agg #[aN x11,aN x12]) (N:=fun g=>match g with|_=>[]++[gL b0 x1 x2 x3 x4 x5,gL b1 x6 x7 x8 x9 x10,.obj b2 (.map (l2.map (eM (fun p:Int×Int=>.agg #[.int .i64 p.1,.int .i64 p.2]) (fun b:Bool=>.bool b))))]) rfl rfl (fun m hm=>?_)) gn rfl ?_
 have hj:=pf h14;obtain⟨j,h4⟩:∃j:Nat,(v0:Int)=j:=⟨_,(TH hj.1).symm⟩;rw[h4] at h0 hj ⊢;rw[Ti] at h0 hj;replace hj:=hj.2;clear hF h4
 match j,hj,h0 with
 | 0,_,h0=>cases h0; exact⟨(),xG Ai (i:=0) (by decide) (oH bN rfl),hm⟩
 | 1,_,h0=>cases h0; exact⟨(),xG Ai (i:=1) (by decide) (oH bN rfl),hm⟩
 | 2,_,h0=>cases h0; exact⟨(),xG Ai (i:=2) (by decide) (oH bN rfl),hm⟩
 | 3,_,h0=>cases h0; exact⟨(),xG Ai (i:=3) (by decide) (oH bN rfl),hm⟩
 | _+4,hj,_=>exact Tj hj (by omega)
 rintro⟨⟩;refine wa iT fun b3=>?_;refine wz ?_;refine VD ?_;obtain⟨v1,h15,hF⟩:=J hF;refine ct (fun v1 (_:WC)=>⟨.normal,(rM b0 b1 [(5,aN r0),(6,aN r1),(7,aN r3),(8,aN r4),(9,.map (some b2)),(11,ptr b3 0),(49,M8 x2 x3 x4 x5 x7 x8 x9 x10),(50,aN v0),(60,.bool v1)]),[gL b0 x1 x2 x3 x4 x5,gL b1 x6 x7 x8 x9 x10,.obj b2 (.map (l2.map (eM (fun p:Int×Int=>.agg #[.int .i64 p.1,.int .i64 p.2]) (fun b:Bool=>.bool b)))),ef b3 x11 x12]⟩) v1 ?_ ?_;clear hF;revert v1;intro r hF;refine wz ?_;obtain⟨r5,h16,hF⟩:=J hF;refine wc gn (fun m hm=>Dz h16 m) ?_;rintro⟨⟩;refine wz ?_;rcases aa hF with⟨h5,hF⟩|⟨h5,hF⟩;refine wz ?_;obtain⟨r6,h17,hF⟩:=J hF;refine wc (gg rfl rfl (dL h5)) (fun m hm=>Dz h17 m) ?_;rintro⟨⟩;refine wz ?_;obtain rfl:=SX hF;exact ae () [1,2,3,0];refine wz ?_;cases hF;exact ae () [1,2,3,0];rintro⟨⟩;refine VI ?_;rcases aa hF with⟨h18,hF⟩|⟨h18,hF⟩;refine wz ?_;refine V0 (D9 (q:=2) (xs:=l2) (k:=(x11,x12)) (v:=true) (vE:=(fun b:Bool=>.bool b)) Qg (Fk CV) rfl rfl rfl rfl) ?_;refine wz ?_;cases hF;exact ae () [0,1,2];refine wz ?_;obtain rfl:=SX hF;exact ae () [0,1,2];rintro⟨⟩;refine an ?_;cases hF;exact ae () [0,1,2];refine wz ?_;cases hF;exact ae () [2];rintro⟨⟩;refine an ?_;obtain⟨y0,h2,hF⟩:=J hF;replace h2:=SX h2;refine VB (B3 (q:=0) (xs:=l1) Qg rfl rfl h2) rfl ?_;refine wz ?_;rcases aa hF with⟨h19,hF⟩|⟨h19,hF⟩;refine an ?_;cases hF;exact ar () [];refine wz ?_;obtain⟨y1,h3,hF⟩:=J hF;replace h3:=SX h3;refine VB (B3 (q:=0) (xs:=l1) Qg rfl rfl h3) rfl ?_;refine wz ?_;rcases aa hF with⟨h6,hF⟩|⟨h6,hF⟩;refine an ?_;cases hF;exact ar () [];refine Wk.fZ rfl h6<|VD ?_;obtain⟨v2,h20,hF⟩:=J hF;refine ct (fun v2 (_:WC)=>⟨.normal,[(72,.bool v2)],[]⟩) v2 ?_ ?_;clear hF;revert v2;intro r hF;refine wz ?_;refine VB (aJ rfl rfl (bT _ _ _)) rfl ?_;refine wz ?_;rcases aa hF with⟨h7,hF⟩|⟨h7,hF⟩;refine wz ?_;refine VM (aJ rfl rfl (bT _ _ _)) (gg rfl rfl (dL h7)) rfl ?_;refine wz ?_;cases hF;exact ae () [];refine wz ?_;cases hF;exact ae () [];rintro⟨⟩;refine VI ?_;rcases aa hF with⟨h21,hF⟩|⟨h21,hF⟩;refine an ?_;cases hF;exact ar () [];refine dM ?_;cases hF;exact ar () []
def KB{n l1 a0 c0 r}(hF:Im n l1=some r)(m)(h14:dZ m a0 c0 l1):
 aG (We p q) 110 [bj a0 l1 c0] m (Wa m (.tuple #[.int .i64 r.1,.int .i64 r.2])):=by
 unfold Im at hF;refine cw Tryz.func110 (VJ (VG m) bX h14) ?_;refine wz ?_;refine wb fun b3=>?_;refine wa z3 fun b0=>?_;refine wa z3 fun b1=>?_;refine an ?_;refine wa z3 fun b2=>?_;refine wz ?_;refine VD<|VD ?_;obtain⟨v2,h15,hF⟩:=J hF;refine ct (fun v2 (_:WC)=>⟨.normal,((1,ptr b3 0)::rM b0 b1 [(4,ptr b2 0),(18,.bool v2)]),(uJ b3 a0 l1 c0 b0 b1 b2 [])⟩) v2 ?_ ?_;clear hF;revert v2;intro r hF;refine wz ?_;rcases aa hF with⟨h16,hF⟩|⟨h16,hF⟩;refine wz ?_;cases hF;exact ae () [3,4,2,1,0];refine wz ?_;cases hF;exact ae () [3,4,2,1,0];rintro⟨⟩;refine VI ?_;rcases aa hF with⟨h17,hF⟩|⟨h17,hF⟩;refine an ?_;cases hF;exact VQ (.cell (k:=2) bS rfl rfl rfl (.cell (k:=3) bS rfl rfl rfl .nil)) fun m' hm=>⟨(),rfl,(ah.aq [] rfl rfl) m' hm⟩;refine an ?_;obtain⟨v3,h18,hF⟩:=J hF;refine wq (fun v3 (_:WC)=>(.int .i64 v3,(uJ b3 a0 l1 c0 b0 b1 b2 []))) v3 (fun m hm=>?_) ?_;clear hF;revert v3;intro r hF;refine aW (N:=19) (rs:=[.tmp 4]) rfl Tryz.func132 rfl rfl rfl hm ?_;refine an ?_;refine VE ?_;obtain⟨r13,h1,hF⟩:=J hF;refine ct (fun(r:Int ⊕(WC)) (g:WC)=>match r,g with|.inl v8,_=>⟨.ret,[(4,aN v8)],(uJ b3 a0 l1 c0 b0 b1 b2 [])⟩|.inr _,_=>⟨(.exit 0),[],(uJ b3 a0 l1 c0 b0 b1 b2 [])⟩) r13 ?_ ?_
 refine lo h1 () [1,0,2,3,4] (fun v9 _=>⟨.normal,[(0,bj a0 l1 c0),(1,.func (.func 133) #[] #[]),(7,dh l1),(8,aN v9)],[iq a0 c0 l1,uS b3 a0 l1 c0,df b0,df b1,fD b2 l1]⟩) ?_;clear hF h1;rintro v9 ⟨⟩ r hF;unfold tZ at hF;refine wz ?_;refine VD ?_;rcases aa hF with⟨h19,hF⟩|⟨h19,hF⟩;refine dM ?_;obtain⟨h20,hF⟩:=bE hF;refine VO (k:=0) rfl (aC h20) ?_;rintro b24 o4 rfl;refine wz ?_;obtain⟨⟨x24,x25⟩,h61,hF⟩:=J hF;refine wz ?_;obtain⟨r22,h21,hF⟩:=J hF;refine wc gn (fun m hm=>px h21 m) ?_;rintro⟨⟩;refine wz ?_;rcases aa hF with⟨h22,hF⟩|⟨h22,hF⟩;refine an ?_;cases hF;exact ae () [2,1,3,4,5];refine an ?_;cases hF;exact ae () (V5 1 5);refine wz ?_;cases hF;exact ae () [1,0,2,3,4];rcases r13 with v8|_;rintro⟨⟩;refine wz ?_;obtain rfl:=SX hF;exact ar () (V5 0 5);rintro⟨⟩;refine dM ?_;cases hF;exact ar () (V5 0 5);rintro⟨⟩;refine an ?_;rcases aa hF with⟨h23,hF⟩|⟨h23,hF⟩;refine an ?_;cases hF;exact VQ (.cell (k:=2) bS rfl rfl rfl (.cell (k:=3) bS rfl rfl rfl .nil)) fun m' hm=>⟨(),rfl,(ah.aq [] rfl rfl) m' hm⟩;refine an ?_;obtain⟨r14,h24,hF⟩:=J hF;refine wq (fun _ (b10:Nat)=>(.func (.func 151) #[] #[ptr b10 0],(Ei b10 a0 l1 c0 b3 b0 b1 b2 []))) r14 (fun m hm=>?_) ?_;clear hF;revert r14;intro r hF;refine aW (N:=4) (rs:=[.tmp 2]) rfl Tryz.func134 rfl rfl rfl hm ?_;refine wz ?_;refine wb fun b16=>?_;refine an ?_;refine VB (jY rfl rfl) rfl ?_;refine an ?_;cases hF;exact ar b16 [0,2,1,3,4,5];rintro b10;refine wz ?_;refine VE ?_;obtain⟨r5,h25,hF⟩:=J hF;refine Wk.range (N:=27) (rs:=[]) (γ:=WC) (X:=fun g=>(fun(r:Int ⊕(WC)) (g:WC)=>(match r,g with|.inl v10,_=>⟨.done,(some .ret),[uS b3 a0 l1 c0,iq a0 c0 l1,.obj b0 (.cells [.int .i64 3] .own),eY b1 v10,fD b2 l1]⟩|.inr _,_=>⟨.ready,none,(uJ b3 a0 l1 c0 b0 b1 b2 [])⟩:Rn)) r5 g) rfl rfl Tryz.func151 rfl rfl rfl ?_ (fun y=>by rcases r5 with _|_<;>(intro e; cases e)) ?_
 clear hF;revert r5;intro r hF;intro t0 l5 r4 h26 h27;refine wz ?_;refine VE ?_;obtain⟨r15,h2,hF⟩:=J hF;refine ct (fun(r:Int ⊕(WC)) (g:WC)=>match r,g with|.inl v11,_=>⟨.ret,[],[.obj l5 (r4 .done (some .ret)),uS b3 a0 l1 c0,iq a0 c0 l1,.obj b0 (.cells [.int .i64 3] .own),eY b1 v11,fD b2 l1]⟩|.inr _,_=>⟨(.exit 0),[],(.obj l5 (r4 .ready none)::uJ b3 a0 l1 c0 b0 b1 b2 [])⟩) r15 ?_ ?_
 refine lo h2 () [0,1,2,3,4,5,6] (fun v4 _=>⟨.normal,[(0,.func (.yield l5) #[] #[]),(1,ptr b10 0),(5,bj a0 l1 c0),(6,dh l1),(7,aN v4)],(.obj l5 (r4 .ready none)::Ei b10 a0 l1 c0 b3 b0 b1 b2 [])⟩) ?_;clear hF h2;rintro v4 ⟨⟩ r hF;unfold rT at hF;refine wz ?_;refine VD ?_;rcases aa hF with⟨h28,hF⟩|⟨h28,hF⟩;refine an ?_;obtain⟨h29,hF⟩:=bE hF;refine VO (k:=2) rfl (aC h29) ?_;rintro b12 o3 rfl;refine wz ?_;obtain⟨⟨x20,x21⟩,h62,hF⟩:=J hF;refine wz ?_;refine wa iT fun b25=>?_;refine an ?_;obtain⟨h30,hF⟩:=aB hF;refine VB (aJ rfl rfl (cg _ _ h30)) rfl ?_;obtain⟨h63,hF⟩:=bE hF;refine wz ?_;obtain⟨⟨x22,x23⟩,h64,hF⟩:=J hF;refine wz ?_;refine VB (cL rfl z159 rfl (cJ vP rfl rfl rfl)) rfl ?_;obtain⟨r6,h6,hF⟩:=J hF;refine VL (yb (k:=2) (k1:=0) (γA:=Nat) (GA:=(fun g:Nat=>(match g with|b14=>⟨.normal,(rM b0 b1 [(6,ptr b14 0)]),(.obj l5 (r4 .ready none)::df b0::df b1::gL b14 v4 x20 x21 x22 x23::sd b3 b12 o3 l1 c0 [fD b2 l1,fU b10 b12 o3 l1 c0])⟩:En))) (γ:=WC) (G:=fun g=>(fun(r:WC ⊕(WC)) (g:WC)=>(match r,g with|.inl _,_=>⟨.ret,[],(.obj l5 (r4 .busy none)::sd b3 b12 o3 l1 c0 [.obj b0 (.cells [.int .i64 3] .own),eY b1 v4,fD b2 l1,fU b10 b12 o3 l1 c0])⟩|.inr _,_=>⟨.normal,[],(.obj l5 (r4 .busy none)::sd b3 b12 o3 l1 c0 [df b0,df b1,fD b2 l1,fU b10 b12 o3 l1 c0])⟩:En)) r6 g) rfl rfl rfl h27 h26 rfl ?_ (fun _=>rfl) (fun _=>rfl) ?_ (fun y=>by rcases r6 with _|_<;>rfl)) gn rfl ?_
 clear hF h6;refine VF<|wa z159 fun b17=>?_;refine wz ?_;exact ae b17 [3,7,8,0,6,2,5,9,4];clear hF;revert r6;intro r hF;rintro b14;refine wz ?_;refine VB (aJ rfl rfl (zV H4 (Fy _ _ _ _))) rfl ?_;refine wz ?_;rcases aa hF with⟨h7,hF⟩|⟨h7,hF⟩;refine VZ rfl h7<|VD<|VT (prs:=[(1,2)]) (by kernel_rfl)<|VC (aM (r:=ptr b14 0) rfl (pV _ _)) rfl<|VX rfl (aH (k:=3) bS rfl rfl rfl) rfl<|Wn.Bl rfl (ek (k:=1) bS rfl rfl rfl rfl rfl)<|V1 (ek (k:=2) bS rfl rfl rfl rfl rfl)<|VP (fun m hm=>(cA.rw rfl rfl rfl (hm.ne (i:=3) (j:=1) rfl rfl rfl rfl (by decide) rfl) cA.nil)) ?_
 refine an ?_;cases hF;exact ae () [0,4,5,6,1,2,7,8];refine wz ?_;cases hF;exact ae () [0,4,5,6,1,2,7,8];rcases r6 with _|_;rintro⟨⟩;refine an ?_;cases hF;exact ae () [0,1,3,4,5,6];rintro⟨⟩;refine dM ?_;cases hF;exact ae () [0,7,3,1,4,5,6];refine wz ?_;cases hF;exact ae () [0,3,2,4,5,6];rcases r15 with v11|_;rintro⟨⟩;refine At.br ?_;cases hF;exact VQ .nil fun m' hm=>⟨(),(ah.aq [0,1,2,3,4,5] rfl rfl) m' hm⟩;rintro⟨⟩;refine At.be ?_;cases hF;exact At.fin .nil fun m' hm=>⟨(),(ah.aq [0,1,2,3,4,5] rfl rfl) m' hm⟩;rcases r5 with v10|_;rintro⟨⟩
 change Wk _ _ _ _ .ret _ _ _ _
 refine wz ?_;cases hF;exact VQ (.cell (k:=2) bS rfl rfl rfl (.cell (k:=3) bS rfl rfl rfl .nil)) fun m' hm=>⟨(),rfl,(ah.aq [] rfl rfl) m' hm⟩;rintro⟨⟩
 change At _ .normal _ _ _
 refine an ?_;obtain⟨r16,h31,hF⟩:=J hF;refine wq (fun _ (b9:Nat)=>(.func (.func 151) #[] #[ptr b9 0],(Ei b9 a0 l1 c0 b3 b0 b1 b2 []))) r16 (fun m hm=>?_) ?_;clear hF;revert r16;intro r hF;refine aW (N:=4) (rs:=[.tmp 2]) rfl Tryz.func134 rfl rfl rfl hm ?_;refine wz ?_;refine wb fun b18=>?_;refine an ?_;refine VB (jY rfl rfl) rfl ?_;refine an ?_;cases hF;exact ar b18 [0,2,1,3,4,5];rintro b9;refine wz ?_;refine VE ?_;obtain⟨r7,h32,hF⟩:=J hF;refine Wk.range (N:=27) (rs:=[]) (γ:=WC) (X:=fun g=>(fun(r:Int ⊕(WC)) (g:WC)=>(match r,g with|.inl v12,_=>⟨.done,(some .ret),[uS b3 a0 l1 c0,iq a0 c0 l1,.obj b0 (.cells [.int .i64 4] .own),eY b1 v12,fD b2 l1]⟩|.inr _,_=>⟨.ready,none,(uJ b3 a0 l1 c0 b0 b1 b2 [])⟩:Rn)) r7 g) rfl rfl Tryz.func151 rfl rfl rfl ?_ (fun y=>by rcases r7 with _|_<;>(intro e; cases e)) ?_
 clear hF;revert r7;intro r hF;intro t1 l4 r3 h33 h34;refine wz ?_;refine VE ?_;obtain⟨r17,h3,hF⟩:=J hF;refine ct (fun(r:Int ⊕(WC)) (g:WC)=>match r,g with|.inl v13,_=>⟨.ret,[],[.obj l4 (r3 .done (some .ret)),uS b3 a0 l1 c0,iq a0 c0 l1,.obj b0 (.cells [.int .i64 4] .own),eY b1 v13,fD b2 l1]⟩|.inr _,_=>⟨(.exit 0),[],(.obj l4 (r3 .ready none)::uJ b3 a0 l1 c0 b0 b1 b2 [])⟩) r17 ?_ ?_
 refine lo h3 () [0,1,2,3,4,5,6] (fun v1 _=>⟨.normal,[(0,.func (.yield l4) #[] #[]),(1,ptr b9 0),(5,bj a0 l1 c0),(6,dh l1),(7,aN v1)],(.obj l4 (r3 .ready none)::Ei b9 a0 l1 c0 b3 b0 b1 b2 [])⟩) ?_;clear hF h3;rintro v1 ⟨⟩ r hF;unfold sU at hF;refine wz ?_;refine VD ?_;rcases aa hF with⟨h35,hF⟩|⟨h35,hF⟩;refine an ?_;obtain⟨h36,hF⟩:=bE hF;refine VO (k:=2) rfl (aC h36) ?_;rintro b11 o2 rfl;refine wz ?_;obtain⟨⟨x12,x13⟩,h65,hF⟩:=J hF;refine wz ?_;refine wa iT fun b26=>?_;refine an ?_;obtain⟨h37,hF⟩:=aB hF;refine VB (aJ rfl rfl (cg _ _ h37)) rfl ?_;obtain⟨h66,hF⟩:=bE hF;refine wz ?_;obtain⟨⟨x14,x15⟩,h67,hF⟩:=J hF;refine wz ?_;refine VB (cL rfl z159 rfl (cJ vP rfl rfl rfl)) rfl ?_;obtain⟨r8,h8,hF⟩:=J hF;refine VL (yb (k:=2) (k1:=0) (γA:=Nat) (GA:=(fun g:Nat=>(match g with|b6=>⟨.normal,((1,ptr b3 0)::rM b0 b1 [(4,ptr b2 0),(7,ptr b6 0)]),(.obj l4 (r3 .ready none)::sd b3 b11 o2 l1 c0 [df b0,df b1,fD b2 l1,gL b6 v1 x12 x13 x14 x15,fU b9 b11 o2 l1 c0])⟩:En))) (γ:=WC) (G:=fun g=>(fun(r:WC ⊕(WC)) (g:WC)=>(match r,g with|.inl _,_=>⟨.ret,[],(.obj l4 (r3 .busy none)::sd b3 b11 o2 l1 c0 [.obj b0 (.cells [.int .i64 4] .own),eY b1 v1,fD b2 l1,fU b9 b11 o2 l1 c0])⟩|.inr _,_=>⟨.normal,[],(.obj l4 (r3 .busy none)::sd b3 b11 o2 l1 c0 [df b0,df b1,fD b2 l1,fU b9 b11 o2 l1 c0])⟩:En)) r8 g) rfl rfl rfl h34 h33 rfl ?_ (fun _=>rfl) (fun _=>rfl) ?_ (fun y=>by rcases r8 with _|_<;>rfl)) gn rfl ?_
 clear hF h8;refine VF<|wa z159 fun b19=>?_;refine wz ?_;exact ae b19 [3,6,2,5,7,8,9,0,4];clear hF;revert r8;intro r hF;rintro b6;refine VE<|VD<|Wk.draw (by kernel_rfl)<|VB (aH (k:=1) QC rfl rfl rfl) rfl<|VB (aM (r:=ptr b6 0) rfl (pV _ _)) rfl<|VB (aH (k:=7) bS rfl rfl rfl) rfl<|VB (aH (k:=6) bS rfl rfl rfl) rfl<|VB (aJ rfl rfl (bM _ _ _)) rfl<|VB (aJ rfl rfl (bJ _ _ _)) rfl<|VB (aH (k:=6) bS rfl rfl rfl) rfl ?_
 obtain⟨h38,hF⟩:=aB hF;obtain⟨y0,h39,hF⟩:=J hF;refine VB (aJ rfl rfl ((cg _ _ h38).trans (cI h39))) rfl ?_;obtain⟨h68,hF⟩:=bE hF;refine wz ?_;obtain⟨⟨x26,x27⟩,h69,hF⟩:=J hF;refine wz ?_;refine wa iT fun b15=>?_;refine wz ?_;refine VD ?_;obtain⟨v5,h40,hF⟩:=J hF;refine ct (fun v5 (_:WC)=>⟨.normal,((1,ptr b3 0)::rM b0 b1 [(4,ptr b2 0),(7,ptr b6 0),(85,.bool v5)]),(.obj l4 (r3 .busy none)::sd b3 b11 o2 l1 c0 [df b0,df b1,fD b2 l1,gL b6 v1 x12 x13 x14 x15,fU b9 b11 o2 l1 c0])⟩) v5 ?_ ?_;clear hF;revert v5;intro r hF;refine wz ?_;obtain⟨r23,h41,hF⟩:=J hF;refine wc gn (fun m hm=>mV h41 m) ?_;rintro⟨⟩;refine wz ?_;rcases aa hF with⟨h0,hF⟩|⟨h0,hF⟩;refine VM (aM (r:=ptr b6 1) rfl (fP _ _)) (gg rfl rfl (dL h0)) rfl<|VM (aM (r:=ptr b6 1) rfl (du _ _)) (gg rfl rfl (dL h0)) rfl<|VM (aH (k:=8) bS rfl rfl rfl) (gg rfl rfl (dL h0)) rfl<|VM (aM (r:=ptr b15 0) rfl (du _ _)) (gg rfl rfl (dL h0)) rfl<|VM (aH (k:=0) bS rfl rfl rfl) (gg rfl rfl (dL h0)) rfl<|VM (aJ rfl rfl (bJ _ _ _)) (gg rfl rfl (dL h0)) rfl<|VM (aM (r:=ptr b6 3) rfl (ib _ _)) (gg rfl rfl (dL h0)) rfl<|VM (aM (r:=ptr b6 3) rfl (du _ _)) (gg rfl rfl (dL h0)) rfl<|VM (aH (k:=8) bS rfl rfl rfl) (gg rfl rfl (dL h0)) rfl<|VM (aM (r:=ptr b6 1) rfl (fP _ _)) (gg rfl rfl (dL h0)) rfl<|VM (aM (r:=ptr b6 1) rfl (du _ _)) (gg rfl rfl (dL h0)) rfl<|VM (aH (k:=8) bS rfl rfl rfl) (gg rfl rfl (dL h0)) rfl<|VM (aJ rfl rfl (bJ _ _ _)) (gg rfl rfl (dL h0)) rfl ?_;obtain⟨y1,h42,hF⟩:=J hF;refine VM (aJ rfl rfl ((bT _ _ _).trans (cI h42))) (gg rfl rfl (dL h0)) rfl<|VM (aM (r:=ptr b6 1) rfl (fP _ _)) (gg rfl rfl (dL h0)) rfl<|VM (aM (r:=ptr b6 2) rfl (cG _ _)) (gg rfl rfl (dL h0)) rfl<|VM (aH (k:=8) bS rfl rfl rfl) (gg rfl rfl (dL h0)) rfl<|VM (aM (r:=ptr b15 1) rfl (cG _ _)) (gg rfl rfl (dL h0)) rfl<|VM (aH (k:=0) bS rfl rfl rfl) (gg rfl rfl (dL h0)) rfl<|VM (aJ rfl rfl (bJ _ _ _)) (gg rfl rfl (dL h0)) rfl<|VM (aM (r:=ptr b6 3) rfl (ib _ _)) (gg rfl rfl (dL h0)) rfl<|VM (aM (r:=ptr b6 4) rfl (cG _ _)) (gg rfl rfl (dL h0)) rfl<|VM (aH (k:=8) bS rfl rfl rfl) (gg rfl rfl (dL h0)) rfl<|VM (aM (r:=ptr b6 1) rfl (fP _ _)) (gg rfl rfl (dL h0)) rfl<|VM (aM (r:=ptr b6 2) rfl (cG _ _)) (gg rfl rfl (dL h0)) rfl<|VM (aH (k:=8) bS rfl rfl rfl) (gg rfl rfl (dL h0)) rfl<|VM (aJ rfl rfl (bJ _ _ _)) (gg rfl rfl (dL h0)) rfl ?_;obtain⟨y2,h43,hF⟩:=J hF;refine VM (aJ rfl rfl ((bT _ _ _).trans (cI h43))) (gg rfl rfl (dL h0)) rfl ?_;refine wz ?_;cases hF;exact ae () (V5 1 9);refine wz ?_;cases hF;exact ae () (V5 1 9);rintro⟨⟩;refine VI ?_;rcases aa hF with⟨h9,hF⟩|⟨h9,hF⟩;refine VZ rfl h9<|VD<|VT (prs:=[(1,2)]) (by kernel_rfl)<|VC (aM (r:=ptr b6 0) rfl (pV _ _)) rfl<|VX rfl (aH (k:=7) bS rfl rfl rfl) rfl<|Wn.Bl rfl (ek (k:=4) bS rfl rfl rfl rfl rfl)<|V1 (ek (k:=5) bS rfl rfl rfl rfl rfl)<|VP (fun m hm=>(cA.rw rfl rfl rfl (hm.ne (i:=7) (j:=4) rfl rfl rfl rfl (by decide) rfl) cA.nil)) ?_
 refine an ?_;cases hF;exact ae () [0,1,2,3,4,5,6,8];refine wz ?_;cases hF;exact ae () [0,1,2,3,4,5,6,8];rcases r8 with _|_;rintro⟨⟩;refine an ?_;cases hF;exact ae () [0,1,3,4,5,6];rintro⟨⟩;refine dM ?_;cases hF;exact ae () [0,7,3,1,4,5,6];refine wz ?_;cases hF;exact ae () [0,3,2,4,5,6];rcases r17 with v13|_;rintro⟨⟩;refine At.br ?_;cases hF;exact VQ .nil fun m' hm=>⟨(),(ah.aq [0,1,2,3,4,5] rfl rfl) m' hm⟩;rintro⟨⟩;refine At.be ?_;cases hF;exact At.fin .nil fun m' hm=>⟨(),(ah.aq [0,1,2,3,4,5] rfl rfl) m' hm⟩;rcases r7 with v12|_;rintro⟨⟩
 change Wk _ _ _ _ .ret _ _ _ _
 refine wz ?_;cases hF;exact VQ (.cell (k:=2) bS rfl rfl rfl (.cell (k:=3) bS rfl rfl rfl .nil)) fun m' hm=>⟨(),rfl,(ah.aq [] rfl rfl) m' hm⟩;rintro⟨⟩
 change At _ .normal _ _ _
 refine an ?_;obtain⟨r18,h44,hF⟩:=J hF;refine wq (fun _ (b5:Nat)=>(.func (.func 151) #[] #[ptr b5 0],(Ei b5 a0 l1 c0 b3 b0 b1 b2 []))) r18 (fun m hm=>?_) ?_;clear hF;revert r18;intro r hF;refine aW (N:=4) (rs:=[.tmp 2]) rfl Tryz.func134 rfl rfl rfl hm ?_;refine wz ?_;refine wb fun b20=>?_;refine an ?_;refine VB (jY rfl rfl) rfl ?_;refine an ?_;cases hF;exact ar b20 [0,2,1,3,4,5];rintro b5;refine wz ?_;refine VE ?_;obtain⟨r9,h45,hF⟩:=J hF;refine Wk.range (N:=27) (rs:=[]) (γ:=WC) (X:=fun g=>(fun(r:Int ⊕(WC)) (g:WC)=>(match r,g with|.inl v14,_=>⟨.done,(some .ret),[uS b3 a0 l1 c0,iq a0 c0 l1,EH b0,eY b1 v14,fD b2 l1]⟩|.inr _,_=>⟨.ready,none,(uJ b3 a0 l1 c0 b0 b1 b2 [])⟩:Rn)) r9 g) rfl rfl Tryz.func151 rfl rfl rfl ?_ (fun y=>by rcases r9 with _|_<;>(intro e; cases e)) ?_
 clear hF;revert r9;intro r hF;intro t2 l2 r0 h46 h10;refine wz ?_;refine VE ?_;obtain⟨r19,h4,hF⟩:=J hF;refine ct (fun(r:Int ⊕(WC)) (g:WC)=>match r,g with|.inl v15,_=>⟨.ret,[],[.obj l2 (r0 .done (some .ret)),uS b3 a0 l1 c0,iq a0 c0 l1,EH b0,eY b1 v15,fD b2 l1]⟩|.inr _,_=>⟨(.exit 0),[],(.obj l2 (r0 .ready none)::uJ b3 a0 l1 c0 b0 b1 b2 [])⟩) r19 ?_ ?_
 refine lo h4 () [0,1,2,3,4,5,6] (fun v0 _=>⟨.normal,[(0,.func (.yield l2) #[] #[]),(1,ptr b5 0),(5,bj a0 l1 c0),(6,dh l1),(7,aN v0)],(.obj l2 (r0 .ready none)::Ei b5 a0 l1 c0 b3 b0 b1 b2 [])⟩) ?_;clear hF h4;rintro v0 ⟨⟩ r hF;unfold tR at hF;refine wz ?_;refine VD ?_;rcases aa hF with⟨h47,hF⟩|⟨h47,hF⟩;refine an ?_;obtain⟨h48,hF⟩:=bE hF;refine VO (k:=2) rfl (aC h48) ?_;rintro b4 o1 rfl;refine wz ?_;obtain⟨⟨x3,x4⟩,h70,hF⟩:=J hF;refine wz ?_;refine wa iT fun b27=>?_;refine an ?_;obtain⟨h49,hF⟩:=aB hF;refine VB (aJ rfl rfl (cg _ _ h49)) rfl ?_;obtain⟨h71,hF⟩:=bE hF;refine wz ?_;obtain⟨⟨x10,x11⟩,h72,hF⟩:=J hF;refine wz ?_;refine VB (cL rfl z159 rfl (cJ vP rfl rfl rfl)) rfl ?_;obtain⟨r10,h11,hF⟩:=J hF;refine VL (yb (k:=2) (k1:=0) (γA:=Nat) (GA:=(fun g:Nat=>(match g with|b7=>⟨.normal,((1,ptr b3 0)::rM b0 b1 [(4,ptr b2 0),(9,ptr b7 0)]),(.obj l2 (r0 .ready none)::sd b3 b4 o1 l1 c0 [df b0,df b1,fD b2 l1,gL b7 v0 x3 x4 x10 x11,fU b5 b4 o1 l1 c0])⟩:En))) (γ:=WC) (G:=fun g=>(fun(r:WC ⊕(WC)) (g:WC)=>(match r,g with|.inl _,_=>⟨.normal,[],(.obj l2 (r0 .busy none)::sd b3 b4 o1 l1 c0 [df b0,df b1,fD b2 l1,fU b5 b4 o1 l1 c0])⟩|.inr _,_=>⟨.ret,[],(.obj l2 (r0 .busy none)::sd b3 b4 o1 l1 c0 [EH b0,eY b1 v0,fD b2 l1,fU b5 b4 o1 l1 c0])⟩:En)) r10 g) rfl rfl rfl h10 h46 rfl ?_ (fun _=>rfl) (fun _=>rfl) ?_ (fun y=>by rcases r10 with _|_<;>rfl)) gn rfl ?_
 clear hF h11;refine VF<|wa z159 fun b21=>?_;refine wz ?_;exact ae b21 [3,6,2,5,7,8,9,0,4];clear hF;revert r10;intro r hF;rintro b7;refine wz ?_;obtain⟨r20,h50,hF⟩:=J hF;refine wq (fun _ (b8:Nat)=>(.func (.func 151) #[] #[ptr b8 0],(.obj l2 (r0 .busy none)::sd b8 b4 o1 l1 c0 [fU b3 b4 o1 l1 c0,df b0,df b1,fD b2 l1,fU b5 b4 o1 l1 c0,gL b7 v0 x3 x4 x10 x11]))) r20 (fun m hm=>?_) ?_;clear hF;revert r20;intro r hF;refine aW (N:=4) (rs:=[.tmp 2]) rfl Tryz.func134 rfl rfl rfl hm ?_;refine wz ?_;refine wb fun b22=>?_;refine an ?_;refine VB (jY rfl rfl) rfl ?_;refine an ?_;cases hF;exact ar b22 [1,0,3,4,2,5,6,7,9,8];rintro b8;refine wz ?_;refine VE ?_;obtain⟨r11,h51,hF⟩:=J hF;refine Wk.NG (k0:=0) (N:=27) (rs:=[]) (γ:=WC) (X:=fun g=>(fun(r:WC ⊕(WC ⊕(WC))) (g:WC)=>(match r,g with|.inl _,_=>⟨.done,(some (.exit 6)),(.obj l2 (r0 .busy none)::sd b3 b4 o1 l1 c0 [df b0,df b1,fD b2 l1,fU b5 b4 o1 l1 c0,gL b7 v0 x3 x4 x10 x11])⟩|.inr (.inl _),_=>⟨.done,(some .ret),(.obj l2 (r0 .busy none)::sd b3 b4 o1 l1 c0 [EH b0,eY b1 v0,fD b2 l1,fU b5 b4 o1 l1 c0,gL b7 v0 x3 x4 x10 x11])⟩|.inr (.inr _),_=>⟨.ready,none,(.obj l2 (r0 .busy none)::sd b3 b4 o1 l1 c0 [df b0,df b1,fD b2 l1,fU b5 b4 o1 l1 c0,gL b7 v0 x3 x4 x10 x11])⟩:Rn)) r11 g) rfl rfl Tryz.func151 rfl rfl rfl h10 rfl ?_ (fun y=>by rcases r11 with _|_|_<;>(intro e; cases e)) ?_
 clear hF;revert r11;intro r hF;intro t3 l3 r1 h52 h53;refine wz ?_;refine VE ?_;obtain⟨r21,h5,hF⟩:=J hF;refine ct (fun(r:WC ⊕(WC ⊕(WC))) (g:WC)=>match r,g with|.inl _,_=>⟨.ret,[],(.obj l3 (r1 .done (some (.exit 6)))::.obj l2 (r0 .busy none)::sd b3 b4 o1 l1 c0 [df b0,df b1,fD b2 l1,fU b5 b4 o1 l1 c0,gL b7 v0 x3 x4 x10 x11])⟩|.inr (.inl _),_=>⟨.ret,[],(.obj l3 (r1 .done (some .ret))::.obj l2 (r0 .busy none)::sd b3 b4 o1 l1 c0 [EH b0,eY b1 v0,fD b2 l1,fU b5 b4 o1 l1 c0,gL b7 v0 x3 x4 x10 x11])⟩|.inr (.inr _),_=>⟨(.exit 0),[],(.obj l3 (r1 .ready none)::.obj l2 (r0 .busy none)::sd b3 b4 o1 l1 c0 [df b0,df b1,fD b2 l1,fU b5 b4 o1 l1 c0,gL b7 v0 x3 x4 x10 x11])⟩) r21 ?_ ?_
 refine lo h5 () [0,1,2,3,4,5,6,7,8,9,10] (fun v6 _=>⟨.normal,[(0,.func (.yield l3) #[] #[]),(1,ptr b8 0),(5,nQ b4 o1 l1 c0),(6,dh l1),(7,aN v6)],(.obj l3 (r1 .ready none)::.obj l2 (r0 .busy none)::sd b8 b4 o1 l1 c0 [fU b3 b4 o1 l1 c0,df b0,df b1,fD b2 l1,fU b5 b4 o1 l1 c0,gL b7 v0 x3 x4 x10 x11])⟩) ?_;clear hF h5;rintro v6 ⟨⟩ r hF;unfold ui at hF;refine wz ?_;refine VD ?_;rcases aa hF with⟨h54,hF⟩|⟨h54,hF⟩;refine an ?_;obtain⟨h73,hF⟩:=bE hF;refine wz ?_;obtain⟨⟨x16,x17⟩,h74,hF⟩:=J hF;refine wz ?_;refine wa iT fun b28=>?_;refine an ?_;obtain⟨h55,hF⟩:=aB hF;refine VB (aJ rfl rfl (cg _ _ h55)) rfl ?_;obtain⟨h75,hF⟩:=bE hF;refine wz ?_;obtain⟨⟨x18,x19⟩,h76,hF⟩:=J hF;refine wz ?_;refine VB (cL rfl z159 rfl (cJ vP rfl rfl rfl)) rfl ?_;obtain⟨r12,h12,hF⟩:=J hF;refine VL (yb (k:=1) (k1:=0) (γA:=Nat) (GA:=(fun g:Nat=>(match g with|b13=>⟨.normal,(rM b0 b1 [(4,ptr b2 0),(9,ptr b7 0),(10,ptr b13 0)]),(.obj l3 (r1 .ready none)::.obj l2 (r0 .busy none)::df b0::df b1::fD b2 l1::gL b7 v0 x3 x4 x10 x11::gL b13 v6 x16 x17 x18 x19::sd b3 b4 o1 l1 c0 [fU b5 b4 o1 l1 c0,fU b8 b4 o1 l1 c0])⟩:En))) (γ:=WC) (G:=fun g=>(fun(r:WC ⊕(WC ⊕(WC))) (g:WC)=>(match r,g with|.inl _,_=>⟨(.exit 6),[],(.obj l3 (r1 .busy none)::.obj l2 (r0 .busy none)::sd b3 b4 o1 l1 c0 [df b0,df b1,fD b2 l1,fU b5 b4 o1 l1 c0,gL b7 v0 x3 x4 x10 x11,fU b8 b4 o1 l1 c0])⟩|.inr (.inl _),_=>⟨.normal,[],(.obj l3 (r1 .busy none)::.obj l2 (r0 .busy none)::sd b3 b4 o1 l1 c0 [df b0,df b1,fD b2 l1,fU b5 b4 o1 l1 c0,gL b7 v0 x3 x4 x10 x11,fU b8 b4 o1 l1 c0])⟩|.inr (.inr _),_=>⟨.ret,[],(.obj l3 (r1 .busy none)::.obj l2 (r0 .busy none)::sd b3 b4 o1 l1 c0 [EH b0,eY b1 v0,fD b2 l1,fU b5 b4 o1 l1 c0,gL b7 v0 x3 x4 x10 x11,fU b8 b4 o1 l1 c0])⟩:En)) r12 g) rfl rfl rfl h53 h52 rfl ?_ (fun _=>rfl) (fun _=>rfl) ?_ (fun y=>by rcases r12 with _|_|_<;>rfl)) gn rfl ?_
 clear hF h12;refine VF<|wa z159 fun b23=>?_;refine wz ?_;exact ae b23 [2,3,8,9,10,12,0,7,5,6,11,4];clear hF;revert r12;intro r hF;rintro b13;refine wz ?_;rcases aa hF with⟨h56,hF⟩|⟨h56,hF⟩;refine wz ?_;cases hF;exact ae () [0,1,7,8,9,2,3,4,10,5,11];refine wz ?_;refine VD<|VD ?_;obtain⟨v7,h57,hF⟩:=J hF;refine ct (fun v7 (_:WC)=>⟨.normal,(rM b0 b1 [(4,ptr b2 0),(9,ptr b7 0),(10,ptr b13 0),(109,.bool v7)]),(.obj l3 (r1 .busy none)::.obj l2 (r0 .busy none)::df b0::df b1::fD b2 l1::gL b7 v0 x3 x4 x10 x11::gL b13 v6 x16 x17 x18 x19::sd b3 b4 o1 l1 c0 [fU b5 b4 o1 l1 c0,fU b8 b4 o1 l1 c0])⟩) v7 ?_ ?_;clear hF;revert v7;intro r hF;refine wz ?_;rcases aa hF with⟨h58,hF⟩|⟨h58,hF⟩;refine wz ?_;cases hF;exact ae () (V5 0 12);refine wz ?_;cases hF;exact ae () (V5 0 12);rintro⟨⟩;refine VI ?_;rcases aa hF with⟨h59,hF⟩|⟨h59,hF⟩;refine wz ?_;cases hF;exact ae () [0,1,7,8,9,2,3,4,10,5,11];refine an ?_;obtain⟨r24,h60,hF⟩:=J hF;refine wc gn (fun m hm=>Ci h60 m) ?_;rintro⟨⟩;refine wz ?_;rcases aa hF with⟨h13,hF⟩|⟨h13,hF⟩;refine VZ rfl h13<|VD<|VT (prs:=[(1,2)]) (by kernel_rfl)<|VC (aM (r:=ptr b7 0) rfl (pV _ _)) rfl<|VX rfl (aH (k:=5) bS rfl rfl rfl) rfl<|Wn.Bl rfl (ek (k:=2) bS rfl rfl rfl rfl rfl)<|V1 (ek (k:=3) bS rfl rfl rfl rfl rfl)<|VP (fun m hm=>(cA.rw rfl rfl rfl (hm.ne (i:=5) (j:=2) rfl rfl rfl rfl (by decide) rfl) cA.nil)) ?_
 refine an ?_;cases hF;exact ae () [0,1,7,8,9,2,3,4,10,5,11];refine wz ?_;cases hF;exact ae () [0,1,7,8,9,2,3,4,10,5,11];rcases r12 with _|_|_;rintro⟨⟩;refine an ?_;cases hF;exact ae () (V5 0 10);rintro⟨⟩;refine dM ?_;cases hF;exact ae () [0,1,10,3,4,2,5,6,7,8,9];rintro⟨⟩;refine an ?_;cases hF;exact ae () (V5 0 10);refine wz ?_;cases hF;exact ae () [0,1,5,3,4,6,7,8,9,10];rcases r21 with _ |(_|_);rintro⟨⟩;refine At.br ?_;cases hF;exact VQ .nil fun m' hm=>⟨(),(ah.aq [0,1,2,3,4,5,6,7,8,9] rfl rfl) m' hm⟩;rintro⟨⟩;refine At.br ?_;cases hF;exact VQ .nil fun m' hm=>⟨(),(ah.aq [0,1,2,3,4,5,6,7,8,9] rfl rfl) m' hm⟩;rintro⟨⟩;refine At.be ?_;cases hF;exact At.fin .nil fun m' hm=>⟨(),(ah.aq [0,1,2,3,4,5,6,7,8,9] rfl rfl) m' hm⟩;rcases r11 with _|_|_;rintro⟨⟩
 change Wk _ _ _ _ (.exit 6) _ _ _ _
 refine wz ?_;cases hF;exact ae () (V5 0 8);rintro⟨⟩
 change Wk _ _ _ _ .ret _ _ _ _
 refine wz ?_;cases hF;exact ae () (V5 0 8);rintro⟨⟩
 change At _ .normal _ _ _
 refine wz ?_;cases hF;exact ae () (V5 0 8);rcases r10 with _|_;rintro⟨⟩;refine dM ?_;cases hF;exact ae () [0,7,3,1,4,5,6];rintro⟨⟩;refine an ?_;cases hF;exact ae () [0,1,3,4,5,6];refine wz ?_;cases hF;exact ae () [0,3,2,4,5,6];rcases r19 with v15|_;rintro⟨⟩;refine At.br ?_;cases hF;exact VQ .nil fun m' hm=>⟨(),(ah.aq [0,1,2,3,4,5] rfl rfl) m' hm⟩;rintro⟨⟩;refine At.be ?_;cases hF;exact At.fin .nil fun m' hm=>⟨(),(ah.aq [0,1,2,3,4,5] rfl rfl) m' hm⟩;rcases r9 with v14|_;rintro⟨⟩
 change Wk _ _ _ _ .ret _ _ _ _
 refine wz ?_;cases hF;exact VQ (.cell (k:=2) bS rfl rfl rfl (.cell (k:=3) bS rfl rfl rfl .nil)) fun m' hm=>⟨(),rfl,(ah.aq [] rfl rfl) m' hm⟩;rintro⟨⟩
 change At _ .normal _ _ _
 refine dM ?_;cases hF;exact VQ (.cell (k:=2) bS rfl rfl rfl (.cell (k:=3) bS rfl rfl rfl .nil)) fun m' hm=>⟨(),rfl,(ah.aq [] rfl rfl) m' hm⟩
def M3{n l1 a2 c3 r}(hF:PI n l1=some r)(m)(h4:dZ m a2 c3 l1):
 aG (We p q) 81 [bj a2 l1 c3] m (Wa m (.int .i64 r)):=by
 unfold PI at hF;refine cw Tryz.func81 (VJ (VG m) bX h4) ?_;refine an ?_;obtain⟨⟨r6,r7⟩,h5,hF⟩:=J hF;refine wc gn (fun m hm=>KB h5 m (hm.q 0)) ?_;rintro⟨⟩;refine an ?_;rcases aa hF with⟨h8,hF⟩|⟨h8,hF⟩;refine an ?_;cases hF;exact ar () [];refine dM ?_;cases hF;exact ar () []
def Ha{n l1 a2 c3 r}(hF:O7 n l1=some r)(m)(h4:dZ m a2 c3 l1):
 aG (We p q) 55 [bj a2 l1 c3] m (Wa m (.int .i64 r)):=by
 unfold O7 at hF;refine cw Tryz.func55 (VJ (VG m) bX h4) ?_;refine dM ?_;refine VE ?_;obtain⟨v27,h44,hF⟩:=J hF;refine ct (fun v27 (_:WC)=>⟨(.exit 0),[(3,aN v27)],[]⟩) v27 ?_ ?_;refine lo h44 () [0] (fun(v7,v8) _=>⟨.normal,((0,bj a2 l1 c3)::(3,aN v7)::Al a2 l1 c3 v8 []),[iq a2 c3 l1]⟩) ?_;clear hF h44;rintro⟨v7,v8⟩ ⟨⟩ r hF;unfold wo at hF;refine wz ?_;refine VD ?_;rcases aa hF with⟨h28,hF⟩|⟨h28,hF⟩;refine an ?_;obtain⟨h29,hF⟩:=bE hF;refine VO (k:=0) rfl (aC h29) ?_;rintro b30 o31 rfl;refine wz ?_;obtain⟨⟨x32,x33⟩,h34,hF⟩:=J hF;refine wz ?_;refine wa iT fun b35=>?_;refine an ?_;obtain⟨h36,hF⟩:=aB hF;refine VB (aJ rfl rfl (cg _ _ h36)) rfl ?_;obtain⟨h37,hF⟩:=bE hF;refine wz ?_;obtain⟨⟨x38,x39⟩,h40,hF⟩:=J hF;refine wz ?_;refine wa iT fun b41=>?_;refine an ?_;refine VB (aJ rfl rfl (bT _ _ _)) rfl ?_;refine wz ?_;refine VB (aJ rfl rfl (bT _ _ _)) rfl ?_;obtain⟨y42,h43,hF⟩:=J hF;refine VB (aJ rfl rfl ((bJ _ _ _).trans (cI h43))) rfl ?_;refine an ?_;cases hF;exact ae () [3];refine wz ?_;cases hF;exact ae () [];rintro⟨⟩;refine dM ?_;obtain rfl:=SX hF;exact ar () []
def Kt{n x1 x2 x3 x4 x5 x6 x7 x8 r}(hF:Gn n x1 x2 x3 x4 x5 x6 x7 x8=some r)(m):
 aG (We p q) 137 [fy x1 x2,fy x3 x4,fy x5 x6,fy x7 x8] m (Wa m (.tuple #[.int .i64 r.1,.int .i64 r.2])):=by
 unfold Gn at hF;refine cw Tryz.func137 (VG m) ?_;refine wz ?_;refine wb fun b9=>?_;refine wb fun b10=>?_;refine wb fun b11=>?_;refine wb fun b12=>?_;refine wz ?_;refine VD<|VD ?_;obtain⟨v56,h70,hF⟩:=J hF;refine ct (fun v56 (_:WC)=>⟨.normal,[(4,ptr b9 0),(5,ptr b10 0),(6,ptr b11 0),(7,ptr b12 0),(33,.bool v56)],[ef b9 x1 x2,ef b10 x3 x4,ef b11 x5 x6,ef b12 x7 x8]⟩) v56 ?_ ?_;clear hF;revert v56;intro r hF;refine wz ?_;obtain⟨r58,h57,hF⟩:=J hF;refine wc gn (fun m hm=>px h57 m) ?_;rintro⟨⟩;refine wz ?_;rcases aa hF with⟨h59,hF⟩|⟨h59,hF⟩;refine wz ?_;cases hF;exact ae () [3,2,1,0];refine wz ?_;obtain⟨r61,h60,hF⟩:=J hF;refine wc (gg rfl rfl (jG h59)) (fun m hm=>px h60 m) ?_;rintro⟨⟩;refine wz ?_;rcases aa hF with⟨h62,hF⟩|⟨h62,hF⟩;refine wz ?_;cases hF;exact ae () [3,2,1,0];refine wz ?_;obtain⟨r64,h63,hF⟩:=J hF;refine wc (gg rfl rfl (jG h62)) (fun m hm=>px h63 m) ?_;rintro⟨⟩;refine wz ?_;rcases aa hF with⟨h65,hF⟩|⟨h65,hF⟩;refine wz ?_;cases hF;exact ae () [3,2,1,0];refine wz ?_;obtain⟨r67,h66,hF⟩:=J hF;refine wc (gg rfl rfl (jG h65)) (fun m hm=>px h66 m) ?_;rintro⟨⟩;refine wz ?_;rcases aa hF with⟨h68,hF⟩|⟨h68,hF⟩;refine wz ?_;cases hF;exact ae () [3,2,1,0];refine wz ?_;refine VM (aJ rfl rfl (zV H4 (Fy _ _ _ _))) (gg rfl rfl (jG h68)) rfl ?_;refine wz ?_;rcases aa hF with⟨h69,hF⟩|⟨h69,hF⟩;refine wz ?_;cases hF;exact ae () [3,2,1,0];refine wz ?_;refine VM (aJ rfl rfl (zV H4 (Fy _ _ _ _))) (gg rfl rfl (jG h69)) rfl ?_;refine wz ?_;cases hF;exact ae () [3,2,1,0];rintro⟨⟩;refine VI ?_;rcases aa hF with⟨h72,hF⟩|⟨h72,hF⟩;refine an ?_;cases hF;exact ar () [];refine an ?_;refine VB (cL rfl z159 rfl (cJ vP rfl rfl rfl)) rfl ?_;refine wz ?_;refine VB (cL rfl z159 rfl (cJ vP rfl rfl rfl)) rfl ?_;obtain⟨r74,h73,hF⟩:=J hF;refine wc gn (fun m hm=>Ci h73 m) ?_;rintro⟨⟩;refine an ?_;cases hF;exact ar () []
def Lr{n l1 l5 x12 x13 x14 x15 x16 x17 x18 x19 a2 c3 a6 c7}{rr8:Vr}{es9:Vp}{r}(hF:FY n l1 l5 x12 x13 x14 x15 x16 x17 x18 x19=some r)(m)(h4:dZ m a2 c3 l1)(h10:fN m a6 c7 l5 es9)(h11:(bY aj rr8 l5 es9).P m):
 aG (We p q) 113 [eu a2 l1 c3 a6 l5 c7,FV x12 x13 x14 x15,FV x16 x17 x18 x19] m (Wa m (.bool r)):=by
 unfold FY at hF;refine cw Tryz.func113 (VW (VJ (VJ (VG m) bX h4) (bU bX) h10) (bU (bU bX)) h11) ?_;refine wz ?_;refine wb fun b20=>?_;refine wb fun b21=>?_;refine wb fun b22=>?_;refine wz ?_;refine VD<|VD ?_;obtain⟨v39,h44,hF⟩:=J hF;refine ct (fun v39 (_:WC)=>⟨.normal,[(3,ptr b20 0),(4,ptr b21 0),(5,ptr b22 0),(34,.bool v39)],(cV b20 a2 l1 c3 a6 l5 c7 es9 aj rr8 [fF b21 x12 x13 x14 x15,fF b22 x16 x17 x18 x19])⟩) v39 ?_ ?_;clear hF;revert v39;intro r hF;refine wz ?_;rcases aa hF with⟨h40,hF⟩|⟨h40,hF⟩;refine wz ?_;rcases aa hF with⟨h41,hF⟩|⟨h41,hF⟩;refine wz ?_;cases hF;exact ae () [2,5,4,3,1,0];refine wz ?_;rcases aa hF with⟨h42,hF⟩|⟨h42,hF⟩;refine wz ?_;cases hF;exact ae () [2,5,4,3,1,0];refine wz ?_;cases hF;exact ae () [2,5,4,3,1,0];refine wz ?_;rcases aa hF with⟨h43,hF⟩|⟨h43,hF⟩;refine wz ?_;cases hF;exact ae () [2,5,4,3,1,0];refine wz ?_;cases hF;exact ae () [2,5,4,3,1,0];rintro⟨⟩;refine VI ?_;rcases aa hF with⟨h46,hF⟩|⟨h46,hF⟩;refine an ?_;cases hF;exact ar () [];refine an ?_;obtain⟨h47,hF⟩:=bE hF;refine VO (k:=1) rfl (aC h47) ?_;rintro b48 o49 rfl;refine wz ?_;obtain⟨⟨x50,x51⟩,h52,hF⟩:=J hF;refine wz ?_;obtain⟨h53,hF⟩:=bE hF;refine wz ?_;obtain⟨⟨x54,x55⟩,h56,hF⟩:=J hF;refine wz ?_;obtain⟨h57,hF⟩:=bE hF;refine wz ?_;obtain⟨⟨x58,x59⟩,h60,hF⟩:=J hF;refine wz ?_;obtain⟨h61,hF⟩:=bE hF;refine wz ?_;obtain⟨⟨x62,x63⟩,h64,hF⟩:=J hF;refine wz ?_;obtain⟨⟨r66,r67⟩,h65,hF⟩:=J hF;refine wc gn (fun m hm=>Kt h65 m) ?_;rintro⟨⟩;refine dM ?_;rcases aa hF with⟨h68,hF⟩|⟨h68,hF⟩;refine an ?_;cases hF;exact ar () [];refine wz ?_;rcases aa hF with⟨h69,hF⟩|⟨h69,hF⟩;refine wz ?_;rcases aa hF with⟨h70,hF⟩|⟨h70,hF⟩;refine wz ?_;rcases aa hF with⟨h71,hF⟩|⟨h71,hF⟩;refine wz ?_;rcases aa hF with⟨h72,hF⟩|⟨h72,hF⟩;refine an ?_;cases hF;exact ar () [];refine an ?_;cases hF;exact ar () [];refine an ?_;cases hF;exact ar () [];refine an ?_;cases hF;exact ar () [];refine dM ?_;cases hF;exact ar () []
def BS{n l1 x5 x6 a0 c0 r}(hF:Mx n l1 x5 x6=some r)(m)(h7:dZ m a0 c0 l1):
 aG (We p q) 62 [bj a0 l1 c0,fy x5 x6] m (Wa m (.int .i64 r)):=by
 unfold Mx at hF;refine cw Tryz.func62 (VJ (VG m) bX h7) ?_;refine wz ?_;refine wb fun b0=>?_;refine dM ?_;refine VE ?_;obtain⟨r1,h0,hF⟩:=J hF;refine ct (fun(r:WC ⊕(Int)) (g:WC)=>match r,g with|.inl _,_=>⟨.ret,[(4,.int .i64 1)],[]⟩|.inr v5,_=>⟨(.exit 0),[(5,aN v5)],[]⟩) r1 ?_ ?_
 refine lo h0 () [1,0] (fun(v1,v0) _=>⟨.normal,((0,bj a0 l1 c0)::(3,ptr b0 0)::(5,aN v1)::Au a0 l1 c0 v0 []),[iq a0 c0 l1,ef b0 x5 x6]⟩) ?_;clear hF h0;rintro⟨v1,v0⟩ ⟨⟩ r hF;unfold tM at hF;refine wz ?_;refine VD ?_;rcases aa hF with⟨h8,hF⟩|⟨h8,hF⟩;refine wz ?_;refine VD ?_;obtain⟨r0,h9,hF⟩:=J hF;refine ct (fun(r:WC ⊕(Int)) (g:WC)=>match r,g with|.inl _,_=>⟨.ret,[(4,.int .i64 1)],[]⟩|.inr v6,_=>⟨.normal,((0,bj a0 l1 c0)::(3,ptr b0 0)::(5,aN v6)::Au a0 l1 c0 v0 []),[iq a0 c0 l1,ef b0 x5 x6]⟩) r0 ?_ ?_
 clear hF;revert r0;intro r hF;refine wz ?_;obtain⟨h10,hF⟩:=bE hF;refine VO (k:=0) rfl (aC h10) ?_;rintro b1 o1 rfl;refine wz ?_;obtain⟨⟨x3,x4⟩,h23,hF⟩:=J hF;refine wz ?_;refine wa iT fun b2=>?_;refine an ?_;obtain⟨h11,hF⟩:=aB hF;refine VB (aJ rfl rfl (cg _ _ h11)) rfl ?_;obtain⟨h24,hF⟩:=bE hF;refine wz ?_;obtain⟨⟨x10,x11⟩,h25,hF⟩:=J hF;refine wz ?_;refine wa iT fun b3=>?_;refine wz ?_;refine VD<|VF<|VB (aM (r:=ptr b3 0) rfl (du _ _)) rfl<|VB (aH (k:=0) bS rfl rfl rfl) rfl<|VB (aM (r:=ptr b2 0) rfl (du _ _)) rfl<|VB (aH (k:=1) bS rfl rfl rfl) rfl<|VB (aJ rfl rfl (bJ _ _ _)) rfl<|VB (aM (r:=ptr b0 1) rfl (cG _ _)) rfl<|VB (aH (k:=4) bS rfl rfl rfl) rfl<|VB (aM (r:=ptr b2 1) rfl (cG _ _)) rfl<|VB (aH (k:=1) bS rfl rfl rfl) rfl<|VB (aJ rfl rfl (bJ _ _ _)) rfl ?_;obtain⟨y0,h12,hF⟩:=J hF;refine VB (aJ rfl rfl ((bT _ _ _).trans (cI h12))) rfl<|VB (aM (r:=ptr b3 1) rfl (cG _ _)) rfl<|VB (aH (k:=0) bS rfl rfl rfl) rfl<|VB (aM (r:=ptr b2 1) rfl (cG _ _)) rfl<|VB (aH (k:=1) bS rfl rfl rfl) rfl<|VB (aJ rfl rfl (bJ _ _ _)) rfl<|VB (aM (r:=ptr b0 0) rfl (du _ _)) rfl<|VB (aH (k:=4) bS rfl rfl rfl) rfl<|VB (aM (r:=ptr b2 0) rfl (du _ _)) rfl<|VB (aH (k:=1) bS rfl rfl rfl) rfl<|VB (aJ rfl rfl (bJ _ _ _)) rfl ?_;obtain⟨y1,h13,hF⟩:=J hF;refine VB (aJ rfl rfl ((bT _ _ _).trans (cI h13))) rfl ?_;refine wz ?_;refine VE<|VD ?_;obtain⟨v2,h14,hF⟩:=J hF;refine ct (fun v2 (_:WC)=>⟨.normal,((0,nQ b1 o1 l1 c0)::(3,ptr b0 0)::(5,aN v1)::(7,ptr b2 0)::(8,ptr b3 0)::(9,.int .i64 (Vx (y0-y1)))::sq b1 o1 l1 c0 v0 [(48,.bool v2)]),[Eh b1 o1 l1,Ee b1 o1 c0 l1,ef b0 x5 x6,ef b2 x3 x4,ef b3 x10 x11]⟩) v2 ?_ ?_;clear hF;revert v2;intro r hF;refine wz ?_;rcases aa hF with⟨h1,hF⟩|⟨h1,hF⟩;refine wz ?_;refine VM (fk rfl rfl (fY _ _)) (gg rfl rfl (dL h1)) rfl ?_;refine wz ?_;rcases aa hF with⟨h2,hF⟩|⟨h2,hF⟩;refine wz ?_;refine VM (fk rfl rfl (ku _ _)) (gg rfl rfl (dL h2)) rfl ?_;refine wz ?_;rcases aa hF with⟨h3,hF⟩|⟨h3,hF⟩;refine wz ?_;refine VM (fk rfl rfl (fY _ _)) (gg rfl rfl (dL h3)) rfl ?_;refine wz ?_;rcases aa hF with⟨h4,hF⟩|⟨h4,hF⟩;refine wz ?_;refine VM (fk rfl rfl (ku _ _)) (gg rfl rfl (dL h4)) rfl ?_;refine wz ?_;cases hF;exact ae () [2,3,4,1,0];refine wz ?_;cases hF;exact ae () [2,3,4,1,0];refine wz ?_;cases hF;exact ae () [2,3,4,1,0];refine wz ?_;cases hF;exact ae () [2,3,4,1,0];refine wz ?_;cases hF;exact ae () [2,3,4,1,0];rintro⟨⟩;refine VI ?_;rcases aa hF with⟨h5,hF⟩|⟨h5,hF⟩;refine an ?_;cases hF;exact ae () [];refine Wk.fZ rfl h5<|VD ?_;obtain⟨v3,h15,hF⟩:=J hF;refine ct (fun v3 (_:WC)=>⟨.normal,((0,nQ b1 o1 l1 c0)::(3,ptr b0 0)::(5,aN v1)::(7,ptr b2 0)::(8,ptr b3 0)::(9,.int .i64 (Vx (y0-y1)))::sq b1 o1 l1 c0 v0 [(91,.bool v3)]),[Eh b1 o1 l1,Ee b1 o1 c0 l1,ef b0 x5 x6,ef b2 x3 x4,ef b3 x10 x11]⟩) v3 ?_ ?_;clear hF;revert v3;intro r hF;refine wz ?_;rcases aa hF with⟨h16,hF⟩|⟨h16,hF⟩;refine wz ?_;rcases aa hF with⟨h17,hF⟩|⟨h17,hF⟩;refine wz ?_;cases hF;exact ae () (V5 0 5);refine wz ?_;cases hF;exact ae () (V5 0 5);refine wz ?_;cases hF;exact ae () (V5 0 5);rintro⟨⟩;refine VI ?_;rcases aa hF with⟨h6,hF⟩|⟨h6,hF⟩;refine wz ?_;cases hF;exact ae () [1,2];refine Wk.fZ rfl h6<|VD ?_;obtain⟨v4,h18,hF⟩:=J hF;refine ct (fun v4 (_:WC)=>⟨.normal,((0,nQ b1 o1 l1 c0)::(3,ptr b0 0)::(5,aN v1)::sq b1 o1 l1 c0 v0 [(110,.bool v4)]),[Eh b1 o1 l1,Ee b1 o1 c0 l1,ef b0 x5 x6]⟩) v4 ?_ ?_;clear hF;revert v4;intro r hF;refine wz ?_;rcases aa hF with⟨h19,hF⟩|⟨h19,hF⟩;refine wz ?_;rcases aa hF with⟨h20,hF⟩|⟨h20,hF⟩;refine wz ?_;cases hF;exact ae () [0,1,2];refine wz ?_;cases hF;exact ae () [0,1,2];refine wz ?_;cases hF;exact ae () [0,1,2];rintro⟨⟩;refine VI ?_;rcases aa hF with⟨h21,hF⟩|⟨h21,hF⟩;refine wz ?_;cases hF;exact ae () [1,2];refine wz ?_;cases hF;exact ae () [1,2];rcases r0 with _|v6;rintro⟨⟩;refine At.tr ?_;cases hF;exact ae () [];rintro⟨⟩;refine an ?_;cases hF;exact ae () [0,1];refine wz ?_;cases hF;exact ae () [];rcases r1 with _|v5;rintro⟨⟩;refine wz ?_;cases hF;exact ar () [];rintro⟨⟩;refine an ?_;rcases aa hF with⟨h22,hF⟩|⟨h22,hF⟩;refine an ?_;cases hF;exact ar () [];refine dM ?_;cases hF;exact ar () []
def B9{n l3 l2 l4 l1 x3 x4 x10 a0 c1 a1 c2}{r0:Vr}{e0:Vp}{a3 c3 a2 c0}{r1:Vr}{e1:Vp}{r}(hF:K7 n l3 l2 l4 l1 x3 x4 x10=some r)(m)(h2:dZ m a0 c1 l3)(h3:fN m a1 c2 l2 e0)(h4:(bY aj r0 l2 e0).P m)(h5:rh m a3 c3 l4)(h6:Rd m a2 c0 1 l1.length e1)(h7:(bY ba r1 l1 e1).P m):
 aG (We p q) 59 [eu a0 l3 c1 a1 l2 c2,eu a3 l4 c3 a2 l1 c0,fy x3 x4,aN x10] m (Wa m (.bool r)):=by
 unfold K7 at hF;refine cw Tryz.func59 (VW (VJ (VJ (VW (VJ (VJ (VG m) bX h2) (bU bX) h3) (bU (bU bX)) h4) (Ce (bU (bU bX))) h5) (bU (Ce (bU (bU bX)))) h6) (bU (bU (Ce (bU (bU bX))))) h7) ?_;refine wz ?_;refine wb fun b0=>?_;refine wb fun b3=>?_;refine wb fun b1=>?_;refine wb fun b2=>?_;refine wz ?_;refine VD<|VT (prs:=[(4,5)]) (by kernel_rfl)<|VC (aH (k:=3) fG rfl rfl rfl) rfl<|VC (aM (r:=ptr b3 0) rfl (eL _ _)) rfl<|VC (aH (k:=2) jm rfl rfl rfl) rfl<|VC (aH (k:=0) bS rfl rfl rfl) rfl ?_
 obtain⟨l5,h8,hF⟩:=J hF;refine nc gn (fun m hm=>p5 h8 m (hm.q 9) (hm.q 8) (hm.dp (q:=7) rfl) (hm.q 6)) ?_;rintro⟨a4,n0⟩;refine Wn.len (k:=0) (xs:=l5) rfl ?_;rintro rfl;refine VC (aH (k:=2) bN rfl rfl rfl) rfl ?_;obtain⟨r4,h9,hF⟩:=J hF;refine nc gn (fun m hm=>BS h9 m (hm.rd (k:=0) rfl (.sl _ _ _ _))) ?_;rintro⟨⟩;refine VC (aJ rfl rfl (pD _ _ _)) rfl<|VC (aK rfl) rfl ?_;rcases aa hF with⟨h0,hF⟩|⟨h0,hF⟩;refine VS (aM (r:=ptr b3 1) rfl (eE _ _)) (gg rfl rfl (dL h0)) rfl<|VS (aH (k:=3) kX rfl rfl rfl) (gg rfl rfl (dL h0)) rfl<|VS (jY rfl rfl) (gg rfl rfl (dL h0)) rfl ?_;obtain⟨v0,h10,hF⟩:=J hF;refine V3 (mz (α:=WC) (V:=fun g=>(fun(r:Int) (g:WC)=>match r,g with|v0,_=>(.int .i64 v0:Vs)) v0 g) (N:=fun g=>(fun(r:Int) (g:WC)=>match r,g with|v0,_=>([]:WB Pc)) v0 g) rfl rfl (fun m hm=>?_)) (gg rfl rfl (dL h0)) rfl ?_
 clear hF;revert v0;intro r hF;refine aW (N:=19) (rs:=[.tmp 4]) rfl Tryz.func60 rfl rfl rfl hm ?_;refine an ?_;refine VE ?_;obtain⟨r3,h1,hF⟩:=J hF;refine ct (fun(r:Int ⊕(WC)) (g:WC)=>match r,g with|.inl v2,_=>⟨.ret,[(4,aN v2)],[]⟩|.inr _,_=>⟨(.exit 0),[],[]⟩) r3 ?_ ?_
 refine lo h1 () [4,10,9,8,1,2,6,5] (fun v3 _=>⟨.normal,((1,.func (.func 95) #[] #[ptr b0 0,ptr b2 0,ptr b1 0])::Al a2 l1 c0 v3 []),(cV b0 a0 l3 c1 a1 l2 c2 e0 aj r0 (eY b2 x10::ef b1 x3 x4::fL a2 c0 l1 e1 ba r1 []))⟩) ?_;clear hF h1;rintro v3 ⟨⟩ r hF;unfold zu at hF;refine wz ?_;refine VD ?_;rcases aa hF with⟨h11,hF⟩|⟨h11,hF⟩;refine an ?_;obtain⟨h12,hF⟩:=bE hF;refine VO (k:=6) rfl (aC h12) ?_;rintro b4 o1 rfl;refine wz ?_;obtain⟨l7,h13,hF⟩:=J hF;refine wl 1 0 8 0 h13 ?_;rintro⟨a5,c4⟩;refine an ?_;obtain⟨v1,h14,hF⟩:=J hF;refine wq (fun v1 (_:WC)=>(.bool v1,(cV b0 a0 l3 c1 a1 l2 c2 e0 aj r0 (eY b2 x10::ef b1 x3 x4::jl b4 o1 l1 e1 ba r1 c0 [])))) v1 (fun m hm=>?_) ?_;clear hF;revert v1;intro r hF;refine aW (N:=13) (rs:=[.tmp 5]) rfl Tryz.func95 rfl rfl rfl hm ?_;refine wz ?_;refine VD<|VT (prs:=[(3,4)]) (by kernel_rfl)<|VC (aH (k:=2) fG rfl rfl rfl) rfl<|VC (aK rfl) rfl<|VC (aH (k:=6) bS rfl rfl rfl) rfl ?_
 obtain⟨l6,h15,hF⟩:=J hF;refine nc gn (fun m hm=>p5 h15 m (hm.q 3) (hm.q 4) (hm.dp (q:=5) rfl) (hm.q 0)) ?_;rintro⟨a6,n1⟩;refine Wn.len (k:=0) (xs:=l6) rfl ?_;rintro rfl;refine VC (aH (k:=8) bN rfl rfl rfl) rfl ?_;obtain⟨r5,h16,hF⟩:=J hF;refine nc gn (fun m hm=>BS h16 m (hm.rd (k:=0) rfl (.sl _ _ _ _))) ?_;rintro⟨⟩;refine VC (aJ rfl rfl (rO _ _)) rfl<|VC (bQ rfl) rfl<|VP (fun m hm=>cA.all rfl) ?_;refine an ?_;cases hF;exact ar () [3,4,5,6,7,8,2,10,9];rintro⟨⟩;refine wz ?_;rcases aa hF with⟨h17,hF⟩|⟨h17,hF⟩;refine an ?_;cases hF;exact ae () [];refine an ?_;cases hF;exact ae () [0,1,2,3,4,5,8,7];refine wz ?_;cases hF;exact ae () [];rcases r3 with v2|_;rintro⟨⟩;refine wz ?_;obtain rfl:=SX hF;exact ar () [];rintro⟨⟩;refine dM ?_;cases hF;exact ar () [];rintro⟨⟩;refine VS (aJ rfl rfl (gE _ _ _)) (gg rfl rfl (dL h0)) rfl<|VC (uw rfl h0 rfl) rfl<|VC (bQ rfl) rfl<|VP (fun m hm=>cA.all rfl) ?_;refine an ?_;cases hF;exact ar () [];refine VU (gg rfl rfl (oi h0)) rfl<|VU (gg rfl rfl (oi h0)) rfl<|VU (gg rfl rfl (oi h0)) rfl<|VU (gg rfl rfl (oi h0)) rfl<|VU (gg rfl rfl (oi h0)) rfl<|VC (uL rfl h0 rfl) rfl<|VC (bQ rfl) rfl<|VP (fun m hm=>cA.all rfl) ?_;refine an ?_;cases hF;exact ar () []
end
end Go.Proofs.YtmndpgfbkicndaaGreat
