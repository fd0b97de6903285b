/- A part of the proof. -/
import Derived.Test.YtmndpgfbkicndaaGreatCx3
import Derived.Shelf.GgSortFunc.RowK
import Derived.Shelf.SlSortCmp.WholeK
import Derived.Shelf.SlGeneric
import Derived.Ground.SlsfProg
import Derived.Test.YtmndpgfbkicndaaGreatProg
import Derived.Shelf.SlSortCmp.NoneTotal
import Derived.Shelf.SlicesE.Delete
import Derived.Ground.SlgnProg
import Derived.Lib.Overlaps
import Derived.Ground.Names2Prog
import Derived.Shelf.Spec.SlicesInsert
import Derived.Shelf.Spec.SlicesInsertGrow
set_option linter.defProp false
section
open Go Go.Ab Go.Ab.W
abbrev Vi (m:Vj) (v0:Value):Value->Vj->Prop:=fun v m'=>∃_:Unit,v=v0/\Hp m m' []
abbrev UB:=@Wo.od
abbrev UC:=@Wn.od
abbrev UD:=@Wk.seq
abbrev UE:=@Wk.block
abbrev UF:=@aa.freeze
abbrev UG:=@Wk.region
abbrev UH:=@aa.an
abbrev UI:=@aa.close
abbrev UJ:=@Hp.start
abbrev UK:=@aa.trans
abbrev UL:=@At.az
abbrev UM:=@At.tn
abbrev UN:=@Hp.bl
abbrev UO:=@Wo.aN
abbrev UP:=@Wo.nil
abbrev UQ:=@Wo.x
abbrev UR:=@Wo.az
abbrev US:=@Wo.og
abbrev UT:=@Wn.nil
abbrev UU:=@Wn.og
abbrev UW:=@At.ret
abbrev UX:=@Wn.s
abbrev UY:=@Wk.cj
abbrev UZ:=@Hp.ee
abbrev U0:=@Wn.oc
abbrev U1:=@Wk.cX
abbrev U2:=@Wo.open
abbrev U3:=@Wn.x
abbrev U4:=@Wn.o0
abbrev U5:=@Wo.len
abbrev U6:=@Wo.fp
abbrev U7:=@Wk.skip
abbrev U8:=@Wo.o0
abbrev U9:=@aa.nil
abbrev Va:=@Hp.dup
abbrev Vb:=@Wn.az
abbrev Vc:=@Wo.dp
def Vd:Nat->Nat->List Nat
 | _,0=>[]
 | a,n+1=>a::Vd (a+1) n
abbrev Ve {α:Type} (l:List α) (k:Int):List α:=(l.drop Uy).take ((mi (l.length:Int) k).toNat-Uy)
end
namespace Go.Proofs.YtmndpgfbkicndaaGreat
open Go Go.Ab Go.Ab.W
def N4 (_:Nat) (x1:Int) (x2:Int):Option (Bool) :=
br (decide (mi x1 x2 < -1000000)) (
some true) (
some (decide (1000000<ma x1 x2)))
def zG (_:Nat) (l1:List (Int)):(Int × Int)->Option ((Int × Int) ⊕ (Int)):=fun(v14,v15) =>
br (decide (v15<(l1.length:Int))) (
gd (bw v15 l1.length) (
ob (l1[v15.toNat]?) fun x25 =>
some (.inl (mi v14 x25,Ux (v15+1))))) (
some (.inr v14))
def NN (n:Nat) (l1:List (Int)):Option (Int) :=
br (decide ((l1.length:Int)<1)) (
none) (
gd (bw 0 l1.length) (
ob (l1[Uy]?) fun x10 =>
ob (
bg (zG n l1) n (x10,1)) fun v22 =>
some v22))
def yJ (_:Nat) (l1:List (Int)):(Int × Int)->Option ((Int × Int) ⊕ (Int)):=fun(v14,v15) =>
br (decide (v15<(l1.length:Int))) (
gd (bw v15 l1.length) (
ob (l1[v15.toNat]?) fun x25 =>
some (.inl (ma v14 x25,Ux (v15+1))))) (
some (.inr v14))
def NP (n:Nat) (l1:List (Int)):Option (Int) :=
br (decide ((l1.length:Int)<1)) (
none) (
gd (bw 0 l1.length) (
ob (l1[Uy]?) fun x10 =>
ob (
bg (yJ n l1) n (x10,1)) fun v22 =>
some v22))
def yT (_:Nat) (l12:List (Int)) (l1:Ul) (x16:Int):(Ul × Int)->Option ((Ul × Int) ⊕ (Ul)):=fun(l36,v38) =>
br (decide (v38<(l12.length:Int))) (
gd (bw v38 l12.length) (
ob (l12[v38.toNat]?) fun x64 =>
gd (bw x64 l1.length) (
ob (l1[x64.toNat]?) fun(x69,x70) =>
gd (bw x64 l1.length) (
gd (lim (l36++[(Ux (x16*x69),Ux (x16*x70))]).length) (
some (.inl ((l36++[(Ux (x16*x69),Ux (x16*x70))]),Ux (v38+1)))))))) (
some (.inr l36))
def Iq (n:Nat) (l1:Ul) (_:Uj) (l12:List (Int)) (x16:Int):Option (Ul) :=
ob (
bg (yT n l12 l1 x16) n (([]:Ul),0)) fun l58 =>
some l58
def wx (_:Nat) (x1:Int) (x2:Int):Option (Bool) :=
ob (some (ma (ma (ma x1 (Ux (0-x1))) x2) (Ux (0-x2)))) fun y4 =>
br (decide (1000000<y4)) (
some true) (
some (decide (mi x1 x2 < -1000000)))
def E0 (_:Nat) (x1:Int):Option (Bool) :=
some (!decide (x1=x1))
def AH (n:Nat) (x1:Int) (x2:Int):Option (Int) :=
ob (E0 n x1) fun r4 =>
ob (E0 n x2) fun r6 =>
br (r4) (
br (r6) (
some 0) (
some (-1))) (
br (r6) (
some 1) (
br (decide (x1<x2)) (
some (-1)) (
br (decide (x2<x1)) (
some 1) (
some 0))))
def uA (n:Nat) (x1:Int) (x2:Int) (x3:Int) (x4:Int) (x5:Int) (x6:Int):Option (Int) :=
ob (some (Ux ((Ux (x3-x1))*(Ux (x6-x2))))) fun y10 =>
ob (some (Ux ((Ux (x4-x2))*(Ux (x5-x1))))) fun y12 =>
ob (AH n y10 y12) fun r15 =>
some r15
def mj (_:Nat) (l1:List (Int)):Int->Option ((Int) ⊕ ((Int) ⊕ (Unit))):=fun v6 =>
br (decide (v6<(l1.length:Int))) (
gd (bw v6 l1.length) (
ob (l1[v6.toNat]?) fun x20 =>
br (!decide (x20=0)) (
some (.inr (.inl x20))) (
some (.inl (Ux (v6+1)))))) (
some (.inr (.inr ())))
def FN (n:Nat) (l1:List (Int)):Option (Int) :=
ob (α:=(Int) ⊕ (Unit)) (
bg (mj n l1) n 0) fun r24=>match r24 with
| .inl v15 =>
some v15
| .inr _ =>
some 0
def wJ (n:Nat) (x1:Int) (x2:Int) (x3:Int) (x4:Int):Option (Int) :=
ob (AH n x1 x3) fun r8 =>
ob (AH n x2 x4) fun r10 =>
ob (FN n ([r8,r10])) fun r13 =>
some r13
def DV (n:Nat) (_:Int) (x2:Int) (x3:Int) (x4:Int) (x5:Int) (x6:Int) (x7:Int):Option (Bool) :=
ob (uA n x2 x3 x4 x5 x6 x7) fun r11 =>
br (!decide (r11=0)) (
some false) (
ob (
ob (wJ n x2 x3 x4 x5) fun r23 =>
br (decide (0<r23)) (
some (x4,x5,x2,x3)) (
some (x2,x3,x4,x5))) fun(v18,v19,v20,v21) =>
ob (wJ n v18 v19 x6 x7) fun r28 =>
br (decide (r28<=0)) (
ob (wJ n x6 x7 v20 v21) fun r31 =>
some (decide (r31<=0))) (
some false))
def lM (n:Nat) (x2:Int) (x10:Int) (x11:Int) (x5:Int) (x7:Int) (x8:Int) (x9:Int) (x12:Int) (x1:Int) (x6:Int):(List ((Int × Int) × Bool) × Int)->Option ((List ((Int × Int) × Bool) × Int) ⊕ (List ((Int × Int) × Bool))):=fun(l1,v0) =>
br (decide (v0<4)) (
ob (
gd (bw v0 4) (
ob ([(x2,x10),(x11,x5),(x7,x8),(x9,x12)][v0.toNat]?) fun(x3,x4) =>
ob (
ob (DV n x1 x2 x10 x11 x5 x3 x4) fun r0 =>
br (r0) (
ob (DV n x6 x7 x8 x9 x12 x3 x4) fun r1 =>
some r1) (
some false)) fun v1 =>
br (v1) (
some (jU l1 (x3,x4) true)) (
some l1))) fun l2 =>
some (.inl (l2,Ux (v0+1)))) (
some (.inr l1))
def Dp (n:Nat) (x1:Int) (x2:Int) (x3:Int) (x4:Int) (x5:Int) (x6:Int) (x7:Int) (x8:Int) (x9:Int) (x10:Int):Option (Int) :=
ob (uA n x2 x3 x4 x5 x7 x8) fun r0 =>
ob (uA n x2 x3 x4 x5 x9 x10) fun r1 =>
ob (uA n x7 x8 x9 x10 x2 x3) fun r3 =>
ob (uA n x7 x8 x9 x10 x4 x5) fun r4 =>
ob (
bg (lM n x2 x3 x4 x5 x7 x8 x9 x10 x1 x6) n (([]:List ((Int × Int) × Bool)),0)) fun l1 =>
ob (some (l1.length)) fun y0 =>
br (decide (1<(y0:Int))) (
some 3) (
ob (some (l1.length)) fun y1 =>
br (decide ((y1:Int)=1)) (
some 1) (
ob (
br (decide (Ux (r0*r1)<0)) (
some (decide (Ux (r3*r4)<0))) (
some false)) fun v0 =>
br (v0) (
some 2) (
some 0)))
def tG (n:Nat) (l1:Ul):Int->Option ((Int) ⊕ ((Int) ⊕ (Unit))):=fun v49 =>
br (decide (v49<(l1.length:Int))) (
gd (bw v49 l1.length) (
ob (l1[v49.toNat]?) fun(x66,x67) =>
ob (wx n x66 x67) fun r70 =>
br (r70) (
some (.inr (.inl v49))) (
some (.inl (Ux (v49+1)))))) (
some (.inr (.inr ())))
def tl (_:Nat) (l1:Ul):Int->Option ((Int) ⊕ ((Int) ⊕ (Unit))):=fun v0 =>
br (decide (v0<(l1.length:Int))) (
gd (bw v0 l1.length) (
ob (l1[v0.toNat]?) fun(x3,x4) =>
gd (decide ((l1.length:Int)≠0)) (
gd (bw (Int.tmod (Ux (v0+1)) (l1.length:Int)) l1.length) (
ob (l1[(Int.tmod (Ux (v0+1)) (l1.length:Int)).toNat]?) fun(x10,x11) =>
ob (α:=(Unit) ⊕ (Unit)) (
br ((decide (x3=x10) && decide (x4=x11))) (
some (.inl ())) (
some (.inr ()))) fun r0=>match r0 with
| .inl _ =>
some (.inr (.inl v0))
| .inr _ =>
some (.inl (Ux (v0+1))))))) (
some (.inr (.inr ())))
def tq (n:Nat) (l1:Ul):Int->Option ((Int) ⊕ ((Int) ⊕ (Unit))):=fun v0 =>
br (decide (v0<(l1.length:Int))) (
gd (bw v0 l1.length) (
ob (l1[v0.toNat]?) fun(x3,x4) =>
gd (decide ((l1.length:Int)≠0)) (
gd (bw (Int.tmod (Ux (v0+1)) (l1.length:Int)) l1.length) (
ob (l1[(Int.tmod (Ux (v0+1)) (l1.length:Int)).toNat]?) fun(x10,x11) =>
ob (α:=(Unit) ⊕ (Unit)) (
gd (decide ((l1.length:Int)≠0)) (
ob (some (Int.tmod (Ux ((Ux (v0+(l1.length:Int)))-1)) (l1.length:Int))) fun y0 =>
gd (bw y0 l1.length) (
ob (l1[y0.toNat]?) fun(x12,x13) =>
ob (
ob (uA n x12 x13 x3 x4 x10 x11) fun r0 =>
br (decide (r0=0)) (
ob (some (Ux ((Ux (x3-x12))*(Ux (x10-x3))))) fun y1 =>
ob (some (Ux ((Ux (x4-x13))*(Ux (x11-x4))))) fun y2 =>
some (decide (Ux (y1+y2)<0))) (
some false)) fun v1 =>
br (v1) (
some (.inl ())) (
some (.inr ()))))) fun r1=>match r1 with
| .inl _ =>
some (.inr (.inl v0))
| .inr _ =>
some (.inl (Ux (v0+1))))))) (
some (.inr (.inr ())))
def sI (n:Nat) (l1:Ul) (v1:Int) (x3:Int) (x4:Int) (x10:Int) (x11:Int):Int->Option ((Int) ⊕ ((Unit) ⊕ ((Unit) ⊕ (Unit)))):=fun v0 =>
br (decide (v0<(l1.length:Int))) (
gd (bw v0 l1.length) (
ob (l1[v0.toNat]?) fun(x12,x13) =>
gd (decide ((l1.length:Int)≠0)) (
gd (bw (Int.tmod (Ux (v0+1)) (l1.length:Int)) l1.length) (
ob (l1[(Int.tmod (Ux (v0+1)) (l1.length:Int)).toNat]?) fun(x14,x15) =>
ob (α:=(Unit) ⊕ ((Unit) ⊕ (Unit))) (
br (decide (Ux (v1-1)<=v0)) (
some (.inl ())) (
ob (
br (decide (v0=0)) (
some (decide (v1=Ux ((l1.length:Int)-1)))) (
some false)) fun v2 =>
br (v2) (
some (.inr (.inl ()))) (
ob (Dp n v1 x3 x4 x10 x11 v0 x12 x13 x14 x15) fun r0 =>
br (!decide (r0=0)) (
some (.inr (.inr ()))) (
some (.inr (.inl ())))))) fun r1=>match r1 with
| .inl _ =>
some (.inr (.inl ()))
| .inr (.inl _) =>
some (.inl (Ux (v0+1)))
| .inr (.inr _) =>
some (.inr (.inr (.inl ()))))))) (
some (.inr (.inr (.inr ()))))
def sH (n:Nat) (l1:Ul):Int->Option ((Int) ⊕ ((Int) ⊕ (Unit))):=fun v0 =>
br (decide (v0<(l1.length:Int))) (
gd (bw v0 l1.length) (
ob (l1[v0.toNat]?) fun(x3,x4) =>
gd (decide ((l1.length:Int)≠0)) (
gd (bw (Int.tmod (Ux (v0+1)) (l1.length:Int)) l1.length) (
ob (l1[(Int.tmod (Ux (v0+1)) (l1.length:Int)).toNat]?) fun(x10,x11) =>
ob (α:=(Unit) ⊕ (Unit)) (
ob (
some ()) fun _ =>
ob (α:=(Unit) ⊕ ((Unit) ⊕ (Unit))) (
ob (α:=(Unit) ⊕ ((Unit) ⊕ (Unit))) (
bg (sI n l1 v0 x3 x4 x10 x11) n 0) fun r0=>match r0 with
| .inl _ =>
some (.inl ())
| .inr (.inl _) =>
some (.inr (.inl ()))
| .inr (.inr _) =>
some (.inr (.inr ()))) fun r1=>match r1 with
| .inl _ =>
some (.inl ())
| .inr (.inl _) =>
some (.inr ())
| .inr (.inr _) =>
some (.inl ())) fun r3=>match r3 with
| .inl _ =>
some (.inl (Ux (v0+1)))
| .inr _ =>
some (.inr (.inl v0)))))) (
some (.inr (.inr ())))
def Fm (n:Nat) (l1:Ul):Option (Int × Int) :=
ob (
br (decide ((l1.length:Int)<3)) (
some true) (
some (decide (40<(l1.length:Int))))) fun v1 =>
br (v1) (
some (1,0)) (
ob (
ob (α:=(Int) ⊕ (Unit)) (
bg (tG n l1) n 0) fun r0=>match r0 with
| .inl v2 =>
some v2
| .inr _ =>
some (-1)) fun v0 =>
br (decide (0<=v0)) (
some (2,v0)) (
ob (
some ()) fun _ =>
ob (α:=(Int) ⊕ (Unit)) (
ob (α:=(Int) ⊕ (Unit)) (
bg (tl n l1) n 0) fun r1=>match r1 with
| .inl v3 =>
some (.inl v3)
| .inr _ =>
some (.inr ())) fun r3=>match r3 with
| .inl v4 =>
some (3,v4)
| .inr _ =>
ob (
some ()) fun _ =>
ob (α:=(Int) ⊕ (Unit)) (
ob (α:=(Int) ⊕ (Unit)) (
bg (tq n l1) n 0) fun r4=>match r4 with
| .inl v5 =>
some (.inl v5)
| .inr _ =>
some (.inr ())) fun r5=>match r5 with
| .inl v6 =>
some (4,v6)
| .inr _ =>
ob (
some ()) fun _ =>
ob (α:=(Int) ⊕ (Unit)) (
ob (α:=(Int) ⊕ (Unit)) (
bg (sH n l1) n 0) fun r6=>match r6 with
| .inl v7 =>
some (.inl v7)
| .inr _ =>
some (.inr ())) fun r7=>match r7 with
| .inl v8 =>
some (5,v8)
| .inr _ =>
some (0,0)))
def Pk (n:Nat) (l1:Ul):Option (Int) :=
ob (Fm n l1) fun(r6,_) =>
br (decide (0<r6)) (
some 140) (
some 0)
def vl (_:Nat) (l1:Ul):(Int × Int)->Option ((Int × Int) ⊕ (Int)):=fun(v7,v8) =>
br (decide (v8<(l1.length:Int))) (
gd (bw v8 l1.length) (
ob (l1[v8.toNat]?) fun(x32,x33) =>
gd (decide ((l1.length:Int)≠0)) (
gd (bw (Int.tmod (Ux (v8+1)) (l1.length:Int)) l1.length) (
ob (l1[(Int.tmod (Ux (v8+1)) (l1.length:Int)).toNat]?) fun(x38,x39) =>
ob (some (Ux ((Ux (x32*x39))-(Ux (x33*x38))))) fun y42 =>
some (.inl (Ux (v7+y42),Ux (v8+1))))))) (
some (.inr v7))
def NU (n:Nat) (l1:Ul):Option (Int) :=
ob (
bg (vl n l1) n (0,0)) fun v27 =>
some v27
def HF (n:Nat) (x1:Int) (x2:Int) (x3:Int) (x4:Int) (x5:Int) (x6:Int) (x7:Int) (x8:Int):Option (Int × Int) :=
ob (
ob (wx n x1 x2) fun r58 =>
br (r58) (
some true) (
ob (wx n x3 x4) fun r61 =>
br (r61) (
some true) (
ob (wx n x5 x6) fun r64 =>
br (r64) (
some true) (
ob (wx n x7 x8) fun r67 =>
br (r67) (
some true) (
br ((decide (x1=x3) && decide (x2=x4))) (
some true) (
some (decide (x5=x7) && decide (x6=x8)))))))) fun v56 =>
br (v56) (
some (0,2)) (
ob (Dp n 0 x1 x2 x3 x4 0 x5 x6 x7 x8) fun r74 =>
some (r74,0))
def GH (n:Nat) (l1:Ul) (_:Uj) (x12:Int) (x13:Int) (_:Int) (_:Int) (x16:Int) (x17:Int) (_:Int) (_:Int):Option (Bool) :=
ob (
br (decide (x12=x16)) (
br (decide (x13=x17)) (
some true) (
br (decide (x12=x17)) (
some (decide (x13=x16))) (
some false))) (
br (decide (x12=x17)) (
some (decide (x13=x16))) (
some false))) fun v39 =>
br (v39) (
some false) (
gd (bw x12 l1.length) (
ob (l1[x12.toNat]?) fun(x50,x51) =>
gd (bw x13 l1.length) (
ob (l1[x13.toNat]?) fun(x54,x55) =>
gd (bw x16 l1.length) (
ob (l1[x16.toNat]?) fun(x58,x59) =>
gd (bw x17 l1.length) (
ob (l1[x17.toNat]?) fun(x62,x63) =>
ob (HF n x50 x51 x54 x55 x58 x59 x62 x63) fun(r66,_) =>
br (decide (r66=0)) (
some false) (
br (decide (r66=1)) (
br (!decide (x12=x16)) (
br (!decide (x12=x17)) (
br (!decide (x13=x16)) (
some (!decide (x13=x17))) (
some false)) (
some false)) (
some false)) (
some true)))))))
def s8 (_:Nat) (l1:Ul) (x6:Int) (x5:Int):(Int × Int)->Option ((Int × Int) ⊕ ((Unit) ⊕ (Int))):=fun(v1,v0) =>
br (decide (v0<(l1.length:Int))) (
ob (α:=(Unit) ⊕ (Int)) (
gd (bw v0 l1.length) (
ob (l1[v0.toNat]?) fun(x10,x3) =>
gd (decide ((l1.length:Int)≠0)) (
gd (bw (Int.tmod (Ux (v0+1)) (l1.length:Int)) l1.length) (
ob (l1[(Int.tmod (Ux (v0+1)) (l1.length:Int)).toNat]?) fun(x11,x4) =>
ob (some (Ux ((Ux (x11-x10))*(Ux (x6-x3))))) fun y0 =>
ob (some (Ux ((Ux (x4-x3))*(Ux (x5-x10))))) fun y1 =>
ob (
br (decide (Ux (y0-y1)=0)) (
br (decide (mi x10 x11<=x5)) (
br (decide (x5<=ma x10 x11)) (
br (decide (mi x3 x4<=x6)) (
some (decide (x6<=ma x3 x4))) (
some false)) (
some false)) (
some false)) (
some false)) fun v2 =>
br (v2) (
some (.inl ())) (
ob (
br (decide (x3<=x6)) (
br (decide (x6<x4)) (
some (decide (0<Ux (y0-y1)))) (
some false)) (
some false)) fun v3 =>
br (v3) (
some (.inr (Ux (v1+1)))) (
ob (
br (decide (x6<x3)) (
br (decide (x4<=x6)) (
some (decide (Ux (y0-y1)<0))) (
some false)) (
some false)) fun v4 =>
br (v4) (
some (.inr (Ux (v1-1)))) (
some (.inr v1)))))))) fun r0=>match r0 with
| .inl _ =>
some (.inr (.inl ()))
| .inr v5 =>
some (.inl (v5,Ux (v0+1)))) (
some (.inr (.inr v1)))
def Lj (n:Nat) (l1:Ul) (x5:Int) (x6:Int):Option (Int) :=
ob (α:=(Unit) ⊕ (Int)) (
bg (s8 n l1 x6 x5) n (0,0)) fun r0=>match r0 with
| .inl _ =>
some 1
| .inr v0 =>
br (decide (v0=0)) (
some 0) (
some 2)
def xI (n:Nat) (l1:Um) (l2:Ul) (l3:Uj) (x3:Int) (x4:Int) (x10:Int):Int->Option ((Int) ⊕ ((Int) ⊕ (Unit))):=fun v0 =>
br (decide (v0<(l1.length:Int))) (
gd (bw v0 l1.length) (
ob (l1[v0.toNat]?) fun l4 =>
ob (
ob (Iq n l2 l3 l4 x3) fun l5 =>
ob (Lj n l5 x4 x10) fun r0 =>
some (!decide (r0=0))) fun v1 =>
br (v1) (
some (.inr (.inl v0))) (
some (.inl (Ux (v0+1)))))) (
some (.inr (.inr ())))
def IF (n:Nat) (l1:Ul) (l2:Uj) (l3:List (Int)) (l4:Um) (x3:Int) (x4:Int) (x10:Int):Option (Bool) :=
ob (Iq n l1 l2 l3 x10) fun l5 =>
ob (Lj n l5 x3 x4) fun r0 =>
br (decide (r0=2)) (
ob (
ob (α:=(Int) ⊕ (Unit)) (
bg (xI n l4 l1 l2 x10 x3 x4) n 0) fun r1=>match r1 with
| .inl v0 =>
some v0
| .inr _ =>
some (-1)) fun v1 =>
some (decide (v1<0))) (
some false)
def qP (_:Nat) (l1:List Int):(Int × List ((Int × Int) × Bool))->Option ((Int × List ((Int × Int) × Bool)) ⊕ ((List ((Int × Int) × Bool)) ⊕ (List ((Int × Int) × Bool)))):=fun(v0,l2) =>
br (decide (v0<(l1.length:Int))) (
gd (bw v0 l1.length) (
ob (l1[v0.toNat]?) fun x3 =>
gd (decide ((l1.length:Int)≠0)) (
gd (bw (Int.tmod (Ux (v0+1)) (l1.length:Int)) l1.length) (
ob (l1[(Int.tmod (Ux (v0+1)) (l1.length:Int)).toNat]?) fun x4 =>
ob (α:=(Unit) ⊕ (Unit)) (
ob (some ((fX l2 (x3,x4)).getD false)) fun y0 =>
br (y0) (
some (.inl ())) (
some (.inr ()))) fun r0=>match r0 with
| .inl _ =>
some (.inr (.inl l2))
| .inr _ =>
some (.inl (Ux (v0+1),(jU l2 (x3,x4) true))))))) (
some (.inr (.inr l2)))
def qG (n:Nat) (l1:Um):(Int × List ((Int × Int) × Bool))->Option ((Int × List ((Int × Int) × Bool)) ⊕ ((List ((Int × Int) × Bool)) ⊕ (List ((Int × Int) × Bool)))):=fun(v0,l2) =>
br (decide (v0<(l1.length:Int))) (
gd (bw v0 l1.length) (
ob (l1[v0.toNat]?) fun l3 =>
ob (α:=(List ((Int × Int) × Bool)) ⊕ (List ((Int × Int) × Bool))) (
bg (qP n l3) n (0,l2)) fun r0=>match r0 with
| .inl l4 =>
some (.inr (.inl l4))
| .inr l5 =>
some (.inl (Ux (v0+1),l5)))) (
some (.inr (.inr l2)))
def qK (n:Nat) (l1:Uj):(Int × List ((Int × Int) × Bool))->Option ((Int × List ((Int × Int) × Bool)) ⊕ ((Int × List ((Int × Int) × Bool)) ⊕ (List ((Int × Int) × Bool)))):=fun(v0,l2) =>
br (decide (v0<(l1.length:Int))) (
gd (bw v0 l1.length) (
ob (l1[v0.toNat]?) fun(l3,l4) =>
ob (yc n l3 l4) fun l5 =>
ob (α:=(List ((Int × Int) × Bool)) ⊕ (List ((Int × Int) × Bool))) (
bg (qG n l5) n (0,l2)) fun r0=>match r0 with
| .inl l6 =>
some (.inr (.inl (v0,l6)))
| .inr l7 =>
some (.inl (Ux (v0+1),l7)))) (
some (.inr (.inr l2)))
def sZ (n:Nat) (l1:List (Uk)) (l2:Ul) (l3:Uj) (x3:Int) (x4:Int) (v1:Int) (v2:Int):Int->Option ((Int) ⊕ ((Int) ⊕ (Unit))):=fun v0 =>
br (decide (v0<(l1.length:Int))) (
gd (bw v0 l1.length) (
ob (l1[v0.toNat]?) fun(x10,x11,x12,x13) =>
ob (
ob (GH n l2 l3 x3 x4 v1 v2 x10 x11 x12 x13) fun r0 =>
some r0) fun v3 =>
br (v3) (
some (.inr (.inl v0))) (
some (.inl (Ux (v0+1)))))) (
some (.inr (.inr ())))
def qu (n:Nat) (l1:List Int) (l3:Ul) (l4:Uj) (v1:Int) (v2:Int):(Int × List (Uk))->Option ((Int × List (Uk)) ⊕ ((List (Uk)) ⊕ (List (Uk)))):=fun(v0,l2) =>
br (decide (v0<(l1.length:Int))) (
gd (bw v0 l1.length) (
ob (l1[v0.toNat]?) fun x3 =>
gd (decide ((l1.length:Int)≠0)) (
gd (bw (Int.tmod (Ux (v0+1)) (l1.length:Int)) l1.length) (
ob (l1[(Int.tmod (Ux (v0+1)) (l1.length:Int)).toNat]?) fun x4 =>
ob (α:=(Unit) ⊕ (List (Uk))) (
ob (
ob (α:=(Int) ⊕ (Unit)) (
bg (sZ n l2 l3 l4 x3 x4 v1 v2) n 0) fun r0=>match r0 with
| .inl v3 =>
some v3
| .inr _ =>
some (-1)) fun v4 =>
br (decide (0<=v4)) (
some (.inl ())) (
gd (lim (l2++[(x3,x4,v1,v2)]).length) (
some (.inr (l2++[(x3,x4,v1,v2)]))))) fun r1=>match r1 with
| .inl _ =>
some (.inr (.inl l2))
| .inr l5 =>
some (.inl (Ux (v0+1),l5)))))) (
some (.inr (.inr l2)))
def qA (n:Nat) (l1:Um) (l3:Ul) (l4:Uj) (v1:Int):(Int × List (Uk))->Option ((Int × List (Uk)) ⊕ ((List (Uk)) ⊕ (List (Uk)))):=fun(v0,l2) =>
br (decide (v0<(l1.length:Int))) (
gd (bw v0 l1.length) (
ob (l1[v0.toNat]?) fun l5 =>
ob (α:=(List (Uk)) ⊕ (List (Uk))) (
bg (qu n l5 l3 l4 v1 v0) n (0,l2)) fun r0=>match r0 with
| .inl l6 =>
some (.inr (.inl l6))
| .inr l7 =>
some (.inl (Ux (v0+1),l7)))) (
some (.inr (.inr l2)))
def qN (n:Nat) (l1:Uj) (l3:Ul):(Int × List (Uk))->Option ((Int × List (Uk)) ⊕ ((Int × List (Uk)) ⊕ (List (Uk)))):=fun(v0,l2) =>
br (decide (v0<(l1.length:Int))) (
gd (bw v0 l1.length) (
ob (l1[v0.toNat]?) fun(l4,l5) =>
ob (yc n l4 l5) fun l6 =>
ob (α:=(List (Uk)) ⊕ (List (Uk))) (
bg (qA n l6 l3 l1 v0) n (0,l2)) fun r0=>match r0 with
| .inl l7 =>
some (.inr (.inl (v0,l7)))
| .inr l8 =>
some (.inl (Ux (v0+1),l8)))) (
some (.inr (.inr l2)))
def qC (n:Nat) (l1:List Int) (v1:Int) (v2:Int) (l3:Uj) (l4:Um) (l2:Ul) (l5:List Int):Int->Option ((Int) ⊕ ((Unit) ⊕ (Unit))):=fun v0 =>
br (decide (v0<(l1.length:Int))) (
gd (bw v0 l1.length) (
ob (l1[v0.toNat]?) fun x3 =>
gd (decide ((l1.length:Int)≠0)) (
gd (bw (Int.tmod (Ux (v0+1)) (l1.length:Int)) l1.length) (
ob (l1[(Int.tmod (Ux (v0+1)) (l1.length:Int)).toNat]?) fun x4 =>
ob (α:=(Unit) ⊕ (Unit)) (
br (decide (v1=0)) (
some (.inl ())) (
gd (bw v2 l3.length) (
ob (Jt n l4) fun _ =>
ob (ED n l4 (Ux (v1-1)) v1) fun l6 =>
ob (
gd (bw x3 l2.length) (
ob (l2[x3.toNat]?) fun(x10,x11) =>
gd (bw x4 l2.length) (
ob (l2[x4.toNat]?) fun(x12,x13) =>
some (Ux (x10+x12),Ux (x11+x13))))) fun(v3,v4) =>
ob (IF n l2 l3 l5 l6 v3 v4 2) fun r0 =>
br (!r0) (
some (.inr ())) (
some (.inl ()))))) fun r1=>match r1 with
| .inl _ =>
some (.inl (Ux (v0+1)))
| .inr _ =>
some (.inr (.inl ())))))) (
some (.inr (.inr ())))
def qH (n:Nat) (l1:Um) (v1:Int) (l2:Uj) (l3:Um) (l4:Ul) (l5:List Int):Int->Option ((Int) ⊕ ((Unit) ⊕ (Unit))):=fun v0 =>
br (decide (v0<(l1.length:Int))) (
gd (bw v0 l1.length) (
ob (l1[v0.toNat]?) fun l6 =>
ob (α:=(Unit) ⊕ (Unit)) (
bg (qC n l6 v0 v1 l2 l3 l4 l5) n 0) fun r0=>match r0 with
| .inl _ =>
some (.inr (.inl ()))
| .inr _ =>
some (.inl (Ux (v0+1))))) (
some (.inr (.inr ())))
def lF (n:Nat) (l1:Uj) (l4:Ul):Int->Option ((Int) ⊕ ((Int) ⊕ (Unit))):=fun v0 =>
br (decide (v0<(l1.length:Int))) (
gd (bw v0 l1.length) (
ob (l1[v0.toNat]?) fun(l2,l3) =>
ob (yc n l2 l3) fun l5 =>
ob (α:=(Unit) ⊕ (Unit)) (
bg (qH n l5 v0 l1 l3 l4 l2) n 0) fun r0=>match r0 with
| .inl _ =>
some (.inr (.inl v0))
| .inr _ =>
some (.inl (Ux (v0+1))))) (
some (.inr (.inr ())))
def sD (n:Nat) (l2:Uj) (v1:Int) (x3:Int) (l1:Ul) (x4:Int):Int->Option ((Int) ⊕ ((Unit) ⊕ (Unit))):=fun v0 =>
br (decide (v0<(l2.length:Int))) (
gd (bw v0 l2.length) (
ob (l2[v0.toNat]?) fun(l3,l4) =>
ob (
br (!decide (v0=v1)) (
ob (
gd (bw x3 l1.length) (
ob (l1[x3.toNat]?) fun(x10,x11) =>
gd (bw x4 l1.length) (
ob (l1[x4.toNat]?) fun(x12,x13) =>
some (Ux (x10+x12),Ux (x11+x13))))) fun(v2,v3) =>
ob (IF n l1 l2 l3 l4 v2 v3 2) fun r0 =>
some r0) (
some false)) fun v4 =>
br (v4) (
some (.inr (.inl ()))) (
some (.inl (Ux (v0+1)))))) (
some (.inr (.inr ())))
def mK (n:Nat) (l1:List Int) (l2:Uj) (v1:Int) (l3:Ul):Int->Option ((Int) ⊕ ((Unit) ⊕ (Unit))):=fun v0 =>
br (decide (v0<(l1.length:Int))) (
gd (bw v0 l1.length) (
ob (l1[v0.toNat]?) fun x3 =>
gd (decide ((l1.length:Int)≠0)) (
gd (bw (Int.tmod (Ux (v0+1)) (l1.length:Int)) l1.length) (
ob (l1[(Int.tmod (Ux (v0+1)) (l1.length:Int)).toNat]?) fun x4 =>
ob (α:=(Unit) ⊕ (Unit)) (
ob (α:=(Unit) ⊕ (Unit)) (
bg (sD n l2 v1 x3 l3 x4) n 0) fun r0=>match r0 with
| .inl _ =>
some (.inl ())
| .inr _ =>
some (.inr ())) fun r1=>match r1 with
| .inl _ =>
some (.inr (.inl ()))
| .inr _ =>
some (.inl (Ux (v0+1))))))) (
some (.inr (.inr ())))
def mC (n:Nat) (l1:Um) (l2:Uj) (v1:Int) (l3:Ul):Int->Option ((Int) ⊕ ((Unit) ⊕ (Unit))):=fun v0 =>
br (decide (v0<(l1.length:Int))) (
gd (bw v0 l1.length) (
ob (l1[v0.toNat]?) fun l4 =>
ob (α:=(Unit) ⊕ (Unit)) (
bg (mK n l4 l2 v1 l3) n 0) fun r0=>match r0 with
| .inl _ =>
some (.inr (.inl ()))
| .inr _ =>
some (.inl (Ux (v0+1))))) (
some (.inr (.inr ())))
def lN (n:Nat) (l1:Uj) (l2:Ul):Int->Option ((Int) ⊕ ((Int) ⊕ (Unit))):=fun v0 =>
br (decide (v0<(l1.length:Int))) (
gd (bw v0 l1.length) (
ob (l1[v0.toNat]?) fun(l3,l4) =>
ob (yc n l3 l4) fun l5 =>
ob (α:=(Unit) ⊕ (Unit)) (
bg (mC n l5 l1 v0 l2) n 0) fun r0=>match r0 with
| .inl _ =>
some (.inr (.inl v0))
| .inr _ =>
some (.inl (Ux (v0+1))))) (
some (.inr (.inr ())))
def OC (n:Nat) (l2:Ul) (l1:Uj):Option (Int × Int) :=
ob (
some ([]:List ((Int × Int) × Bool))) fun l3 =>
ob (α:=(Int × List ((Int × Int) × Bool)) ⊕ (List ((Int × Int) × Bool))) (
ob (α:=(Int × List ((Int × Int) × Bool)) ⊕ (List ((Int × Int) × Bool))) (
bg (qK n l1) n (0,l3)) fun r0=>match r0 with
| .inl (v0,l4) =>
some (.inl (v0,l4))
| .inr l5 =>
some (.inr l5)) fun r1=>match r1 with
| .inl (v1,_) =>
some (7,v1)
| .inr _ =>
ob (
some ()) fun _ =>
ob (α:=(Int × List (Uk)) ⊕ (List (Uk))) (
ob (α:=(Int × List (Uk)) ⊕ (List (Uk))) (
bg (qN n l1 l2) n (0,([]:List (Uk)))) fun r3=>match r3 with
| .inl (v2,l6) =>
some (.inl (v2,l6))
| .inr l7 =>
some (.inr l7)) fun r4=>match r4 with
| .inl (v3,_) =>
some (8,v3)
| .inr _ =>
ob (
some ()) fun _ =>
ob (α:=(Int) ⊕ (Unit)) (
ob (α:=(Int) ⊕ (Unit)) (
bg (lF n l1 l2) n 0) fun r5=>match r5 with
| .inl v4 =>
some (.inl v4)
| .inr _ =>
some (.inr ())) fun r6=>match r6 with
| .inl v5 =>
some (9,v5)
| .inr _ =>
ob (
some ()) fun _ =>
ob (α:=(Int) ⊕ (Unit)) (
ob (α:=(Int) ⊕ (Unit)) (
bg (lN n l1 l2) n 0) fun r7=>match r7 with
| .inl v6 =>
some (.inl v6)
| .inr _ =>
some (.inr ())) fun r8=>match r8 with
| .inl v7 =>
some (10,v7)
| .inr _ =>
some (0,0)
def zo (n:Nat) (l1:Ul):Int->Option ((Int) ⊕ ((Int) ⊕ (Unit))):=fun v63 =>
br (decide (v63<(l1.length:Int))) (
gd (bw v63 l1.length) (
ob (l1[v63.toNat]?) fun(x81,x82) =>
ob (N4 n x81 x82) fun r86 =>
br (r86) (
some (.inr (.inl v63))) (
some (.inl (Ux (v63+1)))))) (
some (.inr (.inr ())))
def qB (_:Nat) (l1:Ul):(List ((Int × Int) × Bool) × Int)->Option ((List ((Int × Int) × Bool) × Int) ⊕ ((Int) ⊕ (Unit))):=fun(l2,v0) =>
br (decide (v0<(l1.length:Int))) (
gd (bw v0 l1.length) (
ob (l1[v0.toNat]?) fun(x3,x4) =>
ob (some ((fX l2 (x3,x4)).getD false)) fun y0 =>
br (y0) (
some (.inr (.inl v0))) (
some (.inl ((jU l2 (x3,x4) true),Ux (v0+1)))))) (
some (.inr (.inr ())))
def xY (n:Nat) (l2:Um) (l3:Ul):Int->Option ((Int) ⊕ ((Unit) ⊕ (Unit))):=fun v0 =>
br (decide (v0<(l2.length:Int))) (
gd (bw v0 l2.length) (
ob (l2[v0.toNat]?) fun l1 =>
ob (
br (decide ((l1.length:Int)<3)) (
some true) (
br (decide (40<(l1.length:Int))) (
some true) (
ob (NN n l1) fun r0 =>
br (decide (r0<0)) (
some true) (
ob (NP n l1) fun r1 =>
some (decide ((l3.length:Int)<=r1)))))) fun v1 =>
br (v1) (
some (.inr (.inl ()))) (
some (.inl (Ux (v0+1)))))) (
some (.inr (.inr ())))
def zN (n:Nat) (l1:Uj) (l3:Ul):Int->Option ((Int) ⊕ ((Int) ⊕ (Unit))):=fun v0 =>
br (decide (v0<(l1.length:Int))) (
gd (bw v0 l1.length) (
ob (l1[v0.toNat]?) fun(l4,l2) =>
ob (
br (decide (8<(l2.length:Int))) (
some true) (
ob (
ob (yc n l4 l2) fun l5 =>
ob (α:=(Unit) ⊕ (Unit)) (
bg (xY n l5 l3) n 0) fun r0=>match r0 with
| .inl _ =>
some true
| .inr _ =>
some false) fun v1 =>
some v1)) fun v2 =>
br (v2) (
some (.inr (.inl v0))) (
some (.inl (Ux (v0+1)))))) (
some (.inr (.inr ())))
def zf (n:Nat) (l1:Um) (l2:Ul) (l3:Uj):Int->Option ((Int) ⊕ ((Unit) ⊕ (Unit))):=fun v0 =>
br (decide (v0<(l1.length:Int))) (
gd (bw v0 l1.length) (
ob (l1[v0.toNat]?) fun l4 =>
ob (
ob (Iq n l2 l3 l4 1) fun l5 =>
ob (Pk n l5) fun r0 =>
some (!decide (r0=0))) fun v1 =>
br (v1) (
some (.inr (.inl ()))) (
some (.inl (Ux (v0+1)))))) (
some (.inr (.inr ())))
def zO (n:Nat) (l1:Uj) (l2:Ul):Int->Option ((Int) ⊕ ((Int) ⊕ (Unit))):=fun v0 =>
br (decide (v0<(l1.length:Int))) (
gd (bw v0 l1.length) (
ob (l1[v0.toNat]?) fun(l3,l4) =>
ob (
ob (
ob (yc n l3 l4) fun l5 =>
ob (α:=(Unit) ⊕ (Unit)) (
bg (zf n l5 l2 l1) n 0) fun r0=>match r0 with
| .inl _ =>
some true
| .inr _ =>
some false) fun v1 =>
some v1) fun v2 =>
br (v2) (
some (.inr (.inl v0))) (
some (.inl (Ux (v0+1)))))) (
some (.inr (.inr ())))
def yo (n:Nat) (l1:Um) (l2:Ul) (l3:Uj):Int->Option ((Int) ⊕ ((Unit) ⊕ (Unit))):=fun v0 =>
br (decide (v0<(l1.length:Int))) (
gd (bw v0 l1.length) (
ob (l1[v0.toNat]?) fun l4 =>
ob (
ob (Iq n l2 l3 l4 1) fun l5 =>
ob (NU n l5) fun r0 =>
some ((decide (r0<0)) == (decide (v0=0)))) fun v1 =>
br (v1) (
some (.inr (.inl ()))) (
some (.inl (Ux (v0+1)))))) (
some (.inr (.inr ())))
def zB (n:Nat) (l1:Uj) (l2:Ul):Int->Option ((Int) ⊕ ((Int) ⊕ (Unit))):=fun v0 =>
br (decide (v0<(l1.length:Int))) (
gd (bw v0 l1.length) (
ob (l1[v0.toNat]?) fun(l3,l4) =>
ob (
ob (
ob (yc n l3 l4) fun l5 =>
ob (α:=(Unit) ⊕ (Unit)) (
bg (yo n l5 l2 l1) n 0) fun r0=>match r0 with
| .inl _ =>
some true
| .inr _ =>
some false) fun v1 =>
some v1) fun v2 =>
br (v2) (
some (.inr (.inl v0))) (
some (.inl (Ux (v0+1)))))) (
some (.inr (.inr ())))
def Ly (n:Nat) (l1:Ul) (l2:Uj):Option (Int × Int) :=
ob (
br (decide ((l1.length:Int)<3)) (
some true) (
br (decide (120<(l1.length:Int))) (
some true) (
br (decide ((l2.length:Int)<1)) (
some true) (
some (decide (64<(l2.length:Int))))))) fun v4 =>
br (v4) (
some (1,0)) (
ob (
ob (α:=(Int) ⊕ (Unit)) (
bg (zo n l1) n 0) fun r0=>match r0 with
| .inl v5 =>
some v5
| .inr _ =>
some (-1)) fun v0 =>
br (decide (0<=v0)) (
some (2,v0)) (
ob (α:=(Int) ⊕ (Unit)) (
bg (qB n l1) n (([]:List ((Int × Int) × Bool)),0)) fun r1=>match r1 with
| .inl v6 =>
some (3,v6)
| .inr _ =>
ob (
ob (α:=(Int) ⊕ (Unit)) (
bg (zN n l2 l1) n 0) fun r3=>match r3 with
| .inl v7 =>
some v7
| .inr _ =>
some (-1)) fun v1 =>
br (decide (0<=v1)) (
some (4,v1)) (
ob (
ob (α:=(Int) ⊕ (Unit)) (
bg (zO n l2 l1) n 0) fun r4=>match r4 with
| .inl v8 =>
some v8
| .inr _ =>
some (-1)) fun v2 =>
br (decide (0<=v2)) (
some (5,v2)) (
ob (
ob (α:=(Int) ⊕ (Unit)) (
bg (zB n l2 l1) n 0) fun r5=>match r5 with
| .inl v9 =>
some v9
| .inr _ =>
some (-1)) fun v3 =>
br (decide (0<=v3)) (
some (6,v3)) (
ob (OC n l1 l2) fun(r6,r7) =>
some (r6,r7))))))
def II (n:Nat) (l1:Ul) (l5:Uj):Option (Int) :=
ob (Ly n l1 l5) fun(r14,_) =>
br (decide (0<r14)) (
some 150) (
some 0)
def Mn (_:Nat) (r0:Unit->Int->Option (Int)) (l1:Ul):Unit->Int->Option (Int):=fun _ x3 =>
ob (some ((fX l1 x3).getD (0:Int),(fX l1 x3).isSome)) fun(y0,y1) =>
ob (
br (y1) (
some (!decide (y0=x3))) (
some false)) fun v0 =>
br (v0) (
ob (r0 () y0) fun r1 =>
some r1) (
some x3)
def Pw (n:Nat) (l79:Ul):Nat->Unit->Int->Option (Int)
 | 0=>fun _ _=>none
 | k+1=>Mn n (Pw n l79 k) l79
def KT (_:Nat) (x4:Int) (x10:Int):(Ul × Int)->Option ((Ul × Int) ⊕ (Ul)):=fun(l1,v0) =>
br (decide (v0<2)) (
ob (
gd (bw v0 2) (
ob ([x4,x10][v0.toNat]?) fun x3 =>
ob (some ((fX l1 x3).getD (0:Int),(fX l1 x3).isSome)) fun(_,y0) =>
br (!y0) (
some (jU l1 x3 x3)) (
some l1))) fun l2 =>
some (.inl (l2,Ux (v0+1)))) (
some (.inr l1))
def Lk (n:Nat) (l1:List (Uk)):(Ul × Int)->Option ((Ul × Int) ⊕ (Ul)):=fun(l3,v0) =>
br (decide (v0<(l1.length:Int))) (
gd (bw v0 l1.length) (
ob (l1[v0.toNat]?) fun(x3,x4,_,_) =>
ob (
bg (KT n x3 x4) n (l3,0)) fun l2 =>
ob (Pw n l2 n () x3) fun r0 =>
ob (Pw n l2 n () x4) fun r1 =>
some (.inl ((jU l2 r0 r1),Ux (v0+1))))) (
some (.inr l3))
def Me (n:Nat) (l1:Ul) (l2:Uj):Option ((Int × Int × Int × Int × Int) ⊕ (List (Uk) × Ul)) :=
ob (II n l1 l2) fun r0 =>
br (!decide (r0=0)) (
some (.inl (0,0,0,0,r0))) (
ob (JG n l1 l2) fun l3 =>
ob (
bg (Lk n l3) n (([]:Ul),0)) fun l4 =>
some (.inr (l3,l4)))
def pa (r:Ul):Int:=(r.countP (fun p=>decide (p.1=p.2)):Nat)
def Lc (_:Nat) (l1:Ul) (l5:Uj):Option (Int × Int × Int × Int × Int) :=
 ob (Me 100000 l1 l5) fun s=>match s with
 | .inl x=>some x
 | .inr (l,r)=>gd (lim r.length) (some ((r.length:Int),(l.length:Int),(l5.length:Int),pa r,0))
end Go.Proofs.YtmndpgfbkicndaaGreat
namespace Go.Ab
open Go
section
variable {E : Env} {j j1 : aU} {m m1 : Vj} {w w1 : Uw}
def Sim.same (h:MR E j m w) (hold:∀c,c<w.heap.size->w1.heap[c]? = w.heap[c]?) (hsize:w.heap.size<=w1.heap.size) (hcalm:jC E w w1):Sim E j m w j m w1 where
 ext:=.refl m
 le:=.refl j
 new:=fun b k h h'=>by simp[h'] at h
 mr:=⟨fun b k hb=>⟨(h.lt b k hb).1,Sc (h.lt b k hb).2 hsize⟩,fun b o k ho hb=>by
  obtain⟨o',h1,h2⟩:=h.obj b o k ho hb;exact⟨o',(hold k.c (h.lt b k hb).2).trans h1,h2⟩,h.inj,h.glob⟩
 size:=hsize
 full:=fun b h h' _=>Sl h (by omega)
 away:=fun _ _ _=>rfl
 fresh:=fun b k h h'=>by simp[h'] at h
 frame:=fun c hc _=>hold c hc
 calm:=hcalm
def sX (hE:EnvOk E) {pr:FuncId->Option Prim} (h:∀f p,pr f=some p->E.cV f=some p\/∀args m v m',p.run args m=some (v,m')->∀(j:aU) (w:Uw) (args':List Us),MR E j m w->LR j args args'->gC E.P (E.cV f).isSome f args'.toArray w (jv E j m w v m')):EnvOk { E with cV:=pr}:=by
 refine⟨hE.call,hE.mixed,fun f p hp args m v m' hrun j w args' hm hl=>?_⟩;have hp':({ E with cV:=pr}:Env).cV f=some p:=hp;have hm0:MR E j m w:=MR.env (E:={ E with cV:=pr}) (E':=E) rfl hm;have key:∀v' w',jv E j m w v m' v' w'->jv { E with cV:=pr} j m w v m' v' w':=fun v' w' ⟨j',s,hv⟩=>⟨j',Sim.env (E:=E) rfl (fun e=>e) s,hv⟩;rcases h f p hp with h1|h1
 exact lV (fun _=>by rw[hp']; rfl) (hE.cV f p h1 args m v m' hrun j w args' hm0 hl) key
 exact lV (fun _=>by rw[hp']; rfl) (h1 args m v m' hrun j w args' hm0 hl) key
end
def Ga {j:aU} {l:List Us} (h:∀x ∈ l,bN x=true):LR j l l :=
 ⟨rfl,fun _ v hi=>⟨v,hi,VR.bN (h v (Sa hi))⟩⟩
def yX {W W':Uw} (hc:Calm W W') (hs:W.heap.size<=W'.heap.size) (hold:∀c,c<W.heap.size->W'.heap[c]? = W.heap[c]?):∃q os,W'=Sort.grow (W.drewN q) os:=by
 refine⟨W'.drawn-W.drawn,W'.heap.extract W.heap.size W'.heap.size,?_⟩;have hh:W'.heap=W.heap++W'.heap.extract W.heap.size W'.heap.size:=by
  apply Ue;intro i;rw[Array.getElem?_append]
  split
  exact hold i ‹_›
  rw[Array.getElem?_extract]
  split
  congr 1; omega
  exact Array.getElem?_eq_none (by omega)
 obtain⟨h1,h2,h3,h4⟩:=hc;cases W; cases W';simp only[Sort.grow,World.drewN] at *;subst h1; subst h2; subst h3
 congr 1
 omega
def Ax {E:Env} (hE:EnvOk E) (hmono:E.mono:=by trivial) {f:FuncId} {args:List Us} (hp:E.cV f=none) {v:Us} (hpl:∀x ∈ args,bN x=true) (hv:bN v=true)
  (h:aD E f args (Ds E.glob fun _=>none) fun v' _=>v'=v) {W:Uw} (hW:E.glob<=W.heap.size) :
  Calls E.P f args.toArray W fun e W'=>e = .returned v/\∃q os,W'=Sort.grow (W.drewN q) os:=by
 obtain⟨v',m',⟨k,hr⟩,rfl⟩:=h;have hm:MR E (Dj E.glob) (Ds E.glob fun _=>none) W:=IU (R5 _) hW fun b cs hb=>by cases hb
 refine callsIn_wide.1 ((ph hE hr hp hm (Ga hpl)).mono ?_);rintro e W' ⟨v1,rfl,j',s,hv1⟩;rw[gN hv hv1];refine⟨rfl,yX ⟨s.calm.1,s.calm.2.1,s.calm.2.2.1,s.calm.2.2.2 hmono⟩ s.size fun c hc=>s.frame c hc fun b k hb hl _=>?_⟩;have:(Ds E.glob fun _=>none).get b=none:=by simp[Vj.get,Ds,Heap.get_nil]
 rw[this] at hl; cases hl
def ln {w:Uw} {B:Nat} {c:Array Us} {e:Ut} {fz:Nat × Nat} (h:w.heap[B]? = some (.cells c e fz)) (f:Array Us->Array Us):Sort.mapBlock w B f=w.putObj B (.cells (f c) e fz):=by
 unfold Sort.mapBlock World.putObj
 congr 1
 apply Ue;intro i;rw[Array.getElem?_modify,TL]
 by_cases hi:B=i
 subst hi;obtain⟨hlt,hv⟩:=R9.1 h;simp[hlt,hv,Sort.onCells]
 simp[hi]
def B1 {E:Env} {j:aU} {m:Vj} {w:Uw} (h:MR E j m w) {b:Nat} {k:Blk} (hk:j b=some k) {cs cs':List Us} {tag:Tag} (hg:m.get b=some (.cells cs tag)) (hl:cs'.length=cs.length) (hp:cs'.all aS=true) (n:Nat) (os:Array Obj) :
  Sim E j m w j (m.set b (.cells cs' tag)) (Sort.grow (Sort.putRow id (Sort.ahead w n) k.c 0 cs'.toArray) os):=by
 obtain⟨c,e,fz,h1,h2,h3⟩:=h.gi hk hg;have s1:Sim E j m w j m (Sort.ahead w n):=Sim.of_heap h rfl ⟨rfl,rfl,rfl,Nat.le_add_right _ _⟩;have hle:cs.length<=c.size:=by
  cases tag with
  | ro=>exact T8 h2.2.symm
  | own=>exact T8 h2.2.1.symm
  | more sz=>exact h2.2.1
 have hor:OR j k (.cells cs' tag) (.cells (Sort.putCells id 0 cs'.toArray c) e fz):=by
  have hget:∀i,(Sort.putCells id 0 cs'.toArray c)[i]? = if i<cs'.length then(if i<c.size then some cs'[i]! else none) else c[i]?:=by
   intro i;simp only[Sort.putCells,Array.getElem?_mapIdx,S8,true_and,Sw,TQ,TB,id]
   by_cases hi:i<c.size
   rw[TF hi];simp only[Si]
   by_cases hj:i<cs'.length
   simp[hj,hi]
   simp[hj]
   rw[Array.getElem?_eq_none (by omega)]
   simp[hi]
  refine⟨?_,fun i v hi=>?_⟩
  rw[show cs'.length=cs.length from hl]
  refine pg.put h2 (by simp[Sort.putCells]) fun i hi=>?_
  rw[hget,Uz]
  have hlt:i<cs'.length:=(Se.1 hi).1;refine⟨v,?_,.aS (Sb.1 hp v (Sa hi))⟩;rw[hget,R0 hlt,UA,TE,hi]; rfl
 have s2:=iM s1.mr hk (by rw[hg]; rfl) hor
 have e2:Sort.putRow id (Sort.ahead w n) k.c 0 cs'.toArray=(Sort.ahead w n).putObj k.c (.cells (Sort.putCells id 0 cs'.toArray c) e fz):=ln (w:=Sort.ahead w n) h1 _;rw[e2];refine(s1.trans h s2).trans h (Sim.same s2.mr (fun x hx=>?_) (by simp) ⟨rfl,rfl,rfl,fun _=>R5 _⟩)
 show(_++_:Array Obj)[x]? = _
 rw[Array.getElem?_append,R0 hx]
def zm {α:Type} [Inhabited α] {enc:α->List Us} {k:Nat} (hk:∀x,(enc x).length=k) (h0:0<k):∀(l:List α) (t:Nat),t<l.length*k->(l.map enc).flatten[t]! = (enc l[t/k]!)[t%k]!
 | [],t,h=>by simp at h
 | x::l,t,h=>by
  simp only[Tk,SQ];rw[TE,TZ]
  by_cases ht:t<k
  rw[R0 (by rw[hk]; exact ht),Nat.div_eq_of_lt ht,TC ht,<-TE]; rfl
  rw[RZ (by rw[hk]; exact ht),hk,<-TE,zm hk h0 l (t-k) (by simp only[SA,TN,Nat.one_mul] at h; omega)]
  have e1:t/k=(t-k)/k+1:=by rw[Nat.div_eq_sub_div h0 (by omega)]
  have e2:t%k=(t-k)%k:=Nat.mod_eq_sub_mod (by omega)
  rw[e1,e2]; rfl
def cO {α:Type} {enc:α->List Us} {k:Nat} (hk:∀x,(enc x).length=k):∀l:List α,(l.map enc).flatten.length=l.length*k
 | []=>by simp
 | x::l=>by simp only[Tk,SQ,Sd,SA,hk,cO hk l,TN,Nat.one_mul]; omega
def gX {α:Type} [Inhabited α] {enc:α->List Us} {k:Nat} (hk:∀x,(enc x).length=k) (h0:0<k) (l:List α):Sort.flatK enc k l.toArray=(l.map enc).flatten.toArray:=by
 refine Sort.ext_get! (by simp[cO hk]) fun t ht=>?_
 have ht':t<l.length*k:=by simpa using ht
 rw[Sort.get_flatK _ _ _ _ (by simpa using ht')]
 have:=zm hk h0 l t ht';simp at this ⊢;rw[this]
def u1 {E:Env} {j:aU} {m:Vj} {w:Uw} (h:MR E j m w) {b:Nat} {k:Blk} (hk:j b=some k) {cs:List Us} {tag:Tag} (hg:m.get b=some (.cells cs tag)) (ht:tag≠.ro) (hp:cs.all aS=true) :
  Sort.Holds id w k.c 0 cs.toArray:=by
 obtain⟨c,e,fz,h1,h2,h3⟩:=h.gi hk hg;have hfz:fz=(0,0):=by
  cases tag with
  | ro=>exact Sl rfl ht
  | own=>exact h2.2.2
  | more sz=>exact h2.2.2.1
 subst hfz;intro i hi;have hi':i<cs.length:=by simpa using hi
 obtain⟨v',g1,g2⟩:=h3 i cs[i] (RY hi');have:=fR (Sb.1 hp _ (Sn hi')) g2;subst this;refine⟨?_,?_⟩
 simp only[World.cell?,h1,Sw];simp[g1,hi']
 simp only[World.frozen?,h1]; simp
def Ao {E:Env} {j:aU} {m:Vj} {w:Uw} (h:MR E j m w) {b:Nat} {k:Blk} (hk:j b=some k) {cs:List Us} {tag:Tag} (hg:m.get b=some (.cells cs tag)) (ht:tag≠.ro) :
  ∃cc:List Us,LR j cs cc/\Sort.Holds id w k.c 0 cc.toArray:=by
 obtain⟨c,e,fz,h1,h2,h3⟩:=h.gi hk hg;have hfz:fz=(0,0):=by
  cases tag with
  | ro=>exact Sl rfl ht
  | own=>exact h2.2.2
  | more sz=>exact h2.2.2.1
 have hle:cs.length<=c.size:=by
  cases tag with
  | ro=>exact Sl rfl ht
  | own=>exact T8 h2.2.1.symm
  | more sz=>exact h2.2.1
 subst hfz;have hl:(c.toList.take cs.length).length=cs.length:=by rw[R8]; exact Nat.min_eq_left (by simpa using hle)
 refine⟨c.toList.take cs.length,⟨hl.symm,fun i v hi=>?_⟩,fun i hi=>?_⟩
 obtain⟨v',g1,g2⟩:=h3 i v hi;have hlt:=(Se.1 hi).1;exact⟨v',by rw[S6,R0 hlt]; simpa using g1,g2⟩
 have hi':i<cs.length:=by rw[TQ,hl] at hi; exact hi
 refine⟨?_,?_⟩
 simp only[World.cell?,h1,Sw];have hic:i<c.size:=by omega
 simp[hi',hic]
 simp only[World.frozen?,h1]; simp
def Ha {E:Env} {j:aU} {m:Vj} {w:Uw} (h:MR E j m w) {b:Nat} {k:Blk} (hk:j b=some k) {cs cs' cc':List Us} {tag:Tag} (hg:m.get b=some (.cells cs tag)) (hl:cs'.length=cs.length) (hp:LR j cs' cc') (n:Nat) (os:Array Obj) :
  Sim E j m w j (m.set b (.cells cs' tag)) (Sort.grow (Sort.putRow id (Sort.ahead w n) k.c 0 cc'.toArray) os):=by
 obtain⟨c,e,fz,h1,h2,h3⟩:=h.gi hk hg;have s1:Sim E j m w j m (Sort.ahead w n):=Sim.of_heap h rfl ⟨rfl,rfl,rfl,Nat.le_add_right _ _⟩;have hlc:cs'.length=cc'.length:=hp.1;have hle:cs.length<=c.size:=by
  cases tag with
  | ro=>exact T8 h2.2.symm
  | own=>exact T8 h2.2.1.symm
  | more sz=>exact h2.2.1
 have hor:OR j k (.cells cs' tag) (.cells (Sort.putCells id 0 cc'.toArray c) e fz):=by
  have hget:∀i,(Sort.putCells id 0 cc'.toArray c)[i]? = if i<cc'.length then(if i<c.size then some cc'[i]! else none) else c[i]?:=by
   intro i;simp only[Sort.putCells,Array.getElem?_mapIdx,S8,true_and,Sw,TQ,TB,id]
   by_cases hi:i<c.size
   rw[TF hi];simp only[Si]
   by_cases hj:i<cc'.length
   simp[hj,hi]
   simp[hj]
   rw[Array.getElem?_eq_none (by omega)]
   simp[hi]
  refine⟨?_,fun i v hi=>?_⟩
  rw[show cs'.length=cs.length from hl]
  refine pg.put h2 (by simp[Sort.putCells]) fun i hi=>?_
  rw[hget,Uz]
  have hlt:i<cs'.length:=(Se.1 hi).1;obtain⟨v',g1,g2⟩:=hp.2 i v hi;refine⟨v',?_,g2⟩;rw[hget,UA,UA,TE,g1]; rfl
 have s2:=iM s1.mr hk (by rw[hg]; rfl) hor
 have e2:Sort.putRow id (Sort.ahead w n) k.c 0 cc'.toArray=(Sort.ahead w n).putObj k.c (.cells (Sort.putCells id 0 cc'.toArray c) e fz):=ln (w:=Sort.ahead w n) h1 _;rw[e2];refine(s1.trans h s2).trans h (Sim.same s2.mr (fun x hx=>?_) (by simp) ⟨rfl,rfl,rfl,fun _=>R5 _⟩)
 show(_++_:Array Obj)[x]? = _
 rw[Array.getElem?_append,R0 hx]
end Go.Ab
namespace Go.Proofs
open Go.Shelf
def Tryz.AZ:Go.Shelf.Ren:=⟨fun|6=>104|15=>128|14=>127|28=>149|29=>150|20=>141|21=>142|22=>143|23=>144|24=>145|25=>146|26=>147|27=>148|46=>156|47=>157|48=>158|49=>159|50=>160|57=>164|n=>n,fun|22=>57|24=>64|25=>126|3=>3|39=>150|0=>0|53=>171|55=>173|4=>4|46=>165|45=>164|50=>94|5=>5|9=>9|66=>177|70=>181|76=>185|77=>75|n=>n,fun|n=>n⟩
def Tryz.AR:Go.Proofs.SlLaysF0.n6 Tryz.prog Tryz.AZ:={
 mixed:=by kernel_rfl
 f6:=⟨Tryz.f104.name,by decide,Tryz.func104.trans (SD some (by kernel_rfl))⟩
 f14:=⟨Tryz.f127.name,by decide,Tryz.func127.trans (SD some (by kernel_rfl))⟩
 f15:=Tryz.func128.trans (SD some (by kernel_rfl))
 f20:=⟨Tryz.f141.name,by decide,Tryz.func141.trans (SD some (by kernel_rfl))⟩
 f21:=⟨Tryz.f142.name,by decide,Tryz.func142.trans (SD some (by kernel_rfl))⟩
 f22:=⟨Tryz.f143.name,by decide,Tryz.func143.trans (SD some (by kernel_rfl))⟩
 f23:=⟨Tryz.f144.name,by decide,Tryz.func144.trans (SD some (by kernel_rfl))⟩
 f24:=⟨Tryz.f145.name,by decide,Tryz.func145.trans (SD some (by kernel_rfl))⟩
 f25:=⟨Tryz.f146.name,by decide,Tryz.func146.trans (SD some (by kernel_rfl))⟩
 f26:=⟨Tryz.f147.name,by decide,Tryz.func147.trans (SD some (by kernel_rfl))⟩
 f27:=⟨Tryz.f148.name,by decide,Tryz.func148.trans (SD some (by kernel_rfl))⟩
 f28:=Tryz.func149.trans (SD some (by kernel_rfl))
 f29:=Tryz.func150.trans (SD some (by kernel_rfl))
 f46:=⟨Tryz.f156.name,by decide,Tryz.func156.trans (SD some (by kernel_rfl))⟩
 f47:=Tryz.func157.trans (SD some (by kernel_rfl))
 f48:=Tryz.func158.trans (SD some (by kernel_rfl))
 f49:=⟨Tryz.f159.name,by decide,Tryz.func159.trans (SD some (by kernel_rfl))⟩
 f50:=⟨Tryz.f160.name,by decide,Tryz.func160.trans (SD some (by kernel_rfl))⟩
 f57:=⟨Tryz.f164.name,by decide,Tryz.func164.trans (SD some (by kernel_rfl))⟩
 t0:=Tryz.underlying0
 a0:=Tryz.isAgg0
 z0:=Tryz.sizeOf0
 v0:=Tryz.zeroValue0
 t3:=Tryz.underlying3
 a3:=Tryz.isAgg3
 z3:=Tryz.sizeOf3
 v3:=Tryz.zeroValue3
 t4:=Tryz.underlying4
 a4:=Tryz.isAgg4
 z4:=Tryz.sizeOf4
 v4:=Tryz.zeroValue4
 t5:=Tryz.underlying5
 a5:=Tryz.isAgg5
 z5:=Tryz.sizeOf5
 v5:=Tryz.zeroValue5
 t9:=Tryz.underlying9
 a9:=Tryz.isAgg9
 z9:=Tryz.sizeOf9
 v9:=Tryz.zeroValue9
 t22:=Tryz.underlying57
 a22:=Tryz.isAgg57
 z22:=Tryz.sizeOf57
 v22:=Tryz.zeroValue57
 t25:=Tryz.underlying126
 a25:=Tryz.isAgg126
 z25:=Tryz.sizeOf126
 v25:=Tryz.zeroValue126
 t39:=Tryz.underlying150
 a39:=Tryz.isAgg150
 z39:=Tryz.sizeOf150
 v39:=Tryz.zeroValue150
 t45:=Tryz.underlying164
 a45:=Tryz.isAgg164
 z45:=Tryz.sizeOf164
 v45:=Tryz.zeroValue164
 t46:=Tryz.underlying165
 a46:=Tryz.isAgg165
 z46:=Tryz.sizeOf165
 v46:=Tryz.zeroValue165
 t50:=Tryz.underlying94
 a50:=Tryz.isAgg94
 z50:=Tryz.sizeOf94
 v50:=Tryz.zeroValue94
 t53:=Tryz.underlying171
 a53:=Tryz.isAgg171
 z53:=Tryz.sizeOf171
 v53:=Tryz.zeroValue171
 t55:=Tryz.underlying173
 a55:=Tryz.isAgg173
 z55:=Tryz.sizeOf173
 v55:=Tryz.zeroValue173
 t66:=Tryz.underlying177
 a66:=Tryz.isAgg177
 z66:=Tryz.sizeOf177
 v66:=Tryz.zeroValue177
 t70:=Tryz.underlying181
 a70:=Tryz.isAgg181
 z70:=Tryz.sizeOf181
 v70:=Tryz.zeroValue181
 t76:=Tryz.underlying185
 a76:=Tryz.isAgg185
 z76:=Tryz.sizeOf185
 v76:=Tryz.zeroValue185
 t77:=Tryz.underlying75
 a77:=Tryz.isAgg75
 z77:=Tryz.sizeOf75
 v77:=Tryz.zeroValue75}
end Go.Proofs
namespace Go.Proofs.YtmndpgfbkicndaaGreat
open Go Go.Ab Go.Ab.W
set_option maxRecDepth 10000
noncomputable def Du:Env:={ P:=Tryz.prog,glob:=0,cV:=fun _=>none,mono:=True}
def pb:EnvOk Du:=zk yN fun f p hp=>by cases hp
namespace W105
set_option maxHeartbeats 4000000
attribute [local irreducible] Tm.at Trie.set Trie.get Vj.get Vj.set Vj.alloc Vj.ww Vj.kill
def O4 (_:Nat) (x1:Int) (x2:Int) (_:Int) (_:Int) (x5:Int) (x6:Int) (_:Int) (_:Int):Option (Int) :=
ob (some (Ux ((Ux (120*(Ux (x1-x5))))+x2))) fun y11 =>
some (Ux (y11-x6))
def qd:∀b o,aF Du.P 64 (ptr b o) 0=some (ptr b (o+0)):=fun _ _=>by kernel_rfl
def bX:TyI Du.P 3 false 1:=⟨by kernel_rfl,by kernel_rfl,by kernel_rfl⟩
def qm:∀b o,aF Du.P 64 (ptr b o) 1=some (ptr b (o+1)):=fun _ _=>by kernel_rfl
def Jz (n:Nat) (x1:Int) (x2:Int) (x3:Int) (x4:Int) (x5:Int) (x6:Int) (x7:Int) (x8:Int)  (r:Int) (hF:O4 n x1 x2 x3 x4 x5 x6 x7 x8=some r) (m:Vj)  :
  aD Du 105 [.agg #[.int .i64 x1,.int .i64 x2,.int .i64 x3,.int .i64 x4],.agg #[.int .i64 x5,.int .i64 x6,.int .i64 x7,.int .i64 x8]] m (Vi m (.int .i64 r)):=by
 unfold O4 at hF;refine aV (m0:=m) (ps:=[]) (N:=17) (rs:=[.tmp 4]) rfl Tryz.func105 rfl rfl rfl (UJ m) ?_;refine UD ?_;refine UG ?_;refine UQ (Lu rfl) gn rfl fun b9=>?_;refine UQ (Lu rfl) gn rfl fun b10=>?_;refine UB (bM rfl) rfl ?_;refine UP ?_;refine UM ?_;refine UD ?_;refine UG ?_;refine UB (aL (r:=ptr b9 0) rfl (qd _ _)) rfl ?_;refine UB (aC (k:=1) bX rfl rfl rfl) rfl ?_;refine UB (aL (r:=ptr b10 0) rfl (qd _ _)) rfl ?_;refine UB (aC (k:=0) bX rfl rfl rfl) rfl ?_;refine UB (aI rfl rfl (bR _ _ _)) rfl ?_;refine UB (aI rfl rfl (cu _ _ _)) rfl ?_;refine UB (aL (r:=ptr b9 1) rfl (qm _ _)) rfl ?_;refine UB (aC (k:=1) bX rfl rfl rfl) rfl ?_;obtain⟨y11,h12,hF⟩:=J hF;refine UB (aI rfl rfl ((cg _ _ _).trans (cI h12))) rfl ?_;refine UB (aL (r:=ptr b10 1) rfl (qm _ _)) rfl ?_;refine UB (aC (k:=0) bX rfl rfl rfl) rfl ?_;refine UB (aI rfl rfl (bR _ _ _)) rfl ?_;refine UB (bM rfl) rfl ?_;refine UP ?_;refine UM ?_;refine Wk.ret ?_;cases hF;exact UW (.tmp rfl .nil) fun m' hm=>⟨(),rfl,(UH [] rfl rfl) m' hm⟩
end W105
def u9 (x y:fI):Int:=Ux (Ux (Ux (120*Ux (x.1-y.1))+x.2.1)-y.2.1)
def sh (x y:fI) {W:Uw} :
  Calls Tryz.prog 105 #[.agg (fi x).toArray,.agg (fi y).toArray] W fun e W'=>e = .returned (.int .i64 (u9 x y))/\∃q os,W'=Sort.grow (W.drewN q) os :=
 Ax (E:=Du) pb (hmono:=trivial) (f:=105) (args:=[.agg #[.int .i64 x.1,.int .i64 x.2.1,.int .i64 x.2.2.1,.int .i64 x.2.2.2],.agg #[.int .i64 y.1,.int .i64 y.2.1,.int .i64 y.2.2.1,.int .i64 y.2.2.2]]) rfl (by intro v hv; simp at hv; rcases hv with rfl|rfl<;>rfl) rfl
  ((W105.Jz 5 x.1 x.2.1 x.2.2.1 x.2.2.2 y.1 y.2.1 y.2.2.1 y.2.2.2 (u9 x y) rfl _).mono fun v m' ⟨_,h,_⟩=>h) (S8 _)
def rh {x:Int} (h1 : -1000000<=x) (h2:x<=1000000):Ux x=x:=by
 simp only[IntKind.wrap,IntKind.bits,IntKind.signed]
 show(if (true && decide (x%18446744073709551616≥9223372036854775808))=true then x%18446744073709551616-18446744073709551616 else x%18446744073709551616)=x
 simp only[Tv,Sf]
 split<;>omega
def uh (x:fI):Prop:=0<=x.1/\x.1<120/\0<=x.2.1/\x.2.1<120
def G5 {x y:fI} (hx:uh x) (hy:uh y):u9 x y=120*(x.1-y.1)+x.2.1-y.2.1:=by
 obtain⟨a1,a2,a3,a4⟩:=hx;obtain⟨b1,b2,b3,b4⟩:=hy;unfold u9;rw[rh (x:=x.1-y.1) (by omega) (by omega),rh (x:=120*(x.1-y.1)) (by omega) (by omega),rh (x:=120*(x.1-y.1)+x.2.1) (by omega) (by omega),rh (by omega) (by omega)]
def GV {x y:fI} (hx:uh x) (hy:uh y):u9 x y<0↔x.1<y.1\/x.1=y.1/\x.2.1<y.2.1:=by
 rw[G5 hx hy];obtain⟨a1,a2,a3,a4⟩:=hx;obtain⟨b1,b2,b3,b4⟩:=hy;omega
def Ci (w:Uw):(isAgg 64).run Tryz.prog w = .ok true w:=by rw[mP (by kernel_rfl) w,show dM Tryz.prog 64=true by kernel_rfl]
def xH (w:Uw):(Go.sizeOf 64).run Tryz.prog w = .ok 4 w:=by rw[cK (by kernel_rfl) w,show aH Tryz.prog 64=4 by kernel_rfl]
def za:∀args w,(callFunc 105 args).run Tryz.prog w = .ok (.enter 105 args) w:=fun args w=>pb.call 105 _ _ Tryz.func105 rfl args w
end Go.Proofs.YtmndpgfbkicndaaGreat
namespace Go.Proofs
open Go.Shelf
def Tryz.FA:Go.Shelf.Ren:=⟨fun|45=>115|n=>n,fun|22=>29|23=>28|3=>3|4=>4|0=>0|n=>n,fun|n=>n⟩
def Tryz.Qz:Go.Proofs.SlLaysE.n45 Tryz.prog Tryz.FA:={
 mixed:=by kernel_rfl
 f45:=⟨Tryz.f115.name,by decide,Tryz.func115.trans (SD some (by kernel_rfl))⟩
 t0:=Tryz.underlying0
 a0:=Tryz.isAgg0
 z0:=Tryz.sizeOf0
 v0:=Tryz.zeroValue0
 t3:=Tryz.underlying3
 a3:=Tryz.isAgg3
 z3:=Tryz.sizeOf3
 v3:=Tryz.zeroValue3
 t4:=Tryz.underlying4
 a4:=Tryz.isAgg4
 z4:=Tryz.sizeOf4
 v4:=Tryz.zeroValue4
 t22:=Tryz.underlying29
 a22:=Tryz.isAgg29
 z22:=Tryz.sizeOf29
 v22:=Tryz.zeroValue29
 a23:=Tryz.isAgg28
 z23:=Tryz.sizeOf28}
def Tryz.F4:Go.Shelf.Ren:=⟨fun|45=>101|n=>n,fun|22=>28|23=>3|3=>3|4=>4|0=>0|n=>n,fun|n=>n⟩
def Tryz.QS:Go.Proofs.SlLaysE.n45 Tryz.prog Tryz.F4:={
 mixed:=by kernel_rfl
 f45:=⟨Tryz.f101.name,by decide,Tryz.func101.trans (SD some (by kernel_rfl))⟩
 t0:=Tryz.underlying0
 a0:=Tryz.isAgg0
 z0:=Tryz.sizeOf0
 v0:=Tryz.zeroValue0
 t3:=Tryz.underlying3
 a3:=Tryz.isAgg3
 z3:=Tryz.sizeOf3
 v3:=Tryz.zeroValue3
 t4:=Tryz.underlying4
 a4:=Tryz.isAgg4
 z4:=Tryz.sizeOf4
 v4:=Tryz.zeroValue4
 t22:=Tryz.underlying28
 a22:=Tryz.isAgg28
 z22:=Tryz.sizeOf28
 v22:=Tryz.zeroValue28
 a23:=Tryz.isAgg3
 z23:=Tryz.sizeOf3}
end Go.Proofs
namespace Go.Ab
open Go
section
variable {E : Env} {j : aU} {m : Vj} {w : Uw}
def VR.at {b o l c:Nat} {v':Us} (h:VR j (.slice (some ⟨b,o,none⟩) l c) v'):∃k c',j b=some k/\v' = .slice (some ⟨k.c,o,none⟩) l c':=by
 cases h with
 | slice hj hm=>exact⟨_,_,hj,rfl⟩
 | sliceM hj hm _ _ _ _=>exact⟨_,_,hj,rfl⟩
end
end Go.Ab
namespace Go.Proofs.YtmndpgfbkicndaaGreat
open Go Go.Ab Go.Ab.W
set_option maxRecDepth 10000
def qy:∀l:List fI,cN (l.map fi).flatten=some l
 | []=>rfl
 | (a,b,c,d)::l=>by
  show(cN (l.map fi).flatten).map _=_
  rw[qy l]; rfl
def vD:∀{cs:List Us} {l:List fI},cN cs=some l->cs=(l.map fi).flatten:=by
 intro cs
 induction cs using cN.induct with
 | case1=>intro l h; cases h; rfl
 | case2 a b c d r ih =>
  intro l h;have h':(cN r).map ((a,b,c,d)::·)=some l:=h;cases hr:cN r with
  | none=>rw[hr] at h'; cases h'
  | some l' =>
   rw[hr] at h'; cases h';rw[ih hr]; rfl
 | case3 cs h1 h2 =>
  intro l h;unfold cN at h
  split at h
  exact Sl rfl h1
  rename_i a b c d r;exact Sl rfl (h2 a b c d r)
  cases h
def ou (l:List fI):((l.map fi).flatten).all aS=true:=by
 induction l with
 | nil=>rfl
 | cons x l ih=>rw[Tk,SQ,List.all_append,ih]; rfl
def lW {m:Vj} {w b n n':Nat} {cs:List Us} {tg:Tag} (h:gH m w b n n'=some (cs,tg)):m.get b=some (.cells cs tg)/\tg≠.ro/\n=n'/\cs.length=n*w/\(tg = .own\/tg = .more w):=by
 unfold gH at h
 split at h
 rename_i cs' hg
 split at h
 rename_i hc; cases h; exact⟨hg,(by intro e; cases e),hc.1,hc.2,.inl rfl⟩
 cases h
 rename_i cs' k hg
 split at h
 rename_i hc; cases h; exact⟨hg,(by intro e; cases e),hc.1,hc.2.1,.inr (by rw[hc.2.2])⟩
 cases h
 cases h
def zM {j:aU} {f:FuncId} {xs ys:Array Us} {v:Us} (h:VR j (.func (.func f) xs ys) v) (h1:xs.size=0) (h2:ys.size=0):v = .func (.func f) #[] #[]:=by
 cases h with
 | @func _ _ ys' _ ds a _ c _ =>
  have e1:ys'=#[]:=TY (a.symm.trans h1);have e2:ds=#[]:=TY (c.symm.trans h2);rw[e1,e2]
def ov {n:Nat} (h:lim n=true):n<=1073741824:=SZ h
def rV {l:List fI} (h:sO l=true):(∀x ∈ l,uh x)/\(l.map fun x=>(x.1,x.2.1)).Nodup:=by
 unfold sO at h;simp only[R4,Sf] at h;refine⟨fun x hx=>?_,h.2⟩;have:=Sb.1 h.1 x hx;simp only[R4,Sf] at this;exact⟨this.1.1.1,this.1.1.2,this.1.2,this.2⟩
section
variable (l : List fI)
abbrev Pl:={ x:fI // x ∈ l}
def zy (x y:Pl l):Int:=u9 x.1 y.1
variable {l}
def PE (hl:∀x ∈ l,uh x) (x y:Pl l):Go.Proofs.ltOf (zy l) x y=decide (x.1.1<y.1.1\/x.1.1=y.1.1/\x.1.2.1<y.1.2.1):=by
 unfold Go.Proofs.ltOf zy
 congr 1
 exact propext (GV (hl _ x.2) (hl _ y.2))
def PF (hl:∀x ∈ l,uh x):Go.Sort.SWO (Go.Proofs.ltOf (zy l)) where
 irrefl x:=by rw[PE hl]; simp
 trans x y z h1 h2:=by rw[PE hl] at *; simp only[Sf] at *; omega
 ntrans x y z h1 h2:=by rw[PE hl] at *; simp only[decide_eq_false_iff_not] at *; omega
def nA {α β:Type} {f:α->β}:∀{l:List α},(l.map f).Nodup->∀{x y:α},x ∈ l->y ∈ l->f x=f y->x=y
 | [],_,_,_,hx,_,_=>by cases hx
 | a::l,h,x,y,hx,hy,e=>by
  rw[Tk] at h;obtain⟨h1,h2⟩:=TK.1 h;rcases Sp.1 hx with ex|hx
  rcases Sp.1 hy with ey|hy
  rw[ex,ey]
  exact Sl (Te.2 ⟨y,hy,by rw[<-e,ex]⟩) h1
  rcases Sp.1 hy with ey|hy
  exact Sl (Te.2 ⟨x,hx,by rw[e,ey]⟩) h1
  exact nA h2 hx hy e
def Oi (hl:∀x ∈ l,uh x) (hn:(l.map fun x=>(x.1,x.2.1)).Nodup) (x y:Pl l) (h1:Go.Proofs.ltOf (zy l) x y=false) (h2:Go.Proofs.ltOf (zy l) y x=false):x=y:=by
 rw[PE hl] at h1 h2;simp only[decide_eq_false_iff_not] at h1 h2;exact Subtype.ext (nA hn x.2 y.2 (SO (by simp only; omega) (by simp only; omega)))
end
def Ex {α β:Type} (f:α->β) (le:β->β->Bool):∀(n:Nat) (l:List α),l.length=n->(l.mergeSort (fun x y=>le (f x) (f y))).map f=(l.map f).mergeSort le:=fun _ _ _=>List.map_mergeSort (fun _ _ _ _=>rfl)
def IY {l:List fI} (hl:∀x ∈ l,uh x):(fun x y:Pl l=>!(Go.Proofs.ltOf (zy l)) y x)=fun x y=>ei x.1 y.1:=by
 funext x y
 rw[PE hl]; unfold ei;rw[<-decide_not]
 congr 1
 apply propext; omega
def sC:∀args w,(callFunc 104 args).run Tryz.prog w = .ok (.enter 104 args) w:=fun args w=>pb.call 104 _ _ Tryz.func104 rfl args w
def xT {p q:Option Prim} {pr:Bool} {args:List Us} {m m':Vj} {v:Us} (h:kW args m=some (v,m')) {j:aU} {w:Uw} {args':List Us} (hm:MR (Vn p q) j m w) (hl:LR j args args') :
  gC (Vn p q).P pr 104 args'.toArray w (jv (Vn p q) j m w v m'):=by
 unfold kW at h
 split at h
 rename_i c xs ys
 split at h
 rename_i hc; cases h;obtain⟨v0,vs,rfl,h1,hvs⟩:=hl.cons_inv;obtain⟨v1,v2,rfl,h2,h3⟩:=hvs.cons_inv;obtain rfl:=h3.dv;have e2:=zM h2 hc.1 hc.2;subst e2;cases h1;have hcon:=Go.Proofs.AnyF.slices_SortFunc_none Tryz.AR none c (.func (.func 105) #[] #[]) w
 change Calls Tryz.prog 104 _ _ _ at hcon
 refine .inl ⟨sC _ _,callsIn_wide.2 ?_⟩;refine Calls.mono hcon ?_;rintro e w' ⟨rfl,rfl⟩;exact⟨_,rfl,j,.refl hm,VR.undef j⟩
 cases h
 rename_i b n n' xs ys
 split at h
 rename_i cs tg hcs;obtain⟨hg,htg,rfl,hcl,_⟩:=lW hcs
 split at h
 rename_i l h7
 split at h
 rename_i hc; cases h;obtain⟨⟨h8,h9⟩,hlim,hok⟩:=hc;obtain⟨h4,h10⟩:=rV hok;obtain⟨v0,vs,rfl,h1,hvs⟩:=hl.cons_inv;obtain⟨v1,v2,rfl,h2,h3⟩:=hvs.cons_inv;obtain rfl:=h3.dv;have e2:=zM h2 h8 h9;subst e2;obtain⟨k,c',hk,rfl⟩:=h1.at
 have ecs:=vD h7;have hp:cs.all aS=true:=by rw[ecs]; exact ou l
 have h5:∀x:fI,(fi x).length=4:=fun _=>rfl;have hlen:l.length=n:=by
  have:=cO h5 l;rw[<-ecs,hcl] at this; omega
 by_cases hnil:l = []
 
 subst hnil;have h11:n=0:=by rw[<-hlen]; rfl
 have h12:cs = []:=ecs;subst h11 h12;have:Inhabited (Pl [((0,0,0,0):fI)]):=⟨⟨(0,0,0,0),Sh.2 rfl⟩⟩;have h6:∀x ∈ [((0,0,0,0):fI)],uh x:=fun x hx=>by rw[Sh.1 hx]; exact⟨by decide,by decide,by decide,by decide⟩
 have h0:∀x:Pl [((0,0,0,0):fI)],(fi x.1).length=4:=fun _=>rfl;have hH:Go.Sort.HoldsK (fun x:Pl [((0,0,0,0):fI)]=>fi x.1) 4 w k.c 0 ([]:List (Pl [((0,0,0,0):fI)])).toArray:=by
  unfold Go.Sort.HoldsK;rw[gX h0 (by decide)]
  exact u1 hm hk hg htg rfl
 have hcon:=Go.Proofs.AnyQ.slices_SortFunc_total Tryz.AR 4 (fun w=>Ci w) (fun w=>xH w) (fun x:Pl [((0,0,0,0):fI)]=>fi x.1) h0 (fun x v hv=>by simp[fi,eP,eI] at hv; rcases hv with rfl|rfl|rfl|rfl<;>rfl) (zy _) (PF h6) 105 #[] k.c 0 c' ([]:List (Pl [((0,0,0,0):fI)])).toArray w za
  (fun m os dk _ x y=>sh x.1 y.1) hH (hm.lt b k hk).2 (by simp) (Oi h6 (by decide))
 change Calls Tryz.prog 104 _ _ _ at hcon
 simp only[TQ,List.length_nil] at hcon;refine .inl ⟨sC _ _,callsIn_wide.2 ?_⟩;refine Calls.mono hcon ?_;rintro e w' ⟨rfl,q,os,rfl⟩;refine⟨_,rfl,j,?_,VR.undef j⟩;unfold Go.Proofs.sortWorldK Go.Sort.putRowK;rw[gX h0 (by decide)]
 rw[List.mergeSort_nil,List.mergeSort_nil];exact B1 hm hk hg rfl rfl q os
 have:Inhabited (Pl l):=⟨⟨l.head hnil,List.head_mem hnil⟩⟩;have h0:∀x:Pl l,(fi x.1).length=4:=fun _=>rfl;have eat:(l.attach.map fun x:Pl l=>fi x.1)=l.map fi:=by
  rw[show(fun x:Pl l=>fi x.1)=fi ∘ Subtype.val from rfl,<-List.map_map,List.attach_map_subtype_val]
 have hH:Go.Sort.HoldsK (fun x:Pl l=>fi x.1) 4 w k.c 0 l.attach.toArray:=by
  unfold Go.Sort.HoldsK;rw[gX h0 (by decide),eat,<-ecs]
  exact u1 hm hk hg htg hp
 have hcon:=Go.Proofs.AnyQ.slices_SortFunc_total Tryz.AR 4 (fun w=>Ci w) (fun w=>xH w) (fun x:Pl l=>fi x.1) h0 (fun x v hv=>by simp[fi,eP,eI] at hv; rcases hv with rfl|rfl|rfl|rfl<;>rfl) (zy l) (PF h4) 105 #[] k.c 0 c' l.attach.toArray w za
  (fun m os dk _ x y=>sh x.1 y.1) hH (hm.lt b k hk).2 (by have:=ov hlim; simp; omega) (Oi h4 h10)
 change Calls Tryz.prog 104 _ _ _ at hcon
 rw[IY h4] at hcon;simp only[TQ,List.length_attach,hlen] at hcon;refine .inl ⟨sC _ _,callsIn_wide.2 ?_⟩;refine Calls.mono hcon ?_;rintro e w' ⟨rfl,q,os,rfl⟩;refine⟨_,rfl,j,?_,VR.undef j⟩;unfold Go.Proofs.sortWorldK Go.Sort.putRowK;rw[gX h0 (by decide)]
 have e0:((l.attach.mergeSort fun x y:Pl l=>ei x.1 y.1).map fun x:Pl l=>fi x.1)=(l.mergeSort ei).map fi:=by
  rw[show(fun x:Pl l=>fi x.1)=fi ∘ Subtype.val from rfl,<-List.map_map,Ex Subtype.val ei _ _ rfl,List.attach_map_subtype_val]
 rw[e0];exact B1 hm hk hg (by rw[cO h5,hcl,List.length_mergeSort,hlen]) (ou _) q os
 cases h
 cases h
 cases h
 cases h
abbrev C1:={ v:Us // v.oneCell'=true}
instance:Inhabited C1:=⟨⟨.slice none 0 0,rfl⟩⟩
def MQ {j:aU} {v v':Us} (h:VR j v v') (hv:ky v=true):v'.oneCell'=true:=by
 have h1:=sx h hv;cases v'<;>first|rfl|cases h1
def HN {j:aU} {cs cc:List Us} (h:LR j cs cc) (ho:cs.all ky=true):∃l:List C1,l.map Subtype.val=cc:=by
 have h1:∀v ∈ cc,v.oneCell'=true:=fun v hv=>by
  obtain⟨i,hi⟩:=List.mem_iff_getElem?.1 hv;have hl:i<cs.length:=by rw[h.1]; exact(Se.1 hi).1
  obtain⟨v',g1,g2⟩:=h.2 i cs[i] (RY hl);rw[hi] at g1; cases g1;exact MQ g2 (Sb.1 ho _ (Sn hl))
 exact⟨cc.attach.map fun x=>⟨x.1,h1 x.1 x.2⟩,by rw[List.map_map]; exact List.attach_map_subtype_val cc⟩
def G7 {j:aU} {a a' b b':List Us} (h:LR j a a') (g:LR j b b'):LR j (a++b) (a'++b'):=by
 refine⟨by rw[Sd,Sd,h.1,g.1],fun i v hi=>?_⟩
 by_cases hc:i<a.length
 rw[TZ,R0 hc] at hi;rw[TZ,R0 (by have:=h.1; omega)]
 exact h.2 i v hi
 rw[TZ,RZ hc] at hi;rw[TZ,RZ (by have:=h.1; omega),<-h.1]
 exact g.2 _ v hi
def IA {j:aU} {a a':List Us} (h:LR j a a') (n:Nat):LR j (a.take n) (a'.take n):=by
 refine⟨by rw[R8,R8,h.1],fun i v hi=>?_⟩
 rw[S6] at hi ⊢
 split at hi
 rename_i hc; rw[R0 hc]; exact h.2 i v hi
 cases hi
def Kn {j:aU} {a a':List Us} (h:LR j a a') (n:Nat):LR j (a.drop n) (a'.drop n):=by
 refine⟨by rw[SK,SK,h.1],fun i v hi=>?_⟩
 rw[S7] at hi ⊢;exact h.2 _ v hi
def MM {j:aU} {z z':Us} (h:VR j z z') (n:Nat):LR j (List.replicate n z) (List.replicate n z'):=by
 refine⟨by simp,fun i v hi=>?_⟩
 rw[List.getElem?_replicate] at hi
 split at hi
 rename_i hc; cases hi;exact⟨z',by rw[List.getElem?_replicate,R0 hc],h⟩
 cases hi
def VR.Ot {E:Env} {j:aU} {m:Vj} {w:Uw} (hm:MR E j m w) {b n:Nat} {cs:List Us} {tg:Tag} (hg:m.get b=some (.cells cs tg)) (htg:tg≠.ro) (hlim:lim n=true) {v':Us} (h:VR j (.slice (some ⟨b,0,none⟩) n n) v') :
  ∃k c',j b=some k/\v' = .slice (some ⟨k.c,0,none⟩) n c'/\(n<=c'/\c'<=9223372036854775807)/\∀x,x<=n->VR j (.slice (some ⟨b,0,none⟩) x n) (.slice (some ⟨k.c,0,none⟩) x c'):=by
 have hll:=ov hlim;cases h with
 | slice hj hmo=>exact⟨_,_,hj,rfl,⟨R5 _,by omega⟩,fun x _=>.slice hj hmo⟩
 | sliceM hj hmo a1 a2 a3 a4 =>
  rename_i c' sz na nc k;obtain⟨c0,e0,fz,g1,g2,g3⟩:=hm.gi hj hg;cases tg with
  | ro=>exact Sl rfl htg
  | own=>have:k.more=none:=g2.1; rw[hmo] at this; cases this
  | more sz' =>
   obtain⟨d1,d2,rfl,d4,d5⟩:k.more=some (sz',cs.length,c0.size)/\cs.length<=c0.size/\fz=(0,0)/\0<sz'/\iw sz' c0:=g2;rw[hmo] at d1;simp only[Option.some.injEq,Prod.mk.injEq] at d1;obtain⟨rfl,rfl,rfl⟩:=d1;refine⟨k,c',hj,rfl,⟨a4,?_⟩,fun x hx=>.sliceM hj hmo a1 a2 hx a4⟩;unfold iw at d5;rw[<-a2,Tj,Nat.mul_comm] at d5;exact Nat.le_of_mul_le_mul_left d5 d4
def tI {p q:Option Prim} {pr:Bool} {f:FuncId} {z:Us} {ρ:Go.Shelf.Ren} (L:Go.Proofs.SlLaysE.n45 Tryz.prog ρ) (hf:ρ.f 45=f) (F:Func) (c:Code) (hF:Tryz.prog.funcs[f]? = some F) (hb:F.body=some c) (h0:z.oneCell'=true) (hzr:∀j,VR j z z)
  (v0:∀w,(Go.zeroValue (ρ.t 23)).run Tryz.prog w = .ok z w) (i0:TypeInfo) (h1:Tryz.prog.info? (ρ.t 23)=some i0) (h2:i0.size=1)
  {args:List Us} {m m':Vj} {v:Us} (h:jW z args m=some (v,m')) {j:aU} {w:Uw} {args':List Us} (hm:MR (Vn p q) j m w) (hl:LR j args args') :
  gC (Vn p q).P pr f args'.toArray w (jv (Vn p q) j m w v m'):=by
 unfold jW at h
 split at h
 rename_i b n n' i k
 split at h
 rename_i cs tg hcs;obtain⟨hg,htg,rfl,hcl,_⟩:=lW hcs
 split at h
 rename_i hc; cases h;obtain⟨hi0',hik,hkn,hlim,hone⟩:=hc;obtain⟨v1,vs,rfl,h3,hvs⟩:=hl.cons_inv;obtain⟨v2,v3,rfl,h4,h5⟩:=hvs.cons_inv;obtain⟨v4,v5,rfl,h6,h7⟩:=h5.cons_inv;obtain rfl:=h7.dv;obtain⟨kb,c',hk,rfl,hcap,hres⟩:=VR.Ot hm hg htg hlim h3;cases h4;cases h6;obtain⟨i,rfl⟩:=TO hi0';obtain⟨k,rfl⟩:=TO (show 0<=k by omega)
 simp only[Int.ofNat_le,Ss] at *;obtain⟨cc,hcc,hH⟩:=Ao hm hk hg htg;obtain⟨d,rfl⟩:=HN hcc hone;have hdl:d.length=n:=by have:=hcc.1; rw[Sj] at this; omega
 have eH:∀(w:Uw) (l:List C1),Go.Sort.Holds id w kb.c 0 (l.map Subtype.val).toArray->Go.Sort.Holds (Subtype.val:C1->Us) w kb.c 0 l.toArray:=by
  intro w l h i hi;have hi':i<l.length:=by simpa using hi
  have:=h i (by simpa using hi')
  simpa [hi'] using this
 have hcon:=Go.Proofs.AnyE.slices_Delete L (Subtype.val:C1->Us) (fun x=>x.2) ⟨z,h0⟩ v0 i0 h1 h2 kb.c 0 c' i k d.toArray w (eH _ _ hH) (by simp[hdl]; exact hcap.1) hcap.2 hik (by simp[hdl]; exact hkn)
 rw[hf] at hcon;simp only[TQ,hdl] at hcon;have hent:∀args w,(callFunc f args).run Tryz.prog w = .ok (.enter f args) w:=fun args w=>pb.call f F c hF hb args w;refine .inl ⟨hent _ _,callsIn_wide.2 ?_⟩;refine Calls.mono hcon ?_;rintro e w' ⟨rfl,q,rfl⟩;refine⟨_,rfl,j,?_,hres _ (Nat.sub_le _ _)⟩;have e0:Go.Sort.putRow (Subtype.val:C1->Us) (Sort.ahead w q) kb.c 0 (d.take i++d.drop k++List.replicate (k-i) (⟨z,h0⟩:C1)).toArray=Go.Sort.putRow id (Sort.ahead w q) kb.c 0 ((d.map Subtype.val).take i++(d.map Subtype.val).drop k++List.replicate (k-i) z).toArray:=by
  have e2:∀l:List C1,Go.Sort.putRow (Subtype.val:C1->Us) (Sort.ahead w q) kb.c 0 l.toArray=Go.Sort.putRow id (Sort.ahead w q) kb.c 0 (l.map Subtype.val).toArray:=fun l=>by
   unfold Go.Sort.putRow Go.Sort.putCells
   congr 1
   funext c
   congr 1
   funext x v
   simp only[TQ,Sj,id]
   by_cases hx:0<=x/\x<0+l.length
   simp[show x<l.length by omega]
   rw[RZ hx,RZ hx]
  rw[e2];simp[List.map_take,List.map_drop]
 rw[e0,<-Sort.grow_empty (Go.Sort.putRow id _ _ _ _)];exact Ha hm hk hg (by simp; omega) (G7 (G7 (IA hcc _) (Kn hcc _)) (MM (hzr j) _)) q #[]
 cases h
 cases h
 cases h
end Go.Proofs.YtmndpgfbkicndaaGreat
namespace Go.Proofs
open Go.Shelf
def Tryz.gk:Go.Shelf.Ren:=⟨fun|21=>102|27=>124|28=>125|35=>140|39=>99|n=>n,fun|22=>28|3=>3|4=>4|0=>0|n=>n,fun|n=>n⟩
def Tryz.Et:Go.Proofs.Lays2.n21 Tryz.prog Tryz.gk:={
 mixed:=by kernel_rfl
 f21:=Tryz.func102.trans (SD some (by kernel_rfl))
 f27:=Tryz.func124.trans (SD some (by kernel_rfl))
 f28:=Tryz.func125.trans (SD some (by kernel_rfl))
 f35:=Tryz.func140.trans (SD some (by kernel_rfl))
 f39:=Tryz.func99.trans (SD some (by kernel_rfl))
 t0:=Tryz.underlying0
 a0:=Tryz.isAgg0
 z0:=Tryz.sizeOf0
 v0:=Tryz.zeroValue0
 t3:=Tryz.underlying3
 a3:=Tryz.isAgg3
 z3:=Tryz.sizeOf3
 v3:=Tryz.zeroValue3
 t4:=Tryz.underlying4
 a4:=Tryz.isAgg4
 z4:=Tryz.sizeOf4
 v4:=Tryz.zeroValue4
 t22:=Tryz.underlying28
 a22:=Tryz.isAgg28
 z22:=Tryz.sizeOf28
 v22:=Tryz.zeroValue28
 i3:=by kernel_rfl}
end Go.Proofs
namespace Go.Proofs.YtmndpgfbkicndaaGreat
section
open Go Go.Ab Go.Ab.W
set_option maxRecDepth 10000
def zv {w:Uw} {b o:Nat} {c:Array Us} {e:Ut} {fz:Nat × Nat} {v:Us} (h:w.heap[b]? = some (.cells c e fz)):w.setCell ⟨b,o,none⟩ v=w.putObj b (.cells (c.setIfInBounds o v) e fz):=by
 unfold World.setCell World.putObj
 congr 1
 apply Ue;intro i;rw[Array.getElem?_modify,TL]
 by_cases hb:b=i
 subst hb;rw[R0 rfl,R0 rfl,h];have:=(R9.1 h).1;rw[R0 this]; rfl
 rw[RZ hb,RZ hb]
def dO (c:List Us) (o:Nat) (v:Us) (vs:List Us) (ho:o+vs.length+1<=c.length):aG (c.set o v) (o+1) vs=aG c o (v::vs):=by
 apply SY;intro i;rw[aQ,aQ,T4,SA,List.getElem?_set]
 by_cases h1:i=o
 subst h1;rw[Uz,R0 rfl,UA,UA,Ui]; rfl
 by_cases h2:o+1<=i/\i<o+1+vs.length/\i<c.length
 rw[R0 h2,UA,show i-o=(i-(o+1))+1 by omega]; rfl
 rw[RZ h2,Uz,Uz]
def fb:∀(vs:List Us) (o:Nat) {w:Uw} {b:Nat} {c:Array Us} {e:Ut} {fz:Nat × Nat},w.heap[b]? = some (.cells c e fz)->o+vs.length<=c.size->w.setCells b o vs=w.putObj b (.cells (aG c.toList o vs).toArray e fz)
 | [],o,w,b,c,e,fz,h,_=>by
  have:aG c.toList o []=c.toList:=by
   apply SY;intro i;rw[aQ,RZ (by simp; omega)]
  rw[this];exact(mB h).symm
 | v::vs,o,w,b,c,e,fz,h,hl=>by
  have hb:=(R9.1 h).1;rw[SA] at hl
  show(w.setCell ⟨b,o,none⟩ v).setCells b (o+1) vs=_
  rw[zv h,fb vs (o+1) (World.putObj_heap_same hb) (by simp; omega),jS]
  congr 3
  rw[Array.toList_setIfInBounds,dO];simp; omega
def A6 {c:List Us} {cs:List Us} {i:Nat} {v:Us} (hc:∀(x:Nat) (u:Us),cs[x]? = some u->c[x]? = some u) (hi:i<=cs.length) (hl:cs.length+1<=c.length) :
  ∀(x:Nat) (u:Us),(cs.take i++v::cs.drop i)[x]? = some u->(aG (aG c (i+1) (cs.drop i)) i [v])[x]? = some u:=by
 intro x u hx;rw[aQ,aQ,ba];have hlt:(cs.take i).length=i:=by rw[R8]; omega
 by_cases h1:x<i
 rw[SL (by omega),S6,R0 h1] at hx
 rw[Uz,Uz]
 exact hc x u hx
 rw[SH (by omega),hlt] at hx
 by_cases h2:x=i
 subst h2;rw[Ui] at hx;rw[R0 (by simp; omega),Ui]; exact hx
 obtain⟨y,rfl⟩:∃y,x=i+1+y:=⟨x-(i+1),by omega⟩
 rw[show i+1+y-i=y+1 by omega,SE] at hx
 have hy:=(Se.1 hx).1;rw[SK] at hy;rw[RZ (by simp; omega),R0 (by simp; omega),show i+1+y-(i+1)=y by omega]
 exact hx
def yz {w:Uw} {need old:Nat} {e:Ut} (h:need<=1073741825):need<=grownCap w need old e/\grownCap w need old e<=9223372036854775807:=by
 unfold grownCap
 show need<=need+_%(2 ^ 63-need)/\need+_%(2 ^ 63-need)<=_
 have:=SU (w.tape w.drawn (.appendCap need old e)) (show 0<2 ^ 63-need by omega)
 omega
def JT {ty:Ut} {w:Uw} {A:Array Us} {i m:Nat} {vs ds:List Us} (h1:i+vs.length<=A.size) (h2:i+m+ds.length<=A.size) :
  ((((w.alloc (.cells A ty)).drew.setCells w.heap.size i vs).drew).setCells w.heap.size (i+m) ds)=w.drew.drew.alloc (.cells (aG (aG A.toList i vs) (i+m) ds).toArray ty):=by
 have hp:(w.alloc (.cells A ty)).heap[w.heap.size]? = some (.cells A ty (0,0)):=by unfold World.alloc; simp
 have hb:w.heap.size<(w.alloc (.cells A ty)).heap.size:=(R9.1 hp).1;rw[fb (w:=(w.alloc (.cells A ty)).drew) vs i hp h1];have hp2:((w.alloc (.cells A ty)).drew.putObj w.heap.size (.cells (aG A.toList i vs).toArray ty (0,0))).drew.heap[w.heap.size]? = some (.cells (aG A.toList i vs).toArray ty (0,0)):=World.putObj_heap_same hb;rw[fb ds (i+m) hp2 (by simp[ba]; omega)]
 unfold World.alloc World.putObj World.drew;simp;apply Ue;intro x;rw[TL,TH,TH]
 by_cases hx:w.heap.size=x
 subst hx; simp
 rw[RZ hx]; simp[show ¬x=w.heap.size from fun h=>hx h.symm]
def VR.Bo {E:Env} {j:aU} {m:Vj} {w:Uw} (hm:MR E j m w) {b n:Nat} {cs:List Us} {tg:Tag} (hg:m.get b=some (.cells cs tg)) (htg:tg = .own\/tg = .more 1) (hcl:cs.length=n) (hlim:lim n=true) (hp:cs.all aS=true) {v':Us} (h:VR j (.slice (some ⟨b,0,none⟩) n n) v') :
  ∃k c' c e,j b=some k/\v' = .slice (some ⟨k.c,0,none⟩) n c'/\w.heap[k.c]? = some (.cells c e (0,0))/\c.size=c'/\n<=c'/\c'<=9223372036854775807/\∀(x:Nat) (u:Us),cs[x]? = some u->c.toList[x]? = some u:=by
 have hll:=ov hlim;have key:∀{c:Array Us},(∀(i:Nat) (v:Us),cs[i]? = some v->∃v',c[i]? = some v'/\VR j v v')->∀(x:Nat) (u:Us),cs[x]? = some u->c.toList[x]? = some u:=fun g x u hx=>by
  obtain⟨u',g1,g2⟩:=g x u hx;have:=fR (Sb.1 hp u (Sa hx)) g2;subst this
  simpa using g1
 cases h with
 | slice hj hmo =>
  rename_i k;obtain⟨c,e,fz,g1,g2,g3⟩:=hm.gi hj hg;rcases htg with rfl|rfl
  obtain⟨_,d2,rfl⟩:k.more=none/\c.size=cs.length/\fz=(0,0):=g2;exact⟨k,n,c,e,hj,rfl,g1,by omega,R5 _,by omega,key g3⟩
  have:k.more=some (1,cs.length,c.size):=g2.1;rw[hmo] at this; cases this
 | sliceM hj hmo a1 a2 a3 a4 =>
  rename_i c' sz na nc k;obtain⟨c,e,fz,g1,g2,g3⟩:=hm.gi hj hg;rcases htg with rfl|rfl
  have:k.more=none:=g2.1;rw[hmo] at this; cases this
  obtain⟨d1,d2,rfl,d4,d5⟩:k.more=some (1,cs.length,c.size)/\cs.length<=c.size/\fz=(0,0)/\0<1/\iw 1 c:=g2;rw[hmo] at d1;simp only[Option.some.injEq,Prod.mk.injEq] at d1;obtain⟨rfl,rfl,rfl⟩:=d1;unfold iw at d5;exact⟨k,c',c,e,hj,rfl,g1,by omega,a4,by omega,key g3⟩
def ra (n:Nat):(Builtin.zeroCells (Value.int .i64 0).cells n)=(bq [.int .i64 0] n).toArray:=by
 rw[show(bq [Value.int .i64 0] n)=bq (Value.int .i64 0).cells.toList n from rfl,<-j8 (zero:=(Value.int .i64 0).cells)]; rfl
def AY {p q:Option Prim} {pr:Bool} {args:List Us} {m m':Vj} {v:Us} (h:kI args m=some (v,m')) {j:aU} {w:Uw} {args':List Us} (hm:MR (Vn p q) j m w) (hl:LR j args args') :
  gC (Vn p q).P pr 102 args'.toArray w (jv (Vn p q) j m w v m'):=by
 have hent:∀args w,(callFunc 102 args).run Tryz.prog w = .ok (.enter 102 args) w:=fun args w=>pb.call 102 _ _ Tryz.func102 rfl args w;unfold kI at h
 split at h
 rename_i vb
 split at h
 rename_i v0 h0;cases h;obtain⟨v1,vs,rfl,h1,hvs⟩:=hl.cons_inv;obtain⟨v2,v3,rfl,h2,h3⟩:=hvs.cons_inv;obtain⟨v4,v5,rfl,h4,h5⟩:=h3.cons_inv;obtain rfl:=h5.dv;cases h1; cases h2;obtain⟨kv,c0,cv,ev,hkv,rfl,gv,hv3',h8,h9,h6⟩:=VR.Bo hm h0 (.inl rfl) rfl rfl rfl h4;have hcv:∀(x:Nat) (u:Us),[Value.int .i64 v0][x]? = some u->w.cell? ⟨kv.c,0+x,none⟩=some u:=fun x u hx=>by
  have:=h6 x u hx;simp only[World.cell?,gv,Sw]
  simpa using this
 have hcon:=Go.Proofs.Any2.slices_Insert_int_end_grow Tryz.Et none 0 0 kv.c 0 1 c0 [] [.int .i64 v0] w (by decide) (by decide) (by decide) (by decide) rfl rfl (fun _=>rfl) (fun a h=>by cases h) hcv (fun v hv=>by rw[Sh.1 hv]; rfl)
 change Calls Tryz.prog 102 _ _ _ at hcon
 refine .inl ⟨hent _ _,callsIn_wide.2 ?_⟩;refine Calls.mono hcon ?_;rintro e w' ⟨rfl,rfl⟩;obtain⟨g0,g1⟩:=yz (w:=w) (need:=0+1) (old:=0) (e:=Tryz.gk.t 3) (by decide)
 generalize grownCap w (0+1) 0 (Tryz.gk.t 3)=cap at g0 g1 ⊢;obtain⟨j',s1,s2⟩:=fV hm (w0:=w.drew) ⟨rfl,rfl,rfl,rfl,Nat.le_succ _⟩ (cs:=[.int .i64 v0]) (cs':=[.int .i64 v0]) (rest:=bq [.int .i64 0] (cap-(0+1))) (elem:=Tryz.gk.t 3) (sz:=1) (n:=1) (cap:=cap) (.cons (.int _ _) (.nil _)) rfl (by simp[bS]; omega) g0 (by decide) (ep (by decide) _) g1
 refine⟨_,rfl,j',?_,s2⟩;rw[ra];have:(([]:List Us)++[Value.int .i64 v0]).toArray++(bq [Value.int .i64 0] (cap-(0+1))).toArray=([Value.int .i64 v0]++bq [Value.int .i64 0] (cap-(0+1))).toArray:=by simp
 rw[this];exact s1
 cases h
 rename_i b n n' i vb
 split at h
 rename_i v0 cs tg h0 hcs;obtain⟨hg,htg,rfl,hcl,h10⟩:=lW hcs;rw[Nat.mul_one] at hcl
 split at h
 rename_i hc;cases h;obtain⟨hne,h11,hin,hlim,hpl⟩:=hc;obtain⟨v1,vs,rfl,h1,hvs⟩:=hl.cons_inv;obtain⟨v2,v3,rfl,h2,h3⟩:=hvs.cons_inv;obtain⟨v4,v5,rfl,h4,h5⟩:=h3.cons_inv;obtain rfl:=h5.dv;cases h2;obtain⟨i,rfl⟩:=TO h11;simp only[Int.ofNat_le,Ss] at *;obtain⟨kv,c0,cv,ev,hkv,rfl,gv,hv3',h8,h9,h6⟩:=VR.Bo hm h0 (.inl rfl) rfl rfl rfl h4;obtain⟨kb,c',c,e,hk,rfl,gb,hsz,hnc,h7,hcc⟩:=VR.Bo hm hg h10 hcl hlim hpl h1;have hll:=ov hlim;have hcell:∀{k:Blk} {c:Array Us} {e:Ut},w.heap[k.c]? = some (.cells c e (0,0))->∀x,w.cell? ⟨k.c,x,none⟩=c[x]?:=fun h x=>by simp[World.cell?,h]
 have hfrz:∀{k:Blk} {c:Array Us} {e:Ut},w.heap[k.c]? = some (.cells c e (0,0))->∀x,w.frozen? ⟨k.c,x,none⟩=false:=fun h x=>by simp[World.frozen?,h]
 have hvb:kv.c≠kb.c:=fun hcc=>hne (hm.inj vb b kv kb hkv hk (by rw[h0]; rfl) (by rw[hg]; rfl) hcc)
 have hcv:∀(x:Nat) (u:Us),[Value.int .i64 v0][x]? = some u->w.cell? ⟨kv.c,0+x,none⟩=some u:=fun x u hx=>by
  have:=h6 x u hx;rw[hcell gv,Sw]
  simpa using this
 have hcb:∀(x:Nat) (u:Us),cs[x]? = some u->w.cell? ⟨kb.c,0+x,none⟩=some u:=fun x u hx=>by
  have:=hcc x u hx;rw[hcell gb,Sw]
  simpa using this
 have h1v:∀u ∈ [Value.int .i64 v0],u.oneCell'=true:=fun u hu=>by rw[Sh.1 hu]; rfl
 have h1c:∀u ∈ cs,u.oneCell'=true:=fun u hu=>by
  have:=Sb.1 hpl u hu;cases u<;>first|rfl|cases this
 have hsp:∀x,x<c'->(w.cell? ⟨kb.c,0+x,none⟩).isSome=true:=fun x hx=>by
  rw[hcell gb,Sw,TF (by omega)]; rfl
 have hbv:(w.heap[kb.c]?).isSome=true:=by rw[gb]; rfl
 have hnew:(cs.take i++Value.int .i64 v0::cs.drop i).length=n+1:=by simp; omega
 have hpn:(cs.take i++Value.int .i64 v0::cs.drop i).all aS=true:=Sb.2 fun u hu=>by
  rcases Sm.1 hu with hu|hu
  exact Sb.1 hpl u (Tx hu)
  rcases Sp.1 hu with rfl|hu
  rfl
  exact Sb.1 hpl u (Ty hu)
 by_cases hroom:n+1<=c'
 
 have hor:OR j ⟨kb.c,some (1,n+1,c')⟩ (.cells (cs.take i++Value.int .i64 v0::cs.drop i) (.more 1)) (.cells (aG (aG c.toList (i+1) (cs.drop i)) i [.int .i64 v0]).toArray e (0,0)):=by
  refine⟨⟨by rw[hnew]; simp[ba,hsz],by rw[hnew]; simp[ba]; omega,rfl,by decide,by unfold iw; simp[ba]; omega⟩,fun x u hx=>?_⟩
  have:=A6 (v:=.int .i64 v0) hcc (by omega:i<=cs.length) (by simp; omega) x u hx
  exact⟨u,by simpa using this,.aS (Sb.1 hpn u (Sa hx))⟩
 have fin:∀w0:Uw,w0.heap=w.heap->Go.Ab.Calm w w0->jv (Vn p q) j m w (.slice (some ⟨m.next,0,none⟩) (n+1) (n+1)) ((m.kill b).alloc (.cells (cs.take i++Value.int .i64 v0::cs.drop i) (.more 1)))
   (.slice (some ⟨kb.c,0,none⟩) (n+1) c') (w0.putObj kb.c (.cells (aG (aG c.toList (i+1) (cs.drop i)) i [.int .i64 v0]).toArray e (0,0))):=fun w0 e0 c1=>by
  have s0:Sim (Vn p q) j m w j m w0:=Sim.of_heap hm e0 c1;have s1:=rH s0.mr hk (by rw[hg]; rfl) hor
  exact⟨_,s0.trans hm s1,.sliceM (k:=⟨kb.c,some (1,n+1,c')⟩) (aU.cz _ _ _) rfl (by omega) (by omega) (R5 _) hroom⟩
 by_cases hlt:i<n
 have hcon:=Go.Proofs.Any2.slices_Insert_int_shift Tryz.Et kb.c 0 n c' i kv.c 0 1 c0 cs [.int .i64 v0] w hlt (by decide) hroom h7 hvb hcl rfl hcb (fun x hx=>hsp x (by omega)) (fun x _=>hfrz gb _) hcv h1c h1v ev e cv.size c.size
  (by simp[World.shape?,gv]) (by simp[World.shape?,gb]) (by omega) (hfrz gv _) (hfrz gv _)
 change Calls Tryz.prog 102 _ _ _ at hcon
 refine .inl ⟨hent _ _,callsIn_wide.2 ?_⟩;refine Calls.mono hcon ?_;rintro e' w' ⟨rfl,rfl⟩;refine⟨_,rfl,?_⟩;rw[Sw,Sw,fb (w:=w.drew) (cs.drop i) (i+1) gb (by simp; omega),fb [.int .i64 v0] i (World.putObj_heap_same (w:=w.drew) (R9.1 gb).1) (by simp[ba]; omega),jS]
 exact fin w.drew rfl ⟨rfl,rfl,rfl,Nat.le_succ _⟩
 obtain rfl:i=n:=by omega
 have hcon:=Go.Proofs.Any2.slices_Insert_int_end_room Tryz.Et kb.c 0 i c' kv.c 0 1 c0 [.int .i64 v0] w (by decide) hroom h7 rfl (fun x hx=>by rw[Nat.add_assoc]; exact hsp (i+x) (by omega)) (fun x _=>hfrz gb _) hcv h1v
 change Calls Tryz.prog 102 _ _ _ at hcon
 refine .inl ⟨hent _ _,callsIn_wide.2 ?_⟩;refine Calls.mono hcon ?_;rintro e' w' ⟨rfl,rfl⟩;refine⟨_,rfl,?_⟩;have hd:aG c.toList (i+1) (cs.drop i)=c.toList:=by
  rw[List.drop_of_length_le (by omega)]
  apply SY;intro x;rw[aQ,RZ (by simp; omega)]
 rw[Sw,fb [.int .i64 v0] i gb (by simp; omega)]
 have:=fin w rfl ⟨rfl,rfl,rfl,R5 _⟩;rw[hd] at this;exact this
 
 have hc':c'=n:=by omega
 subst hc';have sk:=yD hm hk;have fin:∀(w0:Uw) (cap:Nat) (rest:List Us),w0.heap=w.heap->Go.Ab.Calm w w0->c'+1<=cap->cap<=9223372036854775807->rest.all aS=true->c'+1+rest.length=cap->jv (Vn p q) j m w (.slice (some ⟨m.next,0,none⟩) (c'+1) (c'+1)) ((m.kill b).alloc (.cells (cs.take i++Value.int .i64 v0::cs.drop i) (.more 1)))
   (.slice (some ⟨w.heap.size,0,none⟩) (c'+1) cap) (w0.alloc (.cells ((cs.take i++Value.int .i64 v0::cs.drop i)++rest).toArray (Tryz.gk.t 3))):=fun w0 cap rest e0 c1 g0 g1 g2 g3=>by
  obtain⟨j',s1,s2⟩:=fV sk.mr (w0:=w0) ⟨e0,c1⟩ (cs:=cs.take i++Value.int .i64 v0::cs.drop i) (cs':=cs.take i++Value.int .i64 v0::cs.drop i) (rest:=rest) (elem:=Tryz.gk.t 3) (sz:=1) (n:=c'+1) (cap:=cap) (LR.plain hpn) (by rw[hnew,Nat.mul_one]) (by rw[Sd,hnew]; omega) g0 (by decide) g2 g1
  have e3:(m.kill b).next=m.next:=Vj.next_kill _ _
  rw[e3] at s2;exact⟨j',sk.trans hm s1,s2⟩
 obtain⟨g0,g1⟩:=yz (w:=w) (need:=c'+1) (old:=c') (e:=Tryz.gk.t 3) (by omega)
 by_cases hlt:i<c'
 have hcon:=Go.Proofs.Any2.slices_Insert_int_grow Tryz.Et kb.c 0 c' c' i kv.c 0 1 c0 cs [.int .i64 v0] w hlt (by decide) (R5 _) (by omega) (by omega) hcl rfl hcb hcv h1c h1v
 change Calls Tryz.prog 102 _ _ _ at hcon
 refine .inl ⟨hent _ _,callsIn_wide.2 ?_⟩;refine Calls.mono hcon ?_;rintro e' w' ⟨rfl,rfl⟩;generalize grownCap w (c'+1) c' (Tryz.gk.t 3)=cap at g0 g1 ⊢;refine⟨_,rfl,?_⟩;rw[ra,ra];obtain⟨A,hA⟩:∃A:Array Us,A=(cs.take i).toArray++(bq [Value.int .i64 0] (c'+1-i)).toArray++(bq [Value.int .i64 0] (cap-(c'+1))).toArray:=⟨_,rfl⟩;have hAl:A.toList=cs.take i++(bq [Value.int .i64 0] (c'+1-i)++bq [Value.int .i64 0] (cap-(c'+1))):=by rw[hA]; simp
 have hAs:A.size=cap:=by rw[<-TG,hAl]; simp[bS]; omega
 rw[<-hA,JT (A:=A) (i:=i) (m:=1) (vs:=[.int .i64 v0]) (ds:=cs.drop i) (by simp; omega) (by simp; omega)]
 have:=fin w.drew.drew cap (bq [.int .i64 0] (cap-(c'+1))) rfl ⟨rfl,rfl,rfl,by show w.drawn<=w.drawn+1+1; omega⟩ g0 g1 (ep (by decide) _) (by simp[bS]; omega)
 have e1:aG (aG A.toList i [Value.int .i64 v0]) (i+1) (cs.drop i)=(cs.take i++Value.int .i64 v0::cs.drop i)++bq [Value.int .i64 0] (cap-(c'+1)):=by
  apply SY;intro x;have hti:(cs.take i).length=i:=by rw[R8]; omega
  rw[aQ,aQ,ba];have hAL:A.toList.length=cap:=by rw[TG,hAs]
  by_cases h13:x<i
  rw[Uz,Uz,hAl,SL (by omega),SR,SL (by omega)]
  by_cases h12:x=i
  subst h12;rw[Uz,R0 (by simp; omega),SR,SH (by omega),hti,Ui]; rfl
  by_cases h14:x<c'+1
  rw[R0 (by simp; omega),SR,SH (by omega),hti,show x-i=(x-(i+1))+1 by omega,Uc,SE,SL (by simp; omega)]
  rw[RZ (by simp; omega),RZ (by simp; omega),hAl,SH (by omega),hti,SH (by rw[bS]; simp; omega),SH (by omega),bS,hnew]
  congr 1
  simp; omega
 rw[e1]; exact this
 obtain rfl:i=c':=by omega
 have hcon:=Go.Proofs.Any2.slices_Insert_int_end_grow Tryz.Et (some ⟨kb.c,0,none⟩) i i kv.c 0 1 c0 cs [.int .i64 v0] w (by decide) (R5 _) (by omega) (by omega) hcl rfl (fun h=>by cases h) (fun a ha x u hx=>by cases ha; rw[Addr.add_lit]; exact hcb x u hx) hcv h1v
 change Calls Tryz.prog 102 _ _ _ at hcon
 refine .inl ⟨hent _ _,callsIn_wide.2 ?_⟩;refine Calls.mono hcon ?_;rintro e' w' ⟨rfl,rfl⟩;generalize grownCap w (i+1) i (Tryz.gk.t 3)=cap at g0 g1 ⊢;refine⟨_,rfl,?_⟩;rw[ra];have:=fin w.drew cap (bq [.int .i64 0] (cap-(i+1))) rfl ⟨rfl,rfl,rfl,Nat.le_succ _⟩ g0 g1 (ep (by decide) _) (by simp[bS]; omega)
 have e1:(cs++[Value.int .i64 v0]).toArray++(bq [Value.int .i64 0] (cap-(i+1))).toArray=((cs.take i++Value.int .i64 v0::cs.drop i)++bq [Value.int .i64 0] (cap-(i+1))).toArray:=by
  rw[Tt (by omega),List.drop_of_length_le (by omega)]; simp
 rw[e1]; exact this
 cases h
 cases h
 cases h
end
section
open Go Go.Ab Go.Ab.W
def CH {t:Ut} (h:(Tryz.prog.info? t).map (·.size)=some 1):∃i,Tryz.prog.info? t=some i/\i.size=1:=by
 cases e:Tryz.prog.info? t with
 | none=>rw[e] at h; cases h
 | some i=>rw[e] at h; exact⟨i,rfl,R2 h⟩
def rK:EnvOk (Vn none none):=zk yN fun f P hp args m v m' h j w args' hm hl=>by
 have hp0:(Vn none none).cV f=IK f:=by
  show(if f=65 then none else if f=38 then none else IK f)=_
  split
  rename_i e; subst e; rfl
  split
  rename_i e; subst e; rfl
  rfl
 rw[hp0] at hp;unfold IK at hp
 split at hp
 rename_i e; subst e; cases hp;exact xT h hm hl
 split at hp
 rename_i e; subst e; cases hp;obtain⟨i0,hi0,hs⟩:=CH (t:=28) (by kernel_rfl)
 exact tI Tryz.Qz rfl _ _ Tryz.func115 rfl rfl (fun j=>.snil 0 0) Tryz.zeroValue28 i0 hi0 hs h hm hl
 split at hp
 rename_i e; subst e; cases hp;obtain⟨i0,hi0,hs⟩:=CH (t:=3) (by kernel_rfl)
 exact tI Tryz.QS rfl _ _ Tryz.func101 rfl rfl (fun j=>.int _ _) Tryz.zeroValue3 i0 hi0 hs h hm hl
 split at hp
 rename_i e; subst e; cases hp;exact AY h hm hl
 cases hp
end
end Go.Proofs.YtmndpgfbkicndaaGreat
namespace Go.Ab.W
open Go Go.Ab
section
variable {E : Env} {n : Nat} {m0 m : Vj} {fs fs' : Fs} {ps ps' : List Pc} {ops : Array Oper} {os : List Oper} {K : Tm -> Vj -> Prop} {dr : Bool} {fn : FuncId} {ro : Option Nat} {c : Code} {Q : Vl -> Tm -> Vj -> Prop}
variable {ty oty : Ut} {p : String} {af : Array Edge} {d : Nat} {g : Option (Nat × Bool)} {x : Uu} {v : Us}
def lw {σ ρ γ:Type} {δ:ρ->Type} {body:σ->Option (σ ⊕ ρ)} {X:(r:ρ)->δ r->En} {N:Nat} {s:σ} {r:ρ} (h:bg body N s=some r) (g:γ) (I:σ->γ->En) (T:aa m0 ps (I s g).ps)
  (hb:∀s g r,body s=some r->Wk E n fn ro c (match r with | .inl s'=>mq m0 (I s') | .inr r=>mq m0 (X r)) m0 (I s g).fs (I s g).ps)
  (hs:sub fs (I s g).fs:=by repeat first|exact sn|refine sc rfl ?_)
  (hn:∀s g,(I s g).e = .normal:=by exact fun _ _=>rfl) (hx:∀r g,(X r g).e≠.normal:=by intro r d; first | (intro e; cases e; done) | (rcases r with r|r<;>first | (intro e; cases e; done) | (rcases r with r|r<;>first | (intro e; cases e; done) | (rcases r with r|r<;>intro e<;>cases e)))):Wk E n fn ro (.loop c) (mq m0 (ap X r)) m0 fs ps:=.Fe hs T (Wk.loop body I X hb hn hx N s r h g)
def aT {γ:Type} {G:γ->En} {e:Vl} (g:γ) (T:aa m0 ps (G g).ps) (he:e=(G g).e:=by rfl) (hs:sub fs (G g).fs:=by repeat first|exact sn|refine sc rfl ?_):At (mq m0 G) e m0 fs ps:=At.en g he hs T
def aO:List Pc->List Pc->Option (List Pc)
 | [],ps=>some ps
 | p::l,ps=>match aO l ps with
  | some q=>some (p::q)
  | none=>none
def KX:∀{l ps q:List Pc},aO l ps=some q->q=l++ps
 | [],ps,q,h=>by cases h; rfl
 | p::l,ps,q,h=>by
  unfold aO at h
  split at h
  rename_i q' e; cases h; rw[KX e]; rfl
  cases h
def Mw {α:Type} {r:Rep α} {ag:Bool} {sz b o w j c q off:Nat} {R:Ur} {L:List α} {es:Un} {z:α} {V:r.G->Us} {N:r.G->List Pc} (ht:TyI E.P ty ag sz) (hx:ev E fs x=some (ptr b off)) (ho:off=o+j*w+c) (hli:∀m,Hp m0 m ps->pJ m b o w es) (hq:pk ps q=some (.gen (bU r R L es))) (hl:L[j]? = some z) (hv:∀g,xA ag sz (r.V z g) c=some (V g)) (hs:xj ag sz c w=true) (hN:∀g,aO (r.N z g R) ps=some (N g)):Ox E m0 fs ps (.load ty x) V N :=
 Og ht hx ho hli hq hl hv hs fun g=>KX (hN g)
def wl {α:Type} {r:Rep α} {ag:Bool} {sz b o j l off:Nat} {R:Ur} {L:List α} {es:Un} {z:α} {V:r.G->Us} {N:r.G->List Pc} (w c q k:Nat) (hl:L[j]? = some z) (kk:∀g,Wo dr E n ops K os m0 ((d,V g)::fs) (N g)) (ht:TyI E.P oty ag sz:=by exact TyC.t) (hx:ev E fs x=some (ptr b off):=by rfl) (hp:pk ps k=some (.ro b o w l es):=by rfl) (ho:off=o+j*w+c:=by rfl) (hq:pk ps q=some (.gen (bU r R L es)):=by rfl) (hv:∀g,xA ag sz (r.V z g) c=some (V g):=by exact fun _=>rfl) (hs:xj ag sz c w=true:=by rfl) (hN:∀g,aO (r.N z g R) ps=some (N g):=by exact fun _=>rfl) (hd:Nat.blt d n=true:=by rfl):Wo dr E n ops K (⟨some d,.load oty x,ty,p,af,none⟩::os) m0 fs ps:=UQ (Mw ht hx ho (rJ hp) hq hl hv hs hN) gn hd kk
variable {α : Type} {V : α -> Us} {N : α -> List Pc} {R S : α -> Pc} {f : Uu} {q : FuncId} {ars : Array Uu} {ts : Array Ut} {args : List Us} {prs : List (Nat × Nat)} {ss : List Nk}
def xJ (hg:uw ops fs g true) (hc:∀m,Hp m0 m ps->aD E q args m (fun v m'=>∃x,v=V x/\Hp m m' [R x,S x,.gen (tK (lC ps))])) (k:∀x,Wo dr E n ops K os m0 ((d,V x)::fs) (R x::S x::ps)) (hf:ev E fs f=some (.func (.func q) #[] #[]):=by rfl) (ha:gy E fs ars.toList=some args:=by rfl) (ho:∀x,oY [R x,S x]=true:=by exact fun _=>rfl) (hd:Nat.blt d n=true:=by rfl):Wo dr E n ops K (⟨some d,.call ⟨.value f,ars,ts⟩,ty,p,af,g⟩::os) m0 fs ps:=UQ (CC (N:=fun x=>[R x,S x]) hf ha hc ho) hg hd k
def P5 (hg:uw ops fs g true) (hc:∀m,Hp m0 m ps->aD E q args m (fun v m'=>∃x,v=V x/\Hp m m' [R x,S x,.gen (tK (lC ps))])) (k:∀x,Wn E n ops prs K os (.call::ss) m0 ((d,V x)::fs) (R x::S x::ps)) (hf:ev E fs f=some (.func (.func q) #[] #[]):=by rfl) (ha:gy E fs ars.toList=some args:=by rfl) (ho:∀x,oY [R x,S x]=true:=by exact fun _=>rfl) (hd:Nat.blt d n=true:=by rfl):Wn E n ops prs K (⟨some d,.call ⟨.value f,ars,ts⟩,ty,p,af,g⟩::os) ss m0 fs ps:=Wn.c (KF (N:=fun x=>[R x,S x]) hf ha hc ho) hg hd k
def wq {ρ γ:Type} {first cap:Array Us} (F:ρ->γ->Us × List Pc) (r:ρ) (hc:∀m,Hp m0 m ps->aD E q (first.toList++args++cap.toList) m (fun v m'=>∃x,v=(F r x).1/\Hp m0 m' (F r x).2)) (k:∀x,Wo dr E n ops K os m0 ((d,(F r x).1)::fs) (F r x).2) (hf:ev E fs f=some (.func (.func q) first cap):=by rfl) (ha:gy E fs ars.toList=some args:=by rfl) (hd:Nat.blt d n=true:=by rfl):Wo dr E n ops K (⟨some d,.call ⟨.value f,ars,ts⟩,ty,p,af,none⟩::os) m0 fs ps:=UQ (kD hf ha hc) gn hd k
end
end Go.Ab.W
namespace Go.Proofs.YtmndpgfbkicndaaGreat
open Go Go.Ab Go.Ab.W
set_option maxRecDepth 10000
set_option maxHeartbeats 4000000
attribute [local irreducible] Wo Wk At Wn Od Ox bp bZ
attribute [local irreducible] Tm.at Trie.set Trie.get Vj.get Vj.set Vj.alloc Vj.ww Vj.kill
variable {p q : Option Prim}
abbrev gw (z0) (z1) (z2):=Pc.rd z0 z1 2 (List.length z2) (List.map (eP (eI .i64) (eI .i64)) z2)
abbrev gr {γ0:Type} (z0:Rep γ0) (z1) (z2:List γ0) (z3):=Pc.gen (bU z0 z1 z2 z3)
abbrev Ek (z0) (z1) {β2:Type} (z2:List β2) (z3) (z4) {β5:Type} (z5:List β5) (z6):=Pc.obj z0 (.cells [.slice z1 (List.length z2) z3,.slice z4 (List.length z5) z6] .own)
abbrev NZ (z0) (z1) {β2:Type} (z2:List β2) (z3) (z4) (z5) {β6:Type} (z6:List β6) (z7):=Pc.obj z0 (.cells [.slice z1 (List.length z2) z3,.slice (some ⟨z4,z5,none⟩) (List.length z6) z7] .own)
abbrev db (z0):=Pc.obj z0 (.cells [.int .i64 0] .own)
abbrev bO (z0) {β1:Type} (z1:List β1):=Value.slice z0 (List.length z1) (List.length z1)
abbrev bu (z0) {β1:Type} (z1:List β1) (z2):=Value.slice z0 (List.length z1) z2
abbrev aM (z0):=Value.int .i64 z0
abbrev Rj (z0) (z1) (z2) {β3:Type} (z3:List β3) (z4):=Pc.rd (some ⟨z0,z1,none⟩) z2 2 (List.length z3) z4
abbrev lq (z0) (z1):=Pc.sl z0 4 (List.length z1) (List.map (eP (eI .i64) (eP (eI .i64) (eP (eI .i64) (eI .i64)))) z1)
abbrev cZ (z0) (z1):=Pc.sl z0 2 (List.length z1) (List.map (eP (eI .i64) (eI .i64)) z1)
abbrev jG (z0) (z1) {β2:Type} (z2:List β2) (z3):=Pc.rd z0 z1 2 (List.length z2) z3
abbrev fP (z0) (z1) (z2) {β3:Type} (z3:List β3) (z4):=Pc.obj z0 (.cells [.slice (some ⟨z1,z2,none⟩) (List.length z3) z4] .own)
abbrev dm (m) (z0) (z1) (z2):=Rd m z0 z1 2 (List.length z2) (List.map (eP (eI .i64) (eI .i64)) z2)
abbrev dF {β0:Type} (z0:List β0):=Value.int .i64 ((List.length z0):Int)
abbrev s9 (z0) (z1) {β2:Type} (z2:List β2) (z3) {β4:Type} (z4:List β4):=Pc.obj z0 (.cells [.slice z1 (List.length z2) (List.length z2),.slice z3 (List.length z4) (List.length z4)] .own)
abbrev fB (z0) (z1) (z2) (z3) (z4):=Pc.obj z0 (.cells [.int .i64 z1,.int .i64 z2,.int .i64 z3,.int .i64 z4] .own)
abbrev gI (z0) (z1) (z2) (z3) (z4) (z5):=Pc.obj z0 (.cells [.int .i64 z1,.int .i64 z2,.int .i64 z3,.int .i64 z4,.int .i64 z5] .own)
abbrev Oy (z0) (z1) {β2:Type} (z2:List β2) (z3):=Pc.ro z0 z1 2 (List.length z2) z3
abbrev dN (z0) {β1:Type} (z1:List β1) (z2) (z3) {β4:Type} (z4:List β4) (z5):=Value.agg #[.slice z0 (List.length z1) z2,.slice z3 (List.length z4) z5]
abbrev fx (z0) {β1:Type} (z1:List β1):=Pc.obj z0 (.cells [.int .i64 ((List.length z1):Int)] .own)
abbrev QF (z0) (z1) (z2) {β3:Type} (z3:List β3) (z4):=Pc.rd (some ⟨z0,z1,none⟩) z2 1 (List.length z3) z4
abbrev Dv (z0) (z1) (z2) (z3):=Pc.rd (some ⟨z0,z1,none⟩) z2 2 (List.length z3) (List.map (eP (eI .i64) (eI .i64)) z3)
abbrev ku (z0) (z1) {β2:Type} (z2:List β2) (z3) {β4:Type} (z4:List β4):=Pc.obj z0 (.cells [.slice z1 (List.length z2) (List.length z2),.slice (some ⟨z3,0,none⟩) (List.length z4) (List.length z4)] .own)
abbrev nF (z0) (z1) {β2:Type} (z2:List β2) (z3):=Value.slice (some ⟨z0,z1,none⟩) (List.length z2) z3
abbrev ec (z0) (z1) (z2):=Pc.obj z0 (.cells [.int .i64 z1,.int .i64 z2] .own)
abbrev QR (z0) (z1) (z2) (z3) {β4:Type} (z4:List β4) (z5) (z6) {β7:Type} (z7:List β7) (z8) (z9):=Pc.obj z0 (.cells [.int .u8 ((z1:Nat):Int),.int .u8 ((z2:Nat):Int),.slice z3 (List.length z4) z5,.slice z6 (List.length z7) z8,.bool z9] .own)
abbrev Qr (z0) (z1) (z2) (z3):=Pc.rd (some ⟨z0,z1,none⟩) z2 1 (List.length z3) (List.map (eI .i64) z3)
abbrev cH (z0):=Value.slice (some ⟨z0,0,none⟩) 4 4
abbrev fQ (z0):=Pc.obj z0 (.cells [.slice none 0 0,.slice none 0 0] .own)
abbrev Ef (z0) (z1) (z2):=Pc.ro z0 z1 2 (List.length z2) (List.map (eP (eI .i64) (eI .i64)) z2)
abbrev ez (z0) (z1):=Pc.obj z0 (.cells [.map (some z1)] .own)
abbrev uk (z0) (z1) {β2:Type} (z2:List β2) (z3):=Pc.obj z0 (.cells [.slice z1 (List.length z2) z3] .own)
abbrev eS (z0) (z1):=Pc.obj z0 (.cells [.int .i64 z1] .own)
abbrev QW (z0) (z1) (z2):=Pc.ro z0 z1 1 (List.length z2) (List.map (eI .i64) z2)
abbrev QO (z0) (z1) {β2:Type} (z2:List β2) (z3):=Pc.ro z0 z1 1 (List.length z2) z3
abbrev zC (z0) (z1) (z2) (z3) (z4) (z5) (z6):=Pc.obj z0 (.cells [.int .u8 ((z1:Nat):Int),.int .u8 ((z2:Nat):Int),.int .u8 ((z3:Nat):Int),.int .i64 z4,.int .i64 z5,.int .i64 z6] .own)
abbrev JZ (z0) (z1) (z2):=Pc.rd z0 z1 1 (List.length z2) (List.map (eN .u8) z2)
abbrev fj (z0) (z1):=Value.agg #[.int .i64 z0,.int .i64 z1]
abbrev JL (z0) (z1) (z2) (z3) (z4) (z5) (z6) (z7) (z8) (z9) (z10) (z11) (z12):=Pc.obj z0 (.cells [.int .u8 ((z1:Nat):Int),.int .u8 ((z2:Nat):Int),.int .u8 ((z3:Nat):Int),.int .i64 z4,.int .i64 z5,.int .i64 z6,.int .u8 ((z7:Nat):Int),.int .u8 ((z8:Nat):Int),.int .u8 ((z9:Nat):Int),.int .i64 z10,.int .i64 z11,.int .i64 z12] .own)
abbrev I8 (z0) (z1) {β2:Type} (z2:List β2) (z3):=Pc.rd z0 z1 1 (List.length z2) z3
abbrev qY (z0) (z1) (z2):=Pc.arr z0 4 (List.length z1) (List.map (eP (eI .i64) (eP (eI .i64) (eP (eI .i64) (eI .i64)))) z1) z2
abbrev AO (z0) (z1) {β2:Type} (z2:List β2):=Pc.obj z0 (.cells [.slice z1 (List.length z2) (List.length z2)] .own)
abbrev jx (z0) (z1) (z2):=Pc.rd z0 z1 1 (List.length z2) (List.map (eI .i64) z2)
abbrev jF (z0) {β1:Type} (z1:List β1) (z2):=Pc.sl z0 2 (List.length z1) z2
abbrev fh (m) (z0) (z1) {β2:Type} (z2:List β2) (z3):=Rd m z0 z1 2 (List.length z2) z3
abbrev lz (m) (z0) (z1) (z2):=Rd m z0 z1 1 (List.length z2) (List.map (eI .i64) z2)
abbrev wI (z0) (z1):=Pc.obj z0 (.map (List.map (eM (fun n:Int=>.int .i64 n) (fun n:Int=>.int .i64 n)) z1))
abbrev lE (z0):=Value.slice (some ⟨z0,0,none⟩) 1 1
abbrev ef (z0):=Pc.gen (tK z0)
abbrev Ic (z0) (z1) (z2):=Value.slice (some ⟨z0,0,none⟩) ((z1++([z2]:Um)).length) ((z1++([z2]:Um)).length)
abbrev Pu (z0) (z1) (z2) (z3) (z4) (z5) (z6) (z7) (z8) (z9) (z10) (z11):=Value.agg #[.int .u8 ((z0:Nat):Int),.int .u8 ((z1:Nat):Int),.int .u8 ((z2:Nat):Int),.int .i64 z3,.int .i64 z4,.int .i64 z5,.int .u8 ((z6:Nat):Int),.int .u8 ((z7:Nat):Int),.int .u8 ((z8:Nat):Int),.int .i64 z9,.int .i64 z10,.int .i64 z11]
abbrev qW (z0) {β1:Type} (z1:List β1):=Value.slice (some ⟨z0,0,none⟩) (List.length z1) (List.length z1)
abbrev De (z0) (z1) {β2:Type} (z2:List β2):=Pc.obj z0 (.cells [.slice z1 (List.length z2) (List.length z2),.slice none 0 0] .own)
abbrev tS (z0) (z1):=Pc.sl z0 1 (List.length z1) (List.map (eI .i64) z1)
abbrev Nn (z0) (z1) (z2) {β3:Type} (z3:List β3) (z4) (z5) {β6:Type} (z6:List β6) (z7) (z8):=Value.agg #[.int .u8 ((z0:Nat):Int),.int .u8 ((z1:Nat):Int),.slice z2 (List.length z3) z4,.slice z5 (List.length z6) z7,.bool z8]
abbrev Ml (z0) (z1) (z2) (z3) (z4) (z5) (z6) (z7):=Value.agg #[.int .i64 z0,.int .i64 z1,.int .i64 z2,.int .i64 z3,.int .i64 z4,.int .i64 z5,.int .i64 z6,.int .i64 z7]
abbrev pF {γ0:Type} {ρ0:Rep γ0} (z0:Orp ρ0) (z1) (z2:List γ0) (z3):=Pc.gen (cT z0 z1 z2 z3)
abbrev HK (z0) (z1) (z2) (z3):=Value.agg #[.int .i64 z0,.int .i64 z1,.int .i64 z2,.int .i64 z3]
abbrev AP (m) (z0) (z1) (z2):=Rd m z0 z1 1 (List.length z2) (List.map (eN .u8) z2)
abbrev ux (m) (z0) (z1) {β2:Type} (z2:List β2) (z3):=Rd m z0 z1 1 (List.length z2) z3
abbrev LP (z0) (z1) (z2) (z3) (z4):=Value.agg #[.int .i64 z0,.int .i64 z1,.int .i64 z2,.int .i64 z3,.int .i64 z4]
abbrev DG (z0):=Pc.obj z0 (.cells [.int .i64 10] .own)
abbrev Dw (z0):=Pc.obj z0 (.cells [.int .i64 5] .own)
abbrev DX (z0) {β1:Type} (z1:List β1) (z2):=Pc.rd z0 (List.length z1) 2 (List.length z1) z2
abbrev C4 (z0):=Value.slice (some ⟨z0,0,none⟩) 3 3
abbrev Gj (z0):=Pc.obj z0 (.cells [.int .i64 7] .own)
abbrev HD (z0):=Pc.obj z0 (.cells [.int .i64 8] .own)
abbrev HI (z0):=Pc.obj z0 (.cells [.int .i64 9] .own)
abbrev I5 (z0):=Value.slice (some ⟨z0,0,none⟩) 12 12
abbrev eW {τ0:Type} (z0) (z1) (z2) (z3) (z4) (z5) (z6:List τ0) (z7) (z8) (z9:Rep τ0) (z10) (z:List Pc):=NZ z0 z1 z2 z3 z4 z5 z6 z7::gw z1 z3 z2::Oy z4 z5 z6 z8::gr z9 z10 z6 z8::Rj z4 z5 z7 z6 z8::z
abbrev cU {τ0:Type} (z0) (z1) (z2) (z3) (z4) (z5:List τ0) (z6) (z7) (z8:Rep τ0) (z9) (z:List Pc):=Ek z0 z1 z2 z3 z4 z5 z6::gw z1 z3 z2::jG z4 z6 z5 z7::gr z8 z9 z5 z7::z
abbrev iY {τ0:Type} (z0) (z1) (z2:List τ0) (z3) (z4:Rep τ0) (z5) (z6) (z:List Pc):=QO z0 z1 z2 z3::gr z4 z5 z2 z3::QF z0 z1 z6 z2 z3::z
abbrev tN (z0) (z1) (z2) (z3) (z4) (z:List Pc):=fP z0 z1 z2 z3 z4::Ef z1 z2 z3::Dv z1 z2 z4 z3::z
abbrev uY {τ0:Type} (z0) (z1) (z2) (z3) (z4:List τ0) (z5) (z6:Rep τ0) (z7) (z:List Pc):=s9 z0 z1 z2 z3 z4::cZ z1 z2::jF z3 z4 z5::gr z6 z7 z4 z5::z
abbrev q9 {τ0:Type} (z0) (z1) (z2:List τ0) (z3) (z4:Rep τ0) (z5) (z6) (z:List Pc):=Oy z0 z1 z2 z3::gr z4 z5 z2 z3::Rj z0 z1 z6 z2 z3::z
abbrev rG {τ0:Type} (z0) (z1) (z2:List τ0) (z3) (z4) (z:Fs):=(10,nF z0 z1 z2 z3)::(11,dF z2)::(12,aM z4)::z
abbrev oM (z0) (z1) (z2) (z3) (z:List Pc):=QW z0 z1 z2::Qr z0 z1 z3 z2::z
abbrev pI (z0) (z1) (z:Fs):=(2,ptr z0 0)::(3,ptr z1 0)::z
abbrev NQ {τ0:Type} (z0) (z1) (z2) (z3) (z4) (z5:List τ0) (z6) (z7:Rep τ0) (z8) (z9) (z10) (z11) (z12) (z13) (z14:List τ0) (z15) (z16) (z:List Pc):=gw z0 z1 z2::jG z3 z4 z5 z6::gr z7 z8 z5 z6::gw z9 z10 z11::jG z12 z13 z14 z15::gr z7 z16 z14 z15::z
abbrev zQ (z0) (z1) (z2) (z3) (z4) (z:Fs):=(1,ptr z0 0)::(2,ptr z1 0)::(3,aM z2)::(4,aM z3)::(5,ptr z4 0)::z
abbrev eL {τ0:Type} (z0) (z1) (z2:List τ0) (z3) (z4:Rep τ0) (z5) (z:List Pc):=I8 z0 z1 z2 z3::gr z4 z5 z2 z3::z
abbrev p7 (z0) (z1) (z2) (z3) (z4) (z5) (z6) (z7) (z8) (z9) (z:List Pc):=QR z0 z1 z2 z3 z4 z5 z6 z7 z8 z9::JZ z3 z5 z4::JZ z6 z8 z7::z
abbrev uj {τ0:Type} (z0) (z1) (z2:List τ0) (z3) (z4) (z:Fs):=(18,nF z0 z1 z2 z3)::(19,dF z2)::(20,aM z4)::z
abbrev uz (z0) (z1) (z2) (z3) (z4) (z5) (z6) (z:List Pc):=uk z0 z1 z2 z3::gw z1 z3 z2::db z4::db z5::fx z6 z2::z
abbrev qZ (z0) (z1) (z2) (z3) (z4) (z:List Pc):=db z0::db z1::AO z2 z3 z4::lq z3 z4::z
abbrev nJ {τ0:Type} (z0) (z1) (z2:List τ0) (z:Fs):=(1,ptr z0 0)::(4,bO z1 z2)::z
abbrev zJ {τ0:Type} (z0) (z1:List τ0) (z2) (z3) (z:Fs):=(10,bu z0 z1 z2)::(11,dF z1)::(12,aM z3)::z
abbrev D6 (z0) (z1) (z2) (z3) (z4) (z5) (z6) (z7) (z:List Pc):=uk z0 z1 z2 z3::gw z1 z3 z2::uk z4 z1 z2 z3::db z5::db z6::fx z7 z2::z
abbrev qX (z0) (z1) (z:Fs):=(4,ptr z0 0)::(5,ptr z1 0)::z
abbrev yZ {τ0:Type} (z0) (z1:List τ0) (z2) (z3) (z:Fs):=(7,bu z0 z1 z2)::(8,dF z1)::(9,aM z3)::z
abbrev q6 {τ0:Type} (z0) (z1:List τ0) (z2) (z:Fs):=(0,bu z0 z1 z2)::(4,dF z1)::z
abbrev qU {τ0:Type} (z0) (z1) (z2) (z3) (z4) (z5) (z6:List τ0) (z7) (z8) (z9) (z:List Pc):=NZ z0 z1 z2 z3 z4 z5 z6 z7::gw z1 z3 z2::db z8::db z9::z
abbrev aY:Rep (List Int):=(rS (eI .i64) 1)
abbrev ai:Rep (List Int × Um):=(rP (rS (eI .i64) 1) (rL aY))
def Iz:(Vn p q).P.underlying 123=some (.array 2 3):=by kernel_rfl
def bX:TyI (Vn p q).P 3 false 1:=⟨by kernel_rfl,by kernel_rfl,by kernel_rfl⟩
instance:TyC (Vn p q).P 3 false 1:=⟨bX⟩
def u3:(Vn p q).P.underlying 3=some (.int .i64):=by kernel_rfl
def z117:bz (Vn p q).P 117=some (.map none):=by kernel_rfl
def KD:TyI (Vn p q).P 117 false 1:=⟨by kernel_rfl,by kernel_rfl,by kernel_rfl⟩
instance:TyC (Vn p q).P 117 false 1:=⟨KD⟩
def dA:TyI (Vn p q).P 26 true 2:=⟨by kernel_rfl,by kernel_rfl,by kernel_rfl⟩
instance:TyC (Vn p q).P 26 true 2:=⟨dA⟩
def ja:∀b o,aF (Vn p q).P 26 (ptr b o) 1=some (ptr b (o+1)):=fun _ _=>by kernel_rfl
instance:FaC (Vn p q).P 26 1 1:=⟨ja⟩
def q5:TyI (Vn p q).P 24 false 1:=⟨by kernel_rfl,by kernel_rfl,by kernel_rfl⟩
instance:TyC (Vn p q).P 24 false 1:=⟨q5⟩
def BY:(Vn p q).P.underlying 24=some (.slice 31):=by kernel_rfl
instance:UsC (Vn p q).P 24 31:=⟨BY⟩
def iI:SlT (Vn p q).P 24 31 2:=SlT.of (by kernel_rfl)
instance:SlC (Vn p q).P 24 31 2:=⟨iI⟩
def um:TyI (Vn p q).P 31 true 2:=⟨by kernel_rfl,by kernel_rfl,by kernel_rfl⟩
instance:TyC (Vn p q).P 31 true 2:=⟨um⟩
def z31:bz (Vn p q).P 31=some (.agg #[.slice none 0 0,.slice none 0 0]):=by kernel_rfl
def eA:∀b o,aF (Vn p q).P 31 (ptr b o) 0=some (ptr b (o+0)):=fun _ _=>by kernel_rfl
instance:FaC (Vn p q).P 31 0 0:=⟨eA⟩
def jA:TyI (Vn p q).P 28 false 1:=⟨by kernel_rfl,by kernel_rfl,by kernel_rfl⟩
instance:TyC (Vn p q).P 28 false 1:=⟨jA⟩
def z28:bz (Vn p q).P 28=some (.slice none 0 0):=by kernel_rfl
def eu:∀b o,aF (Vn p q).P 31 (ptr b o) 1=some (ptr b (o+1)):=fun _ _=>by kernel_rfl
instance:FaC (Vn p q).P 31 1 1:=⟨eu⟩
def kO:TyI (Vn p q).P 29 false 1:=⟨by kernel_rfl,by kernel_rfl,by kernel_rfl⟩
instance:TyC (Vn p q).P 29 false 1:=⟨kO⟩
def RR:bz (Vn p q).P 29=some (.slice none 0 0):=by kernel_rfl
abbrev xm:Rep (Um):=(rL aY)
def QA:(Vn p q).P.underlying 144=some (.slice 29):=by kernel_rfl
instance:UsC (Vn p q).P 144 29:=⟨QA⟩
def Lv:SlT (Vn p q).P 144 29 1:=SlT.of (by kernel_rfl)
instance:SlC (Vn p q).P 144 29 1:=⟨Lv⟩
def El:(Vn p q).P.underlying 29=some (.slice 28):=by kernel_rfl
instance:UsC (Vn p q).P 29 28:=⟨El⟩
def lh:SlT (Vn p q).P 29 28 1:=SlT.of (by kernel_rfl)
instance:SlC (Vn p q).P 29 28 1:=⟨lh⟩
def Ir:(Vn p q).P.underlying 28=some (.slice 3):=by kernel_rfl
instance:UsC (Vn p q).P 28 3:=⟨Ir⟩
def eZ:SlT (Vn p q).P 28 3 1:=SlT.of (by kernel_rfl)
instance:SlC (Vn p q).P 28 3 1:=⟨eZ⟩
def q7:bz (Vn p q).P 122=some (.agg #[.int .i64 0,.int .i64 0,.int .i64 0,.int .i64 0]):=by kernel_rfl
def zz:BdT (Vn p q).P 122 (.agg #[.int .i64 0,.int .i64 0,.int .i64 0,.int .i64 0]) [(0,1),(1,1),(2,1),(3,1)]:=.mk' (by kernel_rfl) (by kernel_rfl)
def Gl:TyI (Vn p q).P 122 true 4:=⟨by kernel_rfl,by kernel_rfl,by kernel_rfl⟩
instance:TyC (Vn p q).P 122 true 4:=⟨Gl⟩
def xx:∀b o,aF (Vn p q).P 122 (ptr b o) 0=some (ptr b (o+0)):=fun _ _=>by kernel_rfl
instance:FaC (Vn p q).P 122 0 0:=⟨xx⟩
def xd:∀b o,aF (Vn p q).P 122 (ptr b o) 1=some (ptr b (o+1)):=fun _ _=>by kernel_rfl
instance:FaC (Vn p q).P 122 1 1:=⟨xd⟩
def Jh:bz (Vn p q).P 123=some (.agg #[.int .i64 0,.int .i64 0]):=by kernel_rfl
def Gg:BdT (Vn p q).P 123 (.agg #[.int .i64 0,.int .i64 0]) [(0,1),(1,1)]:=.mk' (by kernel_rfl) (by kernel_rfl)
def Oj:TyI (Vn p q).P 123 true 2:=⟨by kernel_rfl,by kernel_rfl,by kernel_rfl⟩
instance:TyC (Vn p q).P 123 true 2:=⟨Oj⟩
def Nb:(Vn p q).P.underlying 117=some (.map 123 64):=by kernel_rfl
def z64:bz (Vn p q).P 64=some (.agg #[.int .i64 0,.int .i64 0,.int .i64 0,.int .i64 0]):=by kernel_rfl
def AN:TyI (Vn p q).P 64 true 4:=⟨by kernel_rfl,by kernel_rfl,by kernel_rfl⟩
instance:TyC (Vn p q).P 64 true 4:=⟨AN⟩
def Pd:ArT (Vn p q).P 123 3 2 1:=⟨by kernel_rfl,by kernel_rfl,by kernel_rfl⟩
instance:ArC (Vn p q).P 123 3 2 1:=⟨Pd⟩
def y7:BdT (Vn p q).P 64 (.agg #[.int .i64 0,.int .i64 0,.int .i64 0,.int .i64 0]) [(0,1),(1,1),(2,1),(3,1)]:=.mk' (by kernel_rfl) (by kernel_rfl)
def mX:∀b o,aF (Vn p q).P 122 (ptr b o) 2=some (ptr b (o+2)):=fun _ _=>by kernel_rfl
instance:FaC (Vn p q).P 122 2 2:=⟨mX⟩
def Nx:∀b o,aF (Vn p q).P 64 (ptr b o) 2=some (ptr b (o+2)):=fun _ _=>by kernel_rfl
instance:FaC (Vn p q).P 64 2 2:=⟨Nx⟩
def Mv:∀b o,aF (Vn p q).P 64 (ptr b o) 3=some (ptr b (o+3)):=fun _ _=>by kernel_rfl
instance:FaC (Vn p q).P 64 3 3:=⟨Mv⟩
def MV {n l1 a0 c0} {r0:Ur} {e0:Un} {r} (hF:P8 n l1=some r) (m) {H:Ur} (hH:∀b,H b->b<m.next) (h5:ux m a0 c0 l1 e0) (h6:∀b,j4 a0=some b->¬H b) (h7:(bU xm r0 l1 e0).P m) (h8:∀b,r0 b->¬H b):
 aD (Vn p q) 94 [bu a0 l1 c0] m (fun v m'=>∃x:Uo × Nat × Nat × Un × (Nat->Prop),v = .slice x.1 x.2.2.1 x.2.1/\Hp m m' [.rd x.1 x.2.1 1 x.2.2.1 x.2.2.2.1,.gen (bU aY x.2.2.2.2 r x.2.2.2.1),ef H]):=by
 unfold P8 at hF;refine cw Tryz.func94 (Hp.Cm (l0:=[I8 a0 c0 l1 e0]) (Hp.lY (l0:=[]) (Hp.qa m hH) bP h5 h6) (bC bP) h7 h8) ?_;refine dz ?_;refine UE ?_;obtain⟨v0,h0,hF⟩:=J hF;refine ct (fun v0 (_:Unit)=>⟨(.exit 0),[(0,bu a0 l1 c0),(3,aM v0)],(eL a0 c0 l1 e0 xm r0 [ef H])⟩) v0 ?_ ?_;refine lo h0 () [1,0,2] (fun(v1,v2) _=>⟨.normal,[(0,bu a0 l1 c0),(3,aM v1),(9,bu a0 l1 c0),(10,dF l1),(11,aM v2)],(eL a0 c0 l1 e0 xm r0 [ef H])⟩) ?_;clear hF h0;rintro⟨v1,v2⟩ ⟨⟩ r hF;unfold py at hF;refine wz ?_;refine UD ?_;rcases U hF with⟨h9,hF⟩|⟨h9,hF⟩;refine ak ?_;obtain⟨h10,hF⟩:=bJ hF;refine UO (k:=0) rfl (ay h10) ?_;rintro b1 o1 rfl;refine wz ?_;obtain⟨l7,h11,hF⟩:=J hF;refine wl 1 0 2 0 h11 ?_;rintro⟨a6,c6,e7⟩;refine dz ?_;rcases U hF with⟨h3,hF⟩|⟨h3,hF⟩;refine U1 rfl h3 ?_;cases hF;refine ak ?_;cases hF;exact ae () [3,4,5];refine wz ?_;cases hF;exact ae () [0,1,2];rintro⟨⟩;refine ak ?_;obtain⟨l2,h12,hF⟩:=J hF;refine wq (fun l2 ((a1,c1,e3,r1):Uo × Nat × Un × (Nat->Prop))=>(.slice a1 l2.length c1,(.gen (nI a1 c1 1 l2.length e3)::gr aY r1 l2 e3::eL a0 c0 l1 e0 xm r0 [ef H]))) l2 (fun m hm=>?_) ?_;clear hF;revert l2;intro r hF;refine aV (N:=27) (rs:=[.tmp 4]) rfl Tryz.func122 rfl rfl rfl hm ?_;refine ak ?_;rcases U hF with⟨h4,hF⟩|⟨h4,hF⟩;refine U1 rfl h4 ?_;cases hF;refine wz ?_;refine UD ?_;obtain⟨l3,h13,hF⟩:=J hF;refine ct (fun l3 ((a2,c2,e4,r3):Uo × Nat × Un × (Nat->Prop))=>⟨.normal,[(0,bu a2 l3 c2)],(.gen (nI a2 c2 1 l3.length e4)::gr aY r3 l3 e4::eL a0 c0 l1 e0 xm r0 [ef H])⟩) l3 ?_ ?_;clear hF;revert l3;intro r hF;refine wz ?_;refine UB (KK El rfl) rfl ?_;refine ak ?_;rcases U hF with⟨h14,hF⟩|⟨h14,hF⟩;refine wz ?_;refine UB (KK El rfl) rfl<|UB (PU lh rfl rfl (.inr ⟨_,rfl⟩)) rfl ?_;refine wz ?_;obtain⟨h15,hF⟩:=aA hF;obtain⟨h16,hF⟩:=aA hF;refine UQ (MJ (g:=fun e:List Us=>e) (z0:=[.slice none 0 0]) lh u3 rfl h15 h16 z28 rfl rfl) gn rfl fun b0=>?_;refine Vc (r:=aY) (L:=(List.replicate (Ux (v0-(Ux (0-0)))).toNat ([]:List Int))) (es:=((List.replicate (Ux (v0-(Ux (0-0)))).toNat [.slice none 0 0]).map fun e=>e)) (gA.rep (r:=aY) (z:=[]) (g:=(none,0)) Lf.s0 _) ?_;intro r6;refine UB (aK rfl) rfl<|UB (jd (k:=0) El rfl rfl (.inr rfl)) rfl ?_;obtain⟨h17,hF⟩:=aA hF;obtain⟨h1,hF⟩:=aA hF;replace h1:=of_decide_eq_true h1;refine UR (UI (k:=1) rfl)<|UR (aa.wM (k:=1) rfl)<|US (L3 (r:=aY) (k:=1) (q:=0) (hi:=0) lh rfl rfl rfl rfl h17 h1) gn rfl ?_;refine wz ?_;cases hF;exact ae ((some ⟨b0,0,none⟩),(Ux (v0-(Ux (0-0)))).toNat,(((List.replicate (Ux (v0-(Ux (0-0)))).toNat [.slice none 0 0]).map fun e=>e).take Uy),r6) [1,0,2,3,4];refine wz ?_;cases hF;exact aT (none,0,[],(fun _=>False)) (UK (U9 1 rfl) (UK (aa.wM (k:=0) rfl) (UK (aa.BU (r:=aY)) (UH [1,0,2,3,4] rfl rfl))));rintro⟨a2,c2,e4,r3⟩;refine dz ?_;obtain rfl:=R2 hF;exact ar (a2,c2,e4,r3) (Vd 0 5);rintro⟨a1,c1,e3,r1⟩;refine ak ?_;refine UE ?_;obtain⟨l4,h2,hF⟩:=J hF;refine ct (fun l4 ((a3,c3,e5,r4):Uo × Nat × Un × (Nat->Prop))=>⟨(.exit 2),[(6,bu a3 l4 c3)],[.gen (nI a3 c3 1 l4.length e5),gr aY r4 l4 e5,ef H]⟩) l4 ?_ ?_;refine lo h2 (a1,c1,e3,r1) [0,1,2,3,4] (fun(l5,v3) ((a4,c4,e1,r5):Uo × Nat × Un × (Nat->Prop))=>⟨.normal,[(6,bu a4 l5 c4),(25,bu a0 l1 c0),(26,dF l1),(27,aM v3)],(.gen (nI a4 c4 1 l5.length e1)::gr aY r5 l5 e1::eL a0 c0 l1 e0 xm r0 [ef H])⟩) ?_;clear hF h2;rintro⟨l5,v3⟩ ⟨a4,c4,e1,r5⟩ r hF;unfold po at hF;refine wz ?_;refine UD ?_;rcases U hF with⟨h18,hF⟩|⟨h18,hF⟩;refine ak ?_;obtain⟨h19,hF⟩:=bJ hF;refine UO (k:=2) rfl (ay h19) ?_;rintro b2 o2 rfl;refine wz ?_;obtain⟨l6,h20,hF⟩:=J hF;refine wl 1 0 4 0 h20 ?_;rintro⟨a7,c7,e6⟩;refine ak ?_;obtain⟨h21,hF⟩:=aA hF;refine UQ (LQ (r:=aY) (k:=3) (q:=4) (q2:=1) (L:=l5) (L':=l6) lh ⟨_,El⟩ rfl rfl rfl rfl (fun m hm=>hm.q 0) rfl rfl h21) gn rfl ?_;rintro⟨a5,c5,r7⟩;refine ak ?_;cases hF;exact ae (a5,c5,(e1++e6),r7) [3,4,5,6,7];refine wz ?_;cases hF;exact ae (a4,c4,e1,r5) [0,1,4];rintro⟨a3,c3,e5,r4⟩;refine dz ?_;obtain rfl:=R2 hF;exact UW (.tmp rfl .nil) fun m' hm=>⟨(a3,c3,l4.length,e5,r4),rfl,(UK (aa.Fh (k:=0) rfl) (UH [0,1,2] rfl rfl)) m' hm⟩
def iA {n l1 l2 a0 c0 a1 c1} {r0:Ur} {e0:Un} {r} (hF:yc n l1 l2=some r) (m) {H:Ur} (hH:∀b,H b->b<m.next) (h0:lz m a0 c0 l1) (h1:∀b,j4 a0=some b->¬H b) (h2:ux m a1 c1 l2 e0) (h3:∀b,j4 a1=some b->¬H b) (h4:(bU aY r0 l2 e0).P m) (h5:∀b,r0 b->¬H b):
 aD (Vn p q) 54 [dN a0 l1 c0 a1 l2 c1] m (fun v m'=>∃x:Uo × Nat × Nat × Un × (Nat->Prop),v = .slice x.1 x.2.2.1 x.2.1/\Hp m m' [.rd x.1 x.2.1 1 x.2.2.1 x.2.2.2.1,.gen (bU aY x.2.2.2.2 r x.2.2.2.1),ef H]):=by
 unfold yc at hF;refine cw Tryz.func54 (Hp.Cm (l0:=[I8 a1 c1 l2 e0,jx a0 c0 l1]) (Hp.lY (l0:=[jx a0 c0 l1]) (Hp.lY (l0:=[]) (Hp.qa m hH) bP h0 h1) (bC bP) h2 h3) (bC (bC bP)) h4 h5) ?_;refine wz ?_;refine wb fun b1=>?_;refine ak ?_;refine UQ (cm (es:=[[bu a0 l1 c0]]) lh rfl (ck lh z28 rfl rfl) rfl rfl) gn rfl fun b0=>?_;refine Vc (r:=aY) (L:=([l1]:Um)) (es:=[[bu a0 l1 c0]]) (gA.cons (r:=aY) (z:=l1) (g:=(a0,c0)) (Lf.s (k:=4) rfl) gA.nil) ?_;intro r3;refine UB (aL (r:=ptr b1 1) rfl (eu _ _)) rfl<|UB (aC (k:=2) kO rfl rfl rfl) rfl<|UR (UI (k:=1) rfl)<|UR (UF (k:=1) rfl)<|UQ (cm (es:=[[lE b0],[bu a1 l2 c1]]) Lv rfl (ck Lv RR rfl rfl) rfl rfl) gn rfl fun b2=>?_;refine Vc (r:=xm) (L:=([[l1],l2]:List (Um))) (es:=[[lE b0],[bu a1 l2 c1]]) (gA.cons (r:=xm) (z:=[l1]) (g:=((some ⟨b0,0,none⟩),1,[[bu a0 l1 c0]])) (Lf.l (k:=2) (q:=1) rfl rfl rfl) (gA.cons (r:=xm) (z:=l2) (g:=(a1,c1,e0)) (Lf.l (k:=5) (q:=4) rfl rfl rfl) gA.nil)) ?_;intro r4;obtain⟨l3,h6,hF⟩:=J hF;refine UR (UI (k:=1) rfl)<|UR (UF (k:=1) rfl)<|xJ gn (fun m hm=>MV h6 m hm.cx (hm.q 1) (hm.no 1) (hm.dp (q:=0) rfl) (hm.dh (q:=0) rfl)) ?_;rintro⟨a2,c2,n0,e1,r1⟩;refine U6 (k:=0) (q:=1) (L:=l3) rfl (.inr (.inl ⟨_,rfl⟩)) rfl ?_;rintro rfl;refine ak ?_;obtain rfl:=R2 hF;exact ar (a2,c2,l3.length,e1,r1) [0,1,10]
def JI (hE:EnvOk (Vn p q)) (n:Nat) (l6:Ul) (l1:Uj) (a1:Uo) (c3:Nat) (a0:Uo) (c0:Nat) (r0:Ur) (e0:Un) (r:List ((Int × Int) × (Uk))) (hF:LX n l6 l1=some r) (m:Vj) (_:dm m a1 c3 l6) (h24:fh m a0 c0 l1 e0) (_:(bU ai r0 l1 e0).P m) {R:Us->Vj->Prop} (kN:∀g:Nat × Nat,Vk (Vn p q) 66 65 none (OV 4 (mc Tryz.f65)) (jo (Vn p q) [.tmp 2] R) m ((fun(r:List ((Int × Int) × (Uk))) (g:Nat × Nat)=>match r,g with|_,(b8,_)=>([(3,ptr b8 0),(8,.slice none 0 0)]:Fs)) r g) ((fun(r:List ((Int × Int) × (Uk))) (g:Nat × Nat)=>match r,g with|l13,(b8,b9)=>([ez b8 b9,.obj b9 (.map (l13.map (eM (fun p:Int × Int=>.agg #[.int .i64 p.1,.int .i64 p.2]) (fun x:Uk=>.agg #[.int .i64 x.1,.int .i64 x.2.1,.int .i64 x.2.2.1,.int .i64 x.2.2.2]))))]:List Pc)) r g)) :
 Vk (Vn p q) 66 65 none (mc Tryz.f65) (jo (Vn p q) [.tmp 2] R) m (nO [dN a1 l6 c3 a0 l1 c0] 0 []) [gr ai r0 l1 e0,jG a0 c0 l1 e0,gw a1 c3 l6]:=by
 unfold LX at hF;refine Vk.seq hE<|UG<|wb fun b13=>?_;refine wz ?_;refine At.Eo<|Vk.seq hE<|UG<|UQ Fk gn rfl fun b0=>?_;refine wa z117 fun b1=>?_;refine wz ?_;refine At.Eo<|Vk.seq hE ?_;refine wz ?_;obtain⟨l7,h4,hF⟩:=J hF;refine wq (fun l7 (b10:Nat)=>(.func (.func 126) #[] #[ptr b10 0],(cU b10 a1 l6 c3 a0 l1 c0 e0 ai r0 [ez b1 b0,.obj b0 (.map (l7.map (eM (fun p:Int × Int=>.agg #[.int .i64 p.1,.int .i64 p.2]) (fun x:Uk=>.agg #[.int .i64 x.1,.int .i64 x.2.1,.int .i64 x.2.2.1,.int .i64 x.2.2.2]))))]))) l7 (fun m hm=>?_) ?_;clear hF;revert l7;intro r hF;refine aV (N:=4) (rs:=[.tmp 2]) rfl Tryz.func103 rfl rfl rfl hm ?_;refine wz ?_;refine wb fun b11=>?_;refine ak ?_;refine UB (jT rfl rfl) rfl ?_;refine ak ?_;cases hF;exact ar b11 [0,6,5,4,1,2];rintro b10;refine wz ?_;refine UE ?_;obtain⟨l8,h5,hF⟩:=J hF;refine Wk.range (N:=50) (rs:=[]) (γ:=Unit) (X:=fun g=>(fun(r:List ((Int × Int) × (Uk))) (g:Unit)=>(match r,g with|l8,_=>⟨.ready,none,[ez b1 b0,.obj b0 (.map (l8.map (eM (fun p:Int × Int=>.agg #[.int .i64 p.1,.int .i64 p.2]) (fun x:Uk=>.agg #[.int .i64 x.1,.int .i64 x.2.1,.int .i64 x.2.2.1,.int .i64 x.2.2.2]))))]⟩:Rn)) l8 g) rfl rfl Tryz.func126 rfl rfl rfl ?_ (fun y=>by intro e; cases e) ?_
 clear hF;revert l8;intro r hF;intro t0 l2 r1 h6 h7;refine wz ?_;refine UE ?_;obtain⟨l10,h0,hF⟩:=J hF;refine ct (fun l10 (_:Unit)=>⟨(.exit 0),[],[.obj l2 (r1 .ready none),ez b1 b0,.obj b0 (.map (l10.map (eM (fun p:Int × Int=>.agg #[.int .i64 p.1,.int .i64 p.2]) (fun x:Uk=>.agg #[.int .i64 x.1,.int .i64 x.2.1,.int .i64 x.2.2.1,.int .i64 x.2.2.2]))))]⟩) l10 ?_ ?_;refine lo h0 () [0,3,4,5,6] (fun(v0,l14) _=>⟨.normal,((0,.func (.yield l2) #[] #[])::zJ a0 l1 c0 v0 []),[.obj l2 (r1 .ready none),jG a0 c0 l1 e0,gr ai r0 l1 e0,ez b1 b0,.obj b0 (.map (l14.map (eM (fun p:Int × Int=>.agg #[.int .i64 p.1,.int .i64 p.2]) (fun x:Uk=>.agg #[.int .i64 x.1,.int .i64 x.2.1,.int .i64 x.2.2.1,.int .i64 x.2.2.2]))))]⟩) ?_;clear hF h0;rintro⟨v0,l14⟩ ⟨⟩ r hF;unfold Lb at hF;refine wz ?_;refine UD ?_;rcases U hF with⟨h8,hF⟩|⟨h8,hF⟩;refine ak ?_;obtain⟨h9,hF⟩:=bJ hF;refine UO (k:=1) rfl (ay h9) ?_;rintro b2 o1 rfl;refine wz ?_;obtain⟨⟨l16,l17⟩,h10,hF⟩:=J hF;refine wl 2 0 3 0 h10 ?_;rintro⟨⟨a4,c4⟩,⟨a5,c5,e3⟩⟩;refine wa z31 fun b14=>?_;refine ak ?_;obtain⟨l3,h11,hF⟩:=J hF;refine xJ gn (fun m hm=>iA h11 m hm.cx (hm.q 1) (hm.no 1) (hm.q 2) (hm.no 2) (hm.dp (q:=3) rfl) (hm.dh (q:=3) rfl)) ?_;rintro⟨a3,c1,n0,e1,r3⟩;refine U6 (k:=0) (q:=1) (L:=l3) rfl (.inr (.inl ⟨_,rfl⟩)) rfl ?_;rintro rfl;refine wz ?_;refine UE ?_;obtain⟨l11,h1,hF⟩:=J hF;refine ct (fun l11 (_:Unit)=>⟨(.exit 2),((0,.func (.yield l2) #[] #[])::rG b2 o1 l1 c0 v0 []),(.obj l2 (r1 .ready none)::q9 b2 o1 l1 e0 ai r0 c0 [ez b1 b0,.obj b0 (.map (l11.map (eM (fun p:Int × Int=>.agg #[.int .i64 p.1,.int .i64 p.2]) (fun x:Uk=>.agg #[.int .i64 x.1,.int .i64 x.2.1,.int .i64 x.2.2.1,.int .i64 x.2.2.2]))))])⟩) l11 ?_ ?_;refine lo h1 () [7,6,9,8,0,1,10,11] (fun(v1,l15) _=>⟨.normal,((0,.func (.yield l2) #[] #[])::(3,aM v0)::rG b2 o1 l1 c0 v0 [(18,bu a3 l3 c1),(19,dF l3),(20,aM v1)]),(.obj l2 (r1 .ready none)::q9 b2 o1 l1 e0 ai r0 c0 (eL a3 c1 l3 e1 aY r3 [ez b1 b0,.obj b0 (.map (l15.map (eM (fun p:Int × Int=>.agg #[.int .i64 p.1,.int .i64 p.2]) (fun x:Uk=>.agg #[.int .i64 x.1,.int .i64 x.2.1,.int .i64 x.2.2.1,.int .i64 x.2.2.2]))))]))⟩) ?_;clear hF h1;rintro⟨v1,l15⟩ ⟨⟩ r hF;unfold La at hF;refine wz ?_;refine UD ?_;rcases U hF with⟨h12,hF⟩|⟨h12,hF⟩;refine ak ?_;obtain⟨h13,hF⟩:=bJ hF;refine UO (k:=4) rfl (ay h13) ?_;rintro b3 o2 rfl;refine wz ?_;obtain⟨l4,h14,hF⟩:=J hF;refine wl 1 0 6 0 h14 ?_;rintro⟨a2,c2⟩;refine ak ?_;refine UE ?_;obtain⟨l12,h2,hF⟩:=J hF;refine ct (fun l12 (_:Unit)=>⟨(.exit 4),((0,.func (.yield l2) #[] #[])::(3,aM v0)::rG b2 o1 l1 c0 v0 (uj b3 o2 l3 c1 v1 [])),(.obj l2 (r1 .ready none)::q9 b2 o1 l1 e0 ai r0 c0 (iY b3 o2 l3 e1 aY r3 c1 [ez b1 b0,.obj b0 (.map (l12.map (eM (fun p:Int × Int=>.agg #[.int .i64 p.1,.int .i64 p.2]) (fun x:Uk=>.agg #[.int .i64 x.1,.int .i64 x.2.1,.int .i64 x.2.2.1,.int .i64 x.2.2.2]))))]))⟩) l12 ?_ ?_;refine lo h2 () [2,0,3,4,5,1,7,6,8,9] (fun(v6,l5) _=>⟨.normal,((0,.func (.yield l2) #[] #[])::(3,aM v0)::(5,aM v1)::(6,bu a2 l4 c2)::rG b2 o1 l1 c0 v0 (uj b3 o2 l3 c1 v1 [(25,bu a2 l4 c2),(26,dF l4),(27,aM v6)])),(.obj l2 (r1 .ready none)::jx a2 c2 l4::q9 b2 o1 l1 e0 ai r0 c0 (iY b3 o2 l3 e1 aY r3 c1 [ez b1 b0,.obj b0 (.map (l5.map (eM (fun p:Int × Int=>.agg #[.int .i64 p.1,.int .i64 p.2]) (fun x:Uk=>.agg #[.int .i64 x.1,.int .i64 x.2.1,.int .i64 x.2.2.1,.int .i64 x.2.2.2]))))]))⟩) ?_;clear hF h2;rintro⟨v6,l5⟩ ⟨⟩ r hF;unfold KN at hF;refine wz ?_;refine UD ?_;rcases U hF with⟨h15,hF⟩|⟨h15,hF⟩;refine ak ?_;obtain⟨h16,hF⟩:=bJ hF;refine UO (k:=1) rfl (ay h16) ?_;rintro b5 o3 rfl;refine wz ?_;obtain⟨x3,h26,hF⟩:=J hF;refine ak ?_;obtain⟨h17,hF⟩:=aA hF;refine UB (aI rfl rfl (cb _ _ h17)) rfl ?_;obtain⟨h27,hF⟩:=bJ hF;refine wz ?_;obtain⟨x4,h28,hF⟩:=J hF;refine wz ?_;refine UB (cD rfl q7 rfl (cE zz rfl rfl rfl)) rfl ?_;obtain⟨l9,h3,hF⟩:=J hF;refine UQ (vP (k:=1) (k1:=0) (γA:=Nat) (GA:=(fun g:Nat=>(match g with|b4=>⟨.normal,[(3,ptr b1 0),(4,ptr b4 0)],(.obj l2 (r1 .ready none)::ez b1 b0::.obj b0 (.map (l5.map (eM (fun p:Int × Int=>.agg #[.int .i64 p.1,.int .i64 p.2]) (fun x:Uk=>.agg #[.int .i64 x.1,.int .i64 x.2.1,.int .i64 x.2.2.1,.int .i64 x.2.2.2]))))::fB b4 x3 x4 v0 v1::oM b5 o3 l4 c2 (q9 b2 o1 l1 e0 ai r0 c0 (iY b3 o2 l3 e1 aY r3 c1 [])))⟩:En))) (γ:=Unit) (G:=fun g=>(fun(r:List ((Int × Int) × (Uk))) (g:Unit)=>(match r,g with|l9,_=>⟨.normal,[],(.obj l2 (r1 .busy none)::ez b1 b0::.obj b0 (.map (l9.map (eM (fun p:Int × Int=>.agg #[.int .i64 p.1,.int .i64 p.2]) (fun x:Uk=>.agg #[.int .i64 x.1,.int .i64 x.2.1,.int .i64 x.2.2.1,.int .i64 x.2.2.2]))))::oM b5 o3 l4 c2 (q9 b2 o1 l1 e0 ai r0 c0 (iY b3 o2 l3 e1 aY r3 c1 [])))⟩:En)) l9 g) rfl rfl rfl h7 h6 rfl ?_ (fun _=>rfl) (fun _=>rfl) ?_ (fun y=>rfl)) gn rfl ?_
 clear hF h3;refine UG<|wa q7 fun b12=>?_;refine wz ?_;exact ae b12 (2::10::11::0::1::Vd 3 7);clear hF;revert l9;intro r hF;rintro b4;refine wz ?_;refine UB (eK rfl rfl (ff _ _)) rfl ?_;refine wz ?_;refine UB (eK rfl rfl (km _ _)) rfl<|UB (cD rfl Jh rfl (cE Gg rfl rfl rfl)) rfl<|wa Jh fun b6=>?_;refine ak ?_;obtain⟨⟨⟨y0,y1,y2,y3⟩,y4⟩,h18,hF⟩:=J hF;refine UB (Eu (q:=3) (xs:=l5) (k:=(mi x3 x4,ma x3 x4)) (vE:=(fun x:Uk=>.agg #[.int .i64 x.1,.int .i64 x.2.1,.int .i64 x.2.2.1,.int .i64 x.2.2.2])) (z0:=((0:Int),(0:Int),(0:Int),(0:Int))) Nb (J1 Iz bX.known bX.size bX.agg u3) z64 rfl rfl rfl rfl h18) rfl ?_;refine wz ?_;refine wa z64 fun b7=>?_;refine wz ?_;refine UD ?_;obtain⟨r4,h19,hF⟩:=J hF;refine ct (fun(v2,v3,v7,v8) (_:Unit)=>⟨.normal,((3,ptr b1 0)::qX b4 b6 [(6,ptr b7 0)]),(.obj l2 (r1 .busy none)::ez b1 b0::.obj b0 (.map (l5.map (eM (fun p:Int × Int=>.agg #[.int .i64 p.1,.int .i64 p.2]) (fun x:Uk=>.agg #[.int .i64 x.1,.int .i64 x.2.1,.int .i64 x.2.2.1,.int .i64 x.2.2.2]))))::fB b4 x3 x4 v0 v1::.obj b6 (.cells [.int .i64 (mi x3 x4),.int .i64 (ma x3 x4)] .own)::fB b7 v2 v3 v7 v8::oM b5 o3 l4 c2 (q9 b2 o1 l1 e0 ai r0 c0 (iY b3 o2 l3 e1 aY r3 c1 [])))⟩) r4 ?_ ?_;clear hF;revert r4;intro r hF;refine wz ?_;rcases U hF with⟨h20,hF⟩|⟨h20,hF⟩;refine wz ?_;refine UB (cD rfl z64 rfl (cE y7 rfl rfl rfl)) rfl ?_;refine wz ?_;cases hF;exact ae () (2::3::4::5::1::0::Vd 6 8);refine wz ?_;cases hF;exact ae () (2::3::4::5::1::0::Vd 6 8);clear h19;obtain⟨v2,v3,v7,v8⟩:=r4;rintro⟨⟩;refine UM<|UD ?_;obtain⟨r5,h21,hF⟩:=J hF;refine ct (fun(v4,v5) (_:Unit)=>⟨.normal,((3,ptr b1 0)::qX b4 b6 [(6,ptr b7 0)]),(.obj l2 (r1 .busy none)::ez b1 b0::.obj b0 (.map (l5.map (eM (fun p:Int × Int=>.agg #[.int .i64 p.1,.int .i64 p.2]) (fun x:Uk=>.agg #[.int .i64 x.1,.int .i64 x.2.1,.int .i64 x.2.2.1,.int .i64 x.2.2.2]))))::fB b4 x3 x4 v0 v1::.obj b6 (.cells [.int .i64 (mi x3 x4),.int .i64 (ma x3 x4)] .own)::fB b7 v2 v3 v4 v5::oM b5 o3 l4 c2 (q9 b2 o1 l1 e0 ai r0 c0 (iY b3 o2 l3 e1 aY r3 c1 [])))⟩) r5 ?_ ?_;clear hF;revert r5;intro r hF;refine wz ?_;rcases U hF with⟨h22,hF⟩|⟨h22,hF⟩;refine wz ?_;cases hF;exact ae () (Vd 0 14);refine wz ?_;cases hF;exact ae () (Vd 0 14);clear h21;obtain⟨v4,v5⟩:=r5;rintro⟨⟩;refine ak ?_;refine U8 (CS (q:=2) (xs:=l5) (k:=(mi x3 x4,ma x3 x4)) (v:=(v2,v3,v4,v5)) (vE:=(fun x:Uk=>.agg #[.int .i64 x.1,.int .i64 x.2.1,.int .i64 x.2.2.1,.int .i64 x.2.2.2])) Nb (J1 Iz bX.known bX.size bX.agg u3) rfl rfl rfl rfl) ?_;refine wz ?_;cases hF;exact ae () (0::1::2::Vd 6 8);rintro⟨⟩;refine dz ?_;cases hF;exact ae () [0,4,5,6,7,8,9,10,1,2];refine wz ?_;cases hF;exact ae () (0::Vd 2 8);rintro⟨⟩;refine ak ?_;cases hF;exact ae () [0,1,2,3,6,5,7,8];refine wz ?_;cases hF;exact ae () [0,1,2,3,6,7];rintro⟨⟩;refine ak ?_;cases hF;exact ae () [0,3,2,4,5];refine wz ?_;cases hF;exact ae () [0,3,4];rintro⟨⟩;refine At.be ?_;obtain rfl:=R2 hF;exact At.fin .nil fun m' hm=>⟨(),(UH [0,1,2] rfl rfl) m' hm⟩;rintro⟨⟩
 change At _ .normal _ _ _
 refine At.bn<|At.Eo<|Vk.seq hE ?_;refine wz ?_;refine At.Eo ?_;cases hF;exact Vk.Fe (sc rfl (sc rfl sn)) (UH [0,1] rfl rfl) (kN (b1,b0))
end Go.Proofs.YtmndpgfbkicndaaGreat
namespace Go.Ab
open Go
section
variable {E : Env} {j j1 : aU} {m m1 : Vj} {w w1 : Uw}
def Sim.KV (h:MR E j m w) (s:Sim E j { m with wl:=m.next} w j1 m1 w1) (g:Grown m m1) {b1:Nat} {k1:Blk} {cs:List Us} {tag:Tag} (hb:m.next<=b1) (hk:j1 b1=some k1) (ho:m1.get b1=some (.cells cs tag)) (hp:cs.all aS=true) {k2:Blk} {tag2:Tag} (hc2:k2.c=k1.c) (htg:∀(c:Array Us) (fz:Nat × Nat),pg k1 tag cs.length c fz->pg k2 tag2 cs.length c fz) :
  Sim E j m w (j.set m.next k2) (m.alloc (.cells cs tag2)) w1:=by
 have hn:j m.next=none:=h.mQ
 have hj1:j b1=none:=by
  cases e:j b1 with
  | none=>rfl
  | some k=>exact Sl (h.lt b1 k e).1 (by omega)
 have hfresh:w.heap.size<=k1.c:=by
  rcases s.fresh b1 k1 hk hj1 with hf|⟨b0,k0,a1,_,_,a4⟩
  exact hf
  have:=(h.lt b0 k0 a1).1; have:=g.wl; omega
 refine⟨.alloc m _,aU.oB k2 hn,?_,?_,s.size,?_,?_,?_,fun c hc _=>s.old h g c hc,s.calm⟩
 intro b k e e'
 by_cases hbm:b=m.next
 omega
 rw[aU.bY _ _ hbm,e'] at e; cases e
 ·have ha:=h.after s g;refine⟨fun b k e=>?_,fun b o k ho' e=>?_,fun b b' k k' e e' hl hl' hc=>?_,fun gl hgl=>?_⟩
  by_cases hbm:b=m.next
  subst hbm; rw[aU.cz] at e; cases e;exact⟨TV _,hc2 ▸ (s.mr.lt b1 k1 hk).2⟩
  rw[aU.bY _ _ hbm] at e;exact⟨Nat.lt_succ_of_lt (h.lt b k e).1,(ha.lt b k e).2⟩
  ·rw[Vj.aZ] at ho'
   by_cases hbm:b=m.next
   ·subst hbm; rw[aU.cz] at e; cases e;rw[R0 rfl] at ho'; cases ho';obtain⟨o',h1,h2⟩:=s.mr.obj b1 _ k1 ho hk;refine⟨o',hc2 ▸ h1,?_⟩;cases o' with
    | cells c ty fz =>
     refine⟨htg _ _ h2.1,fun i v hi=>?_⟩;obtain⟨v',h3,h4⟩:=h2.2 i v hi;have hpv:=Sb.1 hp v (Sa hi);have:=fR hpv h4;subst this;exact⟨_,h3,.aS hpv⟩
    | _=>exact h2.elim
   rw[RZ hbm] at ho';rw[aU.bY _ _ hbm] at e;obtain⟨o',h1,h2⟩:=ha.obj b o k ho' e;exact⟨o',h1,h2.mono (aU.oB k2 hn)⟩
  have old:∀{b k},j b=some k->(m.get b).isSome=true->k.c≠k1.c:=fun {b k} e hl hc=>by
   have hlt:=(h.lt b k e).1;have:=s.mr.inj b b1 k k1 (s.le b k e) hk (by rw[g.same b hlt]; exact hl) (by rw[ho]; rfl) hc
   omega
  by_cases hbm:b=m.next
  by_cases hbm':b'=m.next
  rw[hbm,hbm']
  subst hbm; rw[aU.cz] at e; cases e;rw[aU.bY _ _ hbm'] at e';rw[Vj.aZ,RZ hbm'] at hl';exact Sl (hc.symm.trans hc2) (old e' hl')
  by_cases hbm':b'=m.next
  subst hbm'; rw[aU.cz] at e'; cases e';rw[aU.bY _ _ hbm] at e;rw[Vj.aZ,RZ hbm] at hl;exact Sl (hc.trans hc2) (old e hl)
  rw[aU.bY _ _ hbm] at e;rw[aU.bY _ _ hbm'] at e';rw[Vj.aZ,RZ hbm] at hl;rw[Vj.aZ,RZ hbm'] at hl';exact h.inj b b' k k' e e' hl hl' hc
  have:=h.glob gl hgl;have hlt:=(h.lt gl _ this).1;rw[aU.bY _ _ (by omega)]; exact this
 intro b hb1 hb2 _;have:b=m.next:=by simp at hb2; omega
 subst this; exact⟨k2,aU.cz _ _ _⟩
 intro b hb _;rw[Vj.aZ,Uz]
 intro b k e e'
 by_cases hbm:b=m.next
 subst hbm; rw[aU.cz] at e; cases e;exact .inl (hc2 ▸ hfresh)
 rw[aU.bY _ _ hbm,e'] at e; cases e
end
namespace W
def qF {E:Env} {f:FuncId} {args:List Us} {m:Vj} {v:Us} {m':Vj} (h:GI E f args { m with wl:=m.next} fun v1 m1=>Grown m m1 /\
  ((bN v=true/\v1=v/\m'=m)\/∃b1 cs tag sz n,0<sz/\cs.length=n*sz/\n<=9223372036854775807/\v1 = .slice (some ⟨b1,0,none⟩) n n/\v = .slice (some ⟨m.next,0,none⟩) n n/\m.next<=b1/\b1<m1.next/\m1.get b1=some (.cells cs tag)/\(tag = .own\/tag = .more sz)/\cs.all aS=true/\m'=m.alloc (.cells cs (.more sz)))) (pr:Bool) {j:aU} {w:Uw} {args':List Us} (hm:MR E j m w) (hl:LR j args args'):gC E.P pr f args'.toArray w (jv E j m w v m'):=by
 refine lV (fun h=>by cases h) (h j w args' (MR.vj hm) hl) ?_
 rintro v' w' ⟨v1,m1,⟨hg,hc⟩,j',s,hv⟩;rcases hc with⟨hpv,rfl,rfl⟩|⟨b1,cs,tag,sz,n,hsz,hcl,hn,rfl,rfl,hb,hb1,ho,htag,hpl,rfl⟩
 exact⟨j,Sim.forget hm s hg,VR.DA hpv hv⟩
 ·cases hv with
  | slice hj hmo =>
   rename_i k1;refine⟨_,Sim.KV hm s hg hb hj ho hpl (k2:=⟨k1.c,some (sz,cs.length,cs.length)⟩) (tag2:=.more sz) rfl (fun c fz ht=>?_),.sliceM (k:=⟨k1.c,some (sz,cs.length,cs.length)⟩) (aU.cz _ _ _) rfl (by rw[hcl,Tj]) (by rw[hcl,Tj]) (R5 _) (R5 _)⟩
   rcases htag with rfl|rfl
   obtain⟨_,t2,rfl⟩:k1.more=none/\c.size=cs.length/\fz=(0,0):=ht;refine⟨by rw[t2],by rw[t2]; exact R5 _,rfl,hsz,?_⟩
   unfold iw;rw[t2,hcl,Nat.mul_comm]; exact Nat.mul_le_mul_left _ hn
   have:k1.more=some (sz,cs.length,c.size):=ht.1;rw[hmo] at this; cases this
  | sliceM hj hmo a1 a2 a3 a4 =>
   rename_i c' sz' na nc k1;refine⟨_,Sim.KV hm s hg hb hj ho hpl (k2:=k1) (tag2:=.more sz) rfl (fun c fz ht=>?_),.sliceM (k:=k1) (aU.cz _ _ _) hmo a1 a2 a3 a4⟩;rcases htag with rfl|rfl
   have:k1.more=none:=ht.1;rw[hmo] at this; cases this
   exact ht
end W
end Go.Ab
namespace Go.Proofs.YtmndpgfbkicndaaGreat
section
open Go Go.Ab Go.Ab.W
set_option maxRecDepth 10000
def E7 {m:Vj} {x b:Nat}:({ m with wl:=x}:Vj).get b=m.get b:=rfl
def CB {m:Vj} {x w c n:Nat} {a:Uo} {es:Un} (h:Rd m a c w n es):Rd { m with wl:=x} a c w n es:=h
def Ll {m:Vj} {x:Nat} {R:Ur} {L:Uj} {es:Un} (h:(bU ai R L es).P m):(bU ai R L es).P { m with wl:=x}:=h
attribute [local irreducible] Tm.at Trie.set Trie.get Vj.get Vj.set Vj.alloc Vj.ww Vj.kill
def sM (l:List fI):((l.map fi).flatten).length=l.length*4:=by rw[cO (w:=4) (fun e he=>by obtain⟨x,_,rfl⟩:=Te.1 he; rfl),Sj]
def EG {p q:Option Prim} {m0 m:Vj} {ps:List Pc} (h:Hp m0 m ps) {k nn:Nat} {a:Uo} {l:List fI} (hp:pk ps k=some (.sl a 4 nn (l.map fi))) (hok:sO l=true) (hlim:lim nn=true) :
    aD (Vn p q) 104 [.slice a nn nn,.func (.func 105) #[] #[]] m (fun v m'=>∃_:Unit,v = .tuple #[]/\Hp m0 m' (bT ps k (.sl a 4 nn ((l.mergeSort ei).map fi)))):=by
  rcases h.get hp with⟨rfl,e2,rfl,_⟩|⟨b,tg,rfl,hO⟩
  have hl:l = []:=TT.1 e2;subst hl;refine aD.cV (p:=⟨kW⟩) rfl (v:=.tuple #[]) (m':=m) rfl ⟨(),rfl,?_⟩;rw[List.mergeSort_nil,qb _ _ _ hp];exact h
  obtain⟨h1,h2,h3,h4,h5,h6,h7⟩:=hO;have hn:l.length=nn:=by simpa using h4
  subst hn;have hw:gH m 4 b l.length l.length=some ((l.map fi).flatten,tg):=by
    unfold gH;rcases h6 with rfl|rfl<;>simp only[h3]
    rw[R0 ⟨trivial,sM _⟩]
    rw[R0 ⟨trivial,sM _,trivial⟩]
  refine aD.cV (p:=⟨kW⟩) rfl (v:=.tuple #[]) (m':=m.set b (.cells ((l.mergeSort ei).map fi).flatten tg)) ?_ ⟨(),rfl,?_⟩
  show kW [.slice (some ⟨b,0,none⟩) l.length l.length,.func (.func 105) #[] #[]] m=_
  simp only[kW,hw,qy];rw[R0 ⟨⟨rfl,rfl⟩,hlim,hok⟩]
  refine h.write hp rfl rfl rfl rfl (.inr ⟨b,tg,rfl,h1,?_,?_,?_,?_,h6,h7⟩)
  rw[Vj.next_set]; exact h2
  rw[Vj.bD,R0 rfl]
  simp
  intro e he;obtain⟨x,_,rfl⟩:=Te.1 he
  rfl
def ly (r:List ((Int × Int) × fI)) (S:List Nat):List fI:=S.filterMap fun i=>(r[i]?).map (·.2)
def qh {r:List ((Int × Int) × fI)} {S:List Nat} {i:Nat} {e:(Int × Int) × fI} (h:r[i]? = some e):ly r (S++[i])=ly r S++[e.2]:=by
  unfold ly;rw[List.filterMap_append];simp[h]
def Ns:List fI->Uo->Uo
  | [],_=>none
  | _::_,a=>a
def vm {l:List fI} {x:fI} {a:Uo}:Ns (l++[x]) a=a:=by cases l<;>rfl
def Fv {r:List ((Int × Int) × fI)} {S:List Nat}:(ly r S).length<=S.length:=List.length_filterMap_le _ _
def Au (r:List ((Int × Int) × fI)):ly r (List.range r.length)=r.map (·.2):=by
  unfold ly;have:∀(r:List ((Int × Int) × fI)),(List.range r.length).filterMap (fun i=>(r[i]?).map (·.2))=r.map (·.2):=by
    intro r
    induction r with
    | nil=>rfl
    | cons x r ih =>
      rw[SA,List.range_succ_eq_map,List.filterMap_cons];simp only[Sr,Si,List.filterMap_map,Tk]
      congr 1
  exact this r
def D0 {r:List ((Int × Int) × fI)} {S:List Nat} (h:S.Perm (List.range r.length)):(ly r S).Perm (r.map (·.2)):=by
  rw[<-Au];exact h.filterMap _
def DL {l l':List fI} (h:l.Perm l') (ho:sO l'=true):sO l=true:=by
  unfold sO at *;simp only[R4,Sf,Sb] at *;exact⟨fun x hx=>ho.1 x (h.mem_iff.1 hx),(h.map _).nodup_iff.2 ho.2⟩
def Dh {l l':List fI} (h:l.Perm l') (ho:sO l'=true):l.mergeSort ei=l'.mergeSort ei:=by
  obtain⟨h1,h2⟩:=rV ho;have tr:∀a b c:fI,ei a b=true->ei b c=true->ei a c=true:=by
    intro a b c; unfold ei; simp only[Sf]; omega
  have to:∀a b:fI,(ei a b || ei b a)=true:=by
    intro a b; unfold ei; simp only[Th,Sf]; omega
  refine List.Perm.eq_of_pairwise (le:=fun a b=>ei a b=true) ?_ (List.pairwise_mergeSort tr to _) (List.pairwise_mergeSort tr to _) ((T5 _ _).trans (h.trans (T5 _ _).symm));intro a b ha hb e1 e2;have ha':=(h.mem_iff.1 ((T5 _ _).mem_iff.1 ha));have hb':=(T5 _ _).mem_iff.1 hb;refine nA h2 ha' hb' ?_;unfold ei at e1 e2;simp only[Sf] at e1 e2;exact SO (by simp only; omega) (by simp only; omega)
def pK (x:fI):∀l:List fI,(DB x l).Perm (x::l)
  | []=>.refl _
  | y::l=>by
    unfold DB
    split
    exact .refl _
    exact((pK x l).cons y).trans (.swap x y l)
def mA:∀l:List fI,(sR l).Perm l
  | []=>.refl _
  | x::l=>(pK x _).trans ((mA l).cons x)
def tQ (a b c:fI):ei a b=true->ei b c=true->ei a c=true:=by
  unfold ei; simp only[Sf]; omega
def Ak {a b:fI} (h:ei a b=false):ei b a=true:=by
  unfold ei at *; simp only[Sf,decide_eq_false_iff_not] at *; omega
def qp (x:fI):∀{l:List fI},l.Pairwise (fun a b=>ei a b=true)->(DB x l).Pairwise (fun a b=>ei a b=true)
  | [],_=>List.pairwise_singleton _ _
  | y::l,h=>by
    obtain⟨h1,h2⟩:=Sk.1 h;unfold DB
    split
    rename_i hc;refine Sk.2 ⟨fun z hz=>?_,h⟩;rcases Sp.1 hz with rfl|hz
    exact hc
    exact tQ _ _ _ hc (h1 z hz)
    rename_i hc;refine Sk.2 ⟨fun z hz=>?_,qp x h2⟩;rcases Sp.1 ((pK x l).mem_iff.1 hz) with rfl|hz
    exact Ak (by simpa using hc)
    exact h1 z hz
def nZ:∀l:List fI,(sR l).Pairwise (fun a b=>ei a b=true)
  | []=>.nil
  | x::l=>qp x (nZ l)
def Ec {l:List fI} (ho:sO l=true):sR l=l.mergeSort ei:=by
  obtain⟨h1,h2⟩:=rV ho;refine List.Perm.eq_of_pairwise (le:=fun a b=>ei a b=true) ?_ (nZ l) (List.pairwise_mergeSort tQ (fun a b=>by unfold ei; simp only[Th,Sf]; omega) _) ((mA l).trans (T5 _ _).symm)
  intro a b ha hb e1 e2;have ha':=(mA l).mem_iff.1 ha;have hb':=(T5 _ _).mem_iff.1 hb;refine nA h2 ha' hb' ?_;unfold ei at e1 e2;simp only[Sf] at e1 e2;exact SO (by simp only; omega) (by simp only; omega)
abbrev OT:(Int × Int) × fI->Us × Us:=eM (fun p:Int × Int=>.agg #[.int .i64 p.1,.int .i64 p.2]) (fun x:Uk=>.agg #[.int .i64 x.1,.int .i64 x.2.1,.int .i64 x.2.2.1,.int .i64 x.2.2.2])
def yp {E:Env} {m0 m:Vj} {t:Tm} {fs:Fs} {ps:List Pc} {ty:Ut} {x:Uu} {v:Us} {ag:Bool} {sz b o k:Nat} {cs:List Us} {tg:Tag} (ht:TyI E.P ty ag sz) (hx:ev E fs x=some (ptr b o)) (hp:pk ps k=some (.obj b (.cells cs tg))) (hv:xA ag sz cs o=some v) (hf:Fr t fs) (hm:Hp m0 m ps):fm E t m (.load ty x)=some (v,m):=by
  have h1:=hf.ev hx;have h2:=rl (P:=E.P) ht (hm.get hp).2.2 hv
  show(match aw E t x with|some p=>(dZ E.P ty p m).map fun v=>(v,m) | none=>none)=_
  rw[h1]
  show(dZ E.P ty _ m).map _=_
  rw[h2]; rfl
def N7 {p q:Option Prim}:(Vn p q).P.underlying 57=some (.slice 64):=by kernel_rfl
def KW {p q:Option Prim}:SlT (Vn p q).P 57 64 4:=SlT.of (by kernel_rfl)
section
variable {q : Option Prim}
set_option maxHeartbeats 4000000
def NB {m:Vj} {r:List ((Int × Int) × fI)} {b b2:Nat} (hlim:lim r.length=true) (hok:sO (r.map (·.2))=true) {R:Us->Vj->Prop}
    (hR:∀(a:Uo) (m':Vj),(r = []->a=none)->Hp m m' [.sl a 4 r.length ((((r.map (·.2)).mergeSort ei)).map fi)]->R (.slice a r.length r.length) m') :
    Vk (Vn none none) 66 65 none (OV 4 (mc Tryz.f65)) (jo (Vn none none) [.tmp 2] R) m [(3,ptr b 0),(8,.slice none 0 0)] [.obj b (.cells [.map (some b2)] .own),.obj b2 (.map (r.map OT))]:=by
  refine Vk.mapRange (E:=Vn none none) rK (fun h=>h) (γ:=Uo) (kt:=123) (et:=64) ⟨rfl,rfl⟩ ⟨rfl,rfl,rfl⟩ Nb ⟨rfl,rfl,rfl⟩ ⟨rfl,rfl,rfl⟩ ⟨rfl,rfl,rfl⟩ rfl (by decide) (by decide) (bm:=b2) (k:=1) (es:=r.map OT)
    (fun t m' hf hm=>yp (k:=0) KD rfl rfl rfl hf hm) rfl
    (fun bi S a=>([(8,.slice (Ns (ly r S) a) (ly r S).length (ly r S).length),(54,ptr bi 0)],[.sl (Ns (ly r S) a) 4 (ly r S).length ((ly r S).map fi)]))
    (fun bi S g=>rfl) (fun bi S g p hp=>by rw[Sh.1 hp]; exact⟨rfl,fun b hb=>.inl ⟨rfl,Pc.wR rfl hb⟩⟩) (fun _=>none) (fun bi=>⟨sc rfl (sc rfl sn),fun m1=>U9 4 rfl⟩) ?_ ?_
  intro bi m1 S i e a hS hSl hi he;rw[Sj] at hSl;rw[SM] at he;obtain⟨e,he0,rfl⟩:=T6.1 he;clear he;have he:=he0;have hn:(ly r (S++[i])).length<=r.length:=by
    refine Sv Fv ?_;have hnd:(S++[i]).Nodup:=List.nodup_append.2 ⟨hS,TK.2 ⟨List.not_mem_nil,List.nodup_nil⟩,fun x hx y hy=>by rw[Sh.1 hy]; exact fun e=>hi (e ▸ hx)⟩
    have hsub:(S++[i]) ⊆ List.range r.length:=fun x hx=>by
      rw[TS];rcases Sm.1 hx with hx|hx
      exact hSl x hx
      rw[Sh.1 hx]; exact(Se.1 he).1
    simpa using hnd.length_le_of_subset hsub
  have hl2:lim (ly r S++[e.2]).length=true:=by
    rw[<-qh he];exact Nat.ble_eq_true_of_le (Sv hn (ov hlim))
  refine UB (Dz rfl rfl) rfl ?_;refine UQ (jR z64 rfl) gn rfl fun b6=>?_;refine U8 (dI (k:=0) AN rfl rfl rfl rfl rfl) ?_;refine UP (Q:=fun _=>_) ?_
  show Wk (Vn none none) 66 65 none _ _ m1 _ _
  refine UG ?_;refine UB (aK rfl) rfl ?_;refine UB (aC (k:=0) AN rfl rfl rfl) rfl ?_;refine UQ (cm (es:=([e.2]:List fI).map fi) KW rfl (ck KW z64 rfl rfl) rfl rfl) gn rfl fun b7=>?_;refine UQ (nV (k:=2) (k2:=0) (xs:=ly r S) (ys:=[e.2]) (zZ (oO .i64) (zZ (oO .i64) (zZ (oO .i64) (oO .i64)))) KW ⟨_,N7⟩ rfl rfl rfl (.arr _ _ _ _ _) hl2) gn rfl fun a8=>?_;refine UB (bM rfl) rfl ?_;refine UP (Q:=fun _=>_) ?_;intro t' m' hf hm;refine⟨rfl,a8,?_,?_⟩
  rw[qh he,vm];exact hf.sub (sc rfl (sc rfl sn))
  rw[qh he,vm];exact(UH [2] rfl rfl) m' hm
  intro bi S a hS;rw[Sj] at hS;have hp:=D0 hS;have hlen:(ly r S).length=r.length:=by rw[hp.length_eq,Sj]
  refine Vk.of rK ?_;refine UD ?_;refine UG ?_;refine UB (aK rfl) rfl ?_;refine UQ (kD (α:=Unit) (V:=fun _=>.tuple #[]) (N:=fun _=>_) rfl rfl fun m' hm=>EG (k:=0) (l:=ly r S) hm rfl (DL hp hok) (by rw[hlen]; exact hlim)) gn rfl fun _=>?_
  refine UP ?_;refine UM ?_;refine UD ?_;refine UG ?_;refine UB (aK rfl) rfl ?_;refine UB (bM rfl) rfl ?_;refine UP ?_;refine UM ?_;refine Wk.ret ?_;refine UW (.tmp rfl .nil) fun m' hm=>?_;rw[hlen,Dh hp hok] at hm;rw[hlen];exact hR _ m' (fun h=>by subst h; rw[SG.1 hlen]; rfl) ((UH [0] rfl rfl) m' hm)
end
abbrev vR:Int × Int->List Us:=eP (eI .i64) (eI .i64)
abbrev Cx:=Ul × Uj
def p5 (m:Vj) (v:Us) (x:Cx):Prop :=
  ∃a c a' c' R es,v = .agg #[.slice a x.1.length c,.slice a' x.2.length c']/\Rd m a c 2 x.1.length (x.1.map vR)/\Rd m a' c' 2 x.2.length es/\(bU ai R x.2 es).P m
def KR:∀x y:Int,eI .i64 x=eI .i64 y->x=y:=fun x y h=>by
  have:=Tp h;injection this
def Ou:∀x y:Int × Int,vR x=vR y->x=y:=fun x y h=>by
  have h1:=Tp h;have h2:=Tp (List.tail_eq_of_cons_eq h);injection h1 with _ h1;injection h2 with _ h2;exact SO h1 h2
def MG:yi ai:=Qu (OL KR) (QQ (OL KR))
def p5.uniq {m:Vj} {v:Us} {x y:Cx} (h:p5 m v x) (h':p5 m v y):x=y:=by
  obtain⟨a,c,b,d,R,es,rfl,h1,h2,h3⟩:=h;obtain⟨a',c',b',d',R',es',e,h1',h2',h3'⟩:=h';injection e with e;injection e with e;have e1:=Tp e;have e2:=Tp (List.tail_eq_of_cons_eq e);injection e1 with e3 e4 e5;injection e2 with e6 e7 e8;subst e3 e6;have x1:=vS Ou h1 h1' e4;have x2:=uO h2 h2' e7;subst x2;exact SO x1 (h3.1.uniq MG h3'.1)
def mT (m:Vj) (l:List fI):Us × Vj:=if l = [] then(.slice none 0 0,m) else(.slice (some ⟨m.next,0,none⟩) l.length l.length,m.alloc (.cells (l.map fi).flatten (.more 4)))
open Classical in
noncomputable def lT (args:List Us) (m:Vj):Option (Us × Vj) :=
  match args with
  | [v]=>if h:∃l,∃x:Cx,p5 m v x/\JG 0 x.1 x.2=some l then some (mT m (Classical.choose h)) else none
  | _=>none
noncomputable def lX:Prim:=⟨lT⟩
open Classical in
def uu {m m':Vj} {v r:Us} (h:lT [v] m=some (r,m')):∃x:Cx,∃l,p5 m v x/\JG 0 x.1 x.2=some l/\mT m l=(r,m'):=by
  change dite _ _ _=_ at h
  by_cases hx:∃l,∃x:Cx,p5 m v x/\JG 0 x.1 x.2=some l
  rw[dif_pos hx] at h;obtain⟨x,h1,h2⟩:=S5 hx;exact⟨x,_,h1,h2,R2 h⟩
  rw[dif_neg hx] at h; cases h
open Classical in
def zY {m:Vj} {v:Us} {x:Cx} {l:List fI} (h:p5 m v x) (hF:JG 0 x.1 x.2=some l):lT [v] m=some (mT m l):=by
  have hx:∃l,∃x:Cx,p5 m v x/\JG 0 x.1 x.2=some l:=⟨l,x,h,hF⟩
  change dite _ _ _=_
  rw[dif_pos hx];obtain⟨y,h1,h2⟩:=S5 hx;have e1:=h1.uniq h;subst e1;rw[hF] at h2;rw[<-R2 h2]
def wV {args:List Us} {m m':Vj} {v:Us} (h:lT args m=some (v,m')) (pr:Bool) {j:aU} {w:Uw} {args':List Us} (hm:MR (Vn none none) j m w) (hl:LR j args args') :
    gC (Vn none none).P pr 65 args'.toArray w (jv (Vn none none) j m w v m'):=by
  have ha:∃v,args = [v]:=by
    unfold lT at h
    split at h
    exact⟨_,rfl⟩
    cases h
  obtain⟨va,rfl⟩:=ha;obtain⟨⟨l1,l5⟩,l,⟨a,c,a',c',R,es,rfl,h1,h2,h3⟩,hF,he⟩:=uu h;simp only at h1 h2 h3 hF;unfold JG at hF;obtain⟨r,hFA,hF⟩:=J hF;obtain⟨hc,hF⟩:=aA hF;rw[R4] at hc;have hl':=R2 hF;subst hl';rw[Ec hc.1] at he;have hh1:Rd { m with wl:=m.next} a c 2 l1.length (l1.map vR):=CB h1
  have hh2:Rd { m with wl:=m.next} a' c' 2 l5.length es:=CB h2
  have hh3:(bU ai R l5 es).P { m with wl:=m.next}:=Ll h3
  refine qF (zl (E:=Vn none none) (c:=mc Tryz.f65) (m0:={ m with wl:=m.next}) (m:={ m with wl:=m.next}) (N:=66) (rs:=[.tmp 2]) (ps:=[.gen (bU ai R l5 es),.rd a' c' 2 l5.length es,.rd a c 2 l1.length (l1.map vR)]) rK Tryz.func65 rfl rfl rfl ((((UJ _).bl bP hh1).bl (bC bP) hh2).ee (bC (bC bP)) hh3) ?_) pr hm hl
  refine JI rK 100000 l1 l5 a c a' c' R es r hFA _ hh1 hh2 hh3 fun g=>?_;refine NB (by simpa using hc.2) hc.1 fun a6 m1 ha6 hm1=>?_
  have hn0:({ m with wl:=m.next}:Vj).next=m.next:=rfl
  refine⟨⟨hm1.ext.next,fun b hb=>(hm1.ext.same b hb).trans E7,by have:=hm1.ext.wl; rw[hn0] at this; exact Sv (T8 (Nat.min_self _).symm) this⟩,?_⟩
  have hlen:((r.map (·.2)).mergeSort ei).length=r.length:=by rw[List.length_mergeSort,Sj]
  rcases hm1.get (k:=0) rfl with⟨e3,e2,rfl,_⟩|⟨b,tg,rfl,g1,g2,g3,g4,g5,g6,g7⟩
  have e4:=TT.1 e2;rw[e4] at he;unfold mT at he;rw[R0 rfl] at he;cases he;exact .inl ⟨rfl,by rw[e3],rfl⟩
  have hr:r≠[]:=fun e=>by cases ha6 e
  have hs:(r.map (·.2)).mergeSort ei≠[]:=fun e=>hr (TT.1 (SG.1 (by rw[<-List.length_mergeSort (le:=ei),e]; rfl)))
  unfold mT at he;rw[RZ hs,hlen] at he;cases he;exact .inr ⟨b,_,tg,4,r.length,by decide,by rw[sM,hlen],Sv (ov (by simpa using hc.2)) (by decide),rfl,rfl,g1,g2,g3,g6,ou _,rfl⟩
def pC:EnvOk (Vn (some lX) none):=sX (E:=Vn none none) rK (pr:=(Vn (some lX) none).cV) fun f P hp=>by
  by_cases e:f=65
  subst e;have hp':some lX=some P:=hp;cases hp';exact .inr fun args m v m' h j w args' hm hl=>wV h _ hm hl
  refine .inl ?_;have:(Vn (some lX) none).cV f=(Vn none none).cV f:=by
    show(if f=65 then _ else _)=(if f=65 then _ else _)
    rw[RZ e,RZ e]
  rw[<-this]; exact hp
def H5 {q:Option Prim} (n:Nat) (l1:Ul) (l5:Uj) (a2:Uo) (c3:Nat) (a6:Uo) (c7:Nat) (rr8:Ur) (es9:Un) (r:List fI) (hF:JG n l1 l5=some r) (m:Vj) (h4:Rd m a2 c3 2 l1.length (l1.map vR)) (h10:Rd m a6 c7 2 l5.length es9) (h11:(bU ai rr8 l5 es9).P m) :
    aD (Vn (some lX) q) 65 [.agg #[.slice a2 l1.length c3,.slice a6 l5.length c7]] m (fun v m'=>∃x:Uo × Nat,v = .slice x.1 x.2 x.2/\Hp m m' [.sl x.1 4 x.2 (r.map (eP (eI .i64) (eP (eI .i64) (eP (eI .i64) (eI .i64)))))]):=by
  have hrun:=zY (x:=(l1,l5)) ⟨a2,c3,a6,c7,rr8,es9,rfl,h4,h10,h11⟩ hF;unfold mT at hrun
  by_cases hr:r = []
  rw[R0 hr] at hrun;refine aD.cV (p:=lX) rfl hrun ⟨(none,0),rfl,?_⟩;subst hr;exact(U9 4 rfl) m (UJ m)
  rw[RZ hr] at hrun;refine aD.cV (p:=lX) rfl hrun ⟨(some ⟨m.next,0,none⟩,r.length),rfl,?_⟩
  refine(UJ m).cons (by rw[Vj.next_alloc]; exact Nat.le_succ _) ((Ext.refl m).alloc _) (fun b hlt=>by rw[Vj.aZ,Uz]) (.inr ⟨m.next,.more 4,rfl,R5 _,by rw[Vj.next_alloc]; exact TV _,by rw[Vj.aZ,R0 rfl],by simp,fun e he=>?_,.inr rfl,by decide⟩) (fun b' h'=>?_)
  obtain⟨x,_,rfl⟩:=Te.1 he
  rfl
  cases h'; exact R5 _
end
section
open Go Go.Ab Go.Ab.W
set_option maxRecDepth 10000
set_option maxHeartbeats 4000000
attribute [local irreducible] Wo Wk At Wn Od Ox bp bZ
attribute [local irreducible] Tm.at Trie.set Trie.get Vj.get Vj.set Vj.alloc Vj.ww Vj.kill
variable {p q : Option Prim}
def gO:∀b o,aF (Vn p q).P 26 (ptr b o) 0=some (ptr b (o+0)):=fun _ _=>by kernel_rfl
instance:FaC (Vn p q).P 26 0 0:=⟨gO⟩
def p8:TyI (Vn p q).P 23 false 1:=⟨by kernel_rfl,by kernel_rfl,by kernel_rfl⟩
instance:TyC (Vn p q).P 23 false 1:=⟨p8⟩
def NV:(Vn p q).P.underlying 23=some (.slice 38):=by kernel_rfl
instance:UsC (Vn p q).P 23 38:=⟨NV⟩
def sB:SlT (Vn p q).P 23 38 2:=SlT.of (by kernel_rfl)
instance:SlC (Vn p q).P 23 38 2:=⟨sB⟩
def bQ:TyI (Vn p q).P 38 true 2:=⟨by kernel_rfl,by kernel_rfl,by kernel_rfl⟩
instance:TyC (Vn p q).P 38 true 2:=⟨bQ⟩
def iH:bz (Vn p q).P 38=some (.agg #[.int .i64 0,.int .i64 0]):=by kernel_rfl
def dq:∀b o,aF (Vn p q).P 38 (ptr b o) 0=some (ptr b (o+0)):=fun _ _=>by kernel_rfl
instance:FaC (Vn p q).P 38 0 0:=⟨dq⟩
def cF:∀b o,aF (Vn p q).P 38 (ptr b o) 1=some (ptr b (o+1)):=fun _ _=>by kernel_rfl
instance:FaC (Vn p q).P 38 1 1:=⟨cF⟩
def BX:G1 (Vn p q).P 38 3 3 .i64 .i64=true:=by kernel_rfl
def Om:(Vn p q).P.underlying 99=some (.map 38 4):=by kernel_rfl
def z4:bz (Vn p q).P 4=some (.bool false):=by kernel_rfl
def Rc:bz (Vn p q).P 101=some (.nilFunc):=by kernel_rfl
def Pf:TyI (Vn p q).P 101 false 1:=⟨by kernel_rfl,by kernel_rfl,by kernel_rfl⟩
instance:TyC (Vn p q).P 101 false 1:=⟨Pf⟩
def xZ:BdT (Vn p q).P 38 (.agg #[.int .i64 0,.int .i64 0]) [(0,1),(1,1)]:=.mk' (by kernel_rfl) (by kernel_rfl)
def QJ:(Vn p q).P.underlying 41=some (.slice 38):=by kernel_rfl
instance:UsC (Vn p q).P 41 38:=⟨QJ⟩
def CG:SlT (Vn p q).P 41 38 2:=SlT.of (by kernel_rfl)
instance:SlC (Vn p q).P 41 38 2:=⟨CG⟩
def z3:bz (Vn p q).P 3=some (.int .i64 0):=by kernel_rfl
def On:TyI (Vn p q).P 41 false 1:=⟨by kernel_rfl,by kernel_rfl,by kernel_rfl⟩
instance:TyC (Vn p q).P 41 false 1:=⟨On⟩
def z159:bz (Vn p q).P 159=some (.agg #[.int .i64 0,.int .i64 0,.int .i64 0,.int .i64 0,.int .i64 0]):=by kernel_rfl
def vq:BdT (Vn p q).P 159 (.agg #[.int .i64 0,.int .i64 0,.int .i64 0,.int .i64 0,.int .i64 0]) [(0,1),(1,2),(3,2)]:=.mk' (by kernel_rfl) (by kernel_rfl)
def Ol:TyI (Vn p q).P 159 true 5:=⟨by kernel_rfl,by kernel_rfl,by kernel_rfl⟩
instance:TyC (Vn p q).P 159 true 5:=⟨Ol⟩
def fD:∀b o,aF (Vn p q).P 159 (ptr b o) 1=some (ptr b (o+1)):=fun _ _=>by kernel_rfl
instance:FaC (Vn p q).P 159 1 1:=⟨fD⟩
def gV:∀b o,aF (Vn p q).P 159 (ptr b o) 2=some (ptr b (o+3)):=fun _ _=>by kernel_rfl
instance:FaC (Vn p q).P 159 2 3:=⟨gV⟩
def A7:∀(x0 y0:Int) (x1 y1:Int),j5 (Vn p q).P Op.maxDepth 38 (.agg #[aM x0,aM x1]) (.agg #[aM y0,aM y1])=some (decide (x0=y0) && decide (x1=y1)):=fun x0 y0 x1 y1=>Le BX x0 y0 x1 y1
def Bc:(Vn p q).P.eqGuardType (Vn p q).P.depth 38=false:=by kernel_rfl
def pA:∀b o,aF (Vn p q).P 159 (ptr b o) 0=some (ptr b (o+0)):=fun _ _=>by kernel_rfl
instance:FaC (Vn p q).P 159 0 0:=⟨pA⟩
def Q1:bz (Vn p q).P 176=some (.agg #[.int .i64 0,.int .i64 0,.int .i64 0,.int .i64 0,.int .i64 0,.int .i64 0,.int .i64 0,.int .i64 0]):=by kernel_rfl
def O8:BdT (Vn p q).P 176 (.agg #[.int .i64 0,.int .i64 0,.int .i64 0,.int .i64 0,.int .i64 0,.int .i64 0,.int .i64 0,.int .i64 0]) [(0,2),(2,2),(4,2),(6,2)]:=.mk' (by kernel_rfl) (by kernel_rfl)
def zU:ArT (Vn p q).P 176 38 4 2:=⟨by kernel_rfl,by kernel_rfl,by kernel_rfl⟩
instance:ArC (Vn p q).P 176 38 4 2:=⟨zU⟩
def u4:(Vn p q).P.underlying 4=some (.bool):=by kernel_rfl
def Qg:bz (Vn p q).P 133=some (.map none):=by kernel_rfl
def OP:TyI (Vn p q).P 133 false 1:=⟨by kernel_rfl,by kernel_rfl,by kernel_rfl⟩
instance:TyC (Vn p q).P 133 false 1:=⟨OP⟩
def PI:(Vn p q).P.underlying 133=some (.map 123 4):=by kernel_rfl
def QH:bz (Vn p q).P 134=some (.slice none 0 0):=by kernel_rfl
def PO:TyI (Vn p q).P 134 false 1:=⟨by kernel_rfl,by kernel_rfl,by kernel_rfl⟩
instance:TyC (Vn p q).P 134 false 1:=⟨PO⟩
def PC:(Vn p q).P.underlying 134=some (.slice 122):=by kernel_rfl
instance:UsC (Vn p q).P 134 122:=⟨PC⟩
def IS:SlT (Vn p q).P 134 122 4:=SlT.of (by kernel_rfl)
instance:SlC (Vn p q).P 134 122 4:=⟨IS⟩
def z138:bz (Vn p q).P 138=some (.nilFunc):=by kernel_rfl
def FU:TyI (Vn p q).P 138 false 1:=⟨by kernel_rfl,by kernel_rfl,by kernel_rfl⟩
instance:TyC (Vn p q).P 138 false 1:=⟨FU⟩
def xa:∀b o,aF (Vn p q).P 122 (ptr b o) 3=some (ptr b (o+3)):=fun _ _=>by kernel_rfl
instance:FaC (Vn p q).P 122 3 3:=⟨xa⟩
def RD:bz (Vn p q).P 92=some (.map none):=by kernel_rfl
def AW:TyI (Vn p q).P 92 false 1:=⟨by kernel_rfl,by kernel_rfl,by kernel_rfl⟩
instance:TyC (Vn p q).P 92 false 1:=⟨AW⟩
def z93:bz (Vn p q).P 93=some (.nilFunc):=by kernel_rfl
def HW:TyI (Vn p q).P 93 false 1:=⟨by kernel_rfl,by kernel_rfl,by kernel_rfl⟩
instance:TyC (Vn p q).P 93 false 1:=⟨HW⟩
def qd:∀b o,aF (Vn p q).P 64 (ptr b o) 0=some (ptr b (o+0)):=fun _ _=>by kernel_rfl
instance:FaC (Vn p q).P 64 0 0:=⟨qd⟩
def qm:∀b o,aF (Vn p q).P 64 (ptr b o) 1=some (ptr b (o+1)):=fun _ _=>by kernel_rfl
instance:FaC (Vn p q).P 64 1 1:=⟨qm⟩
def z67:bz (Vn p q).P 67=some (.agg #[.int .i64 0,.int .i64 0]):=by kernel_rfl
def Qn:BdT (Vn p q).P 67 (.agg #[.int .i64 0,.int .i64 0]) [(0,1),(1,1)]:=.mk' (by kernel_rfl) (by kernel_rfl)
def LY:ArT (Vn p q).P 67 3 2 1:=⟨by kernel_rfl,by kernel_rfl,by kernel_rfl⟩
instance:ArC (Vn p q).P 67 3 2 1:=⟨LY⟩
def NL:(Vn p q).P.underlying 92=some (.map 3 3):=by kernel_rfl
def HY {n x1 x2 r} (hF:N4 n x1 x2=some r) (m):
 aD (Vn p q) 56 [fj x1 x2] m (Vi m (.bool r)):=by
 unfold N4 at hF;refine cw Tryz.func56 (UJ m) ?_;refine wz ?_;refine wb fun b3=>?_;refine ak ?_;refine UB (eK rfl rfl (ff _ _)) rfl ?_;refine wz ?_;rcases U hF with⟨h4,hF⟩|⟨h4,hF⟩;refine ak ?_;cases hF;exact ar () [];refine wz ?_;refine US (eK rfl rfl (km _ _)) (gg rfl rfl (hZ h4)) rfl ?_;refine ak ?_;cases hF;exact ar () []
def LV {n l1 a2 c3 r} (hF:NN n l1=some r) (m) (h4:lz m a2 c3 l1):
 aD (Vn p q) 77 [bu a2 l1 c3] m (Vi m (.int .i64 r)):=by
 unfold NN at hF;refine cw Tryz.func77 (UN (UJ m) bP h4) ?_;refine ak ?_;rcases U hF with⟨h6,hF⟩|⟨h6,hF⟩;refine U1 rfl h6 ?_;cases hF;refine ak ?_;obtain⟨h7,hF⟩:=bJ hF;refine UO (k:=0) rfl (ay h7) ?_;rintro b8 o9 rfl;refine wz ?_;obtain⟨x10,h11,hF⟩:=J hF;refine ak ?_;refine UE ?_;obtain⟨v22,h27,hF⟩:=J hF;refine ct (fun v22 (_:Unit)=>⟨(.exit 0),[(3,aM v22)],[]⟩) v22 ?_ ?_;refine lo h27 () [0,1] (fun(v14,v15) _=>⟨.normal,[(0,nF b8 o9 l1 c3),(3,aM v14),(4,aM v15)],(oM b8 o9 l1 c3 [])⟩) ?_;clear hF h27;rintro⟨v14,v15⟩ ⟨⟩ r hF;unfold zG at hF;refine wz ?_;rcases U hF with⟨h23,hF⟩|⟨h23,hF⟩;refine ak ?_;obtain⟨h24,hF⟩:=bJ hF;refine wz ?_;obtain⟨x25,h26,hF⟩:=J hF;refine wz ?_;refine UB (eK rfl rfl (ff _ _)) rfl ?_;refine ak ?_;cases hF;exact ae () [0,1];refine wz ?_;cases hF;exact ae () [];rintro⟨⟩;refine dz ?_;obtain rfl:=R2 hF;exact ar () []
def Nt {n l1 a2 c3 r} (hF:NP n l1=some r) (m) (h4:lz m a2 c3 l1):
 aD (Vn p q) 78 [bu a2 l1 c3] m (Vi m (.int .i64 r)):=by
 unfold NP at hF;refine cw Tryz.func78 (UN (UJ m) bP h4) ?_;refine ak ?_;rcases U hF with⟨h6,hF⟩|⟨h6,hF⟩;refine U1 rfl h6 ?_;cases hF;refine ak ?_;obtain⟨h7,hF⟩:=bJ hF;refine UO (k:=0) rfl (ay h7) ?_;rintro b8 o9 rfl;refine wz ?_;obtain⟨x10,h11,hF⟩:=J hF;refine ak ?_;refine UE ?_;obtain⟨v22,h27,hF⟩:=J hF;refine ct (fun v22 (_:Unit)=>⟨(.exit 0),[(3,aM v22)],[]⟩) v22 ?_ ?_;refine lo h27 () [0,1] (fun(v14,v15) _=>⟨.normal,[(0,nF b8 o9 l1 c3),(3,aM v14),(4,aM v15)],(oM b8 o9 l1 c3 [])⟩) ?_;clear hF h27;rintro⟨v14,v15⟩ ⟨⟩ r hF;unfold yJ at hF;refine wz ?_;rcases U hF with⟨h23,hF⟩|⟨h23,hF⟩;refine ak ?_;obtain⟨h24,hF⟩:=bJ hF;refine wz ?_;obtain⟨x25,h26,hF⟩:=J hF;refine wz ?_;refine UB (eK rfl rfl (km _ _)) rfl ?_;refine ak ?_;cases hF;exact ae () [0,1];refine wz ?_;cases hF;exact ae () [];rintro⟨⟩;refine dz ?_;obtain rfl:=R2 hF;exact ar () []
def p6 {n l1 l5 l12 x16 a2 c3 a6 c7} {rr8:Ur} {es9:Un} {a13 c14 r} (hF:Iq n l1 l5 l12 x16=some r) (m) (h4:dm m a2 c3 l1) (h10:fh m a6 c7 l5 es9) (h11:(bU ai rr8 l5 es9).P m) (h15:lz m a13 c14 l12):
 aD (Vn p q) 53 [dN a2 l1 c3 a6 l5 c7,bu a13 l12 c14,aM x16] m (fun v m'=>∃x:Uo × Nat,v = .slice x.1 x.2 x.2/\Hp m m' [.sl x.1 2 x.2 (r.map (eP (eI .i64) (eI .i64)))]):=by
 unfold Iq at hF;refine cw Tryz.func53 (UN (UZ (UN (UN (UJ m) bP h4) (bC bP) h10) (bC (bC bP)) h11) (sG (bC (bC bP))) h15) ?_;refine wz ?_;refine wb fun b17=>?_;refine dz ?_;refine UE ?_;obtain⟨l58,h76,hF⟩:=J hF;refine ct (fun l58 (a59:Uo)=>⟨(.exit 0),[(7,bO a59 l58)],[cZ a59 l58]⟩) l58 ?_ ?_;refine lw h76 none (fun(l36,v38) a37=>⟨.normal,((2,aM x16)::(3,ptr b17 0)::(7,bO a37 l36)::zJ a13 l12 c14 v38 []),(cU b17 a2 l1 c3 a6 l5 c7 es9 ai rr8 [cZ a37 l36,jx a13 c14 l12])⟩) (UK (U9 2 rfl) (UH [1,5,4,3,0,2] rfl rfl)) ?_;clear hF h76;rintro⟨l36,v38⟩ a37 r hF;unfold yT at hF;refine wz ?_;refine UD ?_;rcases U hF with⟨h60,hF⟩|⟨h60,hF⟩;refine ak ?_;obtain⟨h61,hF⟩:=bJ hF;refine UO (k:=5) rfl (ay h61) ?_;rintro b62 o63 rfl;refine wz ?_;obtain⟨x64,h65,hF⟩:=J hF;refine ak ?_;obtain⟨h66,hF⟩:=bJ hF;refine UO (k:=2) rfl (ay h66) ?_;rintro b67 o68 rfl;refine wz ?_;obtain⟨⟨x69,x70⟩,h71,hF⟩:=J hF;refine wz ?_;refine UB (aI rfl rfl (cu _ _ _)) rfl ?_;refine wz ?_;obtain⟨h72,hF⟩:=bJ hF;refine wz ?_;refine UB (aI rfl rfl (cu _ _ _)) rfl<|UB (cD rfl iH rfl (cE xZ rfl rfl rfl)) rfl<|UQ (cm (es:=([(Ux (x16*x69),Ux (x16*x70))]:Ul).map (eP (eI .i64) (eI .i64))) CG rfl (ck CG iH rfl rfl) rfl rfl) gn rfl fun b73=>?_;obtain⟨h74,hF⟩:=aA hF;refine UQ (nV (k:=7) (k2:=0) (xs:=(l36:Ul)) (ys:=([(Ux (x16*x69),Ux (x16*x70))]:Ul)) (zZ (oO .i64) (oO .i64)) CG ⟨_,QJ⟩ rfl rfl rfl (.arr _ _ _ _ _) h74) gn rfl fun a75=>?_;refine ak ?_;cases hF;exact ae a75 (Vd 3 6);refine wz ?_;cases hF;exact ae a37 [4];rintro a59;refine dz ?_;obtain rfl:=R2 hF;exact ar (a59,l58.length) [0]
def pw {n x1 x2 r} (hF:wx n x1 x2=some r) (m):
 aD (Vn p q) 133 [fj x1 x2] m (Vi m (.bool r)):=by
 unfold wx at hF;refine cw Tryz.func133 (UJ m) ?_;refine wz ?_;refine wb fun b3=>?_;refine ak ?_;refine UB (Bb rfl (K4 _)) rfl ?_;refine wz ?_;refine UB (Bb rfl (K4 _)) rfl ?_;obtain⟨y4,h5,hF⟩:=J hF;refine UB (eK rfl rfl (fun m=>(MD _ _ _ _ m).trans (RT h5))) rfl ?_;refine wz ?_;rcases U hF with⟨h6,hF⟩|⟨h6,hF⟩;refine ak ?_;cases hF;exact ar () [];refine wz ?_;refine US (eK rfl rfl (ff _ _)) (gg rfl rfl (hZ h6)) rfl ?_;refine ak ?_;cases hF;exact ar () []
def BG {n x1 r} (hF:E0 n x1=some r) (m):
 aD (Vn p q) 161 [aM x1] m (Vi m (.bool r)):=by
 unfold E0 at hF;refine cw Tryz.func161 (UJ m) ?_;refine dz ?_;cases hF;exact ar () []
def xu {n x1 x2 r} (hF:AH n x1 x2=some r) (m):
 aD (Vn p q) 152 [aM x1,aM x2] m (Vi m (.int .i64 r)):=by
 unfold AH at hF;refine cw Tryz.func152 (UJ m) ?_;refine ak ?_;obtain⟨r4,h3,hF⟩:=J hF;refine wc gn (fun m hm=>BG h3 m) ?_;rintro⟨⟩;refine ak ?_;obtain⟨r6,h5,hF⟩:=J hF;refine wc gn (fun m hm=>BG h5 m) ?_;rintro⟨⟩;refine ak ?_;rcases U hF with⟨h7,hF⟩|⟨h7,hF⟩;refine wz ?_;rcases U hF with⟨h8,hF⟩|⟨h8,hF⟩;refine ak ?_;cases hF;exact ar () [];refine dz ?_;cases hF;exact ar () [];refine ak ?_;rcases U hF with⟨h9,hF⟩|⟨h9,hF⟩;refine ak ?_;cases hF;exact ar () [];refine ak ?_;rcases U hF with⟨h10,hF⟩|⟨h10,hF⟩;refine ak ?_;cases hF;exact ar () [];refine ak ?_;rcases U hF with⟨h11,hF⟩|⟨h11,hF⟩;refine ak ?_;cases hF;exact ar () [];refine dz ?_;cases hF;exact ar () []
def mV {n x1 x2 x3 x4 x5 x6 r} (hF:uA n x1 x2 x3 x4 x5 x6=some r) (m):
 aD (Vn p q) 135 [fj x1 x2,fj x3 x4,fj x5 x6] m (Vi m (.int .i64 r)):=by
 unfold uA at hF;refine cw Tryz.func135 (UJ m) ?_;refine wz ?_;refine wb fun b7=>?_;refine wb fun b8=>?_;refine wb fun b9=>?_;refine wz ?_;refine UD<|UG<|UB (aL (r:=ptr b8 0) rfl (dq _ _)) rfl<|UB (aC (k:=1) bX rfl rfl rfl) rfl<|UB (aL (r:=ptr b7 0) rfl (dq _ _)) rfl<|UB (aC (k:=2) bX rfl rfl rfl) rfl<|UB (aI rfl rfl (bR _ _ _)) rfl<|UB (aL (r:=ptr b9 1) rfl (cF _ _)) rfl<|UB (aC (k:=0) bX rfl rfl rfl) rfl<|UB (aL (r:=ptr b7 1) rfl (cF _ _)) rfl<|UB (aC (k:=2) bX rfl rfl rfl) rfl<|UB (aI rfl rfl (bR _ _ _)) rfl ?_;obtain⟨y10,h11,hF⟩:=J hF;refine UB (aI rfl rfl ((cu _ _ _).trans (cI h11))) rfl<|UB (aL (r:=ptr b8 1) rfl (cF _ _)) rfl<|UB (aC (k:=1) bX rfl rfl rfl) rfl<|UB (aL (r:=ptr b7 1) rfl (cF _ _)) rfl<|UB (aC (k:=2) bX rfl rfl rfl) rfl<|UB (aI rfl rfl (bR _ _ _)) rfl<|UB (aL (r:=ptr b9 0) rfl (dq _ _)) rfl<|UB (aC (k:=0) bX rfl rfl rfl) rfl<|UB (aL (r:=ptr b7 0) rfl (dq _ _)) rfl<|UB (aC (k:=2) bX rfl rfl rfl) rfl<|UB (aI rfl rfl (bR _ _ _)) rfl ?_;obtain⟨y12,h13,hF⟩:=J hF;refine UB (aI rfl rfl ((cu _ _ _).trans (cI h13))) rfl ?_;obtain⟨r15,h14,hF⟩:=J hF;refine wc gn (fun m hm=>xu h14 m) ?_;rintro⟨⟩;refine ak ?_;obtain rfl:=R2 hF;exact ar () []
def Jn {n l1 a2 c3 r} (hF:FN n l1=some r) (m) (h4:lz m a2 c3 l1):
 aD (Vn p q) 165 [bu a2 l1 c3] m (Vi m (.int .i64 r)):=by
 unfold FN at hF;refine cw Tryz.func165 (UN (UJ m) bP h4) ?_;refine dz ?_;refine UE ?_;obtain⟨r24,h23,hF⟩:=J hF;refine ct (fun(r:(Int) ⊕ (Unit)) (g:Unit)=>match r,g with | .inl v15,_=>⟨.ret,[(2,aM v15)],[]⟩ | .inr _,_=>⟨(.exit 0),[(3,.int .i64 0)],[]⟩) r24 ?_ ?_
 refine lo h23 () [0] (fun v6 _=>⟨.normal,[(3,.int .i64 0),(6,bu a2 l1 c3),(7,dF l1),(8,aM v6)],[jx a2 c3 l1]⟩) ?_;clear hF h23;rintro v6 ⟨⟩ r hF;unfold mj at hF;refine wz ?_;refine UD ?_;rcases U hF with⟨h16,hF⟩|⟨h16,hF⟩;refine ak ?_;obtain⟨h17,hF⟩:=bJ hF;refine UO (k:=0) rfl (ay h17) ?_;rintro b18 o19 rfl;refine wz ?_;obtain⟨x20,h21,hF⟩:=J hF;refine ak ?_;rcases U hF with⟨h22,hF⟩|⟨h22,hF⟩;refine ak ?_;cases hF;exact ae () [];refine ak ?_;cases hF;exact ae () [1];refine wz ?_;cases hF;exact ae () [];rcases r24 with v15|_;rintro⟨⟩;refine wz ?_;obtain rfl:=R2 hF;exact ar () [];rintro⟨⟩;refine dz ?_;cases hF;exact ar () []
def wY {n x1 x2 x3 x4 r} (hF:wJ n x1 x2 x3 x4=some r) (m):
 aD (Vn p q) 162 [fj x1 x2,fj x3 x4] m (Vi m (.int .i64 r)):=by
 unfold wJ at hF;refine cw Tryz.func162 (UJ m) ?_;refine wz ?_;refine wb fun b5=>?_;refine wb fun b6=>?_;refine wz ?_;refine UD<|UY (prs:=[(4,6),(4,8)]) (by kernel_rfl)<|UC (aL (r:=ptr b5 0) rfl (dq _ _)) rfl<|UC (aC (k:=1) bX rfl rfl rfl) rfl<|UC (aL (r:=ptr b6 0) rfl (dq _ _)) rfl<|UC (aC (k:=0) bX rfl rfl rfl) rfl ?_
 obtain⟨r8,h7,hF⟩:=J hF;refine nc gn (fun m hm=>xu h7 m) ?_;rintro⟨⟩;refine UC (aL (r:=ptr b5 1) rfl (cF _ _)) rfl<|UC (aC (k:=1) bX rfl rfl rfl) rfl<|UC (aL (r:=ptr b6 1) rfl (cF _ _)) rfl<|UC (aC (k:=0) bX rfl rfl rfl) rfl ?_;obtain⟨r10,h9,hF⟩:=J hF;refine nc gn (fun m hm=>xu h9 m) ?_;rintro⟨⟩;refine U3 (cm (es:=([r8,r10]:List (Int)).map (eI .i64)) eZ rfl (ck eZ z3 rfl rfl) rfl rfl) gn rfl fun b11=>?_;obtain⟨r13,h12,hF⟩:=J hF;refine nc gn (fun m hm=>Jn h12 m (hm.q 0)) ?_;rintro⟨⟩;refine UC (bM rfl) rfl<|UT (fun m hm=>cn.all rfl) ?_;refine ak ?_;obtain rfl:=R2 hF;exact ar () []
def Cn {n x1 x2 x3 x4 x5 x6 x7 r} (hF:DV n x1 x2 x3 x4 x5 x6 x7=some r) (m):
 aD (Vn p q) 153 [LP x1 x2 x3 x4 x5,fj x6 x7] m (Vi m (.bool r)):=by
 unfold DV at hF;refine cw Tryz.func153 (UJ m) ?_;refine wz ?_;refine wb fun b8=>?_;refine wb fun b9=>?_;refine ak ?_;obtain⟨r11,h10,hF⟩:=J hF;refine wc gn (fun m hm=>mV h10 m) ?_;rintro⟨⟩;refine wz ?_;rcases U hF with⟨h12,hF⟩|⟨h12,hF⟩;refine ak ?_;cases hF;exact ar () [];refine wz ?_;refine UD<|UY (prs:=[(3,6)]) (by kernel_rfl)<|UC (aL (r:=ptr b8 1) rfl (fD _ _)) rfl<|UC (aC (k:=1) bQ rfl rfl rfl) rfl<|UC (aL (r:=ptr b8 3) rfl (gV _ _)) rfl<|U0 rfl (aC (k:=1) bQ rfl rfl rfl) rfl<|U3 (jR iH rfl) gn rfl fun b13=>?_
 refine U3 (jR iH rfl) gn rfl fun b14=>?_;refine Wn.Ag rfl (dI (k:=1) bQ rfl rfl rfl rfl rfl)<|U4 (dI (k:=0) bQ rfl rfl rfl rfl rfl)<|UT (fun m hm=>(cn.rw rfl rfl rfl (hm.ne (i:=3) (j:=1) rfl rfl rfl rfl (by decide) rfl) cn.nil))<|UM<|UD ?_
 obtain⟨r26,h25,hF⟩:=J hF;refine ct (fun(v18,v19,v20,v21) (_:Unit)=>⟨.normal,[(3,ptr b9 0),(5,ptr b13 0),(6,ptr b14 0)],[ec b9 x6 x7,ec b13 v18 v19,ec b14 v20 v21]⟩) r26 ?_ ?_;clear hF;revert r26;intro r hF;refine wz ?_;obtain⟨r23,h22,hF⟩:=J hF;refine wc gn (fun m hm=>wY h22 m) ?_;rintro⟨⟩;refine wz ?_;rcases U hF with⟨h24,hF⟩|⟨h24,hF⟩;refine wz ?_;cases hF;exact ae () [2,1,0];refine wz ?_;cases hF;exact ae () [2,1,0];clear h25;obtain⟨v18,v19,v20,v21⟩:=r26;rintro⟨⟩;refine ak ?_;obtain⟨r28,h27,hF⟩:=J hF;refine wc gn (fun m hm=>wY h27 m) ?_;rintro⟨⟩;refine wz ?_;rcases U hF with⟨h29,hF⟩|⟨h29,hF⟩;refine wz ?_;obtain⟨r31,h30,hF⟩:=J hF;refine wc (gg rfl rfl (dC h29)) (fun m hm=>wY h30 m) ?_;rintro⟨⟩;refine ak ?_;cases hF;exact ar () [];refine ak ?_;cases hF;exact ar () []
def CF {n x1 x2 x3 x4 x5 x6 x7 x8 x9 x10 r} (hF:Dp n x1 x2 x3 x4 x5 x6 x7 x8 x9 x10=some r) (m):
 aD (Vn p q) 136 [LP x1 x2 x3 x4 x5,LP x6 x7 x8 x9 x10] m (Vi m (.int .i64 r)):=by
 unfold Dp at hF;refine cw Tryz.func136 (UJ m) ?_;refine wz ?_;refine wb fun b0=>?_;refine wb fun b1=>?_;refine wz ?_;refine UD<|UY (prs:=[(6,8),(6,10),(6,12)]) (by kernel_rfl)<|UC (aL (r:=ptr b0 1) rfl (fD _ _)) rfl<|UC (aC (k:=1) bQ rfl rfl rfl) rfl<|UC (aL (r:=ptr b0 3) rfl (gV _ _)) rfl<|UC (aC (k:=1) bQ rfl rfl rfl) rfl<|UC (aL (r:=ptr b1 1) rfl (fD _ _)) rfl<|UC (aC (k:=0) bQ rfl rfl rfl) rfl ?_
 obtain⟨r0,h8,hF⟩:=J hF;refine nc gn (fun m hm=>mV h8 m) ?_;rintro⟨⟩;refine UC (aL (r:=ptr b0 1) rfl (fD _ _)) rfl<|UC (aC (k:=1) bQ rfl rfl rfl) rfl<|UC (aL (r:=ptr b0 3) rfl (gV _ _)) rfl<|UC (aC (k:=1) bQ rfl rfl rfl) rfl<|UC (aL (r:=ptr b1 3) rfl (gV _ _)) rfl<|UC (aC (k:=0) bQ rfl rfl rfl) rfl ?_;obtain⟨r1,h9,hF⟩:=J hF;refine nc gn (fun m hm=>mV h9 m) ?_;rintro⟨⟩;refine UC (bM rfl) rfl<|UC (bM rfl) rfl<|UT (fun m hm=>cn.all rfl)<|UM<|UD<|UY (prs:=[(6,8),(6,10),(6,12)]) (by kernel_rfl)<|UC (aL (r:=ptr b1 1) rfl (fD _ _)) rfl<|UC (aC (k:=0) bQ rfl rfl rfl) rfl<|UC (aL (r:=ptr b1 3) rfl (gV _ _)) rfl<|UC (aC (k:=0) bQ rfl rfl rfl) rfl<|UC (aL (r:=ptr b0 1) rfl (fD _ _)) rfl<|UC (aC (k:=1) bQ rfl rfl rfl) rfl ?_
 obtain⟨r3,h10,hF⟩:=J hF;refine nc gn (fun m hm=>mV h10 m) ?_;rintro⟨⟩;refine UC (aL (r:=ptr b1 1) rfl (fD _ _)) rfl<|UC (aC (k:=0) bQ rfl rfl rfl) rfl<|UC (aL (r:=ptr b1 3) rfl (gV _ _)) rfl<|UC (aC (k:=0) bQ rfl rfl rfl) rfl<|UC (aL (r:=ptr b0 3) rfl (gV _ _)) rfl<|UC (aC (k:=1) bQ rfl rfl rfl) rfl ?_;obtain⟨r4,h11,hF⟩:=J hF;refine nc gn (fun m hm=>mV h11 m) ?_;rintro⟨⟩;refine UC (bM rfl) rfl<|UC (bM rfl) rfl<|UT (fun m hm=>cn.all rfl) ?_;refine ak ?_;refine UQ Fk gn rfl fun b2=>?_;refine ak ?_;refine UB (cD rfl Q1 rfl (cE O8 rfl rfl rfl)) rfl ?_;refine wz ?_;refine UE ?_;obtain⟨l1,h1,hF⟩:=J hF;refine ct (fun l1 (_:Unit)=>⟨(.exit 0),[(5,aM r0),(6,aM r1),(7,aM r3),(8,aM r4),(9,.map (some b2))],[.obj b2 (.map (l1.map (eM (fun p:Int × Int=>.agg #[.int .i64 p.1,.int .i64 p.2]) (fun b:Bool=>.bool b))))]⟩) l1 ?_ ?_;refine lo h1 () [2,1,0] (fun(l2,v0) _=>⟨.normal,(pI b0 b1 [(5,aM r0),(6,aM r1),(7,aM r3),(8,aM r4),(9,.map (some b2)),(49,Ml x2 x3 x4 x5 x7 x8 x9 x10),(50,aM v0)]),[gI b0 x1 x2 x3 x4 x5,gI b1 x6 x7 x8 x9 x10,.obj b2 (.map (l2.map (eM (fun p:Int × Int=>.agg #[.int .i64 p.1,.int .i64 p.2]) (fun b:Bool=>.bool b))))]⟩) ?_;clear hF h1;rintro⟨l2,v0⟩ ⟨⟩ r hF;unfold lM at hF;refine wz ?_;refine UD ?_;rcases U hF with⟨h12,hF⟩|⟨h12,hF⟩;refine wz ?_;refine UD ?_;obtain⟨l3,h13,hF⟩:=J hF;refine ct (fun l3 (_:Unit)=>⟨.normal,(pI b0 b1 [(5,aM r0),(6,aM r1),(7,aM r3),(8,aM r4),(9,.map (some b2)),(49,Ml x2 x3 x4 x5 x7 x8 x9 x10),(50,aM v0)]),[gI b0 x1 x2 x3 x4 x5,gI b1 x6 x7 x8 x9 x10,.obj b2 (.map (l3.map (eM (fun p:Int × Int=>.agg #[.int .i64 p.1,.int .i64 p.2]) (fun b:Bool=>.bool b))))]⟩) l3 ?_ ?_;clear hF;revert l3;intro r hF;refine wz ?_;obtain⟨h14,hF⟩:=aA hF;obtain⟨⟨x11,x12⟩,h0,hF⟩:=J hF;refine UQ (Bz (α:=Unit) (V:=fun g=>match g with|_=>.agg #[aM x11,aM x12]) (N:=fun g=>match g with|_=>[]++[gI b0 x1 x2 x3 x4 x5,gI b1 x6 x7 x8 x9 x10,.obj b2 (.map (l2.map (eM (fun p:Int × Int=>.agg #[.int .i64 p.1,.int .i64 p.2]) (fun b:Bool=>.bool b))))]) rfl rfl (fun m hm=>?_)) gn rfl ?_
 have hj:=lG h14;obtain⟨j,h4⟩:∃j:Nat,(v0:Int)=j:=⟨_,(Tg hj.1).symm⟩;rw[h4] at h0 hj ⊢;rw[Ss] at h0 hj;replace hj:=hj.2;clear hF h4
 match j,hj,h0 with
 | 0,_,h0=>cases h0; exact⟨(),pH zU (i:=0) (by decide) (iy bQ rfl),hm⟩
 | 1,_,h0=>cases h0; exact⟨(),pH zU (i:=1) (by decide) (iy bQ rfl),hm⟩
 | 2,_,h0=>cases h0; exact⟨(),pH zU (i:=2) (by decide) (iy bQ rfl),hm⟩
 | 3,_,h0=>cases h0; exact⟨(),pH zU (i:=3) (by decide) (iy bQ rfl),hm⟩
 | _+4,hj,_=>exact Sl hj (by omega)
 rintro⟨⟩;refine wa iH fun b3=>?_;refine wz ?_;refine UD ?_;obtain⟨v1,h15,hF⟩:=J hF;refine ct (fun v1 (_:Unit)=>⟨.normal,(pI b0 b1 [(5,aM r0),(6,aM r1),(7,aM r3),(8,aM r4),(9,.map (some b2)),(11,ptr b3 0),(49,Ml x2 x3 x4 x5 x7 x8 x9 x10),(50,aM v0),(60,.bool v1)]),[gI b0 x1 x2 x3 x4 x5,gI b1 x6 x7 x8 x9 x10,.obj b2 (.map (l2.map (eM (fun p:Int × Int=>.agg #[.int .i64 p.1,.int .i64 p.2]) (fun b:Bool=>.bool b)))),ec b3 x11 x12]⟩) v1 ?_ ?_;clear hF;revert v1;intro r hF;refine wz ?_;obtain⟨r5,h16,hF⟩:=J hF;refine wc gn (fun m hm=>Cn h16 m) ?_;rintro⟨⟩;refine wz ?_;rcases U hF with⟨h5,hF⟩|⟨h5,hF⟩;refine wz ?_;obtain⟨r6,h17,hF⟩:=J hF;refine wc (gg rfl rfl (dC h5)) (fun m hm=>Cn h17 m) ?_;rintro⟨⟩;refine wz ?_;obtain rfl:=R2 hF;exact ae () [1,2,3,0];refine wz ?_;cases hF;exact ae () [1,2,3,0];rintro⟨⟩;refine UM ?_;rcases U hF with⟨h18,hF⟩|⟨h18,hF⟩;refine wz ?_;refine U8 (CS (q:=2) (xs:=l2) (k:=(x11,x12)) (v:=true) (vE:=(fun b:Bool=>.bool b)) Om (Em BX) rfl rfl rfl rfl) ?_;refine wz ?_;cases hF;exact ae () [0,1,2];refine wz ?_;obtain rfl:=R2 hF;exact ae () [0,1,2];rintro⟨⟩;refine ak ?_;cases hF;exact ae () [0,1,2];refine wz ?_;cases hF;exact ae () [2];rintro⟨⟩;refine ak ?_;obtain⟨y0,h2,hF⟩:=J hF;replace h2:=R2 h2;refine UB (Bk (q:=0) (xs:=l1) Om rfl rfl h2) rfl ?_;refine wz ?_;rcases U hF with⟨h19,hF⟩|⟨h19,hF⟩;refine ak ?_;cases hF;exact ar () [];refine wz ?_;obtain⟨y1,h3,hF⟩:=J hF;replace h3:=R2 h3;refine UB (Bk (q:=0) (xs:=l1) Om rfl rfl h3) rfl ?_;refine wz ?_;rcases U hF with⟨h6,hF⟩|⟨h6,hF⟩;refine ak ?_;cases hF;exact ar () [];refine Wk.eT rfl h6<|UD ?_;obtain⟨v2,h20,hF⟩:=J hF;refine ct (fun v2 (_:Unit)=>⟨.normal,[(72,.bool v2)],[]⟩) v2 ?_ ?_;clear hF;revert v2;intro r hF;refine wz ?_;refine UB (aI rfl rfl (cu _ _ _)) rfl ?_;refine wz ?_;rcases U hF with⟨h7,hF⟩|⟨h7,hF⟩;refine wz ?_;refine US (aI rfl rfl (cu _ _ _)) (gg rfl rfl (dC h7)) rfl ?_;refine wz ?_;cases hF;exact ae () [];refine wz ?_;cases hF;exact ae () [];rintro⟨⟩;refine UM ?_;rcases U hF with⟨h21,hF⟩|⟨h21,hF⟩;refine ak ?_;cases hF;exact ar () [];refine dz ?_;cases hF;exact ar () []
def I6 {n l1 a0 c0 r} (hF:Fm n l1=some r) (m) (h14:dm m a0 c0 l1):
 aD (Vn p q) 110 [bu a0 l1 c0] m (Vi m (.tuple #[.int .i64 r.1,.int .i64 r.2])):=by
 unfold Fm at hF;refine cw Tryz.func110 (UN (UJ m) bP h14) ?_;refine wz ?_;refine wb fun b3=>?_;refine wa z3 fun b0=>?_;refine wa z3 fun b1=>?_;refine ak ?_;refine wa z3 fun b2=>?_;refine wz ?_;refine UD<|UD ?_;obtain⟨v2,h15,hF⟩:=J hF;refine ct (fun v2 (_:Unit)=>⟨.normal,((1,ptr b3 0)::pI b0 b1 [(4,ptr b2 0),(18,.bool v2)]),(uz b3 a0 l1 c0 b0 b1 b2 [])⟩) v2 ?_ ?_;clear hF;revert v2;intro r hF;refine wz ?_;rcases U hF with⟨h16,hF⟩|⟨h16,hF⟩;refine wz ?_;cases hF;exact ae () [3,4,2,1,0];refine wz ?_;cases hF;exact ae () [3,4,2,1,0];rintro⟨⟩;refine UM ?_;rcases U hF with⟨h17,hF⟩|⟨h17,hF⟩;refine ak ?_;cases hF;exact UW (.cell (k:=2) bX rfl rfl rfl (.cell (k:=3) bX rfl rfl rfl .nil)) fun m' hm=>⟨(),rfl,(UH [] rfl rfl) m' hm⟩;refine ak ?_;obtain⟨v3,h18,hF⟩:=J hF;refine wq (fun v3 (_:Unit)=>(.int .i64 v3,(uz b3 a0 l1 c0 b0 b1 b2 []))) v3 (fun m hm=>?_) ?_;clear hF;revert v3;intro r hF;refine aV (N:=19) (rs:=[.tmp 4]) rfl Tryz.func132 rfl rfl rfl hm ?_;refine ak ?_;refine UE ?_;obtain⟨r13,h1,hF⟩:=J hF;refine ct (fun(r:(Int) ⊕ (Unit)) (g:Unit)=>match r,g with | .inl v8,_=>⟨.ret,[(4,aM v8)],(uz b3 a0 l1 c0 b0 b1 b2 [])⟩ | .inr _,_=>⟨(.exit 0),[],(uz b3 a0 l1 c0 b0 b1 b2 [])⟩) r13 ?_ ?_
 refine lo h1 () [1,0,2,3,4] (fun v9 _=>⟨.normal,[(0,bu a0 l1 c0),(1,.func (.func 133) #[] #[]),(7,dF l1),(8,aM v9)],[gw a0 c0 l1,uk b3 a0 l1 c0,db b0,db b1,fx b2 l1]⟩) ?_;clear hF h1;rintro v9 ⟨⟩ r hF;unfold tG at hF;refine wz ?_;refine UD ?_;rcases U hF with⟨h19,hF⟩|⟨h19,hF⟩;refine dz ?_;obtain⟨h20,hF⟩:=bJ hF;refine UO (k:=0) rfl (ay h20) ?_;rintro b24 o4 rfl;refine wz ?_;obtain⟨⟨x24,x25⟩,h61,hF⟩:=J hF;refine wz ?_;obtain⟨r22,h21,hF⟩:=J hF;refine wc gn (fun m hm=>pw h21 m) ?_;rintro⟨⟩;refine wz ?_;rcases U hF with⟨h22,hF⟩|⟨h22,hF⟩;refine ak ?_;cases hF;exact ae () [2,1,3,4,5];refine ak ?_;cases hF;exact ae () (Vd 1 5);refine wz ?_;cases hF;exact ae () [1,0,2,3,4];rcases r13 with v8|_;rintro⟨⟩;refine wz ?_;obtain rfl:=R2 hF;exact ar () (Vd 0 5);rintro⟨⟩;refine dz ?_;cases hF;exact ar () (Vd 0 5);rintro⟨⟩;refine ak ?_;rcases U hF with⟨h23,hF⟩|⟨h23,hF⟩;refine ak ?_;cases hF;exact UW (.cell (k:=2) bX rfl rfl rfl (.cell (k:=3) bX rfl rfl rfl .nil)) fun m' hm=>⟨(),rfl,(UH [] rfl rfl) m' hm⟩;refine ak ?_;obtain⟨r14,h24,hF⟩:=J hF;refine wq (fun _ (b10:Nat)=>(.func (.func 151) #[] #[ptr b10 0],(D6 b10 a0 l1 c0 b3 b0 b1 b2 []))) r14 (fun m hm=>?_) ?_;clear hF;revert r14;intro r hF;refine aV (N:=4) (rs:=[.tmp 2]) rfl Tryz.func134 rfl rfl rfl hm ?_;refine wz ?_;refine wb fun b16=>?_;refine ak ?_;refine UB (jT rfl rfl) rfl ?_;refine ak ?_;cases hF;exact ar b16 [0,2,1,3,4,5];rintro b10;refine wz ?_;refine UE ?_;obtain⟨r5,h25,hF⟩:=J hF;refine Wk.range (N:=27) (rs:=[]) (γ:=Unit) (X:=fun g=>(fun(r:(Int) ⊕ (Unit)) (g:Unit)=>(match r,g with | .inl v10,_=>⟨.done,(some .ret),[uk b3 a0 l1 c0,gw a0 c0 l1,.obj b0 (.cells [.int .i64 3] .own),eS b1 v10,fx b2 l1]⟩ | .inr _,_=>⟨.ready,none,(uz b3 a0 l1 c0 b0 b1 b2 [])⟩:Rn)) r5 g) rfl rfl Tryz.func151 rfl rfl rfl ?_ (fun y=>by rcases r5 with _|_<;>(intro e; cases e)) ?_
 clear hF;revert r5;intro r hF;intro t0 l5 r4 h26 h27;refine wz ?_;refine UE ?_;obtain⟨r15,h2,hF⟩:=J hF;refine ct (fun(r:(Int) ⊕ (Unit)) (g:Unit)=>match r,g with | .inl v11,_=>⟨.ret,[],[.obj l5 (r4 .done (some .ret)),uk b3 a0 l1 c0,gw a0 c0 l1,.obj b0 (.cells [.int .i64 3] .own),eS b1 v11,fx b2 l1]⟩ | .inr _,_=>⟨(.exit 0),[],(.obj l5 (r4 .ready none)::uz b3 a0 l1 c0 b0 b1 b2 [])⟩) r15 ?_ ?_
 refine lo h2 () [0,1,2,3,4,5,6] (fun v4 _=>⟨.normal,[(0,.func (.yield l5) #[] #[]),(1,ptr b10 0),(5,bu a0 l1 c0),(6,dF l1),(7,aM v4)],(.obj l5 (r4 .ready none)::D6 b10 a0 l1 c0 b3 b0 b1 b2 [])⟩) ?_;clear hF h2;rintro v4 ⟨⟩ r hF;unfold tl at hF;refine wz ?_;refine UD ?_;rcases U hF with⟨h28,hF⟩|⟨h28,hF⟩;refine ak ?_;obtain⟨h29,hF⟩:=bJ hF;refine UO (k:=2) rfl (ay h29) ?_;rintro b12 o3 rfl;refine wz ?_;obtain⟨⟨x20,x21⟩,h62,hF⟩:=J hF;refine wz ?_;refine wa iH fun b25=>?_;refine ak ?_;obtain⟨h30,hF⟩:=aA hF;refine UB (aI rfl rfl (cb _ _ h30)) rfl ?_;obtain⟨h63,hF⟩:=bJ hF;refine wz ?_;obtain⟨⟨x22,x23⟩,h64,hF⟩:=J hF;refine wz ?_;refine UB (cD rfl z159 rfl (cE vq rfl rfl rfl)) rfl ?_;obtain⟨r6,h6,hF⟩:=J hF;refine UQ (vP (k:=2) (k1:=0) (γA:=Nat) (GA:=(fun g:Nat=>(match g with|b14=>⟨.normal,(pI b0 b1 [(6,ptr b14 0)]),(.obj l5 (r4 .ready none)::db b0::db b1::gI b14 v4 x20 x21 x22 x23::tN b3 b12 o3 l1 c0 [fx b2 l1,fP b10 b12 o3 l1 c0])⟩:En))) (γ:=Unit) (G:=fun g=>(fun(r:(Unit) ⊕ (Unit)) (g:Unit)=>(match r,g with | .inl _,_=>⟨.ret,[],(.obj l5 (r4 .busy none)::tN b3 b12 o3 l1 c0 [.obj b0 (.cells [.int .i64 3] .own),eS b1 v4,fx b2 l1,fP b10 b12 o3 l1 c0])⟩ | .inr _,_=>⟨.normal,[],(.obj l5 (r4 .busy none)::tN b3 b12 o3 l1 c0 [db b0,db b1,fx b2 l1,fP b10 b12 o3 l1 c0])⟩:En)) r6 g) rfl rfl rfl h27 h26 rfl ?_ (fun _=>rfl) (fun _=>rfl) ?_ (fun y=>by rcases r6 with _|_<;>rfl)) gn rfl ?_
 clear hF h6;refine UG<|wa z159 fun b17=>?_;refine wz ?_;exact ae b17 [3,7,8,0,6,2,5,9,4];clear hF;revert r6;intro r hF;rintro b14;refine wz ?_;refine UB (aI rfl rfl (xB Bc (A7 _ _ _ _))) rfl ?_;refine wz ?_;rcases U hF with⟨h7,hF⟩|⟨h7,hF⟩;refine U1 rfl h7<|UD<|UY (prs:=[(1,2)]) (by kernel_rfl)<|UC (aL (r:=ptr b14 0) rfl (pA _ _)) rfl<|U0 rfl (aC (k:=3) bX rfl rfl rfl) rfl<|Wn.Ag rfl (dI (k:=1) bX rfl rfl rfl rfl rfl)<|U4 (dI (k:=2) bX rfl rfl rfl rfl rfl)<|UT (fun m hm=>(cn.rw rfl rfl rfl (hm.ne (i:=3) (j:=1) rfl rfl rfl rfl (by decide) rfl) cn.nil)) ?_
 refine ak ?_;cases hF;exact ae () [0,4,5,6,1,2,7,8];refine wz ?_;cases hF;exact ae () [0,4,5,6,1,2,7,8];rcases r6 with _|_;rintro⟨⟩;refine ak ?_;cases hF;exact ae () [0,1,3,4,5,6];rintro⟨⟩;refine dz ?_;cases hF;exact ae () [0,7,3,1,4,5,6];refine wz ?_;cases hF;exact ae () [0,3,2,4,5,6];rcases r15 with v11|_;rintro⟨⟩;refine At.br ?_;cases hF;exact UW .nil fun m' hm=>⟨(),(UH (Vd 0 6) rfl rfl) m' hm⟩;rintro⟨⟩;refine At.be ?_;cases hF;exact At.fin .nil fun m' hm=>⟨(),(UH (Vd 0 6) rfl rfl) m' hm⟩;rcases r5 with v10|_;rintro⟨⟩
 change Wk _ _ _ _ .ret _ _ _ _
 refine wz ?_;cases hF;exact UW (.cell (k:=2) bX rfl rfl rfl (.cell (k:=3) bX rfl rfl rfl .nil)) fun m' hm=>⟨(),rfl,(UH [] rfl rfl) m' hm⟩;rintro⟨⟩
 change At _ .normal _ _ _
 refine ak ?_;obtain⟨r16,h31,hF⟩:=J hF;refine wq (fun _ (b9:Nat)=>(.func (.func 151) #[] #[ptr b9 0],(D6 b9 a0 l1 c0 b3 b0 b1 b2 []))) r16 (fun m hm=>?_) ?_;clear hF;revert r16;intro r hF;refine aV (N:=4) (rs:=[.tmp 2]) rfl Tryz.func134 rfl rfl rfl hm ?_;refine wz ?_;refine wb fun b18=>?_;refine ak ?_;refine UB (jT rfl rfl) rfl ?_;refine ak ?_;cases hF;exact ar b18 [0,2,1,3,4,5];rintro b9;refine wz ?_;refine UE ?_;obtain⟨r7,h32,hF⟩:=J hF;refine Wk.range (N:=27) (rs:=[]) (γ:=Unit) (X:=fun g=>(fun(r:(Int) ⊕ (Unit)) (g:Unit)=>(match r,g with | .inl v12,_=>⟨.done,(some .ret),[uk b3 a0 l1 c0,gw a0 c0 l1,.obj b0 (.cells [.int .i64 4] .own),eS b1 v12,fx b2 l1]⟩ | .inr _,_=>⟨.ready,none,(uz b3 a0 l1 c0 b0 b1 b2 [])⟩:Rn)) r7 g) rfl rfl Tryz.func151 rfl rfl rfl ?_ (fun y=>by rcases r7 with _|_<;>(intro e; cases e)) ?_
 clear hF;revert r7;intro r hF;intro t1 l4 r3 h33 h34;refine wz ?_;refine UE ?_;obtain⟨r17,h3,hF⟩:=J hF;refine ct (fun(r:(Int) ⊕ (Unit)) (g:Unit)=>match r,g with | .inl v13,_=>⟨.ret,[],[.obj l4 (r3 .done (some .ret)),uk b3 a0 l1 c0,gw a0 c0 l1,.obj b0 (.cells [.int .i64 4] .own),eS b1 v13,fx b2 l1]⟩ | .inr _,_=>⟨(.exit 0),[],(.obj l4 (r3 .ready none)::uz b3 a0 l1 c0 b0 b1 b2 [])⟩) r17 ?_ ?_
 refine lo h3 () [0,1,2,3,4,5,6] (fun v1 _=>⟨.normal,[(0,.func (.yield l4) #[] #[]),(1,ptr b9 0),(5,bu a0 l1 c0),(6,dF l1),(7,aM v1)],(.obj l4 (r3 .ready none)::D6 b9 a0 l1 c0 b3 b0 b1 b2 [])⟩) ?_;clear hF h3;rintro v1 ⟨⟩ r hF;unfold tq at hF;refine wz ?_;refine UD ?_;rcases U hF with⟨h35,hF⟩|⟨h35,hF⟩;refine ak ?_;obtain⟨h36,hF⟩:=bJ hF;refine UO (k:=2) rfl (ay h36) ?_;rintro b11 o2 rfl;refine wz ?_;obtain⟨⟨x12,x13⟩,h65,hF⟩:=J hF;refine wz ?_;refine wa iH fun b26=>?_;refine ak ?_;obtain⟨h37,hF⟩:=aA hF;refine UB (aI rfl rfl (cb _ _ h37)) rfl ?_;obtain⟨h66,hF⟩:=bJ hF;refine wz ?_;obtain⟨⟨x14,x15⟩,h67,hF⟩:=J hF;refine wz ?_;refine UB (cD rfl z159 rfl (cE vq rfl rfl rfl)) rfl ?_;obtain⟨r8,h8,hF⟩:=J hF;refine UQ (vP (k:=2) (k1:=0) (γA:=Nat) (GA:=(fun g:Nat=>(match g with|b6=>⟨.normal,((1,ptr b3 0)::pI b0 b1 [(4,ptr b2 0),(7,ptr b6 0)]),(.obj l4 (r3 .ready none)::tN b3 b11 o2 l1 c0 [db b0,db b1,fx b2 l1,gI b6 v1 x12 x13 x14 x15,fP b9 b11 o2 l1 c0])⟩:En))) (γ:=Unit) (G:=fun g=>(fun(r:(Unit) ⊕ (Unit)) (g:Unit)=>(match r,g with | .inl _,_=>⟨.ret,[],(.obj l4 (r3 .busy none)::tN b3 b11 o2 l1 c0 [.obj b0 (.cells [.int .i64 4] .own),eS b1 v1,fx b2 l1,fP b9 b11 o2 l1 c0])⟩ | .inr _,_=>⟨.normal,[],(.obj l4 (r3 .busy none)::tN b3 b11 o2 l1 c0 [db b0,db b1,fx b2 l1,fP b9 b11 o2 l1 c0])⟩:En)) r8 g) rfl rfl rfl h34 h33 rfl ?_ (fun _=>rfl) (fun _=>rfl) ?_ (fun y=>by rcases r8 with _|_<;>rfl)) gn rfl ?_
 clear hF h8;refine UG<|wa z159 fun b19=>?_;refine wz ?_;exact ae b19 [3,6,2,5,7,8,9,0,4];clear hF;revert r8;intro r hF;rintro b6;refine UE<|UD<|Wk.draw (by kernel_rfl)<|UB (aC (k:=1) On rfl rfl rfl) rfl<|UB (aL (r:=ptr b6 0) rfl (pA _ _)) rfl<|UB (aC (k:=7) bX rfl rfl rfl) rfl<|UB (aC (k:=6) bX rfl rfl rfl) rfl<|UB (aI rfl rfl (cg _ _ _)) rfl<|UB (aI rfl rfl (bR _ _ _)) rfl<|UB (aC (k:=6) bX rfl rfl rfl) rfl ?_
 obtain⟨h38,hF⟩:=aA hF;obtain⟨y0,h39,hF⟩:=J hF;refine UB (aI rfl rfl ((cb _ _ h38).trans (cI h39))) rfl ?_;obtain⟨h68,hF⟩:=bJ hF;refine wz ?_;obtain⟨⟨x26,x27⟩,h69,hF⟩:=J hF;refine wz ?_;refine wa iH fun b15=>?_;refine wz ?_;refine UD ?_;obtain⟨v5,h40,hF⟩:=J hF;refine ct (fun v5 (_:Unit)=>⟨.normal,((1,ptr b3 0)::pI b0 b1 [(4,ptr b2 0),(7,ptr b6 0),(85,.bool v5)]),(.obj l4 (r3 .busy none)::tN b3 b11 o2 l1 c0 [db b0,db b1,fx b2 l1,gI b6 v1 x12 x13 x14 x15,fP b9 b11 o2 l1 c0])⟩) v5 ?_ ?_;clear hF;revert v5;intro r hF;refine wz ?_;obtain⟨r23,h41,hF⟩:=J hF;refine wc gn (fun m hm=>mV h41 m) ?_;rintro⟨⟩;refine wz ?_;rcases U hF with⟨h0,hF⟩|⟨h0,hF⟩;refine US (aL (r:=ptr b6 1) rfl (fD _ _)) (gg rfl rfl (dC h0)) rfl<|US (aL (r:=ptr b6 1) rfl (dq _ _)) (gg rfl rfl (dC h0)) rfl<|US (aC (k:=8) bX rfl rfl rfl) (gg rfl rfl (dC h0)) rfl<|US (aL (r:=ptr b15 0) rfl (dq _ _)) (gg rfl rfl (dC h0)) rfl<|US (aC (k:=0) bX rfl rfl rfl) (gg rfl rfl (dC h0)) rfl<|US (aI rfl rfl (bR _ _ _)) (gg rfl rfl (dC h0)) rfl<|US (aL (r:=ptr b6 3) rfl (gV _ _)) (gg rfl rfl (dC h0)) rfl<|US (aL (r:=ptr b6 3) rfl (dq _ _)) (gg rfl rfl (dC h0)) rfl<|US (aC (k:=8) bX rfl rfl rfl) (gg rfl rfl (dC h0)) rfl<|US (aL (r:=ptr b6 1) rfl (fD _ _)) (gg rfl rfl (dC h0)) rfl<|US (aL (r:=ptr b6 1) rfl (dq _ _)) (gg rfl rfl (dC h0)) rfl<|US (aC (k:=8) bX rfl rfl rfl) (gg rfl rfl (dC h0)) rfl<|US (aI rfl rfl (bR _ _ _)) (gg rfl rfl (dC h0)) rfl ?_;obtain⟨y1,h42,hF⟩:=J hF;refine US (aI rfl rfl ((cu _ _ _).trans (cI h42))) (gg rfl rfl (dC h0)) rfl<|US (aL (r:=ptr b6 1) rfl (fD _ _)) (gg rfl rfl (dC h0)) rfl<|US (aL (r:=ptr b6 2) rfl (cF _ _)) (gg rfl rfl (dC h0)) rfl<|US (aC (k:=8) bX rfl rfl rfl) (gg rfl rfl (dC h0)) rfl<|US (aL (r:=ptr b15 1) rfl (cF _ _)) (gg rfl rfl (dC h0)) rfl<|US (aC (k:=0) bX rfl rfl rfl) (gg rfl rfl (dC h0)) rfl<|US (aI rfl rfl (bR _ _ _)) (gg rfl rfl (dC h0)) rfl<|US (aL (r:=ptr b6 3) rfl (gV _ _)) (gg rfl rfl (dC h0)) rfl<|US (aL (r:=ptr b6 4) rfl (cF _ _)) (gg rfl rfl (dC h0)) rfl<|US (aC (k:=8) bX rfl rfl rfl) (gg rfl rfl (dC h0)) rfl<|US (aL (r:=ptr b6 1) rfl (fD _ _)) (gg rfl rfl (dC h0)) rfl<|US (aL (r:=ptr b6 2) rfl (cF _ _)) (gg rfl rfl (dC h0)) rfl<|US (aC (k:=8) bX rfl rfl rfl) (gg rfl rfl (dC h0)) rfl<|US (aI rfl rfl (bR _ _ _)) (gg rfl rfl (dC h0)) rfl ?_;obtain⟨y2,h43,hF⟩:=J hF;refine US (aI rfl rfl ((cu _ _ _).trans (cI h43))) (gg rfl rfl (dC h0)) rfl ?_;refine wz ?_;cases hF;exact ae () (Vd 1 9);refine wz ?_;cases hF;exact ae () (Vd 1 9);rintro⟨⟩;refine UM ?_;rcases U hF with⟨h9,hF⟩|⟨h9,hF⟩;refine U1 rfl h9<|UD<|UY (prs:=[(1,2)]) (by kernel_rfl)<|UC (aL (r:=ptr b6 0) rfl (pA _ _)) rfl<|U0 rfl (aC (k:=7) bX rfl rfl rfl) rfl<|Wn.Ag rfl (dI (k:=4) bX rfl rfl rfl rfl rfl)<|U4 (dI (k:=5) bX rfl rfl rfl rfl rfl)<|UT (fun m hm=>(cn.rw rfl rfl rfl (hm.ne (i:=7) (j:=4) rfl rfl rfl rfl (by decide) rfl) cn.nil)) ?_
 refine ak ?_;cases hF;exact ae () [0,1,2,3,4,5,6,8];refine wz ?_;cases hF;exact ae () [0,1,2,3,4,5,6,8];rcases r8 with _|_;rintro⟨⟩;refine ak ?_;cases hF;exact ae () [0,1,3,4,5,6];rintro⟨⟩;refine dz ?_;cases hF;exact ae () [0,7,3,1,4,5,6];refine wz ?_;cases hF;exact ae () [0,3,2,4,5,6];rcases r17 with v13|_;rintro⟨⟩;refine At.br ?_;cases hF;exact UW .nil fun m' hm=>⟨(),(UH (Vd 0 6) rfl rfl) m' hm⟩;rintro⟨⟩;refine At.be ?_;cases hF;exact At.fin .nil fun m' hm=>⟨(),(UH (Vd 0 6) rfl rfl) m' hm⟩;rcases r7 with v12|_;rintro⟨⟩
 change Wk _ _ _ _ .ret _ _ _ _
 refine wz ?_;cases hF;exact UW (.cell (k:=2) bX rfl rfl rfl (.cell (k:=3) bX rfl rfl rfl .nil)) fun m' hm=>⟨(),rfl,(UH [] rfl rfl) m' hm⟩;rintro⟨⟩
 change At _ .normal _ _ _
 refine ak ?_;obtain⟨r18,h44,hF⟩:=J hF;refine wq (fun _ (b5:Nat)=>(.func (.func 151) #[] #[ptr b5 0],(D6 b5 a0 l1 c0 b3 b0 b1 b2 []))) r18 (fun m hm=>?_) ?_;clear hF;revert r18;intro r hF;refine aV (N:=4) (rs:=[.tmp 2]) rfl Tryz.func134 rfl rfl rfl hm ?_;refine wz ?_;refine wb fun b20=>?_;refine ak ?_;refine UB (jT rfl rfl) rfl ?_;refine ak ?_;cases hF;exact ar b20 [0,2,1,3,4,5];rintro b5;refine wz ?_;refine UE ?_;obtain⟨r9,h45,hF⟩:=J hF;refine Wk.range (N:=27) (rs:=[]) (γ:=Unit) (X:=fun g=>(fun(r:(Int) ⊕ (Unit)) (g:Unit)=>(match r,g with | .inl v14,_=>⟨.done,(some .ret),[uk b3 a0 l1 c0,gw a0 c0 l1,Dw b0,eS b1 v14,fx b2 l1]⟩ | .inr _,_=>⟨.ready,none,(uz b3 a0 l1 c0 b0 b1 b2 [])⟩:Rn)) r9 g) rfl rfl Tryz.func151 rfl rfl rfl ?_ (fun y=>by rcases r9 with _|_<;>(intro e; cases e)) ?_
 clear hF;revert r9;intro r hF;intro t2 l2 r0 h46 h10;refine wz ?_;refine UE ?_;obtain⟨r19,h4,hF⟩:=J hF;refine ct (fun(r:(Int) ⊕ (Unit)) (g:Unit)=>match r,g with | .inl v15,_=>⟨.ret,[],[.obj l2 (r0 .done (some .ret)),uk b3 a0 l1 c0,gw a0 c0 l1,Dw b0,eS b1 v15,fx b2 l1]⟩ | .inr _,_=>⟨(.exit 0),[],(.obj l2 (r0 .ready none)::uz b3 a0 l1 c0 b0 b1 b2 [])⟩) r19 ?_ ?_
 refine lo h4 () [0,1,2,3,4,5,6] (fun v0 _=>⟨.normal,[(0,.func (.yield l2) #[] #[]),(1,ptr b5 0),(5,bu a0 l1 c0),(6,dF l1),(7,aM v0)],(.obj l2 (r0 .ready none)::D6 b5 a0 l1 c0 b3 b0 b1 b2 [])⟩) ?_;clear hF h4;rintro v0 ⟨⟩ r hF;unfold sH at hF;refine wz ?_;refine UD ?_;rcases U hF with⟨h47,hF⟩|⟨h47,hF⟩;refine ak ?_;obtain⟨h48,hF⟩:=bJ hF;refine UO (k:=2) rfl (ay h48) ?_;rintro b4 o1 rfl;refine wz ?_;obtain⟨⟨x3,x4⟩,h70,hF⟩:=J hF;refine wz ?_;refine wa iH fun b27=>?_;refine ak ?_;obtain⟨h49,hF⟩:=aA hF;refine UB (aI rfl rfl (cb _ _ h49)) rfl ?_;obtain⟨h71,hF⟩:=bJ hF;refine wz ?_;obtain⟨⟨x10,x11⟩,h72,hF⟩:=J hF;refine wz ?_;refine UB (cD rfl z159 rfl (cE vq rfl rfl rfl)) rfl ?_;obtain⟨r10,h11,hF⟩:=J hF;refine UQ (vP (k:=2) (k1:=0) (γA:=Nat) (GA:=(fun g:Nat=>(match g with|b7=>⟨.normal,((1,ptr b3 0)::pI b0 b1 [(4,ptr b2 0),(9,ptr b7 0)]),(.obj l2 (r0 .ready none)::tN b3 b4 o1 l1 c0 [db b0,db b1,fx b2 l1,gI b7 v0 x3 x4 x10 x11,fP b5 b4 o1 l1 c0])⟩:En))) (γ:=Unit) (G:=fun g=>(fun(r:(Unit) ⊕ (Unit)) (g:Unit)=>(match r,g with | .inl _,_=>⟨.normal,[],(.obj l2 (r0 .busy none)::tN b3 b4 o1 l1 c0 [db b0,db b1,fx b2 l1,fP b5 b4 o1 l1 c0])⟩ | .inr _,_=>⟨.ret,[],(.obj l2 (r0 .busy none)::tN b3 b4 o1 l1 c0 [Dw b0,eS b1 v0,fx b2 l1,fP b5 b4 o1 l1 c0])⟩:En)) r10 g) rfl rfl rfl h10 h46 rfl ?_ (fun _=>rfl) (fun _=>rfl) ?_ (fun y=>by rcases r10 with _|_<;>rfl)) gn rfl ?_
 clear hF h11;refine UG<|wa z159 fun b21=>?_;refine wz ?_;exact ae b21 [3,6,2,5,7,8,9,0,4];clear hF;revert r10;intro r hF;rintro b7;refine wz ?_;obtain⟨r20,h50,hF⟩:=J hF;refine wq (fun _ (b8:Nat)=>(.func (.func 151) #[] #[ptr b8 0],(.obj l2 (r0 .busy none)::tN b8 b4 o1 l1 c0 [fP b3 b4 o1 l1 c0,db b0,db b1,fx b2 l1,fP b5 b4 o1 l1 c0,gI b7 v0 x3 x4 x10 x11]))) r20 (fun m hm=>?_) ?_;clear hF;revert r20;intro r hF;refine aV (N:=4) (rs:=[.tmp 2]) rfl Tryz.func134 rfl rfl rfl hm ?_;refine wz ?_;refine wb fun b22=>?_;refine ak ?_;refine UB (jT rfl rfl) rfl ?_;refine ak ?_;cases hF;exact ar b22 [1,0,3,4,2,5,6,7,9,8];rintro b8;refine wz ?_;refine UE ?_;obtain⟨r11,h51,hF⟩:=J hF;refine Wk.Mi (k0:=0) (N:=27) (rs:=[]) (γ:=Unit) (X:=fun g=>(fun(r:(Unit) ⊕ ((Unit) ⊕ (Unit))) (g:Unit)=>(match r,g with | .inl _,_=>⟨.done,(some (.exit 6)),(.obj l2 (r0 .busy none)::tN b3 b4 o1 l1 c0 [db b0,db b1,fx b2 l1,fP b5 b4 o1 l1 c0,gI b7 v0 x3 x4 x10 x11])⟩ | .inr (.inl _),_=>⟨.done,(some .ret),(.obj l2 (r0 .busy none)::tN b3 b4 o1 l1 c0 [Dw b0,eS b1 v0,fx b2 l1,fP b5 b4 o1 l1 c0,gI b7 v0 x3 x4 x10 x11])⟩ | .inr (.inr _),_=>⟨.ready,none,(.obj l2 (r0 .busy none)::tN b3 b4 o1 l1 c0 [db b0,db b1,fx b2 l1,fP b5 b4 o1 l1 c0,gI b7 v0 x3 x4 x10 x11])⟩:Rn)) r11 g) rfl rfl Tryz.func151 rfl rfl rfl h10 rfl ?_ (fun y=>by rcases r11 with _|_|_<;>(intro e; cases e)) ?_
 clear hF;revert r11;intro r hF;intro t3 l3 r1 h52 h53;refine wz ?_;refine UE ?_;obtain⟨r21,h5,hF⟩:=J hF;refine ct (fun(r:(Unit) ⊕ ((Unit) ⊕ (Unit))) (g:Unit)=>match r,g with | .inl _,_=>⟨.ret,[],(.obj l3 (r1 .done (some (.exit 6)))::.obj l2 (r0 .busy none)::tN b3 b4 o1 l1 c0 [db b0,db b1,fx b2 l1,fP b5 b4 o1 l1 c0,gI b7 v0 x3 x4 x10 x11])⟩ | .inr (.inl _),_=>⟨.ret,[],(.obj l3 (r1 .done (some .ret))::.obj l2 (r0 .busy none)::tN b3 b4 o1 l1 c0 [Dw b0,eS b1 v0,fx b2 l1,fP b5 b4 o1 l1 c0,gI b7 v0 x3 x4 x10 x11])⟩ | .inr (.inr _),_=>⟨(.exit 0),[],(.obj l3 (r1 .ready none)::.obj l2 (r0 .busy none)::tN b3 b4 o1 l1 c0 [db b0,db b1,fx b2 l1,fP b5 b4 o1 l1 c0,gI b7 v0 x3 x4 x10 x11])⟩) r21 ?_ ?_
 refine lo h5 () [0,1,2,3,4,5,6,7,8,9,10] (fun v6 _=>⟨.normal,[(0,.func (.yield l3) #[] #[]),(1,ptr b8 0),(5,nF b4 o1 l1 c0),(6,dF l1),(7,aM v6)],(.obj l3 (r1 .ready none)::.obj l2 (r0 .busy none)::tN b8 b4 o1 l1 c0 [fP b3 b4 o1 l1 c0,db b0,db b1,fx b2 l1,fP b5 b4 o1 l1 c0,gI b7 v0 x3 x4 x10 x11])⟩) ?_;clear hF h5;rintro v6 ⟨⟩ r hF;unfold sI at hF;refine wz ?_;refine UD ?_;rcases U hF with⟨h54,hF⟩|⟨h54,hF⟩;refine ak ?_;obtain⟨h73,hF⟩:=bJ hF;refine wz ?_;obtain⟨⟨x16,x17⟩,h74,hF⟩:=J hF;refine wz ?_;refine wa iH fun b28=>?_;refine ak ?_;obtain⟨h55,hF⟩:=aA hF;refine UB (aI rfl rfl (cb _ _ h55)) rfl ?_;obtain⟨h75,hF⟩:=bJ hF;refine wz ?_;obtain⟨⟨x18,x19⟩,h76,hF⟩:=J hF;refine wz ?_;refine UB (cD rfl z159 rfl (cE vq rfl rfl rfl)) rfl ?_;obtain⟨r12,h12,hF⟩:=J hF;refine UQ (vP (k:=1) (k1:=0) (γA:=Nat) (GA:=(fun g:Nat=>(match g with|b13=>⟨.normal,(pI b0 b1 [(4,ptr b2 0),(9,ptr b7 0),(10,ptr b13 0)]),(.obj l3 (r1 .ready none)::.obj l2 (r0 .busy none)::db b0::db b1::fx b2 l1::gI b7 v0 x3 x4 x10 x11::gI b13 v6 x16 x17 x18 x19::tN b3 b4 o1 l1 c0 [fP b5 b4 o1 l1 c0,fP b8 b4 o1 l1 c0])⟩:En))) (γ:=Unit) (G:=fun g=>(fun(r:(Unit) ⊕ ((Unit) ⊕ (Unit))) (g:Unit)=>(match r,g with | .inl _,_=>⟨(.exit 6),[],(.obj l3 (r1 .busy none)::.obj l2 (r0 .busy none)::tN b3 b4 o1 l1 c0 [db b0,db b1,fx b2 l1,fP b5 b4 o1 l1 c0,gI b7 v0 x3 x4 x10 x11,fP b8 b4 o1 l1 c0])⟩ | .inr (.inl _),_=>⟨.normal,[],(.obj l3 (r1 .busy none)::.obj l2 (r0 .busy none)::tN b3 b4 o1 l1 c0 [db b0,db b1,fx b2 l1,fP b5 b4 o1 l1 c0,gI b7 v0 x3 x4 x10 x11,fP b8 b4 o1 l1 c0])⟩ | .inr (.inr _),_=>⟨.ret,[],(.obj l3 (r1 .busy none)::.obj l2 (r0 .busy none)::tN b3 b4 o1 l1 c0 [Dw b0,eS b1 v0,fx b2 l1,fP b5 b4 o1 l1 c0,gI b7 v0 x3 x4 x10 x11,fP b8 b4 o1 l1 c0])⟩:En)) r12 g) rfl rfl rfl h53 h52 rfl ?_ (fun _=>rfl) (fun _=>rfl) ?_ (fun y=>by rcases r12 with _|_|_<;>rfl)) gn rfl ?_
 clear hF h12;refine UG<|wa z159 fun b23=>?_;refine wz ?_;exact ae b23 [2,3,8,9,10,12,0,7,5,6,11,4];clear hF;revert r12;intro r hF;rintro b13;refine wz ?_;rcases U hF with⟨h56,hF⟩|⟨h56,hF⟩;refine wz ?_;cases hF;exact ae () [0,1,7,8,9,2,3,4,10,5,11];refine wz ?_;refine UD<|UD ?_;obtain⟨v7,h57,hF⟩:=J hF;refine ct (fun v7 (_:Unit)=>⟨.normal,(pI b0 b1 [(4,ptr b2 0),(9,ptr b7 0),(10,ptr b13 0),(109,.bool v7)]),(.obj l3 (r1 .busy none)::.obj l2 (r0 .busy none)::db b0::db b1::fx b2 l1::gI b7 v0 x3 x4 x10 x11::gI b13 v6 x16 x17 x18 x19::tN b3 b4 o1 l1 c0 [fP b5 b4 o1 l1 c0,fP b8 b4 o1 l1 c0])⟩) v7 ?_ ?_;clear hF;revert v7;intro r hF;refine wz ?_;rcases U hF with⟨h58,hF⟩|⟨h58,hF⟩;refine wz ?_;cases hF;exact ae () (Vd 0 12);refine wz ?_;cases hF;exact ae () (Vd 0 12);rintro⟨⟩;refine UM ?_;rcases U hF with⟨h59,hF⟩|⟨h59,hF⟩;refine wz ?_;cases hF;exact ae () [0,1,7,8,9,2,3,4,10,5,11];refine ak ?_;obtain⟨r24,h60,hF⟩:=J hF;refine wc gn (fun m hm=>CF h60 m) ?_;rintro⟨⟩;refine wz ?_;rcases U hF with⟨h13,hF⟩|⟨h13,hF⟩;refine U1 rfl h13<|UD<|UY (prs:=[(1,2)]) (by kernel_rfl)<|UC (aL (r:=ptr b7 0) rfl (pA _ _)) rfl<|U0 rfl (aC (k:=5) bX rfl rfl rfl) rfl<|Wn.Ag rfl (dI (k:=2) bX rfl rfl rfl rfl rfl)<|U4 (dI (k:=3) bX rfl rfl rfl rfl rfl)<|UT (fun m hm=>(cn.rw rfl rfl rfl (hm.ne (i:=5) (j:=2) rfl rfl rfl rfl (by decide) rfl) cn.nil)) ?_
 refine ak ?_;cases hF;exact ae () [0,1,7,8,9,2,3,4,10,5,11];refine wz ?_;cases hF;exact ae () [0,1,7,8,9,2,3,4,10,5,11];rcases r12 with _|_|_;rintro⟨⟩;refine ak ?_;cases hF;exact ae () (Vd 0 10);rintro⟨⟩;refine dz ?_;cases hF;exact ae () [0,1,10,3,4,2,5,6,7,8,9];rintro⟨⟩;refine ak ?_;cases hF;exact ae () (Vd 0 10);refine wz ?_;cases hF;exact ae () [0,1,5,3,4,6,7,8,9,10];rcases r21 with _ | (_|_);rintro⟨⟩;refine At.br ?_;cases hF;exact UW .nil fun m' hm=>⟨(),(UH (Vd 0 10) rfl rfl) m' hm⟩;rintro⟨⟩;refine At.br ?_;cases hF;exact UW .nil fun m' hm=>⟨(),(UH (Vd 0 10) rfl rfl) m' hm⟩;rintro⟨⟩;refine At.be ?_;cases hF;exact At.fin .nil fun m' hm=>⟨(),(UH (Vd 0 10) rfl rfl) m' hm⟩;rcases r11 with _|_|_;rintro⟨⟩
 change Wk _ _ _ _ (.exit 6) _ _ _ _
 refine wz ?_;cases hF;exact ae () (Vd 0 8);rintro⟨⟩
 change Wk _ _ _ _ .ret _ _ _ _
 refine wz ?_;cases hF;exact ae () (Vd 0 8);rintro⟨⟩
 change At _ .normal _ _ _
 refine wz ?_;cases hF;exact ae () (Vd 0 8);rcases r10 with _|_;rintro⟨⟩;refine dz ?_;cases hF;exact ae () [0,7,3,1,4,5,6];rintro⟨⟩;refine ak ?_;cases hF;exact ae () [0,1,3,4,5,6];refine wz ?_;cases hF;exact ae () [0,3,2,4,5,6];rcases r19 with v15|_;rintro⟨⟩;refine At.br ?_;cases hF;exact UW .nil fun m' hm=>⟨(),(UH (Vd 0 6) rfl rfl) m' hm⟩;rintro⟨⟩;refine At.be ?_;cases hF;exact At.fin .nil fun m' hm=>⟨(),(UH (Vd 0 6) rfl rfl) m' hm⟩;rcases r9 with v14|_;rintro⟨⟩
 change Wk _ _ _ _ .ret _ _ _ _
 refine wz ?_;cases hF;exact UW (.cell (k:=2) bX rfl rfl rfl (.cell (k:=3) bX rfl rfl rfl .nil)) fun m' hm=>⟨(),rfl,(UH [] rfl rfl) m' hm⟩;rintro⟨⟩
 change At _ .normal _ _ _
 refine dz ?_;cases hF;exact UW (.cell (k:=2) bX rfl rfl rfl (.cell (k:=3) bX rfl rfl rfl .nil)) fun m' hm=>⟨(),rfl,(UH [] rfl rfl) m' hm⟩
def Ma {n l1 a2 c3 r} (hF:Pk n l1=some r) (m) (h4:dm m a2 c3 l1):
 aD (Vn p q) 81 [bu a2 l1 c3] m (Vi m (.int .i64 r)):=by
 unfold Pk at hF;refine cw Tryz.func81 (UN (UJ m) bP h4) ?_;refine ak ?_;obtain⟨⟨r6,r7⟩,h5,hF⟩:=J hF;refine wc gn (fun m hm=>I6 h5 m (hm.q 0)) ?_;rintro⟨⟩;refine ak ?_;rcases U hF with⟨h8,hF⟩|⟨h8,hF⟩;refine ak ?_;cases hF;exact ar () [];refine dz ?_;cases hF;exact ar () []
def F0 {n l1 a2 c3 r} (hF:NU n l1=some r) (m) (h4:dm m a2 c3 l1):
 aD (Vn p q) 55 [bu a2 l1 c3] m (Vi m (.int .i64 r)):=by
 unfold NU at hF;refine cw Tryz.func55 (UN (UJ m) bP h4) ?_;refine dz ?_;refine UE ?_;obtain⟨v27,h44,hF⟩:=J hF;refine ct (fun v27 (_:Unit)=>⟨(.exit 0),[(3,aM v27)],[]⟩) v27 ?_ ?_;refine lo h44 () [0] (fun(v7,v8) _=>⟨.normal,((0,bu a2 l1 c3)::(3,aM v7)::yZ a2 l1 c3 v8 []),[gw a2 c3 l1]⟩) ?_;clear hF h44;rintro⟨v7,v8⟩ ⟨⟩ r hF;unfold vl at hF;refine wz ?_;refine UD ?_;rcases U hF with⟨h28,hF⟩|⟨h28,hF⟩;refine ak ?_;obtain⟨h29,hF⟩:=bJ hF;refine UO (k:=0) rfl (ay h29) ?_;rintro b30 o31 rfl;refine wz ?_;obtain⟨⟨x32,x33⟩,h34,hF⟩:=J hF;refine wz ?_;refine wa iH fun b35=>?_;refine ak ?_;obtain⟨h36,hF⟩:=aA hF;refine UB (aI rfl rfl (cb _ _ h36)) rfl ?_;obtain⟨h37,hF⟩:=bJ hF;refine wz ?_;obtain⟨⟨x38,x39⟩,h40,hF⟩:=J hF;refine wz ?_;refine wa iH fun b41=>?_;refine ak ?_;refine UB (aI rfl rfl (cu _ _ _)) rfl ?_;refine wz ?_;refine UB (aI rfl rfl (cu _ _ _)) rfl ?_;obtain⟨y42,h43,hF⟩:=J hF;refine UB (aI rfl rfl ((bR _ _ _).trans (cI h43))) rfl ?_;refine ak ?_;cases hF;exact ae () [3];refine wz ?_;cases hF;exact ae () [];rintro⟨⟩;refine dz ?_;obtain rfl:=R2 hF;exact ar () []
def Kh {n x1 x2 x3 x4 x5 x6 x7 x8 r} (hF:HF n x1 x2 x3 x4 x5 x6 x7 x8=some r) (m):
 aD (Vn p q) 137 [fj x1 x2,fj x3 x4,fj x5 x6,fj x7 x8] m (Vi m (.tuple #[.int .i64 r.1,.int .i64 r.2])):=by
 unfold HF at hF;refine cw Tryz.func137 (UJ m) ?_;refine wz ?_;refine wb fun b9=>?_;refine wb fun b10=>?_;refine wb fun b11=>?_;refine wb fun b12=>?_;refine wz ?_;refine UD<|UD ?_;obtain⟨v56,h70,hF⟩:=J hF;refine ct (fun v56 (_:Unit)=>⟨.normal,(qX b9 b10 [(6,ptr b11 0),(7,ptr b12 0),(33,.bool v56)]),[ec b9 x1 x2,ec b10 x3 x4,ec b11 x5 x6,ec b12 x7 x8]⟩) v56 ?_ ?_;clear hF;revert v56;intro r hF;refine wz ?_;obtain⟨r58,h57,hF⟩:=J hF;refine wc gn (fun m hm=>pw h57 m) ?_;rintro⟨⟩;refine wz ?_;rcases U hF with⟨h59,hF⟩|⟨h59,hF⟩;refine wz ?_;cases hF;exact ae () [3,2,1,0];refine wz ?_;obtain⟨r61,h60,hF⟩:=J hF;refine wc (gg rfl rfl (hZ h59)) (fun m hm=>pw h60 m) ?_;rintro⟨⟩;refine wz ?_;rcases U hF with⟨h62,hF⟩|⟨h62,hF⟩;refine wz ?_;cases hF;exact ae () [3,2,1,0];refine wz ?_;obtain⟨r64,h63,hF⟩:=J hF;refine wc (gg rfl rfl (hZ h62)) (fun m hm=>pw h63 m) ?_;rintro⟨⟩;refine wz ?_;rcases U hF with⟨h65,hF⟩|⟨h65,hF⟩;refine wz ?_;cases hF;exact ae () [3,2,1,0];refine wz ?_;obtain⟨r67,h66,hF⟩:=J hF;refine wc (gg rfl rfl (hZ h65)) (fun m hm=>pw h66 m) ?_;rintro⟨⟩;refine wz ?_;rcases U hF with⟨h68,hF⟩|⟨h68,hF⟩;refine wz ?_;cases hF;exact ae () [3,2,1,0];refine wz ?_;refine US (aI rfl rfl (xB Bc (A7 _ _ _ _))) (gg rfl rfl (hZ h68)) rfl ?_;refine wz ?_;rcases U hF with⟨h69,hF⟩|⟨h69,hF⟩;refine wz ?_;cases hF;exact ae () [3,2,1,0];refine wz ?_;refine US (aI rfl rfl (xB Bc (A7 _ _ _ _))) (gg rfl rfl (hZ h69)) rfl ?_;refine wz ?_;cases hF;exact ae () [3,2,1,0];rintro⟨⟩;refine UM ?_;rcases U hF with⟨h72,hF⟩|⟨h72,hF⟩;refine ak ?_;cases hF;exact ar () [];refine ak ?_;refine UB (cD rfl z159 rfl (cE vq rfl rfl rfl)) rfl ?_;refine wz ?_;refine UB (cD rfl z159 rfl (cE vq rfl rfl rfl)) rfl ?_;obtain⟨r74,h73,hF⟩:=J hF;refine wc gn (fun m hm=>CF h73 m) ?_;rintro⟨⟩;refine ak ?_;cases hF;exact ar () []
def IE {n l1 l5 x12 x13 x14 x15 x16 x17 x18 x19 a2 c3 a6 c7} {rr8:Ur} {es9:Un} {r} (hF:GH n l1 l5 x12 x13 x14 x15 x16 x17 x18 x19=some r) (m) (h4:dm m a2 c3 l1) (h10:fh m a6 c7 l5 es9) (h11:(bU ai rr8 l5 es9).P m):
 aD (Vn p q) 113 [dN a2 l1 c3 a6 l5 c7,HK x12 x13 x14 x15,HK x16 x17 x18 x19] m (Vi m (.bool r)):=by
 unfold GH at hF;refine cw Tryz.func113 (UZ (UN (UN (UJ m) bP h4) (bC bP) h10) (bC (bC bP)) h11) ?_;refine wz ?_;refine wb fun b20=>?_;refine wb fun b21=>?_;refine wb fun b22=>?_;refine wz ?_;refine UD<|UD ?_;obtain⟨v39,h44,hF⟩:=J hF;refine ct (fun v39 (_:Unit)=>⟨.normal,((3,ptr b20 0)::qX b21 b22 [(34,.bool v39)]),(cU b20 a2 l1 c3 a6 l5 c7 es9 ai rr8 [fB b21 x12 x13 x14 x15,fB b22 x16 x17 x18 x19])⟩) v39 ?_ ?_;clear hF;revert v39;intro r hF;refine wz ?_;rcases U hF with⟨h40,hF⟩|⟨h40,hF⟩;refine wz ?_;rcases U hF with⟨h41,hF⟩|⟨h41,hF⟩;refine wz ?_;cases hF;exact ae () [2,5,4,3,1,0];refine wz ?_;rcases U hF with⟨h42,hF⟩|⟨h42,hF⟩;refine wz ?_;cases hF;exact ae () [2,5,4,3,1,0];refine wz ?_;cases hF;exact ae () [2,5,4,3,1,0];refine wz ?_;rcases U hF with⟨h43,hF⟩|⟨h43,hF⟩;refine wz ?_;cases hF;exact ae () [2,5,4,3,1,0];refine wz ?_;cases hF;exact ae () [2,5,4,3,1,0];rintro⟨⟩;refine UM ?_;rcases U hF with⟨h46,hF⟩|⟨h46,hF⟩;refine ak ?_;cases hF;exact ar () [];refine ak ?_;obtain⟨h47,hF⟩:=bJ hF;refine UO (k:=1) rfl (ay h47) ?_;rintro b48 o49 rfl;refine wz ?_;obtain⟨⟨x50,x51⟩,h52,hF⟩:=J hF;refine wz ?_;obtain⟨h53,hF⟩:=bJ hF;refine wz ?_;obtain⟨⟨x54,x55⟩,h56,hF⟩:=J hF;refine wz ?_;obtain⟨h57,hF⟩:=bJ hF;refine wz ?_;obtain⟨⟨x58,x59⟩,h60,hF⟩:=J hF;refine wz ?_;obtain⟨h61,hF⟩:=bJ hF;refine wz ?_;obtain⟨⟨x62,x63⟩,h64,hF⟩:=J hF;refine wz ?_;obtain⟨⟨r66,r67⟩,h65,hF⟩:=J hF;refine wc gn (fun m hm=>Kh h65 m) ?_;rintro⟨⟩;refine dz ?_;rcases U hF with⟨h68,hF⟩|⟨h68,hF⟩;refine ak ?_;cases hF;exact ar () [];refine wz ?_;rcases U hF with⟨h69,hF⟩|⟨h69,hF⟩;refine wz ?_;rcases U hF with⟨h70,hF⟩|⟨h70,hF⟩;refine wz ?_;rcases U hF with⟨h71,hF⟩|⟨h71,hF⟩;refine wz ?_;rcases U hF with⟨h72,hF⟩|⟨h72,hF⟩;refine ak ?_;cases hF;exact ar () [];refine ak ?_;cases hF;exact ar () [];refine ak ?_;cases hF;exact ar () [];refine ak ?_;cases hF;exact ar () [];refine dz ?_;cases hF;exact ar () []
end
section
open Go Go.Ab Go.Ab.W
set_option maxRecDepth 10000
set_option maxHeartbeats 4000000
attribute [local irreducible] Wo Wk At Wn Od Ox bp bZ
attribute [local irreducible] Tm.at Trie.set Trie.get Vj.get Vj.set Vj.alloc Vj.ww Vj.kill
variable {p q : Option Prim}
def A3 {n l1 x5 x6 a0 c0 r} (hF:Lj n l1 x5 x6=some r) (m) (h7:dm m a0 c0 l1):
 aD (Vn p q) 62 [bu a0 l1 c0,fj x5 x6] m (Vi m (.int .i64 r)):=by
 unfold Lj at hF;refine cw Tryz.func62 (UN (UJ m) bP h7) ?_;refine wz ?_;refine wb fun b0=>?_;refine dz ?_;refine UE ?_;obtain⟨r1,h0,hF⟩:=J hF;refine ct (fun(r:(Unit) ⊕ (Int)) (g:Unit)=>match r,g with | .inl _,_=>⟨.ret,[(4,.int .i64 1)],[]⟩ | .inr v5,_=>⟨(.exit 0),[(5,aM v5)],[]⟩) r1 ?_ ?_
 refine lo h0 () [1,0] (fun(v1,v0) _=>⟨.normal,((0,bu a0 l1 c0)::(3,ptr b0 0)::(5,aM v1)::zJ a0 l1 c0 v0 []),[gw a0 c0 l1,ec b0 x5 x6]⟩) ?_;clear hF h0;rintro⟨v1,v0⟩ ⟨⟩ r hF;unfold s8 at hF;refine wz ?_;refine UD ?_;rcases U hF with⟨h8,hF⟩|⟨h8,hF⟩;refine wz ?_;refine UD ?_;obtain⟨r0,h9,hF⟩:=J hF;refine ct (fun(r:(Unit) ⊕ (Int)) (g:Unit)=>match r,g with | .inl _,_=>⟨.ret,[(4,.int .i64 1)],[]⟩ | .inr v6,_=>⟨.normal,((0,bu a0 l1 c0)::(3,ptr b0 0)::(5,aM v6)::zJ a0 l1 c0 v0 []),[gw a0 c0 l1,ec b0 x5 x6]⟩) r0 ?_ ?_
 clear hF;revert r0;intro r hF;refine wz ?_;obtain⟨h10,hF⟩:=bJ hF;refine UO (k:=0) rfl (ay h10) ?_;rintro b1 o1 rfl;refine wz ?_;obtain⟨⟨x3,x4⟩,h23,hF⟩:=J hF;refine wz ?_;refine wa iH fun b2=>?_;refine ak ?_;obtain⟨h11,hF⟩:=aA hF;refine UB (aI rfl rfl (cb _ _ h11)) rfl ?_;obtain⟨h24,hF⟩:=bJ hF;refine wz ?_;obtain⟨⟨x10,x11⟩,h25,hF⟩:=J hF;refine wz ?_;refine wa iH fun b3=>?_;refine wz ?_;refine UD<|UG<|UB (aL (r:=ptr b3 0) rfl (dq _ _)) rfl<|UB (aC (k:=0) bX rfl rfl rfl) rfl<|UB (aL (r:=ptr b2 0) rfl (dq _ _)) rfl<|UB (aC (k:=1) bX rfl rfl rfl) rfl<|UB (aI rfl rfl (bR _ _ _)) rfl<|UB (aL (r:=ptr b0 1) rfl (cF _ _)) rfl<|UB (aC (k:=4) bX rfl rfl rfl) rfl<|UB (aL (r:=ptr b2 1) rfl (cF _ _)) rfl<|UB (aC (k:=1) bX rfl rfl rfl) rfl<|UB (aI rfl rfl (bR _ _ _)) rfl ?_;obtain⟨y0,h12,hF⟩:=J hF;refine UB (aI rfl rfl ((cu _ _ _).trans (cI h12))) rfl<|UB (aL (r:=ptr b3 1) rfl (cF _ _)) rfl<|UB (aC (k:=0) bX rfl rfl rfl) rfl<|UB (aL (r:=ptr b2 1) rfl (cF _ _)) rfl<|UB (aC (k:=1) bX rfl rfl rfl) rfl<|UB (aI rfl rfl (bR _ _ _)) rfl<|UB (aL (r:=ptr b0 0) rfl (dq _ _)) rfl<|UB (aC (k:=4) bX rfl rfl rfl) rfl<|UB (aL (r:=ptr b2 0) rfl (dq _ _)) rfl<|UB (aC (k:=1) bX rfl rfl rfl) rfl<|UB (aI rfl rfl (bR _ _ _)) rfl ?_;obtain⟨y1,h13,hF⟩:=J hF;refine UB (aI rfl rfl ((cu _ _ _).trans (cI h13))) rfl ?_;refine wz ?_;refine UE<|UD ?_;obtain⟨v2,h14,hF⟩:=J hF;refine ct (fun v2 (_:Unit)=>⟨.normal,((0,nF b1 o1 l1 c0)::(3,ptr b0 0)::(5,aM v1)::(7,ptr b2 0)::(8,ptr b3 0)::(9,.int .i64 (Ux (y0-y1)))::rG b1 o1 l1 c0 v0 [(48,.bool v2)]),[Ef b1 o1 l1,Dv b1 o1 c0 l1,ec b0 x5 x6,ec b2 x3 x4,ec b3 x10 x11]⟩) v2 ?_ ?_;clear hF;revert v2;intro r hF;refine wz ?_;rcases U hF with⟨h1,hF⟩|⟨h1,hF⟩;refine wz ?_;refine US (eK rfl rfl (ff _ _)) (gg rfl rfl (dC h1)) rfl ?_;refine wz ?_;rcases U hF with⟨h2,hF⟩|⟨h2,hF⟩;refine wz ?_;refine US (eK rfl rfl (km _ _)) (gg rfl rfl (dC h2)) rfl ?_;refine wz ?_;rcases U hF with⟨h3,hF⟩|⟨h3,hF⟩;refine wz ?_;refine US (eK rfl rfl (ff _ _)) (gg rfl rfl (dC h3)) rfl ?_;refine wz ?_;rcases U hF with⟨h4,hF⟩|⟨h4,hF⟩;refine wz ?_;refine US (eK rfl rfl (km _ _)) (gg rfl rfl (dC h4)) rfl ?_;refine wz ?_;cases hF;exact ae () [2,3,4,1,0];refine wz ?_;cases hF;exact ae () [2,3,4,1,0];refine wz ?_;cases hF;exact ae () [2,3,4,1,0];refine wz ?_;cases hF;exact ae () [2,3,4,1,0];refine wz ?_;cases hF;exact ae () [2,3,4,1,0];rintro⟨⟩;refine UM ?_;rcases U hF with⟨h5,hF⟩|⟨h5,hF⟩;refine ak ?_;cases hF;exact ae () [];refine Wk.eT rfl h5<|UD ?_;obtain⟨v3,h15,hF⟩:=J hF;refine ct (fun v3 (_:Unit)=>⟨.normal,((0,nF b1 o1 l1 c0)::(3,ptr b0 0)::(5,aM v1)::(7,ptr b2 0)::(8,ptr b3 0)::(9,.int .i64 (Ux (y0-y1)))::rG b1 o1 l1 c0 v0 [(91,.bool v3)]),[Ef b1 o1 l1,Dv b1 o1 c0 l1,ec b0 x5 x6,ec b2 x3 x4,ec b3 x10 x11]⟩) v3 ?_ ?_;clear hF;revert v3;intro r hF;refine wz ?_;rcases U hF with⟨h16,hF⟩|⟨h16,hF⟩;refine wz ?_;rcases U hF with⟨h17,hF⟩|⟨h17,hF⟩;refine wz ?_;cases hF;exact ae () (Vd 0 5);refine wz ?_;cases hF;exact ae () (Vd 0 5);refine wz ?_;cases hF;exact ae () (Vd 0 5);rintro⟨⟩;refine UM ?_;rcases U hF with⟨h6,hF⟩|⟨h6,hF⟩;refine wz ?_;cases hF;exact ae () [1,2];refine Wk.eT rfl h6<|UD ?_;obtain⟨v4,h18,hF⟩:=J hF;refine ct (fun v4 (_:Unit)=>⟨.normal,((0,nF b1 o1 l1 c0)::(3,ptr b0 0)::(5,aM v1)::rG b1 o1 l1 c0 v0 [(110,.bool v4)]),[Ef b1 o1 l1,Dv b1 o1 c0 l1,ec b0 x5 x6]⟩) v4 ?_ ?_;clear hF;revert v4;intro r hF;refine wz ?_;rcases U hF with⟨h19,hF⟩|⟨h19,hF⟩;refine wz ?_;rcases U hF with⟨h20,hF⟩|⟨h20,hF⟩;refine wz ?_;cases hF;exact ae () [0,1,2];refine wz ?_;cases hF;exact ae () [0,1,2];refine wz ?_;cases hF;exact ae () [0,1,2];rintro⟨⟩;refine UM ?_;rcases U hF with⟨h21,hF⟩|⟨h21,hF⟩;refine wz ?_;cases hF;exact ae () [1,2];refine wz ?_;cases hF;exact ae () [1,2];rcases r0 with _|v6;rintro⟨⟩;refine At.tr ?_;cases hF;exact ae () [];rintro⟨⟩;refine ak ?_;cases hF;exact ae () [0,1];refine wz ?_;cases hF;exact ae () [];rcases r1 with _|v5;rintro⟨⟩;refine wz ?_;cases hF;exact ar () [];rintro⟨⟩;refine ak ?_;rcases U hF with⟨h22,hF⟩|⟨h22,hF⟩;refine ak ?_;cases hF;exact ar () [];refine dz ?_;cases hF;exact ar () []
def Al {n l3 l2 l4 l1 x3 x4 x10 a0 c1 a1 c2} {r0:Ur} {e0:Un} {a3 c3 a2 c0} {r1:Ur} {e1:Un} {r} (hF:IF n l3 l2 l4 l1 x3 x4 x10=some r) (m) (h2:dm m a0 c1 l3) (h3:fh m a1 c2 l2 e0) (h4:(bU ai r0 l2 e0).P m) (h5:lz m a3 c3 l4) (h6:ux m a2 c0 l1 e1) (h7:(bU aY r1 l1 e1).P m):
 aD (Vn p q) 59 [dN a0 l3 c1 a1 l2 c2,dN a3 l4 c3 a2 l1 c0,fj x3 x4,aM x10] m (Vi m (.bool r)):=by
 unfold IF at hF;refine cw Tryz.func59 (UZ (UN (UN (UZ (UN (UN (UJ m) bP h2) (bC bP) h3) (bC (bC bP)) h4) (sG (bC (bC bP))) h5) (bC (sG (bC (bC bP)))) h6) (bC (bC (sG (bC (bC bP))))) h7) ?_;refine wz ?_;refine wb fun b0=>?_;refine wb fun b3=>?_;refine wb fun b1=>?_;refine wb fun b2=>?_;refine wz ?_;refine UD<|UY (prs:=[(4,5)]) (by kernel_rfl)<|UC (aC (k:=3) dA rfl rfl rfl) rfl<|UC (aL (r:=ptr b3 0) rfl (eA _ _)) rfl<|UC (aC (k:=2) jA rfl rfl rfl) rfl<|UC (aC (k:=0) bX rfl rfl rfl) rfl ?_
 obtain⟨l5,h8,hF⟩:=J hF;refine nc gn (fun m hm=>p6 h8 m (hm.q 9) (hm.q 8) (hm.dp (q:=7) rfl) (hm.q 6)) ?_;rintro⟨a4,n0⟩;refine Wn.len (k:=0) (xs:=l5) rfl ?_;rintro rfl;refine UC (aC (k:=2) bQ rfl rfl rfl) rfl ?_;obtain⟨r4,h9,hF⟩:=J hF;refine nc gn (fun m hm=>A3 h9 m (hm.rd (k:=0) rfl (.sl _ _ _ _))) ?_;rintro⟨⟩;refine UC (aI rfl rfl (oR _ _ _)) rfl<|UC (aK rfl) rfl ?_;rcases U hF with⟨h0,hF⟩|⟨h0,hF⟩;refine UU (aL (r:=ptr b3 1) rfl (eu _ _)) (gg rfl rfl (dC h0)) rfl<|UU (aC (k:=3) kO rfl rfl rfl) (gg rfl rfl (dC h0)) rfl<|UU (jT rfl rfl) (gg rfl rfl (dC h0)) rfl ?_;obtain⟨v0,h10,hF⟩:=J hF;refine U3 (kD (α:=Unit) (V:=fun g=>(fun(r:Int) (g:Unit)=>match r,g with|v0,_=>(.int .i64 v0:Us)) v0 g) (N:=fun g=>(fun(r:Int) (g:Unit)=>match r,g with|v0,_=>([]:List Pc)) v0 g) rfl rfl (fun m hm=>?_)) (gg rfl rfl (dC h0)) rfl ?_
 clear hF;revert v0;intro r hF;refine aV (N:=19) (rs:=[.tmp 4]) rfl Tryz.func60 rfl rfl rfl hm ?_;refine ak ?_;refine UE ?_;obtain⟨r3,h1,hF⟩:=J hF;refine ct (fun(r:(Int) ⊕ (Unit)) (g:Unit)=>match r,g with | .inl v2,_=>⟨.ret,[(4,aM v2)],[]⟩ | .inr _,_=>⟨(.exit 0),[],[]⟩) r3 ?_ ?_
 refine lo h1 () [4,10,9,8,1,2,6,5] (fun v3 _=>⟨.normal,((1,.func (.func 95) #[] #[ptr b0 0,ptr b2 0,ptr b1 0])::yZ a2 l1 c0 v3 []),(cU b0 a0 l3 c1 a1 l2 c2 e0 ai r0 (eS b2 x10::ec b1 x3 x4::eL a2 c0 l1 e1 aY r1 []))⟩) ?_;clear hF h1;rintro v3 ⟨⟩ r hF;unfold xI at hF;refine wz ?_;refine UD ?_;rcases U hF with⟨h11,hF⟩|⟨h11,hF⟩;refine ak ?_;obtain⟨h12,hF⟩:=bJ hF;refine UO (k:=6) rfl (ay h12) ?_;rintro b4 o1 rfl;refine wz ?_;obtain⟨l7,h13,hF⟩:=J hF;refine wl 1 0 8 0 h13 ?_;rintro⟨a5,c4⟩;refine ak ?_;obtain⟨v1,h14,hF⟩:=J hF;refine wq (fun v1 (_:Unit)=>(.bool v1,(cU b0 a0 l3 c1 a1 l2 c2 e0 ai r0 (eS b2 x10::ec b1 x3 x4::iY b4 o1 l1 e1 aY r1 c0 [])))) v1 (fun m hm=>?_) ?_;clear hF;revert v1;intro r hF;refine aV (N:=13) (rs:=[.tmp 5]) rfl Tryz.func95 rfl rfl rfl hm ?_;refine wz ?_;refine UD<|UY (prs:=[(3,4)]) (by kernel_rfl)<|UC (aC (k:=2) dA rfl rfl rfl) rfl<|UC (aK rfl) rfl<|UC (aC (k:=6) bX rfl rfl rfl) rfl ?_
 obtain⟨l6,h15,hF⟩:=J hF;refine nc gn (fun m hm=>p6 h15 m (hm.q 3) (hm.q 4) (hm.dp (q:=5) rfl) (hm.q 0)) ?_;rintro⟨a6,n1⟩;refine Wn.len (k:=0) (xs:=l6) rfl ?_;rintro rfl;refine UC (aC (k:=8) bQ rfl rfl rfl) rfl ?_;obtain⟨r5,h16,hF⟩:=J hF;refine nc gn (fun m hm=>A3 h16 m (hm.rd (k:=0) rfl (.sl _ _ _ _))) ?_;rintro⟨⟩;refine UC (aI rfl rfl (jQ _ _)) rfl<|UC (bM rfl) rfl<|UT (fun m hm=>cn.all rfl) ?_;refine ak ?_;cases hF;exact ar () [3,4,5,6,7,8,2,10,9];rintro⟨⟩;refine wz ?_;rcases U hF with⟨h17,hF⟩|⟨h17,hF⟩;refine ak ?_;cases hF;exact ae () [];refine ak ?_;cases hF;exact ae () [0,1,2,3,4,5,8,7];refine wz ?_;cases hF;exact ae () [];rcases r3 with v2|_;rintro⟨⟩;refine wz ?_;obtain rfl:=R2 hF;exact ar () [];rintro⟨⟩;refine dz ?_;cases hF;exact ar () [];rintro⟨⟩;refine UU (aI rfl rfl (gq _ _ _)) (gg rfl rfl (dC h0)) rfl<|UC (qS rfl h0 rfl) rfl<|UC (bM rfl) rfl<|UT (fun m hm=>cn.all rfl) ?_;refine ak ?_;cases hF;exact ar () [];refine UX (gg rfl rfl (nT h0)) rfl<|UX (gg rfl rfl (nT h0)) rfl<|UX (gg rfl rfl (nT h0)) rfl<|UX (gg rfl rfl (nT h0)) rfl<|UX (gg rfl rfl (nT h0)) rfl<|UC (qT rfl h0 rfl) rfl<|UC (bM rfl) rfl<|UT (fun m hm=>cn.all rfl) ?_;refine ak ?_;cases hF;exact ar () []
end
end Go.Proofs.YtmndpgfbkicndaaGreat
