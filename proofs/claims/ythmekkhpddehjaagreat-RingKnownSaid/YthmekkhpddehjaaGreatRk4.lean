/- A part of the proof. -/
import Derived.Test.YthmekkhpddehjaaGreatRk3
import Derived.Shelf.GgSortFunc.RowK
import Derived.Shelf.SlSortCmp.WholeK
import Derived.Shelf.SlGeneric
import Derived.Ground.SlsfProg
import Derived.Test.YthmekkhpddehjaaGreatProg
import Derived.Shelf.SlSortCmp.NoneTotal
import Derived.Lib.Overlaps
import Derived.HandedShaped
section
namespace Go.Proofs.YthmekkhpddehjaaGreat
open Go Go.Ab Go.Ab.W
set_option maxRecDepth 10000
def xI (_:Nat) (x1:Int) (x2:Int):Option (Bool) :=
ob (some (ma (ma (ma x1 (IntKind.wrap .i64 (0-x1))) x2) (IntKind.wrap .i64 (0-x2)))) fun y4 =>
br (decide (1000000<y4)) (
some true) (
some (decide (mi x1 x2 < -1000000)))
def tM (_:Nat) (x1:Int):Option (Bool) :=
some (!decide (x1=x1))
def zk (n:Nat) (x1:Int) (x2:Int):Option (Int) :=
ob (tM n x1) fun r4 =>
ob (tM n x2) fun r6 =>
br (r4) (
br (r6) (
some 0) (
some (-1))) (
br (r6) (
some 1) (
br (decide (x1<x2)) (
some (-1)) (
br (decide (x2<x1)) (
some 1) (
some 0))))
def uN (n:Nat) (x1:Int) (x2:Int) (x3:Int) (x4:Int) (x5:Int) (x6:Int):Option (Int) :=
ob (some (IntKind.wrap .i64 ((IntKind.wrap .i64 (x3-x1))*(IntKind.wrap .i64 (x6-x2))))) fun y10 =>
ob (some (IntKind.wrap .i64 ((IntKind.wrap .i64 (x4-x2))*(IntKind.wrap .i64 (x5-x1))))) fun y12 =>
ob (zk n y10 y12) fun r15 =>
some r15
def kj (_:Nat) (l1:List (Int)):Int→Option ((Int) ⊕ ((Int) ⊕ (Unit))):=fun v6 =>
br (decide (v6<(l1.length:Int))) (
gd (bF v6 l1.length) (
ob (l1[v6.toNat]?) fun x20 =>
br (!decide (x20=0)) (
some (.inr (.inl x20))) (
some (.inl (IntKind.wrap .i64 (v6+1)))))) (
some (.inr (.inr ())))
def CG (n:Nat) (l1:List (Int)):Option (Int) :=
ob (α:=(Int) ⊕ (Unit)) (
cY (kj n l1) n 0) fun r24=>match r24 with
| .inl v15 =>
some v15
| .inr _ =>
some 0
def ze (n:Nat) (x1:Int) (x2:Int) (x3:Int) (x4:Int):Option (Int) :=
ob (zk n x1 x3) fun r8 =>
ob (zk n x2 x4) fun r10 =>
ob (CG n ([r8,r10])) fun r13 =>
some r13
def wE (n:Nat) (_:Int) (x2:Int) (x3:Int) (x4:Int) (x5:Int) (x6:Int) (x7:Int):Option (Bool) :=
ob (uN n x2 x3 x4 x5 x6 x7) fun r11 =>
br (!decide (r11=0)) (
some false) (
ob (
ob (ze n x2 x3 x4 x5) fun r23 =>
br (decide (0<r23)) (
some (x4,x5,x2,x3)) (
some (x2,x3,x4,x5))) fun(v18,v19,v20,v21) =>
ob (ze n v18 v19 x6 x7) fun r28 =>
br (decide (r28≤0)) (
ob (ze n x6 x7 v20 v21) fun r31 =>
some (decide (r31≤0))) (
some false))
def BI (n:Nat) (x2:Int) (x10:Int) (x11:Int) (x5:Int) (x7:Int) (x8:Int) (x9:Int) (x12:Int) (x1:Int) (x6:Int):(List ((Int × Int) × Bool) × Int)→Option ((List ((Int × Int) × Bool) × Int) ⊕ (List ((Int × Int) × Bool))):=fun(l1,v0) =>
br (decide (v0<4)) (
ob (
gd (bF v0 4) (
ob ([(x2,x10),(x11,x5),(x7,x8),(x9,x12)][v0.toNat]?) fun(x3,x4) =>
ob (
ob (wE n x1 x2 x10 x11 x5 x3 x4) fun r0 =>
br (r0) (
ob (wE n x6 x7 x8 x9 x12 x3 x4) fun r1 =>
some r1) (
some false)) fun v1 =>
br (v1) (
some (kB l1 (x3,x4) true)) (
some l1))) fun l2 =>
some (.inl (l2,IntKind.wrap .i64 (v0+1)))) (
some (.inr l1))
def EN (n:Nat) (x1:Int) (x2:Int) (x3:Int) (x4:Int) (x5:Int) (x6:Int) (x7:Int) (x8:Int) (x9:Int) (x10:Int):Option (Int) :=
ob (uN n x2 x3 x4 x5 x7 x8) fun r0 =>
ob (uN n x2 x3 x4 x5 x9 x10) fun r1 =>
ob (uN n x7 x8 x9 x10 x2 x3) fun r2 =>
ob (uN n x7 x8 x9 x10 x4 x5) fun r3 =>
ob (
cY (BI n x2 x3 x4 x5 x7 x8 x9 x10 x1 x6) n (([]:List ((Int × Int) × Bool)),0)) fun l1 =>
ob (some (l1.length)) fun y0 =>
br (decide (1<(y0:Int))) (
some 3) (
ob (some (l1.length)) fun y1 =>
br (decide ((y1:Int)=1)) (
some 1) (
ob (
br (decide (IntKind.wrap .i64 (r0*r1)<0)) (
some (decide (IntKind.wrap .i64 (r2*r3)<0))) (
some false)) fun v0 =>
br (v0) (
some 2) (
some 0)))
def CK (n:Nat) (x1:Int) (x2:Int) (x3:Int) (x4:Int) (x5:Int) (x6:Int) (x7:Int) (x8:Int):Option (Int × Int) :=
ob (
ob (xI n x1 x2) fun r58 =>
br (r58) (
some true) (
ob (xI n x3 x4) fun r61 =>
br (r61) (
some true) (
ob (xI n x5 x6) fun r64 =>
br (r64) (
some true) (
ob (xI n x7 x8) fun r67 =>
br (r67) (
some true) (
br ((decide (x1=x3) && decide (x2=x4))) (
some true) (
some (decide (x5=x7) && decide (x6=x8)))))))) fun v56 =>
br (v56) (
some (0,2)) (
ob (EN n 0 x1 x2 x3 x4 0 x5 x6 x7 x8) fun r74 =>
some (r74,0))
end Go.Proofs.YthmekkhpddehjaaGreat
end

section
namespace Go.Proofs.YthmekkhpddehjaaGreat
open Go Go.Ab Go.Ab.W
def EZ (n:Nat) (x1:Int) (x2:Int) (x3:Int) (x4:Int):Option (Int) :=
ob (ze n x1 x2 x3 x4) fun r8 =>
some r8
end Go.Proofs.YthmekkhpddehjaaGreat
end

section
namespace Go.Proofs.YthmekkhpddehjaaGreat.W51
open Go Go.Ab Go.Ab.W
set_option maxRecDepth 10000
set_option maxHeartbeats 4000000
attribute [local irreducible] Tm.at Trie.set Trie.get AMem.get AMem.set AMem.alloc AMem.ww AMem.kill
theorem aI:TyI kO.P 33 true 2:=⟨by kernel_rfl,by kernel_rfl,by kernel_rfl⟩
theorem cc:∀b o,aN kO.P 33 (ptr b o) 0=some (ptr b (o+0)):=fun _ _=>by kernel_rfl
theorem bz:TyI kO.P 3 false 1:=⟨by kernel_rfl,by kernel_rfl,by kernel_rfl⟩
theorem bC:∀b o,aN kO.P 33 (ptr b o) 1=some (ptr b (o+1)):=fun _ _=>by kernel_rfl
theorem wN:kO.P.underlying 102=some (.slice 3):=by kernel_rfl
theorem dY:SlT kO.P 102 3 1:=SlT.of (by kernel_rfl)
theorem z3:bh kO.P 3=some (.int .i64 0):=by kernel_rfl
theorem kK (n:Nat) (x1:Int)  (r:Bool) (hF:tM n x1=some r) (m:AMem)  :
  aC kO 103 [.int .i64 x1] m (fun v m'=>∃_:Unit,v = .bool r∧Hp m m' []):=by
 unfold tM at hF;refine av (m0:=m) (ps:=[]) (N:=6) (rs:=[.tmp 2]) rfl Tryz.func103 rfl rfl rfl (Hp.start m)<|Wk.seq<|Wk.region<|Wo.od (ah rfl) rfl<|Wo.nil<|At.tn<|Wk.seq<|Wk.region<|Wo.od (U rfl) rfl<|Wo.od (U rfl) rfl<|Wo.od (aj rfl rfl (dm _ _)) rfl<|Wo.od (ah rfl) rfl<|Wo.nil<|At.tn<|Wk.ret ?_;cases hF;exact At.ret (.tmp rfl .nil) fun m' hm=>⟨(),rfl,(ab.aa [] rfl rfl) m' hm⟩
theorem lu (n:Nat) (x1:Int) (x2:Int)  (r:Int) (hF:zk n x1 x2=some r) (m:AMem)  :
  aC kO 83 [.int .i64 x1,.int .i64 x2] m (fun v m'=>∃_:Unit,v = .int .i64 r∧Hp m m' []):=by
 unfold zk at hF;refine av (m0:=m) (ps:=[]) (N:=20) (rs:=[.tmp 4]) rfl Tryz.func83 rfl rfl rfl (Hp.start m)<|Wk.seq<|Wk.region<|Wo.od (ah rfl) rfl<|Wo.nil<|At.tn<|Wk.seq<|Wk.region<|Wo.od (U rfl) rfl ?_;obtain⟨r4,h3,hF⟩:=J hF;refine Wo.x (aM rfl rfl (fun m hm=>kK n x1  _ h3 m) fun _=>rfl) gn rfl ?_;rintro⟨⟩;refine Wo.od (ah rfl) rfl<|Wo.nil<|At.tn<|Wk.seq<|Wk.region<|Wo.od (U rfl) rfl ?_;obtain⟨r6,h5,hF⟩:=J hF;refine Wo.x (aM rfl rfl (fun m hm=>kK n x2  _ h5 m) fun _=>rfl) gn rfl ?_;rintro⟨⟩;refine Wo.od (ah rfl) rfl<|Wo.nil<|At.tn<|Wk.seq<|Wk.seq<|Wk.region<|Wo.od (U rfl) rfl<|Wo.nil<|At.tn ?_;rcases ae hF with⟨h7,hF⟩|⟨h7,hF⟩
 ·refine Wk.ar rfl h7<|Wk.seq<|Wk.seq<|Wk.region<|Wo.od (U rfl) rfl<|Wo.nil<|At.tn ?_;rcases ae hF with⟨h8,hF⟩|⟨h8,hF⟩
  ·refine Wk.ar rfl h8<|Wk.seq<|Wk.region<|Wo.od (ah rfl) rfl<|Wo.nil<|At.tn<|Wk.ret<|At.tr<|At.tr ?_;cases hF;exact At.ret (.tmp rfl .nil) fun m' hm=>⟨(),rfl,(ab.aa [] rfl rfl) m' hm⟩
  ·refine Wk.au rfl h8<|Wk.skip<|At.tn<|Wk.seq<|Wk.region<|Wo.od (ah rfl) rfl<|Wo.nil<|At.tn<|Wk.ret<|At.tr ?_;cases hF;exact At.ret (.tmp rfl .nil) fun m' hm=>⟨(),rfl,(ab.aa [] rfl rfl) m' hm⟩
 ·refine Wk.au rfl h7<|Wk.skip<|At.tn<|Wk.seq<|Wk.seq<|Wk.region<|Wo.od (U rfl) rfl<|Wo.nil<|At.tn ?_;rcases ae hF with⟨h9,hF⟩|⟨h9,hF⟩
  ·refine Wk.ar rfl h9<|Wk.seq<|Wk.region<|Wo.od (ah rfl) rfl<|Wo.nil<|At.tn<|Wk.ret<|At.tr ?_;cases hF;exact At.ret (.tmp rfl .nil) fun m' hm=>⟨(),rfl,(ab.aa [] rfl rfl) m' hm⟩
  ·refine Wk.au rfl h9<|Wk.skip<|At.tn<|Wk.seq<|Wk.seq<|Wk.region<|Wo.od (U rfl) rfl<|Wo.od (U rfl) rfl<|Wo.od (aj rfl rfl (aA _ _ _)) rfl<|Wo.nil<|At.tn ?_;rcases ae hF with⟨h10,hF⟩|⟨h10,hF⟩
   ·refine Wk.ar rfl h10<|Wk.seq<|Wk.region<|Wo.od (ah rfl) rfl<|Wo.nil<|At.tn<|Wk.ret<|At.tr ?_;cases hF;exact At.ret (.tmp rfl .nil) fun m' hm=>⟨(),rfl,(ab.aa [] rfl rfl) m' hm⟩
   ·refine Wk.au rfl h10<|Wk.skip<|At.tn<|Wk.seq<|Wk.seq<|Wk.region<|Wo.od (U rfl) rfl<|Wo.od (U rfl) rfl<|Wo.od (aj rfl rfl (bo _ _ _)) rfl<|Wo.nil<|At.tn ?_;rcases ae hF with⟨h11,hF⟩|⟨h11,hF⟩
    ·refine Wk.ar rfl h11<|Wk.seq<|Wk.region<|Wo.od (ah rfl) rfl<|Wo.nil<|At.tn<|Wk.ret<|At.tr ?_;cases hF;exact At.ret (.tmp rfl .nil) fun m' hm=>⟨(),rfl,(ab.aa [] rfl rfl) m' hm⟩
    ·refine Wk.au rfl h11<|Wk.skip<|At.tn<|Wk.seq<|Wk.region<|Wo.od (ah rfl) rfl<|Wo.nil<|At.tn<|Wk.ret ?_;cases hF;exact At.ret (.tmp rfl .nil) fun m' hm=>⟨(),rfl,(ab.aa [] rfl rfl) m' hm⟩
theorem sY (n:Nat) (l1:List (Int)) (a2:Option Addr) (c3:Nat) (r:Int) (hF:CG n l1=some r) (m:AMem) (h4:Rd m a2 c3 1 l1.length (l1.map (eI .i64))) :
  aC kO 82 [.slice a2 l1.length c3] m (fun v m'=>∃_:Unit,v = .int .i64 r∧Hp m m' []):=by
 unfold CG at hF;refine av (m0:=m) (ps:=[.rd a2 c3 1 l1.length (l1.map (eI .i64))]) (N:=18) (rs:=[.tmp 2]) rfl Tryz.func82 rfl rfl rfl ((Hp.start m).kT rfl h4)<|Wk.seq<|Wk.region<|Wo.od (ah rfl) rfl<|Wo.nil<|At.tn<|Wk.seq<|Wk.region<|Wo.od (ah rfl) rfl<|Wo.nil<|At.tn<|Wk.seq<|Wk.seq<|Wk.region<|Wo.od (U rfl) rfl<|Wo.od (bE (k:=0) wN rfl rfl (.inl rfl)) rfl<|Wo.od (U rfl) rfl<|Wo.nil<|At.tn<|Wk.block ?_;obtain⟨r24,h23,hF⟩:=J hF;refine Wk.cut (G:=(fun(r:(Int) ⊕ (Unit)) (g:Unit)=>match r,g with | .inl v15,_=>⟨.ret,[(2,.int .i64 v15)],[]⟩ | .inr _,_=>⟨(.exit 0),[(3,.int .i64 0)],[]⟩) r24) ?_ ?_
 ·refine Wk.db (fs':=[(3,.int .i64 0),(6,.slice a2 l1.length c3),(7,.int .i64 (l1.length:Int)),(8,.int .i64 0)]) (ps':=[.rd a2 c3 1 l1.length (l1.map (eI .i64))]) (sc rfl (sc rfl (sc rfl (sc rfl sn)))) (ab.aa [0] rfl rfl) ?_;refine Wk.loop (σ:=Int) (ρ:=(Int) ⊕ (Unit)) (γ:=Unit) (δ:=fun _=>Unit) _ (fun(s:Int) (g:Unit)=>match s,g with|v6,_=>⟨.normal,[(3,.int .i64 0),(6,.slice a2 l1.length c3),(7,.int .i64 (l1.length:Int)),(8,.int .i64 v6)],[.rd a2 c3 1 l1.length (l1.map (eI .i64))]⟩) (fun(r:(Int) ⊕ (Unit)) (g:Unit)=>match r,g with | .inl v15,_=>⟨.ret,[(2,.int .i64 v15)],[]⟩ | .inr _,_=>⟨(.exit 0),[(3,.int .i64 0)],[]⟩) ?_ (fun _ _=>rfl) (fun r d=>by rcases r with _|_<;>(intro e; cases e)) _ _ _ h23 ()
  clear hF h23;rintro v6 ⟨⟩ r hF;unfold kj at hF;refine Wk.seq<|Wk.region<|Wo.od (aj rfl rfl (aA _ _ _)) rfl<|Wo.nil<|At.tn<|Wk.seq ?_;rcases ae hF with⟨h16,hF⟩|⟨h16,hF⟩
  ·refine Wk.ar rfl h16<|Wk.skip<|At.tn<|Wk.seq<|Wk.block<|Wk.seq<|Wk.region ?_;obtain⟨h17,hF⟩:=ai hF;replace h17:=ak h17;refine Wo.dy (k:=0) rfl (bp h17) ?_;rintro b18 o19 rfl;refine Wo.og (bB dY rfl rfl h17) gn rfl ?_;obtain⟨x20,h21,hF⟩:=J hF;refine Wo.od (bG (k:=0) bz rfl rfl (aH h21) rfl rfl) rfl<|Wo.od (ah rfl) rfl<|Wo.nil<|At.tn<|Wk.seq<|Wk.region<|Wo.od (U rfl) rfl<|Wo.od (U rfl) rfl<|Wo.od (aj rfl rfl (dm _ _)) rfl<|Wo.nil<|At.tn ?_;rcases ae hF with⟨h22,hF⟩|⟨h22,hF⟩
   ·refine Wk.ar rfl h22<|Wk.seq<|Wk.region<|Wo.od (U rfl) rfl<|Wo.od (ah rfl) rfl<|Wo.nil<|At.tn<|Wk.ret<|At.br<|At.tr ?_;cases hF;exact At.en () rfl (sc rfl sn) (ab.aa [] rfl rfl)
   ·refine Wk.au rfl h22<|Wk.skip<|At.bn<|At.tn<|Wk.region<|Wo.od (aj rfl rfl (ay _ _ _)) rfl<|Wo.od (U rfl) rfl<|Wo.nil ?_;cases hF;exact At.en () rfl (sc rfl (sc rfl (sc rfl (sc rfl sn)))) (ab.aa [1] rfl rfl)
  ·refine Wk.au rfl h16<|Wk.exit<|At.te ?_;cases hF;exact At.en () rfl (sc rfl sn) (ab.aa [] rfl rfl)
 ·clear h23;rcases r24 with v15|_
  ·rintro⟨⟩;refine At.br<|At.tr ?_;have hr:=Option.some.inj hF;subst r;exact At.ret (.tmp rfl .nil) fun m' hm=>⟨(),rfl,(ab.aa [] rfl rfl) m' hm⟩
  ·rintro⟨⟩;refine At.be<|At.tn<|Wk.seq<|Wk.region<|Wo.od (U rfl) rfl<|Wo.od (ah rfl) rfl<|Wo.nil<|At.tn<|Wk.ret ?_;cases hF;exact At.ret (.tmp rfl .nil) fun m' hm=>⟨(),rfl,(ab.aa [] rfl rfl) m' hm⟩
theorem oe (n:Nat) (x1:Int) (x2:Int) (x3:Int) (x4:Int)  (r:Int) (hF:ze n x1 x2 x3 x4=some r) (m:AMem)  :
  aC kO 52 [.agg #[.int .i64 x1,.int .i64 x2],.agg #[.int .i64 x3,.int .i64 x4]] m (fun v m'=>∃_:Unit,v = .int .i64 r∧Hp m m' []):=by
 unfold ze at hF;refine av (m0:=m) (ps:=[]) (N:=17) (rs:=[.tmp 4]) rfl Tryz.func52 rfl rfl rfl (Hp.start m)<|Wk.seq<|Wk.region<|Wo.x (cy rfl) gn rfl fun b5=>?_;refine Wo.x (cy rfl) gn rfl fun b6=>?_;refine Wo.od (ah rfl) rfl<|Wo.nil<|At.tn<|Wk.seq<|Wk.fW (prs:=[(4,6),(4,8)]) (by kernel_rfl)<|Wn.od (aB (r:=ptr b5 0) rfl (cc _ _)) rfl<|Wn.od (al (k:=1) bz rfl rfl rfl) rfl<|Wn.od (aB (r:=ptr b6 0) rfl (cc _ _)) rfl<|Wn.od (al (k:=0) bz rfl rfl rfl) rfl ?_
 obtain⟨r8,h7,hF⟩:=J hF;refine Wn.c (jL rfl rfl (fun m hm=>lu n x1 x3  _ h7 m) fun _=>rfl) gn rfl ?_;rintro⟨⟩;refine Wn.od (aB (r:=ptr b5 1) rfl (bC _ _)) rfl<|Wn.od (al (k:=1) bz rfl rfl rfl) rfl<|Wn.od (aB (r:=ptr b6 1) rfl (bC _ _)) rfl<|Wn.od (al (k:=0) bz rfl rfl rfl) rfl ?_;obtain⟨r10,h9,hF⟩:=J hF;refine Wn.c (jL rfl rfl (fun m hm=>lu n x2 x4  _ h9 m) fun _=>rfl) gn rfl ?_;rintro⟨⟩;refine Wn.x (e6 (es:=([r8,r10]:List (Int)).map (eI .i64)) dY rfl (fa dY z3 rfl rfl) rfl rfl) gn rfl fun b11=>?_;obtain⟨r13,h12,hF⟩:=J hF;refine Wn.c (jL rfl rfl (fun m hm=>sY n ([r8,r10]) (some ⟨b11,0,none⟩) 2 _ h12 m (hm.rd (k:=0) rfl (.arr _ _ _ _ _))) fun _=>rfl) gn rfl ?_;rintro⟨⟩;refine Wn.od (ah rfl) rfl<|Wn.nil (fun m hm=>jg.all rfl)<|At.tn<|Wk.ret ?_;have hr:=Option.some.inj hF;subst r;exact At.ret (.tmp rfl .nil) fun m' hm=>⟨(),rfl,(ab.aa [] rfl rfl) m' hm⟩
theorem CI (n:Nat) (x1:Int) (x2:Int) (x3:Int) (x4:Int)  (r:Int) (hF:EZ n x1 x2 x3 x4=some r) (m:AMem)  :
  aC kO 51 [.agg #[.int .i64 x1,.int .i64 x2],.agg #[.int .i64 x3,.int .i64 x4]] m (fun v m'=>∃_:Unit,v = .int .i64 r∧Hp m m' []):=by
 unfold EZ at hF;refine av (m0:=m) (ps:=[]) (N:=8) (rs:=[.tmp 4]) rfl Tryz.func51 rfl rfl rfl (Hp.start m)<|Wk.seq<|Wk.region<|Wo.x (cy rfl) gn rfl fun b5=>?_;refine Wo.x (cy rfl) gn rfl fun b6=>?_;refine Wo.od (ah rfl) rfl<|Wo.nil<|At.tn<|Wk.seq<|Wk.region<|Wo.od (al (k:=1) aI rfl rfl rfl) rfl<|Wo.od (al (k:=0) aI rfl rfl rfl) rfl ?_;obtain⟨r8,h7,hF⟩:=J hF;refine Wo.x (aM rfl rfl (fun m hm=>oe n x1 x2 x3 x4  _ h7 m) fun _=>rfl) gn rfl ?_;rintro⟨⟩;refine Wo.od (ah rfl) rfl<|Wo.nil<|At.tn<|Wk.ret ?_;have hr:=Option.some.inj hF;subst r;exact At.ret (.tmp rfl .nil) fun m' hm=>⟨(),rfl,(ab.aa [] rfl rfl) m' hm⟩
end Go.Proofs.YthmekkhpddehjaaGreat.W51
end

section
namespace Go.Ab
open Go
end Go.Ab
end

section
namespace Go.Ab.W
open Go Go.Ab
section
variable {σ ρ τ : Type}
end
end Go.Ab.W
end

section
namespace Go.Ab.B
open Go Go.Ab Go.Ab.W
section
variable {α β σ ρ : Type}
theorem fD (a b:Option β):br true a b=a:=rfl
theorem sZ (a b:Option β):br false a b=b:=rfl
theorem dz (a:Option β):gd true a=a:=rfl
theorem aP (x:α) (f:α→Option β):ob (some x) f=f x:=rfl
theorem ey {p:Prop} [Decidable p] (h:p) (a b:Option β):br (decide p) a b=a:=by rw[decide_eq_true h]; rfl
theorem eC {p:Prop} [Decidable p] (h:¬p) (a b:Option β):br (decide p) a b=b:=by rw[decide_eq_false h]; rfl
theorem C7 (c:Bool) (a b:Option β):br c a b=if c then a else b:=by cases c<;>rfl
theorem BD (c d:Bool):br c (some true) (some d)=some (c || d):=by cases c<;>rfl
theorem u0 {p:Prop} [Decidable p] (h:p) (a:Option β):gd (decide p) a=a:=by rw[decide_eq_true h]; rfl
theorem df {i n:Nat} (h:i<n):bF (i:Int) n=true:=decide_eq_true ⟨Int.natCast_nonneg i,by simpa using h⟩
theorem cF {x:Int} (h1 : -9223372036854775808≤x) (h2:x<9223372036854775808):IntKind.wrap .i64 x=x:=wrap_i64 x h1 (by omega)
theorem eE {i:Nat} (h:i<4611686018427387904):IntKind.wrap .i64 ((i:Int)+1)=((i+1:Nat):Int):=by rw[cF (by omega) (by omega)]; rfl
theorem fp {body:σ→Option (σ ⊕ ρ)} {n:Nat} {s s':σ} (h:body s=some (.inl s')):cY body (n+1) s=cY body n s':=by simp only[cY,h]
theorem eJ {body:σ→Option (σ ⊕ ρ)} {n:Nat} {s:σ} {r:ρ} (h:body s=some (.inr r)):cY body (n+1) s=some r:=by simp only[cY,h]
end
theorem uv {u v B C:Int} (_:0≤B) (hu1 : -B≤u) (hu2:u≤B) (hv1 : -C≤v) (hv2:v≤C) : -(B*C)≤u*v∧u*v≤B*C:=by
 have hC:0≤C:=by omega
 have h1:0≤(B-u)*(C-v):=Int.mul_nonneg (by omega) (by omega)
 have h2:0≤(B+u)*(C+v):=Int.mul_nonneg (by omega) (by omega)
 have h3:0≤(B-u)*(C+v):=Int.mul_nonneg (by omega) (by omega)
 have h4:0≤(B+u)*(C-v):=Int.mul_nonneg (by omega) (by omega)
 have e1:(B-u)*(C-v)=B*C-B*v-u*C+u*v:=by rw[Int.sub_mul,Int.mul_sub,Int.mul_sub]; omega
 have e2:(B+u)*(C+v)=B*C+B*v+u*C+u*v:=by rw[Int.add_mul,Int.mul_add,Int.mul_add]; omega
 have e3:(B-u)*(C+v)=B*C+B*v-u*C-u*v:=by rw[Int.sub_mul,Int.mul_add,Int.mul_add]; omega
 have e4:(B+u)*(C-v)=B*C-B*v+u*C-u*v:=by rw[Int.add_mul,Int.mul_sub,Int.mul_sub]; omega
 omega
end Go.Ab.B
end

section
namespace Jd
abbrev P2:=Rat × Rat
def tn (a b c:P2):Rat:=(b.1-a.1)*(c.2-a.2)-(b.2-a.2)*(c.1-a.1)
def af (α β γ:Rat) (x:P2):Rat:=α*x.1+β*x.2+γ
def Sep (a b p q:P2):Prop:=∃α β γ,0<af α β γ a∧0<af α β γ b∧af α β γ p<0∧af α β γ q<0
section
variable {a b p q : P2}
end
def dt (u w x:P2):Rat:=(w.1-u.1)*(x.1-w.1)+(w.2-u.2)*(x.2-w.2)
structure Simple (n:Nat) (v:Nat→P2):Prop where
 n3:2<n
 cl:v n=v 0
 cl1:v (n+1)=v 1
 ne:∀i,i<n→v i≠v (i+1)
 eF:∀i,i<n→tn (v i) (v (i+1)) (v (i+2))≠0∨0<dt (v i) (v (i+1)) (v (i+2))
 sep:∀i j,i<n→j<n→i≠j→j≠i+1→i≠j+1→¬(i=0∧j+1=n)→¬(j=0∧i+1=n)→Sep (v i) (v (i+1)) (v j) (v (j+1))
section
variable {n : Nat} {v : Nat → P2}
end
section
variable {n : Nat} {v : Nat → P2}
end
abbrev I2:=Int × Int
def ti (a b c:I2):Int:=(b.1-a.1)*(c.2-a.2)-(b.2-a.2)*(c.1-a.1)
def Bn (a b p:I2):Prop:=ti a b p=0∧min a.1 b.1≤p.1∧p.1≤max a.1 b.1∧min a.2 b.2≤p.2∧p.2≤max a.2 b.2
instance (a b p:I2):Decidable (Bn a b p):=by unfold Bn; infer_instance
def Lx (a b:I2):Prop:=a.1<b.1∨a.1=b.1∧a.2≤b.2
def GP (a b c d x:I2):Prop:=(x=a∨x=b∨x=c∨x=d)∧Bn a b x∧Bn c d x
def low (a b c d:I2):Int:=if a.1=b.1 then max (min a.2 b.2) (min c.2 d.2)-min (max a.2 b.2) (max c.2 d.2) else max (min a.1 b.1) (min c.1 d.1)-min (max a.1 b.1) (max c.1 d.1)
def di (a b c:I2):Int:=(b.1-a.1)*(c.1-b.1)+(b.2-a.2)*(c.2-b.2)
def NM (a b c d:I2):Prop:=(∀x,¬GP a b c d x)∧¬(((0<ti a b c∧ti a b d<0)∨(ti a b c<0∧0<ti a b d))∧((0<ti c d a∧ti c d b<0)∨(ti c d a<0∧0<ti c d b)))
def nx (r:List I2) (i:Nat):I2:=r.getD (i%r.length) (0,0)
structure VR (r:List I2):Prop where
 n3:2<r.length
 still:∀i,nx r i≠nx r (i+1)
 spike:∀i,¬(ti (nx r i) (nx r (i+1)) (nx r (i+2))=0∧di (nx r i) (nx r (i+1)) (nx r (i+2))<0)
 meet:∀j i,j+1<i→i<r.length→¬(j=0∧i+1=r.length)→NM (nx r j) (nx r (j+1)) (nx r i) (nx r (i+1))
section
variable {a b c d : I2}
end
section
variable {a b c d : I2}
end
end Jd
end

section
namespace Go.Proofs.YthmekkhpddehjaaGreat
open Go Go.Ab Go.Ab.W Go.Ab.B Jd
def td (x:Int):Prop:=-9223372036854775808≤x∧x<9223372036854775808
def Fa (p:I2):Prop:=p.1 < -1000000∨1000000<p.1∨p.2 < -1000000∨1000000<p.2
instance (p:I2):Decidable (Fa p):=by unfold Fa; infer_instance
instance (a b p:I2):Decidable (Bn a b p):=by unfold Bn; infer_instance
theorem sQ (a b:Int):ma a b=max a b:=by unfold ma; split<;>omega
theorem C3 (a b:Int):mi a b=min a b:=by unfold mi; split<;>omega
theorem Be {x:Int} (h:td x):IntKind.wrap .i64 (0-x)=if x = -9223372036854775808 then x else -x:=by
 unfold td at h
 split
 ·rename_i e; subst e; decide
 ·rw[cF (by omega) (by omega)]; omega
theorem CH (n:Nat) {x y:Int} (hx:td x) (hy:td y):xI n x y=some (decide (Fa (x,y))):=by
 unfold xI;rw[Be hx,Be hy,aP,BD,←Bool.decide_or]
 congr 1
 rw[decide_eq_decide];unfold td at hx hy;unfold Fa
 dsimp only
 rw[sQ,sQ,sQ,C3]
 split<;>split<;>omega
def sg (z:Int):Int:=if z<0 then -1 else if 0<z then 1 else 0
theorem sX (n:Nat) (x y:Int):zk n x y=some (sg (x-y)):=by
 unfold zk tM sg;simp only[decide_true,Bool.not_true,aP,sZ]
 by_cases h:x<y
 ·rw[ey h,if_pos (show x-y<0 by omega)]
 ·rw[eC h,if_neg (show ¬x-y<0 by omega)]
  by_cases g:y<x
  ·rw[ey g,if_pos (show 0<x-y by omega)]
  ·rw[eC g,if_neg (show ¬0<x-y by omega)]
def Nr (p:I2):Prop:=-1000000≤p.1∧p.1≤1000000∧-1000000≤p.2∧p.2≤1000000
theorem D9 {p:I2}:¬Fa p↔Nr p:=by unfold Fa Nr; omega
theorem C6 (n:Nat) {a b c:I2} (ha:Nr a) (hb:Nr b) (hc:Nr c):uN n a.1 a.2 b.1 b.2 c.1 c.2=some (sg (ti a b c)):=by
 unfold Nr at ha hb hc;have m1:=uv (B:=2000000) (C:=2000000) (u:=b.1-a.1) (v:=c.2-a.2) (by decide) (by omega) (by omega) (by omega) (by omega)
 have m2:=uv (B:=2000000) (C:=2000000) (u:=b.2-a.2) (v:=c.1-a.1) (by decide) (by omega) (by omega) (by omega) (by omega)
 unfold uN;rw[cF (x:=b.1-a.1) (by omega) (by omega),cF (x:=c.2-a.2) (by omega) (by omega),cF (x:=b.2-a.2) (by omega) (by omega),cF (x:=c.1-a.1) (by omega) (by omega),
  cF (by omega) (by omega),cF (by omega) (by omega),aP,aP,sX,aP]
 rfl
theorem Ap {z:Int}:sg z=0↔z=0:=by unfold sg; split<;>(try split)<;>omega
theorem xR {z:Int}:sg z<0↔z<0:=by unfold sg; split<;>(try split)<;>omega
theorem xC {z:Int}:0<sg z↔0<z:=by unfold sg; split<;>(try split)<;>omega
theorem CF (n:Nat) (r s:Int) (hn:2<n):CG n [r,s]=some (if r≠0 then r else s):=by
 obtain⟨n,rfl⟩:∃n',n=n'+3:=⟨n-3,by omega⟩
 have L0:kj (n+3) [r,s] 0=if r≠0 then some (.inr (.inl r)) else some (.inl 1):=by
  unfold kj;rw[ey (by simp),show bF 0 [r,s].length=true from rfl,dz]
  show ob (some r) _=_
  rw[aP]
  by_cases h:r=0
  ·rw[decide_eq_true h,Bool.not_true,sZ,if_neg (by simpa using h)]; rfl
  ·rw[decide_eq_false h,Bool.not_false,fD,if_pos h]
 have L1:kj (n+3) [r,s] 1=if s≠0 then some (.inr (.inl s)) else some (.inl 2):=by
  unfold kj;rw[ey (by simp),show bF 1 [r,s].length=true from rfl,dz]
  show ob (some s) _=_
  rw[aP]
  by_cases h:s=0
  ·rw[decide_eq_true h,Bool.not_true,sZ,if_neg (by simpa using h)]; rfl
  ·rw[decide_eq_false h,Bool.not_false,fD,if_pos h]
 have L2:kj (n+3) [r,s] 2=some (.inr (.inr ())):=by
  unfold kj;rw[eC (by simp)]
 unfold CG
 by_cases h:r=0
 ·rw[if_neg (by simpa using h)] at L0 ⊢
  rw[fp L0]
  by_cases g:s=0
  ·rw[if_neg (by simpa using g)] at L1
   rw[fp L1,eJ L2,aP,g]
  ·rw[if_pos g] at L1;rw[eJ L1,aP]
 ·rw[if_pos h] at L0 ⊢;rw[eJ L0,aP]
def wC (a b:I2):Int:=if sg (a.1-b.1)≠0 then sg (a.1-b.1) else sg (a.2-b.2)
theorem C1 (n:Nat) (a b:I2) (hn:2<n):ze n a.1 a.2 b.1 b.2=some (wC a b):=by
 unfold ze;rw[sX,aP,sX,aP,CF n _ _ hn,aP]; rfl
end Go.Proofs.YthmekkhpddehjaaGreat
end

section
namespace Go.Ab
open Go
theorem yk {j:aK} {l:List Value} (h:∀x ∈ l,bc x=true):LR j l l :=
 ⟨rfl,fun _ v hi=>⟨v,hi,VR.bc (h v (List.mem_of_getElem? hi))⟩⟩
theorem qV {W W':World} (hc:Calm W W') (hs:W.heap.size≤W'.heap.size) (hold:∀c,c<W.heap.size→W'.heap[c]? = W.heap[c]?):∃q os,W'=Sort.grow (W.drewN q) os:=by
 refine⟨W'.drawn-W.drawn,W'.heap.extract W.heap.size W'.heap.size,?_⟩;have hh:W'.heap=W.heap++W'.heap.extract W.heap.size W'.heap.size:=by
  apply Array.ext_getElem?;intro i;rw[Array.getElem?_append]
  split
  ·exact hold i ‹_›
  ·rw[Array.getElem?_extract]
   split
   ·congr 1; omega
   ·exact Array.getElem?_eq_none (by omega)
 obtain⟨h1,h2,h3,h4⟩:=hc;cases W; cases W';simp only[Sort.grow,World.drewN] at *;subst h1; subst h2; subst h3
 congr 1
 omega
theorem tJ {E:Env} (hE:EnvOk E) (hmono:E.mono:=by trivial) {f:FuncId} {args:List Value} (hp:E.bT f=none) {v:Value} (hpl:∀x ∈ args,bc x=true) (hv:bc v=true)
  (h:aC E f args (my E.glob fun _=>none) fun v' _=>v'=v) {W:World} (hW:E.glob≤W.heap.size) :
  Calls E.P f args.toArray W fun e W'=>e = .returned v∧∃q os,W'=Sort.grow (W.drewN q) os:=by
 obtain⟨v',m',⟨k,hr⟩,rfl⟩:=h;have hm:MR E (vL E.glob) (my E.glob fun _=>none) W:=z1 (Nat.le_refl _) hW fun b cs hb=>by cases hb
 refine callsIn_wide.1 ((kh hE hr hp hm (yk hpl)).mono ?_);rintro e W' ⟨v1,rfl,j',s,hv1⟩;rw[eK hv hv1];refine⟨rfl,qV ⟨s.calm.1,s.calm.2.1,s.calm.2.2.1,s.calm.2.2.2 hmono⟩ s.size fun c hc=>s.frame c hc fun b k hb hl _=>?_⟩;have:(my E.glob fun _=>none).get b=none:=by simp[AMem.get,my,Heap.get_nil]
 rw[this] at hl; cases hl
theorem mF {w:World} {B:Nat} {c:Array Value} {e:TypeId} {fz:Nat × Nat} (h:w.heap[B]? = some (.cells c e fz)) (f:Array Value→Array Value):Sort.mapBlock w B f=w.putObj B (.cells (f c) e fz):=by
 unfold Sort.mapBlock World.putObj
 congr 1
 apply Array.ext_getElem?;intro i;rw[Array.getElem?_modify,Array.getElem?_setIfInBounds]
 by_cases hi:B=i
 ·subst hi;obtain⟨hlt,hv⟩:=Array.getElem?_eq_some_iff.1 h;simp[hlt,hv,Sort.onCells]
 ·simp[hi]
theorem zh {E:Env} {j:aK} {m:AMem} {w:World} (h:MR E j m w) {b:Nat} {k:Blk} (hk:j b=some k) {cs cs':List Value} {tag:Tag} (hg:m.get b=some (.cells cs tag)) (hl:cs'.length=cs.length) (hp:cs'.all aF=true) (n:Nat) (os:Array Obj) :
  Sim E j m w j (m.set b (.cells cs' tag)) (Sort.grow (Sort.putRow id (Sort.ahead w n) k.c 0 cs'.toArray) os):=by
 obtain⟨c,e,fz,h1,h2,h3⟩:=h.jh hk hg;have s1:Sim E j m w j m (Sort.ahead w n):=Sim.of_heap h rfl ⟨rfl,rfl,rfl,Nat.le_add_right _ _⟩;have hle:cs.length≤c.size:=by
  cases tag with
  | ro=>exact Nat.le_of_eq h2.2.symm
  | own=>exact Nat.le_of_eq h2.2.1.symm
  | more sz=>exact h2.2.1
 have hor:OR j k (.cells cs' tag) (.cells (Sort.putCells id 0 cs'.toArray c) e fz):=by
  have hget:∀i,(Sort.putCells id 0 cs'.toArray c)[i]? = if i<cs'.length then(if i<c.size then some cs'[i]! else none) else c[i]?:=by
   intro i;simp only[Sort.putCells,Array.getElem?_mapIdx,Nat.zero_le,true_and,Nat.zero_add,List.size_toArray,Nat.sub_zero,id]
   by_cases hi:i<c.size
   ·rw[Array.getElem?_eq_getElem hi];simp only[Option.map_some]
    by_cases hj:i<cs'.length
    ·simp[hj,hi]
    ·simp[hj]
   ·rw[Array.getElem?_eq_none (by omega)]
    simp[hi]
  refine⟨?_,fun i v hi=>?_⟩
  ·rw[show cs'.length=cs.length from hl]
   refine pK.put h2 (by simp[Sort.putCells]) fun i hi=>?_
   rw[hget,if_neg (by omega)]
  ·have hlt:i<cs'.length:=(List.getElem?_eq_some_iff.1 hi).1;refine⟨v,?_,.aF (List.all_eq_true.1 hp v (List.mem_of_getElem? hi))⟩;rw[hget,if_pos hlt,if_pos (by omega),List.getElem!_eq_getElem?_getD,hi]; rfl
 have s2:=gh s1.mr hk (by rw[hg]; rfl) hor
 have e2:Sort.putRow id (Sort.ahead w n) k.c 0 cs'.toArray=(Sort.ahead w n).putObj k.c (.cells (Sort.putCells id 0 cs'.toArray c) e fz):=mF (w:=Sort.ahead w n) h1 _;rw[e2];refine(s1.trans h s2).trans h (Sim.same s2.mr (fun x hx=>?_) (by simp) ⟨rfl,rfl,rfl,fun _=>Nat.le_refl _⟩)
 show(_++_:Array Obj)[x]? = _
 rw[Array.getElem?_append,if_pos hx]
theorem rr {α:Type} [Inhabited α] {enc:α→List Value} {k:Nat} (hk:∀x,(enc x).length=k) (h0:0<k):∀(l:List α) (t:Nat),t<l.length*k→(l.map enc).flatten[t]! = (enc l[t/k]!)[t%k]!
 | [],t,h=>by simp at h
 | x::l,t,h=>by
  simp only[List.map_cons,List.flatten_cons];rw[List.getElem!_eq_getElem?_getD,List.getElem?_append]
  by_cases ht:t<k
  ·rw[if_pos (by rw[hk]; exact ht),Nat.div_eq_of_lt ht,Nat.mod_eq_of_lt ht,←List.getElem!_eq_getElem?_getD]; rfl
  ·rw[if_neg (by rw[hk]; exact ht),hk,←List.getElem!_eq_getElem?_getD,rr hk h0 l (t-k) (by simp only[List.length_cons,Nat.add_mul,Nat.one_mul] at h; omega)]
   have e1:t/k=(t-k)/k+1:=by rw[Nat.div_eq_sub_div h0 (by omega)]
   have e2:t%k=(t-k)%k:=Nat.mod_eq_sub_mod (by omega)
   rw[e1,e2]; rfl
theorem bJ {α:Type} {enc:α→List Value} {k:Nat} (hk:∀x,(enc x).length=k):∀l:List α,(l.map enc).flatten.length=l.length*k
 | []=>by simp
 | x::l=>by simp only[List.map_cons,List.flatten_cons,List.length_append,List.length_cons,hk,bJ hk l,Nat.add_mul,Nat.one_mul]; omega
theorem jD {α:Type} [Inhabited α] {enc:α→List Value} {k:Nat} (hk:∀x,(enc x).length=k) (h0:0<k) (l:List α):Sort.flatK enc k l.toArray=(l.map enc).flatten.toArray:=by
 refine Sort.ext_get! (by simp[bJ hk]) fun t ht=>?_
 have ht':t<l.length*k:=by simpa using ht
 rw[Sort.get_flatK _ _ _ _ (by simpa using ht')]
 have:=rr hk h0 l t ht';simp at this ⊢;rw[this]
theorem vy {E:Env} {j:aK} {m:AMem} {w:World} (h:MR E j m w) {b:Nat} {k:Blk} (hk:j b=some k) {cs:List Value} {tag:Tag} (hg:m.get b=some (.cells cs tag)) (ht:tag≠.ro) (hp:cs.all aF=true) :
  Sort.Holds id w k.c 0 cs.toArray:=by
 obtain⟨c,e,fz,h1,h2,h3⟩:=h.jh hk hg;have hfz:fz=(0,0):=by
  cases tag with
  | ro=>exact absurd rfl ht
  | own=>exact h2.2.2
  | more sz=>exact h2.2.2.1
 subst hfz;intro i hi;have hi':i<cs.length:=by simpa using hi
 obtain⟨v',g1,g2⟩:=h3 i cs[i] (List.getElem?_eq_getElem hi');have:=dG (List.all_eq_true.1 hp _ (List.getElem_mem hi')) g2;subst this;refine⟨?_,?_⟩
 ·simp only[World.cell?,h1,Nat.zero_add];simp[g1,hi']
 ·simp only[World.frozen?,h1]; simp
end Go.Ab
end

section
namespace Go.Proofs
open Go.Shelf
def Tryz.rX:Go.Shelf.Ren:=⟨fun|6=>50|15=>81|14=>80|28=>101|29=>102|20=>93|21=>94|22=>95|23=>96|24=>97|25=>98|26=>99|27=>100|46=>121|47=>122|48=>123|49=>124|50=>125|57=>143|n=>n,fun|22=>22|24=>33|25=>91|3=>3|39=>117|0=>0|53=>134|55=>136|4=>4|46=>127|45=>126|50=>131|5=>5|9=>9|66=>164|70=>168|76=>187|77=>81|n=>n,fun|n=>n⟩
theorem Tryz.uU:Go.Proofs.SlLaysF0.n6 Tryz.prog Tryz.rX:={
 mixed:=by kernel_rfl
 f6:=⟨Tryz.f50.name,by decide,Tryz.func50.trans (congrArg some (by kernel_rfl))⟩
 f14:=⟨Tryz.f80.name,by decide,Tryz.func80.trans (congrArg some (by kernel_rfl))⟩
 f15:=Tryz.func81.trans (congrArg some (by kernel_rfl))
 f20:=⟨Tryz.f93.name,by decide,Tryz.func93.trans (congrArg some (by kernel_rfl))⟩
 f21:=⟨Tryz.f94.name,by decide,Tryz.func94.trans (congrArg some (by kernel_rfl))⟩
 f22:=⟨Tryz.f95.name,by decide,Tryz.func95.trans (congrArg some (by kernel_rfl))⟩
 f23:=⟨Tryz.f96.name,by decide,Tryz.func96.trans (congrArg some (by kernel_rfl))⟩
 f24:=⟨Tryz.f97.name,by decide,Tryz.func97.trans (congrArg some (by kernel_rfl))⟩
 f25:=⟨Tryz.f98.name,by decide,Tryz.func98.trans (congrArg some (by kernel_rfl))⟩
 f26:=⟨Tryz.f99.name,by decide,Tryz.func99.trans (congrArg some (by kernel_rfl))⟩
 f27:=⟨Tryz.f100.name,by decide,Tryz.func100.trans (congrArg some (by kernel_rfl))⟩
 f28:=Tryz.func101.trans (congrArg some (by kernel_rfl))
 f29:=Tryz.func102.trans (congrArg some (by kernel_rfl))
 f46:=⟨Tryz.f121.name,by decide,Tryz.func121.trans (congrArg some (by kernel_rfl))⟩
 f47:=Tryz.func122.trans (congrArg some (by kernel_rfl))
 f48:=Tryz.func123.trans (congrArg some (by kernel_rfl))
 f49:=⟨Tryz.f124.name,by decide,Tryz.func124.trans (congrArg some (by kernel_rfl))⟩
 f50:=⟨Tryz.f125.name,by decide,Tryz.func125.trans (congrArg some (by kernel_rfl))⟩
 f57:=⟨Tryz.f143.name,by decide,Tryz.func143.trans (congrArg some (by kernel_rfl))⟩
 t0:=Tryz.underlying0
 a0:=Tryz.isAgg0
 z0:=Tryz.sizeOf0
 v0:=Tryz.zeroValue0
 t3:=Tryz.underlying3
 a3:=Tryz.isAgg3
 z3:=Tryz.sizeOf3
 v3:=Tryz.zeroValue3
 t4:=Tryz.underlying4
 a4:=Tryz.isAgg4
 z4:=Tryz.sizeOf4
 v4:=Tryz.zeroValue4
 t5:=Tryz.underlying5
 a5:=Tryz.isAgg5
 z5:=Tryz.sizeOf5
 v5:=Tryz.zeroValue5
 t9:=Tryz.underlying9
 a9:=Tryz.isAgg9
 z9:=Tryz.sizeOf9
 v9:=Tryz.zeroValue9
 t22:=Tryz.underlying22
 a22:=Tryz.isAgg22
 z22:=Tryz.sizeOf22
 v22:=Tryz.zeroValue22
 t25:=Tryz.underlying91
 a25:=Tryz.isAgg91
 z25:=Tryz.sizeOf91
 v25:=Tryz.zeroValue91
 t39:=Tryz.underlying117
 a39:=Tryz.isAgg117
 z39:=Tryz.sizeOf117
 v39:=Tryz.zeroValue117
 t45:=Tryz.underlying126
 a45:=Tryz.isAgg126
 z45:=Tryz.sizeOf126
 v45:=Tryz.zeroValue126
 t46:=Tryz.underlying127
 a46:=Tryz.isAgg127
 z46:=Tryz.sizeOf127
 v46:=Tryz.zeroValue127
 t50:=Tryz.underlying131
 a50:=Tryz.isAgg131
 z50:=Tryz.sizeOf131
 v50:=Tryz.zeroValue131
 t53:=Tryz.underlying134
 a53:=Tryz.isAgg134
 z53:=Tryz.sizeOf134
 v53:=Tryz.zeroValue134
 t55:=Tryz.underlying136
 a55:=Tryz.isAgg136
 z55:=Tryz.sizeOf136
 v55:=Tryz.zeroValue136
 t66:=Tryz.underlying164
 a66:=Tryz.isAgg164
 z66:=Tryz.sizeOf164
 v66:=Tryz.zeroValue164
 t70:=Tryz.underlying168
 a70:=Tryz.isAgg168
 z70:=Tryz.sizeOf168
 v70:=Tryz.zeroValue168
 t76:=Tryz.underlying187
 a76:=Tryz.isAgg187
 z76:=Tryz.sizeOf187
 v76:=Tryz.zeroValue187
 t77:=Tryz.underlying81
 a77:=Tryz.isAgg81
 z77:=Tryz.sizeOf81
 v77:=Tryz.zeroValue81}
end Go.Proofs
end

section
namespace Go.Proofs.YthmekkhpddehjaaGreat
open Go Go.Ab Go.Ab.W Go.Ab.B Jd
set_option maxRecDepth 10000
theorem zJ (x y:Int × Int):EZ 5 x.1 x.2 y.1 y.2=some (wC x y):=by
 unfold EZ;rw[C1 5 x y (by decide),aP]
theorem wh (x y:Int × Int) {W:World} :
  Calls Tryz.prog 51 #[.agg (j8 x).toArray,.agg (j8 y).toArray] W fun e W'=>e = .returned (.int .i64 (wC x y))∧∃q os,W'=Sort.grow (W.drewN q) os :=
 tJ (E:=kO) qH (hmono:=trivial) (f:=51) (args:=[.agg #[.int .i64 x.1,.int .i64 x.2],.agg #[.int .i64 y.1,.int .i64 y.2]]) rfl (by intro v hv; simp at hv; rcases hv with rfl|rfl<;>rfl) rfl
  ((W51.CI 5 x.1 x.2 y.1 y.2 _ (zJ x y) _).mono fun v m' ⟨_,h,_⟩=>h) (Nat.zero_le _)
theorem D3 (x y:Int × Int):Go.Proofs.ltOf wC x y=decide (x.1<y.1∨x.1=y.1∧x.2<y.2):=by
 unfold Go.Proofs.ltOf wC;have h1:=xR (z:=x.1-y.1);have h2:=xR (z:=x.2-y.2);have h3:=Ap (z:=x.1-y.1)
 congr 1
 apply propext
 split<;>omega
theorem E7:Go.Sort.SWO (Go.Proofs.ltOf wC) where
 irrefl x:=by rw[D3]; simp
 trans x y z h1 h2:=by rw[D3] at *; simp only[decide_eq_true_eq] at *; omega
 ntrans x y z h1 h2:=by rw[D3] at *; simp only[decide_eq_false_iff_not] at *; omega
theorem FH (x y:Int × Int) (h1:Go.Proofs.ltOf wC x y=false) (h2:Go.Proofs.ltOf wC y x=false):x=y:=by
 rw[D3] at h1 h2;simp only[decide_eq_false_iff_not] at h1 h2;exact Prod.ext (by omega) (by omega)
theorem wg (lW off size:Nat) (w:World):Go.Proofs.CmpLays Tryz.prog 51 #[] j8 2 wC lW off size w :=
 fun _ _ _ _ x y=>wh x y
end Go.Proofs.YthmekkhpddehjaaGreat
end

section
namespace Go.Ab
open Go
section
variable {E : Env} {j : aK} {m : AMem} {w : World}
theorem VR.at {b o l c:Nat} {v':Value} (h:VR j (.slice (some ⟨b,o,none⟩) l c) v'):∃k c',j b=some k∧v' = .slice (some ⟨k.c,o,none⟩) l c':=by
 cases h with
 | slice hj hm=>exact⟨_,_,hj,rfl⟩
 | sliceM hj hm _ _ _ _=>exact⟨_,_,hj,rfl⟩
end
end Go.Ab
end

section
namespace Go.Proofs.YthmekkhpddehjaaGreat
open Go Go.Ab Go.Ab.W
set_option maxRecDepth 10000
theorem xa:(fun x y=>!(Go.Proofs.ltOf wC) y x)=cz:=by
 funext x y
 show(!(Go.Proofs.ltOf wC) y x)=cz x y
 rw[D3]; unfold cz;rw[←decide_not]
 congr 1
 apply propext; omega
theorem lL:∀l:List (Int × Int),cd (l.map j8).flatten=some l
 | []=>rfl
 | (a,b)::l=>by
  show(cd (l.map j8).flatten).map _=_
  rw[lL l]; rfl
theorem hZ:∀{cs:List Value} {l:List (Int × Int)},cd cs=some l→cs=(l.map j8).flatten
 | [],l,h=>by cases h; rfl
 | .int .i64 a::.int .i64 b::r,l,h=>by
  have h':(cd r).map ((a,b)::·)=some l:=h;cases hr:cd r with
  | none=>rw[hr] at h'; cases h'
  | some l' =>
   rw[hr] at h'; cases h';rw[hZ hr]; rfl
 | [_],_,h=>by unfold cd at h; split at h<;>simp_all
 | _::_::_,l,h=>by
  unfold cd at h
  split at h
  ·rename_i e; cases e
  ·rename_i a b r e;rw[e];cases hr:cd r with
   | none=>rw[hr] at h; cases h
   | some l' =>
    rw[hr] at h; cases h;rw[hZ hr]; rfl
  ·cases h
theorem sD {m:AMem} {b n n':Nat} {cs:List Value} {tg:Tag} (h:oD m b n n'=some (cs,tg)):m.get b=some (.cells cs tg)∧tg≠.ro∧n=n'∧cs.length=n*2∧cs.all aF=true:=by
 unfold oD at h
 split at h
 ·rename_i cs' hg
  split at h
  ·rename_i hc; cases h; exact⟨hg,(by intro e; cases e),hc⟩
  ·cases h
 ·rename_i cs' hg
  split at h
  ·rename_i hc; cases h; exact⟨hg,(by intro e; cases e),hc⟩
  ·cases h
 ·cases h
theorem sj {j:aK} {f:FuncId} {xs ys:Array Value} {v:Value} (h:VR j (.func (.func f) xs ys) v) (h1:xs.size=0) (h2:ys.size=0):v = .func (.func f) #[] #[]:=by
 cases h with
 | @func _ _ ys' _ ds a _ c _ =>
  have e1:ys'=#[]:=Array.eq_empty_of_size_eq_zero (a.symm.trans h1);have e2:ds=#[]:=Array.eq_empty_of_size_eq_zero (c.symm.trans h2);rw[e1,e2]
theorem zO (w:World):(isAgg 33).run Tryz.prog w = .ok true w:=by rw[jq (by kernel_rfl) w,show cZ Tryz.prog 33=true by kernel_rfl]
theorem xd (w:World):(Go.sizeOf 33).run Tryz.prog w = .ok 2 w:=by rw[bQ (by kernel_rfl) w,show aq Tryz.prog 33=2 by kernel_rfl]
theorem CA {n:Nat} (h:lim n=true):n≤1073741824:=Nat.le_of_ble_eq_true h
theorem oI (l:List (Int × Int)):((l.map j8).flatten).all aF=true:=by
 induction l with
 | nil=>rfl
 | cons x l ih=>rw[List.map_cons,List.flatten_cons,List.all_append,ih]; rfl
theorem Al:∀args w,(callFunc 51 args).run Tryz.prog w = .ok (.enter 51 args) w:=fun args w=>qH.call 51 _ _ Tryz.func51 rfl args w
theorem rP {pr:Bool} {args:List Value} {m m':AMem} {v:Value} (h:hY args m=some (v,m')) {j:aK} {w:World} {args':List Value} (hm:MR oY j m w) (hl:LR j args args') :
  fR oY.P pr 50 args'.toArray w (iC oY j m w v m'):=by
 have hcall:∀args w,(callFunc 50 args).run Tryz.prog w = .ok (.enter 50 args) w:=fun args w=>qH.call 50 _ _ Tryz.func50 rfl args w;unfold hY at h
 split at h
 ·rename_i c xs ys
  split at h
  ·rename_i hc; cases h;obtain⟨v0,vs,rfl,h1,hvs⟩:=hl.cons_inv;obtain⟨v1,v2,rfl,h2,h3⟩:=hvs.cons_inv;obtain rfl:=h3.cw;have e0:=sj h2 hc.1 hc.2;subst e0;cases h1;have hcon:=Go.Proofs.AnyF.slices_SortFunc_none Tryz.uU none c (.func (.func 51) #[] #[]) w
   change Calls Tryz.prog 50 _ _ _ at hcon
   refine .inl ⟨hcall _ _,callsIn_wide.2 ?_⟩;refine Calls.mono hcon ?_;rintro e w' ⟨rfl,rfl⟩;exact⟨_,rfl,j,.refl hm,VR.undef j⟩
  ·cases h
 ·rename_i b n n' xs ys
  split at h
  ·rename_i cs tg hcs;obtain⟨hg,htg,rfl,hcl,hp⟩:=sD hcs
   split at h
   ·rename_i l h4
    split at h
    ·rename_i hc; cases h;obtain⟨⟨h5,h6⟩,hlim⟩:=hc;obtain⟨v0,vs,rfl,h1,hvs⟩:=hl.cons_inv;obtain⟨v1,v2,rfl,h2,h3⟩:=hvs.cons_inv;obtain rfl:=h3.cw;have e0:=sj h2 h5 h6;subst e0;obtain⟨k,c',hk,rfl⟩:=h1.at
     have h0:∀x,(j8 x).length=2:=fun _=>rfl;have ecs:=hZ h4;have hlen:l.length=n:=by
      have:=bJ h0 l;rw[←ecs,hcl] at this; omega
     have hH:Go.Sort.HoldsK j8 2 w k.c 0 l.toArray:=by
      unfold Go.Sort.HoldsK;rw[jD h0 (by decide),←ecs]
      exact vy hm hk hg htg hp
     have hcon:=Go.Proofs.AnyQ.slices_SortFunc_total Tryz.uU 2 (fun w=>zO w) (fun w=>xd w) j8 h0 (fun x v hv=>by simp[j8,eP,eI] at hv; rcases hv with rfl|rfl<;>rfl) wC E7 51 #[] k.c 0 c' l.toArray w Al
      (wg _ _ _ _) hH (hm.lt b k hk).2 (by have:=CA hlim; simp; omega) FH
     change Calls Tryz.prog 50 _ _ _ at hcon
     rw[xa] at hcon;simp only[List.size_toArray,hlen] at hcon;refine .inl ⟨hcall _ _,callsIn_wide.2 ?_⟩;refine Calls.mono hcon ?_;rintro e w' ⟨rfl,q,os,rfl⟩;refine⟨_,rfl,j,?_,VR.undef j⟩;unfold Go.Proofs.sortWorldK Go.Sort.putRowK;rw[jD h0 (by decide)]
     exact zh hm hk hg (by rw[bJ h0,hcl,List.length_mergeSort,hlen]) (oI _) q os
    ·cases h
   ·cases h
  ·cases h
 ·cases h
end Go.Proofs.YthmekkhpddehjaaGreat
end

section
namespace Go.Proofs.YthmekkhpddehjaaGreat
open Go Go.Ab
theorem Bw:EnvOk oY:=sL sB fun f p hp args m v m' hrun j w args' hm hl=>by
 have hp':z6 f=some p:=hp;unfold z6 at hp'
 split at hp'
 ·rename_i hf;subst hf;cases hp';exact oS hrun hm hl
 ·split at hp'
  ·rename_i hf;subst hf;cases hp';exact kI (E:=oY) tE (fun x y c w hc=>Av Tryz.func144 (by kernel_rfl) (by kernel_rfl) (by kernel_rfl) (by kernel_rfl) x y c w hc) rfl hrun hm hl
  ·split at hp'
   ·rename_i hf;subst hf;cases hp';exact kI (E:=oY) sT (fun x y c w hc=>zg Tryz.func145 (by kernel_rfl) (by kernel_rfl) (by kernel_rfl) (by kernel_rfl) x y c w hc) rfl hrun hm hl
   ·cases hp'
theorem wj:∃fuel m',run oY fuel (.call 18 [] m14)=some (.val (.bool true) m')∧0≤m'.wl:=qW (E:=oY) (F:=p7) (n:=1000) (g:=0) wx tC
theorem pY {args:List Value} {m m':AMem} {v:Value} (h:kS args m=some (v,m')) {j:aK} {w:World} {args':List Value} (hm:MR oY j m w) (hl:LR j args args') :
  fR oY.P (oY.bT 18).isSome 18 args'.toArray w (iC oY j m w v m'):=by
 unfold kS at h
 split at h
 ·cases h;obtain⟨fuel,m0,h1,h2⟩:=wj;exact qu (E:=oY) (gs:=fun _=>none) Bw (fun x c h=>by cases h) h1 h2 rfl hm (fun x c hx hg=>by cases hg) hl
 ·cases h
theorem Aa:EnvOk aE:=tv (E:=oY) Bw (pr:=xu) fun f p hp=>by
 unfold xu at hp
 split at hp
 ·rename_i e;cases hp;subst e;exact .inr fun args m v m' h j w args' hm hl=>pY h hm hl
 ·split at hp
  ·rename_i e;cases hp;subst e;exact .inr fun args m v m' h j w args' hm hl=>rP h hm hl
  ·exact .inl hp
end Go.Proofs.YthmekkhpddehjaaGreat
end

section
namespace Go.Proofs.YthmekkhpddehjaaGreat
set_option maxRecDepth 100000
open Go Go.ChangeShapes Go.WideShapes Go.ChangeAt Go.WideMaps Go.WideElems Go.RowKit Go.Ab Go.Ab.W
section
variable {H : Type} {enc : TypeId × Value → H} {W : World} {sp : Nat → Bool} {held : Bool} {v : Value} {d : DataW H} {p : List MemPlace} {base : Nat}
end
theorem DF:laidOutB Tryz.prog=true:=by kernel_rfl
theorem Ak:mapsRowed Tryz.prog=true:=by kernel_rfl
theorem zr:sizedB Tryz.prog=true:=by kernel_rfl
theorem vo {H:Type} {enc:TypeId × Value→H} {f:FuncId} {fn:Func} {s:ChangeSpec} {W:World} {args:Array Value} {ds:List (DataW H)} {before:List MemPlace} {tb:TypeId} {fresh handsOn:Bool} {absArgs:List Value} (hpr:aE.bT f=none)
  (hvars:s.vars = []) (hres:fn.resultTypes.toList = [tb]) (hrs:fn.resultTypes.size=1) (htb:Tryz.prog.underlying tb=some .bool) (hpt:∀t ∈ fn.params.toList,t<Tryz.prog.types.size) (hfn:s.fn H ds = { results:=[.lit (.bool true)],args:=ds,vars:=[]})
  (hW:DataW.Whole enc Tryz.prog fn.params.toList s.vars false W args.toList ds [] before)
  (hl:LR (iG W) absArgs args.toList) (hc:aC aE f absArgs (fJ W) (fun v m'=>∃_:Unit,v = .bool true∧Hp (fJ W) m' [])) :
  Calls Tryz.prog f args W fun e W'=>∃v,e = .returned v∧s.post enc Tryz.prog fn false fresh handsOn false W args v W':=by
 obtain⟨v,m',⟨fuel,hrun⟩,_,rfl,hm'⟩:=hc;have hm:MR aE (iG W) (fJ W) W:=Ct (Nat.zero_le _);have hcall:=callsIn_wide.1 (kh Aa hrun hpr hm hl);refine hcall.mono fun e W' ⟨v',he,j',sm,hv⟩=>?_;have hv':v' = .bool true:=dG rfl hv;subst hv';have hwl:(fJ W).next≤m'.wl:=by
  have h1:=hm'.ext.wl;have h2:min (fJ W).wl (fJ W).next=(fJ W).next:=Nat.min_self _
  omega
 exact⟨_,he,yL DF Ak zr hvars hres hrs htb hpt hfn hW sm.calm (sm.grown hm hwl)⟩
theorem xF {W:World} (h:W.ShapedOpen Tryz.prog):0<W.heap.size:=by
 unfold World.ShapedOpen at h;obtain⟨_,h2⟩:=h;have e:((begin Tryz.prog (fun _ _=>0) default).world).heap.size=Tryz.prog.globals.size+5:=by
  unfold begin; simp only[Array.size_push,Array.size_mapIdx]
 obtain⟨o,o0,h3,_⟩:=h2 Tryz.prog.globals.size (Nat.le_refl _) (by rw[e]; omega)
 exact Nat.lt_of_le_of_lt (Nat.zero_le _) (Array.getElem?_eq_some_iff.1 h3).1
section
variable {H : Type} {enc : TypeId × Value → H} {W : World} {sp : Nat → Bool} {held : Bool} {v : Value} {d : DataW H} {p : List MemPlace} {base : Nat}
end
end Go.Proofs.YthmekkhpddehjaaGreat
end

section
namespace Go.Proofs.YthmekkhpddehjaaGreat
open Go Go.Ab Go.Ab.W
set_option maxRecDepth 10000
def Fk (_:Nat) (l1:List (Nat)) (_:Int) (_:Int) (_:Nat) (_:Bool) (_:Bool) (x10:Int):Option (Int) :=
br (decide ((l1.length:Int)=0)) (
some (Int.tmod x10 3)) (
gd (decide ((l1.length:Int)≠0)) (
gd (bF (Int.tmod x10 (l1.length:Int)) l1.length) (
ob (l1[(Int.tmod x10 (l1.length:Int)).toNat]?) fun x17 =>
some (IntKind.wrap .i64 ((x17:Nat):Int)))))
def Es (n:Nat) (l3:List (Nat)) (x5:Int) (x6:Int) (x7:Nat) (x8:Bool) (x9:Bool):(List (Int × Int) × List (Int × Int) × Int)→Option ((List (Int × Int) × List (Int × Int) × Int) ⊕ (List (Int × Int))):=fun(l1,l2,v0) =>
br (decide (v0<12)) (
ob (
ob (Fk n l3 x5 x6 x7 x8 x9 v0) fun r0 =>
ob (
br (decide (Int.tmod r0 6=0)) (
some (!decide (Int.tmod v0 3=0))) (
some false)) fun v1 =>
br (v1) (
some l1) (
gd (bF v0 12) (
ob (l2[v0.toNat]?) fun(x3,x4) =>
ob (some (IntKind.wrap .i64 (x3*(IntKind.wrap .i64 (1+(Int.tmod (Int.tmod r0 6) 5)))))) fun y0 =>
gd (bF v0 12) (
ob (some (IntKind.wrap .i64 (x4*(IntKind.wrap .i64 (1+(Int.tmod (Int.tmod r0 6) 5)))))) fun y1 =>
gd (lim (l1++[(y0,y1)]).length) (
some (l1++[(y0,y1)])))))) fun l4 =>
some (.inl (l4,l2,IntKind.wrap .i64 (v0+1)))) (
some (.inr l1))
def EH (_:Nat) (v1:Int) (r0:Int):(List (Int × Int) × Nat × Int)→Option ((List (Int × Int) × Nat × Int) ⊕ (List (Int × Int) × Nat)):=fun(l1,n0,v0) =>
br (decide (v1≤v0)) (
ob (
gd (bF (IntKind.wrap .i64 ((n0:Int)-1)) n0) (
ob (l1[(IntKind.wrap .i64 ((n0:Int)-1)).toNat]?) fun(x3,x4) =>
br (!(decide (x3=v0) && decide (x4=IntKind.wrap .i64 (1+(Int.tmod r0 5))))) (
gd (lim (l1++[(v0,IntKind.wrap .i64 (1+(Int.tmod r0 5)))]).length) (
some ((l1++[(v0,IntKind.wrap .i64 (1+(Int.tmod r0 5)))]),(l1++[(v0,IntKind.wrap .i64 (1+(Int.tmod r0 5)))]).length))) (
some (l1,n0)))) fun(l2,n1) =>
some (.inl (l2,n1,IntKind.wrap .i64 (v0-1)))) (
some (.inr (l1,n0)))
def DA (n:Nat) (l2:List (Nat)) (x5:Int) (x6:Int) (x7:Nat) (x8:Bool) (x9:Bool):(List (Int × Int) × Nat × Int)→Option ((List (Int × Int) × Nat × Int) ⊕ (List (Int × Int) × Nat)):=fun(l1,n0,v0) =>
br (decide (0≤v0)) (
ob (Fk n l2 x5 x6 x7 x8 x9 (IntKind.wrap .i64 (v0+1))) fun r0 =>
ob (
cY (EH n v0 r0) n (l1,n0,IntKind.wrap .i64 (v0+1))) fun(l3,n1) =>
some (.inl (l3,n1,IntKind.wrap .i64 (v0-1)))) (
some (.inr (l1,n0)))
def GO (n:Nat) (l1:List (Nat)) (x5:Int) (x6:Int) (x7:Nat) (x8:Bool) (x9:Bool):Option (List (Int × Int)) :=
br (!x8) (
ob (
cY (Es n l1 x5 x6 x7 x8 x9) n (([]:List (Int × Int)),([(2,0),(2,1),(1,2),(0,2),(-1,2),(-2,1),(-2,0),(-2,-1),(-1,-2),(0,-2),(1,-2),(2,-1)]:List (Int × Int)),0)) fun l2 =>
some l2) (
ob (Fk n l1 x5 x6 x7 x8 x9 0) fun r0 =>
ob (
cY (DA n l1 x5 x6 x7 x8 x9) n ([(0,0),(IntKind.wrap .i64 (1+(Int.tmod r0 6)),0)],2,IntKind.wrap .i64 ((IntKind.wrap .i64 (1+(Int.tmod r0 6)))-1))) fun(l3,_) =>
some l3)
def Gq (_:Nat) (x1:Int) (x2:Int):Option (Bool) :=
br (decide (x1 < -1000000)) (
some true) (
br (decide (1000000<x1)) (
some true) (
br (decide (x2 < -1000000)) (
some true) (
some (decide (1000000<x2)))))
def Bi (_:Nat) (l1:List (Int × Int)) (x5:Int):Option (Int × Int) :=
gd (decide ((l1.length:Int)≠0)) (
gd (bF (Int.tmod x5 (l1.length:Int)) l1.length) (
ob (l1[(Int.tmod x5 (l1.length:Int)).toNat]?) fun(x11,x12) =>
some (x11,x12)))
def Bg (_:Nat) (x1:Int) (x2:Int) (x3:Int) (x4:Int) (x5:Int) (x6:Int):Option (Int) :=
ob (some (IntKind.wrap .i64 ((IntKind.wrap .i64 (x3-x1))*(IntKind.wrap .i64 (x6-x2))))) fun y10 =>
ob (some (IntKind.wrap .i64 ((IntKind.wrap .i64 (x4-x2))*(IntKind.wrap .i64 (x5-x1))))) fun y12 =>
some (IntKind.wrap .i64 (y10-y12))
def GD (_:Nat) (x1:Int) (x2:Int) (x3:Int) (x4:Int) (x5:Int) (x6:Int):Option (Int) :=
ob (some (IntKind.wrap .i64 ((IntKind.wrap .i64 (x3-x1))*(IntKind.wrap .i64 (x5-x3))))) fun y10 =>
ob (some (IntKind.wrap .i64 ((IntKind.wrap .i64 (x4-x2))*(IntKind.wrap .i64 (x6-x4))))) fun y12 =>
some (IntKind.wrap .i64 (y10+y12))
def EW (_:Nat) (x1:Int):Option (Int) :=
br (decide (0<x1)) (
some 1) (
br (decide (x1<0)) (
some (-1)) (
some 0))
def EC (n:Nat) (x1:Int) (x2:Int) (x3:Int) (x4:Int) (x5:Int) (x6:Int):Option (Bool) :=
ob (Bg n x1 x2 x3 x4 x5 x6) fun r11 =>
br (!decide (r11=0)) (
some false) (
br (decide (mi x1 x3≤x5)) (
br (decide (x5≤ma x1 x3)) (
br (decide (mi x2 x4≤x6)) (
some (decide (x6≤ma x2 x4))) (
some false)) (
some false)) (
some false))
def GQ (n:Nat) (x1:Int) (x2:Int) (x3:Int) (x4:Int) (x5:Int) (x6:Int) (x7:Int) (x8:Int):Option (Int) :=
ob (Bg n x1 x2 x3 x4 x5 x6) fun r2 =>
ob (EW n r2) fun r0 =>
ob (Bg n x1 x2 x3 x4 x7 x8) fun r3 =>
ob (EW n r3) fun r1 =>
ob (Bg n x5 x6 x7 x8 x1 x2) fun r4 =>
ob (EW n r4) fun r5 =>
ob (Bg n x5 x6 x7 x8 x3 x4) fun r6 =>
ob (EW n r6) fun r7 =>
ob (
br (decide (r0=0)) (
some (decide (r1=0))) (
some false)) fun v1 =>
br (v1) (
ob (some (IntKind.wrap .i64 ((ma (mi x1 x3) (mi x5 x7))-(mi (ma x1 x3) (ma x5 x7))))) fun y0 =>
ob (
br (decide (x1=x3)) (
ob (some (IntKind.wrap .i64 ((ma (mi x2 x4) (mi x6 x8))-(mi (ma x2 x4) (ma x6 x8))))) fun y1 =>
some y1) (
some y0)) fun v0 =>
br (decide (0<v0)) (
some 0) (
br (decide (v0=0)) (
some 1) (
some 3))) (
ob (
br (decide (IntKind.wrap .i64 (r0*r1)<0)) (
some (decide (IntKind.wrap .i64 (r5*r7)<0))) (
some false)) fun v2 =>
br (v2) (
some 2) (
ob (
ob (EC n x1 x2 x3 x4 x5 x6) fun r8 =>
br (r8) (
some true) (
ob (EC n x1 x2 x3 x4 x7 x8) fun r9 =>
br (r9) (
some true) (
ob (EC n x5 x6 x7 x8 x1 x2) fun r10 =>
br (r10) (
some true) (
ob (EC n x5 x6 x7 x8 x3 x4) fun r11 =>
some r11)))) fun v3 =>
br (v3) (
some 1) (
some 0)))
def Du (n:Nat) (l1:List (Int × Int)):Int→Option ((Int) ⊕ ((Int) ⊕ (Unit))):=fun v18 =>
br (decide (v18<(l1.length:Int))) (
gd (bF v18 l1.length) (
ob (l1[v18.toNat]?) fun(x35,x36) =>
ob (Gq n x35 x36) fun r39 =>
br (r39) (
some (.inr (.inl v18))) (
some (.inl (IntKind.wrap .i64 (v18+1)))))) (
some (.inr (.inr ())))
def EA (n:Nat) (l1:List (Int × Int)):Int→Option ((Int) ⊕ ((Int) ⊕ (Unit))):=fun v44 =>
br (decide (v44<(l1.length:Int))) (
gd (bF v44 l1.length) (
ob (l1[v44.toNat]?) fun(x62,x63) =>
ob (Bi n l1 (IntKind.wrap .i64 (v44+1))) fun(r66,r67) =>
br ((decide (x62=r66) && decide (x63=r67))) (
some (.inr (.inl v44))) (
some (.inl (IntKind.wrap .i64 (v44+1)))))) (
some (.inr (.inr ())))
def Ec (n:Nat) (l1:List (Int × Int)):Int→Option ((Int) ⊕ ((Int) ⊕ (Unit))):=fun v0 =>
br (decide (v0<(l1.length:Int))) (
ob (Bi n l1 (IntKind.wrap .i64 ((IntKind.wrap .i64 (v0+(l1.length:Int)))-1))) fun(r0,r1) =>
gd (bF v0 l1.length) (
ob (l1[v0.toNat]?) fun(x3,x4) =>
ob (Bi n l1 (IntKind.wrap .i64 (v0+1))) fun(r2,r3) =>
ob (
ob (Bg n r0 r1 x3 x4 r2 r3) fun r4 =>
br (decide (r4=0)) (
ob (GD n r0 r1 x3 x4 r2 r3) fun r5 =>
some (decide (r5<0))) (
some false)) fun v1 =>
br (v1) (
some (.inr (.inl v0))) (
some (.inl (IntKind.wrap .i64 (v0+1)))))) (
some (.inr (.inr ())))
def Dp (n:Nat) (v1:Int) (l1:List (Int × Int)):Int→Option ((Int) ⊕ ((Unit) ⊕ (Unit))):=fun v0 =>
br (decide (IntKind.wrap .i64 (v0+1)<v1)) (
ob (α:=(Unit) ⊕ (Unit)) (
ob (
br (decide (v0=0)) (
some (decide (v1=IntKind.wrap .i64 ((l1.length:Int)-1)))) (
some false)) fun v2 =>
br (v2) (
some (.inl ())) (
gd (bF v0 l1.length) (
ob (l1[v0.toNat]?) fun(x3,x4) =>
gd (bF (IntKind.wrap .i64 (v0+1)) l1.length) (
ob (l1[(IntKind.wrap .i64 (v0+1)).toNat]?) fun(x10,x11) =>
gd (bF v1 l1.length) (
ob (l1[v1.toNat]?) fun(x12,x13) =>
ob (Bi n l1 (IntKind.wrap .i64 (v1+1))) fun(r0,r1) =>
ob (GQ n x3 x4 x10 x11 x12 x13 r0 r1) fun r2 =>
br (!decide (r2=0)) (
some (.inr ())) (
some (.inl ()))))))) fun r3=>match r3 with
| .inl _ =>
some (.inl (IntKind.wrap .i64 (v0+1)))
| .inr _ =>
some (.inr (.inl ()))) (
some (.inr (.inr ())))
def DG (n:Nat) (l1:List (Int × Int)):Int→Option ((Int) ⊕ ((Int) ⊕ (Unit))):=fun v0 =>
br (decide (v0<(l1.length:Int))) (
ob (α:=(Unit) ⊕ (Unit)) (
cY (Dp n v0 l1) n 0) fun r0=>match r0 with
| .inl _ =>
some (.inr (.inl v0))
| .inr _ =>
some (.inl (IntKind.wrap .i64 (v0+1)))) (
some (.inr (.inr ())))
def Gw (n:Nat) (l1:List (Int × Int)):Option (Int × Int) :=
ob (
br (decide ((l1.length:Int)<3)) (
some true) (
some (decide (40<(l1.length:Int))))) fun v0 =>
br (v0) (
some (1,0)) (
ob (α:=(Int) ⊕ (Unit)) (
cY (Du n l1) n 0) fun r0=>match r0 with
| .inl v1 =>
some (2,v1)
| .inr _ =>
ob (α:=(Int) ⊕ (Unit)) (
cY (EA n l1) n 0) fun r1=>match r1 with
| .inl v2 =>
some (3,v2)
| .inr _ =>
ob (α:=(Int) ⊕ (Unit)) (
cY (Ec n l1) n 0) fun r2=>match r2 with
| .inl v3 =>
some (4,v3)
| .inr _ =>
ob (α:=(Int) ⊕ (Unit)) (
cY (DG n l1) n 0) fun r3=>match r3 with
| .inl v4 =>
some (5,v4)
| .inr _ =>
some (0,0))
def ET (n:Nat) (l1:List (Int × Int)):Option (Int) :=
ob (Gw n l1) fun(r6,_) =>
br (decide (0<r6)) (
some 140) (
some 0)
def EG (_:Nat) (l1:List (Int × Int)):(List (Int × Int) × Nat × Int)→Option ((List (Int × Int) × Nat × Int) ⊕ (List (Int × Int) × Nat)):=fun(l25,n27,v28) =>
br (decide (0<v28)) (
gd (bF v28 l1.length) (
ob (l1[v28.toNat]?) fun(x46,x47) =>
gd (lim (l25++[(x46,x47)]).length) (
some (.inl ((l25++[(x46,x47)]),(l25++[(x46,x47)]).length,IntKind.wrap .i64 (v28-1)))))) (
some (.inr (l25,n27)))
def Gn (n:Nat) (l1:List (Int × Int)):Option (List (Int × Int) × Int) :=
ob (ET n l1) fun r6 =>
br (!decide (r6=0)) (
some ([],r6)) (
gd (bF 0 l1.length) (
ob (l1[(0:Int).toNat]?) fun(x11,x12) =>
ob (
cY (EG n l1) n ([(x11,x12)],1,IntKind.wrap .i64 ((l1.length:Int)-1))) fun(l41,_) =>
some (l41,0)))
def DR (_:Nat) (l12:List (Int × Int)) (x5:Int) (x6:Int):(List (Int × Int) × Int × Int)→Option ((List (Int × Int) × Int × Int) ⊕ (List (Int × Int))):=fun(l33,v34,v35) =>
br (decide (v35<(l12.length:Int))) (
gd (bF v35 l12.length) (
ob (l33[v35.toNat]?) fun(x60,x61) =>
ob (some (IntKind.wrap .i64 ((IntKind.wrap .i64 (x60*v34))+(IntKind.wrap .i64 x5)))) fun y63 =>
gd (bF v35 l12.length) (
ob (some (IntKind.wrap .i64 ((IntKind.wrap .i64 (x61*v34))+(IntKind.wrap .i64 x6)))) fun y66 =>
gd (bF v35 l12.length) (
some (.inl ((l33.set v35.toNat (y63,y66)),v34,IntKind.wrap .i64 (v35+1))))))) (
some (.inr l33))
def GI (n:Nat) (l1:List (Nat)) (x5:Int) (x6:Int) (x7:Nat) (x8:Bool) (x9:Bool):Option (List (Int × Int)) :=
ob (GO n l1 x5 x6 x7 x8 x9) fun l12 =>
ob (
cY (DR n l12 x5 x6) n (l12,IntKind.wrap .i64 (1+(IntKind.wrap .i64 ((x7:Nat):Int))),0)) fun l54 =>
ob (
br (x9) (
ob (Gn n l54) fun(l83,_) =>
some (l83,l83.length)) (
some (l54,l12.length))) fun(l78,_) =>
some l78
def Em (_:Nat) (x3:Nat):(List (Int × Int))→Option ((List (Int × Int)) ⊕ (List (Int × Int))):=fun l1 =>
br (decide ((l1.length:Int)<IntKind.wrap .i64 (39+(IntKind.wrap .i64 ((x3%3:Nat):Int))))) (
gd (lim (l1++[(IntKind.wrap .i64 (3*(l1.length:Int)),IntKind.wrap .i64 ((l1.length:Int)*(l1.length:Int)))]).length) (
some (.inl (l1++[(IntKind.wrap .i64 (3*(l1.length:Int)),IntKind.wrap .i64 ((l1.length:Int)*(l1.length:Int)))])))) (
some (.inr l1))
def Gp (n:Nat) (x1:Nat) (x2:Nat) (x10:Nat) (x3:Int) (x5:Int) (l1:List (Int × Int)):Option (List (Int × Int)) :=
gd (okB 0 (mi (l1.length:Int) (50:Int)) l1.length) (
gd (lim (([]:List (Int × Int))++((l1.drop (0:Int).toNat).take ((mi (l1.length:Int) (50:Int):Int).toNat-(0:Int).toNat))).length) (
br (decide (((([]:List (Int × Int))++((l1.drop (0:Int).toNat).take ((mi (l1.length:Int) (50:Int):Int).toNat-(0:Int).toNat))).length:Int)=0)) (
some (([]:List (Int × Int))++((l1.drop (0:Int).toNat).take ((mi (l1.length:Int) (50:Int):Int).toNat-(0:Int).toNat)))) (
gd (decide (((([]:List (Int × Int))++((l1.drop (0:Int).toNat).take ((mi (l1.length:Int) (50:Int):Int).toNat-(0:Int).toNat))).length:Int)≠0)) (
ob (some (Int.tmod (IntKind.wrap .i64 ((x2:Nat):Int)) ((([]:List (Int × Int))++((l1.drop (0:Int).toNat).take ((mi (l1.length:Int) (50:Int):Int).toNat-(0:Int).toNat))).length:Int))) fun y0 =>
gd (decide (((([]:List (Int × Int))++((l1.drop (0:Int).toNat).take ((mi (l1.length:Int) (50:Int):Int).toNat-(0:Int).toNat))).length:Int)≠0)) (
ob (some (Int.tmod (IntKind.wrap .i64 ((x10:Nat):Int)) ((([]:List (Int × Int))++((l1.drop (0:Int).toNat).take ((mi (l1.length:Int) (50:Int):Int).toNat-(0:Int).toNat))).length:Int))) fun y1 =>
ob (
br (decide (x1%9=0)) (
gd (bF y0 ((([]:List (Int × Int))++((l1.drop (0:Int).toNat).take ((mi (l1.length:Int) (50:Int):Int).toNat-(0:Int).toNat))).length)) (
ob ((([]:List (Int × Int))++((l1.drop (0:Int).toNat).take ((mi (l1.length:Int) (50:Int):Int).toNat-(0:Int).toNat)))[y0.toNat]?) fun(_,_) =>
some (((([]:List (Int × Int))++((l1.drop (0:Int).toNat).take ((mi (l1.length:Int) (50:Int):Int).toNat-(0:Int).toNat))).set y0.toNat (x3,x5)),(([]:List (Int × Int))++((l1.drop (0:Int).toNat).take ((mi (l1.length:Int) (50:Int):Int).toNat-(0:Int).toNat))).length))) (
br (decide (x1%9=1)) (
gd (bF y1 ((([]:List (Int × Int))++((l1.drop (0:Int).toNat).take ((mi (l1.length:Int) (50:Int):Int).toNat-(0:Int).toNat))).length)) (
ob ((([]:List (Int × Int))++((l1.drop (0:Int).toNat).take ((mi (l1.length:Int) (50:Int):Int).toNat-(0:Int).toNat)))[y1.toNat]?) fun(x13,x14) =>
gd (bF y0 ((([]:List (Int × Int))++((l1.drop (0:Int).toNat).take ((mi (l1.length:Int) (50:Int):Int).toNat-(0:Int).toNat))).length)) (
ob ((([]:List (Int × Int))++((l1.drop (0:Int).toNat).take ((mi (l1.length:Int) (50:Int):Int).toNat-(0:Int).toNat)))[y0.toNat]?) fun(_,_) =>
some (((([]:List (Int × Int))++((l1.drop (0:Int).toNat).take ((mi (l1.length:Int) (50:Int):Int).toNat-(0:Int).toNat))).set y0.toNat (x13,x14)),(([]:List (Int × Int))++((l1.drop (0:Int).toNat).take ((mi (l1.length:Int) (50:Int):Int).toNat-(0:Int).toNat))).length)))) (
br (decide (x1%9=2)) (
gd (bF y1 ((([]:List (Int × Int))++((l1.drop (0:Int).toNat).take ((mi (l1.length:Int) (50:Int):Int).toNat-(0:Int).toNat))).length)) (
ob ((([]:List (Int × Int))++((l1.drop (0:Int).toNat).take ((mi (l1.length:Int) (50:Int):Int).toNat-(0:Int).toNat)))[y1.toNat]?) fun(x11,x12) =>
gd (bF y0 ((([]:List (Int × Int))++((l1.drop (0:Int).toNat).take ((mi (l1.length:Int) (50:Int):Int).toNat-(0:Int).toNat))).length)) (
ob ((([]:List (Int × Int))++((l1.drop (0:Int).toNat).take ((mi (l1.length:Int) (50:Int):Int).toNat-(0:Int).toNat)))[y0.toNat]?) fun(x15,x16) =>
gd (bF y0 ((([]:List (Int × Int))++((l1.drop (0:Int).toNat).take ((mi (l1.length:Int) (50:Int):Int).toNat-(0:Int).toNat))).length)) (
gd (bF y1 ((([]:List (Int × Int))++((l1.drop (0:Int).toNat).take ((mi (l1.length:Int) (50:Int):Int).toNat-(0:Int).toNat))).length)) (
ob (((([]:List (Int × Int))++((l1.drop (0:Int).toNat).take ((mi (l1.length:Int) (50:Int):Int).toNat-(0:Int).toNat))).set y0.toNat (x11,x12))[y1.toNat]?) fun(_,_) =>
some ((((([]:List (Int × Int))++((l1.drop (0:Int).toNat).take ((mi (l1.length:Int) (50:Int):Int).toNat-(0:Int).toNat))).set y0.toNat (x11,x12)).set y1.toNat (x15,x16)),(([]:List (Int × Int))++((l1.drop (0:Int).toNat).take ((mi (l1.length:Int) (50:Int):Int).toNat-(0:Int).toNat))).length)))))) (
br (decide (x1%9=3)) (
gd (okB 0 y0 ((([]:List (Int × Int))++((l1.drop (0:Int).toNat).take ((mi (l1.length:Int) (50:Int):Int).toNat-(0:Int).toNat))).length)) (
some ((((([]:List (Int × Int))++((l1.drop (0:Int).toNat).take ((mi (l1.length:Int) (50:Int):Int).toNat-(0:Int).toNat))).drop (0:Int).toNat).take ((y0:Int).toNat-(0:Int).toNat)),(((([]:List (Int × Int))++((l1.drop (0:Int).toNat).take ((mi (l1.length:Int) (50:Int):Int).toNat-(0:Int).toNat))).drop (0:Int).toNat).take ((y0:Int).toNat-(0:Int).toNat)).length))) (
br (decide (x1%9=4)) (
gd (lim ((([]:List (Int × Int))++((l1.drop (0:Int).toNat).take ((mi (l1.length:Int) (50:Int):Int).toNat-(0:Int).toNat)))++[(x3,x5)]).length) (
some (((([]:List (Int × Int))++((l1.drop (0:Int).toNat).take ((mi (l1.length:Int) (50:Int):Int).toNat-(0:Int).toNat)))++[(x3,x5)]),((([]:List (Int × Int))++((l1.drop (0:Int).toNat).take ((mi (l1.length:Int) (50:Int):Int).toNat-(0:Int).toNat)))++[(x3,x5)]).length))) (
br (decide (x1%9=5)) (
gd (bF y0 ((([]:List (Int × Int))++((l1.drop (0:Int).toNat).take ((mi (l1.length:Int) (50:Int):Int).toNat-(0:Int).toNat))).length)) (
ob ((([]:List (Int × Int))++((l1.drop (0:Int).toNat).take ((mi (l1.length:Int) (50:Int):Int).toNat-(0:Int).toNat)))[y0.toNat]?) fun(x17,x18) =>
gd (decide (((([]:List (Int × Int))++((l1.drop (0:Int).toNat).take ((mi (l1.length:Int) (50:Int):Int).toNat-(0:Int).toNat))).length:Int)≠0)) (
ob (some (Int.tmod (IntKind.wrap .i64 (y0+1)) ((([]:List (Int × Int))++((l1.drop (0:Int).toNat).take ((mi (l1.length:Int) (50:Int):Int).toNat-(0:Int).toNat))).length:Int))) fun y4 =>
gd (bF y4 ((([]:List (Int × Int))++((l1.drop (0:Int).toNat).take ((mi (l1.length:Int) (50:Int):Int).toNat-(0:Int).toNat))).length)) (
ob ((([]:List (Int × Int))++((l1.drop (0:Int).toNat).take ((mi (l1.length:Int) (50:Int):Int).toNat-(0:Int).toNat)))[y4.toNat]?) fun(x19,x20) =>
ob (some (IntKind.wrap .i64 ((IntKind.wrap .i64 (Int.tdiv x17 2))+(IntKind.wrap .i64 (Int.tdiv x19 2))))) fun y2 =>
ob (some (IntKind.wrap .i64 ((IntKind.wrap .i64 (Int.tdiv x18 2))+(IntKind.wrap .i64 (Int.tdiv x20 2))))) fun y3 =>
gd (okB 0 (IntKind.wrap .i64 (y0+1)) ((([]:List (Int × Int))++((l1.drop (0:Int).toNat).take ((mi (l1.length:Int) (50:Int):Int).toNat-(0:Int).toNat))).length)) (
gd (lim (([]:List (Int × Int))++(((([]:List (Int × Int))++((l1.drop (0:Int).toNat).take ((mi (l1.length:Int) (50:Int):Int).toNat-(0:Int).toNat))).drop (0:Int).toNat).take ((IntKind.wrap .i64 (y0+1):Int).toNat-(0:Int).toNat))).length) (
gd (lim ((([]:List (Int × Int))++(((([]:List (Int × Int))++((l1.drop (0:Int).toNat).take ((mi (l1.length:Int) (50:Int):Int).toNat-(0:Int).toNat))).drop (0:Int).toNat).take ((IntKind.wrap .i64 (y0+1):Int).toNat-(0:Int).toNat)))++[(y2,y3)]).length) (
gd (okB (IntKind.wrap .i64 (y0+1)) ((([]:List (Int × Int))++((l1.drop (0:Int).toNat).take ((mi (l1.length:Int) (50:Int):Int).toNat-(0:Int).toNat))).length:Int) ((([]:List (Int × Int))++((l1.drop (0:Int).toNat).take ((mi (l1.length:Int) (50:Int):Int).toNat-(0:Int).toNat))).length)) (
gd (lim (((([]:List (Int × Int))++(((([]:List (Int × Int))++((l1.drop (0:Int).toNat).take ((mi (l1.length:Int) (50:Int):Int).toNat-(0:Int).toNat))).drop (0:Int).toNat).take ((IntKind.wrap .i64 (y0+1):Int).toNat-(0:Int).toNat)))++[(y2,y3)])++(((([]:List (Int × Int))++((l1.drop (0:Int).toNat).take ((mi (l1.length:Int) (50:Int):Int).toNat-(0:Int).toNat))).drop (IntKind.wrap .i64 (y0+1):Int).toNat).take ((((([]:List (Int × Int))++((l1.drop (0:Int).toNat).take ((mi (l1.length:Int) (50:Int):Int).toNat-(0:Int).toNat))).length:Int):Int).toNat-(IntKind.wrap .i64 (y0+1):Int).toNat))).length) (
some ((((([]:List (Int × Int))++(((([]:List (Int × Int))++((l1.drop (0:Int).toNat).take ((mi (l1.length:Int) (50:Int):Int).toNat-(0:Int).toNat))).drop (0:Int).toNat).take ((IntKind.wrap .i64 (y0+1):Int).toNat-(0:Int).toNat)))++[(y2,y3)])++(((([]:List (Int × Int))++((l1.drop (0:Int).toNat).take ((mi (l1.length:Int) (50:Int):Int).toNat-(0:Int).toNat))).drop (IntKind.wrap .i64 (y0+1):Int).toNat).take ((((([]:List (Int × Int))++((l1.drop (0:Int).toNat).take ((mi (l1.length:Int) (50:Int):Int).toNat-(0:Int).toNat))).length:Int):Int).toNat-(IntKind.wrap .i64 (y0+1):Int).toNat))),(((([]:List (Int × Int))++(((([]:List (Int × Int))++((l1.drop (0:Int).toNat).take ((mi (l1.length:Int) (50:Int):Int).toNat-(0:Int).toNat))).drop (0:Int).toNat).take ((IntKind.wrap .i64 (y0+1):Int).toNat-(0:Int).toNat)))++[(y2,y3)])++(((([]:List (Int × Int))++((l1.drop (0:Int).toNat).take ((mi (l1.length:Int) (50:Int):Int).toNat-(0:Int).toNat))).drop (IntKind.wrap .i64 (y0+1):Int).toNat).take ((((([]:List (Int × Int))++((l1.drop (0:Int).toNat).take ((mi (l1.length:Int) (50:Int):Int).toNat-(0:Int).toNat))).length:Int):Int).toNat-(IntKind.wrap .i64 (y0+1):Int).toNat))).length)))))))))) (
br (decide (x1%9=6)) (
ob (
cY (Em n x10) n (([]:List (Int × Int))++((l1.drop (0:Int).toNat).take ((mi (l1.length:Int) (50:Int):Int).toNat-(0:Int).toNat)))) fun l2 =>
some (l2,l2.length)) (
br (decide (x1%9=7)) (
gd (bF y0 ((([]:List (Int × Int))++((l1.drop (0:Int).toNat).take ((mi (l1.length:Int) (50:Int):Int).toNat-(0:Int).toNat))).length)) (
ob ((([]:List (Int × Int))++((l1.drop (0:Int).toNat).take ((mi (l1.length:Int) (50:Int):Int).toNat-(0:Int).toNat)))[y0.toNat]?) fun(x21,x4) =>
gd (bF y0 ((([]:List (Int × Int))++((l1.drop (0:Int).toNat).take ((mi (l1.length:Int) (50:Int):Int).toNat-(0:Int).toNat))).length)) (
gd (bF y0 ((([]:List (Int × Int))++((l1.drop (0:Int).toNat).take ((mi (l1.length:Int) (50:Int):Int).toNat-(0:Int).toNat))).length)) (
gd (bF y0 ((([]:List (Int × Int))++((l1.drop (0:Int).toNat).take ((mi (l1.length:Int) (50:Int):Int).toNat-(0:Int).toNat))).length)) (
ob (((([]:List (Int × Int))++((l1.drop (0:Int).toNat).take ((mi (l1.length:Int) (50:Int):Int).toNat-(0:Int).toNat))).set y0.toNat (x4,x4))[y0.toNat]?) fun(x22,_) =>
some ((((([]:List (Int × Int))++((l1.drop (0:Int).toNat).take ((mi (l1.length:Int) (50:Int):Int).toNat-(0:Int).toNat))).set y0.toNat (x4,x4)).set y0.toNat (x22,x21)),(([]:List (Int × Int))++((l1.drop (0:Int).toNat).take ((mi (l1.length:Int) (50:Int):Int).toNat-(0:Int).toNat))).length)))))) (
some ((([]:List (Int × Int))++((l1.drop (0:Int).toNat).take ((mi (l1.length:Int) (50:Int):Int).toNat-(0:Int).toNat))),(([]:List (Int × Int))++((l1.drop (0:Int).toNat).take ((mi (l1.length:Int) (50:Int):Int).toNat-(0:Int).toNat))).length)))))))))) fun(l3,_) =>
some l3)))))
def GK (_:Nat) (l1:List (Int × Int)):Option (List (Int × Int)) :=
gd (okB 0 (mi (l1.length:Int) (50:Int)) l1.length) (
some ((l1.drop (0:Int).toNat).take ((mi (l1.length:Int) (50:Int):Int).toNat-(0:Int).toNat)))
def GU (n:Nat) (l1:List (Int × Int)) (l6:List (Nat)) (x11:Int) (x12:Int) (x13:Nat) (x14:Bool) (x15:Bool) (x16:Nat) (x17:Nat) (x18:Nat) (x19:Int) (x20:Int) (x21:Nat) (x22:Nat) (x23:Nat) (x24:Int) (x25:Int):Option (List (Int × Int) × List (Int × Int) × List (Int × Int) × List (Int × Int)) :=
ob (GI n l6 x11 x12 x13 x14 x15) fun l30 =>
ob (Gp n x16 x17 x18 x19 x20 l30) fun l34 =>
ob (Gp n x21 x22 x23 x24 x25 l34) fun l39 =>
ob (GK n l1) fun l44 =>
some (l30,l34,l39,l44)
def A2 (n:Nat) (l1:List (Int × Int)):Int→Option ((Int) ⊕ ((Int) ⊕ (Unit))):=fun v49 =>
br (decide (v49<(l1.length:Int))) (
gd (bF v49 l1.length) (
ob (l1[v49.toNat]?) fun(x66,x67) =>
ob (xI n x66 x67) fun r70 =>
br (r70) (
some (.inr (.inl v49))) (
some (.inl (IntKind.wrap .i64 (v49+1)))))) (
some (.inr (.inr ())))
def Bv (_:Nat) (l1:List (Int × Int)):Int→Option ((Int) ⊕ ((Int) ⊕ (Unit))):=fun v0 =>
br (decide (v0<(l1.length:Int))) (
gd (bF v0 l1.length) (
ob (l1[v0.toNat]?) fun(x3,x4) =>
gd (decide ((l1.length:Int)≠0)) (
gd (bF (Int.tmod (IntKind.wrap .i64 (v0+1)) (l1.length:Int)) l1.length) (
ob (l1[(Int.tmod (IntKind.wrap .i64 (v0+1)) (l1.length:Int)).toNat]?) fun(x10,x11) =>
ob (α:=(Unit) ⊕ (Unit)) (
br ((decide (x3=x10) && decide (x4=x11))) (
some (.inl ())) (
some (.inr ()))) fun r0=>match r0 with
| .inl _ =>
some (.inr (.inl v0))
| .inr _ =>
some (.inl (IntKind.wrap .i64 (v0+1))))))) (
some (.inr (.inr ())))
def A1 (n:Nat) (l1:List (Int × Int)):Int→Option ((Int) ⊕ ((Int) ⊕ (Unit))):=fun v0 =>
br (decide (v0<(l1.length:Int))) (
gd (bF v0 l1.length) (
ob (l1[v0.toNat]?) fun(x3,x4) =>
gd (decide ((l1.length:Int)≠0)) (
gd (bF (Int.tmod (IntKind.wrap .i64 (v0+1)) (l1.length:Int)) l1.length) (
ob (l1[(Int.tmod (IntKind.wrap .i64 (v0+1)) (l1.length:Int)).toNat]?) fun(x10,x11) =>
ob (α:=(Unit) ⊕ (Unit)) (
gd (decide ((l1.length:Int)≠0)) (
ob (some (Int.tmod (IntKind.wrap .i64 ((IntKind.wrap .i64 (v0+(l1.length:Int)))-1)) (l1.length:Int))) fun y0 =>
gd (bF y0 l1.length) (
ob (l1[y0.toNat]?) fun(x12,x13) =>
ob (
ob (uN n x12 x13 x3 x4 x10 x11) fun r0 =>
br (decide (r0=0)) (
ob (some (IntKind.wrap .i64 ((IntKind.wrap .i64 (x3-x12))*(IntKind.wrap .i64 (x10-x3))))) fun y1 =>
ob (some (IntKind.wrap .i64 ((IntKind.wrap .i64 (x4-x13))*(IntKind.wrap .i64 (x11-x4))))) fun y2 =>
some (decide (IntKind.wrap .i64 (y1+y2)<0))) (
some false)) fun v1 =>
br (v1) (
some (.inl ())) (
some (.inr ()))))) fun r1=>match r1 with
| .inl _ =>
some (.inr (.inl v0))
| .inr _ =>
some (.inl (IntKind.wrap .i64 (v0+1))))))) (
some (.inr (.inr ())))
def Bz (n:Nat) (l1:List (Int × Int)) (v1:Int) (x3:Int) (x4:Int) (x10:Int) (x11:Int):Int→Option ((Int) ⊕ ((Unit) ⊕ ((Unit) ⊕ (Unit)))):=fun v0 =>
br (decide (v0<(l1.length:Int))) (
gd (bF v0 l1.length) (
ob (l1[v0.toNat]?) fun(x12,x13) =>
gd (decide ((l1.length:Int)≠0)) (
gd (bF (Int.tmod (IntKind.wrap .i64 (v0+1)) (l1.length:Int)) l1.length) (
ob (l1[(Int.tmod (IntKind.wrap .i64 (v0+1)) (l1.length:Int)).toNat]?) fun(x14,x15) =>
ob (α:=(Unit) ⊕ ((Unit) ⊕ (Unit))) (
br (decide (IntKind.wrap .i64 (v1-1)≤v0)) (
some (.inl ())) (
ob (
br (decide (v0=0)) (
some (decide (v1=IntKind.wrap .i64 ((l1.length:Int)-1)))) (
some false)) fun v2 =>
br (v2) (
some (.inr (.inl ()))) (
ob (EN n v1 x3 x4 x10 x11 v0 x12 x13 x14 x15) fun r0 =>
br (!decide (r0=0)) (
some (.inr (.inr ()))) (
some (.inr (.inl ())))))) fun r1=>match r1 with
| .inl _ =>
some (.inr (.inl ()))
| .inr (.inl _) =>
some (.inl (IntKind.wrap .i64 (v0+1)))
| .inr (.inr _) =>
some (.inr (.inr (.inl ()))))))) (
some (.inr (.inr (.inr ()))))
def Bq (n:Nat) (l1:List (Int × Int)):Int→Option ((Int) ⊕ ((Int) ⊕ (Unit))):=fun v0 =>
br (decide (v0<(l1.length:Int))) (
gd (bF v0 l1.length) (
ob (l1[v0.toNat]?) fun(x3,x4) =>
gd (decide ((l1.length:Int)≠0)) (
gd (bF (Int.tmod (IntKind.wrap .i64 (v0+1)) (l1.length:Int)) l1.length) (
ob (l1[(Int.tmod (IntKind.wrap .i64 (v0+1)) (l1.length:Int)).toNat]?) fun(x10,x11) =>
ob (α:=(Unit) ⊕ (Unit)) (
ob (
some ()) fun _ =>
ob (α:=(Unit) ⊕ ((Unit) ⊕ (Unit))) (
ob (α:=(Unit) ⊕ ((Unit) ⊕ (Unit))) (
cY (Bz n l1 v0 x3 x4 x10 x11) n 0) fun r0=>match r0 with
| .inl _ =>
some (.inl ())
| .inr (.inl _) =>
some (.inr (.inl ()))
| .inr (.inr _) =>
some (.inr (.inr ()))) fun r1=>match r1 with
| .inl _ =>
some (.inl ())
| .inr (.inl _) =>
some (.inr ())
| .inr (.inr _) =>
some (.inl ())) fun r2=>match r2 with
| .inl _ =>
some (.inl (IntKind.wrap .i64 (v0+1)))
| .inr _ =>
some (.inr (.inl v0)))))) (
some (.inr (.inr ())))
def EM (n:Nat) (l1:List (Int × Int)):Option (Int × Int) :=
ob (
br (decide ((l1.length:Int)<3)) (
some true) (
some (decide (40<(l1.length:Int))))) fun v1 =>
br (v1) (
some (1,0)) (
ob (
ob (α:=(Int) ⊕ (Unit)) (
cY (A2 n l1) n 0) fun r0=>match r0 with
| .inl v2 =>
some v2
| .inr _ =>
some (-1)) fun v0 =>
br (decide (0≤v0)) (
some (2,v0)) (
ob (
some ()) fun _ =>
ob (α:=(Int) ⊕ (Unit)) (
ob (α:=(Int) ⊕ (Unit)) (
cY (Bv n l1) n 0) fun r1=>match r1 with
| .inl v3 =>
some (.inl v3)
| .inr _ =>
some (.inr ())) fun r2=>match r2 with
| .inl v4 =>
some (3,v4)
| .inr _ =>
ob (
some ()) fun _ =>
ob (α:=(Int) ⊕ (Unit)) (
ob (α:=(Int) ⊕ (Unit)) (
cY (A1 n l1) n 0) fun r3=>match r3 with
| .inl v5 =>
some (.inl v5)
| .inr _ =>
some (.inr ())) fun r4=>match r4 with
| .inl v6 =>
some (4,v6)
| .inr _ =>
ob (
some ()) fun _ =>
ob (α:=(Int) ⊕ (Unit)) (
ob (α:=(Int) ⊕ (Unit)) (
cY (Bq n l1) n 0) fun r5=>match r5 with
| .inl v7 =>
some (.inl v7)
| .inr _ =>
some (.inr ())) fun r6=>match r6 with
| .inl v8 =>
some (5,v8)
| .inr _ =>
some (0,0)))
def Ci (n:Nat) (l1:List (Int × Int)):Option (Int) :=
ob (EM n l1) fun(r6,_) =>
br (decide (0<r6)) (
some 140) (
some 0)
def Dq (_:Nat) (l1:List (Int × Int)) (l5:List (Int × Int)):Int→Option ((Int) ⊕ ((Unit) ⊕ (Unit))):=fun v11 =>
br (decide (v11<(l1.length:Int))) (
gd (bF v11 l1.length) (
ob (l1[v11.toNat]?) fun(x31,x32) =>
gd (bF v11 l5.length) (
ob (l5[v11.toNat]?) fun(x37,x38) =>
br (!(decide (x31=x37) && decide (x32=x38))) (
some (.inr (.inl ()))) (
some (.inl (IntKind.wrap .i64 (v11+1))))))) (
some (.inr (.inr ())))
def Gu (n:Nat) (l1:List (Int × Int)) (l5:List (Int × Int)):Option (Bool) :=
br (!decide ((l1.length:Int)=(l5.length:Int))) (
some false) (
ob (α:=(Unit) ⊕ (Unit)) (
cY (Dq n l1 l5) n 0) fun r42=>match r42 with
| .inl _ =>
some false
| .inr _ =>
some true)
end Go.Proofs.YthmekkhpddehjaaGreat
end

section
namespace Go.Proofs.YthmekkhpddehjaaGreat
open Go Go.Ab Go.Ab.W
set_option maxRecDepth 10000
set_option maxHeartbeats 4000000
attribute [local irreducible] Tm.at Trie.set Trie.get AMem.get AMem.set AMem.alloc AMem.ww AMem.kill
def EJ (_:Nat) (l:List (Int × Int)):Option (List (Int × Int)):=gd (lim l.length) (some l)
def GB (_:Nat) (l:List (Int × Int)):Option (List (Int × Int)):=gd (lim l.length) (some l)
theorem D2 {P:Program} {ty e l c l' c':Nat} (hu:P.underlying ty=some (.slice e)):bw .eql ty P (.slice none l c) (.slice none l' c')=some (.bool true):=by
 simp only[bw,Op.maxDepth,gB,hu,Option.map_some,Option.isNone_none]
theorem Dw {P:Program} {ty e l c l' c':Nat} {A:Addr} (hu:P.underlying ty=some (.slice e)):bw .eql ty P (.slice (some A) l c) (.slice none l' c')=some (.bool false):=by
 simp only[bw,Op.maxDepth,gB,hu,Option.map_some]
theorem Cv:aE.P.underlying 22=some (.slice 33):=by kernel_rfl
theorem BY:SlT aE.P 22 33 2:=SlT.of (by kernel_rfl)
theorem E4:bh aE.P 33=some (.agg #[.int .i64 0,.int .i64 0]):=by kernel_rfl
theorem Rd.zP {m:AMem} {cap w n:Nat} {es:List (List Value)} (h:Rd m none cap w n es):n=0:=by
 rcases h.2.2 with⟨_,h⟩|⟨_,_,h,_⟩|⟨_,_,h,_⟩
 ·exact h
 ·cases h
 ·cases h
theorem C0 (n:Nat) (l:List (Int × Int)) (a:Option Addr) (c:Nat) (r:List (Int × Int)) (hF:EJ n l=some r) (m:AMem) (h:Rd m a c 2 l.length (l.map (eP (eI .i64) (eI .i64)))):aC aE 49 [.slice a l.length c] m (fun v m'=>∃x:Option Addr × Nat,v = .slice x.1 x.2 x.2∧Hp m m' [.sl x.1 2 x.2 (r.map (eP (eI .i64) (eI .i64)))]):=by
 unfold EJ at hF;obtain⟨hl,hF⟩:=ai hF;cases hF;cases a with
 | none =>
  have h0:=Rd.zP h;have:l = []:=List.length_eq_zero_iff.1 h0;subst this;refine av (m0:=m) (ps:=[]) (N:=8) (rs:=[.tmp 2]) rfl Tryz.func49 rfl rfl rfl (Hp.start m) ?_;refine Wk.seq ?_;refine Wk.region ?_;refine Wo.od (ah rfl) rfl ?_;refine Wo.nil ?_;refine At.tn ?_;refine Wk.seq ?_;refine Wk.seq ?_;refine Wk.region ?_;refine Wo.od (U rfl) rfl ?_;refine Wo.od (aj rfl rfl (D2 Cv)) rfl ?_;refine Wo.nil ?_;refine At.tn ?_;refine Wk.ar rfl rfl ?_;refine Wk.seq ?_;refine Wk.region ?_;refine Wo.od (ah rfl) rfl ?_;refine Wo.nil ?_;refine At.tn ?_;refine Wk.ret ?_;refine At.tr ?_;exact At.ret (.tmp rfl .nil) fun m' hm=>⟨(none,0),rfl,(ab.nil 2 rfl) m' hm⟩
 | some A =>
  refine av (m0:=m) (ps:=[.rd (some A) c 2 l.length (l.map (eP (eI .i64) (eI .i64)))]) (N:=8) (rs:=[.tmp 2]) rfl Tryz.func49 rfl rfl rfl ((Hp.start m).kT rfl h) ?_;refine Wk.seq ?_;refine Wk.region ?_;refine Wo.od (ah rfl) rfl ?_;refine Wo.nil ?_;refine At.tn ?_;refine Wk.seq ?_;refine Wk.seq ?_;refine Wk.region ?_;refine Wo.od (U rfl) rfl ?_;refine Wo.od (aj rfl rfl (Dw Cv)) rfl ?_;refine Wo.nil ?_;refine At.tn ?_;refine Wk.au rfl rfl ?_;refine Wk.skip ?_;refine At.tn ?_;refine Wk.seq ?_;refine Wk.region ?_;refine Wo.x (e6 (es:=([]:List (Int × Int)).map (eP (eI .i64) (eI .i64))) BY rfl (fa BY E4 rfl rfl) rfl rfl) gn rfl fun b=>?_;refine Wo.od (U rfl) rfl ?_;refine Wo.eF (ab.close (k:=0) rfl) ?_;refine Wo.x (lU (k:=0) (k2:=1) (xs:=([]:List (Int × Int))) (ys:=l) (vu (mq .i64) (mq .i64)) BY ⟨_,Cv⟩ rfl rfl rfl (.rd _ _ _ _ _) hl) gn rfl fun a2=>?_;refine Wo.od (ah rfl) rfl ?_;refine Wo.nil ?_;refine At.tn ?_;refine Wk.ret ?_;exact At.ret (.tmp rfl .nil) fun m' hm=>⟨(a2,l.length),rfl,(ab.aa [0] rfl rfl) m' hm⟩
end Go.Proofs.YthmekkhpddehjaaGreat
end

section
namespace Go.Ab.W
open Go Go.Ab
attribute [local irreducible] Tm.at Trie.set Trie.get AMem.get AMem.set AMem.alloc AMem.ww AMem.kill
section
variable {E : Env} {n : Nat} {m0 m : AMem} {fs : Fs} {ps : List Pc} {x y : Operand} {ty : TypeId}
theorem Ej {elem b w l k L o:Nat} {es:List (List Value)} {tg:Tag} {lx:Option Operand} {kd:IntKind} (ht:SlT E.P ty elem w) (hx:ev E fs x=some (.slice (some ⟨b,0,none⟩) l l)) (e1:oO E fs lx=some (some (.int kd (L:Int)))) (hp:pk ps k=some (.arr b w l es tg)) (h:L<l) (ho:L*w=o) :
  Od E m0 fs ps (.slice ty x lx none none) (.slice (some ⟨b,o,none⟩) (l-L) (l-L)) ps :=
 fun t m hf hm=>⟨fun b' hb'=>by
  have:cW (.slice (some ⟨b,0,none⟩) l l)=some b:=rfl;simp only[aD,hf.ev hx,Option.bind_some,this] at hb';cases hb'; exact(hm.get hp).2.1,fun K hK=>by
  obtain⟨_,_,hg,_,_,htg,_⟩:=hm.get hp;have hb:cX l l (some (.int kd (L:Int))) none none=some (L,l,l):=ft (by omega) (Nat.le_refl _) (.inr ⟨kd,rfl⟩) (.inl ⟨rfl,rfl⟩)
  have hs:bA E.P ty (.slice (some ⟨b,0,none⟩) l l) (some (.int kd (L:Int))) none none m=some (.slice (some ⟨b,o,none⟩) (l-L) (l-L)):=by
   subst ho;rcases htg with rfl|rfl
   ·simp only[bA,ht.und,ht.known,if_true,hg,hb,ht.size,Nat.zero_add];rw[if_neg (by omega)]
   ·simp only[bA,ht.und,ht.known,if_true,hg,hb,ht.size,Nat.zero_add];rw[if_neg (by simp),if_neg (by omega)]
  rw[Go.Ab.kA (hf.ev hx) (hf.oO e1) (hf.oO rfl) (hf.oO rfl) hs]; exact hK m hm⟩
theorem wO {elem:TypeId} {b w l cap L o:Nat} {i:Int} {kd:IntKind} (ht:SlT E.P ty elem w) (ho:L*w=o) (hx:ev E fs x=some (.slice (some ⟨b,o,none⟩) l cap)) (hy:ev E fs y=some (.int kd i)) (hi:0≤i∧i.toNat<l):Od E m0 fs ps (.indexAddr ty x y) (ptr b ((L+i.toNat)*w+0)) ps:=by
 have:=bB (m0:=m0) (ps:=ps) ht hx hy hi;subst ho;rwa[←Nat.add_mul] at this
def cH (a:Option Addr) (cap w l:Nat) (es:List (List Value)):GPc where
 ow b:=iE a=some b
 rd _:=False
 P m:=es.length=l∧(∀e ∈ es,e.length=w)∧0<w∧l≤cap∧((a=none∧cap=0)∨∃b jk tg,a=some ⟨b,0,none⟩∧b<m.next∧m.get b=some (.cells (es.flatten++jk) tg)∧(tg = .own∨tg = .more w)∧(es.flatten++jk).length=cap*w)
 st m m' h hn hg:=by
  obtain⟨h1,h2,h3,h4,h5⟩:=h;refine⟨h1,h2,h3,h4,?_⟩;rcases h5 with h5|⟨b,jk,tg,rfl,h6,h7,h8⟩
  ·exact .inl h5
  ·exact .inr ⟨b,jk,tg,rfl,by omega,by rw[hg b (.inl rfl) h6]; exact h7,h8⟩
 lt m b h hb:=by
  obtain⟨_,_,_,_,h5⟩:=h;rcases hb with hb|hb
  ·rcases h5 with⟨rfl,_⟩|⟨b',_,_,rfl,h6,_⟩
   ·cases hb
   ·cases hb; exact h6
  ·exact hb.elim
variable {α : Type} {f : α → List Value} {elem : TypeId} {k cap w l : Nat} {a : Option Addr} {es : List (List Value)} {xs : List α}
theorem ab.BQ (hp:pk ps k=some (.sl a w l es)):ab m0 ps (bH ps k (.gen (cH a l w l es))):=fun m h=>by
 have h0:=h.get hp;refine h.wD hp (fun b hb=>.inl (.inl ⟨rfl,?_⟩)) (fun b hb=>.inl (.inl ?_)) (Nat.le_refl _) h.ext ⟨?_,fun _ b hb=>?_⟩ fun _ _ _=>rfl
 ·rcases hb with hb|hb
  ·cases hb.1
  ·exact hb
 ·rcases hb with hb|hb
  ·cases hb
  ·rcases hb with hb|hb
   ·exact hb
   ·exact hb.elim
 ·rcases h0 with⟨rfl,rfl,rfl,h1⟩|⟨b,tg,rfl,h1⟩
  ·exact⟨rfl,fun e he=>(by cases he),h1,Nat.le_refl _,.inl ⟨rfl,rfl⟩⟩
  ·exact⟨h1.2.2.2.1,h1.2.2.2.2.1,h1.2.2.2.2.2.2,Nat.le_refl _,.inr ⟨b,[],tg,rfl,h1.2.1,by rw[List.append_nil]; exact h1.2.2.1,h1.2.2.2.2.2.1,by rw[List.append_nil,bJ h1.2.2.2.2.1,h1.2.2.2.1]⟩⟩
 ·have hb:iE a=some b:=hb;rcases h0 with⟨_,_,rfl,_⟩|⟨b',tg,rfl,h1⟩
  ·cases hb
  ·cases hb; exact h1.1
theorem xr {a:Option Addr} {cap w l:Nat} {es:List (List Value)} (h:(cH a cap w l es).P m):Rd m a cap w l es:=by
 obtain⟨h1,h2,h3,h4,h5⟩:=h;refine⟨h1,h4,?_⟩;rcases h5 with⟨rfl,rfl⟩|⟨b,jk,tg,rfl,h6,h7,h8,h9⟩
 ·exact .inl ⟨rfl,by omega⟩
 ·refine .inr (.inr ⟨b,0,rfl,h6,_,tg,h7,fun sz e=>by rcases h8 with h|h<;>rw[h] at e<;>cases e; rfl,fun i e he=>?_⟩)
  have hi:i<es.length:=(List.getElem?_eq_some_iff.1 he).1;have hl:=h2 e (List.mem_of_getElem? he);refine⟨?_,hl⟩;have:=p3 h2 he;rw[Nat.zero_add,List.drop_append_of_le_length (by rw[bJ h2]; exact Nat.mul_le_mul_right w (by omega)),List.take_append_of_le_length,this]
  rw[List.length_drop,bJ h2];have:(i+1)*w≤es.length*w:=Nat.mul_le_mul_right w hi;rw[Nat.succ_mul] at this; omega
theorem ab.BL (hp:pk ps k=some (.gen (cH a cap w l es))):ab m0 ps (bH ps k (.rd a cap w l es)):=fun m h =>
 h.wD hp (fun b hb=>.inl (.inr (by rcases hb with hb|hb; cases hb.1; exact hb.elim))) (fun b hb=>.inl (.inr (.inl (by rcases hb with hb|hb; exact hb; exact hb.elim)))) (Nat.le_refl _) h.ext (xr (h.get hp).1) fun _ _ _=>rfl
theorem yl {b cap w l:Nat} {es:List (List Value)} (h:(cH (some ⟨b,0,none⟩) cap w l es).P m):oJ m b 0 w es:=by
 rcases(xr h).2.2 with⟨h,_⟩|⟨b',sp,h,_⟩|⟨b',o,h,h'⟩
 ·cases h
 ·cases h
 ·cases h; exact h'
theorem mj {ag:Bool} {sz b j c:Nat} {e:List Value} {r:Value} (ht:TyI E.P ty ag sz) (hx:ev E fs x=some (ptr b (j*w+c))) (hp:pk ps k=some (.gen (cH (some ⟨b,0,none⟩) cap w l es))) (he:es[j]? = some e) (hv:vQ ag sz e c=some r) (hs:vp ag sz c w=true):Od E m0 fs ps (.load ty x) r ps:=by
 have hs:=mG hs;refine .load hx fun m h=>?_;have hl:=yl (h.get hp).1;refine⟨hl.1,?_⟩;have:=jl (P:=E.P) ht hl he hv hs.1 hs.2;rwa[Nat.zero_add] at this
theorem eU {cap':Nat} {ars:Array Operand} (hu:E.P.underlying ty=some (.slice elem)) (ha:e8 E fs ars.toList=some [.slice a l cap']) (hp:pk ps k=some (.gen (cH a cap w l es))) :
  Od E m0 fs ps (.call ⟨.builtin .len,ars,#[ty]⟩) (.int .i64 (l:Int)) ps :=
 fun t m hf h=>⟨fun b hb'=>by
  simp only[aD,hf.e8 ha] at hb';have hab:cW (.slice a l cap')=iE a:=by cases a<;>rfl
  rw[hab] at hb';exact(cH a cap w l es).lt m b (h.get hp).1 (.inl hb'),fun K hK=>by
  have:aL E.P .len #[ty] [.slice a l cap'] m=some (.int .i64 (l:Int),m):=by
   have ht:(#[ty]:Array TypeId)[0]? = some ty:=rfl;simp only[aL,ht,Option.bind_some,hu]
  rw[Go.Ab.cC (hf.e8 ha) this]; exact hK m h⟩
theorem ab.GN {i:Nat} (hp:pk ps k=some (.gen (cH a cap w l es))) (hi:i≤l):ab m0 ps (bH ps k (.gen (cH a cap w i (es.take i)))):=fun m h=>by
 refine h.wD hp (fun b hb=>.inl (.inr (by rcases hb with hb|hb; cases hb.1; exact hb))) (fun b hb=>.inl (.inr (by rcases hb with hb|hb; cases hb; exact hb))) (Nat.le_refl _) h.ext ⟨?_,fun _ b hb=>(h.get hp).2 rfl b hb⟩ fun _ _ _=>rfl
 obtain⟨h1,h2,h3,h4,h5⟩:=(h.get hp).1;refine⟨by rw[List.length_take]; omega,fun e he=>h2 e (List.mem_of_mem_take he),h3,by omega,?_⟩
 rcases h5 with h5|⟨b,jk,tg,rfl,h6,h7,h8,h9⟩
 ·exact .inl h5
 ·have e:es.flatten++jk=(es.take i).flatten++((es.drop i).flatten++jk):=by rw[←List.append_assoc,←List.flatten_append,List.take_append_drop]
  exact .inr ⟨b,(es.drop i).flatten++jk,tg,rfl,h6,by rw[←e]; exact h7,h8,by rw[←e]; exact h9⟩
theorem pF {ys:List α} {hi:Int} {hx:Option Operand} {kd:IntKind} (ht:SlT E.P ty elem w) (hv:ev E fs x=some (.slice a l cap)) (e2:oO E fs hx=some (some (.int kd hi))) (hp:pk ps k=some (.gen (cH a cap w l (xs.map f)))) (hb:okB 0 hi l=true) (h0:0<l) (hys:xs.take hi.toNat=ys) :
  Od E m0 fs ps (.slice ty x none hx none) (.slice a ys.length cap) (bH ps k (.gen (cH a cap w ys.length (ys.map f)))) :=
 fun t m hf hm=>by
  subst hys;have hP:=(hm.get hp).1;obtain⟨h1,h2,h3,h4,h5⟩:=hP;obtain⟨_,b2,b3⟩:=sJ hb;have hlen:(xs.take hi.toNat).length=hi.toNat:=by rw[List.length_take]; rw[List.length_map] at h1; omega
  rcases h5 with⟨_,h⟩|⟨b,jk,tg,rfl,h6,h7,h8,h9⟩
  ·omega
  ·refine⟨fun b' hb'=>?_,fun K hK=>?_⟩
   ·have:cW (.slice (some ⟨b,0,none⟩) l cap)=some b:=rfl;simp only[aD,hf.ev hv,Option.bind_some,this] at hb';cases hb'; exact h6
   ·have hbd:cX l cap none (some (.int kd hi)) none=some (0,hi.toNat,cap):=ft (Nat.zero_le _) (by omega) (.inl ⟨rfl,rfl⟩) (.inr ⟨kd,by rw[Int.toNat_of_nonneg b2]⟩)
    have hs:bA E.P ty (.slice (some ⟨b,0,none⟩) l cap) none (some (.int kd hi)) none m=some (.slice (some ⟨b,0,none⟩) hi.toNat cap):=by
     rcases h8 with rfl|rfl
     ·simp only[bA,ht.und,ht.known,if_true,h7,hbd,ht.size,Nat.zero_mul,Nat.add_zero,Nat.sub_zero,ite_self]
     ·simp only[bA,ht.und,ht.known,if_true,h7,hbd,ht.size,Nat.zero_mul,Nat.add_zero,Nat.sub_zero];rw[if_neg (by simp),if_neg (by omega)]
    rw[Go.Ab.kA (hf.ev hv) (hf.oO rfl) (hf.oO e2) (hf.oO rfl) hs,←hlen];refine hK m ?_;have:=ab.GN (m0:=m0) (i:=(xs.take hi.toNat).length) hp (by rw[hlen]; omega) m hm
    rwa[←List.map_take,show xs.take (xs.take hi.toNat).length=xs.take hi.toNat by rw[hlen]] at this
theorem tS {P:Program} {ty2 n0 c0:Nat} {a0:Option Addr} {e0:List (List Value)} (ht:SlT P ty elem w) (h10:∃e1,P.underlying ty2=some (.slice e1)) (h:Hp m0 m ps) (hp:pk ps k=some (.gen (cH a cap w l es))) (hr:Rd m a0 c0 w n0 e0) (h7:∀e ∈ e0,e.length=w) (ho:fw e0) (hl:lim (l+n0)=true) :
  ∃a' cap' m',bD P ty (some ty2) (.slice a l cap) (.slice a0 n0 c0) m=some (.slice a' (l+n0) cap',m')∧Hp m0 m' (bH ps k (.gen (cH a' cap' w (l+n0) (es++e0)))):=by
 obtain⟨e1,h11⟩:=h10;obtain⟨inf,h12,h13,h14⟩:=ht.bytes;have hln:l+n0≤1073741824:=Nat.le_of_ble_eq_true hl;have hc:=hr.cells;have hlen2:e0.flatten.length=n0*w:=by rw[bJ h7,hr.1]
 have hnew:dA P elem (some ty2) (.slice a0 n0 c0) m=some (n0,e0.flatten):=by
  simp only[dA,Option.bind_some,h11,ht.size];have:ca w (.slice a0 n0 c0) n0 m=some e0.flatten:=hc;rw[this]; rfl
 have hfit:(P.info? elem).any (fun i=>cU i.bytes (l+n0) && i.bytes != 0)=true:=by
  rw[h12];have hmul:(2*(l+n0)+2000)*inf.bytes≤(2*1073741824+2000)*1024:=Nat.mul_le_mul (by omega) h14
  simp only[Option.any_some,cU,Bool.and_eq_true,decide_eq_true_eq,bne_iff_ne,ne_eq];exact⟨by omega,h13⟩
 have hzero:(bh P elem).any (fun z=>z.cells.size == w && z.cells.toList.all aF)=true:=ht.zero;have hpos:=ht.pos;have h15:(w == 0)=false:=by simp; omega
 have hguard:(!(known P elem) || aq P elem == 0 || !aJ e0.flatten || !(P.info? elem).any (fun i=>cU i.bytes (l+n0) && i.bytes != 0) || e0.flatten.length != n0*aq P elem || !(bh P elem).any (fun z=>z.cells.size == aq P elem && z.cells.toList.all aF))=false:=by
  rw[ht.size,ht.known,hfit,hzero,lZ ho,h15,hlen2]; simp
 have hpc:=h.get hp;have hext:=h.ext;have hnew':∀{mm:AMem} {q:List (List Value)},q.length=l+n0→(∀e ∈ q,e.length=w)→(cH (some ⟨mm.next,0,none⟩) (l+n0) w (l+n0) q).P (mm.alloc (.cells q.flatten (.more w))):=fun {mm q} h0 h2 =>
  ⟨h0,h2,hpos,Nat.le_refl _,.inr ⟨mm.next,[],.more w,rfl,by rw[AMem.next_alloc]; omega,by rw[AMem.aU,if_pos rfl,List.append_nil],.inr rfl,by rw[List.append_nil,bJ h2,h0]⟩⟩
 obtain⟨h0,h2,h18,h19,h16⟩:=hpc.1;have h3:(es++e0).length=l+n0:=by rw[List.length_append,h0,hr.1]
 have h4:∀e ∈ es++e0,e.length=w:=fun e he=>(List.mem_append.1 he).elim (h2 e) (h7 e);have hfl:es.flatten.length=l*w:=by rw[bJ h2,h0]
 have o1:∀b,(Pc.gen (cH a cap w l es)).ow b↔iE a=some b:=fun b=>⟨fun hb=>by rcases hb with hb|hb; cases hb.1; exact hb,fun hb=>.inr hb⟩
 have fresh:∀{mm:AMem} {c':Nat},m.next≤mm.next→Ext m0 mm→(∀b,iE a≠some b→b<m.next→mm.get b=m.get b)→∀{o:AObj},(cH (some ⟨mm.next,0,none⟩) c' w (l+n0) (es++e0)).P (mm.alloc o)→Hp m0 (mm.alloc o) (bH ps k (.gen (cH (some ⟨mm.next,0,none⟩) c' w (l+n0) (es++e0)))):=fun {mm c'} hn he hg {o} hP =>
  h.wD hp (fun b hb=>.inr (by rcases hb with hb|hb; cases hb.1; cases hb; exact hn)) (fun b hb=>.inr (by rcases hb with hb|hb; cases hb; rcases hb with hb|hb; cases hb; exact hn; exact hb.elim)) (by rw[AMem.next_alloc]; omega) (he.alloc _) ⟨hP,fun _ b hb=>by cases hb; exact Nat.le_trans hext.next hn⟩ fun b hb hlt=>by
   rw[AMem.aU,if_neg (by omega)]; exact hg b (fun e=>hb ((o1 b).2 e)) hlt
 rcases h16 with⟨rfl,rfl⟩|⟨b,jk,tg,rfl,h17,h1,h6,h8⟩
 ·obtain rfl:l=0:=by omega
  obtain rfl:es = []:=List.length_eq_zero_iff.1 h0
  by_cases h5:n0=0
  ·subst h5;obtain rfl:e0 = []:=List.length_eq_zero_iff.1 hr.1;refine⟨none,0,m,?_,?_⟩
   ·unfold bD;simp only[ht.und,hnew];rw[if_neg (by rw[hguard]; exact Bool.false_ne_true)]
    rfl
   ·refine h.wD hp (fun b hb=>.inl (.inr (by rcases hb with hb|hb; cases hb.1; exact hb))) (fun b hb=>.inl (.inr (by rcases hb with hb|hb; cases hb; exact hb))) (Nat.le_refl _) h.ext ⟨⟨rfl,fun e he=>(by cases he),hpos,Nat.le_refl _,.inl ⟨rfl,rfl⟩⟩,fun _ b hb=>(by cases hb)⟩ fun _ _ _=>rfl
  ·refine⟨some ⟨m.next,0,none⟩,n0,m.alloc (.cells e0.flatten (.more w)),?_,?_⟩
   ·unfold bD;simp only[ht.und,hnew];rw[if_neg (by rw[hguard]; exact Bool.false_ne_true)]
    simp only[ht.size];rw[if_neg (by simp),if_neg h5,Nat.zero_add]
   ·have:=hnew' (mm:=m) (q:=[]++e0) h3 h4;rw[Nat.zero_add] at this ⊢;exact(by simpa using fresh (mm:=m) (c':=n0) (Nat.le_refl _) hext (fun _ _ _=>rfl) (by simpa using this))
 ·have hlo:=hpc.2 rfl b rfl
  by_cases hcap:l+n0≤cap
  ·have hjk:n0*w≤jk.length:=by
    rw[List.length_append,hfl] at h8;have:=Nat.mul_le_mul_right w hcap;rw[Nat.add_mul] at this;omega
   have hsp:az (es.flatten++jk) (l*w) e0.flatten=(es++e0).flatten++jk.drop (n0*w):=by
    have e2:=iY es.flatten jk e0.flatten 0;rw[Nat.add_zero,hfl] at e2;rw[e2,List.flatten_append,List.append_assoc]
    congr 1
    refine List.ext_getElem? fun i=>?_;rw[bK,Nat.zero_add,Nat.sub_zero,List.getElem?_append,hlen2]
    by_cases hi:i<n0*w
    ·rw[if_pos ⟨Nat.zero_le _,hi,by omega⟩,if_pos hi]
    ·rw[if_neg (by omega),if_neg hi,List.getElem?_drop]
     congr 1; omega
   have hlenS:((es++e0).flatten++jk.drop (n0*w)).length=cap*w:=by
    rw[←hsp,bP,h8]
   by_cases hz:e0.flatten = []
   ·
    have h5:n0=0:=by
     rw[hz,List.length_nil] at hlen2;rcases Nat.mul_eq_zero.1 hlen2.symm with e|e
     ·exact e
     ·omega
    subst h5;obtain rfl:e0 = []:=List.length_eq_zero_iff.1 hr.1;refine⟨some ⟨b,0,none⟩,cap,m,?_,?_⟩
    ·unfold bD;simp only[ht.und,hnew];rw[if_neg (by rw[hguard]; exact Bool.false_ne_true)]
     simp only[h1];rw[if_pos hcap];simp[AMem.bS]
    ·rw[List.append_nil,Nat.add_zero];refine h.wD hp (fun b hb=>.inl hb) (fun b hb=>.inl hb) (Nat.le_refl _) h.ext hpc fun _ _ _=>rfl
   ·refine⟨some ⟨b,0,none⟩,cap,m.set b (.cells ((es++e0).flatten++jk.drop (n0*w)) tg),?_,?_⟩
    ·have hst:m.bS b (0+l*w) e0.flatten=some (m.set b (.cells ((es++e0).flatten++jk.drop (n0*w)) tg)):=by
      rw[Nat.zero_add,←hsp];have hfit':l*w+e0.flatten.length≤(es.flatten++jk).length:=by rw[hlen2,List.length_append,hfl]; omega
      cases h9:e0.flatten with
      | nil=>exact absurd h9 hz
      | cons v vs =>
       rw[h9] at hfit';rcases h6 with rfl|rfl<;>simp only[AMem.bS,h1]<;>rw[if_pos hfit']
     unfold bD;simp only[ht.und,hnew];rw[if_neg (by rw[hguard]; exact Bool.false_ne_true)]
     simp only[h1,ht.size];rw[if_pos hcap,hst]; rfl
    ·refine h.wD hp (fun b' hb=>.inl (by rcases hb with hb|hb; cases hb.1; exact .inr hb)) (fun b' hb=>.inl (by rcases hb with hb|hb; cases hb; exact .inr hb)) (by rw[AMem.next_set]; exact Nat.le_refl _) (hext.set hlo _) ⟨⟨h3,h4,hpos,hcap,.inr ⟨b,jk.drop (n0*w),tg,rfl,by rw[AMem.next_set]; exact h17,by rw[AMem.aY,if_pos rfl],h6,hlenS⟩⟩,fun _ b' hb=>by cases hb; exact hlo⟩ fun b' hb hlt=>?_
     rw[AMem.aY,if_neg (fun e=>hb ((o1 b').2 (by rw[e]; rfl)))]
  ·have htake:(es.flatten++jk).take (l*w)=es.flatten:=by rw[List.take_append_of_le_length (by omega),List.take_of_length_le (by omega)]
   rcases h6 with rfl|rfl
   ·refine⟨some ⟨m.next,0,none⟩,l+n0,m.alloc (.cells (es.flatten++e0.flatten) (.more w)),?_,?_⟩
    ·unfold bD;simp only[ht.und,hnew];rw[if_neg (by rw[hguard]; exact Bool.false_ne_true)]
     simp only[ht.size,h1];rw[if_neg hcap];have hld:m.cL b 0 (l*w)=some es.flatten:=by
      simp only[AMem.cL,h1,List.drop_zero,htake];rw[if_pos hfl]
     simp only[hld]
    ·have:=hnew' (mm:=m) h3 h4;rw[List.flatten_append] at this;exact fresh (Nat.le_refl _) hext (fun _ _ _=>rfl) this
   ·refine⟨some ⟨(m.kill b).next,0,none⟩,l+n0,(m.kill b).alloc (.cells (es.flatten++e0.flatten) (.more w)),?_,?_⟩
    ·unfold bD;simp only[ht.und,hnew];rw[if_neg (by rw[hguard]; exact Bool.false_ne_true)]
     simp only[ht.size,h1];rw[if_neg hcap];simp only[and_self,if_true,htake,hfl,AMem.next_kill]
    ·have hk:Ext m0 (m.kill b):=⟨by rw[AMem.next_kill]; exact hext.next,fun x hx=>by rw[AMem.dL,if_neg (by omega)]; exact hext.same x hx,by
      rw[AMem.wl_kill];have:=hext.wl; omega⟩
     have:=hnew' (mm:=m.kill b) h3 h4;rw[List.flatten_append] at this;exact fresh (by rw[AMem.next_kill]; exact Nat.le_refl _) hk (fun b' hb' hlt=>by rw[AMem.dL,if_neg (fun e=>hb' (by rw[e]; rfl))]) this
theorem rm {ty2 c0 l1:Nat} {a0:Option Addr} {ys:List α} {ars:Array Operand} (he:Enc f w) (ht:SlT E.P ty elem w) (h2:∃e0,E.P.underlying ty2=some (.slice e0)) (ha:e8 E fs ars.toList=some [.slice a l cap,.slice a0 l1 c0]) (hp:pk ps k=some (.gen (cH a cap w l (xs.map f)))) (hr:∀m,Hp m0 m ps→Rd m a0 c0 w l1 (ys.map f)) (hl:lim (xs++ys).length=true) :
  Ox E m0 fs ps (.call ⟨.builtin .append,ars,#[ty,ty2]⟩) (fun r:Option Addr × Nat=>.slice r.1 (xs++ys).length r.2) (fun r=>bH ps k (.gen (cH r.1 r.2 w (xs++ys).length ((xs++ys).map f)))):=by
 intro t m hf hm;have h0:l=xs.length:=by have:=(hm.get hp).1.1; rw[List.length_map] at this; exact this.symm
 have h1:l1=ys.length:=by have:=(hr m hm).1; rw[List.length_map] at this; exact this.symm
 refine⟨fun b hb=>(by simp[aD] at hb),fun K hK=>?_⟩
 obtain⟨a',cap',m',g0,g1⟩:=tS ht h2 hm hp (hr m hm) (he.mO ys) (he.fw ys) (by rw[h0,h1,←List.length_append]; exact hl)
 have e1:xs.map f++ys.map f=(xs++ys).map f:=List.map_append.symm;have e0:l+l1=(xs++ys).length:=by rw[h0,h1,List.length_append]
 rw[e1,e0] at g1;rw[e0] at g0;have:aL E.P .append #[ty,ty2] [.slice a l cap,.slice a0 l1 c0] m=some (.slice a' (xs++ys).length cap',m'):=g0;rw[Go.Ab.cC (hf.e8 ha) this];exact hK (a',cap') m' g1
end
section
variable {E : Env} {n : Nat} {m0 : AMem} {fs : Fs} {ps : List Pc} {ops : Array Oper} {os : List Oper} {K : Tm → AMem → Prop} {dr : Bool}
theorem Wo.rA {k cap w l:Nat} {a:Option Addr} {es:List (List Value)} (hp:pk ps k=some (.gen (cH a cap w l es))) (hl:0<l) (h:∀b,a=some ⟨b,0,none⟩→Wo dr E n ops K os m0 fs ps):Wo dr E n ops K os m0 fs ps:=by
 have key:∀m,Hp m0 m ps→∃b,a=some ⟨b,0,none⟩:=by
  intro m hm;obtain⟨_,_,_,h4,h5⟩:=(hm.get hp).1;rcases h5 with⟨_,h⟩|⟨b,_,_,h,_⟩
  ·omega
  ·exact⟨b,h⟩
 cases dr with
 | false=>intro t m hf hm; obtain⟨b,h1⟩:=key m hm; exact h b h1 t m hf hm
 | true=>intro t m w' hf hm hw; obtain⟨b,h1⟩:=key m hm; exact h b h1 t m w' hf hm hw
end
end Go.Ab.W
end

section
namespace Go.Proofs.YthmekkhpddehjaaGreat
open Go Go.Ab Go.Ab.W
set_option maxRecDepth 10000
def BB (_:Nat) (l1:List (Int × Int)):(Int × Int)→Option ((Int × Int) ⊕ (Int)):=fun(v0,v1) =>
br (decide (v0<(l1.length:Int))) (
gd (bF v0 l1.length) (
ob (l1[v0.toNat]?) fun(x10,x11) =>
gd (decide ((l1.length:Int)≠0)) (
gd (bF (Int.tmod (IntKind.wrap .i64 (v0+1)) (l1.length:Int)) l1.length) (
ob (l1[(Int.tmod (IntKind.wrap .i64 (v0+1)) (l1.length:Int)).toNat]?) fun(x12,x13) =>
ob (
gd (bF 0 l1.length) (
ob (l1[(0:Int).toNat]?) fun(x3,x4) =>
gd (bF 0 l1.length) (
ob (some (IntKind.wrap .i64 ((IntKind.wrap .i64 (x10-x3))*(IntKind.wrap .i64 (x13-x4))))) fun y0 =>
gd (bF 0 l1.length) (
gd (bF 0 l1.length) (
ob (some (IntKind.wrap .i64 ((IntKind.wrap .i64 (x11-x4))*(IntKind.wrap .i64 (x12-x3))))) fun y1 =>
some (IntKind.wrap .i64 ((IntKind.wrap .i64 (v1+y0))-y1))))))) fun v2 =>
some (.inl (IntKind.wrap .i64 (v0+1),v2)))))) (
some (.inr v1))
def Ed (n:Nat) (l1:List (Int × Int)):Option (Int × Int) :=
ob (Ci n l1) fun r0 =>
br (!decide (r0=0)) (
some (0,r0)) (
ob (
some ()) fun _ =>
ob (
ob (
cY (BB n l1) n (0,0)) fun v0 =>
some v0) fun v1 =>
some (v1,0))
def Ex (n:Nat) (l1:List (Int × Int)):(Int × Int)→Option ((Int × Int) ⊕ (Int)):=fun(v7,v8) =>
br (decide (v8<(l1.length:Int))) (
gd (bF v8 l1.length) (
ob (l1[v8.toNat]?) fun(x30,x31) =>
ob (Bi n l1 (IntKind.wrap .i64 (v8+1))) fun(r34,r35) =>
ob (some (IntKind.wrap .i64 ((IntKind.wrap .i64 (v7+(IntKind.wrap .i64 (x30*r35))))-(IntKind.wrap .i64 (x31*r34))))) fun y38 =>
some (.inl (y38,IntKind.wrap .i64 (v8+1))))) (
some (.inr v7))
def GX (n:Nat) (l1:List (Int × Int)):Option (Int) :=
ob (
cY (Ex n l1) n (0,0)) fun v25 =>
some v25
def GF (n:Nat) (l1:List (Int × Int)):Option (Int × Int) :=
ob (ET n l1) fun r6 =>
br (!decide (r6=0)) (
some (0,r6)) (
ob (GX n l1) fun r9 =>
some (r9,0))
def BA (n:Nat) (l1:List (Int × Int)):(Int × List (Bool))→Option ((Int × List (Bool)) ⊕ (List (Bool))):=fun(v0,l2) =>
br (decide (v0<(l1.length:Int))) (
gd (bF v0 l1.length) (
ob (l1[v0.toNat]?) fun(x3,x4) =>
gd (decide ((l1.length:Int)≠0)) (
gd (bF (Int.tmod (IntKind.wrap .i64 (v0+1)) (l1.length:Int)) l1.length) (
ob (l1[(Int.tmod (IntKind.wrap .i64 (v0+1)) (l1.length:Int)).toNat]?) fun(x10,x11) =>
ob (
gd (decide ((l1.length:Int)≠0)) (
gd (bF (Int.tmod (IntKind.wrap .i64 (v0+2)) (l1.length:Int)) l1.length) (
ob (l1[(Int.tmod (IntKind.wrap .i64 (v0+2)) (l1.length:Int)).toNat]?) fun(x12,x13) =>
ob (uN n x3 x4 x10 x11 x12 x13) fun r0 =>
gd (bF (IntKind.wrap .i64 (1+r0)) 3) (
ob (l2[(IntKind.wrap .i64 (1+r0)).toNat]?) fun _ =>
some (l2.set ((IntKind.wrap .i64 (1+r0)).toNat) true))))) fun l3 =>
some (.inl (IntKind.wrap .i64 (v0+1),l3)))))) (
some (.inr l2))
def EK (n:Nat) (l1:List (Int × Int)):Option (Bool × Int) :=
ob (Ci n l1) fun r0 =>
br (!decide (r0=0)) (
some (false,r0)) (
ob (
some ()) fun _ =>
ob (
ob (
cY (BA n l1) n (0,([false,false,false]:List (Bool)))) fun l2 =>
some l2) fun l3 =>
ob (E5 l3) fun(x3,_,x4) =>
some (!(x3 == x4),0))
def El (n:Nat) (l1:List (Int × Int)):(Bool × Bool × Int)→Option ((Bool × Bool × Int) ⊕ (Bool × Bool)):=fun(v1,v2,v0) =>
br (decide (v0<(l1.length:Int))) (
ob (
gd (bF v0 l1.length) (
ob (l1[v0.toNat]?) fun(x3,x4) =>
ob (Bi n l1 (IntKind.wrap .i64 (v0+1))) fun(r1,r2) =>
ob (Bi n l1 (IntKind.wrap .i64 (v0+2))) fun(r3,r4) =>
ob (Bg n x3 x4 r1 r2 r3 r4) fun r0 =>
ob (
br (v1) (
some true) (
some (decide (0<r0)))) fun v3 =>
br (v2) (
some (v3,true)) (
some (v3,decide (r0<0))))) fun(v4,v5) =>
some (.inl (v4,v5,IntKind.wrap .i64 (v0+1)))) (
some (.inr (v1,v2)))
def GV (n:Nat) (l1:List (Int × Int)):Option (Bool × Int) :=
ob (ET n l1) fun r6 =>
br (!decide (r6=0)) (
some (false,r6)) (
ob (
cY (El n l1) n (false,false,0)) fun(v62,v63) =>
some (!(v62 == v63),0))
def DX (_:Nat) (l2:List (Int × Int)):(List (Int × Int) × Int × Int)→Option ((List (Int × Int) × Int × Int) ⊕ (List (Int × Int))):=fun(l1,v0,v1) =>
br (decide (v0<v1)) (
gd (bF v1 (l2.length-1:Nat)) (
ob (l1[(1+v1.toNat)]?) fun(x3,x4) =>
gd (bF v0 (l2.length-1:Nat)) (
ob (l1[(1+v0.toNat)]?) fun(x10,x11) =>
gd (bF v0 (l2.length-1:Nat)) (
gd (bF v1 (l2.length-1:Nat)) (
ob ((l1.set (1+v0.toNat) (x3,x4))[(1+v1.toNat)]?) fun(_,_) =>
some (.inl (((l1.set (1+v0.toNat) (x3,x4)).set (1+v1.toNat) (x10,x11)),IntKind.wrap .i64 (v0+1),IntKind.wrap .i64 (v1-1)))))))) (
some (.inr l1))
def Gt (n:Nat) (l2:List (Int × Int)):Option (List (Int × Int) × Int) :=
ob (Ci n l2) fun r0 =>
br (!decide (r0=0)) (
some ([],r0)) (
ob (GB n l2) fun l1 =>
gd (decide (1<l1.length)) (
ob (
ob (
cY (DX n l1) n (l1,0,IntKind.wrap .i64 (((l1.length-1:Nat):Int)-1))) fun l3 =>
some l3) fun l4 =>
some (l4,0)))
def Bm (n:Nat) (l1:List (Int × Int)) (x5:Int) (x6:Int):(Int × Int)→Option ((Int × Int) ⊕ ((Int) ⊕ (Int))):=fun(v0,v1) =>
br (decide (v0<(l1.length:Int))) (
gd (bF v0 l1.length) (
ob (l1[v0.toNat]?) fun(x10,x3) =>
gd (decide ((l1.length:Int)≠0)) (
gd (bF (Int.tmod (IntKind.wrap .i64 (v0+1)) (l1.length:Int)) l1.length) (
ob (l1[(Int.tmod (IntKind.wrap .i64 (v0+1)) (l1.length:Int)).toNat]?) fun(x11,x4) =>
ob (α:=(Unit) ⊕ (Int)) (
ob (wE n v0 x10 x3 x11 x4 x5 x6) fun r1 =>
br (r1) (
some (.inl ())) (
ob (uN n x10 x3 x11 x4 x5 x6) fun r0 =>
ob (
br (decide (x3≤x6)) (
br (decide (x6<x4)) (
some (decide (0<r0))) (
some false)) (
some false)) fun v2 =>
br (v2) (
some (.inr (IntKind.wrap .i64 (v1+1)))) (
ob (
br (decide (x6<x3)) (
br (decide (x4≤x6)) (
some (decide (r0<0))) (
some false)) (
some false)) fun v3 =>
br (v3) (
some (.inr (IntKind.wrap .i64 (v1-1)))) (
some (.inr v1))))) fun r2=>match r2 with
| .inl _ =>
some (.inr (.inl v1))
| .inr v4 =>
some (.inl (IntKind.wrap .i64 (v0+1),v4)))))) (
some (.inr (.inr v1)))
def BH (n:Nat) (l1:List (Int × Int)) (x5:Int) (x6:Int):Option (Int × Int) :=
ob (Ci n l1) fun r0 =>
br (!decide (r0=0)) (
some (0,r0)) (
ob (xI n x5 x6) fun r1 =>
br (r1) (
some (0,2)) (
ob (
some ()) fun _ =>
ob (α:=(Int) ⊕ (Int)) (
ob (α:=(Int) ⊕ (Int)) (
cY (Bm n l1 x5 x6) n (0,0)) fun r2=>match r2 with
| .inl v0 =>
some (.inl v0)
| .inr v1 =>
some (.inr v1)) fun r3=>match r3 with
| .inl _ =>
some (1,0)
| .inr v2 =>
br (!decide (v2=0)) (
some (2,0)) (
some (0,0))))
def DQ (n:Nat) (l1:List (Int × Int)) (x5:Int) (x6:Int):(Bool × Int)→Option ((Bool × Int) ⊕ ((Unit) ⊕ (Bool))):=fun(v1,v0) =>
br (decide (v0<(l1.length:Int))) (
ob (α:=(Unit) ⊕ (Bool)) (
gd (bF v0 l1.length) (
ob (l1[v0.toNat]?) fun(x4,x3) =>
ob (Bi n l1 (IntKind.wrap .i64 (v0+1))) fun(r1,r0) =>
ob (EC n x4 x3 r1 r0 x5 x6) fun r2 =>
br (r2) (
some (.inl ())) (
ob (
br (!((decide (x6<x3)) == (decide (x6<r0)))) (
ob (Bg n x4 x3 r1 r0 x5 x6) fun r3 =>
some ((decide (0<r3)) == (decide (x3<r0)))) (
some false)) fun v2 =>
br (v2) (
some (.inr (!v1))) (
some (.inr v1))))) fun r4=>match r4 with
| .inl _ =>
some (.inr (.inl ()))
| .inr v3 =>
some (.inl (v3,IntKind.wrap .i64 (v0+1)))) (
some (.inr (.inr v1)))
def Gr (n:Nat) (l1:List (Int × Int)) (x5:Int) (x6:Int):Option (Int) :=
ob (α:=(Unit) ⊕ (Bool)) (
cY (DQ n l1 x5 x6) n (false,0)) fun r0=>match r0 with
| .inl _ =>
some 1
| .inr v0 =>
br (v0) (
some 2) (
some 0)
def Gx (n:Nat) (l1:List (Int × Int)) (x5:Int) (x6:Int):Option (Int × Int) :=
ob (ET n l1) fun r9 =>
br (!decide (r9=0)) (
some (0,r9)) (
ob (Gq n x5 x6) fun r12 =>
br (r12) (
some (0,2)) (
ob (Gr n l1 x5 x6) fun r15 =>
some (r15,0)))
def Gb (n:Nat) (x10:Int) (x11:Int) (x9:Int) (x12:Int) (x13:Int) (x14:Int) (v1:Int) (v2:Int) (l1:List (Int × Int)):Int→Option ((Int) ⊕ ((Unit) ⊕ (Unit))):=fun v0 =>
br (decide (v0<3)) (
gd (bF v0 3) (
ob ([(x10,x11),(IntKind.wrap .i64 ((IntKind.wrap .i64 x9)+(IntKind.wrap .i64 x12)),IntKind.wrap .i64 ((IntKind.wrap .i64 x13)+(IntKind.wrap .i64 x14))),(v1,v2)][v0.toNat]?) fun(x3,x4) =>
ob (BH n l1 x3 x4) fun(r0,r1) =>
ob (Gx n l1 x3 x4) fun(r2,r3) =>
ob (
br (!decide (r0=r2)) (
some true) (
some (!decide (r1=r3)))) fun v3 =>
br (v3) (
some (.inr (.inl ()))) (
some (.inl (IntKind.wrap .i64 (v0+1)))))) (
some (.inr (.inr ())))
def FG (n:Nat) (l2:List (Int × Int)) (l3:List (Int × Int)) (l4:List (Int × Int)) (l5:List (Int × Int)) (x3:Nat) (x4:Int) (x10:Int) (x9:Int) (x11:Int) (x12:Int) (x13:Int):Int→Option ((Int) ⊕ ((Unit) ⊕ (Unit))):=fun v0 =>
br (decide (v0<4)) (
gd (bF v0 4) (
ob ([l2,l3,l4,l5][v0.toNat]?) fun l1 =>
ob (Ed n l1) fun(r0,r1) =>
ob (GF n l1) fun(r2,r3) =>
ob (EK n l1) fun(r4,r5) =>
ob (GV n l1) fun(r6,r7) =>
ob (Gt n l1) fun(l6,r8) =>
ob (Gn n l1) fun(l7,r9) =>
ob (
br (!decide (r0=r2)) (
some true) (
br (!decide (r1=r3)) (
some true) (
br (!(r4 == r6)) (
some true) (
br (!decide (r5=r7)) (
some true) (
br (!decide (r8=r9)) (
some true) (
ob (Gu n l6 l7) fun r10 =>
some (!r10))))))) fun v1 =>
br (v1) (
some (.inr (.inl ()))) (
ob (
br (decide (1<(l1.length:Int))) (
gd (decide ((l1.length:Int)≠0)) (
gd (bF (Int.tmod (IntKind.wrap .i64 ((x3:Nat):Int)) (l1.length:Int)) l1.length) (
ob (l1[(Int.tmod (IntKind.wrap .i64 ((x3:Nat):Int)) (l1.length:Int)).toNat]?) fun(x14,x15) =>
gd (bF 0 l1.length) (
ob (l1[(0:Int).toNat]?) fun(x16,x17) =>
ob (some (IntKind.wrap .i64 ((IntKind.wrap .i64 (Int.tdiv x14 2))+(IntKind.wrap .i64 (Int.tdiv x16 2))))) fun y0 =>
gd (bF 0 l1.length) (
ob (some (IntKind.wrap .i64 ((IntKind.wrap .i64 (Int.tdiv x15 2))+(IntKind.wrap .i64 (Int.tdiv x17 2))))) fun y1 =>
some (y0,y1)))))) (
some (0,0))) fun(v2,v3) =>
ob (α:=(Unit) ⊕ (Unit)) (
cY (Gb n x4 x10 x9 x11 x12 x13 v2 v3 l1) n 0) fun r11=>match r11 with
| .inl _ =>
some (.inr (.inl ()))
| .inr _ =>
some (.inl (IntKind.wrap .i64 (v0+1)))))) (
some (.inr (.inr ())))
def F8 (n:Nat) (l1:List (Int × Int)) (l2:List (Nat)) (x9:Int) (x3:Int) (x10:Nat) (x11:Bool) (x12:Bool) (x13:Nat) (x4:Nat) (x14:Nat) (x15:Int) (x16:Int) (x17:Nat) (x18:Nat) (x19:Nat) (x20:Int) (x21:Int) (x22:Int) (x23:Int) (x24:Int) (x25:Int):Option (Bool) :=
ob (GU n l1 l2 x9 x3 x10 x11 x12 x13 x4 x14 x15 x16 x17 x18 x19 x20 x21) fun(l3,l4,l5,l6) =>
ob (α:=(Unit) ⊕ (Unit)) (
cY (FG n l3 l4 l5 l6 x4 x22 x23 x9 x24 x3 x25) n 0) fun r0=>match r0 with
| .inl _ =>
some false
| .inr _ =>
ob (EY n) fun r1 =>
some r1
end Go.Proofs.YthmekkhpddehjaaGreat
end

section
namespace Go.Proofs.YthmekkhpddehjaaGreat
open Go Go.Ab Go.Ab.W
def Dg (n:Nat) (l1:List (Int × Int)) (x5:Int):Option (Bool) :=
ob (Ed n l1) fun(r7,r8) =>
br (decide (r7=x5)) (
some (decide (r8=0))) (
some false)
end Go.Proofs.YthmekkhpddehjaaGreat
end

section
namespace Go.Ab.W
open Go Go.Ab
attribute [local irreducible] Tm.at Trie.set Trie.get AMem.get AMem.set AMem.alloc AMem.ww AMem.kill
section
variable {E : Env} {n : Nat} {m0 m : AMem} {fs : Fs} {ps : List Pc} {x y : Operand} {ty : TypeId} {v : Value}
theorem yy {elem b w l k:Nat} {lo:Int} {es:List (List Value)} {tg:Tag} {lx:Option Operand} {kd:IntKind} (ht:SlT E.P ty elem w) (hx:ev E fs x=some (.slice (some ⟨b,0,none⟩) l l)) (e1:oO E fs lx=some (some (.int kd lo))) (hp:pk ps k=some (.arr b w l es tg)) (h:0≤lo∧lo.toNat<l) :
  Od E m0 fs ps (.slice ty x lx none none) (.slice (some ⟨b,lo.toNat*w,none⟩) (l-lo.toNat) (l-lo.toNat)) ps :=
 Ej (L:=lo.toNat) ht hx (by rw[Int.toNat_of_nonneg h.1]; exact e1) hp h.2 rfl
theorem mu (z:List Value):∀n,bM z n=(List.replicate n z).flatten
 | 0=>rfl
 | n+1=>by rw[List.replicate_succ,List.flatten_cons,←mu z n]; rfl
theorem nm:∀{cs vs:List Value},cs.length=vs.length→az cs 0 vs=vs
 | [],[],_=>rfl
 | c::cs,v::vs,h=>by simp only[az]; rw[nm (by simpa using h)]
theorem BT {elem b w l c k o:Nat} {lo:Int} {z:Value} {zs:List Value} {es:List (List Value)} {tg:Tag} {ars:Array Operand} (ht:SlT E.P ty elem w) (ha:e8 E fs ars.toList=some [.slice (some ⟨b,o,none⟩) (l-lo.toNat) c]) (ho:lo.toNat*w=o) (hp:pk ps k=some (.arr b w l es tg)) (h:0≤lo∧lo.toNat<l)
  (hz:bh E.P elem=some z) (hzs:z.cells.toList=zs) (hzp:zs.all aF=true) (hzl:Nat.beq zs.length w=true) :
  Od E m0 fs ps (.call ⟨.builtin .clear,ars,#[ty]⟩) undef (bH ps k (.arr b w l (es.take lo.toNat++List.replicate (l-lo.toNat) zs) tg)) :=
 fun t m hf hm=>⟨fun b' hb'=>by simp[aD] at hb',fun K hK=>by
  obtain⟨g1,g2,hg,g4,g5,g6,g7⟩:=hm.get hp;have hzl:=Nat.eq_of_beq_eq_true hzl;subst ho;have hsz:z.cells.size=aq E.P elem:=by rw[ht.size,←hzl,←hzs]; simp
  have hza:dx E.P elem (l-lo.toNat)=some (List.replicate (l-lo.toNat) zs).flatten:=by
   unfold dx;rw[hz];simp only[hsz,if_true,hzs,mu]
  have hrl:(List.replicate (l-lo.toNat) zs).flatten.length=(l-lo.toNat)*w:=by rw[bJ (w:=w) (fun e he=>by rw[List.eq_of_mem_replicate he,hzl]),List.length_replicate]
  have htk:(es.take lo.toNat).flatten.length=lo.toNat*w:=by rw[bJ (fun e he=>g5 e (List.mem_of_mem_take he)),List.length_take,g4,Nat.min_eq_left (by omega)]
  have hdr:(es.drop lo.toNat).flatten.length=(l-lo.toNat)*w:=by rw[bJ (fun e he=>g5 e (List.mem_of_mem_drop he)),List.length_drop,g4]
  have hsp:az es.flatten (lo.toNat*w) (List.replicate (l-lo.toNat) zs).flatten=(es.take lo.toNat++List.replicate (l-lo.toNat) zs).flatten:=by
   have e1:es.flatten=(es.take lo.toNat).flatten++(es.drop lo.toNat).flatten:=by rw[←List.flatten_append,List.take_append_drop]
   have:=iY (es.take lo.toNat).flatten (es.drop lo.toNat).flatten (List.replicate (l-lo.toNat) zs).flatten 0;rw[Nat.add_zero,htk] at this;rw[e1,this,nm (by rw[hdr,hrl]),List.flatten_append]
  have hlen:lo.toNat*w+(List.replicate (l-lo.toNat) zs).flatten.length≤es.flatten.length:=by
   rw[hrl,bJ g5,g4,←Nat.add_mul]; exact Nat.mul_le_mul_right w (by omega)
  have hst:m.bS b (lo.toNat*w) (List.replicate (l-lo.toNat) zs).flatten=some (m.set b (.cells (es.take lo.toNat++List.replicate (l-lo.toNat) zs).flatten tg)):=by
   rw[←hsp];cases hc:(List.replicate (l-lo.toNat) zs).flatten with
   | nil =>
    rw[hc] at hrl;have:0<(l-lo.toNat)*w:=Nat.mul_pos (by omega) g7
    simp at hrl;omega
   | cons a' new =>
    rw[hc] at hlen;rcases g6 with rfl|rfl<;>simp only[AMem.bS,hg]<;>rw[if_pos hlen]
  obtain⟨q,hq⟩:=Nat.exists_eq_succ_of_ne_zero (show l-lo.toNat≠0 by omega)
  have hpl:((List.replicate (l-lo.toNat) zs).flatten).all aF=true:=by
   rw[List.all_eq_true];intro u hu;obtain⟨e,h1,h2⟩:=List.mem_flatten.1 hu;rw[List.eq_of_mem_replicate h1] at h2;exact List.all_eq_true.1 hzp u h2
  have:aL E.P .clear #[ty] [.slice (some ⟨b,lo.toNat*w,none⟩) (l-lo.toNat) c] m=some (undef,m.set b (.cells (es.take lo.toNat++List.replicate (l-lo.toNat) zs).flatten tg)):=by
   have hty:(#[ty]:Array TypeId)[0]? = some ty:=rfl;rw[hq] at hza hpl hst ⊢;simp only[aL,hty,p6,ht.und,hza,hpl,if_true,hst,Option.map_some]
   rfl
  rw[Go.Ab.cC (hf.e8 ha) this];refine hK _ (hm.write hp rfl rfl rfl rfl ⟨g1,by rw[AMem.next_set]; exact g2,by rw[AMem.aY,if_pos rfl],?_,fun e he=>?_,g6,g7⟩)
  ·rw[List.length_append,List.length_take,List.length_replicate,g4]; omega
  ·rcases List.mem_append.1 he with he|he
   ·exact g5 e (List.mem_of_mem_take he)
   ·rw[List.eq_of_mem_replicate he,hzl]⟩
theorem CP {α:Type} {f:α→List Value} {z0:α} {xs:List α} {elem b w l c k o:Nat} {lo:Int} {z:Value} {tg:Tag} {ars:Array Operand} (ht:SlT E.P ty elem w) (ha:e8 E fs ars.toList=some [.slice (some ⟨b,o,none⟩) (l-lo.toNat) c]) (ho:lo.toNat*w=o) (hp:pk ps k=some (.arr b w l (xs.map f) tg)) (h:0≤lo∧lo.toNat<l)
  (hz:bh E.P elem=some z) (hzs:z.cells.toList=f z0) (hzp:(f z0).all aF=true) (hzl:Nat.beq (f z0).length w=true) :
  Od E m0 fs ps (.call ⟨.builtin .clear,ars,#[ty]⟩) undef (bH ps k (.arr b w l ((xs.take lo.toNat++List.replicate (l-lo.toNat) z0).map f) tg)):=by
 have:=BT (m0:=m0) ht ha ho hp h hz hzs hzp hzl;rwa[←List.map_take,←List.map_replicate,←List.map_append] at this
theorem xh {α:Type} {f:α→List Value} {ag:Bool} {sz b w l j c k cap:Nat} {xs:List α} {x1 x2:α} (ht:TyI E.P ty ag sz) (hx:ev E fs x=some (ptr b (j*w+c))) (hy:ev E fs y=some v) (hp:pk ps k=some (.gen (cH (some ⟨b,0,none⟩) cap w l (xs.map f)))) (he:xs[j]? = some x1) (hv:wB (f x1) c v sz=some (f x2)) :
  Od E m0 fs ps (.store ty x y) undef (bH ps k (.gen (cH (some ⟨b,0,none⟩) cap w l ((xs.set j x2).map f)))):=by
 refine .store hx hy fun m h=>?_;obtain⟨g1,g2,g3,g4,g5⟩:=(h.get hp).1;have hlo:=(h.get hp).2 rfl b rfl;rcases g5 with⟨hh,_⟩|⟨b',jk,tg,hh,h6,h7,h8,h9⟩
 ·cases hh
 ·cases hh;have hes:=aH (f:=f) he;simp only[wB] at hv
  split at hv
  ·rename_i e1;have hv:=Option.some.inj hv;simp only[Bool.and_eq_true] at e1;obtain⟨⟨⟨h1,h2⟩,h3⟩,h4⟩:=e1;have h1:=Nat.eq_of_beq_eq_true h1;have h4:=Nat.le_of_ble_eq_true h4;have hw1:=g2 _ (List.mem_of_getElem? hes);have hj:j<(xs.map f).length:=(List.getElem?_eq_some_iff.1 hes).1;have hmul:(j+1)*w≤(xs.map f).length*w:=Nat.mul_le_mul_right w hj;rw[Nat.succ_mul] at hmul;have hfl:=bJ g2;have hst:wB ((xs.map f).flatten++jk) (j*w+c) v sz=some (az ((xs.map f).flatten++jk) (j*w+c) v.cells.toList):=by
    have:(Nat.beq v.cells.toList.length sz && Nat.blt 0 sz && aJ v.cells.toList && Nat.ble (j*w+c+sz) ((xs.map f).flatten++jk).length)=true:=by
     simp only[Bool.and_eq_true];exact⟨⟨⟨by rw[h1]; exact Nat.beq_refl _,h2⟩,h3⟩,Nat.ble_eq_true_of_le (by rw[List.length_append,hfl]; omega)⟩
    simp only[wB,this]
   have hsp:az ((xs.map f).flatten++jk) (j*w+c) v.cells.toList=((xs.set j x2).map f).flatten++jk:=by
    rw[nz _ _ _ _ (by rw[hfl,h1]; omega),lQ g2 hes (by omega),hv,List.map_set]
   refine⟨_,nu ht h7 (by rcases h8 with rfl|rfl<;>simp) hst,?_⟩
   rw[hsp];refine h.wD hp (fun b' hb=>.inl (.inr (by rcases hb with hb|hb; cases hb.1; exact hb))) (fun b' hb=>.inl (by rcases hb with hb|hb; cases hb; exact .inr hb)) (by rw[AMem.next_set]; exact Nat.le_refl _) (h.ext.set hlo _) ⟨⟨by simpa using g1,fun e he'=>?_,g3,g4,.inr ⟨b,jk,tg,rfl,by rw[AMem.next_set]; exact h6,by rw[AMem.aY,if_pos rfl],h8,?_⟩⟩,fun _ b' hb=>by cases hb; exact hlo⟩ fun b' hb hlt=>?_
   ·rw[←ux] at he';rcases List.mem_or_eq_of_mem_set he' with h5|h5
    ·exact g2 _ h5
    ·rw[h5,←hv,eo _ _ _ (by omega)]; exact hw1
   ·rw[←hsp,bP]; exact h9
   ·rw[AMem.aY,if_neg (fun e=>hb (.inr (by rw[e]; rfl)))]
  ·cases hv
end
end Go.Ab.W
end

section
namespace Go.Proofs.YthmekkhpddehjaaGreat
open Go Go.Ab Go.Ab.W
set_option maxRecDepth 10000
def EV (_:Nat) (l:List (Int × Int)):Option (List (Int × Int)):=gd (lim l.length) (some (l.mergeSort cz))
def sK (n:Nat) (l1:List (Int × Int)):Int→Option ((Int) ⊕ ((Int) ⊕ (Unit))):=fun v0 =>
br (decide (v0<(l1.length:Int))) (
gd (bF v0 l1.length) (
ob (l1[v0.toNat]?) fun(x3,x4) =>
ob (xI n x3 x4) fun r0 =>
br (r0) (
some (.inr (.inl v0))) (
some (.inl (IntKind.wrap .i64 (v0+1)))))) (
some (.inr (.inr ())))
def nY (_:Nat) (l2:List (Int × Int)) (v1:Int):(List (Int × Int) × Int × Int)→Option ((List (Int × Int) × Int × Int) ⊕ (List (Int × Int) × Int)):=fun(l1,v2,v0) =>
br (decide (v0<((l2.length-v1.toNat:Nat):Int))) (
ob (
gd (bF v0 (l2.length-v1.toNat:Nat)) (
ob (l1[(v1.toNat+v0.toNat)]?) fun(x3,x4) =>
gd (bF (IntKind.wrap .i64 (v0-1)) (l2.length-v1.toNat:Nat)) (
ob (l1[(v1.toNat+(IntKind.wrap .i64 (v0-1)).toNat)]?) fun(x10,x11) =>
br (!(decide (x3=x10) && decide (x4=x11))) (
gd (bF v0 (l2.length-v1.toNat:Nat)) (
gd (bF v2 l2.length) (
ob (l1[v2.toNat]?) fun(_,_) =>
some ((l1.set v2.toNat (x3,x4)),IntKind.wrap .i64 (v2+1))))) (
some (l1,v2))))) fun(l3,v3) =>
some (.inl (l3,v3,IntKind.wrap .i64 (v0+1)))) (
some (.inr (l1,v2)))
def ko (n:Nat) (l1:List (Int × Int)) (l2:List (Int × Int)):Int→Option ((Int) ⊕ ((List (Int × Int)) ⊕ (Unit))):=fun v0 =>
br (decide (v0<(l1.length:Int))) (
gd (bF v0 l1.length) (
ob (l2[v0.toNat]?) fun(x3,x4) =>
gd (bF (IntKind.wrap .i64 (v0-1)) l1.length) (
ob (l2[(IntKind.wrap .i64 (v0-1)).toNat]?) fun(x10,x11) =>
br ((decide (x3=x10) && decide (x4=x11))) (
gd (bF v0 l1.length) (
ob (
cY (nY n l1 v0) n (l2,v0,1)) fun(l3,v1) =>
gd (bF v1 l1.length) (
gd (okB 0 v1 l1.length) (
gd (decide (0<l1.length)) (
ob (some ((l3.take v1.toNat++List.replicate (l1.length-v1.toNat) (0,0)).take (v1:Int).toNat)) fun l4 =>
some (.inr (.inl l4))))))) (
some (.inl (IntKind.wrap .i64 (v0+1))))))) (
some (.inr (.inr ())))
def lS (n:Nat) (x3:Int) (x4:Int):(List (Int × Int))→Option ((List (Int × Int)) ⊕ (List (Int × Int))):=fun l1 =>
ob (
br (decide (1<(l1.length:Int))) (
gd (bF (IntKind.wrap .i64 ((l1.length:Int)-2)) l1.length) (
ob (l1[(IntKind.wrap .i64 ((l1.length:Int)-2)).toNat]?) fun(x10,x11) =>
gd (bF (IntKind.wrap .i64 ((l1.length:Int)-1)) l1.length) (
ob (l1[(IntKind.wrap .i64 ((l1.length:Int)-1)).toNat]?) fun(x12,x13) =>
ob (uN n x10 x11 x12 x13 x3 x4) fun r0 =>
some (decide (r0≤0))))) (
some false)) fun v0 =>
br (v0) (
gd (okB 0 (IntKind.wrap .i64 ((l1.length:Int)-1)) l1.length) (
gd (decide (0<l1.length)) (
ob (some (l1.take (IntKind.wrap .i64 ((l1.length:Int)-1):Int).toNat)) fun l2 =>
some (.inl l2)))) (
some (.inr l1))
def pq (n:Nat) (n0:Nat) (l3:List (Int × Int)):(List (Int × Int) × Int)→Option ((List (Int × Int) × Int) ⊕ (List (Int × Int))):=fun(l1,v0) =>
br (decide (v0<(n0:Int))) (
gd (bF v0 n0) (
ob (l3[v0.toNat]?) fun(x3,x4) =>
ob (
cY (lS n x3 x4) n l1) fun l2 =>
gd (lim (l2++[(x3,x4)]).length) (
some (.inl ((l2++[(x3,x4)]),IntKind.wrap .i64 (v0+1)))))) (
some (.inr l1))
def pw (_:Nat) (n0:Nat):(List (Int × Int) × Int × Int)→Option ((List (Int × Int) × Int × Int) ⊕ (List (Int × Int))):=fun(l1,v0,v1) =>
br (decide (v0<v1)) (
gd (bF v1 n0) (
ob (l1[v1.toNat]?) fun(x3,x4) =>
gd (bF v0 n0) (
ob (l1[v0.toNat]?) fun(x10,x11) =>
gd (bF v0 n0) (
gd (bF v1 n0) (
ob ((l1.set v0.toNat (x3,x4))[v1.toNat]?) fun(_,_) =>
some (.inl (((l1.set v0.toNat (x3,x4)).set v1.toNat (x10,x11)),IntKind.wrap .i64 (v0+1),IntKind.wrap .i64 (v1-1)))))))) (
some (.inr l1))
def Bo (n:Nat) (x3:Int) (x4:Int):(List (Int × Int))→Option ((List (Int × Int)) ⊕ (List (Int × Int))):=fun l1 =>
ob (
br (decide (1<(l1.length:Int))) (
gd (bF (IntKind.wrap .i64 ((l1.length:Int)-2)) l1.length) (
ob (l1[(IntKind.wrap .i64 ((l1.length:Int)-2)).toNat]?) fun(x10,x11) =>
gd (bF (IntKind.wrap .i64 ((l1.length:Int)-1)) l1.length) (
ob (l1[(IntKind.wrap .i64 ((l1.length:Int)-1)).toNat]?) fun(x12,x13) =>
ob (uN n x10 x11 x12 x13 x3 x4) fun r0 =>
some (decide (r0≤0))))) (
some false)) fun v0 =>
br (v0) (
gd (okB 0 (IntKind.wrap .i64 ((l1.length:Int)-1)) l1.length) (
gd (decide (0<l1.length)) (
ob (some (l1.take (IntKind.wrap .i64 ((l1.length:Int)-1):Int).toNat)) fun l2 =>
some (.inl l2)))) (
some (.inr l1))
def pc (n:Nat) (n0:Nat) (l3:List (Int × Int)):(List (Int × Int) × Int)→Option ((List (Int × Int) × Int) ⊕ (List (Int × Int))):=fun(l1,v0) =>
br (decide (v0<(n0:Int))) (
gd (bF v0 n0) (
ob (l3[v0.toNat]?) fun(x3,x4) =>
ob (
cY (Bo n x3 x4) n l1) fun l2 =>
gd (lim (l2++[(x3,x4)]).length) (
some (.inl ((l2++[(x3,x4)]),IntKind.wrap .i64 (v0+1)))))) (
some (.inr l1))
def rZ (n:Nat) (l4:List (Int × Int)):Option (List (Int × Int) × Int) :=
br (decide (200<(l4.length:Int))) (
some ([],3)) (
ob (
ob (
ob (α:=(Int) ⊕ (Unit)) (
cY (sK n l4) n 0) fun r0=>match r0 with
| .inl v0 =>
some v0
| .inr _ =>
some (-1)) fun v1 =>
some (decide (0≤v1))) fun v2 =>
br (v2) (
some ([],2)) (
ob (EJ n l4) fun l3 =>
ob (EV n l3) fun l5 =>
ob (
br (decide ((l3.length:Int)<2)) (
some (l5,l3.length)) (
ob (α:=(List (Int × Int)) ⊕ (Unit)) (
cY (ko n l3 l5) n 1) fun r1=>match r1 with
| .inl l8 =>
some (l8,l8.length)
| .inr _ =>
some (l5,l3.length))) fun(l9,n0) =>
ob (
ob (
cY (pq n n0 l9) n (([]:List (Int × Int)),0)) fun l10 =>
some l10) fun l1 =>
ob (
ob (
cY (pw n n0) n (l9,0,IntKind.wrap .i64 ((n0:Int)-1))) fun l11 =>
some l11) fun l12 =>
ob (
ob (
cY (pc n n0 l12) n (([]:List (Int × Int)),0)) fun l13 =>
some l13) fun l2 =>
ob (
br (decide ((l1.length:Int)<2)) (
some true) (
some (decide (IntKind.wrap .i64 ((l1.length:Int)+(l2.length:Int))<5)))) fun v3 =>
br (v3) (
some ([],4)) (
gd (okB 0 (IntKind.wrap .i64 ((l1.length:Int)-1)) l1.length) (
gd (decide (0<l1.length)) (
ob (some (l1.take (IntKind.wrap .i64 ((l1.length:Int)-1):Int).toNat)) fun l6 =>
gd (okB 0 (IntKind.wrap .i64 ((l2.length:Int)-1)) l2.length) (
gd (decide (0<l2.length)) (
ob (some (l2.take (IntKind.wrap .i64 ((l2.length:Int)-1):Int).toNat)) fun l7 =>
gd (lim (l6++l7).length) (
br (decide (40<((l6++l7).length:Int))) (
some ([],3)) (
some ((l6++l7),0))))))))))
end Go.Proofs.YthmekkhpddehjaaGreat
end

section
namespace Go.Proofs.YthmekkhpddehjaaGreat
open Go Go.Ab Go.Ab.W
def EO (n:Nat) (l1:List (Int × Int)):Option (Bool) :=
ob (EK n l1) fun(r6,r7) =>
br (r6) (
some (decide (r7=0))) (
some false)
end Go.Proofs.YthmekkhpddehjaaGreat
end

section
namespace Go.Ab.W
open Go Go.Ab
attribute [local irreducible] Tm.at Trie.set Trie.get AMem.get AMem.set AMem.alloc AMem.ww AMem.kill
section
variable {α γ : Type} [DecidableEq α]
theorem gV {β δ:Type} (k:α):∀(xs:List (α × β)) (ys:List (α × δ)) (i:Nat),xs.map (·.1)=ys.map (·.1)→(dR k xs i).map (·.1)=(dR k ys i).map (·.1)
 | [],[],_,_=>rfl
 | [],_::_,_,h=>by cases h
 | _::_,[],_,h=>by cases h
 | x::xs,y::ys,i,h=>by
  simp only[List.map_cons,List.cons.injEq] at h;unfold dR;rw[h.1]
  split
  ·rfl
  ·exact gV k xs ys (i+1) h.2
def mE (m:AMem) (R:Nat→Prop) (w:Nat) (f:γ→List Value) (es:List (α × Value)) (L:List (α × Bool × List γ)):Prop :=
 es.map (·.1)=L.map (·.1)∧∀(i:Nat) (k:α) (v:Bool × List γ),L[i]? = some (k,v)→∃a c,es[i]? = some (k,.agg #[.bool v.1,.slice a v.2.length c])∧Rd m a c w v.2.length (v.2.map f)∧∀b,iE a=some b→R b
omit [DecidableEq α] in
theorem mE.fE {m m':AMem} {R:Nat→Prop} {w:Nat} {f:γ→List Value} {es:List (α × Value)} {L:List (α × Bool × List γ)} (h:mE m R w f es L) (hn:m.next≤m'.next) (hg:∀b,R b→b<m.next→m'.get b=m.get b):mE m' R w f es L :=
 ⟨h.1,fun i k v hi=>by
  obtain⟨a,c,h1,h2,h3⟩:=h.2 i k v hi;exact⟨a,c,h1,h2.fE hn fun b hb hlt=>hg b (h3 b hb) hlt,h3⟩⟩
theorem mE.yes {m:AMem} {R:Nat→Prop} {w:Nat} {f:γ→List Value} {es:List (α × Value)} {L:List (α × Bool × List γ)} (h:mE m R w f es L) {k:α} {v:Bool × List γ} (hv:iA L k=some v) :
  ∃a c,iA es k=some (.agg #[.bool v.1,.slice a v.2.length c])∧Rd m a c w v.2.length (v.2.map f)∧∀b,iE a=some b→R b:=by
 unfold iA at hv ⊢;have hk:=gV k es L 0 h.1;cases h1:dR k L 0 with
 | none=>rw[h1] at hv; cases hv
 | some p =>
  rw[h1] at hv hk;cases hv;cases h2:dR k es 0 with
  | none=>rw[h2] at hk; cases hk
  | some q =>
   rw[h2] at hk;have hpq:q.1=p.1:=by simpa using hk
   have a1:=(gK k L 0 p h1).2.2;have a2:=(gK k es 0 q h2).2.2;obtain⟨a,c,e1,e2,e3⟩:=h.2 _ _ _ a1;rw[hpq] at a2;rw[a2] at e1;have e4:q.2 = .agg #[.bool p.2.1,.slice a p.2.2.length c]:=congrArg Prod.snd (Option.some.inj e1);exact⟨a,c,by rw[Option.map_some,e4],e2,e3⟩
theorem mE.no {m:AMem} {R:Nat→Prop} {w:Nat} {f:γ→List Value} {es:List (α × Value)} {L:List (α × Bool × List γ)} (h:mE m R w f es L) {k:α} (hv:iA L k=none):iA es k=none:=by
 unfold iA at hv ⊢;have hk:=gV k es L 0 h.1;cases h1:dR k L 0 with
 | none =>
  rw[h1] at hk;cases h2:dR k es 0 with
  | none=>rfl
  | some q=>rw[h2] at hk; cases hk
 | some p=>rw[h1] at hv; cases hv
theorem mE.put {m:AMem} {R:Nat→Prop} {w:Nat} {f:γ→List Value} {es:List (α × Value)} {L:List (α × Bool × List γ)} (h:mE m R w f es L) (k:α) (v:Bool × List γ) {a:Option Addr} {c:Nat} (hr:Rd m a c w v.2.length (v.2.map f)) (hR:∀b,iE a=some b→R b) :
  mE m R w f (kB es k (.agg #[.bool v.1,.slice a v.2.length c])) (kB L k v):=by
 have hk:=gV k es L 0 h.1;have hlen:es.length=L.length:=by have:=congrArg List.length h.1; simpa using this
 unfold kB;cases h1:dR k L 0 with
 | none =>
  rw[h1] at hk;cases h2:dR k es 0 with
  | some q=>rw[h2] at hk; cases hk
  | none =>
   refine⟨by simp[h.1],fun i k' v' hi=>?_⟩
   by_cases hlt:i<L.length
   ·dsimp only at hi ⊢
    rw[List.getElem?_append_left hlt] at hi;rw[List.getElem?_append_left (by omega)]
    exact h.2 i k' v' hi
   ·dsimp only at hi ⊢
    rw[List.getElem?_append_right (by omega)] at hi
    rw[List.getElem?_append_right (by omega),hlen]
    cases hz:i-L.length with
    | zero =>
     rw[hz] at hi;have e:=Option.some.inj hi;cases e;exact⟨a,c,rfl,hr,hR⟩
    | succ z=>rw[hz] at hi; simp at hi
 | some p =>
  rw[h1] at hk;cases h2:dR k es 0 with
  | none=>rw[h2] at hk; cases hk
  | some q =>
   rw[h2] at hk;have hpq:q.1=p.1:=by simpa using hk
   have a1:=gK k L 0 p h1
   dsimp only
   rw[hpq];refine⟨by rw[List.map_set,List.map_set,h.1],fun i k' v' hi=>?_⟩
   by_cases e:p.1=i
   ·subst e;rw[List.getElem?_set_self (by omega)] at hi
    rw[List.getElem?_set_self (by omega)]
    cases Option.some.inj hi;exact⟨a,c,rfl,hr,hR⟩
   ·rw[List.getElem?_set_ne e] at hi;rw[List.getElem?_set_ne e];exact h.2 i k' v' hi
def np (b:Nat) (R:Nat→Prop) (w:Nat) (f:γ→List Value) (kE:α→Value) (L:List (α × Bool × List γ)):GPc where
 ow x:=x=b
 rd x:=R x
 P m:=(∃es:List (α × Value),m.get b=some (.map (es.map (eM kE fun v=>v)))∧mE m R w f es L)∧b<m.next∧∀x,R x→x<m.next∧x≠b
 st m m' h hn hg:=by
  obtain⟨⟨es,h1,h2⟩,h3,h4⟩:=h;exact⟨⟨es,by rw[hg b (.inl rfl) h3]; exact h1,h2.fE hn fun x hx hlt=>hg x (.inr hx) hlt⟩,Nat.lt_of_lt_of_le h3 hn,fun x hx=>⟨Nat.lt_of_lt_of_le (h4 x hx).1 hn,(h4 x hx).2⟩⟩
 lt m x h hx:=by
  rcases hx with hx|hx
  ·cases hx; exact h.2.1
  ·exact(h.2.2 x hx).1
end
section
variable {α γ : Type} [DecidableEq α] {E : Env} {m0 m : AMem} {fs : Fs} {ps : List Pc} {f : γ → List Value} {w : Nat} {kE : α → Value}
theorem Hp.Bt (h:Hp m0 m ps) {k:Nat} {p q:Pc} (hp:pk ps k=some p) (hq:q.ok m0.next m) (hqo:∀b,¬q.ow b) (hb:∀b,q.any b→p.any b∧¬p.ow b):Hp m0 m (q::ps) where
 ext:=h.ext
 ok:=fun r hr=>by
  rcases List.mem_cons.1 hr with rfl|hr
  ·exact hq
  ·exact h.ok r hr
 apart:=List.pairwise_cons.2 ⟨fun r hr=>⟨fun b h1 _=>hqo b h1,fun b h1 h2=>by
  obtain⟨k',hk'⟩:=lD hr
  by_cases hne:k=k'
  ·rw[←hne,hp] at hk';exact(hb b h2).2 (by rw[Option.some.inj hk']; exact h1)
  ·exact(eY h.apart hp hk' hne).2 b h1 (hb b h2).1⟩,h.apart⟩
omit [DecidableEq α] in
theorem pS {b:Nat} {R:Nat→Prop} {L:List (α × Bool × List γ)} {x:Nat} (h:Pc.ow (.gen (np b R w f kE L)) x):x=b:=h.elim (fun h=>by cases h.1) id
omit [DecidableEq α] in
theorem qA {b:Nat} {R:Nat→Prop} {L:List (α × Bool × List γ)} {x:Nat} (h:Pc.any (.gen (np b R w f kE L)) x):x=b∨R x:=h.elim (fun h=>by cases h) id
omit [DecidableEq α] in
theorem ab.F9 {k b:Nat} (hp:pk ps k=some (.obj b (.map []))):ab m0 ps (bH ps k (.gen (np b (fun _=>False) w f kE ([]:List (α × Bool × List γ))))):=fun m h=>by
 have hP:=h.get hp;refine h.wD hp (fun x hx=>.inl ?_) (fun x hx=>.inl ?_) (Nat.le_refl _) h.ext ⟨⟨⟨[],hP.2.2,rfl,fun i k v hi=>by simp at hi⟩,hP.2.1,fun _ h=>h.elim⟩,fun _ x hx=>?_⟩ (fun _ _ _=>rfl)
 ·rw[pS hx]; exact .inl ⟨rfl,rfl⟩
 ·rcases qA hx with rfl|hx
  ·exact .inl rfl
  ·exact hx.elim
 ·cases hx; exact hP.1
variable {x y z : Operand} {ty : TypeId}
theorem D5 {kt et b q:Nat} {R:Nat→Prop} {L:List (α × Bool × List γ)} {k:α} (hu:E.P.underlying ty=some (.map kt et)) (hk:KeyE E.P kt kE) (hz:bh E.P et=some (.agg #[.bool false,.slice none 0 0])) (_:0<w) (hx:ev E fs x=some (.map (some b))) (hy:ev E fs y=some (kE k)) (hp:pk ps q=some (.gen (np b R w f kE L))) :
  Ox E m0 fs ps (.lookup ty x y false) (fun r:Option Addr × Nat=>.agg #[.bool ((iA L k).getD (false,[])).1,.slice r.1 ((iA L k).getD (false,[])).2.length r.2]) (fun r=>.rd r.1 r.2 w ((iA L k).getD (false,[])).2.length (((iA L k).getD (false,[])).2.map f)::ps):=by
 intro t m hf hm;have hP:=hm.get hp;obtain⟨⟨⟨es,h1,h2⟩,h3,h4⟩,_⟩:=hP;refine⟨fun b' hb'=>?_,fun K hK=>?_⟩
 ·simp only[aD,hf.ev hx] at hb';cases hb'; exact h3
 ·have hl:=xz (c:=false) (k:=k) (vE:=fun v:Value=>v) hu hk hz (by decide) h1
  unfold bf;simp only[j6,cf,hf.ev hx,hf.ev hy,hl,Option.map_some];cases hv:iA L k with
  | none =>
   rw[hv] at hK;rw[h2.no hv];exact hK (none,0) m (hm.Bt hp (Rd.nil _ _) (fun b hb=>hb.elim (fun h=>by cases h.1) fun h=>h.elim) fun b hb=>hb.elim (fun h=>by cases h) fun h=>h.elim)
  | some v =>
   rw[hv] at hK;obtain⟨a,c,e1,e2,e3⟩:=h2.yes hv;rw[e1];refine hK (a,c) m (hm.Bt hp e2 (fun b hb=>hb.elim (fun h=>by cases h.1) fun h=>h.elim) fun b hb=>?_)
   rcases hb with hb|hb
   ·have:=e3 b hb;exact⟨.inr (.inr this),fun ho=>(h4 b this).2 (pS ho)⟩
   ·exact hb.elim
theorem xD {kt et b q:Nat} {R:Nat→Prop} {L:List (α × Bool × List γ)} {k:α} {s:Bool} {l:List γ} (hu:E.P.underlying ty=some (.map kt et)) (hk:KeyE E.P kt kE) (hz:bh E.P et=some (.agg #[.bool false,.slice none 0 0])) (hw:0<w) (hx:ev E fs x=some (.map (some b))) (hy:ev E fs y=some (kE k)) (hp:pk ps q=some (.gen (np b R w f kE L))) (hv:some ((iA L k).getD (false,[]))=some (s,l)) :
  Ox E m0 fs ps (.lookup ty x y false) (fun r:Option Addr × Nat=>.agg #[.bool s,.slice r.1 l.length r.2]) (fun r=>.rd r.1 r.2 w l.length (l.map f)::ps):=by
 have:=D5 (m0:=m0) hu hk hz hw hx hy hp;rw[Option.some.inj hv] at this;exact this
def Dl (m:AMem) (b w:Nat) (f:γ→List Value) (kE:α→Value) (L:List (α × Bool × List γ)):Prop:=∃(R:Nat→Prop) (es:List (α × Value)),m.get b=some (.map (es.map (eM kE fun v=>v)))∧b<m.next∧mE m R w f es L
omit [DecidableEq α] in
theorem Hp.Gz {k b:Nat} {R:Nat→Prop} {L:List (α × Bool × List γ)} (h:Hp m0 m ps) (hp:pk ps k=some (.gen (np b R w f kE L))):Dl m b w f kE L:=by
 obtain⟨⟨⟨es,h1,h2⟩,h3,_⟩,_⟩:=h.get hp;exact⟨R,es,h1,h3,h2⟩
omit [DecidableEq α] in
theorem ab.Cn {b k q cap n:Nat} {R:Nat→Prop} {L:List (α × Bool × List γ)} {a:Option Addr} {es:List (List Value)} (hp:pk ps k=some (.gen (np b R w f kE L))) (hq:pk ps q=some (.rd a cap w n es)):ab m0 ps (bH ps k (.gen (np b (fun x=>R x∨iE a=some x) w f kE L))):=fun m h=>by
 have hP:=h.get hp;obtain⟨⟨⟨es',h1,h2⟩,h3,h4⟩,h5⟩:=hP;have hrd:Pc.ok m0.next m (.rd a cap w n es):=h.get hq
 have hkq:k≠q:=fun e=>by rw[e,hq] at hp; cases hp
 have hap:=eY h.apart hp hq hkq;refine⟨h.ext,fun r hr=>?_,fL hp (fun r hr ha=>⟨fun x h1 h2=>ha.1 x (.inr (pS h1)) h2,fun x hx hy=>?_⟩) h.apart⟩
 ·rcases pd hr with hr|rfl
  ·exact h.ok r hr
  ·refine⟨⟨⟨es',h1,h2.1,fun i k v hi=>?_⟩,h3,fun x hx=>?_⟩,fun _ x hx=>h5 rfl x hx⟩
   ·obtain⟨a,c,e1,e2,e3⟩:=h2.2 i k v hi;exact⟨a,c,e1,e2,fun b hb=>.inl (e3 b hb)⟩
   ·rcases hx with hx|hx
    ·exact h4 x hx
    ·exact⟨Pc.eh hrd (.inl hx),fun e=>hap.1 x (by rw[e]; exact .inr rfl) (.inl hx)⟩
 ·rcases qA hy with rfl|hy|hy
  ·exact ha.2 x hx (.inr (.inl rfl))
  ·exact ha.2 x hx (.inr (.inr hy))
  ·obtain⟨k',hk'⟩:=lD hr
   by_cases hne:k'=q
   ·rw[hne,hq] at hk';rw[←Option.some.inj hk'] at hx;exact hx.elim (fun h=>by cases h.1) fun h=>h.elim
   ·exact(eY h.apart hk' hq hne).1 x hx (.inl hy)
theorem ED {kt et b k2 q cap:Nat} {R:Nat→Prop} {L:List (α × Bool × List γ)} {k:α} {s:Bool} {l:List γ} {a:Option Addr} (hu:E.P.underlying ty=some (.map kt et)) (hk:KeyE E.P kt kE) (hx:ev E fs x=some (.map (some b))) (hy:ev E fs y=some (kE k)) (hz:ev E fs z=some (.agg #[.bool s,.slice a l.length cap])) (hp:pk ps k2=some (.gen (np b R w f kE L))) (hq:pk ps q=some (.rd a cap w l.length (l.map f))) :
  Od E m0 fs ps (.mapUpdate ty x y z) undef (bH ps k2 (.gen (np b (fun x=>R x∨iE a=some x) w f kE (kB L k (s,l))))) :=
 fun t m hf h=>⟨fun b' hb'=>by simp[aD] at hb',fun K hK=>by
  have h1:=ab.Cn (m0:=m0) hp hq m h;have hp1:pk (bH ps k2 (.gen (np b (fun x=>R x∨iE a=some x) w f kE L))) k2=some (.gen (np b (fun x=>R x∨iE a=some x) w f kE L)):=Az _ hp;have hrd:Rd m a cap w l.length (l.map f):=h.get hq;obtain⟨⟨⟨es,g1,g2⟩,g3,g4⟩,g5⟩:=h1.get hp1;have hup:bY E.P ty (.map (some b)) (kE k) (.agg #[.bool s,.slice a l.length cap]) m=some (m.set b (.map ((kB es k (.agg #[.bool s,.slice a l.length cap])).map (eM kE fun v=>v)))):=by
   simp only[bY,hu,g1,hk.ok,if_true,je hk,kB];cases hfd:dR k es 0 with
   | none=>simp only[Option.map_none,List.map_append,List.map_cons,List.map_nil]; rfl
   | some p =>
    obtain⟨e1,e2,e3⟩:=gK k es 0 p hfd;simp only[Nat.sub_zero] at e3;have hst:fj (es.map (eM kE fun v=>v)) p.1 (kE k)=true:=by
     simp only[fj,List.getElem?_map,e3,Option.map_some,eM,hk.plain,hk.same,Bool.and_self]
    simp only[Option.map_some,hst,if_true];rw[jR (vE:=fun v:Value=>v) k _ es p.1 (by omega)]
  unfold bf;simp only[j6,cf,hf.ev hx,hf.ev hy,hf.ev hz,hup,Option.map_some];have g2':=g2.put k (s,l) hrd fun b hb=>.inr hb;have hset:∀x,x≠b→(m.set b (.map ((kB es k (.agg #[.bool s,.slice a l.length cap])).map (eM kE fun v=>v)))).get x=m.get x:=fun x hx=>by rw[AMem.aY,if_neg hx]
  have key:=h1.wD (m':=m.set b (.map ((kB es k (.agg #[.bool s,.slice a l.length cap])).map (eM kE fun v=>v)))) (p':=.gen (np b (fun x=>R x∨iE a=some x) w f kE (kB L k (s,l)))) hp1 (fun x hx=>.inl (by rw[pS hx]; exact .inr rfl)) (fun x hx=>.inl ((qA hx).elim (fun e=>by rw[e]; exact .inr (.inl rfl)) fun e=>.inr (.inr e)))
   (by rw[AMem.next_set]; exact Nat.le_refl _) (h1.ext.set (g5 rfl b rfl) _)
   ⟨⟨⟨_,by rw[AMem.aY,if_pos rfl],g2'.fE (by rw[AMem.next_set]; exact Nat.le_refl _) fun x hx _=>hset x (g4 x hx).2⟩,by rw[AMem.next_set]; exact g3,fun x hx=>by rw[AMem.next_set]; exact g4 x hx⟩,fun _ x hx=>by cases hx; exact g5 rfl b rfl⟩
   fun x hx _=>hset x fun e=>hx (by rw[e]; exact .inr rfl)
  rw[vN] at key;exact hK _ key⟩
omit [DecidableEq α] in
theorem Bk {ars:Array Operand} {elem l cap:Nat} (hu:E.P.underlying ty=some (.slice elem)) (ha:e8 E fs ars.toList=some [.slice none l cap]):Od E m0 fs ps (.call ⟨.builtin .cap,ars,#[ty]⟩) (.int .i64 (cap:Int)) ps :=
 fun t m hf h=>⟨fun b hb'=>by
  simp only[aD,hf.e8 ha] at hb';have:cW (.slice none l cap)=none:=rfl;rw[this] at hb'; exact(Option.some_ne_none _ hb'.symm).elim,fun K hK=>by
  have:aL E.P .cap #[ty] [.slice none l cap] m=some (.int .i64 (cap:Int),m):=by
   have ht:(#[ty]:Array TypeId)[0]? = some ty:=rfl;simp only[aL,ht,Option.bind_some,hu]
  rw[Go.Ab.cC (hf.e8 ha) this]; exact hK m h⟩
theorem DV {elem:TypeId} {hx:Option Operand} {hv:Option Value} (ht:SlT E.P ty elem w) (hv':ev E fs x=some (.slice none 0 0)) (e2:oO E fs hx=some hv) (hh:hv=none∨∃k,hv=some (.int k 0)) :
  Od E m0 fs ps (.slice ty x none hx none) (.slice none 0 0) ps :=
 fun t m hf h=>⟨fun b hb'=>by
  simp only[aD,hf.ev hv',Option.bind_some] at hb';have e:cW (.slice none 0 0)=none:=rfl;rw[e] at hb';exact(Option.some_ne_none _ hb'.symm).elim,fun K hK=>by
  have hb:cX 0 0 none hv none=some (0,0,0):=by
   have:=ft (n:=0) (cap:=0) (lo:=0) (hi:=0) (Nat.le_refl _) (Nat.le_refl _) (l:=none) (h:=hv) (.inl ⟨rfl,rfl⟩) (hh.imp (fun e=>⟨e,rfl⟩) fun e=>e);exact this
  have hs:bA E.P ty (.slice none 0 0) none hv none m=some (.slice none 0 0):=by
   simp only[bA,ht.und,ht.known,if_true,hb]
  rw[Go.Ab.kA (hf.ev hv') (hf.oO (x:=none) rfl) (hf.oO e2) rfl hs];exact hK m h⟩
theorem o7 {l:List Value} (h:l.all aF=true):aJ l=true:=by
 unfold aJ;rw[List.all_eq_true] at h ⊢;intro v hv;have:=h v hv;cases v<;>first|rfl|cases this
theorem Fj {c x y:Operand} {b:Bool} (hc:ev E fs c=some (.bool b)) (hx:ev E fs x=some (.bool true)) (hy:ev E fs y=some (.bool false)):Od E m0 fs ps (.pick c x y) (.bool b) ps:=by
 cases b with
 | true=>exact iF hc hx
 | false=>exact ax hc hy
theorem Cb {β:Type} {g:β→List Value} {z0:β} {elem ty2:TypeId} {kd:IntKind} {i:Int} {z:Value} {ars:Array Operand} (ht:SlT E.P ty elem w) (ht2:E.P.underlying ty2=some (.int kd)) (ha:e8 E fs ars.toList=some [.slice none 0 0,.int .i64 i]) (hi:decide (0<i)=true) (hl:lim i.toNat=true) (hz:bh E.P elem=some z) (hp:z.cells.toList.all aF=true) (hzf:z.cells.toList=g z0) :
  Ox E m0 fs ps (.call ⟨.builtin .append,ars,#[ty,ty2]⟩) (fun b=>.slice (some ⟨b,0,none⟩) i.toNat i.toNat) (fun b=>.arr b w i.toNat ((List.replicate i.toNat z0).map g) (.more w)::ps):=by
 obtain⟨n,rfl⟩:∃n:Nat,i=n:=⟨i.toNat,by have:=of_decide_eq_true hi; omega⟩
 have hn:0<n:=by have:=of_decide_eq_true hi; omega
 rw[Int.toNat_natCast] at hl ⊢;rw[←uz,←hzf];have hzs:z.cells.size=w:=by have:=ht.zero; rw[hz] at this; simp only[Option.any_some,Bool.and_eq_true,beq_iff_eq] at this; exact this.1
 refine .made (ob:=fun _=>.cells (List.replicate n z.cells.toList).flatten (.more w)) (p:=fun b=>.arr b w n (List.replicate n z.cells.toList) (.more w)) (fun t=>by simp[aD]) (fun t m hfr K=>?_) (fun _=>rfl) fun _ _ _ h1 h2 h3=>⟨h1,h2,h3,by simp,fun e he=>by rw[List.eq_of_mem_replicate he]; simpa using hzs,.inr rfl,ht.pos⟩
 have hln:n≤1073741824:=Nat.le_of_ble_eq_true hl;obtain⟨inf,hi1,hi2,hi3⟩:=ht.bytes;have hzz:dx E.P elem n=some (List.replicate n z.cells.toList).flatten:=by
  simp only[dx,hz,ht.size];rw[if_pos hzs,iJ]
 have hall:(List.replicate n z.cells.toList).flatten.all aF=true:=by
  rw[List.all_eq_true];intro v hv;obtain⟨l,h1,h2⟩:=List.mem_flatten.1 hv;rw[List.eq_of_mem_replicate h1] at h2;exact List.all_eq_true.1 hp v h2
 have hnew:dA E.P elem (some ty2) (.int .i64 (n:Int)) m=some (n,(List.replicate n z.cells.toList).flatten):=by
  simp only[dA,Option.bind_some,ht2];rw[if_pos (by omega),Int.toNat_natCast,hzz,Option.bind_some,if_pos hall]
 have hfit:(E.P.info? elem).any (fun i=>cU i.bytes (0+n) && i.bytes != 0)=true:=by
  rw[hi1];have hmul:(2*(0+n)+2000)*inf.bytes≤(2*1073741824+2000)*1024:=Nat.mul_le_mul (by omega) hi3
  simp only[Option.any_some,cU,Bool.and_eq_true,decide_eq_true_eq,bne_iff_ne,ne_eq];exact⟨by omega,hi2⟩
 have hzero:(bh E.P elem).any (fun z=>z.cells.size == w && z.cells.toList.all aF)=true:=ht.zero;have hpos:=ht.pos;have hw0:(w == 0)=false:=by simp; omega
 have hlen:(List.replicate n z.cells.toList).flatten.length=n*w:=by rw[bJ (w:=w) (fun e he=>by rw[List.eq_of_mem_replicate he]; simpa using hzs),List.length_replicate]
 have hone:aJ (List.replicate n z.cells.toList).flatten=true:=o7 hall;have hguard:(!(known E.P elem) || aq E.P elem == 0 || !aJ (List.replicate n z.cells.toList).flatten || !(E.P.info? elem).any (fun i=>cU i.bytes (0+n) && i.bytes != 0) || (List.replicate n z.cells.toList).flatten.length != n*aq E.P elem || !(bh E.P elem).any (fun z=>z.cells.size == aq E.P elem && z.cells.toList.all aF))=false:=by
  rw[ht.size,ht.known,hfit,hzero,hone,hw0,hlen]; simp
 have this:aL E.P .append #[ty,ty2] [.slice none 0 0,.int .i64 (n:Int)] m=some (.slice (some ⟨m.next,0,none⟩) n n,m.alloc (.cells (List.replicate n z.cells.toList).flatten (.more w))):=by
  show bD E.P ty (some ty2) (.slice none 0 0) (.int .i64 (n:Int)) m=_
  unfold bD;simp only[ht.und,hnew];rw[if_neg (by rw[hguard]; exact Bool.false_ne_true)]
  simp only[ne_eq,not_true_eq_false,or_self,if_false,ht.size];rw[if_neg (by omega)]
 rw[Go.Ab.cC (hfr.e8 ha) this]
end
end Go.Ab.W
end

section
namespace Go.Proofs.YthmekkhpddehjaaGreat
open Go Go.Ab Go.Ab.W
def Ez (_:Nat) (L:List (Int × Bool × List Nat)):Option (List Int):=gd (Fx (L.map (·.1))) (some (gT (L.map (·.1))))
theorem sM {kE:Int→Value} (hk:kE=fun n=>.int .i64 n):∀es:List (Int × Value),oz (es.map (eM kE fun v=>v))=some (es.map (·.1))
 | []=>rfl
 | e::es=>by
  subst hk;rw[List.map_cons,List.map_cons]
  show(oz (es.map (eM (fun n:Int=>Value.int .i64 n) fun v=>v))).map (e.1::·)=_
  rw[sM rfl es]; rfl
theorem rR (a:Int):∀l:List Int,(rI a l).length=l.length+1
 | []=>rfl
 | b::l=>by
  unfold rI
  split
  ·rfl
  ·rw[List.length_cons,rR a l,List.length_cons]
theorem pG:∀l:List Int,(gT l).length=l.length
 | []=>rfl
 | a::l=>by unfold gT; rw[rR,pG l,List.length_cons]
theorem uf:∀l:List Int,(l.map (eI .i64)).flatten=l.map (Value.int .i64)
 | []=>rfl
 | a::l=>by rw[List.map_cons,List.flatten_cons,uf l]; rfl
theorem AG (n:Nat) (L:List (Int × Bool × List Nat)) (b:Nat) (r:List Int) (hF:Ez n L=some r) (m:AMem) (h:Dl m b 1 (eN .u64) (fun n:Int=>.int .i64 n) L) :
  aC aE 111 [.map (some b)] m (fun v m'=>∃x:Option Addr × Nat,v = .slice x.1 x.2 x.2∧Hp m m' [.sl x.1 1 x.2 (r.map (eI .i64))]):=by
 obtain⟨hok,hF⟩:=ai hF;have hr:=Option.some.inj hF;obtain⟨R,es,h1,h2,h3⟩:=h;have hk:=sM rfl es;rw[h3.1] at hk;cases hks:L.map (·.1) with
 | nil =>
  rw[hks] at hk hok hr;subst hr;refine aC.bT (p:=⟨dH⟩) rfl (v:=.slice none 0 0) (m':=m) ?_ ⟨(none,0),rfl,(ab.nil 1 rfl) m (Hp.start m)⟩
  show dH [.map (some b)] m=_
  simp only[dH,h1,hk,hok,if_true]
 | cons k ks =>
  rw[hks] at hk hok hr;have hlen:(gT (k::ks)).length=ks.length+1:=by rw[pG]; rfl
  refine aC.bT (p:=⟨dH⟩) rfl (v:=.slice (some ⟨m.next,0,none⟩) (ks.length+1) (ks.length+1)) (m':=m.alloc (.cells ((gT (k::ks)).map (.int .i64)) (.more 1))) ?_ ⟨(some ⟨m.next,0,none⟩,ks.length+1),rfl,?_⟩
  ·show dH [.map (some b)] m=_
   simp only[dH,h1,hk,hok,if_true]
  ·subst hr;have hm:=Hp.start m;refine hm.cons (Nat.le_succ _) (hm.ext.alloc _) (fun b hlt=>by rw[AMem.aU,if_neg (by omega)]) ?_ (fun b' h'=>?_) (fun _ h=>h)
   ·refine .inr ⟨m.next,.more 1,rfl,Nat.le_refl _,Nat.lt_succ_self _,?_,by rw[List.length_map,hlen],fun e he=>?_,.inr rfl,by decide⟩
    ·rw[AMem.aU,if_pos rfl,uf]
    ·obtain⟨x,_,rfl⟩:=List.mem_map.1 he; rfl
   ·cases h'; exact Nat.le_refl _
end Go.Proofs.YthmekkhpddehjaaGreat
end

section
namespace Go.Proofs.YthmekkhpddehjaaGreat
open Go Go.Ab Go.Ab.W
set_option maxRecDepth 10000
def yu (_:Nat) (x1:Int):Option (Bool) :=
br (decide (-1000000000000000≤x1)) (
some (decide (x1≤1000000000000000))) (
some false)
def CO (n:Nat) (x1:Int) (x2:Int):Option (Bool) :=
br (decide (x2<0)) (
some true) (
br (decide (10000000000000<x2)) (
some true) (
ob (yu n x1) fun r7 =>
some (!r7)))
def wZ (_:Nat) (x1:Int):(Int × Int)→Option ((Int × Int) ⊕ (Int)):=fun(v4,v5) =>
br (decide (1<IntKind.wrap .i64 (v5-v4))) (
ob (some (IntKind.wrap .i64 ((IntKind.wrap .i64 (Int.tdiv (IntKind.wrap .i64 (v4+v5)) 2))*(IntKind.wrap .i64 (Int.tdiv (IntKind.wrap .i64 (v4+v5)) 2))))) fun y14 =>
br (decide (y14≤x1)) (
some (.inl (IntKind.wrap .i64 (Int.tdiv (IntKind.wrap .i64 (v4+v5)) 2),v5))) (
some (.inl (v4,IntKind.wrap .i64 (Int.tdiv (IntKind.wrap .i64 (v4+v5)) 2))))) (
some (.inr v4))
def CC (n:Nat) (x1:Int):Option (Int) :=
ob (
cY (wZ n x1) n (0,4000000)) fun v12 =>
some v12
def wX (_:Nat) (v0:Int):(Int × Int × Bool)→Option ((Int × Int × Bool) ⊕ (Int × Int × Bool)):=fun(v1,v2,v3) =>
gd (decide (v0≠0)) (
br (decide (Int.tmod v1 v0=0)) (
gd (decide (v0≠0)) (
ob (
br (v3) (
some (IntKind.wrap .i64 (v2*v0))) (
some v2)) fun v4 =>
some (.inl (IntKind.wrap .i64 (Int.tdiv v1 v0),v4,!v3)))) (
some (.inr (v1,v2,v3))))
def w6 (n:Nat):(Int × Int × Int × Int)→Option ((Int × Int × Int × Int) ⊕ (Int × Int × Int)):=fun(v1,v3,v2,v0) =>
br (decide (v0≤21545)) (
ob (α:=(Unit) ⊕ (Int × Int × Int)) (
br (decide (v1<IntKind.wrap .i64 (v0*v0))) (
some (.inl ())) (
ob (
cY (wX n v0) n (v1,v3,false)) fun(v4,v5,v6) =>
br (v6) (
some (.inr (v4,v5,IntKind.wrap .i64 (v2*v0)))) (
some (.inr (v4,v5,v2))))) fun r0=>match r0 with
| .inl _ =>
some (.inr (v1,v3,v2))
| .inr (v7,v8,v9) =>
some (.inl (v7,v8,v9,IntKind.wrap .i64 (v0+1)))) (
some (.inr (v1,v3,v2)))
def Ax (n:Nat) (x1:Int):Option (Int × Int) :=
ob (
cY (w6 n) n (x1,1,1,2)) fun(v0,v1,v2) =>
ob (CC n v0) fun r0 =>
br (decide (IntKind.wrap .i64 (r0*r0)=v0)) (
some (IntKind.wrap .i64 (v1*r0),v2)) (
some (v1,IntKind.wrap .i64 (v2*v0)))
def wM (_:Nat):(List (Nat) × Int)→Option ((List (Nat) × Int) ⊕ (List (Nat))):=fun(l40,v41) =>
br (decide (v41<8)) (
gd (bF v41 8) (
ob (l40[v41.toNat]?) fun _ =>
some (.inl ((l40.set v41.toNat 18446744073709551615),IntKind.wrap .i64 (v41+1))))) (
some (.inr l40))
def Am (n:Nat) (x1:Int):Option (Nat × Nat × Nat × Nat × Nat × Nat × Nat × Nat) :=
ob (
br (decide (x1<0)) (
ob (
cY (wM n) n (([ui .u64 x1,0,0,0,0,0,0,0]:List (Nat)),1)) fun l49 =>
some l49) (
some ([ui .u64 x1,0,0,0,0,0,0,0]:List (Nat)))) fun l30 =>
ob (DP l30) fun(x59,x60,x61,x62,x63,x64,x65,x66) =>
some (x59,x60,x61,x62,x63,x64,x65,x66)
def yc (n:Nat):(List (Nat) × List (Nat) × Nat × Int)→Option ((List (Nat) × List (Nat) × Nat × Int) ⊕ (List (Nat) × Nat)):=fun(l36,l37,v38,v39) =>
br (decide (v39<8)) (
gd (bF v39 8) (
ob (l36[v39.toNat]?) fun x60 =>
gd (bF v39 8) (
ob (l37[v39.toNat]?) fun x63 =>
ob (Cj n x60 x63 v38) fun(r66,r67) =>
gd (bF v39 8) (
some (.inl ((l36.set v39.toNat r66),l37,r67,IntKind.wrap .i64 (v39+1))))))) (
some (.inr (l36,v38)))
def zm (n:Nat) (x1:Nat) (x2:Nat) (x3:Nat) (x4:Nat) (x5:Nat) (x6:Nat) (x7:Nat) (x8:Nat) (x9:Nat) (x10:Nat) (x11:Nat) (x12:Nat) (x13:Nat) (x14:Nat) (x15:Nat) (x16:Nat):Option (Nat × Nat × Nat × Nat × Nat × Nat × Nat × Nat × Nat) :=
ob (
cY (yc n) n (([x1,x2,x3,x4,x5,x6,x7,x8]:List (Nat)),([x9,x10,x11,x12,x13,x14,x15,x16]:List (Nat)),0,0)) fun(l56,v57) =>
ob (DP l56) fun(x72,x73,x74,x75,x76,x77,x78,x79) =>
some (x72,x73,x74,x75,x76,x77,x78,x79,v57)
def B6 (n:Nat) (x1:Nat) (x2:Nat) (x3:Nat) (x4:Nat) (x5:Nat) (x6:Nat) (x7:Nat) (x8:Nat):Option (Bool × Nat × Nat × Nat × Nat × Nat × Nat × Nat × Nat) :=
ob (
br (decide (lA .u64 x8 63=1)) (
ob (zm n 0 0 0 0 0 0 0 0 x1 x2 x3 x4 x5 x6 x7 x8) fun(r34,r35,r36,r37,r38,r39,r40,r41,_) =>
some (decide (lA .u64 x8 63=1),r34,r35,r36,r37,r38,r39,r40,r41)) (
some (decide (lA .u64 x8 63=1),x1,x2,x3,x4,x5,x6,x7,x8))) fun(v23,v24,v25,v26,v27,v28,v29,v30,v31) =>
some (v23,v24,v25,v26,v27,v28,v29,v30,v31)
def wJ (_:Nat) (l2:List (Nat)):Int→Option ((Int) ⊕ (Int)):=fun v9 =>
ob (
br (decide (0<v9)) (
gd (bF (IntKind.wrap .i64 (v9-1)) l2.length) (
ob (l2[(IntKind.wrap .i64 (v9-1)).toNat]?) fun x71 =>
some (decide (x71=0)))) (
some false)) fun v66 =>
br (v66) (
some (.inl (IntKind.wrap .i64 (v9-1)))) (
some (.inr v9))
def vU (n:Nat) (x1:Bool) (l2:List (Nat)):Option (Bool × List Nat) :=
ob (
cY (wJ n l2) n (l2.length:Int)) fun v43 =>
br (x1) (
gd (okB 0 v43 l2.length) (
some (decide (0<v43),((l2.drop (0:Int).toNat).take ((v43:Int).toNat-(0:Int).toNat))))) (
gd (okB 0 v43 l2.length) (
some (false,((l2.drop (0:Int).toNat).take ((v43:Int).toNat-(0:Int).toNat)))))
def C4 (n:Nat) (x1:Nat) (x2:Nat) (x3:Nat) (x4:Nat) (x5:Nat) (x6:Nat) (x7:Nat) (x8:Nat):Option (Bool × List Nat) :=
ob (B6 n x1 x2 x3 x4 x5 x6 x7 x8) fun(r12,r13,r14,r15,r16,r17,r18,r19,r20) =>
gd (lim (([]:List (Nat))++[r13,r14,r15,r16,r17,r18,r19,r20]).length) (
ob (vU n r12 (([]:List (Nat))++[r13,r14,r15,r16,r17,r18,r19,r20])) fun(r26,l27) =>
some (r26,l27))
def Aq (n:Nat) (x1:Int):Option (Bool × List Nat) :=
ob (Am n x1) fun(r4,r5,r6,r7,r8,r9,r10,r11) =>
ob (C4 n r4 r5 r6 r7 r8 r9 r10 r11) fun(r13,l14) =>
some (r13,l14)
def C8 (_:Nat) (x1:Nat) (x2:Nat):Option (Nat × Nat) :=
ob (some (uw .u64 ((uw .u64 (uw .u64 x1 &&& uw .u64 4294967295))*(uw .u64 (uw .u64 x2 &&& uw .u64 4294967295))))) fun y3 =>
ob (some (uw .u64 ((lA .u64 x1 32)*(uw .u64 (uw .u64 x2 &&& uw .u64 4294967295))))) fun y5 =>
ob (some (uw .u64 (uw .u64 (uw .u64 (y5+(lA .u64 y3 32))) &&& uw .u64 4294967295))) fun y7 =>
ob (some (uw .u64 ((uw .u64 (uw .u64 x1 &&& uw .u64 4294967295))*(lA .u64 x2 32)))) fun y9 =>
ob (some (uw .u64 ((uw .u64 ((lA .u64 x1 32)*(lA .u64 x2 32)))+(lA .u64 (uw .u64 (y5+(lA .u64 y3 32))) 32)))) fun y11 =>
some (uw .u64 (y11+(lA .u64 (uw .u64 (y7+y9)) 32)),uw .u64 (x1*x2))
def wL (n:Nat) (l1:List (Nat)) (x3:Nat) (v1:Int) (n0:Nat):(List (Nat) × Nat × Int)→Option ((List (Nat) × Nat × Int) ⊕ (List (Nat) × Nat)):=fun(l2,v2,v0) =>
br (decide (v0<(l1.length:Int))) (
gd (bF v0 l1.length) (
ob (l1[v0.toNat]?) fun x4 =>
ob (C8 n x3 x4) fun(r0,r1) =>
gd (bF (IntKind.wrap .i64 (v1+v0)) n0) (
ob (l2[(IntKind.wrap .i64 (v1+v0)).toNat]?) fun x10 =>
ob (zZ n x10 r1 0) fun(r2,r3) =>
ob (zZ n r2 v2 0) fun(r4,r5) =>
gd (bF (IntKind.wrap .i64 (v1+v0)) n0) (
some (.inl ((l2.set ((IntKind.wrap .i64 (v1+v0)).toNat) r4),uw .u64 ((uw .u64 (r0+r3))+r5),IntKind.wrap .i64 (v0+1))))))) (
some (.inr (l2,v2)))
def xH (n:Nat) (l2:List (Nat)) (l1:List (Nat)):(List (Nat) × Nat × Int)→Option ((List (Nat) × Nat × Int) ⊕ (List (Nat) × Nat)):=fun(l3,n0,v0) =>
br (decide (v0<(l2.length:Int))) (
gd (bF v0 l2.length) (
ob (l2[v0.toNat]?) fun x3 =>
ob (
cY (wL n l1 x3 v0 n0) n (l3,0,0)) fun(l4,v1) =>
gd (bF (IntKind.wrap .i64 (v0+(l1.length:Int))) n0) (
ob (l4[(IntKind.wrap .i64 (v0+(l1.length:Int))).toNat]?) fun _ =>
some (.inl ((l4.set ((IntKind.wrap .i64 (v0+(l1.length:Int))).toNat) v1),n0,IntKind.wrap .i64 (v0+1)))))) (
some (.inr (l3,n0)))
def Ck (n:Nat) (l1:List (Nat)) (l2:List (Nat)):Option (List Nat) :=
gd (decide (0≤IntKind.wrap .i64 ((l1.length:Int)+(l2.length:Int)))) (gd (lim ((IntKind.wrap .i64 ((l1.length:Int)+(l2.length:Int))).toNat)) (
ob (
cY (xH n l1 l2) n ((List.replicate (IntKind.wrap .i64 ((l1.length:Int)+(l2.length:Int))).toNat (0:Nat)),(IntKind.wrap .i64 ((l1.length:Int)+(l2.length:Int))).toNat,0)) fun(l3,_) =>
some l3))
def De (n:Nat) (x1:Bool) (l2:List (Nat)) (x7:Bool) (l8:List (Nat)):Option (Bool × List Nat) :=
ob (Ck n l2 l8) fun l17 =>
ob (vU n (!(x1 == x7)) l17) fun(r21,l22) =>
some (r21,l22)
def w7 (n:Nat) (l1:List (Nat)) (l2:List (Nat)):(List (Nat) × Nat × Nat × Int)→Option ((List (Nat) × Nat × Nat × Int) ⊕ (List (Nat) × Nat × Nat)):=fun(l3,n0,v1,v0) =>
br (decide (v0<(l1.length:Int))) (
gd (bF v0 l1.length) (
ob (l1[v0.toNat]?) fun x3 =>
ob (
br (decide (v0<(l2.length:Int))) (
gd (bF v0 l2.length) (
ob (l2[v0.toNat]?) fun x4 =>
some x4)) (
some 0)) fun v2 =>
ob (zZ n x3 v2 v1) fun(r0,r1) =>
gd (bF v0 n0) (
ob (l3[v0.toNat]?) fun _ =>
some (.inl ((l3.set v0.toNat r0),n0,r1,IntKind.wrap .i64 (v0+1)))))) (
some (.inr (l3,n0,v1)))
def C9 (n:Nat) (l2:List (Nat)) (l3:List (Nat)):Option (List Nat) :=
ob (
br (decide ((l2.length:Int)<(l3.length:Int))) (
some (l3,l2)) (
some (l2,l3))) fun(l1,l5) =>
gd (decide (0≤IntKind.wrap .i64 ((l1.length:Int)+1))) (gd (lim ((IntKind.wrap .i64 ((l1.length:Int)+1)).toNat)) (
ob (
cY (w7 n l1 l5) n ((List.replicate (IntKind.wrap .i64 ((l1.length:Int)+1)).toNat (0:Nat)),(IntKind.wrap .i64 ((l1.length:Int)+1)).toNat,0,0)) fun(l4,n0,v0) =>
gd (bF (l1.length:Int) n0) (
ob (l4[(l1.length:Int).toNat]?) fun _ =>
some (l4.set ((l1.length:Int).toNat) v0))))
def xQ (_:Nat) (l1:List (Nat)) (l5:List (Nat)):Int→Option ((Int) ⊕ ((Int) ⊕ (Unit))):=fun v11 =>
br (decide (0≤v11)) (
gd (bF v11 l1.length) (
ob (l1[v11.toNat]?) fun x33 =>
gd (bF v11 l5.length) (
ob (l5[v11.toNat]?) fun x38 =>
br (decide (x33<x38)) (
some (.inr (.inl (-1)))) (
gd (bF v11 l1.length) (
gd (bF v11 l5.length) (
br (decide (x38<x33)) (
some (.inr (.inl 1))) (
some (.inl (IntKind.wrap .i64 (v11-1)))))))))) (
some (.inr (.inr ())))
def Cx (n:Nat) (l1:List (Nat)) (l5:List (Nat)):Option (Int) :=
br (!decide ((l1.length:Int)=(l5.length:Int))) (
some (IntKind.wrap .i64 ((l1.length:Int)-(l5.length:Int)))) (
ob (α:=(Int) ⊕ (Unit)) (
cY (xQ n l1 l5) n (IntKind.wrap .i64 ((l1.length:Int)-1))) fun r45=>match r45 with
| .inl v28 =>
some v28
| .inr _ =>
some 0)
def yq (n:Nat) (l1:List (Nat)) (l2:List (Nat)):(List (Nat) × Nat × Int)→Option ((List (Nat) × Nat × Int) ⊕ (List (Nat))):=fun(l3,v1,v0) =>
br (decide (v0<(l1.length:Int))) (
gd (bF v0 l1.length) (
ob (l1[v0.toNat]?) fun x3 =>
ob (
br (decide (v0<(l2.length:Int))) (
gd (bF v0 l2.length) (
ob (l2[v0.toNat]?) fun x4 =>
some x4)) (
some 0)) fun v2 =>
ob (Cj n x3 v2 v1) fun(r0,r1) =>
gd (bF v0 ((l1.length:Int).toNat)) (
ob (l3[v0.toNat]?) fun _ =>
some (.inl ((l3.set v0.toNat r0),r1,IntKind.wrap .i64 (v0+1)))))) (
some (.inr l3))
def Cf (n:Nat) (l1:List (Nat)) (l2:List (Nat)):Option (List Nat) :=
gd (decide (0≤(l1.length:Int))) (gd (lim ((l1.length:Int).toNat)) (
ob (
cY (yq n l1 l2) n ((List.replicate (l1.length:Int).toNat (0:Nat)),0,0)) fun l3 =>
some l3))
def CX (n:Nat) (x1:Bool) (l2:List (Nat)) (x7:Bool) (l8:List (Nat)):Option (Bool × List Nat) :=
br ((x1 == x7)) (
ob (C9 n l2 l8) fun l18 =>
ob (vU n x1 l18) fun(r22,l23) =>
some (r22,l23)) (
ob (
ob (Cx n l2 l8) fun r39 =>
br (decide (r39<0)) (
some (x7,l8,x1,l2)) (
some (x1,l2,x7,l8))) fun(v30,l31,_,l35) =>
ob (Cf n l31 l35) fun l44 =>
ob (vU n v30 l44) fun(r48,l49) =>
some (r48,l49))
def xp (_:Nat):(List (Nat) × List (Nat) × Int)→Option ((List (Nat) × List (Nat) × Int) ⊕ ((Int) ⊕ (Unit))):=fun(l32,l33,v34) =>
br (decide (0≤v34)) (
gd (bF v34 8) (
ob (l32[v34.toNat]?) fun x52 =>
gd (bF v34 8) (
ob (l33[v34.toNat]?) fun x55 =>
br (!decide (x52=x55)) (
gd (bF v34 8) (
gd (bF v34 8) (
br (decide (x52<x55)) (
some (.inr (.inl (-1)))) (
some (.inr (.inl 1)))))) (
some (.inl (l32,l33,IntKind.wrap .i64 (v34-1))))))) (
some (.inr (.inr ())))
def CV (n:Nat) (x1:Nat) (x2:Nat) (x3:Nat) (x4:Nat) (x5:Nat) (x6:Nat) (x7:Nat) (x8:Nat) (x9:Nat) (x10:Nat) (x11:Nat) (x12:Nat) (x13:Nat) (x14:Nat) (x15:Nat) (x16:Nat):Option (Int) :=
ob (α:=(Int) ⊕ (Unit)) (
cY (xp n) n (([x1,x2,x3,x4,x5,x6,x7,x8]:List (Nat)),([x9,x10,x11,x12,x13,x14,x15,x16]:List (Nat)),7)) fun r62=>match r62 with
| .inl v49 =>
some v49
| .inr _ =>
some 0
def CE (n:Nat) (x1:Bool) (x2:Nat) (x3:Nat) (x4:Nat) (x5:Nat) (x6:Nat) (x7:Nat) (x8:Nat) (x9:Nat):Option (Nat × Nat × Nat × Nat × Nat × Nat × Nat × Nat × Int) :=
ob (CV n x2 x3 x4 x5 x6 x7 x8 x9 0 0 0 0 0 0 0 9223372036854775808) fun r24 =>
ob (
br (decide (0<r24)) (
some true) (
br (decide (r24=0)) (
some (!x1)) (
some false))) fun v27 =>
br (v27) (
some (0,0,0,0,0,0,0,0,6)) (
ob (
br (x1) (
ob (zm n 0 0 0 0 0 0 0 0 x2 x3 x4 x5 x6 x7 x8 x9) fun(r54,r55,r56,r57,r58,r59,r60,r61,_) =>
some (r54,r55,r56,r57,r58,r59,r60,r61)) (
some (x2,x3,x4,x5,x6,x7,x8,x9))) fun(v44,v45,v46,v47,v48,v49,v50,v51) =>
some (v44,v45,v46,v47,v48,v49,v50,v51,0))
def BZ (n:Nat) (x1:Bool) (l2:List (Nat)):Option (Nat × Nat × Nat × Nat × Nat × Nat × Nat × Nat × Int) :=
br (decide (8<(l2.length:Int))) (
some (0,0,0,0,0,0,0,0,6)) (
gd (decide ((l2:List (Nat)).length≤8)) (
ob (DP ((l2:List (Nat))++([0,0,0,0,0,0,0,0]:List (Nat)).drop (l2:List (Nat)).length)) fun(x12,x13,x14,x15,x16,x17,x18,x19) =>
ob (CE n x1 x12 x13 x14 x15 x16 x17 x18 x19) fun(r21,r22,r23,r24,r25,r26,r27,r28,r29) =>
some (r21,r22,r23,r24,r25,r26,r27,r28,r29)))
def CS (n:Nat) (x1:Nat) (x2:Nat) (x3:Nat) (x4:Nat) (x5:Nat) (x6:Nat) (x7:Nat) (x8:Nat):Option (Int × Int) :=
ob (Am n (IntKind.wrap .i64 ((x1:Nat):Int))) fun(r11,r12,r13,r14,r15,r16,r17,r18) =>
br (!(decide (r11=x1) && decide (r12=x2) && decide (r13=x3) && decide (r14=x4) && decide (r15=x5) && decide (r16=x6) && decide (r17=x7) && decide (r18=x8))) (
some (0,6)) (
some (IntKind.wrap .i64 ((x1:Nat):Int),0))
def BF (n:Nat) (l1:List (Int × Int)):Int→Option ((Int) ⊕ ((Int) ⊕ (Unit))):=fun v0 =>
br (decide (v0<(l1.length:Int))) (
gd (bF v0 l1.length) (
ob (l1[v0.toNat]?) fun(x3,x4) =>
ob (CO n x3 x4) fun r0 =>
br (r0) (
some (.inr (.inl v0))) (
some (.inl (IntKind.wrap .i64 (v0+1)))))) (
some (.inr (.inr ())))
def Bl (n:Nat) (l2:List (Int × Int)):(List (Int × Bool × List Nat) × Int)→Option ((List (Int × Bool × List Nat) × Int) ⊕ (List (Int × Bool × List Nat))):=fun(l1,v0) =>
br (decide (v0<(l2.length:Int))) (
ob (
gd (bF v0 l2.length) (
ob (l2[v0.toNat]?) fun(x3,x4) =>
ob (
br (decide (x4=0)) (
some true) (
some (decide (x3=0)))) fun v1 =>
br (v1) (
some l1) (
ob (Ax n x4) fun(r1,r0) =>
ob (some ((iA l1 r0).getD (false,[]))) fun(y0,l3) =>
ob (Aq n x3) fun(r2,l4) =>
ob (Aq n r1) fun(r3,l5) =>
ob (De n r2 l4 r3 l5) fun(r4,l6) =>
ob (CX n y0 l3 r4 l6) fun(r5,l7) =>
some (kB l1 r0 (r5,l7))))) fun l8 =>
some (.inl (l8,IntKind.wrap .i64 (v0+1)))) (
some (.inr l1))
def A5 (n:Nat) (l2:List Int) (l3:List (Int × Bool × List Nat)):(List (Int × Int) × Int)→Option ((List (Int × Int) × Int) ⊕ ((Unit) ⊕ (List (Int × Int)))):=fun(l1,v0) =>
br (decide (v0<(l2.length:Int))) (
ob (α:=(Unit) ⊕ (List (Int × Int))) (
gd (bF v0 l2.length) (
ob (l2[v0.toNat]?) fun x3 =>
ob (some ((iA l3 x3).getD (false,[]))) fun(y0,l4) =>
ob (BZ n y0 l4) fun(r1,r2,r3,r4,r5,r6,r7,r8,r9) =>
ob (CS n r1 r2 r3 r4 r5 r6 r7 r8) fun(r0,r10) =>
ob (
br (!decide (r9=0)) (
some true) (
br (!decide (r10=0)) (
some true) (
ob (yu n r0) fun r11 =>
some (!r11)))) fun v1 =>
br (v1) (
some (.inl ())) (
br (!decide (r0=0)) (
gd (lim (l1++[(r0,x3)]).length) (
some (.inr (l1++[(r0,x3)])))) (
some (.inr l1))))) fun r12=>match r12 with
| .inl _ =>
some (.inr (.inl ()))
| .inr l5 =>
some (.inl (l5,IntKind.wrap .i64 (v0+1)))) (
some (.inr (.inr l1)))
def E0 (n:Nat) (l1:List (Int × Int)):Option (List (Int × Int) × Int) :=
br (decide (400<(l1.length:Int))) (
some ([],3)) (
ob (
ob (
ob (α:=(Int) ⊕ (Unit)) (
cY (BF n l1) n 0) fun r0=>match r0 with
| .inl v0 =>
some v0
| .inr _ =>
some (-1)) fun v1 =>
some (decide (0≤v1))) fun v2 =>
br (v2) (
some ([],2)) (
ob (
cY (Bl n l1) n (([]:List (Int × Bool × List Nat)),0)) fun l2 =>
ob (Ez n l2) fun l4 =>
ob (α:=(Unit) ⊕ (List (Int × Int))) (
cY (A5 n l4 l2) n (([]:List (Int × Int)),0)) fun r1=>match r1 with
| .inl _ =>
some ([],6)
| .inr l3 =>
br (decide (200<(l3.length:Int))) (
some ([],3)) (
some (l3,0))))
def Ba (_:Nat) (x1:Int) (x2:Int) (x3:Int) (x4:Int):Int→Option ((Int) ⊕ ((Unit) ⊕ (Unit))):=fun v8 =>
br (decide (v8<4)) (
gd (bF v8 4) (
ob ([x1,x2,x3,x4][v8.toNat]?) fun x39 =>
ob (
br (decide (x39 < -1000000)) (
some true) (
some (decide (1000000<x39)))) fun v43 =>
br (v43) (
some (.inr (.inl ()))) (
some (.inl (IntKind.wrap .i64 (v8+1)))))) (
some (.inr (.inr ())))
def FI (n:Nat) (x1:Int) (x2:Int) (x3:Int) (x4:Int):Option (List (Int × Int) × Int) :=
ob (α:=(Unit) ⊕ (Unit)) (
cY (Ba n x1 x2 x3 x4) n 0) fun r49=>match r49 with
| .inl _ =>
some ([],2)
| .inr _ =>
ob (some (IntKind.wrap .i64 ((IntKind.wrap .i64 (x1-x3))*(IntKind.wrap .i64 (x1-x3))))) fun y50 =>
ob (some (IntKind.wrap .i64 ((IntKind.wrap .i64 (x2-x4))*(IntKind.wrap .i64 (x2-x4))))) fun y52 =>
ob (E0 n ([(1,IntKind.wrap .i64 (y50+y52))])) fun(l56,r59) =>
some (l56,r59)
def A4 (n:Nat) (l1:List (Int × Int)):(Int × Int)→Option ((Int × Int) ⊕ ((Unit) ⊕ (Unit))):=fun(v1,v0) =>
br (decide (v0<(l1.length:Int))) (
gd (bF v0 l1.length) (
ob (l1[v0.toNat]?) fun(x4,x3) =>
ob (
br (decide (x3≤v1)) (
some true) (
br (decide (10000000000000<x3)) (
some true) (
br (decide (x4=0)) (
some true) (
ob (yu n x4) fun r0 =>
some (!r0))))) fun v2 =>
br (v2) (
some (.inr (.inl ()))) (
ob (Ax n x3) fun(r1,_) =>
br (decide (1<r1)) (
some (.inr (.inl ()))) (
some (.inl (x3,IntKind.wrap .i64 (v0+1))))))) (
some (.inr (.inr ())))
def EL (n:Nat) (l1:List (Int × Int)):Option (Int) :=
br (decide (200<(l1.length:Int))) (
some 30) (
ob (α:=(Unit) ⊕ (Unit)) (
cY (A4 n l1) n (0,0)) fun r0=>match r0 with
| .inl _ =>
some 30
| .inr _ =>
some 0)
def FJ (n:Nat) (l1:List (Int × Int)) (l2:List (Int × Int)):Option (List (Int × Int) × Int) :=
ob (
ob (EL n l1) fun r0 =>
br (!decide (r0=0)) (
some true) (
ob (EL n l2) fun r1 =>
some (!decide (r1=0)))) fun v0 =>
br (v0) (
some ([],30)) (
ob (
gd (bF 0 2) (
ob (([l1,l2]:List (List (Int × Int)))[(0:Int).toNat]?) fun l5 =>
br (decide (IntKind.wrap .i64 (0+(l5.length:Int))<0)) (
none) (
gd (bF 1 2) (
ob (([l1,l2]:List (List (Int × Int)))[(1:Int).toNat]?) fun l7 =>
ob (some (IntKind.wrap .i64 ((IntKind.wrap .i64 (0+(l5.length:Int)))+(l7.length:Int)))) fun y0 =>
br (decide (y0<0)) (
none) (
ob (
ob (
br (decide (0<IntKind.wrap .i64 (y0-0))) (
gd (decide ((0:Int)<IntKind.wrap .i64 (y0-0))) (gd (lim ((IntKind.wrap .i64 (y0-0)).toNat)) (
gd (okB 0 0 ((IntKind.wrap .i64 (y0-0)).toNat)) (
gd (decide (0<((IntKind.wrap .i64 (y0-0)).toNat))) (
ob (some ((List.replicate (IntKind.wrap .i64 (y0-0)).toNat ((0,0):Int × Int)).take (0:Int).toNat)) fun l8 =>
some l8))))) (
some ([]:List (Int × Int)))) fun l9 =>
some l9) fun l3 =>
gd (bF 0 2) (
ob (([l1,l2]:List (List (Int × Int)))[(0:Int).toNat]?) fun l4 =>
gd (lim (l3++l4).length) (
gd (bF 1 2) (
ob (([l1,l2]:List (List (Int × Int)))[(1:Int).toNat]?) fun l6 =>
gd (lim ((l3++l4)++l6).length) (
some ((l3++l4)++l6)))))))))) fun l10 =>
ob (E0 n l10) fun(l11,r2) =>
some (l11,r2))
def A6 (n:Nat) (l1:List (Int × Int)):(Int × List (Int × Int))→Option ((Int × List (Int × Int)) ⊕ ((Int) ⊕ (List (Int × Int)))):=fun(v0,l2) =>
br (decide (v0<(l1.length:Int))) (
gd (bF v0 l1.length) (
ob (l1[v0.toNat]?) fun(x3,x4) =>
gd (decide ((l1.length:Int)≠0)) (
gd (bF (Int.tmod (IntKind.wrap .i64 (v0+1)) (l1.length:Int)) l1.length) (
ob (l1[(Int.tmod (IntKind.wrap .i64 (v0+1)) (l1.length:Int)).toNat]?) fun(x10,x11) =>
ob (α:=(Int) ⊕ (List (Int × Int))) (
ob (FI n x3 x4 x10 x11) fun(l3,r0) =>
br (!decide (r0=0)) (
some (.inl r0)) (
ob (FJ n l2 l3) fun(l4,r1) =>
br (!decide (r1=0)) (
some (.inl r1)) (
some (.inr l4)))) fun r2=>match r2 with
| .inl v1 =>
some (.inr (.inl v1))
| .inr l5 =>
some (.inl (IntKind.wrap .i64 (v0+1),l5)))))) (
some (.inr (.inr l2)))
def Dn (n:Nat) (l1:List (Int × Int)):Option (List (Int × Int) × Int) :=
ob (Ci n l1) fun r0 =>
br (!decide (r0=0)) (
some ([],r0)) (
ob (
some ()) fun _ =>
ob (α:=(Int) ⊕ (List (Int × Int))) (
ob (α:=(Int) ⊕ (List (Int × Int))) (
cY (A6 n l1) n (0,([]:List (Int × Int)))) fun r1=>match r1 with
| .inl v0 =>
some (.inl v0)
| .inr l2 =>
some (.inr l2)) fun r2=>match r2 with
| .inl v1 =>
some ([],v1)
| .inr l3 =>
some (l3,0))
def A8 (_:Nat) (l1:List (Int)):(List (Int × Int) × Int)→Option ((List (Int × Int) × Int) ⊕ (List (Int × Int))):=fun(l19,v21) =>
br (decide (IntKind.wrap .i64 (v21+1)<(l1.length:Int))) (
gd (bF v21 l1.length) (
ob (l1[v21.toNat]?) fun x43 =>
gd (bF (IntKind.wrap .i64 (v21+1)) l1.length) (
ob (l1[(IntKind.wrap .i64 (v21+1)).toNat]?) fun x46 =>
gd (lim (l19++[(x43,x46)]).length) (
some (.inl ((l19++[(x43,x46)]),IntKind.wrap .i64 (v21+2))))))) (
some (.inr l19))
def oN (n:Nat) (l1:List (Int)):Option (List (Int × Int)) :=
ob (
cY (A8 n l1) n (([]:List (Int × Int)),0)) fun l37 =>
some l37
def oM (n:Nat) (l1:List (Int × Int)) (x5:Int) (x6:Int):Option (Bool) :=
ob (EM n l1) fun(r8,r9) =>
ob (Ed n l1) fun(_,r12) =>
br (decide (r8=x5)) (
br (decide (r9=x6)) (
some ((decide (r12=140)) == (decide (0<x5)))) (
some false)) (
some false)
def BJ (n:Nat) (l1:List (Int × Int)) (x5:Int) (x6:Int):Option (Bool) :=
ob (Dn n l1) fun(l8,r11) =>
br (decide (r11=0)) (
br (decide ((l8.length:Int)=1)) (
gd (bF 0 l8.length) (
ob (l8[(0:Int).toNat]?) fun(x18,x19) =>
some (decide (x18=x5) && decide (x19=x6)))) (
some false)) (
some false)
def wA (n:Nat) (l1:List (Int × Int)) (x5:Int) (x6:Int) (x7:Int):Option (Bool) :=
ob (BH n l1 x5 x6) fun(r9,r10) =>
br (decide (r9=x7)) (
some (decide (r10=0))) (
some false)
def Bc (n:Nat) (x1:Int) (x2:Int) (x3:Int) (x4:Int) (x5:Int):Option (Bool) :=
ob (CK n 0 0 4 0 x1 x2 x3 x4) fun(r7,r8) =>
br (decide (r7=x5)) (
some (decide (r8=0))) (
some false)
def Cy (_:Nat):(List (Int × Int) × Int)→Option ((List (Int × Int) × Int) ⊕ (List (Int × Int))):=fun(l15,v17) =>
br (decide (v17<39)) (
gd (lim (l15++[(v17,IntKind.wrap .i64 (v17*v17))]).length) (
some (.inl ((l15++[(v17,IntKind.wrap .i64 (v17*v17))]),IntKind.wrap .i64 (v17+1))))) (
some (.inr l15))
def BU (_:Nat):(List (Int × Int) × Int)→Option ((List (Int × Int) × Int) ⊕ (List (Int × Int))):=fun(l1,v0) =>
br (decide (v0<41)) (
gd (lim (l1++[(v0,IntKind.wrap .i64 (v0*v0))]).length) (
some (.inl ((l1++[(v0,IntKind.wrap .i64 (v0*v0))]),IntKind.wrap .i64 (v0+1))))) (
some (.inr l1))
def F7 (n:Nat):Option (Bool) :=
ob (EY n) fun r0 =>
br (!r0) (
some false) (
ob (oN n ([0,0,2,0,4,0,4,3,0,3])) fun l1 =>
ob (
cY (Cy n) n (([]:List (Int × Int)),0)) fun l2 =>
gd (lim (l2++[(0,2000)]).length) (
gd (lim (([]:List (Int × Int))++(l2++[(0,2000)])).length) (
gd (lim ((([]:List (Int × Int))++(l2++[(0,2000)]))++[(-1,1000)]).length) (
ob (oN n ([0,0,1000001,0,1000001,0])) fun l5 =>
ob (oN n ([-1000000,-1000000,1000000,-1000000,1000000,1000000,-1000000,1000000])) fun l3 =>
ob (
ob (oM n [] 1 0) fun r1 =>
br (r1) (
ob (oN n ([0,0,1,1])) fun l6 =>
ob (oM n l6 1 0) fun r2 =>
br (r2) (
ob (oM n (l2++[(0,2000)]) 0 0) fun r3 =>
br (r3) (
ob (oM n ((([]:List (Int × Int))++(l2++[(0,2000)]))++[(-1,1000)]) 1 0) fun r4 =>
br (r4) (
ob (oM n l5 2 1) fun r5 =>
br (r5) (
ob (oM n l1 0 0) fun r6 =>
br (r6) (
ob (oN n ([0,0,4,0,4,4,2,0,1,3])) fun l7 =>
ob (oM n l7 5 2) fun r7 =>
br (r7) (
ob (oN n ([0,0,4,0,4,4,4,2,0,4])) fun l8 =>
ob (oM n l8 4 2) fun r8 =>
br (r8) (
ob (oN n ([0,0,3,0,3,3,0,0])) fun l9 =>
ob (oM n l9 3 3) fun r9 =>
br (r9) (
ob (oN n ([0,0,4,0,2,2,4,4,0,4,2,2])) fun l10 =>
ob (oM n l10 5 4) fun r10 =>
some r10) (
some false)) (
some false)) (
some false)) (
some false)) (
some false)) (
some false)) (
some false)) (
some false)) (
some false)) fun v0 =>
ob (
ob (EO n l1) fun r11 =>
br (r11) (
ob (Dg n l1 24) fun r12 =>
br (r12) (
ob (BJ n l1 14 1) fun r13 =>
br (r13) (
ob (Dg n l3 8000000000000) fun r14 =>
br (r14) (
ob (BJ n l3 8000000 1) fun r15 =>
br (r15) (
ob (oN n ([0,0,3,3,0,6,-3,3])) fun l11 =>
ob (BJ n l11 12 2) fun r16 =>
br (r16) (
ob (wA n l3 1000000 1000000 1) fun r17 =>
br (r17) (
ob (wA n l3 0 999999 2) fun r18 =>
br (r18) (
ob (wA n l1 2 0 1) fun r19 =>
br (r19) (
ob (wA n l1 (-1) 0 0) fun r20 =>
br (r20) (
ob (wA n l1 9 3 0) fun r21 =>
some r21) (
some false)) (
some false)) (
some false)) (
some false)) (
some false)) (
some false)) (
some false)) (
some false)) (
some false)) (
some false)) fun v1 =>
ob (BH n l1 1000001 0) fun(_,r22) =>
ob (BH n l5 1000001 0) fun(_,r23) =>
gd (decide ((0:Int)≤201)) (gd (lim ((201:Int).toNat)) (
ob (rZ n (List.replicate (201:Int).toNat ((0,0):Int × Int))) fun(_,r24) =>
ob (rZ n ([(1000001,0)])) fun(_,r25) =>
ob (oN n ([0,0,1,1,3,3,2,2])) fun l12 =>
ob (rZ n l12) fun(_,r26) =>
ob (rZ n []) fun(_,r27) =>
ob (
cY (BU n) n (([]:List (Int × Int)),0)) fun l4 =>
ob (rZ n l4) fun(_,r28) =>
gd (okB 0 40 l4.length) (
ob (rZ n ((l4.drop (0:Int).toNat).take ((40:Int).toNat-(0:Int).toNat))) fun(l13,r29) =>
ob (CK n 0 0 0 0 0 0 1 0) fun(_,r30) =>
ob (CK n 0 0 1 0 0 1000001 0 0) fun(_,r31) =>
gd (okB 0 2 ((l2++[(0,2000)]).length)) (
ob (Dn n (((l2++[(0,2000)]).drop (0:Int).toNat).take ((2:Int).toNat-(0:Int).toNat))) fun(l14,r32) =>
ob (
br (decide (r22=2)) (
br (decide (r23=140)) (
br (decide (r24=3)) (
br (decide (r25=2)) (
br (decide (r26=4)) (
br (decide (r27=4)) (
br (decide (r28=3)) (
br (decide (r29=0)) (
br (decide ((l13.length:Int)=40)) (
br (decide (r30=2)) (
br (decide (r31=2)) (
br (decide ((l14.length:Int)=0)) (
some (decide (r32=140))) (
some false)) (
some false)) (
some false)) (
some false)) (
some false)) (
some false)) (
some false)) (
some false)) (
some false)) (
some false)) (
some false)) (
some false)) fun v2 =>
br (v0) (
br (v1) (
br (v2) (
ob (Bc n 0 0 (-3) 5 1) fun r33 =>
br (r33) (
ob (Bc n 4 0 9 0 1) fun r34 =>
br (r34) (
ob (Bc n (-5) 0 9 0 3) fun r35 =>
br (r35) (
ob (Bc n 1 1 3 1 0) fun r36 =>
br (r36) (
ob (Bc n 4 1 4 (-1) 1) fun r37 =>
br (r37) (
ob (Bc n 3 1 6 (-5) 2) fun r38 =>
some r38) (
some false)) (
some false)) (
some false)) (
some false)) (
some false)) (
some false)) (
some false)) (
some false)))))))))
theorem y8 {l:List (Int × Int)}:((l.map j8).flatten).length=l.length*2:=by rw[bJ (w:=2) (fun e he=>by obtain⟨x,_,rfl⟩:=List.mem_map.1 he; rfl),List.length_map]
theorem zS (n:Nat) {m0 m:AMem} {ps:List Pc} (h:Hp m0 m ps) {k nn:Nat} {a:Option Addr} {l r:List (Int × Int)} (hp:pk ps k=some (.sl a 2 nn (l.map (eP (eI .i64) (eI .i64))))) (hF:EV n l=some r) :
  aC aE 50 [.slice a nn nn,.func (.func 51) #[] #[]] m (fun v m'=>∃_:Unit,v = .tuple #[]∧Hp m0 m' (bH ps k (.sl a 2 nn (r.map (eP (eI .i64) (eI .i64)))))):=by
 unfold EV at hF;obtain⟨hlim,hF⟩:=ai hF;cases hF;rcases h.get hp with⟨rfl,e2,rfl,_⟩|⟨b,tg,rfl,hO⟩
 ·have hl:l = []:=List.map_eq_nil_iff.1 e2;subst hl;refine aC.bT (p:=⟨hY⟩) rfl (v:=.tuple #[]) (m':=m) rfl ⟨(),rfl,?_⟩;rw[List.mergeSort_nil,ve _ _ _ hp];exact h
 ·obtain⟨h1,h2,h3,h4,h5,h6,h7⟩:=hO;have hn:l.length=nn:=by simpa using h4
  subst hn;have hw:oD m b l.length l.length=some ((l.map j8).flatten,tg):=by
   unfold oD;rcases h6 with rfl|rfl<;>simp only[h3]<;>rw[if_pos ⟨trivial,y8,oI _⟩]
  refine aC.bT (p:=⟨hY⟩) rfl (v:=.tuple #[]) (m':=m.set b (.cells ((l.mergeSort cz).map j8).flatten tg)) ?_ ⟨(),rfl,?_⟩
  ·show hY [.slice (some ⟨b,0,none⟩) l.length l.length,.func (.func 51) #[] #[]] m=_
   simp only[hY,hw,lL];rw[if_pos ⟨⟨rfl,rfl⟩,hlim⟩]
  ·refine h.write hp rfl rfl rfl rfl (.inr ⟨b,tg,rfl,h1,?_,?_,?_,?_,h6,h7⟩)
   ·rw[AMem.next_set]; exact h2
   ·rw[AMem.aY,if_pos rfl]
   ·simp
   ·intro e he;obtain⟨x,_,rfl⟩:=List.mem_map.1 he
    rfl
end Go.Proofs.YthmekkhpddehjaaGreat
end
