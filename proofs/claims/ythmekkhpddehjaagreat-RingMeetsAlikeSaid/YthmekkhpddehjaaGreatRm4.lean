/- A part of the proof. -/
import Derived.Test.YthmekkhpddehjaaGreatRm3
section
namespace Go.Proofs.YthmekkhpddehjaaGreat
open Go Go.Ab Go.Ab.W
set_option maxRecDepth 10000
set_option maxHeartbeats 4000000
attribute [local irreducible] Tm.at Trie.set Trie.get AMem.get AMem.set AMem.alloc AMem.ww AMem.kill
theorem z41:bm bj.P 41=some (.agg #[.int .i64 0,.int .i64 0,.int .i64 0,.int .i64 0,.int .i64 0,.int .i64 0,.int .i64 0,.int .i64 0]):=by kernel_rfl
theorem o5:ArT bj.P 31 30 4 2:=⟨by kernel_rfl,by kernel_rfl,by kernel_rfl⟩
theorem pS:ArT bj.P 30 29 2 1:=⟨by kernel_rfl,by kernel_rfl,by kernel_rfl⟩
theorem oM:TyI bj.P 29 false 1:=⟨by kernel_rfl,by kernel_rfl,by kernel_rfl⟩
theorem xc:bj.P.underlying 29=some (.int .i8):=by kernel_rfl
theorem u3:bj.P.underlying 3=some (.int .i64):=by kernel_rfl
theorem z33:bm bj.P 33=some (.agg #[.int .i64 0,.int .i64 0]):=by kernel_rfl
theorem uN:BdT bj.P 33 (.agg #[.int .i64 0,.int .i64 0]) [(0,1),(1,1)]:=.mk' (by kernel_rfl) (by kernel_rfl)
theorem cg:ArT bj.P 41 33 4 2:=⟨by kernel_rfl,by kernel_rfl,by kernel_rfl⟩
theorem aB:TyI bj.P 33 true 2:=⟨by kernel_rfl,by kernel_rfl,by kernel_rfl⟩
theorem bX:∀b o,aK bj.P 33 (ptr b o) 0=some (ptr b (o+0)):=fun _ _=>by kernel_rfl
theorem du:TyI bj.P 3 false 1:=⟨by kernel_rfl,by kernel_rfl,by kernel_rfl⟩
theorem bW:∀b o,aK bj.P 33 (ptr b o) 1=some (ptr b (o+1)):=fun _ _=>by kernel_rfl
theorem wV:u0 bj.P 33 3 3 .i64 .i64=true:=by kernel_rfl
theorem oZ:∀(x0 y0:Int) (x1 y1:Int),iy bj.P Op.maxDepth 33 (.agg #[.int .i64 x0,.int .i64 x1]) (.agg #[.int .i64 y0,.int .i64 y1])=some (decide (x0=y0) && decide (x1=y1)):=fun x0 y0 x1 y1=>xi wV x0 y0 x1 y1
theorem pL:bj.P.eqGuardType bj.P.depth 33=false:=by kernel_rfl
theorem zY:bm bj.P 96=some (.agg #[.int .i64 0,.int .i64 0,.int .i64 0,.int .i64 0,.int .i64 0]):=by kernel_rfl
theorem yV:BdT bj.P 96 (.agg #[.int .i64 0,.int .i64 0,.int .i64 0,.int .i64 0,.int .i64 0]) [(0,1),(1,2),(3,2)]:=.mk' (by kernel_rfl) (by kernel_rfl)
theorem eF:∀b o,aK bj.P 96 (ptr b o) 1=some (ptr b (o+1)):=fun _ _=>by kernel_rfl
theorem eD:∀b o,aK bj.P 96 (ptr b o) 2=some (ptr b (o+3)):=fun _ _=>by kernel_rfl
theorem zE:BdT bj.P 41 (.agg #[.int .i64 0,.int .i64 0,.int .i64 0,.int .i64 0,.int .i64 0,.int .i64 0,.int .i64 0,.int .i64 0]) [(0,2),(2,2),(4,2),(6,2)]:=.mk' (by kernel_rfl) (by kernel_rfl)
theorem zn:TyI bj.P 96 true 5:=⟨by kernel_rfl,by kernel_rfl,by kernel_rfl⟩
theorem zP:bj.P.underlying 102=some (.slice 3):=by kernel_rfl
theorem xO:SlT bj.P 102 3 1:=SlT.of (by kernel_rfl)
theorem z3:bm bj.P 3=some (.int .i64 0):=by kernel_rfl
theorem yd:bj.P.underlying 119=some (.map 33 4):=by kernel_rfl
theorem yF:bm bj.P 55=some (.agg #[.int .i64 0,.int .i64 0,.int .i64 0,.int .i64 0]):=by kernel_rfl
theorem xF:BdT bj.P 55 (.agg #[.int .i64 0,.int .i64 0,.int .i64 0,.int .i64 0]) [(0,1),(1,1),(2,1),(3,1)]:=.mk' (by kernel_rfl) (by kernel_rfl)
theorem Ad:bm bj.P 56=some (.agg #[.int .i64 0,.int .i64 0,.int .i64 0,.int .i64 0,.int .i64 0,.int .i64 0,.int .i64 0,.int .i64 0,.int .i64 0,.int .i64 0,.int .i64 0,.int .i64 0]):=by kernel_rfl
theorem zF:BdT bj.P 56 (.agg #[.int .i64 0,.int .i64 0,.int .i64 0,.int .i64 0,.int .i64 0,.int .i64 0,.int .i64 0,.int .i64 0,.int .i64 0,.int .i64 0,.int .i64 0,.int .i64 0]) [(0,4),(4,4),(8,4)]:=.mk' (by kernel_rfl) (by kernel_rfl)
theorem ye:ArT bj.P 56 55 3 4:=⟨by kernel_rfl,by kernel_rfl,by kernel_rfl⟩
theorem sq:TyI bj.P 55 true 4:=⟨by kernel_rfl,by kernel_rfl,by kernel_rfl⟩
theorem ki:ArT bj.P 55 3 4 1:=⟨by kernel_rfl,by kernel_rfl,by kernel_rfl⟩
theorem nP (n:Nat) (x1:Int) (x2:Int)  (r:Bool) (hF:xb n x1 x2=some r) (m:AMem)  :
 aN bj 48 [.agg #[.int .i64 x1,.int .i64 x2]] m (fun v m'=>∃_:Unit,v = .bool r∧Hp m m' []):=by
 unfold xb at hF
 refine cT (m0:=m) (ps:=[]) (N:=23) (rs:=[.tmp 2]) rfl Tryz.func48 rfl rfl rfl (Hp.start m)<|Wk.seq<|Wk.region<|Wo.x (fx rfl) gn rfl fun b3=>?_
 refine Wo.od (aA rfl) rfl<|Wo.nil<|At.tn<|Wk.seq<|Wk.region<|Wo.od (aX (r:=ptr b3 0) rfl (bX _ _)) rfl<|Wo.od (aj (k:=0) du rfl rfl rfl) rfl<|Wo.od (aX (r:=ptr b3 0) rfl (bX _ _)) rfl<|Wo.od (aj (k:=0) du rfl rfl rfl) rfl<|Wo.od (tM rfl (w8 _)) rfl<|Wo.od (aX (r:=ptr b3 1) rfl (bW _ _)) rfl<|Wo.od (aj (k:=0) du rfl rfl rfl) rfl<|Wo.od (aX (r:=ptr b3 1) rfl (bW _ _)) rfl<|Wo.od (aj (k:=0) du rfl rfl rfl) rfl ?_
 refine Wo.od (tM rfl (w8 _)) rfl ?_
 obtain⟨y4,h5,hF⟩:=al hF
 refine Wo.od (sy rfl rfl (fun m=>(xA _ _ _ _ m).trans (Ac h5))) rfl<|Wo.od (ax rfl rfl (iT _ _ _)) rfl<|Wo.od (ah rfl) rfl ?_
 rcases ai hF with⟨h6,hF⟩|⟨h6,hF⟩
 ·refine Wo.s (gg rfl rfl (eo h6)) rfl<|Wo.s (gg rfl rfl (eo h6)) rfl<|Wo.s (gg rfl rfl (eo h6)) rfl<|Wo.s (gg rfl rfl (eo h6)) rfl<|Wo.s (gg rfl rfl (eo h6)) rfl<|Wo.s (gg rfl rfl (eo h6)) rfl<|Wo.od (cX rfl h6 rfl) rfl<|Wo.od (aA rfl) rfl<|Wo.nil<|At.tn<|Wk.ret ?_
  cases hF;exact At.ret (.tmp rfl .nil) fun m' hm=>⟨(),rfl,(ar.ae [] rfl rfl) m' hm⟩
 ·refine Wo.og (aX (r:=ptr b3 0) rfl (bX _ _)) (gg rfl rfl (dX h6)) rfl<|Wo.og (aj (k:=0) du rfl rfl rfl) (gg rfl rfl (dX h6)) rfl<|Wo.og (aX (r:=ptr b3 1) rfl (bW _ _)) (gg rfl rfl (dX h6)) rfl<|Wo.og (aj (k:=0) du rfl rfl rfl) (gg rfl rfl (dX h6)) rfl<|Wo.og (sy rfl rfl (uJ _ _)) (gg rfl rfl (dX h6)) rfl<|Wo.og (ax rfl rfl (bN _ _ _)) (gg rfl rfl (dX h6)) rfl<|Wo.od (cW rfl h6 rfl) rfl<|Wo.od (aA rfl) rfl<|Wo.nil<|At.tn<|Wk.ret ?_
  cases hF;exact At.ret (.tmp rfl .nil) fun m' hm=>⟨(),rfl,(ar.ae [] rfl rfl) m' hm⟩
theorem rJ (n:Nat) (x1:Int)  (r:Bool) (hF:u4 n x1=some r) (m:AMem)  :
 aN bj 103 [.int .i64 x1] m (fun v m'=>∃_:Unit,v = .bool r∧Hp m m' []):=by
 unfold u4 at hF
 refine cT (m0:=m) (ps:=[]) (N:=6) (rs:=[.tmp 2]) rfl Tryz.func103 rfl rfl rfl (Hp.start m)<|Wk.seq<|Wk.region<|Wo.od (aA rfl) rfl<|Wo.nil<|At.tn<|Wk.seq<|Wk.region<|Wo.od (ah rfl) rfl<|Wo.od (ah rfl) rfl<|Wo.od (ax rfl rfl (ft _ _)) rfl<|Wo.od (aA rfl) rfl<|Wo.nil<|At.tn<|Wk.ret ?_
 cases hF
 exact At.ret (.tmp rfl .nil) fun m' hm=>⟨(),rfl,(ar.ae [] rfl rfl) m' hm⟩
theorem qb (n:Nat) (x1:Int) (x2:Int)  (r:Int) (hF:yi n x1 x2=some r) (m:AMem)  :
 aN bj 83 [.int .i64 x1,.int .i64 x2] m (fun v m'=>∃_:Unit,v = .int .i64 r∧Hp m m' []):=by
 unfold yi at hF
 refine cT (m0:=m) (ps:=[]) (N:=20) (rs:=[.tmp 4]) rfl Tryz.func83 rfl rfl rfl (Hp.start m)<|Wk.seq<|Wk.region<|Wo.od (aA rfl) rfl<|Wo.nil<|At.tn<|Wk.seq<|Wk.region<|Wo.od (ah rfl) rfl ?_
 obtain⟨r4,h3,hF⟩:=al hF
 refine Wo.x (dT rfl rfl (fun m hm=>rJ n x1  _ h3 m) fun _=>rfl) gn rfl ?_
 rintro⟨⟩
 refine Wo.od (aA rfl) rfl<|Wo.nil<|At.tn<|Wk.seq<|Wk.region<|Wo.od (ah rfl) rfl ?_
 obtain⟨r6,h5,hF⟩:=al hF
 refine Wo.x (dT rfl rfl (fun m hm=>rJ n x2  _ h5 m) fun _=>rfl) gn rfl ?_
 rintro⟨⟩
 refine Wo.od (aA rfl) rfl<|Wo.nil<|At.tn<|Wk.seq<|Wk.seq<|Wk.region<|Wo.od (ah rfl) rfl<|Wo.nil<|At.tn ?_
 rcases ai hF with⟨h7,hF⟩|⟨h7,hF⟩
 ·refine Wk.bf rfl h7<|Wk.seq<|Wk.seq<|Wk.region<|Wo.od (ah rfl) rfl<|Wo.nil<|At.tn ?_
  rcases ai hF with⟨h8,hF⟩|⟨h8,hF⟩
  ·refine Wk.bf rfl h8<|Wk.seq<|Wk.region<|Wo.od (aA rfl) rfl<|Wo.nil<|At.tn<|Wk.ret<|At.tr<|At.tr ?_;cases hF;exact At.ret (.tmp rfl .nil) fun m' hm=>⟨(),rfl,(ar.ae [] rfl rfl) m' hm⟩
  ·refine Wk.bF rfl h8<|Wk.skip<|At.tn<|Wk.seq<|Wk.region<|Wo.od (aA rfl) rfl<|Wo.nil<|At.tn<|Wk.ret<|At.tr ?_;cases hF;exact At.ret (.tmp rfl .nil) fun m' hm=>⟨(),rfl,(ar.ae [] rfl rfl) m' hm⟩
 ·refine Wk.bF rfl h7<|Wk.skip<|At.tn<|Wk.seq<|Wk.seq<|Wk.region<|Wo.od (ah rfl) rfl<|Wo.nil<|At.tn ?_
  rcases ai hF with⟨h9,hF⟩|⟨h9,hF⟩
  ·refine Wk.bf rfl h9<|Wk.seq<|Wk.region<|Wo.od (aA rfl) rfl<|Wo.nil<|At.tn<|Wk.ret<|At.tr ?_;cases hF;exact At.ret (.tmp rfl .nil) fun m' hm=>⟨(),rfl,(ar.ae [] rfl rfl) m' hm⟩
  ·refine Wk.bF rfl h9<|Wk.skip<|At.tn<|Wk.seq<|Wk.seq<|Wk.region<|Wo.od (ah rfl) rfl<|Wo.od (ah rfl) rfl<|Wo.od (ax rfl rfl (bN _ _ _)) rfl<|Wo.nil<|At.tn ?_;rcases ai hF with⟨h10,hF⟩|⟨h10,hF⟩
   ·refine Wk.bf rfl h10<|Wk.seq<|Wk.region<|Wo.od (aA rfl) rfl<|Wo.nil<|At.tn<|Wk.ret<|At.tr ?_;cases hF;exact At.ret (.tmp rfl .nil) fun m' hm=>⟨(),rfl,(ar.ae [] rfl rfl) m' hm⟩
   ·refine Wk.bF rfl h10<|Wk.skip<|At.tn<|Wk.seq<|Wk.seq<|Wk.region<|Wo.od (ah rfl) rfl<|Wo.od (ah rfl) rfl<|Wo.od (ax rfl rfl (iT _ _ _)) rfl<|Wo.nil<|At.tn ?_;rcases ai hF with⟨h11,hF⟩|⟨h11,hF⟩
    ·refine Wk.bf rfl h11<|Wk.seq<|Wk.region<|Wo.od (aA rfl) rfl<|Wo.nil<|At.tn<|Wk.ret<|At.tr ?_;cases hF;exact At.ret (.tmp rfl .nil) fun m' hm=>⟨(),rfl,(ar.ae [] rfl rfl) m' hm⟩
    ·refine Wk.bF rfl h11<|Wk.skip<|At.tn<|Wk.seq<|Wk.region<|Wo.od (aA rfl) rfl<|Wo.nil<|At.tn<|Wk.ret ?_;cases hF;exact At.ret (.tmp rfl .nil) fun m' hm=>⟨(),rfl,(ar.ae [] rfl rfl) m' hm⟩
theorem lV (n:Nat) (x1:Int) (x2:Int) (x3:Int) (x4:Int) (x5:Int) (x6:Int)  (r:Int) (hF:wh n x1 x2 x3 x4 x5 x6=some r) (m:AMem)  :
 aN bj 55 [.agg #[.int .i64 x1,.int .i64 x2],.agg #[.int .i64 x3,.int .i64 x4],.agg #[.int .i64 x5,.int .i64 x6]] m (fun v m'=>∃_:Unit,v = .int .i64 r∧Hp m m' []):=by
 unfold wh at hF
 refine cT (m0:=m) (ps:=[]) (N:=30) (rs:=[.tmp 6]) rfl Tryz.func55 rfl rfl rfl (Hp.start m)<|Wk.seq<|Wk.region<|Wo.x (fx rfl) gn rfl fun b7=>?_
 refine Wo.x (fx rfl) gn rfl fun b8=>?_
 refine Wo.x (fx rfl) gn rfl fun b9=>?_
 refine Wo.od (aA rfl) rfl<|Wo.nil<|At.tn<|Wk.seq<|Wk.region<|Wo.od (aX (r:=ptr b8 0) rfl (bX _ _)) rfl<|Wo.od (aj (k:=1) du rfl rfl rfl) rfl<|Wo.od (aX (r:=ptr b7 0) rfl (bX _ _)) rfl<|Wo.od (aj (k:=2) du rfl rfl rfl) rfl<|Wo.od (ax rfl rfl (dC _ _ _)) rfl<|Wo.od (aX (r:=ptr b9 1) rfl (bW _ _)) rfl<|Wo.od (aj (k:=0) du rfl rfl rfl) rfl<|Wo.od (aX (r:=ptr b7 1) rfl (bW _ _)) rfl<|Wo.od (aj (k:=2) du rfl rfl rfl) rfl ?_
 refine Wo.od (ax rfl rfl (dC _ _ _)) rfl ?_
 obtain⟨y10,h11,hF⟩:=al hF
 refine Wo.od (ax rfl rfl ((gy _ _ _).trans (cI h11))) rfl<|Wo.od (aX (r:=ptr b8 1) rfl (bW _ _)) rfl<|Wo.od (aj (k:=1) du rfl rfl rfl) rfl<|Wo.od (aX (r:=ptr b7 1) rfl (bW _ _)) rfl<|Wo.od (aj (k:=2) du rfl rfl rfl) rfl<|Wo.od (ax rfl rfl (dC _ _ _)) rfl<|Wo.od (aX (r:=ptr b9 0) rfl (bX _ _)) rfl<|Wo.od (aj (k:=0) du rfl rfl rfl) rfl<|Wo.od (aX (r:=ptr b7 0) rfl (bX _ _)) rfl<|Wo.od (aj (k:=2) du rfl rfl rfl) rfl ?_
 refine Wo.od (ax rfl rfl (dC _ _ _)) rfl ?_
 obtain⟨y12,h13,hF⟩:=al hF
 refine Wo.od (ax rfl rfl ((gy _ _ _).trans (cI h13))) rfl ?_
 obtain⟨r15,h14,hF⟩:=al hF
 refine Wo.x (dT rfl rfl (fun m hm=>qb n y10 y12  _ h14 m) fun _=>rfl) gn rfl ?_
 rintro⟨⟩
 refine Wo.od (aA rfl) rfl<|Wo.nil<|At.tn<|Wk.ret ?_
 have hr:=Option.some.inj hF
 subst r
 exact At.ret (.tmp rfl .nil) fun m' hm=>⟨(),rfl,(ar.ae [] rfl rfl) m' hm⟩
theorem xH (n:Nat) (l1:List (Int)) (a2:Option Addr) (c3:Nat) (r:Int) (hF:yQ n l1=some r) (m:AMem) (h4:Rd m a2 c3 1 l1.length (l1.map (eI .i64))) :
 aN bj 82 [.slice a2 l1.length c3] m (fun v m'=>∃_:Unit,v = .int .i64 r∧Hp m m' []):=by
 unfold yQ at hF
 refine cT (m0:=m) (ps:=[.rd a2 c3 1 l1.length (l1.map (eI .i64))]) (N:=18) (rs:=[.tmp 2]) rfl Tryz.func82 rfl rfl rfl ((Hp.start m).z1 rfl h4)<|Wk.seq<|Wk.region<|Wo.od (aA rfl) rfl<|Wo.nil<|At.tn<|Wk.seq<|Wk.region<|Wo.od (aA rfl) rfl<|Wo.nil<|At.tn<|Wk.seq<|Wk.seq<|Wk.region<|Wo.od (ah rfl) rfl<|Wo.od (zR (k:=0) zP rfl rfl (.inl rfl)) rfl<|Wo.od (ah rfl) rfl<|Wo.nil<|At.tn<|Wk.block ?_
 obtain⟨r24,h23,hF⟩:=al hF
 refine Wk.cut (G:=(fun(r:(Int) ⊕ (Unit)) (g:Unit)=>match r,g with | .inl v15,_=>⟨.ret,[(2,.int .i64 v15)],[]⟩ | .inr _,_=>⟨(.exit 0),[(3,.int .i64 0)],[]⟩) r24) ?_ ?_
 ·refine Wk.uz (fs':=[(3,.int .i64 0),(6,.slice a2 l1.length c3),(7,.int .i64 (l1.length:Int)),(8,.int .i64 0)]) (ps':=[.rd a2 c3 1 l1.length (l1.map (eI .i64))]) (sc rfl (sc rfl (sc rfl (sc rfl sn)))) (ar.ae [0] rfl rfl) ?_
  refine Wk.loop (σ:=Int) (ρ:=(Int) ⊕ (Unit)) (γ:=Unit) (δ:=fun _=>Unit) _ (fun(s:Int) (g:Unit)=>match s,g with|v6,_=>⟨.normal,[(3,.int .i64 0),(6,.slice a2 l1.length c3),(7,.int .i64 (l1.length:Int)),(8,.int .i64 v6)],[.rd a2 c3 1 l1.length (l1.map (eI .i64))]⟩) (fun(r:(Int) ⊕ (Unit)) (g:Unit)=>match r,g with | .inl v15,_=>⟨.ret,[(2,.int .i64 v15)],[]⟩ | .inr _,_=>⟨(.exit 0),[(3,.int .i64 0)],[]⟩) ?_ (fun _ _=>rfl) (fun r d=>by rcases r with _|_<;>(intro e; cases e)) _ _ _ h23 ()
  clear hF h23;rintro v6 ⟨⟩ r hF;unfold jZ at hF;refine Wk.seq<|Wk.region<|Wo.od (ax rfl rfl (bN _ _ _)) rfl<|Wo.nil<|At.tn<|Wk.seq ?_;rcases ai hF with⟨h16,hF⟩|⟨h16,hF⟩
  ·refine Wk.bf rfl h16<|Wk.skip<|At.tn<|Wk.seq<|Wk.block<|Wk.seq<|Wk.region ?_;obtain⟨h17,hF⟩:=rv hF;replace h17:=pP h17;refine Wo.zp (k:=0) rfl (xJ h17) ?_;rintro b18 o19 rfl;refine Wo.og (yK xO rfl rfl h17) gn rfl ?_;obtain⟨x20,h21,hF⟩:=al hF;refine Wo.od (zo (k:=0) du rfl rfl (xQ h21) rfl rfl) rfl<|Wo.od (aA rfl) rfl<|Wo.nil<|At.tn<|Wk.seq<|Wk.region<|Wo.od (ah rfl) rfl<|Wo.od (ah rfl) rfl<|Wo.od (ax rfl rfl (ft _ _)) rfl<|Wo.nil<|At.tn ?_;rcases ai hF with⟨h22,hF⟩|⟨h22,hF⟩
   ·refine Wk.bf rfl h22<|Wk.seq<|Wk.region<|Wo.od (ah rfl) rfl<|Wo.od (aA rfl) rfl<|Wo.nil<|At.tn<|Wk.ret<|At.br<|At.tr ?_;cases hF;exact At.en () rfl (sc rfl sn) (ar.ae [] rfl rfl)
   ·refine Wk.bF rfl h22<|Wk.skip<|At.bn<|At.tn<|Wk.region<|Wo.od (ax rfl rfl (cf _ _ _)) rfl<|Wo.od (ah rfl) rfl<|Wo.nil ?_;cases hF;exact At.en () rfl (sc rfl (sc rfl (sc rfl (sc rfl sn)))) (ar.ae [1] rfl rfl)
  ·refine Wk.bF rfl h16<|Wk.exit<|At.te ?_;cases hF;exact At.en () rfl (sc rfl sn) (ar.ae [] rfl rfl)
 ·clear h23
  rcases r24 with v15|_
  ·rintro⟨⟩;refine At.br<|At.tr ?_;have hr:=Option.some.inj hF;subst r;exact At.ret (.tmp rfl .nil) fun m' hm=>⟨(),rfl,(ar.ae [] rfl rfl) m' hm⟩
  ·rintro⟨⟩;refine At.be<|At.tn<|Wk.seq<|Wk.region<|Wo.od (ah rfl) rfl<|Wo.od (aA rfl) rfl<|Wo.nil<|At.tn<|Wk.ret ?_;cases hF;exact At.ret (.tmp rfl .nil) fun m' hm=>⟨(),rfl,(ar.ae [] rfl rfl) m' hm⟩
theorem p9 (n:Nat) (x1:Int) (x2:Int) (x3:Int) (x4:Int)  (r:Int) (hF:vJ n x1 x2 x3 x4=some r) (m:AMem)  :
 aN bj 52 [.agg #[.int .i64 x1,.int .i64 x2],.agg #[.int .i64 x3,.int .i64 x4]] m (fun v m'=>∃_:Unit,v = .int .i64 r∧Hp m m' []):=by
 unfold vJ at hF
 refine cT (m0:=m) (ps:=[]) (N:=17) (rs:=[.tmp 4]) rfl Tryz.func52 rfl rfl rfl (Hp.start m)<|Wk.seq<|Wk.region<|Wo.x (fx rfl) gn rfl fun b5=>?_
 refine Wo.x (fx rfl) gn rfl fun b6=>?_
 refine Wo.od (aA rfl) rfl<|Wo.nil<|At.tn<|Wk.seq<|Wk.rp (prs:=[(4,6),(4,8)]) (by kernel_rfl)<|Wn.od (aX (r:=ptr b5 0) rfl (bX _ _)) rfl<|Wn.od (aj (k:=1) du rfl rfl rfl) rfl<|Wn.od (aX (r:=ptr b6 0) rfl (bX _ _)) rfl<|Wn.od (aj (k:=0) du rfl rfl rfl) rfl ?_
 obtain⟨r8,h7,hF⟩:=al hF
 refine Wn.c (pF rfl rfl (fun m hm=>qb n x1 x3  _ h7 m) fun _=>rfl) gn rfl ?_
 rintro⟨⟩
 refine Wn.od (aX (r:=ptr b5 1) rfl (bW _ _)) rfl<|Wn.od (aj (k:=1) du rfl rfl rfl) rfl<|Wn.od (aX (r:=ptr b6 1) rfl (bW _ _)) rfl<|Wn.od (aj (k:=0) du rfl rfl rfl) rfl ?_
 obtain⟨r10,h9,hF⟩:=al hF
 refine Wn.c (pF rfl rfl (fun m hm=>qb n x2 x4  _ h9 m) fun _=>rfl) gn rfl ?_
 rintro⟨⟩
 refine Wn.x (zQ (es:=([r8,r10]:List (Int)).map (eI .i64)) xO rfl (zA xO z3 rfl rfl) rfl rfl) gn rfl fun b11=>?_
 obtain⟨r13,h12,hF⟩:=al hF
 refine Wn.c (pF rfl rfl (fun m hm=>xH n ([r8,r10]) (some ⟨b11,0,none⟩) 2 _ h12 m (hm.rd (k:=0) rfl (.arr _ _ _ _ _))) fun _=>rfl) gn rfl ?_
 rintro⟨⟩
 refine Wn.od (aA rfl) rfl<|Wn.nil (fun m hm=>k6.all rfl)<|At.tn<|Wk.ret ?_
 have hr:=Option.some.inj hF
 subst r
 exact At.ret (.tmp rfl .nil) fun m' hm=>⟨(),rfl,(ar.ae [] rfl rfl) m' hm⟩
theorem uu (n:Nat) (x1:Int) (x2:Int) (x3:Int) (x4:Int) (x5:Int) (x6:Int) (x7:Int)  (r:Bool) (hF:sR n x1 x2 x3 x4 x5 x6 x7=some r) (m:AMem)  :
 aN bj 64 [.agg #[.int .i64 x1,.int .i64 x2,.int .i64 x3,.int .i64 x4,.int .i64 x5],.agg #[.int .i64 x6,.int .i64 x7]] m (fun v m'=>∃_:Unit,v = .bool r∧Hp m m' []):=by
 unfold sR at hF
 refine cT (m0:=m) (ps:=[]) (N:=34) (rs:=[.tmp 4]) rfl Tryz.func64 rfl rfl rfl (Hp.start m)<|Wk.seq<|Wk.region<|Wo.x (fx rfl) gn rfl fun b8=>?_
 refine Wo.x (fx rfl) gn rfl fun b9=>?_
 refine Wo.od (aA rfl) rfl<|Wo.nil<|At.tn<|Wk.seq<|Wk.seq<|Wk.region<|Wo.od (aX (r:=ptr b8 1) rfl (eF _ _)) rfl<|Wo.od (aj (k:=1) aB rfl rfl rfl) rfl<|Wo.od (aX (r:=ptr b8 3) rfl (eD _ _)) rfl<|Wo.od (aj (k:=1) aB rfl rfl rfl) rfl<|Wo.od (aj (k:=0) aB rfl rfl rfl) rfl ?_
 obtain⟨r11,h10,hF⟩:=al hF
 refine Wo.x (dT rfl rfl (fun m hm=>lV n x2 x3 x4 x5 x6 x7  _ h10 m) fun _=>rfl) gn rfl ?_
 rintro⟨⟩
 refine Wo.od (ax rfl rfl (ft _ _)) rfl<|Wo.nil<|At.tn ?_
 rcases ai hF with⟨h12,hF⟩|⟨h12,hF⟩
 ·refine Wk.bf rfl h12<|Wk.seq<|Wk.region<|Wo.od (aA rfl) rfl<|Wo.nil<|At.tn<|Wk.ret<|At.tr ?_
  cases hF;exact At.ret (.tmp rfl .nil) fun m' hm=>⟨(),rfl,(ar.ae [] rfl rfl) m' hm⟩
 ·refine Wk.bF rfl h12<|Wk.skip<|At.tn<|Wk.seq<|Wk.rp (prs:=[(3,6)]) (by kernel_rfl)<|Wn.od (aX (r:=ptr b8 1) rfl (eF _ _)) rfl<|Wn.od (aj (k:=1) aB rfl rfl rfl) rfl<|Wn.od (aX (r:=ptr b8 3) rfl (eD _ _)) rfl<|Wn.Ae rfl (aj (k:=1) aB rfl rfl rfl) rfl<|Wn.x (pO z33 rfl) gn rfl fun b13=>?_
  refine Wn.x (pO z33 rfl) gn rfl fun b14=>?_;refine Wn.Af rfl (je (k:=1) aB rfl rfl rfl rfl rfl)<|Wn.o0 (je (k:=0) aB rfl rfl rfl rfl rfl)<|Wn.nil (fun m hm=>(k6.rw rfl rfl rfl (hm.ne (i:=3) (j:=1) rfl rfl rfl rfl (by decide) rfl) k6.nil))<|At.tn<|Wk.seq ?_
  obtain⟨r26,h25,hF⟩:=al hF;refine Wk.cut (G:=(fun(r:Int × Int × Int × Int) (g:Unit)=>match r,g with | (v18,v19,v20,v21),_=>⟨.normal,[(3,ptr b9 0),(5,ptr b13 0),(6,ptr b14 0)],[.obj b9 (.cells [.int .i64 x6,.int .i64 x7] .own),.obj b13 (.cells [.int .i64 v18,.int .i64 v19] .own),.obj b14 (.cells [.int .i64 v20,.int .i64 v21] .own)]⟩) r26) ?_ ?_
  ·clear hF;revert r26;intro r hF;refine Wk.seq<|Wk.region<|Wo.od (aj (k:=1) aB rfl rfl rfl) rfl<|Wo.od (aj (k:=0) aB rfl rfl rfl) rfl ?_;obtain⟨r23,h22,hF⟩:=al hF;refine Wo.x (dT rfl rfl (fun m hm=>p9 n x2 x3 x4 x5  _ h22 m) fun _=>rfl) gn rfl ?_;rintro⟨⟩;refine Wo.od (ax rfl rfl (iT _ _ _)) rfl<|Wo.nil<|At.tn ?_;rcases ai hF with⟨h24,hF⟩|⟨h24,hF⟩
   ·refine Wk.bf rfl h24<|Wk.region<|Wo.od (aj (k:=0) aB rfl rfl rfl) rfl<|Wo.od (aj (k:=1) aB rfl rfl rfl) rfl<|Wo.o0 (je (k:=1) aB rfl rfl rfl rfl rfl)<|Wo.o0 (je (k:=0) aB rfl rfl rfl rfl rfl)<|Wo.nil ?_;cases hF;exact At.en () rfl (sc rfl (sc rfl (sc rfl sn))) (ar.ae [2,1,0] rfl rfl)
   ·refine Wk.bF rfl h24<|Wk.skip ?_;cases hF;exact At.en () rfl (sc rfl (sc rfl (sc rfl sn))) (ar.ae [2,1,0] rfl rfl)
  ·clear h25;obtain⟨v18,v19,v20,v21⟩:=r26;rintro⟨⟩;refine At.tn<|Wk.seq<|Wk.region<|Wo.od (aj (k:=1) aB rfl rfl rfl) rfl<|Wo.od (aj (k:=0) aB rfl rfl rfl) rfl ?_;obtain⟨r28,h27,hF⟩:=al hF;refine Wo.x (dT rfl rfl (fun m hm=>p9 n v18 v19 x6 x7  _ h27 m) fun _=>rfl) gn rfl ?_;rintro⟨⟩;refine Wo.od (ax rfl rfl (c9 _ _ _)) rfl<|Wo.od (ah rfl) rfl ?_;rcases ai hF with⟨h29,hF⟩|⟨h29,hF⟩
   ·refine Wo.og (aj (k:=0) aB rfl rfl rfl) (gg rfl rfl (cx h29)) rfl<|Wo.og (aj (k:=2) aB rfl rfl rfl) (gg rfl rfl (cx h29)) rfl ?_;obtain⟨r31,h30,hF⟩:=al hF;refine Wo.x (dT rfl rfl (fun m hm=>p9 n x6 x7 v20 v21  _ h30 m) fun _=>rfl) (gg rfl rfl (cx h29)) rfl ?_;rintro⟨⟩;refine Wo.og (ax rfl rfl (c9 _ _ _)) (gg rfl rfl (cx h29)) rfl<|Wo.od (cX rfl h29 rfl) rfl<|Wo.od (aA rfl) rfl<|Wo.nil<|At.tn<|Wk.ret ?_;cases hF;exact At.ret (.tmp rfl .nil) fun m' hm=>⟨(),rfl,(ar.ae [] rfl rfl) m' hm⟩
   ·refine Wo.s (gg rfl rfl (cu h29)) rfl<|Wo.s (gg rfl rfl (cu h29)) rfl<|Wo.s (gg rfl rfl (cu h29)) rfl<|Wo.s (gg rfl rfl (cu h29)) rfl<|Wo.od (cW rfl h29 rfl) rfl<|Wo.od (aA rfl) rfl<|Wo.nil<|At.tn<|Wk.ret ?_;cases hF;exact At.ret (.tmp rfl .nil) fun m' hm=>⟨(),rfl,(ar.ae [] rfl rfl) m' hm⟩
theorem xS (n:Nat) (x9:Int) (x1:Int) (x2:Int) (x3:Int) (x4:Int) (x10:Int) (x5:Int) (x6:Int) (x7:Int) (x8:Int)  (r:Int) (hF:yP n x9 x1 x2 x3 x4 x10 x5 x6 x7 x8=some r) (m:AMem)  :
 aN bj 61 [.agg #[.int .i64 x9,.int .i64 x1,.int .i64 x2,.int .i64 x3,.int .i64 x4],.agg #[.int .i64 x10,.int .i64 x5,.int .i64 x6,.int .i64 x7,.int .i64 x8]] m (fun v m'=>∃_:Unit,v = .int .i64 r∧Hp m m' []):=by
 unfold yP at hF
 refine cT (m0:=m) (ps:=[]) (N:=83) (rs:=[.tmp 4]) rfl Tryz.func61 rfl rfl rfl (Hp.start m)<|Wk.seq<|Wk.region<|Wo.x (fx rfl) gn rfl fun b0=>?_
 refine Wo.x (fx rfl) gn rfl fun b1=>?_
 refine Wo.od (aA rfl) rfl<|Wo.nil<|At.tn<|Wk.seq<|Wk.rp (prs:=[(6,8),(6,10),(6,12)]) (by kernel_rfl)<|Wn.od (aX (r:=ptr b0 1) rfl (eF _ _)) rfl<|Wn.od (aj (k:=1) aB rfl rfl rfl) rfl<|Wn.od (aX (r:=ptr b0 3) rfl (eD _ _)) rfl<|Wn.od (aj (k:=1) aB rfl rfl rfl) rfl<|Wn.od (aX (r:=ptr b1 1) rfl (eF _ _)) rfl<|Wn.od (aj (k:=0) aB rfl rfl rfl) rfl ?_
 obtain⟨r0,h12,hF⟩:=al hF
 refine Wn.c (pF rfl rfl (fun m hm=>lV n x1 x2 x3 x4 x5 x6  _ h12 m) fun _=>rfl) gn rfl ?_
 rintro⟨⟩
 refine Wn.od (aX (r:=ptr b0 1) rfl (eF _ _)) rfl<|Wn.od (aj (k:=1) aB rfl rfl rfl) rfl<|Wn.od (aX (r:=ptr b0 3) rfl (eD _ _)) rfl<|Wn.od (aj (k:=1) aB rfl rfl rfl) rfl<|Wn.od (aX (r:=ptr b1 3) rfl (eD _ _)) rfl<|Wn.od (aj (k:=0) aB rfl rfl rfl) rfl ?_
 obtain⟨r1,h13,hF⟩:=al hF
 refine Wn.c (pF rfl rfl (fun m hm=>lV n x1 x2 x3 x4 x7 x8  _ h13 m) fun _=>rfl) gn rfl ?_
 rintro⟨⟩
 refine Wn.od (aA rfl) rfl<|Wn.od (aA rfl) rfl<|Wn.nil (fun m hm=>k6.all rfl)<|At.tn<|Wk.seq<|Wk.rp (prs:=[(6,8),(6,10),(6,12)]) (by kernel_rfl)<|Wn.od (aX (r:=ptr b1 1) rfl (eF _ _)) rfl<|Wn.od (aj (k:=0) aB rfl rfl rfl) rfl<|Wn.od (aX (r:=ptr b1 3) rfl (eD _ _)) rfl<|Wn.od (aj (k:=0) aB rfl rfl rfl) rfl<|Wn.od (aX (r:=ptr b0 1) rfl (eF _ _)) rfl<|Wn.od (aj (k:=1) aB rfl rfl rfl) rfl ?_
 obtain⟨r2,h14,hF⟩:=al hF
 refine Wn.c (pF rfl rfl (fun m hm=>lV n x5 x6 x7 x8 x1 x2  _ h14 m) fun _=>rfl) gn rfl ?_
 rintro⟨⟩
 refine Wn.od (aX (r:=ptr b1 1) rfl (eF _ _)) rfl<|Wn.od (aj (k:=0) aB rfl rfl rfl) rfl<|Wn.od (aX (r:=ptr b1 3) rfl (eD _ _)) rfl<|Wn.od (aj (k:=0) aB rfl rfl rfl) rfl<|Wn.od (aX (r:=ptr b0 3) rfl (eD _ _)) rfl<|Wn.od (aj (k:=1) aB rfl rfl rfl) rfl ?_
 obtain⟨r3,h15,hF⟩:=al hF
 refine Wn.c (pF rfl rfl (fun m hm=>lV n x5 x6 x7 x8 x3 x4  _ h15 m) fun _=>rfl) gn rfl ?_
 rintro⟨⟩
 refine Wn.od (aA rfl) rfl<|Wn.od (aA rfl) rfl<|Wn.nil (fun m hm=>k6.all rfl)<|At.tn<|Wk.seq<|Wk.region<|Wo.x zI gn rfl fun b2=>?_
 refine Wo.od (aA rfl) rfl<|Wo.nil<|At.tn<|Wk.seq<|Wk.seq<|Wk.region<|Wo.od (aX (r:=ptr b0 1) rfl (eF _ _)) rfl<|Wo.od (aj (k:=2) aB rfl rfl rfl) rfl<|Wo.od (aX (r:=ptr b0 3) rfl (eD _ _)) rfl<|Wo.od (aj (k:=2) aB rfl rfl rfl) rfl<|Wo.od (aX (r:=ptr b1 1) rfl (eF _ _)) rfl<|Wo.od (aj (k:=1) aB rfl rfl rfl) rfl<|Wo.od (aX (r:=ptr b1 3) rfl (eD _ _)) rfl<|Wo.od (aj (k:=1) aB rfl rfl rfl) rfl<|Wo.od (kk rfl z41 rfl (j7 zE rfl rfl rfl)) rfl ?_
 refine Wo.od (ah rfl) rfl<|Wo.nil<|At.tn<|Wk.block ?_
 obtain⟨l0,h3,hF⟩:=al hF
 refine Wk.cut (G:=(fun(r:List ((Int × Int) × Bool)) (g:Unit)=>match r,g with|l0,_=>⟨(.exit 0),[(5,.int .i64 r0),(6,.int .i64 r1),(7,.int .i64 r2),(8,.int .i64 r3),(9,.map (some b2))],[.obj b2 (.map (l0.map (eM (fun p:Int × Int=>.agg #[.int .i64 p.1,.int .i64 p.2]) (fun b:Bool=>.bool b))))]⟩) l0) ?_ ?_
 ·refine Wk.uz (fs':=[(2,ptr b0 0),(3,ptr b1 0),(5,.int .i64 r0),(6,.int .i64 r1),(7,.int .i64 r2),(8,.int .i64 r3),(9,.map (some b2)),(49,.agg #[.int .i64 x1,.int .i64 x2,.int .i64 x3,.int .i64 x4,.int .i64 x5,.int .i64 x6,.int .i64 x7,.int .i64 x8]),(50,.int .i64 0)]) (ps':=[.obj b0 (.cells [.int .i64 x9,.int .i64 x1,.int .i64 x2,.int .i64 x3,.int .i64 x4] .own),.obj b1 (.cells [.int .i64 x10,.int .i64 x5,.int .i64 x6,.int .i64 x7,.int .i64 x8] .own),.obj b2 (.map (([]:List ((Int × Int) × Bool)).map (eM (fun p:Int × Int=>.agg #[.int .i64 p.1,.int .i64 p.2]) (fun b:Bool=>.bool b))))]) (sc rfl (sc rfl (sc rfl (sc rfl (sc rfl (sc rfl (sc rfl (sc rfl (sc rfl sn))))))))) (ar.ae [2,1,0] rfl rfl) ?_
  refine Wk.loop (σ:=List ((Int × Int) × Bool) × Int) (ρ:=List ((Int × Int) × Bool)) (γ:=Unit) (δ:=fun _=>Unit) _ (fun(s:List ((Int × Int) × Bool) × Int) (g:Unit)=>match s,g with | (l1,v0),_=>⟨.normal,[(2,ptr b0 0),(3,ptr b1 0),(5,.int .i64 r0),(6,.int .i64 r1),(7,.int .i64 r2),(8,.int .i64 r3),(9,.map (some b2)),(49,.agg #[.int .i64 x1,.int .i64 x2,.int .i64 x3,.int .i64 x4,.int .i64 x5,.int .i64 x6,.int .i64 x7,.int .i64 x8]),(50,.int .i64 v0)],[.obj b0 (.cells [.int .i64 x9,.int .i64 x1,.int .i64 x2,.int .i64 x3,.int .i64 x4] .own),.obj b1 (.cells [.int .i64 x10,.int .i64 x5,.int .i64 x6,.int .i64 x7,.int .i64 x8] .own),.obj b2 (.map (l1.map (eM (fun p:Int × Int=>.agg #[.int .i64 p.1,.int .i64 p.2]) (fun b:Bool=>.bool b))))]⟩) (fun(r:List ((Int × Int) × Bool)) (g:Unit)=>match r,g with|l0,_=>⟨(.exit 0),[(5,.int .i64 r0),(6,.int .i64 r1),(7,.int .i64 r2),(8,.int .i64 r3),(9,.map (some b2))],[.obj b2 (.map (l0.map (eM (fun p:Int × Int=>.agg #[.int .i64 p.1,.int .i64 p.2]) (fun b:Bool=>.bool b))))]⟩) ?_ (fun _ _=>rfl) (fun r d=>by intro e; cases e) _ _ _ h3 ()
  clear hF h3;rintro⟨l1,v0⟩ ⟨⟩ r hF;unfold jX at hF;refine Wk.seq<|Wk.region<|Wo.od (ax rfl rfl (bN _ _ _)) rfl<|Wo.nil<|At.tn<|Wk.seq ?_;rcases ai hF with⟨h4,hF⟩|⟨h4,hF⟩
  ·refine Wk.bf rfl h4<|Wk.skip<|At.tn<|Wk.seq ?_;obtain⟨l2,h16,hF⟩:=al hF;refine Wk.cut (G:=(fun(r:List ((Int × Int) × Bool)) (g:Unit)=>match r,g with|l2,_=>⟨.normal,[(2,ptr b0 0),(3,ptr b1 0),(5,.int .i64 r0),(6,.int .i64 r1),(7,.int .i64 r2),(8,.int .i64 r3),(9,.map (some b2)),(49,.agg #[.int .i64 x1,.int .i64 x2,.int .i64 x3,.int .i64 x4,.int .i64 x5,.int .i64 x6,.int .i64 x7,.int .i64 x8]),(50,.int .i64 v0)],[.obj b0 (.cells [.int .i64 x9,.int .i64 x1,.int .i64 x2,.int .i64 x3,.int .i64 x4] .own),.obj b1 (.cells [.int .i64 x10,.int .i64 x5,.int .i64 x6,.int .i64 x7,.int .i64 x8] .own),.obj b2 (.map (l2.map (eM (fun p:Int × Int=>.agg #[.int .i64 p.1,.int .i64 p.2]) (fun b:Bool=>.bool b))))]⟩) l2) ?_ ?_
   ·clear hF;revert l2;intro r hF;refine Wk.block<|Wk.seq<|Wk.region ?_;obtain⟨h17,hF⟩:=rv hF;obtain⟨⟨x11,x12⟩,h0,hF⟩:=al hF;refine Wo.x (yZ (α:=Unit) (V:=fun g=>match g with|_=>.agg #[.int .i64 x11,.int .i64 x12]) (N:=fun g=>match g with|_=>[]++[.obj b0 (.cells [.int .i64 x9,.int .i64 x1,.int .i64 x2,.int .i64 x3,.int .i64 x4] .own),.obj b1 (.cells [.int .i64 x10,.int .i64 x5,.int .i64 x6,.int .i64 x7,.int .i64 x8] .own),.obj b2 (.map (l1.map (eM (fun p:Int × Int=>.agg #[.int .i64 p.1,.int .i64 p.2]) (fun b:Bool=>.bool b))))]) rfl rfl (fun m hm=>?_)) gn rfl ?_
    ·have hj:=pP h17;obtain⟨j,h11⟩:∃j:Nat,(v0:Int)=j:=⟨_,(Int.toNat_of_nonneg hj.1).symm⟩;rw[h11] at h0 hj ⊢;rw[Int.toNat_natCast] at h0 hj;replace hj:=hj.2;clear hF h11
     match j,hj,h0 with
     | 0,_,h0=>cases h0; exact⟨(),qA cg (i:=0) (by decide) (gY aB rfl),hm⟩
     | 1,_,h0=>cases h0; exact⟨(),qA cg (i:=1) (by decide) (gY aB rfl),hm⟩
     | 2,_,h0=>cases h0; exact⟨(),qA cg (i:=2) (by decide) (gY aB rfl),hm⟩
     | 3,_,h0=>cases h0; exact⟨(),qA cg (i:=3) (by decide) (gY aB rfl),hm⟩
     | _+4,hj,_=>exact absurd hj (by omega)
    rintro⟨⟩;refine Wo.x (pO z33 rfl) gn rfl fun b3=>?_;refine Wo.o0 (je (k:=0) aB rfl rfl rfl rfl rfl)<|Wo.nil<|At.tn<|Wk.seq ?_;obtain⟨v1,h18,hF⟩:=al hF;refine Wk.cut (G:=(fun(r:Bool) (g:Unit)=>match r,g with|v1,_=>⟨.normal,[(2,ptr b0 0),(3,ptr b1 0),(5,.int .i64 r0),(6,.int .i64 r1),(7,.int .i64 r2),(8,.int .i64 r3),(9,.map (some b2)),(11,ptr b3 0),(49,.agg #[.int .i64 x1,.int .i64 x2,.int .i64 x3,.int .i64 x4,.int .i64 x5,.int .i64 x6,.int .i64 x7,.int .i64 x8]),(50,.int .i64 v0),(60,.bool v1)],[.obj b0 (.cells [.int .i64 x9,.int .i64 x1,.int .i64 x2,.int .i64 x3,.int .i64 x4] .own),.obj b1 (.cells [.int .i64 x10,.int .i64 x5,.int .i64 x6,.int .i64 x7,.int .i64 x8] .own),.obj b2 (.map (l1.map (eM (fun p:Int × Int=>.agg #[.int .i64 p.1,.int .i64 p.2]) (fun b:Bool=>.bool b)))),.obj b3 (.cells [.int .i64 x11,.int .i64 x12] .own)]⟩) v1) ?_ ?_
    ·clear hF;revert v1;intro r hF;refine Wk.region<|Wo.od (aj (k:=1) zn rfl rfl rfl) rfl<|Wo.od (aj (k:=0) aB rfl rfl rfl) rfl ?_;obtain⟨r4,h19,hF⟩:=al hF;refine Wo.x (dT rfl rfl (fun m hm=>uu n x9 x1 x2 x3 x4 x11 x12  _ h19 m) fun _=>rfl) gn rfl ?_;rintro⟨⟩;refine Wo.od (ah rfl) rfl ?_;rcases ai hF with⟨h2,hF⟩|⟨h2,hF⟩
     ·refine Wo.og (aj (k:=2) zn rfl rfl rfl) (gg rfl rfl (cx h2)) rfl<|Wo.og (aj (k:=0) aB rfl rfl rfl) (gg rfl rfl (cx h2)) rfl ?_;obtain⟨r5,h20,hF⟩:=al hF;refine Wo.x (dT rfl rfl (fun m hm=>uu n x10 x5 x6 x7 x8 x11 x12  _ h20 m) fun _=>rfl) (gg rfl rfl (cx h2)) rfl ?_;rintro⟨⟩;refine Wo.od (cX rfl h2 rfl) rfl<|Wo.nil ?_;have hr:=Option.some.inj hF;subst r;exact At.en () rfl (sc rfl (sc rfl (sc rfl (sc rfl (sc rfl (sc rfl (sc rfl (sc rfl (sc rfl (sc rfl (sc rfl sn))))))))))) (ar.ae [1,2,3,0] rfl rfl)
     ·refine Wo.s (gg rfl rfl (cu h2)) rfl<|Wo.s (gg rfl rfl (cu h2)) rfl<|Wo.s (gg rfl rfl (cu h2)) rfl<|Wo.od (cW rfl h2 rfl) rfl<|Wo.nil ?_;cases hF;exact At.en () rfl (sc rfl (sc rfl (sc rfl (sc rfl (sc rfl (sc rfl (sc rfl (sc rfl (sc rfl (sc rfl (sc rfl sn))))))))))) (ar.ae [1,2,3,0] rfl rfl)
    ·clear h18;rintro⟨⟩;refine At.tn ?_;rcases ai hF with⟨h5,hF⟩|⟨h5,hF⟩
     ·refine Wk.bf rfl h5<|Wk.region<|Wo.od (ah rfl) rfl<|Wo.od (aj (k:=3) aB rfl rfl rfl) rfl<|Wo.o0 (zD (q:=2) (xs:=l1) (k:=(x11,x12)) (v:=true) (vE:=(fun b:Bool=>.bool b)) yd (yX wV) rfl rfl rfl rfl)<|Wo.nil<|At.bn ?_;cases hF;exact At.en () rfl (sc rfl (sc rfl (sc rfl (sc rfl (sc rfl (sc rfl (sc rfl (sc rfl (sc rfl sn))))))))) (ar.ae [0,1,2] rfl rfl)
     ·refine Wk.bF rfl h5<|Wk.skip<|At.bn ?_;have hr:=Option.some.inj hF;subst r;exact At.en () rfl (sc rfl (sc rfl (sc rfl (sc rfl (sc rfl (sc rfl (sc rfl (sc rfl (sc rfl sn))))))))) (ar.ae [0,1,2] rfl rfl)
   ·clear h16;rintro⟨⟩;refine At.tn<|Wk.region<|Wo.od (ax rfl rfl (cf _ _ _)) rfl<|Wo.od (ah rfl) rfl<|Wo.nil ?_;cases hF;exact At.en () rfl (sc rfl (sc rfl (sc rfl (sc rfl (sc rfl (sc rfl (sc rfl (sc rfl (sc rfl sn))))))))) (ar.ae [0,1,2] rfl rfl)
  ·refine Wk.bF rfl h4<|Wk.exit<|At.te ?_;cases hF;exact At.en () rfl (sc rfl (sc rfl (sc rfl (sc rfl (sc rfl sn))))) (ar.ae [2] rfl rfl)
 ·clear h3
  rintro⟨⟩;refine At.be<|At.tn<|Wk.seq<|Wk.block<|Wk.seq<|Wk.region<|Wo.od (ah rfl) rfl ?_;obtain⟨y0,h6,hF⟩:=al hF;replace h6:=Option.some.inj h6;refine Wo.od (tN (q:=0) (xs:=l0) yd rfl rfl h6) rfl<|Wo.od (ax rfl rfl (iT _ _ _)) rfl<|Wo.od (aA rfl) rfl<|Wo.nil<|At.tn ?_;rcases ai hF with⟨h7,hF⟩|⟨h7,hF⟩
  ·refine Wk.bf rfl h7<|Wk.seq<|Wk.region<|Wo.od (aA rfl) rfl<|Wo.nil<|At.tn<|Wk.ret<|At.br<|At.tr ?_;cases hF;exact At.ret (.tmp rfl .nil) fun m' hm=>⟨(),rfl,(ar.ae [] rfl rfl) m' hm⟩
  ·refine Wk.bF rfl h7<|Wk.seq<|Wk.region<|Wo.od (ah rfl) rfl ?_;obtain⟨y1,h8,hF⟩:=al hF;replace h8:=Option.some.inj h8;refine Wo.od (tN (q:=0) (xs:=l0) yd rfl rfl h8) rfl<|Wo.od (ax rfl rfl (bT _ _ _)) rfl<|Wo.od (aA rfl) rfl<|Wo.nil<|At.tn ?_;rcases ai hF with⟨h9,hF⟩|⟨h9,hF⟩
   ·refine Wk.bf rfl h9<|Wk.seq<|Wk.region<|Wo.od (aA rfl) rfl<|Wo.nil<|At.tn<|Wk.ret<|At.br<|At.tr ?_;cases hF;exact At.ret (.tmp rfl .nil) fun m' hm=>⟨(),rfl,(ar.ae [] rfl rfl) m' hm⟩
   ·refine Wk.bF rfl h9<|Wk.seq ?_;obtain⟨v2,h21,hF⟩:=al hF;refine Wk.cut (G:=(fun(r:Bool) (g:Unit)=>match r,g with|v2,_=>⟨.normal,[(72,.bool v2)],[]⟩) v2) ?_ ?_
    ·clear hF;revert v2;intro r hF;refine Wk.region<|Wo.od (ah rfl) rfl<|Wo.od (ah rfl) rfl<|Wo.od (ax rfl rfl (gy _ _ _)) rfl<|Wo.od (ax rfl rfl (bN _ _ _)) rfl<|Wo.od (ah rfl) rfl ?_;rcases ai hF with⟨h1,hF⟩|⟨h1,hF⟩
     ·refine Wo.og (ah rfl) (gg rfl rfl (cx h1)) rfl<|Wo.og (ah rfl) (gg rfl rfl (cx h1)) rfl<|Wo.og (ax rfl rfl (gy _ _ _)) (gg rfl rfl (cx h1)) rfl<|Wo.og (ax rfl rfl (bN _ _ _)) (gg rfl rfl (cx h1)) rfl<|Wo.od (cX rfl h1 rfl) rfl<|Wo.od (aA rfl) rfl<|Wo.nil ?_;cases hF;exact At.en () rfl (sc rfl sn) (ar.ae [] rfl rfl)
     ·refine Wo.s (gg rfl rfl (cu h1)) rfl<|Wo.s (gg rfl rfl (cu h1)) rfl<|Wo.s (gg rfl rfl (cu h1)) rfl<|Wo.s (gg rfl rfl (cu h1)) rfl<|Wo.od (cW rfl h1 rfl) rfl<|Wo.od (aA rfl) rfl<|Wo.nil ?_;cases hF;exact At.en () rfl (sc rfl sn) (ar.ae [] rfl rfl)
    ·clear h21;rintro⟨⟩;refine At.tn ?_;rcases ai hF with⟨h10,hF⟩|⟨h10,hF⟩
     ·refine Wk.bf rfl h10<|Wk.seq<|Wk.region<|Wo.od (aA rfl) rfl<|Wo.nil<|At.tn<|Wk.ret<|At.br<|At.tr ?_;cases hF;exact At.ret (.tmp rfl .nil) fun m' hm=>⟨(),rfl,(ar.ae [] rfl rfl) m' hm⟩
     ·refine Wk.bF rfl h10<|Wk.skip<|At.bn<|At.tn<|Wk.seq<|Wk.region<|Wo.od (aA rfl) rfl<|Wo.nil<|At.tn<|Wk.ret ?_;cases hF;exact At.ret (.tmp rfl .nil) fun m' hm=>⟨(),rfl,(ar.ae [] rfl rfl) m' hm⟩
theorem mX (n:Nat) (x1:Int) (x2:Int) (x3:Int) (x4:Int) (x5:Int) (x6:Int) (x7:Int) (x8:Int)  (r:Int × Int) (hF:xp n x1 x2 x3 x4 x5 x6 x7 x8=some r) (m:AMem)  :
 aN bj 16 [.agg #[.int .i64 x1,.int .i64 x2],.agg #[.int .i64 x3,.int .i64 x4],.agg #[.int .i64 x5,.int .i64 x6],.agg #[.int .i64 x7,.int .i64 x8]] m (fun v m'=>∃_:Unit,v = .tuple #[.int .i64 r.1,.int .i64 r.2]∧Hp m m' []):=by
 unfold xp at hF
 refine cT (m0:=m) (ps:=[]) (N:=41) (rs:=[.tmp 8,.tmp 9]) rfl Tryz.func16 rfl rfl rfl (Hp.start m)<|Wk.seq<|Wk.region<|Wo.x (fx rfl) gn rfl fun b9=>?_
 refine Wo.x (fx rfl) gn rfl fun b10=>?_
 refine Wo.x (fx rfl) gn rfl fun b11=>?_
 refine Wo.x (fx rfl) gn rfl fun b12=>?_
 refine Wo.od (aA rfl) rfl<|Wo.od (aA rfl) rfl<|Wo.nil<|At.tn<|Wk.seq<|Wk.seq ?_
 obtain⟨v56,h70,hF⟩:=al hF
 refine Wk.cut (G:=(fun(r:Bool) (g:Unit)=>match r,g with|v56,_=>⟨.normal,[(4,ptr b9 0),(5,ptr b10 0),(6,ptr b11 0),(7,ptr b12 0),(33,.bool v56)],[.obj b9 (.cells [.int .i64 x1,.int .i64 x2] .own),.obj b10 (.cells [.int .i64 x3,.int .i64 x4] .own),.obj b11 (.cells [.int .i64 x5,.int .i64 x6] .own),.obj b12 (.cells [.int .i64 x7,.int .i64 x8] .own)]⟩) v56) ?_ ?_
 ·clear hF
  revert v56;intro r hF;refine Wk.region<|Wo.od (aj (k:=3) aB rfl rfl rfl) rfl ?_;obtain⟨r58,h57,hF⟩:=al hF;refine Wo.x (dT rfl rfl (fun m hm=>nP n x1 x2  _ h57 m) fun _=>rfl) gn rfl ?_;rintro⟨⟩;refine Wo.od (ah rfl) rfl ?_;rcases ai hF with⟨h59,hF⟩|⟨h59,hF⟩
  ·refine Wo.s (gg rfl rfl (eo h59)) rfl<|Wo.s (gg rfl rfl (eo h59)) rfl<|Wo.od (cX rfl h59 rfl) rfl<|Wo.od (ah rfl) rfl<|Wo.s (gg rfl rfl rfl) rfl<|Wo.s (gg rfl rfl rfl) rfl<|Wo.od (iI rfl rfl) rfl<|Wo.od (ah rfl) rfl<|Wo.s (gg rfl rfl rfl) rfl<|Wo.s (gg rfl rfl rfl) rfl ?_;refine Wo.od (iI rfl rfl) rfl<|Wo.od (ah rfl) rfl<|Wo.s (gg rfl rfl rfl) rfl<|Wo.s (gg rfl rfl rfl) rfl<|Wo.s (gg rfl rfl rfl) rfl<|Wo.od (iI rfl rfl) rfl<|Wo.od (ah rfl) rfl<|Wo.s (gg rfl rfl rfl) rfl<|Wo.s (gg rfl rfl rfl) rfl<|Wo.s (gg rfl rfl rfl) rfl ?_;refine Wo.od (iI rfl rfl) rfl<|Wo.nil ?_;cases hF;exact At.en () rfl (sc rfl (sc rfl (sc rfl (sc rfl (sc rfl sn))))) (ar.ae [3,2,1,0] rfl rfl)
  ·refine Wo.og (aj (k:=2) aB rfl rfl rfl) (gg rfl rfl (dX h59)) rfl ?_;obtain⟨r61,h60,hF⟩:=al hF;refine Wo.x (dT rfl rfl (fun m hm=>nP n x3 x4  _ h60 m) fun _=>rfl) (gg rfl rfl (dX h59)) rfl ?_;rintro⟨⟩;refine Wo.od (cW rfl h59 rfl) rfl<|Wo.od (ah rfl) rfl ?_;rcases ai hF with⟨h62,hF⟩|⟨h62,hF⟩
   ·refine Wo.s (gg rfl rfl (eo h62)) rfl<|Wo.s (gg rfl rfl (eo h62)) rfl<|Wo.od (cX rfl h62 rfl) rfl<|Wo.od (ah rfl) rfl<|Wo.s (gg rfl rfl rfl) rfl<|Wo.s (gg rfl rfl rfl) rfl<|Wo.od (iI rfl rfl) rfl<|Wo.od (ah rfl) rfl<|Wo.s (gg rfl rfl rfl) rfl<|Wo.s (gg rfl rfl rfl) rfl ?_;refine Wo.s (gg rfl rfl rfl) rfl<|Wo.od (iI rfl rfl) rfl<|Wo.od (ah rfl) rfl<|Wo.s (gg rfl rfl rfl) rfl<|Wo.s (gg rfl rfl rfl) rfl<|Wo.s (gg rfl rfl rfl) rfl<|Wo.od (iI rfl rfl) rfl<|Wo.nil ?_;cases hF;exact At.en () rfl (sc rfl (sc rfl (sc rfl (sc rfl (sc rfl sn))))) (ar.ae [3,2,1,0] rfl rfl)
   ·refine Wo.og (aj (k:=1) aB rfl rfl rfl) (gg rfl rfl (dX h62)) rfl ?_;obtain⟨r64,h63,hF⟩:=al hF;refine Wo.x (dT rfl rfl (fun m hm=>nP n x5 x6  _ h63 m) fun _=>rfl) (gg rfl rfl (dX h62)) rfl ?_;rintro⟨⟩;refine Wo.od (cW rfl h62 rfl) rfl<|Wo.od (ah rfl) rfl ?_;rcases ai hF with⟨h65,hF⟩|⟨h65,hF⟩
    ·refine Wo.s (gg rfl rfl (eo h65)) rfl<|Wo.s (gg rfl rfl (eo h65)) rfl<|Wo.od (cX rfl h65 rfl) rfl<|Wo.od (ah rfl) rfl<|Wo.s (gg rfl rfl rfl) rfl<|Wo.s (gg rfl rfl rfl) rfl<|Wo.s (gg rfl rfl rfl) rfl<|Wo.od (iI rfl rfl) rfl<|Wo.od (ah rfl) rfl<|Wo.s (gg rfl rfl rfl) rfl ?_;refine Wo.s (gg rfl rfl rfl) rfl<|Wo.s (gg rfl rfl rfl) rfl<|Wo.od (iI rfl rfl) rfl<|Wo.nil ?_;cases hF;exact At.en () rfl (sc rfl (sc rfl (sc rfl (sc rfl (sc rfl sn))))) (ar.ae [3,2,1,0] rfl rfl)
    ·refine Wo.og (aj (k:=0) aB rfl rfl rfl) (gg rfl rfl (dX h65)) rfl ?_;obtain⟨r67,h66,hF⟩:=al hF;refine Wo.x (dT rfl rfl (fun m hm=>nP n x7 x8  _ h66 m) fun _=>rfl) (gg rfl rfl (dX h65)) rfl ?_;rintro⟨⟩;refine Wo.od (cW rfl h65 rfl) rfl<|Wo.od (ah rfl) rfl ?_;rcases ai hF with⟨h68,hF⟩|⟨h68,hF⟩
     ·refine Wo.s (gg rfl rfl (eo h68)) rfl<|Wo.s (gg rfl rfl (eo h68)) rfl<|Wo.s (gg rfl rfl (eo h68)) rfl<|Wo.od (cX rfl h68 rfl) rfl<|Wo.od (ah rfl) rfl<|Wo.s (gg rfl rfl rfl) rfl<|Wo.s (gg rfl rfl rfl) rfl<|Wo.s (gg rfl rfl rfl) rfl<|Wo.od (iI rfl rfl) rfl<|Wo.nil ?_;cases hF;exact At.en () rfl (sc rfl (sc rfl (sc rfl (sc rfl (sc rfl sn))))) (ar.ae [3,2,1,0] rfl rfl)
     ·refine Wo.og (aj (k:=3) aB rfl rfl rfl) (gg rfl rfl (dX h68)) rfl<|Wo.og (aj (k:=2) aB rfl rfl rfl) (gg rfl rfl (dX h68)) rfl<|Wo.og (ax rfl rfl (j4 pL (oZ _ _ _ _))) (gg rfl rfl (dX h68)) rfl<|Wo.od (cW rfl h68 rfl) rfl<|Wo.od (ah rfl) rfl ?_;rcases ai hF with⟨h69,hF⟩|⟨h69,hF⟩
      ·refine Wo.s (gg rfl rfl (eo h69)) rfl<|Wo.s (gg rfl rfl (eo h69)) rfl<|Wo.s (gg rfl rfl (eo h69)) rfl<|Wo.od (cX rfl h69 rfl) rfl<|Wo.nil ?_;cases hF;exact At.en () rfl (sc rfl (sc rfl (sc rfl (sc rfl (sc rfl sn))))) (ar.ae [3,2,1,0] rfl rfl)
      ·refine Wo.og (aj (k:=1) aB rfl rfl rfl) (gg rfl rfl (dX h69)) rfl<|Wo.og (aj (k:=0) aB rfl rfl rfl) (gg rfl rfl (dX h69)) rfl<|Wo.og (ax rfl rfl (j4 pL (oZ _ _ _ _))) (gg rfl rfl (dX h69)) rfl<|Wo.od (cW rfl h69 rfl) rfl<|Wo.nil ?_;cases hF;exact At.en () rfl (sc rfl (sc rfl (sc rfl (sc rfl (sc rfl sn))))) (ar.ae [3,2,1,0] rfl rfl)
 ·clear h70
  rintro⟨⟩;refine At.tn ?_;rcases ai hF with⟨h72,hF⟩|⟨h72,hF⟩
  ·refine Wk.bf rfl h72<|Wk.seq<|Wk.region<|Wo.od (aA rfl) rfl<|Wo.od (aA rfl) rfl<|Wo.nil<|At.tn<|Wk.ret<|At.tr ?_;cases hF;exact At.ret (.tmp rfl (.tmp rfl .nil)) fun m' hm=>⟨(),rfl,(ar.ae [] rfl rfl) m' hm⟩
  ·refine Wk.bF rfl h72<|Wk.skip<|At.tn<|Wk.seq<|Wk.region<|Wo.od (aj (k:=0) aB rfl rfl rfl) rfl<|Wo.od (aj (k:=1) aB rfl rfl rfl) rfl<|Wo.od (kk rfl zY rfl (j7 yV rfl rfl rfl)) rfl<|Wo.od (aj (k:=2) aB rfl rfl rfl) rfl<|Wo.od (aj (k:=3) aB rfl rfl rfl) rfl<|Wo.od (kk rfl zY rfl (j7 yV rfl rfl rfl)) rfl ?_;obtain⟨r74,h73,hF⟩:=al hF;refine Wo.x (dT rfl rfl (fun m hm=>xS n 0 x1 x2 x3 x4 0 x5 x6 x7 x8  _ h73 m) fun _=>rfl) gn rfl ?_;rintro⟨⟩;refine Wo.od (aA rfl) rfl<|Wo.od (aA rfl) rfl<|Wo.nil<|At.tn<|Wk.ret ?_;cases hF;exact At.ret (.tmp rfl (.tmp rfl .nil)) fun m' hm=>⟨(),rfl,(ar.ae [] rfl rfl) m' hm⟩
theorem tK (n:Nat) (x1:Int) (x2:Int) (x3:Int) (x4:Int) (x5:Int) (x6:Int)  (r:Bool) (hF:yG n x1 x2 x3 x4 x5 x6=some r) (m:AMem)  :
 aN bj 25 [.agg #[.int .i64 x1,.int .i64 x2],.agg #[.int .i64 x3,.int .i64 x4],.agg #[.int .i64 x5,.int .i64 x6]] m (fun v m'=>∃_:Unit,v = .bool r∧Hp m m' []):=by
 unfold yG at hF
 refine cT (m0:=m) (ps:=[]) (N:=70) (rs:=[.tmp 6]) rfl Tryz.func25 rfl rfl rfl (Hp.start m)<|Wk.seq<|Wk.region<|Wo.x (fx rfl) gn rfl fun b7=>?_
 refine Wo.x (fx rfl) gn rfl fun b8=>?_
 refine Wo.x (fx rfl) gn rfl fun b9=>?_
 refine Wo.od (aA rfl) rfl<|Wo.nil<|At.tn<|Wk.seq<|Wk.region<|Wo.od (aX (r:=ptr b8 0) rfl (bX _ _)) rfl<|Wo.od (aj (k:=1) du rfl rfl rfl) rfl<|Wo.od (aX (r:=ptr b7 0) rfl (bX _ _)) rfl<|Wo.od (aj (k:=2) du rfl rfl rfl) rfl<|Wo.od (ax rfl rfl (dC _ _ _)) rfl<|Wo.od (aX (r:=ptr b9 1) rfl (bW _ _)) rfl<|Wo.od (aj (k:=0) du rfl rfl rfl) rfl<|Wo.od (aX (r:=ptr b7 1) rfl (bW _ _)) rfl<|Wo.od (aj (k:=2) du rfl rfl rfl) rfl ?_
 refine Wo.od (ax rfl rfl (dC _ _ _)) rfl ?_
 obtain⟨y10,h11,hF⟩:=al hF
 refine Wo.od (ax rfl rfl ((gy _ _ _).trans (cI h11))) rfl<|Wo.od (aX (r:=ptr b8 1) rfl (bW _ _)) rfl<|Wo.od (aj (k:=1) du rfl rfl rfl) rfl<|Wo.od (aX (r:=ptr b7 1) rfl (bW _ _)) rfl<|Wo.od (aj (k:=2) du rfl rfl rfl) rfl<|Wo.od (ax rfl rfl (dC _ _ _)) rfl<|Wo.od (aX (r:=ptr b9 0) rfl (bX _ _)) rfl<|Wo.od (aj (k:=0) du rfl rfl rfl) rfl<|Wo.od (aX (r:=ptr b7 0) rfl (bX _ _)) rfl<|Wo.od (aj (k:=2) du rfl rfl rfl) rfl ?_
 refine Wo.od (ax rfl rfl (dC _ _ _)) rfl ?_
 obtain⟨y12,h13,hF⟩:=al hF
 refine Wo.od (ax rfl rfl ((gy _ _ _).trans (cI h13))) rfl<|Wo.od (ax rfl rfl (bT _ _ _)) rfl<|Wo.od (ah rfl) rfl ?_
 rcases ai hF with⟨h14,hF⟩|⟨h14,hF⟩
 ·refine Wo.og (aX (r:=ptr b7 0) rfl (bX _ _)) (gg rfl rfl (cx h14)) rfl<|Wo.og (aj (k:=2) du rfl rfl rfl) (gg rfl rfl (cx h14)) rfl<|Wo.og (aX (r:=ptr b8 0) rfl (bX _ _)) (gg rfl rfl (cx h14)) rfl<|Wo.og (aj (k:=1) du rfl rfl rfl) (gg rfl rfl (cx h14)) rfl<|Wo.og (sy rfl rfl (uJ _ _)) (gg rfl rfl (cx h14)) rfl<|Wo.og (aX (r:=ptr b9 0) rfl (bX _ _)) (gg rfl rfl (cx h14)) rfl<|Wo.og (aj (k:=0) du rfl rfl rfl) (gg rfl rfl (cx h14)) rfl<|Wo.og (ax rfl rfl (c9 _ _ _)) (gg rfl rfl (cx h14)) rfl<|Wo.od (cX rfl h14 rfl) rfl<|Wo.od (ah rfl) rfl ?_
  rcases ai hF with⟨h15,hF⟩|⟨h15,hF⟩
  ·refine Wo.og (aX (r:=ptr b9 0) rfl (bX _ _)) (gg rfl rfl (cx h15)) rfl<|Wo.og (aj (k:=0) du rfl rfl rfl) (gg rfl rfl (cx h15)) rfl<|Wo.og (aX (r:=ptr b7 0) rfl (bX _ _)) (gg rfl rfl (cx h15)) rfl<|Wo.og (aj (k:=2) du rfl rfl rfl) (gg rfl rfl (cx h15)) rfl<|Wo.og (aX (r:=ptr b8 0) rfl (bX _ _)) (gg rfl rfl (cx h15)) rfl<|Wo.og (aj (k:=1) du rfl rfl rfl) (gg rfl rfl (cx h15)) rfl<|Wo.og (sy rfl rfl (wY _ _)) (gg rfl rfl (cx h15)) rfl<|Wo.og (ax rfl rfl (c9 _ _ _)) (gg rfl rfl (cx h15)) rfl<|Wo.od (cX rfl h15 rfl) rfl<|Wo.od (ah rfl) rfl ?_;rcases ai hF with⟨h16,hF⟩|⟨h16,hF⟩
   ·refine Wo.og (aX (r:=ptr b7 1) rfl (bW _ _)) (gg rfl rfl (cx h16)) rfl<|Wo.og (aj (k:=2) du rfl rfl rfl) (gg rfl rfl (cx h16)) rfl<|Wo.og (aX (r:=ptr b8 1) rfl (bW _ _)) (gg rfl rfl (cx h16)) rfl<|Wo.og (aj (k:=1) du rfl rfl rfl) (gg rfl rfl (cx h16)) rfl<|Wo.og (sy rfl rfl (uJ _ _)) (gg rfl rfl (cx h16)) rfl<|Wo.og (aX (r:=ptr b9 1) rfl (bW _ _)) (gg rfl rfl (cx h16)) rfl<|Wo.og (aj (k:=0) du rfl rfl rfl) (gg rfl rfl (cx h16)) rfl<|Wo.og (ax rfl rfl (c9 _ _ _)) (gg rfl rfl (cx h16)) rfl<|Wo.od (cX rfl h16 rfl) rfl<|Wo.od (ah rfl) rfl ?_;rcases ai hF with⟨h17,hF⟩|⟨h17,hF⟩
    ·refine Wo.og (aX (r:=ptr b9 1) rfl (bW _ _)) (gg rfl rfl (cx h17)) rfl<|Wo.og (aj (k:=0) du rfl rfl rfl) (gg rfl rfl (cx h17)) rfl<|Wo.og (aX (r:=ptr b7 1) rfl (bW _ _)) (gg rfl rfl (cx h17)) rfl<|Wo.og (aj (k:=2) du rfl rfl rfl) (gg rfl rfl (cx h17)) rfl<|Wo.og (aX (r:=ptr b8 1) rfl (bW _ _)) (gg rfl rfl (cx h17)) rfl<|Wo.og (aj (k:=1) du rfl rfl rfl) (gg rfl rfl (cx h17)) rfl<|Wo.og (sy rfl rfl (wY _ _)) (gg rfl rfl (cx h17)) rfl<|Wo.og (ax rfl rfl (c9 _ _ _)) (gg rfl rfl (cx h17)) rfl<|Wo.od (cX rfl h17 rfl) rfl<|Wo.od (aA rfl) rfl ?_;refine Wo.nil<|At.tn<|Wk.ret ?_;cases hF;exact At.ret (.tmp rfl .nil) fun m' hm=>⟨(),rfl,(ar.ae [] rfl rfl) m' hm⟩
    ·refine Wo.s (gg rfl rfl (cu h17)) rfl<|Wo.s (gg rfl rfl (cu h17)) rfl<|Wo.s (gg rfl rfl (cu h17)) rfl<|Wo.s (gg rfl rfl (cu h17)) rfl<|Wo.s (gg rfl rfl (cu h17)) rfl<|Wo.s (gg rfl rfl (cu h17)) rfl<|Wo.s (gg rfl rfl (cu h17)) rfl<|Wo.s (gg rfl rfl (cu h17)) rfl<|Wo.od (cW rfl h17 rfl) rfl<|Wo.od (aA rfl) rfl ?_;refine Wo.nil<|At.tn<|Wk.ret ?_;cases hF;exact At.ret (.tmp rfl .nil) fun m' hm=>⟨(),rfl,(ar.ae [] rfl rfl) m' hm⟩
   ·refine Wo.s (gg rfl rfl (cu h16)) rfl<|Wo.s (gg rfl rfl (cu h16)) rfl<|Wo.s (gg rfl rfl (cu h16)) rfl<|Wo.s (gg rfl rfl (cu h16)) rfl<|Wo.s (gg rfl rfl (cu h16)) rfl<|Wo.s (gg rfl rfl (cu h16)) rfl<|Wo.s (gg rfl rfl (cu h16)) rfl<|Wo.s (gg rfl rfl (cu h16)) rfl<|Wo.od (cW rfl h16 rfl) rfl<|Wo.od (ah rfl) rfl ?_;refine Wo.s (gg rfl rfl rfl) rfl<|Wo.s (gg rfl rfl rfl) rfl<|Wo.s (gg rfl rfl rfl) rfl<|Wo.s (gg rfl rfl rfl) rfl<|Wo.s (gg rfl rfl rfl) rfl<|Wo.s (gg rfl rfl rfl) rfl<|Wo.s (gg rfl rfl rfl) rfl<|Wo.s (gg rfl rfl rfl) rfl<|Wo.od (j9 rfl rfl) rfl<|Wo.od (aA rfl) rfl ?_;refine Wo.nil<|At.tn<|Wk.ret ?_;cases hF;exact At.ret (.tmp rfl .nil) fun m' hm=>⟨(),rfl,(ar.ae [] rfl rfl) m' hm⟩
  ·refine Wo.s (gg rfl rfl (cu h15)) rfl<|Wo.s (gg rfl rfl (cu h15)) rfl<|Wo.s (gg rfl rfl (cu h15)) rfl<|Wo.s (gg rfl rfl (cu h15)) rfl<|Wo.s (gg rfl rfl (cu h15)) rfl<|Wo.s (gg rfl rfl (cu h15)) rfl<|Wo.s (gg rfl rfl (cu h15)) rfl<|Wo.s (gg rfl rfl (cu h15)) rfl<|Wo.od (cW rfl h15 rfl) rfl<|Wo.od (ah rfl) rfl ?_;refine Wo.s (gg rfl rfl rfl) rfl<|Wo.s (gg rfl rfl rfl) rfl<|Wo.s (gg rfl rfl rfl) rfl<|Wo.s (gg rfl rfl rfl) rfl<|Wo.s (gg rfl rfl rfl) rfl<|Wo.s (gg rfl rfl rfl) rfl<|Wo.s (gg rfl rfl rfl) rfl<|Wo.s (gg rfl rfl rfl) rfl<|Wo.od (j9 rfl rfl) rfl<|Wo.od (ah rfl) rfl ?_;refine Wo.s (gg rfl rfl rfl) rfl<|Wo.s (gg rfl rfl rfl) rfl<|Wo.s (gg rfl rfl rfl) rfl<|Wo.s (gg rfl rfl rfl) rfl<|Wo.s (gg rfl rfl rfl) rfl<|Wo.s (gg rfl rfl rfl) rfl<|Wo.s (gg rfl rfl rfl) rfl<|Wo.s (gg rfl rfl rfl) rfl<|Wo.od (j9 rfl rfl) rfl<|Wo.od (aA rfl) rfl ?_;refine Wo.nil<|At.tn<|Wk.ret ?_;cases hF;exact At.ret (.tmp rfl .nil) fun m' hm=>⟨(),rfl,(ar.ae [] rfl rfl) m' hm⟩
 ·refine Wo.s (gg rfl rfl (cu h14)) rfl<|Wo.s (gg rfl rfl (cu h14)) rfl<|Wo.s (gg rfl rfl (cu h14)) rfl<|Wo.s (gg rfl rfl (cu h14)) rfl<|Wo.s (gg rfl rfl (cu h14)) rfl<|Wo.s (gg rfl rfl (cu h14)) rfl<|Wo.s (gg rfl rfl (cu h14)) rfl<|Wo.s (gg rfl rfl (cu h14)) rfl<|Wo.od (cW rfl h14 rfl) rfl<|Wo.od (ah rfl) rfl ?_
  refine Wo.s (gg rfl rfl rfl) rfl<|Wo.s (gg rfl rfl rfl) rfl<|Wo.s (gg rfl rfl rfl) rfl<|Wo.s (gg rfl rfl rfl) rfl<|Wo.s (gg rfl rfl rfl) rfl<|Wo.s (gg rfl rfl rfl) rfl<|Wo.s (gg rfl rfl rfl) rfl<|Wo.s (gg rfl rfl rfl) rfl<|Wo.od (j9 rfl rfl) rfl<|Wo.od (ah rfl) rfl ?_;refine Wo.s (gg rfl rfl rfl) rfl<|Wo.s (gg rfl rfl rfl) rfl<|Wo.s (gg rfl rfl rfl) rfl<|Wo.s (gg rfl rfl rfl) rfl<|Wo.s (gg rfl rfl rfl) rfl<|Wo.s (gg rfl rfl rfl) rfl<|Wo.s (gg rfl rfl rfl) rfl<|Wo.s (gg rfl rfl rfl) rfl<|Wo.od (j9 rfl rfl) rfl<|Wo.od (ah rfl) rfl ?_;refine Wo.s (gg rfl rfl rfl) rfl<|Wo.s (gg rfl rfl rfl) rfl<|Wo.s (gg rfl rfl rfl) rfl<|Wo.s (gg rfl rfl rfl) rfl<|Wo.s (gg rfl rfl rfl) rfl<|Wo.s (gg rfl rfl rfl) rfl<|Wo.s (gg rfl rfl rfl) rfl<|Wo.s (gg rfl rfl rfl) rfl<|Wo.od (j9 rfl rfl) rfl<|Wo.od (aA rfl) rfl ?_;refine Wo.nil<|At.tn<|Wk.ret ?_;cases hF;exact At.ret (.tmp rfl .nil) fun m' hm=>⟨(),rfl,(ar.ae [] rfl rfl) m' hm⟩
theorem zt (n:Nat) (x1:Int) (x2:Int) (x3:Int) (x4:Int) (x5:Int) (x6:Int) (x7:Int) (x8:Int)  (r:Bool) (hF:F6 n x1 x2 x3 x4 x5 x6 x7 x8=some r) (m:AMem)  :
 aN bj 6 [.agg #[.int .i8 x1,.int .i8 x2,.int .i8 x3,.int .i8 x4,.int .i8 x5,.int .i8 x6,.int .i8 x7,.int .i8 x8]] m (fun v m'=>∃_:Unit,v = .bool r∧Hp m m' []):=by
 unfold F6 at hF
 refine cT (m0:=m) (ps:=[]) (N:=197) (rs:=[.tmp 2]) rfl Tryz.func6 rfl rfl rfl (Hp.start m)<|Wk.seq<|Wk.region<|Wo.x (fx rfl) gn rfl fun b1=>?_
 refine Wo.od (aA rfl) rfl<|Wo.nil<|At.tn<|Wk.seq<|Wk.seq<|Wk.region ?_
 obtain⟨r6,h30,hF⟩:=al hF
 refine Wo.x (dT rfl rfl (fun m hm=>yA n   _ h30 m) fun _=>rfl) gn rfl ?_
 rintro⟨⟩
 refine Wo.od (tM rfl rfl) rfl<|Wo.nil<|At.tn ?_
 rcases ai hF with⟨h16,hF⟩|⟨h16,hF⟩
 ·refine Wk.bf rfl h16<|Wk.seq<|Wk.region<|Wo.od (aA rfl) rfl<|Wo.nil<|At.tn<|Wk.ret<|At.tr ?_
  cases hF;exact At.ret (.tmp rfl .nil) fun m' hm=>⟨(),rfl,(ar.ae [] rfl rfl) m' hm⟩
 ·refine Wk.bF rfl h16<|Wk.skip<|At.tn<|Wk.seq<|Wk.region<|Wo.x (pO z41 rfl) gn rfl fun b0=>?_
  refine Wo.nil<|At.tn<|Wk.seq<|Wk.seq<|Wk.region<|Wo.od (ah rfl) rfl<|Wo.nil<|At.tn<|Wk.block<|Wk.wX<|Wl.round<|Wk.seq<|Wk.region<|Wo.od (ax (r:=.bool true) rfl rfl ((bN _ _ _).trans rfl)) rfl<|Wo.nil<|At.tn<|Wk.seq<|Wk.bf rfl rfl<|Wk.skip<|At.tn<|Wk.seq<|Wk.block<|Wk.seq<|Wk.region<|Wo.od (ah rfl) rfl<|Wo.od (aA rfl) rfl<|Wo.nil<|At.tn<|Wk.draw (by kernel_rfl)<|Wo.od (ah rfl) rfl<|Wo.od (ah rfl) rfl ?_
  refine Wo.od (aT (r:=ptr b1 0) rfl rfl (aU o5 (i:=0) (by decide))) rfl<|Wo.od (aT (r:=ptr b1 0) rfl rfl (aU pS (i:=0) (by decide))) rfl<|Wo.od (aj (k:=1) oM rfl rfl rfl) rfl<|Wo.od (pC rfl (pM (by rw[xc]; rfl) u3)) rfl<|Wo.od (ax rfl rfl (gi _ _ (by decide))) rfl<|Wo.od (ah rfl) rfl<|Wo.od (aT (r:=ptr b1 0) rfl rfl (aU o5 (i:=0) (by decide))) rfl<|Wo.od (aT (r:=ptr b1 1) rfl rfl (aU pS (i:=1) (by decide))) rfl<|Wo.od (aj (k:=1) oM rfl rfl rfl) rfl<|Wo.od (pC rfl (pM (by rw[xc]; rfl) u3)) rfl ?_
  refine Wo.od (ax rfl rfl (gi _ _ (by decide))) rfl<|Wo.od (kk rfl z33 rfl (j7 uN rfl rfl rfl)) rfl<|Wo.od (aT (r:=ptr b0 0) rfl rfl (aU cg (i:=0) (by decide))) rfl<|Wo.o0 (je (k:=0) aB rfl rfl rfl rfl rfl)<|Wo.nil<|At.bn<|At.tn<|Wk.region<|Wo.od (ax (r:=.int .i64 1) rfl rfl ((cf _ _ _).trans rfl)) rfl<|Wo.od (ah rfl) rfl<|Wo.nil<|At.tl<|Wl.round<|Wk.seq<|Wk.region<|Wo.od (ax (r:=.bool true) rfl rfl ((bN _ _ _).trans rfl)) rfl<|Wo.nil<|At.tn<|Wk.seq<|Wk.bf rfl rfl ?_
  refine Wk.skip<|At.tn<|Wk.seq<|Wk.block<|Wk.seq<|Wk.region<|Wo.od (ah rfl) rfl<|Wo.od (aA rfl) rfl<|Wo.nil<|At.tn<|Wk.draw (by kernel_rfl)<|Wo.od (ah rfl) rfl<|Wo.od (ah rfl) rfl<|Wo.od (aT (r:=ptr b1 2) rfl rfl (aU o5 (i:=1) (by decide))) rfl<|Wo.od (aT (r:=ptr b1 2) rfl rfl (aU pS (i:=0) (by decide))) rfl<|Wo.od (aj (k:=1) oM rfl rfl rfl) rfl<|Wo.od (pC rfl (pM (by rw[xc]; rfl) u3)) rfl<|Wo.od (ax rfl rfl (gi _ _ (by decide))) rfl ?_
  refine Wo.od (ah rfl) rfl<|Wo.od (aT (r:=ptr b1 2) rfl rfl (aU o5 (i:=1) (by decide))) rfl<|Wo.od (aT (r:=ptr b1 3) rfl rfl (aU pS (i:=1) (by decide))) rfl<|Wo.od (aj (k:=1) oM rfl rfl rfl) rfl<|Wo.od (pC rfl (pM (by rw[xc]; rfl) u3)) rfl<|Wo.od (ax rfl rfl (gi _ _ (by decide))) rfl<|Wo.od (kk rfl z33 rfl (j7 uN rfl rfl rfl)) rfl<|Wo.od (aT (r:=ptr b0 2) rfl rfl (aU cg (i:=1) (by decide))) rfl<|Wo.o0 (je (k:=0) aB rfl rfl rfl rfl rfl)<|Wo.nil<|At.bn<|At.tn<|Wk.region<|Wo.od (ax (r:=.int .i64 2) rfl rfl ((cf _ _ _).trans rfl)) rfl ?_
  refine Wo.od (ah rfl) rfl<|Wo.nil<|At.tl<|Wl.round<|Wk.seq<|Wk.region<|Wo.od (ax (r:=.bool true) rfl rfl ((bN _ _ _).trans rfl)) rfl<|Wo.nil<|At.tn<|Wk.seq<|Wk.bf rfl rfl<|Wk.skip<|At.tn<|Wk.seq<|Wk.block<|Wk.seq<|Wk.region<|Wo.od (ah rfl) rfl<|Wo.od (aA rfl) rfl<|Wo.nil<|At.tn<|Wk.draw (by kernel_rfl)<|Wo.od (ah rfl) rfl<|Wo.od (ah rfl) rfl ?_
  refine Wo.od (aT (r:=ptr b1 4) rfl rfl (aU o5 (i:=2) (by decide))) rfl<|Wo.od (aT (r:=ptr b1 4) rfl rfl (aU pS (i:=0) (by decide))) rfl<|Wo.od (aj (k:=1) oM rfl rfl rfl) rfl<|Wo.od (pC rfl (pM (by rw[xc]; rfl) u3)) rfl<|Wo.od (ax rfl rfl (gi _ _ (by decide))) rfl<|Wo.od (ah rfl) rfl<|Wo.od (aT (r:=ptr b1 4) rfl rfl (aU o5 (i:=2) (by decide))) rfl<|Wo.od (aT (r:=ptr b1 5) rfl rfl (aU pS (i:=1) (by decide))) rfl<|Wo.od (aj (k:=1) oM rfl rfl rfl) rfl<|Wo.od (pC rfl (pM (by rw[xc]; rfl) u3)) rfl ?_
  refine Wo.od (ax rfl rfl (gi _ _ (by decide))) rfl<|Wo.od (kk rfl z33 rfl (j7 uN rfl rfl rfl)) rfl<|Wo.od (aT (r:=ptr b0 4) rfl rfl (aU cg (i:=2) (by decide))) rfl<|Wo.o0 (je (k:=0) aB rfl rfl rfl rfl rfl)<|Wo.nil<|At.bn<|At.tn<|Wk.region<|Wo.od (ax (r:=.int .i64 3) rfl rfl ((cf _ _ _).trans rfl)) rfl<|Wo.od (ah rfl) rfl<|Wo.nil<|At.tl<|Wl.round<|Wk.seq<|Wk.region<|Wo.od (ax (r:=.bool true) rfl rfl ((bN _ _ _).trans rfl)) rfl<|Wo.nil<|At.tn<|Wk.seq<|Wk.bf rfl rfl ?_
  refine Wk.skip<|At.tn<|Wk.seq<|Wk.block<|Wk.seq<|Wk.region<|Wo.od (ah rfl) rfl<|Wo.od (aA rfl) rfl<|Wo.nil<|At.tn<|Wk.draw (by kernel_rfl)<|Wo.od (ah rfl) rfl<|Wo.od (ah rfl) rfl<|Wo.od (aT (r:=ptr b1 6) rfl rfl (aU o5 (i:=3) (by decide))) rfl<|Wo.od (aT (r:=ptr b1 6) rfl rfl (aU pS (i:=0) (by decide))) rfl<|Wo.od (aj (k:=1) oM rfl rfl rfl) rfl<|Wo.od (pC rfl (pM (by rw[xc]; rfl) u3)) rfl<|Wo.od (ax rfl rfl (gi _ _ (by decide))) rfl ?_
  refine Wo.od (ah rfl) rfl<|Wo.od (aT (r:=ptr b1 6) rfl rfl (aU o5 (i:=3) (by decide))) rfl<|Wo.od (aT (r:=ptr b1 7) rfl rfl (aU pS (i:=1) (by decide))) rfl<|Wo.od (aj (k:=1) oM rfl rfl rfl) rfl<|Wo.od (pC rfl (pM (by rw[xc]; rfl) u3)) rfl<|Wo.od (ax rfl rfl (gi _ _ (by decide))) rfl<|Wo.od (kk rfl z33 rfl (j7 uN rfl rfl rfl)) rfl<|Wo.od (aT (r:=ptr b0 6) rfl rfl (aU cg (i:=3) (by decide))) rfl<|Wo.o0 (je (k:=0) aB rfl rfl rfl rfl rfl)<|Wo.nil<|At.bn<|At.tn<|Wk.region<|Wo.od (ax (r:=.int .i64 4) rfl rfl ((cf _ _ _).trans rfl)) rfl ?_
  refine Wo.od (ah rfl) rfl<|Wo.nil<|At.tl<|Wl.round<|Wk.seq<|Wk.region<|Wo.od (ax (r:=.bool false) rfl rfl ((bN _ _ _).trans rfl)) rfl<|Wo.nil<|At.tn<|Wk.seq<|Wk.bF rfl rfl<|Wk.exit<|At.te<|At.te<|At.be<|At.tn<|Wk.seq<|Wk.region<|Wo.od (aT (r:=ptr b0 0) rfl rfl (aU cg (i:=0) (by decide))) rfl<|Wo.od (aj (k:=0) aB rfl rfl rfl) rfl<|Wo.od (aT (r:=ptr b0 2) rfl rfl (aU cg (i:=1) (by decide))) rfl<|Wo.od (aj (k:=0) aB rfl rfl rfl) rfl ?_
  refine Wo.od (aT (r:=ptr b0 4) rfl rfl (aU cg (i:=2) (by decide))) rfl<|Wo.od (aj (k:=0) aB rfl rfl rfl) rfl<|Wo.od (aT (r:=ptr b0 6) rfl rfl (aU cg (i:=3) (by decide))) rfl<|Wo.od (aj (k:=0) aB rfl rfl rfl) rfl ?_
  obtain⟨⟨r0,r1⟩,h31,hF⟩:=al hF;refine Wo.x (dT rfl rfl (fun m hm=>mX n (Int.tmod (IntKind.wrap .i64 x1) 7) (Int.tmod (IntKind.wrap .i64 x2) 7) (Int.tmod (IntKind.wrap .i64 x3) 7) (Int.tmod (IntKind.wrap .i64 x4) 7) (Int.tmod (IntKind.wrap .i64 x5) 7) (Int.tmod (IntKind.wrap .i64 x6) 7) (Int.tmod (IntKind.wrap .i64 x7) 7) (Int.tmod (IntKind.wrap .i64 x8) 7)  _ h31 m) fun _=>rfl) gn rfl ?_;rintro⟨⟩;refine Wo.od (ah rfl) rfl<|Wo.od (oP rfl rfl) rfl<|Wo.od (oP rfl rfl) rfl<|Wo.od (aA rfl) rfl<|Wo.od (aA rfl) rfl<|Wo.nil<|At.tn<|Wk.seq<|Wk.seq ?_;obtain⟨r2,h32,hF⟩:=al hF;refine Wk.cut (G:=(fun(r:Int × Int × Int × Int × Int × Int × Int × Int × Bool) (g:Unit)=>match r,g with | (v0,v1,v2,v3,v4,v5,v6,v7,v23),_=>⟨.normal,[(3,ptr b0 0),(5,.int .i64 r0),(6,.int .i64 r1),(60,.bool v23)],[.obj b0 (.cells [.int .i64 v0,.int .i64 v1,.int .i64 v2,.int .i64 v3,.int .i64 v4,.int .i64 v5,.int .i64 v6,.int .i64 v7] .own)]⟩) r2) ?_ ?_
  ·clear hF;revert r2;intro r hF;refine Wk.region<|Wo.od (aT (r:=ptr b0 0) rfl rfl (aU cg (i:=0) (by decide))) rfl<|Wo.od (aj (k:=0) aB rfl rfl rfl) rfl<|Wo.od (aT (r:=ptr b0 2) rfl rfl (aU cg (i:=1) (by decide))) rfl<|Wo.od (aj (k:=0) aB rfl rfl rfl) rfl<|Wo.od (ax rfl rfl (j4 pL (oZ _ _ _ _))) rfl<|Wo.od (ah rfl) rfl ?_
   rcases ai hF with⟨h1,hF⟩|⟨h1,hF⟩
   ·refine Wo.s (gg rfl rfl (eo h1)) rfl<|Wo.s (gg rfl rfl (eo h1)) rfl<|Wo.s (gg rfl rfl (eo h1)) rfl<|Wo.s (gg rfl rfl (eo h1)) rfl<|Wo.s (gg rfl rfl (eo h1)) rfl<|Wo.od (cX rfl h1 rfl) rfl<|Wo.nil ?_;cases hF;exact At.en () rfl (sc rfl (sc rfl (sc rfl (sc rfl sn)))) (ar.ae [0] rfl rfl)
   ·refine Wo.og (aT (r:=ptr b0 4) rfl rfl (aU cg (i:=2) (by decide))) (gg rfl rfl (dX h1)) rfl<|Wo.og (aj (k:=0) aB rfl rfl rfl) (gg rfl rfl (dX h1)) rfl<|Wo.og (aT (r:=ptr b0 6) rfl rfl (aU cg (i:=3) (by decide))) (gg rfl rfl (dX h1)) rfl<|Wo.og (aj (k:=0) aB rfl rfl rfl) (gg rfl rfl (dX h1)) rfl<|Wo.og (ax rfl rfl (j4 pL (oZ _ _ _ _))) (gg rfl rfl (dX h1)) rfl<|Wo.od (cW rfl h1 rfl) rfl<|Wo.nil ?_
    cases hF;exact At.en () rfl (sc rfl (sc rfl (sc rfl (sc rfl sn)))) (ar.ae [0] rfl rfl)
  ·clear h32;obtain⟨v0,v1,v2,v3,v4,v5,v6,v7,v23⟩:=r2;rintro⟨⟩;refine At.tn ?_;rcases ai hF with⟨h17,hF⟩|⟨h17,hF⟩
   ·refine Wk.bf rfl h17<|Wk.seq<|Wk.region<|Wo.od (ah rfl) rfl<|Wo.od (ax rfl rfl (bT _ _ _)) rfl<|Wo.od (aA rfl) rfl<|Wo.nil<|At.tn<|Wk.ret<|At.tr ?_;cases hF;exact At.ret (.tmp rfl .nil) fun m' hm=>⟨(),rfl,(ar.ae [] rfl rfl) m' hm⟩
   ·refine Wk.bF rfl h17<|Wk.skip<|At.tn<|Wk.seq<|Wk.seq<|Wk.region<|Wo.od (kk rfl yF rfl (j7 xF rfl rfl rfl)) rfl<|Wo.od (kk rfl yF rfl (j7 xF rfl rfl rfl)) rfl<|Wo.od (kk rfl yF rfl (j7 xF rfl rfl rfl)) rfl<|Wo.od (kk rfl Ad rfl (j7 zF rfl rfl rfl)) rfl<|Wo.od (ah rfl) rfl<|Wo.nil<|At.tn<|Wk.block<|Wk.wX<|Wl.round<|Wk.seq<|Wk.region<|Wo.od (ax (r:=.bool true) rfl rfl ((bN _ _ _).trans rfl)) rfl<|Wo.nil<|At.tn<|Wk.seq<|Wk.bf rfl rfl ?_;refine Wk.skip<|At.tn<|Wk.seq<|Wk.block<|Wk.seq<|Wk.region<|Wo.od (yC rfl rfl (qA ye (i:=0) (by decide) (gY sq rfl))) rfl<|Wo.x (pO yF rfl) gn rfl fun b2=>?_
    refine Wo.o0 (je (k:=0) sq rfl rfl rfl rfl rfl)<|Wo.nil<|At.tn<|Wk.seq<|Wk.draw (by kernel_rfl)<|Wo.od (aT (r:=ptr b2 0) rfl rfl (aU ki (i:=0) (by decide))) rfl<|Wo.od (aj (k:=0) du rfl rfl rfl) rfl<|Wo.od (aT (r:=ptr b0 4) rfl rfl (aU cg (i:=2) (by decide))) rfl<|Wo.od (aj (k:=1) aB rfl rfl rfl) rfl<|Wo.od (aT (r:=ptr b2 1) rfl rfl (aU ki (i:=1) (by decide))) rfl<|Wo.od (aj (k:=0) du rfl rfl rfl) rfl<|Wo.od (aT (r:=ptr b0 6) rfl rfl (aU cg (i:=3) (by decide))) rfl<|Wo.od (aj (k:=1) aB rfl rfl rfl) rfl ?_
    refine Wo.od (aT (r:=ptr b2 2) rfl rfl (aU ki (i:=2) (by decide))) rfl<|Wo.od (aj (k:=0) du rfl rfl rfl) rfl<|Wo.od (aT (r:=ptr b0 0) rfl rfl (aU cg (i:=0) (by decide))) rfl<|Wo.od (aj (k:=1) aB rfl rfl rfl) rfl<|Wo.od (aT (r:=ptr b2 3) rfl rfl (aU ki (i:=3) (by decide))) rfl<|Wo.od (aj (k:=0) du rfl rfl rfl) rfl<|Wo.od (aT (r:=ptr b0 2) rfl rfl (aU cg (i:=1) (by decide))) rfl<|Wo.od (aj (k:=1) aB rfl rfl rfl) rfl ?_
    obtain⟨⟨r7,r8⟩,h33,hF⟩:=al hF;refine Wo.x (dT rfl rfl (fun m hm=>mX n v4 v5 v6 v7 v0 v1 v2 v3  _ h33 m) fun _=>rfl) gn rfl ?_;rintro⟨⟩;refine Wo.od (ah rfl) rfl<|Wo.od (oP rfl rfl) rfl<|Wo.od (oP rfl rfl) rfl<|Wo.od (aA rfl) rfl<|Wo.od (aA rfl) rfl<|Wo.nil<|At.tn<|Wk.seq ?_;obtain⟨v10,h34,hF⟩:=al hF;refine Wk.cut (G:=(fun(r:Bool) (g:Unit)=>match r,g with|v10,_=>⟨.normal,[(3,ptr b0 0),(5,.int .i64 r0),(6,.int .i64 r1),(66,.agg #[.int .i64 2,.int .i64 3,.int .i64 0,.int .i64 1,.int .i64 1,.int .i64 0,.int .i64 2,.int .i64 3,.int .i64 3,.int .i64 2,.int .i64 0,.int .i64 1]),(67,.int .i64 0),(97,.bool v10)],[.obj b0 (.cells [.int .i64 v0,.int .i64 v1,.int .i64 v2,.int .i64 v3,.int .i64 v4,.int .i64 v5,.int .i64 v6,.int .i64 v7] .own)]⟩) v10) ?_ ?_
    ·clear hF;revert v10;intro r hF;refine Wk.region<|Wo.od (ah rfl) rfl<|Wo.od (ah rfl) rfl<|Wo.od (ax rfl rfl (ft _ _)) rfl<|Wo.od (ah rfl) rfl ?_;rcases ai hF with⟨h5,hF⟩|⟨h5,hF⟩
     ·refine Wo.s (gg rfl rfl (eo h5)) rfl<|Wo.s (gg rfl rfl (eo h5)) rfl<|Wo.s (gg rfl rfl (eo h5)) rfl<|Wo.od (cX rfl h5 rfl) rfl<|Wo.nil ?_;cases hF;exact At.en () rfl (sc rfl (sc rfl (sc rfl (sc rfl (sc rfl (sc rfl sn)))))) (ar.ae [1] rfl rfl)
     ·refine Wo.og (ah rfl) (gg rfl rfl (dX h5)) rfl<|Wo.og (ah rfl) (gg rfl rfl (dX h5)) rfl<|Wo.og (ax rfl rfl (ft _ _)) (gg rfl rfl (dX h5)) rfl<|Wo.od (cW rfl h5 rfl) rfl<|Wo.nil ?_;cases hF;exact At.en () rfl (sc rfl (sc rfl (sc rfl (sc rfl (sc rfl (sc rfl sn)))))) (ar.ae [1] rfl rfl)
    ·clear h34;rintro⟨⟩;refine At.tn ?_;rcases ai hF with⟨h18,hF⟩|⟨h18,hF⟩
     ·refine Wk.bf rfl h18<|Wk.seq<|Wk.region<|Wo.od (aA rfl) rfl<|Wo.nil<|At.tn<|Wk.ret<|At.br<|At.tr<|At.tr<|At.br<|At.tr ?_;cases hF;exact At.ret (.tmp rfl .nil) fun m' hm=>⟨(),rfl,(ar.ae [] rfl rfl) m' hm⟩
     ·refine Wk.bF rfl h18<|Wk.skip<|At.bn<|At.tn<|Wk.region<|Wo.od (ax (r:=.int .i64 1) rfl rfl ((cf _ _ _).trans rfl)) rfl<|Wo.od (ah rfl) rfl<|Wo.nil<|At.tl<|Wl.round<|Wk.seq<|Wk.region<|Wo.od (ax (r:=.bool true) rfl rfl ((bN _ _ _).trans rfl)) rfl<|Wo.nil<|At.tn<|Wk.seq<|Wk.bf rfl rfl<|Wk.skip<|At.tn<|Wk.seq<|Wk.block<|Wk.seq<|Wk.region<|Wo.od (yC rfl rfl (qA ye (i:=1) (by decide) (gY sq rfl))) rfl<|Wo.x (pO yF rfl) gn rfl fun b3=>?_
      refine Wo.o0 (je (k:=0) sq rfl rfl rfl rfl rfl)<|Wo.nil<|At.tn<|Wk.seq<|Wk.draw (by kernel_rfl)<|Wo.od (aT (r:=ptr b3 0) rfl rfl (aU ki (i:=0) (by decide))) rfl<|Wo.od (aj (k:=0) du rfl rfl rfl) rfl<|Wo.od (aT (r:=ptr b0 2) rfl rfl (aU cg (i:=1) (by decide))) rfl<|Wo.od (aj (k:=1) aB rfl rfl rfl) rfl<|Wo.od (aT (r:=ptr b3 1) rfl rfl (aU ki (i:=1) (by decide))) rfl<|Wo.od (aj (k:=0) du rfl rfl rfl) rfl<|Wo.od (aT (r:=ptr b0 0) rfl rfl (aU cg (i:=0) (by decide))) rfl<|Wo.od (aj (k:=1) aB rfl rfl rfl) rfl ?_
      refine Wo.od (aT (r:=ptr b3 2) rfl rfl (aU ki (i:=2) (by decide))) rfl<|Wo.od (aj (k:=0) du rfl rfl rfl) rfl<|Wo.od (aT (r:=ptr b0 4) rfl rfl (aU cg (i:=2) (by decide))) rfl<|Wo.od (aj (k:=1) aB rfl rfl rfl) rfl<|Wo.od (aT (r:=ptr b3 3) rfl rfl (aU ki (i:=3) (by decide))) rfl<|Wo.od (aj (k:=0) du rfl rfl rfl) rfl<|Wo.od (aT (r:=ptr b0 6) rfl rfl (aU cg (i:=3) (by decide))) rfl<|Wo.od (aj (k:=1) aB rfl rfl rfl) rfl ?_
      obtain⟨⟨r9,r10⟩,h35,hF⟩:=al hF;refine Wo.x (dT rfl rfl (fun m hm=>mX n v2 v3 v0 v1 v4 v5 v6 v7  _ h35 m) fun _=>rfl) gn rfl ?_;rintro⟨⟩;refine Wo.od (ah rfl) rfl<|Wo.od (oP rfl rfl) rfl<|Wo.od (oP rfl rfl) rfl<|Wo.od (aA rfl) rfl<|Wo.od (aA rfl) rfl<|Wo.nil<|At.tn<|Wk.seq ?_;obtain⟨v11,h36,hF⟩:=al hF;refine Wk.cut (G:=(fun(r:Bool) (g:Unit)=>match r,g with|v11,_=>⟨.normal,[(3,ptr b0 0),(5,.int .i64 r0),(6,.int .i64 r1),(66,.agg #[.int .i64 2,.int .i64 3,.int .i64 0,.int .i64 1,.int .i64 1,.int .i64 0,.int .i64 2,.int .i64 3,.int .i64 3,.int .i64 2,.int .i64 0,.int .i64 1]),(67,.int .i64 1),(97,.bool v11)],[.obj b0 (.cells [.int .i64 v0,.int .i64 v1,.int .i64 v2,.int .i64 v3,.int .i64 v4,.int .i64 v5,.int .i64 v6,.int .i64 v7] .own)]⟩) v11) ?_ ?_
      ·clear hF;revert v11;intro r hF;refine Wk.region<|Wo.od (ah rfl) rfl<|Wo.od (ah rfl) rfl<|Wo.od (ax rfl rfl (ft _ _)) rfl<|Wo.od (ah rfl) rfl ?_;rcases ai hF with⟨h6,hF⟩|⟨h6,hF⟩
       ·refine Wo.s (gg rfl rfl (eo h6)) rfl<|Wo.s (gg rfl rfl (eo h6)) rfl<|Wo.s (gg rfl rfl (eo h6)) rfl<|Wo.od (cX rfl h6 rfl) rfl<|Wo.nil ?_;cases hF;exact At.en () rfl (sc rfl (sc rfl (sc rfl (sc rfl (sc rfl (sc rfl sn)))))) (ar.ae [1] rfl rfl)
       ·refine Wo.og (ah rfl) (gg rfl rfl (dX h6)) rfl<|Wo.og (ah rfl) (gg rfl rfl (dX h6)) rfl<|Wo.og (ax rfl rfl (ft _ _)) (gg rfl rfl (dX h6)) rfl<|Wo.od (cW rfl h6 rfl) rfl<|Wo.nil ?_;cases hF;exact At.en () rfl (sc rfl (sc rfl (sc rfl (sc rfl (sc rfl (sc rfl sn)))))) (ar.ae [1] rfl rfl)
      ·clear h36;rintro⟨⟩;refine At.tn ?_;rcases ai hF with⟨h19,hF⟩|⟨h19,hF⟩
       ·refine Wk.bf rfl h19<|Wk.seq<|Wk.region<|Wo.od (aA rfl) rfl<|Wo.nil<|At.tn<|Wk.ret<|At.br<|At.tr<|At.tr<|At.br<|At.tr ?_;cases hF;exact At.ret (.tmp rfl .nil) fun m' hm=>⟨(),rfl,(ar.ae [] rfl rfl) m' hm⟩
       ·refine Wk.bF rfl h19<|Wk.skip<|At.bn<|At.tn<|Wk.region<|Wo.od (ax (r:=.int .i64 2) rfl rfl ((cf _ _ _).trans rfl)) rfl<|Wo.od (ah rfl) rfl<|Wo.nil<|At.tl<|Wl.round<|Wk.seq<|Wk.region<|Wo.od (ax (r:=.bool true) rfl rfl ((bN _ _ _).trans rfl)) rfl<|Wo.nil<|At.tn<|Wk.seq<|Wk.bf rfl rfl<|Wk.skip<|At.tn<|Wk.seq<|Wk.block<|Wk.seq<|Wk.region<|Wo.od (yC rfl rfl (qA ye (i:=2) (by decide) (gY sq rfl))) rfl<|Wo.x (pO yF rfl) gn rfl fun b4=>?_
        refine Wo.o0 (je (k:=0) sq rfl rfl rfl rfl rfl)<|Wo.nil<|At.tn<|Wk.seq<|Wk.draw (by kernel_rfl)<|Wo.od (aT (r:=ptr b4 0) rfl rfl (aU ki (i:=0) (by decide))) rfl<|Wo.od (aj (k:=0) du rfl rfl rfl) rfl<|Wo.od (aT (r:=ptr b0 6) rfl rfl (aU cg (i:=3) (by decide))) rfl<|Wo.od (aj (k:=1) aB rfl rfl rfl) rfl<|Wo.od (aT (r:=ptr b4 1) rfl rfl (aU ki (i:=1) (by decide))) rfl<|Wo.od (aj (k:=0) du rfl rfl rfl) rfl<|Wo.od (aT (r:=ptr b0 4) rfl rfl (aU cg (i:=2) (by decide))) rfl<|Wo.od (aj (k:=1) aB rfl rfl rfl) rfl ?_
        refine Wo.od (aT (r:=ptr b4 2) rfl rfl (aU ki (i:=2) (by decide))) rfl<|Wo.od (aj (k:=0) du rfl rfl rfl) rfl<|Wo.od (aT (r:=ptr b0 0) rfl rfl (aU cg (i:=0) (by decide))) rfl<|Wo.od (aj (k:=1) aB rfl rfl rfl) rfl<|Wo.od (aT (r:=ptr b4 3) rfl rfl (aU ki (i:=3) (by decide))) rfl<|Wo.od (aj (k:=0) du rfl rfl rfl) rfl<|Wo.od (aT (r:=ptr b0 2) rfl rfl (aU cg (i:=1) (by decide))) rfl<|Wo.od (aj (k:=1) aB rfl rfl rfl) rfl ?_
        obtain⟨⟨r11,r12⟩,h37,hF⟩:=al hF;refine Wo.x (dT rfl rfl (fun m hm=>mX n v6 v7 v4 v5 v0 v1 v2 v3  _ h37 m) fun _=>rfl) gn rfl ?_;rintro⟨⟩;refine Wo.od (ah rfl) rfl<|Wo.od (oP rfl rfl) rfl<|Wo.od (oP rfl rfl) rfl<|Wo.od (aA rfl) rfl<|Wo.od (aA rfl) rfl<|Wo.nil<|At.tn<|Wk.seq ?_;obtain⟨v12,h38,hF⟩:=al hF;refine Wk.cut (G:=(fun(r:Bool) (g:Unit)=>match r,g with|v12,_=>⟨.normal,[(3,ptr b0 0),(5,.int .i64 r0),(6,.int .i64 r1),(66,.agg #[.int .i64 2,.int .i64 3,.int .i64 0,.int .i64 1,.int .i64 1,.int .i64 0,.int .i64 2,.int .i64 3,.int .i64 3,.int .i64 2,.int .i64 0,.int .i64 1]),(67,.int .i64 2),(97,.bool v12)],[.obj b0 (.cells [.int .i64 v0,.int .i64 v1,.int .i64 v2,.int .i64 v3,.int .i64 v4,.int .i64 v5,.int .i64 v6,.int .i64 v7] .own)]⟩) v12) ?_ ?_
        ·clear hF;revert v12;intro r hF;refine Wk.region<|Wo.od (ah rfl) rfl<|Wo.od (ah rfl) rfl<|Wo.od (ax rfl rfl (ft _ _)) rfl<|Wo.od (ah rfl) rfl ?_;rcases ai hF with⟨h7,hF⟩|⟨h7,hF⟩
         ·refine Wo.s (gg rfl rfl (eo h7)) rfl<|Wo.s (gg rfl rfl (eo h7)) rfl<|Wo.s (gg rfl rfl (eo h7)) rfl<|Wo.od (cX rfl h7 rfl) rfl<|Wo.nil ?_;cases hF;exact At.en () rfl (sc rfl (sc rfl (sc rfl (sc rfl (sc rfl (sc rfl sn)))))) (ar.ae [1] rfl rfl)
         ·refine Wo.og (ah rfl) (gg rfl rfl (dX h7)) rfl<|Wo.og (ah rfl) (gg rfl rfl (dX h7)) rfl<|Wo.og (ax rfl rfl (ft _ _)) (gg rfl rfl (dX h7)) rfl<|Wo.od (cW rfl h7 rfl) rfl<|Wo.nil ?_;cases hF;exact At.en () rfl (sc rfl (sc rfl (sc rfl (sc rfl (sc rfl (sc rfl sn)))))) (ar.ae [1] rfl rfl)
        ·clear h38;rintro⟨⟩;refine At.tn ?_;rcases ai hF with⟨h20,hF⟩|⟨h20,hF⟩
         ·refine Wk.bf rfl h20<|Wk.seq<|Wk.region<|Wo.od (aA rfl) rfl<|Wo.nil<|At.tn<|Wk.ret<|At.br<|At.tr<|At.tr<|At.br<|At.tr ?_;cases hF;exact At.ret (.tmp rfl .nil) fun m' hm=>⟨(),rfl,(ar.ae [] rfl rfl) m' hm⟩
         ·refine Wk.bF rfl h20<|Wk.skip<|At.bn<|At.tn<|Wk.region<|Wo.od (ax (r:=.int .i64 3) rfl rfl ((cf _ _ _).trans rfl)) rfl<|Wo.od (ah rfl) rfl<|Wo.nil<|At.tl<|Wl.round<|Wk.seq<|Wk.region<|Wo.od (ax (r:=.bool false) rfl rfl ((bN _ _ _).trans rfl)) rfl<|Wo.nil<|At.tn<|Wk.seq<|Wk.bF rfl rfl<|Wk.exit<|At.te<|At.te<|At.be<|At.tn<|Wk.seq<|Wk.region<|Wo.od (aA rfl) rfl<|Wo.od (aA rfl) rfl ?_;refine Wo.nil<|At.tn<|Wk.seq<|Wk.seq<|Wk.region<|Wo.od (aA rfl) rfl<|Wo.nil<|At.tn<|Wk.block ?_;obtain⟨r4,h21,hF⟩:=al hF;refine Wk.cut (G:=(fun(r:Int × Int) (g:Unit)=>match r,g with | (v13,v14),_=>⟨(.exit 4),[(5,.int .i64 r0),(6,.int .i64 r1),(11,.int .i64 v13),(12,.int .i64 v14)],[]⟩) r4) ?_ ?_
          ·refine Wk.uz (fs':=[(3,ptr b0 0),(5,.int .i64 r0),(6,.int .i64 r1),(11,.int .i64 0),(12,.int .i64 0),(13,.int .i64 (-7))]) (ps':=[.obj b0 (.cells [.int .i64 v0,.int .i64 v1,.int .i64 v2,.int .i64 v3,.int .i64 v4,.int .i64 v5,.int .i64 v6,.int .i64 v7] .own)]) (sc rfl (sc rfl (sc rfl (sc rfl (sc rfl (sc rfl sn)))))) (ar.ae [0] rfl rfl) ?_;refine Wk.loop (σ:=Int × Int × Int) (ρ:=Int × Int) (γ:=Unit) (δ:=fun _=>Unit) _ (fun(s:Int × Int × Int) (g:Unit)=>match s,g with | (v21,v22,v8),_=>⟨.normal,[(3,ptr b0 0),(5,.int .i64 r0),(6,.int .i64 r1),(11,.int .i64 v21),(12,.int .i64 v22),(13,.int .i64 v8)],[.obj b0 (.cells [.int .i64 v0,.int .i64 v1,.int .i64 v2,.int .i64 v3,.int .i64 v4,.int .i64 v5,.int .i64 v6,.int .i64 v7] .own)]⟩) (fun(r:Int × Int) (g:Unit)=>match r,g with | (v13,v14),_=>⟨(.exit 4),[(5,.int .i64 r0),(6,.int .i64 r1),(11,.int .i64 v13),(12,.int .i64 v14)],[]⟩) ?_ (fun _ _=>rfl) (fun r d=>by intro e; cases e) _ _ _ h21 ()
           clear hF h21;rintro⟨v21,v22,v8⟩ ⟨⟩ r hF;unfold sr at hF;refine Wk.seq<|Wk.seq<|Wk.region<|Wo.od (ah rfl) rfl<|Wo.od (ax rfl rfl (c9 _ _ _)) rfl<|Wo.nil<|At.tn ?_;rcases ai hF with⟨h22,hF⟩|⟨h22,hF⟩
           ·refine Wk.bf rfl h22<|Wk.skip<|At.tn<|Wk.seq<|Wk.block<|Wk.seq<|Wk.region<|Wo.od (aA rfl) rfl<|Wo.nil<|At.tn<|Wk.block ?_;obtain⟨r5,h23,hF⟩:=al hF;refine Wk.cut (G:=(fun(r:Int × Int) (g:Unit)=>match r,g with | (v15,v16),_=>⟨(.exit 6),[(3,ptr b0 0),(5,.int .i64 r0),(6,.int .i64 r1),(11,.int .i64 v15),(12,.int .i64 v16),(13,.int .i64 v8)],[.obj b0 (.cells [.int .i64 v0,.int .i64 v1,.int .i64 v2,.int .i64 v3,.int .i64 v4,.int .i64 v5,.int .i64 v6,.int .i64 v7] .own)]⟩) r5) ?_ ?_
            ·refine Wk.uz (fs':=[(3,ptr b0 0),(5,.int .i64 r0),(6,.int .i64 r1),(11,.int .i64 v21),(12,.int .i64 v22),(13,.int .i64 v8),(14,.int .i64 (-7))]) (ps':=[.obj b0 (.cells [.int .i64 v0,.int .i64 v1,.int .i64 v2,.int .i64 v3,.int .i64 v4,.int .i64 v5,.int .i64 v6,.int .i64 v7] .own)]) (sc rfl (sc rfl (sc rfl (sc rfl (sc rfl (sc rfl (sc rfl sn))))))) (ar.ae [0] rfl rfl) ?_;refine Wk.loop (σ:=Int × Int × Int) (ρ:=Int × Int) (γ:=Unit) (δ:=fun _=>Unit) _ (fun(s:Int × Int × Int) (g:Unit)=>match s,g with | (v17,v18,v9),_=>⟨.normal,[(3,ptr b0 0),(5,.int .i64 r0),(6,.int .i64 r1),(11,.int .i64 v17),(12,.int .i64 v18),(13,.int .i64 v8),(14,.int .i64 v9)],[.obj b0 (.cells [.int .i64 v0,.int .i64 v1,.int .i64 v2,.int .i64 v3,.int .i64 v4,.int .i64 v5,.int .i64 v6,.int .i64 v7] .own)]⟩) (fun(r:Int × Int) (g:Unit)=>match r,g with | (v15,v16),_=>⟨(.exit 6),[(3,ptr b0 0),(5,.int .i64 r0),(6,.int .i64 r1),(11,.int .i64 v15),(12,.int .i64 v16),(13,.int .i64 v8)],[.obj b0 (.cells [.int .i64 v0,.int .i64 v1,.int .i64 v2,.int .i64 v3,.int .i64 v4,.int .i64 v5,.int .i64 v6,.int .i64 v7] .own)]⟩) ?_ (fun _ _=>rfl) (fun r d=>by intro e; cases e) _ _ _ h23 ()
             clear hF h23;rintro⟨v17,v18,v9⟩ ⟨⟩ r hF;unfold tq at hF;refine Wk.seq<|Wk.seq<|Wk.region<|Wo.od (ah rfl) rfl<|Wo.od (ax rfl rfl (c9 _ _ _)) rfl<|Wo.nil<|At.tn ?_;rcases ai hF with⟨h24,hF⟩|⟨h24,hF⟩
             ·refine Wk.bf rfl h24<|Wk.skip<|At.tn<|Wk.seq ?_;obtain⟨r3,h39,hF⟩:=al hF;refine Wk.cut (G:=(fun(r:Int × Int) (g:Unit)=>match r,g with | (v24,v25),_=>⟨.normal,[(3,ptr b0 0),(5,.int .i64 r0),(6,.int .i64 r1),(11,.int .i64 v24),(12,.int .i64 v25),(13,.int .i64 v8),(14,.int .i64 v9)],[.obj b0 (.cells [.int .i64 v0,.int .i64 v1,.int .i64 v2,.int .i64 v3,.int .i64 v4,.int .i64 v5,.int .i64 v6,.int .i64 v7] .own)]⟩) r3) ?_ ?_
              ·clear hF;revert r3;intro r hF;refine Wk.block<|Wk.seq<|Wk.region<|Wo.od (ah rfl) rfl<|Wo.od (ah rfl) rfl<|Wo.od (kk rfl z33 rfl (j7 uN rfl rfl rfl)) rfl<|Wo.x (pO z33 rfl) gn rfl fun b5=>?_;refine Wo.o0 (je (k:=0) aB rfl rfl rfl rfl rfl)<|Wo.nil<|At.tn<|Wk.seq ?_;obtain⟨v19,h40,hF⟩:=al hF;refine Wk.cut (G:=(fun(r:Bool) (g:Unit)=>match r,g with|v19,_=>⟨.normal,[(3,ptr b0 0),(5,.int .i64 r0),(6,.int .i64 r1),(11,.int .i64 v17),(12,.int .i64 v18),(13,.int .i64 v8),(14,.int .i64 v9),(15,ptr b5 0),(123,.bool v19)],[.obj b0 (.cells [.int .i64 v0,.int .i64 v1,.int .i64 v2,.int .i64 v3,.int .i64 v4,.int .i64 v5,.int .i64 v6,.int .i64 v7] .own),.obj b5 (.cells [.int .i64 v8,.int .i64 v9] .own)]⟩) v19) ?_ ?_
               ·clear hF;revert v19;intro r hF;refine Wk.region<|Wo.od (aT (r:=ptr b0 0) rfl rfl (aU cg (i:=0) (by decide))) rfl<|Wo.od (aj (k:=1) aB rfl rfl rfl) rfl<|Wo.od (aT (r:=ptr b0 2) rfl rfl (aU cg (i:=1) (by decide))) rfl<|Wo.od (aj (k:=1) aB rfl rfl rfl) rfl<|Wo.od (aj (k:=0) aB rfl rfl rfl) rfl ?_
                obtain⟨r13,h41,hF⟩:=al hF;refine Wo.x (dT rfl rfl (fun m hm=>tK n v0 v1 v2 v3 v8 v9  _ h41 m) fun _=>rfl) gn rfl ?_;rintro⟨⟩;refine Wo.od (ah rfl) rfl ?_;rcases ai hF with⟨h0,hF⟩|⟨h0,hF⟩
                ·refine Wo.og (aT (r:=ptr b0 4) rfl rfl (aU cg (i:=2) (by decide))) (gg rfl rfl (cx h0)) rfl<|Wo.og (aj (k:=1) aB rfl rfl rfl) (gg rfl rfl (cx h0)) rfl<|Wo.og (aT (r:=ptr b0 6) rfl rfl (aU cg (i:=3) (by decide))) (gg rfl rfl (cx h0)) rfl<|Wo.og (aj (k:=1) aB rfl rfl rfl) (gg rfl rfl (cx h0)) rfl<|Wo.og (aj (k:=0) aB rfl rfl rfl) (gg rfl rfl (cx h0)) rfl ?_
                 obtain⟨r14,h42,hF⟩:=al hF;refine Wo.x (dT rfl rfl (fun m hm=>tK n v4 v5 v6 v7 v8 v9  _ h42 m) fun _=>rfl) (gg rfl rfl (cx h0)) rfl ?_;rintro⟨⟩;refine Wo.od (cX rfl h0 rfl) rfl<|Wo.nil ?_;have hr:=Option.some.inj hF;subst r;exact At.en () rfl (sc rfl (sc rfl (sc rfl (sc rfl (sc rfl (sc rfl (sc rfl (sc rfl (sc rfl sn))))))))) (ar.ae [1,0] rfl rfl)
                ·refine Wo.s (gg rfl rfl (cu h0)) rfl<|Wo.s (gg rfl rfl (cu h0)) rfl<|Wo.s (gg rfl rfl (cu h0)) rfl<|Wo.s (gg rfl rfl (cu h0)) rfl<|Wo.s (gg rfl rfl (cu h0)) rfl<|Wo.s (gg rfl rfl (cu h0)) rfl<|Wo.od (cW rfl h0 rfl) rfl<|Wo.nil ?_;cases hF;exact At.en () rfl (sc rfl (sc rfl (sc rfl (sc rfl (sc rfl (sc rfl (sc rfl (sc rfl (sc rfl sn))))))))) (ar.ae [1,0] rfl rfl)
               ·clear h40;rintro⟨⟩;refine At.tn ?_;rcases ai hF with⟨h25,hF⟩|⟨h25,hF⟩
                ·refine Wk.bf rfl h25<|Wk.seq<|Wk.region<|Wo.od (ah rfl) rfl<|Wo.od (ax rfl rfl (cf _ _ _)) rfl<|Wo.od (aA rfl) rfl<|Wo.nil<|At.tn<|Wk.seq ?_;obtain⟨v20,h43,hF⟩:=al hF;refine Wk.cut (G:=(fun(r:Bool) (g:Unit)=>match r,g with|v20,_=>⟨.normal,[(3,ptr b0 0),(5,.int .i64 r0),(6,.int .i64 r1),(11,.int .i64 (IntKind.wrap .i64 (v17+1))),(12,.int .i64 v18),(13,.int .i64 v8),(14,.int .i64 v9),(147,.bool v20)],[.obj b0 (.cells [.int .i64 v0,.int .i64 v1,.int .i64 v2,.int .i64 v3,.int .i64 v4,.int .i64 v5,.int .i64 v6,.int .i64 v7] .own)]⟩) v20) ?_ ?_
                 ·clear hF;revert v20;intro r hF;refine Wk.region<|Wo.od (aj (k:=1) aB rfl rfl rfl) rfl<|Wo.od (aT (r:=ptr b0 0) rfl rfl (aU cg (i:=0) (by decide))) rfl<|Wo.od (aj (k:=0) aB rfl rfl rfl) rfl<|Wo.od (ax rfl rfl (j4 pL (oZ _ _ _ _))) rfl<|Wo.od (ah rfl) rfl ?_
                  rcases ai hF with⟨h2,hF⟩|⟨h2,hF⟩
                  ·refine Wo.s (gg rfl rfl (eo h2)) rfl<|Wo.s (gg rfl rfl (eo h2)) rfl<|Wo.s (gg rfl rfl (eo h2)) rfl<|Wo.s (gg rfl rfl (eo h2)) rfl<|Wo.od (cX rfl h2 rfl) rfl<|Wo.od (ah rfl) rfl<|Wo.s (gg rfl rfl rfl) rfl<|Wo.s (gg rfl rfl rfl) rfl<|Wo.s (gg rfl rfl rfl) rfl<|Wo.s (gg rfl rfl rfl) rfl ?_;refine Wo.od (iI rfl rfl) rfl<|Wo.od (ah rfl) rfl<|Wo.s (gg rfl rfl rfl) rfl<|Wo.s (gg rfl rfl rfl) rfl<|Wo.s (gg rfl rfl rfl) rfl<|Wo.s (gg rfl rfl rfl) rfl<|Wo.od (iI rfl rfl) rfl<|Wo.nil ?_;cases hF;exact At.en () rfl (sc rfl (sc rfl (sc rfl (sc rfl (sc rfl (sc rfl (sc rfl (sc rfl sn)))))))) (ar.ae [0] rfl rfl)
                  ·refine Wo.og (aj (k:=1) aB rfl rfl rfl) (gg rfl rfl (dX h2)) rfl<|Wo.og (aT (r:=ptr b0 2) rfl rfl (aU cg (i:=1) (by decide))) (gg rfl rfl (dX h2)) rfl<|Wo.og (aj (k:=0) aB rfl rfl rfl) (gg rfl rfl (dX h2)) rfl<|Wo.og (ax rfl rfl (j4 pL (oZ _ _ _ _))) (gg rfl rfl (dX h2)) rfl<|Wo.od (cW rfl h2 rfl) rfl<|Wo.od (ah rfl) rfl ?_
                   rcases ai hF with⟨h3,hF⟩|⟨h3,hF⟩
                   ·refine Wo.s (gg rfl rfl (eo h3)) rfl<|Wo.s (gg rfl rfl (eo h3)) rfl<|Wo.s (gg rfl rfl (eo h3)) rfl<|Wo.s (gg rfl rfl (eo h3)) rfl<|Wo.od (cX rfl h3 rfl) rfl<|Wo.od (ah rfl) rfl<|Wo.s (gg rfl rfl rfl) rfl<|Wo.s (gg rfl rfl rfl) rfl<|Wo.s (gg rfl rfl rfl) rfl<|Wo.s (gg rfl rfl rfl) rfl ?_;refine Wo.od (iI rfl rfl) rfl<|Wo.nil ?_;cases hF;exact At.en () rfl (sc rfl (sc rfl (sc rfl (sc rfl (sc rfl (sc rfl (sc rfl (sc rfl sn)))))))) (ar.ae [0] rfl rfl)
                   ·refine Wo.og (aj (k:=1) aB rfl rfl rfl) (gg rfl rfl (dX h3)) rfl<|Wo.og (aT (r:=ptr b0 4) rfl rfl (aU cg (i:=2) (by decide))) (gg rfl rfl (dX h3)) rfl<|Wo.og (aj (k:=0) aB rfl rfl rfl) (gg rfl rfl (dX h3)) rfl<|Wo.og (ax rfl rfl (j4 pL (oZ _ _ _ _))) (gg rfl rfl (dX h3)) rfl<|Wo.od (cW rfl h3 rfl) rfl<|Wo.od (ah rfl) rfl ?_
                    rcases ai hF with⟨h4,hF⟩|⟨h4,hF⟩
                    ·refine Wo.s (gg rfl rfl (eo h4)) rfl<|Wo.s (gg rfl rfl (eo h4)) rfl<|Wo.s (gg rfl rfl (eo h4)) rfl<|Wo.s (gg rfl rfl (eo h4)) rfl<|Wo.od (cX rfl h4 rfl) rfl<|Wo.nil ?_;cases hF;exact At.en () rfl (sc rfl (sc rfl (sc rfl (sc rfl (sc rfl (sc rfl (sc rfl (sc rfl sn)))))))) (ar.ae [0] rfl rfl)
                    ·refine Wo.og (aj (k:=1) aB rfl rfl rfl) (gg rfl rfl (dX h4)) rfl<|Wo.og (aT (r:=ptr b0 6) rfl rfl (aU cg (i:=3) (by decide))) (gg rfl rfl (dX h4)) rfl<|Wo.og (aj (k:=0) aB rfl rfl rfl) (gg rfl rfl (dX h4)) rfl<|Wo.og (ax rfl rfl (j4 pL (oZ _ _ _ _))) (gg rfl rfl (dX h4)) rfl<|Wo.od (cW rfl h4 rfl) rfl<|Wo.nil ?_
                     cases hF;exact At.en () rfl (sc rfl (sc rfl (sc rfl (sc rfl (sc rfl (sc rfl (sc rfl (sc rfl sn)))))))) (ar.ae [0] rfl rfl)
                 ·clear h43;rintro⟨⟩;refine At.tn ?_;rcases ai hF with⟨h26,hF⟩|⟨h26,hF⟩
                  ·refine Wk.bf rfl h26<|Wk.region<|Wo.od (ah rfl) rfl<|Wo.od (ax rfl rfl (cf _ _ _)) rfl<|Wo.od (aA rfl) rfl<|Wo.nil<|At.bn ?_;cases hF;exact At.en () rfl (sc rfl (sc rfl (sc rfl (sc rfl (sc rfl (sc rfl (sc rfl sn))))))) (ar.ae [0] rfl rfl)
                  ·refine Wk.bF rfl h26<|Wk.skip<|At.bn ?_;cases hF;exact At.en () rfl (sc rfl (sc rfl (sc rfl (sc rfl (sc rfl (sc rfl (sc rfl sn))))))) (ar.ae [0] rfl rfl)
                ·refine Wk.bF rfl h25<|Wk.skip<|At.bn ?_;cases hF;exact At.en () rfl (sc rfl (sc rfl (sc rfl (sc rfl (sc rfl (sc rfl (sc rfl sn))))))) (ar.ae [0] rfl rfl)
              ·clear h39;obtain⟨v24,v25⟩:=r3;rintro⟨⟩;refine At.tn<|Wk.region<|Wo.od (ah rfl) rfl<|Wo.od (ax rfl rfl (cf _ _ _)) rfl<|Wo.od (aA rfl) rfl<|Wo.nil ?_;cases hF;exact At.en () rfl (sc rfl (sc rfl (sc rfl (sc rfl (sc rfl (sc rfl (sc rfl sn))))))) (ar.ae [0] rfl rfl)
             ·refine Wk.bF rfl h24<|Wk.exit<|At.te ?_;cases hF;exact At.en () rfl (sc rfl (sc rfl (sc rfl (sc rfl (sc rfl (sc rfl sn)))))) (ar.ae [0] rfl rfl)
            ·clear h23;obtain⟨v15,v16⟩:=r5;rintro⟨⟩;refine At.be<|At.bn<|At.tn<|Wk.region<|Wo.od (ah rfl) rfl<|Wo.od (ax rfl rfl (cf _ _ _)) rfl<|Wo.od (aA rfl) rfl<|Wo.nil ?_;cases hF;exact At.en () rfl (sc rfl (sc rfl (sc rfl (sc rfl (sc rfl (sc rfl sn)))))) (ar.ae [0] rfl rfl)
           ·refine Wk.bF rfl h22<|Wk.exit<|At.te ?_;cases hF;exact At.en () rfl (sc rfl (sc rfl (sc rfl (sc rfl sn)))) (ar.ae [] rfl rfl)
          ·clear h21;obtain⟨v13,v14⟩:=r4;rintro⟨⟩;refine At.be<|At.tn<|Wk.seq<|Wk.seq<|Wk.region<|Wo.od (ah rfl) rfl<|Wo.nil<|At.tn<|Wk.block<|Wk.seq<|Wk.region<|Wo.od (ax rfl rfl (bT _ _ _)) rfl<|Wo.od (aA rfl) rfl<|Wo.nil<|At.tn ?_;rcases ai hF with⟨h27,hF⟩|⟨h27,hF⟩
           ·refine Wk.bf rfl h27<|Wk.seq<|Wk.region<|Wo.od (ah rfl) rfl<|Wo.od (ax rfl rfl (bT _ _ _)) rfl<|Wo.od (ah rfl) rfl ?_;rcases ai hF with⟨h8,hF⟩|⟨h8,hF⟩
            ·refine Wo.og (ah rfl) (gg rfl rfl (cx h8)) rfl<|Wo.og (ax rfl rfl (bT _ _ _)) (gg rfl rfl (cx h8)) rfl<|Wo.od (cX rfl h8 rfl) rfl<|Wo.od (aA rfl) rfl<|Wo.nil<|At.tn<|Wk.ret<|At.br<|At.tr ?_;cases hF;exact At.ret (.tmp rfl .nil) fun m' hm=>⟨(),rfl,(ar.ae [] rfl rfl) m' hm⟩
            ·refine Wo.s (gg rfl rfl (cu h8)) rfl<|Wo.s (gg rfl rfl (cu h8)) rfl<|Wo.od (cW rfl h8 rfl) rfl<|Wo.od (aA rfl) rfl<|Wo.nil<|At.tn<|Wk.ret<|At.br<|At.tr ?_;cases hF;exact At.ret (.tmp rfl .nil) fun m' hm=>⟨(),rfl,(ar.ae [] rfl rfl) m' hm⟩
           ·refine Wk.bF rfl h27<|Wk.seq<|Wk.region<|Wo.od (ax rfl rfl (bT _ _ _)) rfl<|Wo.od (aA rfl) rfl<|Wo.nil<|At.tn ?_;rcases ai hF with⟨h28,hF⟩|⟨h28,hF⟩
            ·refine Wk.bf rfl h28<|Wk.seq<|Wk.region<|Wo.od (ah rfl) rfl<|Wo.od (ax rfl rfl (bT _ _ _)) rfl<|Wo.od (ah rfl) rfl ?_;rcases ai hF with⟨h9,hF⟩|⟨h9,hF⟩
             ·refine Wo.og (ah rfl) (gg rfl rfl (cx h9)) rfl<|Wo.og (ax rfl rfl (bT _ _ _)) (gg rfl rfl (cx h9)) rfl<|Wo.od (cX rfl h9 rfl) rfl<|Wo.od (ah rfl) rfl ?_;rcases ai hF with⟨h10,hF⟩|⟨h10,hF⟩
              ·refine Wo.og (ah rfl) (gg rfl rfl (cx h10)) rfl<|Wo.og (ax rfl rfl (bT _ _ _)) (gg rfl rfl (cx h10)) rfl<|Wo.od (cX rfl h10 rfl) rfl<|Wo.od (aA rfl) rfl<|Wo.nil<|At.tn<|Wk.ret<|At.br<|At.tr ?_;cases hF;exact At.ret (.tmp rfl .nil) fun m' hm=>⟨(),rfl,(ar.ae [] rfl rfl) m' hm⟩
              ·refine Wo.s (gg rfl rfl (cu h10)) rfl<|Wo.s (gg rfl rfl (cu h10)) rfl<|Wo.od (cW rfl h10 rfl) rfl<|Wo.od (aA rfl) rfl<|Wo.nil<|At.tn<|Wk.ret<|At.br<|At.tr ?_;cases hF;exact At.ret (.tmp rfl .nil) fun m' hm=>⟨(),rfl,(ar.ae [] rfl rfl) m' hm⟩
             ·refine Wo.s (gg rfl rfl (cu h9)) rfl<|Wo.s (gg rfl rfl (cu h9)) rfl<|Wo.od (cW rfl h9 rfl) rfl<|Wo.od (ah rfl) rfl<|Wo.s (gg rfl rfl rfl) rfl<|Wo.s (gg rfl rfl rfl) rfl<|Wo.od (j9 rfl rfl) rfl<|Wo.od (aA rfl) rfl<|Wo.nil<|At.tn<|Wk.ret<|At.br<|At.tr ?_;cases hF;exact At.ret (.tmp rfl .nil) fun m' hm=>⟨(),rfl,(ar.ae [] rfl rfl) m' hm⟩
            ·refine Wk.bF rfl h28<|Wk.seq<|Wk.region<|Wo.od (ax rfl rfl (bT _ _ _)) rfl<|Wo.od (aA rfl) rfl<|Wo.nil<|At.tn ?_;rcases ai hF with⟨h29,hF⟩|⟨h29,hF⟩
             ·refine Wk.bf rfl h29<|Wk.seq<|Wk.region<|Wo.od (ah rfl) rfl<|Wo.od (ax rfl rfl (bT _ _ _)) rfl<|Wo.od (ah rfl) rfl ?_;rcases ai hF with⟨h11,hF⟩|⟨h11,hF⟩
              ·refine Wo.og (ah rfl) (gg rfl rfl (cx h11)) rfl<|Wo.og (ax rfl rfl (c9 _ _ _)) (gg rfl rfl (cx h11)) rfl<|Wo.od (cX rfl h11 rfl) rfl<|Wo.od (ah rfl) rfl ?_;rcases ai hF with⟨h12,hF⟩|⟨h12,hF⟩
               ·refine Wo.og (ah rfl) (gg rfl rfl (cx h12)) rfl<|Wo.og (ax rfl rfl (bT _ _ _)) (gg rfl rfl (cx h12)) rfl<|Wo.od (cX rfl h12 rfl) rfl<|Wo.od (aA rfl) rfl<|Wo.nil<|At.tn<|Wk.ret<|At.br<|At.tr ?_;cases hF;exact At.ret (.tmp rfl .nil) fun m' hm=>⟨(),rfl,(ar.ae [] rfl rfl) m' hm⟩
               ·refine Wo.s (gg rfl rfl (cu h12)) rfl<|Wo.s (gg rfl rfl (cu h12)) rfl<|Wo.od (cW rfl h12 rfl) rfl<|Wo.od (aA rfl) rfl<|Wo.nil<|At.tn<|Wk.ret<|At.br<|At.tr ?_;cases hF;exact At.ret (.tmp rfl .nil) fun m' hm=>⟨(),rfl,(ar.ae [] rfl rfl) m' hm⟩
              ·refine Wo.s (gg rfl rfl (cu h11)) rfl<|Wo.s (gg rfl rfl (cu h11)) rfl<|Wo.od (cW rfl h11 rfl) rfl<|Wo.od (ah rfl) rfl<|Wo.s (gg rfl rfl rfl) rfl<|Wo.s (gg rfl rfl rfl) rfl<|Wo.od (j9 rfl rfl) rfl<|Wo.od (aA rfl) rfl<|Wo.nil<|At.tn<|Wk.ret<|At.br<|At.tr ?_;cases hF;exact At.ret (.tmp rfl .nil) fun m' hm=>⟨(),rfl,(ar.ae [] rfl rfl) m' hm⟩
             ·refine Wk.bF rfl h29<|Wk.skip<|At.bn<|At.tn<|Wk.seq<|Wk.region<|Wo.od (ah rfl) rfl<|Wo.od (ax rfl rfl (bT _ _ _)) rfl<|Wo.od (ah rfl) rfl ?_;rcases ai hF with⟨h13,hF⟩|⟨h13,hF⟩
              ·refine Wo.og (ah rfl) (gg rfl rfl (cx h13)) rfl<|Wo.og (ax rfl rfl (bT _ _ _)) (gg rfl rfl (cx h13)) rfl<|Wo.od (cX rfl h13 rfl) rfl<|Wo.od (ah rfl) rfl ?_;rcases ai hF with⟨h14,hF⟩|⟨h14,hF⟩
               ·refine Wo.og (ah rfl) (gg rfl rfl (cx h14)) rfl<|Wo.og (ax rfl rfl (oi _ _ _)) (gg rfl rfl (cx h14)) rfl<|Wo.od (cX rfl h14 rfl) rfl<|Wo.od (ah rfl) rfl ?_;rcases ai hF with⟨h15,hF⟩|⟨h15,hF⟩
                ·refine Wo.og (ah rfl) (gg rfl rfl (cx h15)) rfl<|Wo.og (ax rfl rfl (oi _ _ _)) (gg rfl rfl (cx h15)) rfl<|Wo.od (cX rfl h15 rfl) rfl<|Wo.od (aA rfl) rfl<|Wo.nil<|At.tn<|Wk.ret ?_;cases hF;exact At.ret (.tmp rfl .nil) fun m' hm=>⟨(),rfl,(ar.ae [] rfl rfl) m' hm⟩
                ·refine Wo.s (gg rfl rfl (cu h15)) rfl<|Wo.s (gg rfl rfl (cu h15)) rfl<|Wo.od (cW rfl h15 rfl) rfl<|Wo.od (aA rfl) rfl<|Wo.nil<|At.tn<|Wk.ret ?_;cases hF;exact At.ret (.tmp rfl .nil) fun m' hm=>⟨(),rfl,(ar.ae [] rfl rfl) m' hm⟩
               ·refine Wo.s (gg rfl rfl (cu h14)) rfl<|Wo.s (gg rfl rfl (cu h14)) rfl<|Wo.od (cW rfl h14 rfl) rfl<|Wo.od (ah rfl) rfl<|Wo.s (gg rfl rfl rfl) rfl<|Wo.s (gg rfl rfl rfl) rfl<|Wo.od (j9 rfl rfl) rfl<|Wo.od (aA rfl) rfl<|Wo.nil<|At.tn<|Wk.ret ?_;cases hF;exact At.ret (.tmp rfl .nil) fun m' hm=>⟨(),rfl,(ar.ae [] rfl rfl) m' hm⟩
              ·refine Wo.s (gg rfl rfl (cu h13)) rfl<|Wo.s (gg rfl rfl (cu h13)) rfl<|Wo.od (cW rfl h13 rfl) rfl<|Wo.od (ah rfl) rfl<|Wo.s (gg rfl rfl rfl) rfl<|Wo.s (gg rfl rfl rfl) rfl<|Wo.od (j9 rfl rfl) rfl<|Wo.od (ah rfl) rfl<|Wo.s (gg rfl rfl rfl) rfl<|Wo.s (gg rfl rfl rfl) rfl ?_;refine Wo.od (j9 rfl rfl) rfl<|Wo.od (aA rfl) rfl<|Wo.nil<|At.tn<|Wk.ret ?_;cases hF;exact At.ret (.tmp rfl .nil) fun m' hm=>⟨(),rfl,(ar.ae [] rfl rfl) m' hm⟩
end Go.Proofs.YthmekkhpddehjaaGreat
end

section
namespace Go.Ab
open Go
end Go.Ab
end

section
namespace Go.Ab.W
open Go Go.Ab
section
variable {σ ρ τ : Type}
end
end Go.Ab.W
end

section
namespace Go.Ab.B
open Go Go.Ab Go.Ab.W
section
variable {α β σ ρ : Type}
theorem tE (a b:Option β):br true a b=a:=rfl
theorem jC (a b:Option β):br false a b=b:=rfl
theorem xr (a:Option β):gd true a=a:=rfl
theorem aY (x:α) (f:α→Option β):ob (some x) f=f x:=rfl
theorem ei {p:Prop} [Decidable p] (h:p) (a b:Option β):br (decide p) a b=a:=by rw[decide_eq_true h]; rfl
theorem ef {p:Prop} [Decidable p] (h:¬p) (a b:Option β):br (decide p) a b=b:=by rw[decide_eq_false h]; rfl
theorem uS (c:Bool) (a b:Option β):br c a b=if c then a else b:=by cases c<;>rfl
theorem iU (c d:Bool):br c (some true) (some d)=some (c || d):=by cases c<;>rfl
theorem fY (c d:Bool):br c (some d) (some false)=some (c && d):=by cases c<;>rfl
theorem vr {i n:Nat} (h:i<n):yI (i:Int) n=true:=decide_eq_true ⟨Int.natCast_nonneg i,by simpa using h⟩
theorem aS {x:Int} (h1 : -9223372036854775808≤x) (h2:x<9223372036854775808):IntKind.wrap .i64 x=x:=wrap_i64 x h1 (by omega)
theorem jD {i:Nat} (h:i<4611686018427387904):IntKind.wrap .i64 ((i:Int)+1)=((i+1:Nat):Int):=by rw[aS (by omega) (by omega)]; rfl
theorem ee {body:σ→Option (σ ⊕ ρ)} {n:Nat} {s s':σ} (h:body s=some (.inl s')):oQ body (n+1) s=oQ body n s':=by simp only[oQ,h]
theorem jx {body:σ→Option (σ ⊕ ρ)} {n:Nat} {s:σ} {r:ρ} (h:body s=some (.inr r)):oQ body (n+1) s=some r:=by simp only[oQ,h]
end
theorem ku {u v B C:Int} (_:0≤B) (hu1 : -B≤u) (hu2:u≤B) (hv1 : -C≤v) (hv2:v≤C) : -(B*C)≤u*v∧u*v≤B*C:=by
 have hC:0≤C:=by omega
 have h1:0≤(B-u)*(C-v):=Int.mul_nonneg (by omega) (by omega)
 have h2:0≤(B+u)*(C+v):=Int.mul_nonneg (by omega) (by omega)
 have h3:0≤(B-u)*(C+v):=Int.mul_nonneg (by omega) (by omega)
 have h4:0≤(B+u)*(C-v):=Int.mul_nonneg (by omega) (by omega)
 have e1:(B-u)*(C-v)=B*C-B*v-u*C+u*v:=by rw[Int.sub_mul,Int.mul_sub,Int.mul_sub]; omega
 have e2:(B+u)*(C+v)=B*C+B*v+u*C+u*v:=by rw[Int.add_mul,Int.mul_add,Int.mul_add]; omega
 have e3:(B-u)*(C+v)=B*C+B*v-u*C-u*v:=by rw[Int.sub_mul,Int.mul_add,Int.mul_add]; omega
 have e4:(B+u)*(C-v)=B*C-B*v+u*C-u*v:=by rw[Int.add_mul,Int.mul_sub,Int.mul_sub]; omega
 omega
theorem jq {α:Type} [DecidableEq α]:∀{l m:List α},l.Nodup→(∀a ∈ l,a ∈ m)→l.length≤m.length
 | [],_,_,_=>Nat.zero_le _
 | a::l,m,hn,hs=>by
  obtain⟨n1,n2⟩:=List.nodup_cons.1 hn;have ha:=hs a List.mem_cons_self;have:=jq (l:=l) (m:=m.erase a) n2 fun b hb=>by
   have hne:b≠a:=fun e=>n1 (e ▸ hb);exact(List.mem_erase_of_ne hne).2 (hs b (List.mem_cons_of_mem _ hb))
  rw[List.length_erase_of_mem ha] at this;have hp:0<m.length:=List.length_pos_of_mem ha;rw[List.length_cons]; omega
theorem filter_none {α:Type} {p:α→Bool} {l:List α} (h:∀a ∈ l,p a=false):(l.filter p).length=0:=by
 rw[List.filter_eq_nil_iff.2 fun a ha=>by rw[h a ha]; decide]; rfl
theorem eY {α:Type} {p:α→Bool}:∀{l:List α},l.Nodup→(∀a b,p a=true→p b=true→a=b)→(l.filter p).length≤1
 | [],_,_=>by simp
 | a::l,hn,h=>by
  obtain⟨n1,n2⟩:=List.nodup_cons.1 hn
  by_cases hp:p a=true
  ·rw[List.filter_cons_of_pos hp,List.length_cons,filter_none fun b hb=>by
    cases e:p b with
    | false=>rfl
    | true=>exact absurd (h a b hp e) fun e=>n1 (e ▸ hb)]
   exact Nat.le_refl _
  ·rw[List.filter_cons_of_neg hp]; exact eY n2 h
theorem lI {α:Type} {p:α→Bool} {l:List α} {a:α} (h:a ∈ l) (hp:p a=true):0<(l.filter p).length:=List.length_pos_of_mem (List.mem_filter.2 ⟨h,hp⟩)
theorem lj {α:Type} [DecidableEq α] {p:α→Bool} {l:List α} {a b:α} (h:a ∈ l) (hp:p a=true) (h':b ∈ l) (hp':p b=true) (hne:a≠b):2≤(l.filter p).length:=by
 have:=jq (l:=[a,b]) (m:=l.filter p) (by simp[hne]) fun x hx=>by
  simp only[List.mem_cons,List.not_mem_nil,or_false] at hx;rcases hx with rfl|rfl
  ·exact List.mem_filter.2 ⟨h,hp⟩
  ·exact List.mem_filter.2 ⟨h',hp'⟩
 exact this
end Go.Ab.B
end

section
namespace Jd
abbrev P2:=Rat × Rat
def tn (a b c:P2):Rat:=(b.1-a.1)*(c.2-a.2)-(b.2-a.2)*(c.1-a.1)
def af (α β γ:Rat) (x:P2):Rat:=α*x.1+β*x.2+γ
def Sep (a b p q:P2):Prop:=∃α β γ,0<af α β γ a∧0<af α β γ b∧af α β γ p<0∧af α β γ q<0
theorem Sep.ab {a b p q:P2} (h:Sep a b p q):Sep b a p q:=let ⟨α,β,γ,h1,h2,h3,h4⟩:=h; ⟨α,β,γ,h2,h1,h3,h4⟩
theorem Sep.pq {a b p q:P2} (h:Sep a b p q):Sep a b q p:=let ⟨α,β,γ,h1,h2,h3,h4⟩:=h; ⟨α,β,γ,h1,h2,h4,h3⟩
theorem bl {x y:Rat} (hx:0≤x) (hy:0≤y):0≤x*y:=Rat.mul_nonneg hx hy
theorem aJ {x y:Rat} (hx:0<x) (hy:0<y):0<x*y:=Rat.mul_pos hx hy
theorem cc {x y:Rat} (hx:0≤x) (hy:y≤0):x*y≤0:=by
 have:=bl hx (show(0:Rat)≤-y by grind)
 grind
theorem cC {x y:Rat} (hx:0<x) (hy:y<0):x*y<0:=by
 have:=aJ hx (show(0:Rat) < -y by grind)
 grind
theorem iA (a b p:P2):tn b a p = -tn a b p:=by unfold tn; grind
def we (a b p:P2):Int:=if a.2≤p.2∧p.2<b.2∧0<tn a b p then 1 else if b.2≤p.2∧p.2<a.2∧tn a b p<0 then -1 else 0
theorem jW {a b p:P2} (h1:a.2≤p.2) (h2:p.2<b.2):we a b p=if 0<tn a b p then 1 else 0:=by
 unfold we
 by_cases h:0<tn a b p
 ·rw[if_pos ⟨h1,h2,h⟩,if_pos h]
 ·rw[if_neg (fun e=>h e.2.2),if_neg (fun e=>by grind),if_neg h]
theorem c8 {a b p:P2} (h1:¬(a.2≤p.2∧p.2<b.2)) (h2:¬(b.2≤p.2∧p.2<a.2)):we a b p=0:=by
 unfold we;rw[if_neg (fun e=>h1 ⟨e.1,e.2.1⟩),if_neg (fun e=>h2 ⟨e.1,e.2.1⟩)]
theorem kB (a b p:P2):we b a p = -we a b p:=by
 have h:=iA a b p;unfold we
 by_cases h1:a.2≤p.2∧p.2<b.2∧0<tn a b p
 ·rw[if_pos h1,if_neg (fun e=>by grind),if_pos ⟨h1.1,h1.2.1,by grind⟩]
 ·by_cases h2:b.2≤p.2∧p.2<a.2∧tn a b p<0
  ·rw[if_neg h1,if_pos h2,if_pos ⟨h2.1,h2.2.1,by grind⟩]; rfl
  ·rw[if_neg h1,if_neg h2,if_neg (fun e=>h2 ⟨e.1,e.2.1,by grind⟩),if_neg (fun e=>h1 ⟨e.1,e.2.1,by grind⟩)]; rfl
def fz (p q v:P2):Int:=if p.2<v.2∧v.2≤q.2∧tn p q v<0 then 1 else 0
theorem eE {p q v:P2} (h:¬(p.2<v.2∧v.2≤q.2)):fz p q v=0:=if_neg fun e=>h ⟨e.1,e.2.1⟩
theorem lR {p q v:P2} (h1:p.2<v.2) (h2:v.2≤q.2):fz p q v=if tn p q v<0 then 1 else 0:=by
 unfold fz
 by_cases h:tn p q v<0
 ·rw[if_pos ⟨h1,h2,h⟩,if_pos h]
 ·rw[if_neg (fun e=>h e.2.2),if_neg h]
section
variable {a b p q : P2}
theorem xV (α β γ:Rat):tn p q b*af α β γ a-tn p q a*af α β γ b=tn a b p*af α β γ q-tn a b q*af α β γ p:=by
 unfold tn af; grind
theorem uE (h:Sep a b p q) (h1:0≤tn p q b) (h2:tn p q a≤0) (h3:0≤tn a b p) (h4:tn a b q≤0) (h5:0<tn a b p∨tn a b q<0∨0<tn p q b∨tn p q a<0):False:=by
 obtain⟨α,β,γ,g1,g2,g3,g4⟩:=h;have e:=xV (a:=a) (b:=b) (p:=p) (q:=q) α β γ;generalize af α β γ a=A at *;generalize af α β γ b=B at *;generalize af α β γ p=C at *;generalize af α β γ q=D at *;generalize tn p q b=Tb at *;generalize tn p q a=Ta at *;generalize tn a b p=Up at *;generalize tn a b q=Uq at *;have k1:0≤Tb*A:=bl h1 (by grind)
 have k2:0≤(-Ta)*B:=bl (by grind) (by grind)
 have k3:0≤Up*(-D):=bl h3 (by grind)
 have k4:0≤(-Uq)*(-C):=bl (by grind) (by grind)
 rcases h5 with h|h|h|h
 ·have:0<Up*(-D):=aJ h (by grind)
  grind
 ·have:0<(-Uq)*(-C):=aJ (by grind) (by grind)
  grind
 ·have:0<Tb*A:=aJ h g1
  grind
 ·have:0<(-Ta)*B:=aJ (by grind) g2
  grind
theorem rh (h:Sep a b p q) (h1:tn p q b≤0) (h2:0≤tn p q a) (h3:tn a b p≤0) (h4:0≤tn a b q) (h5:tn a b p<0∨0<tn a b q∨tn p q b<0∨0<tn p q a):False:=by
 have e1:=iA a b p;have e2:=iA a b q;exact uE h.ab (a:=b) (b:=a) h2 h1 (by grind) (by grind) (by grind)
theorem i1:(p.2-a.2)*tn p q b+(b.2-p.2)*tn p q a = -((q.2-p.2)*tn a b p):=by unfold tn; grind
theorem i2:(b.2-p.2)*tn a b q+(q.2-b.2)*tn a b p = -((b.2-a.2)*tn p q b):=by unfold tn; grind
theorem i3:(q.2-a.2)*tn p q b+(b.2-q.2)*tn p q a = -((q.2-p.2)*tn a b q):=by unfold tn; grind
theorem i4:(a.2-p.2)*tn a b q+(q.2-a.2)*tn a b p = -((b.2-a.2)*tn p q a):=by unfold tn; grind
theorem i5:tn a b q-tn a b p=tn p q a-tn p q b:=by unfold tn; grind
theorem yn (h:Sep a b p q) (h1:a.2≤p.2) (h2:p.2<b.2) (h3:b.2≤q.2):0<tn a b p↔tn p q b<0:=by
 have e1:=i1 (a:=a) (b:=b) (p:=p) (q:=q);have e2:=i2 (a:=a) (b:=b) (p:=p) (q:=q);have K:=uE h;have K':=rh h;clear h;generalize tn p q b=Tb at *;generalize tn p q a=Ta at *;generalize tn a b p=Up at *;generalize tn a b q=Uq at *;have d1:0≤p.2-a.2:=by grind
 have d2:0<b.2-p.2:=by grind
 have d3:0<q.2-p.2:=by grind
 have d4:0≤q.2-b.2:=by grind
 have d5:0<b.2-a.2:=by grind
 generalize p.2-a.2=x1 at *;generalize b.2-p.2=x2 at *;generalize q.2-p.2=x3 at *;generalize q.2-b.2=x4 at *;generalize b.2-a.2=x5 at *;constructor
 ·intro hu;refine Decidable.byContradiction fun ht=>?_;have ht:0≤Tb:=by grind
  have m1:=bl d1 ht;have m2:=aJ d3 hu;have ta:Ta≤0:=by
   refine Decidable.byContradiction fun hc=>?_;have:=aJ d2 (show 0<Ta by grind)
   grind
  have uq:Uq≤0:=by
   refine Decidable.byContradiction fun hc=>?_;have m3:=aJ d2 (show 0<Uq by grind)
   have m4:=bl d4 (show 0≤Up by grind)
   have m5:=bl (show 0≤x5 by grind) ht
   grind
  exact K ht ta (by grind) uq (.inl hu)
 ·intro ht;refine Decidable.byContradiction fun hu=>?_;have hu:Up≤0:=by grind
  have m1:=cc d1 (show Tb≤0 by grind)
  have m2:=cc (show 0≤x3 by grind) hu
  have ta:0≤Ta:=by
   refine Decidable.byContradiction fun hc=>?_;have:=cC d2 (show Ta<0 by grind)
   grind
  have uq:0≤Uq:=by
   refine Decidable.byContradiction fun hc=>?_;have m3:=cC d2 (show Uq<0 by grind)
   have m4:=cc d4 hu;have m5:=cC d5 ht
   grind
  exact K' (by grind) ta hu uq (.inr (.inr (.inl ht)))
theorem yf (h:Sep a b p q) (h1:p.2<a.2) (h2:a.2≤q.2) (h3:q.2<b.2):0<tn a b q↔tn p q a<0:=by
 have e3:=i3 (a:=a) (b:=b) (p:=p) (q:=q);have e4:=i4 (a:=a) (b:=b) (p:=p) (q:=q);have K:=uE h;have K':=rh h;clear h;generalize tn p q b=Tb at *;generalize tn p q a=Ta at *;generalize tn a b p=Up at *;generalize tn a b q=Uq at *;have d1:0≤q.2-a.2:=by grind
 have d2:0<b.2-q.2:=by grind
 have d3:0<q.2-p.2:=by grind
 have d4:0<a.2-p.2:=by grind
 have d5:0<b.2-a.2:=by grind
 generalize q.2-a.2=x1 at *;generalize b.2-q.2=x2 at *;generalize q.2-p.2=x3 at *;generalize a.2-p.2=x4 at *;generalize b.2-a.2=x5 at *;constructor
 ·intro hu;refine Decidable.byContradiction fun ht=>?_;have ht:0≤Ta:=by grind
  have m1:=bl (show 0≤x2 by grind) ht
  have m2:=aJ d3 hu;have tb:Tb≤0:=by
   refine Decidable.byContradiction fun hc=>?_;have:=bl d1 (show 0≤Tb by grind)
   grind
  have up:Up≤0:=by
   refine Decidable.byContradiction fun hc=>?_;have m3:=aJ d4 hu;have m4:=bl d1 (show 0≤Up by grind)
   have m5:=bl (show 0≤x5 by grind) ht
   grind
  exact K' tb ht up (by grind) (.inr (.inl hu))
 ·intro ht;refine Decidable.byContradiction fun hu=>?_;have hu:Uq≤0:=by grind
  have m2:=cc (show 0≤x3 by grind) hu
  have m1:=cC d2 ht;have tb:0≤Tb:=by
   refine Decidable.byContradiction fun hc=>?_;have:=cc d1 (show Tb≤0 by grind)
   grind
  have up:0≤Up:=by
   refine Decidable.byContradiction fun hc=>?_;have m3:=cc (show 0≤x4 by grind) hu
   have m4:=cc d1 (show Up≤0 by grind)
   have m5:=cC d5 ht
   grind
  exact K tb (by grind) up hu (.inr (.inr (.inr ht)))
theorem zk (h:Sep a b p q) (h1:a.2≤p.2) (h2:p.2≤q.2) (h3:q.2<b.2):0<tn a b p↔0<tn a b q:=by
 have e1:=i1 (a:=a) (b:=b) (p:=p) (q:=q);have e3:=i3 (a:=a) (b:=b) (p:=p) (q:=q);have e5:=i5 (a:=a) (b:=b) (p:=p) (q:=q);have K:=uE h;have K':=rh h;clear h;generalize tn p q b=Tb at *;generalize tn p q a=Ta at *;generalize tn a b p=Up at *;generalize tn a b q=Uq at *;have d1:0≤p.2-a.2:=by grind
 have d2:0<b.2-p.2:=by grind
 have d3:0≤q.2-p.2:=by grind
 have d4:0≤q.2-a.2:=by grind
 have d5:0<b.2-q.2:=by grind
 generalize p.2-a.2=x1 at *;generalize b.2-p.2=x2 at *;generalize q.2-p.2=x3 at *;generalize q.2-a.2=x4 at *;generalize b.2-q.2=x5 at *;constructor
 ·intro hu;refine Decidable.byContradiction fun hc=>?_;have hc:Uq≤0:=by grind
  have ta:Ta≤0:=by
   refine Decidable.byContradiction fun ht=>?_;have m1:=bl d1 (show 0≤Tb by grind)
   have m2:=aJ d2 (show 0<Ta by grind)
   have m3:=bl d3 (show 0≤Up by grind)
   grind
  have tb:0≤Tb:=by
   refine Decidable.byContradiction fun ht=>?_;have m1:=cc d4 (show Tb≤0 by grind)
   have m2:=cC d5 (show Ta<0 by grind)
   have m3:=cc d3 hc
   grind
  exact K tb ta (by grind) hc (.inl hu)
 ·intro hu;refine Decidable.byContradiction fun hc=>?_;have hc:Up≤0:=by grind
  have ta:0≤Ta:=by
   refine Decidable.byContradiction fun ht=>?_;have m1:=cc d1 (show Tb≤0 by grind)
   have m2:=cC d2 (show Ta<0 by grind)
   have m3:=cc d3 hc
   grind
  have tb:Tb≤0:=by
   refine Decidable.byContradiction fun ht=>?_;have m1:=bl d4 (show 0≤Tb by grind)
   have m2:=aJ d5 (show 0<Ta by grind)
   have m3:=bl d3 (show 0≤Uq by grind)
   grind
  exact K' tb ta hc (by grind) (.inr (.inl hu))
theorem wN (h:Sep a b p q) (h0:a.2≤b.2) (h1:p.2<a.2) (h2:b.2≤q.2):tn p q a<0↔tn p q b<0:=by
 have e2:=i2 (a:=a) (b:=b) (p:=p) (q:=q);have e4:=i4 (a:=a) (b:=b) (p:=p) (q:=q);have e5:=i5 (a:=a) (b:=b) (p:=p) (q:=q);have K:=uE h;have K':=rh h;clear h;generalize tn p q b=Tb at *;generalize tn p q a=Ta at *;generalize tn a b p=Up at *;generalize tn a b q=Uq at *;have d1:0<b.2-p.2:=by grind
 have d2:0≤q.2-b.2:=by grind
 have d3:0≤b.2-a.2:=by grind
 have d4:0<a.2-p.2:=by grind
 have d5:0≤q.2-a.2:=by grind
 generalize b.2-p.2=x1 at *;generalize q.2-b.2=x2 at *;generalize b.2-a.2=x3 at *;generalize a.2-p.2=x4 at *;generalize q.2-a.2=x5 at *;constructor
 ·intro ha;refine Decidable.byContradiction fun hb=>?_;have hb:0≤Tb:=by grind
  have uq:Uq≤0:=by
   refine Decidable.byContradiction fun hc=>?_;have m1:=aJ d1 (show 0<Uq by grind)
   have m2:=bl d2 (show 0≤Up by grind)
   have m3:=bl d3 hb
   grind
  have up:0≤Up:=by
   refine Decidable.byContradiction fun hc=>?_;have m1:=cC d4 (show Uq<0 by grind)
   have m2:=cc d5 (show Up≤0 by grind)
   have m3:=cc d3 (show Ta≤0 by grind)
   grind
  exact K hb (by grind) up uq (.inr (.inr (.inr ha)))
 ·intro hb;refine Decidable.byContradiction fun ha=>?_;have ha:0≤Ta:=by grind
  have uq:0≤Uq:=by
   refine Decidable.byContradiction fun hc=>?_;have m1:=cC d1 (show Uq<0 by grind)
   have m2:=cc d2 (show Up≤0 by grind)
   have m3:=cc d3 (show Tb≤0 by grind)
   grind
  have up:Up≤0:=by
   refine Decidable.byContradiction fun hc=>?_;have m1:=aJ d4 (show 0<Uq by grind)
   have m2:=bl d5 (show 0≤Up by grind)
   have m3:=bl d3 ha
   grind
  exact K' (by grind) ha up uq (.inr (.inr (.inl hb)))
theorem kF {c d:Prop} [Decidable c] [Decidable d] (h:c↔d):(if c then(1:Int) else 0)=if d then 1 else 0:=by
 by_cases hc:c
 ·rw[if_pos hc,if_pos (h.1 hc)]
 ·rw[if_neg hc,if_neg (fun e=>hc (h.2 e))]
theorem uH (h:Sep a b p q) (hpq:p.2≤q.2) (hab:a.2≤b.2):we a b p-we a b q=fz p q b-fz p q a:=by
 by_cases ha:a.2≤p.2
 ·rw[eE (v:=a) (by grind)]
  by_cases hb:b.2≤p.2
  ·rw[eE (v:=b) (by grind),c8 (by grind) (by grind),c8 (by grind) (by grind)]
  ·by_cases hb2:b.2≤q.2
   ·rw[lR (by grind) hb2,jW ha (by grind),c8 (p:=q) (by grind) (by grind),kF (yn h ha (by grind) hb2)]
   ·rw[eE (v:=b) (by grind),jW ha (by grind),jW (p:=q) (by grind) (by grind),kF (zk h ha hpq (by grind))]
    omega
 ·rw[c8 (p:=p) (by grind) (by grind)]
  by_cases ha2:a.2≤q.2
  ·rw[lR (v:=a) (by grind) ha2]
   by_cases hb2:b.2≤q.2
   ·rw[lR (v:=b) (by grind) hb2,c8 (p:=q) (by grind) (by grind),kF (wN h hab (by grind) hb2)]
    omega
   ·rw[eE (v:=b) (by grind),jW (p:=q) ha2 (by grind),kF (yf h (by grind) ha2 (by grind))]
  ·rw[eE (v:=a) (by grind),eE (v:=b) (by grind),c8 (p:=q) (by grind) (by grind)]
theorem tx (h:Sep a b p q) (hpq:p.2≤q.2):we a b p-we a b q=fz p q b-fz p q a:=by
 by_cases hab:a.2≤b.2
 ·exact uH h hpq hab
 ·have:=uH h.ab hpq (by grind)
  rw[kB b a p,kB b a q];omega
end
def iO:Nat→(Nat→Int)→Int
 | 0,_=>0
 | n+1,f=>iO n f+f n
theorem oO (n:Nat) (f g:Nat→Int):iO n (fun i=>f i-g i)=iO n f-iO n g:=by
 induction n with
 | zero=>rfl
 | succ n ih=>simp only[iO]; rw[ih]; omega
theorem uw (n:Nat) (f:Nat→Int):iO n (fun i=>f (i+1)-f i)=f n-f 0:=by
 induction n with
 | zero=>simp[iO]
 | succ n ih=>simp only[iO]; rw[ih]; omega
theorem jH {n:Nat} {f:Nat→Int} (h:∀i,i<n→f i=0):iO n f=0:=by
 induction n with
 | zero=>rfl
 | succ n ih=>simp only[iO]; rw[ih fun i hi=>h i (by omega),h n (by omega)]; rfl
theorem uU {n k:Nat} {f:Nat→Int} (hk:k<n) (h:∀i,i<n→i≠k→f i=0):iO n f=f k:=by
 induction n with
 | zero=>omega
 | succ n ih =>
  simp only[iO]
  by_cases e:k=n
  ·subst e;rw[jH fun i hi=>h i (by omega) (by omega)]; omega
  ·rw[ih (by omega) (fun i hi hn=>h i (by omega) hn),h n (by omega) (by omega)]; omega
def cv (u w:P2) (t:Rat):P2:=(u.1+t*(w.1-u.1),u.2+t*(w.2-u.2))
def sm (p d:P2) (x:Rat):P2:=(p.1+x*d.1,p.2+x*d.2)
def cr (u w d:P2):Rat:=(w.1-u.1)*d.2-(w.2-u.2)*d.1
def dt (u w x:P2):Rat:=(w.1-u.1)*(x.1-w.1)+(w.2-u.2)*(x.2-w.2)
theorem cP {A B:Rat} (ha:0<A) (hb:0<B):∃k:Rat,0<k∧k<A∧k<B:=by
 by_cases h:A≤B
 ·exact⟨A/2,by grind,by grind,by grind⟩
 ·exact⟨B/2,by grind,by grind,by grind⟩
theorem qL {a b p q:P2} (α β γ:Rat) (h1:0≤af α β γ a) (h2:0≤af α β γ b) (h3:af α β γ p<0) (h4:af α β γ q<0):Sep a b p q:=by
 obtain⟨k,k1,k2,k3⟩:=cP (show 0 < -af α β γ p by grind) (show 0 < -af α β γ q by grind)
 refine⟨α,β,γ+k,?_,?_,?_,?_⟩<;>(unfold af at *; grind)
theorem vO {a b u w:P2} (h:Sep a b u w) {t s:Rat} (t0:0≤t) (t1:t≤1) (s0:0≤s) (s1:s≤1):Sep a b (cv u w t) (cv u w s):=by
 obtain⟨α,β,γ,h1,h2,h3,h4⟩:=h;have key:∀t:Rat,0≤t→t≤1→af α β γ (cv u w t)<0:=by
  intro t t0 t1;have e:af α β γ (cv u w t)=(1-t)*af α β γ u+t*af α β γ w:=by unfold af cv; grind
  rw[e];have m1:=cc (show 0≤1-t by grind) (show af α β γ u≤0 by grind)
  have m2:=cc t0 (show af α β γ w≤0 by grind)
  by_cases ht:0<t
  ·have:=cC ht h4
   grind
  ·have:=cC (show 0<1-t by grind) h3
   grind
 exact⟨α,β,γ,h1,h2,key t t0 t1,key s s0 s1⟩
theorem sq_pos {x:Rat} (h:x≠0):0<x*x:=by
 by_cases hx:0<x
 ·exact aJ hx hx
 ·have:=aJ (show 0 < -x by grind) (show 0 < -x by grind)
  grind
theorem rS (x:Rat):0≤x*x:=by
 by_cases hx:0≤x
 ·exact bl hx hx
 ·have:=bl (show 0≤-x by grind) (show 0≤-x by grind)
  grind
theorem oe {u w:P2} (h:u≠w):0<(w.1-u.1)*(w.1-u.1)+(w.2-u.2)*(w.2-u.2):=by
 have n1:=rS (w.1-u.1);have n2:=rS (w.2-u.2)
 by_cases h1:w.1-u.1=0
 ·have h2:w.2-u.2≠0:=fun e=>h (Prod.ext (by grind) (by grind))
  have:=sq_pos h2
  grind
 ·have:=sq_pos h1
  grind
theorem vg {u w x:P2} (hne:u≠w) (hc:tn u w x≠0∨0<dt u w x) {t s:Rat} (t1:t<1) (s1:s<1):Sep w x (cv u w t) (cv u w s):=by
 have e:∀t:Rat,af (-(x.2-w.2)) (x.1-w.1) ((x.2-w.2)*w.1-(x.1-w.1)*w.2) (cv u w t)=(1-t)*tn u w x:=fun t=>by unfold af cv tn; grind
 have f:∀t:Rat,af (x.2-w.2) (-(x.1-w.1)) (-((x.2-w.2)*w.1-(x.1-w.1)*w.2)) (cv u w t) = -((1-t)*tn u w x):=fun t=>by unfold af cv tn; grind
 have g:∀t:Rat,af (w.1-u.1) (w.2-u.2) (-((w.1-u.1)*w.1+(w.2-u.2)*w.2)) (cv u w t) = -((1-t)*((w.1-u.1)*(w.1-u.1)+(w.2-u.2)*(w.2-u.2))):=fun t=>by unfold af cv; grind
 by_cases h0:tn u w x=0
 ·have hd:0<dt u w x:=hc.resolve_left fun h=>h h0;have hl:=oe hne;refine qL (w.1-u.1) (w.2-u.2) (-((w.1-u.1)*w.1+(w.2-u.2)*w.2)) ?_ ?_ ?_ ?_
  ·unfold af; grind
  ·unfold dt at hd; unfold af; grind
  ·rw[g]; have:=aJ (show 0<1-t by grind) hl; grind
  ·rw[g]; have:=aJ (show 0<1-s by grind) hl; grind
 ·by_cases hp:0<tn u w x
  ·refine qL (x.2-w.2) (-(x.1-w.1)) (-((x.2-w.2)*w.1-(x.1-w.1)*w.2)) ?_ ?_ ?_ ?_
   ·unfold af; grind
   ·unfold af; grind
   ·rw[f]; have:=aJ (show 0<1-t by grind) hp; grind
   ·rw[f]; have:=aJ (show 0<1-s by grind) hp; grind
  ·have hm:tn u w x<0:=by grind
   refine qL (-(x.2-w.2)) (x.1-w.1) ((x.2-w.2)*w.1-(x.1-w.1)*w.2) ?_ ?_ ?_ ?_
   ·unfold af; grind
   ·unfold af; grind
   ·rw[e]; exact cC (show 0<1-t by grind) hm
   ·rw[e]; exact cC (show 0<1-s by grind) hm
theorem tV {x u w:P2} (hc:tn x u w≠0∨0<dt x u w) {t s:Rat} (t0:0<t) (s0:0<s):Sep x u (cv u w t) (cv u w s):=by
 have e:∀t:Rat,af (-(u.2-x.2)) (u.1-x.1) ((u.2-x.2)*x.1-(u.1-x.1)*x.2) (cv u w t)=t*tn x u w:=fun t=>by unfold af cv tn; grind
 have f:∀t:Rat,af (u.2-x.2) (-(u.1-x.1)) (-((u.2-x.2)*x.1-(u.1-x.1)*x.2)) (cv u w t) = -(t*tn x u w):=fun t=>by unfold af cv tn; grind
 have g:∀t:Rat,af (-(u.1-x.1)) (-(u.2-x.2)) ((u.1-x.1)*u.1+(u.2-x.2)*u.2) (cv u w t) = -(t*dt x u w):=fun t=>by unfold af cv dt; grind
 by_cases h0:tn x u w=0
 ·have hd:0<dt x u w:=hc.resolve_left fun h=>h h0;have n1:=rS (u.1-x.1);have n2:=rS (u.2-x.2);refine qL (-(u.1-x.1)) (-(u.2-x.2)) ((u.1-x.1)*u.1+(u.2-x.2)*u.2) ?_ ?_ ?_ ?_
  ·unfold af; grind
  ·unfold af; grind
  ·rw[g]; have:=aJ t0 hd; grind
  ·rw[g]; have:=aJ s0 hd; grind
 ·by_cases hp:0<tn x u w
  ·refine qL (u.2-x.2) (-(u.1-x.1)) (-((u.2-x.2)*x.1-(u.1-x.1)*x.2)) ?_ ?_ ?_ ?_
   ·unfold af; grind
   ·unfold af; grind
   ·rw[f]; have:=aJ t0 hp; grind
   ·rw[f]; have:=aJ s0 hp; grind
  ·have hm:tn x u w<0:=by grind
   refine qL (-(u.2-x.2)) (u.1-x.1) ((u.2-x.2)*x.1-(u.1-x.1)*x.2) ?_ ?_ ?_ ?_
   ·unfold af; grind
   ·unfold af; grind
   ·rw[e]; exact cC t0 hm
   ·rw[e]; exact cC s0 hm
def Ev (P:Rat→Rat→Prop):Prop:=∃e:Rat,0<e∧∀x y,0<x→x≤e→0<y→y≤e→P x y
theorem Ev.and {P Q:Rat→Rat→Prop} (h:Ev P) (g:Ev Q):Ev fun x y=>P x y∧Q x y:=by
 obtain⟨e,e0,h⟩:=h;obtain⟨f,f0,g⟩:=g
 by_cases hl:e≤f
 ·exact⟨e,e0,fun x y a b c d=>⟨h x y a b c d,g x y a (by grind) c (by grind)⟩⟩
 ·exact⟨f,f0,fun x y a b c d=>⟨h x y a (by grind) c (by grind),g x y a b c d⟩⟩
theorem Ev.mono {P Q:Rat→Rat→Prop} (h:Ev P) (g:∀x y,0<x→0<y→P x y→Q x y):Ev Q :=
 let ⟨e,e0,h⟩:=h
 ⟨e,e0,fun x y a b c d=>g x y a c (h x y a b c d)⟩
theorem Ev.of {P:Rat→Rat→Prop} (h:∀x y,0<x→0<y→P x y):Ev P:=⟨1,by grind,fun x y a _ c _=>h x y a c⟩
theorem Ev.all {P:Nat→Rat→Rat→Prop}:∀{n:Nat},(∀i,i<n→Ev (P i))→Ev fun x y=>∀i,i<n→P i x y
 | 0,_=>Ev.of fun _ _ _ _ i hi=>by omega
 | n+1,h=>by
  have h1:=Ev.all (P:=P) (n:=n) fun i hi=>h i (by omega)
  refine(h1.and (h n (by omega))).mono fun x y _ _ g i hi=>?_
  by_cases e:i=n
  ·subst e; exact g.2
  ·exact g.1 i (by omega)
theorem uP {A:Rat} (h:A<0) (B:Rat):∃e:Rat,0<e∧∀x,0<x→x≤e→A+x*B<0:=by
 by_cases hb:B≤0
 ·exact⟨1,by grind,fun x hx _=>by have:=cc (show 0≤x by grind) hb; grind⟩
 ·have hb0:B≠0:=by grind
  have hi:B*B⁻¹=1:=Rat.mul_inv_cancel B hb0;have e1:(-A/2*B⁻¹)*B = -A/2:=by grind
  have hpos:0 < -A/2*B⁻¹:=by
   refine Decidable.byContradiction fun hc=>?_;have:=bl (show 0≤-(-A/2*B⁻¹) by grind) (show 0≤B by grind)
   grind
  refine⟨-A/2*B⁻¹,hpos,fun x hx hl=>?_⟩;have:=bl (show 0≤-A/2*B⁻¹-x by grind) (show 0≤B by grind)
  grind
theorem m7 {a b p q:P2} (h:Sep a b p q) (d d':P2):Ev fun x y=>Sep a b (sm p d x) (sm q d' y):=by
 obtain⟨α,β,γ,h1,h2,h3,h4⟩:=h;obtain⟨e,e0,he⟩:=uP h3 (α*d.1+β*d.2);obtain⟨f,f0,hf⟩:=uP h4 (α*d'.1+β*d'.2);have k1:∀x,af α β γ (sm p d x)=af α β γ p+x*(α*d.1+β*d.2):=fun x=>by unfold af sm; grind
 have k2:∀x,af α β γ (sm q d' x)=af α β γ q+x*(α*d'.1+β*d'.2):=fun x=>by unfold af sm; grind
 obtain⟨g,g0,ge,gf⟩:=cP e0 f0;exact⟨g,g0,fun x y x0 xg y0 yg=>⟨α,β,γ,h1,h2,by rw[k1]; exact he x x0 (by grind),by rw[k2]; exact hf y y0 (by grind)⟩⟩
structure Simple (n:Nat) (v:Nat→P2):Prop where
 n3:2<n
 cl:v n=v 0
 cl1:v (n+1)=v 1
 ne:∀i,i<n→v i≠v (i+1)
 qK:∀i,i<n→tn (v i) (v (i+1)) (v (i+2))≠0∨0<dt (v i) (v (i+1)) (v (i+2))
 sep:∀i j,i<n→j<n→i≠j→j≠i+1→i≠j+1→¬(i=0∧j+1=n)→¬(j=0∧i+1=n)→Sep (v i) (v (i+1)) (v j) (v (j+1))
def W (n:Nat) (v:Nat→P2) (p:P2):Int:=iO n fun i=>we (v i) (v (i+1)) p
section
variable {n : Nat} {v : Nat → P2}
theorem qV (hv:v n=v 0) (p q:P2):W n v p-W n v q=iO n fun i=>(we (v i) (v (i+1)) p-we (v i) (v (i+1)) q)-(fz p q (v (i+1))-fz p q (v i)):=by
 have h1:=oO n (fun i=>we (v i) (v (i+1)) p-we (v i) (v (i+1)) q) (fun i=>fz p q (v (i+1))-fz p q (v i));have h2:=uw n fun i=>fz p q (v i);have h3:=oO n (fun i=>we (v i) (v (i+1)) p) fun i=>we (v i) (v (i+1)) q;rw[hv] at h2;rw[h1,h2,h3];unfold W; omega
theorem qu (hv:v n=v 0) {p q:P2} (h:∀i,i<n→Sep (v i) (v (i+1)) p q):W n v p=W n v q:=by
 by_cases hl:p.2≤q.2
 ·have:=qV hv p q;rw[jH fun i hi=>by rw[tx (h i hi) hl]; omega] at this
  omega
 ·have:=qV hv q p;rw[jH fun i hi=>by rw[tx (h i hi).pq (by grind)]; omega] at this
  omega
theorem q9 (hv:v n=v 0) {k:Nat} (hk:k<n) {p q:P2} (hl:p.2≤q.2) (h:∀i,i<n→i≠k→Sep (v i) (v (i+1)) p q) :
  W n v p-W n v q=(we (v k) (v (k+1)) p-we (v k) (v (k+1)) q)-(fz p q (v (k+1))-fz p q (v k)):=by
 rw[qV hv p q];exact uU hk fun i hi hn=>by rw[tx (h i hi hn) hl]; omega
theorem Simple.off (S:Simple n v) {i j:Nat} (hi:i<n) (hj:j<n) (hij:i≠j) {t s:Rat} (t0:0≤t) (t1:t≤1) (s0:0≤s) (s1:s≤1)
  (hn:j=i+1∨(i+1=n∧j=0)→t<1∧s<1) (hp:i=j+1∨(j+1=n∧i=0)→0<t∧0<s):Sep (v j) (v (j+1)) (cv (v i) (v (i+1)) t) (cv (v i) (v (i+1)) s):=by
 have hn3:=S.n3
 by_cases h1:j=i+1∨(i+1=n∧j=0)
 ·obtain⟨a,b⟩:=hn h1;have e:v j=v (i+1)∧v (j+1)=v (i+2):=by
   rcases h1 with rfl|⟨h,rfl⟩
   ·exact⟨rfl,rfl⟩
   ·have:i+2=n+1:=by omega
    rw[this,S.cl1,h,S.cl]; exact⟨rfl,rfl⟩
  rw[e.1,e.2];exact vg (S.ne i hi) (S.qK i hi) a b
 ·by_cases h2:i=j+1∨(j+1=n∧i=0)
  ·obtain⟨a,b⟩:=hp h2;have e:v (j+1)=v i∧v (j+2)=v (i+1):=by
    rcases h2 with rfl|⟨h,rfl⟩
    ·exact⟨rfl,rfl⟩
    ·have:j+2=n+1:=by omega
     rw[this,S.cl1,h,S.cl]; exact⟨rfl,rfl⟩
   have:=S.qK j hj;rw[e.1,e.2] at this;rw[e.1];exact tV this a b
  ·exact vO (S.sep j i hj hi (by omega) (by omega) (by omega) (by omega) (by omega)) t0 t1 s0 s1
theorem gS (u w d:P2) (t x:Rat):tn u w (sm (cv u w t) d x)=x*cr u w d:=by unfold tn sm cv cr; grind
theorem gb {u w p q:P2} {σ:Rat} (h1:0 < σ*tn u w p) (h2:0 < σ*tn u w q):Sep u w p q:=by
 refine qL (σ*(w.2-u.2)) (-(σ*(w.1-u.1))) (-(σ*((w.2-u.2)*u.1-(w.1-u.1)*u.2))) ?_ ?_ ?_ ?_
 ·unfold af; grind
 ·unfold af; grind
 ·unfold tn at h1; unfold af; grind
 ·unfold tn at h2; unfold af; grind
theorem Simple.beside (S:Simple n v) {σ:Rat} {i:Nat} (hi:i<n) {t s:Rat} (t0:0<t) (t1:t<1) (s0:0<s) (s1:s<1) {d d':P2} (h:0 < σ*cr (v i) (v (i+1)) d) (h':0 < σ*cr (v i) (v (i+1)) d') :
  Ev fun x y=>W n v (sm (cv (v i) (v (i+1)) t) d x)=W n v (sm (cv (v i) (v (i+1)) s) d' y):=by
 have hE:Ev fun x y=>∀j,j<n→Sep (v j) (v (j+1)) (sm (cv (v i) (v (i+1)) t) d x) (sm (cv (v i) (v (i+1)) s) d' y):=by
  refine Ev.all fun j hj=>?_
  by_cases e:i=j
  ·subst e;refine Ev.of fun x y hx hy=>gb (σ:=σ) ?_ ?_
   ·rw[gS]; have:=aJ hx h; grind
   ·rw[gS]; have:=aJ hy h'; grind
  ·exact m7 (S.off hi hj e (by grind) (by grind) (by grind) (by grind) (fun _=>⟨t1,s1⟩) (fun _=>⟨t0,s0⟩)) d d'
 exact hE.mono fun x y _ _ h=>qu S.cl h
def HS (n:Nat) (v:Nat→P2) (σ:Rat) (i:Nat) (L:Int):Prop:=∀t d,0<t→t<1→0 < σ*cr (v i) (v (i+1)) d→∃e:Rat,0<e∧∀x,0<x→x≤e→W n v (sm (cv (v i) (v (i+1)) t) d x)=L
theorem Simple.hs (S:Simple n v) {σ:Rat} (hσ:σ≠0) {i:Nat} (hi:i<n):∃L,HS n v σ i L:=by
 have hl:=oe (S.ne i hi)
 let d0:P2:=(-(σ*((v (i+1)).2-(v i).2)),σ*((v (i+1)).1-(v i).1))
 have h0:0 < σ*cr (v i) (v (i+1)) d0:=by
  have:=aJ (sq_pos hσ) hl;have e:σ*cr (v i) (v (i+1)) d0=σ*σ*(((v (i+1)).1-(v i).1)*((v (i+1)).1-(v i).1)+((v (i+1)).2-(v i).2)*((v (i+1)).2-(v i).2)):=by
   show σ*(((v (i+1)).1-(v i).1)*(σ*((v (i+1)).1-(v i).1))-((v (i+1)).2-(v i).2)*(-(σ*((v (i+1)).2-(v i).2))))=_
   grind
  rw[e]; exact this
 obtain⟨e,e0,he⟩:=S.beside (σ:=σ) hi (t:=1/2) (s:=1/2) (by grind) (by grind) (by grind) (by grind) h0 h0
 refine⟨W n v (sm (cv (v i) (v (i+1)) (1/2)) d0 e),fun t d t0 t1 hd=>?_⟩;obtain⟨f,f0,hf⟩:=S.beside (σ:=σ) hi (t:=t) (s:=1/2) t0 t1 (by grind) (by grind) hd h0
 obtain⟨g,g0,ge,gf⟩:=cP e0 f0;refine⟨f,f0,fun x x0 x1=>?_⟩;rw[hf x g x0 x1 g0 (by grind),he g e g0 (by grind) e0 (by grind)]
theorem HS.inj {σ:Rat} {i:Nat} {L L':Int} (h:HS n v σ i L) (h':HS n v σ i L') (hd:∃d,0 < σ*cr (v i) (v (i+1)) d):L=L':=by
 obtain⟨d,hd⟩:=hd;obtain⟨e,e0,he⟩:=h (1/2) d (by grind) (by grind) hd
 obtain⟨f,f0,hf⟩:=h' (1/2) d (by grind) (by grind) hd
 obtain⟨g,g0,ge,gf⟩:=cP e0 f0;rw[←he g g0 (by grind),hf g g0 (by grind)]
theorem Simple.xd (S:Simple n v) {i:Nat} (hi:i<n) {L R:Int} (hL:HS n v 1 i L) (hR:HS n v (-1) i R):L=R+1:=by
 have hne:=S.ne i hi;have eoff:∀d d':P2,Ev fun x y=>∀j,j<n→j≠i→Sep (v j) (v (j+1)) (sm (cv (v i) (v (i+1)) (1/2)) d x) (sm (cv (v i) (v (i+1)) (1/2)) d' y):=fun d d' =>
  Ev.all (P:=fun j x y=>j≠i→Sep (v j) (v (j+1)) (sm (cv (v i) (v (i+1)) (1/2)) d x) (sm (cv (v i) (v (i+1)) (1/2)) d' y)) fun j hj=>by
   by_cases e:j=i
   ·exact Ev.of fun _ _ _ _ h=>absurd e h
   ·exact(m7 (S.off hi hj (Ne.symm e) (t:=1/2) (s:=1/2) (by grind) (by grind) (by grind) (by grind) (fun _=>⟨by grind,by grind⟩) (fun _=>⟨by grind,by grind⟩)) d d').mono fun x y _ _ h _=>h
 have pick:∀d d':P2,0<cr (v i) (v (i+1)) d→0 < -cr (v i) (v (i+1)) d'→∃x:Rat,0<x∧W n v (sm (cv (v i) (v (i+1)) (1/2)) d x)=L∧W n v (sm (cv (v i) (v (i+1)) (1/2)) d' x)=R ∧
   (∀j,j<n→j≠i→Sep (v j) (v (j+1)) (sm (cv (v i) (v (i+1)) (1/2)) d x) (sm (cv (v i) (v (i+1)) (1/2)) d' x))∧∀B:Rat,B<0→True:=by
  intro d d' hd hd';obtain⟨e,e0,he⟩:=hL (1/2) d (by grind) (by grind) (by grind)
  obtain⟨f,f0,hf⟩:=hR (1/2) d' (by grind) (by grind) (by grind)
  obtain⟨g,g0,hg⟩:=eoff d d';obtain⟨k,k0,ke,kf⟩:=cP e0 f0;obtain⟨m,m0,mk,mg⟩:=cP k0 g0;exact⟨m,m0,he m m0 (by grind),hf m m0 (by grind),hg m m m0 (by grind) m0 (by grind),fun _ _=>trivial⟩
 generalize hu:v i=u at *;generalize hw:v (i+1)=w at *
 by_cases h0:w.2=u.2
 ·
  have h1:w.1≠u.1:=fun e=>hne (Prod.ext e.symm h0.symm)
  by_cases hp:u.1<w.1
  ·obtain⟨x,x0,xL,xR,xs,_⟩:=pick (0,1) (0,-1) (by unfold cr; grind) (by unfold cr; grind)
   have k:=q9 S.cl hi (p:=sm (cv u w (1/2)) (0,-1) x) (q:=sm (cv u w (1/2)) (0,1) x) (by unfold sm; grind) fun j hj hn=>(xs j hj hn).pq
   rw[hu,hw,c8 (by unfold sm cv; grind) (by unfold sm cv; grind),c8 (by unfold sm cv; grind) (by unfold sm cv; grind),lR (v:=w) (by unfold sm cv; grind) (by unfold sm cv; grind),lR (v:=u) (by unfold sm cv; grind) (by unfold sm cv; grind)] at k
   have t1:tn (sm (cv u w (1/2)) (0,-1) x) (sm (cv u w (1/2)) (0,1) x) w = -(x*(w.1-u.1)):=by unfold tn sm cv; grind
   have t2:tn (sm (cv u w (1/2)) (0,-1) x) (sm (cv u w (1/2)) (0,1) x) u=x*(w.1-u.1):=by unfold tn sm cv; grind
   have m:=aJ x0 (show 0<w.1-u.1 by grind)
   rw[t1,t2,if_pos (by grind),if_neg (by grind),xL,xR] at k
   omega
  ·obtain⟨x,x0,xL,xR,xs,_⟩:=pick (0,-1) (0,1) (by unfold cr; grind) (by unfold cr; grind)
   have k:=q9 S.cl hi (p:=sm (cv u w (1/2)) (0,-1) x) (q:=sm (cv u w (1/2)) (0,1) x) (by unfold sm; grind) fun j hj hn=>xs j hj hn
   rw[hu,hw,c8 (by unfold sm cv; grind) (by unfold sm cv; grind),c8 (by unfold sm cv; grind) (by unfold sm cv; grind),lR (v:=w) (by unfold sm cv; grind) (by unfold sm cv; grind),lR (v:=u) (by unfold sm cv; grind) (by unfold sm cv; grind)] at k
   have t1:tn (sm (cv u w (1/2)) (0,-1) x) (sm (cv u w (1/2)) (0,1) x) w=x*(u.1-w.1):=by unfold tn sm cv; grind
   have t2:tn (sm (cv u w (1/2)) (0,-1) x) (sm (cv u w (1/2)) (0,1) x) u = -(x*(u.1-w.1)):=by unfold tn sm cv; grind
   have m:=aJ x0 (show 0<u.1-w.1 by grind)
   rw[t1,t2,if_neg (by grind),if_pos (by grind),xL,xR] at k
   omega
 ·by_cases hp:u.2<w.2
  ·obtain⟨x,x0,xL,xR,xs,_⟩:=pick (-1,0) (1,0) (by unfold cr; grind) (by unfold cr; grind)
   have k:=q9 S.cl hi (p:=sm (cv u w (1/2)) (-1,0) x) (q:=sm (cv u w (1/2)) (1,0) x) (by unfold sm; grind) fun j hj hn=>xs j hj hn
   rw[eE (by unfold sm; grind),eE (by unfold sm; grind),hu,hw,jW (by unfold sm cv; grind) (by unfold sm cv; grind),jW (by unfold sm cv; grind) (by unfold sm cv; grind),gS,gS] at k
   have m:=aJ x0 (show 0<w.2-u.2 by grind)
   rw[if_pos (by unfold cr; grind),if_neg (by unfold cr; grind),xL,xR] at k
   omega
  ·obtain⟨x,x0,xL,xR,xs,_⟩:=pick (1,0) (-1,0) (by unfold cr; grind) (by unfold cr; grind)
   have k:=q9 S.cl hi (p:=sm (cv u w (1/2)) (-1,0) x) (q:=sm (cv u w (1/2)) (1,0) x) (by unfold sm; grind) fun j hj hn=>(xs j hj hn).pq
   have e1:=kB w u (sm (cv u w (1/2)) (-1,0) x);have e2:=kB w u (sm (cv u w (1/2)) (1,0) x);rw[jW (a:=w) (b:=u) (by unfold sm cv; grind) (by unfold sm cv; grind),iA u w,gS] at e1
   rw[jW (a:=w) (b:=u) (by unfold sm cv; grind) (by unfold sm cv; grind),iA u w,gS] at e2
   have m:=aJ x0 (show 0<u.2-w.2 by grind)
   rw[if_pos (by unfold cr; grind)] at e1
   rw[if_neg (by unfold cr; grind)] at e2
   rw[eE (by unfold sm; grind),eE (by unfold sm; grind),hu,hw,e1,e2,xL,xR] at k
   omega
theorem Simple.qf (S:Simple n v) {σ:Rat} {i:Nat} (hi:i+1<n) {d:P2} (hd:0 < σ*cr (v i) (v (i+1)) d) (hd':0 < σ*cr (v (i+1)) (v (i+2)) d) (hs:0≤σ*tn (v i) (v (i+1)) (v (i+2)))
  {L L':Int} (h:HS n v σ i L) (h':HS n v σ (i+1) L'):L=L':=by
 have hn3:=S.n3;have e1:Ev fun x y=>∀j,j<n→Sep (v j) (v (j+1)) (sm (cv (v i) (v (i+1)) (1/2)) d x) (sm (cv (v i) (v (i+1)) 1) d y):=by
  refine Ev.all fun j hj=>?_
  by_cases e:i=j
  ·subst e;refine Ev.of fun x y hx hy=>gb (σ:=σ) ?_ ?_
   ·rw[gS]; have:=aJ hx hd; grind
   ·rw[gS]; have:=aJ hy hd; grind
  ·by_cases e':j=i+1
   ·subst e';refine Ev.of fun x y hx hy=>gb (σ:=σ) ?_ ?_
    ·have m1:=aJ hx hd';have:σ*tn (v (i+1)) (v (i+1+1)) (sm (cv (v i) (v (i+1)) (1/2)) d x)=1/2*(σ*tn (v i) (v (i+1)) (v (i+2)))+x*(σ*cr (v (i+1)) (v (i+2)) d):=by
      unfold tn sm cv cr; grind
     rw[this]; grind
    ·have m1:=aJ hy hd';have:σ*tn (v (i+1)) (v (i+1+1)) (sm (cv (v i) (v (i+1)) 1) d y)=y*(σ*cr (v (i+1)) (v (i+2)) d):=by
      unfold tn sm cv cr; grind
     rw[this]; exact m1
   ·exact m7 (S.off (by omega) hj e (by grind) (by grind) (by grind) (by grind) (fun h=>by omega) (fun _=>⟨by grind,by grind⟩)) d d
 have e2:Ev fun x y=>∀j,j<n→Sep (v j) (v (j+1)) (sm (cv (v (i+1)) (v (i+2)) (1/2)) d x) (sm (cv (v (i+1)) (v (i+2)) 0) d y):=by
  refine Ev.all fun j hj=>?_
  by_cases e:j=i+1
  ·subst e;refine Ev.of fun x y hx hy=>gb (σ:=σ) ?_ ?_
   ·rw[gS]; have:=aJ hx hd'; grind
   ·rw[gS]; have:=aJ hy hd'; grind
  ·by_cases e':j=i
   ·subst e';refine Ev.of fun x y hx hy=>gb (σ:=σ) ?_ ?_
    ·have m1:=aJ hx hd;have:σ*tn (v j) (v (j+1)) (sm (cv (v (j+1)) (v (j+2)) (1/2)) d x)=1/2*(σ*tn (v j) (v (j+1)) (v (j+2)))+x*(σ*cr (v j) (v (j+1)) d):=by
      unfold tn sm cv cr; grind
     rw[this]; grind
    ·have m1:=aJ hy hd;have:σ*tn (v j) (v (j+1)) (sm (cv (v (j+1)) (v (j+2)) 0) d y)=y*(σ*cr (v j) (v (j+1)) d):=by
      unfold tn sm cv cr; grind
     rw[this]; exact m1
   ·exact m7 (S.off (i:=i+1) hi hj (Ne.symm e) (by grind) (by grind) (by grind) (by grind) (fun _=>⟨by grind,by grind⟩) (fun h=>by omega)) d d
 obtain⟨a,a0,ha⟩:=e1;obtain⟨b,b0,hb⟩:=e2;obtain⟨f,f0,hf⟩:=h (1/2) d (by grind) (by grind) hd
 obtain⟨g,g0,hg⟩:=h' (1/2) d (by grind) (by grind) hd'
 obtain⟨k,k0,ka,kb⟩:=cP a0 b0;obtain⟨l,l0,lf,lg⟩:=cP f0 g0;obtain⟨x,x0,xk,xl⟩:=cP k0 l0;have w1:=qu S.cl (ha x x x0 (by grind) x0 (by grind))
 have w2:=qu S.cl (hb x x x0 (by grind) x0 (by grind))
 rw[hf x x0 (by grind)] at w1
 rw[hg x x0 (by grind)] at w2
 have e:cv (v i) (v (i+1)) 1=cv (v (i+1)) (v (i+2)) 0:=by unfold cv; exact Prod.ext (by grind) (by grind)
 rw[w1,w2,e]
theorem Simple.step (S:Simple n v) {i:Nat} (hi:i+1<n) {L L':Int} (h:HS n v 1 i L) (h':HS n v 1 (i+1) L'):L=L':=by
 have hne:=S.ne i (by omega)
 have ht:=S.qK i (by omega)
 have c1:cr (v i) (v (i+1)) ((v (i+2)).1-(v (i+1)).1-((v (i+1)).1-(v i).1),(v (i+2)).2-(v (i+1)).2-((v (i+1)).2-(v i).2))=tn (v i) (v (i+1)) (v (i+2)):=by unfold cr tn; grind
 have c2:cr (v (i+1)) (v (i+2)) ((v (i+2)).1-(v (i+1)).1-((v (i+1)).1-(v i).1),(v (i+2)).2-(v (i+1)).2-((v (i+1)).2-(v i).2))=tn (v i) (v (i+1)) (v (i+2)):=by unfold cr tn; grind
 by_cases h0:tn (v i) (v (i+1)) (v (i+2))=0
 ·have hd:0<dt (v i) (v (i+1)) (v (i+2)):=ht.resolve_left fun e=>e h0;have hl:=oe hne;refine S.qf (σ:=1) hi (d:=(-((v (i+1)).2-(v i).2),(v (i+1)).1-(v i).1)) ?_ ?_ (by rw[h0]; grind) h h'
  ·unfold cr; grind
  ·unfold dt at hd; unfold cr; grind
 ·by_cases hp:0<tn (v i) (v (i+1)) (v (i+2))
  ·exact S.qf (σ:=1) hi (by rw[c1]; grind) (by rw[c2]; grind) (by grind) h h'
  ·obtain⟨R,hR⟩:=S.hs (σ:=-1) (by grind) (i:=i) (by omega)
   obtain⟨R',hR'⟩:=S.hs (σ:=-1) (by grind) (i:=i+1) (by omega)
   have e:=S.qf (σ:=-1) hi (by rw[c1]; grind) (by rw[c2]; grind) (by grind) hR hR'
   have e1:=S.xd (by omega) h hR
   have e2:=S.xd hi h' hR';omega
end
section
variable {n : Nat} {v : Nat → P2}
def dd (u w:P2) (y:Rat):Int:=if u.2<y∧y<w.2 then 1 else if w.2<y∧y<u.2 then -1 else 0
end
abbrev I2:=Int × Int
def ti (a b c:I2):Int:=(b.1-a.1)*(c.2-a.2)-(b.2-a.2)*(c.1-a.1)
theorem iG (a b p:I2):ti b a p = -ti a b p:=by unfold ti; grind
theorem vd (a b:I2):ti a b a=0:=by unfold ti; grind
theorem tU (a b:I2):ti a b b=0:=by unfold ti; grind
theorem wx (a b c d:I2):ti a b d-ti a b c=ti c d a-ti c d b:=by unfold ti; grind
def dE (a b p:I2):Prop:=ti a b p=0∧min a.1 b.1≤p.1∧p.1≤max a.1 b.1∧min a.2 b.2≤p.2∧p.2≤max a.2 b.2
instance (a b p:I2):Decidable (dE a b p):=by unfold dE; infer_instance
theorem dE.swap {a b p:I2} (h:dE a b p):dE b a p:=by
 obtain⟨h1,h2⟩:=h;exact⟨by rw[iG,h1]; rfl,by omega⟩
theorem lO {a b p:I2}:dE a b p↔dE b a p:=⟨dE.swap,dE.swap⟩
theorem tR {a b p:I2} (h:a.1<b.1):dE a b p↔ti a b p=0∧a.1≤p.1∧p.1≤b.1:=by
 refine⟨fun⟨h1,h2⟩=>⟨h1,by omega⟩,fun⟨h1,h2,h3⟩=>⟨h1,by omega,by omega,?_,?_⟩⟩
 all_goals
  unfold ti at h1;have e1:(b.1-a.1)*(p.2-a.2)=(b.2-a.2)*(p.1-a.1):=by omega
  have e2:(b.1-a.1)*(b.2-p.2)=(b.2-a.2)*(b.1-p.1):=by grind
  by_cases hy:a.2≤b.2
  ·have m1:0≤(b.1-a.1)*(p.2-a.2):=by rw[e1]; exact Int.mul_nonneg (by omega) (by omega)
   have m2:0≤(b.1-a.1)*(b.2-p.2):=by rw[e2]; exact Int.mul_nonneg (by omega) (by omega)
   have k1:=Int.nonneg_of_mul_nonneg_right m1 (by omega)
   have k2:=Int.nonneg_of_mul_nonneg_right m2 (by omega)
   omega
  ·have m1:0≤(b.1-a.1)*(a.2-p.2):=by
    rw[show(b.1-a.1)*(a.2-p.2)=(a.2-b.2)*(p.1-a.1) by grind]; exact Int.mul_nonneg (by omega) (by omega)
   have m2:0≤(b.1-a.1)*(p.2-b.2):=by
    rw[show(b.1-a.1)*(p.2-b.2)=(a.2-b.2)*(b.1-p.1) by grind]; exact Int.mul_nonneg (by omega) (by omega)
   have k1:=Int.nonneg_of_mul_nonneg_right m1 (by omega)
   have k2:=Int.nonneg_of_mul_nonneg_right m2 (by omega)
   omega
theorem uL {a b p:I2} (h:a.1=b.1) (hab:a≠b):dE a b p↔p.1=a.1∧min a.2 b.2≤p.2∧p.2≤max a.2 b.2:=by
 have hy:a.2≠b.2:=fun e=>hab (Prod.ext h e);refine⟨fun⟨_,h2⟩=>by omega,fun⟨h1,h2⟩=>⟨?_,by omega⟩⟩
 unfold ti;rw[h1,←h]; grind
theorem dK {a b p:I2} (h:a.1=b.1) (hab:a≠b) (h0:ti a b p=0):p.1=a.1:=by
 have hy:b.2-a.2≠0:=fun e=>hab (Prod.ext h (by omega))
 unfold ti at h0;rw[h,Int.sub_self,Int.zero_mul] at h0;have:(b.2-a.2)*(p.1-b.1)=0:=by omega
 rcases Int.mul_eq_zero.1 this with e|e
 ·exact absurd e hy
 ·omega
theorem iS {a b p q:I2} (h:a.1≠b.1) (hp:ti a b p=0) (hq:ti a b q=0) (e:p.1=q.1):p=q:=by
 have:(b.1-a.1)*(p.2-q.2)=0:=by unfold ti at hp hq; rw[e] at hp; grind
 rcases Int.mul_eq_zero.1 this with e' | e'
 ·omega
 ·exact Prod.ext e (by omega)
def Lx (a b:I2):Prop:=a.1<b.1∨a.1=b.1∧a.2≤b.2
theorem xz {a b p:I2} (hab:a≠b) (h:Lx a b):dE a b p↔ti a b p=0∧Lx a p∧Lx p b:=by
 unfold Lx at *
 by_cases hx:a.1<b.1
 ·rw[tR hx];refine⟨fun⟨h1,h2,h3⟩=>⟨h1,?_,?_⟩,fun⟨h1,h2,h3⟩=>⟨h1,by omega,by omega⟩⟩
  ·by_cases e:p.1=a.1
   ·have:=iS (by omega) h1 (vd a b) e
    rw[this]; omega
   ·omega
  ·by_cases e:p.1=b.1
   ·have:=iS (by omega) h1 (tU a b) e
    rw[this]; omega
   ·omega
 ·have e:a.1=b.1:=by omega
  rw[uL e hab];refine⟨fun⟨h1,h2⟩=>⟨?_,by omega,by omega⟩,fun⟨h1,h2,h3⟩=>?_⟩
  ·unfold ti; rw[h1,←e]; grind
  ·have:=dK e hab h1;omega
def dZ (a b c d x:I2):Prop:=(x=a∨x=b∨x=c∨x=d)∧dE a b x∧dE c d x
def low (a b c d:I2):Int:=if a.1=b.1 then max (min a.2 b.2) (min c.2 d.2)-min (max a.2 b.2) (max c.2 d.2) else max (min a.1 b.1) (min c.1 d.1)-min (max a.1 b.1) (max c.1 d.1)
theorem oh {a b c d:I2} (hab:a≠b) (hcd:c≠d) (hc:ti a b c=0) (hd:ti a b d=0):∃f:I2→Int,low a b c d=max (min (f a) (f b)) (min (f c) (f d))-min (max (f a) (f b)) (max (f c) (f d)) ∧
  (∀x y,ti a b x=0→ti a b y=0→f x=f y→x=y)∧(∀x,dE a b x↔ti a b x=0∧min (f a) (f b)≤f x∧f x≤max (f a) (f b))∧(∀x,ti a b x=0→(dE c d x↔min (f c) (f d)≤f x∧f x≤max (f c) (f d))):=by
 by_cases h:a.1=b.1
 ·have h3:=dK h hab hc;have h4:=dK h hab hd;refine⟨fun x=>x.2,by unfold low; rw[if_pos h],fun x y hx hy e=>Prod.ext ((dK h hab hx).trans (dK h hab hy).symm) e,fun x=>?_,fun x hx=>?_⟩
  ·rw[uL h hab];refine⟨fun⟨h0,h1⟩=>⟨?_,h1⟩,fun⟨h0,h1⟩=>⟨dK h hab h0,h1⟩⟩;unfold ti; rw[h0,←h]; grind
  ·rw[uL (by omega) hcd]
   have:=dK h hab hx;exact⟨fun h=>h.2,fun h=>⟨by omega,h⟩⟩
 ·have h2:c.1≠d.1:=fun e=>hcd (iS h hc hd e);have dir:∀x,ti a b x=0→ti c d x=0:=fun x hx=>by
   have e0:(b.1-a.1)*(c.2-a.2)=(b.2-a.2)*(c.1-a.1):=by unfold ti at hc; omega
   have e1:(b.1-a.1)*(d.2-a.2)=(b.2-a.2)*(d.1-a.1):=by unfold ti at hd; omega
   have e2:(b.1-a.1)*(x.2-a.2)=(b.2-a.2)*(x.1-a.1):=by unfold ti at hx; omega
   have:(b.1-a.1)*ti c d x=0:=by
    unfold ti;have:(b.1-a.1)*((d.1-c.1)*(x.2-c.2)-(d.2-c.2)*(x.1-c.1))=(d.1-c.1)*((b.1-a.1)*(x.2-a.2)-(b.1-a.1)*(c.2-a.2))-((b.1-a.1)*(d.2-a.2)-(b.1-a.1)*(c.2-a.2))*(x.1-c.1):=by grind
    rw[this,e0,e1,e2]; grind
   rcases Int.mul_eq_zero.1 this with e|e
   ·omega
   ·exact e
  have gen:∀{u w:I2},u.1≠w.1→∀x,(dE u w x↔ti u w x=0∧min u.1 w.1≤x.1∧x.1≤max u.1 w.1):=fun {u w} huw x=>by
   by_cases hl:u.1<w.1
   ·rw[tR hl]; refine⟨fun⟨h0,h1⟩=>⟨h0,by omega⟩,fun⟨h0,h1⟩=>⟨h0,by omega⟩⟩
   ·rw[lO,tR (by omega),iG]; refine⟨fun⟨h0,h1⟩=>⟨by omega,by omega⟩,fun⟨h0,h1⟩=>⟨by omega,by omega⟩⟩
  refine⟨fun x=>x.1,by unfold low; rw[if_neg h],fun x y hx hy e=>iS h hx hy e,gen h,fun x hx=>?_⟩
  rw[gen h2];exact⟨fun h=>h.2,fun h=>⟨dir x hx,h⟩⟩
theorem pt {a b c d:I2} (hab:a≠b) (hcd:c≠d) (hc:ti a b c=0) (hd:ti a b d=0) :
  (0<low a b c d↔∀x,¬dZ a b c d x)∧(low a b c d<0↔∃x y,dZ a b c d x∧dZ a b c d y∧x≠y):=by
 obtain⟨f,e,hi,h1,h2⟩:=oh hab hcd hc hd;have ha0:=vd a b;have hb0:=tU a b;have hfab:f a≠f b:=fun h=>hab (hi a b ha0 hb0 h);have hfcd:f c≠f d:=fun h=>hcd (hi c d hc hd h);have com:∀x,dZ a b c d x↔(x=a∨x=b∨x=c∨x=d)∧(min (f a) (f b)≤f x∧f x≤max (f a) (f b))∧(min (f c) (f d)≤f x∧f x≤max (f c) (f d)):=fun x=>by
  unfold dZ;refine⟨fun⟨h,g1,g2⟩=>⟨h,((h1 x).1 g1).2,(h2 x ((h1 x).1 g1).1).1 g2⟩,fun⟨h,g1,g2⟩=>?_⟩;have hx:ti a b x=0:=by rcases h with rfl|rfl|rfl|rfl<;>assumption
  exact⟨h,(h1 x).2 ⟨hx,g1⟩,(h2 x hx).2 g2⟩
 rw[e];have lo:∃x,(x=a∨x=b∨x=c∨x=d)∧f x=max (min (f a) (f b)) (min (f c) (f d)):=by
  by_cases g1:f a≤f b<;>by_cases g2:f c≤f d
  ·by_cases g3:f a≤f c
   ·exact⟨c,by simp,by omega⟩
   ·exact⟨a,by simp,by omega⟩
  ·by_cases g3:f a≤f d
   ·exact⟨d,by simp,by omega⟩
   ·exact⟨a,by simp,by omega⟩
  ·by_cases g3:f b≤f c
   ·exact⟨c,by simp,by omega⟩
   ·exact⟨b,by simp,by omega⟩
  ·by_cases g3:f b≤f d
   ·exact⟨d,by simp,by omega⟩
   ·exact⟨b,by simp,by omega⟩
 have hi':∃x,(x=a∨x=b∨x=c∨x=d)∧f x=min (max (f a) (f b)) (max (f c) (f d)):=by
  by_cases g1:f a≤f b<;>by_cases g2:f c≤f d
  ·by_cases g3:f b≤f d
   ·exact⟨b,by simp,by omega⟩
   ·exact⟨d,by simp,by omega⟩
  ·by_cases g3:f b≤f c
   ·exact⟨b,by simp,by omega⟩
   ·exact⟨c,by simp,by omega⟩
  ·by_cases g3:f a≤f d
   ·exact⟨a,by simp,by omega⟩
   ·exact⟨d,by simp,by omega⟩
  ·by_cases g3:f a≤f c
   ·exact⟨a,by simp,by omega⟩
   ·exact⟨c,by simp,by omega⟩
 obtain⟨x,x1,x2⟩:=lo;obtain⟨y,y1,y2⟩:=hi';constructor
 ·refine⟨fun h z hz=>?_,fun h=>?_⟩
  ·have:=(com z).1 hz;omega
  ·refine Decidable.byContradiction fun hc=>h x ((com x).2 ⟨x1,by omega,by omega⟩)
 ·refine⟨fun h=>⟨x,y,(com x).2 ⟨x1,by omega,by omega⟩,(com y).2 ⟨y1,by omega,by omega⟩,fun e=>by rw[e] at x2; omega⟩,fun⟨z,w,hz,hw,hne⟩=>?_⟩
  refine Decidable.byContradiction fun hc=>hne (hi z w ?_ ?_ ?_)
  ·exact hz.2.1.1
  ·exact hw.2.1.1
  ·have:=(com z).1 hz;have:=(com w).1 hw;omega
theorem rA {a b c d:I2} (hcd:c≠d) (h:¬(ti a b c=0∧ti a b d=0)) {x y:I2} (hx:dE a b x∧dE c d x) (hy:dE a b y∧dE c d y):x=y:=by
 obtain⟨⟨a1,_⟩,⟨a2,_⟩⟩:=hx;obtain⟨⟨b1,_⟩,⟨b2,_⟩⟩:=hy;have hk:(b.1-a.1)*(d.2-c.2)-(b.2-a.2)*(d.1-c.1)≠0:=fun e=>by
  have e1:ti a b d-ti a b c=0:=by
   have:ti a b d-ti a b c=(b.1-a.1)*(d.2-c.2)-(b.2-a.2)*(d.1-c.1):=by unfold ti; grind
   omega
  have e2:(d.1-c.1)*ti a b c=0:=by
   have t:(d.1-c.1)*ti a b c=(d.1-c.1)*ti a b x-(b.1-a.1)*ti c d x-(x.1-c.1)*((b.1-a.1)*(d.2-c.2)-(b.2-a.2)*(d.1-c.1)):=by unfold ti; grind
   rw[t,a1,a2,e]; simp
  have e3:(d.2-c.2)*ti a b c=0:=by
   have t:(d.2-c.2)*ti a b c=(d.2-c.2)*ti a b x-(b.2-a.2)*ti c d x-(x.2-c.2)*((b.1-a.1)*(d.2-c.2)-(b.2-a.2)*(d.1-c.1)):=by unfold ti; grind
   rw[t,a1,a2,e]; simp
  have h0:ti a b c=0:=by
   rcases Int.mul_eq_zero.1 e2 with g|g
   ·rcases Int.mul_eq_zero.1 e3 with g' | g'
    ·exact absurd (Prod.ext (by omega) (by omega)) hcd
    ·exact g'
   ·exact g
  exact h ⟨h0,by omega⟩
 have f1:((b.1-a.1)*(d.2-c.2)-(b.2-a.2)*(d.1-c.1))*(x.1-y.1)=0:=by
  have t:((b.1-a.1)*(d.2-c.2)-(b.2-a.2)*(d.1-c.1))*(x.1-y.1)=(d.1-c.1)*(ti a b x-ti a b y)-(b.1-a.1)*(ti c d x-ti c d y):=by unfold ti; grind
  rw[t,a1,a2,b1,b2]; simp
 have f2:((b.1-a.1)*(d.2-c.2)-(b.2-a.2)*(d.1-c.1))*(x.2-y.2)=0:=by
  have t:((b.1-a.1)*(d.2-c.2)-(b.2-a.2)*(d.1-c.1))*(x.2-y.2)=(d.2-c.2)*(ti a b x-ti a b y)-(b.2-a.2)*(ti c d x-ti c d y):=by unfold ti; grind
  rw[t,a1,a2,b1,b2]; simp
 refine Prod.ext ?_ ?_
 ·rcases Int.mul_eq_zero.1 f1 with g|g
  ·exact absurd g hk
  ·omega
 ·rcases Int.mul_eq_zero.1 f2 with g|g
  ·exact absurd g hk
  ·omega
def di (a b c:I2):Int:=(b.1-a.1)*(c.1-b.1)+(b.2-a.2)*(c.2-b.2)
def NM (a b c d:I2):Prop:=(∀x,¬dZ a b c d x)∧¬(((0<ti a b c∧ti a b d<0)∨(ti a b c<0∧0<ti a b d))∧((0<ti c d a∧ti c d b<0)∨(ti c d a<0∧0<ti c d b)))
def nx (r:List I2) (i:Nat):I2:=r.getD (i%r.length) (0,0)
structure VR (r:List I2):Prop where
 n3:2<r.length
 still:∀i,nx r i≠nx r (i+1)
 spike:∀i,¬(ti (nx r i) (nx r (i+1)) (nx r (i+2))=0∧di (nx r i) (nx r (i+1)) (nx r (i+2))<0)
 meet:∀j i,j+1<i→i<r.length→¬(j=0∧i+1=r.length)→NM (nx r j) (nx r (j+1)) (nx r i) (nx r (i+1))
theorem Sep.symm {a b p q:P2} (h:Sep a b p q):Sep p q a b:=by
 obtain⟨α,β,γ,g1,g2,g3,g4⟩:=h;exact⟨-α,-β,-γ,by unfold af at *; grind,by unfold af at *; grind,by unfold af at *; grind,by unfold af at *; grind⟩
def sG (a b c d:I2):Prop:=((0<ti a b c∧ti a b d<0)∨(ti a b c<0∧0<ti a b d))∧((0<ti c d a∧ti c d b<0)∨(ti c d a<0∧0<ti c d b))
def vi (a b c d:I2):Prop:=ti a b c=0∧ti a b d=0
section
variable {a b c d : I2}
theorem ud (h:sG a b c d):¬vi a b c d∧∀x,¬dZ a b c d x:=by
 unfold sG at h;refine⟨fun g=>?_,fun x ⟨h1,h2,h3⟩=>?_⟩
 ·unfold vi at g; omega
 ·have e2:=h2.1;have e3:=h3.1;rcases h1 with rfl|rfl|rfl|rfl<;>omega
noncomputable def mS (a b c d:I2):Int:=open Classical in if ∃x y,dZ a b c d x∧dZ a b c d y∧x≠y then 3 else if ∃x,dZ a b c d x then 1 else if sG a b c d then 2 else 0
end
section
variable {a b c d : I2}
theorem gr {x:I2}:dZ a b c d x↔dZ c d a b x:=by
 unfold dZ;constructor<;>rintro⟨h,g1,g2⟩<;>exact⟨by rcases h with h|h|h|h<;>simp[h],g2,g1⟩
theorem eJ {x:I2}:dZ a b c d x↔dZ b a c d x:=by
 unfold dZ;rw[lO (a:=a) (b:=b)];constructor<;>rintro⟨h,g⟩<;>exact⟨by rcases h with h|h|h|h<;>simp[h],g⟩
theorem wH:sG a b c d↔sG c d a b:=by unfold sG; exact And.comm
theorem ve:sG a b c d↔sG b a c d:=by
 unfold sG;rw[iG a b c,iG a b d];constructor<;>rintro⟨h,g⟩<;>constructor<;>omega
theorem rZ:mS c d a b=mS a b c d:=by
 classical
 have h1:(∃x y,dZ c d a b x∧dZ c d a b y∧x≠y)↔∃x y,dZ a b c d x∧dZ a b c d y∧x≠y :=
  ⟨fun⟨x,y,p,q,r⟩=>⟨x,y,gr.1 p,gr.1 q,r⟩,fun⟨x,y,p,q,r⟩=>⟨x,y,gr.1 p,gr.1 q,r⟩⟩
 have h2:(∃x,dZ c d a b x)↔∃x,dZ a b c d x:=⟨fun⟨x,p⟩=>⟨x,gr.1 p⟩,fun⟨x,p⟩=>⟨x,gr.1 p⟩⟩;unfold mS;simp only[h1,h2,wH (a:=c) (b:=d) (c:=a) (d:=b)]
theorem pa:mS b a c d=mS a b c d:=by
 classical
 have h1:(∃x y,dZ b a c d x∧dZ b a c d y∧x≠y)↔∃x y,dZ a b c d x∧dZ a b c d y∧x≠y :=
  ⟨fun⟨x,y,p,q,r⟩=>⟨x,y,eJ.1 p,eJ.1 q,r⟩,fun⟨x,y,p,q,r⟩=>⟨x,y,eJ.1 p,eJ.1 q,r⟩⟩
 have h2:(∃x,dZ b a c d x)↔∃x,dZ a b c d x:=⟨fun⟨x,p⟩=>⟨x,eJ.1 p⟩,fun⟨x,p⟩=>⟨x,eJ.1 p⟩⟩;unfold mS;simp only[h1,h2,ve (a:=b) (b:=a) (c:=c) (d:=d)]
def xW (a b c d q:I2):Prop:=dE a b q∧dE c d q
theorem zj {q:I2} (h:ti c d q=0):(d.1-c.1)*ti a b q=(d.1-q.1)*ti a b c+(q.1-c.1)*ti a b d:=by
 have e:(d.1-c.1)*ti a b q-((d.1-q.1)*ti a b c+(q.1-c.1)*ti a b d)=(b.1-a.1)*ti c d q:=by unfold ti; grind
 rw[h,Int.mul_zero] at e; omega
theorem y7 {q:I2} (h:ti c d q=0):(d.2-c.2)*ti a b q=(d.2-q.2)*ti a b c+(q.2-c.2)*ti a b d:=by
 have e:(d.2-c.2)*ti a b q-((d.2-q.2)*ti a b c+(q.2-c.2)*ti a b d)=(b.2-a.2)*ti c d q:=by unfold ti; grind
 rw[h,Int.mul_zero] at e; omega
theorem iK {u v s t:Int} (hu:0<u) (hv:0<v) (h:u*s+v*t=0) (hn:¬(s=0∧t=0)):(0<s∧t<0)∨(s<0∧0<t):=by
 rcases Int.lt_trichotomy s 0 with hs|hs|hs
 ·right; refine⟨hs,?_⟩
  have:u*s<0:=Int.mul_neg_of_pos_of_neg hu hs;have h2:0<v*t:=by omega
  exact Int.pos_of_mul_pos_right h2 hv
 ·subst hs;rw[Int.mul_zero,Int.zero_add] at h;rcases Int.mul_eq_zero.1 h with e|e
  ·omega
  ·exact absurd ⟨rfl,e⟩ hn
 ·left; refine⟨hs,?_⟩
  have:0<u*s:=Int.mul_pos hu hs;have h2:0<v * -t:=by rw[Int.mul_neg]; omega
  have:=Int.pos_of_mul_pos_right h2 hv;omega
theorem o7 {q:I2} (hq:dE a b q) (h:dE c d q) (hc:q≠c) (hd:q≠d) (hn:¬(ti a b c=0∧ti a b d=0)):(0<ti a b c∧ti a b d<0)∨(ti a b c<0∧0<ti a b d):=by
 obtain⟨h0,h1,h2,h3,h4⟩:=h;have ex:=zj (a:=a) (b:=b) h0;have ey:=y7 (a:=a) (b:=b) h0;rw[hq.1,Int.mul_zero] at ex ey
 by_cases hx:c.1=d.1
 ·
  have hqx:q.1=c.1:=by omega
  have hqc:q.2≠c.2:=fun e=>hc (Prod.ext hqx e);have hqd:q.2≠d.2:=fun e=>hd (Prod.ext (hqx.trans hx) e);rcases Int.lt_or_gt_of_ne hqc with g|g
  ·exact iK (u:=q.2-d.2) (v:=c.2-q.2) (by omega) (by omega) (by
    rw[show(q.2-d.2) = -(d.2-q.2) by omega,show c.2-q.2 = -(q.2-c.2) by omega,Int.neg_mul,Int.neg_mul]; omega) hn
  ·exact iK (u:=d.2-q.2) (v:=q.2-c.2) (by omega) (by omega) ey.symm hn
 ·by_cases e1:q.1=c.1
  ·exfalso;have:(d.1-c.1)*(q.2-c.2)=0:=by
    unfold ti at h0;rw[e1,Int.sub_self,Int.mul_zero,Int.sub_zero] at h0; exact h0
   rcases Int.mul_eq_zero.1 this with g|g
   ·omega
   ·exact hc (Prod.ext e1 (by omega))
  ·by_cases e2:q.1=d.1
   ·exfalso;have:(d.1-c.1)*(q.2-d.2)=0:=by
     have e:ti c d q=(d.1-c.1)*(q.2-d.2)-(d.2-c.2)*(q.1-d.1):=by unfold ti; grind
     rw[h0,e2,Int.sub_self,Int.mul_zero,Int.sub_zero] at e; exact e.symm
    rcases Int.mul_eq_zero.1 this with g|g
    ·omega
    ·exact hd (Prod.ext e2 (by omega))
   ·rcases Int.lt_or_gt_of_ne e1 with g|g
    ·exact iK (u:=q.1-d.1) (v:=c.1-q.1) (by omega) (by omega) (by
      rw[show(q.1-d.1) = -(d.1-q.1) by omega,show c.1-q.1 = -(q.1-c.1) by omega,Int.neg_mul,Int.neg_mul]; omega) hn
    ·exact iK (u:=d.1-q.1) (v:=q.1-c.1) (by omega) (by omega) ex.symm hn
theorem wQ (hab:a≠b) (hcd:c≠d):vi a b c d↔vi c d a b:=by
 have key:∀{a b c d:I2},a≠b→c≠d→vi a b c d→vi c d a b:=fun {a b c d} hab hcd h=>by
  have hf:=wx a b c d;obtain⟨h1,h2⟩:=h;unfold vi;refine⟨?_,?_⟩
  ·by_cases hx:a.1=b.1
   ·have e1:=dK hx hab h1;have e2:=dK hx hab h2;unfold ti; rw[e1,e2]; grind
   ·have:(b.1-a.1)*ti c d a=0:=by
     unfold ti at *;have e1:(b.1-a.1)*(c.2-a.2)=(b.2-a.2)*(c.1-a.1):=by omega
     have e2:(b.1-a.1)*(d.2-a.2)=(b.2-a.2)*(d.1-a.1):=by omega
     have:(b.1-a.1)*((d.1-c.1)*(a.2-c.2)-(d.2-c.2)*(a.1-c.1)) = -(d.1-c.1)*((b.1-a.1)*(c.2-a.2))+((b.1-a.1)*(d.2-a.2)-(b.1-a.1)*(c.2-a.2))*(c.1-a.1):=by grind
     rw[this,e1,e2]; grind
    rcases Int.mul_eq_zero.1 this with g|g
    ·omega
    ·exact g
  ·by_cases hx:a.1=b.1
   ·have e1:=dK hx hab h1;have e2:=dK hx hab h2;unfold ti; rw[e1,e2,hx]; grind
   ·have:(b.1-a.1)*ti c d b=0:=by
     unfold ti at *;have e1:(b.1-a.1)*(c.2-a.2)=(b.2-a.2)*(c.1-a.1):=by omega
     have e2:(b.1-a.1)*(d.2-a.2)=(b.2-a.2)*(d.1-a.1):=by omega
     have:(b.1-a.1)*((d.1-c.1)*(b.2-c.2)-(d.2-c.2)*(b.1-c.1))=(d.1-c.1)*((b.1-a.1)*(b.2-a.2)-(b.1-a.1)*(c.2-a.2))-((b.1-a.1)*(d.2-a.2)-(b.1-a.1)*(c.2-a.2))*(b.1-c.1):=by grind
     rw[this,e1,e2]; grind
    rcases Int.mul_eq_zero.1 this with g|g
    ·omega
    ·exact g
 exact⟨key hab hcd,key hcd hab⟩
theorem wE (hab:a≠b) (hcd:c≠d) {q:I2} (h:xW a b c d q) (hc:¬vi a b c d) (hn:¬dZ a b c d q):sG a b c d:=by
 have ends:q≠a∧q≠b∧q≠c∧q≠d:=⟨fun e=>hn ⟨.inl e,h⟩,fun e=>hn ⟨.inr (.inl e),h⟩,fun e=>hn ⟨.inr (.inr (.inl e)),h⟩,fun e=>hn ⟨.inr (.inr (.inr e)),h⟩⟩;exact⟨o7 h.1 h.2 ends.2.2.1 ends.2.2.2 hc,o7 h.2 h.1 ends.1 ends.2.1 (fun g=>hc ((wQ hab hcd).2 g))⟩
theorem vz (hab:a≠b) (hcd:c≠d) :
  (mS a b c d=0∧∀q,¬xW a b c d q)∨(mS a b c d=1∧∃x,dZ a b c d x∧∀q,xW a b c d q→q=x) ∨
  (mS a b c d=2∧(∀q,¬dZ a b c d q)∧∀p q,xW a b c d p→xW a b c d q→p=q)∨(mS a b c d=3∧∃x y,dZ a b c d x∧dZ a b c d y∧x≠y):=by
 classical
 by_cases h3:∃x y,dZ a b c d x∧dZ a b c d y∧x≠y
 ·exact .inr (.inr (.inr ⟨by unfold mS; rw[if_pos h3],h3⟩))
 ·by_cases h1:∃x,dZ a b c d x
  ·refine .inr (.inl ⟨by unfold mS; rw[if_neg h3,if_pos h1],?_⟩)
   obtain⟨x,hx⟩:=h1;refine⟨x,hx,fun q hq=>?_⟩
   by_cases hc:vi a b c d
   ·obtain⟨f,e,hi,g1,g2⟩:=oh hab hcd hc.1 hc.2;have l1:low a b c d=0:=by
     have:=(pt hab hcd hc.1 hc.2);have h4:¬low a b c d<0:=fun h=>h3 (this.2.1 h);have h5:¬0<low a b c d:=fun h=>this.1.1 h x hx;omega
    have q0:=((g1 q).1 hq.1).1;have x0:=((g1 x).1 hx.2.1).1;refine hi q x q0 x0 ?_;have q1:=((g1 q).1 hq.1).2;have x1:=((g1 x).1 hx.2.1).2;have q2:=(g2 q q0).1 hq.2;have x2:=(g2 x x0).1 hx.2.2;omega
   ·exact rA hcd hc hq hx.2
  ·have nc:∀q,¬dZ a b c d q:=fun q hq=>h1 ⟨q,hq⟩;have ncol:∀q,xW a b c d q→¬vi a b c d:=fun q hq hc=>by
    obtain⟨f,e,hi,g1,g2⟩:=oh hab hcd hc.1 hc.2;have:=(pt hab hcd hc.1 hc.2).1.2 nc;have q0:=((g1 q).1 hq.1).1;have q1:=((g1 q).1 hq.1).2;have q2:=(g2 q q0).1 hq.2;omega
   by_cases h2:sG a b c d
   ·refine .inr (.inr (.inl ⟨by unfold mS; rw[if_neg h3,if_neg h1,if_pos h2],nc,fun p q hp hq=>?_⟩))
    exact rA hcd (ud h2).1 hp hq
   ·exact .inl ⟨by unfold mS; rw[if_neg h3,if_neg h1,if_neg h2],fun q hq=>h2 (wE hab hcd hq (ncol q hq) (nc q))⟩
end
end Jd
end

section
namespace Go.Proofs.YthmekkhpddehjaaGreat
open Go Go.Ab Go.Ab.W Go.Ab.B Jd
def jk (x:Int):Prop:=-9223372036854775808≤x∧x<9223372036854775808
def Fa (p:I2):Prop:=p.1 < -1000000∨1000000<p.1∨p.2 < -1000000∨1000000<p.2
instance (p:I2):Decidable (Fa p):=by unfold Fa; infer_instance
instance (a b p:I2):Decidable (dE a b p):=by unfold dE; infer_instance
theorem kL (a b:Int):ma a b=max a b:=by unfold ma; split<;>omega
theorem qv (a b:Int):mi a b=min a b:=by unfold mi; split<;>omega
theorem w9 {x:Int} (h:jk x):IntKind.wrap .i64 (0-x)=if x = -9223372036854775808 then x else -x:=by
 unfold jk at h
 split
 ·rename_i e; subst e; decide
 ·rw[aS (by omega) (by omega)]; omega
theorem nN (n:Nat) {x y:Int} (hx:jk x) (hy:jk y):xb n x y=some (decide (Fa (x,y))):=by
 unfold xb;rw[w9 hx,w9 hy,aY,iU,←Bool.decide_or]
 congr 1
 rw[decide_eq_decide];unfold jk at hx hy;unfold Fa
 dsimp only
 rw[kL,kL,kL,qv]
 split<;>split<;>omega
def sg (z:Int):Int:=if z<0 then -1 else if 0<z then 1 else 0
theorem qn (n:Nat) (x y:Int):yi n x y=some (sg (x-y)):=by
 unfold yi u4 sg;simp only[decide_true,Bool.not_true,aY,jC]
 by_cases h:x<y
 ·rw[ei h,if_pos (show x-y<0 by omega)]
 ·rw[ef h,if_neg (show ¬x-y<0 by omega)]
  by_cases g:y<x
  ·rw[ei g,if_pos (show 0<x-y by omega)]
  ·rw[ef g,if_neg (show ¬0<x-y by omega)]
def Nr (p:I2):Prop:=-1000000≤p.1∧p.1≤1000000∧-1000000≤p.2∧p.2≤1000000
theorem rl {p:I2}:¬Fa p↔Nr p:=by unfold Fa Nr; omega
theorem kU (n:Nat) {a b c:I2} (ha:Nr a) (hb:Nr b) (hc:Nr c):wh n a.1 a.2 b.1 b.2 c.1 c.2=some (sg (ti a b c)):=by
 unfold Nr at ha hb hc;have m1:=ku (B:=2000000) (C:=2000000) (u:=b.1-a.1) (v:=c.2-a.2) (by decide) (by omega) (by omega) (by omega) (by omega)
 have m2:=ku (B:=2000000) (C:=2000000) (u:=b.2-a.2) (v:=c.1-a.1) (by decide) (by omega) (by omega) (by omega) (by omega)
 unfold wh;rw[aS (x:=b.1-a.1) (by omega) (by omega),aS (x:=c.2-a.2) (by omega) (by omega),aS (x:=b.2-a.2) (by omega) (by omega),aS (x:=c.1-a.1) (by omega) (by omega),
  aS (by omega) (by omega),aS (by omega) (by omega),aY,aY,qn,aY]
 rfl
theorem oa {z:Int}:sg z=0↔z=0:=by unfold sg; split<;>(try split)<;>omega
theorem u1 {z:Int}:sg z<0↔z<0:=by unfold sg; split<;>(try split)<;>omega
theorem nT {z:Int}:0<sg z↔0<z:=by unfold sg; split<;>(try split)<;>omega
theorem iq (z:Int):sg z = -1∨sg z=0∨sg z=1:=by unfold sg; split<;>(try split)<;>simp
theorem yv (n:Nat) (r s:Int) (hn:2<n):yQ n [r,s]=some (if r≠0 then r else s):=by
 obtain⟨n,rfl⟩:∃n',n=n'+3:=⟨n-3,by omega⟩
 have L0:jZ (n+3) [r,s] 0=if r≠0 then some (.inr (.inl r)) else some (.inl 1):=by
  unfold jZ;rw[ei (by simp),show yI 0 [r,s].length=true from rfl,xr]
  show ob (some r) _=_
  rw[aY]
  by_cases h:r=0
  ·rw[decide_eq_true h,Bool.not_true,jC,if_neg (by simpa using h)]; rfl
  ·rw[decide_eq_false h,Bool.not_false,tE,if_pos h]
 have L1:jZ (n+3) [r,s] 1=if s≠0 then some (.inr (.inl s)) else some (.inl 2):=by
  unfold jZ;rw[ei (by simp),show yI 1 [r,s].length=true from rfl,xr]
  show ob (some s) _=_
  rw[aY]
  by_cases h:s=0
  ·rw[decide_eq_true h,Bool.not_true,jC,if_neg (by simpa using h)]; rfl
  ·rw[decide_eq_false h,Bool.not_false,tE,if_pos h]
 have L2:jZ (n+3) [r,s] 2=some (.inr (.inr ())):=by
  unfold jZ;rw[ef (by simp)]
 unfold yQ
 by_cases h:r=0
 ·rw[if_neg (by simpa using h)] at L0 ⊢
  rw[ee L0]
  by_cases g:s=0
  ·rw[if_neg (by simpa using g)] at L1
   rw[ee L1,jx L2,aY,g]
  ·rw[if_pos g] at L1;rw[jx L1,aY]
 ·rw[if_pos h] at L0 ⊢;rw[jx L0,aY]
def zx (a b:I2):Int:=if sg (a.1-b.1)≠0 then sg (a.1-b.1) else sg (a.2-b.2)
theorem qJ (n:Nat) (a b:I2) (hn:2<n):vJ n a.1 a.2 b.1 b.2=some (zx a b):=by
 unfold vJ;rw[qn,aY,qn,aY,yv n _ _ hn,aY]; rfl
theorem nJ {a b:I2}:zx a b≤0↔Lx a b:=by
 unfold zx Lx;have h1:=oa (z:=a.1-b.1);have h2:=nT (z:=a.1-b.1);have h3:=nT (z:=a.2-b.2)
 split<;>omega
theorem uK (n:Nat) (e:Int) {a b p:I2} (ha:Nr a) (hb:Nr b) (hp:Nr p) (hab:a≠b) (hn:2<n):sR n e a.1 a.2 b.1 b.2 p.1 p.2=some (decide (dE a b p)):=by
 unfold sR;rw[kU n ha hb hp,aY]
 by_cases h0:ti a b p=0
 ·rw[decide_eq_true (oa.2 h0),Bool.not_true,jC,qJ n a b hn,aY];have key:∀{u v:I2},u≠v→Lx u v→ti u v p=0→(ob (vJ n u.1 u.2 p.1 p.2) fun r28=>br (decide (r28≤0)) (ob (vJ n p.1 p.2 v.1 v.2) fun r31=>some (decide (r31≤0))) (some false))=some (decide (dE u v p)):=fun {u v} huv hl ht=>by
   rw[qJ n u p hn,aY,qJ n p v hn,aY,fY,←Bool.decide_and]
   congr 1
   rw[decide_eq_decide,xz huv hl,nJ,nJ];exact⟨fun h=>⟨ht,h⟩,fun h=>h.2⟩
  by_cases hl:0<zx a b
  ·rw[ei hl,aY];have hl':Lx b a:=by
    have:¬Lx a b:=fun h=>by have:=nJ.2 h; omega
    unfold Lx at this ⊢; omega
   have:=key hab.symm hl' (by rw[iG,h0]; rfl)
   dsimp only
   rw[this]
   congr 1
   rw[decide_eq_decide]; exact lO
  ·rw[ef hl,aY];exact key hab (nJ.1 (by omega)) h0
 ·rw[decide_eq_false (fun h=>h0 (oa.1 h)),Bool.not_false,tE,decide_eq_false fun h=>h0 h.1]
theorem lK {α β:Type} [DecidableEq α] (k:α):∀(xs:List (α × β)) (i:Nat),(gN k xs i=none∧k ∉ xs.map Prod.fst)∨∃j v,gN k xs i=some (i+j,v)∧(xs[j]?).map Prod.fst=some k
 | [],_=>.inl ⟨rfl,by simp⟩
 | e::es,i=>by
  unfold gN
  by_cases h:k=e.1
  ·rw[if_pos h]; exact .inr ⟨0,e.2,rfl,by rw[h]; rfl⟩
  ·rw[if_neg h];rcases lK k es (i+1) with⟨h1,h2⟩|⟨j,v,h1,h2⟩
   ·exact .inl ⟨h1,fun g=>by
     rw[List.map_cons,List.mem_cons] at g;exact g.elim h h2⟩
   ·exact .inr ⟨j+1,v,by rw[h1,show i+1+j=i+(j+1) by omega],h2⟩
theorem s5 {α β:Type} [DecidableEq α] (xs:List (α × β)) (k:α) (v:β):(p8 xs k v).map Prod.fst=if k ∈ xs.map Prod.fst then xs.map Prod.fst else xs.map Prod.fst++[k]:=by
 unfold p8;rcases lK k xs 0 with⟨h1,h2⟩|⟨j,w,h1,h2⟩
 ·rw[h1,if_neg h2]; simp
 ·rw[h1,Nat.zero_add];have hj:j<xs.length:=by
   refine Decidable.byContradiction fun hc=>?_;rw[List.getElem?_eq_none (by omega)] at h2; cases h2
  have e:(xs.map Prod.fst)[j]? = some k:=by rw[List.getElem?_map]; exact h2
  rw[if_pos (List.mem_of_getElem? e),List.map_set];refine List.ext_getElem? fun t=>?_;rw[List.getElem?_set]
  by_cases ht:j=t
  ·subst ht;rw[if_pos rfl,if_pos (by rw[List.length_map]; exact hj),e]
  ·rw[if_neg ht]
def oz (a b c d:I2) (l:List (I2 × Bool)) (x:I2):List (I2 × Bool):=if dE a b x∧dE c d x then p8 l x true else l
theorem pV {a b c d:I2}:∀(xs:List I2) (l:List (I2 × Bool)),(l.map Prod.fst).Nodup→((xs.foldl (oz a b c d) l).map Prod.fst).Nodup∧∀q,q ∈ (xs.foldl (oz a b c d) l).map Prod.fst↔q ∈ l.map Prod.fst∨(q ∈ xs∧dE a b q∧dE c d q)
 | [],l,hn=>⟨hn,fun q=>by simp⟩
 | x::xs,l,hn=>by
  rw[List.foldl_cons];have key:((oz a b c d l x).map Prod.fst).Nodup∧∀q,q ∈ (oz a b c d l x).map Prod.fst↔q ∈ l.map Prod.fst∨(q=x∧dE a b q∧dE c d q):=by
   unfold oz
   by_cases h:dE a b x∧dE c d x
   ·rw[if_pos h,s5]
    by_cases g:x ∈ l.map Prod.fst
    ·rw[if_pos g];exact⟨hn,fun q=>⟨.inl,fun e=>e.elim id fun e=>e.1 ▸ g⟩⟩
    ·rw[if_neg g];refine⟨List.nodup_append.2 ⟨hn,by simp,fun u hu v hv=>?_⟩,fun q=>?_⟩
     ·rw[List.mem_singleton] at hv;intro e; rw[e,hv] at hu; exact g hu
     ·rw[List.mem_append,List.mem_singleton];exact⟨fun e=>e.elim .inl fun e=>.inr ⟨e,e ▸ h⟩,fun e=>e.elim .inl fun e=>.inr e.1⟩
   ·rw[if_neg h];exact⟨hn,fun q=>⟨.inl,fun e=>e.elim id fun⟨e,g⟩=>absurd (e ▸ g) h⟩⟩
  obtain⟨k1,k2⟩:=key;obtain⟨r1,r2⟩:=pV xs _ k1;refine⟨r1,fun q=>?_⟩;rw[r2,k2,List.mem_cons];constructor
  ·rintro((h|⟨rfl,h⟩) | ⟨h,g⟩)
   ·exact .inl h
   ·exact .inr ⟨.inl rfl,h⟩
   ·exact .inr ⟨.inr h,g⟩
  ·rintro(h|⟨rfl|h,g⟩)
   ·exact .inl (.inl h)
   ·exact .inl (.inr ⟨rfl,g⟩)
   ·exact .inr ⟨h,g⟩
theorem oc (n:Nat) (e f:Int) {a b c d x:I2} (ha:Nr a) (hb:Nr b) (hc:Nr c) (hd:Nr d) (hx:Nr x) (hab:a≠b) (hcd:c≠d) (hn:2<n) (l:List (I2 × Bool)) {i:Nat} (hi:i<4) (he:[a,b,c,d][i]? = some x) :
  jX n a.1 a.2 b.1 b.2 c.1 c.2 d.1 d.2 e f (l,(i:Int))=some (.inl (oz a b c d l x,((i+1:Nat):Int))):=by
 unfold jX
 dsimp only
 rw[ei (by omega),vr hi,xr,Int.toNat_natCast]
 have:[(a.1,a.2),(b.1,b.2),(c.1,c.2),(d.1,d.2)][i]? = some (x.1,x.2):=he;rw[this,aY]
 dsimp only
 rw[uK n e ha hb hx hab hn,aY,uK n f hc hd hx hcd hn,aY,fY,aY,jD (by omega)]
 unfold oz
 by_cases h:dE a b x∧dE c d x
 ·rw[decide_eq_true h.1,decide_eq_true h.2,if_pos h]; rfl
 ·rw[if_neg h,←Bool.decide_and,decide_eq_false h]; rfl
theorem xZ (n:Nat) (e f:Int) {a b c d:I2} (ha:Nr a) (hb:Nr b) (hc:Nr c) (hd:Nr d) (hab:a≠b) (hcd:c≠d) (hn:5<n):yP n e a.1 a.2 b.1 b.2 f c.1 c.2 d.1 d.2=some (mS a b c d):=by
 classical
 unfold yP;rw[kU n ha hb hc,aY,kU n ha hb hd,aY,kU n hc hd ha,aY,kU n hc hd hb,aY];have L:oQ (jX n a.1 a.2 b.1 b.2 c.1 c.2 d.1 d.2 e f) n ([],0)=some ([a,b,c,d].foldl (oz a b c d) []):=by
  obtain⟨m,hm⟩:∃m,n=m+5:=⟨n-5,by omega⟩
  have L5:∀l,jX n a.1 a.2 b.1 b.2 c.1 c.2 d.1 d.2 e f (l,((4:Nat):Int))=some (.inr l):=fun l=>by
   unfold jX
   dsimp only
   rw[ef (by decide)]
  have h0:=oc n e f ha hb hc hd ha hab hcd (by omega) [] (i:=0) (by decide) rfl
  have h1:=oc n e f ha hb hc hd hb hab hcd (by omega) (oz a b c d [] a) (i:=1) (by decide) rfl
  have h2:=oc n e f ha hb hc hd hc hab hcd (by omega) (oz a b c d (oz a b c d [] a) b) (i:=2) (by decide) rfl
  have h3:=oc n e f ha hb hc hd hd hab hcd (by omega) (oz a b c d (oz a b c d (oz a b c d [] a) b) c) (i:=3) (by decide) rfl
  have:∀body:(List (I2 × Bool) × Int)→Option ((List (I2 × Bool) × Int) ⊕ List (I2 × Bool)),body=jX n a.1 a.2 b.1 b.2 c.1 c.2 d.1 d.2 e f→oQ body n ([],0)=some ([a,b,c,d].foldl (oz a b c d) []):=fun body hbd=>by
   rw[←hbd] at h0 h1 h2 h3 L5;rw[hm,show(0:Int)=((0:Nat):Int) from rfl,ee h0,ee h1,ee h2,ee h3,jx (L5 _)]
   rfl
  exact this _ rfl
 obtain⟨k1,k2⟩:=pV (a:=a) (b:=b) (c:=c) (d:=d) [a,b,c,d] [] (by simp)
 have hlen:([a,b,c,d].foldl (oz a b c d) []).length=(([a,b,c,d].foldl (oz a b c d) []).map Prod.fst).length:=by rw[List.length_map]
 rw[L,aY];generalize [a,b,c,d].foldl (oz a b c d) []=l at *;have kc:∀q,q ∈ l.map Prod.fst↔dZ a b c d q:=fun q=>by
  rw[k2];unfold dZ;constructor
  ·rintro(h|⟨h,g⟩)
   ·simp at h
   ·exact⟨by simpa only[List.mem_cons,List.not_mem_nil,or_false] using h,g⟩
  ·rintro⟨h,g⟩;exact .inr ⟨by simpa only[List.mem_cons,List.not_mem_nil,or_false] using h,g⟩
 rw[aY,aY,hlen];generalize l.map Prod.fst=ks at *;unfold mS
 by_cases h2:∃x y,dZ a b c d x∧dZ a b c d y∧x≠y
 ·obtain⟨x,y,hx,hy,hne⟩:=h2;have:=jq (l:=[x,y]) (m:=ks) (by simp[hne]) fun q hq=>by
   simp only[List.mem_cons,List.not_mem_nil,or_false] at hq;rcases hq with rfl|rfl
   ·exact(kc _).2 hx
   ·exact(kc _).2 hy
  have hl:2≤ks.length:=this;rw[ei (by omega),if_pos ⟨x,y,hx,hy,hne⟩]
 ·have hl1:ks.length≤1:=by
   match ks,k1,kc with
   | [],_,_=>exact Nat.zero_le _
   | [_],_,_=>exact Nat.le_refl _
   | x::y::t,k1,kc =>
    refine absurd ⟨x,y,(kc x).1 (by simp),(kc y).1 (by simp),?_⟩ h2
    intro e; subst e; simp at k1
  rw[if_neg h2,ef (by omega)]
  by_cases h1:∃x,dZ a b c d x
  ·obtain⟨x,hx⟩:=h1;have:0<ks.length:=List.length_pos_of_mem ((kc x).2 hx);rw[if_pos ⟨x,hx⟩,ei (by omega)]
  ·have:ks.length=0:=by
    match ks,kc with
    | [],_=>rfl
    | x::t,kc=>exact absurd ⟨x,(kc x).1 (by simp)⟩ h1
   rw[if_neg h1,ef (by omega)]
   have w:∀u v:Int,IntKind.wrap .i64 (sg u*sg v)=sg u*sg v:=fun u v=>by
    have h1:=iq u;have h2:=iq v;rcases h1 with h1|h1|h1<;>rcases h2 with h2|h2|h2<;>rw[h1,h2]<;>decide
   have s:∀u v:Int,sg u*sg v<0↔(0<u∧v<0)∨(u<0∧0<v):=fun u v=>by
    have a1:=u1 (z:=u);have a2:=nT (z:=u);have b1:=u1 (z:=v);have b2:=nT (z:=v);have h1:=iq u;have h2:=iq v;rcases h1 with h1|h1|h1<;>rcases h2 with h2|h2|h2<;>rw[h1] at a1 a2 ⊢<;>rw[h2] at b1 b2 ⊢<;>omega
   rw[w,w,fY,aY,uS]
   by_cases hx:sG a b c d
   ·rw[if_pos hx,if_pos];unfold sG at hx;rw[Bool.and_eq_true,decide_eq_true_eq,decide_eq_true_eq,s,s];exact hx
   ·rw[if_neg hx,if_neg];rw[Bool.and_eq_true,decide_eq_true_eq,decide_eq_true_eq,s,s];exact hx
theorem ot (n:Nat) {a b c d:I2} (ha:jk a.1∧jk a.2) (hb:jk b.1∧jk b.2) (hc:jk c.1∧jk c.2) (hd:jk d.1∧jk d.2) (hn:5<n) :
  xp n a.1 a.2 b.1 b.2 c.1 c.2 d.1 d.2=some (if Fa a∨Fa b∨Fa c∨Fa d∨a=b∨c=d then(0,2) else(mS a b c d,0)):=by
 classical
 unfold xp;rw[nN n ha.1 ha.2,nN n hb.1 hb.2,nN n hc.1 hc.2,nN n hd.1 hd.2,aY,aY,aY,aY,iU,iU,iU,iU,iU,aY];have e1:(decide (a.1=b.1) && decide (a.2=b.2))=decide (a=b):=by
  rw[←Bool.decide_and,decide_eq_decide]; exact⟨fun h=>Prod.ext h.1 h.2,fun h=>by subst h; exact⟨rfl,rfl⟩⟩
 have e2:(decide (c.1=d.1) && decide (c.2=d.2))=decide (c=d):=by
  rw[←Bool.decide_and,decide_eq_decide]; exact⟨fun h=>Prod.ext h.1 h.2,fun h=>by subst h; exact⟨rfl,rfl⟩⟩
 rw[e1,e2,uS];have hd:(decide (Fa (a.1,a.2)) || (decide (Fa (b.1,b.2)) || (decide (Fa (c.1,c.2)) || (decide (Fa (d.1,d.2)) || (decide (a=b) || decide (c=d))))))=decide (Fa a∨Fa b∨Fa c∨Fa d∨a=b∨c=d):=by
  simp only[Bool.decide_or]
 rw[hd]
 by_cases h:Fa a∨Fa b∨Fa c∨Fa d∨a=b∨c=d
 ·rw[if_pos (decide_eq_true h),if_pos h]
 ·rw[if_neg (by simpa using h),if_neg h]
  simp only[not_or] at h;obtain⟨h1,h2,h3,h4,h5,h6⟩:=h;rw[xZ n 0 0 (rl.1 h1) (rl.1 h2) (rl.1 h3) (rl.1 h4) h5 h6 hn,aY]
theorem uf (n:Nat) {a b p:I2} (ha:Nr a) (hb:Nr b) (hp:Nr p):yG n a.1 a.2 b.1 b.2 p.1 p.2=some (decide (dE a b p)):=by
 unfold Nr at ha hb hp;have m1:=ku (B:=2000000) (C:=2000000) (u:=b.1-a.1) (v:=p.2-a.2) (by decide) (by omega) (by omega) (by omega) (by omega)
 have m2:=ku (B:=2000000) (C:=2000000) (u:=b.2-a.2) (v:=p.1-a.1) (by decide) (by omega) (by omega) (by omega) (by omega)
 unfold yG;rw[aS (x:=b.1-a.1) (by omega) (by omega),aS (x:=p.2-a.2) (by omega) (by omega),aS (x:=b.2-a.2) (by omega) (by omega),aS (x:=p.1-a.1) (by omega) (by omega),
  aS (by omega) (by omega),aS (by omega) (by omega),aY,aY,fY,fY,fY,fY]
 congr 1
 rw[qv,kL,qv,kL];simp only[←Bool.decide_and];rw[decide_eq_decide];unfold dE ti;refine and_congr ⟨fun h=>by omega,fun h=>by omega⟩ Iff.rfl
def gB (x:Int):Nat→List I2
 | 0=>[]
 | j+1=>(x,8-((j+1:Nat):Int))::gB x j
def dp:Nat→List I2
 | 0=>[]
 | j+1=>gB (8-((j+1:Nat):Int)) 15++dp j
theorem kH {x:Int}:∀{j:Nat} {q:I2},q ∈ gB x j↔q.1=x∧8-(j:Int)≤q.2∧q.2≤7
 | 0,q=>by simp only[gB,List.not_mem_nil,false_iff]; omega
 | j+1,q=>by
  rw[gB,List.mem_cons,kH];constructor
  ·rintro(rfl|h)
   ·exact⟨rfl,by dsimp only; omega⟩
   ·omega
  ·intro h
   by_cases e:q.2=8-((j+1:Nat):Int)
   ·exact .inl (Prod.ext h.1 e)
   ·exact .inr (by omega)
theorem kQ:∀{j:Nat} {q:I2},q ∈ dp j↔8-(j:Int)≤q.1∧q.1≤7∧-7≤q.2∧q.2≤7
 | 0,q=>by simp only[dp,List.not_mem_nil,false_iff]; omega
 | j+1,q=>by
  rw[dp,List.mem_append,kH,kQ];omega
theorem mK (x:Int):∀j,(gB x j).Nodup
 | 0=>List.nodup_nil
 | j+1=>by
  rw[gB];refine List.nodup_cons.2 ⟨fun h=>?_,mK x j⟩;have:=(kH.1 h).2.1
  dsimp only at this; omega
theorem kS:∀j,(dp j).Nodup
 | 0=>List.nodup_nil
 | j+1=>by
  rw[dp];refine List.nodup_append.2 ⟨mK _ _,kS j,fun u hu v hv e=>?_⟩;have h1:=(kH.1 hu).1;have h2:=(kQ.1 hv).1;rw[e] at h1; omega
theorem rD (x:Int):∀j,(gB x j).length=j
 | 0=>rfl
 | j+1=>by rw[gB,List.length_cons,rD x j]
section
variable {a b c d : I2}
def pB (a b c d q:I2):Bool:=decide (dE a b q∧dE c d q)
def pE (a b c d q:I2):Bool:=decide (dE a b q∧dE c d q) && decide (q=a∨q=b∨q=c∨q=d)
def Sm (p:I2):Prop:=-6≤p.1∧p.1≤6∧-6≤p.2∧p.2≤6
theorem Sm.nr {p:I2} (h:Sm p):Nr p:=by unfold Sm at h; unfold Nr; omega
theorem gk (p q:I2):(decide (p.1=q.1) && decide (p.2=q.2))=decide (p=q):=by
 rw[←Bool.decide_and,decide_eq_decide]; exact⟨fun h=>Prod.ext h.1 h.2,fun h=>by subst h; exact⟨rfl,rfl⟩⟩
theorem uW (n:Nat) (ha:Nr a) (hb:Nr b) (hc:Nr c) (hd:Nr d) {q:I2} (h1 : -7≤q.1∧q.1≤7) (h2 : -7≤q.2∧q.2≤7) {k e:Nat} (hk:k<1000) (he:e<1000) :
  tq n a.1 a.2 b.1 b.2 q.1 c.1 c.2 d.1 d.2 ((k:Int),(e:Int),q.2)=some (.inl (((k+(if pB a b c d q then 1 else 0):Nat):Int),((e+(if pE a b c d q then 1 else 0):Nat):Int),q.2+1)):=by
 have hq:Nr q:=by unfold Nr; omega
 unfold tq
 dsimp only
 rw[ei h2.2,uf n ha hb hq,aY,uf n hc hd hq,aY,fY,aY,gk,gk,gk,gk,iU,iU,iU,aY,jD (by omega),jD (by omega),aS (x:=q.2+1) (by omega) (by omega)]
 have e1:(decide (dE a b q) && decide (dE c d q))=pB a b c d q:=by unfold pB; rw[Bool.decide_and]
 have e2:(decide (q=a) || (decide (q=b) || (decide (q=c) || decide (q=d))))=decide (q=a∨q=b∨q=c∨q=d):=by simp only[Bool.decide_or]
 have e3:pE a b c d q=(pB a b c d q && decide (q=a∨q=b∨q=c∨q=d)):=rfl;rw[e1,e2,e3];cases pB a b c d q
 ·rfl
 ·cases decide (q=a∨q=b∨q=c∨q=d)<;>rfl
theorem p4 (n:Nat) (ha:Nr a) (hb:Nr b) (hc:Nr c) (hd:Nr d) {x:Int} (hx : -7≤x∧x≤7):∀(j m k e:Nat),j≤15→j<m→k+j<1000→e+j<1000 →
  oQ (tq n a.1 a.2 b.1 b.2 x c.1 c.2 d.1 d.2) m ((k:Int),(e:Int),8-(j:Int))=some (((k+((gB x j).filter (pB a b c d)).length:Nat):Int),((e+((gB x j).filter (pE a b c d)).length:Nat):Int))
 | 0,m,k,e,_,hm,_,_=>by
  obtain⟨m,rfl⟩:∃m',m=m'+1:=⟨m-1,by omega⟩
  refine jx ?_;unfold tq
  dsimp only
  rw[ef (by omega)]; rfl
 | j+1,m,k,e,hj,hm,hk,he=>by
  obtain⟨m,rfl⟩:∃m',m=m'+1:=⟨m-1,by omega⟩
  have st:=uW n ha hb hc hd (q:=(x,8-((j+1:Nat):Int))) hx (by dsimp only; omega) (k:=k) (e:=e) (by omega) (by omega)
  dsimp only at st
  rw[ee st,show 8-((j+1:Nat):Int)+1=8-(j:Int) by omega]
  rw[p4 n ha hb hc hd hx j m _ _ (by omega) (by omega) (by split<;>omega) (by split<;>omega)]
  rw[gB,List.filter_cons,List.filter_cons]
  congr 2
  ·split
   ·rw[List.length_cons]; omega
   ·rw[Nat.add_zero]
  ·split
   ·rw[List.length_cons]; omega
   ·rw[Nat.add_zero]
theorem oD (n:Nat) (ha:Nr a) (hb:Nr b) (hc:Nr c) (hd:Nr d) (hn:15<n):∀(j m k e:Nat),j≤15→j<m→k+15*j<900→e+15*j<900 →
  oQ (sr n a.1 a.2 b.1 b.2 c.1 c.2 d.1 d.2) m ((k:Int),(e:Int),8-(j:Int))=some (((k+((dp j).filter (pB a b c d)).length:Nat):Int),((e+((dp j).filter (pE a b c d)).length:Nat):Int))
 | 0,m,k,e,_,hm,_,_=>by
  obtain⟨m,rfl⟩:∃m',m=m'+1:=⟨m-1,by omega⟩
  refine jx ?_;unfold sr
  dsimp only
  rw[ef (by omega)]; rfl
 | j+1,m,k,e,hj,hm,hk,he=>by
  obtain⟨m,rfl⟩:∃m',m=m'+1:=⟨m-1,by omega⟩
  have hin:=p4 n ha hb hc hd (x:=8-((j+1:Nat):Int)) (by omega) 15 n k e (by omega) hn (by omega) (by omega)
  rw[show(8:Int)-((15:Nat):Int) = -7 by decide] at hin
  have f1:=List.length_filter_le (pB a b c d) (gB (8-((j+1:Nat):Int)) 15);have f2:=List.length_filter_le (pE a b c d) (gB (8-((j+1:Nat):Int)) 15);rw[rD] at f1 f2;have st:sr n a.1 a.2 b.1 b.2 c.1 c.2 d.1 d.2 ((k:Int),(e:Int),8-((j+1:Nat):Int))=some (.inl (((k+((gB (8-((j+1:Nat):Int)) 15).filter (pB a b c d)).length:Nat):Int),((e+((gB (8-((j+1:Nat):Int)) 15).filter (pE a b c d)).length:Nat):Int),8-(j:Int))):=by
   unfold sr
   dsimp only
   rw[ei (by omega),hin,aY]
   dsimp only
   rw[aS (by omega) (by omega),show 8-((j+1:Nat):Int)+1=8-(j:Int) by omega]
  rw[ee st,oD n ha hb hc hd hn j m _ _ (by omega) (by omega) (by omega) (by omega),dp,List.filter_append,List.filter_append,List.length_append,List.length_append]
  congr 2
  ·rw[Nat.add_assoc]
  ·rw[Nat.add_assoc]
theorem nB (ha:Sm a) (hb:Sm b) {q:I2} (h:dE a b q):q ∈ dp 15:=by
 obtain⟨_,h1,h2,h3,h4⟩:=h;unfold Sm at ha hb;rw[kQ]; omega
end
theorem w7 (x:Int) : -6≤Int.tmod x 7∧Int.tmod x 7≤6:=by
 have h1:=Int.lt_tmod_of_pos x (show(0:Int)<7 by decide)
 have h2:=Int.tmod_lt_of_pos x (show(0:Int)<7 by decide)
 omega
theorem vI (n:Nat) (x1 x2 x3 x4 x5 x6 x7 x8:Int) (h1:jk x1) (h2:jk x2) (h3:jk x3) (h4:jk x4) (h5:jk x5) (h6:jk x6) (h7:jk x7) (h8:jk x8) (hn:20<n):F6 n x1 x2 x3 x4 x5 x6 x7 x8=some true:=by
 unfold jk at h1 h2 h3 h4 h5 h6 h7 h8;unfold F6;rw[show zH n=some true from rfl,aY,Bool.not_true,jC]
 rw[aS h1.1 h1.2,aS h2.1 h2.2,aS h3.1 h3.2,aS h4.1 h4.2,aS h5.1 h5.2,aS h6.1 h6.2,aS h7.1 h7.2,aS h8.1 h8.2];obtain⟨a,ea⟩:∃a:I2,a=(Int.tmod x1 7,Int.tmod x2 7):=⟨_,rfl⟩;obtain⟨b,eb⟩:∃b:I2,b=(Int.tmod x3 7,Int.tmod x4 7):=⟨_,rfl⟩;obtain⟨c,ec⟩:∃c:I2,c=(Int.tmod x5 7,Int.tmod x6 7):=⟨_,rfl⟩;obtain⟨d,ed⟩:∃d:I2,d=(Int.tmod x7 7,Int.tmod x8 7):=⟨_,rfl⟩;have sa:Sm a:=by rw[ea]; have:=w7 x1; have:=w7 x2; unfold Sm; dsimp only; omega
 have sb:Sm b:=by rw[eb]; have:=w7 x3; have:=w7 x4; unfold Sm; dsimp only; omega
 have sc:Sm c:=by rw[ec]; have:=w7 x5; have:=w7 x6; unfold Sm; dsimp only; omega
 have sd:Sm d:=by rw[ed]; have:=w7 x7; have:=w7 x8; unfold Sm; dsimp only; omega
 rw[show Int.tmod x1 7=a.1 by rw[ea],show Int.tmod x2 7=a.2 by rw[ea],show Int.tmod x3 7=b.1 by rw[eb],show Int.tmod x4 7=b.2 by rw[eb],
  show Int.tmod x5 7=c.1 by rw[ec],show Int.tmod x6 7=c.2 by rw[ec],show Int.tmod x7 7=d.1 by rw[ed],show Int.tmod x8 7=d.2 by rw[ed]]
 clear ea eb ec ed;have iw:∀{p:I2},Sm p→jk p.1∧jk p.2:=fun {p} h=>by unfold Sm at h; unfold jk; omega
 have nf:∀{p:I2},Sm p→¬Fa p:=fun {p} h=>by unfold Sm at h; unfold Fa; omega
 rw[ot n (iw sa) (iw sb) (iw sc) (iw sd) (by omega),aY,gk,gk]
 by_cases he:a=b∨c=d
 ·rw[if_pos (by rcases he with h|h<;>simp[h])]
  dsimp only
  have:br (decide (a=b)) (some (a.1,a.2,b.1,b.2,c.1,c.2,d.1,d.2,true)) (some (a.1,a.2,b.1,b.2,c.1,c.2,d.1,d.2,decide (c=d)))=some (a.1,a.2,b.1,b.2,c.1,c.2,d.1,d.2,true):=by
   rcases he with h|h
   ·rw[decide_eq_true h]; rfl
   ·rw[decide_eq_true h]; cases decide (a=b)<;>rfl
  rw[this,aY]
  rfl
 ·obtain⟨hab,hcd⟩:=not_or.1 he;have hneg:¬(Fa a∨Fa b∨Fa c∨Fa d∨a=b∨c=d):=by simp only[not_or]; exact⟨nf sa,nf sb,nf sc,nf sd,hab,hcd⟩
  rw[if_neg hneg,decide_eq_false hab,decide_eq_false hcd,jC]
  dsimp only
  rw[aY]
  dsimp only
  rw[jC];rw[ot n (iw sc) (iw sd) (iw sa) (iw sb) (by omega),if_neg (by simp only[not_or]; exact⟨nf sc,nf sd,nf sa,nf sb,hcd,hab⟩),rZ,aY]
  dsimp only
  rw[decide_eq_true rfl,decide_eq_true rfl,Bool.not_true,jC,aY,jC];rw[ot n (iw sb) (iw sa) (iw sc) (iw sd) (by omega),if_neg (by simp only[not_or]; exact⟨nf sb,nf sa,nf sc,nf sd,Ne.symm hab,hcd⟩),pa,aY]
  dsimp only
  rw[decide_eq_true rfl,decide_eq_true rfl,Bool.not_true,jC,aY,jC];rw[ot n (iw sd) (iw sc) (iw sa) (iw sb) (by omega),if_neg (by simp only[not_or]; exact⟨nf sd,nf sc,nf sa,nf sb,Ne.symm hcd,hab⟩),pa,rZ,aY]
  dsimp only
  rw[decide_eq_true rfl,decide_eq_true rfl,Bool.not_true,jC,aY,jC];have L:=oD n sa.nr sb.nr sc.nr sd.nr (by omega) 15 n 0 0 (by omega) (by omega) (by omega) (by omega)
  rw[show(8:Int)-((15:Nat):Int) = -7 by decide,Nat.zero_add,Nat.zero_add] at L
  rw[show(((0:Nat):Int),((0:Nat):Int),(-7:Int))=((0:Int),(0:Int),(-7:Int)) from rfl] at L
  rw[L,aY]
  dsimp only
  have gn:=kS 15;have pb:∀{q},pB a b c d q=true↔xW a b c d q:=fun {q}=>by unfold pB; rw[decide_eq_true_eq]; rfl
  have pe:∀{q},pE a b c d q=true↔dZ a b c d q:=fun {q}=>by unfold pE dZ; rw[Bool.and_eq_true,decide_eq_true_eq,decide_eq_true_eq]; exact And.comm
  have pe_b:∀{q},pE a b c d q=true→pB a b c d q=true:=fun {q} h=>pb.2 (pe.1 h).2;have off:∀{p:I2→Bool} {q},¬p q=true→p q=false:=fun h=>by simpa using h
  rcases vz hab hcd with⟨e,h⟩|⟨e,x,hx,h⟩|⟨e,hc,h⟩|⟨e,x,y,hx,hy,hne⟩
  ·rw[e];have c0:=filter_none (p:=pB a b c d) (l:=dp 15) fun q _=>off fun hq=>h q (pb.1 hq);rw[c0]; rfl
  ·rw[e];have x1:x ∈ dp 15:=nB sa sb hx.2.1;have c1:=eY (p:=pB a b c d) gn fun u v hu hv=>(h u (pb.1 hu)).trans (h v (pb.1 hv)).symm;have c2:=eY (p:=pE a b c d) gn fun u v hu hv=>(h u (pb.1 (pe_b hu))).trans (h v (pb.1 (pe_b hv))).symm;have c3:=lI x1 (pb.2 hx.2);have c4:=lI x1 (pe.2 hx);have e1:((dp 15).filter (pB a b c d)).length=1:=by omega
   have e2:((dp 15).filter (pE a b c d)).length=1:=by omega
   rw[e1,e2]; rfl
  ·rw[e];have c1:=eY (p:=pB a b c d) gn fun u v hu hv=>h u v (pb.1 hu) (pb.1 hv);have c2:=filter_none (p:=pE a b c d) (l:=dp 15) fun q _=>off fun hq=>hc q (pe.1 hq);rw[c2,ef (show ¬(2:Int)=0 by decide),ef (show ¬(2:Int)=1 by decide),ei (show(2:Int)=2 from rfl),tE,ei (by omega)]; rfl
  ·rw[e];have x1:x ∈ dp 15:=nB sa sb hx.2.1;have y1:y ∈ dp 15:=nB sa sb hy.2.1;have c1:=lj x1 (pb.2 hx.2) y1 (pb.2 hy.2) hne;have c2:=lj x1 (pe.2 hx) y1 (pe.2 hy) hne;rw[ef (show ¬(3:Int)=0 by decide),ef (show ¬(3:Int)=1 by decide),ef (show ¬(3:Int)=2 by decide),tE,ei (show(3:Int)=3 from rfl),ei (by omega),decide_eq_true (by omega)]
end Go.Proofs.YthmekkhpddehjaaGreat
end
