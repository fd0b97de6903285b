/- A part of the proof. -/
import Derived.Test.YtmndpgfbkicndaaCe5
set_option linter.all false
namespace Go.Proofs.Ytmndpgfbkicndaa
section
open Go Go.Ab Go.Ab.W
set_option maxRecDepth 10000
set_option maxHeartbeats 4000000
attribute [local irreducible] Wo Wk At Wn Od Ox bj bW
attribute [local irreducible] Tm.at Trie.set Trie.get Yq.get Yq.set Yq.alloc Yq.ww Yq.kill
variable{p q:YA Prim}
def O5:∀b o,aG (Yt p q).P 28 (ptr b o) 1=some (ptr b (o+1)):=fun _ _=>by kernel_rfl
instance:FaC (Yt p q).P 28 1 1:=⟨O5⟩
def Nd:TyI (Yt p q).P 5 false 1:=⟨by kernel_rfl,by kernel_rfl,by kernel_rfl⟩
instance:TyC (Yt p q).P 5 false 1:=⟨Nd⟩
def u5:(Yt p q).P.underlying 5=some (.int .u8):=by kernel_rfl
def OJ:∀b o,aG (Yt p q).P 28 (ptr b o) 0=some (ptr b (o+0)):=fun _ _=>by kernel_rfl
instance:FaC (Yt p q).P 28 0 0:=⟨OJ⟩
def O4:∀b o,aG (Yt p q).P 28 (ptr b o) 4=some (ptr b (o+4)):=fun _ _=>by kernel_rfl
instance:FaC (Yt p q).P 28 4 4:=⟨O4⟩
def uO:∀b o,aG (Yt p q).P 28 (ptr b o) 2=some (ptr b (o+2)):=fun _ _=>by kernel_rfl
instance:FaC (Yt p q).P 28 2 2:=⟨uO⟩
def Oo:∀cs:YD XI,ji (Yt p q).P 34 (.agg cs) 1=dA (Yt p q).P 32 cs 1:=fun _=>by kernel_rfl
def Pd:∀b o,aG (Yt p q).P 28 (ptr b o) 3=some (ptr b (o+3)):=fun _ _=>by kernel_rfl
instance:FaC (Yt p q).P 28 3 3:=⟨Pd⟩
def H9{n x1 x2 x3 x4 x5 x6 l17 l18 a6 c0 a8 c3}{r10:XH}{e9:XF}{r}(hF:Qx n x1 x2 x3 x4 x5 x6 l17 l18=some r)(m){H:XH}(hH:∀b,H b->b<m.next)(h17:lF m a6 c0 l17)(h18:∀b,mz a6=some b->¬H b)(h19:pC m a8 c3 l18 e9)(h20:∀b,mz a8=some b->¬H b)(h21:(cE al r10 l18 e9).P m)(h22:∀b,r10 b->¬H b):
 aK (Yt p q) 22 [.agg #[.int .u8 ((x1:Nat):Int),.int .u8 ((x2:Nat):Int),.int .u8 ((x3:Nat):Int),bu x4,bu x5,bu x6],mU a6 l17 c0 a8 l18 c3] m (fun v m'=>∃x:XG×Nat×Nat×XG×Nat×Nat×XF ×(Nat->Prop),v=.agg #[.slice x.1 x.2.2.1 x.2.1,.slice x.2.2.2.1 x.2.2.2.2.2.1 x.2.2.2.2.1]/\Hp m m' [.rd x.1 x.2.1 2 x.2.2.1 (r.1.map (eP (eI .i64) (eI .i64))),.rd x.2.2.2.1 x.2.2.2.2.1 2 x.2.2.2.2.2.1 x.2.2.2.2.2.2.1,.gen (cE al x.2.2.2.2.2.2.2 r.2 x.2.2.2.2.2.2.1),eQ H]):=by
 unfold Qx at hF;refine cw Try.func22 (Hp.Iy (l0:=[Fx a8 c3 l18 e9,tL a6 c0 l17]) (Hp.qG (l0:=[tL a6 c0 l17]) (Hp.qG (l0:=[]) (Hp.uF m hH) eL h17 h18) (fH eL) h19 h20) (fH (fH eL)) h21 h22) ?_;refine wz ?_;refine wb fun b3=>?_;refine wb fun b1=>?_;refine wa tG fun b2=>?_;refine az ?_;obtain⟨⟨l4,l1⟩,h23,hF⟩:=J hF;refine X1 (Sl rfl rfl (fun m hm=>IV h23 m (hm.q 5) (hm.q 4) (hm.dp (q:=3) rfl)) fun _=>(zv (zv (GB E5)))) gn rfl ?_;rintro⟨a2,n2,a13,n4,e0,r11⟩;refine Ye (k:=0) (xs:=l4) rfl ?_;rintro rfl;refine Wo.OS (k:=1) (q:=2) (L:=l1) rfl rfl ?_;rintro rfl;refine az ?_;refine XS<|XS ?_;obtain⟨v0,h24,hF⟩:=J hF;refine ct (fun v0 (_:YC)=>⟨.normal,(jC b3 b1 [(4,ptr b2 0),(5,eD l4),(6,eD l1),(25,.bool v0)]),[AZ b3 x1 x2 x3 x4 x5 x6,vz b1 a2 l4 a13 l1,dz a2 l4,mV a13 l1 e0,q6 cH r11 l1 e0,gA b2,eQ H]⟩) v0 ?_ ?_;clear hF;revert v0;intro r hF;refine wz ?_;rcases aa hF with⟨h25,hF⟩|⟨h25,hF⟩;refine wz ?_;cases hF;exact ae () [5,4,0,1,2,3,9];refine wz ?_;cases hF;exact ae () [5,4,0,1,2,3,9];rintro⟨⟩;refine XX ?_;rcases aa hF with⟨h26,hF⟩|⟨h26,hF⟩;refine az ?_;cases hF;refine XY (ai.aq [4,0,1,2,3,5,6] rfl rfl)<|XY ai.iT<|XY (ai.freeze (k:=4) rfl) ?_;exact X2 (.cell (k:=5) fZ rfl rfl rfl .nil) fun m' hm=>⟨(a2,l4.length,l4.length,a13,l1.length,l1.length,e0,r11),rfl,(ai.trans (ai.freeze (k:=3) rfl) (ai.aq [3,4,0,6] rfl rfl)) m' hm⟩;refine az ?_;refine XR (lT rfl (lV (by rw[u5]; rfl) u3)) rfl ?_
 refine wz ?_;obtain⟨h27,hF⟩:=aD hF;refine XR (aL rfl rfl (cu _ _ h27)) rfl ?_;refine wz ?_;refine XR (lT rfl (lV (by rw[u5]; rfl) u3)) rfl ?_
 refine wz ?_;obtain⟨h28,hF⟩:=aD hF;refine XR (aL rfl rfl (cu _ _ h28)) rfl ?_;obtain⟨h8,hF⟩:=du hF;refine Yg (k:=3) rfl (aW h8) ?_;rintro b0 t0 rfl h95;refine X3 (uW kJ rfl rfl h8) gn rfl<|XR (bE rfl) rfl<|XR (bE rfl) rfl ?_;obtain⟨⟨l2,l3⟩,h1,hF⟩:=J hF;refine X0 (ai.aq [4,0,1,2,3,5,6] rfl rfl)<|Wo.D1 (o:=cH) (j:=((Int.tmod (XN ((x2:Nat):Int)) (l1.length:Int)).toNat)) (x:=(l2,l3)) (N:=fun g S1 S2=>[.sl g.1 1 l2.length (l2.map (eI .i64)),.sl (g.2).1 1 l3.length (g.2).2.1,.gen (cY iV (g.2).2.2 l3 (g.2).2.1),.gen (cY cH S1 (l1.take ((Int.tmod (XN ((x2:Nat):Int)) (l1.length:Int)).toNat)) (e0.take ((Int.tmod (XN ((x2:Nat):Int)) (l1.length:Int)).toNat))),.gen (cY cH S2 (l1.drop (((Int.tmod (XN ((x2:Nat):Int)) (l1.length:Int)).toNat)+1)) (e0.drop (((Int.tmod (XN ((x2:Nat):Int)) (l1.length:Int)).toNat)+1))),AZ b3 x1 x2 x3 x4 x5 x6,lq b1 a2 l4 b0 l1,dz a2 l4,.arr b0 2 l1.length e0 t0,gA b2,eQ H]) h1 (fun _ _ _=>rfl) ?_;rintro⟨a0,⟨a1,e1,r3⟩⟩ r0 r1 h0;refine X0 (ai.oq (k:=8) rfl (iX h0).symm) ?_;refine wz ?_;refine XS ?_;obtain⟨r4,h29,hF⟩:=J hF;refine ct (fun(l23,n0,n1,l24) ((a9,c1,a10,c2,e5,r5):XG×Nat×XG×Nat×XF ×(Nat->Prop))=>⟨.normal,[(3,ptr b1 0),(4,ptr b2 0)],[.obj b1 (.cells [.slice a9 n0 c1,.slice a10 n1 c2] .own),.gen (pF a9 c1 2 n0 (l23.map (eP (eI .i64) (eI .i64)))),.rd a10 c2 2 n1 e5,gQ al r5 l24 e5,gA b2,eQ H]⟩) r4 ?_ ?_;clear hF;revert r4;intro r hF;refine wz ?_;refine XR (aL rfl rfl (qj _ _ (by decide))) rfl ?_
 refine az ?_;rcases aa hF with⟨h30,hF⟩|⟨h30,hF⟩;refine wz ?_;obtain⟨h31,hF⟩:=du hF;refine Yg (k:=7) rfl (aW h31) ?_;rintro b6 t3 rfl h96;refine wz ?_;obtain⟨⟨x12,x13⟩,h32,hF⟩:=J hF;refine X8 (tw (k:=7) (x1:=(x12,x13)) (x2:=(x5,x6)) dN rfl rfl rfl h32 rfl) ?_;refine wz ?_;refine XY (ai.freeze (k:=0) rfl)<|XY (ai.aq [2,0,1,3,4,5,6,7,8,9,10] rfl rfl)<|XY ai.iT<|XY (ai.freeze (k:=2) rfl)<|XY (ai.aq [3,4,0,1,2,5,6,7,8,9,10] rfl rfl)<|At.jt (o:=cH) (r:=al) (y:=(l2,l3)) (g:=((a0,l2.length),(a1,l3.length,e1))) (e2:=[bZ a0 l2,bZ a1 l3]) h1 h0 (Lf.p (Lf.sr (k:=1) rfl) (Lf.lr (k:=2) (q:=0) rfl rfl rfl)) (fun _ _=>rfl) ?_;intro r15;refine XY (ai.close (k:=7) rfl)<|XY (ai.freeze (k:=7) rfl) ?_;cases hF;exact aT ((some ⟨b6,0,none⟩),l4.length,(some ⟨b0,0,none⟩),l1.length,(e0.set ((Int.tmod (XN ((x2:Nat):Int)) (l1.length:Int)).toNat) [bZ a0 l2,bZ a1 l3]),r15) (ai.trans (ai.close (k:=6) rfl) (ai.trans (ai.zr (k:=6) rfl) (ai.aq [5,6,7,0,8,9] rfl rfl)));refine wz ?_;rcases aa hF with⟨h33,hF⟩|⟨h33,hF⟩;refine wz ?_;refine XR (lT rfl (lV (by rw[u5]; rfl) u3)) rfl ?_
 refine wz ?_;obtain⟨h34,hF⟩:=aD hF;refine XR (aL rfl rfl (cu _ _ h34)) rfl ?_;obtain⟨h35,hF⟩:=du hF;refine Yg (k:=7) rfl (aW h35) ?_;rintro b7 t4 rfl h97;refine wz ?_;obtain⟨⟨x14,x15⟩,h98,hF⟩:=J hF;refine wz ?_;obtain⟨h99,hF⟩:=du hF;refine wz ?_;obtain⟨⟨x16,x17⟩,h36,hF⟩:=J hF;refine X8 (tw (k:=7) (x1:=(x16,x17)) (x2:=(x14,x15)) dN rfl rfl rfl h36 rfl) ?_;refine wz ?_;refine XY (ai.freeze (k:=0) rfl)<|XY (ai.aq [2,0,1,3,4,5,6,7,8,9,10] rfl rfl)<|XY ai.iT<|XY (ai.freeze (k:=2) rfl)<|XY (ai.aq [3,4,0,1,2,5,6,7,8,9,10] rfl rfl)<|At.jt (o:=cH) (r:=al) (y:=(l2,l3)) (g:=((a0,l2.length),(a1,l3.length,e1))) (e2:=[bZ a0 l2,bZ a1 l3]) h1 h0 (Lf.p (Lf.sr (k:=1) rfl) (Lf.lr (k:=2) (q:=0) rfl rfl rfl)) (fun _ _=>rfl) ?_;intro r16;refine XY (ai.close (k:=7) rfl)<|XY (ai.freeze (k:=7) rfl) ?_;cases hF;exact aT ((some ⟨b7,0,none⟩),l4.length,(some ⟨b0,0,none⟩),l1.length,(e0.set ((Int.tmod (XN ((x2:Nat):Int)) (l1.length:Int)).toNat) [bZ a0 l2,bZ a1 l3]),r16) (ai.trans (ai.close (k:=6) rfl) (ai.trans (ai.zr (k:=6) rfl) (ai.aq [5,6,7,0,8,9] rfl rfl)));refine wz ?_;rcases aa hF with⟨h37,hF⟩|⟨h37,hF⟩;refine wz ?_;refine X1 (cB (es:=([(x5,x6)]:XD).map (eP (eI .i64) (eI .i64))) Ae rfl (cz Ae z26 rfl rfl) rfl rfl) gn rfl fun b11=>?_;obtain⟨h38,hF⟩:=aD hF;refine X1 (vy (k:=8) (k2:=0) (xs:=(l4:XD)) (ys:=([(x5,x6)]:XD)) (Gs (uV .i64) (uV .i64)) Ae ⟨_,Q7⟩ rfl rfl rfl (.arr _ _ _ _ _) h38) gn rfl fun a18=>?_;refine wz ?_;refine XY (ai.freeze (k:=1) rfl)<|XY (ai.aq [3,0,1,2,4,5,6,7,8,9,10,11] rfl rfl)<|XY ai.iT<|XY (ai.freeze (k:=3) rfl)<|XY (ai.aq [4,5,0,1,2,3,6,7,8,9,10,11] rfl rfl)<|At.jt (o:=cH) (r:=al) (y:=(l2,l3)) (g:=((a0,l2.length),(a1,l3.length,e1))) (e2:=[bZ a0 l2,bZ a1 l3]) h1 h0 (Lf.p (Lf.sr (k:=2) rfl) (Lf.lr (k:=3) (q:=0) rfl rfl rfl)) (fun _ _=>rfl) ?_;intro r17;refine XY (ai.close (k:=8) rfl)<|XY (ai.freeze (k:=8) rfl) ?_;cases hF;exact aT (a18,(l4++[(x5,x6)]).length,(some ⟨b0,0,none⟩),l1.length,(e0.set ((Int.tmod (XN ((x2:Nat):Int)) (l1.length:Int)).toNat) [bZ a0 l2,bZ a1 l3]),r17) (ai.trans (ai.zr (k:=7) rfl) (ai.aq [6,7,8,0,9,10] rfl rfl));refine wz ?_;rcases aa hF with⟨h39,hF⟩|⟨h39,hF⟩;refine wz ?_;obtain⟨h40,hF⟩:=aD hF;obtain⟨h2,hF⟩:=aD hF;replace h2:=of_decide_eq_true h2;obtain⟨l29,h3,hF⟩:=J hF;replace h3:=U9 h3;refine X0 (ai.zr (k:=7) rfl)<|X3 (Na (k:=7) (hi:=Int.tmod (XN ((x2:Nat):Int)) (l4.length:Int)) Ae rfl rfl rfl h40 h2 h3) gn rfl ?_;refine wz ?_;refine XY (ai.freeze (k:=0) rfl)<|XY (ai.aq [2,0,1,3,4,5,6,7,8,9,10] rfl rfl)<|XY ai.iT<|XY (ai.freeze (k:=2) rfl)<|XY (ai.aq [3,4,0,1,2,5,6,7,8,9,10] rfl rfl)<|At.jt (o:=cH) (r:=al) (y:=(l2,l3)) (g:=((a0,l2.length),(a1,l3.length,e1))) (e2:=[bZ a0 l2,bZ a1 l3]) h1 h0 (Lf.p (Lf.sr (k:=1) rfl) (Lf.lr (k:=2) (q:=0) rfl rfl rfl)) (fun _ _=>rfl) ?_;intro r18;refine XY (ai.close (k:=7) rfl)<|XY (ai.freeze (k:=7) rfl) ?_;cases hF;exact ae (a2,l4.length,(some ⟨b0,0,none⟩),l1.length,(e0.set ((Int.tmod (XN ((x2:Nat):Int)) (l1.length:Int)).toNat) [bZ a0 l2,bZ a1 l3]),r18) [5,6,7,0,8,9];refine wz ?_;rcases aa hF with⟨h9,hF⟩|⟨h9,hF⟩;refine X7 rfl h9<|Ya (prs:=[(1,3),(3,6)]) (by kernel_rfl)<|XU (aI (r:=ptr b1 1) rfl (fF _ _)) rfl<|XU (aJ (k:=6) nu rfl rfl rfl) rfl<|XU (aJ (k:=6) fZ rfl rfl rfl) rfl<|Yh (ai.aq [0,1,2,3,4,5,6,7,8,9,10] rfl rfl)<|Wn.HV (o:=cH) (g:=(a0,(a1,e1,r3))) h1 h0 rfl ?_
 intro r19;refine Yh (ai.oq (k:=4) rfl (iX h0)) ?_;obtain⟨⟨l25,l19⟩,h41,hF⟩:=J hF;refine Wn.c (Sn rfl rfl (fun m hm=>IV h41 m (hm.rd (k:=3) rfl (.sl _ _ _ _)) (hm.q 4) (hm.od (q:=0) rfl)) fun _=>(zv (zv (GB E5)))) gn rfl ?_;rintro⟨a19,n5,a24,n7,e10,r34⟩;refine Wn.len (k:=0) (xs:=l25) rfl ?_;rintro rfl;refine Wn.OS (k:=1) (q:=2) (L:=l19) rfl rfl ?_;rintro rfl;refine XU (Tt rfl ((Oo _).trans (CF nu rfl))) rfl<|XU (aI (r:=ptr b3 2) rfl (uO _ _)) rfl<|XU (aJ (k:=4) Nd rfl rfl rfl) rfl<|XU (lT rfl (lV (by rw[u5]; rfl) u3)) rfl<|XU (aX rfl) rfl ?_
 obtain⟨h42,hF⟩:=aD hF;refine XU (aL rfl rfl (cu _ _ h42)) rfl ?_;obtain⟨h10,hF⟩:=du hF;refine Wn.open (k:=1) rfl (aW h10) ?_;rintro b8 t2 rfl h100;refine Yf (uW kJ rfl rfl h10) gn rfl ?_;obtain⟨⟨l10,l11⟩,h43,hF⟩:=J hF;refine Yh (ai.aq [2,0,1,3,4,5,6,7,8,9] rfl rfl) ?_;refine Wn.D1 (o:=cH) (j:=((Int.tmod (XN ((x3:Nat):Int)) (l1.length:Int)).toNat)) (x:=(l10,l11)) (N:=fun g S1 S2=>[.sl g.1 1 l10.length (l10.map (eI .i64)),.sl (g.2).1 1 l11.length (g.2).2.1,.gen (cY iV (g.2).2.2 l11 (g.2).2.1),.gen (cY cH S1 (l19.take ((Int.tmod (XN ((x3:Nat):Int)) (l1.length:Int)).toNat)) (e10.take ((Int.tmod (XN ((x3:Nat):Int)) (l1.length:Int)).toNat))),.gen (cY cH S2 (l19.drop (((Int.tmod (XN ((x3:Nat):Int)) (l1.length:Int)).toNat)+1)) (e10.drop (((Int.tmod (XN ((x3:Nat):Int)) (l1.length:Int)).toNat)+1))),dz a19 l25,.arr b8 2 l19.length e10 t2,q6 cH r19 l1 e0,AZ b3 x1 x2 x3 x4 x5 x6,lq b1 a2 l4 b0 l1,dz a2 l4,.arr b0 2 l1.length e0 t0,gA b2,eQ H]) h43 (fun _ _ _=>rfl) ?_;rintro⟨a14,⟨a15,e11,r20⟩⟩ r35 r36 h11;refine Yh (ai.oq (k:=6) rfl (iX h11).symm)<|XU (gH (k:=6) Lu rfl rfl (dj h11) rfl rfl) rfl<|Wn.x (cB (es:=[[bZ a14 l10,bZ a15 l11]]) kJ rfl (cz kJ z54 rfl rfl) rfl rfl) gn rfl fun b12=>?_;refine Yh (ai.aq [1,2,3,0,4,5,6,7,8,9,10,11,12,13,14] rfl rfl)<|Wn.wS (o:=cH) (x:=(l10,l11)) (g:=(a14,(a15,e11,r20))) rfl ?_;intro r37;obtain⟨h44,hF⟩:=aD hF;refine Yh (ai.close (k:=10) rfl)<|Yh (ai.aq [6,0,10,1,2,3,4,5,7,8,9,11,12] rfl rfl)<|Wn.x (uR (o:=cH) (L:=l1) (L':=([(l10,l11)]:XB)) kJ ⟨_,u32⟩ rfl (.arr _ _ _ _ _) rfl h44) gn rfl ?_;rintro⟨a20,r21⟩;refine XU (aI (r:=ptr b1 1) rfl (fF _ _)) rfl<|Wn.o0 (fe (k:=8) nu rfl rfl rfl rfl rfl)<|X5 (fun m hm=>dQ.all rfl)<|At.bn<|XY (ai.aq [0,1,2,5,7,8,9,10,11] rfl rfl)<|XY (ai.aq [0,1,2,3,4,5,6,7,8] rfl rfl)<|XY ai.iT<|XY (ai.freeze (k:=1) rfl) ?_;cases hF;exact aT (a2,l4.length,a20,(l1++([(l10,l11)]:XB)).length,(e0++([[bZ a14 l10,bZ a15 l11]]:XF)),r21) (ai.trans (ai.zr (k:=6) rfl) (ai.aq [5,6,1,0,7,8] rfl rfl));refine wz ?_;rcases aa hF with⟨h45,hF⟩|⟨h45,hF⟩;refine wz ?_;refine XR (lT rfl (lV (by rw[u5]; rfl) u3)) rfl ?_
 refine wz ?_;obtain⟨h46,hF⟩:=aD hF;refine XR (aL rfl rfl (cu _ _ h46)) rfl ?_;refine wz ?_;refine XR (lT rfl (lV (by rw[u5]; rfl) u3)) rfl ?_
 refine wz ?_;obtain⟨h47,hF⟩:=aD hF;refine XR (aL rfl rfl (cu _ _ h47)) rfl ?_;obtain⟨y1,h48,hF⟩:=J hF;refine XR (aL rfl rfl ((bD _ _ _).trans (cI h48))) rfl<|X0 (ai.aq [0,1,2,3,4,5,6,7,8,9,10] rfl rfl)<|Wo.HV (o:=cH) (g:=(a0,(a1,e1,r3))) h1 h0 rfl ?_;intro r38;refine X0 (ai.oq (k:=4) rfl (iX h0)) ?_;obtain⟨l22,h49,hF⟩:=J hF;refine X0 (ai.close (k:=4) rfl)<|X0 (ai.aq [4,0,1,2,3,5,6] rfl rfl)<|X1 (nq (α:=Nat->Prop) (V:=fun _=>.slice (some ⟨b0,0,none⟩) l22.length l1.length) (N:=(fun r6:Nat->Prop=>[.gen (cY cH r6 l22 (e0.take (Int.tmod (XN ((x2:Nat):Int)) (l1.length:Int):Int).toNat++e0.drop (y1:Int).toNat)),.gen (pF (some ⟨b0,0,none⟩) l1.length 2 l22.length (e0.take (Int.tmod (XN ((x2:Nat):Int)) (l1.length:Int):Int).toNat++e0.drop (y1:Int).toNat)),AZ b3 x1 x2 x3 x4 x5 x6,lq b1 a2 l4 b0 l1,dz a2 l4,gA b2,eQ H])) rfl rfl (fun m hm=>MS n hm h49)) gn rfl fun r6=>?_;refine wz ?_;refine XY (ai.aq [0,1,2,3,4,5,6] rfl rfl)<|XY ai.iT<|XY (ai.GH (k:=1) rfl) ?_;cases hF;exact aT (a2,l4.length,(some ⟨b0,0,none⟩),l1.length,(e0.take (Int.tmod (XN ((x2:Nat):Int)) (l1.length:Int):Int).toNat++e0.drop (y1:Int).toNat),r6) (ai.trans (ai.zr (k:=4) rfl) (ai.aq [3,4,1,0,5,6] rfl rfl));refine wz ?_;rcases aa hF with⟨h50,hF⟩|⟨h50,hF⟩;refine wz ?_;refine XR (ko rfl) rfl<|XR (aI (r:=ptr b0 ((Int.tmod (XN ((x2:Nat):Int)) (l1.length:Int)).toNat*2+0)) rfl (eY _ _)) rfl<|XR (gH (k:=8) mc rfl rfl (dj h0) rfl rfl) rfl ?_;refine az ?_;rcases aa hF with⟨h51,hF⟩|⟨h51,hF⟩;refine wz ?_;refine XR (ko rfl) rfl<|XR (aI (r:=ptr b0 ((Int.tmod (XN ((x2:Nat):Int)) (l1.length:Int)).toNat*2+0)) rfl (eY _ _)) rfl<|XR (gH (k:=8) mc rfl rfl (dj h0) rfl rfl) rfl ?_;refine wz ?_;refine XR (lT rfl (lV (by rw[u5]; rfl) u3)) rfl ?_
 refine wz ?_;obtain⟨h52,hF⟩:=aD hF;refine XR (aL rfl rfl (cu _ _ h52)) rfl ?_;refine wz ?_;obtain⟨h53,hF⟩:=du hF;refine Yg (k:=0) rfl (aW h53) ?_;rintro b5 t5 rfl h101;refine wz ?_;obtain⟨x18,h54,hF⟩:=J hF;refine X8 (tw (k:=0) (x1:=x18) (x2:=x4) cK rfl rfl rfl h54 rfl) ?_;refine wz ?_;refine XY (ai.close (k:=0) rfl)<|XY (ai.freeze (k:=0) rfl)<|XY (ai.aq [2,0,1,3,4,5,6,7,8,9,10] rfl rfl)<|XY ai.iT<|XY (ai.freeze (k:=2) rfl)<|XY (ai.aq [3,4,0,1,2,5,6,7,8,9,10] rfl rfl)<|At.jt (o:=cH) (r:=al) (y:=((l2.set ((Int.tmod (XN ((x3:Nat):Int)) (l2.length:Int)).toNat) x4),l3)) (g:=(((some ⟨b5,0,none⟩),l2.length),(a1,l3.length,e1))) (e2:=[yw b5 l2,bZ a1 l3]) h1 h0 (Lf.p (Lf.sr (k:=1) rfl) (Lf.lr (k:=2) (q:=0) rfl rfl rfl)) (fun m hm=>by have e3:=sA (k:=1) (xs:=(l2.set ((Int.tmod (XN ((x3:Nat):Int)) (l2.length:Int)).toNat) x4)) hm rfl; show([.slice (some ⟨b5,0,none⟩) ((l2.set ((Int.tmod (XN ((x3:Nat):Int)) (l2.length:Int)).toNat) x4).length) l2.length,bZ a1 l3]:YB XI)=_; rw[<-e3]) ?_
 intro r22;refine XY (ai.close (k:=7) rfl)<|XY (ai.freeze (k:=7) rfl) ?_;cases hF;exact aT (a2,l4.length,(some ⟨b0,0,none⟩),l1.length,(e0.set ((Int.tmod (XN ((x2:Nat):Int)) (l1.length:Int)).toNat) [yw b5 l2,bZ a1 l3]),r22) (ai.trans (ai.zr (k:=6) rfl) (ai.aq [5,6,7,0,8,9] rfl rfl));refine wz ?_;refine XY (ai.freeze (k:=0) rfl)<|XY (ai.aq [2,0,1,3,4,5,6,7,8,9,10] rfl rfl)<|XY ai.iT<|XY (ai.freeze (k:=2) rfl)<|XY (ai.aq [3,4,0,1,2,5,6,7,8,9,10] rfl rfl)<|At.jt (o:=cH) (r:=al) (y:=(l2,l3)) (g:=((a0,l2.length),(a1,l3.length,e1))) (e2:=[bZ a0 l2,bZ a1 l3]) h1 h0 (Lf.p (Lf.sr (k:=1) rfl) (Lf.lr (k:=2) (q:=0) rfl rfl rfl)) (fun _ _=>rfl) ?_;intro r23;refine XY (ai.close (k:=7) rfl)<|XY (ai.freeze (k:=7) rfl) ?_;cases hF;exact aT (a2,l4.length,(some ⟨b0,0,none⟩),l1.length,(e0.set ((Int.tmod (XN ((x2:Nat):Int)) (l1.length:Int)).toNat) [bZ a0 l2,bZ a1 l3]),r23) (ai.trans (ai.zr (k:=6) rfl) (ai.aq [5,6,7,0,8,9] rfl rfl));refine wz ?_;rcases aa hF with⟨h55,hF⟩|⟨h55,hF⟩;refine wz ?_;refine XR (ko rfl) rfl<|XR (aI (r:=ptr b0 ((Int.tmod (XN ((x2:Nat):Int)) (l1.length:Int)).toNat*2+0)) rfl (eY _ _)) rfl<|XR (gH (k:=8) mc rfl rfl (dj h0) rfl rfl) rfl ?_;obtain⟨l20,h56,hF⟩:=J hF;refine wq (fun l20 ((e6,r7):XF ×(Nat->Prop))=>(.tuple #[],[lq b1 a2 l4 b0 l1,dz a2 l4,.rd (some ⟨b0,0,none⟩) l1.length 2 l1.length e6,gQ al r7 l20 e6,gA b2,eQ H])) l20 (fun m hm=>?_) ?_;clear hF;revert l20;intro r hF;refine aS (N:=28) (rs:=[]) rfl Try.func46 rfl rfl rfl hm ?_;refine wz ?_;refine XV ?_;obtain⟨l16,h4,hF⟩:=J hF;refine ct (fun l16 (_:YC)=>⟨(.exit 0),[],[lq b1 a2 l4 b0 l1,dz a2 l4,.arr b0 2 l1.length (e0.set ((Int.tmod (XN ((x2:Nat):Int)) (l1.length:Int)).toNat) [bZ a0 l2,bZ a1 l3]) t0,.sl a0 1 l2.length (l16.map (eI .i64)),.sl a1 1 l3.length e1,q6 iV r3 l3 e1,.gen (cY cH r0 (l1.take ((Int.tmod (XN ((x2:Nat):Int)) (l1.length:Int)).toNat)) (e0.take ((Int.tmod (XN ((x2:Nat):Int)) (l1.length:Int)).toNat))),.gen (cY cH r1 (l1.drop (((Int.tmod (XN ((x2:Nat):Int)) (l1.length:Int)).toNat)+1)) (e0.drop (((Int.tmod (XN ((x2:Nat):Int)) (l1.length:Int)).toNat)+1))),gA b2,eQ H]⟩) l16 ?_ ?_;refine lo h4 () [0,6,7,8,1,2,3,4,9,10] (fun(l26,v1,v2) _=>⟨.normal,[(0,bZ a0 l2),(2,bu v1),(3,bu v2)],[.sl a0 1 l2.length (l26.map (eI .i64)),lq b1 a2 l4 b0 l1,dz a2 l4,.arr b0 2 l1.length (e0.set ((Int.tmod (XN ((x2:Nat):Int)) (l1.length:Int)).toNat) [bZ a0 l2,bZ a1 l3]) t0,.sl a1 1 l3.length e1,q6 iV r3 l3 e1,.gen (cY cH r0 (l1.take ((Int.tmod (XN ((x2:Nat):Int)) (l1.length:Int)).toNat)) (e0.take ((Int.tmod (XN ((x2:Nat):Int)) (l1.length:Int)).toNat))),.gen (cY cH r1 (l1.drop (((Int.tmod (XN ((x2:Nat):Int)) (l1.length:Int)).toNat)+1)) (e0.drop (((Int.tmod (XN ((x2:Nat):Int)) (l1.length:Int)).toNat)+1))),gA b2,eQ H]⟩) ?_;clear hF h4;rintro⟨l26,v1,v2⟩ ⟨⟩ r hF;unfold uG at hF;refine wz ?_;rcases aa hF with⟨h57,hF⟩|⟨h57,hF⟩;refine az ?_;obtain⟨h58,hF⟩:=du hF;refine Yg (k:=0) rfl (aW h58) ?_;rintro b13 t6 rfl h102;refine wz ?_;obtain⟨x19,h103,hF⟩:=J hF;refine wz ?_;obtain⟨h104,hF⟩:=du hF;refine wz ?_;obtain⟨x10,h59,hF⟩:=J hF;refine wz ?_;obtain⟨h105,hF⟩:=du hF;refine wz ?_;refine X8 (tw (k:=0) (x1:=x10) (x2:=x19) cK rfl rfl rfl h59 rfl) ?_;obtain⟨h106,hF⟩:=du hF;refine wz ?_;obtain⟨x20,h60,hF⟩:=J hF;refine X8 (tw (k:=0) (x1:=x20) (x2:=x10) cK rfl rfl rfl h60 rfl) ?_;refine az ?_;cases hF;exact aT () (ai.trans (ai.close (k:=0) rfl) (ai.aq [0,1,2,3,4,5,6,7,8,9] rfl rfl));refine wz ?_;cases hF;exact ae () (1::2::3::0::Yk 4 6);rintro⟨⟩;refine Yi<|XY (ai.freeze (k:=3) rfl)<|XY (ai.aq [5,0,1,2,3,4,6,7,8,9] rfl rfl)<|XY ai.iT<|XY (ai.freeze (k:=5) rfl)<|XY (ai.aq [6,7,0,1,2,3,4,5,8,9] rfl rfl)<|At.jt (o:=cH) (r:=al) (y:=(l16,l3)) (g:=((a0,l2.length),(a1,l3.length,e1))) (e2:=[bZ a0 l2,bZ a1 l3]) h1 h0 (Lf.p (Lf.sr (k:=4) rfl) (Lf.lr (k:=5) (q:=0) rfl rfl rfl)) (fun m hm=>by have e3:=sA (k:=4) (xs:=l16) hm rfl; show([.slice a0 l16.length l2.length,bZ a1 l3]:YB XI)=_; rw[<-e3]) ?_
 intro r24;refine XY (ai.close (k:=4) rfl)<|XY (ai.freeze (k:=4) rfl) ?_;cases hF;exact At.fin .nil fun m' hm=>⟨((e0.set ((Int.tmod (XN ((x2:Nat):Int)) (l1.length:Int)).toNat) [bZ a0 l2,bZ a1 l3]),r24),rfl,(ai.aq [2,3,4,0,7,8] rfl rfl) m' hm⟩;rintro⟨e6,r7⟩;refine wz ?_;cases hF;exact aT (a2,l4.length,(some ⟨b0,0,none⟩),l1.length,e6,r7) (ai.trans (ai.zr (k:=1) rfl) (ai.aq [0,1,2,3,4,5] rfl rfl));refine wz ?_;rcases aa hF with⟨h61,hF⟩|⟨h61,hF⟩;refine wz ?_;refine XR (ko rfl) rfl<|XR (aI (r:=ptr b0 ((Int.tmod (XN ((x2:Nat):Int)) (l1.length:Int)).toNat*2+1)) rfl (fK _ _)) rfl<|X8 (pV (k:=8) (j:=(Int.tmod (XN ((x2:Nat):Int)) (l1.length:Int)).toNat) (c:=1) (e:=[bZ a0 l2,bZ a1 l3]) (e':=[bZ a0 l2,.slice none 0 0]) oc rfl rfl rfl (dj h0) rfl)<|X0 (ai.oq (k:=8) rfl (List.set_set _)) ?_;refine wz ?_;refine XY (ai.freeze (k:=0) rfl)<|XY (ai.aq [3,4,0,1,2,5,6,7,8,9,10] rfl rfl)<|At.jt (o:=cH) (r:=al) (y:=(l2,[])) (g:=((a0,l2.length),(none,0,[]))) (e2:=[bZ a0 l2,.slice none 0 0]) h1 h0 (Lf.p (Lf.sr (k:=0) rfl) Lf.l0) (fun _ _=>rfl) ?_;intro r25;refine XY (ai.close (k:=7) rfl)<|XY (ai.freeze (k:=7) rfl)<|XY (ai.aq [3,0,1,2,4,5,6,7,8,9] rfl rfl)<|XY ai.iT<|XY (ai.freeze (k:=3) rfl) ?_;cases hF;exact aT (a2,l4.length,(some ⟨b0,0,none⟩),l1.length,(e0.set ((Int.tmod (XN ((x2:Nat):Int)) (l1.length:Int)).toNat) [bZ a0 l2,.slice none 0 0]),r25) (ai.trans (ai.zr (k:=6) rfl) (ai.aq [5,6,7,1,8,9] rfl rfl));refine wz ?_;rcases aa hF with⟨h12,hF⟩|⟨h12,hF⟩;refine X7 rfl h12<|XS<|Ya (prs:=[(4,15)]) (by kernel_rfl)<|XU (aX rfl) rfl<|XU (aX rfl) rfl<|XU (ko rfl) rfl<|XU (aI (r:=ptr b0 ((Int.tmod (XN ((x2:Nat):Int)) (l1.length:Int)).toNat*2+1)) rfl (fK _ _)) rfl<|XU (gH (k:=8) oc rfl rfl (dj h0) rfl rfl) rfl<|XU (aI (r:=ptr b1 1) rfl (fF _ _)) rfl<|XU (aJ (k:=6) nu rfl rfl rfl) rfl<|XU (aI (r:=ptr b3 2) rfl (uO _ _)) rfl ?_
 refine XU (aJ (k:=5) Nd rfl rfl rfl) rfl<|XU (lT rfl (lV (by rw[u5]; rfl) u3)) rfl<|XU (aX rfl) rfl ?_
 obtain⟨h62,hF⟩:=aD hF;refine XU (aL rfl rfl (cu _ _ h62)) rfl ?_;obtain⟨h63,hF⟩:=du hF;refine Yf (uW kJ rfl rfl h63) gn rfl<|XU (aI (r:=ptr b0 ((Int.tmod (XN ((x3:Nat):Int)) (l1.length:Int)).toNat*2+0)) rfl (eY _ _)) rfl ?_;obtain⟨⟨l27,l30⟩,h64,hF⟩:=J hF;refine Wn.tH (q0:=0) (q1:=3) (q2:=4) h1 h0 h64 rfl rfl rfl ?_;intro a21 v5 h65 h66;refine XU (gH (k:=8) mc rfl rfl (by rw[iX h0]; exact h65) rfl rfl) rfl ?_
 obtain⟨l5,h67,hF⟩:=J hF;refine nc gn (fun m hm=>wk n l27 a21 l27.length _ h67 m (h66 m hm)) ?_;rintro⟨a3,n8⟩;refine Wn.len (k:=0) (xs:=l5) rfl ?_;rintro rfl;refine Wn.x (cB (es:=[[bZ a3 l5]]) rA rfl (cz rA z51 rfl rfl) rfl rfl) gn rfl fun b9=>?_;refine Yh (ai.aq [1,0,2,3,4,5,6,7,8,9,10,11,12] rfl rfl)<|Wn.wS (o:=iV) (x:=l5) (g:=a3) rfl ?_;intro r39;obtain⟨h68,hF⟩:=aD hF;refine Yh (ai.aq [4,0,3,1,2,5,6,7,8,9,10,11,12] rfl rfl)<|Wn.x (uR (o:=iV) (L:=l3) (L':=([l5]:XE)) rA ⟨_,LH⟩ rfl (.arr _ _ _ _ _) rfl h68) gn rfl ?_;rintro⟨a22,r40⟩;refine XU (ko rfl) rfl<|XU (aI (r:=ptr b0 ((Int.tmod (XN ((x2:Nat):Int)) (l1.length:Int)).toNat*2+1)) rfl (fK _ _)) rfl<|Wn.o0 (pV (k:=9) (j:=(Int.tmod (XN ((x2:Nat):Int)) (l1.length:Int)).toNat) (c:=1) (e:=[bZ a0 l2,bZ a1 l3]) (e':=[bZ a0 l2,.slice a22 ((l3++([l5]:XE)).length) ((l3++([l5]:XE)).length)]) oc rfl rfl rfl (dj h0) rfl)<|Yh (ai.oq (k:=9) rfl (List.set_set _))<|X5 (fun m hm=>dQ.all rfl) ?_;refine az ?_;refine XR (ko rfl) rfl<|XR (aI (r:=ptr b0 ((Int.tmod (XN ((x2:Nat):Int)) (l1.length:Int)).toNat*2+1)) rfl (fK _ _)) rfl<|XR (gH (k:=9) oc rfl rfl (dj h0) rfl rfl) rfl ?_;refine wz ?_;refine XR (ko rfl) rfl<|XR (aI (r:=ptr b0 ((Int.tmod (XN ((x2:Nat):Int)) (l1.length:Int)).toNat*2+1)) rfl (fK _ _)) rfl<|XR (gH (k:=9) oc rfl rfl (dj h0) rfl rfl) rfl<|XR (qv (k:=1) LH rfl rfl (.inl rfl)) rfl ?_;obtain⟨y0,h69,hF⟩:=J hF;refine XR (aL rfl rfl ((df _ _ _).trans (cI h69))) rfl ?_;obtain⟨h13,hF⟩:=du hF;refine Yg (k:=1) rfl (aW h13) ?_;rintro b4 t1 rfl h107;refine X3 (uW rA rfl rfl h13) gn rfl ?_;obtain⟨l6,h14,hF⟩:=J hF;refine X0 (ai.aq [0,1,2,3,4,5,6,7,8,9,10,11] rfl rfl)<|Wo.D1 (o:=iV) (j:=y0.toNat) (x:=l6) (N:=fun g S1 S2=>[.sl g 1 l6.length (l6.map (eI .i64)),.gen (cY iV S1 ((l3++([l5]:XE)).take y0.toNat) ((e1++([[bZ a3 l5]]:XF)).take y0.toNat)),.gen (cY iV S2 ((l3++([l5]:XE)).drop (y0.toNat+1)) ((e1++([[bZ a3 l5]]:XF)).drop (y0.toNat+1))),.arr b4 1 ((l3++([l5]:XE)).length) (e1++([[bZ a3 l5]]:XF)) t1,.arr b9 1 1 ([[bZ a3 l5]]) .own,yB a0 l2,.gen (cY cH r0 (l1.take ((Int.tmod (XN ((x2:Nat):Int)) (l1.length:Int)).toNat)) (e0.take ((Int.tmod (XN ((x2:Nat):Int)) (l1.length:Int)).toNat))),.gen (cY cH r1 (l1.drop (((Int.tmod (XN ((x2:Nat):Int)) (l1.length:Int)).toNat)+1)) (e0.drop (((Int.tmod (XN ((x2:Nat):Int)) (l1.length:Int)).toNat)+1))),AZ b3 x1 x2 x3 x4 x5 x6,lq b1 a2 l4 b0 l1,dz a2 l4,.arr b0 2 l1.length (e0.set ((Int.tmod (XN ((x2:Nat):Int)) (l1.length:Int)).toNat) [bZ a0 l2,HD b4 l3 l5]) t0,gA b2,eQ H]) h14 (fun _ _ _=>rfl) ?_;rintro a4 r12 r13 h5;refine X0 (ai.oq (k:=3) rfl (iX h5).symm)<|XR (gH (k:=3) mc rfl rfl (dj h5) rfl rfl) rfl ?_;obtain⟨l21,h70,hF⟩:=J hF;refine wq (fun l21 ((e7,r8):XF ×(Nat->Prop))=>(.tuple #[],[lq b1 a2 l4 b0 l1,dz a2 l4,.rd (some ⟨b0,0,none⟩) l1.length 2 l1.length e7,gQ al r8 l21 e7,gA b2,eQ H])) l21 (fun m hm=>?_) ?_;clear hF;revert l21;intro r hF;refine aS (N:=28) (rs:=[]) rfl Try.func46 rfl rfl rfl hm ?_;refine wz ?_;refine XV ?_;obtain⟨l8,h6,hF⟩:=J hF;refine ct (fun l8 (_:YC)=>⟨(.exit 0),[],[lq b1 a2 l4 b0 l1,dz a2 l4,.arr b0 2 l1.length (e0.set ((Int.tmod (XN ((x2:Nat):Int)) (l1.length:Int)).toNat) [bZ a0 l2,HD b4 l3 l5]) t0,yB a0 l2,.arr b4 1 ((l3++([l5]:XE)).length) ((e1++([[bZ a3 l5]]:XF)).set y0.toNat [bZ a4 l6]) t1,.sl a4 1 l6.length (l8.map (eI .i64)),.gen (cY iV r12 ((l3++([l5]:XE)).take y0.toNat) ((e1++([[bZ a3 l5]]:XF)).take y0.toNat)),.gen (cY iV r13 ((l3++([l5]:XE)).drop (y0.toNat+1)) ((e1++([[bZ a3 l5]]:XF)).drop (y0.toNat+1))),.gen (cY cH r0 (l1.take ((Int.tmod (XN ((x2:Nat):Int)) (l1.length:Int)).toNat)) (e0.take ((Int.tmod (XN ((x2:Nat):Int)) (l1.length:Int)).toNat))),.gen (cY cH r1 (l1.drop (((Int.tmod (XN ((x2:Nat):Int)) (l1.length:Int)).toNat)+1)) (e0.drop (((Int.tmod (XN ((x2:Nat):Int)) (l1.length:Int)).toNat)+1))),gA b2,eQ H]⟩) l8 ?_ ?_;refine lo h6 () [0,9,10,11,5,3,1,2,6,7,12,13] (fun(l28,v3,v4) _=>⟨.normal,[(0,bZ a4 l6),(2,bu v3),(3,bu v4)],[.sl a4 1 l6.length (l28.map (eI .i64)),lq b1 a2 l4 b0 l1,dz a2 l4,.arr b0 2 l1.length (e0.set ((Int.tmod (XN ((x2:Nat):Int)) (l1.length:Int)).toNat) [bZ a0 l2,HD b4 l3 l5]) t0,yB a0 l2,.arr b4 1 ((l3++([l5]:XE)).length) ((e1++([[bZ a3 l5]]:XF)).set y0.toNat [bZ a4 l6]) t1,.gen (cY iV r12 ((l3++([l5]:XE)).take y0.toNat) ((e1++([[bZ a3 l5]]:XF)).take y0.toNat)),.gen (cY iV r13 ((l3++([l5]:XE)).drop (y0.toNat+1)) ((e1++([[bZ a3 l5]]:XF)).drop (y0.toNat+1))),.gen (cY cH r0 (l1.take ((Int.tmod (XN ((x2:Nat):Int)) (l1.length:Int)).toNat)) (e0.take ((Int.tmod (XN ((x2:Nat):Int)) (l1.length:Int)).toNat))),.gen (cY cH r1 (l1.drop (((Int.tmod (XN ((x2:Nat):Int)) (l1.length:Int)).toNat)+1)) (e0.drop (((Int.tmod (XN ((x2:Nat):Int)) (l1.length:Int)).toNat)+1))),gA b2,eQ H]⟩) ?_;clear hF h6;rintro⟨l28,v3,v4⟩ ⟨⟩ r hF;unfold J0 at hF;refine wz ?_;rcases aa hF with⟨h71,hF⟩|⟨h71,hF⟩;refine az ?_;obtain⟨h72,hF⟩:=du hF;refine Yg (k:=0) rfl (aW h72) ?_;rintro b14 t7 rfl h108;refine wz ?_;obtain⟨x21,h109,hF⟩:=J hF;refine wz ?_;obtain⟨h110,hF⟩:=du hF;refine wz ?_;obtain⟨x11,h73,hF⟩:=J hF;refine wz ?_;obtain⟨h111,hF⟩:=du hF;refine wz ?_;refine X8 (tw (k:=0) (x1:=x11) (x2:=x21) cK rfl rfl rfl h73 rfl) ?_;obtain⟨h112,hF⟩:=du hF;refine wz ?_;obtain⟨x22,h74,hF⟩:=J hF;refine X8 (tw (k:=0) (x1:=x22) (x2:=x11) cK rfl rfl rfl h74 rfl) ?_;refine az ?_;cases hF;exact aT () (ai.trans (ai.close (k:=0) rfl) (ai.aq [0,1,2,3,4,5,6,7,8,9,10,11] rfl rfl));refine wz ?_;cases hF;exact ae () (1::2::3::4::5::0::Yk 6 6);rintro⟨⟩;refine Yi<|XY (ai.freeze (k:=3) rfl)<|XY (ai.freeze (k:=5) rfl)<|XY (ai.aq [6,7,0,1,2,3,4,5,8,9,10,11] rfl rfl)<|At.jt (o:=iV) (r:=bq) (y:=l8) (g:=(a4,l6.length)) (e2:=[bZ a4 l6]) h14 h5 (Lf.sr (k:=5) rfl) (fun m hm=>by have e3:=sA (k:=5) (xs:=l8) hm rfl; show([.slice a4 l8.length l6.length]:YB XI)=_; rw[<-e3]) ?_
 intro r41;refine XY (ai.close (k:=5) rfl)<|XY (ai.freeze (k:=5) rfl)<|XY (ai.aq [7,8,0,1,2,3,4,5,6,9,10] rfl rfl)<|At.jt (o:=cH) (r:=al) (y:=(l2,((l3++([l5]:XE)).set y0.toNat l8))) (g:=((a0,l2.length),((some ⟨b4,0,none⟩),(l3++([l5]:XE)).length,((e1++([[bZ a3 l5]]:XF)).set y0.toNat [bZ a4 l6])))) (e2:=[bZ a0 l2,HD b4 l3 l5]) h1 h0 (Lf.p (Lf.sr (k:=4) rfl) (Lf.lr (k:=5) (q:=0) rfl rfl rfl)) (fun m hm=>by have e3:=(hm.get (k:=5) rfl).1.symm.trans (nD (q:=0) (L:=((l3++([l5]:XE)).set y0.toNat l8)) hm rfl); show([bZ a0 l2,.slice (some ⟨b4,0,none⟩) (((l3++([l5]:XE)).set y0.toNat l8).length) ((l3++([l5]:XE)).length)]:YB XI)=_; rw[<-e3]) ?_
 intro r26;refine XY (ai.close (k:=4) rfl)<|XY (ai.freeze (k:=4) rfl) ?_;cases hF;exact At.fin .nil fun m' hm=>⟨((e0.set ((Int.tmod (XN ((x2:Nat):Int)) (l1.length:Int)).toNat) [bZ a0 l2,HD b4 l3 l5]),r26),rfl,(ai.aq [2,3,4,0,8,9] rfl rfl) m' hm⟩;rintro⟨e7,r8⟩;refine wz ?_;cases hF;exact aT (a2,l4.length,(some ⟨b0,0,none⟩),l1.length,e7,r8) (ai.trans (ai.zr (k:=1) rfl) (ai.aq [0,1,2,3,4,5] rfl rfl));refine wz ?_;rcases aa hF with⟨h75,hF⟩|⟨h75,hF⟩;refine wz ?_;refine XR (ko rfl) rfl<|XR (aI (r:=ptr b0 ((Int.tmod (XN ((x2:Nat):Int)) (l1.length:Int)).toNat*2+0)) rfl (eY _ _)) rfl<|XR (gH (k:=8) mc rfl rfl (dj h0) rfl rfl) rfl ?_;refine az ?_;rcases aa hF with⟨h76,hF⟩|⟨h76,hF⟩;refine wz ?_;refine XR (ko rfl) rfl<|XR (aI (r:=ptr b0 ((Int.tmod (XN ((x2:Nat):Int)) (l1.length:Int)).toNat*2+0)) rfl (eY _ _)) rfl<|XR (gH (k:=8) mc rfl rfl (dj h0) rfl rfl) rfl ?_;refine wz ?_;refine XR (lT rfl (lV (by rw[u5]; rfl) u3)) rfl ?_
 refine wz ?_;obtain⟨h77,hF⟩:=aD hF;refine XR (aL rfl rfl (cu _ _ h77)) rfl ?_;refine wz ?_;refine XR (lT rfl (lV (by rw[u5]; rfl) u3)) rfl ?_
 refine wz ?_;obtain⟨h78,hF⟩:=aD hF;refine XR (aL rfl rfl (cu _ _ h78)) rfl ?_;obtain⟨y2,h79,hF⟩:=J hF;refine XR (aL rfl rfl ((bD _ _ _).trans (cI h79))) rfl ?_;obtain⟨l13,h80,hF⟩:=J hF;refine X1 (nq (α:=YC) (V:=fun _=>.slice a0 l13.length l2.length) (N:=fun _:YC=>bJ [yB a0 l2,.sl a1 1 l3.length e1,q6 iV r3 l3 e1,.gen (cY cH r0 (l1.take ((Int.tmod (XN ((x2:Nat):Int)) (l1.length:Int)).toNat)) (e0.take ((Int.tmod (XN ((x2:Nat):Int)) (l1.length:Int)).toNat))),.gen (cY cH r1 (l1.drop (((Int.tmod (XN ((x2:Nat):Int)) (l1.length:Int)).toNat)+1)) (e0.drop (((Int.tmod (XN ((x2:Nat):Int)) (l1.length:Int)).toNat)+1))),AZ b3 x1 x2 x3 x4 x5 x6,lq b1 a2 l4 b0 l1,dz a2 l4,.arr b0 2 l1.length (e0.set ((Int.tmod (XN ((x2:Nat):Int)) (l1.length:Int)).toNat) [bZ a0 l2,bZ a1 l3]) t0,gA b2,eQ H] 0 (.gen (pF a0 l2.length 1 l13.length (l13.map (eI .i64))))) rfl rfl (fun m hm=>KQ n hm (k:=0) rfl h80)) gn rfl fun _=>?_;refine XR (ko rfl) rfl<|XR (aI (r:=ptr b0 ((Int.tmod (XN ((x2:Nat):Int)) (l1.length:Int)).toNat*2+0)) rfl (eY _ _)) rfl<|X8 (pV (k:=8) (j:=(Int.tmod (XN ((x2:Nat):Int)) (l1.length:Int)).toNat) (c:=0) (e:=[bZ a0 l2,bZ a1 l3]) (e':=[.slice a0 l13.length l2.length,bZ a1 l3]) mc rfl rfl rfl (dj h0) rfl)<|X0 (ai.oq (k:=8) rfl (List.set_set _)) ?_;refine wz ?_;refine XY (ai.GH (k:=0) rfl)<|XY (ai.aq [2,0,1,3,4,5,6,7,8,9,10] rfl rfl)<|XY ai.iT<|XY (ai.freeze (k:=2) rfl)<|XY (ai.aq [3,4,0,1,2,5,6,7,8,9,10] rfl rfl)<|At.jt (o:=cH) (r:=al) (y:=(l13,l3)) (g:=((a0,l2.length),(a1,l3.length,e1))) (e2:=[.slice a0 l13.length l2.length,bZ a1 l3]) h1 h0 (Lf.p (Lf.sr (k:=1) rfl) (Lf.lr (k:=2) (q:=0) rfl rfl rfl)) (fun _ _=>rfl) ?_;intro r27;refine XY (ai.close (k:=7) rfl)<|XY (ai.freeze (k:=7) rfl) ?_;cases hF;exact aT (a2,l4.length,(some ⟨b0,0,none⟩),l1.length,(e0.set ((Int.tmod (XN ((x2:Nat):Int)) (l1.length:Int)).toNat) [.slice a0 l13.length l2.length,bZ a1 l3]),r27) (ai.trans (ai.zr (k:=6) rfl) (ai.aq [5,6,7,0,8,9] rfl rfl));refine wz ?_;refine XY (ai.freeze (k:=0) rfl)<|XY (ai.aq [2,0,1,3,4,5,6,7,8,9,10] rfl rfl)<|XY ai.iT<|XY (ai.freeze (k:=2) rfl)<|XY (ai.aq [3,4,0,1,2,5,6,7,8,9,10] rfl rfl)<|At.jt (o:=cH) (r:=al) (y:=(l2,l3)) (g:=((a0,l2.length),(a1,l3.length,e1))) (e2:=[bZ a0 l2,bZ a1 l3]) h1 h0 (Lf.p (Lf.sr (k:=1) rfl) (Lf.lr (k:=2) (q:=0) rfl rfl rfl)) (fun _ _=>rfl) ?_;intro r28;refine XY (ai.close (k:=7) rfl)<|XY (ai.freeze (k:=7) rfl) ?_;cases hF;exact aT (a2,l4.length,(some ⟨b0,0,none⟩),l1.length,(e0.set ((Int.tmod (XN ((x2:Nat):Int)) (l1.length:Int)).toNat) [bZ a0 l2,bZ a1 l3]),r28) (ai.trans (ai.zr (k:=6) rfl) (ai.aq [5,6,7,0,8,9] rfl rfl));refine wz ?_;rcases aa hF with⟨h81,hF⟩|⟨h81,hF⟩;refine wz ?_;refine XR (ko rfl) rfl<|XR (aI (r:=ptr b0 ((Int.tmod (XN ((x2:Nat):Int)) (l1.length:Int)).toNat*2+0)) rfl (eY _ _)) rfl<|XR (gH (k:=8) mc rfl rfl (dj h0) rfl rfl) rfl ?_;refine wz ?_;refine XR (lT rfl (lV (by rw[u5]; rfl) u3)) rfl ?_
 refine wz ?_;refine XR (ko rfl) rfl<|XR (aI (r:=ptr b0 ((Int.tmod (XN ((x2:Nat):Int)) (l1.length:Int)).toNat*2+0)) rfl (eY _ _)) rfl<|XR (gH (k:=8) mc rfl rfl (dj h0) rfl rfl) rfl<|XR (qv (k:=0) PD rfl rfl (.inl rfl)) rfl<|XR (aL rfl rfl (bD _ _ _)) rfl ?_;obtain⟨h82,hF⟩:=aD hF;obtain⟨y3,h83,hF⟩:=J hF;refine XR (aL rfl rfl ((cu _ _ h82).trans (cI h83))) rfl ?_;refine wz ?_;refine XR (aL rfl rfl (OM _ _)) rfl ?_;refine wz ?_;obtain⟨h84,hF⟩:=aD hF;refine XR (aL rfl rfl (cu _ _ h84)) rfl<|X1 (cB (es:=([Int.tmod (Kj .i64 x4 127) (l4.length:Int)]:YB (Int)).map (eI .i64)) fQ rfl (cz fQ z3 rfl rfl) rfl rfl) gn rfl fun b10=>?_;obtain⟨l14,h85,hF⟩:=J hF;refine X1 (nq (α:=XG×Nat) (V:=fun y=>.slice y.1 y.2 y.2) (N:=fun y=>bJ [.arr b10 1 1 (([Int.tmod (Kj .i64 x4 127) (l4.length:Int)]).map (eI .i64)) .own,yB a0 l2,.sl a1 1 l3.length e1,q6 iV r3 l3 e1,.gen (cY cH r0 (l1.take ((Int.tmod (XN ((x2:Nat):Int)) (l1.length:Int)).toNat)) (e0.take ((Int.tmod (XN ((x2:Nat):Int)) (l1.length:Int)).toNat))),.gen (cY cH r1 (l1.drop (((Int.tmod (XN ((x2:Nat):Int)) (l1.length:Int)).toNat)+1)) (e0.drop (((Int.tmod (XN ((x2:Nat):Int)) (l1.length:Int)).toNat)+1))),AZ b3 x1 x2 x3 x4 x5 x6,lq b1 a2 l4 b0 l1,dz a2 l4,.arr b0 2 l1.length (e0.set ((Int.tmod (XN ((x2:Nat):Int)) (l1.length:Int)).toNat) [bZ a0 l2,bZ a1 l3]) t0,gA b2,eQ H] 1 (.sl y.1 1 y.2 (l14.map (eI .i64)))) rfl rfl (fun m hm=>Lm n hm (k:=1) rfl (k2:=0) rfl rfl h85)) gn rfl ?_;rintro⟨a11,n9⟩;refine Ye (k:=1) (xs:=l14) rfl ?_;rintro rfl;refine XR (ko rfl) rfl<|XR (aI (r:=ptr b0 ((Int.tmod (XN ((x2:Nat):Int)) (l1.length:Int)).toNat*2+0)) rfl (eY _ _)) rfl<|X8 (pV (k:=9) (j:=(Int.tmod (XN ((x2:Nat):Int)) (l1.length:Int)).toNat) (c:=0) (e:=[bZ a0 l2,bZ a1 l3]) (e':=[bZ a11 l14,bZ a1 l3]) mc rfl rfl rfl (dj h0) rfl)<|X0 (ai.oq (k:=9) rfl (List.set_set _)) ?_;refine wz ?_;refine XY (ai.freeze (k:=1) rfl)<|XY (ai.aq [3,0,1,2,4,5,6,7,8,9,10,11] rfl rfl)<|XY ai.iT<|XY (ai.freeze (k:=3) rfl)<|XY (ai.aq [4,5,0,1,2,3,6,7,8,9,10,11] rfl rfl)<|At.jt (o:=cH) (r:=al) (y:=(l14,l3)) (g:=((a11,l14.length),(a1,l3.length,e1))) (e2:=[bZ a11 l14,bZ a1 l3]) h1 h0 (Lf.p (Lf.sr (k:=2) rfl) (Lf.lr (k:=3) (q:=0) rfl rfl rfl)) (fun _ _=>rfl) ?_;intro r29;refine XY (ai.close (k:=8) rfl)<|XY (ai.freeze (k:=8) rfl) ?_;cases hF;exact aT (a2,l4.length,(some ⟨b0,0,none⟩),l1.length,(e0.set ((Int.tmod (XN ((x2:Nat):Int)) (l1.length:Int)).toNat) [bZ a11 l14,bZ a1 l3]),r29) (ai.trans (ai.zr (k:=7) rfl) (ai.aq [6,7,8,0,9,10] rfl rfl));refine wz ?_;rcases aa hF with⟨h15,hF⟩|⟨h15,hF⟩;refine wz ?_;refine XR (ko rfl) rfl<|XR (aI (r:=ptr b0 ((Int.tmod (XN ((x2:Nat):Int)) (l1.length:Int)).toNat*2+0)) rfl (eY _ _)) rfl<|XR (gH (k:=8) mc rfl rfl (dj h0) rfl rfl) rfl ?_;refine az ?_;rcases aa hF with⟨h16,hF⟩|⟨h16,hF⟩;refine X7 rfl h16<|Ya (prs:=[(11,15),(11,17),(11,21)]) (by kernel_rfl)<|XU (aX rfl) rfl<|XU (aX rfl) rfl<|XU (ko rfl) rfl<|XU (aI (r:=ptr b0 ((Int.tmod (XN ((x2:Nat):Int)) (l1.length:Int)).toNat*2+0)) rfl (eY _ _)) rfl<|XU (gH (k:=8) mc rfl rfl (dj h0) rfl rfl) rfl<|XU (aI (r:=ptr b3 2) rfl (uO _ _)) rfl<|XU (aJ (k:=5) Nd rfl rfl rfl) rfl<|XU (lT rfl (lV (by rw[u5]; rfl) u3)) rfl ?_
 refine XU (aX rfl) rfl ?_;obtain⟨h86,hF⟩:=aD hF;refine XU (aL rfl rfl (cu _ _ h86)) rfl ?_;obtain⟨h87,hF⟩:=aD hF;refine Yh (ai.freeze (k:=0) rfl)<|Wn.x (Ca (k:=0) (lo:=Int.tmod (XN ((x3:Nat):Int)) (l2.length:Int)) (hi:=(l2.length:Int)) fQ rfl rfl rfl rfl h87 (.inr ⟨_,rfl⟩) (.inl ⟨rfl,rfl⟩)) gn rfl ?_;rintro⟨a23,c4⟩;obtain⟨l7,h88,hF⟩:=J hF;refine nc gn (fun m hm=>wk n ((l2.drop (Int.tmod (XN ((x3:Nat):Int)) (l2.length:Int):Int).toNat).take (((l2.length:Int):Int).toNat-(Int.tmod (XN ((x3:Nat):Int)) (l2.length:Int):Int).toNat)) a23 c4 _ h88 m (hm.q 0)) ?_;rintro⟨a25,n10⟩;refine Wn.len (k:=0) (xs:=l7) rfl ?_;rintro rfl;refine XU (aX rfl) rfl<|XU (ko rfl) rfl<|XU (aI (r:=ptr b0 ((Int.tmod (XN ((x2:Nat):Int)) (l1.length:Int)).toNat*2+0)) rfl (eY _ _)) rfl<|XU (gH (k:=10) mc rfl rfl (dj h0) rfl rfl) rfl<|XU (aI (r:=ptr b3 2) rfl (uO _ _)) rfl<|XU (aJ (k:=7) Nd rfl rfl rfl) rfl<|XU (lT rfl (lV (by rw[u5]; rfl) u3)) rfl<|XU (aX rfl) rfl ?_
 obtain⟨h89,hF⟩:=aD hF;refine XU (aL rfl rfl (cu _ _ h89)) rfl ?_;obtain⟨h90,hF⟩:=aD hF;refine Wn.x (Ca (k:=2) (lo:=0) (hi:=Int.tmod (XN ((x3:Nat):Int)) (l2.length:Int)) fQ rfl rfl rfl rfl h90 (.inl ⟨rfl,rfl⟩) (.inr ⟨_,rfl⟩)) gn rfl ?_;rintro⟨a26,c5⟩;obtain⟨h91,hF⟩:=aD hF;refine Wn.x (vy (k:=1) (k2:=0) (xs:=(l7:YB (Int))) (ys:=(((l2.drop XO).take ((Int.tmod (XN ((x3:Nat):Int)) (l2.length:Int):Int).toNat-XO)):YB (Int))) (uV .i64) fQ ⟨_,PD⟩ rfl rfl rfl (.rd _ _ _ _ _) h91) gn rfl fun a12=>?_;refine XU (ko rfl) rfl<|XU (aI (r:=ptr b0 ((Int.tmod (XN ((x2:Nat):Int)) (l1.length:Int)).toNat*2+0)) rfl (eY _ _)) rfl<|Wn.o0 (pV (k:=11) (j:=(Int.tmod (XN ((x2:Nat):Int)) (l1.length:Int)).toNat) (c:=0) (e:=[bZ a0 l2,bZ a1 l3]) (e':=[.slice a12 ((l7++((l2.drop XO).take ((Int.tmod (XN ((x3:Nat):Int)) (l2.length:Int):Int).toNat-XO))).length) ((l7++((l2.drop XO).take ((Int.tmod (XN ((x3:Nat):Int)) (l2.length:Int):Int).toNat-XO))).length),bZ a1 l3]) mc rfl rfl rfl (dj h0) rfl)<|Yh (ai.oq (k:=11) rfl (List.set_set _))<|X5 (fun m hm=>dQ.all rfl)<|At.bn<|XY (ai.freeze (k:=1) rfl)<|XY (ai.aq [5,0,1,2,3,4,6,7,8,9,10,11,12,13] rfl rfl)<|XY ai.iT<|XY (ai.freeze (k:=5) rfl)<|XY (ai.aq [6,7,0,1,2,3,4,5,8,9,10,11,12,13] rfl rfl)<|At.jt (o:=cH) (r:=al) (y:=((l7++((l2.drop XO).take ((Int.tmod (XN ((x3:Nat):Int)) (l2.length:Int):Int).toNat-XO))),l3)) (g:=((a12,(l7++((l2.drop XO).take ((Int.tmod (XN ((x3:Nat):Int)) (l2.length:Int):Int).toNat-XO))).length),(a1,l3.length,e1))) (e2:=[.slice a12 ((l7++((l2.drop XO).take ((Int.tmod (XN ((x3:Nat):Int)) (l2.length:Int):Int).toNat-XO))).length) ((l7++((l2.drop XO).take ((Int.tmod (XN ((x3:Nat):Int)) (l2.length:Int):Int).toNat-XO))).length),bZ a1 l3]) h1 h0 (Lf.p (Lf.sr (k:=2) rfl) (Lf.lr (k:=5) (q:=0) rfl rfl rfl)) (fun _ _=>rfl) ?_;intro r30;refine XY (ai.close (k:=10) rfl)<|XY (ai.freeze (k:=10) rfl) ?_;cases hF;exact aT (a2,l4.length,(some ⟨b0,0,none⟩),l1.length,(e0.set ((Int.tmod (XN ((x2:Nat):Int)) (l1.length:Int)).toNat) [.slice a12 ((l7++((l2.drop XO).take ((Int.tmod (XN ((x3:Nat):Int)) (l2.length:Int):Int).toNat-XO))).length) ((l7++((l2.drop XO).take ((Int.tmod (XN ((x3:Nat):Int)) (l2.length:Int):Int).toNat-XO))).length),bZ a1 l3]),r30) (ai.trans (ai.zr (k:=9) rfl) (ai.aq [8,9,10,0,11,12] rfl rfl));refine wz ?_;refine XY (ai.freeze (k:=0) rfl)<|XY (ai.aq [2,0,1,3,4,5,6,7,8,9,10] rfl rfl)<|XY ai.iT<|XY (ai.freeze (k:=2) rfl)<|XY (ai.aq [3,4,0,1,2,5,6,7,8,9,10] rfl rfl)<|At.jt (o:=cH) (r:=al) (y:=(l2,l3)) (g:=((a0,l2.length),(a1,l3.length,e1))) (e2:=[bZ a0 l2,bZ a1 l3]) h1 h0 (Lf.p (Lf.sr (k:=1) rfl) (Lf.lr (k:=2) (q:=0) rfl rfl rfl)) (fun _ _=>rfl) ?_;intro r31;refine XY (ai.close (k:=7) rfl)<|XY (ai.freeze (k:=7) rfl) ?_;cases hF;exact aT (a2,l4.length,(some ⟨b0,0,none⟩),l1.length,(e0.set ((Int.tmod (XN ((x2:Nat):Int)) (l1.length:Int)).toNat) [bZ a0 l2,bZ a1 l3]),r31) (ai.trans (ai.zr (k:=6) rfl) (ai.aq [5,6,7,0,8,9] rfl rfl));refine Yc rfl h15<|XV ?_;obtain⟨l9,h7,hF⟩:=J hF;refine ct (fun l9 ((a5,e8,r14):XG×XF ×(Nat->Prop))=>⟨(.exit 1),[(3,ptr b1 0),(4,ptr b2 0)],[lq b1 a2 l4 b0 l1,dz a2 l4,.arr b0 2 l1.length (e0.set ((Int.tmod (XN ((x2:Nat):Int)) (l1.length:Int)).toNat) [bZ a0 l2,bZ a5 l9]) t0,yB a0 l2,.sl a5 1 l9.length e8,q6 iV r14 l9 e8,.gen (cY cH r0 (l1.take ((Int.tmod (XN ((x2:Nat):Int)) (l1.length:Int)).toNat)) (e0.take ((Int.tmod (XN ((x2:Nat):Int)) (l1.length:Int)).toNat))),.gen (cY cH r1 (l1.drop (((Int.tmod (XN ((x2:Nat):Int)) (l1.length:Int)).toNat)+1)) (e0.drop (((Int.tmod (XN ((x2:Nat):Int)) (l1.length:Int)).toNat)+1))),gA b2,eQ H]⟩) l9 ?_ ?_;refine lo h7 (a1,e1,r3) [5,6,7,8,0,1,2,3,4,9,10] (fun l12 ((a7,e4,r9):XG×XF ×(Nat->Prop))=>⟨.normal,(jC b3 b1 [(4,ptr b2 0),(8,ptr b0 ((Int.tmod (XN ((x2:Nat):Int)) (l1.length:Int)).toNat*2+0))]),[AZ b3 x1 x2 x3 x4 x5 x6,lq b1 a2 l4 b0 l1,dz a2 l4,.arr b0 2 l1.length (e0.set ((Int.tmod (XN ((x2:Nat):Int)) (l1.length:Int)).toNat) [bZ a0 l2,bZ a7 l12]) t0,yB a0 l2,.sl a7 1 l12.length e4,q6 iV r9 l12 e4,.gen (cY cH r0 (l1.take ((Int.tmod (XN ((x2:Nat):Int)) (l1.length:Int)).toNat)) (e0.take ((Int.tmod (XN ((x2:Nat):Int)) (l1.length:Int)).toNat))),.gen (cY cH r1 (l1.drop (((Int.tmod (XN ((x2:Nat):Int)) (l1.length:Int)).toNat)+1)) (e0.drop (((Int.tmod (XN ((x2:Nat):Int)) (l1.length:Int)).toNat)+1))),gA b2,eQ H]⟩) ?_;clear hF h7;rintro l12 ⟨a7,e4,r9⟩ r hF;unfold vR at hF;refine wz ?_;refine XR (ko rfl) rfl<|XR (aI (r:=ptr b0 ((Int.tmod (XN ((x2:Nat):Int)) (l1.length:Int)).toNat*2+1)) rfl (fK _ _)) rfl<|XR (gH (k:=3) oc rfl rfl (dj h0) rfl rfl) rfl ?_;refine wz ?_;refine XR (aL rfl rfl (qj _ _ (by decide))) rfl<|XR (lT rfl (lV (by rw[u5]; rfl) u3)) rfl ?_
 refine wz ?_;rcases aa hF with⟨h92,hF⟩|⟨h92,hF⟩;refine wz ?_;refine XV<|Ya (prs:=[(4,9)]) (by kernel_rfl)<|XU (aX rfl) rfl<|XU (aX rfl) rfl<|XU (ko rfl) rfl<|XU (aI (r:=ptr b0 ((Int.tmod (XN ((x2:Nat):Int)) (l1.length:Int)).toNat*2+1)) rfl (fK _ _)) rfl<|XU (gH (k:=3) oc rfl rfl (dj h0) rfl rfl) rfl<|XU (aX rfl) rfl<|XU (ko rfl) rfl<|XU (aI (r:=ptr b0 ((Int.tmod (XN ((x2:Nat):Int)) (l1.length:Int)).toNat*2+0)) rfl (eY _ _)) rfl ?_
 refine XU (gH (k:=3) mc rfl rfl (dj h0) rfl rfl) rfl ?_;obtain⟨l15,h93,hF⟩:=J hF;refine nc gn (fun m hm=>wk n l2 a0 l2.length _ h93 m (hm.rd (k:=4) rfl (.sl _ _ _ _))) ?_;rintro⟨a16,n11⟩;refine Wn.len (k:=0) (xs:=l15) rfl ?_;rintro rfl;refine Wn.x (cB (es:=[[bZ a16 l15]]) rA rfl (cz rA z51 rfl rfl) rfl rfl) gn rfl fun b15=>?_;refine Yh (ai.aq [1,0,2,3,4,5,6,7,8,9,10,11,12] rfl rfl)<|Wn.wS (o:=iV) (x:=l15) (g:=a16) rfl ?_;intro r42;obtain⟨h94,hF⟩:=aD hF;refine Yh (ai.aq [8,0,7,1,2,3,4,5,6,9,10,11,12] rfl rfl)<|Wn.x (uR (o:=iV) (L:=l12) (L':=([l15]:XE)) rA ⟨_,LH⟩ rfl (.arr _ _ _ _ _) rfl h94) gn rfl ?_;rintro⟨a17,r32⟩;refine XU (ko rfl) rfl<|XU (aI (r:=ptr b0 ((Int.tmod (XN ((x2:Nat):Int)) (l1.length:Int)).toNat*2+1)) rfl (fK _ _)) rfl<|Wn.o0 (pV (k:=6) (j:=(Int.tmod (XN ((x2:Nat):Int)) (l1.length:Int)).toNat) (c:=1) (e:=[bZ a0 l2,bZ a7 l12]) (e':=[bZ a0 l2,.slice a17 ((l12++([l15]:XE)).length) ((l12++([l15]:XE)).length)]) oc rfl rfl rfl (dj h0) rfl)<|Yh (ai.oq (k:=6) rfl (List.set_set _))<|X5 (fun m hm=>dQ.all rfl)<|At.bn ?_;cases hF;exact ae (a17,(e4++([[bZ a16 l15]]:XF)),r32) [3,4,5,6,7,1,0,8,9,10,11];refine wz ?_;cases hF;exact ae (a7,e4,r9) (Yk 1 10);rintro⟨a5,e8,r14⟩;refine wz ?_;refine XY (ai.freeze (k:=3) rfl)<|XY (ai.aq [5,0,1,2,3,4,6,7,8,9] rfl rfl)<|XY ai.iT<|XY (ai.freeze (k:=5) rfl)<|XY (ai.aq [6,7,0,1,2,3,4,5,8,9] rfl rfl)<|At.jt (o:=cH) (r:=al) (y:=(l2,l9)) (g:=((a0,l2.length),(a5,l9.length,e8))) (e2:=[bZ a0 l2,bZ a5 l9]) h1 h0 (Lf.p (Lf.sr (k:=4) rfl) (Lf.lr (k:=5) (q:=0) rfl rfl rfl)) (fun _ _=>rfl) ?_;intro r33;refine XY (ai.close (k:=4) rfl)<|XY (ai.freeze (k:=4) rfl) ?_;cases hF;exact aT (a2,l4.length,(some ⟨b0,0,none⟩),l1.length,(e0.set ((Int.tmod (XN ((x2:Nat):Int)) (l1.length:Int)).toNat) [bZ a0 l2,bZ a5 l9]),r33) (ai.trans (ai.zr (k:=3) rfl) (ai.aq [2,3,4,0,7,8] rfl rfl));clear h29;obtain⟨l23,n0,n1,l24⟩:=r4;rintro⟨a9,c1,a10,c2,e5,r5⟩;refine ja ?_;cases hF;exact X2 (.cell (k:=4) fZ rfl rfl rfl .nil) fun m' hm=>⟨(a9,c1,n0,a10,c2,n1,e5,r5),rfl,(ai.trans (ai.GH (k:=1) rfl) (ai.aq [1,2,3,5] rfl rfl)) m' hm⟩
def RN:ME (Yt p q).P 44 3 .i64=true:=by kernel_rfl
def Uc:∀(x0 y0:Int) (x1 y1:Int) (x2 y2:Int) (x3 y3:Int),k8 (Yt p q).P Op.maxDepth 44 (.agg #[bu x0,bu x1,bu x2,bu x3]) (.agg #[bu y0,bu y1,bu y2,bu y3])=some (decide (x0=y0)&&decide (x1=y1)&&decide (x2=y2)&&decide (x3=y3)):=fun x0 y0 x1 y1 x2 y2 x3 y3=>Rf RN x0 y0 x1 y1 x2 y2 x3 y3
def Tw:(Yt p q).P.eqGuardType (Yt p q).P.depth 44=false:=by kernel_rfl
def SJ:TyI (Yt p q).P 24 true 5:=⟨by kernel_rfl,by kernel_rfl,by kernel_rfl⟩
instance:TyC (Yt p q).P 24 true 5:=⟨SJ⟩
def TA:TyI (Yt p q).P 29 true 12:=⟨by kernel_rfl,by kernel_rfl,by kernel_rfl⟩
instance:TyC (Yt p q).P 29 true 12:=⟨TA⟩
def z35:bp (Yt p q).P 35=some (.agg #[.slice none 0 0,.slice none 0 0,.slice none 0 0,.slice none 0 0,.slice none 0 0,.slice none 0 0]):=by kernel_rfl
def Jq:∀b o,aG (Yt p q).P 24 (ptr b o) 0=some (ptr b (o+0)):=fun _ _=>by kernel_rfl
instance:FaC (Yt p q).P 24 0 0:=⟨Jq⟩
def JI:∀b o,aG (Yt p q).P 24 (ptr b o) 1=some (ptr b (o+1)):=fun _ _=>by kernel_rfl
instance:FaC (Yt p q).P 24 1 1:=⟨JI⟩
def Dd:∀b o,aG (Yt p q).P 24 (ptr b o) 4=some (ptr b (o+4)):=fun _ _=>by kernel_rfl
instance:FaC (Yt p q).P 24 4 4:=⟨Dd⟩
def T5:TyI (Yt p q).P 4 false 1:=⟨by kernel_rfl,by kernel_rfl,by kernel_rfl⟩
instance:TyC (Yt p q).P 4 false 1:=⟨T5⟩
def Dn:∀b o,aG (Yt p q).P 24 (ptr b o) 3=some (ptr b (o+3)):=fun _ _=>by kernel_rfl
instance:FaC (Yt p q).P 24 3 3:=⟨Dn⟩
def Jy:TyI (Yt p q).P 22 false 1:=⟨by kernel_rfl,by kernel_rfl,by kernel_rfl⟩
instance:TyC (Yt p q).P 22 false 1:=⟨Jy⟩
def UT:(Yt p q).P.underlying 22=some (.slice 5):=by kernel_rfl
instance:UsC (Yt p q).P 22 5:=⟨UT⟩
def UH:SlT (Yt p q).P 22 5 1:=SlT.of (by kernel_rfl)
instance:SlC (Yt p q).P 22 5 1:=⟨UH⟩
def Cs:∀b o,aG (Yt p q).P 24 (ptr b o) 2=some (ptr b (o+2)):=fun _ _=>by kernel_rfl
instance:FaC (Yt p q).P 24 2 2:=⟨Cs⟩
def Sf:ArT (Yt p q).P 29 28 2 6:=⟨by kernel_rfl,by kernel_rfl,by kernel_rfl⟩
instance:ArC (Yt p q).P 29 28 2 6:=⟨Sf⟩
def Q8:TyI (Yt p q).P 28 true 6:=⟨by kernel_rfl,by kernel_rfl,by kernel_rfl⟩
instance:TyC (Yt p q).P 28 true 6:=⟨Q8⟩
def Tj:BdT (Yt p q).P 35 (.agg #[.slice none 0 0,.slice none 0 0,.slice none 0 0,.slice none 0 0,.slice none 0 0,.slice none 0 0]) [(0,2),(2,2),(4,2)]:=.mk' (by kernel_rfl) (by kernel_rfl)
def PN:TyI (Yt p q).P 35 true 6:=⟨by kernel_rfl,by kernel_rfl,by kernel_rfl⟩
instance:TyC (Yt p q).P 35 true 6:=⟨PN⟩
def MM:ArT (Yt p q).P 35 34 3 2:=⟨by kernel_rfl,by kernel_rfl,by kernel_rfl⟩
instance:ArC (Yt p q).P 35 34 3 2:=⟨MM⟩
def Tc:TyI (Yt p q).P 38 false 1:=⟨by kernel_rfl,by kernel_rfl,by kernel_rfl⟩
instance:TyC (Yt p q).P 38 false 1:=⟨Tc⟩
def vV{n l1 a2 c3 r}(hF:Oz n l1=some r)(m)(h4:Dm m a2 c3 l1):
 aK (Yt p q) 42 [bQ a2 l1 c3] m (fun v m'=>∃x:XG×Nat,v=.slice x.1 x.2 x.2/\Hp m m' [.sl x.1 2 x.2 (r.map (eP (eI .i64) (eI .i64)))]):=by
 unfold Oz at hF;refine cw Try.func42 (X6 (XZ m) eL h4) ?_;refine ja ?_;refine XV ?_;obtain⟨l37,h51,hF⟩:=J hF;refine ct (fun l37 (a38:XG)=>⟨(.exit 0),[(3,bZ a38 l37)],[dz a38 l37]⟩) l37 ?_ ?_;refine lw h51 none (fun(l19,v21) a20=>⟨.normal,[(0,bQ a2 l1 c3),(3,bZ a20 l19),(4,bu v21)],[pD a2 c3 l1,dz a20 l19]⟩) (ai.trans (ai.nil 2 rfl) (ai.aq [1,0] rfl rfl)) ?_;clear hF h51;rintro⟨l19,v21⟩ a20 r hF;unfold NL at hF;refine wz ?_;rcases aa hF with⟨h39,hF⟩|⟨h39,hF⟩;refine az ?_;obtain⟨h40,hF⟩:=du hF;refine X4 (k:=0) rfl (aW h40) ?_;rintro b41 o42 rfl;refine wz ?_;obtain⟨x43,h44,hF⟩:=J hF;refine wz ?_;obtain⟨h45,hF⟩:=du hF;refine wz ?_;obtain⟨x46,h47,hF⟩:=J hF;refine wz ?_;refine XR (cR rfl z26 rfl (cQ FT rfl rfl rfl)) rfl<|X1 (cB (es:=([(x43,x46)]:XD).map (eP (eI .i64) (eI .i64))) Ae rfl (cz Ae z26 rfl rfl) rfl rfl) gn rfl fun b48=>?_;obtain⟨h49,hF⟩:=aD hF;refine X1 (vy (k:=3) (k2:=0) (xs:=(l19:XD)) (ys:=([(x43,x46)]:XD)) (Gs (uV .i64) (uV .i64)) Ae ⟨_,Q7⟩ rfl rfl rfl (.arr _ _ _ _ _) h49) gn rfl fun a50=>?_;refine az ?_;cases hF;exact ae a50 [2,3];refine wz ?_;cases hF;exact ae a20 [1];rintro a38;refine ja ?_;obtain rfl:=U9 hF;exact ar (a38,l37.length) [0]
def NA{n l1 l5 a2 c3 a6 c7}{rr8:XH}{es9:XF}{r}(hF:F8 n l1 l5=some r)(m)(h4:lF m a2 c3 l1)(h10:pC m a6 c7 l5 es9)(h11:(cE al rr8 l5 es9).P m):
 aK (Yt (some nC) q) 8 [mU a2 l1 c3 a6 l5 c7] m (fun v m'=>∃x:XG×Nat,v=.tuple #[.slice x.1 x.2 x.2,.int .i64 r.2]/\Hp m m' [.sl x.1 4 x.2 (r.1.map (eP (eI .i64) (eP (eI .i64) (eP (eI .i64) (eI .i64)))))]):=by
 unfold F8 at hF;refine cw Try.func8 (Hp.pG (X6 (X6 (XZ m) eL h4) (fH eL) h10) (fH (fH eL)) h11) ?_;refine wz ?_;refine wb fun b12=>?_;refine az ?_;obtain⟨r14,h13,hF⟩:=J hF;refine wc gn (fun m hm=>zb h13 m (hm.q 3) (hm.q 2) (hm.dp (q:=1) rfl)) ?_;rintro⟨⟩;refine az ?_;rcases aa hF with⟨h15,hF⟩|⟨h15,hF⟩;refine az ?_;cases hF;exact X2 (.tmp rfl (.tmp rfl .nil)) fun m' hm=>⟨(none,0),rfl,(ai.trans (ai.nil 4 rfl) (ai.aq [0] rfl rfl)) m' hm⟩;refine az ?_;obtain⟨l17,h16,hF⟩:=J hF;refine wc gn (fun m hm=>Il n l1 l5 a2 c3 a6 c7 rr8 es9 _ h16 m (hm.q 3) (hm.q 2) (hm.dp (q:=1) rfl)) ?_;rintro⟨a18,n19⟩;refine Ye (k:=0) (xs:=l17) rfl ?_;rintro rfl;refine az ?_;cases hF;exact ar (a18,l17.length) [0]
def QY{n l2 l1 x3 a0 c0 a1 c1}{r0:XH}{e0:XF}{r}(hF:F9 n l2 l1 x3=some r)(m)(h1:lF m a0 c0 l2)(h2:pC m a1 c1 l1 e0)(h3:(cE al r0 l1 e0).P m):
 aK (Yt p q) 9 [mU a0 l2 c0 a1 l1 c1,bu x3] m (Yp m (.tuple #[.int .i64 r.1,.int .i64 r.2])):=by
 unfold F9 at hF;refine cw Try.func9 (Hp.pG (X6 (X6 (XZ m) eL h1) (fH eL) h2) (fH (fH eL)) h3) ?_;refine wz ?_;refine wb fun b0=>?_;refine az ?_;obtain⟨r3,h4,hF⟩:=J hF;refine wc gn (fun m hm=>zb h4 m (hm.q 3) (hm.q 2) (hm.dp (q:=1) rfl)) ?_;rintro⟨⟩;refine az ?_;rcases aa hF with⟨h5,hF⟩|⟨h5,hF⟩;refine az ?_;cases hF;exact ar () [];refine wz ?_;refine XS<|XS ?_;obtain⟨v0,h6,hF⟩:=J hF;refine ct (fun v0 (_:YC)=>⟨.normal,[(1,bu x3),(2,ptr b0 0),(23,.bool v0)],(ig b0 a0 l2 c0 a1 l1 c1 e0 al r0 [])⟩) v0 ?_ ?_;clear hF;revert v0;intro r hF;refine wz ?_;rcases aa hF with⟨h7,hF⟩|⟨h7,hF⟩;refine wz ?_;cases hF;exact ae () [0,3,2,1];refine wz ?_;cases hF;exact ae () [0,3,2,1];rintro⟨⟩;refine XX ?_;rcases aa hF with⟨h8,hF⟩|⟨h8,hF⟩;refine az ?_;cases hF;exact ar () [];refine ja ?_;obtain⟨h9,hF⟩:=du hF;refine X4 (k:=2) rfl (aW h9) ?_;rintro b1 o5 rfl;refine wz ?_;obtain⟨⟨l5,l6⟩,h10,hF⟩:=J hF;refine wl 2 0 4 0 h10 ?_;rintro⟨⟨a3,c3⟩,⟨a4,c4,e3⟩⟩;obtain⟨l3,h11,hF⟩:=J hF;refine Hr gn (fun m hm=>kQ h11 m hm.dX (hm.q 0) (hm.no 0) (hm.q 1) (hm.no 1) (hm.dp (q:=2) rfl) (hm.iA (q:=2) rfl)) ?_;rintro⟨a2,c2,n0,e1,r1⟩;refine Yj (k:=0) (q:=1) (L:=l3) rfl (.inr (.inl ⟨_,rfl⟩)) rfl ?_;rintro rfl;refine wz ?_;refine XV ?_;obtain⟨v1,h0,hF⟩:=J hF;refine ct (fun v1 (_:YC)=>⟨(.exit 0),[(7,bu v1)],[]⟩) v1 ?_ ?_;refine lo h0 () [6,7,5,9,8,0,1] (fun(v2,v3) _=>⟨.normal,[(2,ptr b0 0),(7,bu v2),(29,bQ a2 l3 c2),(30,eD l3),(31,bu v3)],(ic b0 a0 l2 c0 b1 o5 l1 c1 e0 al r0 [km a2 c2 l3 e1,gQ bq r1 l3 e1])⟩) ?_;clear hF h0;rintro⟨v2,v3⟩ ⟨⟩ r hF;unfold R7 at hF;refine wz ?_;refine XS ?_;rcases aa hF with⟨h12,hF⟩|⟨h12,hF⟩;refine az ?_;obtain⟨h13,hF⟩:=du hF;refine X4 (k:=5) rfl (aW h13) ?_;rintro b2 o6 rfl;refine wz ?_;obtain⟨l7,h14,hF⟩:=J hF;refine wl 1 0 7 0 h14 ?_;rintro⟨a5,c5⟩;refine az ?_;obtain⟨l4,h15,hF⟩:=J hF;refine wc gn (fun m hm=>rK h15 m (hm.q 3) (hm.q 6) (hm.dp (q:=5) rfl) (hm.q 0)) ?_;rintro⟨a6,n1⟩;refine Ye (k:=0) (xs:=l4) rfl ?_;rintro rfl;obtain⟨r4,h16,hF⟩:=J hF;refine wc gn (fun m hm=>Ic h16 m (hm.rd (k:=0) rfl (.sl _ _ _ _))) ?_;rintro⟨⟩;refine az ?_;cases hF;exact ae () (Yk 3 7);refine wz ?_;cases hF;exact ae () [];rintro⟨⟩;refine ja ?_;cases hF;exact ar () []
def Pu{n l1 l5 a2 c3 a6 c7 r}(hF:Tv n l1 l5=some r)(m)(h4:Rd m a2 c3 4 l1.length (l1.map (eP (eI .i64) (eP (eI .i64) (eP (eI .i64) (eI .i64))))))(h8:Rd m a6 c7 4 l5.length (l5.map (eP (eI .i64) (eP (eI .i64) (eP (eI .i64) (eI .i64)))))):
 aK (Yt p q) 18 [bQ a2 l1 c3,bQ a6 l5 c7] m (Yp m (.bool r)):=by
 unfold Tv at hF;refine cw Try.func18 (X6 (X6 (XZ m) eL h4) (fH eL) h8) ?_;refine az ?_;rcases aa hF with⟨h9,hF⟩|⟨h9,hF⟩;refine az ?_;cases hF;exact ar () [];refine az ?_;refine XV ?_;obtain⟨r50,h49,hF⟩:=J hF;refine ct (fun(r:YC⊕YC) (g:YC)=>match r,g with|.inl _,_=>⟨.ret,[(4,.bool false)],[]⟩|.inr _,_=>⟨(.exit 0),[],[]⟩) r50 ?_ ?_
 refine lo h49 () [1,0] (fun v11 _=>⟨.normal,[(0,bQ a2 l1 c3),(1,bQ a6 l5 c7),(12,eD l1),(13,bu v11)],[.rd a2 c3 4 l1.length (l1.map (eP (eI .i64) (eP (eI .i64) (eP (eI .i64) (eI .i64))))),.rd a6 c7 4 l5.length (l5.map (eP (eI .i64) (eP (eI .i64) (eP (eI .i64) (eI .i64)))))]⟩) ?_;clear hF h49;rintro v11 ⟨⟩ r hF;unfold No at hF;refine wz ?_;refine XS ?_;rcases aa hF with⟨h31,hF⟩|⟨h31,hF⟩;refine ja ?_;obtain⟨h32,hF⟩:=du hF;refine X4 (k:=0) rfl (aW h32) ?_;rintro b33 o34 rfl;refine wz ?_;obtain⟨⟨x35,x36,x37,x38⟩,h39,hF⟩:=J hF;refine wz ?_;obtain⟨h40,hF⟩:=du hF;refine X4 (k:=2) rfl (aW h40) ?_;rintro b41 o42 rfl;refine wz ?_;obtain⟨⟨x43,x44,x45,x46⟩,h47,hF⟩:=J hF;refine wz ?_;refine XR (aL rfl rfl (Sj Tw (Uc _ _ _ _ _ _ _ _))) rfl ?_;refine wz ?_;rcases aa hF with⟨h48,hF⟩|⟨h48,hF⟩;refine az ?_;cases hF;exact ae () [];refine az ?_;cases hF;exact ae () [2,3];refine wz ?_;cases hF;exact ae () [];rcases r50 with _|_;rintro⟨⟩;refine wz ?_;cases hF;exact ar () [];rintro⟨⟩;refine ja ?_;cases hF;exact ar () []
def uK{n l1 l5 x12 x13 a2 c3 a6 c7}{rr8:XH}{es9:XF}{r}(hF:P3 n l1 l5 x12 x13=some r)(m)(h4:lF m a2 c3 l1)(h10:pC m a6 c7 l5 es9)(h11:(cE al rr8 l5 es9).P m):
 aK (Yt (some nC) q) 19 [mU a2 l1 c3 a6 l5 c7,bu x12,bu x13] m (Yp m (.bool r)):=by
 unfold P3 at hF;refine cw Try.func19 (Hp.pG (X6 (X6 (XZ m) eL h4) (fH eL) h10) (fH (fH eL)) h11) ?_;refine wz ?_;refine wb fun b14=>?_;refine az ?_;obtain⟨⟨r16,r17⟩,h15,hF⟩:=J hF;refine wc gn (fun m hm=>JP h15 m (hm.q 3) (hm.q 2) (hm.dp (q:=1) rfl)) ?_;rintro⟨⟩;refine az ?_;obtain⟨⟨l19,r22⟩,h18,hF⟩:=J hF;refine wc gn (fun m hm=>NA h18 m (hm.q 3) (hm.q 2) (hm.dp (q:=1) rfl)) ?_;rintro⟨a20,n21⟩;refine Ye (k:=0) (xs:=l19) rfl ?_;rintro rfl;refine az ?_;rcases aa hF with⟨h23,hF⟩|⟨h23,hF⟩;refine wz ?_;rcases aa hF with⟨h24,hF⟩|⟨h24,hF⟩;refine wz ?_;refine X3 (aL rfl rfl (Nb u4)) (gg rfl rfl (fg h24)) rfl ?_;refine az ?_;cases hF;exact ar () [];refine az ?_;cases hF;exact ar () [];refine az ?_;cases hF;exact ar () []
def JH{n l1 l5 x12 x13 x14 x15 a2 c3 a6 c7}{rr8:XH}{es9:XF}{r}(hF:SV n l1 l5 x12 x13 x14 x15=some r)(m)(h4:lF m a2 c3 l1)(h10:pC m a6 c7 l5 es9)(h11:(cE al rr8 l5 es9).P m):
 aK (Yt (some nC) (some Gp)) 20 [mU a2 l1 c3 a6 l5 c7,bu x12,bu x13,bu x14,bu x15] m (Yp m (.bool r)):=by
 unfold SV at hF;refine cw Try.func20 (Hp.pG (X6 (X6 (XZ m) eL h4) (fH eL) h10) (fH (fH eL)) h11) ?_;refine wz ?_;refine wb fun b16=>?_;refine az ?_;obtain⟨⟨r18,r19,r20,r21,r22⟩,h17,hF⟩:=J hF;refine wc gn (fun m hm=>Cw n l1 l5 a2 c3 a6 c7 rr8 es9 _ h17 m (hm.q 3) (hm.q 2) (hm.dp (q:=1) rfl)) ?_;rintro⟨⟩;refine az ?_;rcases aa hF with⟨h23,hF⟩|⟨h23,hF⟩;refine wz ?_;rcases aa hF with⟨h24,hF⟩|⟨h24,hF⟩;refine wz ?_;rcases aa hF with⟨h25,hF⟩|⟨h25,hF⟩;refine wz ?_;rcases aa hF with⟨h26,hF⟩|⟨h26,hF⟩;refine az ?_;cases hF;exact ar () [];refine az ?_;cases hF;exact ar () [];refine az ?_;cases hF;exact ar () [];refine az ?_;cases hF;exact ar () [];refine az ?_;cases hF;exact ar () []
def P9{n l2 l1 x3 x4 a0 c1 a1 c0}{r0:XH}{e0:XF}{r}(hF:Tp n l2 l1 x3 x4=some r)(m)(h3:lF m a0 c1 l2)(h4:pC m a1 c0 l1 e0)(h5:(cE al r0 l1 e0).P m):
 aK (Yt p q) 13 [mU a0 l2 c1 a1 l1 c0,nK x3 x4] m (Yp m (.tuple #[.int .i64 r.1,.int .i64 r.2])):=by
 unfold Tp at hF;refine cw Try.func13 (Hp.pG (X6 (X6 (XZ m) eL h3) (fH eL) h4) (fH (fH eL)) h5) ?_;refine wz ?_;refine wb fun b0=>?_;refine wb fun b1=>?_;refine az ?_;obtain⟨r5,h6,hF⟩:=J hF;refine wc gn (fun m hm=>zb h6 m (hm.q 4) (hm.q 3) (hm.dp (q:=2) rfl)) ?_;rintro⟨⟩;refine az ?_;rcases aa hF with⟨h7,hF⟩|⟨h7,hF⟩;refine az ?_;cases hF;exact ar () [];refine az ?_;obtain⟨r6,h8,hF⟩:=J hF;refine wc gn (fun m hm=>Kz h8 m) ?_;rintro⟨⟩;refine wz ?_;rcases aa hF with⟨h9,hF⟩|⟨h9,hF⟩;refine az ?_;cases hF;exact ar () [];refine az ?_;refine XR (kX rfl rfl) rfl ?_;obtain⟨v1,h10,hF⟩:=J hF;refine wq (fun v1 (_:YC)=>(.int .i64 v1,[])) v1 (fun m hm=>?_) ?_;clear hF;revert v1;intro r hF;refine aS (N:=19) (rs:=[.tmp 4]) rfl Try.func31 rfl rfl rfl hm ?_;refine az ?_;refine XV ?_;obtain⟨r1,h1,hF⟩:=J hF;refine ct (fun(r:Int⊕YC) (g:YC)=>match r,g with|.inl v4,_=>⟨.ret,[(4,bu v4)],[]⟩|.inr _,_=>⟨(.exit 0),[],[]⟩) r1 ?_ ?_
 refine lo h1 () [1,4,3,2,0] (fun v5 _=>⟨.normal,((1,.func (.func 32) #[] #[ptr b0 0,ptr b1 0])::BI a1 l1 c0 v5 []),(ig b0 a0 l2 c1 a1 l1 c0 e0 al r0 [iQ b1 x3 x4])⟩) ?_;clear hF h1;rintro v5 ⟨⟩ r hF;unfold NJ at hF;refine wz ?_;refine XS ?_;rcases aa hF with⟨h11,hF⟩|⟨h11,hF⟩;refine az ?_;obtain⟨h12,hF⟩:=du hF;refine X4 (k:=2) rfl (aW h12) ?_;rintro b2 o5 rfl;refine wz ?_;obtain⟨⟨l5,l6⟩,h13,hF⟩:=J hF;refine wl 2 0 4 0 h13 ?_;rintro⟨⟨a3,c3⟩,⟨a4,c4,e3⟩⟩;refine wa z54 fun b4=>?_;refine az ?_;obtain⟨v2,h14,hF⟩:=J hF;refine wq (fun v2 (_:YC)=>(.bool v2,(ic b0 a0 l2 c1 b2 o5 l1 c0 e0 al r0 [iQ b1 x3 x4]))) v2 (fun m hm=>?_) ?_;clear hF;revert v2;intro r hF;refine aS (N:=16) (rs:=[.tmp 4]) rfl Try.func32 rfl rfl rfl hm ?_;refine wz ?_;refine wb fun b5=>?_;refine az ?_;obtain⟨r7,h15,hF⟩:=J hF;refine wc gn (fun m hm=>DG h15 m (hm.q 7) (hm.q 8) (hm.dp (q:=9) rfl) (hm.q 2) (hm.q 3) (hm.dp (q:=4) rfl)) ?_;rintro⟨⟩;refine wz ?_;rcases aa hF with⟨h0,hF⟩|⟨h0,hF⟩;refine az ?_;cases hF;exact ar () [6,7,5,9,8,10];refine wz ?_;obtain⟨l3,h16,hF⟩:=J hF;refine Hr (gg rfl rfl (tD h0)) (fun m hm=>kQ h16 m hm.dX (hm.q 2) (hm.no 2) (hm.q 3) (hm.no 3) (hm.dp (q:=4) rfl) (hm.iA (q:=4) rfl)) ?_;rintro⟨a2,c2,n0,e1,r3⟩;refine Yj (k:=0) (q:=1) (L:=l3) rfl (.inr (.inl ⟨_,rfl⟩)) rfl ?_;rintro rfl;refine X3 (kX rfl rfl) (gg rfl rfl (tD h0)) rfl ?_;obtain⟨v0,h17,hF⟩:=J hF;refine X1 (nq (α:=YC) (V:=fun g=>(fun(r:Int) (g:YC)=>match r,g with|v0,_=>(.int .i64 v0:XI)) v0 g) (N:=fun g=>(fun(r:Int) (g:YC)=>match r,g with|v0,_=>((ic b0 a0 l2 c1 b2 o5 l1 c0 e0 al r0 [iQ b1 x3 x4]):YB Pc)) v0 g) rfl rfl (fun m hm=>?_)) (gg rfl rfl (tD h0)) rfl ?_
 clear hF;revert v0;intro r hF;refine aS (N:=19) (rs:=[.tmp 4]) rfl Try.func34 rfl rfl rfl hm ?_;refine az ?_;refine XV ?_;obtain⟨r4,h2,hF⟩:=J hF;refine ct (fun(r:Int⊕YC) (g:YC)=>match r,g with|.inl v6,_=>⟨.ret,[(4,bu v6)],(ic b0 a0 l2 c1 b2 o5 l1 c0 e0 al r0 [iQ b1 x3 x4])⟩|.inr _,_=>⟨(.exit 0),[],(ic b0 a0 l2 c1 b2 o5 l1 c0 e0 al r0 [iQ b1 x3 x4])⟩) r4 ?_ ?_
 refine lo h2 () [8,9,7,11,10,12,0,1] (fun v7 _=>⟨.normal,((1,.func (.func 35) #[] #[ptr b0 0,ptr b1 0])::BI a2 l3 c2 v7 []),(ic b0 a0 l2 c1 b2 o5 l1 c0 e0 al r0 [iQ b1 x3 x4,km a2 c2 l3 e1,gQ bq r3 l3 e1])⟩) ?_;clear hF h2;rintro v7 ⟨⟩ r hF;unfold NI at hF;refine wz ?_;refine XS ?_;rcases aa hF with⟨h18,hF⟩|⟨h18,hF⟩;refine az ?_;obtain⟨h19,hF⟩:=du hF;refine X4 (k:=6) rfl (aW h19) ?_;rintro b3 o6 rfl;refine wz ?_;obtain⟨l7,h20,hF⟩:=J hF;refine wl 1 0 8 0 h20 ?_;rintro⟨a5,c5⟩;refine az ?_;obtain⟨v3,h21,hF⟩:=J hF;refine wq (fun v3 (_:YC)=>(.bool v3,(ic b0 a0 l2 c1 b2 o5 l1 c0 e0 al r0 (iQ b1 x3 x4::kT b3 o6 l3 e1 bq r3 c2 [])))) v3 (fun m hm=>?_) ?_;clear hF;revert v3;intro r hF;refine aS (N:=11) (rs:=[.tmp 4]) rfl Try.func35 rfl rfl rfl hm ?_;refine wz ?_;refine XS<|Ya (prs:=[(2,3)]) (by kernel_rfl)<|XU (aJ (k:=2) fZ rfl rfl rfl) rfl<|XU (aX rfl) rfl ?_
 obtain⟨l4,h22,hF⟩:=J hF;refine nc gn (fun m hm=>rK h22 m (hm.q 3) (hm.q 6) (hm.dp (q:=5) rfl) (hm.q 0)) ?_;rintro⟨a6,n1⟩;refine Wn.len (k:=0) (xs:=l4) rfl ?_;rintro rfl;refine XU (aJ (k:=8) dN rfl rfl rfl) rfl ?_;obtain⟨r8,h23,hF⟩:=J hF;refine nc gn (fun m hm=>Di h23 m (hm.rd (k:=0) rfl (.sl _ _ _ _))) ?_;rintro⟨⟩;refine XU (aL rfl rfl (jv _ _ _)) rfl<|XU (bE rfl) rfl<|X5 (fun m hm=>dQ.all rfl) ?_;refine az ?_;cases hF;exact ar () [3,4,5,6,7,8,2,10,9];rintro⟨⟩;refine wz ?_;rcases aa hF with⟨h24,hF⟩|⟨h24,hF⟩;refine az ?_;cases hF;exact ae () (Yk 0 6);refine az ?_;cases hF;exact ae () [0,1,2,3,4,5,8,7];refine wz ?_;cases hF;exact ae () (Yk 0 6);rcases r4 with v6|_;rintro⟨⟩;refine wz ?_;obtain rfl:=U9 hF;exact ar () (Yk 0 6);rintro⟨⟩;refine ja ?_;cases hF;exact ar () (Yk 0 6);rintro⟨⟩;refine az ?_;cases hF;exact ar () (Yk 0 6);rintro⟨⟩;refine wz ?_;rcases aa hF with⟨h25,hF⟩|⟨h25,hF⟩;refine az ?_;cases hF;exact ae () [];refine az ?_;cases hF;exact ae () [0,1,4,3,5];refine wz ?_;cases hF;exact ae () [];rcases r1 with v4|_;rintro⟨⟩;refine wz ?_;obtain rfl:=U9 hF;exact ar () [];rintro⟨⟩;refine ja ?_;cases hF;exact ar () [];rintro⟨⟩;refine az ?_;cases hF;exact ar () []
def yE{n l1 l5 x12 x13 x14 a2 c3 a6 c7}{rr8:XH}{es9:XF}{r}(hF:Qw n l1 l5 x12 x13 x14=some r)(m)(h4:lF m a2 c3 l1)(h10:pC m a6 c7 l5 es9)(h11:(cE al rr8 l5 es9).P m):
 aK (Yt p q) 21 [mU a2 l1 c3 a6 l5 c7,bu x12,bu x13,bu x14] m (Yp m (.bool r)):=by
 unfold Qw at hF;refine cw Try.func21 (Hp.pG (X6 (X6 (XZ m) eL h4) (fH eL) h10) (fH (fH eL)) h11) ?_;refine wz ?_;refine wb fun b15=>?_;refine az ?_;refine XR (cR rfl z26 rfl (cQ FT rfl rfl rfl)) rfl ?_;obtain⟨⟨r17,r18⟩,h16,hF⟩:=J hF;refine wc gn (fun m hm=>P9 h16 m (hm.q 3) (hm.q 2) (hm.dp (q:=1) rfl)) ?_;rintro⟨⟩;refine az ?_;rcases aa hF with⟨h19,hF⟩|⟨h19,hF⟩;refine az ?_;cases hF;exact ar () [];refine az ?_;cases hF;exact ar () []
def RX{n r}(hF:F6 n=some r)(m):
 aK (Yt (some nC) (some Gp)) 6 [] m (Yp m (.bool r)):=by
 unfold F6 at hF;refine cw Try.func6 (XZ m) ?_;refine az ?_;obtain⟨r6,h12,hF⟩:=J hF;refine wq (fun((l6,l5):XD×XB) ((a0,a1,e1,r0):XG×XG×XF ×(Nat->Prop))=>(.agg #[bZ a0 l6,bZ a1 l5],[dz a0 l6,mV a1 l5 e1,gQ al r0 l5 e1])) r6 (fun m hm=>?_) ?_;clear hF;revert r6;intro r hF;refine aS (N:=9) (rs:=[.cell 0 34]) rfl Try.func16 rfl rfl rfl hm ?_;refine wz ?_;refine wa tG fun b32=>?_;refine az ?_;refine X1 (cB (es:=([0,0,2,0,4,0,4,2,2,2,0,2]:YB (Int)).map (eI .i64)) fQ rfl (cz fQ z3 rfl rfl) rfl rfl) gn rfl fun b33=>?_;obtain⟨l18,h13,hF⟩:=J hF;refine wc gn (fun m hm=>vV h13 m (hm.q 0)) ?_;rintro⟨a16,n0⟩;refine Ye (k:=0) (xs:=l18) rfl ?_;rintro rfl;refine X1 (cB (es:=([0,1,4,5]:YB (Int)).map (eI .i64)) fQ rfl (cz fQ z3 rfl rfl) rfl rfl) gn rfl fun b6=>?_;refine XR (cR rfl z54 rfl (cQ oC rfl rfl rfl)) rfl<|X1 (cB (es:=([1,2,3,4]:YB (Int)).map (eI .i64)) fQ rfl (cz fQ z3 rfl rfl) rfl rfl) gn rfl fun b7=>?_;refine XR (cR rfl z54 rfl (cQ oC rfl rfl rfl)) rfl<|X0 (ai.close (k:=1) rfl)<|X0 (ai.freeze (k:=1) rfl)<|X0 (ai.close (k:=0) rfl)<|X0 (ai.freeze (k:=0) rfl)<|X1 (cB (es:=[[cG b6,.slice none 0 0],[cG b7,.slice none 0 0]]) kJ rfl (cz kJ z54 rfl rfl) rfl rfl) gn rfl fun b27=>?_;refine Wo.dp (r:=al) (L:=([([0,1,4,5],[]),([1,2,3,4],[])]:XB)) (es:=[[cG b6,.slice none 0 0],[cG b7,.slice none 0 0]]) (jg.cons (r:=al) (z:=([0,1,4,5],[])) (g:=(((some ⟨b6,0,none⟩),4),(none,0,[]))) (Lf.p (Lf.s (k:=2) rfl) Lf.l0) (jg.cons (r:=al) (z:=([1,2,3,4],[])) (g:=(((some ⟨b7,0,none⟩),4),(none,0,[]))) (Lf.p (Lf.s (k:=1) rfl) Lf.l0) jg.nil)) ?_;intro r13;refine XR (cR rfl tG rfl (cQ Du rfl rfl rfl)) rfl ?_;refine az ?_;cases hF;exact X2 (.cell (k:=6) fZ rfl rfl rfl .nil) fun m' hm=>⟨(a16,(some ⟨b27,0,none⟩),[[cG b6,.slice none 0 0],[cG b7,.slice none 0 0]],r13),rfl,(ai.trans (ai.close (k:=1) rfl) (ai.aq [4,1,0] rfl rfl)) m' hm⟩;clear h12;obtain⟨l6,l5⟩:=r6;rintro⟨a0,a1,e1,r0⟩;obtain⟨r7,h14,hF⟩:=J hF;refine wq (fun((l10,l7):XD×XB) ((a3,a4,e4,r1):XG×XG×XF ×(Nat->Prop))=>(.agg #[bZ a3 l10,bZ a4 l7],[dz a3 l10,mV a4 l7 e4,gQ al r1 l7 e4,dz a0 l6,mV a1 l5 e1,gQ al r0 l5 e1])) r7 (fun m hm=>?_) ?_;clear hF;revert r7;intro r hF;refine aS (N:=11) (rs:=[.cell 0 34]) rfl Try.func17 rfl rfl rfl hm ?_;refine wz ?_;refine wa tG fun b34=>?_;refine az ?_;refine X1 (cB (es:=([0,0,9,0,9,9,0,9,3,3,6,3,6,6,3,6]:YB (Int)).map (eI .i64)) fQ rfl (cz fQ z3 rfl rfl) rfl rfl) gn rfl fun b35=>?_;obtain⟨l19,h15,hF⟩:=J hF;refine wc gn (fun m hm=>vV h15 m (hm.q 0)) ?_;rintro⟨a17,n1⟩;refine Ye (k:=0) (xs:=l19) rfl ?_;rintro rfl;refine X1 (cB (es:=([0,1,2,3]:YB (Int)).map (eI .i64)) fQ rfl (cz fQ z3 rfl rfl) rfl rfl) gn rfl fun b8=>?_;refine X1 (cB (es:=([4,7,6,5]:YB (Int)).map (eI .i64)) fQ rfl (cz fQ z3 rfl rfl) rfl rfl) gn rfl fun b9=>?_;refine X0 (ai.close (k:=0) rfl)<|X0 (ai.freeze (k:=0) rfl)<|X1 (cB (es:=[[cG b9]]) rA rfl (cz rA z51 rfl rfl) rfl rfl) gn rfl fun b10=>?_;refine Wo.dp (r:=bq) (L:=([[4,7,6,5]]:XE)) (es:=[[cG b9]]) (jg.cons (r:=bq) (z:=[4,7,6,5]) (g:=((some ⟨b9,0,none⟩),4)) (Lf.s (k:=1) rfl) jg.nil) ?_;intro r23;refine XR (cR rfl z54 rfl (cQ oC rfl rfl rfl)) rfl<|X1 (cB (es:=([4,5,6,7]:YB (Int)).map (eI .i64)) fQ rfl (cz fQ z3 rfl rfl) rfl rfl) gn rfl fun b11=>?_;refine XR (cR rfl z54 rfl (cQ oC rfl rfl rfl)) rfl<|X0 (ai.close (k:=4) rfl)<|X0 (ai.freeze (k:=4) rfl)<|X0 (ai.close (k:=2) rfl)<|X0 (ai.freeze (k:=2) rfl)<|X0 (ai.close (k:=0) rfl)<|X0 (ai.freeze (k:=0) rfl)<|X1 (cB (es:=[[cG b8,mW b10],[cG b11,.slice none 0 0]]) kJ rfl (cz kJ z54 rfl rfl) rfl rfl) gn rfl fun b28=>?_;refine Wo.dp (r:=al) (L:=([([0,1,2,3],[[4,7,6,5]]),([4,5,6,7],[])]:XB)) (es:=[[cG b8,mW b10],[cG b11,.slice none 0 0]]) (jg.cons (r:=al) (z:=([0,1,2,3],[[4,7,6,5]])) (g:=(((some ⟨b8,0,none⟩),4),((some ⟨b10,0,none⟩),1,[[cG b9]]))) (Lf.p (Lf.s (k:=5) rfl) (Lf.l (k:=3) (q:=2) rfl rfl rfl)) (jg.cons (r:=al) (z:=([4,5,6,7],[])) (g:=(((some ⟨b11,0,none⟩),4),(none,0,[]))) (Lf.p (Lf.s (k:=1) rfl) Lf.l0) jg.nil)) ?_;intro r14;refine XR (cR rfl tG rfl (cQ Du rfl rfl rfl)) rfl ?_;refine az ?_;cases hF;exact X2 (.cell (k:=9) fZ rfl rfl rfl .nil) fun m' hm=>⟨(a17,(some ⟨b28,0,none⟩),[[cG b8,mW b10],[cG b11,.slice none 0 0]],r14),rfl,(ai.trans (ai.close (k:=1) rfl) (ai.aq [7,1,0,10,11,12] rfl rfl)) m' hm⟩;clear h14;obtain⟨l10,l7⟩:=r7;rintro⟨a3,a4,e4,r1⟩;refine wa tG fun b1=>?_;refine wa tG fun b2=>?_;refine az ?_;obtain⟨⟨l14,r15⟩,h16,hF⟩:=J hF;refine wc gn (fun m hm=>NA h16 m (hm.rd (k:=5) rfl (.sl _ _ _ _)) (hm.rd (k:=6) rfl (.sl _ _ _ _)) (hm.dp (q:=7) rfl)) ?_;rintro⟨a9,n2⟩;refine Ye (k:=0) (xs:=l14) rfl ?_;rintro rfl;refine az ?_;obtain⟨⟨r16,r17⟩,h17,hF⟩:=J hF;refine wc gn (fun m hm=>QY h17 m (hm.rd (k:=3) rfl (.sl _ _ _ _)) (hm.rd (k:=4) rfl (.sl _ _ _ _)) (hm.dp (q:=5) rfl)) ?_;rintro⟨⟩;refine az ?_;obtain⟨r8,h18,hF⟩:=J hF;refine wq (fun((l8,l1):XD×XB) ((a2,a12,e0,r3):XG×XG×XF ×(Nat->Prop))=>(.agg #[bZ a2 l8,bZ a12 l1],(dz a2 l8::mV a12 l1 e0::gQ al r3 l1 e0::xa b1 a0 l6 a1 l5 e1 al r0 (xa b2 a3 l10 a4 l7 e4 al r1 [pz a9 l14])))) r8 (fun m hm=>?_) ?_;clear hF;revert r8;intro r hF;refine aS (N:=11) (rs:=[.cell 0 34]) rfl Try.func17 rfl rfl rfl hm ?_;refine wz ?_;refine wa tG fun b36=>?_;refine az ?_;refine X1 (cB (es:=([0,0,9,0,9,9,0,9,3,3,6,3,6,6,3,6]:YB (Int)).map (eI .i64)) fQ rfl (cz fQ z3 rfl rfl) rfl rfl) gn rfl fun b37=>?_;obtain⟨l20,h19,hF⟩:=J hF;refine wc gn (fun m hm=>vV h19 m (hm.q 0)) ?_;rintro⟨a18,n4⟩;refine Ye (k:=0) (xs:=l20) rfl ?_;rintro rfl;refine X1 (cB (es:=([0,1,2,3]:YB (Int)).map (eI .i64)) fQ rfl (cz fQ z3 rfl rfl) rfl rfl) gn rfl fun b12=>?_;refine X1 (cB (es:=([4,7,6,5]:YB (Int)).map (eI .i64)) fQ rfl (cz fQ z3 rfl rfl) rfl rfl) gn rfl fun b13=>?_;refine X0 (ai.close (k:=0) rfl)<|X0 (ai.freeze (k:=0) rfl)<|X1 (cB (es:=[[cG b13]]) rA rfl (cz rA z51 rfl rfl) rfl rfl) gn rfl fun b14=>?_;refine Wo.dp (r:=bq) (L:=([[4,7,6,5]]:XE)) (es:=[[cG b13]]) (jg.cons (r:=bq) (z:=[4,7,6,5]) (g:=((some ⟨b13,0,none⟩),4)) (Lf.s (k:=1) rfl) jg.nil) ?_;intro r24;refine XR (cR rfl z54 rfl (cQ oC rfl rfl rfl)) rfl<|X1 (cB (es:=([4,5,6,7]:YB (Int)).map (eI .i64)) fQ rfl (cz fQ z3 rfl rfl) rfl rfl) gn rfl fun b15=>?_;refine XR (cR rfl z54 rfl (cQ oC rfl rfl rfl)) rfl<|X0 (ai.close (k:=4) rfl)<|X0 (ai.freeze (k:=4) rfl)<|X0 (ai.close (k:=2) rfl)<|X0 (ai.freeze (k:=2) rfl)<|X0 (ai.close (k:=0) rfl)<|X0 (ai.freeze (k:=0) rfl)<|X1 (cB (es:=[[cG b12,mW b14],[cG b15,.slice none 0 0]]) kJ rfl (cz kJ z54 rfl rfl) rfl rfl) gn rfl fun b29=>?_;refine Wo.dp (r:=al) (L:=([([0,1,2,3],[[4,7,6,5]]),([4,5,6,7],[])]:XB)) (es:=[[cG b12,mW b14],[cG b15,.slice none 0 0]]) (jg.cons (r:=al) (z:=([0,1,2,3],[[4,7,6,5]])) (g:=(((some ⟨b12,0,none⟩),4),((some ⟨b14,0,none⟩),1,[[cG b13]]))) (Lf.p (Lf.s (k:=5) rfl) (Lf.l (k:=3) (q:=2) rfl rfl rfl)) (jg.cons (r:=al) (z:=([4,5,6,7],[])) (g:=(((some ⟨b15,0,none⟩),4),(none,0,[]))) (Lf.p (Lf.s (k:=1) rfl) Lf.l0) jg.nil)) ?_;intro r18;refine XR (cR rfl tG rfl (cQ Du rfl rfl rfl)) rfl ?_;refine az ?_;cases hF;exact X2 (.cell (k:=9) fZ rfl rfl rfl .nil) fun m' hm=>⟨(a18,(some ⟨b29,0,none⟩),[[cG b12,mW b14],[cG b15,.slice none 0 0]],r18),rfl,(ai.trans (ai.close (k:=1) rfl) (ai.aq [7,1,0,12,16,17,18,11,13,14,15,10] rfl rfl)) m' hm⟩;clear h18;obtain⟨l8,l1⟩:=r8;rintro⟨a2,a12,e0,r3⟩;obtain⟨r9,h20,hF⟩:=J hF;refine wq (fun((l11,l2):XD×XB) ((a5,a10,e3,r4):XG×XG×XF ×(Nat->Prop))=>(.agg #[bZ a5 l11,bZ a10 l2],(dz a5 l11::mV a10 l2 e3::gQ al r4 l2 e3::xa b1 a0 l6 a1 l5 e1 al r0 (xa b2 a3 l10 a4 l7 e4 al r1 [pz a9 l14,dz a2 l8,mV a12 l1 e0,gQ al r3 l1 e0])))) r9 (fun m hm=>?_) ?_;clear hF;revert r9;intro r hF;refine aS (N:=11) (rs:=[.cell 0 34]) rfl Try.func17 rfl rfl rfl hm ?_;refine wz ?_;refine wa tG fun b38=>?_;refine az ?_;refine X1 (cB (es:=([0,0,9,0,9,9,0,9,3,3,6,3,6,6,3,6]:YB (Int)).map (eI .i64)) fQ rfl (cz fQ z3 rfl rfl) rfl rfl) gn rfl fun b39=>?_;obtain⟨l21,h21,hF⟩:=J hF;refine wc gn (fun m hm=>vV h21 m (hm.q 0)) ?_;rintro⟨a19,n5⟩;refine Ye (k:=0) (xs:=l21) rfl ?_;rintro rfl;refine X1 (cB (es:=([0,1,2,3]:YB (Int)).map (eI .i64)) fQ rfl (cz fQ z3 rfl rfl) rfl rfl) gn rfl fun b16=>?_;refine X1 (cB (es:=([4,7,6,5]:YB (Int)).map (eI .i64)) fQ rfl (cz fQ z3 rfl rfl) rfl rfl) gn rfl fun b17=>?_;refine X0 (ai.close (k:=0) rfl)<|X0 (ai.freeze (k:=0) rfl)<|X1 (cB (es:=[[cG b17]]) rA rfl (cz rA z51 rfl rfl) rfl rfl) gn rfl fun b18=>?_;refine Wo.dp (r:=bq) (L:=([[4,7,6,5]]:XE)) (es:=[[cG b17]]) (jg.cons (r:=bq) (z:=[4,7,6,5]) (g:=((some ⟨b17,0,none⟩),4)) (Lf.s (k:=1) rfl) jg.nil) ?_;intro r25;refine XR (cR rfl z54 rfl (cQ oC rfl rfl rfl)) rfl<|X1 (cB (es:=([4,5,6,7]:YB (Int)).map (eI .i64)) fQ rfl (cz fQ z3 rfl rfl) rfl rfl) gn rfl fun b19=>?_;refine XR (cR rfl z54 rfl (cQ oC rfl rfl rfl)) rfl<|X0 (ai.close (k:=4) rfl)<|X0 (ai.freeze (k:=4) rfl)<|X0 (ai.close (k:=2) rfl)<|X0 (ai.freeze (k:=2) rfl)<|X0 (ai.close (k:=0) rfl)<|X0 (ai.freeze (k:=0) rfl)<|X1 (cB (es:=[[cG b16,mW b18],[cG b19,.slice none 0 0]]) kJ rfl (cz kJ z54 rfl rfl) rfl rfl) gn rfl fun b30=>?_;refine Wo.dp (r:=al) (L:=([([0,1,2,3],[[4,7,6,5]]),([4,5,6,7],[])]:XB)) (es:=[[cG b16,mW b18],[cG b19,.slice none 0 0]]) (jg.cons (r:=al) (z:=([0,1,2,3],[[4,7,6,5]])) (g:=(((some ⟨b16,0,none⟩),4),((some ⟨b18,0,none⟩),1,[[cG b17]]))) (Lf.p (Lf.s (k:=5) rfl) (Lf.l (k:=3) (q:=2) rfl rfl rfl)) (jg.cons (r:=al) (z:=([4,5,6,7],[])) (g:=(((some ⟨b19,0,none⟩),4),(none,0,[]))) (Lf.p (Lf.s (k:=1) rfl) Lf.l0) jg.nil)) ?_;intro r19;refine XR (cR rfl tG rfl (cQ Du rfl rfl rfl)) rfl ?_;refine az ?_;cases hF;exact X2 (.cell (k:=9) fZ rfl rfl rfl .nil) fun m' hm=>⟨(a19,(some ⟨b30,0,none⟩),[[cG b16,mW b18],[cG b19,.slice none 0 0]],r19),rfl,(ai.trans (ai.close (k:=1) rfl) (ai.aq [7,1,0,13,14,15,16,17,18,19,20,21,10,11,12] rfl rfl)) m' hm⟩;clear h20;obtain⟨l11,l2⟩:=r9;rintro⟨a5,a10,e3,r4⟩;obtain⟨r10,h22,hF⟩:=J hF;refine wq (fun((l12,l3):XD×XB) ((a6,a8,e5,r5):XG×XG×XF ×(Nat->Prop))=>(.agg #[bZ a6 l12,bZ a8 l3],(dz a6 l12::mV a8 l3 e5::gQ al r5 l3 e5::xa b1 a0 l6 a1 l5 e1 al r0 (xa b2 a3 l10 a4 l7 e4 al r1 [pz a9 l14,dz a2 l8,mV a12 l1 e0,gQ al r3 l1 e0,dz a5 l11,mV a10 l2 e3,gQ al r4 l2 e3])))) r10 (fun m hm=>?_) ?_;clear hF;revert r10;intro r hF;refine aS (N:=9) (rs:=[.cell 0 34]) rfl Try.func16 rfl rfl rfl hm ?_;refine wz ?_;refine wa tG fun b40=>?_;refine az ?_;refine X1 (cB (es:=([0,0,2,0,4,0,4,2,2,2,0,2]:YB (Int)).map (eI .i64)) fQ rfl (cz fQ z3 rfl rfl) rfl rfl) gn rfl fun b41=>?_;obtain⟨l22,h23,hF⟩:=J hF;refine wc gn (fun m hm=>vV h23 m (hm.q 0)) ?_;rintro⟨a20,n7⟩;refine Ye (k:=0) (xs:=l22) rfl ?_;rintro rfl;refine X1 (cB (es:=([0,1,4,5]:YB (Int)).map (eI .i64)) fQ rfl (cz fQ z3 rfl rfl) rfl rfl) gn rfl fun b20=>?_;refine XR (cR rfl z54 rfl (cQ oC rfl rfl rfl)) rfl<|X1 (cB (es:=([1,2,3,4]:YB (Int)).map (eI .i64)) fQ rfl (cz fQ z3 rfl rfl) rfl rfl) gn rfl fun b21=>?_;refine XR (cR rfl z54 rfl (cQ oC rfl rfl rfl)) rfl<|X0 (ai.close (k:=1) rfl)<|X0 (ai.freeze (k:=1) rfl)<|X0 (ai.close (k:=0) rfl)<|X0 (ai.freeze (k:=0) rfl)<|X1 (cB (es:=[[cG b20,.slice none 0 0],[cG b21,.slice none 0 0]]) kJ rfl (cz kJ z54 rfl rfl) rfl rfl) gn rfl fun b31=>?_;refine Wo.dp (r:=al) (L:=([([0,1,4,5],[]),([1,2,3,4],[])]:XB)) (es:=[[cG b20,.slice none 0 0],[cG b21,.slice none 0 0]]) (jg.cons (r:=al) (z:=([0,1,4,5],[])) (g:=(((some ⟨b20,0,none⟩),4),(none,0,[]))) (Lf.p (Lf.s (k:=2) rfl) Lf.l0) (jg.cons (r:=al) (z:=([1,2,3,4],[])) (g:=(((some ⟨b21,0,none⟩),4),(none,0,[]))) (Lf.p (Lf.s (k:=1) rfl) Lf.l0) jg.nil)) ?_;intro r20;refine XR (cR rfl tG rfl (cQ Du rfl rfl rfl)) rfl ?_;refine az ?_;cases hF;exact X2 (.cell (k:=6) fZ rfl rfl rfl .nil) fun m' hm=>⟨(a20,(some ⟨b31,0,none⟩),[[cG b20,.slice none 0 0],[cG b21,.slice none 0 0]],r20),rfl,(ai.trans (ai.close (k:=1) rfl) (ai.aq [4,1,0,10,11,12,13,14,15,16,17,18,19,20,21,7,8,9] rfl rfl)) m' hm⟩;clear h22;obtain⟨l12,l3⟩:=r10;rintro⟨a6,a8,e5,r5⟩;refine wa tG fun b22=>?_;refine wa tG fun b23=>?_;refine wa tG fun b24=>?_;refine az ?_;obtain⟨h24,hF⟩:=du hF;refine Yg (k:=16) rfl (aW h24) ?_;rintro b3 t0 rfl h48;refine wz ?_;obtain⟨⟨l4,l13⟩,h25,hF⟩:=J hF;refine Wo.yb (r:=al) (q:=17) (j:=XO) (z:=(l4,l13)) (N:=fun g=>(.rd g.1.1 g.1.2 1 l4.length (l4.map (eI .i64))::.rd g.2.1 g.2.2.1 1 l13.length g.2.2.2::.gen (cE bq r3 l13 g.2.2.2)::vz b24 a6 l12 a8 l3::vz b23 a5 l11 a10 l2::lq b22 a2 l8 b3 l1::dz a6 l12::mV a8 l3 e5::gQ al r5 l3 e5::xa b1 a0 l6 a1 l5 e1 al r0 (xa b2 a3 l10 a4 l7 e4 al r1 [pz a9 l14,dz a2 l8,.arr b3 2 l1.length e0 t0,gQ al r3 l1 e0,dz a5 l11,mV a10 l2 e3,gQ al r4 l2 e3]))) rfl h25 (fun _=>rfl) ?_;rintro⟨⟨a7,c0⟩,⟨a13,c2,e6⟩⟩ h26;refine X8 (pV (k:=19) (j:=XO) (c:=1) (e:=[bQ a7 l4 c0,bQ a13 l13 c2]) (e':=[bQ a7 l4 c0,.slice none 0 0]) oc rfl rfl rfl h26 rfl)<|Wo.AS (r:=al) (q:=20) (j:=XO) (z:=(l4,[])) (g:=((a7,c0),(none,0,[]))) rfl (Lf.p (Lf.s (k:=0) rfl) Lf.l0) ?_;intro r11;refine az ?_;refine X1 (cB (es:=([4,5,6,7]:YB (Int)).map (eI .i64)) fQ rfl (cz fQ z3 rfl rfl) rfl rfl) gn rfl fun b0=>?_;refine X0 (ai.close (k:=0) rfl)<|X0 (ai.freeze (k:=0) rfl)<|X1 (cB (es:=[[cG b0]]) rA rfl (cz rA z51 rfl rfl) rfl rfl) gn rfl fun b4=>?_;refine Wo.dp (r:=bq) (L:=([[4,5,6,7]]:XE)) (es:=[[cG b0]]) (jg.cons (r:=bq) (z:=[4,5,6,7]) (g:=((some ⟨b0,0,none⟩),4)) (Lf.s (k:=1) rfl) jg.nil) ?_;intro r12;obtain⟨h3,hF⟩:=du hF;refine Yg (k:=25) rfl (aW h3) ?_;rintro b5 t1 rfl h49;refine X3 (uW kJ rfl rfl h3) gn rfl<|XR (aI (r:=ptr b5 (XO*2+1)) rfl (fK _ _)) rfl<|X0 (ai.close (k:=1) rfl)<|X0 (ai.freeze (k:=1) rfl) ?_;obtain⟨⟨l9,l16⟩,h27,hF⟩:=J hF;refine Wo.yb (r:=al) (q:=26) (j:=XO) (z:=(l9,l16)) (N:=fun g=>(.rd g.1.1 g.1.2 1 l9.length (l9.map (eI .i64))::.rd g.2.1 g.2.2.1 1 l16.length g.2.2.2::.gen (cE bq r4 l16 g.2.2.2)::.gen (cE bq r12 ([[4,5,6,7]]) ([[cG b0]]))::.rd (some ⟨b4,0,none⟩) 1 1 1 ([[cG b0]])::.rd (some ⟨b0,0,none⟩) 4 1 4 (([4,5,6,7]).map (eI .i64))::pD a7 c0 l4::km a13 c2 l13 e6::gQ bq r3 l13 e6::vz b24 a6 l12 a8 l3::lq b23 a5 l11 b5 l2::lq b22 a2 l8 b3 l1::dz a6 l12::mV a8 l3 e5::gQ al r5 l3 e5::xa b1 a0 l6 a1 l5 e1 al r0 (xa b2 a3 l10 a4 l7 e4 al r1 [pz a9 l14,dz a2 l8,.arr b3 2 l1.length (e0.set (XO) [bQ a7 l4 c0,.slice none 0 0]) t0,.gen (cE al r11 (l1.set (XO) (l4,[])) (e0.set (XO) [bQ a7 l4 c0,.slice none 0 0])),dz a5 l11,.arr b5 2 l2.length e3 t1,gQ al r4 l2 e3]))) rfl h27 (fun _=>rfl) ?_;rintro⟨⟨a11,c1⟩,⟨a15,c4,e7⟩⟩ h28;refine X8 (pV (k:=28) (j:=XO) (c:=1) (e:=[bQ a11 l9 c1,bQ a15 l16 c4]) (e':=[bQ a11 l9 c1,mW b4]) oc rfl rfl rfl h28 rfl)<|Wo.AS (r:=al) (q:=29) (j:=XO) (z:=(l9,[[4,5,6,7]])) (g:=((a11,c1),((some ⟨b4,0,none⟩),1,[[cG b0]]))) rfl (Lf.p (Lf.s (k:=0) rfl) (Lf.l (k:=4) (q:=3) rfl rfl rfl)) ?_;intro r21;refine az ?_;refine X1 (cB (es:=([1,2,3,5]:YB (Int)).map (eI .i64)) fQ rfl (cz fQ z3 rfl rfl) rfl rfl) gn rfl fun b25=>?_;obtain⟨h4,hF⟩:=du hF;refine Yg (k:=14) rfl (aW h4) ?_;rintro b26 t2 rfl h50;refine X3 (uW kJ rfl rfl h4) gn rfl<|XR (aI (r:=ptr b26 ((1:Int).toNat*2+0)) rfl (eY _ _)) rfl<|X0 (ai.close (k:=0) rfl)<|X0 (ai.freeze (k:=0) rfl) ?_;obtain⟨⟨l17,l15⟩,h29,hF⟩:=J hF;refine Wo.yb (r:=al) (q:=15) (j:=(1:Int).toNat) (z:=(l17,l15)) (N:=fun g=>(.rd g.1.1 g.1.2 1 l17.length (l17.map (eI .i64))::.rd g.2.1 g.2.2.1 1 l15.length g.2.2.2::.gen (cE bq r5 l15 g.2.2.2)::.rd (some ⟨b25,0,none⟩) 4 1 4 (([1,2,3,5]).map (eI .i64))::pD a11 c1 l9::km a15 c4 l16 e7::gQ bq r4 l16 e7::.gen (cE bq r12 ([[4,5,6,7]]) ([[cG b0]]))::.rd (some ⟨b4,0,none⟩) 1 1 1 ([[cG b0]])::.rd (some ⟨b0,0,none⟩) 4 1 4 (([4,5,6,7]).map (eI .i64))::pD a7 c0 l4::km a13 c2 l13 e6::gQ bq r3 l13 e6::lq b24 a6 l12 b26 l3::lq b23 a5 l11 b5 l2::lq b22 a2 l8 b3 l1::dz a6 l12::.arr b26 2 l3.length e5 t2::gQ al r5 l3 e5::xa b1 a0 l6 a1 l5 e1 al r0 (xa b2 a3 l10 a4 l7 e4 al r1 [pz a9 l14,dz a2 l8,.arr b3 2 l1.length (e0.set (XO) [bQ a7 l4 c0,.slice none 0 0]) t0,.gen (cE al r11 (l1.set (XO) (l4,[])) (e0.set (XO) [bQ a7 l4 c0,.slice none 0 0])),dz a5 l11,.arr b5 2 l2.length (e3.set (XO) [bQ a11 l9 c1,mW b4]) t1,.gen (cE al r21 (l2.set (XO) (l9,[[4,5,6,7]])) (e3.set (XO) [bQ a11 l9 c1,mW b4]))]))) rfl h29 (fun _=>rfl) ?_;rintro⟨⟨a21,c5⟩,⟨a14,c3,e8⟩⟩ h30;refine X8 (pV (k:=17) (j:=(1:Int).toNat) (c:=0) (e:=[bQ a21 l17 c5,bQ a14 l15 c3]) (e':=[cG b25,bQ a14 l15 c3]) mc rfl rfl rfl h30 rfl)<|Wo.AS (r:=al) (q:=18) (j:=(1:Int).toNat) (z:=([1,2,3,5],l15)) (g:=(((some ⟨b25,0,none⟩),4),(a14,c3,e8))) rfl (Lf.p (Lf.s (k:=3) rfl) (Lf.l (k:=1) (q:=2) rfl rfl rfl)) ?_;intro r26;refine az ?_;refine XR (cR rfl z44 rfl (cQ BV rfl rfl rfl)) rfl<|XR (cR rfl z44 rfl (cQ BV rfl rfl rfl)) rfl<|XR (cR rfl z44 rfl (cQ BV rfl rfl rfl)) rfl<|XR (cR rfl z44 rfl (cQ BV rfl rfl rfl)) rfl<|XR (cR rfl z44 rfl (cQ BV rfl rfl rfl)) rfl<|XR (cR rfl z44 rfl (cQ BV rfl rfl rfl)) rfl<|XR (cR rfl z44 rfl (cQ BV rfl rfl rfl)) rfl<|X1 (cB (es:=([(0,1,0,-1),(0,5,-1,0),(1,2,1,-1),(1,4,0,1),(2,3,1,-1),(3,4,1,-1),(4,5,0,-1)]:YB (XC)).map (eP (eI .i64) (eP (eI .i64) (eP (eI .i64) (eI .i64))))) QE rfl (cz QE z44 rfl rfl) rfl rfl) gn rfl fun b42=>?_;obtain⟨r22,h31,hF⟩:=J hF;refine wc gn (fun m hm=>Pu h31 m (hm.rd (k:=28) rfl (.sl _ _ _ _)) (hm.q 0)) ?_;rintro⟨⟩;refine wz ?_;refine XS ?_;obtain⟨v0,h32,hF⟩:=J hF;refine ct (fun v0 (_:YC)=>⟨.normal,[(1,ptr b1 0),(2,ptr b2 0),(4,bu r15),(5,bu r16),(6,bu r17),(10,.bool r22),(11,.bool v0)],(xa b1 a0 l6 a1 l5 e1 al r0 (xa b2 a3 l10 a4 l7 e4 al r1 []))⟩) v0 ?_ ?_;clear hF;revert v0;intro r hF;refine wz ?_;obtain⟨r27,h33,hF⟩:=J hF;refine wc gn (fun m hm=>uK h33 m (hm.rd (k:=21) rfl (.sl _ _ _ _)) (hm.rd (k:=22) rfl (.sl _ _ _ _)) (hm.dp (q:=23) rfl)) ?_;rintro⟨⟩;refine wz ?_;rcases aa hF with⟨h5,hF⟩|⟨h5,hF⟩;refine wz ?_;obtain⟨r28,h34,hF⟩:=J hF;refine wc (gg rfl rfl (fg h5)) (fun m hm=>uK h34 m (hm.rd (k:=25) rfl (.sl _ _ _ _)) (hm.rd (k:=26) rfl (.sl _ _ _ _)) (hm.dp (q:=27) rfl)) ?_;rintro⟨⟩;refine wz ?_;rcases aa hF with⟨h0,hF⟩|⟨h0,hF⟩;refine X3 (aJ (k:=16) fZ rfl rfl rfl) (gg rfl rfl (fg h0)) rfl ?_;obtain⟨r29,h35,hF⟩:=J hF;refine X0 (ai.close (k:=30) rfl) ?_;have hFx:=hF;refine Yj (k:=30) (q:=31) (L:=(l1.set (XO) (l4,[]))) rfl (.inl rfl) rfl ?_;generalize l1.length=nN;rintro rfl;replace hF:=hFx;clear hFx;refine wc (gg rfl rfl (fg h0)) (fun m hm=>uK h35 m (hm.rd (k:=29) rfl (.sl _ _ _ _)) (hm.rd (k:=30) rfl (.sl _ _ _ _)) (hm.dp (q:=31) rfl)) ?_;rintro⟨⟩;refine wz ?_;rcases aa hF with⟨h1,hF⟩|⟨h1,hF⟩;refine X3 (aJ (k:=15) fZ rfl rfl rfl) (gg rfl rfl (fg h1)) rfl ?_;obtain⟨r30,h36,hF⟩:=J hF;refine X0 (ai.close (k:=33) rfl) ?_;have hFx:=hF;refine Yj (k:=33) (q:=34) (L:=(l2.set (XO) (l9,[[4,5,6,7]]))) rfl (.inl rfl) rfl ?_;generalize l2.length=nN;rintro rfl;replace hF:=hFx;clear hFx;refine wc (gg rfl rfl (fg h1)) (fun m hm=>uK h36 m (hm.rd (k:=32) rfl (.sl _ _ _ _)) (hm.rd (k:=33) rfl (.sl _ _ _ _)) (hm.dp (q:=34) rfl)) ?_;rintro⟨⟩;refine wz ?_;rcases aa hF with⟨h2,hF⟩|⟨h2,hF⟩;refine X3 (aJ (k:=14) fZ rfl rfl rfl) (gg rfl rfl (fg h2)) rfl ?_;obtain⟨r31,h37,hF⟩:=J hF;refine X0 (ai.close (k:=18) rfl) ?_;have hFx:=hF;refine Yj (k:=18) (q:=19) (L:=(l3.set ((1:Int).toNat) ([1,2,3,5],l15))) rfl (.inl rfl) rfl ?_;generalize l3.length=nN;rintro rfl;replace hF:=hFx;clear hFx;refine wc (gg rfl rfl (fg h2)) (fun m hm=>uK h37 m (hm.rd (k:=17) rfl (.sl _ _ _ _)) (hm.rd (k:=18) rfl (.sl _ _ _ _)) (hm.dp (q:=19) rfl)) ?_;rintro⟨⟩;refine wz ?_;obtain rfl:=U9 hF;exact ae () (Yk 20 8);refine wz ?_;cases hF;exact ae () (Yk 20 8);refine wz ?_;cases hF;exact ae () (Yk 20 8);refine wz ?_;cases hF;exact ae () (Yk 20 8);refine wz ?_;cases hF;exact ae () (Yk 20 8);rintro⟨⟩;refine az ?_;rcases aa hF with⟨h38,hF⟩|⟨h38,hF⟩;refine wz ?_;rcases aa hF with⟨h39,hF⟩|⟨h39,hF⟩;refine wz ?_;rcases aa hF with⟨h40,hF⟩|⟨h40,hF⟩;refine wz ?_;rcases aa hF with⟨h41,hF⟩|⟨h41,hF⟩;refine wz ?_;rcases aa hF with⟨h6,hF⟩|⟨h6,hF⟩;refine wz ?_;obtain⟨r32,h42,hF⟩:=J hF;refine wc (gg rfl rfl (fg h6)) (fun m hm=>JH h42 m (hm.rd (k:=1) rfl (.sl _ _ _ _)) (hm.rd (k:=2) rfl (.sl _ _ _ _)) (hm.dp (q:=3) rfl)) ?_;rintro⟨⟩;refine wz ?_;rcases aa hF with⟨h7,hF⟩|⟨h7,hF⟩;refine wz ?_;obtain⟨r33,h43,hF⟩:=J hF;refine wc (gg rfl rfl (fg h7)) (fun m hm=>JH h43 m (hm.rd (k:=5) rfl (.sl _ _ _ _)) (hm.rd (k:=6) rfl (.sl _ _ _ _)) (hm.dp (q:=7) rfl)) ?_;rintro⟨⟩;refine wz ?_;rcases aa hF with⟨h8,hF⟩|⟨h8,hF⟩;refine wz ?_;obtain⟨r34,h44,hF⟩:=J hF;refine wc (gg rfl rfl (fg h8)) (fun m hm=>yE h44 m (hm.rd (k:=5) rfl (.sl _ _ _ _)) (hm.rd (k:=6) rfl (.sl _ _ _ _)) (hm.dp (q:=7) rfl)) ?_;rintro⟨⟩;refine wz ?_;rcases aa hF with⟨h9,hF⟩|⟨h9,hF⟩;refine wz ?_;obtain⟨r35,h45,hF⟩:=J hF;refine wc (gg rfl rfl (fg h9)) (fun m hm=>yE h45 m (hm.rd (k:=5) rfl (.sl _ _ _ _)) (hm.rd (k:=6) rfl (.sl _ _ _ _)) (hm.dp (q:=7) rfl)) ?_;rintro⟨⟩;refine wz ?_;rcases aa hF with⟨h10,hF⟩|⟨h10,hF⟩;refine wz ?_;obtain⟨r36,h46,hF⟩:=J hF;refine wc (gg rfl rfl (fg h10)) (fun m hm=>yE h46 m (hm.rd (k:=5) rfl (.sl _ _ _ _)) (hm.rd (k:=6) rfl (.sl _ _ _ _)) (hm.dp (q:=7) rfl)) ?_;rintro⟨⟩;refine wz ?_;rcases aa hF with⟨h11,hF⟩|⟨h11,hF⟩;refine wz ?_;obtain⟨r37,h47,hF⟩:=J hF;refine wc (gg rfl rfl (fg h11)) (fun m hm=>yE h47 m (hm.rd (k:=5) rfl (.sl _ _ _ _)) (hm.rd (k:=6) rfl (.sl _ _ _ _)) (hm.dp (q:=7) rfl)) ?_;rintro⟨⟩;refine az ?_;obtain rfl:=U9 hF;exact ar () [];refine az ?_;cases hF;exact ar () [];refine az ?_;cases hF;exact ar () [];refine az ?_;cases hF;exact ar () [];refine az ?_;cases hF;exact ar () [];refine az ?_;cases hF;exact ar () [];refine az ?_;cases hF;exact ar () [];refine az ?_;cases hF;exact ar () [];refine az ?_;cases hF;exact ar () [];refine az ?_;cases hF;exact ar () [];refine az ?_;cases hF;exact ar () []
def y5{n l1 x5 a2 c3 r}(hF:Ht n l1 x5=some r)(m)(h4:CU m a2 c3 l1):
 aK (Yt p q) 29 [bQ a2 l1 c3,bu x5] m (Yp m (.int .i64 r)):=by
 unfold Ht at hF;refine cw Try.func29 (X6 (XZ m) eL h4) ?_;refine az ?_;rcases aa hF with⟨h6,hF⟩|⟨h6,hF⟩;refine az ?_;cases hF;exact ar () [];refine az ?_;obtain⟨h7,hF⟩:=aD hF;refine XR (aL rfl rfl (cu _ _ h7)) rfl ?_;obtain⟨h8,hF⟩:=du hF;refine X4 (k:=0) rfl (aW h8) ?_;rintro b9 o10 rfl;refine wz ?_;obtain⟨x11,h12,hF⟩:=J hF;refine wz ?_;refine XR (lT rfl (lV (by rw[u5]; rfl) u3)) rfl ?_
 refine az ?_;cases hF;exact ar () []
def Ha{n x1 x2 l2 l3 x3 a0 c0 a1 c1 r}(hF:Ml n x1 x2 l2 l3 x3=some r)(m){H:XH}(hH:∀b,H b->b<m.next)(h14:CU m a0 c0 l2)(h15:∀b,mz a0=some b->¬H b)(h16:CU m a1 c1 l3)(h17:∀b,mz a1=some b->¬H b):
 aK (Yt p q) 12 [OQ x1 x2 a0 l2 c0 a1 l3 c1 x3] m (fun v m'=>∃x:XG×Nat×Nat×XG×Nat×Nat×XF ×(Nat->Prop),v=.agg #[.slice x.1 x.2.2.1 x.2.1,.slice x.2.2.2.1 x.2.2.2.2.2.1 x.2.2.2.2.1]/\Hp m m' [.rd x.1 x.2.1 2 x.2.2.1 (r.1.map (eP (eI .i64) (eI .i64))),.rd x.2.2.2.1 x.2.2.2.2.1 2 x.2.2.2.2.2.1 x.2.2.2.2.2.2.1,.gen (cE al x.2.2.2.2.2.2.2 r.2 x.2.2.2.2.2.2.1),eQ H]):=by
 unfold Ml at hF;refine cw Try.func12 (Hp.qG (l0:=[Mv a0 c0 l2]) (Hp.qG (l0:=[]) (Hp.uF m hH) eL h14 h15) (fH eL) h16 h17) ?_;refine XS<|XT<|wb fun b1=>?_;refine wa tG fun b2=>?_;refine XW<|XX<|XS<|Wk.draw (by kernel_rfl)<|XR (aI (r:=ptr b1 0) rfl (Jq _ _)) rfl<|XR (aJ (k:=1) Nd rfl rfl rfl) rfl<|XR (aL rfl rfl (qj _ _ (by decide))) rfl<|XR (lT rfl (lV (by rw[u5]; rfl) u3)) rfl<|XR (aL rfl rfl (bD _ _ _)) rfl<|XR (aI (r:=ptr b1 1) rfl (JI _ _)) rfl<|XR (aJ (k:=1) Nd rfl rfl rfl) rfl<|XR (aL rfl rfl (qj _ _ (by decide))) rfl<|XR (lT rfl (lV (by rw[u5]; rfl) u3)) rfl ?_
 refine XR (aL rfl rfl (bD _ _ _)) rfl<|XR (bE rfl) rfl<|XR (bE rfl) rfl<|XW<|XX<|XS ?_;obtain⟨r3,h18,hF⟩:=J hF;refine ct (fun(v0,v1) (_:YC)=>⟨.normal,[(1,ptr b1 0),(2,ptr b2 0),(3,bu v0),(4,bu v1)],(py b1 x1 x2 a0 l2 c0 a1 l3 c1 x3 [gA b2,eQ H])⟩) r3 ?_ ?_;clear hF;revert r3;intro r hF;refine XS<|XT<|XR (aI (r:=ptr b1 4) rfl (Dd _ _)) rfl<|XR (aJ (k:=1) T5 rfl rfl rfl) rfl<|XW<|XX ?_;rcases aa hF with⟨h0,hF⟩|⟨h0,hF⟩;refine X7 rfl h0<|XT<|XR (bE rfl) rfl<|XR (bE rfl) rfl<|XW ?_;cases hF;exact ae () [1,3,2,0,4];refine Yc rfl h0<|X9 ?_;cases hF;exact ae () [1,3,2,0,4];clear h18;obtain⟨v0,v1⟩:=r3;rintro⟨⟩;refine XX<|XS<|XT<|XR (cR rfl tG rfl (cQ Du rfl rfl rfl)) rfl<|wa tG fun b0=>?_;refine X8 (fe (k:=0) fZ rfl rfl rfl rfl rfl)<|XW<|XX<|XS<|XT<|XR (bE rfl) rfl<|XW<|XX<|XS<|XS<|XT<|XR (bE rfl) rfl<|XW<|XX<|XV ?_;obtain⟨l1,h1,hF⟩:=J hF;refine ct (fun l1 (a2:XG)=>⟨(.exit 0),(Aq b1 b2 v0 v1 b0 []),(py b1 x1 x2 a0 l2 c0 a1 l3 c1 x3 [gA b2,Lc b0 a2 l1,dz a2 l1,eQ H])⟩) l1 ?_ ?_;refine lw h1 none (fun(l10,v2,v4) a3=>⟨.normal,(Aq b1 b2 v0 v1 b0 [(6,bu v2),(7,bu v4)]),(py b1 x1 x2 a0 l2 c0 a1 l3 c1 x3 [gA b2,Lc b0 a3 l10,dz a3 l10,eQ H])⟩) (ai.trans (ai.nil 2 rfl) (ai.aq [2,3,4,5,1,0,6] rfl rfl)) ?_;clear hF h1;rintro⟨l10,v2,v4⟩ a3 r hF;unfold pW at hF;refine XS<|XS<|XT<|XR (aX rfl) rfl<|XR (aX rfl) rfl<|XR (aL rfl rfl (zA _ _ _)) rfl<|XW<|XX ?_;rcases aa hF with⟨h2,hF⟩|⟨h2,hF⟩;refine X7 rfl h2<|X9<|XX<|XS<|XV<|XS<|XT<|XR (bE rfl) rfl<|XW<|XX<|XS<|XS<|XT<|XR (bE rfl) rfl<|XW<|XX<|XV ?_;obtain⟨l7,h3,hF⟩:=J hF;refine ct (fun l7 (a4:XG)=>⟨(.exit 2),(Aq b1 b2 v0 v1 b0 [(6,bu v2),(7,bu v4)]),(py b1 x1 x2 a0 l2 c0 a1 l3 c1 x3 [gA b2,Lc b0 a4 l7,dz a4 l7,eQ H])⟩) l7 ?_ ?_;refine lo h3 a3 [0,1,2,3,4,5,6] (fun(l8,v5,v7) a5=>⟨.normal,(Aq b1 b2 v0 v1 b0 [(6,bu v2),(7,bu v4),(8,bu v5),(9,bu v7)]),(py b1 x1 x2 a0 l2 c0 a1 l3 c1 x3 [gA b2,Lc b0 a5 l8,dz a5 l8,eQ H])⟩) ?_;clear hF h3;rintro⟨l8,v5,v7⟩ a5 r hF;unfold pN at hF;refine XS<|XS<|XT<|XR (aX rfl) rfl<|XR (aX rfl) rfl<|XR (aL rfl rfl (zA _ _ _)) rfl<|XW<|XX ?_;rcases aa hF with⟨h4,hF⟩|⟨h4,hF⟩;refine X7 rfl h4<|X9<|XX<|XS<|XV<|XS<|XT<|XR (aI (r:=ptr b0 0) rfl (kW _ _)) rfl<|XR (aJ (k:=4) wQ rfl rfl rfl) rfl<|XR (aX rfl) rfl<|XR (aX rfl) rfl<|XR (cR rfl z26 rfl (cQ FT rfl rfl rfl)) rfl<|X1 (cB (es:=([(v5,v2)]:XD).map (eP (eI .i64) (eI .i64))) Ae rfl (cz Ae z26 rfl rfl) rfl rfl) gn rfl fun b11=>?_;obtain⟨h19,hF⟩:=aD hF;refine X1 (vy (k:=6) (k2:=0) (xs:=(l8:XD)) (ys:=([(v5,v2)]:XD)) (Gs (uV .i64) (uV .i64)) Ae ⟨_,Q7⟩ rfl rfl rfl (.arr _ _ _ _ _) h19) gn rfl fun a12=>?_;refine XR (aI (r:=ptr b0 0) rfl (kW _ _)) rfl<|X8 (fe (k:=5) wQ rfl rfl rfl rfl rfl)<|XW<|XX<|XT<|XR (aX rfl) rfl<|XR (aL rfl rfl (bD _ _ _)) rfl<|XR (aI (r:=ptr b1 3) rfl (Dn _ _)) rfl<|XR (aJ (k:=1) Jy rfl rfl rfl) rfl<|XR (aX rfl) rfl ?_;obtain⟨r13,h20,hF⟩:=J hF;refine wc gn (fun m hm=>y5 h20 m (hm.q 3)) ?_;rintro⟨⟩;refine XR (aL rfl rfl (cu _ _ (by decide))) rfl<|XR (aL rfl rfl (bD _ _ _)) rfl<|XR (bE rfl) rfl<|XW<|At.bn<|XX<|XT<|XR (aX rfl) rfl<|XR (aL rfl rfl (bD _ _ _)) rfl<|XR (bE rfl) rfl<|XW ?_
 cases hF;exact ae a12 (Yk 1 7);refine Yc rfl h4<|Wk.exit<|At.te ?_;cases hF;exact ae a5 (Yk 0 7);rintro a4;refine Yi<|XX<|XT<|XR (aX rfl) rfl<|XR (aL rfl rfl (bD _ _ _)) rfl<|XR (aI (r:=ptr b1 3) rfl (Dn _ _)) rfl<|XR (aJ (k:=0) Jy rfl rfl rfl) rfl<|XR (aX rfl) rfl<|XR (aL rfl rfl (bD _ _ _)) rfl ?_;obtain⟨r14,h21,hF⟩:=J hF;refine wc gn (fun m hm=>y5 h21 m (hm.q 2)) ?_;rintro⟨⟩;refine XR (aL rfl rfl (cu _ _ (by decide))) rfl<|XR (aL rfl rfl (bD _ _ _)) rfl<|XR (bE rfl) rfl<|XW<|At.bn<|XX<|XT<|XR (aX rfl) rfl<|XR (aL rfl rfl (bD _ _ _)) rfl<|XR (bE rfl) rfl<|XW ?_
 cases hF;exact ae a4 (Yk 0 7);refine Yc rfl h2<|Wk.exit<|At.te ?_;cases hF;exact ae a3 (Yk 0 7);rintro a2;refine Yi<|XX<|XS<|XS<|XT<|XR (aI (r:=ptr b1 4) rfl (Dd _ _)) rfl<|XR (aJ (k:=0) T5 rfl rfl rfl) rfl<|XW<|XX ?_;rcases aa hF with⟨h5,hF⟩|⟨h5,hF⟩;refine X7 rfl h5<|XS<|XT<|XR (aI (r:=ptr b0 1) rfl (fF _ _)) rfl<|XR (aJ (k:=4) nu rfl rfl rfl) rfl<|X1 (cB (es:=([0,1,2,3,7,11,15,14,13,12,8,4]:YB (Int)).map (eI .i64)) fQ rfl (cz fQ z3 rfl rfl) rfl rfl) gn rfl fun b3=>?_;refine X1 (cB (es:=([5,9,10,6]:YB (Int)).map (eI .i64)) fQ rfl (cz fQ z3 rfl rfl) rfl rfl) gn rfl fun b5=>?_;refine X0 (ai.close (k:=0) rfl)<|X0 (ai.freeze (k:=0) rfl)<|X1 (cB (es:=[[cG b5]]) rA rfl (cz rA z51 rfl rfl) rfl rfl) gn rfl fun b4=>?_;refine Wo.dp (r:=bq) (L:=([[5,9,10,6]]:XE)) (es:=[[cG b5]]) (jg.cons (r:=bq) (z:=[5,9,10,6]) (g:=((some ⟨b5,0,none⟩),4)) (Lf.s (k:=1) rfl) jg.nil) ?_;intro r15;refine XR (cR rfl z54 rfl (cQ oC rfl rfl rfl)) rfl<|X0 (ai.close (k:=3) rfl)<|X0 (ai.freeze (k:=3) rfl)<|X0 (ai.close (k:=1) rfl)<|X0 (ai.freeze (k:=1) rfl)<|X1 (cB (es:=[[Mo b3,mW b4]]) kJ rfl (cz kJ z54 rfl rfl) rfl rfl) gn rfl fun b12=>?_;refine Wo.dp (r:=al) (L:=([([0,1,2,3,7,11,15,14,13,12,8,4],[[5,9,10,6]])]:XB)) (es:=[[Mo b3,mW b4]]) (jg.cons (r:=al) (z:=([0,1,2,3,7,11,15,14,13,12,8,4],[[5,9,10,6]])) (g:=(((some ⟨b3,0,none⟩),12),((some ⟨b4,0,none⟩),1,[[cG b5]]))) (Lf.p (Lf.s (k:=4) rfl) (Lf.l (k:=2) (q:=1) rfl rfl rfl)) jg.nil) ?_;intro r16;obtain⟨h22,hF⟩:=aD hF;refine X0 (ai.nil (ps:=_) 2 rfl)<|X0 (ai.HT (r:=al))<|X1 (Bm (r:=al) (k:=1) (q:=0) (k2:=3) (q2:=2) (L:=([]:XB)) (L':=([([0,1,2,3,7,11,15,14,13,12,8,4],[[5,9,10,6]])]:XB)) kJ ⟨_,u32⟩ rfl rfl rfl rfl (.arr _ _ _ _ _) rfl rfl h22) gn rfl ?_;rintro⟨a13,r8⟩;refine XR (aI (r:=ptr b0 1) rfl (fF _ _)) rfl<|X8 (fe (k:=12) nu rfl rfl rfl rfl rfl)<|XW<|XX<|XS ?_;obtain⟨l4,h23,hF⟩:=J hF;refine ct (fun l4 ((a8,e3,r4):XG×XF ×(Nat->Prop))=>⟨.normal,[(2,ptr b2 0),(5,ptr b0 0)],(gA b2::xa b0 a2 l1 a8 l4 e3 al r4 [eQ H])⟩) l4 ?_ ?_;clear hF;revert l4;intro r hF;refine XS<|XT<|XR (aI (r:=ptr b1 2) rfl (Cs _ _)) rfl<|XR (aJ (k:=8) Jy rfl rfl rfl) rfl ?_;obtain⟨r17,h24,hF⟩:=J hF;refine wc gn (fun m hm=>y5 h24 m (hm.q 9)) ?_;rintro⟨⟩;refine XR (aL rfl rfl (cu _ _ (by decide))) rfl<|XR (aL rfl rfl (jv _ _ _)) rfl<|XW<|XX ?_
 rcases aa hF with⟨h6,hF⟩|⟨h6,hF⟩;refine X7 rfl h6<|XT<|XR (aI (r:=ptr b0 1) rfl (fF _ _)) rfl<|XR (aJ (k:=12) nu rfl rfl rfl) rfl<|X1 (cB (es:=([5,6,10,9]:YB (Int)).map (eI .i64)) fQ rfl (cz fQ z3 rfl rfl) rfl rfl) gn rfl fun b6=>?_;refine XR (cR rfl z54 rfl (cQ oC rfl rfl rfl)) rfl<|X0 (ai.close (k:=0) rfl)<|X0 (ai.freeze (k:=0) rfl)<|X1 (cB (es:=[[cG b6,.slice none 0 0]]) kJ rfl (cz kJ z54 rfl rfl) rfl rfl) gn rfl fun b13=>?_;refine Wo.dp (r:=al) (L:=([([5,6,10,9],[])]:XB)) (es:=[[cG b6,.slice none 0 0]]) (jg.cons (r:=al) (z:=([5,6,10,9],[])) (g:=(((some ⟨b6,0,none⟩),4),(none,0,[]))) (Lf.p (Lf.s (k:=1) rfl) Lf.l0) jg.nil) ?_;intro r18;obtain⟨h25,hF⟩:=aD hF;refine X1 (Bm (r:=al) (k:=4) (q:=3) (k2:=1) (q2:=0) (L:=(([]:XB)++([([0,1,2,3,7,11,15,14,13,12,8,4],[[5,9,10,6]])]:XB))) (L':=([([5,6,10,9],[])]:XB)) kJ ⟨_,u32⟩ rfl rfl rfl rfl (.arr _ _ _ _ _) rfl rfl h25) gn rfl ?_;rintro⟨a14,r9⟩;refine XR (aI (r:=ptr b0 1) rfl (fF _ _)) rfl<|X8 (fe (k:=15) nu rfl rfl rfl rfl rfl)<|XW ?_;cases hF;exact ae (a14,((([]:XF)++([[Mo b3,mW b4]]:XF))++([[cG b6,.slice none 0 0]]:XF)),r9) [14,15,16,4,3,17];refine Yc rfl h6<|X9 ?_;cases hF;exact ae (a13,(([]:XF)++([[Mo b3,mW b4]]:XF)),r8) [11,12,13,1,0,14];rintro⟨a8,e3,r4⟩;refine XX<|XS<|XT<|XR (aJ (k:=1) fZ rfl rfl rfl) rfl<|X8 (fe (k:=0) fZ rfl rfl rfl rfl rfl)<|XW<|XX<|Yb<|At.tr ?_;cases hF;exact X2 (.cell (k:=0) fZ rfl rfl rfl .nil) fun m' hm=>⟨(a2,l1.length,l1.length,a8,l4.length,l4.length,e3,r4),rfl,(ai.trans (ai.freeze (k:=2) rfl) (ai.trans (ai.freeze (k:=3) rfl) (ai.aq [2,3,4,5] rfl rfl))) m' hm⟩;refine Yc rfl h5<|X9<|XX<|XS<|XS<|XT<|XR (bE rfl) rfl<|XW<|XX<|XV ?_;obtain⟨l5,h7,hF⟩:=J hF;refine ct (fun l5 ((a9,e4,r5):XG×XF ×(Nat->Prop))=>⟨(.exit 4),[(2,ptr b2 0),(5,ptr b0 0)],(gA b2::xa b0 a2 l1 a9 l5 e4 al r5 [eQ H])⟩) l5 ?_ ?_;refine lw h7 ((none,[],(fun _=>False)):XG×XF ×(Nat->Prop)) (fun(l12,v3) ((a6,e1,r0):XG×XF ×(Nat->Prop))=>⟨.normal,(Aq b1 b2 v0 v1 b0 [(10,bu v3)]),(py b1 x1 x2 a0 l2 c0 a1 l3 c1 x3 (gA b2::xa b0 a2 l1 a6 l12 e1 al r0 [eQ H]))⟩) (ai.trans (ai.nil 2 rfl) (ai.trans (ai.HT (r:=al)) (ai.aq [2,3,4,5,6,7,1,0,8] rfl rfl))) ?_;clear hF h7;rintro⟨l12,v3⟩ ⟨a6,e1,r0⟩ r hF;unfold pU at hF;refine XS<|XS<|XT<|XR (aX rfl) rfl<|XR (aX rfl) rfl<|XR (aL rfl rfl (iJ _ _ _)) rfl<|XW<|XX ?_;rcases aa hF with⟨h8,hF⟩|⟨h8,hF⟩;refine X7 rfl h8<|X9<|XX<|XS<|XV<|XS<|XT<|XR (bE rfl) rfl<|XW<|XX<|XV ?_;obtain⟨l11,h9,hF⟩:=J hF;refine ct (fun l11 ((a10,e5,r6):XG×XF ×(Nat->Prop))=>⟨(.exit 6),(Aq b1 b2 v0 v1 b0 [(10,bu v3)]),(py b1 x1 x2 a0 l2 c0 a1 l3 c1 x3 (gA b2::xa b0 a2 l1 a10 l11 e5 al r6 [eQ H]))⟩) l11 ?_ ?_;refine lo h9 (a6,e1,r0) [0,1,2,3,4,5,6,7,8] (fun(l6,v6) ((a7,e0,r1):XG×XF ×(Nat->Prop))=>⟨.normal,(Aq b1 b2 v0 v1 b0 [(10,bu v3),(11,bu v6)]),(py b1 x1 x2 a0 l2 c0 a1 l3 c1 x3 (gA b2::xa b0 a2 l1 a7 l6 e0 al r1 [eQ H]))⟩) ?_;clear hF h9;rintro⟨l6,v6⟩ ⟨a7,e0,r1⟩ r hF;unfold nF at hF;refine XS<|XS<|XT<|XR (aX rfl) rfl<|XR (aX rfl) rfl<|XR (aL rfl rfl (iJ _ _ _)) rfl<|XW<|XX ?_;rcases aa hF with⟨h10,hF⟩|⟨h10,hF⟩;refine X7 rfl h10<|X9<|XX<|XS ?_;obtain⟨l9,h26,hF⟩:=J hF;refine ct (fun l9 ((a11,e6,r7):XG×XF ×(Nat->Prop))=>⟨.normal,(Aq b1 b2 v0 v1 b0 [(10,bu v3),(11,bu v6)]),(py b1 x1 x2 a0 l2 c0 a1 l3 c1 x3 (gA b2::xa b0 a2 l1 a11 l9 e6 al r7 [eQ H]))⟩) l9 ?_ ?_;clear hF;revert l9;intro r hF;refine XV<|XS<|XT<|XR (aX rfl) rfl<|XR (aX rfl) rfl<|XR (aL rfl rfl (bD _ _ _)) rfl<|XR (aL rfl rfl (dV _ _ _)) rfl<|XR (aX rfl) rfl ?_;obtain⟨y0,h27,hF⟩:=J hF;refine XR (aL rfl rfl ((bD _ _ _).trans (cI h27))) rfl<|XR (bE rfl) rfl<|XW<|XX<|XS<|XT<|XR (aX rfl) rfl<|XR (aX rfl) rfl<|XR (aL rfl rfl (bD _ _ _)) rfl<|XR (aL rfl rfl (bD _ _ _)) rfl<|XR (bE rfl) rfl<|XW<|XX<|XS<|XT<|XR (aI (r:=ptr b1 2) rfl (Cs _ _)) rfl<|XR (aJ (k:=0) Jy rfl rfl rfl) rfl<|XR (aX rfl) rfl ?_;refine XR (aX rfl) rfl<|XR (aL rfl rfl (dV _ _ _)) rfl<|XR (aX rfl) rfl<|XR (aL rfl rfl (bD _ _ _)) rfl ?_;obtain⟨r19,h28,hF⟩:=J hF;refine wc gn (fun m hm=>y5 h28 m (hm.q 1)) ?_;rintro⟨⟩;refine XR (aL rfl rfl (cu _ _ (by decide))) rfl<|XW<|XX<|XV<|XS<|XT<|XR (aL rfl rfl (jv _ _ _)) rfl<|XR (bE rfl) rfl<|XW<|XX ?_
 rcases aa hF with⟨h11,hF⟩|⟨h11,hF⟩;refine X7 rfl h11<|XT<|XR (aI (r:=ptr b0 1) rfl (fF _ _)) rfl<|XR (aJ (k:=4) nu rfl rfl rfl) rfl<|XR (aX rfl) rfl<|XR (aX rfl) rfl<|XR (aL rfl rfl (bD _ _ _)) rfl<|XR (aX rfl) rfl ?_;obtain⟨y1,h29,hF⟩:=J hF;refine XR (aL rfl rfl ((bD _ _ _).trans (cI h29))) rfl<|X1 (cB (es:=([y0,XN (y0+1),y1]:YB (Int)).map (eI .i64)) fQ rfl (cz fQ z3 rfl rfl) rfl rfl) gn rfl fun b7=>?_;refine XR (cR rfl z54 rfl (cQ oC rfl rfl rfl)) rfl<|XR (aX rfl) rfl<|XR (aX rfl) rfl ?_;obtain⟨y2,h30,hF⟩:=J hF;refine XR (aL rfl rfl ((bD _ _ _).trans (cI h30))) rfl<|XR (aX rfl) rfl<|X1 (cB (es:=([y0,y2,XN ((XN (y0+v0))+1)]:YB (Int)).map (eI .i64)) fQ rfl (cz fQ z3 rfl rfl) rfl rfl) gn rfl fun b8=>?_;refine XR (cR rfl z54 rfl (cQ oC rfl rfl rfl)) rfl<|X0 (ai.close (k:=1) rfl)<|X0 (ai.freeze (k:=1) rfl)<|X0 (ai.close (k:=0) rfl)<|X0 (ai.freeze (k:=0) rfl)<|X1 (cB (es:=[[Fe b7,.slice none 0 0],[Fe b8,.slice none 0 0]]) kJ rfl (cz kJ z54 rfl rfl) rfl rfl) gn rfl fun b14=>?_;refine Wo.dp (r:=al) (L:=([([y0,XN (y0+1),y1],[]),([y0,y2,XN ((XN (y0+v0))+1)],[])]:XB)) (es:=[[Fe b7,.slice none 0 0],[Fe b8,.slice none 0 0]]) (jg.cons (r:=al) (z:=([y0,XN (y0+1),y1],[])) (g:=(((some ⟨b7,0,none⟩),3),(none,0,[]))) (Lf.p (Lf.s (k:=2) rfl) Lf.l0) (jg.cons (r:=al) (z:=([y0,y2,XN ((XN (y0+v0))+1)],[])) (g:=(((some ⟨b8,0,none⟩),3),(none,0,[]))) (Lf.p (Lf.s (k:=1) rfl) Lf.l0) jg.nil)) ?_;intro r20;obtain⟨h31,hF⟩:=aD hF;refine X1 (Bm (r:=al) (k:=10) (q:=11) (k2:=1) (q2:=0) (L:=l6) (L':=([([y0,XN (y0+1),y1],[]),([y0,y2,XN ((XN (y0+v0))+1)],[])]:XB)) kJ ⟨_,u32⟩ rfl rfl rfl rfl (.arr _ _ _ _ _) rfl rfl h31) gn rfl ?_;rintro⟨a15,r10⟩;refine XR (aI (r:=ptr b0 1) rfl (fF _ _)) rfl<|X8 (fe (k:=8) nu rfl rfl rfl rfl rfl)<|XW<|At.bn<|At.bn ?_;cases hF;exact ae (a15,(e0++([[Fe b7,.slice none 0 0],[Fe b8,.slice none 0 0]]:XF)),r10) [4,5,6,7,8,9,10,11,12];refine Yc rfl h11<|XS<|XT<|XR (aL rfl rfl (jv _ _ _)) rfl<|XR (bE rfl) rfl<|XW<|XX ?_;rcases aa hF with⟨h12,hF⟩|⟨h12,hF⟩;refine X7 rfl h12<|XS<|XS<|XT<|XR (aI (r:=ptr b0 1) rfl (fF _ _)) rfl<|XR (aJ (k:=4) nu rfl rfl rfl) rfl<|XR (qv (k:=6) u32 rfl rfl (.inl rfl)) rfl<|XR (aL rfl rfl (tM _ _ _)) rfl<|XW<|XX ?_;rcases aa hF with⟨h13,hF⟩|⟨h13,hF⟩;refine X7 rfl h13<|Wk.exit<|At.te<|At.bx rfl<|Yi ?_;obtain rfl:=U9 hF;exact ae (a7,e0,r1) (Yk 0 9);refine Yc rfl h13<|X9<|XX<|XT<|XR (aI (r:=ptr b0 1) rfl (fF _ _)) rfl<|XR (aJ (k:=4) nu rfl rfl rfl) rfl<|XR (aX rfl) rfl ?_;obtain⟨y3,h32,hF⟩:=J hF;refine XR (aL rfl rfl ((bD _ _ _).trans (cI h32))) rfl<|XR (aX rfl) rfl<|XR (aX rfl) rfl<|XR (aX rfl) rfl<|XR (aL rfl rfl (bD _ _ _)) rfl<|X1 (cB (es:=([y3,XN ((XN (y0+v0))+1),y0,XN (y0+1)]:YB (Int)).map (eI .i64)) fQ rfl (cz fQ z3 rfl rfl) rfl rfl) gn rfl fun b9=>?_;refine XR (cR rfl z54 rfl (cQ oC rfl rfl rfl)) rfl<|X0 (ai.close (k:=0) rfl)<|X0 (ai.freeze (k:=0) rfl)<|X1 (cB (es:=[[cG b9,.slice none 0 0]]) kJ rfl (cz kJ z54 rfl rfl) rfl rfl) gn rfl fun b15=>?_;refine Wo.dp (r:=al) (L:=([([y3,XN ((XN (y0+v0))+1),y0,XN (y0+1)],[])]:XB)) (es:=[[cG b9,.slice none 0 0]]) (jg.cons (r:=al) (z:=([y3,XN ((XN (y0+v0))+1),y0,XN (y0+1)],[])) (g:=(((some ⟨b9,0,none⟩),4),(none,0,[]))) (Lf.p (Lf.s (k:=1) rfl) Lf.l0) jg.nil) ?_;intro r21;obtain⟨h33,hF⟩:=aD hF;refine X1 (Bm (r:=al) (k:=9) (q:=10) (k2:=1) (q2:=0) (L:=l6) (L':=([([y3,XN ((XN (y0+v0))+1),y0,XN (y0+1)],[])]:XB)) kJ ⟨_,u32⟩ rfl rfl rfl rfl (.arr _ _ _ _ _) rfl rfl h33) gn rfl ?_;rintro⟨a16,r11⟩;refine XR (aI (r:=ptr b0 1) rfl (fF _ _)) rfl<|X8 (fe (k:=7) nu rfl rfl rfl rfl rfl)<|XW<|At.bn<|At.bn ?_;cases hF;exact ae (a16,(e0++([[cG b9,.slice none 0 0]]:XF)),r11) [3,4,5,6,7,8,9,10,11];refine Yc rfl h12<|XT<|XR (aI (r:=ptr b0 1) rfl (fF _ _)) rfl<|XR (aJ (k:=4) nu rfl rfl rfl) rfl<|XR (aX rfl) rfl<|XR (aX rfl) rfl<|XR (aL rfl rfl (bD _ _ _)) rfl<|XR (aX rfl) rfl ?_;obtain⟨y4,h34,hF⟩:=J hF;refine XR (aL rfl rfl ((bD _ _ _).trans (cI h34))) rfl<|XR (aX rfl) rfl<|X1 (cB (es:=([y0,XN (y0+1),y4,XN ((XN (y0+v0))+1)]:YB (Int)).map (eI .i64)) fQ rfl (cz fQ z3 rfl rfl) rfl rfl) gn rfl fun b10=>?_;refine XR (cR rfl z54 rfl (cQ oC rfl rfl rfl)) rfl<|X0 (ai.close (k:=0) rfl)<|X0 (ai.freeze (k:=0) rfl)<|X1 (cB (es:=[[cG b10,.slice none 0 0]]) kJ rfl (cz kJ z54 rfl rfl) rfl rfl) gn rfl fun b16=>?_;refine Wo.dp (r:=al) (L:=([([y0,XN (y0+1),y4,XN ((XN (y0+v0))+1)],[])]:XB)) (es:=[[cG b10,.slice none 0 0]]) (jg.cons (r:=al) (z:=([y0,XN (y0+1),y4,XN ((XN (y0+v0))+1)],[])) (g:=(((some ⟨b10,0,none⟩),4),(none,0,[]))) (Lf.p (Lf.s (k:=1) rfl) Lf.l0) jg.nil) ?_;intro r22;obtain⟨h35,hF⟩:=aD hF;refine X1 (Bm (r:=al) (k:=9) (q:=10) (k2:=1) (q2:=0) (L:=l6) (L':=([([y0,XN (y0+1),y4,XN ((XN (y0+v0))+1)],[])]:XB)) kJ ⟨_,u32⟩ rfl rfl rfl rfl (.arr _ _ _ _ _) rfl rfl h35) gn rfl ?_;rintro⟨a17,r12⟩;refine XR (aI (r:=ptr b0 1) rfl (fF _ _)) rfl<|X8 (fe (k:=7) nu rfl rfl rfl rfl rfl)<|XW<|At.bn<|At.bn ?_;cases hF;exact ae (a17,(e0++([[cG b10,.slice none 0 0]]:XF)),r12) [3,4,5,6,7,8,9,10,11];rintro⟨a11,e6,r7⟩;refine XX<|XT<|XR (aX rfl) rfl<|XR (aL rfl rfl (bD _ _ _)) rfl<|XR (bE rfl) rfl<|XW ?_;cases hF;exact ae (a11,e6,r7) (Yk 0 9);refine Yc rfl h10<|Wk.exit<|At.te ?_;cases hF;exact ae (a7,e0,r1) (Yk 0 9);rintro⟨a10,e5,r6⟩;refine Yi<|At.bn<|XX<|XT<|XR (aX rfl) rfl<|XR (aL rfl rfl (bD _ _ _)) rfl<|XR (bE rfl) rfl<|XW ?_;cases hF;exact ae (a10,e5,r6) (Yk 0 9);refine Yc rfl h8<|Wk.exit<|At.te ?_;cases hF;exact ae (a6,e1,r0) (Yk 3 6);rintro⟨a9,e4,r5⟩;refine Yi<|XX<|XS<|XT<|XR (aJ (k:=1) fZ rfl rfl rfl) rfl<|X8 (fe (k:=0) fZ rfl rfl rfl rfl rfl)<|XW<|XX<|Yb ?_;cases hF;exact X2 (.cell (k:=0) fZ rfl rfl rfl .nil) fun m' hm=>⟨(a2,l1.length,l1.length,a9,l5.length,l5.length,e4,r5),rfl,(ai.trans (ai.freeze (k:=2) rfl) (ai.trans (ai.freeze (k:=3) rfl) (ai.aq [2,3,4,5] rfl rfl))) m' hm⟩
def Re{n x1 x2 l1 l2 x3 x4 x10 x11 x12 x13 x14 x15 x16 x17 x18 x19 x20 a0 c0 a1 c1 r}(hF:F7 n x1 x2 l1 l2 x3 x4 x10 x11 x12 x13 x14 x15 x16 x17 x18 x19 x20=some r)(m){H:XH}(hH:∀b,H b->b<m.next)(h0:CU m a0 c0 l1)(h1:∀b,mz a0=some b->¬H b)(h2:CU m a1 c1 l2)(h3:∀b,mz a1=some b->¬H b):
 aK (Yt p q) 7 [OQ x1 x2 a0 l1 c0 a1 l2 c1 x3,RL x4 x10 x11 x12 x13 x14 x15 x16 x17 x18 x19 x20] m (fun v m'=>∃x:XG×Nat×Nat×XG×Nat×Nat×XF ×(Nat->Prop)×XG×Nat×Nat×XG×Nat×Nat×XF ×(Nat->Prop)×XG×Nat×Nat×XG×Nat×Nat×XF ×(Nat->Prop),v=.agg #[.slice x.1 x.2.2.1 x.2.1,.slice x.2.2.2.1 x.2.2.2.2.2.1 x.2.2.2.2.1,.slice x.2.2.2.2.2.2.2.2.1 x.2.2.2.2.2.2.2.2.2.2.1 x.2.2.2.2.2.2.2.2.2.1,.slice x.2.2.2.2.2.2.2.2.2.2.2.1 x.2.2.2.2.2.2.2.2.2.2.2.2.2.1 x.2.2.2.2.2.2.2.2.2.2.2.2.1,.slice x.2.2.2.2.2.2.2.2.2.2.2.2.2.2.2.2.1 x.2.2.2.2.2.2.2.2.2.2.2.2.2.2.2.2.2.2.1 x.2.2.2.2.2.2.2.2.2.2.2.2.2.2.2.2.2.1,.slice x.2.2.2.2.2.2.2.2.2.2.2.2.2.2.2.2.2.2.2.1 x.2.2.2.2.2.2.2.2.2.2.2.2.2.2.2.2.2.2.2.2.2.1 x.2.2.2.2.2.2.2.2.2.2.2.2.2.2.2.2.2.2.2.2.1]/\Hp m m' [.rd x.1 x.2.1 2 x.2.2.1 (r.1.map (eP (eI .i64) (eI .i64))),.rd x.2.2.2.1 x.2.2.2.2.1 2 x.2.2.2.2.2.1 x.2.2.2.2.2.2.1,.gen (cE al x.2.2.2.2.2.2.2.1 r.2.1 x.2.2.2.2.2.2.1),.rd x.2.2.2.2.2.2.2.2.1 x.2.2.2.2.2.2.2.2.2.1 2 x.2.2.2.2.2.2.2.2.2.2.1 (r.2.2.1.map (eP (eI .i64) (eI .i64))),.rd x.2.2.2.2.2.2.2.2.2.2.2.1 x.2.2.2.2.2.2.2.2.2.2.2.2.1 2 x.2.2.2.2.2.2.2.2.2.2.2.2.2.1 x.2.2.2.2.2.2.2.2.2.2.2.2.2.2.1,.gen (cE al x.2.2.2.2.2.2.2.2.2.2.2.2.2.2.2.1 r.2.2.2.1 x.2.2.2.2.2.2.2.2.2.2.2.2.2.2.1),.rd x.2.2.2.2.2.2.2.2.2.2.2.2.2.2.2.2.1 x.2.2.2.2.2.2.2.2.2.2.2.2.2.2.2.2.2.1 2 x.2.2.2.2.2.2.2.2.2.2.2.2.2.2.2.2.2.2.1 (r.2.2.2.2.1.map (eP (eI .i64) (eI .i64))),.rd x.2.2.2.2.2.2.2.2.2.2.2.2.2.2.2.2.2.2.2.1 x.2.2.2.2.2.2.2.2.2.2.2.2.2.2.2.2.2.2.2.2.1 2 x.2.2.2.2.2.2.2.2.2.2.2.2.2.2.2.2.2.2.2.2.2.1 x.2.2.2.2.2.2.2.2.2.2.2.2.2.2.2.2.2.2.2.2.2.2.1,.gen (cE al x.2.2.2.2.2.2.2.2.2.2.2.2.2.2.2.2.2.2.2.2.2.2.2 r.2.2.2.2.2 x.2.2.2.2.2.2.2.2.2.2.2.2.2.2.2.2.2.2.2.2.2.2.1),eQ H]):=by
 unfold F7 at hF;refine cw Try.func7 (Hp.qG (l0:=[Mv a0 c0 l1]) (Hp.qG (l0:=[]) (Hp.uF m hH) eL h0 h1) (fH eL) h2 h3) ?_;refine wz ?_;refine wb fun b1=>?_;refine wb fun b0=>?_;refine wa z35 fun b2=>?_;refine az ?_;obtain⟨⟨l6,l3⟩,h4,hF⟩:=J hF;refine X1 (Be (N:=(fun x:XG×Nat×Nat×XG×Nat×Nat×XF ×(Nat->Prop)=>[.rd (x.1) (x.2.1) 2 (x.2.2.1) (l6.map (eP (eI .i64) (eI .i64))),.rd (x.2.2.2.1) (x.2.2.2.2.1) 2 (x.2.2.2.2.2.1) (x.2.2.2.2.2.2.1),.gen (cE al (x.2.2.2.2.2.2.2) l3 (x.2.2.2.2.2.2.1))])) rfl rfl (fun m hm=>Ha h4 m hm.dX (hm.q 4) (hm.no 4) (hm.q 3) (hm.no 3)) fun _=>rfl) gn rfl ?_;rintro⟨a2,c2,n0,a3,c3,n1,e0,r0⟩;refine Wo.zW (k:=0) rfl ?_;rintro rfl;refine Yj (k:=1) (q:=2) (L:=l3) rfl (.inr (.inl ⟨_,rfl⟩)) rfl ?_;rintro rfl;refine wa tG fun b3=>?_;refine az ?_;obtain⟨⟨l7,l4⟩,h5,hF⟩:=J hF;refine X1 (Be (N:=(fun x:XG×Nat×Nat×XG×Nat×Nat×XF ×(Nat->Prop)=>[.rd (x.1) (x.2.1) 2 (x.2.2.1) (l7.map (eP (eI .i64) (eI .i64))),.rd (x.2.2.2.1) (x.2.2.2.2.1) 2 (x.2.2.2.2.2.1) (x.2.2.2.2.2.2.1),.gen (cE al (x.2.2.2.2.2.2.2) l4 (x.2.2.2.2.2.2.1))])) rfl rfl (fun m hm=>H9 h5 m hm.dX (hm.q 1) (hm.no 1) (hm.q 2) (hm.no 2) (hm.dp (q:=3) rfl) (hm.iA (q:=3) rfl)) fun _=>rfl) gn rfl ?_;rintro⟨a4,c4,n45,a5,c5,n2,e1,r1⟩;refine Wo.zW (k:=0) rfl ?_;rintro rfl;refine Yj (k:=1) (q:=2) (L:=l4) rfl (.inr (.inl ⟨_,rfl⟩)) rfl ?_;rintro rfl;refine wa tG fun b4=>?_;refine wz ?_;refine XS<|Ya (prs:=[(0,5),(1,5)]) (by kernel_rfl)<|XU (aJ (k:=4) fZ rfl rfl rfl) rfl<|XU (aJ (k:=0) fZ rfl rfl rfl) rfl<|XU (OX (r:=ptr b0 6) rfl rfl (Rg Sf (i:=1) (by decide))) rfl<|XU (aJ (k:=9) Q8 rfl rfl rfl) rfl<|XU (aJ (k:=0) fZ rfl rfl rfl) rfl ?_
 obtain⟨⟨l8,l5⟩,h6,hF⟩:=J hF;refine Wn.c (RP (N:=(fun x:XG×Nat×Nat×XG×Nat×Nat×XF ×(Nat->Prop)=>[.rd (x.1) (x.2.1) 2 (x.2.2.1) (l8.map (eP (eI .i64) (eI .i64))),.rd (x.2.2.2.1) (x.2.2.2.2.1) 2 (x.2.2.2.2.2.1) (x.2.2.2.2.2.2.1),.gen (cE al (x.2.2.2.2.2.2.2) l5 (x.2.2.2.2.2.2.1))])) rfl rfl (fun m hm=>H9 h6 m hm.dX (hm.q 1) (hm.no 1) (hm.q 2) (hm.no 2) (hm.dp (q:=3) rfl) (hm.iA (q:=3) rfl)) fun _=>rfl) gn rfl ?_;rintro⟨a6,c6,n4,a7,c7,n5,e3,r3⟩;refine Wn.zW (k:=0) rfl ?_;rintro rfl;refine Wn.kj (k:=1) (q:=2) (L:=l5) rfl (.inr (.inl ⟨_,rfl⟩)) rfl ?_;rintro rfl;refine XU (cR rfl z35 rfl (cQ Tj rfl rfl rfl)) rfl<|Wn.o0 (fe (k:=11) PN rfl rfl rfl rfl rfl)<|X5 (fun m hm=>dQ.all rfl) ?_;refine az ?_;cases hF;exact X2 (.cell (k:=11) PN rfl rfl rfl .nil) fun m' hm=>⟨(a2,c2,l6.length,a3,c3,l3.length,e0,r0,a4,c4,l7.length,a5,c5,l4.length,e1,r1,a6,c6,l8.length,a7,c7,l5.length,e3,r3),rfl,(ai.aq [8,9,10,4,5,6,0,1,2,16] rfl rfl) m' hm⟩
def z24:bp (Yt p q).P 24=some (.agg #[.int .u8 ((0:Nat):Int),.int .u8 ((0:Nat):Int),.slice none 0 0,.slice none 0 0,.bool false]):=by kernel_rfl
def QN(n x1 x2 l2 l1 x3 x4 x10 x11 x12 x13 x14 x15 x16 x17 x18 x19 x20 a1 c1 a0 c0 r)(hF:F4 n x1 x2 l2 l1 x3 x4 x10 x11 x12 x13 x14 x15 x16 x17 x18 x19 x20=some r)(m)(h5:CU m a1 c1 l2)(h6:CU m a0 c0 l1):
 aK (Yt (some nC) (some Gp)) 4 [OQ x1 x2 a1 l2 c1 a0 l1 c0 x3,RL x4 x10 x11 x12 x13 x14 x15 x16 x17 x18 x19 x20] m (Yp m (.bool r)):=by
 unfold F4 at hF;refine cw Try.func4 (X6 (X6 (XZ m) eL h5) (fH eL) h6) ?_;refine wz ?_;refine wb fun b0=>?_;refine wb fun b2=>?_;refine az ?_;obtain⟨r7,h7,hF⟩:=J hF;refine wc gn (fun m hm=>RX h7 m) ?_;rintro⟨⟩;refine wz ?_;rcases aa hF with⟨h8,hF⟩|⟨h8,hF⟩;refine az ?_;cases hF;exact ar () [];refine az ?_;obtain⟨⟨l7,l4,l8,l5,l9,l6⟩,h9,hF⟩:=J hF;refine X1 (Be (N:=(fun x:XG×Nat×Nat×XG×Nat×Nat×XF ×(Nat->Prop)×XG×Nat×Nat×XG×Nat×Nat×XF ×(Nat->Prop)×XG×Nat×Nat×XG×Nat×Nat×XF ×(Nat->Prop)=>[.rd (x.1) (x.2.1) 2 (x.2.2.1) (l7.map (eP (eI .i64) (eI .i64))),.rd (x.2.2.2.1) (x.2.2.2.2.1) 2 (x.2.2.2.2.2.1) (x.2.2.2.2.2.2.1),.gen (cE al (x.2.2.2.2.2.2.2.1) l4 (x.2.2.2.2.2.2.1)),.rd (x.2.2.2.2.2.2.2.2.1) (x.2.2.2.2.2.2.2.2.2.1) 2 (x.2.2.2.2.2.2.2.2.2.2.1) (l8.map (eP (eI .i64) (eI .i64))),.rd (x.2.2.2.2.2.2.2.2.2.2.2.1) (x.2.2.2.2.2.2.2.2.2.2.2.2.1) 2 (x.2.2.2.2.2.2.2.2.2.2.2.2.2.1) (x.2.2.2.2.2.2.2.2.2.2.2.2.2.2.1),.gen (cE al (x.2.2.2.2.2.2.2.2.2.2.2.2.2.2.2.1) l5 (x.2.2.2.2.2.2.2.2.2.2.2.2.2.2.1)),.rd (x.2.2.2.2.2.2.2.2.2.2.2.2.2.2.2.2.1) (x.2.2.2.2.2.2.2.2.2.2.2.2.2.2.2.2.2.1) 2 (x.2.2.2.2.2.2.2.2.2.2.2.2.2.2.2.2.2.2.1) (l9.map (eP (eI .i64) (eI .i64))),.rd (x.2.2.2.2.2.2.2.2.2.2.2.2.2.2.2.2.2.2.2.1) (x.2.2.2.2.2.2.2.2.2.2.2.2.2.2.2.2.2.2.2.2.1) 2 (x.2.2.2.2.2.2.2.2.2.2.2.2.2.2.2.2.2.2.2.2.2.1) (x.2.2.2.2.2.2.2.2.2.2.2.2.2.2.2.2.2.2.2.2.2.2.1),.gen (cE al (x.2.2.2.2.2.2.2.2.2.2.2.2.2.2.2.2.2.2.2.2.2.2.2) l6 (x.2.2.2.2.2.2.2.2.2.2.2.2.2.2.2.2.2.2.2.2.2.2.1))])) rfl rfl (fun m hm=>Re h9 m hm.dX (hm.q 3) (hm.no 3) (hm.q 2) (hm.no 2)) fun _=>rfl) gn rfl ?_;rintro⟨a2,c2,n0,a3,c3,n1,e0,r0,a4,c4,n2,a5,c5,n4,e1,r1,a6,c6,n5,a7,c7,n7,e3,r3⟩;refine Wo.zW (k:=0) rfl ?_;rintro rfl;refine Yj (k:=1) (q:=2) (L:=l4) rfl (.inr (.inl ⟨_,rfl⟩)) rfl ?_;rintro rfl;refine Wo.zW (k:=3) rfl ?_;rintro rfl;refine Yj (k:=4) (q:=5) (L:=l5) rfl (.inr (.inl ⟨_,rfl⟩)) rfl ?_;rintro rfl;refine Wo.zW (k:=6) rfl ?_;rintro rfl;refine Yj (k:=7) (q:=8) (L:=l6) rfl (.inr (.inl ⟨_,rfl⟩)) rfl ?_;rintro rfl;refine wz ?_;refine XV ?_;obtain⟨r5,h2,hF⟩:=J hF;refine ct (fun(r:YC⊕YC) (g:YC)=>match r,g with|.inl _,_=>⟨.ret,[(4,.bool false)],[]⟩|.inr _,_=>⟨(.exit 0),[(2,ptr b0 0)],(py b0 x1 x2 a1 l2 c1 a0 l1 c0 x3 [])⟩) r5 ?_ ?_
 refine lo h2 () [10,12,11,0,1,2,3,4,5,6,7,8] (fun v0 _=>⟨.normal,[(2,ptr b0 0),(23,Uh a2 l7 c2 a3 l4 c3 a4 l8 c4 a5 l5 c5 a6 l9 c6 a7 l6 c7),(24,bu v0)],(py b0 x1 x2 a1 l2 c1 a0 l1 c0 x3 (Tu a2 c2 l7 a3 c3 l4 e0 al r0 a4 c4 l8 a5 c5 l5 e1 r1 (MZ a6 c6 l9 a7 c7 l6 e3 al r3 [])))⟩) ?_;clear hF h2;rintro v0 ⟨⟩ r hF;unfold Gd at hF;refine wz ?_;refine XS ?_;rcases aa hF with⟨h10,hF⟩|⟨h10,hF⟩;refine az ?_;obtain⟨h11,hF⟩:=aD hF;obtain⟨⟨l12,l13⟩,h0,hF⟩:=J hF;refine X1 (Hz (α:=XG×Nat×XG×Nat×XF ×(Nat->Prop)) (V:=fun g=>match g with |(a9,c8,a10,c9,e4,r4)=>.agg #[bQ a9 l12 c8,bQ a10 l13 c9]) (N:=fun g=>match g with |(a9,c8,a10,c9,e4,r4)=>(MZ a9 c8 l12 a10 c9 l13 e4 al r4 [])++(py b0 x1 x2 a1 l2 c1 a0 l1 c0 x3 (Tu a2 c2 l7 a3 c3 l4 e0 al r0 a4 c4 l8 a5 c5 l5 e1 r1 (MZ a6 c6 l9 a7 c7 l6 e3 al r3 [])))) rfl rfl (fun m hm=>?_)) gn rfl ?_
 have hj:=qS h11;obtain⟨j,h4⟩:∃j:Nat,(v0:Int)=j:=⟨_,(Ws hj.1).symm⟩;rw[h4] at h0 hj ⊢;rw[VH] at h0 hj;replace hj:=hj.2;clear hF h4
 match j,hj,h0 with
 | 0,_,h0=>cases h0; exact⟨(a2,c2,a3,c3,e0,r0),zi MM (i:=0) (by decide) (qt fZ rfl),(Hp.dup (Hp.dup (ai.ID (q:=5) rfl _ hm) (k:=5) rfl) (k:=5) rfl)⟩
 | 1,_,h0=>cases h0; exact⟨(a4,c4,a5,c5,e1,r1),zi MM (i:=1) (by decide) (qt fZ rfl),(Hp.dup (Hp.dup (ai.ID (q:=8) rfl _ hm) (k:=8) rfl) (k:=8) rfl)⟩
 | 2,_,h0=>cases h0; exact⟨(a6,c6,a7,c7,e3,r3),zi MM (i:=2) (by decide) (qt fZ rfl),(Hp.dup (Hp.dup (ai.ID (q:=11) rfl _ hm) (k:=11) rfl) (k:=11) rfl)⟩
 | _+3,hj,_=>exact Vr hj (by omega)
 rintro⟨a9,c8,a10,c9,e4,r4⟩;refine wa tG fun b3=>?_;refine az ?_;obtain⟨⟨r8,r9,r10,r11,r12⟩,h12,hF⟩:=J hF;refine wc gn (fun m hm=>Cw n l12 l13 a9 c8 a10 c9 r4 e4 _ h12 m (hm.q 1) (hm.q 2) (hm.dp (q:=3) rfl)) ?_;rintro⟨⟩;refine wz ?_;refine XS ?_;obtain⟨v1,h13,hF⟩:=J hF;refine ct (fun v1 (_:YC)=>⟨.normal,[(2,ptr b0 0),(23,Uh a2 l7 c2 a3 l4 c3 a4 l8 c4 a5 l5 c5 a6 l9 c6 a7 l6 c7),(24,bu v0),(56,.bool v1)],(py b0 x1 x2 a1 l2 c1 a0 l1 c0 x3 (Tu a2 c2 l7 a3 c3 l4 e0 al r0 a4 c4 l8 a5 c5 l5 e1 r1 (MZ a6 c6 l9 a7 c7 l6 e3 al r3 [])))⟩) v1 ?_ ?_;clear hF;revert v1;intro r hF;refine wz ?_;rcases aa hF with⟨h14,hF⟩|⟨h14,hF⟩;refine wz ?_;rcases aa hF with⟨h15,hF⟩|⟨h15,hF⟩;refine wz ?_;cases hF;exact ae () (Yk 4 12);refine wz ?_;rcases aa hF with⟨h16,hF⟩|⟨h16,hF⟩;refine wz ?_;cases hF;exact ae () (Yk 4 12);refine wz ?_;cases hF;exact ae () (Yk 4 12);refine wz ?_;cases hF;exact ae () (Yk 4 12);rintro⟨⟩;refine XX ?_;rcases aa hF with⟨h17,hF⟩|⟨h17,hF⟩;refine az ?_;cases hF;exact ae () [];refine az ?_;cases hF;exact ae () (Yk 0 12);refine wz ?_;cases hF;exact ae () [0,1,2];rcases r5 with _|_;rintro⟨⟩;refine wz ?_;cases hF;exact ar () [];rintro⟨⟩;refine az ?_;refine wa z24 fun b1=>?_;refine ja ?_;obtain⟨l3,h18,hF⟩:=J hF;refine wc gn (fun m hm=>Qb n l2 a1 c1 _ h18 m (hm.q 2)) ?_;rintro⟨a8,n8⟩;refine Ye (k:=0) (xs:=l3) rfl ?_;rintro rfl;refine az ?_;refine XV ?_;obtain⟨l10,h3,hF⟩:=J hF;refine ct (fun l10 (_:YC)=>⟨(.exit 2),[(2,ptr b0 0),(12,ptr b1 0)],(py b0 x1 x2 a1 l2 c1 a0 l1 c0 x3 [Qe b1 x1 x2 a8 l3 a0 l1 c0,.sl a8 1 l3.length (l10.map (eN .u8))])⟩) l10 ?_ ?_;refine lo h3 () [2,3,4,1,0] (fun(l15,v2) _=>⟨.normal,[(2,ptr b0 0),(12,ptr b1 0),(66,eD l3),(67,bu v2)],(py b0 x1 x2 a1 l2 c1 a0 l1 c0 x3 [Qe b1 x1 x2 a8 l3 a0 l1 c0,.sl a8 1 l3.length (l15.map (eN .u8))])⟩) ?_;clear hF h3;rintro⟨l15,v2⟩ ⟨⟩ r hF;unfold CC at hF;refine wz ?_;refine XS ?_;rcases aa hF with⟨h19,hF⟩|⟨h19,hF⟩;refine wz ?_;refine XS ?_;obtain⟨l11,h20,hF⟩:=J hF;refine ct (fun l11 (_:YC)=>⟨.normal,[(2,ptr b0 0),(12,ptr b1 0),(66,eD l3),(67,bu v2)],(py b0 x1 x2 a1 l2 c1 a0 l1 c0 x3 [Qe b1 x1 x2 a8 l3 a0 l1 c0,.sl a8 1 l3.length (l11.map (eN .u8))])⟩) l11 ?_ ?_;clear hF;revert l11;intro r hF;refine az ?_;obtain⟨h21,hF⟩:=du hF;refine Yg (k:=4) rfl (aW h21) ?_;rintro b4 t0 rfl h29;refine wz ?_;obtain⟨x21,h22,hF⟩:=J hF;refine wz ?_;refine XR (aL rfl rfl (qj _ _ (by decide))) rfl ?_
 refine wz ?_;rcases aa hF with⟨h23,hF⟩|⟨h23,hF⟩;refine wz ?_;obtain⟨h30,hF⟩:=du hF;refine wz ?_;refine X8 (tw (k:=4) (x1:=x21) (x2:=2) Nd rfl rfl rfl h22 rfl) ?_;refine wz ?_;cases hF;exact aT () (ai.trans (ai.close (k:=4) rfl) (ai.aq [0,1,2,3,4] rfl rfl));refine wz ?_;obtain rfl:=U9 hF;exact aT () (ai.trans (ai.close (k:=4) rfl) (ai.aq [0,1,2,3,4] rfl rfl));rintro⟨⟩;refine az ?_;cases hF;exact ae () (Yk 0 5);refine wz ?_;cases hF;exact ae () (Yk 0 5);rintro⟨⟩;refine wz ?_;refine XS<|XT<|XR (aJ (k:=3) SJ rfl rfl rfl) rfl ?_;obtain⟨⟨l16,l14⟩,h24,hF⟩:=J hF;refine X0 (ai.freeze (k:=4) rfl) ?_;have hFx:=hF;refine Wo.zW (k:=4) (xs:=(l10:YB (Nat))) rfl ?_;generalize l3.length=nN;rintro rfl;replace hF:=hFx;clear hFx;refine X1 (Be (N:=(fun x:XG×Nat×Nat×XG×Nat×Nat×XF ×(Nat->Prop)=>[.rd (x.1) (x.2.1) 2 (x.2.2.1) (l16.map (eP (eI .i64) (eI .i64))),.rd (x.2.2.2.1) (x.2.2.2.2.1) 2 (x.2.2.2.2.2.1) (x.2.2.2.2.2.2.1),.gen (cE al (x.2.2.2.2.2.2.2) l14 (x.2.2.2.2.2.2.1))])) rfl rfl (fun m hm=>Ha h24 m hm.dX (hm.q 4) (hm.no 4) (hm.q 2) (hm.no 2)) fun _=>rfl) gn rfl ?_;rintro⟨a11,c10,n9,a12,c11,n10,e5,r6⟩;refine Wo.zW (k:=0) rfl ?_;rintro rfl;refine Yj (k:=1) (q:=2) (L:=l14) rfl (.inr (.inl ⟨_,rfl⟩)) rfl ?_;rintro rfl;obtain⟨⟨r13,r14,r15,r16,r17⟩,h25,hF⟩:=J hF;refine wc gn (fun m hm=>Cw n l16 l14 a11 c10 a12 c11 r6 e5 _ h25 m (hm.q 0) (hm.q 1) (hm.dp (q:=2) rfl)) ?_;rintro⟨⟩;refine az ?_;rcases aa hF with⟨h26,hF⟩|⟨h26,hF⟩;refine wz ?_;rcases aa hF with⟨h27,hF⟩|⟨h27,hF⟩;refine wz ?_;rcases aa hF with⟨h1,hF⟩|⟨h1,hF⟩;refine wz ?_;refine X3 (aL rfl rfl (qj _ _ (by decide))) (gg rfl rfl (fg h1)) rfl<|X3 (lT rfl (lV (by rw[u5]; rfl) u3)) (gg rfl rfl (fg h1)) rfl ?_
 refine wz ?_;refine X3 (aL rfl rfl (qj _ _ (by decide))) (gg rfl rfl (fg h1)) rfl<|X3 (lT rfl (lV (by rw[u5]; rfl) u3)) (gg rfl rfl (fg h1)) rfl<|X3 (aL rfl rfl (bD _ _ _)) (gg rfl rfl (fg h1)) rfl ?_
 obtain⟨y0,h28,hF⟩:=J hF;refine X3 (aL rfl rfl ((dV _ _ _).trans (cI h28))) (gg rfl rfl (fg h1)) rfl ?_;refine az ?_;cases hF;exact ar () [];refine az ?_;cases hF;exact ar () [];refine az ?_;cases hF;exact ar () [];refine az ?_;cases hF;exact ar () []
end
end Go.Proofs.Ytmndpgfbkicndaa
namespace Jd
abbrev P2:=Rat×Rat
def tn(a b c:P2):Rat:=(b.1-a.1)*(c.2-a.2)-(b.2-a.2)*(c.1-a.1)
def af(α β γ:Rat)(x:P2):Rat:=α*x.1+β*x.2+γ
def Sep(a b p q:P2):Prop:=∃α β γ,0<af α β γ a/\0<af α β γ b/\af α β γ p<0/\af α β γ q<0
def Sep.ab{a b p q:P2}(h:Sep a b p q):Sep b a p q:=let⟨α,β,γ,h1,h2,h3,h4⟩:=h;⟨α,β,γ,h2,h1,h3,h4⟩
def Sep.pq{a b p q:P2}(h:Sep a b p q):Sep a b q p:=let⟨α,β,γ,h1,h2,h3,h4⟩:=h;⟨α,β,γ,h1,h2,h4,h3⟩
def cb{x y:Rat}(hx:0<=x)(hy:0<=y):0<=x*y:=Rat.mul_nonneg hx hy
def bt{x y:Rat}(hx:0<x)(hy:0<y):0<x*y:=Rat.mul_pos hx hy
def dC{x y:Rat}(hx:0<=x)(hy:y<=0):x*y<=0:=by
 have:=cb hx (show(0:Rat)<=-y by grind)
 grind
def ga{x y:Rat}(hx:0<x)(hy:y<0):x*y<0:=by
 have:=bt hx (show(0:Rat) < -y by grind)
 grind
def kA(a b p:P2):tn b a p = -tn a b p:=by unfold tn; grind
def we(a b p:P2):Int:=if a.2<=p.2/\p.2<b.2/\0<tn a b p then 1 else if b.2<=p.2/\p.2<a.2/\tn a b p<0 then -1 else 0
def kK{a b p:P2}(h1:a.2<=p.2)(h2:p.2<b.2):we a b p=if 0<tn a b p then 1 else 0:=by
 unfold we
 by_cases h:0<tn a b p
 rw[U5 ⟨h1,h2,h⟩,U5 h]
 rw[U3 (fun e=>h e.2.2),U3 (fun e=>by grind),U3 h]
def fB{a b p:P2}(h1:¬(a.2<=p.2/\p.2<b.2))(h2:¬(b.2<=p.2/\p.2<a.2)):we a b p=0:=by
 unfold we;rw[U3 (fun e=>h1 ⟨e.1,e.2.1⟩),U3 (fun e=>h2 ⟨e.1,e.2.1⟩)]
def lW(a b p:P2):we b a p = -we a b p:=by
 have h:=kA a b p;unfold we
 by_cases h1:a.2<=p.2/\p.2<b.2/\0<tn a b p
 rw[U5 h1,U3 (fun e=>by grind),U5 ⟨h1.1,h1.2.1,by grind⟩]
 by_cases h2:b.2<=p.2/\p.2<a.2/\tn a b p<0
 rw[U3 h1,U5 h2,U5 ⟨h2.1,h2.2.1,by grind⟩]; rfl
 rw[U3 h1,U3 h2,U3 (fun e=>h2 ⟨e.1,e.2.1,by grind⟩),U3 (fun e=>h1 ⟨e.1,e.2.1,by grind⟩)]; rfl
def fz(p q v:P2):Int:=if p.2<v.2/\v.2<=q.2/\tn p q v<0 then 1 else 0
def kO{p q v:P2}(h:¬(p.2<v.2/\v.2<=q.2)):fz p q v=0:=U3 fun e=>h ⟨e.1,e.2.1⟩
def wm{p q v:P2}(h1:p.2<v.2)(h2:v.2<=q.2):fz p q v=if tn p q v<0 then 1 else 0:=by
 unfold fz
 by_cases h:tn p q v<0
 rw[U5 ⟨h1,h2,h⟩,U5 h]
 rw[U3 (fun e=>h e.2.2),U3 h]
section
variable{a b p q:P2}
def OD(α β γ:Rat):tn p q b*af α β γ a-tn p q a*af α β γ b=tn a b p*af α β γ q-tn a b q*af α β γ p:=by
 unfold tn af; grind
def KD(h:Sep a b p q)(h1:0<=tn p q b)(h2:tn p q a<=0)(h3:0<=tn a b p)(h4:tn a b q<=0)(h5:0<tn a b p\/tn a b q<0\/0<tn p q b\/tn p q a<0):False:=by
 obtain⟨α,β,γ,g1,g2,g3,g4⟩:=h;have e:=OD (a:=a) (b:=b) (p:=p) (q:=q) α β γ;generalize af α β γ a=A at *;generalize af α β γ b=B at *;generalize af α β γ p=C at *;generalize af α β γ q=D at *;generalize tn p q b=Tb at *;generalize tn p q a=Ta at *;generalize tn a b p=Up at *;generalize tn a b q=Uq at *;have k1:0<=Tb*A:=cb h1 (by grind)
 have k2:0<=(-Ta)*B:=cb (by grind) (by grind)
 have k3:0<=Up*(-D):=cb h3 (by grind)
 have k4:0<=(-Uq)*(-C):=cb (by grind) (by grind)
 rcases h5 with h|h|h|h
 have:0<Up*(-D):=bt h (by grind)
 grind
 have:0<(-Uq)*(-C):=bt (by grind) (by grind)
 grind
 have:0<Tb*A:=bt h g1
 grind
 have:0<(-Ta)*B:=bt (by grind) g2
 grind
def D3(h:Sep a b p q)(h1:tn p q b<=0)(h2:0<=tn p q a)(h3:tn a b p<=0)(h4:0<=tn a b q)(h5:tn a b p<0\/0<tn a b q\/tn p q b<0\/0<tn p q a):False:=by
 have e1:=kA a b p;have e2:=kA a b q;exact KD h.ab (a:=b) (b:=a) h2 h1 (by grind) (by grind) (by grind)
def i1:(p.2-a.2)*tn p q b+(b.2-p.2)*tn p q a = -((q.2-p.2)*tn a b p):=by unfold tn; grind
def i2:(b.2-p.2)*tn a b q+(q.2-b.2)*tn a b p = -((b.2-a.2)*tn p q b):=by unfold tn; grind
def i3:(q.2-a.2)*tn p q b+(b.2-q.2)*tn p q a = -((q.2-p.2)*tn a b q):=by unfold tn; grind
def i4:(a.2-p.2)*tn a b q+(q.2-a.2)*tn a b p = -((b.2-a.2)*tn p q a):=by unfold tn; grind
def i5:tn a b q-tn a b p=tn p q a-tn p q b:=by unfold tn; grind
def OL(h:Sep a b p q)(h1:a.2<=p.2)(h2:p.2<b.2)(h3:b.2<=q.2):0<tn a b p↔tn p q b<0:=by
 have e1:=i1 (a:=a) (b:=b) (p:=p) (q:=q);have e2:=i2 (a:=a) (b:=b) (p:=p) (q:=q);have K:=KD h;have K':=D3 h;clear h;generalize tn p q b=Tb at *;generalize tn p q a=Ta at *;generalize tn a b p=Up at *;generalize tn a b q=Uq at *;have d1:0<=p.2-a.2:=by grind
 have d2:0<b.2-p.2:=by grind
 have d3:0<q.2-p.2:=by grind
 have d4:0<=q.2-b.2:=by grind
 have d5:0<b.2-a.2:=by grind
 generalize p.2-a.2=x1 at *;generalize b.2-p.2=x2 at *;generalize q.2-p.2=x3 at *;generalize q.2-b.2=x4 at *;generalize b.2-a.2=x5 at *;constructor
 intro hu;refine U6 fun ht=>?_;have ht:0<=Tb:=by grind
 have m1:=cb d1 ht;have m2:=bt d3 hu;have ta:Ta<=0:=by
  refine U6 fun hc=>?_;have:=bt d2 (show 0<Ta by grind)
  grind
 have uq:Uq<=0:=by
  refine U6 fun hc=>?_;have m3:=bt d2 (show 0<Uq by grind)
  have m4:=cb d4 (show 0<=Up by grind)
  have m5:=cb (show 0<=x5 by grind) ht
  grind
 exact K ht ta (by grind) uq (.inl hu)
 intro ht;refine U6 fun hu=>?_;have hu:Up<=0:=by grind
 have m1:=dC d1 (show Tb<=0 by grind)
 have m2:=dC (show 0<=x3 by grind) hu
 have ta:0<=Ta:=by
  refine U6 fun hc=>?_;have:=ga d2 (show Ta<0 by grind)
  grind
 have uq:0<=Uq:=by
  refine U6 fun hc=>?_;have m3:=ga d2 (show Uq<0 by grind)
  have m4:=dC d4 hu;have m5:=ga d5 ht
  grind
 exact K' (by grind) ta hu uq (.inr (.inr (.inl ht)))
def N3(h:Sep a b p q)(h1:p.2<a.2)(h2:a.2<=q.2)(h3:q.2<b.2):0<tn a b q↔tn p q a<0:=by
 have e3:=i3 (a:=a) (b:=b) (p:=p) (q:=q);have e4:=i4 (a:=a) (b:=b) (p:=p) (q:=q);have K:=KD h;have K':=D3 h;clear h;generalize tn p q b=Tb at *;generalize tn p q a=Ta at *;generalize tn a b p=Up at *;generalize tn a b q=Uq at *;have d1:0<=q.2-a.2:=by grind
 have d2:0<b.2-q.2:=by grind
 have d3:0<q.2-p.2:=by grind
 have d4:0<a.2-p.2:=by grind
 have d5:0<b.2-a.2:=by grind
 generalize q.2-a.2=x1 at *;generalize b.2-q.2=x2 at *;generalize q.2-p.2=x3 at *;generalize a.2-p.2=x4 at *;generalize b.2-a.2=x5 at *;constructor
 intro hu;refine U6 fun ht=>?_;have ht:0<=Ta:=by grind
 have m1:=cb (show 0<=x2 by grind) ht
 have m2:=bt d3 hu;have tb:Tb<=0:=by
  refine U6 fun hc=>?_;have:=cb d1 (show 0<=Tb by grind)
  grind
 have up:Up<=0:=by
  refine U6 fun hc=>?_;have m3:=bt d4 hu;have m4:=cb d1 (show 0<=Up by grind)
  have m5:=cb (show 0<=x5 by grind) ht
  grind
 exact K' tb ht up (by grind) (.inr (.inl hu))
 intro ht;refine U6 fun hu=>?_;have hu:Uq<=0:=by grind
 have m2:=dC (show 0<=x3 by grind) hu
 have m1:=ga d2 ht;have tb:0<=Tb:=by
  refine U6 fun hc=>?_;have:=dC d1 (show Tb<=0 by grind)
  grind
 have up:0<=Up:=by
  refine U6 fun hc=>?_;have m3:=dC (show 0<=x4 by grind) hu
  have m4:=dC d1 (show Up<=0 by grind)
  have m5:=ga d5 ht
  grind
 exact K tb (by grind) up hu (.inr (.inr (.inr ht)))
def SH(h:Sep a b p q)(h1:a.2<=p.2)(h2:p.2<=q.2)(h3:q.2<b.2):0<tn a b p↔0<tn a b q:=by
 have e1:=i1 (a:=a) (b:=b) (p:=p) (q:=q);have e3:=i3 (a:=a) (b:=b) (p:=p) (q:=q);have e5:=i5 (a:=a) (b:=b) (p:=p) (q:=q);have K:=KD h;have K':=D3 h;clear h;generalize tn p q b=Tb at *;generalize tn p q a=Ta at *;generalize tn a b p=Up at *;generalize tn a b q=Uq at *;have d1:0<=p.2-a.2:=by grind
 have d2:0<b.2-p.2:=by grind
 have d3:0<=q.2-p.2:=by grind
 have d4:0<=q.2-a.2:=by grind
 have d5:0<b.2-q.2:=by grind
 generalize p.2-a.2=x1 at *;generalize b.2-p.2=x2 at *;generalize q.2-p.2=x3 at *;generalize q.2-a.2=x4 at *;generalize b.2-q.2=x5 at *;constructor
 intro hu;refine U6 fun hc=>?_;have hc:Uq<=0:=by grind
 have ta:Ta<=0:=by
  refine U6 fun ht=>?_;have m1:=cb d1 (show 0<=Tb by grind)
  have m2:=bt d2 (show 0<Ta by grind)
  have m3:=cb d3 (show 0<=Up by grind)
  grind
 have tb:0<=Tb:=by
  refine U6 fun ht=>?_;have m1:=dC d4 (show Tb<=0 by grind)
  have m2:=ga d5 (show Ta<0 by grind)
  have m3:=dC d3 hc
  grind
 exact K tb ta (by grind) hc (.inl hu)
 intro hu;refine U6 fun hc=>?_;have hc:Up<=0:=by grind
 have ta:0<=Ta:=by
  refine U6 fun ht=>?_;have m1:=dC d1 (show Tb<=0 by grind)
  have m2:=ga d2 (show Ta<0 by grind)
  have m3:=dC d3 hc
  grind
 have tb:Tb<=0:=by
  refine U6 fun ht=>?_;have m1:=cb d4 (show 0<=Tb by grind)
  have m2:=bt d5 (show 0<Ta by grind)
  have m3:=cb d3 (show 0<=Uq by grind)
  grind
 exact K' tb ta hc (by grind) (.inr (.inl hu))
def LK(h:Sep a b p q)(h0:a.2<=b.2)(h1:p.2<a.2)(h2:b.2<=q.2):tn p q a<0↔tn p q b<0:=by
 have e2:=i2 (a:=a) (b:=b) (p:=p) (q:=q);have e4:=i4 (a:=a) (b:=b) (p:=p) (q:=q);have e5:=i5 (a:=a) (b:=b) (p:=p) (q:=q);have K:=KD h;have K':=D3 h;clear h;generalize tn p q b=Tb at *;generalize tn p q a=Ta at *;generalize tn a b p=Up at *;generalize tn a b q=Uq at *;have d1:0<b.2-p.2:=by grind
 have d2:0<=q.2-b.2:=by grind
 have d3:0<=b.2-a.2:=by grind
 have d4:0<a.2-p.2:=by grind
 have d5:0<=q.2-a.2:=by grind
 generalize b.2-p.2=x1 at *;generalize q.2-b.2=x2 at *;generalize b.2-a.2=x3 at *;generalize a.2-p.2=x4 at *;generalize q.2-a.2=x5 at *;constructor
 intro ha;refine U6 fun hb=>?_;have hb:0<=Tb:=by grind
 have uq:Uq<=0:=by
  refine U6 fun hc=>?_;have m1:=bt d1 (show 0<Uq by grind)
  have m2:=cb d2 (show 0<=Up by grind)
  have m3:=cb d3 hb
  grind
 have up:0<=Up:=by
  refine U6 fun hc=>?_;have m1:=ga d4 (show Uq<0 by grind)
  have m2:=dC d5 (show Up<=0 by grind)
  have m3:=dC d3 (show Ta<=0 by grind)
  grind
 exact K hb (by grind) up uq (.inr (.inr (.inr ha)))
 intro hb;refine U6 fun ha=>?_;have ha:0<=Ta:=by grind
 have uq:0<=Uq:=by
  refine U6 fun hc=>?_;have m1:=ga d1 (show Uq<0 by grind)
  have m2:=dC d2 (show Up<=0 by grind)
  have m3:=dC d3 (show Tb<=0 by grind)
  grind
 have up:Up<=0:=by
  refine U6 fun hc=>?_;have m1:=bt d4 (show 0<Uq by grind)
  have m2:=cb d5 (show 0<=Up by grind)
  have m3:=cb d3 ha
  grind
 exact K' (by grind) ha up uq (.inr (.inr (.inl hb)))
def oQ{c d:Prop}[Decidable c][Decidable d](h:c↔d):(if c then(1:Int) else 0)=if d then 1 else 0:=by
 by_cases hc:c
 rw[U5 hc,U5 (h.1 hc)]
 rw[U3 hc,U3 (fun e=>hc (h.2 e))]
def IK(h:Sep a b p q)(hpq:p.2<=q.2)(hab:a.2<=b.2):we a b p-we a b q=fz p q b-fz p q a:=by
 by_cases ha:a.2<=p.2
 rw[kO (v:=a) (by grind)]
 by_cases hb:b.2<=p.2
 rw[kO (v:=b) (by grind),fB (by grind) (by grind),fB (by grind) (by grind)]
 by_cases hb2:b.2<=q.2
 rw[wm (by grind) hb2,kK ha (by grind),fB (p:=q) (by grind) (by grind),oQ (OL h ha (by grind) hb2)]
 rw[kO (v:=b) (by grind),kK ha (by grind),kK (p:=q) (by grind) (by grind),oQ (SH h ha hpq (by grind))]
 omega
 rw[fB (p:=p) (by grind) (by grind)]
 by_cases ha2:a.2<=q.2
 rw[wm (v:=a) (by grind) ha2]
 by_cases hb2:b.2<=q.2
 rw[wm (v:=b) (by grind) hb2,fB (p:=q) (by grind) (by grind),oQ (LK h hab (by grind) hb2)]
 omega
 rw[kO (v:=b) (by grind),kK (p:=q) ha2 (by grind),oQ (N3 h (by grind) ha2 (by grind))]
 rw[kO (v:=a) (by grind),kO (v:=b) (by grind),fB (p:=q) (by grind) (by grind)]
def Hy(h:Sep a b p q)(hpq:p.2<=q.2):we a b p-we a b q=fz p q b-fz p q a:=by
 by_cases hab:a.2<=b.2
 exact IK h hpq hab
 have:=IK h.ab hpq (by grind)
 rw[lW b a p,lW b a q];omega
end
def aY:Nat->(Nat->Int)->Int
 | 0,_=>0
 | n+1,f=>aY n f+f n
def ay{n:Nat}{f g:Nat->Int}(h:∀i,i<n->f i=g i):aY n f=aY n g:=by
 induction n with
 | zero=>rfl
 | succ n ih=>simp only[aY]; rw[ih fun i hi=>h i (by omega),h n (by omega)]
def fU(n:Nat)(f g:Nat->Int):aY n (fun i=>f i-g i)=aY n f-aY n g:=by
 induction n with
 | zero=>rfl
 | succ n ih=>simp only[aY]; rw[ih]; omega
def j4(n:Nat)(f:Nat->Int):aY n (fun i=>f (i+1)-f i)=f n-f 0:=by
 induction n with
 | zero=>simp[aY]
 | succ n ih=>simp only[aY]; rw[ih]; omega
def bw{n:Nat}{f:Nat->Int}(h:∀i,i<n->f i=0):aY n f=0:=by
 induction n with
 | zero=>rfl
 | succ n ih=>simp only[aY]; rw[ih fun i hi=>h i (by omega),h n (by omega)]; rfl
def dF{n k:Nat}{f:Nat->Int}(hk:k<n)(h:∀i,i<n->i≠k->f i=0):aY n f=f k:=by
 induction n with
 | zero=>omega
 | succ n ih =>
  simp only[aY]
  by_cases e:k=n
  subst e;rw[bw fun i hi=>h i (by omega) (by omega)]; omega
  rw[ih (by omega) (fun i hi hn=>h i (by omega) hn),h n (by omega) (by omega)]; omega
def cv(u w:P2)(t:Rat):P2:=(u.1+t*(w.1-u.1),u.2+t*(w.2-u.2))
def sm(p d:P2)(x:Rat):P2:=(p.1+x*d.1,p.2+x*d.2)
def cr(u w d:P2):Rat:=(w.1-u.1)*d.2-(w.2-u.2)*d.1
def dt(u w x:P2):Rat:=(w.1-u.1)*(x.1-w.1)+(w.2-u.2)*(x.2-w.2)
def gW{A B:Rat}(ha:0<A)(hb:0<B):∃k:Rat,0<k/\k<A/\k<B:=by
 by_cases h:A<=B
 exact⟨A/2,by grind,by grind,by grind⟩
 exact⟨B/2,by grind,by grind,by grind⟩
def pA{a b p q:P2}(α β γ:Rat)(h1:0<=af α β γ a)(h2:0<=af α β γ b)(h3:af α β γ p<0)(h4:af α β γ q<0):Sep a b p q:=by
 obtain⟨k,k1,k2,k3⟩:=gW (show 0 < -af α β γ p by grind) (show 0 < -af α β γ q by grind)
 refine⟨α,β,γ+k,?_,?_,?_,?_⟩<;>(unfold af at *; grind)
def El{a b u w:P2}(h:Sep a b u w){t s:Rat}(t0:0<=t)(t1:t<=1)(s0:0<=s)(s1:s<=1):Sep a b (cv u w t) (cv u w s):=by
 obtain⟨α,β,γ,h1,h2,h3,h4⟩:=h;have key:∀t:Rat,0<=t->t<=1->af α β γ (cv u w t)<0:=by
  intro t t0 t1;have e:af α β γ (cv u w t)=(1-t)*af α β γ u+t*af α β γ w:=by unfold af cv; grind
  rw[e];have m1:=dC (show 0<=1-t by grind) (show af α β γ u<=0 by grind)
  have m2:=dC t0 (show af α β γ w<=0 by grind)
  by_cases ht:0<t
  have:=ga ht h4
  grind
  have:=ga (show 0<1-t by grind) h3
  grind
 exact⟨α,β,γ,h1,h2,key t t0 t1,key s s0 s1⟩
def sq_pos{x:Rat}(h:x≠0):0<x*x:=by
 by_cases hx:0<x
 exact bt hx hx
 have:=bt (show 0 < -x by grind) (show 0 < -x by grind)
 grind
def D8(x:Rat):0<=x*x:=by
 by_cases hx:0<=x
 exact cb hx hx
 have:=cb (show 0<=-x by grind) (show 0<=-x by grind)
 grind
def yi{u w:P2}(h:u≠w):0<(w.1-u.1)*(w.1-u.1)+(w.2-u.2)*(w.2-u.2):=by
 have n1:=D8 (w.1-u.1);have n2:=D8 (w.2-u.2)
 by_cases h1:w.1-u.1=0
 have h2:w.2-u.2≠0:=fun e=>h (VN (by grind) (by grind))
 have:=sq_pos h2
 grind
 have:=sq_pos h1
 grind
def J9{u w x:P2}(hne:u≠w)(hc:tn u w x≠0\/0<dt u w x){t s:Rat}(t1:t<1)(s1:s<1):Sep w x (cv u w t) (cv u w s):=by
 have e:∀t:Rat,af (-(x.2-w.2)) (x.1-w.1) ((x.2-w.2)*w.1-(x.1-w.1)*w.2) (cv u w t)=(1-t)*tn u w x:=fun t=>by unfold af cv tn; grind
 have f:∀t:Rat,af (x.2-w.2) (-(x.1-w.1)) (-((x.2-w.2)*w.1-(x.1-w.1)*w.2)) (cv u w t) = -((1-t)*tn u w x):=fun t=>by unfold af cv tn; grind
 have g:∀t:Rat,af (w.1-u.1) (w.2-u.2) (-((w.1-u.1)*w.1+(w.2-u.2)*w.2)) (cv u w t) = -((1-t)*((w.1-u.1)*(w.1-u.1)+(w.2-u.2)*(w.2-u.2))):=fun t=>by unfold af cv; grind
 by_cases h0:tn u w x=0
 have hd:0<dt u w x:=hc.resolve_left fun h=>h h0;have hl:=yi hne;refine pA (w.1-u.1) (w.2-u.2) (-((w.1-u.1)*w.1+(w.2-u.2)*w.2)) ?_ ?_ ?_ ?_
 unfold af; grind
 unfold dt at hd; unfold af; grind
 rw[g]; have:=bt (show 0<1-t by grind) hl; grind
 rw[g]; have:=bt (show 0<1-s by grind) hl; grind
 by_cases hp:0<tn u w x
 refine pA (x.2-w.2) (-(x.1-w.1)) (-((x.2-w.2)*w.1-(x.1-w.1)*w.2)) ?_ ?_ ?_ ?_
 unfold af; grind
 unfold af; grind
 rw[f]; have:=bt (show 0<1-t by grind) hp; grind
 rw[f]; have:=bt (show 0<1-s by grind) hp; grind
 have hm:tn u w x<0:=by grind
 refine pA (-(x.2-w.2)) (x.1-w.1) ((x.2-w.2)*w.1-(x.1-w.1)*w.2) ?_ ?_ ?_ ?_
 unfold af; grind
 unfold af; grind
 rw[e]; exact ga (show 0<1-t by grind) hm
 rw[e]; exact ga (show 0<1-s by grind) hm
def Cq{x u w:P2}(hc:tn x u w≠0\/0<dt x u w){t s:Rat}(t0:0<t)(s0:0<s):Sep x u (cv u w t) (cv u w s):=by
 have e:∀t:Rat,af (-(u.2-x.2)) (u.1-x.1) ((u.2-x.2)*x.1-(u.1-x.1)*x.2) (cv u w t)=t*tn x u w:=fun t=>by unfold af cv tn; grind
 have f:∀t:Rat,af (u.2-x.2) (-(u.1-x.1)) (-((u.2-x.2)*x.1-(u.1-x.1)*x.2)) (cv u w t) = -(t*tn x u w):=fun t=>by unfold af cv tn; grind
 have g:∀t:Rat,af (-(u.1-x.1)) (-(u.2-x.2)) ((u.1-x.1)*u.1+(u.2-x.2)*u.2) (cv u w t) = -(t*dt x u w):=fun t=>by unfold af cv dt; grind
 by_cases h0:tn x u w=0
 have hd:0<dt x u w:=hc.resolve_left fun h=>h h0;have n1:=D8 (u.1-x.1);have n2:=D8 (u.2-x.2);refine pA (-(u.1-x.1)) (-(u.2-x.2)) ((u.1-x.1)*u.1+(u.2-x.2)*u.2) ?_ ?_ ?_ ?_
 unfold af; grind
 unfold af; grind
 rw[g]; have:=bt t0 hd; grind
 rw[g]; have:=bt s0 hd; grind
 by_cases hp:0<tn x u w
 refine pA (u.2-x.2) (-(u.1-x.1)) (-((u.2-x.2)*x.1-(u.1-x.1)*x.2)) ?_ ?_ ?_ ?_
 unfold af; grind
 unfold af; grind
 rw[f]; have:=bt t0 hp; grind
 rw[f]; have:=bt s0 hp; grind
 have hm:tn x u w<0:=by grind
 refine pA (-(u.2-x.2)) (u.1-x.1) ((u.2-x.2)*x.1-(u.1-x.1)*x.2) ?_ ?_ ?_ ?_
 unfold af; grind
 unfold af; grind
 rw[e]; exact ga t0 hm
 rw[e]; exact ga s0 hm
def Ev(P:Rat->Rat->Prop):Prop:=∃e:Rat,0<e/\∀x y,0<x->x<=e->0<y->y<=e->P x y
def Ev.and{P Q:Rat->Rat->Prop}(h:Ev P)(g:Ev Q):Ev fun x y=>P x y/\Q x y:=by
 obtain⟨e,e0,h⟩:=h;obtain⟨f,f0,g⟩:=g
 by_cases hl:e<=f
 exact⟨e,e0,fun x y a b c d=>⟨h x y a b c d,g x y a (by grind) c (by grind)⟩⟩
 exact⟨f,f0,fun x y a b c d=>⟨h x y a (by grind) c (by grind),g x y a b c d⟩⟩
def Ev.mono{P Q:Rat->Rat->Prop}(h:Ev P)(g:∀x y,0<x->0<y->P x y->Q x y):Ev Q :=
 let⟨e,e0,h⟩:=h
 ⟨e,e0,fun x y a b c d=>g x y a c (h x y a b c d)⟩
def Ev.of{P:Rat->Rat->Prop}(h:∀x y,0<x->0<y->P x y):Ev P:=⟨1,by grind,fun x y a _ c _=>h x y a c⟩
def Ev.all{P:Nat->Rat->Rat->Prop}:∀{n:Nat},(∀i,i<n->Ev (P i))->Ev fun x y=>∀i,i<n->P i x y
 | 0,_=>Ev.of fun _ _ _ _ i hi=>by omega
 | n+1,h=>by
  have h1:=Ev.all (P:=P) (n:=n) fun i hi=>h i (by omega)
  refine(h1.and (h n (by omega))).mono fun x y _ _ g i hi=>?_
  by_cases e:i=n
  subst e; exact g.2
  exact g.1 i (by omega)
def yv{A:Rat}(h:A<0)(B:Rat):∃e:Rat,0<e/\∀x,0<x->x<=e->A+x*B<0:=by
 by_cases hb:B<=0
 exact⟨1,by grind,fun x hx _=>by have:=dC (show 0<=x by grind) hb; grind⟩
 have hb0:B≠0:=by grind
 have hi:B*B⁻¹=1:=Xv B hb0;have e1:(-A/2*B⁻¹)*B = -A/2:=by grind
 have hpos:0 < -A/2*B⁻¹:=by
  refine U6 fun hc=>?_;have:=cb (show 0<=-(-A/2*B⁻¹) by grind) (show 0<=B by grind)
  grind
 refine⟨-A/2*B⁻¹,hpos,fun x hx hl=>?_⟩;have:=cb (show 0<=-A/2*B⁻¹-x by grind) (show 0<=B by grind)
 grind
def zY{a b p q:P2}(h:Sep a b p q)(d d':P2):Ev fun x y=>Sep a b (sm p d x) (sm q d' y):=by
 obtain⟨α,β,γ,h1,h2,h3,h4⟩:=h;obtain⟨e,e0,he⟩:=yv h3 (α*d.1+β*d.2);obtain⟨f,f0,hf⟩:=yv h4 (α*d'.1+β*d'.2);have k1:∀x,af α β γ (sm p d x)=af α β γ p+x*(α*d.1+β*d.2):=fun x=>by unfold af sm; grind
 have k2:∀x,af α β γ (sm q d' x)=af α β γ q+x*(α*d'.1+β*d'.2):=fun x=>by unfold af sm; grind
 obtain⟨g,g0,ge,gf⟩:=gW e0 f0;exact⟨g,g0,fun x y x0 xg y0 yg=>⟨α,β,γ,h1,h2,by rw[k1]; exact he x x0 (by grind),by rw[k2]; exact hf y y0 (by grind)⟩⟩
structure Simple(n:Nat)(v:Nat->P2):Prop where
 n3:2<n
 cl:v n=v 0
 cl1:v (n+1)=v 1
 ne:∀i,i<n->v i≠v (i+1)
 au:∀i,i<n->tn (v i) (v (i+1)) (v (i+2))≠0\/0<dt (v i) (v (i+1)) (v (i+2))
 sep:∀i j,i<n->j<n->i≠j->j≠i+1->i≠j+1->¬(i=0/\j+1=n)->¬(j=0/\i+1=n)->Sep (v i) (v (i+1)) (v j) (v (j+1))
def W(n:Nat)(v:Nat->P2)(p:P2):Int:=aY n fun i=>we (v i) (v (i+1)) p
section
variable{n:Nat}{v:Nat->P2}
def C9(hv:v n=v 0)(p q:P2):W n v p-W n v q=aY n fun i=>(we (v i) (v (i+1)) p-we (v i) (v (i+1)) q)-(fz p q (v (i+1))-fz p q (v i)):=by
 have h1:=fU n (fun i=>we (v i) (v (i+1)) p-we (v i) (v (i+1)) q) (fun i=>fz p q (v (i+1))-fz p q (v i));have h2:=j4 n fun i=>fz p q (v i);have h3:=fU n (fun i=>we (v i) (v (i+1)) p) fun i=>we (v i) (v (i+1)) q;rw[hv] at h2;rw[h1,h2,h3];unfold W; omega
def yL(hv:v n=v 0){p q:P2}(h:∀i,i<n->Sep (v i) (v (i+1)) p q):W n v p=W n v q:=by
 by_cases hl:p.2<=q.2
 have:=C9 hv p q;rw[bw fun i hi=>by rw[Hy (h i hi) hl]; omega] at this
 omega
 have:=C9 hv q p;rw[bw fun i hi=>by rw[Hy (h i hi).pq (by grind)]; omega] at this
 omega
def D9(hv:v n=v 0){k:Nat}(hk:k<n){p q:P2}(hl:p.2<=q.2)(h:∀i,i<n->i≠k->Sep (v i) (v (i+1)) p q) :
  W n v p-W n v q=(we (v k) (v (k+1)) p-we (v k) (v (k+1)) q)-(fz p q (v (k+1))-fz p q (v k)):=by
 rw[C9 hv p q];exact dF hk fun i hi hn=>by rw[Hy (h i hi hn) hl]; omega
def Simple.off(S:Simple n v){i j:Nat}(hi:i<n)(hj:j<n)(hij:i≠j){t s:Rat}(t0:0<=t)(t1:t<=1)(s0:0<=s)(s1:s<=1)
  (hn:j=i+1\/(i+1=n/\j=0)->t<1/\s<1) (hp:i=j+1\/(j+1=n/\i=0)->0<t/\0<s):Sep (v j) (v (j+1)) (cv (v i) (v (i+1)) t) (cv (v i) (v (i+1)) s):=by
 have hn3:=S.n3
 by_cases h1:j=i+1\/(i+1=n/\j=0)
 obtain⟨a,b⟩:=hn h1;have e:v j=v (i+1)/\v (j+1)=v (i+2):=by
  rcases h1 with rfl|⟨h,rfl⟩
  exact⟨rfl,rfl⟩
  have:i+2=n+1:=by omega
  rw[this,S.cl1,h,S.cl]; exact⟨rfl,rfl⟩
 rw[e.1,e.2];exact J9 (S.ne i hi) (S.au i hi) a b
 by_cases h2:i=j+1\/(j+1=n/\i=0)
 obtain⟨a,b⟩:=hp h2;have e:v (j+1)=v i/\v (j+2)=v (i+1):=by
  rcases h2 with rfl|⟨h,rfl⟩
  exact⟨rfl,rfl⟩
  have:j+2=n+1:=by omega
  rw[this,S.cl1,h,S.cl]; exact⟨rfl,rfl⟩
 have:=S.au j hj;rw[e.1,e.2] at this;rw[e.1];exact Cq this a b
 exact El (S.sep j i hj hi (by omega) (by omega) (by omega) (by omega) (by omega)) t0 t1 s0 s1
def pJ(u w d:P2)(t x:Rat):tn u w (sm (cv u w t) d x)=x*cr u w d:=by unfold tn sm cv cr; grind
def hJ{u w p q:P2}{σ:Rat}(h1:0 < σ*tn u w p)(h2:0 < σ*tn u w q):Sep u w p q:=by
 refine pA (σ*(w.2-u.2)) (-(σ*(w.1-u.1))) (-(σ*((w.2-u.2)*u.1-(w.1-u.1)*u.2))) ?_ ?_ ?_ ?_
 unfold af; grind
 unfold af; grind
 unfold tn at h1; unfold af; grind
 unfold tn at h2; unfold af; grind
def Simple.beside(S:Simple n v){σ:Rat}{i:Nat}(hi:i<n){t s:Rat}(t0:0<t)(t1:t<1)(s0:0<s)(s1:s<1){d d':P2}(h:0 < σ*cr (v i) (v (i+1)) d)(h':0 < σ*cr (v i) (v (i+1)) d') :
  Ev fun x y=>W n v (sm (cv (v i) (v (i+1)) t) d x)=W n v (sm (cv (v i) (v (i+1)) s) d' y):=by
 have hE:Ev fun x y=>∀j,j<n->Sep (v j) (v (j+1)) (sm (cv (v i) (v (i+1)) t) d x) (sm (cv (v i) (v (i+1)) s) d' y):=by
  refine Ev.all fun j hj=>?_
  by_cases e:i=j
  subst e;refine Ev.of fun x y hx hy=>hJ (σ:=σ) ?_ ?_
  rw[pJ]; have:=bt hx h; grind
  rw[pJ]; have:=bt hy h'; grind
  exact zY (S.off hi hj e (by grind) (by grind) (by grind) (by grind) (fun _=>⟨t1,s1⟩) (fun _=>⟨t0,s0⟩)) d d'
 exact hE.mono fun x y _ _ h=>yL S.cl h
def HS(n:Nat)(v:Nat->P2)(σ:Rat)(i:Nat)(L:Int):Prop:=∀t d,0<t->t<1->0 < σ*cr (v i) (v (i+1)) d->∃e:Rat,0<e/\∀x,0<x->x<=e->W n v (sm (cv (v i) (v (i+1)) t) d x)=L
def Simple.hs(S:Simple n v){σ:Rat}(hσ:σ≠0){i:Nat}(hi:i<n):∃L,HS n v σ i L:=by
 have hl:=yi (S.ne i hi)
 let d0:P2:=(-(σ*((v (i+1)).2-(v i).2)),σ*((v (i+1)).1-(v i).1))
 have h0:0 < σ*cr (v i) (v (i+1)) d0:=by
  have:=bt (sq_pos hσ) hl;have e:σ*cr (v i) (v (i+1)) d0=σ*σ*(((v (i+1)).1-(v i).1)*((v (i+1)).1-(v i).1)+((v (i+1)).2-(v i).2)*((v (i+1)).2-(v i).2)):=by
   show σ*(((v (i+1)).1-(v i).1)*(σ*((v (i+1)).1-(v i).1))-((v (i+1)).2-(v i).2)*(-(σ*((v (i+1)).2-(v i).2))))=_
   grind
  rw[e]; exact this
 obtain⟨e,e0,he⟩:=S.beside (σ:=σ) hi (t:=1/2) (s:=1/2) (by grind) (by grind) (by grind) (by grind) h0 h0
 refine⟨W n v (sm (cv (v i) (v (i+1)) (1/2)) d0 e),fun t d t0 t1 hd=>?_⟩;obtain⟨f,f0,hf⟩:=S.beside (σ:=σ) hi (t:=t) (s:=1/2) t0 t1 (by grind) (by grind) hd h0
 obtain⟨g,g0,ge,gf⟩:=gW e0 f0;refine⟨f,f0,fun x x0 x1=>?_⟩;rw[hf x g x0 x1 g0 (by grind),he g e g0 (by grind) e0 (by grind)]
def Simple.A7(S:Simple n v){i:Nat}(hi:i<n){L R:Int}(hL:HS n v 1 i L)(hR:HS n v (-1) i R):L=R+1:=by
 have hne:=S.ne i hi;have eoff:∀d d':P2,Ev fun x y=>∀j,j<n->j≠i->Sep (v j) (v (j+1)) (sm (cv (v i) (v (i+1)) (1/2)) d x) (sm (cv (v i) (v (i+1)) (1/2)) d' y):=fun d d' =>
  Ev.all (P:=fun j x y=>j≠i->Sep (v j) (v (j+1)) (sm (cv (v i) (v (i+1)) (1/2)) d x) (sm (cv (v i) (v (i+1)) (1/2)) d' y)) fun j hj=>by
   by_cases e:j=i
   exact Ev.of fun _ _ _ _ h=>Vr e h
   exact(zY (S.off hi hj (Ne.symm e) (t:=1/2) (s:=1/2) (by grind) (by grind) (by grind) (by grind) (fun _=>⟨by grind,by grind⟩) (fun _=>⟨by grind,by grind⟩)) d d').mono fun x y _ _ h _=>h
 have pick:∀d d':P2,0<cr (v i) (v (i+1)) d->0 < -cr (v i) (v (i+1)) d'->∃x:Rat,0<x/\W n v (sm (cv (v i) (v (i+1)) (1/2)) d x)=L/\W n v (sm (cv (v i) (v (i+1)) (1/2)) d' x)=R /\
   (∀j,j<n->j≠i->Sep (v j) (v (j+1)) (sm (cv (v i) (v (i+1)) (1/2)) d x) (sm (cv (v i) (v (i+1)) (1/2)) d' x))/\∀B:Rat,B<0->True:=by
  intro d d' hd hd';obtain⟨e,e0,he⟩:=hL (1/2) d (by grind) (by grind) (by grind)
  obtain⟨f,f0,hf⟩:=hR (1/2) d' (by grind) (by grind) (by grind)
  obtain⟨g,g0,hg⟩:=eoff d d';obtain⟨k,k0,ke,kf⟩:=gW e0 f0;obtain⟨m,m0,mk,mg⟩:=gW k0 g0;exact⟨m,m0,he m m0 (by grind),hf m m0 (by grind),hg m m m0 (by grind) m0 (by grind),fun _ _=>trivial⟩
 generalize hu:v i=u at *;generalize hw:v (i+1)=w at *
 by_cases h0:w.2=u.2
 
 have h1:w.1≠u.1:=fun e=>hne (VN e.symm h0.symm)
 by_cases hp:u.1<w.1
 obtain⟨x,x0,xL,xR,xs,_⟩:=pick (0,1) (0,-1) (by unfold cr; grind) (by unfold cr; grind)
 have k:=D9 S.cl hi (p:=sm (cv u w (1/2)) (0,-1) x) (q:=sm (cv u w (1/2)) (0,1) x) (by unfold sm; grind) fun j hj hn=>(xs j hj hn).pq
 rw[hu,hw,fB (by unfold sm cv; grind) (by unfold sm cv; grind),fB (by unfold sm cv; grind) (by unfold sm cv; grind),wm (v:=w) (by unfold sm cv; grind) (by unfold sm cv; grind),wm (v:=u) (by unfold sm cv; grind) (by unfold sm cv; grind)] at k
 have t1:tn (sm (cv u w (1/2)) (0,-1) x) (sm (cv u w (1/2)) (0,1) x) w = -(x*(w.1-u.1)):=by unfold tn sm cv; grind
 have t2:tn (sm (cv u w (1/2)) (0,-1) x) (sm (cv u w (1/2)) (0,1) x) u=x*(w.1-u.1):=by unfold tn sm cv; grind
 have m:=bt x0 (show 0<w.1-u.1 by grind)
 rw[t1,t2,U5 (by grind),U3 (by grind),xL,xR] at k
 omega
 obtain⟨x,x0,xL,xR,xs,_⟩:=pick (0,-1) (0,1) (by unfold cr; grind) (by unfold cr; grind)
 have k:=D9 S.cl hi (p:=sm (cv u w (1/2)) (0,-1) x) (q:=sm (cv u w (1/2)) (0,1) x) (by unfold sm; grind) fun j hj hn=>xs j hj hn
 rw[hu,hw,fB (by unfold sm cv; grind) (by unfold sm cv; grind),fB (by unfold sm cv; grind) (by unfold sm cv; grind),wm (v:=w) (by unfold sm cv; grind) (by unfold sm cv; grind),wm (v:=u) (by unfold sm cv; grind) (by unfold sm cv; grind)] at k
 have t1:tn (sm (cv u w (1/2)) (0,-1) x) (sm (cv u w (1/2)) (0,1) x) w=x*(u.1-w.1):=by unfold tn sm cv; grind
 have t2:tn (sm (cv u w (1/2)) (0,-1) x) (sm (cv u w (1/2)) (0,1) x) u = -(x*(u.1-w.1)):=by unfold tn sm cv; grind
 have m:=bt x0 (show 0<u.1-w.1 by grind)
 rw[t1,t2,U3 (by grind),U5 (by grind),xL,xR] at k
 omega
 by_cases hp:u.2<w.2
 obtain⟨x,x0,xL,xR,xs,_⟩:=pick (-1,0) (1,0) (by unfold cr; grind) (by unfold cr; grind)
 have k:=D9 S.cl hi (p:=sm (cv u w (1/2)) (-1,0) x) (q:=sm (cv u w (1/2)) (1,0) x) (by unfold sm; grind) fun j hj hn=>xs j hj hn
 rw[kO (by unfold sm; grind),kO (by unfold sm; grind),hu,hw,kK (by unfold sm cv; grind) (by unfold sm cv; grind),kK (by unfold sm cv; grind) (by unfold sm cv; grind),pJ,pJ] at k
 have m:=bt x0 (show 0<w.2-u.2 by grind)
 rw[U5 (by unfold cr; grind),U3 (by unfold cr; grind),xL,xR] at k
 omega
 obtain⟨x,x0,xL,xR,xs,_⟩:=pick (1,0) (-1,0) (by unfold cr; grind) (by unfold cr; grind)
 have k:=D9 S.cl hi (p:=sm (cv u w (1/2)) (-1,0) x) (q:=sm (cv u w (1/2)) (1,0) x) (by unfold sm; grind) fun j hj hn=>(xs j hj hn).pq
 have e1:=lW w u (sm (cv u w (1/2)) (-1,0) x);have e2:=lW w u (sm (cv u w (1/2)) (1,0) x);rw[kK (a:=w) (b:=u) (by unfold sm cv; grind) (by unfold sm cv; grind),kA u w,pJ] at e1
 rw[kK (a:=w) (b:=u) (by unfold sm cv; grind) (by unfold sm cv; grind),kA u w,pJ] at e2
 have m:=bt x0 (show 0<u.2-w.2 by grind)
 rw[U5 (by unfold cr; grind)] at e1
 rw[U3 (by unfold cr; grind)] at e2
 rw[kO (by unfold sm; grind),kO (by unfold sm; grind),hu,hw,e1,e2,xL,xR] at k
 omega
def Simple.Dh(S:Simple n v){σ:Rat}{i:Nat}(hi:i+1<n){d:P2}(hd:0 < σ*cr (v i) (v (i+1)) d)(hd':0 < σ*cr (v (i+1)) (v (i+2)) d)(hs:0<=σ*tn (v i) (v (i+1)) (v (i+2)))
  {L L':Int} (h:HS n v σ i L) (h':HS n v σ (i+1) L'):L=L':=by
 have hn3:=S.n3;have e1:Ev fun x y=>∀j,j<n->Sep (v j) (v (j+1)) (sm (cv (v i) (v (i+1)) (1/2)) d x) (sm (cv (v i) (v (i+1)) 1) d y):=by
  refine Ev.all fun j hj=>?_
  by_cases e:i=j
  subst e;refine Ev.of fun x y hx hy=>hJ (σ:=σ) ?_ ?_
  rw[pJ]; have:=bt hx hd; grind
  rw[pJ]; have:=bt hy hd; grind
  by_cases e':j=i+1
  subst e';refine Ev.of fun x y hx hy=>hJ (σ:=σ) ?_ ?_
  have m1:=bt hx hd';have:σ*tn (v (i+1)) (v (i+1+1)) (sm (cv (v i) (v (i+1)) (1/2)) d x)=1/2*(σ*tn (v i) (v (i+1)) (v (i+2)))+x*(σ*cr (v (i+1)) (v (i+2)) d):=by
   unfold tn sm cv cr; grind
  rw[this]; grind
  have m1:=bt hy hd';have:σ*tn (v (i+1)) (v (i+1+1)) (sm (cv (v i) (v (i+1)) 1) d y)=y*(σ*cr (v (i+1)) (v (i+2)) d):=by
   unfold tn sm cv cr; grind
  rw[this]; exact m1
  exact zY (S.off (by omega) hj e (by grind) (by grind) (by grind) (by grind) (fun h=>by omega) (fun _=>⟨by grind,by grind⟩)) d d
 have e2:Ev fun x y=>∀j,j<n->Sep (v j) (v (j+1)) (sm (cv (v (i+1)) (v (i+2)) (1/2)) d x) (sm (cv (v (i+1)) (v (i+2)) 0) d y):=by
  refine Ev.all fun j hj=>?_
  by_cases e:j=i+1
  subst e;refine Ev.of fun x y hx hy=>hJ (σ:=σ) ?_ ?_
  rw[pJ]; have:=bt hx hd'; grind
  rw[pJ]; have:=bt hy hd'; grind
  by_cases e':j=i
  subst e';refine Ev.of fun x y hx hy=>hJ (σ:=σ) ?_ ?_
  have m1:=bt hx hd;have:σ*tn (v j) (v (j+1)) (sm (cv (v (j+1)) (v (j+2)) (1/2)) d x)=1/2*(σ*tn (v j) (v (j+1)) (v (j+2)))+x*(σ*cr (v j) (v (j+1)) d):=by
   unfold tn sm cv cr; grind
  rw[this]; grind
  have m1:=bt hy hd;have:σ*tn (v j) (v (j+1)) (sm (cv (v (j+1)) (v (j+2)) 0) d y)=y*(σ*cr (v j) (v (j+1)) d):=by
   unfold tn sm cv cr; grind
  rw[this]; exact m1
  exact zY (S.off (i:=i+1) hi hj (Ne.symm e) (by grind) (by grind) (by grind) (by grind) (fun _=>⟨by grind,by grind⟩) (fun h=>by omega)) d d
 obtain⟨a,a0,ha⟩:=e1;obtain⟨b,b0,hb⟩:=e2;obtain⟨f,f0,hf⟩:=h (1/2) d (by grind) (by grind) hd
 obtain⟨g,g0,hg⟩:=h' (1/2) d (by grind) (by grind) hd'
 obtain⟨k,k0,ka,kb⟩:=gW a0 b0;obtain⟨l,l0,lf,lg⟩:=gW f0 g0;obtain⟨x,x0,xk,xl⟩:=gW k0 l0;have w1:=yL S.cl (ha x x x0 (by grind) x0 (by grind))
 have w2:=yL S.cl (hb x x x0 (by grind) x0 (by grind))
 rw[hf x x0 (by grind)] at w1
 rw[hg x x0 (by grind)] at w2
 have e:cv (v i) (v (i+1)) 1=cv (v (i+1)) (v (i+2)) 0:=by unfold cv; exact VN (by grind) (by grind)
 rw[w1,w2,e]
def Simple.step(S:Simple n v){i:Nat}(hi:i+1<n){L L':Int}(h:HS n v 1 i L)(h':HS n v 1 (i+1) L'):L=L':=by
 have hne:=S.ne i (by omega)
 have ht:=S.au i (by omega)
 have c1:cr (v i) (v (i+1)) ((v (i+2)).1-(v (i+1)).1-((v (i+1)).1-(v i).1),(v (i+2)).2-(v (i+1)).2-((v (i+1)).2-(v i).2))=tn (v i) (v (i+1)) (v (i+2)):=by unfold cr tn; grind
 have c2:cr (v (i+1)) (v (i+2)) ((v (i+2)).1-(v (i+1)).1-((v (i+1)).1-(v i).1),(v (i+2)).2-(v (i+1)).2-((v (i+1)).2-(v i).2))=tn (v i) (v (i+1)) (v (i+2)):=by unfold cr tn; grind
 by_cases h0:tn (v i) (v (i+1)) (v (i+2))=0
 have hd:0<dt (v i) (v (i+1)) (v (i+2)):=ht.resolve_left fun e=>e h0;have hl:=yi hne;refine S.Dh (σ:=1) hi (d:=(-((v (i+1)).2-(v i).2),(v (i+1)).1-(v i).1)) ?_ ?_ (by rw[h0]; grind) h h'
 unfold cr; grind
 unfold dt at hd; unfold cr; grind
 by_cases hp:0<tn (v i) (v (i+1)) (v (i+2))
 exact S.Dh (σ:=1) hi (by rw[c1]; grind) (by rw[c2]; grind) (by grind) h h'
 obtain⟨R,hR⟩:=S.hs (σ:=-1) (by grind) (i:=i) (by omega)
 obtain⟨R',hR'⟩:=S.hs (σ:=-1) (by grind) (i:=i+1) (by omega)
 have e:=S.Dh (σ:=-1) hi (by rw[c1]; grind) (by rw[c2]; grind) (by grind) hR hR'
 have e1:=S.A7 (by omega) h hR
 have e2:=S.A7 hi h' hR';omega
def Simple.along(S:Simple n v):∃L:Int,∀i,i<n->HS n v 1 i L/\HS n v (-1) i (L-1):=by
 have hn3:=S.n3;obtain⟨L,hL⟩:=S.hs (σ:=1) (by grind) (i:=0) (by omega)
 have h1:∀i,i<n->HS n v 1 i L:=by
  intro i
  induction i with
  | zero=>intro _; exact hL
  | succ i ih =>
   intro hi;obtain⟨L',hL'⟩:=S.hs (σ:=1) (by grind) (i:=i+1) hi
   have:=S.step hi (ih (by omega)) hL'
   rw[this]; exact hL'
 refine⟨L,fun i hi=>⟨h1 i hi,?_⟩⟩;obtain⟨R,hR⟩:=S.hs (σ:=-1) (by grind) (i:=i) hi
 have:=S.A7 hi (h1 i hi) hR;rw[show L-1=R by omega]; exact hR
end
def ql{X:Nat->Rat}{P:XH}:∀{n:Nat},(∃i,i<n/\P i)->∃i,i<n/\P i/\∀j,j<n->P j->X i<=X j
 | 0,h=>by obtain⟨i,h,_⟩:=h; omega
 | n+1,h=>by
  by_cases hn:∃i,i<n/\P i
  obtain⟨i,i1,i2,i3⟩:=ql (X:=X) hn
  by_cases hp:P n/\X n<=X i
  refine⟨n,by omega,hp.1,fun j hj hP=>?_⟩
  by_cases e:j=n
  subst e; grind
  have:=i3 j (by omega) hP; grind
  refine⟨i,by omega,i2,fun j hj hP=>?_⟩
  by_cases e:j=n
  subst e;have:¬X j<=X i:=fun h=>hp ⟨hP,h⟩
  grind
  exact i3 j (by omega) hP
  obtain⟨i,i1,i2⟩:=h;have:i=n:=U6 fun e=>hn ⟨i,by omega,i2⟩
  subst this;refine⟨i,by omega,i2,fun j hj hP=>?_⟩
  by_cases e:j=i
  subst e; grind
  exact Vr ⟨j,by omega,hP⟩ hn
def As{u w:P2}{y:Rat}(h:(u.2<y/\y<w.2)\/(w.2<y/\y<u.2)) :
  ∃t,0<t/\t<1/\(cv u w t).2=y/\∀q:P2,q.2=y->tn u w q=(w.2-u.2)*((cv u w t).1-q.1):=by
 have hD:w.2-u.2≠0:=by grind
 have hi:(w.2-u.2)*(w.2-u.2)⁻¹=1:=Xv _ hD;have ht:((y-u.2)*(w.2-u.2)⁻¹)*(w.2-u.2)=y-u.2:=by grind
 generalize(y-u.2)*(w.2-u.2)⁻¹=t at ht;have t0:0<t:=by
  refine U6 fun hc=>?_;rcases h with h|h
  have:=cb (show 0<=-t by grind) (show 0<=w.2-u.2 by grind)
  grind
  have:=cb (show 0<=-t by grind) (show 0<=u.2-w.2 by grind)
  grind
 have t1:t<1:=by
  refine U6 fun hc=>?_;rcases h with h|h
  have:=cb (show 0<=t-1 by grind) (show 0<=w.2-u.2 by grind)
  grind
  have:=cb (show 0<=t-1 by grind) (show 0<=u.2-w.2 by grind)
  grind
 refine⟨t,t0,t1,by unfold cv; grind,fun q hq=>?_⟩
 unfold tn cv;rw[hq]
 grind
section
variable{n:Nat}{v:Nat->P2}
def dd(u w:P2)(y:Rat):Int:=if u.2<y/\y<w.2 then 1 else if w.2<y/\y<u.2 then -1 else 0
def BJ{u w:P2}{y:Rat}(hu:u.2≠y)(hw:w.2≠y):∃X:Rat,(∀q:P2,q.2=y->we u w q=if q.1<X then dd u w y else 0)/\(dd u w y≠0->∃t,0<t/\t<1/\cv u w t=(X,y)):=by
 by_cases h1:u.2<y/\y<w.2
 obtain⟨t,t0,t1,t2,t3⟩:=As (.inl h1);refine⟨(cv u w t).1,fun q hq=>?_,fun _=>⟨t,t0,t1,VN rfl t2⟩⟩;unfold dd;rw[kK (by grind) (by grind),U5 h1,t3 q hq]
 by_cases hx:q.1<(cv u w t).1
 rw[U5 hx,U5 (bt (by grind) (by grind))]
 rw[U3 hx,U3];have:=dC (show 0<=w.2-u.2 by grind) (show(cv u w t).1-q.1<=0 by grind)
 grind
 by_cases h2:w.2<y/\y<u.2
 obtain⟨t,t0,t1,t2,t3⟩:=As (.inr h2);refine⟨(cv u w t).1,fun q hq=>?_,fun _=>⟨t,t0,t1,VN rfl t2⟩⟩;unfold dd;rw[lW w u,kK (by grind) (by grind),U3 h1,U5 h2,kA u w,t3 q hq]
 by_cases hx:q.1<(cv u w t).1
 have:=bt (show 0<u.2-w.2 by grind) (show 0<(cv u w t).1-q.1 by grind)
 rw[U5 hx,U5 (by grind)]
 have:=dC (show 0<=u.2-w.2 by grind) (show(cv u w t).1-q.1<=0 by grind)
 rw[U3 hx,U3 (by grind)]; rfl
 have e:dd u w y=0:=by unfold dd; rw[U3 h1,U3 h2]
 refine⟨0,fun q hq=>?_,fun h=>Vr e h⟩;rw[e,ite_self,fB (by grind) (by grind)]
end
abbrev I2:=Int×Int
def ti(a b c:I2):Int:=(b.1-a.1)*(c.2-a.2)-(b.2-a.2)*(c.1-a.1)
def ca(a:I2):P2:=((a.1:Rat),(a.2:Rat))
def mK(a b c:I2):tn (ca a) (ca b) (ca c)=((ti a b c:Int):Rat):=by
 unfold tn ca ti;simp only[Rat.intCast_sub,Wu]
def dR{x y:Int}:(x:Rat)<(y:Rat)↔x<y:=Rat.intCast_lt_intCast
def vG{x y:Int}:(x:Rat)<=(y:Rat)↔x<=y:=Rat.intCast_le_intCast
def eJ{x:Int}:(0:Rat)<(x:Rat)↔0<x:=by
 have:=@dR 0 x
 simpa using this
def ky{x:Int}:(x:Rat)<0↔x<0:=by
 have:=@dR x 0
 simpa using this
def dU(a b p:I2):ti b a p = -ti a b p:=by unfold ti; grind
def uz(a b c:I2):ti b c a=ti a b c:=by unfold ti; grind
def Nh(a p:I2):ti a a p=0:=by unfold ti; grind
def yW(a b:I2):ti a b a=0:=by unfold ti; grind
def zo(a b:I2):ti a b b=0:=by unfold ti; grind
def tX(a b c d:I2):ti a b d-ti a b c=ti c d a-ti c d b:=by unfold ti; grind
def cD(a b p:I2):Prop:=ti a b p=0/\min a.1 b.1<=p.1/\p.1<=max a.1 b.1/\min a.2 b.2<=p.2/\p.2<=max a.2 b.2
instance(a b p:I2):Decidable (cD a b p):=by unfold cD; infer_instance
def cD.swap{a b p:I2}(h:cD a b p):cD b a p:=by
 obtain⟨h1,h2⟩:=h;exact⟨by rw[dU,h1]; rfl,by omega⟩
def vn{a b p:I2}:cD a b p↔cD b a p:=⟨cD.swap,cD.swap⟩
def mQ(a b:I2):cD a b a:=⟨yW a b,by omega⟩
def mP(a b:I2):cD a b b:=⟨zo a b,by omega⟩
def DR{a b p:I2}(h:a.1<b.1):cD a b p↔ti a b p=0/\a.1<=p.1/\p.1<=b.1:=by
 refine⟨fun⟨h1,h2⟩=>⟨h1,by omega⟩,fun⟨h1,h2,h3⟩=>⟨h1,by omega,by omega,?_,?_⟩⟩
 all_goals
  unfold ti at h1;have e1:(b.1-a.1)*(p.2-a.2)=(b.2-a.2)*(p.1-a.1):=by omega
  have e2:(b.1-a.1)*(b.2-p.2)=(b.2-a.2)*(b.1-p.1):=by grind
  by_cases hy:a.2<=b.2
  have m1:0<=(b.1-a.1)*(p.2-a.2):=by rw[e1]; exact VP (by omega) (by omega)
  have m2:0<=(b.1-a.1)*(b.2-p.2):=by rw[e2]; exact VP (by omega) (by omega)
  have k1:=Xe m1 (by omega)
  have k2:=Xe m2 (by omega)
  omega
  have m1:0<=(b.1-a.1)*(a.2-p.2):=by
   rw[show(b.1-a.1)*(a.2-p.2)=(a.2-b.2)*(p.1-a.1) by grind]; exact VP (by omega) (by omega)
  have m2:0<=(b.1-a.1)*(p.2-b.2):=by
   rw[show(b.1-a.1)*(p.2-b.2)=(a.2-b.2)*(b.1-p.1) by grind]; exact VP (by omega) (by omega)
  have k1:=Xe m1 (by omega)
  have k2:=Xe m2 (by omega)
  omega
def Ia{a b p:I2}(h:a.1=b.1)(hab:a≠b):cD a b p↔p.1=a.1/\min a.2 b.2<=p.2/\p.2<=max a.2 b.2:=by
 have hy:a.2≠b.2:=fun e=>hab (VN h e);refine⟨fun⟨_,h2⟩=>by omega,fun⟨h1,h2⟩=>⟨?_,by omega⟩⟩
 unfold ti;rw[h1,<-h]; grind
def qm{a b p:I2}(h:a.1=b.1)(hab:a≠b)(h0:ti a b p=0):p.1=a.1:=by
 have hy:b.2-a.2≠0:=fun e=>hab (VN h (by omega))
 unfold ti at h0;rw[h,Int.sub_self,Int.zero_mul] at h0;have:(b.2-a.2)*(p.1-b.1)=0:=by omega
 rcases Wp.1 this with e|e
 exact Vr e hy
 omega
def lu{a b p q:I2}(h:a.1≠b.1)(hp:ti a b p=0)(hq:ti a b q=0)(e:p.1=q.1):p=q:=by
 have:(b.1-a.1)*(p.2-q.2)=0:=by unfold ti at hp hq; rw[e] at hp; grind
 rcases Wp.1 this with e'|e'
 omega
 exact VN e (by omega)
def Lx(a b:I2):Prop:=a.1<b.1\/a.1=b.1/\a.2<=b.2
def qp{a b p:I2}(hab:a≠b)(h:Lx a b):cD a b p↔ti a b p=0/\Lx a p/\Lx p b:=by
 unfold Lx at *
 by_cases hx:a.1<b.1
 rw[DR hx];refine⟨fun⟨h1,h2,h3⟩=>⟨h1,?_,?_⟩,fun⟨h1,h2,h3⟩=>⟨h1,by omega,by omega⟩⟩
 by_cases e:p.1=a.1
 have:=lu (by omega) h1 (yW a b) e
 rw[this]; omega
 omega
 by_cases e:p.1=b.1
 have:=lu (by omega) h1 (zo a b) e
 rw[this]; omega
 omega
 have e:a.1=b.1:=by omega
 rw[Ia e hab];refine⟨fun⟨h1,h2⟩=>⟨?_,by omega,by omega⟩,fun⟨h1,h2,h3⟩=>?_⟩
 unfold ti; rw[h1,<-e]; grind
 have:=qm e hab h1;omega
def oJ{a b c d:I2}(hab:a≠b)(hc:ti a b c=0)(hn:¬cD a b c)(hd:ti a b d≠0):(0<ti c d a/\0<ti c d b)\/(ti c d a<0/\ti c d b<0):=by
 have four:=tX a b c d;have key:∀A B s t:Int,s*B=A*t->0<A*B->s-t≠0->(0<s/\0<t)\/(s<0/\t<0):=by
  intro A B s t e hAB hst;have hB:B≠0:=fun h=>by rw[h,WT] at hAB; omega
  have hA:A≠0:=fun h=>by rw[h,Int.zero_mul] at hAB; omega
  have ht:t≠0:=fun h=>by
   rw[h,WT] at e;rcases Wp.1 e with h'|h'
   omega
   exact hB h'
  have hs:s≠0:=fun h=>by
   rw[h,Int.zero_mul] at e;rcases Wp.1 e.symm with h'|h'
   exact hA h'
   exact ht h'
  have hp:0<s*t:=by
   have e2:s*t*(B*B)=(A*B)*(t*t):=by
    rw[show s*t*(B*B)=(s*B)*(t*B) by grind,e]; grind
   have h1:0<(A*B)*(t*t):=Wq hAB (by
    rcases Int.lt_or_lt_of_ne ht with h|h
    exact Xa h h
    exact Wq h h)
   rw[<-e2] at h1;have h2:0<B*B:=by
    rcases Int.lt_or_lt_of_ne hB with h|h
    exact Xa h h
    exact Wq h h
   exact Int.pos_of_mul_pos_left h1 h2
  rcases Int.lt_or_lt_of_ne hs with h|h
  right
  refine⟨h,?_⟩;refine U6 fun hc=>?_;have:=Wq (show 0 < -s by omega) (show 0<t by omega)
  rw[Int.neg_mul] at this;omega
  left
  refine⟨h,?_⟩;refine U6 fun hc=>?_;have:=Wq h (show 0 < -t by omega)
  rw[Int.mul_neg] at this;omega
 have hst:ti c d a-ti c d b≠0:=by omega
 have e0:(a.1-c.1)*(b.2-c.2)=(a.2-c.2)*(b.1-c.1):=by unfold ti at hc; grind
 have ex:ti c d a*(b.1-c.1)=(a.1-c.1)*ti c d b:=by
  unfold ti;generalize d.1-c.1=x at *;generalize d.2-c.2=y at *;generalize a.1-c.1=A at *;generalize b.1-c.1=B at *;generalize a.2-c.2=C at *;generalize b.2-c.2=D at *
  grind
 have ey:ti c d a*(b.2-c.2)=(a.2-c.2)*ti c d b:=by
  unfold ti;generalize d.1-c.1=x at *;generalize d.2-c.2=y at *;generalize a.1-c.1=A at *;generalize b.1-c.1=B at *;generalize a.2-c.2=C at *;generalize b.2-c.2=D at *
  grind
 have hout:0<(a.1-c.1)*(b.1-c.1)\/0<(a.2-c.2)*(b.2-c.2):=by
  refine U6 fun hh=>hn ⟨hc,?_⟩;have pos:∀{x y:Int},0<x->0<y->0<x*y:=Wq;have neg:∀{x y:Int},x<0->y<0->0<x*y:=Xa;have n1:¬(0<a.1-c.1/\0<b.1-c.1):=fun h=>hh (.inl (pos h.1 h.2));have n2:¬(a.1-c.1<0/\b.1-c.1<0):=fun h=>hh (.inl (neg h.1 h.2));have n3:¬(0<a.2-c.2/\0<b.2-c.2):=fun h=>hh (.inr (pos h.1 h.2));have n4:¬(a.2-c.2<0/\b.2-c.2<0):=fun h=>hh (.inr (neg h.1 h.2));omega
 rcases hout with h|h
 exact key _ _ _ _ ex h hst
 exact key _ _ _ _ ey h hst
def gO(a b c d x:I2):Prop:=(x=a\/x=b\/x=c\/x=d)/\cD a b x/\cD c d x
def low(a b c d:I2):Int:=if a.1=b.1 then max (min a.2 b.2) (min c.2 d.2)-min (max a.2 b.2) (max c.2 d.2) else max (min a.1 b.1) (min c.1 d.1)-min (max a.1 b.1) (max c.1 d.1)
def L9{a b c d:I2}(hab:a≠b)(hcd:c≠d)(hc:ti a b c=0)(hd:ti a b d=0):∃f:I2->Int,low a b c d=max (min (f a) (f b)) (min (f c) (f d))-min (max (f a) (f b)) (max (f c) (f d)) /\
  (∀x y,ti a b x=0->ti a b y=0->f x=f y->x=y)/\(∀x,cD a b x↔ti a b x=0/\min (f a) (f b)<=f x/\f x<=max (f a) (f b))/\(∀x,ti a b x=0->(cD c d x↔min (f c) (f d)<=f x/\f x<=max (f c) (f d))):=by
 by_cases h:a.1=b.1
 have h3:=qm h hab hc;have h4:=qm h hab hd;refine⟨fun x=>x.2,by unfold low; rw[U5 h],fun x y hx hy e=>VN ((qm h hab hx).trans (qm h hab hy).symm) e,fun x=>?_,fun x hx=>?_⟩
 rw[Ia h hab];refine⟨fun⟨h0,h1⟩=>⟨?_,h1⟩,fun⟨h0,h1⟩=>⟨qm h hab h0,h1⟩⟩;unfold ti; rw[h0,<-h]; grind
 rw[Ia (by omega) hcd]
 have:=qm h hab hx;exact⟨fun h=>h.2,fun h=>⟨by omega,h⟩⟩
 have h2:c.1≠d.1:=fun e=>hcd (lu h hc hd e);have dir:∀x,ti a b x=0->ti c d x=0:=fun x hx=>by
  have e0:(b.1-a.1)*(c.2-a.2)=(b.2-a.2)*(c.1-a.1):=by unfold ti at hc; omega
  have e2:(b.1-a.1)*(d.2-a.2)=(b.2-a.2)*(d.1-a.1):=by unfold ti at hd; omega
  have e1:(b.1-a.1)*(x.2-a.2)=(b.2-a.2)*(x.1-a.1):=by unfold ti at hx; omega
  have:(b.1-a.1)*ti c d x=0:=by
   unfold ti;have:(b.1-a.1)*((d.1-c.1)*(x.2-c.2)-(d.2-c.2)*(x.1-c.1))=(d.1-c.1)*((b.1-a.1)*(x.2-a.2)-(b.1-a.1)*(c.2-a.2))-((b.1-a.1)*(d.2-a.2)-(b.1-a.1)*(c.2-a.2))*(x.1-c.1):=by grind
   rw[this,e0,e2,e1]; grind
  rcases Wp.1 this with e|e
  omega
  exact e
 have gen:∀{u w:I2},u.1≠w.1->∀x,(cD u w x↔ti u w x=0/\min u.1 w.1<=x.1/\x.1<=max u.1 w.1):=fun{u w} huw x=>by
  by_cases hl:u.1<w.1
  rw[DR hl]; refine⟨fun⟨h0,h1⟩=>⟨h0,by omega⟩,fun⟨h0,h1⟩=>⟨h0,by omega⟩⟩
  rw[vn,DR (by omega),dU]; refine⟨fun⟨h0,h1⟩=>⟨by omega,by omega⟩,fun⟨h0,h1⟩=>⟨by omega,by omega⟩⟩
 refine⟨fun x=>x.1,by unfold low; rw[U3 h],fun x y hx hy e=>lu h hx hy e,gen h,fun x hx=>?_⟩
 rw[gen h2];exact⟨fun h=>h.2,fun h=>⟨dir x hx,h⟩⟩
def IW{a b c d:I2}(hab:a≠b)(hcd:c≠d)(hc:ti a b c=0)(hd:ti a b d=0) :
  (0<low a b c d↔∀x,¬gO a b c d x)/\(low a b c d<0↔∃x y,gO a b c d x/\gO a b c d y/\x≠y):=by
 obtain⟨f,e,hi,h1,h2⟩:=L9 hab hcd hc hd;have ha0:=yW a b;have hb0:=zo a b;have hfab:f a≠f b:=fun h=>hab (hi a b ha0 hb0 h);have hfcd:f c≠f d:=fun h=>hcd (hi c d hc hd h);have Gt:∀x,gO a b c d x↔(x=a\/x=b\/x=c\/x=d)/\(min (f a) (f b)<=f x/\f x<=max (f a) (f b))/\(min (f c) (f d)<=f x/\f x<=max (f c) (f d)):=fun x=>by
  unfold gO;refine⟨fun⟨h,g1,g2⟩=>⟨h,((h1 x).1 g1).2,(h2 x ((h1 x).1 g1).1).1 g2⟩,fun⟨h,g1,g2⟩=>?_⟩;have hx:ti a b x=0:=by rcases h with rfl|rfl|rfl|rfl<;>assumption
  exact⟨h,(h1 x).2 ⟨hx,g1⟩,(h2 x hx).2 g2⟩
 rw[e];have lo:∃x,(x=a\/x=b\/x=c\/x=d)/\f x=max (min (f a) (f b)) (min (f c) (f d)):=by
  by_cases g1:f a<=f b<;>by_cases g2:f c<=f d
  by_cases g3:f a<=f c
  exact⟨c,by simp,by omega⟩
  exact⟨a,by simp,by omega⟩
  by_cases g3:f a<=f d
  exact⟨d,by simp,by omega⟩
  exact⟨a,by simp,by omega⟩
  by_cases g3:f b<=f c
  exact⟨c,by simp,by omega⟩
  exact⟨b,by simp,by omega⟩
  by_cases g3:f b<=f d
  exact⟨d,by simp,by omega⟩
  exact⟨b,by simp,by omega⟩
 have hi':∃x,(x=a\/x=b\/x=c\/x=d)/\f x=min (max (f a) (f b)) (max (f c) (f d)):=by
  by_cases g1:f a<=f b<;>by_cases g2:f c<=f d
  by_cases g3:f b<=f d
  exact⟨b,by simp,by omega⟩
  exact⟨d,by simp,by omega⟩
  by_cases g3:f b<=f c
  exact⟨b,by simp,by omega⟩
  exact⟨c,by simp,by omega⟩
  by_cases g3:f a<=f d
  exact⟨a,by simp,by omega⟩
  exact⟨d,by simp,by omega⟩
  by_cases g3:f a<=f c
  exact⟨a,by simp,by omega⟩
  exact⟨c,by simp,by omega⟩
 obtain⟨x,x1,x2⟩:=lo;obtain⟨y,y1,y2⟩:=hi';constructor
 refine⟨fun h z hz=>?_,fun h=>?_⟩
 have:=(Gt z).1 hz;omega
 refine U6 fun hc=>h x ((Gt x).2 ⟨x1,by omega,by omega⟩)
 refine⟨fun h=>⟨x,y,(Gt x).2 ⟨x1,by omega,by omega⟩,(Gt y).2 ⟨y1,by omega,by omega⟩,fun e=>by rw[e] at x2; omega⟩,fun⟨z,w,hz,hw,hne⟩=>?_⟩
 refine U6 fun hc=>hne (hi z w ?_ ?_ ?_)
 exact hz.2.1.1
 exact hw.2.1.1
 have:=(Gt z).1 hz;have:=(Gt w).1 hw;omega
def qF{a b c d:I2}(hab:a≠b)(hcd:c≠d)(hn:∀x,¬gO a b c d x)
  (hx:¬(((0<ti a b c/\ti a b d<0)\/(ti a b c<0/\0<ti a b d))/\((0<ti c d a/\ti c d b<0)\/(ti c d a<0/\0<ti c d b)))):Sep (ca a) (ca b) (ca c) (ca d):=by
 have na:¬cD c d a:=fun h=>hn a ⟨.inl rfl,mQ a b,h⟩;have nb:¬cD c d b:=fun h=>hn b ⟨.inr (.inl rfl),mP a b,h⟩;have nc:¬cD a b c:=fun h=>hn c ⟨.inr (.inr (.inl rfl)),h,mQ c d⟩;have nd:¬cD a b d:=fun h=>hn d ⟨.inr (.inr (.inr rfl)),h,mP c d⟩;have byab:(0<ti a b c/\0<ti a b d)\/(ti a b c<0/\ti a b d<0)->Sep (ca a) (ca b) (ca c) (ca d):=by
  rintro(⟨h1,h2⟩|⟨h1,h2⟩)
  exact hJ (σ:=1) (by rw[mK]; have:=eJ.2 h1; grind) (by rw[mK]; have:=eJ.2 h2; grind)
  exact hJ (σ:=-1) (by rw[mK]; have:=ky.2 h1; grind) (by rw[mK]; have:=ky.2 h2; grind)
 have bycd:(0<ti c d a/\0<ti c d b)\/(ti c d a<0/\ti c d b<0)->Sep (ca a) (ca b) (ca c) (ca d):=by
  intro h;have h':Sep (ca c) (ca d) (ca a) (ca b):=by
   rcases h with⟨h1,h2⟩|⟨h1,h2⟩
   exact hJ (σ:=1) (by rw[mK]; have:=eJ.2 h1; grind) (by rw[mK]; have:=eJ.2 h2; grind)
   exact hJ (σ:=-1) (by rw[mK]; have:=ky.2 h1; grind) (by rw[mK]; have:=ky.2 h2; grind)
  obtain⟨α,β,γ,g1,g2,g3,g4⟩:=h';exact⟨-α,-β,-γ,by unfold af at *; grind,by unfold af at *; grind,by unfold af at *; grind,by unfold af at *; grind⟩
 have four:=tX a b c d
 by_cases hc:ti a b c=0
 by_cases hd:ti a b d=0
 
 have hl:=(IW hab hcd hc hd).1.2 hn;unfold low at hl;have split:∀{x1 x2 x3 x4:Int},0<max (min x1 x2) (min x3 x4)-min (max x1 x2) (max x3 x4)->(x1<x3/\x1<x4/\x2<x3/\x2<x4)\/(x3<x1/\x4<x1/\x3<x2/\x4<x2):=by
  intro x1 x2 x3 x4 h; omega
 split at hl
 rcases split hl with⟨h1,h2,h3,h4⟩|⟨h1,h2,h3,h4⟩
 have h1:=dR.2 h1; have h2:=dR.2 h2; have h3:=dR.2 h3; have h4:=dR.2 h4
 by_cases hm:(a.2:Rat)<=(b.2:Rat)
 refine pA 0 (-1) (b.2:Rat) ?_ ?_ ?_ ?_<;>(unfold af ca; grind)
 refine pA 0 (-1) (a.2:Rat) ?_ ?_ ?_ ?_<;>(unfold af ca; grind)
 have h1:=dR.2 h1; have h2:=dR.2 h2; have h3:=dR.2 h3; have h4:=dR.2 h4
 by_cases hm:(a.2:Rat)<=(b.2:Rat)
 refine pA 0 1 (-(a.2:Rat)) ?_ ?_ ?_ ?_<;>(unfold af ca; grind)
 refine pA 0 1 (-(b.2:Rat)) ?_ ?_ ?_ ?_<;>(unfold af ca; grind)
 rcases split hl with⟨h1,h2,h3,h4⟩|⟨h1,h2,h3,h4⟩
 have h1:=dR.2 h1; have h2:=dR.2 h2; have h3:=dR.2 h3; have h4:=dR.2 h4
 by_cases hm:(a.1:Rat)<=(b.1:Rat)
 refine pA (-1) 0 (b.1:Rat) ?_ ?_ ?_ ?_<;>(unfold af ca; grind)
 refine pA (-1) 0 (a.1:Rat) ?_ ?_ ?_ ?_<;>(unfold af ca; grind)
 have h1:=dR.2 h1; have h2:=dR.2 h2; have h3:=dR.2 h3; have h4:=dR.2 h4
 by_cases hm:(a.1:Rat)<=(b.1:Rat)
 refine pA 1 0 (-(a.1:Rat)) ?_ ?_ ?_ ?_<;>(unfold af ca; grind)
 refine pA 1 0 (-(b.1:Rat)) ?_ ?_ ?_ ?_<;>(unfold af ca; grind)
 exact bycd (oJ hab hc nc hd)
 by_cases hd:ti a b d=0
 have:=oJ (c:=d) (d:=c) hab hd nd hc;rw[dU c d,dU c d] at this;exact bycd (by omega)
 by_cases ha:ti c d a=0
 by_cases hb:ti c d b=0
 
 exact byab (by omega)
 have:=oJ (a:=c) (b:=d) (c:=a) (d:=b) hcd ha na hb;exact byab this
 by_cases hb:ti c d b=0
 have:=oJ (a:=c) (b:=d) (c:=b) (d:=a) hcd hb nb ha;rw[dU a b,dU a b] at this;exact byab (by omega)
 by_cases h1:(0<ti a b c/\0<ti a b d)\/(ti a b c<0/\ti a b d<0)
 exact byab h1
 exact bycd (by omega)
def di(a b c:I2):Int:=(b.1-a.1)*(c.1-b.1)+(b.2-a.2)*(c.2-b.2)
def NM(a b c d:I2):Prop:=(∀x,¬gO a b c d x)/\¬(((0<ti a b c/\ti a b d<0)\/(ti a b c<0/\0<ti a b d))/\((0<ti c d a/\ti c d b<0)\/(ti c d a<0/\0<ti c d b)))
def nx(r:YB I2)(i:Nat):I2:=r.getD (i%r.length) (0,0)
structure VR(r:YB I2):Prop where
 n3:2<r.length
 still:∀i,nx r i≠nx r (i+1)
 spike:∀i,¬(ti (nx r i) (nx r (i+1)) (nx r (i+2))=0/\di (nx r i) (nx r (i+1)) (nx r (i+2))<0)
 meet:∀j i,j+1<i->i<r.length->¬(j=0/\i+1=r.length)->NM (nx r j) (nx r (j+1)) (nx r i) (nx r (i+1))
def Pm{a b:I2}(h:ca a=ca b):a=b:=by
 unfold ca at h;have h1:=Rat.intCast_inj.1 (Vs Prod.fst h);have h2:=Rat.intCast_inj.1 (Vs Prod.snd h);exact VN h1 h2
def Sep.symm{a b p q:P2}(h:Sep a b p q):Sep p q a b:=by
 obtain⟨α,β,γ,g1,g2,g3,g4⟩:=h;exact⟨-α,-β,-γ,by unfold af at *; grind,by unfold af at *; grind,by unfold af at *; grind,by unfold af at *; grind⟩
def NU{x:Int}:0<=x*x:=by
 rcases Int.le_total 0 x with h|h
 exact VP h h
 exact Wb h h
def Mm{x:Int}(h:x*x=0):x=0:=by
 rcases Wp.1 h with h|h<;>exact h
def GM{a b c:I2}(hab:a≠b)(hbc:b≠c)(h0:ti a b c=0)(h:¬di a b c<0):0<di a b c:=by
 refine U6 fun hc=>?_;have hd:di a b c=0:=by omega
 have e1:(b.1-a.1)*(c.2-b.2)-(b.2-a.2)*(c.1-b.1)=0:=by rw[<-h0]; unfold ti; grind
 unfold di at hd;generalize hx:b.1-a.1=x at *;generalize hy:b.2-a.2=y at *;generalize hz:c.1-b.1=z at *;generalize hw:c.2-b.2=w at *;have f1:(x*x+y*y)*z=0:=by
  have:(x*x+y*y)*z=x*(x*z+y*w)-y*(x*w-y*z):=by grind
  rw[this,hd,e1]; simp
 have f2:(x*x+y*y)*w=0:=by
  have:(x*x+y*y)*w=y*(x*z+y*w)+x*(x*w-y*z):=by grind
  rw[this,hd,e1]; simp
 have hp:x*x+y*y≠0:=fun e=>by
  have s1:=@NU x;have s2:=@NU y;have g1:=Mm (show x*x=0 by omega)
  have g2:=Mm (show y*y=0 by omega)
  exact hab (VN (by omega) (by omega))
 refine hbc (VN ?_ ?_)
 rcases Wp.1 f1 with e|e
 exact Vr e hp
 omega
 rcases Wp.1 f2 with e|e
 exact Vr e hp
 omega
def VR.simple{r:YB I2}(h:VR r):Simple r.length fun i=>ca (nx r i):=by
 have hn:=h.n3;have per:∀i,nx r (i+r.length)=nx r i:=fun i=>by unfold nx; rw[Nat.add_mod_right]
 refine⟨hn,?_,?_,fun i _ e=>h.still i (Pm e),fun i _=>?_,fun i j hi hj h1 h2 h3 h4 h5=>?_⟩
 show ca (nx r r.length)=ca (nx r 0)
 have:=per 0;rw[VC] at this;rw[this]
 show ca (nx r (r.length+1))=ca (nx r 1)
 rw[Nat.add_comm,per]
 have e:dt (ca (nx r i)) (ca (nx r (i+1))) (ca (nx r (i+2)))=((di (nx r i) (nx r (i+1)) (nx r (i+2)):Int):Rat):=by
  unfold dt ca di;simp only[Rat.intCast_sub,Wu,Xm]
 by_cases h0:ti (nx r i) (nx r (i+1)) (nx r (i+2))=0
 right
 show 0<dt (ca (nx r i)) (ca (nx r (i+1))) (ca (nx r (i+2)))
 rw[e,eJ];exact GM (h.still i) (h.still (i+1)) h0 fun hd=>h.spike i ⟨h0,hd⟩
 left
 show tn (ca (nx r i)) (ca (nx r (i+1))) (ca (nx r (i+2)))≠0
 rw[mK];exact fun e=>h0 (by have:=Rat.intCast_inj (a:=ti (nx r i) (nx r (i+1)) (nx r (i+2))) (b:=0); simpa using e)
 by_cases hl:i<j
 have m:=h.meet i j (by omega) hj (by omega)
 exact qF (h.still i) (h.still j) m.1 m.2
 have m:=h.meet j i (by omega) hi (by omega)
 exact(qF (h.still j) (h.still i) m.1 m.2).symm
def wi(a b p:I2):Int:=if a.2<=p.2/\p.2<b.2/\0<ti a b p then 1 else if b.2<=p.2/\p.2<a.2/\ti a b p<0 then -1 else 0
def R1(a b p:I2):we (ca a) (ca b) (ca p)=wi a b p:=by
 have e1:((ca a).2<=(ca p).2)↔a.2<=p.2:=vG;have e2:((ca p).2<(ca b).2)↔p.2<b.2:=dR;have e3:((ca b).2<=(ca p).2)↔b.2<=p.2:=vG;have e4:((ca p).2<(ca a).2)↔p.2<a.2:=dR;unfold we wi;simp only[e1,e2,e3,e4,mK,eJ,ky]
def iz{a b p:I2}(h:(a.2<=p.2/\p.2<b.2)\/(b.2<=p.2/\p.2<a.2))(h0:ti a b p=0):cD a b p:=by
 have sw:∀{a b p:I2},a.2<b.2->a.2<=p.2->p.2<=b.2->ti a b p=0->cD a b p:=by
  intro a b p h1 h2 h3 h0;have h0':ti (a.2,a.1) (b.2,b.1) (p.2,p.1)=0:=by unfold ti at *; grind
  have:=(DR (a:=(a.2,a.1)) (b:=(b.2,b.1)) (p:=(p.2,p.1)) h1).2 ⟨h0',h2,h3⟩;exact⟨h0,this.2.2.2.1,this.2.2.2.2,this.2.1,this.2.2.1⟩
 rcases h with h|h
 exact sw (by omega) (by omega) (by omega) h0
 exact(sw (a:=b) (b:=a) (by omega) (by omega) (by omega) (by rw[dU,h0]; rfl)).swap
def cJ(r:YB I2)(p:I2):Int:=aY r.length fun i=>wi (nx r i) (nx r (i+1)) p
def Jw(a b p:I2):wi a b p=0\/wi a b p=1\/wi a b p = -1:=by
 unfold wi
 split
 omega
 split<;>omega
def vq(a b c d:I2):Prop:=((0<ti a b c/\ti a b d<0)\/(ti a b c<0/\0<ti a b d))/\((0<ti c d a/\ti c d b<0)\/(ti c d a<0/\0<ti c d b))
section
variable{a b c d:I2}
noncomputable def k5 (a b c d:I2):Int:=open Classical in if ∃x y,gO a b c d x/\gO a b c d y/\x≠y then 3 else if ∃x,gO a b c d x then 1 else if vq a b c d then 2 else 0
def zu:k5 a b c d=0↔NM a b c d:=by
 classical
 unfold k5 NM;constructor
 intro h
 by_cases h1:∃x y,gO a b c d x/\gO a b c d y/\x≠y
 rw[U5 h1] at h; exact Vr h (by decide)
 rw[U3 h1] at h
 by_cases h2:∃x,gO a b c d x
 rw[U5 h2] at h; exact Vr h (by decide)
 rw[U3 h2] at h
 by_cases h3:vq a b c d
 rw[U5 h3] at h; exact Vr h (by decide)
 exact⟨fun x hx=>h2 ⟨x,hx⟩,h3⟩
 rintro⟨h1,h2⟩;rw[U3 (fun⟨x,_,hx,_⟩=>h1 x hx),U3 (fun⟨x,hx⟩=>h1 x hx)];exact U3 h2
end
def sw(a:I2):I2:=(a.2,a.1)
def Nx(a b p:I2):ti (sw a) (sw b) (sw p) = -ti a b p:=by unfold ti sw; grind
def Sw(a b p:I2):di (sw a) (sw b) (sw p)=di a b p:=by unfold di sw; grind
def pc(a b p:I2):wi b a p = -wi a b p:=by
 have h:=dU a b p;unfold wi
 by_cases h1:a.2<=p.2/\p.2<b.2/\0<ti a b p
 rw[U5 h1,XP,XQ]
 by_cases h2:b.2<=p.2/\p.2<a.2/\ti a b p<0
 rw[U3 h1,U5 h2,XQ]; rfl
 rw[U3 h1,U3 h2,XP,XP]; rfl
def bh(f:I2->I2){r:YB I2}(h:r≠[])(i:Nat):nx (r.map f) i=f (nx r i):=by
 have hl:=Xp.2 h;unfold nx;rw[Vf];have hi:i%r.length<r.length:=VM _ hl;rw[U7,U7,VQ,U4 hi]; rfl
def lN{r:YB I2}:nx r r.length=nx r 0:=by unfold nx; rw[Nat.mod_self,Nat.zero_mod]
section
variable{a b c d:I2}
def oG{x:I2}:gO a b c d x↔gO c d a b x:=by
 unfold gO;constructor<;>rintro⟨h,g1,g2⟩<;>exact⟨by rcases h with h|h|h|h<;>simp[h],g2,g1⟩
def lB{x:I2}:gO a b c d x↔gO b a c d x:=by
 unfold gO;rw[vn (a:=a) (b:=b)];constructor<;>rintro⟨h,g⟩<;>exact⟨by rcases h with h|h|h|h<;>simp[h],g⟩
def Mh:vq a b c d↔vq c d a b:=by unfold vq; exact And.comm
def J8:vq a b c d↔vq b a c d:=by
 unfold vq;rw[dU a b c,dU a b d];constructor<;>rintro⟨h,g⟩<;>constructor<;>omega
def tR:k5 c d a b=k5 a b c d:=by
 classical
 have h1:(∃x y,gO c d a b x/\gO c d a b y/\x≠y)↔∃x y,gO a b c d x/\gO a b c d y/\x≠y :=
  ⟨fun⟨x,y,p,q,r⟩=>⟨x,y,oG.1 p,oG.1 q,r⟩,fun⟨x,y,p,q,r⟩=>⟨x,y,oG.1 p,oG.1 q,r⟩⟩
 have h2:(∃x,gO c d a b x)↔∃x,gO a b c d x:=⟨fun⟨x,p⟩=>⟨x,oG.1 p⟩,fun⟨x,p⟩=>⟨x,oG.1 p⟩⟩;unfold k5;simp only[h1,h2,Mh (a:=c) (b:=d) (c:=a) (d:=b)]
def nU:k5 b a c d=k5 a b c d:=by
 classical
 have h1:(∃x y,gO b a c d x/\gO b a c d y/\x≠y)↔∃x y,gO a b c d x/\gO a b c d y/\x≠y :=
  ⟨fun⟨x,y,p,q,r⟩=>⟨x,y,lB.1 p,lB.1 q,r⟩,fun⟨x,y,p,q,r⟩=>⟨x,y,lB.1 p,lB.1 q,r⟩⟩
 have h2:(∃x,gO b a c d x)↔∃x,gO a b c d x:=⟨fun⟨x,p⟩=>⟨x,lB.1 p⟩,fun⟨x,p⟩=>⟨x,lB.1 p⟩⟩;unfold k5;simp only[h1,h2,J8 (a:=b) (b:=a) (c:=c) (d:=d)]
end
def fw(r:YB I2):Int:=aY r.length fun i=>(nx r i).1*(nx r (i+1)).2-(nx r i).2*(nx r (i+1)).1
def iR(n:Nat)(f g:Nat->Int):aY n (fun i=>f i+g i)=aY n f+aY n g:=by
 induction n with
 | zero=>rfl
 | succ n ih=>simp only[aY]; rw[ih]; omega
def lH(c:Int)(n:Nat)(f:Nat->Int):aY n (fun i=>c*f i)=c*aY n f:=by
 induction n with
 | zero=>simp[aY]
 | succ n ih=>simp only[aY]; rw[ih,Xu]
def FJ(n:Nat)(f:Nat->Int):aY (n+1) f=f 0+aY n fun i=>f (i+1):=by
 induction n with
 | zero=>simp[aY]
 | succ n ih=>rw[aY,ih]; simp only[aY]; omega
def Hq(n:Nat)(f:Nat->Int):aY n (fun i=>f (n-1-i))=aY n f:=by
 induction n generalizing f with
 | zero=>rfl
 | succ n ih =>
  rw[FJ];simp only[aY];have:aY n (fun i=>f (n+1-1-(i+1)))=aY n f:=by
   rw[<-ih f];exact ay fun i _=>by congr 1; omega
  rw[this,show n+1-1-0=n by omega]; omega
structure Chg(f:I2->I2)(k d:Int):Prop where
 inj:∀{a b},f a=f b->a=b
 ti:∀a b c,ti (f a) (f b) (f c)=k*ti a b c
 di:∀a b c,di (f a) (f b) (f c)=d*di a b c
 kp:k≠0
 dp:0<d
 btw:∀{a b c},cD (f a) (f b) (f c)↔cD a b c
def jB{k x:Int}(h:0<k):0<k*x↔0<x:=⟨fun g=>Int.pos_of_mul_pos_right g h,fun g=>Wq h g⟩
def fC{k x:Int}(h:0<k):k*x<0↔x<0:=by
 have:=jB (x:=-x) h;rw[Int.mul_neg] at this;omega
section
variable{f:I2->I2}{k d:Int}
def Chg.Gt(h:Chg f k d){a b c d x:I2}:gO (f a) (f b) (f c) (f d) (f x)↔gO a b c d x:=by
 unfold gO;rw[h.btw,h.btw];constructor
 rintro⟨g,e⟩;exact⟨by rcases g with g|g|g|g<;>simp[h.inj g],e⟩
 rintro⟨g,e⟩;exact⟨by rcases g with g|g|g|g<;>simp[g],e⟩
def Chg.SQ(h:Chg f k d){a b c d:I2}:vq (f a) (f b) (f c) (f d)↔vq a b c d:=by
 unfold vq;rw[h.ti,h.ti,h.ti,h.ti];rcases Int.lt_or_gt_of_ne h.kp with g|g
 have e:∀x,k*x = -((-k)*x):=fun x=>by rw[Int.neg_mul]; omega
 have p:∀{x},0<k*x↔x<0:=fun{x}=>by rw[e]; have:=fC (k:=-k) (x:=x) (by omega); omega
 have n:∀{x},k*x<0↔0<x:=fun{x}=>by rw[e]; have:=jB (k:=-k) (x:=x) (by omega); omega
 rw[p,p,p,p,n,n,n,n]; omega
 rw[jB g,jB g,jB g,jB g,fC g,fC g,fC g,fC g]
def ze{a b c d:I2}:NM a b c d↔(∀x,¬gO a b c d x)/\¬vq a b c d:=Iff.rfl
def Chg.nm(h:Chg f k d){a b c d:I2}:NM (f a) (f b) (f c) (f d)↔NM a b c d:=by
 rw[ze,ze,h.SQ];refine and_congr_left fun _=>⟨fun g x hx=>g (f x) (h.Gt.2 hx),fun g x hx=>?_⟩;have:∃y,x=f y:=by
  rcases hx.1 with e|e|e|e<;>exact⟨_,e⟩
 obtain⟨y,rfl⟩:=this;exact g y (h.Gt.1 hx)
def Chg.vr(h:Chg f k d){r:YB I2}(v:VR r):VR (r.map f):=by
 have hr:r≠[]:=fun e=>by have:=v.n3; rw[e] at this; simp at this
 refine⟨by rw[Vf]; exact v.n3,fun i=>?_,fun i=>?_,fun j i h1 h2 h3=>?_⟩
 rw[bh f hr,bh f hr];exact fun e=>v.still i (h.inj e)
 rw[bh f hr,bh f hr,bh f hr,h.ti,h.di];rintro⟨e1,e2⟩;refine v.spike i ⟨?_,(fC h.dp).1 e2⟩;rcases Wp.1 e1 with e|e
 exact Vr e h.kp
 exact e
 rw[Vf] at h2 h3;rw[bh f hr,bh f hr,bh f hr,bh f hr,h.nm];exact v.meet j i h1 h2 h3
end
def pw(v:I2)(a:I2):I2:=(a.1+v.1,a.2+v.2)
def P8{a b c:I2}:cD (sw a) (sw b) (sw c)↔cD a b c:=by
 unfold cD;rw[Nx];unfold sw
 dsimp only
 omega
def yz:Chg sw (-1) 1:=by
 refine⟨fun{a b} h=>?_,fun a b c=>by rw[Nx]; omega,fun a b c=>by rw[Sw]; omega,by decide,by decide,P8⟩
 have h1:=Vs Prod.fst h;have h2:=Vs Prod.snd h;exact VN h2 h1
def bK(s:Int)(a:I2):I2:=(a.1*s,a.2*s)
def DD(s:Int)(a b c:I2):ti (bK s a) (bK s b) (bK s c)=s*s*ti a b c:=by unfold ti bK; grind
def k7{s x y:Int}(hs:0<s):x*s<=y*s↔x<=y:=⟨fun h=>Int.le_of_mul_le_mul_right h hs,fun h=>Wt h (WU hs)⟩
def DW{s:Int}(hs:0<s){a b c:I2}:cD (bK s a) (bK s b) (bK s c)↔cD a b c:=by
 have hss:s*s≠0:=by have:=Wq hs hs; omega
 have m1:∀x y z:Int,min (x*s) (y*s)<=z*s↔min x y<=z:=fun x y z=>by
  have h1:=k7 (x:=x) (y:=z) hs;have h2:=k7 (x:=y) (y:=z) hs;omega
 have m2:∀x y z:Int,z*s<=max (x*s) (y*s)↔z<=max x y:=fun x y z=>by
  have h1:=k7 (x:=z) (y:=x) hs;have h2:=k7 (x:=z) (y:=y) hs;omega
 unfold cD;rw[DD];unfold bK
 dsimp only
 rw[m1,m2,m1,m2];refine and_congr_left fun _=>⟨fun h=>?_,fun h=>by rw[h,WT]⟩
 rcases Wp.1 h with e|e
 exact Vr e hss
 exact e
def jw{s:Int}(hs:0<s):Chg (bK s) (s*s) (s*s):=by
 have hss:=Wq hs hs;refine⟨fun{a b} h=>?_,DD s,fun a b c=>by unfold di bK; grind,by omega,hss,DW hs⟩
 have h1:=Vs Prod.fst h;have h2:=Vs Prod.snd h;exact VN (Int.eq_of_mul_eq_mul_right (by omega) h1) (Int.eq_of_mul_eq_mul_right (by omega) h2)
def jh(r:YB I2){i j:Nat}(h:i%r.length=j%r.length):nx r i=nx r j:=by unfold nx; rw[h]
def dO(α β γ:Int)(x:I2):Int:=α*x.1+β*x.2+γ
def M7{α β γ:Int}{a b x:I2}(h:ti a b x=0):(b.1-a.1)*dO α β γ x=(b.1-x.1)*dO α β γ a+(x.1-a.1)*dO α β γ b:=by
 have e:(b.1-a.1)*dO α β γ x-((b.1-x.1)*dO α β γ a+(x.1-a.1)*dO α β γ b)=β*ti a b x:=by unfold dO ti; grind
 rw[h,WT] at e; omega
def Nv{α β γ:Int}{a b x:I2}(h:ti a b x=0):(b.2-a.2)*dO α β γ x=(b.2-x.2)*dO α β γ a+(x.2-a.2)*dO α β γ b:=by
 have e:(b.2-a.2)*dO α β γ x-((b.2-x.2)*dO α β γ a+(x.2-a.2)*dO α β γ b) = -α*ti a b x:=by unfold dO ti; grind
 rw[h,WT] at e; omega
def tK{u v w s t z:Int}(hw:0<w)(hu:0<=u)(hv:0<=v)(e:u+v=w)(hs:0<s)(ht:0<t)(h:w*z=u*s+v*t):0<z:=by
 have h1:0<=u*s:=VP hu (WU hs);have h2:0<=v*t:=VP hv (WU ht);have:0<w*z:=by
  rcases Int.lt_or_eq_of_le hu with g|g
  have:=Wq g hs; omega
  have:=Wq (show 0<v by omega) ht; omega
 exact Int.pos_of_mul_pos_right this hw
def EG{α β γ:Int}{a b x:I2}(h:cD a b x)(ha:0<dO α β γ a)(hb:0<dO α β γ b):0<dO α β γ x:=by
 obtain⟨h0,h1,h2,h3,h4⟩:=h;rcases W4 a.1 b.1 with g|g|g
 exact tK (w:=b.1-a.1) (u:=b.1-x.1) (v:=x.1-a.1) (by omega) (by omega) (by omega) (by omega) ha hb (M7 h0)
 rcases W4 a.2 b.2 with k|k|k
 exact tK (w:=b.2-a.2) (u:=b.2-x.2) (v:=x.2-a.2) (by omega) (by omega) (by omega) (by omega) ha hb (Nv h0)
 have:x=a:=VN (by omega) (by omega)
 rw[this]; exact ha
 refine tK (w:=a.2-b.2) (u:=a.2-x.2) (v:=x.2-b.2) (by omega) (by omega) (by omega) (by omega) hb ha (Nv ?_)
 rw[dU,h0]; rfl
 refine tK (w:=a.1-b.1) (u:=a.1-x.1) (v:=x.1-b.1) (by omega) (by omega) (by omega) (by omega) hb ha (M7 ?_)
 rw[dU,h0]; rfl
def zz(α β γ:Int)(x:I2):dO (-α) (-β) (-γ) x = -dO α β γ x:=by unfold dO; grind
def DL{α β γ:Int}{a b c d:I2}(ha:0<dO α β γ a)(hb:0<dO α β γ b)(hc:dO α β γ c<0)(hd:dO α β γ d<0):NM a b c d:=by
 refine⟨fun x hx=>?_,fun hx=>?_⟩
 have h1:=EG hx.2.1 ha hb;have h2:=EG (α:=-α) (β:=-β) (γ:=-γ) hx.2.2 (by rw[zz]; omega) (by rw[zz]; omega)
 rw[zz] at h2; omega
 have e:ti c d b*dO α β γ a-ti c d a*dO α β γ b = -(ti a b d*dO α β γ c-ti a b c*dO α β γ d):=by unfold dO ti; grind
 have f:=tX a b c d;generalize dO α β γ a=la at *;generalize dO α β γ b=lb at *;generalize dO α β γ c=lc at *;generalize dO α β γ d=ld at *;generalize ti a b c=s at *;generalize ti a b d=t at *;generalize ti c d a=u at *;generalize ti c d b=v at *;have pp:∀{x y:Int},0<x->0<y->0<x*y:=fun h g=>Wq h g;have pn:∀{x y:Int},0<x->y<0->x*y<0:=fun h g=>WM h g;have np:∀{x y:Int},x<0->0<y->x*y<0:=fun h g=>Int.mul_neg_of_neg_of_pos h g;have nn:∀{x y:Int},x<0->y<0->0<x*y:=fun h g=>Xa h g;obtain⟨h1|h1,h2|h2⟩:=hx
 have:=np h2.2 hb; omega
 have a1:=pp h2.2 ha; have a2:=np h2.1 hb; have a3:=nn h1.2 hc; have a4:=pn h1.1 hd; omega
 have a1:=np h2.2 ha; have a2:=pp h2.1 hb; have a3:=pn h1.2 hc; have a4:=nn h1.1 hd; omega
 have:=h1.1; omega
def wy(k:Nat):I2:=[(2,0),(2,1),(1,2),(0,2),(-1,2),(-2,1),(-2,0),(-2,-1),(-1,-2),(0,-2),(1,-2),(2,-1)].getD (k%12) (0,0)
def UQ(m:Int)(a:I2):I2:=(a.1*m,a.2*m)
structure Star(r:YB I2):Prop where
 n3:2<r.length
 dir:∃δ:Nat->Nat,(∀i,δ i < δ (i+1)/\δ (i+1)<=δ i+3)/\(∀i,δ (i+r.length)=δ i+12)/\∀i,∃m:Int,0<m/\nx r i=UQ m (wy (δ i))
section
variable{h:Nat->Int}(hp:∀ i, 1 <= h i)
include hp
omit hp in
theorem G7{a b c d:I2}{k:Int}(ha:k<a.1)(hb:k<b.1)(hc:c.1<=k)(hd:d.1<=k):NM a b c d :=
 DL (α:=2) (β:=0) (γ:=-(2*k+1)) (by unfold dO; omega) (by unfold dO; omega) (by unfold dO; omega) (by unfold dO; omega)
omit hp in
theorem IP{a b c d:I2}{y z:Int}(ha:a.2=y)(hb:b.2=y)(hc:c.2=z)(hd:d.2=z)(hyz:y≠z):NM a b c d:=by
 rcases Int.lt_or_gt_of_ne hyz with g|g
 exact DL (α:=0) (β:=-2) (γ:=y+z) (by unfold dO; omega) (by unfold dO; omega) (by unfold dO; omega) (by unfold dO; omega)
 exact DL (α:=0) (β:=2) (γ:=-(y+z)) (by unfold dO; omega) (by unfold dO; omega) (by unfold dO; omega) (by unfold dO; omega)
end
end Jd
namespace Go.Ab
open Go
end Go.Ab
namespace Go.Ab.W
open Go Go.Ab
section
variable{σ ρ τ:Type}
end
end Go.Ab.W
namespace Go.Ab.B
open Go Go.Ab Go.Ab.W
section
variable{α β σ ρ:Type}
def jm(a b:YA β):br true a b=a:=rfl
def ib(a b:YA β):br false a b=b:=rfl
def bf(a:YA β):gd true a=a:=rfl
def aj(x:α)(f:α->YA β):ob (some x) f=f x:=rfl
def aH{p:Prop}[Decidable p](h:p)(a b:YA β):br (decide p) a b=a:=by rw[Vc h]; rfl
def aF{p:Prop}[Decidable p](h:¬p)(a b:YA β):br (decide p) a b=b:=by rw[Vj h]; rfl
def Jm(c:Bool)(a b:YA β):br c a b=if c then a else b:=by cases c<;>rfl
def tq(c d:Bool):br c (some true) (some d)=some (c||d):=by cases c<;>rfl
def iD(c d:Bool):br c (some d) (some false)=some (c&&d):=by cases c<;>rfl
def fT{p:Prop}[Decidable p](h:p)(a:YA β):gd (decide p) a=a:=by rw[Vc h]; rfl
def aC{i n:Nat}(h:i<n):cM (i:Int) n=true:=Vc ⟨Int.natCast_nonneg i,by simpa using h⟩
def av{x:Int}(h1 : -9223372036854775808<=x)(h2:x<9223372036854775808):XN x=x:=wrap_i64 x h1 (by omega)
def aw{i:Nat}(h:i<4611686018427387904):XN ((i:Int)+1)=((i+1:Nat):Int):=by rw[av (by omega) (by omega)]; rfl
def fy{body:σ->YA (σ⊕ρ)}{n:Nat}{s s':σ}(h:body s=some (.inl s')):bL body (n+1) s=bL body n s':=by simp only[bL,h]
def fG{body:σ->YA (σ⊕ρ)}{n:Nat}{s:σ}{r:ρ}(h:body s=some (.inr r)):bL body (n+1) s=some r:=by simp only[bL,h]
end
def iI{u v B C:Int}(hB:0<=B)(hu1 : -B<=u)(hu2:u<=B)(hv1 : -C<=v)(hv2:v<=C) : -(B*C)<=u*v/\u*v<=B*C:=by
 have hC:0<=C:=by omega
 have h1:0<=(B-u)*(C-v):=VP (by omega) (by omega)
 have h2:0<=(B+u)*(C+v):=VP (by omega) (by omega)
 have h3:0<=(B-u)*(C+v):=VP (by omega) (by omega)
 have h4:0<=(B+u)*(C-v):=VP (by omega) (by omega)
 have e1:(B-u)*(C-v)=B*C-B*v-u*C+u*v:=by rw[Int.sub_mul,XA,XA]; omega
 have e2:(B+u)*(C+v)=B*C+B*v+u*C+u*v:=by rw[Int.add_mul,Xu,Xu]; omega
 have e3:(B-u)*(C+v)=B*C+B*v-u*C-u*v:=by rw[Int.sub_mul,Xu,Xu]; omega
 have e4:(B+u)*(C-v)=B*C-B*v+u*C-u*v:=by rw[Int.add_mul,XA,XA]; omega
 omega
def xq{α:Type}[DecidableEq α]:∀{l m:YB α},l.Nodup->(∀a∈l,a∈m)->l.length<=m.length
 | [],_,_,_=>V9 _
 | a::l,m,hn,hs=>by
  obtain⟨n1,n2⟩:=Ww.1 hn;have ha:=hs a Vp;have:=xq (l:=l) (m:=m.erase a) n2 fun b hb=>by
   have hne:b≠a:=fun e=>n1 (e▸hb);exact(List.mem_erase_of_ne hne).2 (hs b (Ve _ hb))
  rw[List.length_erase_of_mem ha] at this;have hp:0<m.length:=List.length_pos_of_mem ha;rw[VF]; omega
end Go.Ab.B
namespace Jd
def Lt(a b:I2):Prop:=a.1<b.1\/a.1=b.1/\a.2<b.2
instance(a b:I2):Decidable (Lt a b):=by unfold Lt; infer_instance
def Edge(Q:I2->Prop)(a b:I2):Prop:=Lt a b/\∀q,Q q->0<=ti a b q/\(ti a b q=0->¬Lt q a/\¬Lt b q)
inductive Stk(Q:I2->Prop):YB I2->Prop
 | one {a}:(∀q,Q q->¬Lt q a)->Q a->Stk Q [a]
 | more {a b st}:Edge Q a b->Q b->Stk Q (a::st)->Stk Q (b::a::st)
def Good(S:I2->Prop)(x y:I2):Prop:=x≠y/\S y/\∀q,S q->0<ti x y q\/q=x\/q=y\/(ti x y q=0/\0<di x q y)
inductive Way(S:I2->Prop):YB I2->Prop
 | one (a):Way S [a]
 | more {a b l}:Good S a b->Way S (b::l)->Way S (a::b::l)
def MT{u v w:I2}(h1:u.1*w.2=u.2*w.1)(h2:v.1*w.2=v.2*w.1)(g1:0<u.1*w.1+u.2*w.2)(g2:0<v.1*w.1+v.2*w.2):0<u.1*v.1+u.2*v.2:=by
 have e:(u.1*w.1+u.2*w.2)*(v.1*w.1+v.2*w.2)=(u.1*v.1+u.2*v.2)*(w.1*w.1+w.2*w.2):=by grind
 have p:=Wq g1 g2;rw[e] at p;have n:0<=w.1*w.1+w.2*w.2:=Int.add_nonneg NU NU;rcases Int.lt_or_eq_of_le n with k|k
 rw[Int.mul_comm] at p; exact Int.pos_of_mul_pos_right p k
 rw[<-k,WT] at p; exact Vr p (by decide)
structure Hul(S:I2->Prop)(r:YB I2):Prop where
 n3:2<r.length
 good:∀i,Good S (nx r i) (nx r (i+1))
 nodup:∀i j,i<j->j<r.length->nx r i≠nx r j
section
variable{S:I2->Prop}{r:YB I2}
end
end Jd
