/- A part of the proof. -/
import Derived.Test.YtmndpgfbkicndaaCa5
set_option linter.all false
namespace Go.Proofs.Ytmndpgfbkicndaa
section
open Go Go.Ab Go.Ab.W
set_option maxRecDepth 10000
set_option maxHeartbeats 4000000
attribute [local irreducible] Wo Wk At Wn Od Ox bh bT
attribute [local irreducible] Tm.at Trie.set Trie.get Vn.get Vn.set Vn.alloc Vn.ww Vn.kill
variable{p q:VA Prim}
def LK:∀b o,aC (Vq p q).P 28 (ptr b o) 1=some (ptr b (o+1)):=fun _ _=>by kernel_rfl
instance:FaC (Vq p q).P 28 1 1:=⟨LK⟩
def MA:TyI (Vq p q).P 5 false 1:=⟨by kernel_rfl,by kernel_rfl,by kernel_rfl⟩
instance:TyC (Vq p q).P 5 false 1:=⟨MA⟩
def u5:(Vq p q).P.underlying 5=some (.int .u8):=by kernel_rfl
def M7:∀b o,aC (Vq p q).P 28 (ptr b o) 0=some (ptr b (o+0)):=fun _ _=>by kernel_rfl
instance:FaC (Vq p q).P 28 0 0:=⟨M7⟩
def My:∀b o,aC (Vq p q).P 28 (ptr b o) 4=some (ptr b (o+4)):=fun _ _=>by kernel_rfl
instance:FaC (Vq p q).P 28 4 4:=⟨My⟩
def um:∀b o,aC (Vq p q).P 28 (ptr b o) 2=some (ptr b (o+2)):=fun _ _=>by kernel_rfl
instance:FaC (Vq p q).P 28 2 2:=⟨um⟩
def MK:∀cs:VD Uz,iH (Vq p q).P 34 (.agg cs) 1=df (Vq p q).P 32 cs 1:=fun _=>by kernel_rfl
def LJ:∀b o,aC (Vq p q).P 28 (ptr b o) 3=some (ptr b (o+3)):=fun _ _=>by kernel_rfl
instance:FaC (Vq p q).P 28 3 3:=⟨LJ⟩
def HX{n x1 x2 x3 x4 x5 x6 l17 l18 a6 c0 a8 c3}{r10:Uy}{e9:Uw}{r}(hF:N1 n x1 x2 x3 x4 x5 x6 l17 l18=some r)(m){H:Uy}(hH:∀b,H b->b<m.next)(h17:kq m a6 c0 l17)(h18:∀b,kU a6=some b->¬H b)(h19:nY m a8 c3 l18 e9)(h20:∀b,kU a8=some b->¬H b)(h21:(cp aj r10 l18 e9).P m)(h22:∀b,r10 b->¬H b):
 aK (Vq p q) 22 [.agg #[.int .u8 ((x1:Nat):Int),.int .u8 ((x2:Nat):Int),.int .u8 ((x3:Nat):Int),bg x4,bg x5,bg x6],lO a6 l17 c0 a8 l18 c3] m (fun v m'=>∃x:Ux×Nat×Nat×Ux×Nat×Nat×Uw ×(Nat->Prop),v=.agg #[.slice x.1 x.2.2.1 x.2.1,.slice x.2.2.2.1 x.2.2.2.2.2.1 x.2.2.2.2.1]/\Hp m m' [.rd x.1 x.2.1 2 x.2.2.1 (r.1.map (eP (eI .i64) (eI .i64))),.rd x.2.2.2.1 x.2.2.2.2.1 2 x.2.2.2.2.2.1 x.2.2.2.2.2.2.1,.gen (cp aj x.2.2.2.2.2.2.2 r.2 x.2.2.2.2.2.2.1),ee H]):=by
 unfold N1 at hF;refine cw Try.func22 (Hp.Hb (l0:=[CK a8 c3 l18 e9,rR a6 c0 l17]) (Hp.pE (l0:=[rR a6 c0 l17]) (Hp.pE (l0:=[]) (Hp.ud m hH) eo h17 h18) (fg eo) h19 h20) (fg (fg eo)) h21 h22) ?_;refine wz ?_;refine wb fun b3=>?_;refine wb fun b1=>?_;refine wa rJ fun b2=>?_;refine au ?_;obtain⟨⟨l4,l1⟩,h23,hF⟩:=J hF;refine UX (OE rfl rfl (fun m hm=>GH h23 m (hm.q 5) (hm.q 4) (hm.dp (q:=3) rfl)) fun _=>(wN (wN (Ir CG)))) gn rfl ?_;rintro⟨a2,n2,a13,n4,e0,r11⟩;refine Vb (k:=0) (xs:=l4) rfl ?_;rintro rfl;refine Wo.M6 (k:=1) (q:=2) (L:=l1) rfl rfl ?_;rintro rfl;refine au ?_;refine UJ<|UJ ?_;obtain⟨v0,h24,hF⟩:=J hF;refine ct (fun v0 (_:VC)=>⟨.normal,(iO b3 b1 [(4,ptr b2 0),(5,dC l4),(6,dC l1),(25,.bool v0)]),[AG b3 x1 x2 x3 x4 x5 x6,tC b1 a2 l4 a13 l1,dg a2 l4,lQ a13 l1 e0,pT cu r11 l1 e0,jE b2,ee H]⟩) v0 ?_ ?_;clear hF;revert v0;intro r hF;refine wz ?_;rcases U hF with⟨h25,hF⟩|⟨h25,hF⟩;refine wz ?_;cases hF;exact ae () [5,4,0,1,2,3,9];refine wz ?_;cases hF;exact ae () [5,4,0,1,2,3,9];rintro⟨⟩;refine UR ?_;rcases U hF with⟨h26,hF⟩|⟨h26,hF⟩;refine au ?_;cases hF;refine US (UO [4,0,1,2,3,5,6] rfl rfl)<|US aa.iu<|US (UM (k:=4) rfl) ?_;exact UY (.cell (k:=5) fB rfl rfl rfl .nil) fun m' hm=>⟨(a2,l4.length,l4.length,a13,l1.length,l1.length,e0,r11),rfl,(UT (UM (k:=3) rfl) (UO [3,4,0,6] rfl rfl)) m' hm⟩;refine au ?_;refine UI (mU rfl (mE (by rw[u5]; rfl) u3)) rfl ?_
 refine wz ?_;obtain⟨h27,hF⟩:=az hF;refine UI (aJ rfl rfl (cf _ _ h27)) rfl ?_;refine wz ?_;refine UI (mU rfl (mE (by rw[u5]; rfl) u3)) rfl ?_
 refine wz ?_;obtain⟨h28,hF⟩:=az hF;refine UI (aJ rfl rfl (cf _ _ h28)) rfl ?_;obtain⟨h8,hF⟩:=cW hF;refine Vd (k:=3) rfl (aU h8) ?_;rintro b0 t0 rfl h95;refine UZ (tT jU rfl rfl h8) gn rfl<|UI (bG rfl) rfl<|UI (bG rfl) rfl ?_;obtain⟨⟨l2,l3⟩,h1,hF⟩:=J hF;refine UW (UO [4,0,1,2,3,5,6] rfl rfl)<|Wo.CW (o:=cu) (j:=((Int.tmod (UE ((x2:Nat):Int)) (l1.length:Int)).toNat)) (x:=(l2,l3)) (N:=fun g S1 S2=>[.sl g.1 1 l2.length (l2.map (eI .i64)),.sl (g.2).1 1 l3.length (g.2).2.1,.gen (cR iw (g.2).2.2 l3 (g.2).2.1),.gen (cR cu S1 (l1.take ((Int.tmod (UE ((x2:Nat):Int)) (l1.length:Int)).toNat)) (e0.take ((Int.tmod (UE ((x2:Nat):Int)) (l1.length:Int)).toNat))),.gen (cR cu S2 (l1.drop (((Int.tmod (UE ((x2:Nat):Int)) (l1.length:Int)).toNat)+1)) (e0.drop (((Int.tmod (UE ((x2:Nat):Int)) (l1.length:Int)).toNat)+1))),AG b3 x1 x2 x3 x4 x5 x6,ky b1 a2 l4 b0 l1,dg a2 l4,.arr b0 2 l1.length e0 t0,jE b2,ee H]) h1 (fun _ _ _=>rfl) ?_;rintro⟨a0,⟨a1,e1,r3⟩⟩ r0 r1 h0;refine UW (aa.mT (k:=8) rfl (ia h0).symm) ?_;refine wz ?_;refine UJ ?_;obtain⟨r4,h29,hF⟩:=J hF;refine ct (fun(l23,n0,n1,l24) ((a9,c1,a10,c2,e5,r5):Ux×Nat×Ux×Nat×Uw ×(Nat->Prop))=>⟨.normal,[(3,ptr b1 0),(4,ptr b2 0)],[.obj b1 (.cells [.slice a9 n0 c1,.slice a10 n1 c2] .own),.gen (nX a9 c1 2 n0 (l23.map (eP (eI .i64) (eI .i64)))),.rd a10 c2 2 n1 e5,fT aj r5 l24 e5,jE b2,ee H]⟩) r4 ?_ ?_;clear hF;revert r4;intro r hF;refine wz ?_;refine UI (aJ rfl rfl (wY _ _ (by decide))) rfl ?_
 refine au ?_;rcases U hF with⟨h30,hF⟩|⟨h30,hF⟩;refine wz ?_;obtain⟨h31,hF⟩:=cW hF;refine Vd (k:=7) rfl (aU h31) ?_;rintro b6 t3 rfl h96;refine wz ?_;obtain⟨⟨x12,x13⟩,h32,hF⟩:=J hF;refine U4 (sI (k:=7) (x1:=(x12,x13)) (x2:=(x5,x6)) cX rfl rfl rfl h32 rfl) ?_;refine wz ?_;refine US (UM (k:=0) rfl)<|US (UO (2::0::1::Vg 3 8) rfl rfl)<|US aa.iu<|US (UM (k:=2) rfl)<|US (UO (3::4::0::1::2::Vg 5 6) rfl rfl)<|At.iK (o:=cu) (r:=aj) (y:=(l2,l3)) (g:=((a0,l2.length),(a1,l3.length,e1))) (e2:=[bQ a0 l2,bQ a1 l3]) h1 h0 (Lf.p (Lf.sr (k:=1) rfl) (Lf.lr (k:=2) (q:=0) rfl rfl rfl)) (fun _ _=>rfl) ?_;intro r15;refine US (UP (k:=7) rfl)<|US (UM (k:=7) rfl) ?_;cases hF;exact aT ((some ⟨b6,0,none⟩),l4.length,(some ⟨b0,0,none⟩),l1.length,(e0.set ((Int.tmod (UE ((x2:Nat):Int)) (l1.length:Int)).toNat) [bQ a0 l2,bQ a1 l3]),r15) (UT (UP (k:=6) rfl) (UT (aa.wT (k:=6) rfl) (UO [5,6,7,0,8,9] rfl rfl)));refine wz ?_;rcases U hF with⟨h33,hF⟩|⟨h33,hF⟩;refine wz ?_;refine UI (mU rfl (mE (by rw[u5]; rfl) u3)) rfl ?_
 refine wz ?_;obtain⟨h34,hF⟩:=az hF;refine UI (aJ rfl rfl (cf _ _ h34)) rfl ?_;obtain⟨h35,hF⟩:=cW hF;refine Vd (k:=7) rfl (aU h35) ?_;rintro b7 t4 rfl h97;refine wz ?_;obtain⟨⟨x14,x15⟩,h98,hF⟩:=J hF;refine wz ?_;obtain⟨h99,hF⟩:=cW hF;refine wz ?_;obtain⟨⟨x16,x17⟩,h36,hF⟩:=J hF;refine U4 (sI (k:=7) (x1:=(x16,x17)) (x2:=(x14,x15)) cX rfl rfl rfl h36 rfl) ?_;refine wz ?_;refine US (UM (k:=0) rfl)<|US (UO (2::0::1::Vg 3 8) rfl rfl)<|US aa.iu<|US (UM (k:=2) rfl)<|US (UO (3::4::0::1::2::Vg 5 6) rfl rfl)<|At.iK (o:=cu) (r:=aj) (y:=(l2,l3)) (g:=((a0,l2.length),(a1,l3.length,e1))) (e2:=[bQ a0 l2,bQ a1 l3]) h1 h0 (Lf.p (Lf.sr (k:=1) rfl) (Lf.lr (k:=2) (q:=0) rfl rfl rfl)) (fun _ _=>rfl) ?_;intro r16;refine US (UP (k:=7) rfl)<|US (UM (k:=7) rfl) ?_;cases hF;exact aT ((some ⟨b7,0,none⟩),l4.length,(some ⟨b0,0,none⟩),l1.length,(e0.set ((Int.tmod (UE ((x2:Nat):Int)) (l1.length:Int)).toNat) [bQ a0 l2,bQ a1 l3]),r16) (UT (UP (k:=6) rfl) (UT (aa.wT (k:=6) rfl) (UO [5,6,7,0,8,9] rfl rfl)));refine wz ?_;rcases U hF with⟨h37,hF⟩|⟨h37,hF⟩;refine wz ?_;refine UX (cm (es:=([(x5,x6)]:Uu).map (eP (eI .i64) (eI .i64))) vK rfl (cn vK z26 rfl rfl) rfl rfl) gn rfl fun b11=>?_;obtain⟨h38,hF⟩:=az hF;refine UX (uy (k:=8) (k2:=0) (xs:=(l4:Uu)) (ys:=([(x5,x6)]:Uu)) (EC (tF .i64) (tF .i64)) vK ⟨_,Qa⟩ rfl rfl rfl (.arr _ _ _ _ _) h38) gn rfl fun a18=>?_;refine wz ?_;refine US (UM (k:=1) rfl)<|US (UO (3::0::1::2::Vg 4 8) rfl rfl)<|US aa.iu<|US (UM (k:=3) rfl)<|US (UO (4::5::0::1::2::3::Vg 6 6) rfl rfl)<|At.iK (o:=cu) (r:=aj) (y:=(l2,l3)) (g:=((a0,l2.length),(a1,l3.length,e1))) (e2:=[bQ a0 l2,bQ a1 l3]) h1 h0 (Lf.p (Lf.sr (k:=2) rfl) (Lf.lr (k:=3) (q:=0) rfl rfl rfl)) (fun _ _=>rfl) ?_;intro r17;refine US (UP (k:=8) rfl)<|US (UM (k:=8) rfl) ?_;cases hF;exact aT (a18,(l4++[(x5,x6)]).length,(some ⟨b0,0,none⟩),l1.length,(e0.set ((Int.tmod (UE ((x2:Nat):Int)) (l1.length:Int)).toNat) [bQ a0 l2,bQ a1 l3]),r17) (UT (aa.wT (k:=7) rfl) (UO [6,7,8,0,9,10] rfl rfl));refine wz ?_;rcases U hF with⟨h39,hF⟩|⟨h39,hF⟩;refine wz ?_;obtain⟨h40,hF⟩:=az hF;obtain⟨h2,hF⟩:=az hF;replace h2:=of_decide_eq_true h2;obtain⟨l29,h3,hF⟩:=J hF;replace h3:=Sb h3;refine UW (aa.wT (k:=7) rfl)<|UZ (Lq (k:=7) (hi:=Int.tmod (UE ((x2:Nat):Int)) (l4.length:Int)) vK rfl rfl rfl h40 h2 h3) gn rfl ?_;refine wz ?_;refine US (UM (k:=0) rfl)<|US (UO (2::0::1::Vg 3 8) rfl rfl)<|US aa.iu<|US (UM (k:=2) rfl)<|US (UO (3::4::0::1::2::Vg 5 6) rfl rfl)<|At.iK (o:=cu) (r:=aj) (y:=(l2,l3)) (g:=((a0,l2.length),(a1,l3.length,e1))) (e2:=[bQ a0 l2,bQ a1 l3]) h1 h0 (Lf.p (Lf.sr (k:=1) rfl) (Lf.lr (k:=2) (q:=0) rfl rfl rfl)) (fun _ _=>rfl) ?_;intro r18;refine US (UP (k:=7) rfl)<|US (UM (k:=7) rfl) ?_;cases hF;exact ae (a2,l4.length,(some ⟨b0,0,none⟩),l1.length,(e0.set ((Int.tmod (UE ((x2:Nat):Int)) (l1.length:Int)).toNat) [bQ a0 l2,bQ a1 l3]),r18) [5,6,7,0,8,9];refine wz ?_;rcases U hF with⟨h9,hF⟩|⟨h9,hF⟩;refine U3 rfl h9<|U6 (prs:=[(1,3),(3,6)]) (by kernel_rfl)<|UL (aG (r:=ptr b1 1) rfl (fb _ _)) rfl<|UL (aI (k:=6) mz rfl rfl rfl) rfl<|UL (aI (k:=6) fB rfl rfl rfl) rfl<|Ve (UO (Vg 0 11) rfl rfl)<|Wn.Gh (o:=cu) (g:=(a0,(a1,e1,r3))) h1 h0 rfl ?_
 intro r19;refine Ve (aa.mT (k:=4) rfl (ia h0)) ?_;obtain⟨⟨l25,l19⟩,h41,hF⟩:=J hF;refine Wn.c (PS rfl rfl (fun m hm=>GH h41 m (hm.rd (k:=3) rfl (.sl _ _ _ _)) (hm.q 4) (hm.od (q:=0) rfl)) fun _=>(wN (wN (Ir CG)))) gn rfl ?_;rintro⟨a19,n5,a24,n7,e10,r34⟩;refine Wn.len (k:=0) (xs:=l25) rfl ?_;rintro rfl;refine Wn.M6 (k:=1) (q:=2) (L:=l19) rfl rfl ?_;rintro rfl;refine UL (QR rfl ((MK _).trans (Cb mz rfl))) rfl<|UL (aG (r:=ptr b3 2) rfl (um _ _)) rfl<|UL (aI (k:=4) MA rfl rfl rfl) rfl<|UL (mU rfl (mE (by rw[u5]; rfl) u3)) rfl<|UL (aV rfl) rfl ?_
 obtain⟨h42,hF⟩:=az hF;refine UL (aJ rfl rfl (cf _ _ h42)) rfl ?_;obtain⟨h10,hF⟩:=cW hF;refine Wn.open (k:=1) rfl (aU h10) ?_;rintro b8 t2 rfl h100;refine Va (tT jU rfl rfl h10) gn rfl ?_;obtain⟨⟨l10,l11⟩,h43,hF⟩:=J hF;refine Ve (UO (2::0::1::Vg 3 7) rfl rfl) ?_;refine Wn.CW (o:=cu) (j:=((Int.tmod (UE ((x3:Nat):Int)) (l1.length:Int)).toNat)) (x:=(l10,l11)) (N:=fun g S1 S2=>[.sl g.1 1 l10.length (l10.map (eI .i64)),.sl (g.2).1 1 l11.length (g.2).2.1,.gen (cR iw (g.2).2.2 l11 (g.2).2.1),.gen (cR cu S1 (l19.take ((Int.tmod (UE ((x3:Nat):Int)) (l1.length:Int)).toNat)) (e10.take ((Int.tmod (UE ((x3:Nat):Int)) (l1.length:Int)).toNat))),.gen (cR cu S2 (l19.drop (((Int.tmod (UE ((x3:Nat):Int)) (l1.length:Int)).toNat)+1)) (e10.drop (((Int.tmod (UE ((x3:Nat):Int)) (l1.length:Int)).toNat)+1))),dg a19 l25,.arr b8 2 l19.length e10 t2,pT cu r19 l1 e0,AG b3 x1 x2 x3 x4 x5 x6,ky b1 a2 l4 b0 l1,dg a2 l4,.arr b0 2 l1.length e0 t0,jE b2,ee H]) h43 (fun _ _ _=>rfl) ?_;rintro⟨a14,⟨a15,e11,r20⟩⟩ r35 r36 h11;refine Ve (aa.mT (k:=6) rfl (ia h11).symm)<|UL (fO (k:=6) JW rfl rfl (cV h11) rfl rfl) rfl<|Wn.x (cm (es:=[[bQ a14 l10,bQ a15 l11]]) jU rfl (cn jU z54 rfl rfl) rfl rfl) gn rfl fun b12=>?_;refine Ve (UO (1::2::3::0::Vg 4 11) rfl rfl)<|Wn.uS (o:=cu) (x:=(l10,l11)) (g:=(a14,(a15,e11,r20))) rfl ?_;intro r37;obtain⟨h44,hF⟩:=az hF;refine Ve (UP (k:=10) rfl)<|Ve (UO [6,0,10,1,2,3,4,5,7,8,9,11,12] rfl rfl)<|Wn.x (tz (o:=cu) (L:=l1) (L':=([(l10,l11)]:Us)) jU ⟨_,u32⟩ rfl (.arr _ _ _ _ _) rfl h44) gn rfl ?_;rintro⟨a20,r21⟩;refine UL (aG (r:=ptr b1 1) rfl (fb _ _)) rfl<|Wn.o0 (eg (k:=8) mz rfl rfl rfl rfl rfl)<|U1 (fun m hm=>dq.all rfl)<|At.bn<|US (UO (0::1::2::5::Vg 7 5) rfl rfl)<|US (UO (Vg 0 9) rfl rfl)<|US aa.iu<|US (UM (k:=1) rfl) ?_;cases hF;exact aT (a2,l4.length,a20,(l1++([(l10,l11)]:Us)).length,(e0++([[bQ a14 l10,bQ a15 l11]]:Uw)),r21) (UT (aa.wT (k:=6) rfl) (UO [5,6,1,0,7,8] rfl rfl));refine wz ?_;rcases U hF with⟨h45,hF⟩|⟨h45,hF⟩;refine wz ?_;refine UI (mU rfl (mE (by rw[u5]; rfl) u3)) rfl ?_
 refine wz ?_;obtain⟨h46,hF⟩:=az hF;refine UI (aJ rfl rfl (cf _ _ h46)) rfl ?_;refine wz ?_;refine UI (mU rfl (mE (by rw[u5]; rfl) u3)) rfl ?_
 refine wz ?_;obtain⟨h47,hF⟩:=az hF;refine UI (aJ rfl rfl (cf _ _ h47)) rfl ?_;obtain⟨y1,h48,hF⟩:=J hF;refine UI (aJ rfl rfl ((bD _ _ _).trans (cI h48))) rfl<|UW (UO (Vg 0 11) rfl rfl)<|Wo.Gh (o:=cu) (g:=(a0,(a1,e1,r3))) h1 h0 rfl ?_;intro r38;refine UW (aa.mT (k:=4) rfl (ia h0)) ?_;obtain⟨l22,h49,hF⟩:=J hF;refine UW (UP (k:=4) rfl)<|UW (UO [4,0,1,2,3,5,6] rfl rfl)<|UX (mC (α:=Nat->Prop) (V:=fun _=>.slice (some ⟨b0,0,none⟩) l22.length l1.length) (N:=(fun r6:Nat->Prop=>[.gen (cR cu r6 l22 (e0.take (Int.tmod (UE ((x2:Nat):Int)) (l1.length:Int):Int).toNat++e0.drop (y1:Int).toNat)),.gen (nX (some ⟨b0,0,none⟩) l1.length 2 l22.length (e0.take (Int.tmod (UE ((x2:Nat):Int)) (l1.length:Int):Int).toNat++e0.drop (y1:Int).toNat)),AG b3 x1 x2 x3 x4 x5 x6,ky b1 a2 l4 b0 l1,dg a2 l4,jE b2,ee H])) rfl rfl (fun m hm=>Kn n hm h49)) gn rfl fun r6=>?_;refine wz ?_;refine US (UO (Vg 0 7) rfl rfl)<|US aa.iu<|US (aa.GY (k:=1) rfl) ?_;cases hF;exact aT (a2,l4.length,(some ⟨b0,0,none⟩),l1.length,(e0.take (Int.tmod (UE ((x2:Nat):Int)) (l1.length:Int):Int).toNat++e0.drop (y1:Int).toNat),r6) (UT (aa.wT (k:=4) rfl) (UO [3,4,1,0,5,6] rfl rfl));refine wz ?_;rcases U hF with⟨h50,hF⟩|⟨h50,hF⟩;refine wz ?_;refine UI (jF rfl) rfl<|UI (aG (r:=ptr b0 ((Int.tmod (UE ((x2:Nat):Int)) (l1.length:Int)).toNat*2+0)) rfl (eA _ _)) rfl<|UI (fO (k:=8) k7 rfl rfl (cV h0) rfl rfl) rfl ?_;refine au ?_;rcases U hF with⟨h51,hF⟩|⟨h51,hF⟩;refine wz ?_;refine UI (jF rfl) rfl<|UI (aG (r:=ptr b0 ((Int.tmod (UE ((x2:Nat):Int)) (l1.length:Int)).toNat*2+0)) rfl (eA _ _)) rfl<|UI (fO (k:=8) k7 rfl rfl (cV h0) rfl rfl) rfl ?_;refine wz ?_;refine UI (mU rfl (mE (by rw[u5]; rfl) u3)) rfl ?_
 refine wz ?_;obtain⟨h52,hF⟩:=az hF;refine UI (aJ rfl rfl (cf _ _ h52)) rfl ?_;refine wz ?_;obtain⟨h53,hF⟩:=cW hF;refine Vd (k:=0) rfl (aU h53) ?_;rintro b5 t5 rfl h101;refine wz ?_;obtain⟨x18,h54,hF⟩:=J hF;refine U4 (sI (k:=0) (x1:=x18) (x2:=x4) bZ rfl rfl rfl h54 rfl) ?_;refine wz ?_;refine US (UP (k:=0) rfl)<|US (UM (k:=0) rfl)<|US (UO (2::0::1::Vg 3 8) rfl rfl)<|US aa.iu<|US (UM (k:=2) rfl)<|US (UO (3::4::0::1::2::Vg 5 6) rfl rfl)<|At.iK (o:=cu) (r:=aj) (y:=((l2.set ((Int.tmod (UE ((x3:Nat):Int)) (l2.length:Int)).toNat) x4),l3)) (g:=(((some ⟨b5,0,none⟩),l2.length),(a1,l3.length,e1))) (e2:=[tN b5 l2,bQ a1 l3]) h1 h0 (Lf.p (Lf.sr (k:=1) rfl) (Lf.lr (k:=2) (q:=0) rfl rfl rfl)) (fun m hm=>by have e3:=qG (k:=1) (xs:=(l2.set ((Int.tmod (UE ((x3:Nat):Int)) (l2.length:Int)).toNat) x4)) hm rfl; show([.slice (some ⟨b5,0,none⟩) ((l2.set ((Int.tmod (UE ((x3:Nat):Int)) (l2.length:Int)).toNat) x4).length) l2.length,bQ a1 l3]:VB Uz)=_; rw[<-e3]) ?_
 intro r22;refine US (UP (k:=7) rfl)<|US (UM (k:=7) rfl) ?_;cases hF;exact aT (a2,l4.length,(some ⟨b0,0,none⟩),l1.length,(e0.set ((Int.tmod (UE ((x2:Nat):Int)) (l1.length:Int)).toNat) [tN b5 l2,bQ a1 l3]),r22) (UT (aa.wT (k:=6) rfl) (UO [5,6,7,0,8,9] rfl rfl));refine wz ?_;refine US (UM (k:=0) rfl)<|US (UO (2::0::1::Vg 3 8) rfl rfl)<|US aa.iu<|US (UM (k:=2) rfl)<|US (UO (3::4::0::1::2::Vg 5 6) rfl rfl)<|At.iK (o:=cu) (r:=aj) (y:=(l2,l3)) (g:=((a0,l2.length),(a1,l3.length,e1))) (e2:=[bQ a0 l2,bQ a1 l3]) h1 h0 (Lf.p (Lf.sr (k:=1) rfl) (Lf.lr (k:=2) (q:=0) rfl rfl rfl)) (fun _ _=>rfl) ?_;intro r23;refine US (UP (k:=7) rfl)<|US (UM (k:=7) rfl) ?_;cases hF;exact aT (a2,l4.length,(some ⟨b0,0,none⟩),l1.length,(e0.set ((Int.tmod (UE ((x2:Nat):Int)) (l1.length:Int)).toNat) [bQ a0 l2,bQ a1 l3]),r23) (UT (aa.wT (k:=6) rfl) (UO [5,6,7,0,8,9] rfl rfl));refine wz ?_;rcases U hF with⟨h55,hF⟩|⟨h55,hF⟩;refine wz ?_;refine UI (jF rfl) rfl<|UI (aG (r:=ptr b0 ((Int.tmod (UE ((x2:Nat):Int)) (l1.length:Int)).toNat*2+0)) rfl (eA _ _)) rfl<|UI (fO (k:=8) k7 rfl rfl (cV h0) rfl rfl) rfl ?_;obtain⟨l20,h56,hF⟩:=J hF;refine wq (fun l20 ((e6,r7):Uw ×(Nat->Prop))=>(.tuple #[],[ky b1 a2 l4 b0 l1,dg a2 l4,.rd (some ⟨b0,0,none⟩) l1.length 2 l1.length e6,fT aj r7 l20 e6,jE b2,ee H])) l20 (fun m hm=>?_) ?_;clear hF;revert l20;intro r hF;refine aS (N:=28) (rs:=[]) rfl Try.func46 rfl rfl rfl hm ?_;refine wz ?_;refine UN ?_;obtain⟨l16,h4,hF⟩:=J hF;refine ct (fun l16 (_:VC)=>⟨(.exit 0),[],[ky b1 a2 l4 b0 l1,dg a2 l4,.arr b0 2 l1.length (e0.set ((Int.tmod (UE ((x2:Nat):Int)) (l1.length:Int)).toNat) [bQ a0 l2,bQ a1 l3]) t0,.sl a0 1 l2.length (l16.map (eI .i64)),.sl a1 1 l3.length e1,pT iw r3 l3 e1,.gen (cR cu r0 (l1.take ((Int.tmod (UE ((x2:Nat):Int)) (l1.length:Int)).toNat)) (e0.take ((Int.tmod (UE ((x2:Nat):Int)) (l1.length:Int)).toNat))),.gen (cR cu r1 (l1.drop (((Int.tmod (UE ((x2:Nat):Int)) (l1.length:Int)).toNat)+1)) (e0.drop (((Int.tmod (UE ((x2:Nat):Int)) (l1.length:Int)).toNat)+1))),jE b2,ee H]⟩) l16 ?_ ?_;refine lo h4 () [0,6,7,8,1,2,3,4,9,10] (fun(l26,v1,v2) _=>⟨.normal,[(0,bQ a0 l2),(2,bg v1),(3,bg v2)],[.sl a0 1 l2.length (l26.map (eI .i64)),ky b1 a2 l4 b0 l1,dg a2 l4,.arr b0 2 l1.length (e0.set ((Int.tmod (UE ((x2:Nat):Int)) (l1.length:Int)).toNat) [bQ a0 l2,bQ a1 l3]) t0,.sl a1 1 l3.length e1,pT iw r3 l3 e1,.gen (cR cu r0 (l1.take ((Int.tmod (UE ((x2:Nat):Int)) (l1.length:Int)).toNat)) (e0.take ((Int.tmod (UE ((x2:Nat):Int)) (l1.length:Int)).toNat))),.gen (cR cu r1 (l1.drop (((Int.tmod (UE ((x2:Nat):Int)) (l1.length:Int)).toNat)+1)) (e0.drop (((Int.tmod (UE ((x2:Nat):Int)) (l1.length:Int)).toNat)+1))),jE b2,ee H]⟩) ?_;clear hF h4;rintro⟨l26,v1,v2⟩ ⟨⟩ r hF;unfold ur at hF;refine wz ?_;rcases U hF with⟨h57,hF⟩|⟨h57,hF⟩;refine au ?_;obtain⟨h58,hF⟩:=cW hF;refine Vd (k:=0) rfl (aU h58) ?_;rintro b13 t6 rfl h102;refine wz ?_;obtain⟨x19,h103,hF⟩:=J hF;refine wz ?_;obtain⟨h104,hF⟩:=cW hF;refine wz ?_;obtain⟨x10,h59,hF⟩:=J hF;refine wz ?_;obtain⟨h105,hF⟩:=cW hF;refine wz ?_;refine U4 (sI (k:=0) (x1:=x10) (x2:=x19) bZ rfl rfl rfl h59 rfl) ?_;obtain⟨h106,hF⟩:=cW hF;refine wz ?_;obtain⟨x20,h60,hF⟩:=J hF;refine U4 (sI (k:=0) (x1:=x20) (x2:=x10) bZ rfl rfl rfl h60 rfl) ?_;refine au ?_;cases hF;exact aT () (UT (UP (k:=0) rfl) (UO (Vg 0 10) rfl rfl));refine wz ?_;cases hF;exact ae () (1::2::3::0::Vg 4 6);rintro⟨⟩;refine Vf<|US (UM (k:=3) rfl)<|US (UO [5,0,1,2,3,4,6,7,8,9] rfl rfl)<|US aa.iu<|US (UM (k:=5) rfl)<|US (UO [6,7,0,1,2,3,4,5,8,9] rfl rfl)<|At.iK (o:=cu) (r:=aj) (y:=(l16,l3)) (g:=((a0,l2.length),(a1,l3.length,e1))) (e2:=[bQ a0 l2,bQ a1 l3]) h1 h0 (Lf.p (Lf.sr (k:=4) rfl) (Lf.lr (k:=5) (q:=0) rfl rfl rfl)) (fun m hm=>by have e3:=qG (k:=4) (xs:=l16) hm rfl; show([.slice a0 l16.length l2.length,bQ a1 l3]:VB Uz)=_; rw[<-e3]) ?_
 intro r24;refine US (UP (k:=4) rfl)<|US (UM (k:=4) rfl) ?_;cases hF;exact At.fin .nil fun m' hm=>⟨((e0.set ((Int.tmod (UE ((x2:Nat):Int)) (l1.length:Int)).toNat) [bQ a0 l2,bQ a1 l3]),r24),rfl,(UO [2,3,4,0,7,8] rfl rfl) m' hm⟩;rintro⟨e6,r7⟩;refine wz ?_;cases hF;exact aT (a2,l4.length,(some ⟨b0,0,none⟩),l1.length,e6,r7) (UT (aa.wT (k:=1) rfl) (UO (Vg 0 6) rfl rfl));refine wz ?_;rcases U hF with⟨h61,hF⟩|⟨h61,hF⟩;refine wz ?_;refine UI (jF rfl) rfl<|UI (aG (r:=ptr b0 ((Int.tmod (UE ((x2:Nat):Int)) (l1.length:Int)).toNat*2+1)) rfl (fe _ _)) rfl<|U4 (oA (k:=8) (j:=(Int.tmod (UE ((x2:Nat):Int)) (l1.length:Int)).toNat) (c:=1) (e:=[bQ a0 l2,bQ a1 l3]) (e':=[bQ a0 l2,.slice none 0 0]) mB rfl rfl rfl (cV h0) rfl)<|UW (aa.mT (k:=8) rfl (List.set_set _)) ?_;refine wz ?_;refine US (UM (k:=0) rfl)<|US (UO (3::4::0::1::2::Vg 5 6) rfl rfl)<|At.iK (o:=cu) (r:=aj) (y:=(l2,[])) (g:=((a0,l2.length),(none,0,[]))) (e2:=[bQ a0 l2,.slice none 0 0]) h1 h0 (Lf.p (Lf.sr (k:=0) rfl) Lf.l0) (fun _ _=>rfl) ?_;intro r25;refine US (UP (k:=7) rfl)<|US (UM (k:=7) rfl)<|US (UO (3::0::1::2::Vg 4 6) rfl rfl)<|US aa.iu<|US (UM (k:=3) rfl) ?_;cases hF;exact aT (a2,l4.length,(some ⟨b0,0,none⟩),l1.length,(e0.set ((Int.tmod (UE ((x2:Nat):Int)) (l1.length:Int)).toNat) [bQ a0 l2,.slice none 0 0]),r25) (UT (aa.wT (k:=6) rfl) (UO [5,6,7,1,8,9] rfl rfl));refine wz ?_;rcases U hF with⟨h12,hF⟩|⟨h12,hF⟩;refine U3 rfl h12<|UJ<|U6 (prs:=[(4,15)]) (by kernel_rfl)<|UL (aV rfl) rfl<|UL (aV rfl) rfl<|UL (jF rfl) rfl<|UL (aG (r:=ptr b0 ((Int.tmod (UE ((x2:Nat):Int)) (l1.length:Int)).toNat*2+1)) rfl (fe _ _)) rfl<|UL (fO (k:=8) mB rfl rfl (cV h0) rfl rfl) rfl<|UL (aG (r:=ptr b1 1) rfl (fb _ _)) rfl<|UL (aI (k:=6) mz rfl rfl rfl) rfl<|UL (aG (r:=ptr b3 2) rfl (um _ _)) rfl ?_
 refine UL (aI (k:=5) MA rfl rfl rfl) rfl<|UL (mU rfl (mE (by rw[u5]; rfl) u3)) rfl<|UL (aV rfl) rfl ?_
 obtain⟨h62,hF⟩:=az hF;refine UL (aJ rfl rfl (cf _ _ h62)) rfl ?_;obtain⟨h63,hF⟩:=cW hF;refine Va (tT jU rfl rfl h63) gn rfl<|UL (aG (r:=ptr b0 ((Int.tmod (UE ((x3:Nat):Int)) (l1.length:Int)).toNat*2+0)) rfl (eA _ _)) rfl ?_;obtain⟨⟨l27,l30⟩,h64,hF⟩:=J hF;refine Wn.rO (q0:=0) (q1:=3) (q2:=4) h1 h0 h64 rfl rfl rfl ?_;intro a21 v5 h65 h66;refine UL (fO (k:=8) k7 rfl rfl (by rw[ia h0]; exact h65) rfl rfl) rfl ?_
 obtain⟨l5,h67,hF⟩:=J hF;refine nc gn (fun m hm=>sC n l27 a21 l27.length _ h67 m (h66 m hm)) ?_;rintro⟨a3,n8⟩;refine Wn.len (k:=0) (xs:=l5) rfl ?_;rintro rfl;refine Wn.x (cm (es:=[[bQ a3 l5]]) qc rfl (cn qc z51 rfl rfl) rfl rfl) gn rfl fun b9=>?_;refine Ve (UO (1::0::Vg 2 11) rfl rfl)<|Wn.uS (o:=iw) (x:=l5) (g:=a3) rfl ?_;intro r39;obtain⟨h68,hF⟩:=az hF;refine Ve (UO (4::0::3::1::2::Vg 5 8) rfl rfl)<|Wn.x (tz (o:=iw) (L:=l3) (L':=([l5]:Uv)) qc ⟨_,Ko⟩ rfl (.arr _ _ _ _ _) rfl h68) gn rfl ?_;rintro⟨a22,r40⟩;refine UL (jF rfl) rfl<|UL (aG (r:=ptr b0 ((Int.tmod (UE ((x2:Nat):Int)) (l1.length:Int)).toNat*2+1)) rfl (fe _ _)) rfl<|Wn.o0 (oA (k:=9) (j:=(Int.tmod (UE ((x2:Nat):Int)) (l1.length:Int)).toNat) (c:=1) (e:=[bQ a0 l2,bQ a1 l3]) (e':=[bQ a0 l2,.slice a22 ((l3++([l5]:Uv)).length) ((l3++([l5]:Uv)).length)]) mB rfl rfl rfl (cV h0) rfl)<|Ve (aa.mT (k:=9) rfl (List.set_set _))<|U1 (fun m hm=>dq.all rfl) ?_;refine au ?_;refine UI (jF rfl) rfl<|UI (aG (r:=ptr b0 ((Int.tmod (UE ((x2:Nat):Int)) (l1.length:Int)).toNat*2+1)) rfl (fe _ _)) rfl<|UI (fO (k:=9) mB rfl rfl (cV h0) rfl rfl) rfl ?_;refine wz ?_;refine UI (jF rfl) rfl<|UI (aG (r:=ptr b0 ((Int.tmod (UE ((x2:Nat):Int)) (l1.length:Int)).toNat*2+1)) rfl (fe _ _)) rfl<|UI (fO (k:=9) mB rfl rfl (cV h0) rfl rfl) rfl<|UI (oU (k:=1) Ko rfl rfl (.inl rfl)) rfl ?_;obtain⟨y0,h69,hF⟩:=J hF;refine UI (aJ rfl rfl ((cK _ _ _).trans (cI h69))) rfl ?_;obtain⟨h13,hF⟩:=cW hF;refine Vd (k:=1) rfl (aU h13) ?_;rintro b4 t1 rfl h107;refine UZ (tT qc rfl rfl h13) gn rfl ?_;obtain⟨l6,h14,hF⟩:=J hF;refine UW (UO (Vg 0 12) rfl rfl)<|Wo.CW (o:=iw) (j:=y0.toNat) (x:=l6) (N:=fun g S1 S2=>[.sl g 1 l6.length (l6.map (eI .i64)),.gen (cR iw S1 ((l3++([l5]:Uv)).take y0.toNat) ((e1++([[bQ a3 l5]]:Uw)).take y0.toNat)),.gen (cR iw S2 ((l3++([l5]:Uv)).drop (y0.toNat+1)) ((e1++([[bQ a3 l5]]:Uw)).drop (y0.toNat+1))),.arr b4 1 ((l3++([l5]:Uv)).length) (e1++([[bQ a3 l5]]:Uw)) t1,.arr b9 1 1 ([[bQ a3 l5]]) .own,yd a0 l2,.gen (cR cu r0 (l1.take ((Int.tmod (UE ((x2:Nat):Int)) (l1.length:Int)).toNat)) (e0.take ((Int.tmod (UE ((x2:Nat):Int)) (l1.length:Int)).toNat))),.gen (cR cu r1 (l1.drop (((Int.tmod (UE ((x2:Nat):Int)) (l1.length:Int)).toNat)+1)) (e0.drop (((Int.tmod (UE ((x2:Nat):Int)) (l1.length:Int)).toNat)+1))),AG b3 x1 x2 x3 x4 x5 x6,ky b1 a2 l4 b0 l1,dg a2 l4,.arr b0 2 l1.length (e0.set ((Int.tmod (UE ((x2:Nat):Int)) (l1.length:Int)).toNat) [bQ a0 l2,Gr b4 l3 l5]) t0,jE b2,ee H]) h14 (fun _ _ _=>rfl) ?_;rintro a4 r12 r13 h5;refine UW (aa.mT (k:=3) rfl (ia h5).symm)<|UI (fO (k:=3) k7 rfl rfl (cV h5) rfl rfl) rfl ?_;obtain⟨l21,h70,hF⟩:=J hF;refine wq (fun l21 ((e7,r8):Uw ×(Nat->Prop))=>(.tuple #[],[ky b1 a2 l4 b0 l1,dg a2 l4,.rd (some ⟨b0,0,none⟩) l1.length 2 l1.length e7,fT aj r8 l21 e7,jE b2,ee H])) l21 (fun m hm=>?_) ?_;clear hF;revert l21;intro r hF;refine aS (N:=28) (rs:=[]) rfl Try.func46 rfl rfl rfl hm ?_;refine wz ?_;refine UN ?_;obtain⟨l8,h6,hF⟩:=J hF;refine ct (fun l8 (_:VC)=>⟨(.exit 0),[],[ky b1 a2 l4 b0 l1,dg a2 l4,.arr b0 2 l1.length (e0.set ((Int.tmod (UE ((x2:Nat):Int)) (l1.length:Int)).toNat) [bQ a0 l2,Gr b4 l3 l5]) t0,yd a0 l2,.arr b4 1 ((l3++([l5]:Uv)).length) ((e1++([[bQ a3 l5]]:Uw)).set y0.toNat [bQ a4 l6]) t1,.sl a4 1 l6.length (l8.map (eI .i64)),.gen (cR iw r12 ((l3++([l5]:Uv)).take y0.toNat) ((e1++([[bQ a3 l5]]:Uw)).take y0.toNat)),.gen (cR iw r13 ((l3++([l5]:Uv)).drop (y0.toNat+1)) ((e1++([[bQ a3 l5]]:Uw)).drop (y0.toNat+1))),.gen (cR cu r0 (l1.take ((Int.tmod (UE ((x2:Nat):Int)) (l1.length:Int)).toNat)) (e0.take ((Int.tmod (UE ((x2:Nat):Int)) (l1.length:Int)).toNat))),.gen (cR cu r1 (l1.drop (((Int.tmod (UE ((x2:Nat):Int)) (l1.length:Int)).toNat)+1)) (e0.drop (((Int.tmod (UE ((x2:Nat):Int)) (l1.length:Int)).toNat)+1))),jE b2,ee H]⟩) l8 ?_ ?_;refine lo h6 () [0,9,10,11,5,3,1,2,6,7,12,13] (fun(l28,v3,v4) _=>⟨.normal,[(0,bQ a4 l6),(2,bg v3),(3,bg v4)],[.sl a4 1 l6.length (l28.map (eI .i64)),ky b1 a2 l4 b0 l1,dg a2 l4,.arr b0 2 l1.length (e0.set ((Int.tmod (UE ((x2:Nat):Int)) (l1.length:Int)).toNat) [bQ a0 l2,Gr b4 l3 l5]) t0,yd a0 l2,.arr b4 1 ((l3++([l5]:Uv)).length) ((e1++([[bQ a3 l5]]:Uw)).set y0.toNat [bQ a4 l6]) t1,.gen (cR iw r12 ((l3++([l5]:Uv)).take y0.toNat) ((e1++([[bQ a3 l5]]:Uw)).take y0.toNat)),.gen (cR iw r13 ((l3++([l5]:Uv)).drop (y0.toNat+1)) ((e1++([[bQ a3 l5]]:Uw)).drop (y0.toNat+1))),.gen (cR cu r0 (l1.take ((Int.tmod (UE ((x2:Nat):Int)) (l1.length:Int)).toNat)) (e0.take ((Int.tmod (UE ((x2:Nat):Int)) (l1.length:Int)).toNat))),.gen (cR cu r1 (l1.drop (((Int.tmod (UE ((x2:Nat):Int)) (l1.length:Int)).toNat)+1)) (e0.drop (((Int.tmod (UE ((x2:Nat):Int)) (l1.length:Int)).toNat)+1))),jE b2,ee H]⟩) ?_;clear hF h6;rintro⟨l28,v3,v4⟩ ⟨⟩ r hF;unfold G0 at hF;refine wz ?_;rcases U hF with⟨h71,hF⟩|⟨h71,hF⟩;refine au ?_;obtain⟨h72,hF⟩:=cW hF;refine Vd (k:=0) rfl (aU h72) ?_;rintro b14 t7 rfl h108;refine wz ?_;obtain⟨x21,h109,hF⟩:=J hF;refine wz ?_;obtain⟨h110,hF⟩:=cW hF;refine wz ?_;obtain⟨x11,h73,hF⟩:=J hF;refine wz ?_;obtain⟨h111,hF⟩:=cW hF;refine wz ?_;refine U4 (sI (k:=0) (x1:=x11) (x2:=x21) bZ rfl rfl rfl h73 rfl) ?_;obtain⟨h112,hF⟩:=cW hF;refine wz ?_;obtain⟨x22,h74,hF⟩:=J hF;refine U4 (sI (k:=0) (x1:=x22) (x2:=x11) bZ rfl rfl rfl h74 rfl) ?_;refine au ?_;cases hF;exact aT () (UT (UP (k:=0) rfl) (UO (Vg 0 12) rfl rfl));refine wz ?_;cases hF;exact ae () (1::2::3::4::5::0::Vg 6 6);rintro⟨⟩;refine Vf<|US (UM (k:=3) rfl)<|US (UM (k:=5) rfl)<|US (UO [6,7,0,1,2,3,4,5,8,9,10,11] rfl rfl)<|At.iK (o:=iw) (r:=bl) (y:=l8) (g:=(a4,l6.length)) (e2:=[bQ a4 l6]) h14 h5 (Lf.sr (k:=5) rfl) (fun m hm=>by have e3:=qG (k:=5) (xs:=l8) hm rfl; show([.slice a4 l8.length l6.length]:VB Uz)=_; rw[<-e3]) ?_
 intro r41;refine US (UP (k:=5) rfl)<|US (UM (k:=5) rfl)<|US (UO [7,8,0,1,2,3,4,5,6,9,10] rfl rfl)<|At.iK (o:=cu) (r:=aj) (y:=(l2,((l3++([l5]:Uv)).set y0.toNat l8))) (g:=((a0,l2.length),((some ⟨b4,0,none⟩),(l3++([l5]:Uv)).length,((e1++([[bQ a3 l5]]:Uw)).set y0.toNat [bQ a4 l6])))) (e2:=[bQ a0 l2,Gr b4 l3 l5]) h1 h0 (Lf.p (Lf.sr (k:=4) rfl) (Lf.lr (k:=5) (q:=0) rfl rfl rfl)) (fun m hm=>by have e3:=(hm.get (k:=5) rfl).1.symm.trans (lT (q:=0) (L:=((l3++([l5]:Uv)).set y0.toNat l8)) hm rfl); show([bQ a0 l2,.slice (some ⟨b4,0,none⟩) (((l3++([l5]:Uv)).set y0.toNat l8).length) ((l3++([l5]:Uv)).length)]:VB Uz)=_; rw[<-e3]) ?_
 intro r26;refine US (UP (k:=4) rfl)<|US (UM (k:=4) rfl) ?_;cases hF;exact At.fin .nil fun m' hm=>⟨((e0.set ((Int.tmod (UE ((x2:Nat):Int)) (l1.length:Int)).toNat) [bQ a0 l2,Gr b4 l3 l5]),r26),rfl,(UO [2,3,4,0,8,9] rfl rfl) m' hm⟩;rintro⟨e7,r8⟩;refine wz ?_;cases hF;exact aT (a2,l4.length,(some ⟨b0,0,none⟩),l1.length,e7,r8) (UT (aa.wT (k:=1) rfl) (UO (Vg 0 6) rfl rfl));refine wz ?_;rcases U hF with⟨h75,hF⟩|⟨h75,hF⟩;refine wz ?_;refine UI (jF rfl) rfl<|UI (aG (r:=ptr b0 ((Int.tmod (UE ((x2:Nat):Int)) (l1.length:Int)).toNat*2+0)) rfl (eA _ _)) rfl<|UI (fO (k:=8) k7 rfl rfl (cV h0) rfl rfl) rfl ?_;refine au ?_;rcases U hF with⟨h76,hF⟩|⟨h76,hF⟩;refine wz ?_;refine UI (jF rfl) rfl<|UI (aG (r:=ptr b0 ((Int.tmod (UE ((x2:Nat):Int)) (l1.length:Int)).toNat*2+0)) rfl (eA _ _)) rfl<|UI (fO (k:=8) k7 rfl rfl (cV h0) rfl rfl) rfl ?_;refine wz ?_;refine UI (mU rfl (mE (by rw[u5]; rfl) u3)) rfl ?_
 refine wz ?_;obtain⟨h77,hF⟩:=az hF;refine UI (aJ rfl rfl (cf _ _ h77)) rfl ?_;refine wz ?_;refine UI (mU rfl (mE (by rw[u5]; rfl) u3)) rfl ?_
 refine wz ?_;obtain⟨h78,hF⟩:=az hF;refine UI (aJ rfl rfl (cf _ _ h78)) rfl ?_;obtain⟨y2,h79,hF⟩:=J hF;refine UI (aJ rfl rfl ((bD _ _ _).trans (cI h79))) rfl ?_;obtain⟨l13,h80,hF⟩:=J hF;refine UX (mC (α:=VC) (V:=fun _=>.slice a0 l13.length l2.length) (N:=fun _:VC=>bL [yd a0 l2,.sl a1 1 l3.length e1,pT iw r3 l3 e1,.gen (cR cu r0 (l1.take ((Int.tmod (UE ((x2:Nat):Int)) (l1.length:Int)).toNat)) (e0.take ((Int.tmod (UE ((x2:Nat):Int)) (l1.length:Int)).toNat))),.gen (cR cu r1 (l1.drop (((Int.tmod (UE ((x2:Nat):Int)) (l1.length:Int)).toNat)+1)) (e0.drop (((Int.tmod (UE ((x2:Nat):Int)) (l1.length:Int)).toNat)+1))),AG b3 x1 x2 x3 x4 x5 x6,ky b1 a2 l4 b0 l1,dg a2 l4,.arr b0 2 l1.length (e0.set ((Int.tmod (UE ((x2:Nat):Int)) (l1.length:Int)).toNat) [bQ a0 l2,bQ a1 l3]) t0,jE b2,ee H] 0 (.gen (nX a0 l2.length 1 l13.length (l13.map (eI .i64))))) rfl rfl (fun m hm=>Kh n hm (k:=0) rfl h80)) gn rfl fun _=>?_;refine UI (jF rfl) rfl<|UI (aG (r:=ptr b0 ((Int.tmod (UE ((x2:Nat):Int)) (l1.length:Int)).toNat*2+0)) rfl (eA _ _)) rfl<|U4 (oA (k:=8) (j:=(Int.tmod (UE ((x2:Nat):Int)) (l1.length:Int)).toNat) (c:=0) (e:=[bQ a0 l2,bQ a1 l3]) (e':=[.slice a0 l13.length l2.length,bQ a1 l3]) k7 rfl rfl rfl (cV h0) rfl)<|UW (aa.mT (k:=8) rfl (List.set_set _)) ?_;refine wz ?_;refine US (aa.GY (k:=0) rfl)<|US (UO (2::0::1::Vg 3 8) rfl rfl)<|US aa.iu<|US (UM (k:=2) rfl)<|US (UO (3::4::0::1::2::Vg 5 6) rfl rfl)<|At.iK (o:=cu) (r:=aj) (y:=(l13,l3)) (g:=((a0,l2.length),(a1,l3.length,e1))) (e2:=[.slice a0 l13.length l2.length,bQ a1 l3]) h1 h0 (Lf.p (Lf.sr (k:=1) rfl) (Lf.lr (k:=2) (q:=0) rfl rfl rfl)) (fun _ _=>rfl) ?_;intro r27;refine US (UP (k:=7) rfl)<|US (UM (k:=7) rfl) ?_;cases hF;exact aT (a2,l4.length,(some ⟨b0,0,none⟩),l1.length,(e0.set ((Int.tmod (UE ((x2:Nat):Int)) (l1.length:Int)).toNat) [.slice a0 l13.length l2.length,bQ a1 l3]),r27) (UT (aa.wT (k:=6) rfl) (UO [5,6,7,0,8,9] rfl rfl));refine wz ?_;refine US (UM (k:=0) rfl)<|US (UO (2::0::1::Vg 3 8) rfl rfl)<|US aa.iu<|US (UM (k:=2) rfl)<|US (UO (3::4::0::1::2::Vg 5 6) rfl rfl)<|At.iK (o:=cu) (r:=aj) (y:=(l2,l3)) (g:=((a0,l2.length),(a1,l3.length,e1))) (e2:=[bQ a0 l2,bQ a1 l3]) h1 h0 (Lf.p (Lf.sr (k:=1) rfl) (Lf.lr (k:=2) (q:=0) rfl rfl rfl)) (fun _ _=>rfl) ?_;intro r28;refine US (UP (k:=7) rfl)<|US (UM (k:=7) rfl) ?_;cases hF;exact aT (a2,l4.length,(some ⟨b0,0,none⟩),l1.length,(e0.set ((Int.tmod (UE ((x2:Nat):Int)) (l1.length:Int)).toNat) [bQ a0 l2,bQ a1 l3]),r28) (UT (aa.wT (k:=6) rfl) (UO [5,6,7,0,8,9] rfl rfl));refine wz ?_;rcases U hF with⟨h81,hF⟩|⟨h81,hF⟩;refine wz ?_;refine UI (jF rfl) rfl<|UI (aG (r:=ptr b0 ((Int.tmod (UE ((x2:Nat):Int)) (l1.length:Int)).toNat*2+0)) rfl (eA _ _)) rfl<|UI (fO (k:=8) k7 rfl rfl (cV h0) rfl rfl) rfl ?_;refine wz ?_;refine UI (mU rfl (mE (by rw[u5]; rfl) u3)) rfl ?_
 refine wz ?_;refine UI (jF rfl) rfl<|UI (aG (r:=ptr b0 ((Int.tmod (UE ((x2:Nat):Int)) (l1.length:Int)).toNat*2+0)) rfl (eA _ _)) rfl<|UI (fO (k:=8) k7 rfl rfl (cV h0) rfl rfl) rfl<|UI (oU (k:=0) MI rfl rfl (.inl rfl)) rfl<|UI (aJ rfl rfl (bD _ _ _)) rfl ?_;obtain⟨h82,hF⟩:=az hF;obtain⟨y3,h83,hF⟩:=J hF;refine UI (aJ rfl rfl ((cf _ _ h82).trans (cI h83))) rfl ?_;refine wz ?_;refine UI (aJ rfl rfl (LV _ _)) rfl ?_;refine wz ?_;obtain⟨h84,hF⟩:=az hF;refine UI (aJ rfl rfl (cf _ _ h84)) rfl<|UX (cm (es:=([Int.tmod (Iz .i64 x4 127) (l4.length:Int)]:VB (Int)).map (eI .i64)) fw rfl (cn fw z3 rfl rfl) rfl rfl) gn rfl fun b10=>?_;obtain⟨l14,h85,hF⟩:=J hF;refine UX (mC (α:=Ux×Nat) (V:=fun y=>.slice y.1 y.2 y.2) (N:=fun y=>bL [.arr b10 1 1 (([Int.tmod (Iz .i64 x4 127) (l4.length:Int)]).map (eI .i64)) .own,yd a0 l2,.sl a1 1 l3.length e1,pT iw r3 l3 e1,.gen (cR cu r0 (l1.take ((Int.tmod (UE ((x2:Nat):Int)) (l1.length:Int)).toNat)) (e0.take ((Int.tmod (UE ((x2:Nat):Int)) (l1.length:Int)).toNat))),.gen (cR cu r1 (l1.drop (((Int.tmod (UE ((x2:Nat):Int)) (l1.length:Int)).toNat)+1)) (e0.drop (((Int.tmod (UE ((x2:Nat):Int)) (l1.length:Int)).toNat)+1))),AG b3 x1 x2 x3 x4 x5 x6,ky b1 a2 l4 b0 l1,dg a2 l4,.arr b0 2 l1.length (e0.set ((Int.tmod (UE ((x2:Nat):Int)) (l1.length:Int)).toNat) [bQ a0 l2,bQ a1 l3]) t0,jE b2,ee H] 1 (.sl y.1 1 y.2 (l14.map (eI .i64)))) rfl rfl (fun m hm=>Jt n hm (k:=1) rfl (k2:=0) rfl rfl h85)) gn rfl ?_;rintro⟨a11,n9⟩;refine Vb (k:=1) (xs:=l14) rfl ?_;rintro rfl;refine UI (jF rfl) rfl<|UI (aG (r:=ptr b0 ((Int.tmod (UE ((x2:Nat):Int)) (l1.length:Int)).toNat*2+0)) rfl (eA _ _)) rfl<|U4 (oA (k:=9) (j:=(Int.tmod (UE ((x2:Nat):Int)) (l1.length:Int)).toNat) (c:=0) (e:=[bQ a0 l2,bQ a1 l3]) (e':=[bQ a11 l14,bQ a1 l3]) k7 rfl rfl rfl (cV h0) rfl)<|UW (aa.mT (k:=9) rfl (List.set_set _)) ?_;refine wz ?_;refine US (UM (k:=1) rfl)<|US (UO (3::0::1::2::Vg 4 8) rfl rfl)<|US aa.iu<|US (UM (k:=3) rfl)<|US (UO (4::5::0::1::2::3::Vg 6 6) rfl rfl)<|At.iK (o:=cu) (r:=aj) (y:=(l14,l3)) (g:=((a11,l14.length),(a1,l3.length,e1))) (e2:=[bQ a11 l14,bQ a1 l3]) h1 h0 (Lf.p (Lf.sr (k:=2) rfl) (Lf.lr (k:=3) (q:=0) rfl rfl rfl)) (fun _ _=>rfl) ?_;intro r29;refine US (UP (k:=8) rfl)<|US (UM (k:=8) rfl) ?_;cases hF;exact aT (a2,l4.length,(some ⟨b0,0,none⟩),l1.length,(e0.set ((Int.tmod (UE ((x2:Nat):Int)) (l1.length:Int)).toNat) [bQ a11 l14,bQ a1 l3]),r29) (UT (aa.wT (k:=7) rfl) (UO [6,7,8,0,9,10] rfl rfl));refine wz ?_;rcases U hF with⟨h15,hF⟩|⟨h15,hF⟩;refine wz ?_;refine UI (jF rfl) rfl<|UI (aG (r:=ptr b0 ((Int.tmod (UE ((x2:Nat):Int)) (l1.length:Int)).toNat*2+0)) rfl (eA _ _)) rfl<|UI (fO (k:=8) k7 rfl rfl (cV h0) rfl rfl) rfl ?_;refine au ?_;rcases U hF with⟨h16,hF⟩|⟨h16,hF⟩;refine U3 rfl h16<|U6 (prs:=[(11,15),(11,17),(11,21)]) (by kernel_rfl)<|UL (aV rfl) rfl<|UL (aV rfl) rfl<|UL (jF rfl) rfl<|UL (aG (r:=ptr b0 ((Int.tmod (UE ((x2:Nat):Int)) (l1.length:Int)).toNat*2+0)) rfl (eA _ _)) rfl<|UL (fO (k:=8) k7 rfl rfl (cV h0) rfl rfl) rfl<|UL (aG (r:=ptr b3 2) rfl (um _ _)) rfl<|UL (aI (k:=5) MA rfl rfl rfl) rfl<|UL (mU rfl (mE (by rw[u5]; rfl) u3)) rfl ?_
 refine UL (aV rfl) rfl ?_;obtain⟨h86,hF⟩:=az hF;refine UL (aJ rfl rfl (cf _ _ h86)) rfl ?_;obtain⟨h87,hF⟩:=az hF;refine Ve (UM (k:=0) rfl)<|Wn.x (zi (k:=0) (lo:=Int.tmod (UE ((x3:Nat):Int)) (l2.length:Int)) (hi:=(l2.length:Int)) fw rfl rfl rfl rfl h87 (.inr ⟨_,rfl⟩) (.inl ⟨rfl,rfl⟩)) gn rfl ?_;rintro⟨a23,c4⟩;obtain⟨l7,h88,hF⟩:=J hF;refine nc gn (fun m hm=>sC n ((l2.drop (Int.tmod (UE ((x3:Nat):Int)) (l2.length:Int):Int).toNat).take (((l2.length:Int):Int).toNat-(Int.tmod (UE ((x3:Nat):Int)) (l2.length:Int):Int).toNat)) a23 c4 _ h88 m (hm.q 0)) ?_;rintro⟨a25,n10⟩;refine Wn.len (k:=0) (xs:=l7) rfl ?_;rintro rfl;refine UL (aV rfl) rfl<|UL (jF rfl) rfl<|UL (aG (r:=ptr b0 ((Int.tmod (UE ((x2:Nat):Int)) (l1.length:Int)).toNat*2+0)) rfl (eA _ _)) rfl<|UL (fO (k:=10) k7 rfl rfl (cV h0) rfl rfl) rfl<|UL (aG (r:=ptr b3 2) rfl (um _ _)) rfl<|UL (aI (k:=7) MA rfl rfl rfl) rfl<|UL (mU rfl (mE (by rw[u5]; rfl) u3)) rfl<|UL (aV rfl) rfl ?_
 obtain⟨h89,hF⟩:=az hF;refine UL (aJ rfl rfl (cf _ _ h89)) rfl ?_;obtain⟨h90,hF⟩:=az hF;refine Wn.x (zi (k:=2) (lo:=0) (hi:=Int.tmod (UE ((x3:Nat):Int)) (l2.length:Int)) fw rfl rfl rfl rfl h90 (.inl ⟨rfl,rfl⟩) (.inr ⟨_,rfl⟩)) gn rfl ?_;rintro⟨a26,c5⟩;obtain⟨h91,hF⟩:=az hF;refine Wn.x (uy (k:=1) (k2:=0) (xs:=(l7:VB (Int))) (ys:=(((l2.drop UF).take ((Int.tmod (UE ((x3:Nat):Int)) (l2.length:Int):Int).toNat-UF)):VB (Int))) (tF .i64) fw ⟨_,MI⟩ rfl rfl rfl (.rd _ _ _ _ _) h91) gn rfl fun a12=>?_;refine UL (jF rfl) rfl<|UL (aG (r:=ptr b0 ((Int.tmod (UE ((x2:Nat):Int)) (l1.length:Int)).toNat*2+0)) rfl (eA _ _)) rfl<|Wn.o0 (oA (k:=11) (j:=(Int.tmod (UE ((x2:Nat):Int)) (l1.length:Int)).toNat) (c:=0) (e:=[bQ a0 l2,bQ a1 l3]) (e':=[.slice a12 ((l7++((l2.drop UF).take ((Int.tmod (UE ((x3:Nat):Int)) (l2.length:Int):Int).toNat-UF))).length) ((l7++((l2.drop UF).take ((Int.tmod (UE ((x3:Nat):Int)) (l2.length:Int):Int).toNat-UF))).length),bQ a1 l3]) k7 rfl rfl rfl (cV h0) rfl)<|Ve (aa.mT (k:=11) rfl (List.set_set _))<|U1 (fun m hm=>dq.all rfl)<|At.bn<|US (UM (k:=1) rfl)<|US (UO (5::0::1::2::3::4::Vg 6 8) rfl rfl)<|US aa.iu<|US (UM (k:=5) rfl)<|US (UO (6::7::0::1::2::3::4::5::Vg 8 6) rfl rfl)<|At.iK (o:=cu) (r:=aj) (y:=((l7++((l2.drop UF).take ((Int.tmod (UE ((x3:Nat):Int)) (l2.length:Int):Int).toNat-UF))),l3)) (g:=((a12,(l7++((l2.drop UF).take ((Int.tmod (UE ((x3:Nat):Int)) (l2.length:Int):Int).toNat-UF))).length),(a1,l3.length,e1))) (e2:=[.slice a12 ((l7++((l2.drop UF).take ((Int.tmod (UE ((x3:Nat):Int)) (l2.length:Int):Int).toNat-UF))).length) ((l7++((l2.drop UF).take ((Int.tmod (UE ((x3:Nat):Int)) (l2.length:Int):Int).toNat-UF))).length),bQ a1 l3]) h1 h0 (Lf.p (Lf.sr (k:=2) rfl) (Lf.lr (k:=5) (q:=0) rfl rfl rfl)) (fun _ _=>rfl) ?_;intro r30;refine US (UP (k:=10) rfl)<|US (UM (k:=10) rfl) ?_;cases hF;exact aT (a2,l4.length,(some ⟨b0,0,none⟩),l1.length,(e0.set ((Int.tmod (UE ((x2:Nat):Int)) (l1.length:Int)).toNat) [.slice a12 ((l7++((l2.drop UF).take ((Int.tmod (UE ((x3:Nat):Int)) (l2.length:Int):Int).toNat-UF))).length) ((l7++((l2.drop UF).take ((Int.tmod (UE ((x3:Nat):Int)) (l2.length:Int):Int).toNat-UF))).length),bQ a1 l3]),r30) (UT (aa.wT (k:=9) rfl) (UO [8,9,10,0,11,12] rfl rfl));refine wz ?_;refine US (UM (k:=0) rfl)<|US (UO (2::0::1::Vg 3 8) rfl rfl)<|US aa.iu<|US (UM (k:=2) rfl)<|US (UO (3::4::0::1::2::Vg 5 6) rfl rfl)<|At.iK (o:=cu) (r:=aj) (y:=(l2,l3)) (g:=((a0,l2.length),(a1,l3.length,e1))) (e2:=[bQ a0 l2,bQ a1 l3]) h1 h0 (Lf.p (Lf.sr (k:=1) rfl) (Lf.lr (k:=2) (q:=0) rfl rfl rfl)) (fun _ _=>rfl) ?_;intro r31;refine US (UP (k:=7) rfl)<|US (UM (k:=7) rfl) ?_;cases hF;exact aT (a2,l4.length,(some ⟨b0,0,none⟩),l1.length,(e0.set ((Int.tmod (UE ((x2:Nat):Int)) (l1.length:Int)).toNat) [bQ a0 l2,bQ a1 l3]),r31) (UT (aa.wT (k:=6) rfl) (UO [5,6,7,0,8,9] rfl rfl));refine U8 rfl h15<|UN ?_;obtain⟨l9,h7,hF⟩:=J hF;refine ct (fun l9 ((a5,e8,r14):Ux×Uw ×(Nat->Prop))=>⟨(.exit 1),[(3,ptr b1 0),(4,ptr b2 0)],[ky b1 a2 l4 b0 l1,dg a2 l4,.arr b0 2 l1.length (e0.set ((Int.tmod (UE ((x2:Nat):Int)) (l1.length:Int)).toNat) [bQ a0 l2,bQ a5 l9]) t0,yd a0 l2,.sl a5 1 l9.length e8,pT iw r14 l9 e8,.gen (cR cu r0 (l1.take ((Int.tmod (UE ((x2:Nat):Int)) (l1.length:Int)).toNat)) (e0.take ((Int.tmod (UE ((x2:Nat):Int)) (l1.length:Int)).toNat))),.gen (cR cu r1 (l1.drop (((Int.tmod (UE ((x2:Nat):Int)) (l1.length:Int)).toNat)+1)) (e0.drop (((Int.tmod (UE ((x2:Nat):Int)) (l1.length:Int)).toNat)+1))),jE b2,ee H]⟩) l9 ?_ ?_;refine lo h7 (a1,e1,r3) [5,6,7,8,0,1,2,3,4,9,10] (fun l12 ((a7,e4,r9):Ux×Uw ×(Nat->Prop))=>⟨.normal,(iO b3 b1 [(4,ptr b2 0),(8,ptr b0 ((Int.tmod (UE ((x2:Nat):Int)) (l1.length:Int)).toNat*2+0))]),[AG b3 x1 x2 x3 x4 x5 x6,ky b1 a2 l4 b0 l1,dg a2 l4,.arr b0 2 l1.length (e0.set ((Int.tmod (UE ((x2:Nat):Int)) (l1.length:Int)).toNat) [bQ a0 l2,bQ a7 l12]) t0,yd a0 l2,.sl a7 1 l12.length e4,pT iw r9 l12 e4,.gen (cR cu r0 (l1.take ((Int.tmod (UE ((x2:Nat):Int)) (l1.length:Int)).toNat)) (e0.take ((Int.tmod (UE ((x2:Nat):Int)) (l1.length:Int)).toNat))),.gen (cR cu r1 (l1.drop (((Int.tmod (UE ((x2:Nat):Int)) (l1.length:Int)).toNat)+1)) (e0.drop (((Int.tmod (UE ((x2:Nat):Int)) (l1.length:Int)).toNat)+1))),jE b2,ee H]⟩) ?_;clear hF h7;rintro l12 ⟨a7,e4,r9⟩ r hF;unfold uf at hF;refine wz ?_;refine UI (jF rfl) rfl<|UI (aG (r:=ptr b0 ((Int.tmod (UE ((x2:Nat):Int)) (l1.length:Int)).toNat*2+1)) rfl (fe _ _)) rfl<|UI (fO (k:=3) mB rfl rfl (cV h0) rfl rfl) rfl ?_;refine wz ?_;refine UI (aJ rfl rfl (wY _ _ (by decide))) rfl<|UI (mU rfl (mE (by rw[u5]; rfl) u3)) rfl ?_
 refine wz ?_;rcases U hF with⟨h92,hF⟩|⟨h92,hF⟩;refine wz ?_;refine UN<|U6 (prs:=[(4,9)]) (by kernel_rfl)<|UL (aV rfl) rfl<|UL (aV rfl) rfl<|UL (jF rfl) rfl<|UL (aG (r:=ptr b0 ((Int.tmod (UE ((x2:Nat):Int)) (l1.length:Int)).toNat*2+1)) rfl (fe _ _)) rfl<|UL (fO (k:=3) mB rfl rfl (cV h0) rfl rfl) rfl<|UL (aV rfl) rfl<|UL (jF rfl) rfl<|UL (aG (r:=ptr b0 ((Int.tmod (UE ((x2:Nat):Int)) (l1.length:Int)).toNat*2+0)) rfl (eA _ _)) rfl ?_
 refine UL (fO (k:=3) k7 rfl rfl (cV h0) rfl rfl) rfl ?_;obtain⟨l15,h93,hF⟩:=J hF;refine nc gn (fun m hm=>sC n l2 a0 l2.length _ h93 m (hm.rd (k:=4) rfl (.sl _ _ _ _))) ?_;rintro⟨a16,n11⟩;refine Wn.len (k:=0) (xs:=l15) rfl ?_;rintro rfl;refine Wn.x (cm (es:=[[bQ a16 l15]]) qc rfl (cn qc z51 rfl rfl) rfl rfl) gn rfl fun b15=>?_;refine Ve (UO (1::0::Vg 2 11) rfl rfl)<|Wn.uS (o:=iw) (x:=l15) (g:=a16) rfl ?_;intro r42;obtain⟨h94,hF⟩:=az hF;refine Ve (UO [8,0,7,1,2,3,4,5,6,9,10,11,12] rfl rfl)<|Wn.x (tz (o:=iw) (L:=l12) (L':=([l15]:Uv)) qc ⟨_,Ko⟩ rfl (.arr _ _ _ _ _) rfl h94) gn rfl ?_;rintro⟨a17,r32⟩;refine UL (jF rfl) rfl<|UL (aG (r:=ptr b0 ((Int.tmod (UE ((x2:Nat):Int)) (l1.length:Int)).toNat*2+1)) rfl (fe _ _)) rfl<|Wn.o0 (oA (k:=6) (j:=(Int.tmod (UE ((x2:Nat):Int)) (l1.length:Int)).toNat) (c:=1) (e:=[bQ a0 l2,bQ a7 l12]) (e':=[bQ a0 l2,.slice a17 ((l12++([l15]:Uv)).length) ((l12++([l15]:Uv)).length)]) mB rfl rfl rfl (cV h0) rfl)<|Ve (aa.mT (k:=6) rfl (List.set_set _))<|U1 (fun m hm=>dq.all rfl)<|At.bn ?_;cases hF;exact ae (a17,(e4++([[bQ a16 l15]]:Uw)),r32) [3,4,5,6,7,1,0,8,9,10,11];refine wz ?_;cases hF;exact ae (a7,e4,r9) (Vg 1 10);rintro⟨a5,e8,r14⟩;refine wz ?_;refine US (UM (k:=3) rfl)<|US (UO [5,0,1,2,3,4,6,7,8,9] rfl rfl)<|US aa.iu<|US (UM (k:=5) rfl)<|US (UO [6,7,0,1,2,3,4,5,8,9] rfl rfl)<|At.iK (o:=cu) (r:=aj) (y:=(l2,l9)) (g:=((a0,l2.length),(a5,l9.length,e8))) (e2:=[bQ a0 l2,bQ a5 l9]) h1 h0 (Lf.p (Lf.sr (k:=4) rfl) (Lf.lr (k:=5) (q:=0) rfl rfl rfl)) (fun _ _=>rfl) ?_;intro r33;refine US (UP (k:=4) rfl)<|US (UM (k:=4) rfl) ?_;cases hF;exact aT (a2,l4.length,(some ⟨b0,0,none⟩),l1.length,(e0.set ((Int.tmod (UE ((x2:Nat):Int)) (l1.length:Int)).toNat) [bQ a0 l2,bQ a5 l9]),r33) (UT (aa.wT (k:=3) rfl) (UO [2,3,4,0,7,8] rfl rfl));clear h29;obtain⟨l23,n0,n1,l24⟩:=r4;rintro⟨a9,c1,a10,c2,e5,r5⟩;refine gB ?_;cases hF;exact UY (.cell (k:=4) fB rfl rfl rfl .nil) fun m' hm=>⟨(a9,c1,n0,a10,c2,n1,e5,r5),rfl,(UT (aa.GY (k:=1) rfl) (UO [1,2,3,5] rfl rfl)) m' hm⟩
def Pq:Jg (Vq p q).P 44 3 .i64=true:=by kernel_rfl
def Rl:∀(x0 y0:Int) (x1 y1:Int) (x2 y2:Int) (x3 y3:Int),kD (Vq p q).P Op.maxDepth 44 (.agg #[bg x0,bg x1,bg x2,bg x3]) (.agg #[bg y0,bg y1,bg y2,bg y3])=some (decide (x0=y0)&&decide (x1=y1)&&decide (x2=y2)&&decide (x3=y3)):=fun x0 y0 x1 y1 x2 y2 x3 y3=>Ou Pq x0 y0 x1 y1 x2 y2 x3 y3
def QH:(Vq p q).P.eqGuardType (Vq p q).P.depth 44=false:=by kernel_rfl
def Rq:TyI (Vq p q).P 24 true 5:=⟨by kernel_rfl,by kernel_rfl,by kernel_rfl⟩
instance:TyC (Vq p q).P 24 true 5:=⟨Rq⟩
def Q2:TyI (Vq p q).P 29 true 12:=⟨by kernel_rfl,by kernel_rfl,by kernel_rfl⟩
instance:TyC (Vq p q).P 29 true 12:=⟨Q2⟩
def z35:bq (Vq p q).P 35=some (.agg #[.slice none 0 0,.slice none 0 0,.slice none 0 0,.slice none 0 0,.slice none 0 0,.slice none 0 0]):=by kernel_rfl
def H7:∀b o,aC (Vq p q).P 24 (ptr b o) 0=some (ptr b (o+0)):=fun _ _=>by kernel_rfl
instance:FaC (Vq p q).P 24 0 0:=⟨H7⟩
def Ha:∀b o,aC (Vq p q).P 24 (ptr b o) 1=some (ptr b (o+1)):=fun _ _=>by kernel_rfl
instance:FaC (Vq p q).P 24 1 1:=⟨Ha⟩
def Ba:∀b o,aC (Vq p q).P 24 (ptr b o) 4=some (ptr b (o+4)):=fun _ _=>by kernel_rfl
instance:FaC (Vq p q).P 24 4 4:=⟨Ba⟩
def QE:TyI (Vq p q).P 4 false 1:=⟨by kernel_rfl,by kernel_rfl,by kernel_rfl⟩
instance:TyC (Vq p q).P 4 false 1:=⟨QE⟩
def Bz:∀b o,aC (Vq p q).P 24 (ptr b o) 3=some (ptr b (o+3)):=fun _ _=>by kernel_rfl
instance:FaC (Vq p q).P 24 3 3:=⟨Bz⟩
def GL:TyI (Vq p q).P 22 false 1:=⟨by kernel_rfl,by kernel_rfl,by kernel_rfl⟩
instance:TyC (Vq p q).P 22 false 1:=⟨GL⟩
def RA:(Vq p q).P.underlying 22=some (.slice 5):=by kernel_rfl
instance:UsC (Vq p q).P 22 5:=⟨RA⟩
def RL:SlT (Vq p q).P 22 5 1:=SlT.of (by kernel_rfl)
instance:SlC (Vq p q).P 22 5 1:=⟨RL⟩
def AY:∀b o,aC (Vq p q).P 24 (ptr b o) 2=some (ptr b (o+2)):=fun _ _=>by kernel_rfl
instance:FaC (Vq p q).P 24 2 2:=⟨AY⟩
def O6:ArT (Vq p q).P 29 28 2 6:=⟨by kernel_rfl,by kernel_rfl,by kernel_rfl⟩
instance:ArC (Vq p q).P 29 28 2 6:=⟨O6⟩
def PX:TyI (Vq p q).P 28 true 6:=⟨by kernel_rfl,by kernel_rfl,by kernel_rfl⟩
instance:TyC (Vq p q).P 28 true 6:=⟨PX⟩
def Q8:BdT (Vq p q).P 35 (.agg #[.slice none 0 0,.slice none 0 0,.slice none 0 0,.slice none 0 0,.slice none 0 0,.slice none 0 0]) [(0,2),(2,2),(4,2)]:=.mk' (by kernel_rfl) (by kernel_rfl)
def NF:TyI (Vq p q).P 35 true 6:=⟨by kernel_rfl,by kernel_rfl,by kernel_rfl⟩
instance:TyC (Vq p q).P 35 true 6:=⟨NF⟩
def Kp:ArT (Vq p q).P 35 34 3 2:=⟨by kernel_rfl,by kernel_rfl,by kernel_rfl⟩
instance:ArC (Vq p q).P 35 34 3 2:=⟨Kp⟩
def Q3:TyI (Vq p q).P 38 false 1:=⟨by kernel_rfl,by kernel_rfl,by kernel_rfl⟩
instance:TyC (Vq p q).P 38 false 1:=⟨Q3⟩
def sH{n l1 a2 c3 r}(hF:Mi n l1=some r)(m)(h4:AR m a2 c3 l1):
 aK (Vq p q) 42 [bI a2 l1 c3] m (fun v m'=>∃x:Ux×Nat,v=.slice x.1 x.2 x.2/\Hp m m' [.sl x.1 2 x.2 (r.map (eP (eI .i64) (eI .i64)))]):=by
 unfold Mi at hF;refine cw Try.func42 (U2 (UU m) eo h4) ?_;refine gB ?_;refine UN ?_;obtain⟨l37,h51,hF⟩:=J hF;refine ct (fun l37 (a38:Ux)=>⟨(.exit 0),[(3,bQ a38 l37)],[dg a38 l37]⟩) l37 ?_ ?_;refine lw h51 none (fun(l19,v21) a20=>⟨.normal,[(0,bI a2 l1 c3),(3,bQ a20 l19),(4,bg v21)],[oc a2 c3 l1,dg a20 l19]⟩) (UT (aa.nil 2 rfl) (UO [1,0] rfl rfl)) ?_;clear hF h51;rintro⟨l19,v21⟩ a20 r hF;unfold Lo at hF;refine wz ?_;rcases U hF with⟨h39,hF⟩|⟨h39,hF⟩;refine au ?_;obtain⟨h40,hF⟩:=cW hF;refine U0 (k:=0) rfl (aU h40) ?_;rintro b41 o42 rfl;refine wz ?_;obtain⟨x43,h44,hF⟩:=J hF;refine wz ?_;obtain⟨h45,hF⟩:=cW hF;refine wz ?_;obtain⟨x46,h47,hF⟩:=J hF;refine wz ?_;refine UI (cH rfl z26 rfl (cJ Es rfl rfl rfl)) rfl<|UX (cm (es:=([(x43,x46)]:Uu).map (eP (eI .i64) (eI .i64))) vK rfl (cn vK z26 rfl rfl) rfl rfl) gn rfl fun b48=>?_;obtain⟨h49,hF⟩:=az hF;refine UX (uy (k:=3) (k2:=0) (xs:=(l19:Uu)) (ys:=([(x43,x46)]:Uu)) (EC (tF .i64) (tF .i64)) vK ⟨_,Qa⟩ rfl rfl rfl (.arr _ _ _ _ _) h49) gn rfl fun a50=>?_;refine au ?_;cases hF;exact ae a50 [2,3];refine wz ?_;cases hF;exact ae a20 [1];rintro a38;refine gB ?_;obtain rfl:=Sb hF;exact ar (a38,l37.length) [0]
def G9{n l1 l5 a2 c3 a6 c7}{rr8:Uy}{es9:Uw}{r}(hF:F8 n l1 l5=some r)(m)(h4:kq m a2 c3 l1)(h10:nY m a6 c7 l5 es9)(h11:(cp aj rr8 l5 es9).P m):
 aK (Vq (some mK) q) 8 [lO a2 l1 c3 a6 l5 c7] m (fun v m'=>∃x:Ux×Nat,v=.tuple #[.slice x.1 x.2 x.2,.int .i64 r.2]/\Hp m m' [.sl x.1 4 x.2 (r.1.map (eP (eI .i64) (eP (eI .i64) (eP (eI .i64) (eI .i64)))))]):=by
 unfold F8 at hF;refine cw Try.func8 (Hp.nV (U2 (U2 (UU m) eo h4) (fg eo) h10) (fg (fg eo)) h11) ?_;refine wz ?_;refine wb fun b12=>?_;refine au ?_;obtain⟨r14,h13,hF⟩:=J hF;refine wc gn (fun m hm=>w7 h13 m (hm.q 3) (hm.q 2) (hm.dp (q:=1) rfl)) ?_;rintro⟨⟩;refine au ?_;rcases U hF with⟨h15,hF⟩|⟨h15,hF⟩;refine au ?_;cases hF;exact UY (.tmp rfl (.tmp rfl .nil)) fun m' hm=>⟨(none,0),rfl,(UT (aa.nil 4 rfl) (UO [0] rfl rfl)) m' hm⟩;refine au ?_;obtain⟨l17,h16,hF⟩:=J hF;refine wc gn (fun m hm=>E3 n l1 l5 a2 c3 a6 c7 rr8 es9 _ h16 m (hm.q 3) (hm.q 2) (hm.dp (q:=1) rfl)) ?_;rintro⟨a18,n19⟩;refine Vb (k:=0) (xs:=l17) rfl ?_;rintro rfl;refine au ?_;cases hF;exact ar (a18,l17.length) [0]
def Li{n l2 l1 x3 a0 c0 a1 c1}{r0:Uy}{e0:Uw}{r}(hF:F9 n l2 l1 x3=some r)(m)(h1:kq m a0 c0 l2)(h2:nY m a1 c1 l1 e0)(h3:(cp aj r0 l1 e0).P m):
 aK (Vq p q) 9 [lO a0 l2 c0 a1 l1 c1,bg x3] m (Vm m (.tuple #[.int .i64 r.1,.int .i64 r.2])):=by
 unfold F9 at hF;refine cw Try.func9 (Hp.nV (U2 (U2 (UU m) eo h1) (fg eo) h2) (fg (fg eo)) h3) ?_;refine wz ?_;refine wb fun b0=>?_;refine au ?_;obtain⟨r3,h4,hF⟩:=J hF;refine wc gn (fun m hm=>w7 h4 m (hm.q 3) (hm.q 2) (hm.dp (q:=1) rfl)) ?_;rintro⟨⟩;refine au ?_;rcases U hF with⟨h5,hF⟩|⟨h5,hF⟩;refine au ?_;cases hF;exact ar () [];refine wz ?_;refine UJ<|UJ ?_;obtain⟨v0,h6,hF⟩:=J hF;refine ct (fun v0 (_:VC)=>⟨.normal,[(1,bg x3),(2,ptr b0 0),(23,.bool v0)],(fR b0 a0 l2 c0 a1 l1 c1 e0 aj r0 [])⟩) v0 ?_ ?_;clear hF;revert v0;intro r hF;refine wz ?_;rcases U hF with⟨h7,hF⟩|⟨h7,hF⟩;refine wz ?_;cases hF;exact ae () [0,3,2,1];refine wz ?_;cases hF;exact ae () [0,3,2,1];rintro⟨⟩;refine UR ?_;rcases U hF with⟨h8,hF⟩|⟨h8,hF⟩;refine au ?_;cases hF;exact ar () [];refine gB ?_;obtain⟨h9,hF⟩:=cW hF;refine U0 (k:=2) rfl (aU h9) ?_;rintro b1 o1 rfl;refine wz ?_;obtain⟨⟨l5,l6⟩,h10,hF⟩:=J hF;refine wl 2 0 4 0 h10 ?_;rintro⟨⟨a3,c3⟩,⟨a4,c4,e3⟩⟩;obtain⟨l3,h11,hF⟩:=J hF;refine Fx gn (fun m hm=>j7 h11 m hm.dW (hm.q 0) (hm.no 0) (hm.q 1) (hm.no 1) (hm.dp (q:=2) rfl) (hm.gQ (q:=2) rfl)) ?_;rintro⟨a2,c2,n0,e1,r1⟩;refine Wo.jH (k:=0) (q:=1) (L:=l3) rfl (.inr (.inl ⟨_,rfl⟩)) rfl ?_;rintro rfl;refine wz ?_;refine UN ?_;obtain⟨v1,h0,hF⟩:=J hF;refine ct (fun v1 (_:VC)=>⟨(.exit 0),[(7,bg v1)],[]⟩) v1 ?_ ?_;refine lo h0 () [6,7,5,9,8,0,1] (fun(v2,v3) _=>⟨.normal,[(2,ptr b0 0),(7,bg v2),(29,bI a2 l3 c2),(30,dC l3),(31,bg v3)],(gC b0 a0 l2 c0 b1 o1 l1 c1 e0 aj r0 [ju a2 c2 l3 e1,fT bl r1 l3 e1])⟩) ?_;clear hF h0;rintro⟨v2,v3⟩ ⟨⟩ r hF;unfold DZ at hF;refine wz ?_;refine UJ ?_;rcases U hF with⟨h12,hF⟩|⟨h12,hF⟩;refine au ?_;obtain⟨h13,hF⟩:=cW hF;refine U0 (k:=5) rfl (aU h13) ?_;rintro b2 o2 rfl;refine wz ?_;obtain⟨l7,h14,hF⟩:=J hF;refine wl 1 0 7 0 h14 ?_;rintro⟨a5,c5⟩;refine au ?_;obtain⟨l4,h15,hF⟩:=J hF;refine wc gn (fun m hm=>qw h15 m (hm.q 3) (hm.q 6) (hm.dp (q:=5) rfl) (hm.q 0)) ?_;rintro⟨a6,n1⟩;refine Vb (k:=0) (xs:=l4) rfl ?_;rintro rfl;obtain⟨r4,h16,hF⟩:=J hF;refine wc gn (fun m hm=>E9 h16 m (hm.rd (k:=0) rfl (.sl _ _ _ _))) ?_;rintro⟨⟩;refine au ?_;cases hF;exact ae () (Vg 3 7);refine wz ?_;cases hF;exact ae () [];rintro⟨⟩;refine gB ?_;cases hF;exact ar () []
def Ns{n l1 l5 a2 c3 a6 c7 r}(hF:QZ n l1 l5=some r)(m)(h4:Rd m a2 c3 4 l1.length (l1.map (eP (eI .i64) (eP (eI .i64) (eP (eI .i64) (eI .i64))))))(h8:Rd m a6 c7 4 l5.length (l5.map (eP (eI .i64) (eP (eI .i64) (eP (eI .i64) (eI .i64)))))):
 aK (Vq p q) 18 [bI a2 l1 c3,bI a6 l5 c7] m (Vm m (.bool r)):=by
 unfold QZ at hF;refine cw Try.func18 (U2 (U2 (UU m) eo h4) (fg eo) h8) ?_;refine au ?_;rcases U hF with⟨h9,hF⟩|⟨h9,hF⟩;refine au ?_;cases hF;exact ar () [];refine au ?_;refine UN ?_;obtain⟨r50,h49,hF⟩:=J hF;refine ct (fun(r:VC⊕VC) (g:VC)=>match r,g with|.inl _,_=>⟨.ret,[(4,.bool false)],[]⟩|.inr _,_=>⟨(.exit 0),[],[]⟩) r50 ?_ ?_
 refine lo h49 () [1,0] (fun v11 _=>⟨.normal,[(0,bI a2 l1 c3),(1,bI a6 l5 c7),(12,dC l1),(13,bg v11)],[.rd a2 c3 4 l1.length (l1.map (eP (eI .i64) (eP (eI .i64) (eP (eI .i64) (eI .i64))))),.rd a6 c7 4 l5.length (l5.map (eP (eI .i64) (eP (eI .i64) (eP (eI .i64) (eI .i64)))))]⟩) ?_;clear hF h49;rintro v11 ⟨⟩ r hF;unfold Ll at hF;refine wz ?_;refine UJ ?_;rcases U hF with⟨h31,hF⟩|⟨h31,hF⟩;refine gB ?_;obtain⟨h32,hF⟩:=cW hF;refine U0 (k:=0) rfl (aU h32) ?_;rintro b33 o34 rfl;refine wz ?_;obtain⟨⟨x35,x36,x37,x38⟩,h39,hF⟩:=J hF;refine wz ?_;obtain⟨h40,hF⟩:=cW hF;refine U0 (k:=2) rfl (aU h40) ?_;rintro b41 o42 rfl;refine wz ?_;obtain⟨⟨x43,x44,x45,x46⟩,h47,hF⟩:=J hF;refine wz ?_;refine UI (aJ rfl rfl (O3 QH (Rl _ _ _ _ _ _ _ _))) rfl ?_;refine wz ?_;rcases U hF with⟨h48,hF⟩|⟨h48,hF⟩;refine au ?_;cases hF;exact ae () [];refine au ?_;cases hF;exact ae () [2,3];refine wz ?_;cases hF;exact ae () [];rcases r50 with _|_;rintro⟨⟩;refine wz ?_;cases hF;exact ar () [];rintro⟨⟩;refine gB ?_;cases hF;exact ar () []
def s7{n l1 l5 x12 x13 a2 c3 a6 c7}{rr8:Uy}{es9:Uw}{r}(hF:ME n l1 l5 x12 x13=some r)(m)(h4:kq m a2 c3 l1)(h10:nY m a6 c7 l5 es9)(h11:(cp aj rr8 l5 es9).P m):
 aK (Vq (some mK) q) 19 [lO a2 l1 c3 a6 l5 c7,bg x12,bg x13] m (Vm m (.bool r)):=by
 unfold ME at hF;refine cw Try.func19 (Hp.nV (U2 (U2 (UU m) eo h4) (fg eo) h10) (fg (fg eo)) h11) ?_;refine wz ?_;refine wb fun b14=>?_;refine au ?_;obtain⟨⟨r16,r17⟩,h15,hF⟩:=J hF;refine wc gn (fun m hm=>Gl h15 m (hm.q 3) (hm.q 2) (hm.dp (q:=1) rfl)) ?_;rintro⟨⟩;refine au ?_;obtain⟨⟨l19,r22⟩,h18,hF⟩:=J hF;refine wc gn (fun m hm=>G9 h18 m (hm.q 3) (hm.q 2) (hm.dp (q:=1) rfl)) ?_;rintro⟨a20,n21⟩;refine Vb (k:=0) (xs:=l19) rfl ?_;rintro rfl;refine au ?_;rcases U hF with⟨h23,hF⟩|⟨h23,hF⟩;refine wz ?_;rcases U hF with⟨h24,hF⟩|⟨h24,hF⟩;refine wz ?_;refine UZ (aJ rfl rfl (Lu u4)) (gg rfl rfl (fi h24)) rfl ?_;refine au ?_;cases hF;exact ar () [];refine au ?_;cases hF;exact ar () [];refine au ?_;cases hF;exact ar () []
def Hm{n l1 l5 x12 x13 x14 x15 a2 c3 a6 c7}{rr8:Uy}{es9:Uw}{r}(hF:Qp n l1 l5 x12 x13 x14 x15=some r)(m)(h4:kq m a2 c3 l1)(h10:nY m a6 c7 l5 es9)(h11:(cp aj rr8 l5 es9).P m):
 aK (Vq (some mK) (some ED)) 20 [lO a2 l1 c3 a6 l5 c7,bg x12,bg x13,bg x14,bg x15] m (Vm m (.bool r)):=by
 unfold Qp at hF;refine cw Try.func20 (Hp.nV (U2 (U2 (UU m) eo h4) (fg eo) h10) (fg (fg eo)) h11) ?_;refine wz ?_;refine wb fun b16=>?_;refine au ?_;obtain⟨⟨r18,r19,r20,r21,r22⟩,h17,hF⟩:=J hF;refine wc gn (fun m hm=>Ny n l1 l5 a2 c3 a6 c7 rr8 es9 _ h17 m (hm.q 3) (hm.q 2) (hm.dp (q:=1) rfl)) ?_;rintro⟨⟩;refine au ?_;rcases U hF with⟨h23,hF⟩|⟨h23,hF⟩;refine wz ?_;rcases U hF with⟨h24,hF⟩|⟨h24,hF⟩;refine wz ?_;rcases U hF with⟨h25,hF⟩|⟨h25,hF⟩;refine wz ?_;rcases U hF with⟨h26,hF⟩|⟨h26,hF⟩;refine au ?_;cases hF;exact ar () [];refine au ?_;cases hF;exact ar () [];refine au ?_;cases hF;exact ar () [];refine au ?_;cases hF;exact ar () [];refine au ?_;cases hF;exact ar () []
def L9{n l2 l1 x3 x4 a0 c1 a1 c0}{r0:Uy}{e0:Uw}{r}(hF:QM n l2 l1 x3 x4=some r)(m)(h3:kq m a0 c1 l2)(h4:nY m a1 c0 l1 e0)(h5:(cp aj r0 l1 e0).P m):
 aK (Vq p q) 13 [lO a0 l2 c1 a1 l1 c0,mI x3 x4] m (Vm m (.tuple #[.int .i64 r.1,.int .i64 r.2])):=by
 unfold QM at hF;refine cw Try.func13 (Hp.nV (U2 (U2 (UU m) eo h3) (fg eo) h4) (fg (fg eo)) h5) ?_;refine wz ?_;refine wb fun b0=>?_;refine wb fun b1=>?_;refine au ?_;obtain⟨r5,h6,hF⟩:=J hF;refine wc gn (fun m hm=>w7 h6 m (hm.q 4) (hm.q 3) (hm.dp (q:=2) rfl)) ?_;rintro⟨⟩;refine au ?_;rcases U hF with⟨h7,hF⟩|⟨h7,hF⟩;refine au ?_;cases hF;exact ar () [];refine au ?_;obtain⟨r6,h8,hF⟩:=J hF;refine wc gn (fun m hm=>H0 h8 m) ?_;rintro⟨⟩;refine wz ?_;rcases U hF with⟨h9,hF⟩|⟨h9,hF⟩;refine au ?_;cases hF;exact ar () [];refine au ?_;refine UI (j9 rfl rfl) rfl ?_;obtain⟨v1,h10,hF⟩:=J hF;refine wq (fun v1 (_:VC)=>(.int .i64 v1,[])) v1 (fun m hm=>?_) ?_;clear hF;revert v1;intro r hF;refine aS (N:=19) (rs:=[.tmp 4]) rfl Try.func31 rfl rfl rfl hm ?_;refine au ?_;refine UN ?_;obtain⟨r1,h1,hF⟩:=J hF;refine ct (fun(r:Int⊕VC) (g:VC)=>match r,g with|.inl v4,_=>⟨.ret,[(4,bg v4)],[]⟩|.inr _,_=>⟨(.exit 0),[],[]⟩) r1 ?_ ?_
 refine lo h1 () [1,4,3,2,0] (fun v5 _=>⟨.normal,((1,.func (.func 32) #[] #[ptr b0 0,ptr b1 0])::AJ a1 l1 c0 v5 []),(fR b0 a0 l2 c1 a1 l1 c0 e0 aj r0 [gD b1 x3 x4])⟩) ?_;clear hF h1;rintro v5 ⟨⟩ r hF;unfold K3 at hF;refine wz ?_;refine UJ ?_;rcases U hF with⟨h11,hF⟩|⟨h11,hF⟩;refine au ?_;obtain⟨h12,hF⟩:=cW hF;refine U0 (k:=2) rfl (aU h12) ?_;rintro b2 o1 rfl;refine wz ?_;obtain⟨⟨l5,l6⟩,h13,hF⟩:=J hF;refine wl 2 0 4 0 h13 ?_;rintro⟨⟨a3,c3⟩,⟨a4,c4,e3⟩⟩;refine wa z54 fun b4=>?_;refine au ?_;obtain⟨v2,h14,hF⟩:=J hF;refine wq (fun v2 (_:VC)=>(.bool v2,(gC b0 a0 l2 c1 b2 o1 l1 c0 e0 aj r0 [gD b1 x3 x4]))) v2 (fun m hm=>?_) ?_;clear hF;revert v2;intro r hF;refine aS (N:=16) (rs:=[.tmp 4]) rfl Try.func32 rfl rfl rfl hm ?_;refine wz ?_;refine wb fun b5=>?_;refine au ?_;obtain⟨r7,h15,hF⟩:=J hF;refine wc gn (fun m hm=>AZ h15 m (hm.q 7) (hm.q 8) (hm.dp (q:=9) rfl) (hm.q 2) (hm.q 3) (hm.dp (q:=4) rfl)) ?_;rintro⟨⟩;refine wz ?_;rcases U hF with⟨h0,hF⟩|⟨h0,hF⟩;refine au ?_;cases hF;exact ar () [6,7,5,9,8,10];refine wz ?_;obtain⟨l3,h16,hF⟩:=J hF;refine Fx (gg rfl rfl (qv h0)) (fun m hm=>j7 h16 m hm.dW (hm.q 2) (hm.no 2) (hm.q 3) (hm.no 3) (hm.dp (q:=4) rfl) (hm.gQ (q:=4) rfl)) ?_;rintro⟨a2,c2,n0,e1,r3⟩;refine Wo.jH (k:=0) (q:=1) (L:=l3) rfl (.inr (.inl ⟨_,rfl⟩)) rfl ?_;rintro rfl;refine UZ (j9 rfl rfl) (gg rfl rfl (qv h0)) rfl ?_;obtain⟨v0,h17,hF⟩:=J hF;refine UX (mC (α:=VC) (V:=fun g=>(fun(r:Int) (g:VC)=>match r,g with|v0,_=>(.int .i64 v0:Uz)) v0 g) (N:=fun g=>(fun(r:Int) (g:VC)=>match r,g with|v0,_=>((gC b0 a0 l2 c1 b2 o1 l1 c0 e0 aj r0 [gD b1 x3 x4]):VB Pc)) v0 g) rfl rfl (fun m hm=>?_)) (gg rfl rfl (qv h0)) rfl ?_
 clear hF;revert v0;intro r hF;refine aS (N:=19) (rs:=[.tmp 4]) rfl Try.func34 rfl rfl rfl hm ?_;refine au ?_;refine UN ?_;obtain⟨r4,h2,hF⟩:=J hF;refine ct (fun(r:Int⊕VC) (g:VC)=>match r,g with|.inl v6,_=>⟨.ret,[(4,bg v6)],(gC b0 a0 l2 c1 b2 o1 l1 c0 e0 aj r0 [gD b1 x3 x4])⟩|.inr _,_=>⟨(.exit 0),[],(gC b0 a0 l2 c1 b2 o1 l1 c0 e0 aj r0 [gD b1 x3 x4])⟩) r4 ?_ ?_
 refine lo h2 () [8,9,7,11,10,12,0,1] (fun v7 _=>⟨.normal,((1,.func (.func 35) #[] #[ptr b0 0,ptr b1 0])::AJ a2 l3 c2 v7 []),(gC b0 a0 l2 c1 b2 o1 l1 c0 e0 aj r0 [gD b1 x3 x4,ju a2 c2 l3 e1,fT bl r3 l3 e1])⟩) ?_;clear hF h2;rintro v7 ⟨⟩ r hF;unfold Ld at hF;refine wz ?_;refine UJ ?_;rcases U hF with⟨h18,hF⟩|⟨h18,hF⟩;refine au ?_;obtain⟨h19,hF⟩:=cW hF;refine U0 (k:=6) rfl (aU h19) ?_;rintro b3 o2 rfl;refine wz ?_;obtain⟨l7,h20,hF⟩:=J hF;refine wl 1 0 8 0 h20 ?_;rintro⟨a5,c5⟩;refine au ?_;obtain⟨v3,h21,hF⟩:=J hF;refine wq (fun v3 (_:VC)=>(.bool v3,(gC b0 a0 l2 c1 b2 o1 l1 c0 e0 aj r0 (gD b1 x3 x4::ki b3 o2 l3 e1 bl r3 c2 [])))) v3 (fun m hm=>?_) ?_;clear hF;revert v3;intro r hF;refine aS (N:=11) (rs:=[.tmp 4]) rfl Try.func35 rfl rfl rfl hm ?_;refine wz ?_;refine UJ<|U6 (prs:=[(2,3)]) (by kernel_rfl)<|UL (aI (k:=2) fB rfl rfl rfl) rfl<|UL (aV rfl) rfl ?_
 obtain⟨l4,h22,hF⟩:=J hF;refine nc gn (fun m hm=>qw h22 m (hm.q 3) (hm.q 6) (hm.dp (q:=5) rfl) (hm.q 0)) ?_;rintro⟨a6,n1⟩;refine Wn.len (k:=0) (xs:=l4) rfl ?_;rintro rfl;refine UL (aI (k:=8) cX rfl rfl rfl) rfl ?_;obtain⟨r8,h23,hF⟩:=J hF;refine nc gn (fun m hm=>BQ h23 m (hm.rd (k:=0) rfl (.sl _ _ _ _))) ?_;rintro⟨⟩;refine UL (aJ rfl rfl (iN _ _ _)) rfl<|UL (bG rfl) rfl<|U1 (fun m hm=>dq.all rfl) ?_;refine au ?_;cases hF;exact ar () [3,4,5,6,7,8,2,10,9];rintro⟨⟩;refine wz ?_;rcases U hF with⟨h24,hF⟩|⟨h24,hF⟩;refine au ?_;cases hF;exact ae () (Vg 0 6);refine au ?_;cases hF;exact ae () [0,1,2,3,4,5,8,7];refine wz ?_;cases hF;exact ae () (Vg 0 6);rcases r4 with v6|_;rintro⟨⟩;refine wz ?_;obtain rfl:=Sb hF;exact ar () (Vg 0 6);rintro⟨⟩;refine gB ?_;cases hF;exact ar () (Vg 0 6);rintro⟨⟩;refine au ?_;cases hF;exact ar () (Vg 0 6);rintro⟨⟩;refine wz ?_;rcases U hF with⟨h25,hF⟩|⟨h25,hF⟩;refine au ?_;cases hF;exact ae () [];refine au ?_;cases hF;exact ae () [0,1,4,3,5];refine wz ?_;cases hF;exact ae () [];rcases r1 with v4|_;rintro⟨⟩;refine wz ?_;obtain rfl:=Sb hF;exact ar () [];rintro⟨⟩;refine gB ?_;cases hF;exact ar () [];rintro⟨⟩;refine au ?_;cases hF;exact ar () []
def wI{n l1 l5 x12 x13 x14 a2 c3 a6 c7}{rr8:Uy}{es9:Uw}{r}(hF:Oi n l1 l5 x12 x13 x14=some r)(m)(h4:kq m a2 c3 l1)(h10:nY m a6 c7 l5 es9)(h11:(cp aj rr8 l5 es9).P m):
 aK (Vq p q) 21 [lO a2 l1 c3 a6 l5 c7,bg x12,bg x13,bg x14] m (Vm m (.bool r)):=by
 unfold Oi at hF;refine cw Try.func21 (Hp.nV (U2 (U2 (UU m) eo h4) (fg eo) h10) (fg (fg eo)) h11) ?_;refine wz ?_;refine wb fun b15=>?_;refine au ?_;refine UI (cH rfl z26 rfl (cJ Es rfl rfl rfl)) rfl ?_;obtain⟨⟨r17,r18⟩,h16,hF⟩:=J hF;refine wc gn (fun m hm=>L9 h16 m (hm.q 3) (hm.q 2) (hm.dp (q:=1) rfl)) ?_;rintro⟨⟩;refine au ?_;rcases U hF with⟨h19,hF⟩|⟨h19,hF⟩;refine au ?_;cases hF;exact ar () [];refine au ?_;cases hF;exact ar () []
def On{n r}(hF:F6 n=some r)(m):
 aK (Vq (some mK) (some ED)) 6 [] m (Vm m (.bool r)):=by
 unfold F6 at hF;refine cw Try.func6 (UU m) ?_;refine au ?_;obtain⟨r6,h12,hF⟩:=J hF;refine wq (fun((l6,l5):Uu×Us) ((a0,a1,e1,r0):Ux×Ux×Uw ×(Nat->Prop))=>(.agg #[bQ a0 l6,bQ a1 l5],[dg a0 l6,lQ a1 l5 e1,fT aj r0 l5 e1])) r6 (fun m hm=>?_) ?_;clear hF;revert r6;intro r hF;refine aS (N:=9) (rs:=[.cell 0 34]) rfl Try.func16 rfl rfl rfl hm ?_;refine wz ?_;refine wa rJ fun b32=>?_;refine au ?_;refine UX (cm (es:=([0,0,2,0,4,0,4,2,2,2,0,2]:VB (Int)).map (eI .i64)) fw rfl (cn fw z3 rfl rfl) rfl rfl) gn rfl fun b33=>?_;obtain⟨l18,h13,hF⟩:=J hF;refine wc gn (fun m hm=>sH h13 m (hm.q 0)) ?_;rintro⟨a16,n0⟩;refine Vb (k:=0) (xs:=l18) rfl ?_;rintro rfl;refine UX (cm (es:=([0,1,4,5]:VB (Int)).map (eI .i64)) fw rfl (cn fw z3 rfl rfl) rfl rfl) gn rfl fun b6=>?_;refine UI (cH rfl z54 rfl (cJ np rfl rfl rfl)) rfl<|UX (cm (es:=([1,2,3,4]:VB (Int)).map (eI .i64)) fw rfl (cn fw z3 rfl rfl) rfl rfl) gn rfl fun b7=>?_;refine UI (cH rfl z54 rfl (cJ np rfl rfl rfl)) rfl<|UW (UP (k:=1) rfl)<|UW (UM (k:=1) rfl)<|UW (UP (k:=0) rfl)<|UW (UM (k:=0) rfl)<|UX (cm (es:=[[cy b6,.slice none 0 0],[cy b7,.slice none 0 0]]) jU rfl (cn jU z54 rfl rfl) rfl rfl) gn rfl fun b27=>?_;refine Wo.dp (r:=aj) (L:=([([0,1,4,5],[]),([1,2,3,4],[])]:Us)) (es:=[[cy b6,.slice none 0 0],[cy b7,.slice none 0 0]]) (iy.cons (r:=aj) (z:=([0,1,4,5],[])) (g:=(((some ⟨b6,0,none⟩),4),(none,0,[]))) (Lf.p (Lf.s (k:=2) rfl) Lf.l0) (iy.cons (r:=aj) (z:=([1,2,3,4],[])) (g:=(((some ⟨b7,0,none⟩),4),(none,0,[]))) (Lf.p (Lf.s (k:=1) rfl) Lf.l0) iy.nil)) ?_;intro r13;refine UI (cH rfl rJ rfl (cJ BM rfl rfl rfl)) rfl ?_;refine au ?_;cases hF;exact UY (.cell (k:=6) fB rfl rfl rfl .nil) fun m' hm=>⟨(a16,(some ⟨b27,0,none⟩),[[cy b6,.slice none 0 0],[cy b7,.slice none 0 0]],r13),rfl,(UT (UP (k:=1) rfl) (UO [4,1,0] rfl rfl)) m' hm⟩;clear h12;obtain⟨l6,l5⟩:=r6;rintro⟨a0,a1,e1,r0⟩;obtain⟨r7,h14,hF⟩:=J hF;refine wq (fun((l10,l7):Uu×Us) ((a3,a4,e4,r1):Ux×Ux×Uw ×(Nat->Prop))=>(.agg #[bQ a3 l10,bQ a4 l7],[dg a3 l10,lQ a4 l7 e4,fT aj r1 l7 e4,dg a0 l6,lQ a1 l5 e1,fT aj r0 l5 e1])) r7 (fun m hm=>?_) ?_;clear hF;revert r7;intro r hF;refine aS (N:=11) (rs:=[.cell 0 34]) rfl Try.func17 rfl rfl rfl hm ?_;refine wz ?_;refine wa rJ fun b34=>?_;refine au ?_;refine UX (cm (es:=([0,0,9,0,9,9,0,9,3,3,6,3,6,6,3,6]:VB (Int)).map (eI .i64)) fw rfl (cn fw z3 rfl rfl) rfl rfl) gn rfl fun b35=>?_;obtain⟨l19,h15,hF⟩:=J hF;refine wc gn (fun m hm=>sH h15 m (hm.q 0)) ?_;rintro⟨a17,n1⟩;refine Vb (k:=0) (xs:=l19) rfl ?_;rintro rfl;refine UX (cm (es:=([0,1,2,3]:VB (Int)).map (eI .i64)) fw rfl (cn fw z3 rfl rfl) rfl rfl) gn rfl fun b8=>?_;refine UX (cm (es:=([4,7,6,5]:VB (Int)).map (eI .i64)) fw rfl (cn fw z3 rfl rfl) rfl rfl) gn rfl fun b9=>?_;refine UW (UP (k:=0) rfl)<|UW (UM (k:=0) rfl)<|UX (cm (es:=[[cy b9]]) qc rfl (cn qc z51 rfl rfl) rfl rfl) gn rfl fun b10=>?_;refine Wo.dp (r:=bl) (L:=([[4,7,6,5]]:Uv)) (es:=[[cy b9]]) (iy.cons (r:=bl) (z:=[4,7,6,5]) (g:=((some ⟨b9,0,none⟩),4)) (Lf.s (k:=1) rfl) iy.nil) ?_;intro r23;refine UI (cH rfl z54 rfl (cJ np rfl rfl rfl)) rfl<|UX (cm (es:=([4,5,6,7]:VB (Int)).map (eI .i64)) fw rfl (cn fw z3 rfl rfl) rfl rfl) gn rfl fun b11=>?_;refine UI (cH rfl z54 rfl (cJ np rfl rfl rfl)) rfl<|UW (UP (k:=4) rfl)<|UW (UM (k:=4) rfl)<|UW (UP (k:=2) rfl)<|UW (UM (k:=2) rfl)<|UW (UP (k:=0) rfl)<|UW (UM (k:=0) rfl)<|UX (cm (es:=[[cy b8,lP b10],[cy b11,.slice none 0 0]]) jU rfl (cn jU z54 rfl rfl) rfl rfl) gn rfl fun b28=>?_;refine Wo.dp (r:=aj) (L:=([([0,1,2,3],[[4,7,6,5]]),([4,5,6,7],[])]:Us)) (es:=[[cy b8,lP b10],[cy b11,.slice none 0 0]]) (iy.cons (r:=aj) (z:=([0,1,2,3],[[4,7,6,5]])) (g:=(((some ⟨b8,0,none⟩),4),((some ⟨b10,0,none⟩),1,[[cy b9]]))) (Lf.p (Lf.s (k:=5) rfl) (Lf.l (k:=3) (q:=2) rfl rfl rfl)) (iy.cons (r:=aj) (z:=([4,5,6,7],[])) (g:=(((some ⟨b11,0,none⟩),4),(none,0,[]))) (Lf.p (Lf.s (k:=1) rfl) Lf.l0) iy.nil)) ?_;intro r14;refine UI (cH rfl rJ rfl (cJ BM rfl rfl rfl)) rfl ?_;refine au ?_;cases hF;exact UY (.cell (k:=9) fB rfl rfl rfl .nil) fun m' hm=>⟨(a17,(some ⟨b28,0,none⟩),[[cy b8,lP b10],[cy b11,.slice none 0 0]],r14),rfl,(UT (UP (k:=1) rfl) (UO [7,1,0,10,11,12] rfl rfl)) m' hm⟩;clear h14;obtain⟨l10,l7⟩:=r7;rintro⟨a3,a4,e4,r1⟩;refine wa rJ fun b1=>?_;refine wa rJ fun b2=>?_;refine au ?_;obtain⟨⟨l14,r15⟩,h16,hF⟩:=J hF;refine wc gn (fun m hm=>G9 h16 m (hm.rd (k:=5) rfl (.sl _ _ _ _)) (hm.rd (k:=6) rfl (.sl _ _ _ _)) (hm.dp (q:=7) rfl)) ?_;rintro⟨a9,n2⟩;refine Vb (k:=0) (xs:=l14) rfl ?_;rintro rfl;refine au ?_;obtain⟨⟨r16,r17⟩,h17,hF⟩:=J hF;refine wc gn (fun m hm=>Li h17 m (hm.rd (k:=3) rfl (.sl _ _ _ _)) (hm.rd (k:=4) rfl (.sl _ _ _ _)) (hm.dp (q:=5) rfl)) ?_;rintro⟨⟩;refine au ?_;obtain⟨r8,h18,hF⟩:=J hF;refine wq (fun((l8,l1):Uu×Us) ((a2,a12,e0,r3):Ux×Ux×Uw ×(Nat->Prop))=>(.agg #[bQ a2 l8,bQ a12 l1],(dg a2 l8::lQ a12 l1 e0::fT aj r3 l1 e0::u9 b1 a0 l6 a1 l5 e1 aj r0 (u9 b2 a3 l10 a4 l7 e4 aj r1 [j8 a9 l14])))) r8 (fun m hm=>?_) ?_;clear hF;revert r8;intro r hF;refine aS (N:=11) (rs:=[.cell 0 34]) rfl Try.func17 rfl rfl rfl hm ?_;refine wz ?_;refine wa rJ fun b36=>?_;refine au ?_;refine UX (cm (es:=([0,0,9,0,9,9,0,9,3,3,6,3,6,6,3,6]:VB (Int)).map (eI .i64)) fw rfl (cn fw z3 rfl rfl) rfl rfl) gn rfl fun b37=>?_;obtain⟨l20,h19,hF⟩:=J hF;refine wc gn (fun m hm=>sH h19 m (hm.q 0)) ?_;rintro⟨a18,n4⟩;refine Vb (k:=0) (xs:=l20) rfl ?_;rintro rfl;refine UX (cm (es:=([0,1,2,3]:VB (Int)).map (eI .i64)) fw rfl (cn fw z3 rfl rfl) rfl rfl) gn rfl fun b12=>?_;refine UX (cm (es:=([4,7,6,5]:VB (Int)).map (eI .i64)) fw rfl (cn fw z3 rfl rfl) rfl rfl) gn rfl fun b13=>?_;refine UW (UP (k:=0) rfl)<|UW (UM (k:=0) rfl)<|UX (cm (es:=[[cy b13]]) qc rfl (cn qc z51 rfl rfl) rfl rfl) gn rfl fun b14=>?_;refine Wo.dp (r:=bl) (L:=([[4,7,6,5]]:Uv)) (es:=[[cy b13]]) (iy.cons (r:=bl) (z:=[4,7,6,5]) (g:=((some ⟨b13,0,none⟩),4)) (Lf.s (k:=1) rfl) iy.nil) ?_;intro r24;refine UI (cH rfl z54 rfl (cJ np rfl rfl rfl)) rfl<|UX (cm (es:=([4,5,6,7]:VB (Int)).map (eI .i64)) fw rfl (cn fw z3 rfl rfl) rfl rfl) gn rfl fun b15=>?_;refine UI (cH rfl z54 rfl (cJ np rfl rfl rfl)) rfl<|UW (UP (k:=4) rfl)<|UW (UM (k:=4) rfl)<|UW (UP (k:=2) rfl)<|UW (UM (k:=2) rfl)<|UW (UP (k:=0) rfl)<|UW (UM (k:=0) rfl)<|UX (cm (es:=[[cy b12,lP b14],[cy b15,.slice none 0 0]]) jU rfl (cn jU z54 rfl rfl) rfl rfl) gn rfl fun b29=>?_;refine Wo.dp (r:=aj) (L:=([([0,1,2,3],[[4,7,6,5]]),([4,5,6,7],[])]:Us)) (es:=[[cy b12,lP b14],[cy b15,.slice none 0 0]]) (iy.cons (r:=aj) (z:=([0,1,2,3],[[4,7,6,5]])) (g:=(((some ⟨b12,0,none⟩),4),((some ⟨b14,0,none⟩),1,[[cy b13]]))) (Lf.p (Lf.s (k:=5) rfl) (Lf.l (k:=3) (q:=2) rfl rfl rfl)) (iy.cons (r:=aj) (z:=([4,5,6,7],[])) (g:=(((some ⟨b15,0,none⟩),4),(none,0,[]))) (Lf.p (Lf.s (k:=1) rfl) Lf.l0) iy.nil)) ?_;intro r18;refine UI (cH rfl rJ rfl (cJ BM rfl rfl rfl)) rfl ?_;refine au ?_;cases hF;exact UY (.cell (k:=9) fB rfl rfl rfl .nil) fun m' hm=>⟨(a18,(some ⟨b29,0,none⟩),[[cy b12,lP b14],[cy b15,.slice none 0 0]],r18),rfl,(UT (UP (k:=1) rfl) (UO [7,1,0,12,16,17,18,11,13,14,15,10] rfl rfl)) m' hm⟩;clear h18;obtain⟨l8,l1⟩:=r8;rintro⟨a2,a12,e0,r3⟩;obtain⟨r9,h20,hF⟩:=J hF;refine wq (fun((l11,l2):Uu×Us) ((a5,a10,e3,r4):Ux×Ux×Uw ×(Nat->Prop))=>(.agg #[bQ a5 l11,bQ a10 l2],(dg a5 l11::lQ a10 l2 e3::fT aj r4 l2 e3::u9 b1 a0 l6 a1 l5 e1 aj r0 (u9 b2 a3 l10 a4 l7 e4 aj r1 [j8 a9 l14,dg a2 l8,lQ a12 l1 e0,fT aj r3 l1 e0])))) r9 (fun m hm=>?_) ?_;clear hF;revert r9;intro r hF;refine aS (N:=11) (rs:=[.cell 0 34]) rfl Try.func17 rfl rfl rfl hm ?_;refine wz ?_;refine wa rJ fun b38=>?_;refine au ?_;refine UX (cm (es:=([0,0,9,0,9,9,0,9,3,3,6,3,6,6,3,6]:VB (Int)).map (eI .i64)) fw rfl (cn fw z3 rfl rfl) rfl rfl) gn rfl fun b39=>?_;obtain⟨l21,h21,hF⟩:=J hF;refine wc gn (fun m hm=>sH h21 m (hm.q 0)) ?_;rintro⟨a19,n5⟩;refine Vb (k:=0) (xs:=l21) rfl ?_;rintro rfl;refine UX (cm (es:=([0,1,2,3]:VB (Int)).map (eI .i64)) fw rfl (cn fw z3 rfl rfl) rfl rfl) gn rfl fun b16=>?_;refine UX (cm (es:=([4,7,6,5]:VB (Int)).map (eI .i64)) fw rfl (cn fw z3 rfl rfl) rfl rfl) gn rfl fun b17=>?_;refine UW (UP (k:=0) rfl)<|UW (UM (k:=0) rfl)<|UX (cm (es:=[[cy b17]]) qc rfl (cn qc z51 rfl rfl) rfl rfl) gn rfl fun b18=>?_;refine Wo.dp (r:=bl) (L:=([[4,7,6,5]]:Uv)) (es:=[[cy b17]]) (iy.cons (r:=bl) (z:=[4,7,6,5]) (g:=((some ⟨b17,0,none⟩),4)) (Lf.s (k:=1) rfl) iy.nil) ?_;intro r25;refine UI (cH rfl z54 rfl (cJ np rfl rfl rfl)) rfl<|UX (cm (es:=([4,5,6,7]:VB (Int)).map (eI .i64)) fw rfl (cn fw z3 rfl rfl) rfl rfl) gn rfl fun b19=>?_;refine UI (cH rfl z54 rfl (cJ np rfl rfl rfl)) rfl<|UW (UP (k:=4) rfl)<|UW (UM (k:=4) rfl)<|UW (UP (k:=2) rfl)<|UW (UM (k:=2) rfl)<|UW (UP (k:=0) rfl)<|UW (UM (k:=0) rfl)<|UX (cm (es:=[[cy b16,lP b18],[cy b19,.slice none 0 0]]) jU rfl (cn jU z54 rfl rfl) rfl rfl) gn rfl fun b30=>?_;refine Wo.dp (r:=aj) (L:=([([0,1,2,3],[[4,7,6,5]]),([4,5,6,7],[])]:Us)) (es:=[[cy b16,lP b18],[cy b19,.slice none 0 0]]) (iy.cons (r:=aj) (z:=([0,1,2,3],[[4,7,6,5]])) (g:=(((some ⟨b16,0,none⟩),4),((some ⟨b18,0,none⟩),1,[[cy b17]]))) (Lf.p (Lf.s (k:=5) rfl) (Lf.l (k:=3) (q:=2) rfl rfl rfl)) (iy.cons (r:=aj) (z:=([4,5,6,7],[])) (g:=(((some ⟨b19,0,none⟩),4),(none,0,[]))) (Lf.p (Lf.s (k:=1) rfl) Lf.l0) iy.nil)) ?_;intro r19;refine UI (cH rfl rJ rfl (cJ BM rfl rfl rfl)) rfl ?_;refine au ?_;cases hF;exact UY (.cell (k:=9) fB rfl rfl rfl .nil) fun m' hm=>⟨(a19,(some ⟨b30,0,none⟩),[[cy b16,lP b18],[cy b19,.slice none 0 0]],r19),rfl,(UT (UP (k:=1) rfl) (UO [7,1,0,13,14,15,16,17,18,19,20,21,10,11,12] rfl rfl)) m' hm⟩;clear h20;obtain⟨l11,l2⟩:=r9;rintro⟨a5,a10,e3,r4⟩;obtain⟨r10,h22,hF⟩:=J hF;refine wq (fun((l12,l3):Uu×Us) ((a6,a8,e5,r5):Ux×Ux×Uw ×(Nat->Prop))=>(.agg #[bQ a6 l12,bQ a8 l3],(dg a6 l12::lQ a8 l3 e5::fT aj r5 l3 e5::u9 b1 a0 l6 a1 l5 e1 aj r0 (u9 b2 a3 l10 a4 l7 e4 aj r1 [j8 a9 l14,dg a2 l8,lQ a12 l1 e0,fT aj r3 l1 e0,dg a5 l11,lQ a10 l2 e3,fT aj r4 l2 e3])))) r10 (fun m hm=>?_) ?_;clear hF;revert r10;intro r hF;refine aS (N:=9) (rs:=[.cell 0 34]) rfl Try.func16 rfl rfl rfl hm ?_;refine wz ?_;refine wa rJ fun b40=>?_;refine au ?_;refine UX (cm (es:=([0,0,2,0,4,0,4,2,2,2,0,2]:VB (Int)).map (eI .i64)) fw rfl (cn fw z3 rfl rfl) rfl rfl) gn rfl fun b41=>?_;obtain⟨l22,h23,hF⟩:=J hF;refine wc gn (fun m hm=>sH h23 m (hm.q 0)) ?_;rintro⟨a20,n7⟩;refine Vb (k:=0) (xs:=l22) rfl ?_;rintro rfl;refine UX (cm (es:=([0,1,4,5]:VB (Int)).map (eI .i64)) fw rfl (cn fw z3 rfl rfl) rfl rfl) gn rfl fun b20=>?_;refine UI (cH rfl z54 rfl (cJ np rfl rfl rfl)) rfl<|UX (cm (es:=([1,2,3,4]:VB (Int)).map (eI .i64)) fw rfl (cn fw z3 rfl rfl) rfl rfl) gn rfl fun b21=>?_;refine UI (cH rfl z54 rfl (cJ np rfl rfl rfl)) rfl<|UW (UP (k:=1) rfl)<|UW (UM (k:=1) rfl)<|UW (UP (k:=0) rfl)<|UW (UM (k:=0) rfl)<|UX (cm (es:=[[cy b20,.slice none 0 0],[cy b21,.slice none 0 0]]) jU rfl (cn jU z54 rfl rfl) rfl rfl) gn rfl fun b31=>?_;refine Wo.dp (r:=aj) (L:=([([0,1,4,5],[]),([1,2,3,4],[])]:Us)) (es:=[[cy b20,.slice none 0 0],[cy b21,.slice none 0 0]]) (iy.cons (r:=aj) (z:=([0,1,4,5],[])) (g:=(((some ⟨b20,0,none⟩),4),(none,0,[]))) (Lf.p (Lf.s (k:=2) rfl) Lf.l0) (iy.cons (r:=aj) (z:=([1,2,3,4],[])) (g:=(((some ⟨b21,0,none⟩),4),(none,0,[]))) (Lf.p (Lf.s (k:=1) rfl) Lf.l0) iy.nil)) ?_;intro r20;refine UI (cH rfl rJ rfl (cJ BM rfl rfl rfl)) rfl ?_;refine au ?_;cases hF;exact UY (.cell (k:=6) fB rfl rfl rfl .nil) fun m' hm=>⟨(a20,(some ⟨b31,0,none⟩),[[cy b20,.slice none 0 0],[cy b21,.slice none 0 0]],r20),rfl,(UT (UP (k:=1) rfl) (UO [4,1,0,10,11,12,13,14,15,16,17,18,19,20,21,7,8,9] rfl rfl)) m' hm⟩;clear h22;obtain⟨l12,l3⟩:=r10;rintro⟨a6,a8,e5,r5⟩;refine wa rJ fun b22=>?_;refine wa rJ fun b23=>?_;refine wa rJ fun b24=>?_;refine au ?_;obtain⟨h24,hF⟩:=cW hF;refine Vd (k:=16) rfl (aU h24) ?_;rintro b3 t0 rfl h48;refine wz ?_;obtain⟨⟨l4,l13⟩,h25,hF⟩:=J hF;refine Wo.vS (r:=aj) (q:=17) (j:=UF) (z:=(l4,l13)) (N:=fun g=>(.rd g.1.1 g.1.2 1 l4.length (l4.map (eI .i64))::.rd g.2.1 g.2.2.1 1 l13.length g.2.2.2::.gen (cp bl r3 l13 g.2.2.2)::tC b24 a6 l12 a8 l3::tC b23 a5 l11 a10 l2::ky b22 a2 l8 b3 l1::dg a6 l12::lQ a8 l3 e5::fT aj r5 l3 e5::u9 b1 a0 l6 a1 l5 e1 aj r0 (u9 b2 a3 l10 a4 l7 e4 aj r1 [j8 a9 l14,dg a2 l8,.arr b3 2 l1.length e0 t0,fT aj r3 l1 e0,dg a5 l11,lQ a10 l2 e3,fT aj r4 l2 e3]))) rfl h25 (fun _=>rfl) ?_;rintro⟨⟨a7,c0⟩,⟨a13,c2,e6⟩⟩ h26;refine U4 (oA (k:=19) (j:=UF) (c:=1) (e:=[bI a7 l4 c0,bI a13 l13 c2]) (e':=[bI a7 l4 c0,.slice none 0 0]) mB rfl rfl rfl h26 rfl)<|Wo.Ai (r:=aj) (q:=20) (j:=UF) (z:=(l4,[])) (g:=((a7,c0),(none,0,[]))) rfl (Lf.p (Lf.s (k:=0) rfl) Lf.l0) ?_;intro r11;refine au ?_;refine UX (cm (es:=([4,5,6,7]:VB (Int)).map (eI .i64)) fw rfl (cn fw z3 rfl rfl) rfl rfl) gn rfl fun b0=>?_;refine UW (UP (k:=0) rfl)<|UW (UM (k:=0) rfl)<|UX (cm (es:=[[cy b0]]) qc rfl (cn qc z51 rfl rfl) rfl rfl) gn rfl fun b4=>?_;refine Wo.dp (r:=bl) (L:=([[4,5,6,7]]:Uv)) (es:=[[cy b0]]) (iy.cons (r:=bl) (z:=[4,5,6,7]) (g:=((some ⟨b0,0,none⟩),4)) (Lf.s (k:=1) rfl) iy.nil) ?_;intro r12;obtain⟨h3,hF⟩:=cW hF;refine Vd (k:=25) rfl (aU h3) ?_;rintro b5 t1 rfl h49;refine UZ (tT jU rfl rfl h3) gn rfl<|UI (aG (r:=ptr b5 (UF*2+1)) rfl (fe _ _)) rfl<|UW (UP (k:=1) rfl)<|UW (UM (k:=1) rfl) ?_;obtain⟨⟨l9,l16⟩,h27,hF⟩:=J hF;refine Wo.vS (r:=aj) (q:=26) (j:=UF) (z:=(l9,l16)) (N:=fun g=>(.rd g.1.1 g.1.2 1 l9.length (l9.map (eI .i64))::.rd g.2.1 g.2.2.1 1 l16.length g.2.2.2::.gen (cp bl r4 l16 g.2.2.2)::.gen (cp bl r12 ([[4,5,6,7]]) ([[cy b0]]))::.rd (some ⟨b4,0,none⟩) 1 1 1 ([[cy b0]])::.rd (some ⟨b0,0,none⟩) 4 1 4 (([4,5,6,7]).map (eI .i64))::oc a7 c0 l4::ju a13 c2 l13 e6::fT bl r3 l13 e6::tC b24 a6 l12 a8 l3::ky b23 a5 l11 b5 l2::ky b22 a2 l8 b3 l1::dg a6 l12::lQ a8 l3 e5::fT aj r5 l3 e5::u9 b1 a0 l6 a1 l5 e1 aj r0 (u9 b2 a3 l10 a4 l7 e4 aj r1 [j8 a9 l14,dg a2 l8,.arr b3 2 l1.length (e0.set (UF) [bI a7 l4 c0,.slice none 0 0]) t0,.gen (cp aj r11 (l1.set (UF) (l4,[])) (e0.set (UF) [bI a7 l4 c0,.slice none 0 0])),dg a5 l11,.arr b5 2 l2.length e3 t1,fT aj r4 l2 e3]))) rfl h27 (fun _=>rfl) ?_;rintro⟨⟨a11,c1⟩,⟨a15,c4,e7⟩⟩ h28;refine U4 (oA (k:=28) (j:=UF) (c:=1) (e:=[bI a11 l9 c1,bI a15 l16 c4]) (e':=[bI a11 l9 c1,lP b4]) mB rfl rfl rfl h28 rfl)<|Wo.Ai (r:=aj) (q:=29) (j:=UF) (z:=(l9,[[4,5,6,7]])) (g:=((a11,c1),((some ⟨b4,0,none⟩),1,[[cy b0]]))) rfl (Lf.p (Lf.s (k:=0) rfl) (Lf.l (k:=4) (q:=3) rfl rfl rfl)) ?_;intro r21;refine au ?_;refine UX (cm (es:=([1,2,3,5]:VB (Int)).map (eI .i64)) fw rfl (cn fw z3 rfl rfl) rfl rfl) gn rfl fun b25=>?_;obtain⟨h4,hF⟩:=cW hF;refine Vd (k:=14) rfl (aU h4) ?_;rintro b26 t2 rfl h50;refine UZ (tT jU rfl rfl h4) gn rfl<|UI (aG (r:=ptr b26 ((1:Int).toNat*2+0)) rfl (eA _ _)) rfl<|UW (UP (k:=0) rfl)<|UW (UM (k:=0) rfl) ?_;obtain⟨⟨l17,l15⟩,h29,hF⟩:=J hF;refine Wo.vS (r:=aj) (q:=15) (j:=(1:Int).toNat) (z:=(l17,l15)) (N:=fun g=>(.rd g.1.1 g.1.2 1 l17.length (l17.map (eI .i64))::.rd g.2.1 g.2.2.1 1 l15.length g.2.2.2::.gen (cp bl r5 l15 g.2.2.2)::.rd (some ⟨b25,0,none⟩) 4 1 4 (([1,2,3,5]).map (eI .i64))::oc a11 c1 l9::ju a15 c4 l16 e7::fT bl r4 l16 e7::.gen (cp bl r12 ([[4,5,6,7]]) ([[cy b0]]))::.rd (some ⟨b4,0,none⟩) 1 1 1 ([[cy b0]])::.rd (some ⟨b0,0,none⟩) 4 1 4 (([4,5,6,7]).map (eI .i64))::oc a7 c0 l4::ju a13 c2 l13 e6::fT bl r3 l13 e6::ky b24 a6 l12 b26 l3::ky b23 a5 l11 b5 l2::ky b22 a2 l8 b3 l1::dg a6 l12::.arr b26 2 l3.length e5 t2::fT aj r5 l3 e5::u9 b1 a0 l6 a1 l5 e1 aj r0 (u9 b2 a3 l10 a4 l7 e4 aj r1 [j8 a9 l14,dg a2 l8,.arr b3 2 l1.length (e0.set (UF) [bI a7 l4 c0,.slice none 0 0]) t0,.gen (cp aj r11 (l1.set (UF) (l4,[])) (e0.set (UF) [bI a7 l4 c0,.slice none 0 0])),dg a5 l11,.arr b5 2 l2.length (e3.set (UF) [bI a11 l9 c1,lP b4]) t1,.gen (cp aj r21 (l2.set (UF) (l9,[[4,5,6,7]])) (e3.set (UF) [bI a11 l9 c1,lP b4]))]))) rfl h29 (fun _=>rfl) ?_;rintro⟨⟨a21,c5⟩,⟨a14,c3,e8⟩⟩ h30;refine U4 (oA (k:=17) (j:=(1:Int).toNat) (c:=0) (e:=[bI a21 l17 c5,bI a14 l15 c3]) (e':=[cy b25,bI a14 l15 c3]) k7 rfl rfl rfl h30 rfl)<|Wo.Ai (r:=aj) (q:=18) (j:=(1:Int).toNat) (z:=([1,2,3,5],l15)) (g:=(((some ⟨b25,0,none⟩),4),(a14,c3,e8))) rfl (Lf.p (Lf.s (k:=3) rfl) (Lf.l (k:=1) (q:=2) rfl rfl rfl)) ?_;intro r26;refine au ?_;refine UI (cH rfl z44 rfl (cJ Au rfl rfl rfl)) rfl<|UI (cH rfl z44 rfl (cJ Au rfl rfl rfl)) rfl<|UI (cH rfl z44 rfl (cJ Au rfl rfl rfl)) rfl<|UI (cH rfl z44 rfl (cJ Au rfl rfl rfl)) rfl<|UI (cH rfl z44 rfl (cJ Au rfl rfl rfl)) rfl<|UI (cH rfl z44 rfl (cJ Au rfl rfl rfl)) rfl<|UI (cH rfl z44 rfl (cJ Au rfl rfl rfl)) rfl<|UX (cm (es:=([(0,1,0,-1),(0,5,-1,0),(1,2,1,-1),(1,4,0,1),(2,3,1,-1),(3,4,1,-1),(4,5,0,-1)]:VB (Ut)).map (eP (eI .i64) (eP (eI .i64) (eP (eI .i64) (eI .i64))))) Oh rfl (cn Oh z44 rfl rfl) rfl rfl) gn rfl fun b42=>?_;obtain⟨r22,h31,hF⟩:=J hF;refine wc gn (fun m hm=>Ns h31 m (hm.rd (k:=28) rfl (.sl _ _ _ _)) (hm.q 0)) ?_;rintro⟨⟩;refine wz ?_;refine UJ ?_;obtain⟨v0,h32,hF⟩:=J hF;refine ct (fun v0 (_:VC)=>⟨.normal,[(1,ptr b1 0),(2,ptr b2 0),(4,bg r15),(5,bg r16),(6,bg r17),(10,.bool r22),(11,.bool v0)],(u9 b1 a0 l6 a1 l5 e1 aj r0 (u9 b2 a3 l10 a4 l7 e4 aj r1 []))⟩) v0 ?_ ?_;clear hF;revert v0;intro r hF;refine wz ?_;obtain⟨r27,h33,hF⟩:=J hF;refine wc gn (fun m hm=>s7 h33 m (hm.rd (k:=21) rfl (.sl _ _ _ _)) (hm.rd (k:=22) rfl (.sl _ _ _ _)) (hm.dp (q:=23) rfl)) ?_;rintro⟨⟩;refine wz ?_;rcases U hF with⟨h5,hF⟩|⟨h5,hF⟩;refine wz ?_;obtain⟨r28,h34,hF⟩:=J hF;refine wc (gg rfl rfl (fi h5)) (fun m hm=>s7 h34 m (hm.rd (k:=25) rfl (.sl _ _ _ _)) (hm.rd (k:=26) rfl (.sl _ _ _ _)) (hm.dp (q:=27) rfl)) ?_;rintro⟨⟩;refine wz ?_;rcases U hF with⟨h0,hF⟩|⟨h0,hF⟩;refine UZ (aI (k:=16) fB rfl rfl rfl) (gg rfl rfl (fi h0)) rfl ?_;obtain⟨r29,h35,hF⟩:=J hF;refine UW (UP (k:=30) rfl) ?_;have hFx:=hF;refine Wo.jH (k:=30) (q:=31) (L:=(l1.set (UF) (l4,[]))) rfl (.inl rfl) rfl ?_;generalize l1.length=nN;rintro rfl;replace hF:=hFx;clear hFx;refine wc (gg rfl rfl (fi h0)) (fun m hm=>s7 h35 m (hm.rd (k:=29) rfl (.sl _ _ _ _)) (hm.rd (k:=30) rfl (.sl _ _ _ _)) (hm.dp (q:=31) rfl)) ?_;rintro⟨⟩;refine wz ?_;rcases U hF with⟨h1,hF⟩|⟨h1,hF⟩;refine UZ (aI (k:=15) fB rfl rfl rfl) (gg rfl rfl (fi h1)) rfl ?_;obtain⟨r30,h36,hF⟩:=J hF;refine UW (UP (k:=33) rfl) ?_;have hFx:=hF;refine Wo.jH (k:=33) (q:=34) (L:=(l2.set (UF) (l9,[[4,5,6,7]]))) rfl (.inl rfl) rfl ?_;generalize l2.length=nN;rintro rfl;replace hF:=hFx;clear hFx;refine wc (gg rfl rfl (fi h1)) (fun m hm=>s7 h36 m (hm.rd (k:=32) rfl (.sl _ _ _ _)) (hm.rd (k:=33) rfl (.sl _ _ _ _)) (hm.dp (q:=34) rfl)) ?_;rintro⟨⟩;refine wz ?_;rcases U hF with⟨h2,hF⟩|⟨h2,hF⟩;refine UZ (aI (k:=14) fB rfl rfl rfl) (gg rfl rfl (fi h2)) rfl ?_;obtain⟨r31,h37,hF⟩:=J hF;refine UW (UP (k:=18) rfl) ?_;have hFx:=hF;refine Wo.jH (k:=18) (q:=19) (L:=(l3.set ((1:Int).toNat) ([1,2,3,5],l15))) rfl (.inl rfl) rfl ?_;generalize l3.length=nN;rintro rfl;replace hF:=hFx;clear hFx;refine wc (gg rfl rfl (fi h2)) (fun m hm=>s7 h37 m (hm.rd (k:=17) rfl (.sl _ _ _ _)) (hm.rd (k:=18) rfl (.sl _ _ _ _)) (hm.dp (q:=19) rfl)) ?_;rintro⟨⟩;refine wz ?_;obtain rfl:=Sb hF;exact ae () (Vg 20 8);refine wz ?_;cases hF;exact ae () (Vg 20 8);refine wz ?_;cases hF;exact ae () (Vg 20 8);refine wz ?_;cases hF;exact ae () (Vg 20 8);refine wz ?_;cases hF;exact ae () (Vg 20 8);rintro⟨⟩;refine au ?_;rcases U hF with⟨h38,hF⟩|⟨h38,hF⟩;refine wz ?_;rcases U hF with⟨h39,hF⟩|⟨h39,hF⟩;refine wz ?_;rcases U hF with⟨h40,hF⟩|⟨h40,hF⟩;refine wz ?_;rcases U hF with⟨h41,hF⟩|⟨h41,hF⟩;refine wz ?_;rcases U hF with⟨h6,hF⟩|⟨h6,hF⟩;refine wz ?_;obtain⟨r32,h42,hF⟩:=J hF;refine wc (gg rfl rfl (fi h6)) (fun m hm=>Hm h42 m (hm.rd (k:=1) rfl (.sl _ _ _ _)) (hm.rd (k:=2) rfl (.sl _ _ _ _)) (hm.dp (q:=3) rfl)) ?_;rintro⟨⟩;refine wz ?_;rcases U hF with⟨h7,hF⟩|⟨h7,hF⟩;refine wz ?_;obtain⟨r33,h43,hF⟩:=J hF;refine wc (gg rfl rfl (fi h7)) (fun m hm=>Hm h43 m (hm.rd (k:=5) rfl (.sl _ _ _ _)) (hm.rd (k:=6) rfl (.sl _ _ _ _)) (hm.dp (q:=7) rfl)) ?_;rintro⟨⟩;refine wz ?_;rcases U hF with⟨h8,hF⟩|⟨h8,hF⟩;refine wz ?_;obtain⟨r34,h44,hF⟩:=J hF;refine wc (gg rfl rfl (fi h8)) (fun m hm=>wI h44 m (hm.rd (k:=5) rfl (.sl _ _ _ _)) (hm.rd (k:=6) rfl (.sl _ _ _ _)) (hm.dp (q:=7) rfl)) ?_;rintro⟨⟩;refine wz ?_;rcases U hF with⟨h9,hF⟩|⟨h9,hF⟩;refine wz ?_;obtain⟨r35,h45,hF⟩:=J hF;refine wc (gg rfl rfl (fi h9)) (fun m hm=>wI h45 m (hm.rd (k:=5) rfl (.sl _ _ _ _)) (hm.rd (k:=6) rfl (.sl _ _ _ _)) (hm.dp (q:=7) rfl)) ?_;rintro⟨⟩;refine wz ?_;rcases U hF with⟨h10,hF⟩|⟨h10,hF⟩;refine wz ?_;obtain⟨r36,h46,hF⟩:=J hF;refine wc (gg rfl rfl (fi h10)) (fun m hm=>wI h46 m (hm.rd (k:=5) rfl (.sl _ _ _ _)) (hm.rd (k:=6) rfl (.sl _ _ _ _)) (hm.dp (q:=7) rfl)) ?_;rintro⟨⟩;refine wz ?_;rcases U hF with⟨h11,hF⟩|⟨h11,hF⟩;refine wz ?_;obtain⟨r37,h47,hF⟩:=J hF;refine wc (gg rfl rfl (fi h11)) (fun m hm=>wI h47 m (hm.rd (k:=5) rfl (.sl _ _ _ _)) (hm.rd (k:=6) rfl (.sl _ _ _ _)) (hm.dp (q:=7) rfl)) ?_;rintro⟨⟩;refine au ?_;obtain rfl:=Sb hF;exact ar () [];refine au ?_;cases hF;exact ar () [];refine au ?_;cases hF;exact ar () [];refine au ?_;cases hF;exact ar () [];refine au ?_;cases hF;exact ar () [];refine au ?_;cases hF;exact ar () [];refine au ?_;cases hF;exact ar () [];refine au ?_;cases hF;exact ar () [];refine au ?_;cases hF;exact ar () [];refine au ?_;cases hF;exact ar () [];refine au ?_;cases hF;exact ar () []
def wo{n l1 x5 a2 c3 r}(hF:Jv n l1 x5=some r)(m)(h4:Bj m a2 c3 l1):
 aK (Vq p q) 29 [bI a2 l1 c3,bg x5] m (Vm m (.int .i64 r)):=by
 unfold Jv at hF;refine cw Try.func29 (U2 (UU m) eo h4) ?_;refine au ?_;rcases U hF with⟨h6,hF⟩|⟨h6,hF⟩;refine au ?_;cases hF;exact ar () [];refine au ?_;obtain⟨h7,hF⟩:=az hF;refine UI (aJ rfl rfl (cf _ _ h7)) rfl ?_;obtain⟨h8,hF⟩:=cW hF;refine U0 (k:=0) rfl (aU h8) ?_;rintro b9 o10 rfl;refine wz ?_;obtain⟨x11,h12,hF⟩:=J hF;refine wz ?_;refine UI (mU rfl (mE (by rw[u5]; rfl) u3)) rfl ?_
 refine au ?_;cases hF;exact ar () []
def Nf{n x1 x2 l2 l3 x3 a0 c0 a1 c1 r}(hF:Of n x1 x2 l2 l3 x3=some r)(m){H:Uy}(hH:∀b,H b->b<m.next)(h14:Bj m a0 c0 l2)(h15:∀b,kU a0=some b->¬H b)(h16:Bj m a1 c1 l3)(h17:∀b,kU a1=some b->¬H b):
 aK (Vq p q) 12 [NI x1 x2 a0 l2 c0 a1 l3 c1 x3] m (fun v m'=>∃x:Ux×Nat×Nat×Ux×Nat×Nat×Uw ×(Nat->Prop),v=.agg #[.slice x.1 x.2.2.1 x.2.1,.slice x.2.2.2.1 x.2.2.2.2.2.1 x.2.2.2.2.1]/\Hp m m' [.rd x.1 x.2.1 2 x.2.2.1 (r.1.map (eP (eI .i64) (eI .i64))),.rd x.2.2.2.1 x.2.2.2.2.1 2 x.2.2.2.2.2.1 x.2.2.2.2.2.2.1,.gen (cp aj x.2.2.2.2.2.2.2 r.2 x.2.2.2.2.2.2.1),ee H]):=by
 unfold Of at hF;refine cw Try.func12 (Hp.pE (l0:=[Jj a0 c0 l2]) (Hp.pE (l0:=[]) (Hp.ud m hH) eo h14 h15) (fg eo) h16 h17) ?_;refine UJ<|UK<|wb fun b1=>?_;refine wa rJ fun b2=>?_;refine UQ<|UR<|UJ<|Wk.draw (by kernel_rfl)<|UI (aG (r:=ptr b1 0) rfl (H7 _ _)) rfl<|UI (aI (k:=1) MA rfl rfl rfl) rfl<|UI (aJ rfl rfl (wY _ _ (by decide))) rfl<|UI (mU rfl (mE (by rw[u5]; rfl) u3)) rfl<|UI (aJ rfl rfl (bD _ _ _)) rfl<|UI (aG (r:=ptr b1 1) rfl (Ha _ _)) rfl<|UI (aI (k:=1) MA rfl rfl rfl) rfl<|UI (aJ rfl rfl (wY _ _ (by decide))) rfl<|UI (mU rfl (mE (by rw[u5]; rfl) u3)) rfl ?_
 refine UI (aJ rfl rfl (bD _ _ _)) rfl<|UI (bG rfl) rfl<|UI (bG rfl) rfl<|UQ<|UR<|UJ ?_;obtain⟨r3,h18,hF⟩:=J hF;refine ct (fun(v0,v1) (_:VC)=>⟨.normal,[(1,ptr b1 0),(2,ptr b2 0),(3,bg v0),(4,bg v1)],(yh b1 x1 x2 a0 l2 c0 a1 l3 c1 x3 b2 [ee H])⟩) r3 ?_ ?_;clear hF;revert r3;intro r hF;refine UJ<|UK<|UI (aG (r:=ptr b1 4) rfl (Ba _ _)) rfl<|UI (aI (k:=1) QE rfl rfl rfl) rfl<|UQ<|UR ?_;rcases U hF with⟨h0,hF⟩|⟨h0,hF⟩;refine U3 rfl h0<|UK<|UI (bG rfl) rfl<|UI (bG rfl) rfl<|UQ ?_;cases hF;exact ae () [1,3,2,0,4];refine U8 rfl h0<|U5 ?_;cases hF;exact ae () [1,3,2,0,4];clear h18;obtain⟨v0,v1⟩:=r3;rintro⟨⟩;refine UR<|UJ<|UK<|UI (cH rfl rJ rfl (cJ BM rfl rfl rfl)) rfl<|wa rJ fun b0=>?_;refine U4 (eg (k:=0) fB rfl rfl rfl rfl rfl)<|UQ<|UR<|UJ<|UK<|UI (bG rfl) rfl<|UQ<|UR<|UJ<|UJ<|UK<|UI (bG rfl) rfl<|UQ<|UR<|UN ?_;obtain⟨l1,h1,hF⟩:=J hF;refine ct (fun l1 (a2:Ux)=>⟨(.exit 0),(AN b1 b2 v0 v1 b0 []),(yh b1 x1 x2 a0 l2 c0 a1 l3 c1 x3 b2 [Jc b0 a2 l1,dg a2 l1,ee H])⟩) l1 ?_ ?_;refine lw h1 none (fun(l10,v2,v4) a3=>⟨.normal,(AN b1 b2 v0 v1 b0 [(6,bg v2),(7,bg v4)]),(yh b1 x1 x2 a0 l2 c0 a1 l3 c1 x3 b2 [Jc b0 a3 l10,dg a3 l10,ee H])⟩) (UT (aa.nil 2 rfl) (UO [2,3,4,5,1,0,6] rfl rfl)) ?_;clear hF h1;rintro⟨l10,v2,v4⟩ a3 r hF;unfold vT at hF;refine UJ<|UJ<|UK<|UI (aV rfl) rfl<|UI (aV rfl) rfl<|UI (aJ rfl rfl (xK _ _ _)) rfl<|UQ<|UR ?_;rcases U hF with⟨h2,hF⟩|⟨h2,hF⟩;refine U3 rfl h2<|U5<|UR<|UJ<|UN<|UJ<|UK<|UI (bG rfl) rfl<|UQ<|UR<|UJ<|UJ<|UK<|UI (bG rfl) rfl<|UQ<|UR<|UN ?_;obtain⟨l7,h3,hF⟩:=J hF;refine ct (fun l7 (a4:Ux)=>⟨(.exit 2),(AN b1 b2 v0 v1 b0 [(6,bg v2),(7,bg v4)]),(yh b1 x1 x2 a0 l2 c0 a1 l3 c1 x3 b2 [Jc b0 a4 l7,dg a4 l7,ee H])⟩) l7 ?_ ?_;refine lo h3 a3 [0,1,2,3,4,5,6] (fun(l8,v5,v7) a5=>⟨.normal,(AN b1 b2 v0 v1 b0 [(6,bg v2),(7,bg v4),(8,bg v5),(9,bg v7)]),(yh b1 x1 x2 a0 l2 c0 a1 l3 c1 x3 b2 [Jc b0 a5 l8,dg a5 l8,ee H])⟩) ?_;clear hF h3;rintro⟨l8,v5,v7⟩ a5 r hF;unfold vD at hF;refine UJ<|UJ<|UK<|UI (aV rfl) rfl<|UI (aV rfl) rfl<|UI (aJ rfl rfl (xK _ _ _)) rfl<|UQ<|UR ?_;rcases U hF with⟨h4,hF⟩|⟨h4,hF⟩;refine U3 rfl h4<|U5<|UR<|UJ<|UN<|UJ<|UK<|UI (aG (r:=ptr b0 0) rfl (iz _ _)) rfl<|UI (aI (k:=4) rI rfl rfl rfl) rfl<|UI (aV rfl) rfl<|UI (aV rfl) rfl<|UI (cH rfl z26 rfl (cJ Es rfl rfl rfl)) rfl<|UX (cm (es:=([(v5,v2)]:Uu).map (eP (eI .i64) (eI .i64))) vK rfl (cn vK z26 rfl rfl) rfl rfl) gn rfl fun b11=>?_;obtain⟨h19,hF⟩:=az hF;refine UX (uy (k:=6) (k2:=0) (xs:=(l8:Uu)) (ys:=([(v5,v2)]:Uu)) (EC (tF .i64) (tF .i64)) vK ⟨_,Qa⟩ rfl rfl rfl (.arr _ _ _ _ _) h19) gn rfl fun a12=>?_;refine UI (aG (r:=ptr b0 0) rfl (iz _ _)) rfl<|U4 (eg (k:=5) rI rfl rfl rfl rfl rfl)<|UQ<|UR<|UK<|UI (aV rfl) rfl<|UI (aJ rfl rfl (bD _ _ _)) rfl<|UI (aG (r:=ptr b1 3) rfl (Bz _ _)) rfl<|UI (aI (k:=1) GL rfl rfl rfl) rfl<|UI (aV rfl) rfl ?_;obtain⟨r13,h20,hF⟩:=J hF;refine wc gn (fun m hm=>wo h20 m (hm.q 3)) ?_;rintro⟨⟩;refine UI (aJ rfl rfl (cf _ _ (by decide))) rfl<|UI (aJ rfl rfl (bD _ _ _)) rfl<|UI (bG rfl) rfl<|UQ<|At.bn<|UR<|UK<|UI (aV rfl) rfl<|UI (aJ rfl rfl (bD _ _ _)) rfl<|UI (bG rfl) rfl<|UQ ?_
 cases hF;exact ae a12 (Vg 1 7);refine U8 rfl h4<|Wk.exit<|At.te ?_;cases hF;exact ae a5 (Vg 0 7);rintro a4;refine Vf<|UR<|UK<|UI (aV rfl) rfl<|UI (aJ rfl rfl (bD _ _ _)) rfl<|UI (aG (r:=ptr b1 3) rfl (Bz _ _)) rfl<|UI (aI (k:=0) GL rfl rfl rfl) rfl<|UI (aV rfl) rfl<|UI (aJ rfl rfl (bD _ _ _)) rfl ?_;obtain⟨r14,h21,hF⟩:=J hF;refine wc gn (fun m hm=>wo h21 m (hm.q 2)) ?_;rintro⟨⟩;refine UI (aJ rfl rfl (cf _ _ (by decide))) rfl<|UI (aJ rfl rfl (bD _ _ _)) rfl<|UI (bG rfl) rfl<|UQ<|At.bn<|UR<|UK<|UI (aV rfl) rfl<|UI (aJ rfl rfl (bD _ _ _)) rfl<|UI (bG rfl) rfl<|UQ ?_
 cases hF;exact ae a4 (Vg 0 7);refine U8 rfl h2<|Wk.exit<|At.te ?_;cases hF;exact ae a3 (Vg 0 7);rintro a2;refine Vf<|UR<|UJ<|UJ<|UK<|UI (aG (r:=ptr b1 4) rfl (Ba _ _)) rfl<|UI (aI (k:=0) QE rfl rfl rfl) rfl<|UQ<|UR ?_;rcases U hF with⟨h5,hF⟩|⟨h5,hF⟩;refine U3 rfl h5<|UJ<|UK<|UI (aG (r:=ptr b0 1) rfl (fb _ _)) rfl<|UI (aI (k:=4) mz rfl rfl rfl) rfl<|UX (cm (es:=([0,1,2,3,7,11,15,14,13,12,8,4]:VB (Int)).map (eI .i64)) fw rfl (cn fw z3 rfl rfl) rfl rfl) gn rfl fun b3=>?_;refine UX (cm (es:=([5,9,10,6]:VB (Int)).map (eI .i64)) fw rfl (cn fw z3 rfl rfl) rfl rfl) gn rfl fun b5=>?_;refine UW (UP (k:=0) rfl)<|UW (UM (k:=0) rfl)<|UX (cm (es:=[[cy b5]]) qc rfl (cn qc z51 rfl rfl) rfl rfl) gn rfl fun b4=>?_;refine Wo.dp (r:=bl) (L:=([[5,9,10,6]]:Uv)) (es:=[[cy b5]]) (iy.cons (r:=bl) (z:=[5,9,10,6]) (g:=((some ⟨b5,0,none⟩),4)) (Lf.s (k:=1) rfl) iy.nil) ?_;intro r15;refine UI (cH rfl z54 rfl (cJ np rfl rfl rfl)) rfl<|UW (UP (k:=3) rfl)<|UW (UM (k:=3) rfl)<|UW (UP (k:=1) rfl)<|UW (UM (k:=1) rfl)<|UX (cm (es:=[[I5 b3,lP b4]]) jU rfl (cn jU z54 rfl rfl) rfl rfl) gn rfl fun b12=>?_;refine Wo.dp (r:=aj) (L:=([([0,1,2,3,7,11,15,14,13,12,8,4],[[5,9,10,6]])]:Us)) (es:=[[I5 b3,lP b4]]) (iy.cons (r:=aj) (z:=([0,1,2,3,7,11,15,14,13,12,8,4],[[5,9,10,6]])) (g:=(((some ⟨b3,0,none⟩),12),((some ⟨b4,0,none⟩),1,[[cy b5]]))) (Lf.p (Lf.s (k:=4) rfl) (Lf.l (k:=2) (q:=1) rfl rfl rfl)) iy.nil) ?_;intro r16;obtain⟨h22,hF⟩:=az hF;refine UW (aa.nil (ps:=_) 2 rfl)<|UW (aa.Gi (r:=aj))<|UX (zL (r:=aj) (k:=1) (q:=0) (k2:=3) (q2:=2) (L:=([]:Us)) (L':=([([0,1,2,3,7,11,15,14,13,12,8,4],[[5,9,10,6]])]:Us)) jU ⟨_,u32⟩ rfl rfl rfl rfl (.arr _ _ _ _ _) rfl rfl h22) gn rfl ?_;rintro⟨a13,r8⟩;refine UI (aG (r:=ptr b0 1) rfl (fb _ _)) rfl<|U4 (eg (k:=12) mz rfl rfl rfl rfl rfl)<|UQ<|UR<|UJ ?_;obtain⟨l4,h23,hF⟩:=J hF;refine ct (fun l4 ((a8,e3,r4):Ux×Uw ×(Nat->Prop))=>⟨.normal,[(2,ptr b2 0),(5,ptr b0 0)],(jE b2::u9 b0 a2 l1 a8 l4 e3 aj r4 [ee H])⟩) l4 ?_ ?_;clear hF;revert l4;intro r hF;refine UJ<|UK<|UI (aG (r:=ptr b1 2) rfl (AY _ _)) rfl<|UI (aI (k:=8) GL rfl rfl rfl) rfl ?_;obtain⟨r17,h24,hF⟩:=J hF;refine wc gn (fun m hm=>wo h24 m (hm.q 9)) ?_;rintro⟨⟩;refine UI (aJ rfl rfl (cf _ _ (by decide))) rfl<|UI (aJ rfl rfl (iN _ _ _)) rfl<|UQ<|UR ?_
 rcases U hF with⟨h6,hF⟩|⟨h6,hF⟩;refine U3 rfl h6<|UK<|UI (aG (r:=ptr b0 1) rfl (fb _ _)) rfl<|UI (aI (k:=12) mz rfl rfl rfl) rfl<|UX (cm (es:=([5,6,10,9]:VB (Int)).map (eI .i64)) fw rfl (cn fw z3 rfl rfl) rfl rfl) gn rfl fun b6=>?_;refine UI (cH rfl z54 rfl (cJ np rfl rfl rfl)) rfl<|UW (UP (k:=0) rfl)<|UW (UM (k:=0) rfl)<|UX (cm (es:=[[cy b6,.slice none 0 0]]) jU rfl (cn jU z54 rfl rfl) rfl rfl) gn rfl fun b13=>?_;refine Wo.dp (r:=aj) (L:=([([5,6,10,9],[])]:Us)) (es:=[[cy b6,.slice none 0 0]]) (iy.cons (r:=aj) (z:=([5,6,10,9],[])) (g:=(((some ⟨b6,0,none⟩),4),(none,0,[]))) (Lf.p (Lf.s (k:=1) rfl) Lf.l0) iy.nil) ?_;intro r18;obtain⟨h25,hF⟩:=az hF;refine UX (zL (r:=aj) (k:=4) (q:=3) (k2:=1) (q2:=0) (L:=(([]:Us)++([([0,1,2,3,7,11,15,14,13,12,8,4],[[5,9,10,6]])]:Us))) (L':=([([5,6,10,9],[])]:Us)) jU ⟨_,u32⟩ rfl rfl rfl rfl (.arr _ _ _ _ _) rfl rfl h25) gn rfl ?_;rintro⟨a14,r9⟩;refine UI (aG (r:=ptr b0 1) rfl (fb _ _)) rfl<|U4 (eg (k:=15) mz rfl rfl rfl rfl rfl)<|UQ ?_;cases hF;exact ae (a14,((([]:Uw)++([[I5 b3,lP b4]]:Uw))++([[cy b6,.slice none 0 0]]:Uw)),r9) [14,15,16,4,3,17];refine U8 rfl h6<|U5 ?_;cases hF;exact ae (a13,(([]:Uw)++([[I5 b3,lP b4]]:Uw)),r8) [11,12,13,1,0,14];rintro⟨a8,e3,r4⟩;refine UR<|UJ<|UK<|UI (aI (k:=1) fB rfl rfl rfl) rfl<|U4 (eg (k:=0) fB rfl rfl rfl rfl rfl)<|UQ<|UR<|U9<|At.tr ?_;cases hF;exact UY (.cell (k:=0) fB rfl rfl rfl .nil) fun m' hm=>⟨(a2,l1.length,l1.length,a8,l4.length,l4.length,e3,r4),rfl,(UT (UM (k:=2) rfl) (UT (UM (k:=3) rfl) (UO [2,3,4,5] rfl rfl))) m' hm⟩;refine U8 rfl h5<|U5<|UR<|UJ<|UJ<|UK<|UI (bG rfl) rfl<|UQ<|UR<|UN ?_;obtain⟨l5,h7,hF⟩:=J hF;refine ct (fun l5 ((a9,e4,r5):Ux×Uw ×(Nat->Prop))=>⟨(.exit 4),[(2,ptr b2 0),(5,ptr b0 0)],(jE b2::u9 b0 a2 l1 a9 l5 e4 aj r5 [ee H])⟩) l5 ?_ ?_;refine lw h7 ((none,[],(fun _=>False)):Ux×Uw ×(Nat->Prop)) (fun(l12,v3) ((a6,e1,r0):Ux×Uw ×(Nat->Prop))=>⟨.normal,(AN b1 b2 v0 v1 b0 [(10,bg v3)]),(yh b1 x1 x2 a0 l2 c0 a1 l3 c1 x3 b2 (u9 b0 a2 l1 a6 l12 e1 aj r0 [ee H]))⟩) (UT (aa.nil 2 rfl) (UT (aa.Gi (r:=aj)) (UO [2,3,4,5,6,7,1,0,8] rfl rfl))) ?_;clear hF h7;rintro⟨l12,v3⟩ ⟨a6,e1,r0⟩ r hF;unfold vC at hF;refine UJ<|UJ<|UK<|UI (aV rfl) rfl<|UI (aV rfl) rfl<|UI (aJ rfl rfl (hY _ _ _)) rfl<|UQ<|UR ?_;rcases U hF with⟨h8,hF⟩|⟨h8,hF⟩;refine U3 rfl h8<|U5<|UR<|UJ<|UN<|UJ<|UK<|UI (bG rfl) rfl<|UQ<|UR<|UN ?_;obtain⟨l11,h9,hF⟩:=J hF;refine ct (fun l11 ((a10,e5,r6):Ux×Uw ×(Nat->Prop))=>⟨(.exit 6),(AN b1 b2 v0 v1 b0 [(10,bg v3)]),(yh b1 x1 x2 a0 l2 c0 a1 l3 c1 x3 b2 (u9 b0 a2 l1 a10 l11 e5 aj r6 [ee H]))⟩) l11 ?_ ?_;refine lo h9 (a6,e1,r0) [0,1,2,3,4,5,6,7,8] (fun(l6,v6) ((a7,e0,r1):Ux×Uw ×(Nat->Prop))=>⟨.normal,(AN b1 b2 v0 v1 b0 [(10,bg v3),(11,bg v6)]),(yh b1 x1 x2 a0 l2 c0 a1 l3 c1 x3 b2 (u9 b0 a2 l1 a7 l6 e0 aj r1 [ee H]))⟩) ?_;clear hF h9;rintro⟨l6,v6⟩ ⟨a7,e0,r1⟩ r hF;unfold ui at hF;refine UJ<|UJ<|UK<|UI (aV rfl) rfl<|UI (aV rfl) rfl<|UI (aJ rfl rfl (hY _ _ _)) rfl<|UQ<|UR ?_;rcases U hF with⟨h10,hF⟩|⟨h10,hF⟩;refine U3 rfl h10<|U5<|UR<|UJ ?_;obtain⟨l9,h26,hF⟩:=J hF;refine ct (fun l9 ((a11,e6,r7):Ux×Uw ×(Nat->Prop))=>⟨.normal,(AN b1 b2 v0 v1 b0 [(10,bg v3),(11,bg v6)]),(yh b1 x1 x2 a0 l2 c0 a1 l3 c1 x3 b2 (u9 b0 a2 l1 a11 l9 e6 aj r7 [ee H]))⟩) l9 ?_ ?_;clear hF;revert l9;intro r hF;refine UN<|UJ<|UK<|UI (aV rfl) rfl<|UI (aV rfl) rfl<|UI (aJ rfl rfl (bD _ _ _)) rfl<|UI (aJ rfl rfl (cT _ _ _)) rfl<|UI (aV rfl) rfl ?_;obtain⟨y0,h27,hF⟩:=J hF;refine UI (aJ rfl rfl ((bD _ _ _).trans (cI h27))) rfl<|UI (bG rfl) rfl<|UQ<|UR<|UJ<|UK<|UI (aV rfl) rfl<|UI (aV rfl) rfl<|UI (aJ rfl rfl (bD _ _ _)) rfl<|UI (aJ rfl rfl (bD _ _ _)) rfl<|UI (bG rfl) rfl<|UQ<|UR<|UJ<|UK<|UI (aG (r:=ptr b1 2) rfl (AY _ _)) rfl<|UI (aI (k:=0) GL rfl rfl rfl) rfl<|UI (aV rfl) rfl ?_;refine UI (aV rfl) rfl<|UI (aJ rfl rfl (cT _ _ _)) rfl<|UI (aV rfl) rfl<|UI (aJ rfl rfl (bD _ _ _)) rfl ?_;obtain⟨r19,h28,hF⟩:=J hF;refine wc gn (fun m hm=>wo h28 m (hm.q 1)) ?_;rintro⟨⟩;refine UI (aJ rfl rfl (cf _ _ (by decide))) rfl<|UQ<|UR<|UN<|UJ<|UK<|UI (aJ rfl rfl (iN _ _ _)) rfl<|UI (bG rfl) rfl<|UQ<|UR ?_
 rcases U hF with⟨h11,hF⟩|⟨h11,hF⟩;refine U3 rfl h11<|UK<|UI (aG (r:=ptr b0 1) rfl (fb _ _)) rfl<|UI (aI (k:=4) mz rfl rfl rfl) rfl<|UI (aV rfl) rfl<|UI (aV rfl) rfl<|UI (aJ rfl rfl (bD _ _ _)) rfl<|UI (aV rfl) rfl ?_;obtain⟨y1,h29,hF⟩:=J hF;refine UI (aJ rfl rfl ((bD _ _ _).trans (cI h29))) rfl<|UX (cm (es:=([y0,UE (y0+1),y1]:VB (Int)).map (eI .i64)) fw rfl (cn fw z3 rfl rfl) rfl rfl) gn rfl fun b7=>?_;refine UI (cH rfl z54 rfl (cJ np rfl rfl rfl)) rfl<|UI (aV rfl) rfl<|UI (aV rfl) rfl ?_;obtain⟨y2,h30,hF⟩:=J hF;refine UI (aJ rfl rfl ((bD _ _ _).trans (cI h30))) rfl<|UI (aV rfl) rfl<|UX (cm (es:=([y0,y2,UE ((UE (y0+v0))+1)]:VB (Int)).map (eI .i64)) fw rfl (cn fw z3 rfl rfl) rfl rfl) gn rfl fun b8=>?_;refine UI (cH rfl z54 rfl (cJ np rfl rfl rfl)) rfl<|UW (UP (k:=1) rfl)<|UW (UM (k:=1) rfl)<|UW (UP (k:=0) rfl)<|UW (UM (k:=0) rfl)<|UX (cm (es:=[[DC b7,.slice none 0 0],[DC b8,.slice none 0 0]]) jU rfl (cn jU z54 rfl rfl) rfl rfl) gn rfl fun b14=>?_;refine Wo.dp (r:=aj) (L:=([([y0,UE (y0+1),y1],[]),([y0,y2,UE ((UE (y0+v0))+1)],[])]:Us)) (es:=[[DC b7,.slice none 0 0],[DC b8,.slice none 0 0]]) (iy.cons (r:=aj) (z:=([y0,UE (y0+1),y1],[])) (g:=(((some ⟨b7,0,none⟩),3),(none,0,[]))) (Lf.p (Lf.s (k:=2) rfl) Lf.l0) (iy.cons (r:=aj) (z:=([y0,y2,UE ((UE (y0+v0))+1)],[])) (g:=(((some ⟨b8,0,none⟩),3),(none,0,[]))) (Lf.p (Lf.s (k:=1) rfl) Lf.l0) iy.nil)) ?_;intro r20;obtain⟨h31,hF⟩:=az hF;refine UX (zL (r:=aj) (k:=10) (q:=11) (k2:=1) (q2:=0) (L:=l6) (L':=([([y0,UE (y0+1),y1],[]),([y0,y2,UE ((UE (y0+v0))+1)],[])]:Us)) jU ⟨_,u32⟩ rfl rfl rfl rfl (.arr _ _ _ _ _) rfl rfl h31) gn rfl ?_;rintro⟨a15,r10⟩;refine UI (aG (r:=ptr b0 1) rfl (fb _ _)) rfl<|U4 (eg (k:=8) mz rfl rfl rfl rfl rfl)<|UQ<|At.bn<|At.bn ?_;cases hF;exact ae (a15,(e0++([[DC b7,.slice none 0 0],[DC b8,.slice none 0 0]]:Uw)),r10) [4,5,6,7,8,9,10,11,12];refine U8 rfl h11<|UJ<|UK<|UI (aJ rfl rfl (iN _ _ _)) rfl<|UI (bG rfl) rfl<|UQ<|UR ?_;rcases U hF with⟨h12,hF⟩|⟨h12,hF⟩;refine U3 rfl h12<|UJ<|UJ<|UK<|UI (aG (r:=ptr b0 1) rfl (fb _ _)) rfl<|UI (aI (k:=4) mz rfl rfl rfl) rfl<|UI (oU (k:=6) u32 rfl rfl (.inl rfl)) rfl<|UI (aJ rfl rfl (rM _ _ _)) rfl<|UQ<|UR ?_;rcases U hF with⟨h13,hF⟩|⟨h13,hF⟩;refine U3 rfl h13<|Wk.exit<|At.te<|At.bx rfl<|Vf ?_;obtain rfl:=Sb hF;exact ae (a7,e0,r1) (Vg 0 9);refine U8 rfl h13<|U5<|UR<|UK<|UI (aG (r:=ptr b0 1) rfl (fb _ _)) rfl<|UI (aI (k:=4) mz rfl rfl rfl) rfl<|UI (aV rfl) rfl ?_;obtain⟨y3,h32,hF⟩:=J hF;refine UI (aJ rfl rfl ((bD _ _ _).trans (cI h32))) rfl<|UI (aV rfl) rfl<|UI (aV rfl) rfl<|UI (aV rfl) rfl<|UI (aJ rfl rfl (bD _ _ _)) rfl<|UX (cm (es:=([y3,UE ((UE (y0+v0))+1),y0,UE (y0+1)]:VB (Int)).map (eI .i64)) fw rfl (cn fw z3 rfl rfl) rfl rfl) gn rfl fun b9=>?_;refine UI (cH rfl z54 rfl (cJ np rfl rfl rfl)) rfl<|UW (UP (k:=0) rfl)<|UW (UM (k:=0) rfl)<|UX (cm (es:=[[cy b9,.slice none 0 0]]) jU rfl (cn jU z54 rfl rfl) rfl rfl) gn rfl fun b15=>?_;refine Wo.dp (r:=aj) (L:=([([y3,UE ((UE (y0+v0))+1),y0,UE (y0+1)],[])]:Us)) (es:=[[cy b9,.slice none 0 0]]) (iy.cons (r:=aj) (z:=([y3,UE ((UE (y0+v0))+1),y0,UE (y0+1)],[])) (g:=(((some ⟨b9,0,none⟩),4),(none,0,[]))) (Lf.p (Lf.s (k:=1) rfl) Lf.l0) iy.nil) ?_;intro r21;obtain⟨h33,hF⟩:=az hF;refine UX (zL (r:=aj) (k:=9) (q:=10) (k2:=1) (q2:=0) (L:=l6) (L':=([([y3,UE ((UE (y0+v0))+1),y0,UE (y0+1)],[])]:Us)) jU ⟨_,u32⟩ rfl rfl rfl rfl (.arr _ _ _ _ _) rfl rfl h33) gn rfl ?_;rintro⟨a16,r11⟩;refine UI (aG (r:=ptr b0 1) rfl (fb _ _)) rfl<|U4 (eg (k:=7) mz rfl rfl rfl rfl rfl)<|UQ<|At.bn<|At.bn ?_;cases hF;exact ae (a16,(e0++([[cy b9,.slice none 0 0]]:Uw)),r11) [3,4,5,6,7,8,9,10,11];refine U8 rfl h12<|UK<|UI (aG (r:=ptr b0 1) rfl (fb _ _)) rfl<|UI (aI (k:=4) mz rfl rfl rfl) rfl<|UI (aV rfl) rfl<|UI (aV rfl) rfl<|UI (aJ rfl rfl (bD _ _ _)) rfl<|UI (aV rfl) rfl ?_;obtain⟨y4,h34,hF⟩:=J hF;refine UI (aJ rfl rfl ((bD _ _ _).trans (cI h34))) rfl<|UI (aV rfl) rfl<|UX (cm (es:=([y0,UE (y0+1),y4,UE ((UE (y0+v0))+1)]:VB (Int)).map (eI .i64)) fw rfl (cn fw z3 rfl rfl) rfl rfl) gn rfl fun b10=>?_;refine UI (cH rfl z54 rfl (cJ np rfl rfl rfl)) rfl<|UW (UP (k:=0) rfl)<|UW (UM (k:=0) rfl)<|UX (cm (es:=[[cy b10,.slice none 0 0]]) jU rfl (cn jU z54 rfl rfl) rfl rfl) gn rfl fun b16=>?_;refine Wo.dp (r:=aj) (L:=([([y0,UE (y0+1),y4,UE ((UE (y0+v0))+1)],[])]:Us)) (es:=[[cy b10,.slice none 0 0]]) (iy.cons (r:=aj) (z:=([y0,UE (y0+1),y4,UE ((UE (y0+v0))+1)],[])) (g:=(((some ⟨b10,0,none⟩),4),(none,0,[]))) (Lf.p (Lf.s (k:=1) rfl) Lf.l0) iy.nil) ?_;intro r22;obtain⟨h35,hF⟩:=az hF;refine UX (zL (r:=aj) (k:=9) (q:=10) (k2:=1) (q2:=0) (L:=l6) (L':=([([y0,UE (y0+1),y4,UE ((UE (y0+v0))+1)],[])]:Us)) jU ⟨_,u32⟩ rfl rfl rfl rfl (.arr _ _ _ _ _) rfl rfl h35) gn rfl ?_;rintro⟨a17,r12⟩;refine UI (aG (r:=ptr b0 1) rfl (fb _ _)) rfl<|U4 (eg (k:=7) mz rfl rfl rfl rfl rfl)<|UQ<|At.bn<|At.bn ?_;cases hF;exact ae (a17,(e0++([[cy b10,.slice none 0 0]]:Uw)),r12) [3,4,5,6,7,8,9,10,11];rintro⟨a11,e6,r7⟩;refine UR<|UK<|UI (aV rfl) rfl<|UI (aJ rfl rfl (bD _ _ _)) rfl<|UI (bG rfl) rfl<|UQ ?_;cases hF;exact ae (a11,e6,r7) (Vg 0 9);refine U8 rfl h10<|Wk.exit<|At.te ?_;cases hF;exact ae (a7,e0,r1) (Vg 0 9);rintro⟨a10,e5,r6⟩;refine Vf<|At.bn<|UR<|UK<|UI (aV rfl) rfl<|UI (aJ rfl rfl (bD _ _ _)) rfl<|UI (bG rfl) rfl<|UQ ?_;cases hF;exact ae (a10,e5,r6) (Vg 0 9);refine U8 rfl h8<|Wk.exit<|At.te ?_;cases hF;exact ae (a6,e1,r0) (Vg 3 6);rintro⟨a9,e4,r5⟩;refine Vf<|UR<|UJ<|UK<|UI (aI (k:=1) fB rfl rfl rfl) rfl<|U4 (eg (k:=0) fB rfl rfl rfl rfl rfl)<|UQ<|UR<|U9 ?_;cases hF;exact UY (.cell (k:=0) fB rfl rfl rfl .nil) fun m' hm=>⟨(a2,l1.length,l1.length,a9,l5.length,l5.length,e4,r5),rfl,(UT (UM (k:=2) rfl) (UT (UM (k:=3) rfl) (UO [2,3,4,5] rfl rfl))) m' hm⟩
def OQ{n x1 x2 l1 l2 x3 x4 x10 x11 x12 x13 x14 x15 x16 x17 x18 x19 x20 a0 c0 a1 c1 r}(hF:F7 n x1 x2 l1 l2 x3 x4 x10 x11 x12 x13 x14 x15 x16 x17 x18 x19 x20=some r)(m){H:Uy}(hH:∀b,H b->b<m.next)(h0:Bj m a0 c0 l1)(h1:∀b,kU a0=some b->¬H b)(h2:Bj m a1 c1 l2)(h3:∀b,kU a1=some b->¬H b):
 aK (Vq p q) 7 [NI x1 x2 a0 l1 c0 a1 l2 c1 x3,PF x4 x10 x11 x12 x13 x14 x15 x16 x17 x18 x19 x20] m (fun v m'=>∃x:Ux×Nat×Nat×Ux×Nat×Nat×Uw ×(Nat->Prop)×Ux×Nat×Nat×Ux×Nat×Nat×Uw ×(Nat->Prop)×Ux×Nat×Nat×Ux×Nat×Nat×Uw ×(Nat->Prop),v=.agg #[.slice x.1 x.2.2.1 x.2.1,.slice x.2.2.2.1 x.2.2.2.2.2.1 x.2.2.2.2.1,.slice x.2.2.2.2.2.2.2.2.1 x.2.2.2.2.2.2.2.2.2.2.1 x.2.2.2.2.2.2.2.2.2.1,.slice x.2.2.2.2.2.2.2.2.2.2.2.1 x.2.2.2.2.2.2.2.2.2.2.2.2.2.1 x.2.2.2.2.2.2.2.2.2.2.2.2.1,.slice x.2.2.2.2.2.2.2.2.2.2.2.2.2.2.2.2.1 x.2.2.2.2.2.2.2.2.2.2.2.2.2.2.2.2.2.2.1 x.2.2.2.2.2.2.2.2.2.2.2.2.2.2.2.2.2.1,.slice x.2.2.2.2.2.2.2.2.2.2.2.2.2.2.2.2.2.2.2.1 x.2.2.2.2.2.2.2.2.2.2.2.2.2.2.2.2.2.2.2.2.2.1 x.2.2.2.2.2.2.2.2.2.2.2.2.2.2.2.2.2.2.2.2.1]/\Hp m m' [.rd x.1 x.2.1 2 x.2.2.1 (r.1.map (eP (eI .i64) (eI .i64))),.rd x.2.2.2.1 x.2.2.2.2.1 2 x.2.2.2.2.2.1 x.2.2.2.2.2.2.1,.gen (cp aj x.2.2.2.2.2.2.2.1 r.2.1 x.2.2.2.2.2.2.1),.rd x.2.2.2.2.2.2.2.2.1 x.2.2.2.2.2.2.2.2.2.1 2 x.2.2.2.2.2.2.2.2.2.2.1 (r.2.2.1.map (eP (eI .i64) (eI .i64))),.rd x.2.2.2.2.2.2.2.2.2.2.2.1 x.2.2.2.2.2.2.2.2.2.2.2.2.1 2 x.2.2.2.2.2.2.2.2.2.2.2.2.2.1 x.2.2.2.2.2.2.2.2.2.2.2.2.2.2.1,.gen (cp aj x.2.2.2.2.2.2.2.2.2.2.2.2.2.2.2.1 r.2.2.2.1 x.2.2.2.2.2.2.2.2.2.2.2.2.2.2.1),.rd x.2.2.2.2.2.2.2.2.2.2.2.2.2.2.2.2.1 x.2.2.2.2.2.2.2.2.2.2.2.2.2.2.2.2.2.1 2 x.2.2.2.2.2.2.2.2.2.2.2.2.2.2.2.2.2.2.1 (r.2.2.2.2.1.map (eP (eI .i64) (eI .i64))),.rd x.2.2.2.2.2.2.2.2.2.2.2.2.2.2.2.2.2.2.2.1 x.2.2.2.2.2.2.2.2.2.2.2.2.2.2.2.2.2.2.2.2.1 2 x.2.2.2.2.2.2.2.2.2.2.2.2.2.2.2.2.2.2.2.2.2.1 x.2.2.2.2.2.2.2.2.2.2.2.2.2.2.2.2.2.2.2.2.2.2.1,.gen (cp aj x.2.2.2.2.2.2.2.2.2.2.2.2.2.2.2.2.2.2.2.2.2.2.2 r.2.2.2.2.2 x.2.2.2.2.2.2.2.2.2.2.2.2.2.2.2.2.2.2.2.2.2.2.1),ee H]):=by
 unfold F7 at hF;refine cw Try.func7 (Hp.pE (l0:=[Jj a0 c0 l1]) (Hp.pE (l0:=[]) (Hp.ud m hH) eo h0 h1) (fg eo) h2 h3) ?_;refine wz ?_;refine wb fun b1=>?_;refine wb fun b0=>?_;refine wa z35 fun b2=>?_;refine au ?_;obtain⟨⟨l6,l3⟩,h4,hF⟩:=J hF;refine UX (Cq (N:=(fun x:Ux×Nat×Nat×Ux×Nat×Nat×Uw ×(Nat->Prop)=>[.rd (x.1) (x.2.1) 2 (x.2.2.1) (l6.map (eP (eI .i64) (eI .i64))),.rd (x.2.2.2.1) (x.2.2.2.2.1) 2 (x.2.2.2.2.2.1) (x.2.2.2.2.2.2.1),.gen (cp aj (x.2.2.2.2.2.2.2) l3 (x.2.2.2.2.2.2.1))])) rfl rfl (fun m hm=>Nf h4 m hm.dW (hm.q 4) (hm.no 4) (hm.q 3) (hm.no 3)) fun _=>rfl) gn rfl ?_;rintro⟨a2,c2,n0,a3,c3,n1,e0,r0⟩;refine Wo.BR (k:=0) rfl ?_;rintro rfl;refine Wo.jH (k:=1) (q:=2) (L:=l3) rfl (.inr (.inl ⟨_,rfl⟩)) rfl ?_;rintro rfl;refine wa rJ fun b3=>?_;refine au ?_;obtain⟨⟨l7,l4⟩,h5,hF⟩:=J hF;refine UX (Cq (N:=(fun x:Ux×Nat×Nat×Ux×Nat×Nat×Uw ×(Nat->Prop)=>[.rd (x.1) (x.2.1) 2 (x.2.2.1) (l7.map (eP (eI .i64) (eI .i64))),.rd (x.2.2.2.1) (x.2.2.2.2.1) 2 (x.2.2.2.2.2.1) (x.2.2.2.2.2.2.1),.gen (cp aj (x.2.2.2.2.2.2.2) l4 (x.2.2.2.2.2.2.1))])) rfl rfl (fun m hm=>HX h5 m hm.dW (hm.q 1) (hm.no 1) (hm.q 2) (hm.no 2) (hm.dp (q:=3) rfl) (hm.gQ (q:=3) rfl)) fun _=>rfl) gn rfl ?_;rintro⟨a4,c4,n45,a5,c5,n2,e1,r1⟩;refine Wo.BR (k:=0) rfl ?_;rintro rfl;refine Wo.jH (k:=1) (q:=2) (L:=l4) rfl (.inr (.inl ⟨_,rfl⟩)) rfl ?_;rintro rfl;refine wa rJ fun b4=>?_;refine wz ?_;refine UJ<|U6 (prs:=[(0,5),(1,5)]) (by kernel_rfl)<|UL (aI (k:=4) fB rfl rfl rfl) rfl<|UL (aI (k:=0) fB rfl rfl rfl) rfl<|UL (LL (r:=ptr b0 6) rfl rfl (PT O6 (i:=1) (by decide))) rfl<|UL (aI (k:=9) PX rfl rfl rfl) rfl<|UL (aI (k:=0) fB rfl rfl rfl) rfl ?_
 obtain⟨⟨l8,l5⟩,h6,hF⟩:=J hF;refine Wn.c (OG (N:=(fun x:Ux×Nat×Nat×Ux×Nat×Nat×Uw ×(Nat->Prop)=>[.rd (x.1) (x.2.1) 2 (x.2.2.1) (l8.map (eP (eI .i64) (eI .i64))),.rd (x.2.2.2.1) (x.2.2.2.2.1) 2 (x.2.2.2.2.2.1) (x.2.2.2.2.2.2.1),.gen (cp aj (x.2.2.2.2.2.2.2) l5 (x.2.2.2.2.2.2.1))])) rfl rfl (fun m hm=>HX h6 m hm.dW (hm.q 1) (hm.no 1) (hm.q 2) (hm.no 2) (hm.dp (q:=3) rfl) (hm.gQ (q:=3) rfl)) fun _=>rfl) gn rfl ?_;rintro⟨a6,c6,n4,a7,c7,n5,e3,r3⟩;refine Wn.BR (k:=0) rfl ?_;rintro rfl;refine Wn.jH (k:=1) (q:=2) (L:=l5) rfl (.inr (.inl ⟨_,rfl⟩)) rfl ?_;rintro rfl;refine UL (cH rfl z35 rfl (cJ Q8 rfl rfl rfl)) rfl<|Wn.o0 (eg (k:=11) NF rfl rfl rfl rfl rfl)<|U1 (fun m hm=>dq.all rfl) ?_;refine au ?_;cases hF;exact UY (.cell (k:=11) NF rfl rfl rfl .nil) fun m' hm=>⟨(a2,c2,l6.length,a3,c3,l3.length,e0,r0,a4,c4,l7.length,a5,c5,l4.length,e1,r1,a6,c6,l8.length,a7,c7,l5.length,e3,r3),rfl,(UO [8,9,10,4,5,6,0,1,2,16] rfl rfl) m' hm⟩
def PG(n x1 x2 l10 l11 x3 x4 x10 x11 x12 x13 x14 x15 x16 x17 x18 x19 x20 a9 c8 a10 c9 r)(hF:F3 n x1 x2 l10 l11 x3 x4 x10 x11 x12 x13 x14 x15 x16 x17 x18 x19 x20=some r)(m)(h10:Bj m a9 c8 l10)(h11:Bj m a10 c9 l11):
 aK (Vq (some mK) (some ED)) 3 [NI x1 x2 a9 l10 c8 a10 l11 c9 x3,PF x4 x10 x11 x12 x13 x14 x15 x16 x17 x18 x19 x20] m (Vm m (.bool r)):=by
 unfold F3 at hF;refine cw Try.func3 (U2 (U2 (UU m) eo h10) (fg eo) h11) ?_;refine wz ?_;refine wb fun b6=>?_;refine wb fun b7=>?_;refine au ?_;obtain⟨r11,h12,hF⟩:=J hF;refine wc gn (fun m hm=>On h12 m) ?_;rintro⟨⟩;refine wz ?_;rcases U hF with⟨h13,hF⟩|⟨h13,hF⟩;refine au ?_;cases hF;exact ar () [];refine au ?_;obtain⟨⟨l4,l1,l5,l2,l6,l3⟩,h14,hF⟩:=J hF;refine UX (Cq (N:=(fun x:Ux×Nat×Nat×Ux×Nat×Nat×Uw ×(Nat->Prop)×Ux×Nat×Nat×Ux×Nat×Nat×Uw ×(Nat->Prop)×Ux×Nat×Nat×Ux×Nat×Nat×Uw ×(Nat->Prop)=>[.rd (x.1) (x.2.1) 2 (x.2.2.1) (l4.map (eP (eI .i64) (eI .i64))),.rd (x.2.2.2.1) (x.2.2.2.2.1) 2 (x.2.2.2.2.2.1) (x.2.2.2.2.2.2.1),.gen (cp aj (x.2.2.2.2.2.2.2.1) l1 (x.2.2.2.2.2.2.1)),.rd (x.2.2.2.2.2.2.2.2.1) (x.2.2.2.2.2.2.2.2.2.1) 2 (x.2.2.2.2.2.2.2.2.2.2.1) (l5.map (eP (eI .i64) (eI .i64))),.rd (x.2.2.2.2.2.2.2.2.2.2.2.1) (x.2.2.2.2.2.2.2.2.2.2.2.2.1) 2 (x.2.2.2.2.2.2.2.2.2.2.2.2.2.1) (x.2.2.2.2.2.2.2.2.2.2.2.2.2.2.1),.gen (cp aj (x.2.2.2.2.2.2.2.2.2.2.2.2.2.2.2.1) l2 (x.2.2.2.2.2.2.2.2.2.2.2.2.2.2.1)),.rd (x.2.2.2.2.2.2.2.2.2.2.2.2.2.2.2.2.1) (x.2.2.2.2.2.2.2.2.2.2.2.2.2.2.2.2.2.1) 2 (x.2.2.2.2.2.2.2.2.2.2.2.2.2.2.2.2.2.2.1) (l6.map (eP (eI .i64) (eI .i64))),.rd (x.2.2.2.2.2.2.2.2.2.2.2.2.2.2.2.2.2.2.2.1) (x.2.2.2.2.2.2.2.2.2.2.2.2.2.2.2.2.2.2.2.2.1) 2 (x.2.2.2.2.2.2.2.2.2.2.2.2.2.2.2.2.2.2.2.2.2.1) (x.2.2.2.2.2.2.2.2.2.2.2.2.2.2.2.2.2.2.2.2.2.2.1),.gen (cp aj (x.2.2.2.2.2.2.2.2.2.2.2.2.2.2.2.2.2.2.2.2.2.2.2) l3 (x.2.2.2.2.2.2.2.2.2.2.2.2.2.2.2.2.2.2.2.2.2.2.1))])) rfl rfl (fun m hm=>OQ h14 m hm.dW (hm.q 3) (hm.no 3) (hm.q 2) (hm.no 2)) fun _=>rfl) gn rfl ?_;rintro⟨a0,c0,n0,a1,c1,n1,e0,r0,a2,c2,n2,a3,c3,n4,e1,r1,a4,c4,n5,a5,c5,n7,e3,r3⟩;refine Wo.BR (k:=0) rfl ?_;rintro rfl;refine Wo.jH (k:=1) (q:=2) (L:=l1) rfl (.inr (.inl ⟨_,rfl⟩)) rfl ?_;rintro rfl;refine Wo.BR (k:=3) rfl ?_;rintro rfl;refine Wo.jH (k:=4) (q:=5) (L:=l2) rfl (.inr (.inl ⟨_,rfl⟩)) rfl ?_;rintro rfl;refine Wo.BR (k:=6) rfl ?_;rintro rfl;refine Wo.jH (k:=7) (q:=8) (L:=l3) rfl (.inr (.inl ⟨_,rfl⟩)) rfl ?_;rintro rfl;refine wz ?_;refine UN ?_;obtain⟨r7,h1,hF⟩:=J hF;refine ct (fun(r:VC⊕VC) (g:VC)=>match r,g with|.inl _,_=>⟨.ret,[(4,.bool false)],[]⟩|.inr _,_=>⟨(.exit 0),[],[]⟩) r7 ?_ ?_
 refine lo h1 () [0,1,2,3,4,5,6,7,8] (fun v0 _=>⟨.normal,[(22,I1 a0 l4 c0 a1 l1 c1 a2 l5 c2 a3 l2 c3 a4 l6 c4 a5 l3 c5),(23,bg v0)],(Fz a0 c0 l4 a1 c1 l1 e0 aj r0 a2 c2 l5 a3 c3 l2 e1 r1 (rH a4 c4 l6 a5 c5 l3 e3 aj r3 []))⟩) ?_;clear hF h1;rintro v0 ⟨⟩ r hF;unfold Ee at hF;refine wz ?_;refine UJ ?_;rcases U hF with⟨h15,hF⟩|⟨h15,hF⟩;refine wz ?_;refine UJ ?_;obtain⟨r5,h16,hF⟩:=J hF;refine ct (fun(r:VC⊕VC) (g:VC)=>match r,g with|.inl _,_=>⟨.normal,[(22,I1 a0 l4 c0 a1 l1 c1 a2 l5 c2 a3 l2 c3 a4 l6 c4 a5 l3 c5),(23,bg v0)],(Fz a0 c0 l4 a1 c1 l1 e0 aj r0 a2 c2 l5 a3 c3 l2 e1 r1 (rH a4 c4 l6 a5 c5 l3 e3 aj r3 []))⟩|.inr _,_=>⟨.ret,[(4,.bool false)],[]⟩) r5 ?_ ?_
 clear hF;revert r5;intro r hF;refine wz ?_;obtain⟨h17,hF⟩:=az hF;obtain⟨⟨l9,l8⟩,h0,hF⟩:=J hF;refine UX (E8 (α:=Ux×Nat×Ux×Nat×Uw ×(Nat->Prop)) (V:=fun g=>match g with |(a7,c6,a6,c7,e4,r4)=>.agg #[bI a7 l9 c6,bI a6 l8 c7]) (N:=fun g=>match g with |(a7,c6,a6,c7,e4,r4)=>(rH a7 c6 l9 a6 c7 l8 e4 aj r4 [])++(Fz a0 c0 l4 a1 c1 l1 e0 aj r0 a2 c2 l5 a3 c3 l2 e1 r1 (rH a4 c4 l6 a5 c5 l3 e3 aj r3 []))) rfl rfl (fun m hm=>?_)) gn rfl ?_
 have hj:=pG h17;obtain⟨j,h4⟩:∃j:Nat,(v0:Int)=j:=⟨_,(To hj.1).symm⟩;rw[h4] at h0 hj ⊢;rw[SG] at h0 hj;replace hj:=hj.2;clear hF h4
 match j,hj,h0 with
 | 0,_,h0=>cases h0; exact⟨(a0,c0,a1,c1,e0,r0),yp Kp (i:=0) (by decide) (pg fB rfl),(Hp.dup (Hp.dup (aa.EM (q:=2) rfl _ hm) (k:=2) rfl) (k:=2) rfl)⟩
 | 1,_,h0=>cases h0; exact⟨(a2,c2,a3,c3,e1,r1),yp Kp (i:=1) (by decide) (pg fB rfl),(Hp.dup (Hp.dup (aa.EM (q:=5) rfl _ hm) (k:=5) rfl) (k:=5) rfl)⟩
 | 2,_,h0=>cases h0; exact⟨(a4,c4,a5,c5,e3,r3),yp Kp (i:=2) (by decide) (pg fB rfl),(Hp.dup (Hp.dup (aa.EM (q:=8) rfl _ hm) (k:=8) rfl) (k:=8) rfl)⟩
 | _+3,hj,_=>exact Sw hj (by omega)
 rintro⟨a7,c6,a6,c7,e4,r4⟩;refine wa rJ fun b0=>?_;refine au ?_;obtain⟨⟨l7,r12⟩,h18,hF⟩:=J hF;refine wc gn (fun m hm=>G9 h18 m (hm.q 1) (hm.q 2) (hm.dp (q:=3) rfl)) ?_;rintro⟨a8,n8⟩;refine Vb (k:=0) (xs:=l7) rfl ?_;rintro rfl;refine au ?_;rcases U hF with⟨h19,hF⟩|⟨h19,hF⟩;refine wz ?_;cases hF;exact ae () (Vg 5 9);refine gB ?_;refine UN ?_;obtain⟨r8,h2,hF⟩:=J hF;refine ct (fun(r:VC⊕Int) (g:VC)=>match r,g with|.inl _,_=>⟨.ret,[(4,.bool false)],[]⟩|.inr v1,_=>⟨(.exit 2),[(6,ptr b0 0),(7,bQ a8 l7),(9,bg v1),(22,I1 a0 l4 c0 a1 l1 c1 a2 l5 c2 a3 l2 c3 a4 l6 c4 a5 l3 c5),(23,bg v0)],(fR b0 a7 l9 c6 a6 l8 c7 e4 aj r4 (j8 a8 l7::Fz a0 c0 l4 a1 c1 l1 e0 aj r0 a2 c2 l5 a3 c3 l2 e1 r1 (rH a4 c4 l6 a5 c5 l3 e3 aj r3 [])))⟩) r8 ?_ ?_
 refine lo h2 () [1,2,3,4,0,5,6,7,8,9,10,11,12,13] (fun(v6,v7) _=>⟨.normal,[(6,ptr b0 0),(7,bQ a8 l7),(9,bg v6),(22,I1 a0 l4 c0 a1 l1 c1 a2 l5 c2 a3 l2 c3 a4 l6 c4 a5 l3 c5),(23,bg v0),(35,dC l8),(36,bg v7)],(fR b0 a7 l9 c6 a6 l8 c7 e4 aj r4 (j8 a8 l7::Fz a0 c0 l4 a1 c1 l1 e0 aj r0 a2 c2 l5 a3 c3 l2 e1 r1 (rH a4 c4 l6 a5 c5 l3 e3 aj r3 [])))⟩) ?_;clear hF h2;rintro⟨v6,v7⟩ ⟨⟩ r hF;unfold Ef at hF;refine wz ?_;refine UJ ?_;rcases U hF with⟨h20,hF⟩|⟨h20,hF⟩;refine gB ?_;obtain⟨⟨r10,r13⟩,h21,hF⟩:=J hF;refine wc gn (fun m hm=>Li h21 m (hm.q 1) (hm.q 2) (hm.dp (q:=3) rfl)) ?_;rintro⟨⟩;refine wz ?_;refine UJ<|UJ ?_;obtain⟨v3,h22,hF⟩:=J hF;refine ct (fun v3 (_:VC)=>⟨.normal,[(6,ptr b0 0),(7,bQ a8 l7),(9,bg v6),(11,bg r10),(22,I1 a0 l4 c0 a1 l1 c1 a2 l5 c2 a3 l2 c3 a4 l6 c4 a5 l3 c5),(23,bg v0),(35,dC l8),(36,bg v7),(50,.bool v3)],(fR b0 a7 l9 c6 a6 l8 c7 e4 aj r4 (j8 a8 l7::Fz a0 c0 l4 a1 c1 l1 e0 aj r0 a2 c2 l5 a3 c3 l2 e1 r1 (rH a4 c4 l6 a5 c5 l3 e3 aj r3 [])))⟩) v3 ?_ ?_;clear hF;revert v3;intro r hF;refine wz ?_;rcases U hF with⟨h23,hF⟩|⟨h23,hF⟩;refine wz ?_;cases hF;exact ae () (Vg 0 14);refine wz ?_;cases hF;exact ae () (Vg 0 14);rintro⟨⟩;refine UR ?_;rcases U hF with⟨h24,hF⟩|⟨h24,hF⟩;refine au ?_;cases hF;exact ae () [];refine gB ?_;cases hF;exact ae () (Vg 0 14);refine wz ?_;cases hF;exact ae () (Vg 0 14);rcases r8 with _|v1;rintro⟨⟩;refine wz ?_;cases hF;exact ae () [];rintro⟨⟩;refine gB ?_;refine UN ?_;obtain⟨r9,h3,hF⟩:=J hF;refine ct (fun(r:VC⊕Int) (g:VC)=>match r,g with|.inl _,_=>⟨.ret,[(4,.bool false)],[]⟩|.inr v9,_=>⟨(.exit 4),[(9,bg v1),(13,bg v9),(22,I1 a0 l4 c0 a1 l1 c1 a2 l5 c2 a3 l2 c3 a4 l6 c4 a5 l3 c5),(23,bg v0)],(Fz a0 c0 l4 a1 c1 l1 e0 aj r0 a2 c2 l5 a3 c3 l2 e1 r1 (rH a4 c4 l6 a5 c5 l3 e3 aj r3 []))⟩) r9 ?_ ?_
 refine lo h3 () [0,1,2,3,5,6,7,8,9,10,11,12,13,4] (fun(v8,v2) _=>⟨.normal,[(6,ptr b0 0),(9,bg v1),(13,bg v8),(22,I1 a0 l4 c0 a1 l1 c1 a2 l5 c2 a3 l2 c3 a4 l6 c4 a5 l3 c5),(23,bg v0),(55,bQ a8 l7),(56,dC l7),(57,bg v2)],(fR b0 a7 l9 c6 a6 l8 c7 e4 aj r4 (Fz a0 c0 l4 a1 c1 l1 e0 aj r0 a2 c2 l5 a3 c3 l2 e1 r1 (rH a4 c4 l6 a5 c5 l3 e3 aj r3 [j8 a8 l7])))⟩) ?_;clear hF h3;rintro⟨v8,v2⟩ ⟨⟩ r hF;unfold D6 at hF;refine wz ?_;refine UJ ?_;rcases U hF with⟨h25,hF⟩|⟨h25,hF⟩;refine wz ?_;refine UJ ?_;obtain⟨r6,h26,hF⟩:=J hF;refine ct (fun(r:VC⊕Int) (g:VC)=>match r,g with|.inl _,_=>⟨.ret,[(4,.bool false)],[]⟩|.inr v10,_=>⟨.normal,[(6,ptr b0 0),(9,bg v1),(13,bg v10),(22,I1 a0 l4 c0 a1 l1 c1 a2 l5 c2 a3 l2 c3 a4 l6 c4 a5 l3 c5),(23,bg v0),(55,bQ a8 l7),(56,dC l7),(57,bg v2)],(fR b0 a7 l9 c6 a6 l8 c7 e4 aj r4 (Fz a0 c0 l4 a1 c1 l1 e0 aj r0 a2 c2 l5 a3 c3 l2 e1 r1 (rH a4 c4 l6 a5 c5 l3 e3 aj r3 [j8 a8 l7])))⟩) r6 ?_ ?_
 clear hF;revert r6;intro r hF;refine wz ?_;obtain⟨h27,hF⟩:=cW hF;refine Vd (k:=13) rfl (aU h27) ?_;rintro b4 t0 rfl h40;refine wz ?_;obtain⟨⟨x21,x22,x23,x24⟩,h41,hF⟩:=J hF;refine wz ?_;refine wa z44 fun b1=>?_;refine wz ?_;refine UJ<|UJ ?_;obtain⟨v4,h28,hF⟩:=J hF;refine ct (fun v4 (_:VC)=>⟨.normal,[(6,ptr b0 0),(9,bg v1),(13,bg v8),(15,ptr b1 0),(22,I1 a0 l4 c0 a1 l1 c1 a2 l5 c2 a3 l2 c3 a4 l6 c4 a5 l3 c5),(23,bg v0),(55,tN b4 l7),(56,dC l7),(57,bg v2),(104,.bool v4)],(fR b0 a7 l9 c6 a6 l8 c7 e4 aj r4 (fq b1 x21 x22 x23 x24::Fz a0 c0 l4 a1 c1 l1 e0 aj r0 a2 c2 l5 a3 c3 l2 e1 r1 (rH a4 c4 l6 a5 c5 l3 e3 aj r3 [s6 b4 l7 t0])))⟩) v4 ?_ ?_;clear hF;revert v4;intro r hF;refine wz ?_;rcases U hF with⟨h29,hF⟩|⟨h29,hF⟩;refine wz ?_;cases hF;exact ae () (1::2::3::4::0::Vg 5 10);refine wz ?_;rcases U hF with⟨h30,hF⟩|⟨h30,hF⟩;refine wz ?_;cases hF;exact ae () (1::2::3::4::0::Vg 5 10);refine wz ?_;rcases U hF with⟨h31,hF⟩|⟨h31,hF⟩;refine wz ?_;cases hF;exact ae () (1::2::3::4::0::Vg 5 10);refine wz ?_;rcases U hF with⟨h5,hF⟩|⟨h5,hF⟩;refine wz ?_;cases hF;exact ae () (1::2::3::4::0::Vg 5 10);refine wz ?_;refine UZ (kV rfl rfl (lH _ _)) (gg rfl rfl (qv h5)) rfl ?_;refine wz ?_;rcases U hF with⟨h6,hF⟩|⟨h6,hF⟩;refine wz ?_;cases hF;exact ae () (1::2::3::4::0::Vg 5 10);refine wz ?_;refine UZ (kV rfl rfl (u6 _ _)) (gg rfl rfl (qv h6)) rfl ?_;refine wz ?_;cases hF;exact ae () (1::2::3::4::0::Vg 5 10);rintro⟨⟩;refine UR ?_;rcases U hF with⟨h32,hF⟩|⟨h32,hF⟩;refine au ?_;cases hF;exact ae () [];refine wz ?_;refine UJ<|U6 (prs:=[(7,14),(9,14),(11,14)]) (by kernel_rfl)<|UL (aG (r:=ptr b0 0) rfl (iz _ _)) rfl<|UL (aI (k:=0) rI rfl rfl rfl) rfl<|UL (aG (r:=ptr b1 0) rfl (BO _ _)) rfl<|UL (aI (k:=4) bZ rfl rfl rfl) rfl ?_
 obtain⟨h7,hF⟩:=cW hF;refine Wn.bH (k:=1) rfl (aU h7) ?_;rintro b5 o1 rfl;refine Va (mW vK rfl rfl h7) gn rfl ?_;obtain⟨⟨x25,x26⟩,h33,hF⟩:=J hF;refine UL (ou (k:=0) cX rfl rfl (iF h33) rfl rfl) rfl<|UL (aG (r:=ptr b0 0) rfl (iz _ _)) rfl<|Vc rfl (aI (k:=1) rI rfl rfl rfl) rfl<|UL (aG (r:=ptr b1 1) rfl (Ce _ _)) rfl<|Vc rfl (aI (k:=5) bZ rfl rfl rfl) rfl ?_;obtain⟨h34,hF⟩:=cW hF;refine Va (mW vK rfl rfl h34) gn rfl ?_;obtain⟨⟨x27,x28⟩,h35,hF⟩:=J hF;refine Vc rfl (ou (k:=0) cX rfl rfl (iF h35) rfl rfl) rfl<|Wn.x (uH z26 rfl) gn rfl fun b2=>?_;refine Wn.x (uH z26 rfl) gn rfl fun b3=>?_;refine Wn.G7 rfl (eg (k:=1) cX rfl rfl rfl rfl rfl)<|Wn.o0 (eg (k:=0) cX rfl rfl rfl rfl rfl)<|U1 (fun m hm=>(dq.rw rfl rfl rfl (hm.ne (i:=3) (j:=1) rfl rfl rfl rfl (by decide) rfl) (dq.rw rfl rfl rfl (hm.ne (i:=7) (j:=1) rfl rfl rfl rfl (by decide) rfl) (dq.rw rfl rfl rfl (hm.ne (i:=1) (j:=2) rfl rfl rfl rfl (by decide) rfl).symm dq.nil))))<|UR<|UJ ?_
 obtain⟨v5,h36,hF⟩:=J hF;refine ct (fun v5 (_:VC)=>⟨.normal,[(6,ptr b0 0),(9,bg v1),(13,bg v5),(15,ptr b1 0),(16,ptr b2 0),(17,ptr b3 0),(22,I1 a0 l4 c0 a1 l1 c1 a2 l5 c2 a3 l2 c3 a4 l6 c4 a5 l3 c5),(23,bg v0),(55,tN b4 l7),(56,dC l7),(57,bg v2)],(.obj b0 (.cells [tY b5 o1 l9 c6,bI a6 l8 c7] .own)::IG b5 o1 l9::IQ b5 o1 c6 l9::CK a6 c7 l8 e4::fT aj r4 l8 e4::fq b1 x21 x22 x23 x24::gD b2 x25 x26::gD b3 x27 x28::Fz a0 c0 l4 a1 c1 l1 e0 aj r0 a2 c2 l5 a3 c3 l2 e1 r1 (rH a4 c4 l6 a5 c5 l3 e3 aj r3 [s6 b4 l7 t0]))⟩) v5 ?_ ?_;clear hF;revert v5;intro r hF;refine wz ?_;rcases U hF with⟨h8,hF⟩|⟨h8,hF⟩;refine U3 rfl h8<|UK<|UI (aV rfl) rfl<|UI (aG (r:=ptr b2 0) rfl (dv _ _)) rfl<|UI (aI (k:=1) bZ rfl rfl rfl) rfl<|UI (aG (r:=ptr b3 1) rfl (du _ _)) rfl<|UI (aI (k:=0) bZ rfl rfl rfl) rfl<|UI (aJ rfl rfl (cT _ _ _)) rfl<|UI (aG (r:=ptr b2 1) rfl (du _ _)) rfl<|UI (aI (k:=1) bZ rfl rfl rfl) rfl<|UI (aG (r:=ptr b3 0) rfl (dv _ _)) rfl<|UI (aI (k:=0) bZ rfl rfl rfl) rfl<|UI (aJ rfl rfl (cT _ _ _)) rfl ?_;obtain⟨y0,h37,hF⟩:=J hF;refine UI (aJ rfl rfl ((cK _ _ _).trans (cI h37))) rfl ?_;refine wz ?_;cases hF;exact ae () (3::2::4::5::6::7::1::0::Vg 8 10);refine wz ?_;obtain rfl:=Sb hF;exact ae () (3::2::4::5::6::7::1::0::Vg 8 10);rintro⟨⟩;refine au ?_;rcases U hF with⟨h9,hF⟩|⟨h9,hF⟩;refine U3 rfl h9<|UK<|UI (aV rfl) rfl<|UI (aG (r:=ptr b2 0) rfl (dv _ _)) rfl<|UI (aI (k:=6) bZ rfl rfl rfl) rfl<|UI (aG (r:=ptr b3 1) rfl (du _ _)) rfl<|UI (aI (k:=7) bZ rfl rfl rfl) rfl<|UI (aJ rfl rfl (cT _ _ _)) rfl<|UI (aG (r:=ptr b2 1) rfl (du _ _)) rfl<|UI (aI (k:=6) bZ rfl rfl rfl) rfl<|UI (aG (r:=ptr b3 0) rfl (dv _ _)) rfl<|UI (aI (k:=7) bZ rfl rfl rfl) rfl<|UI (aJ rfl rfl (cT _ _ _)) rfl ?_;obtain⟨y1,h38,hF⟩:=J hF;refine UI (aJ rfl rfl ((cK _ _ _).trans (cI h38))) rfl ?_;refine wz ?_;cases hF;exact aT () (UT (UP (k:=17) rfl) (UO (0::2::3::4::Vg 8 10) rfl rfl));refine wz ?_;cases hF;exact aT () (UT (UP (k:=17) rfl) (UO (0::2::3::4::Vg 8 10) rfl rfl));rcases r6 with _|v10;rintro⟨⟩;refine At.tr ?_;cases hF;exact ae () [];rintro⟨⟩;refine au ?_;cases hF;exact ae () (Vg 0 14);refine wz ?_;cases hF;exact ae () (Vg 4 9);rcases r9 with _|v9;rintro⟨⟩;refine wz ?_;cases hF;exact ae () [];rintro⟨⟩;refine au ?_;rcases U hF with⟨h39,hF⟩|⟨h39,hF⟩;refine au ?_;cases hF;exact ae () [];refine wz ?_;cases hF;exact ae () (Vg 0 9);rcases r5 with _|_;rintro⟨⟩;refine au ?_;cases hF;exact ae () (Vg 0 9);rintro⟨⟩;refine At.tr ?_;cases hF;exact ae () [];refine wz ?_;cases hF;exact ae () [];rcases r7 with _|_;rintro⟨⟩;refine wz ?_;cases hF;exact ar () [];rintro⟨⟩;refine gB ?_;cases hF;exact ar () []
end
end Go.Proofs.Ytmndpgfbkicndaa
namespace Jd
abbrev P2:=Rat×Rat
def tn(a b c:P2):Rat:=(b.1-a.1)*(c.2-a.2)-(b.2-a.2)*(c.1-a.1)
def af(α β γ:Rat)(x:P2):Rat:=α*x.1+β*x.2+γ
def Sep(a b p q:P2):Prop:=∃α β γ,0<af α β γ a/\0<af α β γ b/\af α β γ p<0/\af α β γ q<0
def Sep.ab{a b p q:P2}(h:Sep a b p q):Sep b a p q:=let⟨α,β,γ,h1,h2,h3,h4⟩:=h;⟨α,β,γ,h2,h1,h3,h4⟩
def Sep.pq{a b p q:P2}(h:Sep a b p q):Sep a b q p:=let⟨α,β,γ,h1,h2,h3,h4⟩:=h;⟨α,β,γ,h1,h2,h4,h3⟩
def bV{x y:Rat}(hx:0<=x)(hy:0<=y):0<=x*y:=Rat.mul_nonneg hx hy
def bo{x y:Rat}(hx:0<x)(hy:0<y):0<x*y:=Rat.mul_pos hx hy
def dc{x y:Rat}(hx:0<=x)(hy:y<=0):x*y<=0:=by
 have:=bV hx (show(0:Rat)<=-y by grind)
 grind
def fF{x y:Rat}(hx:0<x)(hy:y<0):x*y<0:=by
 have:=bo hx (show(0:Rat) < -y by grind)
 grind
def jT(a b p:P2):tn b a p = -tn a b p:=by unfold tn; grind
def we(a b p:P2):Int:=if a.2<=p.2/\p.2<b.2/\0<tn a b p then 1 else if b.2<=p.2/\p.2<a.2/\tn a b p<0 then -1 else 0
def jM{a b p:P2}(h1:a.2<=p.2)(h2:p.2<b.2):we a b p=if 0<tn a b p then 1 else 0:=by
 unfold we
 by_cases h:0<tn a b p
 rw[R7 ⟨h1,h2,h⟩,R7 h]
 rw[R5 (fun e=>h e.2.2),R5 (fun e=>by grind),R5 h]
def eX{a b p:P2}(h1:¬(a.2<=p.2/\p.2<b.2))(h2:¬(b.2<=p.2/\p.2<a.2)):we a b p=0:=by
 unfold we;rw[R5 (fun e=>h1 ⟨e.1,e.2.1⟩),R5 (fun e=>h2 ⟨e.1,e.2.1⟩)]
def lj(a b p:P2):we b a p = -we a b p:=by
 have h:=jT a b p;unfold we
 by_cases h1:a.2<=p.2/\p.2<b.2/\0<tn a b p
 rw[R7 h1,R5 (fun e=>by grind),R7 ⟨h1.1,h1.2.1,by grind⟩]
 by_cases h2:b.2<=p.2/\p.2<a.2/\tn a b p<0
 rw[R5 h1,R7 h2,R7 ⟨h2.1,h2.2.1,by grind⟩]; rfl
 rw[R5 h1,R5 h2,R5 (fun e=>h2 ⟨e.1,e.2.1,by grind⟩),R5 (fun e=>h1 ⟨e.1,e.2.1,by grind⟩)]; rfl
def fz(p q v:P2):Int:=if p.2<v.2/\v.2<=q.2/\tn p q v<0 then 1 else 0
def j5{p q v:P2}(h:¬(p.2<v.2/\v.2<=q.2)):fz p q v=0:=R5 fun e=>h ⟨e.1,e.2.1⟩
def tE{p q v:P2}(h1:p.2<v.2)(h2:v.2<=q.2):fz p q v=if tn p q v<0 then 1 else 0:=by
 unfold fz
 by_cases h:tn p q v<0
 rw[R7 ⟨h1,h2,h⟩,R7 h]
 rw[R5 (fun e=>h e.2.2),R5 h]
section
variable{a b p q:P2}
def L6(α β γ:Rat):tn p q b*af α β γ a-tn p q a*af α β γ b=tn a b p*af α β γ q-tn a b q*af α β γ p:=by
 unfold tn af; grind
def G6(h:Sep a b p q)(h1:0<=tn p q b)(h2:tn p q a<=0)(h3:0<=tn a b p)(h4:tn a b q<=0)(h5:0<tn a b p\/tn a b q<0\/0<tn p q b\/tn p q a<0):False:=by
 obtain⟨α,β,γ,g1,g2,g3,g4⟩:=h;have e:=L6 (a:=a) (b:=b) (p:=p) (q:=q) α β γ;generalize af α β γ a=A at *;generalize af α β γ b=B at *;generalize af α β γ p=C at *;generalize af α β γ q=D at *;generalize tn p q b=Tb at *;generalize tn p q a=Ta at *;generalize tn a b p=Up at *;generalize tn a b q=Uq at *;have k1:0<=Tb*A:=bV h1 (by grind)
 have k2:0<=(-Ta)*B:=bV (by grind) (by grind)
 have k3:0<=Up*(-D):=bV h3 (by grind)
 have k4:0<=(-Uq)*(-C):=bV (by grind) (by grind)
 rcases h5 with h|h|h|h
 have:0<Up*(-D):=bo h (by grind)
 grind
 have:0<(-Uq)*(-C):=bo (by grind) (by grind)
 grind
 have:0<Tb*A:=bo h g1
 grind
 have:0<(-Ta)*B:=bo (by grind) g2
 grind
def Ch(h:Sep a b p q)(h1:tn p q b<=0)(h2:0<=tn p q a)(h3:tn a b p<=0)(h4:0<=tn a b q)(h5:tn a b p<0\/0<tn a b q\/tn p q b<0\/0<tn p q a):False:=by
 have e1:=jT a b p;have e2:=jT a b q;exact G6 h.ab (a:=b) (b:=a) h2 h1 (by grind) (by grind) (by grind)
def i1:(p.2-a.2)*tn p q b+(b.2-p.2)*tn p q a = -((q.2-p.2)*tn a b p):=by unfold tn; grind
def i2:(b.2-p.2)*tn a b q+(q.2-b.2)*tn a b p = -((b.2-a.2)*tn p q b):=by unfold tn; grind
def i3:(q.2-a.2)*tn p q b+(b.2-q.2)*tn p q a = -((q.2-p.2)*tn a b q):=by unfold tn; grind
def i4:(a.2-p.2)*tn a b q+(q.2-a.2)*tn a b p = -((b.2-a.2)*tn p q a):=by unfold tn; grind
def i5:tn a b q-tn a b p=tn p q a-tn p q b:=by unfold tn; grind
def Nl(h:Sep a b p q)(h1:a.2<=p.2)(h2:p.2<b.2)(h3:b.2<=q.2):0<tn a b p↔tn p q b<0:=by
 have e1:=i1 (a:=a) (b:=b) (p:=p) (q:=q);have e2:=i2 (a:=a) (b:=b) (p:=p) (q:=q);have K:=G6 h;have K':=Ch h;clear h;generalize tn p q b=Tb at *;generalize tn p q a=Ta at *;generalize tn a b p=Up at *;generalize tn a b q=Uq at *;have d1:0<=p.2-a.2:=by grind
 have d2:0<b.2-p.2:=by grind
 have d3:0<q.2-p.2:=by grind
 have d4:0<=q.2-b.2:=by grind
 have d5:0<b.2-a.2:=by grind
 generalize p.2-a.2=x1 at *;generalize b.2-p.2=x2 at *;generalize q.2-p.2=x3 at *;generalize q.2-b.2=x4 at *;generalize b.2-a.2=x5 at *;constructor
 intro hu;refine R8 fun ht=>?_;have ht:0<=Tb:=by grind
 have m1:=bV d1 ht;have m2:=bo d3 hu;have ta:Ta<=0:=by
  refine R8 fun hc=>?_;have:=bo d2 (show 0<Ta by grind)
  grind
 have uq:Uq<=0:=by
  refine R8 fun hc=>?_;have m3:=bo d2 (show 0<Uq by grind)
  have m4:=bV d4 (show 0<=Up by grind)
  have m5:=bV (show 0<=x5 by grind) ht
  grind
 exact K ht ta (by grind) uq (.inl hu)
 intro ht;refine R8 fun hu=>?_;have hu:Up<=0:=by grind
 have m1:=dc d1 (show Tb<=0 by grind)
 have m2:=dc (show 0<=x3 by grind) hu
 have ta:0<=Ta:=by
  refine R8 fun hc=>?_;have:=fF d2 (show Ta<0 by grind)
  grind
 have uq:0<=Uq:=by
  refine R8 fun hc=>?_;have m3:=fF d2 (show Uq<0 by grind)
  have m4:=dc d4 hu;have m5:=fF d5 ht
  grind
 exact K' (by grind) ta hu uq (.inr (.inr (.inl ht)))
def NY(h:Sep a b p q)(h1:p.2<a.2)(h2:a.2<=q.2)(h3:q.2<b.2):0<tn a b q↔tn p q a<0:=by
 have e3:=i3 (a:=a) (b:=b) (p:=p) (q:=q);have e4:=i4 (a:=a) (b:=b) (p:=p) (q:=q);have K:=G6 h;have K':=Ch h;clear h;generalize tn p q b=Tb at *;generalize tn p q a=Ta at *;generalize tn a b p=Up at *;generalize tn a b q=Uq at *;have d1:0<=q.2-a.2:=by grind
 have d2:0<b.2-q.2:=by grind
 have d3:0<q.2-p.2:=by grind
 have d4:0<a.2-p.2:=by grind
 have d5:0<b.2-a.2:=by grind
 generalize q.2-a.2=x1 at *;generalize b.2-q.2=x2 at *;generalize q.2-p.2=x3 at *;generalize a.2-p.2=x4 at *;generalize b.2-a.2=x5 at *;constructor
 intro hu;refine R8 fun ht=>?_;have ht:0<=Ta:=by grind
 have m1:=bV (show 0<=x2 by grind) ht
 have m2:=bo d3 hu;have tb:Tb<=0:=by
  refine R8 fun hc=>?_;have:=bV d1 (show 0<=Tb by grind)
  grind
 have up:Up<=0:=by
  refine R8 fun hc=>?_;have m3:=bo d4 hu;have m4:=bV d1 (show 0<=Up by grind)
  have m5:=bV (show 0<=x5 by grind) ht
  grind
 exact K' tb ht up (by grind) (.inr (.inl hu))
 intro ht;refine R8 fun hu=>?_;have hu:Uq<=0:=by grind
 have m2:=dc (show 0<=x3 by grind) hu
 have m1:=fF d2 ht;have tb:0<=Tb:=by
  refine R8 fun hc=>?_;have:=dc d1 (show Tb<=0 by grind)
  grind
 have up:0<=Up:=by
  refine R8 fun hc=>?_;have m3:=dc (show 0<=x4 by grind) hu
  have m4:=dc d1 (show Up<=0 by grind)
  have m5:=fF d5 ht
  grind
 exact K tb (by grind) up hu (.inr (.inr (.inr ht)))
def Pj(h:Sep a b p q)(h1:a.2<=p.2)(h2:p.2<=q.2)(h3:q.2<b.2):0<tn a b p↔0<tn a b q:=by
 have e1:=i1 (a:=a) (b:=b) (p:=p) (q:=q);have e3:=i3 (a:=a) (b:=b) (p:=p) (q:=q);have e5:=i5 (a:=a) (b:=b) (p:=p) (q:=q);have K:=G6 h;have K':=Ch h;clear h;generalize tn p q b=Tb at *;generalize tn p q a=Ta at *;generalize tn a b p=Up at *;generalize tn a b q=Uq at *;have d1:0<=p.2-a.2:=by grind
 have d2:0<b.2-p.2:=by grind
 have d3:0<=q.2-p.2:=by grind
 have d4:0<=q.2-a.2:=by grind
 have d5:0<b.2-q.2:=by grind
 generalize p.2-a.2=x1 at *;generalize b.2-p.2=x2 at *;generalize q.2-p.2=x3 at *;generalize q.2-a.2=x4 at *;generalize b.2-q.2=x5 at *;constructor
 intro hu;refine R8 fun hc=>?_;have hc:Uq<=0:=by grind
 have ta:Ta<=0:=by
  refine R8 fun ht=>?_;have m1:=bV d1 (show 0<=Tb by grind)
  have m2:=bo d2 (show 0<Ta by grind)
  have m3:=bV d3 (show 0<=Up by grind)
  grind
 have tb:0<=Tb:=by
  refine R8 fun ht=>?_;have m1:=dc d4 (show Tb<=0 by grind)
  have m2:=fF d5 (show Ta<0 by grind)
  have m3:=dc d3 hc
  grind
 exact K tb ta (by grind) hc (.inl hu)
 intro hu;refine R8 fun hc=>?_;have hc:Up<=0:=by grind
 have ta:0<=Ta:=by
  refine R8 fun ht=>?_;have m1:=dc d1 (show Tb<=0 by grind)
  have m2:=fF d2 (show Ta<0 by grind)
  have m3:=dc d3 hc
  grind
 have tb:Tb<=0:=by
  refine R8 fun ht=>?_;have m1:=bV d4 (show 0<=Tb by grind)
  have m2:=bo d5 (show 0<Ta by grind)
  have m3:=bV d3 (show 0<=Uq by grind)
  grind
 exact K' tb ta hc (by grind) (.inr (.inl hu))
def J1(h:Sep a b p q)(h0:a.2<=b.2)(h1:p.2<a.2)(h2:b.2<=q.2):tn p q a<0↔tn p q b<0:=by
 have e2:=i2 (a:=a) (b:=b) (p:=p) (q:=q);have e4:=i4 (a:=a) (b:=b) (p:=p) (q:=q);have e5:=i5 (a:=a) (b:=b) (p:=p) (q:=q);have K:=G6 h;have K':=Ch h;clear h;generalize tn p q b=Tb at *;generalize tn p q a=Ta at *;generalize tn a b p=Up at *;generalize tn a b q=Uq at *;have d1:0<b.2-p.2:=by grind
 have d2:0<=q.2-b.2:=by grind
 have d3:0<=b.2-a.2:=by grind
 have d4:0<a.2-p.2:=by grind
 have d5:0<=q.2-a.2:=by grind
 generalize b.2-p.2=x1 at *;generalize q.2-b.2=x2 at *;generalize b.2-a.2=x3 at *;generalize a.2-p.2=x4 at *;generalize q.2-a.2=x5 at *;constructor
 intro ha;refine R8 fun hb=>?_;have hb:0<=Tb:=by grind
 have uq:Uq<=0:=by
  refine R8 fun hc=>?_;have m1:=bo d1 (show 0<Uq by grind)
  have m2:=bV d2 (show 0<=Up by grind)
  have m3:=bV d3 hb
  grind
 have up:0<=Up:=by
  refine R8 fun hc=>?_;have m1:=fF d4 (show Uq<0 by grind)
  have m2:=dc d5 (show Up<=0 by grind)
  have m3:=dc d3 (show Ta<=0 by grind)
  grind
 exact K hb (by grind) up uq (.inr (.inr (.inr ha)))
 intro hb;refine R8 fun ha=>?_;have ha:0<=Ta:=by grind
 have uq:0<=Uq:=by
  refine R8 fun hc=>?_;have m1:=fF d1 (show Uq<0 by grind)
  have m2:=dc d2 (show Up<=0 by grind)
  have m3:=dc d3 (show Tb<=0 by grind)
  grind
 have up:Up<=0:=by
  refine R8 fun hc=>?_;have m1:=bo d4 (show 0<Uq by grind)
  have m2:=bV d5 (show 0<=Up by grind)
  have m3:=bV d3 ha
  grind
 exact K' (by grind) ha up uq (.inr (.inr (.inl hb)))
def nu{c d:Prop}[Decidable c][Decidable d](h:c↔d):(if c then(1:Int) else 0)=if d then 1 else 0:=by
 by_cases hc:c
 rw[R7 hc,R7 (h.1 hc)]
 rw[R5 hc,R5 (fun e=>hc (h.2 e))]
def Ib(h:Sep a b p q)(hpq:p.2<=q.2)(hab:a.2<=b.2):we a b p-we a b q=fz p q b-fz p q a:=by
 by_cases ha:a.2<=p.2
 rw[j5 (v:=a) (by grind)]
 by_cases hb:b.2<=p.2
 rw[j5 (v:=b) (by grind),eX (by grind) (by grind),eX (by grind) (by grind)]
 by_cases hb2:b.2<=q.2
 rw[tE (by grind) hb2,jM ha (by grind),eX (p:=q) (by grind) (by grind),nu (Nl h ha (by grind) hb2)]
 rw[j5 (v:=b) (by grind),jM ha (by grind),jM (p:=q) (by grind) (by grind),nu (Pj h ha hpq (by grind))]
 omega
 rw[eX (p:=p) (by grind) (by grind)]
 by_cases ha2:a.2<=q.2
 rw[tE (v:=a) (by grind) ha2]
 by_cases hb2:b.2<=q.2
 rw[tE (v:=b) (by grind) hb2,eX (p:=q) (by grind) (by grind),nu (J1 h hab (by grind) hb2)]
 omega
 rw[j5 (v:=b) (by grind),jM (p:=q) ha2 (by grind),nu (NY h (by grind) ha2 (by grind))]
 rw[j5 (v:=a) (by grind),j5 (v:=b) (by grind),eX (p:=q) (by grind) (by grind)]
def Gx(h:Sep a b p q)(hpq:p.2<=q.2):we a b p-we a b q=fz p q b-fz p q a:=by
 by_cases hab:a.2<=b.2
 exact Ib h hpq hab
 have:=Ib h.ab hpq (by grind)
 rw[lj b a p,lj b a q];omega
end
def aZ:Nat->(Nat->Int)->Int
 | 0,_=>0
 | n+1,f=>aZ n f+f n
def aE{n:Nat}{f g:Nat->Int}(h:∀i,i<n->f i=g i):aZ n f=aZ n g:=by
 induction n with
 | zero=>rfl
 | succ n ih=>simp only[aZ]; rw[ih fun i hi=>h i (by omega),h n (by omega)]
def fU(n:Nat)(f g:Nat->Int):aZ n (fun i=>f i-g i)=aZ n f-aZ n g:=by
 induction n with
 | zero=>rfl
 | succ n ih=>simp only[aZ]; rw[ih]; omega
def kH(n:Nat)(f:Nat->Int):aZ n (fun i=>f (i+1)-f i)=f n-f 0:=by
 induction n with
 | zero=>simp[aZ]
 | succ n ih=>simp only[aZ]; rw[ih]; omega
def bR{n:Nat}{f:Nat->Int}(h:∀i,i<n->f i=0):aZ n f=0:=by
 induction n with
 | zero=>rfl
 | succ n ih=>simp only[aZ]; rw[ih fun i hi=>h i (by omega),h n (by omega)]; rfl
def fp{n k:Nat}{f:Nat->Int}(hk:k<n)(h:∀i,i<n->i≠k->f i=0):aZ n f=f k:=by
 induction n with
 | zero=>omega
 | succ n ih =>
  simp only[aZ]
  by_cases e:k=n
  subst e;rw[bR fun i hi=>h i (by omega) (by omega)]; omega
  rw[ih (by omega) (fun i hi hn=>h i (by omega) hn),h n (by omega) (by omega)]; omega
def cv(u w:P2)(t:Rat):P2:=(u.1+t*(w.1-u.1),u.2+t*(w.2-u.2))
def sm(p d:P2)(x:Rat):P2:=(p.1+x*d.1,p.2+x*d.2)
def cr(u w d:P2):Rat:=(w.1-u.1)*d.2-(w.2-u.2)*d.1
def dt(u w x:P2):Rat:=(w.1-u.1)*(x.1-w.1)+(w.2-u.2)*(x.2-w.2)
def gi{A B:Rat}(ha:0<A)(hb:0<B):∃k:Rat,0<k/\k<A/\k<B:=by
 by_cases h:A<=B
 exact⟨A/2,by grind,by grind,by grind⟩
 exact⟨B/2,by grind,by grind,by grind⟩
def oJ{a b p q:P2}(α β γ:Rat)(h1:0<=af α β γ a)(h2:0<=af α β γ b)(h3:af α β γ p<0)(h4:af α β γ q<0):Sep a b p q:=by
 obtain⟨k,k1,k2,k3⟩:=gi (show 0 < -af α β γ p by grind) (show 0 < -af α β γ q by grind)
 refine⟨α,β,γ+k,?_,?_,?_,?_⟩<;>(unfold af at *; grind)
def CD{a b u w:P2}(h:Sep a b u w){t s:Rat}(t0:0<=t)(t1:t<=1)(s0:0<=s)(s1:s<=1):Sep a b (cv u w t) (cv u w s):=by
 obtain⟨α,β,γ,h1,h2,h3,h4⟩:=h;have key:∀t:Rat,0<=t->t<=1->af α β γ (cv u w t)<0:=by
  intro t t0 t1;have e:af α β γ (cv u w t)=(1-t)*af α β γ u+t*af α β γ w:=by unfold af cv; grind
  rw[e];have m1:=dc (show 0<=1-t by grind) (show af α β γ u<=0 by grind)
  have m2:=dc t0 (show af α β γ w<=0 by grind)
  by_cases ht:0<t
  have:=fF ht h4
  grind
  have:=fF (show 0<1-t by grind) h3
  grind
 exact⟨α,β,γ,h1,h2,key t t0 t1,key s s0 s1⟩
def sq_pos{x:Rat}(h:x≠0):0<x*x:=by
 by_cases hx:0<x
 exact bo hx hx
 have:=bo (show 0 < -x by grind) (show 0 < -x by grind)
 grind
def CH(x:Rat):0<=x*x:=by
 by_cases hx:0<=x
 exact bV hx hx
 have:=bV (show 0<=-x by grind) (show 0<=-x by grind)
 grind
def yv{u w:P2}(h:u≠w):0<(w.1-u.1)*(w.1-u.1)+(w.2-u.2)*(w.2-u.2):=by
 have n1:=CH (w.1-u.1);have n2:=CH (w.2-u.2)
 by_cases h1:w.1-u.1=0
 have h2:w.2-u.2≠0:=fun e=>h (SO (by grind) (by grind))
 have:=sq_pos h2
 grind
 have:=sq_pos h1
 grind
def Gu{u w x:P2}(hne:u≠w)(hc:tn u w x≠0\/0<dt u w x){t s:Rat}(t1:t<1)(s1:s<1):Sep w x (cv u w t) (cv u w s):=by
 have e:∀t:Rat,af (-(x.2-w.2)) (x.1-w.1) ((x.2-w.2)*w.1-(x.1-w.1)*w.2) (cv u w t)=(1-t)*tn u w x:=fun t=>by unfold af cv tn; grind
 have f:∀t:Rat,af (x.2-w.2) (-(x.1-w.1)) (-((x.2-w.2)*w.1-(x.1-w.1)*w.2)) (cv u w t) = -((1-t)*tn u w x):=fun t=>by unfold af cv tn; grind
 have g:∀t:Rat,af (w.1-u.1) (w.2-u.2) (-((w.1-u.1)*w.1+(w.2-u.2)*w.2)) (cv u w t) = -((1-t)*((w.1-u.1)*(w.1-u.1)+(w.2-u.2)*(w.2-u.2))):=fun t=>by unfold af cv; grind
 by_cases h0:tn u w x=0
 have hd:0<dt u w x:=hc.resolve_left fun h=>h h0;have hl:=yv hne;refine oJ (w.1-u.1) (w.2-u.2) (-((w.1-u.1)*w.1+(w.2-u.2)*w.2)) ?_ ?_ ?_ ?_
 unfold af; grind
 unfold dt at hd; unfold af; grind
 rw[g]; have:=bo (show 0<1-t by grind) hl; grind
 rw[g]; have:=bo (show 0<1-s by grind) hl; grind
 by_cases hp:0<tn u w x
 refine oJ (x.2-w.2) (-(x.1-w.1)) (-((x.2-w.2)*w.1-(x.1-w.1)*w.2)) ?_ ?_ ?_ ?_
 unfold af; grind
 unfold af; grind
 rw[f]; have:=bo (show 0<1-t by grind) hp; grind
 rw[f]; have:=bo (show 0<1-s by grind) hp; grind
 have hm:tn u w x<0:=by grind
 refine oJ (-(x.2-w.2)) (x.1-w.1) ((x.2-w.2)*w.1-(x.1-w.1)*w.2) ?_ ?_ ?_ ?_
 unfold af; grind
 unfold af; grind
 rw[e]; exact fF (show 0<1-t by grind) hm
 rw[e]; exact fF (show 0<1-s by grind) hm
def yM{x u w:P2}(hc:tn x u w≠0\/0<dt x u w){t s:Rat}(t0:0<t)(s0:0<s):Sep x u (cv u w t) (cv u w s):=by
 have e:∀t:Rat,af (-(u.2-x.2)) (u.1-x.1) ((u.2-x.2)*x.1-(u.1-x.1)*x.2) (cv u w t)=t*tn x u w:=fun t=>by unfold af cv tn; grind
 have f:∀t:Rat,af (u.2-x.2) (-(u.1-x.1)) (-((u.2-x.2)*x.1-(u.1-x.1)*x.2)) (cv u w t) = -(t*tn x u w):=fun t=>by unfold af cv tn; grind
 have g:∀t:Rat,af (-(u.1-x.1)) (-(u.2-x.2)) ((u.1-x.1)*u.1+(u.2-x.2)*u.2) (cv u w t) = -(t*dt x u w):=fun t=>by unfold af cv dt; grind
 by_cases h0:tn x u w=0
 have hd:0<dt x u w:=hc.resolve_left fun h=>h h0;have n1:=CH (u.1-x.1);have n2:=CH (u.2-x.2);refine oJ (-(u.1-x.1)) (-(u.2-x.2)) ((u.1-x.1)*u.1+(u.2-x.2)*u.2) ?_ ?_ ?_ ?_
 unfold af; grind
 unfold af; grind
 rw[g]; have:=bo t0 hd; grind
 rw[g]; have:=bo s0 hd; grind
 by_cases hp:0<tn x u w
 refine oJ (u.2-x.2) (-(u.1-x.1)) (-((u.2-x.2)*x.1-(u.1-x.1)*x.2)) ?_ ?_ ?_ ?_
 unfold af; grind
 unfold af; grind
 rw[f]; have:=bo t0 hp; grind
 rw[f]; have:=bo s0 hp; grind
 have hm:tn x u w<0:=by grind
 refine oJ (-(u.2-x.2)) (u.1-x.1) ((u.2-x.2)*x.1-(u.1-x.1)*x.2) ?_ ?_ ?_ ?_
 unfold af; grind
 unfold af; grind
 rw[e]; exact fF t0 hm
 rw[e]; exact fF s0 hm
def Ev(P:Rat->Rat->Prop):Prop:=∃e:Rat,0<e/\∀x y,0<x->x<=e->0<y->y<=e->P x y
def Ev.and{P Q:Rat->Rat->Prop}(h:Ev P)(g:Ev Q):Ev fun x y=>P x y/\Q x y:=by
 obtain⟨e,e0,h⟩:=h;obtain⟨f,f0,g⟩:=g
 by_cases hl:e<=f
 exact⟨e,e0,fun x y a b c d=>⟨h x y a b c d,g x y a (by grind) c (by grind)⟩⟩
 exact⟨f,f0,fun x y a b c d=>⟨h x y a (by grind) c (by grind),g x y a b c d⟩⟩
def Ev.mono{P Q:Rat->Rat->Prop}(h:Ev P)(g:∀x y,0<x->0<y->P x y->Q x y):Ev Q :=
 let⟨e,e0,h⟩:=h
 ⟨e,e0,fun x y a b c d=>g x y a c (h x y a b c d)⟩
def Ev.of{P:Rat->Rat->Prop}(h:∀x y,0<x->0<y->P x y):Ev P:=⟨1,by grind,fun x y a _ c _=>h x y a c⟩
def Ev.all{P:Nat->Rat->Rat->Prop}:∀{n:Nat},(∀i,i<n->Ev (P i))->Ev fun x y=>∀i,i<n->P i x y
 | 0,_=>Ev.of fun _ _ _ _ i hi=>by omega
 | n+1,h=>by
  have h1:=Ev.all (P:=P) (n:=n) fun i hi=>h i (by omega)
  refine(h1.and (h n (by omega))).mono fun x y _ _ g i hi=>?_
  by_cases e:i=n
  subst e; exact g.2
  exact g.1 i (by omega)
def xy{A:Rat}(h:A<0)(B:Rat):∃e:Rat,0<e/\∀x,0<x->x<=e->A+x*B<0:=by
 by_cases hb:B<=0
 exact⟨1,by grind,fun x hx _=>by have:=dc (show 0<=x by grind) hb; grind⟩
 have hb0:B≠0:=by grind
 have hi:B*B⁻¹=1:=Uj B hb0;have e1:(-A/2*B⁻¹)*B = -A/2:=by grind
 have hpos:0 < -A/2*B⁻¹:=by
  refine R8 fun hc=>?_;have:=bV (show 0<=-(-A/2*B⁻¹) by grind) (show 0<=B by grind)
  grind
 refine⟨-A/2*B⁻¹,hpos,fun x hx hl=>?_⟩;have:=bV (show 0<=-A/2*B⁻¹-x by grind) (show 0<=B by grind)
 grind
def xB{a b p q:P2}(h:Sep a b p q)(d d':P2):Ev fun x y=>Sep a b (sm p d x) (sm q d' y):=by
 obtain⟨α,β,γ,h1,h2,h3,h4⟩:=h;obtain⟨e,e0,he⟩:=xy h3 (α*d.1+β*d.2);obtain⟨f,f0,hf⟩:=xy h4 (α*d'.1+β*d'.2);have k1:∀x,af α β γ (sm p d x)=af α β γ p+x*(α*d.1+β*d.2):=fun x=>by unfold af sm; grind
 have k2:∀x,af α β γ (sm q d' x)=af α β γ q+x*(α*d'.1+β*d'.2):=fun x=>by unfold af sm; grind
 obtain⟨g,g0,ge,gf⟩:=gi e0 f0;exact⟨g,g0,fun x y x0 xg y0 yg=>⟨α,β,γ,h1,h2,by rw[k1]; exact he x x0 (by grind),by rw[k2]; exact hf y y0 (by grind)⟩⟩
structure Simple(n:Nat)(v:Nat->P2):Prop where
 n3:2<n
 cl:v n=v 0
 cl1:v (n+1)=v 1
 ne:∀i,i<n->v i≠v (i+1)
 aq:∀i,i<n->tn (v i) (v (i+1)) (v (i+2))≠0\/0<dt (v i) (v (i+1)) (v (i+2))
 sep:∀i j,i<n->j<n->i≠j->j≠i+1->i≠j+1->¬(i=0/\j+1=n)->¬(j=0/\i+1=n)->Sep (v i) (v (i+1)) (v j) (v (j+1))
def W(n:Nat)(v:Nat->P2)(p:P2):Int:=aZ n fun i=>we (v i) (v (i+1)) p
section
variable{n:Nat}{v:Nat->P2}
def Bf(hv:v n=v 0)(p q:P2):W n v p-W n v q=aZ n fun i=>(we (v i) (v (i+1)) p-we (v i) (v (i+1)) q)-(fz p q (v (i+1))-fz p q (v i)):=by
 have h1:=fU n (fun i=>we (v i) (v (i+1)) p-we (v i) (v (i+1)) q) (fun i=>fz p q (v (i+1))-fz p q (v i));have h2:=kH n fun i=>fz p q (v i);have h3:=fU n (fun i=>we (v i) (v (i+1)) p) fun i=>we (v i) (v (i+1)) q;rw[hv] at h2;rw[h1,h2,h3];unfold W; omega
def yj(hv:v n=v 0){p q:P2}(h:∀i,i<n->Sep (v i) (v (i+1)) p q):W n v p=W n v q:=by
 by_cases hl:p.2<=q.2
 have:=Bf hv p q;rw[bR fun i hi=>by rw[Gx (h i hi) hl]; omega] at this
 omega
 have:=Bf hv q p;rw[bR fun i hi=>by rw[Gx (h i hi).pq (by grind)]; omega] at this
 omega
def Dn(hv:v n=v 0){k:Nat}(hk:k<n){p q:P2}(hl:p.2<=q.2)(h:∀i,i<n->i≠k->Sep (v i) (v (i+1)) p q) :
  W n v p-W n v q=(we (v k) (v (k+1)) p-we (v k) (v (k+1)) q)-(fz p q (v (k+1))-fz p q (v k)):=by
 rw[Bf hv p q];exact fp hk fun i hi hn=>by rw[Gx (h i hi hn) hl]; omega
def Simple.off(S:Simple n v){i j:Nat}(hi:i<n)(hj:j<n)(hij:i≠j){t s:Rat}(t0:0<=t)(t1:t<=1)(s0:0<=s)(s1:s<=1)
  (hn:j=i+1\/(i+1=n/\j=0)->t<1/\s<1) (hp:i=j+1\/(j+1=n/\i=0)->0<t/\0<s):Sep (v j) (v (j+1)) (cv (v i) (v (i+1)) t) (cv (v i) (v (i+1)) s):=by
 have hn3:=S.n3
 by_cases h1:j=i+1\/(i+1=n/\j=0)
 obtain⟨a,b⟩:=hn h1;have e:v j=v (i+1)/\v (j+1)=v (i+2):=by
  rcases h1 with rfl|⟨h,rfl⟩
  exact⟨rfl,rfl⟩
  have:i+2=n+1:=by omega
  rw[this,S.cl1,h,S.cl]; exact⟨rfl,rfl⟩
 rw[e.1,e.2];exact Gu (S.ne i hi) (S.aq i hi) a b
 by_cases h2:i=j+1\/(j+1=n/\i=0)
 obtain⟨a,b⟩:=hp h2;have e:v (j+1)=v i/\v (j+2)=v (i+1):=by
  rcases h2 with rfl|⟨h,rfl⟩
  exact⟨rfl,rfl⟩
  have:j+2=n+1:=by omega
  rw[this,S.cl1,h,S.cl]; exact⟨rfl,rfl⟩
 have:=S.aq j hj;rw[e.1,e.2] at this;rw[e.1];exact yM this a b
 exact CD (S.sep j i hj hi (by omega) (by omega) (by omega) (by omega) (by omega)) t0 t1 s0 s1
def oj(u w d:P2)(t x:Rat):tn u w (sm (cv u w t) d x)=x*cr u w d:=by unfold tn sm cv cr; grind
def gy{u w p q:P2}{σ:Rat}(h1:0 < σ*tn u w p)(h2:0 < σ*tn u w q):Sep u w p q:=by
 refine oJ (σ*(w.2-u.2)) (-(σ*(w.1-u.1))) (-(σ*((w.2-u.2)*u.1-(w.1-u.1)*u.2))) ?_ ?_ ?_ ?_
 unfold af; grind
 unfold af; grind
 unfold tn at h1; unfold af; grind
 unfold tn at h2; unfold af; grind
def Simple.beside(S:Simple n v){σ:Rat}{i:Nat}(hi:i<n){t s:Rat}(t0:0<t)(t1:t<1)(s0:0<s)(s1:s<1){d d':P2}(h:0 < σ*cr (v i) (v (i+1)) d)(h':0 < σ*cr (v i) (v (i+1)) d') :
  Ev fun x y=>W n v (sm (cv (v i) (v (i+1)) t) d x)=W n v (sm (cv (v i) (v (i+1)) s) d' y):=by
 have hE:Ev fun x y=>∀j,j<n->Sep (v j) (v (j+1)) (sm (cv (v i) (v (i+1)) t) d x) (sm (cv (v i) (v (i+1)) s) d' y):=by
  refine Ev.all fun j hj=>?_
  by_cases e:i=j
  subst e;refine Ev.of fun x y hx hy=>gy (σ:=σ) ?_ ?_
  rw[oj]; have:=bo hx h; grind
  rw[oj]; have:=bo hy h'; grind
  exact xB (S.off hi hj e (by grind) (by grind) (by grind) (by grind) (fun _=>⟨t1,s1⟩) (fun _=>⟨t0,s0⟩)) d d'
 exact hE.mono fun x y _ _ h=>yj S.cl h
def HS(n:Nat)(v:Nat->P2)(σ:Rat)(i:Nat)(L:Int):Prop:=∀t d,0<t->t<1->0 < σ*cr (v i) (v (i+1)) d->∃e:Rat,0<e/\∀x,0<x->x<=e->W n v (sm (cv (v i) (v (i+1)) t) d x)=L
def Simple.hs(S:Simple n v){σ:Rat}(hσ:σ≠0){i:Nat}(hi:i<n):∃L,HS n v σ i L:=by
 have hl:=yv (S.ne i hi)
 let d0:P2:=(-(σ*((v (i+1)).2-(v i).2)),σ*((v (i+1)).1-(v i).1))
 have h0:0 < σ*cr (v i) (v (i+1)) d0:=by
  have:=bo (sq_pos hσ) hl;have e:σ*cr (v i) (v (i+1)) d0=σ*σ*(((v (i+1)).1-(v i).1)*((v (i+1)).1-(v i).1)+((v (i+1)).2-(v i).2)*((v (i+1)).2-(v i).2)):=by
   show σ*(((v (i+1)).1-(v i).1)*(σ*((v (i+1)).1-(v i).1))-((v (i+1)).2-(v i).2)*(-(σ*((v (i+1)).2-(v i).2))))=_
   grind
  rw[e]; exact this
 obtain⟨e,e0,he⟩:=S.beside (σ:=σ) hi (t:=1/2) (s:=1/2) (by grind) (by grind) (by grind) (by grind) h0 h0
 refine⟨W n v (sm (cv (v i) (v (i+1)) (1/2)) d0 e),fun t d t0 t1 hd=>?_⟩;obtain⟨f,f0,hf⟩:=S.beside (σ:=σ) hi (t:=t) (s:=1/2) t0 t1 (by grind) (by grind) hd h0
 obtain⟨g,g0,ge,gf⟩:=gi e0 f0;refine⟨f,f0,fun x x0 x1=>?_⟩;rw[hf x g x0 x1 g0 (by grind),he g e g0 (by grind) e0 (by grind)]
def Simple.zY(S:Simple n v){i:Nat}(hi:i<n){L R:Int}(hL:HS n v 1 i L)(hR:HS n v (-1) i R):L=R+1:=by
 have hne:=S.ne i hi;have eoff:∀d d':P2,Ev fun x y=>∀j,j<n->j≠i->Sep (v j) (v (j+1)) (sm (cv (v i) (v (i+1)) (1/2)) d x) (sm (cv (v i) (v (i+1)) (1/2)) d' y):=fun d d' =>
  Ev.all (P:=fun j x y=>j≠i->Sep (v j) (v (j+1)) (sm (cv (v i) (v (i+1)) (1/2)) d x) (sm (cv (v i) (v (i+1)) (1/2)) d' y)) fun j hj=>by
   by_cases e:j=i
   exact Ev.of fun _ _ _ _ h=>Sw e h
   exact(xB (S.off hi hj (Ne.symm e) (t:=1/2) (s:=1/2) (by grind) (by grind) (by grind) (by grind) (fun _=>⟨by grind,by grind⟩) (fun _=>⟨by grind,by grind⟩)) d d').mono fun x y _ _ h _=>h
 have pick:∀d d':P2,0<cr (v i) (v (i+1)) d->0 < -cr (v i) (v (i+1)) d'->∃x:Rat,0<x/\W n v (sm (cv (v i) (v (i+1)) (1/2)) d x)=L/\W n v (sm (cv (v i) (v (i+1)) (1/2)) d' x)=R /\
   (∀j,j<n->j≠i->Sep (v j) (v (j+1)) (sm (cv (v i) (v (i+1)) (1/2)) d x) (sm (cv (v i) (v (i+1)) (1/2)) d' x))/\∀B:Rat,B<0->True:=by
  intro d d' hd hd';obtain⟨e,e0,he⟩:=hL (1/2) d (by grind) (by grind) (by grind)
  obtain⟨f,f0,hf⟩:=hR (1/2) d' (by grind) (by grind) (by grind)
  obtain⟨g,g0,hg⟩:=eoff d d';obtain⟨k,k0,ke,kf⟩:=gi e0 f0;obtain⟨m,m0,mk,mg⟩:=gi k0 g0;exact⟨m,m0,he m m0 (by grind),hf m m0 (by grind),hg m m m0 (by grind) m0 (by grind),fun _ _=>trivial⟩
 generalize hu:v i=u at *;generalize hw:v (i+1)=w at *
 by_cases h0:w.2=u.2
 
 have h1:w.1≠u.1:=fun e=>hne (SO e.symm h0.symm)
 by_cases hp:u.1<w.1
 obtain⟨x,x0,xL,xR,xs,_⟩:=pick (0,1) (0,-1) (by unfold cr; grind) (by unfold cr; grind)
 have k:=Dn S.cl hi (p:=sm (cv u w (1/2)) (0,-1) x) (q:=sm (cv u w (1/2)) (0,1) x) (by unfold sm; grind) fun j hj hn=>(xs j hj hn).pq
 rw[hu,hw,eX (by unfold sm cv; grind) (by unfold sm cv; grind),eX (by unfold sm cv; grind) (by unfold sm cv; grind),tE (v:=w) (by unfold sm cv; grind) (by unfold sm cv; grind),tE (v:=u) (by unfold sm cv; grind) (by unfold sm cv; grind)] at k
 have t1:tn (sm (cv u w (1/2)) (0,-1) x) (sm (cv u w (1/2)) (0,1) x) w = -(x*(w.1-u.1)):=by unfold tn sm cv; grind
 have t2:tn (sm (cv u w (1/2)) (0,-1) x) (sm (cv u w (1/2)) (0,1) x) u=x*(w.1-u.1):=by unfold tn sm cv; grind
 have m:=bo x0 (show 0<w.1-u.1 by grind)
 rw[t1,t2,R7 (by grind),R5 (by grind),xL,xR] at k
 omega
 obtain⟨x,x0,xL,xR,xs,_⟩:=pick (0,-1) (0,1) (by unfold cr; grind) (by unfold cr; grind)
 have k:=Dn S.cl hi (p:=sm (cv u w (1/2)) (0,-1) x) (q:=sm (cv u w (1/2)) (0,1) x) (by unfold sm; grind) fun j hj hn=>xs j hj hn
 rw[hu,hw,eX (by unfold sm cv; grind) (by unfold sm cv; grind),eX (by unfold sm cv; grind) (by unfold sm cv; grind),tE (v:=w) (by unfold sm cv; grind) (by unfold sm cv; grind),tE (v:=u) (by unfold sm cv; grind) (by unfold sm cv; grind)] at k
 have t1:tn (sm (cv u w (1/2)) (0,-1) x) (sm (cv u w (1/2)) (0,1) x) w=x*(u.1-w.1):=by unfold tn sm cv; grind
 have t2:tn (sm (cv u w (1/2)) (0,-1) x) (sm (cv u w (1/2)) (0,1) x) u = -(x*(u.1-w.1)):=by unfold tn sm cv; grind
 have m:=bo x0 (show 0<u.1-w.1 by grind)
 rw[t1,t2,R5 (by grind),R7 (by grind),xL,xR] at k
 omega
 by_cases hp:u.2<w.2
 obtain⟨x,x0,xL,xR,xs,_⟩:=pick (-1,0) (1,0) (by unfold cr; grind) (by unfold cr; grind)
 have k:=Dn S.cl hi (p:=sm (cv u w (1/2)) (-1,0) x) (q:=sm (cv u w (1/2)) (1,0) x) (by unfold sm; grind) fun j hj hn=>xs j hj hn
 rw[j5 (by unfold sm; grind),j5 (by unfold sm; grind),hu,hw,jM (by unfold sm cv; grind) (by unfold sm cv; grind),jM (by unfold sm cv; grind) (by unfold sm cv; grind),oj,oj] at k
 have m:=bo x0 (show 0<w.2-u.2 by grind)
 rw[R7 (by unfold cr; grind),R5 (by unfold cr; grind),xL,xR] at k
 omega
 obtain⟨x,x0,xL,xR,xs,_⟩:=pick (1,0) (-1,0) (by unfold cr; grind) (by unfold cr; grind)
 have k:=Dn S.cl hi (p:=sm (cv u w (1/2)) (-1,0) x) (q:=sm (cv u w (1/2)) (1,0) x) (by unfold sm; grind) fun j hj hn=>(xs j hj hn).pq
 have e1:=lj w u (sm (cv u w (1/2)) (-1,0) x);have e2:=lj w u (sm (cv u w (1/2)) (1,0) x);rw[jM (a:=w) (b:=u) (by unfold sm cv; grind) (by unfold sm cv; grind),jT u w,oj] at e1
 rw[jM (a:=w) (b:=u) (by unfold sm cv; grind) (by unfold sm cv; grind),jT u w,oj] at e2
 have m:=bo x0 (show 0<u.2-w.2 by grind)
 rw[R7 (by unfold cr; grind)] at e1
 rw[R5 (by unfold cr; grind)] at e2
 rw[j5 (by unfold sm; grind),j5 (by unfold sm; grind),hu,hw,e1,e2,xL,xR] at k
 omega
def Simple.BU(S:Simple n v){σ:Rat}{i:Nat}(hi:i+1<n){d:P2}(hd:0 < σ*cr (v i) (v (i+1)) d)(hd':0 < σ*cr (v (i+1)) (v (i+2)) d)(hs:0<=σ*tn (v i) (v (i+1)) (v (i+2)))
  {L L':Int} (h:HS n v σ i L) (h':HS n v σ (i+1) L'):L=L':=by
 have hn3:=S.n3;have e1:Ev fun x y=>∀j,j<n->Sep (v j) (v (j+1)) (sm (cv (v i) (v (i+1)) (1/2)) d x) (sm (cv (v i) (v (i+1)) 1) d y):=by
  refine Ev.all fun j hj=>?_
  by_cases e:i=j
  subst e;refine Ev.of fun x y hx hy=>gy (σ:=σ) ?_ ?_
  rw[oj]; have:=bo hx hd; grind
  rw[oj]; have:=bo hy hd; grind
  by_cases e':j=i+1
  subst e';refine Ev.of fun x y hx hy=>gy (σ:=σ) ?_ ?_
  have m1:=bo hx hd';have:σ*tn (v (i+1)) (v (i+1+1)) (sm (cv (v i) (v (i+1)) (1/2)) d x)=1/2*(σ*tn (v i) (v (i+1)) (v (i+2)))+x*(σ*cr (v (i+1)) (v (i+2)) d):=by
   unfold tn sm cv cr; grind
  rw[this]; grind
  have m1:=bo hy hd';have:σ*tn (v (i+1)) (v (i+1+1)) (sm (cv (v i) (v (i+1)) 1) d y)=y*(σ*cr (v (i+1)) (v (i+2)) d):=by
   unfold tn sm cv cr; grind
  rw[this]; exact m1
  exact xB (S.off (by omega) hj e (by grind) (by grind) (by grind) (by grind) (fun h=>by omega) (fun _=>⟨by grind,by grind⟩)) d d
 have e2:Ev fun x y=>∀j,j<n->Sep (v j) (v (j+1)) (sm (cv (v (i+1)) (v (i+2)) (1/2)) d x) (sm (cv (v (i+1)) (v (i+2)) 0) d y):=by
  refine Ev.all fun j hj=>?_
  by_cases e:j=i+1
  subst e;refine Ev.of fun x y hx hy=>gy (σ:=σ) ?_ ?_
  rw[oj]; have:=bo hx hd'; grind
  rw[oj]; have:=bo hy hd'; grind
  by_cases e':j=i
  subst e';refine Ev.of fun x y hx hy=>gy (σ:=σ) ?_ ?_
  have m1:=bo hx hd;have:σ*tn (v j) (v (j+1)) (sm (cv (v (j+1)) (v (j+2)) (1/2)) d x)=1/2*(σ*tn (v j) (v (j+1)) (v (j+2)))+x*(σ*cr (v j) (v (j+1)) d):=by
   unfold tn sm cv cr; grind
  rw[this]; grind
  have m1:=bo hy hd;have:σ*tn (v j) (v (j+1)) (sm (cv (v (j+1)) (v (j+2)) 0) d y)=y*(σ*cr (v j) (v (j+1)) d):=by
   unfold tn sm cv cr; grind
  rw[this]; exact m1
  exact xB (S.off (i:=i+1) hi hj (Ne.symm e) (by grind) (by grind) (by grind) (by grind) (fun _=>⟨by grind,by grind⟩) (fun h=>by omega)) d d
 obtain⟨a,a0,ha⟩:=e1;obtain⟨b,b0,hb⟩:=e2;obtain⟨f,f0,hf⟩:=h (1/2) d (by grind) (by grind) hd
 obtain⟨g,g0,hg⟩:=h' (1/2) d (by grind) (by grind) hd'
 obtain⟨k,k0,ka,kb⟩:=gi a0 b0;obtain⟨l,l0,lf,lg⟩:=gi f0 g0;obtain⟨x,x0,xk,xl⟩:=gi k0 l0;have w1:=yj S.cl (ha x x x0 (by grind) x0 (by grind))
 have w2:=yj S.cl (hb x x x0 (by grind) x0 (by grind))
 rw[hf x x0 (by grind)] at w1
 rw[hg x x0 (by grind)] at w2
 have e:cv (v i) (v (i+1)) 1=cv (v (i+1)) (v (i+2)) 0:=by unfold cv; exact SO (by grind) (by grind)
 rw[w1,w2,e]
def Simple.step(S:Simple n v){i:Nat}(hi:i+1<n){L L':Int}(h:HS n v 1 i L)(h':HS n v 1 (i+1) L'):L=L':=by
 have hne:=S.ne i (by omega)
 have ht:=S.aq i (by omega)
 have c1:cr (v i) (v (i+1)) ((v (i+2)).1-(v (i+1)).1-((v (i+1)).1-(v i).1),(v (i+2)).2-(v (i+1)).2-((v (i+1)).2-(v i).2))=tn (v i) (v (i+1)) (v (i+2)):=by unfold cr tn; grind
 have c2:cr (v (i+1)) (v (i+2)) ((v (i+2)).1-(v (i+1)).1-((v (i+1)).1-(v i).1),(v (i+2)).2-(v (i+1)).2-((v (i+1)).2-(v i).2))=tn (v i) (v (i+1)) (v (i+2)):=by unfold cr tn; grind
 by_cases h0:tn (v i) (v (i+1)) (v (i+2))=0
 have hd:0<dt (v i) (v (i+1)) (v (i+2)):=ht.resolve_left fun e=>e h0;have hl:=yv hne;refine S.BU (σ:=1) hi (d:=(-((v (i+1)).2-(v i).2),(v (i+1)).1-(v i).1)) ?_ ?_ (by rw[h0]; grind) h h'
 unfold cr; grind
 unfold dt at hd; unfold cr; grind
 by_cases hp:0<tn (v i) (v (i+1)) (v (i+2))
 exact S.BU (σ:=1) hi (by rw[c1]; grind) (by rw[c2]; grind) (by grind) h h'
 obtain⟨R,hR⟩:=S.hs (σ:=-1) (by grind) (i:=i) (by omega)
 obtain⟨R',hR'⟩:=S.hs (σ:=-1) (by grind) (i:=i+1) (by omega)
 have e:=S.BU (σ:=-1) hi (by rw[c1]; grind) (by rw[c2]; grind) (by grind) hR hR'
 have e1:=S.zY (by omega) h hR
 have e2:=S.zY hi h' hR';omega
def Simple.along(S:Simple n v):∃L:Int,∀i,i<n->HS n v 1 i L/\HS n v (-1) i (L-1):=by
 have hn3:=S.n3;obtain⟨L,hL⟩:=S.hs (σ:=1) (by grind) (i:=0) (by omega)
 have h1:∀i,i<n->HS n v 1 i L:=by
  intro i
  induction i with
  | zero=>intro _; exact hL
  | succ i ih =>
   intro hi;obtain⟨L',hL'⟩:=S.hs (σ:=1) (by grind) (i:=i+1) hi
   have:=S.step hi (ih (by omega)) hL'
   rw[this]; exact hL'
 refine⟨L,fun i hi=>⟨h1 i hi,?_⟩⟩;obtain⟨R,hR⟩:=S.hs (σ:=-1) (by grind) (i:=i) hi
 have:=S.zY hi (h1 i hi) hR;rw[show L-1=R by omega]; exact hR
end
def oQ{X:Nat->Rat}{P:Uy}:∀{n:Nat},(∃i,i<n/\P i)->∃i,i<n/\P i/\∀j,j<n->P j->X i<=X j
 | 0,h=>by obtain⟨i,h,_⟩:=h; omega
 | n+1,h=>by
  by_cases hn:∃i,i<n/\P i
  obtain⟨i,i1,i2,i3⟩:=oQ (X:=X) hn
  by_cases hp:P n/\X n<=X i
  refine⟨n,by omega,hp.1,fun j hj hP=>?_⟩
  by_cases e:j=n
  subst e; grind
  have:=i3 j (by omega) hP; grind
  refine⟨i,by omega,i2,fun j hj hP=>?_⟩
  by_cases e:j=n
  subst e;have:¬X j<=X i:=fun h=>hp ⟨hP,h⟩
  grind
  exact i3 j (by omega) hP
  obtain⟨i,i1,i2⟩:=h;have:i=n:=R8 fun e=>hn ⟨i,by omega,i2⟩
  subst this;refine⟨i,by omega,i2,fun j hj hP=>?_⟩
  by_cases e:j=i
  subst e; grind
  exact Sw ⟨j,by omega,hP⟩ hn
def yH{u w:P2}{y:Rat}(h:(u.2<y/\y<w.2)\/(w.2<y/\y<u.2)) :
  ∃t,0<t/\t<1/\(cv u w t).2=y/\∀q:P2,q.2=y->tn u w q=(w.2-u.2)*((cv u w t).1-q.1):=by
 have hD:w.2-u.2≠0:=by grind
 have hi:(w.2-u.2)*(w.2-u.2)⁻¹=1:=Uj _ hD;have ht:((y-u.2)*(w.2-u.2)⁻¹)*(w.2-u.2)=y-u.2:=by grind
 generalize(y-u.2)*(w.2-u.2)⁻¹=t at ht;have t0:0<t:=by
  refine R8 fun hc=>?_;rcases h with h|h
  have:=bV (show 0<=-t by grind) (show 0<=w.2-u.2 by grind)
  grind
  have:=bV (show 0<=-t by grind) (show 0<=u.2-w.2 by grind)
  grind
 have t1:t<1:=by
  refine R8 fun hc=>?_;rcases h with h|h
  have:=bV (show 0<=t-1 by grind) (show 0<=w.2-u.2 by grind)
  grind
  have:=bV (show 0<=t-1 by grind) (show 0<=u.2-w.2 by grind)
  grind
 refine⟨t,t0,t1,by unfold cv; grind,fun q hq=>?_⟩
 unfold tn cv;rw[hq]
 grind
section
variable{n:Nat}{v:Nat->P2}
def dd(u w:P2)(y:Rat):Int:=if u.2<y/\y<w.2 then 1 else if w.2<y/\y<u.2 then -1 else 0
def yA{u w:P2}{y:Rat}(hu:u.2≠y)(hw:w.2≠y):∃X:Rat,(∀q:P2,q.2=y->we u w q=if q.1<X then dd u w y else 0)/\(dd u w y≠0->∃t,0<t/\t<1/\cv u w t=(X,y)):=by
 by_cases h1:u.2<y/\y<w.2
 obtain⟨t,t0,t1,t2,t3⟩:=yH (.inl h1);refine⟨(cv u w t).1,fun q hq=>?_,fun _=>⟨t,t0,t1,SO rfl t2⟩⟩;unfold dd;rw[jM (by grind) (by grind),R7 h1,t3 q hq]
 by_cases hx:q.1<(cv u w t).1
 rw[R7 hx,R7 (bo (by grind) (by grind))]
 rw[R5 hx,R5];have:=dc (show 0<=w.2-u.2 by grind) (show(cv u w t).1-q.1<=0 by grind)
 grind
 by_cases h2:w.2<y/\y<u.2
 obtain⟨t,t0,t1,t2,t3⟩:=yH (.inr h2);refine⟨(cv u w t).1,fun q hq=>?_,fun _=>⟨t,t0,t1,SO rfl t2⟩⟩;unfold dd;rw[lj w u,jM (by grind) (by grind),R5 h1,R7 h2,jT u w,t3 q hq]
 by_cases hx:q.1<(cv u w t).1
 have:=bo (show 0<u.2-w.2 by grind) (show 0<(cv u w t).1-q.1 by grind)
 rw[R7 hx,R7 (by grind)]
 have:=dc (show 0<=u.2-w.2 by grind) (show(cv u w t).1-q.1<=0 by grind)
 rw[R5 hx,R5 (by grind)]; rfl
 have e:dd u w y=0:=by unfold dd; rw[R5 h1,R5 h2]
 refine⟨0,fun q hq=>?_,fun h=>Sw e h⟩;rw[e,ite_self,eX (by grind) (by grind)]
end
abbrev I2:=Int×Int
def ti(a b c:I2):Int:=(b.1-a.1)*(c.2-a.2)-(b.2-a.2)*(c.1-a.1)
def ca(a:I2):P2:=((a.1:Rat),(a.2:Rat))
def mD(a b c:I2):tn (ca a) (ca b) (ca c)=((ti a b c:Int):Rat):=by
 unfold tn ca ti;simp only[Rat.intCast_sub,Tx]
def dX{x y:Int}:(x:Rat)<(y:Rat)↔x<y:=Rat.intCast_lt_intCast
def Bl{x y:Int}:(x:Rat)<=(y:Rat)↔x<=y:=Rat.intCast_le_intCast
def eB{x:Int}:(0:Rat)<(x:Rat)↔0<x:=by
 have:=@dX 0 x
 simpa using this
def pH{x:Int}:(x:Rat)<0↔x<0:=by
 have:=@dX x 0
 simpa using this
def eD(a b p:I2):ti b a p = -ti a b p:=by unfold ti; grind
def Ga(a b c:I2):ti b c a=ti a b c:=by unfold ti; grind
def AU(a b:I2):ti a b a=0:=by unfold ti; grind
def BP(a b:I2):ti a b b=0:=by unfold ti; grind
def Ct(a b c d:I2):ti a b d-ti a b c=ti c d a-ti c d b:=by unfold ti; grind
def cC(a b p:I2):Prop:=ti a b p=0/\min a.1 b.1<=p.1/\p.1<=max a.1 b.1/\min a.2 b.2<=p.2/\p.2<=max a.2 b.2
instance(a b p:I2):Decidable (cC a b p):=by unfold cC; infer_instance
def cC.swap{a b p:I2}(h:cC a b p):cC b a p:=by
 obtain⟨h1,h2⟩:=h;exact⟨by rw[eD,h1]; rfl,by omega⟩
def sW{a b p:I2}:cC a b p↔cC b a p:=⟨cC.swap,cC.swap⟩
def oD(a b:I2):cC a b a:=⟨AU a b,by omega⟩
def oe(a b:I2):cC a b b:=⟨BP a b,by omega⟩
def C2{a b p:I2}(h:a.1<b.1):cC a b p↔ti a b p=0/\a.1<=p.1/\p.1<=b.1:=by
 refine⟨fun⟨h1,h2⟩=>⟨h1,by omega⟩,fun⟨h1,h2,h3⟩=>⟨h1,by omega,by omega,?_,?_⟩⟩
 all_goals
  unfold ti at h1;have e1:(b.1-a.1)*(p.2-a.2)=(b.2-a.2)*(p.1-a.1):=by omega
  have e2:(b.1-a.1)*(b.2-p.2)=(b.2-a.2)*(b.1-p.1):=by grind
  by_cases hy:a.2<=b.2
  have m1:0<=(b.1-a.1)*(p.2-a.2):=by rw[e1]; exact SN (by omega) (by omega)
  have m2:0<=(b.1-a.1)*(b.2-p.2):=by rw[e2]; exact SN (by omega) (by omega)
  have k1:=T4 m1 (by omega)
  have k2:=T4 m2 (by omega)
  omega
  have m1:0<=(b.1-a.1)*(a.2-p.2):=by
   rw[show(b.1-a.1)*(a.2-p.2)=(a.2-b.2)*(p.1-a.1) by grind]; exact SN (by omega) (by omega)
  have m2:0<=(b.1-a.1)*(p.2-b.2):=by
   rw[show(b.1-a.1)*(p.2-b.2)=(a.2-b.2)*(b.1-p.1) by grind]; exact SN (by omega) (by omega)
  have k1:=T4 m1 (by omega)
  have k2:=T4 m2 (by omega)
  omega
def ES{a b p:I2}(h:a.1=b.1)(hab:a≠b):cC a b p↔p.1=a.1/\min a.2 b.2<=p.2/\p.2<=max a.2 b.2:=by
 have hy:a.2≠b.2:=fun e=>hab (SO h e);refine⟨fun⟨_,h2⟩=>by omega,fun⟨h1,h2⟩=>⟨?_,by omega⟩⟩
 unfold ti;rw[h1,<-h]; grind
def oO{a b p:I2}(h:a.1=b.1)(hab:a≠b)(h0:ti a b p=0):p.1=a.1:=by
 have hy:b.2-a.2≠0:=fun e=>hab (SO h (by omega))
 unfold ti at h0;rw[h,Int.sub_self,Int.zero_mul] at h0;have:(b.2-a.2)*(p.1-b.1)=0:=by omega
 rcases Tu.1 this with e|e
 exact Sw e hy
 omega
def pL{a b p q:I2}(h:a.1≠b.1)(hp:ti a b p=0)(hq:ti a b q=0)(e:p.1=q.1):p=q:=by
 have:(b.1-a.1)*(p.2-q.2)=0:=by unfold ti at hp hq; rw[e] at hp; grind
 rcases Tu.1 this with e'|e'
 omega
 exact SO e (by omega)
def Lx(a b:I2):Prop:=a.1<b.1\/a.1=b.1/\a.2<=b.2
def oR{a b p:I2}(hab:a≠b)(h:Lx a b):cC a b p↔ti a b p=0/\Lx a p/\Lx p b:=by
 unfold Lx at *
 by_cases hx:a.1<b.1
 rw[C2 hx];refine⟨fun⟨h1,h2,h3⟩=>⟨h1,?_,?_⟩,fun⟨h1,h2,h3⟩=>⟨h1,by omega,by omega⟩⟩
 by_cases e:p.1=a.1
 have:=pL (by omega) h1 (AU a b) e
 rw[this]; omega
 omega
 by_cases e:p.1=b.1
 have:=pL (by omega) h1 (BP a b) e
 rw[this]; omega
 omega
 have e:a.1=b.1:=by omega
 rw[ES e hab];refine⟨fun⟨h1,h2⟩=>⟨?_,by omega,by omega⟩,fun⟨h1,h2,h3⟩=>?_⟩
 unfold ti; rw[h1,<-e]; grind
 have:=oO e hab h1;omega
def nv{a b c d:I2}(hab:a≠b)(hc:ti a b c=0)(hn:¬cC a b c)(hd:ti a b d≠0):(0<ti c d a/\0<ti c d b)\/(ti c d a<0/\ti c d b<0):=by
 have four:=Ct a b c d;have key:∀A B s t:Int,s*B=A*t->0<A*B->s-t≠0->(0<s/\0<t)\/(s<0/\t<0):=by
  intro A B s t e hAB hst;have hB:B≠0:=fun h=>by rw[h,Int.mul_zero] at hAB; omega
  have hA:A≠0:=fun h=>by rw[h,Int.zero_mul] at hAB; omega
  have ht:t≠0:=fun h=>by
   rw[h,Int.mul_zero] at e;rcases Tu.1 e with h'|h'
   omega
   exact hB h'
  have hs:s≠0:=fun h=>by
   rw[h,Int.zero_mul] at e;rcases Tu.1 e.symm with h'|h'
   exact hA h'
   exact ht h'
  have hp:0<s*t:=by
   have e2:s*t*(B*B)=(A*B)*(t*t):=by
    rw[show s*t*(B*B)=(s*B)*(t*B) by grind,e]; grind
   have h1:0<(A*B)*(t*t):=TJ hAB (by
    rcases Int.lt_or_lt_of_ne ht with h|h
    exact Int.mul_pos_of_neg_of_neg h h
    exact TJ h h)
   rw[<-e2] at h1;have h2:0<B*B:=by
    rcases Int.lt_or_lt_of_ne hB with h|h
    exact Int.mul_pos_of_neg_of_neg h h
    exact TJ h h
   exact Int.pos_of_mul_pos_left h1 h2
  rcases Int.lt_or_lt_of_ne hs with h|h
  right
  refine⟨h,?_⟩;refine R8 fun hc=>?_;have:=TJ (show 0 < -s by omega) (show 0<t by omega)
  rw[Int.neg_mul] at this;omega
  left
  refine⟨h,?_⟩;refine R8 fun hc=>?_;have:=TJ h (show 0 < -t by omega)
  rw[Int.mul_neg] at this;omega
 have hst:ti c d a-ti c d b≠0:=by omega
 have e0:(a.1-c.1)*(b.2-c.2)=(a.2-c.2)*(b.1-c.1):=by unfold ti at hc; grind
 have ex:ti c d a*(b.1-c.1)=(a.1-c.1)*ti c d b:=by
  unfold ti;generalize d.1-c.1=x at *;generalize d.2-c.2=y at *;generalize a.1-c.1=A at *;generalize b.1-c.1=B at *;generalize a.2-c.2=C at *;generalize b.2-c.2=D at *
  grind
 have ey:ti c d a*(b.2-c.2)=(a.2-c.2)*ti c d b:=by
  unfold ti;generalize d.1-c.1=x at *;generalize d.2-c.2=y at *;generalize a.1-c.1=A at *;generalize b.1-c.1=B at *;generalize a.2-c.2=C at *;generalize b.2-c.2=D at *
  grind
 have hout:0<(a.1-c.1)*(b.1-c.1)\/0<(a.2-c.2)*(b.2-c.2):=by
  refine R8 fun hh=>hn ⟨hc,?_⟩;have pos:∀{x y:Int},0<x->0<y->0<x*y:=TJ;have neg:∀{x y:Int},x<0->y<0->0<x*y:=Int.mul_pos_of_neg_of_neg;have n1:¬(0<a.1-c.1/\0<b.1-c.1):=fun h=>hh (.inl (pos h.1 h.2));have n2:¬(a.1-c.1<0/\b.1-c.1<0):=fun h=>hh (.inl (neg h.1 h.2));have n3:¬(0<a.2-c.2/\0<b.2-c.2):=fun h=>hh (.inr (pos h.1 h.2));have n4:¬(a.2-c.2<0/\b.2-c.2<0):=fun h=>hh (.inr (neg h.1 h.2));omega
 rcases hout with h|h
 exact key _ _ _ _ ex h hst
 exact key _ _ _ _ ey h hst
def gX(a b c d x:I2):Prop:=(x=a\/x=b\/x=c\/x=d)/\cC a b x/\cC c d x
def low(a b c d:I2):Int:=if a.1=b.1 then max (min a.2 b.2) (min c.2 d.2)-min (max a.2 b.2) (max c.2 d.2) else max (min a.1 b.1) (min c.1 d.1)-min (max a.1 b.1) (max c.1 d.1)
def I7{a b c d:I2}(hab:a≠b)(hcd:c≠d)(hc:ti a b c=0)(hd:ti a b d=0):∃f:I2->Int,low a b c d=max (min (f a) (f b)) (min (f c) (f d))-min (max (f a) (f b)) (max (f c) (f d)) /\
  (∀x y,ti a b x=0->ti a b y=0->f x=f y->x=y)/\(∀x,cC a b x↔ti a b x=0/\min (f a) (f b)<=f x/\f x<=max (f a) (f b))/\(∀x,ti a b x=0->(cC c d x↔min (f c) (f d)<=f x/\f x<=max (f c) (f d))):=by
 by_cases h:a.1=b.1
 have h3:=oO h hab hc;have h4:=oO h hab hd;refine⟨fun x=>x.2,by unfold low; rw[R7 h],fun x y hx hy e=>SO ((oO h hab hx).trans (oO h hab hy).symm) e,fun x=>?_,fun x hx=>?_⟩
 rw[ES h hab];refine⟨fun⟨h0,h1⟩=>⟨?_,h1⟩,fun⟨h0,h1⟩=>⟨oO h hab h0,h1⟩⟩;unfold ti; rw[h0,<-h]; grind
 rw[ES (by omega) hcd]
 have:=oO h hab hx;exact⟨fun h=>h.2,fun h=>⟨by omega,h⟩⟩
 have h2:c.1≠d.1:=fun e=>hcd (pL h hc hd e);have dir:∀x,ti a b x=0->ti c d x=0:=fun x hx=>by
  have e0:(b.1-a.1)*(c.2-a.2)=(b.2-a.2)*(c.1-a.1):=by unfold ti at hc; omega
  have e2:(b.1-a.1)*(d.2-a.2)=(b.2-a.2)*(d.1-a.1):=by unfold ti at hd; omega
  have e1:(b.1-a.1)*(x.2-a.2)=(b.2-a.2)*(x.1-a.1):=by unfold ti at hx; omega
  have:(b.1-a.1)*ti c d x=0:=by
   unfold ti;have:(b.1-a.1)*((d.1-c.1)*(x.2-c.2)-(d.2-c.2)*(x.1-c.1))=(d.1-c.1)*((b.1-a.1)*(x.2-a.2)-(b.1-a.1)*(c.2-a.2))-((b.1-a.1)*(d.2-a.2)-(b.1-a.1)*(c.2-a.2))*(x.1-c.1):=by grind
   rw[this,e0,e2,e1]; grind
  rcases Tu.1 this with e|e
  omega
  exact e
 have gen:∀{u w:I2},u.1≠w.1->∀x,(cC u w x↔ti u w x=0/\min u.1 w.1<=x.1/\x.1<=max u.1 w.1):=fun{u w} huw x=>by
  by_cases hl:u.1<w.1
  rw[C2 hl]; refine⟨fun⟨h0,h1⟩=>⟨h0,by omega⟩,fun⟨h0,h1⟩=>⟨h0,by omega⟩⟩
  rw[sW,C2 (by omega),eD]; refine⟨fun⟨h0,h1⟩=>⟨by omega,by omega⟩,fun⟨h0,h1⟩=>⟨by omega,by omega⟩⟩
 refine⟨fun x=>x.1,by unfold low; rw[R5 h],fun x y hx hy e=>pL h hx hy e,gen h,fun x hx=>?_⟩
 rw[gen h2];exact⟨fun h=>h.2,fun h=>⟨dir x hx,h⟩⟩
def Gf{a b c d:I2}(hab:a≠b)(hcd:c≠d)(hc:ti a b c=0)(hd:ti a b d=0) :
  (0<low a b c d↔∀x,¬gX a b c d x)/\(low a b c d<0↔∃x y,gX a b c d x/\gX a b c d y/\x≠y):=by
 obtain⟨f,e,hi,h1,h2⟩:=I7 hab hcd hc hd;have ha0:=AU a b;have hb0:=BP a b;have hfab:f a≠f b:=fun h=>hab (hi a b ha0 hb0 h);have hfcd:f c≠f d:=fun h=>hcd (hi c d hc hd h);have Ff:∀x,gX a b c d x↔(x=a\/x=b\/x=c\/x=d)/\(min (f a) (f b)<=f x/\f x<=max (f a) (f b))/\(min (f c) (f d)<=f x/\f x<=max (f c) (f d)):=fun x=>by
  unfold gX;refine⟨fun⟨h,g1,g2⟩=>⟨h,((h1 x).1 g1).2,(h2 x ((h1 x).1 g1).1).1 g2⟩,fun⟨h,g1,g2⟩=>?_⟩;have hx:ti a b x=0:=by rcases h with rfl|rfl|rfl|rfl<;>assumption
  exact⟨h,(h1 x).2 ⟨hx,g1⟩,(h2 x hx).2 g2⟩
 rw[e];have lo:∃x,(x=a\/x=b\/x=c\/x=d)/\f x=max (min (f a) (f b)) (min (f c) (f d)):=by
  by_cases g1:f a<=f b<;>by_cases g2:f c<=f d
  by_cases g3:f a<=f c
  exact⟨c,by simp,by omega⟩
  exact⟨a,by simp,by omega⟩
  by_cases g3:f a<=f d
  exact⟨d,by simp,by omega⟩
  exact⟨a,by simp,by omega⟩
  by_cases g3:f b<=f c
  exact⟨c,by simp,by omega⟩
  exact⟨b,by simp,by omega⟩
  by_cases g3:f b<=f d
  exact⟨d,by simp,by omega⟩
  exact⟨b,by simp,by omega⟩
 have hi':∃x,(x=a\/x=b\/x=c\/x=d)/\f x=min (max (f a) (f b)) (max (f c) (f d)):=by
  by_cases g1:f a<=f b<;>by_cases g2:f c<=f d
  by_cases g3:f b<=f d
  exact⟨b,by simp,by omega⟩
  exact⟨d,by simp,by omega⟩
  by_cases g3:f b<=f c
  exact⟨b,by simp,by omega⟩
  exact⟨c,by simp,by omega⟩
  by_cases g3:f a<=f d
  exact⟨a,by simp,by omega⟩
  exact⟨d,by simp,by omega⟩
  by_cases g3:f a<=f c
  exact⟨a,by simp,by omega⟩
  exact⟨c,by simp,by omega⟩
 obtain⟨x,x1,x2⟩:=lo;obtain⟨y,y1,y2⟩:=hi';constructor
 refine⟨fun h z hz=>?_,fun h=>?_⟩
 have:=(Ff z).1 hz;omega
 refine R8 fun hc=>h x ((Ff x).2 ⟨x1,by omega,by omega⟩)
 refine⟨fun h=>⟨x,y,(Ff x).2 ⟨x1,by omega,by omega⟩,(Ff y).2 ⟨y1,by omega,by omega⟩,fun e=>by rw[e] at x2; omega⟩,fun⟨z,w,hz,hw,hne⟩=>?_⟩
 refine R8 fun hc=>hne (hi z w ?_ ?_ ?_)
 exact hz.2.1.1
 exact hw.2.1.1
 have:=(Ff z).1 hz;have:=(Ff w).1 hw;omega
def pQ{a b c d:I2}(hab:a≠b)(hcd:c≠d)(hn:∀x,¬gX a b c d x)
  (hx:¬(((0<ti a b c/\ti a b d<0)\/(ti a b c<0/\0<ti a b d))/\((0<ti c d a/\ti c d b<0)\/(ti c d a<0/\0<ti c d b)))):Sep (ca a) (ca b) (ca c) (ca d):=by
 have na:¬cC c d a:=fun h=>hn a ⟨.inl rfl,oD a b,h⟩;have nb:¬cC c d b:=fun h=>hn b ⟨.inr (.inl rfl),oe a b,h⟩;have nc:¬cC a b c:=fun h=>hn c ⟨.inr (.inr (.inl rfl)),h,oD c d⟩;have nd:¬cC a b d:=fun h=>hn d ⟨.inr (.inr (.inr rfl)),h,oe c d⟩;have byab:(0<ti a b c/\0<ti a b d)\/(ti a b c<0/\ti a b d<0)->Sep (ca a) (ca b) (ca c) (ca d):=by
  rintro(⟨h1,h2⟩|⟨h1,h2⟩)
  exact gy (σ:=1) (by rw[mD]; have:=eB.2 h1; grind) (by rw[mD]; have:=eB.2 h2; grind)
  exact gy (σ:=-1) (by rw[mD]; have:=pH.2 h1; grind) (by rw[mD]; have:=pH.2 h2; grind)
 have bycd:(0<ti c d a/\0<ti c d b)\/(ti c d a<0/\ti c d b<0)->Sep (ca a) (ca b) (ca c) (ca d):=by
  intro h;have h':Sep (ca c) (ca d) (ca a) (ca b):=by
   rcases h with⟨h1,h2⟩|⟨h1,h2⟩
   exact gy (σ:=1) (by rw[mD]; have:=eB.2 h1; grind) (by rw[mD]; have:=eB.2 h2; grind)
   exact gy (σ:=-1) (by rw[mD]; have:=pH.2 h1; grind) (by rw[mD]; have:=pH.2 h2; grind)
  obtain⟨α,β,γ,g1,g2,g3,g4⟩:=h';exact⟨-α,-β,-γ,by unfold af at *; grind,by unfold af at *; grind,by unfold af at *; grind,by unfold af at *; grind⟩
 have four:=Ct a b c d
 by_cases hc:ti a b c=0
 by_cases hd:ti a b d=0
 
 have hl:=(Gf hab hcd hc hd).1.2 hn;unfold low at hl;have split:∀{x1 x2 x3 x4:Int},0<max (min x1 x2) (min x3 x4)-min (max x1 x2) (max x3 x4)->(x1<x3/\x1<x4/\x2<x3/\x2<x4)\/(x3<x1/\x4<x1/\x3<x2/\x4<x2):=by
  intro x1 x2 x3 x4 h; omega
 split at hl
 rcases split hl with⟨h1,h2,h3,h4⟩|⟨h1,h2,h3,h4⟩
 have h1:=dX.2 h1; have h2:=dX.2 h2; have h3:=dX.2 h3; have h4:=dX.2 h4
 by_cases hm:(a.2:Rat)<=(b.2:Rat)
 refine oJ 0 (-1) (b.2:Rat) ?_ ?_ ?_ ?_<;>(unfold af ca; grind)
 refine oJ 0 (-1) (a.2:Rat) ?_ ?_ ?_ ?_<;>(unfold af ca; grind)
 have h1:=dX.2 h1; have h2:=dX.2 h2; have h3:=dX.2 h3; have h4:=dX.2 h4
 by_cases hm:(a.2:Rat)<=(b.2:Rat)
 refine oJ 0 1 (-(a.2:Rat)) ?_ ?_ ?_ ?_<;>(unfold af ca; grind)
 refine oJ 0 1 (-(b.2:Rat)) ?_ ?_ ?_ ?_<;>(unfold af ca; grind)
 rcases split hl with⟨h1,h2,h3,h4⟩|⟨h1,h2,h3,h4⟩
 have h1:=dX.2 h1; have h2:=dX.2 h2; have h3:=dX.2 h3; have h4:=dX.2 h4
 by_cases hm:(a.1:Rat)<=(b.1:Rat)
 refine oJ (-1) 0 (b.1:Rat) ?_ ?_ ?_ ?_<;>(unfold af ca; grind)
 refine oJ (-1) 0 (a.1:Rat) ?_ ?_ ?_ ?_<;>(unfold af ca; grind)
 have h1:=dX.2 h1; have h2:=dX.2 h2; have h3:=dX.2 h3; have h4:=dX.2 h4
 by_cases hm:(a.1:Rat)<=(b.1:Rat)
 refine oJ 1 0 (-(a.1:Rat)) ?_ ?_ ?_ ?_<;>(unfold af ca; grind)
 refine oJ 1 0 (-(b.1:Rat)) ?_ ?_ ?_ ?_<;>(unfold af ca; grind)
 exact bycd (nv hab hc nc hd)
 by_cases hd:ti a b d=0
 have:=nv (c:=d) (d:=c) hab hd nd hc;rw[eD c d,eD c d] at this;exact bycd (by omega)
 by_cases ha:ti c d a=0
 by_cases hb:ti c d b=0
 
 exact byab (by omega)
 have:=nv (a:=c) (b:=d) (c:=a) (d:=b) hcd ha na hb;exact byab this
 by_cases hb:ti c d b=0
 have:=nv (a:=c) (b:=d) (c:=b) (d:=a) hcd hb nb ha;rw[eD a b,eD a b] at this;exact byab (by omega)
 by_cases h1:(0<ti a b c/\0<ti a b d)\/(ti a b c<0/\ti a b d<0)
 exact byab h1
 exact bycd (by omega)
def di(a b c:I2):Int:=(b.1-a.1)*(c.1-b.1)+(b.2-a.2)*(c.2-b.2)
def NM(a b c d:I2):Prop:=(∀x,¬gX a b c d x)/\¬(((0<ti a b c/\ti a b d<0)\/(ti a b c<0/\0<ti a b d))/\((0<ti c d a/\ti c d b<0)\/(ti c d a<0/\0<ti c d b)))
def nx(r:VB I2)(i:Nat):I2:=r.getD (i%r.length) (0,0)
structure VR(r:VB I2):Prop where
 n3:2<r.length
 still:∀i,nx r i≠nx r (i+1)
 spike:∀i,¬(ti (nx r i) (nx r (i+1)) (nx r (i+2))=0/\di (nx r i) (nx r (i+1)) (nx r (i+2))<0)
 meet:∀j i,j+1<i->i<r.length->¬(j=0/\i+1=r.length)->NM (nx r j) (nx r (j+1)) (nx r i) (nx r (i+1))
def NW{a b:I2}(h:ca a=ca b):a=b:=by
 unfold ca at h;have h1:=Rat.intCast_inj.1 (SH Prod.fst h);have h2:=Rat.intCast_inj.1 (SH Prod.snd h);exact SO h1 h2
def Sep.symm{a b p q:P2}(h:Sep a b p q):Sep p q a b:=by
 obtain⟨α,β,γ,g1,g2,g3,g4⟩:=h;exact⟨-α,-β,-γ,by unfold af at *; grind,by unfold af at *; grind,by unfold af at *; grind,by unfold af at *; grind⟩
def N7{x:Int}:0<=x*x:=by
 rcases Int.le_total 0 x with h|h
 exact SN h h
 exact TH h h
def KM{x:Int}(h:x*x=0):x=0:=by
 rcases Tu.1 h with h|h<;>exact h
def GD{a b c:I2}(hab:a≠b)(hbc:b≠c)(h0:ti a b c=0)(h:¬di a b c<0):0<di a b c:=by
 refine R8 fun hc=>?_;have hd:di a b c=0:=by omega
 have e1:(b.1-a.1)*(c.2-b.2)-(b.2-a.2)*(c.1-b.1)=0:=by rw[<-h0]; unfold ti; grind
 unfold di at hd;generalize hx:b.1-a.1=x at *;generalize hy:b.2-a.2=y at *;generalize hz:c.1-b.1=z at *;generalize hw:c.2-b.2=w at *;have f1:(x*x+y*y)*z=0:=by
  have:(x*x+y*y)*z=x*(x*z+y*w)-y*(x*w-y*z):=by grind
  rw[this,hd,e1]; simp
 have f2:(x*x+y*y)*w=0:=by
  have:(x*x+y*y)*w=y*(x*z+y*w)+x*(x*w-y*z):=by grind
  rw[this,hd,e1]; simp
 have hp:x*x+y*y≠0:=fun e=>by
  have s1:=@N7 x;have s2:=@N7 y;have g1:=KM (show x*x=0 by omega)
  have g2:=KM (show y*y=0 by omega)
  exact hab (SO (by omega) (by omega))
 refine hbc (SO ?_ ?_)
 rcases Tu.1 f1 with e|e
 exact Sw e hp
 omega
 rcases Tu.1 f2 with e|e
 exact Sw e hp
 omega
def VR.simple{r:VB I2}(h:VR r):Simple r.length fun i=>ca (nx r i):=by
 have hn:=h.n3;have per:∀i,nx r (i+r.length)=nx r i:=fun i=>by unfold nx; rw[Nat.add_mod_right]
 refine⟨hn,?_,?_,fun i _ e=>h.still i (NW e),fun i _=>?_,fun i j hi hj h1 h2 h3 h4 h5=>?_⟩
 show ca (nx r r.length)=ca (nx r 0)
 have:=per 0;rw[SE] at this;rw[this]
 show ca (nx r (r.length+1))=ca (nx r 1)
 rw[Nat.add_comm,per]
 have e:dt (ca (nx r i)) (ca (nx r (i+1))) (ca (nx r (i+2)))=((di (nx r i) (nx r (i+1)) (nx r (i+2)):Int):Rat):=by
  unfold dt ca di;simp only[Rat.intCast_sub,Tx,Um]
 by_cases h0:ti (nx r i) (nx r (i+1)) (nx r (i+2))=0
 right
 show 0<dt (ca (nx r i)) (ca (nx r (i+1))) (ca (nx r (i+2)))
 rw[e,eB];exact GD (h.still i) (h.still (i+1)) h0 fun hd=>h.spike i ⟨h0,hd⟩
 left
 show tn (ca (nx r i)) (ca (nx r (i+1))) (ca (nx r (i+2)))≠0
 rw[mD];exact fun e=>h0 (by have:=Rat.intCast_inj (a:=ti (nx r i) (nx r (i+1)) (nx r (i+2))) (b:=0); simpa using e)
 by_cases hl:i<j
 have m:=h.meet i j (by omega) hj (by omega)
 exact pQ (h.still i) (h.still j) m.1 m.2
 have m:=h.meet j i (by omega) hi (by omega)
 exact(pQ (h.still j) (h.still i) m.1 m.2).symm
def wi(a b p:I2):Int:=if a.2<=p.2/\p.2<b.2/\0<ti a b p then 1 else if b.2<=p.2/\p.2<a.2/\ti a b p<0 then -1 else 0
def gP{a b p:I2}(h:(a.2<=p.2/\p.2<b.2)\/(b.2<=p.2/\p.2<a.2))(h0:ti a b p=0):cC a b p:=by
 have sw:∀{a b p:I2},a.2<b.2->a.2<=p.2->p.2<=b.2->ti a b p=0->cC a b p:=by
  intro a b p h1 h2 h3 h0;have h0':ti (a.2,a.1) (b.2,b.1) (p.2,p.1)=0:=by unfold ti at *; grind
  have:=(C2 (a:=(a.2,a.1)) (b:=(b.2,b.1)) (p:=(p.2,p.1)) h1).2 ⟨h0',h2,h3⟩;exact⟨h0,this.2.2.2.1,this.2.2.2.2,this.2.1,this.2.2.1⟩
 rcases h with h|h
 exact sw (by omega) (by omega) (by omega) h0
 exact(sw (a:=b) (b:=a) (by omega) (by omega) (by omega) (by rw[eD,h0]; rfl)).swap
def cL(r:VB I2)(p:I2):Int:=aZ r.length fun i=>wi (nx r i) (nx r (i+1)) p
def IA(a b p:I2):wi a b p=0\/wi a b p=1\/wi a b p = -1:=by
 unfold wi
 split
 omega
 split<;>omega
def wQ(a b c d:I2):Prop:=((0<ti a b c/\ti a b d<0)\/(ti a b c<0/\0<ti a b d))/\((0<ti c d a/\ti c d b<0)\/(ti c d a<0/\0<ti c d b))
section
variable{a b c d:I2}
noncomputable def nj (a b c d:I2):Int:=open Classical in if ∃x y,gX a b c d x/\gX a b c d y/\x≠y then 3 else if ∃x,gX a b c d x then 1 else if wQ a b c d then 2 else 0
def B1:nj a b c d=0↔NM a b c d:=by
 classical
 unfold nj NM;constructor
 intro h
 by_cases h1:∃x y,gX a b c d x/\gX a b c d y/\x≠y
 rw[R7 h1] at h; exact Sw h (by decide)
 rw[R5 h1] at h
 by_cases h2:∃x,gX a b c d x
 rw[R7 h2] at h; exact Sw h (by decide)
 rw[R5 h2] at h
 by_cases h3:wQ a b c d
 rw[R7 h3] at h; exact Sw h (by decide)
 exact⟨fun x hx=>h2 ⟨x,hx⟩,h3⟩
 rintro⟨h1,h2⟩;rw[R5 (fun⟨x,_,hx,_⟩=>h1 x hx),R5 (fun⟨x,hx⟩=>h1 x hx)];exact R5 h2
end
def nQ(a b p:I2):wi b a p = -wi a b p:=by
 have h:=eD a b p;unfold wi
 by_cases h1:a.2<=p.2/\p.2<b.2/\0<ti a b p
 rw[R7 h1,UG,UH]
 by_cases h2:b.2<=p.2/\p.2<a.2/\ti a b p<0
 rw[R5 h1,R7 h2,UH]; rfl
 rw[R5 h1,R5 h2,UG,UG]; rfl
def bf(f:I2->I2){r:VB I2}(h:r≠[])(i:Nat):nx (r.map f) i=f (nx r i):=by
 have hl:=List.length_pos_iff.2 h;unfold nx;rw[Si];have hi:i%r.length<r.length:=SY _ hl;rw[Sc,Sc,S5,R6 hi]; rfl
def lC{r:VB I2}:nx r r.length=nx r 0:=by unfold nx; rw[Nat.mod_self,Nat.zero_mod]
section
variable{a b c d:I2}
def nH{x:I2}:gX a b c d x↔gX c d a b x:=by
 unfold gX;constructor<;>rintro⟨h,g1,g2⟩<;>exact⟨by rcases h with h|h|h|h<;>simp[h],g2,g1⟩
def kl{x:I2}:gX a b c d x↔gX b a c d x:=by
 unfold gX;rw[sW (a:=a) (b:=b)];constructor<;>rintro⟨h,g⟩<;>exact⟨by rcases h with h|h|h|h<;>simp[h],g⟩
def J8:wQ a b c d↔wQ c d a b:=by unfold wQ; exact And.comm
def Ho:wQ a b c d↔wQ b a c d:=by
 unfold wQ;rw[eD a b c,eD a b d];constructor<;>rintro⟨h,g⟩<;>constructor<;>omega
def sb:nj c d a b=nj a b c d:=by
 classical
 have h1:(∃x y,gX c d a b x/\gX c d a b y/\x≠y)↔∃x y,gX a b c d x/\gX a b c d y/\x≠y :=
  ⟨fun⟨x,y,p,q,r⟩=>⟨x,y,nH.1 p,nH.1 q,r⟩,fun⟨x,y,p,q,r⟩=>⟨x,y,nH.1 p,nH.1 q,r⟩⟩
 have h2:(∃x,gX c d a b x)↔∃x,gX a b c d x:=⟨fun⟨x,p⟩=>⟨x,nH.1 p⟩,fun⟨x,p⟩=>⟨x,nH.1 p⟩⟩;unfold nj;simp only[h1,h2,J8 (a:=c) (b:=d) (c:=a) (d:=b)]
def tR:nj b a c d=nj a b c d:=by
 classical
 have h1:(∃x y,gX b a c d x/\gX b a c d y/\x≠y)↔∃x y,gX a b c d x/\gX a b c d y/\x≠y :=
  ⟨fun⟨x,y,p,q,r⟩=>⟨x,y,kl.1 p,kl.1 q,r⟩,fun⟨x,y,p,q,r⟩=>⟨x,y,kl.1 p,kl.1 q,r⟩⟩
 have h2:(∃x,gX b a c d x)↔∃x,gX a b c d x:=⟨fun⟨x,p⟩=>⟨x,kl.1 p⟩,fun⟨x,p⟩=>⟨x,kl.1 p⟩⟩;unfold nj;simp only[h1,h2,Ho (a:=b) (b:=a) (c:=c) (d:=d)]
end
def eE(r:VB I2):Int:=aZ r.length fun i=>(nx r i).1*(nx r (i+1)).2-(nx r i).2*(nx r (i+1)).1
def jC(n:Nat)(f g:Nat->Int):aZ n (fun i=>f i+g i)=aZ n f+aZ n g:=by
 induction n with
 | zero=>rfl
 | succ n ih=>simp only[aZ]; rw[ih]; omega
def lU(c:Int)(n:Nat)(f:Nat->Int):aZ n (fun i=>c*f i)=c*aZ n f:=by
 induction n with
 | zero=>simp[aZ]
 | succ n ih=>simp only[aZ]; rw[ih,Ui]
def Eo(n:Nat)(f:Nat->Int):aZ (n+1) f=f 0+aZ n fun i=>f (i+1):=by
 induction n with
 | zero=>simp[aZ]
 | succ n ih=>rw[aZ,ih]; simp only[aZ]; omega
def HK(n:Nat)(f:Nat->Int):aZ n (fun i=>f (n-1-i))=aZ n f:=by
 induction n generalizing f with
 | zero=>rfl
 | succ n ih =>
  rw[Eo];simp only[aZ];have:aZ n (fun i=>f (n+1-1-(i+1)))=aZ n f:=by
   rw[<-ih f];exact aE fun i _=>by congr 1; omega
  rw[this,show n+1-1-0=n by omega]; omega
structure Chg(f:I2->I2)(k d:Int):Prop where
 inj:∀{a b},f a=f b->a=b
 ti:∀a b c,ti (f a) (f b) (f c)=k*ti a b c
 di:∀a b c,di (f a) (f b) (f c)=d*di a b c
 kp:k≠0
 dp:0<d
 btw:∀{a b c},cC (f a) (f b) (f c)↔cC a b c
def iP{k x:Int}(h:0<k):0<k*x↔0<x:=⟨fun g=>Int.pos_of_mul_pos_right g h,fun g=>TJ h g⟩
def eU{k x:Int}(h:0<k):k*x<0↔x<0:=by
 have:=iP (x:=-x) h;rw[Int.mul_neg] at this;omega
section
variable{f:I2->I2}{k d:Int}
def Chg.Ff(h:Chg f k d){a b c d x:I2}:gX (f a) (f b) (f c) (f d) (f x)↔gX a b c d x:=by
 unfold gX;rw[h.btw,h.btw];constructor
 rintro⟨g,e⟩;exact⟨by rcases g with g|g|g|g<;>simp[h.inj g],e⟩
 rintro⟨g,e⟩;exact⟨by rcases g with g|g|g|g<;>simp[g],e⟩
def Chg.QO(h:Chg f k d){a b c d:I2}:wQ (f a) (f b) (f c) (f d)↔wQ a b c d:=by
 unfold wQ;rw[h.ti,h.ti,h.ti,h.ti];rcases Int.lt_or_gt_of_ne h.kp with g|g
 have e:∀x,k*x = -((-k)*x):=fun x=>by rw[Int.neg_mul]; omega
 have p:∀{x},0<k*x↔x<0:=fun{x}=>by rw[e]; have:=eU (k:=-k) (x:=x) (by omega); omega
 have n:∀{x},k*x<0↔0<x:=fun{x}=>by rw[e]; have:=iP (k:=-k) (x:=x) (by omega); omega
 rw[p,p,p,p,n,n,n,n]; omega
 rw[iP g,iP g,iP g,iP g,eU g,eU g,eU g,eU g]
def wE{a b c d:I2}:NM a b c d↔(∀x,¬gX a b c d x)/\¬wQ a b c d:=Iff.rfl
def Chg.nm(h:Chg f k d){a b c d:I2}:NM (f a) (f b) (f c) (f d)↔NM a b c d:=by
 rw[wE,wE,h.QO];refine and_congr_left fun _=>⟨fun g x hx=>g (f x) (h.Ff.2 hx),fun g x hx=>?_⟩;have:∃y,x=f y:=by
  rcases hx.1 with e|e|e|e<;>exact⟨_,e⟩
 obtain⟨y,rfl⟩:=this;exact g y (h.Ff.1 hx)
def Chg.vr(h:Chg f k d){r:VB I2}(v:VR r):VR (r.map f):=by
 have hr:r≠[]:=fun e=>by have:=v.n3; rw[e] at this; simp at this
 refine⟨by rw[Si]; exact v.n3,fun i=>?_,fun i=>?_,fun j i h1 h2 h3=>?_⟩
 rw[bf f hr,bf f hr];exact fun e=>v.still i (h.inj e)
 rw[bf f hr,bf f hr,bf f hr,h.ti,h.di];rintro⟨e1,e2⟩;refine v.spike i ⟨?_,(eU h.dp).1 e2⟩;rcases Tu.1 e1 with e|e
 exact Sw e h.kp
 exact e
 rw[Si] at h2 h3;rw[bf f hr,bf f hr,bf f hr,bf f hr,h.nm];exact v.meet j i h1 h2 h3
end
def oa(v:I2)(a:I2):I2:=(a.1+v.1,a.2+v.2)
def bE(s:Int)(a:I2):I2:=(a.1*s,a.2*s)
def B8(s:Int)(a b c:I2):ti (bE s a) (bE s b) (bE s c)=s*s*ti a b c:=by unfold ti bE; grind
def ku{s x y:Int}(hs:0<s):x*s<=y*s↔x<=y:=⟨fun h=>Int.le_of_mul_le_mul_right h hs,fun h=>Tt h (Int.le_of_lt hs)⟩
def Dh{s:Int}(hs:0<s){a b c:I2}:cC (bE s a) (bE s b) (bE s c)↔cC a b c:=by
 have hss:s*s≠0:=by have:=TJ hs hs; omega
 have m1:∀x y z:Int,min (x*s) (y*s)<=z*s↔min x y<=z:=fun x y z=>by
  have h1:=ku (x:=x) (y:=z) hs;have h2:=ku (x:=y) (y:=z) hs;omega
 have m2:∀x y z:Int,z*s<=max (x*s) (y*s)↔z<=max x y:=fun x y z=>by
  have h1:=ku (x:=z) (y:=x) hs;have h2:=ku (x:=z) (y:=y) hs;omega
 unfold cC;rw[B8];unfold bE
 dsimp only
 rw[m1,m2,m1,m2];refine and_congr_left fun _=>⟨fun h=>?_,fun h=>by rw[h,Int.mul_zero]⟩
 rcases Tu.1 h with e|e
 exact Sw e hss
 exact e
def jV{s:Int}(hs:0<s):Chg (bE s) (s*s) (s*s):=by
 have hss:=TJ hs hs;refine⟨fun{a b} h=>?_,B8 s,fun a b c=>by unfold di bE; grind,by omega,hss,Dh hs⟩
 have h1:=SH Prod.fst h;have h2:=SH Prod.snd h;exact SO (Int.eq_of_mul_eq_mul_right (by omega) h1) (Int.eq_of_mul_eq_mul_right (by omega) h2)
def jh(r:VB I2){i j:Nat}(h:i%r.length=j%r.length):nx r i=nx r j:=by unfold nx; rw[h]
def wy(k:Nat):I2:=[(2,0),(2,1),(1,2),(0,2),(-1,2),(-2,1),(-2,0),(-2,-1),(-1,-2),(0,-2),(1,-2),(2,-1)].getD (k%12) (0,0)
def RO(m:Int)(a:I2):I2:=(a.1*m,a.2*m)
structure Star(r:VB I2):Prop where
 n3:2<r.length
 dir:∃δ:Nat->Nat,(∀i,δ i < δ (i+1)/\δ (i+1)<=δ i+3)/\(∀i,δ (i+r.length)=δ i+12)/\∀i,∃m:Int,0<m/\nx r i=RO m (wy (δ i))
section
variable{h:Nat->Int}(hp:∀ i, 1 <= h i)
include hp
end
end Jd
namespace Go.Ab
open Go
end Go.Ab
namespace Go.Ab.W
open Go Go.Ab
section
variable{σ ρ τ:Type}
end
end Go.Ab.W
namespace Go.Ab.B
open Go Go.Ab Go.Ab.W
section
variable{α β σ ρ:Type}
def lN(a b:VA β):br true a b=a:=rfl
def jl(a b:VA β):br false a b=b:=rfl
def bc(a:VA β):gd true a=a:=rfl
def ai(x:α)(f:α->VA β):ob (some x) f=f x:=rfl
def aH{p:Prop}[Decidable p](h:p)(a b:VA β):br (decide p) a b=a:=by rw[Sd h]; rfl
def aD{p:Prop}[Decidable p](h:¬p)(a b:VA β):br (decide p) a b=b:=by rw[Sm h]; rfl
def Fm(c:Bool)(a b:VA β):br c a b=if c then a else b:=by cases c<;>rfl
def ru(c d:Bool):br c (some true) (some d)=some (c||d):=by cases c<;>rfl
def gU(c d:Bool):br c (some d) (some false)=some (c&&d):=by cases c<;>rfl
def fM{p:Prop}[Decidable p](h:p)(a:VA β):gd (decide p) a=a:=by rw[Sd h]; rfl
def aA{i n:Nat}(h:i<n):cz (i:Int) n=true:=Sd ⟨Int.natCast_nonneg i,by simpa using h⟩
def aF{x:Int}(h1 : -9223372036854775808<=x)(h2:x<9223372036854775808):UE x=x:=wrap_i64 x h1 (by omega)
def av{i:Nat}(h:i<4611686018427387904):UE ((i:Int)+1)=((i+1:Nat):Int):=by rw[aF (by omega) (by omega)]; rfl
def fZ{body:σ->VA (σ⊕ρ)}{n:Nat}{s s':σ}(h:body s=some (.inl s')):bK body (n+1) s=bK body n s':=by simp only[bK,h]
def fC{body:σ->VA (σ⊕ρ)}{n:Nat}{s:σ}{r:ρ}(h:body s=some (.inr r)):bK body (n+1) s=some r:=by simp only[bK,h]
end
def gW{u v B C:Int}(hB:0<=B)(hu1 : -B<=u)(hu2:u<=B)(hv1 : -C<=v)(hv2:v<=C) : -(B*C)<=u*v/\u*v<=B*C:=by
 have hC:0<=C:=by omega
 have h1:0<=(B-u)*(C-v):=SN (by omega) (by omega)
 have h2:0<=(B+u)*(C+v):=SN (by omega) (by omega)
 have h3:0<=(B-u)*(C+v):=SN (by omega) (by omega)
 have h4:0<=(B+u)*(C-v):=SN (by omega) (by omega)
 have e1:(B-u)*(C-v)=B*C-B*v-u*C+u*v:=by rw[Int.sub_mul,Int.mul_sub,Int.mul_sub]; omega
 have e2:(B+u)*(C+v)=B*C+B*v+u*C+u*v:=by rw[Int.add_mul,Ui,Ui]; omega
 have e3:(B-u)*(C+v)=B*C+B*v-u*C-u*v:=by rw[Int.sub_mul,Ui,Ui]; omega
 have e4:(B+u)*(C-v)=B*C-B*v+u*C-u*v:=by rw[Int.add_mul,Int.mul_sub,Int.mul_sub]; omega
 omega
def vq{α:Type}[DecidableEq α]:∀{l m:VB α},l.Nodup->(∀a∈l,a∈m)->l.length<=m.length
 | [],_,_,_=>Tn _
 | a::l,m,hn,hs=>by
  obtain⟨n1,n2⟩:=TI.1 hn;have ha:=hs a Sv;have:=vq (l:=l) (m:=m.erase a) n2 fun b hb=>by
   have hne:b≠a:=fun e=>n1 (e▸hb);exact(List.mem_erase_of_ne hne).2 (hs b (Sf _ hb))
  rw[List.length_erase_of_mem ha] at this;have hp:0<m.length:=List.length_pos_of_mem ha;rw[SS]; omega
end Go.Ab.B
namespace Jd
def Lt(a b:I2):Prop:=a.1<b.1\/a.1=b.1/\a.2<b.2
instance(a b:I2):Decidable (Lt a b):=by unfold Lt; infer_instance
def Edge(Q:I2->Prop)(a b:I2):Prop:=Lt a b/\∀q,Q q->0<=ti a b q/\(ti a b q=0->¬Lt q a/\¬Lt b q)
inductive Stk(Q:I2->Prop):VB I2->Prop
 | one {a}:(∀q,Q q->¬Lt q a)->Q a->Stk Q [a]
 | more {a b st}:Edge Q a b->Q b->Stk Q (a::st)->Stk Q (b::a::st)
def Good(S:I2->Prop)(x y:I2):Prop:=x≠y/\S y/\∀q,S q->0<ti x y q\/q=x\/q=y\/(ti x y q=0/\0<di x q y)
inductive Way(S:I2->Prop):VB I2->Prop
 | one (a):Way S [a]
 | more {a b l}:Good S a b->Way S (b::l)->Way S (a::b::l)
def Kx{u v w:I2}(h1:u.1*w.2=u.2*w.1)(h2:v.1*w.2=v.2*w.1)(g1:0<u.1*w.1+u.2*w.2)(g2:0<v.1*w.1+v.2*w.2):0<u.1*v.1+u.2*v.2:=by
 have e:(u.1*w.1+u.2*w.2)*(v.1*w.1+v.2*w.2)=(u.1*v.1+u.2*v.2)*(w.1*w.1+w.2*w.2):=by grind
 have p:=TJ g1 g2;rw[e] at p;have n:0<=w.1*w.1+w.2*w.2:=Int.add_nonneg N7 N7;rcases Int.lt_or_eq_of_le n with k|k
 rw[Int.mul_comm] at p; exact Int.pos_of_mul_pos_right p k
 rw[<-k,Int.mul_zero] at p; exact Sw p (by decide)
structure Hul(S:I2->Prop)(r:VB I2):Prop where
 n3:2<r.length
 good:∀i,Good S (nx r i) (nx r (i+1))
 nodup:∀i j,i<j->j<r.length->nx r i≠nx r j
section
variable{S:I2->Prop}{r:VB I2}
end
end Jd
