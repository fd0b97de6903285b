/- A part of the proof. -/
import Derived.Test.YtmndpgfbkicndaaCp5
set_option linter.all false
namespace Go.Proofs.Ytmndpgfbkicndaa
section
open Go Go.Ab Go.Ab.W
set_option maxRecDepth 10000
set_option maxHeartbeats 4000000
attribute [local irreducible] Wo Wk At Wn Od Ox bc bR
attribute [local irreducible] Tm.at Trie.set Trie.get TS.get TS.set TS.alloc TS.ww TS.kill
variable{p q:TN Prim}
def Li:∀b o,aD (TV p q).P 28 (ptr b o) 1=some (ptr b (o+1)):=fun _ _=>by kernel_rfl
instance:FaC (TV p q).P 28 1 1:=⟨Li⟩
def LL:TyI (TV p q).P 5 false 1:=⟨by kernel_rfl,by kernel_rfl,by kernel_rfl⟩
instance:TyC (TV p q).P 5 false 1:=⟨LL⟩
def u5:(TV p q).P.underlying 5=some (.int .u8):=by kernel_rfl
def LQ:∀b o,aD (TV p q).P 28 (ptr b o) 0=some (ptr b (o+0)):=fun _ _=>by kernel_rfl
instance:FaC (TV p q).P 28 0 0:=⟨LQ⟩
def K8:∀b o,aD (TV p q).P 28 (ptr b o) 4=some (ptr b (o+4)):=fun _ _=>by kernel_rfl
instance:FaC (TV p q).P 28 4 4:=⟨K8⟩
def sK:∀b o,aD (TV p q).P 28 (ptr b o) 2=some (ptr b (o+2)):=fun _ _=>by kernel_rfl
instance:FaC (TV p q).P 28 2 2:=⟨sK⟩
def Kh:∀cs:TW SX,gW (TV p q).P 34 (.agg cs) 1=cX (TV p q).P 32 cs 1:=fun _=>by kernel_rfl
def KE:∀b o,aD (TV p q).P 28 (ptr b o) 3=some (ptr b (o+3)):=fun _ _=>by kernel_rfl
instance:FaC (TV p q).P 28 3 3:=⟨KE⟩
def FL{n x1 x2 x3 x4 x5 x6 l17 l18 a6 c0 a8 c3}{r10:SV}{e9:SS}{r}(hF:MU n x1 x2 x3 x4 x5 x6 l17 l18=some r)(m){H:SV}(hH:∀b,H b->b<m.next)(h17:ja m a6 c0 l17)(h18:∀b,kK a6=some b->¬H b)(h19:lW m a8 c3 l18 e9)(h20:∀b,kK a8=some b->¬H b)(h21:(cd ak r10 l18 e9).P m)(h22:∀b,r10 b->¬H b):
 aI (TV p q) 22 [.agg #[.int .u8 ((x1:Nat):Int),.int .u8 ((x2:Nat):Int),.int .u8 ((x3:Nat):Int),ba x4,ba x5,ba x6],kI a6 l17 c0 a8 l18 c3] m (fun v m'=>∃x:SU×Nat×Nat×SU×Nat×Nat×SS ×(Nat->Prop),v=.agg #[.slice x.1 x.2.2.1 x.2.1,.slice x.2.2.2.1 x.2.2.2.2.2.1 x.2.2.2.2.1]/\Hp m m' [.rd x.1 x.2.1 2 x.2.2.1 (r.1.map (eP (eI .i64) (eI .i64))),.rd x.2.2.2.1 x.2.2.2.2.1 2 x.2.2.2.2.2.1 x.2.2.2.2.2.2.1,.gen (cd ak x.2.2.2.2.2.2.2 r.2 x.2.2.2.2.2.2.1),dT H]):=by
 unfold MU at hF;refine cw Try.func22 (Hp.GM (l0:=[De a8 c3 l18 e9,q6 a6 c0 l17]) (Hp.oU (l0:=[q6 a6 c0 l17]) (Hp.oU (l0:=[]) (Hp.sb m hH) dI h17 h18) (eC dI) h19 h20) (eC (eC dI)) h21 h22) ?_;refine wz ?_;refine wb fun b3=>?_;refine wb fun b1=>?_;refine wa qI fun b2=>?_;refine au ?_;obtain⟨⟨l4,l1⟩,h23,hF⟩:=J hF;refine Ts (NW rfl rfl (fun m hm=>GG h23 m (hm.q 5) (hm.q 4) (hm.dp (q:=3) rfl)) fun _=>(uX (uX (Hg BH)))) gn rfl ?_;rintro⟨a2,n2,a13,n4,e0,r11⟩;refine TI (k:=0) (xs:=l4) rfl ?_;rintro rfl;refine Wo.MA (k:=1) (q:=2) (L:=l1) rfl rfl ?_;rintro rfl;refine au ?_;refine Td<|Td ?_;obtain⟨v0,h24,hF⟩:=J hF;refine ct (fun v0 (_:TP)=>⟨.normal,(ic b3 b1 [(4,ptr b2 0),(5,dN l4),(6,dN l1),(25,.bool v0)]),[zp b3 x1 x2 x3 x4 x5 x6,tx b1 a2 l4 a13 l1,cV a2 l4,kX a13 l1 e0,ot cg r11 l1 e0,iZ b2,dT H]⟩) v0 ?_ ?_;clear hF;revert v0;intro r hF;refine wz ?_;rcases U hF with⟨h25,hF⟩|⟨h25,hF⟩;refine wz ?_;cases hF;exact ae () [5,4,0,1,2,3,9];refine wz ?_;cases hF;exact ae () [5,4,0,1,2,3,9];rintro⟨⟩;refine Tl ?_;rcases U hF with⟨h26,hF⟩|⟨h26,hF⟩;refine au ?_;cases hF;refine Tn (Ti [4,0,1,2,3,5,6] rfl rfl)<|Tn aa.gQ<|Tn (Tg (k:=4) rfl) ?_;exact Tt (.cell (k:=5) eW rfl rfl rfl .nil) fun m' hm=>⟨(a2,l4.length,l4.length,a13,l1.length,l1.length,e0,r11),rfl,(To (Tg (k:=3) rfl) (Ti [3,4,0,6] rfl rfl)) m' hm⟩;refine au ?_;refine Tc (kC rfl (kz (by rw[u5]; rfl) u3)) rfl ?_
 refine wz ?_;obtain⟨h27,hF⟩:=az hF;refine Tc (aJ rfl rfl (bU _ _ h27)) rfl ?_;refine wz ?_;refine Tc (kC rfl (kz (by rw[u5]; rfl) u3)) rfl ?_
 refine wz ?_;obtain⟨h28,hF⟩:=az hF;refine Tc (aJ rfl rfl (bU _ _ h28)) rfl ?_;obtain⟨h8,hF⟩:=cO hF;refine Wo.open (k:=3) rfl (aM h8) ?_;rintro b0 t0 rfl h95;refine Tu (sC jd rfl rfl h8) gn rfl<|Tc (bC rfl) rfl<|Tc (bC rfl) rfl ?_;obtain⟨⟨l2,l3⟩,h1,hF⟩:=J hF;refine Tq (Ti [4,0,1,2,3,5,6] rfl rfl)<|Wo.Bo (o:=cg) (j:=((Int.tmod (S6 ((x2:Nat):Int)) (l1.length:Int)).toNat)) (x:=(l2,l3)) (N:=fun g S1 S2=>[.sl g.1 1 l2.length (l2.map (eI .i64)),.sl (g.2).1 1 l3.length (g.2).2.1,.gen (cL gP (g.2).2.2 l3 (g.2).2.1),.gen (cL cg S1 (l1.take ((Int.tmod (S6 ((x2:Nat):Int)) (l1.length:Int)).toNat)) (e0.take ((Int.tmod (S6 ((x2:Nat):Int)) (l1.length:Int)).toNat))),.gen (cL cg S2 (l1.drop (((Int.tmod (S6 ((x2:Nat):Int)) (l1.length:Int)).toNat)+1)) (e0.drop (((Int.tmod (S6 ((x2:Nat):Int)) (l1.length:Int)).toNat)+1))),zp b3 x1 x2 x3 x4 x5 x6,jG b1 a2 l4 b0 l1,cV a2 l4,.arr b0 2 l1.length e0 t0,iZ b2,dT H]) h1 (fun _ _ _=>rfl) ?_;rintro⟨a0,⟨a1,e1,r3⟩⟩ r0 r1 h0;refine Tq (aa.lj (k:=8) rfl (gN h0).symm) ?_;refine wz ?_;refine Td ?_;obtain⟨r4,h29,hF⟩:=J hF;refine ct (fun(l23,n0,n1,l24) ((a9,c1,a10,c2,e5,r5):SU×Nat×SU×Nat×SS ×(Nat->Prop))=>⟨.normal,[(3,ptr b1 0),(4,ptr b2 0)],[.obj b1 (.cells [.slice a9 n0 c1,.slice a10 n1 c2] .own),.gen (mZ a9 c1 2 n0 (l23.map (eP (eI .i64) (eI .i64)))),.rd a10 c2 2 n1 e5,fO ak r5 l24 e5,iZ b2,dT H]⟩) r4 ?_ ?_;clear hF;revert r4;intro r hF;refine wz ?_;refine Tc (aJ rfl rfl (pY _ _ (by decide))) rfl ?_
 refine au ?_;rcases U hF with⟨h30,hF⟩|⟨h30,hF⟩;refine wz ?_;obtain⟨h31,hF⟩:=cO hF;refine Wo.open (k:=7) rfl (aM h31) ?_;rintro b6 t3 rfl h96;refine wz ?_;obtain⟨⟨x12,x13⟩,h32,hF⟩:=J hF;refine Tz (sx (k:=7) (x1:=(x12,x13)) (x2:=(x5,x6)) df rfl rfl rfl h32 rfl) ?_;refine wz ?_;refine Tn (Tg (k:=0) rfl)<|Tn (Ti [2,0,1,3,4,5,6,7,8,9,10] rfl rfl)<|Tn aa.gQ<|Tn (Tg (k:=2) rfl)<|Tn (Ti [3,4,0,1,2,5,6,7,8,9,10] rfl rfl)<|At.ia (o:=cg) (r:=ak) (y:=(l2,l3)) (g:=((a0,l2.length),(a1,l3.length,e1))) (e2:=[bN a0 l2,bN a1 l3]) h1 h0 (Lf.p (Lf.sr (k:=1) rfl) (Lf.lr (k:=2) (q:=0) rfl rfl rfl)) (fun _ _=>rfl) ?_;intro r15;refine Tn (Tj (k:=7) rfl)<|Tn (Tg (k:=7) rfl) ?_;cases hF;exact aT ((some ⟨b6,0,none⟩),l4.length,(some ⟨b0,0,none⟩),l1.length,(e0.set ((Int.tmod (S6 ((x2:Nat):Int)) (l1.length:Int)).toNat) [bN a0 l2,bN a1 l3]),r15) (To (Tj (k:=6) rfl) (To (aa.vW (k:=6) rfl) (Ti [5,6,7,0,8,9] rfl rfl)));refine wz ?_;rcases U hF with⟨h33,hF⟩|⟨h33,hF⟩;refine wz ?_;refine Tc (kC rfl (kz (by rw[u5]; rfl) u3)) rfl ?_
 refine wz ?_;obtain⟨h34,hF⟩:=az hF;refine Tc (aJ rfl rfl (bU _ _ h34)) rfl ?_;obtain⟨h35,hF⟩:=cO hF;refine Wo.open (k:=7) rfl (aM h35) ?_;rintro b7 t4 rfl h97;refine wz ?_;obtain⟨⟨x14,x15⟩,h98,hF⟩:=J hF;refine wz ?_;obtain⟨h99,hF⟩:=cO hF;refine wz ?_;obtain⟨⟨x16,x17⟩,h36,hF⟩:=J hF;refine Tz (sx (k:=7) (x1:=(x16,x17)) (x2:=(x14,x15)) df rfl rfl rfl h36 rfl) ?_;refine wz ?_;refine Tn (Tg (k:=0) rfl)<|Tn (Ti [2,0,1,3,4,5,6,7,8,9,10] rfl rfl)<|Tn aa.gQ<|Tn (Tg (k:=2) rfl)<|Tn (Ti [3,4,0,1,2,5,6,7,8,9,10] rfl rfl)<|At.ia (o:=cg) (r:=ak) (y:=(l2,l3)) (g:=((a0,l2.length),(a1,l3.length,e1))) (e2:=[bN a0 l2,bN a1 l3]) h1 h0 (Lf.p (Lf.sr (k:=1) rfl) (Lf.lr (k:=2) (q:=0) rfl rfl rfl)) (fun _ _=>rfl) ?_;intro r16;refine Tn (Tj (k:=7) rfl)<|Tn (Tg (k:=7) rfl) ?_;cases hF;exact aT ((some ⟨b7,0,none⟩),l4.length,(some ⟨b0,0,none⟩),l1.length,(e0.set ((Int.tmod (S6 ((x2:Nat):Int)) (l1.length:Int)).toNat) [bN a0 l2,bN a1 l3]),r16) (To (Tj (k:=6) rfl) (To (aa.vW (k:=6) rfl) (Ti [5,6,7,0,8,9] rfl rfl)));refine wz ?_;rcases U hF with⟨h37,hF⟩|⟨h37,hF⟩;refine wz ?_;refine Ts (bY (es:=([(x5,x6)]:SQ).map (eP (eI .i64) (eI .i64))) w5 rfl (bZ w5 z26 rfl rfl) rfl rfl) gn rfl fun b11=>?_;obtain⟨h38,hF⟩:=az hF;refine Ts (so (k:=8) (k2:=0) (xs:=(l4:SQ)) (ys:=([(x5,x6)]:SQ)) (DC (sF .i64) (sF .i64)) w5 ⟨_,Nb⟩ rfl rfl rfl (.arr _ _ _ _ _) h38) gn rfl fun a18=>?_;refine wz ?_;refine Tn (Tg (k:=1) rfl)<|Tn (Ti [3,0,1,2,4,5,6,7,8,9,10,11] rfl rfl)<|Tn aa.gQ<|Tn (Tg (k:=3) rfl)<|Tn (Ti [4,5,0,1,2,3,6,7,8,9,10,11] rfl rfl)<|At.ia (o:=cg) (r:=ak) (y:=(l2,l3)) (g:=((a0,l2.length),(a1,l3.length,e1))) (e2:=[bN a0 l2,bN a1 l3]) h1 h0 (Lf.p (Lf.sr (k:=2) rfl) (Lf.lr (k:=3) (q:=0) rfl rfl rfl)) (fun _ _=>rfl) ?_;intro r17;refine Tn (Tj (k:=8) rfl)<|Tn (Tg (k:=8) rfl) ?_;cases hF;exact aT (a18,(l4++[(x5,x6)]).length,(some ⟨b0,0,none⟩),l1.length,(e0.set ((Int.tmod (S6 ((x2:Nat):Int)) (l1.length:Int)).toNat) [bN a0 l2,bN a1 l3]),r17) (To (aa.vW (k:=7) rfl) (Ti [6,7,8,0,9,10] rfl rfl));refine wz ?_;rcases U hF with⟨h39,hF⟩|⟨h39,hF⟩;refine wz ?_;obtain⟨h40,hF⟩:=az hF;obtain⟨h2,hF⟩:=az hF;replace h2:=of_decide_eq_true h2;obtain⟨l29,h3,hF⟩:=J hF;replace h3:=QL h3;refine Tq (aa.vW (k:=7) rfl)<|Tu (J8 (k:=7) (hi:=Int.tmod (S6 ((x2:Nat):Int)) (l4.length:Int)) w5 rfl rfl rfl h40 h2 h3) gn rfl ?_;refine wz ?_;refine Tn (Tg (k:=0) rfl)<|Tn (Ti [2,0,1,3,4,5,6,7,8,9,10] rfl rfl)<|Tn aa.gQ<|Tn (Tg (k:=2) rfl)<|Tn (Ti [3,4,0,1,2,5,6,7,8,9,10] rfl rfl)<|At.ia (o:=cg) (r:=ak) (y:=(l2,l3)) (g:=((a0,l2.length),(a1,l3.length,e1))) (e2:=[bN a0 l2,bN a1 l3]) h1 h0 (Lf.p (Lf.sr (k:=1) rfl) (Lf.lr (k:=2) (q:=0) rfl rfl rfl)) (fun _ _=>rfl) ?_;intro r18;refine Tn (Tj (k:=7) rfl)<|Tn (Tg (k:=7) rfl) ?_;cases hF;exact ae (a2,l4.length,(some ⟨b0,0,none⟩),l1.length,(e0.set ((Int.tmod (S6 ((x2:Nat):Int)) (l1.length:Int)).toNat) [bN a0 l2,bN a1 l3]),r18) [5,6,7,0,8,9];refine wz ?_;rcases U hF with⟨h9,hF⟩|⟨h9,hF⟩;refine Ty rfl h9<|TB (prs:=[(1,3),(3,6)]) (by kernel_rfl)<|Tf (aG (r:=ptr b1 1) rfl (ep _ _)) rfl<|Tf (aH (k:=6) kY rfl rfl rfl) rfl<|Tf (aH (k:=6) eW rfl rfl rfl) rfl<|TK (Ti [0,1,2,3,4,5,6,7,8,9,10] rfl rfl)<|Wn.G2 (o:=cg) (g:=(a0,(a1,e1,r3))) h1 h0 rfl ?_
 intro r19;refine TK (aa.lj (k:=4) rfl (gN h0)) ?_;obtain⟨⟨l25,l19⟩,h41,hF⟩:=J hF;refine Wn.c (Nt rfl rfl (fun m hm=>GG h41 m (hm.rd (k:=3) rfl (.sl _ _ _ _)) (hm.q 4) (hm.od (q:=0) rfl)) fun _=>(uX (uX (Hg BH)))) gn rfl ?_;rintro⟨a19,n5,a24,n7,e10,r34⟩;refine Wn.len (k:=0) (xs:=l25) rfl ?_;rintro rfl;refine Wn.MA (k:=1) (q:=2) (L:=l19) rfl rfl ?_;rintro rfl;refine Tf (PA rfl ((Kh _).trans (An kY rfl))) rfl<|Tf (aG (r:=ptr b3 2) rfl (sK _ _)) rfl<|Tf (aH (k:=4) LL rfl rfl rfl) rfl<|Tf (kC rfl (kz (by rw[u5]; rfl) u3)) rfl<|Tf (aS rfl) rfl ?_
 obtain⟨h42,hF⟩:=az hF;refine Tf (aJ rfl rfl (bU _ _ h42)) rfl ?_;obtain⟨h10,hF⟩:=cO hF;refine Wn.open (k:=1) rfl (aM h10) ?_;rintro b8 t2 rfl h100;refine TG (sC jd rfl rfl h10) gn rfl ?_;obtain⟨⟨l10,l11⟩,h43,hF⟩:=J hF;refine TK (Ti [2,0,1,3,4,5,6,7,8,9] rfl rfl) ?_;refine Wn.Bo (o:=cg) (j:=((Int.tmod (S6 ((x3:Nat):Int)) (l1.length:Int)).toNat)) (x:=(l10,l11)) (N:=fun g S1 S2=>[.sl g.1 1 l10.length (l10.map (eI .i64)),.sl (g.2).1 1 l11.length (g.2).2.1,.gen (cL gP (g.2).2.2 l11 (g.2).2.1),.gen (cL cg S1 (l19.take ((Int.tmod (S6 ((x3:Nat):Int)) (l1.length:Int)).toNat)) (e10.take ((Int.tmod (S6 ((x3:Nat):Int)) (l1.length:Int)).toNat))),.gen (cL cg S2 (l19.drop (((Int.tmod (S6 ((x3:Nat):Int)) (l1.length:Int)).toNat)+1)) (e10.drop (((Int.tmod (S6 ((x3:Nat):Int)) (l1.length:Int)).toNat)+1))),cV a19 l25,.arr b8 2 l19.length e10 t2,ot cg r19 l1 e0,zp b3 x1 x2 x3 x4 x5 x6,jG b1 a2 l4 b0 l1,cV a2 l4,.arr b0 2 l1.length e0 t0,iZ b2,dT H]) h43 (fun _ _ _=>rfl) ?_;rintro⟨a14,⟨a15,e11,r20⟩⟩ r35 r36 h11;refine TK (aa.lj (k:=6) rfl (gN h11).symm)<|Tf (fC (k:=6) Hl rfl rfl (cP h11) rfl rfl) rfl<|Wn.x (bY (es:=[[bN a14 l10,bN a15 l11]]) jd rfl (bZ jd z54 rfl rfl) rfl rfl) gn rfl fun b12=>?_;refine TK (Ti [1,2,3,0,4,5,6,7,8,9,10,11,12,13,14] rfl rfl)<|Wn.tR (o:=cg) (x:=(l10,l11)) (g:=(a14,(a15,e11,r20))) rfl ?_;intro r37;obtain⟨h44,hF⟩:=az hF;refine TK (Tj (k:=10) rfl)<|TK (Ti [6,0,10,1,2,3,4,5,7,8,9,11,12] rfl rfl)<|Wn.x (s7 (o:=cg) (L:=l1) (L':=([(l10,l11)]:SO)) jd ⟨_,u32⟩ rfl (.arr _ _ _ _ _) rfl h44) gn rfl ?_;rintro⟨a20,r21⟩;refine Tf (aG (r:=ptr b1 1) rfl (ep _ _)) rfl<|Wn.o0 (ek (k:=8) kY rfl rfl rfl rfl rfl)<|Tx (fun m hm=>dj.all rfl)<|At.bn<|Tn (Ti [0,1,2,5,7,8,9,10,11] rfl rfl)<|Tn (Ti [0,1,2,3,4,5,6,7,8] rfl rfl)<|Tn aa.gQ<|Tn (Tg (k:=1) rfl) ?_;cases hF;exact aT (a2,l4.length,a20,(l1++([(l10,l11)]:SO)).length,(e0++([[bN a14 l10,bN a15 l11]]:SS)),r21) (To (aa.vW (k:=6) rfl) (Ti [5,6,1,0,7,8] rfl rfl));refine wz ?_;rcases U hF with⟨h45,hF⟩|⟨h45,hF⟩;refine wz ?_;refine Tc (kC rfl (kz (by rw[u5]; rfl) u3)) rfl ?_
 refine wz ?_;obtain⟨h46,hF⟩:=az hF;refine Tc (aJ rfl rfl (bU _ _ h46)) rfl ?_;refine wz ?_;refine Tc (kC rfl (kz (by rw[u5]; rfl) u3)) rfl ?_
 refine wz ?_;obtain⟨h47,hF⟩:=az hF;refine Tc (aJ rfl rfl (bU _ _ h47)) rfl ?_;obtain⟨y1,h48,hF⟩:=J hF;refine Tc (aJ rfl rfl ((bu _ _ _).trans (cI h48))) rfl<|Tq (Ti [0,1,2,3,4,5,6,7,8,9,10] rfl rfl)<|Wo.G2 (o:=cg) (g:=(a0,(a1,e1,r3))) h1 h0 rfl ?_;intro r38;refine Tq (aa.lj (k:=4) rfl (gN h0)) ?_;obtain⟨l22,h49,hF⟩:=J hF;refine Tq (Tj (k:=4) rfl)<|Tq (Ti [4,0,1,2,3,5,6] rfl rfl)<|Ts (ln (α:=Nat->Prop) (V:=fun _=>.slice (some ⟨b0,0,none⟩) l22.length l1.length) (N:=(fun r6:Nat->Prop=>[.gen (cL cg r6 l22 (e0.take (Int.tmod (S6 ((x2:Nat):Int)) (l1.length:Int):Int).toNat++e0.drop (y1:Int).toNat)),.gen (mZ (some ⟨b0,0,none⟩) l1.length 2 l22.length (e0.take (Int.tmod (S6 ((x2:Nat):Int)) (l1.length:Int):Int).toNat++e0.drop (y1:Int).toNat)),zp b3 x1 x2 x3 x4 x5 x6,jG b1 a2 l4 b0 l1,cV a2 l4,iZ b2,dT H])) rfl rfl (fun m hm=>Je n hm h49)) gn rfl fun r6=>?_;refine wz ?_;refine Tn (Ti [0,1,2,3,4,5,6] rfl rfl)<|Tn aa.gQ<|Tn (aa.qF (k:=1) rfl) ?_;cases hF;exact aT (a2,l4.length,(some ⟨b0,0,none⟩),l1.length,(e0.take (Int.tmod (S6 ((x2:Nat):Int)) (l1.length:Int):Int).toNat++e0.drop (y1:Int).toNat),r6) (To (aa.vW (k:=4) rfl) (Ti [3,4,1,0,5,6] rfl rfl));refine wz ?_;rcases U hF with⟨h50,hF⟩|⟨h50,hF⟩;refine wz ?_;refine Tc (jb rfl) rfl<|Tc (aG (r:=ptr b0 ((Int.tmod (S6 ((x2:Nat):Int)) (l1.length:Int)).toNat*2+0)) rfl (dY _ _)) rfl<|Tc (fC (k:=8) jL rfl rfl (cP h0) rfl rfl) rfl ?_;refine au ?_;rcases U hF with⟨h51,hF⟩|⟨h51,hF⟩;refine wz ?_;refine Tc (jb rfl) rfl<|Tc (aG (r:=ptr b0 ((Int.tmod (S6 ((x2:Nat):Int)) (l1.length:Int)).toNat*2+0)) rfl (dY _ _)) rfl<|Tc (fC (k:=8) jL rfl rfl (cP h0) rfl rfl) rfl ?_;refine wz ?_;refine Tc (kC rfl (kz (by rw[u5]; rfl) u3)) rfl ?_
 refine wz ?_;obtain⟨h52,hF⟩:=az hF;refine Tc (aJ rfl rfl (bU _ _ h52)) rfl ?_;refine wz ?_;obtain⟨h53,hF⟩:=cO hF;refine Wo.open (k:=0) rfl (aM h53) ?_;rintro b5 t5 rfl h101;refine wz ?_;obtain⟨x18,h54,hF⟩:=J hF;refine Tz (sx (k:=0) (x1:=x18) (x2:=x4) cb rfl rfl rfl h54 rfl) ?_;refine wz ?_;refine Tn (Tj (k:=0) rfl)<|Tn (Tg (k:=0) rfl)<|Tn (Ti [2,0,1,3,4,5,6,7,8,9,10] rfl rfl)<|Tn aa.gQ<|Tn (Tg (k:=2) rfl)<|Tn (Ti [3,4,0,1,2,5,6,7,8,9,10] rfl rfl)<|At.ia (o:=cg) (r:=ak) (y:=((l2.set ((Int.tmod (S6 ((x3:Nat):Int)) (l2.length:Int)).toNat) x4),l3)) (g:=(((some ⟨b5,0,none⟩),l2.length),(a1,l3.length,e1))) (e2:=[vt b5 l2,bN a1 l3]) h1 h0 (Lf.p (Lf.sr (k:=1) rfl) (Lf.lr (k:=2) (q:=0) rfl rfl rfl)) (fun m hm=>by have e3:=pW (k:=1) (xs:=(l2.set ((Int.tmod (S6 ((x3:Nat):Int)) (l2.length:Int)).toNat) x4)) hm rfl; show([.slice (some ⟨b5,0,none⟩) ((l2.set ((Int.tmod (S6 ((x3:Nat):Int)) (l2.length:Int)).toNat) x4).length) l2.length,bN a1 l3]:TO SX)=_; rw[<-e3]) ?_
 intro r22;refine Tn (Tj (k:=7) rfl)<|Tn (Tg (k:=7) rfl) ?_;cases hF;exact aT (a2,l4.length,(some ⟨b0,0,none⟩),l1.length,(e0.set ((Int.tmod (S6 ((x2:Nat):Int)) (l1.length:Int)).toNat) [vt b5 l2,bN a1 l3]),r22) (To (aa.vW (k:=6) rfl) (Ti [5,6,7,0,8,9] rfl rfl));refine wz ?_;refine Tn (Tg (k:=0) rfl)<|Tn (Ti [2,0,1,3,4,5,6,7,8,9,10] rfl rfl)<|Tn aa.gQ<|Tn (Tg (k:=2) rfl)<|Tn (Ti [3,4,0,1,2,5,6,7,8,9,10] rfl rfl)<|At.ia (o:=cg) (r:=ak) (y:=(l2,l3)) (g:=((a0,l2.length),(a1,l3.length,e1))) (e2:=[bN a0 l2,bN a1 l3]) h1 h0 (Lf.p (Lf.sr (k:=1) rfl) (Lf.lr (k:=2) (q:=0) rfl rfl rfl)) (fun _ _=>rfl) ?_;intro r23;refine Tn (Tj (k:=7) rfl)<|Tn (Tg (k:=7) rfl) ?_;cases hF;exact aT (a2,l4.length,(some ⟨b0,0,none⟩),l1.length,(e0.set ((Int.tmod (S6 ((x2:Nat):Int)) (l1.length:Int)).toNat) [bN a0 l2,bN a1 l3]),r23) (To (aa.vW (k:=6) rfl) (Ti [5,6,7,0,8,9] rfl rfl));refine wz ?_;rcases U hF with⟨h55,hF⟩|⟨h55,hF⟩;refine wz ?_;refine Tc (jb rfl) rfl<|Tc (aG (r:=ptr b0 ((Int.tmod (S6 ((x2:Nat):Int)) (l1.length:Int)).toNat*2+0)) rfl (dY _ _)) rfl<|Tc (fC (k:=8) jL rfl rfl (cP h0) rfl rfl) rfl ?_;obtain⟨l20,h56,hF⟩:=J hF;refine wq (fun l20 ((e6,r7):SS ×(Nat->Prop))=>(.tuple #[],[jG b1 a2 l4 b0 l1,cV a2 l4,.rd (some ⟨b0,0,none⟩) l1.length 2 l1.length e6,fO ak r7 l20 e6,iZ b2,dT H])) l20 (fun m hm=>?_) ?_;clear hF;revert l20;intro r hF;refine aQ (N:=28) (rs:=[]) rfl Try.func46 rfl rfl rfl hm ?_;refine wz ?_;refine Th ?_;obtain⟨l16,h4,hF⟩:=J hF;refine ct (fun l16 (_:TP)=>⟨(.exit 0),[],[jG b1 a2 l4 b0 l1,cV a2 l4,.arr b0 2 l1.length (e0.set ((Int.tmod (S6 ((x2:Nat):Int)) (l1.length:Int)).toNat) [bN a0 l2,bN a1 l3]) t0,.sl a0 1 l2.length (l16.map (eI .i64)),.sl a1 1 l3.length e1,ot gP r3 l3 e1,.gen (cL cg r0 (l1.take ((Int.tmod (S6 ((x2:Nat):Int)) (l1.length:Int)).toNat)) (e0.take ((Int.tmod (S6 ((x2:Nat):Int)) (l1.length:Int)).toNat))),.gen (cL cg r1 (l1.drop (((Int.tmod (S6 ((x2:Nat):Int)) (l1.length:Int)).toNat)+1)) (e0.drop (((Int.tmod (S6 ((x2:Nat):Int)) (l1.length:Int)).toNat)+1))),iZ b2,dT H]⟩) l16 ?_ ?_;refine lo h4 () [0,6,7,8,1,2,3,4,9,10] (fun(l26,v1,v2) _=>⟨.normal,[(0,bN a0 l2),(2,ba v1),(3,ba v2)],[.sl a0 1 l2.length (l26.map (eI .i64)),jG b1 a2 l4 b0 l1,cV a2 l4,.arr b0 2 l1.length (e0.set ((Int.tmod (S6 ((x2:Nat):Int)) (l1.length:Int)).toNat) [bN a0 l2,bN a1 l3]) t0,.sl a1 1 l3.length e1,ot gP r3 l3 e1,.gen (cL cg r0 (l1.take ((Int.tmod (S6 ((x2:Nat):Int)) (l1.length:Int)).toNat)) (e0.take ((Int.tmod (S6 ((x2:Nat):Int)) (l1.length:Int)).toNat))),.gen (cL cg r1 (l1.drop (((Int.tmod (S6 ((x2:Nat):Int)) (l1.length:Int)).toNat)+1)) (e0.drop (((Int.tmod (S6 ((x2:Nat):Int)) (l1.length:Int)).toNat)+1))),iZ b2,dT H]⟩) ?_;clear hF h4;rintro⟨l26,v1,v2⟩ ⟨⟩ r hF;unfold sq at hF;refine wz ?_;rcases U hF with⟨h57,hF⟩|⟨h57,hF⟩;refine au ?_;obtain⟨h58,hF⟩:=cO hF;refine Wo.open (k:=0) rfl (aM h58) ?_;rintro b13 t6 rfl h102;refine wz ?_;obtain⟨x19,h103,hF⟩:=J hF;refine wz ?_;obtain⟨h104,hF⟩:=cO hF;refine wz ?_;obtain⟨x10,h59,hF⟩:=J hF;refine wz ?_;obtain⟨h105,hF⟩:=cO hF;refine wz ?_;refine Tz (sx (k:=0) (x1:=x10) (x2:=x19) cb rfl rfl rfl h59 rfl) ?_;obtain⟨h106,hF⟩:=cO hF;refine wz ?_;obtain⟨x20,h60,hF⟩:=J hF;refine Tz (sx (k:=0) (x1:=x20) (x2:=x10) cb rfl rfl rfl h60 rfl) ?_;refine au ?_;cases hF;exact aT () (To (Tj (k:=0) rfl) (Ti [0,1,2,3,4,5,6,7,8,9] rfl rfl));refine wz ?_;cases hF;exact ae () (1::2::3::0::TL 4 6);rintro⟨⟩;refine TJ<|Tn (Tg (k:=3) rfl)<|Tn (Ti [5,0,1,2,3,4,6,7,8,9] rfl rfl)<|Tn aa.gQ<|Tn (Tg (k:=5) rfl)<|Tn (Ti [6,7,0,1,2,3,4,5,8,9] rfl rfl)<|At.ia (o:=cg) (r:=ak) (y:=(l16,l3)) (g:=((a0,l2.length),(a1,l3.length,e1))) (e2:=[bN a0 l2,bN a1 l3]) h1 h0 (Lf.p (Lf.sr (k:=4) rfl) (Lf.lr (k:=5) (q:=0) rfl rfl rfl)) (fun m hm=>by have e3:=pW (k:=4) (xs:=l16) hm rfl; show([.slice a0 l16.length l2.length,bN a1 l3]:TO SX)=_; rw[<-e3]) ?_
 intro r24;refine Tn (Tj (k:=4) rfl)<|Tn (Tg (k:=4) rfl) ?_;cases hF;exact At.fin .nil fun m' hm=>⟨((e0.set ((Int.tmod (S6 ((x2:Nat):Int)) (l1.length:Int)).toNat) [bN a0 l2,bN a1 l3]),r24),rfl,(Ti [2,3,4,0,7,8] rfl rfl) m' hm⟩;rintro⟨e6,r7⟩;refine wz ?_;cases hF;exact aT (a2,l4.length,(some ⟨b0,0,none⟩),l1.length,e6,r7) (To (aa.vW (k:=1) rfl) (Ti [0,1,2,3,4,5] rfl rfl));refine wz ?_;rcases U hF with⟨h61,hF⟩|⟨h61,hF⟩;refine wz ?_;refine Tc (jb rfl) rfl<|Tc (aG (r:=ptr b0 ((Int.tmod (S6 ((x2:Nat):Int)) (l1.length:Int)).toNat*2+1)) rfl (eO _ _)) rfl<|Tz (np (k:=8) (j:=(Int.tmod (S6 ((x2:Nat):Int)) (l1.length:Int)).toNat) (c:=1) (e:=[bN a0 l2,bN a1 l3]) (e':=[bN a0 l2,.slice none 0 0]) kT rfl rfl rfl (cP h0) rfl)<|Tq (aa.lj (k:=8) rfl (List.set_set _)) ?_;refine wz ?_;refine Tn (Tg (k:=0) rfl)<|Tn (Ti [3,4,0,1,2,5,6,7,8,9,10] rfl rfl)<|At.ia (o:=cg) (r:=ak) (y:=(l2,[])) (g:=((a0,l2.length),(none,0,[]))) (e2:=[bN a0 l2,.slice none 0 0]) h1 h0 (Lf.p (Lf.sr (k:=0) rfl) Lf.l0) (fun _ _=>rfl) ?_;intro r25;refine Tn (Tj (k:=7) rfl)<|Tn (Tg (k:=7) rfl)<|Tn (Ti [3,0,1,2,4,5,6,7,8,9] rfl rfl)<|Tn aa.gQ<|Tn (Tg (k:=3) rfl) ?_;cases hF;exact aT (a2,l4.length,(some ⟨b0,0,none⟩),l1.length,(e0.set ((Int.tmod (S6 ((x2:Nat):Int)) (l1.length:Int)).toNat) [bN a0 l2,.slice none 0 0]),r25) (To (aa.vW (k:=6) rfl) (Ti [5,6,7,1,8,9] rfl rfl));refine wz ?_;rcases U hF with⟨h12,hF⟩|⟨h12,hF⟩;refine Ty rfl h12<|Td<|TB (prs:=[(4,15)]) (by kernel_rfl)<|Tf (aS rfl) rfl<|Tf (aS rfl) rfl<|Tf (jb rfl) rfl<|Tf (aG (r:=ptr b0 ((Int.tmod (S6 ((x2:Nat):Int)) (l1.length:Int)).toNat*2+1)) rfl (eO _ _)) rfl<|Tf (fC (k:=8) kT rfl rfl (cP h0) rfl rfl) rfl<|Tf (aG (r:=ptr b1 1) rfl (ep _ _)) rfl<|Tf (aH (k:=6) kY rfl rfl rfl) rfl<|Tf (aG (r:=ptr b3 2) rfl (sK _ _)) rfl ?_
 refine Tf (aH (k:=5) LL rfl rfl rfl) rfl<|Tf (kC rfl (kz (by rw[u5]; rfl) u3)) rfl<|Tf (aS rfl) rfl ?_
 obtain⟨h62,hF⟩:=az hF;refine Tf (aJ rfl rfl (bU _ _ h62)) rfl ?_;obtain⟨h63,hF⟩:=cO hF;refine TG (sC jd rfl rfl h63) gn rfl<|Tf (aG (r:=ptr b0 ((Int.tmod (S6 ((x3:Nat):Int)) (l1.length:Int)).toNat*2+0)) rfl (dY _ _)) rfl ?_;obtain⟨⟨l27,l30⟩,h64,hF⟩:=J hF;refine Wn.q5 (q0:=0) (q1:=3) (q2:=4) h1 h0 h64 rfl rfl rfl ?_;intro a21 v5 h65 h66;refine Tf (fC (k:=8) jL rfl rfl (by rw[gN h0]; exact h65) rfl rfl) rfl ?_
 obtain⟨l5,h67,hF⟩:=J hF;refine nc gn (fun m hm=>sV n l27 a21 l27.length _ h67 m (h66 m hm)) ?_;rintro⟨a3,n8⟩;refine Wn.len (k:=0) (xs:=l5) rfl ?_;rintro rfl;refine Wn.x (bY (es:=[[bN a3 l5]]) pw rfl (bZ pw z51 rfl rfl) rfl rfl) gn rfl fun b9=>?_;refine TK (Ti [1,0,2,3,4,5,6,7,8,9,10,11,12] rfl rfl)<|Wn.tR (o:=gP) (x:=l5) (g:=a3) rfl ?_;intro r39;obtain⟨h68,hF⟩:=az hF;refine TK (Ti [4,0,3,1,2,5,6,7,8,9,10,11,12] rfl rfl)<|Wn.x (s7 (o:=gP) (L:=l3) (L':=([l5]:SR)) pw ⟨_,HW⟩ rfl (.arr _ _ _ _ _) rfl h68) gn rfl ?_;rintro⟨a22,r40⟩;refine Tf (jb rfl) rfl<|Tf (aG (r:=ptr b0 ((Int.tmod (S6 ((x2:Nat):Int)) (l1.length:Int)).toNat*2+1)) rfl (eO _ _)) rfl<|Wn.o0 (np (k:=9) (j:=(Int.tmod (S6 ((x2:Nat):Int)) (l1.length:Int)).toNat) (c:=1) (e:=[bN a0 l2,bN a1 l3]) (e':=[bN a0 l2,.slice a22 ((l3++([l5]:SR)).length) ((l3++([l5]:SR)).length)]) kT rfl rfl rfl (cP h0) rfl)<|TK (aa.lj (k:=9) rfl (List.set_set _))<|Tx (fun m hm=>dj.all rfl) ?_;refine au ?_;refine Tc (jb rfl) rfl<|Tc (aG (r:=ptr b0 ((Int.tmod (S6 ((x2:Nat):Int)) (l1.length:Int)).toNat*2+1)) rfl (eO _ _)) rfl<|Tc (fC (k:=9) kT rfl rfl (cP h0) rfl rfl) rfl ?_;refine wz ?_;refine Tc (jb rfl) rfl<|Tc (aG (r:=ptr b0 ((Int.tmod (S6 ((x2:Nat):Int)) (l1.length:Int)).toNat*2+1)) rfl (eO _ _)) rfl<|Tc (fC (k:=9) kT rfl rfl (cP h0) rfl rfl) rfl<|Tc (nX (k:=1) HW rfl rfl (.inl rfl)) rfl ?_;obtain⟨y0,h69,hF⟩:=J hF;refine Tc (aJ rfl rfl ((cR _ _ _).trans (cI h69))) rfl ?_;obtain⟨h13,hF⟩:=cO hF;refine Wo.open (k:=1) rfl (aM h13) ?_;rintro b4 t1 rfl h107;refine Tu (sC pw rfl rfl h13) gn rfl ?_;obtain⟨l6,h14,hF⟩:=J hF;refine Tq (Ti [0,1,2,3,4,5,6,7,8,9,10,11] rfl rfl)<|Wo.Bo (o:=gP) (j:=y0.toNat) (x:=l6) (N:=fun g S1 S2=>[.sl g 1 l6.length (l6.map (eI .i64)),.gen (cL gP S1 ((l3++([l5]:SR)).take y0.toNat) ((e1++([[bN a3 l5]]:SS)).take y0.toNat)),.gen (cL gP S2 ((l3++([l5]:SR)).drop (y0.toNat+1)) ((e1++([[bN a3 l5]]:SS)).drop (y0.toNat+1))),.arr b4 1 ((l3++([l5]:SR)).length) (e1++([[bN a3 l5]]:SS)) t1,.arr b9 1 1 ([[bN a3 l5]]) .own,vA a0 l2,.gen (cL cg r0 (l1.take ((Int.tmod (S6 ((x2:Nat):Int)) (l1.length:Int)).toNat)) (e0.take ((Int.tmod (S6 ((x2:Nat):Int)) (l1.length:Int)).toNat))),.gen (cL cg r1 (l1.drop (((Int.tmod (S6 ((x2:Nat):Int)) (l1.length:Int)).toNat)+1)) (e0.drop (((Int.tmod (S6 ((x2:Nat):Int)) (l1.length:Int)).toNat)+1))),zp b3 x1 x2 x3 x4 x5 x6,jG b1 a2 l4 b0 l1,cV a2 l4,.arr b0 2 l1.length (e0.set ((Int.tmod (S6 ((x2:Nat):Int)) (l1.length:Int)).toNat) [bN a0 l2,El b4 l3 l5]) t0,iZ b2,dT H]) h14 (fun _ _ _=>rfl) ?_;rintro a4 r12 r13 h5;refine Tq (aa.lj (k:=3) rfl (gN h5).symm)<|Tc (fC (k:=3) jL rfl rfl (cP h5) rfl rfl) rfl ?_;obtain⟨l21,h70,hF⟩:=J hF;refine wq (fun l21 ((e7,r8):SS ×(Nat->Prop))=>(.tuple #[],[jG b1 a2 l4 b0 l1,cV a2 l4,.rd (some ⟨b0,0,none⟩) l1.length 2 l1.length e7,fO ak r8 l21 e7,iZ b2,dT H])) l21 (fun m hm=>?_) ?_;clear hF;revert l21;intro r hF;refine aQ (N:=28) (rs:=[]) rfl Try.func46 rfl rfl rfl hm ?_;refine wz ?_;refine Th ?_;obtain⟨l8,h6,hF⟩:=J hF;refine ct (fun l8 (_:TP)=>⟨(.exit 0),[],[jG b1 a2 l4 b0 l1,cV a2 l4,.arr b0 2 l1.length (e0.set ((Int.tmod (S6 ((x2:Nat):Int)) (l1.length:Int)).toNat) [bN a0 l2,El b4 l3 l5]) t0,vA a0 l2,.arr b4 1 ((l3++([l5]:SR)).length) ((e1++([[bN a3 l5]]:SS)).set y0.toNat [bN a4 l6]) t1,.sl a4 1 l6.length (l8.map (eI .i64)),.gen (cL gP r12 ((l3++([l5]:SR)).take y0.toNat) ((e1++([[bN a3 l5]]:SS)).take y0.toNat)),.gen (cL gP r13 ((l3++([l5]:SR)).drop (y0.toNat+1)) ((e1++([[bN a3 l5]]:SS)).drop (y0.toNat+1))),.gen (cL cg r0 (l1.take ((Int.tmod (S6 ((x2:Nat):Int)) (l1.length:Int)).toNat)) (e0.take ((Int.tmod (S6 ((x2:Nat):Int)) (l1.length:Int)).toNat))),.gen (cL cg r1 (l1.drop (((Int.tmod (S6 ((x2:Nat):Int)) (l1.length:Int)).toNat)+1)) (e0.drop (((Int.tmod (S6 ((x2:Nat):Int)) (l1.length:Int)).toNat)+1))),iZ b2,dT H]⟩) l8 ?_ ?_;refine lo h6 () [0,9,10,11,5,3,1,2,6,7,12,13] (fun(l28,v3,v4) _=>⟨.normal,[(0,bN a4 l6),(2,ba v3),(3,ba v4)],[.sl a4 1 l6.length (l28.map (eI .i64)),jG b1 a2 l4 b0 l1,cV a2 l4,.arr b0 2 l1.length (e0.set ((Int.tmod (S6 ((x2:Nat):Int)) (l1.length:Int)).toNat) [bN a0 l2,El b4 l3 l5]) t0,vA a0 l2,.arr b4 1 ((l3++([l5]:SR)).length) ((e1++([[bN a3 l5]]:SS)).set y0.toNat [bN a4 l6]) t1,.gen (cL gP r12 ((l3++([l5]:SR)).take y0.toNat) ((e1++([[bN a3 l5]]:SS)).take y0.toNat)),.gen (cL gP r13 ((l3++([l5]:SR)).drop (y0.toNat+1)) ((e1++([[bN a3 l5]]:SS)).drop (y0.toNat+1))),.gen (cL cg r0 (l1.take ((Int.tmod (S6 ((x2:Nat):Int)) (l1.length:Int)).toNat)) (e0.take ((Int.tmod (S6 ((x2:Nat):Int)) (l1.length:Int)).toNat))),.gen (cL cg r1 (l1.drop (((Int.tmod (S6 ((x2:Nat):Int)) (l1.length:Int)).toNat)+1)) (e0.drop (((Int.tmod (S6 ((x2:Nat):Int)) (l1.length:Int)).toNat)+1))),iZ b2,dT H]⟩) ?_;clear hF h6;rintro⟨l28,v3,v4⟩ ⟨⟩ r hF;unfold G7 at hF;refine wz ?_;rcases U hF with⟨h71,hF⟩|⟨h71,hF⟩;refine au ?_;obtain⟨h72,hF⟩:=cO hF;refine Wo.open (k:=0) rfl (aM h72) ?_;rintro b14 t7 rfl h108;refine wz ?_;obtain⟨x21,h109,hF⟩:=J hF;refine wz ?_;obtain⟨h110,hF⟩:=cO hF;refine wz ?_;obtain⟨x11,h73,hF⟩:=J hF;refine wz ?_;obtain⟨h111,hF⟩:=cO hF;refine wz ?_;refine Tz (sx (k:=0) (x1:=x11) (x2:=x21) cb rfl rfl rfl h73 rfl) ?_;obtain⟨h112,hF⟩:=cO hF;refine wz ?_;obtain⟨x22,h74,hF⟩:=J hF;refine Tz (sx (k:=0) (x1:=x22) (x2:=x11) cb rfl rfl rfl h74 rfl) ?_;refine au ?_;cases hF;exact aT () (To (Tj (k:=0) rfl) (Ti [0,1,2,3,4,5,6,7,8,9,10,11] rfl rfl));refine wz ?_;cases hF;exact ae () (1::2::3::4::5::0::TL 6 6);rintro⟨⟩;refine TJ<|Tn (Tg (k:=3) rfl)<|Tn (Tg (k:=5) rfl)<|Tn (Ti [6,7,0,1,2,3,4,5,8,9,10,11] rfl rfl)<|At.ia (o:=gP) (r:=bg) (y:=l8) (g:=(a4,l6.length)) (e2:=[bN a4 l6]) h14 h5 (Lf.sr (k:=5) rfl) (fun m hm=>by have e3:=pW (k:=5) (xs:=l8) hm rfl; show([.slice a4 l8.length l6.length]:TO SX)=_; rw[<-e3]) ?_
 intro r41;refine Tn (Tj (k:=5) rfl)<|Tn (Tg (k:=5) rfl)<|Tn (Ti [7,8,0,1,2,3,4,5,6,9,10] rfl rfl)<|At.ia (o:=cg) (r:=ak) (y:=(l2,((l3++([l5]:SR)).set y0.toNat l8))) (g:=((a0,l2.length),((some ⟨b4,0,none⟩),(l3++([l5]:SR)).length,((e1++([[bN a3 l5]]:SS)).set y0.toNat [bN a4 l6])))) (e2:=[bN a0 l2,El b4 l3 l5]) h1 h0 (Lf.p (Lf.sr (k:=4) rfl) (Lf.lr (k:=5) (q:=0) rfl rfl rfl)) (fun m hm=>by have e3:=(hm.get (k:=5) rfl).1.symm.trans (lP (q:=0) (L:=((l3++([l5]:SR)).set y0.toNat l8)) hm rfl); show([bN a0 l2,.slice (some ⟨b4,0,none⟩) (((l3++([l5]:SR)).set y0.toNat l8).length) ((l3++([l5]:SR)).length)]:TO SX)=_; rw[<-e3]) ?_
 intro r26;refine Tn (Tj (k:=4) rfl)<|Tn (Tg (k:=4) rfl) ?_;cases hF;exact At.fin .nil fun m' hm=>⟨((e0.set ((Int.tmod (S6 ((x2:Nat):Int)) (l1.length:Int)).toNat) [bN a0 l2,El b4 l3 l5]),r26),rfl,(Ti [2,3,4,0,8,9] rfl rfl) m' hm⟩;rintro⟨e7,r8⟩;refine wz ?_;cases hF;exact aT (a2,l4.length,(some ⟨b0,0,none⟩),l1.length,e7,r8) (To (aa.vW (k:=1) rfl) (Ti [0,1,2,3,4,5] rfl rfl));refine wz ?_;rcases U hF with⟨h75,hF⟩|⟨h75,hF⟩;refine wz ?_;refine Tc (jb rfl) rfl<|Tc (aG (r:=ptr b0 ((Int.tmod (S6 ((x2:Nat):Int)) (l1.length:Int)).toNat*2+0)) rfl (dY _ _)) rfl<|Tc (fC (k:=8) jL rfl rfl (cP h0) rfl rfl) rfl ?_;refine au ?_;rcases U hF with⟨h76,hF⟩|⟨h76,hF⟩;refine wz ?_;refine Tc (jb rfl) rfl<|Tc (aG (r:=ptr b0 ((Int.tmod (S6 ((x2:Nat):Int)) (l1.length:Int)).toNat*2+0)) rfl (dY _ _)) rfl<|Tc (fC (k:=8) jL rfl rfl (cP h0) rfl rfl) rfl ?_;refine wz ?_;refine Tc (kC rfl (kz (by rw[u5]; rfl) u3)) rfl ?_
 refine wz ?_;obtain⟨h77,hF⟩:=az hF;refine Tc (aJ rfl rfl (bU _ _ h77)) rfl ?_;refine wz ?_;refine Tc (kC rfl (kz (by rw[u5]; rfl) u3)) rfl ?_
 refine wz ?_;obtain⟨h78,hF⟩:=az hF;refine Tc (aJ rfl rfl (bU _ _ h78)) rfl ?_;obtain⟨y2,h79,hF⟩:=J hF;refine Tc (aJ rfl rfl ((bu _ _ _).trans (cI h79))) rfl ?_;obtain⟨l13,h80,hF⟩:=J hF;refine Ts (ln (α:=TP) (V:=fun _=>.slice a0 l13.length l2.length) (N:=fun _:TP=>bI [vA a0 l2,.sl a1 1 l3.length e1,ot gP r3 l3 e1,.gen (cL cg r0 (l1.take ((Int.tmod (S6 ((x2:Nat):Int)) (l1.length:Int)).toNat)) (e0.take ((Int.tmod (S6 ((x2:Nat):Int)) (l1.length:Int)).toNat))),.gen (cL cg r1 (l1.drop (((Int.tmod (S6 ((x2:Nat):Int)) (l1.length:Int)).toNat)+1)) (e0.drop (((Int.tmod (S6 ((x2:Nat):Int)) (l1.length:Int)).toNat)+1))),zp b3 x1 x2 x3 x4 x5 x6,jG b1 a2 l4 b0 l1,cV a2 l4,.arr b0 2 l1.length (e0.set ((Int.tmod (S6 ((x2:Nat):Int)) (l1.length:Int)).toNat) [bN a0 l2,bN a1 l3]) t0,iZ b2,dT H] 0 (.gen (mZ a0 l2.length 1 l13.length (l13.map (eI .i64))))) rfl rfl (fun m hm=>IQ n hm (k:=0) rfl h80)) gn rfl fun _=>?_;refine Tc (jb rfl) rfl<|Tc (aG (r:=ptr b0 ((Int.tmod (S6 ((x2:Nat):Int)) (l1.length:Int)).toNat*2+0)) rfl (dY _ _)) rfl<|Tz (np (k:=8) (j:=(Int.tmod (S6 ((x2:Nat):Int)) (l1.length:Int)).toNat) (c:=0) (e:=[bN a0 l2,bN a1 l3]) (e':=[.slice a0 l13.length l2.length,bN a1 l3]) jL rfl rfl rfl (cP h0) rfl)<|Tq (aa.lj (k:=8) rfl (List.set_set _)) ?_;refine wz ?_;refine Tn (aa.qF (k:=0) rfl)<|Tn (Ti [2,0,1,3,4,5,6,7,8,9,10] rfl rfl)<|Tn aa.gQ<|Tn (Tg (k:=2) rfl)<|Tn (Ti [3,4,0,1,2,5,6,7,8,9,10] rfl rfl)<|At.ia (o:=cg) (r:=ak) (y:=(l13,l3)) (g:=((a0,l2.length),(a1,l3.length,e1))) (e2:=[.slice a0 l13.length l2.length,bN a1 l3]) h1 h0 (Lf.p (Lf.sr (k:=1) rfl) (Lf.lr (k:=2) (q:=0) rfl rfl rfl)) (fun _ _=>rfl) ?_;intro r27;refine Tn (Tj (k:=7) rfl)<|Tn (Tg (k:=7) rfl) ?_;cases hF;exact aT (a2,l4.length,(some ⟨b0,0,none⟩),l1.length,(e0.set ((Int.tmod (S6 ((x2:Nat):Int)) (l1.length:Int)).toNat) [.slice a0 l13.length l2.length,bN a1 l3]),r27) (To (aa.vW (k:=6) rfl) (Ti [5,6,7,0,8,9] rfl rfl));refine wz ?_;refine Tn (Tg (k:=0) rfl)<|Tn (Ti [2,0,1,3,4,5,6,7,8,9,10] rfl rfl)<|Tn aa.gQ<|Tn (Tg (k:=2) rfl)<|Tn (Ti [3,4,0,1,2,5,6,7,8,9,10] rfl rfl)<|At.ia (o:=cg) (r:=ak) (y:=(l2,l3)) (g:=((a0,l2.length),(a1,l3.length,e1))) (e2:=[bN a0 l2,bN a1 l3]) h1 h0 (Lf.p (Lf.sr (k:=1) rfl) (Lf.lr (k:=2) (q:=0) rfl rfl rfl)) (fun _ _=>rfl) ?_;intro r28;refine Tn (Tj (k:=7) rfl)<|Tn (Tg (k:=7) rfl) ?_;cases hF;exact aT (a2,l4.length,(some ⟨b0,0,none⟩),l1.length,(e0.set ((Int.tmod (S6 ((x2:Nat):Int)) (l1.length:Int)).toNat) [bN a0 l2,bN a1 l3]),r28) (To (aa.vW (k:=6) rfl) (Ti [5,6,7,0,8,9] rfl rfl));refine wz ?_;rcases U hF with⟨h81,hF⟩|⟨h81,hF⟩;refine wz ?_;refine Tc (jb rfl) rfl<|Tc (aG (r:=ptr b0 ((Int.tmod (S6 ((x2:Nat):Int)) (l1.length:Int)).toNat*2+0)) rfl (dY _ _)) rfl<|Tc (fC (k:=8) jL rfl rfl (cP h0) rfl rfl) rfl ?_;refine wz ?_;refine Tc (kC rfl (kz (by rw[u5]; rfl) u3)) rfl ?_
 refine wz ?_;refine Tc (jb rfl) rfl<|Tc (aG (r:=ptr b0 ((Int.tmod (S6 ((x2:Nat):Int)) (l1.length:Int)).toNat*2+0)) rfl (dY _ _)) rfl<|Tc (fC (k:=8) jL rfl rfl (cP h0) rfl rfl) rfl<|Tc (nX (k:=0) Ma rfl rfl (.inl rfl)) rfl<|Tc (aJ rfl rfl (bu _ _ _)) rfl ?_;obtain⟨h82,hF⟩:=az hF;obtain⟨y3,h83,hF⟩:=J hF;refine Tc (aJ rfl rfl ((bU _ _ h82).trans (cI h83))) rfl ?_;refine wz ?_;refine Tc (aJ rfl rfl (Mk _ _)) rfl ?_;refine wz ?_;obtain⟨h84,hF⟩:=az hF;refine Tc (aJ rfl rfl (bU _ _ h84)) rfl<|Ts (bY (es:=([Int.tmod (FK .i64 x4 127) (l4.length:Int)]:TO (Int)).map (eI .i64)) eU rfl (bZ eU z3 rfl rfl) rfl rfl) gn rfl fun b10=>?_;obtain⟨l14,h85,hF⟩:=J hF;refine Ts (ln (α:=SU×Nat) (V:=fun y=>.slice y.1 y.2 y.2) (N:=fun y=>bI [.arr b10 1 1 (([Int.tmod (FK .i64 x4 127) (l4.length:Int)]).map (eI .i64)) .own,vA a0 l2,.sl a1 1 l3.length e1,ot gP r3 l3 e1,.gen (cL cg r0 (l1.take ((Int.tmod (S6 ((x2:Nat):Int)) (l1.length:Int)).toNat)) (e0.take ((Int.tmod (S6 ((x2:Nat):Int)) (l1.length:Int)).toNat))),.gen (cL cg r1 (l1.drop (((Int.tmod (S6 ((x2:Nat):Int)) (l1.length:Int)).toNat)+1)) (e0.drop (((Int.tmod (S6 ((x2:Nat):Int)) (l1.length:Int)).toNat)+1))),zp b3 x1 x2 x3 x4 x5 x6,jG b1 a2 l4 b0 l1,cV a2 l4,.arr b0 2 l1.length (e0.set ((Int.tmod (S6 ((x2:Nat):Int)) (l1.length:Int)).toNat) [bN a0 l2,bN a1 l3]) t0,iZ b2,dT H] 1 (.sl y.1 1 y.2 (l14.map (eI .i64)))) rfl rfl (fun m hm=>Jl n hm (k:=1) rfl (k2:=0) rfl rfl h85)) gn rfl ?_;rintro⟨a11,n9⟩;refine TI (k:=1) (xs:=l14) rfl ?_;rintro rfl;refine Tc (jb rfl) rfl<|Tc (aG (r:=ptr b0 ((Int.tmod (S6 ((x2:Nat):Int)) (l1.length:Int)).toNat*2+0)) rfl (dY _ _)) rfl<|Tz (np (k:=9) (j:=(Int.tmod (S6 ((x2:Nat):Int)) (l1.length:Int)).toNat) (c:=0) (e:=[bN a0 l2,bN a1 l3]) (e':=[bN a11 l14,bN a1 l3]) jL rfl rfl rfl (cP h0) rfl)<|Tq (aa.lj (k:=9) rfl (List.set_set _)) ?_;refine wz ?_;refine Tn (Tg (k:=1) rfl)<|Tn (Ti [3,0,1,2,4,5,6,7,8,9,10,11] rfl rfl)<|Tn aa.gQ<|Tn (Tg (k:=3) rfl)<|Tn (Ti [4,5,0,1,2,3,6,7,8,9,10,11] rfl rfl)<|At.ia (o:=cg) (r:=ak) (y:=(l14,l3)) (g:=((a11,l14.length),(a1,l3.length,e1))) (e2:=[bN a11 l14,bN a1 l3]) h1 h0 (Lf.p (Lf.sr (k:=2) rfl) (Lf.lr (k:=3) (q:=0) rfl rfl rfl)) (fun _ _=>rfl) ?_;intro r29;refine Tn (Tj (k:=8) rfl)<|Tn (Tg (k:=8) rfl) ?_;cases hF;exact aT (a2,l4.length,(some ⟨b0,0,none⟩),l1.length,(e0.set ((Int.tmod (S6 ((x2:Nat):Int)) (l1.length:Int)).toNat) [bN a11 l14,bN a1 l3]),r29) (To (aa.vW (k:=7) rfl) (Ti [6,7,8,0,9,10] rfl rfl));refine wz ?_;rcases U hF with⟨h15,hF⟩|⟨h15,hF⟩;refine wz ?_;refine Tc (jb rfl) rfl<|Tc (aG (r:=ptr b0 ((Int.tmod (S6 ((x2:Nat):Int)) (l1.length:Int)).toNat*2+0)) rfl (dY _ _)) rfl<|Tc (fC (k:=8) jL rfl rfl (cP h0) rfl rfl) rfl ?_;refine au ?_;rcases U hF with⟨h16,hF⟩|⟨h16,hF⟩;refine Ty rfl h16<|TB (prs:=[(11,15),(11,17),(11,21)]) (by kernel_rfl)<|Tf (aS rfl) rfl<|Tf (aS rfl) rfl<|Tf (jb rfl) rfl<|Tf (aG (r:=ptr b0 ((Int.tmod (S6 ((x2:Nat):Int)) (l1.length:Int)).toNat*2+0)) rfl (dY _ _)) rfl<|Tf (fC (k:=8) jL rfl rfl (cP h0) rfl rfl) rfl<|Tf (aG (r:=ptr b3 2) rfl (sK _ _)) rfl<|Tf (aH (k:=5) LL rfl rfl rfl) rfl<|Tf (kC rfl (kz (by rw[u5]; rfl) u3)) rfl ?_
 refine Tf (aS rfl) rfl ?_;obtain⟨h86,hF⟩:=az hF;refine Tf (aJ rfl rfl (bU _ _ h86)) rfl ?_;obtain⟨h87,hF⟩:=az hF;refine TK (Tg (k:=0) rfl)<|Wn.x (xH (k:=0) (lo:=Int.tmod (S6 ((x3:Nat):Int)) (l2.length:Int)) (hi:=(l2.length:Int)) eU rfl rfl rfl rfl h87 (.inr ⟨_,rfl⟩) (.inl ⟨rfl,rfl⟩)) gn rfl ?_;rintro⟨a23,c4⟩;obtain⟨l7,h88,hF⟩:=J hF;refine nc gn (fun m hm=>sV n ((l2.drop (Int.tmod (S6 ((x3:Nat):Int)) (l2.length:Int):Int).toNat).take (((l2.length:Int):Int).toNat-(Int.tmod (S6 ((x3:Nat):Int)) (l2.length:Int):Int).toNat)) a23 c4 _ h88 m (hm.q 0)) ?_;rintro⟨a25,n10⟩;refine Wn.len (k:=0) (xs:=l7) rfl ?_;rintro rfl;refine Tf (aS rfl) rfl<|Tf (jb rfl) rfl<|Tf (aG (r:=ptr b0 ((Int.tmod (S6 ((x2:Nat):Int)) (l1.length:Int)).toNat*2+0)) rfl (dY _ _)) rfl<|Tf (fC (k:=10) jL rfl rfl (cP h0) rfl rfl) rfl<|Tf (aG (r:=ptr b3 2) rfl (sK _ _)) rfl<|Tf (aH (k:=7) LL rfl rfl rfl) rfl<|Tf (kC rfl (kz (by rw[u5]; rfl) u3)) rfl<|Tf (aS rfl) rfl ?_
 obtain⟨h89,hF⟩:=az hF;refine Tf (aJ rfl rfl (bU _ _ h89)) rfl ?_;obtain⟨h90,hF⟩:=az hF;refine Wn.x (xH (k:=2) (lo:=0) (hi:=Int.tmod (S6 ((x3:Nat):Int)) (l2.length:Int)) eU rfl rfl rfl rfl h90 (.inl ⟨rfl,rfl⟩) (.inr ⟨_,rfl⟩)) gn rfl ?_;rintro⟨a26,c5⟩;obtain⟨h91,hF⟩:=az hF;refine Wn.x (so (k:=1) (k2:=0) (xs:=(l7:TO (Int))) (ys:=(((l2.drop S7).take ((Int.tmod (S6 ((x3:Nat):Int)) (l2.length:Int):Int).toNat-S7)):TO (Int))) (sF .i64) eU ⟨_,Ma⟩ rfl rfl rfl (.rd _ _ _ _ _) h91) gn rfl fun a12=>?_;refine Tf (jb rfl) rfl<|Tf (aG (r:=ptr b0 ((Int.tmod (S6 ((x2:Nat):Int)) (l1.length:Int)).toNat*2+0)) rfl (dY _ _)) rfl<|Wn.o0 (np (k:=11) (j:=(Int.tmod (S6 ((x2:Nat):Int)) (l1.length:Int)).toNat) (c:=0) (e:=[bN a0 l2,bN a1 l3]) (e':=[.slice a12 ((l7++((l2.drop S7).take ((Int.tmod (S6 ((x3:Nat):Int)) (l2.length:Int):Int).toNat-S7))).length) ((l7++((l2.drop S7).take ((Int.tmod (S6 ((x3:Nat):Int)) (l2.length:Int):Int).toNat-S7))).length),bN a1 l3]) jL rfl rfl rfl (cP h0) rfl)<|TK (aa.lj (k:=11) rfl (List.set_set _))<|Tx (fun m hm=>dj.all rfl)<|At.bn<|Tn (Tg (k:=1) rfl)<|Tn (Ti [5,0,1,2,3,4,6,7,8,9,10,11,12,13] rfl rfl)<|Tn aa.gQ<|Tn (Tg (k:=5) rfl)<|Tn (Ti [6,7,0,1,2,3,4,5,8,9,10,11,12,13] rfl rfl)<|At.ia (o:=cg) (r:=ak) (y:=((l7++((l2.drop S7).take ((Int.tmod (S6 ((x3:Nat):Int)) (l2.length:Int):Int).toNat-S7))),l3)) (g:=((a12,(l7++((l2.drop S7).take ((Int.tmod (S6 ((x3:Nat):Int)) (l2.length:Int):Int).toNat-S7))).length),(a1,l3.length,e1))) (e2:=[.slice a12 ((l7++((l2.drop S7).take ((Int.tmod (S6 ((x3:Nat):Int)) (l2.length:Int):Int).toNat-S7))).length) ((l7++((l2.drop S7).take ((Int.tmod (S6 ((x3:Nat):Int)) (l2.length:Int):Int).toNat-S7))).length),bN a1 l3]) h1 h0 (Lf.p (Lf.sr (k:=2) rfl) (Lf.lr (k:=5) (q:=0) rfl rfl rfl)) (fun _ _=>rfl) ?_;intro r30;refine Tn (Tj (k:=10) rfl)<|Tn (Tg (k:=10) rfl) ?_;cases hF;exact aT (a2,l4.length,(some ⟨b0,0,none⟩),l1.length,(e0.set ((Int.tmod (S6 ((x2:Nat):Int)) (l1.length:Int)).toNat) [.slice a12 ((l7++((l2.drop S7).take ((Int.tmod (S6 ((x3:Nat):Int)) (l2.length:Int):Int).toNat-S7))).length) ((l7++((l2.drop S7).take ((Int.tmod (S6 ((x3:Nat):Int)) (l2.length:Int):Int).toNat-S7))).length),bN a1 l3]),r30) (To (aa.vW (k:=9) rfl) (Ti [8,9,10,0,11,12] rfl rfl));refine wz ?_;refine Tn (Tg (k:=0) rfl)<|Tn (Ti [2,0,1,3,4,5,6,7,8,9,10] rfl rfl)<|Tn aa.gQ<|Tn (Tg (k:=2) rfl)<|Tn (Ti [3,4,0,1,2,5,6,7,8,9,10] rfl rfl)<|At.ia (o:=cg) (r:=ak) (y:=(l2,l3)) (g:=((a0,l2.length),(a1,l3.length,e1))) (e2:=[bN a0 l2,bN a1 l3]) h1 h0 (Lf.p (Lf.sr (k:=1) rfl) (Lf.lr (k:=2) (q:=0) rfl rfl rfl)) (fun _ _=>rfl) ?_;intro r31;refine Tn (Tj (k:=7) rfl)<|Tn (Tg (k:=7) rfl) ?_;cases hF;exact aT (a2,l4.length,(some ⟨b0,0,none⟩),l1.length,(e0.set ((Int.tmod (S6 ((x2:Nat):Int)) (l1.length:Int)).toNat) [bN a0 l2,bN a1 l3]),r31) (To (aa.vW (k:=6) rfl) (Ti [5,6,7,0,8,9] rfl rfl));refine TC rfl h15<|Th ?_;obtain⟨l9,h7,hF⟩:=J hF;refine ct (fun l9 ((a5,e8,r14):SU×SS ×(Nat->Prop))=>⟨(.exit 1),[(3,ptr b1 0),(4,ptr b2 0)],[jG b1 a2 l4 b0 l1,cV a2 l4,.arr b0 2 l1.length (e0.set ((Int.tmod (S6 ((x2:Nat):Int)) (l1.length:Int)).toNat) [bN a0 l2,bN a5 l9]) t0,vA a0 l2,.sl a5 1 l9.length e8,ot gP r14 l9 e8,.gen (cL cg r0 (l1.take ((Int.tmod (S6 ((x2:Nat):Int)) (l1.length:Int)).toNat)) (e0.take ((Int.tmod (S6 ((x2:Nat):Int)) (l1.length:Int)).toNat))),.gen (cL cg r1 (l1.drop (((Int.tmod (S6 ((x2:Nat):Int)) (l1.length:Int)).toNat)+1)) (e0.drop (((Int.tmod (S6 ((x2:Nat):Int)) (l1.length:Int)).toNat)+1))),iZ b2,dT H]⟩) l9 ?_ ?_;refine lo h7 (a1,e1,r3) [5,6,7,8,0,1,2,3,4,9,10] (fun l12 ((a7,e4,r9):SU×SS ×(Nat->Prop))=>⟨.normal,(ic b3 b1 [(4,ptr b2 0),(8,ptr b0 ((Int.tmod (S6 ((x2:Nat):Int)) (l1.length:Int)).toNat*2+0))]),[zp b3 x1 x2 x3 x4 x5 x6,jG b1 a2 l4 b0 l1,cV a2 l4,.arr b0 2 l1.length (e0.set ((Int.tmod (S6 ((x2:Nat):Int)) (l1.length:Int)).toNat) [bN a0 l2,bN a7 l12]) t0,vA a0 l2,.sl a7 1 l12.length e4,ot gP r9 l12 e4,.gen (cL cg r0 (l1.take ((Int.tmod (S6 ((x2:Nat):Int)) (l1.length:Int)).toNat)) (e0.take ((Int.tmod (S6 ((x2:Nat):Int)) (l1.length:Int)).toNat))),.gen (cL cg r1 (l1.drop (((Int.tmod (S6 ((x2:Nat):Int)) (l1.length:Int)).toNat)+1)) (e0.drop (((Int.tmod (S6 ((x2:Nat):Int)) (l1.length:Int)).toNat)+1))),iZ b2,dT H]⟩) ?_;clear hF h7;rintro l12 ⟨a7,e4,r9⟩ r hF;unfold tp at hF;refine wz ?_;refine Tc (jb rfl) rfl<|Tc (aG (r:=ptr b0 ((Int.tmod (S6 ((x2:Nat):Int)) (l1.length:Int)).toNat*2+1)) rfl (eO _ _)) rfl<|Tc (fC (k:=3) kT rfl rfl (cP h0) rfl rfl) rfl ?_;refine wz ?_;refine Tc (aJ rfl rfl (pY _ _ (by decide))) rfl<|Tc (kC rfl (kz (by rw[u5]; rfl) u3)) rfl ?_
 refine wz ?_;rcases U hF with⟨h92,hF⟩|⟨h92,hF⟩;refine wz ?_;refine Th<|TB (prs:=[(4,9)]) (by kernel_rfl)<|Tf (aS rfl) rfl<|Tf (aS rfl) rfl<|Tf (jb rfl) rfl<|Tf (aG (r:=ptr b0 ((Int.tmod (S6 ((x2:Nat):Int)) (l1.length:Int)).toNat*2+1)) rfl (eO _ _)) rfl<|Tf (fC (k:=3) kT rfl rfl (cP h0) rfl rfl) rfl<|Tf (aS rfl) rfl<|Tf (jb rfl) rfl<|Tf (aG (r:=ptr b0 ((Int.tmod (S6 ((x2:Nat):Int)) (l1.length:Int)).toNat*2+0)) rfl (dY _ _)) rfl ?_
 refine Tf (fC (k:=3) jL rfl rfl (cP h0) rfl rfl) rfl ?_;obtain⟨l15,h93,hF⟩:=J hF;refine nc gn (fun m hm=>sV n l2 a0 l2.length _ h93 m (hm.rd (k:=4) rfl (.sl _ _ _ _))) ?_;rintro⟨a16,n11⟩;refine Wn.len (k:=0) (xs:=l15) rfl ?_;rintro rfl;refine Wn.x (bY (es:=[[bN a16 l15]]) pw rfl (bZ pw z51 rfl rfl) rfl rfl) gn rfl fun b15=>?_;refine TK (Ti [1,0,2,3,4,5,6,7,8,9,10,11,12] rfl rfl)<|Wn.tR (o:=gP) (x:=l15) (g:=a16) rfl ?_;intro r42;obtain⟨h94,hF⟩:=az hF;refine TK (Ti [8,0,7,1,2,3,4,5,6,9,10,11,12] rfl rfl)<|Wn.x (s7 (o:=gP) (L:=l12) (L':=([l15]:SR)) pw ⟨_,HW⟩ rfl (.arr _ _ _ _ _) rfl h94) gn rfl ?_;rintro⟨a17,r32⟩;refine Tf (jb rfl) rfl<|Tf (aG (r:=ptr b0 ((Int.tmod (S6 ((x2:Nat):Int)) (l1.length:Int)).toNat*2+1)) rfl (eO _ _)) rfl<|Wn.o0 (np (k:=6) (j:=(Int.tmod (S6 ((x2:Nat):Int)) (l1.length:Int)).toNat) (c:=1) (e:=[bN a0 l2,bN a7 l12]) (e':=[bN a0 l2,.slice a17 ((l12++([l15]:SR)).length) ((l12++([l15]:SR)).length)]) kT rfl rfl rfl (cP h0) rfl)<|TK (aa.lj (k:=6) rfl (List.set_set _))<|Tx (fun m hm=>dj.all rfl)<|At.bn ?_;cases hF;exact ae (a17,(e4++([[bN a16 l15]]:SS)),r32) [3,4,5,6,7,1,0,8,9,10,11];refine wz ?_;cases hF;exact ae (a7,e4,r9) (TL 1 10);rintro⟨a5,e8,r14⟩;refine wz ?_;refine Tn (Tg (k:=3) rfl)<|Tn (Ti [5,0,1,2,3,4,6,7,8,9] rfl rfl)<|Tn aa.gQ<|Tn (Tg (k:=5) rfl)<|Tn (Ti [6,7,0,1,2,3,4,5,8,9] rfl rfl)<|At.ia (o:=cg) (r:=ak) (y:=(l2,l9)) (g:=((a0,l2.length),(a5,l9.length,e8))) (e2:=[bN a0 l2,bN a5 l9]) h1 h0 (Lf.p (Lf.sr (k:=4) rfl) (Lf.lr (k:=5) (q:=0) rfl rfl rfl)) (fun _ _=>rfl) ?_;intro r33;refine Tn (Tj (k:=4) rfl)<|Tn (Tg (k:=4) rfl) ?_;cases hF;exact aT (a2,l4.length,(some ⟨b0,0,none⟩),l1.length,(e0.set ((Int.tmod (S6 ((x2:Nat):Int)) (l1.length:Int)).toNat) [bN a0 l2,bN a5 l9]),r33) (To (aa.vW (k:=3) rfl) (Ti [2,3,4,0,7,8] rfl rfl));clear h29;obtain⟨l23,n0,n1,l24⟩:=r4;rintro⟨a9,c1,a10,c2,e5,r5⟩;refine fW ?_;cases hF;exact Tt (.cell (k:=4) eW rfl rfl rfl .nil) fun m' hm=>⟨(a9,c1,n0,a10,c2,n1,e5,r5),rfl,(To (aa.qF (k:=1) rfl) (Ti [1,2,3,5] rfl rfl)) m' hm⟩
def NK:Is (TV p q).P 44 3 .i64=true:=by kernel_rfl
def Pz:∀(x0 y0:Int) (x1 y1:Int) (x2 y2:Int) (x3 y3:Int),jK (TV p q).P Op.maxDepth 44 (.agg #[ba x0,ba x1,ba x2,ba x3]) (.agg #[ba y0,ba y1,ba y2,ba y3])=some (decide (x0=y0)&&decide (x1=y1)&&decide (x2=y2)&&decide (x3=y3)):=fun x0 y0 x1 y1 x2 y2 x3 y3=>Nq NK x0 y0 x1 y1 x2 y2 x3 y3
def PQ:(TV p q).P.eqGuardType (TV p q).P.depth 44=false:=by kernel_rfl
def PF:TyI (TV p q).P 24 true 5:=⟨by kernel_rfl,by kernel_rfl,by kernel_rfl⟩
instance:TyC (TV p q).P 24 true 5:=⟨PF⟩
def PO:TyI (TV p q).P 29 true 12:=⟨by kernel_rfl,by kernel_rfl,by kernel_rfl⟩
instance:TyC (TV p q).P 29 true 12:=⟨PO⟩
def z35:bj (TV p q).P 35=some (.agg #[.slice none 0 0,.slice none 0 0,.slice none 0 0,.slice none 0 0,.slice none 0 0,.slice none 0 0]):=by kernel_rfl
def Ek:∀b o,aD (TV p q).P 24 (ptr b o) 0=some (ptr b (o+0)):=fun _ _=>by kernel_rfl
instance:FaC (TV p q).P 24 0 0:=⟨Ek⟩
def DZ:∀b o,aD (TV p q).P 24 (ptr b o) 1=some (ptr b (o+1)):=fun _ _=>by kernel_rfl
instance:FaC (TV p q).P 24 1 1:=⟨DZ⟩
def Ap:∀b o,aD (TV p q).P 24 (ptr b o) 4=some (ptr b (o+4)):=fun _ _=>by kernel_rfl
instance:FaC (TV p q).P 24 4 4:=⟨Ap⟩
def PD:TyI (TV p q).P 4 false 1:=⟨by kernel_rfl,by kernel_rfl,by kernel_rfl⟩
instance:TyC (TV p q).P 4 false 1:=⟨PD⟩
def zN:∀b o,aD (TV p q).P 24 (ptr b o) 3=some (ptr b (o+3)):=fun _ _=>by kernel_rfl
instance:FaC (TV p q).P 24 3 3:=⟨zN⟩
def Fi:TyI (TV p q).P 22 false 1:=⟨by kernel_rfl,by kernel_rfl,by kernel_rfl⟩
instance:TyC (TV p q).P 22 false 1:=⟨Fi⟩
def Qb:(TV p q).P.underlying 22=some (.slice 5):=by kernel_rfl
instance:UsC (TV p q).P 22 5:=⟨Qb⟩
def QB:SlT (TV p q).P 22 5 1:=SlT.of (by kernel_rfl)
instance:SlC (TV p q).P 22 5 1:=⟨QB⟩
def AX:∀b o,aD (TV p q).P 24 (ptr b o) 2=some (ptr b (o+2)):=fun _ _=>by kernel_rfl
instance:FaC (TV p q).P 24 2 2:=⟨AX⟩
def NS:ArT (TV p q).P 29 28 2 6:=⟨by kernel_rfl,by kernel_rfl,by kernel_rfl⟩
instance:ArC (TV p q).P 29 28 2 6:=⟨NS⟩
def Ob:TyI (TV p q).P 28 true 6:=⟨by kernel_rfl,by kernel_rfl,by kernel_rfl⟩
instance:TyC (TV p q).P 28 true 6:=⟨Ob⟩
def Pw:BdT (TV p q).P 35 (.agg #[.slice none 0 0,.slice none 0 0,.slice none 0 0,.slice none 0 0,.slice none 0 0,.slice none 0 0]) [(0,2),(2,2),(4,2)]:=.mk' (by kernel_rfl) (by kernel_rfl)
def KC:TyI (TV p q).P 35 true 6:=⟨by kernel_rfl,by kernel_rfl,by kernel_rfl⟩
instance:TyC (TV p q).P 35 true 6:=⟨KC⟩
def H9:ArT (TV p q).P 35 34 3 2:=⟨by kernel_rfl,by kernel_rfl,by kernel_rfl⟩
instance:ArC (TV p q).P 35 34 3 2:=⟨H9⟩
def Qj:bj (TV p q).P 38=some (.int .i64 0):=by kernel_rfl
def C3:TyI (TV p q).P 38 false 1:=⟨by kernel_rfl,by kernel_rfl,by kernel_rfl⟩
instance:TyC (TV p q).P 38 false 1:=⟨C3⟩
def sM{n l1 a2 c3 r}(hF:KX n l1=some r)(m)(h4:Ah m a2 c3 l1):
 aI (TV p q) 42 [bD a2 l1 c3] m (fun v m'=>∃x:SU×Nat,v=.slice x.1 x.2 x.2/\Hp m m' [.sl x.1 2 x.2 (r.map (eP (eI .i64) (eI .i64)))]):=by
 unfold KX at hF;refine cw Try.func42 (Tw (Tp m) dI h4) ?_;refine fW ?_;refine Th ?_;obtain⟨l37,h51,hF⟩:=J hF;refine ct (fun l37 (a38:SU)=>⟨(.exit 0),[(3,bN a38 l37)],[cV a38 l37]⟩) l37 ?_ ?_;refine lw h51 none (fun(l19,v21) a20=>⟨.normal,[(0,bD a2 l1 c3),(3,bN a20 l19),(4,ba v21)],[mY a2 c3 l1,cV a20 l19]⟩) (To (TH 2 rfl) (Ti [1,0] rfl rfl)) ?_;clear hF h51;rintro⟨l19,v21⟩ a20 r hF;unfold JH at hF;refine wz ?_;rcases U hF with⟨h39,hF⟩|⟨h39,hF⟩;refine au ?_;obtain⟨h40,hF⟩:=cO hF;refine Tv (k:=0) rfl (aM h40) ?_;rintro b41 o42 rfl;refine wz ?_;obtain⟨x43,h44,hF⟩:=J hF;refine wz ?_;obtain⟨h45,hF⟩:=cO hF;refine wz ?_;obtain⟨x46,h47,hF⟩:=J hF;refine wz ?_;refine Tc (cp rfl z26 rfl (cm Ar rfl rfl rfl)) rfl<|Ts (bY (es:=([(x43,x46)]:SQ).map (eP (eI .i64) (eI .i64))) w5 rfl (bZ w5 z26 rfl rfl) rfl rfl) gn rfl fun b48=>?_;obtain⟨h49,hF⟩:=az hF;refine Ts (so (k:=3) (k2:=0) (xs:=(l19:SQ)) (ys:=([(x43,x46)]:SQ)) (DC (sF .i64) (sF .i64)) w5 ⟨_,Nb⟩ rfl rfl rfl (.arr _ _ _ _ _) h49) gn rfl fun a50=>?_;refine au ?_;cases hF;exact ae a50 [2,3];refine wz ?_;cases hF;exact ae a20 [1];rintro a38;refine fW ?_;obtain rfl:=QL hF;exact ar (a38,l37.length) [0]
def J4{n l1 l5 a2 c3 a6 c7}{rr8:SV}{es9:SS}{r}(hF:F8 n l1 l5=some r)(m)(h4:ja m a2 c3 l1)(h10:lW m a6 c7 l5 es9)(h11:(cd ak rr8 l5 es9).P m):
 aI (TV (some lu) q) 8 [kI a2 l1 c3 a6 l5 c7] m (fun v m'=>∃x:SU×Nat,v=.tuple #[.slice x.1 x.2 x.2,.int .i64 r.2]/\Hp m m' [.sl x.1 4 x.2 (r.1.map (eP (eI .i64) (eP (eI .i64) (eP (eI .i64) (eI .i64)))))]):=by
 unfold F8 at hF;refine cw Try.func8 (Hp.mz (Tw (Tw (Tp m) dI h4) (eC dI) h10) (eC (eC dI)) h11) ?_;refine wz ?_;refine wb fun b12=>?_;refine au ?_;obtain⟨r14,h13,hF⟩:=J hF;refine wc gn (fun m hm=>s9 h13 m (hm.q 3) (hm.q 2) (hm.dp (q:=1) rfl)) ?_;rintro⟨⟩;refine au ?_;rcases U hF with⟨h15,hF⟩|⟨h15,hF⟩;refine au ?_;cases hF;exact Tt (.tmp rfl (.tmp rfl .nil)) fun m' hm=>⟨(none,0),rfl,(To (TH 4 rfl) (Ti [0] rfl rfl)) m' hm⟩;refine au ?_;obtain⟨l17,h16,hF⟩:=J hF;refine wc gn (fun m hm=>GJ n l1 l5 a2 c3 a6 c7 rr8 es9 _ h16 m (hm.q 3) (hm.q 2) (hm.dp (q:=1) rfl)) ?_;rintro⟨a18,n19⟩;refine TI (k:=0) (xs:=l17) rfl ?_;rintro rfl;refine au ?_;cases hF;exact ar (a18,l17.length) [0]
def NT{n l2 l1 x3 a0 c0 a1 c1}{r0:SV}{e0:SS}{r}(hF:F9 n l2 l1 x3=some r)(m)(h1:ja m a0 c0 l2)(h2:lW m a1 c1 l1 e0)(h3:(cd ak r0 l1 e0).P m):
 aI (TV p q) 9 [kI a0 l2 c0 a1 l1 c1,ba x3] m (TQ m (.tuple #[.int .i64 r.1,.int .i64 r.2])):=by
 unfold F9 at hF;refine cw Try.func9 (Hp.mz (Tw (Tw (Tp m) dI h1) (eC dI) h2) (eC (eC dI)) h3) ?_;refine wz ?_;refine wb fun b0=>?_;refine au ?_;obtain⟨r3,h4,hF⟩:=J hF;refine wc gn (fun m hm=>s9 h4 m (hm.q 3) (hm.q 2) (hm.dp (q:=1) rfl)) ?_;rintro⟨⟩;refine au ?_;rcases U hF with⟨h5,hF⟩|⟨h5,hF⟩;refine au ?_;cases hF;exact ar () [];refine wz ?_;refine Td<|Td ?_;obtain⟨v0,h6,hF⟩:=J hF;refine ct (fun v0 (_:TP)=>⟨.normal,[(1,ba x3),(2,ptr b0 0),(23,.bool v0)],(fp b0 a0 l2 c0 a1 l1 c1 e0 ak r0 [])⟩) v0 ?_ ?_;clear hF;revert v0;intro r hF;refine wz ?_;rcases U hF with⟨h7,hF⟩|⟨h7,hF⟩;refine wz ?_;cases hF;exact ae () [0,3,2,1];refine wz ?_;cases hF;exact ae () [0,3,2,1];rintro⟨⟩;refine Tl ?_;rcases U hF with⟨h8,hF⟩|⟨h8,hF⟩;refine au ?_;cases hF;exact ar () [];refine fW ?_;obtain⟨h9,hF⟩:=cO hF;refine Tv (k:=2) rfl (aM h9) ?_;rintro b1 o1 rfl;refine wz ?_;obtain⟨⟨l5,l6⟩,h10,hF⟩:=J hF;refine wl 2 0 4 0 h10 ?_;rintro⟨⟨a3,c3⟩,⟨a4,c4,e3⟩⟩;obtain⟨l3,h11,hF⟩:=J hF;refine EU gn (fun m hm=>iD h11 m hm.du (hm.q 0) (hm.no 0) (hm.q 1) (hm.no 1) (hm.dp (q:=2) rfl) (hm.fQ (q:=2) rfl)) ?_;rintro⟨a2,c2,n0,e1,r1⟩;refine Wo.iv (k:=0) (q:=1) (L:=l3) rfl (.inr (.inl ⟨_,rfl⟩)) rfl ?_;rintro rfl;refine wz ?_;refine Th ?_;obtain⟨v1,h0,hF⟩:=J hF;refine ct (fun v1 (_:TP)=>⟨(.exit 0),[(7,ba v1)],[]⟩) v1 ?_ ?_;refine lo h0 () [6,7,5,9,8,0,1] (fun(v2,v3) _=>⟨.normal,[(2,ptr b0 0),(7,ba v2),(29,bD a2 l3 c2),(30,dN l3),(31,ba v3)],(fH b0 a0 l2 c0 b1 o1 l1 c1 e0 ak r0 [iM a2 c2 l3 e1,fO bg r1 l3 e1])⟩) ?_;clear hF h0;rintro⟨v2,v3⟩ ⟨⟩ r hF;unfold M0 at hF;refine wz ?_;refine Td ?_;rcases U hF with⟨h12,hF⟩|⟨h12,hF⟩;refine au ?_;obtain⟨h13,hF⟩:=cO hF;refine Tv (k:=5) rfl (aM h13) ?_;rintro b2 o2 rfl;refine wz ?_;obtain⟨l7,h14,hF⟩:=J hF;refine wl 1 0 7 0 h14 ?_;rintro⟨a5,c5⟩;refine au ?_;obtain⟨l4,h15,hF⟩:=J hF;refine wc gn (fun m hm=>nT h15 m (hm.q 3) (hm.q 6) (hm.dp (q:=5) rfl) (hm.q 0)) ?_;rintro⟨a6,n1⟩;refine TI (k:=0) (xs:=l4) rfl ?_;rintro rfl;obtain⟨r4,h16,hF⟩:=J hF;refine wc gn (fun m hm=>Gd h16 m (hm.rd (k:=0) rfl (.sl _ _ _ _))) ?_;rintro⟨⟩;refine au ?_;cases hF;exact ae () (TL 3 7);refine wz ?_;cases hF;exact ae () [];rintro⟨⟩;refine fW ?_;cases hF;exact ar () []
def Mm{n l1 l5 a2 c3 a6 c7 r}(hF:PU n l1 l5=some r)(m)(h4:Rd m a2 c3 4 l1.length (l1.map (eP (eI .i64) (eP (eI .i64) (eP (eI .i64) (eI .i64))))))(h8:Rd m a6 c7 4 l5.length (l5.map (eP (eI .i64) (eP (eI .i64) (eP (eI .i64) (eI .i64)))))):
 aI (TV p q) 18 [bD a2 l1 c3,bD a6 l5 c7] m (TQ m (.bool r)):=by
 unfold PU at hF;refine cw Try.func18 (Tw (Tw (Tp m) dI h4) (eC dI) h8) ?_;refine au ?_;rcases U hF with⟨h9,hF⟩|⟨h9,hF⟩;refine au ?_;cases hF;exact ar () [];refine au ?_;refine Th ?_;obtain⟨r50,h49,hF⟩:=J hF;refine ct (fun(r:TP⊕TP) (g:TP)=>match r,g with|.inl _,_=>⟨.ret,[(4,.bool false)],[]⟩|.inr _,_=>⟨(.exit 0),[],[]⟩) r50 ?_ ?_
 refine lo h49 () [1,0] (fun v11 _=>⟨.normal,[(0,bD a2 l1 c3),(1,bD a6 l5 c7),(12,dN l1),(13,ba v11)],[.rd a2 c3 4 l1.length (l1.map (eP (eI .i64) (eP (eI .i64) (eP (eI .i64) (eI .i64))))),.rd a6 c7 4 l5.length (l5.map (eP (eI .i64) (eP (eI .i64) (eP (eI .i64) (eI .i64)))))]⟩) ?_;clear hF h49;rintro v11 ⟨⟩ r hF;unfold JM at hF;refine wz ?_;refine Td ?_;rcases U hF with⟨h31,hF⟩|⟨h31,hF⟩;refine fW ?_;obtain⟨h32,hF⟩:=cO hF;refine Tv (k:=0) rfl (aM h32) ?_;rintro b33 o34 rfl;refine wz ?_;obtain⟨⟨x35,x36,x37,x38⟩,h39,hF⟩:=J hF;refine wz ?_;obtain⟨h40,hF⟩:=cO hF;refine Tv (k:=2) rfl (aM h40) ?_;rintro b41 o42 rfl;refine wz ?_;obtain⟨⟨x43,x44,x45,x46⟩,h47,hF⟩:=J hF;refine wz ?_;refine Tc (aJ rfl rfl (MZ PQ (Pz _ _ _ _ _ _ _ _))) rfl ?_;refine wz ?_;rcases U hF with⟨h48,hF⟩|⟨h48,hF⟩;refine au ?_;cases hF;exact ae () [];refine au ?_;cases hF;exact ae () [2,3];refine wz ?_;cases hF;exact ae () [];rcases r50 with _|_;rintro⟨⟩;refine wz ?_;cases hF;exact ar () [];rintro⟨⟩;refine fW ?_;cases hF;exact ar () []
def rW{n l1 l5 x12 x13 a2 c3 a6 c7}{rr8:SV}{es9:SS}{r}(hF:KP n l1 l5 x12 x13=some r)(m)(h4:ja m a2 c3 l1)(h10:lW m a6 c7 l5 es9)(h11:(cd ak rr8 l5 es9).P m):
 aI (TV (some lu) q) 19 [kI a2 l1 c3 a6 l5 c7,ba x12,ba x13] m (TQ m (.bool r)):=by
 unfold KP at hF;refine cw Try.func19 (Hp.mz (Tw (Tw (Tp m) dI h4) (eC dI) h10) (eC (eC dI)) h11) ?_;refine wz ?_;refine wb fun b14=>?_;refine au ?_;obtain⟨⟨r16,r17⟩,h15,hF⟩:=J hF;refine wc gn (fun m hm=>Ef h15 m (hm.q 3) (hm.q 2) (hm.dp (q:=1) rfl)) ?_;rintro⟨⟩;refine au ?_;obtain⟨⟨l19,r22⟩,h18,hF⟩:=J hF;refine wc gn (fun m hm=>J4 h18 m (hm.q 3) (hm.q 2) (hm.dp (q:=1) rfl)) ?_;rintro⟨a20,n21⟩;refine TI (k:=0) (xs:=l19) rfl ?_;rintro rfl;refine au ?_;rcases U hF with⟨h23,hF⟩|⟨h23,hF⟩;refine wz ?_;rcases U hF with⟨h24,hF⟩|⟨h24,hF⟩;refine wz ?_;refine Tu (aJ rfl rfl (J3 u4)) (gg rfl rfl (eT h24)) rfl ?_;refine au ?_;cases hF;exact ar () [];refine au ?_;cases hF;exact ar () [];refine au ?_;cases hF;exact ar () []
def FM{n l1 l5 x12 x13 x14 x15 a2 c3 a6 c7}{rr8:SV}{es9:SS}{r}(hF:OW n l1 l5 x12 x13 x14 x15=some r)(m)(h4:ja m a2 c3 l1)(h10:lW m a6 c7 l5 es9)(h11:(cd ak rr8 l5 es9).P m):
 aI (TV (some lu) (some DA)) 20 [kI a2 l1 c3 a6 l5 c7,ba x12,ba x13,ba x14,ba x15] m (TQ m (.bool r)):=by
 unfold OW at hF;refine cw Try.func20 (Hp.mz (Tw (Tw (Tp m) dI h4) (eC dI) h10) (eC (eC dI)) h11) ?_;refine wz ?_;refine wb fun b16=>?_;refine au ?_;obtain⟨⟨r18,r19,r20,r21,r22⟩,h17,hF⟩:=J hF;refine wc gn (fun m hm=>L6 n l1 l5 a2 c3 a6 c7 rr8 es9 _ h17 m (hm.q 3) (hm.q 2) (hm.dp (q:=1) rfl)) ?_;rintro⟨⟩;refine au ?_;rcases U hF with⟨h23,hF⟩|⟨h23,hF⟩;refine wz ?_;rcases U hF with⟨h24,hF⟩|⟨h24,hF⟩;refine wz ?_;rcases U hF with⟨h25,hF⟩|⟨h25,hF⟩;refine wz ?_;rcases U hF with⟨h26,hF⟩|⟨h26,hF⟩;refine au ?_;cases hF;exact ar () [];refine au ?_;cases hF;exact ar () [];refine au ?_;cases hF;exact ar () [];refine au ?_;cases hF;exact ar () [];refine au ?_;cases hF;exact ar () []
def DF{n l2 l1 x3 x4 a0 c1 a1 c0}{r0:SV}{e0:SS}{r}(hF:J9 n l2 l1 x3 x4=some r)(m)(h3:ja m a0 c1 l2)(h4:lW m a1 c0 l1 e0)(h5:(cd ak r0 l1 e0).P m):
 aI (TV p q) 13 [kI a0 l2 c1 a1 l1 c0,kW x3 x4] m (TQ m (.tuple #[.int .i64 r.1,.int .i64 r.2])):=by
 unfold J9 at hF;refine cw Try.func13 (Hp.mz (Tw (Tw (Tp m) dI h3) (eC dI) h4) (eC (eC dI)) h5) ?_;refine wz ?_;refine wb fun b0=>?_;refine wb fun b1=>?_;refine au ?_;obtain⟨r5,h6,hF⟩:=J hF;refine wc gn (fun m hm=>s9 h6 m (hm.q 4) (hm.q 3) (hm.dp (q:=2) rfl)) ?_;rintro⟨⟩;refine au ?_;rcases U hF with⟨h7,hF⟩|⟨h7,hF⟩;refine au ?_;cases hF;exact ar () [];refine au ?_;obtain⟨r6,h8,hF⟩:=J hF;refine wc gn (fun m hm=>FI h8 m) ?_;rintro⟨⟩;refine wz ?_;rcases U hF with⟨h9,hF⟩|⟨h9,hF⟩;refine au ?_;cases hF;exact ar () [];refine au ?_;refine Tc (je rfl rfl) rfl ?_;obtain⟨v1,h10,hF⟩:=J hF;refine wq (fun v1 (_:TP)=>(.int .i64 v1,[])) v1 (fun m hm=>?_) ?_;clear hF;revert v1;intro r hF;refine aQ (N:=19) (rs:=[.tmp 4]) rfl Try.func31 rfl rfl rfl hm ?_;refine au ?_;refine Th ?_;obtain⟨r1,h1,hF⟩:=J hF;refine ct (fun(r:Int⊕TP) (g:TP)=>match r,g with|.inl v4,_=>⟨.ret,[(4,ba v4)],[]⟩|.inr _,_=>⟨(.exit 0),[],[]⟩) r1 ?_ ?_
 refine lo h1 () [1,4,3,2,0] (fun v5 _=>⟨.normal,((1,.func (.func 32) #[] #[ptr b0 0,ptr b1 0])::yy a1 l1 c0 v5 []),(fp b0 a0 l2 c1 a1 l1 c0 e0 ak r0 [cK b1 x3 x4])⟩) ?_;clear hF h1;rintro v5 ⟨⟩ r hF;unfold zn at hF;refine wz ?_;refine Td ?_;rcases U hF with⟨h11,hF⟩|⟨h11,hF⟩;refine au ?_;obtain⟨h12,hF⟩:=cO hF;refine Tv (k:=2) rfl (aM h12) ?_;rintro b2 o1 rfl;refine wz ?_;obtain⟨⟨l5,l6⟩,h13,hF⟩:=J hF;refine wl 2 0 4 0 h13 ?_;rintro⟨⟨a3,c3⟩,⟨a4,c4,e3⟩⟩;refine wa z54 fun b4=>?_;refine au ?_;obtain⟨v2,h14,hF⟩:=J hF;refine wq (fun v2 (_:TP)=>(.bool v2,(fH b0 a0 l2 c1 b2 o1 l1 c0 e0 ak r0 [cK b1 x3 x4]))) v2 (fun m hm=>?_) ?_;clear hF;revert v2;intro r hF;refine aQ (N:=16) (rs:=[.tmp 4]) rfl Try.func32 rfl rfl rfl hm ?_;refine wz ?_;refine wb fun b5=>?_;refine au ?_;obtain⟨r7,h15,hF⟩:=J hF;refine wc gn (fun m hm=>AN h15 m (hm.q 7) (hm.q 8) (hm.dp (q:=9) rfl) (hm.q 2) (hm.q 3) (hm.dp (q:=4) rfl)) ?_;rintro⟨⟩;refine wz ?_;rcases U hF with⟨h0,hF⟩|⟨h0,hF⟩;refine au ?_;cases hF;exact ar () [6,7,5,9,8,10];refine wz ?_;obtain⟨l3,h16,hF⟩:=J hF;refine EU (gg rfl rfl (p9 h0)) (fun m hm=>iD h16 m hm.du (hm.q 2) (hm.no 2) (hm.q 3) (hm.no 3) (hm.dp (q:=4) rfl) (hm.fQ (q:=4) rfl)) ?_;rintro⟨a2,c2,n0,e1,r3⟩;refine Wo.iv (k:=0) (q:=1) (L:=l3) rfl (.inr (.inl ⟨_,rfl⟩)) rfl ?_;rintro rfl;refine Tu (je rfl rfl) (gg rfl rfl (p9 h0)) rfl ?_;obtain⟨v0,h17,hF⟩:=J hF;refine Ts (ln (α:=TP) (V:=fun g=>(fun(r:Int) (g:TP)=>match r,g with|v0,_=>(.int .i64 v0:SX)) v0 g) (N:=fun g=>(fun(r:Int) (g:TP)=>match r,g with|v0,_=>((fH b0 a0 l2 c1 b2 o1 l1 c0 e0 ak r0 [cK b1 x3 x4]):TO Pc)) v0 g) rfl rfl (fun m hm=>?_)) (gg rfl rfl (p9 h0)) rfl ?_
 clear hF;revert v0;intro r hF;refine aQ (N:=19) (rs:=[.tmp 4]) rfl Try.func34 rfl rfl rfl hm ?_;refine au ?_;refine Th ?_;obtain⟨r4,h2,hF⟩:=J hF;refine ct (fun(r:Int⊕TP) (g:TP)=>match r,g with|.inl v6,_=>⟨.ret,[(4,ba v6)],(fH b0 a0 l2 c1 b2 o1 l1 c0 e0 ak r0 [cK b1 x3 x4])⟩|.inr _,_=>⟨(.exit 0),[],(fH b0 a0 l2 c1 b2 o1 l1 c0 e0 ak r0 [cK b1 x3 x4])⟩) r4 ?_ ?_
 refine lo h2 () [8,9,7,11,10,12,0,1] (fun v7 _=>⟨.normal,((1,.func (.func 35) #[] #[ptr b0 0,ptr b1 0])::yy a2 l3 c2 v7 []),(fH b0 a0 l2 c1 b2 o1 l1 c0 e0 ak r0 [cK b1 x3 x4,iM a2 c2 l3 e1,fO bg r3 l3 e1])⟩) ?_;clear hF h2;rintro v7 ⟨⟩ r hF;unfold yX at hF;refine wz ?_;refine Td ?_;rcases U hF with⟨h18,hF⟩|⟨h18,hF⟩;refine au ?_;obtain⟨h19,hF⟩:=cO hF;refine Tv (k:=6) rfl (aM h19) ?_;rintro b3 o2 rfl;refine wz ?_;obtain⟨l7,h20,hF⟩:=J hF;refine wl 1 0 8 0 h20 ?_;rintro⟨a5,c5⟩;refine au ?_;obtain⟨v3,h21,hF⟩:=J hF;refine wq (fun v3 (_:TP)=>(.bool v3,(fH b0 a0 l2 c1 b2 o1 l1 c0 e0 ak r0 (cK b1 x3 x4::jr b3 o2 l3 e1 bg r3 c2 [])))) v3 (fun m hm=>?_) ?_;clear hF;revert v3;intro r hF;refine aQ (N:=11) (rs:=[.tmp 4]) rfl Try.func35 rfl rfl rfl hm ?_;refine wz ?_;refine Td<|TB (prs:=[(2,3)]) (by kernel_rfl)<|Tf (aH (k:=2) eW rfl rfl rfl) rfl<|Tf (aS rfl) rfl ?_
 obtain⟨l4,h22,hF⟩:=J hF;refine nc gn (fun m hm=>nT h22 m (hm.q 3) (hm.q 6) (hm.dp (q:=5) rfl) (hm.q 0)) ?_;rintro⟨a6,n1⟩;refine Wn.len (k:=0) (xs:=l4) rfl ?_;rintro rfl;refine Tf (aH (k:=8) df rfl rfl rfl) rfl ?_;obtain⟨r8,h23,hF⟩:=J hF;refine nc gn (fun m hm=>AK h23 m (hm.rd (k:=0) rfl (.sl _ _ _ _))) ?_;rintro⟨⟩;refine Tf (aJ rfl rfl (ij _ _ _)) rfl<|Tf (bC rfl) rfl<|Tx (fun m hm=>dj.all rfl) ?_;refine au ?_;cases hF;exact ar () [3,4,5,6,7,8,2,10,9];rintro⟨⟩;refine wz ?_;rcases U hF with⟨h24,hF⟩|⟨h24,hF⟩;refine au ?_;cases hF;exact ae () (TL 0 6);refine au ?_;cases hF;exact ae () [0,1,2,3,4,5,8,7];refine wz ?_;cases hF;exact ae () (TL 0 6);rcases r4 with v6|_;rintro⟨⟩;refine wz ?_;obtain rfl:=QL hF;exact ar () (TL 0 6);rintro⟨⟩;refine fW ?_;cases hF;exact ar () (TL 0 6);rintro⟨⟩;refine au ?_;cases hF;exact ar () (TL 0 6);rintro⟨⟩;refine wz ?_;rcases U hF with⟨h25,hF⟩|⟨h25,hF⟩;refine au ?_;cases hF;exact ae () [];refine au ?_;cases hF;exact ae () [0,1,4,3,5];refine wz ?_;cases hF;exact ae () [];rcases r1 with v4|_;rintro⟨⟩;refine wz ?_;obtain rfl:=QL hF;exact ar () [];rintro⟨⟩;refine fW ?_;cases hF;exact ar () [];rintro⟨⟩;refine au ?_;cases hF;exact ar () []
def wN{n l1 l5 x12 x13 x14 a2 c3 a6 c7}{rr8:SV}{es9:SS}{r}(hF:MQ n l1 l5 x12 x13 x14=some r)(m)(h4:ja m a2 c3 l1)(h10:lW m a6 c7 l5 es9)(h11:(cd ak rr8 l5 es9).P m):
 aI (TV p q) 21 [kI a2 l1 c3 a6 l5 c7,ba x12,ba x13,ba x14] m (TQ m (.bool r)):=by
 unfold MQ at hF;refine cw Try.func21 (Hp.mz (Tw (Tw (Tp m) dI h4) (eC dI) h10) (eC (eC dI)) h11) ?_;refine wz ?_;refine wb fun b15=>?_;refine au ?_;refine Tc (cp rfl z26 rfl (cm Ar rfl rfl rfl)) rfl ?_;obtain⟨⟨r17,r18⟩,h16,hF⟩:=J hF;refine wc gn (fun m hm=>DF h16 m (hm.q 3) (hm.q 2) (hm.dp (q:=1) rfl)) ?_;rintro⟨⟩;refine au ?_;rcases U hF with⟨h19,hF⟩|⟨h19,hF⟩;refine au ?_;cases hF;exact ar () [];refine au ?_;cases hF;exact ar () []
def Nh{n r}(hF:F6 n=some r)(m):
 aI (TV (some lu) (some DA)) 6 [] m (TQ m (.bool r)):=by
 unfold F6 at hF;refine cw Try.func6 (Tp m) ?_;refine au ?_;obtain⟨r6,h12,hF⟩:=J hF;refine wq (fun((l6,l5):SQ×SO) ((a0,a1,e1,r0):SU×SU×SS ×(Nat->Prop))=>(.agg #[bN a0 l6,bN a1 l5],[cV a0 l6,kX a1 l5 e1,fO ak r0 l5 e1])) r6 (fun m hm=>?_) ?_;clear hF;revert r6;intro r hF;refine aQ (N:=9) (rs:=[.cell 0 34]) rfl Try.func16 rfl rfl rfl hm ?_;refine wz ?_;refine wa qI fun b32=>?_;refine au ?_;refine Ts (bY (es:=([0,0,2,0,4,0,4,2,2,2,0,2]:TO (Int)).map (eI .i64)) eU rfl (bZ eU z3 rfl rfl) rfl rfl) gn rfl fun b33=>?_;obtain⟨l18,h13,hF⟩:=J hF;refine wc gn (fun m hm=>sM h13 m (hm.q 0)) ?_;rintro⟨a16,n0⟩;refine TI (k:=0) (xs:=l18) rfl ?_;rintro rfl;refine Ts (bY (es:=([0,1,4,5]:TO (Int)).map (eI .i64)) eU rfl (bZ eU z3 rfl rfl) rfl rfl) gn rfl fun b6=>?_;refine Tc (cp rfl z54 rfl (cm lJ rfl rfl rfl)) rfl<|Ts (bY (es:=([1,2,3,4]:TO (Int)).map (eI .i64)) eU rfl (bZ eU z3 rfl rfl) rfl rfl) gn rfl fun b7=>?_;refine Tc (cp rfl z54 rfl (cm lJ rfl rfl rfl)) rfl<|Tq (Tj (k:=1) rfl)<|Tq (Tg (k:=1) rfl)<|Tq (Tj (k:=0) rfl)<|Tq (Tg (k:=0) rfl)<|Ts (bY (es:=[[cf b6,.slice none 0 0],[cf b7,.slice none 0 0]]) jd rfl (bZ jd z54 rfl rfl) rfl rfl) gn rfl fun b27=>?_;refine Wo.dp (r:=ak) (L:=([([0,1,4,5],[]),([1,2,3,4],[])]:SO)) (es:=[[cf b6,.slice none 0 0],[cf b7,.slice none 0 0]]) (gT.cons (r:=ak) (z:=([0,1,4,5],[])) (g:=(((some ⟨b6,0,none⟩),4),(none,0,[]))) (Lf.p (Lf.s (k:=2) rfl) Lf.l0) (gT.cons (r:=ak) (z:=([1,2,3,4],[])) (g:=(((some ⟨b7,0,none⟩),4),(none,0,[]))) (Lf.p (Lf.s (k:=1) rfl) Lf.l0) gT.nil)) ?_;intro r13;refine Tc (cp rfl qI rfl (cm Be rfl rfl rfl)) rfl ?_;refine au ?_;cases hF;exact Tt (.cell (k:=6) eW rfl rfl rfl .nil) fun m' hm=>⟨(a16,(some ⟨b27,0,none⟩),[[cf b6,.slice none 0 0],[cf b7,.slice none 0 0]],r13),rfl,(To (Tj (k:=1) rfl) (Ti [4,1,0] rfl rfl)) m' hm⟩;clear h12;obtain⟨l6,l5⟩:=r6;rintro⟨a0,a1,e1,r0⟩;obtain⟨r7,h14,hF⟩:=J hF;refine wq (fun((l10,l7):SQ×SO) ((a3,a4,e4,r1):SU×SU×SS ×(Nat->Prop))=>(.agg #[bN a3 l10,bN a4 l7],[cV a3 l10,kX a4 l7 e4,fO ak r1 l7 e4,cV a0 l6,kX a1 l5 e1,fO ak r0 l5 e1])) r7 (fun m hm=>?_) ?_;clear hF;revert r7;intro r hF;refine aQ (N:=11) (rs:=[.cell 0 34]) rfl Try.func17 rfl rfl rfl hm ?_;refine wz ?_;refine wa qI fun b34=>?_;refine au ?_;refine Ts (bY (es:=([0,0,9,0,9,9,0,9,3,3,6,3,6,6,3,6]:TO (Int)).map (eI .i64)) eU rfl (bZ eU z3 rfl rfl) rfl rfl) gn rfl fun b35=>?_;obtain⟨l19,h15,hF⟩:=J hF;refine wc gn (fun m hm=>sM h15 m (hm.q 0)) ?_;rintro⟨a17,n1⟩;refine TI (k:=0) (xs:=l19) rfl ?_;rintro rfl;refine Ts (bY (es:=([0,1,2,3]:TO (Int)).map (eI .i64)) eU rfl (bZ eU z3 rfl rfl) rfl rfl) gn rfl fun b8=>?_;refine Ts (bY (es:=([4,7,6,5]:TO (Int)).map (eI .i64)) eU rfl (bZ eU z3 rfl rfl) rfl rfl) gn rfl fun b9=>?_;refine Tq (Tj (k:=0) rfl)<|Tq (Tg (k:=0) rfl)<|Ts (bY (es:=[[cf b9]]) pw rfl (bZ pw z51 rfl rfl) rfl rfl) gn rfl fun b10=>?_;refine Wo.dp (r:=bg) (L:=([[4,7,6,5]]:SR)) (es:=[[cf b9]]) (gT.cons (r:=bg) (z:=[4,7,6,5]) (g:=((some ⟨b9,0,none⟩),4)) (Lf.s (k:=1) rfl) gT.nil) ?_;intro r23;refine Tc (cp rfl z54 rfl (cm lJ rfl rfl rfl)) rfl<|Ts (bY (es:=([4,5,6,7]:TO (Int)).map (eI .i64)) eU rfl (bZ eU z3 rfl rfl) rfl rfl) gn rfl fun b11=>?_;refine Tc (cp rfl z54 rfl (cm lJ rfl rfl rfl)) rfl<|Tq (Tj (k:=4) rfl)<|Tq (Tg (k:=4) rfl)<|Tq (Tj (k:=2) rfl)<|Tq (Tg (k:=2) rfl)<|Tq (Tj (k:=0) rfl)<|Tq (Tg (k:=0) rfl)<|Ts (bY (es:=[[cf b8,kZ b10],[cf b11,.slice none 0 0]]) jd rfl (bZ jd z54 rfl rfl) rfl rfl) gn rfl fun b28=>?_;refine Wo.dp (r:=ak) (L:=([([0,1,2,3],[[4,7,6,5]]),([4,5,6,7],[])]:SO)) (es:=[[cf b8,kZ b10],[cf b11,.slice none 0 0]]) (gT.cons (r:=ak) (z:=([0,1,2,3],[[4,7,6,5]])) (g:=(((some ⟨b8,0,none⟩),4),((some ⟨b10,0,none⟩),1,[[cf b9]]))) (Lf.p (Lf.s (k:=5) rfl) (Lf.l (k:=3) (q:=2) rfl rfl rfl)) (gT.cons (r:=ak) (z:=([4,5,6,7],[])) (g:=(((some ⟨b11,0,none⟩),4),(none,0,[]))) (Lf.p (Lf.s (k:=1) rfl) Lf.l0) gT.nil)) ?_;intro r14;refine Tc (cp rfl qI rfl (cm Be rfl rfl rfl)) rfl ?_;refine au ?_;cases hF;exact Tt (.cell (k:=9) eW rfl rfl rfl .nil) fun m' hm=>⟨(a17,(some ⟨b28,0,none⟩),[[cf b8,kZ b10],[cf b11,.slice none 0 0]],r14),rfl,(To (Tj (k:=1) rfl) (Ti [7,1,0,10,11,12] rfl rfl)) m' hm⟩;clear h14;obtain⟨l10,l7⟩:=r7;rintro⟨a3,a4,e4,r1⟩;refine wa qI fun b1=>?_;refine wa qI fun b2=>?_;refine au ?_;obtain⟨⟨l14,r15⟩,h16,hF⟩:=J hF;refine wc gn (fun m hm=>J4 h16 m (hm.rd (k:=5) rfl (.sl _ _ _ _)) (hm.rd (k:=6) rfl (.sl _ _ _ _)) (hm.dp (q:=7) rfl)) ?_;rintro⟨a9,n2⟩;refine TI (k:=0) (xs:=l14) rfl ?_;rintro rfl;refine au ?_;obtain⟨⟨r16,r17⟩,h17,hF⟩:=J hF;refine wc gn (fun m hm=>NT h17 m (hm.rd (k:=3) rfl (.sl _ _ _ _)) (hm.rd (k:=4) rfl (.sl _ _ _ _)) (hm.dp (q:=5) rfl)) ?_;rintro⟨⟩;refine au ?_;obtain⟨r8,h18,hF⟩:=J hF;refine wq (fun((l8,l1):SQ×SO) ((a2,a12,e0,r3):SU×SU×SS ×(Nat->Prop))=>(.agg #[bN a2 l8,bN a12 l1],(cV a2 l8::kX a12 l1 e0::fO ak r3 l1 e0::uo b1 a0 l6 a1 l5 e1 ak r0 (uo b2 a3 l10 a4 l7 e4 ak r1 [nj a9 l14])))) r8 (fun m hm=>?_) ?_;clear hF;revert r8;intro r hF;refine aQ (N:=11) (rs:=[.cell 0 34]) rfl Try.func17 rfl rfl rfl hm ?_;refine wz ?_;refine wa qI fun b36=>?_;refine au ?_;refine Ts (bY (es:=([0,0,9,0,9,9,0,9,3,3,6,3,6,6,3,6]:TO (Int)).map (eI .i64)) eU rfl (bZ eU z3 rfl rfl) rfl rfl) gn rfl fun b37=>?_;obtain⟨l20,h19,hF⟩:=J hF;refine wc gn (fun m hm=>sM h19 m (hm.q 0)) ?_;rintro⟨a18,n4⟩;refine TI (k:=0) (xs:=l20) rfl ?_;rintro rfl;refine Ts (bY (es:=([0,1,2,3]:TO (Int)).map (eI .i64)) eU rfl (bZ eU z3 rfl rfl) rfl rfl) gn rfl fun b12=>?_;refine Ts (bY (es:=([4,7,6,5]:TO (Int)).map (eI .i64)) eU rfl (bZ eU z3 rfl rfl) rfl rfl) gn rfl fun b13=>?_;refine Tq (Tj (k:=0) rfl)<|Tq (Tg (k:=0) rfl)<|Ts (bY (es:=[[cf b13]]) pw rfl (bZ pw z51 rfl rfl) rfl rfl) gn rfl fun b14=>?_;refine Wo.dp (r:=bg) (L:=([[4,7,6,5]]:SR)) (es:=[[cf b13]]) (gT.cons (r:=bg) (z:=[4,7,6,5]) (g:=((some ⟨b13,0,none⟩),4)) (Lf.s (k:=1) rfl) gT.nil) ?_;intro r24;refine Tc (cp rfl z54 rfl (cm lJ rfl rfl rfl)) rfl<|Ts (bY (es:=([4,5,6,7]:TO (Int)).map (eI .i64)) eU rfl (bZ eU z3 rfl rfl) rfl rfl) gn rfl fun b15=>?_;refine Tc (cp rfl z54 rfl (cm lJ rfl rfl rfl)) rfl<|Tq (Tj (k:=4) rfl)<|Tq (Tg (k:=4) rfl)<|Tq (Tj (k:=2) rfl)<|Tq (Tg (k:=2) rfl)<|Tq (Tj (k:=0) rfl)<|Tq (Tg (k:=0) rfl)<|Ts (bY (es:=[[cf b12,kZ b14],[cf b15,.slice none 0 0]]) jd rfl (bZ jd z54 rfl rfl) rfl rfl) gn rfl fun b29=>?_;refine Wo.dp (r:=ak) (L:=([([0,1,2,3],[[4,7,6,5]]),([4,5,6,7],[])]:SO)) (es:=[[cf b12,kZ b14],[cf b15,.slice none 0 0]]) (gT.cons (r:=ak) (z:=([0,1,2,3],[[4,7,6,5]])) (g:=(((some ⟨b12,0,none⟩),4),((some ⟨b14,0,none⟩),1,[[cf b13]]))) (Lf.p (Lf.s (k:=5) rfl) (Lf.l (k:=3) (q:=2) rfl rfl rfl)) (gT.cons (r:=ak) (z:=([4,5,6,7],[])) (g:=(((some ⟨b15,0,none⟩),4),(none,0,[]))) (Lf.p (Lf.s (k:=1) rfl) Lf.l0) gT.nil)) ?_;intro r18;refine Tc (cp rfl qI rfl (cm Be rfl rfl rfl)) rfl ?_;refine au ?_;cases hF;exact Tt (.cell (k:=9) eW rfl rfl rfl .nil) fun m' hm=>⟨(a18,(some ⟨b29,0,none⟩),[[cf b12,kZ b14],[cf b15,.slice none 0 0]],r18),rfl,(To (Tj (k:=1) rfl) (Ti [7,1,0,12,16,17,18,11,13,14,15,10] rfl rfl)) m' hm⟩;clear h18;obtain⟨l8,l1⟩:=r8;rintro⟨a2,a12,e0,r3⟩;obtain⟨r9,h20,hF⟩:=J hF;refine wq (fun((l11,l2):SQ×SO) ((a5,a10,e3,r4):SU×SU×SS ×(Nat->Prop))=>(.agg #[bN a5 l11,bN a10 l2],(cV a5 l11::kX a10 l2 e3::fO ak r4 l2 e3::uo b1 a0 l6 a1 l5 e1 ak r0 (uo b2 a3 l10 a4 l7 e4 ak r1 [nj a9 l14,cV a2 l8,kX a12 l1 e0,fO ak r3 l1 e0])))) r9 (fun m hm=>?_) ?_;clear hF;revert r9;intro r hF;refine aQ (N:=11) (rs:=[.cell 0 34]) rfl Try.func17 rfl rfl rfl hm ?_;refine wz ?_;refine wa qI fun b38=>?_;refine au ?_;refine Ts (bY (es:=([0,0,9,0,9,9,0,9,3,3,6,3,6,6,3,6]:TO (Int)).map (eI .i64)) eU rfl (bZ eU z3 rfl rfl) rfl rfl) gn rfl fun b39=>?_;obtain⟨l21,h21,hF⟩:=J hF;refine wc gn (fun m hm=>sM h21 m (hm.q 0)) ?_;rintro⟨a19,n5⟩;refine TI (k:=0) (xs:=l21) rfl ?_;rintro rfl;refine Ts (bY (es:=([0,1,2,3]:TO (Int)).map (eI .i64)) eU rfl (bZ eU z3 rfl rfl) rfl rfl) gn rfl fun b16=>?_;refine Ts (bY (es:=([4,7,6,5]:TO (Int)).map (eI .i64)) eU rfl (bZ eU z3 rfl rfl) rfl rfl) gn rfl fun b17=>?_;refine Tq (Tj (k:=0) rfl)<|Tq (Tg (k:=0) rfl)<|Ts (bY (es:=[[cf b17]]) pw rfl (bZ pw z51 rfl rfl) rfl rfl) gn rfl fun b18=>?_;refine Wo.dp (r:=bg) (L:=([[4,7,6,5]]:SR)) (es:=[[cf b17]]) (gT.cons (r:=bg) (z:=[4,7,6,5]) (g:=((some ⟨b17,0,none⟩),4)) (Lf.s (k:=1) rfl) gT.nil) ?_;intro r25;refine Tc (cp rfl z54 rfl (cm lJ rfl rfl rfl)) rfl<|Ts (bY (es:=([4,5,6,7]:TO (Int)).map (eI .i64)) eU rfl (bZ eU z3 rfl rfl) rfl rfl) gn rfl fun b19=>?_;refine Tc (cp rfl z54 rfl (cm lJ rfl rfl rfl)) rfl<|Tq (Tj (k:=4) rfl)<|Tq (Tg (k:=4) rfl)<|Tq (Tj (k:=2) rfl)<|Tq (Tg (k:=2) rfl)<|Tq (Tj (k:=0) rfl)<|Tq (Tg (k:=0) rfl)<|Ts (bY (es:=[[cf b16,kZ b18],[cf b19,.slice none 0 0]]) jd rfl (bZ jd z54 rfl rfl) rfl rfl) gn rfl fun b30=>?_;refine Wo.dp (r:=ak) (L:=([([0,1,2,3],[[4,7,6,5]]),([4,5,6,7],[])]:SO)) (es:=[[cf b16,kZ b18],[cf b19,.slice none 0 0]]) (gT.cons (r:=ak) (z:=([0,1,2,3],[[4,7,6,5]])) (g:=(((some ⟨b16,0,none⟩),4),((some ⟨b18,0,none⟩),1,[[cf b17]]))) (Lf.p (Lf.s (k:=5) rfl) (Lf.l (k:=3) (q:=2) rfl rfl rfl)) (gT.cons (r:=ak) (z:=([4,5,6,7],[])) (g:=(((some ⟨b19,0,none⟩),4),(none,0,[]))) (Lf.p (Lf.s (k:=1) rfl) Lf.l0) gT.nil)) ?_;intro r19;refine Tc (cp rfl qI rfl (cm Be rfl rfl rfl)) rfl ?_;refine au ?_;cases hF;exact Tt (.cell (k:=9) eW rfl rfl rfl .nil) fun m' hm=>⟨(a19,(some ⟨b30,0,none⟩),[[cf b16,kZ b18],[cf b19,.slice none 0 0]],r19),rfl,(To (Tj (k:=1) rfl) (Ti [7,1,0,13,14,15,16,17,18,19,20,21,10,11,12] rfl rfl)) m' hm⟩;clear h20;obtain⟨l11,l2⟩:=r9;rintro⟨a5,a10,e3,r4⟩;obtain⟨r10,h22,hF⟩:=J hF;refine wq (fun((l12,l3):SQ×SO) ((a6,a8,e5,r5):SU×SU×SS ×(Nat->Prop))=>(.agg #[bN a6 l12,bN a8 l3],(cV a6 l12::kX a8 l3 e5::fO ak r5 l3 e5::uo b1 a0 l6 a1 l5 e1 ak r0 (uo b2 a3 l10 a4 l7 e4 ak r1 [nj a9 l14,cV a2 l8,kX a12 l1 e0,fO ak r3 l1 e0,cV a5 l11,kX a10 l2 e3,fO ak r4 l2 e3])))) r10 (fun m hm=>?_) ?_;clear hF;revert r10;intro r hF;refine aQ (N:=9) (rs:=[.cell 0 34]) rfl Try.func16 rfl rfl rfl hm ?_;refine wz ?_;refine wa qI fun b40=>?_;refine au ?_;refine Ts (bY (es:=([0,0,2,0,4,0,4,2,2,2,0,2]:TO (Int)).map (eI .i64)) eU rfl (bZ eU z3 rfl rfl) rfl rfl) gn rfl fun b41=>?_;obtain⟨l22,h23,hF⟩:=J hF;refine wc gn (fun m hm=>sM h23 m (hm.q 0)) ?_;rintro⟨a20,n7⟩;refine TI (k:=0) (xs:=l22) rfl ?_;rintro rfl;refine Ts (bY (es:=([0,1,4,5]:TO (Int)).map (eI .i64)) eU rfl (bZ eU z3 rfl rfl) rfl rfl) gn rfl fun b20=>?_;refine Tc (cp rfl z54 rfl (cm lJ rfl rfl rfl)) rfl<|Ts (bY (es:=([1,2,3,4]:TO (Int)).map (eI .i64)) eU rfl (bZ eU z3 rfl rfl) rfl rfl) gn rfl fun b21=>?_;refine Tc (cp rfl z54 rfl (cm lJ rfl rfl rfl)) rfl<|Tq (Tj (k:=1) rfl)<|Tq (Tg (k:=1) rfl)<|Tq (Tj (k:=0) rfl)<|Tq (Tg (k:=0) rfl)<|Ts (bY (es:=[[cf b20,.slice none 0 0],[cf b21,.slice none 0 0]]) jd rfl (bZ jd z54 rfl rfl) rfl rfl) gn rfl fun b31=>?_;refine Wo.dp (r:=ak) (L:=([([0,1,4,5],[]),([1,2,3,4],[])]:SO)) (es:=[[cf b20,.slice none 0 0],[cf b21,.slice none 0 0]]) (gT.cons (r:=ak) (z:=([0,1,4,5],[])) (g:=(((some ⟨b20,0,none⟩),4),(none,0,[]))) (Lf.p (Lf.s (k:=2) rfl) Lf.l0) (gT.cons (r:=ak) (z:=([1,2,3,4],[])) (g:=(((some ⟨b21,0,none⟩),4),(none,0,[]))) (Lf.p (Lf.s (k:=1) rfl) Lf.l0) gT.nil)) ?_;intro r20;refine Tc (cp rfl qI rfl (cm Be rfl rfl rfl)) rfl ?_;refine au ?_;cases hF;exact Tt (.cell (k:=6) eW rfl rfl rfl .nil) fun m' hm=>⟨(a20,(some ⟨b31,0,none⟩),[[cf b20,.slice none 0 0],[cf b21,.slice none 0 0]],r20),rfl,(To (Tj (k:=1) rfl) (Ti [4,1,0,10,11,12,13,14,15,16,17,18,19,20,21,7,8,9] rfl rfl)) m' hm⟩;clear h22;obtain⟨l12,l3⟩:=r10;rintro⟨a6,a8,e5,r5⟩;refine wa qI fun b22=>?_;refine wa qI fun b23=>?_;refine wa qI fun b24=>?_;refine au ?_;obtain⟨h24,hF⟩:=cO hF;refine Wo.open (k:=16) rfl (aM h24) ?_;rintro b3 t0 rfl h48;refine wz ?_;obtain⟨⟨l4,l13⟩,h25,hF⟩:=J hF;refine Wo.ui (r:=ak) (q:=17) (j:=S7) (z:=(l4,l13)) (N:=fun g=>(.rd g.1.1 g.1.2 1 l4.length (l4.map (eI .i64))::.rd g.2.1 g.2.2.1 1 l13.length g.2.2.2::.gen (cd bg r3 l13 g.2.2.2)::tx b24 a6 l12 a8 l3::tx b23 a5 l11 a10 l2::jG b22 a2 l8 b3 l1::cV a6 l12::kX a8 l3 e5::fO ak r5 l3 e5::uo b1 a0 l6 a1 l5 e1 ak r0 (uo b2 a3 l10 a4 l7 e4 ak r1 [nj a9 l14,cV a2 l8,.arr b3 2 l1.length e0 t0,fO ak r3 l1 e0,cV a5 l11,kX a10 l2 e3,fO ak r4 l2 e3]))) rfl h25 (fun _=>rfl) ?_;rintro⟨⟨a7,c0⟩,⟨a13,c2,e6⟩⟩ h26;refine Tz (np (k:=19) (j:=S7) (c:=1) (e:=[bD a7 l4 c0,bD a13 l13 c2]) (e':=[bD a7 l4 c0,.slice none 0 0]) kT rfl rfl rfl h26 rfl)<|Wo.zC (r:=ak) (q:=20) (j:=S7) (z:=(l4,[])) (g:=((a7,c0),(none,0,[]))) rfl (Lf.p (Lf.s (k:=0) rfl) Lf.l0) ?_;intro r11;refine au ?_;refine Ts (bY (es:=([4,5,6,7]:TO (Int)).map (eI .i64)) eU rfl (bZ eU z3 rfl rfl) rfl rfl) gn rfl fun b0=>?_;refine Tq (Tj (k:=0) rfl)<|Tq (Tg (k:=0) rfl)<|Ts (bY (es:=[[cf b0]]) pw rfl (bZ pw z51 rfl rfl) rfl rfl) gn rfl fun b4=>?_;refine Wo.dp (r:=bg) (L:=([[4,5,6,7]]:SR)) (es:=[[cf b0]]) (gT.cons (r:=bg) (z:=[4,5,6,7]) (g:=((some ⟨b0,0,none⟩),4)) (Lf.s (k:=1) rfl) gT.nil) ?_;intro r12;obtain⟨h3,hF⟩:=cO hF;refine Wo.open (k:=25) rfl (aM h3) ?_;rintro b5 t1 rfl h49;refine Tu (sC jd rfl rfl h3) gn rfl<|Tc (aG (r:=ptr b5 (S7*2+1)) rfl (eO _ _)) rfl<|Tq (Tj (k:=1) rfl)<|Tq (Tg (k:=1) rfl) ?_;obtain⟨⟨l9,l16⟩,h27,hF⟩:=J hF;refine Wo.ui (r:=ak) (q:=26) (j:=S7) (z:=(l9,l16)) (N:=fun g=>(.rd g.1.1 g.1.2 1 l9.length (l9.map (eI .i64))::.rd g.2.1 g.2.2.1 1 l16.length g.2.2.2::.gen (cd bg r4 l16 g.2.2.2)::.gen (cd bg r12 ([[4,5,6,7]]) ([[cf b0]]))::.rd (some ⟨b4,0,none⟩) 1 1 1 ([[cf b0]])::.rd (some ⟨b0,0,none⟩) 4 1 4 (([4,5,6,7]).map (eI .i64))::mY a7 c0 l4::iM a13 c2 l13 e6::fO bg r3 l13 e6::tx b24 a6 l12 a8 l3::jG b23 a5 l11 b5 l2::jG b22 a2 l8 b3 l1::cV a6 l12::kX a8 l3 e5::fO ak r5 l3 e5::uo b1 a0 l6 a1 l5 e1 ak r0 (uo b2 a3 l10 a4 l7 e4 ak r1 [nj a9 l14,cV a2 l8,.arr b3 2 l1.length (e0.set (S7) [bD a7 l4 c0,.slice none 0 0]) t0,.gen (cd ak r11 (l1.set (S7) (l4,[])) (e0.set (S7) [bD a7 l4 c0,.slice none 0 0])),cV a5 l11,.arr b5 2 l2.length e3 t1,fO ak r4 l2 e3]))) rfl h27 (fun _=>rfl) ?_;rintro⟨⟨a11,c1⟩,⟨a15,c4,e7⟩⟩ h28;refine Tz (np (k:=28) (j:=S7) (c:=1) (e:=[bD a11 l9 c1,bD a15 l16 c4]) (e':=[bD a11 l9 c1,kZ b4]) kT rfl rfl rfl h28 rfl)<|Wo.zC (r:=ak) (q:=29) (j:=S7) (z:=(l9,[[4,5,6,7]])) (g:=((a11,c1),((some ⟨b4,0,none⟩),1,[[cf b0]]))) rfl (Lf.p (Lf.s (k:=0) rfl) (Lf.l (k:=4) (q:=3) rfl rfl rfl)) ?_;intro r21;refine au ?_;refine Ts (bY (es:=([1,2,3,5]:TO (Int)).map (eI .i64)) eU rfl (bZ eU z3 rfl rfl) rfl rfl) gn rfl fun b25=>?_;obtain⟨h4,hF⟩:=cO hF;refine Wo.open (k:=14) rfl (aM h4) ?_;rintro b26 t2 rfl h50;refine Tu (sC jd rfl rfl h4) gn rfl<|Tc (aG (r:=ptr b26 ((1:Int).toNat*2+0)) rfl (dY _ _)) rfl<|Tq (Tj (k:=0) rfl)<|Tq (Tg (k:=0) rfl) ?_;obtain⟨⟨l17,l15⟩,h29,hF⟩:=J hF;refine Wo.ui (r:=ak) (q:=15) (j:=(1:Int).toNat) (z:=(l17,l15)) (N:=fun g=>(.rd g.1.1 g.1.2 1 l17.length (l17.map (eI .i64))::.rd g.2.1 g.2.2.1 1 l15.length g.2.2.2::.gen (cd bg r5 l15 g.2.2.2)::.rd (some ⟨b25,0,none⟩) 4 1 4 (([1,2,3,5]).map (eI .i64))::mY a11 c1 l9::iM a15 c4 l16 e7::fO bg r4 l16 e7::.gen (cd bg r12 ([[4,5,6,7]]) ([[cf b0]]))::.rd (some ⟨b4,0,none⟩) 1 1 1 ([[cf b0]])::.rd (some ⟨b0,0,none⟩) 4 1 4 (([4,5,6,7]).map (eI .i64))::mY a7 c0 l4::iM a13 c2 l13 e6::fO bg r3 l13 e6::jG b24 a6 l12 b26 l3::jG b23 a5 l11 b5 l2::jG b22 a2 l8 b3 l1::cV a6 l12::.arr b26 2 l3.length e5 t2::fO ak r5 l3 e5::uo b1 a0 l6 a1 l5 e1 ak r0 (uo b2 a3 l10 a4 l7 e4 ak r1 [nj a9 l14,cV a2 l8,.arr b3 2 l1.length (e0.set (S7) [bD a7 l4 c0,.slice none 0 0]) t0,.gen (cd ak r11 (l1.set (S7) (l4,[])) (e0.set (S7) [bD a7 l4 c0,.slice none 0 0])),cV a5 l11,.arr b5 2 l2.length (e3.set (S7) [bD a11 l9 c1,kZ b4]) t1,.gen (cd ak r21 (l2.set (S7) (l9,[[4,5,6,7]])) (e3.set (S7) [bD a11 l9 c1,kZ b4]))]))) rfl h29 (fun _=>rfl) ?_;rintro⟨⟨a21,c5⟩,⟨a14,c3,e8⟩⟩ h30;refine Tz (np (k:=17) (j:=(1:Int).toNat) (c:=0) (e:=[bD a21 l17 c5,bD a14 l15 c3]) (e':=[cf b25,bD a14 l15 c3]) jL rfl rfl rfl h30 rfl)<|Wo.zC (r:=ak) (q:=18) (j:=(1:Int).toNat) (z:=([1,2,3,5],l15)) (g:=(((some ⟨b25,0,none⟩),4),(a14,c3,e8))) rfl (Lf.p (Lf.s (k:=3) rfl) (Lf.l (k:=1) (q:=2) rfl rfl rfl)) ?_;intro r26;refine au ?_;refine Tc (cp rfl z44 rfl (cm zq rfl rfl rfl)) rfl<|Tc (cp rfl z44 rfl (cm zq rfl rfl rfl)) rfl<|Tc (cp rfl z44 rfl (cm zq rfl rfl rfl)) rfl<|Tc (cp rfl z44 rfl (cm zq rfl rfl rfl)) rfl<|Tc (cp rfl z44 rfl (cm zq rfl rfl rfl)) rfl<|Tc (cp rfl z44 rfl (cm zq rfl rfl rfl)) rfl<|Tc (cp rfl z44 rfl (cm zq rfl rfl rfl)) rfl<|Ts (bY (es:=([(0,1,0,-1),(0,5,-1,0),(1,2,1,-1),(1,4,0,1),(2,3,1,-1),(3,4,1,-1),(4,5,0,-1)]:TO (SP)).map (eP (eI .i64) (eP (eI .i64) (eP (eI .i64) (eI .i64))))) MD rfl (bZ MD z44 rfl rfl) rfl rfl) gn rfl fun b42=>?_;obtain⟨r22,h31,hF⟩:=J hF;refine wc gn (fun m hm=>Mm h31 m (hm.rd (k:=28) rfl (.sl _ _ _ _)) (hm.q 0)) ?_;rintro⟨⟩;refine wz ?_;refine Td ?_;obtain⟨v0,h32,hF⟩:=J hF;refine ct (fun v0 (_:TP)=>⟨.normal,[(1,ptr b1 0),(2,ptr b2 0),(4,ba r15),(5,ba r16),(6,ba r17),(10,.bool r22),(11,.bool v0)],(uo b1 a0 l6 a1 l5 e1 ak r0 (uo b2 a3 l10 a4 l7 e4 ak r1 []))⟩) v0 ?_ ?_;clear hF;revert v0;intro r hF;refine wz ?_;obtain⟨r27,h33,hF⟩:=J hF;refine wc gn (fun m hm=>rW h33 m (hm.rd (k:=21) rfl (.sl _ _ _ _)) (hm.rd (k:=22) rfl (.sl _ _ _ _)) (hm.dp (q:=23) rfl)) ?_;rintro⟨⟩;refine wz ?_;rcases U hF with⟨h5,hF⟩|⟨h5,hF⟩;refine wz ?_;obtain⟨r28,h34,hF⟩:=J hF;refine wc (gg rfl rfl (eT h5)) (fun m hm=>rW h34 m (hm.rd (k:=25) rfl (.sl _ _ _ _)) (hm.rd (k:=26) rfl (.sl _ _ _ _)) (hm.dp (q:=27) rfl)) ?_;rintro⟨⟩;refine wz ?_;rcases U hF with⟨h0,hF⟩|⟨h0,hF⟩;refine Tu (aH (k:=16) eW rfl rfl rfl) (gg rfl rfl (eT h0)) rfl ?_;obtain⟨r29,h35,hF⟩:=J hF;refine Tq (Tj (k:=30) rfl) ?_;have hFx:=hF;refine Wo.iv (k:=30) (q:=31) (L:=(l1.set (S7) (l4,[]))) rfl (.inl rfl) rfl ?_;generalize l1.length=nN;rintro rfl;replace hF:=hFx;clear hFx;refine wc (gg rfl rfl (eT h0)) (fun m hm=>rW h35 m (hm.rd (k:=29) rfl (.sl _ _ _ _)) (hm.rd (k:=30) rfl (.sl _ _ _ _)) (hm.dp (q:=31) rfl)) ?_;rintro⟨⟩;refine wz ?_;rcases U hF with⟨h1,hF⟩|⟨h1,hF⟩;refine Tu (aH (k:=15) eW rfl rfl rfl) (gg rfl rfl (eT h1)) rfl ?_;obtain⟨r30,h36,hF⟩:=J hF;refine Tq (Tj (k:=33) rfl) ?_;have hFx:=hF;refine Wo.iv (k:=33) (q:=34) (L:=(l2.set (S7) (l9,[[4,5,6,7]]))) rfl (.inl rfl) rfl ?_;generalize l2.length=nN;rintro rfl;replace hF:=hFx;clear hFx;refine wc (gg rfl rfl (eT h1)) (fun m hm=>rW h36 m (hm.rd (k:=32) rfl (.sl _ _ _ _)) (hm.rd (k:=33) rfl (.sl _ _ _ _)) (hm.dp (q:=34) rfl)) ?_;rintro⟨⟩;refine wz ?_;rcases U hF with⟨h2,hF⟩|⟨h2,hF⟩;refine Tu (aH (k:=14) eW rfl rfl rfl) (gg rfl rfl (eT h2)) rfl ?_;obtain⟨r31,h37,hF⟩:=J hF;refine Tq (Tj (k:=18) rfl) ?_;have hFx:=hF;refine Wo.iv (k:=18) (q:=19) (L:=(l3.set ((1:Int).toNat) ([1,2,3,5],l15))) rfl (.inl rfl) rfl ?_;generalize l3.length=nN;rintro rfl;replace hF:=hFx;clear hFx;refine wc (gg rfl rfl (eT h2)) (fun m hm=>rW h37 m (hm.rd (k:=17) rfl (.sl _ _ _ _)) (hm.rd (k:=18) rfl (.sl _ _ _ _)) (hm.dp (q:=19) rfl)) ?_;rintro⟨⟩;refine wz ?_;obtain rfl:=QL hF;exact ae () (TL 20 8);refine wz ?_;cases hF;exact ae () (TL 20 8);refine wz ?_;cases hF;exact ae () (TL 20 8);refine wz ?_;cases hF;exact ae () (TL 20 8);refine wz ?_;cases hF;exact ae () (TL 20 8);rintro⟨⟩;refine au ?_;rcases U hF with⟨h38,hF⟩|⟨h38,hF⟩;refine wz ?_;rcases U hF with⟨h39,hF⟩|⟨h39,hF⟩;refine wz ?_;rcases U hF with⟨h40,hF⟩|⟨h40,hF⟩;refine wz ?_;rcases U hF with⟨h41,hF⟩|⟨h41,hF⟩;refine wz ?_;rcases U hF with⟨h6,hF⟩|⟨h6,hF⟩;refine wz ?_;obtain⟨r32,h42,hF⟩:=J hF;refine wc (gg rfl rfl (eT h6)) (fun m hm=>FM h42 m (hm.rd (k:=1) rfl (.sl _ _ _ _)) (hm.rd (k:=2) rfl (.sl _ _ _ _)) (hm.dp (q:=3) rfl)) ?_;rintro⟨⟩;refine wz ?_;rcases U hF with⟨h7,hF⟩|⟨h7,hF⟩;refine wz ?_;obtain⟨r33,h43,hF⟩:=J hF;refine wc (gg rfl rfl (eT h7)) (fun m hm=>FM h43 m (hm.rd (k:=5) rfl (.sl _ _ _ _)) (hm.rd (k:=6) rfl (.sl _ _ _ _)) (hm.dp (q:=7) rfl)) ?_;rintro⟨⟩;refine wz ?_;rcases U hF with⟨h8,hF⟩|⟨h8,hF⟩;refine wz ?_;obtain⟨r34,h44,hF⟩:=J hF;refine wc (gg rfl rfl (eT h8)) (fun m hm=>wN h44 m (hm.rd (k:=5) rfl (.sl _ _ _ _)) (hm.rd (k:=6) rfl (.sl _ _ _ _)) (hm.dp (q:=7) rfl)) ?_;rintro⟨⟩;refine wz ?_;rcases U hF with⟨h9,hF⟩|⟨h9,hF⟩;refine wz ?_;obtain⟨r35,h45,hF⟩:=J hF;refine wc (gg rfl rfl (eT h9)) (fun m hm=>wN h45 m (hm.rd (k:=5) rfl (.sl _ _ _ _)) (hm.rd (k:=6) rfl (.sl _ _ _ _)) (hm.dp (q:=7) rfl)) ?_;rintro⟨⟩;refine wz ?_;rcases U hF with⟨h10,hF⟩|⟨h10,hF⟩;refine wz ?_;obtain⟨r36,h46,hF⟩:=J hF;refine wc (gg rfl rfl (eT h10)) (fun m hm=>wN h46 m (hm.rd (k:=5) rfl (.sl _ _ _ _)) (hm.rd (k:=6) rfl (.sl _ _ _ _)) (hm.dp (q:=7) rfl)) ?_;rintro⟨⟩;refine wz ?_;rcases U hF with⟨h11,hF⟩|⟨h11,hF⟩;refine wz ?_;obtain⟨r37,h47,hF⟩:=J hF;refine wc (gg rfl rfl (eT h11)) (fun m hm=>wN h47 m (hm.rd (k:=5) rfl (.sl _ _ _ _)) (hm.rd (k:=6) rfl (.sl _ _ _ _)) (hm.dp (q:=7) rfl)) ?_;rintro⟨⟩;refine au ?_;obtain rfl:=QL hF;exact ar () [];refine au ?_;cases hF;exact ar () [];refine au ?_;cases hF;exact ar () [];refine au ?_;cases hF;exact ar () [];refine au ?_;cases hF;exact ar () [];refine au ?_;cases hF;exact ar () [];refine au ?_;cases hF;exact ar () [];refine au ?_;cases hF;exact ar () [];refine au ?_;cases hF;exact ar () [];refine au ?_;cases hF;exact ar () [];refine au ?_;cases hF;exact ar () []
def vz{n l1 x5 a2 c3 r}(hF:Jc n l1 x5=some r)(m)(h4:A8 m a2 c3 l1):
 aI (TV p q) 29 [bD a2 l1 c3,ba x5] m (TQ m (.int .i64 r)):=by
 unfold Jc at hF;refine cw Try.func29 (Tw (Tp m) dI h4) ?_;refine au ?_;rcases U hF with⟨h6,hF⟩|⟨h6,hF⟩;refine au ?_;cases hF;exact ar () [];refine au ?_;obtain⟨h7,hF⟩:=az hF;refine Tc (aJ rfl rfl (bU _ _ h7)) rfl ?_;obtain⟨h8,hF⟩:=cO hF;refine Tv (k:=0) rfl (aM h8) ?_;rintro b9 o10 rfl;refine wz ?_;obtain⟨x11,h12,hF⟩:=J hF;refine wz ?_;refine Tc (kC rfl (kz (by rw[u5]; rfl) u3)) rfl ?_
 refine au ?_;cases hF;exact ar () []
def KM{n x1 x2 l2 l3 x3 a0 c0 a1 c1 r}(hF:MT n x1 x2 l2 l3 x3=some r)(m){H:SV}(hH:∀b,H b->b<m.next)(h14:A8 m a0 c0 l2)(h15:∀b,kK a0=some b->¬H b)(h16:A8 m a1 c1 l3)(h17:∀b,kK a1=some b->¬H b):
 aI (TV p q) 12 [Lj x1 x2 a0 l2 c0 a1 l3 c1 x3] m (fun v m'=>∃x:SU×Nat×Nat×SU×Nat×Nat×SS ×(Nat->Prop),v=.agg #[.slice x.1 x.2.2.1 x.2.1,.slice x.2.2.2.1 x.2.2.2.2.2.1 x.2.2.2.2.1]/\Hp m m' [.rd x.1 x.2.1 2 x.2.2.1 (r.1.map (eP (eI .i64) (eI .i64))),.rd x.2.2.2.1 x.2.2.2.2.1 2 x.2.2.2.2.2.1 x.2.2.2.2.2.2.1,.gen (cd ak x.2.2.2.2.2.2.2 r.2 x.2.2.2.2.2.2.1),dT H]):=by
 unfold MT at hF;refine cw Try.func12 (Hp.oU (l0:=[Ia a0 c0 l2]) (Hp.oU (l0:=[]) (Hp.sb m hH) dI h14 h15) (eC dI) h16 h17) ?_;refine Td<|Te<|wb fun b1=>?_;refine wa qI fun b2=>?_;refine Tk<|Tl<|Td<|Wk.draw (by kernel_rfl)<|Tc (aG (r:=ptr b1 0) rfl (Ek _ _)) rfl<|Tc (aH (k:=1) LL rfl rfl rfl) rfl<|Tc (aJ rfl rfl (pY _ _ (by decide))) rfl<|Tc (kC rfl (kz (by rw[u5]; rfl) u3)) rfl<|Tc (aJ rfl rfl (bu _ _ _)) rfl<|Tc (aG (r:=ptr b1 1) rfl (DZ _ _)) rfl<|Tc (aH (k:=1) LL rfl rfl rfl) rfl<|Tc (aJ rfl rfl (pY _ _ (by decide))) rfl<|Tc (kC rfl (kz (by rw[u5]; rfl) u3)) rfl ?_
 refine Tc (aJ rfl rfl (bu _ _ _)) rfl<|Tc (bC rfl) rfl<|Tc (bC rfl) rfl<|Tk<|Tl<|Td ?_;obtain⟨r3,h18,hF⟩:=J hF;refine ct (fun(v0,v1) (_:TP)=>⟨.normal,[(1,ptr b1 0),(2,ptr b2 0),(3,ba v0),(4,ba v1)],(uS b1 x1 x2 a0 l2 c0 a1 l3 c1 x3 b2 [dT H])⟩) r3 ?_ ?_;clear hF;revert r3;intro r hF;refine Td<|Te<|Tc (aG (r:=ptr b1 4) rfl (Ap _ _)) rfl<|Tc (aH (k:=1) PD rfl rfl rfl) rfl<|Tk<|Tl ?_;rcases U hF with⟨h0,hF⟩|⟨h0,hF⟩;refine Ty rfl h0<|Te<|Tc (bC rfl) rfl<|Tc (bC rfl) rfl<|Tk ?_;cases hF;exact ae () [1,3,2,0,4];refine TC rfl h0<|TA ?_;cases hF;exact ae () [1,3,2,0,4];clear h18;obtain⟨v0,v1⟩:=r3;rintro⟨⟩;refine Tl<|Td<|Te<|Tc (cp rfl qI rfl (cm Be rfl rfl rfl)) rfl<|wa qI fun b0=>?_;refine Tz (ek (k:=0) eW rfl rfl rfl rfl rfl)<|Tk<|Tl<|Td<|Te<|Tc (bC rfl) rfl<|Tk<|Tl<|Td<|Td<|Te<|Tc (bC rfl) rfl<|Tk<|Tl<|Th ?_;obtain⟨l1,h1,hF⟩:=J hF;refine ct (fun l1 (a2:SU)=>⟨(.exit 0),(yp b1 b2 v0 v1 b0 []),(uS b1 x1 x2 a0 l2 c0 a1 l3 c1 x3 b2 [HJ b0 a2 l1,cV a2 l1,dT H])⟩) l1 ?_ ?_;refine lw h1 none (fun(l10,v2,v4) a3=>⟨.normal,(yp b1 b2 v0 v1 b0 [(6,ba v2),(7,ba v4)]),(uS b1 x1 x2 a0 l2 c0 a1 l3 c1 x3 b2 [HJ b0 a3 l10,cV a3 l10,dT H])⟩) (To (TH 2 rfl) (Ti [2,3,4,5,1,0,6] rfl rfl)) ?_;clear hF h1;rintro⟨l10,v2,v4⟩ a3 r hF;unfold tY at hF;refine Td<|Td<|Te<|Tc (aS rfl) rfl<|Tc (aS rfl) rfl<|Tc (aJ rfl rfl (vV _ _ _)) rfl<|Tk<|Tl ?_;rcases U hF with⟨h2,hF⟩|⟨h2,hF⟩;refine Ty rfl h2<|TA<|Tl<|Td<|Th<|Td<|Te<|Tc (bC rfl) rfl<|Tk<|Tl<|Td<|Td<|Te<|Tc (bC rfl) rfl<|Tk<|Tl<|Th ?_;obtain⟨l7,h3,hF⟩:=J hF;refine ct (fun l7 (a4:SU)=>⟨(.exit 2),(yp b1 b2 v0 v1 b0 [(6,ba v2),(7,ba v4)]),(uS b1 x1 x2 a0 l2 c0 a1 l3 c1 x3 b2 [HJ b0 a4 l7,cV a4 l7,dT H])⟩) l7 ?_ ?_;refine lo h3 a3 [0,1,2,3,4,5,6] (fun(l8,v5,v7) a5=>⟨.normal,(yp b1 b2 v0 v1 b0 [(6,ba v2),(7,ba v4),(8,ba v5),(9,ba v7)]),(uS b1 x1 x2 a0 l2 c0 a1 l3 c1 x3 b2 [HJ b0 a5 l8,cV a5 l8,dT H])⟩) ?_;clear hF h3;rintro⟨l8,v5,v7⟩ a5 r hF;unfold uN at hF;refine Td<|Td<|Te<|Tc (aS rfl) rfl<|Tc (aS rfl) rfl<|Tc (aJ rfl rfl (vV _ _ _)) rfl<|Tk<|Tl ?_;rcases U hF with⟨h4,hF⟩|⟨h4,hF⟩;refine Ty rfl h4<|TA<|Tl<|Td<|Th<|Td<|Te<|Tc (aG (r:=ptr b0 0) rfl (ju _ _)) rfl<|Tc (aH (k:=4) tL rfl rfl rfl) rfl<|Tc (aS rfl) rfl<|Tc (aS rfl) rfl<|Tc (cp rfl z26 rfl (cm Ar rfl rfl rfl)) rfl<|Ts (bY (es:=([(v5,v2)]:SQ).map (eP (eI .i64) (eI .i64))) w5 rfl (bZ w5 z26 rfl rfl) rfl rfl) gn rfl fun b11=>?_;obtain⟨h19,hF⟩:=az hF;refine Ts (so (k:=6) (k2:=0) (xs:=(l8:SQ)) (ys:=([(v5,v2)]:SQ)) (DC (sF .i64) (sF .i64)) w5 ⟨_,Nb⟩ rfl rfl rfl (.arr _ _ _ _ _) h19) gn rfl fun a12=>?_;refine Tc (aG (r:=ptr b0 0) rfl (ju _ _)) rfl<|Tz (ek (k:=5) tL rfl rfl rfl rfl rfl)<|Tk<|Tl<|Te<|Tc (aS rfl) rfl<|Tc (aJ rfl rfl (bu _ _ _)) rfl<|Tc (aG (r:=ptr b1 3) rfl (zN _ _)) rfl<|Tc (aH (k:=1) Fi rfl rfl rfl) rfl<|Tc (aS rfl) rfl ?_;obtain⟨r13,h20,hF⟩:=J hF;refine wc gn (fun m hm=>vz h20 m (hm.q 3)) ?_;rintro⟨⟩;refine Tc (aJ rfl rfl (bU _ _ (by decide))) rfl<|Tc (aJ rfl rfl (bu _ _ _)) rfl<|Tc (bC rfl) rfl<|Tk<|At.bn<|Tl<|Te<|Tc (aS rfl) rfl<|Tc (aJ rfl rfl (bu _ _ _)) rfl<|Tc (bC rfl) rfl<|Tk ?_
 cases hF;exact ae a12 (TL 1 7);refine TC rfl h4<|Wk.exit<|At.te ?_;cases hF;exact ae a5 (TL 0 7);rintro a4;refine TJ<|Tl<|Te<|Tc (aS rfl) rfl<|Tc (aJ rfl rfl (bu _ _ _)) rfl<|Tc (aG (r:=ptr b1 3) rfl (zN _ _)) rfl<|Tc (aH (k:=0) Fi rfl rfl rfl) rfl<|Tc (aS rfl) rfl<|Tc (aJ rfl rfl (bu _ _ _)) rfl ?_;obtain⟨r14,h21,hF⟩:=J hF;refine wc gn (fun m hm=>vz h21 m (hm.q 2)) ?_;rintro⟨⟩;refine Tc (aJ rfl rfl (bU _ _ (by decide))) rfl<|Tc (aJ rfl rfl (bu _ _ _)) rfl<|Tc (bC rfl) rfl<|Tk<|At.bn<|Tl<|Te<|Tc (aS rfl) rfl<|Tc (aJ rfl rfl (bu _ _ _)) rfl<|Tc (bC rfl) rfl<|Tk ?_
 cases hF;exact ae a4 (TL 0 7);refine TC rfl h2<|Wk.exit<|At.te ?_;cases hF;exact ae a3 (TL 0 7);rintro a2;refine TJ<|Tl<|Td<|Td<|Te<|Tc (aG (r:=ptr b1 4) rfl (Ap _ _)) rfl<|Tc (aH (k:=0) PD rfl rfl rfl) rfl<|Tk<|Tl ?_;rcases U hF with⟨h5,hF⟩|⟨h5,hF⟩;refine Ty rfl h5<|Td<|Te<|Tc (aG (r:=ptr b0 1) rfl (ep _ _)) rfl<|Tc (aH (k:=4) kY rfl rfl rfl) rfl<|Ts (bY (es:=([0,1,2,3,7,11,15,14,13,12,8,4]:TO (Int)).map (eI .i64)) eU rfl (bZ eU z3 rfl rfl) rfl rfl) gn rfl fun b3=>?_;refine Ts (bY (es:=([5,9,10,6]:TO (Int)).map (eI .i64)) eU rfl (bZ eU z3 rfl rfl) rfl rfl) gn rfl fun b5=>?_;refine Tq (Tj (k:=0) rfl)<|Tq (Tg (k:=0) rfl)<|Ts (bY (es:=[[cf b5]]) pw rfl (bZ pw z51 rfl rfl) rfl rfl) gn rfl fun b4=>?_;refine Wo.dp (r:=bg) (L:=([[5,9,10,6]]:SR)) (es:=[[cf b5]]) (gT.cons (r:=bg) (z:=[5,9,10,6]) (g:=((some ⟨b5,0,none⟩),4)) (Lf.s (k:=1) rfl) gT.nil) ?_;intro r15;refine Tc (cp rfl z54 rfl (cm lJ rfl rfl rfl)) rfl<|Tq (Tj (k:=3) rfl)<|Tq (Tg (k:=3) rfl)<|Tq (Tj (k:=1) rfl)<|Tq (Tg (k:=1) rfl)<|Ts (bY (es:=[[IW b3,kZ b4]]) jd rfl (bZ jd z54 rfl rfl) rfl rfl) gn rfl fun b12=>?_;refine Wo.dp (r:=ak) (L:=([([0,1,2,3,7,11,15,14,13,12,8,4],[[5,9,10,6]])]:SO)) (es:=[[IW b3,kZ b4]]) (gT.cons (r:=ak) (z:=([0,1,2,3,7,11,15,14,13,12,8,4],[[5,9,10,6]])) (g:=(((some ⟨b3,0,none⟩),12),((some ⟨b4,0,none⟩),1,[[cf b5]]))) (Lf.p (Lf.s (k:=4) rfl) (Lf.l (k:=2) (q:=1) rfl rfl rfl)) gT.nil) ?_;intro r16;obtain⟨h22,hF⟩:=az hF;refine Tq (TH (ps:=_) 2 rfl)<|Tq (aa.EY (r:=ak))<|Ts (yV (r:=ak) (k:=1) (q:=0) (k2:=3) (q2:=2) (L:=([]:SO)) (L':=([([0,1,2,3,7,11,15,14,13,12,8,4],[[5,9,10,6]])]:SO)) jd ⟨_,u32⟩ rfl rfl rfl rfl (.arr _ _ _ _ _) rfl rfl h22) gn rfl ?_;rintro⟨a13,r8⟩;refine Tc (aG (r:=ptr b0 1) rfl (ep _ _)) rfl<|Tz (ek (k:=12) kY rfl rfl rfl rfl rfl)<|Tk<|Tl<|Td ?_;obtain⟨l4,h23,hF⟩:=J hF;refine ct (fun l4 ((a8,e3,r4):SU×SS ×(Nat->Prop))=>⟨.normal,[(2,ptr b2 0),(5,ptr b0 0)],(iZ b2::uo b0 a2 l1 a8 l4 e3 ak r4 [dT H])⟩) l4 ?_ ?_;clear hF;revert l4;intro r hF;refine Td<|Te<|Tc (aG (r:=ptr b1 2) rfl (AX _ _)) rfl<|Tc (aH (k:=8) Fi rfl rfl rfl) rfl ?_;obtain⟨r17,h24,hF⟩:=J hF;refine wc gn (fun m hm=>vz h24 m (hm.q 9)) ?_;rintro⟨⟩;refine Tc (aJ rfl rfl (bU _ _ (by decide))) rfl<|Tc (aJ rfl rfl (ij _ _ _)) rfl<|Tk<|Tl ?_
 rcases U hF with⟨h6,hF⟩|⟨h6,hF⟩;refine Ty rfl h6<|Te<|Tc (aG (r:=ptr b0 1) rfl (ep _ _)) rfl<|Tc (aH (k:=12) kY rfl rfl rfl) rfl<|Ts (bY (es:=([5,6,10,9]:TO (Int)).map (eI .i64)) eU rfl (bZ eU z3 rfl rfl) rfl rfl) gn rfl fun b6=>?_;refine Tc (cp rfl z54 rfl (cm lJ rfl rfl rfl)) rfl<|Tq (Tj (k:=0) rfl)<|Tq (Tg (k:=0) rfl)<|Ts (bY (es:=[[cf b6,.slice none 0 0]]) jd rfl (bZ jd z54 rfl rfl) rfl rfl) gn rfl fun b13=>?_;refine Wo.dp (r:=ak) (L:=([([5,6,10,9],[])]:SO)) (es:=[[cf b6,.slice none 0 0]]) (gT.cons (r:=ak) (z:=([5,6,10,9],[])) (g:=(((some ⟨b6,0,none⟩),4),(none,0,[]))) (Lf.p (Lf.s (k:=1) rfl) Lf.l0) gT.nil) ?_;intro r18;obtain⟨h25,hF⟩:=az hF;refine Ts (yV (r:=ak) (k:=4) (q:=3) (k2:=1) (q2:=0) (L:=(([]:SO)++([([0,1,2,3,7,11,15,14,13,12,8,4],[[5,9,10,6]])]:SO))) (L':=([([5,6,10,9],[])]:SO)) jd ⟨_,u32⟩ rfl rfl rfl rfl (.arr _ _ _ _ _) rfl rfl h25) gn rfl ?_;rintro⟨a14,r9⟩;refine Tc (aG (r:=ptr b0 1) rfl (ep _ _)) rfl<|Tz (ek (k:=15) kY rfl rfl rfl rfl rfl)<|Tk ?_;cases hF;exact ae (a14,((([]:SS)++([[IW b3,kZ b4]]:SS))++([[cf b6,.slice none 0 0]]:SS)),r9) [14,15,16,4,3,17];refine TC rfl h6<|TA ?_;cases hF;exact ae (a13,(([]:SS)++([[IW b3,kZ b4]]:SS)),r8) [11,12,13,1,0,14];rintro⟨a8,e3,r4⟩;refine Tl<|Td<|Te<|Tc (aH (k:=1) eW rfl rfl rfl) rfl<|Tz (ek (k:=0) eW rfl rfl rfl rfl rfl)<|Tk<|Tl<|TF<|At.tr ?_;cases hF;exact Tt (.cell (k:=0) eW rfl rfl rfl .nil) fun m' hm=>⟨(a2,l1.length,l1.length,a8,l4.length,l4.length,e3,r4),rfl,(To (Tg (k:=2) rfl) (To (Tg (k:=3) rfl) (Ti [2,3,4,5] rfl rfl))) m' hm⟩;refine TC rfl h5<|TA<|Tl<|Td<|Td<|Te<|Tc (bC rfl) rfl<|Tk<|Tl<|Th ?_;obtain⟨l5,h7,hF⟩:=J hF;refine ct (fun l5 ((a9,e4,r5):SU×SS ×(Nat->Prop))=>⟨(.exit 4),[(2,ptr b2 0),(5,ptr b0 0)],(iZ b2::uo b0 a2 l1 a9 l5 e4 ak r5 [dT H])⟩) l5 ?_ ?_;refine lw h7 ((none,[],(fun _=>False)):SU×SS ×(Nat->Prop)) (fun(l12,v3) ((a6,e1,r0):SU×SS ×(Nat->Prop))=>⟨.normal,(yp b1 b2 v0 v1 b0 [(10,ba v3)]),(uS b1 x1 x2 a0 l2 c0 a1 l3 c1 x3 b2 (uo b0 a2 l1 a6 l12 e1 ak r0 [dT H]))⟩) (To (TH 2 rfl) (To (aa.EY (r:=ak)) (Ti [2,3,4,5,6,7,1,0,8] rfl rfl))) ?_;clear hF h7;rintro⟨l12,v3⟩ ⟨a6,e1,r0⟩ r hF;unfold ua at hF;refine Td<|Td<|Te<|Tc (aS rfl) rfl<|Tc (aS rfl) rfl<|Tc (aJ rfl rfl (gC _ _ _)) rfl<|Tk<|Tl ?_;rcases U hF with⟨h8,hF⟩|⟨h8,hF⟩;refine Ty rfl h8<|TA<|Tl<|Td<|Th<|Td<|Te<|Tc (bC rfl) rfl<|Tk<|Tl<|Th ?_;obtain⟨l11,h9,hF⟩:=J hF;refine ct (fun l11 ((a10,e5,r6):SU×SS ×(Nat->Prop))=>⟨(.exit 6),(yp b1 b2 v0 v1 b0 [(10,ba v3)]),(uS b1 x1 x2 a0 l2 c0 a1 l3 c1 x3 b2 (uo b0 a2 l1 a10 l11 e5 ak r6 [dT H]))⟩) l11 ?_ ?_;refine lo h9 (a6,e1,r0) [0,1,2,3,4,5,6,7,8] (fun(l6,v6) ((a7,e0,r1):SU×SS ×(Nat->Prop))=>⟨.normal,(yp b1 b2 v0 v1 b0 [(10,ba v3),(11,ba v6)]),(uS b1 x1 x2 a0 l2 c0 a1 l3 c1 x3 b2 (uo b0 a2 l1 a7 l6 e0 ak r1 [dT H]))⟩) ?_;clear hF h9;rintro⟨l6,v6⟩ ⟨a7,e0,r1⟩ r hF;unfold ry at hF;refine Td<|Td<|Te<|Tc (aS rfl) rfl<|Tc (aS rfl) rfl<|Tc (aJ rfl rfl (gC _ _ _)) rfl<|Tk<|Tl ?_;rcases U hF with⟨h10,hF⟩|⟨h10,hF⟩;refine Ty rfl h10<|TA<|Tl<|Td ?_;obtain⟨l9,h26,hF⟩:=J hF;refine ct (fun l9 ((a11,e6,r7):SU×SS ×(Nat->Prop))=>⟨.normal,(yp b1 b2 v0 v1 b0 [(10,ba v3),(11,ba v6)]),(uS b1 x1 x2 a0 l2 c0 a1 l3 c1 x3 b2 (uo b0 a2 l1 a11 l9 e6 ak r7 [dT H]))⟩) l9 ?_ ?_;clear hF;revert l9;intro r hF;refine Th<|Td<|Te<|Tc (aS rfl) rfl<|Tc (aS rfl) rfl<|Tc (aJ rfl rfl (bu _ _ _)) rfl<|Tc (aJ rfl rfl (dO _ _ _)) rfl<|Tc (aS rfl) rfl ?_;obtain⟨y0,h27,hF⟩:=J hF;refine Tc (aJ rfl rfl ((bu _ _ _).trans (cI h27))) rfl<|Tc (bC rfl) rfl<|Tk<|Tl<|Td<|Te<|Tc (aS rfl) rfl<|Tc (aS rfl) rfl<|Tc (aJ rfl rfl (bu _ _ _)) rfl<|Tc (aJ rfl rfl (bu _ _ _)) rfl<|Tc (bC rfl) rfl<|Tk<|Tl<|Td<|Te<|Tc (aG (r:=ptr b1 2) rfl (AX _ _)) rfl<|Tc (aH (k:=0) Fi rfl rfl rfl) rfl<|Tc (aS rfl) rfl ?_;refine Tc (aS rfl) rfl<|Tc (aJ rfl rfl (dO _ _ _)) rfl<|Tc (aS rfl) rfl<|Tc (aJ rfl rfl (bu _ _ _)) rfl ?_;obtain⟨r19,h28,hF⟩:=J hF;refine wc gn (fun m hm=>vz h28 m (hm.q 1)) ?_;rintro⟨⟩;refine Tc (aJ rfl rfl (bU _ _ (by decide))) rfl<|Tk<|Tl<|Th<|Td<|Te<|Tc (aJ rfl rfl (ij _ _ _)) rfl<|Tc (bC rfl) rfl<|Tk<|Tl ?_
 rcases U hF with⟨h11,hF⟩|⟨h11,hF⟩;refine Ty rfl h11<|Te<|Tc (aG (r:=ptr b0 1) rfl (ep _ _)) rfl<|Tc (aH (k:=4) kY rfl rfl rfl) rfl<|Tc (aS rfl) rfl<|Tc (aS rfl) rfl<|Tc (aJ rfl rfl (bu _ _ _)) rfl<|Tc (aS rfl) rfl ?_;obtain⟨y1,h29,hF⟩:=J hF;refine Tc (aJ rfl rfl ((bu _ _ _).trans (cI h29))) rfl<|Ts (bY (es:=([y0,S6 (y0+1),y1]:TO (Int)).map (eI .i64)) eU rfl (bZ eU z3 rfl rfl) rfl rfl) gn rfl fun b7=>?_;refine Tc (cp rfl z54 rfl (cm lJ rfl rfl rfl)) rfl<|Tc (aS rfl) rfl<|Tc (aS rfl) rfl ?_;obtain⟨y2,h30,hF⟩:=J hF;refine Tc (aJ rfl rfl ((bu _ _ _).trans (cI h30))) rfl<|Tc (aS rfl) rfl<|Ts (bY (es:=([y0,y2,S6 ((S6 (y0+v0))+1)]:TO (Int)).map (eI .i64)) eU rfl (bZ eU z3 rfl rfl) rfl rfl) gn rfl fun b8=>?_;refine Tc (cp rfl z54 rfl (cm lJ rfl rfl rfl)) rfl<|Tq (Tj (k:=1) rfl)<|Tq (Tg (k:=1) rfl)<|Tq (Tj (k:=0) rfl)<|Tq (Tg (k:=0) rfl)<|Ts (bY (es:=[[Dy b7,.slice none 0 0],[Dy b8,.slice none 0 0]]) jd rfl (bZ jd z54 rfl rfl) rfl rfl) gn rfl fun b14=>?_;refine Wo.dp (r:=ak) (L:=([([y0,S6 (y0+1),y1],[]),([y0,y2,S6 ((S6 (y0+v0))+1)],[])]:SO)) (es:=[[Dy b7,.slice none 0 0],[Dy b8,.slice none 0 0]]) (gT.cons (r:=ak) (z:=([y0,S6 (y0+1),y1],[])) (g:=(((some ⟨b7,0,none⟩),3),(none,0,[]))) (Lf.p (Lf.s (k:=2) rfl) Lf.l0) (gT.cons (r:=ak) (z:=([y0,y2,S6 ((S6 (y0+v0))+1)],[])) (g:=(((some ⟨b8,0,none⟩),3),(none,0,[]))) (Lf.p (Lf.s (k:=1) rfl) Lf.l0) gT.nil)) ?_;intro r20;obtain⟨h31,hF⟩:=az hF;refine Ts (yV (r:=ak) (k:=10) (q:=11) (k2:=1) (q2:=0) (L:=l6) (L':=([([y0,S6 (y0+1),y1],[]),([y0,y2,S6 ((S6 (y0+v0))+1)],[])]:SO)) jd ⟨_,u32⟩ rfl rfl rfl rfl (.arr _ _ _ _ _) rfl rfl h31) gn rfl ?_;rintro⟨a15,r10⟩;refine Tc (aG (r:=ptr b0 1) rfl (ep _ _)) rfl<|Tz (ek (k:=8) kY rfl rfl rfl rfl rfl)<|Tk<|At.bn<|At.bn ?_;cases hF;exact ae (a15,(e0++([[Dy b7,.slice none 0 0],[Dy b8,.slice none 0 0]]:SS)),r10) [4,5,6,7,8,9,10,11,12];refine TC rfl h11<|Td<|Te<|Tc (aJ rfl rfl (ij _ _ _)) rfl<|Tc (bC rfl) rfl<|Tk<|Tl ?_;rcases U hF with⟨h12,hF⟩|⟨h12,hF⟩;refine Ty rfl h12<|Td<|Td<|Te<|Tc (aG (r:=ptr b0 1) rfl (ep _ _)) rfl<|Tc (aH (k:=4) kY rfl rfl rfl) rfl<|Tc (nX (k:=6) u32 rfl rfl (.inl rfl)) rfl<|Tc (aJ rfl rfl (qL _ _ _)) rfl<|Tk<|Tl ?_;rcases U hF with⟨h13,hF⟩|⟨h13,hF⟩;refine Ty rfl h13<|Wk.exit<|At.te<|At.bx rfl<|TJ ?_;obtain rfl:=QL hF;exact ae (a7,e0,r1) (TL 0 9);refine TC rfl h13<|TA<|Tl<|Te<|Tc (aG (r:=ptr b0 1) rfl (ep _ _)) rfl<|Tc (aH (k:=4) kY rfl rfl rfl) rfl<|Tc (aS rfl) rfl ?_;obtain⟨y3,h32,hF⟩:=J hF;refine Tc (aJ rfl rfl ((bu _ _ _).trans (cI h32))) rfl<|Tc (aS rfl) rfl<|Tc (aS rfl) rfl<|Tc (aS rfl) rfl<|Tc (aJ rfl rfl (bu _ _ _)) rfl<|Ts (bY (es:=([y3,S6 ((S6 (y0+v0))+1),y0,S6 (y0+1)]:TO (Int)).map (eI .i64)) eU rfl (bZ eU z3 rfl rfl) rfl rfl) gn rfl fun b9=>?_;refine Tc (cp rfl z54 rfl (cm lJ rfl rfl rfl)) rfl<|Tq (Tj (k:=0) rfl)<|Tq (Tg (k:=0) rfl)<|Ts (bY (es:=[[cf b9,.slice none 0 0]]) jd rfl (bZ jd z54 rfl rfl) rfl rfl) gn rfl fun b15=>?_;refine Wo.dp (r:=ak) (L:=([([y3,S6 ((S6 (y0+v0))+1),y0,S6 (y0+1)],[])]:SO)) (es:=[[cf b9,.slice none 0 0]]) (gT.cons (r:=ak) (z:=([y3,S6 ((S6 (y0+v0))+1),y0,S6 (y0+1)],[])) (g:=(((some ⟨b9,0,none⟩),4),(none,0,[]))) (Lf.p (Lf.s (k:=1) rfl) Lf.l0) gT.nil) ?_;intro r21;obtain⟨h33,hF⟩:=az hF;refine Ts (yV (r:=ak) (k:=9) (q:=10) (k2:=1) (q2:=0) (L:=l6) (L':=([([y3,S6 ((S6 (y0+v0))+1),y0,S6 (y0+1)],[])]:SO)) jd ⟨_,u32⟩ rfl rfl rfl rfl (.arr _ _ _ _ _) rfl rfl h33) gn rfl ?_;rintro⟨a16,r11⟩;refine Tc (aG (r:=ptr b0 1) rfl (ep _ _)) rfl<|Tz (ek (k:=7) kY rfl rfl rfl rfl rfl)<|Tk<|At.bn<|At.bn ?_;cases hF;exact ae (a16,(e0++([[cf b9,.slice none 0 0]]:SS)),r11) [3,4,5,6,7,8,9,10,11];refine TC rfl h12<|Te<|Tc (aG (r:=ptr b0 1) rfl (ep _ _)) rfl<|Tc (aH (k:=4) kY rfl rfl rfl) rfl<|Tc (aS rfl) rfl<|Tc (aS rfl) rfl<|Tc (aJ rfl rfl (bu _ _ _)) rfl<|Tc (aS rfl) rfl ?_;obtain⟨y4,h34,hF⟩:=J hF;refine Tc (aJ rfl rfl ((bu _ _ _).trans (cI h34))) rfl<|Tc (aS rfl) rfl<|Ts (bY (es:=([y0,S6 (y0+1),y4,S6 ((S6 (y0+v0))+1)]:TO (Int)).map (eI .i64)) eU rfl (bZ eU z3 rfl rfl) rfl rfl) gn rfl fun b10=>?_;refine Tc (cp rfl z54 rfl (cm lJ rfl rfl rfl)) rfl<|Tq (Tj (k:=0) rfl)<|Tq (Tg (k:=0) rfl)<|Ts (bY (es:=[[cf b10,.slice none 0 0]]) jd rfl (bZ jd z54 rfl rfl) rfl rfl) gn rfl fun b16=>?_;refine Wo.dp (r:=ak) (L:=([([y0,S6 (y0+1),y4,S6 ((S6 (y0+v0))+1)],[])]:SO)) (es:=[[cf b10,.slice none 0 0]]) (gT.cons (r:=ak) (z:=([y0,S6 (y0+1),y4,S6 ((S6 (y0+v0))+1)],[])) (g:=(((some ⟨b10,0,none⟩),4),(none,0,[]))) (Lf.p (Lf.s (k:=1) rfl) Lf.l0) gT.nil) ?_;intro r22;obtain⟨h35,hF⟩:=az hF;refine Ts (yV (r:=ak) (k:=9) (q:=10) (k2:=1) (q2:=0) (L:=l6) (L':=([([y0,S6 (y0+1),y4,S6 ((S6 (y0+v0))+1)],[])]:SO)) jd ⟨_,u32⟩ rfl rfl rfl rfl (.arr _ _ _ _ _) rfl rfl h35) gn rfl ?_;rintro⟨a17,r12⟩;refine Tc (aG (r:=ptr b0 1) rfl (ep _ _)) rfl<|Tz (ek (k:=7) kY rfl rfl rfl rfl rfl)<|Tk<|At.bn<|At.bn ?_;cases hF;exact ae (a17,(e0++([[cf b10,.slice none 0 0]]:SS)),r12) [3,4,5,6,7,8,9,10,11];rintro⟨a11,e6,r7⟩;refine Tl<|Te<|Tc (aS rfl) rfl<|Tc (aJ rfl rfl (bu _ _ _)) rfl<|Tc (bC rfl) rfl<|Tk ?_;cases hF;exact ae (a11,e6,r7) (TL 0 9);refine TC rfl h10<|Wk.exit<|At.te ?_;cases hF;exact ae (a7,e0,r1) (TL 0 9);rintro⟨a10,e5,r6⟩;refine TJ<|At.bn<|Tl<|Te<|Tc (aS rfl) rfl<|Tc (aJ rfl rfl (bu _ _ _)) rfl<|Tc (bC rfl) rfl<|Tk ?_;cases hF;exact ae (a10,e5,r6) (TL 0 9);refine TC rfl h8<|Wk.exit<|At.te ?_;cases hF;exact ae (a6,e1,r0) (TL 3 6);rintro⟨a9,e4,r5⟩;refine TJ<|Tl<|Td<|Te<|Tc (aH (k:=1) eW rfl rfl rfl) rfl<|Tz (ek (k:=0) eW rfl rfl rfl rfl rfl)<|Tk<|Tl<|TF ?_;cases hF;exact Tt (.cell (k:=0) eW rfl rfl rfl .nil) fun m' hm=>⟨(a2,l1.length,l1.length,a9,l5.length,l5.length,e4,r5),rfl,(To (Tg (k:=2) rfl) (To (Tg (k:=3) rfl) (Ti [2,3,4,5] rfl rfl))) m' hm⟩
def ON{n x1 x2 l1 l2 x3 x4 x10 x11 x12 x13 x14 x15 x16 x17 x18 x19 x20 a0 c0 a1 c1 r}(hF:F7 n x1 x2 l1 l2 x3 x4 x10 x11 x12 x13 x14 x15 x16 x17 x18 x19 x20=some r)(m){H:SV}(hH:∀b,H b->b<m.next)(h0:A8 m a0 c0 l1)(h1:∀b,kK a0=some b->¬H b)(h2:A8 m a1 c1 l2)(h3:∀b,kK a1=some b->¬H b):
 aI (TV p q) 7 [Lj x1 x2 a0 l1 c0 a1 l2 c1 x3,M7 x4 x10 x11 x12 x13 x14 x15 x16 x17 x18 x19 x20] m (fun v m'=>∃x:SU×Nat×Nat×SU×Nat×Nat×SS ×(Nat->Prop)×SU×Nat×Nat×SU×Nat×Nat×SS ×(Nat->Prop)×SU×Nat×Nat×SU×Nat×Nat×SS ×(Nat->Prop),v=.agg #[.slice x.1 x.2.2.1 x.2.1,.slice x.2.2.2.1 x.2.2.2.2.2.1 x.2.2.2.2.1,.slice x.2.2.2.2.2.2.2.2.1 x.2.2.2.2.2.2.2.2.2.2.1 x.2.2.2.2.2.2.2.2.2.1,.slice x.2.2.2.2.2.2.2.2.2.2.2.1 x.2.2.2.2.2.2.2.2.2.2.2.2.2.1 x.2.2.2.2.2.2.2.2.2.2.2.2.1,.slice x.2.2.2.2.2.2.2.2.2.2.2.2.2.2.2.2.1 x.2.2.2.2.2.2.2.2.2.2.2.2.2.2.2.2.2.2.1 x.2.2.2.2.2.2.2.2.2.2.2.2.2.2.2.2.2.1,.slice x.2.2.2.2.2.2.2.2.2.2.2.2.2.2.2.2.2.2.2.1 x.2.2.2.2.2.2.2.2.2.2.2.2.2.2.2.2.2.2.2.2.2.1 x.2.2.2.2.2.2.2.2.2.2.2.2.2.2.2.2.2.2.2.2.1]/\Hp m m' [.rd x.1 x.2.1 2 x.2.2.1 (r.1.map (eP (eI .i64) (eI .i64))),.rd x.2.2.2.1 x.2.2.2.2.1 2 x.2.2.2.2.2.1 x.2.2.2.2.2.2.1,.gen (cd ak x.2.2.2.2.2.2.2.1 r.2.1 x.2.2.2.2.2.2.1),.rd x.2.2.2.2.2.2.2.2.1 x.2.2.2.2.2.2.2.2.2.1 2 x.2.2.2.2.2.2.2.2.2.2.1 (r.2.2.1.map (eP (eI .i64) (eI .i64))),.rd x.2.2.2.2.2.2.2.2.2.2.2.1 x.2.2.2.2.2.2.2.2.2.2.2.2.1 2 x.2.2.2.2.2.2.2.2.2.2.2.2.2.1 x.2.2.2.2.2.2.2.2.2.2.2.2.2.2.1,.gen (cd ak x.2.2.2.2.2.2.2.2.2.2.2.2.2.2.2.1 r.2.2.2.1 x.2.2.2.2.2.2.2.2.2.2.2.2.2.2.1),.rd x.2.2.2.2.2.2.2.2.2.2.2.2.2.2.2.2.1 x.2.2.2.2.2.2.2.2.2.2.2.2.2.2.2.2.2.1 2 x.2.2.2.2.2.2.2.2.2.2.2.2.2.2.2.2.2.2.1 (r.2.2.2.2.1.map (eP (eI .i64) (eI .i64))),.rd x.2.2.2.2.2.2.2.2.2.2.2.2.2.2.2.2.2.2.2.1 x.2.2.2.2.2.2.2.2.2.2.2.2.2.2.2.2.2.2.2.2.1 2 x.2.2.2.2.2.2.2.2.2.2.2.2.2.2.2.2.2.2.2.2.2.1 x.2.2.2.2.2.2.2.2.2.2.2.2.2.2.2.2.2.2.2.2.2.2.1,.gen (cd ak x.2.2.2.2.2.2.2.2.2.2.2.2.2.2.2.2.2.2.2.2.2.2.2 r.2.2.2.2.2 x.2.2.2.2.2.2.2.2.2.2.2.2.2.2.2.2.2.2.2.2.2.2.1),dT H]):=by
 unfold F7 at hF;refine cw Try.func7 (Hp.oU (l0:=[Ia a0 c0 l1]) (Hp.oU (l0:=[]) (Hp.sb m hH) dI h0 h1) (eC dI) h2 h3) ?_;refine wz ?_;refine wb fun b1=>?_;refine wb fun b0=>?_;refine wa z35 fun b2=>?_;refine au ?_;obtain⟨⟨l6,l3⟩,h4,hF⟩:=J hF;refine Ts (Ch (N:=(fun x:SU×Nat×Nat×SU×Nat×Nat×SS ×(Nat->Prop)=>[.rd (x.1) (x.2.1) 2 (x.2.2.1) (l6.map (eP (eI .i64) (eI .i64))),.rd (x.2.2.2.1) (x.2.2.2.2.1) 2 (x.2.2.2.2.2.1) (x.2.2.2.2.2.2.1),.gen (cd ak (x.2.2.2.2.2.2.2) l3 (x.2.2.2.2.2.2.1))])) rfl rfl (fun m hm=>KM h4 m hm.du (hm.q 4) (hm.no 4) (hm.q 3) (hm.no 3)) fun _=>rfl) gn rfl ?_;rintro⟨a2,c2,n0,a3,c3,n1,e0,r0⟩;refine Wo.zK (k:=0) rfl ?_;rintro rfl;refine Wo.iv (k:=1) (q:=2) (L:=l3) rfl (.inr (.inl ⟨_,rfl⟩)) rfl ?_;rintro rfl;refine wa qI fun b3=>?_;refine au ?_;obtain⟨⟨l7,l4⟩,h5,hF⟩:=J hF;refine Ts (Ch (N:=(fun x:SU×Nat×Nat×SU×Nat×Nat×SS ×(Nat->Prop)=>[.rd (x.1) (x.2.1) 2 (x.2.2.1) (l7.map (eP (eI .i64) (eI .i64))),.rd (x.2.2.2.1) (x.2.2.2.2.1) 2 (x.2.2.2.2.2.1) (x.2.2.2.2.2.2.1),.gen (cd ak (x.2.2.2.2.2.2.2) l4 (x.2.2.2.2.2.2.1))])) rfl rfl (fun m hm=>FL h5 m hm.du (hm.q 1) (hm.no 1) (hm.q 2) (hm.no 2) (hm.dp (q:=3) rfl) (hm.fQ (q:=3) rfl)) fun _=>rfl) gn rfl ?_;rintro⟨a4,c4,n45,a5,c5,n2,e1,r1⟩;refine Wo.zK (k:=0) rfl ?_;rintro rfl;refine Wo.iv (k:=1) (q:=2) (L:=l4) rfl (.inr (.inl ⟨_,rfl⟩)) rfl ?_;rintro rfl;refine wa qI fun b4=>?_;refine wz ?_;refine Td<|TB (prs:=[(0,5),(1,5)]) (by kernel_rfl)<|Tf (aH (k:=4) eW rfl rfl rfl) rfl<|Tf (aH (k:=0) eW rfl rfl rfl) rfl<|Tf (Mz (r:=ptr b0 6) rfl rfl (NV NS (i:=1) (by decide))) rfl<|Tf (aH (k:=9) Ob rfl rfl rfl) rfl<|Tf (aH (k:=0) eW rfl rfl rfl) rfl ?_
 obtain⟨⟨l8,l5⟩,h6,hF⟩:=J hF;refine Wn.c (JX (N:=(fun x:SU×Nat×Nat×SU×Nat×Nat×SS ×(Nat->Prop)=>[.rd (x.1) (x.2.1) 2 (x.2.2.1) (l8.map (eP (eI .i64) (eI .i64))),.rd (x.2.2.2.1) (x.2.2.2.2.1) 2 (x.2.2.2.2.2.1) (x.2.2.2.2.2.2.1),.gen (cd ak (x.2.2.2.2.2.2.2) l5 (x.2.2.2.2.2.2.1))])) rfl rfl (fun m hm=>FL h6 m hm.du (hm.q 1) (hm.no 1) (hm.q 2) (hm.no 2) (hm.dp (q:=3) rfl) (hm.fQ (q:=3) rfl)) fun _=>rfl) gn rfl ?_;rintro⟨a6,c6,n4,a7,c7,n5,e3,r3⟩;refine Wn.zK (k:=0) rfl ?_;rintro rfl;refine Wn.iv (k:=1) (q:=2) (L:=l5) rfl (.inr (.inl ⟨_,rfl⟩)) rfl ?_;rintro rfl;refine Tf (cp rfl z35 rfl (cm Pw rfl rfl rfl)) rfl<|Wn.o0 (ek (k:=11) KC rfl rfl rfl rfl rfl)<|Tx (fun m hm=>dj.all rfl) ?_;refine au ?_;cases hF;exact Tt (.cell (k:=11) KC rfl rfl rfl .nil) fun m' hm=>⟨(a2,c2,l6.length,a3,c3,l3.length,e0,r0,a4,c4,l7.length,a5,c5,l4.length,e1,r1,a6,c6,l8.length,a7,c7,l5.length,e3,r3),rfl,(Ti [8,9,10,4,5,6,0,1,2,16] rfl rfl) m' hm⟩
def Kx{n l2 l1 x3 x4 a0 c0 a1 c1}{r0:SV}{e0:SS}{r}(hF:NQ n l2 l1 x3 x4=some r)(m)(h3:ja m a0 c0 l2)(h4:lW m a1 c1 l1 e0)(h5:(cd ak r0 l1 e0).P m):
 aI (TV p q) 14 [kI a0 l2 c0 a1 l1 c1,ba x3,ba x4] m (fun v m'=>∃x:SU×Nat,v=.tuple #[.slice x.1 x.2 x.2,.int .i64 r.2]/\Hp m m' [.sl x.1 2 x.2 (r.1.map (eP (eI .i64) (eI .i64)))]):=by
 unfold NQ at hF;refine cw Try.func14 (Hp.mz (Tw (Tw (Tp m) dI h3) (eC dI) h4) (eC (eC dI)) h5) ?_;refine wz ?_;refine wb fun b0=>?_;refine au ?_;obtain⟨r1,h6,hF⟩:=J hF;refine wc gn (fun m hm=>s9 h6 m (hm.q 3) (hm.q 2) (hm.dp (q:=1) rfl)) ?_;rintro⟨⟩;refine au ?_;rcases U hF with⟨h7,hF⟩|⟨h7,hF⟩;refine au ?_;cases hF;exact Tt (.tmp rfl (.tmp rfl .nil)) fun m' hm=>⟨(none,0),rfl,(To (TH 2 rfl) (Ti [0] rfl rfl)) m' hm⟩;refine wz ?_;refine Td<|Td ?_;obtain⟨v0,h8,hF⟩:=J hF;refine ct (fun v0 (_:TP)=>⟨.normal,[(1,ba x3),(2,ba x4),(3,ptr b0 0),(37,.bool v0)],(fp b0 a0 l2 c0 a1 l1 c1 e0 ak r0 [])⟩) v0 ?_ ?_;clear hF;revert v0;intro r hF;refine wz ?_;rcases U hF with⟨h9,hF⟩|⟨h9,hF⟩;refine wz ?_;cases hF;exact ae () [0,3,2,1];refine wz ?_;rcases U hF with⟨h10,hF⟩|⟨h10,hF⟩;refine wz ?_;cases hF;exact ae () [0,3,2,1];refine wz ?_;rcases U hF with⟨h0,hF⟩|⟨h0,hF⟩;refine wz ?_;cases hF;exact ae () [0,3,2,1];refine wz ?_;obtain⟨h11,hF⟩:=cO hF;refine Tv (k:=2) rfl (aM h11) ?_;rintro b1 o1 rfl;refine wz ?_;obtain⟨⟨l5,l6⟩,h12,hF⟩:=J hF;refine Ts (O0 (w:=2) (j:=x3.toNat) (c:=1) (q:=2) kT rfl rfl (BY (k:=0) rfl) rfl h12 (fun _=>rfl) rfl (fun _=>rfl)) (gg rfl rfl (p9 h0)) rfl ?_;rintro⟨⟨a3,c2⟩,⟨a4,c3,e1⟩⟩;refine wz ?_;cases hF;exact ae () [4,7,6,5];rintro⟨⟩;refine Tl ?_;rcases U hF with⟨h13,hF⟩|⟨h13,hF⟩;refine au ?_;cases hF;exact Tt (.tmp rfl (.tmp rfl .nil)) fun m' hm=>⟨(none,0),rfl,(To (TH 2 rfl) (Ti [0] rfl rfl)) m' hm⟩;refine wz ?_;refine Td<|TB (prs:=[(0,6)]) (by kernel_rfl)<|Tf (aH (k:=0) eW rfl rfl rfl) rfl<|Tf (aG (r:=ptr b0 1) rfl (ep _ _)) rfl<|Tf (aH (k:=0) kY rfl rfl rfl) rfl<|Tf (aS rfl) rfl ?_
 obtain⟨h1,hF⟩:=cO hF;refine Wn.bt (k:=2) rfl (aM h1) ?_;rintro b2 o2 rfl;refine TG (lL jd rfl rfl h1) gn rfl ?_;obtain⟨⟨l7,l8⟩,h14,hF⟩:=J hF;refine Wn.x (O0 (w:=2) (j:=x3.toNat) (c:=0) (q:=4) Hl rfl rfl (BY (k:=0) rfl) rfl h14 (fun _=>rfl) rfl (fun _=>rfl)) gn rfl ?_;rintro⟨⟨a5,c4⟩,⟨a6,c5,e3⟩⟩;obtain⟨l4,h15,hF⟩:=J hF;refine Qr gn (fun m hm=>iD h15 m hm.du (hm.q 0) (hm.no 0) (hm.q 1) (hm.no 1) (hm.dp (q:=2) rfl) (hm.fQ (q:=2) rfl)) ?_;rintro⟨a7,c6,n0,e4,r3⟩;refine Wn.iv (k:=0) (q:=1) (L:=l4) rfl (.inr (.inl ⟨_,rfl⟩)) rfl ?_;rintro rfl;refine Tf (aS rfl) rfl<|Tf (aJ rfl rfl (bu _ _ _)) rfl ?_;obtain⟨h2,hF⟩:=cO hF;refine Wn.bt (k:=0) rfl (aM h2) ?_;rintro b3 o3 rfl;refine TG (lL pw rfl rfl h2) gn rfl ?_;obtain⟨l9,h16,hF⟩:=J hF;refine Wn.x (O0 (w:=1) (j:=(S6 (x4+1)).toNat) (c:=0) (q:=2) jL rfl rfl (BY (k:=0) rfl) rfl h16 (fun _=>rfl) rfl (fun _=>rfl)) gn rfl ?_;rintro⟨a8,c7⟩;obtain⟨l3,h17,hF⟩:=J hF;refine nc gn (fun m hm=>nT h17 m (hm.q 9) (hm.q 10) (hm.dp (q:=11) rfl) (hm.q 0)) ?_;rintro⟨a2,n1⟩;refine Wn.len (k:=0) (xs:=l3) rfl ?_;rintro rfl;refine Tf (bC rfl) rfl<|Tf (bC rfl) rfl<|Tx (fun m hm=>dj.all rfl) ?_;refine au ?_;cases hF;exact ar (a2,l3.length) [0]
def K2{n l1 x5 x6 a0 c0 r}(hF:MF n l1 x5 x6=some r)(m)(h3:ja m a0 c0 l1):
 aI (TV p q) 15 [bD a0 l1 c0,kW x5 x6] m (TQ m (.tuple #[.int .i64 r.1,.int .i64 r.2])):=by
 unfold MF at hF;refine cw Try.func15 (Tw (Tp m) dI h3) ?_;refine wz ?_;refine wb fun b0=>?_;refine wa z3 fun b1=>?_;refine wa Qj fun b2=>?_;refine au ?_;obtain⟨r7,h4,hF⟩:=J hF;refine wc gn (fun m hm=>DE h4 m (hm.q 3)) ?_;rintro⟨⟩;refine au ?_;rcases U hF with⟨h5,hF⟩|⟨h5,hF⟩;refine au ?_;cases hF;exact Tt (.cell (k:=1) cb rfl rfl rfl (.cell (k:=0) C3 rfl rfl rfl .nil)) fun m' hm=>⟨(),rfl,(Ti [] rfl rfl) m' hm⟩;refine au ?_;obtain⟨r8,h6,hF⟩:=J hF;refine wc gn (fun m hm=>pR h6 m) ?_;rintro⟨⟩;refine wz ?_;rcases U hF with⟨h7,hF⟩|⟨h7,hF⟩;refine au ?_;cases hF;exact Tt (.cell (k:=1) cb rfl rfl rfl (.cell (k:=0) C3 rfl rfl rfl .nil)) fun m' hm=>⟨(),rfl,(Ti [] rfl rfl) m' hm⟩;refine au ?_;refine wa z3 fun b3=>?_;refine au ?_;obtain⟨r4,h8,hF⟩:=J hF;refine wq (fun _ (b4:Nat)=>(.func (.func 56) #[] #[ptr b4 0],(ib b4 a0 l1 c0 [cK b0 x5 x6,dH b1,dH b2,dH b3]))) r4 (fun m hm=>?_) ?_;clear hF;revert r4;intro r hF;refine aQ (N:=4) (rs:=[.tmp 2]) rfl Try.func39 rfl rfl rfl hm ?_;refine wz ?_;refine wb fun b7=>?_;refine au ?_;refine Tc (je rfl rfl) rfl ?_;refine au ?_;cases hF;exact ar b7 [0,5,4,3,2,1];rintro b4;refine wz ?_;refine Th ?_;obtain⟨r1,h9,hF⟩:=J hF;refine Wk.range (N:=27) (rs:=[]) (γ:=TP) (X:=fun g=>(fun(r:Int⊕Int) (g:TP)=>(match r,g with|.inl v4,_=>⟨.done,(some .ret),[cK b0 x5 x6,.obj b1 (.cells [.int .i64 1] .own),dH b2,db b3 v4]⟩|.inr v5,_=>⟨.ready,none,[cK b0 x5 x6,dH b1,dH b2,db b3 v5]⟩:Rn)) r1 g) rfl rfl Try.func56 rfl rfl rfl ?_ (fun y=>by rcases r1 with _|_<;>(intro e; cases e)) ?_
 clear hF;revert r1;intro r hF;intro t0 l2 r0 h10 h11;refine wz ?_;refine Th ?_;obtain⟨r5,h0,hF⟩:=J hF;refine ct (fun(r:Int⊕Int) (g:TP)=>match r,g with|.inl v6,_=>⟨.ret,[],[.obj l2 (r0 .done (some .ret)),cK b0 x5 x6,.obj b1 (.cells [.int .i64 1] .own),dH b2,db b3 v6]⟩|.inr v7,_=>⟨(.exit 0),[],[.obj l2 (r0 .ready none),cK b0 x5 x6,dH b1,dH b2,db b3 v7]⟩) r5 ?_ ?_
 refine lo h0 () [0,1,2,3,4,5,6] (fun(v1,v0) _=>⟨.normal,[(0,.func (.yield l2) #[] #[]),(1,ptr b4 0),(5,bD a0 l1 c0),(6,dN l1),(7,ba v1)],(.obj l2 (r0 .ready none)::ib b4 a0 l1 c0 [cK b0 x5 x6,dH b1,dH b2,db b3 v0])⟩) ?_;clear hF h0;rintro⟨v1,v0⟩ ⟨⟩ r hF;unfold s8 at hF;refine wz ?_;refine Td ?_;rcases U hF with⟨h12,hF⟩|⟨h12,hF⟩;refine au ?_;obtain⟨h13,hF⟩:=cO hF;refine Tv (k:=2) rfl (aM h13) ?_;rintro b6 o1 rfl;refine wz ?_;obtain⟨⟨x3,x4⟩,h26,hF⟩:=J hF;refine wz ?_;refine wa z26 fun b9=>?_;refine au ?_;obtain⟨h14,hF⟩:=az hF;refine Tc (aJ rfl rfl (bU _ _ h14)) rfl ?_;obtain⟨h27,hF⟩:=cO hF;refine wz ?_;obtain⟨⟨x10,x11⟩,h28,hF⟩:=J hF;refine wz ?_;refine Tc (cp rfl z87 rfl (cm AI rfl rfl rfl)) rfl ?_;obtain⟨r3,h1,hF⟩:=J hF;refine Ts (tJ (k:=2) (k1:=0) (γA:=Nat) (GA:=(fun g:Nat=>(match g with|b5=>⟨.normal,[(3,ptr b0 0),(4,ptr b1 0),(5,ptr b2 0),(7,ptr b3 0),(8,ptr b5 0)],(.obj l2 (r0 .ready none)::cK b0 x5 x6::dH b1::dH b2::db b3 v0::fG b5 v1 x3 x4 x10 x11::pA b4 b6 o1 l1 c0 [])⟩:En))) (γ:=TP) (G:=fun g=>(fun(r:TP⊕Int) (g:TP)=>(match r,g with|.inl _,_=>⟨.ret,[],(.obj l2 (r0 .busy none)::cK b0 x5 x6::.obj b1 (.cells [.int .i64 1] .own)::dH b2::db b3 v0::pA b4 b6 o1 l1 c0 [])⟩|.inr v8,_=>⟨.normal,[],(.obj l2 (r0 .busy none)::cK b0 x5 x6::dH b1::dH b2::db b3 v8::pA b4 b6 o1 l1 c0 [])⟩:En)) r3 g) rfl rfl rfl h11 h10 rfl ?_ (fun _=>rfl) (fun _=>rfl) ?_ (fun y=>by rcases r3 with _|_<;>rfl)) gn rfl ?_
 clear hF h1;refine Te<|wa z87 fun b8=>?_;refine wz ?_;exact ae b8 [3,6,7,8,9,0,4,2,5];clear hF;revert r3;intro r hF;rintro b5;refine wz ?_;obtain⟨r9,h15,hF⟩:=J hF;refine wc gn (fun m hm=>Av h15 m) ?_;rintro⟨⟩;refine wz ?_;rcases U hF with⟨h16,hF⟩|⟨h16,hF⟩;refine au ?_;cases hF;exact ae () [0,1,2,3,4,6,7,8];refine au ?_;obtain⟨r6,h17,hF⟩:=J hF;refine wc gn (fun m hm=>oa h17 m) ?_;rintro⟨⟩;refine wz ?_;refine Th<|Td ?_;obtain⟨v2,h18,hF⟩:=J hF;refine ct (fun v2 (_:TP)=>⟨.normal,[(3,ptr b0 0),(4,ptr b1 0),(5,ptr b2 0),(7,ptr b3 0),(8,ptr b5 0),(9,ba r6),(29,.bool v2)],(.obj l2 (r0 .busy none)::cK b0 x5 x6::dH b1::dH b2::db b3 v0::fG b5 v1 x3 x4 x10 x11::pA b4 b6 o1 l1 c0 [])⟩) v2 ?_ ?_;clear hF;revert v2;intro r hF;refine wz ?_;rcases U hF with⟨h19,hF⟩|⟨h19,hF⟩;refine wz ?_;rcases U hF with⟨h20,hF⟩|⟨h20,hF⟩;refine wz ?_;cases hF;exact ae () (TL 0 9);refine wz ?_;cases hF;exact ae () (TL 0 9);refine wz ?_;cases hF;exact ae () (TL 0 9);rintro⟨⟩;refine Tl ?_;rcases U hF with⟨h2,hF⟩|⟨h2,hF⟩;refine wz ?_;cases hF;exact ae () [0,1,2,3,4,6,7,8];refine TC rfl h2<|Td ?_;obtain⟨v3,h21,hF⟩:=J hF;refine ct (fun v3 (_:TP)=>⟨.normal,[(3,ptr b0 0),(4,ptr b1 0),(5,ptr b2 0),(7,ptr b3 0),(8,ptr b5 0),(50,.bool v3)],(.obj l2 (r0 .busy none)::cK b0 x5 x6::dH b1::dH b2::db b3 v0::fG b5 v1 x3 x4 x10 x11::pA b4 b6 o1 l1 c0 [])⟩) v3 ?_ ?_;clear hF;revert v3;intro r hF;refine wz ?_;rcases U hF with⟨h22,hF⟩|⟨h22,hF⟩;refine wz ?_;rcases U hF with⟨h23,hF⟩|⟨h23,hF⟩;refine wz ?_;cases hF;exact ae () (TL 0 9);refine wz ?_;cases hF;exact ae () (TL 0 9);refine wz ?_;cases hF;exact ae () (TL 0 9);rintro⟨⟩;refine Tl ?_;rcases U hF with⟨h24,hF⟩|⟨h24,hF⟩;refine wz ?_;cases hF;exact ae () [0,1,2,3,4,6,7,8];refine wz ?_;cases hF;exact ae () [0,1,2,3,4,6,7,8];rcases r3 with _|v8;rintro⟨⟩;refine au ?_;cases hF;exact ae () (TL 0 5);rintro⟨⟩;refine fW ?_;cases hF;exact ae () [0,5,7,1,2,3,4];refine wz ?_;cases hF;exact ae () [0,3,4,5,6];rcases r5 with v6|v7;rintro⟨⟩;refine At.br ?_;cases hF;exact Tt .nil fun m' hm=>⟨(),(Ti [0,1,2,3,4] rfl rfl) m' hm⟩;rintro⟨⟩;refine TJ ?_;cases hF;exact At.fin .nil fun m' hm=>⟨(),(Ti [0,1,2,3,4] rfl rfl) m' hm⟩;rcases r1 with v4|v5;rintro⟨⟩
 change Wk _ _ _ _ .ret _ _ _ _
 refine wz ?_;cases hF;exact Tt (.cell (k:=1) cb rfl rfl rfl (.cell (k:=2) C3 rfl rfl rfl .nil)) fun m' hm=>⟨(),rfl,(Ti [] rfl rfl) m' hm⟩;rintro⟨⟩
 change At _ .normal _ _ _
 refine au ?_;rcases U hF with⟨h25,hF⟩|⟨h25,hF⟩;refine au ?_;cases hF;exact Tt (.cell (k:=1) cb rfl rfl rfl (.cell (k:=2) C3 rfl rfl rfl .nil)) fun m' hm=>⟨(),rfl,(Ti [] rfl rfl) m' hm⟩;refine fW ?_;cases hF;exact Tt (.cell (k:=1) cb rfl rfl rfl (.cell (k:=2) C3 rfl rfl rfl .nil)) fun m' hm=>⟨(),rfl,(Ti [] rfl rfl) m' hm⟩
def On(n x1 x2 l9 l10 x3 x4 x10 x11 x12 x13 x14 x15 x16 x17 x18 x19 x20 x21 x22 a8 c8 a9 c9 r)(hF:F5 n x1 x2 l9 l10 x3 x4 x10 x11 x12 x13 x14 x15 x16 x17 x18 x19 x20 x21 x22=some r)(m)(h5:A8 m a8 c8 l9)(h6:A8 m a9 c9 l10):
 aI (TV (some lu) (some DA)) 5 [Lj x1 x2 a8 l9 c8 a9 l10 c9 x3,M7 x4 x10 x11 x12 x13 x14 x15 x16 x17 x18 x19 x20,.int .u8 ((x21:Nat):Int),.int .u8 ((x22:Nat):Int)] m (TQ m (.bool r)):=by
 unfold F5 at hF;refine cw Try.func5 (Tw (Tw (Tp m) dI h5) (eC dI) h6) ?_;refine wz ?_;refine wb fun b3=>?_;refine wb fun b4=>?_;refine au ?_;obtain⟨r13,h7,hF⟩:=J hF;refine wc gn (fun m hm=>Nh h7 m) ?_;rintro⟨⟩;refine wz ?_;rcases U hF with⟨h8,hF⟩|⟨h8,hF⟩;refine au ?_;cases hF;exact ar () [];refine au ?_;refine Tc (aJ rfl rfl (pY _ _ (by decide))) rfl<|Tc (kC rfl (kz (by rw[u5]; rfl) u3)) rfl ?_
 refine wz ?_;refine Tc (aJ rfl rfl (pY _ _ (by decide))) rfl<|Tc (kC rfl (kz (by rw[u5]; rfl) u3)) rfl ?_
 refine wz ?_;refine Tc (cp rfl z26 rfl (cm Ar rfl rfl rfl)) rfl<|wa z26 fun b0=>?_;refine au ?_;obtain⟨⟨l4,l1,l5,l2,l6,l3⟩,h9,hF⟩:=J hF;refine Ts (Ch (N:=(fun x:SU×Nat×Nat×SU×Nat×Nat×SS ×(Nat->Prop)×SU×Nat×Nat×SU×Nat×Nat×SS ×(Nat->Prop)×SU×Nat×Nat×SU×Nat×Nat×SS ×(Nat->Prop)=>[.rd (x.1) (x.2.1) 2 (x.2.2.1) (l4.map (eP (eI .i64) (eI .i64))),.rd (x.2.2.2.1) (x.2.2.2.2.1) 2 (x.2.2.2.2.2.1) (x.2.2.2.2.2.2.1),.gen (cd ak (x.2.2.2.2.2.2.2.1) l1 (x.2.2.2.2.2.2.1)),.rd (x.2.2.2.2.2.2.2.2.1) (x.2.2.2.2.2.2.2.2.2.1) 2 (x.2.2.2.2.2.2.2.2.2.2.1) (l5.map (eP (eI .i64) (eI .i64))),.rd (x.2.2.2.2.2.2.2.2.2.2.2.1) (x.2.2.2.2.2.2.2.2.2.2.2.2.1) 2 (x.2.2.2.2.2.2.2.2.2.2.2.2.2.1) (x.2.2.2.2.2.2.2.2.2.2.2.2.2.2.1),.gen (cd ak (x.2.2.2.2.2.2.2.2.2.2.2.2.2.2.2.1) l2 (x.2.2.2.2.2.2.2.2.2.2.2.2.2.2.1)),.rd (x.2.2.2.2.2.2.2.2.2.2.2.2.2.2.2.2.1) (x.2.2.2.2.2.2.2.2.2.2.2.2.2.2.2.2.2.1) 2 (x.2.2.2.2.2.2.2.2.2.2.2.2.2.2.2.2.2.2.1) (l6.map (eP (eI .i64) (eI .i64))),.rd (x.2.2.2.2.2.2.2.2.2.2.2.2.2.2.2.2.2.2.2.1) (x.2.2.2.2.2.2.2.2.2.2.2.2.2.2.2.2.2.2.2.2.1) 2 (x.2.2.2.2.2.2.2.2.2.2.2.2.2.2.2.2.2.2.2.2.2.1) (x.2.2.2.2.2.2.2.2.2.2.2.2.2.2.2.2.2.2.2.2.2.2.1),.gen (cd ak (x.2.2.2.2.2.2.2.2.2.2.2.2.2.2.2.2.2.2.2.2.2.2.2) l3 (x.2.2.2.2.2.2.2.2.2.2.2.2.2.2.2.2.2.2.2.2.2.2.1))])) rfl rfl (fun m hm=>ON h9 m hm.du (hm.q 4) (hm.no 4) (hm.q 3) (hm.no 3)) fun _=>rfl) gn rfl ?_;rintro⟨a0,c0,n0,a1,c1,n1,e0,r0,a2,c2,n2,a3,c3,n4,e1,r1,a4,c4,n5,a5,c5,n7,e3,r3⟩;refine Wo.zK (k:=0) rfl ?_;rintro rfl;refine Wo.iv (k:=1) (q:=2) (L:=l1) rfl (.inr (.inl ⟨_,rfl⟩)) rfl ?_;rintro rfl;refine Wo.zK (k:=3) rfl ?_;rintro rfl;refine Wo.iv (k:=4) (q:=5) (L:=l2) rfl (.inr (.inl ⟨_,rfl⟩)) rfl ?_;rintro rfl;refine Wo.zK (k:=6) rfl ?_;rintro rfl;refine Wo.iv (k:=7) (q:=8) (L:=l3) rfl (.inr (.inl ⟨_,rfl⟩)) rfl ?_;rintro rfl;refine wz ?_;refine Th ?_;obtain⟨r9,h1,hF⟩:=J hF;refine ct (fun(r:TP⊕TP) (g:TP)=>match r,g with|.inl _,_=>⟨.ret,[(8,.bool false)],[]⟩|.inr _,_=>⟨(.exit 0),[],[]⟩) r9 ?_ ?_
 refine lo h1 () [9,0,1,2,3,4,5,6,7,8] (fun(v1,v2,v3) _=>⟨.normal,[(9,ptr b0 0),(37,CV a0 l4 c0 a1 l1 c1 a2 l5 c2 a3 l2 c3 a4 l6 c4 a5 l3 c5),(38,ba v3)],(cK b0 v1 v2::Ca a0 c0 l4 a1 c1 l1 e0 ak r0 a2 c2 l5 a3 c3 l2 e1 r1 (oh a4 c4 l6 a5 c5 l3 e3 ak r3 []))⟩) ?_;clear hF h1;rintro⟨v1,v2,v3⟩ ⟨⟩ r hF;unfold Cw at hF;refine wz ?_;refine Td ?_;rcases U hF with⟨h10,hF⟩|⟨h10,hF⟩;refine wz ?_;refine Td ?_;obtain⟨r6,h11,hF⟩:=J hF;refine ct (fun(r:TP⊕TP) (g:TP)=>match r,g with|.inl _,_=>⟨.normal,[(9,ptr b0 0),(37,CV a0 l4 c0 a1 l1 c1 a2 l5 c2 a3 l2 c3 a4 l6 c4 a5 l3 c5),(38,ba v3)],(cK b0 v1 v2::Ca a0 c0 l4 a1 c1 l1 e0 ak r0 a2 c2 l5 a3 c3 l2 e1 r1 (oh a4 c4 l6 a5 c5 l3 e3 ak r3 []))⟩|.inr _,_=>⟨.ret,[(8,.bool false)],[]⟩) r6 ?_ ?_
 clear hF;revert r6;intro r hF;refine wz ?_;obtain⟨h12,hF⟩:=az hF;obtain⟨⟨l8,l7⟩,h0,hF⟩:=J hF;refine Ts (DP (α:=SU×Nat×SU×Nat×SS ×(Nat->Prop)) (V:=fun g=>match g with |(a6,c6,a7,c7,e4,r4)=>.agg #[bD a6 l8 c6,bD a7 l7 c7]) (N:=fun g=>match g with |(a6,c6,a7,c7,e4,r4)=>(oh a6 c6 l8 a7 c7 l7 e4 ak r4 [])++(cK b0 v1 v2::Ca a0 c0 l4 a1 c1 l1 e0 ak r0 a2 c2 l5 a3 c3 l2 e1 r1 (oh a4 c4 l6 a5 c5 l3 e3 ak r3 []))) rfl rfl (fun m hm=>?_)) gn rfl ?_
 have hj:=oM h12;obtain⟨j,h4⟩:∃j:Nat,(v3:Int)=j:=⟨_,(RY hj.1).symm⟩;rw[h4] at h0 hj ⊢;rw[Rb] at h0 hj;replace hj:=hj.2;clear hF h4
 match j,hj,h0 with
 | 0,_,h0=>cases h0; exact⟨(a0,c0,a1,c1,e0,r0),uW H9 (i:=0) (by decide) (nM eW rfl),(Hp.dup (Hp.dup (aa.GC (q:=3) rfl _ hm) (k:=3) rfl) (k:=3) rfl)⟩
 | 1,_,h0=>cases h0; exact⟨(a2,c2,a3,c3,e1,r1),uW H9 (i:=1) (by decide) (nM eW rfl),(Hp.dup (Hp.dup (aa.GC (q:=6) rfl _ hm) (k:=6) rfl) (k:=6) rfl)⟩
 | 2,_,h0=>cases h0; exact⟨(a4,c4,a5,c5,e3,r3),uW H9 (i:=2) (by decide) (nM eW rfl),(Hp.dup (Hp.dup (aa.GC (q:=9) rfl _ hm) (k:=9) rfl) (k:=9) rfl)⟩
 | _+3,hj,_=>exact Q1 hj (by omega)
 rintro⟨a6,c6,a7,c7,e4,r4⟩;refine wa qI fun b1=>?_;refine au ?_;obtain⟨⟨r5,r14⟩,h13,hF⟩:=J hF;refine wc gn (fun m hm=>DF h13 m (hm.q 1) (hm.q 2) (hm.dp (q:=3) rfl)) ?_;rintro⟨⟩;refine au ?_;rcases U hF with⟨h14,hF⟩|⟨h14,hF⟩;refine wz ?_;cases hF;exact ae () (TL 4 10);refine fW ?_;refine Th ?_;obtain⟨r10,h2,hF⟩:=J hF;refine ct (fun(r:TP ⊕(Int×Int)) (g:TP)=>match r,g with|.inl _,_=>⟨.ret,[(8,.bool false)],[]⟩|.inr (v16,v17),_=>⟨(.exit 2),[(9,ptr b0 0),(12,ba r5),(14,ba v16),(15,ba v17),(37,CV a0 l4 c0 a1 l1 c1 a2 l5 c2 a3 l2 c3 a4 l6 c4 a5 l3 c5),(38,ba v3)],(cK b0 v1 v2::Ca a0 c0 l4 a1 c1 l1 e0 ak r0 a2 c2 l5 a3 c3 l2 e1 r1 (oh a4 c4 l6 a5 c5 l3 e3 ak r3 []))⟩) r10 ?_ ?_
 refine lo h2 () [4,0,1,2,3,5,6,7,8,9,10,11,12,13] (fun(v5,v4,v0) _=>⟨.normal,(H4 b0 b1 r5 v5 v4 ((37,CV a0 l4 c0 a1 l1 c1 a2 l5 c2 a3 l2 c3 a4 l6 c4 a5 l3 c5)::u0 v3 l7 v0 [])),(cK b0 v1 v2::fp b1 a6 l8 c6 a7 l7 c7 e4 ak r4 (Ca a0 c0 l4 a1 c1 l1 e0 ak r0 a2 c2 l5 a3 c3 l2 e1 r1 (oh a4 c4 l6 a5 c5 l3 e3 ak r3 [])))⟩) ?_;clear hF h2;rintro⟨v5,v4,v0⟩ ⟨⟩ r hF;unfold CY at hF;refine wz ?_;refine Td ?_;rcases U hF with⟨h15,hF⟩|⟨h15,hF⟩;refine wz ?_;refine Td ?_;obtain⟨r7,h16,hF⟩:=J hF;refine ct (fun(r:TP ⊕(Int×Int)) (g:TP)=>match r,g with|.inl _,_=>⟨.ret,[(8,.bool false)],[]⟩|.inr (v18,v19),_=>⟨.normal,(H4 b0 b1 r5 v18 v19 ((37,CV a0 l4 c0 a1 l1 c1 a2 l5 c2 a3 l2 c3 a4 l6 c4 a5 l3 c5)::u0 v3 l7 v0 [])),(cK b0 v1 v2::fp b1 a6 l8 c6 a7 l7 c7 e4 ak r4 (Ca a0 c0 l4 a1 c1 l1 e0 ak r0 a2 c2 l5 a3 c3 l2 e1 r1 (oh a4 c4 l6 a5 c5 l3 e3 ak r3 [])))⟩) r7 ?_ ?_
 clear hF;revert r7;intro r hF;refine fW ?_;refine Th ?_;obtain⟨r11,h3,hF⟩:=J hF;refine ct (fun(r:TP ⊕(Bool×Bool)) (g:TP)=>match r,g with|.inl _,_=>⟨.ret,[(8,.bool false)],[]⟩|.inr (v13,v14),_=>⟨(.exit 4),(H4 b0 b1 r5 v5 v4 ((16,ba v0)::(17,.bool v13)::(18,.bool v14)::(37,CV a0 l4 c0 a1 l1 c1 a2 l5 c2 a3 l2 c3 a4 l6 c4 a5 l3 c5)::u0 v3 l7 v0 [])),(cK b0 v1 v2::fp b1 a6 l8 c6 a7 l7 c7 e4 ak r4 (Ca a0 c0 l4 a1 c1 l1 e0 ak r0 a2 c2 l5 a3 c3 l2 e1 r1 (oh a4 c4 l6 a5 c5 l3 e3 ak r3 [])))⟩) r11 ?_ ?_
 refine lo h3 () [0,1,2,3,4,5,6,7,8,9,10,11,12,13] (fun(v8,v15,v6) _=>⟨.normal,(H4 b0 b1 r5 v5 v4 ((16,ba v0)::(17,.bool v8)::(18,.bool v15)::(19,ba v6)::(37,CV a0 l4 c0 a1 l1 c1 a2 l5 c2 a3 l2 c3 a4 l6 c4 a5 l3 c5)::u0 v3 l7 v0 [])),(cK b0 v1 v2::fp b1 a6 l8 c6 a7 l7 c7 e4 ak r4 (Ca a0 c0 l4 a1 c1 l1 e0 ak r0 a2 c2 l5 a3 c3 l2 e1 r1 (oh a4 c4 l6 a5 c5 l3 e3 ak r3 [])))⟩) ?_;clear hF h3;rintro⟨v8,v15,v6⟩ ⟨⟩ r hF;unfold CP at hF;refine wz ?_;obtain⟨h17,hF⟩:=cO hF;refine Tv (k:=3) rfl (aM h17) ?_;rintro b2 o1 rfl;refine wz ?_;obtain⟨⟨l12,l13⟩,h18,hF⟩:=J hF;refine wl 2 1 5 0 h18 ?_;rintro⟨⟨a10,c10⟩,⟨a11,c11,e5⟩⟩;refine wz ?_;rcases U hF with⟨h19,hF⟩|⟨h19,hF⟩;refine wz ?_;refine Td ?_;obtain⟨r8,h20,hF⟩:=J hF;refine ct (fun(r:TP ⊕(Bool×Bool)) (g:TP)=>match r,g with|.inl _,_=>⟨.ret,[(8,.bool false)],[]⟩|.inr (v20,v21),_=>⟨.normal,(H4 b0 b1 r5 v5 v4 ((16,ba v0)::(17,.bool v20)::(18,.bool v21)::(19,ba v6)::(37,CV a0 l4 c0 a1 l1 c1 a2 l5 c2 a3 l2 c3 a4 l6 c4 a5 l3 c5)::u0 v3 l7 v0 [])),(cK b0 v1 v2::fH b1 a6 l8 c6 b2 o1 l7 c7 e4 ak r4 (Ca a0 c0 l4 a1 c1 l1 e0 ak r0 a2 c2 l5 a3 c3 l2 e1 r1 (oh a4 c4 l6 a5 c5 l3 e3 ak r3 [])))⟩) r8 ?_ ?_
 clear hF;revert r8;intro r hF;refine wz ?_;obtain⟨⟨l11,r15⟩,h21,hF⟩:=J hF;refine wc gn (fun m hm=>Kx h21 m (hm.q 6) (hm.q 7) (hm.dp (q:=8) rfl)) ?_;rintro⟨a12,n8⟩;refine TI (k:=0) (xs:=l11) rfl ?_;rintro rfl;refine au ?_;obtain⟨⟨r12,r16⟩,h22,hF⟩:=J hF;refine wc gn (fun m hm=>K2 h22 m (hm.rd (k:=0) rfl (.sl _ _ _ _))) ?_;rintro⟨⟩;refine wz ?_;refine Td<|Td ?_;obtain⟨v9,h23,hF⟩:=J hF;refine ct (fun v9 (_:TP)=>⟨.normal,(H4 b0 b1 r5 v5 v4 ((16,ba v0)::(17,.bool v8)::(18,.bool v15)::(19,ba v6)::(22,ba r12)::(37,CV a0 l4 c0 a1 l1 c1 a2 l5 c2 a3 l2 c3 a4 l6 c4 a5 l3 c5)::u0 v3 l7 v0 [(84,.bool v9)])),(cK b0 v1 v2::fH b1 a6 l8 c6 b2 o1 l7 c7 e4 ak r4 (Ca a0 c0 l4 a1 c1 l1 e0 ak r0 a2 c2 l5 a3 c3 l2 e1 r1 (oh a4 c4 l6 a5 c5 l3 e3 ak r3 [])))⟩) v9 ?_ ?_;clear hF;revert v9;intro r hF;refine wz ?_;rcases U hF with⟨h24,hF⟩|⟨h24,hF⟩;refine wz ?_;cases hF;exact ae () (5::6::7::4::9::8::TL 10 9);refine wz ?_;cases hF;exact ae () (5::6::7::4::9::8::TL 10 9);rintro⟨⟩;refine Tl ?_;rcases U hF with⟨h25,hF⟩|⟨h25,hF⟩;refine au ?_;cases hF;exact ae () [];refine wz ?_;refine Td ?_;obtain⟨v10,h26,hF⟩:=J hF;refine ct (fun v10 (_:TP)=>⟨.normal,(H4 b0 b1 r5 v5 v4 ((16,ba v0)::(17,.bool v8)::(18,.bool v10)::(19,ba v6)::(22,ba r12)::(37,CV a0 l4 c0 a1 l1 c1 a2 l5 c2 a3 l2 c3 a4 l6 c4 a5 l3 c5)::u0 v3 l7 v0 [])),(cK b0 v1 v2::fH b1 a6 l8 c6 b2 o1 l7 c7 e4 ak r4 (Ca a0 c0 l4 a1 c1 l1 e0 ak r0 a2 c2 l5 a3 c3 l2 e1 r1 (oh a4 c4 l6 a5 c5 l3 e3 ak r3 [])))⟩) v10 ?_ ?_;clear hF;revert v10;intro r hF;refine wz ?_;rcases U hF with⟨h27,hF⟩|⟨h27,hF⟩;refine wz ?_;cases hF;exact ae () (TL 0 15);refine wz ?_;cases hF;exact ae () (TL 0 15);rintro⟨⟩;refine au ?_;rcases U hF with⟨h28,hF⟩|⟨h28,hF⟩;refine wz ?_;rcases U hF with⟨h29,hF⟩|⟨h29,hF⟩;refine wz ?_;rcases U hF with⟨h30,hF⟩|⟨h30,hF⟩;refine wz ?_;cases hF;exact ae () (TL 0 15);refine wz ?_;rcases U hF with⟨h31,hF⟩|⟨h31,hF⟩;refine wz ?_;cases hF;exact ae () (TL 0 15);refine wz ?_;cases hF;exact ae () (TL 0 15);refine wz ?_;rcases U hF with⟨h32,hF⟩|⟨h32,hF⟩;refine wz ?_;cases hF;exact ae () (TL 0 15);refine wz ?_;cases hF;exact ae () (TL 0 15);refine wz ?_;cases hF;exact ae () (TL 0 15);rcases r8 with _|⟨v20,v21⟩;rintro⟨⟩;refine At.tr ?_;cases hF;exact ae () [];rintro⟨⟩;refine au ?_;cases hF;exact ae () (0::1::2::5::4::TL 6 9);refine wz ?_;cases hF;exact ae () (TL 4 14);rcases r11 with _|⟨v13,v14⟩;rintro⟨⟩;refine wz ?_;cases hF;exact ae () [];rintro⟨⟩;refine wz ?_;refine Td ?_;obtain⟨v7,h33,hF⟩:=J hF;refine ct (fun v7 (_:TP)=>⟨.normal,(H4 b0 b1 r5 v7 v4 ((16,ba v0)::(17,.bool v13)::(18,.bool v14)::(37,CV a0 l4 c0 a1 l1 c1 a2 l5 c2 a3 l2 c3 a4 l6 c4 a5 l3 c5)::u0 v3 l7 v0 [])),(cK b0 v1 v2::fp b1 a6 l8 c6 a7 l7 c7 e4 ak r4 (Ca a0 c0 l4 a1 c1 l1 e0 ak r0 a2 c2 l5 a3 c3 l2 e1 r1 (oh a4 c4 l6 a5 c5 l3 e3 ak r3 [])))⟩) v7 ?_ ?_;clear hF;revert v7;intro r hF;refine wz ?_;rcases U hF with⟨h34,hF⟩|⟨h34,hF⟩;refine wz ?_;cases hF;exact ae () (TL 0 14);refine wz ?_;obtain rfl:=QL hF;exact ae () (TL 0 14);rintro⟨⟩;refine Tl<|Td ?_;obtain⟨v11,h35,hF⟩:=J hF;refine ct (fun v11 (_:TP)=>⟨.normal,(H4 b0 b1 r5 v7 v4 ((16,ba v0)::(37,CV a0 l4 c0 a1 l1 c1 a2 l5 c2 a3 l2 c3 a4 l6 c4 a5 l3 c5)::u0 v3 l7 v0 [(117,.bool v11)])),(cK b0 v1 v2::fp b1 a6 l8 c6 a7 l7 c7 e4 ak r4 (Ca a0 c0 l4 a1 c1 l1 e0 ak r0 a2 c2 l5 a3 c3 l2 e1 r1 (oh a4 c4 l6 a5 c5 l3 e3 ak r3 [])))⟩) v11 ?_ ?_;clear hF;revert v11;intro r hF;refine wz ?_;rcases U hF with⟨h36,hF⟩|⟨h36,hF⟩;refine wz ?_;cases hF;exact ae () (TL 0 14);refine wz ?_;rcases U hF with⟨h37,hF⟩|⟨h37,hF⟩;refine wz ?_;cases hF;exact ae () (TL 0 14);refine wz ?_;cases hF;exact ae () (TL 0 14);rintro⟨⟩;refine Tl ?_;rcases U hF with⟨h38,hF⟩|⟨h38,hF⟩;refine wz ?_;cases hF;exact ae () (TL 0 14);refine wz ?_;cases hF;exact ae () (TL 0 14);rcases r7 with _|⟨v18,v19⟩;rintro⟨⟩;refine At.tr ?_;cases hF;exact ae () [];rintro⟨⟩;refine au ?_;cases hF;exact ae () (TL 0 14);refine wz ?_;cases hF;exact ae () (0::TL 5 9);rcases r10 with _|⟨v16,v17⟩;rintro⟨⟩;refine wz ?_;cases hF;exact ae () [];rintro⟨⟩;refine wz ?_;refine Td ?_;obtain⟨v12,h39,hF⟩:=J hF;refine ct (fun v12 (_:TP)=>⟨.normal,[(9,ptr b0 0),(37,CV a0 l4 c0 a1 l1 c1 a2 l5 c2 a3 l2 c3 a4 l6 c4 a5 l3 c5),(38,ba v3),(126,.bool v12)],(cK b0 v1 v2::Ca a0 c0 l4 a1 c1 l1 e0 ak r0 a2 c2 l5 a3 c3 l2 e1 r1 (oh a4 c4 l6 a5 c5 l3 e3 ak r3 []))⟩) v12 ?_ ?_;clear hF;revert v12;intro r hF;refine wz ?_;rcases U hF with⟨h40,hF⟩|⟨h40,hF⟩;refine wz ?_;cases hF;exact ae () (TL 0 10);refine wz ?_;cases hF;exact ae () (TL 0 10);rintro⟨⟩;refine Tl ?_;rcases U hF with⟨h41,hF⟩|⟨h41,hF⟩;refine au ?_;cases hF;exact ae () [];refine wz ?_;cases hF;exact ae () (TL 0 10);rcases r6 with _|_;rintro⟨⟩;refine au ?_;cases hF;exact ae () (TL 0 10);rintro⟨⟩;refine At.tr ?_;cases hF;exact ae () [];refine wz ?_;cases hF;exact ae () [];rcases r9 with _|_;rintro⟨⟩;refine wz ?_;cases hF;exact ar () [];rintro⟨⟩;refine fW ?_;cases hF;exact ar () []
end
end Go.Proofs.Ytmndpgfbkicndaa
namespace Jd
abbrev P2:=Rat×Rat
def tn(a b c:P2):Rat:=(b.1-a.1)*(c.2-a.2)-(b.2-a.2)*(c.1-a.1)
def af(α β γ:Rat)(x:P2):Rat:=α*x.1+β*x.2+γ
def Sep(a b p q:P2):Prop:=∃α β γ,0<af α β γ a/\0<af α β γ b/\af α β γ p<0/\af α β γ q<0
def Sep.ab{a b p q:P2}(h:Sep a b p q):Sep b a p q:=let⟨α,β,γ,h1,h2,h3,h4⟩:=h;⟨α,β,γ,h2,h1,h3,h4⟩
def Sep.pq{a b p q:P2}(h:Sep a b p q):Sep a b q p:=let⟨α,β,γ,h1,h2,h3,h4⟩:=h;⟨α,β,γ,h1,h2,h4,h3⟩
def bO{x y:Rat}(hx:0<=x)(hy:0<=y):0<=x*y:=Rat.mul_nonneg hx hy
def bh{x y:Rat}(hx:0<x)(hy:0<y):0<x*y:=Rat.mul_pos hx hy
def cU{x y:Rat}(hx:0<=x)(hy:y<=0):x*y<=0:=by
 have:=bO hx (show(0:Rat)<=-y by grind)
 grind
def fg{x y:Rat}(hx:0<x)(hy:y<0):x*y<0:=by
 have:=bh hx (show(0:Rat) < -y by grind)
 grind
def jj(a b p:P2):tn b a p = -tn a b p:=by unfold tn; grind
def we(a b p:P2):Int:=if a.2<=p.2/\p.2<b.2/\0<tn a b p then 1 else if b.2<=p.2/\p.2<a.2/\tn a b p<0 then -1 else 0
def jo{a b p:P2}(h1:a.2<=p.2)(h2:p.2<b.2):we a b p=if 0<tn a b p then 1 else 0:=by
 unfold we
 by_cases h:0<tn a b p
 rw[QH ⟨h1,h2,h⟩,QH h]
 rw[QF (fun e=>h e.2.2),QF (fun e=>by grind),QF h]
def eK{a b p:P2}(h1:¬(a.2<=p.2/\p.2<b.2))(h2:¬(b.2<=p.2/\p.2<a.2)):we a b p=0:=by
 unfold we;rw[QF (fun e=>h1 ⟨e.1,e.2.1⟩),QF (fun e=>h2 ⟨e.1,e.2.1⟩)]
def ku(a b p:P2):we b a p = -we a b p:=by
 have h:=jj a b p;unfold we
 by_cases h1:a.2<=p.2/\p.2<b.2/\0<tn a b p
 rw[QH h1,QF (fun e=>by grind),QH ⟨h1.1,h1.2.1,by grind⟩]
 by_cases h2:b.2<=p.2/\p.2<a.2/\tn a b p<0
 rw[QF h1,QH h2,QH ⟨h2.1,h2.2.1,by grind⟩]; rfl
 rw[QF h1,QF h2,QF (fun e=>h2 ⟨e.1,e.2.1,by grind⟩),QF (fun e=>h1 ⟨e.1,e.2.1,by grind⟩)]; rfl
def fz(p q v:P2):Int:=if p.2<v.2/\v.2<=q.2/\tn p q v<0 then 1 else 0
def jE{p q v:P2}(h:¬(p.2<v.2/\v.2<=q.2)):fz p q v=0:=QF fun e=>h ⟨e.1,e.2.1⟩
def rf{p q v:P2}(h1:p.2<v.2)(h2:v.2<=q.2):fz p q v=if tn p q v<0 then 1 else 0:=by
 unfold fz
 by_cases h:tn p q v<0
 rw[QH ⟨h1,h2,h⟩,QH h]
 rw[QF (fun e=>h e.2.2),QF h]
section
variable{a b p q:P2}
def Kn(α β γ:Rat):tn p q b*af α β γ a-tn p q a*af α β γ b=tn a b p*af α β γ q-tn a b q*af α β γ p:=by
 unfold tn af; grind
def Er(h:Sep a b p q)(h1:0<=tn p q b)(h2:tn p q a<=0)(h3:0<=tn a b p)(h4:tn a b q<=0)(h5:0<tn a b p\/tn a b q<0\/0<tn p q b\/tn p q a<0):False:=by
 obtain⟨α,β,γ,g1,g2,g3,g4⟩:=h;have e:=Kn (a:=a) (b:=b) (p:=p) (q:=q) α β γ;generalize af α β γ a=A at *;generalize af α β γ b=B at *;generalize af α β γ p=C at *;generalize af α β γ q=D at *;generalize tn p q b=Tb at *;generalize tn p q a=Ta at *;generalize tn a b p=Up at *;generalize tn a b q=Uq at *;have k1:0<=Tb*A:=bO h1 (by grind)
 have k2:0<=(-Ta)*B:=bO (by grind) (by grind)
 have k3:0<=Up*(-D):=bO h3 (by grind)
 have k4:0<=(-Uq)*(-C):=bO (by grind) (by grind)
 rcases h5 with h|h|h|h
 have:0<Up*(-D):=bh h (by grind)
 grind
 have:0<(-Uq)*(-C):=bh (by grind) (by grind)
 grind
 have:0<Tb*A:=bh h g1
 grind
 have:0<(-Ta)*B:=bh (by grind) g2
 grind
def Cm(h:Sep a b p q)(h1:tn p q b<=0)(h2:0<=tn p q a)(h3:tn a b p<=0)(h4:0<=tn a b q)(h5:tn a b p<0\/0<tn a b q\/tn p q b<0\/0<tn p q a):False:=by
 have e1:=jj a b p;have e2:=jj a b q;exact Er h.ab (a:=b) (b:=a) h2 h1 (by grind) (by grind) (by grind)
def i1:(p.2-a.2)*tn p q b+(b.2-p.2)*tn p q a = -((q.2-p.2)*tn a b p):=by unfold tn; grind
def i2:(b.2-p.2)*tn a b q+(q.2-b.2)*tn a b p = -((b.2-a.2)*tn p q b):=by unfold tn; grind
def i3:(q.2-a.2)*tn p q b+(b.2-q.2)*tn p q a = -((q.2-p.2)*tn a b q):=by unfold tn; grind
def i4:(a.2-p.2)*tn a b q+(q.2-a.2)*tn a b p = -((b.2-a.2)*tn p q a):=by unfold tn; grind
def i5:tn a b q-tn a b p=tn p q a-tn p q b:=by unfold tn; grind
def K5(h:Sep a b p q)(h1:a.2<=p.2)(h2:p.2<b.2)(h3:b.2<=q.2):0<tn a b p↔tn p q b<0:=by
 have e1:=i1 (a:=a) (b:=b) (p:=p) (q:=q);have e2:=i2 (a:=a) (b:=b) (p:=p) (q:=q);have K:=Er h;have K':=Cm h;clear h;generalize tn p q b=Tb at *;generalize tn p q a=Ta at *;generalize tn a b p=Up at *;generalize tn a b q=Uq at *;have d1:0<=p.2-a.2:=by grind
 have d2:0<b.2-p.2:=by grind
 have d3:0<q.2-p.2:=by grind
 have d4:0<=q.2-b.2:=by grind
 have d5:0<b.2-a.2:=by grind
 generalize p.2-a.2=x1 at *;generalize b.2-p.2=x2 at *;generalize q.2-p.2=x3 at *;generalize q.2-b.2=x4 at *;generalize b.2-a.2=x5 at *;constructor
 intro hu;refine QI fun ht=>?_;have ht:0<=Tb:=by grind
 have m1:=bO d1 ht;have m2:=bh d3 hu;have ta:Ta<=0:=by
  refine QI fun hc=>?_;have:=bh d2 (show 0<Ta by grind)
  grind
 have uq:Uq<=0:=by
  refine QI fun hc=>?_;have m3:=bh d2 (show 0<Uq by grind)
  have m4:=bO d4 (show 0<=Up by grind)
  have m5:=bO (show 0<=x5 by grind) ht
  grind
 exact K ht ta (by grind) uq (.inl hu)
 intro ht;refine QI fun hu=>?_;have hu:Up<=0:=by grind
 have m1:=cU d1 (show Tb<=0 by grind)
 have m2:=cU (show 0<=x3 by grind) hu
 have ta:0<=Ta:=by
  refine QI fun hc=>?_;have:=fg d2 (show Ta<0 by grind)
  grind
 have uq:0<=Uq:=by
  refine QI fun hc=>?_;have m3:=fg d2 (show Uq<0 by grind)
  have m4:=cU d4 hu;have m5:=fg d5 ht
  grind
 exact K' (by grind) ta hu uq (.inr (.inr (.inl ht)))
def Kz(h:Sep a b p q)(h1:p.2<a.2)(h2:a.2<=q.2)(h3:q.2<b.2):0<tn a b q↔tn p q a<0:=by
 have e3:=i3 (a:=a) (b:=b) (p:=p) (q:=q);have e4:=i4 (a:=a) (b:=b) (p:=p) (q:=q);have K:=Er h;have K':=Cm h;clear h;generalize tn p q b=Tb at *;generalize tn p q a=Ta at *;generalize tn a b p=Up at *;generalize tn a b q=Uq at *;have d1:0<=q.2-a.2:=by grind
 have d2:0<b.2-q.2:=by grind
 have d3:0<q.2-p.2:=by grind
 have d4:0<a.2-p.2:=by grind
 have d5:0<b.2-a.2:=by grind
 generalize q.2-a.2=x1 at *;generalize b.2-q.2=x2 at *;generalize q.2-p.2=x3 at *;generalize a.2-p.2=x4 at *;generalize b.2-a.2=x5 at *;constructor
 intro hu;refine QI fun ht=>?_;have ht:0<=Ta:=by grind
 have m1:=bO (show 0<=x2 by grind) ht
 have m2:=bh d3 hu;have tb:Tb<=0:=by
  refine QI fun hc=>?_;have:=bO d1 (show 0<=Tb by grind)
  grind
 have up:Up<=0:=by
  refine QI fun hc=>?_;have m3:=bh d4 hu;have m4:=bO d1 (show 0<=Up by grind)
  have m5:=bO (show 0<=x5 by grind) ht
  grind
 exact K' tb ht up (by grind) (.inr (.inl hu))
 intro ht;refine QI fun hu=>?_;have hu:Uq<=0:=by grind
 have m2:=cU (show 0<=x3 by grind) hu
 have m1:=fg d2 ht;have tb:0<=Tb:=by
  refine QI fun hc=>?_;have:=cU d1 (show Tb<=0 by grind)
  grind
 have up:0<=Up:=by
  refine QI fun hc=>?_;have m3:=cU (show 0<=x4 by grind) hu
  have m4:=cU d1 (show Up<=0 by grind)
  have m5:=fg d5 ht
  grind
 exact K tb (by grind) up hu (.inr (.inr (.inr ht)))
def N7(h:Sep a b p q)(h1:a.2<=p.2)(h2:p.2<=q.2)(h3:q.2<b.2):0<tn a b p↔0<tn a b q:=by
 have e1:=i1 (a:=a) (b:=b) (p:=p) (q:=q);have e3:=i3 (a:=a) (b:=b) (p:=p) (q:=q);have e5:=i5 (a:=a) (b:=b) (p:=p) (q:=q);have K:=Er h;have K':=Cm h;clear h;generalize tn p q b=Tb at *;generalize tn p q a=Ta at *;generalize tn a b p=Up at *;generalize tn a b q=Uq at *;have d1:0<=p.2-a.2:=by grind
 have d2:0<b.2-p.2:=by grind
 have d3:0<=q.2-p.2:=by grind
 have d4:0<=q.2-a.2:=by grind
 have d5:0<b.2-q.2:=by grind
 generalize p.2-a.2=x1 at *;generalize b.2-p.2=x2 at *;generalize q.2-p.2=x3 at *;generalize q.2-a.2=x4 at *;generalize b.2-q.2=x5 at *;constructor
 intro hu;refine QI fun hc=>?_;have hc:Uq<=0:=by grind
 have ta:Ta<=0:=by
  refine QI fun ht=>?_;have m1:=bO d1 (show 0<=Tb by grind)
  have m2:=bh d2 (show 0<Ta by grind)
  have m3:=bO d3 (show 0<=Up by grind)
  grind
 have tb:0<=Tb:=by
  refine QI fun ht=>?_;have m1:=cU d4 (show Tb<=0 by grind)
  have m2:=fg d5 (show Ta<0 by grind)
  have m3:=cU d3 hc
  grind
 exact K tb ta (by grind) hc (.inl hu)
 intro hu;refine QI fun hc=>?_;have hc:Up<=0:=by grind
 have ta:0<=Ta:=by
  refine QI fun ht=>?_;have m1:=cU d1 (show Tb<=0 by grind)
  have m2:=fg d2 (show Ta<0 by grind)
  have m3:=cU d3 hc
  grind
 have tb:Tb<=0:=by
  refine QI fun ht=>?_;have m1:=bO d4 (show 0<=Tb by grind)
  have m2:=bh d5 (show 0<Ta by grind)
  have m3:=bO d3 (show 0<=Uq by grind)
  grind
 exact K' tb ta hc (by grind) (.inr (.inl hu))
def IK(h:Sep a b p q)(h0:a.2<=b.2)(h1:p.2<a.2)(h2:b.2<=q.2):tn p q a<0↔tn p q b<0:=by
 have e2:=i2 (a:=a) (b:=b) (p:=p) (q:=q);have e4:=i4 (a:=a) (b:=b) (p:=p) (q:=q);have e5:=i5 (a:=a) (b:=b) (p:=p) (q:=q);have K:=Er h;have K':=Cm h;clear h;generalize tn p q b=Tb at *;generalize tn p q a=Ta at *;generalize tn a b p=Up at *;generalize tn a b q=Uq at *;have d1:0<b.2-p.2:=by grind
 have d2:0<=q.2-b.2:=by grind
 have d3:0<=b.2-a.2:=by grind
 have d4:0<a.2-p.2:=by grind
 have d5:0<=q.2-a.2:=by grind
 generalize b.2-p.2=x1 at *;generalize q.2-b.2=x2 at *;generalize b.2-a.2=x3 at *;generalize a.2-p.2=x4 at *;generalize q.2-a.2=x5 at *;constructor
 intro ha;refine QI fun hb=>?_;have hb:0<=Tb:=by grind
 have uq:Uq<=0:=by
  refine QI fun hc=>?_;have m1:=bh d1 (show 0<Uq by grind)
  have m2:=bO d2 (show 0<=Up by grind)
  have m3:=bO d3 hb
  grind
 have up:0<=Up:=by
  refine QI fun hc=>?_;have m1:=fg d4 (show Uq<0 by grind)
  have m2:=cU d5 (show Up<=0 by grind)
  have m3:=cU d3 (show Ta<=0 by grind)
  grind
 exact K hb (by grind) up uq (.inr (.inr (.inr ha)))
 intro hb;refine QI fun ha=>?_;have ha:0<=Ta:=by grind
 have uq:0<=Uq:=by
  refine QI fun hc=>?_;have m1:=fg d1 (show Uq<0 by grind)
  have m2:=cU d2 (show Up<=0 by grind)
  have m3:=cU d3 (show Tb<=0 by grind)
  grind
 have up:Up<=0:=by
  refine QI fun hc=>?_;have m1:=bh d4 (show 0<Uq by grind)
  have m2:=bO d5 (show 0<=Up by grind)
  have m3:=bO d3 ha
  grind
 exact K' (by grind) ha up uq (.inr (.inr (.inl hb)))
def mI{c d:Prop}[Decidable c][Decidable d](h:c↔d):(if c then(1:Int) else 0)=if d then 1 else 0:=by
 by_cases hc:c
 rw[QH hc,QH (h.1 hc)]
 rw[QF hc,QF (fun e=>hc (h.2 e))]
def Fz(h:Sep a b p q)(hpq:p.2<=q.2)(hab:a.2<=b.2):we a b p-we a b q=fz p q b-fz p q a:=by
 by_cases ha:a.2<=p.2
 rw[jE (v:=a) (by grind)]
 by_cases hb:b.2<=p.2
 rw[jE (v:=b) (by grind),eK (by grind) (by grind),eK (by grind) (by grind)]
 by_cases hb2:b.2<=q.2
 rw[rf (by grind) hb2,jo ha (by grind),eK (p:=q) (by grind) (by grind),mI (K5 h ha (by grind) hb2)]
 rw[jE (v:=b) (by grind),jo ha (by grind),jo (p:=q) (by grind) (by grind),mI (N7 h ha hpq (by grind))]
 omega
 rw[eK (p:=p) (by grind) (by grind)]
 by_cases ha2:a.2<=q.2
 rw[rf (v:=a) (by grind) ha2]
 by_cases hb2:b.2<=q.2
 rw[rf (v:=b) (by grind) hb2,eK (p:=q) (by grind) (by grind),mI (IK h hab (by grind) hb2)]
 omega
 rw[jE (v:=b) (by grind),jo (p:=q) ha2 (by grind),mI (Kz h (by grind) ha2 (by grind))]
 rw[jE (v:=a) (by grind),jE (v:=b) (by grind),eK (p:=q) (by grind) (by grind)]
def EA(h:Sep a b p q)(hpq:p.2<=q.2):we a b p-we a b q=fz p q b-fz p q a:=by
 by_cases hab:a.2<=b.2
 exact Fz h hpq hab
 have:=Fz h.ab hpq (by grind)
 rw[ku b a p,ku b a q];omega
end
def bo:Nat->(Nat->Int)->Int
 | 0,_=>0
 | n+1,f=>bo n f+f n
def aX{n:Nat}{f g:Nat->Int}(h:∀i,i<n->f i=g i):bo n f=bo n g:=by
 induction n with
 | zero=>rfl
 | succ n ih=>simp only[bo]; rw[ih fun i hi=>h i (by omega),h n (by omega)]
def jP(n:Nat)(f g:Nat->Int):bo n (fun i=>f i-g i)=bo n f-bo n g:=by
 induction n with
 | zero=>rfl
 | succ n ih=>simp only[bo]; rw[ih]; omega
def tz(n:Nat)(f:Nat->Int):bo n (fun i=>f (i+1)-f i)=f n-f 0:=by
 induction n with
 | zero=>simp[bo]
 | succ n ih=>simp only[bo]; rw[ih]; omega
def cC{n:Nat}{f:Nat->Int}(h:∀i,i<n->f i=0):bo n f=0:=by
 induction n with
 | zero=>rfl
 | succ n ih=>simp only[bo]; rw[ih fun i hi=>h i (by omega),h n (by omega)]; rfl
def oB{n k:Nat}{f:Nat->Int}(hk:k<n)(h:∀i,i<n->i≠k->f i=0):bo n f=f k:=by
 induction n with
 | zero=>omega
 | succ n ih =>
  simp only[bo]
  by_cases e:k=n
  subst e;rw[cC fun i hi=>h i (by omega) (by omega)]; omega
  rw[ih (by omega) (fun i hi hn=>h i (by omega) hn),h n (by omega) (by omega)]; omega
def cv(u w:P2)(t:Rat):P2:=(u.1+t*(w.1-u.1),u.2+t*(w.2-u.2))
def sm(p d:P2)(x:Rat):P2:=(p.1+x*d.1,p.2+x*d.2)
def cr(u w d:P2):Rat:=(w.1-u.1)*d.2-(w.2-u.2)*d.1
def dt(u w x:P2):Rat:=(w.1-u.1)*(x.1-w.1)+(w.2-u.2)*(x.2-w.2)
def fN{A B:Rat}(ha:0<A)(hb:0<B):∃k:Rat,0<k/\k<A/\k<B:=by
 by_cases h:A<=B
 exact⟨A/2,by grind,by grind,by grind⟩
 exact⟨B/2,by grind,by grind,by grind⟩
def oc{a b p q:P2}(α β γ:Rat)(h1:0<=af α β γ a)(h2:0<=af α β γ b)(h3:af α β γ p<0)(h4:af α β γ q<0):Sep a b p q:=by
 obtain⟨k,k1,k2,k3⟩:=fN (show 0 < -af α β γ p by grind) (show 0 < -af α β γ q by grind)
 refine⟨α,β,γ+k,?_,?_,?_,?_⟩<;>(unfold af at *; grind)
def By{a b u w:P2}(h:Sep a b u w){t s:Rat}(t0:0<=t)(t1:t<=1)(s0:0<=s)(s1:s<=1):Sep a b (cv u w t) (cv u w s):=by
 obtain⟨α,β,γ,h1,h2,h3,h4⟩:=h;have key:∀t:Rat,0<=t->t<=1->af α β γ (cv u w t)<0:=by
  intro t t0 t1;have e:af α β γ (cv u w t)=(1-t)*af α β γ u+t*af α β γ w:=by unfold af cv; grind
  rw[e];have m1:=cU (show 0<=1-t by grind) (show af α β γ u<=0 by grind)
  have m2:=cU t0 (show af α β γ w<=0 by grind)
  by_cases ht:0<t
  have:=fg ht h4
  grind
  have:=fg (show 0<1-t by grind) h3
  grind
 exact⟨α,β,γ,h1,h2,key t t0 t1,key s s0 s1⟩
def sq_pos{x:Rat}(h:x≠0):0<x*x:=by
 by_cases hx:0<x
 exact bh hx hx
 have:=bh (show 0 < -x by grind) (show 0 < -x by grind)
 grind
def Bu(x:Rat):0<=x*x:=by
 by_cases hx:0<=x
 exact bO hx hx
 have:=bO (show 0<=-x by grind) (show 0<=-x by grind)
 grind
def wO{u w:P2}(h:u≠w):0<(w.1-u.1)*(w.1-u.1)+(w.2-u.2)*(w.2-u.2):=by
 have n1:=Bu (w.1-u.1);have n2:=Bu (w.2-u.2)
 by_cases h1:w.1-u.1=0
 have h2:w.2-u.2≠0:=fun e=>h (Rz (by grind) (by grind))
 have:=sq_pos h2
 grind
 have:=sq_pos h1
 grind
def FJ{u w x:P2}(hne:u≠w)(hc:tn u w x≠0\/0<dt u w x){t s:Rat}(t1:t<1)(s1:s<1):Sep w x (cv u w t) (cv u w s):=by
 have e:∀t:Rat,af (-(x.2-w.2)) (x.1-w.1) ((x.2-w.2)*w.1-(x.1-w.1)*w.2) (cv u w t)=(1-t)*tn u w x:=fun t=>by unfold af cv tn; grind
 have f:∀t:Rat,af (x.2-w.2) (-(x.1-w.1)) (-((x.2-w.2)*w.1-(x.1-w.1)*w.2)) (cv u w t) = -((1-t)*tn u w x):=fun t=>by unfold af cv tn; grind
 have g:∀t:Rat,af (w.1-u.1) (w.2-u.2) (-((w.1-u.1)*w.1+(w.2-u.2)*w.2)) (cv u w t) = -((1-t)*((w.1-u.1)*(w.1-u.1)+(w.2-u.2)*(w.2-u.2))):=fun t=>by unfold af cv; grind
 by_cases h0:tn u w x=0
 have hd:0<dt u w x:=hc.resolve_left fun h=>h h0;have hl:=wO hne;refine oc (w.1-u.1) (w.2-u.2) (-((w.1-u.1)*w.1+(w.2-u.2)*w.2)) ?_ ?_ ?_ ?_
 unfold af; grind
 unfold dt at hd; unfold af; grind
 rw[g]; have:=bh (show 0<1-t by grind) hl; grind
 rw[g]; have:=bh (show 0<1-s by grind) hl; grind
 by_cases hp:0<tn u w x
 refine oc (x.2-w.2) (-(x.1-w.1)) (-((x.2-w.2)*w.1-(x.1-w.1)*w.2)) ?_ ?_ ?_ ?_
 unfold af; grind
 unfold af; grind
 rw[f]; have:=bh (show 0<1-t by grind) hp; grind
 rw[f]; have:=bh (show 0<1-s by grind) hp; grind
 have hm:tn u w x<0:=by grind
 refine oc (-(x.2-w.2)) (x.1-w.1) ((x.2-w.2)*w.1-(x.1-w.1)*w.2) ?_ ?_ ?_ ?_
 unfold af; grind
 unfold af; grind
 rw[e]; exact fg (show 0<1-t by grind) hm
 rw[e]; exact fg (show 0<1-s by grind) hm
def zy{x u w:P2}(hc:tn x u w≠0\/0<dt x u w){t s:Rat}(t0:0<t)(s0:0<s):Sep x u (cv u w t) (cv u w s):=by
 have e:∀t:Rat,af (-(u.2-x.2)) (u.1-x.1) ((u.2-x.2)*x.1-(u.1-x.1)*x.2) (cv u w t)=t*tn x u w:=fun t=>by unfold af cv tn; grind
 have f:∀t:Rat,af (u.2-x.2) (-(u.1-x.1)) (-((u.2-x.2)*x.1-(u.1-x.1)*x.2)) (cv u w t) = -(t*tn x u w):=fun t=>by unfold af cv tn; grind
 have g:∀t:Rat,af (-(u.1-x.1)) (-(u.2-x.2)) ((u.1-x.1)*u.1+(u.2-x.2)*u.2) (cv u w t) = -(t*dt x u w):=fun t=>by unfold af cv dt; grind
 by_cases h0:tn x u w=0
 have hd:0<dt x u w:=hc.resolve_left fun h=>h h0;have n1:=Bu (u.1-x.1);have n2:=Bu (u.2-x.2);refine oc (-(u.1-x.1)) (-(u.2-x.2)) ((u.1-x.1)*u.1+(u.2-x.2)*u.2) ?_ ?_ ?_ ?_
 unfold af; grind
 unfold af; grind
 rw[g]; have:=bh t0 hd; grind
 rw[g]; have:=bh s0 hd; grind
 by_cases hp:0<tn x u w
 refine oc (u.2-x.2) (-(u.1-x.1)) (-((u.2-x.2)*x.1-(u.1-x.1)*x.2)) ?_ ?_ ?_ ?_
 unfold af; grind
 unfold af; grind
 rw[f]; have:=bh t0 hp; grind
 rw[f]; have:=bh s0 hp; grind
 have hm:tn x u w<0:=by grind
 refine oc (-(u.2-x.2)) (u.1-x.1) ((u.2-x.2)*x.1-(u.1-x.1)*x.2) ?_ ?_ ?_ ?_
 unfold af; grind
 unfold af; grind
 rw[e]; exact fg t0 hm
 rw[e]; exact fg s0 hm
def Ev(P:Rat->Rat->Prop):Prop:=∃e:Rat,0<e/\∀x y,0<x->x<=e->0<y->y<=e->P x y
def Ev.and{P Q:Rat->Rat->Prop}(h:Ev P)(g:Ev Q):Ev fun x y=>P x y/\Q x y:=by
 obtain⟨e,e0,h⟩:=h;obtain⟨f,f0,g⟩:=g
 by_cases hl:e<=f
 exact⟨e,e0,fun x y a b c d=>⟨h x y a b c d,g x y a (by grind) c (by grind)⟩⟩
 exact⟨f,f0,fun x y a b c d=>⟨h x y a (by grind) c (by grind),g x y a b c d⟩⟩
def Ev.mono{P Q:Rat->Rat->Prop}(h:Ev P)(g:∀x y,0<x->0<y->P x y->Q x y):Ev Q :=
 let⟨e,e0,h⟩:=h
 ⟨e,e0,fun x y a b c d=>g x y a c (h x y a b c d)⟩
def Ev.of{P:Rat->Rat->Prop}(h:∀x y,0<x->0<y->P x y):Ev P:=⟨1,by grind,fun x y a _ c _=>h x y a c⟩
def Ev.all{P:Nat->Rat->Rat->Prop}:∀{n:Nat},(∀i,i<n->Ev (P i))->Ev fun x y=>∀i,i<n->P i x y
 | 0,_=>Ev.of fun _ _ _ _ i hi=>by omega
 | n+1,h=>by
  have h1:=Ev.all (P:=P) (n:=n) fun i hi=>h i (by omega)
  refine(h1.and (h n (by omega))).mono fun x y _ _ g i hi=>?_
  by_cases e:i=n
  subst e; exact g.2
  exact g.1 i (by omega)
def vL{A:Rat}(h:A<0)(B:Rat):∃e:Rat,0<e/\∀x,0<x->x<=e->A+x*B<0:=by
 by_cases hb:B<=0
 exact⟨1,by grind,fun x hx _=>by have:=cU (show 0<=x by grind) hb; grind⟩
 have hb0:B≠0:=by grind
 have hi:B*B⁻¹=1:=Rat.mul_inv_cancel B hb0;have e1:(-A/2*B⁻¹)*B = -A/2:=by grind
 have hpos:0 < -A/2*B⁻¹:=by
  refine QI fun hc=>?_;have:=bO (show 0<=-(-A/2*B⁻¹) by grind) (show 0<=B by grind)
  grind
 refine⟨-A/2*B⁻¹,hpos,fun x hx hl=>?_⟩;have:=bO (show 0<=-A/2*B⁻¹-x by grind) (show 0<=B by grind)
 grind
def vw{a b p q:P2}(h:Sep a b p q)(d d':P2):Ev fun x y=>Sep a b (sm p d x) (sm q d' y):=by
 obtain⟨α,β,γ,h1,h2,h3,h4⟩:=h;obtain⟨e,e0,he⟩:=vL h3 (α*d.1+β*d.2);obtain⟨f,f0,hf⟩:=vL h4 (α*d'.1+β*d'.2);have k1:∀x,af α β γ (sm p d x)=af α β γ p+x*(α*d.1+β*d.2):=fun x=>by unfold af sm; grind
 have k2:∀x,af α β γ (sm q d' x)=af α β γ q+x*(α*d'.1+β*d'.2):=fun x=>by unfold af sm; grind
 obtain⟨g,g0,ge,gf⟩:=fN e0 f0;exact⟨g,g0,fun x y x0 xg y0 yg=>⟨α,β,γ,h1,h2,by rw[k1]; exact he x x0 (by grind),by rw[k2]; exact hf y y0 (by grind)⟩⟩
structure Simple(n:Nat)(v:Nat->P2):Prop where
 n3:2<n
 cl:v n=v 0
 cl1:v (n+1)=v 1
 ne:∀i,i<n->v i≠v (i+1)
 aq:∀i,i<n->tn (v i) (v (i+1)) (v (i+2))≠0\/0<dt (v i) (v (i+1)) (v (i+2))
 sep:∀i j,i<n->j<n->i≠j->j≠i+1->i≠j+1->¬(i=0/\j+1=n)->¬(j=0/\i+1=n)->Sep (v i) (v (i+1)) (v j) (v (j+1))
def W(n:Nat)(v:Nat->P2)(p:P2):Int:=bo n fun i=>we (v i) (v (i+1)) p
section
variable{n:Nat}{v:Nat->P2}
def Am(hv:v n=v 0)(p q:P2):W n v p-W n v q=bo n fun i=>(we (v i) (v (i+1)) p-we (v i) (v (i+1)) q)-(fz p q (v (i+1))-fz p q (v i)):=by
 have h1:=jP n (fun i=>we (v i) (v (i+1)) p-we (v i) (v (i+1)) q) (fun i=>fz p q (v (i+1))-fz p q (v i));have h2:=tz n fun i=>fz p q (v i);have h3:=jP n (fun i=>we (v i) (v (i+1)) p) fun i=>we (v i) (v (i+1)) q;rw[hv] at h2;rw[h1,h2,h3];unfold W; omega
def vY(hv:v n=v 0){p q:P2}(h:∀i,i<n->Sep (v i) (v (i+1)) p q):W n v p=W n v q:=by
 by_cases hl:p.2<=q.2
 have:=Am hv p q;rw[cC fun i hi=>by rw[EA (h i hi) hl]; omega] at this
 omega
 have:=Am hv q p;rw[cC fun i hi=>by rw[EA (h i hi).pq (by grind)]; omega] at this
 omega
def Bv(hv:v n=v 0){k:Nat}(hk:k<n){p q:P2}(hl:p.2<=q.2)(h:∀i,i<n->i≠k->Sep (v i) (v (i+1)) p q) :
  W n v p-W n v q=(we (v k) (v (k+1)) p-we (v k) (v (k+1)) q)-(fz p q (v (k+1))-fz p q (v k)):=by
 rw[Am hv p q];exact oB hk fun i hi hn=>by rw[EA (h i hi hn) hl]; omega
def Simple.off(S:Simple n v){i j:Nat}(hi:i<n)(hj:j<n)(hij:i≠j){t s:Rat}(t0:0<=t)(t1:t<=1)(s0:0<=s)(s1:s<=1)
  (hn:j=i+1\/(i+1=n/\j=0)->t<1/\s<1) (hp:i=j+1\/(j+1=n/\i=0)->0<t/\0<s):Sep (v j) (v (j+1)) (cv (v i) (v (i+1)) t) (cv (v i) (v (i+1)) s):=by
 have hn3:=S.n3
 by_cases h1:j=i+1\/(i+1=n/\j=0)
 obtain⟨a,b⟩:=hn h1;have e:v j=v (i+1)/\v (j+1)=v (i+2):=by
  rcases h1 with rfl|⟨h,rfl⟩
  exact⟨rfl,rfl⟩
  have:i+2=n+1:=by omega
  rw[this,S.cl1,h,S.cl]; exact⟨rfl,rfl⟩
 rw[e.1,e.2];exact FJ (S.ne i hi) (S.aq i hi) a b
 by_cases h2:i=j+1\/(j+1=n/\i=0)
 obtain⟨a,b⟩:=hp h2;have e:v (j+1)=v i/\v (j+2)=v (i+1):=by
  rcases h2 with rfl|⟨h,rfl⟩
  exact⟨rfl,rfl⟩
  have:j+2=n+1:=by omega
  rw[this,S.cl1,h,S.cl]; exact⟨rfl,rfl⟩
 have:=S.aq j hj;rw[e.1,e.2] at this;rw[e.1];exact zy this a b
 exact By (S.sep j i hj hi (by omega) (by omega) (by omega) (by omega) (by omega)) t0 t1 s0 s1
def nE(u w d:P2)(t x:Rat):tn u w (sm (cv u w t) d x)=x*cr u w d:=by unfold tn sm cv cr; grind
def fS{u w p q:P2}{σ:Rat}(h1:0 < σ*tn u w p)(h2:0 < σ*tn u w q):Sep u w p q:=by
 refine oc (σ*(w.2-u.2)) (-(σ*(w.1-u.1))) (-(σ*((w.2-u.2)*u.1-(w.1-u.1)*u.2))) ?_ ?_ ?_ ?_
 unfold af; grind
 unfold af; grind
 unfold tn at h1; unfold af; grind
 unfold tn at h2; unfold af; grind
def Simple.beside(S:Simple n v){σ:Rat}{i:Nat}(hi:i<n){t s:Rat}(t0:0<t)(t1:t<1)(s0:0<s)(s1:s<1){d d':P2}(h:0 < σ*cr (v i) (v (i+1)) d)(h':0 < σ*cr (v i) (v (i+1)) d') :
  Ev fun x y=>W n v (sm (cv (v i) (v (i+1)) t) d x)=W n v (sm (cv (v i) (v (i+1)) s) d' y):=by
 have hE:Ev fun x y=>∀j,j<n->Sep (v j) (v (j+1)) (sm (cv (v i) (v (i+1)) t) d x) (sm (cv (v i) (v (i+1)) s) d' y):=by
  refine Ev.all fun j hj=>?_
  by_cases e:i=j
  subst e;refine Ev.of fun x y hx hy=>fS (σ:=σ) ?_ ?_
  rw[nE]; have:=bh hx h; grind
  rw[nE]; have:=bh hy h'; grind
  exact vw (S.off hi hj e (by grind) (by grind) (by grind) (by grind) (fun _=>⟨t1,s1⟩) (fun _=>⟨t0,s0⟩)) d d'
 exact hE.mono fun x y _ _ h=>vY S.cl h
def HS(n:Nat)(v:Nat->P2)(σ:Rat)(i:Nat)(L:Int):Prop:=∀t d,0<t->t<1->0 < σ*cr (v i) (v (i+1)) d->∃e:Rat,0<e/\∀x,0<x->x<=e->W n v (sm (cv (v i) (v (i+1)) t) d x)=L
def Simple.hs(S:Simple n v){σ:Rat}(hσ:σ≠0){i:Nat}(hi:i<n):∃L,HS n v σ i L:=by
 have hl:=wO (S.ne i hi)
 let d0:P2:=(-(σ*((v (i+1)).2-(v i).2)),σ*((v (i+1)).1-(v i).1))
 have h0:0 < σ*cr (v i) (v (i+1)) d0:=by
  have:=bh (sq_pos hσ) hl;have e:σ*cr (v i) (v (i+1)) d0=σ*σ*(((v (i+1)).1-(v i).1)*((v (i+1)).1-(v i).1)+((v (i+1)).2-(v i).2)*((v (i+1)).2-(v i).2)):=by
   show σ*(((v (i+1)).1-(v i).1)*(σ*((v (i+1)).1-(v i).1))-((v (i+1)).2-(v i).2)*(-(σ*((v (i+1)).2-(v i).2))))=_
   grind
  rw[e]; exact this
 obtain⟨e,e0,he⟩:=S.beside (σ:=σ) hi (t:=1/2) (s:=1/2) (by grind) (by grind) (by grind) (by grind) h0 h0
 refine⟨W n v (sm (cv (v i) (v (i+1)) (1/2)) d0 e),fun t d t0 t1 hd=>?_⟩;obtain⟨f,f0,hf⟩:=S.beside (σ:=σ) hi (t:=t) (s:=1/2) t0 t1 (by grind) (by grind) hd h0
 obtain⟨g,g0,ge,gf⟩:=fN e0 f0;refine⟨f,f0,fun x x0 x1=>?_⟩;rw[hf x g x0 x1 g0 (by grind),he g e g0 (by grind) e0 (by grind)]
def Simple.xK(S:Simple n v){i:Nat}(hi:i<n){L R:Int}(hL:HS n v 1 i L)(hR:HS n v (-1) i R):L=R+1:=by
 have hne:=S.ne i hi;have eoff:∀d d':P2,Ev fun x y=>∀j,j<n->j≠i->Sep (v j) (v (j+1)) (sm (cv (v i) (v (i+1)) (1/2)) d x) (sm (cv (v i) (v (i+1)) (1/2)) d' y):=fun d d' =>
  Ev.all (P:=fun j x y=>j≠i->Sep (v j) (v (j+1)) (sm (cv (v i) (v (i+1)) (1/2)) d x) (sm (cv (v i) (v (i+1)) (1/2)) d' y)) fun j hj=>by
   by_cases e:j=i
   exact Ev.of fun _ _ _ _ h=>Q1 e h
   exact(vw (S.off hi hj (Ne.symm e) (t:=1/2) (s:=1/2) (by grind) (by grind) (by grind) (by grind) (fun _=>⟨by grind,by grind⟩) (fun _=>⟨by grind,by grind⟩)) d d').mono fun x y _ _ h _=>h
 have pick:∀d d':P2,0<cr (v i) (v (i+1)) d->0 < -cr (v i) (v (i+1)) d'->∃x:Rat,0<x/\W n v (sm (cv (v i) (v (i+1)) (1/2)) d x)=L/\W n v (sm (cv (v i) (v (i+1)) (1/2)) d' x)=R /\
   (∀j,j<n->j≠i->Sep (v j) (v (j+1)) (sm (cv (v i) (v (i+1)) (1/2)) d x) (sm (cv (v i) (v (i+1)) (1/2)) d' x))/\∀B:Rat,B<0->True:=by
  intro d d' hd hd';obtain⟨e,e0,he⟩:=hL (1/2) d (by grind) (by grind) (by grind)
  obtain⟨f,f0,hf⟩:=hR (1/2) d' (by grind) (by grind) (by grind)
  obtain⟨g,g0,hg⟩:=eoff d d';obtain⟨k,k0,ke,kf⟩:=fN e0 f0;obtain⟨m,m0,mk,mg⟩:=fN k0 g0;exact⟨m,m0,he m m0 (by grind),hf m m0 (by grind),hg m m m0 (by grind) m0 (by grind),fun _ _=>trivial⟩
 generalize hu:v i=u at *;generalize hw:v (i+1)=w at *
 by_cases h0:w.2=u.2
 
 have h1:w.1≠u.1:=fun e=>hne (Rz e.symm h0.symm)
 by_cases hp:u.1<w.1
 obtain⟨x,x0,xL,xR,xs,_⟩:=pick (0,1) (0,-1) (by unfold cr; grind) (by unfold cr; grind)
 have k:=Bv S.cl hi (p:=sm (cv u w (1/2)) (0,-1) x) (q:=sm (cv u w (1/2)) (0,1) x) (by unfold sm; grind) fun j hj hn=>(xs j hj hn).pq
 rw[hu,hw,eK (by unfold sm cv; grind) (by unfold sm cv; grind),eK (by unfold sm cv; grind) (by unfold sm cv; grind),rf (v:=w) (by unfold sm cv; grind) (by unfold sm cv; grind),rf (v:=u) (by unfold sm cv; grind) (by unfold sm cv; grind)] at k
 have t1:tn (sm (cv u w (1/2)) (0,-1) x) (sm (cv u w (1/2)) (0,1) x) w = -(x*(w.1-u.1)):=by unfold tn sm cv; grind
 have t2:tn (sm (cv u w (1/2)) (0,-1) x) (sm (cv u w (1/2)) (0,1) x) u=x*(w.1-u.1):=by unfold tn sm cv; grind
 have m:=bh x0 (show 0<w.1-u.1 by grind)
 rw[t1,t2,QH (by grind),QF (by grind),xL,xR] at k
 omega
 obtain⟨x,x0,xL,xR,xs,_⟩:=pick (0,-1) (0,1) (by unfold cr; grind) (by unfold cr; grind)
 have k:=Bv S.cl hi (p:=sm (cv u w (1/2)) (0,-1) x) (q:=sm (cv u w (1/2)) (0,1) x) (by unfold sm; grind) fun j hj hn=>xs j hj hn
 rw[hu,hw,eK (by unfold sm cv; grind) (by unfold sm cv; grind),eK (by unfold sm cv; grind) (by unfold sm cv; grind),rf (v:=w) (by unfold sm cv; grind) (by unfold sm cv; grind),rf (v:=u) (by unfold sm cv; grind) (by unfold sm cv; grind)] at k
 have t1:tn (sm (cv u w (1/2)) (0,-1) x) (sm (cv u w (1/2)) (0,1) x) w=x*(u.1-w.1):=by unfold tn sm cv; grind
 have t2:tn (sm (cv u w (1/2)) (0,-1) x) (sm (cv u w (1/2)) (0,1) x) u = -(x*(u.1-w.1)):=by unfold tn sm cv; grind
 have m:=bh x0 (show 0<u.1-w.1 by grind)
 rw[t1,t2,QF (by grind),QH (by grind),xL,xR] at k
 omega
 by_cases hp:u.2<w.2
 obtain⟨x,x0,xL,xR,xs,_⟩:=pick (-1,0) (1,0) (by unfold cr; grind) (by unfold cr; grind)
 have k:=Bv S.cl hi (p:=sm (cv u w (1/2)) (-1,0) x) (q:=sm (cv u w (1/2)) (1,0) x) (by unfold sm; grind) fun j hj hn=>xs j hj hn
 rw[jE (by unfold sm; grind),jE (by unfold sm; grind),hu,hw,jo (by unfold sm cv; grind) (by unfold sm cv; grind),jo (by unfold sm cv; grind) (by unfold sm cv; grind),nE,nE] at k
 have m:=bh x0 (show 0<w.2-u.2 by grind)
 rw[QH (by unfold cr; grind),QF (by unfold cr; grind),xL,xR] at k
 omega
 obtain⟨x,x0,xL,xR,xs,_⟩:=pick (1,0) (-1,0) (by unfold cr; grind) (by unfold cr; grind)
 have k:=Bv S.cl hi (p:=sm (cv u w (1/2)) (-1,0) x) (q:=sm (cv u w (1/2)) (1,0) x) (by unfold sm; grind) fun j hj hn=>(xs j hj hn).pq
 have e1:=ku w u (sm (cv u w (1/2)) (-1,0) x);have e2:=ku w u (sm (cv u w (1/2)) (1,0) x);rw[jo (a:=w) (b:=u) (by unfold sm cv; grind) (by unfold sm cv; grind),jj u w,nE] at e1
 rw[jo (a:=w) (b:=u) (by unfold sm cv; grind) (by unfold sm cv; grind),jj u w,nE] at e2
 have m:=bh x0 (show 0<u.2-w.2 by grind)
 rw[QH (by unfold cr; grind)] at e1
 rw[QF (by unfold cr; grind)] at e2
 rw[jE (by unfold sm; grind),jE (by unfold sm; grind),hu,hw,e1,e2,xL,xR] at k
 omega
def Simple.A2(S:Simple n v){σ:Rat}{i:Nat}(hi:i+1<n){d:P2}(hd:0 < σ*cr (v i) (v (i+1)) d)(hd':0 < σ*cr (v (i+1)) (v (i+2)) d)(hs:0<=σ*tn (v i) (v (i+1)) (v (i+2)))
  {L L':Int} (h:HS n v σ i L) (h':HS n v σ (i+1) L'):L=L':=by
 have hn3:=S.n3;have e1:Ev fun x y=>∀j,j<n->Sep (v j) (v (j+1)) (sm (cv (v i) (v (i+1)) (1/2)) d x) (sm (cv (v i) (v (i+1)) 1) d y):=by
  refine Ev.all fun j hj=>?_
  by_cases e:i=j
  subst e;refine Ev.of fun x y hx hy=>fS (σ:=σ) ?_ ?_
  rw[nE]; have:=bh hx hd; grind
  rw[nE]; have:=bh hy hd; grind
  by_cases e':j=i+1
  subst e';refine Ev.of fun x y hx hy=>fS (σ:=σ) ?_ ?_
  have m1:=bh hx hd';have:σ*tn (v (i+1)) (v (i+1+1)) (sm (cv (v i) (v (i+1)) (1/2)) d x)=1/2*(σ*tn (v i) (v (i+1)) (v (i+2)))+x*(σ*cr (v (i+1)) (v (i+2)) d):=by
   unfold tn sm cv cr; grind
  rw[this]; grind
  have m1:=bh hy hd';have:σ*tn (v (i+1)) (v (i+1+1)) (sm (cv (v i) (v (i+1)) 1) d y)=y*(σ*cr (v (i+1)) (v (i+2)) d):=by
   unfold tn sm cv cr; grind
  rw[this]; exact m1
  exact vw (S.off (by omega) hj e (by grind) (by grind) (by grind) (by grind) (fun h=>by omega) (fun _=>⟨by grind,by grind⟩)) d d
 have e2:Ev fun x y=>∀j,j<n->Sep (v j) (v (j+1)) (sm (cv (v (i+1)) (v (i+2)) (1/2)) d x) (sm (cv (v (i+1)) (v (i+2)) 0) d y):=by
  refine Ev.all fun j hj=>?_
  by_cases e:j=i+1
  subst e;refine Ev.of fun x y hx hy=>fS (σ:=σ) ?_ ?_
  rw[nE]; have:=bh hx hd'; grind
  rw[nE]; have:=bh hy hd'; grind
  by_cases e':j=i
  subst e';refine Ev.of fun x y hx hy=>fS (σ:=σ) ?_ ?_
  have m1:=bh hx hd;have:σ*tn (v j) (v (j+1)) (sm (cv (v (j+1)) (v (j+2)) (1/2)) d x)=1/2*(σ*tn (v j) (v (j+1)) (v (j+2)))+x*(σ*cr (v j) (v (j+1)) d):=by
   unfold tn sm cv cr; grind
  rw[this]; grind
  have m1:=bh hy hd;have:σ*tn (v j) (v (j+1)) (sm (cv (v (j+1)) (v (j+2)) 0) d y)=y*(σ*cr (v j) (v (j+1)) d):=by
   unfold tn sm cv cr; grind
  rw[this]; exact m1
  exact vw (S.off (i:=i+1) hi hj (Ne.symm e) (by grind) (by grind) (by grind) (by grind) (fun _=>⟨by grind,by grind⟩) (fun h=>by omega)) d d
 obtain⟨a,a0,ha⟩:=e1;obtain⟨b,b0,hb⟩:=e2;obtain⟨f,f0,hf⟩:=h (1/2) d (by grind) (by grind) hd
 obtain⟨g,g0,hg⟩:=h' (1/2) d (by grind) (by grind) hd'
 obtain⟨k,k0,ka,kb⟩:=fN a0 b0;obtain⟨l,l0,lf,lg⟩:=fN f0 g0;obtain⟨x,x0,xk,xl⟩:=fN k0 l0;have w1:=vY S.cl (ha x x x0 (by grind) x0 (by grind))
 have w2:=vY S.cl (hb x x x0 (by grind) x0 (by grind))
 rw[hf x x0 (by grind)] at w1
 rw[hg x x0 (by grind)] at w2
 have e:cv (v i) (v (i+1)) 1=cv (v (i+1)) (v (i+2)) 0:=by unfold cv; exact Rz (by grind) (by grind)
 rw[w1,w2,e]
def Simple.step(S:Simple n v){i:Nat}(hi:i+1<n){L L':Int}(h:HS n v 1 i L)(h':HS n v 1 (i+1) L'):L=L':=by
 have hne:=S.ne i (by omega)
 have ht:=S.aq i (by omega)
 have c1:cr (v i) (v (i+1)) ((v (i+2)).1-(v (i+1)).1-((v (i+1)).1-(v i).1),(v (i+2)).2-(v (i+1)).2-((v (i+1)).2-(v i).2))=tn (v i) (v (i+1)) (v (i+2)):=by unfold cr tn; grind
 have c2:cr (v (i+1)) (v (i+2)) ((v (i+2)).1-(v (i+1)).1-((v (i+1)).1-(v i).1),(v (i+2)).2-(v (i+1)).2-((v (i+1)).2-(v i).2))=tn (v i) (v (i+1)) (v (i+2)):=by unfold cr tn; grind
 by_cases h0:tn (v i) (v (i+1)) (v (i+2))=0
 have hd:0<dt (v i) (v (i+1)) (v (i+2)):=ht.resolve_left fun e=>e h0;have hl:=wO hne;refine S.A2 (σ:=1) hi (d:=(-((v (i+1)).2-(v i).2),(v (i+1)).1-(v i).1)) ?_ ?_ (by rw[h0]; grind) h h'
 unfold cr; grind
 unfold dt at hd; unfold cr; grind
 by_cases hp:0<tn (v i) (v (i+1)) (v (i+2))
 exact S.A2 (σ:=1) hi (by rw[c1]; grind) (by rw[c2]; grind) (by grind) h h'
 obtain⟨R,hR⟩:=S.hs (σ:=-1) (by grind) (i:=i) (by omega)
 obtain⟨R',hR'⟩:=S.hs (σ:=-1) (by grind) (i:=i+1) (by omega)
 have e:=S.A2 (σ:=-1) hi (by rw[c1]; grind) (by rw[c2]; grind) (by grind) hR hR'
 have e1:=S.xK (by omega) h hR
 have e2:=S.xK hi h' hR';omega
def Simple.along(S:Simple n v):∃L:Int,∀i,i<n->HS n v 1 i L/\HS n v (-1) i (L-1):=by
 have hn3:=S.n3;obtain⟨L,hL⟩:=S.hs (σ:=1) (by grind) (i:=0) (by omega)
 have h1:∀i,i<n->HS n v 1 i L:=by
  intro i
  induction i with
  | zero=>intro _; exact hL
  | succ i ih =>
   intro hi;obtain⟨L',hL'⟩:=S.hs (σ:=1) (by grind) (i:=i+1) hi
   have:=S.step hi (ih (by omega)) hL'
   rw[this]; exact hL'
 refine⟨L,fun i hi=>⟨h1 i hi,?_⟩⟩;obtain⟨R,hR⟩:=S.hs (σ:=-1) (by grind) (i:=i) hi
 have:=S.xK hi (h1 i hi) hR;rw[show L-1=R by omega]; exact hR
end
def nU{X:Nat->Rat}{P:SV}:∀{n:Nat},(∃i,i<n/\P i)->∃i,i<n/\P i/\∀j,j<n->P j->X i<=X j
 | 0,h=>by obtain⟨i,h,_⟩:=h; omega
 | n+1,h=>by
  by_cases hn:∃i,i<n/\P i
  obtain⟨i,i1,i2,i3⟩:=nU (X:=X) hn
  by_cases hp:P n/\X n<=X i
  refine⟨n,by omega,hp.1,fun j hj hP=>?_⟩
  by_cases e:j=n
  subst e; grind
  have:=i3 j (by omega) hP; grind
  refine⟨i,by omega,i2,fun j hj hP=>?_⟩
  by_cases e:j=n
  subst e;have:¬X j<=X i:=fun h=>hp ⟨hP,h⟩
  grind
  exact i3 j (by omega) hP
  obtain⟨i,i1,i2⟩:=h;have:i=n:=QI fun e=>hn ⟨i,by omega,i2⟩
  subst this;refine⟨i,by omega,i2,fun j hj hP=>?_⟩
  by_cases e:j=i
  subst e; grind
  exact Q1 ⟨j,by omega,hP⟩ hn
def yI{u w:P2}{y:Rat}(h:(u.2<y/\y<w.2)\/(w.2<y/\y<u.2)) :
  ∃t,0<t/\t<1/\(cv u w t).2=y/\∀q:P2,q.2=y->tn u w q=(w.2-u.2)*((cv u w t).1-q.1):=by
 have hD:w.2-u.2≠0:=by grind
 have hi:(w.2-u.2)*(w.2-u.2)⁻¹=1:=Rat.mul_inv_cancel _ hD;have ht:((y-u.2)*(w.2-u.2)⁻¹)*(w.2-u.2)=y-u.2:=by grind
 generalize(y-u.2)*(w.2-u.2)⁻¹=t at ht;have t0:0<t:=by
  refine QI fun hc=>?_;rcases h with h|h
  have:=bO (show 0<=-t by grind) (show 0<=w.2-u.2 by grind)
  grind
  have:=bO (show 0<=-t by grind) (show 0<=u.2-w.2 by grind)
  grind
 have t1:t<1:=by
  refine QI fun hc=>?_;rcases h with h|h
  have:=bO (show 0<=t-1 by grind) (show 0<=w.2-u.2 by grind)
  grind
  have:=bO (show 0<=t-1 by grind) (show 0<=u.2-w.2 by grind)
  grind
 refine⟨t,t0,t1,by unfold cv; grind,fun q hq=>?_⟩
 unfold tn cv;rw[hq]
 grind
section
variable{n:Nat}{v:Nat->P2}
def dd(u w:P2)(y:Rat):Int:=if u.2<y/\y<w.2 then 1 else if w.2<y/\y<u.2 then -1 else 0
def xj{u w:P2}{y:Rat}(hu:u.2≠y)(hw:w.2≠y):∃X:Rat,(∀q:P2,q.2=y->we u w q=if q.1<X then dd u w y else 0)/\(dd u w y≠0->∃t,0<t/\t<1/\cv u w t=(X,y)):=by
 by_cases h1:u.2<y/\y<w.2
 obtain⟨t,t0,t1,t2,t3⟩:=yI (.inl h1);refine⟨(cv u w t).1,fun q hq=>?_,fun _=>⟨t,t0,t1,Rz rfl t2⟩⟩;unfold dd;rw[jo (by grind) (by grind),QH h1,t3 q hq]
 by_cases hx:q.1<(cv u w t).1
 rw[QH hx,QH (bh (by grind) (by grind))]
 rw[QF hx,QF];have:=cU (show 0<=w.2-u.2 by grind) (show(cv u w t).1-q.1<=0 by grind)
 grind
 by_cases h2:w.2<y/\y<u.2
 obtain⟨t,t0,t1,t2,t3⟩:=yI (.inr h2);refine⟨(cv u w t).1,fun q hq=>?_,fun _=>⟨t,t0,t1,Rz rfl t2⟩⟩;unfold dd;rw[ku w u,jo (by grind) (by grind),QF h1,QH h2,jj u w,t3 q hq]
 by_cases hx:q.1<(cv u w t).1
 have:=bh (show 0<u.2-w.2 by grind) (show 0<(cv u w t).1-q.1 by grind)
 rw[QH hx,QH (by grind)]
 have:=cU (show 0<=u.2-w.2 by grind) (show(cv u w t).1-q.1<=0 by grind)
 rw[QF hx,QF (by grind)]; rfl
 have e:dd u w y=0:=by unfold dd; rw[QF h1,QF h2]
 refine⟨0,fun q hq=>?_,fun h=>Q1 e h⟩;rw[e,ite_self,eK (by grind) (by grind)]
end
abbrev I2:=Int×Int
def ti(a b c:I2):Int:=(b.1-a.1)*(c.2-a.2)-(b.2-a.2)*(c.1-a.1)
def ca(a:I2):P2:=((a.1:Rat),(a.2:Rat))
def lO(a b c:I2):tn (ca a) (ca b) (ca c)=((ti a b c:Int):Rat):=by
 unfold tn ca ti;simp only[Rat.intCast_sub,RZ]
def dX{x y:Int}:(x:Rat)<(y:Rat)↔x<y:=Rat.intCast_lt_intCast
def Bk{x y:Int}:(x:Rat)<=(y:Rat)↔x<=y:=Rat.intCast_le_intCast
def fa{x:Int}:(0:Rat)<(x:Rat)↔0<x:=by
 have:=@dX 0 x
 simpa using this
def py{x:Int}:(x:Rat)<0↔x<0:=by
 have:=@dX x 0
 simpa using this
def eh(a b p:I2):ti b a p = -ti a b p:=by unfold ti; grind
def E3(a b c:I2):ti b c a=ti a b c:=by unfold ti; grind
def zR(a b:I2):ti a b a=0:=by unfold ti; grind
def Aa(a b:I2):ti a b b=0:=by unfold ti; grind
def Cf(a b c d:I2):ti a b d-ti a b c=ti c d a-ti c d b:=by unfold ti; grind
def cz(a b p:I2):Prop:=ti a b p=0/\min a.1 b.1<=p.1/\p.1<=max a.1 b.1/\min a.2 b.2<=p.2/\p.2<=max a.2 b.2
instance(a b p:I2):Decidable (cz a b p):=by unfold cz; infer_instance
def cz.swap{a b p:I2}(h:cz a b p):cz b a p:=by
 obtain⟨h1,h2⟩:=h;exact⟨by rw[eh,h1]; rfl,by omega⟩
def su{a b p:I2}:cz a b p↔cz b a p:=⟨cz.swap,cz.swap⟩
def sW(a b:I2):cz a b a:=⟨zR a b,by omega⟩
def pg(a b:I2):cz a b b:=⟨Aa a b,by omega⟩
def BK{a b p:I2}(h:a.1<b.1):cz a b p↔ti a b p=0/\a.1<=p.1/\p.1<=b.1:=by
 refine⟨fun⟨h1,h2⟩=>⟨h1,by omega⟩,fun⟨h1,h2,h3⟩=>⟨h1,by omega,by omega,?_,?_⟩⟩
 all_goals
  unfold ti at h1;have e1:(b.1-a.1)*(p.2-a.2)=(b.2-a.2)*(p.1-a.1):=by omega
  have e2:(b.1-a.1)*(b.2-p.2)=(b.2-a.2)*(b.1-p.1):=by grind
  by_cases hy:a.2<=b.2
  have m1:0<=(b.1-a.1)*(p.2-a.2):=by rw[e1]; exact R8 (by omega) (by omega)
  have m2:0<=(b.1-a.1)*(b.2-p.2):=by rw[e2]; exact R8 (by omega) (by omega)
  have k1:=St m1 (by omega)
  have k2:=St m2 (by omega)
  omega
  have m1:0<=(b.1-a.1)*(a.2-p.2):=by
   rw[show(b.1-a.1)*(a.2-p.2)=(a.2-b.2)*(p.1-a.1) by grind]; exact R8 (by omega) (by omega)
  have m2:0<=(b.1-a.1)*(p.2-b.2):=by
   rw[show(b.1-a.1)*(p.2-b.2)=(a.2-b.2)*(b.1-p.1) by grind]; exact R8 (by omega) (by omega)
  have k1:=St m1 (by omega)
  have k2:=St m2 (by omega)
  omega
def GU{a b p:I2}(h:a.1=b.1)(hab:a≠b):cz a b p↔p.1=a.1/\min a.2 b.2<=p.2/\p.2<=max a.2 b.2:=by
 have hy:a.2≠b.2:=fun e=>hab (Rz h e);refine⟨fun⟨_,h2⟩=>by omega,fun⟨h1,h2⟩=>⟨?_,by omega⟩⟩
 unfold ti;rw[h1,<-h]; grind
def nZ{a b p:I2}(h:a.1=b.1)(hab:a≠b)(h0:ti a b p=0):p.1=a.1:=by
 have hy:b.2-a.2≠0:=fun e=>hab (Rz h (by omega))
 unfold ti at h0;rw[h,Int.sub_self,Int.zero_mul] at h0;have:(b.2-a.2)*(p.1-b.1)=0:=by omega
 rcases RS.1 this with e|e
 exact Q1 e hy
 omega
def pa{a b p q:I2}(h:a.1≠b.1)(hp:ti a b p=0)(hq:ti a b q=0)(e:p.1=q.1):p=q:=by
 have:(b.1-a.1)*(p.2-q.2)=0:=by unfold ti at hp hq; rw[e] at hp; grind
 rcases RS.1 this with e'|e'
 omega
 exact Rz e (by omega)
def Lx(a b:I2):Prop:=a.1<b.1\/a.1=b.1/\a.2<=b.2
def nV{a b p:I2}(hab:a≠b)(h:Lx a b):cz a b p↔ti a b p=0/\Lx a p/\Lx p b:=by
 unfold Lx at *
 by_cases hx:a.1<b.1
 rw[BK hx];refine⟨fun⟨h1,h2,h3⟩=>⟨h1,?_,?_⟩,fun⟨h1,h2,h3⟩=>⟨h1,by omega,by omega⟩⟩
 by_cases e:p.1=a.1
 have:=pa (by omega) h1 (zR a b) e
 rw[this]; omega
 omega
 by_cases e:p.1=b.1
 have:=pa (by omega) h1 (Aa a b) e
 rw[this]; omega
 omega
 have e:a.1=b.1:=by omega
 rw[GU e hab];refine⟨fun⟨h1,h2⟩=>⟨?_,by omega,by omega⟩,fun⟨h1,h2,h3⟩=>?_⟩
 unfold ti; rw[h1,<-e]; grind
 have:=nZ e hab h1;omega
def mS{a b c d:I2}(hab:a≠b)(hc:ti a b c=0)(hn:¬cz a b c)(hd:ti a b d≠0):(0<ti c d a/\0<ti c d b)\/(ti c d a<0/\ti c d b<0):=by
 have four:=Cf a b c d;have key:∀A B s t:Int,s*B=A*t->0<A*B->s-t≠0->(0<s/\0<t)\/(s<0/\t<0):=by
  intro A B s t e hAB hst;have hB:B≠0:=fun h=>by rw[h,Int.mul_zero] at hAB; omega
  have hA:A≠0:=fun h=>by rw[h,Int.zero_mul] at hAB; omega
  have ht:t≠0:=fun h=>by
   rw[h,Int.mul_zero] at e;rcases RS.1 e with h'|h'
   omega
   exact hB h'
  have hs:s≠0:=fun h=>by
   rw[h,Int.zero_mul] at e;rcases RS.1 e.symm with h'|h'
   exact hA h'
   exact ht h'
  have hp:0<s*t:=by
   have e2:s*t*(B*B)=(A*B)*(t*t):=by
    rw[show s*t*(B*B)=(s*B)*(t*B) by grind,e]; grind
   have h1:0<(A*B)*(t*t):=SG hAB (by
    rcases Int.lt_or_lt_of_ne ht with h|h
    exact Int.mul_pos_of_neg_of_neg h h
    exact SG h h)
   rw[<-e2] at h1;have h2:0<B*B:=by
    rcases Int.lt_or_lt_of_ne hB with h|h
    exact Int.mul_pos_of_neg_of_neg h h
    exact SG h h
   exact Int.pos_of_mul_pos_left h1 h2
  rcases Int.lt_or_lt_of_ne hs with h|h
  right
  refine⟨h,?_⟩;refine QI fun hc=>?_;have:=SG (show 0 < -s by omega) (show 0<t by omega)
  rw[Int.neg_mul] at this;omega
  left
  refine⟨h,?_⟩;refine QI fun hc=>?_;have:=SG h (show 0 < -t by omega)
  rw[Int.mul_neg] at this;omega
 have hst:ti c d a-ti c d b≠0:=by omega
 have e0:(a.1-c.1)*(b.2-c.2)=(a.2-c.2)*(b.1-c.1):=by unfold ti at hc; grind
 have ex:ti c d a*(b.1-c.1)=(a.1-c.1)*ti c d b:=by
  unfold ti;generalize d.1-c.1=x at *;generalize d.2-c.2=y at *;generalize a.1-c.1=A at *;generalize b.1-c.1=B at *;generalize a.2-c.2=C at *;generalize b.2-c.2=D at *
  grind
 have ey:ti c d a*(b.2-c.2)=(a.2-c.2)*ti c d b:=by
  unfold ti;generalize d.1-c.1=x at *;generalize d.2-c.2=y at *;generalize a.1-c.1=A at *;generalize b.1-c.1=B at *;generalize a.2-c.2=C at *;generalize b.2-c.2=D at *
  grind
 have hout:0<(a.1-c.1)*(b.1-c.1)\/0<(a.2-c.2)*(b.2-c.2):=by
  refine QI fun hh=>hn ⟨hc,?_⟩;have pos:∀{x y:Int},0<x->0<y->0<x*y:=SG;have neg:∀{x y:Int},x<0->y<0->0<x*y:=Int.mul_pos_of_neg_of_neg;have n1:¬(0<a.1-c.1/\0<b.1-c.1):=fun h=>hh (.inl (pos h.1 h.2));have n2:¬(a.1-c.1<0/\b.1-c.1<0):=fun h=>hh (.inl (neg h.1 h.2));have n3:¬(0<a.2-c.2/\0<b.2-c.2):=fun h=>hh (.inr (pos h.1 h.2));have n4:¬(a.2-c.2<0/\b.2-c.2<0):=fun h=>hh (.inr (neg h.1 h.2));omega
 rcases hout with h|h
 exact key _ _ _ _ ex h hst
 exact key _ _ _ _ ey h hst
def jF(a b c d x:I2):Prop:=(x=a\/x=b\/x=c\/x=d)/\cz a b x/\cz c d x
def low(a b c d:I2):Int:=if a.1=b.1 then max (min a.2 b.2) (min c.2 d.2)-min (max a.2 b.2) (max c.2 d.2) else max (min a.1 b.1) (min c.1 d.1)-min (max a.1 b.1) (max c.1 d.1)
def H0{a b c d:I2}(hab:a≠b)(hcd:c≠d)(hc:ti a b c=0)(hd:ti a b d=0):∃f:I2->Int,low a b c d=max (min (f a) (f b)) (min (f c) (f d))-min (max (f a) (f b)) (max (f c) (f d)) /\
  (∀x y,ti a b x=0->ti a b y=0->f x=f y->x=y)/\(∀x,cz a b x↔ti a b x=0/\min (f a) (f b)<=f x/\f x<=max (f a) (f b))/\(∀x,ti a b x=0->(cz c d x↔min (f c) (f d)<=f x/\f x<=max (f c) (f d))):=by
 by_cases h:a.1=b.1
 have h3:=nZ h hab hc;have h4:=nZ h hab hd;refine⟨fun x=>x.2,by unfold low; rw[QH h],fun x y hx hy e=>Rz ((nZ h hab hx).trans (nZ h hab hy).symm) e,fun x=>?_,fun x hx=>?_⟩
 rw[GU h hab];refine⟨fun⟨h0,h1⟩=>⟨?_,h1⟩,fun⟨h0,h1⟩=>⟨nZ h hab h0,h1⟩⟩;unfold ti; rw[h0,<-h]; grind
 rw[GU (by omega) hcd]
 have:=nZ h hab hx;exact⟨fun h=>h.2,fun h=>⟨by omega,h⟩⟩
 have h2:c.1≠d.1:=fun e=>hcd (pa h hc hd e);have dir:∀x,ti a b x=0->ti c d x=0:=fun x hx=>by
  have e0:(b.1-a.1)*(c.2-a.2)=(b.2-a.2)*(c.1-a.1):=by unfold ti at hc; omega
  have e2:(b.1-a.1)*(d.2-a.2)=(b.2-a.2)*(d.1-a.1):=by unfold ti at hd; omega
  have e1:(b.1-a.1)*(x.2-a.2)=(b.2-a.2)*(x.1-a.1):=by unfold ti at hx; omega
  have:(b.1-a.1)*ti c d x=0:=by
   unfold ti;have:(b.1-a.1)*((d.1-c.1)*(x.2-c.2)-(d.2-c.2)*(x.1-c.1))=(d.1-c.1)*((b.1-a.1)*(x.2-a.2)-(b.1-a.1)*(c.2-a.2))-((b.1-a.1)*(d.2-a.2)-(b.1-a.1)*(c.2-a.2))*(x.1-c.1):=by grind
   rw[this,e0,e2,e1]; grind
  rcases RS.1 this with e|e
  omega
  exact e
 have gen:∀{u w:I2},u.1≠w.1->∀x,(cz u w x↔ti u w x=0/\min u.1 w.1<=x.1/\x.1<=max u.1 w.1):=fun{u w} huw x=>by
  by_cases hl:u.1<w.1
  rw[BK hl]; refine⟨fun⟨h0,h1⟩=>⟨h0,by omega⟩,fun⟨h0,h1⟩=>⟨h0,by omega⟩⟩
  rw[su,BK (by omega),eh]; refine⟨fun⟨h0,h1⟩=>⟨by omega,by omega⟩,fun⟨h0,h1⟩=>⟨by omega,by omega⟩⟩
 refine⟨fun x=>x.1,by unfold low; rw[QF h],fun x y hx hy e=>pa h hx hy e,gen h,fun x hx=>?_⟩
 rw[gen h2];exact⟨fun h=>h.2,fun h=>⟨dir x hx,h⟩⟩
def FO{a b c d:I2}(hab:a≠b)(hcd:c≠d)(hc:ti a b c=0)(hd:ti a b d=0) :
  (0<low a b c d↔∀x,¬jF a b c d x)/\(low a b c d<0↔∃x y,jF a b c d x/\jF a b c d y/\x≠y):=by
 obtain⟨f,e,hi,h1,h2⟩:=H0 hab hcd hc hd;have ha0:=zR a b;have hb0:=Aa a b;have hfab:f a≠f b:=fun h=>hab (hi a b ha0 hb0 h);have hfcd:f c≠f d:=fun h=>hcd (hi c d hc hd h);have Iz:∀x,jF a b c d x↔(x=a\/x=b\/x=c\/x=d)/\(min (f a) (f b)<=f x/\f x<=max (f a) (f b))/\(min (f c) (f d)<=f x/\f x<=max (f c) (f d)):=fun x=>by
  unfold jF;refine⟨fun⟨h,g1,g2⟩=>⟨h,((h1 x).1 g1).2,(h2 x ((h1 x).1 g1).1).1 g2⟩,fun⟨h,g1,g2⟩=>?_⟩;have hx:ti a b x=0:=by rcases h with rfl|rfl|rfl|rfl<;>assumption
  exact⟨h,(h1 x).2 ⟨hx,g1⟩,(h2 x hx).2 g2⟩
 rw[e];have lo:∃x,(x=a\/x=b\/x=c\/x=d)/\f x=max (min (f a) (f b)) (min (f c) (f d)):=by
  by_cases g1:f a<=f b<;>by_cases g2:f c<=f d
  by_cases g3:f a<=f c
  exact⟨c,by simp,by omega⟩
  exact⟨a,by simp,by omega⟩
  by_cases g3:f a<=f d
  exact⟨d,by simp,by omega⟩
  exact⟨a,by simp,by omega⟩
  by_cases g3:f b<=f c
  exact⟨c,by simp,by omega⟩
  exact⟨b,by simp,by omega⟩
  by_cases g3:f b<=f d
  exact⟨d,by simp,by omega⟩
  exact⟨b,by simp,by omega⟩
 have hi':∃x,(x=a\/x=b\/x=c\/x=d)/\f x=min (max (f a) (f b)) (max (f c) (f d)):=by
  by_cases g1:f a<=f b<;>by_cases g2:f c<=f d
  by_cases g3:f b<=f d
  exact⟨b,by simp,by omega⟩
  exact⟨d,by simp,by omega⟩
  by_cases g3:f b<=f c
  exact⟨b,by simp,by omega⟩
  exact⟨c,by simp,by omega⟩
  by_cases g3:f a<=f d
  exact⟨a,by simp,by omega⟩
  exact⟨d,by simp,by omega⟩
  by_cases g3:f a<=f c
  exact⟨a,by simp,by omega⟩
  exact⟨c,by simp,by omega⟩
 obtain⟨x,x1,x2⟩:=lo;obtain⟨y,y1,y2⟩:=hi';constructor
 refine⟨fun h z hz=>?_,fun h=>?_⟩
 have:=(Iz z).1 hz;omega
 refine QI fun hc=>h x ((Iz x).2 ⟨x1,by omega,by omega⟩)
 refine⟨fun h=>⟨x,y,(Iz x).2 ⟨x1,by omega,by omega⟩,(Iz y).2 ⟨y1,by omega,by omega⟩,fun e=>by rw[e] at x2; omega⟩,fun⟨z,w,hz,hw,hne⟩=>?_⟩
 refine QI fun hc=>hne (hi z w ?_ ?_ ?_)
 exact hz.2.1.1
 exact hw.2.1.1
 have:=(Iz z).1 hz;have:=(Iz w).1 hw;omega
def oR{a b c d:I2}(hab:a≠b)(hcd:c≠d)(hn:∀x,¬jF a b c d x)
  (hx:¬(((0<ti a b c/\ti a b d<0)\/(ti a b c<0/\0<ti a b d))/\((0<ti c d a/\ti c d b<0)\/(ti c d a<0/\0<ti c d b)))):Sep (ca a) (ca b) (ca c) (ca d):=by
 have na:¬cz c d a:=fun h=>hn a ⟨.inl rfl,sW a b,h⟩;have nb:¬cz c d b:=fun h=>hn b ⟨.inr (.inl rfl),pg a b,h⟩;have nc:¬cz a b c:=fun h=>hn c ⟨.inr (.inr (.inl rfl)),h,sW c d⟩;have nd:¬cz a b d:=fun h=>hn d ⟨.inr (.inr (.inr rfl)),h,pg c d⟩;have byab:(0<ti a b c/\0<ti a b d)\/(ti a b c<0/\ti a b d<0)->Sep (ca a) (ca b) (ca c) (ca d):=by
  rintro(⟨h1,h2⟩|⟨h1,h2⟩)
  exact fS (σ:=1) (by rw[lO]; have:=fa.2 h1; grind) (by rw[lO]; have:=fa.2 h2; grind)
  exact fS (σ:=-1) (by rw[lO]; have:=py.2 h1; grind) (by rw[lO]; have:=py.2 h2; grind)
 have bycd:(0<ti c d a/\0<ti c d b)\/(ti c d a<0/\ti c d b<0)->Sep (ca a) (ca b) (ca c) (ca d):=by
  intro h;have h':Sep (ca c) (ca d) (ca a) (ca b):=by
   rcases h with⟨h1,h2⟩|⟨h1,h2⟩
   exact fS (σ:=1) (by rw[lO]; have:=fa.2 h1; grind) (by rw[lO]; have:=fa.2 h2; grind)
   exact fS (σ:=-1) (by rw[lO]; have:=py.2 h1; grind) (by rw[lO]; have:=py.2 h2; grind)
  obtain⟨α,β,γ,g1,g2,g3,g4⟩:=h';exact⟨-α,-β,-γ,by unfold af at *; grind,by unfold af at *; grind,by unfold af at *; grind,by unfold af at *; grind⟩
 have four:=Cf a b c d
 by_cases hc:ti a b c=0
 by_cases hd:ti a b d=0
 
 have hl:=(FO hab hcd hc hd).1.2 hn;unfold low at hl;have split:∀{x1 x2 x3 x4:Int},0<max (min x1 x2) (min x3 x4)-min (max x1 x2) (max x3 x4)->(x1<x3/\x1<x4/\x2<x3/\x2<x4)\/(x3<x1/\x4<x1/\x3<x2/\x4<x2):=by
  intro x1 x2 x3 x4 h; omega
 split at hl
 rcases split hl with⟨h1,h2,h3,h4⟩|⟨h1,h2,h3,h4⟩
 have h1:=dX.2 h1; have h2:=dX.2 h2; have h3:=dX.2 h3; have h4:=dX.2 h4
 by_cases hm:(a.2:Rat)<=(b.2:Rat)
 refine oc 0 (-1) (b.2:Rat) ?_ ?_ ?_ ?_<;>(unfold af ca; grind)
 refine oc 0 (-1) (a.2:Rat) ?_ ?_ ?_ ?_<;>(unfold af ca; grind)
 have h1:=dX.2 h1; have h2:=dX.2 h2; have h3:=dX.2 h3; have h4:=dX.2 h4
 by_cases hm:(a.2:Rat)<=(b.2:Rat)
 refine oc 0 1 (-(a.2:Rat)) ?_ ?_ ?_ ?_<;>(unfold af ca; grind)
 refine oc 0 1 (-(b.2:Rat)) ?_ ?_ ?_ ?_<;>(unfold af ca; grind)
 rcases split hl with⟨h1,h2,h3,h4⟩|⟨h1,h2,h3,h4⟩
 have h1:=dX.2 h1; have h2:=dX.2 h2; have h3:=dX.2 h3; have h4:=dX.2 h4
 by_cases hm:(a.1:Rat)<=(b.1:Rat)
 refine oc (-1) 0 (b.1:Rat) ?_ ?_ ?_ ?_<;>(unfold af ca; grind)
 refine oc (-1) 0 (a.1:Rat) ?_ ?_ ?_ ?_<;>(unfold af ca; grind)
 have h1:=dX.2 h1; have h2:=dX.2 h2; have h3:=dX.2 h3; have h4:=dX.2 h4
 by_cases hm:(a.1:Rat)<=(b.1:Rat)
 refine oc 1 0 (-(a.1:Rat)) ?_ ?_ ?_ ?_<;>(unfold af ca; grind)
 refine oc 1 0 (-(b.1:Rat)) ?_ ?_ ?_ ?_<;>(unfold af ca; grind)
 exact bycd (mS hab hc nc hd)
 by_cases hd:ti a b d=0
 have:=mS (c:=d) (d:=c) hab hd nd hc;rw[eh c d,eh c d] at this;exact bycd (by omega)
 by_cases ha:ti c d a=0
 by_cases hb:ti c d b=0
 
 exact byab (by omega)
 have:=mS (a:=c) (b:=d) (c:=a) (d:=b) hcd ha na hb;exact byab this
 by_cases hb:ti c d b=0
 have:=mS (a:=c) (b:=d) (c:=b) (d:=a) hcd hb nb ha;rw[eh a b,eh a b] at this;exact byab (by omega)
 by_cases h1:(0<ti a b c/\0<ti a b d)\/(ti a b c<0/\ti a b d<0)
 exact byab h1
 exact bycd (by omega)
def di(a b c:I2):Int:=(b.1-a.1)*(c.1-b.1)+(b.2-a.2)*(c.2-b.2)
def NM(a b c d:I2):Prop:=(∀x,¬jF a b c d x)/\¬(((0<ti a b c/\ti a b d<0)\/(ti a b c<0/\0<ti a b d))/\((0<ti c d a/\ti c d b<0)\/(ti c d a<0/\0<ti c d b)))
def nx(r:TO I2)(i:Nat):I2:=r.getD (i%r.length) (0,0)
structure VR(r:TO I2):Prop where
 n3:2<r.length
 still:∀i,nx r i≠nx r (i+1)
 spike:∀i,¬(ti (nx r i) (nx r (i+1)) (nx r (i+2))=0/\di (nx r i) (nx r (i+1)) (nx r (i+2))<0)
 meet:∀j i,j+1<i->i<r.length->¬(j=0/\i+1=r.length)->NM (nx r j) (nx r (j+1)) (nx r i) (nx r (i+1))
def Mw{a b:I2}(h:ca a=ca b):a=b:=by
 unfold ca at h;have h1:=Rat.intCast_inj.1 (Rf Prod.fst h);have h2:=Rat.intCast_inj.1 (Rf Prod.snd h);exact Rz h1 h2
def Sep.symm{a b p q:P2}(h:Sep a b p q):Sep p q a b:=by
 obtain⟨α,β,γ,g1,g2,g3,g4⟩:=h;exact⟨-α,-β,-γ,by unfold af at *; grind,by unfold af at *; grind,by unfold af at *; grind,by unfold af at *; grind⟩
def ML{x:Int}:0<=x*x:=by
 rcases Int.le_total 0 x with h|h
 exact R8 h h
 exact R7 h h
def I7{x:Int}(h:x*x=0):x=0:=by
 rcases RS.1 h with h|h<;>exact h
def ES{a b c:I2}(hab:a≠b)(hbc:b≠c)(h0:ti a b c=0)(h:¬di a b c<0):0<di a b c:=by
 refine QI fun hc=>?_;have hd:di a b c=0:=by omega
 have e1:(b.1-a.1)*(c.2-b.2)-(b.2-a.2)*(c.1-b.1)=0:=by rw[<-h0]; unfold ti; grind
 unfold di at hd;generalize hx:b.1-a.1=x at *;generalize hy:b.2-a.2=y at *;generalize hz:c.1-b.1=z at *;generalize hw:c.2-b.2=w at *;have f1:(x*x+y*y)*z=0:=by
  have:(x*x+y*y)*z=x*(x*z+y*w)-y*(x*w-y*z):=by grind
  rw[this,hd,e1]; simp
 have f2:(x*x+y*y)*w=0:=by
  have:(x*x+y*y)*w=y*(x*z+y*w)+x*(x*w-y*z):=by grind
  rw[this,hd,e1]; simp
 have hp:x*x+y*y≠0:=fun e=>by
  have s1:=@ML x;have s2:=@ML y;have g1:=I7 (show x*x=0 by omega)
  have g2:=I7 (show y*y=0 by omega)
  exact hab (Rz (by omega) (by omega))
 refine hbc (Rz ?_ ?_)
 rcases RS.1 f1 with e|e
 exact Q1 e hp
 omega
 rcases RS.1 f2 with e|e
 exact Q1 e hp
 omega
def VR.simple{r:TO I2}(h:VR r):Simple r.length fun i=>ca (nx r i):=by
 have hn:=h.n3;have per:∀i,nx r (i+r.length)=nx r i:=fun i=>by unfold nx; rw[Nat.add_mod_right]
 refine⟨hn,?_,?_,fun i _ e=>h.still i (Mw e),fun i _=>?_,fun i j hi hj h1 h2 h3 h4 h5=>?_⟩
 show ca (nx r r.length)=ca (nx r 0)
 have:=per 0;rw[Ra] at this;rw[this]
 show ca (nx r (r.length+1))=ca (nx r 1)
 rw[Nat.add_comm,per]
 have e:dt (ca (nx r i)) (ca (nx r (i+1))) (ca (nx r (i+2)))=((di (nx r i) (nx r (i+1)) (nx r (i+2)):Int):Rat):=by
  unfold dt ca di;simp only[Rat.intCast_sub,RZ,SJ]
 by_cases h0:ti (nx r i) (nx r (i+1)) (nx r (i+2))=0
 right
 show 0<dt (ca (nx r i)) (ca (nx r (i+1))) (ca (nx r (i+2)))
 rw[e,fa];exact ES (h.still i) (h.still (i+1)) h0 fun hd=>h.spike i ⟨h0,hd⟩
 left
 show tn (ca (nx r i)) (ca (nx r (i+1))) (ca (nx r (i+2)))≠0
 rw[lO];exact fun e=>h0 (by have:=Rat.intCast_inj (a:=ti (nx r i) (nx r (i+1)) (nx r (i+2))) (b:=0); simpa using e)
 by_cases hl:i<j
 have m:=h.meet i j (by omega) hj (by omega)
 exact oR (h.still i) (h.still j) m.1 m.2
 have m:=h.meet j i (by omega) hi (by omega)
 exact(oR (h.still j) (h.still i) m.1 m.2).symm
def wi(a b p:I2):Int:=if a.2<=p.2/\p.2<b.2/\0<ti a b p then 1 else if b.2<=p.2/\p.2<a.2/\ti a b p<0 then -1 else 0
def mA{a b p:I2}(h:(a.2<=p.2/\p.2<b.2)\/(b.2<=p.2/\p.2<a.2))(h0:ti a b p=0):cz a b p:=by
 have sw:∀{a b p:I2},a.2<b.2->a.2<=p.2->p.2<=b.2->ti a b p=0->cz a b p:=by
  intro a b p h1 h2 h3 h0;have h0':ti (a.2,a.1) (b.2,b.1) (p.2,p.1)=0:=by unfold ti at *; grind
  have:=(BK (a:=(a.2,a.1)) (b:=(b.2,b.1)) (p:=(p.2,p.1)) h1).2 ⟨h0',h2,h3⟩;exact⟨h0,this.2.2.2.1,this.2.2.2.2,this.2.1,this.2.2.1⟩
 rcases h with h|h
 exact sw (by omega) (by omega) (by omega) h0
 exact(sw (a:=b) (b:=a) (by omega) (by omega) (by omega) (by rw[eh,h0]; rfl)).swap
def dh(r:TO I2)(p:I2):Int:=bo r.length fun i=>wi (nx r i) (nx r (i+1)) p
def A1(a b p:I2):wi a b p=0\/wi a b p=1\/wi a b p = -1:=by
 unfold wi
 split
 omega
 split<;>omega
def Cp(a b c d:I2):Prop:=((0<ti a b c/\ti a b d<0)\/(ti a b c<0/\0<ti a b d))/\((0<ti c d a/\ti c d b<0)\/(ti c d a<0/\0<ti c d b))
section
variable{a b c d:I2}
noncomputable def nF (a b c d:I2):Int:=open Classical in if ∃x y,jF a b c d x/\jF a b c d y/\x≠y then 3 else if ∃x,jF a b c d x then 1 else if Cp a b c d then 2 else 0
def zL:nF a b c d=0↔NM a b c d:=by
 classical
 unfold nF NM;constructor
 intro h
 by_cases h1:∃x y,jF a b c d x/\jF a b c d y/\x≠y
 rw[QH h1] at h; exact Q1 h (by decide)
 rw[QF h1] at h
 by_cases h2:∃x,jF a b c d x
 rw[QH h2] at h; exact Q1 h (by decide)
 rw[QF h2] at h
 by_cases h3:Cp a b c d
 rw[QH h3] at h; exact Q1 h (by decide)
 exact⟨fun x hx=>h2 ⟨x,hx⟩,h3⟩
 rintro⟨h1,h2⟩;rw[QF (fun⟨x,_,hx,_⟩=>h1 x hx),QF (fun⟨x,hx⟩=>h1 x hx)];exact QF h2
end
def B7(a b p:I2):wi b a p = -wi a b p:=by
 have h:=eh a b p;unfold wi
 by_cases h1:a.2<=p.2/\p.2<b.2/\0<ti a b p
 rw[QH h1,S8,S9]
 by_cases h2:b.2<=p.2/\p.2<a.2/\ti a b p<0
 rw[QF h1,QH h2,S9]; rfl
 rw[QF h1,QF h2,S8,S8]; rfl
def cB(f:I2->I2){r:TO I2}(h:r≠[])(i:Nat):nx (r.map f) i=f (nx r i):=by
 have hl:=List.length_pos_iff.2 h;unfold nx;rw[Q0];have hi:i%r.length<r.length:=Ru _ hl;rw[QN,QN,Rw,QG hi]; rfl
def vS{r:TO I2}:nx r r.length=nx r 0:=by unfold nx; rw[Nat.mod_self,Nat.zero_mod]
section
variable{a b c d:I2}
def mQ{x:I2}:jF a b c d x↔jF c d a b x:=by
 unfold jF;constructor<;>rintro⟨h,g1,g2⟩<;>exact⟨by rcases h with h|h|h|h<;>simp[h],g2,g1⟩
def jH{x:I2}:jF a b c d x↔jF b a c d x:=by
 unfold jF;rw[su (a:=a) (b:=b)];constructor<;>rintro⟨h,g⟩<;>exact⟨by rcases h with h|h|h|h<;>simp[h],g⟩
def HU:Cp a b c d↔Cp c d a b:=by unfold Cp; exact And.comm
def Gs:Cp a b c d↔Cp b a c d:=by
 unfold Cp;rw[eh a b c,eh a b d];constructor<;>rintro⟨h,g⟩<;>constructor<;>omega
def qT:nF c d a b=nF a b c d:=by
 classical
 have h1:(∃x y,jF c d a b x/\jF c d a b y/\x≠y)↔∃x y,jF a b c d x/\jF a b c d y/\x≠y :=
  ⟨fun⟨x,y,p,q,r⟩=>⟨x,y,mQ.1 p,mQ.1 q,r⟩,fun⟨x,y,p,q,r⟩=>⟨x,y,mQ.1 p,mQ.1 q,r⟩⟩
 have h2:(∃x,jF c d a b x)↔∃x,jF a b c d x:=⟨fun⟨x,p⟩=>⟨x,mQ.1 p⟩,fun⟨x,p⟩=>⟨x,mQ.1 p⟩⟩;unfold nF;simp only[h1,h2,HU (a:=c) (b:=d) (c:=a) (d:=b)]
def rD:nF b a c d=nF a b c d:=by
 classical
 have h1:(∃x y,jF b a c d x/\jF b a c d y/\x≠y)↔∃x y,jF a b c d x/\jF a b c d y/\x≠y :=
  ⟨fun⟨x,y,p,q,r⟩=>⟨x,y,jH.1 p,jH.1 q,r⟩,fun⟨x,y,p,q,r⟩=>⟨x,y,jH.1 p,jH.1 q,r⟩⟩
 have h2:(∃x,jF b a c d x)↔∃x,jF a b c d x:=⟨fun⟨x,p⟩=>⟨x,jH.1 p⟩,fun⟨x,p⟩=>⟨x,jH.1 p⟩⟩;unfold nF;simp only[h1,h2,Gs (a:=b) (b:=a) (c:=c) (d:=d)]
end
def kU(r:TO I2):Int:=bo r.length fun i=>(nx r i).1*(nx r (i+1)).2-(nx r i).2*(nx r (i+1)).1
def iS(n:Nat)(f g:Nat->Int):bo n (fun i=>f i+g i)=bo n f+bo n g:=by
 induction n with
 | zero=>rfl
 | succ n ih=>simp only[bo]; rw[ih]; omega
def sU(c:Int)(n:Nat)(f:Nat->Int):bo n (fun i=>c*f i)=c*bo n f:=by
 induction n with
 | zero=>simp[bo]
 | succ n ih=>simp only[bo]; rw[ih,Int.mul_add]
def Dc(n:Nat)(f:Nat->Int):bo (n+1) f=f 0+bo n fun i=>f (i+1):=by
 induction n with
 | zero=>simp[bo]
 | succ n ih=>rw[bo,ih]; simp only[bo]; omega
def GD(n:Nat)(f:Nat->Int):bo n (fun i=>f (n-1-i))=bo n f:=by
 induction n generalizing f with
 | zero=>rfl
 | succ n ih =>
  rw[Dc];simp only[bo];have:bo n (fun i=>f (n+1-1-(i+1)))=bo n f:=by
   rw[<-ih f];exact aX fun i _=>by congr 1; omega
  rw[this,show n+1-1-0=n by omega]; omega
structure Chg(f:I2->I2)(k d:Int):Prop where
 inj:∀{a b},f a=f b->a=b
 ti:∀a b c,ti (f a) (f b) (f c)=k*ti a b c
 di:∀a b c,di (f a) (f b) (f c)=d*di a b c
 kp:k≠0
 dp:0<d
 btw:∀{a b c},cz (f a) (f b) (f c)↔cz a b c
def kJ{k x:Int}(h:0<k):0<k*x↔0<x:=⟨fun g=>Int.pos_of_mul_pos_right g h,fun g=>SG h g⟩
def gy{k x:Int}(h:0<k):k*x<0↔x<0:=by
 have:=kJ (x:=-x) h;rw[Int.mul_neg] at this;omega
section
variable{f:I2->I2}{k d:Int}
def Chg.Iz(h:Chg f k d){a b c d x:I2}:jF (f a) (f b) (f c) (f d) (f x)↔jF a b c d x:=by
 unfold jF;rw[h.btw,h.btw];constructor
 rintro⟨g,e⟩;exact⟨by rcases g with g|g|g|g<;>simp[h.inj g],e⟩
 rintro⟨g,e⟩;exact⟨by rcases g with g|g|g|g<;>simp[g],e⟩
def Chg.QA(h:Chg f k d){a b c d:I2}:Cp (f a) (f b) (f c) (f d)↔Cp a b c d:=by
 unfold Cp;rw[h.ti,h.ti,h.ti,h.ti];rcases Int.lt_or_gt_of_ne h.kp with g|g
 have e:∀x,k*x = -((-k)*x):=fun x=>by rw[Int.neg_mul]; omega
 have p:∀{x},0<k*x↔x<0:=fun{x}=>by rw[e]; have:=gy (k:=-k) (x:=x) (by omega); omega
 have n:∀{x},k*x<0↔0<x:=fun{x}=>by rw[e]; have:=kJ (k:=-k) (x:=x) (by omega); omega
 rw[p,p,p,p,n,n,n,n]; omega
 rw[kJ g,kJ g,kJ g,kJ g,gy g,gy g,gy g,gy g]
def Es{a b c d:I2}:NM a b c d↔(∀x,¬jF a b c d x)/\¬Cp a b c d:=Iff.rfl
def Chg.nm(h:Chg f k d){a b c d:I2}:NM (f a) (f b) (f c) (f d)↔NM a b c d:=by
 rw[Es,Es,h.QA];refine and_congr_left fun _=>⟨fun g x hx=>g (f x) (h.Iz.2 hx),fun g x hx=>?_⟩;have:∃y,x=f y:=by
  rcases hx.1 with e|e|e|e<;>exact⟨_,e⟩
 obtain⟨y,rfl⟩:=this;exact g y (h.Iz.1 hx)
def Chg.vr(h:Chg f k d){r:TO I2}(v:VR r):VR (r.map f):=by
 have hr:r≠[]:=fun e=>by have:=v.n3; rw[e] at this; simp at this
 refine⟨by rw[Q0]; exact v.n3,fun i=>?_,fun i=>?_,fun j i h1 h2 h3=>?_⟩
 rw[cB f hr,cB f hr];exact fun e=>v.still i (h.inj e)
 rw[cB f hr,cB f hr,cB f hr,h.ti,h.di];rintro⟨e1,e2⟩;refine v.spike i ⟨?_,(gy h.dp).1 e2⟩;rcases RS.1 e1 with e|e
 exact Q1 e h.kp
 exact e
 rw[Q0] at h2 h3;rw[cB f hr,cB f hr,cB f hr,cB f hr,h.nm];exact v.meet j i h1 h2 h3
end
def ph(v:I2)(a:I2):I2:=(a.1+v.1,a.2+v.2)
def cj(s:Int)(a:I2):I2:=(a.1*s,a.2*s)
def GS(s:Int)(a b c:I2):ti (cj s a) (cj s b) (cj s c)=s*s*ti a b c:=by unfold ti cj; grind
def oH{s x y:Int}(hs:0<s):x*s<=y*s↔x<=y:=⟨fun h=>Int.le_of_mul_le_mul_right h hs,fun h=>RN h (Int.le_of_lt hs)⟩
def Jt{s:Int}(hs:0<s){a b c:I2}:cz (cj s a) (cj s b) (cj s c)↔cz a b c:=by
 have hss:s*s≠0:=by have:=SG hs hs; omega
 have m1:∀x y z:Int,min (x*s) (y*s)<=z*s↔min x y<=z:=fun x y z=>by
  have h1:=oH (x:=x) (y:=z) hs;have h2:=oH (x:=y) (y:=z) hs;omega
 have m2:∀x y z:Int,z*s<=max (x*s) (y*s)↔z<=max x y:=fun x y z=>by
  have h1:=oH (x:=z) (y:=x) hs;have h2:=oH (x:=z) (y:=y) hs;omega
 unfold cz;rw[GS];unfold cj
 dsimp only
 rw[m1,m2,m1,m2];refine and_congr_left fun _=>⟨fun h=>?_,fun h=>by rw[h,Int.mul_zero]⟩
 rcases RS.1 h with e|e
 exact Q1 e hss
 exact e
def BX{s:Int}(hs:0<s):Chg (cj s) (s*s) (s*s):=by
 have hss:=SG hs hs;refine⟨fun{a b} h=>?_,GS s,fun a b c=>by unfold di cj; grind,by omega,hss,Jt hs⟩
 have h1:=Rf Prod.fst h;have h2:=Rf Prod.snd h;exact Rz (Int.eq_of_mul_eq_mul_right (by omega) h1) (Int.eq_of_mul_eq_mul_right (by omega) h2)
def jD(r:TO I2){i j:Nat}(h:i%r.length=j%r.length):nx r i=nx r j:=by unfold nx; rw[h]
def wy(k:Nat):I2:=[(2,0),(2,1),(1,2),(0,2),(-1,2),(-2,1),(-2,0),(-2,-1),(-1,-2),(0,-2),(1,-2),(2,-1)].getD (k%12) (0,0)
def Qf(m:Int)(a:I2):I2:=(a.1*m,a.2*m)
structure Star(r:TO I2):Prop where
 n3:2<r.length
 dir:∃δ:Nat->Nat,(∀i,δ i < δ (i+1)/\δ (i+1)<=δ i+3)/\(∀i,δ (i+r.length)=δ i+12)/\∀i,∃m:Int,0<m/\nx r i=Qf m (wy (δ i))
section
variable{h:Nat->Int}(hp:∀ i, 1 <= h i)
include hp
end
end Jd
namespace Go.Ab
open Go
end Go.Ab
namespace Go.Ab.W
open Go Go.Ab
section
variable{σ ρ τ:Type}
end
end Go.Ab.W
namespace Go.Ab.B
open Go Go.Ab Go.Ab.W
section
variable{α β σ ρ:Type}
def iz(a b:TN β):br true a b=a:=rfl
def gw(a b:TN β):br false a b=b:=rfl
def aY(a:TN β):gd true a=a:=rfl
def ai(x:α)(f:α->TN β):ob (some x) f=f x:=rfl
def aF{p:Prop}[Decidable p](h:p)(a b:TN β):br (decide p) a b=a:=by rw[QM h]; rfl
def aE{p:Prop}[Decidable p](h:¬p)(a b:TN β):br (decide p) a b=b:=by rw[QO h]; rfl
def Em(c:Bool)(a b:TN β):br c a b=if c then a else b:=by cases c<;>rfl
def p6(c d:Bool):br c (some true) (some d)=some (c||d):=by cases c<;>rfl
def er(c d:Bool):br c (some d) (some false)=some (c&&d):=by cases c<;>rfl
def fL{p:Prop}[Decidable p](h:p)(a:TN β):gd (decide p) a=a:=by rw[QM h]; rfl
def aA{i n:Nat}(h:i<n):ck (i:Int) n=true:=QM ⟨Int.natCast_nonneg i,by simpa using h⟩
def aC{x:Int}(h1 : -9223372036854775808<=x)(h2:x<9223372036854775808):S6 x=x:=wrap_i64 x h1 (by omega)
def aw{i:Nat}(h:i<4611686018427387904):S6 ((i:Int)+1)=((i+1:Nat):Int):=by rw[aC (by omega) (by omega)]; rfl
def fK{body:σ->TN (σ⊕ρ)}{n:Nat}{s s':σ}(h:body s=some (.inl s')):bH body (n+1) s=bH body n s':=by simp only[bH,h]
def fq{body:σ->TN (σ⊕ρ)}{n:Nat}{s:σ}{r:ρ}(h:body s=some (.inr r)):bH body (n+1) s=some r:=by simp only[bH,h]
end
def gD{u v B C:Int}(hB:0<=B)(hu1 : -B<=u)(hu2:u<=B)(hv1 : -C<=v)(hv2:v<=C) : -(B*C)<=u*v/\u*v<=B*C:=by
 have hC:0<=C:=by omega
 have h1:0<=(B-u)*(C-v):=R8 (by omega) (by omega)
 have h2:0<=(B+u)*(C+v):=R8 (by omega) (by omega)
 have h3:0<=(B-u)*(C+v):=R8 (by omega) (by omega)
 have h4:0<=(B+u)*(C-v):=R8 (by omega) (by omega)
 have e1:(B-u)*(C-v)=B*C-B*v-u*C+u*v:=by rw[Int.sub_mul,Int.mul_sub,Int.mul_sub]; omega
 have e2:(B+u)*(C+v)=B*C+B*v+u*C+u*v:=by rw[Int.add_mul,Int.mul_add,Int.mul_add]; omega
 have e3:(B-u)*(C+v)=B*C+B*v-u*C-u*v:=by rw[Int.sub_mul,Int.mul_add,Int.mul_add]; omega
 have e4:(B+u)*(C-v)=B*C-B*v+u*C-u*v:=by rw[Int.add_mul,Int.mul_sub,Int.mul_sub]; omega
 omega
def uv{α:Type}[DecidableEq α]:∀{l m:TO α},l.Nodup->(∀a∈l,a∈m)->l.length<=m.length
 | [],_,_,_=>RF _
 | a::l,m,hn,hs=>by
  obtain⟨n1,n2⟩:=Sb.1 hn;have ha:=hs a Q7;have:=uv (l:=l) (m:=m.erase a) n2 fun b hb=>by
   have hne:b≠a:=fun e=>n1 (e▸hb);exact(List.mem_erase_of_ne hne).2 (hs b (QQ _ hb))
  rw[List.length_erase_of_mem ha] at this;have hp:0<m.length:=List.length_pos_of_mem ha;rw[Rl]; omega
end Go.Ab.B
namespace Jd
def Lt(a b:I2):Prop:=a.1<b.1\/a.1=b.1/\a.2<b.2
instance(a b:I2):Decidable (Lt a b):=by unfold Lt; infer_instance
def Edge(Q:I2->Prop)(a b:I2):Prop:=Lt a b/\∀q,Q q->0<=ti a b q/\(ti a b q=0->¬Lt q a/\¬Lt b q)
inductive Stk(Q:I2->Prop):TO I2->Prop
 | one {a}:(∀q,Q q->¬Lt q a)->Q a->Stk Q [a]
 | more {a b st}:Edge Q a b->Q b->Stk Q (a::st)->Stk Q (b::a::st)
def Good(S:I2->Prop)(x y:I2):Prop:=x≠y/\S y/\∀q,S q->0<ti x y q\/q=x\/q=y\/(ti x y q=0/\0<di x q y)
inductive Way(S:I2->Prop):TO I2->Prop
 | one (a):Way S [a]
 | more {a b l}:Good S a b->Way S (b::l)->Way S (a::b::l)
def Io{u v w:I2}(h1:u.1*w.2=u.2*w.1)(h2:v.1*w.2=v.2*w.1)(g1:0<u.1*w.1+u.2*w.2)(g2:0<v.1*w.1+v.2*w.2):0<u.1*v.1+u.2*v.2:=by
 have e:(u.1*w.1+u.2*w.2)*(v.1*w.1+v.2*w.2)=(u.1*v.1+u.2*v.2)*(w.1*w.1+w.2*w.2):=by grind
 have p:=SG g1 g2;rw[e] at p;have n:0<=w.1*w.1+w.2*w.2:=Int.add_nonneg ML ML;rcases Int.lt_or_eq_of_le n with k|k
 rw[Int.mul_comm] at p; exact Int.pos_of_mul_pos_right p k
 rw[<-k,Int.mul_zero] at p; exact Q1 p (by decide)
structure Hul(S:I2->Prop)(r:TO I2):Prop where
 n3:2<r.length
 good:∀i,Good S (nx r i) (nx r (i+1))
 nodup:∀i j,i<j->j<r.length->nx r i≠nx r j
section
variable{S:I2->Prop}{r:TO I2}
end
end Jd
