/- A part of the proof. -/
import Derived.Test.YthmekkhpddehjaaGreatRl6
import Derived.Lib.Mul64
set_option linter.all false
section
namespace Go.Proofs.YthmekkhpddehjaaGreat
open Go Go.Ab Go.Ab.W
set_option maxRecDepth 10000
set_option maxHeartbeats 4000000
attribute [local irreducible] Tm.at Trie.set Trie.get Sr.get Sr.set Sr.alloc Sr.ww Sr.kill
def Ol:TyI aG.P 69 true 10:=⟨by kernel_rfl,by kernel_rfl,by kernel_rfl⟩
def z70:bK aG.P 70=some (.agg #[.slice none 0 0,.slice none 0 0,.slice none 0 0,.slice none 0 0]):=by kernel_rfl
def Mz:ArT aG.P 69 68 2 5:=⟨by kernel_rfl,by kernel_rfl,by kernel_rfl⟩
def Mm:TyI aG.P 68 true 5:=⟨by kernel_rfl,by kernel_rfl,by kernel_rfl⟩
def K5:∀b o,aM aG.P 68 (ptr b o) 1=some (ptr b (o+1)):=fun _ _=>by kernel_rfl
def EJ:∀b o,aM aG.P 68 (ptr b o) 2=some (ptr b (o+2)):=fun _ _=>by kernel_rfl
def Lz:∀b o,aM aG.P 68 (ptr b o) 0=some (ptr b (o+0)):=fun _ _=>by kernel_rfl
def FT:∀b o,aM aG.P 68 (ptr b o) 3=some (ptr b (o+3)):=fun _ _=>by kernel_rfl
def Oa:BdT aG.P 70 (.agg #[.slice none 0 0,.slice none 0 0,.slice none 0 0,.slice none 0 0]) [(0,1),(1,1),(2,1),(3,1)]:=.mk' (by kernel_rfl) (by kernel_rfl)
def MM:TyI aG.P 70 true 4:=⟨by kernel_rfl,by kernel_rfl,by kernel_rfl⟩
def Hs:ArT aG.P 70 34 4 1:=⟨by kernel_rfl,by kernel_rfl,by kernel_rfl⟩
def sx:bK aG.P 158=some (.agg #[.bool false,.slice none 0 0]):=by kernel_rfl
def Jg:BdT aG.P 158 (.agg #[.bool false,.slice none 0 0]) [(0,1),(1,1)]:=.mk' (by kernel_rfl) (by kernel_rfl)
def cR:TyI aG.P 158 true 2:=⟨by kernel_rfl,by kernel_rfl,by kernel_rfl⟩
def dF:∀b o,aM aG.P 158 (ptr b o) 1=some (ptr b (o+1)):=fun _ _=>by kernel_rfl
def gR:TyI aG.P 102 false 1:=⟨by kernel_rfl,by kernel_rfl,by kernel_rfl⟩
def gj:∀b o,aM aG.P 158 (ptr b o) 0=some (ptr b (o+0)):=fun _ _=>by kernel_rfl
abbrev bG:Rep (Int×Bool×SB Int):=(rP (rF (eI .i64) 1 (jh .i64)) (rP (rF (eB) 1 (Nx)) (rS (eI .i64) 1)))
def C0:aG.P.underlying 155=some (.slice 163):=by kernel_rfl
def jX:SlT aG.P 155 163 3:=SlT.of (by kernel_rfl)
def vB:∀b o,aM aG.P 163 (ptr b o) 0=some (ptr b (o+0)):=fun _ _=>by kernel_rfl
def Bv:∀b o,aM aG.P 163 (ptr b o) 1=some (ptr b (o+1)):=fun _ _=>by kernel_rfl
def zG:bK aG.P 163=some (.agg #[.int .i64 0,.bool false,.slice none 0 0]):=by kernel_rfl
def Fb:BdT aG.P 163 (.agg #[.int .i64 0,.bool false,.slice none 0 0]) [(0,1),(1,2)]:=.mk' (by kernel_rfl) (by kernel_rfl)
def Mj:TyI aG.P 163 true 3:=⟨by kernel_rfl,by kernel_rfl,by kernel_rfl⟩
def Gk(n:Nat)(x1:Nat)(x2:Nat)(x4:Nat)(x3:Int)(x5:Int)(l6:Rs)(a2:Rv)(c1:Nat)(r:Rs)(hF:LX n x1 x2 x4 x3 x5 l6=some r)(m:Sr){H:Rw}(hH:∀b,H b->b<m.next)(h26:Rd m a2 c1 2 l6.length (l6.map (eP (eI .i64) (eI .i64))))(h27:∀b,eL a2=some b->¬H b) :
  aK aG 67 [.agg #[.int .u8 ((x1:Nat):Int),.int .u8 ((x2:Nat):Int),.int .u8 ((x4:Nat):Int),.int .i64 x3,.int .i64 x5],.slice a2 l6.length c1] m (fun v m'=>∃x:Rv×Nat×Nat,v=.slice x.1 x.2.2 x.2.1/\Hp m m' [.rd x.1 x.2.1 2 x.2.2 (r.map (eP (eI .i64) (eI .i64))),.gen (bu H)]):=by
 unfold LX at hF;refine aC (m0:=m) (ps:=[.rd a2 c1 2 l6.length (l6.map (eP (eI .i64) (eI .i64))),.gen (bu H)]) (N:=166) (rs:=[.tmp 4]) rfl Tryz.func67 rfl rfl rfl (Si (l0:=[]) (Hp.dR m hH) kl h26 h27)<|RI<|RH<|RS (bQ rfl) gn rfl fun b0=>?_;refine RG (ai rfl) rfl<|RJ<|RK<|RI<|RH<|RS (fS (es:=([]:Rs).map (eP (eI .i64) (eI .i64))) dX rfl (gD dX z33 rfl rfl) rfl rfl) gn rfl fun b11=>?_;refine RG (aa rfl) rfl<|RG (aa rfl) rfl<|RG (bz (k:=2) kQ rfl rfl (.inl rfl)) rfl<|RG (je rfl rfl (kf _ _)) rfl ?_;obtain⟨h28,hF⟩:=al hF;refine RS (pc (k:=2) (lo:=0) (hi:=mi (l6.length:Int) (50:Int)) dX rfl rfl rfl rfl h28 (.inl ⟨rfl,rfl⟩) (.inr ⟨_,rfl⟩)) gn rfl ?_;rintro⟨a9,c3⟩;obtain⟨h29,hF⟩:=al hF;refine Sg (ae.close (k:=1) rfl)<|RS (gO (k:=1) (k2:=0) (xs:=([]:Rs)) (ys:=((Sk l6 50):Rs)) (yL (jh .i64) (jh .i64)) dX ⟨_,kQ⟩ rfl rfl rfl (.rd _ _ _ _ _) h29) gn rfl fun a1=>?_;refine RG (ai rfl) rfl<|RJ<|RK<|RI<|RH<|RG (aa rfl) rfl<|RG (bz (k:=1) kQ rfl rfl (.inl rfl)) rfl<|RG (ai rfl) rfl<|RJ<|RK<|RI<|RI<|RH<|RG (aa rfl) rfl<|RG (aj rfl rfl (bW _ _ _)) rfl<|RJ<|RK ?_;rcases ah hF with⟨h5,hF⟩|⟨h5,hF⟩
 refine RT rfl h5<|RI<|RH<|RG (aa rfl) rfl<|RG (ai rfl) rfl<|RJ<|RK<|RO<|R0 ?_;cases hF;exact RR (.tmp rfl .nil) fun m' hm=>⟨(a1,((([]:Rs)++(Sk l6 50)).length),((([]:Rs)++(Sk l6 50)).length)),rfl,(ae.trans (ae.freeze (k:=1) rfl) (ae.ab [1,4] rfl rfl)) m' hm⟩
 refine RV rfl h5<|RN<|RK<|RI<|R9 (by kernel_rfl)<|RG (az (r:=ptr b0 1) rfl (K5 _ _)) rfl<|RG (aw (k:=2) LN rfl rfl rfl) rfl<|RG (jS rfl (mR (by rw[u5]; rfl) u3)) rfl<|RG (aa rfl) rfl ?_
 obtain⟨h30,hF⟩:=al hF;obtain⟨y0,h31,hF⟩:=J hF;refine RG (aj rfl rfl ((dc _ _ h30).trans (cI h31))) rfl<|RG (az (r:=ptr b0 2) rfl (EJ _ _)) rfl<|RG (aw (k:=2) LN rfl rfl rfl) rfl<|RG (jS rfl (mR (by rw[u5]; rfl) u3)) rfl<|RG (aa rfl) rfl ?_
 obtain⟨h32,hF⟩:=al hF;obtain⟨y3,h33,hF⟩:=J hF;refine RG (aj rfl rfl ((dc _ _ h32).trans (cI h33))) rfl<|RG (ai rfl) rfl<|RG (ai rfl) rfl<|RJ<|RK<|RI ?_;obtain⟨r0,h34,hF⟩:=J hF;refine RY (G:=(fun(r:Rs×Nat) (g:Rv×Nat)=>match r,g with |(l4,n1),(a3,c0)=>⟨.normal,[(5,.slice a3 n1 c0)],[.rd a3 c0 2 n1 (l4.map (eP (eI .i64) (eI .i64))),.gen (bu H)]⟩) r0) ?_ ?_
 clear hF;revert r0;intro r hF;refine RI<|RH<|RG (az (r:=ptr b0 0) rfl (Lz _ _)) rfl<|RG (aw (k:=2) LN rfl rfl rfl) rfl<|RG (aj rfl rfl (vq _ _ (by decide))) rfl<|RJ<|RK<|RP<|RI<|RH<|RG (aj rfl rfl (iO _ _)) rfl<|RG (ai rfl) rfl<|RJ<|RK ?_
 rcases ah hF with⟨h6,hF⟩|⟨h6,hF⟩
 refine RT rfl h6<|RH<|RG (aa rfl) rfl<|RG (aa rfl) rfl<|RG (az (r:=ptr b0 3) rfl (FT _ _)) rfl<|RG (aw (k:=2) aS rfl rfl rfl) rfl ?_;obtain⟨h0,hF⟩:=al hF;replace h0:=au h0;refine Sf (k:=1) rfl (aW h0) ?_;rintro b7 t3 rfl h55;refine RL (cF dX rfl rfl h0) gn rfl ?_;obtain⟨⟨x15,x16⟩,h35,hF⟩:=J hF;refine R4 (fL (k:=1) (x1:=(x15,x16)) (x2:=(x3,x5)) aS rfl rfl rfl h35 rfl)<|RJ<|R3 ?_;cases hF;exact RM ((some ⟨b7,0,none⟩),(([]:Rs)++(Sk l6 50)).length) rfl (sc rfl sn) (ae.trans (ae.close (k:=1) rfl) (ae.trans (ae.freeze (k:=1) rfl) (ae.ab [1,4] rfl rfl)))
 refine RV rfl h6<|RI<|RH<|RG (aj rfl rfl (iO _ _)) rfl<|RG (ai rfl) rfl<|RJ<|RK ?_;rcases ah hF with⟨h7,hF⟩|⟨h7,hF⟩
 refine RT rfl h7<|RH<|RG (aa rfl) rfl<|RG (aa rfl) rfl<|RG (aa rfl) rfl<|RG (aa rfl) rfl ?_;obtain⟨h1,hF⟩:=al hF;replace h1:=au h1;refine Sf (k:=1) rfl (aW h1) ?_;rintro b8 t4 rfl h56;refine RL (cF dX rfl rfl h1) gn rfl ?_;obtain⟨⟨x17,x18⟩,h36,hF⟩:=J hF;refine RG (ef (k:=1) aS rfl rfl (aL h36) rfl rfl) rfl ?_;obtain⟨h8,hF⟩:=al hF;replace h8:=au h8;refine RL (cF dX rfl rfl h8) gn rfl ?_;obtain⟨⟨x19,x20⟩,h37,hF⟩:=J hF;refine R4 (fL (k:=1) (x1:=(x19,x20)) (x2:=(x17,x18)) aS rfl rfl rfl h37 rfl)<|RJ<|R3 ?_;cases hF;exact RM ((some ⟨b8,0,none⟩),(([]:Rs)++(Sk l6 50)).length) rfl (sc rfl sn) (ae.trans (ae.close (k:=1) rfl) (ae.trans (ae.freeze (k:=1) rfl) (ae.ab [1,4] rfl rfl)))
 refine RV rfl h7<|RI<|RH<|RG (aj rfl rfl (iO _ _)) rfl<|RG (ai rfl) rfl<|RJ<|RK ?_;rcases ah hF with⟨h9,hF⟩|⟨h9,hF⟩
 refine RT rfl h9<|R9 (by kernel_rfl)<|RG (aa rfl) rfl<|RG (aa rfl) rfl<|RG (aa rfl) rfl<|RG (aa rfl) rfl<|RG (aa rfl) rfl<|RG (aa rfl) rfl ?_
 obtain⟨h2,hF⟩:=al hF;replace h2:=au h2;refine Sf (k:=1) rfl (aW h2) ?_;rintro b9 t5 rfl h57;refine RL (cF dX rfl rfl h2) gn rfl ?_;obtain⟨⟨x21,x22⟩,h38,hF⟩:=J hF;refine RG (ef (k:=1) aS rfl rfl (aL h38) rfl rfl) rfl<|RG (aa rfl) rfl<|RG (aa rfl) rfl ?_;obtain⟨h10,hF⟩:=al hF;replace h10:=au h10;refine RL (cF dX rfl rfl h10) gn rfl ?_;obtain⟨⟨x11,x12⟩,h25,hF⟩:=J hF;refine RG (ef (k:=1) aS rfl rfl (aL h25) rfl rfl) rfl ?_;obtain⟨h11,hF⟩:=al hF;replace h11:=au h11;refine RL (cF dX rfl rfl h11) gn rfl<|R4 (fL (k:=1) (x1:=(x11,x12)) (x2:=(x21,x22)) aS rfl rfl rfl h25 rfl) ?_;obtain⟨h12,hF⟩:=al hF;replace h12:=au h12;refine RL (cF dX rfl rfl h12) gn rfl ?_;obtain⟨⟨x23,x24⟩,h39,hF⟩:=J hF;refine R4 (fL (k:=1) (x1:=(x23,x24)) (x2:=(x11,x12)) aS rfl rfl rfl h39 rfl)<|RJ<|R3 ?_;cases hF;exact RM ((some ⟨b9,0,none⟩),(([]:Rs)++(Sk l6 50)).length) rfl (sc rfl sn) (ae.trans (ae.close (k:=1) rfl) (ae.trans (ae.freeze (k:=1) rfl) (ae.ab [1,4] rfl rfl)))
 refine RV rfl h9<|RI<|RH<|RG (aj rfl rfl (iO _ _)) rfl<|RG (ai rfl) rfl<|RJ<|RK ?_;rcases ah hF with⟨h13,hF⟩|⟨h13,hF⟩
 refine RT rfl h13<|RH<|RG (aa rfl) rfl<|RG (aa rfl) rfl ?_;obtain⟨h40,hF⟩:=al hF;refine Sg (ae.freeze (k:=1) rfl)<|RS (pc (k:=1) (lo:=0) (hi:=y0) dX rfl rfl rfl rfl h40 (.inl ⟨rfl,rfl⟩) (.inr ⟨_,rfl⟩)) gn rfl ?_;rintro⟨a5,c2⟩;refine RG (ai rfl) rfl<|RJ<|R3 ?_;cases hF;exact RM (a5,c2) rfl (sc rfl sn) (ae.ab [0,5] rfl rfl)
 refine RV rfl h13<|RI<|RH<|RG (aj rfl rfl (iO _ _)) rfl<|RG (ai rfl) rfl<|RJ<|RK ?_;rcases ah hF with⟨h14,hF⟩|⟨h14,hF⟩
 refine RT rfl h14<|RH<|RG (aa rfl) rfl<|RG (az (r:=ptr b0 3) rfl (FT _ _)) rfl<|RG (aw (k:=2) aS rfl rfl rfl) rfl<|RS (fS (es:=([(x3,x5)]:Rs).map (eP (eI .i64) (eI .i64))) dX rfl (gD dX z33 rfl rfl) rfl rfl) gn rfl fun b12=>?_;obtain⟨h41,hF⟩:=al hF;refine RS (gO (k:=2) (k2:=0) (xs:=((([]:Rs)++(Sk l6 50)):Rs)) (ys:=([(x3,x5)]:Rs)) (yL (jh .i64) (jh .i64)) dX ⟨_,kQ⟩ rfl rfl rfl (.arr _ _ _ _ _) h41) gn rfl fun a6=>?_;refine RG (ai rfl) rfl<|RJ<|R3 ?_;cases hF;exact RM (a6,((([]:Rs)++(Sk l6 50))++[(x3,x5)]).length) rfl (sc rfl sn) (ae.trans (ae.freeze (k:=2) rfl) (ae.ab [2,5] rfl rfl))
 refine RV rfl h14<|RI<|RH<|RG (aj rfl rfl (iO _ _)) rfl<|RG (ai rfl) rfl<|RJ<|RK ?_;rcases ah hF with⟨h15,hF⟩|⟨h15,hF⟩
 refine RT rfl h15<|RI<|Sd (prs:=[(10,13)]) (by kernel_rfl)<|RX (aa rfl) rfl<|RX (aa rfl) rfl ?_
 obtain⟨h3,hF⟩:=al hF;replace h3:=au h3;refine Wn.open (k:=1) rfl (aW h3) ?_;rintro b4 t6 rfl h58;refine Wn.og (cF dX rfl rfl h3) gn rfl ?_;obtain⟨⟨x26,x27⟩,h42,hF⟩:=J hF;refine RX (ef (k:=1) aS rfl rfl (aL h42) rfl rfl) rfl<|RX (aa rfl) rfl<|RX (aa rfl) rfl<|RX (aj rfl rfl (aA _ _ _)) rfl<|RX (aa rfl) rfl ?_;obtain⟨h43,hF⟩:=al hF;obtain⟨y4,h44,hF⟩:=J hF;refine RX (aj rfl rfl ((dc _ _ h43).trans (cI h44))) rfl ?_;obtain⟨h16,hF⟩:=al hF;replace h16:=au h16;refine Wn.og (cF dX rfl rfl h16) gn rfl ?_;obtain⟨⟨x28,x29⟩,h45,hF⟩:=J hF;refine Wn.JH rfl (ef (k:=1) aS rfl rfl (aL h45) rfl rfl) rfl<|Wn.x (cC z33 rfl) gn rfl fun b5=>?_;refine Wn.x (cC z33 rfl) gn rfl fun b6=>?_;refine Wn.LU rfl (bJ (k:=1) aS rfl rfl rfl rfl rfl)<|Wn.o0 (bJ (k:=0) aS rfl rfl rfl rfl rfl)<|Sb (fun m hm=>(eJ.rw rfl rfl rfl (hm.ne (i:=3) (j:=1) rfl rfl rfl rfl (by decide) rfl) eJ.nil))<|RK<|RI<|RH<|RG (az (r:=ptr b5 0) rfl (bj _ _)) rfl<|RG (aw (k:=1) bw rfl rfl rfl) rfl<|RG (aj rfl rfl (iP _ _ (by decide))) rfl<|RG (az (r:=ptr b6 0) rfl (bj _ _)) rfl<|RG (aw (k:=0) bw rfl rfl rfl) rfl<|RG (aj rfl rfl (iP _ _ (by decide))) rfl ?_
 obtain⟨y1,h46,hF⟩:=J hF;refine RG (aj rfl rfl ((aA _ _ _).trans (cI h46))) rfl<|RG (az (r:=ptr b5 1) rfl (bm _ _)) rfl<|RG (aw (k:=1) bw rfl rfl rfl) rfl<|RG (aj rfl rfl (iP _ _ (by decide))) rfl<|RG (az (r:=ptr b6 1) rfl (bm _ _)) rfl<|RG (aw (k:=0) bw rfl rfl rfl) rfl<|RG (aj rfl rfl (iP _ _ (by decide))) rfl ?_
 obtain⟨y2,h47,hF⟩:=J hF;refine RG (aj rfl rfl ((aA _ _ _).trans (cI h47))) rfl<|RG (cY rfl z33 rfl (cV jy rfl rfl rfl)) rfl<|RS (cC z33 rfl) gn rfl fun b10=>?_;refine R4 (bJ (k:=0) aS rfl rfl rfl rfl rfl)<|RJ<|RK<|Sd (prs:=[(5,6),(5,12),(8,12)]) (by kernel_rfl)<|Wn.x (fS (es:=([]:Rs).map (eP (eI .i64) (eI .i64))) dX rfl (gD dX z33 rfl rfl) rfl rfl) gn rfl fun b13=>?_
 refine RX (aa rfl) rfl<|RX (aa rfl) rfl<|RX (aj rfl rfl (aA _ _ _)) rfl ?_;obtain⟨h48,hF⟩:=al hF;refine Wn.eO (ae.close (k:=5) rfl)<|Wn.eO (ae.freeze (k:=5) rfl)<|Wn.x (pc (k:=5) (lo:=0) (hi:=RC (y0+1)) dX rfl rfl rfl rfl h48 (.inl ⟨rfl,rfl⟩) (.inr ⟨_,rfl⟩)) gn rfl ?_;rintro⟨a10,c4⟩;obtain⟨h49,hF⟩:=al hF;refine Wn.eO (ae.close (k:=1) rfl)<|Wn.OI [some b10,eL (some ⟨b4,0,none⟩)] (gO (k:=1) (k2:=0) (xs:=([]:Rs)) (ys:=((((([]:Rs)++(Sk l6 50)).drop RD).take ((RC (y0+1):Int).toNat-RD)):Rs)) (yL (jh .i64) (jh .i64)) dX ⟨_,kQ⟩ rfl rfl rfl (.rd _ _ _ _ _) h49) rfl ⟨⟨1,2,_,_,rfl,rfl,rfl,.inl rfl,rfl,by decide⟩,⟨⟨1,6,_,_,rfl,rfl,rfl,.inl rfl,rfl,by decide⟩,trivial⟩⟩ gn rfl fun a11=>?_
 refine Wn.JH rfl (aw (k:=2) aS rfl rfl rfl) rfl<|Wn.x (fS (es:=([(y1,y2)]:Rs).map (eP (eI .i64) (eI .i64))) dX rfl (gD dX z33 rfl rfl) rfl rfl) gn rfl fun b14=>?_;obtain⟨h50,hF⟩:=al hF;refine Wn.OI [eL (some ⟨b4,0,none⟩)] (gO (k:=2) (k2:=0) (xs:=((([]:Rs)++(((([]:Rs)++(Sk l6 50)).drop RD).take ((RC (y0+1):Int).toNat-RD))):Rs)) (ys:=([(y1,y2)]:Rs)) (yL (jh .i64) (jh .i64)) dX ⟨_,kQ⟩ rfl rfl rfl (.arr _ _ _ _ _) h50) rfl ⟨⟨2,7,_,_,rfl,rfl,rfl,.inl rfl,rfl,by decide⟩,trivial⟩ gn rfl fun a12=>?_
 refine RX (aa rfl) rfl<|RX (aa rfl) rfl<|RX (aj rfl rfl (aA _ _ _)) rfl ?_;obtain⟨h51,hF⟩:=al hF;refine Wn.xr rfl (pc (k:=7) (lo:=RC (y0+1)) (hi:=((([]:Rs)++(Sk l6 50)).length:Int)) dX rfl rfl rfl rfl h51 (.inr ⟨_,rfl⟩) (.inl ⟨rfl,rfl⟩)) gn rfl ?_;rintro⟨a13,c5⟩;obtain⟨h52,hF⟩:=al hF;refine Wn.x (gO (k:=3) (k2:=0) (xs:=(((([]:Rs)++(((([]:Rs)++(Sk l6 50)).drop RD).take ((RC (y0+1):Int).toNat-RD)))++[(y1,y2)]):Rs)) (ys:=((((([]:Rs)++(Sk l6 50)).drop (RC (y0+1):Int).toNat).take ((((([]:Rs)++(Sk l6 50)).length:Int):Int).toNat-(RC (y0+1):Int).toNat)):Rs)) (yL (jh .i64) (jh .i64)) dX ⟨_,kQ⟩ rfl rfl rfl (.rd _ _ _ _ _) h52) gn rfl fun a7=>?_;refine RX (ai rfl) rfl<|Sb (fun m hm=>(eJ.ar rfl rfl rfl (by simp) (eJ.an rfl rfl rfl (by simp) (eJ.an rfl rfl rfl (by simp) eJ.nil))))<|R3 ?_
 cases hF;exact RM (a7,(((([]:Rs)++(((([]:Rs)++(Sk l6 50)).drop RD).take ((RC (y0+1):Int).toNat-RD)))++[(y1,y2)])++(((([]:Rs)++(Sk l6 50)).drop (RC (y0+1):Int).toNat).take ((((([]:Rs)++(Sk l6 50)).length:Int):Int).toNat-(RC (y0+1):Int).toNat))).length) rfl (sc rfl sn) (ae.trans (ae.freeze (k:=3) rfl) (ae.ab [3,11] rfl rfl))
 refine RV rfl h15<|RI<|RH<|RG (aj rfl rfl (iO _ _)) rfl<|RG (ai rfl) rfl<|RJ<|RK ?_;rcases ah hF with⟨h17,hF⟩|⟨h17,hF⟩
 refine RT rfl h17<|RP ?_;obtain⟨l2,h18,hF⟩:=J hF;refine RY (G:=(fun(r:Rs) (g:Rv)=>match r,g with|l2,a0=>⟨(.exit 1),[(5,.slice a0 l2.length l2.length)],[.sl a0 2 l2.length (l2.map (eP (eI .i64) (eI .i64))),.gen (bu H)]⟩) l2) ?_ ?_
 refine R8 (fs':=[(2,ptr b0 0),(5,.slice a1 (([]:Rs)++(Sk l6 50)).length (([]:Rs)++(Sk l6 50)).length)]) (ps':=[.obj b0 (.cells [.int .u8 ((x1:Nat):Int),.int .u8 ((x2:Nat):Int),.int .u8 ((x4:Nat):Int),.int .i64 x3,.int .i64 x5] .own),.sl a1 2 (([]:Rs)++(Sk l6 50)).length ((([]:Rs)++(Sk l6 50)).map (eP (eI .i64) (eI .i64))),.gen (bu H)]) (sc rfl (sc rfl sn)) (ae.ab [2,1,4] rfl rfl) ?_;refine R2 (σ:=Rs) (ρ:=Rs) (γ:=Rv) (δ:=fun _=>Rv) _ (fun(s:Rs) (g:Rv)=>match s,g with|l3,a4=>⟨.normal,[(2,ptr b0 0),(5,.slice a4 l3.length l3.length)],[.obj b0 (.cells [.int .u8 ((x1:Nat):Int),.int .u8 ((x2:Nat):Int),.int .u8 ((x4:Nat):Int),.int .i64 x3,.int .i64 x5] .own),.sl a4 2 l3.length (l3.map (eP (eI .i64) (eI .i64))),.gen (bu H)]⟩) (fun(r:Rs) (g:Rv)=>match r,g with|l2,a0=>⟨(.exit 1),[(5,.slice a0 l2.length l2.length)],[.sl a0 2 l2.length (l2.map (eP (eI .i64) (eI .i64))),.gen (bu H)]⟩) ?_ (fun _ _=>rfl) (fun r d=>by intro e; cases e) _ _ _ h18 a1
 clear hF h18;rintro l3 a4 r hF;unfold xL at hF;refine RI<|RI<|RH<|RG (aa rfl) rfl<|RG (bz (k:=1) kQ rfl rfl (.inl rfl)) rfl<|RG (az (r:=ptr b0 2) rfl (EJ _ _)) rfl<|RG (aw (k:=0) LN rfl rfl rfl) rfl<|RG (aj rfl rfl (vq _ _ (by decide))) rfl<|RG (jS rfl (mR (by rw[u5]; rfl) u3)) rfl<|RG (aj rfl rfl (aA _ _ _)) rfl<|RG (aj rfl rfl (aF _ _ _)) rfl<|RJ<|RK ?_
 rcases ah hF with⟨h19,hF⟩|⟨h19,hF⟩
 refine RT rfl h19<|RN<|RK<|RP<|RH<|RG (aa rfl) rfl<|RG (aa rfl) rfl<|RG (bz (k:=1) kQ rfl rfl (.inl rfl)) rfl<|RG (aj rfl rfl (bE _ _ _)) rfl<|RG (aa rfl) rfl<|RG (bz (k:=1) kQ rfl rfl (.inl rfl)) rfl<|RG (aa rfl) rfl<|RG (bz (k:=1) kQ rfl rfl (.inl rfl)) rfl<|RG (aj rfl rfl (bE _ _ _)) rfl ?_;refine RG (cY rfl z33 rfl (cV jy rfl rfl rfl)) rfl<|RS (fS (es:=([(RC (3*(l3.length:Int)),RC ((l3.length:Int)*(l3.length:Int)))]:Rs).map (eP (eI .i64) (eI .i64))) dX rfl (gD dX z33 rfl rfl) rfl rfl) gn rfl fun b15=>?_;obtain⟨h53,hF⟩:=al hF;refine RS (gO (k:=2) (k2:=0) (xs:=(l3:Rs)) (ys:=([(RC (3*(l3.length:Int)),RC ((l3.length:Int)*(l3.length:Int)))]:Rs)) (yL (jh .i64) (jh .i64)) dX ⟨_,kQ⟩ rfl rfl rfl (.arr _ _ _ _ _) h53) gn rfl fun a8=>?_;refine RG (ai rfl) rfl<|RJ<|R3 ?_;cases hF;exact RM a8 rfl (sc rfl (sc rfl sn)) (ae.ab [1,2,3] rfl rfl)
 refine RV rfl h19<|R1<|R6 ?_;cases hF;exact RM a4 rfl (sc rfl sn) (ae.ab [1,2] rfl rfl)
 rintro a0;refine R7<|R3 ?_;cases hF;exact RM (a0,l2.length) rfl (sc rfl sn) (ae.trans (ae.freeze (k:=0) rfl) (ae.ab [0,1] rfl rfl))
 refine RV rfl h17<|RI<|RH<|RG (aj rfl rfl (iO _ _)) rfl<|RG (ai rfl) rfl<|RJ<|RK ?_;rcases ah hF with⟨h20,hF⟩|⟨h20,hF⟩
 refine RT rfl h20<|R9 (by kernel_rfl)<|RG (aa rfl) rfl<|RG (aa rfl) rfl<|RG (aa rfl) rfl<|RG (aa rfl) rfl<|RG (aa rfl) rfl<|RG (aa rfl) rfl ?_
 obtain⟨h4,hF⟩:=al hF;replace h4:=au h4;refine Sf (k:=1) rfl (aW h4) ?_;rintro b3 t7 rfl h59;refine RL (cF dX rfl rfl h4) gn rfl<|RG (az (r:=ptr b3 (y0.toNat*2+1)) rfl (bm _ _)) rfl ?_;obtain⟨⟨x13,x10⟩,h21,hF⟩:=J hF;refine RG (ef (k:=1) bw rfl rfl (aL h21) rfl rfl) rfl<|RG (aa rfl) rfl<|RG (aa rfl) rfl ?_;obtain⟨h22,hF⟩:=al hF;replace h22:=au h22;refine RL (cF dX rfl rfl h22) gn rfl<|RG (az (r:=ptr b3 (y0.toNat*2+0)) rfl (bj _ _)) rfl<|RG (ef (k:=1) bw rfl rfl (aL h21) rfl rfl) rfl ?_;obtain⟨h23,hF⟩:=al hF;replace h23:=au h23;refine RL (cF dX rfl rfl h23) gn rfl<|RG (az (r:=ptr b3 (y0.toNat*2+0)) rfl (bj _ _)) rfl<|R4 (fL (k:=1) (x1:=(x13,x10)) (x2:=(x10,x10)) bw rfl rfl rfl h21 rfl) ?_;obtain⟨h24,hF⟩:=al hF;replace h24:=au h24;refine RL (cF dX rfl rfl h24) gn rfl<|RG (az (r:=ptr b3 (y0.toNat*2+1)) rfl (bm _ _)) rfl ?_;obtain⟨⟨x14,x25⟩,h54,hF⟩:=J hF;refine R4 (fL (k:=1) (x1:=(x14,x25)) (x2:=(x14,x13)) bw rfl rfl rfl h54 rfl)<|RJ<|R3 ?_;cases hF;exact RM ((some ⟨b3,0,none⟩),(([]:Rs)++(Sk l6 50)).length) rfl (sc rfl sn) (ae.trans (ae.close (k:=1) rfl) (ae.trans (ae.freeze (k:=1) rfl) (ae.ab [1,4] rfl rfl)))
 refine RV rfl h20<|RN<|R3 ?_;cases hF;exact RM (a1,(([]:Rs)++(Sk l6 50)).length) rfl (sc rfl sn) (ae.trans (ae.freeze (k:=1) rfl) (ae.ab [1,4] rfl rfl))
 clear h34;obtain⟨l4,n1⟩:=r0;rintro⟨a3,c0⟩;refine RK<|RI<|RH<|RG (aa rfl) rfl<|RG (ai rfl) rfl<|RJ<|RK<|RO ?_;have hr:=Pf hF;subst r;exact RR (.tmp rfl .nil) fun m' hm=>⟨(a3,c0,n1),rfl,(ae.ab [0,1] rfl rfl) m' hm⟩
def KD(n:Nat)(l1:Rs)(a2:Rv)(c3:Nat)(r:Rs)(hF:Ms n l1=some r)(m:Sr){H:Rw}(hH:∀b,H b->b<m.next)(h4:Rd m a2 c3 2 l1.length (l1.map (eP (eI .i64) (eI .i64))))(h5:∀b,eL a2=some b->¬H b) :
  aK aG 68 [.slice a2 l1.length c3] m (fun v m'=>∃x:Rv×Nat×Nat,v=.slice x.1 x.2.2 x.2.1/\Hp m m' [.rd x.1 x.2.1 2 x.2.2 (r.map (eP (eI .i64) (eI .i64))),.gen (bu H)]):=by
 unfold Ms at hF;refine aC (m0:=m) (ps:=[.rd a2 c3 2 l1.length (l1.map (eP (eI .i64) (eI .i64))),.gen (bu H)]) (N:=8) (rs:=[.tmp 2]) rfl Tryz.func68 rfl rfl rfl (Si (l0:=[]) (Hp.dR m hH) kl h4 h5)<|RI<|RH<|RG (ai rfl) rfl<|RJ<|RK<|RI<|RH<|RG (aa rfl) rfl<|RG (aa rfl) rfl<|RG (bz (k:=0) kQ rfl rfl (.inl rfl)) rfl<|RG (je rfl rfl (kf _ _)) rfl ?_;obtain⟨h6,hF⟩:=al hF;refine RS (pc (k:=0) (lo:=0) (hi:=mi (l1.length:Int) (50:Int)) dX rfl rfl rfl rfl h6 (.inl ⟨rfl,rfl⟩) (.inr ⟨_,rfl⟩)) gn rfl ?_;rintro⟨a7,c8⟩;refine RG (ai rfl) rfl<|RJ<|RK<|RO ?_;cases hF;exact RR (.tmp rfl .nil) fun m' hm=>⟨(a7,c8,((Sk l1 50).length)),rfl,(ae.ab [0,2] rfl rfl) m' hm⟩
def LH(n:Nat)(l1:Rs)(l6:SB (Nat))(x11:Int)(x12:Int)(x13:Nat)(x14:Bool)(x15:Bool)(x16:Nat)(x17:Nat)(x18:Nat)(x19:Int)(x20:Int)(x21:Nat)(x22:Nat)(x23:Nat)(x24:Int)(x25:Int)(a2:Rv)(c3:Nat)(a7:Rv)(c8:Nat)(r:Rs×Rs×Rs×Rs)(hF:LO n l1 l6 x11 x12 x13 x14 x15 x16 x17 x18 x19 x20 x21 x22 x23 x24 x25=some r)(m:Sr){H:Rw}(hH:∀b,H b->b<m.next)(h4:Rd m a2 c3 2 l1.length (l1.map (eP (eI .i64) (eI .i64))))(h5:∀b,eL a2=some b->¬H b)(h9:Rd m a7 c8 1 l6.length (l6.map (eN .u8)))(h10:∀b,eL a7=some b->¬H b) :
  aK aG 32 [.slice a2 l1.length c3,.agg #[.slice a7 l6.length c8,.int .i16 x11,.int .i16 x12,.int .u8 ((x13:Nat):Int),.bool x14,.bool x15],.agg #[.int .u8 ((x16:Nat):Int),.int .u8 ((x17:Nat):Int),.int .u8 ((x18:Nat):Int),.int .i64 x19,.int .i64 x20,.int .u8 ((x21:Nat):Int),.int .u8 ((x22:Nat):Int),.int .u8 ((x23:Nat):Int),.int .i64 x24,.int .i64 x25]] m (fun v m'=>∃x:Rv×Nat×Nat×Rv×Nat×Nat×Rv×Nat×Nat×Rv×Nat×Nat,v=.agg #[.slice x.1 x.2.2.1 x.2.1,.slice x.2.2.2.1 x.2.2.2.2.2.1 x.2.2.2.2.1,.slice x.2.2.2.2.2.2.1 x.2.2.2.2.2.2.2.2.1 x.2.2.2.2.2.2.2.1,.slice x.2.2.2.2.2.2.2.2.2.1 x.2.2.2.2.2.2.2.2.2.2.2 x.2.2.2.2.2.2.2.2.2.2.1]/\Hp m m' [.rd x.1 x.2.1 2 x.2.2.1 (r.1.map (eP (eI .i64) (eI .i64))),.rd x.2.2.2.1 x.2.2.2.2.1 2 x.2.2.2.2.2.1 (r.2.1.map (eP (eI .i64) (eI .i64))),.rd x.2.2.2.2.2.2.1 x.2.2.2.2.2.2.2.1 2 x.2.2.2.2.2.2.2.2.1 (r.2.2.1.map (eP (eI .i64) (eI .i64))),.rd x.2.2.2.2.2.2.2.2.2.1 x.2.2.2.2.2.2.2.2.2.2.1 2 x.2.2.2.2.2.2.2.2.2.2.2 (r.2.2.2.map (eP (eI .i64) (eI .i64))),.gen (bu H)]):=by
 unfold LO at hF;refine aC (m0:=m) (ps:=[.rd a7 c8 1 l6.length (l6.map (eN .u8)),.rd a2 c3 2 l1.length (l1.map (eP (eI .i64) (eI .i64))),.gen (bu H)]) (N:=24) (rs:=[.cell 6 70]) rfl Tryz.func32 rfl rfl rfl (Si (l0:=[.rd a2 c3 2 l1.length (l1.map (eP (eI .i64) (eI .i64)))]) (Si (l0:=[]) (Hp.dR m hH) kl h4 h5) (BY kl) h9 h10)<|RI<|RH<|RS (bQ rfl) gn rfl fun b26=>?_;refine RS (bQ rfl) gn rfl fun b27=>?_;refine RS (cC z70 rfl) gn rfl fun b28=>?_;refine RJ<|RK<|RI<|RH<|RG (aw (k:=2) B4 rfl rfl rfl) rfl ?_;obtain⟨l30,h29,hF⟩:=J hF;refine RS (bM rfl rfl (fun m hm=>KO n l6 x11 x12 x13 x14 x15 a7 c8 _ h29 m (hm.rd (k:=3) rfl (.rd _ _ _ _ _))) fun _=>rfl) gn rfl ?_;rintro⟨a31,n32⟩;refine Wo.len (k:=0) (xs:=l30) rfl ?_;rintro rfl;refine RG (ai rfl) rfl<|RJ<|RK<|RI<|RH<|RG (wP (r:=ptr b27 0) rfl rfl (Ah Mz (i:=0) (by decide))) rfl<|RG (aw (k:=2) Mm rfl rfl rfl) rfl<|RG (aa rfl) rfl ?_
 obtain⟨l34,h33,hF⟩:=J hF;refine Sg (ae.freeze (k:=0) rfl)<|RS (fc (N:=(fun x:Rv×Nat×Nat=>[.rd (x.1) (x.2.1) 2 (x.2.2) (l34.map (eP (eI .i64) (eI .i64)))])) rfl rfl (fun m hm=>Gk n x16 x17 x18 x19 x20 l30 a31 l30.length _ h33 m hm.bt (hm.rd (k:=0) rfl (.rd _ _ _ _ _)) (hm.bZ (k:=0) rfl)) fun _=>rfl) gn rfl ?_;rintro⟨a35,c36,n37⟩;refine Se (k:=0) (xs:=l34) rfl ?_;rintro rfl;refine RG (ai rfl) rfl<|RJ<|RK<|RI<|RH<|RG (aa rfl) rfl<|RG (aa rfl) rfl<|RG (wP (r:=ptr b27 5) rfl rfl (Ah Mz (i:=1) (by decide))) rfl<|RG (aw (k:=3) Mm rfl rfl rfl) rfl<|RG (aa rfl) rfl ?_
 obtain⟨l39,h38,hF⟩:=J hF;refine RS (fc (N:=(fun x:Rv×Nat×Nat=>[.rd (x.1) (x.2.1) 2 (x.2.2) (l39.map (eP (eI .i64) (eI .i64)))])) rfl rfl (fun m hm=>Gk n x21 x22 x23 x24 x25 l34 a35 c36 _ h38 m hm.bt (hm.rd (k:=0) rfl (.rd _ _ _ _ _)) (hm.bZ (k:=0) rfl)) fun _=>rfl) gn rfl ?_;rintro⟨a40,c41,n42⟩;refine Se (k:=0) (xs:=l39) rfl ?_;rintro rfl;refine RG (aa rfl) rfl ?_;obtain⟨l44,h43,hF⟩:=J hF;refine RS (fc (N:=(fun x:Rv×Nat×Nat=>[.rd (x.1) (x.2.1) 2 (x.2.2) (l44.map (eP (eI .i64) (eI .i64)))])) rfl rfl (fun m hm=>KD n l1 a2 c3 _ h43 m hm.bt (hm.rd (k:=7) rfl (.rd _ _ _ _ _)) (hm.bZ (k:=7) rfl)) fun _=>rfl) gn rfl ?_;rintro⟨a45,c46,n47⟩;refine Se (k:=0) (xs:=l44) rfl ?_;rintro rfl;refine RG (cY rfl z70 rfl (cV Oa rfl rfl rfl)) rfl<|R4 (bJ (k:=4) MM rfl rfl rfl rfl rfl)<|RJ<|RK<|RO ?_;cases hF;exact RR (.cell (k:=4) MM rfl rfl rfl .nil) fun m' hm=>⟨(a31,l30.length,l30.length,a35,c36,l34.length,a40,c41,l39.length,a45,c46,l44.length),rfl,(ae.ab [3,2,1,0,9] rfl rfl) m' hm⟩
def FZ(n:Nat)(x1:Int)(x2:Int)  (r:Bool)(hF:LS n x1 x2=some r)(m:Sr)  :
  aK aG 90 [.agg #[.int .i64 x1,.int .i64 x2]] m (Sq m (.bool r)):=by
 unfold LS at hF;refine aC (m0:=m) (ps:=[]) (N:=21) (rs:=[.tmp 2]) rfl Tryz.func90 rfl rfl rfl (RZ m)<|RI<|RH<|RS (bQ rfl) gn rfl fun b3=>?_;refine RG (ai rfl) rfl<|RJ<|RK<|RI<|RH<|RG (az (r:=ptr b3 0) rfl (bj _ _)) rfl<|RG (aw (k:=0) bw rfl rfl rfl) rfl<|RG (aj rfl rfl (aF _ _ _)) rfl<|RG (aa rfl) rfl ?_;rcases ah hF with⟨h4,hF⟩|⟨h4,hF⟩
 refine RQ (gg rfl rfl (cq h4)) rfl<|RQ (gg rfl rfl (cq h4)) rfl<|RQ (gg rfl rfl (cq h4)) rfl<|RG (cw rfl h4 rfl) rfl<|RG (aa rfl) rfl<|RQ (gg rfl rfl rfl) rfl<|RQ (gg rfl rfl rfl) rfl<|RQ (gg rfl rfl rfl) rfl<|RG (ir rfl rfl) rfl<|RG (aa rfl) rfl ?_;refine RQ (gg rfl rfl rfl) rfl<|RQ (gg rfl rfl rfl) rfl<|RQ (gg rfl rfl rfl) rfl<|RG (ir rfl rfl) rfl<|RG (ai rfl) rfl<|RJ<|RK<|RO ?_;cases hF;exact RR (.tmp rfl .nil) fun m' hm=>⟨(),rfl,(ae.ab [] rfl rfl) m' hm⟩
 refine RL (az (r:=ptr b3 0) rfl (bj _ _)) (gg rfl rfl (cb h4)) rfl<|RL (aw (k:=0) bw rfl rfl rfl) (gg rfl rfl (cb h4)) rfl<|RL (aj rfl rfl (aZ _ _ _)) (gg rfl rfl (cb h4)) rfl<|RG (cp rfl h4 rfl) rfl<|RG (aa rfl) rfl ?_;rcases ah hF with⟨h5,hF⟩|⟨h5,hF⟩
 refine RQ (gg rfl rfl (cq h5)) rfl<|RQ (gg rfl rfl (cq h5)) rfl<|RQ (gg rfl rfl (cq h5)) rfl<|RG (cw rfl h5 rfl) rfl<|RG (aa rfl) rfl<|RQ (gg rfl rfl rfl) rfl<|RQ (gg rfl rfl rfl) rfl<|RQ (gg rfl rfl rfl) rfl<|RG (ir rfl rfl) rfl<|RG (ai rfl) rfl ?_;refine RJ<|RK<|RO ?_;cases hF;exact RR (.tmp rfl .nil) fun m' hm=>⟨(),rfl,(ae.ab [] rfl rfl) m' hm⟩
 refine RL (az (r:=ptr b3 1) rfl (bm _ _)) (gg rfl rfl (cb h5)) rfl<|RL (aw (k:=0) bw rfl rfl rfl) (gg rfl rfl (cb h5)) rfl<|RL (aj rfl rfl (aF _ _ _)) (gg rfl rfl (cb h5)) rfl<|RG (cp rfl h5 rfl) rfl<|RG (aa rfl) rfl ?_;rcases ah hF with⟨h6,hF⟩|⟨h6,hF⟩
 refine RQ (gg rfl rfl (cq h6)) rfl<|RQ (gg rfl rfl (cq h6)) rfl<|RQ (gg rfl rfl (cq h6)) rfl<|RG (cw rfl h6 rfl) rfl<|RG (ai rfl) rfl<|RJ<|RK<|RO ?_;cases hF;exact RR (.tmp rfl .nil) fun m' hm=>⟨(),rfl,(ae.ab [] rfl rfl) m' hm⟩
 refine RL (az (r:=ptr b3 1) rfl (bm _ _)) (gg rfl rfl (cb h6)) rfl<|RL (aw (k:=0) bw rfl rfl rfl) (gg rfl rfl (cb h6)) rfl<|RL (aj rfl rfl (aZ _ _ _)) (gg rfl rfl (cb h6)) rfl<|RG (cp rfl h6 rfl) rfl<|RG (ai rfl) rfl<|RJ<|RK<|RO ?_;cases hF;exact RR (.tmp rfl .nil) fun m' hm=>⟨(),rfl,(ae.ab [] rfl rfl) m' hm⟩
def vp(n:Nat)(x1:Int)  (r:Bool)(hF:zJ n x1=some r)(m:Sr)  :
  aK aG 115 [.int .i64 x1] m (Sq m (.bool r)):=by
 unfold zJ at hF;refine aC (m0:=m) (ps:=[]) (N:=9) (rs:=[.tmp 2]) rfl Tryz.func115 rfl rfl rfl (RZ m)<|RI<|RH<|RG (ai rfl) rfl<|RJ<|RK<|RI<|RH<|RG (aa rfl) rfl<|RG (aj rfl rfl (dD _ _ _)) rfl<|RG (aa rfl) rfl ?_;rcases ah hF with⟨h2,hF⟩|⟨h2,hF⟩
 refine RL (aa rfl) (gg rfl rfl (bY h2)) rfl<|RL (aj rfl rfl (eA _ _ _)) (gg rfl rfl (bY h2)) rfl<|RG (cw rfl h2 rfl) rfl<|RG (ai rfl) rfl<|RJ<|RK<|RO ?_;cases hF;exact RR (.tmp rfl .nil) fun m' hm=>⟨(),rfl,(ae.ab [] rfl rfl) m' hm⟩
 refine RQ (gg rfl rfl (bX h2)) rfl<|RQ (gg rfl rfl (bX h2)) rfl<|RG (cp rfl h2 rfl) rfl<|RG (ai rfl) rfl<|RJ<|RK<|RO ?_;cases hF;exact RR (.tmp rfl .nil) fun m' hm=>⟨(),rfl,(ae.ab [] rfl rfl) m' hm⟩
def pQ(n:Nat)(l1:SB (Int))(a2:Rv)(c3:Nat)(r:SB Int)(hF:pD n l1=some r)(m:Sr){H:Rw}(hH:∀b,H b->b<m.next)(h4:Rd m a2 c3 1 l1.length (l1.map (eI .i64)))(h5:∀b,eL a2=some b->¬H b) :
  aK aG 153 [.slice a2 l1.length c3] m (fun v m'=>∃x:Rv×Nat×Nat,v=.slice x.1 x.2.2 x.2.1/\Hp m m' [.rd x.1 x.2.1 1 x.2.2 (r.map (eI .i64)),.gen (bu H)]):=by
 unfold pD at hF;refine aC (m0:=m) (ps:=[.rd a2 c3 1 l1.length (l1.map (eI .i64)),.gen (bu H)]) (N:=21) (rs:=[.tmp 2]) rfl Tryz.func153 rfl rfl rfl (Si (l0:=[]) (Hp.dR m hH) kl h4 h5)<|RI<|RH<|RG (ai rfl) rfl<|RJ<|RK<|RI<|RH<|RG (aa rfl) rfl<|RG (bz (k:=0) fH rfl rfl (.inl rfl)) rfl<|RG (ai rfl) rfl<|RJ<|RK<|RI<|RP ?_;obtain⟨v41,h74,hF⟩:=J hF;refine RY (G:=(fun(r:Int) (g:SC)=>match r,g with|v41,_=>⟨(.exit 0),[(0,.slice a2 l1.length c3),(3,.int .i64 v41)],[.rd a2 c3 1 l1.length (l1.map (eI .i64)),.gen (bu H)]⟩) v41) ?_ ?_
 refine R8 (fs':=[(0,.slice a2 l1.length c3),(3,.int .i64 (l1.length:Int))]) (ps':=[.rd a2 c3 1 l1.length (l1.map (eI .i64)),.gen (bu H)]) (sc rfl (sc rfl sn)) (ae.ab [0,1] rfl rfl) ?_;refine R2 (σ:=Int) (ρ:=Int) (γ:=SC) (δ:=fun _=>SC) _ (fun(s:Int) (g:SC)=>match s,g with|v7,_=>⟨.normal,[(0,.slice a2 l1.length c3),(3,.int .i64 v7)],[.rd a2 c3 1 l1.length (l1.map (eI .i64)),.gen (bu H)]⟩) (fun(r:Int) (g:SC)=>match r,g with|v41,_=>⟨(.exit 0),[(0,.slice a2 l1.length c3),(3,.int .i64 v41)],[.rd a2 c3 1 l1.length (l1.map (eI .i64)),.gen (bu H)]⟩) ?_ (fun _ _=>rfl) (fun r d=>by intro e; cases e) _ _ _ h74 ()
 clear hF h74;rintro v7 ⟨⟩ r hF;unfold qN at hF;refine RI<|RI ?_;obtain⟨v64,h71,hF⟩:=J hF;refine RY (G:=(fun(r:Bool) (g:SC)=>match r,g with|v64,_=>⟨.normal,[(0,.slice a2 l1.length c3),(3,.int .i64 v7),(15,.bool v64)],[.rd a2 c3 1 l1.length (l1.map (eI .i64)),.gen (bu H)]⟩) v64) ?_ ?_
 clear hF;revert v64;intro r hF;refine RH<|RG (aa rfl) rfl<|RG (aj rfl rfl (aZ _ _ _)) rfl<|RG (aa rfl) rfl ?_;rcases ah hF with⟨h65,hF⟩|⟨h65,hF⟩
 refine RL (aa rfl) (gg rfl rfl (bY h65)) rfl<|RL (aa rfl) (gg rfl rfl (bY h65)) rfl<|RL (aj rfl rfl (aP _ _ _)) (gg rfl rfl (bY h65)) rfl ?_;obtain⟨h66,hF⟩:=al hF;replace h66:=au h66;refine Sa (k:=0) rfl (aW h66) ?_;rintro b67 o68 rfl;refine RL (bp dJ rfl rfl h66) (gg rfl rfl (bY h65)) rfl ?_;obtain⟨x69,h70,hF⟩:=J hF;refine RL (bC (k:=0) bw rfl rfl (aL h70) rfl rfl) (gg rfl rfl (bY h65)) rfl<|RL (aj rfl rfl (bW _ _ _)) (gg rfl rfl (bY h65)) rfl<|RG (cw rfl h65 rfl) rfl<|RJ ?_;cases hF;exact RM () rfl (sc rfl (sc rfl (sc rfl sn))) (ae.ab [1,2] rfl rfl)
 refine RQ (gg rfl rfl (bX h65)) rfl<|RQ (gg rfl rfl (bX h65)) rfl<|RQ (gg rfl rfl (bX h65)) rfl<|RQ (gg rfl rfl (bX h65)) rfl<|RQ (gg rfl rfl (bX h65)) rfl<|RQ (gg rfl rfl (bX h65)) rfl<|RG (cp rfl h65 rfl) rfl<|RJ ?_;cases hF;exact RM () rfl (sc rfl (sc rfl (sc rfl sn))) (ae.ab [0,1] rfl rfl)
 rintro⟨⟩;refine RK ?_;rcases ah hF with⟨h73,hF⟩|⟨h73,hF⟩
 refine RT rfl h73<|RN<|RK<|RP<|RH<|RG (aa rfl) rfl<|RG (aj rfl rfl (aP _ _ _)) rfl<|RG (ai rfl) rfl<|RJ<|R3 ?_;cases hF;exact RM () rfl (sc rfl (sc rfl sn)) (ae.ab [0,1] rfl rfl)
 refine RV rfl h73<|R1<|R6 ?_;cases hF;exact RM () rfl (sc rfl (sc rfl sn)) (ae.ab [0,1] rfl rfl)
 rintro⟨⟩;refine R7<|RK<|RI<|RH<|RG (aa rfl) rfl<|RG (aa rfl) rfl ?_;obtain⟨h76,hF⟩:=al hF;refine RS (pc (k:=0) (lo:=0) (hi:=v41) dJ rfl rfl rfl rfl h76 (.inl ⟨rfl,rfl⟩) (.inr ⟨_,rfl⟩)) gn rfl ?_;rintro⟨a77,c78⟩;refine RG (ai rfl) rfl<|RJ<|RK<|RO ?_;cases hF;exact RR (.tmp rfl .nil) fun m' hm=>⟨(a77,c78,(((l1.drop RD).take ((v41:Int).toNat-RD)).length)),rfl,(ae.ab [0,2] rfl rfl) m' hm⟩
def jL(n:Nat)(x1:Bool)(l2:SB (Int))(a3:Rv)(c4:Nat)(r:Bool×SB Int)(hF:jx n x1 l2=some r)(m:Sr){H:Rw}(hH:∀b,H b->b<m.next)(h5:Rd m a3 c4 1 l2.length (l2.map (eI .i64)))(h6:∀b,eL a3=some b->¬H b) :
  aK aG 140 [.bool x1,.slice a3 l2.length c4] m (fun v m'=>∃x:Rv×Nat×Nat,v=.agg #[.bool r.1,.slice x.1 x.2.2 x.2.1]/\Hp m m' [.rd x.1 x.2.1 1 x.2.2 (r.2.map (eI .i64)),.gen (bu H)]):=by
 unfold jx at hF;refine aC (m0:=m) (ps:=[.rd a3 c4 1 l2.length (l2.map (eI .i64)),.gen (bu H)]) (N:=15) (rs:=[.cell 4 158]) rfl Tryz.func140 rfl rfl rfl (Si (l0:=[]) (Hp.dR m hH) kl h5 h6)<|RI<|RH<|RS (cC sx rfl) gn rfl fun b7=>?_;refine RJ<|RK<|RI<|RH<|RG (aa rfl) rfl ?_;obtain⟨l9,h8,hF⟩:=J hF;refine RS (fc (N:=(fun x:Rv×Nat×Nat=>[.rd (x.1) (x.2.1) 1 (x.2.2) (l9.map (eI .i64))])) rfl rfl (fun m hm=>pQ n l2 a3 c4 _ h8 m hm.bt (hm.rd (k:=1) rfl (.rd _ _ _ _ _)) (hm.bZ (k:=1) rfl)) fun _=>rfl) gn rfl ?_;rintro⟨a10,c11,n12⟩;refine Se (k:=0) (xs:=l9) rfl ?_;rintro rfl;refine RG (ai rfl) rfl<|RJ<|RK<|RI<|RH<|RG (aa rfl) rfl<|RG (aa rfl) rfl ?_;rcases ah hF with⟨h13,hF⟩|⟨h13,hF⟩
 refine RL (aa rfl) (gg rfl rfl (bY h13)) rfl<|RL (bz (k:=0) fH rfl rfl (.inl rfl)) (gg rfl rfl (bY h13)) rfl<|RL (aj rfl rfl (aZ _ _ _)) (gg rfl rfl (bY h13)) rfl<|RG (cw rfl h13 rfl) rfl<|RG (aa rfl) rfl<|RG (cY rfl sx rfl (cV Jg rfl rfl rfl)) rfl<|R4 (bJ (k:=1) cR rfl rfl rfl rfl rfl)<|RJ<|RK<|RO ?_;cases hF;exact RR (.cell (k:=1) cR rfl rfl rfl .nil) fun m' hm=>⟨(a10,c11,l9.length),rfl,(ae.ab [0,3] rfl rfl) m' hm⟩
 refine RQ (gg rfl rfl (bX h13)) rfl<|RQ (gg rfl rfl (bX h13)) rfl<|RQ (gg rfl rfl (bX h13)) rfl<|RG (cp rfl h13 rfl) rfl<|RG (aa rfl) rfl<|RG (cY rfl sx rfl (cV Jg rfl rfl rfl)) rfl<|R4 (bJ (k:=1) cR rfl rfl rfl rfl rfl)<|RJ<|RK<|RO ?_;cases hF;exact RR (.cell (k:=1) cR rfl rfl rfl .nil) fun m' hm=>⟨(a10,c11,l9.length),rfl,(ae.ab [0,3] rfl rfl) m' hm⟩
def nI(n:Nat)(x1:Int)  (r:Bool×SB Int)(hF:rB n x1=some r)(m:Sr){H:Rw}(hH:∀b,H b->b<m.next)  :
  aK aG 119 [.int .i64 x1] m (fun v m'=>∃x:Rv×Nat×Nat,v=.agg #[.bool r.1,.slice x.1 x.2.2 x.2.1]/\Hp m m' [.rd x.1 x.2.1 1 x.2.2 (r.2.map (eI .i64)),.gen (bu H)]):=by
 unfold rB at hF;refine aC (m0:=m) (ps:=[.gen (bu H)]) (N:=21) (rs:=[.cell 2 158]) rfl Tryz.func119 rfl rfl rfl (Hp.dR m hH)<|RI<|RH<|RS (cC sx rfl) gn rfl fun b2=>?_;refine RJ<|RK<|RI<|RH<|RG (aa rfl) rfl<|RG (aj rfl rfl (aF _ _ _)) rfl<|RG (ai rfl) rfl<|RJ<|RK<|RI<|RH<|RG (aa rfl) rfl<|RG (jS rfl (CG (by rw[u3]; rfl) oO rfl)) rfl<|RG (ai rfl) rfl<|RJ<|RK<|RI ?_
 obtain⟨v4,h6,hF⟩:=J hF;refine RY (G:=(fun(r:Nat) (g:SC)=>match r,g with|v4,_=>⟨.normal,[(2,ptr b2 0),(3,.bool (decide (x1<0))),(4,.int .u64 ((v4:Nat):Int))],[.obj b2 (.cells [.bool false,.slice none 0 0] .own),.gen (bu H)]⟩) v4) ?_ ?_
 clear hF;revert v4;intro r hF;refine RI<|RH<|RG (aa rfl) rfl<|RJ<|RK ?_;rcases ah hF with⟨h5,hF⟩|⟨h5,hF⟩
 refine RT rfl h5<|RH<|RG (aa rfl) rfl<|RG (eG rfl (DN rfl _)) rfl<|RG (ai rfl) rfl<|RJ ?_;cases hF;exact RM () rfl (sc rfl (sc rfl (sc rfl sn))) (ae.ab [0,1] rfl rfl)
 refine RV rfl h5<|RN ?_;cases hF;exact RM () rfl (sc rfl (sc rfl (sc rfl sn))) (ae.ab [0,1] rfl rfl)
 rintro⟨⟩;refine RK<|RI<|RH<|RG (aa rfl) rfl<|RG (aa rfl) rfl<|RG (aj rfl rfl (vq _ _ (by decide))) rfl<|RG (jS rfl (mR (by rw[oO]; rfl) u3)) rfl<|RG (aa rfl) rfl<|RG (aj rfl rfl (Dj rfl _ _ (by decide))) rfl<|RG (jS rfl (mR (by rw[oO]; rfl) u3)) rfl<|RS (fS (es:=([RC ((v4%4294967296:Nat):Int),RC ((uw .u64 (v4/4294967296):Nat):Int)]:SB (Int)).map (eI .i64)) dJ rfl (gD dJ z3 rfl rfl) rfl rfl) gn rfl fun b8=>?_
 obtain⟨⟨r10,l11⟩,h9,hF⟩:=J hF;refine Sg (ae.close (k:=0) rfl)<|Sg (ae.freeze (k:=0) rfl)<|RS (fc (N:=(fun x:Rv×Nat×Nat=>[.rd (x.1) (x.2.1) 1 (x.2.2) (l11.map (eI .i64))])) rfl rfl (fun m hm=>jL n (decide (x1<0)) ([RC ((v4%4294967296:Nat):Int),RC ((uw .u64 (v4/4294967296):Nat):Int)]) (some ⟨b8,0,none⟩) 2 _ h9 m hm.bt (hm.rd (k:=0) rfl (.rd _ _ _ _ _)) (hm.bZ (k:=0) rfl)) fun _=>rfl) gn rfl ?_;rintro⟨a12,c13,n14⟩;refine Se (k:=0) (xs:=l11) rfl ?_;rintro rfl;refine R4 (bJ (k:=2) cR rfl rfl rfl rfl rfl)<|RJ<|RK<|RO ?_;cases hF;exact RR (.cell (k:=2) cR rfl rfl rfl .nil) fun m' hm=>⟨(a12,c13,l11.length),rfl,(ae.ab [0,3] rfl rfl) m' hm⟩
def BN(n:Nat)(l1:SB (Int))(l6:SB (Int))(a0:Rv)(c0:Nat)(a1:Rv)(c1:Nat)(r:SB Int)(hF:zp n l1 l6=some r)(m:Sr){H:Rw}(hH:∀b,H b->b<m.next)(h10:Rd m a0 c0 1 l1.length (l1.map (eI .i64)))(h11:∀b,eL a0=some b->¬H b)(h12:Rd m a1 c1 1 l6.length (l6.map (eI .i64)))(h13:∀b,eL a1=some b->¬H b) :
  aK aG 141 [.slice a0 l1.length c0,.slice a1 l6.length c1] m (fun v m'=>∃x:Rv×Nat×Nat,v=.slice x.1 x.2.2 x.2.1/\Hp m m' [.rd x.1 x.2.1 1 x.2.2 (r.map (eI .i64)),.gen (bu H)]):=by
 unfold zp at hF;refine aC (m0:=m) (ps:=[.rd a1 c1 1 l6.length (l6.map (eI .i64)),.rd a0 c0 1 l1.length (l1.map (eI .i64)),.gen (bu H)]) (N:=68) (rs:=[.tmp 4]) rfl Tryz.func141 rfl rfl rfl (Si (l0:=[.rd a0 c0 1 l1.length (l1.map (eI .i64))]) (Si (l0:=[]) (Hp.dR m hH) kl h10 h11) (BY kl) h12 h13)<|RI<|RH<|RG (ai rfl) rfl<|RJ<|RK<|RI<|RH<|RG (aa rfl) rfl<|RG (bz (k:=1) fH rfl rfl (.inl rfl)) rfl<|RG (aa rfl) rfl<|RG (bz (k:=0) fH rfl rfl (.inl rfl)) rfl<|RG (aj rfl rfl (aA _ _ _)) rfl ?_;obtain⟨h14,hF⟩:=al hF;obtain⟨h15,hF⟩:=al hF;refine RS (wC (f:=eI .i64) (z0:=(0:Int)) dJ rfl h14 h15 z3 rfl rfl) gn rfl fun b0=>?_;refine RG (ai rfl) rfl<|RJ<|RK<|RI<|RI<|RH<|RG (ai rfl) rfl<|RJ<|RK<|RP ?_;obtain⟨r0,h4,hF⟩:=J hF;refine RY (G:=(fun(r:SB (Int)×Nat) (g:Rv)=>match r,g with |(l2,n2),a3=>⟨(.exit 0),[(5,.slice a3 n2 n2)],[.sl a3 1 n2 (l2.map (eI .i64)),.gen (bu H)]⟩) r0) ?_ ?_
 refine R8 (fs':=[(0,.slice a0 l1.length c0),(1,.slice a1 l6.length c1),(5,.slice (some ⟨b0,0,none⟩) ((RC ((l1.length:Int)+(l6.length:Int))).toNat) ((RC ((l1.length:Int)+(l6.length:Int))).toNat)),(6,.int .i64 0)]) (ps':=[.rd a0 c0 1 l1.length (l1.map (eI .i64)),.rd a1 c1 1 l6.length (l6.map (eI .i64)),.sl (some ⟨b0,0,none⟩) 1 ((RC ((l1.length:Int)+(l6.length:Int))).toNat) ((List.replicate (RC ((l1.length:Int)+(l6.length:Int))).toNat (0:Int)).map (eI .i64)),.gen (bu H)]) (sc rfl (sc rfl (sc rfl (sc rfl sn)))) (ae.trans (ae.close (k:=0) rfl) (ae.ab [2,1,0,3] rfl rfl)) ?_;refine R2 (σ:=SB (Int)×Nat×Int) (ρ:=SB (Int)×Nat) (γ:=Rv) (δ:=fun _=>Rv) _ (fun(s:SB (Int)×Nat×Int) (g:Rv)=>match s,g with |(l4,n1,v1),a2=>⟨.normal,[(0,.slice a0 l1.length c0),(1,.slice a1 l6.length c1),(5,.slice a2 n1 n1),(6,.int .i64 v1)],[.rd a0 c0 1 l1.length (l1.map (eI .i64)),.rd a1 c1 1 l6.length (l6.map (eI .i64)),.sl a2 1 n1 (l4.map (eI .i64)),.gen (bu H)]⟩) (fun(r:SB (Int)×Nat) (g:Rv)=>match r,g with |(l2,n2),a3=>⟨(.exit 0),[(5,.slice a3 n2 n2)],[.sl a3 1 n2 (l2.map (eI .i64)),.gen (bu H)]⟩) ?_ (fun _ _=>rfl) (fun r d=>by intro e; cases e) _ _ _ h4 (some ⟨b0,0,none⟩)
 clear hF h4;rintro⟨l4,n1,v1⟩ a2 r hF;unfold jQ at hF;refine RI<|RI<|RH<|RG (aa rfl) rfl<|RG (aa rfl) rfl<|RG (bz (k:=0) fH rfl rfl (.inl rfl)) rfl<|RG (aj rfl rfl (aF _ _ _)) rfl<|RJ<|RK ?_;rcases ah hF with⟨h5,hF⟩|⟨h5,hF⟩
 refine RT rfl h5<|RN<|RK<|RI<|RP<|RI<|RH<|RG (ai rfl) rfl<|RJ<|RK<|RI<|RI<|RH<|RG (ai rfl) rfl<|RJ<|RK<|RP ?_;obtain⟨r1,h6,hF⟩:=J hF;refine RY (G:=(fun(r:SB (Int)×Nat) (g:SC)=>match r,g with |(l3,v2),_=>⟨(.exit 2),[(0,.slice a0 l1.length c0),(1,.slice a1 l6.length c1),(5,.slice a2 n1 n1),(6,.int .i64 v1),(7,.int .u64 ((v2:Nat):Int))],[.rd a0 c0 1 l1.length (l1.map (eI .i64)),.rd a1 c1 1 l6.length (l6.map (eI .i64)),.sl a2 1 n1 (l3.map (eI .i64)),.gen (bu H)]⟩) r1) ?_ ?_
 refine R8 (fs':=[(0,.slice a0 l1.length c0),(1,.slice a1 l6.length c1),(5,.slice a2 n1 n1),(6,.int .i64 v1),(7,.int .u64 ((0:Nat):Int)),(8,.int .i64 0)]) (ps':=[.rd a0 c0 1 l1.length (l1.map (eI .i64)),.rd a1 c1 1 l6.length (l6.map (eI .i64)),.sl a2 1 n1 (l4.map (eI .i64)),.gen (bu H)]) (sc rfl (sc rfl (sc rfl (sc rfl (sc rfl (sc rfl sn)))))) (ae.ab [0,1,2,3] rfl rfl) ?_;refine R2 (σ:=SB (Int)×Nat×Int) (ρ:=SB (Int)×Nat) (γ:=SC) (δ:=fun _=>SC) _ (fun(s:SB (Int)×Nat×Int) (g:SC)=>match s,g with |(l8,v3,v4),_=>⟨.normal,[(0,.slice a0 l1.length c0),(1,.slice a1 l6.length c1),(5,.slice a2 n1 n1),(6,.int .i64 v1),(7,.int .u64 ((v3:Nat):Int)),(8,.int .i64 v4)],[.rd a0 c0 1 l1.length (l1.map (eI .i64)),.rd a1 c1 1 l6.length (l6.map (eI .i64)),.sl a2 1 n1 (l8.map (eI .i64)),.gen (bu H)]⟩) (fun(r:SB (Int)×Nat) (g:SC)=>match r,g with |(l3,v2),_=>⟨(.exit 2),[(0,.slice a0 l1.length c0),(1,.slice a1 l6.length c1),(5,.slice a2 n1 n1),(6,.int .i64 v1),(7,.int .u64 ((v2:Nat):Int))],[.rd a0 c0 1 l1.length (l1.map (eI .i64)),.rd a1 c1 1 l6.length (l6.map (eI .i64)),.sl a2 1 n1 (l3.map (eI .i64)),.gen (bu H)]⟩) ?_ (fun _ _=>rfl) (fun r d=>by intro e; cases e) _ _ _ h6 ()
 clear hF h6;rintro⟨l8,v3,v4⟩ ⟨⟩ r hF;unfold oz at hF;refine RI<|RI<|RH<|RG (aa rfl) rfl<|RG (aa rfl) rfl<|RG (bz (k:=1) fH rfl rfl (.inl rfl)) rfl<|RG (aj rfl rfl (aF _ _ _)) rfl<|RJ<|RK ?_;rcases ah hF with⟨h7,hF⟩|⟨h7,hF⟩
 refine RT rfl h7<|RN<|RK<|RI<|RP<|RI<|R9 (by kernel_rfl)<|RG (aa rfl) rfl<|RG (aa rfl) rfl<|RG (aa rfl) rfl<|RG (aa rfl) rfl<|RG (aj rfl rfl (aA _ _ _)) rfl ?_
 obtain⟨h0,hF⟩:=al hF;replace h0:=au h0;refine Sf (k:=2) rfl (aW h0) ?_;rintro b4 t3 rfl h21;refine RL (cF dJ rfl rfl h0) gn rfl ?_;obtain⟨x3,h9,hF⟩:=J hF;refine RG (ef (k:=2) bw rfl rfl (aL h9) rfl rfl) rfl<|RG (jS rfl (CG (by rw[u3]; rfl) oO rfl)) rfl<|RG (aj rfl rfl (jD rfl _ _)) rfl<|RG (aa rfl) rfl<|RG (aa rfl) rfl ?_
 obtain⟨h1,hF⟩:=al hF;replace h1:=au h1;refine Sa (k:=0) rfl (aW h1) ?_;rintro b5 o1 rfl;refine RL (bp dJ rfl rfl h1) gn rfl ?_;obtain⟨x10,h16,hF⟩:=J hF;refine RG (bC (k:=0) bw rfl rfl (aL h16) rfl rfl) rfl<|RG (jS rfl (CG (by rw[u3]; rfl) oO rfl)) rfl<|RG (aa rfl) rfl<|RG (aa rfl) rfl ?_
 obtain⟨h2,hF⟩:=al hF;replace h2:=au h2;refine Sa (k:=2) rfl (aW h2) ?_;rintro b6 o2 rfl;refine RL (bp dJ rfl rfl h2) gn rfl ?_;obtain⟨x11,h17,hF⟩:=J hF;refine RG (bC (k:=0) bw rfl rfl (aL h17) rfl rfl) rfl<|RG (jS rfl (CG (by rw[u3]; rfl) oO rfl)) rfl<|RG (aj rfl rfl (lM rfl _ _)) rfl ?_
 obtain⟨y0,h18,hF⟩:=J hF;refine RG (aj rfl rfl ((jD rfl _ _).trans (cN h18))) rfl<|RG (ai rfl) rfl<|RJ<|RK<|RI<|RH<|RG (aa rfl) rfl<|RG (aa rfl) rfl<|RG (aa rfl) rfl<|RG (aj rfl rfl (aA _ _ _)) rfl<|RG (aa rfl) rfl<|RG (aj rfl rfl (vq _ _ (by decide))) rfl<|RG (jS rfl (mR (by rw[oO]; rfl) u3)) rfl ?_
 obtain⟨h8,hF⟩:=al hF;replace h8:=au h8;refine RL (cF dJ rfl rfl h8) gn rfl<|R4 (fL (k:=4) (x1:=x3) (x2:=RC ((y0%4294967296:Nat):Int)) bw rfl rfl rfl h9 rfl)<|RJ<|RK<|RH<|RG (aa rfl) rfl<|RG (aj rfl rfl (Dj rfl _ _ (by decide))) rfl<|RG (ai rfl) rfl<|RJ<|R3<|RK<|RH<|RG (aa rfl) rfl<|RG (aj rfl rfl (aA _ _ _)) rfl<|RG (ai rfl) rfl<|RJ ?_
 cases hF;exact RM () rfl (sc rfl (sc rfl (sc rfl (sc rfl (sc rfl (sc rfl sn)))))) (ae.trans (ae.close (k:=4) rfl) (ae.ab [2,3,4,5] rfl rfl))
 refine RV rfl h7<|R1<|R6 ?_;cases hF;exact RM () rfl (sc rfl (sc rfl (sc rfl (sc rfl (sc rfl sn))))) (ae.ab [0,1,2,3] rfl rfl)
 clear h6;obtain⟨l3,v2⟩:=r1;rintro⟨⟩;refine R7<|RK<|RH<|RG (aa rfl) rfl<|RG (aa rfl) rfl<|RG (aa rfl) rfl<|RG (bz (k:=1) fH rfl rfl (.inl rfl)) rfl<|RG (aj rfl rfl (aA _ _ _)) rfl<|RG (aa rfl) rfl<|RG (jS rfl (mR (by rw[oO]; rfl) u3)) rfl ?_
 obtain⟨h3,hF⟩:=al hF;replace h3:=au h3;refine Sf (k:=2) rfl (aW h3) ?_;rintro b3 t4 rfl h22;refine RL (cF dJ rfl rfl h3) gn rfl ?_;obtain⟨x4,h19,hF⟩:=J hF;refine R4 (fL (k:=2) (x1:=x4) (x2:=RC ((v2:Nat):Int)) bw rfl rfl rfl h19 rfl)<|RJ<|R3<|RK<|RH<|RG (aa rfl) rfl<|RG (aj rfl rfl (aA _ _ _)) rfl<|RG (ai rfl) rfl<|RJ ?_;cases hF;exact RM (some ⟨b3,0,none⟩) rfl (sc rfl (sc rfl (sc rfl (sc rfl sn)))) (ae.trans (ae.close (k:=2) rfl) (ae.ab [0,1,2,3] rfl rfl))
 refine RV rfl h5<|R1<|R6 ?_;cases hF;exact RM a2 rfl (sc rfl sn) (ae.ab [2,3] rfl rfl)
 clear h4;obtain⟨l2,n2⟩:=r0;rintro a3;refine R7<|RK<|RI<|RH<|RG (aa rfl) rfl ?_;obtain⟨l7,h20,hF⟩:=J hF;refine Sg (ae.freeze (k:=0) rfl) ?_;have hFx:=hF;refine Se (k:=0) (xs:=(l2:SB (Int))) rfl ?_;rintro rfl;replace hF:=hFx;clear hFx;refine RS (fc (N:=(fun x:Rv×Nat×Nat=>[.rd (x.1) (x.2.1) 1 (x.2.2) (l7.map (eI .i64))])) rfl rfl (fun m hm=>pQ n l2 a3 l2.length _ h20 m hm.bt (hm.rd (k:=0) rfl (.rd _ _ _ _ _)) (hm.bZ (k:=0) rfl)) fun _=>rfl) gn rfl ?_;rintro⟨a4,c2,n4⟩;refine Se (k:=0) (xs:=l7) rfl ?_;rintro rfl;refine RG (ai rfl) rfl<|RJ<|RK<|RO ?_;have hr:=Pf hF;subst r;exact RR (.tmp rfl .nil) fun m' hm=>⟨(a4,c2,l7.length),rfl,(ae.ab [0,2] rfl rfl) m' hm⟩
def Bb(n:Nat)(l1:SB (Int))(l5:SB (Int))(a2:Rv)(c3:Nat)(a6:Rv)(c7:Nat)(r:Int)(hF:Cd n l1 l5=some r)(m:Sr)(h4:Rd m a2 c3 1 l1.length (l1.map (eI .i64)))(h8:Rd m a6 c7 1 l5.length (l5.map (eI .i64))) :
  aK aG 154 [.slice a2 l1.length c3,.slice a6 l5.length c7] m (Sq m (.int .i64 r)):=by
 unfold Cd at hF;refine aC (m0:=m) (ps:=[.rd a6 c7 1 l5.length (l5.map (eI .i64)),.rd a2 c3 1 l1.length (l1.map (eI .i64))]) (N:=41) (rs:=[.tmp 4]) rfl Tryz.func154 rfl rfl rfl (Hp.mI (Hp.mI (RZ m) kl h4) (BY kl) h8)<|RI<|RH<|RG (ai rfl) rfl<|RJ<|RK<|RI<|RI<|RH<|RG (aa rfl) rfl<|RG (bz (k:=1) fH rfl rfl (.inl rfl)) rfl<|RG (aa rfl) rfl<|RG (bz (k:=0) fH rfl rfl (.inl rfl)) rfl<|RG (aj rfl rfl (cB _ _)) rfl<|RJ<|RK ?_;rcases ah hF with⟨h9,hF⟩|⟨h9,hF⟩
 refine RT rfl h9<|RI<|RH<|RG (aa rfl) rfl<|RG (bz (k:=1) fH rfl rfl (.inl rfl)) rfl<|RG (aa rfl) rfl<|RG (bz (k:=0) fH rfl rfl (.inl rfl)) rfl<|RG (aj rfl rfl (aP _ _ _)) rfl<|RG (ai rfl) rfl<|RJ<|RK<|RO<|R0 ?_;cases hF;exact RR (.tmp rfl .nil) fun m' hm=>⟨(),rfl,(ae.ab [] rfl rfl) m' hm⟩
 refine RV rfl h9<|RN<|RK<|RI<|RI<|RH<|RG (aa rfl) rfl<|RG (bz (k:=1) fH rfl rfl (.inl rfl)) rfl<|RG (aj rfl rfl (aP _ _ _)) rfl<|RG (ai rfl) rfl<|RJ<|RK<|RP ?_;obtain⟨r43,h42,hF⟩:=J hF;refine RY (G:=(fun(r:Int⊕SC) (g:SC)=>match r,g with|.inl v27,_=>⟨.ret,[(4,.int .i64 v27)],[]⟩|.inr _,_=>⟨(.exit 0),[],[]⟩) r43) ?_ ?_
 refine R8 (fs':=[(0,.slice a2 l1.length c3),(1,.slice a6 l5.length c7),(5,.int .i64 (RC ((l1.length:Int)-1)))]) (ps':=[.rd a2 c3 1 l1.length (l1.map (eI .i64)),.rd a6 c7 1 l5.length (l5.map (eI .i64))]) (sc rfl (sc rfl (sc rfl sn))) (ae.ab [1,0] rfl rfl) ?_;refine R2 (σ:=Int) (ρ:=(Int)⊕SC) (γ:=SC) (δ:=fun _=>SC) _ (fun(s:Int) (g:SC)=>match s,g with|v11,_=>⟨.normal,[(0,.slice a2 l1.length c3),(1,.slice a6 l5.length c7),(5,.int .i64 v11)],[.rd a2 c3 1 l1.length (l1.map (eI .i64)),.rd a6 c7 1 l5.length (l5.map (eI .i64))]⟩) (fun(r:Int⊕SC) (g:SC)=>match r,g with|.inl v27,_=>⟨.ret,[(4,.int .i64 v27)],[]⟩|.inr _,_=>⟨(.exit 0),[],[]⟩) ?_ (fun _ _=>rfl) (fun r d=>by rcases r with _|_<;>(intro e; cases e)) _ _ _ h42 ()
 clear hF h42;rintro v11 ⟨⟩ r hF;unfold jt at hF;refine RI<|RI<|RH<|RG (aa rfl) rfl<|RG (aj rfl rfl (dD _ _ _)) rfl<|RJ<|RK ?_;rcases ah hF with⟨h28,hF⟩|⟨h28,hF⟩
 refine RT rfl h28<|RN<|RK<|RI<|RP<|RI<|R9 (by kernel_rfl)<|RG (aa rfl) rfl<|RG (aa rfl) rfl ?_
 obtain⟨h29,hF⟩:=al hF;replace h29:=au h29;refine Sa (k:=0) rfl (aW h29) ?_;rintro b30 o31 rfl;refine RL (bp dJ rfl rfl h29) gn rfl ?_;obtain⟨x32,h33,hF⟩:=J hF;refine RG (bC (k:=0) bw rfl rfl (aL h33) rfl rfl) rfl<|RG (aa rfl) rfl<|RG (aa rfl) rfl ?_;obtain⟨h34,hF⟩:=al hF;replace h34:=au h34;refine Sa (k:=2) rfl (aW h34) ?_;rintro b35 o36 rfl;refine RL (bp dJ rfl rfl h34) gn rfl ?_;obtain⟨x37,h38,hF⟩:=J hF;refine RG (bC (k:=0) bw rfl rfl (aL h38) rfl rfl) rfl<|RG (aj rfl rfl (cB _ _)) rfl<|RJ<|RK ?_;rcases ah hF with⟨h39,hF⟩|⟨h39,hF⟩
 refine RT rfl h39<|RI<|R9 (by kernel_rfl)<|RG (aa rfl) rfl<|RG (aa rfl) rfl ?_
 obtain⟨h40,hF⟩:=al hF;replace h40:=au h40;refine RL (bp dJ rfl rfl h40) gn rfl<|RG (bC (k:=1) bw rfl rfl (aL h33) rfl rfl) rfl<|RG (aa rfl) rfl<|RG (aa rfl) rfl ?_;obtain⟨h41,hF⟩:=al hF;replace h41:=au h41;refine RL (bp dJ rfl rfl h41) gn rfl<|RG (bC (k:=0) bw rfl rfl (aL h38) rfl rfl) rfl<|RG (aj rfl rfl (aP _ _ _)) rfl<|RG (ai rfl) rfl<|RJ<|RK<|RO<|R5<|R0 ?_;cases hF;exact RM () rfl (sc rfl sn) (ae.ab [] rfl rfl)
 refine RV rfl h39<|RN<|R3<|RK<|RH<|RG (aa rfl) rfl<|RG (aj rfl rfl (aP _ _ _)) rfl<|RG (ai rfl) rfl<|RJ ?_;cases hF;exact RM () rfl (sc rfl (sc rfl (sc rfl sn))) (ae.ab [2,3] rfl rfl)
 refine RV rfl h28<|R1<|R6 ?_;cases hF;exact RM () rfl sn (ae.ab [] rfl rfl)
 rcases r43 with v27|_
 rintro⟨⟩;refine R5<|R0 ?_;have hr:=Pf hF;subst r;exact RR (.tmp rfl .nil) fun m' hm=>⟨(),rfl,(ae.ab [] rfl rfl) m' hm⟩
 rintro⟨⟩;refine R7<|RK<|RI<|RH<|RG (ai rfl) rfl<|RJ<|RK<|RO ?_;cases hF;exact RR (.tmp rfl .nil) fun m' hm=>⟨(),rfl,(ae.ab [] rfl rfl) m' hm⟩
def Hx(n:Nat)(x1:Bool)(l2:SB (Int))(a0:Rv)(c0:Nat)(r:Bool×SB Int)(hF:C7 n x1 l2=some r)(m:Sr){H:Rw}(hH:∀b,H b->b<m.next)(h11:Rd m a0 c0 1 l2.length (l2.map (eI .i64)))(h12:∀b,eL a0=some b->¬H b) :
  aK aG 138 [.agg #[.bool x1,.slice a0 l2.length c0]] m (fun v m'=>∃x:Rv×Nat×Nat,v=.agg #[.bool r.1,.slice x.1 x.2.2 x.2.1]/\Hp m m' [.rd x.1 x.2.1 1 x.2.2 (r.2.map (eI .i64)),.gen (bu H)]):=by
 unfold C7 at hF;refine aC (m0:=m) (ps:=[.rd a0 c0 1 l2.length (l2.map (eI .i64)),.gen (bu H)]) (N:=58) (rs:=[.cell 2 158]) rfl Tryz.func138 rfl rfl rfl (Si (l0:=[]) (Hp.dR m hH) kl h11 h12)<|RI<|RH<|RS (bQ rfl) gn rfl fun b4=>?_;refine RS (cC sx rfl) gn rfl fun b3=>?_;refine RJ<|RK<|RI<|RH<|RG (az (r:=ptr b4 1) rfl (dF _ _)) rfl<|RG (aw (k:=1) gR rfl rfl rfl) rfl<|RG (bz (k:=2) fH rfl rfl (.inl rfl)) rfl<|RG (aj rfl rfl (aA _ _ _)) rfl ?_;obtain⟨y0,h13,hF⟩:=J hF;refine RG (aj rfl rfl ((iP _ _ (by decide)).trans (cI h13))) rfl<|RG (ai rfl) rfl<|RJ<|RK<|RI<|RH<|RG (aa rfl) rfl ?_
 obtain⟨h14,hF⟩:=al hF;obtain⟨h15,hF⟩:=al hF;refine RS (wC (f:=eI .i64) (z0:=(0:Int)) dJ rfl h14 h15 z3 rfl rfl) gn rfl fun b0=>?_;refine RG (ai rfl) rfl<|RJ<|RK<|RI<|RI<|RH<|RG (aa rfl) rfl<|RG (aj rfl rfl (aP _ _ _)) rfl<|RG (ai rfl) rfl<|RJ<|RK<|RP ?_;obtain⟨l3,h1,hF⟩:=J hF;refine RY (G:=(fun(r:SB (Int)) (g:SC)=>match r,g with|l3,_=>⟨(.exit 0),[(2,ptr b3 0),(4,.slice (some ⟨b0,0,none⟩) y0.toNat y0.toNat)],[.obj b3 (.cells [.bool false,.slice none 0 0] .own),.arr b0 1 y0.toNat (l3.map (eI .i64)) .own,.gen (bu H)]⟩) l3) ?_ ?_
 refine R8 (fs':=[(1,ptr b4 0),(2,ptr b3 0),(4,.slice (some ⟨b0,0,none⟩) y0.toNat y0.toNat),(5,.int .i64 (RC (y0-1)))]) (ps':=[.obj b4 (.cells [.bool x1,.slice a0 l2.length c0] .own),.rd a0 c0 1 l2.length (l2.map (eI .i64)),.obj b3 (.cells [.bool false,.slice none 0 0] .own),.arr b0 1 y0.toNat ((List.replicate y0.toNat (0:Int)).map (eI .i64)) .own,.gen (bu H)]) (sc rfl (sc rfl (sc rfl (sc rfl sn)))) (ae.ab [2,3,1,0,4] rfl rfl) ?_;refine R2 (σ:=SB (Int)×Int) (ρ:=SB (Int)) (γ:=SC) (δ:=fun _=>SC) _ (fun(s:SB (Int)×Int) (g:SC)=>match s,g with |(l10,v1),_=>⟨.normal,[(1,ptr b4 0),(2,ptr b3 0),(4,.slice (some ⟨b0,0,none⟩) y0.toNat y0.toNat),(5,.int .i64 v1)],[.obj b4 (.cells [.bool x1,.slice a0 l2.length c0] .own),.rd a0 c0 1 l2.length (l2.map (eI .i64)),.obj b3 (.cells [.bool false,.slice none 0 0] .own),.arr b0 1 y0.toNat (l10.map (eI .i64)) .own,.gen (bu H)]⟩) (fun(r:SB (Int)) (g:SC)=>match r,g with|l3,_=>⟨(.exit 0),[(2,ptr b3 0),(4,.slice (some ⟨b0,0,none⟩) y0.toNat y0.toNat)],[.obj b3 (.cells [.bool false,.slice none 0 0] .own),.arr b0 1 y0.toNat (l3.map (eI .i64)) .own,.gen (bu H)]⟩) ?_ (fun _ _=>rfl) (fun r d=>by intro e; cases e) _ _ _ h1 ()
 clear hF h1;rintro⟨l10,v1⟩ ⟨⟩ r hF;unfold uK at hF;refine RI<|RI<|RH<|RG (aa rfl) rfl<|RG (aj rfl rfl (dD _ _ _)) rfl<|RJ<|RK ?_;rcases ah hF with⟨h2,hF⟩|⟨h2,hF⟩
 refine RT rfl h2<|RN<|RK<|RI<|RP<|RI<|RH<|RG (ai rfl) rfl<|RJ<|RK<|RP ?_;obtain⟨l4,h3,hF⟩:=J hF;refine RY (G:=(fun(r:SB (Int)) (g:SC)=>match r,g with|l4,_=>⟨(.exit 2),[(1,ptr b4 0),(2,ptr b3 0),(4,.slice (some ⟨b0,0,none⟩) y0.toNat y0.toNat),(5,.int .i64 v1)],[.obj b4 (.cells [.bool x1,.slice a0 l2.length c0] .own),.rd a0 c0 1 l2.length (l2.map (eI .i64)),.obj b3 (.cells [.bool false,.slice none 0 0] .own),.arr b0 1 y0.toNat (l4.map (eI .i64)) .own,.gen (bu H)]⟩) l4) ?_ ?_
 refine R8 (fs':=[(1,ptr b4 0),(2,ptr b3 0),(4,.slice (some ⟨b0,0,none⟩) y0.toNat y0.toNat),(5,.int .i64 v1),(6,.int .i64 31)]) (ps':=[.obj b4 (.cells [.bool x1,.slice a0 l2.length c0] .own),.rd a0 c0 1 l2.length (l2.map (eI .i64)),.obj b3 (.cells [.bool false,.slice none 0 0] .own),.arr b0 1 y0.toNat (l10.map (eI .i64)) .own,.gen (bu H)]) (sc rfl (sc rfl (sc rfl (sc rfl (sc rfl sn))))) (ae.ab [0,1,2,3,4] rfl rfl) ?_;refine R2 (σ:=SB (Int)×Int) (ρ:=SB (Int)) (γ:=SC) (δ:=fun _=>SC) _ (fun(s:SB (Int)×Int) (g:SC)=>match s,g with |(l7,v2),_=>⟨.normal,[(1,ptr b4 0),(2,ptr b3 0),(4,.slice (some ⟨b0,0,none⟩) y0.toNat y0.toNat),(5,.int .i64 v1),(6,.int .i64 v2)],[.obj b4 (.cells [.bool x1,.slice a0 l2.length c0] .own),.rd a0 c0 1 l2.length (l2.map (eI .i64)),.obj b3 (.cells [.bool false,.slice none 0 0] .own),.arr b0 1 y0.toNat (l7.map (eI .i64)) .own,.gen (bu H)]⟩) (fun(r:SB (Int)) (g:SC)=>match r,g with|l4,_=>⟨(.exit 2),[(1,ptr b4 0),(2,ptr b3 0),(4,.slice (some ⟨b0,0,none⟩) y0.toNat y0.toNat),(5,.int .i64 v1)],[.obj b4 (.cells [.bool x1,.slice a0 l2.length c0] .own),.rd a0 c0 1 l2.length (l2.map (eI .i64)),.obj b3 (.cells [.bool false,.slice none 0 0] .own),.arr b0 1 y0.toNat (l4.map (eI .i64)) .own,.gen (bu H)]⟩) ?_ (fun _ _=>rfl) (fun r d=>by intro e; cases e) _ _ _ h3 ()
 clear hF h3;rintro⟨l7,v2⟩ ⟨⟩ r hF;unfold qO at hF;refine RI<|RI<|RH<|RG (aa rfl) rfl<|RG (aj rfl rfl (dD _ _ _)) rfl<|RJ<|RK ?_;rcases ah hF with⟨h0,hF⟩|⟨h0,hF⟩
 refine RT rfl h0<|RN<|RK<|RI ?_;obtain⟨l8,h16,hF⟩:=J hF;refine RY (G:=(fun(r:SB (Int)) (g:SC)=>match r,g with|l8,_=>⟨.normal,[(1,ptr b4 0),(2,ptr b3 0),(4,.slice (some ⟨b0,0,none⟩) y0.toNat y0.toNat),(5,.int .i64 v1),(6,.int .i64 v2)],[.obj b4 (.cells [.bool x1,.slice a0 l2.length c0] .own),.rd a0 c0 1 l2.length (l2.map (eI .i64)),.obj b3 (.cells [.bool false,.slice none 0 0] .own),.arr b0 1 y0.toNat (l8.map (eI .i64)) .own,.gen (bu H)]⟩) l8) ?_ ?_
 clear hF;revert l8;intro r hF;refine RP<|RI<|R9 (by kernel_rfl)<|RG (aa rfl) rfl<|RG (aa rfl) rfl<|RG (aa rfl) rfl<|RG (aa rfl) rfl ?_
 obtain⟨h4,hF⟩:=al hF;replace h4:=au h4;refine RL (cF dJ rfl rfl h4) gn rfl ?_;obtain⟨x3,h9,hF⟩:=J hF;refine RG (ef (k:=3) bw rfl rfl (aL h9) rfl rfl) rfl<|RG (aa rfl) rfl<|RG (aj rfl rfl (C8 _ _ h0)) rfl<|RG (aj rfl rfl (aA _ _ _)) rfl ?_;obtain⟨h5,hF⟩:=al hF;replace h5:=au h5;refine RL (cF dJ rfl rfl h5) gn rfl<|R4 (fL (k:=3) (x1:=x3) (x2:=RC (x3+(lf .i64 1 v2.toNat))) bw rfl rfl rfl h9 rfl)<|RJ<|RK<|RI<|RH<|RS (fS (es:=([]:SB (Int)).map (eI .i64)) dJ rfl (gD dJ z3 rfl rfl) rfl rfl) gn rfl fun b5=>?_;refine RG (aa rfl) rfl ?_;obtain⟨h17,hF⟩:=al hF;refine Sg (ae.close (k:=0) rfl)<|RS (gO (k:=0) (k2:=4) (xs:=([]:SB (Int))) (ys:=((l7.set v1.toNat (RC (x3+(lf .i64 1 v2.toNat)))):SB (Int))) (jh .i64) dJ ⟨_,fH⟩ rfl rfl rfl (.arr _ _ _ _ _) h17) gn rfl fun a2=>?_;obtain⟨l9,h18,hF⟩:=J hF;refine Sg (ae.freeze (k:=0) rfl)<|RS (fc (N:=(fun x:Rv×Nat×Nat=>[.rd (x.1) (x.2.1) 1 (x.2.2) (l9.map (eI .i64))])) rfl rfl (fun m hm=>pQ n (([]:SB (Int))++(l7.set v1.toNat (RC (x3+(lf .i64 1 v2.toNat))))) a2 ((([]:SB (Int))++(l7.set v1.toNat (RC (x3+(lf .i64 1 v2.toNat))))).length) _ h18 m hm.bt (hm.rd (k:=0) rfl (.rd _ _ _ _ _)) (hm.bZ (k:=0) rfl)) fun _=>rfl) gn rfl ?_;rintro⟨a1,c1,n1⟩;refine Se (k:=0) (xs:=l9) rfl ?_;rintro rfl;refine RG (ai rfl) rfl<|RJ<|RK<|RI<|Sd (prs:=[(2,4)]) (by kernel_rfl)<|RX (aa rfl) rfl<|RX (aa rfl) rfl ?_
 obtain⟨l11,h19,hF⟩:=J hF;refine Sc (fm (N:=(fun x:Rv×Nat×Nat=>[.rd (x.1) (x.2.1) 1 (x.2.2) (l11.map (eI .i64))])) rfl rfl (fun m hm=>BN n l9 l9 a1 c1 a1 c1 _ h19 m hm.bt (hm.rd (k:=0) rfl (.rd _ _ _ _ _)) (hm.bZ (k:=0) rfl) (hm.rd (k:=0) rfl (.rd _ _ _ _ _)) (hm.bZ (k:=0) rfl)) fun _=>rfl) gn rfl ?_;rintro⟨a3,c2,n2⟩;refine Sh (k:=0) (xs:=l11) rfl ?_;rintro rfl;refine RX (az (r:=ptr b4 1) rfl (dF _ _)) rfl<|RX (aw (k:=3) gR rfl rfl rfl) rfl ?_;obtain⟨r0,h20,hF⟩:=J hF;refine Sc (eC rfl rfl (fun m hm=>Bb n l11 l2 a3 c2 a0 c0 _ h20 m (hm.rd (k:=0) rfl (.rd _ _ _ _ _)) (hm.rd (k:=4) rfl (.rd _ _ _ _ _))) fun _=>rfl) gn rfl ?_;rintro⟨⟩;refine RX (aj rfl rfl (aZ _ _ _)) rfl<|Sb (fun m hm=>eJ.all rfl)<|RK ?_;rcases ah hF with⟨h6,hF⟩|⟨h6,hF⟩
 refine RT rfl h6<|R9 (by kernel_rfl)<|RG (aa rfl) rfl<|RG (aa rfl) rfl<|RG (aa rfl) rfl<|RG (aa rfl) rfl ?_
 obtain⟨h7,hF⟩:=al hF;replace h7:=au h7;refine RL (cF dJ rfl rfl h7) gn rfl ?_;obtain⟨x4,h10,hF⟩:=J hF;refine RG (ef (k:=6) bw rfl rfl (aL h10) rfl rfl) rfl<|RG (aa rfl) rfl<|RG (aj rfl rfl (C8 _ _ h0)) rfl<|RG (aj rfl rfl (aP _ _ _)) rfl ?_;obtain⟨h8,hF⟩:=al hF;replace h8:=au h8;refine RL (cF dJ rfl rfl h8) gn rfl<|R4 (fL (k:=6) (x1:=x4) (x2:=RC (x4-(lf .i64 1 v2.toNat))) bw rfl rfl rfl h10 rfl)<|RJ<|R3 ?_;cases hF;exact RM () rfl (sc rfl (sc rfl (sc rfl (sc rfl (sc rfl sn))))) (ae.ab [3,4,5,6,7] rfl rfl)
 refine RV rfl h6<|RN<|R3 ?_;cases hF;exact RM () rfl (sc rfl (sc rfl (sc rfl (sc rfl (sc rfl sn))))) (ae.ab [3,4,5,6,7] rfl rfl)
 rintro⟨⟩;refine RK<|RH<|RG (aa rfl) rfl<|RG (aj rfl rfl (aP _ _ _)) rfl<|RG (ai rfl) rfl<|RJ ?_;cases hF;exact RM () rfl (sc rfl (sc rfl (sc rfl (sc rfl (sc rfl sn))))) (ae.ab [0,1,2,3,4] rfl rfl)
 refine RV rfl h0<|R1<|R6 ?_;cases hF;exact RM () rfl (sc rfl (sc rfl (sc rfl (sc rfl sn)))) (ae.ab [0,1,2,3,4] rfl rfl)
 rintro⟨⟩;refine R7<|R3<|RK<|RH<|RG (aa rfl) rfl<|RG (aj rfl rfl (aP _ _ _)) rfl<|RG (ai rfl) rfl<|RJ ?_;cases hF;exact RM () rfl (sc rfl (sc rfl (sc rfl (sc rfl sn)))) (ae.ab [0,1,2,3,4] rfl rfl)
 refine RV rfl h2<|R1<|R6 ?_;cases hF;exact RM () rfl (sc rfl (sc rfl sn)) (ae.ab [2,3,4] rfl rfl)
 rintro⟨⟩;refine R7<|RK<|RI<|RH<|RG (aa rfl) rfl ?_;obtain⟨⟨r1,l12⟩,h21,hF⟩:=J hF;refine Sg (ae.close (k:=1) rfl)<|Sg (ae.freeze (k:=1) rfl) ?_;have hFx:=hF;refine Se (k:=1) (xs:=(l3:SB (Int))) rfl ?_;generalize y0.toNat=nN;rintro rfl;replace hF:=hFx;clear hFx;refine RS (fc (N:=(fun x:Rv×Nat×Nat=>[.rd (x.1) (x.2.1) 1 (x.2.2) (l12.map (eI .i64))])) rfl rfl (fun m hm=>jL n false l3 (some ⟨b0,0,none⟩) l3.length _ h21 m hm.bt (hm.rd (k:=1) rfl (.rd _ _ _ _ _)) (hm.bZ (k:=1) rfl)) fun _=>rfl) gn rfl ?_;rintro⟨a4,c3,n4⟩;refine Se (k:=0) (xs:=l12) rfl ?_;rintro rfl;refine R4 (bJ (k:=1) cR rfl rfl rfl rfl rfl)<|RJ<|RK<|RO ?_;cases hF;exact RR (.cell (k:=1) cR rfl rfl rfl .nil) fun m' hm=>⟨(a4,c3,l12.length),rfl,(ae.ab [0,3] rfl rfl) m' hm⟩
def HW(n:Nat)(x1:Bool)(l2:SB (Int))(a3:Rv)(c4:Nat)(r:Bool×SB Int)(hF:ET n x1 l2=some r)(m:Sr){H:Rw}(hH:∀b,H b->b<m.next)(h5:Rd m a3 c4 1 l2.length (l2.map (eI .i64)))(h6:∀b,eL a3=some b->¬H b) :
  aK aG 160 [.agg #[.bool x1,.slice a3 l2.length c4]] m (fun v m'=>∃x:Rv×Nat×Nat,v=.agg #[.bool r.1,.slice x.1 x.2.2 x.2.1]/\Hp m m' [.rd x.1 x.2.1 1 x.2.2 (r.2.map (eI .i64)),.gen (bu H)]):=by
 unfold ET at hF;refine aC (m0:=m) (ps:=[.rd a3 c4 1 l2.length (l2.map (eI .i64)),.gen (bu H)]) (N:=9) (rs:=[.cell 2 158]) rfl Tryz.func160 rfl rfl rfl (Si (l0:=[]) (Hp.dR m hH) kl h5 h6)<|RI<|RH<|RS (bQ rfl) gn rfl fun b7=>?_;refine RS (cC sx rfl) gn rfl fun b8=>?_;refine RJ<|RK<|RI<|RH<|RG (az (r:=ptr b7 0) rfl (gj _ _)) rfl<|RG (aw (k:=1) rf rfl rfl rfl) rfl<|RG (eG rfl rfl) rfl<|RG (az (r:=ptr b7 1) rfl (dF _ _)) rfl<|RG (aw (k:=1) gR rfl rfl rfl) rfl ?_;obtain⟨⟨r10,l11⟩,h9,hF⟩:=J hF;refine RS (fc (N:=(fun x:Rv×Nat×Nat=>[.rd (x.1) (x.2.1) 1 (x.2.2) (l11.map (eI .i64))])) rfl rfl (fun m hm=>jL n (!x1) l2 a3 c4 _ h9 m hm.bt (hm.rd (k:=2) rfl (.rd _ _ _ _ _)) (hm.bZ (k:=2) rfl)) fun _=>rfl) gn rfl ?_;rintro⟨a12,c13,n14⟩;refine Se (k:=0) (xs:=l11) rfl ?_;rintro rfl;refine R4 (bJ (k:=1) cR rfl rfl rfl rfl rfl)<|RJ<|RK<|RO ?_;cases hF;exact RR (.cell (k:=1) cR rfl rfl rfl .nil) fun m' hm=>⟨(a12,c13,l11.length),rfl,(ae.ab [0,4] rfl rfl) m' hm⟩
def IU(n:Nat)(l1:SB (Int))(l5:SB (Int))(a0:Rv)(c0:Nat)(a1:Rv)(c1:Nat)(r:SB Int)(hF:CZ n l1 l5=some r)(m:Sr)(h8:Rd m a0 c0 1 l1.length (l1.map (eI .i64)))(h9:Rd m a1 c1 1 l5.length (l5.map (eI .i64))) :
  aK aG 155 [.slice a0 l1.length c0,.slice a1 l5.length c1] m (fun v m'=>∃x:Rv×Nat,v=.slice x.1 x.2 x.2/\Hp m m' [.sl x.1 1 x.2 (r.map (eI .i64))]):=by
 unfold CZ at hF;refine aC (m0:=m) (ps:=[.rd a1 c1 1 l5.length (l5.map (eI .i64)),.rd a0 c0 1 l1.length (l1.map (eI .i64))]) (N:=52) (rs:=[.tmp 4]) rfl Tryz.func155 rfl rfl rfl (Hp.mI (Hp.mI (RZ m) kl h8) (BY kl) h9)<|RI<|RH<|RG (ai rfl) rfl<|RJ<|RK<|RI<|RH<|RG (ai rfl) rfl<|RJ<|RK<|RI<|RH<|RG (ai rfl) rfl<|RJ<|RK<|RI<|RI<|RH<|RG (ai rfl) rfl<|RJ<|RK<|RP ?_;obtain⟨l3,h4,hF⟩:=J hF;refine RY (G:=(fun(r:SB (Int)) (g:Rv)=>match r,g with|l3,a3=>⟨(.exit 0),[(5,.slice a3 l3.length l3.length)],[.sl a3 1 l3.length (l3.map (eI .i64))]⟩) l3) ?_ ?_
 refine R8 (fs':=[(0,.slice a0 l1.length c0),(1,.slice a1 l5.length c1),(5,.slice none ([]:SB (Int)).length ([]:SB (Int)).length),(6,.int .i64 0),(7,.int .i64 0)]) (ps':=[.rd a0 c0 1 l1.length (l1.map (eI .i64)),.rd a1 c1 1 l5.length (l5.map (eI .i64)),.sl none 1 ([]:SB (Int)).length (([]:SB (Int)).map (eI .i64))]) (sc rfl (sc rfl (sc rfl (sc rfl (sc rfl sn))))) (ae.trans (ae.nil 1 rfl) (ae.ab [2,1,0] rfl rfl)) ?_;refine R2 (σ:=SB (Int)×Int×Int) (ρ:=SB (Int)) (γ:=Rv) (δ:=fun _=>Rv) _ (fun(s:SB (Int)×Int×Int) (g:Rv)=>match s,g with |(l2,v5,v2),a2=>⟨.normal,[(0,.slice a0 l1.length c0),(1,.slice a1 l5.length c1),(5,.slice a2 l2.length l2.length),(6,.int .i64 v5),(7,.int .i64 v2)],[.rd a0 c0 1 l1.length (l1.map (eI .i64)),.rd a1 c1 1 l5.length (l5.map (eI .i64)),.sl a2 1 l2.length (l2.map (eI .i64))]⟩) (fun(r:SB (Int)) (g:Rv)=>match r,g with|l3,a3=>⟨(.exit 0),[(5,.slice a3 l3.length l3.length)],[.sl a3 1 l3.length (l3.map (eI .i64))]⟩) ?_ (fun _ _=>rfl) (fun r d=>by intro e; cases e) _ _ _ h4 none
 clear hF h4;rintro⟨l2,v5,v2⟩ a2 r hF;unfold qY at hF;refine RI<|RI ?_;obtain⟨v3,h10,hF⟩:=J hF;refine RY (G:=(fun(r:Bool) (g:SC)=>match r,g with|v3,_=>⟨.normal,[(0,.slice a0 l1.length c0),(1,.slice a1 l5.length c1),(5,.slice a2 l2.length l2.length),(6,.int .i64 v5),(7,.int .i64 v2),(21,.bool v3)],[.rd a0 c0 1 l1.length (l1.map (eI .i64)),.rd a1 c1 1 l5.length (l5.map (eI .i64)),.sl a2 1 l2.length (l2.map (eI .i64))]⟩) v3) ?_ ?_
 clear hF;revert v3;intro r hF;refine RH<|RG (aa rfl) rfl<|RG (aa rfl) rfl<|RG (bz (k:=0) fH rfl rfl (.inl rfl)) rfl<|RG (aj rfl rfl (aF _ _ _)) rfl<|RG (aa rfl) rfl ?_;rcases ah hF with⟨h0,hF⟩|⟨h0,hF⟩
 refine RQ (gg rfl rfl (cq h0)) rfl<|RQ (gg rfl rfl (cq h0)) rfl<|RQ (gg rfl rfl (cq h0)) rfl<|RQ (gg rfl rfl (cq h0)) rfl<|RG (cw rfl h0 rfl) rfl<|RG (aa rfl) rfl<|RQ (gg rfl rfl rfl) rfl<|RQ (gg rfl rfl rfl) rfl<|RG (ir rfl rfl) rfl<|RJ ?_;cases hF;exact RM () rfl (sc rfl (sc rfl (sc rfl (sc rfl (sc rfl (sc rfl sn)))))) (ae.ab [0,1,2] rfl rfl)
 refine RL (aa rfl) (gg rfl rfl (cb h0)) rfl<|RL (aa rfl) (gg rfl rfl (cb h0)) rfl<|RL (bz (k:=1) fH rfl rfl (.inl rfl)) (gg rfl rfl (cb h0)) rfl<|RL (aj rfl rfl (aF _ _ _)) (gg rfl rfl (cb h0)) rfl<|RG (cp rfl h0 rfl) rfl<|RG (aa rfl) rfl ?_;rcases ah hF with⟨h1,hF⟩|⟨h1,hF⟩
 refine RQ (gg rfl rfl (cq h1)) rfl<|RQ (gg rfl rfl (cq h1)) rfl<|RG (cw rfl h1 rfl) rfl<|RJ ?_;cases hF;exact RM () rfl (sc rfl (sc rfl (sc rfl (sc rfl (sc rfl (sc rfl sn)))))) (ae.ab [0,1,2] rfl rfl)
 refine RL (aa rfl) (gg rfl rfl (cb h1)) rfl<|RL (aj rfl rfl (aZ _ _ _)) (gg rfl rfl (cb h1)) rfl<|RG (cp rfl h1 rfl) rfl<|RJ ?_;cases hF;exact RM () rfl (sc rfl (sc rfl (sc rfl (sc rfl (sc rfl (sc rfl sn)))))) (ae.ab [0,1,2] rfl rfl)
 rintro⟨⟩;refine RK ?_;rcases ah hF with⟨h5,hF⟩|⟨h5,hF⟩
 refine RT rfl h5<|RN<|RK<|RI<|RP<|RI ?_;obtain⟨v4,h11,hF⟩:=J hF;refine RY (G:=(fun(r:Int) (g:SC)=>match r,g with|v4,_=>⟨.normal,[(0,.slice a0 l1.length c0),(1,.slice a1 l5.length c1),(5,.slice a2 l2.length l2.length),(6,.int .i64 v4),(7,.int .i64 v2)],[.rd a0 c0 1 l1.length (l1.map (eI .i64)),.rd a1 c1 1 l5.length (l5.map (eI .i64)),.sl a2 1 l2.length (l2.map (eI .i64))]⟩) v4) ?_ ?_
 clear hF;revert v4;intro r hF;refine RI<|RH<|RG (aa rfl) rfl<|RG (aa rfl) rfl<|RG (bz (k:=0) fH rfl rfl (.inl rfl)) rfl<|RG (aj rfl rfl (aF _ _ _)) rfl<|RJ<|RK ?_;rcases ah hF with⟨h6,hF⟩|⟨h6,hF⟩
 refine RT rfl h6<|RH<|RG (aa rfl) rfl<|RG (aa rfl) rfl<|RG (aa rfl) rfl ?_;obtain⟨h2,hF⟩:=al hF;replace h2:=au h2;refine Sa (k:=0) rfl (aW h2) ?_;rintro b0 o1 rfl;refine RL (bp dJ rfl rfl h2) gn rfl ?_;obtain⟨x3,h12,hF⟩:=J hF;refine RG (bC (k:=0) bw rfl rfl (aL h12) rfl rfl) rfl<|RG (aj rfl rfl (aA _ _ _)) rfl<|RG (ai rfl) rfl<|RJ ?_;cases hF;exact RM () rfl (sc rfl (sc rfl (sc rfl (sc rfl (sc rfl sn))))) (ae.ab [1,2,3] rfl rfl)
 refine RV rfl h6<|RN ?_;have hr:=Pf hF;subst r;exact RM () rfl (sc rfl (sc rfl (sc rfl (sc rfl (sc rfl sn))))) (ae.ab [0,1,2] rfl rfl)
 rintro⟨⟩;refine RK<|RI ?_;obtain⟨v1,h13,hF⟩:=J hF;refine RY (G:=(fun(r:Int) (g:SC)=>match r,g with|v1,_=>⟨.normal,[(0,.slice a0 l1.length c0),(1,.slice a1 l5.length c1),(5,.slice a2 l2.length l2.length),(6,.int .i64 v1),(7,.int .i64 v2)],[.rd a0 c0 1 l1.length (l1.map (eI .i64)),.rd a1 c1 1 l5.length (l5.map (eI .i64)),.sl a2 1 l2.length (l2.map (eI .i64))]⟩) v1) ?_ ?_
 clear hF;revert v1;intro r hF;refine RI<|RH<|RG (aa rfl) rfl<|RG (aa rfl) rfl<|RG (bz (k:=1) fH rfl rfl (.inl rfl)) rfl<|RG (aj rfl rfl (aF _ _ _)) rfl<|RJ<|RK ?_;rcases ah hF with⟨h7,hF⟩|⟨h7,hF⟩
 refine RT rfl h7<|RH<|RG (aa rfl) rfl<|RG (aa rfl) rfl<|RG (aa rfl) rfl ?_;obtain⟨h3,hF⟩:=al hF;replace h3:=au h3;refine Sa (k:=1) rfl (aW h3) ?_;rintro b3 o2 rfl;refine RL (bp dJ rfl rfl h3) gn rfl ?_;obtain⟨x4,h14,hF⟩:=J hF;refine RG (bC (k:=0) bw rfl rfl (aL h14) rfl rfl) rfl<|RG (aj rfl rfl (aA _ _ _)) rfl<|RG (ai rfl) rfl<|RJ ?_;cases hF;exact RM () rfl (sc rfl (sc rfl (sc rfl (sc rfl (sc rfl sn))))) (ae.ab [1,2,3] rfl rfl)
 refine RV rfl h7<|RN ?_;have hr:=Pf hF;subst r;exact RM () rfl (sc rfl (sc rfl (sc rfl (sc rfl (sc rfl sn))))) (ae.ab [0,1,2] rfl rfl)
 rintro⟨⟩;refine RK<|RI<|RH<|RG (aa rfl) rfl<|RG (aa rfl) rfl<|RG (aj rfl rfl (dc _ _ (by decide))) rfl<|RS (fS (es:=([Int.tmod v1 4294967296]:SB (Int)).map (eI .i64)) dJ rfl (gD dJ z3 rfl rfl) rfl rfl) gn rfl fun b4=>?_
 obtain⟨h15,hF⟩:=al hF;refine RS (gO (k:=3) (k2:=0) (xs:=(l2:SB (Int))) (ys:=([Int.tmod v1 4294967296]:SB (Int))) (jh .i64) dJ ⟨_,fH⟩ rfl rfl rfl (.arr _ _ _ _ _) h15) gn rfl fun a4=>?_;refine RG (ai rfl) rfl<|RJ<|RK<|RH<|RG (aa rfl) rfl<|RG (aj rfl rfl (iP _ _ (by decide))) rfl<|RG (ai rfl) rfl<|RJ<|R3<|RK<|RH<|RG (aa rfl) rfl<|RG (aj rfl rfl (aA _ _ _)) rfl<|RG (ai rfl) rfl<|RJ ?_
 cases hF;exact RM a4 rfl (sc rfl (sc rfl (sc rfl (sc rfl (sc rfl sn))))) (ae.ab [1,2,3] rfl rfl)
 refine RV rfl h5<|R1<|R6 ?_;cases hF;exact RM a2 rfl (sc rfl sn) (ae.ab [2] rfl rfl)
 rintro a3;refine R7<|RK<|RI<|RH<|RG (aa rfl) rfl<|RG (ai rfl) rfl<|RJ<|RK<|RO ?_;have hr:=Pf hF;subst r;exact RR (.tmp rfl .nil) fun m' hm=>⟨(a3,l3.length),rfl,(ae.ab [0] rfl rfl) m' hm⟩
def AY(n:Nat)(l1:SB (Int))(l6:SB (Int))(a1:Rv)(c0:Nat)(a0:Rv)(c1:Nat)(r:SB Int)(hF:B5 n l1 l6=some r)(m:Sr){H:Rw}(hH:∀b,H b->b<m.next)(h6:Rd m a1 c0 1 l1.length (l1.map (eI .i64)))(h7:∀b,eL a1=some b->¬H b)(h8:Rd m a0 c1 1 l6.length (l6.map (eI .i64)))(h9:∀b,eL a0=some b->¬H b) :
  aK aG 156 [.slice a1 l1.length c0,.slice a0 l6.length c1] m (fun v m'=>∃x:Rv×Nat×Nat,v=.slice x.1 x.2.2 x.2.1/\Hp m m' [.rd x.1 x.2.1 1 x.2.2 (r.map (eI .i64)),.gen (bu H)]):=by
 unfold B5 at hF;refine aC (m0:=m) (ps:=[.rd a0 c1 1 l6.length (l6.map (eI .i64)),.rd a1 c0 1 l1.length (l1.map (eI .i64)),.gen (bu H)]) (N:=41) (rs:=[.tmp 4]) rfl Tryz.func156 rfl rfl rfl (Si (l0:=[.rd a1 c0 1 l1.length (l1.map (eI .i64))]) (Si (l0:=[]) (Hp.dR m hH) kl h6 h7) (BY kl) h8 h9)<|RI<|RH<|RG (ai rfl) rfl<|RJ<|RK<|RI<|RH<|RG (ai rfl) rfl<|RJ<|RK<|RI<|RH<|RG (ai rfl) rfl<|RJ<|RK<|RI<|RI<|RH<|RG (ai rfl) rfl<|RJ<|RK<|RP ?_;obtain⟨l3,h2,hF⟩:=J hF;refine RY (G:=(fun(r:SB (Int)) (g:Rv)=>match r,g with|l3,a3=>⟨(.exit 0),[(5,.slice a3 l3.length l3.length)],[.sl a3 1 l3.length (l3.map (eI .i64)),.gen (bu H)]⟩) l3) ?_ ?_
 refine R8 (fs':=[(0,.slice a1 l1.length c0),(1,.slice a0 l6.length c1),(5,.slice none ([]:SB (Int)).length ([]:SB (Int)).length),(6,.int .i64 0),(7,.int .i64 0)]) (ps':=[.rd a1 c0 1 l1.length (l1.map (eI .i64)),.rd a0 c1 1 l6.length (l6.map (eI .i64)),.sl none 1 ([]:SB (Int)).length (([]:SB (Int)).map (eI .i64)),.gen (bu H)]) (sc rfl (sc rfl (sc rfl (sc rfl (sc rfl sn))))) (ae.trans (ae.nil 1 rfl) (ae.ab [2,1,0,3] rfl rfl)) ?_;refine R2 (σ:=SB (Int)×Int×Int) (ρ:=SB (Int)) (γ:=Rv) (δ:=fun _=>Rv) _ (fun(s:SB (Int)×Int×Int) (g:Rv)=>match s,g with |(l2,v4,v1),a2=>⟨.normal,[(0,.slice a1 l1.length c0),(1,.slice a0 l6.length c1),(5,.slice a2 l2.length l2.length),(6,.int .i64 v4),(7,.int .i64 v1)],[.rd a1 c0 1 l1.length (l1.map (eI .i64)),.rd a0 c1 1 l6.length (l6.map (eI .i64)),.sl a2 1 l2.length (l2.map (eI .i64)),.gen (bu H)]⟩) (fun(r:SB (Int)) (g:Rv)=>match r,g with|l3,a3=>⟨(.exit 0),[(5,.slice a3 l3.length l3.length)],[.sl a3 1 l3.length (l3.map (eI .i64)),.gen (bu H)]⟩) ?_ (fun _ _=>rfl) (fun r d=>by intro e; cases e) _ _ _ h2 none
 clear hF h2;rintro⟨l2,v4,v1⟩ a2 r hF;unfold rV at hF;refine RI<|RI<|RH<|RG (aa rfl) rfl<|RG (aa rfl) rfl<|RG (bz (k:=0) fH rfl rfl (.inl rfl)) rfl<|RG (aj rfl rfl (aF _ _ _)) rfl<|RJ<|RK ?_;rcases ah hF with⟨h3,hF⟩|⟨h3,hF⟩
 refine RT rfl h3<|RN<|RK<|RI<|RP<|RI<|RH<|RG (aa rfl) rfl<|RG (aa rfl) rfl ?_;obtain⟨h0,hF⟩:=al hF;replace h0:=au h0;refine Sa (k:=0) rfl (aW h0) ?_;rintro b0 o1 rfl;refine RL (bp dJ rfl rfl h0) gn rfl ?_;obtain⟨x3,h10,hF⟩:=J hF;refine RG (bC (k:=0) bw rfl rfl (aL h10) rfl rfl) rfl<|RG (aa rfl) rfl<|RG (aj rfl rfl (aP _ _ _)) rfl<|RG (ai rfl) rfl<|RJ<|RK<|RI ?_;obtain⟨v2,h11,hF⟩:=J hF;refine RY (G:=(fun(r:Int) (g:SC)=>match r,g with|v2,_=>⟨.normal,[(0,.slice (some ⟨b0,o1,none⟩) l1.length c0),(1,.slice a0 l6.length c1),(5,.slice a2 l2.length l2.length),(7,.int .i64 v1),(8,.int .i64 v2)],[.ro b0 o1 1 l1.length (l1.map (eI .i64)),.rd (some ⟨b0,o1,none⟩) c0 1 l1.length (l1.map (eI .i64)),.rd a0 c1 1 l6.length (l6.map (eI .i64)),.sl a2 1 l2.length (l2.map (eI .i64)),.gen (bu H)]⟩) v2) ?_ ?_
 clear hF;revert v2;intro r hF;refine RI<|RH<|RG (aa rfl) rfl<|RG (aa rfl) rfl<|RG (bz (k:=2) fH rfl rfl (.inl rfl)) rfl<|RG (aj rfl rfl (aF _ _ _)) rfl<|RJ<|RK ?_;rcases ah hF with⟨h4,hF⟩|⟨h4,hF⟩
 refine RT rfl h4<|RH<|RG (aa rfl) rfl<|RG (aa rfl) rfl<|RG (aa rfl) rfl ?_;obtain⟨h1,hF⟩:=al hF;replace h1:=au h1;refine Sa (k:=2) rfl (aW h1) ?_;rintro b3 o2 rfl;refine RL (bp dJ rfl rfl h1) gn rfl ?_;obtain⟨x4,h12,hF⟩:=J hF;refine RG (bC (k:=0) bw rfl rfl (aL h12) rfl rfl) rfl<|RG (aj rfl rfl (aP _ _ _)) rfl<|RG (ai rfl) rfl<|RJ ?_;cases hF;exact RM () rfl (sc rfl (sc rfl (sc rfl (sc rfl (sc rfl sn))))) (ae.ab [1,2,3,4,5] rfl rfl)
 refine RV rfl h4<|RN ?_;cases hF;exact RM () rfl (sc rfl (sc rfl (sc rfl (sc rfl (sc rfl sn))))) (ae.ab [0,1,2,3,4] rfl rfl)
 rintro⟨⟩;refine RK<|RI<|RH<|RG (ai rfl) rfl<|RJ<|RK<|RI ?_;obtain⟨r0,h13,hF⟩:=J hF;refine RY (G:=(fun(r:Int×Int) (g:SC)=>match r,g with |(v5,v3),_=>⟨.normal,[(0,.slice (some ⟨b0,o1,none⟩) l1.length c0),(1,.slice a0 l6.length c1),(5,.slice a2 l2.length l2.length),(6,.int .i64 v5),(7,.int .i64 v1),(8,.int .i64 v3)],[.ro b0 o1 1 l1.length (l1.map (eI .i64)),.rd (some ⟨b0,o1,none⟩) c0 1 l1.length (l1.map (eI .i64)),.rd a0 c1 1 l6.length (l6.map (eI .i64)),.sl a2 1 l2.length (l2.map (eI .i64)),.gen (bu H)]⟩) r0) ?_ ?_
 clear hF;revert r0;intro r hF;refine RI<|RH<|RG (aa rfl) rfl<|RG (aj rfl rfl (aF _ _ _)) rfl<|RJ<|RK ?_;rcases ah hF with⟨h5,hF⟩|⟨h5,hF⟩
 refine RT rfl h5<|RI<|RH<|RG (aa rfl) rfl<|RG (aj rfl rfl (aA _ _ _)) rfl<|RG (ai rfl) rfl<|RJ<|RK<|RH<|RG (ai rfl) rfl<|RJ ?_;cases hF;exact RM () rfl (sc rfl (sc rfl (sc rfl (sc rfl (sc rfl (sc rfl sn)))))) (ae.ab [0,1,2,3,4] rfl rfl)
 refine RV rfl h5<|RN ?_;cases hF;exact RM () rfl (sc rfl (sc rfl (sc rfl (sc rfl (sc rfl (sc rfl sn)))))) (ae.ab [0,1,2,3,4] rfl rfl)
 clear h13;obtain⟨v5,v3⟩:=r0;rintro⟨⟩;refine RK<|RH<|RG (aa rfl) rfl<|RG (aa rfl) rfl<|RS (fS (es:=([v3]:SB (Int)).map (eI .i64)) dJ rfl (gD dJ z3 rfl rfl) rfl rfl) gn rfl fun b4=>?_;obtain⟨h14,hF⟩:=al hF;refine RS (gO (k:=4) (k2:=0) (xs:=(l2:SB (Int))) (ys:=([v3]:SB (Int))) (jh .i64) dJ ⟨_,fH⟩ rfl rfl rfl (.arr _ _ _ _ _) h14) gn rfl fun a4=>?_;refine RG (ai rfl) rfl<|RJ<|R3<|RK<|RH<|RG (aa rfl) rfl<|RG (aj rfl rfl (aA _ _ _)) rfl<|RG (ai rfl) rfl<|RJ ?_;cases hF;exact RM a4 rfl (sc rfl (sc rfl (sc rfl (sc rfl (sc rfl sn))))) (ae.ab [2,3,4,5] rfl rfl)
 refine RV rfl h3<|R1<|R6 ?_;cases hF;exact RM a2 rfl (sc rfl sn) (ae.ab [2,3] rfl rfl)
 rintro a3;refine R7<|RK<|RI<|RH<|RG (aa rfl) rfl ?_;obtain⟨l4,h15,hF⟩:=J hF;refine Sg (ae.freeze (k:=0) rfl)<|RS (fc (N:=(fun x:Rv×Nat×Nat=>[.rd (x.1) (x.2.1) 1 (x.2.2) (l4.map (eI .i64))])) rfl rfl (fun m hm=>pQ n l3 a3 l3.length _ h15 m hm.bt (hm.rd (k:=0) rfl (.rd _ _ _ _ _)) (hm.bZ (k:=0) rfl)) fun _=>rfl) gn rfl ?_;rintro⟨a5,c2,n1⟩;refine Se (k:=0) (xs:=l4) rfl ?_;rintro rfl;refine RG (ai rfl) rfl<|RJ<|RK<|RO ?_;have hr:=Pf hF;subst r;exact RR (.tmp rfl .nil) fun m' hm=>⟨(a5,c2,l4.length),rfl,(ae.ab [0,2] rfl rfl) m' hm⟩
def A8(n:Nat)(x1:Bool)(l2:SB (Int))(x7:Bool)(l8:SB (Int))(a3:Rv)(c4:Nat)(a9:Rv)(c10:Nat)(r:Bool×SB Int)(hF:zf n x1 l2 x7 l8=some r)(m:Sr){H:Rw}(hH:∀b,H b->b<m.next)(h5:Rd m a3 c4 1 l2.length (l2.map (eI .i64)))(h6:∀b,eL a3=some b->¬H b)(h11:Rd m a9 c10 1 l8.length (l8.map (eI .i64)))(h12:∀b,eL a9=some b->¬H b) :
  aK aG 139 [.agg #[.bool x1,.slice a3 l2.length c4],.agg #[.bool x7,.slice a9 l8.length c10]] m (fun v m'=>∃x:Rv×Nat×Nat,v=.agg #[.bool r.1,.slice x.1 x.2.2 x.2.1]/\Hp m m' [.rd x.1 x.2.1 1 x.2.2 (r.2.map (eI .i64)),.gen (bu H)]):=by
 unfold zf at hF;refine aC (m0:=m) (ps:=[.rd a9 c10 1 l8.length (l8.map (eI .i64)),.rd a3 c4 1 l2.length (l2.map (eI .i64)),.gen (bu H)]) (N:=40) (rs:=[.cell 4 158]) rfl Tryz.func139 rfl rfl rfl (Si (l0:=[.rd a3 c4 1 l2.length (l2.map (eI .i64))]) (Si (l0:=[]) (Hp.dR m hH) kl h5 h6) (BY kl) h11 h12)<|RI<|RH<|RS (bQ rfl) gn rfl fun b13=>?_;refine RS (bQ rfl) gn rfl fun b14=>?_;refine RS (cC sx rfl) gn rfl fun b15=>?_;refine RJ<|RK<|RI<|RI<|RH<|RG (az (r:=ptr b13 0) rfl (gj _ _)) rfl<|RG (aw (k:=2) rf rfl rfl rfl) rfl<|RG (az (r:=ptr b14 0) rfl (gj _ _)) rfl<|RG (aw (k:=1) rf rfl rfl rfl) rfl<|RG (aj rfl rfl (Je u4)) rfl<|RJ<|RK ?_;rcases ah hF with⟨h16,hF⟩|⟨h16,hF⟩
 refine RT rfl h16<|RI<|Sd (prs:=[(1,6)]) (by kernel_rfl)<|RX (az (r:=ptr b13 0) rfl (gj _ _)) rfl<|RX (aw (k:=2) rf rfl rfl rfl) rfl<|RX (az (r:=ptr b13 1) rfl (dF _ _)) rfl<|RX (aw (k:=2) gR rfl rfl rfl) rfl<|RX (az (r:=ptr b14 1) rfl (dF _ _)) rfl<|RX (aw (k:=1) gR rfl rfl rfl) rfl ?_
 obtain⟨l18,h17,hF⟩:=J hF;refine Sc (eC rfl rfl (fun m hm=>IU n l2 l8 a3 c4 a9 c10 _ h17 m (hm.rd (k:=4) rfl (.rd _ _ _ _ _)) (hm.rd (k:=3) rfl (.rd _ _ _ _ _))) fun _=>rfl) gn rfl ?_;rintro⟨a19,n20⟩;refine Wn.len (k:=0) (xs:=l18) rfl ?_;rintro rfl;obtain⟨⟨r22,l23⟩,h21,hF⟩:=J hF;refine Wn.eO (ae.freeze (k:=0) rfl)<|Sc (fm (N:=(fun x:Rv×Nat×Nat=>[.rd (x.1) (x.2.1) 1 (x.2.2) (l23.map (eI .i64))])) rfl rfl (fun m hm=>jL n x1 l18 a19 l18.length _ h21 m hm.bt (hm.rd (k:=0) rfl (.rd _ _ _ _ _)) (hm.bZ (k:=0) rfl)) fun _=>rfl) gn rfl ?_;rintro⟨a24,c25,n26⟩;refine Sh (k:=0) (xs:=l23) rfl ?_;rintro rfl;refine Wn.o0 (bJ (k:=2) cR rfl rfl rfl rfl rfl)<|Sb (fun m hm=>eJ.all rfl)<|RK<|RO<|R0 ?_;cases hF;exact RR (.cell (k:=2) cR rfl rfl rfl .nil) fun m' hm=>⟨(a24,c25,l23.length),rfl,(ae.ab [0,7] rfl rfl) m' hm⟩
 refine RV rfl h16<|RN<|RK<|RI<|RI<|RH<|RG (az (r:=ptr b13 1) rfl (dF _ _)) rfl<|RG (aw (k:=2) gR rfl rfl rfl) rfl<|RG (az (r:=ptr b14 1) rfl (dF _ _)) rfl<|RG (aw (k:=1) gR rfl rfl rfl) rfl ?_;obtain⟨r28,h27,hF⟩:=J hF;refine RS (bM rfl rfl (fun m hm=>Bb n l2 l8 a3 c4 a9 c10 _ h27 m (hm.rd (k:=4) rfl (.rd _ _ _ _ _)) (hm.rd (k:=3) rfl (.rd _ _ _ _ _))) fun _=>rfl) gn rfl ?_;rintro⟨⟩;refine RG (aj rfl rfl (dD _ _ _)) rfl<|RJ<|RK ?_;rcases ah hF with⟨h29,hF⟩|⟨h29,hF⟩
 refine RT rfl h29<|RI<|Sd (prs:=[(1,6)]) (by kernel_rfl)<|RX (az (r:=ptr b13 0) rfl (gj _ _)) rfl<|RX (aw (k:=2) rf rfl rfl rfl) rfl<|RX (az (r:=ptr b13 1) rfl (dF _ _)) rfl<|RX (aw (k:=2) gR rfl rfl rfl) rfl<|RX (az (r:=ptr b14 1) rfl (dF _ _)) rfl<|RX (aw (k:=1) gR rfl rfl rfl) rfl ?_
 obtain⟨l31,h30,hF⟩:=J hF;refine Sc (fm (N:=(fun x:Rv×Nat×Nat=>[.rd (x.1) (x.2.1) 1 (x.2.2) (l31.map (eI .i64))])) rfl rfl (fun m hm=>AY n l2 l8 a3 c4 a9 c10 _ h30 m hm.bt (hm.rd (k:=4) rfl (.rd _ _ _ _ _)) (hm.bZ (k:=4) rfl) (hm.rd (k:=3) rfl (.rd _ _ _ _ _)) (hm.bZ (k:=3) rfl)) fun _=>rfl) gn rfl ?_;rintro⟨a32,c33,n34⟩;refine Sh (k:=0) (xs:=l31) rfl ?_;rintro rfl;obtain⟨⟨r36,l37⟩,h35,hF⟩:=J hF;refine Sc (fm (N:=(fun x:Rv×Nat×Nat=>[.rd (x.1) (x.2.1) 1 (x.2.2) (l37.map (eI .i64))])) rfl rfl (fun m hm=>jL n x1 l31 a32 c33 _ h35 m hm.bt (hm.rd (k:=0) rfl (.rd _ _ _ _ _)) (hm.bZ (k:=0) rfl)) fun _=>rfl) gn rfl ?_;rintro⟨a38,c39,n40⟩;refine Sh (k:=0) (xs:=l37) rfl ?_;rintro rfl;refine Wn.o0 (bJ (k:=2) cR rfl rfl rfl rfl rfl)<|Sb (fun m hm=>eJ.all rfl)<|RK<|RO<|R0 ?_;cases hF;exact RR (.cell (k:=2) cR rfl rfl rfl .nil) fun m' hm=>⟨(a38,c39,l37.length),rfl,(ae.ab [0,7] rfl rfl) m' hm⟩
 refine RV rfl h29<|RN<|RK<|RI<|Sd (prs:=[(1,6)]) (by kernel_rfl)<|RX (az (r:=ptr b14 0) rfl (gj _ _)) rfl<|RX (aw (k:=1) rf rfl rfl rfl) rfl<|RX (az (r:=ptr b14 1) rfl (dF _ _)) rfl<|RX (aw (k:=1) gR rfl rfl rfl) rfl<|RX (az (r:=ptr b13 1) rfl (dF _ _)) rfl<|RX (aw (k:=2) gR rfl rfl rfl) rfl ?_
 obtain⟨l42,h41,hF⟩:=J hF;refine Sc (fm (N:=(fun x:Rv×Nat×Nat=>[.rd (x.1) (x.2.1) 1 (x.2.2) (l42.map (eI .i64))])) rfl rfl (fun m hm=>AY n l8 l2 a9 c10 a3 c4 _ h41 m hm.bt (hm.rd (k:=3) rfl (.rd _ _ _ _ _)) (hm.bZ (k:=3) rfl) (hm.rd (k:=4) rfl (.rd _ _ _ _ _)) (hm.bZ (k:=4) rfl)) fun _=>rfl) gn rfl ?_;rintro⟨a43,c44,n45⟩;refine Sh (k:=0) (xs:=l42) rfl ?_;rintro rfl;obtain⟨⟨r47,l48⟩,h46,hF⟩:=J hF;refine Sc (fm (N:=(fun x:Rv×Nat×Nat=>[.rd (x.1) (x.2.1) 1 (x.2.2) (l48.map (eI .i64))])) rfl rfl (fun m hm=>jL n x7 l42 a43 c44 _ h46 m hm.bt (hm.rd (k:=0) rfl (.rd _ _ _ _ _)) (hm.bZ (k:=0) rfl)) fun _=>rfl) gn rfl ?_;rintro⟨a49,c50,n51⟩;refine Sh (k:=0) (xs:=l48) rfl ?_;rintro rfl;refine Wn.o0 (bJ (k:=2) cR rfl rfl rfl rfl rfl)<|Sb (fun m hm=>eJ.all rfl)<|RK<|RO ?_;cases hF;exact RR (.cell (k:=2) cR rfl rfl rfl .nil) fun m' hm=>⟨(a49,c50,l48.length),rfl,(ae.ab [0,7] rfl rfl) m' hm⟩
def HZ(n:Nat)(x1:Bool)(l2:SB (Int))(x7:Bool)(l8:SB (Int))(a3:Rv)(c4:Nat)(a9:Rv)(c10:Nat)(r:Bool×SB Int)(hF:Ds n x1 l2 x7 l8=some r)(m:Sr){H:Rw}(hH:∀b,H b->b<m.next)(h5:Rd m a3 c4 1 l2.length (l2.map (eI .i64)))(h6:∀b,eL a3=some b->¬H b)(h11:Rd m a9 c10 1 l8.length (l8.map (eI .i64)))(h12:∀b,eL a9=some b->¬H b) :
  aK aG 157 [.agg #[.bool x1,.slice a3 l2.length c4],.agg #[.bool x7,.slice a9 l8.length c10]] m (fun v m'=>∃x:Rv×Nat×Nat,v=.agg #[.bool r.1,.slice x.1 x.2.2 x.2.1]/\Hp m m' [.rd x.1 x.2.1 1 x.2.2 (r.2.map (eI .i64)),.gen (bu H)]):=by
 unfold Ds at hF;refine aC (m0:=m) (ps:=[.rd a9 c10 1 l8.length (l8.map (eI .i64)),.rd a3 c4 1 l2.length (l2.map (eI .i64)),.gen (bu H)]) (N:=9) (rs:=[.cell 4 158]) rfl Tryz.func157 rfl rfl rfl (Si (l0:=[.rd a3 c4 1 l2.length (l2.map (eI .i64))]) (Si (l0:=[]) (Hp.dR m hH) kl h5 h6) (BY kl) h11 h12)<|RI<|RH<|RS (bQ rfl) gn rfl fun b13=>?_;refine RS (bQ rfl) gn rfl fun b14=>?_;refine RS (cC sx rfl) gn rfl fun b15=>?_;refine RJ<|RK<|RI<|Sd (prs:=[(0,2)]) (by kernel_rfl)<|RX (aw (k:=2) cR rfl rfl rfl) rfl<|RX (aw (k:=1) cR rfl rfl rfl) rfl ?_
 obtain⟨⟨r17,l18⟩,h16,hF⟩:=J hF;refine Sc (fm (N:=(fun x:Rv×Nat×Nat=>[.rd (x.1) (x.2.1) 1 (x.2.2) (l18.map (eI .i64))])) rfl rfl (fun m hm=>HW n x7 l8 a9 c10 _ h16 m hm.bt (hm.rd (k:=3) rfl (.rd _ _ _ _ _)) (hm.bZ (k:=3) rfl)) fun _=>rfl) gn rfl ?_;rintro⟨a19,c20,n21⟩;refine Sh (k:=0) (xs:=l18) rfl ?_;rintro rfl;obtain⟨⟨r23,l24⟩,h22,hF⟩:=J hF;refine Sc (fm (N:=(fun x:Rv×Nat×Nat=>[.rd (x.1) (x.2.1) 1 (x.2.2) (l24.map (eI .i64))])) rfl rfl (fun m hm=>A8 n x1 l2 r17 l18 a3 c4 a19 c20 _ h22 m hm.bt (hm.rd (k:=5) rfl (.rd _ _ _ _ _)) (hm.bZ (k:=5) rfl) (hm.rd (k:=0) rfl (.rd _ _ _ _ _)) (hm.bZ (k:=0) rfl)) fun _=>rfl) gn rfl ?_;rintro⟨a25,c26,n27⟩;refine Sh (k:=0) (xs:=l24) rfl ?_;rintro rfl;refine Wn.o0 (bJ (k:=2) cR rfl rfl rfl rfl rfl)<|Sb (fun m hm=>eJ.all rfl)<|RK<|RO ?_;cases hF;exact RR (.cell (k:=2) cR rfl rfl rfl .nil) fun m' hm=>⟨(a25,c26,l24.length),rfl,(ae.ab [0,7] rfl rfl) m' hm⟩
def BB(n:Nat)(x1:Bool)(l2:SB (Int))(x6:Bool)(l7:SB (Int))(a3:Rv)(c4:Nat)(a8:Rv)(c9:Nat)(r:Int)(hF:yJ n x1 l2 x6 l7=some r)(m:Sr)(h5:Rd m a3 c4 1 l2.length (l2.map (eI .i64)))(h10:Rd m a8 c9 1 l7.length (l7.map (eI .i64))) :
  aK aG 142 [.agg #[.bool x1,.slice a3 l2.length c4],.agg #[.bool x6,.slice a8 l7.length c9]] m (Sq m (.int .i64 r)):=by
 unfold yJ at hF;refine aC (m0:=m) (ps:=[.rd a8 c9 1 l7.length (l7.map (eI .i64)),.rd a3 c4 1 l2.length (l2.map (eI .i64))]) (N:=15) (rs:=[.tmp 4]) rfl Tryz.func142 rfl rfl rfl (Hp.mI (Hp.mI (RZ m) kl h5) (BY kl) h10)<|RI<|RH<|RS (bQ rfl) gn rfl fun b11=>?_;refine RS (bQ rfl) gn rfl fun b12=>?_;refine RG (ai rfl) rfl<|RJ<|RK<|RI<|RH<|RG (aw (k:=1) cR rfl rfl rfl) rfl<|RG (aw (k:=0) cR rfl rfl rfl) rfl ?_;obtain⟨⟨r14,l15⟩,h13,hF⟩:=J hF;refine RS (fc (N:=(fun x:Rv×Nat×Nat=>[.rd (x.1) (x.2.1) 1 (x.2.2) (l15.map (eI .i64))])) rfl rfl (fun m hm=>HZ n x1 l2 x6 l7 a3 c4 a8 c9 _ h13 m hm.bt (hm.rd (k:=3) rfl (.rd _ _ _ _ _)) (hm.bZ (k:=3) rfl) (hm.rd (k:=2) rfl (.rd _ _ _ _ _)) (hm.bZ (k:=2) rfl)) fun _=>rfl) gn rfl ?_;rintro⟨a16,c17,n18⟩;refine Se (k:=0) (xs:=l15) rfl ?_;rintro rfl;refine RS (cC sx rfl) gn rfl fun b19=>?_;refine R4 (bJ (k:=0) cR rfl rfl rfl rfl rfl)<|RJ<|RK<|RI<|RI<|RH<|RG (az (r:=ptr b19 0) rfl (gj _ _)) rfl<|RG (aw (k:=0) rf rfl rfl rfl) rfl<|RJ<|RK ?_;rcases ah hF with⟨h20,hF⟩|⟨h20,hF⟩
 refine RT rfl h20<|RI<|RH<|RG (ai rfl) rfl<|RJ<|RK<|RO<|R0 ?_;cases hF;exact RR (.tmp rfl .nil) fun m' hm=>⟨(),rfl,(ae.ab [] rfl rfl) m' hm⟩
 refine RV rfl h20<|RN<|RK<|RI<|RI<|RH<|RG (az (r:=ptr b19 1) rfl (dF _ _)) rfl<|RG (aw (k:=0) gR rfl rfl rfl) rfl<|RG (bz (k:=1) fH rfl rfl (.inl rfl)) rfl<|RG (aj rfl rfl (aZ _ _ _)) rfl<|RJ<|RK ?_;rcases ah hF with⟨h21,hF⟩|⟨h21,hF⟩
 refine RT rfl h21<|RI<|RH<|RG (ai rfl) rfl<|RJ<|RK<|RO<|R0 ?_;cases hF;exact RR (.tmp rfl .nil) fun m' hm=>⟨(),rfl,(ae.ab [] rfl rfl) m' hm⟩
 refine RV rfl h21<|RN<|RK<|RI<|RH<|RG (ai rfl) rfl<|RJ<|RK<|RO ?_;cases hF;exact RR (.tmp rfl .nil) fun m' hm=>⟨(),rfl,(ae.ab [] rfl rfl) m' hm⟩
def BF(n:Nat)(x1:Bool)(l2:SB (Int))(a0:Rv)(c0:Nat)(r:Int×Int)(hF:BZ n x1 l2=some r)(m:Sr)(h6:Rd m a0 c0 1 l2.length (l2.map (eI .i64))) :
  aK aG 120 [.agg #[.bool x1,.slice a0 l2.length c0]] m (Sq m (.tuple #[.int .i64 r.1,.int .i64 r.2])):=by
 unfold BZ at hF;refine aC (m0:=m) (ps:=[.rd a0 c0 1 l2.length (l2.map (eI .i64))]) (N:=39) (rs:=[.tmp 2,.tmp 3]) rfl Tryz.func120 rfl rfl rfl (Hp.mI (RZ m) kl h6)<|RI<|RH<|RS (bQ rfl) gn rfl fun b0=>?_;refine RG (ai rfl) rfl<|RG (ai rfl) rfl<|RJ<|RK<|RI<|RI ?_;obtain⟨v2,h7,hF⟩:=J hF;refine RY (G:=(fun(r:Bool) (g:SC)=>match r,g with|v2,_=>⟨.normal,[(1,ptr b0 0),(15,.bool v2)],[.obj b0 (.cells [.bool x1,.slice a0 l2.length c0] .own),.rd a0 c0 1 l2.length (l2.map (eI .i64))]⟩) v2) ?_ ?_
 clear hF;revert v2;intro r hF;refine Sd (prs:=[(0,1),(5,6)]) (by kernel_rfl)<|RX (aw (k:=0) cR rfl rfl rfl) rfl ?_
 obtain⟨⟨r0,l3⟩,h8,hF⟩:=J hF;refine Sc (fm (N:=(fun x:Rv×Nat×Nat=>[.rd (x.1) (x.2.1) 1 (x.2.2) (l3.map (eI .i64))])) rfl rfl (fun m hm=>nI n (-9223372036854775808)  _ h8 m hm.bt) fun _=>rfl) gn rfl ?_;rintro⟨a1,c1,n1⟩;refine Sh (k:=0) (xs:=l3) rfl ?_;rintro rfl;obtain⟨r3,h9,hF⟩:=J hF;refine Sc (eC rfl rfl (fun m hm=>BB n x1 l2 r0 l3 a0 c0 a1 c1 _ h9 m (hm.rd (k:=2) rfl (.rd _ _ _ _ _)) (hm.rd (k:=0) rfl (.rd _ _ _ _ _))) fun _=>rfl) gn rfl ?_;rintro⟨⟩;refine RX (aj rfl rfl (aF _ _ _)) rfl<|RX (aa rfl) rfl ?_;rcases ah hF with⟨h0,hF⟩|⟨h0,hF⟩
 refine Wn.s (gg rfl rfl (cq h0)) rfl<|Wn.s (gg rfl rfl (cq h0)) rfl<|Wn.s (gg rfl rfl (cq h0)) rfl<|Wn.s (gg rfl rfl (cq h0)) rfl<|RX (cw rfl h0 rfl) rfl<|Sb (fun m hm=>eJ.all rfl) ?_;cases hF;exact RM () rfl (sc rfl (sc rfl sn)) (ae.ab [1,2] rfl rfl)
 refine Wn.og (aw (k:=1) cR rfl rfl rfl) (gg rfl rfl (cb h0)) rfl ?_;obtain⟨⟨r1,l4⟩,h10,hF⟩:=J hF;refine Sc (fm (N:=(fun x:Rv×Nat×Nat=>[.rd (x.1) (x.2.1) 1 (x.2.2) (l4.map (eI .i64))])) rfl rfl (fun m hm=>nI n 9223372036854775807  _ h10 m hm.bt) fun _=>rfl) (gg rfl rfl (cb h0)) rfl ?_;rintro⟨a2,c2,n2⟩;refine Sh (k:=0) (xs:=l4) rfl ?_;rintro rfl;obtain⟨r4,h11,hF⟩:=J hF;refine Sc (eC rfl rfl (fun m hm=>BB n x1 l2 r1 l4 a0 c0 a2 c2 _ h11 m (hm.rd (k:=3) rfl (.rd _ _ _ _ _)) (hm.rd (k:=0) rfl (.rd _ _ _ _ _))) fun _=>rfl) (gg rfl rfl (cb h0)) rfl ?_;rintro⟨⟩;refine Wn.og (aj rfl rfl (aZ _ _ _)) (gg rfl rfl (cb h0)) rfl<|RX (cp rfl h0 rfl) rfl<|Sb (fun m hm=>eJ.all rfl) ?_;cases hF;exact RM () rfl (sc rfl (sc rfl sn)) (ae.ab [2,3] rfl rfl)
 rintro⟨⟩;refine RK ?_;rcases ah hF with⟨h2,hF⟩|⟨h2,hF⟩
 refine RT rfl h2<|RI<|RH<|RG (ai rfl) rfl<|RG (ai rfl) rfl<|RJ<|RK<|RO<|R0 ?_;cases hF;exact RR (.tmp rfl (.tmp rfl .nil)) fun m' hm=>⟨(),rfl,(ae.ab [] rfl rfl) m' hm⟩
 refine RV rfl h2<|RN<|RK<|RI<|RH<|RG (ai rfl) rfl<|RJ<|RK<|RI<|RI<|RH<|RG (az (r:=ptr b0 1) rfl (dF _ _)) rfl<|RG (aw (k:=0) gR rfl rfl rfl) rfl<|RG (bz (k:=1) fH rfl rfl (.inl rfl)) rfl<|RG (aj rfl rfl (aP _ _ _)) rfl<|RG (ai rfl) rfl<|RJ<|RK<|RP ?_;obtain⟨v1,h3,hF⟩:=J hF;refine RY (G:=(fun(r:Nat) (g:SC)=>match r,g with|v1,_=>⟨(.exit 0),[(1,ptr b0 0),(4,.int .u64 ((v1:Nat):Int))],[.obj b0 (.cells [.bool x1,.slice a0 l2.length c0] .own),.rd a0 c0 1 l2.length (l2.map (eI .i64))]⟩) v1) ?_ ?_
 refine R8 (fs':=[(1,ptr b0 0),(4,.int .u64 ((0:Nat):Int)),(5,.int .i64 (RC ((l2.length:Int)-1)))]) (ps':=[.obj b0 (.cells [.bool x1,.slice a0 l2.length c0] .own),.rd a0 c0 1 l2.length (l2.map (eI .i64))]) (sc rfl (sc rfl (sc rfl sn))) (ae.ab [0,1] rfl rfl) ?_;refine R2 (σ:=Nat×Int) (ρ:=Nat) (γ:=SC) (δ:=fun _=>SC) _ (fun(s:Nat×Int) (g:SC)=>match s,g with |(v4,v5),_=>⟨.normal,[(1,ptr b0 0),(4,.int .u64 ((v4:Nat):Int)),(5,.int .i64 v5)],[.obj b0 (.cells [.bool x1,.slice a0 l2.length c0] .own),.rd a0 c0 1 l2.length (l2.map (eI .i64))]⟩) (fun(r:Nat) (g:SC)=>match r,g with|v1,_=>⟨(.exit 0),[(1,ptr b0 0),(4,.int .u64 ((v1:Nat):Int))],[.obj b0 (.cells [.bool x1,.slice a0 l2.length c0] .own),.rd a0 c0 1 l2.length (l2.map (eI .i64))]⟩) ?_ (fun _ _=>rfl) (fun r d=>by intro e; cases e) _ _ _ h3 ()
 clear hF h3;rintro⟨v4,v5⟩ ⟨⟩ r hF;unfold oD at hF;refine RI<|RI<|RH<|RG (aa rfl) rfl<|RG (aj rfl rfl (dD _ _ _)) rfl<|RJ<|RK ?_;rcases ah hF with⟨h4,hF⟩|⟨h4,hF⟩
 refine RT rfl h4<|RN<|RK<|RI<|RP<|RH<|RG (aa rfl) rfl<|RG (aj rfl rfl (lM rfl _ _)) rfl<|RG (az (r:=ptr b0 1) rfl (dF _ _)) rfl<|RG (aw (k:=0) gR rfl rfl rfl) rfl<|RG (aa rfl) rfl ?_;obtain⟨h1,hF⟩:=al hF;replace h1:=au h1;refine Sa (k:=1) rfl (aW h1) ?_;rintro b3 o1 rfl;refine RL (bp dJ rfl rfl h1) gn rfl ?_;obtain⟨x3,h12,hF⟩:=J hF;refine RG (bC (k:=0) bw rfl rfl (aL h12) rfl rfl) rfl<|RG (jS rfl (CG (by rw[u3]; rfl) oO rfl)) rfl<|RG (aj rfl rfl (jD rfl _ _)) rfl<|RG (ai rfl) rfl<|RJ<|R3<|RK<|RH<|RG (aa rfl) rfl<|RG (aj rfl rfl (aP _ _ _)) rfl<|RG (ai rfl) rfl<|RJ ?_
 cases hF;exact RM () rfl (sc rfl (sc rfl (sc rfl sn))) (ae.ab [1,2] rfl rfl)
 refine RV rfl h4<|R1<|R6 ?_;cases hF;exact RM () rfl (sc rfl (sc rfl sn)) (ae.ab [0,1] rfl rfl)
 rintro⟨⟩;refine R7<|RK<|RI ?_;obtain⟨v3,h13,hF⟩:=J hF;refine RY (G:=(fun(r:Nat) (g:SC)=>match r,g with|v3,_=>⟨.normal,[(4,.int .u64 ((v3:Nat):Int))],[]⟩) v3) ?_ ?_
 clear hF;revert v3;intro r hF;refine RI<|RH<|RG (az (r:=ptr b0 0) rfl (gj _ _)) rfl<|RG (aw (k:=0) rf rfl rfl rfl) rfl<|RJ<|RK ?_;rcases ah hF with⟨h5,hF⟩|⟨h5,hF⟩
 refine RT rfl h5<|RH<|RG (aa rfl) rfl<|RG (eG rfl (DN rfl _)) rfl<|RG (ai rfl) rfl<|RJ ?_;cases hF;exact RM () rfl (sc rfl sn) (ae.ab [] rfl rfl)
 refine RV rfl h5<|RN ?_;have hr:=Pf hF;subst r;exact RM () rfl (sc rfl sn) (ae.ab [] rfl rfl)
 rintro⟨⟩;refine RK<|RI<|RH<|RG (aa rfl) rfl<|RG (jS rfl (mR (by rw[oO]; rfl) u3)) rfl<|RG (ai rfl) rfl<|RG (ai rfl) rfl<|RJ<|RK<|RO ?_
 cases hF;exact RR (.tmp rfl (.tmp rfl .nil)) fun m' hm=>⟨(),rfl,(ae.ab [] rfl rfl) m' hm⟩
def Bo(n:Nat)(x1:Int)  (r:Int×Int)(hF:zD n x1=some r)(m:Sr)  :
  aK aG 116 [.int .i64 x1] m (Sq m (.tuple #[.int .i64 r.1,.int .i64 r.2])):=by
 unfold zD at hF;refine aC (m0:=m) (ps:=[]) (N:=61) (rs:=[.tmp 2,.tmp 3]) rfl Tryz.func116 rfl rfl rfl (RZ m)<|RI<|RH<|RG (ai rfl) rfl<|RG (ai rfl) rfl<|RJ<|RK<|RI<|RH<|RG (aa rfl) rfl<|RG (ai rfl) rfl<|RG (ai rfl) rfl<|RG (ai rfl) rfl<|RJ<|RK<|RI<|RI<|RH<|RG (ai rfl) rfl<|RJ<|RK<|RP ?_;obtain⟨r1,h0,hF⟩:=J hF;refine RY (G:=(fun(r:Int×Int×Int) (g:SC)=>match r,g with |(v8,v9,v6),_=>⟨(.exit 0),[(4,.int .i64 v8),(5,.int .i64 v9),(6,.int .i64 v6)],[]⟩) r1) ?_ ?_
 refine R8 (fs':=[(4,.int .i64 1),(5,.int .i64 1),(6,.int .i64 x1),(7,.int .i64 2)]) (ps':=[]) (sc rfl (sc rfl (sc rfl (sc rfl sn)))) (ae.ab [] rfl rfl) ?_;refine R2 (σ:=Rr) (ρ:=Int×Int×Int) (γ:=SC) (δ:=fun _=>SC) _ (fun(s:Rr) (g:SC)=>match s,g with |(v5,v2,v10,v1),_=>⟨.normal,[(4,.int .i64 v5),(5,.int .i64 v2),(6,.int .i64 v10),(7,.int .i64 v1)],[]⟩) (fun(r:Int×Int×Int) (g:SC)=>match r,g with |(v8,v9,v6),_=>⟨(.exit 0),[(4,.int .i64 v8),(5,.int .i64 v9),(6,.int .i64 v6)],[]⟩) ?_ (fun _ _=>rfl) (fun r d=>by intro e; cases e) _ _ _ h0 ()
 clear hF h0;rintro⟨v5,v2,v10,v1⟩ ⟨⟩ r hF;unfold qR at hF;refine RI<|RI<|RH<|RG (aa rfl) rfl<|RG (aj rfl rfl (eA _ _ _)) rfl<|RJ<|RK ?_;rcases ah hF with⟨h1,hF⟩|⟨h1,hF⟩
 refine RT rfl h1<|RN<|RK<|RI ?_;obtain⟨r0,h8,hF⟩:=J hF;refine RY (G:=(fun(r:Int×Int×Int) (g:SC)=>match r,g with |(v11,v12,v13),_=>⟨.normal,[(4,.int .i64 v11),(5,.int .i64 v12),(6,.int .i64 v13),(7,.int .i64 v1)],[]⟩) r0) ?_ ?_
 clear hF;revert r0;intro r hF;refine RP<|RI<|RH<|RG (ai rfl) rfl<|RJ<|RK<|RI<|RP ?_;obtain⟨r3,h2,hF⟩:=J hF;refine RY (G:=(fun(r:Int×Int) (g:SC)=>match r,g with |(v3,v4),_=>⟨(.exit 2),[(4,.int .i64 v5),(5,.int .i64 v2),(6,.int .i64 v3),(7,.int .i64 v1),(8,.int .i64 v4)],[]⟩) r3) ?_ ?_
 refine R8 (fs':=[(4,.int .i64 v5),(5,.int .i64 v2),(6,.int .i64 v10),(7,.int .i64 v1),(8,.int .i64 0)]) (ps':=[]) (sc rfl (sc rfl (sc rfl (sc rfl (sc rfl sn))))) (ae.ab [] rfl rfl) ?_;refine R2 (σ:=Int×Int) (ρ:=Int×Int) (γ:=SC) (δ:=fun _=>SC) _ (fun(s:Int×Int) (g:SC)=>match s,g with |(v14,v15),_=>⟨.normal,[(4,.int .i64 v5),(5,.int .i64 v2),(6,.int .i64 v14),(7,.int .i64 v1),(8,.int .i64 v15)],[]⟩) (fun(r:Int×Int) (g:SC)=>match r,g with |(v3,v4),_=>⟨(.exit 2),[(4,.int .i64 v5),(5,.int .i64 v2),(6,.int .i64 v3),(7,.int .i64 v1),(8,.int .i64 v4)],[]⟩) ?_ (fun _ _=>rfl) (fun r d=>by intro e; cases e) _ _ _ h2 ()
 clear hF h2;rintro⟨v14,v15⟩ ⟨⟩ r hF;unfold qu at hF;refine RI<|RI<|RH<|RG (aa rfl) rfl<|RG (aa rfl) rfl ?_;obtain⟨h9,hF⟩:=al hF;refine RG (aj rfl rfl (dc _ _ h9)) rfl<|RG (aj rfl rfl (bW _ _ _)) rfl<|RJ<|RK ?_;rcases ah hF with⟨h3,hF⟩|⟨h3,hF⟩
 refine RT rfl h3<|RN<|RK<|RP<|RI<|RH<|RG (aa rfl) rfl<|RG (aa rfl) rfl ?_;obtain⟨h10,hF⟩:=al hF;refine RG (aj rfl rfl (iP _ _ h10)) rfl<|RG (ai rfl) rfl<|RJ<|RK<|RH<|RG (aa rfl) rfl<|RG (aj rfl rfl (aA _ _ _)) rfl<|RG (ai rfl) rfl<|RJ<|R3 ?_;cases hF;exact RM () rfl (sc rfl (sc rfl (sc rfl (sc rfl (sc rfl sn))))) (ae.ab [] rfl rfl)
 refine RV rfl h3<|R1<|R6 ?_;cases hF;exact RM () rfl (sc rfl (sc rfl (sc rfl (sc rfl (sc rfl sn))))) (ae.ab [] rfl rfl)
 clear h2;obtain⟨v3,v4⟩:=r3;rintro⟨⟩;refine R7<|RK<|RI<|RI<|RH<|RG (ai rfl) rfl<|RJ<|RK<|RP ?_;obtain⟨v7,h4,hF⟩:=J hF;refine RY (G:=(fun(r:Int) (g:SC)=>match r,g with|v7,_=>⟨(.exit 4),[(4,.int .i64 v7),(5,.int .i64 v2),(6,.int .i64 v3),(7,.int .i64 v1),(8,.int .i64 v4)],[]⟩) v7) ?_ ?_
 refine R8 (fs':=[(4,.int .i64 v5),(5,.int .i64 v2),(6,.int .i64 v3),(7,.int .i64 v1),(8,.int .i64 v4),(9,.int .i64 0)]) (ps':=[]) (sc rfl (sc rfl (sc rfl (sc rfl (sc rfl (sc rfl sn)))))) (ae.ab [] rfl rfl) ?_;refine R2 (σ:=Int×Int) (ρ:=Int) (γ:=SC) (δ:=fun _=>SC) _ (fun(s:Int×Int) (g:SC)=>match s,g with |(v16,v17),_=>⟨.normal,[(4,.int .i64 v16),(5,.int .i64 v2),(6,.int .i64 v3),(7,.int .i64 v1),(8,.int .i64 v4),(9,.int .i64 v17)],[]⟩) (fun(r:Int) (g:SC)=>match r,g with|v7,_=>⟨(.exit 4),[(4,.int .i64 v7),(5,.int .i64 v2),(6,.int .i64 v3),(7,.int .i64 v1),(8,.int .i64 v4)],[]⟩) ?_ (fun _ _=>rfl) (fun r d=>by intro e; cases e) _ _ _ h4 ()
 clear hF h4;rintro⟨v16,v17⟩ ⟨⟩ r hF;unfold qA at hF;refine RI<|RI<|RH<|RG (aa rfl) rfl<|RG (aa rfl) rfl<|RG (aj rfl rfl (iP _ _ (by decide))) rfl<|RG (aj rfl rfl (aF _ _ _)) rfl<|RJ<|RK ?_
 rcases ah hF with⟨h5,hF⟩|⟨h5,hF⟩
 refine RT rfl h5<|RN<|RK<|RI<|RP<|RH<|RG (aa rfl) rfl<|RG (aa rfl) rfl<|RG (aj rfl rfl (bE _ _ _)) rfl<|RG (ai rfl) rfl<|RJ<|R3<|RK<|RH<|RG (aa rfl) rfl<|RG (aj rfl rfl (aA _ _ _)) rfl<|RG (ai rfl) rfl<|RJ ?_;cases hF;exact RM () rfl (sc rfl (sc rfl (sc rfl (sc rfl (sc rfl (sc rfl sn)))))) (ae.ab [] rfl rfl)
 refine RV rfl h5<|R1<|R6 ?_;cases hF;exact RM () rfl (sc rfl (sc rfl (sc rfl (sc rfl (sc rfl sn))))) (ae.ab [] rfl rfl)
 rintro⟨⟩;refine R7<|RK<|RI<|RH<|RG (aa rfl) rfl<|RG (aj rfl rfl (dc _ _ (by decide))) rfl<|RG (aj rfl rfl (bW _ _ _)) rfl<|RJ<|RK ?_
 rcases ah hF with⟨h6,hF⟩|⟨h6,hF⟩
 refine RT rfl h6<|RH<|RG (aa rfl) rfl<|RG (aa rfl) rfl<|RG (aj rfl rfl (bE _ _ _)) rfl<|RG (ai rfl) rfl<|RJ<|R3 ?_;cases hF;exact RM () rfl (sc rfl (sc rfl (sc rfl (sc rfl sn)))) (ae.ab [] rfl rfl)
 refine RV rfl h6<|RN<|R3 ?_;cases hF;exact RM () rfl (sc rfl (sc rfl (sc rfl (sc rfl sn)))) (ae.ab [] rfl rfl)
 clear h8;obtain⟨v11,v12,v13⟩:=r0;rintro⟨⟩;refine RK<|RH<|RG (aa rfl) rfl<|RG (aj rfl rfl (aA _ _ _)) rfl<|RG (ai rfl) rfl<|RJ ?_;cases hF;exact RM () rfl (sc rfl (sc rfl (sc rfl (sc rfl sn)))) (ae.ab [] rfl rfl)
 refine RV rfl h1<|R1<|R6 ?_;cases hF;exact RM () rfl (sc rfl (sc rfl (sc rfl sn))) (ae.ab [] rfl rfl)
 clear h0;obtain⟨v8,v9,v6⟩:=r1;rintro⟨⟩;refine R7<|RK<|RI<|RH<|RG (aa rfl) rfl ?_;obtain⟨⟨r4,l2⟩,h11,hF⟩:=J hF;refine RS (fc (N:=(fun x:Rv×Nat×Nat=>[.rd (x.1) (x.2.1) 1 (x.2.2) (l2.map (eI .i64))])) rfl rfl (fun m hm=>nI n v6  _ h11 m hm.bt) fun _=>rfl) gn rfl ?_;rintro⟨a0,c0,n1⟩;refine Se (k:=0) (xs:=l2) rfl ?_;rintro rfl;obtain⟨⟨r5,l3⟩,h12,hF⟩:=J hF;refine RS (fc (N:=(fun x:Rv×Nat×Nat=>[.rd (x.1) (x.2.1) 1 (x.2.2) (l3.map (eI .i64))])) rfl rfl (fun m hm=>Hx n r4 l2 a0 c0 _ h12 m hm.bt (hm.rd (k:=0) rfl (.rd _ _ _ _ _)) (hm.bZ (k:=0) rfl)) fun _=>rfl) gn rfl ?_;rintro⟨a1,c1,n2⟩;refine Se (k:=0) (xs:=l3) rfl ?_;rintro rfl;obtain⟨⟨r6,r7⟩,h13,hF⟩:=J hF;refine RS (bM rfl rfl (fun m hm=>BF n r5 l3 a1 c1 _ h13 m (hm.rd (k:=0) rfl (.rd _ _ _ _ _))) fun _=>rfl) gn rfl ?_;rintro⟨⟩;refine RG (aa rfl) rfl<|RG (cr rfl rfl) rfl<|RG (cr rfl rfl) rfl<|RG (ai rfl) rfl<|RG (ai rfl) rfl<|RJ<|RK<|RI<|RI<|RH<|RG (aa rfl) rfl<|RG (aa rfl) rfl<|RG (aj rfl rfl (bE _ _ _)) rfl<|RG (aa rfl) rfl<|RG (aj rfl rfl (bW _ _ _)) rfl ?_;refine RJ<|RK ?_;rcases ah hF with⟨h7,hF⟩|⟨h7,hF⟩
 refine RT rfl h7<|RI<|RH<|RG (aa rfl) rfl<|RG (aa rfl) rfl<|RG (aj rfl rfl (bE _ _ _)) rfl<|RG (aa rfl) rfl<|RG (ai rfl) rfl<|RG (ai rfl) rfl<|RJ<|RK<|RO<|R0 ?_;cases hF;exact RR (.tmp rfl (.tmp rfl .nil)) fun m' hm=>⟨(),rfl,(ae.ab [] rfl rfl) m' hm⟩
 refine RV rfl h7<|RN<|RK<|RI<|RH<|RG (aa rfl) rfl<|RG (aa rfl) rfl<|RG (aa rfl) rfl<|RG (aj rfl rfl (bE _ _ _)) rfl<|RG (ai rfl) rfl<|RG (ai rfl) rfl<|RJ<|RK<|RO ?_;cases hF;exact RR (.tmp rfl (.tmp rfl .nil)) fun m' hm=>⟨(),rfl,(ae.ab [] rfl rfl) m' hm⟩
def H3(n:Nat)(x1:Bool)(l2:SB (Int))(x7:Bool)(l8:SB (Int))(a3:Rv)(c4:Nat)(a9:Rv)(c10:Nat)(r:Bool×SB Int)(hF:FY n x1 l2 x7 l8=some r)(m:Sr){H:Rw}(hH:∀b,H b->b<m.next)(h5:Rd m a3 c4 1 l2.length (l2.map (eI .i64)))(h6:∀b,eL a3=some b->¬H b)(h11:Rd m a9 c10 1 l8.length (l8.map (eI .i64)))(h12:∀b,eL a9=some b->¬H b) :
  aK aG 118 [.agg #[.bool x1,.slice a3 l2.length c4],.agg #[.bool x7,.slice a9 l8.length c10]] m (fun v m'=>∃x:Rv×Nat×Nat,v=.agg #[.bool r.1,.slice x.1 x.2.2 x.2.1]/\Hp m m' [.rd x.1 x.2.1 1 x.2.2 (r.2.map (eI .i64)),.gen (bu H)]):=by
 unfold FY at hF;refine aC (m0:=m) (ps:=[.rd a9 c10 1 l8.length (l8.map (eI .i64)),.rd a3 c4 1 l2.length (l2.map (eI .i64)),.gen (bu H)]) (N:=16) (rs:=[.cell 4 158]) rfl Tryz.func118 rfl rfl rfl (Si (l0:=[.rd a3 c4 1 l2.length (l2.map (eI .i64))]) (Si (l0:=[]) (Hp.dR m hH) kl h5 h6) (BY kl) h11 h12)<|RI<|RH<|RS (bQ rfl) gn rfl fun b13=>?_;refine RS (bQ rfl) gn rfl fun b14=>?_;refine RS (cC sx rfl) gn rfl fun b15=>?_;refine RJ<|RK<|RI<|Sd (prs:=[(1,9),(3,9)]) (by kernel_rfl)<|RX (az (r:=ptr b13 0) rfl (gj _ _)) rfl<|RX (aw (k:=2) rf rfl rfl rfl) rfl<|RX (az (r:=ptr b14 0) rfl (gj _ _)) rfl<|RX (aw (k:=1) rf rfl rfl rfl) rfl<|RX (aj rfl rfl (I8 u4)) rfl<|RX (az (r:=ptr b13 1) rfl (dF _ _)) rfl<|RX (aw (k:=2) gR rfl rfl rfl) rfl<|RX (az (r:=ptr b14 1) rfl (dF _ _)) rfl<|RX (aw (k:=1) gR rfl rfl rfl) rfl ?_
 obtain⟨l17,h16,hF⟩:=J hF;refine Sc (fm (N:=(fun x:Rv×Nat×Nat=>[.rd (x.1) (x.2.1) 1 (x.2.2) (l17.map (eI .i64))])) rfl rfl (fun m hm=>BN n l2 l8 a3 c4 a9 c10 _ h16 m hm.bt (hm.rd (k:=4) rfl (.rd _ _ _ _ _)) (hm.bZ (k:=4) rfl) (hm.rd (k:=3) rfl (.rd _ _ _ _ _)) (hm.bZ (k:=3) rfl)) fun _=>rfl) gn rfl ?_;rintro⟨a18,c19,n20⟩;refine Sh (k:=0) (xs:=l17) rfl ?_;rintro rfl;obtain⟨⟨r22,l23⟩,h21,hF⟩:=J hF;refine Sc (fm (N:=(fun x:Rv×Nat×Nat=>[.rd (x.1) (x.2.1) 1 (x.2.2) (l23.map (eI .i64))])) rfl rfl (fun m hm=>jL n (!(x1==x7)) l17 a18 c19 _ h21 m hm.bt (hm.rd (k:=0) rfl (.rd _ _ _ _ _)) (hm.bZ (k:=0) rfl)) fun _=>rfl) gn rfl ?_;rintro⟨a24,c25,n26⟩;refine Sh (k:=0) (xs:=l23) rfl ?_;rintro rfl;refine Wn.o0 (bJ (k:=2) cR rfl rfl rfl rfl rfl)<|Sb (fun m hm=>eJ.all rfl)<|RK<|RO ?_;cases hF;exact RR (.cell (k:=2) cR rfl rfl rfl .nil) fun m' hm=>⟨(a24,c25,l23.length),rfl,(ae.ab [0,7] rfl rfl) m' hm⟩
def Ic(n:Nat)(l1:SB (Int×Bool×SB Int))(x3:Int)(x4:Bool)(l2:SB (Int))(a1:Rv)(c1:Nat)(r0:Rw)(e0:Ru)(a0:Rv)(c0:Nat)(r:SB (Int×Bool×SB Int))(hF:Ef n l1 x3 x4 l2=some r)(m:Sr){H:Rw}(hH:∀b,H b->b<m.next)(h11:Rd m a1 c1 3 l1.length e0)(h12:∀b,eL a1=some b->¬H b)(h13:(fi bG r0 l1 e0).P m)(h14:∀b,r0 b->¬H b)(h15:Rd m a0 c0 1 l2.length (l2.map (eI .i64)))(h16:∀b,eL a0=some b->¬H b) :
  aK aG 117 [.slice a1 l1.length c1,.int .i64 x3,.agg #[.bool x4,.slice a0 l2.length c0]] m (fun v m'=>∃x:Rv×Nat×Nat×Ru ×(Nat->Prop),v=.slice x.1 x.2.2.1 x.2.1/\Hp m m' [.rd x.1 x.2.1 3 x.2.2.1 x.2.2.2.1,.gen (fi bG x.2.2.2.2 r x.2.2.2.1),.gen (bu H)]):=by
 unfold Ef at hF;refine aC (m0:=m) (ps:=[.rd a0 c0 1 l2.length (l2.map (eI .i64)),.gen (fi bG r0 l1 e0),.rd a1 c1 3 l1.length e0,.gen (bu H)]) (N:=72) (rs:=[.tmp 6]) rfl Tryz.func117 rfl rfl rfl (Si (l0:=[.gen (fi bG r0 l1 e0),.rd a1 c1 3 l1.length e0]) (Hp.M5 (l0:=[.rd a1 c1 3 l1.length e0]) (Si (l0:=[]) (Hp.dR m hH) kl h11 h12) (BY kl) h13 h14) (O2 (BY kl)) h15 h16)<|RI<|RH<|RS (bQ rfl) gn rfl fun b0=>?_;refine RG (ai rfl) rfl<|RJ<|RK<|RI<|RH<|RG (ai rfl) rfl<|RJ<|RK<|RI<|RH<|RG (ai rfl) rfl<|RJ<|RK<|RI<|RI<|RH<|RG (ai rfl) rfl<|RJ<|RK<|RP ?_;obtain⟨r10,h6,hF⟩:=J hF;refine RY (G:=(fun(r:SB (Int×Bool×SB Int)×Bool) (g:Rv×Ru ×(Nat->Prop))=>match r,g with |(l4,v2),(a3,e2,r4)=>⟨(.exit 0),[(1,.int .i64 x3),(5,ptr b0 0),(7,.slice a3 l4.length l4.length),(8,.bool v2)],[.obj b0 (.cells [.bool x4,.slice a0 l2.length c0] .own),.rd a0 c0 1 l2.length (l2.map (eI .i64)),.sl a3 3 l4.length e2,.gen (fi bG r4 l4 e2),.gen (bu H)]⟩) r10) ?_ ?_
 refine R8 (fs':=[(0,.slice a1 l1.length c1),(1,.int .i64 x3),(5,ptr b0 0),(7,.slice none ([]:SB (Int×Bool×SB Int)).length ([]:SB (Int×Bool×SB Int)).length),(8,.bool false),(9,.int .i64 0)]) (ps':=[.rd a1 c1 3 l1.length e0,.gen (fi bG r0 l1 e0),.obj b0 (.cells [.bool x4,.slice a0 l2.length c0] .own),.rd a0 c0 1 l2.length (l2.map (eI .i64)),.sl none 3 ([]:SB (Int×Bool×SB Int)).length ([]),.gen (fi bG (fun _=>False) ([]:SB (Int×Bool×SB Int)) ([])),.gen (bu H)]) (sc rfl (sc rfl (sc rfl (sc rfl (sc rfl (sc rfl sn)))))) (ae.trans (ae.nil 3 rfl) (ae.trans (ae.Ji (r:=bG)) (ae.ab [5,4,2,3,1,0,6] rfl rfl))) ?_;refine R2 (σ:=SB (Int×Bool×SB Int)×Bool×Int) (ρ:=SB (Int×Bool×SB Int)×Bool) (γ:=Rv×Ru ×(Nat->Prop)) (δ:=fun _=>Rv×Ru ×(Nat->Prop)) _ (fun(s:SB (Int×Bool×SB Int)×Bool×Int) (g:Rv×Ru ×(Nat->Prop))=>match s,g with |(l3,v3,v1),(a2,e1,r1)=>⟨.normal,[(0,.slice a1 l1.length c1),(1,.int .i64 x3),(5,ptr b0 0),(7,.slice a2 l3.length l3.length),(8,.bool v3),(9,.int .i64 v1)],[.rd a1 c1 3 l1.length e0,.gen (fi bG r0 l1 e0),.obj b0 (.cells [.bool x4,.slice a0 l2.length c0] .own),.rd a0 c0 1 l2.length (l2.map (eI .i64)),.sl a2 3 l3.length e1,.gen (fi bG r1 l3 e1),.gen (bu H)]⟩) (fun(r:SB (Int×Bool×SB Int)×Bool) (g:Rv×Ru ×(Nat->Prop))=>match r,g with |(l4,v2),(a3,e2,r4)=>⟨(.exit 0),[(1,.int .i64 x3),(5,ptr b0 0),(7,.slice a3 l4.length l4.length),(8,.bool v2)],[.obj b0 (.cells [.bool x4,.slice a0 l2.length c0] .own),.rd a0 c0 1 l2.length (l2.map (eI .i64)),.sl a3 3 l4.length e2,.gen (fi bG r4 l4 e2),.gen (bu H)]⟩) ?_ (fun _ _=>rfl) (fun r d=>by intro e; cases e) _ _ _ h6 (none,[],(fun _=>False))
 clear hF h6;rintro⟨l3,v3,v1⟩ ⟨a2,e1,r1⟩ r hF;unfold fq at hF;refine RI<|RI<|RH<|RG (aa rfl) rfl<|RG (aa rfl) rfl<|RG (bz (k:=0) C0 rfl rfl (.inl rfl)) rfl<|RG (aj rfl rfl (aF _ _ _)) rfl<|RJ<|RK ?_;rcases ah hF with⟨h7,hF⟩|⟨h7,hF⟩
 refine RT rfl h7<|RN<|RK<|RI ?_;obtain⟨r5,h17,hF⟩:=J hF;refine RY (G:=(fun(r:SB (Int×Bool×SB Int)×Bool) (g:Rv×Ru ×(Nat->Prop))=>match r,g with |(l11,v6),(a4,e4,r6)=>⟨.normal,[(0,.slice a1 l1.length c1),(1,.int .i64 x3),(5,ptr b0 0),(7,.slice a4 l11.length l11.length),(8,.bool v6),(9,.int .i64 v1)],[.rd a1 c1 3 l1.length e0,.gen (fi bG r0 l1 e0),.obj b0 (.cells [.bool x4,.slice a0 l2.length c0] .own),.rd a0 c0 1 l2.length (l2.map (eI .i64)),.sl a4 3 l11.length e4,.gen (fi bG r6 l11 e4),.gen (bu H)]⟩) r5) ?_ ?_
 clear hF;revert r5;intro r hF;refine RP<|RI<|RI ?_;obtain⟨v4,h18,hF⟩:=J hF;refine RY (G:=(fun(r:Bool) (g:SC)=>match r,g with|v4,_=>⟨.normal,[(0,.slice a1 l1.length c1),(1,.int .i64 x3),(5,ptr b0 0),(7,.slice a2 l3.length l3.length),(8,.bool v3),(9,.int .i64 v1),(26,.bool v4)],[.rd a1 c1 3 l1.length e0,.gen (fi bG r0 l1 e0),.obj b0 (.cells [.bool x4,.slice a0 l2.length c0] .own),.rd a0 c0 1 l2.length (l2.map (eI .i64)),.sl a2 3 l3.length e1,.gen (fi bG r1 l3 e1),.gen (bu H)]⟩) v4) ?_ ?_
 clear hF;revert v4;intro r hF;refine RH<|RG (aa rfl) rfl<|RG (eG rfl rfl) rfl<|RG (aa rfl) rfl ?_;rcases ah hF with⟨h0,hF⟩|⟨h0,hF⟩
 refine RL (aa rfl) (gg rfl rfl (bY h0)) rfl<|RL (aa rfl) (gg rfl rfl (bY h0)) rfl ?_;obtain⟨h2,hF⟩:=al hF;replace h2:=au h2;refine Sa (k:=0) rfl (aW h2) ?_;rintro b3 o1 rfl;refine RL (bp jX rfl rfl h2) (gg rfl rfl (bY h0)) rfl<|RL (az (r:=ptr b3 (o1+v1.toNat*3+0)) rfl (vB _ _)) (gg rfl rfl (bY h0)) rfl ?_;obtain⟨⟨x13,x15,l13⟩,h19,hF⟩:=J hF;refine RS (tq (r:=bG) (w:=3) (j:=v1.toNat) (c:=0) (q:=2) (z:=(x13,x15,l13)) (V:=fun g=>.int .i64 x13) (N:=fun g=>[.rd g.2.2.1 g.2.2.2 1 l13.length (l13.map (eI .i64)),.ro b3 o1 3 l1.length e0,.rd (some ⟨b3,o1,none⟩) c1 3 l1.length e0,.gen (fi bG r0 l1 e0),.obj b0 (.cells [.bool x4,.slice a0 l2.length c0] .own),.rd a0 c0 1 l2.length (l2.map (eI .i64)),.sl a2 3 l3.length e1,.gen (fi bG r1 l3 e1),.gen (bu H)]) bw rfl rfl (tI (k:=0) rfl) rfl h19 (fun _=>rfl) rfl (fun _=>rfl)) (gg rfl rfl (bY h0)) rfl ?_;rintro⟨_,_,⟨a14,c5⟩⟩;refine RL (aa rfl) (gg rfl rfl (bY h0)) rfl<|RL (aj rfl rfl (bW _ _ _)) (gg rfl rfl (bY h0)) rfl<|RG (cw rfl h0 rfl) rfl<|RJ ?_;cases hF;exact RM () rfl (sc rfl (sc rfl (sc rfl (sc rfl (sc rfl (sc rfl (sc rfl sn))))))) (ae.ab [2,3,4,5,6,7,8] rfl rfl)
 refine RQ (gg rfl rfl (bX h0)) rfl<|RQ (gg rfl rfl (bX h0)) rfl<|RQ (gg rfl rfl (bX h0)) rfl<|RQ (gg rfl rfl (bX h0)) rfl<|RQ (gg rfl rfl (bX h0)) rfl<|RQ (gg rfl rfl (bX h0)) rfl<|RQ (gg rfl rfl (bX h0)) rfl<|RG (cp rfl h0 rfl) rfl<|RJ ?_;cases hF;exact RM () rfl (sc rfl (sc rfl (sc rfl (sc rfl (sc rfl (sc rfl (sc rfl sn))))))) (ae.ab [0,1,2,3,4,5,6] rfl rfl)
 rintro⟨⟩;refine RK ?_;rcases ah hF with⟨h8,hF⟩|⟨h8,hF⟩
 refine RT rfl h8<|RI<|R9 (by kernel_rfl)<|RG (aa rfl) rfl<|RG (aa rfl) rfl<|RG (aa rfl) rfl<|RG (aa rfl) rfl ?_
 obtain⟨h3,hF⟩:=al hF;replace h3:=au h3;refine Sa (k:=0) rfl (aW h3) ?_;rintro b4 o2 rfl;refine RL (bp jX rfl rfl h3) gn rfl<|RG (az (r:=ptr b4 (o2+v1.toNat*3+1)) rfl (Bv _ _)) rfl ?_;obtain⟨⟨x16,x12,l12⟩,h20,hF⟩:=J hF;refine RS (tq (r:=bG) (w:=3) (j:=v1.toNat) (c:=1) (q:=2) (z:=(x16,x12,l12)) (V:=fun g=>.agg #[.bool x12,.slice g.2.2.1 l12.length g.2.2.2]) (N:=fun g=>[.rd g.2.2.1 g.2.2.2 1 l12.length (l12.map (eI .i64)),.ro b4 o2 3 l1.length e0,.rd (some ⟨b4,o2,none⟩) c1 3 l1.length e0,.gen (fi bG r0 l1 e0),.obj b0 (.cells [.bool x4,.slice a0 l2.length c0] .own),.rd a0 c0 1 l2.length (l2.map (eI .i64)),.sl a2 3 l3.length e1,.gen (fi bG r1 l3 e1),.gen (bu H)]) cR rfl rfl (tI (k:=0) rfl) rfl h20 (fun _=>rfl) rfl (fun _=>rfl)) gn rfl ?_;rintro⟨_,_,⟨a9,c4⟩⟩;refine RG (aw (k:=4) cR rfl rfl rfl) rfl ?_;obtain⟨⟨r3,l9⟩,h21,hF⟩:=J hF;refine RS (fc (N:=(fun x:Rv×Nat×Nat=>[.rd (x.1) (x.2.1) 1 (x.2.2) (l9.map (eI .i64))])) rfl rfl (fun m hm=>A8 n x12 l12 x4 l2 a9 c4 a0 c0 _ h21 m hm.bt (hm.rd (k:=0) rfl (.rd _ _ _ _ _)) (hm.bZ (k:=0) rfl) (hm.rd (k:=5) rfl (.rd _ _ _ _ _)) (hm.bZ (k:=5) rfl)) fun _=>rfl) gn rfl ?_;rintro⟨a5,c2,n1⟩;refine Se (k:=0) (xs:=l9) rfl ?_;rintro rfl;refine RG (cY rfl zG rfl (cV Fb rfl rfl rfl)) rfl<|RS (fS (es:=[[.int .i64 x3,.bool r3,.slice a5 l9.length c2]]) jX rfl (gD jX zG rfl rfl) rfl rfl) gn rfl fun b7=>?_;refine Wo.dp (r:=bG) (L:=([(x3,r3,l9)]:SB (Int×Bool×SB Int))) (es:=[[.int .i64 x3,.bool r3,.slice a5 l9.length c2]]) (Ar.cons (r:=bG) (z:=(x3,r3,l9)) (g:=((),(),(a5,c2))) (Lf.p (Lf.f (jh .i64) _) (Lf.p (Lf.f (Nx) _) (Lf.s (k:=1) rfl))) Ar.nil) ?_;intro r15;obtain⟨h22,hF⟩:=al hF;refine RS (AJ (r:=bG) (k:=9) (q:=10) (k2:=1) (q2:=0) (L:=l3) (L':=([(x3,r3,l9)]:SB (Int×Bool×SB Int))) jX ⟨_,C0⟩ rfl rfl rfl rfl (.arr _ _ _ _ _) rfl rfl h22) gn rfl ?_;rintro⟨a10,r11⟩;refine RG (ai rfl) rfl<|RJ<|RK<|RI<|RH<|RG (ai rfl) rfl<|RJ<|RK<|R1<|R6<|R7 ?_;cases hF;exact RM (a10,(e1++([[.int .i64 x3,.bool r3,.slice a5 l9.length c2]]:Ru)),r11) rfl (sc rfl (sc rfl (sc rfl (sc rfl (sc rfl (sc rfl sn)))))) (ae.ab [5,6,7,8,9,10,11] rfl rfl)
 refine RV rfl h8<|RN<|RK<|RI ?_;obtain⟨r7,h23,hF⟩:=J hF;refine RY (G:=(fun(r:SB (Int×Bool×SB Int)×Bool) (g:Rv×Ru ×(Nat->Prop))=>match r,g with |(l10,v7),(a6,e3,r8)=>⟨.normal,[(0,.slice a1 l1.length c1),(1,.int .i64 x3),(5,ptr b0 0),(7,.slice a6 l10.length l10.length),(8,.bool v7),(9,.int .i64 v1)],[.rd a1 c1 3 l1.length e0,.gen (fi bG r0 l1 e0),.obj b0 (.cells [.bool x4,.slice a0 l2.length c0] .own),.rd a0 c0 1 l2.length (l2.map (eI .i64)),.sl a6 3 l10.length e3,.gen (fi bG r8 l10 e3),.gen (bu H)]⟩) r7) ?_ ?_
 clear hF;revert r7;intro r hF;refine RI ?_;obtain⟨v5,h24,hF⟩:=J hF;refine RY (G:=(fun(r:Bool) (g:SC)=>match r,g with|v5,_=>⟨.normal,[(0,.slice a1 l1.length c1),(1,.int .i64 x3),(5,ptr b0 0),(7,.slice a2 l3.length l3.length),(8,.bool v3),(9,.int .i64 v1),(49,.bool v5)],[.rd a1 c1 3 l1.length e0,.gen (fi bG r0 l1 e0),.obj b0 (.cells [.bool x4,.slice a0 l2.length c0] .own),.rd a0 c0 1 l2.length (l2.map (eI .i64)),.sl a2 3 l3.length e1,.gen (fi bG r1 l3 e1),.gen (bu H)]⟩) v5) ?_ ?_
 clear hF;revert v5;intro r hF;refine RH<|RG (aa rfl) rfl<|RG (eG rfl rfl) rfl<|RG (aa rfl) rfl ?_;rcases ah hF with⟨h1,hF⟩|⟨h1,hF⟩
 refine RL (aa rfl) (gg rfl rfl (bY h1)) rfl<|RL (aa rfl) (gg rfl rfl (bY h1)) rfl ?_;obtain⟨h4,hF⟩:=al hF;replace h4:=au h4;refine Sa (k:=0) rfl (aW h4) ?_;rintro b5 o3 rfl;refine RL (bp jX rfl rfl h4) (gg rfl rfl (bY h1)) rfl<|RL (az (r:=ptr b5 (o3+v1.toNat*3+0)) rfl (vB _ _)) (gg rfl rfl (bY h1)) rfl ?_;obtain⟨⟨x14,x17,l14⟩,h25,hF⟩:=J hF;refine RS (tq (r:=bG) (w:=3) (j:=v1.toNat) (c:=0) (q:=2) (z:=(x14,x17,l14)) (V:=fun g=>.int .i64 x14) (N:=fun g=>[.rd g.2.2.1 g.2.2.2 1 l14.length (l14.map (eI .i64)),.ro b5 o3 3 l1.length e0,.rd (some ⟨b5,o3,none⟩) c1 3 l1.length e0,.gen (fi bG r0 l1 e0),.obj b0 (.cells [.bool x4,.slice a0 l2.length c0] .own),.rd a0 c0 1 l2.length (l2.map (eI .i64)),.sl a2 3 l3.length e1,.gen (fi bG r1 l3 e1),.gen (bu H)]) bw rfl rfl (tI (k:=0) rfl) rfl h25 (fun _=>rfl) rfl (fun _=>rfl)) (gg rfl rfl (bY h1)) rfl ?_;rintro⟨_,_,⟨a15,c6⟩⟩;refine RL (aa rfl) (gg rfl rfl (bY h1)) rfl<|RL (aj rfl rfl (aZ _ _ _)) (gg rfl rfl (bY h1)) rfl<|RG (cw rfl h1 rfl) rfl<|RJ ?_;cases hF;exact RM () rfl (sc rfl (sc rfl (sc rfl (sc rfl (sc rfl (sc rfl (sc rfl sn))))))) (ae.ab [2,3,4,5,6,7,8] rfl rfl)
 refine RQ (gg rfl rfl (bX h1)) rfl<|RQ (gg rfl rfl (bX h1)) rfl<|RQ (gg rfl rfl (bX h1)) rfl<|RQ (gg rfl rfl (bX h1)) rfl<|RQ (gg rfl rfl (bX h1)) rfl<|RQ (gg rfl rfl (bX h1)) rfl<|RQ (gg rfl rfl (bX h1)) rfl<|RG (cp rfl h1 rfl) rfl<|RJ ?_;cases hF;exact RM () rfl (sc rfl (sc rfl (sc rfl (sc rfl (sc rfl (sc rfl (sc rfl sn))))))) (ae.ab [0,1,2,3,4,5,6] rfl rfl)
 rintro⟨⟩;refine RK ?_;rcases ah hF with⟨h9,hF⟩|⟨h9,hF⟩
 refine RT rfl h9<|RI<|RH<|RG (aa rfl) rfl<|RG (aa rfl) rfl<|RG (aw (k:=2) cR rfl rfl rfl) rfl<|RG (cY rfl zG rfl (cV Fb rfl rfl rfl)) rfl<|RS (fS (es:=[[.int .i64 x3,.bool x4,.slice a0 l2.length c0]]) jX rfl (gD jX zG rfl rfl) rfl rfl) gn rfl fun b8=>?_;refine Wo.dp (r:=bG) (L:=([(x3,x4,l2)]:SB (Int×Bool×SB Int))) (es:=[[.int .i64 x3,.bool x4,.slice a0 l2.length c0]]) (Ar.cons (r:=bG) (z:=(x3,x4,l2)) (g:=((),(),(a0,c0))) (Lf.p (Lf.f (jh .i64) _) (Lf.p (Lf.f (Nx) _) (Lf.s (k:=4) rfl))) Ar.nil) ?_;intro r16;obtain⟨h26,hF⟩:=al hF;refine RS (AJ (r:=bG) (k:=6) (q:=7) (k2:=1) (q2:=0) (L:=l3) (L':=([(x3,x4,l2)]:SB (Int×Bool×SB Int))) jX ⟨_,C0⟩ rfl rfl rfl rfl (.arr _ _ _ _ _) rfl rfl h26) gn rfl ?_;rintro⟨a11,r12⟩;refine RG (ai rfl) rfl<|RJ<|RK<|RH<|RG (ai rfl) rfl<|RJ ?_;cases hF;exact RM (a11,(e1++([[.int .i64 x3,.bool x4,.slice a0 l2.length c0]]:Ru)),r12) rfl (sc rfl (sc rfl (sc rfl (sc rfl (sc rfl (sc rfl sn)))))) (ae.ab [2,3,4,5,6,7,8] rfl rfl)
 refine RV rfl h9<|RN ?_;cases hF;exact RM (a2,e1,r1) rfl (sc rfl (sc rfl (sc rfl (sc rfl (sc rfl (sc rfl sn)))))) (ae.ab [0,1,2,3,4,5,6] rfl rfl)
 clear h23;obtain⟨l10,v7⟩:=r7;rintro⟨a6,e3,r8⟩;refine RK<|RH<|RG (aa rfl) rfl<|RG (aa rfl) rfl<|RG (aa rfl) rfl ?_;obtain⟨h5,hF⟩:=al hF;replace h5:=au h5;refine Sa (k:=0) rfl (aW h5) ?_;rintro b6 o4 rfl;refine RL (bp jX rfl rfl h5) gn rfl ?_;obtain⟨⟨x10,x11,l7⟩,h27,hF⟩:=J hF;refine RS (tq (r:=bG) (w:=3) (j:=v1.toNat) (c:=0) (q:=2) (z:=(x10,x11,l7)) (V:=fun g=>.agg #[.int .i64 x10,.bool x11,.slice g.2.2.1 l7.length g.2.2.2]) (N:=fun g=>[.rd g.2.2.1 g.2.2.2 1 l7.length (l7.map (eI .i64)),.ro b6 o4 3 l1.length e0,.rd (some ⟨b6,o4,none⟩) c1 3 l1.length e0,.gen (fi bG r0 l1 e0),.obj b0 (.cells [.bool x4,.slice a0 l2.length c0] .own),.rd a0 c0 1 l2.length (l2.map (eI .i64)),.sl a6 3 l10.length e3,.gen (fi bG r8 l10 e3),.gen (bu H)]) Mj rfl rfl (tI (k:=0) rfl) rfl h27 (fun _=>rfl) rfl (fun _=>rfl)) gn rfl ?_;rintro⟨_,_,⟨a7,c3⟩⟩;refine RS (fS (es:=[[.int .i64 x10,.bool x11,.slice a7 l7.length c3]]) jX rfl (gD jX zG rfl rfl) rfl rfl) gn rfl fun b9=>?_;refine Wo.dp (r:=bG) (L:=([(x10,x11,l7)]:SB (Int×Bool×SB Int))) (es:=[[.int .i64 x10,.bool x11,.slice a7 l7.length c3]]) (Ar.cons (r:=bG) (z:=(x10,x11,l7)) (g:=((),(),(a7,c3))) (Lf.p (Lf.f (jh .i64) _) (Lf.p (Lf.f (Nx) _) (Lf.s (k:=1) rfl))) Ar.nil) ?_;intro r17;obtain⟨h28,hF⟩:=al hF;refine RS (AJ (r:=bG) (k:=8) (q:=9) (k2:=1) (q2:=0) (L:=l10) (L':=([(x10,x11,l7)]:SB (Int×Bool×SB Int))) jX ⟨_,C0⟩ rfl rfl rfl rfl (.arr _ _ _ _ _) rfl rfl h28) gn rfl ?_;rintro⟨a12,r13⟩;refine RG (ai rfl) rfl<|RJ<|R3 ?_;cases hF;exact RM (a12,(e3++([[.int .i64 x10,.bool x11,.slice a7 l7.length c3]]:Ru)),r13) rfl (sc rfl (sc rfl (sc rfl (sc rfl (sc rfl (sc rfl sn)))))) (ae.ab [4,5,6,7,8,9,10] rfl rfl)
 clear h17;obtain⟨l11,v6⟩:=r5;rintro⟨a4,e4,r6⟩;refine RK<|RH<|RG (aa rfl) rfl<|RG (aj rfl rfl (aA _ _ _)) rfl<|RG (ai rfl) rfl<|RJ ?_;cases hF;exact RM (a4,e4,r6) rfl (sc rfl (sc rfl (sc rfl (sc rfl (sc rfl (sc rfl sn)))))) (ae.ab [0,1,2,3,4,5,6] rfl rfl)
 refine RV rfl h7<|R1<|R6 ?_;cases hF;exact RM (a2,e1,r1) rfl (sc rfl (sc rfl (sc rfl (sc rfl sn)))) (ae.ab [2,3,4,5,6] rfl rfl)
 clear h6;obtain⟨l4,v2⟩:=r10;rintro⟨a3,e2,r4⟩;refine R7<|RK<|RI ?_;obtain⟨l8,h29,hF⟩:=J hF;refine RY (G:=(fun(r:SB (Int×Bool×SB Int)) (g:Rv×Ru ×(Nat->Prop))=>match r,g with|l8,(a8,e5,r9)=>⟨.normal,[(7,.slice a8 l8.length l8.length)],[.sl a8 3 l8.length e5,.gen (fi bG r9 l8 e5),.gen (bu H)]⟩) l8) ?_ ?_
 clear hF;revert l8;intro r hF;refine RI<|RH<|RG (aa rfl) rfl<|RG (eG rfl rfl) rfl<|RJ<|RK ?_;rcases ah hF with⟨h10,hF⟩|⟨h10,hF⟩
 refine RT rfl h10<|RH<|RG (aa rfl) rfl<|RG (aa rfl) rfl<|RG (aw (k:=0) cR rfl rfl rfl) rfl<|RG (cY rfl zG rfl (cV Fb rfl rfl rfl)) rfl<|RS (fS (es:=[[.int .i64 x3,.bool x4,.slice a0 l2.length c0]]) jX rfl (gD jX zG rfl rfl) rfl rfl) gn rfl fun b10=>?_;refine Wo.dp (r:=bG) (L:=([(x3,x4,l2)]:SB (Int×Bool×SB Int))) (es:=[[.int .i64 x3,.bool x4,.slice a0 l2.length c0]]) (Ar.cons (r:=bG) (z:=(x3,x4,l2)) (g:=((),(),(a0,c0))) (Lf.p (Lf.f (jh .i64) _) (Lf.p (Lf.f (Nx) _) (Lf.s (k:=2) rfl))) Ar.nil) ?_;intro r18;obtain⟨h30,hF⟩:=al hF;refine RS (AJ (r:=bG) (k:=4) (q:=5) (k2:=1) (q2:=0) (L:=l4) (L':=([(x3,x4,l2)]:SB (Int×Bool×SB Int))) jX ⟨_,C0⟩ rfl rfl rfl rfl (.arr _ _ _ _ _) rfl rfl h30) gn rfl ?_;rintro⟨a13,r14⟩;refine RG (ai rfl) rfl<|RJ ?_;cases hF;exact RM (a13,(e2++([[.int .i64 x3,.bool x4,.slice a0 l2.length c0]]:Ru)),r14) rfl (sc rfl sn) (ae.ab [4,5,6] rfl rfl)
 refine RV rfl h10<|RN ?_;have hr:=Pf hF;subst r;exact RM (a3,e2,r4) rfl (sc rfl sn) (ae.ab [2,3,4] rfl rfl)
 rintro⟨a8,e5,r9⟩;refine RK<|RI<|RH<|RG (aa rfl) rfl<|RG (ai rfl) rfl<|RJ<|RK<|RO ?_;have hr:=Pf hF;subst r;exact RR (.tmp rfl .nil) fun m' hm=>⟨(a8,l8.length,l8.length,e5,r9),rfl,(ae.trans (ae.freeze (k:=0) rfl) (ae.ab [0,1,2] rfl rfl)) m' hm⟩
def Fh(n:Nat)(l1:Rs)(a0:Rv)(c0:Nat)(r:Rs×Int)(hF:LY n l1=some r)(m:Sr)(h26:Rd m a0 c0 2 l1.length (l1.map (eP (eI .i64) (eI .i64)))) :
  aK aG 91 [.slice a0 l1.length c0] m (fun v m'=>∃x:Rv×Nat,v=.tuple #[.slice x.1 x.2 x.2,.int .i64 r.2]/\Hp m m' [.sl x.1 2 x.2 (r.1.map (eP (eI .i64) (eI .i64)))]):=by
 unfold LY at hF;refine aC (m0:=m) (ps:=[.rd a0 c0 2 l1.length (l1.map (eP (eI .i64) (eI .i64)))]) (N:=116) (rs:=[.tmp 2,.tmp 3]) rfl Tryz.func91 rfl rfl rfl (Hp.mI (RZ m) kl h26)<|RI<|RH<|RG (ai rfl) rfl<|RG (ai rfl) rfl<|RJ<|RK<|RI<|RI<|RH<|RG (aa rfl) rfl<|RG (bz (k:=0) LK rfl rfl (.inl rfl)) rfl<|RG (aj rfl rfl (aZ _ _ _)) rfl<|RJ<|RK ?_;rcases ah hF with⟨h6,hF⟩|⟨h6,hF⟩
 refine RT rfl h6<|RI<|RH<|RG (ai rfl) rfl<|RG (ai rfl) rfl<|RJ<|RK<|RO<|R0 ?_;cases hF;exact RR (.tmp rfl (.tmp rfl .nil)) fun m' hm=>⟨(none,0),rfl,(ae.trans (ae.nil 2 rfl) (ae.ab [0] rfl rfl)) m' hm⟩
 refine RV rfl h6<|RN<|RK<|RI<|RH<|RG (ai rfl) rfl<|RJ<|RK<|RI<|RI<|RH<|RG (ai rfl) rfl<|RJ<|RK<|RP ?_;obtain⟨r6,h7,hF⟩:=J hF;refine RY (G:=(fun(r:SC⊕SC) (g:SC)=>match r,g with|.inl _,_=>⟨.ret,[(2,.slice none 0 0),(3,.int .i64 2)],[]⟩|.inr _,_=>⟨(.exit 0),[(0,.slice a0 l1.length c0),(4,.slice none 0 0)],[.rd a0 c0 2 l1.length (l1.map (eP (eI .i64) (eI .i64)))]⟩) r6) ?_ ?_
 refine R8 (fs':=[(0,.slice a0 l1.length c0),(4,.slice none 0 0),(5,.int .i64 0)]) (ps':=[.rd a0 c0 2 l1.length (l1.map (eP (eI .i64) (eI .i64)))]) (sc rfl (sc rfl (sc rfl sn))) (ae.ab [0] rfl rfl) ?_;refine R2 (σ:=Int) (ρ:=(SC)⊕SC) (γ:=SC) (δ:=fun _=>SC) _ (fun(s:Int) (g:SC)=>match s,g with|v2,_=>⟨.normal,[(0,.slice a0 l1.length c0),(4,.slice none 0 0),(5,.int .i64 v2)],[.rd a0 c0 2 l1.length (l1.map (eP (eI .i64) (eI .i64)))]⟩) (fun(r:SC⊕SC) (g:SC)=>match r,g with|.inl _,_=>⟨.ret,[(2,.slice none 0 0),(3,.int .i64 2)],[]⟩|.inr _,_=>⟨(.exit 0),[(0,.slice a0 l1.length c0),(4,.slice none 0 0)],[.rd a0 c0 2 l1.length (l1.map (eP (eI .i64) (eI .i64)))]⟩) ?_ (fun _ _=>rfl) (fun r d=>by rcases r with _|_<;>(intro e; cases e)) _ _ _ h7 ()
 clear hF h7;rintro v2 ⟨⟩ r hF;unfold wS at hF;refine RI<|RI<|RH<|RG (aa rfl) rfl<|RG (aa rfl) rfl<|RG (bz (k:=0) LK rfl rfl (.inl rfl)) rfl<|RG (aj rfl rfl (aF _ _ _)) rfl<|RJ<|RK ?_;rcases ah hF with⟨h8,hF⟩|⟨h8,hF⟩
 refine RT rfl h8<|RN<|RK<|RI<|RP<|RI ?_;obtain⟨v4,h27,hF⟩:=J hF;refine RY (G:=(fun(r:Bool) (g:SC)=>match r,g with|v4,_=>⟨.normal,[(0,.slice a0 l1.length c0),(4,.slice none 0 0),(5,.int .i64 v2),(44,.bool v4)],[.rd a0 c0 2 l1.length (l1.map (eP (eI .i64) (eI .i64)))]⟩) v4) ?_ ?_
 clear hF;revert v4;intro r hF;refine RH<|RG (aa rfl) rfl<|RG (aa rfl) rfl ?_;obtain⟨h3,hF⟩:=al hF;replace h3:=au h3;refine Sa (k:=0) rfl (aW h3) ?_;rintro b3 o2 rfl;refine RL (bp A3 rfl rfl h3) gn rfl<|RG (az (r:=ptr b3 (o2+v2.toNat*2+1)) rfl (ep _ _)) rfl ?_;obtain⟨⟨x10,x13⟩,h9,hF⟩:=J hF;refine RG (bC (k:=0) bw rfl rfl (aL h9) rfl rfl) rfl<|RG (aj rfl rfl (aF _ _ _)) rfl<|RG (aa rfl) rfl ?_;rcases ah hF with⟨h1,hF⟩|⟨h1,hF⟩
 refine RQ (gg rfl rfl (cq h1)) rfl<|RQ (gg rfl rfl (cq h1)) rfl<|RQ (gg rfl rfl (cq h1)) rfl<|RQ (gg rfl rfl (cq h1)) rfl<|RQ (gg rfl rfl (cq h1)) rfl<|RQ (gg rfl rfl (cq h1)) rfl<|RG (cw rfl h1 rfl) rfl<|RG (aa rfl) rfl<|RQ (gg rfl rfl rfl) rfl<|RQ (gg rfl rfl rfl) rfl ?_;refine RQ (gg rfl rfl rfl) rfl<|RQ (gg rfl rfl rfl) rfl<|RQ (gg rfl rfl rfl) rfl<|RQ (gg rfl rfl rfl) rfl<|RQ (gg rfl rfl rfl) rfl<|RG (ir rfl rfl) rfl<|RJ ?_;cases hF;exact RM () rfl (sc rfl (sc rfl (sc rfl (sc rfl sn)))) (ae.ab [1] rfl rfl)
 refine RL (aa rfl) (gg rfl rfl (cb h1)) rfl<|RL (aa rfl) (gg rfl rfl (cb h1)) rfl ?_;obtain⟨h10,hF⟩:=al hF;replace h10:=au h10;refine RL (bp A3 rfl rfl h10) (gg rfl rfl (cb h1)) rfl<|RL (az (r:=ptr b3 (o2+v2.toNat*2+1)) rfl (ep _ _)) (gg rfl rfl (cb h1)) rfl<|RL (bC (k:=0) bw rfl rfl (aL h9) rfl rfl) (gg rfl rfl (cb h1)) rfl<|RL (aj rfl rfl (aZ _ _ _)) (gg rfl rfl (cb h1)) rfl<|RG (cp rfl h1 rfl) rfl<|RG (aa rfl) rfl ?_;rcases ah hF with⟨h0,hF⟩|⟨h0,hF⟩
 refine RQ (gg rfl rfl (cq h0)) rfl<|RQ (gg rfl rfl (cq h0)) rfl<|RQ (gg rfl rfl (cq h0)) rfl<|RQ (gg rfl rfl (cq h0)) rfl<|RQ (gg rfl rfl (cq h0)) rfl<|RQ (gg rfl rfl (cq h0)) rfl<|RQ (gg rfl rfl (cq h0)) rfl<|RG (cw rfl h0 rfl) rfl<|RJ ?_;cases hF;exact RM () rfl (sc rfl (sc rfl (sc rfl (sc rfl sn)))) (ae.ab [1] rfl rfl)
 refine RL (aa rfl) (gg rfl rfl (cb h0)) rfl<|RL (aa rfl) (gg rfl rfl (cb h0)) rfl ?_;obtain⟨h11,hF⟩:=al hF;replace h11:=au h11;refine RL (bp A3 rfl rfl h11) (gg rfl rfl (cb h0)) rfl<|RL (az (r:=ptr b3 (o2+v2.toNat*2+0)) rfl (jH _ _)) (gg rfl rfl (cb h0)) rfl<|RL (bC (k:=0) bw rfl rfl (aL h9) rfl rfl) (gg rfl rfl (cb h0)) rfl ?_;obtain⟨r14,h28,hF⟩:=J hF;refine RS (bM rfl rfl (fun m hm=>vp n x10  _ h28 m) fun _=>rfl) (gg rfl rfl (cb h0)) rfl ?_;rintro⟨⟩;refine RL (eG rfl rfl) (gg rfl rfl (cb h0)) rfl<|RG (cp rfl h0 rfl) rfl<|RJ ?_;cases hF;exact RM () rfl (sc rfl (sc rfl (sc rfl (sc rfl sn)))) (ae.ab [1] rfl rfl)
 rintro⟨⟩;refine RK ?_;rcases ah hF with⟨h12,hF⟩|⟨h12,hF⟩
 refine RT rfl h12<|RI<|RH<|RG (ai rfl) rfl<|RG (ai rfl) rfl<|RJ<|RK<|RO<|R5<|R0 ?_;cases hF;exact RM () rfl (sc rfl (sc rfl sn)) (ae.ab [] rfl rfl)
 refine RV rfl h12<|RN<|R3<|RK<|RH<|RG (aa rfl) rfl<|RG (aj rfl rfl (aA _ _ _)) rfl<|RG (ai rfl) rfl<|RJ ?_;cases hF;exact RM () rfl (sc rfl (sc rfl (sc rfl sn))) (ae.ab [0] rfl rfl)
 refine RV rfl h8<|R1<|R6 ?_;cases hF;exact RM () rfl (sc rfl (sc rfl sn)) (ae.ab [0] rfl rfl)
 rcases r6 with _|_
 rintro⟨⟩;refine R5<|R0 ?_;cases hF;exact RR (.tmp rfl (.tmp rfl .nil)) fun m' hm=>⟨(none,0),rfl,(ae.trans (ae.nil 2 rfl) (ae.ab [0] rfl rfl)) m' hm⟩
 rintro⟨⟩;refine R7<|RK<|RI<|RI<|RH<|RG (ai rfl) rfl<|RJ<|RK<|RP ?_;obtain⟨l2,h13,hF⟩:=J hF;refine RY (G:=(fun(r:SB (Int×Bool×SB Int)) (g:Rv×Nat×Ru ×(Nat->Prop))=>match r,g with|l2,(a1,c1,e0,r0)=>⟨(.exit 2),[(4,.slice a1 l2.length c1)],[.rd a1 c1 3 l2.length e0,.gen (fi bG r0 l2 e0)]⟩) l2) ?_ ?_
 refine R8 (fs':=[(0,.slice a0 l1.length c0),(4,.slice none ([]:SB (Int×Bool×SB Int)).length 0),(6,.int .i64 0)]) (ps':=[.rd a0 c0 2 l1.length (l1.map (eP (eI .i64) (eI .i64))),.rd none 0 3 ([]:SB (Int×Bool×SB Int)).length ([]),.gen (fi bG (fun _=>False) ([]:SB (Int×Bool×SB Int)) ([]))]) (sc rfl (sc rfl (sc rfl sn))) (ae.trans (ae.Ob 3) (ae.trans (ae.Ji (r:=bG)) (ae.ab [2,1,0] rfl rfl))) ?_;refine R2 (σ:=SB (Int×Bool×SB Int)×Int) (ρ:=SB (Int×Bool×SB Int)) (γ:=Rv×Nat×Ru ×(Nat->Prop)) (δ:=fun _=>Rv×Nat×Ru ×(Nat->Prop)) _ (fun(s:SB (Int×Bool×SB Int)×Int) (g:Rv×Nat×Ru ×(Nat->Prop))=>match s,g with |(l9,v3),(a4,c2,e1,r1)=>⟨.normal,[(0,.slice a0 l1.length c0),(4,.slice a4 l9.length c2),(6,.int .i64 v3)],[.rd a0 c0 2 l1.length (l1.map (eP (eI .i64) (eI .i64))),.rd a4 c2 3 l9.length e1,.gen (fi bG r1 l9 e1)]⟩) (fun(r:SB (Int×Bool×SB Int)) (g:Rv×Nat×Ru ×(Nat->Prop))=>match r,g with|l2,(a1,c1,e0,r0)=>⟨(.exit 2),[(4,.slice a1 l2.length c1)],[.rd a1 c1 3 l2.length e0,.gen (fi bG r0 l2 e0)]⟩) ?_ (fun _ _=>rfl) (fun r d=>by intro e; cases e) _ _ _ h13 (none,0,[],(fun _=>False))
 clear hF h13;rintro⟨l9,v3⟩ ⟨a4,c2,e1,r1⟩ r hF;unfold tZ at hF;refine RI<|RI<|RH<|RG (aa rfl) rfl<|RG (aa rfl) rfl<|RG (bz (k:=0) LK rfl rfl (.inl rfl)) rfl<|RG (aj rfl rfl (aF _ _ _)) rfl<|RJ<|RK ?_;rcases ah hF with⟨h14,hF⟩|⟨h14,hF⟩
 refine RT rfl h14<|RN<|RK<|RI ?_;obtain⟨l8,h29,hF⟩:=J hF;refine RY (G:=(fun(r:SB (Int×Bool×SB Int)) (g:Rv×Nat×Ru ×(Nat->Prop))=>match r,g with|l8,(a5,c3,e2,r4)=>⟨.normal,[(0,.slice a0 l1.length c0),(4,.slice a5 l8.length c3),(6,.int .i64 v3)],[.rd a0 c0 2 l1.length (l1.map (eP (eI .i64) (eI .i64))),.rd a5 c3 3 l8.length e2,.gen (fi bG r4 l8 e2)]⟩) l8) ?_ ?_
 clear hF;revert l8;intro r hF;refine RP<|RI<|RH<|RG (aa rfl) rfl<|RG (aa rfl) rfl ?_;obtain⟨h4,hF⟩:=al hF;replace h4:=au h4;refine Sa (k:=0) rfl (aW h4) ?_;rintro b4 o3 rfl;refine RL (bp A3 rfl rfl h4) gn rfl<|RG (az (r:=ptr b4 (o3+v3.toNat*2+1)) rfl (ep _ _)) rfl ?_;obtain⟨⟨x11,x12⟩,h15,hF⟩:=J hF;refine RG (bC (k:=0) bw rfl rfl (aL h15) rfl rfl) rfl<|RG (aj rfl rfl (aZ _ _ _)) rfl<|RJ<|RK ?_;rcases ah hF with⟨h16,hF⟩|⟨h16,hF⟩
 refine RT rfl h16<|RI<|RH<|RG (aa rfl) rfl<|RG (aa rfl) rfl ?_;obtain⟨h17,hF⟩:=al hF;replace h17:=au h17;refine RL (bp A3 rfl rfl h17) gn rfl<|RG (az (r:=ptr b4 (o3+v3.toNat*2+1)) rfl (ep _ _)) rfl<|RG (bC (k:=0) bw rfl rfl (aL h15) rfl rfl) rfl ?_;obtain⟨⟨r8,r9⟩,h30,hF⟩:=J hF;refine RS (bM rfl rfl (fun m hm=>Bo n x12  _ h30 m) fun _=>rfl) gn rfl ?_;rintro⟨⟩;refine RG (aa rfl) rfl<|RG (cr rfl rfl) rfl<|RG (cr rfl rfl) rfl<|RG (ai rfl) rfl<|RG (ai rfl) rfl<|RJ<|RK<|RH<|RG (aa rfl) rfl<|RG (aa rfl) rfl<|RG (aa rfl) rfl<|RG (aa rfl) rfl ?_;obtain⟨h18,hF⟩:=al hF;replace h18:=au h18;refine RL (bp A3 rfl rfl h18) gn rfl<|RG (az (r:=ptr b4 (o3+v3.toNat*2+0)) rfl (jH _ _)) rfl<|RG (bC (k:=0) bw rfl rfl (aL h15) rfl rfl) rfl ?_;obtain⟨⟨r10,l11⟩,h31,hF⟩:=J hF;refine RS (fc (N:=(fun x:Rv×Nat×Nat=>[.rd (x.1) (x.2.1) 1 (x.2.2) (l11.map (eI .i64))])) rfl rfl (fun m hm=>nI n x11  _ h31 m hm.bt) fun _=>rfl) gn rfl ?_;rintro⟨a7,c4,n1⟩;refine Se (k:=0) (xs:=l11) rfl ?_;rintro rfl;refine RG (aa rfl) rfl ?_;obtain⟨⟨r11,l12⟩,h32,hF⟩:=J hF;refine RS (fc (N:=(fun x:Rv×Nat×Nat=>[.rd (x.1) (x.2.1) 1 (x.2.2) (l12.map (eI .i64))])) rfl rfl (fun m hm=>nI n r8  _ h32 m hm.bt) fun _=>rfl) gn rfl ?_;rintro⟨a8,c5,n2⟩;refine Se (k:=0) (xs:=l12) rfl ?_;rintro rfl;obtain⟨⟨r12,l13⟩,h33,hF⟩:=J hF;refine RS (fc (N:=(fun x:Rv×Nat×Nat=>[.rd (x.1) (x.2.1) 1 (x.2.2) (l13.map (eI .i64))])) rfl rfl (fun m hm=>H3 n r10 l11 r11 l12 a7 c4 a8 c5 _ h33 m hm.bt (hm.rd (k:=1) rfl (.rd _ _ _ _ _)) (hm.bZ (k:=1) rfl) (hm.rd (k:=0) rfl (.rd _ _ _ _ _)) (hm.bZ (k:=0) rfl)) fun _=>rfl) gn rfl ?_;rintro⟨a9,c6,n4⟩;refine Se (k:=0) (xs:=l13) rfl ?_;rintro rfl;obtain⟨l14,h34,hF⟩:=J hF;refine RS (fc (N:=(fun x:Rv×Nat×Nat×Ru ×(Nat->Prop)=>[.rd (x.1) (x.2.1) 3 (x.2.2.1) (x.2.2.2.1),.gen (fi bG (x.2.2.2.2) l14 (x.2.2.2.1))])) rfl rfl (fun m hm=>Ic n l9 r9 r12 l13 a4 c2 r1 e1 a9 c6 _ h34 m hm.bt (hm.rd (k:=5) rfl (.rd _ _ _ _ _)) (hm.bZ (k:=5) rfl) (hm.dp (q:=6) rfl) (hm.JJ (q:=6) rfl) (hm.rd (k:=0) rfl (.rd _ _ _ _ _)) (hm.bZ (k:=0) rfl)) fun _=>rfl) gn rfl ?_;rintro⟨a10,c7,n8,e3,r13⟩;refine Wo.Oy (k:=0) (q:=1) (L:=l14) rfl (.inr (.inl ⟨_,rfl⟩)) rfl ?_;rintro rfl;refine RG (ai rfl) rfl<|RJ<|R3 ?_;have hr:=Pf hF;subst r;exact RM (a10,c7,e3,r13) rfl (sc rfl (sc rfl (sc rfl sn))) (ae.ab [6,0,1] rfl rfl)
 refine RV rfl h16<|RN<|R3 ?_;have hr:=Pf hF;subst r;exact RM (a4,c2,e1,r1) rfl (sc rfl (sc rfl (sc rfl sn))) (ae.ab [1,2,3] rfl rfl)
 rintro⟨a5,c3,e2,r4⟩;refine RK<|RH<|RG (aa rfl) rfl<|RG (aj rfl rfl (aA _ _ _)) rfl<|RG (ai rfl) rfl<|RJ ?_;cases hF;exact RM (a5,c3,e2,r4) rfl (sc rfl (sc rfl (sc rfl sn))) (ae.ab [0,1,2] rfl rfl)
 refine RV rfl h14<|R1<|R6 ?_;cases hF;exact RM (a4,c2,e1,r1) rfl (sc rfl sn) (ae.ab [1,2] rfl rfl)
 rintro⟨a1,c1,e0,r0⟩;refine R7<|RK<|RI<|RH<|RG (ai rfl) rfl<|RJ<|RK<|RI<|RI<|RH<|RG (ai rfl) rfl<|RJ<|RK<|RP ?_;obtain⟨r7,h19,hF⟩:=J hF;refine RY (G:=(fun(r:SC⊕Rs) (g:Rv)=>match r,g with|.inl _,_=>⟨.ret,[(2,.slice none 0 0),(3,.int .i64 6)],[]⟩|.inr l4,a3=>⟨(.exit 4),[(9,.slice a3 l4.length l4.length)],[.sl a3 2 l4.length (l4.map (eP (eI .i64) (eI .i64)))]⟩) r7) ?_ ?_
 refine R8 (fs':=[(4,.slice a1 l2.length c1),(9,.slice none ([]:Rs).length ([]:Rs).length),(10,.int .i64 0)]) (ps':=[.rd a1 c1 3 l2.length e0,.gen (fi bG r0 l2 e0),.sl none 2 ([]:Rs).length (([]:Rs).map (eP (eI .i64) (eI .i64)))]) (sc rfl (sc rfl (sc rfl sn))) (ae.trans (ae.nil 2 rfl) (ae.ab [1,2,0] rfl rfl)) ?_;refine R2 (σ:=Rs×Int) (ρ:=(SC)⊕Rs) (γ:=Rv) (δ:=fun _=>Rv) _ (fun(s:Rs×Int) (g:Rv)=>match s,g with |(l3,v1),a2=>⟨.normal,[(4,.slice a1 l2.length c1),(9,.slice a2 l3.length l3.length),(10,.int .i64 v1)],[.rd a1 c1 3 l2.length e0,.gen (fi bG r0 l2 e0),.sl a2 2 l3.length (l3.map (eP (eI .i64) (eI .i64)))]⟩) (fun(r:SC⊕Rs) (g:Rv)=>match r,g with|.inl _,_=>⟨.ret,[(2,.slice none 0 0),(3,.int .i64 6)],[]⟩|.inr l4,a3=>⟨(.exit 4),[(9,.slice a3 l4.length l4.length)],[.sl a3 2 l4.length (l4.map (eP (eI .i64) (eI .i64)))]⟩) ?_ (fun _ _=>rfl) (fun r d=>by rcases r with _|_<;>(intro e; cases e)) _ _ _ h19 none
 clear hF h19;rintro⟨l3,v1⟩ a2 r hF;unfold tH at hF;refine RI<|RI<|RH<|RG (aa rfl) rfl<|RG (aa rfl) rfl<|RG (bz (k:=0) C0 rfl rfl (.inl rfl)) rfl<|RG (aj rfl rfl (aF _ _ _)) rfl<|RJ<|RK ?_;rcases ah hF with⟨h20,hF⟩|⟨h20,hF⟩
 refine RT rfl h20<|RN<|RK<|RI ?_;obtain⟨r5,h35,hF⟩:=J hF;refine RY (G:=(fun(r:SC⊕Rs) (g:Rv)=>match r,g with|.inl _,_=>⟨.ret,[(2,.slice none 0 0),(3,.int .i64 6)],[]⟩|.inr l10,a6=>⟨.normal,[(4,.slice a1 l2.length c1),(9,.slice a6 l10.length l10.length),(10,.int .i64 v1)],[.rd a1 c1 3 l2.length e0,.gen (fi bG r0 l2 e0),.sl a6 2 l10.length (l10.map (eP (eI .i64) (eI .i64)))]⟩) r5) ?_ ?_
 clear hF;revert r5;intro r hF;refine RP<|RI<|RH<|RG (aa rfl) rfl<|RG (aa rfl) rfl ?_;obtain⟨h5,hF⟩:=al hF;replace h5:=au h5;refine Sa (k:=0) rfl (aW h5) ?_;rintro b0 o1 rfl;refine RL (bp jX rfl rfl h5) gn rfl<|RG (az (r:=ptr b0 (o1+v1.toNat*3+1)) rfl (Bv _ _)) rfl ?_;obtain⟨⟨x3,x4,l7⟩,h25,hF⟩:=J hF;refine RS (tq (r:=bG) (w:=3) (j:=v1.toNat) (c:=1) (q:=2) (z:=(x3,x4,l7)) (V:=fun g=>.agg #[.bool x4,.slice g.2.2.1 l7.length g.2.2.2]) (N:=fun g=>[.rd g.2.2.1 g.2.2.2 1 l7.length (l7.map (eI .i64)),.ro b0 o1 3 l2.length e0,.rd (some ⟨b0,o1,none⟩) c1 3 l2.length e0,.gen (fi bG r0 l2 e0),.sl a2 2 l3.length (l3.map (eP (eI .i64) (eI .i64)))]) cR rfl rfl (tI (k:=0) rfl) rfl h25 (fun _=>rfl) rfl (fun _=>rfl)) gn rfl ?_;rintro⟨_,_,⟨a11,c8⟩⟩;obtain⟨⟨r3,r15⟩,h36,hF⟩:=J hF;refine RS (bM rfl rfl (fun m hm=>BF n x4 l7 a11 c8 _ h36 m (hm.rd (k:=0) rfl (.rd _ _ _ _ _))) fun _=>rfl) gn rfl ?_;rintro⟨⟩;refine RG (aa rfl) rfl<|RG (cr rfl rfl) rfl<|RG (cr rfl rfl) rfl<|RG (ai rfl) rfl<|RG (ai rfl) rfl<|RJ<|RK<|RI<|RI ?_;obtain⟨v5,h37,hF⟩:=J hF;refine RY (G:=(fun(r:Bool) (g:SC)=>match r,g with|v5,_=>⟨.normal,[(4,.slice (some ⟨b0,o1,none⟩) l2.length c1),(9,.slice a2 l3.length l3.length),(10,.int .i64 v1),(11,.int .i64 r3),(99,.bool v5)],[.ro b0 o1 3 l2.length e0,.gen (fi bG r0 l2 e0),.rd (some ⟨b0,o1,none⟩) c1 3 l2.length e0,.sl a2 2 l3.length (l3.map (eP (eI .i64) (eI .i64)))]⟩) v5) ?_ ?_
 clear hF;revert v5;intro r hF;refine RH<|RG (aa rfl) rfl<|RG (aj rfl rfl (cB _ _)) rfl<|RG (aa rfl) rfl ?_;rcases ah hF with⟨h2,hF⟩|⟨h2,hF⟩
 refine RQ (gg rfl rfl (cq h2)) rfl<|RQ (gg rfl rfl (cq h2)) rfl<|RQ (gg rfl rfl (cq h2)) rfl<|RG (cw rfl h2 rfl) rfl<|RJ ?_;cases hF;exact RM () rfl (sc rfl (sc rfl (sc rfl (sc rfl (sc rfl sn))))) (ae.ab [1,3,2,4] rfl rfl)
 refine RL (aa rfl) (gg rfl rfl (cb h2)) rfl ?_;obtain⟨r16,h38,hF⟩:=J hF;refine RS (bM rfl rfl (fun m hm=>vp n r3  _ h38 m) fun _=>rfl) (gg rfl rfl (cb h2)) rfl ?_;rintro⟨⟩;refine RL (eG rfl rfl) (gg rfl rfl (cb h2)) rfl<|RG (cp rfl h2 rfl) rfl<|RJ ?_;cases hF;exact RM () rfl (sc rfl (sc rfl (sc rfl (sc rfl (sc rfl sn))))) (ae.ab [1,3,2,4] rfl rfl)
 rintro⟨⟩;refine RK ?_;rcases ah hF with⟨h21,hF⟩|⟨h21,hF⟩
 refine RT rfl h21<|RI<|RH<|RG (ai rfl) rfl<|RG (ai rfl) rfl<|RJ<|RK<|RO<|R0<|R5 ?_;cases hF;exact RM none rfl (sc rfl (sc rfl sn)) (ae.ab [] rfl rfl)
 refine RV rfl h21<|RN<|RK<|RI<|RH<|RG (aa rfl) rfl<|RG (aj rfl rfl (cB _ _)) rfl<|RJ<|RK ?_;rcases ah hF with⟨h22,hF⟩|⟨h22,hF⟩
 refine RT rfl h22<|RH<|RG (aa rfl) rfl<|RG (aa rfl) rfl<|RG (aa rfl) rfl<|RG (aa rfl) rfl ?_;obtain⟨h23,hF⟩:=al hF;replace h23:=au h23;refine RL (bp jX rfl rfl h23) gn rfl<|RG (az (r:=ptr b0 (o1+v1.toNat*3+0)) rfl (vB _ _)) rfl<|RS (tq (r:=bG) (w:=3) (j:=v1.toNat) (c:=0) (q:=1) (z:=(x3,x4,l7)) (V:=fun g=>.int .i64 x3) (N:=fun g=>[.rd g.2.2.1 g.2.2.2 1 l7.length (l7.map (eI .i64)),.ro b0 o1 3 l2.length e0,.gen (fi bG r0 l2 e0),.rd (some ⟨b0,o1,none⟩) c1 3 l2.length e0,.sl a2 2 l3.length (l3.map (eP (eI .i64) (eI .i64)))]) bw rfl rfl (tI (k:=0) rfl) rfl h25 (fun _=>rfl) rfl (fun _=>rfl)) gn rfl ?_;rintro⟨_,_,⟨a13,c9⟩⟩;refine RG (cY rfl z79 rfl (cV IS rfl rfl rfl)) rfl<|RS (fS (es:=([(r3,x3)]:Rs).map (eP (eI .i64) (eI .i64))) yN rfl (gD yN z79 rfl rfl) rfl rfl) gn rfl fun b5=>?_;obtain⟨h39,hF⟩:=al hF;refine RS (gO (k:=5) (k2:=0) (xs:=(l3:Rs)) (ys:=([(r3,x3)]:Rs)) (yL (jh .i64) (jh .i64)) yN ⟨_,sQ⟩ rfl rfl rfl (.arr _ _ _ _ _) h39) gn rfl fun a12=>?_;refine RG (ai rfl) rfl<|RJ<|R3 ?_;cases hF;exact RM a12 rfl (sc rfl (sc rfl (sc rfl sn))) (ae.ab [4,3,5] rfl rfl)
 refine RV rfl h22<|RN<|R3 ?_;cases hF;exact RM a2 rfl (sc rfl (sc rfl (sc rfl sn))) (ae.ab [2,1,3] rfl rfl)
 rcases r5 with _|l10
 rintro g0;refine R0 ?_;cases hF;exact RM none rfl (sc rfl (sc rfl sn)) (ae.ab [] rfl rfl)
 rintro a6;refine RK<|RH<|RG (aa rfl) rfl<|RG (aj rfl rfl (aA _ _ _)) rfl<|RG (ai rfl) rfl<|RJ ?_;cases hF;exact RM a6 rfl (sc rfl (sc rfl (sc rfl sn))) (ae.ab [0,1,2] rfl rfl)
 refine RV rfl h20<|R1<|R6 ?_;cases hF;exact RM a2 rfl (sc rfl sn) (ae.ab [2] rfl rfl)
 rcases r7 with _|l4
 rintro g1;refine R5<|R0 ?_;cases hF;exact RR (.tmp rfl (.tmp rfl .nil)) fun m' hm=>⟨(none,0),rfl,(ae.trans (ae.nil 2 rfl) (ae.ab [0] rfl rfl)) m' hm⟩
 rintro a3;refine R7<|RK<|RI<|RI<|RH<|RG (aa rfl) rfl<|RG (bz (k:=0) sQ rfl rfl (.inl rfl)) rfl<|RG (aj rfl rfl (aZ _ _ _)) rfl<|RJ<|RK ?_;rcases ah hF with⟨h24,hF⟩|⟨h24,hF⟩
 refine RT rfl h24<|RI<|RH<|RG (ai rfl) rfl<|RG (ai rfl) rfl<|RJ<|RK<|RO<|R0 ?_;cases hF;exact RR (.tmp rfl (.tmp rfl .nil)) fun m' hm=>⟨(none,0),rfl,(ae.trans (ae.nil 2 rfl) (ae.ab [0] rfl rfl)) m' hm⟩
 refine RV rfl h24<|RN<|RK<|RI<|RH<|RG (aa rfl) rfl<|RG (ai rfl) rfl<|RG (ai rfl) rfl<|RJ<|RK<|RO ?_;cases hF;exact RR (.tmp rfl (.tmp rfl .nil)) fun m' hm=>⟨(a3,l4.length),rfl,(ae.ab [0] rfl rfl) m' hm⟩
def J1(n:Nat)(x1:Int)(x2:Int)(x3:Int)(x4:Int)  (r:Rs×Int)(hF:NJ n x1 x2 x3 x4=some r)(m:Sr)  :
  aK aG 74 [.agg #[.int .i64 x1,.int .i64 x2],.agg #[.int .i64 x3,.int .i64 x4]] m (fun v m'=>∃x:Rv×Nat,v=.tuple #[.slice x.1 x.2 x.2,.int .i64 r.2]/\Hp m m' [.sl x.1 2 x.2 (r.1.map (eP (eI .i64) (eI .i64)))]):=by
 unfold NJ at hF;refine aC (m0:=m) (ps:=[]) (N:=36) (rs:=[.tmp 4,.tmp 5]) rfl Tryz.func74 rfl rfl rfl (RZ m)<|RI<|RH<|RS (bQ rfl) gn rfl fun b5=>?_;refine RS (bQ rfl) gn rfl fun b6=>?_;refine RG (ai rfl) rfl<|RG (ai rfl) rfl<|RJ<|RK<|RI<|RI ?_;obtain⟨v26,h32,hF⟩:=J hF;refine RY (G:=(fun(r:Bool) (g:SC)=>match r,g with|v26,_=>⟨.normal,[(2,ptr b5 0),(3,ptr b6 0),(13,.bool v26)],[.obj b5 (.cells [.int .i64 x1,.int .i64 x2] .own),.obj b6 (.cells [.int .i64 x3,.int .i64 x4] .own)]⟩) v26) ?_ ?_
 clear hF;revert v26;intro r hF;refine RH<|RG (aw (k:=1) aS rfl rfl rfl) rfl ?_;obtain⟨r28,h27,hF⟩:=J hF;refine RS (bM rfl rfl (fun m hm=>FZ n x1 x2  _ h27 m) fun _=>rfl) gn rfl ?_;rintro⟨⟩;refine RG (aa rfl) rfl ?_;rcases ah hF with⟨h29,hF⟩|⟨h29,hF⟩
 refine RQ (gg rfl rfl (cq h29)) rfl<|RQ (gg rfl rfl (cq h29)) rfl<|RG (cw rfl h29 rfl) rfl<|RJ ?_;cases hF;exact RM () rfl (sc rfl (sc rfl (sc rfl sn))) (ae.ab [1,0] rfl rfl)
 refine RL (aw (k:=0) aS rfl rfl rfl) (gg rfl rfl (cb h29)) rfl ?_;obtain⟨r31,h30,hF⟩:=J hF;refine RS (bM rfl rfl (fun m hm=>FZ n x3 x4  _ h30 m) fun _=>rfl) (gg rfl rfl (cb h29)) rfl ?_;rintro⟨⟩;refine RG (cp rfl h29 rfl) rfl<|RJ ?_;have hr:=Pf hF;subst r;exact RM () rfl (sc rfl (sc rfl (sc rfl sn))) (ae.ab [1,0] rfl rfl)
 rintro⟨⟩;refine RK ?_;rcases ah hF with⟨h34,hF⟩|⟨h34,hF⟩
 refine RT rfl h34<|RI<|RH<|RG (ai rfl) rfl<|RG (ai rfl) rfl<|RJ<|RK<|RO<|R0 ?_;cases hF;exact RR (.tmp rfl (.tmp rfl .nil)) fun m' hm=>⟨(none,0),rfl,(ae.trans (ae.nil 2 rfl) (ae.ab [0] rfl rfl)) m' hm⟩
 refine RV rfl h34<|RN<|RK<|RI<|R9 (by kernel_rfl)<|RG (az (r:=ptr b5 0) rfl (bj _ _)) rfl<|RG (aw (k:=0) bw rfl rfl rfl) rfl<|RG (az (r:=ptr b6 0) rfl (bj _ _)) rfl<|RG (aw (k:=1) bw rfl rfl rfl) rfl<|RG (aj rfl rfl (aP _ _ _)) rfl<|RG (az (r:=ptr b5 1) rfl (bm _ _)) rfl<|RG (aw (k:=0) bw rfl rfl rfl) rfl<|RG (az (r:=ptr b6 1) rfl (bm _ _)) rfl ?_
 refine RG (aw (k:=1) bw rfl rfl rfl) rfl<|RG (aj rfl rfl (aP _ _ _)) rfl<|RG (ai rfl) rfl<|RG (ai rfl) rfl<|RJ<|RK<|RI<|RH<|RG (aa rfl) rfl<|RG (aa rfl) rfl ?_;obtain⟨y35,h36,hF⟩:=J hF;refine RG (aj rfl rfl ((bE _ _ _).trans (cI h36))) rfl<|RG (aa rfl) rfl<|RG (aa rfl) rfl ?_;obtain⟨y37,h38,hF⟩:=J hF;refine RG (aj rfl rfl ((bE _ _ _).trans (cI h38))) rfl<|RG (aj rfl rfl (aA _ _ _)) rfl<|RG (cY rfl z79 rfl (cV IS rfl rfl rfl)) rfl<|RS (fS (es:=([(1,RC (y35+y37))]:Rs).map (eP (eI .i64) (eI .i64))) A3 rfl (gD A3 z79 rfl rfl) rfl rfl) gn rfl fun b39=>?_;obtain⟨⟨l41,r44⟩,h40,hF⟩:=J hF;refine RS (bM rfl rfl (fun m hm=>Fh n ([(1,RC (y35+y37))]) (some ⟨b39,0,none⟩) 1 _ h40 m (hm.rd (k:=0) rfl (.arr _ _ _ _ _))) fun _=>rfl) gn rfl ?_;rintro⟨a42,n43⟩;refine Wo.len (k:=0) (xs:=l41) rfl ?_;rintro rfl;refine RG (cr rfl rfl) rfl<|RG (cr rfl rfl) rfl<|RG (ai rfl) rfl<|RG (ai rfl) rfl<|RJ<|RK<|RO ?_;cases hF;exact RR (.tmp rfl (.tmp rfl .nil)) fun m' hm=>⟨(a42,l41.length),rfl,(ae.ab [0] rfl rfl) m' hm⟩
def FV(n:Nat)(l1:Rs)(a0:Rv)(c0:Nat)(r:Bool)(hF:LJ n l1=some r)(m:Sr)(h12:Rd m a0 c0 2 l1.length (l1.map (eP (eI .i64) (eI .i64)))) :
  aK aG 92 [.slice a0 l1.length c0] m (Sq m (.bool r)):=by
 unfold LJ at hF;refine aC (m0:=m) (ps:=[.rd a0 c0 2 l1.length (l1.map (eP (eI .i64) (eI .i64)))]) (N:=62) (rs:=[.tmp 2]) rfl Tryz.func92 rfl rfl rfl (Hp.mI (RZ m) kl h12)<|RI<|RH<|RG (ai rfl) rfl<|RJ<|RK<|RI<|RI<|RH<|RG (aa rfl) rfl<|RG (bz (k:=0) sQ rfl rfl (.inl rfl)) rfl<|RG (aj rfl rfl (aZ _ _ _)) rfl<|RJ<|RK ?_;rcases ah hF with⟨h6,hF⟩|⟨h6,hF⟩
 refine RT rfl h6<|RI<|RH<|RG (ai rfl) rfl<|RJ<|RK<|RO<|R0 ?_;cases hF;exact RR (.tmp rfl .nil) fun m' hm=>⟨(),rfl,(ae.ab [] rfl rfl) m' hm⟩
 refine RV rfl h6<|RN<|RK<|RI<|RI<|RH<|RG (ai rfl) rfl<|RJ<|RK<|RP ?_;obtain⟨r0,h7,hF⟩:=J hF;refine RY (G:=(fun(r:SC⊕SC) (g:SC)=>match r,g with|.inl _,_=>⟨.ret,[(2,.bool false)],[]⟩|.inr _,_=>⟨(.exit 0),[],[]⟩) r0) ?_ ?_
 refine R8 (fs':=[(0,.slice a0 l1.length c0),(3,.int .i64 0)]) (ps':=[.rd a0 c0 2 l1.length (l1.map (eP (eI .i64) (eI .i64)))]) (sc rfl (sc rfl sn)) (ae.ab [0] rfl rfl) ?_;refine R2 (σ:=Int) (ρ:=(SC)⊕SC) (γ:=SC) (δ:=fun _=>SC) _ (fun(s:Int) (g:SC)=>match s,g with|v1,_=>⟨.normal,[(0,.slice a0 l1.length c0),(3,.int .i64 v1)],[.rd a0 c0 2 l1.length (l1.map (eP (eI .i64) (eI .i64)))]⟩) (fun(r:SC⊕SC) (g:SC)=>match r,g with|.inl _,_=>⟨.ret,[(2,.bool false)],[]⟩|.inr _,_=>⟨(.exit 0),[],[]⟩) ?_ (fun _ _=>rfl) (fun r d=>by rcases r with _|_<;>(intro e; cases e)) _ _ _ h7 ()
 clear hF h7;rintro v1 ⟨⟩ r hF;unfold yy at hF;refine RI<|RI<|RH<|RG (aa rfl) rfl<|RG (aa rfl) rfl<|RG (bz (k:=0) sQ rfl rfl (.inl rfl)) rfl<|RG (aj rfl rfl (aF _ _ _)) rfl<|RJ<|RK ?_;rcases ah hF with⟨h8,hF⟩|⟨h8,hF⟩
 refine RT rfl h8<|RN<|RK<|RI<|RP<|RI<|RH<|RG (aa rfl) rfl<|RG (aa rfl) rfl ?_;obtain⟨h5,hF⟩:=al hF;replace h5:=au h5;refine Sa (k:=0) rfl (aW h5) ?_;rintro b3 o1 rfl;refine RL (bp yN rfl rfl h5) gn rfl ?_;obtain⟨⟨x3,x4⟩,h13,hF⟩:=J hF;refine RG (bC (k:=0) uG rfl rfl (aL h13) rfl rfl) rfl<|RS (cC z79 rfl) gn rfl fun b0=>?_;refine R4 (bJ (k:=0) uG rfl rfl rfl rfl rfl)<|RJ<|RK<|RI<|RI ?_;obtain⟨v2,h14,hF⟩:=J hF;refine RY (G:=(fun(r:Bool) (g:SC)=>match r,g with|v2,_=>⟨.normal,[(0,.slice (some ⟨b3,o1,none⟩) l1.length c0),(3,.int .i64 v1),(4,ptr b0 0),(53,.bool v2)],[.ro b3 o1 2 l1.length (l1.map (eP (eI .i64) (eI .i64))),.rd (some ⟨b3,o1,none⟩) c0 2 l1.length (l1.map (eP (eI .i64) (eI .i64))),.obj b0 (.cells [.int .i64 x3,.int .i64 x4] .own)]⟩) v2) ?_ ?_
 clear hF;revert v2;intro r hF;refine R9 (by kernel_rfl)<|RG (az (r:=ptr b0 1) rfl (ep _ _)) rfl<|RG (aw (k:=0) bw rfl rfl rfl) rfl<|RG (aj rfl rfl (aF _ _ _)) rfl<|RG (aa rfl) rfl ?_
 rcases ah hF with⟨h3,hF⟩|⟨h3,hF⟩
 refine RQ (gg rfl rfl (cq h3)) rfl<|RQ (gg rfl rfl (cq h3)) rfl<|RQ (gg rfl rfl (cq h3)) rfl<|RG (cw rfl h3 rfl) rfl<|RG (aa rfl) rfl<|RQ (gg rfl rfl rfl) rfl<|RQ (gg rfl rfl rfl) rfl<|RQ (gg rfl rfl rfl) rfl<|RG (ir rfl rfl) rfl<|RG (aa rfl) rfl ?_;refine RQ (gg rfl rfl rfl) rfl<|RQ (gg rfl rfl rfl) rfl<|RQ (gg rfl rfl rfl) rfl<|RQ (gg rfl rfl rfl) rfl<|RG (ir rfl rfl) rfl<|RG (aa rfl) rfl<|RQ (gg rfl rfl rfl) rfl<|RQ (gg rfl rfl rfl) rfl<|RQ (gg rfl rfl rfl) rfl<|RQ (gu rfl rfl) rfl ?_;refine RQ (gu rfl rfl) rfl<|RQ (gu rfl rfl) rfl<|RQ (gu rfl rfl) rfl<|RQ (gu rfl rfl) rfl<|RQ (gu rfl rfl) rfl<|RQ (gu rfl rfl) rfl<|RQ (gu rfl rfl) rfl<|RQ (gu rfl rfl) rfl<|RQ (gg rfl rfl rfl) rfl<|RG (ir rfl rfl) rfl ?_;refine RJ ?_;cases hF;exact RM () rfl (sc rfl (sc rfl (sc rfl (sc rfl sn)))) (ae.ab [1,2,0] rfl rfl)
 refine RL (az (r:=ptr b0 1) rfl (ep _ _)) (gg rfl rfl (cb h3)) rfl<|RL (aw (k:=0) bw rfl rfl rfl) (gg rfl rfl (cb h3)) rfl<|RL (aj rfl rfl (aZ _ _ _)) (gg rfl rfl (cb h3)) rfl<|RG (cp rfl h3 rfl) rfl<|RG (aa rfl) rfl ?_;rcases ah hF with⟨h4,hF⟩|⟨h4,hF⟩
 refine RQ (gg rfl rfl (cq h4)) rfl<|RQ (gg rfl rfl (cq h4)) rfl<|RQ (gg rfl rfl (cq h4)) rfl<|RG (cw rfl h4 rfl) rfl<|RG (aa rfl) rfl<|RQ (gg rfl rfl rfl) rfl<|RQ (gg rfl rfl rfl) rfl<|RQ (gg rfl rfl rfl) rfl<|RQ (gg rfl rfl rfl) rfl<|RG (ir rfl rfl) rfl ?_;refine RG (aa rfl) rfl<|RQ (gg rfl rfl rfl) rfl<|RQ (gg rfl rfl rfl) rfl<|RQ (gg rfl rfl rfl) rfl<|RQ (gu rfl rfl) rfl<|RQ (gu rfl rfl) rfl<|RQ (gu rfl rfl) rfl<|RQ (gu rfl rfl) rfl<|RQ (gu rfl rfl) rfl<|RQ (gu rfl rfl) rfl ?_;refine RQ (gu rfl rfl) rfl<|RQ (gu rfl rfl) rfl<|RQ (gu rfl rfl) rfl<|RQ (gg rfl rfl rfl) rfl<|RG (ir rfl rfl) rfl<|RJ ?_;cases hF;exact RM () rfl (sc rfl (sc rfl (sc rfl (sc rfl sn)))) (ae.ab [1,2,0] rfl rfl)
 refine RL (az (r:=ptr b0 0) rfl (jH _ _)) (gg rfl rfl (cb h4)) rfl<|RL (aw (k:=0) bw rfl rfl rfl) (gg rfl rfl (cb h4)) rfl<|RL (aj rfl rfl (bW _ _ _)) (gg rfl rfl (cb h4)) rfl<|RG (cp rfl h4 rfl) rfl<|RG (aa rfl) rfl ?_;rcases ah hF with⟨h2,hF⟩|⟨h2,hF⟩
 refine RQ (gg rfl rfl (cq h2)) rfl<|RQ (gg rfl rfl (cq h2)) rfl<|RQ (gg rfl rfl (cq h2)) rfl<|RQ (gg rfl rfl (cq h2)) rfl<|RG (cw rfl h2 rfl) rfl<|RG (aa rfl) rfl<|RQ (gg rfl rfl rfl) rfl<|RQ (gg rfl rfl rfl) rfl<|RQ (gg rfl rfl rfl) rfl<|RQ (gu rfl rfl) rfl ?_;refine RQ (gu rfl rfl) rfl<|RQ (gu rfl rfl) rfl<|RQ (gu rfl rfl) rfl<|RQ (gu rfl rfl) rfl<|RQ (gu rfl rfl) rfl<|RQ (gu rfl rfl) rfl<|RQ (gu rfl rfl) rfl<|RQ (gu rfl rfl) rfl<|RQ (gg rfl rfl rfl) rfl<|RG (ir rfl rfl) rfl ?_;refine RJ ?_;cases hF;exact RM () rfl (sc rfl (sc rfl (sc rfl (sc rfl sn)))) (ae.ab [1,2,0] rfl rfl)
 refine RL (az (r:=ptr b0 0) rfl (jH _ _)) (gg rfl rfl (cb h2)) rfl<|RL (aw (k:=0) bw rfl rfl rfl) (gg rfl rfl (cb h2)) rfl ?_;obtain⟨r1,h15,hF⟩:=J hF;refine RS (bM rfl rfl (fun m hm=>vp n x3  _ h15 m) fun _=>rfl) (gg rfl rfl (cb h2)) rfl ?_;rintro⟨⟩;refine RL (eG rfl rfl) (gg rfl rfl (cb h2)) rfl<|RG (cp rfl h2 rfl) rfl<|RG (aa rfl) rfl ?_;rcases ah hF with⟨h1,hF⟩|⟨h1,hF⟩
 refine RQ (gg rfl rfl (cq h1)) rfl<|RQ (gg rfl rfl (cq h1)) rfl<|RQ (gg rfl rfl (cq h1)) rfl<|RQ (gu rfl rfl) rfl<|RQ (gu rfl rfl) rfl<|RQ (gu rfl rfl) rfl<|RQ (gu rfl rfl) rfl<|RQ (gu rfl rfl) rfl<|RQ (gu rfl rfl) rfl<|RQ (gu rfl rfl) rfl ?_;refine RQ (gu rfl rfl) rfl<|RQ (gu rfl rfl) rfl<|RQ (gg rfl rfl (cq h1)) rfl<|RG (cw rfl h1 rfl) rfl<|RJ ?_;cases hF;exact RM () rfl (sc rfl (sc rfl (sc rfl (sc rfl sn)))) (ae.ab [1,2,0] rfl rfl)
 refine RL (aa rfl) (gg rfl rfl (cb h1)) rfl<|RL (aj rfl rfl (aZ _ _ _)) (gg rfl rfl (cb h1)) rfl<|RL (aa rfl) (gg rfl rfl (cb h1)) rfl ?_;rcases ah hF with⟨h0,hF⟩|⟨h0,hF⟩
 refine RL (aa rfl) (gg rfl rfl (bY h0)) rfl<|RL (aa rfl) (gg rfl rfl (bY h0)) rfl<|RL (aj rfl rfl (aP _ _ _)) (gg rfl rfl (bY h0)) rfl ?_;obtain⟨h9,hF⟩:=al hF;replace h9:=au h9;refine RL (bp yN rfl rfl h9) (gg rfl rfl (bY h0)) rfl<|RL (az (r:=ptr b3 (o1+(RC (v1-1)).toNat*2+1)) rfl (ep _ _)) (gg rfl rfl (bY h0)) rfl ?_;obtain⟨⟨x10,x11⟩,h16,hF⟩:=J hF;refine RL (bC (k:=1) bw rfl rfl (aL h16) rfl rfl) (gg rfl rfl (bY h0)) rfl<|RL (az (r:=ptr b0 1) rfl (ep _ _)) (gg rfl rfl (bY h0)) rfl<|RL (aw (k:=0) bw rfl rfl rfl) (gg rfl rfl (bY h0)) rfl<|RL (aj rfl rfl (dD _ _ _)) (gg rfl rfl (bY h0)) rfl<|RL (cw rfl h0 rfl) (gg rfl rfl (cb h1)) rfl<|RG (cp rfl h1 rfl) rfl<|RJ ?_;cases hF;exact RM () rfl (sc rfl (sc rfl (sc rfl (sc rfl sn)))) (ae.ab [1,2,0] rfl rfl)
 refine RQ (gg rfl rfl (bX h0)) rfl<|RQ (gg rfl rfl (bX h0)) rfl<|RQ (gg rfl rfl (bX h0)) rfl<|RQ (gg rfl rfl (bX h0)) rfl<|RQ (gg rfl rfl (bX h0)) rfl<|RQ (gg rfl rfl (bX h0)) rfl<|RQ (gg rfl rfl (bX h0)) rfl<|RQ (gg rfl rfl (bX h0)) rfl<|RQ (gg rfl rfl (bX h0)) rfl<|RL (cp rfl h0 rfl) (gg rfl rfl (cb h1)) rfl ?_;refine RG (cp rfl h1 rfl) rfl<|RJ ?_;cases hF;exact RM () rfl (sc rfl (sc rfl (sc rfl (sc rfl sn)))) (ae.ab [1,2,0] rfl rfl)
 rintro⟨⟩;refine RK ?_;rcases ah hF with⟨h10,hF⟩|⟨h10,hF⟩
 refine RT rfl h10<|RI<|RH<|RG (ai rfl) rfl<|RJ<|RK<|RO<|R0<|R5<|R0 ?_;cases hF;exact RM () rfl (sc rfl sn) (ae.ab [] rfl rfl)
 refine RV rfl h10<|RN<|RK<|RI<|RH<|RG (az (r:=ptr b0 1) rfl (ep _ _)) rfl<|RG (aw (k:=2) bw rfl rfl rfl) rfl ?_;obtain⟨⟨r3,r4⟩,h17,hF⟩:=J hF;refine RS (bM rfl rfl (fun m hm=>Bo n x4  _ h17 m) fun _=>rfl) gn rfl ?_;rintro⟨⟩;refine RG (aa rfl) rfl<|RG (cr rfl rfl) rfl<|RG (cr rfl rfl) rfl<|RG (ai rfl) rfl<|RG (ai rfl) rfl<|RJ<|RK<|RI<|RH<|RG (aa rfl) rfl<|RG (aj rfl rfl (aZ _ _ _)) rfl<|RJ<|RK ?_;rcases ah hF with⟨h11,hF⟩|⟨h11,hF⟩
 refine RT rfl h11<|RI<|RH<|RG (ai rfl) rfl<|RJ<|RK<|RO<|R5<|R0 ?_;cases hF;exact RM () rfl (sc rfl sn) (ae.ab [] rfl rfl)
 refine RV rfl h11<|RN<|R3<|RK<|RH<|RG (aa rfl) rfl<|RG (aj rfl rfl (aA _ _ _)) rfl<|RG (ai rfl) rfl<|RJ ?_;cases hF;exact RM () rfl (sc rfl (sc rfl sn)) (ae.ab [1] rfl rfl)
 refine RV rfl h8<|R1<|R6 ?_;cases hF;exact RM () rfl sn (ae.ab [] rfl rfl)
 rcases r0 with _|_
 rintro⟨⟩;refine R5<|R0 ?_;cases hF;exact RR (.tmp rfl .nil) fun m' hm=>⟨(),rfl,(ae.ab [] rfl rfl) m' hm⟩
 rintro⟨⟩;refine R7<|RK<|RI<|RH<|RG (ai rfl) rfl<|RJ<|RK<|RO ?_;cases hF;exact RR (.tmp rfl .nil) fun m' hm=>⟨(),rfl,(ae.ab [] rfl rfl) m' hm⟩
def Lq(n:Nat)(l1:Rs)(l5:Rs)(a2:Rv)(c3:Nat)(a6:Rv)(c7:Nat)(r:Rs×Int)(hF:MO n l1 l5=some r)(m:Sr)(h4:Rd m a2 c3 2 l1.length (l1.map (eP (eI .i64) (eI .i64))))(h8:Rd m a6 c7 2 l5.length (l5.map (eP (eI .i64) (eI .i64)))) :
  aK aG 75 [.slice a2 l1.length c3,.slice a6 l5.length c7] m (fun v m'=>∃x:Rv×Nat,v=.tuple #[.slice x.1 x.2 x.2,.int .i64 r.2]/\Hp m m' [.sl x.1 2 x.2 (r.1.map (eP (eI .i64) (eI .i64)))]):=by
 unfold MO at hF;refine aC (m0:=m) (ps:=[.rd a6 c7 2 l5.length (l5.map (eP (eI .i64) (eI .i64))),.rd a2 c3 2 l1.length (l1.map (eP (eI .i64) (eI .i64)))]) (N:=24) (rs:=[.tmp 4,.tmp 5]) rfl Tryz.func75 rfl rfl rfl (Hp.mI (Hp.mI (RZ m) kl h4) (BY kl) h8)<|RI<|RH<|RG (ai rfl) rfl<|RG (ai rfl) rfl<|RJ<|RK<|RI<|RI ?_;obtain⟨v28,h34,hF⟩:=J hF;refine RY (G:=(fun(r:Bool) (g:SC)=>match r,g with|v28,_=>⟨.normal,[(0,.slice a2 l1.length c3),(1,.slice a6 l5.length c7),(14,.bool v28)],[.rd a2 c3 2 l1.length (l1.map (eP (eI .i64) (eI .i64))),.rd a6 c7 2 l5.length (l5.map (eP (eI .i64) (eI .i64)))]⟩) v28) ?_ ?_
 clear hF;revert v28;intro r hF;refine RH<|RG (aa rfl) rfl ?_;obtain⟨r30,h29,hF⟩:=J hF;refine RS (bM rfl rfl (fun m hm=>FV n l1 a2 c3 _ h29 m (hm.rd (k:=1) rfl (.rd _ _ _ _ _))) fun _=>rfl) gn rfl ?_;rintro⟨⟩;refine RG (eG rfl rfl) rfl<|RG (aa rfl) rfl ?_;rcases ah hF with⟨h31,hF⟩|⟨h31,hF⟩
 refine RQ (gg rfl rfl (cq h31)) rfl<|RQ (gg rfl rfl (cq h31)) rfl<|RQ (gg rfl rfl (cq h31)) rfl<|RG (cw rfl h31 rfl) rfl<|RJ ?_;cases hF;exact RM () rfl (sc rfl (sc rfl (sc rfl sn))) (ae.ab [1,0] rfl rfl)
 refine RL (aa rfl) (gg rfl rfl (cb h31)) rfl ?_;obtain⟨r33,h32,hF⟩:=J hF;refine RS (bM rfl rfl (fun m hm=>FV n l5 a6 c7 _ h32 m (hm.rd (k:=0) rfl (.rd _ _ _ _ _))) fun _=>rfl) (gg rfl rfl (cb h31)) rfl ?_;rintro⟨⟩;refine RL (eG rfl rfl) (gg rfl rfl (cb h31)) rfl<|RG (cp rfl h31 rfl) rfl<|RJ ?_;cases hF;exact RM () rfl (sc rfl (sc rfl (sc rfl sn))) (ae.ab [1,0] rfl rfl)
 rintro⟨⟩;refine RK ?_;rcases ah hF with⟨h36,hF⟩|⟨h36,hF⟩
 refine RT rfl h36<|RI<|RH<|RG (ai rfl) rfl<|RG (ai rfl) rfl<|RJ<|RK<|RO<|R0 ?_;cases hF;exact RR (.tmp rfl (.tmp rfl .nil)) fun m' hm=>⟨(none,0),rfl,(ae.trans (ae.nil 2 rfl) (ae.ab [0] rfl rfl)) m' hm⟩
 refine RV rfl h36<|RN<|RK<|RI<|RH<|RG (ai rfl) rfl<|RJ<|RK<|RI<|RH<|RG (aa rfl) rfl<|RG (aa rfl) rfl ?_;obtain⟨h37,hF⟩:=al hF;refine Sg (ae.nil (ps:=_) 2 rfl)<|RS (gO (k:=0) (k2:=1) (xs:=([]:Rs)) (ys:=(l1:Rs)) (yL (jh .i64) (jh .i64)) A3 ⟨_,sQ⟩ rfl rfl rfl (.rd _ _ _ _ _) h37) gn rfl fun a38=>?_;refine RG (ai rfl) rfl<|RJ<|RK<|RI<|RH<|RG (aa rfl) rfl<|RG (aa rfl) rfl ?_;obtain⟨h39,hF⟩:=al hF;refine RS (gO (k:=0) (k2:=2) (xs:=((([]:Rs)++l1):Rs)) (ys:=(l5:Rs)) (yL (jh .i64) (jh .i64)) A3 ⟨_,sQ⟩ rfl rfl rfl (.rd _ _ _ _ _) h39) gn rfl fun a40=>?_;obtain⟨⟨l42,r45⟩,h41,hF⟩:=J hF;refine RS (bM rfl rfl (fun m hm=>Fh n ((([]:Rs)++l1)++l5) a40 (((([]:Rs)++l1)++l5).length) _ h41 m (hm.rd (k:=0) rfl (.sl _ _ _ _))) fun _=>rfl) gn rfl ?_;rintro⟨a43,n44⟩;refine Wo.len (k:=0) (xs:=l42) rfl ?_;rintro rfl;refine RG (cr rfl rfl) rfl<|RG (cr rfl rfl) rfl<|RG (ai rfl) rfl<|RG (ai rfl) rfl<|RJ<|RK<|RO ?_;cases hF;exact RR (.tmp rfl (.tmp rfl .nil)) fun m' hm=>⟨(a43,l42.length),rfl,(ae.ab [0] rfl rfl) m' hm⟩
def J7(n:Nat)(l1:Rs)(a2:Rv)(c3:Nat)(r:Rs×Int)(hF:KZ n l1=some r)(m:Sr)(h4:Rd m a2 c3 2 l1.length (l1.map (eP (eI .i64) (eI .i64)))) :
  aK aG 39 [.slice a2 l1.length c3] m (fun v m'=>∃x:Rv×Nat,v=.tuple #[.slice x.1 x.2 x.2,.int .i64 r.2]/\Hp m m' [.sl x.1 2 x.2 (r.1.map (eP (eI .i64) (eI .i64)))]):=by
 unfold KZ at hF;refine aC (m0:=m) (ps:=[.rd a2 c3 2 l1.length (l1.map (eP (eI .i64) (eI .i64)))]) (N:=48) (rs:=[.tmp 2,.tmp 3]) rfl Tryz.func39 rfl rfl rfl (Hp.mI (RZ m) kl h4)<|RI<|RH<|RG (ai rfl) rfl<|RG (ai rfl) rfl<|RJ<|RK<|RI<|RI<|RH<|RG (aa rfl) rfl ?_;obtain⟨r6,h5,hF⟩:=J hF;refine RS (bM rfl rfl (fun m hm=>EH n l1 a2 c3 _ h5 m (hm.rd (k:=0) rfl (.rd _ _ _ _ _))) fun _=>rfl) gn rfl ?_;rintro⟨⟩;refine RG (ai rfl) rfl<|RJ<|RK<|RI<|RH<|RG (aa rfl) rfl<|RG (aj rfl rfl (cB _ _)) rfl<|RJ<|RK ?_;rcases ah hF with⟨h7,hF⟩|⟨h7,hF⟩
 refine RT rfl h7<|RI<|RH<|RG (aa rfl) rfl<|RG (ai rfl) rfl<|RG (ai rfl) rfl<|RJ<|RK<|RO<|R0 ?_;cases hF;exact RR (.tmp rfl (.tmp rfl .nil)) fun m' hm=>⟨(none,0),rfl,(ae.trans (ae.nil 2 rfl) (ae.ab [0] rfl rfl)) m' hm⟩
 refine RV rfl h7<|RN<|RK<|RI<|RH<|RG (ai rfl) rfl<|RJ<|RK<|RI<|RI<|RH<|RG (ai rfl) rfl<|RJ<|RK<|RP ?_;obtain⟨r87,h86,hF⟩:=J hF;refine RY (G:=(fun(r:Int⊕Rs) (g:Rv)=>match r,g with|.inl v60,_=>⟨.ret,[(2,.slice none 0 0),(3,.int .i64 v60)],[]⟩|.inr l61,a62=>⟨(.exit 0),[(5,.slice a62 l61.length l61.length)],[.sl a62 2 l61.length (l61.map (eP (eI .i64) (eI .i64)))]⟩) r87) ?_ ?_
 refine R8 (fs':=[(0,.slice a2 l1.length c3),(5,.slice none ([]:Rs).length ([]:Rs).length),(6,.int .i64 0)]) (ps':=[.rd a2 c3 2 l1.length (l1.map (eP (eI .i64) (eI .i64))),.sl none 2 ([]:Rs).length (([]:Rs).map (eP (eI .i64) (eI .i64)))]) (sc rfl (sc rfl (sc rfl sn))) (ae.trans (ae.nil 2 rfl) (ae.ab [1,0] rfl rfl)) ?_;refine R2 (σ:=Rs×Int) (ρ:=(Int)⊕Rs) (γ:=Rv) (δ:=fun _=>Rv) _ (fun(s:Rs×Int) (g:Rv)=>match s,g with |(l32,v34),a33=>⟨.normal,[(0,.slice a2 l1.length c3),(5,.slice a33 l32.length l32.length),(6,.int .i64 v34)],[.rd a2 c3 2 l1.length (l1.map (eP (eI .i64) (eI .i64))),.sl a33 2 l32.length (l32.map (eP (eI .i64) (eI .i64)))]⟩) (fun(r:Int⊕Rs) (g:Rv)=>match r,g with|.inl v60,_=>⟨.ret,[(2,.slice none 0 0),(3,.int .i64 v60)],[]⟩|.inr l61,a62=>⟨(.exit 0),[(5,.slice a62 l61.length l61.length)],[.sl a62 2 l61.length (l61.map (eP (eI .i64) (eI .i64)))]⟩) ?_ (fun _ _=>rfl) (fun r d=>by rcases r with _|_<;>(intro e; cases e)) _ _ _ h86 none
 clear hF h86;rintro⟨l32,v34⟩ a33 r hF;unfold tE at hF;refine RI<|RI<|RH<|RG (aa rfl) rfl<|RG (aa rfl) rfl<|RG (bz (k:=0) kQ rfl rfl (.inl rfl)) rfl<|RG (aj rfl rfl (aF _ _ _)) rfl<|RJ<|RK ?_;rcases ah hF with⟨h64,hF⟩|⟨h64,hF⟩
 refine RT rfl h64<|RN<|RK<|RI<|RP<|RI<|Sd (prs:=[(3,7)]) (by kernel_rfl)<|RX (aa rfl) rfl<|RX (aa rfl) rfl ?_
 obtain⟨h65,hF⟩:=al hF;replace h65:=au h65;refine Wn.bT (k:=0) rfl (aW h65) ?_;rintro b66 o67 rfl;refine Wn.og (bp dX rfl rfl h65) gn rfl ?_;obtain⟨⟨x68,x69⟩,h70,hF⟩:=J hF;refine RX (bC (k:=0) aS rfl rfl (aL h70) rfl rfl) rfl<|RX (aa rfl) rfl<|RX (aa rfl) rfl<|RX (aj rfl rfl (aA _ _ _)) rfl ?_;obtain⟨⟨r72,r73⟩,h71,hF⟩:=J hF;refine Sc (eC rfl rfl (fun m hm=>qh n l1 (RC (v34+1)) (some ⟨b66,o67,none⟩) c3 _ h71 m (hm.rd (k:=1) rfl (.rd _ _ _ _ _))) fun _=>rfl) gn rfl ?_;rintro⟨⟩;obtain⟨⟨l75,r78⟩,h74,hF⟩:=J hF;refine Sc (eC rfl rfl (fun m hm=>J1 n x68 x69 r72 r73  _ h74 m) fun _=>rfl) gn rfl ?_;rintro⟨a76,n77⟩;refine Wn.len (k:=0) (xs:=l75) rfl ?_;rintro rfl;refine RX (aa rfl) rfl<|RX (cr rfl rfl) rfl<|RX (cr rfl rfl) rfl<|RX (ai rfl) rfl<|RX (ai rfl) rfl<|Sb (fun m hm=>eJ.all rfl)<|RK<|RI<|RI<|RH<|RG (aa rfl) rfl<|RG (aj rfl rfl (cB _ _)) rfl<|RJ<|RK ?_;rcases ah hF with⟨h79,hF⟩|⟨h79,hF⟩
 refine RT rfl h79<|RI<|RH<|RG (aa rfl) rfl<|RG (ai rfl) rfl<|RG (ai rfl) rfl<|RJ<|RK<|RO<|R0<|R5<|R0 ?_;cases hF;exact RM none rfl (sc rfl (sc rfl sn)) (ae.ab [] rfl rfl)
 refine RV rfl h79<|RN<|RK<|RI<|RH<|RG (aa rfl) rfl<|RG (aa rfl) rfl ?_;obtain⟨⟨l81,r84⟩,h80,hF⟩:=J hF;refine RS (bM rfl rfl (fun m hm=>Lq n l32 l75 a33 l32.length a76 l75.length _ h80 m (hm.rd (k:=3) rfl (.sl _ _ _ _)) (hm.rd (k:=0) rfl (.sl _ _ _ _))) fun _=>rfl) gn rfl ?_;rintro⟨a82,n83⟩;refine Wo.len (k:=0) (xs:=l81) rfl ?_;rintro rfl;refine RG (aa rfl) rfl<|RG (cr rfl rfl) rfl<|RG (cr rfl rfl) rfl<|RG (ai rfl) rfl<|RG (ai rfl) rfl<|RJ<|RK<|RI<|RI<|RH<|RG (aa rfl) rfl<|RG (aj rfl rfl (cB _ _)) rfl<|RJ<|RK ?_;rcases ah hF with⟨h85,hF⟩|⟨h85,hF⟩
 refine RT rfl h85<|RI<|RH<|RG (aa rfl) rfl<|RG (ai rfl) rfl<|RG (ai rfl) rfl<|RJ<|RK<|RO<|R0<|R5<|R0 ?_;cases hF;exact RM none rfl (sc rfl (sc rfl sn)) (ae.ab [] rfl rfl)
 refine RV rfl h85<|RN<|RK<|RH<|RG (aa rfl) rfl<|RG (ai rfl) rfl<|RJ<|R3<|RK<|RH<|RG (aa rfl) rfl<|RG (aj rfl rfl (aA _ _ _)) rfl<|RG (ai rfl) rfl<|RJ ?_;cases hF;exact RM a82 rfl (sc rfl (sc rfl (sc rfl sn))) (ae.ab [3,0] rfl rfl)
 refine RV rfl h64<|R1<|R6 ?_;cases hF;exact RM a33 rfl (sc rfl sn) (ae.ab [1] rfl rfl)
 rcases r87 with v60|l61
 rintro g63;refine R5<|R0 ?_;cases hF;exact RR (.tmp rfl (.tmp rfl .nil)) fun m' hm=>⟨(none,0),rfl,(ae.trans (ae.nil 2 rfl) (ae.ab [0] rfl rfl)) m' hm⟩
 rintro a62;refine R7<|RK<|RI<|RH<|RG (aa rfl) rfl<|RG (ai rfl) rfl<|RG (ai rfl) rfl<|RJ<|RK<|RO ?_;cases hF;exact RR (.tmp rfl (.tmp rfl .nil)) fun m' hm=>⟨(a62,l61.length),rfl,(ae.ab [0] rfl rfl) m' hm⟩
def Nz(n:Nat)(l1:Rs)(l5:SB (Nat))(x9:Int)(x3:Int)(x4:Nat)(x10:Bool)(x11:Bool)(x12:Nat)(x13:Nat)(x14:Nat)(x15:Int)(x16:Int)(x17:Nat)(x18:Nat)(x19:Nat)(x20:Int)(x21:Int)(a5:Rv)(c5:Nat)(a6:Rv)(c6:Nat)(r:Bool)(hF:F9 n l1 l5 x9 x3 x4 x10 x11 x12 x13 x14 x15 x16 x17 x18 x19 x20 x21=some r)(m:Sr)(h6:Rd m a5 c5 2 l1.length (l1.map (eP (eI .i64) (eI .i64))))(h7:Rd m a6 c6 1 l5.length (l5.map (eN .u8))) :
  aK aG 9 [.slice a5 l1.length c5,.agg #[.slice a6 l5.length c6,.int .i16 x9,.int .i16 x3,.int .u8 ((x4:Nat):Int),.bool x10,.bool x11],.agg #[.int .u8 ((x12:Nat):Int),.int .u8 ((x13:Nat):Int),.int .u8 ((x14:Nat):Int),.int .i64 x15,.int .i64 x16,.int .u8 ((x17:Nat):Int),.int .u8 ((x18:Nat):Int),.int .u8 ((x19:Nat):Int),.int .i64 x20,.int .i64 x21]] m (Sq m (.bool r)):=by
 unfold F9 at hF;refine aC (m0:=m) (ps:=[.rd a6 c6 1 l5.length (l5.map (eN .u8)),.rd a5 c5 2 l1.length (l1.map (eP (eI .i64) (eI .i64)))]) (N:=41) (rs:=[.tmp 6]) rfl Tryz.func9 rfl rfl rfl (Hp.mI (Hp.mI (RZ m) kl h6) (BY kl) h7)<|RI<|RH<|RS (bQ rfl) gn rfl fun b0=>?_;refine RS (bQ rfl) gn rfl fun b3=>?_;refine RG (ai rfl) rfl<|RJ<|RK<|RI<|RI<|RH<|RG (aa rfl) rfl<|RG (aw (k:=1) B4 rfl rfl rfl) rfl<|RG (aw (k:=0) Ol rfl rfl rfl) rfl ?_;obtain⟨⟨l2,l3,l4,l7⟩,h8,hF⟩:=J hF;refine RS (fc (N:=(fun x:Rv×Nat×Nat×Rv×Nat×Nat×Rv×Nat×Nat×Rv×Nat×Nat=>[.rd (x.1) (x.2.1) 2 (x.2.2.1) (l2.map (eP (eI .i64) (eI .i64))),.rd (x.2.2.2.1) (x.2.2.2.2.1) 2 (x.2.2.2.2.2.1) (l3.map (eP (eI .i64) (eI .i64))),.rd (x.2.2.2.2.2.2.1) (x.2.2.2.2.2.2.2.1) 2 (x.2.2.2.2.2.2.2.2.1) (l4.map (eP (eI .i64) (eI .i64))),.rd (x.2.2.2.2.2.2.2.2.2.1) (x.2.2.2.2.2.2.2.2.2.2.1) 2 (x.2.2.2.2.2.2.2.2.2.2.2) (l7.map (eP (eI .i64) (eI .i64)))])) rfl rfl (fun m hm=>LH n l1 l5 x9 x3 x4 x10 x11 x12 x13 x14 x15 x16 x17 x18 x19 x20 x21 a5 c5 a6 c6 _ h8 m hm.bt (hm.rd (k:=3) rfl (.rd _ _ _ _ _)) (hm.bZ (k:=3) rfl) (hm.rd (k:=2) rfl (.rd _ _ _ _ _)) (hm.bZ (k:=2) rfl)) fun _=>rfl) gn rfl ?_;rintro⟨a0,c0,n1,a1,c1,n2,a2,c2,n4,a3,c3,n8⟩;refine Se (k:=0) (xs:=l2) rfl ?_;rintro rfl;refine Se (k:=1) (xs:=l3) rfl ?_;rintro rfl;refine Se (k:=2) (xs:=l4) rfl ?_;rintro rfl;refine Se (k:=3) (xs:=l7) rfl ?_;rintro rfl;refine RG (aa rfl) rfl<|RJ<|RK<|RP ?_;obtain⟨r0,h2,hF⟩:=J hF;refine RY (G:=(fun(r:SC⊕SC) (g:SC)=>match r,g with|.inl _,_=>⟨.ret,[(6,.bool false)],[]⟩|.inr _,_=>⟨(.exit 0),[],[]⟩) r0) ?_ ?_
 ·refine R8 (fs':=[(16,.agg #[.slice a0 l2.length c0,.slice a1 l3.length c1,.slice a2 l4.length c2,.slice a3 l7.length c3]),(17,.int .i64 0)]) (ps':=[.rd a0 c0 2 l2.length (l2.map (eP (eI .i64) (eI .i64))),.rd a1 c1 2 l3.length (l3.map (eP (eI .i64) (eI .i64))),.rd a2 c2 2 l4.length (l4.map (eP (eI .i64) (eI .i64))),.rd a3 c3 2 l7.length (l7.map (eP (eI .i64) (eI .i64)))]) (sc rfl (sc rfl sn)) (ae.ab [0,1,2,3] rfl rfl) ?_;refine R2 (σ:=Int) (ρ:=(SC)⊕SC) (γ:=SC) (δ:=fun _=>SC) _ (fun(s:Int) (g:SC)=>match s,g with|v1,_=>⟨.normal,[(16,.agg #[.slice a0 l2.length c0,.slice a1 l3.length c1,.slice a2 l4.length c2,.slice a3 l7.length c3]),(17,.int .i64 v1)],[.rd a0 c0 2 l2.length (l2.map (eP (eI .i64) (eI .i64))),.rd a1 c1 2 l3.length (l3.map (eP (eI .i64) (eI .i64))),.rd a2 c2 2 l4.length (l4.map (eP (eI .i64) (eI .i64))),.rd a3 c3 2 l7.length (l7.map (eP (eI .i64) (eI .i64)))]⟩) (fun(r:SC⊕SC) (g:SC)=>match r,g with|.inl _,_=>⟨.ret,[(6,.bool false)],[]⟩|.inr _,_=>⟨(.exit 0),[],[]⟩) ?_ (fun _ _=>rfl) (fun r d=>by rcases r with _|_<;>(intro e; cases e)) _ _ _ h2 ()
  clear hF h2;rintro v1 ⟨⟩ r hF;unfold D1 at hF;refine RI<|RH<|RG (aj rfl rfl (aF _ _ _)) rfl<|RJ<|RK<|RI ?_;rcases ah hF with⟨h3,hF⟩|⟨h3,hF⟩
  ·refine RT rfl h3<|RN<|RK<|RI<|RP<|RI<|RH ?_;obtain⟨h9,hF⟩:=al hF;obtain⟨l8,h0,hF⟩:=J hF;refine RS (DA (α:=Rv×Nat) (V:=fun g=>match g with |(a4,c4)=>.slice a4 l8.length c4) (N:=fun g=>match g with |(a4,c4)=>[.rd a4 c4 2 l8.length (l8.map (eP (eI .i64) (eI .i64)))]++[.rd a0 c0 2 l2.length (l2.map (eP (eI .i64) (eI .i64))),.rd a1 c1 2 l3.length (l3.map (eP (eI .i64) (eI .i64))),.rd a2 c2 2 l4.length (l4.map (eP (eI .i64) (eI .i64))),.rd a3 c3 2 l7.length (l7.map (eP (eI .i64) (eI .i64)))]) rfl rfl (fun m hm=>?_)) gn rfl ?_
   ·have hj:=au h9;obtain⟨j,h5⟩:∃j:Nat,(v1:Int)=j:=⟨_,(Qn hj.1).symm⟩;rw[h5] at h0 hj ⊢;rw[Pg] at h0 hj;replace hj:=hj.2;clear hF h5
    match j,hj,h0 with
    | 0,_,h0=>cases h0; exact⟨(a0,c0),pI Hs (i:=0) (by decide) (j6 gz rfl),(Hp.dup hm (k:=0) rfl)⟩
    | 1,_,h0=>cases h0; exact⟨(a1,c1),pI Hs (i:=1) (by decide) (j6 gz rfl),(Hp.dup hm (k:=1) rfl)⟩
    | 2,_,h0=>cases h0; exact⟨(a2,c2),pI Hs (i:=2) (by decide) (j6 gz rfl),(Hp.dup hm (k:=2) rfl)⟩
    | 3,_,h0=>cases h0; exact⟨(a3,c3),pI Hs (i:=3) (by decide) (j6 gz rfl),(Hp.dup hm (k:=3) rfl)⟩
    | _+4,hj,_=>exact Pz hj (by omega)
   rintro⟨a4,c4⟩;refine RG (ai rfl) rfl<|RJ<|RK<|RI<|RH<|RG (aa rfl) rfl ?_;obtain⟨⟨l9,r1⟩,h10,hF⟩:=J hF;refine RS (bM rfl rfl (fun m hm=>JI n l8 a4 c4 _ h10 m (hm.rd (k:=0) rfl (.rd _ _ _ _ _))) fun _=>rfl) gn rfl ?_;rintro⟨a7,n9⟩;refine Wo.len (k:=0) (xs:=l9) rfl ?_;rintro rfl;refine RG (aa rfl) rfl<|RG (cr rfl rfl) rfl<|RG (cr rfl rfl) rfl<|RG (ai rfl) rfl<|RG (ai rfl) rfl<|RJ<|RK<|RI<|RH<|RG (aa rfl) rfl ?_;obtain⟨⟨l10,r3⟩,h11,hF⟩:=J hF;refine RS (bM rfl rfl (fun m hm=>J7 n l8 a4 c4 _ h11 m (hm.rd (k:=1) rfl (.rd _ _ _ _ _))) fun _=>rfl) gn rfl ?_;rintro⟨a8,n10⟩;refine Wo.len (k:=0) (xs:=l10) rfl ?_;rintro rfl;refine RG (aa rfl) rfl<|RG (cr rfl rfl) rfl<|RG (cr rfl rfl) rfl<|RG (ai rfl) rfl<|RG (ai rfl) rfl<|RJ<|RK<|RI ?_;obtain⟨v2,h12,hF⟩:=J hF;refine RY (G:=(fun(r:Bool) (g:SC)=>match r,g with|v2,_=>⟨.normal,[(16,.agg #[.slice a0 l2.length c0,.slice a1 l3.length c1,.slice a2 l4.length c2,.slice a3 l7.length c3]),(17,.int .i64 v1),(38,.bool v2)],[.rd a0 c0 2 l2.length (l2.map (eP (eI .i64) (eI .i64))),.rd a1 c1 2 l3.length (l3.map (eP (eI .i64) (eI .i64))),.rd a2 c2 2 l4.length (l4.map (eP (eI .i64) (eI .i64))),.rd a3 c3 2 l7.length (l7.map (eP (eI .i64) (eI .i64)))]⟩) v2) ?_ ?_
   clear hF;revert v2;intro r hF;refine RH<|RG (aa rfl) rfl<|RG (aa rfl) rfl<|RG (aj rfl rfl (cB _ _)) rfl<|RG (aa rfl) rfl ?_;rcases ah hF with⟨h1,hF⟩|⟨h1,hF⟩
   refine RQ (gg rfl rfl (cq h1)) rfl<|RQ (gg rfl rfl (cq h1)) rfl<|RQ (gg rfl rfl (cq h1)) rfl<|RQ (gg rfl rfl (cq h1)) rfl<|RG (cw rfl h1 rfl) rfl<|RJ ?_;cases hF;exact RM () rfl (sc rfl (sc rfl (sc rfl sn))) (ae.ab [3,4,5,6] rfl rfl)
   refine RL (aa rfl) (gg rfl rfl (cb h1)) rfl<|RL (aa rfl) (gg rfl rfl (cb h1)) rfl ?_;obtain⟨r4,h13,hF⟩:=J hF;refine RS (bM rfl rfl (fun m hm=>Ki n l9 l10 a7 l9.length a8 l10.length _ h13 m (hm.rd (k:=1) rfl (.sl _ _ _ _)) (hm.rd (k:=0) rfl (.sl _ _ _ _))) fun _=>rfl) (gg rfl rfl (cb h1)) rfl ?_;rintro⟨⟩;refine RL (eG rfl rfl) (gg rfl rfl (cb h1)) rfl<|RG (cp rfl h1 rfl) rfl<|RJ ?_;cases hF;exact RM () rfl (sc rfl (sc rfl (sc rfl sn))) (ae.ab [3,4,5,6] rfl rfl)
   rintro⟨⟩;refine RK ?_;rcases ah hF with⟨h4,hF⟩|⟨h4,hF⟩
   refine RT rfl h4<|RI<|RH<|RG (ai rfl) rfl<|RJ<|RK<|RO<|R5<|R0 ?_;cases hF;exact RM () rfl (sc rfl sn) (ae.ab [] rfl rfl)
   refine RV rfl h4<|RN<|R3<|RK<|RH<|RG (aj rfl rfl (aA _ _ _)) rfl<|RG (aa rfl) rfl<|RJ ?_;cases hF;exact RM () rfl (sc rfl (sc rfl sn)) (ae.ab [0,1,2,3] rfl rfl)
  refine RV rfl h3<|R1<|R6 ?_;cases hF;exact RM () rfl sn (ae.ab [] rfl rfl)
 rcases r0 with _|_
 rintro⟨⟩;refine R5<|R0 ?_;cases hF;exact RR (.tmp rfl .nil) fun m' hm=>⟨(),rfl,(ae.ab [] rfl rfl) m' hm⟩
 rintro⟨⟩;refine R7<|RK<|RI<|RH ?_;obtain⟨r5,h14,hF⟩:=J hF;refine RS (bM rfl rfl (fun m hm=>J3 n   _ h14 m) fun _=>rfl) gn rfl ?_;rintro⟨⟩;refine RG (ai rfl) rfl<|RJ<|RK<|RO ?_;have hr:=Pf hF;subst r;exact RR (.tmp rfl .nil) fun m' hm=>⟨(),rfl,(ae.ab [] rfl rfl) m' hm⟩
end Go.Proofs.YthmekkhpddehjaaGreat
end
section
namespace Go.Proofs.YthmekkhpddehjaaGreat.Ln
section
open Go Go.Ab Go.Ab.W
section
variable{α β σ ρ:Type}
def fG(a b:SA β):br true a b=a:=rfl
def cy(a b:SA β):br false a b=b:=rfl
def aN(a:SA β):gd true a=a:=rfl
def ak(x:α)(f:α->SA β):ob (some x) f=f x:=rfl
def aH{p:Prop}[Decidable p](h:p)(a b:SA β):br (decide p) a b=a:=by rw[Po h]; rfl
def Sl{p:Prop}[Decidable p]{a b:SA β}(h:p:=by omega):br (decide p) a b=a:=aH h a b
def aD{p:Prop}[Decidable p](h:¬p)(a b:SA β):br (decide p) a b=b:=by rw[PL h]; rfl
def Sm{p:Prop}[Decidable p]{a b:SA β}(h:¬p:=by omega):br (decide p) a b=b:=aD h a b
def iB{p:Prop}[Decidable p](h:p)(a:SA β):gd (decide p) a=a:=by rw[Po h]; rfl
def aJ{i n:Nat}(h:i<n):bO (i:Int) n=true:=Po ⟨Int.natCast_nonneg i,by simpa using h⟩
def aq{x:Int}(h1 : -9223372036854775808<=x)(h2:x<9223372036854775808):RC x=x:=wrap_i64 x h1 (by omega)
def aV{i:Nat}(h:i<4611686018427387904):RC ((i:Int)+1)=((i+1:Nat):Int):=by rw[aq (by omega) (by omega)]; rfl
def Sn{i:Nat}(h:i<4611686018427387904:=by omega):RC ((i:Int)+1)=((i+1:Nat):Int):=aV h
def aO{body:σ->SA (σ⊕ρ)}{n:Nat}{s s':σ}(h:body s=some (.inl s')):bR body (n+1) s=bR body n s':=by simp only[bR,h]
def aX{body:σ->SA (σ⊕ρ)}{n:Nat}{s:σ}{r:ρ}(h:body s=some (.inr r)):bR body (n+1) s=some r:=by simp only[bR,h]
end
def yZ{n:Nat}(h:n<=1073741824):lim n=true:=PG h
def O4(es:Rs)(i j:Nat):Prop:=((i:Int),(j:Int))∈es\/((j:Int),(i:Int))∈es
structure Okay(N:Nat)(es:Rs):Prop where
 pos:1<=N
 le:N<=64
 len:es.length<=200
 mem:∀e∈es,∃a b:Nat,e=((a:Int),(b:Int))/\a<b/\b<N
inductive Rch(es:Rs)(S:Nat)(i:Nat):Nat->Prop
 | refl:Rch es S i i
 | step {j k:Nat} (h:Rch es S i j) (ha:O4 es j k) (hk:S.testBit k=true):Rch es S i k
def NT(es:Rs)(S i w:Nat):Prop:=w<2 ^ 64/\∀j,w.testBit j=true↔Rch es S i j
inductive Cs(es:Rs)(S:Nat):Nat->SB Nat->Prop
 | nil:Cs es S 0 []
 | cons {r w:Nat} {L:SB Nat} (h0:0<r) (hr:r<2 ^ 64) (hw:NT es S (tz r) w) (t:Cs es S (MI .u64 r w) L):Cs es S r (w::L)
section
variable{n0 M:Nat}{l6:SB Int}{es:Rs}
end
def val(w:Nat):SB Nat->Nat
 | []=>0
 | d::ds=>d+2 ^ w*val w ds
end
section
open Go Go.Ab Go.Ab.W
def vl:SB Nat->Nat
 | []=>0
 | d::l=>d+18446744073709551616*vl l
def Wd(l:SB Nat):Prop:=∀d∈l,d<18446744073709551616
def wp(k:Nat):Nat:=18446744073709551616 ^ k
def G4:wp 0=1:=rfl
def kL(k:Nat):wp (k+1)=18446744073709551616*wp k:=by unfold wp; rw[QJ,Qm]
def Lk(k:Nat):0<wp k:=Nat.pow_pos (by decide)
def oc:vl []=0:=rfl
def gT(d:Nat)(l:SB Nat):vl (d::l)=d+18446744073709551616*vl l:=rfl
def zK(a b:SB Nat):vl (a++b)=vl a+wp a.length*vl b:=by
 induction a with
 | nil=>simp[vl,wp]
 | cons d a ih=>rw[Qb,gT,gT,ih,PD,kL,Rm,QE,Re]
def yI{l:SB Nat}(h:Wd l):vl l<wp l.length:=by
 induction l with
 | nil=>exact Nat.one_pos
 | cons d l ih =>
  have h1:=h d P5;have h2:=ih fun e he=>h e (P0 _ he);rw[gT,PD,kL];omega
def FG(k:Nat):vl (List.replicate k 0)=0:=by
 induction k with
 | zero=>rfl
 | succ k ih=>rw[Q8,gT,ih]
def Wd.nil:Wd []:=fun _ h=>nomatch h
def Wd.zeros(k:Nat):Wd (List.replicate k 0):=fun d hd=>by rw[QH hd]; decide
def Wd.app{a b:SB Nat}(ha:Wd a)(hb:Wd b):Wd (a++b):=fun d hd=>(PX.1 hd).elim (ha d) (hb d)
def Wd.one{d:Nat}(h:d<18446744073709551616):Wd [d]:=fun e he=>by rw[PM.1 he]; exact h
def Wd.at{l:SB Nat}(h:Wd l){i d:Nat}(hi:l[i]? = some d):d<18446744073709551616:=h d (PO hi)
def Wd.set{l:SB Nat}(h:Wd l){i d:Nat}(hd:d<18446744073709551616):Wd (l.set i d):=fun e he=>by
 rcases List.mem_or_eq_of_mem_set he with h1|rfl
 exact h e h1
 exact hd
def Wd.take{l:SB Nat}(h:Wd l)(k:Nat):Wd (l.take k):=fun d hd=>h d (QZ hd)
def fu(l:SB Nat)(i:Nat)(hi:i<=l.length):vl l=vl (l.take i)+wp i*vl (l.drop i):=by
 have:=zK (l.take i) (l.drop i);rwa[List.take_append_drop,Qj,Rk hi] at this
def lu{l:SB Nat}{i d:Nat}(hi:l[i]? = some d):vl (l.drop i)=d+18446744073709551616*vl (l.drop (i+1)):=by
 obtain⟨h1,h2⟩:=PN.1 hi;rw[List.drop_eq_getElem_cons h1,gT,h2]
def EM{l:SB Nat}{i d:Nat}(e:Nat)(hi:l[i]? = some d):vl (l.set i e)+wp i*d=vl l+wp i*e:=by
 obtain⟨h1,h2⟩:=PN.1 hi;have a:=fu l i (Nat.le_of_lt h1);have b:=fu (l.set i e) i (by rw[Qs]; exact Nat.le_of_lt h1)
 have c:(l.set i e)[i]? = some e:=by rw[QR h1]
 rw[lu hi] at a;rw[lu c,List.take_set_of_le (Pd i),List.drop_set_of_lt (show i<i+1 from QL i)] at b
 rw[a,b,Rm,Rm];omega
structure Lg(z:Int)(s:Bool)(l:SB Nat):Prop where
 wd:Wd l
 last:∀d,l.getLast? = some d->d≠0
 val:z=if s then -(vl l:Int) else(vl l:Int)
 sign:s=true->l≠[]
def Ap{l:SB Nat}(h:∀d,l.getLast? = some d->d≠0)(hl:l≠[]):wp (l.length-1)<=vl l:=by
 obtain⟨a,d,rfl⟩:∃a d,l=a++[d]:=⟨l.dropLast,l.getLast hl,(List.dropLast_concat_getLast hl).symm⟩;have h1:=h d (by simp)
 rw[zK,Pm,Qi,Rg,gT,oc];have:wp a.length*1<=wp a.length*(d+18446744073709551616*0):=Q7 _ (by omega)
 omega
def mF{l:SB Nat}(h:∀d,l.getLast? = some d->d≠0):vl l=0↔l=[]:=by
 refine⟨fun h1=>?_,fun h1=>by rw[h1]; rfl⟩
 by_cases hl:l=[]
 exact hl
 have:=Ap h hl;have:=Lk (l.length-1);omega
def sS{d:Nat}{l:SB Nat}(h:∀e,(d::l).getLast? = some e->e≠0):∀e,l.getLast? = some e->e≠0:=by
 intro e he;cases l with
 | nil=>cases he
 | cons a l=>exact h e (by rw[List.getLast?_cons_cons]; exact he)
def JN:∀{l k:SB Nat},Wd l->Wd k->(∀d,l.getLast? = some d->d≠0)->(∀d,k.getLast? = some d->d≠0)->vl l=vl k->l=k:=by
 intro l
 induction l with
 | nil=>intro k _ _ _ hk h; exact((mF hk).1 h.symm).symm
 | cons d l ih =>
  intro k wl wk hl hk h;cases k with
  | nil=>exact Pz ((mF hl).1 h) (by simp)
  | cons e k =>
   have h1:=wl d P5;have h2:=wk e P5;rw[gT,gT] at h;have h3:d=e:=by omega
   have h4:vl l=vl k:=by omega
   rw[h3,ih (fun x hx=>wl x (P0 _ hx)) (fun x hx=>wk x (P0 _ hx)) (sS hl) (sS hk) h4]
def B2(s:Bool)(x:Nat):Int:=if s then -(x:Int) else(x:Int)
def Lg.zero:Lg 0 false []:={ wd:=Wd.nil,last:=fun _ h=>(nomatch h),val:=rfl,sign:=fun h=>(nomatch h)}
def Lg.small{x:Nat}(h0:x≠0)(h:x<18446744073709551616)(s:Bool):Lg (B2 s x) s [x]:=⟨Wd.one h,fun d hd=>by simp at hd; omega,by simp[B2,vl],fun _=>by simp⟩
def Lg.N1{z:Int}{s:Bool}{l:SB Nat}(h:Lg z s l):s=decide (z<0):=by
 have a:=h.val;have hz:=mF h.last;cases s with
 | false=>simp only[Pu,if_false] at a; rw[PL (by omega)]
 | true =>
  simp only[if_true] at a;have:vl l≠0:=fun e=>h.sign rfl (hz.1 e);rw[Po (by omega)]
def Lg.abs{z:Int}{s:Bool}{l:SB Nat}(h:Lg z s l):vl l=z.natAbs:=by
 have a:=h.val;cases s<;>simp only[Pu,if_false,if_true] at a<;>omega
def Lg.ON{z:Int}{s:Bool}{l:SB Nat}(h:Lg z s l):l=[]↔z=0:=by
 rw[<-mF h.last,h.abs]; omega
def Lg.Ow{z:Int}{s:Bool}{l:SB Nat}(h:Lg z s l)(hz:z≠0)(hb:z.natAbs<18446744073709551616):l=[z.natAbs]:=by
 have hl:l≠[]:=fun e=>hz (h.ON.1 e);exact JN h.wd (Wd.one hb) h.last (fun d hd=>by simp at hd; omega) (by rw[h.abs]; simp[vl])
end
section
open Go Go.Ab Go.Ab.W
def mG{n:Nat}(s:Bool){l:SB Nat}(hl:Wd l)(hb:l.length<4611686018427387904)(hn:l.length<n) :
  ∃t k,xj n s l=some (t,k)/\Lg (B2 s (vl l)) t k:=by
 have hL:∀i m,i<=l.length->i<m->vl (l.drop i)=0->∃j,bR (lS n l) m ((i:Nat):Int)=some ((j:Nat):Int)/\j<=l.length/\vl (l.drop j)=0/\∀d,(l.take j).getLast? = some d->d≠0:=by
  intro i
  induction i with
  | zero =>
   intro m _ hm h0;obtain⟨m,rfl⟩:∃m',m=m'+1:=⟨m-1,by omega⟩
   refine⟨0,aX ?_,Qf _,h0,fun d hd=>by simp at hd⟩
   unfold lS;rw[aD (by decide)]; rfl
  | succ i ih =>
   intro m hi hm h0;obtain⟨m,rfl⟩:∃m',m=m'+1:=⟨m-1,by omega⟩
   have hi':i<l.length:=hi;have e0:RC (((i+1:Nat):Int)-1)=((i:Nat):Int):=by rw[aq (by omega) (by omega)]; omega
   have e1:l[((i:Nat):Int).toNat]? = some l[i]:=by simp[hi']
   have e2:l[i]? = some l[i]:=by simp[hi']
   by_cases hz:l[i]=0
   have:lS n l ((i+1:Nat):Int)=some (.inl ((i:Nat):Int)):=by
    unfold lS;rw[Sl,e0,aJ hi',aN,e1,ak,ak,aH hz]
   rw[aO this];exact ih m (Nat.le_of_lt hi') (by omega) (by rw[lu e2,hz,h0])
   refine⟨i+1,aX ?_,hi,h0,fun d hd=>?_⟩
   unfold lS;rw[Sl,e0,aJ hi',aN,e1,ak,ak,aD hz]
   rw[List.getLast?_eq_getElem?,Qj,Rk hi,Rg,List.getElem?_take_of_lt (QL i),e2] at hd;cases hd;exact hz
 obtain⟨j,h1,h2,h3,h4⟩:=hL l.length n (Pd _) hn (by rw[Rf]; rfl)
 have hv:vl l=vl (l.take j):=by rw[fu l j h2,h3]; omega
 have hk:okB 0 ((j:Nat):Int) l.length=true:=Po ⟨by omega,by omega,by omega⟩
 have ht:(l.drop RD).take (((j:Nat):Int).toNat-RD)=l.take j:=by simp
 have hz:=mF h4;unfold xj;rw[h1,ak];cases s with
 | false =>
  refine⟨false,l.take j,?_,hl.take j,h4,?_,fun h=>nomatch h⟩
  rw[cy,hk,aN,ht]
  rw[hv]; rfl
 | true =>
  refine⟨decide (0<((j:Nat):Int)),l.take j,?_,hl.take j,h4,?_,fun h e=>?_⟩
  rw[fG,hk,aN,ht]
  rw[hv]
  by_cases hj:0<((j:Nat):Int)
  rw[Po hj]; rfl
  have:j=0:=by omega
  subst this
  rfl
  have h5:=of_decide_eq_true h;have:=Ps List.length e;rw[Qj,Rk h2] at this;simp at this;omega
def tQ(l:SB Nat)(i:Nat):∃y,vl (l.drop i)=y+18446744073709551616*vl (l.drop (i+1))/\(Wd l->y<18446744073709551616) /\
  (br (decide (((i:Nat):Int)<(l.length:Int))) (gd (bO ((i:Nat):Int) l.length) (ob (l[((i:Nat):Int).toNat]?) fun x=>some x)) (some 0))=some y:=by
 by_cases h:i<l.length
 have e2:l[i]? = some l[i]:=by simp[h]
 exact⟨l[i],lu e2,fun w=>w.at e2,by rw[Sl,aJ h,aN,Pg,e2]; rfl⟩
 refine⟨0,?_,fun _=>by decide,by rw[Sm]⟩
 rw[List.drop_eq_nil_of_le (by omega),List.drop_eq_nil_of_le (by omega)]; rfl
def xO{a:SB Nat}{k e d:Nat}:(a++e::List.replicate k 0).set a.length d=(a++[d])++List.replicate k 0:=by
 rw[List.set_append_right _ _ (Pd _),QP,List.set_cons_zero,List.append_assoc]; rfl
def vD(a:SB Nat)(d:Nat):vl (a++[d])=vl a+wp a.length*d:=by rw[zK,gT,oc]; rfl
def IL{n:Nat}{l k:SB Nat}(hl:Wd l)(hk:Wd k)(hb:l.length<1073741824)(hb':k.length<1073741824)(hn:l.length<n)(hn':k.length<n) :
  ∃r,Em n l k=some r/\Wd r/\vl r=vl l+vl k/\r.length<=l.length+k.length+1:=by
 have key:∀a b:SB Nat,Wd a->Wd b->a.length<1073741824->b.length<=a.length->a.length<n->∃r,(gd (decide (0<=RC ((a.length:Int)+1))) (gd (lim ((RC ((a.length:Int)+1)).toNat)) (
   ob (bR (mn n a b) n ((List.replicate (RC ((a.length:Int)+1)).toNat (0:Nat)),(RC ((a.length:Int)+1)).toNat,0,0)) fun(l2,n1,v1) =>
   gd (bO (a.length:Int) n1) (ob (l2[(a.length:Int).toNat]?) fun x3=>some (l2.set ((a.length:Int).toNat) v1)))))=some r/\Wd r/\vl r=vl a+vl b/\r.length=a.length+1:=by
  intro a b ha h4 hba hab hna;have w1:RC ((a.length:Int)+1)=((a.length+1:Nat):Int):=by rw[aq (by omega) (by omega)]; rfl
  have hL:∀j i m p c,i+j=a.length->j<m->p.length=i->Wd p->c<=1->vl p+wp i*(c+vl (a.drop i)+vl (b.drop i))=vl a+vl b ->
    ∃q c',bR (mn n a b) m (p++List.replicate (j+1) 0,a.length+1,c,((i:Nat):Int))=some (q++[0],a.length+1,c')/\q.length=a.length/\Wd q/\c'<=1/\vl q+wp a.length*c'=vl a+vl b:=by
   intro j
   induction j with
   | zero =>
    intro i m p c hij hm hp wp' hc hv;obtain⟨m,rfl⟩:∃m',m=m'+1:=⟨m-1,by omega⟩
    have hi:i=a.length:=by omega
    refine⟨p,c,aX ?_,by omega,wp',hc,?_⟩
    unfold mn
    dsimp only
    rw[Sm]; rfl
    subst hi;rw[Rf,List.drop_eq_nil_of_le (by omega),oc] at hv
    simpa using hv
   | succ j ih =>
    intro i m p c hij hm hp wp' hc hv;obtain⟨m,rfl⟩:∃m',m=m'+1:=⟨m-1,by omega⟩
    have hi:i<a.length:=by omega
    obtain⟨x,e0⟩:∃x,a[i]? = some x:=⟨a[i],by simp[hi]⟩
    have hx:=ha.at e0;obtain⟨y,y2,y0,y1⟩:=tQ b i;have y0:=y0 h4;have e1:(p++List.replicate (j+1+1) 0)[((i:Nat):Int).toNat]? = some 0:=by
     rw[Pg,PA (by omega),Q3]; simp; omega
    have st:mn n a b (p++List.replicate (j+1+1) 0,a.length+1,c,((i:Nat):Int))=some (.inl ((p++[(x+y+c)%18446744073709551616])++List.replicate (j+1) 0,a.length+1,(x+y+c)/18446744073709551616,((i+1:Nat):Int))):=by
     unfold mn
     dsimp only
     rw[Sl,aJ hi,aN,Pg,e0,ak]
     rw[Pg] at y1 e1;rw[y1,ak];unfold CT;rw[iB hc,ak]
     dsimp only
     rw[aJ (show i<a.length+1 by omega),aN,e1,ak,Sn,<-hp,Q8,xO]
    rw[aO st];refine ih (i+1) m _ _ (by omega) (by omega) (by rw[Pm,hp]; rfl) (wp'.app (Wd.one (P9 _ (by decide)))) (by omega) ?_
    rw[<-hv,vD,hp,kL,lu e0,y2];have h1:∀s:Nat,s=s%18446744073709551616+18446744073709551616*(s/18446744073709551616):=fun s=>(Nat.mod_add_div s _).symm;have h0:=h1 (x+y+c);generalize(x+y+c)%18446744073709551616=lo at h0 ⊢;generalize(x+y+c)/18446744073709551616=hi' at h0 ⊢;have h2:c+(x+18446744073709551616*vl (a.drop (i+1)))+(y+18446744073709551616*vl (b.drop (i+1)))=lo+18446744073709551616*(hi'+vl (a.drop (i+1))+vl (b.drop (i+1))):=by omega
    rw[h2,Rm (wp i),Q2 (wp i),<-QE,Re,Re]
  obtain⟨q,c',h1,h0,h2,h3,h5⟩:=hL a.length 0 n [] 0 (by omega) hna rfl Wd.nil (by omega) (by simp[vl,wp])
  refine⟨q++[c'],?_,h2.app (Wd.one (by omega)),by rw[vD,h0,h5],by rw[Pm,h0]; rfl⟩
  rw[w1,iB (by omega)]
  have hlim:lim ((a.length+1:Nat):Int).toNat=true:=yZ (by omega)
  rw[hlim,aN,Pg];rw[show(List.replicate (a.length+1) (0:Nat),a.length+1,(0:Nat),(0:Int))=(([]:SB Nat)++List.replicate (a.length+1) 0,a.length+1,0,((0:Nat):Int)) from rfl,h1,ak]
  dsimp only
  rw[aJ (QL _),aN,Pg,<-h0,PA (Pd _),QP];rw[show([0]:SB Nat)[0]? = some 0 from rfl,ak,List.set_append_right _ _ (Pd _),QP]
  rfl
 unfold Em
 by_cases h:l.length<k.length
 rw[Sl,ak]
 obtain⟨r,h1,h0,h2,h3⟩:=key k l hk hl hb' (Nat.le_of_lt h) hn';exact⟨r,h1,h0,by omega,by omega⟩
 rw[Sm,ak]
 obtain⟨r,h1,h0,h2,h3⟩:=key l k hl hk hb (by omega) hn
 exact⟨r,h1,h0,h2,by omega⟩
end
section
open Go Go.Ab Go.Ab.W
def Iw{n:Nat}{l k:SB Nat}(hl:Wd l)(hk:Wd k)(ll:∀d,l.getLast? = some d->d≠0)(lk:∀d,k.getLast? = some d->d≠0)(hb:l.length<1073741824)(hb':k.length<1073741824)(hn:l.length<n) :
  ∃r:Int,Dm n l k=some r/\(r<0↔vl l<vl k)/\(0<r↔vl k<vl l):=by
 have big:∀a b:SB Nat,Wd a->(∀d,b.getLast? = some d->d≠0)->a.length<b.length->vl a<vl b:=by
  intro a b ha hb h;have h1:=yI ha;have h2:=Ap hb (by intro e; rw[e] at h; exact Nat.not_lt_zero _ h)
  have h3:wp a.length<=wp (b.length-1):=Nat.pow_le_pow_right (by decide) (by omega)
  omega
 unfold Dm
 by_cases h:l.length=k.length
 ·rw[Po (show(l.length:Int)=(k.length:Int) by omega),PE,cy]
  have hL:∀i m,i<=l.length->i<m->vl (l.drop i)=vl (k.drop i)->∃r,bR (ki n l k) m ((i:Int)-1)=some r /\
    ((r=.inl (-1)/\vl l<vl k)\/(r=.inl 1/\vl k<vl l)\/(r=.inr ()/\vl l=vl k)):=by
   intro i
   induction i with
   | zero =>
    intro m _ hm h0;obtain⟨m,rfl⟩:∃m',m=m'+1:=⟨m-1,by omega⟩
    refine⟨.inr (),aX ?_,.inr (.inr ⟨rfl,by simpa using h0⟩)⟩
    unfold ki;rw[aD (by decide)]
   | succ i ih =>
    intro m hi hm h0;obtain⟨m,rfl⟩:∃m',m=m'+1:=⟨m-1,by omega⟩
    obtain⟨x,e2⟩:∃x,l[i]? = some x:=⟨l[i],by simp⟩
    obtain⟨y,e3⟩:∃y,k[i]? = some y:=⟨k[i],by simp⟩
    have a1:=lu e2;have a2:=lu e3;have a3:=fu l i (by omega)
    have a4:=fu k i (by omega)
    have t1:=yI (hl.take i);have t2:=yI (hk.take i);rw[Qj,Rk (by omega)] at t1 t2
    have e0:((i+1:Nat):Int)-1=((i:Nat):Int):=by omega
    rw[e0];rcases Nat.lt_trichotomy x y with hxy|hxy|hxy
    refine⟨.inl (-1),aX ?_,.inl ⟨rfl,?_⟩⟩
    unfold ki;rw[Sl,aJ (by omega),aN,Pg,e2,ak,aJ (by omega),aN,e3,ak,aH hxy]
    have:wp i*(vl (l.drop i)+1)<=wp i*vl (k.drop i):=Q7 _ (by omega)
    rw[Rm] at this;omega
    have st:ki n l k ((i:Nat):Int)=some (.inl (((i:Nat):Int)-1)):=by
     unfold ki;rw[Sl,aJ (by omega),aN,Pg,e2,ak,aJ (by omega),aN,e3,ak,Sm,aN,aN,Sm,aq (by omega) (by omega)]
    rw[aO st];exact ih m (by omega) (by omega) (by omega)
    refine⟨.inl 1,aX ?_,.inr (.inl ⟨rfl,?_⟩)⟩
    unfold ki;rw[Sl,aJ (by omega),aN,Pg,e2,ak,aJ (by omega),aN,e3,ak,Sm,aN,aN,aH hxy]
    have:wp i*(vl (k.drop i)+1)<=wp i*vl (l.drop i):=Q7 _ (by omega)
    rw[Rm] at this;omega
  obtain⟨r,h1,h2⟩:=hL l.length n (Pd _) hn (by rw[Rf,h,Rf])
  rw[aq (by omega) (by omega),h1,ak]
  rcases h2 with⟨rfl,h2⟩|⟨rfl,h2⟩|⟨rfl,h2⟩
  exact⟨-1,rfl,by omega,by omega⟩
  exact⟨1,rfl,by omega,by omega⟩
  exact⟨0,rfl,by omega,by omega⟩
 rw[PL (show ¬(l.length:Int)=(k.length:Int) by omega),PQ,fG]
 refine⟨_,rfl,?_,?_⟩<;>rw[aq (by omega) (by omega)]
 refine⟨fun h1=>big l k hl lk (by omega),fun h1=>?_⟩
 by_cases h2:l.length<k.length
 omega
 have:=big k l hk ll (by omega); omega
 refine⟨fun h1=>big k l hk ll (by omega),fun h1=>?_⟩
 by_cases h2:k.length<l.length
 omega
 have:=big l k hl lk (by omega); omega
def AG{n:Nat}{l k:SB Nat}(hl:Wd l)(hk:Wd k)(hle:vl k<=vl l)(hlk:k.length<=l.length)(hb:l.length<1073741824)(hn:l.length<n) :
  ∃r,ED n l k=some r/\Wd r/\vl r=vl l-vl k/\r.length=l.length:=by
 have hL:∀j i m p c,i+j=l.length->j<m->p.length=i->Wd p->c<=1->vl p+wp i*vl (l.drop i)+vl k=vl l+wp i*(c+vl (k.drop i)) ->
   ∃q c',bR (nZ n l k) m (p++List.replicate j 0,c,((i:Nat):Int))=some q/\q.length=l.length/\Wd q/\c'<=1/\vl q+vl k=vl l+wp l.length*c':=by
  intro j
  induction j with
  | zero =>
   intro i m p c hij hm hp wp' hc hv;obtain⟨m,rfl⟩:∃m',m=m'+1:=⟨m-1,by omega⟩
   have hi:i=l.length:=by omega
   refine⟨p,c,aX ?_,by omega,wp',hc,?_⟩
   unfold nZ
   dsimp only
   rw[Sm,List.replicate_zero,PU]
   subst hi;rw[Rf,List.drop_eq_nil_of_le (by omega),oc] at hv
   simpa using hv
  | succ j ih =>
   intro i m p c hij hm hp wp' hc hv;obtain⟨m,rfl⟩:∃m',m=m'+1:=⟨m-1,by omega⟩
   have hi:i<l.length:=by omega
   obtain⟨x,e2⟩:∃x,l[i]? = some x:=⟨l[i],by simp[hi]⟩
   have hx:=hl.at e2;obtain⟨y,y1,y2,y3⟩:=tQ k i;have y2:=y2 hk;have e3:(p++List.replicate (j+1) 0)[((i:Nat):Int).toNat]? = some 0:=by
    rw[Pg,PA (by omega),Q3]; simp; omega
   have st:nZ n l k (p++List.replicate (j+1) 0,c,((i:Nat):Int))=some (.inl ((p++[(x+18446744073709551616-y-c)%18446744073709551616])++List.replicate j 0,if x<y+c then 1 else 0,((i+1:Nat):Int))):=by
    unfold nZ
    dsimp only
    rw[Sl,aJ hi,aN,Pg,e2,ak]
    rw[Pg] at y3 e3;rw[y3,ak];unfold GW;rw[iB hc,ak]
    dsimp only
    rw[Pg,aJ hi,aN,e3,ak,Sn,<-hp,Q8,xO]
   rw[aO st];refine ih (i+1) m _ _ (by omega) (by omega) (by rw[Pm,hp]; rfl) (wp'.app (Wd.one (P9 _ (by decide)))) (by split<;>omega) ?_
   rw[lu e2,y1] at hv;rw[vD,hp,kL];have h2:(x+18446744073709551616-y-c)%18446744073709551616+y+c=x+18446744073709551616*(if x<y+c then 1 else 0):=by split<;>omega
   generalize(x+18446744073709551616-y-c)%18446744073709551616=lo at h2 ⊢;generalize(if x<y+c then 1 else 0)=hi' at h2 ⊢
   generalize vl (l.drop (i+1))=A at hv ⊢;generalize vl (k.drop (i+1))=D at hv ⊢;have h3:wp i*(lo+y+c)=wp i*(x+18446744073709551616*hi'):=by rw[h2]
   simp only[Rm,Q2 (wp i) 18446744073709551616,QE] at hv h3 ⊢;omega
 obtain⟨q,c',h1,h2,h3,h4,h5⟩:=hL l.length 0 n [] 0 (by omega) hn rfl Wd.nil (by omega) (by simp[vl,wp])
 refine⟨q,?_,h3,?_,h2⟩
 unfold ED;rw[iB (by omega),Pg,yZ (by omega),aN]
 rw[show(List.replicate l.length (0:Nat),(0:Nat),(0:Int))=(([]:SB Nat)++List.replicate l.length 0,0,((0:Nat):Int)) from rfl,h1,ak]
 have h6:=yI h3;rw[h2] at h6;have:c'=0:=by
  rcases Nat.le_one_iff_eq_zero_or_eq_one.1 h4 with e|e
  exact e
  rw[e] at h5; omega
 rw[this] at h5;omega
def Ie{n:Nat}{a b:Int}{s t:Bool}{l k:SB Nat}(h:Lg a s l)(h':Lg b t k)(hb:l.length<1000000)(hb':k.length<1000000)(hn:l.length+k.length+1<n) :
  ∃u m,Cm n s l t k=some (u,m)/\Lg (a+b) u m:=by
 have av:=h.val;have bv:=h'.val;unfold Cm
 by_cases e:s=t
 subst e;rw[beq_self_eq_true,fG];obtain⟨r,r1,r2,r3,r4⟩:=IL (n:=n) h.wd h'.wd (by omega) (by omega) (by omega) (by omega)
 obtain⟨u,m,m1,m2⟩:=mG (n:=n) s r2 (by omega) (by omega)
 refine⟨u,m,by rw[r1,ak,m1]; rfl,?_⟩
 have:a+b=B2 s (vl r):=by rw[av,bv,r3]; unfold B2; cases s<;>simp<;>omega
 rw[this]; exact m2
 have:(s==t)=false:=by cases s<;>cases t<;>simp_all
 rw[this,cy];obtain⟨r,r1,r2,r3⟩:=Iw (n:=n) h.wd h'.wd h.last h'.last (by omega) (by omega) (by omega)
 have ht:t = !s:=by cases s<;>cases t<;>simp_all
 have longer:∀p q:SB Nat,Wd p->Wd q->(∀d,p.getLast? = some d->d≠0)->(∀d,q.getLast? = some d->d≠0)->vl p<=vl q->p.length<=q.length:=by
  intro p q wp1 wq1 lp lq hle;refine Nat.le_of_not_lt fun hlt=>?_;have h1:=yI wq1;have h2:=Ap lp (by intro e; rw[e] at hlt; exact Nat.not_lt_zero _ hlt)
  have h3:wp q.length<=wp (p.length-1):=Nat.pow_le_pow_right (by decide) (by omega)
  omega
 rw[r1,ak]
 by_cases hr:r<0
 have hv:=r2.1 hr;obtain⟨m,m1,m2,m3,m4⟩:=AG (n:=n) h'.wd h.wd (Nat.le_of_lt hv) (longer _ _ h.wd h'.wd h.last h'.last (Nat.le_of_lt hv)) (by omega) (by omega)
 obtain⟨u,m',u1,u2⟩:=mG (n:=n) t m2 (by omega) (by omega)
 refine⟨u,m',by rw[aH hr,ak]; dsimp only; rw[m1,ak,u1]; rfl,?_⟩
 have:a+b=B2 t (vl m):=by rw[av,bv,m3,ht]; unfold B2; cases s<;>simp<;>omega
 rw[this]; exact u2
 have hv:vl k<=vl l:=Nat.le_of_not_lt fun h=>hr (r2.2 h);obtain⟨m,m1,m2,m3,m4⟩:=AG (n:=n) h.wd h'.wd hv (longer _ _ h'.wd h.wd h'.last h.last hv) (by omega) (by omega)
 obtain⟨u,m',u1,u2⟩:=mG (n:=n) s m2 (by omega) (by omega)
 refine⟨u,m',by rw[aD hr,ak]; dsimp only; rw[m1,ak,u1]; rfl,?_⟩
 have:a+b=B2 s (vl m):=by rw[av,bv,m3,ht]; unfold B2; cases s<;>simp<;>omega
 rw[this]; exact u2
end
section
open Go Go.Ab Go.Ab.W
def Fz{a:Nat}(ha:a<18446744073709551616):uw .u64 (uw .u64 a &&& uw .u64 4294967295)=a%4294967296:=by
 rw[Er ha (by decide)]
 exact Nat.and_two_pow_sub_one_eq_mod a 32
def M9(a:Nat):mN .u64 a 32=a/4294967296:=rfl
def Gx{a:Nat}(h:a<18446744073709551616):uw .u64 a=a:=PJ h
def I3(n:Nat){x y:Nat}(hx:x<18446744073709551616)(hy:y<18446744073709551616):FC n x y=some (x*y/18446744073709551616,x*y%18446744073709551616):=by
 obtain⟨b1,b2,b3,hhi⟩:=Lib.mul64_hi x y hx hy;have ba:=Lib.half_mul_le (a:=x/4294967296) (b:=y/4294967296) (by omega) (by omega)
 have bb:=Lib.half_mul_le (a:=x/4294967296) (b:=y%4294967296) (by omega) (by omega)
 have bc:=Lib.half_mul_le (a:=x%4294967296) (b:=y/4294967296) (by omega) (by omega)
 unfold FC;simp only[Fz hx,Fz hy,M9,ak];rw[Gx b1,Gx (a:=x/4294967296*(y%4294967296)) (by omega)]
 rw[Gx b2,Fz b2,Gx (a:=x%4294967296*(y/4294967296)) (by omega),Gx b3,Gx (a:=x/4294967296*(y/4294967296)) (by omega)]
 rw[Gx (a:=x/4294967296*(y/4294967296)+_) (by omega),Gx (by omega),hhi]
 rfl
def Hn{n:Nat}{k:SB Nat}(hk:Wd k){x i N:Nat}(hx:x<18446744073709551616)(hN:i+k.length<N)(hNb:N<4611686018427387904){b:SB Nat}(hb:Wd b)(hbN:b.length=N) :
  ∀r j m cur c,j+r=k.length->r<m->Wd cur->cur.length=N->c<18446744073709551616->(∀p,i+k.length<=p->cur[p]? = b[p]?) ->
   vl cur+wp (i+j)*c+wp (i+j)*(x*vl (k.drop j))=vl b+wp i*(x*vl k) ->
   ∃q c',bR (oC n k x (i:Int) N) m (cur,c,((j:Nat):Int))=some (q,c')/\Wd q/\q.length=N/\c'<18446744073709551616/\(∀p,i+k.length<=p->q[p]? = b[p]?)/\vl q+wp (i+k.length)*c'=vl b+wp i*(x*vl k):=by
 intro r
 induction r with
 | zero =>
  intro j m cur c hj hm hw hl hc hp hv;obtain⟨m,rfl⟩:∃m',m=m'+1:=⟨m-1,by omega⟩
  have hj':j=k.length:=by omega
  refine⟨cur,c,aX ?_,hw,hl,hc,hp,?_⟩
  unfold oC
  dsimp only
  rw[Sm]
  rw[<-hv,hj',Rf,oc]; omega
 | succ r ih =>
  intro j m cur c hj hm hw hl hc hp hv;obtain⟨m,rfl⟩:∃m',m=m'+1:=⟨m-1,by omega⟩
  have hi:j<k.length:=by omega
  obtain⟨y,e2⟩:∃y,k[j]? = some y:=⟨k[j],by simp[hi]⟩
  have hy:=hk.at e2;obtain⟨d,e3⟩:∃d,cur[i+j]? = some d:=⟨cur[i+j]'(by omega),by simp⟩
  have hd:=hw.at e3;have hxy:x*y<=18446744073709551615*18446744073709551615:=Qw (by omega) (by omega)
  have w1:RC ((i:Int)+((j:Nat):Int))=((i+j:Nat):Int):=by rw[aq (by omega) (by omega)]; omega
  have st:oC n k x (i:Int) N (cur,c,((j:Nat):Int))=some (.inl (cur.set (i+j) ((x*y+d+c)%18446744073709551616),(x*y+d+c)/18446744073709551616,((j+1:Nat):Int))):=by
   unfold oC
   dsimp only
   rw[Sl,aJ hi,aN,Pg,e2,ak,I3 n hx hy,ak]
   dsimp only
   rw[w1,aJ (by omega),aN,Pg,e3,ak]
   unfold CT;rw[iB (by omega),ak]
   dsimp only
   rw[iB (by omega),ak]
   dsimp only
   rw[aN,Sn,Gx (a:=x*y/18446744073709551616+_) (by omega),Gx (by omega)]
   congr 3
   congr 1; omega
   congr 1; omega
  rw[aO st];refine ih (j+1) m _ _ (by omega) (by omega) (hw.set (P9 _ (by decide))) (by rw[Qs]; exact hl) (by omega) (fun p hp'=>by rw[QM (by omega)]; exact hp p hp') ?_
  rw[lu e2] at hv;have hs:=EM ((x*y+d+c)%18446744073709551616) e3;rw[<-hv,<-Re i j 1,kL];have h2:(x*y+d+c)%18446744073709551616+18446744073709551616*((x*y+d+c)/18446744073709551616)=x*y+d+c:=Nat.mod_add_div _ _;generalize(x*y+d+c)%18446744073709551616=lo at h2 hs ⊢;generalize(x*y+d+c)/18446744073709551616=hi' at h2 ⊢;generalize vl (k.drop (j+1))=A at hv ⊢;generalize vl (cur.set (i+j) lo)=Z at hs ⊢;have h3:wp (i+j)*(lo+18446744073709551616*hi')=wp (i+j)*(x*y+d+c):=by rw[h2]
  simp only[Rm,Q2 (wp (i+j)) 18446744073709551616,Q2 x 18446744073709551616,QE] at hs h3 ⊢;omega
def H7{n:Nat}{l k:SB Nat}(hl:Wd l)(hk:Wd k)(hb:l.length<500000000)(hb':k.length<500000000)(hn:l.length<n)(hn':k.length<n) :
  ∃r,E1 n l k=some r/\Wd r/\vl r=vl l*vl k/\r.length=l.length+k.length:=by
 have hL:∀r i m b,i+r=l.length->r<m->Wd b->b.length=l.length+k.length->(∀p,i+k.length<=p->p<l.length+k.length->b[p]? = some 0) ->
   vl b+wp i*(vl (l.drop i)*vl k)=vl l*vl k ->
   ∃q,bR (oU n l k) m (b,l.length+k.length,((i:Nat):Int))=some (q,l.length+k.length)/\Wd q/\q.length=l.length+k.length/\vl q=vl l*vl k:=by
  intro r
  induction r with
  | zero =>
   intro i m b hi hm hw hlen _ hv;obtain⟨m,rfl⟩:∃m',m=m'+1:=⟨m-1,by omega⟩
   have hi':i=l.length:=by omega
   refine⟨b,aX ?_,hw,hlen,?_⟩
   unfold oU
   dsimp only
   rw[Sm]
   rw[<-hv,hi',Rf,oc]; simp
  | succ r ih =>
   intro i m b hi hm hw hlen hz hv;obtain⟨m,rfl⟩:∃m',m=m'+1:=⟨m-1,by omega⟩
   have hi':i<l.length:=by omega
   obtain⟨x,e2⟩:∃x,l[i]? = some x:=⟨l[i],by simp⟩
   have hx:=hl.at e2;obtain⟨q,c,q1,q2,q3,q4,q5,q6⟩:=Hn (n:=n) (i:=i) hk hx (N:=l.length+k.length) (by omega) (by omega) hw hlen k.length 0 n b 0 (by omega) hn' hw hlen (by decide) (fun _ _=>rfl) (by simp)
   have e3:q[i+k.length]? = some 0:=by rw[q5 _ (Pd _)]; exact hz _ (Pd _) (by omega)
   have w1:RC ((i:Int)+(k.length:Int))=((i+k.length:Nat):Int):=by rw[aq (by omega) (by omega)]; omega
   have st:oU n l k (b,l.length+k.length,((i:Nat):Int))=some (.inl (q.set (i+k.length) c,l.length+k.length,((i+1:Nat):Int))):=by
    unfold oU
    dsimp only
    rw[Sl,aJ hi',aN,Pg,e2,ak]
    rw[show((0:Int))=((0:Nat):Int) from rfl,q1,ak]
    dsimp only
    rw[w1,aJ (by omega),aN,Pg,e3,ak,Sn]
   rw[aO st];refine ih (i+1) m _ (by omega) (by omega) (q2.set q4) (by rw[Qs]; exact q3) (fun p h1 h2=>by rw[QM (by omega),q5 p (by omega)]; exact hz p (by omega) h2) ?_
   have hs:=EM c e3;rw[lu e2] at hv;rw[<-hv,kL];generalize vl (q.set (i+k.length) c)=Z at hs ⊢;generalize vl (l.drop (i+1))=A at hv ⊢;have h4:wp i*((x+18446744073709551616*A)*vl k)=wp i*(x*vl k)+18446744073709551616*wp i*(A*vl k):=by
    simp only[Qx,Rm,QE,Q2 (wp i) 18446744073709551616]
   rw[h4];omega
 unfold E1;have w1:RC ((l.length:Int)+(k.length:Int))=((l.length+k.length:Nat):Int):=by rw[aq (by omega) (by omega)]; omega
 obtain⟨q,q1,q2,q3,q4⟩:=hL l.length 0 n (List.replicate (l.length+k.length) 0) (by omega) hn (Wd.zeros _) (by simp) (fun p _ h2=>by rw[Q3]; simp[h2]) (by rw[FG,G4]; simp)
 refine⟨q,?_,q2,q4,q3⟩;rw[w1,iB (by omega),Pg,yZ (by omega),aN]
 rw[show((0:Int))=((0:Nat):Int) from rfl,q1]
 rfl
def HN{n:Nat}{a b:Int}{s t:Bool}{l k:SB Nat}(h:Lg a s l)(h':Lg b t k)(hb:l.length<1000000)(hb':k.length<1000000)(hn:l.length+k.length<n) :
  ∃u m,CY n s l t k=some (u,m)/\Lg (a*b) u m:=by
 obtain⟨r,r1,r2,r3,r4⟩:=H7 (n:=n) h.wd h'.wd (by omega) (by omega) (by omega) (by omega)
 obtain⟨u,m,m1,m2⟩:=mG (n:=n) (!(s==t)) r2 (by omega) (by omega)
 refine⟨u,m,by unfold CY; rw[r1,ak,m1]; rfl,?_⟩
 have:a*b=B2 (!(s==t)) (vl r):=by
  rw[h.val,h'.val,r3]; unfold B2;cases s<;>cases t<;>simp[Int.neg_mul,Int.mul_neg]
 rw[this]; exact m2
end
section
open Go Go.Ab Go.Ab.W
end
section
open Go Go.Ab Go.Ab.W
end
section
open Go Go.Ab Go.Ab.W
end
end Go.Proofs.YthmekkhpddehjaaGreat.Ln
end
section
namespace Go.Proofs.YthmekkhpddehjaaGreat.Ln
open Go Go.Ab Go.Ab.W
section
variable{n:Nat}
def Lg.pos{x:Nat}(h0:x≠0)(h:x<18446744073709551616){s:Bool}{l:SB Nat}(g:Lg (x:Int) s l):s=false/\l=[x]:=by
 have h1:=g.N1;rw[PL (by omega)] at h1
 have h2:=g.Ow (by omega) (by omega)
 exact⟨h1,by rw[h2]; rfl⟩
def Lg.BI{x:Nat}(h0:x≠0)(h:x<18446744073709551616):Lg (x:Int) false [x]:=Lg.small h0 h false
def DU{x:Nat}(h:x<18446744073709551616):ui .u64 (x:Int)=x:=by
 unfold ui;rw[show uM .u64=18446744073709551616 from rfl]
 omega
def mS(hn:20<n){x:Nat}(h0:x≠0)(h:x<9223372036854775808):CS n (x:Int)=some (false,[x]):=by
 have hw:Wd [x,0,0,0,0,0,0,0]:=fun d hd=>by
  simp at hd; omega
 obtain⟨t,k,e,g⟩:=mG (n:=n) false hw (by simp) (by simp; omega)
 have hv:B2 false (vl [x,0,0,0,0,0,0,0])=(x:Int):=by simp[B2,vl]
 rw[hv] at g;obtain⟨rfl,rfl⟩:=g.pos h0 (by omega)
 have e0:wN n (x:Int)=some (x,0,0,0,0,0,0,0):=by
  unfold wN;rw[Sm,ak,DU (x:=x) (by omega)]; rfl
 unfold CS;rw[e0,ak]
 dsimp only
 have e1:FW n x 0 0 0 0 0 0 0=some (false,x,0,0,0,0,0,0,0):=by
  unfold FW;rw[aD (by decide)]; rfl
 unfold Hk;rw[e1,ak]
 dsimp only
 rw[P7,show lim [x,0,0,0,0,0,0,0].length=true from rfl,aN,e,ak,ak]
def qM(hn:20<n){x y:Nat}(hx:x≠0)(hy:y≠0)(h:x*y<18446744073709551616):CY n false [x] false [y]=some (false,[x*y]):=by
 have h1:x<=x*y:=PK x (by omega)
 have h2:y<=x*y:=P4 y (by omega)
 obtain⟨u,m,e,g⟩:=HN (n:=n) (Lg.BI hx (by omega)) (Lg.BI hy (by omega)) (by simp) (by simp) (by simp; omega)
 rw[show(x:Int)*(y:Int)=((x*y:Nat):Int) from(P8 x y).symm] at g
 obtain⟨rfl,rfl⟩:=g.pos (by omega) h
 exact e
def lw(x:Nat):SB Nat:=if x=0 then[] else[x]
def rh(hn:20<n){x y:Nat}(hy:y≠0)(h:x+y<18446744073709551616):Cm n false (lw x) false [y]=some (false,[x+y]):=by
 have hx:Lg (x:Int) false (lw x):=by
  unfold lw
  by_cases k:x=0
  rw[Ph k,k]; exact Lg.zero
  rw[Pb k]; exact Lg.BI k (by omega)
 have hl:(lw x).length<=1:=by unfold lw; split<;>simp
 obtain⟨u,m,e,g⟩:=Ie (n:=n) hx (Lg.BI hy (by omega)) (by omega) (by simp) (by simp; omega)
 rw[show(x:Int)+(y:Int)=((x+y:Nat):Int) from(Int.natCast_add x y).symm] at g
 obtain⟨rfl,rfl⟩:=g.pos (by omega) h
 exact e
def qX(hn:20<n){x:Nat}:DD n false [x]=some (x,0,0,0,0,0,0,0,0):=by
 unfold DD;rw[aD (by simp),show decide (([x]:SB Nat).length<=8)=true from rfl,aN]
 show(ob (some (x,0,0,0,0,0,0,0)) _)=_
 rw[ak]
 dsimp only
 have e0:E8 n x 0 0 0 0 0 0 0 0 0 0 0 0 0 0 9223372036854775808=some (-1):=by
  unfold E8;obtain⟨n,rfl⟩:∃m,n=m+1:=⟨n-1,by omega⟩
  rw[aX (r:=.inl (-1))]
  rw[ak]
  rfl
 unfold HI;rw[e0,ak,aD (by decide),aD (by decide),ak,cy,cy,ak,ak]
def qe(hn:20<n){x:Nat}(h:x<9223372036854775808):DT n x 0 0 0 0 0 0 0=some ((x:Int),0):=by
 have e0:wN n (x:Int)=some (x,0,0,0,0,0,0,0):=by
  unfold wN;rw[Sm,ak,DU (x:=x) (by omega)]; rfl
 unfold DT;rw[aq (by omega) (by omega),e0,ak]
 dsimp only
 simp[br]
end
end Go.Proofs.YthmekkhpddehjaaGreat.Ln
end
section
namespace Jd
def Ey(p:Nat):Prop:=2<=p/\∀d,d∣p->d=1\/d=p
def zC:∀n:Nat,2<=n->∃p,Ey p/\p∣n:=by
 intro n
 induction n using Nat.strongRecOn with
 | _ n ih =>
  intro hn
  by_cases h:∀d,d∣n->d=1\/d=n
  exact⟨n,⟨hn,h⟩,Nat.dvd_refl n⟩
  obtain⟨d,hd⟩:=Classical.not_forall.1 h;have h1:d∣n:=Pw fun k=>hd fun c=>Pz c k;have h2:d≠1:=fun e=>hd fun _=>.inl e;have h3:d≠n:=fun e=>hd fun _=>.inr e;have h4:d<=n:=Nat.le_of_dvd (by omega) h1
  have h5:d≠0:=fun e=>by subst e; have:=Qv h1; omega
  obtain⟨p,hp,hpd⟩:=ih d (by omega) (by omega)
  exact⟨p,hp,QF hpd h1⟩
def Ey.tM{p n:Nat}(hp:Ey p)(h:¬p∣n):Rp p n:=by
 rcases hp.2 _ (Nat.gcd_dvd_left p n) with e|e
 exact e
 exact Pz (e▸Nat.gcd_dvd_right p n) h
def Ey.dvd_mul{p a b:Nat}(hp:Ey p)(h:p∣a*b):p∣a\/p∣b:=by
 by_cases ha:p∣a
 exact .inl ha
 exact .inr ((hp.tM ha).dvd_of_dvd_mul_left h)
def SF(m:Nat):Prop:=0<m/\∀d,d*d∣m->d=1
def SF.one:SF 1:=⟨by decide,fun d h=>by
 have:=Nat.dvd_one.1 h;exact Nat.eq_one_of_mul_eq_one_left this⟩
def Ey.sf{p:Nat}(hp:Ey p):SF p:=⟨by have:=hp.1; omega,fun d h=>by
 have h1:d∣p:=QF (QQ d d) h;rcases hp.2 d h1 with e|e
 exact e
 subst e;have:=Nat.le_of_dvd (by have:=hp.1; omega) h
 have h2:=Qd d hp.1;have:=hp.1;omega⟩
def SF.mul{a b:Nat}(ha:SF a)(hb:SF b)(hc:Rp a b):SF (a*b):=by
 refine⟨P3 ha.1 hb.1,fun d h=>Pw fun hd=>?_⟩;have h0:d≠0:=fun e=>by
  subst e;have:=Qv (by simpa using h)
  have:=P3 ha.1 hb.1;omega
 obtain⟨q,hq,hqd⟩:=zC d (by omega)
 have hqq:q*q∣a*b:=QF (Nat.mul_dvd_mul hqd hqd) h;have hq2:=hq.1;rcases hq.dvd_mul (QF (QQ q q) hqq) with k|k
 have hnb:¬q∣b:=fun c=>by
  have:=Nat.dvd_gcd k c;rw[hc] at this;have:=Nat.dvd_one.1 this;omega
 have c1:=hq.tM hnb;have c2:Rp (q*q) b:=Nat.Coprime.mul_left c1 c1;have:=ha.2 q (c2.dvd_of_dvd_mul_right hqq);omega
 have hna:¬q∣a:=fun c=>by
  have:=Nat.dvd_gcd c k;rw[hc] at this;have:=Nat.dvd_one.1 this;omega
 have c1:=hq.tM hna;have c2:Rp (q*q) a:=Nat.Coprime.mul_left c1 c1;have:=hb.2 q (c2.dvd_of_dvd_mul_left hqq);omega
def SF.uniq{s t m k:Nat}(hm:SF m)(hk:SF k)(hs:0<s)(ht:0<t)(e:s*s*m=t*t*k):s=t/\m=k:=by
 have hg:0<Nat.gcd s t:=Nat.gcd_pos_of_pos_left t hs;obtain⟨a,ha⟩:=Nat.gcd_dvd_left s t;obtain⟨b,hb⟩:=Nat.gcd_dvd_right s t;have hc:Rp a b:=by
  have h1:=Nat.coprime_div_gcd_div_gcd hg;have ea:s/Nat.gcd s t=a:=Nat.div_eq_of_eq_mul_right hg ha;have eb:t/Nat.gcd s t=b:=Nat.div_eq_of_eq_mul_right hg hb;rwa[ea,eb] at h1
 generalize Nat.gcd s t=g at *;subst ha hb;have e2:g*g*(a*a*m)=g*g*(b*b*k):=by
  calc g*g*(a*a*m)=g*a*(g*a)*m:=by grind
   _=g*b*(g*b)*k:=e
   _=g*g*(b*b*k):=by grind
 have e3:=Nat.eq_of_mul_eq_mul_left (P3 hg hg) e2;have c2:Rp (a*a) (b*b):=Nat.Coprime.mul_left (Nat.Coprime.mul_right hc hc) (Nat.Coprime.mul_right hc hc);have h1:a*a∣k:=c2.dvd_of_dvd_mul_left (e3▸QQ (a*a) m);have h2:b*b∣m:=c2.symm.dvd_of_dvd_mul_left (e3▸QQ (b*b) k);have a1:=hk.2 a h1;have b1:=hm.2 b h2;subst a1 b1;simp at e3;exact⟨rfl,e3⟩
end Jd
end
