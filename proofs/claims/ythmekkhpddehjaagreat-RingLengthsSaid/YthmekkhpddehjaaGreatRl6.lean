/- A part of the proof. -/
import Derived.Test.YthmekkhpddehjaaGreatRl5
import Derived.Maps.RangeRun
set_option linter.all false
namespace Go.Proofs.YthmekkhpddehjaaGreat
open Go Go.Ab Go.Ab.W
set_option maxRecDepth 10000
set_option maxHeartbeats 4000000
attribute [local irreducible] Tm.at Trie.set Trie.get Sr.get Sr.set Sr.alloc Sr.ww Sr.kill
def BC(n:Nat)(x1:Int)  (r:Bool×SB Nat)(hF:CS n x1=some r)(m:Sr){H:Rw}(hH:∀b,H b->b<m.next)  :
  aK aG 109 [.int .i64 x1] m (fun v m'=>∃x:Rv×Nat×Nat,v=.agg #[.bool r.1,.slice x.1 x.2.2 x.2.1]/\Hp m m' [.rd x.1 x.2.1 1 x.2.2 (r.2.map (eN .u64)),.gen (bu H)]):=by
 unfold CS at hF;refine aC (m0:=m) (ps:=[.gen (bu H)]) (N:=6) (rs:=[.cell 2 144]) rfl Tryz.func109 rfl rfl rfl (Hp.dR m hH)<|RI<|RH<|RS (cC uY rfl) gn rfl fun b2=>?_;refine RJ<|RK<|RI<|RH<|RG (aa rfl) rfl ?_;obtain⟨⟨r4,r5,r6,r7,r8,r9,r10,r11⟩,h3,hF⟩:=J hF;refine RS (bM rfl rfl (fun m hm=>Bn n x1  _ h3 m) fun _=>rfl) gn rfl ?_;rintro⟨⟩;obtain⟨⟨r13,l14⟩,h12,hF⟩:=J hF;refine RS (fc (N:=(fun x:Rv×Nat×Nat=>[.rd x.1 x.2.1 1 x.2.2 (l14.map (eN .u64))])) rfl rfl (fun m hm=>HR n r4 r5 r6 r7 r8 r9 r10 r11  _ h12 m hm.bt) fun _=>rfl) gn rfl ?_;rintro⟨a15,c16,n17⟩;refine Se (k:=0) (xs:=l14) rfl ?_;rintro rfl;refine R4 (bJ (k:=1) fJ rfl rfl rfl rfl rfl)<|RJ<|RK<|RO ?_;cases hF;exact RR (.cell (k:=1) fJ rfl rfl rfl .nil) fun m' hm=>⟨(a15,c16,l14.length),rfl,(ae.ab [0,2] rfl rfl) m' hm⟩
def Io(n:Nat)(x1:Nat)(x2:Nat)  (r:Nat×Nat)(hF:FC n x1 x2=some r)(m:Sr)  :
  aK aG 147 [.int .u64 ((x1:Nat):Int),.int .u64 ((x2:Nat):Int)] m (Sq m (.tuple #[.int .u64 ((r.1:Nat):Int),.int .u64 ((r.2:Nat):Int)])):=by
 unfold FC at hF;refine aC (m0:=m) (ps:=[]) (N:=51) (rs:=[.tmp 4,.tmp 5]) rfl Tryz.func147 rfl rfl rfl (RZ m)<|RI<|RH<|RG (ai rfl) rfl<|RG (ai rfl) rfl<|RJ<|RK<|RI<|RH<|RG (aa rfl) rfl<|RG (aj rfl rfl (zl rfl _ _)) rfl<|RG (ai rfl) rfl<|RJ<|RK<|RI<|RH<|RG (aa rfl) rfl<|RG (aj rfl rfl (oo _ _ rfl)) rfl<|RG (ai rfl) rfl<|RJ<|RK<|RI<|RH<|RG (aa rfl) rfl ?_;refine RG (aj rfl rfl (zl rfl _ _)) rfl<|RG (ai rfl) rfl<|RJ<|RK<|RI<|RH<|RG (aa rfl) rfl<|RG (aj rfl rfl (oo _ _ rfl)) rfl<|RG (ai rfl) rfl<|RJ<|RK<|RI<|RH<|RG (aa rfl) rfl<|RG (aa rfl) rfl ?_;obtain⟨y3,h4,hF⟩:=J hF;refine RG (aj rfl rfl ((lM rfl _ _).trans (cN h4))) rfl<|RG (ai rfl) rfl<|RJ<|RK<|RI<|RH<|RG (aa rfl) rfl<|RG (aa rfl) rfl ?_;obtain⟨y5,h6,hF⟩:=J hF;refine RG (aj rfl rfl ((lM rfl _ _).trans (cN h6))) rfl<|RG (aa rfl) rfl<|RG (aj rfl rfl (oo _ _ rfl)) rfl<|RG (aj rfl rfl (jD rfl _ _)) rfl<|RG (ai rfl) rfl<|RJ<|RK<|RI<|RH<|RG (aa rfl) rfl ?_;obtain⟨y7,h8,hF⟩:=J hF;refine RG (aj rfl rfl ((zl rfl _ _).trans (cN h8))) rfl<|RG (ai rfl) rfl<|RJ<|RK<|RI<|RH<|RG (aa rfl) rfl<|RG (aj rfl rfl (oo _ _ rfl)) rfl<|RG (ai rfl) rfl<|RJ<|RK<|RI<|RH<|RG (aa rfl) rfl<|RG (aa rfl) rfl<|RG (aa rfl) rfl ?_;obtain⟨y9,h10,hF⟩:=J hF;refine RG (aj rfl rfl ((lM rfl _ _).trans (cN h10))) rfl<|RG (aj rfl rfl (jD rfl _ _)) rfl<|RG (ai rfl) rfl<|RJ<|RK<|RI<|RH<|RG (aa rfl) rfl<|RG (aa rfl) rfl<|RG (aj rfl rfl (lM rfl _ _)) rfl<|RG (aa rfl) rfl ?_;obtain⟨y11,h12,hF⟩:=J hF;refine RG (aj rfl rfl ((jD rfl _ _).trans (cN h12))) rfl<|RG (aa rfl) rfl<|RG (aj rfl rfl (oo _ _ rfl)) rfl<|RG (aj rfl rfl (jD rfl _ _)) rfl<|RG (ai rfl) rfl<|RJ<|RK<|RI<|RH<|RG (aa rfl) rfl<|RG (aa rfl) rfl<|RG (aj rfl rfl (lM rfl _ _)) rfl<|RG (ai rfl) rfl<|RJ<|RK<|RO ?_;cases hF;exact RR (.tmp rfl (.tmp rfl .nil)) fun m' hm=>⟨(),rfl,(ae.ab [] rfl rfl) m' hm⟩
def GO(n:Nat)(l1:SB (Nat))(l5:SB (Nat))(a2:Rv)(c1:Nat)(a0:Rv)(c0:Nat)(r:SB Nat)(hF:E1 n l1 l5=some r)(m:Sr)(h10:Rd m a2 c1 1 l1.length (l1.map (eN .u64)))(h11:Rd m a0 c0 1 l5.length (l5.map (eN .u64))) :
  aK aG 134 [.slice a2 l1.length c1,.slice a0 l5.length c0] m (fun v m'=>∃x:Rv×Nat,v=.slice x.1 x.2 x.2/\Hp m m' [.sl x.1 1 x.2 (r.map (eN .u64))]):=by
 unfold E1 at hF;refine aC (m0:=m) (ps:=[.rd a0 c0 1 l5.length (l5.map (eN .u64)),.rd a2 c1 1 l1.length (l1.map (eN .u64))]) (N:=80) (rs:=[.tmp 4]) rfl Tryz.func134 rfl rfl rfl (((RZ m).oj rfl h10).oj rfl h11)<|RI<|RH<|RG (ai rfl) rfl<|RJ<|RK<|RI<|RH<|RG (aa rfl) rfl<|RG (bz (k:=1) iw rfl rfl (.inl rfl)) rfl<|RG (aa rfl) rfl<|RG (bz (k:=0) iw rfl rfl (.inl rfl)) rfl<|RG (aj rfl rfl (aA _ _ _)) rfl ?_;obtain⟨h12,hF⟩:=al hF;obtain⟨h13,hF⟩:=al hF;refine RS (wC (f:=eN .u64) (z0:=(0:Nat)) gC rfl h12 h13 GQ rfl rfl) gn rfl fun b3=>?_;refine RG (ai rfl) rfl<|RJ<|RK<|RI<|RI<|RH<|RG (aa rfl) rfl<|RG (bz (k:=2) iw rfl rfl (.inl rfl)) rfl<|RG (aa rfl) rfl<|RJ<|RK<|RP ?_;obtain⟨r0,h4,hF⟩:=J hF;refine RY (G:=(fun(r:SB (Nat)×Nat) (g:Rv)=>match r,g with |(l2,n2),a3=>⟨(.exit 0),[(5,.slice a3 n2 n2)],[.sl a3 1 n2 (l2.map (eN .u64))]⟩) r0) ?_ ?_
 refine R8 (fs':=[(1,.slice a0 l5.length c0),(5,.slice (some ⟨b3,0,none⟩) ((RC ((l1.length:Int)+(l5.length:Int))).toNat) ((RC ((l1.length:Int)+(l5.length:Int))).toNat)),(22,.slice a2 l1.length c1),(23,.int .i64 (l1.length:Int)),(24,.int .i64 0)]) (ps':=[.rd a0 c0 1 l5.length (l5.map (eN .u64)),.sl (some ⟨b3,0,none⟩) 1 ((RC ((l1.length:Int)+(l5.length:Int))).toNat) ((List.replicate (RC ((l1.length:Int)+(l5.length:Int))).toNat (0:Nat)).map (eN .u64)),.rd a2 c1 1 l1.length (l1.map (eN .u64))]) (sc rfl (sc rfl (sc rfl (sc rfl (sc rfl sn))))) (ae.trans (ae.close (k:=0) rfl) (ae.ab [1,0,2] rfl rfl)) ?_;refine R2 (σ:=SB (Nat)×Nat×Int) (ρ:=SB (Nat)×Nat) (γ:=Rv) (δ:=fun _=>Rv) _ (fun(s:SB (Nat)×Nat×Int) (g:Rv)=>match s,g with |(l4,n1,v1),a1=>⟨.normal,[(1,.slice a0 l5.length c0),(5,.slice a1 n1 n1),(22,.slice a2 l1.length c1),(23,.int .i64 (l1.length:Int)),(24,.int .i64 v1)],[.rd a0 c0 1 l5.length (l5.map (eN .u64)),.sl a1 1 n1 (l4.map (eN .u64)),.rd a2 c1 1 l1.length (l1.map (eN .u64))]⟩) (fun(r:SB (Nat)×Nat) (g:Rv)=>match r,g with |(l2,n2),a3=>⟨(.exit 0),[(5,.slice a3 n2 n2)],[.sl a3 1 n2 (l2.map (eN .u64))]⟩) ?_ (fun _ _=>rfl) (fun r d=>by intro e; cases e) _ _ _ h4 (some ⟨b3,0,none⟩)
 clear hF h4;rintro⟨l4,n1,v1⟩ a1 r hF;unfold oU at hF;refine RI<|RH<|RG (aj rfl rfl (aF _ _ _)) rfl<|RJ<|RK<|RI ?_;rcases ah hF with⟨h5,hF⟩|⟨h5,hF⟩
 refine RT rfl h5<|RN<|RK<|RI<|RP<|RI<|RH<|RG (aa rfl) rfl ?_;obtain⟨h0,hF⟩:=al hF;replace h0:=au h0;refine Sa (k:=2) rfl (aW h0) ?_;rintro b0 o1 rfl;refine RL (bp gC rfl rfl h0) gn rfl ?_;obtain⟨x3,h14,hF⟩:=J hF;refine RG (bC (k:=0) db rfl rfl (aL h14) rfl rfl) rfl<|RG (ai rfl) rfl<|RG (ai rfl) rfl<|RJ<|RK<|RI<|RH<|RG (ai rfl) rfl<|RJ<|RK<|RI<|RI<|RH<|RG (aa rfl) rfl<|RG (bz (k:=1) iw rfl rfl (.inl rfl)) rfl<|RG (aa rfl) rfl<|RJ<|RK<|RP ?_;obtain⟨r1,h6,hF⟩:=J hF;refine RY (G:=(fun(r:SB (Nat)×Nat) (g:SC)=>match r,g with |(l3,v2),_=>⟨(.exit 2),[(1,.slice a0 l5.length c0),(5,.slice a1 n1 n1),(6,.int .i64 v1),(8,.int .u64 ((v2:Nat):Int)),(22,.slice (some ⟨b0,o1,none⟩) l1.length c1),(23,.int .i64 (l1.length:Int)),(24,.int .i64 v1)],[.rd a0 c0 1 l5.length (l5.map (eN .u64)),.sl a1 1 n1 (l3.map (eN .u64)),.ro b0 o1 1 l1.length (l1.map (eN .u64)),.rd (some ⟨b0,o1,none⟩) c1 1 l1.length (l1.map (eN .u64))]⟩) r1) ?_ ?_
 refine R8 (fs':=[(1,.slice a0 l5.length c0),(5,.slice a1 n1 n1),(6,.int .i64 v1),(7,.int .u64 ((x3:Nat):Int)),(8,.int .u64 ((0:Nat):Int)),(22,.slice (some ⟨b0,o1,none⟩) l1.length c1),(23,.int .i64 (l1.length:Int)),(24,.int .i64 v1),(29,.slice a0 l5.length c0),(30,.int .i64 (l5.length:Int)),(31,.int .i64 0)]) (ps':=[.rd a0 c0 1 l5.length (l5.map (eN .u64)),.sl a1 1 n1 (l4.map (eN .u64)),.ro b0 o1 1 l1.length (l1.map (eN .u64)),.rd (some ⟨b0,o1,none⟩) c1 1 l1.length (l1.map (eN .u64))]) (sc rfl (sc rfl (sc rfl (sc rfl (sc rfl (sc rfl (sc rfl (sc rfl (sc rfl (sc rfl (sc rfl sn))))))))))) (ae.ab [1,2,0,3] rfl rfl) ?_;refine R2 (σ:=SB (Nat)×Nat×Int) (ρ:=SB (Nat)×Nat) (γ:=SC) (δ:=fun _=>SC) _ (fun(s:SB (Nat)×Nat×Int) (g:SC)=>match s,g with |(l7,v3,v4),_=>⟨.normal,[(1,.slice a0 l5.length c0),(5,.slice a1 n1 n1),(6,.int .i64 v1),(7,.int .u64 ((x3:Nat):Int)),(8,.int .u64 ((v3:Nat):Int)),(22,.slice (some ⟨b0,o1,none⟩) l1.length c1),(23,.int .i64 (l1.length:Int)),(24,.int .i64 v1),(29,.slice a0 l5.length c0),(30,.int .i64 (l5.length:Int)),(31,.int .i64 v4)],[.rd a0 c0 1 l5.length (l5.map (eN .u64)),.sl a1 1 n1 (l7.map (eN .u64)),.ro b0 o1 1 l1.length (l1.map (eN .u64)),.rd (some ⟨b0,o1,none⟩) c1 1 l1.length (l1.map (eN .u64))]⟩) (fun(r:SB (Nat)×Nat) (g:SC)=>match r,g with |(l3,v2),_=>⟨(.exit 2),[(1,.slice a0 l5.length c0),(5,.slice a1 n1 n1),(6,.int .i64 v1),(8,.int .u64 ((v2:Nat):Int)),(22,.slice (some ⟨b0,o1,none⟩) l1.length c1),(23,.int .i64 (l1.length:Int)),(24,.int .i64 v1)],[.rd a0 c0 1 l5.length (l5.map (eN .u64)),.sl a1 1 n1 (l3.map (eN .u64)),.ro b0 o1 1 l1.length (l1.map (eN .u64)),.rd (some ⟨b0,o1,none⟩) c1 1 l1.length (l1.map (eN .u64))]⟩) ?_ (fun _ _=>rfl) (fun r d=>by intro e; cases e) _ _ _ h6 ()
 clear hF h6;rintro⟨l7,v3,v4⟩ ⟨⟩ r hF;unfold oC at hF;refine RI<|RH<|RG (aj rfl rfl (aF _ _ _)) rfl<|RJ<|RK<|RI ?_;rcases ah hF with⟨h7,hF⟩|⟨h7,hF⟩
 refine RT rfl h7<|RN<|RK<|RI<|RP<|RI<|RH<|RG (aa rfl) rfl ?_;obtain⟨h1,hF⟩:=al hF;replace h1:=au h1;refine Sa (k:=0) rfl (aW h1) ?_;rintro b5 o2 rfl;refine RL (bp gC rfl rfl h1) gn rfl ?_;obtain⟨x10,h15,hF⟩:=J hF;refine RG (bC (k:=0) db rfl rfl (aL h15) rfl rfl) rfl<|RG (ai rfl) rfl<|RG (ai rfl) rfl<|RJ<|RK<|RI<|RH<|RG (aa rfl) rfl<|RG (aa rfl) rfl ?_;obtain⟨⟨r6,r3⟩,h16,hF⟩:=J hF;refine RS (bM rfl rfl (fun m hm=>Io n x3 x10  _ h16 m) fun _=>rfl) gn rfl ?_;rintro⟨⟩;refine RG (aa rfl) rfl<|RG (cr rfl rfl) rfl<|RG (cr rfl rfl) rfl<|RG (ai rfl) rfl<|RG (ai rfl) rfl<|RJ<|RK<|RI<|RH<|RG (aa rfl) rfl<|RG (aa rfl) rfl<|RG (aa rfl) rfl<|RG (aj rfl rfl (aA _ _ _)) rfl ?_;obtain⟨h2,hF⟩:=al hF;replace h2:=au h2;refine Sf (k:=2) rfl (aW h2) ?_;rintro b6 t3 rfl h20;refine RL (cF gC rfl rfl h2) gn rfl ?_;obtain⟨x4,h9,hF⟩:=J hF;refine RG (ef (k:=2) db rfl rfl (aL h9) rfl rfl) rfl<|RG (aa rfl) rfl ?_;obtain⟨⟨r4,r7⟩,h17,hF⟩:=J hF;refine RS (bM rfl rfl (fun m hm=>vC n x4 r3 0  _ h17 m) fun _=>rfl) gn rfl ?_;rintro⟨⟩;refine RG (aa rfl) rfl<|RG (cr rfl rfl) rfl<|RG (cr rfl rfl) rfl<|RG (ai rfl) rfl<|RG (ai rfl) rfl<|RJ<|RK<|RI<|RH<|RG (aa rfl) rfl<|RG (aa rfl) rfl ?_;obtain⟨⟨r5,r8⟩,h18,hF⟩:=J hF;refine RS (bM rfl rfl (fun m hm=>vC n r4 v3 0  _ h18 m) fun _=>rfl) gn rfl ?_;rintro⟨⟩;refine RG (aa rfl) rfl<|RG (cr rfl rfl) rfl<|RG (cr rfl rfl) rfl<|RG (ai rfl) rfl<|RG (ai rfl) rfl<|RJ<|RK<|RH<|RG (aa rfl) rfl<|RG (aa rfl) rfl<|RG (aa rfl) rfl<|RG (aj rfl rfl (aA _ _ _)) rfl<|RG (aa rfl) rfl ?_;refine RG (aa rfl) rfl<|RG (aa rfl) rfl<|RG (aj rfl rfl (jD rfl _ _)) rfl<|RG (aa rfl) rfl<|RG (aj rfl rfl (jD rfl _ _)) rfl ?_;obtain⟨h8,hF⟩:=al hF;replace h8:=au h8;refine RL (cF gC rfl rfl h8) gn rfl<|R4 (fL (k:=2) (x1:=x4) (x2:=r5) db rfl rfl rfl h9 rfl)<|RG (ai rfl) rfl<|RJ<|R3<|RK<|RH<|RG (aj rfl rfl (aA _ _ _)) rfl<|RG (aa rfl) rfl<|RJ ?_;cases hF;exact RM () rfl (sc rfl (sc rfl (sc rfl (sc rfl (sc rfl (sc rfl (sc rfl (sc rfl (sc rfl (sc rfl (sc rfl sn))))))))))) (ae.trans (ae.close (k:=2) rfl) (ae.ab [1,2,3,4] rfl rfl))
 refine RV rfl h7<|R1<|R6 ?_;cases hF;exact RM () rfl (sc rfl (sc rfl (sc rfl (sc rfl (sc rfl (sc rfl (sc rfl sn))))))) (ae.ab [0,1,2,3] rfl rfl)
 clear h6;obtain⟨l3,v2⟩:=r1;rintro⟨⟩;refine R7<|RK<|RH<|RG (aa rfl) rfl<|RG (aa rfl) rfl<|RG (aa rfl) rfl<|RG (bz (k:=0) iw rfl rfl (.inl rfl)) rfl<|RG (aj rfl rfl (aA _ _ _)) rfl<|RG (aa rfl) rfl ?_;obtain⟨h3,hF⟩:=al hF;replace h3:=au h3;refine Sf (k:=1) rfl (aW h3) ?_;rintro b4 t4 rfl h21;refine RL (cF gC rfl rfl h3) gn rfl ?_;obtain⟨x11,h19,hF⟩:=J hF;refine R4 (fL (k:=1) (x1:=x11) (x2:=v2) db rfl rfl rfl h19 rfl)<|RJ<|R3<|RK<|RH<|RG (aj rfl rfl (aA _ _ _)) rfl<|RG (aa rfl) rfl<|RJ ?_;cases hF;exact RM (some ⟨b4,0,none⟩) rfl (sc rfl (sc rfl (sc rfl (sc rfl (sc rfl sn))))) (ae.trans (ae.close (k:=1) rfl) (ae.ab [0,1,3] rfl rfl))
 refine RV rfl h5<|R1<|R6 ?_;cases hF;exact RM a1 rfl (sc rfl sn) (ae.ab [1] rfl rfl)
 clear h4;obtain⟨l2,n2⟩:=r0;rintro a3;refine R7<|RK<|RI<|RH<|RG (aa rfl) rfl<|RG (ai rfl) rfl<|RJ<|RK<|RO ?_;have hr:=Pf hF;subst r;exact RR (.tmp rfl .nil) fun m' hm=>⟨(a3,n2),rfl,(ae.ab [0] rfl rfl) m' hm⟩
def GX(n:Nat)(x1:Bool)(l2:SB (Nat))(x7:Bool)(l8:SB (Nat))(a3:Rv)(c4:Nat)(a9:Rv)(c10:Nat)(r:Bool×SB Nat)(hF:CY n x1 l2 x7 l8=some r)(m:Sr){H:Rw}(hH:∀b,H b->b<m.next)(h5:Rd m a3 c4 1 l2.length (l2.map (eN .u64)))(h6:∀b,eL a3=some b->¬H b)(h11:Rd m a9 c10 1 l8.length (l8.map (eN .u64)))(h12:∀b,eL a9=some b->¬H b) :
  aK aG 110 [.agg #[.bool x1,.slice a3 l2.length c4],.agg #[.bool x7,.slice a9 l8.length c10]] m (fun v m'=>∃x:Rv×Nat×Nat,v=.agg #[.bool r.1,.slice x.1 x.2.2 x.2.1]/\Hp m m' [.rd x.1 x.2.1 1 x.2.2 (r.2.map (eN .u64)),.gen (bu H)]):=by
 unfold CY at hF;refine aC (m0:=m) (ps:=[.rd a9 c10 1 l8.length (l8.map (eN .u64)),.rd a3 c4 1 l2.length (l2.map (eN .u64)),.gen (bu H)]) (N:=16) (rs:=[.cell 4 144]) rfl Tryz.func110 rfl rfl rfl (Hp.D2 (l0:=[.rd a3 c4 1 l2.length (l2.map (eN .u64))]) (Hp.D2 (l0:=[]) (Hp.dR m hH) rfl h5 h6) rfl h11 h12)<|RI<|RH<|RS (bQ rfl) gn rfl fun b13=>?_;refine RS (bQ rfl) gn rfl fun b14=>?_;refine RS (cC uY rfl) gn rfl fun b15=>?_;refine RJ<|RK<|RI<|Sd (prs:=[(1,9),(3,9)]) (by kernel_rfl)<|RX (az (r:=ptr b13 0) rfl (jI _ _)) rfl<|RX (aw (k:=2) rf rfl rfl rfl) rfl<|RX (az (r:=ptr b14 0) rfl (jI _ _)) rfl<|RX (aw (k:=1) rf rfl rfl rfl) rfl<|RX (aj rfl rfl (I8 u4)) rfl<|RX (az (r:=ptr b13 1) rfl (ga _ _)) rfl<|RX (aw (k:=2) ly rfl rfl rfl) rfl<|RX (az (r:=ptr b14 1) rfl (ga _ _)) rfl<|RX (aw (k:=1) ly rfl rfl rfl) rfl ?_
 obtain⟨l17,h16,hF⟩:=J hF;refine Sc (eC rfl rfl (fun m hm=>GO n l2 l8 a3 c4 a9 c10 _ h16 m (hm.rd (k:=4) rfl (.rd _ _ _ _ _)) (hm.rd (k:=3) rfl (.rd _ _ _ _ _))) fun _=>rfl) gn rfl ?_;rintro⟨a18,n19⟩;refine Wn.len (k:=0) (xs:=l17) rfl ?_;rintro rfl;obtain⟨⟨r21,l22⟩,h20,hF⟩:=J hF;refine Wn.eO (ae.freeze (k:=0) rfl)<|Sc (fm (N:=(fun x:Rv×Nat×Nat=>[.rd x.1 x.2.1 1 x.2.2 (l22.map (eN .u64))])) rfl rfl (fun m hm=>pY n (!(x1==x7)) l17 a18 l17.length _ h20 m hm.bt (hm.rd (k:=0) rfl (.rd _ _ _ _ _)) (hm.bZ (k:=0) rfl)) fun _=>rfl) gn rfl ?_;rintro⟨a23,c24,n25⟩;refine Sh (k:=0) (xs:=l22) rfl ?_;rintro rfl;refine Wn.o0 (bJ (k:=2) fJ rfl rfl rfl rfl rfl)<|Sb (fun m hm=>eJ.all rfl)<|RK<|RO ?_;cases hF;exact RR (.cell (k:=2) fJ rfl rfl rfl .nil) fun m' hm=>⟨(a23,c24,l22.length),rfl,(ae.ab [0,7] rfl rfl) m' hm⟩
def Is(n:Nat)(l1:SB (Nat))(l5:SB (Nat))(a4:Rv)(c2:Nat)(a5:Rv)(c3:Nat)(r:SB Nat)(hF:Em n l1 l5=some r)(m:Sr)(h8:Rd m a4 c2 1 l1.length (l1.map (eN .u64)))(h9:Rd m a5 c3 1 l5.length (l5.map (eN .u64))) :
  aK aG 129 [.slice a4 l1.length c2,.slice a5 l5.length c3] m (fun v m'=>∃x:Rv×Nat,v=.slice x.1 x.2 x.2/\Hp m m' [.sl x.1 1 x.2 (r.map (eN .u64))]):=by
 unfold Em at hF;refine aC (m0:=m) (ps:=[.rd a5 c3 1 l5.length (l5.map (eN .u64)),.rd a4 c2 1 l1.length (l1.map (eN .u64))]) (N:=53) (rs:=[.tmp 4]) rfl Tryz.func129 rfl rfl rfl (((RZ m).oj rfl h8).oj rfl h9)<|RI<|RH<|RG (ai rfl) rfl<|RJ<|RK<|RI ?_;obtain⟨r0,h10,hF⟩:=J hF;refine RY (G:=(fun(r:SB (Nat)×SB (Nat)) (g:Rv×Nat×Rv×Nat)=>match r,g with |(l2,l3),(a0,c0,a1,c1)=>⟨.normal,[(0,.slice a0 l2.length c0),(1,.slice a1 l3.length c1)],[.rd a0 c0 1 l2.length (l2.map (eN .u64)),.rd a1 c1 1 l3.length (l3.map (eN .u64))]⟩) r0) ?_ ?_
 clear hF;revert r0;intro r hF;refine RI<|RH<|RG (aa rfl) rfl<|RG (bz (k:=1) iw rfl rfl (.inl rfl)) rfl<|RG (aa rfl) rfl<|RG (bz (k:=0) iw rfl rfl (.inl rfl)) rfl<|RG (aj rfl rfl (aF _ _ _)) rfl<|RJ<|RK ?_;rcases ah hF with⟨h4,hF⟩|⟨h4,hF⟩
 refine RT rfl h4<|RH<|RG (aa rfl) rfl<|RG (aa rfl) rfl<|RG (ai rfl) rfl<|RG (ai rfl) rfl<|RJ ?_;cases hF;exact RM (a5,c3,a4,c2) rfl (sc rfl (sc rfl sn)) (ae.ab [0,1] rfl rfl)
 refine RV rfl h4<|RN ?_;cases hF;exact RM (a4,c2,a5,c3) rfl (sc rfl (sc rfl sn)) (ae.ab [1,0] rfl rfl)
 clear h10;obtain⟨l2,l3⟩:=r0;rintro⟨a0,c0,a1,c1⟩;refine RK<|RI<|RH<|RG (aa rfl) rfl<|RG (bz (k:=0) iw rfl rfl (.inl rfl)) rfl<|RG (aj rfl rfl (aA _ _ _)) rfl ?_;obtain⟨h11,hF⟩:=al hF;obtain⟨h12,hF⟩:=al hF;refine RS (wC (f:=eN .u64) (z0:=(0:Nat)) gC rfl h11 h12 GQ rfl rfl) gn rfl fun b3=>?_;refine RG (ai rfl) rfl<|RJ<|RK<|RI<|RH<|RG (ai rfl) rfl<|RJ<|RK<|RI<|RI<|RH<|RG (aa rfl) rfl<|RG (bz (k:=1) iw rfl rfl (.inl rfl)) rfl<|RG (aa rfl) rfl<|RJ<|RK<|RP ?_;obtain⟨r1,h5,hF⟩:=J hF;refine RY (G:=(fun(r:SB (Nat)×Nat×Nat) (g:Rv)=>match r,g with |(l4,n1,v1),a2=>⟨(.exit 0),[(0,.slice a0 l2.length c0),(5,.slice a2 n1 n1),(6,.int .u64 ((v1:Nat):Int))],[.rd a0 c0 1 l2.length (l2.map (eN .u64)),.sl a2 1 n1 (l4.map (eN .u64))]⟩) r1) ?_ ?_
 refine R8 (fs':=[(0,.slice a0 l2.length c0),(1,.slice a1 l3.length c1),(5,.slice (some ⟨b3,0,none⟩) ((RC ((l2.length:Int)+1)).toNat) ((RC ((l2.length:Int)+1)).toNat)),(6,.int .u64 ((0:Nat):Int)),(21,.slice a0 l2.length c0),(22,.int .i64 (l2.length:Int)),(23,.int .i64 0)]) (ps':=[.rd a0 c0 1 l2.length (l2.map (eN .u64)),.rd a1 c1 1 l3.length (l3.map (eN .u64)),.sl (some ⟨b3,0,none⟩) 1 ((RC ((l2.length:Int)+1)).toNat) ((List.replicate (RC ((l2.length:Int)+1)).toNat (0:Nat)).map (eN .u64))]) (sc rfl (sc rfl (sc rfl (sc rfl (sc rfl (sc rfl (sc rfl sn))))))) (ae.trans (ae.close (k:=0) rfl) (ae.ab [1,2,0] rfl rfl)) ?_;refine R2 (σ:=SB (Nat)×Nat×Nat×Int) (ρ:=SB (Nat)×Nat×Nat) (γ:=Rv) (δ:=fun _=>Rv) _ (fun(s:SB (Nat)×Nat×Nat×Int) (g:Rv)=>match s,g with |(l7,n2,v3,v4),a3=>⟨.normal,[(0,.slice a0 l2.length c0),(1,.slice a1 l3.length c1),(5,.slice a3 n2 n2),(6,.int .u64 ((v3:Nat):Int)),(21,.slice a0 l2.length c0),(22,.int .i64 (l2.length:Int)),(23,.int .i64 v4)],[.rd a0 c0 1 l2.length (l2.map (eN .u64)),.rd a1 c1 1 l3.length (l3.map (eN .u64)),.sl a3 1 n2 (l7.map (eN .u64))]⟩) (fun(r:SB (Nat)×Nat×Nat) (g:Rv)=>match r,g with |(l4,n1,v1),a2=>⟨(.exit 0),[(0,.slice a0 l2.length c0),(5,.slice a2 n1 n1),(6,.int .u64 ((v1:Nat):Int))],[.rd a0 c0 1 l2.length (l2.map (eN .u64)),.sl a2 1 n1 (l4.map (eN .u64))]⟩) ?_ (fun _ _=>rfl) (fun r d=>by intro e; cases e) _ _ _ h5 (some ⟨b3,0,none⟩)
 clear hF h5;rintro⟨l7,n2,v3,v4⟩ a3 r hF;unfold mn at hF;refine RI<|RH<|RG (aj rfl rfl (aF _ _ _)) rfl<|RJ<|RK<|RI ?_;rcases ah hF with⟨h6,hF⟩|⟨h6,hF⟩
 refine RT rfl h6<|RN<|RK<|RI<|RP<|RI<|RH<|RG (aa rfl) rfl ?_;obtain⟨h0,hF⟩:=al hF;replace h0:=au h0;refine Sa (k:=0) rfl (aW h0) ?_;rintro b0 o1 rfl;refine RL (bp gC rfl rfl h0) gn rfl ?_;obtain⟨x3,h13,hF⟩:=J hF;refine RG (bC (k:=0) db rfl rfl (aL h13) rfl rfl) rfl<|RG (ai rfl) rfl<|RG (ai rfl) rfl<|RJ<|RK<|RI<|RH<|RG (ai rfl) rfl<|RJ<|RK<|RI ?_;obtain⟨v2,h14,hF⟩:=J hF;refine RY (G:=(fun(r:Nat) (g:SC)=>match r,g with|v2,_=>⟨.normal,[(0,.slice (some ⟨b0,o1,none⟩) l2.length c0),(1,.slice a1 l3.length c1),(5,.slice a3 n2 n2),(6,.int .u64 ((v3:Nat):Int)),(7,.int .i64 v4),(8,.int .u64 ((x3:Nat):Int)),(9,.int .u64 ((v2:Nat):Int)),(21,.slice (some ⟨b0,o1,none⟩) l2.length c0),(22,.int .i64 (l2.length:Int)),(23,.int .i64 v4)],[.ro b0 o1 1 l2.length (l2.map (eN .u64)),.rd (some ⟨b0,o1,none⟩) c0 1 l2.length (l2.map (eN .u64)),.rd a1 c1 1 l3.length (l3.map (eN .u64)),.sl a3 1 n2 (l7.map (eN .u64))]⟩) v2) ?_ ?_
 clear hF;revert v2;intro r hF;refine RI<|RH<|RG (aa rfl) rfl<|RG (aa rfl) rfl<|RG (bz (k:=2) iw rfl rfl (.inl rfl)) rfl<|RG (aj rfl rfl (aF _ _ _)) rfl<|RJ<|RK ?_;rcases ah hF with⟨h7,hF⟩|⟨h7,hF⟩
 refine RT rfl h7<|RH<|RG (aa rfl) rfl<|RG (aa rfl) rfl ?_;obtain⟨h1,hF⟩:=al hF;replace h1:=au h1;refine Sa (k:=2) rfl (aW h1) ?_;rintro b6 o2 rfl;refine RL (bp gC rfl rfl h1) gn rfl ?_;obtain⟨x11,h15,hF⟩:=J hF;refine RG (bC (k:=0) db rfl rfl (aL h15) rfl rfl) rfl<|RG (ai rfl) rfl<|RJ ?_;have hr:=Pf hF;subst r;exact RM () rfl (sc rfl (sc rfl (sc rfl (sc rfl (sc rfl (sc rfl (sc rfl (sc rfl (sc rfl (sc rfl sn)))))))))) (ae.ab [1,2,3,4] rfl rfl)
 refine RV rfl h7<|RN ?_;cases hF;exact RM () rfl (sc rfl (sc rfl (sc rfl (sc rfl (sc rfl (sc rfl (sc rfl (sc rfl (sc rfl (sc rfl sn)))))))))) (ae.ab [0,1,2,3] rfl rfl)
 rintro⟨⟩;refine RK<|RH<|RG (aa rfl) rfl<|RG (aa rfl) rfl<|RG (aa rfl) rfl<|RG (aa rfl) rfl<|RG (aa rfl) rfl ?_;obtain⟨⟨r3,r4⟩,h16,hF⟩:=J hF;refine RS (bM rfl rfl (fun m hm=>vC n x3 v2 v3  _ h16 m) fun _=>rfl) gn rfl ?_;rintro⟨⟩;refine RG (aa rfl) rfl<|RG (cr rfl rfl) rfl<|RG (cr rfl rfl) rfl ?_;obtain⟨h2,hF⟩:=al hF;replace h2:=au h2;refine Sf (k:=3) rfl (aW h2) ?_;rintro b4 t3 rfl h19;refine RL (cF gC rfl rfl h2) gn rfl ?_;obtain⟨x4,h17,hF⟩:=J hF;refine R4 (fL (k:=3) (x1:=x4) (x2:=r3) db rfl rfl rfl h17 rfl)<|RG (ai rfl) rfl<|RJ<|R3<|RK<|RH<|RG (aj rfl rfl (aA _ _ _)) rfl<|RG (aa rfl) rfl<|RJ ?_;cases hF;exact RM (some ⟨b4,0,none⟩) rfl (sc rfl (sc rfl (sc rfl (sc rfl (sc rfl (sc rfl (sc rfl sn))))))) (ae.trans (ae.close (k:=3) rfl) (ae.ab [1,2,3] rfl rfl))
 refine RV rfl h6<|R1<|R6 ?_;cases hF;exact RM a3 rfl (sc rfl (sc rfl (sc rfl sn))) (ae.ab [0,2] rfl rfl)
 clear h5;obtain⟨l4,n1,v1⟩:=r1;rintro a2;refine R7<|RK<|RI<|RH<|RG (aa rfl) rfl<|RG (aa rfl) rfl<|RG (bz (k:=0) iw rfl rfl (.inl rfl)) rfl<|RG (aa rfl) rfl ?_;obtain⟨h3,hF⟩:=al hF;replace h3:=au h3;refine Sf (k:=1) rfl (aW h3) ?_;rintro b5 t4 rfl h20;refine RL (cF gC rfl rfl h3) gn rfl ?_;obtain⟨x10,h18,hF⟩:=J hF;refine R4 (fL (k:=1) (x1:=x10) (x2:=v1) db rfl rfl rfl h18 rfl)<|RJ<|RK<|RI<|RH<|RG (aa rfl) rfl<|RG (ai rfl) rfl<|RJ<|RK<|RO ?_;cases hF;exact RR (.tmp rfl .nil) fun m' hm=>⟨((some ⟨b5,0,none⟩),n1),rfl,(ae.trans (ae.close (k:=1) rfl) (ae.ab [1] rfl rfl)) m' hm⟩
def Ij(n:Nat)(l1:SB (Nat))(l5:SB (Nat))(a2:Rv)(c3:Nat)(a6:Rv)(c7:Nat)(r:Int)(hF:Dm n l1 l5=some r)(m:Sr)(h4:Rd m a2 c3 1 l1.length (l1.map (eN .u64)))(h8:Rd m a6 c7 1 l5.length (l5.map (eN .u64))) :
  aK aG 130 [.slice a2 l1.length c3,.slice a6 l5.length c7] m (Sq m (.int .i64 r)):=by
 unfold Dm at hF;refine aC (m0:=m) (ps:=[.rd a6 c7 1 l5.length (l5.map (eN .u64)),.rd a2 c3 1 l1.length (l1.map (eN .u64))]) (N:=43) (rs:=[.tmp 4]) rfl Tryz.func130 rfl rfl rfl (((RZ m).oj rfl h4).oj rfl h8)<|RI<|RH<|RG (ai rfl) rfl<|RJ<|RK<|RI<|RI<|RH<|RG (aa rfl) rfl<|RG (bz (k:=1) iw rfl rfl (.inl rfl)) rfl<|RG (aa rfl) rfl<|RG (bz (k:=0) iw rfl rfl (.inl rfl)) rfl<|RG (aj rfl rfl (cB _ _)) rfl<|RJ<|RK ?_;rcases ah hF with⟨h9,hF⟩|⟨h9,hF⟩
 refine RT rfl h9<|RI<|RH<|RG (aa rfl) rfl<|RG (bz (k:=1) iw rfl rfl (.inl rfl)) rfl<|RG (aa rfl) rfl<|RG (bz (k:=0) iw rfl rfl (.inl rfl)) rfl<|RG (aj rfl rfl (aP _ _ _)) rfl<|RG (ai rfl) rfl<|RJ<|RK<|RO<|R0 ?_;cases hF;exact RR (.tmp rfl .nil) fun m' hm=>⟨(),rfl,(ae.ab [] rfl rfl) m' hm⟩
 refine RV rfl h9<|RN<|RK<|RI<|RI<|RH<|RG (aa rfl) rfl<|RG (bz (k:=1) iw rfl rfl (.inl rfl)) rfl<|RG (aj rfl rfl (aP _ _ _)) rfl<|RG (ai rfl) rfl<|RJ<|RK<|RP ?_;obtain⟨r45,h44,hF⟩:=J hF;refine RY (G:=(fun(r:Int⊕SC) (g:SC)=>match r,g with|.inl v28,_=>⟨.ret,[(4,.int .i64 v28)],[]⟩|.inr _,_=>⟨(.exit 0),[],[]⟩) r45) ?_ ?_
 refine R8 (fs':=[(0,.slice a2 l1.length c3),(1,.slice a6 l5.length c7),(5,.int .i64 (RC ((l1.length:Int)-1)))]) (ps':=[.rd a2 c3 1 l1.length (l1.map (eN .u64)),.rd a6 c7 1 l5.length (l5.map (eN .u64))]) (sc rfl (sc rfl (sc rfl sn))) (ae.ab [1,0] rfl rfl) ?_;refine R2 (σ:=Int) (ρ:=(Int)⊕SC) (γ:=SC) (δ:=fun _=>SC) _ (fun(s:Int) (g:SC)=>match s,g with|v11,_=>⟨.normal,[(0,.slice a2 l1.length c3),(1,.slice a6 l5.length c7),(5,.int .i64 v11)],[.rd a2 c3 1 l1.length (l1.map (eN .u64)),.rd a6 c7 1 l5.length (l5.map (eN .u64))]⟩) (fun(r:Int⊕SC) (g:SC)=>match r,g with|.inl v28,_=>⟨.ret,[(4,.int .i64 v28)],[]⟩|.inr _,_=>⟨(.exit 0),[],[]⟩) ?_ (fun _ _=>rfl) (fun r d=>by rcases r with _|_<;>(intro e; cases e)) _ _ _ h44 ()
 clear hF h44;rintro v11 ⟨⟩ r hF;unfold ki at hF;refine RI<|RI<|RH<|RG (aa rfl) rfl<|RG (aj rfl rfl (dD _ _ _)) rfl<|RJ<|RK ?_;rcases ah hF with⟨h29,hF⟩|⟨h29,hF⟩
 refine RT rfl h29<|RN<|RK<|RI<|RP<|RP<|RI<|R9 (by kernel_rfl)<|RG (aa rfl) rfl<|RG (aa rfl) rfl ?_
 obtain⟨h30,hF⟩:=al hF;replace h30:=au h30;refine Sa (k:=0) rfl (aW h30) ?_;rintro b31 o32 rfl;refine RL (bp gC rfl rfl h30) gn rfl ?_;obtain⟨x33,h34,hF⟩:=J hF;refine RG (bC (k:=0) db rfl rfl (aL h34) rfl rfl) rfl<|RG (aa rfl) rfl<|RG (aa rfl) rfl ?_;obtain⟨h35,hF⟩:=al hF;replace h35:=au h35;refine Sa (k:=2) rfl (aW h35) ?_;rintro b36 o37 rfl;refine RL (bp gC rfl rfl h35) gn rfl ?_;obtain⟨x38,h39,hF⟩:=J hF;refine RG (bC (k:=0) db rfl rfl (aL h39) rfl rfl) rfl<|RG (aj rfl rfl (Ew _ _)) rfl<|RG (ai rfl) rfl<|RJ<|RK ?_;rcases ah hF with⟨h40,hF⟩|⟨h40,hF⟩
 refine RT rfl h40<|RI<|RH<|RG (ai rfl) rfl<|RJ<|RK<|RO<|R5<|R5<|R0 ?_;cases hF;exact RM () rfl (sc rfl sn) (ae.ab [] rfl rfl)
 refine RV rfl h40<|RI<|R9 (by kernel_rfl)<|RG (aa rfl) rfl<|RG (aa rfl) rfl ?_
 obtain⟨h41,hF⟩:=al hF;replace h41:=au h41;refine RL (bp gC rfl rfl h41) gn rfl<|RG (bC (k:=1) db rfl rfl (aL h34) rfl rfl) rfl<|RG (aa rfl) rfl<|RG (aa rfl) rfl ?_;obtain⟨h42,hF⟩:=al hF;replace h42:=au h42;refine RL (bp gC rfl rfl h42) gn rfl<|RG (bC (k:=0) db rfl rfl (aL h39) rfl rfl) rfl<|RG (aj rfl rfl (J2 _ _)) rfl<|RG (ai rfl) rfl<|RJ<|RK ?_;rcases ah hF with⟨h43,hF⟩|⟨h43,hF⟩
 refine RT rfl h43<|RI<|RH<|RG (ai rfl) rfl<|RJ<|RK<|RO<|R5<|R5<|R0 ?_;cases hF;exact RM () rfl (sc rfl sn) (ae.ab [] rfl rfl)
 refine RV rfl h43<|RN<|R3<|R3<|RK<|RH<|RG (aa rfl) rfl<|RG (aj rfl rfl (aP _ _ _)) rfl<|RG (ai rfl) rfl<|RJ ?_;cases hF;exact RM () rfl (sc rfl (sc rfl (sc rfl sn))) (ae.ab [2,3] rfl rfl)
 refine RV rfl h29<|R1<|R6 ?_;cases hF;exact RM () rfl sn (ae.ab [] rfl rfl)
 rcases r45 with v28|_
 rintro⟨⟩;refine R5<|R0 ?_;have hr:=Pf hF;subst r;exact RR (.tmp rfl .nil) fun m' hm=>⟨(),rfl,(ae.ab [] rfl rfl) m' hm⟩
 rintro⟨⟩;refine R7<|RK<|RI<|RH<|RG (ai rfl) rfl<|RJ<|RK<|RO ?_;cases hF;exact RR (.tmp rfl .nil) fun m' hm=>⟨(),rfl,(ae.ab [] rfl rfl) m' hm⟩
def HL(n:Nat)(l1:SB (Nat))(l5:SB (Nat))(a1:Rv)(c0:Nat)(a0:Rv)(c1:Nat)(r:SB Nat)(hF:ED n l1 l5=some r)(m:Sr)(h6:Rd m a1 c0 1 l1.length (l1.map (eN .u64)))(h7:Rd m a0 c1 1 l5.length (l5.map (eN .u64))) :
  aK aG 131 [.slice a1 l1.length c0,.slice a0 l5.length c1] m (fun v m'=>∃x:Rv×Nat,v=.slice x.1 x.2 x.2/\Hp m m' [.sl x.1 1 x.2 (r.map (eN .u64))]):=by
 unfold ED at hF;refine aC (m0:=m) (ps:=[.rd a0 c1 1 l5.length (l5.map (eN .u64)),.rd a1 c0 1 l1.length (l1.map (eN .u64))]) (N:=40) (rs:=[.tmp 4]) rfl Tryz.func131 rfl rfl rfl (((RZ m).oj rfl h6).oj rfl h7)<|RI<|RH<|RG (ai rfl) rfl<|RJ<|RK<|RI<|RH<|RG (aa rfl) rfl<|RG (bz (k:=1) iw rfl rfl (.inl rfl)) rfl ?_;obtain⟨h8,hF⟩:=al hF;obtain⟨h9,hF⟩:=al hF;refine RS (wC (f:=eN .u64) (z0:=(0:Nat)) gC rfl h8 h9 GQ rfl rfl) gn rfl fun b0=>?_;refine RG (ai rfl) rfl<|RJ<|RK<|RI<|RH<|RG (ai rfl) rfl<|RJ<|RK<|RI<|RI<|RH<|RG (aa rfl) rfl<|RG (bz (k:=2) iw rfl rfl (.inl rfl)) rfl<|RG (aa rfl) rfl<|RJ<|RK<|RP ?_;obtain⟨l2,h2,hF⟩:=J hF;refine RY (G:=(fun(r:SB (Nat)) (g:SC)=>match r,g with|l2,_=>⟨(.exit 0),[(5,.slice (some ⟨b0,0,none⟩) ((l1.length:Int).toNat) ((l1.length:Int).toNat))],[.arr b0 1 ((l1.length:Int).toNat) (l2.map (eN .u64)) .own]⟩) l2) ?_ ?_
 refine R8 (fs':=[(1,.slice a0 l5.length c1),(5,.slice (some ⟨b0,0,none⟩) ((l1.length:Int).toNat) ((l1.length:Int).toNat)),(6,.int .u64 ((0:Nat):Int)),(13,.slice a1 l1.length c0),(14,.int .i64 (l1.length:Int)),(15,.int .i64 0)]) (ps':=[.rd a0 c1 1 l5.length (l5.map (eN .u64)),.arr b0 1 ((l1.length:Int).toNat) ((List.replicate (l1.length:Int).toNat (0:Nat)).map (eN .u64)) .own,.rd a1 c0 1 l1.length (l1.map (eN .u64))]) (sc rfl (sc rfl (sc rfl (sc rfl (sc rfl (sc rfl sn)))))) (ae.ab [1,0,2] rfl rfl) ?_;refine R2 (σ:=SB (Nat)×Nat×Int) (ρ:=SB (Nat)) (γ:=SC) (δ:=fun _=>SC) _ (fun(s:SB (Nat)×Nat×Int) (g:SC)=>match s,g with |(l3,v2,v3),_=>⟨.normal,[(1,.slice a0 l5.length c1),(5,.slice (some ⟨b0,0,none⟩) ((l1.length:Int).toNat) ((l1.length:Int).toNat)),(6,.int .u64 ((v2:Nat):Int)),(13,.slice a1 l1.length c0),(14,.int .i64 (l1.length:Int)),(15,.int .i64 v3)],[.rd a0 c1 1 l5.length (l5.map (eN .u64)),.arr b0 1 ((l1.length:Int).toNat) (l3.map (eN .u64)) .own,.rd a1 c0 1 l1.length (l1.map (eN .u64))]⟩) (fun(r:SB (Nat)) (g:SC)=>match r,g with|l2,_=>⟨(.exit 0),[(5,.slice (some ⟨b0,0,none⟩) ((l1.length:Int).toNat) ((l1.length:Int).toNat))],[.arr b0 1 ((l1.length:Int).toNat) (l2.map (eN .u64)) .own]⟩) ?_ (fun _ _=>rfl) (fun r d=>by intro e; cases e) _ _ _ h2 ()
 clear hF h2;rintro⟨l3,v2,v3⟩ ⟨⟩ r hF;unfold nZ at hF;refine RI<|RH<|RG (aj rfl rfl (aF _ _ _)) rfl<|RJ<|RK<|RI ?_;rcases ah hF with⟨h3,hF⟩|⟨h3,hF⟩
 refine RT rfl h3<|RN<|RK<|RI<|RP<|RI<|RH<|RG (aa rfl) rfl ?_;obtain⟨h0,hF⟩:=al hF;replace h0:=au h0;refine Sa (k:=2) rfl (aW h0) ?_;rintro b3 o1 rfl;refine RL (bp gC rfl rfl h0) gn rfl ?_;obtain⟨x3,h10,hF⟩:=J hF;refine RG (bC (k:=0) db rfl rfl (aL h10) rfl rfl) rfl<|RG (ai rfl) rfl<|RG (ai rfl) rfl<|RJ<|RK<|RI<|RH<|RG (ai rfl) rfl<|RJ<|RK<|RI ?_;obtain⟨v1,h11,hF⟩:=J hF;refine RY (G:=(fun(r:Nat) (g:SC)=>match r,g with|v1,_=>⟨.normal,[(1,.slice a0 l5.length c1),(5,.slice (some ⟨b0,0,none⟩) ((l1.length:Int).toNat) ((l1.length:Int).toNat)),(6,.int .u64 ((v2:Nat):Int)),(7,.int .i64 v3),(8,.int .u64 ((x3:Nat):Int)),(9,.int .u64 ((v1:Nat):Int)),(13,.slice (some ⟨b3,o1,none⟩) l1.length c0),(14,.int .i64 (l1.length:Int)),(15,.int .i64 v3)],[.rd a0 c1 1 l5.length (l5.map (eN .u64)),.arr b0 1 ((l1.length:Int).toNat) (l3.map (eN .u64)) .own,.ro b3 o1 1 l1.length (l1.map (eN .u64)),.rd (some ⟨b3,o1,none⟩) c0 1 l1.length (l1.map (eN .u64))]⟩) v1) ?_ ?_
 clear hF;revert v1;intro r hF;refine RI<|RH<|RG (aa rfl) rfl<|RG (aa rfl) rfl<|RG (bz (k:=1) iw rfl rfl (.inl rfl)) rfl<|RG (aj rfl rfl (aF _ _ _)) rfl<|RJ<|RK ?_;rcases ah hF with⟨h4,hF⟩|⟨h4,hF⟩
 refine RT rfl h4<|RH<|RG (aa rfl) rfl<|RG (aa rfl) rfl ?_;obtain⟨h1,hF⟩:=al hF;replace h1:=au h1;refine Sa (k:=1) rfl (aW h1) ?_;rintro b4 o2 rfl;refine RL (bp gC rfl rfl h1) gn rfl ?_;obtain⟨x10,h12,hF⟩:=J hF;refine RG (bC (k:=0) db rfl rfl (aL h12) rfl rfl) rfl<|RG (ai rfl) rfl<|RJ ?_;have hr:=Pf hF;subst r;exact RM () rfl (sc rfl (sc rfl (sc rfl (sc rfl (sc rfl (sc rfl (sc rfl (sc rfl (sc rfl sn))))))))) (ae.ab [2,3,1,4] rfl rfl)
 refine RV rfl h4<|RN ?_;cases hF;exact RM () rfl (sc rfl (sc rfl (sc rfl (sc rfl (sc rfl (sc rfl (sc rfl (sc rfl (sc rfl sn))))))))) (ae.ab [1,2,0,3] rfl rfl)
 rintro⟨⟩;refine RK<|RH<|RG (aa rfl) rfl<|RG (aa rfl) rfl<|RG (aa rfl) rfl<|RG (aa rfl) rfl<|RG (aa rfl) rfl ?_;obtain⟨⟨r0,r1⟩,h13,hF⟩:=J hF;refine RS (bM rfl rfl (fun m hm=>Be n x3 v1 v2  _ h13 m) fun _=>rfl) gn rfl ?_;rintro⟨⟩;refine RG (aa rfl) rfl<|RG (cr rfl rfl) rfl<|RG (cr rfl rfl) rfl ?_;obtain⟨h5,hF⟩:=al hF;replace h5:=au h5;refine RL (cF gC rfl rfl h5) gn rfl ?_;obtain⟨x4,h14,hF⟩:=J hF;refine R4 (fL (k:=1) (x1:=x4) (x2:=r0) db rfl rfl rfl h14 rfl)<|RG (ai rfl) rfl<|RJ<|R3<|RK<|RH<|RG (aj rfl rfl (aA _ _ _)) rfl<|RG (aa rfl) rfl<|RJ ?_;cases hF;exact RM () rfl (sc rfl (sc rfl (sc rfl (sc rfl (sc rfl (sc rfl sn)))))) (ae.ab [0,1,3] rfl rfl)
 refine RV rfl h3<|R1<|R6 ?_;cases hF;exact RM () rfl (sc rfl sn) (ae.ab [1] rfl rfl)
 rintro⟨⟩;refine R7<|RK<|RI<|RH<|RG (aa rfl) rfl<|RG (ai rfl) rfl<|RJ<|RK<|RO ?_;have hr:=Pf hF;subst r;exact RR (.tmp rfl .nil) fun m' hm=>⟨((some ⟨b0,0,none⟩),((l1.length:Int).toNat)),rfl,(ae.trans (ae.close (k:=0) rfl) (ae.ab [0] rfl rfl)) m' hm⟩
def Iz(n:Nat)(x1:Bool)(l2:SB (Nat))(x7:Bool)(l8:SB (Nat))(a3:Rv)(c4:Nat)(a9:Rv)(c10:Nat)(r:Bool×SB Nat)(hF:Cm n x1 l2 x7 l8=some r)(m:Sr){H:Rw}(hH:∀b,H b->b<m.next)(h5:Rd m a3 c4 1 l2.length (l2.map (eN .u64)))(h6:∀b,eL a3=some b->¬H b)(h11:Rd m a9 c10 1 l8.length (l8.map (eN .u64)))(h12:∀b,eL a9=some b->¬H b) :
  aK aG 108 [.agg #[.bool x1,.slice a3 l2.length c4],.agg #[.bool x7,.slice a9 l8.length c10]] m (fun v m'=>∃x:Rv×Nat×Nat,v=.agg #[.bool r.1,.slice x.1 x.2.2 x.2.1]/\Hp m m' [.rd x.1 x.2.1 1 x.2.2 (r.2.map (eN .u64)),.gen (bu H)]):=by
 unfold Cm at hF;refine aC (m0:=m) (ps:=[.rd a9 c10 1 l8.length (l8.map (eN .u64)),.rd a3 c4 1 l2.length (l2.map (eN .u64)),.gen (bu H)]) (N:=34) (rs:=[.cell 4 144]) rfl Tryz.func108 rfl rfl rfl (Hp.D2 (l0:=[.rd a3 c4 1 l2.length (l2.map (eN .u64))]) (Hp.D2 (l0:=[]) (Hp.dR m hH) rfl h5 h6) rfl h11 h12)<|RI<|RH<|RS (bQ rfl) gn rfl fun b13=>?_;refine RS (bQ rfl) gn rfl fun b14=>?_;refine RS (cC uY rfl) gn rfl fun b15=>?_;refine RJ<|RK<|RI<|RI<|RH<|RG (az (r:=ptr b13 0) rfl (jI _ _)) rfl<|RG (aw (k:=2) rf rfl rfl rfl) rfl<|RG (az (r:=ptr b14 0) rfl (jI _ _)) rfl<|RG (aw (k:=1) rf rfl rfl rfl) rfl<|RG (aj rfl rfl (Je u4)) rfl<|RJ<|RK ?_;rcases ah hF with⟨h16,hF⟩|⟨h16,hF⟩
 refine RT rfl h16<|RI<|Sd (prs:=[(1,6)]) (by kernel_rfl)<|RX (az (r:=ptr b13 0) rfl (jI _ _)) rfl<|RX (aw (k:=2) rf rfl rfl rfl) rfl<|RX (az (r:=ptr b13 1) rfl (ga _ _)) rfl<|RX (aw (k:=2) ly rfl rfl rfl) rfl<|RX (az (r:=ptr b14 1) rfl (ga _ _)) rfl<|RX (aw (k:=1) ly rfl rfl rfl) rfl ?_
 obtain⟨l18,h17,hF⟩:=J hF;refine Sc (eC rfl rfl (fun m hm=>Is n l2 l8 a3 c4 a9 c10 _ h17 m (hm.rd (k:=4) rfl (.rd _ _ _ _ _)) (hm.rd (k:=3) rfl (.rd _ _ _ _ _))) fun _=>rfl) gn rfl ?_;rintro⟨a19,n20⟩;refine Wn.len (k:=0) (xs:=l18) rfl ?_;rintro rfl;obtain⟨⟨r22,l23⟩,h21,hF⟩:=J hF;refine Wn.eO (ae.freeze (k:=0) rfl)<|Sc (fm (N:=(fun x:Rv×Nat×Nat=>[.rd x.1 x.2.1 1 x.2.2 (l23.map (eN .u64))])) rfl rfl (fun m hm=>pY n x1 l18 a19 l18.length _ h21 m hm.bt (hm.rd (k:=0) rfl (.rd _ _ _ _ _)) (hm.bZ (k:=0) rfl)) fun _=>rfl) gn rfl ?_;rintro⟨a24,c25,n26⟩;refine Sh (k:=0) (xs:=l23) rfl ?_;rintro rfl;refine Wn.o0 (bJ (k:=2) fJ rfl rfl rfl rfl rfl)<|Sb (fun m hm=>eJ.all rfl)<|RK<|RO<|R0 ?_;cases hF;exact RR (.cell (k:=2) fJ rfl rfl rfl .nil) fun m' hm=>⟨(a24,c25,l23.length),rfl,(ae.ab [0,7] rfl rfl) m' hm⟩
 refine RV rfl h16<|RN<|RK<|RI ?_;obtain⟨r42,h41,hF⟩:=J hF;refine RY (G:=(fun(r:Bool×SB (Nat)×Bool×SB (Nat)) (g:Rv×Nat×Rv×Nat)=>match r,g with |(v30,l31,v34,l35),(a32,c33,a36,c37)=>⟨.normal,[(2,ptr b13 0),(3,ptr b14 0),(4,ptr b15 0)],[.obj b13 (.cells [.bool v30,.slice a32 l31.length c33] .own),.rd a32 c33 1 l31.length (l31.map (eN .u64)),.obj b14 (.cells [.bool v34,.slice a36 l35.length c37] .own),.rd a36 c37 1 l35.length (l35.map (eN .u64)),.obj b15 (.cells [.bool false,.slice none 0 0] .own),.gen (bu H)]⟩) r42) ?_ ?_
 clear hF;revert r42;intro r hF;refine RI<|RH<|RG (az (r:=ptr b13 1) rfl (ga _ _)) rfl<|RG (aw (k:=2) ly rfl rfl rfl) rfl<|RG (az (r:=ptr b14 1) rfl (ga _ _)) rfl<|RG (aw (k:=1) ly rfl rfl rfl) rfl ?_;obtain⟨r39,h38,hF⟩:=J hF;refine RS (bM rfl rfl (fun m hm=>Ij n l2 l8 a3 c4 a9 c10 _ h38 m (hm.rd (k:=4) rfl (.rd _ _ _ _ _)) (hm.rd (k:=3) rfl (.rd _ _ _ _ _))) fun _=>rfl) gn rfl ?_;rintro⟨⟩;refine RG (aj rfl rfl (aF _ _ _)) rfl<|RJ<|RK ?_;rcases ah hF with⟨h40,hF⟩|⟨h40,hF⟩
 refine RT rfl h40<|RH<|RG (aw (k:=1) fJ rfl rfl rfl) rfl<|RG (aw (k:=2) fJ rfl rfl rfl) rfl<|R4 (bJ (k:=2) fJ rfl rfl rfl rfl rfl)<|R4 (bJ (k:=1) fJ rfl rfl rfl rfl rfl)<|RJ ?_;cases hF;exact RM (a9,c10,a3,c4) rfl (sc rfl (sc rfl (sc rfl sn))) (ae.ab [2,3,1,4,0,5] rfl rfl)
 refine RV rfl h40<|RN ?_;cases hF;exact RM (a3,c4,a9,c10) rfl (sc rfl (sc rfl (sc rfl sn))) (ae.ab [2,4,1,3,0,5] rfl rfl)
 clear h41;obtain⟨v30,l31,v34,l35⟩:=r42;rintro⟨a32,c33,a36,c37⟩;refine RK<|RI<|Sd (prs:=[(1,6)]) (by kernel_rfl)<|RX (az (r:=ptr b13 0) rfl (jI _ _)) rfl<|RX (aw (k:=0) rf rfl rfl rfl) rfl<|RX (az (r:=ptr b13 1) rfl (ga _ _)) rfl<|RX (aw (k:=0) ly rfl rfl rfl) rfl<|RX (az (r:=ptr b14 1) rfl (ga _ _)) rfl<|RX (aw (k:=2) ly rfl rfl rfl) rfl ?_
 obtain⟨l44,h43,hF⟩:=J hF;refine Sc (eC rfl rfl (fun m hm=>HL n l31 l35 a32 c33 a36 c37 _ h43 m (hm.rd (k:=1) rfl (.rd _ _ _ _ _)) (hm.rd (k:=3) rfl (.rd _ _ _ _ _))) fun _=>rfl) gn rfl ?_;rintro⟨a45,n46⟩;refine Wn.len (k:=0) (xs:=l44) rfl ?_;rintro rfl;obtain⟨⟨r48,l49⟩,h47,hF⟩:=J hF;refine Wn.eO (ae.freeze (k:=0) rfl)<|Sc (fm (N:=(fun x:Rv×Nat×Nat=>[.rd x.1 x.2.1 1 x.2.2 (l49.map (eN .u64))])) rfl rfl (fun m hm=>pY n v30 l44 a45 l44.length _ h47 m hm.bt (hm.rd (k:=0) rfl (.rd _ _ _ _ _)) (hm.bZ (k:=0) rfl)) fun _=>rfl) gn rfl ?_;rintro⟨a50,c51,n52⟩;refine Sh (k:=0) (xs:=l49) rfl ?_;rintro rfl;refine Wn.o0 (bJ (k:=6) fJ rfl rfl rfl rfl rfl)<|Sb (fun m hm=>eJ.all rfl)<|RK<|RO ?_;cases hF;exact RR (.cell (k:=6) fJ rfl rfl rfl .nil) fun m' hm=>⟨(a50,c51,l49.length),rfl,(ae.ab [0,7] rfl rfl) m' hm⟩
def IC(n:Nat)(x1:Nat)(x2:Nat)(x3:Nat)(x4:Nat)(x5:Nat)(x6:Nat)(x7:Nat)(x8:Nat)(x9:Nat)(x10:Nat)(x11:Nat)(x12:Nat)(x13:Nat)(x14:Nat)(x15:Nat)(x16:Nat)  (r:Int)(hF:E8 n x1 x2 x3 x4 x5 x6 x7 x8 x9 x10 x11 x12 x13 x14 x15 x16=some r)(m:Sr)  :
  aK aG 151 [.agg #[.int .u64 ((x1:Nat):Int),.int .u64 ((x2:Nat):Int),.int .u64 ((x3:Nat):Int),.int .u64 ((x4:Nat):Int),.int .u64 ((x5:Nat):Int),.int .u64 ((x6:Nat):Int),.int .u64 ((x7:Nat):Int),.int .u64 ((x8:Nat):Int)],.agg #[.int .u64 ((x9:Nat):Int),.int .u64 ((x10:Nat):Int),.int .u64 ((x11:Nat):Int),.int .u64 ((x12:Nat):Int),.int .u64 ((x13:Nat):Int),.int .u64 ((x14:Nat):Int),.int .u64 ((x15:Nat):Int),.int .u64 ((x16:Nat):Int)]] m (Sq m (.int .i64 r)):=by
 unfold E8 at hF;refine aC (m0:=m) (ps:=[]) (N:=24) (rs:=[.tmp 4]) rfl Tryz.func151 rfl rfl rfl (RZ m)<|RI<|RH<|RS (bQ rfl) gn rfl fun b17=>?_;refine RS (bQ rfl) gn rfl fun b18=>?_;refine RG (ai rfl) rfl<|RJ<|RK<|RI<|RI<|RH<|RG (ai rfl) rfl<|RJ<|RK<|RP ?_;obtain⟨r62,h61,hF⟩:=J hF;refine RY (G:=(fun(r:Int⊕SC) (g:SC)=>match r,g with|.inl v49,_=>⟨.ret,[(4,.int .i64 v49)],[]⟩|.inr _,_=>⟨(.exit 0),[],[]⟩) r62) ?_ ?_
 refine R8 (fs':=[(2,ptr b17 0),(3,ptr b18 0),(5,.int .i64 7)]) (ps':=[.arr b17 1 8 (([x1,x2,x3,x4,x5,x6,x7,x8]:SB (Nat)).map (eN .u64)) .own,.arr b18 1 8 (([x9,x10,x11,x12,x13,x14,x15,x16]:SB (Nat)).map (eN .u64)) .own]) (sc rfl (sc rfl (sc rfl sn))) (ae.trans (ae.q9 (k:=1) (xs:=([x1,x2,x3,x4,x5,x6,x7,x8]:SB (Nat))) (f:=eN .u64) (l:=8) (w:=1) rfl rfl rfl (G3 .u64) rfl) (ae.trans (ae.q9 (k:=0) (xs:=([x9,x10,x11,x12,x13,x14,x15,x16]:SB (Nat))) (f:=eN .u64) (l:=8) (w:=1) rfl rfl rfl (G3 .u64) rfl) (ae.ab [1,0] rfl rfl))) ?_;refine R2 (σ:=SB (Nat)×SB (Nat)×Int) (ρ:=(Int)⊕SC) (γ:=SC) (δ:=fun _=>SC) _ (fun(s:SB (Nat)×SB (Nat)×Int) (g:SC)=>match s,g with |(l32,l33,v34),_=>⟨.normal,[(2,ptr b17 0),(3,ptr b18 0),(5,.int .i64 v34)],[.arr b17 1 8 (l32.map (eN .u64)) .own,.arr b18 1 8 (l33.map (eN .u64)) .own]⟩) (fun(r:Int⊕SC) (g:SC)=>match r,g with|.inl v49,_=>⟨.ret,[(4,.int .i64 v49)],[]⟩|.inr _,_=>⟨(.exit 0),[],[]⟩) ?_ (fun _ _=>rfl) (fun r d=>by rcases r with _|_<;>(intro e; cases e)) _ _ _ h61 ()
 clear hF h61;rintro⟨l32,l33,v34⟩ ⟨⟩ r hF;unfold F3 at hF;refine RI<|RI<|RH<|RG (aa rfl) rfl<|RG (aj rfl rfl (dD _ _ _)) rfl<|RJ<|RK ?_;rcases ah hF with⟨h50,hF⟩|⟨h50,hF⟩
 refine RT rfl h50<|RN<|RK<|RI<|RP<|RI<|R9 (by kernel_rfl)<|RG (aa rfl) rfl ?_
 obtain⟨h51,hF⟩:=al hF;replace h51:=au h51;refine RL (lD nb rfl rfl h51) gn rfl ?_;obtain⟨x52,h53,hF⟩:=J hF;refine RG (ef (k:=0) db rfl rfl (aL h53) rfl rfl) rfl<|RG (aa rfl) rfl ?_;obtain⟨h54,hF⟩:=al hF;replace h54:=au h54;refine RL (lD nb rfl rfl h54) gn rfl ?_;obtain⟨x55,h56,hF⟩:=J hF;refine RG (ef (k:=1) db rfl rfl (aL h56) rfl rfl) rfl<|RG (aj rfl rfl (KK _ _)) rfl<|RJ<|RK ?_;rcases ah hF with⟨h57,hF⟩|⟨h57,hF⟩
 refine RT rfl h57<|RI<|RI<|R9 (by kernel_rfl)<|RG (aa rfl) rfl ?_
 obtain⟨h58,hF⟩:=al hF;replace h58:=au h58;refine RL (lD nb rfl rfl h58) gn rfl<|RG (ef (k:=0) db rfl rfl (aL h53) rfl rfl) rfl<|RG (aa rfl) rfl ?_;obtain⟨h59,hF⟩:=al hF;replace h59:=au h59;refine RL (lD nb rfl rfl h59) gn rfl<|RG (ef (k:=1) db rfl rfl (aL h56) rfl rfl) rfl<|RG (aj rfl rfl (Ew _ _)) rfl<|RJ<|RK ?_;rcases ah hF with⟨h60,hF⟩|⟨h60,hF⟩
 refine RT rfl h60<|RI<|RH<|RG (ai rfl) rfl<|RJ<|RK<|RO<|R0<|R5<|R0 ?_;cases hF;exact RM () rfl (sc rfl sn) (ae.ab [] rfl rfl)
 refine RV rfl h60<|RN<|RK<|RI<|RH<|RG (ai rfl) rfl<|RJ<|RK<|RO<|R5<|R0 ?_;cases hF;exact RM () rfl (sc rfl sn) (ae.ab [] rfl rfl)
 refine RV rfl h57<|RN<|R3<|RK<|RH<|RG (aa rfl) rfl<|RG (aj rfl rfl (aP _ _ _)) rfl<|RG (ai rfl) rfl<|RJ ?_;cases hF;exact RM () rfl (sc rfl (sc rfl (sc rfl sn))) (ae.ab [0,1] rfl rfl)
 refine RV rfl h50<|R1<|R6 ?_;cases hF;exact RM () rfl sn (ae.ab [] rfl rfl)
 rcases r62 with v49|_
 rintro⟨⟩;refine R5<|R0 ?_;have hr:=Pf hF;subst r;exact RR (.tmp rfl .nil) fun m' hm=>⟨(),rfl,(ae.ab [] rfl rfl) m' hm⟩
 rintro⟨⟩;refine R7<|RK<|RI<|RH<|RG (ai rfl) rfl<|RJ<|RK<|RO ?_;cases hF;exact RR (.tmp rfl .nil) fun m' hm=>⟨(),rfl,(ae.ab [] rfl rfl) m' hm⟩
def HT(n:Nat)(x1:Bool)(x2:Nat)(x3:Nat)(x4:Nat)(x5:Nat)(x6:Nat)(x7:Nat)(x8:Nat)(x9:Nat)  (r:Nat×Nat×Nat×Nat×Nat×Nat×Nat×Nat×Int)(hF:HI n x1 x2 x3 x4 x5 x6 x7 x8 x9=some r)(m:Sr)  :
  aK aG 137 [.agg #[.bool x1,.int .u64 ((x2:Nat):Int),.int .u64 ((x3:Nat):Int),.int .u64 ((x4:Nat):Int),.int .u64 ((x5:Nat):Int),.int .u64 ((x6:Nat):Int),.int .u64 ((x7:Nat):Int),.int .u64 ((x8:Nat):Int),.int .u64 ((x9:Nat):Int)]] m (Sq m (.tuple #[.agg #[.int .u64 ((r.1:Nat):Int),.int .u64 ((r.2.1:Nat):Int),.int .u64 ((r.2.2.1:Nat):Int),.int .u64 ((r.2.2.2.1:Nat):Int),.int .u64 ((r.2.2.2.2.1:Nat):Int),.int .u64 ((r.2.2.2.2.2.1:Nat):Int),.int .u64 ((r.2.2.2.2.2.2.1:Nat):Int),.int .u64 ((r.2.2.2.2.2.2.2.1:Nat):Int)],.int .i64 r.2.2.2.2.2.2.2.2])):=by
 unfold HI at hF;refine aC (m0:=m) (ps:=[]) (N:=35) (rs:=[.cell 2 149,.tmp 3]) rfl Tryz.func137 rfl rfl rfl (RZ m)<|RI<|RH<|RS (bQ rfl) gn rfl fun b10=>?_;refine RS (cC xK rfl) gn rfl fun b11=>?_;refine RG (ai rfl) rfl<|RJ<|RK<|RI<|RH<|RG (cY rfl E7 rfl (cV Fq rfl rfl rfl)) rfl<|RS (cC E7 rfl) gn rfl fun b12=>?_;refine R4 (bJ (k:=0) km rfl rfl rfl rfl rfl)<|RJ<|RK<|RI<|RI<|RH<|RG (az (r:=ptr b10 1) rfl (iD _ _)) rfl<|RG (aw (k:=2) km rfl rfl rfl) rfl<|RG (aw (k:=0) km rfl rfl rfl) rfl ?_;obtain⟨r24,h23,hF⟩:=J hF;refine RS (bM rfl rfl (fun m hm=>IC n x2 x3 x4 x5 x6 x7 x8 x9 0 0 0 0 0 0 0 9223372036854775808  _ h23 m) fun _=>rfl) gn rfl ?_;rintro⟨⟩;refine RG (ai rfl) rfl<|RJ<|RK<|RI ?_;obtain⟨v27,h30,hF⟩:=J hF;refine RY (G:=(fun(r:Bool) (g:SC)=>match r,g with|v27,_=>⟨.normal,[(1,ptr b10 0),(2,ptr b11 0),(21,.bool v27)],[.obj b10 (.cells [.bool x1,.int .u64 ((x2:Nat):Int),.int .u64 ((x3:Nat):Int),.int .u64 ((x4:Nat):Int),.int .u64 ((x5:Nat):Int),.int .u64 ((x6:Nat):Int),.int .u64 ((x7:Nat):Int),.int .u64 ((x8:Nat):Int),.int .u64 ((x9:Nat):Int)] .own),.obj b11 (.cells [.int .u64 ((0:Nat):Int),.int .u64 ((0:Nat):Int),.int .u64 ((0:Nat):Int),.int .u64 ((0:Nat):Int),.int .u64 ((0:Nat):Int),.int .u64 ((0:Nat):Int),.int .u64 ((0:Nat):Int),.int .u64 ((0:Nat):Int)] .own)]⟩) v27) ?_ ?_
 clear hF;revert v27;intro r hF;refine RH<|RG (aa rfl) rfl<|RG (aj rfl rfl (aZ _ _ _)) rfl<|RG (aa rfl) rfl ?_;rcases ah hF with⟨h28,hF⟩|⟨h28,hF⟩
 refine RQ (gg rfl rfl (cq h28)) rfl<|RQ (gg rfl rfl (cq h28)) rfl<|RQ (gg rfl rfl (cq h28)) rfl<|RQ (gu rfl rfl) rfl<|RQ (gu rfl rfl) rfl<|RQ (gu rfl rfl) rfl<|RQ (gg rfl rfl (cq h28)) rfl<|RG (cw rfl h28 rfl) rfl<|RJ ?_;cases hF;exact RM () rfl (sc rfl (sc rfl (sc rfl sn))) (ae.ab [2,1] rfl rfl)
 refine RL (aa rfl) (gg rfl rfl (cb h28)) rfl<|RL (aj rfl rfl (bW _ _ _)) (gg rfl rfl (cb h28)) rfl<|RL (aa rfl) (gg rfl rfl (cb h28)) rfl ?_;rcases ah hF with⟨h29,hF⟩|⟨h29,hF⟩
 refine RL (az (r:=ptr b10 0) rfl (qd _ _)) (gg rfl rfl (bY h29)) rfl<|RL (aw (k:=2) rf rfl rfl rfl) (gg rfl rfl (bY h29)) rfl<|RL (eG rfl rfl) (gg rfl rfl (bY h29)) rfl<|RL (cw rfl h29 rfl) (gg rfl rfl (cb h28)) rfl<|RG (cp rfl h28 rfl) rfl<|RJ ?_;cases hF;exact RM () rfl (sc rfl (sc rfl (sc rfl sn))) (ae.ab [2,1] rfl rfl)
 refine RQ (gg rfl rfl (bX h29)) rfl<|RQ (gg rfl rfl (bX h29)) rfl<|RQ (gg rfl rfl (bX h29)) rfl<|RL (cp rfl h29 rfl) (gg rfl rfl (cb h28)) rfl<|RG (cp rfl h28 rfl) rfl<|RJ ?_;cases hF;exact RM () rfl (sc rfl (sc rfl (sc rfl sn))) (ae.ab [2,1] rfl rfl)
 rintro⟨⟩;refine RK ?_;rcases ah hF with⟨h32,hF⟩|⟨h32,hF⟩
 refine RT rfl h32<|RI<|RH<|RG (cY rfl xK rfl (cV Da rfl rfl rfl)) rfl<|R4 (bJ (k:=1) gy rfl rfl rfl rfl rfl)<|RG (ai rfl) rfl<|RJ<|RK<|RO<|R0 ?_;cases hF;exact RR (.cell (k:=1) gy rfl rfl rfl (.tmp rfl .nil)) fun m' hm=>⟨(),rfl,(ae.ab [] rfl rfl) m' hm⟩
 refine RV rfl h32<|RN<|RK<|RI ?_;obtain⟨r64,h63,hF⟩:=J hF;refine RY (G:=(fun(r:Nat×Nat×Nat×Nat×Nat×Nat×Nat×Nat) (g:SC)=>match r,g with |(v44,v45,v46,v47,v48,v49,v50,v51),_=>⟨.normal,[(1,ptr b10 0),(2,ptr b11 0)],[.obj b10 (.cells [.bool x1,.int .u64 ((v44:Nat):Int),.int .u64 ((v45:Nat):Int),.int .u64 ((v46:Nat):Int),.int .u64 ((v47:Nat):Int),.int .u64 ((v48:Nat):Int),.int .u64 ((v49:Nat):Int),.int .u64 ((v50:Nat):Int),.int .u64 ((v51:Nat):Int)] .own),.obj b11 (.cells [.int .u64 ((0:Nat):Int),.int .u64 ((0:Nat):Int),.int .u64 ((0:Nat):Int),.int .u64 ((0:Nat):Int),.int .u64 ((0:Nat):Int),.int .u64 ((0:Nat):Int),.int .u64 ((0:Nat):Int),.int .u64 ((0:Nat):Int)] .own)]⟩) r64) ?_ ?_
 clear hF;revert r64;intro r hF;refine RI<|RH<|RG (az (r:=ptr b10 0) rfl (qd _ _)) rfl<|RG (aw (k:=0) rf rfl rfl rfl) rfl<|RJ<|RK ?_;rcases ah hF with⟨h52,hF⟩|⟨h52,hF⟩
 refine RT rfl h52<|RH<|RG (cY rfl E7 rfl (cV Fq rfl rfl rfl)) rfl<|RG (az (r:=ptr b10 1) rfl (iD _ _)) rfl<|RG (aw (k:=0) km rfl rfl rfl) rfl ?_;obtain⟨⟨r54,r55,r56,r57,r58,r59,r60,r61,r62⟩,h53,hF⟩:=J hF;refine RS (bM rfl rfl (fun m hm=>BK n 0 0 0 0 0 0 0 0 x2 x3 x4 x5 x6 x7 x8 x9  _ h53 m) fun _=>rfl) gn rfl ?_;rintro⟨⟩;refine RG (aa rfl) rfl<|RG (cr rfl rfl) rfl<|RG (cr rfl rfl) rfl<|RG (az (r:=ptr b10 1) rfl (iD _ _)) rfl<|R4 (bJ (k:=0) km rfl rfl rfl rfl rfl)<|RJ ?_;cases hF;exact RM () rfl (sc rfl (sc rfl sn)) (ae.ab [0,1] rfl rfl)
 refine RV rfl h52<|RN ?_;cases hF;exact RM () rfl (sc rfl (sc rfl sn)) (ae.ab [0,1] rfl rfl)
 clear h63;obtain⟨v44,v45,v46,v47,v48,v49,v50,v51⟩:=r64;rintro⟨⟩;refine RK<|RI<|RH<|RG (az (r:=ptr b10 1) rfl (iD _ _)) rfl<|RG (aw (k:=0) km rfl rfl rfl) rfl<|R4 (bJ (k:=1) gy rfl rfl rfl rfl rfl)<|RG (ai rfl) rfl<|RJ<|RK<|RO ?_;cases hF;exact RR (.cell (k:=1) gy rfl rfl rfl (.tmp rfl .nil)) fun m' hm=>⟨(),rfl,(ae.ab [] rfl rfl) m' hm⟩
def HV(n:Nat)(x1:Bool)(l2:SB (Nat))(a3:Rv)(c4:Nat)(r:Nat×Nat×Nat×Nat×Nat×Nat×Nat×Nat×Int)(hF:DD n x1 l2=some r)(m:Sr)(h5:Rd m a3 c4 1 l2.length (l2.map (eN .u64))) :
  aK aG 112 [.agg #[.bool x1,.slice a3 l2.length c4]] m (Sq m (.tuple #[.agg #[.int .u64 ((r.1:Nat):Int),.int .u64 ((r.2.1:Nat):Int),.int .u64 ((r.2.2.1:Nat):Int),.int .u64 ((r.2.2.2.1:Nat):Int),.int .u64 ((r.2.2.2.2.1:Nat):Int),.int .u64 ((r.2.2.2.2.2.1:Nat):Int),.int .u64 ((r.2.2.2.2.2.2.1:Nat):Int),.int .u64 ((r.2.2.2.2.2.2.2.1:Nat):Int)],.int .i64 r.2.2.2.2.2.2.2.2])):=by
 unfold DD at hF;refine aC (m0:=m) (ps:=[.rd a3 c4 1 l2.length (l2.map (eN .u64))]) (N:=22) (rs:=[.cell 2 149,.tmp 3]) rfl Tryz.func112 rfl rfl rfl ((RZ m).oj rfl h5)<|RI<|RH<|RS (bQ rfl) gn rfl fun b6=>?_;refine RS (cC xK rfl) gn rfl fun b7=>?_;refine RG (ai rfl) rfl<|RJ<|RK<|RI<|RI<|RH<|RG (az (r:=ptr b6 1) rfl (ga _ _)) rfl<|RG (aw (k:=1) ly rfl rfl rfl) rfl<|RG (bz (k:=2) iw rfl rfl (.inl rfl)) rfl<|RG (aj rfl rfl (aZ _ _ _)) rfl<|RJ<|RK ?_;rcases ah hF with⟨h8,hF⟩|⟨h8,hF⟩
 refine RT rfl h8<|RI<|RH<|RG (cY rfl xK rfl (cV Da rfl rfl rfl)) rfl<|R4 (bJ (k:=0) gy rfl rfl rfl rfl rfl)<|RG (ai rfl) rfl<|RJ<|RK<|RO<|R0 ?_;cases hF;exact RR (.cell (k:=0) gy rfl rfl rfl (.tmp rfl .nil)) fun m' hm=>⟨(),rfl,(ae.ab [] rfl rfl) m' hm⟩
 refine RV rfl h8<|RN<|RK<|RI<|RH<|RG (az (r:=ptr b6 0) rfl (jI _ _)) rfl<|RG (aw (k:=1) rf rfl rfl rfl) rfl<|RG (cY rfl z182 rfl (cV Jo rfl rfl rfl)) rfl<|RS (cC z182 rfl) gn rfl fun b9=>?_;refine R4 (bJ (k:=0) q7 rfl rfl rfl rfl rfl)<|RJ<|RK<|RI<|R9 (by kernel_rfl)<|RG (az (r:=ptr b9 1) rfl (iD _ _)) rfl<|RL (MG (k:=0) nb rfl rfl rfl rfl) gn rfl<|RG (az (r:=ptr b6 1) rfl (ga _ _)) rfl<|RG (aw (k:=2) ly rfl rfl rfl) rfl ?_
 obtain⟨h10,hF⟩:=al hF;obtain⟨⟨x12,x13,x14,x15,x16,x17,x18,x19⟩,h11,hF⟩:=J hF;refine RG (Mf (k:=0) (ys:=(l2:SB (Nat))) (cs':=[.bool x1,.int .u64 ((x12:Nat):Int),.int .u64 ((x13:Nat):Int),.int .u64 ((x14:Nat):Int),.int .u64 ((x15:Nat):Int),.int .u64 ((x16:Nat):Int),.int .u64 ((x17:Nat):Int),.int .u64 ((x18:Nat):Int),.int .u64 ((x19:Nat):Int)]) (G3 .u64) gC rfl rfl (fun m hm=>hm.rd (k:=3) rfl (.rd _ _ _ _ _)) h10 rfl (Nf (f:=eN .u64) (v:=fun x=>.int .u64 ((x:Nat):Int)) (fun _=>rfl) (rL h11) (of_decide_eq_true h10))) rfl<|RJ<|RK<|RI<|RH<|RG (aw (k:=0) q7 rfl rfl rfl) rfl ?_;obtain⟨⟨r21,r22,r23,r24,r25,r26,r27,r28,r29⟩,h20,hF⟩:=J hF;refine RS (bM rfl rfl (fun m hm=>HT n x1 x12 x13 x14 x15 x16 x17 x18 x19  _ h20 m) fun _=>rfl) gn rfl ?_;rintro⟨⟩;refine RG (cr rfl rfl) rfl<|RG (cr rfl rfl) rfl<|R4 (bJ (k:=1) gy rfl rfl rfl rfl rfl)<|RG (ai rfl) rfl<|RJ<|RK<|RO ?_;cases hF;exact RR (.cell (k:=1) gy rfl rfl rfl (.tmp rfl .nil)) fun m' hm=>⟨(),rfl,(ae.ab [] rfl rfl) m' hm⟩
def Iq(n:Nat)(x1:Nat)(x2:Nat)(x3:Nat)(x4:Nat)(x5:Nat)(x6:Nat)(x7:Nat)(x8:Nat)  (r:Int×Int)(hF:DT n x1 x2 x3 x4 x5 x6 x7 x8=some r)(m:Sr)  :
  aK aG 113 [.agg #[.int .u64 ((x1:Nat):Int),.int .u64 ((x2:Nat):Int),.int .u64 ((x3:Nat):Int),.int .u64 ((x4:Nat):Int),.int .u64 ((x5:Nat):Int),.int .u64 ((x6:Nat):Int),.int .u64 ((x7:Nat):Int),.int .u64 ((x8:Nat):Int)]] m (Sq m (.tuple #[.int .i64 r.1,.int .i64 r.2])):=by
 unfold DT at hF;refine aC (m0:=m) (ps:=[]) (N:=13) (rs:=[.tmp 2,.tmp 3]) rfl Tryz.func113 rfl rfl rfl (RZ m)<|RI<|RH<|RS (bQ rfl) gn rfl fun b9=>?_;refine RG (ai rfl) rfl<|RG (ai rfl) rfl<|RJ<|RK<|RI<|RH<|RG (wP (r:=ptr b9 0) rfl rfl (Ah DZ (i:=0) (by decide))) rfl<|RG (aw (k:=0) db rfl rfl rfl) rfl<|RG (jS rfl (mR (by rw[oO]; rfl) u3)) rfl<|RG (ai rfl) rfl<|RJ<|RK<|RI<|RI<|Sd (prs:=[(1,2)]) (by kernel_rfl)<|RX (aa rfl) rfl ?_
 obtain⟨⟨r11,r12,r13,r14,r15,r16,r17,r18⟩,h10,hF⟩:=J hF;refine Sc (eC rfl rfl (fun m hm=>Bn n (RC ((x1:Nat):Int))  _ h10 m) fun _=>rfl) gn rfl ?_;rintro⟨⟩;refine RX (aw (k:=0) gy rfl rfl rfl) rfl<|RX (aj rfl rfl (D3 MT (L4 _ _ _ _ _ _ _ _ _ _ _ _ _ _ _ _))) rfl<|Sb (fun m hm=>eJ.all rfl)<|RK ?_;rcases ah hF with⟨h19,hF⟩|⟨h19,hF⟩
 refine RT rfl h19<|RI<|RH<|RG (ai rfl) rfl<|RG (ai rfl) rfl<|RJ<|RK<|RO<|R0 ?_;cases hF;exact RR (.tmp rfl (.tmp rfl .nil)) fun m' hm=>⟨(),rfl,(ae.ab [] rfl rfl) m' hm⟩
 refine RV rfl h19<|RN<|RK<|RI<|RH<|RG (aa rfl) rfl<|RG (ai rfl) rfl<|RG (ai rfl) rfl<|RJ<|RK<|RO ?_;cases hF;exact RR (.tmp rfl (.tmp rfl .nil)) fun m' hm=>⟨(),rfl,(ae.ab [] rfl rfl) m' hm⟩
def Ep(n:Nat)(l1:Rs)(a0:Rv)(c0:Nat)(r:Rs×Int)(hF:LM n l1=some r)(m:Sr)(h19:Rd m a0 c0 2 l1.length (l1.map (eP (eI .i64) (eI .i64)))) :
  aK aG 87 [.slice a0 l1.length c0] m (fun v m'=>∃x:Rv×Nat,v=.tuple #[.slice x.1 x.2 x.2,.int .i64 r.2]/\Hp m m' [.sl x.1 2 x.2 (r.1.map (eP (eI .i64) (eI .i64)))]):=by
 unfold LM at hF;refine aC (m0:=m) (ps:=[.rd a0 c0 2 l1.length (l1.map (eP (eI .i64) (eI .i64)))]) (N:=98) (rs:=[.tmp 2,.tmp 3]) rfl Tryz.func87 rfl rfl rfl ((RZ m).oj rfl h19)<|RI<|RH<|RG (ai rfl) rfl<|RG (ai rfl) rfl<|RJ<|RK<|RI<|RI<|RH<|RG (aa rfl) rfl<|RG (bz (k:=0) LK rfl rfl (.inl rfl)) rfl<|RG (aj rfl rfl (aZ _ _ _)) rfl<|RJ<|RK ?_;rcases ah hF with⟨h6,hF⟩|⟨h6,hF⟩
 refine RT rfl h6<|RI<|RH<|RG (ai rfl) rfl<|RG (ai rfl) rfl<|RJ<|RK<|RO<|R0 ?_;cases hF;exact RR (.tmp rfl (.tmp rfl .nil)) fun m' hm=>⟨(none,0),rfl,(ae.trans (ae.nil 2 rfl) (ae.ab [0] rfl rfl)) m' hm⟩
 refine RV rfl h6<|RN<|RK<|RI<|RI<|RH<|RG (aa rfl) rfl ?_;obtain⟨v1,h20,hF⟩:=J hF;refine RS (pB (α:=SC) (V:=fun g=>(fun(r:Bool) (g:SC)=>match r,g with|v1,_=>(.bool v1:Rx)) v1 g) (N:=fun g=>(fun(r:Bool) (g:SC)=>match r,g with|v1,_=>([.rd a0 c0 2 l1.length (l1.map (eP (eI .i64) (eI .i64)))]:SB Pc)) v1 g) rfl rfl (fun m hm=>?_)) gn rfl ?_
 clear hF;revert v1;intro r hF;refine aC (N:=9) (rs:=[.tmp 4]) rfl Tryz.func104 rfl rfl rfl hm<|RI<|RH<|RG (ai rfl) rfl<|RJ<|RK<|RI<|RH<|RG (aa rfl) rfl<|RG (aa rfl) rfl ?_;obtain⟨v2,h21,hF⟩:=J hF;refine RS (pB (α:=SC) (V:=fun g=>(fun(r:Int) (g:SC)=>match r,g with|v2,_=>(.int .i64 v2:Rx)) v2 g) (N:=fun g=>(fun(r:Int) (g:SC)=>match r,g with|v2,_=>([.rd a0 c0 2 l1.length (l1.map (eP (eI .i64) (eI .i64)))]:SB Pc)) v2 g) rfl rfl (fun m hm=>?_)) gn rfl ?_
 clear hF;revert v2;intro r hF;refine aC (N:=19) (rs:=[.tmp 4]) rfl Tryz.func126 rfl rfl rfl hm<|RI<|RH<|RG (ai rfl) rfl<|RJ<|RK<|RI<|RI<|RH<|RG (aa rfl) rfl<|RG (bz (k:=0) LK rfl rfl (.inl rfl)) rfl<|RG (aa rfl) rfl<|RJ<|RK<|RP ?_;obtain⟨r6,h7,hF⟩:=J hF;refine RY (G:=(fun(r:Int⊕SC) (g:SC)=>match r,g with|.inl v3,_=>⟨.ret,[(4,.int .i64 v3)],[.rd a0 c0 2 l1.length (l1.map (eP (eI .i64) (eI .i64)))]⟩|.inr _,_=>⟨(.exit 0),[],[.rd a0 c0 2 l1.length (l1.map (eP (eI .i64) (eI .i64)))]⟩) r6) ?_ ?_
 refine R8 (fs':=[(0,.slice a0 l1.length c0),(1,.func (.func 105) #[] #[]),(7,.int .i64 (l1.length:Int)),(8,.int .i64 0)]) (ps':=[.rd a0 c0 2 l1.length (l1.map (eP (eI .i64) (eI .i64)))]) (sc rfl (sc rfl (sc rfl (sc rfl sn)))) (ae.ab [0] rfl rfl) ?_;refine R2 (σ:=Int) (ρ:=(Int)⊕SC) (γ:=SC) (δ:=fun _=>SC) _ (fun(s:Int) (g:SC)=>match s,g with|v8,_=>⟨.normal,[(0,.slice a0 l1.length c0),(1,.func (.func 105) #[] #[]),(7,.int .i64 (l1.length:Int)),(8,.int .i64 v8)],[.rd a0 c0 2 l1.length (l1.map (eP (eI .i64) (eI .i64)))]⟩) (fun(r:Int⊕SC) (g:SC)=>match r,g with|.inl v3,_=>⟨.ret,[(4,.int .i64 v3)],[.rd a0 c0 2 l1.length (l1.map (eP (eI .i64) (eI .i64)))]⟩|.inr _,_=>⟨(.exit 0),[],[.rd a0 c0 2 l1.length (l1.map (eP (eI .i64) (eI .i64)))]⟩) ?_ (fun _ _=>rfl) (fun r d=>by rcases r with _|_<;>(intro e; cases e)) _ _ _ h7 ()
 clear hF h7;rintro v8 ⟨⟩ r hF;unfold xW at hF;refine RI<|RH<|RG (aj rfl rfl (aF _ _ _)) rfl<|RJ<|RK<|RI ?_;rcases ah hF with⟨h8,hF⟩|⟨h8,hF⟩
 refine RT rfl h8<|RN<|RK<|RI<|RP<|RI<|RH<|RG (aa rfl) rfl<|RG (ai rfl) rfl<|RJ<|RK<|RI<|RH<|RG (aa rfl) rfl<|RG (aa rfl) rfl<|RG (aa rfl) rfl ?_;obtain⟨h3,hF⟩:=al hF;replace h3:=au h3;refine Sa (k:=0) rfl (aW h3) ?_;rintro b6 o2 rfl;refine RL (bp A3 rfl rfl h3) gn rfl ?_;obtain⟨⟨x11,x12⟩,h22,hF⟩:=J hF;refine RG (bC (k:=0) uG rfl rfl (aL h22) rfl rfl) rfl ?_;obtain⟨r22,h23,hF⟩:=J hF;refine RS (bM rfl rfl (fun m hm=>GP n x11 x12  _ h23 m) fun _=>rfl) gn rfl ?_;rintro⟨⟩;refine RJ<|RK ?_;rcases ah hF with⟨h9,hF⟩|⟨h9,hF⟩
 refine RT rfl h9<|RI<|RH<|RG (aa rfl) rfl<|RG (ai rfl) rfl<|RJ<|RK<|RO<|R5<|R0 ?_;cases hF;exact RM () rfl (sc rfl sn) (ae.ab [1] rfl rfl)
 refine RV rfl h9<|RN<|R3<|RK<|RH<|RG (aj rfl rfl (aA _ _ _)) rfl<|RG (aa rfl) rfl<|RJ ?_;cases hF;exact RM () rfl (sc rfl (sc rfl (sc rfl (sc rfl sn)))) (ae.ab [1] rfl rfl)
 refine RV rfl h8<|R1<|R6 ?_;cases hF;exact RM () rfl sn (ae.ab [0] rfl rfl)
 rcases r6 with v3|_
 rintro⟨⟩;refine R5<|R0 ?_;have hr:=Pf hF;subst r;exact RR (.tmp rfl .nil) fun m' hm=>⟨(),rfl,(ae.ab [0] rfl rfl) m' hm⟩
 rintro⟨⟩;refine R7<|RK<|RI<|RH<|RG (ai rfl) rfl<|RJ<|RK<|RO ?_;cases hF;exact RR (.tmp rfl .nil) fun m' hm=>⟨(),rfl,(ae.ab [0] rfl rfl) m' hm⟩
 rintro⟨⟩;refine RG (aj rfl rfl (dD _ _ _)) rfl<|RG (ai rfl) rfl<|RJ<|RK<|RO ?_;cases hF;exact RR (.tmp rfl .nil) fun m' hm=>⟨(),rfl,(ae.ab [0] rfl rfl) m' hm⟩
 rintro⟨⟩;refine RJ<|RK ?_;rcases ah hF with⟨h10,hF⟩|⟨h10,hF⟩
 refine RT rfl h10<|RI<|RH<|RG (ai rfl) rfl<|RG (ai rfl) rfl<|RJ<|RK<|RO<|R0 ?_;cases hF;exact RR (.tmp rfl (.tmp rfl .nil)) fun m' hm=>⟨(none,0),rfl,(ae.trans (ae.nil 2 rfl) (ae.ab [0] rfl rfl)) m' hm⟩
 refine RV rfl h10<|RN<|RK<|RI<|RH<|RS Np gn rfl fun b0=>?_;refine Sg (ae.N8 (k:=0) (f:=eN .u64) (w:=1) (kE:=(fun n:Int=>.int .i64 n)) rfl)<|RG (ai rfl) rfl<|RJ<|RK<|RI<|RI<|RH<|RG (aa rfl) rfl<|RG (bz (k:=1) LK rfl rfl (.inl rfl)) rfl<|RG (aa rfl) rfl<|RJ<|RK<|RP ?_;obtain⟨l4,h11,hF⟩:=J hF;refine RY (G:=(fun(r:SB (Int×Bool×SB Nat)) (g:(Nat->Prop))=>match r,g with|l4,r0=>⟨(.exit 0),[(4,.map (some b0))],[.gen (qv b0 r0 1 (eN .u64) (fun n:Int=>.int .i64 n) l4)]⟩) l4) ?_ ?_
 refine R8 (fs':=[(4,.map (some b0)),(22,.slice a0 l1.length c0),(23,.int .i64 (l1.length:Int)),(24,.int .i64 0)]) (ps':=[.gen (qv b0 (fun _=>False) 1 (eN .u64) (fun n:Int=>.int .i64 n) ([]:SB (Int×Bool×SB Nat))),.rd a0 c0 2 l1.length (l1.map (eP (eI .i64) (eI .i64)))]) (sc rfl (sc rfl (sc rfl (sc rfl sn)))) (ae.ab [0,1] rfl rfl) ?_;refine R2 (σ:=SB (Int×Bool×SB Nat)×Int) (ρ:=SB (Int×Bool×SB Nat)) (γ:=(Nat->Prop)) (δ:=fun _=>(Nat->Prop)) _ (fun(s:SB (Int×Bool×SB Nat)×Int) (g:(Nat->Prop))=>match s,g with |(l10,v4),r1=>⟨.normal,[(4,.map (some b0)),(22,.slice a0 l1.length c0),(23,.int .i64 (l1.length:Int)),(24,.int .i64 v4)],[.gen (qv b0 r1 1 (eN .u64) (fun n:Int=>.int .i64 n) l10),.rd a0 c0 2 l1.length (l1.map (eP (eI .i64) (eI .i64)))]⟩) (fun(r:SB (Int×Bool×SB Nat)) (g:(Nat->Prop))=>match r,g with|l4,r0=>⟨(.exit 0),[(4,.map (some b0))],[.gen (qv b0 r0 1 (eN .u64) (fun n:Int=>.int .i64 n) l4)]⟩) ?_ (fun _ _=>rfl) (fun r d=>by intro e; cases e) _ _ _ h11 (fun _=>False)
 clear hF h11;rintro⟨l10,v4⟩ r1 r hF;unfold tJ at hF;refine RI<|RH<|RG (aj rfl rfl (aF _ _ _)) rfl<|RJ<|RK<|RI ?_;rcases ah hF with⟨h12,hF⟩|⟨h12,hF⟩
 refine RT rfl h12<|RN<|RK<|RI ?_;obtain⟨l9,h24,hF⟩:=J hF;refine RY (G:=(fun(r:SB (Int×Bool×SB Nat)) (g:(Nat->Prop))=>match r,g with|l9,r4=>⟨.normal,[(4,.map (some b0)),(22,.slice a0 l1.length c0),(23,.int .i64 (l1.length:Int)),(24,.int .i64 v4)],[.gen (qv b0 r4 1 (eN .u64) (fun n:Int=>.int .i64 n) l9),.rd a0 c0 2 l1.length (l1.map (eP (eI .i64) (eI .i64)))]⟩) l9) ?_ ?_
 clear hF;revert l9;intro r hF;refine RP<|RI<|RH ?_;obtain⟨h4,hF⟩:=al hF;replace h4:=au h4;refine Sa (k:=1) rfl (aW h4) ?_;rintro b4 o1 rfl;refine RL (bp A3 rfl rfl h4) gn rfl ?_;obtain⟨⟨x4,x10⟩,h25,hF⟩:=J hF;refine RG (bC (k:=0) uG rfl rfl (aL h25) rfl rfl) rfl<|RS (cC z79 rfl) gn rfl fun b3=>?_;refine R4 (bJ (k:=0) uG rfl rfl rfl rfl rfl)<|RJ<|RK<|RI<|RI ?_;obtain⟨v5,h26,hF⟩:=J hF;refine RY (G:=(fun(r:Bool) (g:SC)=>match r,g with|v5,_=>⟨.normal,[(4,.map (some b0)),(6,ptr b3 0),(22,.slice (some ⟨b4,o1,none⟩) l1.length c0),(23,.int .i64 (l1.length:Int)),(24,.int .i64 v4),(35,.bool v5)],[.gen (qv b0 r1 1 (eN .u64) (fun n:Int=>.int .i64 n) l10),.obj b3 (.cells [.int .i64 x4,.int .i64 x10] .own),.ro b4 o1 2 l1.length (l1.map (eP (eI .i64) (eI .i64))),.rd (some ⟨b4,o1,none⟩) c0 2 l1.length (l1.map (eP (eI .i64) (eI .i64)))]⟩) v5) ?_ ?_
 clear hF;revert v5;intro r hF;refine RH<|RG (az (r:=ptr b3 1) rfl (ep _ _)) rfl<|RG (aw (k:=0) bw rfl rfl rfl) rfl<|RG (aj rfl rfl (bW _ _ _)) rfl<|RG (aa rfl) rfl ?_;rcases ah hF with⟨h0,hF⟩|⟨h0,hF⟩
 refine RQ (gg rfl rfl (cq h0)) rfl<|RQ (gg rfl rfl (cq h0)) rfl<|RQ (gg rfl rfl (cq h0)) rfl<|RG (cw rfl h0 rfl) rfl<|RJ ?_;cases hF;exact RM () rfl (sc rfl (sc rfl (sc rfl (sc rfl (sc rfl (sc rfl sn)))))) (ae.ab [2,0,1,3] rfl rfl)
 refine RL (az (r:=ptr b3 0) rfl (jH _ _)) (gg rfl rfl (cb h0)) rfl<|RL (aw (k:=0) bw rfl rfl rfl) (gg rfl rfl (cb h0)) rfl<|RL (aj rfl rfl (bW _ _ _)) (gg rfl rfl (cb h0)) rfl<|RG (cp rfl h0 rfl) rfl<|RJ ?_;cases hF;exact RM () rfl (sc rfl (sc rfl (sc rfl (sc rfl (sc rfl (sc rfl sn)))))) (ae.ab [2,0,1,3] rfl rfl)
 rintro⟨⟩;refine RK ?_;rcases ah hF with⟨h13,hF⟩|⟨h13,hF⟩
 refine RT rfl h13<|R1<|R6<|R7 ?_;have hr:=Pf hF;subst r;exact RM r1 rfl (sc rfl (sc rfl (sc rfl (sc rfl sn)))) (ae.ab [0,3] rfl rfl)
 refine RV rfl h13<|RN<|RK<|RI<|RH<|RG (az (r:=ptr b3 1) rfl (ep _ _)) rfl<|RG (aw (k:=1) bw rfl rfl rfl) rfl ?_;obtain⟨⟨r9,r7⟩,h27,hF⟩:=J hF;refine RS (bM rfl rfl (fun m hm=>Bw n x10  _ h27 m) fun _=>rfl) gn rfl ?_;rintro⟨⟩;refine RG (aa rfl) rfl<|RG (cr rfl rfl) rfl<|RG (cr rfl rfl) rfl<|RG (ai rfl) rfl<|RG (ai rfl) rfl<|RJ<|RK<|Sd (prs:=[(4,7),(4,9),(4,10)]) (by kernel_rfl)<|RX (aa rfl) rfl<|RX (aa rfl) rfl<|RX (aa rfl) rfl<|RX (aa rfl) rfl ?_
 obtain⟨⟨y0,l15⟩,h28,hF⟩:=J hF;refine Wn.x (FL (q:=0) (k:=r7) Kz (LB u3) uY (by decide) rfl rfl rfl h28) gn rfl ?_
 rintro⟨a5,c1⟩;refine RX (az (r:=ptr b3 0) rfl (jH _ _)) rfl<|RX (aw (k:=2) bw rfl rfl rfl) rfl ?_;obtain⟨⟨r10,l11⟩,h29,hF⟩:=J hF;refine Sc (fm (N:=(fun x:Rv×Nat×Nat=>[.rd x.1 x.2.1 1 x.2.2 (l11.map (eN .u64))])) rfl rfl (fun m hm=>BC n x4  _ h29 m hm.bt) fun _=>rfl) gn rfl ?_;rintro⟨a6,c2,n1⟩;refine Sh (k:=0) (xs:=l11) rfl ?_;rintro rfl;refine RX (aa rfl) rfl ?_;obtain⟨⟨r11,l12⟩,h30,hF⟩:=J hF;refine Sc (fm (N:=(fun x:Rv×Nat×Nat=>[.rd x.1 x.2.1 1 x.2.2 (l12.map (eN .u64))])) rfl rfl (fun m hm=>BC n r9  _ h30 m hm.bt) fun _=>rfl) gn rfl ?_;rintro⟨a7,c3,n2⟩;refine Sh (k:=0) (xs:=l12) rfl ?_;rintro rfl;obtain⟨⟨r12,l13⟩,h31,hF⟩:=J hF;refine Sc (fm (N:=(fun x:Rv×Nat×Nat=>[.rd x.1 x.2.1 1 x.2.2 (l13.map (eN .u64))])) rfl rfl (fun m hm=>GX n r10 l11 r11 l12 a6 c2 a7 c3 _ h31 m hm.bt (hm.rd (k:=1) rfl (.rd _ _ _ _ _)) (hm.bZ (k:=1) rfl) (hm.rd (k:=0) rfl (.rd _ _ _ _ _)) (hm.bZ (k:=0) rfl)) fun _=>rfl) gn rfl ?_;rintro⟨a8,c4,n4⟩;refine Sh (k:=0) (xs:=l13) rfl ?_;rintro rfl;obtain⟨⟨r13,l14⟩,h32,hF⟩:=J hF;refine Sc (fm (N:=(fun x:Rv×Nat×Nat=>[.rd x.1 x.2.1 1 x.2.2 (l14.map (eN .u64))])) rfl rfl (fun m hm=>Iz n y0 l15 r12 l13 a5 c1 a8 c4 _ h32 m hm.bt (hm.rd (k:=3) rfl (.rd _ _ _ _ _)) (hm.bZ (k:=3) rfl) (hm.rd (k:=0) rfl (.rd _ _ _ _ _)) (hm.bZ (k:=0) rfl)) fun _=>rfl) gn rfl ?_;rintro⟨a9,c6,n8⟩;refine Sh (k:=0) (xs:=l14) rfl ?_;rintro rfl;refine Wn.o0 (Mc (k2:=5) (q:=0) (k:=r7) (s:=r13) (l:=l14) Kz (LB u3) rfl rfl rfl rfl rfl)<|Sb (fun m hm=>eJ.all rfl)<|R3 ?_;cases hF;exact RM (fun x=>r1 x\/eL a9=some x) rfl (sc rfl (sc rfl (sc rfl (sc rfl sn)))) (ae.ab [5,8] rfl rfl)
 rintro r4;refine RK<|RH<|RG (aj rfl rfl (aA _ _ _)) rfl<|RG (aa rfl) rfl<|RJ ?_;cases hF;exact RM r4 rfl (sc rfl (sc rfl (sc rfl (sc rfl sn)))) (ae.ab [0,1] rfl rfl)
 refine RV rfl h12<|R1<|R6 ?_;cases hF;exact RM r1 rfl (sc rfl sn) (ae.ab [0] rfl rfl)
 rintro r0;refine R7<|RK<|RI<|RH<|RG (ai rfl) rfl<|RJ<|RK<|RI<|RI<|RH<|RG (aa rfl) rfl ?_;obtain⟨l2,h33,hF⟩:=J hF;refine RS (bM rfl rfl (fun m hm=>Hh n l4 b0 _ h33 m (hm.OV (k:=0) rfl)) fun _=>rfl) gn rfl ?_;rintro⟨a3,n9⟩;refine Wo.len (k:=0) (xs:=l2) rfl ?_;rintro rfl;refine RG (bz (k:=0) fH rfl rfl (.inl rfl)) rfl<|RG (aa rfl) rfl<|RJ<|RK<|RP ?_;obtain⟨r8,h14,hF⟩:=J hF;refine RY (G:=(fun(r:SC⊕Rs) (g:Rv)=>match r,g with|.inl _,_=>⟨.ret,[(2,.slice none 0 0),(3,.int .i64 6)],[]⟩|.inr l3,a1=>⟨(.exit 2),[(9,.slice a1 l3.length l3.length)],[.sl a1 2 l3.length (l3.map (eP (eI .i64) (eI .i64)))]⟩) r8) ?_ ?_
 refine R8 (fs':=[(4,.map (some b0)),(9,.slice none ([]:Rs).length ([]:Rs).length),(56,.slice a3 l2.length l2.length),(57,.int .i64 (l2.length:Int)),(58,.int .i64 0)]) (ps':=[.gen (qv b0 r0 1 (eN .u64) (fun n:Int=>.int .i64 n) l4),.sl none 2 ([]:Rs).length (([]:Rs).map (eP (eI .i64) (eI .i64))),.sl a3 1 l2.length (l2.map (eI .i64))]) (sc rfl (sc rfl (sc rfl (sc rfl (sc rfl sn))))) (ae.trans (ae.nil 2 rfl) (ae.ab [2,0,1] rfl rfl)) ?_;refine R2 (σ:=Rs×Int) (ρ:=(SC)⊕Rs) (γ:=Rv) (δ:=fun _=>Rv) _ (fun(s:Rs×Int) (g:Rv)=>match s,g with |(l7,v6),a2=>⟨.normal,[(4,.map (some b0)),(9,.slice a2 l7.length l7.length),(56,.slice a3 l2.length l2.length),(57,.int .i64 (l2.length:Int)),(58,.int .i64 v6)],[.gen (qv b0 r0 1 (eN .u64) (fun n:Int=>.int .i64 n) l4),.sl a2 2 l7.length (l7.map (eP (eI .i64) (eI .i64))),.sl a3 1 l2.length (l2.map (eI .i64))]⟩) (fun(r:SC⊕Rs) (g:Rv)=>match r,g with|.inl _,_=>⟨.ret,[(2,.slice none 0 0),(3,.int .i64 6)],[]⟩|.inr l3,a1=>⟨(.exit 2),[(9,.slice a1 l3.length l3.length)],[.sl a1 2 l3.length (l3.map (eP (eI .i64) (eI .i64)))]⟩) ?_ (fun _ _=>rfl) (fun r d=>by rcases r with _|_<;>(intro e; cases e)) _ _ _ h14 none
 clear hF h14;rintro⟨l7,v6⟩ a2 r hF;unfold tv at hF;refine RI<|RH<|RG (aj rfl rfl (aF _ _ _)) rfl<|RJ<|RK<|RI ?_;rcases ah hF with⟨h15,hF⟩|⟨h15,hF⟩
 refine RT rfl h15<|RN<|RK<|RI ?_;obtain⟨r5,h34,hF⟩:=J hF;refine RY (G:=(fun(r:SC⊕Rs) (g:Rv)=>match r,g with|.inl _,_=>⟨.ret,[(2,.slice none 0 0),(3,.int .i64 6)],[]⟩|.inr l8,a4=>⟨.normal,[(4,.map (some b0)),(9,.slice a4 l8.length l8.length),(56,.slice a3 l2.length l2.length),(57,.int .i64 (l2.length:Int)),(58,.int .i64 v6)],[.gen (qv b0 r0 1 (eN .u64) (fun n:Int=>.int .i64 n) l4),.sl a4 2 l8.length (l8.map (eP (eI .i64) (eI .i64))),.sl a3 1 l2.length (l2.map (eI .i64))]⟩) r5) ?_ ?_
 clear hF;revert r5;intro r hF;refine RP<|RI<|RH ?_;obtain⟨h5,hF⟩:=al hF;replace h5:=au h5;refine Sf (k:=2) rfl (aW h5) ?_;rintro b5 t3 rfl h42;refine RL (cF dJ rfl rfl h5) gn rfl ?_;obtain⟨x3,h35,hF⟩:=J hF;refine RG (ef (k:=2) bw rfl rfl (aL h35) rfl rfl) rfl<|RG (ai rfl) rfl<|RJ<|RK<|RI<|RH<|RG (aa rfl) rfl<|RG (aa rfl) rfl ?_;obtain⟨⟨y1,l16⟩,h36,hF⟩:=J hF;refine RS (FL (q:=0) (k:=x3) Kz (LB u3) uY (by decide) rfl rfl rfl h36) gn rfl ?_
 rintro⟨a10,c5⟩;obtain⟨⟨r14,r15,r16,r17,r18,r19,r20,r21,r23⟩,h37,hF⟩:=J hF;refine RS (bM rfl rfl (fun m hm=>HV n y1 l16 a10 c5 _ h37 m (hm.rd (k:=0) rfl (.rd _ _ _ _ _))) fun _=>rfl) gn rfl ?_;rintro⟨⟩;refine RG (aa rfl) rfl<|RG (cr rfl rfl) rfl<|RG (cr rfl rfl) rfl<|RS (cC xK rfl) gn rfl fun b7=>?_;refine R4 (bJ (k:=0) gy rfl rfl rfl rfl rfl)<|RG (ai rfl) rfl<|RJ<|RK<|RI<|RH<|RG (aw (k:=0) gy rfl rfl rfl) rfl ?_;obtain⟨⟨r3,r24⟩,h38,hF⟩:=J hF;refine RS (bM rfl rfl (fun m hm=>Iq n r14 r15 r16 r17 r18 r19 r20 r21  _ h38 m) fun _=>rfl) gn rfl ?_;rintro⟨⟩;refine RG (aa rfl) rfl<|RG (cr rfl rfl) rfl<|RG (cr rfl rfl) rfl<|RG (ai rfl) rfl<|RG (ai rfl) rfl<|RJ<|RK<|RI<|RI ?_;obtain⟨v7,h39,hF⟩:=J hF;refine RY (G:=(fun(r:Bool) (g:SC)=>match r,g with|v7,_=>⟨.normal,[(4,.map (some b0)),(9,.slice a2 l7.length l7.length),(11,.int .i64 x3),(14,.int .i64 r3),(56,.slice (some ⟨b5,0,none⟩) l2.length l2.length),(57,.int .i64 (l2.length:Int)),(58,.int .i64 v6),(84,.bool v7)],[.gen (qv b0 r0 1 (eN .u64) (fun n:Int=>.int .i64 n) l4),.sl a2 2 l7.length (l7.map (eP (eI .i64) (eI .i64))),.arr b5 1 l2.length (l2.map (eI .i64)) t3]⟩) v7) ?_ ?_
 clear hF;revert v7;intro r hF;refine RH<|RG (aa rfl) rfl<|RG (aj rfl rfl (cB _ _)) rfl<|RG (aa rfl) rfl ?_;rcases ah hF with⟨h2,hF⟩|⟨h2,hF⟩
 refine RQ (gg rfl rfl (cq h2)) rfl<|RQ (gg rfl rfl (cq h2)) rfl<|RG (cw rfl h2 rfl) rfl<|RG (aa rfl) rfl<|RQ (gg rfl rfl rfl) rfl<|RQ (gg rfl rfl rfl) rfl<|RQ (gg rfl rfl rfl) rfl<|RG (ir rfl rfl) rfl<|RJ ?_;cases hF;exact RM () rfl (sc rfl (sc rfl (sc rfl (sc rfl (sc rfl (sc rfl (sc rfl (sc rfl sn)))))))) (ae.ab [2,3,4] rfl rfl)
 refine RL (aa rfl) (gg rfl rfl (cb h2)) rfl<|RL (aj rfl rfl (cB _ _)) (gg rfl rfl (cb h2)) rfl<|RG (cp rfl h2 rfl) rfl<|RG (aa rfl) rfl ?_;rcases ah hF with⟨h1,hF⟩|⟨h1,hF⟩
 refine RQ (gg rfl rfl (cq h1)) rfl<|RQ (gg rfl rfl (cq h1)) rfl<|RQ (gg rfl rfl (cq h1)) rfl<|RG (cw rfl h1 rfl) rfl<|RJ ?_;cases hF;exact RM () rfl (sc rfl (sc rfl (sc rfl (sc rfl (sc rfl (sc rfl (sc rfl (sc rfl sn)))))))) (ae.ab [2,3,4] rfl rfl)
 refine RL (aa rfl) (gg rfl rfl (cb h1)) rfl ?_;obtain⟨r25,h40,hF⟩:=J hF;refine RS (bM rfl rfl (fun m hm=>vH n r3  _ h40 m) fun _=>rfl) (gg rfl rfl (cb h1)) rfl ?_;rintro⟨⟩;refine RL (eG rfl rfl) (gg rfl rfl (cb h1)) rfl<|RG (cp rfl h1 rfl) rfl<|RJ ?_;cases hF;exact RM () rfl (sc rfl (sc rfl (sc rfl (sc rfl (sc rfl (sc rfl (sc rfl (sc rfl sn)))))))) (ae.ab [2,3,4] rfl rfl)
 rintro⟨⟩;refine RK ?_;rcases ah hF with⟨h16,hF⟩|⟨h16,hF⟩
 refine RT rfl h16<|RI<|RH<|RG (ai rfl) rfl<|RG (ai rfl) rfl<|RJ<|RK<|RO<|R0<|R5 ?_;cases hF;exact RM none rfl (sc rfl (sc rfl sn)) (ae.ab [] rfl rfl)
 refine RV rfl h16<|RN<|RK<|RI<|RH<|RG (aa rfl) rfl<|RG (aj rfl rfl (cB _ _)) rfl<|RJ<|RK ?_;rcases ah hF with⟨h17,hF⟩|⟨h17,hF⟩
 refine RT rfl h17<|RH<|RG (aa rfl) rfl<|RG (aa rfl) rfl<|RG (aa rfl) rfl<|RG (cY rfl z79 rfl (cV IS rfl rfl rfl)) rfl<|RS (fS (es:=([(r3,x3)]:Rs).map (eP (eI .i64) (eI .i64))) yN rfl (gD yN z79 rfl rfl) rfl rfl) gn rfl fun b8=>?_;obtain⟨h41,hF⟩:=al hF;refine RS (gO (k:=2) (k2:=0) (xs:=(l7:Rs)) (ys:=([(r3,x3)]:Rs)) (yL (jh .i64) (jh .i64)) yN ⟨_,sQ⟩ rfl rfl rfl (.arr _ _ _ _ _) h41) gn rfl fun a11=>?_;refine RG (ai rfl) rfl<|RJ<|R3 ?_;cases hF;exact RM a11 rfl (sc rfl (sc rfl (sc rfl (sc rfl (sc rfl sn))))) (ae.trans (ae.close (k:=3) rfl) (ae.ab [1,2,3] rfl rfl))
 refine RV rfl h17<|RN<|R3 ?_;cases hF;exact RM a2 rfl (sc rfl (sc rfl (sc rfl (sc rfl (sc rfl sn))))) (ae.trans (ae.close (k:=2) rfl) (ae.ab [0,1,2] rfl rfl))
 rcases r5 with _|l8
 rintro g0;refine R0 ?_;cases hF;exact RM none rfl (sc rfl (sc rfl sn)) (ae.ab [] rfl rfl)
 rintro a4;refine RK<|RH<|RG (aj rfl rfl (aA _ _ _)) rfl<|RG (aa rfl) rfl<|RJ ?_;cases hF;exact RM a4 rfl (sc rfl (sc rfl (sc rfl (sc rfl (sc rfl sn))))) (ae.ab [0,1,2] rfl rfl)
 refine RV rfl h15<|R1<|R6 ?_;cases hF;exact RM a2 rfl (sc rfl sn) (ae.ab [1] rfl rfl)
 rcases r8 with _|l3
 rintro g1;refine R5<|R0 ?_;cases hF;exact RR (.tmp rfl (.tmp rfl .nil)) fun m' hm=>⟨(none,0),rfl,(ae.trans (ae.nil 2 rfl) (ae.ab [0] rfl rfl)) m' hm⟩
 rintro a1;refine R7<|RK<|RI<|RI<|RH<|RG (aa rfl) rfl<|RG (bz (k:=0) sQ rfl rfl (.inl rfl)) rfl<|RG (aj rfl rfl (aZ _ _ _)) rfl<|RJ<|RK ?_;rcases ah hF with⟨h18,hF⟩|⟨h18,hF⟩
 refine RT rfl h18<|RI<|RH<|RG (ai rfl) rfl<|RG (ai rfl) rfl<|RJ<|RK<|RO<|R0 ?_;cases hF;exact RR (.tmp rfl (.tmp rfl .nil)) fun m' hm=>⟨(none,0),rfl,(ae.trans (ae.nil 2 rfl) (ae.ab [0] rfl rfl)) m' hm⟩
 refine RV rfl h18<|RN<|RK<|RI<|RH<|RG (aa rfl) rfl<|RG (ai rfl) rfl<|RG (ai rfl) rfl<|RJ<|RK<|RO ?_;cases hF;exact RR (.tmp rfl (.tmp rfl .nil)) fun m' hm=>⟨(a1,l3.length),rfl,(ae.ab [0] rfl rfl) m' hm⟩
def K3(n:Nat)(x1:Int)(x2:Int)(x3:Int)(x4:Int)  (r:Rs×Int)(hF:Mu n x1 x2 x3 x4=some r)(m:Sr)  :
  aK aG 65 [.agg #[.int .i64 x1,.int .i64 x2],.agg #[.int .i64 x3,.int .i64 x4]] m (fun v m'=>∃x:Rv×Nat,v=.tuple #[.slice x.1 x.2 x.2,.int .i64 r.2]/\Hp m m' [.sl x.1 2 x.2 (r.1.map (eP (eI .i64) (eI .i64)))]):=by
 unfold Mu at hF;refine aC (m0:=m) (ps:=[]) (N:=51) (rs:=[.tmp 4,.tmp 5]) rfl Tryz.func65 rfl rfl rfl (RZ m)<|RI<|RH<|RS (bQ rfl) gn rfl fun b5=>?_;refine RS (bQ rfl) gn rfl fun b6=>?_;refine RG (ai rfl) rfl<|RG (ai rfl) rfl<|RJ<|RK<|RI<|RI<|RH<|RG (az (r:=ptr b5 0) rfl (bj _ _)) rfl<|RG (aw (k:=1) bw rfl rfl rfl) rfl<|RG (az (r:=ptr b5 1) rfl (bm _ _)) rfl<|RG (aw (k:=1) bw rfl rfl rfl) rfl<|RG (az (r:=ptr b6 0) rfl (bj _ _)) rfl<|RG (aw (k:=0) bw rfl rfl rfl) rfl<|RG (az (r:=ptr b6 1) rfl (bm _ _)) rfl<|RG (aw (k:=0) bw rfl rfl rfl) rfl ?_;refine RG (cY rfl z55 rfl (cV Oz rfl rfl rfl)) rfl<|RG (aa rfl) rfl<|RJ<|RK<|RP ?_;obtain⟨r49,h48,hF⟩:=J hF;refine RY (G:=(fun(r:SC⊕SC) (g:SC)=>match r,g with|.inl _,_=>⟨.ret,[(4,.slice none 0 0),(5,.int .i64 2)],[]⟩|.inr _,_=>⟨(.exit 0),[(2,ptr b5 0),(3,ptr b6 0)],[.obj b5 (.cells [.int .i64 x1,.int .i64 x2] .own),.obj b6 (.cells [.int .i64 x3,.int .i64 x4] .own)]⟩) r49) ?_ ?_
 ·refine R8 (fs':=[(2,ptr b5 0),(3,ptr b6 0),(18,.agg #[.int .i64 x1,.int .i64 x2,.int .i64 x3,.int .i64 x4]),(19,.int .i64 0)]) (ps':=[.obj b5 (.cells [.int .i64 x1,.int .i64 x2] .own),.obj b6 (.cells [.int .i64 x3,.int .i64 x4] .own)]) (sc rfl (sc rfl (sc rfl (sc rfl sn)))) (ae.ab [1,0] rfl rfl) ?_;refine R2 (σ:=Int) (ρ:=(SC)⊕SC) (γ:=SC) (δ:=fun _=>SC) _ (fun(s:Int) (g:SC)=>match s,g with|v8,_=>⟨.normal,[(2,ptr b5 0),(3,ptr b6 0),(18,.agg #[.int .i64 x1,.int .i64 x2,.int .i64 x3,.int .i64 x4]),(19,.int .i64 v8)],[.obj b5 (.cells [.int .i64 x1,.int .i64 x2] .own),.obj b6 (.cells [.int .i64 x3,.int .i64 x4] .own)]⟩) (fun(r:SC⊕SC) (g:SC)=>match r,g with|.inl _,_=>⟨.ret,[(4,.slice none 0 0),(5,.int .i64 2)],[]⟩|.inr _,_=>⟨(.exit 0),[(2,ptr b5 0),(3,ptr b6 0)],[.obj b5 (.cells [.int .i64 x1,.int .i64 x2] .own),.obj b6 (.cells [.int .i64 x3,.int .i64 x4] .own)]⟩) ?_ (fun _ _=>rfl) (fun r d=>by rcases r with _|_<;>(intro e; cases e)) _ _ _ h48 ()
  clear hF h48;rintro v8 ⟨⟩ r hF;unfold xc at hF;refine RI<|RH<|RG (aj rfl rfl (aF _ _ _)) rfl<|RJ<|RK<|RI ?_;rcases ah hF with⟨h29,hF⟩|⟨h29,hF⟩
  ·refine RT rfl h29<|RN<|RK<|RI<|RP<|RI<|RH ?_;obtain⟨h40,hF⟩:=al hF;obtain⟨x39,h41,hF⟩:=J hF;refine RS (DA (α:=SC) (V:=fun g=>match g with|_=>.int .i64 x39) (N:=fun g=>match g with|_=>[]++[.obj b5 (.cells [.int .i64 x1,.int .i64 x2] .own),.obj b6 (.cells [.int .i64 x3,.int .i64 x4] .own)]) rfl rfl (fun m hm=>?_)) gn rfl ?_
   ·have hj:=au h40;obtain⟨j,hj2⟩:∃j:Nat,(v8:Int)=j:=⟨_,(Qn hj.1).symm⟩;rw[hj2] at h41 hj ⊢;rw[Pg] at h41 hj;replace hj:=hj.2;clear hF hj2
    match j,hj,h41 with
    | 0,_,h41=>cases h41; exact⟨(),pI Hj (i:=0) (by decide) (j6 bw rfl),hm⟩
    | 1,_,h41=>cases h41; exact⟨(),pI Hj (i:=1) (by decide) (j6 bw rfl),hm⟩
    | 2,_,h41=>cases h41; exact⟨(),pI Hj (i:=2) (by decide) (j6 bw rfl),hm⟩
    | 3,_,h41=>cases h41; exact⟨(),pI Hj (i:=3) (by decide) (j6 bw rfl),hm⟩
    | _+4,hj,_=>exact Pz hj (by omega)
   rintro⟨⟩;refine RG (ai rfl) rfl<|RJ<|RK<|RI ?_;obtain⟨v43,h45,hF⟩:=J hF;refine RY (G:=(fun(r:Bool) (g:SC)=>match r,g with|v43,_=>⟨.normal,[(2,ptr b5 0),(3,ptr b6 0),(18,.agg #[.int .i64 x1,.int .i64 x2,.int .i64 x3,.int .i64 x4]),(19,.int .i64 v8),(27,.bool v43)],[.obj b5 (.cells [.int .i64 x1,.int .i64 x2] .own),.obj b6 (.cells [.int .i64 x3,.int .i64 x4] .own)]⟩) v43) ?_ ?_
   clear hF;revert v43;intro r hF;refine RH<|RG (aa rfl) rfl<|RG (aj rfl rfl (aF _ _ _)) rfl<|RG (aa rfl) rfl ?_;rcases ah hF with⟨h44,hF⟩|⟨h44,hF⟩
   refine RQ (gg rfl rfl (cq h44)) rfl<|RQ (gg rfl rfl (cq h44)) rfl<|RG (cw rfl h44 rfl) rfl<|RJ ?_;cases hF;exact RM () rfl (sc rfl (sc rfl (sc rfl (sc rfl (sc rfl sn))))) (ae.ab [0,1] rfl rfl)
   refine RL (aa rfl) (gg rfl rfl (cb h44)) rfl<|RL (aj rfl rfl (aZ _ _ _)) (gg rfl rfl (cb h44)) rfl<|RG (cp rfl h44 rfl) rfl<|RJ ?_;cases hF;exact RM () rfl (sc rfl (sc rfl (sc rfl (sc rfl (sc rfl sn))))) (ae.ab [0,1] rfl rfl)
   rintro⟨⟩;refine RK ?_;rcases ah hF with⟨h47,hF⟩|⟨h47,hF⟩
   refine RT rfl h47<|RI<|RH<|RG (ai rfl) rfl<|RG (ai rfl) rfl<|RJ<|RK<|RO<|R5<|R0 ?_;cases hF;exact RM () rfl (sc rfl (sc rfl sn)) (ae.ab [] rfl rfl)
   refine RV rfl h47<|RN<|R3<|RK<|RH<|RG (aj rfl rfl (aA _ _ _)) rfl<|RG (aa rfl) rfl<|RJ ?_;cases hF;exact RM () rfl (sc rfl (sc rfl (sc rfl (sc rfl sn)))) (ae.ab [0,1] rfl rfl)
  refine RV rfl h29<|R1<|R6 ?_;cases hF;exact RM () rfl (sc rfl (sc rfl sn)) (ae.ab [0,1] rfl rfl)
 rcases r49 with _|_
 rintro⟨⟩;refine R5<|R0 ?_;cases hF;exact RR (.tmp rfl (.tmp rfl .nil)) fun m' hm=>⟨(none,0),rfl,(ae.trans (ae.nil 2 rfl) (ae.ab [0] rfl rfl)) m' hm⟩
 rintro⟨⟩;refine R7<|RK<|RI<|R9 (by kernel_rfl)<|RG (az (r:=ptr b5 0) rfl (bj _ _)) rfl<|RG (aw (k:=0) bw rfl rfl rfl) rfl<|RG (az (r:=ptr b6 0) rfl (bj _ _)) rfl<|RG (aw (k:=1) bw rfl rfl rfl) rfl<|RG (aj rfl rfl (aP _ _ _)) rfl<|RG (az (r:=ptr b5 1) rfl (bm _ _)) rfl<|RG (aw (k:=0) bw rfl rfl rfl) rfl<|RG (az (r:=ptr b6 1) rfl (bm _ _)) rfl<|RG (aw (k:=1) bw rfl rfl rfl) rfl ?_
 refine RG (aj rfl rfl (aP _ _ _)) rfl<|RG (ai rfl) rfl<|RG (ai rfl) rfl<|RJ<|RK<|RI<|RH<|RG (aa rfl) rfl<|RG (aa rfl) rfl ?_;obtain⟨y50,h51,hF⟩:=J hF;refine RG (aj rfl rfl ((bE _ _ _).trans (cI h51))) rfl<|RG (aa rfl) rfl<|RG (aa rfl) rfl ?_;obtain⟨y52,h53,hF⟩:=J hF;refine RG (aj rfl rfl ((bE _ _ _).trans (cI h53))) rfl<|RG (aj rfl rfl (aA _ _ _)) rfl<|RG (cY rfl z79 rfl (cV IS rfl rfl rfl)) rfl<|RS (fS (es:=([(1,RC (y50+y52))]:Rs).map (eP (eI .i64) (eI .i64))) A3 rfl (gD A3 z79 rfl rfl) rfl rfl) gn rfl fun b54=>?_;obtain⟨⟨l56,r59⟩,h55,hF⟩:=J hF;refine RS (bM rfl rfl (fun m hm=>Ep n ([(1,RC (y50+y52))]) (some ⟨b54,0,none⟩) 1 _ h55 m (hm.rd (k:=0) rfl (.arr _ _ _ _ _))) fun _=>rfl) gn rfl ?_;rintro⟨a57,n58⟩;refine Wo.len (k:=0) (xs:=l56) rfl ?_;rintro rfl;refine RG (cr rfl rfl) rfl<|RG (cr rfl rfl) rfl<|RG (ai rfl) rfl<|RG (ai rfl) rfl<|RJ<|RK<|RO ?_;cases hF;exact RR (.tmp rfl (.tmp rfl .nil)) fun m' hm=>⟨(a57,l56.length),rfl,(ae.ab [0] rfl rfl) m' hm⟩
def Eu(n:Nat)(l1:Rs)(a0:Rv)(c0:Nat)(r:Int)(hF:LQ n l1=some r)(m:Sr)(h9:Rd m a0 c0 2 l1.length (l1.map (eP (eI .i64) (eI .i64)))) :
  aK aG 88 [.slice a0 l1.length c0] m (Sq m (.int .i64 r)):=by
 unfold LQ at hF;refine aC (m0:=m) (ps:=[.rd a0 c0 2 l1.length (l1.map (eP (eI .i64) (eI .i64)))]) (N:=48) (rs:=[.tmp 2]) rfl Tryz.func88 rfl rfl rfl ((RZ m).oj rfl h9)<|RI<|RH<|RG (ai rfl) rfl<|RJ<|RK<|RI<|RI<|RH<|RG (aa rfl) rfl<|RG (bz (k:=0) sQ rfl rfl (.inl rfl)) rfl<|RG (aj rfl rfl (aZ _ _ _)) rfl<|RJ<|RK ?_;rcases ah hF with⟨h4,hF⟩|⟨h4,hF⟩
 refine RT rfl h4<|RI<|RH<|RG (ai rfl) rfl<|RJ<|RK<|RO<|R0 ?_;cases hF;exact RR (.tmp rfl .nil) fun m' hm=>⟨(),rfl,(ae.ab [] rfl rfl) m' hm⟩
 refine RV rfl h4<|RN<|RK<|RI<|RH<|RG (ai rfl) rfl<|RJ<|RK<|RI<|RI<|RH<|RG (aa rfl) rfl<|RG (bz (k:=0) sQ rfl rfl (.inl rfl)) rfl<|RG (aa rfl) rfl<|RJ<|RK<|RP ?_;obtain⟨r0,h5,hF⟩:=J hF;refine RY (G:=(fun(r:SC⊕SC) (g:SC)=>match r,g with|.inl _,_=>⟨.ret,[(2,.int .i64 30)],[]⟩|.inr _,_=>⟨(.exit 0),[],[]⟩) r0) ?_ ?_
 refine R8 (fs':=[(3,.int .i64 0),(11,.slice a0 l1.length c0),(12,.int .i64 (l1.length:Int)),(13,.int .i64 0)]) (ps':=[.rd a0 c0 2 l1.length (l1.map (eP (eI .i64) (eI .i64)))]) (sc rfl (sc rfl (sc rfl (sc rfl sn)))) (ae.ab [0] rfl rfl) ?_;refine R2 (σ:=Int×Int) (ρ:=(SC)⊕SC) (γ:=SC) (δ:=fun _=>SC) _ (fun(s:Int×Int) (g:SC)=>match s,g with |(v3,v2),_=>⟨.normal,[(3,.int .i64 v3),(11,.slice a0 l1.length c0),(12,.int .i64 (l1.length:Int)),(13,.int .i64 v2)],[.rd a0 c0 2 l1.length (l1.map (eP (eI .i64) (eI .i64)))]⟩) (fun(r:SC⊕SC) (g:SC)=>match r,g with|.inl _,_=>⟨.ret,[(2,.int .i64 30)],[]⟩|.inr _,_=>⟨(.exit 0),[],[]⟩) ?_ (fun _ _=>rfl) (fun r d=>by rcases r with _|_<;>(intro e; cases e)) _ _ _ h5 ()
 clear hF h5;rintro⟨v3,v2⟩ ⟨⟩ r hF;unfold th at hF;refine RI<|RH<|RG (aj rfl rfl (aF _ _ _)) rfl<|RJ<|RK<|RI ?_;rcases ah hF with⟨h6,hF⟩|⟨h6,hF⟩
 refine RT rfl h6<|RN<|RK<|RI<|RP<|RI<|RH ?_;obtain⟨h3,hF⟩:=al hF;replace h3:=au h3;refine Sa (k:=0) rfl (aW h3) ?_;rintro b3 o1 rfl;refine RL (bp yN rfl rfl h3) gn rfl ?_;obtain⟨⟨x3,x4⟩,h10,hF⟩:=J hF;refine RG (bC (k:=0) uG rfl rfl (aL h10) rfl rfl) rfl<|RS (cC z79 rfl) gn rfl fun b0=>?_;refine R4 (bJ (k:=0) uG rfl rfl rfl rfl rfl)<|RJ<|RK<|RI<|RI ?_;obtain⟨v1,h11,hF⟩:=J hF;refine RY (G:=(fun(r:Bool) (g:SC)=>match r,g with|v1,_=>⟨.normal,[(5,ptr b0 0),(11,.slice (some ⟨b3,o1,none⟩) l1.length c0),(12,.int .i64 (l1.length:Int)),(13,.int .i64 v2),(36,.bool v1)],[.obj b0 (.cells [.int .i64 x3,.int .i64 x4] .own),.ro b3 o1 2 l1.length (l1.map (eP (eI .i64) (eI .i64))),.rd (some ⟨b3,o1,none⟩) c0 2 l1.length (l1.map (eP (eI .i64) (eI .i64)))]⟩) v1) ?_ ?_
 clear hF;revert v1;intro r hF;refine RH<|RG (az (r:=ptr b0 1) rfl (ep _ _)) rfl<|RG (aw (k:=0) bw rfl rfl rfl) rfl<|RG (aa rfl) rfl<|RG (aj rfl rfl (eA _ _ _)) rfl<|RG (aa rfl) rfl ?_;rcases ah hF with⟨h1,hF⟩|⟨h1,hF⟩
 refine RQ (gg rfl rfl (cq h1)) rfl<|RQ (gg rfl rfl (cq h1)) rfl<|RQ (gg rfl rfl (cq h1)) rfl<|RG (cw rfl h1 rfl) rfl<|RG (aa rfl) rfl<|RQ (gg rfl rfl rfl) rfl<|RQ (gg rfl rfl rfl) rfl<|RQ (gg rfl rfl rfl) rfl<|RG (ir rfl rfl) rfl<|RG (aa rfl) rfl ?_;refine RQ (gg rfl rfl rfl) rfl<|RQ (gg rfl rfl rfl) rfl<|RQ (gg rfl rfl rfl) rfl<|RQ (gg rfl rfl rfl) rfl<|RG (ir rfl rfl) rfl<|RJ ?_;cases hF;exact RM () rfl (sc rfl (sc rfl (sc rfl (sc rfl (sc rfl sn))))) (ae.ab [0,1,2] rfl rfl)
 refine RL (az (r:=ptr b0 1) rfl (ep _ _)) (gg rfl rfl (cb h1)) rfl<|RL (aw (k:=0) bw rfl rfl rfl) (gg rfl rfl (cb h1)) rfl<|RL (aj rfl rfl (aZ _ _ _)) (gg rfl rfl (cb h1)) rfl<|RG (cp rfl h1 rfl) rfl<|RG (aa rfl) rfl ?_;rcases ah hF with⟨h2,hF⟩|⟨h2,hF⟩
 refine RQ (gg rfl rfl (cq h2)) rfl<|RQ (gg rfl rfl (cq h2)) rfl<|RQ (gg rfl rfl (cq h2)) rfl<|RG (cw rfl h2 rfl) rfl<|RG (aa rfl) rfl<|RQ (gg rfl rfl rfl) rfl<|RQ (gg rfl rfl rfl) rfl<|RQ (gg rfl rfl rfl) rfl<|RQ (gg rfl rfl rfl) rfl<|RG (ir rfl rfl) rfl ?_;refine RJ ?_;cases hF;exact RM () rfl (sc rfl (sc rfl (sc rfl (sc rfl (sc rfl sn))))) (ae.ab [0,1,2] rfl rfl)
 refine RL (az (r:=ptr b0 0) rfl (jH _ _)) (gg rfl rfl (cb h2)) rfl<|RL (aw (k:=0) bw rfl rfl rfl) (gg rfl rfl (cb h2)) rfl<|RL (aj rfl rfl (bW _ _ _)) (gg rfl rfl (cb h2)) rfl<|RG (cp rfl h2 rfl) rfl<|RG (aa rfl) rfl ?_;rcases ah hF with⟨h0,hF⟩|⟨h0,hF⟩
 refine RQ (gg rfl rfl (cq h0)) rfl<|RQ (gg rfl rfl (cq h0)) rfl<|RQ (gg rfl rfl (cq h0)) rfl<|RQ (gg rfl rfl (cq h0)) rfl<|RG (cw rfl h0 rfl) rfl<|RJ ?_;cases hF;exact RM () rfl (sc rfl (sc rfl (sc rfl (sc rfl (sc rfl sn))))) (ae.ab [0,1,2] rfl rfl)
 refine RL (az (r:=ptr b0 0) rfl (jH _ _)) (gg rfl rfl (cb h0)) rfl<|RL (aw (k:=0) bw rfl rfl rfl) (gg rfl rfl (cb h0)) rfl ?_;obtain⟨r1,h12,hF⟩:=J hF;refine RS (bM rfl rfl (fun m hm=>vH n x3  _ h12 m) fun _=>rfl) (gg rfl rfl (cb h0)) rfl ?_;rintro⟨⟩;refine RL (eG rfl rfl) (gg rfl rfl (cb h0)) rfl<|RG (cp rfl h0 rfl) rfl<|RJ ?_;cases hF;exact RM () rfl (sc rfl (sc rfl (sc rfl (sc rfl (sc rfl sn))))) (ae.ab [0,1,2] rfl rfl)
 rintro⟨⟩;refine RK ?_;rcases ah hF with⟨h7,hF⟩|⟨h7,hF⟩
 refine RT rfl h7<|RI<|RH<|RG (ai rfl) rfl<|RJ<|RK<|RO<|R0<|R5<|R0 ?_;cases hF;exact RM () rfl (sc rfl sn) (ae.ab [] rfl rfl)
 refine RV rfl h7<|RN<|RK<|RI<|RI<|RH<|RG (az (r:=ptr b0 1) rfl (ep _ _)) rfl<|RG (aw (k:=0) bw rfl rfl rfl) rfl ?_;obtain⟨⟨r3,r4⟩,h13,hF⟩:=J hF;refine RS (bM rfl rfl (fun m hm=>Bw n x4  _ h13 m) fun _=>rfl) gn rfl ?_;rintro⟨⟩;refine RG (aa rfl) rfl<|RG (cr rfl rfl) rfl<|RG (cr rfl rfl) rfl<|RG (ai rfl) rfl<|RG (ai rfl) rfl<|RJ<|RK<|RI<|RH<|RG (aa rfl) rfl<|RG (aj rfl rfl (aZ _ _ _)) rfl<|RJ<|RK ?_;rcases ah hF with⟨h8,hF⟩|⟨h8,hF⟩
 refine RT rfl h8<|RI<|RH<|RG (ai rfl) rfl<|RJ<|RK<|RO<|R0<|R5<|R0 ?_;cases hF;exact RM () rfl (sc rfl sn) (ae.ab [] rfl rfl)
 refine RV rfl h8<|RN<|RK<|RH<|RG (az (r:=ptr b0 1) rfl (ep _ _)) rfl<|RG (aw (k:=0) bw rfl rfl rfl) rfl<|RG (ai rfl) rfl<|RJ<|R3<|RK<|RH<|RG (aj rfl rfl (aA _ _ _)) rfl<|RG (aa rfl) rfl<|RJ ?_;cases hF;exact RM () rfl (sc rfl (sc rfl (sc rfl (sc rfl sn)))) (ae.ab [2] rfl rfl)
 refine RV rfl h6<|R1<|R6 ?_;cases hF;exact RM () rfl sn (ae.ab [] rfl rfl)
 rcases r0 with _|_
 rintro⟨⟩;refine R5<|R0 ?_;cases hF;exact RR (.tmp rfl .nil) fun m' hm=>⟨(),rfl,(ae.ab [] rfl rfl) m' hm⟩
 rintro⟨⟩;refine R7<|RK<|RI<|RH<|RG (ai rfl) rfl<|RJ<|RK<|RO ?_;cases hF;exact RR (.tmp rfl .nil) fun m' hm=>⟨(),rfl,(ae.ab [] rfl rfl) m' hm⟩
def KH (n:Nat) (l1:Rs) (l5:Rs) (a0:Rv) (c0:Nat) (a1:Rv) (c1:Nat) (r:Rs × Int) (hF:MN n l1 l5=some r) (m:Sr) (h15:Rd m a0 c0 2 l1.length (l1.map (eP (eI .i64) (eI .i64)))) (h16:Rd m a1 c1 2 l5.length (l5.map (eP (eI .i64) (eI .i64)))) :
  aK aG 66 [.slice a0 l1.length c0,.slice a1 l5.length c1] m (fun v m'=>∃x:Rv×Nat,v=.tuple #[.slice x.1 x.2 x.2,.int .i64 r.2]/\Hp m m' [.sl x.1 2 x.2 (r.1.map (eP (eI .i64) (eI .i64)))]):=by
 unfold MN at hF;refine aC (m0:=m) (ps:=[.rd a1 c1 2 l5.length (l5.map (eP (eI .i64) (eI .i64))),.rd a0 c0 2 l1.length (l1.map (eP (eI .i64) (eI .i64)))]) (N:=21) (rs:=[.tmp 4,.tmp 5]) rfl Tryz.func66 rfl rfl rfl (((RZ m).oj rfl h15).oj rfl h16)<|RI<|RH<|RG (ai rfl) rfl<|RG (ai rfl) rfl<|RJ<|RK<|RI<|RI ?_;obtain⟨v1,h17,hF⟩:=J hF;refine RY (G:=(fun(r:Bool) (g:SC)=>match r,g with|v1,_=>⟨.normal,[(0,.slice a0 l1.length c0),(1,.slice a1 l5.length c1),(13,.bool v1)],[.rd a0 c0 2 l1.length (l1.map (eP (eI .i64) (eI .i64))),.rd a1 c1 2 l5.length (l5.map (eP (eI .i64) (eI .i64)))]⟩) v1) ?_ ?_
 clear hF;revert v1;intro r hF;refine RH<|RG (aa rfl) rfl ?_;obtain⟨r0,h18,hF⟩:=J hF;refine RS (bM rfl rfl (fun m hm=>Eu n l1 a0 c0 _ h18 m (hm.rd (k:=1) rfl (.rd _ _ _ _ _))) fun _=>rfl) gn rfl ?_;rintro⟨⟩;refine RG (aj rfl rfl (cB _ _)) rfl<|RG (aa rfl) rfl ?_;rcases ah hF with⟨h0,hF⟩|⟨h0,hF⟩
 refine RQ (gg rfl rfl (cq h0)) rfl<|RQ (gg rfl rfl (cq h0)) rfl<|RQ (gg rfl rfl (cq h0)) rfl<|RG (cw rfl h0 rfl) rfl<|RJ ?_;cases hF;exact RM () rfl (sc rfl (sc rfl (sc rfl sn))) (ae.ab [1,0] rfl rfl)
 refine RL (aa rfl) (gg rfl rfl (cb h0)) rfl ?_;obtain⟨r1,h19,hF⟩:=J hF;refine RS (bM rfl rfl (fun m hm=>Eu n l5 a1 c1 _ h19 m (hm.rd (k:=0) rfl (.rd _ _ _ _ _))) fun _=>rfl) (gg rfl rfl (cb h0)) rfl ?_;rintro⟨⟩;refine RL (aj rfl rfl (cB _ _)) (gg rfl rfl (cb h0)) rfl<|RG (cp rfl h0 rfl) rfl<|RJ ?_;cases hF;exact RM () rfl (sc rfl (sc rfl (sc rfl sn))) (ae.ab [1,0] rfl rfl)
 ·clear h17;rintro⟨⟩;refine RK ?_;rcases ah hF with⟨h7,hF⟩|⟨h7,hF⟩
  refine RT rfl h7<|RI<|RH<|RG (ai rfl) rfl<|RG (ai rfl) rfl<|RJ<|RK<|RO<|R0 ?_;cases hF;exact RR (.tmp rfl (.tmp rfl .nil)) fun m' hm=>⟨(none,0),rfl,(ae.trans (ae.nil 2 rfl) (ae.ab [0] rfl rfl)) m' hm⟩
  ·refine RV rfl h7<|RN<|RK<|RI<|RH<|RG (aa rfl) rfl<|RG (aa rfl) rfl<|RS (MV (es:=[[.slice a0 l1.length c0],[.slice a1 l5.length c1]]) Ci rfl (gD Ci z63 rfl rfl) rfl rfl) gn rfl fun b0=>?_;obtain⟨l3,h20,hF⟩:=J hF;refine RS (pB (α:=Rv×Nat) (V:=fun g=>(fun(r:Rs) (g:Rv×Nat)=>match r,g with|l3,(a2,c2)=>(.slice a2 l3.length c2:Rx)) l3 g) (N:=fun g=>(fun(r:Rs) (g:Rv×Nat)=>match r,g with|l3,(a2,c2)=>([.gen (tO a2 c2 2 l3.length (l3.map (eP (eI .i64) (eI .i64))))]:SB Pc)) l3 g) rfl rfl (fun m hm=>?_)) gn rfl ?_
   ·clear hF;revert l3;intro r hF;refine aC (N:=36) (rs:=[.tmp 2]) rfl Tryz.func89 rfl rfl rfl hm<|RI<|RH<|RG (ai rfl) rfl<|RJ<|RK<|RI<|RH<|RG (ai rfl) rfl<|RJ<|RK<|RI<|RI<|RH<|RG (aa rfl) rfl<|RG (bz (k:=0) Nb rfl rfl (.inl rfl)) rfl<|RG (aa rfl) rfl<|RJ<|RK<|RP<|Wk.Jf<|Wl.round<|RI<|RH<|RG (aj (r:=.bool true) rfl rfl ((aF _ _ _).trans rfl)) rfl<|RJ<|RK<|RI<|RT rfl rfl ?_;refine RN<|RK<|RI<|RP<|RI<|RH ?_;obtain⟨h5,hF⟩:=al hF;replace h5:=au h5;refine Sg (ae.OY (k:=0) (es:=[[.slice a0 l1.length c0],[.slice a1 l5.length c1]]) (w:=1) (n:=2) rfl rfl rfl rfl rfl)<|Sf (k:=0) rfl (aW h5) ?_;rintro _ t3 ⟨⟩ h30;refine RL (cF Ci rfl rfl h5) gn rfl ?_;obtain⟨l8,h1,hF⟩:=J hF;refine RS (mM (β:=Rv×Nat) (V:=fun g=>match g with |(a3,c3)=>.slice a3 l8.length c3) (N:=fun g=>match g with |(a3,c3)=>[.rd a3 c3 2 l8.length (l8.map (eP (eI .i64) (eI .i64)))]++[.arr b0 1 2 [[.slice a0 l1.length c0],[.slice a1 l5.length c1]] t3,.rd a0 c0 2 l1.length (l1.map (eP (eI .i64) (eI .i64))),.rd a1 c1 2 l5.length (l5.map (eP (eI .i64) (eI .i64)))]) rfl (fun m hm=>Pc.eH (hm.get (k:=0) rfl) (.inl rfl)) (fun m hm=>?_)) gn rfl ?_
    ·clear hF;unfold RD at h1;generalize(0:Int).toNat=j at h1 ⊢
     match j,h1 with
     | 0,h1=>cases h1; exact⟨(a0,c0),yw (k:=0) (j:=0) hm jY rfl rfl rfl rfl,(Hp.dup hm (k:=1) rfl)⟩
     | 1,h1=>cases h1; exact⟨(a1,c1),yw (k:=0) (j:=1) hm jY rfl rfl rfl rfl,(Hp.dup hm (k:=2) rfl)⟩
     | _+2,h1=>cases h1
    rintro⟨a3,c3⟩;refine RG (ai rfl) rfl<|RJ<|RK<|RI<|RH<|RG (aa rfl) rfl<|RG (aa rfl) rfl<|RG (bz (k:=0) sQ rfl rfl (.inl rfl)) rfl<|RG (aj rfl rfl (aA _ _ _)) rfl<|RG (ai rfl) rfl<|RJ<|RK<|RI<|RH<|RG (aa rfl) rfl<|RG (aj rfl rfl (aF _ _ _)) rfl<|RJ<|RK ?_;rcases ah hF with⟨h8,hF⟩|⟨h8,hF⟩
    refine RT rfl h8 ?_;cases hF
    ·refine RV rfl h8<|RN<|R3<|RK<|RH<|RG (aj (r:=.int .i64 1) rfl rfl ((aA _ _ _).trans rfl)) rfl<|RG (aa rfl) rfl<|RJ<|At.tl<|Wl.round<|RI<|RH<|RG (aj (r:=.bool true) rfl rfl ((aF _ _ _).trans rfl)) rfl<|RJ<|RK<|RI<|RT rfl rfl<|RN<|RK<|RI<|RP<|RI<|RH ?_;obtain⟨h9,hF⟩:=al hF;replace h9:=au h9;refine RL (cF Ci rfl rfl h9) gn rfl ?_;obtain⟨l10,h2,hF⟩:=J hF;refine RS (mM (β:=Rv×Nat) (V:=fun g=>match g with |(a6,c6)=>.slice a6 l10.length c6) (N:=fun g=>match g with |(a6,c6)=>[.rd a6 c6 2 l10.length (l10.map (eP (eI .i64) (eI .i64)))]++[.rd a3 c3 2 l8.length (l8.map (eP (eI .i64) (eI .i64))),.arr b0 1 2 [[.slice a0 l1.length c0],[.slice a1 l5.length c1]] t3,.rd a0 c0 2 l1.length (l1.map (eP (eI .i64) (eI .i64))),.rd a1 c1 2 l5.length (l5.map (eP (eI .i64) (eI .i64)))]) rfl (fun m hm=>Pc.eH (hm.get (k:=1) rfl) (.inl rfl)) (fun m hm=>?_)) gn rfl ?_
     ·clear hF;generalize(1:Int).toNat=j at h2 ⊢
      match j,h2 with
      | 0,h2=>cases h2; exact⟨(a0,c0),yw (k:=1) (j:=0) hm jY rfl rfl rfl rfl,(Hp.dup hm (k:=2) rfl)⟩
      | 1,h2=>cases h2; exact⟨(a1,c1),yw (k:=1) (j:=1) hm jY rfl rfl rfl rfl,(Hp.dup hm (k:=3) rfl)⟩
      | _+2,h2=>cases h2
     rintro⟨a6,c6⟩;refine RG (ai rfl) rfl<|RJ<|RK<|RI<|RH<|RG (aa rfl) rfl<|RG (aa rfl) rfl<|RG (bz (k:=0) sQ rfl rfl (.inl rfl)) rfl ?_;obtain⟨y0,h21,hF⟩:=J hF;refine RG (aj rfl rfl ((aA _ _ _).trans (cI h21))) rfl<|RG (ai rfl) rfl<|RJ<|RK<|RI<|RH<|RG (aa rfl) rfl<|RG (aj rfl rfl (aF _ _ _)) rfl<|RJ<|RK ?_;rcases ah hF with⟨h6,hF⟩|⟨h6,hF⟩
     refine RT rfl h6 ?_;cases hF
     ·refine RV rfl h6<|RN<|R3<|RK<|RH<|RG (aj (r:=.int .i64 2) rfl rfl ((aA _ _ _).trans rfl)) rfl<|RG (aa rfl) rfl<|RJ<|At.tl<|Wl.round<|RI<|RH<|RG (aj (r:=.bool false) rfl rfl ((aF _ _ _).trans rfl)) rfl<|RJ<|RK<|RI<|RV rfl rfl<|R1<|R6<|R6<|R7<|RK<|RI<|RH<|RG (aa rfl) rfl ?_;obtain⟨l2,h22,hF⟩:=J hF;refine RS (pB (α:=Rv×Nat) (V:=fun g=>(fun(r:Rs) (g:Rv×Nat)=>match r,g with|l2,(a4,c4)=>(.slice a4 l2.length c4:Rx)) l2 g) (N:=fun g=>(fun(r:Rs) (g:Rv×Nat)=>match r,g with|l2,(a4,c4)=>([.gen (tO a4 c4 2 l2.length (l2.map (eP (eI .i64) (eI .i64)))),.arr b0 1 2 [[.slice a0 l1.length c0],[.slice a1 l5.length c1]] t3,.rd a0 c0 2 l1.length (l1.map (eP (eI .i64) (eI .i64))),.rd a1 c1 2 l5.length (l5.map (eP (eI .i64) (eI .i64)))]:SB Pc)) l2 g) rfl rfl (fun m hm=>?_)) gn rfl ?_
      clear hF;revert l2;intro r hF;refine aC (N:=27) (rs:=[.tmp 4]) rfl Tryz.func114 rfl rfl rfl hm<|RI<|RH<|RG (ai rfl) rfl<|RJ<|RK<|RI<|RI<|RH<|RG (aa rfl) rfl<|RG (aj rfl rfl (aF _ _ _)) rfl<|RJ<|RK<|RV rfl h6<|RN<|RK<|RI ?_;obtain⟨l7,h23,hF⟩:=J hF;refine RY (G:=(fun(r:Rs) (g:Rv×Nat)=>match r,g with|l7,(a7,c7)=>⟨.normal,[(0,.slice a7 l7.length c7)],[.gen (tO a7 c7 2 l7.length (l7.map (eP (eI .i64) (eI .i64)))),.arr b0 1 2 [[.slice a0 l1.length c0],[.slice a1 l5.length c1]] t3,.rd a0 c0 2 l1.length (l1.map (eP (eI .i64) (eI .i64))),.rd a1 c1 2 l5.length (l5.map (eP (eI .i64) (eI .i64)))]⟩) l7) ?_ ?_
      clear hF;revert l7;intro r hF;refine RI<|RH<|RG (aa rfl) rfl<|RG (aa rfl) rfl<|RG (Jq sQ rfl) rfl<|RG (aa rfl) rfl<|RG (bz (k:=0) sQ rfl rfl (.inr rfl)) rfl<|RG (aj (r:=.int .i64 0) rfl rfl ((aP _ _ _).trans rfl)) rfl<|RG (aj rfl rfl (aP _ _ _)) rfl<|RG (ai rfl) rfl<|RJ<|RK<|RI<|RH<|RG (aa rfl) rfl<|RG (aj rfl rfl (aZ _ _ _)) rfl ?_;refine RJ<|RK ?_;rcases ah hF with⟨h10,hF⟩|⟨h10,hF⟩
      refine RT rfl h10<|RH<|RG (aa rfl) rfl<|RG (aa rfl) rfl<|RG (Jq sQ rfl) rfl<|RG (Ny yN rfl rfl (.inr ⟨_,rfl⟩)) rfl<|RG (aa rfl) rfl ?_;obtain⟨h24,hF⟩:=al hF;obtain⟨h25,hF⟩:=al hF;refine RS (KW (g:=eP (eI .i64) (eI .i64)) (z0:=((0,0):Int×Int)) yN u3 rfl h24 h25 z79 rfl rfl) gn rfl fun b3=>?_;refine RG (aa rfl) rfl<|RG (bz (k:=0) sQ rfl rfl (.inr rfl)) rfl ?_;obtain⟨h26,hF⟩:=al hF;obtain⟨h11,hF⟩:=al hF;replace h11:=of_decide_eq_true h11;obtain⟨l12,h12,hF⟩:=J hF;replace h12:=Pf h12;refine Sg (ae.close (k:=0) rfl)<|Sg (ae.OF (k:=0) rfl)<|RL (Na (k:=0) (hi:=0) yN rfl rfl rfl h26 h11 h12) gn rfl<|RG (ai rfl) rfl<|RJ ?_;have hr:=Pf hF;subst r;exact RM ((some ⟨b3,0,none⟩),(RC (y0-0)).toNat) rfl (sc rfl sn) (ae.ab [0,3,4,5] rfl rfl)
      refine RV rfl h10<|RN ?_;cases hF;exact RM (none,0) rfl (sc rfl sn) (ae.trans (ae.nil 2 rfl) (ae.trans (ae.OF (k:=0) rfl) (ae.ab [0,3,4,5] rfl rfl)))
      rintro⟨a7,c7⟩;refine RK<|RI<|RH<|RG (aa rfl) rfl<|RG (ai rfl) rfl<|RJ<|RK<|RO ?_;have hr:=Pf hF;subst r;exact RR (.tmp rfl .nil) fun m' hm=>⟨(a7,c7),rfl,(ae.ab [0,1,2,3] rfl rfl) m' hm⟩
      ·clear h22;rintro⟨a4,c4⟩;refine RG (ai rfl) rfl<|RJ<|RK<|RI<|RI<|RH<|RG (aa rfl) rfl<|RG (bz (k:=1) Nb rfl rfl (.inl rfl)) rfl<|RG (aa rfl) rfl<|RJ<|RK<|RP<|Wk.Jf<|Wl.round<|RI<|RH<|RG (aj (r:=.bool true) rfl rfl ((aF _ _ _).trans rfl)) rfl<|RJ<|RK<|RI<|RT rfl rfl<|RN<|RK<|RI<|RP<|RI<|RH ?_;obtain⟨h13,hF⟩:=al hF;replace h13:=au h13;refine RL (cF Ci rfl rfl h13) gn rfl ?_;obtain⟨l4,h3,hF⟩:=J hF;refine RS (mM (β:=Rv×Nat) (V:=fun g=>match g with |(a5,c5)=>.slice a5 l4.length c5) (N:=fun g=>match g with |(a5,c5)=>[.rd a5 c5 2 l4.length (l4.map (eP (eI .i64) (eI .i64)))]++[.gen (tO a4 c4 2 l2.length (l2.map (eP (eI .i64) (eI .i64)))),.arr b0 1 2 [[.slice a0 l1.length c0],[.slice a1 l5.length c1]] t3,.rd a0 c0 2 l1.length (l1.map (eP (eI .i64) (eI .i64))),.rd a1 c1 2 l5.length (l5.map (eP (eI .i64) (eI .i64)))]) rfl (fun m hm=>Pc.eH (hm.get (k:=1) rfl) (.inl rfl)) (fun m hm=>?_)) gn rfl ?_
       ·clear hF;unfold RD at h3;generalize(0:Int).toNat=j at h3 ⊢
        match j,h3 with
        | 0,h3=>cases h3; exact⟨(a0,c0),yw (k:=1) (j:=0) hm jY rfl rfl rfl rfl,(Hp.dup hm (k:=2) rfl)⟩
        | 1,h3=>cases h3; exact⟨(a1,c1),yw (k:=1) (j:=1) hm jY rfl rfl rfl rfl,(Hp.dup hm (k:=3) rfl)⟩
        | _+2,h3=>cases h3
       rintro⟨a5,c5⟩;refine RG (ai rfl) rfl<|RJ<|RK<|RH<|RG (aa rfl) rfl<|RG (aa rfl) rfl ?_;obtain⟨h27,hF⟩:=al hF;refine RS (JF (k:=1) (xs:=(l2:Rs)) (ys:=(l4:Rs)) (yL (jh .i64) (jh .i64)) yN ⟨_,sQ⟩ rfl rfl (fun m hm=>hm.rd (k:=0) rfl (.rd _ _ _ _ _)) h27) gn rfl ?_;rintro⟨a9,c9⟩;refine RG (ai rfl) rfl<|RJ<|R3<|RK<|RH<|RG (aj (r:=.int .i64 1) rfl rfl ((aA _ _ _).trans rfl)) rfl<|RG (aa rfl) rfl<|RJ<|At.tl<|Wl.round<|RI<|RH<|RG (aj (r:=.bool true) rfl rfl ((aF _ _ _).trans rfl)) rfl<|RJ<|RK<|RI<|RT rfl rfl<|RN<|RK<|RI<|RP<|RI<|RH ?_;obtain⟨h14,hF⟩:=al hF;replace h14:=au h14;refine RL (cF Ci rfl rfl h14) gn rfl ?_;obtain⟨l9,h4,hF⟩:=J hF;refine RS (mM (β:=Rv×Nat) (V:=fun g=>match g with |(a8,c8)=>.slice a8 l9.length c8) (N:=fun g=>match g with |(a8,c8)=>[.rd a8 c8 2 l9.length (l9.map (eP (eI .i64) (eI .i64)))]++[.rd a5 c5 2 l4.length (l4.map (eP (eI .i64) (eI .i64))),.gen (tO a9 c9 2 ((l2++l4).length) ((l2++l4).map (eP (eI .i64) (eI .i64)))),.arr b0 1 2 [[.slice a0 l1.length c0],[.slice a1 l5.length c1]] t3,.rd a0 c0 2 l1.length (l1.map (eP (eI .i64) (eI .i64))),.rd a1 c1 2 l5.length (l5.map (eP (eI .i64) (eI .i64)))]) rfl (fun m hm=>Pc.eH (hm.get (k:=2) rfl) (.inl rfl)) (fun m hm=>?_)) gn rfl ?_
       ·clear hF;generalize(1:Int).toNat=j at h4 ⊢
        match j,h4 with
        | 0,h4=>cases h4; exact⟨(a0,c0),yw (k:=2) (j:=0) hm jY rfl rfl rfl rfl,(Hp.dup hm (k:=3) rfl)⟩
        | 1,h4=>cases h4; exact⟨(a1,c1),yw (k:=2) (j:=1) hm jY rfl rfl rfl rfl,(Hp.dup hm (k:=4) rfl)⟩
        | _+2,h4=>cases h4
       rintro⟨a8,c8⟩;refine RG (ai rfl) rfl<|RJ<|RK<|RH<|RG (aa rfl) rfl<|RG (aa rfl) rfl ?_;obtain⟨h28,hF⟩:=al hF;refine RS (JF (k:=2) (xs:=((l2++l4):Rs)) (ys:=(l9:Rs)) (yL (jh .i64) (jh .i64)) yN ⟨_,sQ⟩ rfl rfl (fun m hm=>hm.rd (k:=0) rfl (.rd _ _ _ _ _)) h28) gn rfl ?_;rintro⟨a10,c10⟩;refine RG (ai rfl) rfl<|RJ<|R3<|RK<|RH<|RG (aj (r:=.int .i64 2) rfl rfl ((aA _ _ _).trans rfl)) rfl<|RG (aa rfl) rfl<|RJ<|At.tl<|Wl.round<|RI<|RH<|RG (aj (r:=.bool false) rfl rfl ((aF _ _ _).trans rfl)) rfl<|RJ<|RK<|RI<|RV rfl rfl<|R1<|R6<|R6<|R7<|RK<|RI<|RH<|RG (aa rfl) rfl<|RG (ai rfl) rfl ?_;refine RJ<|RK<|RO ?_;cases hF;exact RR (.tmp rfl .nil) fun m' hm=>⟨(a10,c10),rfl,(ae.ab [2] rfl rfl) m' hm⟩
   rintro⟨a2,c2⟩;obtain⟨⟨l11,r3⟩,h29,hF⟩:=J hF;refine Sg (ae.NQ (k:=0) rfl)<|RS (bM rfl rfl (fun m hm=>Ep n l3 a2 c2 _ h29 m (hm.rd (k:=0) rfl (.rd _ _ _ _ _))) fun _=>rfl) gn rfl ?_;rintro⟨a11,n1⟩;refine Wo.len (k:=0) (xs:=l11) rfl ?_;rintro rfl;refine RG (cr rfl rfl) rfl<|RG (cr rfl rfl) rfl<|RG (ai rfl) rfl<|RG (ai rfl) rfl<|RJ<|RK<|RO ?_;cases hF;exact RR (.tmp rfl (.tmp rfl .nil)) fun m' hm=>⟨(a11,l11.length),rfl,(ae.ab [0] rfl rfl) m' hm⟩
def JI(n:Nat)(l1:Rs)(a0:Rv)(c0:Nat)(r:Rs×Int)(hF:KG n l1=some r)(m:Sr)(h8:Rd m a0 c0 2 l1.length (l1.map (eP (eI .i64) (eI .i64)))) :
  aK aG 30 [.slice a0 l1.length c0] m (fun v m'=>∃x:Rv×Nat,v=.tuple #[.slice x.1 x.2 x.2,.int .i64 r.2]/\Hp m m' [.sl x.1 2 x.2 (r.1.map (eP (eI .i64) (eI .i64)))]):=by
 unfold KG at hF;refine aC (m0:=m) (ps:=[.rd a0 c0 2 l1.length (l1.map (eP (eI .i64) (eI .i64)))]) (N:=37) (rs:=[.cell 2 63,.cell 3 37]) rfl Tryz.func30 rfl rfl rfl ((RZ m).oj rfl h8)<|RI<|RH<|RS (cC z63 rfl) gn rfl fun b0=>?_;refine RS (cC z37 rfl) gn rfl fun b3=>?_;refine RJ<|RK<|RI<|RI<|RH<|RG (aa rfl) rfl ?_;obtain⟨r6,h9,hF⟩:=J hF;refine RS (bM rfl rfl (fun m hm=>Ku n l1 a0 c0 _ h9 m (hm.rd (k:=2) rfl (.rd _ _ _ _ _))) fun _=>rfl) gn rfl ?_;rintro⟨⟩;refine RG (ai rfl) rfl<|RJ<|RK<|RI<|RH<|RG (aa rfl) rfl<|RG (aj rfl rfl (cB _ _)) rfl<|RJ<|RK ?_;rcases ah hF with⟨h1,hF⟩|⟨h1,hF⟩
 refine RT rfl h1<|RI<|RH<|RG (aa rfl) rfl<|R4 (bJ (k:=1) jY rfl rfl rfl rfl rfl)<|R4 (bJ (k:=0) Aq rfl rfl rfl rfl rfl)<|RJ<|RK<|RO<|R0 ?_;cases hF;exact RR (.cell (k:=1) jY rfl rfl rfl (.cell (k:=0) Aq rfl rfl rfl .nil)) fun m' hm=>⟨(none,0),rfl,(ae.trans (ae.nil 2 rfl) (ae.ab [0] rfl rfl)) m' hm⟩
 refine RV rfl h1<|RN<|RK<|RI<|RI<|RH<|RG (aa rfl) rfl ?_;obtain⟨r4,h10,hF⟩:=J hF;refine RS (pB (α:=Nat) (V:=fun g=>(fun(r:SC) (g:Nat)=>match r,g with|_,b4=>(.func (.func 86) #[] #[ptr b4 0]:Rx)) r4 g) (N:=fun g=>(fun(r:SC) (g:Nat)=>match r,g with|_,b4=>([.obj b4 (.cells [.slice a0 l1.length c0] .own),.rd a0 c0 2 l1.length (l1.map (eP (eI .i64) (eI .i64))),.obj b0 (.cells [.slice none 0 0] .own),.obj b3 (.cells [.int .i64 0] .own)]:SB Pc)) r4 g) rfl rfl (fun m hm=>?_)) gn rfl ?_
 clear hF;revert r4;intro r hF;refine aC (N:=4) (rs:=[.tmp 2]) rfl Tryz.func63 rfl rfl rfl hm<|RI<|RH<|RS (bQ rfl) gn rfl fun b7=>?_;refine RG (ai rfl) rfl<|RJ<|RK<|RI<|RH<|RG (FH rfl rfl) rfl<|RG (ai rfl) rfl<|RJ<|RK<|RO ?_;cases hF;exact RR (.tmp rfl .nil) fun m' hm=>⟨b7,rfl,(ae.ab [0,3,2,1] rfl rfl) m' hm⟩
 rintro b4;refine RJ<|RK<|RP ?_;obtain⟨r1,h11,hF⟩:=J hF;refine Wk.range (N:=27) (rs:=[]) (γ:=Rv) (X:=fun g=>(fun(r:Int⊕Rs) (g:Rv)=>(match r,g with|.inl v3,_=>⟨.done,(some .ret),[.obj b0 (.cells [.slice none 0 0] .own),.obj b3 (.cells [.int .i64 v3] .own)]⟩|.inr l7,a3=>⟨.ready,none,[.obj b0 (.cells [.slice a3 l7.length l7.length] .own),.sl a3 2 l7.length (l7.map (eP (eI .i64) (eI .i64))),.obj b3 (.cells [.int .i64 0] .own)]⟩:Rn)) r1 g) rfl rfl Tryz.func86 rfl rfl rfl ?_ (fun y=>by rcases r1 with _|_<;>(intro e; cases e)) ?_
 clear hF;revert r1;intro r hF;intro t3 l2 r0 h12 h13;refine RI<|RH<|RG (aw (k:=1) gz rfl rfl rfl) rfl<|RG (bz (k:=2) kQ rfl rfl (.inl rfl)) rfl<|RG (aa rfl) rfl<|RJ<|RK<|RP ?_;obtain⟨r5,h2,hF⟩:=J hF;refine RY (G:=(fun(r:Int⊕Rs) (g:Rv)=>match r,g with|.inl v1,_=>⟨.ret,[],[.obj l2 (r0 .done (some .ret)),.obj b0 (.cells [.slice none 0 0] .own),.obj b3 (.cells [.int .i64 v1] .own)]⟩|.inr l4,a1=>⟨(.exit 0),[],[.obj l2 (r0 .ready none),.obj b0 (.cells [.slice a1 l4.length l4.length] .own),.sl a1 2 l4.length (l4.map (eP (eI .i64) (eI .i64))),.obj b3 (.cells [.int .i64 0] .own)]⟩) r5) ?_ ?_
 refine R8 (fs':=[(0,.func (.yield l2) #[] #[]),(1,ptr b4 0),(5,.slice a0 l1.length c0),(6,.int .i64 (l1.length:Int)),(7,.int .i64 0)]) (ps':=[.obj l2 (r0 .ready none),.obj b4 (.cells [.slice a0 l1.length c0] .own),.rd a0 c0 2 l1.length (l1.map (eP (eI .i64) (eI .i64))),.obj b0 (.cells [.slice none ([]:Rs).length ([]:Rs).length] .own),.sl none 2 ([]:Rs).length (([]:Rs).map (eP (eI .i64) (eI .i64))),.obj b3 (.cells [.int .i64 0] .own)]) (sc rfl (sc rfl (sc rfl (sc rfl (sc rfl sn))))) (ae.trans (ae.nil 2 rfl) (ae.ab [1,2,3,4,0,5] rfl rfl)) ?_;refine R2 (σ:=Int×Rs) (ρ:=(Int)⊕Rs) (γ:=Rv) (δ:=fun _=>Rv) _ (fun(s:Int×Rs) (g:Rv)=>match s,g with |(v2,l3),a2=>⟨.normal,[(0,.func (.yield l2) #[] #[]),(1,ptr b4 0),(5,.slice a0 l1.length c0),(6,.int .i64 (l1.length:Int)),(7,.int .i64 v2)],[.obj l2 (r0 .ready none),.obj b4 (.cells [.slice a0 l1.length c0] .own),.rd a0 c0 2 l1.length (l1.map (eP (eI .i64) (eI .i64))),.obj b0 (.cells [.slice a2 l3.length l3.length] .own),.sl a2 2 l3.length (l3.map (eP (eI .i64) (eI .i64))),.obj b3 (.cells [.int .i64 0] .own)]⟩) (fun(r:Int⊕Rs) (g:Rv)=>match r,g with|.inl v1,_=>⟨.ret,[],[.obj l2 (r0 .done (some .ret)),.obj b0 (.cells [.slice none 0 0] .own),.obj b3 (.cells [.int .i64 v1] .own)]⟩|.inr l4,a1=>⟨(.exit 0),[],[.obj l2 (r0 .ready none),.obj b0 (.cells [.slice a1 l4.length l4.length] .own),.sl a1 2 l4.length (l4.map (eP (eI .i64) (eI .i64))),.obj b3 (.cells [.int .i64 0] .own)]⟩) ?_ (fun _ _=>rfl) (fun r d=>by rcases r with _|_<;>(intro e; cases e)) _ _ _ h2 none
 clear hF h2;rintro⟨v2,l3⟩ a2 r hF;unfold tx at hF;refine RI<|RH<|RG (aj rfl rfl (aF _ _ _)) rfl<|RJ<|RK<|RI ?_;rcases ah hF with⟨h3,hF⟩|⟨h3,hF⟩
 refine RT rfl h3<|RN<|RK<|RI<|RP<|RI<|RH<|RG (aa rfl) rfl ?_;obtain⟨h0,hF⟩:=al hF;replace h0:=au h0;refine Sa (k:=2) rfl (aW h0) ?_;rintro b5 o1 rfl;refine RL (bp dX rfl rfl h0) gn rfl ?_;obtain⟨⟨x3,x4⟩,h14,hF⟩:=J hF;refine RG (bC (k:=0) aS rfl rfl (aL h14) rfl rfl) rfl<|RS (cC z33 rfl) gn rfl fun b9=>?_;refine RG (ai rfl) rfl<|R4 (bJ (k:=0) aS rfl rfl rfl rfl rfl)<|RJ<|RK<|RI<|R9 (by kernel_rfl)<|RG (aa rfl) rfl<|RG (aa rfl) rfl<|RG (aw (k:=0) aS rfl rfl rfl) rfl<|RG (aw (k:=3) gz rfl rfl rfl) rfl<|RG (aa rfl) rfl<|RG (aj rfl rfl (aA _ _ _)) rfl<|RG (aw (k:=3) gz rfl rfl rfl) rfl ?_
 refine RG (bz (k:=1) kQ rfl rfl (.inl rfl)) rfl ?_;obtain⟨h15,hF⟩:=al hF;refine RG (aj rfl rfl (dc _ _ h15)) rfl ?_;obtain⟨h4,hF⟩:=al hF;replace h4:=au h4;refine RL (bp dX rfl rfl h4) gn rfl ?_;obtain⟨⟨x10,x11⟩,h16,hF⟩:=J hF;refine RG (bC (k:=1) aS rfl rfl (aL h16) rfl rfl) rfl<|RG (cY rfl Gu rfl (cV F1 rfl rfl rfl)) rfl ?_;obtain⟨r3,h7,hF⟩:=J hF;refine RS (DJ (k:=2) (k1:=0) (γA:=Nat) (GA:=(fun g:Nat=>(match g with|b6=>⟨.normal,[(2,ptr b0 0),(3,ptr b3 0),(5,ptr b6 0)],[.obj l2 (r0 .ready none),.obj b0 (.cells [.slice a2 l3.length l3.length] .own),.sl a2 2 l3.length (l3.map (eP (eI .i64) (eI .i64))),.obj b3 (.cells [.int .i64 0] .own),.obj b6 (.cells [.int .i64 v2,.int .i64 x3,.int .i64 x4,.int .i64 x10,.int .i64 x11] .own),.obj b4 (.cells [.slice (some ⟨b5,o1,none⟩) l1.length c0] .own),.ro b5 o1 2 l1.length (l1.map (eP (eI .i64) (eI .i64))),.rd (some ⟨b5,o1,none⟩) c0 2 l1.length (l1.map (eP (eI .i64) (eI .i64)))]⟩:En))) (γ:=Rv) (G:=fun g=>(fun(r:Int⊕Rs) (g:Rv)=>(match r,g with|.inl v4,_=>⟨.ret,[],[.obj l2 (r0 .busy none),.obj b0 (.cells [.slice none 0 0] .own),.obj b3 (.cells [.int .i64 v4] .own),.obj b4 (.cells [.slice (some ⟨b5,o1,none⟩) l1.length c0] .own),.ro b5 o1 2 l1.length (l1.map (eP (eI .i64) (eI .i64))),.rd (some ⟨b5,o1,none⟩) c0 2 l1.length (l1.map (eP (eI .i64) (eI .i64)))]⟩|.inr l8,a4=>⟨.normal,[],[.obj l2 (r0 .busy none),.obj b0 (.cells [.slice a4 l8.length l8.length] .own),.sl a4 2 l8.length (l8.map (eP (eI .i64) (eI .i64))),.obj b3 (.cells [.int .i64 0] .own),.obj b4 (.cells [.slice (some ⟨b5,o1,none⟩) l1.length c0] .own),.ro b5 o1 2 l1.length (l1.map (eP (eI .i64) (eI .i64))),.rd (some ⟨b5,o1,none⟩) c0 2 l1.length (l1.map (eP (eI .i64) (eI .i64)))]⟩:En)) r3 g) rfl rfl rfl h13 h12 rfl ?_ (fun _=>rfl) (fun _=>rfl) ?_ (fun y=>by rcases r3 with _|_<;>rfl)) gn rfl ?_
 clear hF h7;refine RH<|RS (cC Gu rfl) gn rfl fun b8=>?_;refine R4 (bJ (k:=0) uJ rfl rfl rfl rfl rfl)<|RJ ?_;exact RM b8 rfl (sc rfl (sc rfl (sc rfl sn))) (ae.ab [3,6,7,8,0,4,2,5] rfl rfl)
 clear hF;revert r3;intro r hF;rintro b6;refine RP<|RI<|RH<|RG (az (r:=ptr b6 1) rfl (eg _ _)) rfl<|RG (aw (k:=4) aS rfl rfl rfl) rfl<|RG (az (r:=ptr b6 3) rfl (fa _ _)) rfl<|RG (aw (k:=4) aS rfl rfl rfl) rfl ?_;obtain⟨⟨l9,r7⟩,h17,hF⟩:=J hF;refine RS (bM rfl rfl (fun m hm=>K3 n x3 x4 x10 x11  _ h17 m) fun _=>rfl) gn rfl ?_;rintro⟨a5,n1⟩;refine Wo.len (k:=0) (xs:=l9) rfl ?_;rintro rfl;refine RG (aa rfl) rfl<|RG (cr rfl rfl) rfl<|RG (cr rfl rfl) rfl<|RG (ai rfl) rfl<|RG (ai rfl) rfl<|RJ<|RK<|RI<|RI<|RH<|RG (aa rfl) rfl<|RG (aj rfl rfl (cB _ _)) rfl<|RJ<|RK ?_;rcases ah hF with⟨h5,hF⟩|⟨h5,hF⟩
 refine RT rfl h5<|RI<|RH<|RG (aa rfl) rfl<|R4 (bJ (k:=2) jY rfl rfl rfl rfl rfl)<|R4 (bJ (k:=4) Aq rfl rfl rfl rfl rfl)<|RJ<|RK<|RO<|R0<|R5 ?_;cases hF;exact RM none rfl sn (ae.ab [1,2,4,6,7,8] rfl rfl)
 refine RV rfl h5<|RN<|RK<|RI<|RH<|RG (aw (k:=2) jY rfl rfl rfl) rfl<|RG (aa rfl) rfl ?_;obtain⟨⟨l10,r8⟩,h18,hF⟩:=J hF;refine RS (bM rfl rfl (fun m hm=>KH n l3 l9 a2 l3.length a5 l9.length _ h18 m (hm.rd (k:=3) rfl (.sl _ _ _ _)) (hm.rd (k:=0) rfl (.sl _ _ _ _))) fun _=>rfl) gn rfl ?_;rintro⟨a6,n2⟩;refine Wo.len (k:=0) (xs:=l10) rfl ?_;rintro rfl;refine RG (aa rfl) rfl<|RG (cr rfl rfl) rfl<|RG (cr rfl rfl) rfl<|R4 (bJ (k:=3) jY rfl rfl rfl rfl rfl)<|RG (ai rfl) rfl<|RJ<|RK<|RI<|RH<|RG (aa rfl) rfl<|RG (aj rfl rfl (cB _ _)) rfl<|RJ<|RK ?_;rcases ah hF with⟨h6,hF⟩|⟨h6,hF⟩
 refine RT rfl h6<|RI<|RH<|RG (aa rfl) rfl<|R4 (bJ (k:=3) jY rfl rfl rfl rfl rfl)<|R4 (bJ (k:=5) Aq rfl rfl rfl rfl rfl)<|RJ<|RK<|RO<|R5 ?_;cases hF;exact RM none rfl sn (ae.ab [2,3,5,7,8,9] rfl rfl)
 refine RV rfl h6<|RN<|R3 ?_;cases hF;exact RM a6 rfl sn (ae.ab [2,3,0,5,7,8,9] rfl rfl)
 rcases r3 with v4|l8
 rintro g0;refine RG (eG rfl rfl) rfl<|RJ<|RK<|RT rfl rfl<|RO<|R5<|R0 ?_;cases hF;exact RM none rfl sn (ae.ab [0,1,2] rfl rfl)
 rintro a4;refine RG (eG rfl rfl) rfl<|RJ<|RK<|RV rfl rfl<|RN<|R3<|RK<|RH<|RG (aj rfl rfl (aA _ _ _)) rfl<|RG (aa rfl) rfl<|RJ ?_;cases hF;exact RM a4 rfl (sc rfl (sc rfl (sc rfl (sc rfl (sc rfl sn))))) (ae.ab [0,4,6,1,2,3] rfl rfl)
 refine RV rfl h3<|R1<|R6 ?_;cases hF;exact RM a2 rfl sn (ae.ab [0,3,4,5] rfl rfl)
 rcases r5 with v1|l4
 rintro g1;refine R5 ?_;cases hF;exact RR .nil fun m' hm=>⟨none,(ae.ab [0,1,2] rfl rfl) m' hm⟩
 rintro a1;refine R7 ?_;cases hF;exact At.fin .nil fun m' hm=>⟨a1,(ae.ab [0,1,2,3] rfl rfl) m' hm⟩
 rcases r1 with v3|l7
 rintro g2
 change Wk _ _ _ _ .ret _ _ _ _
 refine RO<|R5<|R0 ?_;cases hF;exact RR (.cell (k:=0) jY rfl rfl rfl (.cell (k:=1) Aq rfl rfl rfl .nil)) fun m' hm=>⟨(none,0),rfl,(ae.trans (ae.nil 2 rfl) (ae.ab [0] rfl rfl)) m' hm⟩
 rintro a3
 change At _ .normal _ _ _
 refine R3<|RK<|RI<|RH<|RG (aw (k:=0) jY rfl rfl rfl) rfl<|R4 (bJ (k:=0) jY rfl rfl rfl rfl rfl)<|R4 (bJ (k:=2) Aq rfl rfl rfl rfl rfl)<|RJ<|RK<|RO ?_;cases hF;exact RR (.cell (k:=0) jY rfl rfl rfl (.cell (k:=2) Aq rfl rfl rfl .nil)) fun m' hm=>⟨(a3,l7.length),rfl,(ae.ab [1] rfl rfl) m' hm⟩
def Ki(n:Nat)(l1:Rs)(l5:Rs)(a2:Rv)(c3:Nat)(a6:Rv)(c7:Nat)(r:Bool)(hF:MK n l1 l5=some r)(m:Sr)(h4:Rd m a2 c3 2 l1.length (l1.map (eP (eI .i64) (eI .i64))))(h8:Rd m a6 c7 2 l5.length (l5.map (eP (eI .i64) (eI .i64)))) :
  aK aG 40 [.slice a2 l1.length c3,.slice a6 l5.length c7] m (Sq m (.bool r)):=by
 unfold MK at hF;refine aC (m0:=m) (ps:=[.rd a6 c7 2 l5.length (l5.map (eP (eI .i64) (eI .i64))),.rd a2 c3 2 l1.length (l1.map (eP (eI .i64) (eI .i64)))]) (N:=26) (rs:=[.tmp 4]) rfl Tryz.func40 rfl rfl rfl (((RZ m).oj rfl h4).oj rfl h8)<|RI<|RH<|RG (ai rfl) rfl<|RJ<|RK<|RI<|RI<|RH<|RG (aa rfl) rfl<|RG (bz (k:=1) sQ rfl rfl (.inl rfl)) rfl<|RG (aa rfl) rfl<|RG (bz (k:=0) sQ rfl rfl (.inl rfl)) rfl<|RG (aj rfl rfl (cB _ _)) rfl<|RJ<|RK ?_;rcases ah hF with⟨h9,hF⟩|⟨h9,hF⟩
 refine RT rfl h9<|RI<|RH<|RG (ai rfl) rfl<|RJ<|RK<|RO<|R0 ?_;cases hF;exact RR (.tmp rfl .nil) fun m' hm=>⟨(),rfl,(ae.ab [] rfl rfl) m' hm⟩
 refine RV rfl h9<|RN<|RK<|RI<|RI<|RH<|RG (aa rfl) rfl<|RG (bz (k:=1) sQ rfl rfl (.inl rfl)) rfl<|RG (aa rfl) rfl<|RJ<|RK<|RP ?_;obtain⟨r42,h41,hF⟩:=J hF;refine RY (G:=(fun(r:SC⊕SC) (g:SC)=>match r,g with|.inl _,_=>⟨.ret,[(4,.bool false)],[]⟩|.inr _,_=>⟨(.exit 0),[],[]⟩) r42) ?_ ?_
 refine R8 (fs':=[(0,.slice a2 l1.length c3),(1,.slice a6 l5.length c7),(12,.int .i64 (l1.length:Int)),(13,.int .i64 0)]) (ps':=[.rd a2 c3 2 l1.length (l1.map (eP (eI .i64) (eI .i64))),.rd a6 c7 2 l5.length (l5.map (eP (eI .i64) (eI .i64)))]) (sc rfl (sc rfl (sc rfl (sc rfl sn)))) (ae.ab [1,0] rfl rfl) ?_;refine R2 (σ:=Int) (ρ:=(SC)⊕SC) (γ:=SC) (δ:=fun _=>SC) _ (fun(s:Int) (g:SC)=>match s,g with|v11,_=>⟨.normal,[(0,.slice a2 l1.length c3),(1,.slice a6 l5.length c7),(12,.int .i64 (l1.length:Int)),(13,.int .i64 v11)],[.rd a2 c3 2 l1.length (l1.map (eP (eI .i64) (eI .i64))),.rd a6 c7 2 l5.length (l5.map (eP (eI .i64) (eI .i64)))]⟩) (fun(r:SC⊕SC) (g:SC)=>match r,g with|.inl _,_=>⟨.ret,[(4,.bool false)],[]⟩|.inr _,_=>⟨(.exit 0),[],[]⟩) ?_ (fun _ _=>rfl) (fun r d=>by rcases r with _|_<;>(intro e; cases e)) _ _ _ h41 ()
 clear hF h41;rintro v11 ⟨⟩ r hF;unfold yg at hF;refine RI<|RH<|RG (aj rfl rfl (aF _ _ _)) rfl<|RJ<|RK<|RI ?_;rcases ah hF with⟨h27,hF⟩|⟨h27,hF⟩
 refine RT rfl h27<|RN<|RK<|RI<|RP<|RI<|RH<|RG (aa rfl) rfl<|RG (ai rfl) rfl<|RJ<|RK<|RI<|R9 (by kernel_rfl)<|RG (aa rfl) rfl<|RG (aa rfl) rfl ?_
 obtain⟨h28,hF⟩:=al hF;replace h28:=au h28;refine Sa (k:=0) rfl (aW h28) ?_;rintro b29 o30 rfl;refine RL (bp yN rfl rfl h28) gn rfl ?_;obtain⟨⟨x31,x32⟩,h33,hF⟩:=J hF;refine RG (bC (k:=0) uG rfl rfl (aL h33) rfl rfl) rfl<|RG (aa rfl) rfl<|RG (aa rfl) rfl ?_;obtain⟨h34,hF⟩:=al hF;replace h34:=au h34;refine Sa (k:=2) rfl (aW h34) ?_;rintro b35 o36 rfl;refine RL (bp yN rfl rfl h34) gn rfl ?_;obtain⟨⟨x37,x38⟩,h39,hF⟩:=J hF;refine RG (bC (k:=0) uG rfl rfl (aL h39) rfl rfl) rfl<|RG (aj rfl rfl (D3 N9 (N3 _ _ _ _))) rfl<|RJ<|RK ?_;rcases ah hF with⟨h40,hF⟩|⟨h40,hF⟩
 refine RT rfl h40<|RI<|RH<|RG (ai rfl) rfl<|RJ<|RK<|RO<|R5<|R0 ?_;cases hF;exact RM () rfl (sc rfl sn) (ae.ab [] rfl rfl)
 refine RV rfl h40<|RN<|R3<|RK<|RH<|RG (aj rfl rfl (aA _ _ _)) rfl<|RG (aa rfl) rfl<|RJ ?_;cases hF;exact RM () rfl (sc rfl (sc rfl (sc rfl (sc rfl sn)))) (ae.ab [2,3] rfl rfl)
 refine RV rfl h27<|R1<|R6 ?_;cases hF;exact RM () rfl sn (ae.ab [] rfl rfl)
 rcases r42 with _|_
 rintro⟨⟩;refine R5<|R0 ?_;cases hF;exact RR (.tmp rfl .nil) fun m' hm=>⟨(),rfl,(ae.ab [] rfl rfl) m' hm⟩
 rintro⟨⟩;refine R7<|RK<|RI<|RH<|RG (ai rfl) rfl<|RJ<|RK<|RO ?_;cases hF;exact RR (.tmp rfl .nil) fun m' hm=>⟨(),rfl,(ae.ab [] rfl rfl) m' hm⟩
end Go.Proofs.YthmekkhpddehjaaGreat
section
namespace Go.Ab.W
open Go Go.Ab
attribute [local irreducible] Tm.at Trie.set Trie.get Sr.get Sr.set Sr.alloc Sr.ww Sr.kill
structure Rep(α:Type) where
 w:Nat
 G:Type
 V:α->G->SB Rx
 A:Sr->(Nat->Prop)->α->G->Prop
 N:α->G->(Nat->Prop)->SB Pc
 mono:∀{m:Sr} {R R':Rw} {x:α} {g:G},A m R x g->(∀b,R b->R' b)->A m R' x g
 st:∀{m m':Sr} {R:Rw} {x:α} {g:G},A m R x g->m.next<=m'.next->(∀b,R b->b<m.next->m'.get b=m.get b)->A m' R x g
 len:∀x g,(V x g).length=w
 one:∀x g,(V x g).all k9=true
 hN:∀{lo:Nat} {m:Sr} {R:Rw} {x:α} {g:G},A m R x g->(∀b,R b->b<m.next)->∀p∈N x g R,p.ok lo m/\(∀b,¬p.ow b)/\∀b,p.any b->R b
section
variable{α β:Type}
def Deep(r:Rep α)(m:Sr)(R:Rw)(L:SB α)(es:Ru):Prop :=
 es.length=L.length/\∀(i:Nat) (x:α),L[i]? = some x->∃g,es[i]? = some (r.V x g)/\r.A m R x g
def Deep.mono{r:Rep α}{m:Sr}{R R':Rw}{L:SB α}{es:Ru}(h:Deep r m R L es)(hR:∀b,R b->R' b):Deep r m R' L es :=
 ⟨h.1,fun i x hi=>by obtain⟨g,h1,h2⟩:=h.2 i x hi; exact⟨g,h1,r.mono h2 hR⟩⟩
def Deep.st{r:Rep α}{m m':Sr}{R:Rw}{L:SB α}{es:Ru}(h:Deep r m R L es)(hn:m.next<=m'.next)(hg:∀b,R b->b<m.next->m'.get b=m.get b):Deep r m' R L es :=
 ⟨h.1,fun i x hi=>by obtain⟨g,h1,h2⟩:=h.2 i x hi; exact⟨g,h1,r.st h2 hn hg⟩⟩
def Deep.nil{r:Rep α}{m:Sr}{R:Rw}:Deep r m R [] []:=⟨rfl,fun i x h=>by simp at h⟩
def Deep.cons{r:Rep α}{m:Sr}{R:Rw}{L:SB α}{es:Ru}{x:α}{g:r.G}(hx:r.A m R x g)(h:Deep r m R L es):Deep r m R (x::L) (r.V x g::es) :=
 ⟨by simp[h.1],fun i y hi=>by
  cases i with
  | zero=>cases hi; exact⟨g,rfl,hx⟩
  | succ i=>exact h.2 i y (by simpa using hi)⟩
def Deep.append{r:Rep α}{m:Sr}{R:Rw}{L L':SB α}{es es':Ru}(h:Deep r m R L es)(h':Deep r m R L' es'):Deep r m R (L++L') (es++es') :=
 ⟨by simp[h.1,h'.1],fun i y hi=>by
  by_cases hlt:i<L.length
  rw[PR hlt] at hi;rw[PR (by rw[h.1]; exact hlt)]
  exact h.2 i y hi
  rw[PA (by omega)] at hi
  rw[PA (by rw[h.1]; omega),h.1]
  exact h'.2 _ y hi⟩
def Deep.fw{r:Rep α}{m:Sr}{R:Rw}{L:SB α}{es:Ru}(h:Deep r m R L es):W.fw es:=fun e he=>by
 obtain⟨i,hi,rfl⟩:=Q0.1 he;obtain⟨g,h1,_⟩:=h.2 i (L[i]'(by rw[<-h.1]; exact hi)) (by simp)
 rw[Pl hi] at h1;rw[Pf h1]; exact r.one _ _
def Deep.width{r:Rep α}{m:Sr}{R:Rw}{L:SB α}{es:Ru}(h:Deep r m R L es):∀e∈es,e.length=r.w:=fun e he=>by
 obtain⟨i,hi,rfl⟩:=Q0.1 he;obtain⟨g,h1,_⟩:=h.2 i (L[i]'(by rw[<-h.1]; exact hi)) (by simp)
 rw[Pl hi] at h1;rw[Pf h1]; exact r.len _ _
def fi(r:Rep α)(R:Rw)(L:SB α)(es:Ru):GPc where
 ow _:=False
 rd b:=R b
 P m:=Deep r m R L es/\∀b,R b->b<m.next
 st _ _ h hn hg:=⟨h.1.st hn fun b hb hlt=>hg b (.inr hb) hlt,fun b hb=>Pn (h.2 b hb) hn⟩
 lt _ b h hb:=hb.elim (fun h=>h.elim) (h.2 b)
def mc{r:Rep α}{R:Rw}{L:SB α}{es:Ru}{b:Nat}:¬Pc.ow (.gen (fi r R L es)) b:=fun h=>h.elim (fun h=>by cases h.1) fun h=>h
def u6{r:Rep α}{R:Rw}{L:SB α}{es:Ru}{b:Nat}(h:Pc.any (.gen (fi r R L es)) b):R b:=h.elim (fun h=>by cases h) fun h=>h.elim (fun h=>h.elim) id
def xD{a:Rv}{cap w n:Nat}{es:Ru}{b:Nat}:¬Pc.ow (.rd a cap w n es) b:=fun h=>h.elim (fun h=>by cases h.1) fun h=>h.elim
def EI{a:Rv}{cap w n:Nat}{es:Ru}{b:Nat}(h:Pc.any (.rd a cap w n es) b):eL a=some b:=h.elim id fun h=>h.elim
def rF(f:α->SB Rx)(w:Nat)(h:Enc f w):Rep α where
 w:=w
 G:=SC
 V x _:=f x
 A _ _ _ _:=True
 N _ _ _:=[]
 mono _ _:=trivial
 st _ _ _:=trivial
 len x _:=h.len x
 one x _:=h.one x
 hN _ _ p hp:=by cases hp
def rS(f:α->SB Rx)(w:Nat):Rep (SB α) where
 w:=1
 G:=Rv×Nat
 V l g:=[.slice g.1 l.length g.2]
 A m R l g:=Rd m g.1 g.2 w l.length (l.map f)/\∀b,eL g.1=some b->R b
 N l g _:=[.rd g.1 g.2 w l.length (l.map f)]
 mono h hR:=⟨h.1,fun b hb=>hR b (h.2 b hb)⟩
 st h hn hg:=⟨h.1.gG hn fun b hb hlt=>hg b (h.2 b hb) hlt,h.2⟩
 len _ _:=rfl
 one _ _:=rfl
 hN h _ p hp:=by
  rw[PM.1 hp];exact⟨h.1,fun b=>xD,fun b hb=>h.2 b (EI hb)⟩
def rP(r:Rep α)(s:Rep β):Rep (α×β) where
 w:=r.w+s.w
 G:=r.G×s.G
 V x g:=r.V x.1 g.1++s.V x.2 g.2
 A m R x g:=r.A m R x.1 g.1/\s.A m R x.2 g.2
 N x g R:=r.N x.1 g.1 R++s.N x.2 g.2 R
 mono h hR:=⟨r.mono h.1 hR,s.mono h.2 hR⟩
 st h hn hg:=⟨r.st h.1 hn hg,s.st h.2 hn hg⟩
 len x g:=by rw[Pm,r.len,s.len]
 one x g:=by rw[List.all_append,r.one,s.one]; rfl
 hN h hlt p hp:=by
  rcases PX.1 hp with hp|hp
  exact r.hN h.1 hlt p hp
  exact s.hN h.2 hlt p hp
end
section
variable{α β:Type}{E:Env}{n:Nat}{m0 m:Sr}{fs:Fs}{ps:SB Pc}{r:Rep α}{r2:Rep β}{x:Rz}{ty:Ry}
def tP:∀(l:SB Pc) (k:Nat),pk (l++ps) (l.length+k)=pk ps k
 | [],k=>by rw[P7,QU,PV]
 | p::l,k=>by rw[Qb,PD,show l.length+1+k=(l.length+k)+1 by omega,ey,tP l k]
def Hp.JD{q:Nat}{p:Pc}(h:Hp m0 m ps)(hq:pk ps q=some p)(hpo:∀b,¬p.ow b):∀new:SB Pc,(∀r∈new,r.ok m0.next m/\(∀b,¬r.ow b)/\∀b,r.any b->p.any b)->Hp m0 m (new++ps)
 | [],_=>h
 | r::l,hl=>(h.JD hq hpo l fun r' h'=>hl r' (P0 _ h')).Jn (k:=l.length+q) (by rw[tP]; exact hq) hpo (hl r (P5 ..)).1 (hl r (P5 ..)).2.1 (hl r (P5 ..)).2.2
def tq{ag:Bool}{sz b o w j c q off:Nat}{R:Rw}{L:SB α}{es:Ru}{z:α}{V:r.G->Rx}{N:r.G->SB Pc}(ht:TyI E.P ty ag sz)(hx:ev E fs x=some (ptr b off))(ho:off=o+j*w+c)(hli:∀m,Hp m0 m ps->pM m b o w es)(hq:pk ps q=some (.gen (fi r R L es)))(hl:L[j]? = some z)(hv:∀g,B1 ag sz (r.V z g) c=some (V g))(hs:Cq ag sz c w=true)(hN:∀g,N g=r.N z g R++ps):Ox E m0 fs ps (.load ty x) V N:=by
 subst ho;refine mM hx (fun m hm=>(hli m hm).1) fun m hm=>?_;have hP:=(hm.get hq).1;obtain⟨g,h1,h2⟩:=hP.1.2 j z hl;have hs:=pT hs;refine⟨g,kT ht (hli m hm) h1 (hv g) hs.1 hs.2,?_⟩;rw[hN];exact hm.JD hq (fun b=>mc) _ fun p hp=>by
  obtain⟨a1,a2,a3⟩:=r.hN h2 hP.2 p hp;exact⟨a1,a2,fun b hb=>.inr (.inr (a3 b hb))⟩
def tI{k b o w l:Nat}{es:Ru}(hp:pk ps k=some (.ro b o w l es)):∀m,Hp m0 m ps->pM m b o w es:=fun _ h=>(h.get hp).2
def Lf(m0:Sr)(ps:SB Pc)(r:Rep α)(z:α)(g:r.G)(S:Rw):Prop:=∀m,Hp m0 m ps->r.A m S z g/\∀b,S b->∃q∈ps,(∀b,¬q.ow b)/\q.any b
def Lf.f{f:α->SB Rx}{w:Nat}(h:Enc f w)(z:α):Lf m0 ps (rF f w h) z () (fun _=>False):=fun _ _=>⟨trivial,fun _ h=>h.elim⟩
def Lf.s{f:α->SB Rx}{a:Rv}{k cap w:Nat}{l:SB α}(hp:pk ps k=some (.rd a cap w l.length (l.map f))):Lf m0 ps (rS f w) l (a,cap) (fun b=>eL a=some b):=fun _ hm =>
 ⟨⟨hm.get hp,fun _ h=>h⟩,fun _ hb=>⟨_,kJ hp,fun _=>xD,.inl hb⟩⟩
def Lf.p{z:α}{y:β}{g:r.G}{g':r2.G}{S S':Rw}(h:Lf m0 ps r z g S)(h':Lf m0 ps r2 y g' S'):Lf m0 ps (rP r r2) (z,y) (g,g') (fun b=>S b\/S' b):=fun m hm =>
 ⟨⟨r.mono (h m hm).1 fun _ h=>.inl h,r2.mono (h' m hm).1 fun _ h=>.inr h⟩,fun b hb=>hb.elim ((h m hm).2 b) ((h' m hm).2 b)⟩
def Ar(m0:Sr)(ps:SB Pc)(r:Rep α)(L:SB α)(es:Ru)(S:Rw):Prop:=∀m,Hp m0 m ps->Deep r m S L es/\∀b,S b->∃q∈ps,(∀b,¬q.ow b)/\q.any b
def Ar.nil:Ar m0 ps r [] [] (fun _=>False):=fun _ _=>⟨.nil,fun _ h=>h.elim⟩
def Ar.cons{z:α}{g:r.G}{S S':Rw}{L:SB α}{es:Ru}(h:Lf m0 ps r z g S)(h':Ar m0 ps r L es S'):Ar m0 ps r (z::L) (r.V z g::es) (fun b=>S b\/S' b):=fun m hm =>
 ⟨.cons (r.mono (h m hm).1 fun _ h=>.inl h) ((h' m hm).1.mono fun _ h=>.inr h),fun b hb=>hb.elim ((h m hm).2 b) ((h' m hm).2 b)⟩
def Hp.Ha{S:Rw}{p:Pc}(h:Hp m0 m ps)(hp:p.ok m0.next m)(ho:∀b,¬p.ow b)(ha:∀b,p.any b->∃q∈ps,(∀b,¬q.ow b)/\q.any b):Hp m0 m (p::ps) :=
 ⟨h.ext,fun q hq=>by
  rcases Pp.1 hq with rfl|hq
  exact hp
  exact h.ok q hq,PC.2 ⟨fun q hq=>⟨fun b h1 _=>ho b h1,fun b h1 h2=>by
  obtain⟨q',hq',h3,h4⟩:=ha b h2;obtain⟨i,hi⟩:=ig hq;obtain⟨j,hj⟩:=ig hq'
  by_cases e:i=j
  subst e;rw[hi] at hj;exact h3 b (by rw[<-Pf hj]; exact h1)
  exact(dZ h.apart hi hj e).1 b h1 h4⟩,h.apart⟩⟩
def ae.dp{L:SB α}{es:Ru}{S:Rw}(h:Ar m0 ps r L es S):ae m0 ps (.gen (fi r S L es)::ps):=fun m hm=>by
 obtain⟨h1,h2⟩:=h m hm;refine hm.Ha (S:=S) ⟨⟨h1,fun b hb=>?_⟩,fun _ b hb=>hb.elim⟩ (fun _=>mc) fun b hb=>h2 b (u6 hb);obtain⟨q,hq,_,h4⟩:=h2 b hb;exact Pc.eH (hm.ok q hq) h4
def ae.Ji:ae m0 ps (.gen (fi r (fun _=>False) [] [])::ps):=ae.dp .nil
def Hp.KE{q:Nat}{R S:Rw}{L L':SB α}{es es':Ru}(h:Hp m0 m ps)(hq:pk ps q=some (.gen (fi r R L es)))(h1:Deep r m (fun b=>R b\/S b) L' es')(h2:∀b,S b->∃q∈ps,(∀b,¬q.ow b)/\q.any b):Hp m0 m (cf ps q (.gen (fi r (fun b=>R b\/S b) L' es'))):=by
 have hP:=h.get hq;refine⟨h.ext,fun p hp=>?_,ft hq (fun p hp ha=>⟨fun b h3 _=>(mc h3).elim,fun b h3 h4=>?_⟩) h.apart⟩
 rcases oA hp with hp|rfl
 exact h.ok p hp
 refine⟨⟨h1,fun b hb=>hb.elim (hP.1.2 b) fun hb=>?_⟩,fun _ b hb=>hb.elim⟩;obtain⟨q',hq',_,h5⟩:=h2 b hb;exact Pc.eH (h.ok q' hq') h5
 rcases u6 h4 with h4|h4
 exact ha.2 b h3 (.inr (.inr h4))
 obtain⟨q',hq',h5,h6⟩:=h2 b h4;obtain⟨i,hi⟩:=ig hp;obtain⟨j,hj⟩:=ig hq'
 by_cases e:i=j
 subst e;rw[hi] at hj;exact h5 b (by rw[<-Pf hj]; exact h3)
 exact(dZ h.apart hi hj e).1 b h3 h6
def ae.Mh{q q2:Nat}{R S:Rw}{L L':SB α}{es es':Ru}(hq:pk ps q=some (.gen (fi r R L es)))(hq2:pk ps q2=some (.gen (fi r S L' es'))):ae m0 ps (cf ps q (.gen (fi r (fun b=>R b\/S b) (L++L') (es++es')))):=fun m hm =>
 hm.KE hq (((hm.get hq).1.1.mono fun _ h=>.inl h).append ((hm.get hq2).1.1.mono fun _ h=>.inr h)) fun _ hb=>⟨_,kJ hq2,fun _=>mc,.inr (.inr hb)⟩
def Pc.F6{lo w l:Nat}{a:Rv}{es:Ru}(h:Pc.ok lo m (.sl a w l es)):l=es.length:=by
 rcases h with⟨h0,h1,_⟩|⟨b,tg,_,h1⟩
 rw[h0,h1]; rfl
 exact h1.2.2.2.1.symm
def AJ{elem ty2:Ry}{w k k2 q q2 c0 l l2:Nat}{a a0:Rv}{R S:Rw}{L L':SB α}{es es':Ru}{ars:SD Rz}{p0:Pc}(ht:SlT E.P ty elem w)(h3:∃e0,E.P.underlying ty2=some (.slice e0))(ha:gK E fs ars.toList=some [.slice a l l,.slice a0 l2 c0])(hp:pk ps k=some (.sl a w l es))(hq:pk ps q=some (.gen (fi r R L es)))(h1:pk ps k2=some p0)(hr:IsRd p0 a0 c0 w l2 es')(h0:pk ps q2=some (.gen (fi r S L' es')))(hw:r.w=w)(hl:lim (L++L').length=true) :
  Ox E m0 fs ps (.call ⟨.builtin .append,ars,#[ty,ty2]⟩) (fun y:Rv ×(Nat->Prop)=>.slice y.1 (L++L').length (L++L').length) (fun y=>cf (cf ps q (.gen (fi r y.2 (L++L') (es++es')))) k (.sl y.1 w (L++L').length (es++es'))):=fun t m hf hm=>⟨fun b hb=>(by simp[aQ] at hb),fun K hK=>by
 have e2:l=L.length:=by rw[Pc.F6 (hm.get hp),(hm.get hq).1.1.1]
 have e0:l2=L'.length:=by rw[<-(hm.rd h1 hr).1,(hm.get h0).1.1.1]
 have e1:l+l2=(L++L').length:=by rw[e2,e0,Pm]
 have h4:=ae.Mh (m0:=m0) hq h0 m hm;have hkq:k≠q:=fun e=>by rw[e,hq] at hp; cases hp
 have h5:pk (cf ps q (.gen (fi r (fun b=>R b\/S b) (L++L') (es++es')))) k=some (.sl a w l es):=by
  have:∀(l:SB Pc) (q k:Nat) (x:Pc),k≠q->pk (cf l q x) k=pk l k:=by
   intro l
   induction l with
   | nil=>intro q k x _; rfl
   | cons p l ih =>
    intro q k x hne;cases q with
    | zero =>
     cases k with
     | zero=>exact Pz rfl hne
     | succ k=>rfl
    | succ q =>
     cases k with
     | zero=>rfl
     | succ k=>rw[dV,ey,ey]; exact ih q k x fun e=>hne (by rw[e])
  rw[this ps q k _ hkq]; exact hp
 obtain⟨a',m',h6,h2⟩:=oT (n:=l) ht h3 h4 h5 (hm.rd h1 hr) (fun e he=>by rw[<-hw]; exact(hm.get h0).1.1.width e he) (hm.get h0).1.1.fw (by rw[e1]; exact hl)
 have:bf E.P .append #[ty,ty2] [.slice a l l,.slice a0 l2 c0] m=some (.slice a' (l+l2) (l+l2),m'):=h6;rw[Go.Ab.dL (hf.gK ha) this];rw[e1] at h2 ⊢;exact hK (a',_) m' h2⟩
def Hp.dp{q:Nat}{R:Rw}{L:SB α}{es:Ru}(h:Hp m0 m ps)(hq:pk ps q=some (.gen (fi r R L es))):(fi r R L es).P m:=(h.get hq).1
def Hp.mI{a:Rv}{cap w l:Nat}{es:Ru}(h:Hp m0 m ps)(ho:∀p∈ps,∀b,¬p.ow b)(hr:Rd m a cap w l es):Hp m0 m (.rd a cap w l es::ps) :=
 ⟨h.ext,fun p hp=>by
  rcases Pp.1 hp with rfl|hp
  exact hr
  exact h.ok p hp,PC.2 ⟨fun q hq=>⟨fun b h1 _=>(xD h1).elim,fun b h1 _=>(ho q hq b h1).elim⟩,h.apart⟩⟩
def Hp.M5{l0:SB Pc}{H R:Rw}{L:SB α}{es:Ru}(h:Hp m0 m (l0++[.gen (bu H)]))(ho:∀p∈l0,∀b,¬p.ow b)(hd:(fi r R L es).P m)(ha:∀b,R b->¬H b):Hp m0 m (.gen (fi r R L es)::(l0++[.gen (bu H)])) :=
 ⟨h.ext,fun p hp=>by
  rcases Pp.1 hp with rfl|hp
  exact⟨hd,fun _ b hb=>hb.elim⟩
  exact h.ok p hp,PC.2 ⟨fun q hq=>⟨fun b h1 _=>(mc h1).elim,fun b h1 h2=>by
  rcases PX.1 hq with hq|hq
  exact(ho q hq b h1).elim
  rw[PM.1 hq] at h1;rcases h1 with h1|h1
  cases h1.1
  exact ha b (u6 h2) h1⟩,h.apart⟩⟩
def Hp.fh{l0:SB Pc}{H:Rw}{a:Rv}{cap w l:Nat}{es:Ru}(h:Hp m0 m (l0++[.gen (bu H)]))(ho:∀p∈l0,∀b,¬p.ow b)(hr:Rd m a cap w l es)(ha:∀b,eL a=some b->¬H b):Hp m0 m (.rd a cap w l es::(l0++[.gen (bu H)])) :=
 ⟨h.ext,fun p hp=>by
  rcases Pp.1 hp with rfl|hp
  exact hr
  exact h.ok p hp,PC.2 ⟨fun q hq=>⟨fun b h1 _=>(xD h1).elim,fun b h1 h2=>by
  rcases PX.1 hq with hq|hq
  exact(ho q hq b h1).elim
  rw[PM.1 hq] at h1;rcases h1 with h1|h1
  cases h1.1
  exact ha b (EI h2) h1⟩,h.apart⟩⟩
def kl:∀p ∈([]:SB Pc),∀b,¬p.ow b:=fun _ h=>by cases h
def BY{l:SB Pc}{a:Rv}{cap w k:Nat}{es:Ru}(h:∀p∈l,∀b,¬p.ow b):∀p ∈(Pc.rd a cap w k es::l),∀b,¬p.ow b:=fun p hp=>by
 rcases Pp.1 hp with rfl|hp
 exact fun _=>xD
 exact h p hp
def O2{l:SB Pc}{R:Rw}{L:SB α}{es:Ru}(h:∀p∈l,∀b,¬p.ow b):∀p ∈(Pc.gen (fi r R L es)::l),∀b,¬p.ow b:=fun p hp=>by
 rcases Pp.1 hp with rfl|hp
 exact fun _=>mc
 exact h p hp
def Hp.JJ{q:Nat}{R:Rw}{L:SB α}{es:Ru}(h:Hp m0 m ps)(hq:pk ps q=some (.gen (fi r R L es))):∀b,R b->¬owns ps b:=fun b hb ⟨p,hp,h1⟩=>by
 obtain⟨i,hi⟩:=ig hp
 by_cases e:i=q
 rw[e,hq] at hi;rw[<-Pf hi] at h1;exact mc h1
 exact(dZ h.apart hi hq e).1 b h1 (.inr (.inr hb))
end
section
variable{α:Type}{E:Env}{n:Nat}{m0:Sr}{fs:Fs}{ps:SB Pc}{ops:SD Oper}{os:SB Oper}{dr:Bool}{K:Tm->Sr->Prop}{r:Rep α}
end
section
variable{α:Type}{E:Env}{n:Nat}{m0:Sr}{fs:Fs}{ps:SB Pc}{ops:SD Oper}{os:SB Oper}{dr:Bool}{K:Tm->Sr->Prop}{r:Rep α}{prs:SB (Nat×Nat)}{ss:SB Nk}
def Wo.dp{L:SB α}{es:Ru}{S:Rw}(h:Ar m0 ps r L es S)(k:∀R,Wo dr E n ops K os m0 fs (.gen (fi r R L es)::ps)):Wo dr E n ops K os m0 fs ps:=Sg (ae.dp h) (k _)
def K2{m:Sr}{q:Nat}{R:Rw}{L:SB α}{es:Ru}(hm:Hp m0 m ps)(hq:pk ps q=some (.gen (fi r R L es))):es.length=L.length:=(hm.get hq).1.1.1
def KM{lo k w l:Nat}{m:Sr}{p:Pc}{a:Rv}{es:Ru}(hm:Hp m0 m ps)(hp:pk ps k=some p)(h:p=.sl a w l es\/(∃c,p=.rd a c w l es)\/∃b tg,p=.arr b w l es tg):l=es.length:=by
 have h0:=hm.get hp;rcases h with rfl|⟨c,rfl⟩|⟨b,tg,rfl⟩
 exact Pc.F6 h0
 exact h0.1.symm
 exact h0.2.2.2.1.symm
def Wo.Oy{k q w l:Nat}{a:Rv}{p:Pc}{R:Rw}{L:SB α}{es:Ru}(hp:pk ps k=some p)(hp':p=.sl a w l es\/(∃c,p=.rd a c w l es)\/∃b tg,p=.arr b w l es tg)(hq:pk ps q=some (.gen (fi r R L es)))(h:l=L.length->Wo dr E n ops K os m0 fs ps):Wo dr E n ops K os m0 fs ps:=by
 have key:∀m,Hp m0 m ps->l=L.length:=fun m hm=>(KM (lo:=0) hm hp hp').trans (K2 hm hq);cases dr with
 | false=>exact fun t m hf hm=>h (key m hm) t m hf hm
 | true=>exact fun t m w hf hm hw=>h (key m hm) t m w hf hm hw
end
section
variable{m0 m:Sr}{ps qs:SB Pc}
end
structure Orp{α:Type}(r:Rep α) where
 G:Type
 V:α->G->SB Rx
 N:α->G->SB Pc
 len:∀x g,(V x g).length=r.w
 one:∀x g,(V x g).all k9=true
 own:∀x g,∀p∈N x g,p.bound=true/\∀b,p.any b->p.ow b
 frz:∀{m:Sr} {x:α} {g:G} {S:Rw},(∀p∈N x g,p.ok 0 m)->(∀p∈N x g,∀b,p.any b->S b)->∃g',V x g=r.V x g'/\r.A m S x g'
section
variable{α β:Type}{r:Rep α}{r2:Rep β}
end
section
variable{α:Type}{r:Rep α}{o:Orp r}{E:Env}{n:Nat}{m0 m:Sr}{fs:Fs}{ps:SB Pc}
end
section
variable{α:Type}{E:Env}{n:Nat}{m0 m:Sr}{fs:Fs}{ps:SB Pc}{r:Rep α}{x:Rz}{ty elem:Ry}
end
end Go.Ab.W
section
open Go Go.Ab Go.Ab.W
abbrev Si:=@Hp.fh
end
end
namespace Go.Ab
open Go
open Go.ChangeMaps (setBlock)
section
variable{E:Env}{n:Nat}{fn:SJ}{ro:SA Nat}
variable{Q Q':Ss->Tm->Sr->Prop}{t:Tm}{m:Sr}{c x y:Code}
end
section
variable{E:Env}{n:Nat}{fn:SJ}{ro:SA Nat}
end
section
variable{E:Env}{n:Nat}{fn:SJ}{ro:SA Nat}
end
end Go.Ab
namespace Go.Ab.W
open Go Go.Ab
attribute [local irreducible] Tm.at Trie.set Trie.get Sr.get Sr.set Sr.alloc Sr.ww Sr.kill
section
variable{E:Env}{n:Nat}{m0:Sr}{fs fs':Fs}{ps ps':SB Pc}{fn:SJ}{ro:SA Nat}{Q:Ss->Tm->Sr->Prop}{a b c:Code}
end
section
variable{α:Type}{m0 m:Sr}{ps:SB Pc}{r:Rep α}
end
section
variable{α:Type}{r:Rep α}{o:Orp r}{E:Env}{n:Nat}{m0 m:Sr}{fs:Fs}{ps:SB Pc}{dr:Bool}{ops:SD Oper}{K:Tm->Sr->Prop}{os:SB Oper}{prs:SB (Nat×Nat)}{ss:SB Nk}{ty:Ry}
end
section
variable{α β:Type}{r:Rep α}{o:Orp r}{E:Env}{n:Nat}{m0 m:Sr}{fs:Fs}{ps qs:SB Pc}{dr:Bool}{ops:SD Oper}{K:Tm->Sr->Prop}{os:SB Oper}{prs:SB (Nat×Nat)}{ss:SB Nk}{ty:Ry}{Q:Ss->Tm->Sr->Prop}
end
end Go.Ab.W
