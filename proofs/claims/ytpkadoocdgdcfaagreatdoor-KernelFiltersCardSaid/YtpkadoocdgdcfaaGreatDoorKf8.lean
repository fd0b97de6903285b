/- A part of the proof. -/
import Derived.Test.YtpkadoocdgdcfaaGreatDoorKf7
import Derived.Lib.Mul64
set_option linter.all false
section
namespace Go.Proofs.YtpkadoocdgdcfaaGreatDoor
open Go Go.Ab Go.Ab.W
set_option maxRecDepth 10000
set_option maxHeartbeats 4000000
attribute [local irreducible] Tm.at Trie.set Trie.get RN.get RN.set RN.alloc RN.ww RN.kill
def LN(n:Nat)(l1:RR (RR R7))(l2:RR (RR R7))(a2:QN)(c0:Nat)(r0:QO)(e0:QM)(a1:QN)(c1:Nat)(r1:QO)(e3:QM)(r:Bool)(hF:Np n l1 l2=some r)(m:RN)(h19:Rd m a2 c0 1 l1.length e0)(h20:(aN aD r0 l1 e0).P m)(h21:Rd m a1 c1 1 l2.length e3)(h22:(aN aD r1 l2 e3).P m) :
  aG aL 17 [.slice a2 l1.length c0,.slice a1 l2.length c1] m (RM m (.bool r)):=by
 unfold Np at hF;refine aw (m0:=m) (ps:=[.gen (aN aD r1 l2 e3),.rd a1 c1 1 l2.length e3,.gen (aN aD r0 l1 e0),.rd a2 c0 1 l1.length e0]) (N:=53) (rs:=[.tmp 4]) rfl Tryz.func17 rfl rfl rfl (Hp.AH (Rz (Hp.AH (Rz (Rj m) cl h19) (dJ cl) h20) (Mx (dJ cl)) h21) (dJ (Mx (dJ cl))) h22)<|Q2<|QZ<|QY (ai rfl) rfl<|Q3<|Q4<|Q2<|Q2<|QZ<|QY (ab rfl) rfl<|QY (bj (k:=3) oD rfl rfl (.inl rfl)) rfl<|QY (ab rfl) rfl<|QY (bj (k:=1) oD rfl rfl (.inl rfl)) rfl<|QY (an rfl rfl (cc _ _)) rfl<|Q3<|Q4 ?_;rcases aj hF with⟨h7,hF⟩|⟨h7,hF⟩
 refine Rf rfl h7<|Q2<|QZ<|QY (ai rfl) rfl<|Q3<|Q4<|Q9<|Rp ?_;cases hF;exact Rb (.tmp rfl .nil) fun m' hm=>⟨(),rfl,(ah.ae [] rfl rfl) m' hm⟩
 refine Rg rfl h7<|Q8<|Q4<|Q2<|Q2<|QZ<|QY (ai rfl) rfl<|Q3<|Q4<|Ra ?_;obtain⟨r3,h8,hF⟩:=aa hF;refine Rh (G:=(fun(r:RS⊕RS) (g:RS)=>match r,g with|.inl _,_=>⟨.ret,[(4,.bool false)],[]⟩|.inr _,_=>⟨(.exit 0),[],[]⟩) r3) ?_ ?_
 refine Rv (fs':=[(0,.slice a2 l1.length c0),(1,.slice a1 l2.length c1),(5,.int .i64 0)]) (ps':=[.rd a2 c0 1 l1.length e0,.gen (aN aD r0 l1 e0),.rd a1 c1 1 l2.length e3,.gen (aN aD r1 l2 e3)]) (sc rfl (sc rfl (sc rfl sn))) (ah.ae [3,2,1,0] rfl rfl) ?_;refine Rl (σ:=Int) (ρ:=(RS)⊕RS) (γ:=RS) (δ:=fun _=>RS) _ (fun(s:Int) (g:RS)=>match s,g with|v0,_=>⟨.normal,[(0,.slice a2 l1.length c0),(1,.slice a1 l2.length c1),(5,.int .i64 v0)],[.rd a2 c0 1 l1.length e0,.gen (aN aD r0 l1 e0),.rd a1 c1 1 l2.length e3,.gen (aN aD r1 l2 e3)]⟩) (fun(r:RS⊕RS) (g:RS)=>match r,g with|.inl _,_=>⟨.ret,[(4,.bool false)],[]⟩|.inr _,_=>⟨(.exit 0),[],[]⟩) ?_ (fun _ _=>rfl) (fun r d=>by rcases r with _|_<;>(intro e; cases e)) _ _ _ h8 ()
 clear hF h8;rintro v0 ⟨⟩ r hF;unfold yO at hF;refine Q2<|Q2<|QZ<|QY (ab rfl) rfl<|QY (ab rfl) rfl<|QY (bj (k:=0) oD rfl rfl (.inl rfl)) rfl<|QY (an rfl rfl (aM _ _ _)) rfl<|Q3<|Q4 ?_;rcases aj hF with⟨h9,hF⟩|⟨h9,hF⟩
 refine Rf rfl h9<|Q8<|Q4<|Q2<|Ra<|Q2<|Q2<|RC (by kernel_rfl)<|QY (ab rfl) rfl<|QY (ab rfl) rfl ?_
 obtain⟨h0,hF⟩:=ak hF;replace h0:=aq h0;refine Ry (k:=0) rfl (aO h0) ?_;rintro b0 o3 rfl;refine Q6 (bw sX rfl rfl h0) gn rfl ?_;obtain⟨l3,h10,hF⟩:=aa hF;refine Q5 (dV (r:=aD) (w:=1) (j:=v0.toNat) (c:=0) (q:=2) (z:=l3) (V:=fun g=>.slice g.1 l3.length g.2) (N:=fun g=>[.rd g.1 g.2 16 l3.length (l3.map R5),.ro b0 o3 1 l1.length e0,.rd (some ⟨b0,o3,none⟩) c0 1 l1.length e0,.gen (aN aD r0 l1 e0),.rd a1 c1 1 l2.length e3,.gen (aN aD r1 l2 e3)]) lC rfl rfl (gJ (k:=0) rfl) rfl h10 (fun _=>rfl) rfl (fun _=>rfl)) gn rfl ?_;rintro⟨a4,c3⟩;refine QY (bj (k:=0) xl rfl rfl (.inl rfl)) rfl<|QY (ab rfl) rfl<|QY (ab rfl) rfl ?_;obtain⟨h4,hF⟩:=ak hF;replace h4:=aq h4;refine Ry (k:=4) rfl (aO h4) ?_;rintro b1 o4 rfl;refine Q6 (bw sX rfl rfl h4) gn rfl ?_;obtain⟨l4,h18,hF⟩:=aa hF;refine Q5 (dV (r:=aD) (w:=1) (j:=v0.toNat) (c:=0) (q:=6) (z:=l4) (V:=fun g=>.slice g.1 l4.length g.2) (N:=fun g=>[.rd g.1 g.2 16 l4.length (l4.map R5),.ro b1 o4 1 l2.length e3,.rd a4 c3 16 l3.length (l3.map R5),.ro b0 o3 1 l1.length e0,.rd (some ⟨b0,o3,none⟩) c0 1 l1.length e0,.gen (aN aD r0 l1 e0),.rd (some ⟨b1,o4,none⟩) c1 1 l2.length e3,.gen (aN aD r1 l2 e3)]) lC rfl rfl (gJ (k:=0) rfl) rfl h18 (fun _=>rfl) rfl (fun _=>rfl)) gn rfl ?_;rintro⟨a5,c5⟩;refine QY (bj (k:=0) xl rfl rfl (.inl rfl)) rfl<|QY (an rfl rfl (cc _ _)) rfl<|Q3<|Q4 ?_;rcases aj hF with⟨h11,hF⟩|⟨h11,hF⟩
 refine Rf rfl h11<|Q2<|QZ<|QY (ai rfl) rfl<|Q3<|Q4<|Q9<|Rp<|RB<|Rp ?_;cases hF;exact Q7 () rfl (sc rfl sn) (ah.ae [] rfl rfl)
 refine Rg rfl h11<|Q8<|Q4<|Q2<|QZ<|QY (ai rfl) rfl<|Q3<|Q4<|Ra ?_;obtain⟨r4,h12,hF⟩:=aa hF;refine Rh (G:=(fun(r:RS⊕RS) (g:RS)=>match r,g with|.inl _,_=>⟨.ret,[(4,.bool false)],[]⟩|.inr _,_=>⟨(.exit 2),[(0,.slice (some ⟨b0,o3,none⟩) l1.length c0),(1,.slice (some ⟨b1,o4,none⟩) l2.length c1),(5,.int .i64 v0)],[.ro b0 o3 1 l1.length e0,.gen (aN aD r0 l1 e0),.rd (some ⟨b0,o3,none⟩) c0 1 l1.length e0,.ro b1 o4 1 l2.length e3,.gen (aN aD r1 l2 e3),.rd (some ⟨b1,o4,none⟩) c1 1 l2.length e3]⟩) r4) ?_ ?_
 refine Rv (fs':=[(0,.slice (some ⟨b0,o3,none⟩) l1.length c0),(1,.slice (some ⟨b1,o4,none⟩) l2.length c1),(5,.int .i64 v0),(6,.int .i64 0)]) (ps':=[.ro b0 o3 1 l1.length e0,.gen (aN aD r0 l1 e0),.rd (some ⟨b0,o3,none⟩) c0 1 l1.length e0,.ro b1 o4 1 l2.length e3,.gen (aN aD r1 l2 e3),.rd (some ⟨b1,o4,none⟩) c1 1 l2.length e3]) (sc rfl (sc rfl (sc rfl (sc rfl sn)))) (ah.ae [3,5,4,1,7,6] rfl rfl) ?_;refine Rl (σ:=Int) (ρ:=(RS)⊕RS) (γ:=RS) (δ:=fun _=>RS) _ (fun(s:Int) (g:RS)=>match s,g with|v1,_=>⟨.normal,[(0,.slice (some ⟨b0,o3,none⟩) l1.length c0),(1,.slice (some ⟨b1,o4,none⟩) l2.length c1),(5,.int .i64 v0),(6,.int .i64 v1)],[.ro b0 o3 1 l1.length e0,.gen (aN aD r0 l1 e0),.rd (some ⟨b0,o3,none⟩) c0 1 l1.length e0,.ro b1 o4 1 l2.length e3,.gen (aN aD r1 l2 e3),.rd (some ⟨b1,o4,none⟩) c1 1 l2.length e3]⟩) (fun(r:RS⊕RS) (g:RS)=>match r,g with|.inl _,_=>⟨.ret,[(4,.bool false)],[]⟩|.inr _,_=>⟨(.exit 2),[(0,.slice (some ⟨b0,o3,none⟩) l1.length c0),(1,.slice (some ⟨b1,o4,none⟩) l2.length c1),(5,.int .i64 v0)],[.ro b0 o3 1 l1.length e0,.gen (aN aD r0 l1 e0),.rd (some ⟨b0,o3,none⟩) c0 1 l1.length e0,.ro b1 o4 1 l2.length e3,.gen (aN aD r1 l2 e3),.rd (some ⟨b1,o4,none⟩) c1 1 l2.length e3]⟩) ?_ (fun _ _=>rfl) (fun r d=>by rcases r with _|_<;>(intro e; cases e)) _ _ _ h12 ()
 clear hF h12;rintro v1 ⟨⟩ r hF;unfold uy at hF;refine Q2<|Q2<|QZ<|QY (ab rfl) rfl<|QY (ab rfl) rfl<|QY (ab rfl) rfl ?_;obtain⟨h13,hF⟩:=ak hF;replace h13:=aq h13;refine Q6 (bw sX rfl rfl h13) gn rfl<|Q5 (dV (r:=aD) (w:=1) (j:=v0.toNat) (c:=0) (q:=1) (z:=l3) (V:=fun g=>.slice g.1 l3.length g.2) (N:=fun g=>[.rd g.1 g.2 16 l3.length (l3.map R5),.ro b0 o3 1 l1.length e0,.gen (aN aD r0 l1 e0),.rd (some ⟨b0,o3,none⟩) c0 1 l1.length e0,.ro b1 o4 1 l2.length e3,.gen (aN aD r1 l2 e3),.rd (some ⟨b1,o4,none⟩) c1 1 l2.length e3]) lC rfl rfl (gJ (k:=0) rfl) rfl h10 (fun _=>rfl) rfl (fun _=>rfl)) gn rfl ?_;rintro⟨a3,c2⟩;refine QY (bj (k:=0) xl rfl rfl (.inl rfl)) rfl<|QY (an rfl rfl (aM _ _ _)) rfl<|Q3<|Q4 ?_;rcases aj hF with⟨h14,hF⟩|⟨h14,hF⟩
 refine Rf rfl h14<|Q8<|Q4<|Q2<|Ra<|Q2<|RC (by kernel_rfl)<|QY (ab rfl) rfl<|QY (ab rfl) rfl ?_
 obtain⟨h15,hF⟩:=ak hF;replace h15:=aq h15;refine Q6 (bw sX rfl rfl h15) gn rfl ?_;refine Q5 (dV (r:=aD) (w:=1) (j:=v0.toNat) (c:=0) (q:=2) (z:=l3) (V:=fun g=>.slice g.1 l3.length g.2) (N:=fun g=>[.rd g.1 g.2 16 l3.length (l3.map R5),.rd a3 c2 16 l3.length (l3.map R5),.ro b0 o3 1 l1.length e0,.gen (aN aD r0 l1 e0),.rd (some ⟨b0,o3,none⟩) c0 1 l1.length e0,.ro b1 o4 1 l2.length e3,.gen (aN aD r1 l2 e3),.rd (some ⟨b1,o4,none⟩) c1 1 l2.length e3]) lC rfl rfl (gJ (k:=1) rfl) rfl h10 (fun _=>rfl) rfl (fun _=>rfl)) gn rfl ?_;rintro⟨a6,c4⟩;refine QY (ab rfl) rfl ?_;obtain⟨h5,hF⟩:=ak hF;replace h5:=aq h5;refine Ry (k:=0) rfl (aO h5) ?_;rintro b2 o5 rfl;refine Q6 (bw pR rfl rfl h5) gn rfl ?_;obtain⟨⟨x3,x4,x5,x6,x7,x8,x9,x10,x11,x12,x13,x14,x15,x16,x17,x18⟩,h23,hF⟩:=aa hF;refine QY (bR (k:=0) cV rfl rfl (aU h23) rfl rfl) rfl<|QY (ab rfl) rfl<|QY (ab rfl) rfl ?_;obtain⟨h16,hF⟩:=ak hF;replace h16:=aq h16;refine Q6 (bw sX rfl rfl h16) gn rfl ?_;refine Q5 (dV (r:=aD) (w:=1) (j:=v0.toNat) (c:=0) (q:=7) (z:=l4) (V:=fun g=>.slice g.1 l4.length g.2) (N:=fun g=>[.rd g.1 g.2 16 l4.length (l4.map R5),.ro b2 o5 16 l3.length (l3.map R5),.rd (some ⟨b2,o5,none⟩) c4 16 l3.length (l3.map R5),.rd a3 c2 16 l3.length (l3.map R5),.ro b0 o3 1 l1.length e0,.gen (aN aD r0 l1 e0),.rd (some ⟨b0,o3,none⟩) c0 1 l1.length e0,.ro b1 o4 1 l2.length e3,.gen (aN aD r1 l2 e3),.rd (some ⟨b1,o4,none⟩) c1 1 l2.length e3]) lC rfl rfl (gJ (k:=6) rfl) rfl h18 (fun _=>rfl) rfl (fun _=>rfl)) gn rfl ?_;rintro⟨a7,c6⟩;refine QY (ab rfl) rfl ?_;obtain⟨h6,hF⟩:=ak hF;replace h6:=aq h6;refine Ry (k:=0) rfl (aO h6) ?_;rintro b3 o6 rfl;refine Q6 (bw pR rfl rfl h6) gn rfl ?_;obtain⟨⟨x19,x20,x21,x22,x23,x24,x25,x26,x27,x28,x29,x30,x31,x32,x33,x34⟩,h24,hF⟩:=aa hF;refine QY (bR (k:=0) cV rfl rfl (aU h24) rfl rfl) rfl<|QY (an rfl rfl (J2 Mw (M3 _ _ _ _ _ _ _ _ _ _ _ _ _ _ _ _ _ _ _ _ _ _ _ _ _ _ _ _ _ _ _ _))) rfl<|Q3<|Q4 ?_;rcases aj hF with⟨h17,hF⟩|⟨h17,hF⟩
 refine Rf rfl h17<|Q2<|QZ<|QY (ai rfl) rfl<|Q3<|Q4<|Q9<|RB<|Rp ?_;cases hF;exact Q7 () rfl (sc rfl sn) (ah.ae [] rfl rfl)
 refine Rg rfl h17<|Q8<|Rr<|Q4<|QZ<|QY (ab rfl) rfl<|QY (an rfl rfl (aJ _ _ _)) rfl<|QY (ai rfl) rfl<|Q3 ?_;cases hF;exact Q7 () rfl (sc rfl (sc rfl (sc rfl (sc rfl sn)))) (ah.ae [5,6,7,8,9,10] rfl rfl)
 refine Rg rfl h14<|Rk<|Rs ?_;cases hF;exact Q7 () rfl (sc rfl (sc rfl (sc rfl sn))) (ah.ae [1,2,3,4,5,6] rfl rfl)
 rcases r4 with _|_
 rintro⟨⟩;refine RB<|RB<|Rp ?_;cases hF;exact Q7 () rfl (sc rfl sn) (ah.ae [] rfl rfl)
 rintro⟨⟩;refine Ru<|Rr<|Q4<|QZ<|QY (ab rfl) rfl<|QY (an rfl rfl (aJ _ _ _)) rfl<|QY (ai rfl) rfl<|Q3 ?_;cases hF;exact Q7 () rfl (sc rfl (sc rfl (sc rfl sn))) (ah.ae [2,1,5,4] rfl rfl)
 refine Rg rfl h9<|Rk<|Rs ?_;cases hF;exact Q7 () rfl sn (ah.ae [] rfl rfl)
 rcases r3 with _|_
 rintro⟨⟩;refine RB<|Rp ?_;cases hF;exact Rb (.tmp rfl .nil) fun m' hm=>⟨(),rfl,(ah.ae [] rfl rfl) m' hm⟩
 rintro⟨⟩;refine Ru<|Q4<|Q2<|QZ<|QY (ai rfl) rfl<|Q3<|Q4<|Q9 ?_;cases hF;exact Rb (.tmp rfl .nil) fun m' hm=>⟨(),rfl,(ah.ae [] rfl rfl) m' hm⟩
def Ji(n:Nat)(x1:Bool)(l2:RR (Nat))(x7:Bool)(l8:RR (Nat))(a3:QN)(c4:Nat)(a9:QN)(c10:Nat)(r:R9)(hF:G7 n x1 l2 x7 l8=some r)(m:RN){H:QO}(hH:∀b,H b->b<m.next)(h5:Rd m a3 c4 1 l2.length (l2.map R3))(h6:∀b,dG a3=some b->¬H b)(h11:Rd m a9 c10 1 l8.length (l8.map R3))(h12:∀b,dG a9=some b->¬H b) :
  aG aL 122 [.agg #[.bool x1,.slice a3 l2.length c4,.bool x7,.slice a9 l8.length c10]] m (fun v m'=>∃x:QN×Nat×Nat×QN×Nat×Nat,v=.agg #[.bool r.1,.slice x.1 x.2.2.1 x.2.1,.bool r.2.2.1,.slice x.2.2.2.1 x.2.2.2.2.2 x.2.2.2.2.1]/\Hp m m' [.rd x.1 x.2.1 1 x.2.2.1 (r.2.1.map R3),.rd x.2.2.2.1 x.2.2.2.2.1 1 x.2.2.2.2.2 (r.2.2.2.map R3),.gen (aF H)]):=by
 unfold G7 at hF;refine aw (m0:=m) (ps:=[.rd a9 c10 1 l8.length (l8.map R3),.rd a3 c4 1 l2.length (l2.map R3),.gen (aF H)]) (N:=4) (rs:=[.cell 2 172]) rfl Tryz.func122 rfl rfl rfl (Rq (l0:=[.rd a3 c4 1 l2.length (l2.map R3)]) (Rq (l0:=[]) (RA m hH) cl h5 h6) (dJ cl) h11 h12)<|Q2<|QZ<|Q5 (bQ rfl) gn rfl fun b13=>?_;refine Q5 (bE fb rfl) gn rfl fun b14=>?_;refine Q3<|Q4<|Q2<|QZ<|QY (ay (k:=1) bp rfl rfl rfl) rfl<|Ri (bf (k:=0) bp rfl rfl rfl rfl rfl)<|Q3<|Q4<|Q9 ?_;cases hF;exact Rb (.cell (k:=0) bp rfl rfl rfl .nil) fun m' hm=>⟨(a3,c4,l2.length,a9,c10,l8.length),rfl,(ah.ae [3,2,4] rfl rfl) m' hm⟩
def Kl(n:Nat)(l1:RR R8)(a8:QN)(c6:Nat)(r:RR R7×Int)(hF:Mh n l1=some r)(m:RN)(h14:Rd m a8 c6 8 l1.length (l1.map R4)) :
  aG aL 33 [.slice a8 l1.length c6] m (fun v m'=>∃x:QN×Nat,v=.tuple #[.slice x.1 x.2 x.2,.int .i64 r.2]/\Hp m m' [.sl x.1 16 x.2 (r.1.map R5)]):=by
 unfold Mh at hF;refine aw (m0:=m) (ps:=[.rd a8 c6 8 l1.length (l1.map R4)]) (N:=39) (rs:=[.tmp 2,.tmp 3]) rfl Tryz.func33 rfl rfl rfl (Rz (Rj m) cl h14)<|Q2<|QZ<|QY (ai rfl) rfl<|QY (ai rfl) rfl<|Q3<|Q4<|Q2<|Q2<|QZ<|QY (ab rfl) rfl<|QY (bj (k:=0) L5 rfl rfl (.inl rfl)) rfl<|QY (an rfl rfl (cS _ _ _)) rfl<|Q3<|Q4 ?_;rcases aj hF with⟨h5,hF⟩|⟨h5,hF⟩
 refine Rf rfl h5<|Q2<|QZ<|QY (ai rfl) rfl<|QY (ai rfl) rfl<|Q3<|Q4<|Q9<|Rp ?_;cases hF;exact Rb (.tmp rfl (.tmp rfl .nil)) fun m' hm=>⟨(none,0),rfl,(ah.trans (ah.nil 16 rfl) (ah.ae [0] rfl rfl)) m' hm⟩
 refine Rg rfl h5<|Q8<|Q4<|Q2<|Q2<|QZ<|QY (ab rfl) rfl ?_;obtain⟨r13,h15,hF⟩:=aa hF;refine Q5 (bW rfl rfl (fun m hm=>wR n l1 0 a8 c6 _ h15 m (hm.rd (k:=0) rfl (.rd _ _ _ _ _))) fun _=>rfl) gn rfl ?_;rintro⟨⟩;refine Q3<|Q4 ?_;rcases aj hF with⟨h6,hF⟩|⟨h6,hF⟩
 refine Rf rfl h6<|Q2<|QZ<|QY (ai rfl) rfl<|QY (ai rfl) rfl<|Q3<|Q4<|Q9<|Rp ?_;cases hF;exact Rb (.tmp rfl (.tmp rfl .nil)) fun m' hm=>⟨(none,0),rfl,(ah.trans (ah.nil 16 rfl) (ah.ae [0] rfl rfl)) m' hm⟩
 refine Rg rfl h6<|Q8<|Q4<|Q2<|QZ<|QY (ab rfl) rfl ?_;obtain⟨l2,h16,hF⟩:=aa hF;refine Q5 (bA (N:=(fun x:QN×Nat×QM ×(Nat->Prop)=>[.sl (x.1) 4 (x.2.1) (x.2.2.1),.gen (aN aE (x.2.2.2) l2 (x.2.2.1))])) rfl rfl (fun m hm=>wB n l1 a8 c6 _ h16 m hm.ar (hm.rd (k:=0) rfl (.rd _ _ _ _ _)) (hm.au (k:=0) rfl)) fun _=>rfl) gn rfl ?_;rintro⟨a1,n2,e0,r0⟩;refine Wo.vz (k:=0) (q:=1) (L:=l2) rfl (.inl rfl) rfl ?_;rintro rfl;refine QY (ai rfl) rfl<|Q3<|Q4<|Q2<|QZ<|QY (ab rfl) rfl ?_;obtain⟨r4,h17,hF⟩:=aa hF;refine Q5 (lJ (α:=QN×Nat×QN×Nat) (V:=fun g=>(fun(r:Bool×RR (Nat)×Bool×RR (Nat)) (g:QN×Nat×QN×Nat)=>match r,g with |(v0,l3,v1,l4),(a2,c0,a3,c1)=>(.agg #[.bool v0,.slice a2 l3.length c0,.bool v1,.slice a3 l4.length c1]:QP)) r4 g) (N:=fun g=>(fun(r:Bool×RR (Nat)×Bool×RR (Nat)) (g:QN×Nat×QN×Nat)=>match r,g with |(v0,l3,v1,l4),(a2,c0,a3,c1)=>([.rd a2 c0 1 l3.length (l3.map R3),.rd a3 c1 1 l4.length (l4.map R3),.sl a1 4 l2.length e0,.gen (aN aE r0 l2 e0)]:RR Pc)) r4 g) rfl rfl (fun m hm=>?_)) gn rfl ?_
 clear hF;revert r4;intro r hF;refine aw (N:=22) (rs:=[.cell 4 172]) rfl Tryz.func121 rfl rfl rfl hm<|Q2<|QZ<|Q5 (bE fb rfl) gn rfl fun b1=>?_;refine Q3<|Q4<|Q2<|QZ ?_;obtain⟨⟨r8,l16,r9,l17⟩,h18,hF⟩:=aa hF;refine Q5 (bA (N:=(fun x:QN×Nat×Nat×QN×Nat×Nat=>[.rd (x.1) (x.2.1) 1 (x.2.2.1) (l16.map R3),.rd (x.2.2.2.1) (x.2.2.2.2.1) 1 (x.2.2.2.2.2) (l17.map R3)])) rfl rfl (fun m hm=>nJ n 0  _ h18 m hm.ar) fun _=>rfl) gn rfl ?_;rintro⟨a11,c9,n3,a12,c10,n4⟩;refine Ro (k:=0) (xs:=l16) rfl ?_;rintro rfl;refine Ro (k:=1) (xs:=l17) rfl ?_;rintro rfl;refine Q5 (bE fb rfl) gn rfl fun b0=>?_;refine Ri (bf (k:=0) bp rfl rfl rfl rfl rfl)<|Q3<|Q4<|Q2<|Q2<|QZ<|QY (ab rfl) rfl<|QY (bj (k:=4) CI rfl rfl (.inl rfl)) rfl<|QY (ab rfl) rfl<|Q3<|Q4<|Ra ?_;obtain⟨r7,h7,hF⟩:=aa hF;refine Rh (G:=(fun(r:Bool×RR (Nat)×Bool×RR (Nat)) (g:QN×Nat×QN×Nat)=>match r,g with |(v3,l9,v4,l10),(a4,c2,a5,c3)=>⟨(.exit 0),[(4,ptr b1 0),(5,ptr b0 0)],[.obj b1 (.cells [.bool false,.slice none 0 0,.bool false,.slice none 0 0] .own),.obj b0 (.cells [.bool v3,.slice a4 l9.length c2,.bool v4,.slice a5 l10.length c3] .own),.rd a4 c2 1 l9.length (l9.map R3),.rd a5 c3 1 l10.length (l10.map R3),.sl a1 4 l2.length e0,.gen (aN aE r0 l2 e0)]⟩) r7) ?_ ?_
 refine Rv (fs':=[(1,.func (.func 122) #[] #[]),(4,ptr b1 0),(5,ptr b0 0),(9,.slice a1 l2.length l2.length),(10,.int .i64 (l2.length:Int)),(11,.int .i64 0)]) (ps':=[.obj b1 (.cells [.bool false,.slice none 0 0,.bool false,.slice none 0 0] .own),.obj b0 (.cells [.bool r8,.slice a11 l16.length c9,.bool r9,.slice a12 l17.length c10] .own),.rd a11 c9 1 l16.length (l16.map R3),.rd a12 c10 1 l17.length (l17.map R3),.sl a1 4 l2.length e0,.gen (aN aE r0 l2 e0)]) (sc rfl (sc rfl (sc rfl (sc rfl (sc rfl (sc rfl sn)))))) (ah.ae [3,0,1,2,4,5] rfl rfl) ?_;refine Rl (σ:=Bool×RR (Nat)×Bool×RR (Nat)×Int) (ρ:=Bool×RR (Nat)×Bool×RR (Nat)) (γ:=QN×Nat×QN×Nat) (δ:=fun _=>QN×Nat×QN×Nat) _ (fun(s:Bool×RR (Nat)×Bool×RR (Nat)×Int) (g:QN×Nat×QN×Nat)=>match s,g with |(v5,l11,v6,l12,v7),(a6,c4,a7,c5)=>⟨.normal,[(1,.func (.func 122) #[] #[]),(4,ptr b1 0),(5,ptr b0 0),(9,.slice a1 l2.length l2.length),(10,.int .i64 (l2.length:Int)),(11,.int .i64 v7)],[.obj b1 (.cells [.bool false,.slice none 0 0,.bool false,.slice none 0 0] .own),.obj b0 (.cells [.bool v5,.slice a6 l11.length c4,.bool v6,.slice a7 l12.length c5] .own),.rd a6 c4 1 l11.length (l11.map R3),.rd a7 c5 1 l12.length (l12.map R3),.sl a1 4 l2.length e0,.gen (aN aE r0 l2 e0)]⟩) (fun(r:Bool×RR (Nat)×Bool×RR (Nat)) (g:QN×Nat×QN×Nat)=>match r,g with |(v3,l9,v4,l10),(a4,c2,a5,c3)=>⟨(.exit 0),[(4,ptr b1 0),(5,ptr b0 0)],[.obj b1 (.cells [.bool false,.slice none 0 0,.bool false,.slice none 0 0] .own),.obj b0 (.cells [.bool v3,.slice a4 l9.length c2,.bool v4,.slice a5 l10.length c3] .own),.rd a4 c2 1 l9.length (l9.map R3),.rd a5 c3 1 l10.length (l10.map R3),.sl a1 4 l2.length e0,.gen (aN aE r0 l2 e0)]⟩) ?_ (fun _ _=>rfl) (fun r d=>by intro e; cases e) _ _ _ h7 (a11,c9,a12,c10)
 clear hF h7;rintro⟨v5,l11,v6,l12,v7⟩ ⟨a6,c4,a7,c5⟩ r hF;unfold ub at hF;refine Q2<|QZ<|QY (an rfl rfl (aM _ _ _)) rfl<|Q3<|Q4<|Q2 ?_;rcases aj hF with⟨h8,hF⟩|⟨h8,hF⟩
 refine Rf rfl h8<|Q8<|Q4<|Q2<|Ra<|Q2<|QZ ?_;obtain⟨h0,hF⟩:=ak hF;replace h0:=aq h0;refine Wo.open (k:=4) rfl (aO h0) ?_;rintro b4 t1 rfl h26;refine Q6 (cF hJ rfl rfl h0) gn rfl ?_;obtain⟨⟨x5,l18,x6,l19⟩,h19,hF⟩:=aa hF;refine Q5 (dV (r:=aE) (w:=4) (j:=v7.toNat) (c:=0) (q:=5) (z:=(x5,l18,x6,l19)) (V:=fun g=>.agg #[.bool x5,.slice g.2.1.1 l18.length g.2.1.2,.bool x6,.slice g.2.2.2.1 l19.length g.2.2.2.2]) (N:=fun g=>[.rd g.2.1.1 g.2.1.2 1 l18.length (l18.map R3),.rd g.2.2.2.1 g.2.2.2.2 1 l19.length (l19.map R3),.obj b1 (.cells [.bool false,.slice none 0 0,.bool false,.slice none 0 0] .own),.obj b0 (.cells [.bool v5,.slice a6 l11.length c4,.bool v6,.slice a7 l12.length c5] .own),.rd a6 c4 1 l11.length (l11.map R3),.rd a7 c5 1 l12.length (l12.map R3),.arr b4 4 l2.length e0 t1,.gen (aN aE r0 l2 e0)]) bp rfl (wG _ _) (kn (k:=4) rfl) rfl h19 (fun _=>rfl) rfl (fun _=>rfl)) gn rfl ?_;rintro⟨_,⟨a15,c13⟩,_,⟨a16,c15⟩⟩;refine Q5 (bE fb rfl) gn rfl fun b5=>?_;refine Ri (bf (k:=0) bp rfl rfl rfl rfl rfl)<|Q3<|Q4<|RD (prs:=[(0,3)]) (by kernel_rfl)<|Wn.No rfl (ay (k:=4) bp rfl rfl rfl) rfl<|Rc (ab rfl) rfl<|Rc (ay (k:=0) bp rfl rfl rfl) rfl ?_
 obtain⟨⟨r10,l21,r11,l22⟩,h20,hF⟩:=aa hF;refine Wn.xk (l:=[b0]) (bA (N:=(fun x:QN×Nat×Nat×QN×Nat×Nat=>[.rd (x.1) (x.2.1) 1 (x.2.2.1) (l21.map R3),.rd (x.2.2.2.1) (x.2.2.2.2.1) 1 (x.2.2.2.2.2) (l22.map R3)])) rfl rfl (fun m hm=>Ji n x5 l18 x6 l19 a15 c13 a16 c15 _ h20 m hm.ar (hm.rd (k:=1) rfl (.rd _ _ _ _ _)) (hm.au (k:=1) rfl) (hm.rd (k:=2) rfl (.rd _ _ _ _ _)) (hm.au (k:=2) rfl)) fun _=>rfl) ⟨⟨_,4,rfl,rfl,fun _=>⟨6,rfl⟩⟩,trivial⟩ gn rfl ?_;rintro⟨a17,c16,n5,a18,c17,n6⟩;refine Rm (k:=0) (xs:=l21) rfl ?_;rintro rfl;refine Rm (k:=1) (xs:=l22) rfl ?_;rintro rfl;obtain⟨⟨r14,l23,r15,l24⟩,h21,hF⟩:=aa hF;refine Rw (bu (N:=(fun x:QN×Nat×Nat×QN×Nat×Nat=>[.rd (x.1) (x.2.1) 1 (x.2.2.1) (l23.map R3),.rd (x.2.2.2.1) (x.2.2.2.2.1) 1 (x.2.2.2.2.2) (l24.map R3)])) rfl rfl (fun m hm=>qz n v5 l11 v6 l12 r10 l21 r11 l22 a6 c4 a7 c5 a17 c16 a18 c17 _ h21 m hm.ar (hm.rd (k:=7) rfl (.rd _ _ _ _ _)) (hm.au (k:=7) rfl) (hm.rd (k:=8) rfl (.rd _ _ _ _ _)) (hm.au (k:=8) rfl) (hm.rd (k:=0) rfl (.rd _ _ _ _ _)) (hm.au (k:=0) rfl) (hm.rd (k:=1) rfl (.rd _ _ _ _ _)) (hm.au (k:=1) rfl)) fun _=>rfl) gn rfl ?_;rintro⟨a19,c19,n7,a20,c20,n8⟩;refine Rm (k:=0) (xs:=l23) rfl ?_;rintro rfl;refine Rm (k:=1) (xs:=l24) rfl ?_;rintro rfl;refine RE (bf (k:=8) bp rfl rfl rfl rfl rfl) ?_;refine Rx (fun m hm=>(by(first|refine fo.rk rfl rfl rfl (by simp) ?_|refine fo.step rfl ?_); exact fo.nil)) ?_
 refine Rr<|Q4<|QZ<|QY (an rfl rfl (aJ _ _ _)) rfl<|QY (ab rfl) rfl<|Q3 ?_;cases hF;exact Q7 (a19,c19,a20,c20) rfl (sc rfl (sc rfl (sc rfl (sc rfl (sc rfl (sc rfl sn)))))) (ah.trans (ah.close (k:=11) rfl) (ah.ae [7,8,0,1,11,12] rfl rfl))
 refine Rg rfl h8<|Rk<|Rs ?_;cases hF;exact Q7 (a6,c4,a7,c5) rfl (sc rfl (sc rfl sn)) (ah.ae [0,1,2,3,4,5] rfl rfl)
 clear h7;obtain⟨v3,l9,v4,l10⟩:=r7;rintro⟨a4,c2,a5,c3⟩;refine Ru<|Q4<|Q2<|QZ<|QY (ay (k:=1) bp rfl rfl rfl) rfl<|Ri (bf (k:=0) bp rfl rfl rfl rfl rfl)<|Q3<|Q4<|Q9 ?_;cases hF;exact Rb (.cell (k:=0) bp rfl rfl rfl .nil) fun m' hm=>⟨(a4,c2,a5,c3),rfl,(ah.ae [2,3,4,5] rfl rfl) m' hm⟩
 clear h17;obtain⟨v0,l3,v1,l4⟩:=r4;rintro⟨a2,c0,a3,c1⟩;refine Q5 (bE fb rfl) gn rfl fun b2=>?_;refine Ri (bf (k:=0) bp rfl rfl rfl rfl rfl)<|Q3<|Q4<|Q2<|Q2<|QZ<|QY (aW (r:=ptr b2 0) rfl (ez _ _)) rfl<|QY (ay (k:=0) aS rfl rfl rfl) rfl ?_;obtain⟨r16,h22,hF⟩:=aa hF;refine Q5 (bW rfl rfl (fun m hm=>oW n v0 l3 a2 c0 _ h22 m (hm.rd (k:=1) rfl (.rd _ _ _ _ _))) fun _=>rfl) gn rfl ?_;rintro⟨⟩;refine QY (an rfl rfl (cW _ _ _)) rfl<|Q3<|Q4 ?_;rcases aj hF with⟨h9,hF⟩|⟨h9,hF⟩
 refine Rf rfl h9<|Q2<|QZ<|QY (ai rfl) rfl<|QY (ai rfl) rfl<|Q3<|Q4<|Q9<|Rp ?_;cases hF;exact Rb (.tmp rfl (.tmp rfl .nil)) fun m' hm=>⟨(none,0),rfl,(ah.trans (ah.nil 16 rfl) (ah.ae [0] rfl rfl)) m' hm⟩
 refine Rg rfl h9<|Q8<|Q4<|Q2<|Q2<|QZ<|QY (ab rfl) rfl<|QY (bj (k:=3) CI rfl rfl (.inl rfl)) rfl<|QY (ab rfl) rfl<|Q3<|Q4<|Ra ?_;obtain⟨l13,h10,hF⟩:=aa hF;refine Rh (G:=(fun(r:RR R9) (g:QM ×(Nat->Prop))=>match r,g with|l13,(e4,r1)=>⟨(.exit 0),[(4,.slice a1 l2.length l2.length)],[.sl a1 4 l2.length e4,.gen (aN aE r1 l13 e4)]⟩) l13) ?_ ?_
 refine Rv (fs':=[(4,.slice a1 l2.length l2.length),(5,ptr b2 0),(21,.int .i64 (l2.length:Int)),(22,.int .i64 0)]) (ps':=[.sl a1 4 l2.length e0,.gen (aN aE r0 l2 e0),.obj b2 (.cells [.bool v0,.slice a2 l3.length c0,.bool v1,.slice a3 l4.length c1] .own),.rd a2 c0 1 l3.length (l3.map R3),.rd a3 c1 1 l4.length (l4.map R3)]) (sc rfl (sc rfl (sc rfl (sc rfl sn)))) (ah.ae [3,4,0,1,2] rfl rfl) ?_;refine Rl (σ:=RR (R9)×Int) (ρ:=RR R9) (γ:=QM ×(Nat->Prop)) (δ:=fun _=>QM ×(Nat->Prop)) _ (fun(s:RR (R9)×Int) (g:QM ×(Nat->Prop))=>match s,g with |(l20,v2),(e3,r3)=>⟨.normal,[(4,.slice a1 l2.length l2.length),(5,ptr b2 0),(21,.int .i64 (l2.length:Int)),(22,.int .i64 v2)],[.sl a1 4 l2.length e3,.gen (aN aE r3 l20 e3),.obj b2 (.cells [.bool v0,.slice a2 l3.length c0,.bool v1,.slice a3 l4.length c1] .own),.rd a2 c0 1 l3.length (l3.map R3),.rd a3 c1 1 l4.length (l4.map R3)]⟩) (fun(r:RR R9) (g:QM ×(Nat->Prop))=>match r,g with|l13,(e4,r1)=>⟨(.exit 0),[(4,.slice a1 l2.length l2.length)],[.sl a1 4 l2.length e4,.gen (aN aE r1 l13 e4)]⟩) ?_ (fun _ _=>rfl) (fun r d=>by intro e; cases e) _ _ _ h10 (e0,r0)
 clear hF h10;rintro⟨l20,v2⟩ ⟨e3,r3⟩ r hF;unfold uC at hF;refine Q2<|QZ<|QY (an rfl rfl (aM _ _ _)) rfl<|Q3<|Q4<|Q2 ?_;rcases aj hF with⟨h11,hF⟩|⟨h11,hF⟩
 refine Rf rfl h11<|Q8<|Q4<|Q2<|Ra<|Q2<|QZ<|QY (ab rfl) rfl<|QY (ai rfl) rfl<|Q3<|Q4<|RC (by kernel_rfl)<|QY (ab rfl) rfl<|QY (ab rfl) rfl<|QY (ab rfl) rfl<|QY (ab rfl) rfl ?_
 obtain⟨h4,hF⟩:=ak hF;replace h4:=aq h4;refine Wo.open (k:=0) rfl (aO h4) ?_;rintro b3 t0 rfl h27;refine Q6 (cF hJ rfl rfl h4) gn rfl ?_;obtain⟨⟨x3,l7,x4,l8⟩,h13,hF⟩:=aa hF;refine Q5 (dV (r:=aE) (w:=4) (j:=v2.toNat) (c:=0) (q:=1) (z:=(x3,l7,x4,l8)) (V:=fun g=>.agg #[.bool x3,.slice g.2.1.1 l7.length g.2.1.2,.bool x4,.slice g.2.2.2.1 l8.length g.2.2.2.2]) (N:=fun g=>[.rd g.2.1.1 g.2.1.2 1 l7.length (l7.map R3),.rd g.2.2.2.1 g.2.2.2.2 1 l8.length (l8.map R3),.arr b3 4 l2.length e3 t0,.gen (aN aE r3 l20 e3),.obj b2 (.cells [.bool v0,.slice a2 l3.length c0,.bool v1,.slice a3 l4.length c1] .own),.rd a2 c0 1 l3.length (l3.map R3),.rd a3 c1 1 l4.length (l4.map R3)]) bp rfl (wG _ _) (kn (k:=0) rfl) rfl h13 (fun _=>rfl) rfl (fun _=>rfl)) gn rfl ?_;rintro⟨_,⟨a13,c11⟩,_,⟨a14,c12⟩⟩;refine QY (ay (k:=4) bp rfl rfl rfl) rfl ?_;obtain⟨⟨r5,l14,r6,l15⟩,h23,hF⟩:=aa hF;refine Q5 (bA (N:=(fun x:QN×Nat×Nat×QN×Nat×Nat=>[.rd (x.1) (x.2.1) 1 (x.2.2.1) (l14.map R3),.rd (x.2.2.2.1) (x.2.2.2.2.1) 1 (x.2.2.2.2.2) (l15.map R3)])) rfl rfl (fun m hm=>Be n x3 l7 x4 l8 v0 l3 v1 l4 a13 c11 a14 c12 a2 c0 a3 c1 _ h23 m hm.ar (hm.rd (k:=0) rfl (.rd _ _ _ _ _)) (hm.au (k:=0) rfl) (hm.rd (k:=1) rfl (.rd _ _ _ _ _)) (hm.au (k:=1) rfl) (hm.rd (k:=5) rfl (.rd _ _ _ _ _)) (hm.au (k:=5) rfl) (hm.rd (k:=6) rfl (.rd _ _ _ _ _)) (hm.au (k:=6) rfl)) fun _=>rfl) gn rfl ?_;rintro⟨a9,c7,n9,a10,c8,n10⟩;refine Ro (k:=0) (xs:=l14) rfl ?_;rintro rfl;refine Ro (k:=1) (xs:=l15) rfl ?_;rintro rfl;obtain⟨h12,hF⟩:=ak hF;replace h12:=aq h12;refine Q6 (cF hJ rfl rfl h12) gn rfl<|Wo.lf (r:=aE) (q:=5) (j:=v2.toNat) (z:=(x3,l7,x4,l8)) (N:=fun g=>[.rd g.2.1.1 g.2.1.2 1 l7.length (l7.map R3),.rd g.2.2.2.1 g.2.2.2.2 1 l8.length (l8.map R3),.rd a9 c7 1 l14.length (l14.map R3),.rd a10 c8 1 l15.length (l15.map R3),.rd a13 c11 1 l7.length (l7.map R3),.rd a14 c12 1 l8.length (l8.map R3),.arr b3 4 l2.length e3 t0,.gen (aN aE r3 l20 e3),.obj b2 (.cells [.bool v0,.slice a2 l3.length c0,.bool v1,.slice a3 l4.length c1] .own),.rd a2 c0 1 l3.length (l3.map R3),.rd a3 c1 1 l4.length (l4.map R3)]) rfl h13 (fun _=>rfl) ?_;rintro⟨_,⟨a21,c21⟩,_,⟨a22,c23⟩⟩ h24;refine Ri (sT (k:=6) (j:=v2.toNat) (c:=0) (e:=[.bool x3,.slice a21 l7.length c21,.bool x4,.slice a22 l8.length c23]) (e':=[.bool r5,.slice a9 l14.length c7,.bool r6,.slice a10 l15.length c8]) bp rfl rfl rfl h24 rfl)<|Wo.mO (r:=aE) (q:=7) (j:=v2.toNat) (z:=(r5,l14,r6,l15)) (g:=((),(a9,c7),(),(a10,c8))) rfl (Lf.p (Lf.f (sW) _) (Lf.p (Lf.s (k:=2) rfl) (Lf.p (Lf.f (sW) _) (Lf.s (k:=3) rfl)))) ?_;intro r12;refine Q3<|Rr<|Q4<|QZ<|QY (an rfl rfl (aJ _ _ _)) rfl<|QY (ab rfl) rfl<|Q3 ?_;cases hF;exact Q7 ((e3.set v2.toNat [.bool r5,.slice a9 l14.length c7,.bool r6,.slice a10 l15.length c8]),r12) rfl (sc rfl (sc rfl (sc rfl (sc rfl sn)))) (ah.trans (ah.close (k:=6) rfl) (ah.ae [6,7,8,9,10] rfl rfl))
 refine Rg rfl h11<|Rk<|Rs ?_;cases hF;exact Q7 (e3,r3) rfl (sc rfl sn) (ah.ae [0,1] rfl rfl)
 rintro⟨e4,r1⟩;refine Ru<|Q4<|Q2<|QZ<|QY (ab rfl) rfl ?_;obtain⟨⟨l25,r17⟩,h25,hF⟩:=aa hF;have hFx:=hF;refine Wo.vz (k:=0) (q:=1) (L:=l13) rfl (.inl rfl) rfl ?_;generalize l2.length=nN;rintro rfl;replace hF:=hFx;clear hFx;refine Q5 (bW rfl rfl (fun m hm=>uT n l13 a1 l13.length r1 e4 _ h25 m (hm.rd (k:=0) rfl (.sl _ _ _ _)) (hm.dp (q:=1) rfl)) fun _=>rfl) gn rfl ?_;rintro⟨a23,n11⟩;refine Wo.len (k:=0) (xs:=l25) rfl ?_;rintro rfl;refine QY (bZ rfl rfl) rfl<|QY (bZ rfl rfl) rfl<|QY (ai rfl) rfl<|QY (ai rfl) rfl<|Q3<|Q4<|Q9 ?_;cases hF;exact Rb (.tmp rfl (.tmp rfl .nil)) fun m' hm=>⟨(a23,l25.length),rfl,(ah.ae [0] rfl rfl) m' hm⟩
def Hc(n:Nat)(x1:Nat)(x2:Nat)(x3:Nat)(x4:Nat)(x5:Nat)(x6:Nat)(x7:Nat)(x8:Nat)(x9:Nat)(x10:Nat)(x11:Nat)(x12:Nat)(x13:Nat)(x14:Nat)(x15:Nat)(x16:Nat)  (r:Bool)(hF:Hr n x1 x2 x3 x4 x5 x6 x7 x8 x9 x10 x11 x12 x13 x14 x15 x16=some r)(m:RN)  :
  aG aL 126 [.agg #[R6 x1,R6 x2,R6 x3,R6 x4,R6 x5,R6 x6,R6 x7,R6 x8,R6 x9,R6 x10,R6 x11,R6 x12,R6 x13,R6 x14,R6 x15,R6 x16]] m (RM m (.bool r)):=by
 unfold Hr at hF;refine aw (m0:=m) (ps:=[]) (N:=6) (rs:=[.tmp 2]) rfl Tryz.func126 rfl rfl rfl (Rj m)<|Q2<|QZ<|Q5 (bQ rfl) gn rfl fun b17=>?_;refine QY (ai rfl) rfl<|Q3<|Q4<|Q2<|QZ<|QY (ay (k:=0) cV rfl rfl rfl) rfl ?_;obtain⟨r19,h18,hF⟩:=aa hF;refine Q5 (bW rfl rfl (fun m hm=>vi n x1 x2 x3 x4 x5 x6 x7 x8 x9 x10 x11 x12 x13 x14 x15 x16  _ h18 m) fun _=>rfl) gn rfl ?_;rintro⟨⟩;refine QY (an rfl rfl (cc _ _)) rfl<|QY (ai rfl) rfl<|Q3<|Q4<|Q9 ?_;cases hF;exact Rb (.tmp rfl .nil) fun m' hm=>⟨(),rfl,(ah.ae [] rfl rfl) m' hm⟩
def Li(n:Nat)(l1:RR (RR R7))(l2:RR R7)(x3:Int)(a1:QN)(c0:Nat)(r0:QO)(e0:QM)(a3:QN)(c1:Nat)(r:RR R7×Int)(hF:Md n l1 l2 x3=some r)(m:RN)(h31:Rd m a1 c0 1 l1.length e0)(h32:(aN aD r0 l1 e0).P m)(h33:Rd m a3 c1 16 l2.length (l2.map R5)) :
  aG aL 38 [.slice a1 l1.length c0,.slice a3 l2.length c1,.int .i64 x3] m (fun v m'=>∃x:QN×Nat,v=.tuple #[.slice x.1 x.2 x.2,.int .i64 r.2]/\Hp m m' [.sl x.1 16 x.2 (r.1.map R5)]):=by
 unfold Md at hF;refine aw (m0:=m) (ps:=[.rd a3 c1 16 l2.length (l2.map R5),.gen (aN aD r0 l1 e0),.rd a1 c0 1 l1.length e0]) (N:=113) (rs:=[.tmp 6,.tmp 7]) rfl Tryz.func38 rfl rfl rfl (Rz (Hp.AH (Rz (Rj m) cl h31) (dJ cl) h32) (Mx (dJ cl)) h33)<|Q2<|QZ<|QY (ai rfl) rfl<|QY (ai rfl) rfl<|Q3<|Q4<|Q2<|Q2<|QZ<|QY (ab rfl) rfl ?_;obtain⟨r27,h34,hF⟩:=aa hF;refine Q5 (bW rfl rfl (fun m hm=>vu n l1 a1 c0 r0 e0 _ h34 m (hm.rd (k:=2) rfl (.rd _ _ _ _ _)) (hm.dp (q:=1) rfl)) fun _=>rfl) gn rfl ?_;rintro⟨⟩;refine QY (ai rfl) rfl<|Q3<|Q4<|Q2<|QZ<|QY (ab rfl) rfl<|QY (an rfl rfl (cc _ _)) rfl<|Q3<|Q4 ?_;rcases aj hF with⟨h12,hF⟩|⟨h12,hF⟩
 refine Rf rfl h12<|Q2<|QZ<|QY (ab rfl) rfl<|QY (ai rfl) rfl<|QY (ai rfl) rfl<|Q3<|Q4<|Q9<|Rp ?_;cases hF;exact Rb (.tmp rfl (.tmp rfl .nil)) fun m' hm=>⟨(none,0),rfl,(ah.trans (ah.nil 16 rfl) (ah.ae [0] rfl rfl)) m' hm⟩
 refine Rg rfl h12<|Q8<|Q4<|Q2<|Q2<|QZ<|QY (ab rfl) rfl ?_;obtain⟨v2,h35,hF⟩:=aa hF;refine Q5 (lJ (α:=RS) (V:=fun g=>(fun(r:Bool) (g:RS)=>match r,g with|v2,_=>(.bool v2:QP)) v2 g) (N:=fun g=>(fun(r:Bool) (g:RS)=>match r,g with|v2,_=>([.rd a1 c0 1 l1.length e0,.gen (aN aD r0 l1 e0),.rd a3 c1 16 l2.length (l2.map R5)]:RR Pc)) v2 g) rfl rfl (fun m hm=>?_)) gn rfl ?_
 clear hF;revert v2;intro r hF;refine aw (N:=9) (rs:=[.tmp 4]) rfl Tryz.func125 rfl rfl rfl hm<|Q2<|QZ<|QY (ai rfl) rfl<|Q3<|Q4<|Q2<|QZ<|QY (ab rfl) rfl<|QY (ab rfl) rfl ?_;obtain⟨v3,h36,hF⟩:=aa hF;refine Q5 (lJ (α:=RS) (V:=fun g=>(fun(r:Int) (g:RS)=>match r,g with|v3,_=>(.int .i64 v3:QP)) v3 g) (N:=fun g=>(fun(r:Int) (g:RS)=>match r,g with|v3,_=>([.rd a1 c0 1 l1.length e0,.gen (aN aD r0 l1 e0),.rd a3 c1 16 l2.length (l2.map R5)]:RR Pc)) v3 g) rfl rfl (fun m hm=>?_)) gn rfl ?_
 clear hF;revert v3;intro r hF;refine aw (N:=19) (rs:=[.tmp 4]) rfl Tryz.func192 rfl rfl rfl hm<|Q2<|QZ<|QY (ai rfl) rfl<|Q3<|Q4<|Q2<|Q2<|QZ<|QY (ab rfl) rfl<|QY (bj (k:=0) xl rfl rfl (.inl rfl)) rfl<|QY (ab rfl) rfl<|Q3<|Q4<|Ra ?_;obtain⟨r19,h13,hF⟩:=aa hF;refine Rh (G:=(fun(r:Int⊕RS) (g:RS)=>match r,g with|.inl v5,_=>⟨.ret,[(4,.int .i64 v5)],[.rd a1 c0 1 l1.length e0,.gen (aN aD r0 l1 e0),.rd a3 c1 16 l2.length (l2.map R5)]⟩|.inr _,_=>⟨(.exit 0),[],[.rd a1 c0 1 l1.length e0,.gen (aN aD r0 l1 e0),.rd a3 c1 16 l2.length (l2.map R5)]⟩) r19) ?_ ?_
 refine Rv (fs':=[(0,.slice a3 l2.length c1),(1,.func (.func 126) #[] #[]),(7,.int .i64 (l2.length:Int)),(8,.int .i64 0)]) (ps':=[.rd a3 c1 16 l2.length (l2.map R5),.rd a1 c0 1 l1.length e0,.gen (aN aD r0 l1 e0)]) (sc rfl (sc rfl (sc rfl (sc rfl sn)))) (ah.ae [0,2,1] rfl rfl) ?_;refine Rl (σ:=Int) (ρ:=(Int)⊕RS) (γ:=RS) (δ:=fun _=>RS) _ (fun(s:Int) (g:RS)=>match s,g with|v8,_=>⟨.normal,[(0,.slice a3 l2.length c1),(1,.func (.func 126) #[] #[]),(7,.int .i64 (l2.length:Int)),(8,.int .i64 v8)],[.rd a3 c1 16 l2.length (l2.map R5),.rd a1 c0 1 l1.length e0,.gen (aN aD r0 l1 e0)]⟩) (fun(r:Int⊕RS) (g:RS)=>match r,g with|.inl v5,_=>⟨.ret,[(4,.int .i64 v5)],[.rd a1 c0 1 l1.length e0,.gen (aN aD r0 l1 e0),.rd a3 c1 16 l2.length (l2.map R5)]⟩|.inr _,_=>⟨(.exit 0),[],[.rd a1 c0 1 l1.length e0,.gen (aN aD r0 l1 e0),.rd a3 c1 16 l2.length (l2.map R5)]⟩) ?_ (fun _ _=>rfl) (fun r d=>by rcases r with _|_<;>(intro e; cases e)) _ _ _ h13 ()
 clear hF h13;rintro v8 ⟨⟩ r hF;unfold yI at hF;refine Q2<|QZ<|QY (an rfl rfl (aM _ _ _)) rfl<|Q3<|Q4<|Q2 ?_;rcases aj hF with⟨h14,hF⟩|⟨h14,hF⟩
 refine Rf rfl h14<|Q8<|Q4<|Q2<|Ra<|Q2<|QZ<|QY (ab rfl) rfl<|QY (ai rfl) rfl<|Q3<|Q4<|Q2<|QZ<|QY (ab rfl) rfl<|QY (ab rfl) rfl<|QY (ab rfl) rfl ?_;obtain⟨h7,hF⟩:=ak hF;replace h7:=aq h7;refine Ry (k:=0) rfl (aO h7) ?_;rintro b5 o4 rfl;refine Q6 (bw pR rfl rfl h7) gn rfl ?_;obtain⟨⟨x10,x11,x12,x13,x14,x15,x16,x17,x18,x19,x20,x21,x22,x23,x24,x25⟩,h37,hF⟩:=aa hF;refine QY (bR (k:=0) cV rfl rfl (aU h37) rfl rfl) rfl ?_;obtain⟨r28,h38,hF⟩:=aa hF;refine Q5 (bW rfl rfl (fun m hm=>Hc n x10 x11 x12 x13 x14 x15 x16 x17 x18 x19 x20 x21 x22 x23 x24 x25  _ h38 m) fun _=>rfl) gn rfl ?_;rintro⟨⟩;refine Q3<|Q4 ?_;rcases aj hF with⟨h15,hF⟩|⟨h15,hF⟩
 refine Rf rfl h15<|Q2<|QZ<|QY (ab rfl) rfl<|QY (ai rfl) rfl<|Q3<|Q4<|Q9<|RB<|Rp ?_;cases hF;exact Q7 () rfl (sc rfl sn) (ah.ae [2,3,1] rfl rfl)
 refine Rg rfl h15<|Q8<|Rr<|Q4<|QZ<|QY (an rfl rfl (aJ _ _ _)) rfl<|QY (ab rfl) rfl<|Q3 ?_;cases hF;exact Q7 () rfl (sc rfl (sc rfl (sc rfl (sc rfl sn)))) (ah.ae [1,2,3] rfl rfl)
 refine Rg rfl h14<|Rk<|Rs ?_;cases hF;exact Q7 () rfl sn (ah.ae [1,2,0] rfl rfl)
 rcases r19 with v5|_
 rintro⟨⟩;refine RB<|Rp ?_;have hr:=OK hF;subst r;exact Rb (.tmp rfl .nil) fun m' hm=>⟨(),rfl,(ah.ae [0,1,2] rfl rfl) m' hm⟩
 rintro⟨⟩;refine Ru<|Q4<|Q2<|QZ<|QY (ai rfl) rfl<|Q3<|Q4<|Q9 ?_;cases hF;exact Rb (.tmp rfl .nil) fun m' hm=>⟨(),rfl,(ah.ae [0,1,2] rfl rfl) m' hm⟩
 rintro⟨⟩;refine QY (an rfl rfl (dZ _ _ _)) rfl<|QY (ai rfl) rfl<|Q3<|Q4<|Q9 ?_;cases hF;exact Rb (.tmp rfl .nil) fun m' hm=>⟨(),rfl,(ah.ae [0,1,2] rfl rfl) m' hm⟩
 rintro⟨⟩;refine Q3<|Q4 ?_;rcases aj hF with⟨h16,hF⟩|⟨h16,hF⟩
 refine Rf rfl h16<|Q2<|QZ<|QY (ai rfl) rfl<|QY (ai rfl) rfl<|Q3<|Q4<|Q9<|Rp ?_;cases hF;exact Rb (.tmp rfl (.tmp rfl .nil)) fun m' hm=>⟨(none,0),rfl,(ah.trans (ah.nil 16 rfl) (ah.ae [0] rfl rfl)) m' hm⟩
 refine Rg rfl h16<|Q8<|Q4<|Q2<|Q2 ?_;obtain⟨v6,h39,hF⟩:=aa hF;refine Rh (G:=(fun(r:Bool) (g:RS)=>match r,g with|v6,_=>⟨.normal,[(0,.slice a1 l1.length c0),(1,.slice a3 l2.length c1),(2,.int .i64 x3),(41,.bool v6)],[.rd a1 c0 1 l1.length e0,.gen (aN aD r0 l1 e0),.rd a3 c1 16 l2.length (l2.map R5)]⟩) v6) ?_ ?_
 clear hF;revert v6;intro r hF;refine QZ<|QY (ab rfl) rfl<|QY (bj (k:=2) xl rfl rfl (.inl rfl)) rfl<|QY (ab rfl) rfl<|QY (bj (k:=0) oD rfl rfl (.inl rfl)) rfl<|QY (an rfl rfl (cc _ _)) rfl<|QY (ab rfl) rfl ?_;rcases aj hF with⟨h4,hF⟩|⟨h4,hF⟩
 refine Re (gg rfl rfl (cw h4)) rfl<|Re (gg rfl rfl (cw h4)) rfl<|Re (gg rfl rfl (cw h4)) rfl<|QY (dv rfl h4 rfl) rfl<|QY (ab rfl) rfl<|Re (gg rfl rfl rfl) rfl<|Re (gg rfl rfl rfl) rfl<|QY (iO rfl rfl) rfl<|QY (ab rfl) rfl<|Re (gg rfl rfl rfl) rfl ?_;refine Re (gg rfl rfl rfl) rfl<|QY (iO rfl rfl) rfl<|Q3 ?_;cases hF;exact Q7 () rfl (sc rfl (sc rfl (sc rfl (sc rfl sn)))) (ah.ae [0,1,2] rfl rfl)
 refine Q6 (ab rfl) (gg rfl rfl (cp h4)) rfl ?_;obtain⟨r29,h40,hF⟩:=aa hF;refine Q5 (bW rfl rfl (fun m hm=>BZ n l2 a3 c1 _ h40 m (hm.rd (k:=2) rfl (.rd _ _ _ _ _))) fun _=>rfl) (gg rfl rfl (cp h4)) rfl ?_;rintro⟨⟩;refine Q6 (iM rfl rfl) (gg rfl rfl (cp h4)) rfl<|QY (cX rfl h4 rfl) rfl<|QY (ab rfl) rfl ?_;rcases aj hF with⟨h5,hF⟩|⟨h5,hF⟩
 refine Re (gg rfl rfl (cw h5)) rfl<|Re (gg rfl rfl (cw h5)) rfl<|QY (dv rfl h5 rfl) rfl<|QY (ab rfl) rfl<|Re (gg rfl rfl rfl) rfl<|Re (gg rfl rfl rfl) rfl<|QY (iO rfl rfl) rfl<|Q3 ?_;cases hF;exact Q7 () rfl (sc rfl (sc rfl (sc rfl (sc rfl sn)))) (ah.ae [0,1,2] rfl rfl)
 refine Q6 (ab rfl) (gg rfl rfl (cp h5)) rfl<|Q6 (an rfl rfl (aM _ _ _)) (gg rfl rfl (cp h5)) rfl<|QY (cX rfl h5 rfl) rfl<|QY (ab rfl) rfl ?_;rcases aj hF with⟨h6,hF⟩|⟨h6,hF⟩
 refine Re (gg rfl rfl (cw h6)) rfl<|Re (gg rfl rfl (cw h6)) rfl<|QY (dv rfl h6 rfl) rfl<|Q3 ?_;cases hF;exact Q7 () rfl (sc rfl (sc rfl (sc rfl (sc rfl sn)))) (ah.ae [0,1,2] rfl rfl)
 refine Q6 (ab rfl) (gg rfl rfl (cp h6)) rfl<|Q6 (an rfl rfl (cS _ _ _)) (gg rfl rfl (cp h6)) rfl<|QY (cX rfl h6 rfl) rfl<|Q3 ?_;cases hF;exact Q7 () rfl (sc rfl (sc rfl (sc rfl (sc rfl sn)))) (ah.ae [0,1,2] rfl rfl)
 rintro⟨⟩;refine Q4 ?_;rcases aj hF with⟨h17,hF⟩|⟨h17,hF⟩
 refine Rf rfl h17<|Q2<|QZ<|QY (ai rfl) rfl<|QY (ai rfl) rfl<|Q3<|Q4<|Q9<|Rp ?_;cases hF;exact Rb (.tmp rfl (.tmp rfl .nil)) fun m' hm=>⟨(none,0),rfl,(ah.trans (ah.nil 16 rfl) (ah.ae [0] rfl rfl)) m' hm⟩
 refine Rg rfl h17<|Q8<|Q4<|Q2<|QZ<|QY (ai rfl) rfl<|Q3<|Q4<|Q2<|Q2<|QZ<|QY (ab rfl) rfl<|QY (bj (k:=2) xl rfl rfl (.inl rfl)) rfl<|QY (ab rfl) rfl<|Q3<|Q4<|Ra ?_;obtain⟨l7,h18,hF⟩:=aa hF;refine Rh (G:=(fun(r:RR R9) (g:QN×QM ×(Nat->Prop))=>match r,g with|l7,(a5,e5,r4)=>⟨(.exit 0),[(0,.slice a1 l1.length c0),(2,.int .i64 x3),(9,.slice a5 l7.length l7.length)],[.rd a1 c0 1 l1.length e0,.gen (aN aD r0 l1 e0),.sl a5 4 l7.length e5,.gen (aN aE r4 l7 e5)]⟩) l7) ?_ ?_
 refine Rv (fs':=[(0,.slice a1 l1.length c0),(2,.int .i64 x3),(9,.slice none ([]:RR R9).length ([]:RR R9).length),(42,.slice a3 l2.length c1),(43,.int .i64 (l2.length:Int)),(44,.int .i64 0)]) (ps':=[.rd a1 c0 1 l1.length e0,.gen (aN aD r0 l1 e0),.sl none 4 ([]:RR R9).length ([]),.gen (aN aE (fun _=>False) ([]:RR R9) ([])),.rd a3 c1 16 l2.length (l2.map R5)]) (sc rfl (sc rfl (sc rfl (sc rfl (sc rfl (sc rfl sn)))))) (ah.trans (ah.nil 4 rfl) (ah.trans (ah.rq (r:=aE)) (ah.ae [2,3,1,0,4] rfl rfl))) ?_;refine Rl (σ:=RR (R9)×Int) (ρ:=RR R9) (γ:=QN×QM ×(Nat->Prop)) (δ:=fun _=>QN×QM ×(Nat->Prop)) _ (fun(s:RR (R9)×Int) (g:QN×QM ×(Nat->Prop))=>match s,g with |(l21,v9),(a12,e10,r15)=>⟨.normal,[(0,.slice a1 l1.length c0),(2,.int .i64 x3),(9,.slice a12 l21.length l21.length),(42,.slice a3 l2.length c1),(43,.int .i64 (l2.length:Int)),(44,.int .i64 v9)],[.rd a1 c0 1 l1.length e0,.gen (aN aD r0 l1 e0),.sl a12 4 l21.length e10,.gen (aN aE r15 l21 e10),.rd a3 c1 16 l2.length (l2.map R5)]⟩) (fun(r:RR R9) (g:QN×QM ×(Nat->Prop))=>match r,g with|l7,(a5,e5,r4)=>⟨(.exit 0),[(0,.slice a1 l1.length c0),(2,.int .i64 x3),(9,.slice a5 l7.length l7.length)],[.rd a1 c0 1 l1.length e0,.gen (aN aD r0 l1 e0),.sl a5 4 l7.length e5,.gen (aN aE r4 l7 e5)]⟩) ?_ (fun _ _=>rfl) (fun r d=>by intro e; cases e) _ _ _ h18 (none,[],(fun _=>False))
 clear hF h18;rintro⟨l21,v9⟩ ⟨a12,e10,r15⟩ r hF;unfold uH at hF;refine Q2<|QZ<|QY (an rfl rfl (aM _ _ _)) rfl<|Q3<|Q4<|Q2 ?_;rcases aj hF with⟨h19,hF⟩|⟨h19,hF⟩
 refine Rf rfl h19<|Q8<|Q4<|Q2<|Ra<|Q2<|QZ ?_;obtain⟨h8,hF⟩:=ak hF;replace h8:=aq h8;refine Ry (k:=4) rfl (aO h8) ?_;rintro b6 o5 rfl;refine Q6 (bw pR rfl rfl h8) gn rfl ?_;obtain⟨⟨x26,x27,x28,x29,x30,x31,x32,x33,x34,x35,x36,x37,x38,x39,x40,x41⟩,h41,hF⟩:=aa hF;refine QY (bR (k:=0) cV rfl rfl (aU h41) rfl rfl) rfl<|Q5 (bE z68 rfl) gn rfl fun b7=>?_;refine Ri (bf (k:=0) cV rfl rfl rfl rfl rfl)<|Q3<|Q4<|QZ<|QY (ab rfl) rfl<|QY (ay (k:=0) cV rfl rfl rfl) rfl ?_;obtain⟨⟨r5,l15,r6,l16⟩,h42,hF⟩:=aa hF;refine Q5 (bA (N:=(fun x:QN×Nat×Nat×QN×Nat×Nat=>[.rd (x.1) (x.2.1) 1 (x.2.2.1) (l15.map R3),.rd (x.2.2.2.1) (x.2.2.2.2.1) 1 (x.2.2.2.2.2) (l16.map R3)])) rfl rfl (fun m hm=>ig n x26 x27 x28 x29 x30 x31 x32 x33 x34 x35 x36 x37 x38 x39 x40 x41  _ h42 m hm.ar) fun _=>rfl) gn rfl ?_;rintro⟨a13,c8,n4,a14,c9,n5⟩;refine Ro (k:=0) (xs:=l15) rfl ?_;rintro rfl;refine Ro (k:=1) (xs:=l16) rfl ?_;rintro rfl;refine Q5 (jl (es:=[[.bool r5,.slice a13 l15.length c8,.bool r6,.slice a14 l16.length c9]]) hJ rfl (jm hJ fb rfl rfl) rfl rfl) gn rfl fun b8=>?_;refine Wo.dp (r:=aE) (L:=([(r5,l15,r6,l16)]:RR R9)) (es:=[[.bool r5,.slice a13 l15.length c8,.bool r6,.slice a14 l16.length c9]]) (sY.cons (r:=aE) (z:=(r5,l15,r6,l16)) (g:=((),(a13,c8),(),(a14,c9))) (Lf.p (Lf.f (sW) _) (Lf.p (Lf.s (k:=1) rfl) (Lf.p (Lf.f (sW) _) (Lf.s (k:=2) rfl)))) sY.nil) ?_;intro r30;obtain⟨h43,hF⟩:=ak hF;refine Q5 (CE (r:=aE) (k:=8) (q:=9) (k2:=1) (q2:=0) (L:=l21) (L':=([(r5,l15,r6,l16)]:RR R9)) hJ ⟨_,CI⟩ rfl rfl rfl rfl (.arr _ _ _ _ _) rfl rfl h43) gn rfl ?_;rintro⟨a21,r23⟩;refine QY (ai rfl) rfl<|Q3<|Rr<|Q4<|QZ<|QY (an rfl rfl (aJ _ _ _)) rfl<|QY (ab rfl) rfl<|Q3 ?_;cases hF;exact Q7 (a21,(e10++([[.bool r5,.slice a13 l15.length c8,.bool r6,.slice a14 l16.length c9]]:QM)),r23) rfl (sc rfl (sc rfl (sc rfl (sc rfl (sc rfl (sc rfl sn)))))) (ah.ae [6,7,8,9,10] rfl rfl)
 refine Rg rfl h19<|Rk<|Rs ?_;cases hF;exact Q7 (a12,e10,r15) rfl (sc rfl (sc rfl (sc rfl sn))) (ah.ae [0,1,2,3] rfl rfl)
 rintro⟨a5,e5,r4⟩;refine Ru<|Q4<|Q2<|Q2<|QZ<|QY (ab rfl) rfl<|QY (ab rfl) rfl<|Q3<|Q4<|Ra ?_;obtain⟨r20,h20,hF⟩:=aa hF;refine Rh (G:=(fun(r:Nat×RR R9) (g:QN×QM ×(Nat->Prop))=>match r,g with |(n3,l17),(a8,e7,r9)=>⟨(.exit 2),[(9,.slice a8 n3 n3)],[.sl a8 4 n3 e7,.gen (aN aE r9 l17 e7)]⟩) r20) ?_ ?_
 refine Rv (fs':=[(0,.slice a1 l1.length c0),(9,.slice a5 l7.length l7.length),(54,.int .i64 x3),(55,.int .i64 0)]) (ps':=[.rd a1 c0 1 l1.length e0,.gen (aN aD r0 l1 e0),.sl a5 4 l7.length e5,.gen (aN aE r4 l7 e5)]) (sc rfl (sc rfl (sc rfl (sc rfl sn)))) (ah.ae [0,1,2,3] rfl rfl) ?_;refine Rl (σ:=Nat×RR (R9)×Int) (ρ:=Nat×RR R9) (γ:=QN×QM ×(Nat->Prop)) (δ:=fun _=>QN×QM ×(Nat->Prop)) _ (fun(s:Nat×RR (R9)×Int) (g:QN×QM ×(Nat->Prop))=>match s,g with |(n2,l8,v1),(a2,e3,r1)=>⟨.normal,[(0,.slice a1 l1.length c0),(9,.slice a2 n2 n2),(54,.int .i64 x3),(55,.int .i64 v1)],[.rd a1 c0 1 l1.length e0,.gen (aN aD r0 l1 e0),.sl a2 4 n2 e3,.gen (aN aE r1 l8 e3)]⟩) (fun(r:Nat×RR R9) (g:QN×QM ×(Nat->Prop))=>match r,g with |(n3,l17),(a8,e7,r9)=>⟨(.exit 2),[(9,.slice a8 n3 n3)],[.sl a8 4 n3 e7,.gen (aN aE r9 l17 e7)]⟩) ?_ (fun _ _=>rfl) (fun r d=>by intro e; cases e) _ _ _ h20 (a5,e5,r4)
 clear hF h20;rintro⟨n2,l8,v1⟩ ⟨a2,e3,r1⟩ r hF;unfold tA at hF;refine Q2<|QZ<|QY (an rfl rfl (aM _ _ _)) rfl<|Q3<|Q4<|Q2 ?_;rcases aj hF with⟨h21,hF⟩|⟨h21,hF⟩
 refine Rf rfl h21<|Q8<|Q4<|Q2<|Ra<|Q2<|QZ<|QY (ab rfl) rfl<|QY (bj (k:=0) oD rfl rfl (.inl rfl)) rfl ?_;obtain⟨h44,hF⟩:=ak hF;obtain⟨h45,hF⟩:=ak hF;refine Q5 (JY (es:=(List.replicate (l1.length:Int).toNat [.bool false,.slice none 0 0,.bool false,.slice none 0 0])) hJ rfl h44 h45 fb rfl rfl) gn rfl fun b0=>?_;refine Wo.dp (r:=aE) (L:=((List.replicate (l1.length:Int).toNat ((false,[],false,[]):R9)):RR R9)) (es:=(List.replicate (l1.length:Int).toNat [.bool false,.slice none 0 0,.bool false,.slice none 0 0])) (sY.Mm (r:=aE) (z:=(false,[],false,[])) (g:=((),(none,0),(),(none,0))) (Lf.p (Lf.f (sW) _) (Lf.p Lf.s0 (Lf.p (Lf.f (sW) _) Lf.s0))) _) ?_;intro r21;refine QY (ai rfl) rfl<|Q3<|Q4<|Q2<|Q2<|QZ<|QY (ab rfl) rfl<|QY (bj (k:=2) oD rfl rfl (.inl rfl)) rfl<|QY (ab rfl) rfl<|Q3<|Q4<|Ra ?_;obtain⟨l22,h22,hF⟩:=aa hF;refine Rh (G:=(fun(r:RR R9) (g:QM ×(Nat->Prop))=>match r,g with|l22,(e8,r10)=>⟨(.exit 4),[(0,.slice a1 l1.length c0),(12,.slice (some ⟨b0,0,none⟩) ((l1.length:Int).toNat) ((l1.length:Int).toNat)),(54,.int .i64 x3),(55,.int .i64 v1)],[.rd a1 c0 1 l1.length e0,.gen (aN aD r0 l1 e0),.arr b0 4 ((l1.length:Int).toNat) e8 .own,.gen (aN aE r10 l22 e8)]⟩) l22) ?_ ?_
 refine Rv (fs':=[(0,.slice a1 l1.length c0),(9,.slice a2 n2 n2),(12,.slice (some ⟨b0,0,none⟩) ((l1.length:Int).toNat) ((l1.length:Int).toNat)),(54,.int .i64 x3),(55,.int .i64 v1),(61,.int .i64 (l1.length:Int)),(62,.int .i64 0)]) (ps':=[.rd a1 c0 1 l1.length e0,.gen (aN aD r0 l1 e0),.sl a2 4 n2 e3,.gen (aN aE r1 l8 e3),.arr b0 4 ((l1.length:Int).toNat) (List.replicate (l1.length:Int).toNat [.bool false,.slice none 0 0,.bool false,.slice none 0 0]) .own,.gen (aN aE r21 (List.replicate (l1.length:Int).toNat ((false,[],false,[]):R9)) (List.replicate (l1.length:Int).toNat [.bool false,.slice none 0 0,.bool false,.slice none 0 0]))]) (sc rfl (sc rfl (sc rfl (sc rfl (sc rfl (sc rfl (sc rfl sn))))))) (ah.ae [2,3,4,5,1,0] rfl rfl) ?_;refine Rl (σ:=RR (R9)×Int) (ρ:=RR R9) (γ:=QM ×(Nat->Prop)) (δ:=fun _=>QM ×(Nat->Prop)) _ (fun(s:RR (R9)×Int) (g:QM ×(Nat->Prop))=>match s,g with |(l26,v0),(e6,r13)=>⟨.normal,[(0,.slice a1 l1.length c0),(9,.slice a2 n2 n2),(12,.slice (some ⟨b0,0,none⟩) ((l1.length:Int).toNat) ((l1.length:Int).toNat)),(54,.int .i64 x3),(55,.int .i64 v1),(61,.int .i64 (l1.length:Int)),(62,.int .i64 v0)],[.rd a1 c0 1 l1.length e0,.gen (aN aD r0 l1 e0),.sl a2 4 n2 e3,.gen (aN aE r1 l8 e3),.arr b0 4 ((l1.length:Int).toNat) e6 .own,.gen (aN aE r13 l26 e6)]⟩) (fun(r:RR R9) (g:QM ×(Nat->Prop))=>match r,g with|l22,(e8,r10)=>⟨(.exit 4),[(0,.slice a1 l1.length c0),(12,.slice (some ⟨b0,0,none⟩) ((l1.length:Int).toNat) ((l1.length:Int).toNat)),(54,.int .i64 x3),(55,.int .i64 v1)],[.rd a1 c0 1 l1.length e0,.gen (aN aD r0 l1 e0),.arr b0 4 ((l1.length:Int).toNat) e8 .own,.gen (aN aE r10 l22 e8)]⟩) ?_ (fun _ _=>rfl) (fun r d=>by intro e; cases e) _ _ _ h22 ((List.replicate (l1.length:Int).toNat [.bool false,.slice none 0 0,.bool false,.slice none 0 0]),r21)
 clear hF h22;rintro⟨l26,v0⟩ ⟨e6,r13⟩ r hF;unfold tK at hF;refine Q2<|QZ<|QY (an rfl rfl (aM _ _ _)) rfl<|Q3<|Q4<|Q2 ?_;rcases aj hF with⟨h23,hF⟩|⟨h23,hF⟩
 refine Rf rfl h23<|Q8<|Q4<|Q2<|Ra<|Q2<|QZ<|QY (ab rfl) rfl<|QY (ai rfl) rfl<|Q3<|Q4<|Q2<|QZ<|QY (ab rfl) rfl<|QY (ab rfl) rfl ?_;obtain⟨⟨r7,l13,r8,l14⟩,h46,hF⟩:=aa hF;refine Q5 (bA (N:=(fun x:QN×Nat×Nat×QN×Nat×Nat=>[.rd (x.1) (x.2.1) 1 (x.2.2.1) (l13.map R3),.rd (x.2.2.2.1) (x.2.2.2.2.1) 1 (x.2.2.2.2.2) (l14.map R3)])) rfl rfl (fun m hm=>nJ n 0  _ h46 m hm.ar) fun _=>rfl) gn rfl ?_;rintro⟨a10,c6,n6,a11,c7,n7⟩;refine Ro (k:=0) (xs:=l13) rfl ?_;rintro rfl;refine Ro (k:=1) (xs:=l14) rfl ?_;rintro rfl;obtain⟨h24,hF⟩:=ak hF;replace h24:=aq h24;refine Q6 (cF hJ rfl rfl h24) gn rfl ?_;obtain⟨⟨x8,l27,x9,l28⟩,h47,hF⟩:=aa hF;refine Wo.lf (r:=aE) (q:=7) (j:=v0.toNat) (z:=(x8,l27,x9,l28)) (N:=fun g=>[.rd g.2.1.1 g.2.1.2 1 l27.length (l27.map R3),.rd g.2.2.2.1 g.2.2.2.2 1 l28.length (l28.map R3),.rd a10 c6 1 l13.length (l13.map R3),.rd a11 c7 1 l14.length (l14.map R3),.rd a1 c0 1 l1.length e0,.gen (aN aD r0 l1 e0),.sl a2 4 n2 e3,.gen (aN aE r1 l8 e3),.arr b0 4 ((l1.length:Int).toNat) e6 .own,.gen (aN aE r13 l26 e6)]) rfl h47 (fun _=>rfl) ?_;rintro⟨_,⟨a22,c17⟩,_,⟨a23,c19⟩⟩ h48;refine Ri (sT (k:=8) (j:=v0.toNat) (c:=0) (e:=[.bool x8,.slice a22 l27.length c17,.bool x9,.slice a23 l28.length c19]) (e':=[.bool r7,.slice a10 l13.length c6,.bool r8,.slice a11 l14.length c7]) bp rfl rfl rfl h48 rfl)<|Wo.mO (r:=aE) (q:=9) (j:=v0.toNat) (z:=(r7,l13,r8,l14)) (g:=((),(a10,c6),(),(a11,c7))) rfl (Lf.p (Lf.f (sW) _) (Lf.p (Lf.s (k:=2) rfl) (Lf.p (Lf.f (sW) _) (Lf.s (k:=3) rfl)))) ?_;intro r22;refine Q3<|Q4<|Q2<|QZ<|QY (ab rfl) rfl<|QY (bj (k:=6) CI rfl rfl (.inl rfl)) rfl<|QY (ab rfl) rfl<|Q3<|Q4<|Ra ?_;obtain⟨l23,h25,hF⟩:=aa hF;refine Rh (G:=(fun(r:RR R9) (g:QM ×(Nat->Prop))=>match r,g with|l23,(e9,r11)=>⟨(.exit 6),[(0,.slice a1 l1.length c0),(9,.slice a2 n2 n2),(12,.slice (some ⟨b0,0,none⟩) ((l1.length:Int).toNat) ((l1.length:Int).toNat)),(54,.int .i64 x3),(55,.int .i64 v1),(61,.int .i64 (l1.length:Int)),(62,.int .i64 v0)],[.rd a1 c0 1 l1.length e0,.gen (aN aD r0 l1 e0),.sl a2 4 n2 e3,.gen (aN aE r1 l8 e3),.arr b0 4 ((l1.length:Int).toNat) e9 .own,.gen (aN aE r11 l23 e9)]⟩) l23) ?_ ?_
 refine Rv (fs':=[(0,.slice a1 l1.length c0),(9,.slice a2 n2 n2),(12,.slice (some ⟨b0,0,none⟩) ((l1.length:Int).toNat) ((l1.length:Int).toNat)),(13,.int .i64 v0),(54,.int .i64 x3),(55,.int .i64 v1),(61,.int .i64 (l1.length:Int)),(62,.int .i64 v0),(69,.slice a2 n2 n2),(70,.int .i64 (n2:Int)),(71,.int .i64 0)]) (ps':=[.rd a1 c0 1 l1.length e0,.gen (aN aD r0 l1 e0),.sl a2 4 n2 e3,.gen (aN aE r1 l8 e3),.arr b0 4 ((l1.length:Int).toNat) (e6.set v0.toNat [.bool r7,.slice a10 l13.length c6,.bool r8,.slice a11 l14.length c7]) .own,.gen (aN aE r22 (l26.set v0.toNat (r7,l13,r8,l14)) (e6.set v0.toNat [.bool r7,.slice a10 l13.length c6,.bool r8,.slice a11 l14.length c7]))]) (sc rfl (sc rfl (sc rfl (sc rfl (sc rfl (sc rfl (sc rfl (sc rfl (sc rfl (sc rfl (sc rfl sn))))))))))) (ah.ae [4,5,6,7,8,9] rfl rfl) ?_;refine Rl (σ:=RR (R9)×Int) (ρ:=RR R9) (γ:=QM ×(Nat->Prop)) (δ:=fun _=>QM ×(Nat->Prop)) _ (fun(s:RR (R9)×Int) (g:QM ×(Nat->Prop))=>match s,g with |(l18,v4),(e4,r3)=>⟨.normal,[(0,.slice a1 l1.length c0),(9,.slice a2 n2 n2),(12,.slice (some ⟨b0,0,none⟩) ((l1.length:Int).toNat) ((l1.length:Int).toNat)),(13,.int .i64 v0),(54,.int .i64 x3),(55,.int .i64 v1),(61,.int .i64 (l1.length:Int)),(62,.int .i64 v0),(69,.slice a2 n2 n2),(70,.int .i64 (n2:Int)),(71,.int .i64 v4)],[.rd a1 c0 1 l1.length e0,.gen (aN aD r0 l1 e0),.sl a2 4 n2 e3,.gen (aN aE r1 l8 e3),.arr b0 4 ((l1.length:Int).toNat) e4 .own,.gen (aN aE r3 l18 e4)]⟩) (fun(r:RR R9) (g:QM ×(Nat->Prop))=>match r,g with|l23,(e9,r11)=>⟨(.exit 6),[(0,.slice a1 l1.length c0),(9,.slice a2 n2 n2),(12,.slice (some ⟨b0,0,none⟩) ((l1.length:Int).toNat) ((l1.length:Int).toNat)),(54,.int .i64 x3),(55,.int .i64 v1),(61,.int .i64 (l1.length:Int)),(62,.int .i64 v0)],[.rd a1 c0 1 l1.length e0,.gen (aN aD r0 l1 e0),.sl a2 4 n2 e3,.gen (aN aE r1 l8 e3),.arr b0 4 ((l1.length:Int).toNat) e9 .own,.gen (aN aE r11 l23 e9)]⟩) ?_ (fun _ _=>rfl) (fun r d=>by intro e; cases e) _ _ _ h25 ((e6.set v0.toNat [.bool r7,.slice a10 l13.length c6,.bool r8,.slice a11 l14.length c7]),r22)
 clear hF h25;rintro⟨l18,v4⟩ ⟨e4,r3⟩ r hF;unfold sw at hF;refine Q2<|QZ<|QY (an rfl rfl (aM _ _ _)) rfl<|Q3<|Q4<|Q2 ?_;rcases aj hF with⟨h26,hF⟩|⟨h26,hF⟩
 refine Rf rfl h26<|Q8<|Q4<|Q2 ?_;obtain⟨l29,h49,hF⟩:=aa hF;refine Rh (G:=(fun(r:RR R9) (g:QM ×(Nat->Prop))=>match r,g with|l29,(e11,r16)=>⟨.normal,[(0,.slice a1 l1.length c0),(9,.slice a2 n2 n2),(12,.slice (some ⟨b0,0,none⟩) ((l1.length:Int).toNat) ((l1.length:Int).toNat)),(13,.int .i64 v0),(54,.int .i64 x3),(55,.int .i64 v1),(61,.int .i64 (l1.length:Int)),(62,.int .i64 v0),(69,.slice a2 n2 n2),(70,.int .i64 (n2:Int)),(71,.int .i64 v4)],[.rd a1 c0 1 l1.length e0,.gen (aN aD r0 l1 e0),.sl a2 4 n2 e3,.gen (aN aE r1 l8 e3),.arr b0 4 ((l1.length:Int).toNat) e11 .own,.gen (aN aE r16 l29 e11)]⟩) l29) ?_ ?_
 clear hF;revert l29;intro r hF;refine Ra<|Q2<|QZ<|QY (ab rfl) rfl ?_;obtain⟨h9,hF⟩:=ak hF;replace h9:=aq h9;refine Wo.open (k:=2) rfl (aO h9) ?_;rintro b2 t0 rfl h61;refine Q6 (cF hJ rfl rfl h9) gn rfl ?_;obtain⟨⟨x4,l3,x5,l4⟩,h50,hF⟩:=aa hF;refine Q5 (dV (r:=aE) (w:=4) (j:=v4.toNat) (c:=0) (q:=3) (z:=(x4,l3,x5,l4)) (V:=fun g=>.agg #[.bool x4,.slice g.2.1.1 l3.length g.2.1.2,.bool x5,.slice g.2.2.2.1 l4.length g.2.2.2.2]) (N:=fun g=>[.rd g.2.1.1 g.2.1.2 1 l3.length (l3.map R3),.rd g.2.2.2.1 g.2.2.2.2 1 l4.length (l4.map R3),.rd a1 c0 1 l1.length e0,.gen (aN aD r0 l1 e0),.arr b2 4 n2 e3 t0,.gen (aN aE r1 l8 e3),.arr b0 4 ((l1.length:Int).toNat) e4 .own,.gen (aN aE r3 l18 e4)]) bp rfl (wG _ _) (kn (k:=2) rfl) rfl h50 (fun _=>rfl) rfl (fun _=>rfl)) gn rfl ?_;rintro⟨_,⟨a4,c2⟩,_,⟨a6,c3⟩⟩;refine Q5 (bE fb rfl) gn rfl fun b3=>?_;refine QY (ai rfl) rfl<|Ri (bf (k:=0) bp rfl rfl rfl rfl rfl)<|Q3<|Q4<|Q2<|QZ<|QY (ab rfl) rfl<|QY (ab rfl) rfl ?_;obtain⟨h10,hF⟩:=ak hF;replace h10:=aq h10;refine Ry (k:=3) rfl (aO h10) ?_;rintro b1 o3 rfl;refine Q6 (bw sX rfl rfl h10) gn rfl ?_;obtain⟨l30,h51,hF⟩:=aa hF;refine Q5 (dV (r:=aD) (w:=1) (j:=v4.toNat) (c:=0) (q:=5) (z:=l30) (V:=fun g=>.slice g.1 l30.length g.2) (N:=fun g=>[.rd g.1 g.2 16 l30.length (l30.map R5),.ro b1 o3 1 l1.length e0,.obj b3 (.cells [.bool x4,.slice a4 l3.length c2,.bool x5,.slice a6 l4.length c3] .own),.rd a4 c2 1 l3.length (l3.map R3),.rd a6 c3 1 l4.length (l4.map R3),.rd (some ⟨b1,o3,none⟩) c0 1 l1.length e0,.gen (aN aD r0 l1 e0),.arr b2 4 n2 e3 t0,.gen (aN aE r1 l8 e3),.arr b0 4 ((l1.length:Int).toNat) e4 .own,.gen (aN aE r3 l18 e4)]) lC rfl rfl (gJ (k:=0) rfl) rfl h51 (fun _=>rfl) rfl (fun _=>rfl)) gn rfl ?_;rintro⟨a27,c23⟩;refine QY (ab rfl) rfl ?_;obtain⟨h11,hF⟩:=ak hF;replace h11:=aq h11;refine Ry (k:=0) rfl (aO h11) ?_;rintro b9 o6 rfl;refine Q6 (bw pR rfl rfl h11) gn rfl ?_;obtain⟨⟨x42,x43,x44,x45,x46,x47,x48,x49,x50,x51,x52,x53,x54,x55,x56,x57⟩,h52,hF⟩:=aa hF;refine QY (bR (k:=0) cV rfl rfl (aU h52) rfl rfl) rfl ?_;obtain⟨⟨r12,l9,r14,l10⟩,h53,hF⟩:=aa hF;refine Q5 (bA (N:=(fun x:QN×Nat×Nat×QN×Nat×Nat=>[.rd (x.1) (x.2.1) 1 (x.2.2.1) (l9.map R3),.rd (x.2.2.2.1) (x.2.2.2.2.1) 1 (x.2.2.2.2.2) (l10.map R3)])) rfl rfl (fun m hm=>ig n x42 x43 x44 x45 x46 x47 x48 x49 x50 x51 x52 x53 x54 x55 x56 x57  _ h53 m hm.ar) fun _=>rfl) gn rfl ?_;rintro⟨a7,c4,n8,a9,c5,n9⟩;refine Ro (k:=0) (xs:=l9) rfl ?_;rintro rfl;refine Ro (k:=1) (xs:=l10) rfl ?_;rintro rfl;refine Q5 (bE fb rfl) gn rfl fun b4=>?_;refine Ri (bf (k:=0) bp rfl rfl rfl rfl rfl)<|Q3<|Q4<|Q2 ?_;obtain⟨v7,h54,hF⟩:=aa hF;refine Rh (G:=(fun(r:Bool) (g:RS)=>match r,g with|v7,_=>⟨.normal,[(0,.slice (some ⟨b1,o3,none⟩) l1.length c0),(9,.slice (some ⟨b2,0,none⟩) n2 n2),(12,.slice (some ⟨b0,0,none⟩) ((l1.length:Int).toNat) ((l1.length:Int).toNat)),(13,.int .i64 v0),(15,ptr b3 0),(16,ptr b4 0),(54,.int .i64 x3),(55,.int .i64 v1),(61,.int .i64 (l1.length:Int)),(62,.int .i64 v0),(69,.slice (some ⟨b2,0,none⟩) n2 n2),(70,.int .i64 (n2:Int)),(71,.int .i64 v4),(93,.bool v7)],[.ro b1 o3 1 l1.length e0,.gen (aN aD r0 l1 e0),.rd (some ⟨b1,o3,none⟩) c0 1 l1.length e0,.arr b2 4 n2 e3 t0,.gen (aN aE r1 l8 e3),.arr b0 4 ((l1.length:Int).toNat) e4 .own,.gen (aN aE r3 l18 e4),.obj b3 (.cells [.bool x4,.slice a4 l3.length c2,.bool x5,.slice a6 l4.length c3] .own),.rd a4 c2 1 l3.length (l3.map R3),.rd a6 c3 1 l4.length (l4.map R3),.obj b4 (.cells [.bool r12,.slice a7 l9.length c4,.bool r14,.slice a9 l10.length c5] .own),.rd a7 c4 1 l9.length (l9.map R3),.rd a9 c5 1 l10.length (l10.map R3)]⟩) v7) ?_ ?_
 clear hF;revert v7;intro r hF;refine QZ<|QY (aW (r:=ptr b4 0) rfl (ez _ _)) rfl<|QY (ay (k:=0) aS rfl rfl rfl) rfl ?_;obtain⟨r31,h55,hF⟩:=aa hF;refine Q5 (bW rfl rfl (fun m hm=>oW n r12 l9 a7 c4 _ h55 m (hm.rd (k:=1) rfl (.rd _ _ _ _ _))) fun _=>rfl) gn rfl ?_;rintro⟨⟩;refine QY (an rfl rfl (cc _ _)) rfl<|QY (ab rfl) rfl ?_;rcases aj hF with⟨h0,hF⟩|⟨h0,hF⟩
 refine Q6 (aW (r:=ptr b3 0) rfl (ez _ _)) (gg rfl rfl (gK h0)) rfl<|Q6 (ay (k:=6) aS rfl rfl rfl) (gg rfl rfl (gK h0)) rfl ?_;obtain⟨r32,h56,hF⟩:=aa hF;refine Q5 (bW rfl rfl (fun m hm=>oW n x4 l3 a4 c2 _ h56 m (hm.rd (k:=7) rfl (.rd _ _ _ _ _))) fun _=>rfl) (gg rfl rfl (gK h0)) rfl ?_;rintro⟨⟩;refine Q6 (an rfl rfl (cc _ _)) (gg rfl rfl (gK h0)) rfl<|QY (dv rfl h0 rfl) rfl<|Q3 ?_;cases hF;exact Q7 () rfl (sc rfl (sc rfl (sc rfl (sc rfl (sc rfl (sc rfl (sc rfl (sc rfl (sc rfl (sc rfl (sc rfl (sc rfl (sc rfl (sc rfl sn)))))))))))))) (ah.ae [5,10,9,11,12,13,14,6,7,8,0,1,2] rfl rfl)
 refine Re (gg rfl rfl (gN h0)) rfl<|Re (gg rfl rfl (gN h0)) rfl<|Re (gg rfl rfl (gN h0)) rfl<|Re (gg rfl rfl (gN h0)) rfl<|QY (cX rfl h0 rfl) rfl<|Q3 ?_;cases hF;exact Q7 () rfl (sc rfl (sc rfl (sc rfl (sc rfl (sc rfl (sc rfl (sc rfl (sc rfl (sc rfl (sc rfl (sc rfl (sc rfl (sc rfl (sc rfl sn)))))))))))))) (ah.ae [5,10,9,11,12,13,14,6,7,8,0,1,2] rfl rfl)
 rintro⟨⟩;refine Q4 ?_;rcases aj hF with⟨h27,hF⟩|⟨h27,hF⟩
 refine Rf rfl h27<|RD (prs:=[(5,8)]) (by kernel_rfl)<|Rc (ab rfl) rfl<|Rc (ab rfl) rfl<|Rc (ab rfl) rfl<|Rc (ab rfl) rfl ?_
 obtain⟨h28,hF⟩:=ak hF;replace h28:=aq h28;refine RG (cF hJ rfl rfl h28) gn rfl ?_;obtain⟨⟨x6,l11,x7,l12⟩,h30,hF⟩:=aa hF;refine Wn.x (dV (r:=aE) (w:=4) (j:=v0.toNat) (c:=0) (q:=6) (z:=(x6,l11,x7,l12)) (V:=fun g=>.agg #[.bool x6,.slice g.2.1.1 l11.length g.2.1.2,.bool x7,.slice g.2.2.2.1 l12.length g.2.2.2.2]) (N:=fun g=>[.rd g.2.1.1 g.2.1.2 1 l11.length (l11.map R3),.rd g.2.2.2.1 g.2.2.2.2 1 l12.length (l12.map R3),.ro b1 o3 1 l1.length e0,.gen (aN aD r0 l1 e0),.rd (some ⟨b1,o3,none⟩) c0 1 l1.length e0,.arr b2 4 n2 e3 t0,.gen (aN aE r1 l8 e3),.arr b0 4 ((l1.length:Int).toNat) e4 .own,.gen (aN aE r3 l18 e4),.obj b3 (.cells [.bool x4,.slice a4 l3.length c2,.bool x5,.slice a6 l4.length c3] .own),.rd a4 c2 1 l3.length (l3.map R3),.rd a6 c3 1 l4.length (l4.map R3),.obj b4 (.cells [.bool r12,.slice a7 l9.length c4,.bool r14,.slice a9 l10.length c5] .own),.rd a7 c4 1 l9.length (l9.map R3),.rd a9 c5 1 l10.length (l10.map R3)]) bp rfl (wG _ _) (kn (k:=5) rfl) rfl h30 (fun _=>rfl) rfl (fun _=>rfl)) gn rfl ?_;rintro⟨_,⟨a17,c12⟩,_,⟨a18,c13⟩⟩;refine Rc (ay (k:=9) bp rfl rfl rfl) rfl<|Rc (ay (k:=12) bp rfl rfl rfl) rfl ?_;obtain⟨⟨r24,l24,r25,l25⟩,h57,hF⟩:=aa hF;refine Rw (bu (N:=(fun x:QN×Nat×Nat×QN×Nat×Nat=>[.rd (x.1) (x.2.1) 1 (x.2.2.1) (l24.map R3),.rd (x.2.2.2.1) (x.2.2.2.2.1) 1 (x.2.2.2.2.2) (l25.map R3)])) rfl rfl (fun m hm=>qj n x4 l3 x5 l4 r12 l9 r14 l10 a4 c2 a6 c3 a7 c4 a9 c5 _ h57 m hm.ar (hm.rd (k:=10) rfl (.rd _ _ _ _ _)) (hm.au (k:=10) rfl) (hm.rd (k:=11) rfl (.rd _ _ _ _ _)) (hm.au (k:=11) rfl) (hm.rd (k:=13) rfl (.rd _ _ _ _ _)) (hm.au (k:=13) rfl) (hm.rd (k:=14) rfl (.rd _ _ _ _ _)) (hm.au (k:=14) rfl)) fun _=>rfl) gn rfl ?_;rintro⟨a19,c15,n10,a20,c16,n11⟩;refine Rm (k:=0) (xs:=l24) rfl ?_;rintro rfl;refine Rm (k:=1) (xs:=l25) rfl ?_;rintro rfl;obtain⟨⟨r17,l19,r18,l20⟩,h58,hF⟩:=aa hF;refine Rw (bu (N:=(fun x:QN×Nat×Nat×QN×Nat×Nat=>[.rd (x.1) (x.2.1) 1 (x.2.2.1) (l19.map R3),.rd (x.2.2.2.1) (x.2.2.2.2.1) 1 (x.2.2.2.2.2) (l20.map R3)])) rfl rfl (fun m hm=>qz n x6 l11 x7 l12 r24 l24 r25 l25 a17 c12 a18 c13 a19 c15 a20 c16 _ h58 m hm.ar (hm.rd (k:=2) rfl (.rd _ _ _ _ _)) (hm.au (k:=2) rfl) (hm.rd (k:=3) rfl (.rd _ _ _ _ _)) (hm.au (k:=3) rfl) (hm.rd (k:=0) rfl (.rd _ _ _ _ _)) (hm.au (k:=0) rfl) (hm.rd (k:=1) rfl (.rd _ _ _ _ _)) (hm.au (k:=1) rfl)) fun _=>rfl) gn rfl ?_;rintro⟨a15,c10,n12,a16,c11,n13⟩;refine Rm (k:=0) (xs:=l19) rfl ?_;rintro rfl;refine Rm (k:=1) (xs:=l20) rfl ?_;rintro rfl;obtain⟨h29,hF⟩:=ak hF;replace h29:=aq h29;refine RG (cF hJ rfl rfl h29) gn rfl ?_;refine Wn.lf (r:=aE) (q:=12) (j:=v0.toNat) (z:=(x6,l11,x7,l12)) (N:=fun g=>[.rd g.2.1.1 g.2.1.2 1 l11.length (l11.map R3),.rd g.2.2.2.1 g.2.2.2.2 1 l12.length (l12.map R3),.rd a15 c10 1 l19.length (l19.map R3),.rd a16 c11 1 l20.length (l20.map R3),.rd a19 c15 1 l24.length (l24.map R3),.rd a20 c16 1 l25.length (l25.map R3),.rd a17 c12 1 l11.length (l11.map R3),.rd a18 c13 1 l12.length (l12.map R3),.ro b1 o3 1 l1.length e0,.gen (aN aD r0 l1 e0),.rd (some ⟨b1,o3,none⟩) c0 1 l1.length e0,.arr b2 4 n2 e3 t0,.gen (aN aE r1 l8 e3),.arr b0 4 ((l1.length:Int).toNat) e4 .own,.gen (aN aE r3 l18 e4),.obj b3 (.cells [.bool x4,.slice a4 l3.length c2,.bool x5,.slice a6 l4.length c3] .own),.rd a4 c2 1 l3.length (l3.map R3),.rd a6 c3 1 l4.length (l4.map R3),.obj b4 (.cells [.bool r12,.slice a7 l9.length c4,.bool r14,.slice a9 l10.length c5] .own),.rd a7 c4 1 l9.length (l9.map R3),.rd a9 c5 1 l10.length (l10.map R3)]) rfl h30 (fun _=>rfl) ?_;rintro⟨_,⟨a24,c20⟩,_,⟨a25,c21⟩⟩ h59;refine RE (sT (k:=13) (j:=v0.toNat) (c:=0) (e:=[.bool x6,.slice a24 l11.length c20,.bool x7,.slice a25 l12.length c21]) (e':=[.bool r17,.slice a15 l19.length c10,.bool r18,.slice a16 l20.length c11]) bp rfl rfl rfl h59 rfl)<|Wn.mO (r:=aE) (q:=14) (j:=v0.toNat) (z:=(r17,l19,r18,l20)) (g:=((),(a15,c10),(),(a16,c11))) rfl (Lf.p (Lf.f (sW) _) (Lf.p (Lf.s (k:=2) rfl) (Lf.p (Lf.f (sW) _) (Lf.s (k:=3) rfl)))) ?_;intro r26;refine Rx (fun m hm=>fo.all rfl)<|Rr ?_;cases hF;exact Q7 ((e4.set v0.toNat [.bool r17,.slice a15 l19.length c10,.bool r18,.slice a16 l20.length c11]),r26) rfl (sc rfl (sc rfl (sc rfl (sc rfl (sc rfl (sc rfl (sc rfl (sc rfl (sc rfl (sc rfl (sc rfl sn))))))))))) (ah.trans (ah.close (k:=11) rfl) (ah.ae [10,9,11,12,13,14] rfl rfl))
 refine Rg rfl h27<|Q8<|Rr ?_;have hr:=OK hF;subst r;exact Q7 (e4,r3) rfl (sc rfl (sc rfl (sc rfl (sc rfl (sc rfl (sc rfl (sc rfl (sc rfl (sc rfl (sc rfl (sc rfl sn))))))))))) (ah.trans (ah.close (k:=3) rfl) (ah.ae [2,1,3,4,5,6] rfl rfl))
 rintro⟨e11,r16⟩;refine Q4<|QZ<|QY (an rfl rfl (aJ _ _ _)) rfl<|QY (ab rfl) rfl<|Q3 ?_;cases hF;exact Q7 (e11,r16) rfl (sc rfl (sc rfl (sc rfl (sc rfl (sc rfl (sc rfl (sc rfl (sc rfl (sc rfl (sc rfl (sc rfl sn))))))))))) (ah.ae [0,1,2,3,4,5] rfl rfl)
 refine Rg rfl h26<|Rk<|Rs ?_;cases hF;exact Q7 (e4,r3) rfl (sc rfl (sc rfl (sc rfl (sc rfl (sc rfl (sc rfl (sc rfl sn))))))) (ah.ae [0,1,2,3,4,5] rfl rfl)
 rintro⟨e9,r11⟩;refine Ru<|Rr<|Q4<|QZ<|QY (an rfl rfl (aJ _ _ _)) rfl<|QY (ab rfl) rfl<|Q3 ?_;cases hF;exact Q7 (e9,r11) rfl (sc rfl (sc rfl (sc rfl (sc rfl (sc rfl (sc rfl (sc rfl sn))))))) (ah.ae [0,1,2,3,4,5] rfl rfl)
 refine Rg rfl h23<|Rk<|Rs ?_;cases hF;exact Q7 (e6,r13) rfl (sc rfl (sc rfl (sc rfl (sc rfl sn)))) (ah.ae [0,1,4,5] rfl rfl)
 rintro⟨e8,r10⟩;refine Ru<|Q4<|QZ<|QY (ab rfl) rfl<|QY (ai rfl) rfl<|Q3<|Rr<|Q4<|QZ<|QY (an rfl rfl (aJ _ _ _)) rfl<|QY (ab rfl) rfl<|Q3 ?_;cases hF;exact Q7 ((some ⟨b0,0,none⟩),e8,r10) rfl (sc rfl (sc rfl (sc rfl (sc rfl sn)))) (ah.trans (ah.close (k:=2) rfl) (ah.ae [0,1,2,3] rfl rfl))
 refine Rg rfl h21<|Rk<|Rs ?_;cases hF;exact Q7 (a2,e3,r1) rfl (sc rfl sn) (ah.ae [2,3] rfl rfl)
 clear h20;obtain⟨n3,l17⟩:=r20;rintro⟨a8,e7,r9⟩;refine Ru<|Q4<|Q2<|QZ<|QY (ab rfl) rfl ?_;obtain⟨⟨l31,r33⟩,h60,hF⟩:=aa hF;have hFx:=hF;refine Wo.vz (k:=0) (q:=1) (L:=l17) rfl (.inl rfl) rfl ?_;rintro rfl;replace hF:=hFx;clear hFx;refine Q5 (bW rfl rfl (fun m hm=>uT n l17 a8 l17.length r9 e7 _ h60 m (hm.rd (k:=0) rfl (.sl _ _ _ _)) (hm.dp (q:=1) rfl)) fun _=>rfl) gn rfl ?_;rintro⟨a26,n14⟩;refine Wo.len (k:=0) (xs:=l31) rfl ?_;rintro rfl;refine QY (bZ rfl rfl) rfl<|QY (bZ rfl rfl) rfl<|QY (ai rfl) rfl<|QY (ai rfl) rfl<|Q3<|Q4<|Q9 ?_;cases hF;exact Rb (.tmp rfl (.tmp rfl .nil)) fun m' hm=>⟨(a26,l31.length),rfl,(ah.ae [0] rfl rfl) m' hm⟩
def K4(n:Nat)(l1:RR R7)(l5:RR R7)(a2:QN)(c3:Nat)(a6:QN)(c7:Nat)(r:Bool)(hF:M8 n l1 l5=some r)(m:RN)(h4:Rd m a2 c3 16 l1.length (l1.map R5))(h8:Rd m a6 c7 16 l5.length (l5.map R5)) :
  aG aL 35 [.slice a2 l1.length c3,.slice a6 l5.length c7] m (RM m (.bool r)):=by
 unfold M8 at hF;refine aw (m0:=m) (ps:=[.rd a6 c7 16 l5.length (l5.map R5),.rd a2 c3 16 l1.length (l1.map R5)]) (N:=26) (rs:=[.tmp 4]) rfl Tryz.func35 rfl rfl rfl (Rz (Rz (Rj m) cl h4) (dJ cl) h8)<|Q2<|QZ<|QY (ai rfl) rfl<|Q3<|Q4<|Q2<|Q2<|QZ<|QY (ab rfl) rfl<|QY (bj (k:=1) xl rfl rfl (.inl rfl)) rfl<|QY (ab rfl) rfl ?_;refine QY (bj (k:=0) xl rfl rfl (.inl rfl)) rfl<|QY (an rfl rfl (cc _ _)) rfl<|Q3<|Q4 ?_;rcases aj hF with⟨h9,hF⟩|⟨h9,hF⟩
 refine Rf rfl h9<|Q2<|QZ<|QY (ai rfl) rfl<|Q3<|Q4<|Q9<|Rp ?_;cases hF;exact Rb (.tmp rfl .nil) fun m' hm=>⟨(),rfl,(ah.ae [] rfl rfl) m' hm⟩
 refine Rg rfl h9<|Q8<|Q4<|Q2<|Q2<|QZ<|QY (ab rfl) rfl<|QY (bj (k:=1) xl rfl rfl (.inl rfl)) rfl<|QY (ab rfl) rfl<|Q3<|Q4<|Ra ?_;obtain⟨r98,h97,hF⟩:=aa hF;refine Rh (G:=(fun(r:RS⊕RS) (g:RS)=>match r,g with|.inl _,_=>⟨.ret,[(4,.bool false)],[]⟩|.inr _,_=>⟨(.exit 0),[],[]⟩) r98) ?_ ?_
 refine Rv (fs':=[(0,.slice a2 l1.length c3),(1,.slice a6 l5.length c7),(12,.int .i64 (l1.length:Int)),(13,.int .i64 0)]) (ps':=[.rd a2 c3 16 l1.length (l1.map R5),.rd a6 c7 16 l5.length (l5.map R5)]) (sc rfl (sc rfl (sc rfl (sc rfl sn)))) (ah.ae [1,0] rfl rfl) ?_;refine Rl (σ:=Int) (ρ:=(RS)⊕RS) (γ:=RS) (δ:=fun _=>RS) _ (fun(s:Int) (g:RS)=>match s,g with|v11,_=>⟨.normal,[(0,.slice a2 l1.length c3),(1,.slice a6 l5.length c7),(12,.int .i64 (l1.length:Int)),(13,.int .i64 v11)],[.rd a2 c3 16 l1.length (l1.map R5),.rd a6 c7 16 l5.length (l5.map R5)]⟩) (fun(r:RS⊕RS) (g:RS)=>match r,g with|.inl _,_=>⟨.ret,[(4,.bool false)],[]⟩|.inr _,_=>⟨(.exit 0),[],[]⟩) ?_ (fun _ _=>rfl) (fun r d=>by rcases r with _|_<;>(intro e; cases e)) _ _ _ h97 ()
 clear hF h97;rintro v11 ⟨⟩ r hF;unfold xz at hF;refine Q2<|QZ<|QY (an rfl rfl (aM _ _ _)) rfl<|Q3<|Q4<|Q2 ?_;rcases aj hF with⟨h55,hF⟩|⟨h55,hF⟩
 refine Rf rfl h55<|Q8<|Q4<|Q2<|Ra<|Q2<|QZ<|QY (ab rfl) rfl<|QY (ai rfl) rfl<|Q3<|Q4<|Q2<|RC (by kernel_rfl)<|QY (ab rfl) rfl<|QY (ab rfl) rfl ?_
 obtain⟨h56,hF⟩:=ak hF;replace h56:=aq h56;refine Ry (k:=0) rfl (aO h56) ?_;rintro b57 o58 rfl;refine Q6 (bw pR rfl rfl h56) gn rfl ?_;obtain⟨⟨x59,x60,x61,x62,x63,x64,x65,x66,x67,x68,x69,x70,x71,x72,x73,x74⟩,h75,hF⟩:=aa hF;refine QY (bR (k:=0) cV rfl rfl (aU h75) rfl rfl) rfl<|QY (ab rfl) rfl<|QY (ab rfl) rfl ?_;obtain⟨h76,hF⟩:=ak hF;replace h76:=aq h76;refine Ry (k:=2) rfl (aO h76) ?_;rintro b77 o78 rfl;refine Q6 (bw pR rfl rfl h76) gn rfl ?_;obtain⟨⟨x79,x80,x81,x82,x83,x84,x85,x86,x87,x88,x89,x90,x91,x92,x93,x94⟩,h95,hF⟩:=aa hF;refine QY (bR (k:=0) cV rfl rfl (aU h95) rfl rfl) rfl<|QY (an rfl rfl (J2 Mw (M3 _ _ _ _ _ _ _ _ _ _ _ _ _ _ _ _ _ _ _ _ _ _ _ _ _ _ _ _ _ _ _ _))) rfl<|Q3<|Q4 ?_;rcases aj hF with⟨h96,hF⟩|⟨h96,hF⟩
 refine Rf rfl h96<|Q2<|QZ<|QY (ai rfl) rfl<|Q3<|Q4<|Q9<|RB<|Rp ?_;cases hF;exact Q7 () rfl (sc rfl sn) (ah.ae [] rfl rfl)
 refine Rg rfl h96<|Q8<|Rr<|Q4<|QZ<|QY (an rfl rfl (aJ _ _ _)) rfl<|QY (ab rfl) rfl<|Q3 ?_;cases hF;exact Q7 () rfl (sc rfl (sc rfl (sc rfl (sc rfl sn)))) (ah.ae [2,3] rfl rfl)
 refine Rg rfl h55<|Rk<|Rs ?_;cases hF;exact Q7 () rfl sn (ah.ae [] rfl rfl)
 rcases r98 with _|_
 rintro⟨⟩;refine RB<|Rp ?_;cases hF;exact Rb (.tmp rfl .nil) fun m' hm=>⟨(),rfl,(ah.ae [] rfl rfl) m' hm⟩
 rintro⟨⟩;refine Ru<|Q4<|Q2<|QZ<|QY (ai rfl) rfl<|Q3<|Q4<|Q9 ?_;cases hF;exact Rb (.tmp rfl .nil) fun m' hm=>⟨(),rfl,(ah.ae [] rfl rfl) m' hm⟩
def Jd(n:Nat)(x1:Nat)(x2:Nat)(x3:Nat)(x4:Nat)(x5:Nat)(x6:Nat)(x7:Nat)(x8:Nat)(x9:Nat)(x10:Nat)(x11:Nat)(x12:Nat)(x13:Nat)(x14:Nat)(x15:Nat)(x16:Nat)  (r:Bool)(hF:IB n x1 x2 x3 x4 x5 x6 x7 x8 x9 x10 x11 x12 x13 x14 x15 x16=some r)(m:RN)  :
  aG aL 204 [.agg #[R6 x1,R6 x2,R6 x3,R6 x4,R6 x5,R6 x6,R6 x7,R6 x8,R6 x9,R6 x10,R6 x11,R6 x12,R6 x13,R6 x14,R6 x15,R6 x16]] m (RM m (.bool r)):=by
 unfold IB at hF;refine aw (m0:=m) (ps:=[]) (N:=6) (rs:=[.tmp 2]) rfl Tryz.func204 rfl rfl rfl (Rj m)<|Q2<|QZ<|Q5 (bQ rfl) gn rfl fun b17=>?_;refine QY (ai rfl) rfl<|Q3<|Q4<|Q2<|QZ<|QY (ay (k:=0) cV rfl rfl rfl) rfl ?_;obtain⟨r19,h18,hF⟩:=aa hF;refine Q5 (bW rfl rfl (fun m hm=>vi n x1 x2 x3 x4 x5 x6 x7 x8 x9 x10 x11 x12 x13 x14 x15 x16  _ h18 m) fun _=>rfl) gn rfl ?_;rintro⟨⟩;refine QY (an rfl rfl (cW _ _ _)) rfl<|QY (ai rfl) rfl<|Q3<|Q4<|Q9 ?_;cases hF;exact Rb (.tmp rfl .nil) fun m' hm=>⟨(),rfl,(ah.ae [] rfl rfl) m' hm⟩
def Ia(n:Nat)(l1:RR R7)(a1:QN)(c0:Nat)(r:Bool)(hF:CM n l1=some r)(m:RN)(h7:Rd m a1 c0 16 l1.length (l1.map R5)) :
  aG aL 143 [.slice a1 l1.length c0] m (RM m (.bool r)):=by
 unfold CM at hF;refine aw (m0:=m) (ps:=[.rd a1 c0 16 l1.length (l1.map R5)]) (N:=7) (rs:=[.tmp 2]) rfl Tryz.func143 rfl rfl rfl (Rz (Rj m) cl h7)<|Q2<|QZ<|QY (ai rfl) rfl<|Q3<|Q4<|Q2<|QZ<|QY (ai rfl) rfl<|Q3<|Q4<|Q2<|QZ<|QY (ab rfl) rfl<|QY (ab rfl) rfl ?_;obtain⟨v0,h8,hF⟩:=aa hF;refine Q5 (lJ (α:=RS) (V:=fun g=>(fun(r:Bool) (g:RS)=>match r,g with|v0,_=>(.bool v0:QP)) v0 g) (N:=fun g=>(fun(r:Bool) (g:RS)=>match r,g with|v0,_=>([]:RR Pc)) v0 g) rfl rfl (fun m hm=>?_)) gn rfl ?_
 clear hF;revert v0;intro r hF;refine aw (N:=18) (rs:=[.tmp 4]) rfl Tryz.func205 rfl rfl rfl hm<|Q2<|QZ<|QY (ai rfl) rfl<|Q3<|Q4<|Q2<|Q2<|QZ<|QY (ab rfl) rfl<|QY (bj (k:=0) xl rfl rfl (.inl rfl)) rfl<|QY (ab rfl) rfl<|Q3<|Q4<|Ra ?_;obtain⟨r0,h4,hF⟩:=aa hF;refine Rh (G:=(fun(r:RS⊕RS) (g:RS)=>match r,g with|.inl _,_=>⟨.ret,[(4,.bool false)],[]⟩|.inr _,_=>⟨(.exit 0),[],[]⟩) r0) ?_ ?_
 refine Rv (fs':=[(0,.func (.func 204) #[] #[]),(7,.slice a1 l1.length c0),(8,.int .i64 (l1.length:Int)),(9,.int .i64 0)]) (ps':=[.rd a1 c0 16 l1.length (l1.map R5)]) (sc rfl (sc rfl (sc rfl (sc rfl sn)))) (ah.ae [0] rfl rfl) ?_;refine Rl (σ:=Int) (ρ:=(RS)⊕RS) (γ:=RS) (δ:=fun _=>RS) _ (fun(s:Int) (g:RS)=>match s,g with|v1,_=>⟨.normal,[(0,.func (.func 204) #[] #[]),(7,.slice a1 l1.length c0),(8,.int .i64 (l1.length:Int)),(9,.int .i64 v1)],[.rd a1 c0 16 l1.length (l1.map R5)]⟩) (fun(r:RS⊕RS) (g:RS)=>match r,g with|.inl _,_=>⟨.ret,[(4,.bool false)],[]⟩|.inr _,_=>⟨(.exit 0),[],[]⟩) ?_ (fun _ _=>rfl) (fun r d=>by rcases r with _|_<;>(intro e; cases e)) _ _ _ h4 ()
 clear hF h4;rintro v1 ⟨⟩ r hF;unfold qN at hF;refine Q2<|QZ<|QY (an rfl rfl (aM _ _ _)) rfl<|Q3<|Q4<|Q2 ?_;rcases aj hF with⟨h5,hF⟩|⟨h5,hF⟩
 refine Rf rfl h5<|Q8<|Q4<|Q2<|Ra<|Q2<|QZ ?_;obtain⟨h0,hF⟩:=ak hF;replace h0:=aq h0;refine Ry (k:=0) rfl (aO h0) ?_;rintro b0 o3 rfl;refine Q6 (bw pR rfl rfl h0) gn rfl ?_;obtain⟨⟨x3,x4,x5,x6,x7,x8,x9,x10,x11,x12,x13,x14,x15,x16,x17,x18⟩,h9,hF⟩:=aa hF;refine QY (bR (k:=0) cV rfl rfl (aU h9) rfl rfl) rfl<|Q5 (bE z68 rfl) gn rfl fun b1=>?_;refine Ri (bf (k:=0) cV rfl rfl rfl rfl rfl)<|Q3<|Q4<|Q2<|QZ<|QY (ab rfl) rfl<|QY (ay (k:=0) cV rfl rfl rfl) rfl ?_;obtain⟨r1,h10,hF⟩:=aa hF;refine Q5 (bW rfl rfl (fun m hm=>Jd n x3 x4 x5 x6 x7 x8 x9 x10 x11 x12 x13 x14 x15 x16 x17 x18  _ h10 m) fun _=>rfl) gn rfl ?_;rintro⟨⟩;refine QY (iM rfl rfl) rfl<|Q3<|Q4 ?_;rcases aj hF with⟨h6,hF⟩|⟨h6,hF⟩
 refine Rf rfl h6<|Q2<|QZ<|QY (ai rfl) rfl<|Q3<|Q4<|Q9<|RB<|Rp ?_;cases hF;exact Q7 () rfl (sc rfl sn) (ah.ae [] rfl rfl)
 refine Rg rfl h6<|Q8<|Rr<|Q4<|QZ<|QY (an rfl rfl (aJ _ _ _)) rfl<|QY (ab rfl) rfl<|Q3 ?_;cases hF;exact Q7 () rfl (sc rfl (sc rfl (sc rfl (sc rfl sn)))) (ah.ae [2] rfl rfl)
 refine Rg rfl h5<|Rk<|Rs ?_;cases hF;exact Q7 () rfl sn (ah.ae [] rfl rfl)
 rcases r0 with _|_
 rintro⟨⟩;refine RB<|Rp ?_;cases hF;exact Rb (.tmp rfl .nil) fun m' hm=>⟨(),rfl,(ah.ae [] rfl rfl) m' hm⟩
 rintro⟨⟩;refine Ru<|Q4<|Q2<|QZ<|QY (ai rfl) rfl<|Q3<|Q4<|Q9 ?_;cases hF;exact Rb (.tmp rfl .nil) fun m' hm=>⟨(),rfl,(ah.ae [] rfl rfl) m' hm⟩
 rintro⟨⟩;refine QY (ai rfl) rfl<|Q3<|Q4<|Q9 ?_;have hr:=OK hF;subst r;exact Rb (.tmp rfl .nil) fun m' hm=>⟨(),rfl,(ah.ae [] rfl rfl) m' hm⟩
def KK(n:Nat)(x1:Nat)(x2:Nat)(x3:Nat)(x4:Nat)(x5:Nat)(x6:Nat)(x7:Nat)(x8:Nat)(x9:Nat)(x10:Nat)(x11:Nat)(x12:Nat)(x13:Nat)(x14:Nat)(x15:Nat)(x16:Nat)(x17:Nat)(x18:Nat)(x19:Nat)(x20:Nat)(x21:Nat)(x22:Nat)(x23:Nat)(x24:Nat)(x25:Nat)(x26:Nat)(x27:Nat)(x28:Nat)(x29:Nat)(x30:Nat)(x31:Nat)(x32:Nat)  (r:Int×Int)(hF:Mj n x1 x2 x3 x4 x5 x6 x7 x8 x9 x10 x11 x12 x13 x14 x15 x16 x17 x18 x19 x20 x21 x22 x23 x24 x25 x26 x27 x28 x29 x30 x31 x32=some r)(m:RN)  :
  aG aL 43 [.agg #[R6 x1,R6 x2,R6 x3,R6 x4,R6 x5,R6 x6,R6 x7,R6 x8,R6 x9,R6 x10,R6 x11,R6 x12,R6 x13,R6 x14,R6 x15,R6 x16],.agg #[R6 x17,R6 x18,R6 x19,R6 x20,R6 x21,R6 x22,R6 x23,R6 x24,R6 x25,R6 x26,R6 x27,R6 x28,R6 x29,R6 x30,R6 x31,R6 x32]] m (RM m (.tuple #[.int .i64 r.1,.int .i64 r.2])):=by
 unfold Mj at hF;refine aw (m0:=m) (ps:=[]) (N:=11) (rs:=[.tmp 4,.tmp 5]) rfl Tryz.func43 rfl rfl rfl (Rj m)<|Q2<|QZ<|Q5 (bQ rfl) gn rfl fun b33=>?_;refine Q5 (bQ rfl) gn rfl fun b34=>?_;refine QY (ai rfl) rfl<|QY (ai rfl) rfl<|Q3<|Q4<|Q2<|QZ<|QY (ay (k:=1) cV rfl rfl rfl) rfl<|QY (ay (k:=0) cV rfl rfl rfl) rfl ?_;obtain⟨r97,h98,hF⟩:=aa hF;refine Q5 (lJ (α:=RS) (V:=fun g=>(fun(r:Int×Int) (g:RS)=>match r,g with |(v65,v66),_=>(.tuple #[.int .i64 v65,.int .i64 v66]:QP)) r97 g) (N:=fun g=>(fun(r:Int×Int) (g:RS)=>match r,g with |(v65,v66),_=>([]:RR Pc)) r97 g) rfl rfl (fun m hm=>?_)) gn rfl ?_
 clear hF;revert r97;intro r hF;refine aw (N:=21) (rs:=[.tmp 6,.tmp 7]) rfl Tryz.func134 rfl rfl rfl hm<|Q2<|QZ<|Q5 (bQ rfl) gn rfl fun b67=>?_;refine Q5 (bQ rfl) gn rfl fun b68=>?_;refine QY (ai rfl) rfl<|QY (ai rfl) rfl<|Q3<|Q4<|Q2<|Q2<|QZ<|QY (ay (k:=1) cV rfl rfl rfl) rfl<|QY (ay (k:=0) cV rfl rfl rfl) rfl<|Q5 (jl (es:=([(x1,x2,x3,x4,x5,x6,x7,x8,x9,x10,x11,x12,x13,x14,x15,x16),(x17,x18,x19,x20,x21,x22,x23,x24,x25,x26,x27,x28,x29,x30,x31,x32)]:RR R7).map R5) pR rfl (jm pR z68 rfl rfl) rfl rfl) gn rfl fun b69=>?_;obtain⟨r71,h70,hF⟩:=aa hF;refine Q5 (bW rfl rfl (fun m hm=>Ia n ([(x1,x2,x3,x4,x5,x6,x7,x8,x9,x10,x11,x12,x13,x14,x15,x16),(x17,x18,x19,x20,x21,x22,x23,x24,x25,x26,x27,x28,x29,x30,x31,x32)]) (some ⟨b69,0,none⟩) 2 _ h70 m (hm.rd (k:=0) rfl (.arr _ _ _ _ _))) fun _=>rfl) gn rfl ?_;rintro⟨⟩;refine QY (iM rfl rfl) rfl<|Q3<|Q4 ?_;rcases aj hF with⟨h72,hF⟩|⟨h72,hF⟩
 refine Rf rfl h72<|Q2<|QZ<|QY (ai rfl) rfl<|Q3<|Q4<|Q2<|QZ<|QY (ab rfl) rfl<|QY (ai rfl) rfl<|QY (ai rfl) rfl<|Q3<|Q4<|Q9<|Rp ?_;cases hF;exact Rb (.tmp rfl (.tmp rfl .nil)) fun m' hm=>⟨(),rfl,(ah.ae [] rfl rfl) m' hm⟩
 refine Rg rfl h72<|Q8<|Q4<|Q2<|RD (prs:=[(2,3)]) (by kernel_rfl)<|Rc (ab rfl) rfl<|Rc (ay (k:=2) cV rfl rfl rfl) rfl ?_
 obtain⟨⟨r74,l75,r79,l80⟩,h73,hF⟩:=aa hF;refine Rw (bu (N:=(fun x:QN×Nat×Nat×QN×Nat×Nat=>[.rd (x.1) (x.2.1) 1 (x.2.2.1) (l75.map R3),.rd (x.2.2.2.1) (x.2.2.2.2.1) 1 (x.2.2.2.2.2) (l80.map R3)])) rfl rfl (fun m hm=>ig n x1 x2 x3 x4 x5 x6 x7 x8 x9 x10 x11 x12 x13 x14 x15 x16  _ h73 m hm.ar) fun _=>rfl) gn rfl ?_;rintro⟨a76,c77,n78,a81,c82,n83⟩;refine Rm (k:=0) (xs:=l75) rfl ?_;rintro rfl;refine Rm (k:=1) (xs:=l80) rfl ?_;rintro rfl;refine Rc (ay (k:=3) cV rfl rfl rfl) rfl ?_;obtain⟨⟨r85,l86,r90,l91⟩,h84,hF⟩:=aa hF;refine Rw (bu (N:=(fun x:QN×Nat×Nat×QN×Nat×Nat=>[.rd (x.1) (x.2.1) 1 (x.2.2.1) (l86.map R3),.rd (x.2.2.2.1) (x.2.2.2.2.1) 1 (x.2.2.2.2.2) (l91.map R3)])) rfl rfl (fun m hm=>ig n x17 x18 x19 x20 x21 x22 x23 x24 x25 x26 x27 x28 x29 x30 x31 x32  _ h84 m hm.ar) fun _=>rfl) gn rfl ?_;rintro⟨a87,c88,n89,a92,c93,n94⟩;refine Rm (k:=0) (xs:=l86) rfl ?_;rintro rfl;refine Rm (k:=1) (xs:=l91) rfl ?_;rintro rfl;obtain⟨r96,h95,hF⟩:=aa hF;refine Rw (oj rfl rfl (fun m hm=>qm n r74 l75 r79 l80 r85 l86 r90 l91 a76 c77 a81 c82 a87 c88 a92 c93 _ h95 m (hm.rd (k:=2) rfl (.rd _ _ _ _ _)) (hm.rd (k:=3) rfl (.rd _ _ _ _ _)) (hm.rd (k:=0) rfl (.rd _ _ _ _ _)) (hm.rd (k:=1) rfl (.rd _ _ _ _ _))) fun _=>rfl) gn rfl ?_;rintro⟨⟩;refine Rc (ai rfl) rfl<|Rc (ai rfl) rfl<|Rx (fun m hm=>fo.all rfl)<|Q4<|Q9 ?_;cases hF;exact Rb (.tmp rfl (.tmp rfl .nil)) fun m' hm=>⟨(),rfl,(ah.ae [] rfl rfl) m' hm⟩
 clear h98;obtain⟨v65,v66⟩:=r97;rintro⟨⟩;refine QY (bZ rfl rfl) rfl<|QY (bZ rfl rfl) rfl<|QY (ai rfl) rfl<|QY (ai rfl) rfl<|Q3<|Q4<|Q9 ?_;cases hF;exact Rb (.tmp rfl (.tmp rfl .nil)) fun m' hm=>⟨(),rfl,(ah.ae [] rfl rfl) m' hm⟩
def MF(n:Nat)(x1:Nat)(l9:RR (Nat))(x3:Nat)(l10:RR (Nat))(a4:QN)(c2:Nat)(a5:QN)(c3:Nat)(r:Bool)(hF:F7 n x1 l9 x3 l10=some r)(m:RN)(hG:Gl m)(h29:Rd m a4 c2 1 l9.length (l9.map (eN .u8)))(h30:Rd m a5 c3 1 l10.length (l10.map (eN .u8))) :
  aG aL 7 [.agg #[.int .u8 ((x1:Nat):Int),.slice a4 l9.length c2],.agg #[.int .u8 ((x3:Nat):Int),.slice a5 l10.length c3]] m (RM m (.bool r)):=by
 unfold F7 at hF;refine aw (m0:=m) (ps:=[.rd a5 c3 1 l10.length (l10.map (eN .u8)),.rd a4 c2 1 l9.length (l9.map (eN .u8))]) (N:=143) (rs:=[.tmp 4]) rfl Tryz.func7 rfl rfl rfl (Rz (Rz (Rj m) cl h29) (dJ cl) h30)<|Q2<|QZ<|Q5 (bQ rfl) gn rfl fun b7=>?_;refine Q5 (bQ rfl) gn rfl fun b8=>?_;refine QY (ai rfl) rfl<|Q3<|Q4<|Q2<|Q2<|QZ ?_;obtain⟨r8,h31,hF⟩:=aa hF;refine Q5 (bW rfl rfl (fun m hm=>Kw n   _ h31 m (hG.ext hm.ext)) fun _=>rfl) gn rfl ?_;rintro⟨⟩;refine QY (iM rfl rfl) rfl<|Q3<|Q4 ?_;rcases aj hF with⟨h21,hF⟩|⟨h21,hF⟩
 refine Rf rfl h21<|Q2<|QZ<|QY (ai rfl) rfl<|Q3<|Q4<|Q9<|Rp ?_;cases hF;exact Rb (.tmp rfl .nil) fun m' hm=>⟨(),rfl,(ah.ae [] rfl rfl) m' hm⟩
 refine Rg rfl h21<|Q8<|Q4<|Q2<|QZ<|QY (ay (k:=1) Nc rfl rfl rfl) rfl ?_;obtain⟨l2,h32,hF⟩:=aa hF;refine Q5 (bA (N:=(fun x:QN×Nat×Nat×QM ×(Nat->Prop)=>[.rd (x.1) (x.2.1) 1 (x.2.2.1) (x.2.2.2.1),.gen (aN aD (x.2.2.2.2) l2 (x.2.2.2.1))])) rfl rfl (fun m hm=>Lu n x1 l9 a4 c2 _ h32 m hm.ar (hm.rd (k:=3) rfl (.rd _ _ _ _ _)) (hm.au (k:=3) rfl)) fun _=>rfl) gn rfl ?_;rintro⟨a2,c1,n2,e3,r1⟩;refine Wo.vz (k:=0) (q:=1) (L:=l2) rfl (.inr (.inl ⟨_,rfl⟩)) rfl ?_;rintro rfl;refine QY (ai rfl) rfl<|Q3<|Q4<|Q2<|QZ<|QY (ay (k:=2) Nc rfl rfl rfl) rfl<|QY (ab rfl) rfl<|QY (bj (k:=0) oD rfl rfl (.inl rfl)) rfl ?_;obtain⟨l4,h33,hF⟩:=aa hF;refine Q5 (bW rfl rfl (fun m hm=>Lp n x3 l10 (l2.length:Int) a5 c3 _ h33 m (hm.rd (k:=4) rfl (.rd _ _ _ _ _))) fun _=>rfl) gn rfl ?_;rintro⟨a3,n3⟩;refine Wo.len (k:=0) (xs:=l4) rfl ?_;rintro rfl;refine QY (ai rfl) rfl<|Q3<|Q4<|Q2<|QZ<|QY (ab rfl) rfl<|QY (ab rfl) rfl ?_;obtain⟨⟨l3,r9⟩,h34,hF⟩:=aa hF;refine RF (ah.freeze (k:=0) rfl)<|Q5 (bA (N:=(fun x:QN×Nat×Nat×QM ×(Nat->Prop)=>[.rd (x.1) (x.2.1) 1 (x.2.2.1) (x.2.2.2.1),.gen (aN aD (x.2.2.2.2) l3 (x.2.2.2.1))])) rfl rfl (fun m hm=>Fg n l2 l4 a2 c1 r1 e3 a3 l4.length _ h34 m hm.ar (hm.rd (k:=1) rfl (.rd _ _ _ _ _)) (hm.au (k:=1) rfl) (hm.dp (q:=2) rfl) (hm.Gr (q:=2) rfl) (hm.rd (k:=0) rfl (.rd _ _ _ _ _)) (hm.au (k:=0) rfl)) fun _=>rfl) gn rfl ?_;rintro⟨a1,c0,n4,e0,r0⟩;refine Wo.vz (k:=0) (q:=1) (L:=l3) rfl (.inr (.inl ⟨_,rfl⟩)) rfl ?_;rintro rfl;refine QY (ab rfl) rfl<|QY (bZ rfl rfl) rfl<|QY (bZ rfl rfl) rfl<|QY (ai rfl) rfl<|QY (ai rfl) rfl<|Q3<|Q4<|Q2<|QZ<|QY (ab rfl) rfl<|QY (ab rfl) rfl ?_;obtain⟨⟨l11,r10⟩,h35,hF⟩:=aa hF;refine Q5 (bA (N:=(fun x:QN×Nat×Nat×QM ×(Nat->Prop)=>[.rd (x.1) (x.2.1) 1 (x.2.2.1) (x.2.2.2.1),.gen (aN aD (x.2.2.2.2) l11 (x.2.2.2.1))])) rfl rfl (fun m hm=>Fg n l3 l4 a1 c0 r0 e0 a3 l4.length _ h35 m hm.ar (hm.rd (k:=0) rfl (.rd _ _ _ _ _)) (hm.au (k:=0) rfl) (hm.dp (q:=1) rfl) (hm.Gr (q:=1) rfl) (hm.rd (k:=2) rfl (.rd _ _ _ _ _)) (hm.au (k:=2) rfl)) fun _=>rfl) gn rfl ?_;rintro⟨a7,xm,n5,e4,r3⟩;refine Wo.vz (k:=0) (q:=1) (L:=l11) rfl (.inr (.inl ⟨_,rfl⟩)) rfl ?_;rintro rfl;refine QY (ab rfl) rfl<|QY (bZ rfl rfl) rfl<|QY (bZ rfl rfl) rfl<|QY (ai rfl) rfl<|QY (ai rfl) rfl<|Q3<|Q4<|Q2<|Q2 ?_;obtain⟨v3,h36,hF⟩:=aa hF;refine Rh (G:=(fun(r:Bool) (g:RS)=>match r,g with|v3,_=>⟨.normal,[(5,.slice a2 l2.length c1),(6,.slice a3 l4.length l4.length),(7,.slice a1 l3.length c0),(74,.bool v3)],[.rd a2 c1 1 l2.length e3,.gen (aN aD r1 l2 e3),.rd a3 l4.length 8 l4.length (l4.map R4),.rd a1 c0 1 l3.length e0,.gen (aN aD r0 l3 e0)]⟩) v3) ?_ ?_
 clear hF;revert v3;intro r hF;refine QZ<|QY (ab rfl) rfl<|QY (an rfl rfl (cc _ _)) rfl<|QY (ab rfl) rfl ?_;rcases aj hF with⟨h11,hF⟩|⟨h11,hF⟩
 refine Re (gg rfl rfl (cw h11)) rfl<|Re (gg rfl rfl (cw h11)) rfl<|QY (dv rfl h11 rfl) rfl<|QY (ab rfl) rfl<|Re (gg rfl rfl rfl) rfl<|Re (gg rfl rfl rfl) rfl<|Re (gg rfl rfl rfl) rfl<|Re (gg rfl rfl rfl) rfl<|Re (gg rfl rfl rfl) rfl<|QY (iO rfl rfl) rfl ?_;refine QY (ab rfl) rfl<|Re (gg rfl rfl rfl) rfl<|Re (gg rfl rfl rfl) rfl<|Re (gg rfl rfl rfl) rfl<|QY (iO rfl rfl) rfl<|QY (ab rfl) rfl<|Re (gg rfl rfl rfl) rfl<|Re (gg rfl rfl rfl) rfl<|Re (gg rfl rfl rfl) rfl<|QY (iO rfl rfl) rfl ?_;refine QY (ab rfl) rfl<|Re (gg rfl rfl rfl) rfl<|Re (gg rfl rfl rfl) rfl<|Re (gg rfl rfl rfl) rfl<|Re (gg rfl rfl rfl) rfl<|Re (gg rfl rfl rfl) rfl<|Re (gg rfl rfl rfl) rfl<|Re (gg rfl rfl rfl) rfl<|Re (gg rfl rfl rfl) rfl<|QY (iO rfl rfl) rfl ?_;refine QY (ab rfl) rfl<|Re (gg rfl rfl rfl) rfl<|Re (gg rfl rfl rfl) rfl<|Re (gg rfl rfl rfl) rfl<|Re (gg rfl rfl rfl) rfl<|QY (iO rfl rfl) rfl<|Q3 ?_;cases hF;exact Q7 () rfl (sc rfl (sc rfl (sc rfl (sc rfl sn)))) (ah.ae [5,6,4,2,3] rfl rfl)
 refine Q6 (ab rfl) (gg rfl rfl (cp h11)) rfl<|Q6 (an rfl rfl (cc _ _)) (gg rfl rfl (cp h11)) rfl<|QY (cX rfl h11 rfl) rfl<|QY (ab rfl) rfl ?_;rcases aj hF with⟨h7,hF⟩|⟨h7,hF⟩
 refine Re (gg rfl rfl (cw h7)) rfl<|Re (gg rfl rfl (cw h7)) rfl<|Re (gg rfl rfl (cw h7)) rfl<|Re (gg rfl rfl (cw h7)) rfl<|Re (gg rfl rfl (cw h7)) rfl<|QY (dv rfl h7 rfl) rfl<|QY (ab rfl) rfl<|Re (gg rfl rfl rfl) rfl<|Re (gg rfl rfl rfl) rfl<|Re (gg rfl rfl rfl) rfl ?_;refine QY (iO rfl rfl) rfl<|QY (ab rfl) rfl<|Re (gg rfl rfl rfl) rfl<|Re (gg rfl rfl rfl) rfl<|Re (gg rfl rfl rfl) rfl<|QY (iO rfl rfl) rfl<|QY (ab rfl) rfl<|Re (gg rfl rfl rfl) rfl<|Re (gg rfl rfl rfl) rfl<|Re (gg rfl rfl rfl) rfl ?_;refine Re (gg rfl rfl rfl) rfl<|Re (gg rfl rfl rfl) rfl<|Re (gg rfl rfl rfl) rfl<|Re (gg rfl rfl rfl) rfl<|Re (gg rfl rfl rfl) rfl<|QY (iO rfl rfl) rfl<|QY (ab rfl) rfl<|Re (gg rfl rfl rfl) rfl<|Re (gg rfl rfl rfl) rfl<|Re (gg rfl rfl rfl) rfl ?_;refine Re (gg rfl rfl rfl) rfl<|QY (iO rfl rfl) rfl<|Q3 ?_;cases hF;exact Q7 () rfl (sc rfl (sc rfl (sc rfl (sc rfl sn)))) (ah.ae [5,6,4,2,3] rfl rfl)
 refine Q6 (ab rfl) (gg rfl rfl (cp h7)) rfl<|Q6 (bj (k:=2) oD rfl rfl (.inl rfl)) (gg rfl rfl (cp h7)) rfl<|Q6 (ab rfl) (gg rfl rfl (cp h7)) rfl<|Q6 (bj (k:=5) oD rfl rfl (.inl rfl)) (gg rfl rfl (cp h7)) rfl<|Q6 (an rfl rfl (cc _ _)) (gg rfl rfl (cp h7)) rfl<|QY (cX rfl h7 rfl) rfl<|QY (ab rfl) rfl ?_;rcases aj hF with⟨h9,hF⟩|⟨h9,hF⟩
 refine Re (gg rfl rfl (cw h9)) rfl<|Re (gg rfl rfl (cw h9)) rfl<|Re (gg rfl rfl (cw h9)) rfl<|QY (dv rfl h9 rfl) rfl<|QY (ab rfl) rfl<|Re (gg rfl rfl rfl) rfl<|Re (gg rfl rfl rfl) rfl<|Re (gg rfl rfl rfl) rfl<|QY (iO rfl rfl) rfl<|QY (ab rfl) rfl ?_;refine Re (gg rfl rfl rfl) rfl<|Re (gg rfl rfl rfl) rfl<|Re (gg rfl rfl rfl) rfl<|Re (gg rfl rfl rfl) rfl<|Re (gg rfl rfl rfl) rfl<|Re (gg rfl rfl rfl) rfl<|Re (gg rfl rfl rfl) rfl<|Re (gg rfl rfl rfl) rfl<|QY (iO rfl rfl) rfl<|QY (ab rfl) rfl ?_;refine Re (gg rfl rfl rfl) rfl<|Re (gg rfl rfl rfl) rfl<|Re (gg rfl rfl rfl) rfl<|Re (gg rfl rfl rfl) rfl<|QY (iO rfl rfl) rfl<|Q3 ?_;cases hF;exact Q7 () rfl (sc rfl (sc rfl (sc rfl (sc rfl sn)))) (ah.ae [5,6,4,2,3] rfl rfl)
 refine Q6 (ab rfl) (gg rfl rfl (cp h9)) rfl ?_;obtain⟨r11,h37,hF⟩:=aa hF;refine Q5 (bW rfl rfl (fun m hm=>KT n l3 a1 c0 r0 e0 _ h37 m (hm.rd (k:=2) rfl (.rd _ _ _ _ _)) (hm.dp (q:=3) rfl)) fun _=>rfl) (gg rfl rfl (cp h9)) rfl ?_;rintro⟨⟩;refine Q6 (iM rfl rfl) (gg rfl rfl (cp h9)) rfl<|QY (cX rfl h9 rfl) rfl<|QY (ab rfl) rfl ?_;rcases aj hF with⟨h10,hF⟩|⟨h10,hF⟩
 refine Re (gg rfl rfl (cw h10)) rfl<|Re (gg rfl rfl (cw h10)) rfl<|Re (gg rfl rfl (cw h10)) rfl<|QY (dv rfl h10 rfl) rfl<|QY (ab rfl) rfl<|Re (gg rfl rfl rfl) rfl<|Re (gg rfl rfl rfl) rfl<|Re (gg rfl rfl rfl) rfl<|Re (gg rfl rfl rfl) rfl<|Re (gg rfl rfl rfl) rfl ?_;refine Re (gg rfl rfl rfl) rfl<|Re (gg rfl rfl rfl) rfl<|Re (gg rfl rfl rfl) rfl<|QY (iO rfl rfl) rfl<|QY (ab rfl) rfl<|Re (gg rfl rfl rfl) rfl<|Re (gg rfl rfl rfl) rfl<|Re (gg rfl rfl rfl) rfl<|Re (gg rfl rfl rfl) rfl<|QY (iO rfl rfl) rfl ?_;refine Q3 ?_;cases hF;exact Q7 () rfl (sc rfl (sc rfl (sc rfl (sc rfl sn)))) (ah.ae [5,6,4,2,3] rfl rfl)
 refine Q6 (ab rfl) (gg rfl rfl (cp h10)) rfl ?_;obtain⟨r12,h38,hF⟩:=aa hF;refine Q5 (bW rfl rfl (fun m hm=>vu n l3 a1 c0 r0 e0 _ h38 m (hm.rd (k:=2) rfl (.rd _ _ _ _ _)) (hm.dp (q:=3) rfl)) fun _=>rfl) (gg rfl rfl (cp h10)) rfl ?_;rintro⟨⟩;refine Q6 (an rfl rfl (cc _ _)) (gg rfl rfl (cp h10)) rfl<|QY (cX rfl h10 rfl) rfl<|QY (ab rfl) rfl ?_;rcases aj hF with⟨h4,hF⟩|⟨h4,hF⟩
 refine Re (gg rfl rfl (cw h4)) rfl<|Re (gg rfl rfl (cw h4)) rfl<|Re (gg rfl rfl (cw h4)) rfl<|Re (gg rfl rfl (cw h4)) rfl<|Re (gg rfl rfl (cw h4)) rfl<|Re (gg rfl rfl (cw h4)) rfl<|Re (gg rfl rfl (cw h4)) rfl<|Re (gg rfl rfl (cw h4)) rfl<|QY (dv rfl h4 rfl) rfl<|QY (ab rfl) rfl ?_;refine Re (gg rfl rfl rfl) rfl<|Re (gg rfl rfl rfl) rfl<|Re (gg rfl rfl rfl) rfl<|Re (gg rfl rfl rfl) rfl<|QY (iO rfl rfl) rfl<|Q3 ?_;cases hF;exact Q7 () rfl (sc rfl (sc rfl (sc rfl (sc rfl sn)))) (ah.ae [5,6,4,2,3] rfl rfl)
 obtain⟨r4,h39,hF⟩:=aa hF;refine Q5 (lJ (α:=Nat) (V:=fun g=>(fun(r:RS) (g:Nat)=>match r,g with|_,b2=>(.func (.func 132) #[] #[ptr b2 0]:QP)) r4 g) (N:=fun g=>(fun(r:RS) (g:Nat)=>match r,g with|_,b2=>([.obj b2 (.cells [.bool true] .own),.rd a2 c1 1 l2.length e3,.gen (aN aD r1 l2 e3),.rd a3 l4.length 8 l4.length (l4.map R4),.rd a1 c0 1 l3.length e0,.gen (aN aD r0 l3 e0),.rd a7 xm 1 l11.length e4,.gen (aN aD r3 l11 e4)]:RR Pc)) r4 g) rfl rfl (fun m hm=>?_)) (gg rfl rfl (cp h4)) rfl ?_
 clear hF;revert r4;intro r hF;refine aw (N:=4) (rs:=[.tmp 2]) rfl Tryz.func41 rfl rfl rfl hm<|Q2<|QZ<|Q5 (bQ rfl) gn rfl fun b5=>?_;refine QY (ai rfl) rfl<|Q3<|Q4<|Q2<|QZ<|QY (K2 rfl rfl) rfl<|QY (ai rfl) rfl<|Q3<|Q4<|Q9 ?_;cases hF;exact Rb (.tmp rfl .nil) fun m' hm=>⟨b5,rfl,(ah.ae [0,6,7,5,3,4,1,2] rfl rfl) m' hm⟩
 rintro b2;refine Q6 (ab rfl) (gg rfl rfl (cp h4)) rfl<|Q6 (ab rfl) (gg rfl rfl (cp h4)) rfl ?_;obtain⟨⟨r13,r14⟩,h40,hF⟩:=aa hF;refine Q5 (bW rfl rfl (fun m hm=>KY n l3 l4 a1 c0 r0 e0 a3 l4.length _ h40 m (hm.rd (k:=4) rfl (.rd _ _ _ _ _)) (hm.dp (q:=5) rfl) (hm.rd (k:=3) rfl (.rd _ _ _ _ _))) fun _=>rfl) (gg rfl rfl (cp h4)) rfl ?_;rintro⟨⟩;refine Q6 (bZ rfl rfl) (gg rfl rfl (cp h4)) rfl<|Q6 (bZ rfl rfl) (gg rfl rfl (cp h4)) rfl ?_;obtain⟨v1,h41,hF⟩:=aa hF;refine Q5 (lJ (α:=RS) (V:=fun g=>(fun(r:Bool) (g:RS)=>match r,g with|v1,_=>(.bool v1:QP)) v1 g) (N:=fun g=>(fun(r:Bool) (g:RS)=>match r,g with|v1,_=>([.rd a2 c1 1 l2.length e3,.gen (aN aD r1 l2 e3),.rd a3 l4.length 8 l4.length (l4.map R4),.rd a1 c0 1 l3.length e0,.gen (aN aD r0 l3 e0),.rd a7 xm 1 l11.length e4,.gen (aN aD r3 l11 e4)]:RR Pc)) v1 g) rfl rfl (fun m hm=>?_)) (gg rfl rfl (cp h4)) rfl ?_
 clear hF;revert v1;intro r hF;refine aw (N:=13) (rs:=[.tmp 5]) rfl Tryz.func132 rfl rfl rfl hm<|Q2<|QZ<|QY (ai rfl) rfl<|Q3<|Q4<|Q2<|QZ<|QY (ab rfl) rfl<|QY (ay (k:=0) jG rfl rfl rfl) rfl<|QY (an rfl rfl (ES u4)) rfl<|QY (ab rfl) rfl ?_;rcases aj hF with⟨h12,hF⟩|⟨h12,hF⟩
 refine Q6 (ab rfl) (gg rfl rfl (gK h12)) rfl<|Q6 (an rfl rfl (cW _ _ _)) (gg rfl rfl (gK h12)) rfl<|QY (dv rfl h12 rfl) rfl<|QY (ai rfl) rfl<|Q3<|Q4<|Q9 ?_;cases hF;exact Rb (.tmp rfl .nil) fun m' hm=>⟨(),rfl,(ah.ae [1,2,3,4,5,6,7] rfl rfl) m' hm⟩
 refine Re (gg rfl rfl (gN h12)) rfl<|Re (gg rfl rfl (gN h12)) rfl<|QY (cX rfl h12 rfl) rfl<|QY (ai rfl) rfl<|Q3<|Q4<|Q9 ?_;cases hF;exact Rb (.tmp rfl .nil) fun m' hm=>⟨(),rfl,(ah.ae [1,2,3,4,5,6,7] rfl rfl) m' hm⟩
 rintro⟨⟩;refine Q6 (iM rfl rfl) (gg rfl rfl (cp h4)) rfl<|QY (cX rfl h4 rfl) rfl<|QY (ab rfl) rfl ?_;rcases aj hF with⟨h8,hF⟩|⟨h8,hF⟩
 refine Re (gg rfl rfl (cw h8)) rfl<|Re (gg rfl rfl (cw h8)) rfl<|Re (gg rfl rfl (cw h8)) rfl<|Re (gg rfl rfl (cw h8)) rfl<|QY (dv rfl h8 rfl) rfl<|Q3 ?_;cases hF;exact Q7 () rfl (sc rfl (sc rfl (sc rfl (sc rfl sn)))) (ah.ae [0,1,2,3,4] rfl rfl)
 refine Q6 (ab rfl) (gg rfl rfl (cp h8)) rfl<|Q6 (ab rfl) (gg rfl rfl (cp h8)) rfl ?_;obtain⟨r15,h42,hF⟩:=aa hF;refine Q5 (bW rfl rfl (fun m hm=>LN n l3 l11 a1 c0 r0 e0 a7 xm r3 e4 _ h42 m (hm.rd (k:=3) rfl (.rd _ _ _ _ _)) (hm.dp (q:=4) rfl) (hm.rd (k:=5) rfl (.rd _ _ _ _ _)) (hm.dp (q:=6) rfl)) fun _=>rfl) (gg rfl rfl (cp h8)) rfl ?_;rintro⟨⟩;refine Q6 (iM rfl rfl) (gg rfl rfl (cp h8)) rfl<|QY (cX rfl h8 rfl) rfl<|Q3 ?_;cases hF;exact Q7 () rfl (sc rfl (sc rfl (sc rfl (sc rfl sn)))) (ah.ae [0,1,2,3,4] rfl rfl)
 rintro⟨⟩;refine Q4 ?_;rcases aj hF with⟨h22,hF⟩|⟨h22,hF⟩
 refine Rf rfl h22<|Q2<|QZ<|QY (ai rfl) rfl<|Q3<|Q4<|Q9<|Rp ?_;cases hF;exact Rb (.tmp rfl .nil) fun m' hm=>⟨(),rfl,(ah.ae [] rfl rfl) m' hm⟩
 refine Rg rfl h22<|Q8<|Q4<|Q2<|QZ<|QY (ab rfl) rfl ?_;obtain⟨⟨l7,r16⟩,h43,hF⟩:=aa hF;refine Q5 (bW rfl rfl (fun m hm=>Kl n l4 a3 l4.length _ h43 m (hm.rd (k:=2) rfl (.rd _ _ _ _ _))) fun _=>rfl) gn rfl ?_;rintro⟨a6,n6⟩;refine Wo.len (k:=0) (xs:=l7) rfl ?_;rintro rfl;refine QY (ab rfl) rfl<|QY (bZ rfl rfl) rfl<|QY (bZ rfl rfl) rfl<|QY (ai rfl) rfl<|QY (ai rfl) rfl<|Q3<|Q4<|Q2<|Q2 ?_;obtain⟨v4,h44,hF⟩:=aa hF;refine Rh (G:=(fun(r:Bool) (g:RS)=>match r,g with|v4,_=>⟨.normal,[(5,.slice a2 l2.length c1),(7,.slice a1 l3.length c0),(92,.bool v4)],[.rd a2 c1 1 l2.length e3,.gen (aN aD r1 l2 e3),.rd a1 c0 1 l3.length e0,.gen (aN aD r0 l3 e0)]⟩) v4) ?_ ?_
 clear hF;revert v4;intro r hF;refine QZ<|QY (ab rfl) rfl<|QY (an rfl rfl (cc _ _)) rfl<|QY (ab rfl) rfl ?_;rcases aj hF with⟨h0,hF⟩|⟨h0,hF⟩
 refine Re (gg rfl rfl (cw h0)) rfl<|Re (gg rfl rfl (cw h0)) rfl<|Re (gg rfl rfl (cw h0)) rfl<|Re (gg rfl rfl (cw h0)) rfl<|Re (gg rfl rfl (cw h0)) rfl<|Re (gg rfl rfl (cw h0)) rfl<|Re (gg rfl rfl (cw h0)) rfl<|Re (gg rfl rfl (cw h0)) rfl<|Re (gg rfl rfl (cw h0)) rfl<|QY (dv rfl h0 rfl) rfl ?_;refine Q3 ?_;cases hF;exact Q7 () rfl (sc rfl (sc rfl (sc rfl sn))) (ah.ae [1,2,4,5] rfl rfl)
 refine Q6 (ab rfl) (gg rfl rfl (cp h0)) rfl ?_;obtain⟨r5,h45,hF⟩:=aa hF;refine Q5 (lJ (α:=Nat) (V:=fun g=>(fun(r:RS) (g:Nat)=>match r,g with|_,b3=>(.func (.func 133) #[] #[ptr b3 0]:QP)) r5 g) (N:=fun g=>(fun(r:RS) (g:Nat)=>match r,g with|_,b3=>([.obj b3 (.cells [.slice a6 l7.length l7.length] .own),.sl a6 16 l7.length (l7.map R5),.rd a2 c1 1 l2.length e3,.gen (aN aD r1 l2 e3),.rd a1 c0 1 l3.length e0,.gen (aN aD r0 l3 e0)]:RR Pc)) r5 g) rfl rfl (fun m hm=>?_)) (gg rfl rfl (cp h0)) rfl ?_
 clear hF;revert r5;intro r hF;refine aw (N:=4) (rs:=[.tmp 2]) rfl Tryz.func42 rfl rfl rfl hm<|Q2<|QZ<|Q5 (bQ rfl) gn rfl fun b6=>?_;refine QY (ai rfl) rfl<|Q3<|Q4<|Q2<|QZ<|QY (K2 rfl rfl) rfl<|QY (ai rfl) rfl<|Q3<|Q4<|Q9 ?_;cases hF;exact Rb (.tmp rfl .nil) fun m' hm=>⟨b6,rfl,(ah.ae [0,1,2,3,5,6] rfl rfl) m' hm⟩
 rintro b3;refine Q6 (ab rfl) (gg rfl rfl (cp h0)) rfl<|Q6 (ab rfl) (gg rfl rfl (cp h0)) rfl ?_;obtain⟨⟨l13,r17⟩,h46,hF⟩:=aa hF;refine Q5 (bW rfl rfl (fun m hm=>Li n l3 l7 1 a1 c0 r0 e0 a6 l7.length _ h46 m (hm.rd (k:=4) rfl (.rd _ _ _ _ _)) (hm.dp (q:=5) rfl) (hm.rd (k:=1) rfl (.sl _ _ _ _))) fun _=>rfl) (gg rfl rfl (cp h0)) rfl ?_;rintro⟨a8,n7⟩;refine Wo.len (k:=0) (xs:=l13) rfl ?_;rintro rfl;refine Q6 (bZ rfl rfl) (gg rfl rfl (cp h0)) rfl<|Q6 (bZ rfl rfl) (gg rfl rfl (cp h0)) rfl ?_;obtain⟨v2,h47,hF⟩:=aa hF;refine Q5 (lJ (α:=RS) (V:=fun g=>(fun(r:Bool) (g:RS)=>match r,g with|v2,_=>(.bool v2:QP)) v2 g) (N:=fun g=>(fun(r:Bool) (g:RS)=>match r,g with|v2,_=>([.rd a2 c1 1 l2.length e3,.gen (aN aD r1 l2 e3),.rd a1 c0 1 l3.length e0,.gen (aN aD r0 l3 e0)]:RR Pc)) v2 g) rfl rfl (fun m hm=>?_)) (gg rfl rfl (cp h0)) rfl ?_
 clear hF;revert v2;intro r hF;refine aw (N:=13) (rs:=[.tmp 5]) rfl Tryz.func133 rfl rfl rfl hm<|Q2<|QZ<|QY (ai rfl) rfl<|Q3<|Q4<|Q2<|QZ<|QY (ab rfl) rfl<|QY (ay (k:=1) lC rfl rfl rfl) rfl ?_;obtain⟨r18,h48,hF⟩:=aa hF;refine Q5 (bW rfl rfl (fun m hm=>K4 n l13 l7 a8 l13.length a6 l7.length _ h48 m (hm.rd (k:=0) rfl (.sl _ _ _ _)) (hm.rd (k:=2) rfl (.sl _ _ _ _))) fun _=>rfl) gn rfl ?_;rintro⟨⟩;refine QY (ab rfl) rfl ?_;rcases aj hF with⟨h13,hF⟩|⟨h13,hF⟩
 refine Q6 (ab rfl) (gg rfl rfl (gK h13)) rfl<|Q6 (an rfl rfl (cW _ _ _)) (gg rfl rfl (gK h13)) rfl<|QY (dv rfl h13 rfl) rfl<|QY (ai rfl) rfl<|Q3<|Q4<|Q9 ?_;cases hF;exact Rb (.tmp rfl .nil) fun m' hm=>⟨(),rfl,(ah.ae [3,4,5,6] rfl rfl) m' hm⟩
 refine Re (gg rfl rfl (gN h13)) rfl<|Re (gg rfl rfl (gN h13)) rfl<|QY (cX rfl h13 rfl) rfl<|QY (ai rfl) rfl<|Q3<|Q4<|Q9 ?_;cases hF;exact Rb (.tmp rfl .nil) fun m' hm=>⟨(),rfl,(ah.ae [3,4,5,6] rfl rfl) m' hm⟩
 rintro⟨⟩;refine Q6 (iM rfl rfl) (gg rfl rfl (cp h0)) rfl<|QY (cX rfl h0 rfl) rfl<|Q3 ?_;cases hF;exact Q7 () rfl (sc rfl (sc rfl (sc rfl sn))) (ah.ae [0,1,2,3] rfl rfl)
 rintro⟨⟩;refine Q4 ?_;rcases aj hF with⟨h23,hF⟩|⟨h23,hF⟩
 refine Rf rfl h23<|Q2<|QZ<|QY (ai rfl) rfl<|Q3<|Q4<|Q9<|Rp ?_;cases hF;exact Rb (.tmp rfl .nil) fun m' hm=>⟨(),rfl,(ah.ae [] rfl rfl) m' hm⟩
 refine Rg rfl h23<|Q8<|Q4<|Q2<|Q2<|QZ<|QY (ab rfl) rfl<|QY (bj (k:=0) oD rfl rfl (.inl rfl)) rfl<|QY (ab rfl) rfl<|Q3<|Q4<|Ra ?_;obtain⟨r6,h24,hF⟩:=aa hF;refine Rh (G:=(fun(r:RS⊕RS) (g:RS)=>match r,g with|.inl _,_=>⟨.ret,[(4,.bool false)],[]⟩|.inr _,_=>⟨(.exit 0),[],[]⟩) r6) ?_ ?_
 refine Rv (fs':=[(5,.slice a2 l2.length c1),(7,.slice a1 l3.length c0),(94,.int .i64 (l2.length:Int)),(95,.int .i64 0)]) (ps':=[.rd a2 c1 1 l2.length e3,.gen (aN aD r1 l2 e3),.rd a1 c0 1 l3.length e0,.gen (aN aD r0 l3 e0)]) (sc rfl (sc rfl (sc rfl (sc rfl sn)))) (ah.ae [0,1,2,3] rfl rfl) ?_;refine Rl (σ:=Int) (ρ:=(RS)⊕RS) (γ:=RS) (δ:=fun _=>RS) _ (fun(s:Int) (g:RS)=>match s,g with|v0,_=>⟨.normal,[(5,.slice a2 l2.length c1),(7,.slice a1 l3.length c0),(94,.int .i64 (l2.length:Int)),(95,.int .i64 v0)],[.rd a2 c1 1 l2.length e3,.gen (aN aD r1 l2 e3),.rd a1 c0 1 l3.length e0,.gen (aN aD r0 l3 e0)]⟩) (fun(r:RS⊕RS) (g:RS)=>match r,g with|.inl _,_=>⟨.ret,[(4,.bool false)],[]⟩|.inr _,_=>⟨(.exit 0),[],[]⟩) ?_ (fun _ _=>rfl) (fun r d=>by rcases r with _|_<;>(intro e; cases e)) _ _ _ h24 ()
 clear hF h24;rintro v0 ⟨⟩ r hF;unfold CK at hF;refine Q2<|QZ<|QY (an rfl rfl (aM _ _ _)) rfl<|Q3<|Q4<|Q2 ?_;rcases aj hF with⟨h25,hF⟩|⟨h25,hF⟩
 refine Rf rfl h25<|Q8<|Q4<|Q2<|Ra<|Q2<|QZ<|QY (ab rfl) rfl<|QY (ai rfl) rfl<|Q3<|Q4<|Q2<|QZ<|QY (ab rfl) rfl<|QY (bj (k:=0) oD rfl rfl (.inl rfl)) rfl<|QY (ab rfl) rfl<|Q3<|Q4<|Ra ?_;obtain⟨r7,h26,hF⟩:=aa hF;refine Rh (G:=(fun(r:RS⊕RS) (g:RS)=>match r,g with|.inl _,_=>⟨.ret,[(4,.bool false)],[]⟩|.inr _,_=>⟨(.exit 2),[(5,.slice a2 l2.length c1),(7,.slice a1 l3.length c0),(94,.int .i64 (l2.length:Int)),(95,.int .i64 v0)],[.rd a2 c1 1 l2.length e3,.gen (aN aD r1 l2 e3),.rd a1 c0 1 l3.length e0,.gen (aN aD r0 l3 e0)]⟩) r7) ?_ ?_
 refine Rv (fs':=[(5,.slice a2 l2.length c1),(7,.slice a1 l3.length c0),(12,.int .i64 v0),(94,.int .i64 (l2.length:Int)),(95,.int .i64 v0),(99,.int .i64 (l2.length:Int)),(100,.int .i64 0)]) (ps':=[.rd a2 c1 1 l2.length e3,.gen (aN aD r1 l2 e3),.rd a1 c0 1 l3.length e0,.gen (aN aD r0 l3 e0)]) (sc rfl (sc rfl (sc rfl (sc rfl (sc rfl (sc rfl (sc rfl sn))))))) (ah.ae [0,1,2,3] rfl rfl) ?_;refine Rl (σ:=Int) (ρ:=(RS)⊕RS) (γ:=RS) (δ:=fun _=>RS) _ (fun(s:Int) (g:RS)=>match s,g with|v6,_=>⟨.normal,[(5,.slice a2 l2.length c1),(7,.slice a1 l3.length c0),(12,.int .i64 v0),(94,.int .i64 (l2.length:Int)),(95,.int .i64 v0),(99,.int .i64 (l2.length:Int)),(100,.int .i64 v6)],[.rd a2 c1 1 l2.length e3,.gen (aN aD r1 l2 e3),.rd a1 c0 1 l3.length e0,.gen (aN aD r0 l3 e0)]⟩) (fun(r:RS⊕RS) (g:RS)=>match r,g with|.inl _,_=>⟨.ret,[(4,.bool false)],[]⟩|.inr _,_=>⟨(.exit 2),[(5,.slice a2 l2.length c1),(7,.slice a1 l3.length c0),(94,.int .i64 (l2.length:Int)),(95,.int .i64 v0)],[.rd a2 c1 1 l2.length e3,.gen (aN aD r1 l2 e3),.rd a1 c0 1 l3.length e0,.gen (aN aD r0 l3 e0)]⟩) ?_ (fun _ _=>rfl) (fun r d=>by rcases r with _|_<;>(intro e; cases e)) _ _ _ h26 ()
 clear hF h26;rintro v6 ⟨⟩ r hF;unfold C6 at hF;refine Q2<|QZ<|QY (an rfl rfl (aM _ _ _)) rfl<|Q3<|Q4<|Q2 ?_;rcases aj hF with⟨h27,hF⟩|⟨h27,hF⟩
 refine Rf rfl h27<|Q8<|Q4<|Q2<|Ra<|Q2<|QZ<|QY (ab rfl) rfl<|QY (ai rfl) rfl<|Q3<|Q4<|Q2<|RC (by kernel_rfl)<|QY (ab rfl) rfl<|QY (ab rfl) rfl ?_
 obtain⟨h17,hF⟩:=ak hF;replace h17:=aq h17;refine Ry (k:=2) rfl (aO h17) ?_;rintro b0 o3 rfl;refine Q6 (bw sX rfl rfl h17) gn rfl ?_;obtain⟨l8,h49,hF⟩:=aa hF;refine Q5 (dV (r:=aD) (w:=1) (j:=v0.toNat) (c:=0) (q:=4) (z:=l8) (V:=fun g=>.slice g.1 l8.length g.2) (N:=fun g=>[.rd g.1 g.2 16 l8.length (l8.map R5),.ro b0 o3 1 l3.length e0,.rd a2 c1 1 l2.length e3,.gen (aN aD r1 l2 e3),.rd (some ⟨b0,o3,none⟩) c0 1 l3.length e0,.gen (aN aD r0 l3 e0)]) lC rfl rfl (gJ (k:=0) rfl) rfl h49 (fun _=>rfl) rfl (fun _=>rfl)) gn rfl ?_;rintro⟨a9,c4⟩;refine QY (ab rfl) rfl ?_;obtain⟨h18,hF⟩:=ak hF;replace h18:=aq h18;refine Ry (k:=0) rfl (aO h18) ?_;rintro b4 o5 rfl;refine Q6 (bw pR rfl rfl h18) gn rfl ?_;obtain⟨⟨x4,x5,x6,x7,x8,x9,x10,x11,x12,x13,x14,x15,x16,x17,x18,x19⟩,h50,hF⟩:=aa hF;refine QY (bR (k:=0) cV rfl rfl (aU h50) rfl rfl) rfl<|QY (ab rfl) rfl<|QY (ab rfl) rfl ?_;obtain⟨h19,hF⟩:=ak hF;replace h19:=aq h19;refine Ry (k:=3) rfl (aO h19) ?_;rintro b1 o4 rfl;refine Q6 (bw sX rfl rfl h19) gn rfl ?_;obtain⟨l12,h51,hF⟩:=aa hF;refine Q5 (dV (r:=aD) (w:=1) (j:=v0.toNat) (c:=0) (q:=5) (z:=l12) (V:=fun g=>.slice g.1 l12.length g.2) (N:=fun g=>[.rd g.1 g.2 16 l12.length (l12.map R5),.ro b1 o4 1 l2.length e3,.ro b4 o5 16 l8.length (l8.map R5),.rd (some ⟨b4,o5,none⟩) c4 16 l8.length (l8.map R5),.ro b0 o3 1 l3.length e0,.rd (some ⟨b1,o4,none⟩) c1 1 l2.length e3,.gen (aN aD r1 l2 e3),.rd (some ⟨b0,o3,none⟩) c0 1 l3.length e0,.gen (aN aD r0 l3 e0)]) lC rfl rfl (gJ (k:=0) rfl) rfl h51 (fun _=>rfl) rfl (fun _=>rfl)) gn rfl ?_;rintro⟨a10,c5⟩;refine QY (ab rfl) rfl ?_;obtain⟨h20,hF⟩:=ak hF;replace h20:=aq h20;refine Ry (k:=0) rfl (aO h20) ?_;rintro b9 o6 rfl;refine Q6 (bw pR rfl rfl h20) gn rfl ?_;obtain⟨⟨x20,x21,x22,x23,x24,x25,x26,x27,x28,x29,x30,x31,x32,x33,x34,x35⟩,h52,hF⟩:=aa hF;refine QY (bR (k:=0) cV rfl rfl (aU h52) rfl rfl) rfl ?_;obtain⟨⟨r19,r20⟩,h53,hF⟩:=aa hF;refine Q5 (bW rfl rfl (fun m hm=>KK n x4 x5 x6 x7 x8 x9 x10 x11 x12 x13 x14 x15 x16 x17 x18 x19 x20 x21 x22 x23 x24 x25 x26 x27 x28 x29 x30 x31 x32 x33 x34 x35  _ h53 m) fun _=>rfl) gn rfl ?_;rintro⟨⟩;refine QY (ab rfl) rfl<|QY (bZ rfl rfl) rfl<|QY (bZ rfl rfl) rfl<|QY (ai rfl) rfl<|QY (ai rfl) rfl<|Q3<|Q4<|Q2 ?_;obtain⟨v5,h54,hF⟩:=aa hF;refine Rh (G:=(fun(r:Bool) (g:RS)=>match r,g with|v5,_=>⟨.normal,[(5,.slice (some ⟨b1,o4,none⟩) l2.length c1),(7,.slice (some ⟨b0,o3,none⟩) l3.length c0),(12,.int .i64 v0),(94,.int .i64 (l2.length:Int)),(95,.int .i64 v0),(99,.int .i64 (l2.length:Int)),(100,.int .i64 v6),(140,.bool v5)],[.ro b1 o4 1 l2.length e3,.gen (aN aD r1 l2 e3),.rd (some ⟨b1,o4,none⟩) c1 1 l2.length e3,.ro b0 o3 1 l3.length e0,.gen (aN aD r0 l3 e0),.rd (some ⟨b0,o3,none⟩) c0 1 l3.length e0]⟩) v5) ?_ ?_
 clear hF;revert v5;intro r hF;refine QZ<|QY (ab rfl) rfl<|QY (an rfl rfl (cc _ _)) rfl<|QY (ab rfl) rfl ?_;rcases aj hF with⟨h5,hF⟩|⟨h5,hF⟩
 refine Re (gg rfl rfl (cw h5)) rfl<|Re (gg rfl rfl (cw h5)) rfl<|Re (gg rfl rfl (cw h5)) rfl<|Re (gg rfl rfl (cw h5)) rfl<|Re (gu rfl rfl) rfl<|Re (gu rfl rfl) rfl<|Re (gg rfl rfl (cw h5)) rfl<|QY (dv rfl h5 rfl) rfl<|QY (ab rfl) rfl<|Re (gg rfl rfl rfl) rfl ?_;refine Re (gg rfl rfl rfl) rfl<|Re (gg rfl rfl rfl) rfl<|Re (gg rfl rfl rfl) rfl<|Re (gu rfl rfl) rfl<|Re (gu rfl rfl) rfl<|Re (gg rfl rfl rfl) rfl<|QY (iO rfl rfl) rfl<|Q3 ?_;cases hF;exact Q7 () rfl (sc rfl (sc rfl (sc rfl (sc rfl (sc rfl (sc rfl (sc rfl (sc rfl sn)))))))) (ah.ae [2,7,6,5,9,8] rfl rfl)
 refine Q6 (ab rfl) (gg rfl rfl (cp h5)) rfl<|Q6 (ab rfl) (gg rfl rfl (cp h5)) rfl<|Q6 (an rfl rfl (cc _ _)) (gg rfl rfl (cp h5)) rfl<|Q6 (ab rfl) (gg rfl rfl (cp h5)) rfl ?_;rcases aj hF with⟨h14,hF⟩|⟨h14,hF⟩
 refine Q6 (ab rfl) (gg rfl rfl (gK h14)) rfl<|Q6 (an rfl rfl (cS _ _ _)) (gg rfl rfl (gK h14)) rfl<|Q6 (dv rfl h14 rfl) (gg rfl rfl (cp h5)) rfl<|QY (cX rfl h5 rfl) rfl<|QY (ab rfl) rfl ?_;rcases aj hF with⟨h6,hF⟩|⟨h6,hF⟩
 refine Re (gg rfl rfl (cw h6)) rfl<|Re (gg rfl rfl (cw h6)) rfl<|Re (gg rfl rfl (cw h6)) rfl<|Re (gg rfl rfl (cw h6)) rfl<|Re (gu rfl rfl) rfl<|Re (gu rfl rfl) rfl<|Re (gg rfl rfl (cw h6)) rfl<|QY (dv rfl h6 rfl) rfl<|Q3 ?_;cases hF;exact Q7 () rfl (sc rfl (sc rfl (sc rfl (sc rfl (sc rfl (sc rfl (sc rfl (sc rfl sn)))))))) (ah.ae [2,7,6,5,9,8] rfl rfl)
 refine Q6 (ab rfl) (gg rfl rfl (cp h6)) rfl<|Q6 (ab rfl) (gg rfl rfl (cp h6)) rfl<|Q6 (an rfl rfl (cW _ _ _)) (gg rfl rfl (cp h6)) rfl<|Q6 (ab rfl) (gg rfl rfl (cp h6)) rfl ?_;rcases aj hF with⟨h15,hF⟩|⟨h15,hF⟩
 refine Q6 (ab rfl) (gg rfl rfl (gK h15)) rfl<|Q6 (an rfl rfl (aM _ _ _)) (gg rfl rfl (gK h15)) rfl<|Q6 (dv rfl h15 rfl) (gg rfl rfl (cp h6)) rfl<|QY (cX rfl h6 rfl) rfl<|Q3 ?_;cases hF;exact Q7 () rfl (sc rfl (sc rfl (sc rfl (sc rfl (sc rfl (sc rfl (sc rfl (sc rfl sn)))))))) (ah.ae [2,7,6,5,9,8] rfl rfl)
 refine Re (gg rfl rfl (gN h15)) rfl<|Re (gg rfl rfl (gN h15)) rfl<|Q6 (cX rfl h15 rfl) (gg rfl rfl (cp h6)) rfl<|QY (cX rfl h6 rfl) rfl<|Q3 ?_;cases hF;exact Q7 () rfl (sc rfl (sc rfl (sc rfl (sc rfl (sc rfl (sc rfl (sc rfl (sc rfl sn)))))))) (ah.ae [2,7,6,5,9,8] rfl rfl)
 refine Re (gg rfl rfl (gN h14)) rfl<|Re (gg rfl rfl (gN h14)) rfl<|Q6 (cX rfl h14 rfl) (gg rfl rfl (cp h5)) rfl<|QY (cX rfl h5 rfl) rfl<|QY (ab rfl) rfl<|Q6 (ab rfl) (gg rfl rfl rfl) rfl<|Q6 (ab rfl) (gg rfl rfl rfl) rfl<|Q6 (an rfl rfl (cW _ _ _)) (gg rfl rfl rfl) rfl<|Q6 (ab rfl) (gg rfl rfl rfl) rfl ?_;rcases aj hF with⟨h16,hF⟩|⟨h16,hF⟩
 refine Q6 (ab rfl) (gg rfl rfl (gK h16)) rfl<|Q6 (an rfl rfl (aM _ _ _)) (gg rfl rfl (gK h16)) rfl<|Q6 (dv rfl h16 rfl) (gg rfl rfl rfl) rfl<|QY (D4 rfl rfl) rfl<|Q3 ?_;cases hF;exact Q7 () rfl (sc rfl (sc rfl (sc rfl (sc rfl (sc rfl (sc rfl (sc rfl (sc rfl sn)))))))) (ah.ae [2,7,6,5,9,8] rfl rfl)
 refine Re (gg rfl rfl (gN h16)) rfl<|Re (gg rfl rfl (gN h16)) rfl<|Q6 (cX rfl h16 rfl) (gg rfl rfl rfl) rfl<|QY (D4 rfl rfl) rfl<|Q3 ?_;cases hF;exact Q7 () rfl (sc rfl (sc rfl (sc rfl (sc rfl (sc rfl (sc rfl (sc rfl (sc rfl sn)))))))) (ah.ae [2,7,6,5,9,8] rfl rfl)
 rintro⟨⟩;refine Q4 ?_;rcases aj hF with⟨h28,hF⟩|⟨h28,hF⟩
 refine Rf rfl h28<|Q2<|QZ<|QY (ai rfl) rfl<|Q3<|Q4<|Q9<|RB<|Rp ?_;cases hF;exact Q7 () rfl (sc rfl sn) (ah.ae [] rfl rfl)
 refine Rg rfl h28<|Q8<|Rr<|Q4<|QZ<|QY (an rfl rfl (aJ _ _ _)) rfl<|QY (ab rfl) rfl<|Q3 ?_;cases hF;exact Q7 () rfl (sc rfl (sc rfl (sc rfl (sc rfl (sc rfl (sc rfl (sc rfl sn))))))) (ah.ae [2,1,5,4] rfl rfl)
 refine Rg rfl h27<|Rk<|Rs ?_;cases hF;exact Q7 () rfl (sc rfl (sc rfl (sc rfl (sc rfl sn)))) (ah.ae [0,1,2,3] rfl rfl)
 rcases r7 with _|_
 rintro⟨⟩;refine RB<|RB<|Rp ?_;cases hF;exact Q7 () rfl (sc rfl sn) (ah.ae [] rfl rfl)
 rintro⟨⟩;refine Ru<|Rr<|Q4<|QZ<|QY (an rfl rfl (aJ _ _ _)) rfl<|QY (ab rfl) rfl<|Q3 ?_;cases hF;exact Q7 () rfl (sc rfl (sc rfl (sc rfl (sc rfl sn)))) (ah.ae [0,1,2,3] rfl rfl)
 refine Rg rfl h25<|Rk<|Rs ?_;cases hF;exact Q7 () rfl sn (ah.ae [] rfl rfl)
 rcases r6 with _|_
 rintro⟨⟩;refine RB<|Rp ?_;cases hF;exact Rb (.tmp rfl .nil) fun m' hm=>⟨(),rfl,(ah.ae [] rfl rfl) m' hm⟩
 rintro⟨⟩;refine Ru<|Q4<|Q2<|QZ<|QY (ai rfl) rfl<|Q3<|Q4<|Q9 ?_;cases hF;exact Rb (.tmp rfl .nil) fun m' hm=>⟨(),rfl,(ah.ae [] rfl rfl) m' hm⟩
end Go.Proofs.YtpkadoocdgdcfaaGreatDoor
end
section
namespace Go.Ab.W
open Go Go.Ab
def kD{a:Nat}(h:a<2 ^ 64):uw .u64 a=a:=O4 h
def FH{a b:Nat}(ha:a<2 ^ 64)(hb:b<2 ^ 64):uw .u64 (uw .u64 a &&& uw .u64 b)=a &&& b:=by
 rw[kD ha,kD hb,kD (Pu Nat.and_le_left ha)]
def HJ{a b:Nat}(ha:a<2 ^ 64)(hb:b<2 ^ 64):uw .u64 (uw .u64 a ||| uw .u64 b)=a ||| b:=by
 rw[kD ha,kD hb,kD (Nat.or_lt_two_pow ha hb)]
def EB{a k:Nat}(h:k<=64):dF .u64 a k=a >>> k:=by
 unfold dF;rw[Ps (show k<=IntKind.bits .u64 from h),Nat.shiftRight_eq_div_pow]
end Go.Ab.W
end
section
namespace Go.Proofs.YtpkadoocdgdcfaaGreatDoor
section
open Go Go.Ab Go.Ab.W
section
variable{α β σ ρ:Type}
def kL(a b:RI β):br true a b=a:=rfl
def cz(a b:RI β):br false a b=b:=rfl
def aY(a:RI β):gd true a=a:=rfl
def al(x:α)(f:α->RI β):ob (some x) f=f x:=rfl
def aZ{p:Prop}[Decidable p](h:p)(a b:RI β):br (decide p) a b=a:=by rw[OY h]; rfl
def RJ{p:Prop}[Decidable p]{a b:RI β}(h:p:=by omega):br (decide p) a b=a:=aZ h a b
def aQ{p:Prop}[Decidable p](h:¬p)(a b:RI β):br (decide p) a b=b:=by rw[Pm h]; rfl
def RK{p:Prop}[Decidable p]{a b:RI β}(h:¬p:=by omega):br (decide p) a b=b:=aQ h a b
def eE{p:Prop}[Decidable p](h:p)(a:RI β):gd (decide p) a=a:=by rw[OY h]; rfl
def aB{i n:Nat}(h:i<n):bY (i:Int) n=true:=OY ⟨PF i,by simpa using h⟩
def aH{x:Int}(h1 : -9223372036854775808<=x)(h2:x<9223372036854775808):QU x=x:=wrap_i64 x h1 (by omega)
def aV{i:Nat}(h:i<4611686018427387904):QU ((i:Int)+1)=((i+1:Nat):Int):=by rw[aH (by omega) (by omega)]; rfl
def RL{i:Nat}(h:i<4611686018427387904:=by omega):QU ((i:Int)+1)=((i+1:Nat):Int):=aV h
def ca{body:σ->RI (σ⊕ρ)}{n:Nat}{s s':σ}(h:body s=some (.inl s')):cy body (n+1) s=cy body n s':=by simp only[cy,h]
def bX{body:σ->RI (σ⊕ρ)}{n:Nat}{s:σ}{r:ρ}(h:body s=some (.inr r)):cy body (n+1) s=some r:=by simp only[cy,h]
end
def pE{n:Nat}(h:n<=1073741824):lim n=true:=O9 h
structure Okay(N:Nat)(es:QK):Prop where
 pos:1<=N
 le:N<=64
 len:es.length<=200
 mem:∀e∈es,∃a b:Nat,e=((a:Int),(b:Int))/\a<b/\b<N
def bl(x:Nat):Nat:=if x=0 then 0 else Nat.log2 x+1
def rf{x k:Nat}:k<bl x↔2 ^ k<=x:=by
 unfold bl
 by_cases h:x=0
 subst h;rw[OM rfl];have:=Nat.two_pow_pos k;omega
 rw[OJ h,Nat.lt_succ_iff,Nat.le_log2 h]
def DJ{x m:Nat}(h:∀k,k<m↔2 ^ k<=x):m=bl x:=by
 rcases Nat.lt_trichotomy m (bl x) with h1|h1|h1
 have:=(h m).2 (rf.1 h1); omega
 exact h1
 have:=rf.2 ((h (bl x)).1 h1); omega
def Ff{x s:Nat}(h:2 ^ s<=x):bl (x >>> s)+s=bl x:=by
 refine DJ fun k=>?_;rw[Nat.shiftRight_eq_div_pow]
 by_cases hk:k<s
 have:2 ^ k<=2 ^ s:=O8 (by decide) (by omega)
 constructor
 intro _; omega
 intro _; omega
 obtain⟨d,rfl⟩:∃d,k=d+s:=⟨k-s,by omega⟩
 have h1:=rf (x:=x/2 ^ s) (k:=d);have h2:2 ^ (d+s)<=x↔2 ^ d<=x/2 ^ s:=by rw[Qe,Nat.le_div_iff_mul_le (Nat.two_pow_pos s)]
 rw[h2,<-h1]; omega
def KV:∀y:Fin 256,gA[y.val]? = some (bl y.val):=by decide +kernel
def GC{x s:Nat}(h:x<2 ^ s):bl x<=s:=by
 rcases Pk s (bl x) with h1|h1
 have:=rf.1 h1; omega
 exact h1
def ry(s y m:Nat)(hs:s<=32)(hy:y<2 ^ (2*s))(hm:m<=64):∃y' m':Nat,br (decide (2 ^ s<=y)) (some (dF .u64 y s,QU ((m:Int)+(s:Int)))) (some (y,(m:Int)))=some (y',(m':Int))/\y'<2 ^ s/\bl y'+m'=bl y+m/\m'<=m+s:=by
 by_cases h:2 ^ s<=y
 refine⟨y >>> s,m+s,?_,?_,?_,OF _⟩
 rw[aZ h,EB (by omega),aH (by omega) (by omega)]; rfl
 rw[Nat.shiftRight_eq_div_pow,Pt (Nat.two_pow_pos s),<-Qe];rw[Nat.two_mul] at hy; exact hy
 have:=Ff h; omega
 exact⟨y,m,aQ h _ _,by omega,rfl,by omega⟩
def Bl(n x:Nat)(hx:x<2 ^ 64):EK n x=some ((bl x:Nat):Int):=by
 unfold EK;obtain⟨y1,m1,e1,h1,b1,g1⟩:=ry 32 x 0 (by omega) hx (by omega)
 have e1':br (decide (4294967296<=x)) (some (dF .u64 x 32,(32:Int))) (some (x,0))=some (y1,(m1:Int)):=e1;rw[e1',al];obtain⟨y2,m2,e2,h2,b2,g2⟩:=ry 16 y1 m1 (by omega) h1 (by omega)
 have e2':br (decide (65536<=y1)) (some (dF .u64 y1 16,QU ((m1:Int)+16))) (some (y1,(m1:Int)))=some (y2,(m2:Int)):=e2;simp only[e2',al];obtain⟨y3,m3,e3,h3,b3,g3⟩:=ry 8 y2 m2 (by omega) h2 (by omega)
 have e3':br (decide (256<=y2)) (some (dF .u64 y2 8,QU ((m2:Int)+8))) (some (y2,(m2:Int)))=some (y3,(m3:Int)):=e3;simp only[e3',al];have h3:y3<256:=h3;have e:uw .u8 y3=y3:=O4 h3;have h8:bl y3<=8:=GC h3;have ht:gA[y3]? = some (bl y3):=KV ⟨y3,h3⟩;have w1:QU ((bl y3:Nat):Int)=((bl y3:Nat):Int):=aH (by omega) (by omega)
 rw[e,aB h3,aY,OC,ht,al,w1,aH (by omega) (by omega)]
 simp only[Option.some.injEq]; omega
def FG{σ ρ τ:Type}{body:τ->RI (τ⊕ρ)}(N:Nat)(mk:σ->Int->τ)(fin:σ->ρ)(I:Nat->σ->Prop)
  (hs:∀s i,i<N->I i s->∃s',body (mk s (i:Int))=some (.inl (mk s' ((i+1:Nat):Int)))/\I (i+1) s') (he:∀s,I N s->body (mk s (N:Int))=some (.inr (fin s))) :
  ∀(k i n:Nat) (s:σ),i+k=N->I i s->k<n->∃s',cy body n (mk s (i:Int))=some (fin s')/\I N s':=by
 intro k
 induction k with
 | zero =>
  intro i n s hi hI hn;obtain⟨n,rfl⟩:∃n',n=n'+1:=⟨n-1,by omega⟩
  have:i=N:=by omega
  subst this;exact⟨s,by simp only[cy,he s hI],hI⟩
 | succ k ih =>
  intro i n s hi hI hn;obtain⟨n,rfl⟩:∃n',n=n'+1:=⟨n-1,by omega⟩
  obtain⟨s',h1,h2⟩:=hs s i (by omega) hI
  simp only[cy,h1];exact ih (i+1) n s' (by omega) h2 (by omega)
def bI{σ ρ τ:Type}{body:τ->RI (τ⊕ρ)}(N:Nat)(mk:σ->Int->τ)(fin:σ->ρ)(I:Nat->σ->Prop)
  (hs:∀s i,i<N->I i s->∃s',body (mk s (i:Int))=some (.inl (mk s' ((i+1:Nat):Int)))/\I (i+1) s') (he:∀s,I N s->body (mk s (N:Int))=some (.inr (fin s)))
  {n:Nat} {s:σ} (hI:I 0 s) (hn:N<n):∃s',cy body n (mk s 0)=some (fin s')/\I N s' :=
 FG N mk fin I hs he N 0 n s (by omega) hI hn
def val(w:Nat):RR Nat->Nat
 | []=>0
 | d::ds=>d+2 ^ w*val w ds
def vl:RR Nat->Nat
 | []=>0
 | d::l=>d+18446744073709551616*vl l
def Wd(l:RR Nat):Prop:=∀d∈l,d<18446744073709551616
def wp(k:Nat):Nat:=18446744073709551616 ^ k
def HE:wp 0=1:=rfl
def ja(k:Nat):wp (k+1)=18446744073709551616*wp k:=by unfold wp; rw[PK,ON]
def Lk(a b:Nat):wp (a+b)=wp a*wp b:=Qe _ _ _
def AS(k:Nat):0<wp k:=Nat.pow_pos (by decide)
def iu:vl []=0:=rfl
def eR(d:Nat)(l:RR Nat):vl (d::l)=d+18446744073709551616*vl l:=rfl
def kZ(a b:RR Nat):vl (a++b)=vl a+wp a.length*vl b:=by
 induction a with
 | nil=>simp[vl,wp]
 | cons d a ih=>rw[QE,eR,eR,ih,Pg,ja,PO,OO,QB]
def kI{l:RR Nat}(h:Wd l):vl l<wp l.length:=by
 induction l with
 | nil=>exact Nat.one_pos
 | cons d l ih =>
  have h1:=h d Qp;have h2:=ih fun e he=>h e (List.mem_cons_of_mem _ he);rw[eR,Pg,ja];omega
def jE(k:Nat):vl (List.replicate k 0)=0:=by
 induction k with
 | zero=>rfl
 | succ k ih=>rw[PT,eR,ih]
def Wd.nil:Wd []:=fun _ h=>nomatch h
def Wd.zeros(k:Nat):Wd (List.replicate k 0):=fun d hd=>by rw[List.eq_of_mem_replicate hd]; decide
def Wd.app{a b:RR Nat}(ha:Wd a)(hb:Wd b):Wd (a++b):=fun d hd=>(P1.1 hd).elim (ha d) (hb d)
def Wd.left{a b:RR Nat}(h:Wd (a++b)):Wd a:=fun d hd=>h d (P1.2 (.inl hd))
def Wd.one{d:Nat}(h:d<18446744073709551616):Wd [d]:=fun e he=>by rw[PJ.1 he]; exact h
def Wd.at{l:RR Nat}(h:Wd l){i d:Nat}(hi:l[i]? = some d):d<18446744073709551616:=h d (Pl hi)
def Wd.set{l:RR Nat}(h:Wd l){i d:Nat}(hd:d<18446744073709551616):Wd (l.set i d):=fun e he=>by
 rcases List.mem_or_eq_of_mem_set he with h1|rfl
 exact h e h1
 exact hd
def Wd.take{l:RR Nat}(h:Wd l)(k:Nat):Wd (l.take k):=fun d hd=>h d (List.mem_of_mem_take hd)
def eO(l:RR Nat)(i:Nat)(hi:i<=l.length):vl l=vl (l.take i)+wp i*vl (l.drop i):=by
 have:=kZ (l.take i) (l.drop i);rwa[List.take_append_drop,PV,Ps hi] at this
def kH{l:RR Nat}{i d:Nat}(hi:l[i]? = some d):vl (l.drop i)=d+18446744073709551616*vl (l.drop (i+1)):=by
 obtain⟨h1,h2⟩:=OX.1 hi;rw[List.drop_eq_getElem_cons h1,eR,h2]
def AF{l:RR Nat}{i d:Nat}(e:Nat)(hi:l[i]? = some d):vl (l.set i e)+wp i*d=vl l+wp i*e:=by
 obtain⟨h1,h2⟩:=OX.1 hi;have a:=eO l i (P3 h1);have b:=eO (l.set i e) i (by rw[Qj]; exact P3 h1)
 have c:(l.set i e)[i]? = some e:=by rw[Pz h1]
 rw[kH hi] at a;rw[kH c,List.take_set_of_le (OF i),List.drop_set_of_lt (show i<i+1 from PD i)] at b
 rw[a,b,PO,PO];omega
structure Lg(z:Int)(s:Bool)(l:RR Nat):Prop where
 wd:Wd l
 last:∀d,l.getLast? = some d->d≠0
 val:z=if s then -(vl l:Int) else(vl l:Int)
 sign:s=true->l≠[]
def j4{l:RR Nat}(h:∀d,l.getLast? = some d->d≠0)(hl:l≠[]):wp (l.length-1)<=vl l:=by
 obtain⟨a,d,rfl⟩:∃a d,l=a++[d]:=⟨l.dropLast,l.getLast hl,(List.dropLast_concat_getLast hl).symm⟩;have h1:=h d (by simp)
 rw[kZ,OU,PS,Nat.add_sub_cancel,eR,iu];have:wp a.length*1<=wp a.length*(d+18446744073709551616*0):=PH _ (by omega)
 omega
def kq{l:RR Nat}(h:∀d,l.getLast? = some d->d≠0):vl l=0↔l=[]:=by
 refine⟨fun h1=>?_,fun h1=>by rw[h1]; rfl⟩
 by_cases hl:l=[]
 exact hl
 have:=j4 h hl;have:=AS (l.length-1);omega
def ud{d:Nat}{l:RR Nat}(h:∀e,(d::l).getLast? = some e->e≠0):∀e,l.getLast? = some e->e≠0:=by
 intro e he;cases l with
 | nil=>cases he
 | cons a l=>exact h e (by rw[List.getLast?_cons_cons]; exact he)
def KZ:∀{l k:RR Nat},Wd l->Wd k->(∀d,l.getLast? = some d->d≠0)->(∀d,k.getLast? = some d->d≠0)->vl l=vl k->l=k:=by
 intro l
 induction l with
 | nil=>intro k _ _ _ hk h; exact((kq hk).1 h.symm).symm
 | cons d l ih =>
  intro k wl wk hl hk h;cases k with
  | nil=>exact O6 ((kq hl).1 h) (by simp)
  | cons e k =>
   have h1:=wl d Qp;have h2:=wk e Qp;rw[eR,eR] at h;have h3:d=e:=by omega
   have h4:vl l=vl k:=by omega
   rw[h3,ih (fun x hx=>wl x (List.mem_cons_of_mem _ hx)) (fun x hx=>wk x (List.mem_cons_of_mem _ hx)) (ud hl) (ud hk) h4]
def Lg.inj{z:Int}{s t:Bool}{l k:RR Nat}(h:Lg z s l)(h':Lg z t k):s=t/\l=k:=by
 have a:=h.val;have b:=h'.val;have hz:=kq h.last;have hz':=kq h'.last;have e:vl l=vl k:=by
  cases s<;>cases t<;>simp only[OT,if_false,if_true] at a b<;>omega
 have e':=KZ h.wd h'.wd h.last h'.last e;refine⟨?_,e'⟩;subst e';cases s<;>cases t<;>simp only[OT,if_false,if_true] at a b
 rfl
 exact O6 (hz.1 (by omega)) (h'.sign rfl)
 exact O6 (hz.1 (by omega)) (h.sign rfl)
 rfl
def tp(s:Bool)(x:Nat):Int:=if s then -(x:Int) else(x:Int)
def Lg.zero:Lg 0 false []:={ wd:=Wd.nil,last:=fun _ h=>(nomatch h),val:=rfl,sign:=fun h=>(nomatch h)}
def Lg.small{x:Nat}(h0:x≠0)(h:x<18446744073709551616)(s:Bool):Lg (tp s x) s [x]:=⟨Wd.one h,fun d hd=>by simp at hd; omega,by simp[tp,vl],fun _=>by simp⟩
def Lg.FV{z:Int}{s:Bool}{l:RR Nat}(h:Lg z s l):s=decide (z<0):=by
 have a:=h.val;have hz:=kq h.last;cases s with
 | false=>simp only[OT,if_false] at a; rw[Pm (by omega)]
 | true =>
  simp only[if_true] at a;have:vl l≠0:=fun e=>h.sign rfl (hz.1 e);rw[OY (by omega)]
def Lg.abs{z:Int}{s:Bool}{l:RR Nat}(h:Lg z s l):vl l=z.natAbs:=by
 have a:=h.val;cases s<;>simp only[OT,if_false,if_true] at a<;>omega
def Lg.NC{z:Int}{s:Bool}{l:RR Nat}(h:Lg z s l):l=[]↔z=0:=by
 rw[<-kq h.last,h.abs]; omega
def fR{n:Nat}(s:Bool){l:RR Nat}(hl:Wd l)(hb:l.length<4611686018427387904)(hn:l.length<n) :
  ∃t k,mY n s l=some (t,k)/\Lg (tp s (vl l)) t k:=by
 have hL:∀i m,i<=l.length->i<m->vl (l.drop i)=0->∃j,cy (m9 n l) m ((i:Nat):Int)=some ((j:Nat):Int)/\j<=l.length/\vl (l.drop j)=0/\∀d,(l.take j).getLast? = some d->d≠0:=by
  intro i
  induction i with
  | zero =>
   intro m _ hm h0;obtain⟨m,rfl⟩:∃m',m=m'+1:=⟨m-1,by omega⟩
   refine⟨0,bX ?_,P6 _,h0,fun d hd=>by simp at hd⟩
   unfold m9;rw[aQ (by decide)]; rfl
  | succ i ih =>
   intro m hi hm h0;obtain⟨m,rfl⟩:∃m',m=m'+1:=⟨m-1,by omega⟩
   have hi':i<l.length:=hi;have e0:QU (((i+1:Nat):Int)-1)=((i:Nat):Int):=by rw[aH (by omega) (by omega)]; omega
   have e1:l[((i:Nat):Int).toNat]? = some l[i]:=by simp[hi']
   have e2:l[i]? = some l[i]:=by simp[hi']
   by_cases hz:l[i]=0
   have:m9 n l ((i+1:Nat):Int)=some (.inl ((i:Nat):Int)):=by
    unfold m9;rw[RJ,e0,aB hi',aY,e1,al,al,aZ hz]
   rw[ca this];exact ih m (P3 hi') (by omega) (by rw[kH e2,hz,h0])
   refine⟨i+1,bX ?_,hi,h0,fun d hd=>?_⟩
   unfold m9;rw[RJ,e0,aB hi',aY,e1,al,al,aQ hz]
   rw[List.getLast?_eq_getElem?,PV,Ps hi,Nat.add_sub_cancel,List.getElem?_take_of_lt (PD i),e2] at hd;cases hd;exact hz
 obtain⟨j,h1,h2,h3,h4⟩:=hL l.length n (OF _) hn (by rw[QD]; rfl)
 have hv:vl l=vl (l.take j):=by rw[eO l j h2,h3]; omega
 have hk:okB 0 ((j:Nat):Int) l.length=true:=OY ⟨by omega,by omega,by omega⟩
 have ht:(l.drop QV).take (((j:Nat):Int).toNat-QV)=l.take j:=by simp
 have hz:=kq h4;unfold mY;rw[h1,al];cases s with
 | false =>
  refine⟨false,l.take j,?_,hl.take j,h4,?_,fun h=>nomatch h⟩
  rw[cz,hk,aY,ht]
  rw[hv]; rfl
 | true =>
  refine⟨decide (0<((j:Nat):Int)),l.take j,?_,hl.take j,h4,?_,fun h e=>?_⟩
  rw[kL,hk,aY,ht]
  rw[hv]
  by_cases hj:0<((j:Nat):Int)
  rw[OY hj]; rfl
  have:j=0:=by omega
  subst this
  rfl
  have h5:=of_decide_eq_true h;have:=PX List.length e;rw[PV,Ps h2] at this;simp at this;omega
def uG(l:RR Nat)(i:Nat):∃y,vl (l.drop i)=y+18446744073709551616*vl (l.drop (i+1))/\(Wd l->y<18446744073709551616) /\
  (br (decide (((i:Nat):Int)<(l.length:Int))) (gd (bY ((i:Nat):Int) l.length) (ob (l[((i:Nat):Int).toNat]?) fun x=>some x)) (some 0))=some y:=by
 by_cases h:i<l.length
 have e2:l[i]? = some l[i]:=by simp[h]
 exact⟨l[i],kH e2,fun w=>w.at e2,by rw[RJ,aB h,aY,OC,e2]; rfl⟩
 refine⟨0,?_,fun _=>by decide,by rw[RK]⟩
 rw[Qx (by omega),Qx (by omega)]; rfl
def yg{a:RR Nat}{k e d:Nat}:(a++e::List.replicate k 0).set a.length d=(a++[d])++List.replicate k 0:=by
 rw[List.set_append_right _ _ (OF _),Qa,List.set_cons_zero,List.append_assoc]; rfl
def qG(a:RR Nat)(d:Nat):vl (a++[d])=vl a+wp a.length*d:=by rw[kZ,eR,iu]; rfl
def IY{n:Nat}{l k:RR Nat}(hl:Wd l)(hk:Wd k)(hb:l.length<1073741824)(hb':k.length<1073741824)(hn:l.length<n)(hn':k.length<n) :
  ∃r,E6 n l k=some r/\Wd r/\vl r=vl l+vl k/\r.length<=l.length+k.length+1:=by
 have key:∀a b:RR Nat,Wd a->Wd b->a.length<1073741824->b.length<=a.length->a.length<n->∃r,(gd (decide (0<=QU ((a.length:Int)+1))) (gd (lim ((QU ((a.length:Int)+1)).toNat)) (
   ob (cy (nf n a b) n ((List.replicate (QU ((a.length:Int)+1)).toNat (0:Nat)),(QU ((a.length:Int)+1)).toNat,0,0)) fun(l2,n2,v0) =>
   gd (bY (a.length:Int) n2) (ob (l2[(a.length:Int).toNat]?) fun x3=>some (l2.set ((a.length:Int).toNat) v0)))))=some r/\Wd r/\vl r=vl a+vl b/\r.length=a.length+1:=by
  intro a b ha h4 hba hab hna;have w1:QU ((a.length:Int)+1)=((a.length+1:Nat):Int):=by rw[aH (by omega) (by omega)]; rfl
  have hL:∀j i m p c,i+j=a.length->j<m->p.length=i->Wd p->c<=1->vl p+wp i*(c+vl (a.drop i)+vl (b.drop i))=vl a+vl b ->
    ∃q c',cy (nf n a b) m (p++List.replicate (j+1) 0,a.length+1,c,((i:Nat):Int))=some (q++[0],a.length+1,c')/\q.length=a.length/\Wd q/\c'<=1/\vl q+wp a.length*c'=vl a+vl b:=by
   intro j
   induction j with
   | zero =>
    intro i m p c hij hm hp wp' hc hv;obtain⟨m,rfl⟩:∃m',m=m'+1:=⟨m-1,by omega⟩
    have hi:i=a.length:=by omega
    refine⟨p,c,bX ?_,by omega,wp',hc,?_⟩
    unfold nf
    dsimp only
    rw[RK]; rfl
    subst hi;rw[QD,Qx (by omega),iu] at hv
    simpa using hv
   | succ j ih =>
    intro i m p c hij hm hp wp' hc hv;obtain⟨m,rfl⟩:∃m',m=m'+1:=⟨m-1,by omega⟩
    have hi:i<a.length:=by omega
    obtain⟨x,e2⟩:∃x,a[i]? = some x:=⟨a[i],by simp[hi]⟩
    have hx:=ha.at e2;obtain⟨y,y1,y2,y3⟩:=uG b i;have y2:=y2 h4;have e0:(p++List.replicate (j+1+1) 0)[((i:Nat):Int).toNat]? = some 0:=by
     rw[OC,O2 (by omega),PW]; simp; omega
    have st:nf n a b (p++List.replicate (j+1+1) 0,a.length+1,c,((i:Nat):Int))=some (.inl ((p++[(x+y+c)%18446744073709551616])++List.replicate (j+1) 0,a.length+1,(x+y+c)/18446744073709551616,((i+1:Nat):Int))):=by
     unfold nf
     dsimp only
     rw[RJ,aB hi,aY,OC,e2,al]
     rw[OC] at y3 e0;rw[y3,al];unfold DO;rw[eE hc,al]
     dsimp only
     rw[aB (show i<a.length+1 by omega),aY,e0,al,RL,<-hp,PT,yg]
    rw[ca st];refine ih (i+1) m _ _ (by omega) (by omega) (by rw[OU,hp]; rfl) (wp'.app (Wd.one (Pw _ (by decide)))) (by omega) ?_
    rw[<-hv,qG,hp,ja,kH e2,y1];have h1:∀s:Nat,s=s%18446744073709551616+18446744073709551616*(s/18446744073709551616):=fun s=>(Nat.mod_add_div s _).symm;have h2:=h1 (x+y+c);generalize(x+y+c)%18446744073709551616=lo at h2 ⊢;generalize(x+y+c)/18446744073709551616=hi' at h2 ⊢;have h3:c+(x+18446744073709551616*vl (a.drop (i+1)))+(y+18446744073709551616*vl (b.drop (i+1)))=lo+18446744073709551616*(hi'+vl (a.drop (i+1))+vl (b.drop (i+1))):=by omega
    rw[h3,PO (wp i),OP (wp i),<-OO,QB,QB]
  obtain⟨q,c',h1,h2,h3,h0,h5⟩:=hL a.length 0 n [] 0 (by omega) hna rfl Wd.nil (by omega) (by simp[vl,wp])
  refine⟨q++[c'],?_,h3.app (Wd.one (by omega)),by rw[qG,h2,h5],by rw[OU,h2]; rfl⟩
  rw[w1,eE (by omega)]
  have hlim:lim ((a.length+1:Nat):Int).toNat=true:=pE (by omega)
  rw[hlim,aY,OC];rw[show(List.replicate (a.length+1) (0:Nat),a.length+1,(0:Nat),(0:Int))=(([]:RR Nat)++List.replicate (a.length+1) 0,a.length+1,0,((0:Nat):Int)) from rfl,h1,al]
  dsimp only
  rw[aB (PD _),aY,OC,<-h2,O2 (OF _),Qa];rw[show([0]:RR Nat)[0]? = some 0 from rfl,al,List.set_append_right _ _ (OF _),Qa]
  rfl
 unfold E6
 by_cases h:l.length<k.length
 rw[RJ,al]
 obtain⟨r,h1,h2,h3,h0⟩:=key k l hk hl hb' (P3 h) hn';exact⟨r,h1,h2,by omega,by omega⟩
 rw[RK,al]
 obtain⟨r,h1,h2,h3,h0⟩:=key l k hl hk hb (by omega) hn
 exact⟨r,h1,h2,h3,by omega⟩
def Bp{n:Nat}{l k:RR Nat}(hl:Wd l)(hk:Wd k)(ll:∀d,l.getLast? = some d->d≠0)(lk:∀d,k.getLast? = some d->d≠0)(hb:l.length<1073741824)(hb':k.length<1073741824)(hn:l.length<n) :
  ∃r:Int,CZ n l k=some r/\(r<0↔vl l<vl k)/\(0<r↔vl k<vl l):=by
 have big:∀a b:RR Nat,Wd a->(∀d,b.getLast? = some d->d≠0)->a.length<b.length->vl a<vl b:=by
  intro a b ha hb h;have h1:=kI ha;have h2:=j4 hb (by intro e; rw[e] at h; exact Nat.not_lt_zero _ h)
  have h3:wp a.length<=wp (b.length-1):=O8 (by decide) (by omega)
  omega
 unfold CZ
 by_cases h:l.length=k.length
 ·rw[OY (show(l.length:Int)=(k.length:Int) by omega),OS,cz]
  have hL:∀i m,i<=l.length->i<m->vl (l.drop i)=vl (k.drop i)->∃r,cy (kT n l k) m ((i:Int)-1)=some r /\
    ((r=.inl (-1)/\vl l<vl k)\/(r=.inl 1/\vl k<vl l)\/(r=.inr ()/\vl l=vl k)):=by
   intro i
   induction i with
   | zero =>
    intro m _ hm h0;obtain⟨m,rfl⟩:∃m',m=m'+1:=⟨m-1,by omega⟩
    refine⟨.inr (),bX ?_,.inr (.inr ⟨rfl,by simpa using h0⟩)⟩
    unfold kT;rw[aQ (by decide)]
   | succ i ih =>
    intro m hi hm h0;obtain⟨m,rfl⟩:∃m',m=m'+1:=⟨m-1,by omega⟩
    obtain⟨x,e2⟩:∃x,l[i]? = some x:=⟨l[i],by simp⟩
    obtain⟨y,e3⟩:∃y,k[i]? = some y:=⟨k[i],by simp⟩
    have a1:=kH e2;have a2:=kH e3;have a3:=eO l i (by omega)
    have a4:=eO k i (by omega)
    have t1:=kI (hl.take i);have t2:=kI (hk.take i);rw[PV,Ps (by omega)] at t1 t2
    have e0:((i+1:Nat):Int)-1=((i:Nat):Int):=by omega
    rw[e0];rcases Nat.lt_trichotomy x y with hxy|hxy|hxy
    refine⟨.inl (-1),bX ?_,.inl ⟨rfl,?_⟩⟩
    unfold kT;rw[RJ,aB (by omega),aY,OC,e2,al,aB (by omega),aY,e3,al,aZ hxy]
    have:wp i*(vl (l.drop i)+1)<=wp i*vl (k.drop i):=PH _ (by omega)
    rw[PO] at this;omega
    have st:kT n l k ((i:Nat):Int)=some (.inl (((i:Nat):Int)-1)):=by
     unfold kT;rw[RJ,aB (by omega),aY,OC,e2,al,aB (by omega),aY,e3,al,RK,aY,aY,RK,aH (by omega) (by omega)]
    rw[ca st];exact ih m (by omega) (by omega) (by omega)
    refine⟨.inl 1,bX ?_,.inr (.inl ⟨rfl,?_⟩)⟩
    unfold kT;rw[RJ,aB (by omega),aY,OC,e2,al,aB (by omega),aY,e3,al,RK,aY,aY,aZ hxy]
    have:wp i*(vl (k.drop i)+1)<=wp i*vl (l.drop i):=PH _ (by omega)
    rw[PO] at this;omega
  obtain⟨r,h1,h2⟩:=hL l.length n (OF _) hn (by rw[QD,h,QD])
  rw[aH (by omega) (by omega),h1,al]
  rcases h2 with⟨rfl,h2⟩|⟨rfl,h2⟩|⟨rfl,h2⟩
  exact⟨-1,rfl,by omega,by omega⟩
  exact⟨1,rfl,by omega,by omega⟩
  exact⟨0,rfl,by omega,by omega⟩
 rw[Pm (show ¬(l.length:Int)=(k.length:Int) by omega),PC,kL]
 refine⟨_,rfl,?_,?_⟩<;>rw[aH (by omega) (by omega)]
 refine⟨fun h1=>big l k hl lk (by omega),fun h1=>?_⟩
 by_cases h2:l.length<k.length
 omega
 have:=big k l hk ll (by omega); omega
 refine⟨fun h1=>big k l hk ll (by omega),fun h1=>?_⟩
 by_cases h2:k.length<l.length
 omega
 have:=big l k hl lk (by omega); omega
def w5{n:Nat}{l k:RR Nat}(hl:Wd l)(hk:Wd k)(hle:vl k<=vl l)(hlk:k.length<=l.length)(hb:l.length<1073741824)(hn:l.length<n) :
  ∃r,CJ n l k=some r/\Wd r/\vl r=vl l-vl k/\r.length=l.length:=by
 have hL:∀j i m p c,i+j=l.length->j<m->p.length=i->Wd p->c<=1->vl p+wp i*vl (l.drop i)+vl k=vl l+wp i*(c+vl (k.drop i)) ->
   ∃q c',cy (px n l k) m (p++List.replicate j 0,c,((i:Nat):Int))=some q/\q.length=l.length/\Wd q/\c'<=1/\vl q+vl k=vl l+wp l.length*c':=by
  intro j
  induction j with
  | zero =>
   intro i m p c hij hm hp wp' hc hv;obtain⟨m,rfl⟩:∃m',m=m'+1:=⟨m-1,by omega⟩
   have hi:i=l.length:=by omega
   refine⟨p,c,bX ?_,by omega,wp',hc,?_⟩
   unfold px
   dsimp only
   rw[RK,List.replicate_zero,P2]
   subst hi;rw[QD,Qx (by omega),iu] at hv
   simpa using hv
  | succ j ih =>
   intro i m p c hij hm hp wp' hc hv;obtain⟨m,rfl⟩:∃m',m=m'+1:=⟨m-1,by omega⟩
   have hi:i<l.length:=by omega
   obtain⟨x,e2⟩:∃x,l[i]? = some x:=⟨l[i],by simp[hi]⟩
   have hx:=hl.at e2;obtain⟨y,y1,y2,y3⟩:=uG k i;have y2:=y2 hk;have e3:(p++List.replicate (j+1) 0)[((i:Nat):Int).toNat]? = some 0:=by
    rw[OC,O2 (by omega),PW]; simp; omega
   have st:px n l k (p++List.replicate (j+1) 0,c,((i:Nat):Int))=some (.inl ((p++[(x+18446744073709551616-y-c)%18446744073709551616])++List.replicate j 0,if x<y+c then 1 else 0,((i+1:Nat):Int))):=by
    unfold px
    dsimp only
    rw[RJ,aB hi,aY,OC,e2,al]
    rw[OC] at y3 e3;rw[y3,al];unfold JJ;rw[eE hc,al]
    dsimp only
    rw[OC,aB hi,aY,e3,al,RL,<-hp,PT,yg]
   rw[ca st];refine ih (i+1) m _ _ (by omega) (by omega) (by rw[OU,hp]; rfl) (wp'.app (Wd.one (Pw _ (by decide)))) (by split<;>omega) ?_
   rw[kH e2,y1] at hv;rw[qG,hp,ja];have h2:(x+18446744073709551616-y-c)%18446744073709551616+y+c=x+18446744073709551616*(if x<y+c then 1 else 0):=by split<;>omega
   generalize(x+18446744073709551616-y-c)%18446744073709551616=lo at h2 ⊢;generalize(if x<y+c then 1 else 0)=hi' at h2 ⊢
   generalize vl (l.drop (i+1))=A at hv ⊢;generalize vl (k.drop (i+1))=D at hv ⊢;have h3:wp i*(lo+y+c)=wp i*(x+18446744073709551616*hi'):=by rw[h2]
   simp only[PO,OP (wp i) 18446744073709551616,OO] at hv h3 ⊢;omega
 obtain⟨q,c',h1,h2,h3,h4,h5⟩:=hL l.length 0 n [] 0 (by omega) hn rfl Wd.nil (by omega) (by simp[vl,wp])
 refine⟨q,?_,h3,?_,h2⟩
 unfold CJ;rw[eE (by omega),OC,pE (by omega),aY]
 rw[show(List.replicate l.length (0:Nat),(0:Nat),(0:Int))=(([]:RR Nat)++List.replicate l.length 0,0,((0:Nat):Int)) from rfl,h1,al]
 have h6:=kI h3;rw[h2] at h6;have:c'=0:=by
  rcases Nat.le_one_iff_eq_zero_or_eq_one.1 h4 with e|e
  exact e
  rw[e] at h5; omega
 rw[this] at h5;omega
def yz(s:Bool):tp s 0=0:=by cases s<;>rfl
def wv{n:Nat}{a b:Int}{s t:Bool}{l k:RR Nat}(h:Lg a s l)(h':Lg b t k)(hb:l.length<1000000)(hb':k.length<1000000)(hn:l.length+k.length+1<n) :
  ∃u m,vA n s l t k=some (u,m)/\Lg (a+b) u m:=by
 have av:=h.val;have bv:=h'.val;unfold vA
 by_cases e:s=t
 subst e;rw[beq_self_eq_true,kL];obtain⟨r,r1,r2,r3,r4⟩:=IY (n:=n) h.wd h'.wd (by omega) (by omega) (by omega) (by omega)
 obtain⟨u,m,m1,m2⟩:=fR (n:=n) s r2 (by omega) (by omega)
 refine⟨u,m,by rw[r1,al,m1]; rfl,?_⟩
 have:a+b=tp s (vl r):=by rw[av,bv,r3]; unfold tp; cases s<;>simp<;>omega
 rw[this]; exact m2
 have:(s==t)=false:=by cases s<;>cases t<;>simp_all
 rw[this,cz];obtain⟨r,r1,r2,r3⟩:=Bp (n:=n) h.wd h'.wd h.last h'.last (by omega) (by omega) (by omega)
 have ht:t = !s:=by cases s<;>cases t<;>simp_all
 have longer:∀p q:RR Nat,Wd p->Wd q->(∀d,p.getLast? = some d->d≠0)->(∀d,q.getLast? = some d->d≠0)->vl p<=vl q->p.length<=q.length:=by
  intro p q wp1 wq1 lp lq hle;refine Nat.le_of_not_lt fun hlt=>?_;have h1:=kI wq1;have h2:=j4 lp (by intro e; rw[e] at hlt; exact Nat.not_lt_zero _ hlt)
  have h3:wp q.length<=wp (p.length-1):=O8 (by decide) (by omega)
  omega
 rw[r1,al]
 by_cases hr:r<0
 have hv:=r2.1 hr;obtain⟨m,m1,m2,m3,m4⟩:=w5 (n:=n) h'.wd h.wd (P3 hv) (longer _ _ h.wd h'.wd h.last h'.last (P3 hv)) (by omega) (by omega)
 obtain⟨u,m',u1,u2⟩:=fR (n:=n) t m2 (by omega) (by omega)
 refine⟨u,m',by rw[aZ hr,al]; dsimp only; rw[m1,al,u1]; rfl,?_⟩
 have:a+b=tp t (vl m):=by rw[av,bv,m3,ht]; unfold tp; cases s<;>simp<;>omega
 rw[this]; exact u2
 have hv:vl k<=vl l:=Nat.le_of_not_lt fun h=>hr (r2.2 h);obtain⟨m,m1,m2,m3,m4⟩:=w5 (n:=n) h.wd h'.wd hv (longer _ _ h'.wd h.wd h'.last h.last hv) (by omega) (by omega)
 obtain⟨u,m',u1,u2⟩:=fR (n:=n) s m2 (by omega) (by omega)
 refine⟨u,m',by rw[aQ hr,al]; dsimp only; rw[m1,al,u1]; rfl,?_⟩
 have:a+b=tp s (vl m):=by rw[av,bv,m3,ht]; unfold tp; cases s<;>simp<;>omega
 rw[this]; exact u2
def Bv{n:Nat}{a:Int}{s:Bool}{l:RR Nat}(h:Lg a s l)(hb:l.length<1000000)(hn:l.length<n):∃u m,xx n s l=some (u,m)/\Lg (-a) u m:=by
 obtain⟨u,m,m1,m2⟩:=fR (n:=n) (!s) h.wd (by omega) hn
 refine⟨u,m,by unfold xx; rw[m1]; rfl,?_⟩
 have : -a=tp (!s) (vl l):=by rw[h.val]; unfold tp; cases s<;>simp
 rw[this]; exact m2
def Lg.len{a:Int}{s:Bool}{l:RR Nat}(h:Lg a s l){k:Nat}(hk:a.natAbs<wp k):l.length<=k:=by
 refine Nat.le_of_not_lt fun hlt=>?_;have h2:=j4 h.last (by intro e; rw[e] at hlt; exact Nat.not_lt_zero _ hlt)
 have h3:wp k<=wp (l.length-1):=O8 (by decide) (by omega)
 have:=h.abs;omega
def Lg.up{a:Int}{s:Bool}{l:RR Nat}(h:Lg a s l):a.natAbs<wp l.length:=by
 rw[<-h.abs]; exact kI h.wd
def HF{n:Nat}{a b:Int}{s t:Bool}{l k:RR Nat}(h:Lg a s l)(h':Lg b t k)(hb:l.length<1000000)(hb':k.length<1000000)(hn:l.length+k.length+1<n) :
  ∃u m,EF n s l t k=some (u,m)/\Lg (a-b) u m:=by
 obtain⟨u,m,m1,m2⟩:=Bv (n:=n) h' hb' (by omega)
 have hm:m.length<=k.length:=m2.len (by rw[Int.natAbs_neg]; exact h'.up)
 obtain⟨v,q,q1,q2⟩:=wv (n:=n) h m2 hb (by omega) (by omega)
 exact⟨v,q,by unfold EF; rw[m1,al]; dsimp only; rw[q1]; rfl,q2⟩
def oY{n:Nat}{a:Int}{s:Bool}{l:RR Nat}(h:Lg a s l):∃r,BH n s l=some r/\(r<0↔a<0)/\(r=0↔a=0):=by
 have h1:=h.FV;have h2:=h.NC;unfold BH;cases s with
 | true =>
  have:=of_decide_eq_true h1.symm;exact⟨-1,rfl,by omega,by omega⟩
 | false =>
  have:=of_decide_eq_false h1.symm;rw[cz]
  by_cases hl:l=[]
  subst hl;have:=h2.1 rfl;exact⟨0,rfl,by omega,by omega⟩
  have:¬a=0:=fun e=>hl (h2.2 e);have:¬(l.length:Int)=0:=fun e=>hl (PL (by omega))
  rw[aQ this];exact⟨1,rfl,by omega,by omega⟩
def xP{a:Nat}(ha:a<18446744073709551616):uw .u64 (uw .u64 a &&& uw .u64 4294967295)=a%4294967296:=by
 rw[FH ha (by decide)]
 exact Nat.and_two_pow_sub_one_eq_mod a 32
def F5(a:Nat):dF .u64 a 32=a/4294967296:=rfl
def p8{a:Nat}(h:a<18446744073709551616):uw .u64 a=a:=O4 h
def Ic(n:Nat){x y:Nat}(hx:x<18446744073709551616)(hy:y<18446744073709551616):GI n x y=some (x*y/18446744073709551616,x*y%18446744073709551616):=by
 obtain⟨b1,b2,b3,hhi⟩:=Lib.mul64_hi x y hx hy;have ba:=Lib.half_mul_le (a:=x/4294967296) (b:=y/4294967296) (by omega) (by omega)
 have bb:=Lib.half_mul_le (a:=x/4294967296) (b:=y%4294967296) (by omega) (by omega)
 have bc:=Lib.half_mul_le (a:=x%4294967296) (b:=y/4294967296) (by omega) (by omega)
 unfold GI;simp only[xP hx,xP hy,F5,al];rw[p8 b1,p8 (a:=x/4294967296*(y%4294967296)) (by omega)]
 rw[p8 b2,xP b2,p8 (a:=x%4294967296*(y/4294967296)) (by omega),p8 b3,p8 (a:=x/4294967296*(y/4294967296)) (by omega)]
 rw[p8 (a:=x/4294967296*(y/4294967296)+_) (by omega),p8 (by omega),hhi]
 rfl
def It{n:Nat}{k:RR Nat}(hk:Wd k){x i N:Nat}(hx:x<18446744073709551616)(hN:i+k.length<N)(hNb:N<4611686018427387904){b:RR Nat}(hb:Wd b)(hbN:b.length=N) :
  ∀r j m cur c,j+r=k.length->r<m->Wd cur->cur.length=N->c<18446744073709551616->(∀p,i+k.length<=p->cur[p]? = b[p]?) ->
   vl cur+wp (i+j)*c+wp (i+j)*(x*vl (k.drop j))=vl b+wp i*(x*vl k) ->
   ∃q c',cy (oO n k x (i:Int) N) m (cur,c,((j:Nat):Int))=some (q,c')/\Wd q/\q.length=N/\c'<18446744073709551616/\(∀p,i+k.length<=p->q[p]? = b[p]?)/\vl q+wp (i+k.length)*c'=vl b+wp i*(x*vl k):=by
 intro r
 induction r with
 | zero =>
  intro j m cur c hj hm hw hl hc hp hv;obtain⟨m,rfl⟩:∃m',m=m'+1:=⟨m-1,by omega⟩
  have hj':j=k.length:=by omega
  refine⟨cur,c,bX ?_,hw,hl,hc,hp,?_⟩
  unfold oO
  dsimp only
  rw[RK]
  rw[<-hv,hj',QD,iu]; omega
 | succ r ih =>
  intro j m cur c hj hm hw hl hc hp hv;obtain⟨m,rfl⟩:∃m',m=m'+1:=⟨m-1,by omega⟩
  have hi:j<k.length:=by omega
  obtain⟨y,e2⟩:∃y,k[j]? = some y:=⟨k[j],by simp[hi]⟩
  have hy:=hk.at e2;obtain⟨d,e3⟩:∃d,cur[i+j]? = some d:=⟨cur[i+j]'(by omega),by simp⟩
  have hd:=hw.at e3;have hxy:x*y<=18446744073709551615*18446744073709551615:=Pe (by omega) (by omega)
  have w1:QU ((i:Int)+((j:Nat):Int))=((i+j:Nat):Int):=by rw[aH (by omega) (by omega)]; omega
  have st:oO n k x (i:Int) N (cur,c,((j:Nat):Int))=some (.inl (cur.set (i+j) ((x*y+d+c)%18446744073709551616),(x*y+d+c)/18446744073709551616,((j+1:Nat):Int))):=by
   unfold oO
   dsimp only
   rw[RJ,aB hi,aY,OC,e2,al,Ic n hx hy,al]
   dsimp only
   rw[w1,aB (by omega),aY,OC,e3,al]
   unfold DO;rw[eE (by omega),al]
   dsimp only
   rw[eE (by omega),al]
   dsimp only
   rw[aY,RL,p8 (a:=x*y/18446744073709551616+_) (by omega),p8 (by omega)]
   congr 3
   congr 1; omega
   congr 1; omega
  rw[ca st];refine ih (j+1) m _ _ (by omega) (by omega) (hw.set (Pw _ (by decide))) (by rw[Qj]; exact hl) (by omega) (fun p hp'=>by rw[PQ (by omega)]; exact hp p hp') ?_
  rw[kH e2] at hv;have hs:=AF ((x*y+d+c)%18446744073709551616) e3;rw[<-hv,<-QB i j 1,ja];have h2:(x*y+d+c)%18446744073709551616+18446744073709551616*((x*y+d+c)/18446744073709551616)=x*y+d+c:=Nat.mod_add_div _ _;generalize(x*y+d+c)%18446744073709551616=lo at h2 hs ⊢;generalize(x*y+d+c)/18446744073709551616=hi' at h2 ⊢;generalize vl (k.drop (j+1))=A at hv ⊢;generalize vl (cur.set (i+j) lo)=Z at hs ⊢;have h3:wp (i+j)*(lo+18446744073709551616*hi')=wp (i+j)*(x*y+d+c):=by rw[h2]
  simp only[PO,OP (wp (i+j)) 18446744073709551616,OP x 18446744073709551616,OO] at hs h3 ⊢;omega
def HS{n:Nat}{l k:RR Nat}(hl:Wd l)(hk:Wd k)(hb:l.length<500000000)(hb':k.length<500000000)(hn:l.length<n)(hn':k.length<n) :
  ∃r,EJ n l k=some r/\Wd r/\vl r=vl l*vl k/\r.length=l.length+k.length:=by
 have hL:∀r i m b,i+r=l.length->r<m->Wd b->b.length=l.length+k.length->(∀p,i+k.length<=p->p<l.length+k.length->b[p]? = some 0) ->
   vl b+wp i*(vl (l.drop i)*vl k)=vl l*vl k ->
   ∃q,cy (pF n l k) m (b,l.length+k.length,((i:Nat):Int))=some (q,l.length+k.length)/\Wd q/\q.length=l.length+k.length/\vl q=vl l*vl k:=by
  intro r
  induction r with
  | zero =>
   intro i m b hi hm hw hlen _ hv;obtain⟨m,rfl⟩:∃m',m=m'+1:=⟨m-1,by omega⟩
   have hi':i=l.length:=by omega
   refine⟨b,bX ?_,hw,hlen,?_⟩
   unfold pF
   dsimp only
   rw[RK]
   rw[<-hv,hi',QD,iu]; simp
  | succ r ih =>
   intro i m b hi hm hw hlen hz hv;obtain⟨m,rfl⟩:∃m',m=m'+1:=⟨m-1,by omega⟩
   have hi':i<l.length:=by omega
   obtain⟨x,e2⟩:∃x,l[i]? = some x:=⟨l[i],by simp⟩
   have hx:=hl.at e2;obtain⟨q,c,q1,q2,q3,q4,q5,q6⟩:=It (n:=n) (i:=i) hk hx (N:=l.length+k.length) (by omega) (by omega) hw hlen k.length 0 n b 0 (by omega) hn' hw hlen (by decide) (fun _ _=>rfl) (by simp)
   have e3:q[i+k.length]? = some 0:=by rw[q5 _ (OF _)]; exact hz _ (OF _) (by omega)
   have w1:QU ((i:Int)+(k.length:Int))=((i+k.length:Nat):Int):=by rw[aH (by omega) (by omega)]; omega
   have st:pF n l k (b,l.length+k.length,((i:Nat):Int))=some (.inl (q.set (i+k.length) c,l.length+k.length,((i+1:Nat):Int))):=by
    unfold pF
    dsimp only
    rw[RJ,aB hi',aY,OC,e2,al]
    rw[show((0:Int))=((0:Nat):Int) from rfl,q1,al]
    dsimp only
    rw[w1,aB (by omega),aY,OC,e3,al,RL]
   rw[ca st];refine ih (i+1) m _ (by omega) (by omega) (q2.set q4) (by rw[Qj]; exact q3) (fun p h1 h2=>by rw[PQ (by omega),q5 p (by omega)]; exact hz p (by omega) h2) ?_
   have hs:=AF c e3;rw[kH e2] at hv;rw[<-hv,ja];generalize vl (q.set (i+k.length) c)=Z at hs ⊢;generalize vl (l.drop (i+1))=A at hv ⊢;have h4:wp i*((x+18446744073709551616*A)*vl k)=wp i*(x*vl k)+18446744073709551616*wp i*(A*vl k):=by
    simp only[Po,PO,OO,OP (wp i) 18446744073709551616]
   rw[h4];omega
 unfold EJ;have w1:QU ((l.length:Int)+(k.length:Int))=((l.length+k.length:Nat):Int):=by rw[aH (by omega) (by omega)]; omega
 obtain⟨q,q1,q2,q3,q4⟩:=hL l.length 0 n (List.replicate (l.length+k.length) 0) (by omega) hn (Wd.zeros _) (by simp) (fun p _ h2=>by rw[PW]; simp[h2]) (by rw[jE,HE]; simp)
 refine⟨q,?_,q2,q4,q3⟩;rw[w1,eE (by omega),OC,pE (by omega),aY]
 rw[show((0:Int))=((0:Nat):Int) from rfl,q1]
 rfl
def F0{n:Nat}{a b:Int}{s t:Bool}{l k:RR Nat}(h:Lg a s l)(h':Lg b t k)(hb:l.length<1000000)(hb':k.length<1000000)(hn:l.length+k.length<n) :
  ∃u m,Cw n s l t k=some (u,m)/\Lg (a*b) u m:=by
 obtain⟨r,r1,r2,r3,r4⟩:=HS (n:=n) h.wd h'.wd (by omega) (by omega) (by omega) (by omega)
 obtain⟨u,m,m1,m2⟩:=fR (n:=n) (!(s==t)) r2 (by omega) (by omega)
 refine⟨u,m,by unfold Cw; rw[r1,al,m1]; rfl,?_⟩
 have:a*b=tp (!(s==t)) (vl r):=by
  rw[h.val,h'.val,r3]; unfold tp;cases s<;>cases t<;>simp[Int.neg_mul,Int.mul_neg]
 rw[this]; exact m2
def wD{a b:Nat}(ha:a<18446744073709551616)(h:b<=a):gZ .u64 a b=a-b:=by
 show(a+(18446744073709551616-b%18446744073709551616))%18446744073709551616=a-b
 omega
def Df(n0:Nat){u y1 y0 d:Nat}(h1:2147483648<=y1)(h1':y1<4294967296)(h0:y0<4294967296)(hd:d<4294967296){Q:Nat}(le_iff:∀p,p<=Q↔p*y1*4294967296+p*y0<=u*4294967296+d)(hQb:Q<4294967296) :
  ∀k r q m,4294967296<=r+k*2147483648->k<m->q*y1+r=u->Q<=q->q<=4294967297->r<4294967296->cy (fQ n0 d y0 y1) m (r,q)=some Q:=by
 intro k
 induction k with
 | zero=>intro r q m hk _ _ _ _ hr; omega
 | succ k ih =>
  intro r q m hk hm hq hQ hqb hr;obtain⟨m,rfl⟩:∃m',m=m'+1:=⟨m-1,by omega⟩
  by_cases hT:4294967296<=q\/4294967296*r+d<q*y0
  have hlt:Q<q:=by
   rcases hT with hT|hT
   omega
   refine Nat.lt_of_not_le fun h=>?_;rw[le_iff] at h;omega
  obtain⟨p,rfl⟩:∃p,q=p+1:=⟨q-1,by omega⟩
  rw[Po,Nat.one_mul] at hq;have test:(br (decide (4294967296<=p+1)) (some true) (some (decide (uw .u64 ((uw .u64 (4294967296*r))+d)<uw .u64 ((p+1)*y0)))))=some true:=by
   by_cases hb:4294967296<=p+1
   rw[aZ hb]
   have h2:(p+1)*y0<=4294967295*4294967295:=Pe (by omega) (by omega)
   rw[aQ hb,p8 (a:=4294967296*r) (by omega),p8 (by omega),p8 (by omega),OY (by omega)]
  have sb:gZ .u64 (p+1) 1=p:=wD (by omega) (by omega)
  by_cases hb:4294967296<=r+y1
  have st:fQ n0 d y0 y1 (r,p+1)=some (.inr p):=by
   unfold fQ
   dsimp only
   rw[test,al,kL,p8 (a:=r+y1) (by omega),aZ hb,sb]
  rw[bX st];have h2:p*y0<=4294967296*4294967295:=Pe (by omega) (by omega)
  have h3:p<=Q:=by rw[le_iff]; omega
  rw[show p=Q by omega]
  have st:fQ n0 d y0 y1 (r,p+1)=some (.inl (r+y1,p)):=by
   unfold fQ
   dsimp only
   rw[test,al,kL,p8 (a:=r+y1) (by omega),aQ hb,sb]
  rw[ca st];exact ih (r+y1) p m (by omega) (by omega) (by omega) (by omega) (by omega) (by omega)
  have hq2:q<4294967296:=by omega
  have h2:q*y0<=4294967295*4294967295:=Pe (by omega) (by omega)
  have st:fQ n0 d y0 y1 (r,q)=some (.inr q):=by
   unfold fQ
   dsimp only
   rw[RK,p8 (a:=4294967296*r) (by omega),p8 (by omega),p8 (by omega),al,RK]
  rw[bX st];have h3:q<=Q:=by rw[le_iff]; omega
  rw[show q=Q by omega]
def Dv(n0 y s y1 y0 d e:Nat):∀m q r,cy (rU n0) m (y,s,y1,y0,d,e,q,r)=(cy (fQ n0 d y0 y1) m (r,q)).map fun q=>(y,s,y1,y0,d,e,q):=by
 intro m
 induction m with
 | zero=>intro q r; rfl
 | succ m ih =>
  intro q r;have a:∀b,(br b (br (decide (4294967296<=uw .u64 (r+y1))) (some (.inr (y,s,y1,y0,d,e,gZ .u64 q 1))) (some (.inl (y,s,y1,y0,d,e,gZ .u64 q 1,uw .u64 (r+y1))))) (some (.inr (y,s,y1,y0,d,e,q))):RI (R8 ⊕(Nat×Nat×Nat×Nat×Nat×Nat×Nat))) =
   (br b (br (decide (4294967296<=uw .u64 (r+y1))) (some (.inr (gZ .u64 q 1))) (some (.inl (uw .u64 (r+y1),gZ .u64 q 1)))) (some (.inr q)):RI ((Nat×Nat)⊕Nat)).map fun x=>match x with|.inl (r,q)=>.inl (y,s,y1,y0,d,e,q,r)|.inr q=>.inr (y,s,y1,y0,d,e,q):=by
   intro b;cases b
   rfl
   rw[kL,kL];cases decide (4294967296<=uw .u64 (r+y1))<;>rfl
  have st:rU n0 (y,s,y1,y0,d,e,q,r)=(fQ n0 d y0 y1 (r,q)).map fun x=>match x with|.inl (r,q)=>.inl (y,s,y1,y0,d,e,q,r)|.inr q=>.inr (y,s,y1,y0,d,e,q):=by
   unfold rU fQ
   dsimp only
   cases(br (decide (4294967296<=q)) (some true) (some (decide (uw .u64 ((uw .u64 (4294967296*r))+d)<uw .u64 (q*y0)))):RI Bool) with
   | none=>rfl
   | some b=>exact a b
  unfold cy;rw[st];cases fQ n0 d y0 y1 (r,q) with
  | none=>rfl
  | some x =>
   cases x with
   | inl p=>exact ih p.2 p.1
   | inr p=>rfl
def uE{a b:Nat}(h:b<=a)(hr:a-b<18446744073709551616):gZ .u64 (uw .u64 a) (uw .u64 b)=a-b:=by
 show(a%18446744073709551616+(18446744073709551616-b%18446744073709551616%18446744073709551616))%18446744073709551616=a-b
 omega
def Ku{x:Nat}(h0:0<x):2 ^ (bl x-1)<=x/\x<2 ^ bl x/\0<bl x:=by
 have h1:0<bl x:=rf.2 (by simp; omega)
 refine⟨rf.1 (by omega),?_,h1⟩
 exact Nat.lt_of_not_le fun h=>Nat.lt_irrefl _ (rf.2 h)
def vW{a s:Nat}(h:s<=64):eY .u64 a s=uw .u64 (a*2 ^ s):=by
 have:min s (IntKind.bits .u64)=s:=Ps h;unfold eY;rw[this]
def Cz{a s:Nat}(h:s<=64):dF .u64 a s=a/2 ^ s:=by
 have:min s (IntKind.bits .u64)=s:=Ps h;unfold dF;rw[this]
def BY{n:Nat}(hn:4<n){u y1 y0 d:Nat}(h1:2147483648<=y1)(h1':y1<4294967296)(h0:y0<4294967296)(hd:d<4294967296)(hu:u<y1*4294967296+y0) :
  cy (fQ n d y0 y1) n (gZ .u64 u (uw .u64 (uw .u64 (u/y1)*y1)),uw .u64 (u/y1))=some ((u*4294967296+d)/(y1*4294967296+y0)):=by
 have e1:=P8 u y1;have e2:=Pw u (show 0<y1 by omega)
 rw[ON] at e1;have hq:u/y1<=4294967297:=by
  have:u/y1<4294967298:=by rw[Pt (by omega)]; omega
  omega
 rw[p8 (a:=u/y1) (by omega),p8 (a:=u/y1*y1) (by omega),wD (by omega) (by omega)]
 have hy:0<y1*4294967296+y0:=by omega
 refine Df n h1 h1' h0 hd (fun p=>by rw[Nat.le_div_iff_mul_le hy,PO,<-OO]) (by rw[Pt hy]; omega) 2 _ _ n (by omega) (by omega) (by omega) ?_ hq (by omega)
 have:(u*4294967296+d)/(y1*4294967296+y0)<u/y1+1:=by
  rw[Pt hy,Po,Nat.one_mul,PO,<-OO];omega
 omega
def HO{U w v A B R1 R0 d1 d0:Nat}(hU:U=w*4294967296)(h6:4294967296*d1+d0=v)(h5:A*4294967296+R1*4294967296=(w+d1)*4294967296)(m3:B+R0=R1*4294967296+d0) :
  U+v=R0+(A*4294967296+B):=by
 omega
def Nj(u:Nat):u*18446744073709551616=u*4294967296*4294967296:=by rw[OO]
def H5{n:Nat}(hn:4<n){x1 x2 x3:Nat}(h1:x1<x3)(h2:x2<18446744073709551616)(h3:x3<18446744073709551616) :
  D8 n x1 x2 x3=some ((x1*18446744073709551616+x2)/x3,(x1*18446744073709551616+x2)%x3):=by
 unfold D8;rw[RK,RK]
 by_cases hz:x1=0
 subst hz;rw[aZ rfl,eE (by omega),eE (by omega),p8 (Pu (Nat.div_le_self _ _) h2)]
 simp
 rw[aQ hz];obtain⟨l1,l2,l3⟩:=Ku (x:=x3) (by omega)
 have l4:bl x3<=64:=GC h3;obtain⟨s,hs⟩:∃s,bl x3+s=64:=⟨64-bl x3,by omega⟩
 have r0:Ag n x3=some ((s:Nat):Int):=by
  unfold Ag;rw[Bl n x3 h3,al,aH (by omega) (by omega)]
  congr 1
  omega
 have u0:ui .u64 ((s:Nat):Int)=s:=by
  show(((s:Nat):Int)%((2 ^ 64:Nat):Int)).toNat=s
  omega
 have P0:0<2 ^ s:=Nat.two_pow_pos s;have PP:2 ^ s*2 ^ (64-s)=18446744073709551616:=by rw[<-Qe,show s+(64-s)=64 by omega]
 have X1:x3*2 ^ s<18446744073709551616:=by
  have:x3*2 ^ s<2 ^ bl x3*2 ^ s:=Nat.mul_lt_mul_of_pos_right l2 P0;rw[<-Qe,hs] at this;exact this
 have X2:9223372036854775808<=x3*2 ^ s:=by
  have:2 ^ (bl x3-1)*2 ^ s<=x3*2 ^ s:=Ph _ l1;rw[<-Qe,show bl x3-1+s=63 by omega] at this
  exact this
 have X3:x1*2 ^ s<x3*2 ^ s:=Nat.mul_lt_mul_of_pos_right h1 P0;have s1:eY .u64 x3 s=x3*2 ^ s:=by
  rw[vW (by omega),p8 X1]
 have s2:eY .u64 x1 s=x1*2 ^ s:=by
  rw[vW (by omega),p8 (by omega)]
 have s3:eY .u64 x2 s=x2*2 ^ s%18446744073709551616:=by
  rw[vW (by omega)]; rfl
 have t0:dF .u64 x2 (gZ .u64 64 s)=x2/2 ^ (64-s):=by
  rw[wD (by decide) (by omega)]
  rw[Cz (by omega)]
 have t1:x2/2 ^ (64-s)<2 ^ s:=by rw[Pt (Nat.two_pow_pos _),PP]; exact h2
 have t2:x2*2 ^ s/18446744073709551616=x2/2 ^ (64-s):=by rw[<-PP,ON x2,Nat.mul_div_mul_left _ _ P0]
 have hor:uw .u64 (uw .u64 (x1*2 ^ s) ||| uw .u64 (x2/2 ^ (64-s)))=x1*2 ^ s+x2/2 ^ (64-s):=by
  have h0:x2/2 ^ (64-s)<=x2:=Nat.div_le_self _ _;rw[HJ (show x1*2 ^ s<2 ^ 64 by omega) (show x2/2 ^ (64-s)<2 ^ 64 by omega),<-Nat.shiftLeft_eq,Nat.shiftLeft_add_eq_or_of_lt t1]
 rw[r0,al,u0,al,s1,s2,t0,hor,s3];have key:(x1*2 ^ s+x2/2 ^ (64-s))*18446744073709551616+x2*2 ^ s%18446744073709551616=(x1*18446744073709551616+x2)*2 ^ s:=by
  have:=P8 (x2*2 ^ s) 18446744073709551616;rw[t2] at this;rw[Po,Po,Nat.mul_right_comm x1];omega
 have hv:x2*2 ^ s%18446744073709551616<18446744073709551616:=Pw _ (by decide)
 have hu:x1*2 ^ s+x2/2 ^ (64-s)<x3*2 ^ s:=by
  have h0:(x1*18446744073709551616+x2)*2 ^ s<(x3*18446744073709551616)*2 ^ s:=Nat.mul_lt_mul_of_pos_right (by omega) P0
  rw[<-key,Nat.mul_right_comm x3] at h0;omega
 have r1:(x1*18446744073709551616+x2)/x3=((x1*18446744073709551616+x2)*2 ^ s)/(x3*2 ^ s):=by rw[Nat.mul_div_mul_right _ _ P0]
 have r3:(x1*18446744073709551616+x2)%x3=(((x1*18446744073709551616+x2)*2 ^ s)%(x3*2 ^ s))/2 ^ s:=by rw[Nat.mul_mod_mul_right,Nat.mul_div_cancel _ P0]
 rw[r1,r3,<-key];have hss:∀R,dF .u64 R s=R/2 ^ s:=fun R=>Cz (by omega)
 clear PP t1 t2 hor key r1 r3 r0 u0 s2 s3 s1 t0 P0 X3 l1 l2 l3 l4 hs;generalize x1*2 ^ s+x2/2 ^ (64-s)=u at hu ⊢;generalize x2*2 ^ s%18446744073709551616=v at hv ⊢;generalize x3*2 ^ s=X at X1 X2 hu ⊢;have hX:X/4294967296*4294967296+X%4294967296=X:=Nat.div_add_mod' _ _;rw[eE (show 0<dF .u64 X 32 by rw[F5]; omega)]
 simp only[F5,xP X1,xP hv];rw[al,Dv];rw[BY hn (u:=u) (y1:=X/4294967296) (y0:=X%4294967296) (d:=v/4294967296) (by omega) (by omega) (by omega) (by omega) (by omega),hX]
 have q0:(u*4294967296+v/4294967296)/X<4294967296:=by rw[Pt (by omega)]; omega
 have m1:=P8 (u*4294967296+v/4294967296) X;have m2:=Pw (u*4294967296+v/4294967296) (show 0<X by omega)
 rw[OI,al]
 dsimp only
 rw[al,eE (by omega)]
 have e1:uw .u64 (uw .u64 (u*4294967296)+v/4294967296)=uw .u64 (u*4294967296+v/4294967296):=Nat.mod_add_mod _ _ _;rw[ON X] at m1;rw[e1,uE (by omega) (by omega)]
 have e2:u*4294967296+v/4294967296-(u*4294967296+v/4294967296)/X*X=(u*4294967296+v/4294967296)%X:=by omega
 rw[e2];obtain⟨Q1,hQ1⟩:∃Q,(u*4294967296+v/4294967296)/X=Q:=⟨_,rfl⟩;obtain⟨R1,hR1⟩:∃R,(u*4294967296+v/4294967296)%X=R:=⟨_,rfl⟩;clear e2;rw[hQ1] at q0 m1 ⊢;rw[hR1] at m1 m2 ⊢;rw[BY hn (u:=R1) (y1:=X/4294967296) (y0:=X%4294967296) (d:=v%4294967296) (by omega) (by omega) (by omega) (by omega) (by omega),hX,al]
 have q1:(R1*4294967296+v%4294967296)/X<4294967296:=by rw[Pt (by omega)]; omega
 have m3:=P8 (R1*4294967296+v%4294967296) X;have m4:=Pw (R1*4294967296+v%4294967296) (show 0<X by omega)
 rw[ON X] at m3;have e0:uw .u64 (uw .u64 (R1*4294967296)+v%4294967296)=uw .u64 (R1*4294967296+v%4294967296):=Nat.mod_add_mod _ _ _;rw[e0,al,uE (by omega) (by omega)]
 have e3:R1*4294967296+v%4294967296-(R1*4294967296+v%4294967296)/X*X=(R1*4294967296+v%4294967296)%X:=by omega
 rw[e3,hss];obtain⟨Q0,hQ0⟩:∃Q,(R1*4294967296+v%4294967296)/X=Q:=⟨_,rfl⟩;obtain⟨R0,hR0⟩:∃R,(R1*4294967296+v%4294967296)%X=R:=⟨_,rfl⟩;clear e3;rw[hQ0] at q1 m3 ⊢;rw[hR0] at m3 m4 ⊢;rw[p8 (a:=Q1*4294967296) (by omega),p8 (by omega)]
 clear hQ1 hR1 hQ0 hR0 e1 e0 hss X1 X2 hX q1 q0 m2 hu h1 h2 h3 hz;have fin:u*18446744073709551616+v=R0+(Q1*4294967296+Q0)*X:=by
  have h0:Q1*X*4294967296+R1*4294967296=(u*4294967296+v/4294967296)*4294967296:=by rw[<-m1,Po]
  rw[Po,Nat.mul_right_comm Q1];have h4:=P8 v 4294967296;generalize v/4294967296=d1 at h0 h4;generalize v%4294967296=d0 at m3 h4;generalize Q1*X=A at h0 ⊢;generalize Q0*X=B at m3 ⊢;exact HO (Nj u) h4 h0 m3
 rw[fin,Nat.add_mul_div_right _ _ (show 0<X by omega),Nat.add_mul_mod_self_right,PU m4,O4 m4,Pr]
def GD{q:RR Nat}{i e d:Nat}:(List.replicate i 0++e::q).set i d=List.replicate i 0++d::q:=by
 rw[List.set_append_right _ _ (by simp)]
 simp
def Fl(i:Nat)(q:RR Nat):List.replicate (i+1) 0++q=List.replicate i 0++0::q:=by
 rw[List.replicate_succ',List.append_assoc]; rfl
def Gp{n:Nat}{l:RR Nat}{d:Nat}(hl:Wd l)(hd:d<18446744073709551616)(h0:d≠0)(hb:l.length<1000000)(hn:l.length<n)(hn4:4<n) :
  ∃q t m,xB n l [d]=some (q,m)/\Wd q/\vl q=vl l/d/\q.length=l.length/\Lg ((vl l%d:Nat):Int) t m/\t=false:=by
 have hL:∀i q r m,i+q.length=l.length->i<m->Wd q->r<d->vl l=vl (l.take i)+wp i*(d*vl q+r) ->
   ∃q' r',cy (oV n l [d]) m (List.replicate i 0++q,r,(i:Int)-1)=some (q',r')/\Wd q'/\q'.length=l.length/\r'<d/\vl l=d*vl q'+r':=by
  intro i
  induction i with
  | zero =>
   intro q r m hi hm hq hr hv;obtain⟨m,rfl⟩:∃m',m=m'+1:=⟨m-1,by omega⟩
   refine⟨q,r,bX ?_,hq,by omega,hr,?_⟩
   unfold oV
   dsimp only
   rw[aQ (by decide)]; rfl
   rw[hv]; simp[vl,wp]
  | succ i ih =>
   intro q r m hi hm hq hr hv;obtain⟨m,rfl⟩:∃m',m=m'+1:=⟨m-1,by omega⟩
   have hi':i<l.length:=by omega
   obtain⟨x,e2⟩:∃x,l[i]? = some x:=⟨l[i],by simp⟩
   have hx:=hl.at e2;have e0:((i+1:Nat):Int)-1=((i:Nat):Int):=by omega
   have ht:vl (l.take (i+1))=vl (l.take i)+wp i*x:=by
    rw[List.take_add_one,e2,Option.toList_some,qG,PV,Ps (P3 hi')]
   have e3:(List.replicate (i+1) 0++q)[i]? = some 0:=by rw[Pj (by simp),PW]; simp
   have hqd:(r*18446744073709551616+x)/d<18446744073709551616:=by
    rw[Pt (by omega),ON _ d]
    have:(r+1)*18446744073709551616<=d*18446744073709551616:=Ph _ hr;omega
   have st:oV n l [d] (List.replicate (i+1) 0++q,r,((i:Nat):Int))=some (.inl (List.replicate i 0++(r*18446744073709551616+x)/d::q,(r*18446744073709551616+x)%d,(i:Int)-1)):=by
    unfold oV
    dsimp only
    rw[RJ,aB hi',aY,OC,e2,al]
    rw[show bY 0 [d].length=true from rfl,aY,show([d]:RR Nat)[QV]? = some d from rfl,al,H5 hn4 hr hx hd,al]
    dsimp only
    rw[OC,aB hi',aY,e3,al,Fl,GD,aH (by omega) (by omega)]
   rw[e0,ca st];refine ih _ _ m (by rw[Pg]; omega) (by omega) (fun e he=>?_) (Pw _ (by omega)) ?_
   rcases Pb.1 he with rfl|h
   exact hqd
   exact hq e h
   have h1:=P8 (r*18446744073709551616+x) d;rw[hv,ht,ja,eR];generalize(r*18446744073709551616+x)%d=R at h1 ⊢;generalize(r*18446744073709551616+x)/d=Q at h1 ⊢;have h2:wp i*(d*Q+R)=wp i*(r*18446744073709551616+x):=by rw[h1]
   rw[ON r] at h2;simp only[PO,OP (wp i) 18446744073709551616,OP d 18446744073709551616,OO] at h2 ⊢;omega
 obtain⟨q,r,q1,q2,q3,q4,q5⟩:=hL l.length [] 0 n (by simp) hn Wd.nil (by omega) (by rw[List.take_length,iu]; simp)
 rw[P2] at q1;obtain⟨t,m,m1,m2⟩:=fR (n:=n) false (Wd.one (show r<18446744073709551616 by omega)) (by simp) (by simp; omega)
 have hr:vl [r]=r:=by simp[vl]
 rw[hr] at m2;have dq:vl q=vl l/d:=by
  rw[q5,Nat.mul_add_div (by omega),PU q4]; rfl
 have dr:r=vl l%d:=by
  rw[q5,Nat.mul_add_mod,O4 q4]
 refine⟨q,t,m,?_,q2,dq,q3,by rw[<-dr]; exact m2,?_⟩
 unfold xB;rw[eE (by omega),OC,pE (by omega),aY,aZ (show(([d]:RR Nat).length:Int)=1 from rfl),aH (by omega) (by omega),q1,al]
 dsimp only
 rw[m1]; rfl
 have:=m2.FV;rw[this];simp[tp]
def MO(m:Nat):Hv (m+20) 0=some (false,[]):=by rfl
def MP(m:Nat):Hv (m+20) 1=some (false,[1]):=by rfl
def GO{n:Nat}(h:20<=n):Hv n 0=some (false,[]):=by obtain⟨m,rfl⟩:∃m,n=m+20:=⟨n-20,by omega⟩; exact MO m
def oc{n:Nat}(h:20<=n):Hv n 1=some (false,[1]):=by obtain⟨m,rfl⟩:∃m,n=m+20:=⟨n-20,by omega⟩; exact MP m
def qL:Lg 1 false [1]:=Lg.small (by decide) (by decide) false
def ul(v:Nat):RR Nat:=if v=0 then[] else[v]
def Kk{v:Nat}(h:v≠0):ul v=[v]:=OJ h
def J7{v:Nat}(h:v<18446744073709551616):Lg (v:Int) false (ul v):=by
 by_cases h0:v=0
 subst h0; exact Lg.zero
 rw[Kk h0]; exact Lg.small h0 h false
def m2(a b:Nat):Nat:=if b=0 then(if a=0 then 0 else 1) else 2
def Lv{r c x:Nat}(hc:c<2 ^ r):c |||(x*2 ^ r)=c+x*2 ^ r:=by
 rw[Nat.or_comm,ON,<-Nat.two_pow_add_eq_or_of_lt hc,Nat.add_comm]
def ra(k:Nat):Int.tdiv (k:Int) 64=((k/64:Nat):Int):=by
 rw[Int.tdiv_eq_ediv_of_nonneg (PF _)]; omega
def xN(k:Nat):Int.tmod (k:Int) 64=((k%64:Nat):Int):=by
 rw[Int.tmod_eq_emod_of_nonneg (PF _)]; omega
def yQ{a:Nat}(h:a<18446744073709551616):uw .u64 a=a:=O4 h
def C1{x r:Nat}(hr:r<64)(hx:x<18446744073709551616) :
  ∃y,uw .u64 (eY .u64 x r)=y*2 ^ r/\y*2 ^ r<18446744073709551616/\y*2 ^ r+18446744073709551616*(x/2 ^ (64-r))=x*2 ^ r/\x/2 ^ (64-r)<2 ^ r/\y*2 ^ r+2 ^ r<=18446744073709551616:=by
 have hp:2 ^ (64-r)*2 ^ r=18446744073709551616:=by rw[<-Qe,Nat.sub_add_cancel (by omega)]
 have h2:0<2 ^ r:=Nat.pow_pos (by decide)
 have h3:0<2 ^ (64-r):=Nat.pow_pos (by decide)
 have hm:=P8 x (2 ^ (64-r));have hml:=Pw x h3;have hs:x*2 ^ r=(x%2 ^ (64-r))*2 ^ r+18446744073709551616*(x/2 ^ (64-r)):=by
  rw[<-hp,OO,ON (2 ^ r),<-OO,<-Po,Nat.add_comm,hm]
 have hlt:(x%2 ^ (64-r))*2 ^ r+2 ^ r<=18446744073709551616:=by
  rw[<-hp];have:=Ph (2 ^ r) (show x%2 ^ (64-r)+1<=2 ^ (64-r) by omega)
  rw[Po,Nat.one_mul] at this;exact this
 have hlt':(x%2 ^ (64-r))*2 ^ r<18446744073709551616:=by omega
 refine⟨x%2 ^ (64-r),?_,hlt',hs.symm,?_,hlt⟩
 have hb:min r (IntKind.bits .u64)=r:=Ps (by show r<=64; omega)
 unfold eY;rw[hb]
 show(x*2 ^ r)%18446744073709551616%18446744073709551616=_
 rw[Nat.mod_mod,hs,Nat.add_mul_mod_self_left,O4 hlt']
 rw[Pt h3,ON,hp]; exact hx
def Gv(P:RR Nat)(c w:Nat)(z:RR Nat){i:Nat}(hi:i=P.length):(P++c::z).set i w=P++w::z:=by
 subst hi;rw[List.set_append_right _ _ (OF _),Qa]; rfl
def AK(P:RR Nat)(c:Nat)(z:RR Nat){i:Nat}(hi:i=P.length):(P++c::z)[i]? = some c:=by
 subst hi;rw[O2 (OF _),Qa]; rfl
def Ho{n k:Nat}{l:RR Nat}(hl:Wd l)(hb:l.length<1000000)(hk:k<64000000)(hn:l.length+k+4<n) :
  ∃t m,GN n l (k:Int)=some m/\Lg ((vl l*2 ^ k:Nat):Int) t m:=by
 have hr:k%64<64:=Pw _ (by decide)
 have hq:k/64<1000000:=by omega
 generalize hqd:k/64=q at hq;generalize hrd:k%64=r at hr;have hkv:2 ^ k=wp q*2 ^ r:=by
  have:k=64*q+r:=by omega
  rw[this,Qe,Nat.pow_mul]; rfl
 have hL:∀j i m P c,i+j=l.length->j<m->P.length=q+i->Wd P->c<2 ^ r->vl P+wp (q+i)*c+wp (q+i)*(2 ^ r*vl (l.drop i))=2 ^ k*vl l ->
   ∃out,cy (oF n l (k:Int)) m (P++c::List.replicate j 0,l.length+q+1,(i:Int))=some (out,l.length+q+1)/\Wd out/\vl out=2 ^ k*vl l/\out.length=l.length+q+1:=by
  intro j
  induction j with
  | zero =>
   intro i m P c hi hm hP hw hc hv;obtain⟨m,rfl⟩:∃m',m=m'+1:=⟨m-1,by omega⟩
   have hr2:2 ^ r<=2 ^ 64:=O8 (by decide) (by omega)
   refine⟨P++[c],bX ?_,hw.app (Wd.one (by omega)),?_,by simp; omega⟩
   unfold oF
   dsimp only
   rw[RK]; rfl
   rw[kZ,hP,<-hv,Qx (by omega)]
   simp[vl]
  | succ j ih =>
   intro i m P c hi hm hP hw hc hv;obtain⟨m,rfl⟩:∃m',m=m'+1:=⟨m-1,by omega⟩
   have hi':i<l.length:=by omega
   obtain⟨x,e2⟩:∃x,l[i]? = some x:=⟨l[i],by simp⟩
   have hx:=hl.at e2;obtain⟨y,y1,y2,y3,y4,y5⟩:=C1 hr hx;have hr2:2 ^ r<=2 ^ 63:=O8 (by decide) (by omega)
   have hw2:uw .u64 (uw .u64 c ||| uw .u64 (eY .u64 x r))=c+y*2 ^ r:=by
    rw[y1,yQ (show c<18446744073709551616 by omega),Lv hc,yQ (by omega)]
   have hcd:wp (q+(i+1))=18446744073709551616*wp (q+i):=ja (q+i);have hval:vl (P++[c+y*2 ^ r])+wp (q+(i+1))*(x/2 ^ (64-r))+wp (q+(i+1))*(2 ^ r*vl (l.drop (i+1)))=2 ^ k*vl l:=by
    rw[<-hv,kH e2,kZ,hP,hcd,eR,iu,Nat.mul_zero,Py];have e1:2 ^ r*(x+18446744073709551616*vl (l.drop (i+1)))=y*2 ^ r+18446744073709551616*(x/2 ^ (64-r))+18446744073709551616*(2 ^ r*vl (l.drop (i+1))):=by
     rw[PO,ON (2 ^ r) x,<-y3,OP]
    rw[e1];generalize x/2 ^ (64-r)=d;generalize 2 ^ r*vl (l.drop (i+1))=V;generalize y*2 ^ r=Y;simp only[PO,OO,OP (wp (q+i)) 18446744073709551616];omega
   have st:oF n l (k:Int) (P++c::List.replicate (j+1) 0,l.length+q+1,(i:Int))=some (.inl ((P++[c+y*2 ^ r])++x/2 ^ (64-r)::List.replicate j 0,l.length+q+1,((i+1:Nat):Int))):=by
    unfold oF
    dsimp only
    rw[RJ,aB hi',aY,OC,e2,al,ra,xN,hqd,hrd,aH (x:=((q:Nat):Int)) (by omega) (by omega),aH (x:=(i:Int)+(q:Int)) (by omega) (by omega)]
    rw[show(i:Int)+(q:Int)=((q+i:Nat):Int) by omega,aB (by omega),aY,OC,AK P c _ hP.symm,al,eE (PF _),OC,hw2,al,aY]
    rw[Gv P c _ _ hP.symm,aH (x:=64-(r:Int)) (by omega) (by omega)]
    by_cases h0:0<r
    rw[RJ,RL,al,eE (by omega),aB (by omega),aY,OC]
    rw[PT,show P++(c+y*2 ^ r)::0::List.replicate j 0=(P++[c+y*2 ^ r])++0::List.replicate j 0 by simp]
    rw[AK (P++[c+y*2 ^ r]) 0 _ (by simp; omega),al,Gv (P++[c+y*2 ^ r]) 0 _ _ (by simp; omega),al,RL]
    have hsh:dF .u64 x (64-(r:Int)).toNat=x/2 ^ (64-r):=by
     unfold dF;rw[show(64-(r:Int)).toNat=64-r by omega]
     show x/2 ^ min (64-r) 64=_
     rw[Ps (show 64-r<=64 by omega)]
    rw[hsh]
    have hr0:r=0:=by omega
    subst hr0;rw[RK,al,RL,PT]
    have:x/2 ^ (64-0)=0:=PU hx;rw[this];simp
   rw[ca st];refine ih (i+1) m _ _ (by omega) (by omega) (by simp; omega) (hw.app (Wd.one (by omega))) y4 hval
 obtain⟨out,o1,o2,o3,o4⟩:=hL l.length 0 n (List.replicate q 0) 0 (by omega) (by omega) (by simp) (Wd.zeros q) (Nat.pow_pos (by decide)) (by
  rw[jE,List.drop_zero,hkv,Nat.mul_zero,Pr,Py,OO])
 obtain⟨t,m,m1,m2⟩:=fR (n:=n) false o2 (by omega) (by omega)
 refine⟨t,m,?_,?_⟩
 unfold GN;rw[ra,hqd,aH (x:=((q:Nat):Int)) (by omega) (by omega),aH (x:=(l.length:Int)+(q:Int)) (by omega) (by omega),al]
 rw[show(l.length:Int)+(q:Int)=((l.length+q:Nat):Int) by omega,RL,eE (PF _),OC,pE (by omega),aY]
 rw[show List.replicate (l.length+q+1) 0=List.replicate q 0++0::List.replicate l.length 0 by
  rw[show l.length+q+1=q+(l.length+1) by omega,<-List.replicate_append_replicate,PT]]
 rw[show(0:Int)=((0:Nat):Int) from rfl,o1,al]
 dsimp only
 rw[m1]; rfl
 have:tp false (vl out)=((vl l*2 ^ k:Nat):Int):=by
  unfold tp;rw[o3,ON]; rfl
 rw[<-this]; exact m2
def Mn(d:Nat):d<2 ^ bl d:=by
 unfold bl
 split
 rename_i h; subst h; decide
 rename_i h; exact(Nat.log2_lt h).1 (PD _)
def LW{d:Nat}(h:d≠0):2 ^ (bl d-1)<=d:=by
 unfold bl;rw[OJ h]; exact Nat.log2_self_le h
def K0{d:Nat}(h:d≠0):0<bl d:=by
 unfold bl;rw[OJ h]; exact Nat.succ_pos _
def Bo{n:Nat}{l:RR Nat}(hl:Wd l)(ll:∀d,l.getLast? = some d->d≠0)(hb:l.length<1000000) :
  ∃k:Nat,C9 n l=some (k:Int)/\k<=64*l.length/\vl l<2 ^ k/\(l≠[]->0<k/\2 ^ (k-1)<=vl l):=by
 by_cases h:l=[]
 subst h;exact⟨0,rfl,OF _,Nat.one_pos,fun h=>O6 rfl h⟩
 obtain⟨a,d,rfl⟩:∃a d,l=a++[d]:=⟨l.dropLast,l.getLast h,(List.dropLast_concat_getLast h).symm⟩;have hd0:=ll d (by simp)
 have hd:=hl d (by simp)
 have hla:(a++[d]).length=a.length+1:=by simp
 have hb1:2 ^ (bl d-1)<=d:=LW hd0;have hb2:d<2 ^ bl d:=Mn d;have hb3:bl d<=64:=GC (s:=64) hd;have hb0:0<bl d:=K0 hd0;have hwp:wp a.length=2 ^ (64*a.length):=by unfold wp; rw[Nat.pow_mul]
 refine⟨64*a.length+bl d,?_,by rw[hla]; omega,?_,fun _=>⟨by omega,?_⟩⟩
 unfold C9 Ag;rw[aQ (by rw[hla]; omega),hla,aH (by omega) (by omega),show((a.length+1:Nat):Int)-1=((a.length:Nat):Int) by omega,aB (by omega),aY,OC,AK a d [] rfl,al,Bl n d hd,al,al]
 rw[aH (x:=64-((bl d:Nat):Int)) (by omega) (by omega),aH (x:=64*((a.length+1:Nat):Int)) (by omega) (by omega),aH (by omega) (by omega)]
 congr 1; omega
 have h1:=kI hl.left;rw[kZ,eR,iu,Nat.mul_zero,Py,Qe,<-hwp];have h2:=PH (wp a.length) (show d+1<=2 ^ bl d by omega)
 rw[PO,Qf] at h2;omega
 rw[kZ,eR,iu,Nat.mul_zero,Py,show 64*a.length+bl d-1=64*a.length+(bl d-1) by omega,Qe,<-hwp]
 have h2:=PH (wp a.length) hb1;omega
def Jj{l:RR Nat}(hl:Wd l){k:Nat}(hk:k/64<l.length)(hd:2 ^ (k+1)∣vl l) :
  ∃w,l[k/64]? = some w/\uw .u64 (uw .u64 w ||| uw .u64 (eY .u64 1 (k%64)))<18446744073709551616/\vl (l.set (k/64) (uw .u64 (uw .u64 w ||| uw .u64 (eY .u64 1 (k%64)))))=vl l+2 ^ k:=by
 obtain⟨w,hw⟩:∃w,l[k/64]? = some w:=⟨l[k/64],by simp⟩
 have h0:=hl.at hw;generalize hqd:k/64=q at *;have hr:k%64<64:=Pw _ (by decide)
 generalize hrd:k%64=r at *;have hkk:k=64*q+r:=by omega
 have hwp:wp q=2 ^ (64*q):=by unfold wp; rw[Nat.pow_mul]
 have hpos:0<wp q:=AS q;have hdw:2 ^ (r+1)∣w:=by
  have h1:=eO l q (P3 hk);have h2:wp q∣vl l:=Nat.dvd_trans (by rw[hwp]; exact Nat.pow_dvd_pow 2 (by omega)) hd
  have h3:vl (l.take q)=0:=by
   have h4:vl (l.take q)<wp q:=by
    have:=kI (hl.take q);rwa[PV,Ps (P3 hk)] at this
   have h5:wp q∣vl (l.take q):=by
    rw[h1] at h2;exact(Nat.dvd_add_left (Nat.dvd_mul_right _ _)).1 h2
   exact Nat.eq_zero_of_dvd_of_lt h5 h4
  rw[h3,Pr,kH hw] at h1;have h6:wp q*2 ^ (r+1)∣wp q*(w+18446744073709551616*vl (l.drop (q+1))):=by
   rw[<-h1,hwp,<-Qe,<-QB,<-hkk]; exact hd
  have h7:=Nat.dvd_of_mul_dvd_mul_left hpos h6;have h8:2 ^ (r+1)∣18446744073709551616*vl (l.drop (q+1)):=Nat.dvd_trans (by
   rw[show(18446744073709551616:Nat)=2 ^ 64 from rfl]; exact Nat.pow_dvd_pow 2 (by omega)) (Nat.dvd_mul_right _ _)
  exact(Nat.dvd_add_left h8).1 h7
 obtain⟨y,rfl⟩:=hdw;have h2r:2 ^ r<18446744073709551616:=by
  rw[show(18446744073709551616:Nat)=2 ^ 64 from rfl]; exact Nat.pow_lt_pow_right (by decide) hr
 have hsh:uw .u64 (eY .u64 1 r)=2 ^ r:=by
  unfold eY;rw[show min r (IntKind.bits .u64)=r from Ps (by show r<=64; omega),Nat.one_mul,yQ h2r,yQ h2r]
 have hlt:2 ^ r<2 ^ (r+1):=Nat.pow_lt_pow_right (by decide) (PD r)
 have hor:2 ^ (r+1)*y ||| 2 ^ r=2 ^ (r+1)*y+2 ^ r:=(Nat.two_pow_add_eq_or_of_lt hlt y).symm;have hfit:2 ^ (r+1)*y+2 ^ r<18446744073709551616:=by
  have hp:2 ^ (r+1)*2 ^ (63-r)=18446744073709551616:=by rw[<-Qe,show r+1+(63-r)=64 by omega]
  rw[<-hp] at h0;have hy:=Nat.lt_of_mul_lt_mul_left h0;have:=PH (2 ^ (r+1)) (show y+1<=2 ^ (63-r) by omega)
  rw[PO,Qf,hp] at this;omega
 refine⟨_,hw,?_,?_⟩
 rw[hsh,yQ h0,hor,yQ hfit]; exact hfit
 rw[hsh,yQ h0,hor,yQ hfit];have h:=AF (2 ^ (r+1)*y+2 ^ r) hw;rw[PO] at h;have e:wp q*2 ^ r=2 ^ k:=by rw[hwp,<-Qe,<-hkk]
 omega
def Cb{n:Nat}{z1 z2:Int}{s1 s2:Bool}{a b:RR Nat}(ha:Lg z1 s1 a)(hb:Lg z2 s2 b)(hb0:b≠[])(hla:a.length<10000)(hlb:b.length<10000)(hn:10000000<n) :
  ∃q t r,xB n a b=some (q,r)/\Wd q/\q.length=a.length/\vl q=vl a/vl b/\Lg ((vl a%vl b:Nat):Int) t r:=by
 have hbp:0<vl b:=OH (AS _) (j4 hb.last hb0)
 by_cases h1:b.length=1
 ·obtain⟨d,rfl⟩:∃d,b=[d]:=by
   match b,h1 with
   | [d],_=>exact⟨d,rfl⟩
  have hd:=hb.wd d (by simp)
  have hv:vl [d]=d:=by simp[vl]
  rw[hv] at hbp ⊢;obtain⟨q,t,m,q1,q2,q3,q4,q5,_⟩:=Gp (n:=n) ha.wd hd (by omega) (by omega) (by omega) (by omega)
  exact⟨q,t,m,q1,q2,q4,q3,q5⟩
 ·obtain⟨ka,a1,a2,a3,a4⟩:=Bo (n:=n) ha.wd ha.last (by omega)
  obtain⟨kb,b1,b2,b3,b4⟩:=Bo (n:=n) hb.wd hb.last (by omega)
  obtain⟨b5,b6⟩:=b4 hb0;have hL:∀(j m:Nat) (q r:RR Nat) (t:Bool) (z:Int),j<m->j+kb<=ka+1\/j=0->Wd q->q.length=a.length->Lg z t r->r.length<=a.length+1->vl r<vl b*2 ^ j->vl a=vl q*vl b+vl r->2 ^ j∣vl q->j<=64*a.length ->
    ∃q' r' t' z',cy (jg n b a) m (q,r,(j:Int)-1)=some (q',r')/\Wd q'/\q'.length=a.length/\Lg z' t' r'/\vl r'<vl b/\vl a=vl q'*vl b+vl r':=by
   intro j
   induction j with
   | zero =>
    intro m q r t z hm _ hq hql hr hrl hlt hv hdv _;obtain⟨m,rfl⟩:∃m',m=m'+1:=⟨m-1,by omega⟩
    refine⟨q,r,t,z,bX ?_,hq,hql,hr,by simpa using hlt,hv⟩
    unfold jg
    dsimp only
    rw[aQ (by decide)]
   | succ j ih =>
    intro m q r t z hm hj hq hql hr hrl hlt hv hdv hja;obtain⟨m,rfl⟩:∃m',m=m'+1:=⟨m-1,by omega⟩
    obtain⟨tt,tm,t1,t2⟩:=Ho (n:=n) (k:=j) hb.wd (by omega) (by omega) (by omega)
    have htv:vl tm=vl b*2 ^ j:=by rw[t2.abs,Pd]
    have htl:tm.length<=r.length\/vl r<vl tm:=by
     rcases Pk (vl r) (vl tm) with h|h
     exact .inr h
     left
     refine PG fun hc=>?_;have h5:=kI hr.wd
     by_cases htm:tm=[]
     subst htm; simp at hc
     have h6:=j4 t2.last htm;have h7:wp r.length<=wp (tm.length-1):=O8 (by decide) (by omega)
     omega
    have htlen:tm.length<1073741824:=by
     by_cases htm:tm=[]
     subst htm; simp
     have h6:=j4 t2.last htm;have h7:=kI hb.wd;refine PG fun hc=>?_;obtain⟨K,hK⟩:∃K:Nat,K=640000:=⟨_,rfl⟩;have h8:wp (b.length+K)<=wp (tm.length-1):=O8 (by decide) (by omega)
     have h9:2 ^ j<=wp K:=by
      unfold wp;rw[show(18446744073709551616:Nat)=2 ^ 64 from rfl,<-Nat.pow_mul]
      exact O8 (by decide) (by omega)
     have h10:vl b*2 ^ j<wp b.length*wp K:=OH (Nat.mul_lt_mul_of_pos_right h7 (Nat.pow_pos (by decide))) (PH _ h9)
     rw[<-Lk] at h10;omega
    obtain⟨c,c1,c2,c3⟩:=Bp (n:=n) hr.wd t2.wd hr.last t2.last (by omega) htlen (by omega)
    have hpow:vl b*2 ^ (j+1)=vl b*2 ^ j+vl b*2 ^ j:=by rw[PK]; rw[<-OO]; omega
    by_cases hc:0<=c
    have hle:vl tm<=vl r:=by
     have:=mt c2.2 (by omega)
     omega
    have hlen:tm.length<=r.length:=htl.resolve_right (by omega)
    obtain⟨u,u1,u2,u3,u4⟩:=w5 (n:=n) hr.wd t2.wd hle hlen (by omega) (by omega)
    obtain⟨s',r',f1,f2⟩:=fR (n:=n) false u2 (by omega) (by omega)
    have hr'v:vl r'=vl r-vl tm:=by
     rw[f2.abs]; unfold tp; simp only[OT,if_false,Pd]; exact u3
    have hr'l:r'.length<=a.length+1:=by
     by_cases hn':r'=[]
     subst hn'; simp
     have h6:=j4 f2.last hn';have h5:=kI hr.wd;refine PG fun hc=>?_;have h7:wp r.length<=wp (r'.length-1):=O8 (by decide) (by omega)
     omega
    have hjq:j/64<q.length:=by rw[hql]; omega
    obtain⟨w,w1,w2,w3⟩:=Jj hq (k:=j) hjq hdv;have st:jg n b a (q,r,((j+1:Nat):Int)-1)=some (.inl (q.set (j/64) (uw .u64 (uw .u64 w ||| uw .u64 (eY .u64 1 (j%64)))),r',(j:Int)-1)):=by
     unfold jg
     dsimp only
     rw[show((j+1:Nat):Int)-1=(j:Int) by omega,aZ (PF _),t1,al,c1,al,aZ hc,u1,al,f1,al]
     dsimp only
     rw[ra,xN,aH (x:=((j/64:Nat):Int)) (by omega) (by omega),OC,OC,OC,aB (by omega),aY,w1,al,eE (PF _),al,aY,al]
     dsimp only
     rw[aH (by omega) (by omega)]
    rw[ca st];have hmulr:vl b*2 ^ j=2 ^ j*vl b:=ON _ _;refine ih m _ r' s' _ (by omega) (by omega) (hq.set w2) (by rw[Qj]; exact hql) f2 hr'l (by omega) ?_ ?_ (by omega)
    rw[w3,Po,hr'v,hv,htv];omega
    rw[w3];exact Nat.dvd_add (Nat.dvd_trans (Nat.pow_dvd_pow 2 (Nat.le_succ j)) hdv) (Nat.dvd_refl _)
    have st:jg n b a (q,r,((j+1:Nat):Int)-1)=some (.inl (q,r,(j:Int)-1)):=by
     unfold jg
     dsimp only
     rw[show((j+1:Nat):Int)-1=(j:Int) by omega,aZ (PF _),t1,al,c1,al,aQ hc,al]
     dsimp only
     rw[aH (by omega) (by omega)]
    rw[ca st];have:=c2.1 (by omega)
    exact ih m q r t z (by omega) (by omega) hq hql hr hrl (by omega) hv (Nat.dvd_trans (Nat.pow_dvd_pow 2 (Nat.le_succ j)) hdv) (by omega)
  have start:∃(q' r':RR Nat) (t':Bool) (z':Int),cy (jg n b a) n (List.replicate a.length 0,a,(ka:Int)-(kb:Int))=some (q',r')/\Wd q'/\q'.length=a.length/\Lg z' t' r'/\vl r'<vl b/\vl a=vl q'*vl b+vl r':=by
   by_cases hk:kb<=ka
   have h7:vl a<vl b*2 ^ (ka-kb+1):=by
    refine OH a3 ?_;rw[show ka=(kb-1)+(ka-kb+1) by omega,Qe]
    exact Pe b6 (O8 (by decide) (by omega))
   have:=hL (ka-kb+1) n (List.replicate a.length 0) a s1 z1 (by omega) (.inl (by omega)) (Wd.zeros _) (by simp) ha (by omega) h7 (by rw[jE]; omega) (by rw[jE]; exact Nat.dvd_zero _) (by omega)
   rw[show((ka-kb+1:Nat):Int)-1=(ka:Int)-(kb:Int) by omega] at this
   exact this
   obtain⟨m,rfl⟩:∃m',n=m'+1:=⟨n-1,by omega⟩
   refine⟨List.replicate a.length 0,a,s1,z1,bX ?_,Wd.zeros _,by simp,ha,?_,by rw[jE]; omega⟩
   unfold jg
   dsimp only
   rw[RK]
   exact OH a3 (O3 (O8 (by decide) (by omega)) b6)
  obtain⟨q,r,t,z,l1,l2,l3,l4,l5,l6⟩:=start;have dr:vl r=vl a%vl b:=by rw[l6,ON,Nat.mul_add_mod,O4 l5]
  have dq:vl q=vl a/vl b:=by rw[l6,ON,Nat.mul_add_div hbp,PU l5]; rfl
  refine⟨q,false,r,?_,l2,l3,dq,⟨l4.wd,l4.last,by rw[<-dr]; rfl,fun h=>(nomatch h)⟩⟩
  unfold xB;rw[eE (by omega),OC,pE (by omega),aY,RK,a1,al,b1,al,aH (by omega) (by omega),l1,al]
def Lg.km{z:Int}{s:Bool}{l:RR Nat}(h:Lg z s l){k:Nat}(hz:z.natAbs<wp k):l.length<=k:=by
 by_cases hl:l=[]
 subst hl; simp
 have h1:=j4 h.last hl;rw[h.abs] at h1;refine PG fun hc=>?_;have h2:wp k<=wp (l.length-1):=O8 (by decide) (by omega)
 omega
def Lg.lt{z:Int}{s:Bool}{l:RR Nat}(h:Lg z s l):z.natAbs<wp l.length:=by
 rw[<-h.abs]; exact kI h.wd
def Lg.un{v:Nat}{s:Bool}{l:RR Nat}(h:Lg (v:Int) s l):s=false:=by
 rw[h.FV,Pm (by omega)]
def Lg.NM{v:Nat}{s:Bool}{l:RR Nat}(h:Lg (v:Int) s l):vl l=v:=by rw[h.abs,Pd]
def Ga{n:Nat}(hn:10000000<n):∀(b a m:Nat) (l k:RR Nat) (s t:Bool),Lg (a:Int) s l->Lg (b:Int) t k->l.length<10000->k.length<10000->b<m ->
  ∃g,cy (qM n) m (l,k)=some g/\Lg ((Nat.gcd a b:Nat):Int) false g:=by
 intro b
 induction b using Nat.strongRecOn with
 | _ b ih =>
  intro a m l k s t hl hk hll hkl hm;obtain⟨m,rfl⟩:∃m',m=m'+1:=⟨m-1,by omega⟩
  by_cases hb:b=0
  subst hb;have:=hk.NC.2 rfl;subst this;have hs:=hl.un;subst hs;refine⟨l,bX ?_,by rw[Nat.gcd_zero_right]; exact hl⟩
  unfold qM
  dsimp only
  rw[aQ (by simp)]
  have hk0:k≠[]:=fun e=>hb (by have:=hk.NC.1 e; omega)
  obtain⟨q,t',r,q1,_,_,_,q5⟩:=Cb (n:=n) hl hk hk0 hll hkl hn;rw[hl.NM,hk.NM] at q5;have hrl:r.length<10000:=Pu (q5.km (k:=k.length) (by
   rw[Pd];exact Nat.lt_trans (Pw a (OW hb)) (by have:=hk.lt; rwa[Pd] at this))) hkl
  have hlt:=Pw a (OW hb);obtain⟨g,g1,g2⟩:=ih (a%b) hlt b m k r t t' hk q5 hkl hrl (by omega)
  refine⟨g,?_,?_⟩
  rw[ca (s':=(k,r)) ?_]
  exact g1
  unfold qM
  dsimp only
  rw[aZ (by have:=List.length_pos_iff.2 hk0; omega),q1,al]
  rw[Nat.gcd_comm a b,Nat.gcd_rec b a,Nat.gcd_comm]; exact g2
def yB{n:Nat}{a b:Int}{s t:Bool}{l k:RR Nat}(ha:Lg a s l)(hb:Lg b t k)(hl:l.length<10000)(hk:k.length<10000)(hn:10000000<n)(hbn:b.natAbs<n) :
  ∃g,CV n s l t k=some (false,g)/\Lg ((Nat.gcd a.natAbs b.natAbs:Nat):Int) false g:=by
 have pos:∀{z:Int} {s:Bool} {l:RR Nat},Lg z s l->Lg ((z.natAbs:Nat):Int) false l:=fun{z s l} h=>⟨h.wd,h.last,by rw[h.abs]; rfl,fun h=>(nomatch h)⟩
 obtain⟨g,g1,g2⟩:=Ga hn b.natAbs a.natAbs n l k false false (pos ha) (pos hb) hl hk hbn;refine⟨g,?_,g2⟩;unfold CV;rw[g1,al]
def yT{n:Nat}{a b:Int}{s t:Bool}{l k:RR Nat}(h:Lg (a*b) s l)(h':Lg b t k)(h0:b≠0)(hl:l.length<10000)(hk:k.length<10000)(hn:10000000<n) :
  ∃u m v o,Dl n s l t k=some (u,m,v,o)/\Lg a u m:=by
 have hk0:k≠[]:=fun e=>h0 (h'.NC.1 e);obtain⟨q,t',m,q1,q2,q4,q3,q5⟩:=Cb (n:=n) h h' hk0 hl hk hn;obtain⟨u,m',u1,u2⟩:=fR (n:=n) (!(s==t)) q2 (by omega) (by omega)
 rw[h'.abs] at q3 q5;have hz:(vl l%b.natAbs:Nat)=0:=by rw[h.abs,Int.natAbs_mul,Nat.mul_mod_left]
 rw[hz] at q5;obtain⟨rfl,rfl⟩:=q5.inj Lg.zero;obtain⟨v,o,v1,v2⟩:=fR (n:=n) s Wd.nil (by simp) (by simp; omega)
 have v3:Lg 0 v o:=by rw[iu,yz] at v2; exact v2
 obtain⟨rfl,rfl⟩:=v3.inj Lg.zero;refine⟨u,m',false,[],?_,?_⟩
 unfold Dl;rw[q1,al]
 dsimp only
 rw[u1,al]
 dsimp only
 rw[v1,al]
 rfl
 have e1:vl q=a.natAbs:=by rw[q3,h.abs,Int.natAbs_mul,Nat.mul_div_cancel _ (by omega)]
 have hs:=h.FV;have ht:=h'.FV;have:a=tp (!(s==t)) (vl q)\/(a=0):=by
  by_cases ha:a=0
  exact .inr ha
  refine .inl ?_;rw[e1,hs,ht];unfold tp
  by_cases hb0:b<0<;>by_cases ha0:a<0
  have:¬a*b<0:=Int.not_lt.2 (Int.mul_nonneg_of_nonpos_of_nonpos (by omega) (by omega))
  simp[hb0,this]; omega
  have:a*b<0:=Int.mul_neg_of_pos_of_neg (by omega) hb0
  simp[hb0,this]; omega
  have:a*b<0:=Int.mul_neg_of_neg_of_pos ha0 (by omega)
  simp[hb0,this]; omega
  have:¬a*b<0:=Int.not_lt.2 (Int.mul_nonneg (by omega) (by omega))
  simp[hb0,this]; omega
 rcases this with e|e
 rw[e]; exact u2
 rw[e,Int.natAbs_zero] at e1;rw[e1,yz] at u2;rw[e]; exact u2
def ov{n a b:Nat}(hn:10000000<n)(hbn:b<n)(hb0:b≠0){s t:Bool}{l k:RR Nat}(h:Lg (a:Int) s l)(h':Lg (b:Int) t k)(hl:l.length<10000)(hk:k.length<10000) :
  ∃l' k',zN n s l t k=some (false,l',false,k')/\Lg ((a/Nat.gcd a b:Nat):Int) false l'/\Lg ((b/Nat.gcd a b:Nat):Int) false k':=by
 have hg0:Nat.gcd a b≠0:=fun e=>hb0 (Nat.eq_zero_of_gcd_eq_zero_right e);have hgb:Nat.gcd a b<=b:=Nat.le_of_dvd (by omega) (Nat.gcd_dvd_right a b)
 have ea:((a/Nat.gcd a b:Nat):Int)*((Nat.gcd a b:Nat):Int)=(a:Int):=by rw[<-Qk,PY (Nat.gcd_dvd_left a b)]
 have eb:((b/Nat.gcd a b:Nat):Int)*((Nat.gcd a b:Nat):Int)=(b:Int):=by rw[<-Qk,PY (Nat.gcd_dvd_right a b)]
 obtain⟨g,g1,g2⟩:=yB (n:=n) h h' hl hk hn (by rw[Pd]; exact hbn)
 rw[Pd,Pd] at g2;have hgl:g.length<10000:=Pu (g2.km (k:=k.length) (by
  rw[Pd];exact Pu hgb (by have:=h'.lt; rwa[Pd] at this))) hk
 rw[<-ea] at h;rw[<-eb] at h';obtain⟨u1,m1,v1,o1,f1,f2⟩:=yT (n:=n) h g2 (by omega) hl hgl hn
 obtain⟨u2,m2,v2,o2,f3,f4⟩:=yT (n:=n) h' g2 (by omega) hk hgl hn
 have hu1:=f2.un;have hu2:=f4.un;subst hu1 hu2;refine⟨m1,m2,?_,f2,f4⟩;unfold zN;rw[g1,al]
 dsimp only
 rw[f1,al]
 dsimp only
 rw[f3,al]
 rfl
def bU(T h:Nat):Nat×Nat:=(h/Nat.gcd h T,T/Nat.gcd h T)
def A5{a b c d:Nat}(hb:b≠0)(hd:d≠0)(h:a*d=c*b):a/Nat.gcd a b=c/Nat.gcd c d/\b/Nat.gcd a b=d/Nat.gcd c d:=by
 have g0:0<Nat.gcd a b:=Nat.gcd_pos_of_pos_right a (OW hb);have k0:0<Nat.gcd c d:=Nat.gcd_pos_of_pos_right c (OW hd);have c1:=Nat.coprime_div_gcd_div_gcd g0;have c2:=Nat.coprime_div_gcd_div_gcd k0;have ea:=PY (Nat.gcd_dvd_left a b);have eb:=PY (Nat.gcd_dvd_right a b);have ec:=PY (Nat.gcd_dvd_left c d);have ed:=PY (Nat.gcd_dvd_right c d);generalize Nat.gcd a b=g at *;generalize Nat.gcd c d=k at *;generalize a/g=a' at *;generalize b/g=b' at *;generalize c/k=c' at *;generalize d/k=d' at *;subst ea eb ec ed;have e:a'*d'=c'*b':=by
  have h2:(g*k)*(a'*d')=(g*k)*(c'*b'):=by
   have e1:(g*k)*(a'*d')=a'*g*(d'*k):=by simp only[OO,ON,OP]
   have e2:(g*k)*(c'*b')=c'*k*(b'*g):=by simp only[OO,ON,OP]
   rw[e1,e2,h]
  exact Nat.eq_of_mul_eq_mul_left (Nat.mul_pos g0 k0) h2
 have hb':0<b':=OW fun e=>hb (by rw[e,Qi])
 have d1:b'∣d':=c1.symm.dvd_of_dvd_mul_left (by rw[e]; exact Nat.dvd_mul_left _ _)
 have d2:d'∣b':=c2.symm.dvd_of_dvd_mul_left (by rw[<-e]; exact Nat.dvd_mul_left _ _)
 have e3:b'=d':=Nat.dvd_antisymm d1 d2;subst e3;exact⟨Nat.eq_of_mul_eq_mul_right hb' e,rfl⟩
section
variable{n:Nat}
def fW{T h:Nat}(hT:T≠0):(bU T h).1<=h/\(bU T h).2<=T/\(bU T h).2≠0/\Nat.gcd (bU T h).1 (bU T h).2=1/\(bU T h).1*T=h*(bU T h).2:=by
 have g0:0<Nat.gcd h T:=Nat.gcd_pos_of_pos_right h (OW hT);have e1:=PY (Nat.gcd_dvd_left h T);have e2:=PY (Nat.gcd_dvd_right h T);refine⟨Nat.div_le_self _ _,Nat.div_le_self _ _,fun e=>?_,Nat.coprime_div_gcd_div_gcd g0,?_⟩
 have e':T/Nat.gcd h T=0:=e;rw[e',Qi] at e2;exact hT e2.symm
 show h/Nat.gcd h T*T=h*(T/Nat.gcd h T)
 generalize Nat.gcd h T=g at *;generalize h/g=a at *;generalize T/g=b at *;subst e1 e2;simp only[OO,ON,OP]
def AY(hn:40<n):qd n 0=some (false,[],false,[1]):=by
 unfold qd;rw[GO (by omega),al]
 dsimp only
 unfold AJ;rw[oc (by omega),al]
 rfl
end
end
end Go.Proofs.YtpkadoocdgdcfaaGreatDoor
end
section
namespace Go.Proofs.YtpkadoocdgdcfaaGreatDoor
open Go Go.Ab Go.Ab.W
abbrev Sh:=R7
def sh(p:Nat×Nat):Sh:=(p.1,0,0,0,0,0,0,0,p.2,0,0,0,0,0,0,0)
def wx(T:Nat)(l:RR Nat):RR Sh:=l.map fun h=>sh (bU T h)
abbrev NG:=Nat×Nat×Nat×Nat×Nat×Nat×Nat×Nat×Nat×Nat×Nat×Nat×Nat×Nat×Nat×Nat×Int
abbrev Nx(p:Nat×Nat):NG:=(p.1,0,0,0,0,0,0,0,p.2,0,0,0,0,0,0,0,0)
def Ll(t:RI NG)(p:Nat×Nat):Bool :=
 match t with
 | some (a,a1,a2,a3,a4,a5,a6,a7,b,b1,b2,b3,b4,b5,b6,b7,e)=>Nat.beq a p.1 &&(Nat.beq b p.2 &&([a1,a2,a3,a4,a5,a6,a7,b1,b2,b3,b4,b5,b6,b7].all (Nat.beq 0)&&decide (e=0)))
 | none=>false
def HR{t:RI NG}{p:Nat×Nat}(h:Ll t p=true):t=some (Nx p):=by
 unfold Ll at h
 split at h
 simp only[PI,List.all_nil,OD,O5,and_true] at h;obtain⟨h1,h2,⟨h3,h4,h5,h6,h7,h8,h9,h10,h11,h12,h13,h14,h15,h16⟩,rfl⟩:=h;rw[OE h1,OE h2,<-OE h3,<-OE h4,<-OE h5,<-OE h6,<-OE h7,<-OE h8,<-OE h9,<-OE h10,<-OE h11,<-OE h12,<-OE h13,<-OE h14,<-OE h15,<-OE h16]
 cases h
set_option maxRecDepth 100000 in
def K8(m:Nat):(List.range 6).all (fun a=>(List.range 21).all fun S=>Nat.beq S 0||Ll (L9 (m+300) (a:Int) (S:Int)) (bU S a))=true:=by kernel_rfl
def Lc{n a S:Nat}(hn:300<=n)(ha:a<6)(hS:S<21)(h0:S≠0):L9 n (a:Int) (S:Int)=some (Nx (bU S a)):=by
 obtain⟨m,rfl⟩:∃m,n=m+300:=⟨n-300,by omega⟩
 have h:=OV.1 (OV.1 (K8 m) a (P7.2 ha)) S (P7.2 hS);rw[PN] at h;rcases h with h|h
 exact O6 (OE h) h0
 exact HR h
def JO(l:RR Nat)(k:Nat):Nat:=l.getD k 0%6
def raw(l:RR Nat)(N i k:Nat):RR Nat:=(List.range k).map fun j=>JO l (N*i+j)
def sr(l:RR Nat)(N i k:Nat):raw l N i (k+1)=raw l N i k++[JO l (N*i+k)]:=by unfold raw; rw[List.range_succ,List.map_append]; rfl
def zZ(l:RR Nat)(k:Nat):JO l k<6:=Pw _ (by decide)
def wH(l:RR Nat)(N i k:Nat):(raw l N i k).length=k:=by unfold raw; simp
def vI(l:RR Nat)(N i:Nat):∀k,(raw l N i k).sum<=5*k
 | 0=>by simp[raw]
 | k+1=>by
  have:=vI l N i k;have:=zZ l (N*i+k);rw[sr,List.sum_append,List.sum_singleton]; omega
def FF{l:RR Nat}{N i k x:Nat}(h:x∈raw l N i k):x<6:=by
 obtain⟨j,_,rfl⟩:=Qw.1 h;exact zZ _ _
def ints(l:RR Nat):RR Int:=l.map fun x:Nat=>(x:Int)
def EU(n:Nat)(l2:RR Nat){N i:Nat}(hN:N<=4)(hi:i<N)(hn:300<=n):cy (uP n (N:Int) (i:Int) l2) n (([]:RR Int),0,0)=some (ints (raw l2 N i N),((raw l2 N i N).sum:Int)):=by
 have h:=bI (body:=uP n (N:Int) (i:Int) l2) N (fun(s:Nat) (v:Int)=>(ints (raw l2 N i s),((raw l2 N i s).sum:Int),v)) (fun s=>(ints (raw l2 N i s),((raw l2 N i s).sum:Int))) (fun k s=>s=k) (fun s k hk hs=>?_) (fun s hs=>?_) (n:=n) (s:=0) rfl (by omega)
 obtain⟨s,h1,rfl⟩:=h;exact h1
 subst hs;have hb:N*i<=12:=O3 (Pe hN (show i<=3 by omega)) (by omega)
 have hsum:=vI l2 N i s;have hd:=zZ l2 (N*i+s);refine⟨s+1,?_,rfl⟩;have e0:QU ((QU ((N:Int)*(i:Int)))+(s:Int))=((N*i+s:Nat):Int):=by
  rw[<-Qk,aH (x:=((N*i:Nat):Int)) (by omega) (by omega),aH (by omega) (by omega)]; rfl
 have e1:(br (decide (((N*i+s:Nat):Int)<(l2.length:Int))) (gd (bY ((N*i+s:Nat):Int) l2.length) (ob (l2[(((N*i+s:Nat):Int)).toNat]?) fun x=>some (QU ((x%6:Nat):Int)))) (some 0))=some ((JO l2 (N*i+s):Nat):Int):=by
  by_cases c:N*i+s<l2.length
  rw[RJ,aB c,aY,OC,OG c,al,aH (by omega) (by have:=Pw l2[N*i+s] (show 0<6 by decide); omega)]
  unfold JO;rw[PB,OG c]; rfl
  rw[RK]
  unfold JO;rw[PB,Pp (by omega)]; rfl
 have e2:ints (raw l2 N i s)++[((JO l2 (N*i+s):Nat):Int)]=ints (raw l2 N i (s+1)):=by rw[sr]; unfold ints; rw[List.map_append]; rfl
 have e3:QU (((raw l2 N i s).sum:Int)+((JO l2 (N*i+s):Nat):Int))=((raw l2 N i (s+1)).sum:Int):=by
  rw[aH (by omega) (by omega),sr,List.sum_append,List.sum_singleton]; omega
 unfold uP
 dsimp only
 rw[RJ,e0,e1,al,e2,e3,RL]
 have hlim:lim (ints (raw l2 N i (s+1))).length=true:=by
  unfold ints lim; rw[O7,wH]; exact O9 (by omega)
 rw[hlim,aY]
 subst hs;unfold uP
 dsimp only
 rw[RK]
def jh(l:RR Nat)(N i:Nat):RR Nat:=if(raw l N i N).sum=0 then(raw l N i N).set i 1 else raw l N i N
def nK:∀{l:RR Nat} {i:Nat},i<l.length->l.sum=0->(l.set i 1).sum=1
 | a::l,0,_,hs=>by rw[List.sum_cons] at hs; rw[List.set_cons_zero,List.sum_cons]; omega
 | a::l,i+1,h,hs=>by
  rw[List.sum_cons] at hs;rw[List.set_cons_succ,List.sum_cons,nK (by simpa using h) (by omega)]; omega
def uS(l:RR Nat){N i:Nat}(hN:N<=4)(hi:i<N):(jh l N i).length=N/\(∀x∈jh l N i,x<6)/\(jh l N i).sum≠0/\(jh l N i).sum<21:=by
 have h1:=vI l N i N;have h2:=wH l N i N;unfold jh
 split
 rename_i h0;refine⟨by simp[h2],fun x hx=>?_,by rw[nK (by omega) h0]; decide,by rw[nK (by omega) h0]; decide⟩
 rcases List.mem_or_eq_of_mem_set hx with h|h
 exact FF h
 omega
 exact⟨h2,fun x hx=>FF hx,by assumption,by omega⟩
def Gx(n:Nat){N S:Nat}{l l':RR Nat}(hN:N<=4)(hl:l.length=N)(hl':l'.length=N)(h6:∀x∈l,x<6)(h0:S≠0)(hS:S<21)(hn:300<=n):cy (tG n (N:Int) (ints l') (ints l) (S:Int)) n (([]:RR Sh),0)=some (wx S l):=by
 have h:=bI (body:=tG n (N:Int) (ints l') (ints l) (S:Int)) N (fun(s:RR Sh) (v:Int)=>(s,v)) id (fun k s=>s=(wx S l).take k) (fun s k hk hs=>?_) (fun s hs=>?_) (n:=n) (s:=[]) (by simp) (by omega)
 obtain⟨s,h1,rfl⟩:=h;rw[h1,id,List.take_of_length_le (by unfold wx; rw[O7]; omega)]
 subst hs;have e1:(ints l)[k]? = some ((l[k]'(by omega):Nat):Int):=by unfold ints; rw[O1,OG (by omega)]; rfl
 have hx:=h6 (l[k]'(by omega)) (Ql _)
 have e2:(wx S l).take k++[sh (bU S (l[k]'(by omega)))]=(wx S l).take (k+1):=by
  unfold wx;rw[List.take_succ_eq_append_getElem (by rw[O7]; omega),List.getElem_map]
 refine⟨_,?_,rfl⟩;unfold tG
 dsimp only
 rw[RJ,aB (by unfold ints; rw[O7]; omega),aY,OC,e1,al,Lc hn hx hS h0,al]
 show gd (lim ((wx S l).take k++[sh (bU S (l[k]'(by omega)))]).length) (some (.inl ((wx S l).take k++[sh (bU S (l[k]'(by omega)))],QU ((k:Int)+1))):RI ((RR Sh×Int)⊕RR Sh))=_
 rw[e2,RL]
 have hlim:lim ((wx S l).take (k+1)).length=true:=by
  unfold lim; exact O9 (by rw[PV]; omega)
 rw[hlim,aY]
 subst hs;unfold tG
 dsimp only
 rw[RK]; rfl
def dM(l:RR Nat)(N:Nat):RR (RR Sh):=(List.range N).map fun i=>wx (jh l N i).sum (jh l N i)
def LF(n x:Nat)(l:RR Nat)(hn:300<=n):MD n x l=some (dM l (1+x%4)):=by
 have hx:x%4<4:=Pw _ (by decide)
 have eN:QU (1+(QU ((x%4:Nat):Int)))=((1+x%4:Nat):Int):=by
  rw[aH (x:=((x%4:Nat):Int)) (by omega) (by omega),aH (by omega) (by omega)]; omega
 generalize hNN:1+x%4=N at eN ⊢;have h:=bI (body:=uf n l) N (fun(s:RR (RR Sh)) (v:Int)=>((N:Int),s,v)) id (fun k s=>s=(List.range k).map fun i=>wx (jh l N i).sum (jh l N i)) (fun s k hk hs=>?_) (fun s hs=>?_) (n:=n) (s:=[]) (by simp) (by omega)
 obtain⟨s,h1,h2⟩:=h;unfold MD;rw[eN]
 show ob (cy (uf n l) n ((N:Int),([]:RR (RR Sh)),0)) _=_
 rw[h1,al,id,h2]; rfl
 subst hs;refine⟨_,?_,rfl⟩;obtain⟨d1,d2,d3,d4⟩:=uS l (show N<=4 by omega) hk
 have hr:=wH l N k N;unfold uf
 dsimp only
 rw[RJ,EU n l (by omega) hk hn,al]
 dsimp only
 have e1:(br (decide (((raw l N k N).sum:Int)=0)) (gd (bY (k:Int) (ints (raw l N k N)).length) (ob ((ints (raw l N k N))[((k:Int)).toNat]?) fun _=>some ((ints (raw l N k N)).set ((k:Int)).toNat 1,(1:Int)))) (some (ints (raw l N k N),((raw l N k N).sum:Int))))=some (ints (jh l N k),((jh l N k).sum:Int)):=by
  unfold jh
  by_cases c:(raw l N k N).sum=0
  rw[RJ,aB (by unfold ints; rw[O7]; omega),aY,OC,OM c,nK (by omega) c]
  have:(ints (raw l N k N))[k]? = some (((raw l N k N)[k]'(by omega):Nat):Int):=by unfold ints; rw[O1,OG (by omega)]; rfl
  rw[this,al];unfold ints;rw[List.map_set]; rfl
  rw[RK,OJ c]
 rw[e1,al]
 dsimp only
 rw[Gx n (show N<=4 by omega) d1 hr d2 d3 d4 hn,al,RL]
 have e2:((List.range k).map fun i=>wx (jh l N i).sum (jh l N i))++[wx (jh l N k).sum (jh l N k)]=(List.range (k+1)).map fun i=>wx (jh l N i).sum (jh l N i):=by rw[List.range_succ,List.map_append]; rfl
 rw[e2];have hlim:lim ((List.range (k+1)).map fun i=>wx (jh l N i).sum (jh l N i)).length=true:=by
  unfold lim; exact O9 (by simp; omega)
 rw[hlim,aY]
 subst hs;unfold uf
 dsimp only
 rw[RK]; rfl
end Go.Proofs.YtpkadoocdgdcfaaGreatDoor
end
section
namespace Go.Proofs.YtpkadoocdgdcfaaGreatDoor
open Go Go.Ab Go.Ab.W
variable{n:Nat}
def Eg(hn:40<n):qd n 1=some (false,[1],false,[1]):=by
 unfold qd;rw[oc (by omega),al]
 dsimp only
 unfold AJ;rw[oc (by omega),al]
 rfl
def nS{T:Nat}(hT:T≠0):bU T T=(1,1):=by
 unfold bU;rw[Nat.gcd_self,Nat.div_self (OW hT)]
def oB{T:Nat}(hT:T≠0):bU T 0=(0,1):=by unfold bU; rw[Nat.gcd_zero_left,Nat.zero_div,Nat.div_self (OW hT)]
structure RowsOk(M:RR (RR Nat)):Prop where
 len:1<=M.length/\M.length<=60
 row:∀l∈M,l.length=M.length/\l.sum≠0/\l.sum<18446744073709551616
def Ds(M:RR (RR Nat)):RR (RR Sh):=M.map fun l=>wx l.sum l
def FE:∀{l:RR Nat} {x:Nat},x∈l->x<=l.sum
 | a::l,x,h=>by
  rw[List.sum_cons];rcases Pb.1 h with rfl|h
  omega
  have:=FE h; omega
end Go.Proofs.YtpkadoocdgdcfaaGreatDoor
end
