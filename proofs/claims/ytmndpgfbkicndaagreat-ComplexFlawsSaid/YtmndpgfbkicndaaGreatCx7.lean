/- A part of the proof. -/
import Derived.Test.YtmndpgfbkicndaaGreatCx6
set_option linter.defProp false
section
namespace Go.Proofs.YtmndpgfbkicndaaGreat
open Go Go.Ab Go.Ab.W
set_option maxRecDepth 10000
set_option maxHeartbeats 4000000
attribute [local irreducible] Wo Wk At Wn Od Ox bp bZ
attribute [local irreducible] Tm.at Trie.set Trie.get Vj.get Vj.set Vj.alloc Vj.ww Vj.kill
variable {p q : Option Prim}
def Mz {n l3 l1 l4 l2 a0 c0 a2 c1} {r0:Ur} {e0:Un} {a1 c2 a3 c3} {r1:Ur} {e1:Un} {r} (hF:O2 n l3 l1 l4 l2=some r) (m) (h4:dm m a0 c0 l3) (h5:fh m a2 c1 l1 e0) (h6:(bU ai r0 l1 e0).P m) (h7:dm m a1 c2 l4) (h8:fh m a3 c3 l2 e1) (h9:(bU ai r1 l2 e1).P m):
 aD (Vn p q) 50 [dN a0 l3 c0 a2 l1 c1,dN a1 l4 c2 a3 l2 c3] m (Vi m (.bool r)):=by
 unfold O2 at hF;refine cw Tryz.func50 (UZ (UN (UN (UZ (UN (UN (UJ m) bP h4) (bC bP) h5) (bC (bC bP)) h6) (sG (bC (bC bP))) h7) (bC (sG (bC (bC bP)))) h8) (bC (bC (sG (bC (bC bP))))) h9) ?_;refine wz ?_;refine wb fun b0=>?_;refine wb fun b1=>?_;refine wz ?_;refine UD<|UD ?_;obtain⟨v1,h10,hF⟩:=J hF;refine ct (fun v1 (_:Unit)=>⟨.normal,(pI b0 b1 [(23,.bool v1)]),(cU b0 a0 l3 c0 a2 l1 c1 e0 ai r0 (cU b1 a1 l4 c2 a3 l2 c3 e1 ai r1 []))⟩) v1 ?_ ?_;clear hF;revert v1;intro r hF;refine wz ?_;obtain⟨r7,h11,hF⟩:=J hF;refine wc gn (fun m hm=>L8 h11 m (hm.q 7) (hm.q 4)) ?_;rintro⟨⟩;refine wz ?_;rcases U hF with⟨h12,hF⟩|⟨h12,hF⟩;refine wz ?_;cases hF;exact ae () [1,7,6,5,0,4,3,2];refine wz ?_;cases hF;exact ae () [1,7,6,5,0,4,3,2];rintro⟨⟩;refine UM ?_;rcases U hF with⟨h13,hF⟩|⟨h13,hF⟩;refine ak ?_;cases hF;exact ar () [];refine ak ?_;refine UE ?_;obtain⟨r3,h0,hF⟩:=J hF;refine ct (fun(r:(Unit) ⊕ (Unit)) (g:Unit)=>match r,g with | .inl _,_=>⟨.ret,[(4,.bool false)],[]⟩ | .inr _,_=>⟨(.exit 0),[],[]⟩) r3 ?_ ?_
 refine lo h0 () [0,1,2,3,4,5,6,7] (fun v0 _=>⟨.normal,(pI b0 b1 [(5,aM v0)]),(cU b0 a0 l3 c0 a2 l1 c1 e0 ai r0 (cU b1 a1 l4 c2 a3 l2 c3 e1 ai r1 []))⟩) ?_;clear hF h0;rintro v0 ⟨⟩ r hF;unfold Cq at hF;refine wz ?_;rcases U hF with⟨h14,hF⟩|⟨h14,hF⟩;refine wz ?_;refine UD<|UE<|UD<|UY (prs:=[(5,7),(5,10)]) (by kernel_rfl)<|UC (aL (r:=ptr b0 1) rfl (ja _ _)) rfl<|UC (aC (k:=0) q5 rfl rfl rfl) rfl<|UC (aK rfl) rfl ?_
 obtain⟨h2,hF⟩:=bJ hF;refine Wn.aN (k:=2) rfl (ay h2) ?_;rintro b2 o1 rfl;refine UU (dc iI rfl rfl h2) gn rfl ?_;obtain⟨⟨l7,l8⟩,h15,hF⟩:=J hF;refine U3 (Mw (w:=2) (j:=v0.toNat) (c:=0) (q:=4) um rfl rfl (rJ (k:=0) rfl) rfl h15 (fun _=>rfl) rfl (fun _=>rfl)) gn rfl ?_;rintro⟨⟨a6,c6⟩,⟨a7,c7,e5⟩⟩;obtain⟨l5,h16,hF⟩:=J hF;refine P5 gn (fun m hm=>lP h16 m hm.cx (hm.q 0) (hm.no 0) (hm.q 1) (hm.no 1) (hm.dp (q:=2) rfl) (hm.dh (q:=2) rfl)) ?_;rintro⟨a4,c4,n0,e3,r5⟩;refine Wn.fp (k:=0) (q:=1) (L:=l5) rfl (.inr (.inl ⟨_,rfl⟩)) rfl ?_;rintro rfl;refine UC (aL (r:=ptr b1 1) rfl (ja _ _)) rfl<|UC (aC (k:=10) q5 rfl rfl rfl) rfl<|UC (aK rfl) rfl ?_;obtain⟨h3,hF⟩:=bJ hF;refine Wn.aN (k:=12) rfl (ay h3) ?_;rintro b3 o2 rfl;refine UU (dc iI rfl rfl h3) gn rfl ?_;obtain⟨⟨l9,l10⟩,h17,hF⟩:=J hF;refine U3 (Mw (w:=2) (j:=v0.toNat) (c:=0) (q:=14) um rfl rfl (rJ (k:=0) rfl) rfl h17 (fun _=>rfl) rfl (fun _=>rfl)) gn rfl ?_;rintro⟨⟨a8,c8⟩,⟨a9,c9,e6⟩⟩;obtain⟨l6,h18,hF⟩:=J hF;refine P5 gn (fun m hm=>lP h18 m hm.cx (hm.q 0) (hm.no 0) (hm.q 1) (hm.no 1) (hm.dp (q:=2) rfl) (hm.dh (q:=2) rfl)) ?_;rintro⟨a5,c5,n1,e4,r6⟩;refine Wn.fp (k:=0) (q:=1) (L:=l6) rfl (.inr (.inl ⟨_,rfl⟩)) rfl ?_;rintro rfl;refine UC (bM rfl) rfl<|UC (bM rfl) rfl<|UT (fun m hm=>cn.all rfl) ?_;refine ak ?_;rcases U hF with⟨h19,hF⟩|⟨h19,hF⟩;refine ak ?_;cases hF;exact ae () [];refine ak ?_;refine UE ?_;obtain⟨r4,h1,hF⟩:=J hF;refine ct (fun(r:(Unit) ⊕ (Unit)) (g:Unit)=>match r,g with | .inl _,_=>⟨.ret,[(4,.bool false)],[]⟩ | .inr _,_=>⟨(.exit 2),(pI b0 b1 [(5,aM v0)]),(eW b0 a0 l3 c0 b2 o1 l1 c1 e0 ai r0 (eW b1 a1 l4 c2 b3 o2 l2 c3 e1 ai r1 []))⟩) r4 ?_ ?_
 refine lo h1 () [12,13,11,15,14,16,17,5,19,18,6,7,0,1] (fun v2 _=>⟨.normal,(pI b0 b1 [(5,aM v0),(6,bu a4 l5 c4),(7,bu a5 l6 c5),(8,aM v2)]),(eW b0 a0 l3 c0 b2 o1 l1 c1 e0 ai r0 (eW b1 a1 l4 c2 b3 o2 l2 c3 e1 ai r1 (eL a4 c4 l5 e3 aY r5 (eL a5 c5 l6 e4 aY r6 []))))⟩) ?_;clear hF h1;rintro v2 ⟨⟩ r hF;unfold BP at hF;refine wz ?_;rcases U hF with⟨h20,hF⟩|⟨h20,hF⟩;refine ak ?_;obtain⟨h21,hF⟩:=bJ hF;refine UO (k:=10) rfl (ay h21) ?_;rintro b4 o3 rfl;refine wz ?_;obtain⟨l11,h22,hF⟩:=J hF;refine wl 1 0 12 0 h22 ?_;rintro⟨a10,c10⟩;refine wz ?_;obtain⟨h23,hF⟩:=bJ hF;refine UO (k:=14) rfl (ay h23) ?_;rintro b5 o4 rfl;refine wz ?_;obtain⟨l12,h24,hF⟩:=J hF;refine wl 1 0 16 0 h24 ?_;rintro⟨a11,c11⟩;obtain⟨r8,h25,hF⟩:=J hF;refine wc gn (fun m hm=>LH h25 m (hm.q 2) (hm.q 0)) ?_;rintro⟨⟩;refine wz ?_;rcases U hF with⟨h26,hF⟩|⟨h26,hF⟩;refine ak ?_;cases hF;exact ae () [];refine ak ?_;cases hF;exact ae () (Vd 4 14);refine wz ?_;cases hF;exact ae () (Vd 0 10);rcases r4 with _|_;rintro⟨⟩;refine wz ?_;cases hF;exact ae () [];rintro⟨⟩;refine ak ?_;cases hF;exact ae () [0,1,4,3,5,6,9,8];refine wz ?_;cases hF;exact ae () [];rcases r3 with _|_;rintro⟨⟩;refine wz ?_;cases hF;exact ar () [];rintro⟨⟩;refine dz ?_;cases hF;exact ar () []
def yA {n l1 a2 c3 r} (hF:F9 n l1=some r) (m) (h4:lz m a2 c3 l1):
 aD (Vn p q) 9 [bu a2 l1 c3] m (fun v m'=>∃x:Uo × Nat,v = .slice x.1 x.2 x.2/\Hp m m' [.sl x.1 2 x.2 (r.map (eP (eI .i64) (eI .i64)))]):=by
 unfold F9 at hF;refine cw Tryz.func9 (UN (UJ m) bP h4) ?_;refine dz ?_;refine UE ?_;obtain⟨l37,h51,hF⟩:=J hF;refine ct (fun l37 (a38:Uo)=>⟨(.exit 0),[(3,bO a38 l37)],[cZ a38 l37]⟩) l37 ?_ ?_;refine lw h51 none (fun(l19,v21) a20=>⟨.normal,[(0,bu a2 l1 c3),(3,bO a20 l19),(4,aM v21)],[jx a2 c3 l1,cZ a20 l19]⟩) (UK (U9 2 rfl) (UH [1,0] rfl rfl)) ?_;clear hF h51;rintro⟨l19,v21⟩ a20 r hF;unfold Py at hF;refine wz ?_;rcases U hF with⟨h39,hF⟩|⟨h39,hF⟩;refine ak ?_;obtain⟨h40,hF⟩:=bJ hF;refine UO (k:=0) rfl (ay h40) ?_;rintro b41 o42 rfl;refine wz ?_;obtain⟨x43,h44,hF⟩:=J hF;refine wz ?_;obtain⟨h45,hF⟩:=bJ hF;refine wz ?_;obtain⟨x46,h47,hF⟩:=J hF;refine wz ?_;refine UB (cD rfl iH rfl (cE xZ rfl rfl rfl)) rfl<|UQ (cm (es:=([(x43,x46)]:Ul).map (eP (eI .i64) (eI .i64))) sB rfl (ck sB iH rfl rfl) rfl rfl) gn rfl fun b48=>?_;obtain⟨h49,hF⟩:=aA hF;refine UQ (nV (k:=3) (k2:=0) (xs:=(l19:Ul)) (ys:=([(x43,x46)]:Ul)) (zZ (oO .i64) (oO .i64)) sB ⟨_,NV⟩ rfl rfl rfl (.arr _ _ _ _ _) h49) gn rfl fun a50=>?_;refine ak ?_;cases hF;exact ae a50 [2,3];refine wz ?_;cases hF;exact ae a20 [1];rintro a38;refine dz ?_;obtain rfl:=R2 hF;exact ar (a38,l37.length) [0]
def Gy {n l1 l5 a2 c3 a6 c7} {rr8:Ur} {es9:Un} {r} (hF:Qd n l1 l5=some r) (m) (h4:dm m a2 c3 l1) (h10:fh m a6 c7 l5 es9) (h11:(bU ai rr8 l5 es9).P m):
 aD (Vn (some lX) q) 36 [dN a2 l1 c3 a6 l5 c7] m (fun v m'=>∃x:Uo × Nat,v = .tuple #[.slice x.1 x.2 x.2,.int .i64 r.2]/\Hp m m' [.sl x.1 4 x.2 (r.1.map (eP (eI .i64) (eP (eI .i64) (eP (eI .i64) (eI .i64)))))]):=by
 unfold Qd at hF;refine cw Tryz.func36 (UZ (UN (UN (UJ m) bP h4) (bC bP) h10) (bC (bC bP)) h11) ?_;refine wz ?_;refine wb fun b12=>?_;refine ak ?_;obtain⟨r14,h13,hF⟩:=J hF;refine wc gn (fun m hm=>sj h13 m (hm.q 3) (hm.q 2) (hm.dp (q:=1) rfl)) ?_;rintro⟨⟩;refine ak ?_;rcases U hF with⟨h15,hF⟩|⟨h15,hF⟩;refine ak ?_;cases hF;exact UW (.tmp rfl (.tmp rfl .nil)) fun m' hm=>⟨(none,0),rfl,(UK (U9 4 rfl) (UH [0] rfl rfl)) m' hm⟩;refine ak ?_;obtain⟨l17,h16,hF⟩:=J hF;refine wc gn (fun m hm=>H5 n l1 l5 a2 c3 a6 c7 rr8 es9 _ h16 m (hm.q 3) (hm.q 2) (hm.dp (q:=1) rfl)) ?_;rintro⟨a18,n19⟩;refine U5 (k:=0) (xs:=l17) rfl ?_;rintro rfl;refine ak ?_;cases hF;exact ar (a18,l17.length) [0]
def LJ {n l2 l1 x3 a0 c0 a1 c1} {r0:Ur} {e0:Un} {r} (hF:QI n l2 l1 x3=some r) (m) (h1:dm m a0 c0 l2) (h2:fh m a1 c1 l1 e0) (h3:(bU ai r0 l1 e0).P m):
 aD (Vn p q) 32 [dN a0 l2 c0 a1 l1 c1,aM x3] m (Vi m (.tuple #[.int .i64 r.1,.int .i64 r.2])):=by
 unfold QI at hF;refine cw Tryz.func32 (UZ (UN (UN (UJ m) bP h1) (bC bP) h2) (bC (bC bP)) h3) ?_;refine wz ?_;refine wb fun b0=>?_;refine ak ?_;obtain⟨r3,h4,hF⟩:=J hF;refine wc gn (fun m hm=>sj h4 m (hm.q 3) (hm.q 2) (hm.dp (q:=1) rfl)) ?_;rintro⟨⟩;refine ak ?_;rcases U hF with⟨h5,hF⟩|⟨h5,hF⟩;refine ak ?_;cases hF;exact ar () [];refine wz ?_;refine UD<|UD ?_;obtain⟨v0,h6,hF⟩:=J hF;refine ct (fun v0 (_:Unit)=>⟨.normal,[(1,aM x3),(2,ptr b0 0),(23,.bool v0)],(cU b0 a0 l2 c0 a1 l1 c1 e0 ai r0 [])⟩) v0 ?_ ?_;clear hF;revert v0;intro r hF;refine wz ?_;rcases U hF with⟨h7,hF⟩|⟨h7,hF⟩;refine wz ?_;cases hF;exact ae () [0,3,2,1];refine wz ?_;cases hF;exact ae () [0,3,2,1];rintro⟨⟩;refine UM ?_;rcases U hF with⟨h8,hF⟩|⟨h8,hF⟩;refine ak ?_;cases hF;exact ar () [];refine dz ?_;obtain⟨h9,hF⟩:=bJ hF;refine UO (k:=2) rfl (ay h9) ?_;rintro b1 o1 rfl;refine wz ?_;obtain⟨⟨l5,l6⟩,h10,hF⟩:=J hF;refine wl 2 0 4 0 h10 ?_;rintro⟨⟨a3,c3⟩,⟨a4,c4,e3⟩⟩;obtain⟨l3,h11,hF⟩:=J hF;refine xJ gn (fun m hm=>iA h11 m hm.cx (hm.q 0) (hm.no 0) (hm.q 1) (hm.no 1) (hm.dp (q:=2) rfl) (hm.dh (q:=2) rfl)) ?_;rintro⟨a2,c2,n0,e1,r1⟩;refine U6 (k:=0) (q:=1) (L:=l3) rfl (.inr (.inl ⟨_,rfl⟩)) rfl ?_;rintro rfl;refine wz ?_;refine UE ?_;obtain⟨v1,h0,hF⟩:=J hF;refine ct (fun v1 (_:Unit)=>⟨(.exit 0),[(7,aM v1)],[]⟩) v1 ?_ ?_;refine lo h0 () [6,7,5,9,8,0,1] (fun(v2,v3) _=>⟨.normal,[(2,ptr b0 0),(7,aM v2),(29,bu a2 l3 c2),(30,dF l3),(31,aM v3)],(eW b0 a0 l2 c0 b1 o1 l1 c1 e0 ai r0 (eL a2 c2 l3 e1 aY r1 []))⟩) ?_;clear hF h0;rintro⟨v2,v3⟩ ⟨⟩ r hF;unfold KO at hF;refine wz ?_;refine UD ?_;rcases U hF with⟨h12,hF⟩|⟨h12,hF⟩;refine ak ?_;obtain⟨h13,hF⟩:=bJ hF;refine UO (k:=5) rfl (ay h13) ?_;rintro b2 o2 rfl;refine wz ?_;obtain⟨l7,h14,hF⟩:=J hF;refine wl 1 0 7 0 h14 ?_;rintro⟨a5,c5⟩;refine ak ?_;obtain⟨l4,h15,hF⟩:=J hF;refine wc gn (fun m hm=>p6 h15 m (hm.q 3) (hm.q 6) (hm.dp (q:=5) rfl) (hm.q 0)) ?_;rintro⟨a6,n1⟩;refine U5 (k:=0) (xs:=l4) rfl ?_;rintro rfl;obtain⟨r4,h16,hF⟩:=J hF;refine wc gn (fun m hm=>F0 h16 m (hm.rd (k:=0) rfl (.sl _ _ _ _))) ?_;rintro⟨⟩;refine ak ?_;cases hF;exact ae () (Vd 3 7);refine wz ?_;cases hF;exact ae () [];rintro⟨⟩;refine dz ?_;cases hF;exact ar () []
def Ln {n l1 l5 a2 c3 a6 c7 r} (hF:Rb n l1 l5=some r) (m) (h4:Rd m a2 c3 4 l1.length (l1.map (eP (eI .i64) (eP (eI .i64) (eP (eI .i64) (eI .i64)))))) (h8:Rd m a6 c7 4 l5.length (l5.map (eP (eI .i64) (eP (eI .i64) (eP (eI .i64) (eI .i64)))))):
 aD (Vn p q) 40 [bu a2 l1 c3,bu a6 l5 c7] m (Vi m (.bool r)):=by
 unfold Rb at hF;refine cw Tryz.func40 (UN (UN (UJ m) bP h4) (bC bP) h8) ?_;refine UD<|UG<|UB (bM rfl) rfl<|UP<|UM<|UD<|UD<|UG<|UB (aK rfl) rfl<|UB (jd (k:=1) N7 rfl rfl (.inl rfl)) rfl<|UB (aK rfl) rfl<|UB (jd (k:=0) N7 rfl rfl (.inl rfl)) rfl<|UB (aI rfl rfl (jQ _ _)) rfl<|UP<|UM ?_;rcases U hF with⟨h9,hF⟩|⟨h9,hF⟩;refine U1 rfl h9<|UD<|UG<|UB (bM rfl) rfl<|UP<|UM<|Wk.ret<|At.tr ?_;cases hF;exact ar () [];refine Wk.eT rfl h9<|U7<|UM<|UD<|UD<|UG<|UB (aK rfl) rfl<|UB (jd (k:=1) N7 rfl rfl (.inl rfl)) rfl<|UB (aK rfl) rfl<|UP<|UM<|UE ?_;obtain⟨r50,h49,hF⟩:=J hF;refine ct (fun(r:(Unit) ⊕ (Unit)) (g:Unit)=>match r,g with | .inl _,_=>⟨.ret,[(4,.bool false)],[]⟩ | .inr _,_=>⟨(.exit 0),[],[]⟩) r50 ?_ ?_
 refine lo h49 () [1,0] (fun v11 _=>⟨.normal,[(0,bu a2 l1 c3),(1,bu a6 l5 c7),(12,dF l1),(13,aM v11)],[.rd a2 c3 4 l1.length (l1.map (eP (eI .i64) (eP (eI .i64) (eP (eI .i64) (eI .i64))))),.rd a6 c7 4 l5.length (l5.map (eP (eI .i64) (eP (eI .i64) (eP (eI .i64) (eI .i64)))))]⟩) ?_;clear hF h49;rintro v11 ⟨⟩ r hF;unfold K9 at hF;refine UD<|UG<|UB (aI rfl rfl (gq _ _ _)) rfl<|UP<|UM<|UD ?_;rcases U hF with⟨h31,hF⟩|⟨h31,hF⟩;refine U1 rfl h31<|U7<|UM<|UD<|UE<|UD<|UG<|UB (aK rfl) rfl<|UB (bM rfl) rfl<|UP<|UM<|UD<|Wk.draw (by kernel_rfl)<|UB (aK rfl) rfl<|UB (aK rfl) rfl ?_
 obtain⟨h32,hF⟩:=bJ hF;refine UO (k:=0) rfl (ay h32) ?_;rintro b33 o34 rfl;refine US (dc KW rfl rfl h32) gn rfl ?_;obtain⟨⟨x35,x36,x37,x38⟩,h39,hF⟩:=J hF;refine UB (fe (k:=0) AN rfl rfl (cL h39) rfl rfl) rfl<|UB (aK rfl) rfl<|UB (aK rfl) rfl ?_;obtain⟨h40,hF⟩:=bJ hF;refine UO (k:=2) rfl (ay h40) ?_;rintro b41 o42 rfl;refine US (dc KW rfl rfl h40) gn rfl ?_;obtain⟨⟨x43,x44,x45,x46⟩,h47,hF⟩:=J hF;refine UB (fe (k:=0) AN rfl rfl (cL h47) rfl rfl) rfl<|UB (aI rfl rfl (FH Qp (Qs _ _ _ _ _ _ _ _))) rfl<|UP<|UM ?_;rcases U hF with⟨h48,hF⟩|⟨h48,hF⟩;refine U1 rfl h48<|UD<|UG<|UB (bM rfl) rfl<|UP<|UM<|Wk.ret<|At.br<|At.tr ?_;cases hF;exact ae () [];refine Wk.eT rfl h48<|U7<|At.bn<|UM<|UG<|UB (aI rfl rfl (cg _ _ _)) rfl<|UB (aK rfl) rfl<|UP ?_;cases hF;exact ae () [2,3];refine Wk.eT rfl h31<|Wk.exit<|At.te ?_;cases hF;exact ae () [];rcases r50 with _|_;rintro⟨⟩;refine At.br<|At.tr ?_;cases hF;exact ar () [];rintro⟨⟩;refine At.be<|UM<|UD<|UG<|UB (bM rfl) rfl<|UP<|UM<|Wk.ret ?_;cases hF;exact ar () []
def sy {n l1 l5 x12 x13 a2 c3 a6 c7} {rr8:Ur} {es9:Un} {r} (hF:LI n l1 l5 x12 x13=some r) (m) (h4:dm m a2 c3 l1) (h10:fh m a6 c7 l5 es9) (h11:(bU ai rr8 l5 es9).P m):
 aD (Vn (some lX) q) 11 [dN a2 l1 c3 a6 l5 c7,aM x12,aM x13] m (Vi m (.bool r)):=by
 unfold LI at hF;refine cw Tryz.func11 (UZ (UN (UN (UJ m) bP h4) (bC bP) h10) (bC (bC bP)) h11) ?_;refine wz ?_;refine wb fun b14=>?_;refine ak ?_;obtain⟨⟨r16,r17⟩,h15,hF⟩:=J hF;refine wc gn (fun m hm=>Ac h15 m (hm.q 3) (hm.q 2) (hm.dp (q:=1) rfl)) ?_;rintro⟨⟩;refine ak ?_;obtain⟨⟨l19,r22⟩,h18,hF⟩:=J hF;refine wc gn (fun m hm=>Gy h18 m (hm.q 3) (hm.q 2) (hm.dp (q:=1) rfl)) ?_;rintro⟨a20,n21⟩;refine U5 (k:=0) (xs:=l19) rfl ?_;rintro rfl;refine ak ?_;rcases U hF with⟨h23,hF⟩|⟨h23,hF⟩;refine wz ?_;rcases U hF with⟨h24,hF⟩|⟨h24,hF⟩;refine wz ?_;refine US (aI rfl rfl (Hf u4)) (gg rfl rfl (dC h24)) rfl ?_;refine ak ?_;cases hF;exact ar () [];refine ak ?_;cases hF;exact ar () [];refine ak ?_;cases hF;exact ar () []
def Es {n l1 l5 x12 x13 x14 x15 a2 c3 a6 c7} {rr8:Ur} {es9:Un} {r} (hF:P3 n l1 l5 x12 x13 x14 x15=some r) (m) (h4:dm m a2 c3 l1) (h10:fh m a6 c7 l5 es9) (h11:(bU ai rr8 l5 es9).P m):
 aD (Vn (some lX) (some Ej)) 29 [dN a2 l1 c3 a6 l5 c7,aM x12,aM x13,aM x14,aM x15] m (Vi m (.bool r)):=by
 unfold P3 at hF;refine cw Tryz.func29 (UZ (UN (UN (UJ m) bP h4) (bC bP) h10) (bC (bC bP)) h11) ?_;refine wz ?_;refine wb fun b16=>?_;refine ak ?_;obtain⟨⟨r18,r19,r20,r21,r22⟩,h17,hF⟩:=J hF;refine wc gn (fun m hm=>L9 n l1 l5 a2 c3 a6 c7 rr8 es9 _ h17 m (hm.q 3) (hm.q 2) (hm.dp (q:=1) rfl)) ?_;rintro⟨⟩;refine ak ?_;rcases U hF with⟨h23,hF⟩|⟨h23,hF⟩;refine wz ?_;rcases U hF with⟨h24,hF⟩|⟨h24,hF⟩;refine wz ?_;rcases U hF with⟨h25,hF⟩|⟨h25,hF⟩;refine wz ?_;rcases U hF with⟨h26,hF⟩|⟨h26,hF⟩;refine ak ?_;cases hF;exact ar () [];refine ak ?_;cases hF;exact ar () [];refine ak ?_;cases hF;exact ar () [];refine ak ?_;cases hF;exact ar () [];refine ak ?_;cases hF;exact ar () []
def Nv {n l2 l1 x3 x4 a0 c1 a1 c0} {r0:Ur} {e0:Un} {r} (hF:Q7 n l2 l1 x3 x4=some r) (m) (h3:dm m a0 c1 l2) (h4:fh m a1 c0 l1 e0) (h5:(bU ai r0 l1 e0).P m):
 aD (Vn p q) 33 [dN a0 l2 c1 a1 l1 c0,fj x3 x4] m (Vi m (.tuple #[.int .i64 r.1,.int .i64 r.2])):=by
 unfold Q7 at hF;refine cw Tryz.func33 (UZ (UN (UN (UJ m) bP h3) (bC bP) h4) (bC (bC bP)) h5) ?_;refine wz ?_;refine wb fun b0=>?_;refine wb fun b1=>?_;refine ak ?_;obtain⟨r5,h6,hF⟩:=J hF;refine wc gn (fun m hm=>sj h6 m (hm.q 4) (hm.q 3) (hm.dp (q:=2) rfl)) ?_;rintro⟨⟩;refine ak ?_;rcases U hF with⟨h7,hF⟩|⟨h7,hF⟩;refine ak ?_;cases hF;exact ar () [];refine ak ?_;obtain⟨r6,h8,hF⟩:=J hF;refine wc gn (fun m hm=>HY h8 m) ?_;rintro⟨⟩;refine wz ?_;rcases U hF with⟨h9,hF⟩|⟨h9,hF⟩;refine ak ?_;cases hF;exact ar () [];refine ak ?_;refine UB (jT rfl rfl) rfl ?_;obtain⟨v1,h10,hF⟩:=J hF;refine wq (fun v1 (_:Unit)=>(.int .i64 v1,[])) v1 (fun m hm=>?_) ?_;clear hF;revert v1;intro r hF;refine aV (N:=19) (rs:=[.tmp 4]) rfl Tryz.func57 rfl rfl rfl hm ?_;refine ak ?_;refine UE ?_;obtain⟨r1,h1,hF⟩:=J hF;refine ct (fun(r:(Int) ⊕ (Unit)) (g:Unit)=>match r,g with | .inl v4,_=>⟨.ret,[(4,aM v4)],[]⟩ | .inr _,_=>⟨(.exit 0),[],[]⟩) r1 ?_ ?_
 refine lo h1 () [1,4,3,2,0] (fun v5 _=>⟨.normal,((1,.func (.func 58) #[] #[ptr b0 0,ptr b1 0])::yZ a1 l1 c0 v5 []),(cU b0 a0 l2 c1 a1 l1 c0 e0 ai r0 [ec b1 x3 x4])⟩) ?_;clear hF h1;rintro v5 ⟨⟩ r hF;unfold KG at hF;refine wz ?_;refine UD ?_;rcases U hF with⟨h11,hF⟩|⟨h11,hF⟩;refine ak ?_;obtain⟨h12,hF⟩:=bJ hF;refine UO (k:=2) rfl (ay h12) ?_;rintro b2 o1 rfl;refine wz ?_;obtain⟨⟨l5,l6⟩,h13,hF⟩:=J hF;refine wl 2 0 4 0 h13 ?_;rintro⟨⟨a3,c3⟩,⟨a4,c4,e3⟩⟩;refine wa z31 fun b4=>?_;refine ak ?_;obtain⟨v2,h14,hF⟩:=J hF;refine wq (fun v2 (_:Unit)=>(.bool v2,(eW b0 a0 l2 c1 b2 o1 l1 c0 e0 ai r0 [ec b1 x3 x4]))) v2 (fun m hm=>?_) ?_;clear hF;revert v2;intro r hF;refine aV (N:=16) (rs:=[.tmp 4]) rfl Tryz.func58 rfl rfl rfl hm ?_;refine wz ?_;refine wb fun b5=>?_;refine ak ?_;obtain⟨r7,h15,hF⟩:=J hF;refine wc gn (fun m hm=>Al h15 m (hm.q 7) (hm.q 8) (hm.dp (q:=9) rfl) (hm.q 2) (hm.q 3) (hm.dp (q:=4) rfl)) ?_;rintro⟨⟩;refine wz ?_;rcases U hF with⟨h0,hF⟩|⟨h0,hF⟩;refine ak ?_;cases hF;exact ar () [6,7,5,9,8,10];refine wz ?_;obtain⟨l3,h16,hF⟩:=J hF;refine xJ (gg rfl rfl (hZ h0)) (fun m hm=>iA h16 m hm.cx (hm.q 2) (hm.no 2) (hm.q 3) (hm.no 3) (hm.dp (q:=4) rfl) (hm.dh (q:=4) rfl)) ?_;rintro⟨a2,c2,n0,e1,r3⟩;refine U6 (k:=0) (q:=1) (L:=l3) rfl (.inr (.inl ⟨_,rfl⟩)) rfl ?_;rintro rfl;refine US (jT rfl rfl) (gg rfl rfl (hZ h0)) rfl ?_;obtain⟨v0,h17,hF⟩:=J hF;refine UQ (kD (α:=Unit) (V:=fun g=>(fun(r:Int) (g:Unit)=>match r,g with|v0,_=>(.int .i64 v0:Us)) v0 g) (N:=fun g=>(fun(r:Int) (g:Unit)=>match r,g with|v0,_=>((eW b0 a0 l2 c1 b2 o1 l1 c0 e0 ai r0 [ec b1 x3 x4]):List Pc)) v0 g) rfl rfl (fun m hm=>?_)) (gg rfl rfl (hZ h0)) rfl ?_
 clear hF;revert v0;intro r hF;refine aV (N:=19) (rs:=[.tmp 4]) rfl Tryz.func60 rfl rfl rfl hm ?_;refine ak ?_;refine UE ?_;obtain⟨r4,h2,hF⟩:=J hF;refine ct (fun(r:(Int) ⊕ (Unit)) (g:Unit)=>match r,g with | .inl v6,_=>⟨.ret,[(4,aM v6)],(eW b0 a0 l2 c1 b2 o1 l1 c0 e0 ai r0 [ec b1 x3 x4])⟩ | .inr _,_=>⟨(.exit 0),[],(eW b0 a0 l2 c1 b2 o1 l1 c0 e0 ai r0 [ec b1 x3 x4])⟩) r4 ?_ ?_
 refine lo h2 () [8,9,7,11,10,12,0,1] (fun v7 _=>⟨.normal,((1,.func (.func 61) #[] #[ptr b0 0,ptr b1 0])::yZ a2 l3 c2 v7 []),(eW b0 a0 l2 c1 b2 o1 l1 c0 e0 ai r0 (ec b1 x3 x4::eL a2 c2 l3 e1 aY r3 []))⟩) ?_;clear hF h2;rintro v7 ⟨⟩ r hF;unfold KQ at hF;refine wz ?_;refine UD ?_;rcases U hF with⟨h18,hF⟩|⟨h18,hF⟩;refine ak ?_;obtain⟨h19,hF⟩:=bJ hF;refine UO (k:=6) rfl (ay h19) ?_;rintro b3 o2 rfl;refine wz ?_;obtain⟨l7,h20,hF⟩:=J hF;refine wl 1 0 8 0 h20 ?_;rintro⟨a5,c5⟩;refine ak ?_;obtain⟨v3,h21,hF⟩:=J hF;refine wq (fun v3 (_:Unit)=>(.bool v3,(eW b0 a0 l2 c1 b2 o1 l1 c0 e0 ai r0 (ec b1 x3 x4::iY b3 o2 l3 e1 aY r3 c2 [])))) v3 (fun m hm=>?_) ?_;clear hF;revert v3;intro r hF;refine aV (N:=11) (rs:=[.tmp 4]) rfl Tryz.func61 rfl rfl rfl hm ?_;refine wz ?_;refine UD<|UY (prs:=[(2,3)]) (by kernel_rfl)<|UC (aC (k:=2) dA rfl rfl rfl) rfl<|UC (aK rfl) rfl ?_
 obtain⟨l4,h22,hF⟩:=J hF;refine nc gn (fun m hm=>p6 h22 m (hm.q 3) (hm.q 6) (hm.dp (q:=5) rfl) (hm.q 0)) ?_;rintro⟨a6,n1⟩;refine Wn.len (k:=0) (xs:=l4) rfl ?_;rintro rfl;refine UC (aC (k:=8) bQ rfl rfl rfl) rfl ?_;obtain⟨r8,h23,hF⟩:=J hF;refine nc gn (fun m hm=>A3 h23 m (hm.rd (k:=0) rfl (.sl _ _ _ _))) ?_;rintro⟨⟩;refine UC (aI rfl rfl (oR _ _ _)) rfl<|UC (bM rfl) rfl<|UT (fun m hm=>cn.all rfl) ?_;refine ak ?_;cases hF;exact ar () [3,4,5,6,7,8,2,10,9];rintro⟨⟩;refine wz ?_;rcases U hF with⟨h24,hF⟩|⟨h24,hF⟩;refine ak ?_;cases hF;exact ae () (Vd 0 6);refine ak ?_;cases hF;exact ae () [0,1,2,3,4,5,8,7];refine wz ?_;cases hF;exact ae () (Vd 0 6);rcases r4 with v6|_;rintro⟨⟩;refine wz ?_;obtain rfl:=R2 hF;exact ar () (Vd 0 6);rintro⟨⟩;refine dz ?_;cases hF;exact ar () (Vd 0 6);rintro⟨⟩;refine ak ?_;cases hF;exact ar () (Vd 0 6);rintro⟨⟩;refine wz ?_;rcases U hF with⟨h25,hF⟩|⟨h25,hF⟩;refine ak ?_;cases hF;exact ae () [];refine ak ?_;cases hF;exact ae () [0,1,4,3,5];refine wz ?_;cases hF;exact ae () [];rcases r1 with v4|_;rintro⟨⟩;refine wz ?_;obtain rfl:=R2 hF;exact ar () [];rintro⟨⟩;refine dz ?_;cases hF;exact ar () [];rintro⟨⟩;refine ak ?_;cases hF;exact ar () []
def wL {n l1 l5 x12 x13 x14 a2 c3 a6 c7} {rr8:Ur} {es9:Un} {r} (hF:N5 n l1 l5 x12 x13 x14=some r) (m) (h4:dm m a2 c3 l1) (h10:fh m a6 c7 l5 es9) (h11:(bU ai rr8 l5 es9).P m):
 aD (Vn p q) 30 [dN a2 l1 c3 a6 l5 c7,aM x12,aM x13,aM x14] m (Vi m (.bool r)):=by
 unfold N5 at hF;refine cw Tryz.func30 (UZ (UN (UN (UJ m) bP h4) (bC bP) h10) (bC (bC bP)) h11) ?_;refine wz ?_;refine wb fun b15=>?_;refine ak ?_;refine UB (cD rfl iH rfl (cE xZ rfl rfl rfl)) rfl ?_;obtain⟨⟨r17,r18⟩,h16,hF⟩:=J hF;refine wc gn (fun m hm=>Nv h16 m (hm.q 3) (hm.q 2) (hm.dp (q:=1) rfl)) ?_;rintro⟨⟩;refine ak ?_;rcases U hF with⟨h19,hF⟩|⟨h19,hF⟩;refine ak ?_;cases hF;exact ar () [];refine ak ?_;cases hF;exact ar () []
def OI {n r} (hF:F7 n=some r) (m):
 aD (Vn (some lX) (some Ej)) 7 [] m (Vi m (.bool r)):=by
 unfold F7 at hF;refine cw Tryz.func7 (UJ m) ?_;refine ak ?_;obtain⟨r6,h12,hF⟩:=J hF;refine wq (fun((l6,l5):Ul × Uj) ((a0,a1,e1,r0):Uo × Uo × Un × (Nat->Prop))=>(.agg #[bO a0 l6,bO a1 l5],[cZ a0 l6,jF a1 l5 e1,gr ai r0 l5 e1])) r6 (fun m hm=>?_) ?_;clear hF;revert r6;intro r hF;refine aV (N:=9) (rs:=[.cell 0 26]) rfl Tryz.func51 rfl rfl rfl hm ?_;refine wz ?_;refine wa z26 fun b32=>?_;refine ak ?_;refine UQ (cm (es:=([0,0,2,0,4,0,4,2,2,2,0,2]:List (Int)).map (eI .i64)) eZ rfl (ck eZ z3 rfl rfl) rfl rfl) gn rfl fun b33=>?_;obtain⟨l18,h13,hF⟩:=J hF;refine wc gn (fun m hm=>yA h13 m (hm.q 0)) ?_;rintro⟨a16,n0⟩;refine U5 (k:=0) (xs:=l18) rfl ?_;rintro rfl;refine UQ (cm (es:=([0,1,4,5]:List (Int)).map (eI .i64)) eZ rfl (ck eZ z3 rfl rfl) rfl rfl) gn rfl fun b6=>?_;refine UB (cD rfl z31 rfl (cE mN rfl rfl rfl)) rfl<|UQ (cm (es:=([1,2,3,4]:List (Int)).map (eI .i64)) eZ rfl (ck eZ z3 rfl rfl) rfl rfl) gn rfl fun b7=>?_;refine UB (cD rfl z31 rfl (cE mN rfl rfl rfl)) rfl<|UR (UI (k:=1) rfl)<|UR (UF (k:=1) rfl)<|UR (UI (k:=0) rfl)<|UR (UF (k:=0) rfl)<|UQ (cm (es:=[[cH b6,.slice none 0 0],[cH b7,.slice none 0 0]]) iI rfl (ck iI z31 rfl rfl) rfl rfl) gn rfl fun b27=>?_;refine Vc (r:=ai) (L:=([([0,1,4,5],[]),([1,2,3,4],[])]:Uj)) (es:=[[cH b6,.slice none 0 0],[cH b7,.slice none 0 0]]) (gA.cons (r:=ai) (z:=([0,1,4,5],[])) (g:=(((some ⟨b6,0,none⟩),4),(none,0,[]))) (Lf.p (Lf.s (k:=2) rfl) Lf.l0) (gA.cons (r:=ai) (z:=([1,2,3,4],[])) (g:=(((some ⟨b7,0,none⟩),4),(none,0,[]))) (Lf.p (Lf.s (k:=1) rfl) Lf.l0) gA.nil)) ?_;intro r13;refine UB (cD rfl z26 rfl (cE xE rfl rfl rfl)) rfl ?_;refine ak ?_;cases hF;exact UW (.cell (k:=6) dA rfl rfl rfl .nil) fun m' hm=>⟨(a16,(some ⟨b27,0,none⟩),[[cH b6,.slice none 0 0],[cH b7,.slice none 0 0]],r13),rfl,(UK (UI (k:=1) rfl) (UH [4,1,0] rfl rfl)) m' hm⟩;clear h12;obtain⟨l6,l5⟩:=r6;rintro⟨a0,a1,e1,r0⟩;obtain⟨r7,h14,hF⟩:=J hF;refine wq (fun((l10,l7):Ul × Uj) ((a3,a4,e4,r1):Uo × Uo × Un × (Nat->Prop))=>(.agg #[bO a3 l10,bO a4 l7],[cZ a3 l10,jF a4 l7 e4,gr ai r1 l7 e4,cZ a0 l6,jF a1 l5 e1,gr ai r0 l5 e1])) r7 (fun m hm=>?_) ?_;clear hF;revert r7;intro r hF;refine aV (N:=11) (rs:=[.cell 0 26]) rfl Tryz.func52 rfl rfl rfl hm ?_;refine wz ?_;refine wa z26 fun b34=>?_;refine ak ?_;refine UQ (cm (es:=([0,0,9,0,9,9,0,9,3,3,6,3,6,6,3,6]:List (Int)).map (eI .i64)) eZ rfl (ck eZ z3 rfl rfl) rfl rfl) gn rfl fun b35=>?_;obtain⟨l19,h15,hF⟩:=J hF;refine wc gn (fun m hm=>yA h15 m (hm.q 0)) ?_;rintro⟨a17,n1⟩;refine U5 (k:=0) (xs:=l19) rfl ?_;rintro rfl;refine UQ (cm (es:=([0,1,2,3]:List (Int)).map (eI .i64)) eZ rfl (ck eZ z3 rfl rfl) rfl rfl) gn rfl fun b8=>?_;refine UQ (cm (es:=([4,7,6,5]:List (Int)).map (eI .i64)) eZ rfl (ck eZ z3 rfl rfl) rfl rfl) gn rfl fun b9=>?_;refine UR (UI (k:=0) rfl)<|UR (UF (k:=0) rfl)<|UQ (cm (es:=[[cH b9]]) lh rfl (ck lh z28 rfl rfl) rfl rfl) gn rfl fun b10=>?_;refine Vc (r:=aY) (L:=([[4,7,6,5]]:Um)) (es:=[[cH b9]]) (gA.cons (r:=aY) (z:=[4,7,6,5]) (g:=((some ⟨b9,0,none⟩),4)) (Lf.s (k:=1) rfl) gA.nil) ?_;intro r23;refine UB (cD rfl z31 rfl (cE mN rfl rfl rfl)) rfl<|UQ (cm (es:=([4,5,6,7]:List (Int)).map (eI .i64)) eZ rfl (ck eZ z3 rfl rfl) rfl rfl) gn rfl fun b11=>?_;refine UB (cD rfl z31 rfl (cE mN rfl rfl rfl)) rfl<|UR (UI (k:=4) rfl)<|UR (UF (k:=4) rfl)<|UR (UI (k:=2) rfl)<|UR (UF (k:=2) rfl)<|UR (UI (k:=0) rfl)<|UR (UF (k:=0) rfl)<|UQ (cm (es:=[[cH b8,lE b10],[cH b11,.slice none 0 0]]) iI rfl (ck iI z31 rfl rfl) rfl rfl) gn rfl fun b28=>?_;refine Vc (r:=ai) (L:=([([0,1,2,3],[[4,7,6,5]]),([4,5,6,7],[])]:Uj)) (es:=[[cH b8,lE b10],[cH b11,.slice none 0 0]]) (gA.cons (r:=ai) (z:=([0,1,2,3],[[4,7,6,5]])) (g:=(((some ⟨b8,0,none⟩),4),((some ⟨b10,0,none⟩),1,[[cH b9]]))) (Lf.p (Lf.s (k:=5) rfl) (Lf.l (k:=3) (q:=2) rfl rfl rfl)) (gA.cons (r:=ai) (z:=([4,5,6,7],[])) (g:=(((some ⟨b11,0,none⟩),4),(none,0,[]))) (Lf.p (Lf.s (k:=1) rfl) Lf.l0) gA.nil)) ?_;intro r14;refine UB (cD rfl z26 rfl (cE xE rfl rfl rfl)) rfl ?_;refine ak ?_;cases hF;exact UW (.cell (k:=9) dA rfl rfl rfl .nil) fun m' hm=>⟨(a17,(some ⟨b28,0,none⟩),[[cH b8,lE b10],[cH b11,.slice none 0 0]],r14),rfl,(UK (UI (k:=1) rfl) (UH [7,1,0,10,11,12] rfl rfl)) m' hm⟩;clear h14;obtain⟨l10,l7⟩:=r7;rintro⟨a3,a4,e4,r1⟩;refine wa z26 fun b1=>?_;refine wa z26 fun b2=>?_;refine ak ?_;obtain⟨⟨l13,r15⟩,h16,hF⟩:=J hF;refine wc gn (fun m hm=>Gy h16 m (hm.rd (k:=5) rfl (.sl _ _ _ _)) (hm.rd (k:=6) rfl (.sl _ _ _ _)) (hm.dp (q:=7) rfl)) ?_;rintro⟨a9,n2⟩;refine U5 (k:=0) (xs:=l13) rfl ?_;rintro rfl;refine ak ?_;obtain⟨⟨r16,r17⟩,h17,hF⟩:=J hF;refine wc gn (fun m hm=>LJ h17 m (hm.rd (k:=3) rfl (.sl _ _ _ _)) (hm.rd (k:=4) rfl (.sl _ _ _ _)) (hm.dp (q:=5) rfl)) ?_;rintro⟨⟩;refine ak ?_;obtain⟨r8,h18,hF⟩:=J hF;refine wq (fun((l8,l1):Ul × Uj) ((a2,a12,e0,r3):Uo × Uo × Un × (Nat->Prop))=>(.agg #[bO a2 l8,bO a12 l1],(cZ a2 l8::jF a12 l1 e0::gr ai r3 l1 e0::uY b1 a0 l6 a1 l5 e1 ai r0 (uY b2 a3 l10 a4 l7 e4 ai r1 [lq a9 l13])))) r8 (fun m hm=>?_) ?_;clear hF;revert r8;intro r hF;refine aV (N:=11) (rs:=[.cell 0 26]) rfl Tryz.func52 rfl rfl rfl hm ?_;refine wz ?_;refine wa z26 fun b36=>?_;refine ak ?_;refine UQ (cm (es:=([0,0,9,0,9,9,0,9,3,3,6,3,6,6,3,6]:List (Int)).map (eI .i64)) eZ rfl (ck eZ z3 rfl rfl) rfl rfl) gn rfl fun b37=>?_;obtain⟨l20,h19,hF⟩:=J hF;refine wc gn (fun m hm=>yA h19 m (hm.q 0)) ?_;rintro⟨a18,n4⟩;refine U5 (k:=0) (xs:=l20) rfl ?_;rintro rfl;refine UQ (cm (es:=([0,1,2,3]:List (Int)).map (eI .i64)) eZ rfl (ck eZ z3 rfl rfl) rfl rfl) gn rfl fun b12=>?_;refine UQ (cm (es:=([4,7,6,5]:List (Int)).map (eI .i64)) eZ rfl (ck eZ z3 rfl rfl) rfl rfl) gn rfl fun b13=>?_;refine UR (UI (k:=0) rfl)<|UR (UF (k:=0) rfl)<|UQ (cm (es:=[[cH b13]]) lh rfl (ck lh z28 rfl rfl) rfl rfl) gn rfl fun b14=>?_;refine Vc (r:=aY) (L:=([[4,7,6,5]]:Um)) (es:=[[cH b13]]) (gA.cons (r:=aY) (z:=[4,7,6,5]) (g:=((some ⟨b13,0,none⟩),4)) (Lf.s (k:=1) rfl) gA.nil) ?_;intro r24;refine UB (cD rfl z31 rfl (cE mN rfl rfl rfl)) rfl<|UQ (cm (es:=([4,5,6,7]:List (Int)).map (eI .i64)) eZ rfl (ck eZ z3 rfl rfl) rfl rfl) gn rfl fun b15=>?_;refine UB (cD rfl z31 rfl (cE mN rfl rfl rfl)) rfl<|UR (UI (k:=4) rfl)<|UR (UF (k:=4) rfl)<|UR (UI (k:=2) rfl)<|UR (UF (k:=2) rfl)<|UR (UI (k:=0) rfl)<|UR (UF (k:=0) rfl)<|UQ (cm (es:=[[cH b12,lE b14],[cH b15,.slice none 0 0]]) iI rfl (ck iI z31 rfl rfl) rfl rfl) gn rfl fun b29=>?_;refine Vc (r:=ai) (L:=([([0,1,2,3],[[4,7,6,5]]),([4,5,6,7],[])]:Uj)) (es:=[[cH b12,lE b14],[cH b15,.slice none 0 0]]) (gA.cons (r:=ai) (z:=([0,1,2,3],[[4,7,6,5]])) (g:=(((some ⟨b12,0,none⟩),4),((some ⟨b14,0,none⟩),1,[[cH b13]]))) (Lf.p (Lf.s (k:=5) rfl) (Lf.l (k:=3) (q:=2) rfl rfl rfl)) (gA.cons (r:=ai) (z:=([4,5,6,7],[])) (g:=(((some ⟨b15,0,none⟩),4),(none,0,[]))) (Lf.p (Lf.s (k:=1) rfl) Lf.l0) gA.nil)) ?_;intro r18;refine UB (cD rfl z26 rfl (cE xE rfl rfl rfl)) rfl ?_;refine ak ?_;cases hF;exact UW (.cell (k:=9) dA rfl rfl rfl .nil) fun m' hm=>⟨(a18,(some ⟨b29,0,none⟩),[[cH b12,lE b14],[cH b15,.slice none 0 0]],r18),rfl,(UK (UI (k:=1) rfl) (UH [7,1,0,12,16,17,18,11,13,14,15,10] rfl rfl)) m' hm⟩;clear h18;obtain⟨l8,l1⟩:=r8;rintro⟨a2,a12,e0,r3⟩;obtain⟨r9,h20,hF⟩:=J hF;refine wq (fun((l11,l2):Ul × Uj) ((a5,a10,e3,r4):Uo × Uo × Un × (Nat->Prop))=>(.agg #[bO a5 l11,bO a10 l2],(cZ a5 l11::jF a10 l2 e3::gr ai r4 l2 e3::uY b1 a0 l6 a1 l5 e1 ai r0 (uY b2 a3 l10 a4 l7 e4 ai r1 [lq a9 l13,cZ a2 l8,jF a12 l1 e0,gr ai r3 l1 e0])))) r9 (fun m hm=>?_) ?_;clear hF;revert r9;intro r hF;refine aV (N:=11) (rs:=[.cell 0 26]) rfl Tryz.func52 rfl rfl rfl hm ?_;refine wz ?_;refine wa z26 fun b38=>?_;refine ak ?_;refine UQ (cm (es:=([0,0,9,0,9,9,0,9,3,3,6,3,6,6,3,6]:List (Int)).map (eI .i64)) eZ rfl (ck eZ z3 rfl rfl) rfl rfl) gn rfl fun b39=>?_;obtain⟨l21,h21,hF⟩:=J hF;refine wc gn (fun m hm=>yA h21 m (hm.q 0)) ?_;rintro⟨a19,n5⟩;refine U5 (k:=0) (xs:=l21) rfl ?_;rintro rfl;refine UQ (cm (es:=([0,1,2,3]:List (Int)).map (eI .i64)) eZ rfl (ck eZ z3 rfl rfl) rfl rfl) gn rfl fun b16=>?_;refine UQ (cm (es:=([4,7,6,5]:List (Int)).map (eI .i64)) eZ rfl (ck eZ z3 rfl rfl) rfl rfl) gn rfl fun b17=>?_;refine UR (UI (k:=0) rfl)<|UR (UF (k:=0) rfl)<|UQ (cm (es:=[[cH b17]]) lh rfl (ck lh z28 rfl rfl) rfl rfl) gn rfl fun b18=>?_;refine Vc (r:=aY) (L:=([[4,7,6,5]]:Um)) (es:=[[cH b17]]) (gA.cons (r:=aY) (z:=[4,7,6,5]) (g:=((some ⟨b17,0,none⟩),4)) (Lf.s (k:=1) rfl) gA.nil) ?_;intro r25;refine UB (cD rfl z31 rfl (cE mN rfl rfl rfl)) rfl<|UQ (cm (es:=([4,5,6,7]:List (Int)).map (eI .i64)) eZ rfl (ck eZ z3 rfl rfl) rfl rfl) gn rfl fun b19=>?_;refine UB (cD rfl z31 rfl (cE mN rfl rfl rfl)) rfl<|UR (UI (k:=4) rfl)<|UR (UF (k:=4) rfl)<|UR (UI (k:=2) rfl)<|UR (UF (k:=2) rfl)<|UR (UI (k:=0) rfl)<|UR (UF (k:=0) rfl)<|UQ (cm (es:=[[cH b16,lE b18],[cH b19,.slice none 0 0]]) iI rfl (ck iI z31 rfl rfl) rfl rfl) gn rfl fun b30=>?_;refine Vc (r:=ai) (L:=([([0,1,2,3],[[4,7,6,5]]),([4,5,6,7],[])]:Uj)) (es:=[[cH b16,lE b18],[cH b19,.slice none 0 0]]) (gA.cons (r:=ai) (z:=([0,1,2,3],[[4,7,6,5]])) (g:=(((some ⟨b16,0,none⟩),4),((some ⟨b18,0,none⟩),1,[[cH b17]]))) (Lf.p (Lf.s (k:=5) rfl) (Lf.l (k:=3) (q:=2) rfl rfl rfl)) (gA.cons (r:=ai) (z:=([4,5,6,7],[])) (g:=(((some ⟨b19,0,none⟩),4),(none,0,[]))) (Lf.p (Lf.s (k:=1) rfl) Lf.l0) gA.nil)) ?_;intro r19;refine UB (cD rfl z26 rfl (cE xE rfl rfl rfl)) rfl ?_;refine ak ?_;cases hF;exact UW (.cell (k:=9) dA rfl rfl rfl .nil) fun m' hm=>⟨(a19,(some ⟨b30,0,none⟩),[[cH b16,lE b18],[cH b19,.slice none 0 0]],r19),rfl,(UK (UI (k:=1) rfl) (UH [7,1,0,13,14,15,16,17,18,19,20,21,10,11,12] rfl rfl)) m' hm⟩;clear h20;obtain⟨l11,l2⟩:=r9;rintro⟨a5,a10,e3,r4⟩;obtain⟨r10,h22,hF⟩:=J hF;refine wq (fun((l12,l3):Ul × Uj) ((a6,a8,e5,r5):Uo × Uo × Un × (Nat->Prop))=>(.agg #[bO a6 l12,bO a8 l3],(cZ a6 l12::jF a8 l3 e5::gr ai r5 l3 e5::uY b1 a0 l6 a1 l5 e1 ai r0 (uY b2 a3 l10 a4 l7 e4 ai r1 [lq a9 l13,cZ a2 l8,jF a12 l1 e0,gr ai r3 l1 e0,cZ a5 l11,jF a10 l2 e3,gr ai r4 l2 e3])))) r10 (fun m hm=>?_) ?_;clear hF;revert r10;intro r hF;refine aV (N:=9) (rs:=[.cell 0 26]) rfl Tryz.func51 rfl rfl rfl hm ?_;refine wz ?_;refine wa z26 fun b40=>?_;refine ak ?_;refine UQ (cm (es:=([0,0,2,0,4,0,4,2,2,2,0,2]:List (Int)).map (eI .i64)) eZ rfl (ck eZ z3 rfl rfl) rfl rfl) gn rfl fun b41=>?_;obtain⟨l22,h23,hF⟩:=J hF;refine wc gn (fun m hm=>yA h23 m (hm.q 0)) ?_;rintro⟨a20,n7⟩;refine U5 (k:=0) (xs:=l22) rfl ?_;rintro rfl;refine UQ (cm (es:=([0,1,4,5]:List (Int)).map (eI .i64)) eZ rfl (ck eZ z3 rfl rfl) rfl rfl) gn rfl fun b20=>?_;refine UB (cD rfl z31 rfl (cE mN rfl rfl rfl)) rfl<|UQ (cm (es:=([1,2,3,4]:List (Int)).map (eI .i64)) eZ rfl (ck eZ z3 rfl rfl) rfl rfl) gn rfl fun b21=>?_;refine UB (cD rfl z31 rfl (cE mN rfl rfl rfl)) rfl<|UR (UI (k:=1) rfl)<|UR (UF (k:=1) rfl)<|UR (UI (k:=0) rfl)<|UR (UF (k:=0) rfl)<|UQ (cm (es:=[[cH b20,.slice none 0 0],[cH b21,.slice none 0 0]]) iI rfl (ck iI z31 rfl rfl) rfl rfl) gn rfl fun b31=>?_;refine Vc (r:=ai) (L:=([([0,1,4,5],[]),([1,2,3,4],[])]:Uj)) (es:=[[cH b20,.slice none 0 0],[cH b21,.slice none 0 0]]) (gA.cons (r:=ai) (z:=([0,1,4,5],[])) (g:=(((some ⟨b20,0,none⟩),4),(none,0,[]))) (Lf.p (Lf.s (k:=2) rfl) Lf.l0) (gA.cons (r:=ai) (z:=([1,2,3,4],[])) (g:=(((some ⟨b21,0,none⟩),4),(none,0,[]))) (Lf.p (Lf.s (k:=1) rfl) Lf.l0) gA.nil)) ?_;intro r20;refine UB (cD rfl z26 rfl (cE xE rfl rfl rfl)) rfl ?_;refine ak ?_;cases hF;exact UW (.cell (k:=6) dA rfl rfl rfl .nil) fun m' hm=>⟨(a20,(some ⟨b31,0,none⟩),[[cH b20,.slice none 0 0],[cH b21,.slice none 0 0]],r20),rfl,(UK (UI (k:=1) rfl) (UH [4,1,0,10,11,12,13,14,15,16,17,18,19,20,21,7,8,9] rfl rfl)) m' hm⟩;clear h22;obtain⟨l12,l3⟩:=r10;rintro⟨a6,a8,e5,r5⟩;refine wa z26 fun b22=>?_;refine wa z26 fun b23=>?_;refine wa z26 fun b24=>?_;refine ak ?_;obtain⟨h24,hF⟩:=bJ hF;refine U2 (k:=16) rfl (ay h24) ?_;rintro b3 t0 rfl h48;refine wz ?_;obtain⟨⟨l4,l15⟩,h25,hF⟩:=J hF;refine Wo.uR (r:=ai) (q:=17) (j:=Uy) (z:=(l4,l15)) (N:=fun g=>(.rd g.1.1 g.1.2 1 l4.length (l4.map (eI .i64))::.rd g.2.1 g.2.2.1 1 l15.length g.2.2.2::.gen (bU aY r3 l15 g.2.2.2)::s9 b24 a6 l12 a8 l3::s9 b23 a5 l11 a10 l2::ku b22 a2 l8 b3 l1::cZ a6 l12::jF a8 l3 e5::gr ai r5 l3 e5::uY b1 a0 l6 a1 l5 e1 ai r0 (uY b2 a3 l10 a4 l7 e4 ai r1 [lq a9 l13,cZ a2 l8,.arr b3 2 l1.length e0 t0,gr ai r3 l1 e0,cZ a5 l11,jF a10 l2 e3,gr ai r4 l2 e3]))) rfl h25 (fun _=>rfl) ?_;rintro⟨⟨a7,c0⟩,⟨a13,c2,e6⟩⟩ h26;refine U8 (nQ (k:=19) (j:=Uy) (c:=1) (e:=[bu a7 l4 c0,bu a13 l15 c2]) (e':=[bu a7 l4 c0,.slice none 0 0]) kO rfl rfl rfl h26 rfl)<|Wo.zn (r:=ai) (q:=20) (j:=Uy) (z:=(l4,[])) (g:=((a7,c0),(none,0,[]))) rfl (Lf.p (Lf.s (k:=0) rfl) Lf.l0) ?_;intro r11;refine ak ?_;refine UQ (cm (es:=([4,5,6,7]:List (Int)).map (eI .i64)) eZ rfl (ck eZ z3 rfl rfl) rfl rfl) gn rfl fun b0=>?_;refine UR (UI (k:=0) rfl)<|UR (UF (k:=0) rfl)<|UQ (cm (es:=[[cH b0]]) lh rfl (ck lh z28 rfl rfl) rfl rfl) gn rfl fun b4=>?_;refine Vc (r:=aY) (L:=([[4,5,6,7]]:Um)) (es:=[[cH b0]]) (gA.cons (r:=aY) (z:=[4,5,6,7]) (g:=((some ⟨b0,0,none⟩),4)) (Lf.s (k:=1) rfl) gA.nil) ?_;intro r12;obtain⟨h3,hF⟩:=bJ hF;refine U2 (k:=25) rfl (ay h3) ?_;rintro b5 t1 rfl h49;refine US (mE iI rfl rfl h3) gn rfl<|UB (aL (r:=ptr b5 (Uy*2+1)) rfl (eu _ _)) rfl<|UR (UI (k:=1) rfl)<|UR (UF (k:=1) rfl) ?_;obtain⟨⟨l9,l16⟩,h27,hF⟩:=J hF;refine Wo.uR (r:=ai) (q:=26) (j:=Uy) (z:=(l9,l16)) (N:=fun g=>(.rd g.1.1 g.1.2 1 l9.length (l9.map (eI .i64))::.rd g.2.1 g.2.2.1 1 l16.length g.2.2.2::.gen (bU aY r4 l16 g.2.2.2)::.gen (bU aY r12 ([[4,5,6,7]]) ([[cH b0]]))::.rd (some ⟨b4,0,none⟩) 1 1 1 ([[cH b0]])::.rd (some ⟨b0,0,none⟩) 4 1 4 (([4,5,6,7]).map (eI .i64))::jx a7 c0 l4::eL a13 c2 l15 e6 aY r3 (s9 b24 a6 l12 a8 l3::ku b23 a5 l11 b5 l2::ku b22 a2 l8 b3 l1::cZ a6 l12::jF a8 l3 e5::gr ai r5 l3 e5::uY b1 a0 l6 a1 l5 e1 ai r0 (uY b2 a3 l10 a4 l7 e4 ai r1 [lq a9 l13,cZ a2 l8,.arr b3 2 l1.length (e0.set (Uy) [bu a7 l4 c0,.slice none 0 0]) t0,.gen (bU ai r11 (l1.set (Uy) (l4,[])) (e0.set (Uy) [bu a7 l4 c0,.slice none 0 0])),cZ a5 l11,.arr b5 2 l2.length e3 t1,gr ai r4 l2 e3])))) rfl h27 (fun _=>rfl) ?_;rintro⟨⟨a11,c1⟩,⟨a15,c4,e7⟩⟩ h28;refine U8 (nQ (k:=28) (j:=Uy) (c:=1) (e:=[bu a11 l9 c1,bu a15 l16 c4]) (e':=[bu a11 l9 c1,lE b4]) kO rfl rfl rfl h28 rfl)<|Wo.zn (r:=ai) (q:=29) (j:=Uy) (z:=(l9,[[4,5,6,7]])) (g:=((a11,c1),((some ⟨b4,0,none⟩),1,[[cH b0]]))) rfl (Lf.p (Lf.s (k:=0) rfl) (Lf.l (k:=4) (q:=3) rfl rfl rfl)) ?_;intro r21;refine ak ?_;refine UQ (cm (es:=([1,2,3,5]:List (Int)).map (eI .i64)) eZ rfl (ck eZ z3 rfl rfl) rfl rfl) gn rfl fun b25=>?_;obtain⟨h4,hF⟩:=bJ hF;refine U2 (k:=14) rfl (ay h4) ?_;rintro b26 t2 rfl h50;refine US (mE iI rfl rfl h4) gn rfl<|UB (aL (r:=ptr b26 ((1:Int).toNat*2+0)) rfl (eA _ _)) rfl<|UR (UI (k:=0) rfl)<|UR (UF (k:=0) rfl) ?_;obtain⟨⟨l17,l14⟩,h29,hF⟩:=J hF;refine Wo.uR (r:=ai) (q:=15) (j:=(1:Int).toNat) (z:=(l17,l14)) (N:=fun g=>(.rd g.1.1 g.1.2 1 l17.length (l17.map (eI .i64))::.rd g.2.1 g.2.2.1 1 l14.length g.2.2.2::.gen (bU aY r5 l14 g.2.2.2)::.rd (some ⟨b25,0,none⟩) 4 1 4 (([1,2,3,5]).map (eI .i64))::jx a11 c1 l9::eL a15 c4 l16 e7 aY r4 (.gen (bU aY r12 ([[4,5,6,7]]) ([[cH b0]]))::.rd (some ⟨b4,0,none⟩) 1 1 1 ([[cH b0]])::.rd (some ⟨b0,0,none⟩) 4 1 4 (([4,5,6,7]).map (eI .i64))::jx a7 c0 l4::eL a13 c2 l15 e6 aY r3 (ku b24 a6 l12 b26 l3::ku b23 a5 l11 b5 l2::ku b22 a2 l8 b3 l1::cZ a6 l12::.arr b26 2 l3.length e5 t2::gr ai r5 l3 e5::uY b1 a0 l6 a1 l5 e1 ai r0 (uY b2 a3 l10 a4 l7 e4 ai r1 [lq a9 l13,cZ a2 l8,.arr b3 2 l1.length (e0.set (Uy) [bu a7 l4 c0,.slice none 0 0]) t0,.gen (bU ai r11 (l1.set (Uy) (l4,[])) (e0.set (Uy) [bu a7 l4 c0,.slice none 0 0])),cZ a5 l11,.arr b5 2 l2.length (e3.set (Uy) [bu a11 l9 c1,lE b4]) t1,.gen (bU ai r21 (l2.set (Uy) (l9,[[4,5,6,7]])) (e3.set (Uy) [bu a11 l9 c1,lE b4]))]))))) rfl h29 (fun _=>rfl) ?_;rintro⟨⟨a21,c5⟩,⟨a14,c3,e8⟩⟩ h30;refine U8 (nQ (k:=17) (j:=(1:Int).toNat) (c:=0) (e:=[bu a21 l17 c5,bu a14 l14 c3]) (e':=[cH b25,bu a14 l14 c3]) jA rfl rfl rfl h30 rfl)<|Wo.zn (r:=ai) (q:=18) (j:=(1:Int).toNat) (z:=([1,2,3,5],l14)) (g:=(((some ⟨b25,0,none⟩),4),(a14,c3,e8))) rfl (Lf.p (Lf.s (k:=3) rfl) (Lf.l (k:=1) (q:=2) rfl rfl rfl)) ?_;intro r26;refine ak ?_;refine UB (cD rfl z64 rfl (cE y7 rfl rfl rfl)) rfl<|UB (cD rfl z64 rfl (cE y7 rfl rfl rfl)) rfl<|UB (cD rfl z64 rfl (cE y7 rfl rfl rfl)) rfl<|UB (cD rfl z64 rfl (cE y7 rfl rfl rfl)) rfl<|UB (cD rfl z64 rfl (cE y7 rfl rfl rfl)) rfl<|UB (cD rfl z64 rfl (cE y7 rfl rfl rfl)) rfl<|UB (cD rfl z64 rfl (cE y7 rfl rfl rfl)) rfl<|UQ (cm (es:=([(0,1,0,-1),(0,5,-1,0),(1,2,1,-1),(1,4,0,1),(2,3,1,-1),(3,4,1,-1),(4,5,0,-1)]:List (Uk)).map (eP (eI .i64) (eP (eI .i64) (eP (eI .i64) (eI .i64))))) KW rfl (ck KW z64 rfl rfl) rfl rfl) gn rfl fun b42=>?_;obtain⟨r22,h31,hF⟩:=J hF;refine wc gn (fun m hm=>Ln h31 m (hm.rd (k:=28) rfl (.sl _ _ _ _)) (hm.q 0)) ?_;rintro⟨⟩;refine wz ?_;refine UD ?_;obtain⟨v0,h32,hF⟩:=J hF;refine ct (fun v0 (_:Unit)=>⟨.normal,[(1,ptr b1 0),(2,ptr b2 0),(4,aM r15),(5,aM r16),(6,aM r17),(10,.bool r22),(11,.bool v0)],(uY b1 a0 l6 a1 l5 e1 ai r0 (uY b2 a3 l10 a4 l7 e4 ai r1 []))⟩) v0 ?_ ?_;clear hF;revert v0;intro r hF;refine wz ?_;obtain⟨r27,h33,hF⟩:=J hF;refine wc gn (fun m hm=>sy h33 m (hm.rd (k:=21) rfl (.sl _ _ _ _)) (hm.rd (k:=22) rfl (.sl _ _ _ _)) (hm.dp (q:=23) rfl)) ?_;rintro⟨⟩;refine wz ?_;rcases U hF with⟨h5,hF⟩|⟨h5,hF⟩;refine wz ?_;obtain⟨r28,h34,hF⟩:=J hF;refine wc (gg rfl rfl (dC h5)) (fun m hm=>sy h34 m (hm.rd (k:=25) rfl (.sl _ _ _ _)) (hm.rd (k:=26) rfl (.sl _ _ _ _)) (hm.dp (q:=27) rfl)) ?_;rintro⟨⟩;refine wz ?_;rcases U hF with⟨h0,hF⟩|⟨h0,hF⟩;refine US (aC (k:=16) dA rfl rfl rfl) (gg rfl rfl (dC h0)) rfl ?_;obtain⟨r29,h35,hF⟩:=J hF;refine UR (UI (k:=30) rfl) ?_;have hFx:=hF;refine U6 (k:=30) (q:=31) (L:=(l1.set (Uy) (l4,[]))) rfl (.inl rfl) rfl ?_;generalize l1.length=nN;rintro rfl;replace hF:=hFx;clear hFx;refine wc (gg rfl rfl (dC h0)) (fun m hm=>sy h35 m (hm.rd (k:=29) rfl (.sl _ _ _ _)) (hm.rd (k:=30) rfl (.sl _ _ _ _)) (hm.dp (q:=31) rfl)) ?_;rintro⟨⟩;refine wz ?_;rcases U hF with⟨h1,hF⟩|⟨h1,hF⟩;refine US (aC (k:=15) dA rfl rfl rfl) (gg rfl rfl (dC h1)) rfl ?_;obtain⟨r30,h36,hF⟩:=J hF;refine UR (UI (k:=33) rfl) ?_;have hFx:=hF;refine U6 (k:=33) (q:=34) (L:=(l2.set (Uy) (l9,[[4,5,6,7]]))) rfl (.inl rfl) rfl ?_;generalize l2.length=nN;rintro rfl;replace hF:=hFx;clear hFx;refine wc (gg rfl rfl (dC h1)) (fun m hm=>sy h36 m (hm.rd (k:=32) rfl (.sl _ _ _ _)) (hm.rd (k:=33) rfl (.sl _ _ _ _)) (hm.dp (q:=34) rfl)) ?_;rintro⟨⟩;refine wz ?_;rcases U hF with⟨h2,hF⟩|⟨h2,hF⟩;refine US (aC (k:=14) dA rfl rfl rfl) (gg rfl rfl (dC h2)) rfl ?_;obtain⟨r31,h37,hF⟩:=J hF;refine UR (UI (k:=18) rfl) ?_;have hFx:=hF;refine U6 (k:=18) (q:=19) (L:=(l3.set ((1:Int).toNat) ([1,2,3,5],l14))) rfl (.inl rfl) rfl ?_;generalize l3.length=nN;rintro rfl;replace hF:=hFx;clear hFx;refine wc (gg rfl rfl (dC h2)) (fun m hm=>sy h37 m (hm.rd (k:=17) rfl (.sl _ _ _ _)) (hm.rd (k:=18) rfl (.sl _ _ _ _)) (hm.dp (q:=19) rfl)) ?_;rintro⟨⟩;refine wz ?_;obtain rfl:=R2 hF;exact ae () (Vd 20 8);refine wz ?_;cases hF;exact ae () (Vd 20 8);refine wz ?_;cases hF;exact ae () (Vd 20 8);refine wz ?_;cases hF;exact ae () (Vd 20 8);refine wz ?_;cases hF;exact ae () (Vd 20 8);rintro⟨⟩;refine ak ?_;rcases U hF with⟨h38,hF⟩|⟨h38,hF⟩;refine wz ?_;rcases U hF with⟨h39,hF⟩|⟨h39,hF⟩;refine wz ?_;rcases U hF with⟨h40,hF⟩|⟨h40,hF⟩;refine wz ?_;rcases U hF with⟨h41,hF⟩|⟨h41,hF⟩;refine wz ?_;rcases U hF with⟨h6,hF⟩|⟨h6,hF⟩;refine wz ?_;obtain⟨r32,h42,hF⟩:=J hF;refine wc (gg rfl rfl (dC h6)) (fun m hm=>Es h42 m (hm.rd (k:=1) rfl (.sl _ _ _ _)) (hm.rd (k:=2) rfl (.sl _ _ _ _)) (hm.dp (q:=3) rfl)) ?_;rintro⟨⟩;refine wz ?_;rcases U hF with⟨h7,hF⟩|⟨h7,hF⟩;refine wz ?_;obtain⟨r33,h43,hF⟩:=J hF;refine wc (gg rfl rfl (dC h7)) (fun m hm=>Es h43 m (hm.rd (k:=5) rfl (.sl _ _ _ _)) (hm.rd (k:=6) rfl (.sl _ _ _ _)) (hm.dp (q:=7) rfl)) ?_;rintro⟨⟩;refine wz ?_;rcases U hF with⟨h8,hF⟩|⟨h8,hF⟩;refine wz ?_;obtain⟨r34,h44,hF⟩:=J hF;refine wc (gg rfl rfl (dC h8)) (fun m hm=>wL h44 m (hm.rd (k:=5) rfl (.sl _ _ _ _)) (hm.rd (k:=6) rfl (.sl _ _ _ _)) (hm.dp (q:=7) rfl)) ?_;rintro⟨⟩;refine wz ?_;rcases U hF with⟨h9,hF⟩|⟨h9,hF⟩;refine wz ?_;obtain⟨r35,h45,hF⟩:=J hF;refine wc (gg rfl rfl (dC h9)) (fun m hm=>wL h45 m (hm.rd (k:=5) rfl (.sl _ _ _ _)) (hm.rd (k:=6) rfl (.sl _ _ _ _)) (hm.dp (q:=7) rfl)) ?_;rintro⟨⟩;refine wz ?_;rcases U hF with⟨h10,hF⟩|⟨h10,hF⟩;refine wz ?_;obtain⟨r36,h46,hF⟩:=J hF;refine wc (gg rfl rfl (dC h10)) (fun m hm=>wL h46 m (hm.rd (k:=5) rfl (.sl _ _ _ _)) (hm.rd (k:=6) rfl (.sl _ _ _ _)) (hm.dp (q:=7) rfl)) ?_;rintro⟨⟩;refine wz ?_;rcases U hF with⟨h11,hF⟩|⟨h11,hF⟩;refine wz ?_;obtain⟨r37,h47,hF⟩:=J hF;refine wc (gg rfl rfl (dC h11)) (fun m hm=>wL h47 m (hm.rd (k:=5) rfl (.sl _ _ _ _)) (hm.rd (k:=6) rfl (.sl _ _ _ _)) (hm.dp (q:=7) rfl)) ?_;rintro⟨⟩;refine ak ?_;obtain rfl:=R2 hF;exact ar () [];refine ak ?_;cases hF;exact ar () [];refine ak ?_;cases hF;exact ar () [];refine ak ?_;cases hF;exact ar () [];refine ak ?_;cases hF;exact ar () [];refine ak ?_;cases hF;exact ar () [];refine ak ?_;cases hF;exact ar () [];refine ak ?_;cases hF;exact ar () [];refine ak ?_;cases hF;exact ar () [];refine ak ?_;cases hF;exact ar () [];refine ak ?_;cases hF;exact ar () []
def OM (n x1 x2 l13 l14 x3 x4 x10 x11 x12 x13 x14 x15 x16 x17 x18 x19 x20 l1 l2 a12 c9 a13 c10 a17 c14 a18 c15) (r7:Ur) (e3:Un) (r) (hF:F6 n x1 x2 l13 l14 x3 x4 x10 x11 x12 x13 x14 x15 x16 x17 x18 x19 x20 l1 l2=some r) (m) (h9:AP m a12 c9 l13) (h10:AP m a13 c10 l14) (h11:dm m a17 c14 l1) (h12:ux m a18 c15 l2 e3) (h13:(bU HG r7 l2 e3).P m):
 aD (Vn (some lX) (some Ej)) 6 [Nn x1 x2 a12 l13 c9 a13 l14 c10 x3,Pu x4 x10 x11 x12 x13 x14 x15 x16 x17 x18 x19 x20,bu a17 l1 c14,bu a18 l2 c15] m (Vi m (.bool r)):=by
 unfold F6 at hF;refine cw Tryz.func6 (UZ (UN (UN (UN (UN (UJ m) bP h9) (bC bP) h10) (bC (bC bP)) h11) (bC (bC (bC bP))) h12) (bC (bC (bC (bC bP)))) h13) ?_;refine wz ?_;refine wb fun b2=>?_;refine wb fun b3=>?_;refine ak ?_;refine UB (eK rfl rfl (ff _ _)) rfl ?_;obtain⟨h14,hF⟩:=aA hF;refine UQ (si (k:=4) (lo:=0) (hi:=mi (l1.length:Int) (8:Int)) sB rfl rfl rfl rfl h14 (.inl ⟨rfl,rfl⟩) (.inr ⟨_,rfl⟩)) gn rfl ?_;rintro⟨a0,c0⟩;refine UB (cD rfl z26 rfl (cE xE rfl rfl rfl)) rfl<|wa z26 fun b1=>?_;refine ak ?_;refine UB (eK rfl rfl (ff _ _)) rfl ?_;obtain⟨h15,hF⟩:=aA hF;refine UQ (GD (r:=HG) (k:=5) (q:=4) (lo:=0) (hi:=mi (l2.length:Int) (4:Int)) Rk rfl rfl rfl rfl rfl h15 (.inl ⟨rfl,rfl⟩) (.inr ⟨_,rfl⟩)) gn rfl ?_;rintro⟨a19,c11⟩;refine wz ?_;refine UE ?_;obtain⟨l3,h5,hF⟩:=J hF;refine ct (fun l3 ((a1,e0,r0):Uo × Un × (Nat->Prop))=>⟨(.exit 0),(qX b2 b3 [(9,ptr b1 0)]),(p7 b2 x1 x2 a12 l13 c9 a13 l14 c10 x3 [JL b3 x4 x10 x11 x12 x13 x14 x15 x16 x17 x18 x19 x20,.obj b1 (.cells [.slice a0 ((Ve l1 8).length) c0,bO a1 l3] .own),.rd a0 c0 2 ((Ve l1 8).length) ((Ve l1 8).map (eP (eI .i64) (eI .i64))),jF a1 l3 e0,gr ai r0 l3 e0])⟩) l3 ?_ ?_;refine lw h5 ((none,[],(fun _=>False)):Uo × Un × (Nat->Prop)) (fun(l10,v1) ((a8,e4,r6):Uo × Un × (Nat->Prop))=>⟨.normal,(qX b2 b3 [(9,ptr b1 0),(35,.slice a19 ((Ve l2 4).length) c11),(36,.int .i64 ((Ve l2 4).length:Int)),(37,aM v1)]),(p7 b2 x1 x2 a12 l13 c9 a13 l14 c10 x3 [JL b3 x4 x10 x11 x12 x13 x14 x15 x16 x17 x18 x19 x20,.obj b1 (.cells [.slice a0 ((Ve l1 8).length) c0,bO a8 l10] .own),.rd a0 c0 2 ((Ve l1 8).length) ((Ve l1 8).map (eP (eI .i64) (eI .i64))),jF a8 l10 e4,gr ai r6 l10 e4,.rd a19 c11 1 ((Ve l2 4).length) ((e3.drop Uy).take ((mi (l2.length:Int) (4:Int):Int).toNat-Uy)),.gen (bU HG r7 (Ve l2 4) ((e3.drop Uy).take ((mi (l2.length:Int) (4:Int):Int).toNat-Uy)))])⟩) (UK (U9 2 rfl) (UK (aa.BU (r:=ai)) (UH [7,12,11,6,4,5,1,0,2,3] rfl rfl))) ?_;clear hF h5;rintro⟨l10,v1⟩ ⟨a8,e4,r6⟩ r hF;unfold CQ at hF;refine wz ?_;refine UD ?_;rcases U hF with⟨h16,hF⟩|⟨h16,hF⟩;refine ak ?_;obtain⟨h17,hF⟩:=bJ hF;refine UO (k:=8) rfl (ay h17) ?_;rintro b4 o1 rfl;refine wz ?_;obtain⟨l12,h18,hF⟩:=J hF;refine wl 1 0 10 0 h18 ?_;rintro⟨a23,c17⟩;refine ak ?_;refine wa z31 fun b6=>?_;refine ak ?_;refine UB (eK rfl rfl (ff _ _)) rfl ?_;obtain⟨h19,hF⟩:=aA hF;refine UQ (si (k:=1) (lo:=0) (hi:=mi (l12.length:Int) (8:Int)) Rh rfl rfl rfl rfl h19 (.inl ⟨rfl,rfl⟩) (.inr ⟨_,rfl⟩)) gn rfl ?_;rintro⟨a20,c16⟩;refine wz ?_;refine UE ?_;obtain⟨l11,h6,hF⟩:=J hF;refine ct (fun l11 (a9:Uo)=>⟨(.exit 2),(qX b2 b3 [(9,ptr b1 0),(12,ptr b6 0),(35,.slice (some ⟨b4,o1,none⟩) ((Ve l2 4).length) c11),(36,.int .i64 ((Ve l2 4).length:Int)),(37,aM v1)]),(p7 b2 x1 x2 a12 l13 c9 a13 l14 c10 x3 [JL b3 x4 x10 x11 x12 x13 x14 x15 x16 x17 x18 x19 x20,.obj b1 (.cells [.slice a0 ((Ve l1 8).length) c0,bO a8 l10] .own),.rd a0 c0 2 ((Ve l1 8).length) ((Ve l1 8).map (eP (eI .i64) (eI .i64))),jF a8 l10 e4,gr ai r6 l10 e4,De b6 a9 l11,tS a9 l11,.ro b4 o1 1 ((Ve l2 4).length) ((e3.drop Uy).take ((mi (l2.length:Int) (4:Int):Int).toNat-Uy)),.gen (bU HG r7 (Ve l2 4) ((e3.drop Uy).take ((mi (l2.length:Int) (4:Int):Int).toNat-Uy))),.rd (some ⟨b4,o1,none⟩) c11 1 ((Ve l2 4).length) ((e3.drop Uy).take ((mi (l2.length:Int) (4:Int):Int).toNat-Uy))])⟩) l11 ?_ ?_;refine lw h6 none (fun(l17,v4) a14=>⟨.normal,(qX b2 b3 [(9,ptr b1 0),(12,ptr b6 0),(35,.slice (some ⟨b4,o1,none⟩) ((Ve l2 4).length) c11),(36,.int .i64 ((Ve l2 4).length:Int)),(37,aM v1),(45,.slice a20 ((Ve l12 8).length) c16),(46,.int .i64 ((Ve l12 8).length:Int)),(47,aM v4)]),(p7 b2 x1 x2 a12 l13 c9 a13 l14 c10 x3 [JL b3 x4 x10 x11 x12 x13 x14 x15 x16 x17 x18 x19 x20,.obj b1 (.cells [.slice a0 ((Ve l1 8).length) c0,bO a8 l10] .own),.rd a0 c0 2 ((Ve l1 8).length) ((Ve l1 8).map (eP (eI .i64) (eI .i64))),jF a8 l10 e4,gr ai r6 l10 e4,De b6 a14 l17,tS a14 l17,.ro b4 o1 1 ((Ve l2 4).length) ((e3.drop Uy).take ((mi (l2.length:Int) (4:Int):Int).toNat-Uy)),.gen (bU HG r7 (Ve l2 4) ((e3.drop Uy).take ((mi (l2.length:Int) (4:Int):Int).toNat-Uy))),.rd (some ⟨b4,o1,none⟩) c11 1 ((Ve l2 4).length) ((e3.drop Uy).take ((mi (l2.length:Int) (4:Int):Int).toNat-Uy)),.rd a20 c16 1 ((Ve l12 8).length) ((Ve l12 8).map (eI .i8))])⟩) (UK (U9 1 rfl) (UH [5,6,7,8,9,10,11,12,2,0,4,14,13,1] rfl rfl)) ?_;clear hF h6;rintro⟨l17,v4⟩ a14 r hF;unfold CR at hF;refine wz ?_;refine UD ?_;rcases U hF with⟨h20,hF⟩|⟨h20,hF⟩;refine ak ?_;obtain⟨h21,hF⟩:=bJ hF;refine UO (k:=13) rfl (ay h21) ?_;rintro b7 o2 rfl;refine wz ?_;obtain⟨x21,h39,hF⟩:=J hF;refine ak ?_;refine UB (lB rfl (lA (by rw[Rv]; rfl) u3)) rfl<|UQ (cm (es:=([Ux x21]:List (Int)).map (eI .i64)) eZ rfl (ck eZ z3 rfl rfl) rfl rfl) gn rfl fun b8=>?_
 obtain⟨h22,hF⟩:=aA hF;refine UQ (nV (k:=11) (k2:=0) (xs:=(l17:List (Int))) (ys:=([Ux x21]:List (Int))) (oO .i64) eZ ⟨_,Ir⟩ rfl rfl rfl (.arr _ _ _ _ _) h22) gn rfl fun a21=>?_;refine ak ?_;cases hF;exact ae a21 (Vd 2 14);refine wz ?_;cases hF;exact ae a14 (Vd 0 13);rintro a9;refine wz ?_;refine UG<|UB (aL (r:=ptr b1 1) rfl (ja _ _)) rfl<|UB (aC (k:=4) q5 rfl rfl rfl) rfl<|UB (aC (k:=8) um rfl rfl rfl) rfl<|UR (UF (k:=9) rfl)<|UQ (cm (es:=[[bO a9 l11,.slice none 0 0]]) iI rfl (ck iI z31 rfl rfl) rfl rfl) gn rfl fun b9=>?_;refine Vc (r:=ai) (L:=([(l11,[])]:Uj)) (es:=[[bO a9 l11,.slice none 0 0]]) (gA.cons (r:=ai) (z:=(l11,[])) (g:=((a9,l11.length),(none,0,[]))) (Lf.p (Lf.s (k:=10) rfl) Lf.l0) gA.nil) ?_;intro r12;obtain⟨h23,hF⟩:=aA hF;refine UQ (s5 (r:=ai) (k:=8) (q:=9) (k2:=1) (q2:=0) (L:=l10) (L':=([(l11,[])]:Uj)) iI ⟨_,BY⟩ rfl rfl rfl rfl (.arr _ _ _ _ _) rfl rfl h23) gn rfl ?_;rintro⟨a22,r11⟩;refine ak ?_;cases hF;exact ae (a22,(e4++([[bO a9 l11,.slice none 0 0]]:Un)),r11) [2,3,4,5,6,7,8,9,14,13];refine wz ?_;cases hF;exact ae (a8,e4,r6) (Vd 0 8);rintro⟨a1,e0,r0⟩;refine ak ?_;obtain⟨⟨l7,l5,l8,l6,l9,l4⟩,h24,hF⟩:=J hF;refine UQ (CC (N:=(fun x:Uo × Nat × Nat × Uo × Nat × Nat × Un × (Nat->Prop) × Uo × Nat × Nat × Uo × Nat × Nat × Un × (Nat->Prop) × Uo × Nat × Nat × Uo × Nat × Nat × Un × (Nat->Prop)=>[.rd (x.1) (x.2.1) 2 (x.2.2.1) (l7.map (eP (eI .i64) (eI .i64))),.rd (x.2.2.2.1) (x.2.2.2.2.1) 2 (x.2.2.2.2.2.1) (x.2.2.2.2.2.2.1),.gen (bU ai (x.2.2.2.2.2.2.2.1) l5 (x.2.2.2.2.2.2.1)),.rd (x.2.2.2.2.2.2.2.2.1) (x.2.2.2.2.2.2.2.2.2.1) 2 (x.2.2.2.2.2.2.2.2.2.2.1) (l8.map (eP (eI .i64) (eI .i64))),.rd (x.2.2.2.2.2.2.2.2.2.2.2.1) (x.2.2.2.2.2.2.2.2.2.2.2.2.1) 2 (x.2.2.2.2.2.2.2.2.2.2.2.2.2.1) (x.2.2.2.2.2.2.2.2.2.2.2.2.2.2.1),.gen (bU ai (x.2.2.2.2.2.2.2.2.2.2.2.2.2.2.2.1) l6 (x.2.2.2.2.2.2.2.2.2.2.2.2.2.2.1)),.rd (x.2.2.2.2.2.2.2.2.2.2.2.2.2.2.2.2.1) (x.2.2.2.2.2.2.2.2.2.2.2.2.2.2.2.2.2.1) 2 (x.2.2.2.2.2.2.2.2.2.2.2.2.2.2.2.2.2.2.1) (l9.map (eP (eI .i64) (eI .i64))),.rd (x.2.2.2.2.2.2.2.2.2.2.2.2.2.2.2.2.2.2.2.1) (x.2.2.2.2.2.2.2.2.2.2.2.2.2.2.2.2.2.2.2.2.1) 2 (x.2.2.2.2.2.2.2.2.2.2.2.2.2.2.2.2.2.2.2.2.2.1) (x.2.2.2.2.2.2.2.2.2.2.2.2.2.2.2.2.2.2.2.2.2.2.1),.gen (bU ai (x.2.2.2.2.2.2.2.2.2.2.2.2.2.2.2.2.2.2.2.2.2.2.2) l4 (x.2.2.2.2.2.2.2.2.2.2.2.2.2.2.2.2.2.2.2.2.2.2.1))])) rfl rfl (fun m hm=>ML h24 m hm.cx (hm.q 1) (hm.no 1) (hm.q 2) (hm.no 2)) fun _=>rfl) gn rfl ?_;rintro⟨a2,c1,n0,a3,c2,n1,e5,r1,a4,c3,n2,a5,c4,n4,e6,r3,a6,c5,n5,a7,c6,n7,e1,r4⟩;refine Wo.AJ (k:=0) rfl ?_;rintro rfl;refine U6 (k:=1) (q:=2) (L:=l5) rfl (.inr (.inl ⟨_,rfl⟩)) rfl ?_;rintro rfl;refine Wo.AJ (k:=3) rfl ?_;rintro rfl;refine U6 (k:=4) (q:=5) (L:=l6) rfl (.inr (.inl ⟨_,rfl⟩)) rfl ?_;rintro rfl;refine Wo.AJ (k:=6) rfl ?_;rintro rfl;refine U6 (k:=7) (q:=8) (L:=l4) rfl (.inr (.inl ⟨_,rfl⟩)) rfl ?_;rintro rfl;refine wa z55 fun b10=>?_;refine ak ?_;refine UB (cD rfl Rl rfl (cE QY rfl rfl rfl)) rfl<|wa Rl fun b0=>?_;refine ak ?_;refine UE ?_;obtain⟨r9,h7,hF⟩:=J hF;refine ct (fun(r:(Unit) ⊕ (Unit)) (g:Unit)=>match r,g with | .inl _,_=>⟨.ret,[(8,.bool false)],[]⟩ | .inr _,_=>⟨(.exit 4),[],[]⟩) r9 ?_ ?_
 refine lw h7 () (fun v0 _=>⟨.normal,[(16,ptr b0 0),(77,.agg #[bu a2 l7 c1,bu a3 l5 c2,bu a4 l8 c3,bu a5 l6 c4,bu a6 l9 c5,bu a7 l4 c6,.slice a0 ((Ve l1 8).length) c0,bO a1 l3]),(78,aM v0)],(.obj b0 (.cells [bu a2 l7 c1,bu a3 l5 c2,bu a4 l8 c3,bu a5 l6 c4,bu a6 l9 c5,bu a7 l4 c6,.slice a0 ((Ve l1 8).length) c0,bO a1 l3] .own)::NQ a2 c1 l7 a3 c2 l5 e5 ai r1 a4 c3 l8 a5 c4 l6 e6 r3 [gw a6 c5 l9,jG a7 c6 l4 e1,gr ai r4 l4 e1,.rd a0 c0 2 ((Ve l1 8).length) ((Ve l1 8).map (eP (eI .i64) (eI .i64))),DX a1 l3 e0,gr ai r0 l3 e0])⟩) (UK (UF (k:=17) rfl) (UH [0,2,3,4,5,6,7,8,9,10,16,17,18] rfl rfl)) ?_;clear hF h7;rintro v0 ⟨⟩ r hF;unfold DZ at hF;refine wz ?_;refine UD ?_;rcases U hF with⟨h25,hF⟩|⟨h25,hF⟩;refine ak ?_;obtain⟨h26,hF⟩:=aA hF;obtain⟨⟨l16,l15⟩,h1,hF⟩:=J hF;refine UQ (Bz (α:=Uo × Nat × Uo × Nat × Un × (Nat->Prop)) (V:=fun g=>match g with | (a10,c7,a11,c8,e7,r5)=>.agg #[bu a10 l16 c7,bu a11 l15 c8]) (N:=fun g=>match g with | (a10,c7,a11,c8,e7,r5)=>[gw a10 c7 l16,jG a11 c8 l15 e7,gr ai r5 l15 e7]++(.obj b0 (.cells [bu a2 l7 c1,bu a3 l5 c2,bu a4 l8 c3,bu a5 l6 c4,bu a6 l9 c5,bu a7 l4 c6,.slice a0 ((Ve l1 8).length) c0,bO a1 l3] .own)::NQ a2 c1 l7 a3 c2 l5 e5 ai r1 a4 c3 l8 a5 c4 l6 e6 r3 [gw a6 c5 l9,jG a7 c6 l4 e1,gr ai r4 l4 e1,.rd a0 c0 2 ((Ve l1 8).length) ((Ve l1 8).map (eP (eI .i64) (eI .i64))),DX a1 l3 e0,gr ai r0 l3 e0])) rfl rfl (fun m hm=>?_)) gn rfl ?_
 have hj:=lG h26;obtain⟨j,h4⟩:∃j:Nat,(v0:Int)=j:=⟨_,(Tg hj.1).symm⟩;rw[h4] at h1 hj ⊢;rw[Ss] at h1 hj;replace hj:=hj.2;clear hF h4
 match j,hj,h1 with
 | 0,_,h1=>cases h1; exact⟨(a2,c1,a3,c2,e5,r1),pH vI (i:=0) (by decide) (iy dA rfl),(Va (Va (aa.qz (q:=3) rfl _ hm) (k:=3) rfl) (k:=3) rfl)⟩
 | 1,_,h1=>cases h1; exact⟨(a4,c3,a5,c4,e6,r3),pH vI (i:=1) (by decide) (iy dA rfl),(Va (Va (aa.qz (q:=6) rfl _ hm) (k:=6) rfl) (k:=6) rfl)⟩
 | 2,_,h1=>cases h1; exact⟨(a6,c5,a7,c6,e1,r4),pH vI (i:=2) (by decide) (iy dA rfl),(Va (Va (aa.qz (q:=9) rfl _ hm) (k:=9) rfl) (k:=9) rfl)⟩
 | 3,_,h1=>cases h1; exact⟨(a0,c0,a1,l3.length,e0,r0),pH vI (i:=3) (by decide) (iy dA rfl),(Va (Va (aa.qz (q:=12) rfl _ hm) (k:=12) rfl) (k:=12) rfl)⟩
 | _+4,hj,_=>exact Sl hj (by omega)
 rintro⟨a10,c7,a11,c8,e7,r5⟩;refine wa z26 fun b5=>?_;refine ak ?_;obtain⟨⟨r13,r14⟩,h27,hF⟩:=J hF;refine wc gn (fun m hm=>Ac h27 m (hm.q 1) (hm.q 2) (hm.dp (q:=3) rfl)) ?_;rintro⟨⟩;refine ak ?_;obtain⟨⟨r15,r16⟩,h28,hF⟩:=J hF;refine wc gn (fun m hm=>EC h28 m (hm.q 1) (hm.q 2) (hm.dp (q:=3) rfl)) ?_;rintro⟨⟩;refine wz ?_;refine UD<|UD ?_;obtain⟨v2,h29,hF⟩:=J hF;refine ct (fun v2 (_:Unit)=>⟨.normal,[(16,ptr b0 0),(18,ptr b5 0),(77,.agg #[bu a2 l7 c1,bu a3 l5 c2,bu a4 l8 c3,bu a5 l6 c4,bu a6 l9 c5,bu a7 l4 c6,.slice a0 ((Ve l1 8).length) c0,bO a1 l3]),(78,aM v0),(105,.bool v2)],(.obj b0 (.cells [bu a2 l7 c1,bu a3 l5 c2,bu a4 l8 c3,bu a5 l6 c4,bu a6 l9 c5,bu a7 l4 c6,.slice a0 ((Ve l1 8).length) c0,bO a1 l3] .own)::NQ a2 c1 l7 a3 c2 l5 e5 ai r1 a4 c3 l8 a5 c4 l6 e6 r3 (gw a6 c5 l9::jG a7 c6 l4 e1::gr ai r4 l4 e1::.rd a0 c0 2 ((Ve l1 8).length) ((Ve l1 8).map (eP (eI .i64) (eI .i64)))::DX a1 l3 e0::gr ai r0 l3 e0::cU b5 a10 l16 c7 a11 l15 c8 e7 ai r5 []))⟩) v2 ?_ ?_;clear hF;revert v2;intro r hF;refine UY (prs:=[(10,11)]) (by kernel_rfl)<|UC (aK rfl) rfl<|UC (aK rfl) rfl<|UC (aI rfl rfl (jQ _ _)) rfl<|UC (aK rfl) rfl ?_
 rcases U hF with⟨h3,hF⟩|⟨h3,hF⟩;refine UX (gg rfl rfl (ll h3)) rfl<|UX (gg rfl rfl (ll h3)) rfl<|UX (gg rfl rfl (ll h3)) rfl<|UC (qS rfl h3 rfl) rfl<|UC (aK rfl) rfl<|UX (gg rfl rfl rfl) rfl<|UX (gg rfl rfl rfl) rfl<|UX (gg rfl rfl rfl) rfl<|UX (gg rfl rfl rfl) rfl<|UX (gg rfl rfl rfl) rfl ?_;refine UC (DC rfl rfl) rfl<|UT (fun m hm=>cn.all rfl) ?_;cases hF;exact ae () [4,5,6,7,8,9,10,11,12,13,14,15,16,0,1,2,3];refine UU (aK rfl) (gg rfl rfl (hZ h3)) rfl<|UU (aK rfl) (gg rfl rfl (hZ h3)) rfl<|UU (aI rfl rfl (jQ _ _)) (gg rfl rfl (hZ h3)) rfl<|UC (qT rfl h3 rfl) rfl<|UC (aK rfl) rfl ?_;rcases U hF with⟨h0,hF⟩|⟨h0,hF⟩;refine UX (gg rfl rfl (ll h0)) rfl<|UX (gg rfl rfl (ll h0)) rfl<|UX (gg rfl rfl (ll h0)) rfl<|UX (gg rfl rfl (ll h0)) rfl<|UX (gg rfl rfl (ll h0)) rfl<|UC (qS rfl h0 rfl) rfl<|UT (fun m hm=>cn.all rfl) ?_;cases hF;exact ae () [4,5,6,7,8,9,10,11,12,13,14,15,16,0,1,2,3];refine UU (aC (k:=0) dA rfl rfl rfl) (gg rfl rfl (hZ h0)) rfl ?_;obtain⟨r17,h30,hF⟩:=J hF;refine nc (gg rfl rfl (hZ h0)) (fun m hm=>sj h30 m (hm.q 1) (hm.q 2) (hm.dp (q:=3) rfl)) ?_;rintro⟨⟩;refine UU (aC (k:=0) dA rfl rfl rfl) (gg rfl rfl (hZ h0)) rfl ?_;obtain⟨r18,h31,hF⟩:=J hF;refine nc (gg rfl rfl (hZ h0)) (fun m hm=>Mp h31 m (hm.q 1) (hm.q 2) (hm.dp (q:=3) rfl)) ?_;rintro⟨⟩;refine UU (aI rfl rfl (jQ _ _)) (gg rfl rfl (hZ h0)) rfl<|UC (qT rfl h0 rfl) rfl<|UT (fun m hm=>cn.all rfl) ?_;cases hF;exact ae () [4,5,6,7,8,9,10,11,12,13,14,15,16,0,1,2,3];rintro⟨⟩;refine UM ?_;rcases U hF with⟨h32,hF⟩|⟨h32,hF⟩;refine ak ?_;cases hF;exact ae () [];refine ak ?_;refine UE ?_;obtain⟨r10,h8,hF⟩:=J hF;refine ct (fun(r:(Unit) ⊕ (Unit)) (g:Unit)=>match r,g with | .inl _,_=>⟨.ret,[(8,.bool false)],[]⟩ | .inr _,_=>⟨(.exit 6),[(16,ptr b0 0),(77,.agg #[bu a2 l7 c1,bu a3 l5 c2,bu a4 l8 c3,bu a5 l6 c4,bu a6 l9 c5,bu a7 l4 c6,.slice a0 ((Ve l1 8).length) c0,bO a1 l3]),(78,aM v0)],(.obj b0 (.cells [bu a2 l7 c1,bu a3 l5 c2,bu a4 l8 c3,bu a5 l6 c4,bu a6 l9 c5,bu a7 l4 c6,.slice a0 ((Ve l1 8).length) c0,bO a1 l3] .own)::NQ a2 c1 l7 a3 c2 l5 e5 ai r1 a4 c3 l8 a5 c4 l6 e6 r3 [gw a6 c5 l9,jG a7 c6 l4 e1,gr ai r4 l4 e1,.rd a0 c0 2 ((Ve l1 8).length) ((Ve l1 8).map (eP (eI .i64) (eI .i64))),DX a1 l3 e0,gr ai r0 l3 e0])⟩) r10 ?_ ?_
 refine lo h8 () [0,1,2,3,4,5,6,7,8,9,10,11,12,13,14,15,16] (fun v3 _=>⟨.normal,[(16,ptr b0 0),(18,ptr b5 0),(77,.agg #[bu a2 l7 c1,bu a3 l5 c2,bu a4 l8 c3,bu a5 l6 c4,bu a6 l9 c5,bu a7 l4 c6,.slice a0 ((Ve l1 8).length) c0,bO a1 l3]),(78,aM v0),(106,.agg #[bu a2 l7 c1,bu a3 l5 c2,bu a4 l8 c3,bu a5 l6 c4,bu a6 l9 c5,bu a7 l4 c6,.slice a0 ((Ve l1 8).length) c0,bO a1 l3]),(107,aM v3)],(.obj b0 (.cells [bu a2 l7 c1,bu a3 l5 c2,bu a4 l8 c3,bu a5 l6 c4,bu a6 l9 c5,bu a7 l4 c6,.slice a0 ((Ve l1 8).length) c0,bO a1 l3] .own)::NQ a2 c1 l7 a3 c2 l5 e5 ai r1 a4 c3 l8 a5 c4 l6 e6 r3 (gw a6 c5 l9::jG a7 c6 l4 e1::gr ai r4 l4 e1::.rd a0 c0 2 ((Ve l1 8).length) ((Ve l1 8).map (eP (eI .i64) (eI .i64)))::DX a1 l3 e0::gr ai r0 l3 e0::cU b5 a10 l16 c7 a11 l15 c8 e7 ai r5 []))⟩) ?_;clear hF h8;rintro v3 ⟨⟩ r hF;unfold D1 at hF;refine wz ?_;refine UD ?_;rcases U hF with⟨h33,hF⟩|⟨h33,hF⟩;refine ak ?_;obtain⟨h34,hF⟩:=aA hF;obtain⟨⟨l19,l18⟩,h2,hF⟩:=J hF;refine UQ (Bz (α:=Uo × Nat × Uo × Nat × Un × (Nat->Prop)) (V:=fun g=>match g with | (a15,c12,a16,c13,e8,r8)=>.agg #[bu a15 l19 c12,bu a16 l18 c13]) (N:=fun g=>match g with | (a15,c12,a16,c13,e8,r8)=>[gw a15 c12 l19,jG a16 c13 l18 e8,gr ai r8 l18 e8]++(.obj b0 (.cells [bu a2 l7 c1,bu a3 l5 c2,bu a4 l8 c3,bu a5 l6 c4,bu a6 l9 c5,bu a7 l4 c6,.slice a0 ((Ve l1 8).length) c0,bO a1 l3] .own)::NQ a2 c1 l7 a3 c2 l5 e5 ai r1 a4 c3 l8 a5 c4 l6 e6 r3 (gw a6 c5 l9::jG a7 c6 l4 e1::gr ai r4 l4 e1::.rd a0 c0 2 ((Ve l1 8).length) ((Ve l1 8).map (eP (eI .i64) (eI .i64)))::DX a1 l3 e0::gr ai r0 l3 e0::cU b5 a10 l16 c7 a11 l15 c8 e7 ai r5 []))) rfl rfl (fun m hm=>?_)) gn rfl ?_
 have hj:=lG h34;obtain⟨j,h4⟩:∃j:Nat,(v3:Int)=j:=⟨_,(Tg hj.1).symm⟩;rw[h4] at h2 hj ⊢;rw[Ss] at h2 hj;replace hj:=hj.2;clear hF h4
 match j,hj,h2 with
 | 0,_,h2=>cases h2; exact⟨(a2,c1,a3,c2,e5,r1),pH vI (i:=0) (by decide) (iy dA rfl),(Va (Va (aa.qz (q:=3) rfl _ hm) (k:=3) rfl) (k:=3) rfl)⟩
 | 1,_,h2=>cases h2; exact⟨(a4,c3,a5,c4,e6,r3),pH vI (i:=1) (by decide) (iy dA rfl),(Va (Va (aa.qz (q:=6) rfl _ hm) (k:=6) rfl) (k:=6) rfl)⟩
 | 2,_,h2=>cases h2; exact⟨(a6,c5,a7,c6,e1,r4),pH vI (i:=2) (by decide) (iy dA rfl),(Va (Va (aa.qz (q:=9) rfl _ hm) (k:=9) rfl) (k:=9) rfl)⟩
 | 3,_,h2=>cases h2; exact⟨(a0,c0,a1,l3.length,e0,r0),pH vI (i:=3) (by decide) (iy dA rfl),(Va (Va (aa.qz (q:=12) rfl _ hm) (k:=12) rfl) (k:=12) rfl)⟩
 | _+4,hj,_=>exact Sl hj (by omega)
 rintro⟨a15,c12,a16,c13,e8,r8⟩;refine wa z26 fun b11=>?_;refine wz ?_;refine UD<|UY (prs:=[(2,3),(2,4)]) (by kernel_rfl)<|UC (aC (k:=17) dA rfl rfl rfl) rfl<|UC (aC (k:=0) dA rfl rfl rfl) rfl ?_
 obtain⟨r19,h35,hF⟩:=J hF;refine nc gn (fun m hm=>M1 h35 m (hm.q 18) (hm.q 19) (hm.dp (q:=20) rfl) (hm.q 1) (hm.q 2) (hm.dp (q:=3) rfl)) ?_;rintro⟨⟩;refine UC (aC (k:=17) dA rfl rfl rfl) rfl<|UC (aC (k:=0) dA rfl rfl rfl) rfl ?_;obtain⟨r20,h36,hF⟩:=J hF;refine nc gn (fun m hm=>Mz h36 m (hm.q 18) (hm.q 19) (hm.dp (q:=20) rfl) (hm.q 1) (hm.q 2) (hm.dp (q:=3) rfl)) ?_;rintro⟨⟩;refine UC (aI rfl rfl (Li u4)) rfl<|UT (fun m hm=>cn.all rfl)<|UM ?_;rcases U hF with⟨h37,hF⟩|⟨h37,hF⟩;refine ak ?_;cases hF;exact ae () [];refine ak ?_;cases hF;exact ae () (Vd 4 17);refine wz ?_;cases hF;exact ae () (Vd 0 13);rcases r10 with _|_;rintro⟨⟩;refine wz ?_;cases hF;exact ae () [];rintro⟨⟩;refine ak ?_;cases hF;exact ae () (Vd 0 13);refine wz ?_;cases hF;exact ae () [];rcases r9 with _|_;rintro⟨⟩;refine wz ?_;cases hF;exact ar () [];rintro⟨⟩;refine ak ?_;obtain⟨r21,h38,hF⟩:=J hF;refine wc gn (fun m hm=>OI h38 m) ?_;rintro⟨⟩;refine ak ?_;obtain rfl:=R2 hF;exact ar () []
end Go.Proofs.YtmndpgfbkicndaaGreat
end
section
namespace Jd
abbrev P2:=Rat × Rat
def tn (a b c:P2):Rat:=(b.1-a.1)*(c.2-a.2)-(b.2-a.2)*(c.1-a.1)
def af (α β γ:Rat) (x:P2):Rat:=α*x.1+β*x.2+γ
def Sep (a b p q:P2):Prop:=∃α β γ,0<af α β γ a/\0<af α β γ b/\af α β γ p<0/\af α β γ q<0
def Sep.ab {a b p q:P2} (h:Sep a b p q):Sep b a p q:=let ⟨α,β,γ,h1,h2,h3,h4⟩:=h; ⟨α,β,γ,h2,h1,h3,h4⟩
def Sep.pq {a b p q:P2} (h:Sep a b p q):Sep a b q p:=let ⟨α,β,γ,h1,h2,h3,h4⟩:=h; ⟨α,β,γ,h1,h2,h4,h3⟩
def cp {x y:Rat} (hx:0<=x) (hy:0<=y):0<=x*y:=Rat.mul_nonneg hx hy
def bB {x y:Rat} (hx:0<x) (hy:0<y):0<x*y:=Rat.mul_pos hx hy
def df {x y:Rat} (hx:0<=x) (hy:y<=0):x*y<=0:=by
 have:=cp hx (show(0:Rat)<=-y by grind)
 grind
def fL {x y:Rat} (hx:0<x) (hy:y<0):x*y<0:=by
 have:=bB hx (show(0:Rat) < -y by grind)
 grind
def gR (a b p:P2):tn b a p = -tn a b p:=by unfold tn; grind
def we (a b p:P2):Int:=if a.2<=p.2/\p.2<b.2/\0<tn a b p then 1 else if b.2<=p.2/\p.2<a.2/\tn a b p<0 then -1 else 0
def gz {a b p:P2} (h1:a.2<=p.2) (h2:p.2<b.2):we a b p=if 0<tn a b p then 1 else 0:=by
 unfold we
 by_cases h:0<tn a b p
 rw[R0 ⟨h1,h2,h⟩,R0 h]
 rw[RZ (fun e=>h e.2.2),RZ (fun e=>by grind),RZ h]
def ed {a b p:P2} (h1:¬(a.2<=p.2/\p.2<b.2)) (h2:¬(b.2<=p.2/\p.2<a.2)):we a b p=0:=by
 unfold we;rw[RZ (fun e=>h1 ⟨e.1,e.2.1⟩),RZ (fun e=>h2 ⟨e.1,e.2.1⟩)]
def iJ (a b p:P2):we b a p = -we a b p:=by
 have h:=gR a b p;unfold we
 by_cases h1:a.2<=p.2/\p.2<b.2/\0<tn a b p
 rw[R0 h1,RZ (fun e=>by grind),R0 ⟨h1.1,h1.2.1,by grind⟩]
 by_cases h2:b.2<=p.2/\p.2<a.2/\tn a b p<0
 rw[RZ h1,R0 h2,R0 ⟨h2.1,h2.2.1,by grind⟩]; rfl
 rw[RZ h1,RZ h2,RZ (fun e=>h2 ⟨e.1,e.2.1,by grind⟩),RZ (fun e=>h1 ⟨e.1,e.2.1,by grind⟩)]; rfl
def fz (p q v:P2):Int:=if p.2<v.2/\v.2<=q.2/\tn p q v<0 then 1 else 0
def jX {p q v:P2} (h:¬(p.2<v.2/\v.2<=q.2)):fz p q v=0:=RZ fun e=>h ⟨e.1,e.2.1⟩
def tp {p q v:P2} (h1:p.2<v.2) (h2:v.2<=q.2):fz p q v=if tn p q v<0 then 1 else 0:=by
 unfold fz
 by_cases h:tn p q v<0
 rw[R0 ⟨h1,h2,h⟩,R0 h]
 rw[RZ (fun e=>h e.2.2),RZ h]
section
variable {a b p q : P2}
def Md (α β γ:Rat):tn p q b*af α β γ a-tn p q a*af α β γ b=tn a b p*af α β γ q-tn a b q*af α β γ p:=by
 unfold tn af; grind
def GK (h:Sep a b p q) (h1:0<=tn p q b) (h2:tn p q a<=0) (h3:0<=tn a b p) (h4:tn a b q<=0) (h5:0<tn a b p\/tn a b q<0\/0<tn p q b\/tn p q a<0):False:=by
 obtain⟨α,β,γ,g1,g2,g3,g4⟩:=h;have e:=Md (a:=a) (b:=b) (p:=p) (q:=q) α β γ;generalize af α β γ a=A at *;generalize af α β γ b=B at *;generalize af α β γ p=C at *;generalize af α β γ q=D at *;generalize tn p q b=Tb at *;generalize tn p q a=Ta at *;generalize tn a b p=Up at *;generalize tn a b q=Uq at *;have k1:0<=Tb*A:=cp h1 (by grind)
 have k2:0<=(-Ta)*B:=cp (by grind) (by grind)
 have k3:0<=Up*(-D):=cp h3 (by grind)
 have k4:0<=(-Uq)*(-C):=cp (by grind) (by grind)
 rcases h5 with h|h|h|h
 have:0<Up*(-D):=bB h (by grind)
 grind
 have:0<(-Uq)*(-C):=bB (by grind) (by grind)
 grind
 have:0<Tb*A:=bB h g1
 grind
 have:0<(-Ta)*B:=bB (by grind) g2
 grind
def B7 (h:Sep a b p q) (h1:tn p q b<=0) (h2:0<=tn p q a) (h3:tn a b p<=0) (h4:0<=tn a b q) (h5:tn a b p<0\/0<tn a b q\/tn p q b<0\/0<tn p q a):False:=by
 have e1:=gR a b p;have e2:=gR a b q;exact GK h.ab (a:=b) (b:=a) h2 h1 (by grind) (by grind) (by grind)
def i1:(p.2-a.2)*tn p q b+(b.2-p.2)*tn p q a = -((q.2-p.2)*tn a b p):=by unfold tn; grind
def i2:(b.2-p.2)*tn a b q+(q.2-b.2)*tn a b p = -((b.2-a.2)*tn p q b):=by unfold tn; grind
def i3:(q.2-a.2)*tn p q b+(b.2-q.2)*tn p q a = -((q.2-p.2)*tn a b q):=by unfold tn; grind
def i4:(a.2-p.2)*tn a b q+(q.2-a.2)*tn a b p = -((b.2-a.2)*tn p q a):=by unfold tn; grind
def i5:tn a b q-tn a b p=tn p q a-tn p q b:=by unfold tn; grind
def Lo (h:Sep a b p q) (h1:a.2<=p.2) (h2:p.2<b.2) (h3:b.2<=q.2):0<tn a b p↔tn p q b<0:=by
 have e1:=i1 (a:=a) (b:=b) (p:=p) (q:=q);have e2:=i2 (a:=a) (b:=b) (p:=p) (q:=q);have K:=GK h;have K':=B7 h;clear h;generalize tn p q b=Tb at *;generalize tn p q a=Ta at *;generalize tn a b p=Up at *;generalize tn a b q=Uq at *;have d1:0<=p.2-a.2:=by grind
 have d2:0<b.2-p.2:=by grind
 have d3:0<q.2-p.2:=by grind
 have d4:0<=q.2-b.2:=by grind
 have d5:0<b.2-a.2:=by grind
 generalize p.2-a.2=x1 at *;generalize b.2-p.2=x2 at *;generalize q.2-p.2=x3 at *;generalize q.2-b.2=x4 at *;generalize b.2-a.2=x5 at *;constructor
 intro hu;refine R1 fun ht=>?_;have ht:0<=Tb:=by grind
 have m1:=cp d1 ht;have m2:=bB d3 hu;have ta:Ta<=0:=by
  refine R1 fun hc=>?_;have:=bB d2 (show 0<Ta by grind)
  grind
 have uq:Uq<=0:=by
  refine R1 fun hc=>?_;have m3:=bB d2 (show 0<Uq by grind)
  have m4:=cp d4 (show 0<=Up by grind)
  have m5:=cp (show 0<=x5 by grind) ht
  grind
 exact K ht ta (by grind) uq (.inl hu)
 intro ht;refine R1 fun hu=>?_;have hu:Up<=0:=by grind
 have m1:=df d1 (show Tb<=0 by grind)
 have m2:=df (show 0<=x3 by grind) hu
 have ta:0<=Ta:=by
  refine R1 fun hc=>?_;have:=fL d2 (show Ta<0 by grind)
  grind
 have uq:0<=Uq:=by
  refine R1 fun hc=>?_;have m3:=fL d2 (show Uq<0 by grind)
  have m4:=df d4 hu;have m5:=fL d5 ht
  grind
 exact K' (by grind) ta hu uq (.inr (.inr (.inl ht)))
def Mm (h:Sep a b p q) (h1:p.2<a.2) (h2:a.2<=q.2) (h3:q.2<b.2):0<tn a b q↔tn p q a<0:=by
 have e3:=i3 (a:=a) (b:=b) (p:=p) (q:=q);have e4:=i4 (a:=a) (b:=b) (p:=p) (q:=q);have K:=GK h;have K':=B7 h;clear h;generalize tn p q b=Tb at *;generalize tn p q a=Ta at *;generalize tn a b p=Up at *;generalize tn a b q=Uq at *;have d1:0<=q.2-a.2:=by grind
 have d2:0<b.2-q.2:=by grind
 have d3:0<q.2-p.2:=by grind
 have d4:0<a.2-p.2:=by grind
 have d5:0<b.2-a.2:=by grind
 generalize q.2-a.2=x1 at *;generalize b.2-q.2=x2 at *;generalize q.2-p.2=x3 at *;generalize a.2-p.2=x4 at *;generalize b.2-a.2=x5 at *;constructor
 intro hu;refine R1 fun ht=>?_;have ht:0<=Ta:=by grind
 have m1:=cp (show 0<=x2 by grind) ht
 have m2:=bB d3 hu;have tb:Tb<=0:=by
  refine R1 fun hc=>?_;have:=cp d1 (show 0<=Tb by grind)
  grind
 have up:Up<=0:=by
  refine R1 fun hc=>?_;have m3:=bB d4 hu;have m4:=cp d1 (show 0<=Up by grind)
  have m5:=cp (show 0<=x5 by grind) ht
  grind
 exact K' tb ht up (by grind) (.inr (.inl hu))
 intro ht;refine R1 fun hu=>?_;have hu:Uq<=0:=by grind
 have m2:=df (show 0<=x3 by grind) hu
 have m1:=fL d2 ht;have tb:0<=Tb:=by
  refine R1 fun hc=>?_;have:=df d1 (show Tb<=0 by grind)
  grind
 have up:0<=Up:=by
  refine R1 fun hc=>?_;have m3:=df (show 0<=x4 by grind) hu
  have m4:=df d1 (show Up<=0 by grind)
  have m5:=fL d5 ht
  grind
 exact K tb (by grind) up hu (.inr (.inr (.inr ht)))
def Oa (h:Sep a b p q) (h1:a.2<=p.2) (h2:p.2<=q.2) (h3:q.2<b.2):0<tn a b p↔0<tn a b q:=by
 have e1:=i1 (a:=a) (b:=b) (p:=p) (q:=q);have e3:=i3 (a:=a) (b:=b) (p:=p) (q:=q);have e5:=i5 (a:=a) (b:=b) (p:=p) (q:=q);have K:=GK h;have K':=B7 h;clear h;generalize tn p q b=Tb at *;generalize tn p q a=Ta at *;generalize tn a b p=Up at *;generalize tn a b q=Uq at *;have d1:0<=p.2-a.2:=by grind
 have d2:0<b.2-p.2:=by grind
 have d3:0<=q.2-p.2:=by grind
 have d4:0<=q.2-a.2:=by grind
 have d5:0<b.2-q.2:=by grind
 generalize p.2-a.2=x1 at *;generalize b.2-p.2=x2 at *;generalize q.2-p.2=x3 at *;generalize q.2-a.2=x4 at *;generalize b.2-q.2=x5 at *;constructor
 intro hu;refine R1 fun hc=>?_;have hc:Uq<=0:=by grind
 have ta:Ta<=0:=by
  refine R1 fun ht=>?_;have m1:=cp d1 (show 0<=Tb by grind)
  have m2:=bB d2 (show 0<Ta by grind)
  have m3:=cp d3 (show 0<=Up by grind)
  grind
 have tb:0<=Tb:=by
  refine R1 fun ht=>?_;have m1:=df d4 (show Tb<=0 by grind)
  have m2:=fL d5 (show Ta<0 by grind)
  have m3:=df d3 hc
  grind
 exact K tb ta (by grind) hc (.inl hu)
 intro hu;refine R1 fun hc=>?_;have hc:Up<=0:=by grind
 have ta:0<=Ta:=by
  refine R1 fun ht=>?_;have m1:=df d1 (show Tb<=0 by grind)
  have m2:=fL d2 (show Ta<0 by grind)
  have m3:=df d3 hc
  grind
 have tb:Tb<=0:=by
  refine R1 fun ht=>?_;have m1:=cp d4 (show 0<=Tb by grind)
  have m2:=bB d5 (show 0<Ta by grind)
  have m3:=cp d3 (show 0<=Uq by grind)
  grind
 exact K' tb ta hc (by grind) (.inr (.inl hu))
def IV (h:Sep a b p q) (h0:a.2<=b.2) (h1:p.2<a.2) (h2:b.2<=q.2):tn p q a<0↔tn p q b<0:=by
 have e2:=i2 (a:=a) (b:=b) (p:=p) (q:=q);have e4:=i4 (a:=a) (b:=b) (p:=p) (q:=q);have e5:=i5 (a:=a) (b:=b) (p:=p) (q:=q);have K:=GK h;have K':=B7 h;clear h;generalize tn p q b=Tb at *;generalize tn p q a=Ta at *;generalize tn a b p=Up at *;generalize tn a b q=Uq at *;have d1:0<b.2-p.2:=by grind
 have d2:0<=q.2-b.2:=by grind
 have d3:0<=b.2-a.2:=by grind
 have d4:0<a.2-p.2:=by grind
 have d5:0<=q.2-a.2:=by grind
 generalize b.2-p.2=x1 at *;generalize q.2-b.2=x2 at *;generalize b.2-a.2=x3 at *;generalize a.2-p.2=x4 at *;generalize q.2-a.2=x5 at *;constructor
 intro ha;refine R1 fun hb=>?_;have hb:0<=Tb:=by grind
 have uq:Uq<=0:=by
  refine R1 fun hc=>?_;have m1:=bB d1 (show 0<Uq by grind)
  have m2:=cp d2 (show 0<=Up by grind)
  have m3:=cp d3 hb
  grind
 have up:0<=Up:=by
  refine R1 fun hc=>?_;have m1:=fL d4 (show Uq<0 by grind)
  have m2:=df d5 (show Up<=0 by grind)
  have m3:=df d3 (show Ta<=0 by grind)
  grind
 exact K hb (by grind) up uq (.inr (.inr (.inr ha)))
 intro hb;refine R1 fun ha=>?_;have ha:0<=Ta:=by grind
 have uq:0<=Uq:=by
  refine R1 fun hc=>?_;have m1:=fL d1 (show Uq<0 by grind)
  have m2:=df d2 (show Up<=0 by grind)
  have m3:=df d3 (show Tb<=0 by grind)
  grind
 have up:Up<=0:=by
  refine R1 fun hc=>?_;have m1:=bB d4 (show 0<Uq by grind)
  have m2:=cp d5 (show 0<=Up by grind)
  have m3:=cp d3 ha
  grind
 exact K' (by grind) ha up uq (.inr (.inr (.inl hb)))
def jH {c d:Prop} [Decidable c] [Decidable d] (h:c↔d):(if c then(1:Int) else 0)=if d then 1 else 0:=by
 by_cases hc:c
 rw[R0 hc,R0 (h.1 hc)]
 rw[RZ hc,RZ (fun e=>hc (h.2 e))]
def GP (h:Sep a b p q) (hpq:p.2<=q.2) (hab:a.2<=b.2):we a b p-we a b q=fz p q b-fz p q a:=by
 by_cases ha:a.2<=p.2
 rw[jX (v:=a) (by grind)]
 by_cases hb:b.2<=p.2
 rw[jX (v:=b) (by grind),ed (by grind) (by grind),ed (by grind) (by grind)]
 by_cases hb2:b.2<=q.2
 rw[tp (by grind) hb2,gz ha (by grind),ed (p:=q) (by grind) (by grind),jH (Lo h ha (by grind) hb2)]
 rw[jX (v:=b) (by grind),gz ha (by grind),gz (p:=q) (by grind) (by grind),jH (Oa h ha hpq (by grind))]
 omega
 rw[ed (p:=p) (by grind) (by grind)]
 by_cases ha2:a.2<=q.2
 rw[tp (v:=a) (by grind) ha2]
 by_cases hb2:b.2<=q.2
 rw[tp (v:=b) (by grind) hb2,ed (p:=q) (by grind) (by grind),jH (IV h hab (by grind) hb2)]
 omega
 rw[jX (v:=b) (by grind),gz (p:=q) ha2 (by grind),jH (Mm h (by grind) ha2 (by grind))]
 rw[jX (v:=a) (by grind),jX (v:=b) (by grind),ed (p:=q) (by grind) (by grind)]
def Fi (h:Sep a b p q) (hpq:p.2<=q.2):we a b p-we a b q=fz p q b-fz p q a:=by
 by_cases hab:a.2<=b.2
 exact GP h hpq hab
 have:=GP h.ab hpq (by grind)
 rw[iJ b a p,iJ b a q];omega
end
def bE:Nat->(Nat->Int)->Int
 | 0,_=>0
 | n+1,f=>bE n f+f n
def aX {n:Nat} {f g:Nat->Int} (h:∀i,i<n->f i=g i):bE n f=bE n g:=by
 induction n with
 | zero=>rfl
 | succ n ih=>simp only[bE]; rw[ih fun i hi=>h i (by omega),h n (by omega)]
def kj (n:Nat) (f g:Nat->Int):bE n (fun i=>f i-g i)=bE n f-bE n g:=by
 induction n with
 | zero=>rfl
 | succ n ih=>simp only[bE]; rw[ih]; omega
def rI (n:Nat) (f:Nat->Int):bE n (fun i=>f (i+1)-f i)=f n-f 0:=by
 induction n with
 | zero=>simp[bE]
 | succ n ih=>simp only[bE]; rw[ih]; omega
def cA {n:Nat} {f:Nat->Int} (h:∀i,i<n->f i=0):bE n f=0:=by
 induction n with
 | zero=>rfl
 | succ n ih=>simp only[bE]; rw[ih fun i hi=>h i (by omega),h n (by omega)]; rfl
def px {n k:Nat} {f:Nat->Int} (hk:k<n) (h:∀i,i<n->i≠k->f i=0):bE n f=f k:=by
 induction n with
 | zero=>omega
 | succ n ih =>
  simp only[bE]
  by_cases e:k=n
  subst e;rw[cA fun i hi=>h i (by omega) (by omega)]; omega
  rw[ih (by omega) (fun i hi hn=>h i (by omega) hn),h n (by omega) (by omega)]; omega
def cv (u w:P2) (t:Rat):P2:=(u.1+t*(w.1-u.1),u.2+t*(w.2-u.2))
def sm (p d:P2) (x:Rat):P2:=(p.1+x*d.1,p.2+x*d.2)
def cr (u w d:P2):Rat:=(w.1-u.1)*d.2-(w.2-u.2)*d.1
def dt (u w x:P2):Rat:=(w.1-u.1)*(x.1-w.1)+(w.2-u.2)*(x.2-w.2)
def fu {A B:Rat} (ha:0<A) (hb:0<B):∃k:Rat,0<k/\k<A/\k<B:=by
 by_cases h:A<=B
 exact⟨A/2,by grind,by grind,by grind⟩
 exact⟨B/2,by grind,by grind,by grind⟩
def oJ {a b p q:P2} (α β γ:Rat) (h1:0<=af α β γ a) (h2:0<=af α β γ b) (h3:af α β γ p<0) (h4:af α β γ q<0):Sep a b p q:=by
 obtain⟨k,k1,k2,k3⟩:=fu (show 0 < -af α β γ p by grind) (show 0 < -af α β γ q by grind)
 refine⟨α,β,γ+k,?_,?_,?_,?_⟩<;>(unfold af at *; grind)
def J6 {a b u w:P2} (h:Sep a b u w) {t s:Rat} (t0:0<=t) (t1:t<=1) (s0:0<=s) (s1:s<=1):Sep a b (cv u w t) (cv u w s):=by
 obtain⟨α,β,γ,h1,h2,h3,h4⟩:=h;have key:∀t:Rat,0<=t->t<=1->af α β γ (cv u w t)<0:=by
  intro t t0 t1;have e:af α β γ (cv u w t)=(1-t)*af α β γ u+t*af α β γ w:=by unfold af cv; grind
  rw[e];have m1:=df (show 0<=1-t by grind) (show af α β γ u<=0 by grind)
  have m2:=df t0 (show af α β γ w<=0 by grind)
  by_cases ht:0<t
  have:=fL ht h4
  grind
  have:=fL (show 0<1-t by grind) h3
  grind
 exact⟨α,β,γ,h1,h2,key t t0 t1,key s s0 s1⟩
def sq_pos {x:Rat} (h:x≠0):0<x*x:=by
 by_cases hx:0<x
 exact bB hx hx
 have:=bB (show 0 < -x by grind) (show 0 < -x by grind)
 grind
def BL (x:Rat):0<=x*x:=by
 by_cases hx:0<=x
 exact cp hx hx
 have:=cp (show 0<=-x by grind) (show 0<=-x by grind)
 grind
def wS {u w:P2} (h:u≠w):0<(w.1-u.1)*(w.1-u.1)+(w.2-u.2)*(w.2-u.2):=by
 have n1:=BL (w.1-u.1);have n2:=BL (w.2-u.2)
 by_cases h1:w.1-u.1=0
 have h2:w.2-u.2≠0:=fun e=>h (SO (by grind) (by grind))
 have:=sq_pos h2
 grind
 have:=sq_pos h1
 grind
def Gq {u w x:P2} (hne:u≠w) (hc:tn u w x≠0\/0<dt u w x) {t s:Rat} (t1:t<1) (s1:s<1):Sep w x (cv u w t) (cv u w s):=by
 have e:∀t:Rat,af (-(x.2-w.2)) (x.1-w.1) ((x.2-w.2)*w.1-(x.1-w.1)*w.2) (cv u w t)=(1-t)*tn u w x:=fun t=>by unfold af cv tn; grind
 have f:∀t:Rat,af (x.2-w.2) (-(x.1-w.1)) (-((x.2-w.2)*w.1-(x.1-w.1)*w.2)) (cv u w t) = -((1-t)*tn u w x):=fun t=>by unfold af cv tn; grind
 have g:∀t:Rat,af (w.1-u.1) (w.2-u.2) (-((w.1-u.1)*w.1+(w.2-u.2)*w.2)) (cv u w t) = -((1-t)*((w.1-u.1)*(w.1-u.1)+(w.2-u.2)*(w.2-u.2))):=fun t=>by unfold af cv; grind
 by_cases h0:tn u w x=0
 have hd:0<dt u w x:=hc.resolve_left fun h=>h h0;have hl:=wS hne;refine oJ (w.1-u.1) (w.2-u.2) (-((w.1-u.1)*w.1+(w.2-u.2)*w.2)) ?_ ?_ ?_ ?_
 unfold af; grind
 unfold dt at hd; unfold af; grind
 rw[g]; have:=bB (show 0<1-t by grind) hl; grind
 rw[g]; have:=bB (show 0<1-s by grind) hl; grind
 by_cases hp:0<tn u w x
 refine oJ (x.2-w.2) (-(x.1-w.1)) (-((x.2-w.2)*w.1-(x.1-w.1)*w.2)) ?_ ?_ ?_ ?_
 unfold af; grind
 unfold af; grind
 rw[f]; have:=bB (show 0<1-t by grind) hp; grind
 rw[f]; have:=bB (show 0<1-s by grind) hp; grind
 have hm:tn u w x<0:=by grind
 refine oJ (-(x.2-w.2)) (x.1-w.1) ((x.2-w.2)*w.1-(x.1-w.1)*w.2) ?_ ?_ ?_ ?_
 unfold af; grind
 unfold af; grind
 rw[e]; exact fL (show 0<1-t by grind) hm
 rw[e]; exact fL (show 0<1-s by grind) hm
def GU {x u w:P2} (hc:tn x u w≠0\/0<dt x u w) {t s:Rat} (t0:0<t) (s0:0<s):Sep x u (cv u w t) (cv u w s):=by
 have e:∀t:Rat,af (-(u.2-x.2)) (u.1-x.1) ((u.2-x.2)*x.1-(u.1-x.1)*x.2) (cv u w t)=t*tn x u w:=fun t=>by unfold af cv tn; grind
 have f:∀t:Rat,af (u.2-x.2) (-(u.1-x.1)) (-((u.2-x.2)*x.1-(u.1-x.1)*x.2)) (cv u w t) = -(t*tn x u w):=fun t=>by unfold af cv tn; grind
 have g:∀t:Rat,af (-(u.1-x.1)) (-(u.2-x.2)) ((u.1-x.1)*u.1+(u.2-x.2)*u.2) (cv u w t) = -(t*dt x u w):=fun t=>by unfold af cv dt; grind
 by_cases h0:tn x u w=0
 have hd:0<dt x u w:=hc.resolve_left fun h=>h h0;have n1:=BL (u.1-x.1);have n2:=BL (u.2-x.2);refine oJ (-(u.1-x.1)) (-(u.2-x.2)) ((u.1-x.1)*u.1+(u.2-x.2)*u.2) ?_ ?_ ?_ ?_
 unfold af; grind
 unfold af; grind
 rw[g]; have:=bB t0 hd; grind
 rw[g]; have:=bB s0 hd; grind
 by_cases hp:0<tn x u w
 refine oJ (u.2-x.2) (-(u.1-x.1)) (-((u.2-x.2)*x.1-(u.1-x.1)*x.2)) ?_ ?_ ?_ ?_
 unfold af; grind
 unfold af; grind
 rw[f]; have:=bB t0 hp; grind
 rw[f]; have:=bB s0 hp; grind
 have hm:tn x u w<0:=by grind
 refine oJ (-(u.2-x.2)) (u.1-x.1) ((u.2-x.2)*x.1-(u.1-x.1)*x.2) ?_ ?_ ?_ ?_
 unfold af; grind
 unfold af; grind
 rw[e]; exact fL t0 hm
 rw[e]; exact fL s0 hm
def Ev (P:Rat->Rat->Prop):Prop:=∃e:Rat,0<e/\∀x y,0<x->x<=e->0<y->y<=e->P x y
def Ev.and {P Q:Rat->Rat->Prop} (h:Ev P) (g:Ev Q):Ev fun x y=>P x y/\Q x y:=by
 obtain⟨e,e0,h⟩:=h;obtain⟨f,f0,g⟩:=g
 by_cases hl:e<=f
 exact⟨e,e0,fun x y a b c d=>⟨h x y a b c d,g x y a (by grind) c (by grind)⟩⟩
 exact⟨f,f0,fun x y a b c d=>⟨h x y a (by grind) c (by grind),g x y a b c d⟩⟩
def Ev.mono {P Q:Rat->Rat->Prop} (h:Ev P) (g:∀x y,0<x->0<y->P x y->Q x y):Ev Q :=
 let ⟨e,e0,h⟩:=h
 ⟨e,e0,fun x y a b c d=>g x y a c (h x y a b c d)⟩
def Ev.of {P:Rat->Rat->Prop} (h:∀x y,0<x->0<y->P x y):Ev P:=⟨1,by grind,fun x y a _ c _=>h x y a c⟩
def Ev.all {P:Nat->Rat->Rat->Prop}:∀{n:Nat},(∀i,i<n->Ev (P i))->Ev fun x y=>∀i,i<n->P i x y
 | 0,_=>Ev.of fun _ _ _ _ i hi=>by omega
 | n+1,h=>by
  have h1:=Ev.all (P:=P) (n:=n) fun i hi=>h i (by omega)
  refine(h1.and (h n (by omega))).mono fun x y _ _ g i hi=>?_
  by_cases e:i=n
  subst e; exact g.2
  exact g.1 i (by omega)
def qj {A:Rat} (h:A<0) (B:Rat):∃e:Rat,0<e/\∀x,0<x->x<=e->A+x*B<0:=by
 by_cases hb:B<=0
 exact⟨1,by grind,fun x hx _=>by have:=df (show 0<=x by grind) hb; grind⟩
 have hb0:B≠0:=by grind
 have hi:B*B⁻¹=1:=Rat.mul_inv_cancel B hb0;have e1:(-A/2*B⁻¹)*B = -A/2:=by grind
 have hpos:0 < -A/2*B⁻¹:=by
  refine R1 fun hc=>?_;have:=cp (show 0<=-(-A/2*B⁻¹) by grind) (show 0<=B by grind)
  grind
 refine⟨-A/2*B⁻¹,hpos,fun x hx hl=>?_⟩;have:=cp (show 0<=-A/2*B⁻¹-x by grind) (show 0<=B by grind)
 grind
def wF {a b p q:P2} (h:Sep a b p q) (d d':P2):Ev fun x y=>Sep a b (sm p d x) (sm q d' y):=by
 obtain⟨α,β,γ,h1,h2,h3,h4⟩:=h;obtain⟨e,e0,he⟩:=qj h3 (α*d.1+β*d.2);obtain⟨f,f0,hf⟩:=qj h4 (α*d'.1+β*d'.2);have k1:∀x,af α β γ (sm p d x)=af α β γ p+x*(α*d.1+β*d.2):=fun x=>by unfold af sm; grind
 have k2:∀x,af α β γ (sm q d' x)=af α β γ q+x*(α*d'.1+β*d'.2):=fun x=>by unfold af sm; grind
 obtain⟨g,g0,ge,gf⟩:=fu e0 f0;exact⟨g,g0,fun x y x0 xg y0 yg=>⟨α,β,γ,h1,h2,by rw[k1]; exact he x x0 (by grind),by rw[k2]; exact hf y y0 (by grind)⟩⟩
structure Simple (n:Nat) (v:Nat->P2):Prop where
 n3:2<n
 cl:v n=v 0
 cl1:v (n+1)=v 1
 ne:∀i,i<n->v i≠v (i+1)
 az:∀i,i<n->tn (v i) (v (i+1)) (v (i+2))≠0\/0<dt (v i) (v (i+1)) (v (i+2))
 sep:∀i j,i<n->j<n->i≠j->j≠i+1->i≠j+1->¬(i=0/\j+1=n)->¬(j=0/\i+1=n)->Sep (v i) (v (i+1)) (v j) (v (j+1))
def W (n:Nat) (v:Nat->P2) (p:P2):Int:=bE n fun i=>we (v i) (v (i+1)) p
section
variable {n : Nat} {v : Nat -> P2}
def Bp (hv:v n=v 0) (p q:P2):W n v p-W n v q=bE n fun i=>(we (v i) (v (i+1)) p-we (v i) (v (i+1)) q)-(fz p q (v (i+1))-fz p q (v i)):=by
 have h1:=kj n (fun i=>we (v i) (v (i+1)) p-we (v i) (v (i+1)) q) (fun i=>fz p q (v (i+1))-fz p q (v i));have h2:=rI n fun i=>fz p q (v i);have h3:=kj n (fun i=>we (v i) (v (i+1)) p) fun i=>we (v i) (v (i+1)) q;rw[hv] at h2;rw[h1,h2,h3];unfold W; omega
def Bm (hv:v n=v 0) {p q:P2} (h:∀i,i<n->Sep (v i) (v (i+1)) p q):W n v p=W n v q:=by
 by_cases hl:p.2<=q.2
 have:=Bp hv p q;rw[cA fun i hi=>by rw[Fi (h i hi) hl]; omega] at this
 omega
 have:=Bp hv q p;rw[cA fun i hi=>by rw[Fi (h i hi).pq (by grind)]; omega] at this
 omega
def BR (hv:v n=v 0) {k:Nat} (hk:k<n) {p q:P2} (hl:p.2<=q.2) (h:∀i,i<n->i≠k->Sep (v i) (v (i+1)) p q) :
  W n v p-W n v q=(we (v k) (v (k+1)) p-we (v k) (v (k+1)) q)-(fz p q (v (k+1))-fz p q (v k)):=by
 rw[Bp hv p q];exact px hk fun i hi hn=>by rw[Fi (h i hi hn) hl]; omega
def Simple.off (S:Simple n v) {i j:Nat} (hi:i<n) (hj:j<n) (hij:i≠j) {t s:Rat} (t0:0<=t) (t1:t<=1) (s0:0<=s) (s1:s<=1)
  (hn:j=i+1\/(i+1=n/\j=0)->t<1/\s<1) (hp:i=j+1\/(j+1=n/\i=0)->0<t/\0<s):Sep (v j) (v (j+1)) (cv (v i) (v (i+1)) t) (cv (v i) (v (i+1)) s):=by
 have hn3:=S.n3
 by_cases h1:j=i+1\/(i+1=n/\j=0)
 obtain⟨a,b⟩:=hn h1;have e:v j=v (i+1)/\v (j+1)=v (i+2):=by
  rcases h1 with rfl|⟨h,rfl⟩
  exact⟨rfl,rfl⟩
  have:i+2=n+1:=by omega
  rw[this,S.cl1,h,S.cl]; exact⟨rfl,rfl⟩
 rw[e.1,e.2];exact Gq (S.ne i hi) (S.az i hi) a b
 by_cases h2:i=j+1\/(j+1=n/\i=0)
 obtain⟨a,b⟩:=hp h2;have e:v (j+1)=v i/\v (j+2)=v (i+1):=by
  rcases h2 with rfl|⟨h,rfl⟩
  exact⟨rfl,rfl⟩
  have:j+2=n+1:=by omega
  rw[this,S.cl1,h,S.cl]; exact⟨rfl,rfl⟩
 have:=S.az j hj;rw[e.1,e.2] at this;rw[e.1];exact GU this a b
 exact J6 (S.sep j i hj hi (by omega) (by omega) (by omega) (by omega) (by omega)) t0 t1 s0 s1
def nL (u w d:P2) (t x:Rat):tn u w (sm (cv u w t) d x)=x*cr u w d:=by unfold tn sm cv cr; grind
def ga {u w p q:P2} {σ:Rat} (h1:0 < σ*tn u w p) (h2:0 < σ*tn u w q):Sep u w p q:=by
 refine oJ (σ*(w.2-u.2)) (-(σ*(w.1-u.1))) (-(σ*((w.2-u.2)*u.1-(w.1-u.1)*u.2))) ?_ ?_ ?_ ?_
 unfold af; grind
 unfold af; grind
 unfold tn at h1; unfold af; grind
 unfold tn at h2; unfold af; grind
def Simple.beside (S:Simple n v) {σ:Rat} {i:Nat} (hi:i<n) {t s:Rat} (t0:0<t) (t1:t<1) (s0:0<s) (s1:s<1) {d d':P2} (h:0 < σ*cr (v i) (v (i+1)) d) (h':0 < σ*cr (v i) (v (i+1)) d') :
  Ev fun x y=>W n v (sm (cv (v i) (v (i+1)) t) d x)=W n v (sm (cv (v i) (v (i+1)) s) d' y):=by
 have hE:Ev fun x y=>∀j,j<n->Sep (v j) (v (j+1)) (sm (cv (v i) (v (i+1)) t) d x) (sm (cv (v i) (v (i+1)) s) d' y):=by
  refine Ev.all fun j hj=>?_
  by_cases e:i=j
  subst e;refine Ev.of fun x y hx hy=>ga (σ:=σ) ?_ ?_
  rw[nL]; have:=bB hx h; grind
  rw[nL]; have:=bB hy h'; grind
  exact wF (S.off hi hj e (by grind) (by grind) (by grind) (by grind) (fun _=>⟨t1,s1⟩) (fun _=>⟨t0,s0⟩)) d d'
 exact hE.mono fun x y _ _ h=>Bm S.cl h
def HS (n:Nat) (v:Nat->P2) (σ:Rat) (i:Nat) (L:Int):Prop:=∀t d,0<t->t<1->0 < σ*cr (v i) (v (i+1)) d->∃e:Rat,0<e/\∀x,0<x->x<=e->W n v (sm (cv (v i) (v (i+1)) t) d x)=L
def Simple.hs (S:Simple n v) {σ:Rat} (hσ:σ≠0) {i:Nat} (hi:i<n):∃L,HS n v σ i L:=by
 have hl:=wS (S.ne i hi)
 let d0:P2:=(-(σ*((v (i+1)).2-(v i).2)),σ*((v (i+1)).1-(v i).1))
 have h0:0 < σ*cr (v i) (v (i+1)) d0:=by
  have:=bB (sq_pos hσ) hl;have e:σ*cr (v i) (v (i+1)) d0=σ*σ*(((v (i+1)).1-(v i).1)*((v (i+1)).1-(v i).1)+((v (i+1)).2-(v i).2)*((v (i+1)).2-(v i).2)):=by
   show σ*(((v (i+1)).1-(v i).1)*(σ*((v (i+1)).1-(v i).1))-((v (i+1)).2-(v i).2)*(-(σ*((v (i+1)).2-(v i).2))))=_
   grind
  rw[e]; exact this
 obtain⟨e,e0,he⟩:=S.beside (σ:=σ) hi (t:=1/2) (s:=1/2) (by grind) (by grind) (by grind) (by grind) h0 h0
 refine⟨W n v (sm (cv (v i) (v (i+1)) (1/2)) d0 e),fun t d t0 t1 hd=>?_⟩;obtain⟨f,f0,hf⟩:=S.beside (σ:=σ) hi (t:=t) (s:=1/2) t0 t1 (by grind) (by grind) hd h0
 obtain⟨g,g0,ge,gf⟩:=fu e0 f0;refine⟨f,f0,fun x x0 x1=>?_⟩;rw[hf x g x0 x1 g0 (by grind),he g e g0 (by grind) e0 (by grind)]
def Simple.FV (S:Simple n v) {i:Nat} (hi:i<n) {L R:Int} (hL:HS n v 1 i L) (hR:HS n v (-1) i R):L=R+1:=by
 have hne:=S.ne i hi;have eoff:∀d d':P2,Ev fun x y=>∀j,j<n->j≠i->Sep (v j) (v (j+1)) (sm (cv (v i) (v (i+1)) (1/2)) d x) (sm (cv (v i) (v (i+1)) (1/2)) d' y):=fun d d' =>
  Ev.all (P:=fun j x y=>j≠i->Sep (v j) (v (j+1)) (sm (cv (v i) (v (i+1)) (1/2)) d x) (sm (cv (v i) (v (i+1)) (1/2)) d' y)) fun j hj=>by
   by_cases e:j=i
   exact Ev.of fun _ _ _ _ h=>Sl e h
   exact(wF (S.off hi hj (Ne.symm e) (t:=1/2) (s:=1/2) (by grind) (by grind) (by grind) (by grind) (fun _=>⟨by grind,by grind⟩) (fun _=>⟨by grind,by grind⟩)) d d').mono fun x y _ _ h _=>h
 have pick:∀d d':P2,0<cr (v i) (v (i+1)) d->0 < -cr (v i) (v (i+1)) d'->∃x:Rat,0<x/\W n v (sm (cv (v i) (v (i+1)) (1/2)) d x)=L/\W n v (sm (cv (v i) (v (i+1)) (1/2)) d' x)=R /\
   (∀j,j<n->j≠i->Sep (v j) (v (j+1)) (sm (cv (v i) (v (i+1)) (1/2)) d x) (sm (cv (v i) (v (i+1)) (1/2)) d' x))/\∀B:Rat,B<0->True:=by
  intro d d' hd hd';obtain⟨e,e0,he⟩:=hL (1/2) d (by grind) (by grind) (by grind)
  obtain⟨f,f0,hf⟩:=hR (1/2) d' (by grind) (by grind) (by grind)
  obtain⟨g,g0,hg⟩:=eoff d d';obtain⟨k,k0,ke,kf⟩:=fu e0 f0;obtain⟨m,m0,mk,mg⟩:=fu k0 g0;exact⟨m,m0,he m m0 (by grind),hf m m0 (by grind),hg m m m0 (by grind) m0 (by grind),fun _ _=>trivial⟩
 generalize hu:v i=u at *;generalize hw:v (i+1)=w at *
 by_cases h0:w.2=u.2
 
 have h1:w.1≠u.1:=fun e=>hne (SO e.symm h0.symm)
 by_cases hp:u.1<w.1
 obtain⟨x,x0,xL,xR,xs,_⟩:=pick (0,1) (0,-1) (by unfold cr; grind) (by unfold cr; grind)
 have k:=BR S.cl hi (p:=sm (cv u w (1/2)) (0,-1) x) (q:=sm (cv u w (1/2)) (0,1) x) (by unfold sm; grind) fun j hj hn=>(xs j hj hn).pq
 rw[hu,hw,ed (by unfold sm cv; grind) (by unfold sm cv; grind),ed (by unfold sm cv; grind) (by unfold sm cv; grind),tp (v:=w) (by unfold sm cv; grind) (by unfold sm cv; grind),tp (v:=u) (by unfold sm cv; grind) (by unfold sm cv; grind)] at k
 have t1:tn (sm (cv u w (1/2)) (0,-1) x) (sm (cv u w (1/2)) (0,1) x) w = -(x*(w.1-u.1)):=by unfold tn sm cv; grind
 have t2:tn (sm (cv u w (1/2)) (0,-1) x) (sm (cv u w (1/2)) (0,1) x) u=x*(w.1-u.1):=by unfold tn sm cv; grind
 have m:=bB x0 (show 0<w.1-u.1 by grind)
 rw[t1,t2,R0 (by grind),RZ (by grind),xL,xR] at k
 omega
 obtain⟨x,x0,xL,xR,xs,_⟩:=pick (0,-1) (0,1) (by unfold cr; grind) (by unfold cr; grind)
 have k:=BR S.cl hi (p:=sm (cv u w (1/2)) (0,-1) x) (q:=sm (cv u w (1/2)) (0,1) x) (by unfold sm; grind) fun j hj hn=>xs j hj hn
 rw[hu,hw,ed (by unfold sm cv; grind) (by unfold sm cv; grind),ed (by unfold sm cv; grind) (by unfold sm cv; grind),tp (v:=w) (by unfold sm cv; grind) (by unfold sm cv; grind),tp (v:=u) (by unfold sm cv; grind) (by unfold sm cv; grind)] at k
 have t1:tn (sm (cv u w (1/2)) (0,-1) x) (sm (cv u w (1/2)) (0,1) x) w=x*(u.1-w.1):=by unfold tn sm cv; grind
 have t2:tn (sm (cv u w (1/2)) (0,-1) x) (sm (cv u w (1/2)) (0,1) x) u = -(x*(u.1-w.1)):=by unfold tn sm cv; grind
 have m:=bB x0 (show 0<u.1-w.1 by grind)
 rw[t1,t2,RZ (by grind),R0 (by grind),xL,xR] at k
 omega
 by_cases hp:u.2<w.2
 obtain⟨x,x0,xL,xR,xs,_⟩:=pick (-1,0) (1,0) (by unfold cr; grind) (by unfold cr; grind)
 have k:=BR S.cl hi (p:=sm (cv u w (1/2)) (-1,0) x) (q:=sm (cv u w (1/2)) (1,0) x) (by unfold sm; grind) fun j hj hn=>xs j hj hn
 rw[jX (by unfold sm; grind),jX (by unfold sm; grind),hu,hw,gz (by unfold sm cv; grind) (by unfold sm cv; grind),gz (by unfold sm cv; grind) (by unfold sm cv; grind),nL,nL] at k
 have m:=bB x0 (show 0<w.2-u.2 by grind)
 rw[R0 (by unfold cr; grind),RZ (by unfold cr; grind),xL,xR] at k
 omega
 obtain⟨x,x0,xL,xR,xs,_⟩:=pick (1,0) (-1,0) (by unfold cr; grind) (by unfold cr; grind)
 have k:=BR S.cl hi (p:=sm (cv u w (1/2)) (-1,0) x) (q:=sm (cv u w (1/2)) (1,0) x) (by unfold sm; grind) fun j hj hn=>(xs j hj hn).pq
 have e1:=iJ w u (sm (cv u w (1/2)) (-1,0) x);have e2:=iJ w u (sm (cv u w (1/2)) (1,0) x);rw[gz (a:=w) (b:=u) (by unfold sm cv; grind) (by unfold sm cv; grind),gR u w,nL] at e1
 rw[gz (a:=w) (b:=u) (by unfold sm cv; grind) (by unfold sm cv; grind),gR u w,nL] at e2
 have m:=bB x0 (show 0<u.2-w.2 by grind)
 rw[R0 (by unfold cr; grind)] at e1
 rw[RZ (by unfold cr; grind)] at e2
 rw[jX (by unfold sm; grind),jX (by unfold sm; grind),hu,hw,e1,e2,xL,xR] at k
 omega
def Simple.AM (S:Simple n v) {σ:Rat} {i:Nat} (hi:i+1<n) {d:P2} (hd:0 < σ*cr (v i) (v (i+1)) d) (hd':0 < σ*cr (v (i+1)) (v (i+2)) d) (hs:0<=σ*tn (v i) (v (i+1)) (v (i+2)))
  {L L':Int} (h:HS n v σ i L) (h':HS n v σ (i+1) L'):L=L':=by
 have hn3:=S.n3;have e1:Ev fun x y=>∀j,j<n->Sep (v j) (v (j+1)) (sm (cv (v i) (v (i+1)) (1/2)) d x) (sm (cv (v i) (v (i+1)) 1) d y):=by
  refine Ev.all fun j hj=>?_
  by_cases e:i=j
  subst e;refine Ev.of fun x y hx hy=>ga (σ:=σ) ?_ ?_
  rw[nL]; have:=bB hx hd; grind
  rw[nL]; have:=bB hy hd; grind
  by_cases e':j=i+1
  subst e';refine Ev.of fun x y hx hy=>ga (σ:=σ) ?_ ?_
  have m1:=bB hx hd';have:σ*tn (v (i+1)) (v (i+1+1)) (sm (cv (v i) (v (i+1)) (1/2)) d x)=1/2*(σ*tn (v i) (v (i+1)) (v (i+2)))+x*(σ*cr (v (i+1)) (v (i+2)) d):=by
   unfold tn sm cv cr; grind
  rw[this]; grind
  have m1:=bB hy hd';have:σ*tn (v (i+1)) (v (i+1+1)) (sm (cv (v i) (v (i+1)) 1) d y)=y*(σ*cr (v (i+1)) (v (i+2)) d):=by
   unfold tn sm cv cr; grind
  rw[this]; exact m1
  exact wF (S.off (by omega) hj e (by grind) (by grind) (by grind) (by grind) (fun h=>by omega) (fun _=>⟨by grind,by grind⟩)) d d
 have e2:Ev fun x y=>∀j,j<n->Sep (v j) (v (j+1)) (sm (cv (v (i+1)) (v (i+2)) (1/2)) d x) (sm (cv (v (i+1)) (v (i+2)) 0) d y):=by
  refine Ev.all fun j hj=>?_
  by_cases e:j=i+1
  subst e;refine Ev.of fun x y hx hy=>ga (σ:=σ) ?_ ?_
  rw[nL]; have:=bB hx hd'; grind
  rw[nL]; have:=bB hy hd'; grind
  by_cases e':j=i
  subst e';refine Ev.of fun x y hx hy=>ga (σ:=σ) ?_ ?_
  have m1:=bB hx hd;have:σ*tn (v j) (v (j+1)) (sm (cv (v (j+1)) (v (j+2)) (1/2)) d x)=1/2*(σ*tn (v j) (v (j+1)) (v (j+2)))+x*(σ*cr (v j) (v (j+1)) d):=by
   unfold tn sm cv cr; grind
  rw[this]; grind
  have m1:=bB hy hd;have:σ*tn (v j) (v (j+1)) (sm (cv (v (j+1)) (v (j+2)) 0) d y)=y*(σ*cr (v j) (v (j+1)) d):=by
   unfold tn sm cv cr; grind
  rw[this]; exact m1
  exact wF (S.off (i:=i+1) hi hj (Ne.symm e) (by grind) (by grind) (by grind) (by grind) (fun _=>⟨by grind,by grind⟩) (fun h=>by omega)) d d
 obtain⟨a,a0,ha⟩:=e1;obtain⟨b,b0,hb⟩:=e2;obtain⟨f,f0,hf⟩:=h (1/2) d (by grind) (by grind) hd
 obtain⟨g,g0,hg⟩:=h' (1/2) d (by grind) (by grind) hd'
 obtain⟨k,k0,ka,kb⟩:=fu a0 b0;obtain⟨l,l0,lf,lg⟩:=fu f0 g0;obtain⟨x,x0,xk,xl⟩:=fu k0 l0;have w1:=Bm S.cl (ha x x x0 (by grind) x0 (by grind))
 have w2:=Bm S.cl (hb x x x0 (by grind) x0 (by grind))
 rw[hf x x0 (by grind)] at w1
 rw[hg x x0 (by grind)] at w2
 have e:cv (v i) (v (i+1)) 1=cv (v (i+1)) (v (i+2)) 0:=by unfold cv; exact SO (by grind) (by grind)
 rw[w1,w2,e]
def Simple.step (S:Simple n v) {i:Nat} (hi:i+1<n) {L L':Int} (h:HS n v 1 i L) (h':HS n v 1 (i+1) L'):L=L':=by
 have hne:=S.ne i (by omega)
 have ht:=S.az i (by omega)
 have c1:cr (v i) (v (i+1)) ((v (i+2)).1-(v (i+1)).1-((v (i+1)).1-(v i).1),(v (i+2)).2-(v (i+1)).2-((v (i+1)).2-(v i).2))=tn (v i) (v (i+1)) (v (i+2)):=by unfold cr tn; grind
 have c2:cr (v (i+1)) (v (i+2)) ((v (i+2)).1-(v (i+1)).1-((v (i+1)).1-(v i).1),(v (i+2)).2-(v (i+1)).2-((v (i+1)).2-(v i).2))=tn (v i) (v (i+1)) (v (i+2)):=by unfold cr tn; grind
 by_cases h0:tn (v i) (v (i+1)) (v (i+2))=0
 have hd:0<dt (v i) (v (i+1)) (v (i+2)):=ht.resolve_left fun e=>e h0;have hl:=wS hne;refine S.AM (σ:=1) hi (d:=(-((v (i+1)).2-(v i).2),(v (i+1)).1-(v i).1)) ?_ ?_ (by rw[h0]; grind) h h'
 unfold cr; grind
 unfold dt at hd; unfold cr; grind
 by_cases hp:0<tn (v i) (v (i+1)) (v (i+2))
 exact S.AM (σ:=1) hi (by rw[c1]; grind) (by rw[c2]; grind) (by grind) h h'
 obtain⟨R,hR⟩:=S.hs (σ:=-1) (by grind) (i:=i) (by omega)
 obtain⟨R',hR'⟩:=S.hs (σ:=-1) (by grind) (i:=i+1) (by omega)
 have e:=S.AM (σ:=-1) hi (by rw[c1]; grind) (by rw[c2]; grind) (by grind) hR hR'
 have e1:=S.FV (by omega) h hR
 have e2:=S.FV hi h' hR';omega
def Simple.along (S:Simple n v):∃L:Int,∀i,i<n->HS n v 1 i L/\HS n v (-1) i (L-1):=by
 have hn3:=S.n3;obtain⟨L,hL⟩:=S.hs (σ:=1) (by grind) (i:=0) (by omega)
 have h1:∀i,i<n->HS n v 1 i L:=by
  intro i
  induction i with
  | zero=>intro _; exact hL
  | succ i ih =>
   intro hi;obtain⟨L',hL'⟩:=S.hs (σ:=1) (by grind) (i:=i+1) hi
   have:=S.step hi (ih (by omega)) hL'
   rw[this]; exact hL'
 refine⟨L,fun i hi=>⟨h1 i hi,?_⟩⟩;obtain⟨R,hR⟩:=S.hs (σ:=-1) (by grind) (i:=i) hi
 have:=S.FV hi (h1 i hi) hR;rw[show L-1=R by omega]; exact hR
end
def jq {X:Nat->Rat} {P:Ur}:∀{n:Nat},(∃i,i<n/\P i)->∃i,i<n/\P i/\∀j,j<n->P j->X i<=X j
 | 0,h=>by obtain⟨i,h,_⟩:=h; omega
 | n+1,h=>by
  by_cases hn:∃i,i<n/\P i
  obtain⟨i,i1,i2,i3⟩:=jq (X:=X) hn
  by_cases hp:P n/\X n<=X i
  refine⟨n,by omega,hp.1,fun j hj hP=>?_⟩
  by_cases e:j=n
  subst e; grind
  have:=i3 j (by omega) hP; grind
  refine⟨i,by omega,i2,fun j hj hP=>?_⟩
  by_cases e:j=n
  subst e;have:¬X j<=X i:=fun h=>hp ⟨hP,h⟩
  grind
  exact i3 j (by omega) hP
  obtain⟨i,i1,i2⟩:=h;have:i=n:=R1 fun e=>hn ⟨i,by omega,i2⟩
  subst this;refine⟨i,by omega,i2,fun j hj hP=>?_⟩
  by_cases e:j=i
  subst e; grind
  exact Sl ⟨j,by omega,hP⟩ hn
def yj {u w:P2} {y:Rat} (h:(u.2<y/\y<w.2)\/(w.2<y/\y<u.2)) :
  ∃t,0<t/\t<1/\(cv u w t).2=y/\∀q:P2,q.2=y->tn u w q=(w.2-u.2)*((cv u w t).1-q.1):=by
 have hD:w.2-u.2≠0:=by grind
 have hi:(w.2-u.2)*(w.2-u.2)⁻¹=1:=Rat.mul_inv_cancel _ hD;have ht:((y-u.2)*(w.2-u.2)⁻¹)*(w.2-u.2)=y-u.2:=by grind
 generalize (y-u.2)*(w.2-u.2)⁻¹=t at ht;have t0:0<t:=by
  refine R1 fun hc=>?_;rcases h with h|h
  have:=cp (show 0<=-t by grind) (show 0<=w.2-u.2 by grind)
  grind
  have:=cp (show 0<=-t by grind) (show 0<=u.2-w.2 by grind)
  grind
 have t1:t<1:=by
  refine R1 fun hc=>?_;rcases h with h|h
  have:=cp (show 0<=t-1 by grind) (show 0<=w.2-u.2 by grind)
  grind
  have:=cp (show 0<=t-1 by grind) (show 0<=u.2-w.2 by grind)
  grind
 refine⟨t,t0,t1,by unfold cv; grind,fun q hq=>?_⟩
 unfold tn cv;rw[hq]
 grind
section
variable {n : Nat} {v : Nat -> P2}
def dd (u w:P2) (y:Rat):Int:=if u.2<y/\y<w.2 then 1 else if w.2<y/\y<u.2 then -1 else 0
def yn {u w:P2} {y:Rat} (hu:u.2≠y) (hw:w.2≠y):∃X:Rat,(∀q:P2,q.2=y->we u w q=if q.1<X then dd u w y else 0)/\(dd u w y≠0->∃t,0<t/\t<1/\cv u w t=(X,y)):=by
 by_cases h1:u.2<y/\y<w.2
 obtain⟨t,t0,t1,t2,t3⟩:=yj (.inl h1);refine⟨(cv u w t).1,fun q hq=>?_,fun _=>⟨t,t0,t1,SO rfl t2⟩⟩;unfold dd;rw[gz (by grind) (by grind),R0 h1,t3 q hq]
 by_cases hx:q.1<(cv u w t).1
 rw[R0 hx,R0 (bB (by grind) (by grind))]
 rw[RZ hx,RZ];have:=df (show 0<=w.2-u.2 by grind) (show(cv u w t).1-q.1<=0 by grind)
 grind
 by_cases h2:w.2<y/\y<u.2
 obtain⟨t,t0,t1,t2,t3⟩:=yj (.inr h2);refine⟨(cv u w t).1,fun q hq=>?_,fun _=>⟨t,t0,t1,SO rfl t2⟩⟩;unfold dd;rw[iJ w u,gz (by grind) (by grind),RZ h1,R0 h2,gR u w,t3 q hq]
 by_cases hx:q.1<(cv u w t).1
 have:=bB (show 0<u.2-w.2 by grind) (show 0<(cv u w t).1-q.1 by grind)
 rw[R0 hx,R0 (by grind)]
 have:=df (show 0<=u.2-w.2 by grind) (show(cv u w t).1-q.1<=0 by grind)
 rw[RZ hx,RZ (by grind)]; rfl
 have e:dd u w y=0:=by unfold dd; rw[RZ h1,RZ h2]
 refine⟨0,fun q hq=>?_,fun h=>Sl e h⟩;rw[e,ite_self,ed (by grind) (by grind)]
def Simple.level (S:Simple n v) {p:P2} (hp:∀i,i<n->(v i).2≠p.2):W n v p=0\/W n v p=1\/W n v p = -1:=by
 have hn3:=S.n3;have hp':∀i,i<n->(v (i+1)).2≠p.2:=fun i hi=>by
  by_cases e:i+1=n
  rw[e,S.cl]; exact hp 0 (by omega)
  exact hp (i+1) (by omega)
 have hX:∀i,∃X:Rat,i<n->(∀q:P2,q.2=p.2->we (v i) (v (i+1)) q=if q.1<X then dd (v i) (v (i+1)) p.2 else 0)/\(dd (v i) (v (i+1)) p.2≠0->∃t,0<t/\t<1/\cv (v i) (v (i+1)) t=(X,p.2)):=fun i=>by
  by_cases hi:i<n
  obtain⟨X,h⟩:=yn (hp i hi) (hp' i hi);exact⟨X,fun _=>h⟩
  exact⟨0,fun h=>Sl h hi⟩
 obtain⟨X,hX⟩:=Classical.axiomOfChoice hX;have hW:∀q:P2,q.2=p.2->W n v q=bE n fun i=>if q.1<X i then dd (v i) (v (i+1)) p.2 else 0:=fun q hq=>aX fun i hi=>(hX i hi).1 q hq
 obtain⟨L,hL⟩:=S.along
 by_cases hE:∃i,i<n/\(dd (v i) (v (i+1)) p.2≠0/\p.1<X i)
 obtain⟨i,i1,⟨i2,i3⟩,i4⟩:=jq (X:=X) hE;obtain⟨k,k1,⟨k2,k3⟩,k4⟩:=jq (X:=fun i=>-X i) hE;have hl:W n v p=L\/W n v p=L-1:=by
  obtain⟨t,t0,t1,t2⟩:=(hX i i1).2 i2;have key:∀σ M,0 < σ*cr (v i) (v (i+1)) (-1,0)->HS n v σ i M->W n v p=M:=by
   intro σ M hσ hM;obtain⟨e,e0,he⟩:=hM t (-1,0) t0 t1 hσ;obtain⟨x,x0,xe,xp⟩:=fu e0 (show 0<X i-p.1 by grind)
   rw[<-he x x0 (by grind),t2,hW p rfl,hW (sm (X i,p.2) (-1,0) x) (by unfold sm; grind)]
   refine aX fun j hj=>?_
   by_cases hd:dd (v j) (v (j+1)) p.2=0
   rw[hd,ite_self,ite_self]
   by_cases hx:p.1<X j
   have:=i4 j hj ⟨hd,hx⟩;rw[R0 hx,R0 (by unfold sm; grind)]
   rw[RZ hx,RZ (by unfold sm; grind)]
  by_cases h1:(v i).2<p.2/\p.2<(v (i+1)).2
  exact .inl (key 1 L (by unfold cr; grind) (hL i i1).1)
  have h2:(v (i+1)).2<p.2/\p.2<(v i).2:=by
   unfold dd at i2;rw[RZ h1] at i2;exact R1 fun h=>i2 (RZ h)
  exact .inr (key (-1) (L-1) (by unfold cr; grind) (hL i i1).2)
 have hr:L=0\/L=1:=by
  obtain⟨t,t0,t1,t2⟩:=(hX k k1).2 k2;have key:∀σ M,0 < σ*cr (v k) (v (k+1)) (1,0)->HS n v σ k M->M=0:=by
   intro σ M hσ hM;obtain⟨e,e0,he⟩:=hM t (1,0) t0 t1 hσ;rw[<-he e e0 (by grind),t2,hW (sm (X k,p.2) (1,0) e) (by unfold sm; grind)]
   refine cA fun j hj=>?_
   by_cases hd:dd (v j) (v (j+1)) p.2=0
   rw[hd,ite_self]
   refine RZ fun hx=>?_;have hx':X k+e<X j:=by unfold sm at hx; grind
   have:=k4 j hj ⟨hd,by grind⟩
   grind
  by_cases h1:(v k).2<p.2/\p.2<(v (k+1)).2
  have:=key (-1) (L-1) (by unfold cr; grind) (hL k k1).2
  exact .inr (by omega)
  have h2:(v (k+1)).2<p.2/\p.2<(v k).2:=by
   unfold dd at k2;rw[RZ h1] at k2;exact R1 fun h=>k2 (RZ h)
  exact .inl (key 1 L (by unfold cr; grind) (hL k k1).1)
 omega
 left
 rw[hW p rfl];refine cA fun j hj=>?_
 by_cases hd:dd (v j) (v (j+1)) p.2=0
 rw[hd,ite_self]
 exact RZ fun hx=>hE ⟨j,hj,hd,hx⟩
def Simple.main (S:Simple n v) {p:P2} (hp:∀i,i<n->((v i).2<=p.2/\p.2<(v (i+1)).2)\/((v (i+1)).2<=p.2/\p.2<(v i).2)->tn (v i) (v (i+1)) p≠0) :
  W n v p=0\/W n v p=1\/W n v p = -1:=by
 have hn3:=S.n3;have h1:Ev fun x _=>∀i,i<n->(v i).2<=p.2\/p.2+x<(v i).2:=Ev.all (P:=fun i x _=>(v i).2<=p.2\/p.2+x<(v i).2) fun i _=>by
  by_cases h:(v i).2<=p.2
  exact Ev.of fun _ _ _ _=>.inl h
  exact⟨((v i).2-p.2)/2,by grind,fun x y x0 x1 _ _=>.inr (by grind)⟩
 have h2:Ev fun x _=>∀i,i<n->(tn (v i) (v (i+1)) p<0->tn (v i) (v (i+1)) (p.1,p.2+x)<0)/\(0<tn (v i) (v (i+1)) p->0<tn (v i) (v (i+1)) (p.1,p.2+x)) :=
  Ev.all (P:=fun i x _=>(tn (v i) (v (i+1)) p<0->tn (v i) (v (i+1)) (p.1,p.2+x)<0)/\(0<tn (v i) (v (i+1)) p->0<tn (v i) (v (i+1)) (p.1,p.2+x))) fun i _=>by
   have e:∀x,tn (v i) (v (i+1)) (p.1,p.2+x)=tn (v i) (v (i+1)) p+x*((v (i+1)).1-(v i).1):=fun x=>by unfold tn; grind
   by_cases hm:tn (v i) (v (i+1)) p<0
   obtain⟨a,a0,ha⟩:=qj hm ((v (i+1)).1-(v i).1);exact⟨a,a0,fun x y x0 x1 _ _=>⟨fun _=>by rw[e]; exact ha x x0 x1,fun h=>by grind⟩⟩
   by_cases hq:0<tn (v i) (v (i+1)) p
   obtain⟨a,a0,ha⟩:=qj (A:=-tn (v i) (v (i+1)) p) (by grind) (-((v (i+1)).1-(v i).1))
   exact⟨a,a0,fun x y x0 x1 _ _=>⟨fun h=>Sl h hm,fun _=>by rw[e]; have:=ha x x0 x1; grind⟩⟩
   exact Ev.of fun _ _ _ _=>⟨fun h=>Sl h hm,fun h=>Sl h hq⟩
 obtain⟨x,x0,hx⟩:=h1.and h2;obtain⟨g1,g2⟩:=hx x x x0 (by grind) x0 (by grind)
 have g1':∀i,i<n->(v (i+1)).2<=p.2\/p.2+x<(v (i+1)).2:=fun i hi=>by
  by_cases e:i+1=n
  rw[e,S.cl]; exact g1 0 (by omega)
  exact g1 (i+1) (by omega)
 have e:W n v p=W n v (p.1,p.2+x):=aX fun i hi=>by
  have a:=g1 i hi;have b:=g1' i hi;obtain⟨c1,c2⟩:=g2 i hi;have hc:=hp i hi
  by_cases k1:(v i).2<=p.2/\p.2<(v (i+1)).2
  rw[gz k1.1 k1.2,gz (by grind) (by grind)]
  exact jH ⟨c2,fun h=>by have:=hc (.inl k1); grind⟩
  by_cases k2:(v (i+1)).2<=p.2/\p.2<(v i).2
  rw[iJ (v (i+1)) (v i),iJ (v (i+1)) (v i),gz k2.1 k2.2,gz (by grind) (by grind),gR (v i),gR (v i)]
  rw[jH (d:=0 < -tn (v i) (v (i+1)) (p.1,p.2+x)) ⟨fun h=>by have:=c1 (by grind); grind,fun h=>by have:=hc (.inr k2); grind⟩]
  rw[ed k1 k2,ed (by grind) (by grind)]
 rw[e];exact S.level fun i hi=>by have:=g1 i hi; grind
end
abbrev I2:=Int × Int
def ti (a b c:I2):Int:=(b.1-a.1)*(c.2-a.2)-(b.2-a.2)*(c.1-a.1)
def ca (a:I2):P2:=((a.1:Rat),(a.2:Rat))
def lb (a b c:I2):tn (ca a) (ca b) (ca c)=((ti a b c:Int):Rat):=by
 unfold tn ca ti;simp only[Rat.intCast_sub,TJ]
def dw {x y:Int}:(x:Rat)<(y:Rat)↔x<y:=Rat.intCast_lt_intCast
def oI {x y:Int}:(x:Rat)<=(y:Rat)↔x<=y:=Rat.intCast_le_intCast
def gT {x:Int}:(0:Rat)<(x:Rat)↔0<x:=by
 have:=@dw 0 x
 simpa using this
def mY {x:Int}:(x:Rat)<0↔x<0:=by
 have:=@dw x 0
 simpa using this
def iG (a b p:I2):ti b a p = -ti a b p:=by unfold ti; grind
def Aw (a b:I2):ti a b a=0:=by unfold ti; grind
def Bg (a b:I2):ti a b b=0:=by unfold ti; grind
def B2 (a b c d:I2):ti a b d-ti a b c=ti c d a-ti c d b:=by unfold ti; grind
def cC (a b p:I2):Prop:=ti a b p=0/\min a.1 b.1<=p.1/\p.1<=max a.1 b.1/\min a.2 b.2<=p.2/\p.2<=max a.2 b.2
instance (a b p:I2):Decidable (cC a b p):=by unfold cC; infer_instance
def cC.swap {a b p:I2} (h:cC a b p):cC b a p:=by
 obtain⟨h1,h2⟩:=h;exact⟨by rw[iG,h1]; rfl,by omega⟩
def yd {a b p:I2}:cC a b p↔cC b a p:=⟨cC.swap,cC.swap⟩
def vk (a b:I2):cC a b a:=⟨Aw a b,by omega⟩
def vi (a b:I2):cC a b b:=⟨Bg a b,by omega⟩
def Cv {a b p:I2} (h:a.1<b.1):cC a b p↔ti a b p=0/\a.1<=p.1/\p.1<=b.1:=by
 refine⟨fun⟨h1,h2⟩=>⟨h1,by omega⟩,fun⟨h1,h2,h3⟩=>⟨h1,by omega,by omega,?_,?_⟩⟩
 all_goals
  unfold ti at h1;have e1:(b.1-a.1)*(p.2-a.2)=(b.2-a.2)*(p.1-a.1):=by omega
  have e2:(b.1-a.1)*(b.2-p.2)=(b.2-a.2)*(b.1-p.1):=by grind
  by_cases hy:a.2<=b.2
  have m1:0<=(b.1-a.1)*(p.2-a.2):=by rw[e1]; exact Tz (by omega) (by omega)
  have m2:0<=(b.1-a.1)*(b.2-p.2):=by rw[e2]; exact Tz (by omega) (by omega)
  have k1:=TX m1 (by omega)
  have k2:=TX m2 (by omega)
  omega
  have m1:0<=(b.1-a.1)*(a.2-p.2):=by
   rw[show(b.1-a.1)*(a.2-p.2)=(a.2-b.2)*(p.1-a.1) by grind]; exact Tz (by omega) (by omega)
  have m2:0<=(b.1-a.1)*(p.2-b.2):=by
   rw[show(b.1-a.1)*(p.2-b.2)=(a.2-b.2)*(b.1-p.1) by grind]; exact Tz (by omega) (by omega)
  have k1:=TX m1 (by omega)
  have k2:=TX m2 (by omega)
  omega
def GF {a b p:I2} (h:a.1=b.1) (hab:a≠b):cC a b p↔p.1=a.1/\min a.2 b.2<=p.2/\p.2<=max a.2 b.2:=by
 have hy:a.2≠b.2:=fun e=>hab (SO h e);refine⟨fun⟨_,h2⟩=>by omega,fun⟨h1,h2⟩=>⟨?_,by omega⟩⟩
 unfold ti;rw[h1,<-h]; grind
def oz {a b p:I2} (h:a.1=b.1) (hab:a≠b) (h0:ti a b p=0):p.1=a.1:=by
 have hy:b.2-a.2≠0:=fun e=>hab (SO h (by omega))
 unfold ti at h0;rw[h,Int.sub_self,Int.zero_mul] at h0;have:(b.2-a.2)*(p.1-b.1)=0:=by omega
 rcases SV.1 this with e|e
 exact Sl e hy
 omega
def oQ {a b p q:I2} (h:a.1≠b.1) (hp:ti a b p=0) (hq:ti a b q=0) (e:p.1=q.1):p=q:=by
 have:(b.1-a.1)*(p.2-q.2)=0:=by unfold ti at hp hq; rw[e] at hp; grind
 rcases SV.1 this with e' | e'
 omega
 exact SO e (by omega)
def Lx (a b:I2):Prop:=a.1<b.1\/a.1=b.1/\a.2<=b.2
def M5 {a b p:I2} (hab:a≠b) (h:Lx a b):cC a b p↔ti a b p=0/\Lx a p/\Lx p b:=by
 unfold Lx at *
 by_cases hx:a.1<b.1
 rw[Cv hx];refine⟨fun⟨h1,h2,h3⟩=>⟨h1,?_,?_⟩,fun⟨h1,h2,h3⟩=>⟨h1,by omega,by omega⟩⟩
 by_cases e:p.1=a.1
 have:=oQ (by omega) h1 (Aw a b) e
 rw[this]; omega
 omega
 by_cases e:p.1=b.1
 have:=oQ (by omega) h1 (Bg a b) e
 rw[this]; omega
 omega
 have e:a.1=b.1:=by omega
 rw[GF e hab];refine⟨fun⟨h1,h2⟩=>⟨?_,by omega,by omega⟩,fun⟨h1,h2,h3⟩=>?_⟩
 unfold ti; rw[h1,<-e]; grind
 have:=oz e hab h1;omega
def nk {a b c d:I2} (_:a≠b) (hc:ti a b c=0) (hn:¬cC a b c) (hd:ti a b d≠0):(0<ti c d a/\0<ti c d b)\/(ti c d a<0/\ti c d b<0):=by
 have four:=B2 a b c d;have key:∀A B s t:Int,s*B=A*t->0<A*B->s-t≠0->(0<s/\0<t)\/(s<0/\t<0):=by
  intro A B s t e hAB hst;have hB:B≠0:=fun h=>by rw[h,Int.mul_zero] at hAB; omega
  have hA:A≠0:=fun h=>by rw[h,Int.zero_mul] at hAB; omega
  have ht:t≠0:=fun h=>by
   rw[h,Int.mul_zero] at e;rcases SV.1 e with h' | h'
   omega
   exact hB h'
  have hs:s≠0:=fun h=>by
   rw[h,Int.zero_mul] at e;rcases SV.1 e.symm with h' | h'
   exact hA h'
   exact ht h'
  have hp:0<s*t:=by
   have e2:s*t*(B*B)=(A*B)*(t*t):=by
    rw[show s*t*(B*B)=(s*B)*(t*B) by grind,e]; grind
   have h1:0<(A*B)*(t*t):=Ub hAB (by
    rcases Int.lt_or_lt_of_ne ht with h|h
    exact Int.mul_pos_of_neg_of_neg h h
    exact Ub h h)
   rw[<-e2] at h1;have h2:0<B*B:=by
    rcases Int.lt_or_lt_of_ne hB with h|h
    exact Int.mul_pos_of_neg_of_neg h h
    exact Ub h h
   exact Int.pos_of_mul_pos_left h1 h2
  rcases Int.lt_or_lt_of_ne hs with h|h
  right
  refine⟨h,?_⟩;refine R1 fun hc=>?_;have:=Ub (show 0 < -s by omega) (show 0<t by omega)
  rw[Int.neg_mul] at this;omega
  left
  refine⟨h,?_⟩;refine R1 fun hc=>?_;have:=Ub h (show 0 < -t by omega)
  rw[Int.mul_neg] at this;omega
 have hst:ti c d a-ti c d b≠0:=by omega
 have e0:(a.1-c.1)*(b.2-c.2)=(a.2-c.2)*(b.1-c.1):=by unfold ti at hc; grind
 have ex:ti c d a*(b.1-c.1)=(a.1-c.1)*ti c d b:=by
  unfold ti;generalize d.1-c.1=x at *;generalize d.2-c.2=y at *;generalize a.1-c.1=A at *;generalize b.1-c.1=B at *;generalize a.2-c.2=C at *;generalize b.2-c.2=D at *
  grind
 have ey:ti c d a*(b.2-c.2)=(a.2-c.2)*ti c d b:=by
  unfold ti;generalize d.1-c.1=x at *;generalize d.2-c.2=y at *;generalize a.1-c.1=A at *;generalize b.1-c.1=B at *;generalize a.2-c.2=C at *;generalize b.2-c.2=D at *
  grind
 have hout:0<(a.1-c.1)*(b.1-c.1)\/0<(a.2-c.2)*(b.2-c.2):=by
  refine R1 fun hh=>hn ⟨hc,?_⟩;have pos:∀{x y:Int},0<x->0<y->0<x*y:=Ub;have neg:∀{x y:Int},x<0->y<0->0<x*y:=Int.mul_pos_of_neg_of_neg;have n1:¬(0<a.1-c.1/\0<b.1-c.1):=fun h=>hh (.inl (pos h.1 h.2));have n2:¬(a.1-c.1<0/\b.1-c.1<0):=fun h=>hh (.inl (neg h.1 h.2));have n3:¬(0<a.2-c.2/\0<b.2-c.2):=fun h=>hh (.inr (pos h.1 h.2));have n4:¬(a.2-c.2<0/\b.2-c.2<0):=fun h=>hh (.inr (neg h.1 h.2));omega
 rcases hout with h|h
 exact key _ _ _ _ ex h hst
 exact key _ _ _ _ ey h hst
def lH (a b c d x:I2):Prop:=(x=a\/x=b\/x=c\/x=d)/\cC a b x/\cC c d x
def low (a b c d:I2):Int:=if a.1=b.1 then max (min a.2 b.2) (min c.2 d.2)-min (max a.2 b.2) (max c.2 d.2) else max (min a.1 b.1) (min c.1 d.1)-min (max a.1 b.1) (max c.1 d.1)
def J9 {a b c d:I2} (hab:a≠b) (hcd:c≠d) (hc:ti a b c=0) (hd:ti a b d=0):∃f:I2->Int,low a b c d=max (min (f a) (f b)) (min (f c) (f d))-min (max (f a) (f b)) (max (f c) (f d)) /\
  (∀x y,ti a b x=0->ti a b y=0->f x=f y->x=y)/\(∀x,cC a b x↔ti a b x=0/\min (f a) (f b)<=f x/\f x<=max (f a) (f b))/\(∀x,ti a b x=0->(cC c d x↔min (f c) (f d)<=f x/\f x<=max (f c) (f d))):=by
 by_cases h:a.1=b.1
 have h3:=oz h hab hc;have h4:=oz h hab hd;refine⟨fun x=>x.2,by unfold low; rw[R0 h],fun x y hx hy e=>SO ((oz h hab hx).trans (oz h hab hy).symm) e,fun x=>?_,fun x hx=>?_⟩
 rw[GF h hab];refine⟨fun⟨h0,h1⟩=>⟨?_,h1⟩,fun⟨h0,h1⟩=>⟨oz h hab h0,h1⟩⟩;unfold ti; rw[h0,<-h]; grind
 rw[GF (by omega) hcd]
 have:=oz h hab hx;exact⟨fun h=>h.2,fun h=>⟨by omega,h⟩⟩
 have h2:c.1≠d.1:=fun e=>hcd (oQ h hc hd e);have dir:∀x,ti a b x=0->ti c d x=0:=fun x hx=>by
  have e0:(b.1-a.1)*(c.2-a.2)=(b.2-a.2)*(c.1-a.1):=by unfold ti at hc; omega
  have e2:(b.1-a.1)*(d.2-a.2)=(b.2-a.2)*(d.1-a.1):=by unfold ti at hd; omega
  have e1:(b.1-a.1)*(x.2-a.2)=(b.2-a.2)*(x.1-a.1):=by unfold ti at hx; omega
  have:(b.1-a.1)*ti c d x=0:=by
   unfold ti;have:(b.1-a.1)*((d.1-c.1)*(x.2-c.2)-(d.2-c.2)*(x.1-c.1))=(d.1-c.1)*((b.1-a.1)*(x.2-a.2)-(b.1-a.1)*(c.2-a.2))-((b.1-a.1)*(d.2-a.2)-(b.1-a.1)*(c.2-a.2))*(x.1-c.1):=by grind
   rw[this,e0,e2,e1]; grind
  rcases SV.1 this with e|e
  omega
  exact e
 have gen:∀{u w:I2},u.1≠w.1->∀x,(cC u w x↔ti u w x=0/\min u.1 w.1<=x.1/\x.1<=max u.1 w.1):=fun {u w} huw x=>by
  by_cases hl:u.1<w.1
  rw[Cv hl]; refine⟨fun⟨h0,h1⟩=>⟨h0,by omega⟩,fun⟨h0,h1⟩=>⟨h0,by omega⟩⟩
  rw[yd,Cv (by omega),iG]; refine⟨fun⟨h0,h1⟩=>⟨by omega,by omega⟩,fun⟨h0,h1⟩=>⟨by omega,by omega⟩⟩
 refine⟨fun x=>x.1,by unfold low; rw[RZ h],fun x y hx hy e=>oQ h hx hy e,gen h,fun x hx=>?_⟩
 rw[gen h2];exact⟨fun h=>h.2,fun h=>⟨dir x hx,h⟩⟩
def tC {a b c d:I2} (hab:a≠b) (hcd:c≠d) (hc:ti a b c=0) (hd:ti a b d=0) :
  (0<low a b c d↔∀x,¬lH a b c d x)/\(low a b c d<0↔∃x y,lH a b c d x/\lH a b c d y/\x≠y):=by
 obtain⟨f,e,hi,h1,h2⟩:=J9 hab hcd hc hd;have ha0:=Aw a b;have hb0:=Bg a b;have hfab:f a≠f b:=fun h=>hab (hi a b ha0 hb0 h);have hfcd:f c≠f d:=fun h=>hcd (hi c d hc hd h);have Jx:∀x,lH a b c d x↔(x=a\/x=b\/x=c\/x=d)/\(min (f a) (f b)<=f x/\f x<=max (f a) (f b))/\(min (f c) (f d)<=f x/\f x<=max (f c) (f d)):=fun x=>by
  unfold lH;refine⟨fun⟨h,g1,g2⟩=>⟨h,((h1 x).1 g1).2,(h2 x ((h1 x).1 g1).1).1 g2⟩,fun⟨h,g1,g2⟩=>?_⟩;have hx:ti a b x=0:=by rcases h with rfl|rfl|rfl|rfl<;>assumption
  exact⟨h,(h1 x).2 ⟨hx,g1⟩,(h2 x hx).2 g2⟩
 rw[e];have lo:∃x,(x=a\/x=b\/x=c\/x=d)/\f x=max (min (f a) (f b)) (min (f c) (f d)):=by
  by_cases g1:f a<=f b<;>by_cases g2:f c<=f d
  by_cases g3:f a<=f c
  exact⟨c,by simp,by omega⟩
  exact⟨a,by simp,by omega⟩
  by_cases g3:f a<=f d
  exact⟨d,by simp,by omega⟩
  exact⟨a,by simp,by omega⟩
  by_cases g3:f b<=f c
  exact⟨c,by simp,by omega⟩
  exact⟨b,by simp,by omega⟩
  by_cases g3:f b<=f d
  exact⟨d,by simp,by omega⟩
  exact⟨b,by simp,by omega⟩
 have hi':∃x,(x=a\/x=b\/x=c\/x=d)/\f x=min (max (f a) (f b)) (max (f c) (f d)):=by
  by_cases g1:f a<=f b<;>by_cases g2:f c<=f d
  by_cases g3:f b<=f d
  exact⟨b,by simp,by omega⟩
  exact⟨d,by simp,by omega⟩
  by_cases g3:f b<=f c
  exact⟨b,by simp,by omega⟩
  exact⟨c,by simp,by omega⟩
  by_cases g3:f a<=f d
  exact⟨a,by simp,by omega⟩
  exact⟨d,by simp,by omega⟩
  by_cases g3:f a<=f c
  exact⟨a,by simp,by omega⟩
  exact⟨c,by simp,by omega⟩
 obtain⟨x,x1,x2⟩:=lo;obtain⟨y,y1,y2⟩:=hi';constructor
 refine⟨fun h z hz=>?_,fun h=>?_⟩
 have:=(Jx z).1 hz;omega
 refine R1 fun hc=>h x ((Jx x).2 ⟨x1,by omega,by omega⟩)
 refine⟨fun h=>⟨x,y,(Jx x).2 ⟨x1,by omega,by omega⟩,(Jx y).2 ⟨y1,by omega,by omega⟩,fun e=>by rw[e] at x2; omega⟩,fun⟨z,w,hz,hw,hne⟩=>?_⟩
 refine R1 fun hc=>hne (hi z w ?_ ?_ ?_)
 exact hz.2.1.1
 exact hw.2.1.1
 have:=(Jx z).1 hz;have:=(Jx w).1 hw;omega
def JJ {a b c d:I2} (hcd:c≠d) (h:¬(ti a b c=0/\ti a b d=0)) {x y:I2} (hx:cC a b x/\cC c d x) (hy:cC a b y/\cC c d y):x=y:=by
 obtain⟨⟨a1,_⟩,⟨a2,_⟩⟩:=hx;obtain⟨⟨b1,_⟩,⟨b2,_⟩⟩:=hy;have hk:(b.1-a.1)*(d.2-c.2)-(b.2-a.2)*(d.1-c.1)≠0:=fun e=>by
  have e1:ti a b d-ti a b c=0:=by
   have:ti a b d-ti a b c=(b.1-a.1)*(d.2-c.2)-(b.2-a.2)*(d.1-c.1):=by unfold ti; grind
   omega
  have e2:(d.1-c.1)*ti a b c=0:=by
   have t:(d.1-c.1)*ti a b c=(d.1-c.1)*ti a b x-(b.1-a.1)*ti c d x-(x.1-c.1)*((b.1-a.1)*(d.2-c.2)-(b.2-a.2)*(d.1-c.1)):=by unfold ti; grind
   rw[t,a1,a2,e]; simp
  have e3:(d.2-c.2)*ti a b c=0:=by
   have t:(d.2-c.2)*ti a b c=(d.2-c.2)*ti a b x-(b.2-a.2)*ti c d x-(x.2-c.2)*((b.1-a.1)*(d.2-c.2)-(b.2-a.2)*(d.1-c.1)):=by unfold ti; grind
   rw[t,a1,a2,e]; simp
  have h0:ti a b c=0:=by
   rcases SV.1 e2 with g|g
   rcases SV.1 e3 with g' | g'
   exact Sl (SO (by omega) (by omega)) hcd
   exact g'
   exact g
  exact h ⟨h0,by omega⟩
 have f1:((b.1-a.1)*(d.2-c.2)-(b.2-a.2)*(d.1-c.1))*(x.1-y.1)=0:=by
  have t:((b.1-a.1)*(d.2-c.2)-(b.2-a.2)*(d.1-c.1))*(x.1-y.1)=(d.1-c.1)*(ti a b x-ti a b y)-(b.1-a.1)*(ti c d x-ti c d y):=by unfold ti; grind
  rw[t,a1,a2,b1,b2]; simp
 have f2:((b.1-a.1)*(d.2-c.2)-(b.2-a.2)*(d.1-c.1))*(x.2-y.2)=0:=by
  have t:((b.1-a.1)*(d.2-c.2)-(b.2-a.2)*(d.1-c.1))*(x.2-y.2)=(d.2-c.2)*(ti a b x-ti a b y)-(b.2-a.2)*(ti c d x-ti c d y):=by unfold ti; grind
  rw[t,a1,a2,b1,b2]; simp
 refine SO ?_ ?_
 rcases SV.1 f1 with g|g
 exact Sl g hk
 omega
 rcases SV.1 f2 with g|g
 exact Sl g hk
 omega
def sL {a b c d:I2} (hab:a≠b) (hcd:c≠d) (hn:∀x,¬lH a b c d x)
  (hx:¬(((0<ti a b c/\ti a b d<0)\/(ti a b c<0/\0<ti a b d))/\((0<ti c d a/\ti c d b<0)\/(ti c d a<0/\0<ti c d b)))):Sep (ca a) (ca b) (ca c) (ca d):=by
 have na:¬cC c d a:=fun h=>hn a ⟨.inl rfl,vk a b,h⟩;have nb:¬cC c d b:=fun h=>hn b ⟨.inr (.inl rfl),vi a b,h⟩;have nc:¬cC a b c:=fun h=>hn c ⟨.inr (.inr (.inl rfl)),h,vk c d⟩;have nd:¬cC a b d:=fun h=>hn d ⟨.inr (.inr (.inr rfl)),h,vi c d⟩;have byab:(0<ti a b c/\0<ti a b d)\/(ti a b c<0/\ti a b d<0)->Sep (ca a) (ca b) (ca c) (ca d):=by
  rintro(⟨h1,h2⟩|⟨h1,h2⟩)
  exact ga (σ:=1) (by rw[lb]; have:=gT.2 h1; grind) (by rw[lb]; have:=gT.2 h2; grind)
  exact ga (σ:=-1) (by rw[lb]; have:=mY.2 h1; grind) (by rw[lb]; have:=mY.2 h2; grind)
 have bycd:(0<ti c d a/\0<ti c d b)\/(ti c d a<0/\ti c d b<0)->Sep (ca a) (ca b) (ca c) (ca d):=by
  intro h;have h':Sep (ca c) (ca d) (ca a) (ca b):=by
   rcases h with⟨h1,h2⟩|⟨h1,h2⟩
   exact ga (σ:=1) (by rw[lb]; have:=gT.2 h1; grind) (by rw[lb]; have:=gT.2 h2; grind)
   exact ga (σ:=-1) (by rw[lb]; have:=mY.2 h1; grind) (by rw[lb]; have:=mY.2 h2; grind)
  obtain⟨α,β,γ,g1,g2,g3,g4⟩:=h';exact⟨-α,-β,-γ,by unfold af at *; grind,by unfold af at *; grind,by unfold af at *; grind,by unfold af at *; grind⟩
 have four:=B2 a b c d
 by_cases hc:ti a b c=0
 by_cases hd:ti a b d=0
 
 have hl:=(tC hab hcd hc hd).1.2 hn;unfold low at hl;have split:∀{x1 x2 x3 x4:Int},0<max (min x1 x2) (min x3 x4)-min (max x1 x2) (max x3 x4)->(x1<x3/\x1<x4/\x2<x3/\x2<x4)\/(x3<x1/\x4<x1/\x3<x2/\x4<x2):=by
  intro x1 x2 x3 x4 h; omega
 split at hl
 rcases split hl with⟨h1,h2,h3,h4⟩|⟨h1,h2,h3,h4⟩
 have h1:=dw.2 h1; have h2:=dw.2 h2; have h3:=dw.2 h3; have h4:=dw.2 h4
 by_cases hm:(a.2:Rat)<=(b.2:Rat)
 refine oJ 0 (-1) (b.2:Rat) ?_ ?_ ?_ ?_<;>(unfold af ca; grind)
 refine oJ 0 (-1) (a.2:Rat) ?_ ?_ ?_ ?_<;>(unfold af ca; grind)
 have h1:=dw.2 h1; have h2:=dw.2 h2; have h3:=dw.2 h3; have h4:=dw.2 h4
 by_cases hm:(a.2:Rat)<=(b.2:Rat)
 refine oJ 0 1 (-(a.2:Rat)) ?_ ?_ ?_ ?_<;>(unfold af ca; grind)
 refine oJ 0 1 (-(b.2:Rat)) ?_ ?_ ?_ ?_<;>(unfold af ca; grind)
 rcases split hl with⟨h1,h2,h3,h4⟩|⟨h1,h2,h3,h4⟩
 have h1:=dw.2 h1; have h2:=dw.2 h2; have h3:=dw.2 h3; have h4:=dw.2 h4
 by_cases hm:(a.1:Rat)<=(b.1:Rat)
 refine oJ (-1) 0 (b.1:Rat) ?_ ?_ ?_ ?_<;>(unfold af ca; grind)
 refine oJ (-1) 0 (a.1:Rat) ?_ ?_ ?_ ?_<;>(unfold af ca; grind)
 have h1:=dw.2 h1; have h2:=dw.2 h2; have h3:=dw.2 h3; have h4:=dw.2 h4
 by_cases hm:(a.1:Rat)<=(b.1:Rat)
 refine oJ 1 0 (-(a.1:Rat)) ?_ ?_ ?_ ?_<;>(unfold af ca; grind)
 refine oJ 1 0 (-(b.1:Rat)) ?_ ?_ ?_ ?_<;>(unfold af ca; grind)
 exact bycd (nk hab hc nc hd)
 by_cases hd:ti a b d=0
 have:=nk (c:=d) (d:=c) hab hd nd hc;rw[iG c d,iG c d] at this;exact bycd (by omega)
 by_cases ha:ti c d a=0
 by_cases hb:ti c d b=0
 
 exact byab (by omega)
 have:=nk (a:=c) (b:=d) (c:=a) (d:=b) hcd ha na hb;exact byab this
 by_cases hb:ti c d b=0
 have:=nk (a:=c) (b:=d) (c:=b) (d:=a) hcd hb nb ha;rw[iG a b,iG a b] at this;exact byab (by omega)
 by_cases h1:(0<ti a b c/\0<ti a b d)\/(ti a b c<0/\ti a b d<0)
 exact byab h1
 exact bycd (by omega)
def di (a b c:I2):Int:=(b.1-a.1)*(c.1-b.1)+(b.2-a.2)*(c.2-b.2)
def NM (a b c d:I2):Prop:=(∀x,¬lH a b c d x)/\¬(((0<ti a b c/\ti a b d<0)\/(ti a b c<0/\0<ti a b d))/\((0<ti c d a/\ti c d b<0)\/(ti c d a<0/\0<ti c d b)))
def nx (r:List I2) (i:Nat):I2:=r.getD (i%r.length) (0,0)
structure VR (r:List I2):Prop where
 n3:2<r.length
 still:∀i,nx r i≠nx r (i+1)
 spike:∀i,¬(ti (nx r i) (nx r (i+1)) (nx r (i+2))=0/\di (nx r i) (nx r (i+1)) (nx r (i+2))<0)
 meet:∀j i,j+1<i->i<r.length->¬(j=0/\i+1=r.length)->NM (nx r j) (nx r (j+1)) (nx r i) (nx r (i+1))
def Nd {a b:I2} (h:ca a=ca b):a=b:=by
 unfold ca at h;have h1:=Rat.intCast_inj.1 (SD Prod.fst h);have h2:=Rat.intCast_inj.1 (SD Prod.snd h);exact SO h1 h2
def Sep.symm {a b p q:P2} (h:Sep a b p q):Sep p q a b:=by
 obtain⟨α,β,γ,g1,g2,g3,g4⟩:=h;exact⟨-α,-β,-γ,by unfold af at *; grind,by unfold af at *; grind,by unfold af at *; grind,by unfold af at *; grind⟩
def N6 {x:Int}:0<=x*x:=by
 rcases Int.le_total 0 x with h|h
 exact Tz h h
 exact TM h h
def Km {x:Int} (h:x*x=0):x=0:=by
 rcases SV.1 h with h|h<;>exact h
def MH {a b c:I2} (hab:a≠b) (hbc:b≠c) (h0:ti a b c=0) (h:¬di a b c<0):0<di a b c:=by
 refine R1 fun hc=>?_;have hd:di a b c=0:=by omega
 have e1:(b.1-a.1)*(c.2-b.2)-(b.2-a.2)*(c.1-b.1)=0:=by rw[<-h0]; unfold ti; grind
 unfold di at hd;generalize hx:b.1-a.1=x at *;generalize hy:b.2-a.2=y at *;generalize hz:c.1-b.1=z at *;generalize hw:c.2-b.2=w at *;have f1:(x*x+y*y)*z=0:=by
  have:(x*x+y*y)*z=x*(x*z+y*w)-y*(x*w-y*z):=by grind
  rw[this,hd,e1]; simp
 have f2:(x*x+y*y)*w=0:=by
  have:(x*x+y*y)*w=y*(x*z+y*w)+x*(x*w-y*z):=by grind
  rw[this,hd,e1]; simp
 have hp:x*x+y*y≠0:=fun e=>by
  have s1:=@N6 x;have s2:=@N6 y;have g1:=Km (show x*x=0 by omega)
  have g2:=Km (show y*y=0 by omega)
  exact hab (SO (by omega) (by omega))
 refine hbc (SO ?_ ?_)
 rcases SV.1 f1 with e|e
 exact Sl e hp
 omega
 rcases SV.1 f2 with e|e
 exact Sl e hp
 omega
def VR.simple {r:List I2} (h:VR r):Simple r.length fun i=>ca (nx r i):=by
 have hn:=h.n3;have per:∀i,nx r (i+r.length)=nx r i:=fun i=>by unfold nx; rw[Nat.add_mod_right]
 refine⟨hn,?_,?_,fun i _ e=>h.still i (Nd e),fun i _=>?_,fun i j hi hj h1 h2 h3 h4 h5=>?_⟩
 show ca (nx r r.length)=ca (nx r 0)
 have:=per 0;rw[Sw] at this;rw[this]
 show ca (nx r (r.length+1))=ca (nx r 1)
 rw[Nat.add_comm,per]
 have e:dt (ca (nx r i)) (ca (nx r (i+1))) (ca (nx r (i+2)))=((di (nx r i) (nx r (i+1)) (nx r (i+2)):Int):Rat):=by
  unfold dt ca di;simp only[Rat.intCast_sub,TJ,Rat.intCast_add]
 by_cases h0:ti (nx r i) (nx r (i+1)) (nx r (i+2))=0
 right
 show 0<dt (ca (nx r i)) (ca (nx r (i+1))) (ca (nx r (i+2)))
 rw[e,gT];exact MH (h.still i) (h.still (i+1)) h0 fun hd=>h.spike i ⟨h0,hd⟩
 left
 show tn (ca (nx r i)) (ca (nx r (i+1))) (ca (nx r (i+2)))≠0
 rw[lb];exact fun e=>h0 (by have:=Rat.intCast_inj (a:=ti (nx r i) (nx r (i+1)) (nx r (i+2))) (b:=0); simpa using e)
 by_cases hl:i<j
 have m:=h.meet i j (by omega) hj (by omega)
 exact sL (h.still i) (h.still j) m.1 m.2
 have m:=h.meet j i (by omega) hi (by omega)
 exact(sL (h.still j) (h.still i) m.1 m.2).symm
def wi (a b p:I2):Int:=if a.2<=p.2/\p.2<b.2/\0<ti a b p then 1 else if b.2<=p.2/\p.2<a.2/\ti a b p<0 then -1 else 0
def PB (a b p:I2):we (ca a) (ca b) (ca p)=wi a b p:=by
 have e1:((ca a).2<=(ca p).2)↔a.2<=p.2:=oI;have e2:((ca p).2<(ca b).2)↔p.2<b.2:=dw;have e3:((ca b).2<=(ca p).2)↔b.2<=p.2:=oI;have e4:((ca p).2<(ca a).2)↔p.2<a.2:=dw;unfold we wi;simp only[e1,e2,e3,e4,lb,gT,mY]
def gK {a b p:I2} (h:(a.2<=p.2/\p.2<b.2)\/(b.2<=p.2/\p.2<a.2)) (h0:ti a b p=0):cC a b p:=by
 have sw:∀{a b p:I2},a.2<b.2->a.2<=p.2->p.2<=b.2->ti a b p=0->cC a b p:=by
  intro a b p h1 h2 h3 h0;have h0':ti (a.2,a.1) (b.2,b.1) (p.2,p.1)=0:=by unfold ti at *; grind
  have:=(Cv (a:=(a.2,a.1)) (b:=(b.2,b.1)) (p:=(p.2,p.1)) h1).2 ⟨h0',h2,h3⟩;exact⟨h0,this.2.2.2.1,this.2.2.2.2,this.2.1,this.2.2.1⟩
 rcases h with h|h
 exact sw (by omega) (by omega) (by omega) h0
 exact(sw (a:=b) (b:=a) (by omega) (by omega) (by omega) (by rw[iG,h0]; rfl)).swap
def fN (r:List I2) (p:I2):Int:=bE r.length fun i=>wi (nx r i) (nx r (i+1)) p
def VR.fN {r:List I2} (h:VR r) {p:I2} (hp:∀i,i<r.length->¬cC (nx r i) (nx r (i+1)) p):fN r p=0\/fN r p=1\/fN r p = -1:=by
 have e:W r.length (fun i=>ca (nx r i)) (ca p)=Jd.fN r p:=aX fun i _=>PB _ _ _;rw[<-e];refine h.simple.main fun i hi hl=>?_
 show tn (ca (nx r i)) (ca (nx r (i+1))) (ca p)≠0
 rw[lb];intro h0;have h0':ti (nx r i) (nx r (i+1)) p=0:=by simpa using h0
 refine hp i hi (gK ?_ h0');rcases hl with⟨a,b⟩|⟨a,b⟩
 exact .inl ⟨oI.1 a,dw.1 b⟩
 exact .inr ⟨oI.1 a,dw.1 b⟩
def N0 (a b p:I2):Bool:=(decide (p.2<a.2) != decide (p.2<b.2)) && (decide (0<ti a b p) == decide (a.2<b.2))
def MB {a b p:I2} (h:¬cC a b p):N0 a b p=decide (wi a b p%2=1):=by
 unfold N0 wi
 by_cases h1:p.2<a.2<;>by_cases h2:p.2<b.2
 rw[Uz,Uz]; simp[h1,h2]
 have h0:ti a b p≠0:=fun e=>h (gK (.inr ⟨by omega,h1⟩) e)
 by_cases h3:0<ti a b p
 rw[Uz,Uz]
 simp[h1,h2,h3,show ¬a.2<b.2 by omega]
 rw[Uz,R0 ⟨by omega,h1,by omega⟩]
 simp[h1,h2,h3,show ¬a.2<b.2 by omega]
 have h0:ti a b p≠0:=fun e=>h (gK (.inl ⟨by omega,h2⟩) e)
 by_cases h3:0<ti a b p
 rw[R0 ⟨by omega,h2,h3⟩]
 simp[h1,h2,h3,show a.2<b.2 by omega]
 rw[Uz,Uz]
 simp[h1,h2,h3,show a.2<b.2 by omega]
 rw[Uz,Uz]; simp[h1,h2]
def HH (a b p:I2):wi a b p=0\/wi a b p=1\/wi a b p = -1:=by
 unfold wi
 split
 omega
 split<;>omega
def C7 (r:List I2) (p:I2):Nat->Bool
 | 0=>false
 | i+1=>C7 r p i != N0 (nx r i) (nx r (i+1)) p
def zq {r:List I2} {p:I2}:∀{k:Nat},(∀i,i<k->¬cC (nx r i) (nx r (i+1)) p)->C7 r p k=decide (bE k (fun i=>wi (nx r i) (nx r (i+1)) p)%2=1)
 | 0,_=>rfl
 | k+1,h=>by
  rw[C7,zq fun i hi=>h i (by omega),MB (h k (by omega))]
  have key:∀s t:Int,(decide (s%2=1) != decide (t%2=1))=decide ((s+t)%2=1):=fun s t=>by
   by_cases h1:s%2=1<;>by_cases h2:t%2=1<;>by_cases h3:(s+t)%2=1<;>simp[h1,h2,h3]<;>omega
  exact key _ _
def VR.Jq {r:List I2} (h:VR r) {p:I2} (hp:∀i,i<r.length->¬cC (nx r i) (nx r (i+1)) p):C7 r p r.length = !decide (Jd.fN r p=0):=by
 rw[zq hp];have:=h.fN hp
 show decide (Jd.fN r p%2=1)=_
 rcases this with e|e|e<;>rw[e]<;>rfl
def xM (a b c d:I2):Prop:=((0<ti a b c/\ti a b d<0)\/(ti a b c<0/\0<ti a b d))/\((0<ti c d a/\ti c d b<0)\/(ti c d a<0/\0<ti c d b))
def Is (a b c d:I2):Prop:=ti a b c=0/\ti a b d=0
section
variable {a b c d : I2}
def I0 (hab:a≠b) (hcd:c≠d):(∃x y,lH a b c d x/\lH a b c d y/\x≠y)↔Is a b c d/\low a b c d<0:=by
 by_cases h:Is a b c d
 have:=(tC hab hcd h.1 h.2).2;exact⟨fun g=>⟨h,this.2 g⟩,fun g=>this.1 g.2⟩
 exact⟨fun⟨x,y,hx,hy,hne⟩=>Sl (JJ hcd h hx.2 hy.2) hne,fun g=>Sl g.1 h⟩
def EO (hab:a≠b) (hcd:c≠d):(∃x,lH a b c d x)↔(Is a b c d/\low a b c d<=0)\/(¬Is a b c d/\(cC a b c\/cC a b d\/cC c d a\/cC c d b)):=by
 by_cases h:Is a b c d
 have:=(tC hab hcd h.1 h.2).1;constructor
 rintro⟨x,hx⟩;refine .inl ⟨h,?_⟩;refine R1 fun hc=>?_;exact this.1 (by omega) x hx
 rintro(⟨_,g⟩|⟨g,_⟩)
 refine Classical.byContradiction fun hc=>?_;have:=this.2 fun x hx=>hc ⟨x,hx⟩;omega
 exact Sl h g
 constructor
 rintro⟨x,h1,h2,h3⟩;refine .inr ⟨h,?_⟩;rcases h1 with rfl|rfl|rfl|rfl
 exact .inr (.inr (.inl h3))
 exact .inr (.inr (.inr h3))
 exact .inl h2
 exact .inr (.inl h2)
 rintro(⟨g,_⟩|⟨_,g⟩)
 exact Sl g h
 rcases g with g|g|g|g
 exact⟨c,.inr (.inr (.inl rfl)),g,vk c d⟩
 exact⟨d,.inr (.inr (.inr rfl)),g,vi c d⟩
 exact⟨a,.inl rfl,vk a b,g⟩
 exact⟨b,.inr (.inl rfl),vi a b,g⟩
def yF (h:xM a b c d):¬Is a b c d/\∀x,¬lH a b c d x:=by
 unfold xM at h;refine⟨fun g=>?_,fun x ⟨h1,h2,h3⟩=>?_⟩
 unfold Is at g; omega
 have e2:=h2.1;have e3:=h3.1;rcases h1 with rfl|rfl|rfl|rfl<;>omega
noncomputable def ui (a b c d:I2):Int:=open Classical in if ∃x y,lH a b c d x/\lH a b c d y/\x≠y then 3 else if ∃x,lH a b c d x then 1 else if xM a b c d then 2 else 0
def I1 (hab:a≠b) (hcd:c≠d):ui a b c d=open Classical in if Is a b c d then(if 0<low a b c d then 0 else if low a b c d=0 then 1 else 3) else if xM a b c d then 2 else if cC a b c\/cC a b d\/cC c d a\/cC c d b then 1 else 0:=by
 classical
 unfold ui;have h2:=I0 hab hcd;have h1:=EO hab hcd
 by_cases hc:Is a b c d
 have hx:¬xM a b c d:=fun h=>(yF h).1 hc;rw[R0 hc,RZ hx]
 by_cases g1:0<low a b c d
 rw[R0 g1,RZ (fun h=>by have:=(h2.1 h).2; omega),RZ (fun h=>(h1.1 h).elim (fun g=>by have:=g.2; omega) (fun g=>g.1 hc))]
 by_cases g2:low a b c d=0
 rw[RZ g1,R0 g2,RZ (fun h=>by have:=(h2.1 h).2; omega),R0 (h1.2 (.inl ⟨hc,by omega⟩))]
 rw[RZ g1,RZ g2,R0 (h2.2 ⟨hc,by omega⟩)]
 rw[RZ hc,RZ (fun h=>hc (h2.1 h).1)]
 by_cases hx:xM a b c d
 rw[R0 hx,R0 hx,RZ (fun⟨x,h⟩=>(yF hx).2 x h)]
 rw[RZ hx,RZ hx]
 by_cases hb:cC a b c\/cC a b d\/cC c d a\/cC c d b
 rw[R0 hb,R0 (h1.2 (.inr ⟨hc,hb⟩))]
 rw[RZ hb,RZ (fun h=>(h1.1 h).elim (fun g=>hc g.1) (fun g=>hb g.2))]
def EF:ui a b c d=0↔NM a b c d:=by
 classical
 unfold ui NM;constructor
 intro h
 by_cases h1:∃x y,lH a b c d x/\lH a b c d y/\x≠y
 rw[R0 h1] at h; exact Sl h (by decide)
 rw[RZ h1] at h
 by_cases h2:∃x,lH a b c d x
 rw[R0 h2] at h; exact Sl h (by decide)
 rw[RZ h2] at h
 by_cases h3:xM a b c d
 rw[R0 h3] at h; exact Sl h (by decide)
 exact⟨fun x hx=>h2 ⟨x,hx⟩,h3⟩
 rintro⟨h1,h2⟩;rw[RZ (fun⟨x,_,hx,_⟩=>h1 x hx),RZ (fun⟨x,hx⟩=>h1 x hx)];exact RZ h2
end
def Co (a b p:I2):wi b a p = -wi a b p:=by
 have h:=iG a b p;unfold wi
 by_cases h1:a.2<=p.2/\p.2<b.2/\0<ti a b p
 rw[R0 h1,Uz,UA]
 by_cases h2:b.2<=p.2/\p.2<a.2/\ti a b p<0
 rw[RZ h1,R0 h2,UA]; rfl
 rw[RZ h1,RZ h2,Uz,Uz]; rfl
def dE (f:I2->I2) {r:List I2} (h:r≠[]) (i:Nat):nx (r.map f) i=f (nx r i):=by
 have hl:=List.length_pos_iff.2 h;unfold nx;rw[Sj];have hi:i%r.length<r.length:=SU _ hl;rw[R7,R7,SM,RY hi]; rfl
def wG {r:List I2}:nx r r.length=nx r 0:=by unfold nx; rw[Nat.mod_self,Nat.zero_mod]
section
variable {a b c d : I2}
def nE {x:I2}:lH a b c d x↔lH c d a b x:=by
 unfold lH;constructor<;>rintro⟨h,g1,g2⟩<;>exact⟨by rcases h with h|h|h|h<;>simp[h],g2,g1⟩
def IP:xM a b c d↔xM c d a b:=by unfold xM; exact And.comm
def Kv:ui c d a b=ui a b c d:=by
 classical
 have h1:(∃x y,lH c d a b x/\lH c d a b y/\x≠y)↔∃x y,lH a b c d x/\lH a b c d y/\x≠y :=
  ⟨fun⟨x,y,p,q,r⟩=>⟨x,y,nE.1 p,nE.1 q,r⟩,fun⟨x,y,p,q,r⟩=>⟨x,y,nE.1 p,nE.1 q,r⟩⟩
 have h2:(∃x,lH c d a b x)↔∃x,lH a b c d x:=⟨fun⟨x,p⟩=>⟨x,nE.1 p⟩,fun⟨x,p⟩=>⟨x,nE.1 p⟩⟩;unfold ui;simp only[h1,h2,IP (a:=c) (b:=d) (c:=a) (d:=b)]
end
def qR (r:List I2):Int:=bE r.length fun i=>(nx r i).1*(nx r (i+1)).2-(nx r i).2*(nx r (i+1)).1
def jr (n:Nat) (f g:Nat->Int):bE n (fun i=>f i+g i)=bE n f+bE n g:=by
 induction n with
 | zero=>rfl
 | succ n ih=>simp only[bE]; rw[ih]; omega
def rW (c:Int) (n:Nat) (f:Nat->Int):bE n (fun i=>c*f i)=c*bE n f:=by
 induction n with
 | zero=>simp[bE]
 | succ n ih=>simp only[bE]; rw[ih,Int.mul_add]
def Df (n:Nat) (f:Nat->Int):bE (n+1) f=f 0+bE n fun i=>f (i+1):=by
 induction n with
 | zero=>simp[bE]
 | succ n ih=>rw[bE,ih]; simp only[bE]; omega
def H0 (n:Nat) (f:Nat->Int):bE n (fun i=>f (n-1-i))=bE n f:=by
 induction n generalizing f with
 | zero=>rfl
 | succ n ih =>
  rw[Df];simp only[bE];have:bE n (fun i=>f (n+1-1-(i+1)))=bE n f:=by
   rw[<-ih f];exact aX fun i _=>by congr 1; omega
  rw[this,show n+1-1-0=n by omega]; omega
structure Chg (f:I2->I2) (k d:Int):Prop where
 inj:∀{a b},f a=f b->a=b
 ti:∀a b c,ti (f a) (f b) (f c)=k*ti a b c
 di:∀a b c,di (f a) (f b) (f c)=d*di a b c
 kp:k≠0
 dp:0<d
 btw:∀{a b c},cC (f a) (f b) (f c)↔cC a b c
def kC {k x:Int} (h:0<k):0<k*x↔0<x:=⟨fun g=>Int.pos_of_mul_pos_right g h,fun g=>Ub h g⟩
def gJ {k x:Int} (h:0<k):k*x<0↔x<0:=by
 have:=kC (x:=-x) h;rw[Int.mul_neg] at this;omega
section
variable {f : I2 -> I2} {k d : Int}
def Chg.Jx (h:Chg f k d) {a b c d x:I2}:lH (f a) (f b) (f c) (f d) (f x)↔lH a b c d x:=by
 unfold lH;rw[h.btw,h.btw];constructor
 rintro⟨g,e⟩;exact⟨by rcases g with g|g|g|g<;>simp[h.inj g],e⟩
 rintro⟨g,e⟩;exact⟨by rcases g with g|g|g|g<;>simp[g],e⟩
def Chg.Rs (h:Chg f k d) {a b c d:I2}:xM (f a) (f b) (f c) (f d)↔xM a b c d:=by
 unfold xM;rw[h.ti,h.ti,h.ti,h.ti];rcases Int.lt_or_gt_of_ne h.kp with g|g
 have e:∀x,k*x = -((-k)*x):=fun x=>by rw[Int.neg_mul]; omega
 have p:∀{x},0<k*x↔x<0:=fun {x}=>by rw[e]; have:=gJ (k:=-k) (x:=x) (by omega); omega
 have n:∀{x},k*x<0↔0<x:=fun {x}=>by rw[e]; have:=kC (k:=-k) (x:=x) (by omega); omega
 rw[p,p,p,p,n,n,n,n]; omega
 rw[kC g,kC g,kC g,kC g,gJ g,gJ g,gJ g,gJ g]
def FK {a b c d:I2}:NM a b c d↔(∀x,¬lH a b c d x)/\¬xM a b c d:=Iff.rfl
def Chg.nm (h:Chg f k d) {a b c d:I2}:NM (f a) (f b) (f c) (f d)↔NM a b c d:=by
 rw[FK,FK,h.Rs];refine and_congr_left fun _=>⟨fun g x hx=>g (f x) (h.Jx.2 hx),fun g x hx=>?_⟩;have:∃y,x=f y:=by
  rcases hx.1 with e|e|e|e<;>exact⟨_,e⟩
 obtain⟨y,rfl⟩:=this;exact g y (h.Jx.1 hx)
def Chg.vr (h:Chg f k d) {r:List I2} (v:VR r):VR (r.map f):=by
 have hr:r≠[]:=fun e=>by have:=v.n3; rw[e] at this; simp at this
 refine⟨by rw[Sj]; exact v.n3,fun i=>?_,fun i=>?_,fun j i h1 h2 h3=>?_⟩
 rw[dE f hr,dE f hr];exact fun e=>v.still i (h.inj e)
 rw[dE f hr,dE f hr,dE f hr,h.ti,h.di];rintro⟨e1,e2⟩;refine v.spike i ⟨?_,(gJ h.dp).1 e2⟩;rcases SV.1 e1 with e|e
 exact Sl e h.kp
 exact e
 rw[Sj] at h2 h3;rw[dE f hr,dE f hr,dE f hr,dE f hr,h.nm];exact v.meet j i h1 h2 h3
end
def ud (v:I2) (a:I2):I2:=(a.1+v.1,a.2+v.2)
def dy (s:Int) (a:I2):I2:=(a.1*s,a.2*s)
def Ih (s:Int) (a b c:I2):ti (dy s a) (dy s b) (dy s c)=s*s*ti a b c:=by unfold ti dy; grind
def pd {s x y:Int} (hs:0<s):x*s<=y*s↔x<=y:=⟨fun h=>Int.le_of_mul_le_mul_right h hs,fun h=>Tc h (Int.le_of_lt hs)⟩
def Ji {s:Int} (hs:0<s) {a b c:I2}:cC (dy s a) (dy s b) (dy s c)↔cC a b c:=by
 have hss:s*s≠0:=by have:=Ub hs hs; omega
 have m1:∀x y z:Int,min (x*s) (y*s)<=z*s↔min x y<=z:=fun x y z=>by
  have h1:=pd (x:=x) (y:=z) hs;have h2:=pd (x:=y) (y:=z) hs;omega
 have m2:∀x y z:Int,z*s<=max (x*s) (y*s)↔z<=max x y:=fun x y z=>by
  have h1:=pd (x:=z) (y:=x) hs;have h2:=pd (x:=z) (y:=y) hs;omega
 unfold cC;rw[Ih];unfold dy
 dsimp only
 rw[m1,m2,m1,m2];refine and_congr_left fun _=>⟨fun h=>?_,fun h=>by rw[h,Int.mul_zero]⟩
 rcases SV.1 h with e|e
 exact Sl e hss
 exact e
def Ce {s:Int} (hs:0<s):Chg (dy s) (s*s) (s*s):=by
 have hss:=Ub hs hs;refine⟨fun {a b} h=>?_,Ih s,fun a b c=>by unfold di dy; grind,by omega,hss,Ji hs⟩
 have h1:=SD Prod.fst h;have h2:=SD Prod.snd h;exact SO (Int.eq_of_mul_eq_mul_right (by omega) h1) (Int.eq_of_mul_eq_mul_right (by omega) h2)
def oG (r:List I2) {i j:Nat} (h:i%r.length=j%r.length):nx r i=nx r j:=by unfold nx; rw[h]
def wy (k:Nat):I2:=[(2,0),(2,1),(1,2),(0,2),(-1,2),(-2,1),(-2,0),(-2,-1),(-1,-2),(0,-2),(1,-2),(2,-1)].getD (k%12) (0,0)
def RA (m:Int) (a:I2):I2:=(a.1*m,a.2*m)
structure Star (r:List I2):Prop where
 n3:2<r.length
 dir:∃δ:Nat->Nat,(∀i,δ i < δ (i+1)/\δ (i+1)<=δ i+3)/\(∀i,δ (i+r.length)=δ i+12)/\∀i,∃m:Int,0<m/\nx r i=RA m (wy (δ i))
section
variable {h : Nat -> Int} (hp : ∀ i, 1 <= h i)
include hp
end
end Jd
end
section
namespace Go.Ab
open Go
end Go.Ab
end
section
namespace Go.Ab.W
open Go Go.Ab
section
variable {σ ρ τ : Type}
end
end Go.Ab.W
end
section
namespace Go.Ab.B
open Go Go.Ab Go.Ab.W
section
variable {α β σ ρ : Type}
def fk (a b:Option β):br true a b=a:=rfl
def fc (a b:Option β):br false a b=b:=rfl
def aJ (a:Option β):gd true a=a:=rfl
def ah (x:α) (f:α->Option β):ob (some x) f=f x:=rfl
def au {p:Prop} [Decidable p] (h:p) (a b:Option β):br (decide p) a b=a:=by rw[R3 h]; rfl
def Vf {p:Prop} [Decidable p] {a b:Option β} (h:p:=by omega):br (decide p) a b=a:=au h a b
def av {p:Prop} [Decidable p] (h:¬p) (a b:Option β):br (decide p) a b=b:=by rw[R6 h]; rfl
def Vg {p:Prop} [Decidable p] {a b:Option β} (h:¬p:=by omega):br (decide p) a b=b:=av h a b
def FZ (c:Bool) (a b:Option β):br c a b=if c then a else b:=by cases c<;>rfl
def kn (c d:Bool):br c (some true) (some d)=some (c || d):=by cases c<;>rfl
def cS (c d:Bool):br c (some d) (some false)=some (c && d):=by cases c<;>rfl
def fT {p:Prop} [Decidable p] (h:p) (a:Option β):gd (decide p) a=a:=by rw[R3 h]; rfl
def al {i n:Nat} (h:i<n):bw (i:Int) n=true:=R3 ⟨Int.natCast_nonneg i,by simpa using h⟩
def aB {x:Int} (h1 : -9223372036854775808<=x) (h2:x<9223372036854775808):Ux x=x:=wrap_i64 x h1 (by omega)
def aj {i:Nat} (h:i<4611686018427387904):Ux ((i:Int)+1)=((i+1:Nat):Int):=by rw[aB (by omega) (by omega)]; rfl
def Vh {i:Nat} (h:i<4611686018427387904:=by omega):Ux ((i:Int)+1)=((i+1:Nat):Int):=aj h
def fF {body:σ->Option (σ ⊕ ρ)} {n:Nat} {s s':σ} (h:body s=some (.inl s')):bg body (n+1) s=bg body n s':=by simp only[bg,h]
def fg {body:σ->Option (σ ⊕ ρ)} {n:Nat} {s:σ} {r:ρ} (h:body s=some (.inr r)):bg body (n+1) s=some r:=by simp only[bg,h]
end
def eB {u v B C:Int} (_:0<=B) (hu1 : -B<=u) (hu2:u<=B) (hv1 : -C<=v) (hv2:v<=C) : -(B*C)<=u*v/\u*v<=B*C:=by
 have hC:0<=C:=by omega
 have h1:0<=(B-u)*(C-v):=Tz (by omega) (by omega)
 have h2:0<=(B+u)*(C+v):=Tz (by omega) (by omega)
 have h3:0<=(B-u)*(C+v):=Tz (by omega) (by omega)
 have h4:0<=(B+u)*(C-v):=Tz (by omega) (by omega)
 have e1:(B-u)*(C-v)=B*C-B*v-u*C+u*v:=by rw[Int.sub_mul,Int.mul_sub,Int.mul_sub]; omega
 have e2:(B+u)*(C+v)=B*C+B*v+u*C+u*v:=by rw[Int.add_mul,Int.mul_add,Int.mul_add]; omega
 have e3:(B-u)*(C+v)=B*C+B*v-u*C-u*v:=by rw[Int.sub_mul,Int.mul_add,Int.mul_add]; omega
 have e4:(B+u)*(C-v)=B*C-B*v+u*C-u*v:=by rw[Int.add_mul,Int.mul_sub,Int.mul_sub]; omega
 omega
def vn {α:Type} [DecidableEq α]:∀{l m:List α},l.Nodup->(∀a ∈ l,a ∈ m)->l.length<=m.length
 | [],_,_,_=>S8 _
 | a::l,m,hn,hs=>by
  obtain⟨n1,n2⟩:=TK.1 hn;have ha:=hs a SP;have:=vn (l:=l) (m:=m.erase a) n2 fun b hb=>by
   have hne:b≠a:=fun e=>n1 (e ▸ hb);exact(List.mem_erase_of_ne hne).2 (hs b (Sx _ hb))
  rw[List.length_erase_of_mem ha] at this;have hp:0<m.length:=List.length_pos_of_mem ha;rw[SA]; omega
end Go.Ab.B
end
section
namespace Jd
def Lt (a b:I2):Prop:=a.1<b.1\/a.1=b.1/\a.2<b.2
instance (a b:I2):Decidable (Lt a b):=by unfold Lt; infer_instance
def Edge (Q:I2->Prop) (a b:I2):Prop:=Lt a b/\∀q,Q q->0<=ti a b q/\(ti a b q=0->¬Lt q a/\¬Lt b q)
inductive Stk (Q:I2->Prop):List I2->Prop
 | one {a}:(∀q,Q q->¬Lt q a)->Q a->Stk Q [a]
 | more {a b st}:Edge Q a b->Q b->Stk Q (a::st)->Stk Q (b::a::st)
def Good (S:I2->Prop) (x y:I2):Prop:=x≠y/\S y/\∀q,S q->0<ti x y q\/q=x\/q=y\/(ti x y q=0/\0<di x q y)
inductive Way (S:I2->Prop):List I2->Prop
 | one (a):Way S [a]
 | more {a b l}:Good S a b->Way S (b::l)->Way S (a::b::l)
def Jc {u v w:I2} (h1:u.1*w.2=u.2*w.1) (_:v.1*w.2=v.2*w.1) (g1:0<u.1*w.1+u.2*w.2) (g2:0<v.1*w.1+v.2*w.2):0<u.1*v.1+u.2*v.2:=by
 have e:(u.1*w.1+u.2*w.2)*(v.1*w.1+v.2*w.2)=(u.1*v.1+u.2*v.2)*(w.1*w.1+w.2*w.2):=by grind
 have p:=Ub g1 g2;rw[e] at p;have n:0<=w.1*w.1+w.2*w.2:=Int.add_nonneg N6 N6;rcases Int.lt_or_eq_of_le n with k|k
 rw[Int.mul_comm] at p; exact Int.pos_of_mul_pos_right p k
 rw[<-k,Int.mul_zero] at p; exact Sl p (by decide)
structure Hul (S:I2->Prop) (r:List I2):Prop where
 n3:2<r.length
 good:∀i,Good S (nx r i) (nx r (i+1))
 nodup:∀i j,i<j->j<r.length->nx r i≠nx r j
section
variable {S : I2 -> Prop} {r : List I2}
end
end Jd
end
section
namespace Go.Proofs.YtmndpgfbkicndaaGreat
section
open Go Go.Ab Go.Ab.W Go.Ab.B Jd
def pf (x:Int):Prop:=-9223372036854775808<=x/\x<9223372036854775808
def Fa (p:I2):Prop:=p.1 < -1000000\/1000000<p.1\/p.2 < -1000000\/1000000<p.2
instance (p:I2):Decidable (Fa p):=by unfold Fa; infer_instance
instance (a b p:I2):Decidable (cC a b p):=by unfold cC; infer_instance
def gG (a b:Int):ma a b=max a b:=by unfold ma; split<;>omega
def gB (a b:Int):mi a b=min a b:=by unfold mi; split<;>omega
def Lh {x:Int} (h:pf x):Ux (0-x)=if x = -9223372036854775808 then x else -x:=by
 unfold pf at h
 split
 rename_i e; subst e; decide
 rw[aB (by omega) (by omega)]; omega
def pB (n:Nat) {x y:Int} (hx:pf x) (hy:pf y):wx n x y=some (decide (Fa (x,y))):=by
 unfold wx;rw[Lh hx,Lh hy,ah,kn,<-T1]
 congr 1
 rw[decide_eq_decide];unfold pf at hx hy;unfold Fa
 dsimp only
 rw[gG,gG,gG,gB]
 split<;>split<;>omega
def sg (z:Int):Int:=if z<0 then -1 else if 0<z then 1 else 0
def vN (n:Nat) (x y:Int):AH n x y=some (sg (x-y)):=by
 unfold AH E0 sg;simp only[decide_true,SC,ah,fc]
 by_cases h:x<y
 rw[au h,R0 (show x-y<0 by omega)]
 rw[av h,RZ (show ¬x-y<0 by omega)]
 by_cases g:y<x
 rw[au g,R0 (show 0<x-y by omega)]
 rw[av g,RZ (show ¬0<x-y by omega)]
def Nr (p:I2):Prop:=-1000000<=p.1/\p.1<=1000000/\-1000000<=p.2/\p.2<=1000000
def uT {p:I2}:¬Fa p↔Nr p:=by unfold Fa Nr; omega
def mR (n:Nat) {a b c:I2} (ha:Nr a) (hb:Nr b) (hc:Nr c):uA n a.1 a.2 b.1 b.2 c.1 c.2=some (sg (ti a b c)):=by
 unfold Nr at ha hb hc;have m1:=eB (B:=2000000) (C:=2000000) (u:=b.1-a.1) (v:=c.2-a.2) (by decide) (by omega) (by omega) (by omega) (by omega)
 have m2:=eB (B:=2000000) (C:=2000000) (u:=b.2-a.2) (v:=c.1-a.1) (by decide) (by omega) (by omega) (by omega) (by omega)
 unfold uA;rw[aB (x:=b.1-a.1) (by omega) (by omega),aB (x:=c.2-a.2) (by omega) (by omega),aB (x:=b.2-a.2) (by omega) (by omega),aB (x:=c.1-a.1) (by omega) (by omega),
  aB (by omega) (by omega),aB (by omega) (by omega),ah,ah,vN,ah]
 rfl
def iN {z:Int}:sg z=0↔z=0:=by unfold sg; split<;>(try split)<;>omega
def sA {z:Int}:sg z<0↔z<0:=by unfold sg; split<;>(try split)<;>omega
def jy {z:Int}:0<sg z↔0<z:=by unfold sg; split<;>(try split)<;>omega
def j7 (z:Int):sg z = -1\/sg z=0\/sg z=1:=by unfold sg; split<;>(try split)<;>simp
def Kf (n:Nat) (r s:Int) (hn:2<n):FN n [r,s]=some (if r≠0 then r else s):=by
 obtain⟨n,rfl⟩:∃n',n=n'+3:=⟨n-3,by omega⟩
 have L0:mj (n+3) [r,s] 0=if r≠0 then some (.inr (.inl r)) else some (.inl 1):=by
  unfold mj;rw[au (by simp),show bw 0 [r,s].length=true from rfl,aJ]
  show ob (some r) _=_
  rw[ah]
  by_cases h:r=0
  rw[R3 h,SC,fc,RZ (by simpa using h)]; rfl
  rw[R6 h,Sz,fk,R0 h]
 have L1:mj (n+3) [r,s] 1=if s≠0 then some (.inr (.inl s)) else some (.inl 2):=by
  unfold mj;rw[au (by simp),show bw 1 [r,s].length=true from rfl,aJ]
  show ob (some s) _=_
  rw[ah]
  by_cases h:s=0
  rw[R3 h,SC,fc,RZ (by simpa using h)]; rfl
  rw[R6 h,Sz,fk,R0 h]
 have L2:mj (n+3) [r,s] 2=some (.inr (.inr ())):=by
  unfold mj;rw[av (by simp)]
 unfold FN
 by_cases h:r=0
 rw[RZ (by simpa using h)] at L0 ⊢
 rw[fF L0]
 by_cases g:s=0
 rw[RZ (by simpa using g)] at L1
 rw[fF L1,fg L2,ah,g]
 rw[R0 g] at L1;rw[fg L1,ah]
 rw[R0 h] at L0 ⊢;rw[fg L0,ah]
def P7 (a b:I2):Int:=if sg (a.1-b.1)≠0 then sg (a.1-b.1) else sg (a.2-b.2)
def xi (n:Nat) (a b:I2) (hn:2<n):wJ n a.1 a.2 b.1 b.2=some (P7 a b):=by
 unfold wJ;rw[vN,ah,vN,ah,Kf n _ _ hn,ah]; rfl
def wv {a b:I2}:P7 a b<=0↔Lx a b:=by
 unfold P7 Lx;have h1:=iN (z:=a.1-b.1);have h2:=jy (z:=a.1-b.1);have h3:=jy (z:=a.2-b.2)
 split<;>omega
def BZ (n:Nat) (e:Int) {a b p:I2} (ha:Nr a) (hb:Nr b) (hp:Nr p) (hab:a≠b) (hn:2<n):DV n e a.1 a.2 b.1 b.2 p.1 p.2=some (decide (cC a b p)):=by
 unfold DV;rw[mR n ha hb hp,ah]
 by_cases h0:ti a b p=0
 rw[R3 (iN.2 h0),SC,fc,xi n a b hn,ah];have key:∀{u v:I2},u≠v->Lx u v->ti u v p=0->(ob (wJ n u.1 u.2 p.1 p.2) fun r28=>br (decide (r28<=0)) (ob (wJ n p.1 p.2 v.1 v.2) fun r31=>some (decide (r31<=0))) (some false))=some (decide (cC u v p)):=fun {u v} huv hl ht=>by
  rw[xi n u p hn,ah,xi n p v hn,ah,cS,<-SB]
  congr 1
  rw[decide_eq_decide,M5 huv hl,wv,wv];exact⟨fun h=>⟨ht,h⟩,fun h=>h.2⟩
 by_cases hl:0<P7 a b
 rw[au hl,ah];have hl':Lx b a:=by
  have:¬Lx a b:=fun h=>by have:=wv.2 h; omega
  unfold Lx at this ⊢; omega
 have:=key hab.symm hl' (by rw[iG,h0]; rfl)
 dsimp only
 rw[this]
 congr 1
 rw[decide_eq_decide]; exact yd
 rw[av hl,ah];exact key hab (wv.1 (by omega)) h0
 rw[R6 (fun h=>h0 (iN.1 h)),Sz,fk,R6 fun h=>h0 h.1]
def tW {α β:Type} [DecidableEq α] (k:α):∀(xs:List (α × β)) (i:Nat),(da k xs i=none/\k ∉ xs.map Prod.fst)\/∃j v,da k xs i=some (i+j,v)/\(xs[j]?).map Prod.fst=some k
 | [],_=>.inl ⟨rfl,by simp⟩
 | e::es,i=>by
  unfold da
  by_cases h:k=e.1
  rw[R0 h]; exact .inr ⟨0,e.2,rfl,by rw[h]; rfl⟩
  rw[RZ h];rcases tW k es (i+1) with⟨h1,h2⟩|⟨j,v,h1,h2⟩
  exact .inl ⟨h1,fun g=>by
   rw[Tk,Sp] at g;exact g.elim h h2⟩
  exact .inr ⟨j+1,v,by rw[h1,show i+1+j=i+(j+1) by omega],h2⟩
def Eg {α β:Type} [DecidableEq α] (xs:List (α × β)) (k:α) (v:β):(jU xs k v).map Prod.fst=if k ∈ xs.map Prod.fst then xs.map Prod.fst else xs.map Prod.fst++[k]:=by
 unfold jU;rcases tW k xs 0 with⟨h1,h2⟩|⟨j,w,h1,h2⟩
 rw[h1,RZ h2]; simp
 rw[h1,Sw];have hj:j<xs.length:=by
  refine R1 fun hc=>?_;rw[SN (by omega)] at h2; cases h2
 have e:(xs.map Prod.fst)[j]? = some k:=by rw[SM]; exact h2
 rw[R0 (Sa e),List.map_set];refine SY fun t=>?_;rw[List.getElem?_set]
 by_cases ht:j=t
 subst ht;rw[R0 rfl,R0 (by rw[Sj]; exact hj),e]
 rw[RZ ht]
def xy (a b c d:I2) (l:List (I2 × Bool)) (x:I2):List (I2 × Bool):=if cC a b x/\cC c d x then jU l x true else l
def xU {a b c d:I2}:∀(xs:List I2) (l:List (I2 × Bool)),(l.map Prod.fst).Nodup->((xs.foldl (xy a b c d) l).map Prod.fst).Nodup/\∀q,q ∈ (xs.foldl (xy a b c d) l).map Prod.fst↔q ∈ l.map Prod.fst\/(q ∈ xs/\cC a b q/\cC c d q)
 | [],l,hn=>⟨hn,fun q=>by simp⟩
 | x::xs,l,hn=>by
  rw[List.foldl_cons];have key:((xy a b c d l x).map Prod.fst).Nodup/\∀q,q ∈ (xy a b c d l x).map Prod.fst↔q ∈ l.map Prod.fst\/(q=x/\cC a b q/\cC c d q):=by
   unfold xy
   by_cases h:cC a b x/\cC c d x
   rw[R0 h,Eg]
   by_cases g:x ∈ l.map Prod.fst
   rw[R0 g];exact⟨hn,fun q=>⟨.inl,fun e=>e.elim id fun e=>e.1 ▸ g⟩⟩
   rw[RZ g];refine⟨List.nodup_append.2 ⟨hn,by simp,fun u hu v hv=>?_⟩,fun q=>?_⟩
   rw[Sh] at hv;intro e; rw[e,hv] at hu; exact g hu
   rw[Sm,Sh];exact⟨fun e=>e.elim .inl fun e=>.inr ⟨e,e ▸ h⟩,fun e=>e.elim .inl fun e=>.inr e.1⟩
   rw[RZ h];exact⟨hn,fun q=>⟨.inl,fun e=>e.elim id fun⟨e,g⟩=>Sl (e ▸ g) h⟩⟩
  obtain⟨k1,k2⟩:=key;obtain⟨r1,r2⟩:=xU xs _ k1;refine⟨r1,fun q=>?_⟩;rw[r2,k2,Sp];constructor
  rintro((h|⟨rfl,h⟩) | ⟨h,g⟩)
  exact .inl h
  exact .inr ⟨.inl rfl,h⟩
  exact .inr ⟨.inr h,g⟩
  rintro(h|⟨rfl|h,g⟩)
  exact .inl (.inl h)
  exact .inl (.inr ⟨rfl,g⟩)
  exact .inr ⟨h,g⟩
def rC (n:Nat) (e f:Int) {a b c d x:I2} (ha:Nr a) (hb:Nr b) (hc:Nr c) (hd:Nr d) (hx:Nr x) (hab:a≠b) (hcd:c≠d) (hn:2<n) (l:List (I2 × Bool)) {i:Nat} (hi:i<4) (he:[a,b,c,d][i]? = some x) :
  lM n a.1 a.2 b.1 b.2 c.1 c.2 d.1 d.2 e f (l,(i:Int))=some (.inl (xy a b c d l x,((i+1:Nat):Int))):=by
 unfold lM
 dsimp only
 rw[Vf,al hi,aJ,Ss]
 have:[(a.1,a.2),(b.1,b.2),(c.1,c.2),(d.1,d.2)][i]? = some (x.1,x.2):=he;rw[this,ah]
 dsimp only
 rw[BZ n e ha hb hx hab hn,ah,BZ n f hc hd hx hcd hn,ah,cS,ah,Vh]
 unfold xy
 by_cases h:cC a b x/\cC c d x
 rw[R3 h.1,R3 h.2,R0 h]; rfl
 rw[RZ h,<-SB,R6 h]; rfl
def BK (n:Nat) (e f:Int) {a b c d:I2} (ha:Nr a) (hb:Nr b) (hc:Nr c) (hd:Nr d) (hab:a≠b) (hcd:c≠d) (hn:5<n):Dp n e a.1 a.2 b.1 b.2 f c.1 c.2 d.1 d.2=some (ui a b c d):=by
 classical
 unfold Dp;rw[mR n ha hb hc,ah,mR n ha hb hd,ah,mR n hc hd ha,ah,mR n hc hd hb,ah];have L:bg (lM n a.1 a.2 b.1 b.2 c.1 c.2 d.1 d.2 e f) n ([],0)=some ([a,b,c,d].foldl (xy a b c d) []):=by
  obtain⟨m,hm⟩:∃m,n=m+5:=⟨n-5,by omega⟩
  have L5:∀l,lM n a.1 a.2 b.1 b.2 c.1 c.2 d.1 d.2 e f (l,((4:Nat):Int))=some (.inr l):=fun l=>by
   unfold lM
   dsimp only
   rw[av (by decide)]
  have h0:=rC n e f ha hb hc hd ha hab hcd (by omega) [] (i:=0) (by decide) rfl
  have h1:=rC n e f ha hb hc hd hb hab hcd (by omega) (xy a b c d [] a) (i:=1) (by decide) rfl
  have h2:=rC n e f ha hb hc hd hc hab hcd (by omega) (xy a b c d (xy a b c d [] a) b) (i:=2) (by decide) rfl
  have h3:=rC n e f ha hb hc hd hd hab hcd (by omega) (xy a b c d (xy a b c d (xy a b c d [] a) b) c) (i:=3) (by decide) rfl
  have:∀body:(List (I2 × Bool) × Int)->Option ((List (I2 × Bool) × Int) ⊕ List (I2 × Bool)),body=lM n a.1 a.2 b.1 b.2 c.1 c.2 d.1 d.2 e f->bg body n ([],0)=some ([a,b,c,d].foldl (xy a b c d) []):=fun body hbd=>by
   rw[<-hbd] at h0 h1 h2 h3 L5;rw[hm,show(0:Int)=((0:Nat):Int) from rfl,fF h0,fF h1,fF h2,fF h3,fg (L5 _)]
   rfl
  exact this _ rfl
 obtain⟨k1,k2⟩:=xU (a:=a) (b:=b) (c:=c) (d:=d) [a,b,c,d] [] (by simp)
 have hlen:([a,b,c,d].foldl (xy a b c d) []).length=(([a,b,c,d].foldl (xy a b c d) []).map Prod.fst).length:=by rw[Sj]
 rw[L,ah];generalize [a,b,c,d].foldl (xy a b c d) []=l at *;have kc:∀q,q ∈ l.map Prod.fst↔lH a b c d q:=fun q=>by
  rw[k2];unfold lH;constructor
  rintro(h|⟨h,g⟩)
  simp at h
  exact⟨by simpa only[Sp,List.not_mem_nil,or_false] using h,g⟩
  rintro⟨h,g⟩;exact .inr ⟨by simpa only[Sp,List.not_mem_nil,or_false] using h,g⟩
 rw[ah,ah,hlen];generalize l.map Prod.fst=ks at *;unfold ui
 by_cases h2:∃x y,lH a b c d x/\lH a b c d y/\x≠y
 obtain⟨x,y,hx,hy,hne⟩:=h2;have:=vn (l:=[x,y]) (m:=ks) (by simp[hne]) fun q hq=>by
  simp only[Sp,List.not_mem_nil,or_false] at hq;rcases hq with rfl|rfl
  exact(kc _).2 hx
  exact(kc _).2 hy
 have hl:2<=ks.length:=this;rw[Vf,R0 ⟨x,y,hx,hy,hne⟩]
 ·have hl1:ks.length<=1:=by
   match ks,k1,kc with
   | [],_,_=>exact S8 _
   | [_],_,_=>exact R5 _
   | x::y::t,k1,kc =>
    refine Sl ⟨x,y,(kc x).1 (by simp),(kc y).1 (by simp),?_⟩ h2
    intro e; subst e; simp at k1
  rw[RZ h2,Vg]
  by_cases h1:∃x,lH a b c d x
  obtain⟨x,hx⟩:=h1;have:0<ks.length:=List.length_pos_of_mem ((kc x).2 hx);rw[R0 ⟨x,hx⟩,Vf]
  ·have:ks.length=0:=by
    match ks,kc with
    | [],_=>rfl
    | x::t,kc=>exact Sl ⟨x,(kc x).1 (by simp)⟩ h1
   rw[RZ h1,Vg]
   have w:∀u v:Int,Ux (sg u*sg v)=sg u*sg v:=fun u v=>by
    have h1:=j7 u;have h2:=j7 v;rcases h1 with h1|h1|h1<;>rcases h2 with h2|h2|h2<;>rw[h1,h2]<;>decide
   have s:∀u v:Int,sg u*sg v<0↔(0<u/\v<0)\/(u<0/\0<v):=fun u v=>by
    have a1:=sA (z:=u);have a2:=jy (z:=u);have b1:=sA (z:=v);have b2:=jy (z:=v);have h1:=j7 u;have h2:=j7 v;rcases h1 with h1|h1|h1<;>rcases h2 with h2|h2|h2<;>rw[h1] at a1 a2 ⊢<;>rw[h2] at b1 b2 ⊢<;>omega
   rw[w,w,cS,ah,FZ]
   by_cases hx:xM a b c d
   rw[R0 hx,R0];unfold xM at hx;rw[R4,Sf,Sf,s,s];exact hx
   rw[RZ hx,RZ];rw[R4,Sf,Sf,s,s];exact hx
def IZ (n:Nat) {a b c d:I2} (ha:pf a.1/\pf a.2) (hb:pf b.1/\pf b.2) (hc:pf c.1/\pf c.2) (hd:pf d.1/\pf d.2) (hn:5<n) :
  HF n a.1 a.2 b.1 b.2 c.1 c.2 d.1 d.2=some (if Fa a\/Fa b\/Fa c\/Fa d\/a=b\/c=d then(0,2) else(ui a b c d,0)):=by
 classical
 unfold HF;rw[pB n ha.1 ha.2,pB n hb.1 hb.2,pB n hc.1 hc.2,pB n hd.1 hd.2,ah,ah,ah,ah,kn,kn,kn,kn,kn,ah];have e1:(decide (a.1=b.1) && decide (a.2=b.2))=decide (a=b):=by
  rw[<-SB,decide_eq_decide]; exact⟨fun h=>SO h.1 h.2,fun h=>by subst h; exact⟨rfl,rfl⟩⟩
 have e2:(decide (c.1=d.1) && decide (c.2=d.2))=decide (c=d):=by
  rw[<-SB,decide_eq_decide]; exact⟨fun h=>SO h.1 h.2,fun h=>by subst h; exact⟨rfl,rfl⟩⟩
 rw[e1,e2,FZ];have hd:(decide (Fa (a.1,a.2)) || (decide (Fa (b.1,b.2)) || (decide (Fa (c.1,c.2)) || (decide (Fa (d.1,d.2)) || (decide (a=b) || decide (c=d))))))=decide (Fa a\/Fa b\/Fa c\/Fa d\/a=b\/c=d):=by
  simp only[T1]
 rw[hd]
 by_cases h:Fa a\/Fa b\/Fa c\/Fa d\/a=b\/c=d
 rw[R0 (R3 h),R0 h]
 rw[RZ (by simpa using h),RZ h]
 simp only[not_or] at h;obtain⟨h1,h2,h3,h4,h5,h6⟩:=h;rw[BK n 0 0 (uT.1 h1) (uT.1 h2) (uT.1 h3) (uT.1 h4) h5 h6 hn,ah]
end
section
open Go Go.Ab Go.Ab.W Go.Ab.B Jd
def bK {ρ:Type} (f:Nat->Option ρ) (e:ρ):Nat->Nat->ρ
 | 0,_=>e
 | k+1,i=>match f i with
  | some r=>r
  | none=>bK f e k (i+1)
def bj {ρ:Type} {B:Int->Option (Int ⊕ ρ)} {f:Nat->Option ρ} {e:ρ} {len:Nat} (hB:∀i:Nat,i<len->B (i:Int)=some (match f i with|some r=>.inr r|none=>.inl ((i+1:Nat):Int))) (hE:B (len:Int)=some (.inr e)) :
  ∀(k i n:Nat),i+k=len->k<n->bg B n (i:Int)=some (bK f e k i)
 | 0,i,n+1,h,_=>by
  rw[Tj] at h; subst h;simp only[bg,hE,bK]
 | k+1,i,n+1,h,hn=>by
  have:=hB i (by omega)
  simp only[bg,this,bK];cases hf:f i with
  | some r=>rfl
  | none=>exact bj hB hE k (i+1) n (by omega) (by omega)
def cG {ρ:Type} {f:Nat->Option ρ} {e:ρ}:∀(k i:Nat),((∀j,i<=j->j<i+k->f j=none)/\bK f e k i=e)\/∃j,i<=j/\j<i+k/\f j=some (bK f e k i)
 | 0,i=>.inl ⟨fun j h1 h2=>by omega,rfl⟩
 | k+1,i=>by
  cases hf:f i with
  | some r=>exact .inr ⟨i,by omega,by omega,by simp only[bK,hf]⟩
  | none =>
   have e1:bK f e (k+1) i=bK f e k (i+1):=by simp only[bK,hf]
   rw[e1];rcases cG (f:=f) (e:=e) k (i+1) with⟨h1,h2⟩|⟨j,h1,h2,h3⟩
   refine .inl ⟨fun j a b=>?_,h2⟩
   by_cases e:j=i
   rw[e]; exact hf
   exact h1 j (by omega) (by omega)
   exact .inr ⟨j,by omega,by omega,h3⟩
def eJ {l:List I2} {i:Nat} (h:i<l.length):l[((i:Nat):Int).toNat]? = some ((nx l i).1,(nx l i).2):=by
 rw[Ss,RY h];unfold nx;rw[TC h,R7,RY h]; rfl
def iT (m n:Nat):Int.tmod (m:Int) (n:Int)=((m%n:Nat):Int):=rfl
def vt {l:List I2} {i:Nat}:nx l (i%l.length)=nx l i:=by unfold nx; rw[Nat.mod_mod]
def Hh (n:Nat) (p:I2):NS n p.1 p.2=some (decide (Fa p)):=by
 unfold NS Fa;rw[kn,kn,kn,<-T1,<-T1,<-T1]
def nw (n:Nat) {l:List I2} (i:Nat) (h:l≠[]):uC n l (i:Int)=some ((nx l i).1,(nx l i).2):=by
 have hl:0<l.length:=List.length_pos_iff.2 h;have hm:i%l.length<l.length:=SU _ hl;unfold uC;rw[R3 (show((l.length:Nat):Int)≠0 by omega),aJ,iT,al hm,aJ,eJ hm,ah,vt]
def nv (n:Nat) {a b c:I2} (ha:Nr a) (hb:Nr b) (hc:Nr c):pV n a.1 a.2 b.1 b.2 c.1 c.2=some (ti a b c):=by
 unfold Nr at ha hb hc;have m1:=eB (B:=2000000) (C:=2000000) (u:=b.1-a.1) (v:=c.2-a.2) (by decide) (by omega) (by omega) (by omega) (by omega)
 have m2:=eB (B:=2000000) (C:=2000000) (u:=b.2-a.2) (v:=c.1-a.1) (by decide) (by omega) (by omega) (by omega) (by omega)
 unfold pV;rw[aB (x:=b.1-a.1) (by omega) (by omega),aB (x:=c.2-a.2) (by omega) (by omega),aB (x:=b.2-a.2) (by omega) (by omega),aB (x:=c.1-a.1) (by omega) (by omega),
  aB (by omega) (by omega),aB (by omega) (by omega),ah,ah,aB (by omega) (by omega)]
 rfl
def OO {a b c:I2} (ha:Nr a) (hb:Nr b) (hc:Nr c):Ux (Ux ((Ux (b.1-a.1))*(Ux (c.1-b.1)))+Ux ((Ux (b.2-a.2))*(Ux (c.2-b.2))))=di a b c:=by
 unfold Nr at ha hb hc;have m1:=eB (B:=2000000) (C:=2000000) (u:=b.1-a.1) (v:=c.1-b.1) (by decide) (by omega) (by omega) (by omega) (by omega)
 have m2:=eB (B:=2000000) (C:=2000000) (u:=b.2-a.2) (v:=c.2-b.2) (by decide) (by omega) (by omega) (by omega) (by omega)
 rw[aB (x:=b.1-a.1) (by omega) (by omega),aB (x:=c.1-b.1) (by omega) (by omega),aB (x:=b.2-a.2) (by omega) (by omega),aB (x:=c.2-b.2) (by omega) (by omega),
  aB (x:=(b.1-a.1)*(c.1-b.1)) (by omega) (by omega),aB (x:=(b.2-a.2)*(c.2-b.2)) (by omega) (by omega),aB (by omega) (by omega)]
 rfl
def J3 (n:Nat) {a b c:I2} (ha:Nr a) (hb:Nr b) (hc:Nr c):EM n a.1 a.2 b.1 b.2 c.1 c.2=some (di a b c):=by
 unfold EM;rw[ah,ah,OO ha hb hc]
def rp (n:Nat) (z:Int):zx n z=some (sg z):=by
 unfold zx sg
 by_cases h:0<z
 rw[au h,Uz,R0 h]
 rw[av h,RZ h]
 by_cases g:z<0
 rw[au g,R0 g]
 rw[av g,RZ g]
def ri (n:Nat) {a b p:I2} (ha:Nr a) (hb:Nr b) (hp:Nr p):s6 n a.1 a.2 b.1 b.2 p.1 p.2=some (decide (cC a b p)):=by
 unfold s6;rw[nv n ha hb hp,ah]
 by_cases h:ti a b p=0
 rw[R3 h,SC,fc,cS,cS,cS,gG,gG,gB,gB,<-SB,<-SB,<-SB]
 congr 1
 rw[decide_eq_decide];unfold cC;exact⟨fun g=>⟨h,g⟩,fun g=>g.2⟩
 rw[R6 h,Sz,fk,R6 fun g=>h g.1]
def Ld {a b c d:I2} (ha:Nr a) (hb:Nr b) (hc:Nr c) (hd:Nr d) :
  Ux ((ma (mi a.1 b.1) (mi c.1 d.1))-(mi (ma a.1 b.1) (ma c.1 d.1)))=max (min a.1 b.1) (min c.1 d.1)-min (max a.1 b.1) (max c.1 d.1) /\
  Ux ((ma (mi a.2 b.2) (mi c.2 d.2))-(mi (ma a.2 b.2) (ma c.2 d.2)))=max (min a.2 b.2) (min c.2 d.2)-min (max a.2 b.2) (max c.2 d.2):=by
 unfold Nr at ha hb hc hd;simp only[gG,gB];exact⟨aB (by omega) (by omega),aB (by omega) (by omega)⟩
def Bs (x y:Int):Ux (sg x*sg y)=sg x*sg y:=by
 rcases j7 x with h|h|h<;>rcases j7 y with g|g|g<;>rw[h,g]<;>decide
def xr (x y:Int):sg x*sg y<0↔(0<x/\y<0)\/(x<0/\0<y):=by
 unfold sg
 split<;>split<;>(try split)<;>(try split)<;>omega
def B8 (n:Nat) {a b c d:I2} (ha:Nr a) (hb:Nr b) (hc:Nr c) (hd:Nr d) (hab:a≠b) (hcd:c≠d):DR n a.1 a.2 b.1 b.2 c.1 c.2 d.1 d.2=some (ui a b c d):=by
 classical
 rw[I1 hab hcd];unfold DR;rw[nv n ha hb hc,ah,rp,ah,nv n ha hb hd,ah,rp,ah,nv n hc hd ha,ah,rp,ah,nv n hc hd hb,ah,rp,ah,cS,ah,<-SB];rw[(Ld ha hb hc hd).1,(Ld ha hb hc hd).2]
 by_cases h:Is a b c d
 have h':sg (ti a b c)=0/\sg (ti a b d)=0:=⟨iN.2 h.1,iN.2 h.2⟩;rw[au h',R0 h];have hl:(ob (some (max (min a.1 b.1) (min c.1 d.1)-min (max a.1 b.1) (max c.1 d.1))) fun y54=>ob (br (decide (a.1=b.1)) (ob (some (max (min a.2 b.2) (min c.2 d.2)-min (max a.2 b.2) (max c.2 d.2))) fun y61=>some y61) (some y54)) fun v59=>br (decide (0<v59)) (some (0:Int)) (br (decide (v59=0)) (some 1) (some 3)))
   = br (decide (0<low a b c d)) (some 0) (br (decide (low a b c d=0)) (some 1) (some 3)):=by
  unfold low
  by_cases e:a.1=b.1
  rw[ah,au e,ah,ah,R0 e]
  rw[ah,av e,ah,RZ e]
 rw[hl]
 by_cases g:0<low a b c d
 rw[au g,R0 g]
 rw[av g,RZ g]
 by_cases k:low a b c d=0
 rw[au k,R0 k]
 rw[av k,RZ k]
 have h':¬(sg (ti a b c)=0/\sg (ti a b d)=0):=fun g=>h ⟨iN.1 g.1,iN.1 g.2⟩;rw[av h',RZ h,Bs,Bs,cS,ah,<-SB]
 by_cases g:xM a b c d
 have g':sg (ti a b c)*sg (ti a b d)<0/\sg (ti c d a)*sg (ti c d b)<0:=⟨(xr _ _).2 g.1,(xr _ _).2 g.2⟩;rw[au g',R0 g]
 have g':¬(sg (ti a b c)*sg (ti a b d)<0/\sg (ti c d a)*sg (ti c d b)<0):=fun k=>g ⟨(xr _ _).1 k.1,(xr _ _).1 k.2⟩;rw[av g',RZ g,ri n ha hb hc,ri n ha hb hd,ri n hc hd ha,ri n hc hd hb];simp only[ah,kn,<-T1]
 by_cases k:cC a b c\/cC a b d\/cC c d a\/cC c d b
 rw[au k,R0 k]
 rw[av k,RZ k]
end
section
open Go Go.Ab Go.Ab.W Go.Ab.B Jd
def jE (l:List I2) (i:Nat):Option (Int ⊕ Unit):=if Fa (nx l i) then some (.inl (i:Int)) else none
def gE (l:List I2) (i:Nat):Option (Int ⊕ Unit):=if nx l i=nx l (i+1) then some (.inl (i:Int)) else none
def il (l:List I2) (i:Nat):Option (Int ⊕ Unit):=if ti (nx l (i+l.length-1)) (nx l i) (nx l (i+1))=0/\di (nx l (i+l.length-1)) (nx l i) (nx l (i+1))<0 then some (.inl (i:Int)) else none
def ug (l:List I2) (i j:Nat):Prop:=¬(j=0/\i=l.length-1)/\ui (nx l j) (nx l (j+1)) (nx l i) (nx l (i+1))≠0
open Classical in
noncomputable def iC (l:List I2) (i:Nat):Option (Int ⊕ Unit):=if ∃j,j+1<i/\ug l i j then some (.inl (i:Int)) else none
noncomputable def pD (l:List I2):Int × Int :=
 if l.length<3\/40<l.length then(1,0) else
 match bK (jE l) (.inr ()) l.length 0 with
 | .inl v=>(2,v)
 | .inr _=>match bK (gE l) (.inr ()) l.length 0 with
  | .inl v=>(3,v)
  | .inr _=>match bK (il l) (.inr ()) l.length 0 with
   | .inl v=>(4,v)
   | .inr _=>match bK (iC l) (.inr ()) l.length 0 with
    | .inl v=>(5,v)
    | .inr _=>(0,0)
section
variable {l : List I2} (n : Nat)
def rN (p q:I2):(decide (p.1=q.1) && decide (p.2=q.2))=decide (p=q):=by
 rw[<-SB,decide_eq_decide]; exact⟨fun h=>SO h.1 h.2,fun h=>by subst h; exact⟨rfl,rfl⟩⟩
def Dd (hn:l.length<n) (hl:l.length<100):bg (tw n l) n 0=some (bK (jE l) (.inr ()) l.length 0):=by
 refine bj (len:=l.length) (fun i hi=>?_) ?_ l.length 0 n (by omega) hn
 unfold tw jE
 dsimp only
 rw[Vf,al hi,aJ,eJ hi,ah]
 dsimp only
 rw[Hh,ah,Vh]
 by_cases h:Fa (nx l i)
 rw[au h,R0 h]
 rw[av h,RZ h]
 unfold tw
 dsimp only
 rw[Vg]
def CU (h64:∀i,pf (nx l i).1/\pf (nx l i).2) (hn:l.length<n) (hl:l.length<100):bg (tG n l) n 0=some (bK (jE l) (.inr ()) l.length 0):=by
 refine bj (len:=l.length) (fun i hi=>?_) ?_ l.length 0 n (by omega) hn
 unfold tG jE
 dsimp only
 rw[Vf,al hi,aJ,eJ hi,ah]
 dsimp only
 rw[pB n (h64 i).1 (h64 i).2,ah,Vh]
 by_cases h:Fa (nx l i)
 rw[au (show Fa ((nx l i).1,(nx l i).2) from h),R0 h]
 rw[av (show ¬Fa ((nx l i).1,(nx l i).2) from h),RZ h]
 unfold tG
 dsimp only
 rw[Vg]
def C2 (hn:l.length<n) (hl:l.length<100):bg (tU n l) n 0=some (bK (gE l) (.inr ()) l.length 0):=by
 refine bj (len:=l.length) (fun i hi=>?_) ?_ l.length 0 n (by omega) hn
 have hne:l≠[]:=by rintro rfl; cases hi
 unfold tU gE
 dsimp only
 rw[Vf,al hi,aJ,eJ hi,ah]
 dsimp only
 rw[Vh,nw n (i+1) hne,ah]
 dsimp only
 rw[rN]
 by_cases h:nx l i=nx l (i+1)
 rw[au h,R0 h]
 rw[av h,RZ h]
 unfold tU
 dsimp only
 rw[Vg]
def kF (i:Nat) (hi:i<l.length) (hl:l.length<100) {β:Type} (K:Int × Int->Option β) :
  gd (decide ((l.length:Int)≠0)) (gd (bw (Int.tmod ((i+1:Nat):Int) (l.length:Int)) l.length) (ob (l[(Int.tmod ((i+1:Nat):Int) (l.length:Int)).toNat]?) K))=K ((nx l (i+1)).1,(nx l (i+1)).2):=by
 have hm:(i+1)%l.length<l.length:=SU _ (by omega)
 rw[R3 (show((l.length:Nat):Int)≠0 by omega),aJ,iT,al hm,aJ,eJ hm,ah,vt]
def DT (hn:l.length<n) (hl:l.length<100):bg (tl n l) n 0=some (bK (gE l) (.inr ()) l.length 0):=by
 refine bj (len:=l.length) (fun i hi=>?_) ?_ l.length 0 n (by omega) hn
 unfold tl gE
 dsimp only
 rw[Vf,al hi,aJ,eJ hi,ah]
 dsimp only
 rw[Vh,kF i hi hl]
 dsimp only
 rw[rN]
 by_cases h:nx l i=nx l (i+1)
 rw[au h,R0 h]; rfl
 rw[av h,RZ h]; rfl
 unfold tl
 dsimp only
 rw[Vg]
def Dc (hnr:∀i,Nr (nx l i)) (hn:l.length<n) (hl:l.length<100):bg (tH n l) n 0=some (bK (il l) (.inr ()) l.length 0):=by
 refine bj (len:=l.length) (fun i hi=>?_) ?_ l.length 0 n (by omega) hn
 have hne:l≠[]:=by rintro rfl; cases hi
 have e1:Ux ((Ux ((i:Int)+(l.length:Int)))-1)=((i+l.length-1:Nat):Int):=by
  rw[aB (x:=(i:Int)+(l.length:Int)) (by omega) (by omega),aB (by omega) (by omega)]; omega
 unfold tH il
 dsimp only
 rw[Vf,e1,nw n _ hne,ah]
 dsimp only
 rw[al hi,aJ,eJ hi,ah]
 dsimp only
 rw[Vh,nw n (i+1) hne,ah]
 dsimp only
 rw[nv n (hnr _) (hnr _) (hnr _),ah,J3 n (hnr _) (hnr _) (hnr _),ah,cS,ah,<-SB]
 by_cases h:ti (nx l (i+l.length-1)) (nx l i) (nx l (i+1))=0/\di (nx l (i+l.length-1)) (nx l i) (nx l (i+1))<0
 rw[au h,R0 h]
 rw[av h,RZ h]
 unfold tH
 dsimp only
 rw[Vg]
def DJ (hnr:∀i,Nr (nx l i)) (hn:l.length<n) (hl:l.length<100):bg (tq n l) n 0=some (bK (il l) (.inr ()) l.length 0):=by
 refine bj (len:=l.length) (fun i hi=>?_) ?_ l.length 0 n (by omega) hn
 have hm:(i+l.length-1)%l.length<l.length:=SU _ (by omega)
 have e1:Ux ((Ux ((i:Int)+(l.length:Int)))-1)=((i+l.length-1:Nat):Int):=by
  rw[aB (x:=(i:Int)+(l.length:Int)) (by omega) (by omega),aB (by omega) (by omega)]; omega
 unfold tq il
 dsimp only
 rw[Vf,al hi,aJ,eJ hi,ah]
 dsimp only
 rw[Vh,kF i hi hl]
 dsimp only
 rw[e1,R3 (show((l.length:Nat):Int)≠0 by omega),aJ,iT,ah,al hm,aJ,eJ hm,vt,ah]
 dsimp only
 rw[mR n (hnr _) (hnr _) (hnr _),ah,ah,ah,OO (hnr _) (hnr _) (hnr _),cS,ah,<-SB]
 by_cases h:ti (nx l (i+l.length-1)) (nx l i) (nx l (i+1))=0/\di (nx l (i+l.length-1)) (nx l i) (nx l (i+1))<0
 rw[au (show _/\_ from⟨iN.2 h.1,h.2⟩),R0 h]; rfl
 rw[av (fun g=>h ⟨iN.1 g.1,g.2⟩),RZ h]; rfl
 unfold tq
 dsimp only
 rw[Vg]
end
end
section
open Go Go.Ab Go.Ab.W Go.Ab.B Jd
section
variable {l : List I2} (n : Nat)
open Classical in
noncomputable def DI {ρ:Type} (l:List I2) (r:ρ) (i j:Nat):Option ρ:=if ug l i j then some r else none
def H3 {ρ:Type} {r e:ρ} (_:r≠e) {i:Nat}:(bK (DI l r i) e (i-1) 0=r/\∃j,j+1<i/\ug l i j)\/(bK (DI l r i) e (i-1) 0=e/\¬∃j,j+1<i/\ug l i j):=by
 classical
 rcases cG (f:=DI l r i) (e:=e) (i-1) 0 with⟨h1,h2⟩|⟨j,_,h2,h3⟩
 refine .inr ⟨h2,?_⟩;rintro⟨j,hj,hh⟩;have:=h1 j (by omega) (by omega)
 unfold DI at this;rw[R0 hh] at this;cases this
 unfold DI at h3
 split at h3
 rename_i hh;exact .inl ⟨(R2 h3).symm,j,by omega,hh⟩
 cases h3
def DS (hnr:∀i,Nr (nx l i)) (hst:∀i,nx l i≠nx l (i+1)) {i:Nat} (hi:i<l.length) (hn:l.length<n) (hl:l.length<100):bg (tY n (i:Int) l) n 0=some (bK (DI l (.inl ()) i) (.inr ()) (i-1) 0):=by
 classical
 have hne:l≠[]:=by rintro rfl; cases hi
 refine bj (len:=i-1) (fun j hj=>?_) ?_ (i-1) 0 n (by omega) (by omega)
 have e1:Ux ((l.length:Int)-1)=(l.length:Int)-1:=aB (by omega) (by omega)
 unfold tY DI
 dsimp only
 rw[Vh,Vf,cS,ah,e1,<-SB]
 by_cases h:(j:Int)=0/\(i:Int)=(l.length:Int)-1
 rw[au h,ah,RZ (fun g:ug l i j=>g.1 ⟨by omega,by omega⟩)]
 rw[av h,al (by omega),aJ,eJ (by omega),ah]
 dsimp only
 rw[al (by omega),aJ,eJ (by omega),ah]
 dsimp only
 rw[al hi,aJ,eJ hi,ah]
 dsimp only
 rw[Vh,nw n (i+1) hne,ah]
 dsimp only
 rw[B8 n (hnr _) (hnr _) (hnr _) (hnr _) (hst _) (hst _),ah]
 by_cases g:ui (nx l j) (nx l (j+1)) (nx l i) (nx l (i+1))=0
 rw[R3 g,SC,fc,ah,RZ (fun k:ug l i j=>k.2 g)]
 rw[R6 g,Sz,fk,ah,R0 (show ug l i j from⟨fun k=>h ⟨by omega,by omega⟩,g⟩)]
 unfold tY
 dsimp only
 rw[Vh,Vg]
def Ee (hnr:∀i,Nr (nx l i)) (hst:∀i,nx l i≠nx l (i+1)) {i:Nat} (hi:i<l.length) (hn:l.length<n) (h5:5<n) (hl:l.length<100) :
  bg (sI n l (i:Int) (nx l i).1 (nx l i).2 (nx l (i+1)).1 (nx l (i+1)).2) n 0=some (bK (DI l (.inr (.inl ())) i) (.inl ()) (i-1) 0):=by
 classical
 have hne:l≠[]:=by rintro rfl; cases hi
 have e0:Ux ((i:Int)-1)=(i:Int)-1:=aB (by omega) (by omega)
 refine bj (len:=i-1) (fun j hj=>?_) ?_ (i-1) 0 n (by omega) (by omega)
 ·have e1:Ux ((l.length:Int)-1)=(l.length:Int)-1:=aB (by omega) (by omega)
  unfold sI DI
  dsimp only
  rw[Vf,al (by omega),aJ,eJ (by omega),ah]
  dsimp only
  rw[Vh,kF j (by omega) hl]
  try dsimp only
  rw[e0,Vg,cS,ah,e1,<-SB]
  by_cases h:(j:Int)=0/\(i:Int)=(l.length:Int)-1
  rw[au h,ah,RZ (fun g:ug l i j=>g.1 ⟨by omega,by omega⟩)]
  rw[av h,BK n _ _ (hnr _) (hnr _) (hnr _) (hnr _) (hst _) (hst _) h5,Kv,ah]
  by_cases g:ui (nx l j) (nx l (j+1)) (nx l i) (nx l (i+1))=0
  rw[R3 g,SC,fc,ah,RZ (fun k:ug l i j=>k.2 g)]
  rw[R6 g,Sz,fk,ah,R0 (show ug l i j from⟨fun k=>h ⟨by omega,by omega⟩,g⟩)]
 ·unfold sI
  dsimp only
  rw[Vf,al (by omega),aJ,eJ (by omega),ah]
  dsimp only
  rw[Vh,kF (i-1) (by omega) hl]
  try dsimp only
  rw[e0,Vf,ah]
def D2 (hnr:∀i,Nr (nx l i)) (hst:∀i,nx l i≠nx l (i+1)) (hn:l.length<n) (hl:l.length<100):bg (rO n l) n 0=some (bK (iC l) (.inr ()) l.length 0):=by
 classical
 refine bj (len:=l.length) (fun i hi=>?_) ?_ l.length 0 n (by omega) hn
 ·unfold rO iC
  try dsimp only
  rw[Vf,DS n hnr hst hi hn hl,ah,Vh]
  rcases H3 (l:=l) (r:=(.inl ():Unit ⊕ Unit)) (e:=.inr ()) (by simp) (i:=i) with⟨h1,h2⟩|⟨h1,h2⟩
  rw[h1,R0 h2]
  rw[h1,RZ h2]
 ·unfold rO
  try dsimp only
  rw[Vg]
def DH (hnr:∀i,Nr (nx l i)) (hst:∀i,nx l i≠nx l (i+1)) (hn:l.length<n) (h5:5<n) (hl:l.length<100):bg (sH n l) n 0=some (bK (iC l) (.inr ()) l.length 0):=by
 classical
 refine bj (len:=l.length) (fun i hi=>?_) ?_ l.length 0 n (by omega) hn
 unfold sH iC
 dsimp only
 rw[Vf,al hi,aJ,eJ hi,ah]
 dsimp only
 rw[Vh,kF i hi hl]
 dsimp only
 rw[ah,Ee n hnr hst hi hn h5 hl,ah];rcases H3 (l:=l) (r:=(.inr (.inl ()):Unit ⊕ (Unit ⊕ Unit))) (e:=.inl ()) (by simp) (i:=i) with⟨h1,h2⟩|⟨h1,h2⟩
 rw[h1,R0 h2]; rfl
 rw[h1,RZ h2]; rfl
 unfold sH
 dsimp only
 rw[Vg]
def kh {f:Nat->Option (Int ⊕ Unit)} (hf:∀j r,f j=some r->r≠.inr ()) {k:Nat} (h:bK f (.inr ()) k 0 = .inr ()):∀j,j<k->f j=none:=by
 rcases cG (f:=f) (e:=.inr ()) k 0 with⟨h1,_⟩|⟨j,_,_,h3⟩
 exact fun j hj=>h1 j (by omega) (by omega)
 rw[h] at h3; exact Sl rfl (hf j _ h3)
def Be {P:I2->Prop} (hl:0<l.length) (h:∀i,i<l.length->P (nx l i)) (i:Nat):P (nx l i):=by
 rw[<-vt]; exact h _ (SU _ hl)
def qQ {i:Nat}:nx l (i%l.length+1)=nx l (i+1):=by unfold nx; rw[Nat.mod_add_mod]
def vV (hl:0<l.length) (h:bK (jE l) (.inr ()) l.length 0 = .inr ()):∀i,Nr (nx l i):=by
 refine Be hl fun i hi=>?_;have:=kh (fun j r hr=>by unfold jE at hr; split at hr<;>cases hr; simp) h i hi
 unfold jE at this
 split at this
 cases this
 rename_i g; exact uT.1 g
def Ap (hl:0<l.length) (h:bK (gE l) (.inr ()) l.length 0 = .inr ()):∀i,nx l i≠nx l (i+1):=fun i=>by
 have:=kh (fun j r hr=>by unfold gE at hr; split at hr<;>cases hr; simp) h (i%l.length) (SU _ hl)
 unfold gE at this
 split at this
 cases this
 rename_i g;rw[vt,qQ] at g;exact g
def Cp (v:Int) (h:bK (jE l) (.inr ()) l.length 0 = .inl v):0<=v:=by
 rcases cG (f:=jE l) (e:=.inr ()) l.length 0 with⟨_,h2⟩|⟨j,_,_,h3⟩
 rw[h] at h2; cases h2
 rw[h] at h3;unfold jE at h3
 split at h3
 cases h3; omega
 cases h3
def JA (hn:l.length<n) (_:41<n):Hq n l=some (pD l):=by
 unfold Hq pD;rw[kn,ah,<-T1]
 by_cases h:l.length<3\/40<l.length
 rw[Vf,R0 h]
 ·rw[Vg,RZ h,Dd n hn (by omega),ah]
  cases h1:bK (jE l) (.inr ()) l.length 0 with
  | inl v=>rfl
  | inr _ =>
   have hnr:=vV (by omega) h1
   dsimp only
   rw[C2 n hn (by omega),ah]
   cases h2:bK (gE l) (.inr ()) l.length 0 with
   | inl v=>rfl
   | inr _ =>
    have hst:=Ap (by omega) h2
    dsimp only
    rw[Dc n hnr hn (by omega),ah]
    cases h3:bK (il l) (.inr ()) l.length 0 with
    | inl v=>rfl
    | inr _ =>
     dsimp only
     rw[D2 n hnr hst hn (by omega),ah]
     cases h4:bK (iC l) (.inr ()) l.length 0<;>rfl
def Js (h64:∀x ∈ l,pf x.1/\pf x.2) (hn:l.length<n) (h5:41<n):Fm n l=some (pD l):=by
 unfold Fm pD;rw[kn,ah,<-T1]
 by_cases h:l.length<3\/40<l.length
 rw[Vf,R0 h]
 ·have h64':∀i,pf (nx l i).1/\pf (nx l i).2:=Be (P:=fun x=>pf x.1/\pf x.2) (by omega) fun i hi=>by
   refine h64 _ ?_;unfold nx;rw[TC hi,R7,RY hi];exact Sn hi
  rw[Vg,RZ h,CU n h64' hn (by omega),ah]
  cases h1:bK (jE l) (.inr ()) l.length 0 with
  | inl v =>
   have:=Cp v h1
   dsimp only
   rw[ah,au this]
  | inr _ =>
   have hnr:=vV (by omega) h1
   dsimp only
   rw[ah,Vg,ah,DT n hn (by omega),ah]
   cases h2:bK (gE l) (.inr ()) l.length 0 with
   | inl v=>rfl
   | inr _ =>
    have hst:=Ap (by omega) h2
    dsimp only
    rw[ah]
    dsimp only
    rw[ah,DJ n hnr hn (by omega),ah]
    cases h3:bK (il l) (.inr ()) l.length 0 with
    | inl v=>rfl
    | inr _ =>
     dsimp only
     rw[ah]
     dsimp only
     rw[ah,DH n hnr hst hn (by omega) (by omega),ah]
     cases h4:bK (iC l) (.inr ()) l.length 0<;>rfl
def pj (l:List I2):Prop:=(pD l).1<=0
open Classical in
def JF (hn:l.length<n) (h5:41<n):Ij n l=some (if pj l then 0 else 140):=by
 unfold Ij pj;rw[JA n hn h5,ah];obtain⟨a,b⟩:=pD l
 dsimp only
 by_cases h:0<a
 rw[au h,Uz]
 rw[av h,UA]
open Classical in
def Mk (h64:∀x ∈ l,pf x.1/\pf x.2) (hn:l.length<n) (h5:41<n):Pk n l=some (if pj l then 0 else 140):=by
 unfold Pk pj;rw[Js n h64 hn h5,ah];obtain⟨a,b⟩:=pD l
 dsimp only
 by_cases h:0<a
 rw[au h,Uz]
 rw[av h,UA]
end
end
section
open Go Go.Ab Go.Ab.W Go.Ab.B Jd
structure Ok (l:List I2):Prop where
 len:l.length<=40
 nr:∀i,Nr (nx l i)
 vr:VR l
def nD {ρ:Type} {f:Nat->Option ρ} {e:ρ} {k i:Nat} (h:∀j,i<=j->j<i+k->f j=none):bK f e k i=e:=by
 rcases cG (f:=f) (e:=e) k i with⟨_,h2⟩|⟨j,h1,h2,h3⟩
 exact h2
 rw[h j h1 h2] at h3; cases h3
def E3 {i L:Nat} (hL:0<L):((i+1)%L+L-1)%L=i%L:=by
 have h:=Nat.div_add_mod (i+1) L;have:((i+1)%L+L-1)+L*((i+1)/L)=i+L:=by omega
 rw[<-Nat.add_mul_mod_self_left ((i+1)%L+L-1) L ((i+1)/L),this,Nat.add_mod_right]
def Ok.pj {l:List I2} (h:Ok l):pj l:=by
 have hn:=h.vr.n3;have hl:=h.len;unfold Go.Proofs.YtmndpgfbkicndaaGreat.pj pD;rw[Uz,nD (f:=jE l) fun j _ _=>by unfold jE; rw[RZ (uT.2 (h.nr j))]]
 dsimp only
 rw[nD (f:=gE l) fun j _ _=>by unfold gE; rw[RZ (h.vr.still j)]]
 dsimp only
 rw[nD (f:=il l) fun j _ hj=>by
  unfold il;have:=h.vr.spike (j+l.length-1);rw[show j+l.length-1+1=j+l.length by omega,show j+l.length-1+2=(j+1)+l.length by omega,oG l (Nat.add_mod_right j l.length),oG l (Nat.add_mod_right (j+1) l.length)] at this
  rw[RZ this]]
 dsimp only
 rw[nD (f:=iC l) fun j _ hj=>by
  unfold iC;rw[RZ];rintro⟨t,ht,h1,h2⟩;exact h2 (EF.2 (h.vr.meet t j ht (by omega) fun e=>h1 ⟨e.1,by omega⟩))]
 exact Int.le_refl 0
def pj.ok {l:List I2} (h:pj l):Ok l:=by
 unfold Go.Proofs.YtmndpgfbkicndaaGreat.pj pD at h
 split at h
 exact Sl (show(1:Int)<=0 from h) (by decide)
 ·rename_i hl;cases h1:bK (jE l) (.inr ()) l.length 0 with
  | inl v=>rw[h1] at h; exact Sl (show(2:Int)<=0 from h) (by decide)
  | inr _ =>
   rw[h1] at h
   dsimp only at h
   cases h2:bK (gE l) (.inr ()) l.length 0 with
   | inl v=>rw[h2] at h; exact Sl (show(3:Int)<=0 from h) (by decide)
   | inr _ =>
    rw[h2] at h
    dsimp only at h
    cases h3:bK (il l) (.inr ()) l.length 0 with
    | inl v=>rw[h3] at h; exact Sl (show(4:Int)<=0 from h) (by decide)
    | inr _ =>
     rw[h3] at h
     dsimp only at h
     cases h4:bK (iC l) (.inr ()) l.length 0 with
     | inl v=>rw[h4] at h; exact Sl (show(5:Int)<=0 from h) (by decide)
     | inr _ =>
      have hL:0<l.length:=by omega
      refine⟨by omega,vV hL h1,by omega,Ap hL h2,fun i=>?_,fun j i hji hi hn=>?_⟩
      have:=kh (fun j r hr=>by unfold il at hr; split at hr<;>cases hr; simp) h3 ((i+1)%l.length) (SU _ hL)
      unfold il at this
      split at this
      cases this
      rename_i g;rw[oG l (E3 hL),vt,qQ] at g;exact g
      have:=kh (fun j r hr=>by unfold iC at hr; split at hr<;>cases hr; simp) h4 i hi
      unfold iC at this
      split at this
      cases this
      rename_i g;refine EF.1 (R1 fun e=>g ⟨j,hji,fun k=>hn ⟨k.1,by omega⟩,e⟩)
def vw {l:List I2}:pj l↔Ok l:=⟨pj.ok,Ok.pj⟩
section
variable (n : Nat) {l : List Nat} (hb : ∀ x ∈ l, x < 256) (x5 x6 : Int) (x7 : Nat) (x8 x9 : Bool)
include hb
end
end
section
open Go Go.Ab Go.Ab.W Go.Ab.B Jd
section
variable {l : List Nat}
end
structure Dr (l:List Nat) (x5 x6:Int) (x7:Nat):Prop where
 b:∀x ∈ l,x<256
 x : -32768<=x5/\x5<=32767
 y : -32768<=x6/\x6<=32767
 s:x7<256
end
section
open Go Go.Ab Go.Ab.W Go.Ab.B Jd
structure Bd (x2 x3:Nat) (x4 x5:Int):Prop where
 at_:x2<256
 to:x3<256
 x:pf x4
 y:pf x5
end
section
open Go Go.Ab Go.Ab.W Go.Ab.B Jd
def iu {σ τ ρ:Type} {B:τ->Option (τ ⊕ ρ)} {len:Nat} (st:Nat->σ->τ) (inv:Nat->σ->Prop) (Post:ρ->Prop)
  (hB:∀i s,i<len->inv i s->(∃s',B (st i s)=some (.inl (st (i+1) s'))/\inv (i+1) s')\/∃r,B (st i s)=some (.inr r)/\Post r)
  (hE:∀s,inv len s->∃r,B (st len s)=some (.inr r)/\Post r):∀(k i:Nat) (s:σ) (n:Nat),i+k=len->k<n->inv i s->∃r,bg B n (st i s)=some r/\Post r
 | 0,i,s,n+1,h,_,hi=>by
  rw[Tj] at h; subst h;obtain⟨r,h1,h2⟩:=hE s hi;exact⟨r,fg h1,h2⟩
 | k+1,i,s,n+1,h,hn,hi=>by
  rcases hB i s (by omega) hi with⟨s',h1,h2⟩|⟨r,h1,h2⟩
  rw[fF h1]; exact iu st inv Post hB hE k (i+1) s' n (by omega) (by omega) h2
  exact⟨r,fg h1,h2⟩
def tT {f:Nat->Int} (h:∀i,-8000000000000<=f i/\f i<=8000000000000):∀n:Nat,-(8000000000000*(n:Int))<=bE n f/\bE n f<=8000000000000*(n:Int)
 | 0=>by simp[bE]
 | n+1=>by
  have h1:=tT h n;have h2:=h n;simp only[bE];omega
section
variable {l : List I2} (n : Nat)
def KZ {a b o:I2} (ha:Nr a) (hb:Nr b) (ho:Nr o) : -8000000000000<=(a.1-o.1)*(b.2-o.2)-(a.2-o.2)*(b.1-o.1)/\(a.1-o.1)*(b.2-o.2)-(a.2-o.2)*(b.1-o.1)<=8000000000000:=by
 unfold Nr at ha hb ho;have m1:=eB (B:=2000000) (C:=2000000) (u:=a.1-o.1) (v:=b.2-o.2) (by decide) (by omega) (by omega) (by omega) (by omega)
 have m2:=eB (B:=2000000) (C:=2000000) (u:=a.2-o.2) (v:=b.1-o.1) (by decide) (by omega) (by omega) (by omega) (by omega)
 omega
def Ng {a b:I2} (ha:Nr a) (hb:Nr b) {s:Int} (hs : -8000000000000000<=s/\s<=8000000000000000) :
  Ux (Ux (s+Ux (a.1*b.2))-Ux (a.2*b.1))=s+(a.1*b.2-a.2*b.1):=by
 unfold Nr at ha hb;have m1:=eB (B:=1000000) (C:=1000000) (u:=a.1) (v:=b.2) (by decide) (by omega) (by omega) (by omega) (by omega)
 have m2:=eB (B:=1000000) (C:=1000000) (u:=a.2) (v:=b.1) (by decide) (by omega) (by omega) (by omega) (by omega)
 generalize a.1*b.2=u at *;generalize a.2*b.1=v at *;rw[aB (x:=u) (by omega) (by omega),aB (x:=v) (by omega) (by omega),aB (x:=s+u) (by omega) (by omega),aB (by omega) (by omega)]
 omega
open Classical in
noncomputable def side (l:List I2) (p:I2):Int:=if ∃i,i<l.length/\cC (nx l i) (nx l (i+1)) p then 1 else if fN l p=0 then 0 else 2
def FT (l:List I2) (p:I2):∀i:Nat,-(i:Int)<=bE i (fun i=>wi (nx l i) (nx l (i+1)) p)/\bE i (fun i=>wi (nx l i) (nx l (i+1)) p)<=(i:Int)
 | 0=>by simp[bE]
 | i+1=>by
  have h1:=FT l p i;have h2:=HH (nx l i) (nx l (i+1)) p;simp only[bE];omega
end
end
end Go.Proofs.YtmndpgfbkicndaaGreat
end
section
namespace Go.Proofs.YtmndpgfbkicndaaGreat
open Go Go.Ab Go.Ab.W Go.Ab.B Jd
def Nw (p:I2):Prop:=-4000000<=p.1/\p.1<=4000000/\-4000000<=p.2/\p.2<=4000000
def KS {a b c:I2} (ha:Nw a) (hb:Nw b) (hc:Nw c) :
  Ux (Ux ((Ux (b.1-a.1))*(Ux (c.2-a.2)))-Ux ((Ux (b.2-a.2))*(Ux (c.1-a.1))))=ti a b c:=by
 unfold Nw at ha hb hc;have m1:=eB (B:=8000000) (C:=8000000) (u:=b.1-a.1) (v:=c.2-a.2) (by decide) (by omega) (by omega) (by omega) (by omega)
 have m2:=eB (B:=8000000) (C:=8000000) (u:=b.2-a.2) (v:=c.1-a.1) (by decide) (by omega) (by omega) (by omega) (by omega)
 rw[aB (x:=b.1-a.1) (by omega) (by omega),aB (x:=c.2-a.2) (by omega) (by omega),aB (x:=b.2-a.2) (by omega) (by omega),aB (x:=c.1-a.1) (by omega) (by omega)]
 unfold ti;generalize (b.1-a.1)*(c.2-a.2)=u at *;generalize (b.2-a.2)*(c.1-a.1)=v at *;rw[aB (x:=u) (by omega) (by omega),aB (x:=v) (by omega) (by omega),aB (by omega) (by omega)]
def GS (n:Nat) {a b c:I2} (ha:Nw a) (hb:Nw b) (hc:Nw c):pV n a.1 a.2 b.1 b.2 c.1 c.2=some (ti a b c):=by
 unfold pV;simp only[ah];rw[<-KS ha hb hc]
def MT (n:Nat) {a b p:I2} (ha:Nw a) (hb:Nw b) (hp:Nw p):s6 n a.1 a.2 b.1 b.2 p.1 p.2=some (decide (cC a b p)):=by
 unfold s6;rw[GS n ha hb hp,ah]
 by_cases h:ti a b p=0
 rw[R3 h,SC,fc,cS,cS,cS,gG,gG,gB,gB,<-SB,<-SB,<-SB]
 congr 1
 rw[decide_eq_decide];unfold cC;exact⟨fun g=>⟨h,g⟩,fun g=>g.2⟩
 rw[R6 h,Sz,fk,R6 fun g=>h g.1]
section
variable {l : List I2} (n : Nat)
def G9 {p:I2} (hnr:∀i,Nw (nx l i)) (hp:Nw p) (hL:l.length<100) (hn:l.length<n):Lj n l p.1 p.2=some (side l p):=by
 have L:∃r,bg (s8 n l p.2 p.1) n ((0:Int),((0:Nat):Int))=some r/\match r with
   | .inl _=>∃i,i<l.length/\cC (nx l i) (nx l (i+1)) p
   | .inr w=>(∀i,i<l.length->¬cC (nx l i) (nx l (i+1)) p)/\w=fN l p:=by
  refine iu (len:=l.length) (fun i (s:Int)=>(s,(i:Int))) (fun i s=>(∀j,j<i->¬cC (nx l j) (nx l (j+1)) p)/\s=bE i fun i=>wi (nx l i) (nx l (i+1)) p) _ (fun i s hi hs=>?_) (fun s hs=>?_) l.length 0 0 n (by omega) hn ⟨fun j hj=>Sl hj (Nat.not_lt_zero _),rfl⟩
  ·have hw:=FT l p i;have hwi:=HH (nx l i) (nx l (i+1)) p;have hbase:s8 n l p.2 p.1 (s,(i:Int))=if cC (nx l i) (nx l (i+1)) p then some (.inr (.inl ())) else some (.inl (s+wi (nx l i) (nx l (i+1)) p,((i+1:Nat):Int))):=by
    unfold s8
    try dsimp only
    rw[Vf,al hi,aJ,eJ hi,ah]
    try dsimp only
    rw[Vh,kF i hi (by omega)]
    try dsimp only
    rw[ah,ah,KS (hnr i) (hnr (i+1)) hp];have hB:(decide (ti (nx l i) (nx l (i+1)) p=0) && (decide (mi (nx l i).1 (nx l (i+1)).1<=p.1) && (decide (p.1<=ma (nx l i).1 (nx l (i+1)).1) && (decide (mi (nx l i).2 (nx l (i+1)).2<=p.2) && decide (p.2<=ma (nx l i).2 (nx l (i+1)).2)))))=decide (cC (nx l i) (nx l (i+1)) p):=by
     rw[gG,gG,gB,gB,<-SB,<-SB,<-SB,<-SB,decide_eq_decide];exact Iff.rfl
    rw[cS,cS,cS,cS,hB,ah]
    by_cases hb:cC (nx l i) (nx l (i+1)) p
    rw[au hb,ah,R0 hb]
    rw[av hb,RZ hb,cS,cS,ah];unfold wi
    by_cases c1:(nx l i).2<=p.2/\p.2<(nx l (i+1)).2/\0<ti (nx l i) (nx l (i+1)) p
    rw[R0 c1,R3 c1.1,R3 c1.2.1,R3 c1.2.2,Tv,Tv,fk,ah,aB (by rw[hs.2]; omega) (by rw[hs.2]; omega)]
    have e1:(decide ((nx l i).2<=p.2) && (decide (p.2<(nx l (i+1)).2) && decide (0<ti (nx l i) (nx l (i+1)) p)))=false:=by
     rw[<-SB,<-SB]; exact R6 fun g=>c1 ⟨g.1,g.2.1,g.2.2⟩
    rw[RZ c1,e1,fc,cS,cS,ah]
    by_cases c2:(nx l (i+1)).2<=p.2/\p.2<(nx l i).2/\ti (nx l i) (nx l (i+1)) p<0
    rw[R0 c2,R3 c2.1,R3 c2.2.1,R3 c2.2.2,Tv,Tv,fk,ah,aB (by rw[hs.2]; omega) (by rw[hs.2]; omega)]
    rfl
    have e2:(decide (p.2<(nx l i).2) && (decide ((nx l (i+1)).2<=p.2) && decide (ti (nx l i) (nx l (i+1)) p<0)))=false:=by
     rw[<-SB,<-SB]; exact R6 fun g=>c2 ⟨g.2.1,g.1,g.2.2⟩
    rw[RZ c2,e2,fc,ah,Int.add_zero]
   by_cases hb:cC (nx l i) (nx l (i+1)) p
   exact .inr ⟨.inl (),by rw[hbase,R0 hb],⟨i,hi,hb⟩⟩
   refine .inl ⟨s+wi (nx l i) (nx l (i+1)) p,by rw[hbase,RZ hb],fun j hj=>?_,by rw[hs.2]; rfl⟩
   by_cases e:j=i
   rw[e]; exact hb
   exact hs.1 j (by omega)
  ·refine⟨.inr s,?_,hs.1,hs.2⟩;unfold s8
   try dsimp only
   rw[Vg]
 obtain⟨r,h1,h2⟩:=L;have h1':bg (s8 n l p.2 p.1) n (0,0)=some r:=h1;unfold Lj;rw[h1',ah];unfold side;cases r with
 | inl s =>
  dsimp only at h2
  rw[R0 h2]
 | inr w =>
  obtain⟨g1,g2⟩:=h2;rw[RZ (fun⟨i,a,b⟩=>g1 i a b)]
  try dsimp only
  rw[g2]
  by_cases e:fN l p=0
  rw[au e,R0 e]
  rw[av e,RZ e]
def DD {p:I2} (hv:VR l) (hnr:∀i,Nw (nx l i)) (hp:Nw p) (hL:l.length<100) (hn:l.length<n):yr n l p.1 p.2=some (side l p):=by
 have h3:=hv.n3;have hne:l≠[]:=fun e=>by rw[e] at h3; simp at h3
 have L:∃r,bg (oF n l p.1 p.2) n (false,((0:Nat):Int))=some r/\match r with
   | .inl _=>∃i,i<l.length/\cC (nx l i) (nx l (i+1)) p
   | .inr w=>(∀i,i<l.length->¬cC (nx l i) (nx l (i+1)) p)/\w=C7 l p l.length:=by
  refine iu (len:=l.length) (fun i (s:Bool)=>(s,(i:Int))) (fun i s=>(∀j,j<i->¬cC (nx l j) (nx l (j+1)) p)/\s=C7 l p i) _ (fun i s hi hs=>?_) (fun s hs=>?_) l.length 0 false n (by omega) hn ⟨fun j hj=>Sl hj (Nat.not_lt_zero _),rfl⟩
  ·have hbase:oF n l p.1 p.2 (s,(i:Int))=if cC (nx l i) (nx l (i+1)) p then some (.inr (.inl ())) else some (.inl (s != N0 (nx l i) (nx l (i+1)) p,((i+1:Nat):Int))):=by
    unfold oF
    try dsimp only
    rw[Vf,al hi,aJ,eJ hi,ah]
    try dsimp only
    rw[Vh,nw n (i+1) hne,ah]
    try dsimp only
    rw[MT n (hnr i) (hnr (i+1)) hp,ah]
    by_cases hb:cC (nx l i) (nx l (i+1)) p
    rw[au hb,ah,R0 hb]
    rw[av hb,RZ hb,GS n (hnr i) (hnr (i+1)) hp,ah,cS,ah];unfold N0;have e:(!(decide (p.2<(nx l i).2) == decide (p.2<(nx l (i+1)).2)))=(decide (p.2<(nx l i).2) != decide (p.2<(nx l (i+1)).2)):=rfl;rw[e];generalize ((decide (p.2<(nx l i).2) != decide (p.2<(nx l (i+1)).2)) && (decide (0<ti (nx l i) (nx l (i+1)) p) == decide ((nx l i).2<(nx l (i+1)).2)))=c;cases c<;>cases s<;>rfl
   by_cases hb:cC (nx l i) (nx l (i+1)) p
   exact .inr ⟨.inl (),by rw[hbase,R0 hb],⟨i,hi,hb⟩⟩
   refine .inl ⟨s != N0 (nx l i) (nx l (i+1)) p,by rw[hbase,RZ hb],fun j hj=>?_,by rw[hs.2]; rfl⟩
   by_cases e:j=i
   rw[e]; exact hb
   exact hs.1 j (by omega)
  ·refine⟨.inr s,?_,hs.1,hs.2⟩;unfold oF
   try dsimp only
   rw[Vg]
 obtain⟨r,h1,h2⟩:=L;have h1':bg (oF n l p.1 p.2) n (false,0)=some r:=h1;unfold yr;rw[h1',ah];unfold side;cases r with
 | inl s =>
  dsimp only at h2
  rw[R0 h2]
 | inr w =>
  obtain⟨g1,g2⟩:=h2;rw[RZ (fun⟨i,a,b⟩=>g1 i a b)]
  try dsimp only
  rw[g2,hv.Jq g1]
  by_cases e:fN l p=0
  rw[R3 e,R0 e]; rfl
  rw[R6 e,RZ e]; rfl
end
def ql {α β ρ:Type} {B:(List β × Int)->Option ((List β × Int) ⊕ ρ)} {l:List α} (f:α->β) (out:List β->ρ)
  (hB:∀i x,l[i]? = some x->i<l.length->B ((l.take i).map f,(i:Int))=some (.inl ((l.take i).map f++[f x],((i+1:Nat):Int))))
  (hE:B (l.map f,(l.length:Int))=some (.inr (out (l.map f)))) {n:Nat} (hn:l.length<n):bg B n ([],0)=some (out (l.map f)):=by
 obtain⟨r,h1,h2⟩:=iu (B:=B) (len:=l.length) (fun i (s:List β)=>(s,(i:Int))) (fun i s=>s=(l.take i).map f) (fun r=>r=out (l.map f)) (fun i s hi hs=>by
  subst hs;have hx:=RY hi;refine .inl ⟨_,hB i _ hx hi,?_⟩;rw[T2,hx,List.map_append]; rfl) (fun s hs=>by
  subst hs;rw[List.take_length];exact⟨_,hE,rfl⟩) l.length 0 [] n (by omega) hn rfl
 subst h2;exact h1
def iK (pts:List I2) (i:Int):I2:=pts.getD i.toNat (0,0)
def eY (pts:List I2) (l:List Int) (t:Int):List I2:=l.map fun i=>(t*(iK pts i).1,t*(iK pts i).2)
def Ix (pts:List I2) (l:List Int):Prop:=∀i ∈ l,0<=i/\i<pts.length
def dH (pts:List I2):Prop:=∀q ∈ pts,Nr q
def hY {pts:List I2} {i:Int} (h:0<=i/\i<pts.length):pts[i.toNat]? = some (iK pts i):=by
 unfold iK;rw[R7,RY (by omega)]; rfl
def gp {pts:List I2} (hb:dH pts) {i:Int} (h:0<=i/\i<pts.length):Nr (iK pts i):=hb _ (Sa (hY h))
def eE (pts:List I2) (l:List Int) (t:Int):(eY pts l t).length=l.length:=Sj _
def bt {k:Nat} (h:k<=1000000):lim k=true:=Nat.ble_eq_true_of_le (by omega)
section
variable {pts : List I2} {F : Uj} {l : List Int} {t : Int} (n : Nat)
def xf (hb:dH pts) (hx:Ix pts l) (ht:t=1\/t=2) (hl:l.length<=1000) (hn:l.length<n):Iq n pts F l t=some (eY pts l t):=by
 have h:=ql (B:=yT n l pts t) (l:=l) (fun i=>(t*(iK pts i).1,t*(iK pts i).2)) (fun s=>s) (fun i x hi hil=>by
  have hxi:=hx x (Sa hi);have hnr:=gp hb hxi;unfold Nr at hnr;unfold yT
  try dsimp only
  rw[Vf,al hil,aJ,Ss,hi,ah,show bw x pts.length=true from R3 ⟨hxi.1,by omega⟩,aJ,hY hxi,ah]
  try dsimp only
  rw[aJ,aB (by rcases ht with rfl|rfl<;>omega) (by rcases ht with rfl|rfl<;>omega),aB (by rcases ht with rfl|rfl<;>omega) (by rcases ht with rfl|rfl<;>omega),bt (by simp; omega),aJ,Vh]) (by
  unfold yT
  try dsimp only
  rw[Vg]) hn
 unfold Iq;rw[h,ah]; rfl
def w6 (hb:dH pts) (hx:Ix pts l) (ht:t=1\/t=2) (hl:l.length<=1000) (hn:l.length<n):K1 n pts F l t=some (eY pts l t):=by
 have h:=ql (B:=xK n l pts t) (l:=l) (fun i=>(t*(iK pts i).1,t*(iK pts i).2)) (fun s=>s) (fun i x hi hil=>by
  have hxi:=hx x (Sa hi);have hnr:=gp hb hxi;unfold Nr at hnr;unfold xK
  try dsimp only
  rw[Vf,al hil,aJ,Ss,hi,ah,show bw x pts.length=true from R3 ⟨hxi.1,by omega⟩,aJ,hY hxi,ah]
  try dsimp only
  rw[aB (by rcases ht with rfl|rfl<;>omega) (by rcases ht with rfl|rfl<;>omega),aB (by rcases ht with rfl|rfl<;>omega) (by rcases ht with rfl|rfl<;>omega),bt (by simp; omega),aJ,Vh]) (by
  unfold xK
  try dsimp only
  rw[Vg]) hn
 unfold K1;rw[h,ah]; rfl
def LC {r:List I2} (hnr:∀i,Nr (nx r i)) (hL:r.length<100) (hn:r.length<n):NU n r=some (qR r):=by
 have hb:∀i,-8000000000000<=(nx r i).1*(nx r (i+1)).2-(nx r i).2*(nx r (i+1)).1/\(nx r i).1*(nx r (i+1)).2-(nx r i).2*(nx r (i+1)).1<=8000000000000:=fun i=>by
  have:=KZ (hnr i) (hnr (i+1)) (show Nr (0,0) by unfold Nr; omega)
  simpa using this
 have L:∃z,bg (vl n r) n ((0:Int),((0:Nat):Int))=some z/\z=qR r:=by
  refine iu (len:=r.length) (fun i (s:Int)=>(s,(i:Int))) (fun i s=>s=bE i fun i=>(nx r i).1*(nx r (i+1)).2-(nx r i).2*(nx r (i+1)).1) _ (fun i s hi hs=>?_) (fun s hs=>?_) r.length 0 0 n (by omega) hn rfl
  ·have hbi:=tT hb i;refine .inl ⟨s+((nx r i).1*(nx r (i+1)).2-(nx r i).2*(nx r (i+1)).1),?_,by rw[hs]; rfl⟩
   unfold vl
   try dsimp only
   rw[Vf,al hi,aJ,eJ hi,ah]
   try dsimp only
   rw[Vh,kF i hi (by omega)]
   try dsimp only
   rw[ah];have h1:=hnr i;have h2:=hnr (i+1);have h3:=hb i;unfold Nr at h1 h2;have m1:=eB (B:=1000000) (C:=1000000) (u:=(nx r i).1) (v:=(nx r (i+1)).2) (by decide) (by omega) (by omega) (by omega) (by omega)
   have m2:=eB (B:=1000000) (C:=1000000) (u:=(nx r i).2) (v:=(nx r (i+1)).1) (by decide) (by omega) (by omega) (by omega) (by omega)
   generalize (nx r i).1*(nx r (i+1)).2=u at *;generalize (nx r i).2*(nx r (i+1)).1=v at *;rw[aB (x:=u) (by omega) (by omega),aB (x:=v) (by omega) (by omega),aB (x:=u-v) (by omega) (by omega),aB (by rw[hs]; omega) (by rw[hs]; omega)]
  ·refine⟨s,?_,hs⟩;unfold vl
   try dsimp only
   rw[Vg]
 obtain⟨z,h1,h2⟩:=L;have h1':bg (vl n r) n (0,0)=some z:=h1;unfold NU;rw[h1',ah,h2]
def Fb {r:List I2} (hnr:∀i,Nr (nx r i)) (hne:r≠[]) (hL:r.length<100) (hn:r.length<n):Gn n r=some (qR r):=by
 have hb:∀i,-8000000000000<=(nx r i).1*(nx r (i+1)).2-(nx r i).2*(nx r (i+1)).1/\(nx r i).1*(nx r (i+1)).2-(nx r i).2*(nx r (i+1)).1<=8000000000000:=fun i=>by
  have:=KZ (hnr i) (hnr (i+1)) (show Nr (0,0) by unfold Nr; omega)
  simpa using this
 have L:∃z,bg (pS n r) n ((0:Int),((0:Nat):Int))=some z/\z=qR r:=by
  refine iu (len:=r.length) (fun i (s:Int)=>(s,(i:Int))) (fun i s=>s=bE i fun i=>(nx r i).1*(nx r (i+1)).2-(nx r i).2*(nx r (i+1)).1) _ (fun i s hi hs=>?_) (fun s hs=>?_) r.length 0 0 n (by omega) hn rfl
  ·have hbi:=tT hb i;refine .inl ⟨s+((nx r i).1*(nx r (i+1)).2-(nx r i).2*(nx r (i+1)).1),?_,by rw[hs]; rfl⟩
   unfold pS
   try dsimp only
   rw[Vf,al hi,aJ,eJ hi,ah]
   try dsimp only
   rw[Vh,nw n (i+1) hne,ah]
   try dsimp only
   rw[ah,Ng (hnr i) (hnr (i+1)) (by rw[hs]; omega)]
  ·refine⟨s,?_,hs⟩;unfold pS
   try dsimp only
   rw[Vg]
 obtain⟨z,h1,h2⟩:=L;have h1':bg (pS n r) n (0,0)=some z:=h1;unfold Gn;rw[h1',ah,h2]
end
def M3 (n:Nat) (p:I2):N4 n p.1 p.2=some (decide (Fa p)):=by
 unfold N4 Fa;rw[gB,gG,kn];refine SD some ?_;have:(min p.1 p.2 < -1000000\/1000000<max p.1 p.2)↔(p.1 < -1000000\/1000000<p.1\/p.2 < -1000000\/1000000<p.2):=by omega
 simp only[<-this,T1]
def Da {α β:Type} [DecidableEq α] (xs:List (α × β)) (k k':α) (v:β):fX (jU xs k v) k'=(if k'=k then some v else fX xs k')/\(jU xs k v).length=(if fX xs k=none then xs.length+1 else xs.length):=by
 have key:∀(xs:List (α × β)) (i:Nat),(da k xs i=none->∀j,(da k' (xs++[(k,v)]) j).map (·.2)=if k'=k then some v else(da k' xs j).map (·.2)) /\
   (∀p,da k xs i=some p->i<=p.1/\∀j,(da k' (xs.set (p.1-i) (k,v)) j).map (·.2)=if k'=k then some v else(da k' xs j).map (·.2)):=by
  intro xs
  induction xs with
  | nil =>
   intro i;refine⟨fun _ j=>?_,fun p h=>by simp[da] at h⟩
   simp only[To,da]
   by_cases h:k'=k<;>simp[h]
  | cons e xs ih =>
   intro i
   by_cases he:k=e.1
   refine⟨fun h=>by simp[da,he] at h,fun p h=>?_⟩
   have hp:p=(i,e.2):=by simp[da,he] at h; exact h.symm
   subst hp;refine⟨R5 _,fun j=>?_⟩;simp only[Ui,List.set_cons_zero,da]
   by_cases h:k'=k
   simp[h]
   have:k'≠e.1:=fun c=>h (c.trans he.symm);simp[h,this]
   refine⟨fun h j=>?_,fun p h=>?_⟩
   have h':da k xs (i+1)=none:=by simpa [da,he] using h
   simp only[Uc,da]
   by_cases h2:k'=e.1
   have:k'≠k:=fun c=>he (c.symm.trans h2);simp[h2,Ne.symm he]
   simp only[RZ h2];exact(ih (i+1)).1 h' (j+1)
   have h':da k xs (i+1)=some p:=by simpa [da,he] using h
   obtain⟨g1,g2⟩:=(ih (i+1)).2 p h';refine⟨by omega,fun j=>?_⟩
   rw[show p.1-i=(p.1-(i+1))+1 by omega,List.set_cons_succ]
   simp only[da]
   by_cases h2:k'=e.1
   have:k'≠k:=fun c=>he (c.symm.trans h2);simp[h2,Ne.symm he]
   simp only[RZ h2];exact g2 (j+1)
 unfold fX jU;cases h:da k xs 0 with
 | none=>exact⟨(key xs 0).1 h 0,by simp⟩
 | some p=>exact⟨((key xs 0).2 p h).2 0,by simp⟩
def vh {α β:Type} [DecidableEq α] (xs:List (α × β)) (k k':α) (v:β):fX (jU xs k v) k'=if k'=k then some v else fX xs k':=(Da xs k k' v).1
def mL (l:List I2) (i:Nat):Option (Int ⊕ Unit):=if nx l i ∈ l.take i then some (.inl (i:Int)) else none
section
variable {l : List I2} (n : Nat)
def EA (hn:l.length<n) (hl:l.length<1000):bg (zo n l) n 0=some (bK (jE l) (.inr ()) l.length 0):=by
 refine bj (len:=l.length) (fun i hi=>?_) ?_ l.length 0 n (by omega) hn
 unfold zo jE
 dsimp only
 rw[Vf,al hi,aJ,eJ hi,ah]
 dsimp only
 rw[M3,ah,Vh]
 by_cases h:Fa (nx l i)
 rw[au h,R0 h]
 rw[av h,RZ h]
 unfold zo
 dsimp only
 rw[Vg]
def Gh (hn:l.length<n) (hl:l.length<1000):bg (y8 n l) n 0=some (bK (jE l) (.inr ()) l.length 0):=by
 refine bj (len:=l.length) (fun i hi=>?_) ?_ l.length 0 n (by omega) hn
 unfold y8 jE
 dsimp only
 rw[Vf,al hi,aJ,eJ hi,ah]
 dsimp only
 rw[Hh,ah,Vh]
 by_cases h:Fa (nx l i)
 rw[au h,R0 h]
 rw[av h,RZ h]
 unfold y8
 dsimp only
 rw[Vg]
def sP (l:List I2) (i j:Nat):Option (Unit ⊕ Unit):=if nx l i=nx l j then some (.inl ()) else none
def G3 {i:Nat} (hi:i<l.length) (hn:l.length<n) (hl:l.length<1000):bg (zR n (i:Int) l) n 0=some (bK (sP l i) (.inr ()) i 0):=by
 refine bj (len:=i) (fun j hj=>?_) ?_ i 0 n (by omega) (by omega)
 unfold zR sP
 dsimp only
 rw[Vf,al hi,aJ,eJ hi,ah]
 dsimp only
 rw[al (by omega),aJ,eJ (by omega),ah]
 dsimp only
 rw[rN,Vh]
 by_cases h:nx l i=nx l j
 rw[au (by exact h),R0 h]
 rw[av (by exact h),RZ h]
 unfold zR
 dsimp only
 rw[Vg]
def qI {i:Nat} (hi:i<=l.length) {p:I2}:p ∈ l.take i↔∃j,j<i/\nx l j=p:=by
 constructor
 intro h;obtain⟨j,hj,e⟩:=SF.1 h;rw[R8] at hj;refine⟨j,by omega,?_⟩
 unfold nx;rw[TC (by omega),R7,RY (by omega)]
 rw[List.getElem_take] at e; exact e
 rintro⟨j,hj,e⟩;refine SF.2 ⟨j,by rw[R8]; omega,?_⟩
 rw[List.getElem_take,<-e];unfold nx;rw[TC (by omega),R7,RY (by omega)]; rfl
def DO {i:Nat} (hi:i<l.length):bK (sP l i) (.inr ()) i 0=if nx l i ∈ l.take i then .inl () else .inr ():=by
 rcases cG (f:=sP l i) (e:=.inr ()) i 0 with⟨h1,h2⟩|⟨j,_,h2,h3⟩
 rw[h2,RZ];intro h;obtain⟨j,hj,e⟩:=(qI (by omega)).1 h
 have:=h1 j (by omega) (by omega)
 unfold sP at this;rw[R0 e.symm] at this; cases this
 have:nx l i=nx l j:=by
  refine R1 fun hc=>?_;unfold sP at h3;rw[RZ hc] at h3; cases h3
 rw[R0 ((qI (by omega)).2 ⟨j,by omega,this.symm⟩)]
 unfold sP at h3;rw[R0 this] at h3;exact(R2 h3).symm
def FO (hn:l.length<n) (hl:l.length<1000):bg (xC n l) n 0=some (bK (mL l) (.inr ()) l.length 0):=by
 refine bj (len:=l.length) (fun i hi=>?_) ?_ l.length 0 n (by omega) hn
 ·unfold xC mL
  try dsimp only
  rw[Vf,G3 n hi hn hl,ah,DO hi]
  by_cases h:nx l i ∈ l.take i
  rw[R0 h,R0 h]
  ·rw[RZ h,RZ h]
   try dsimp only
   rw[Vh]
 ·unfold xC
  try dsimp only
  rw[Vg]
def OQ (l:List I2) (m:List (I2 × Bool)):Prop:=∀p,(fX m p).getD false=decide (p ∈ l)
def tF (m:List (I2 × Bool)) (k p:I2):(fX (jU m k true) p)=if p=k then some true else fX m p:=vh m k p true
def Fo (hn:l.length<n) (hl:l.length<1000):bg (qB n l) n ([],0)=some (bK (mL l) (.inr ()) l.length 0):=by
 have key:∀(k i:Nat) (m:List (I2 × Bool)) (f:Nat),i+k=l.length->k<f->OQ (l.take i) m->bg (qB n l) f (m,(i:Int))=some (bK (mL l) (.inr ()) k i):=by
  intro k
  induction k with
  | zero =>
   intro i m f h hf hm;obtain⟨f,rfl⟩:∃g,f=g+1:=⟨f-1,by omega⟩
   have:qB n l (m,(i:Int))=some (.inr (.inr ())):=by
    unfold qB
    dsimp only
    rw[Vg]
   simp only[bg,this,bK]
  | succ k ih =>
   intro i m f h hf hm;obtain⟨f,rfl⟩:∃g,f=g+1:=⟨f-1,by omega⟩
   have hi:i<l.length:=by omega
   have hB:qB n l (m,(i:Int))=if nx l i ∈ l.take i then some (.inr (.inl (i:Int))) else some (.inl (jU m (nx l i) true,((i+1:Nat):Int))):=by
    unfold qB
    dsimp only
    rw[Vf,al hi,aJ,eJ hi,ah]
    dsimp only
    rw[ah,Vh]
    have e:=hm (nx l i);rw[show((nx l i).1,(nx l i).2)=nx l i from rfl,e]
    by_cases g:nx l i ∈ l.take i
    rw[au g,R0 g]
    rw[av g,RZ g]
   by_cases g:nx l i ∈ l.take i
   rw[R0 g] at hB;simp only[bg,hB,bK,mL,R0 g]
   rw[RZ g] at hB;simp only[bg,hB,bK,mL,RZ g];refine ih (i+1) _ f (by omega) (by omega) fun p=>?_
   have e:l.take (i+1)=l.take i++[nx l i]:=by
    rw[T2,RY hi]
    congr 1
    unfold nx;rw[TC hi,R7,RY hi]; rfl
   rw[tF,e]
   by_cases hp:p=nx l i
   rw[R0 hp,hp]; simp
   rw[RZ hp,hm p,decide_eq_decide]; simp[hp]
 exact key l.length 0 [] n (by omega) hn (by intro p; simp[fX,da])
end
def HQ (n:Nat) (o:List Int) (h:Um) (hl:h.length<=1000) (hn:1000<n):bg (py n [[o],h]) n (0,0)=some (((h.length+1:Nat):Int)):=by
 obtain⟨m,rfl⟩:∃m,n=m+3:=⟨n-3,by omega⟩
 have e0:py (m+3) [[o],h] (0,0)=some (.inl (1,1)):=by
  unfold py
  try dsimp only
  rw[au (by simp),show bw 0 ([[o],h]:List (Um)).length=true from rfl,aJ]
  show ob (some [o]) _=_
  rw[ah,List.length_singleton]
  rfl
 have e1:py (m+3) [[o],h] (1,1)=some (.inl (((h.length+1:Nat):Int),2)):=by
  unfold py
  try dsimp only
  rw[au (by simp),show bw 1 ([[o],h]:List (Um)).length=true from rfl,aJ]
  show ob (some h) _=_
  rw[ah,aB (by omega) (by omega),Vg,show Ux (1+1)=2 from rfl,show((1:Int)+(h.length:Int))=((h.length+1:Nat):Int) by omega]
 have e2:py (m+3) [[o],h] (((h.length+1:Nat):Int),2)=some (.inr ((h.length+1:Nat):Int)):=by
  unfold py
  try dsimp only
  rw[av (by simp)]
 simp only[bg,e0,e1,e2]
def EB (n:Nat) (o:List Int) (h:Um) (hl:h.length<=1000) (hn:1000<n):bg (po n [[o],h]) n ([],0)=some (o::h):=by
 obtain⟨m,rfl⟩:∃m,n=m+3:=⟨n-3,by omega⟩
 have e0:po (m+3) [[o],h] ([],0)=some (.inl ([o],1)):=by
  unfold po
  try dsimp only
  rw[au (by simp),show bw 0 ([[o],h]:List (Um)).length=true from rfl,aJ]
  show ob (some [o]) _=_
  rw[ah,To,bt (by simp),aJ]
  rfl
 have e1:po (m+3) [[o],h] ([o],1)=some (.inl (o::h,2)):=by
  unfold po
  try dsimp only
  rw[au (by simp),show bw 1 ([[o],h]:List (Um)).length=true from rfl,aJ]
  show ob (some h) _=_
  rw[ah,List.singleton_append,bt (by simp; omega),aJ]
  rfl
 have e2:po (m+3) [[o],h] (o::h,2)=some (.inr (o::h)):=by
  unfold po
  try dsimp only
  rw[av (by simp)]
 simp only[bg,e0,e1,e2]
def pZ (n:Nat) (o:List Int) (h:Um) (hl:h.length<=1000) (hn:1000<n):yc n o h=some (o::h):=by
 unfold yc P8;rw[HQ n o h hl hn,ah,Vg]
 have ew:Ux (((h.length+1:Nat):Int)-(Ux (0-0)))=((h.length+1:Nat):Int):=by
  rw[show Ux (0-0)=0 from rfl,aB (by omega) (by omega)]; omega
 rw[ew,Vf,fT (by omega),Ss,bt (by omega),aJ]
 have eb:okB 0 0 (h.length+1)=true:=R3 ⟨Int.le_refl 0,Int.le_refl 0,by omega⟩
 rw[eb,aJ,fT (by omega),ah,ah,show Uy=0 from rfl,List.take_zero,EB n o h hl hn,ah,ah]
def mz (n:Nat) (o:List Int) (h:Um) (hl:h.length<=1000):Eh n o h=some (o::h):=by
 unfold Eh;rw[List.singleton_append,bt (by simp; omega),aJ]
def aR {α:Type} {l:List α} {i:Nat} {x:α} (h:l[i]? = some x):l[((i:Nat):Int).toNat]? = some x:=by rw[Ss]; exact h
def bad {α:Type} (p:α->Bool) (l:List α) (i:Nat):Option (Unit ⊕ Unit):=match l[i]? with|some x=>if p x then none else some (.inl ()) | none=>none
def mM {α:Type} (p:α->Bool) (l:List α):bK (bad p l) (.inr ()) l.length 0=if l.all p then .inr () else .inl ():=by
 rcases cG (f:=bad p l) (e:=.inr ()) l.length 0 with⟨h1,h2⟩|⟨j,_,h2,h3⟩
 rw[h2,R0];rw[Sb];intro x hx;obtain⟨j,hj,e⟩:=SF.1 hx;have:=h1 j (by omega) (by omega)
 unfold bad at this;rw[RY hj,e] at this;refine R1 fun hc=>?_
 dsimp only at this
 rw[RZ hc] at this; cases this
 unfold bad at h3;rw[RY (by omega:j<l.length)] at h3
 dsimp only at h3
 by_cases g:p l[j]=true
 rw[R0 g] at h3; cases h3
 rw[RZ g] at h3;rw[RZ (fun h=>g (Sb.1 h _ (Sn _)))];exact(R2 h3).symm
def M8 (n:Nat) {l:List Int} (h0:0<l.length) (hl:l.length<1000) (hn:l.length<n):∃m,NN n l=some m/\m ∈ l/\∀x ∈ l,m<=x:=by
 have h00:l[0]? = some l[0]:=RY h0;obtain⟨r,h1,h2⟩:=iu (B:=zG n l) (len:=l.length) (fun i (s:Int)=>(s,(i:Int))) (fun i s=>s ∈ l/\∀x ∈ l.take i,s<=x) (fun r=>r ∈ l/\∀x ∈ l,r<=x) (fun i s hi hs=>by
  have hx:=RY hi;refine .inl ⟨mi s l[i],?_,?_,fun x hxm=>?_⟩
  ·unfold zG
   try dsimp only
   rw[Vf,al hi,aJ,aR hx,ah,Vh]
  rw[gB];rcases Int.le_total s l[i] with h|h
  rw[Int.min_eq_left h]; exact hs.1
  rw[Int.min_eq_right h]; exact Sn _
  rw[T2,hx,Sm] at hxm;rw[gB];rcases hxm with h|h
  have:=hs.2 x h; omega
  simp at h; omega) (fun s hs=>by
  rw[List.take_length] at hs;refine⟨s,?_,hs⟩;unfold zG
  try dsimp only
  rw[Vg]) (l.length-1) 1 l[0] n (by omega) (by omega) ⟨Sn _,fun x hx=>by
   rw[T2,h00] at hx;simp at hx; omega⟩
 refine⟨r,?_,h2⟩;unfold NN;rw[Vg,show bw 0 l.length=true from R3 ⟨by omega,by omega⟩,aJ,show Uy=0 from rfl,h00,ah,show((l[0],1):Int × Int)=(l[0],((1:Nat):Int)) from rfl,h1,ah]
def Nq (n:Nat) {l:List Int} (h0:0<l.length) (hl:l.length<1000) (hn:l.length<n):∃m,NP n l=some m/\m ∈ l/\∀x ∈ l,x<=m:=by
 have h00:l[0]? = some l[0]:=RY h0;obtain⟨r,h1,h2⟩:=iu (B:=yJ n l) (len:=l.length) (fun i (s:Int)=>(s,(i:Int))) (fun i s=>s ∈ l/\∀x ∈ l.take i,x<=s) (fun r=>r ∈ l/\∀x ∈ l,x<=r) (fun i s hi hs=>by
  have hx:=RY hi;refine .inl ⟨ma s l[i],?_,?_,fun x hxm=>?_⟩
  ·unfold yJ
   try dsimp only
   rw[Vf,al hi,aJ,aR hx,ah,Vh]
  rw[gG];rcases Int.le_total s l[i] with h|h
  rw[Int.max_eq_right h]; exact Sn _
  rw[Int.max_eq_left h]; exact hs.1
  rw[T2,hx,Sm] at hxm;rw[gG];rcases hxm with h|h
  have:=hs.2 x h; omega
  simp at h; omega) (fun s hs=>by
  rw[List.take_length] at hs;refine⟨s,?_,hs⟩;unfold yJ
  try dsimp only
  rw[Vg]) (l.length-1) 1 l[0] n (by omega) (by omega) ⟨Sn _,fun x hx=>by
   rw[T2,h00] at hx;simp at hx; omega⟩
 refine⟨r,?_,h2⟩;unfold NP;rw[Vg,show bw 0 l.length=true from R3 ⟨by omega,by omega⟩,aJ,show Uy=0 from rfl,h00,ah,show((l[0],1):Int × Int)=(l[0],((1:Nat):Int)) from rfl,h1,ah]
def nW (m:Nat) (l:List Int):Bool:=decide (3<=l.length/\l.length<=40/\∀i ∈ l,0<=i/\i<m)
section
variable {pts : List I2} (n : Nat)
def EI {rs:Um} (hr:rs.length<1000) (hn:1000<n):bg (xY n rs pts) n 0=some (if rs.all (nW pts.length) then .inr () else .inl ()):=by
 rw[<-mM];refine bj (len:=rs.length) (fun i hi=>?_) ?_ rs.length 0 n (by omega) (by omega)
 ·have hx:=RY hi;generalize rs[i]=l at hx;unfold xY bad;rw[hx]
  try dsimp only
  rw[Vf,al hi,aJ,aR hx,ah,Vh]
  have key:(br (decide ((l.length:Int)<3)) (some true) (br (decide (40<(l.length:Int))) (some true) (ob (NN n l) fun r0=>br (decide (r0<0)) (some true) (ob (NP n l) fun r1=>some (decide ((pts.length:Int)<=r1))))))=some (!nW pts.length l):=by
   by_cases h0:(l.length:Int)<3
   rw[au h0];unfold nW;rw[R6 (by omega)]; rfl
   rw[av h0]
   by_cases h1:40<(l.length:Int)
   rw[au h1];unfold nW;rw[R6 (by omega)]; rfl
   rw[av h1];obtain⟨a,e0,e2,e1⟩:=M8 n (l:=l) (by omega) (by omega) (by omega)
   obtain⟨b,f0,f1,f2⟩:=Nq n (l:=l) (by omega) (by omega) (by omega)
   rw[e0,ah]
   by_cases h2:a<0
   rw[au h2];unfold nW;rw[R6 (fun h=>by have:=h.2.2 a e2; omega)]; rfl
   rw[av h2,f0,ah];unfold nW;rw[<-decide_not];refine SD some (decide_eq_decide.2 ⟨fun h g=>by have:=g.2.2 b f1; omega,fun h=>?_⟩)
   refine R1 fun hc=>h ⟨by omega,by omega,fun x hx=>?_⟩
   have:=e1 x hx;have:=f2 x hx;omega
  rw[key,ah];cases nW pts.length l
  rw[show(!false)=true from rfl,fk]; rfl
  rw[show(!true)=false from rfl,fc]; rfl
 ·unfold xY
  try dsimp only
  rw[Vg]
def CV {rs:Um} (hr:rs.length<1000) (hn:1000<n):bg (tv n rs pts) n 0=some (if rs.all (nW pts.length) then .inr () else .inl ()):=by
 rw[<-mM];refine bj (len:=rs.length) (fun i hi=>?_) ?_ rs.length 0 n (by omega) (by omega)
 ·have hx:=RY hi;generalize rs[i]=l at hx;unfold tv bad;rw[hx]
  try dsimp only
  rw[Vf]
  simp only[al hi,aJ,aR hx,ah,aj (show i<4611686018427387904 by omega)]
  by_cases h3:(l.length:Int)<3
  have:nW pts.length l=false:=R6 (by omega)
  rw[au h3,ah,fk,this]; rfl
  rw[av h3,ah]
  by_cases h4:40<(l.length:Int)
  have:nW pts.length l=false:=R6 (by omega)
  rw[au h4,this]; rfl
  rw[av h4];have key:bg (rY n (i:Int) rs pts) n 0=some (if l.all (fun x=>decide (0<=x/\x<pts.length)) then .inr () else .inl ()):=by
   rw[<-mM];refine bj (len:=l.length) (fun j hj=>?_) ?_ l.length 0 n (by omega) (by omega)
   ·have hy:=RY hj;generalize l[j]=x at hy;unfold rY bad;rw[hy]
    try dsimp only
    simp only[al hi,aJ,aR hx,ah,aj (show j<4611686018427387904 by omega)]
    rw[Vf]
    simp only[al hj,aJ,aR hy,ah]
    by_cases h5:x<0
    rw[au h5,ah,fk,RZ (by simp; omega)]
    rw[av h5,ah]
    by_cases h6:(pts.length:Int)<=x
    rw[au h6,RZ (by simp; omega)]
    rw[av h6,R0 (by simp; omega)]
   ·unfold rY
    try dsimp only
    simp only[al hi,aJ,aR hx,ah];rw[Vg]
  rw[key,ah]
  by_cases h7:l.all (fun x=>decide (0<=x/\x<pts.length))=true
  have:nW pts.length l=true:=R3 ⟨by omega,by omega,fun x hx=>by simpa using Sb.1 h7 x hx⟩
  rw[R0 h7,this]; rfl
  have:nW pts.length l=false:=R6 fun h=>h7 (Sb.2 fun x hx=>R3 (h.2.2 x hx));rw[RZ h7,this]; rfl
 ·unfold tv
  try dsimp only
  rw[Vg]
end
end Go.Proofs.YtmndpgfbkicndaaGreat
end
