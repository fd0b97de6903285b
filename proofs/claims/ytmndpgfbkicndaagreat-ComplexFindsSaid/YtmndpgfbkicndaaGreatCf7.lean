/- A part of the proof. -/
import Derived.Test.YtmndpgfbkicndaaGreatCf6
set_option linter.all false
section
namespace Go.Proofs.YtmndpgfbkicndaaGreat
open Go Go.Ab Go.Ab.W
set_option maxRecDepth 10000
set_option maxHeartbeats 4000000
attribute [local irreducible] Wo Wk At Wn Od Ox bo cb
attribute [local irreducible] Tm.at Trie.set Trie.get Vo.get Vo.set Vo.alloc Vo.ww Vo.kill
variable{p q:Option Prim}
def Is{n l2 l1 x3 x4 a0 c1 a1 c0}{r0:Ux}{e0:Uv}{r}(hF:Og n l2 l1 x3 x4=some r)(m)(h3:dA m a0 c1 l2)(h4:fa m a1 c0 l1 e0)(h5:(bT ai r0 l1 e0).P m):
 aC (Vr p q) 33 [dZ a0 l2 c1 a1 l1 c0,eU x3 x4] m (Vn m (.tuple #[.int .i64 r.1,.int .i64 r.2])):=by
 unfold Og at hF;refine cw Tryz.func33 (U5 (UT (UT (UP m) bQ h3) (bO bQ) h4) (bO (bO bQ)) h5) ?_;refine wz ?_;refine wb fun b0=>?_;refine wb fun b1=>?_;refine an ?_;obtain⟨r5,h6,hF⟩:=J hF;refine wc gn (fun m hm=>tR h6 m (hm.q 4) (hm.q 3) (hm.dp (q:=2) rfl)) ?_;rintro⟨⟩;refine an ?_;rcases U hF with⟨h7,hF⟩|⟨h7,hF⟩;refine an ?_;cases hF;exact ar () [];refine an ?_;obtain⟨r6,h8,hF⟩:=J hF;refine wc gn (fun m hm=>Fq h8 m) ?_;rintro⟨⟩;refine wz ?_;rcases U hF with⟨h9,hF⟩|⟨h9,hF⟩;refine an ?_;cases hF;exact ar () [];refine an ?_;refine UH (jO rfl rfl) rfl ?_;obtain⟨v1,h10,hF⟩:=J hF;refine wq (fun v1 (_:Unit)=>(.int .i64 v1,[])) v1 (fun m hm=>?_) ?_;clear hF;revert v1;intro r hF;refine aW (N:=19) (rs:=[.tmp 4]) rfl Tryz.func57 rfl rfl rfl hm ?_;refine an ?_;refine UK ?_;obtain⟨r1,h1,hF⟩:=J hF;refine ct (fun(r:(Int) ⊕(Unit)) (g:Unit)=>match r,g with|.inl v4,_=>⟨.ret,[(4,aL v4)],[]⟩|.inr _,_=>⟨(.exit 0),[],[]⟩) r1 ?_ ?_
 refine lo h1 () [1,4,3,2,0] (fun v5 _=>⟨.normal,((1,.func (.func 58) #[] #[ptr b0 0,ptr b1 0])::xT a1 l1 c0 v5 []),(cR b0 a0 l2 c1 a1 l1 c0 e0 ai r0 [cS b1 x3 x4])⟩) ?_;clear hF h1;rintro v5 ⟨⟩ r hF;unfold y7 at hF;refine wz ?_;refine UJ ?_;rcases U hF with⟨h11,hF⟩|⟨h11,hF⟩;refine an ?_;obtain⟨h12,hF⟩:=bI hF;refine UY (k:=2) rfl (az h12) ?_;rintro b2 o1 rfl;refine wz ?_;obtain⟨⟨l5,l6⟩,h13,hF⟩:=J hF;refine wl 2 0 4 0 h13 ?_;rintro⟨⟨a3,c3⟩,⟨a4,c4,e3⟩⟩;refine wa z31 fun b4=>?_;refine an ?_;obtain⟨v2,h14,hF⟩:=J hF;refine wq (fun v2 (_:Unit)=>(.bool v2,(fg b0 a0 l2 c1 b2 o1 l1 c0 e0 ai r0 [cS b1 x3 x4]))) v2 (fun m hm=>?_) ?_;clear hF;revert v2;intro r hF;refine aW (N:=16) (rs:=[.tmp 4]) rfl Tryz.func58 rfl rfl rfl hm ?_;refine wz ?_;refine wb fun b5=>?_;refine an ?_;obtain⟨r7,h15,hF⟩:=J hF;refine wc gn (fun m hm=>AJ h15 m (hm.q 7) (hm.q 8) (hm.dp (q:=9) rfl) (hm.q 2) (hm.q 3) (hm.dp (q:=4) rfl)) ?_;rintro⟨⟩;refine wz ?_;rcases U hF with⟨h0,hF⟩|⟨h0,hF⟩;refine an ?_;cases hF;exact ar () [6,7,5,9,8,10];refine wz ?_;obtain⟨l3,h16,hF⟩:=J hF;refine vN (gg rfl rfl (iM h0)) (fun m hm=>jx h16 m hm.cy (hm.q 2) (hm.no 2) (hm.q 3) (hm.no 3) (hm.dp (q:=4) rfl) (hm.dw (q:=4) rfl)) ?_;rintro⟨a2,c2,n0,e1,r3⟩;refine Vb (k:=0) (q:=1) (L:=l3) rfl (.inr (.inl ⟨_,rfl⟩)) rfl ?_;rintro rfl;refine UZ (jO rfl rfl) (gg rfl rfl (iM h0)) rfl ?_;obtain⟨v0,h17,hF⟩:=J hF;refine UX (lN (α:=Unit) (V:=fun g=>(fun(r:Int) (g:Unit)=>match r,g with|v0,_=>(.int .i64 v0:Uy)) v0 g) (N:=fun g=>(fun(r:Int) (g:Unit)=>match r,g with|v0,_=>((fg b0 a0 l2 c1 b2 o1 l1 c0 e0 ai r0 [cS b1 x3 x4]):List Pc)) v0 g) rfl rfl (fun m hm=>?_)) (gg rfl rfl (iM h0)) rfl ?_
 clear hF;revert v0;intro r hF;refine aW (N:=19) (rs:=[.tmp 4]) rfl Tryz.func60 rfl rfl rfl hm ?_;refine an ?_;refine UK ?_;obtain⟨r4,h2,hF⟩:=J hF;refine ct (fun(r:(Int) ⊕(Unit)) (g:Unit)=>match r,g with|.inl v6,_=>⟨.ret,[(4,aL v6)],(fg b0 a0 l2 c1 b2 o1 l1 c0 e0 ai r0 [cS b1 x3 x4])⟩|.inr _,_=>⟨(.exit 0),[],(fg b0 a0 l2 c1 b2 o1 l1 c0 e0 ai r0 [cS b1 x3 x4])⟩) r4 ?_ ?_
 refine lo h2 () [8,9,7,11,10,12,0,1] (fun v7 _=>⟨.normal,((1,.func (.func 61) #[] #[ptr b0 0,ptr b1 0])::xT a2 l3 c2 v7 []),(fg b0 a0 l2 c1 b2 o1 l1 c0 e0 ai r0 (cS b1 x3 x4::ff a2 c2 l3 e1 ba r3 []))⟩) ?_;clear hF h2;rintro v7 ⟨⟩ r hF;unfold ym at hF;refine wz ?_;refine UJ ?_;rcases U hF with⟨h18,hF⟩|⟨h18,hF⟩;refine an ?_;obtain⟨h19,hF⟩:=bI hF;refine UY (k:=6) rfl (az h19) ?_;rintro b3 o2 rfl;refine wz ?_;obtain⟨l7,h20,hF⟩:=J hF;refine wl 1 0 8 0 h20 ?_;rintro⟨a5,c5⟩;refine an ?_;obtain⟨v3,h21,hF⟩:=J hF;refine wq (fun v3 (_:Unit)=>(.bool v3,(fg b0 a0 l2 c1 b2 o1 l1 c0 e0 ai r0 (cS b1 x3 x4::iV b3 o2 l3 e1 ba r3 c2 [])))) v3 (fun m hm=>?_) ?_;clear hF;revert v3;intro r hF;refine aW (N:=11) (rs:=[.tmp 4]) rfl Tryz.func61 rfl rfl rfl hm ?_;refine wz ?_;refine UJ<|U3 (prs:=[(2,3)]) (by kernel_rfl)<|UI (aD (k:=2) eS rfl rfl rfl) rfl<|UI (aK rfl) rfl ?_
 obtain⟨l4,h22,hF⟩:=J hF;refine nc gn (fun m hm=>oH h22 m (hm.q 3) (hm.q 6) (hm.dp (q:=5) rfl) (hm.q 0)) ?_;rintro⟨a6,n1⟩;refine Wn.len (k:=0) (xs:=l4) rfl ?_;rintro rfl;refine UI (aD (k:=8) bJ rfl rfl rfl) rfl ?_;obtain⟨r8,h23,hF⟩:=J hF;refine nc gn (fun m hm=>Ba h23 m (hm.rd (k:=0) rfl (.sl _ _ _ _))) ?_;rintro⟨⟩;refine UI (aI rfl rfl (ng _ _ _)) rfl<|UI (bH rfl) rfl<|U0 (fun m hm=>cq.all rfl) ?_;refine an ?_;cases hF;exact ar () [3,4,5,6,7,8,2,10,9];rintro⟨⟩;refine wz ?_;rcases U hF with⟨h24,hF⟩|⟨h24,hF⟩;refine an ?_;cases hF;exact ae () (Vh 0 6);refine an ?_;cases hF;exact ae () [0,1,2,3,4,5,8,7];refine wz ?_;cases hF;exact ae () (Vh 0 6);rcases r4 with v6|_;rintro⟨⟩;refine wz ?_;obtain rfl:=R9 hF;exact ar () (Vh 0 6);rintro⟨⟩;refine dM ?_;cases hF;exact ar () (Vh 0 6);rintro⟨⟩;refine an ?_;cases hF;exact ar () (Vh 0 6);rintro⟨⟩;refine wz ?_;rcases U hF with⟨h25,hF⟩|⟨h25,hF⟩;refine an ?_;cases hF;exact ae () [];refine an ?_;cases hF;exact ae () [0,1,4,3,5];refine wz ?_;cases hF;exact ae () [];rcases r1 with v4|_;rintro⟨⟩;refine wz ?_;obtain rfl:=R9 hF;exact ar () [];rintro⟨⟩;refine dM ?_;cases hF;exact ar () [];rintro⟨⟩;refine an ?_;cases hF;exact ar () []
def NU{n l2 l1 x3 x4 x10 a0 c0 a1 c1}{r0:Ux}{e0:Uv}{r}(hF:P7 n l2 l1 x3 x4 x10=some r)(m)(h2:dA m a0 c0 l2)(h3:fa m a1 c1 l1 e0)(h4:(bT ai r0 l1 e0).P m):
 aC (Vr p q) 72 [dZ a0 l2 c0 a1 l1 c1,aL x3,eU x4 x10] m (Vn m (.bool r)):=by
 unfold P7 at hF;refine cw Tryz.func72 (U5 (UT (UT (UP m) bQ h2) (bO bQ) h3) (bO (bO bQ)) h4) ?_;refine wz ?_;refine wb fun b0=>?_;refine wb fun b1=>?_;refine an ?_;obtain⟨h5,hF⟩:=bI hF;refine UY (k:=3) rfl (az h5) ?_;rintro b2 o1 rfl;refine wz ?_;obtain⟨⟨l5,l6⟩,h6,hF⟩:=J hF;refine wl 2 0 3 0 h6 ?_;rintro⟨⟨a3,c3⟩,⟨a4,c4,e3⟩⟩;obtain⟨l3,h7,hF⟩:=J hF;refine vN gn (fun m hm=>k8 h7 m hm.cy (hm.q 0) (hm.no 0) (hm.q 1) (hm.no 1) (hm.dp (q:=2) rfl) (hm.dw (q:=2) rfl)) ?_;rintro⟨a2,c2,n0,e1,r3⟩;refine Vb (k:=0) (q:=1) (L:=l3) rfl (.inr (.inl ⟨_,rfl⟩)) rfl ?_;rintro rfl;refine an ?_;refine UK ?_;obtain⟨r1,h0,hF⟩:=J hF;refine ct (fun(r:(Unit) ⊕(Unit)) (g:Unit)=>match r,g with|.inl _,_=>⟨.ret,[(6,.bool true)],[]⟩|.inr _,_=>⟨(.exit 0),[(1,aL x3),(3,ptr b0 0),(5,ptr b1 0)],(fg b0 a0 l2 c0 b2 o1 l1 c1 e0 ai r0 [cS b1 x4 x10])⟩) r1 ?_ ?_
 refine lo h0 () [7,10,5,8,9,6,0,1] (fun v0 _=>⟨.normal,[(1,aL x3),(3,ptr b0 0),(5,ptr b1 0),(7,bl a2 l3 c2),(8,aL v0)],(fg b0 a0 l2 c0 b2 o1 l1 c1 e0 ai r0 (cS b1 x4 x10::ff a2 c2 l3 e1 ba r3 []))⟩) ?_;clear hF h0;rintro v0 ⟨⟩ r hF;unfold yb at hF;refine wz ?_;rcases U hF with⟨h8,hF⟩|⟨h8,hF⟩;refine wz ?_;refine UJ<|UK<|UJ<|U3 (prs:=[(5,6)]) (by kernel_rfl)<|UI (aD (k:=0) eS rfl rfl rfl) rfl<|UI (aK rfl) rfl<|UI (aK rfl) rfl ?_
 obtain⟨h1,hF⟩:=bI hF;refine Wn.aP (k:=6) rfl (az h1) ?_;rintro b3 o2 rfl;refine U2 (cQ kn rfl rfl h1) gn rfl ?_;obtain⟨l7,h9,hF⟩:=J hF;refine Va (Ey (w:=1) (j:=v0.toNat) (c:=0) (q:=8) ia rfl rfl (ln (k:=0) rfl) rfl h9 (fun _=>rfl) rfl (fun _=>rfl)) gn rfl ?_;rintro⟨a5,c5⟩;obtain⟨l4,h10,hF⟩:=J hF;refine nc gn (fun m hm=>oK h10 m (hm.q 3) (hm.q 6) (hm.dp (q:=5) rfl) (hm.q 0)) ?_;rintro⟨a6,n1⟩;refine Wn.len (k:=0) (xs:=l4) rfl ?_;rintro rfl;refine UI (aD (k:=8) bJ rfl rfl rfl) rfl ?_;obtain⟨r4,h11,hF⟩:=J hF;refine nc gn (fun m hm=>xF h11 m (hm.rd (k:=0) rfl (.sl _ _ _ _))) ?_;rintro⟨⟩;refine UI (aI rfl rfl (ng _ _ _)) rfl<|U0 (fun m hm=>cq.all rfl)<|US ?_;rcases U hF with⟨h12,hF⟩|⟨h12,hF⟩;refine an ?_;cases hF;exact ae () [];refine an ?_;cases hF;exact ae () (Vh 3 8);refine wz ?_;cases hF;exact ae () (Vh 0 6);rcases r1 with _|_;rintro⟨⟩;refine wz ?_;cases hF;exact ar () [];rintro⟨⟩;refine an ?_;obtain⟨r5,h13,hF⟩:=J hF;refine wc gn (fun m hm=>CP h13 m (hm.q 1) (hm.q 4) (hm.dp (q:=3) rfl)) ?_;rintro⟨⟩;refine an ?_;obtain rfl:=R9 hF;exact ar () []
def NW{n l1 l5 x12 x13 a2 c3 a6 c7}{rr8:Ux}{es9:Uv}{r}(hF:Pg n l1 l5 x12 x13=some r)(m)(h4:dA m a2 c3 l1)(h10:fa m a6 c7 l5 es9)(h11:(bT ai rr8 l5 es9).P m):
 aC (Vr p q) 44 [dZ a2 l1 c3 a6 l5 c7,eU x12 x13] m (Vn m (.tuple #[.int .i64 r.1,.int .i64 r.2])):=by
 unfold Pg at hF;refine cw Tryz.func44 (U5 (UT (UT (UP m) bQ h4) (bO bQ) h10) (bO (bO bQ)) h11) ?_;refine wz ?_;refine wb fun b14=>?_;refine wb fun b15=>?_;refine an ?_;obtain⟨r17,h16,hF⟩:=J hF;refine wc gn (fun m hm=>BI h16 m (hm.q 4) (hm.q 3) (hm.dp (q:=2) rfl)) ?_;rintro⟨⟩;refine an ?_;rcases U hF with⟨h18,hF⟩|⟨h18,hF⟩;refine an ?_;cases hF;exact ar () [];refine an ?_;obtain⟨r20,h19,hF⟩:=J hF;refine wc gn (fun m hm=>Bf h19 m) ?_;rintro⟨⟩;refine wz ?_;rcases U hF with⟨h21,hF⟩|⟨h21,hF⟩;refine an ?_;cases hF;exact ar () [];refine an ?_;refine UK ?_;obtain⟨r35,h34,hF⟩:=J hF;refine ct (fun(r:(Int) ⊕(Unit)) (g:Unit)=>match r,g with|.inl v29,_=>⟨.ret,[(4,aL v29),(5,.int .i64 0)],[]⟩|.inr _,_=>⟨(.exit 0),[],[]⟩) r35 ?_ ?_
 refine lo h34 () [1,4,3,2,0] (fun v23 _=>⟨.normal,(ra b14 b15 [(7,aL v23)]),(cR b14 a2 l1 c3 a6 l5 c7 es9 ai rr8 [cS b15 x12 x13])⟩) ?_;clear hF h34;rintro v23 ⟨⟩ r hF;unfold zt at hF;refine wz ?_;rcases U hF with⟨h30,hF⟩|⟨h30,hF⟩;refine an ?_;obtain⟨r32,h31,hF⟩:=J hF;refine wc gn (fun m hm=>NU h31 m (hm.q 1) (hm.q 2) (hm.dp (q:=3) rfl)) ?_;rintro⟨⟩;refine wz ?_;rcases U hF with⟨h33,hF⟩|⟨h33,hF⟩;refine an ?_;cases hF;exact ae () [];refine an ?_;cases hF;exact ae () (Vh 0 5);refine wz ?_;cases hF;exact ae () [];rcases r35 with v29|_;rintro⟨⟩;refine wz ?_;cases hF;exact ar () [];rintro⟨⟩;refine dM ?_;cases hF;exact ar () []
def Ao{n l1 a2 c3 r}(hF:F9 n l1=some r)(m)(h4:qY m a2 c3 l1):
 aC (Vr p q) 9 [bl a2 l1 c3] m (fun v m'=>∃x:Uw×Nat,v=.slice x.1 x.2 x.2/\Hp m m' [.sl x.1 2 x.2 (r.map (eP (eI .i64) (eI .i64)))]):=by
 unfold F9 at hF;refine cw Tryz.func9 (UT (UP m) bQ h4) ?_;refine dM ?_;refine UK ?_;obtain⟨l37,h51,hF⟩:=J hF;refine ct (fun l37 (a38:Uw)=>⟨(.exit 0),[(3,bU a38 l37)],[de a38 l37]⟩) l37 ?_ ?_;refine lw h51 none (fun(l19,v21) a20=>⟨.normal,[(0,bl a2 l1 c3),(3,bU a20 l19),(4,aL v21)],[k9 a2 c3 l1,de a20 l19]⟩) (UQ (Vd 2 rfl) (UN [1,0] rfl rfl)) ?_;clear hF h51;rintro⟨l19,v21⟩ a20 r hF;unfold OV at hF;refine wz ?_;rcases U hF with⟨h39,hF⟩|⟨h39,hF⟩;refine an ?_;obtain⟨h40,hF⟩:=bI hF;refine UY (k:=0) rfl (az h40) ?_;rintro b41 o42 rfl;refine wz ?_;obtain⟨x43,h44,hF⟩:=J hF;refine wz ?_;obtain⟨h45,hF⟩:=bI hF;refine wz ?_;obtain⟨x46,h47,hF⟩:=J hF;refine wz ?_;refine UH (cj rfl iv rfl (cm vV rfl rfl rfl)) rfl<|UX (cu (es:=([(x43,x46)]:Ut).map (eP (eI .i64) (eI .i64))) ue rfl (cx ue iv rfl rfl) rfl rfl) gn rfl fun b48=>?_;obtain⟨h49,hF⟩:=aA hF;refine UX (ph (k:=3) (k2:=0) (xs:=(l19:Ut)) (ys:=([(x43,x46)]:Ut)) (Ar (py .i64) (py .i64)) ue ⟨_,N4⟩ rfl rfl rfl (.arr _ _ _ _ _) h49) gn rfl fun a50=>?_;refine an ?_;cases hF;exact ae a50 [2,3];refine wz ?_;cases hF;exact ae a20 [1];rintro a38;refine dM ?_;obtain rfl:=R9 hF;exact ar (a38,l37.length) [0]
def Fg{n l1 l5 a2 c3 a6 c7}{rr8:Ux}{es9:Uv}{r}(hF:Qq n l1 l5=some r)(m)(h4:dA m a2 c3 l1)(h10:fa m a6 c7 l5 es9)(h11:(bT ai rr8 l5 es9).P m):
 aC (Vr (some lL) q) 36 [dZ a2 l1 c3 a6 l5 c7] m (fun v m'=>∃x:Uw×Nat,v=.tuple #[.slice x.1 x.2 x.2,.int .i64 r.2]/\Hp m m' [.sl x.1 4 x.2 (r.1.map (eP (eI .i64) (eP (eI .i64) (eP (eI .i64) (eI .i64)))))]):=by
 unfold Qq at hF;refine cw Tryz.func36 (U5 (UT (UT (UP m) bQ h4) (bO bQ) h10) (bO (bO bQ)) h11) ?_;refine wz ?_;refine wb fun b12=>?_;refine an ?_;obtain⟨r14,h13,hF⟩:=J hF;refine wc gn (fun m hm=>tR h13 m (hm.q 3) (hm.q 2) (hm.dp (q:=1) rfl)) ?_;rintro⟨⟩;refine an ?_;rcases U hF with⟨h15,hF⟩|⟨h15,hF⟩;refine an ?_;cases hF;exact U1 (.tmp rfl (.tmp rfl .nil)) fun m' hm=>⟨(none,0),rfl,(UQ (Vd 4 rfl) (UN [0] rfl rfl)) m' hm⟩;refine an ?_;obtain⟨l17,h16,hF⟩:=J hF;refine wc gn (fun m hm=>IE n l1 l5 a2 c3 a6 c7 rr8 es9 _ h16 m (hm.q 3) (hm.q 2) (hm.dp (q:=1) rfl)) ?_;rintro⟨a18,n19⟩;refine U7 (k:=0) (xs:=l17) rfl ?_;rintro rfl;refine an ?_;cases hF;exact ar (a18,l17.length) [0]
def Nl{n l1 l5 a2 c3 a6 c7 r}(hF:QQ n l1 l5=some r)(m)(h4:Rd m a2 c3 4 l1.length (l1.map (eP (eI .i64) (eP (eI .i64) (eP (eI .i64) (eI .i64))))))(h8:Rd m a6 c7 4 l5.length (l5.map (eP (eI .i64) (eP (eI .i64) (eP (eI .i64) (eI .i64)))))):
 aC (Vr p q) 40 [bl a2 l1 c3,bl a6 l5 c7] m (Vn m (.bool r)):=by
 unfold QQ at hF;refine cw Tryz.func40 (UT (UT (UP m) bQ h4) (bO bQ) h8) ?_;refine UJ<|UM<|UH (bH rfl) rfl<|UU<|US<|UJ<|UJ<|UM<|UH (aK rfl) rfl<|UH (il (k:=1) Of rfl rfl (.inl rfl)) rfl<|UH (aK rfl) rfl<|UH (il (k:=0) Of rfl rfl (.inl rfl)) rfl<|UH (aI rfl rfl (oj _ _)) rfl<|UU<|US ?_;rcases U hF with⟨h9,hF⟩|⟨h9,hF⟩;refine U8 rfl h9<|UJ<|UM<|UH (bH rfl) rfl<|UU<|US<|Wk.ret<|At.tr ?_;cases hF;exact ar () [];refine Wk.eY rfl h9<|Ve<|US<|UJ<|UJ<|UM<|UH (aK rfl) rfl<|UH (il (k:=1) Of rfl rfl (.inl rfl)) rfl<|UH (aK rfl) rfl<|UU<|US<|UK ?_;obtain⟨r50,h49,hF⟩:=J hF;refine ct (fun(r:(Unit) ⊕(Unit)) (g:Unit)=>match r,g with|.inl _,_=>⟨.ret,[(4,.bool false)],[]⟩|.inr _,_=>⟨(.exit 0),[],[]⟩) r50 ?_ ?_
 refine lo h49 () [1,0] (fun v11 _=>⟨.normal,[(0,bl a2 l1 c3),(1,bl a6 l5 c7),(12,eh l1),(13,aL v11)],[.rd a2 c3 4 l1.length (l1.map (eP (eI .i64) (eP (eI .i64) (eP (eI .i64) (eI .i64))))),.rd a6 c7 4 l5.length (l5.map (eP (eI .i64) (eP (eI .i64) (eP (eI .i64) (eI .i64)))))]⟩) ?_;clear hF h49;rintro v11 ⟨⟩ r hF;unfold Ls at hF;refine UJ<|UM<|UH (aI rfl rfl (gi _ _ _)) rfl<|UU<|US<|UJ ?_;rcases U hF with⟨h31,hF⟩|⟨h31,hF⟩;refine U8 rfl h31<|Ve<|US<|UJ<|UK<|UJ<|UM<|UH (aK rfl) rfl<|UH (bH rfl) rfl<|UU<|US<|UJ<|Wk.draw (by kernel_rfl)<|UH (aK rfl) rfl<|UH (aK rfl) rfl ?_
 obtain⟨h32,hF⟩:=bI hF;refine UY (k:=0) rfl (az h32) ?_;rintro b33 o34 rfl;refine UZ (cQ Lv rfl rfl h32) gn rfl ?_;obtain⟨⟨x35,x36,x37,x38⟩,h39,hF⟩:=J hF;refine UH (fi (k:=0) AB rfl rfl (cK h39) rfl rfl) rfl<|UH (aK rfl) rfl<|UH (aK rfl) rfl ?_;obtain⟨h40,hF⟩:=bI hF;refine UY (k:=2) rfl (az h40) ?_;rintro b41 o42 rfl;refine UZ (cQ Lv rfl rfl h40) gn rfl ?_;obtain⟨⟨x43,x44,x45,x46⟩,h47,hF⟩:=J hF;refine UH (fi (k:=0) AB rfl rfl (cK h47) rfl rfl) rfl<|UH (aI rfl rfl (Lu Ra (Ri _ _ _ _ _ _ _ _))) rfl<|UU<|US ?_;rcases U hF with⟨h48,hF⟩|⟨h48,hF⟩;refine U8 rfl h48<|UJ<|UM<|UH (bH rfl) rfl<|UU<|US<|Wk.ret<|At.br<|At.tr ?_;cases hF;exact ae () [];refine Wk.eY rfl h48<|Ve<|At.bn<|US<|UM<|UH (aI rfl rfl (bR _ _ _)) rfl<|UH (aK rfl) rfl<|UU ?_;cases hF;exact ae () [2,3];refine Wk.eY rfl h31<|Wk.exit<|At.te ?_;cases hF;exact ae () [];rcases r50 with _|_;rintro⟨⟩;refine At.br<|At.tr ?_;cases hF;exact ar () [];rintro⟨⟩;refine At.be<|US<|UJ<|UM<|UH (bH rfl) rfl<|UU<|US<|Wk.ret ?_;cases hF;exact ar () []
def tA{n l1 l5 x12 x13 a2 c3 a6 c7}{rr8:Ux}{es9:Uv}{r}(hF:MH n l1 l5 x12 x13=some r)(m)(h4:dA m a2 c3 l1)(h10:fa m a6 c7 l5 es9)(h11:(bT ai rr8 l5 es9).P m):
 aC (Vr (some lL) q) 11 [dZ a2 l1 c3 a6 l5 c7,aL x12,aL x13] m (Vn m (.bool r)):=by
 unfold MH at hF;refine cw Tryz.func11 (U5 (UT (UT (UP m) bQ h4) (bO bQ) h10) (bO (bO bQ)) h11) ?_;refine wz ?_;refine wb fun b14=>?_;refine an ?_;obtain⟨⟨r16,r17⟩,h15,hF⟩:=J hF;refine wc gn (fun m hm=>GY h15 m (hm.q 3) (hm.q 2) (hm.dp (q:=1) rfl)) ?_;rintro⟨⟩;refine an ?_;obtain⟨⟨l19,r22⟩,h18,hF⟩:=J hF;refine wc gn (fun m hm=>Fg h18 m (hm.q 3) (hm.q 2) (hm.dp (q:=1) rfl)) ?_;rintro⟨a20,n21⟩;refine U7 (k:=0) (xs:=l19) rfl ?_;rintro rfl;refine an ?_;rcases U hF with⟨h23,hF⟩|⟨h23,hF⟩;refine wz ?_;rcases U hF with⟨h24,hF⟩|⟨h24,hF⟩;refine wz ?_;refine UZ (aI rfl rfl (FY u4)) (gg rfl rfl (dJ h24)) rfl ?_;refine an ?_;cases hF;exact ar () [];refine an ?_;cases hF;exact ar () [];refine an ?_;cases hF;exact ar () []
def Fj{n l1 l5 x12 x13 x14 x15 a2 c3 a6 c7}{rr8:Ux}{es9:Uv}{r}(hF:Qm n l1 l5 x12 x13 x14 x15=some r)(m)(h4:dA m a2 c3 l1)(h10:fa m a6 c7 l5 es9)(h11:(bT ai rr8 l5 es9).P m):
 aC (Vr (some lL) (some EC)) 29 [dZ a2 l1 c3 a6 l5 c7,aL x12,aL x13,aL x14,aL x15] m (Vn m (.bool r)):=by
 unfold Qm at hF;refine cw Tryz.func29 (U5 (UT (UT (UP m) bQ h4) (bO bQ) h10) (bO (bO bQ)) h11) ?_;refine wz ?_;refine wb fun b16=>?_;refine an ?_;obtain⟨⟨r18,r19,r20,r21,r22⟩,h17,hF⟩:=J hF;refine wc gn (fun m hm=>L6 n l1 l5 a2 c3 a6 c7 rr8 es9 _ h17 m (hm.q 3) (hm.q 2) (hm.dp (q:=1) rfl)) ?_;rintro⟨⟩;refine an ?_;rcases U hF with⟨h23,hF⟩|⟨h23,hF⟩;refine wz ?_;rcases U hF with⟨h24,hF⟩|⟨h24,hF⟩;refine wz ?_;rcases U hF with⟨h25,hF⟩|⟨h25,hF⟩;refine wz ?_;rcases U hF with⟨h26,hF⟩|⟨h26,hF⟩;refine an ?_;cases hF;exact ar () [];refine an ?_;cases hF;exact ar () [];refine an ?_;cases hF;exact ar () [];refine an ?_;cases hF;exact ar () [];refine an ?_;cases hF;exact ar () []
def wB{n l1 l5 x12 x13 x14 a2 c3 a6 c7}{rr8:Ux}{es9:Uv}{r}(hF:Oo n l1 l5 x12 x13 x14=some r)(m)(h4:dA m a2 c3 l1)(h10:fa m a6 c7 l5 es9)(h11:(bT ai rr8 l5 es9).P m):
 aC (Vr p q) 30 [dZ a2 l1 c3 a6 l5 c7,aL x12,aL x13,aL x14] m (Vn m (.bool r)):=by
 unfold Oo at hF;refine cw Tryz.func30 (U5 (UT (UT (UP m) bQ h4) (bO bQ) h10) (bO (bO bQ)) h11) ?_;refine wz ?_;refine wb fun b15=>?_;refine an ?_;refine UH (cj rfl iv rfl (cm vV rfl rfl rfl)) rfl ?_;obtain⟨⟨r17,r18⟩,h16,hF⟩:=J hF;refine wc gn (fun m hm=>Is h16 m (hm.q 3) (hm.q 2) (hm.dp (q:=1) rfl)) ?_;rintro⟨⟩;refine an ?_;rcases U hF with⟨h19,hF⟩|⟨h19,hF⟩;refine an ?_;cases hF;exact ar () [];refine an ?_;cases hF;exact ar () []
def OY{n r}(hF:F7 n=some r)(m):
 aC (Vr (some lL) (some EC)) 7 [] m (Vn m (.bool r)):=by
 unfold F7 at hF;refine cw Tryz.func7 (UP m) ?_;refine an ?_;obtain⟨r6,h12,hF⟩:=J hF;refine wq (fun((l6,l5):Ut×Ur) ((a0,a1,e1,r0):Uw×Uw×Uv ×(Nat->Prop))=>(.agg #[bU a0 l6,bU a1 l5],[de a0 l6,lz a1 l5 e1,iH ai r0 l5 e1])) r6 (fun m hm=>?_) ?_;clear hF;revert r6;intro r hF;refine aW (N:=9) (rs:=[.cell 0 26]) rfl Tryz.func51 rfl rfl rfl hm ?_;refine wz ?_;refine wa z26 fun b32=>?_;refine an ?_;refine UX (cu (es:=([0,0,2,0,4,0,4,2,2,2,0,2]:List (Int)).map (eI .i64)) fu rfl (cx fu z3 rfl rfl) rfl rfl) gn rfl fun b33=>?_;obtain⟨l18,h13,hF⟩:=J hF;refine wc gn (fun m hm=>Ao h13 m (hm.q 0)) ?_;rintro⟨a16,n0⟩;refine U7 (k:=0) (xs:=l18) rfl ?_;rintro rfl;refine UX (cu (es:=([0,1,4,5]:List (Int)).map (eI .i64)) fu rfl (cx fu z3 rfl rfl) rfl rfl) gn rfl fun b6=>?_;refine UH (cj rfl z31 rfl (cm mC rfl rfl rfl)) rfl<|UX (cu (es:=([1,2,3,4]:List (Int)).map (eI .i64)) fu rfl (cx fu z3 rfl rfl) rfl rfl) gn rfl fun b7=>?_;refine UH (cj rfl z31 rfl (cm mC rfl rfl rfl)) rfl<|UW (UO (k:=1) rfl)<|UW (UL (k:=1) rfl)<|UW (UO (k:=0) rfl)<|UW (UL (k:=0) rfl)<|UX (cu (es:=[[cJ b6,.slice none 0 0],[cJ b7,.slice none 0 0]]) jA rfl (cx jA z31 rfl rfl) rfl rfl) gn rfl fun b27=>?_;refine Wo.dp (r:=ai) (L:=([([0,1,4,5],[]),([1,2,3,4],[])]:Ur)) (es:=[[cJ b6,.slice none 0 0],[cJ b7,.slice none 0 0]]) (gU.cons (r:=ai) (z:=([0,1,4,5],[])) (g:=(((some ⟨b6,0,none⟩),4),(none,0,[]))) (Lf.p (Lf.s (k:=2) rfl) Lf.l0) (gU.cons (r:=ai) (z:=([1,2,3,4],[])) (g:=(((some ⟨b7,0,none⟩),4),(none,0,[]))) (Lf.p (Lf.s (k:=1) rfl) Lf.l0) gU.nil)) ?_;intro r13;refine UH (cj rfl z26 rfl (cm Bl rfl rfl rfl)) rfl ?_;refine an ?_;cases hF;exact U1 (.cell (k:=6) eS rfl rfl rfl .nil) fun m' hm=>⟨(a16,(some ⟨b27,0,none⟩),[[cJ b6,.slice none 0 0],[cJ b7,.slice none 0 0]],r13),rfl,(UQ (UO (k:=1) rfl) (UN [4,1,0] rfl rfl)) m' hm⟩;clear h12;obtain⟨l6,l5⟩:=r6;rintro⟨a0,a1,e1,r0⟩;obtain⟨r7,h14,hF⟩:=J hF;refine wq (fun((l10,l7):Ut×Ur) ((a3,a4,e4,r1):Uw×Uw×Uv ×(Nat->Prop))=>(.agg #[bU a3 l10,bU a4 l7],[de a3 l10,lz a4 l7 e4,iH ai r1 l7 e4,de a0 l6,lz a1 l5 e1,iH ai r0 l5 e1])) r7 (fun m hm=>?_) ?_;clear hF;revert r7;intro r hF;refine aW (N:=11) (rs:=[.cell 0 26]) rfl Tryz.func52 rfl rfl rfl hm ?_;refine wz ?_;refine wa z26 fun b34=>?_;refine an ?_;refine UX (cu (es:=([0,0,9,0,9,9,0,9,3,3,6,3,6,6,3,6]:List (Int)).map (eI .i64)) fu rfl (cx fu z3 rfl rfl) rfl rfl) gn rfl fun b35=>?_;obtain⟨l19,h15,hF⟩:=J hF;refine wc gn (fun m hm=>Ao h15 m (hm.q 0)) ?_;rintro⟨a17,n1⟩;refine U7 (k:=0) (xs:=l19) rfl ?_;rintro rfl;refine UX (cu (es:=([0,1,2,3]:List (Int)).map (eI .i64)) fu rfl (cx fu z3 rfl rfl) rfl rfl) gn rfl fun b8=>?_;refine UX (cu (es:=([4,7,6,5]:List (Int)).map (eI .i64)) fu rfl (cx fu z3 rfl rfl) rfl rfl) gn rfl fun b9=>?_;refine UW (UO (k:=0) rfl)<|UW (UL (k:=0) rfl)<|UX (cu (es:=[[cJ b9]]) kn rfl (cx kn z28 rfl rfl) rfl rfl) gn rfl fun b10=>?_;refine Wo.dp (r:=ba) (L:=([[4,7,6,5]]:Uu)) (es:=[[cJ b9]]) (gU.cons (r:=ba) (z:=[4,7,6,5]) (g:=((some ⟨b9,0,none⟩),4)) (Lf.s (k:=1) rfl) gU.nil) ?_;intro r23;refine UH (cj rfl z31 rfl (cm mC rfl rfl rfl)) rfl<|UX (cu (es:=([4,5,6,7]:List (Int)).map (eI .i64)) fu rfl (cx fu z3 rfl rfl) rfl rfl) gn rfl fun b11=>?_;refine UH (cj rfl z31 rfl (cm mC rfl rfl rfl)) rfl<|UW (UO (k:=4) rfl)<|UW (UL (k:=4) rfl)<|UW (UO (k:=2) rfl)<|UW (UL (k:=2) rfl)<|UW (UO (k:=0) rfl)<|UW (UL (k:=0) rfl)<|UX (cu (es:=[[cJ b8,lB b10],[cJ b11,.slice none 0 0]]) jA rfl (cx jA z31 rfl rfl) rfl rfl) gn rfl fun b28=>?_;refine Wo.dp (r:=ai) (L:=([([0,1,2,3],[[4,7,6,5]]),([4,5,6,7],[])]:Ur)) (es:=[[cJ b8,lB b10],[cJ b11,.slice none 0 0]]) (gU.cons (r:=ai) (z:=([0,1,2,3],[[4,7,6,5]])) (g:=(((some ⟨b8,0,none⟩),4),((some ⟨b10,0,none⟩),1,[[cJ b9]]))) (Lf.p (Lf.s (k:=5) rfl) (Lf.l (k:=3) (q:=2) rfl rfl rfl)) (gU.cons (r:=ai) (z:=([4,5,6,7],[])) (g:=(((some ⟨b11,0,none⟩),4),(none,0,[]))) (Lf.p (Lf.s (k:=1) rfl) Lf.l0) gU.nil)) ?_;intro r14;refine UH (cj rfl z26 rfl (cm Bl rfl rfl rfl)) rfl ?_;refine an ?_;cases hF;exact U1 (.cell (k:=9) eS rfl rfl rfl .nil) fun m' hm=>⟨(a17,(some ⟨b28,0,none⟩),[[cJ b8,lB b10],[cJ b11,.slice none 0 0]],r14),rfl,(UQ (UO (k:=1) rfl) (UN [7,1,0,10,11,12] rfl rfl)) m' hm⟩;clear h14;obtain⟨l10,l7⟩:=r7;rintro⟨a3,a4,e4,r1⟩;refine wa z26 fun b1=>?_;refine wa z26 fun b2=>?_;refine an ?_;obtain⟨⟨l13,r15⟩,h16,hF⟩:=J hF;refine wc gn (fun m hm=>Fg h16 m (hm.rd (k:=5) rfl (.sl _ _ _ _)) (hm.rd (k:=6) rfl (.sl _ _ _ _)) (hm.dp (q:=7) rfl)) ?_;rintro⟨a9,n2⟩;refine U7 (k:=0) (xs:=l13) rfl ?_;rintro rfl;refine an ?_;obtain⟨⟨r16,r17⟩,h17,hF⟩:=J hF;refine wc gn (fun m hm=>FB h17 m (hm.rd (k:=3) rfl (.sl _ _ _ _)) (hm.rd (k:=4) rfl (.sl _ _ _ _)) (hm.dp (q:=5) rfl)) ?_;rintro⟨⟩;refine an ?_;obtain⟨r8,h18,hF⟩:=J hF;refine wq (fun((l8,l1):Ut×Ur) ((a2,a12,e0,r3):Uw×Uw×Uv ×(Nat->Prop))=>(.agg #[bU a2 l8,bU a12 l1],(de a2 l8::lz a12 l1 e0::iH ai r3 l1 e0::vm b1 a0 l6 a1 l5 e1 ai r0 (vm b2 a3 l10 a4 l7 e4 ai r1 [lj a9 l13])))) r8 (fun m hm=>?_) ?_;clear hF;revert r8;intro r hF;refine aW (N:=11) (rs:=[.cell 0 26]) rfl Tryz.func52 rfl rfl rfl hm ?_;refine wz ?_;refine wa z26 fun b36=>?_;refine an ?_;refine UX (cu (es:=([0,0,9,0,9,9,0,9,3,3,6,3,6,6,3,6]:List (Int)).map (eI .i64)) fu rfl (cx fu z3 rfl rfl) rfl rfl) gn rfl fun b37=>?_;obtain⟨l20,h19,hF⟩:=J hF;refine wc gn (fun m hm=>Ao h19 m (hm.q 0)) ?_;rintro⟨a18,n4⟩;refine U7 (k:=0) (xs:=l20) rfl ?_;rintro rfl;refine UX (cu (es:=([0,1,2,3]:List (Int)).map (eI .i64)) fu rfl (cx fu z3 rfl rfl) rfl rfl) gn rfl fun b12=>?_;refine UX (cu (es:=([4,7,6,5]:List (Int)).map (eI .i64)) fu rfl (cx fu z3 rfl rfl) rfl rfl) gn rfl fun b13=>?_;refine UW (UO (k:=0) rfl)<|UW (UL (k:=0) rfl)<|UX (cu (es:=[[cJ b13]]) kn rfl (cx kn z28 rfl rfl) rfl rfl) gn rfl fun b14=>?_;refine Wo.dp (r:=ba) (L:=([[4,7,6,5]]:Uu)) (es:=[[cJ b13]]) (gU.cons (r:=ba) (z:=[4,7,6,5]) (g:=((some ⟨b13,0,none⟩),4)) (Lf.s (k:=1) rfl) gU.nil) ?_;intro r24;refine UH (cj rfl z31 rfl (cm mC rfl rfl rfl)) rfl<|UX (cu (es:=([4,5,6,7]:List (Int)).map (eI .i64)) fu rfl (cx fu z3 rfl rfl) rfl rfl) gn rfl fun b15=>?_;refine UH (cj rfl z31 rfl (cm mC rfl rfl rfl)) rfl<|UW (UO (k:=4) rfl)<|UW (UL (k:=4) rfl)<|UW (UO (k:=2) rfl)<|UW (UL (k:=2) rfl)<|UW (UO (k:=0) rfl)<|UW (UL (k:=0) rfl)<|UX (cu (es:=[[cJ b12,lB b14],[cJ b15,.slice none 0 0]]) jA rfl (cx jA z31 rfl rfl) rfl rfl) gn rfl fun b29=>?_;refine Wo.dp (r:=ai) (L:=([([0,1,2,3],[[4,7,6,5]]),([4,5,6,7],[])]:Ur)) (es:=[[cJ b12,lB b14],[cJ b15,.slice none 0 0]]) (gU.cons (r:=ai) (z:=([0,1,2,3],[[4,7,6,5]])) (g:=(((some ⟨b12,0,none⟩),4),((some ⟨b14,0,none⟩),1,[[cJ b13]]))) (Lf.p (Lf.s (k:=5) rfl) (Lf.l (k:=3) (q:=2) rfl rfl rfl)) (gU.cons (r:=ai) (z:=([4,5,6,7],[])) (g:=(((some ⟨b15,0,none⟩),4),(none,0,[]))) (Lf.p (Lf.s (k:=1) rfl) Lf.l0) gU.nil)) ?_;intro r18;refine UH (cj rfl z26 rfl (cm Bl rfl rfl rfl)) rfl ?_;refine an ?_;cases hF;exact U1 (.cell (k:=9) eS rfl rfl rfl .nil) fun m' hm=>⟨(a18,(some ⟨b29,0,none⟩),[[cJ b12,lB b14],[cJ b15,.slice none 0 0]],r18),rfl,(UQ (UO (k:=1) rfl) (UN [7,1,0,12,16,17,18,11,13,14,15,10] rfl rfl)) m' hm⟩;clear h18;obtain⟨l8,l1⟩:=r8;rintro⟨a2,a12,e0,r3⟩;obtain⟨r9,h20,hF⟩:=J hF;refine wq (fun((l11,l2):Ut×Ur) ((a5,a10,e3,r4):Uw×Uw×Uv ×(Nat->Prop))=>(.agg #[bU a5 l11,bU a10 l2],(de a5 l11::lz a10 l2 e3::iH ai r4 l2 e3::vm b1 a0 l6 a1 l5 e1 ai r0 (vm b2 a3 l10 a4 l7 e4 ai r1 [lj a9 l13,de a2 l8,lz a12 l1 e0,iH ai r3 l1 e0])))) r9 (fun m hm=>?_) ?_;clear hF;revert r9;intro r hF;refine aW (N:=11) (rs:=[.cell 0 26]) rfl Tryz.func52 rfl rfl rfl hm ?_;refine wz ?_;refine wa z26 fun b38=>?_;refine an ?_;refine UX (cu (es:=([0,0,9,0,9,9,0,9,3,3,6,3,6,6,3,6]:List (Int)).map (eI .i64)) fu rfl (cx fu z3 rfl rfl) rfl rfl) gn rfl fun b39=>?_;obtain⟨l21,h21,hF⟩:=J hF;refine wc gn (fun m hm=>Ao h21 m (hm.q 0)) ?_;rintro⟨a19,n5⟩;refine U7 (k:=0) (xs:=l21) rfl ?_;rintro rfl;refine UX (cu (es:=([0,1,2,3]:List (Int)).map (eI .i64)) fu rfl (cx fu z3 rfl rfl) rfl rfl) gn rfl fun b16=>?_;refine UX (cu (es:=([4,7,6,5]:List (Int)).map (eI .i64)) fu rfl (cx fu z3 rfl rfl) rfl rfl) gn rfl fun b17=>?_;refine UW (UO (k:=0) rfl)<|UW (UL (k:=0) rfl)<|UX (cu (es:=[[cJ b17]]) kn rfl (cx kn z28 rfl rfl) rfl rfl) gn rfl fun b18=>?_;refine Wo.dp (r:=ba) (L:=([[4,7,6,5]]:Uu)) (es:=[[cJ b17]]) (gU.cons (r:=ba) (z:=[4,7,6,5]) (g:=((some ⟨b17,0,none⟩),4)) (Lf.s (k:=1) rfl) gU.nil) ?_;intro r25;refine UH (cj rfl z31 rfl (cm mC rfl rfl rfl)) rfl<|UX (cu (es:=([4,5,6,7]:List (Int)).map (eI .i64)) fu rfl (cx fu z3 rfl rfl) rfl rfl) gn rfl fun b19=>?_;refine UH (cj rfl z31 rfl (cm mC rfl rfl rfl)) rfl<|UW (UO (k:=4) rfl)<|UW (UL (k:=4) rfl)<|UW (UO (k:=2) rfl)<|UW (UL (k:=2) rfl)<|UW (UO (k:=0) rfl)<|UW (UL (k:=0) rfl)<|UX (cu (es:=[[cJ b16,lB b18],[cJ b19,.slice none 0 0]]) jA rfl (cx jA z31 rfl rfl) rfl rfl) gn rfl fun b30=>?_;refine Wo.dp (r:=ai) (L:=([([0,1,2,3],[[4,7,6,5]]),([4,5,6,7],[])]:Ur)) (es:=[[cJ b16,lB b18],[cJ b19,.slice none 0 0]]) (gU.cons (r:=ai) (z:=([0,1,2,3],[[4,7,6,5]])) (g:=(((some ⟨b16,0,none⟩),4),((some ⟨b18,0,none⟩),1,[[cJ b17]]))) (Lf.p (Lf.s (k:=5) rfl) (Lf.l (k:=3) (q:=2) rfl rfl rfl)) (gU.cons (r:=ai) (z:=([4,5,6,7],[])) (g:=(((some ⟨b19,0,none⟩),4),(none,0,[]))) (Lf.p (Lf.s (k:=1) rfl) Lf.l0) gU.nil)) ?_;intro r19;refine UH (cj rfl z26 rfl (cm Bl rfl rfl rfl)) rfl ?_;refine an ?_;cases hF;exact U1 (.cell (k:=9) eS rfl rfl rfl .nil) fun m' hm=>⟨(a19,(some ⟨b30,0,none⟩),[[cJ b16,lB b18],[cJ b19,.slice none 0 0]],r19),rfl,(UQ (UO (k:=1) rfl) (UN [7,1,0,13,14,15,16,17,18,19,20,21,10,11,12] rfl rfl)) m' hm⟩;clear h20;obtain⟨l11,l2⟩:=r9;rintro⟨a5,a10,e3,r4⟩;obtain⟨r10,h22,hF⟩:=J hF;refine wq (fun((l12,l3):Ut×Ur) ((a6,a8,e5,r5):Uw×Uw×Uv ×(Nat->Prop))=>(.agg #[bU a6 l12,bU a8 l3],(de a6 l12::lz a8 l3 e5::iH ai r5 l3 e5::vm b1 a0 l6 a1 l5 e1 ai r0 (vm b2 a3 l10 a4 l7 e4 ai r1 [lj a9 l13,de a2 l8,lz a12 l1 e0,iH ai r3 l1 e0,de a5 l11,lz a10 l2 e3,iH ai r4 l2 e3])))) r10 (fun m hm=>?_) ?_;clear hF;revert r10;intro r hF;refine aW (N:=9) (rs:=[.cell 0 26]) rfl Tryz.func51 rfl rfl rfl hm ?_;refine wz ?_;refine wa z26 fun b40=>?_;refine an ?_;refine UX (cu (es:=([0,0,2,0,4,0,4,2,2,2,0,2]:List (Int)).map (eI .i64)) fu rfl (cx fu z3 rfl rfl) rfl rfl) gn rfl fun b41=>?_;obtain⟨l22,h23,hF⟩:=J hF;refine wc gn (fun m hm=>Ao h23 m (hm.q 0)) ?_;rintro⟨a20,n7⟩;refine U7 (k:=0) (xs:=l22) rfl ?_;rintro rfl;refine UX (cu (es:=([0,1,4,5]:List (Int)).map (eI .i64)) fu rfl (cx fu z3 rfl rfl) rfl rfl) gn rfl fun b20=>?_;refine UH (cj rfl z31 rfl (cm mC rfl rfl rfl)) rfl<|UX (cu (es:=([1,2,3,4]:List (Int)).map (eI .i64)) fu rfl (cx fu z3 rfl rfl) rfl rfl) gn rfl fun b21=>?_;refine UH (cj rfl z31 rfl (cm mC rfl rfl rfl)) rfl<|UW (UO (k:=1) rfl)<|UW (UL (k:=1) rfl)<|UW (UO (k:=0) rfl)<|UW (UL (k:=0) rfl)<|UX (cu (es:=[[cJ b20,.slice none 0 0],[cJ b21,.slice none 0 0]]) jA rfl (cx jA z31 rfl rfl) rfl rfl) gn rfl fun b31=>?_;refine Wo.dp (r:=ai) (L:=([([0,1,4,5],[]),([1,2,3,4],[])]:Ur)) (es:=[[cJ b20,.slice none 0 0],[cJ b21,.slice none 0 0]]) (gU.cons (r:=ai) (z:=([0,1,4,5],[])) (g:=(((some ⟨b20,0,none⟩),4),(none,0,[]))) (Lf.p (Lf.s (k:=2) rfl) Lf.l0) (gU.cons (r:=ai) (z:=([1,2,3,4],[])) (g:=(((some ⟨b21,0,none⟩),4),(none,0,[]))) (Lf.p (Lf.s (k:=1) rfl) Lf.l0) gU.nil)) ?_;intro r20;refine UH (cj rfl z26 rfl (cm Bl rfl rfl rfl)) rfl ?_;refine an ?_;cases hF;exact U1 (.cell (k:=6) eS rfl rfl rfl .nil) fun m' hm=>⟨(a20,(some ⟨b31,0,none⟩),[[cJ b20,.slice none 0 0],[cJ b21,.slice none 0 0]],r20),rfl,(UQ (UO (k:=1) rfl) (UN [4,1,0,10,11,12,13,14,15,16,17,18,19,20,21,7,8,9] rfl rfl)) m' hm⟩;clear h22;obtain⟨l12,l3⟩:=r10;rintro⟨a6,a8,e5,r5⟩;refine wa z26 fun b22=>?_;refine wa z26 fun b23=>?_;refine wa z26 fun b24=>?_;refine an ?_;obtain⟨h24,hF⟩:=bI hF;refine U9 (k:=16) rfl (az h24) ?_;rintro b3 t0 rfl h48;refine wz ?_;obtain⟨⟨l4,l15⟩,h25,hF⟩:=J hF;refine Wo.vB (r:=ai) (q:=17) (j:=UE) (z:=(l4,l15)) (N:=fun g=>(.rd g.1.1 g.1.2 1 l4.length (l4.map (eI .i64))::.rd g.2.1 g.2.2.1 1 l15.length g.2.2.2::.gen (bT ba r3 l15 g.2.2.2)::sK b24 a6 l12 a8 l3::sK b23 a5 l11 a10 l2::j5 b22 a2 l8 b3 l1::de a6 l12::lz a8 l3 e5::iH ai r5 l3 e5::vm b1 a0 l6 a1 l5 e1 ai r0 (vm b2 a3 l10 a4 l7 e4 ai r1 [lj a9 l13,de a2 l8,.arr b3 2 l1.length e0 t0,iH ai r3 l1 e0,de a5 l11,lz a10 l2 e3,iH ai r4 l2 e3]))) rfl h25 (fun _=>rfl) ?_;rintro⟨⟨a7,c0⟩,⟨a13,c2,e6⟩⟩ h26;refine Vf (oa (k:=19) (j:=UE) (c:=1) (e:=[bl a7 l4 c0,bl a13 l15 c2]) (e':=[bl a7 l4 c0,.slice none 0 0]) jU rfl rfl rfl h26 rfl)<|Wo.yR (r:=ai) (q:=20) (j:=UE) (z:=(l4,[])) (g:=((a7,c0),(none,0,[]))) rfl (Lf.p (Lf.s (k:=0) rfl) Lf.l0) ?_;intro r11;refine an ?_;refine UX (cu (es:=([4,5,6,7]:List (Int)).map (eI .i64)) fu rfl (cx fu z3 rfl rfl) rfl rfl) gn rfl fun b0=>?_;refine UW (UO (k:=0) rfl)<|UW (UL (k:=0) rfl)<|UX (cu (es:=[[cJ b0]]) kn rfl (cx kn z28 rfl rfl) rfl rfl) gn rfl fun b4=>?_;refine Wo.dp (r:=ba) (L:=([[4,5,6,7]]:Uu)) (es:=[[cJ b0]]) (gU.cons (r:=ba) (z:=[4,5,6,7]) (g:=((some ⟨b0,0,none⟩),4)) (Lf.s (k:=1) rfl) gU.nil) ?_;intro r12;obtain⟨h3,hF⟩:=bI hF;refine U9 (k:=25) rfl (az h3) ?_;rintro b5 t1 rfl h49;refine UZ (lJ jA rfl rfl h3) gn rfl<|UH (aM (r:=ptr b5 (UE*2+1)) rfl (eC _ _)) rfl<|UW (UO (k:=1) rfl)<|UW (UL (k:=1) rfl) ?_;obtain⟨⟨l9,l16⟩,h27,hF⟩:=J hF;refine Wo.vB (r:=ai) (q:=26) (j:=UE) (z:=(l9,l16)) (N:=fun g=>(.rd g.1.1 g.1.2 1 l9.length (l9.map (eI .i64))::.rd g.2.1 g.2.2.1 1 l16.length g.2.2.2::.gen (bT ba r4 l16 g.2.2.2)::.gen (bT ba r12 ([[4,5,6,7]]) ([[cJ b0]]))::.rd (some ⟨b4,0,none⟩) 1 1 1 ([[cJ b0]])::.rd (some ⟨b0,0,none⟩) 4 1 4 (([4,5,6,7]).map (eI .i64))::k9 a7 c0 l4::ff a13 c2 l15 e6 ba r3 (sK b24 a6 l12 a8 l3::j5 b23 a5 l11 b5 l2::j5 b22 a2 l8 b3 l1::de a6 l12::lz a8 l3 e5::iH ai r5 l3 e5::vm b1 a0 l6 a1 l5 e1 ai r0 (vm b2 a3 l10 a4 l7 e4 ai r1 [lj a9 l13,de a2 l8,.arr b3 2 l1.length (e0.set (UE) [bl a7 l4 c0,.slice none 0 0]) t0,.gen (bT ai r11 (l1.set (UE) (l4,[])) (e0.set (UE) [bl a7 l4 c0,.slice none 0 0])),de a5 l11,.arr b5 2 l2.length e3 t1,iH ai r4 l2 e3])))) rfl h27 (fun _=>rfl) ?_;rintro⟨⟨a11,c1⟩,⟨a15,c4,e7⟩⟩ h28;refine Vf (oa (k:=28) (j:=UE) (c:=1) (e:=[bl a11 l9 c1,bl a15 l16 c4]) (e':=[bl a11 l9 c1,lB b4]) jU rfl rfl rfl h28 rfl)<|Wo.yR (r:=ai) (q:=29) (j:=UE) (z:=(l9,[[4,5,6,7]])) (g:=((a11,c1),((some ⟨b4,0,none⟩),1,[[cJ b0]]))) rfl (Lf.p (Lf.s (k:=0) rfl) (Lf.l (k:=4) (q:=3) rfl rfl rfl)) ?_;intro r21;refine an ?_;refine UX (cu (es:=([1,2,3,5]:List (Int)).map (eI .i64)) fu rfl (cx fu z3 rfl rfl) rfl rfl) gn rfl fun b25=>?_;obtain⟨h4,hF⟩:=bI hF;refine U9 (k:=14) rfl (az h4) ?_;rintro b26 t2 rfl h50;refine UZ (lJ jA rfl rfl h4) gn rfl<|UH (aM (r:=ptr b26 ((1:Int).toNat*2+0)) rfl (eD _ _)) rfl<|UW (UO (k:=0) rfl)<|UW (UL (k:=0) rfl) ?_;obtain⟨⟨l17,l14⟩,h29,hF⟩:=J hF;refine Wo.vB (r:=ai) (q:=15) (j:=(1:Int).toNat) (z:=(l17,l14)) (N:=fun g=>(.rd g.1.1 g.1.2 1 l17.length (l17.map (eI .i64))::.rd g.2.1 g.2.2.1 1 l14.length g.2.2.2::.gen (bT ba r5 l14 g.2.2.2)::.rd (some ⟨b25,0,none⟩) 4 1 4 (([1,2,3,5]).map (eI .i64))::k9 a11 c1 l9::ff a15 c4 l16 e7 ba r4 (.gen (bT ba r12 ([[4,5,6,7]]) ([[cJ b0]]))::.rd (some ⟨b4,0,none⟩) 1 1 1 ([[cJ b0]])::.rd (some ⟨b0,0,none⟩) 4 1 4 (([4,5,6,7]).map (eI .i64))::k9 a7 c0 l4::ff a13 c2 l15 e6 ba r3 (j5 b24 a6 l12 b26 l3::j5 b23 a5 l11 b5 l2::j5 b22 a2 l8 b3 l1::de a6 l12::.arr b26 2 l3.length e5 t2::iH ai r5 l3 e5::vm b1 a0 l6 a1 l5 e1 ai r0 (vm b2 a3 l10 a4 l7 e4 ai r1 [lj a9 l13,de a2 l8,.arr b3 2 l1.length (e0.set (UE) [bl a7 l4 c0,.slice none 0 0]) t0,.gen (bT ai r11 (l1.set (UE) (l4,[])) (e0.set (UE) [bl a7 l4 c0,.slice none 0 0])),de a5 l11,.arr b5 2 l2.length (e3.set (UE) [bl a11 l9 c1,lB b4]) t1,.gen (bT ai r21 (l2.set (UE) (l9,[[4,5,6,7]])) (e3.set (UE) [bl a11 l9 c1,lB b4]))]))))) rfl h29 (fun _=>rfl) ?_;rintro⟨⟨a21,c5⟩,⟨a14,c3,e8⟩⟩ h30;refine Vf (oa (k:=17) (j:=(1:Int).toNat) (c:=0) (e:=[bl a21 l17 c5,bl a14 l14 c3]) (e':=[cJ b25,bl a14 l14 c3]) ia rfl rfl rfl h30 rfl)<|Wo.yR (r:=ai) (q:=18) (j:=(1:Int).toNat) (z:=([1,2,3,5],l14)) (g:=(((some ⟨b25,0,none⟩),4),(a14,c3,e8))) rfl (Lf.p (Lf.s (k:=3) rfl) (Lf.l (k:=1) (q:=2) rfl rfl rfl)) ?_;intro r26;refine an ?_;refine UH (cj rfl z64 rfl (cm zp rfl rfl rfl)) rfl<|UH (cj rfl z64 rfl (cm zp rfl rfl rfl)) rfl<|UH (cj rfl z64 rfl (cm zp rfl rfl rfl)) rfl<|UH (cj rfl z64 rfl (cm zp rfl rfl rfl)) rfl<|UH (cj rfl z64 rfl (cm zp rfl rfl rfl)) rfl<|UH (cj rfl z64 rfl (cm zp rfl rfl rfl)) rfl<|UH (cj rfl z64 rfl (cm zp rfl rfl rfl)) rfl<|UX (cu (es:=([(0,1,0,-1),(0,5,-1,0),(1,2,1,-1),(1,4,0,1),(2,3,1,-1),(3,4,1,-1),(4,5,0,-1)]:List (Us)).map (eP (eI .i64) (eP (eI .i64) (eP (eI .i64) (eI .i64))))) Lv rfl (cx Lv z64 rfl rfl) rfl rfl) gn rfl fun b42=>?_;obtain⟨r22,h31,hF⟩:=J hF;refine wc gn (fun m hm=>Nl h31 m (hm.rd (k:=28) rfl (.sl _ _ _ _)) (hm.q 0)) ?_;rintro⟨⟩;refine wz ?_;refine UJ ?_;obtain⟨v0,h32,hF⟩:=J hF;refine ct (fun v0 (_:Unit)=>⟨.normal,[(1,ptr b1 0),(2,ptr b2 0),(4,aL r15),(5,aL r16),(6,aL r17),(10,dL r22),(11,dL v0)],(vm b1 a0 l6 a1 l5 e1 ai r0 (vm b2 a3 l10 a4 l7 e4 ai r1 []))⟩) v0 ?_ ?_;clear hF;revert v0;intro r hF;refine wz ?_;obtain⟨r27,h33,hF⟩:=J hF;refine wc gn (fun m hm=>tA h33 m (hm.rd (k:=21) rfl (.sl _ _ _ _)) (hm.rd (k:=22) rfl (.sl _ _ _ _)) (hm.dp (q:=23) rfl)) ?_;rintro⟨⟩;refine wz ?_;rcases U hF with⟨h5,hF⟩|⟨h5,hF⟩;refine wz ?_;obtain⟨r28,h34,hF⟩:=J hF;refine wc (gg rfl rfl (dJ h5)) (fun m hm=>tA h34 m (hm.rd (k:=25) rfl (.sl _ _ _ _)) (hm.rd (k:=26) rfl (.sl _ _ _ _)) (hm.dp (q:=27) rfl)) ?_;rintro⟨⟩;refine wz ?_;rcases U hF with⟨h0,hF⟩|⟨h0,hF⟩;refine UZ (aD (k:=16) eS rfl rfl rfl) (gg rfl rfl (dJ h0)) rfl ?_;obtain⟨r29,h35,hF⟩:=J hF;refine UW (UO (k:=30) rfl) ?_;have hFx:=hF;refine Vb (k:=30) (q:=31) (L:=(l1.set (UE) (l4,[]))) rfl (.inl rfl) rfl ?_;generalize l1.length=nN;rintro rfl;replace hF:=hFx;clear hFx;refine wc (gg rfl rfl (dJ h0)) (fun m hm=>tA h35 m (hm.rd (k:=29) rfl (.sl _ _ _ _)) (hm.rd (k:=30) rfl (.sl _ _ _ _)) (hm.dp (q:=31) rfl)) ?_;rintro⟨⟩;refine wz ?_;rcases U hF with⟨h1,hF⟩|⟨h1,hF⟩;refine UZ (aD (k:=15) eS rfl rfl rfl) (gg rfl rfl (dJ h1)) rfl ?_;obtain⟨r30,h36,hF⟩:=J hF;refine UW (UO (k:=33) rfl) ?_;have hFx:=hF;refine Vb (k:=33) (q:=34) (L:=(l2.set (UE) (l9,[[4,5,6,7]]))) rfl (.inl rfl) rfl ?_;generalize l2.length=nN;rintro rfl;replace hF:=hFx;clear hFx;refine wc (gg rfl rfl (dJ h1)) (fun m hm=>tA h36 m (hm.rd (k:=32) rfl (.sl _ _ _ _)) (hm.rd (k:=33) rfl (.sl _ _ _ _)) (hm.dp (q:=34) rfl)) ?_;rintro⟨⟩;refine wz ?_;rcases U hF with⟨h2,hF⟩|⟨h2,hF⟩;refine UZ (aD (k:=14) eS rfl rfl rfl) (gg rfl rfl (dJ h2)) rfl ?_;obtain⟨r31,h37,hF⟩:=J hF;refine UW (UO (k:=18) rfl) ?_;have hFx:=hF;refine Vb (k:=18) (q:=19) (L:=(l3.set ((1:Int).toNat) ([1,2,3,5],l14))) rfl (.inl rfl) rfl ?_;generalize l3.length=nN;rintro rfl;replace hF:=hFx;clear hFx;refine wc (gg rfl rfl (dJ h2)) (fun m hm=>tA h37 m (hm.rd (k:=17) rfl (.sl _ _ _ _)) (hm.rd (k:=18) rfl (.sl _ _ _ _)) (hm.dp (q:=19) rfl)) ?_;rintro⟨⟩;refine wz ?_;obtain rfl:=R9 hF;exact ae () (Vh 20 8);refine wz ?_;cases hF;exact ae () (Vh 20 8);refine wz ?_;cases hF;exact ae () (Vh 20 8);refine wz ?_;cases hF;exact ae () (Vh 20 8);refine wz ?_;cases hF;exact ae () (Vh 20 8);rintro⟨⟩;refine an ?_;rcases U hF with⟨h38,hF⟩|⟨h38,hF⟩;refine wz ?_;rcases U hF with⟨h39,hF⟩|⟨h39,hF⟩;refine wz ?_;rcases U hF with⟨h40,hF⟩|⟨h40,hF⟩;refine wz ?_;rcases U hF with⟨h41,hF⟩|⟨h41,hF⟩;refine wz ?_;rcases U hF with⟨h6,hF⟩|⟨h6,hF⟩;refine wz ?_;obtain⟨r32,h42,hF⟩:=J hF;refine wc (gg rfl rfl (dJ h6)) (fun m hm=>Fj h42 m (hm.rd (k:=1) rfl (.sl _ _ _ _)) (hm.rd (k:=2) rfl (.sl _ _ _ _)) (hm.dp (q:=3) rfl)) ?_;rintro⟨⟩;refine wz ?_;rcases U hF with⟨h7,hF⟩|⟨h7,hF⟩;refine wz ?_;obtain⟨r33,h43,hF⟩:=J hF;refine wc (gg rfl rfl (dJ h7)) (fun m hm=>Fj h43 m (hm.rd (k:=5) rfl (.sl _ _ _ _)) (hm.rd (k:=6) rfl (.sl _ _ _ _)) (hm.dp (q:=7) rfl)) ?_;rintro⟨⟩;refine wz ?_;rcases U hF with⟨h8,hF⟩|⟨h8,hF⟩;refine wz ?_;obtain⟨r34,h44,hF⟩:=J hF;refine wc (gg rfl rfl (dJ h8)) (fun m hm=>wB h44 m (hm.rd (k:=5) rfl (.sl _ _ _ _)) (hm.rd (k:=6) rfl (.sl _ _ _ _)) (hm.dp (q:=7) rfl)) ?_;rintro⟨⟩;refine wz ?_;rcases U hF with⟨h9,hF⟩|⟨h9,hF⟩;refine wz ?_;obtain⟨r35,h45,hF⟩:=J hF;refine wc (gg rfl rfl (dJ h9)) (fun m hm=>wB h45 m (hm.rd (k:=5) rfl (.sl _ _ _ _)) (hm.rd (k:=6) rfl (.sl _ _ _ _)) (hm.dp (q:=7) rfl)) ?_;rintro⟨⟩;refine wz ?_;rcases U hF with⟨h10,hF⟩|⟨h10,hF⟩;refine wz ?_;obtain⟨r36,h46,hF⟩:=J hF;refine wc (gg rfl rfl (dJ h10)) (fun m hm=>wB h46 m (hm.rd (k:=5) rfl (.sl _ _ _ _)) (hm.rd (k:=6) rfl (.sl _ _ _ _)) (hm.dp (q:=7) rfl)) ?_;rintro⟨⟩;refine wz ?_;rcases U hF with⟨h11,hF⟩|⟨h11,hF⟩;refine wz ?_;obtain⟨r37,h47,hF⟩:=J hF;refine wc (gg rfl rfl (dJ h11)) (fun m hm=>wB h47 m (hm.rd (k:=5) rfl (.sl _ _ _ _)) (hm.rd (k:=6) rfl (.sl _ _ _ _)) (hm.dp (q:=7) rfl)) ?_;rintro⟨⟩;refine an ?_;obtain rfl:=R9 hF;exact ar () [];refine an ?_;cases hF;exact ar () [];refine an ?_;cases hF;exact ar () [];refine an ?_;cases hF;exact ar () [];refine an ?_;cases hF;exact ar () [];refine an ?_;cases hF;exact ar () [];refine an ?_;cases hF;exact ar () [];refine an ?_;cases hF;exact ar () [];refine an ?_;cases hF;exact ar () [];refine an ?_;cases hF;exact ar () [];refine an ?_;cases hF;exact ar () []
def Ov(n x1 x2 l9 l10 x14 x15 x16 x17 x18 x19 x20 x21 x22 x23 x24 x25 x26 x12 x13 x4 x3 x10 x11 a8 c8 a9 c9 r)(hF:F5 n x1 x2 l9 l10 x14 x15 x16 x17 x18 x19 x20 x21 x22 x23 x24 x25 x26 x12 x13 x4 x3 x10 x11=some r)(m)(h8:AW m a8 c8 l9)(h9:AW m a9 c9 l10):
 aC (Vr (some lL) (some EC)) 5 [Nd x1 x2 a8 l9 c8 a9 l10 c9 x14,PS x15 x16 x17 x18 x19 x20 x21 x22 x23 x24 x25 x26,aL x12,aL x13,.agg #[.int .u8 ((x4:Nat):Int),.int .u8 ((x3:Nat):Int)],eU x10 x11] m (Vn m (.bool r)):=by
 unfold F5 at hF;refine cw Tryz.func5 (UT (UT (UP m) bQ h8) (bO bQ) h9) ?_;refine wz ?_;refine wb fun b3=>?_;refine wb fun b4=>?_;refine wb fun b0=>?_;refine wb fun b1=>?_;refine an ?_;obtain⟨⟨l4,l2,l5,l3,l6,l1⟩,h10,hF⟩:=J hF;refine UX (CK (N:=(fun x:Uw×Nat×Nat×Uw×Nat×Nat×Uv ×(Nat->Prop)×Uw×Nat×Nat×Uw×Nat×Nat×Uv ×(Nat->Prop)×Uw×Nat×Nat×Uw×Nat×Nat×Uv ×(Nat->Prop)=>[.rd (x.1) (x.2.1) 2 (x.2.2.1) (l4.map (eP (eI .i64) (eI .i64))),.rd (x.2.2.2.1) (x.2.2.2.2.1) 2 (x.2.2.2.2.2.1) (x.2.2.2.2.2.2.1),.gen (bT ai (x.2.2.2.2.2.2.2.1) l2 (x.2.2.2.2.2.2.1)),.rd (x.2.2.2.2.2.2.2.2.1) (x.2.2.2.2.2.2.2.2.2.1) 2 (x.2.2.2.2.2.2.2.2.2.2.1) (l5.map (eP (eI .i64) (eI .i64))),.rd (x.2.2.2.2.2.2.2.2.2.2.2.1) (x.2.2.2.2.2.2.2.2.2.2.2.2.1) 2 (x.2.2.2.2.2.2.2.2.2.2.2.2.2.1) (x.2.2.2.2.2.2.2.2.2.2.2.2.2.2.1),.gen (bT ai (x.2.2.2.2.2.2.2.2.2.2.2.2.2.2.2.1) l3 (x.2.2.2.2.2.2.2.2.2.2.2.2.2.2.1)),.rd (x.2.2.2.2.2.2.2.2.2.2.2.2.2.2.2.2.1) (x.2.2.2.2.2.2.2.2.2.2.2.2.2.2.2.2.2.1) 2 (x.2.2.2.2.2.2.2.2.2.2.2.2.2.2.2.2.2.2.1) (l6.map (eP (eI .i64) (eI .i64))),.rd (x.2.2.2.2.2.2.2.2.2.2.2.2.2.2.2.2.2.2.2.1) (x.2.2.2.2.2.2.2.2.2.2.2.2.2.2.2.2.2.2.2.2.1) 2 (x.2.2.2.2.2.2.2.2.2.2.2.2.2.2.2.2.2.2.2.2.2.1) (x.2.2.2.2.2.2.2.2.2.2.2.2.2.2.2.2.2.2.2.2.2.2.1),.gen (bT ai (x.2.2.2.2.2.2.2.2.2.2.2.2.2.2.2.2.2.2.2.2.2.2.2) l1 (x.2.2.2.2.2.2.2.2.2.2.2.2.2.2.2.2.2.2.2.2.2.2.1))])) rfl rfl (fun m hm=>Nu h10 m hm.cy (hm.q 5) (hm.no 5) (hm.q 4) (hm.no 4)) fun _=>rfl) gn rfl ?_;rintro⟨a0,c0,n0,a1,c1,n1,e1,r0,a2,c2,n2,a3,c3,n4,e3,r1,a4,c4,n5,a5,c5,n7,e0,r3⟩;refine Wo.BL (k:=0) rfl ?_;rintro rfl;refine Vb (k:=1) (q:=2) (L:=l2) rfl (.inr (.inl ⟨_,rfl⟩)) rfl ?_;rintro rfl;refine Wo.BL (k:=3) rfl ?_;rintro rfl;refine Vb (k:=4) (q:=5) (L:=l3) rfl (.inr (.inl ⟨_,rfl⟩)) rfl ?_;rintro rfl;refine Wo.BL (k:=6) rfl ?_;rintro rfl;refine Vb (k:=7) (q:=8) (L:=l1) rfl (.inr (.inl ⟨_,rfl⟩)) rfl ?_;rintro rfl;refine wz ?_;refine UK ?_;obtain⟨r5,h4,hF⟩:=J hF;refine ct (fun(r:(Unit) ⊕(Unit)) (g:Unit)=>match r,g with|.inl _,_=>⟨.ret,[(12,.bool false)],[]⟩|.inr _,_=>⟨(.exit 0),[],[]⟩) r5 ?_ ?_
 refine lo h4 () [10,9,0,1,2,3,4,5,6,7,8] (fun v0 _=>⟨.normal,(Bt x12 x13 b0 b1 [(33,AK a0 l4 c0 a1 l2 c1 a2 l5 c2 a3 l3 c3 a4 l6 c4 a5 l1 c5),(34,aL v0)]),(uM b0 x4 x3::cS b1 x10 x11::IN a0 c0 l4 a1 c1 l2 e1 ai r0 a2 c2 l5 a3 c3 l3 e3 r1 [gr a4 c4 l6,sd a5 c5 l1 e0,iH ai r3 l1 e0])⟩) ?_;clear hF h4;rintro v0 ⟨⟩ r hF;unfold D6 at hF;refine wz ?_;refine UJ ?_;rcases U hF with⟨h11,hF⟩|⟨h11,hF⟩;refine an ?_;obtain⟨h12,hF⟩:=aA hF;obtain⟨⟨l8,l7⟩,h1,hF⟩:=J hF;refine UX (yH (α:=Uw×Nat×Uw×Nat×Uv ×(Nat->Prop)) (V:=fun g=>match g with |(a6,c6,a7,c7,e4,r4)=>.agg #[bl a6 l8 c6,bl a7 l7 c7]) (N:=fun g=>match g with |(a6,c6,a7,c7,e4,r4)=>[gr a6 c6 l8,sd a7 c7 l7 e4,iH ai r4 l7 e4]++(uM b0 x4 x3::cS b1 x10 x11::IN a0 c0 l4 a1 c1 l2 e1 ai r0 a2 c2 l5 a3 c3 l3 e3 r1 [gr a4 c4 l6,sd a5 c5 l1 e0,iH ai r3 l1 e0])) rfl rfl (fun m hm=>?_)) gn rfl ?_
 have hj:=kj h12;obtain⟨j,h2⟩:∃j:Nat,(v0:Int)=j:=⟨_,(Ti hj.1).symm⟩;rw[h2] at h1 hj ⊢;rw[Sv] at h1 hj;replace hj:=hj.2;clear hF h2
 match j,hj,h1 with
 | 0,_,h1=>cases h1; exact⟨(a0,c0,a1,c1,e1,r0),oM KS (i:=0) (by decide) (gK eS rfl),(Hp.dup (Hp.dup (aa.G8 (q:=4) rfl _ hm) (k:=4) rfl) (k:=4) rfl)⟩
 | 1,_,h1=>cases h1; exact⟨(a2,c2,a3,c3,e3,r1),oM KS (i:=1) (by decide) (gK eS rfl),(Hp.dup (Hp.dup (aa.G8 (q:=7) rfl _ hm) (k:=7) rfl) (k:=7) rfl)⟩
 | 2,_,h1=>cases h1; exact⟨(a4,c4,a5,c5,e0,r3),oM KS (i:=2) (by decide) (gK eS rfl),(Hp.dup (Hp.dup (aa.G8 (q:=10) rfl _ hm) (k:=10) rfl) (k:=10) rfl)⟩
 | _+3,hj,_=>exact Ss hj (by omega)
 rintro⟨a6,c6,a7,c7,e4,r4⟩;refine wa z26 fun b2=>?_;refine an ?_;refine UH (cj rfl z67 rfl (cm II rfl rfl rfl)) rfl ?_;refine wz ?_;refine UH (jE rfl (jB (by rw[u5]; rfl) u3)) rfl<|UH (aM (r:=ptr b2 1) rfl (iq _ _)) rfl<|UH (aD (k:=0) qk rfl rfl rfl) rfl<|UH (il (k:=2) A4 rfl rfl (.inl rfl)) rfl<|UH (aI rfl rfl (bR _ _ _)) rfl ?_
 obtain⟨h13,hF⟩:=aA hF;obtain⟨y0,h14,hF⟩:=J hF;refine UH (aI rfl rfl ((bZ _ _ h13).trans (cI h14))) rfl<|UH (cj rfl z67 rfl (cm II rfl rfl rfl)) rfl ?_;refine wz ?_;refine UH (jE rfl (jB (by rw[u5]; rfl) u3)) rfl<|UH (aM (r:=ptr b2 1) rfl (iq _ _)) rfl<|UH (aD (k:=0) qk rfl rfl rfl) rfl<|UH (il (k:=2) A4 rfl rfl (.inl rfl)) rfl<|UH (aI rfl rfl (bR _ _ _)) rfl ?_
 obtain⟨h15,hF⟩:=aA hF;obtain⟨y1,h16,hF⟩:=J hF;refine UH (aI rfl rfl ((bZ _ _ h15).trans (cI h16))) rfl ?_;refine wz ?_;refine UH (aI rfl rfl (oi _ _ (by decide))) rfl<|UH (jE rfl (jB (by rw[u5]; rfl) u3)) rfl<|UH (cj rfl z67 rfl (cm II rfl rfl rfl)) rfl ?_
 refine wz ?_;refine UH (cj rfl z67 rfl (cm II rfl rfl rfl)) rfl<|UH (cj rfl RZ rfl (cm Rc rfl rfl rfl)) rfl ?_;refine wz ?_;refine UK ?_;obtain⟨r6,h5,hF⟩:=J hF;refine ct (fun(r:(Unit) ⊕(Unit)) (g:Unit)=>match r,g with|.inl _,_=>⟨.ret,[(12,.bool false)],[]⟩|.inr _,_=>⟨(.exit 2),(Bt x12 x13 b0 b1 [(14,ptr b2 0),(33,AK a0 l4 c0 a1 l2 c1 a2 l5 c2 a3 l3 c3 a4 l6 c4 a5 l1 c5),(34,aL v0)]),(uM b0 x4 x3::cS b1 x10 x11::cR b2 a6 l8 c6 a7 l7 c7 e4 ai r4 (IN a0 c0 l4 a1 c1 l2 e1 ai r0 a2 c2 l5 a3 c3 l3 e3 r1 [gr a4 c4 l6,sd a5 c5 l1 e0,iH ai r3 l1 e0]))⟩) r6 ?_ ?_
 refine lo h5 () [4,5,0,1,2,3,6,7,8,9,10,11,12,13,14] (fun v1 _=>⟨.normal,(Bt x12 x13 b0 b1 [(14,ptr b2 0),(33,AK a0 l4 c0 a1 l2 c1 a2 l5 c2 a3 l3 c3 a4 l6 c4 a5 l1 c5),(34,aL v0),(64,PR x12 x13 y0 y1 x3),(65,aL v1)]),(uM b0 x4 x3::cS b1 x10 x11::cR b2 a6 l8 c6 a7 l7 c7 e4 ai r4 (IN a0 c0 l4 a1 c1 l2 e1 ai r0 a2 c2 l5 a3 c3 l3 e3 r1 [gr a4 c4 l6,sd a5 c5 l1 e0,iH ai r3 l1 e0]))⟩) ?_;clear hF h5;rintro v1 ⟨⟩ r hF;unfold El at hF;refine wz ?_;refine UJ ?_;rcases U hF with⟨h17,hF⟩|⟨h17,hF⟩;refine an ?_;obtain⟨h18,hF⟩:=aA hF;obtain⟨⟨x27,x28⟩,h0,hF⟩:=J hF;refine UX (yH (α:=Unit) (V:=fun g=>match g with|_=>.agg #[aL x27,aL x28]) (N:=fun g=>match g with|_=>[]++(uM b0 x4 x3::cS b1 x10 x11::cR b2 a6 l8 c6 a7 l7 c7 e4 ai r4 (IN a0 c0 l4 a1 c1 l2 e1 ai r0 a2 c2 l5 a3 c3 l3 e3 r1 [gr a4 c4 l6,sd a5 c5 l1 e0,iH ai r3 l1 e0]))) rfl rfl (fun m hm=>?_)) gn rfl ?_
 have hj:=kj h18;obtain⟨j,h2⟩:∃j:Nat,(v1:Int)=j:=⟨_,(Ti hj.1).symm⟩;rw[h2] at h0 hj ⊢;rw[Sv] at h0 hj;replace hj:=hj.2;clear hF h2
 match j,hj,h0 with
 | 0,_,h0=>cases h0; exact⟨(),oM FF (i:=0) (by decide) (gK Hz rfl),hm⟩
 | 1,_,h0=>cases h0; exact⟨(),oM FF (i:=1) (by decide) (gK Hz rfl),hm⟩
 | 2,_,h0=>cases h0; exact⟨(),oM FF (i:=2) (by decide) (gK Hz rfl),hm⟩
 | 3,_,h0=>cases h0; exact⟨(),oM FF (i:=3) (by decide) (gK Hz rfl),hm⟩
 | _+4,hj,_=>exact Ss hj (by omega)
 rintro⟨⟩;refine wa z67 fun b5=>?_;refine an ?_;obtain⟨⟨l11,r8⟩,h19,hF⟩:=J hF;refine wc gn (fun m hm=>M8 h19 m (hm.q 4) (hm.q 5) (hm.dp (q:=6) rfl)) ?_;rintro⟨a10,n8⟩;refine U7 (k:=0) (xs:=l11) rfl ?_;rintro rfl;refine an ?_;obtain⟨⟨l12,r9⟩,h20,hF⟩:=J hF;refine wc gn (fun m hm=>LS h20 m (hm.q 5) (hm.q 6) (hm.dp (q:=7) rfl)) ?_;rintro⟨a11,n9⟩;refine U7 (k:=0) (xs:=l12) rfl ?_;rintro rfl;refine an ?_;obtain⟨⟨r10,r11⟩,h21,hF⟩:=J hF;refine wc gn (fun m hm=>FB h21 m (hm.q 6) (hm.q 7) (hm.dp (q:=8) rfl)) ?_;rintro⟨⟩;refine an ?_;obtain⟨⟨r12,r13⟩,h22,hF⟩:=J hF;refine wc gn (fun m hm=>NX h22 m (hm.q 6) (hm.q 7) (hm.dp (q:=8) rfl)) ?_;rintro⟨⟩;refine wz ?_;refine UJ ?_;obtain⟨v2,h23,hF⟩:=J hF;refine ct (fun v2 (_:Unit)=>⟨.normal,(Bt x12 x13 b0 b1 [(14,ptr b2 0),(33,AK a0 l4 c0 a1 l2 c1 a2 l5 c2 a3 l3 c3 a4 l6 c4 a5 l1 c5),(34,aL v0),(64,PR x12 x13 y0 y1 x3),(65,aL v1),(118,dL v2)]),(uM b0 x4 x3::cS b1 x10 x11::cR b2 a6 l8 c6 a7 l7 c7 e4 ai r4 (IN a0 c0 l4 a1 c1 l2 e1 ai r0 a2 c2 l5 a3 c3 l3 e3 r1 [gr a4 c4 l6,sd a5 c5 l1 e0,iH ai r3 l1 e0]))⟩) v2 ?_ ?_;clear hF;revert v2;intro r hF;refine wz ?_;rcases U hF with⟨h7,hF⟩|⟨h7,hF⟩;refine wz ?_;cases hF;exact ae () (Vh 3 15);refine wz ?_;obtain⟨r14,h24,hF⟩:=J hF;refine wc (gg rfl rfl (iM h7)) (fun m hm=>Mo h24 m (hm.rd (k:=1) rfl (.sl _ _ _ _)) (hm.rd (k:=0) rfl (.sl _ _ _ _))) ?_;rintro⟨⟩;refine wz ?_;rcases U hF with⟨h25,hF⟩|⟨h25,hF⟩;refine wz ?_;cases hF;exact ae () (Vh 3 15);refine wz ?_;rcases U hF with⟨h26,hF⟩|⟨h26,hF⟩;refine wz ?_;cases hF;exact ae () (Vh 3 15);refine wz ?_;cases hF;exact ae () (Vh 3 15);rintro⟨⟩;refine US ?_;rcases U hF with⟨h27,hF⟩|⟨h27,hF⟩;refine an ?_;cases hF;exact ae () [];refine an ?_;cases hF;exact ae () (Vh 0 15);refine wz ?_;cases hF;exact ae () (Vh 0 15);rcases r6 with _|_;rintro⟨⟩;refine wz ?_;cases hF;exact ae () [];rintro⟨⟩;refine an ?_;refine UH (aI rfl rfl (oi _ _ (by decide))) rfl<|UH (jE rfl (jB (by rw[u5]; rfl) u3)) rfl ?_
 refine wz ?_;refine UH (aI rfl rfl (oi _ _ (by decide))) rfl<|UH (jE rfl (jB (by rw[u5]; rfl) u3)) rfl<|UH (cj rfl iv rfl (cm vV rfl rfl rfl)) rfl<|UH (cj rfl RD rfl (cm Rq rfl rfl rfl)) rfl ?_
 refine wz ?_;refine UK ?_;obtain⟨r7,h6,hF⟩:=J hF;refine ct (fun(r:(Unit) ⊕(Unit)) (g:Unit)=>match r,g with|.inl _,_=>⟨.ret,[(12,.bool false)],[]⟩|.inr _,_=>⟨(.exit 4),(Bt x12 x13 b0 b1 [(33,AK a0 l4 c0 a1 l2 c1 a2 l5 c2 a3 l3 c3 a4 l6 c4 a5 l1 c5),(34,aL v0)]),(uM b0 x4 x3::cS b1 x10 x11::IN a0 c0 l4 a1 c1 l2 e1 ai r0 a2 c2 l5 a3 c3 l3 e3 r1 [gr a4 c4 l6,sd a5 c5 l1 e0,iH ai r3 l1 e0])⟩) r7 ?_ ?_
 refine lo h6 () [0,1,2,3,4,5,6,7,8,9,10,11,12,13,14] (fun v3 _=>⟨.normal,(Bt x12 x13 b0 b1 [(14,ptr b2 0),(33,AK a0 l4 c0 a1 l2 c1 a2 l5 c2 a3 l3 c3 a4 l6 c4 a5 l1 c5),(34,aL v0),(130,PM x10 x11 x4 x3),(131,aL v3)]),(uM b0 x4 x3::cS b1 x10 x11::cR b2 a6 l8 c6 a7 l7 c7 e4 ai r4 (IN a0 c0 l4 a1 c1 l2 e1 ai r0 a2 c2 l5 a3 c3 l3 e3 r1 [gr a4 c4 l6,sd a5 c5 l1 e0,iH ai r3 l1 e0]))⟩) ?_;clear hF h6;rintro v3 ⟨⟩ r hF;unfold D2 at hF;refine wz ?_;refine UJ ?_;rcases U hF with⟨h28,hF⟩|⟨h28,hF⟩;refine an ?_;obtain⟨h29,hF⟩:=aA hF;obtain⟨⟨x29,x30⟩,h3,hF⟩:=J hF;refine UX (yH (α:=Unit) (V:=fun g=>match g with|_=>.agg #[aL x29,aL x30]) (N:=fun g=>match g with|_=>[]++(uM b0 x4 x3::cS b1 x10 x11::cR b2 a6 l8 c6 a7 l7 c7 e4 ai r4 (IN a0 c0 l4 a1 c1 l2 e1 ai r0 a2 c2 l5 a3 c3 l3 e3 r1 [gr a4 c4 l6,sd a5 c5 l1 e0,iH ai r3 l1 e0]))) rfl rfl (fun m hm=>?_)) gn rfl ?_
 have hj:=kj h29;obtain⟨j,h2⟩:∃j:Nat,(v3:Int)=j:=⟨_,(Ti hj.1).symm⟩;rw[h2] at h3 hj ⊢;rw[Sv] at h3 hj;replace hj:=hj.2;clear hF h2
 match j,hj,h3 with
 | 0,_,h3=>cases h3; exact⟨(),oM Mk (i:=0) (by decide) (gK bJ rfl),hm⟩
 | 1,_,h3=>cases h3; exact⟨(),oM Mk (i:=1) (by decide) (gK bJ rfl),hm⟩
 | _+2,hj,_=>exact Ss hj (by omega)
 rintro⟨⟩;refine wa iv fun b6=>?_;refine an ?_;obtain⟨⟨r15,r16⟩,h30,hF⟩:=J hF;refine wc gn (fun m hm=>Is h30 m (hm.q 4) (hm.q 5) (hm.dp (q:=6) rfl)) ?_;rintro⟨⟩;refine an ?_;obtain⟨⟨r17,r18⟩,h31,hF⟩:=J hF;refine wc gn (fun m hm=>NW h31 m (hm.q 4) (hm.q 5) (hm.dp (q:=6) rfl)) ?_;rintro⟨⟩;refine wz ?_;refine UJ ?_;obtain⟨v4,h32,hF⟩:=J hF;refine ct (fun v4 (_:Unit)=>⟨.normal,(Bt x12 x13 b0 b1 [(14,ptr b2 0),(33,AK a0 l4 c0 a1 l2 c1 a2 l5 c2 a3 l3 c3 a4 l6 c4 a5 l1 c5),(34,aL v0),(130,PM x10 x11 x4 x3),(131,aL v3),(153,dL v4)]),(uM b0 x4 x3::cS b1 x10 x11::cR b2 a6 l8 c6 a7 l7 c7 e4 ai r4 (IN a0 c0 l4 a1 c1 l2 e1 ai r0 a2 c2 l5 a3 c3 l3 e3 r1 [gr a4 c4 l6,sd a5 c5 l1 e0,iH ai r3 l1 e0]))⟩) v4 ?_ ?_;clear hF;revert v4;intro r hF;refine wz ?_;rcases U hF with⟨h33,hF⟩|⟨h33,hF⟩;refine wz ?_;cases hF;exact ae () (Vh 1 15);refine wz ?_;cases hF;exact ae () (Vh 1 15);rintro⟨⟩;refine US ?_;rcases U hF with⟨h34,hF⟩|⟨h34,hF⟩;refine an ?_;cases hF;exact ae () [];refine an ?_;cases hF;exact ae () (Vh 0 15);refine wz ?_;cases hF;exact ae () (0::1::Vh 6 9);rcases r7 with _|_;rintro⟨⟩;refine wz ?_;cases hF;exact ae () [];rintro⟨⟩;refine an ?_;cases hF;exact ae () (Vh 0 11);refine wz ?_;cases hF;exact ae () [];rcases r5 with _|_;rintro⟨⟩;refine wz ?_;cases hF;exact ar () [];rintro⟨⟩;refine an ?_;obtain⟨r19,h35,hF⟩:=J hF;refine wc gn (fun m hm=>OY h35 m) ?_;rintro⟨⟩;refine an ?_;obtain rfl:=R9 hF;exact ar () []
end Go.Proofs.YtmndpgfbkicndaaGreat
end
section
namespace Jd
abbrev P2:=Rat×Rat
def tn(a b c:P2):Rat:=(b.1-a.1)*(c.2-a.2)-(b.2-a.2)*(c.1-a.1)
def af(α β γ:Rat)(x:P2):Rat:=α*x.1+β*x.2+γ
def Sep(a b p q:P2):Prop:=∃α β γ,0<af α β γ a/\0<af α β γ b/\af α β γ p<0/\af α β γ q<0
def Sep.ab{a b p q:P2}(h:Sep a b p q):Sep b a p q:=let⟨α,β,γ,h1,h2,h3,h4⟩:=h;⟨α,β,γ,h2,h1,h3,h4⟩
def Sep.pq{a b p q:P2}(h:Sep a b p q):Sep a b q p:=let⟨α,β,γ,h1,h2,h3,h4⟩:=h;⟨α,β,γ,h1,h2,h4,h3⟩
def cn{x y:Rat}(hx:0<=x)(hy:0<=y):0<=x*y:=Rat.mul_nonneg hx hy
def bB{x y:Rat}(hx:0<x)(hy:0<y):0<x*y:=Rat.mul_pos hx hy
def dm{x y:Rat}(hx:0<=x)(hy:y<=0):x*y<=0:=by
 have:=cn hx (show(0:Rat)<=-y by grind)
 grind
def fP{x y:Rat}(hx:0<x)(hy:y<0):x*y<0:=by
 have:=bB hx (show(0:Rat) < -y by grind)
 grind
def gT(a b p:P2):tn b a p = -tn a b p:=by unfold tn; grind
def we(a b p:P2):Int:=if a.2<=p.2/\p.2<b.2/\0<tn a b p then 1 else if b.2<=p.2/\p.2<a.2/\tn a b p<0 then -1 else 0
def gy{a b p:P2}(h1:a.2<=p.2)(h2:p.2<b.2):we a b p=if 0<tn a b p then 1 else 0:=by
 unfold we
 by_cases h:0<tn a b p
 rw[R7 ⟨h1,h2,h⟩,R7 h]
 rw[R6 (fun e=>h e.2.2),R6 (fun e=>by grind),R6 h]
def ei{a b p:P2}(h1:¬(a.2<=p.2/\p.2<b.2))(h2:¬(b.2<=p.2/\p.2<a.2)):we a b p=0:=by
 unfold we;rw[R6 (fun e=>h1 ⟨e.1,e.2.1⟩),R6 (fun e=>h2 ⟨e.1,e.2.1⟩)]
def iJ(a b p:P2):we b a p = -we a b p:=by
 have h:=gT a b p;unfold we
 by_cases h1:a.2<=p.2/\p.2<b.2/\0<tn a b p
 rw[R7 h1,R6 (fun e=>by grind),R7 ⟨h1.1,h1.2.1,by grind⟩]
 by_cases h2:b.2<=p.2/\p.2<a.2/\tn a b p<0
 rw[R6 h1,R7 h2,R7 ⟨h2.1,h2.2.1,by grind⟩]; rfl
 rw[R6 h1,R6 h2,R6 (fun e=>h2 ⟨e.1,e.2.1,by grind⟩),R6 (fun e=>h1 ⟨e.1,e.2.1,by grind⟩)]; rfl
def fz(p q v:P2):Int:=if p.2<v.2/\v.2<=q.2/\tn p q v<0 then 1 else 0
def jT{p q v:P2}(h:¬(p.2<v.2/\v.2<=q.2)):fz p q v=0:=R6 fun e=>h ⟨e.1,e.2.1⟩
def tx{p q v:P2}(h1:p.2<v.2)(h2:v.2<=q.2):fz p q v=if tn p q v<0 then 1 else 0:=by
 unfold fz
 by_cases h:tn p q v<0
 rw[R7 ⟨h1,h2,h⟩,R7 h]
 rw[R6 (fun e=>h e.2.2),R6 h]
section
variable{a b p q:P2}
def NF(α β γ:Rat):tn p q b*af α β γ a-tn p q a*af α β γ b=tn a b p*af α β γ q-tn a b q*af α β γ p:=by
 unfold tn af; grind
def IH(h:Sep a b p q)(h1:0<=tn p q b)(h2:tn p q a<=0)(h3:0<=tn a b p)(h4:tn a b q<=0)(h5:0<tn a b p\/tn a b q<0\/0<tn p q b\/tn p q a<0):False:=by
 obtain⟨α,β,γ,g1,g2,g3,g4⟩:=h;have e:=NF (a:=a) (b:=b) (p:=p) (q:=q) α β γ;generalize af α β γ a=A at *;generalize af α β γ b=B at *;generalize af α β γ p=C at *;generalize af α β γ q=D at *;generalize tn p q b=Tb at *;generalize tn p q a=Ta at *;generalize tn a b p=Up at *;generalize tn a b q=Uq at *;have k1:0<=Tb*A:=cn h1 (by grind)
 have k2:0<=(-Ta)*B:=cn (by grind) (by grind)
 have k3:0<=Up*(-D):=cn h3 (by grind)
 have k4:0<=(-Uq)*(-C):=cn (by grind) (by grind)
 rcases h5 with h|h|h|h
 have:0<Up*(-D):=bB h (by grind)
 grind
 have:0<(-Uq)*(-C):=bB (by grind) (by grind)
 grind
 have:0<Tb*A:=bB h g1
 grind
 have:0<(-Ta)*B:=bB (by grind) g2
 grind
def CR(h:Sep a b p q)(h1:tn p q b<=0)(h2:0<=tn p q a)(h3:tn a b p<=0)(h4:0<=tn a b q)(h5:tn a b p<0\/0<tn a b q\/tn p q b<0\/0<tn p q a):False:=by
 have e1:=gT a b p;have e2:=gT a b q;exact IH h.ab (a:=b) (b:=a) h2 h1 (by grind) (by grind) (by grind)
def i1:(p.2-a.2)*tn p q b+(b.2-p.2)*tn p q a = -((q.2-p.2)*tn a b p):=by unfold tn; grind
def i2:(b.2-p.2)*tn a b q+(q.2-b.2)*tn a b p = -((b.2-a.2)*tn p q b):=by unfold tn; grind
def i3:(q.2-a.2)*tn p q b+(b.2-q.2)*tn p q a = -((q.2-p.2)*tn a b q):=by unfold tn; grind
def i4:(a.2-p.2)*tn a b q+(q.2-a.2)*tn a b p = -((b.2-a.2)*tn p q a):=by unfold tn; grind
def i5:tn a b q-tn a b p=tn p q a-tn p q b:=by unfold tn; grind
def MC(h:Sep a b p q)(h1:a.2<=p.2)(h2:p.2<b.2)(h3:b.2<=q.2):0<tn a b p↔tn p q b<0:=by
 have e1:=i1 (a:=a) (b:=b) (p:=p) (q:=q);have e2:=i2 (a:=a) (b:=b) (p:=p) (q:=q);have K:=IH h;have K':=CR h;clear h;generalize tn p q b=Tb at *;generalize tn p q a=Ta at *;generalize tn a b p=Up at *;generalize tn a b q=Uq at *;have d1:0<=p.2-a.2:=by grind
 have d2:0<b.2-p.2:=by grind
 have d3:0<q.2-p.2:=by grind
 have d4:0<=q.2-b.2:=by grind
 have d5:0<b.2-a.2:=by grind
 generalize p.2-a.2=x1 at *;generalize b.2-p.2=x2 at *;generalize q.2-p.2=x3 at *;generalize q.2-b.2=x4 at *;generalize b.2-a.2=x5 at *;constructor
 intro hu;refine R8 fun ht=>?_;have ht:0<=Tb:=by grind
 have m1:=cn d1 ht;have m2:=bB d3 hu;have ta:Ta<=0:=by
  refine R8 fun hc=>?_;have:=bB d2 (show 0<Ta by grind)
  grind
 have uq:Uq<=0:=by
  refine R8 fun hc=>?_;have m3:=bB d2 (show 0<Uq by grind)
  have m4:=cn d4 (show 0<=Up by grind)
  have m5:=cn (show 0<=x5 by grind) ht
  grind
 exact K ht ta (by grind) uq (.inl hu)
 intro ht;refine R8 fun hu=>?_;have hu:Up<=0:=by grind
 have m1:=dm d1 (show Tb<=0 by grind)
 have m2:=dm (show 0<=x3 by grind) hu
 have ta:0<=Ta:=by
  refine R8 fun hc=>?_;have:=fP d2 (show Ta<0 by grind)
  grind
 have uq:0<=Uq:=by
  refine R8 fun hc=>?_;have m3:=fP d2 (show Uq<0 by grind)
  have m4:=dm d4 hu;have m5:=fP d5 ht
  grind
 exact K' (by grind) ta hu uq (.inr (.inr (.inl ht)))
def ML(h:Sep a b p q)(h1:p.2<a.2)(h2:a.2<=q.2)(h3:q.2<b.2):0<tn a b q↔tn p q a<0:=by
 have e3:=i3 (a:=a) (b:=b) (p:=p) (q:=q);have e4:=i4 (a:=a) (b:=b) (p:=p) (q:=q);have K:=IH h;have K':=CR h;clear h;generalize tn p q b=Tb at *;generalize tn p q a=Ta at *;generalize tn a b p=Up at *;generalize tn a b q=Uq at *;have d1:0<=q.2-a.2:=by grind
 have d2:0<b.2-q.2:=by grind
 have d3:0<q.2-p.2:=by grind
 have d4:0<a.2-p.2:=by grind
 have d5:0<b.2-a.2:=by grind
 generalize q.2-a.2=x1 at *;generalize b.2-q.2=x2 at *;generalize q.2-p.2=x3 at *;generalize a.2-p.2=x4 at *;generalize b.2-a.2=x5 at *;constructor
 intro hu;refine R8 fun ht=>?_;have ht:0<=Ta:=by grind
 have m1:=cn (show 0<=x2 by grind) ht
 have m2:=bB d3 hu;have tb:Tb<=0:=by
  refine R8 fun hc=>?_;have:=cn d1 (show 0<=Tb by grind)
  grind
 have up:Up<=0:=by
  refine R8 fun hc=>?_;have m3:=bB d4 hu;have m4:=cn d1 (show 0<=Up by grind)
  have m5:=cn (show 0<=x5 by grind) ht
  grind
 exact K' tb ht up (by grind) (.inr (.inl hu))
 intro ht;refine R8 fun hu=>?_;have hu:Uq<=0:=by grind
 have m2:=dm (show 0<=x3 by grind) hu
 have m1:=fP d2 ht;have tb:0<=Tb:=by
  refine R8 fun hc=>?_;have:=dm d1 (show Tb<=0 by grind)
  grind
 have up:0<=Up:=by
  refine R8 fun hc=>?_;have m3:=dm (show 0<=x4 by grind) hu
  have m4:=dm d1 (show Up<=0 by grind)
  have m5:=fP d5 ht
  grind
 exact K tb (by grind) up hu (.inr (.inr (.inr ht)))
def PJ(h:Sep a b p q)(h1:a.2<=p.2)(h2:p.2<=q.2)(h3:q.2<b.2):0<tn a b p↔0<tn a b q:=by
 have e1:=i1 (a:=a) (b:=b) (p:=p) (q:=q);have e3:=i3 (a:=a) (b:=b) (p:=p) (q:=q);have e5:=i5 (a:=a) (b:=b) (p:=p) (q:=q);have K:=IH h;have K':=CR h;clear h;generalize tn p q b=Tb at *;generalize tn p q a=Ta at *;generalize tn a b p=Up at *;generalize tn a b q=Uq at *;have d1:0<=p.2-a.2:=by grind
 have d2:0<b.2-p.2:=by grind
 have d3:0<=q.2-p.2:=by grind
 have d4:0<=q.2-a.2:=by grind
 have d5:0<b.2-q.2:=by grind
 generalize p.2-a.2=x1 at *;generalize b.2-p.2=x2 at *;generalize q.2-p.2=x3 at *;generalize q.2-a.2=x4 at *;generalize b.2-q.2=x5 at *;constructor
 intro hu;refine R8 fun hc=>?_;have hc:Uq<=0:=by grind
 have ta:Ta<=0:=by
  refine R8 fun ht=>?_;have m1:=cn d1 (show 0<=Tb by grind)
  have m2:=bB d2 (show 0<Ta by grind)
  have m3:=cn d3 (show 0<=Up by grind)
  grind
 have tb:0<=Tb:=by
  refine R8 fun ht=>?_;have m1:=dm d4 (show Tb<=0 by grind)
  have m2:=fP d5 (show Ta<0 by grind)
  have m3:=dm d3 hc
  grind
 exact K tb ta (by grind) hc (.inl hu)
 intro hu;refine R8 fun hc=>?_;have hc:Up<=0:=by grind
 have ta:0<=Ta:=by
  refine R8 fun ht=>?_;have m1:=dm d1 (show Tb<=0 by grind)
  have m2:=fP d2 (show Ta<0 by grind)
  have m3:=dm d3 hc
  grind
 have tb:Tb<=0:=by
  refine R8 fun ht=>?_;have m1:=cn d4 (show 0<=Tb by grind)
  have m2:=bB d5 (show 0<Ta by grind)
  have m3:=cn d3 (show 0<=Uq by grind)
  grind
 exact K' tb ta hc (by grind) (.inr (.inl hu))
def I3(h:Sep a b p q)(h0:a.2<=b.2)(h1:p.2<a.2)(h2:b.2<=q.2):tn p q a<0↔tn p q b<0:=by
 have e2:=i2 (a:=a) (b:=b) (p:=p) (q:=q);have e4:=i4 (a:=a) (b:=b) (p:=p) (q:=q);have e5:=i5 (a:=a) (b:=b) (p:=p) (q:=q);have K:=IH h;have K':=CR h;clear h;generalize tn p q b=Tb at *;generalize tn p q a=Ta at *;generalize tn a b p=Up at *;generalize tn a b q=Uq at *;have d1:0<b.2-p.2:=by grind
 have d2:0<=q.2-b.2:=by grind
 have d3:0<=b.2-a.2:=by grind
 have d4:0<a.2-p.2:=by grind
 have d5:0<=q.2-a.2:=by grind
 generalize b.2-p.2=x1 at *;generalize q.2-b.2=x2 at *;generalize b.2-a.2=x3 at *;generalize a.2-p.2=x4 at *;generalize q.2-a.2=x5 at *;constructor
 intro ha;refine R8 fun hb=>?_;have hb:0<=Tb:=by grind
 have uq:Uq<=0:=by
  refine R8 fun hc=>?_;have m1:=bB d1 (show 0<Uq by grind)
  have m2:=cn d2 (show 0<=Up by grind)
  have m3:=cn d3 hb
  grind
 have up:0<=Up:=by
  refine R8 fun hc=>?_;have m1:=fP d4 (show Uq<0 by grind)
  have m2:=dm d5 (show Up<=0 by grind)
  have m3:=dm d3 (show Ta<=0 by grind)
  grind
 exact K hb (by grind) up uq (.inr (.inr (.inr ha)))
 intro hb;refine R8 fun ha=>?_;have ha:0<=Ta:=by grind
 have uq:0<=Uq:=by
  refine R8 fun hc=>?_;have m1:=fP d1 (show Uq<0 by grind)
  have m2:=dm d2 (show Up<=0 by grind)
  have m3:=dm d3 (show Tb<=0 by grind)
  grind
 have up:Up<=0:=by
  refine R8 fun hc=>?_;have m1:=bB d4 (show 0<Uq by grind)
  have m2:=cn d5 (show 0<=Up by grind)
  have m3:=cn d3 ha
  grind
 exact K' (by grind) ha up uq (.inr (.inr (.inl hb)))
def jH{c d:Prop}[Decidable c][Decidable d](h:c↔d):(if c then(1:Int) else 0)=if d then 1 else 0:=by
 by_cases hc:c
 rw[R7 hc,R7 (h.1 hc)]
 rw[R6 hc,R6 (fun e=>hc (h.2 e))]
def Ii(h:Sep a b p q)(hpq:p.2<=q.2)(hab:a.2<=b.2):we a b p-we a b q=fz p q b-fz p q a:=by
 by_cases ha:a.2<=p.2
 rw[jT (v:=a) (by grind)]
 by_cases hb:b.2<=p.2
 rw[jT (v:=b) (by grind),ei (by grind) (by grind),ei (by grind) (by grind)]
 by_cases hb2:b.2<=q.2
 rw[tx (by grind) hb2,gy ha (by grind),ei (p:=q) (by grind) (by grind),jH (MC h ha (by grind) hb2)]
 rw[jT (v:=b) (by grind),gy ha (by grind),gy (p:=q) (by grind) (by grind),jH (PJ h ha hpq (by grind))]
 omega
 rw[ei (p:=p) (by grind) (by grind)]
 by_cases ha2:a.2<=q.2
 rw[tx (v:=a) (by grind) ha2]
 by_cases hb2:b.2<=q.2
 rw[tx (v:=b) (by grind) hb2,ei (p:=q) (by grind) (by grind),jH (I3 h hab (by grind) hb2)]
 omega
 rw[jT (v:=b) (by grind),gy (p:=q) ha2 (by grind),jH (ML h (by grind) ha2 (by grind))]
 rw[jT (v:=a) (by grind),jT (v:=b) (by grind),ei (p:=q) (by grind) (by grind)]
def Hr(h:Sep a b p q)(hpq:p.2<=q.2):we a b p-we a b q=fz p q b-fz p q a:=by
 by_cases hab:a.2<=b.2
 exact Ii h hpq hab
 have:=Ii h.ab hpq (by grind)
 rw[iJ b a p,iJ b a q];omega
end
def bD:Nat->(Nat->Int)->Int
 | 0,_=>0
 | n+1,f=>bD n f+f n
def aX{n:Nat}{f g:Nat->Int}(h:∀i,i<n->f i=g i):bD n f=bD n g:=by
 induction n with
 | zero=>rfl
 | succ n ih=>simp only[bD]; rw[ih fun i hi=>h i (by omega),h n (by omega)]
def j9(n:Nat)(f g:Nat->Int):bD n (fun i=>f i-g i)=bD n f-bD n g:=by
 induction n with
 | zero=>rfl
 | succ n ih=>simp only[bD]; rw[ih]; omega
def sO(n:Nat)(f:Nat->Int):bD n (fun i=>f (i+1)-f i)=f n-f 0:=by
 induction n with
 | zero=>simp[bD]
 | succ n ih=>simp only[bD]; rw[ih]; omega
def cC{n:Nat}{f:Nat->Int}(h:∀i,i<n->f i=0):bD n f=0:=by
 induction n with
 | zero=>rfl
 | succ n ih=>simp only[bD]; rw[ih fun i hi=>h i (by omega),h n (by omega)]; rfl
def pB{n k:Nat}{f:Nat->Int}(hk:k<n)(h:∀i,i<n->i≠k->f i=0):bD n f=f k:=by
 induction n with
 | zero=>omega
 | succ n ih =>
  simp only[bD]
  by_cases e:k=n
  subst e;rw[cC fun i hi=>h i (by omega) (by omega)]; omega
  rw[ih (by omega) (fun i hi hn=>h i (by omega) hn),h n (by omega) (by omega)]; omega
def cv(u w:P2)(t:Rat):P2:=(u.1+t*(w.1-u.1),u.2+t*(w.2-u.2))
def sm(p d:P2)(x:Rat):P2:=(p.1+x*d.1,p.2+x*d.2)
def cr(u w d:P2):Rat:=(w.1-u.1)*d.2-(w.2-u.2)*d.1
def dt(u w x:P2):Rat:=(w.1-u.1)*(x.1-w.1)+(w.2-u.2)*(x.2-w.2)
def fC{A B:Rat}(ha:0<A)(hb:0<B):∃k:Rat,0<k/\k<A/\k<B:=by
 by_cases h:A<=B
 exact⟨A/2,by grind,by grind,by grind⟩
 exact⟨B/2,by grind,by grind,by grind⟩
def oC{a b p q:P2}(α β γ:Rat)(h1:0<=af α β γ a)(h2:0<=af α β γ b)(h3:af α β γ p<0)(h4:af α β γ q<0):Sep a b p q:=by
 obtain⟨k,k1,k2,k3⟩:=fC (show 0 < -af α β γ p by grind) (show 0 < -af α β γ q by grind)
 refine⟨α,β,γ+k,?_,?_,?_,?_⟩<;>(unfold af at *; grind)
def Jx{a b u w:P2}(h:Sep a b u w){t s:Rat}(t0:0<=t)(t1:t<=1)(s0:0<=s)(s1:s<=1):Sep a b (cv u w t) (cv u w s):=by
 obtain⟨α,β,γ,h1,h2,h3,h4⟩:=h;have key:∀t:Rat,0<=t->t<=1->af α β γ (cv u w t)<0:=by
  intro t t0 t1;have e:af α β γ (cv u w t)=(1-t)*af α β γ u+t*af α β γ w:=by unfold af cv; grind
  rw[e];have m1:=dm (show 0<=1-t by grind) (show af α β γ u<=0 by grind)
  have m2:=dm t0 (show af α β γ w<=0 by grind)
  by_cases ht:0<t
  have:=fP ht h4
  grind
  have:=fP (show 0<1-t by grind) h3
  grind
 exact⟨α,β,γ,h1,h2,key t t0 t1,key s s0 s1⟩
def sq_pos{x:Rat}(h:x≠0):0<x*x:=by
 by_cases hx:0<x
 exact bB hx hx
 have:=bB (show 0 < -x by grind) (show 0 < -x by grind)
 grind
def BY(x:Rat):0<=x*x:=by
 by_cases hx:0<=x
 exact cn hx hx
 have:=cn (show 0<=-x by grind) (show 0<=-x by grind)
 grind
def xI{u w:P2}(h:u≠w):0<(w.1-u.1)*(w.1-u.1)+(w.2-u.2)*(w.2-u.2):=by
 have n1:=BY (w.1-u.1);have n2:=BY (w.2-u.2)
 by_cases h1:w.1-u.1=0
 have h2:w.2-u.2≠0:=fun e=>h (S5 (by grind) (by grind))
 have:=sq_pos h2
 grind
 have:=sq_pos h1
 grind
def EH{u w x:P2}(hne:u≠w)(hc:tn u w x≠0\/0<dt u w x){t s:Rat}(t1:t<1)(s1:s<1):Sep w x (cv u w t) (cv u w s):=by
 have e:∀t:Rat,af (-(x.2-w.2)) (x.1-w.1) ((x.2-w.2)*w.1-(x.1-w.1)*w.2) (cv u w t)=(1-t)*tn u w x:=fun t=>by unfold af cv tn; grind
 have f:∀t:Rat,af (x.2-w.2) (-(x.1-w.1)) (-((x.2-w.2)*w.1-(x.1-w.1)*w.2)) (cv u w t) = -((1-t)*tn u w x):=fun t=>by unfold af cv tn; grind
 have g:∀t:Rat,af (w.1-u.1) (w.2-u.2) (-((w.1-u.1)*w.1+(w.2-u.2)*w.2)) (cv u w t) = -((1-t)*((w.1-u.1)*(w.1-u.1)+(w.2-u.2)*(w.2-u.2))):=fun t=>by unfold af cv; grind
 by_cases h0:tn u w x=0
 have hd:0<dt u w x:=hc.resolve_left fun h=>h h0;have hl:=xI hne;refine oC (w.1-u.1) (w.2-u.2) (-((w.1-u.1)*w.1+(w.2-u.2)*w.2)) ?_ ?_ ?_ ?_
 unfold af; grind
 unfold dt at hd; unfold af; grind
 rw[g]; have:=bB (show 0<1-t by grind) hl; grind
 rw[g]; have:=bB (show 0<1-s by grind) hl; grind
 by_cases hp:0<tn u w x
 refine oC (x.2-w.2) (-(x.1-w.1)) (-((x.2-w.2)*w.1-(x.1-w.1)*w.2)) ?_ ?_ ?_ ?_
 unfold af; grind
 unfold af; grind
 rw[f]; have:=bB (show 0<1-t by grind) hp; grind
 rw[f]; have:=bB (show 0<1-s by grind) hp; grind
 have hm:tn u w x<0:=by grind
 refine oC (-(x.2-w.2)) (x.1-w.1) ((x.2-w.2)*w.1-(x.1-w.1)*w.2) ?_ ?_ ?_ ?_
 unfold af; grind
 unfold af; grind
 rw[e]; exact fP (show 0<1-t by grind) hm
 rw[e]; exact fP (show 0<1-s by grind) hm
def Gh{x u w:P2}(hc:tn x u w≠0\/0<dt x u w){t s:Rat}(t0:0<t)(s0:0<s):Sep x u (cv u w t) (cv u w s):=by
 have e:∀t:Rat,af (-(u.2-x.2)) (u.1-x.1) ((u.2-x.2)*x.1-(u.1-x.1)*x.2) (cv u w t)=t*tn x u w:=fun t=>by unfold af cv tn; grind
 have f:∀t:Rat,af (u.2-x.2) (-(u.1-x.1)) (-((u.2-x.2)*x.1-(u.1-x.1)*x.2)) (cv u w t) = -(t*tn x u w):=fun t=>by unfold af cv tn; grind
 have g:∀t:Rat,af (-(u.1-x.1)) (-(u.2-x.2)) ((u.1-x.1)*u.1+(u.2-x.2)*u.2) (cv u w t) = -(t*dt x u w):=fun t=>by unfold af cv dt; grind
 by_cases h0:tn x u w=0
 have hd:0<dt x u w:=hc.resolve_left fun h=>h h0;have n1:=BY (u.1-x.1);have n2:=BY (u.2-x.2);refine oC (-(u.1-x.1)) (-(u.2-x.2)) ((u.1-x.1)*u.1+(u.2-x.2)*u.2) ?_ ?_ ?_ ?_
 unfold af; grind
 unfold af; grind
 rw[g]; have:=bB t0 hd; grind
 rw[g]; have:=bB s0 hd; grind
 by_cases hp:0<tn x u w
 refine oC (u.2-x.2) (-(u.1-x.1)) (-((u.2-x.2)*x.1-(u.1-x.1)*x.2)) ?_ ?_ ?_ ?_
 unfold af; grind
 unfold af; grind
 rw[f]; have:=bB t0 hp; grind
 rw[f]; have:=bB s0 hp; grind
 have hm:tn x u w<0:=by grind
 refine oC (-(u.2-x.2)) (u.1-x.1) ((u.2-x.2)*x.1-(u.1-x.1)*x.2) ?_ ?_ ?_ ?_
 unfold af; grind
 unfold af; grind
 rw[e]; exact fP t0 hm
 rw[e]; exact fP s0 hm
def Ev(P:Rat->Rat->Prop):Prop:=∃e:Rat,0<e/\∀x y,0<x->x<=e->0<y->y<=e->P x y
def Ev.and{P Q:Rat->Rat->Prop}(h:Ev P)(g:Ev Q):Ev fun x y=>P x y/\Q x y:=by
 obtain⟨e,e0,h⟩:=h;obtain⟨f,f0,g⟩:=g
 by_cases hl:e<=f
 exact⟨e,e0,fun x y a b c d=>⟨h x y a b c d,g x y a (by grind) c (by grind)⟩⟩
 exact⟨f,f0,fun x y a b c d=>⟨h x y a (by grind) c (by grind),g x y a b c d⟩⟩
def Ev.mono{P Q:Rat->Rat->Prop}(h:Ev P)(g:∀x y,0<x->0<y->P x y->Q x y):Ev Q :=
 let⟨e,e0,h⟩:=h
 ⟨e,e0,fun x y a b c d=>g x y a c (h x y a b c d)⟩
def Ev.of{P:Rat->Rat->Prop}(h:∀x y,0<x->0<y->P x y):Ev P:=⟨1,by grind,fun x y a _ c _=>h x y a c⟩
def Ev.all{P:Nat->Rat->Rat->Prop}:∀{n:Nat},(∀i,i<n->Ev (P i))->Ev fun x y=>∀i,i<n->P i x y
 | 0,_=>Ev.of fun _ _ _ _ i hi=>by omega
 | n+1,h=>by
  have h1:=Ev.all (P:=P) (n:=n) fun i hi=>h i (by omega)
  refine(h1.and (h n (by omega))).mono fun x y _ _ g i hi=>?_
  by_cases e:i=n
  subst e; exact g.2
  exact g.1 i (by omega)
def pT{A:Rat}(h:A<0)(B:Rat):∃e:Rat,0<e/\∀x,0<x->x<=e->A+x*B<0:=by
 by_cases hb:B<=0
 exact⟨1,by grind,fun x hx _=>by have:=dm (show 0<=x by grind) hb; grind⟩
 have hb0:B≠0:=by grind
 have hi:B*B⁻¹=1:=Rat.mul_inv_cancel B hb0;have e1:(-A/2*B⁻¹)*B = -A/2:=by grind
 have hpos:0 < -A/2*B⁻¹:=by
  refine R8 fun hc=>?_;have:=cn (show 0<=-(-A/2*B⁻¹) by grind) (show 0<=B by grind)
  grind
 refine⟨-A/2*B⁻¹,hpos,fun x hx hl=>?_⟩;have:=cn (show 0<=-A/2*B⁻¹-x by grind) (show 0<=B by grind)
 grind
def xd{a b p q:P2}(h:Sep a b p q)(d d':P2):Ev fun x y=>Sep a b (sm p d x) (sm q d' y):=by
 obtain⟨α,β,γ,h1,h2,h3,h4⟩:=h;obtain⟨e,e0,he⟩:=pT h3 (α*d.1+β*d.2);obtain⟨f,f0,hf⟩:=pT h4 (α*d'.1+β*d'.2);have k1:∀x,af α β γ (sm p d x)=af α β γ p+x*(α*d.1+β*d.2):=fun x=>by unfold af sm; grind
 have k2:∀x,af α β γ (sm q d' x)=af α β γ q+x*(α*d'.1+β*d'.2):=fun x=>by unfold af sm; grind
 obtain⟨g,g0,ge,gf⟩:=fC e0 f0;exact⟨g,g0,fun x y x0 xg y0 yg=>⟨α,β,γ,h1,h2,by rw[k1]; exact he x x0 (by grind),by rw[k2]; exact hf y y0 (by grind)⟩⟩
structure Simple(n:Nat)(v:Nat->P2):Prop where
 n3:2<n
 cl:v n=v 0
 cl1:v (n+1)=v 1
 ne:∀i,i<n->v i≠v (i+1)
 ay:∀i,i<n->tn (v i) (v (i+1)) (v (i+2))≠0\/0<dt (v i) (v (i+1)) (v (i+2))
 sep:∀i j,i<n->j<n->i≠j->j≠i+1->i≠j+1->¬(i=0/\j+1=n)->¬(j=0/\i+1=n)->Sep (v i) (v (i+1)) (v j) (v (j+1))
def W(n:Nat)(v:Nat->P2)(p:P2):Int:=bD n fun i=>we (v i) (v (i+1)) p
section
variable{n:Nat}{v:Nat->P2}
def BC(hv:v n=v 0)(p q:P2):W n v p-W n v q=bD n fun i=>(we (v i) (v (i+1)) p-we (v i) (v (i+1)) q)-(fz p q (v (i+1))-fz p q (v i)):=by
 have h1:=j9 n (fun i=>we (v i) (v (i+1)) p-we (v i) (v (i+1)) q) (fun i=>fz p q (v (i+1))-fz p q (v i));have h2:=sO n fun i=>fz p q (v i);have h3:=j9 n (fun i=>we (v i) (v (i+1)) p) fun i=>we (v i) (v (i+1)) q;rw[hv] at h2;rw[h1,h2,h3];unfold W; omega
def AX(hv:v n=v 0){p q:P2}(h:∀i,i<n->Sep (v i) (v (i+1)) p q):W n v p=W n v q:=by
 by_cases hl:p.2<=q.2
 have:=BC hv p q;rw[cC fun i hi=>by rw[Hr (h i hi) hl]; omega] at this
 omega
 have:=BC hv q p;rw[cC fun i hi=>by rw[Hr (h i hi).pq (by grind)]; omega] at this
 omega
def Cd(hv:v n=v 0){k:Nat}(hk:k<n){p q:P2}(hl:p.2<=q.2)(h:∀i,i<n->i≠k->Sep (v i) (v (i+1)) p q) :
  W n v p-W n v q=(we (v k) (v (k+1)) p-we (v k) (v (k+1)) q)-(fz p q (v (k+1))-fz p q (v k)):=by
 rw[BC hv p q];exact pB hk fun i hi hn=>by rw[Hr (h i hi hn) hl]; omega
def Simple.off(S:Simple n v){i j:Nat}(hi:i<n)(hj:j<n)(hij:i≠j){t s:Rat}(t0:0<=t)(t1:t<=1)(s0:0<=s)(s1:s<=1)
  (hn:j=i+1\/(i+1=n/\j=0)->t<1/\s<1) (hp:i=j+1\/(j+1=n/\i=0)->0<t/\0<s):Sep (v j) (v (j+1)) (cv (v i) (v (i+1)) t) (cv (v i) (v (i+1)) s):=by
 have hn3:=S.n3
 by_cases h1:j=i+1\/(i+1=n/\j=0)
 obtain⟨a,b⟩:=hn h1;have e:v j=v (i+1)/\v (j+1)=v (i+2):=by
  rcases h1 with rfl|⟨h,rfl⟩
  exact⟨rfl,rfl⟩
  have:i+2=n+1:=by omega
  rw[this,S.cl1,h,S.cl]; exact⟨rfl,rfl⟩
 rw[e.1,e.2];exact EH (S.ne i hi) (S.ay i hi) a b
 by_cases h2:i=j+1\/(j+1=n/\i=0)
 obtain⟨a,b⟩:=hp h2;have e:v (j+1)=v i/\v (j+2)=v (i+1):=by
  rcases h2 with rfl|⟨h,rfl⟩
  exact⟨rfl,rfl⟩
  have:j+2=n+1:=by omega
  rw[this,S.cl1,h,S.cl]; exact⟨rfl,rfl⟩
 have:=S.ay j hj;rw[e.1,e.2] at this;rw[e.1];exact Gh this a b
 exact Jx (S.sep j i hj hi (by omega) (by omega) (by omega) (by omega) (by omega)) t0 t1 s0 s1
def nT(u w d:P2)(t x:Rat):tn u w (sm (cv u w t) d x)=x*cr u w d:=by unfold tn sm cv cr; grind
def ga{u w p q:P2}{σ:Rat}(h1:0 < σ*tn u w p)(h2:0 < σ*tn u w q):Sep u w p q:=by
 refine oC (σ*(w.2-u.2)) (-(σ*(w.1-u.1))) (-(σ*((w.2-u.2)*u.1-(w.1-u.1)*u.2))) ?_ ?_ ?_ ?_
 unfold af; grind
 unfold af; grind
 unfold tn at h1; unfold af; grind
 unfold tn at h2; unfold af; grind
def Simple.beside(S:Simple n v){σ:Rat}{i:Nat}(hi:i<n){t s:Rat}(t0:0<t)(t1:t<1)(s0:0<s)(s1:s<1){d d':P2}(h:0 < σ*cr (v i) (v (i+1)) d)(h':0 < σ*cr (v i) (v (i+1)) d') :
  Ev fun x y=>W n v (sm (cv (v i) (v (i+1)) t) d x)=W n v (sm (cv (v i) (v (i+1)) s) d' y):=by
 have hE:Ev fun x y=>∀j,j<n->Sep (v j) (v (j+1)) (sm (cv (v i) (v (i+1)) t) d x) (sm (cv (v i) (v (i+1)) s) d' y):=by
  refine Ev.all fun j hj=>?_
  by_cases e:i=j
  subst e;refine Ev.of fun x y hx hy=>ga (σ:=σ) ?_ ?_
  rw[nT]; have:=bB hx h; grind
  rw[nT]; have:=bB hy h'; grind
  exact xd (S.off hi hj e (by grind) (by grind) (by grind) (by grind) (fun _=>⟨t1,s1⟩) (fun _=>⟨t0,s0⟩)) d d'
 exact hE.mono fun x y _ _ h=>AX S.cl h
def HS(n:Nat)(v:Nat->P2)(σ:Rat)(i:Nat)(L:Int):Prop:=∀t d,0<t->t<1->0 < σ*cr (v i) (v (i+1)) d->∃e:Rat,0<e/\∀x,0<x->x<=e->W n v (sm (cv (v i) (v (i+1)) t) d x)=L
def Simple.hs(S:Simple n v){σ:Rat}(hσ:σ≠0){i:Nat}(hi:i<n):∃L,HS n v σ i L:=by
 have hl:=xI (S.ne i hi)
 let d0:P2:=(-(σ*((v (i+1)).2-(v i).2)),σ*((v (i+1)).1-(v i).1))
 have h0:0 < σ*cr (v i) (v (i+1)) d0:=by
  have:=bB (sq_pos hσ) hl;have e:σ*cr (v i) (v (i+1)) d0=σ*σ*(((v (i+1)).1-(v i).1)*((v (i+1)).1-(v i).1)+((v (i+1)).2-(v i).2)*((v (i+1)).2-(v i).2)):=by
   show σ*(((v (i+1)).1-(v i).1)*(σ*((v (i+1)).1-(v i).1))-((v (i+1)).2-(v i).2)*(-(σ*((v (i+1)).2-(v i).2))))=_
   grind
  rw[e]; exact this
 obtain⟨e,e0,he⟩:=S.beside (σ:=σ) hi (t:=1/2) (s:=1/2) (by grind) (by grind) (by grind) (by grind) h0 h0
 refine⟨W n v (sm (cv (v i) (v (i+1)) (1/2)) d0 e),fun t d t0 t1 hd=>?_⟩;obtain⟨f,f0,hf⟩:=S.beside (σ:=σ) hi (t:=t) (s:=1/2) t0 t1 (by grind) (by grind) hd h0
 obtain⟨g,g0,ge,gf⟩:=fC e0 f0;refine⟨f,f0,fun x x0 x1=>?_⟩;rw[hf x g x0 x1 g0 (by grind),he g e g0 (by grind) e0 (by grind)]
def Simple.Gv(S:Simple n v){i:Nat}(hi:i<n){L R:Int}(hL:HS n v 1 i L)(hR:HS n v (-1) i R):L=R+1:=by
 have hne:=S.ne i hi;have eoff:∀d d':P2,Ev fun x y=>∀j,j<n->j≠i->Sep (v j) (v (j+1)) (sm (cv (v i) (v (i+1)) (1/2)) d x) (sm (cv (v i) (v (i+1)) (1/2)) d' y):=fun d d' =>
  Ev.all (P:=fun j x y=>j≠i->Sep (v j) (v (j+1)) (sm (cv (v i) (v (i+1)) (1/2)) d x) (sm (cv (v i) (v (i+1)) (1/2)) d' y)) fun j hj=>by
   by_cases e:j=i
   exact Ev.of fun _ _ _ _ h=>Ss e h
   exact(xd (S.off hi hj (Ne.symm e) (t:=1/2) (s:=1/2) (by grind) (by grind) (by grind) (by grind) (fun _=>⟨by grind,by grind⟩) (fun _=>⟨by grind,by grind⟩)) d d').mono fun x y _ _ h _=>h
 have pick:∀d d':P2,0<cr (v i) (v (i+1)) d->0 < -cr (v i) (v (i+1)) d'->∃x:Rat,0<x/\W n v (sm (cv (v i) (v (i+1)) (1/2)) d x)=L/\W n v (sm (cv (v i) (v (i+1)) (1/2)) d' x)=R /\
   (∀j,j<n->j≠i->Sep (v j) (v (j+1)) (sm (cv (v i) (v (i+1)) (1/2)) d x) (sm (cv (v i) (v (i+1)) (1/2)) d' x))/\∀B:Rat,B<0->True:=by
  intro d d' hd hd';obtain⟨e,e0,he⟩:=hL (1/2) d (by grind) (by grind) (by grind)
  obtain⟨f,f0,hf⟩:=hR (1/2) d' (by grind) (by grind) (by grind)
  obtain⟨g,g0,hg⟩:=eoff d d';obtain⟨k,k0,ke,kf⟩:=fC e0 f0;obtain⟨m,m0,mk,mg⟩:=fC k0 g0;exact⟨m,m0,he m m0 (by grind),hf m m0 (by grind),hg m m m0 (by grind) m0 (by grind),fun _ _=>trivial⟩
 generalize hu:v i=u at *;generalize hw:v (i+1)=w at *
 by_cases h0:w.2=u.2
 
 have h1:w.1≠u.1:=fun e=>hne (S5 e.symm h0.symm)
 by_cases hp:u.1<w.1
 obtain⟨x,x0,xL,xR,xs,_⟩:=pick (0,1) (0,-1) (by unfold cr; grind) (by unfold cr; grind)
 have k:=Cd S.cl hi (p:=sm (cv u w (1/2)) (0,-1) x) (q:=sm (cv u w (1/2)) (0,1) x) (by unfold sm; grind) fun j hj hn=>(xs j hj hn).pq
 rw[hu,hw,ei (by unfold sm cv; grind) (by unfold sm cv; grind),ei (by unfold sm cv; grind) (by unfold sm cv; grind),tx (v:=w) (by unfold sm cv; grind) (by unfold sm cv; grind),tx (v:=u) (by unfold sm cv; grind) (by unfold sm cv; grind)] at k
 have t1:tn (sm (cv u w (1/2)) (0,-1) x) (sm (cv u w (1/2)) (0,1) x) w = -(x*(w.1-u.1)):=by unfold tn sm cv; grind
 have t2:tn (sm (cv u w (1/2)) (0,-1) x) (sm (cv u w (1/2)) (0,1) x) u=x*(w.1-u.1):=by unfold tn sm cv; grind
 have m:=bB x0 (show 0<w.1-u.1 by grind)
 rw[t1,t2,R7 (by grind),R6 (by grind),xL,xR] at k
 omega
 obtain⟨x,x0,xL,xR,xs,_⟩:=pick (0,-1) (0,1) (by unfold cr; grind) (by unfold cr; grind)
 have k:=Cd S.cl hi (p:=sm (cv u w (1/2)) (0,-1) x) (q:=sm (cv u w (1/2)) (0,1) x) (by unfold sm; grind) fun j hj hn=>xs j hj hn
 rw[hu,hw,ei (by unfold sm cv; grind) (by unfold sm cv; grind),ei (by unfold sm cv; grind) (by unfold sm cv; grind),tx (v:=w) (by unfold sm cv; grind) (by unfold sm cv; grind),tx (v:=u) (by unfold sm cv; grind) (by unfold sm cv; grind)] at k
 have t1:tn (sm (cv u w (1/2)) (0,-1) x) (sm (cv u w (1/2)) (0,1) x) w=x*(u.1-w.1):=by unfold tn sm cv; grind
 have t2:tn (sm (cv u w (1/2)) (0,-1) x) (sm (cv u w (1/2)) (0,1) x) u = -(x*(u.1-w.1)):=by unfold tn sm cv; grind
 have m:=bB x0 (show 0<u.1-w.1 by grind)
 rw[t1,t2,R6 (by grind),R7 (by grind),xL,xR] at k
 omega
 by_cases hp:u.2<w.2
 obtain⟨x,x0,xL,xR,xs,_⟩:=pick (-1,0) (1,0) (by unfold cr; grind) (by unfold cr; grind)
 have k:=Cd S.cl hi (p:=sm (cv u w (1/2)) (-1,0) x) (q:=sm (cv u w (1/2)) (1,0) x) (by unfold sm; grind) fun j hj hn=>xs j hj hn
 rw[jT (by unfold sm; grind),jT (by unfold sm; grind),hu,hw,gy (by unfold sm cv; grind) (by unfold sm cv; grind),gy (by unfold sm cv; grind) (by unfold sm cv; grind),nT,nT] at k
 have m:=bB x0 (show 0<w.2-u.2 by grind)
 rw[R7 (by unfold cr; grind),R6 (by unfold cr; grind),xL,xR] at k
 omega
 obtain⟨x,x0,xL,xR,xs,_⟩:=pick (1,0) (-1,0) (by unfold cr; grind) (by unfold cr; grind)
 have k:=Cd S.cl hi (p:=sm (cv u w (1/2)) (-1,0) x) (q:=sm (cv u w (1/2)) (1,0) x) (by unfold sm; grind) fun j hj hn=>(xs j hj hn).pq
 have e1:=iJ w u (sm (cv u w (1/2)) (-1,0) x);have e2:=iJ w u (sm (cv u w (1/2)) (1,0) x);rw[gy (a:=w) (b:=u) (by unfold sm cv; grind) (by unfold sm cv; grind),gT u w,nT] at e1
 rw[gy (a:=w) (b:=u) (by unfold sm cv; grind) (by unfold sm cv; grind),gT u w,nT] at e2
 have m:=bB x0 (show 0<u.2-w.2 by grind)
 rw[R7 (by unfold cr; grind)] at e1
 rw[R6 (by unfold cr; grind)] at e2
 rw[jT (by unfold sm; grind),jT (by unfold sm; grind),hu,hw,e1,e2,xL,xR] at k
 omega
def Simple.A9(S:Simple n v){σ:Rat}{i:Nat}(hi:i+1<n){d:P2}(hd:0 < σ*cr (v i) (v (i+1)) d)(hd':0 < σ*cr (v (i+1)) (v (i+2)) d)(hs:0<=σ*tn (v i) (v (i+1)) (v (i+2)))
  {L L':Int} (h:HS n v σ i L) (h':HS n v σ (i+1) L'):L=L':=by
 have hn3:=S.n3;have e1:Ev fun x y=>∀j,j<n->Sep (v j) (v (j+1)) (sm (cv (v i) (v (i+1)) (1/2)) d x) (sm (cv (v i) (v (i+1)) 1) d y):=by
  refine Ev.all fun j hj=>?_
  by_cases e:i=j
  subst e;refine Ev.of fun x y hx hy=>ga (σ:=σ) ?_ ?_
  rw[nT]; have:=bB hx hd; grind
  rw[nT]; have:=bB hy hd; grind
  by_cases e':j=i+1
  subst e';refine Ev.of fun x y hx hy=>ga (σ:=σ) ?_ ?_
  have m1:=bB hx hd';have:σ*tn (v (i+1)) (v (i+1+1)) (sm (cv (v i) (v (i+1)) (1/2)) d x)=1/2*(σ*tn (v i) (v (i+1)) (v (i+2)))+x*(σ*cr (v (i+1)) (v (i+2)) d):=by
   unfold tn sm cv cr; grind
  rw[this]; grind
  have m1:=bB hy hd';have:σ*tn (v (i+1)) (v (i+1+1)) (sm (cv (v i) (v (i+1)) 1) d y)=y*(σ*cr (v (i+1)) (v (i+2)) d):=by
   unfold tn sm cv cr; grind
  rw[this]; exact m1
  exact xd (S.off (by omega) hj e (by grind) (by grind) (by grind) (by grind) (fun h=>by omega) (fun _=>⟨by grind,by grind⟩)) d d
 have e2:Ev fun x y=>∀j,j<n->Sep (v j) (v (j+1)) (sm (cv (v (i+1)) (v (i+2)) (1/2)) d x) (sm (cv (v (i+1)) (v (i+2)) 0) d y):=by
  refine Ev.all fun j hj=>?_
  by_cases e:j=i+1
  subst e;refine Ev.of fun x y hx hy=>ga (σ:=σ) ?_ ?_
  rw[nT]; have:=bB hx hd'; grind
  rw[nT]; have:=bB hy hd'; grind
  by_cases e':j=i
  subst e';refine Ev.of fun x y hx hy=>ga (σ:=σ) ?_ ?_
  have m1:=bB hx hd;have:σ*tn (v j) (v (j+1)) (sm (cv (v (j+1)) (v (j+2)) (1/2)) d x)=1/2*(σ*tn (v j) (v (j+1)) (v (j+2)))+x*(σ*cr (v j) (v (j+1)) d):=by
   unfold tn sm cv cr; grind
  rw[this]; grind
  have m1:=bB hy hd;have:σ*tn (v j) (v (j+1)) (sm (cv (v (j+1)) (v (j+2)) 0) d y)=y*(σ*cr (v j) (v (j+1)) d):=by
   unfold tn sm cv cr; grind
  rw[this]; exact m1
  exact xd (S.off (i:=i+1) hi hj (Ne.symm e) (by grind) (by grind) (by grind) (by grind) (fun _=>⟨by grind,by grind⟩) (fun h=>by omega)) d d
 obtain⟨a,a0,ha⟩:=e1;obtain⟨b,b0,hb⟩:=e2;obtain⟨f,f0,hf⟩:=h (1/2) d (by grind) (by grind) hd
 obtain⟨g,g0,hg⟩:=h' (1/2) d (by grind) (by grind) hd'
 obtain⟨k,k0,ka,kb⟩:=fC a0 b0;obtain⟨l,l0,lf,lg⟩:=fC f0 g0;obtain⟨x,x0,xk,xl⟩:=fC k0 l0;have w1:=AX S.cl (ha x x x0 (by grind) x0 (by grind))
 have w2:=AX S.cl (hb x x x0 (by grind) x0 (by grind))
 rw[hf x x0 (by grind)] at w1
 rw[hg x x0 (by grind)] at w2
 have e:cv (v i) (v (i+1)) 1=cv (v (i+1)) (v (i+2)) 0:=by unfold cv; exact S5 (by grind) (by grind)
 rw[w1,w2,e]
def Simple.step(S:Simple n v){i:Nat}(hi:i+1<n){L L':Int}(h:HS n v 1 i L)(h':HS n v 1 (i+1) L'):L=L':=by
 have hne:=S.ne i (by omega)
 have ht:=S.ay i (by omega)
 have c1:cr (v i) (v (i+1)) ((v (i+2)).1-(v (i+1)).1-((v (i+1)).1-(v i).1),(v (i+2)).2-(v (i+1)).2-((v (i+1)).2-(v i).2))=tn (v i) (v (i+1)) (v (i+2)):=by unfold cr tn; grind
 have c2:cr (v (i+1)) (v (i+2)) ((v (i+2)).1-(v (i+1)).1-((v (i+1)).1-(v i).1),(v (i+2)).2-(v (i+1)).2-((v (i+1)).2-(v i).2))=tn (v i) (v (i+1)) (v (i+2)):=by unfold cr tn; grind
 by_cases h0:tn (v i) (v (i+1)) (v (i+2))=0
 have hd:0<dt (v i) (v (i+1)) (v (i+2)):=ht.resolve_left fun e=>e h0;have hl:=xI hne;refine S.A9 (σ:=1) hi (d:=(-((v (i+1)).2-(v i).2),(v (i+1)).1-(v i).1)) ?_ ?_ (by rw[h0]; grind) h h'
 unfold cr; grind
 unfold dt at hd; unfold cr; grind
 by_cases hp:0<tn (v i) (v (i+1)) (v (i+2))
 exact S.A9 (σ:=1) hi (by rw[c1]; grind) (by rw[c2]; grind) (by grind) h h'
 obtain⟨R,hR⟩:=S.hs (σ:=-1) (by grind) (i:=i) (by omega)
 obtain⟨R',hR'⟩:=S.hs (σ:=-1) (by grind) (i:=i+1) (by omega)
 have e:=S.A9 (σ:=-1) hi (by rw[c1]; grind) (by rw[c2]; grind) (by grind) hR hR'
 have e1:=S.Gv (by omega) h hR
 have e2:=S.Gv hi h' hR';omega
def Simple.along(S:Simple n v):∃L:Int,∀i,i<n->HS n v 1 i L/\HS n v (-1) i (L-1):=by
 have hn3:=S.n3;obtain⟨L,hL⟩:=S.hs (σ:=1) (by grind) (i:=0) (by omega)
 have h1:∀i,i<n->HS n v 1 i L:=by
  intro i
  induction i with
  | zero=>intro _; exact hL
  | succ i ih =>
   intro hi;obtain⟨L',hL'⟩:=S.hs (σ:=1) (by grind) (i:=i+1) hi
   have:=S.step hi (ih (by omega)) hL'
   rw[this]; exact hL'
 refine⟨L,fun i hi=>⟨h1 i hi,?_⟩⟩;obtain⟨R,hR⟩:=S.hs (σ:=-1) (by grind) (i:=i) hi
 have:=S.Gv hi (h1 i hi) hR;rw[show L-1=R by omega]; exact hR
end
def jt{X:Nat->Rat}{P:Ux}:∀{n:Nat},(∃i,i<n/\P i)->∃i,i<n/\P i/\∀j,j<n->P j->X i<=X j
 | 0,h=>by obtain⟨i,h,_⟩:=h; omega
 | n+1,h=>by
  by_cases hn:∃i,i<n/\P i
  obtain⟨i,i1,i2,i3⟩:=jt (X:=X) hn
  by_cases hp:P n/\X n<=X i
  refine⟨n,by omega,hp.1,fun j hj hP=>?_⟩
  by_cases e:j=n
  subst e; grind
  have:=i3 j (by omega) hP; grind
  refine⟨i,by omega,i2,fun j hj hP=>?_⟩
  by_cases e:j=n
  subst e;have:¬X j<=X i:=fun h=>hp ⟨hP,h⟩
  grind
  exact i3 j (by omega) hP
  obtain⟨i,i1,i2⟩:=h;have:i=n:=R8 fun e=>hn ⟨i,by omega,i2⟩
  subst this;refine⟨i,by omega,i2,fun j hj hP=>?_⟩
  by_cases e:j=i
  subst e; grind
  exact Ss ⟨j,by omega,hP⟩ hn
def Aj{u w:P2}{y:Rat}(h:(u.2<y/\y<w.2)\/(w.2<y/\y<u.2)) :
  ∃t,0<t/\t<1/\(cv u w t).2=y/\∀q:P2,q.2=y->tn u w q=(w.2-u.2)*((cv u w t).1-q.1):=by
 have hD:w.2-u.2≠0:=by grind
 have hi:(w.2-u.2)*(w.2-u.2)⁻¹=1:=Rat.mul_inv_cancel _ hD;have ht:((y-u.2)*(w.2-u.2)⁻¹)*(w.2-u.2)=y-u.2:=by grind
 generalize(y-u.2)*(w.2-u.2)⁻¹=t at ht;have t0:0<t:=by
  refine R8 fun hc=>?_;rcases h with h|h
  have:=cn (show 0<=-t by grind) (show 0<=w.2-u.2 by grind)
  grind
  have:=cn (show 0<=-t by grind) (show 0<=u.2-w.2 by grind)
  grind
 have t1:t<1:=by
  refine R8 fun hc=>?_;rcases h with h|h
  have:=cn (show 0<=t-1 by grind) (show 0<=w.2-u.2 by grind)
  grind
  have:=cn (show 0<=t-1 by grind) (show 0<=u.2-w.2 by grind)
  grind
 refine⟨t,t0,t1,by unfold cv; grind,fun q hq=>?_⟩
 unfold tn cv;rw[hq]
 grind
section
variable{n:Nat}{v:Nat->P2}
def dd(u w:P2)(y:Rat):Int:=if u.2<y/\y<w.2 then 1 else if w.2<y/\y<u.2 then -1 else 0
def yl{u w:P2}{y:Rat}(hu:u.2≠y)(hw:w.2≠y):∃X:Rat,(∀q:P2,q.2=y->we u w q=if q.1<X then dd u w y else 0)/\(dd u w y≠0->∃t,0<t/\t<1/\cv u w t=(X,y)):=by
 by_cases h1:u.2<y/\y<w.2
 obtain⟨t,t0,t1,t2,t3⟩:=Aj (.inl h1);refine⟨(cv u w t).1,fun q hq=>?_,fun _=>⟨t,t0,t1,S5 rfl t2⟩⟩;unfold dd;rw[gy (by grind) (by grind),R7 h1,t3 q hq]
 by_cases hx:q.1<(cv u w t).1
 rw[R7 hx,R7 (bB (by grind) (by grind))]
 rw[R6 hx,R6];have:=dm (show 0<=w.2-u.2 by grind) (show(cv u w t).1-q.1<=0 by grind)
 grind
 by_cases h2:w.2<y/\y<u.2
 obtain⟨t,t0,t1,t2,t3⟩:=Aj (.inr h2);refine⟨(cv u w t).1,fun q hq=>?_,fun _=>⟨t,t0,t1,S5 rfl t2⟩⟩;unfold dd;rw[iJ w u,gy (by grind) (by grind),R6 h1,R7 h2,gT u w,t3 q hq]
 by_cases hx:q.1<(cv u w t).1
 have:=bB (show 0<u.2-w.2 by grind) (show 0<(cv u w t).1-q.1 by grind)
 rw[R7 hx,R7 (by grind)]
 have:=dm (show 0<=u.2-w.2 by grind) (show(cv u w t).1-q.1<=0 by grind)
 rw[R6 hx,R6 (by grind)]; rfl
 have e:dd u w y=0:=by unfold dd; rw[R6 h1,R6 h2]
 refine⟨0,fun q hq=>?_,fun h=>Ss e h⟩;rw[e,ite_self,ei (by grind) (by grind)]
def Simple.level(S:Simple n v){p:P2}(hp:∀i,i<n->(v i).2≠p.2):W n v p=0\/W n v p=1\/W n v p = -1:=by
 have hn3:=S.n3;have hp':∀i,i<n->(v (i+1)).2≠p.2:=fun i hi=>by
  by_cases e:i+1=n
  rw[e,S.cl]; exact hp 0 (by omega)
  exact hp (i+1) (by omega)
 have hX:∀i,∃X:Rat,i<n->(∀q:P2,q.2=p.2->we (v i) (v (i+1)) q=if q.1<X then dd (v i) (v (i+1)) p.2 else 0)/\(dd (v i) (v (i+1)) p.2≠0->∃t,0<t/\t<1/\cv (v i) (v (i+1)) t=(X,p.2)):=fun i=>by
  by_cases hi:i<n
  obtain⟨X,h⟩:=yl (hp i hi) (hp' i hi);exact⟨X,fun _=>h⟩
  exact⟨0,fun h=>Ss h hi⟩
 obtain⟨X,hX⟩:=Classical.axiomOfChoice hX;have hW:∀q:P2,q.2=p.2->W n v q=bD n fun i=>if q.1<X i then dd (v i) (v (i+1)) p.2 else 0:=fun q hq=>aX fun i hi=>(hX i hi).1 q hq
 obtain⟨L,hL⟩:=S.along
 by_cases hE:∃i,i<n/\(dd (v i) (v (i+1)) p.2≠0/\p.1<X i)
 obtain⟨i,i1,⟨i2,i3⟩,i4⟩:=jt (X:=X) hE;obtain⟨k,k1,⟨k2,k3⟩,k4⟩:=jt (X:=fun i=>-X i) hE;have hl:W n v p=L\/W n v p=L-1:=by
  obtain⟨t,t0,t1,t2⟩:=(hX i i1).2 i2;have key:∀σ M,0 < σ*cr (v i) (v (i+1)) (-1,0)->HS n v σ i M->W n v p=M:=by
   intro σ M hσ hM;obtain⟨e,e0,he⟩:=hM t (-1,0) t0 t1 hσ;obtain⟨x,x0,xe,xp⟩:=fC e0 (show 0<X i-p.1 by grind)
   rw[<-he x x0 (by grind),t2,hW p rfl,hW (sm (X i,p.2) (-1,0) x) (by unfold sm; grind)]
   refine aX fun j hj=>?_
   by_cases hd:dd (v j) (v (j+1)) p.2=0
   rw[hd,ite_self,ite_self]
   by_cases hx:p.1<X j
   have:=i4 j hj ⟨hd,hx⟩;rw[R7 hx,R7 (by unfold sm; grind)]
   rw[R6 hx,R6 (by unfold sm; grind)]
  by_cases h1:(v i).2<p.2/\p.2<(v (i+1)).2
  exact .inl (key 1 L (by unfold cr; grind) (hL i i1).1)
  have h2:(v (i+1)).2<p.2/\p.2<(v i).2:=by
   unfold dd at i2;rw[R6 h1] at i2;exact R8 fun h=>i2 (R6 h)
  exact .inr (key (-1) (L-1) (by unfold cr; grind) (hL i i1).2)
 have hr:L=0\/L=1:=by
  obtain⟨t,t0,t1,t2⟩:=(hX k k1).2 k2;have key:∀σ M,0 < σ*cr (v k) (v (k+1)) (1,0)->HS n v σ k M->M=0:=by
   intro σ M hσ hM;obtain⟨e,e0,he⟩:=hM t (1,0) t0 t1 hσ;rw[<-he e e0 (by grind),t2,hW (sm (X k,p.2) (1,0) e) (by unfold sm; grind)]
   refine cC fun j hj=>?_
   by_cases hd:dd (v j) (v (j+1)) p.2=0
   rw[hd,ite_self]
   refine R6 fun hx=>?_;have hx':X k+e<X j:=by unfold sm at hx; grind
   have:=k4 j hj ⟨hd,by grind⟩
   grind
  by_cases h1:(v k).2<p.2/\p.2<(v (k+1)).2
  have:=key (-1) (L-1) (by unfold cr; grind) (hL k k1).2
  exact .inr (by omega)
  have h2:(v (k+1)).2<p.2/\p.2<(v k).2:=by
   unfold dd at k2;rw[R6 h1] at k2;exact R8 fun h=>k2 (R6 h)
  exact .inl (key 1 L (by unfold cr; grind) (hL k k1).1)
 omega
 left
 rw[hW p rfl];refine cC fun j hj=>?_
 by_cases hd:dd (v j) (v (j+1)) p.2=0
 rw[hd,ite_self]
 exact R6 fun hx=>hE ⟨j,hj,hd,hx⟩
def Simple.main(S:Simple n v){p:P2}(hp:∀i,i<n->((v i).2<=p.2/\p.2<(v (i+1)).2)\/((v (i+1)).2<=p.2/\p.2<(v i).2)->tn (v i) (v (i+1)) p≠0) :
  W n v p=0\/W n v p=1\/W n v p = -1:=by
 have hn3:=S.n3;have h1:Ev fun x _=>∀i,i<n->(v i).2<=p.2\/p.2+x<(v i).2:=Ev.all (P:=fun i x _=>(v i).2<=p.2\/p.2+x<(v i).2) fun i _=>by
  by_cases h:(v i).2<=p.2
  exact Ev.of fun _ _ _ _=>.inl h
  exact⟨((v i).2-p.2)/2,by grind,fun x y x0 x1 _ _=>.inr (by grind)⟩
 have h2:Ev fun x _=>∀i,i<n->(tn (v i) (v (i+1)) p<0->tn (v i) (v (i+1)) (p.1,p.2+x)<0)/\(0<tn (v i) (v (i+1)) p->0<tn (v i) (v (i+1)) (p.1,p.2+x)) :=
  Ev.all (P:=fun i x _=>(tn (v i) (v (i+1)) p<0->tn (v i) (v (i+1)) (p.1,p.2+x)<0)/\(0<tn (v i) (v (i+1)) p->0<tn (v i) (v (i+1)) (p.1,p.2+x))) fun i _=>by
   have e:∀x,tn (v i) (v (i+1)) (p.1,p.2+x)=tn (v i) (v (i+1)) p+x*((v (i+1)).1-(v i).1):=fun x=>by unfold tn; grind
   by_cases hm:tn (v i) (v (i+1)) p<0
   obtain⟨a,a0,ha⟩:=pT hm ((v (i+1)).1-(v i).1);exact⟨a,a0,fun x y x0 x1 _ _=>⟨fun _=>by rw[e]; exact ha x x0 x1,fun h=>by grind⟩⟩
   by_cases hq:0<tn (v i) (v (i+1)) p
   obtain⟨a,a0,ha⟩:=pT (A:=-tn (v i) (v (i+1)) p) (by grind) (-((v (i+1)).1-(v i).1))
   exact⟨a,a0,fun x y x0 x1 _ _=>⟨fun h=>Ss h hm,fun _=>by rw[e]; have:=ha x x0 x1; grind⟩⟩
   exact Ev.of fun _ _ _ _=>⟨fun h=>Ss h hm,fun h=>Ss h hq⟩
 obtain⟨x,x0,hx⟩:=h1.and h2;obtain⟨g1,g2⟩:=hx x x x0 (by grind) x0 (by grind)
 have g1':∀i,i<n->(v (i+1)).2<=p.2\/p.2+x<(v (i+1)).2:=fun i hi=>by
  by_cases e:i+1=n
  rw[e,S.cl]; exact g1 0 (by omega)
  exact g1 (i+1) (by omega)
 have e:W n v p=W n v (p.1,p.2+x):=aX fun i hi=>by
  have a:=g1 i hi;have b:=g1' i hi;obtain⟨c1,c2⟩:=g2 i hi;have hc:=hp i hi
  by_cases k1:(v i).2<=p.2/\p.2<(v (i+1)).2
  rw[gy k1.1 k1.2,gy (by grind) (by grind)]
  exact jH ⟨c2,fun h=>by have:=hc (.inl k1); grind⟩
  by_cases k2:(v (i+1)).2<=p.2/\p.2<(v i).2
  rw[iJ (v (i+1)) (v i),iJ (v (i+1)) (v i),gy k2.1 k2.2,gy (by grind) (by grind),gT (v i),gT (v i)]
  rw[jH (d:=0 < -tn (v i) (v (i+1)) (p.1,p.2+x)) ⟨fun h=>by have:=c1 (by grind); grind,fun h=>by have:=hc (.inr k2); grind⟩]
  rw[ei k1 k2,ei (by grind) (by grind)]
 rw[e];exact S.level fun i hi=>by have:=g1 i hi; grind
end
abbrev I2:=Int×Int
def ti(a b c:I2):Int:=(b.1-a.1)*(c.2-a.2)-(b.2-a.2)*(c.1-a.1)
def ca(a:I2):P2:=((a.1:Rat),(a.2:Rat))
def lp(a b c:I2):tn (ca a) (ca b) (ca c)=((ti a b c:Int):Rat):=by
 unfold tn ca ti;simp only[Rat.intCast_sub,TS]
def dB{x y:Int}:(x:Rat)<(y:Rat)↔x<y:=Rat.intCast_lt_intCast
def oA{x y:Int}:(x:Rat)<=(y:Rat)↔x<=y:=Rat.intCast_le_intCast
def gS{x:Int}:(0:Rat)<(x:Rat)↔0<x:=by
 have:=@dB 0 x
 simpa using this
def nu{x:Int}:(x:Rat)<0↔x<0:=by
 have:=@dB x 0
 simpa using this
def iG(a b p:I2):ti b a p = -ti a b p:=by unfold ti; grind
def A8(a b:I2):ti a b a=0:=by unfold ti; grind
def A5(a b:I2):ti a b b=0:=by unfold ti; grind
def Cf(a b c d:I2):ti a b d-ti a b c=ti c d a-ti c d b:=by unfold ti; grind
def cF(a b p:I2):Prop:=ti a b p=0/\min a.1 b.1<=p.1/\p.1<=max a.1 b.1/\min a.2 b.2<=p.2/\p.2<=max a.2 b.2
instance(a b p:I2):Decidable (cF a b p):=by unfold cF; infer_instance
def cF.swap{a b p:I2}(h:cF a b p):cF b a p:=by
 obtain⟨h1,h2⟩:=h;exact⟨by rw[iG,h1]; rfl,by omega⟩
def Ak{a b p:I2}:cF a b p↔cF b a p:=⟨cF.swap,cF.swap⟩
def vg(a b:I2):cF a b a:=⟨A8 a b,by omega⟩
def vh(a b:I2):cF a b b:=⟨A5 a b,by omega⟩
def Cn{a b p:I2}(h:a.1<b.1):cF a b p↔ti a b p=0/\a.1<=p.1/\p.1<=b.1:=by
 refine⟨fun⟨h1,h2⟩=>⟨h1,by omega⟩,fun⟨h1,h2,h3⟩=>⟨h1,by omega,by omega,?_,?_⟩⟩
 all_goals
  unfold ti at h1;have e1:(b.1-a.1)*(p.2-a.2)=(b.2-a.2)*(p.1-a.1):=by omega
  have e2:(b.1-a.1)*(b.2-p.2)=(b.2-a.2)*(b.1-p.1):=by grind
  by_cases hy:a.2<=b.2
  have m1:0<=(b.1-a.1)*(p.2-a.2):=by rw[e1]; exact TI (by omega) (by omega)
  have m2:0<=(b.1-a.1)*(b.2-p.2):=by rw[e2]; exact TI (by omega) (by omega)
  have k1:=T4 m1 (by omega)
  have k2:=T4 m2 (by omega)
  omega
  have m1:0<=(b.1-a.1)*(a.2-p.2):=by
   rw[show(b.1-a.1)*(a.2-p.2)=(a.2-b.2)*(p.1-a.1) by grind]; exact TI (by omega) (by omega)
  have m2:0<=(b.1-a.1)*(p.2-b.2):=by
   rw[show(b.1-a.1)*(p.2-b.2)=(a.2-b.2)*(b.1-p.1) by grind]; exact TI (by omega) (by omega)
  have k1:=T4 m1 (by omega)
  have k2:=T4 m2 (by omega)
  omega
def E2{a b p:I2}(h:a.1=b.1)(hab:a≠b):cF a b p↔p.1=a.1/\min a.2 b.2<=p.2/\p.2<=max a.2 b.2:=by
 have hy:a.2≠b.2:=fun e=>hab (S5 h e);refine⟨fun⟨_,h2⟩=>by omega,fun⟨h1,h2⟩=>⟨?_,by omega⟩⟩
 unfold ti;rw[h1,<-h]; grind
def oq{a b p:I2}(h:a.1=b.1)(hab:a≠b)(h0:ti a b p=0):p.1=a.1:=by
 have hy:b.2-a.2≠0:=fun e=>hab (S5 h (by omega))
 unfold ti at h0;rw[h,Int.sub_self,Int.zero_mul] at h0;have:(b.2-a.2)*(p.1-b.1)=0:=by omega
 rcases S7.1 this with e|e
 exact Ss e hy
 omega
def pC{a b p q:I2}(h:a.1≠b.1)(hp:ti a b p=0)(hq:ti a b q=0)(e:p.1=q.1):p=q:=by
 have:(b.1-a.1)*(p.2-q.2)=0:=by unfold ti at hp hq; rw[e] at hp; grind
 rcases S7.1 this with e'|e'
 omega
 exact S5 e (by omega)
def Lx(a b:I2):Prop:=a.1<b.1\/a.1=b.1/\a.2<=b.2
def N1{a b p:I2}(hab:a≠b)(h:Lx a b):cF a b p↔ti a b p=0/\Lx a p/\Lx p b:=by
 unfold Lx at *
 by_cases hx:a.1<b.1
 rw[Cn hx];refine⟨fun⟨h1,h2,h3⟩=>⟨h1,?_,?_⟩,fun⟨h1,h2,h3⟩=>⟨h1,by omega,by omega⟩⟩
 by_cases e:p.1=a.1
 have:=pC (by omega) h1 (A8 a b) e
 rw[this]; omega
 omega
 by_cases e:p.1=b.1
 have:=pC (by omega) h1 (A5 a b) e
 rw[this]; omega
 omega
 have e:a.1=b.1:=by omega
 rw[E2 e hab];refine⟨fun⟨h1,h2⟩=>⟨?_,by omega,by omega⟩,fun⟨h1,h2,h3⟩=>?_⟩
 unfold ti; rw[h1,<-e]; grind
 have:=oq e hab h1;omega
def mP{a b c d:I2}(hab:a≠b)(hc:ti a b c=0)(hn:¬cF a b c)(hd:ti a b d≠0):(0<ti c d a/\0<ti c d b)\/(ti c d a<0/\ti c d b<0):=by
 have four:=Cf a b c d;have key:∀A B s t:Int,s*B=A*t->0<A*B->s-t≠0->(0<s/\0<t)\/(s<0/\t<0):=by
  intro A B s t e hAB hst;have hB:B≠0:=fun h=>by rw[h,Int.mul_zero] at hAB; omega
  have hA:A≠0:=fun h=>by rw[h,Int.zero_mul] at hAB; omega
  have ht:t≠0:=fun h=>by
   rw[h,Int.mul_zero] at e;rcases S7.1 e with h'|h'
   omega
   exact hB h'
  have hs:s≠0:=fun h=>by
   rw[h,Int.zero_mul] at e;rcases S7.1 e.symm with h'|h'
   exact hA h'
   exact ht h'
  have hp:0<s*t:=by
   have e2:s*t*(B*B)=(A*B)*(t*t):=by
    rw[show s*t*(B*B)=(s*B)*(t*B) by grind,e]; grind
   have h1:0<(A*B)*(t*t):=Ui hAB (by
    rcases Int.lt_or_lt_of_ne ht with h|h
    exact Int.mul_pos_of_neg_of_neg h h
    exact Ui h h)
   rw[<-e2] at h1;have h2:0<B*B:=by
    rcases Int.lt_or_lt_of_ne hB with h|h
    exact Int.mul_pos_of_neg_of_neg h h
    exact Ui h h
   exact Int.pos_of_mul_pos_left h1 h2
  rcases Int.lt_or_lt_of_ne hs with h|h
  right
  refine⟨h,?_⟩;refine R8 fun hc=>?_;have:=Ui (show 0 < -s by omega) (show 0<t by omega)
  rw[Int.neg_mul] at this;omega
  left
  refine⟨h,?_⟩;refine R8 fun hc=>?_;have:=Ui h (show 0 < -t by omega)
  rw[Int.mul_neg] at this;omega
 have hst:ti c d a-ti c d b≠0:=by omega
 have e0:(a.1-c.1)*(b.2-c.2)=(a.2-c.2)*(b.1-c.1):=by unfold ti at hc; grind
 have ex:ti c d a*(b.1-c.1)=(a.1-c.1)*ti c d b:=by
  unfold ti;generalize d.1-c.1=x at *;generalize d.2-c.2=y at *;generalize a.1-c.1=A at *;generalize b.1-c.1=B at *;generalize a.2-c.2=C at *;generalize b.2-c.2=D at *
  grind
 have ey:ti c d a*(b.2-c.2)=(a.2-c.2)*ti c d b:=by
  unfold ti;generalize d.1-c.1=x at *;generalize d.2-c.2=y at *;generalize a.1-c.1=A at *;generalize b.1-c.1=B at *;generalize a.2-c.2=C at *;generalize b.2-c.2=D at *
  grind
 have hout:0<(a.1-c.1)*(b.1-c.1)\/0<(a.2-c.2)*(b.2-c.2):=by
  refine R8 fun hh=>hn ⟨hc,?_⟩;have pos:∀{x y:Int},0<x->0<y->0<x*y:=Ui;have neg:∀{x y:Int},x<0->y<0->0<x*y:=Int.mul_pos_of_neg_of_neg;have n1:¬(0<a.1-c.1/\0<b.1-c.1):=fun h=>hh (.inl (pos h.1 h.2));have n2:¬(a.1-c.1<0/\b.1-c.1<0):=fun h=>hh (.inl (neg h.1 h.2));have n3:¬(0<a.2-c.2/\0<b.2-c.2):=fun h=>hh (.inr (pos h.1 h.2));have n4:¬(a.2-c.2<0/\b.2-c.2<0):=fun h=>hh (.inr (neg h.1 h.2));omega
 rcases hout with h|h
 exact key _ _ _ _ ex h hst
 exact key _ _ _ _ ey h hst
def ml(a b c d x:I2):Prop:=(x=a\/x=b\/x=c\/x=d)/\cF a b x/\cF c d x
def low(a b c d:I2):Int:=if a.1=b.1 then max (min a.2 b.2) (min c.2 d.2)-min (max a.2 b.2) (max c.2 d.2) else max (min a.1 b.1) (min c.1 d.1)-min (max a.1 b.1) (max c.1 d.1)
def JE{a b c d:I2}(hab:a≠b)(hcd:c≠d)(hc:ti a b c=0)(hd:ti a b d=0):∃f:I2->Int,low a b c d=max (min (f a) (f b)) (min (f c) (f d))-min (max (f a) (f b)) (max (f c) (f d)) /\
  (∀x y,ti a b x=0->ti a b y=0->f x=f y->x=y)/\(∀x,cF a b x↔ti a b x=0/\min (f a) (f b)<=f x/\f x<=max (f a) (f b))/\(∀x,ti a b x=0->(cF c d x↔min (f c) (f d)<=f x/\f x<=max (f c) (f d))):=by
 by_cases h:a.1=b.1
 have h3:=oq h hab hc;have h4:=oq h hab hd;refine⟨fun x=>x.2,by unfold low; rw[R7 h],fun x y hx hy e=>S5 ((oq h hab hx).trans (oq h hab hy).symm) e,fun x=>?_,fun x hx=>?_⟩
 rw[E2 h hab];refine⟨fun⟨h0,h1⟩=>⟨?_,h1⟩,fun⟨h0,h1⟩=>⟨oq h hab h0,h1⟩⟩;unfold ti; rw[h0,<-h]; grind
 rw[E2 (by omega) hcd]
 have:=oq h hab hx;exact⟨fun h=>h.2,fun h=>⟨by omega,h⟩⟩
 have h2:c.1≠d.1:=fun e=>hcd (pC h hc hd e);have dir:∀x,ti a b x=0->ti c d x=0:=fun x hx=>by
  have e0:(b.1-a.1)*(c.2-a.2)=(b.2-a.2)*(c.1-a.1):=by unfold ti at hc; omega
  have e2:(b.1-a.1)*(d.2-a.2)=(b.2-a.2)*(d.1-a.1):=by unfold ti at hd; omega
  have e1:(b.1-a.1)*(x.2-a.2)=(b.2-a.2)*(x.1-a.1):=by unfold ti at hx; omega
  have:(b.1-a.1)*ti c d x=0:=by
   unfold ti;have:(b.1-a.1)*((d.1-c.1)*(x.2-c.2)-(d.2-c.2)*(x.1-c.1))=(d.1-c.1)*((b.1-a.1)*(x.2-a.2)-(b.1-a.1)*(c.2-a.2))-((b.1-a.1)*(d.2-a.2)-(b.1-a.1)*(c.2-a.2))*(x.1-c.1):=by grind
   rw[this,e0,e2,e1]; grind
  rcases S7.1 this with e|e
  omega
  exact e
 have gen:∀{u w:I2},u.1≠w.1->∀x,(cF u w x↔ti u w x=0/\min u.1 w.1<=x.1/\x.1<=max u.1 w.1):=fun{u w} huw x=>by
  by_cases hl:u.1<w.1
  rw[Cn hl]; refine⟨fun⟨h0,h1⟩=>⟨h0,by omega⟩,fun⟨h0,h1⟩=>⟨h0,by omega⟩⟩
  rw[Ak,Cn (by omega),iG]; refine⟨fun⟨h0,h1⟩=>⟨by omega,by omega⟩,fun⟨h0,h1⟩=>⟨by omega,by omega⟩⟩
 refine⟨fun x=>x.1,by unfold low; rw[R6 h],fun x y hx hy e=>pC h hx hy e,gen h,fun x hx=>?_⟩
 rw[gen h2];exact⟨fun h=>h.2,fun h=>⟨dir x hx,h⟩⟩
def sG{a b c d:I2}(hab:a≠b)(hcd:c≠d)(hc:ti a b c=0)(hd:ti a b d=0) :
  (0<low a b c d↔∀x,¬ml a b c d x)/\(low a b c d<0↔∃x y,ml a b c d x/\ml a b c d y/\x≠y):=by
 obtain⟨f,e,hi,h1,h2⟩:=JE hab hcd hc hd;have ha0:=A8 a b;have hb0:=A5 a b;have hfab:f a≠f b:=fun h=>hab (hi a b ha0 hb0 h);have hfcd:f c≠f d:=fun h=>hcd (hi c d hc hd h);have KL:∀x,ml a b c d x↔(x=a\/x=b\/x=c\/x=d)/\(min (f a) (f b)<=f x/\f x<=max (f a) (f b))/\(min (f c) (f d)<=f x/\f x<=max (f c) (f d)):=fun x=>by
  unfold ml;refine⟨fun⟨h,g1,g2⟩=>⟨h,((h1 x).1 g1).2,(h2 x ((h1 x).1 g1).1).1 g2⟩,fun⟨h,g1,g2⟩=>?_⟩;have hx:ti a b x=0:=by rcases h with rfl|rfl|rfl|rfl<;>assumption
  exact⟨h,(h1 x).2 ⟨hx,g1⟩,(h2 x hx).2 g2⟩
 rw[e];have lo:∃x,(x=a\/x=b\/x=c\/x=d)/\f x=max (min (f a) (f b)) (min (f c) (f d)):=by
  by_cases g1:f a<=f b<;>by_cases g2:f c<=f d
  by_cases g3:f a<=f c
  exact⟨c,by simp,by omega⟩
  exact⟨a,by simp,by omega⟩
  by_cases g3:f a<=f d
  exact⟨d,by simp,by omega⟩
  exact⟨a,by simp,by omega⟩
  by_cases g3:f b<=f c
  exact⟨c,by simp,by omega⟩
  exact⟨b,by simp,by omega⟩
  by_cases g3:f b<=f d
  exact⟨d,by simp,by omega⟩
  exact⟨b,by simp,by omega⟩
 have hi':∃x,(x=a\/x=b\/x=c\/x=d)/\f x=min (max (f a) (f b)) (max (f c) (f d)):=by
  by_cases g1:f a<=f b<;>by_cases g2:f c<=f d
  by_cases g3:f b<=f d
  exact⟨b,by simp,by omega⟩
  exact⟨d,by simp,by omega⟩
  by_cases g3:f b<=f c
  exact⟨b,by simp,by omega⟩
  exact⟨c,by simp,by omega⟩
  by_cases g3:f a<=f d
  exact⟨a,by simp,by omega⟩
  exact⟨d,by simp,by omega⟩
  by_cases g3:f a<=f c
  exact⟨a,by simp,by omega⟩
  exact⟨c,by simp,by omega⟩
 obtain⟨x,x1,x2⟩:=lo;obtain⟨y,y1,y2⟩:=hi';constructor
 refine⟨fun h z hz=>?_,fun h=>?_⟩
 have:=(KL z).1 hz;omega
 refine R8 fun hc=>h x ((KL x).2 ⟨x1,by omega,by omega⟩)
 refine⟨fun h=>⟨x,y,(KL x).2 ⟨x1,by omega,by omega⟩,(KL y).2 ⟨y1,by omega,by omega⟩,fun e=>by rw[e] at x2; omega⟩,fun⟨z,w,hz,hw,hne⟩=>?_⟩
 refine R8 fun hc=>hne (hi z w ?_ ?_ ?_)
 exact hz.2.1.1
 exact hw.2.1.1
 have:=(KL z).1 hz;have:=(KL w).1 hw;omega
def Jl{a b c d:I2}(hcd:c≠d)(h:¬(ti a b c=0/\ti a b d=0)){x y:I2}(hx:cF a b x/\cF c d x)(hy:cF a b y/\cF c d y):x=y:=by
 obtain⟨⟨a1,_⟩,⟨a2,_⟩⟩:=hx;obtain⟨⟨b1,_⟩,⟨b2,_⟩⟩:=hy;have hk:(b.1-a.1)*(d.2-c.2)-(b.2-a.2)*(d.1-c.1)≠0:=fun e=>by
  have e1:ti a b d-ti a b c=0:=by
   have:ti a b d-ti a b c=(b.1-a.1)*(d.2-c.2)-(b.2-a.2)*(d.1-c.1):=by unfold ti; grind
   omega
  have e2:(d.1-c.1)*ti a b c=0:=by
   have t:(d.1-c.1)*ti a b c=(d.1-c.1)*ti a b x-(b.1-a.1)*ti c d x-(x.1-c.1)*((b.1-a.1)*(d.2-c.2)-(b.2-a.2)*(d.1-c.1)):=by unfold ti; grind
   rw[t,a1,a2,e]; simp
  have e3:(d.2-c.2)*ti a b c=0:=by
   have t:(d.2-c.2)*ti a b c=(d.2-c.2)*ti a b x-(b.2-a.2)*ti c d x-(x.2-c.2)*((b.1-a.1)*(d.2-c.2)-(b.2-a.2)*(d.1-c.1)):=by unfold ti; grind
   rw[t,a1,a2,e]; simp
  have h0:ti a b c=0:=by
   rcases S7.1 e2 with g|g
   rcases S7.1 e3 with g'|g'
   exact Ss (S5 (by omega) (by omega)) hcd
   exact g'
   exact g
  exact h ⟨h0,by omega⟩
 have f1:((b.1-a.1)*(d.2-c.2)-(b.2-a.2)*(d.1-c.1))*(x.1-y.1)=0:=by
  have t:((b.1-a.1)*(d.2-c.2)-(b.2-a.2)*(d.1-c.1))*(x.1-y.1)=(d.1-c.1)*(ti a b x-ti a b y)-(b.1-a.1)*(ti c d x-ti c d y):=by unfold ti; grind
  rw[t,a1,a2,b1,b2]; simp
 have f2:((b.1-a.1)*(d.2-c.2)-(b.2-a.2)*(d.1-c.1))*(x.2-y.2)=0:=by
  have t:((b.1-a.1)*(d.2-c.2)-(b.2-a.2)*(d.1-c.1))*(x.2-y.2)=(d.2-c.2)*(ti a b x-ti a b y)-(b.2-a.2)*(ti c d x-ti c d y):=by unfold ti; grind
  rw[t,a1,a2,b1,b2]; simp
 refine S5 ?_ ?_
 rcases S7.1 f1 with g|g
 exact Ss g hk
 omega
 rcases S7.1 f2 with g|g
 exact Ss g hk
 omega
def tE{a b c d:I2}(hab:a≠b)(hcd:c≠d)(hn:∀x,¬ml a b c d x)
  (hx:¬(((0<ti a b c/\ti a b d<0)\/(ti a b c<0/\0<ti a b d))/\((0<ti c d a/\ti c d b<0)\/(ti c d a<0/\0<ti c d b)))):Sep (ca a) (ca b) (ca c) (ca d):=by
 have na:¬cF c d a:=fun h=>hn a ⟨.inl rfl,vg a b,h⟩;have nb:¬cF c d b:=fun h=>hn b ⟨.inr (.inl rfl),vh a b,h⟩;have nc:¬cF a b c:=fun h=>hn c ⟨.inr (.inr (.inl rfl)),h,vg c d⟩;have nd:¬cF a b d:=fun h=>hn d ⟨.inr (.inr (.inr rfl)),h,vh c d⟩;have byab:(0<ti a b c/\0<ti a b d)\/(ti a b c<0/\ti a b d<0)->Sep (ca a) (ca b) (ca c) (ca d):=by
  rintro(⟨h1,h2⟩|⟨h1,h2⟩)
  exact ga (σ:=1) (by rw[lp]; have:=gS.2 h1; grind) (by rw[lp]; have:=gS.2 h2; grind)
  exact ga (σ:=-1) (by rw[lp]; have:=nu.2 h1; grind) (by rw[lp]; have:=nu.2 h2; grind)
 have bycd:(0<ti c d a/\0<ti c d b)\/(ti c d a<0/\ti c d b<0)->Sep (ca a) (ca b) (ca c) (ca d):=by
  intro h;have h':Sep (ca c) (ca d) (ca a) (ca b):=by
   rcases h with⟨h1,h2⟩|⟨h1,h2⟩
   exact ga (σ:=1) (by rw[lp]; have:=gS.2 h1; grind) (by rw[lp]; have:=gS.2 h2; grind)
   exact ga (σ:=-1) (by rw[lp]; have:=nu.2 h1; grind) (by rw[lp]; have:=nu.2 h2; grind)
  obtain⟨α,β,γ,g1,g2,g3,g4⟩:=h';exact⟨-α,-β,-γ,by unfold af at *; grind,by unfold af at *; grind,by unfold af at *; grind,by unfold af at *; grind⟩
 have four:=Cf a b c d
 by_cases hc:ti a b c=0
 by_cases hd:ti a b d=0
 
 have hl:=(sG hab hcd hc hd).1.2 hn;unfold low at hl;have split:∀{x1 x2 x3 x4:Int},0<max (min x1 x2) (min x3 x4)-min (max x1 x2) (max x3 x4)->(x1<x3/\x1<x4/\x2<x3/\x2<x4)\/(x3<x1/\x4<x1/\x3<x2/\x4<x2):=by
  intro x1 x2 x3 x4 h; omega
 split at hl
 rcases split hl with⟨h1,h2,h3,h4⟩|⟨h1,h2,h3,h4⟩
 have h1:=dB.2 h1; have h2:=dB.2 h2; have h3:=dB.2 h3; have h4:=dB.2 h4
 by_cases hm:(a.2:Rat)<=(b.2:Rat)
 refine oC 0 (-1) (b.2:Rat) ?_ ?_ ?_ ?_<;>(unfold af ca; grind)
 refine oC 0 (-1) (a.2:Rat) ?_ ?_ ?_ ?_<;>(unfold af ca; grind)
 have h1:=dB.2 h1; have h2:=dB.2 h2; have h3:=dB.2 h3; have h4:=dB.2 h4
 by_cases hm:(a.2:Rat)<=(b.2:Rat)
 refine oC 0 1 (-(a.2:Rat)) ?_ ?_ ?_ ?_<;>(unfold af ca; grind)
 refine oC 0 1 (-(b.2:Rat)) ?_ ?_ ?_ ?_<;>(unfold af ca; grind)
 rcases split hl with⟨h1,h2,h3,h4⟩|⟨h1,h2,h3,h4⟩
 have h1:=dB.2 h1; have h2:=dB.2 h2; have h3:=dB.2 h3; have h4:=dB.2 h4
 by_cases hm:(a.1:Rat)<=(b.1:Rat)
 refine oC (-1) 0 (b.1:Rat) ?_ ?_ ?_ ?_<;>(unfold af ca; grind)
 refine oC (-1) 0 (a.1:Rat) ?_ ?_ ?_ ?_<;>(unfold af ca; grind)
 have h1:=dB.2 h1; have h2:=dB.2 h2; have h3:=dB.2 h3; have h4:=dB.2 h4
 by_cases hm:(a.1:Rat)<=(b.1:Rat)
 refine oC 1 0 (-(a.1:Rat)) ?_ ?_ ?_ ?_<;>(unfold af ca; grind)
 refine oC 1 0 (-(b.1:Rat)) ?_ ?_ ?_ ?_<;>(unfold af ca; grind)
 exact bycd (mP hab hc nc hd)
 by_cases hd:ti a b d=0
 have:=mP (c:=d) (d:=c) hab hd nd hc;rw[iG c d,iG c d] at this;exact bycd (by omega)
 by_cases ha:ti c d a=0
 by_cases hb:ti c d b=0
 
 exact byab (by omega)
 have:=mP (a:=c) (b:=d) (c:=a) (d:=b) hcd ha na hb;exact byab this
 by_cases hb:ti c d b=0
 have:=mP (a:=c) (b:=d) (c:=b) (d:=a) hcd hb nb ha;rw[iG a b,iG a b] at this;exact byab (by omega)
 by_cases h1:(0<ti a b c/\0<ti a b d)\/(ti a b c<0/\ti a b d<0)
 exact byab h1
 exact bycd (by omega)
def di(a b c:I2):Int:=(b.1-a.1)*(c.1-b.1)+(b.2-a.2)*(c.2-b.2)
def NM(a b c d:I2):Prop:=(∀x,¬ml a b c d x)/\¬(((0<ti a b c/\ti a b d<0)\/(ti a b c<0/\0<ti a b d))/\((0<ti c d a/\ti c d b<0)\/(ti c d a<0/\0<ti c d b)))
def nx(r:List I2)(i:Nat):I2:=r.getD (i%r.length) (0,0)
structure VR(r:List I2):Prop where
 n3:2<r.length
 still:∀i,nx r i≠nx r (i+1)
 spike:∀i,¬(ti (nx r i) (nx r (i+1)) (nx r (i+2))=0/\di (nx r i) (nx r (i+1)) (nx r (i+2))<0)
 meet:∀j i,j+1<i->i<r.length->¬(j=0/\i+1=r.length)->NM (nx r j) (nx r (j+1)) (nx r i) (nx r (i+1))
def MI{a b:I2}(h:ca a=ca b):a=b:=by
 unfold ca at h;have h1:=Rat.intCast_inj.1 (SK Prod.fst h);have h2:=Rat.intCast_inj.1 (SK Prod.snd h);exact S5 h1 h2
def Sep.symm{a b p q:P2}(h:Sep a b p q):Sep p q a b:=by
 obtain⟨α,β,γ,g1,g2,g3,g4⟩:=h;exact⟨-α,-β,-γ,by unfold af at *; grind,by unfold af at *; grind,by unfold af at *; grind,by unfold af at *; grind⟩
def Oa{x:Int}:0<=x*x:=by
 rcases Int.le_total 0 x with h|h
 exact TI h h
 exact TV h h
def KK{x:Int}(h:x*x=0):x=0:=by
 rcases S7.1 h with h|h<;>exact h
def Me{a b c:I2}(hab:a≠b)(hbc:b≠c)(h0:ti a b c=0)(h:¬di a b c<0):0<di a b c:=by
 refine R8 fun hc=>?_;have hd:di a b c=0:=by omega
 have e1:(b.1-a.1)*(c.2-b.2)-(b.2-a.2)*(c.1-b.1)=0:=by rw[<-h0]; unfold ti; grind
 unfold di at hd;generalize hx:b.1-a.1=x at *;generalize hy:b.2-a.2=y at *;generalize hz:c.1-b.1=z at *;generalize hw:c.2-b.2=w at *;have f1:(x*x+y*y)*z=0:=by
  have:(x*x+y*y)*z=x*(x*z+y*w)-y*(x*w-y*z):=by grind
  rw[this,hd,e1]; simp
 have f2:(x*x+y*y)*w=0:=by
  have:(x*x+y*y)*w=y*(x*z+y*w)+x*(x*w-y*z):=by grind
  rw[this,hd,e1]; simp
 have hp:x*x+y*y≠0:=fun e=>by
  have s1:=@Oa x;have s2:=@Oa y;have g1:=KK (show x*x=0 by omega)
  have g2:=KK (show y*y=0 by omega)
  exact hab (S5 (by omega) (by omega))
 refine hbc (S5 ?_ ?_)
 rcases S7.1 f1 with e|e
 exact Ss e hp
 omega
 rcases S7.1 f2 with e|e
 exact Ss e hp
 omega
def VR.simple{r:List I2}(h:VR r):Simple r.length fun i=>ca (nx r i):=by
 have hn:=h.n3;have per:∀i,nx r (i+r.length)=nx r i:=fun i=>by unfold nx; rw[Nat.add_mod_right]
 refine⟨hn,?_,?_,fun i _ e=>h.still i (MI e),fun i _=>?_,fun i j hi hj h1 h2 h3 h4 h5=>?_⟩
 show ca (nx r r.length)=ca (nx r 0)
 have:=per 0;rw[SD] at this;rw[this]
 show ca (nx r (r.length+1))=ca (nx r 1)
 rw[Nat.add_comm,per]
 have e:dt (ca (nx r i)) (ca (nx r (i+1))) (ca (nx r (i+2)))=((di (nx r i) (nx r (i+1)) (nx r (i+2)):Int):Rat):=by
  unfold dt ca di;simp only[Rat.intCast_sub,TS,Rat.intCast_add]
 by_cases h0:ti (nx r i) (nx r (i+1)) (nx r (i+2))=0
 right
 show 0<dt (ca (nx r i)) (ca (nx r (i+1))) (ca (nx r (i+2)))
 rw[e,gS];exact Me (h.still i) (h.still (i+1)) h0 fun hd=>h.spike i ⟨h0,hd⟩
 left
 show tn (ca (nx r i)) (ca (nx r (i+1))) (ca (nx r (i+2)))≠0
 rw[lp];exact fun e=>h0 (by have:=Rat.intCast_inj (a:=ti (nx r i) (nx r (i+1)) (nx r (i+2))) (b:=0); simpa using e)
 by_cases hl:i<j
 have m:=h.meet i j (by omega) hj (by omega)
 exact tE (h.still i) (h.still j) m.1 m.2
 have m:=h.meet j i (by omega) hi (by omega)
 exact(tE (h.still j) (h.still i) m.1 m.2).symm
def wi(a b p:I2):Int:=if a.2<=p.2/\p.2<b.2/\0<ti a b p then 1 else if b.2<=p.2/\p.2<a.2/\ti a b p<0 then -1 else 0
def PC(a b p:I2):we (ca a) (ca b) (ca p)=wi a b p:=by
 have e1:((ca a).2<=(ca p).2)↔a.2<=p.2:=oA;have e2:((ca p).2<(ca b).2)↔p.2<b.2:=dB;have e3:((ca b).2<=(ca p).2)↔b.2<=p.2:=oA;have e4:((ca p).2<(ca a).2)↔p.2<a.2:=dB;unfold we wi;simp only[e1,e2,e3,e4,lp,gS,nu]
def gz{a b p:I2}(h:(a.2<=p.2/\p.2<b.2)\/(b.2<=p.2/\p.2<a.2))(h0:ti a b p=0):cF a b p:=by
 have sw:∀{a b p:I2},a.2<b.2->a.2<=p.2->p.2<=b.2->ti a b p=0->cF a b p:=by
  intro a b p h1 h2 h3 h0;have h0':ti (a.2,a.1) (b.2,b.1) (p.2,p.1)=0:=by unfold ti at *; grind
  have:=(Cn (a:=(a.2,a.1)) (b:=(b.2,b.1)) (p:=(p.2,p.1)) h1).2 ⟨h0',h2,h3⟩;exact⟨h0,this.2.2.2.1,this.2.2.2.2,this.2.1,this.2.2.1⟩
 rcases h with h|h
 exact sw (by omega) (by omega) (by omega) h0
 exact(sw (a:=b) (b:=a) (by omega) (by omega) (by omega) (by rw[iG,h0]; rfl)).swap
def fJ(r:List I2)(p:I2):Int:=bD r.length fun i=>wi (nx r i) (nx r (i+1)) p
def VR.fJ{r:List I2}(h:VR r){p:I2}(hp:∀i,i<r.length->¬cF (nx r i) (nx r (i+1)) p):fJ r p=0\/fJ r p=1\/fJ r p = -1:=by
 have e:W r.length (fun i=>ca (nx r i)) (ca p)=Jd.fJ r p:=aX fun i _=>PC _ _ _;rw[<-e];refine h.simple.main fun i hi hl=>?_
 show tn (ca (nx r i)) (ca (nx r (i+1))) (ca p)≠0
 rw[lp];intro h0;have h0':ti (nx r i) (nx r (i+1)) p=0:=by simpa using h0
 refine hp i hi (gz ?_ h0');rcases hl with⟨a,b⟩|⟨a,b⟩
 exact .inl ⟨oA.1 a,dB.1 b⟩
 exact .inr ⟨oA.1 a,dB.1 b⟩
def Ol(a b p:I2):Bool:=(decide (p.2<a.2) != decide (p.2<b.2)) &&(decide (0<ti a b p)==decide (a.2<b.2))
def M0{a b p:I2}(h:¬cF a b p):Ol a b p=decide (wi a b p%2=1):=by
 unfold Ol wi
 by_cases h1:p.2<a.2<;>by_cases h2:p.2<b.2
 rw[UF,UF]; simp[h1,h2]
 have h0:ti a b p≠0:=fun e=>h (gz (.inr ⟨by omega,h1⟩) e)
 by_cases h3:0<ti a b p
 rw[UF,UF]
 simp[h1,h2,h3,show ¬a.2<b.2 by omega]
 rw[UF,R7 ⟨by omega,h1,by omega⟩]
 simp[h1,h2,h3,show ¬a.2<b.2 by omega]
 have h0:ti a b p≠0:=fun e=>h (gz (.inl ⟨by omega,h2⟩) e)
 by_cases h3:0<ti a b p
 rw[R7 ⟨by omega,h2,h3⟩]
 simp[h1,h2,h3,show a.2<b.2 by omega]
 rw[UF,UF]
 simp[h1,h2,h3,show a.2<b.2 by omega]
 rw[UF,UF]; simp[h1,h2]
def Fe(a b p:I2):wi a b p=0\/wi a b p=1\/wi a b p = -1:=by
 unfold wi
 split
 omega
 split<;>omega
def Dt(r:List I2)(p:I2):Nat->Bool
 | 0=>false
 | i+1=>Dt r p i != Ol (nx r i) (nx r (i+1)) p
def yo{r:List I2}{p:I2}:∀{k:Nat},(∀i,i<k->¬cF (nx r i) (nx r (i+1)) p)->Dt r p k=decide (bD k (fun i=>wi (nx r i) (nx r (i+1)) p)%2=1)
 | 0,_=>rfl
 | k+1,h=>by
  rw[Dt,yo fun i hi=>h i (by omega),M0 (h k (by omega))]
  have key:∀s t:Int,(decide (s%2=1) != decide (t%2=1))=decide ((s+t)%2=1):=fun s t=>by
   by_cases h1:s%2=1<;>by_cases h2:t%2=1<;>by_cases h3:(s+t)%2=1<;>simp[h1,h2,h3]<;>omega
  exact key _ _
def VR.J6{r:List I2}(h:VR r){p:I2}(hp:∀i,i<r.length->¬cF (nx r i) (nx r (i+1)) p):Dt r p r.length = !decide (Jd.fJ r p=0):=by
 rw[yo hp];have:=h.fJ hp
 show decide (Jd.fJ r p%2=1)=_
 rcases this with e|e|e<;>rw[e]<;>rfl
def xQ(a b c d:I2):Prop:=((0<ti a b c/\ti a b d<0)\/(ti a b c<0/\0<ti a b d))/\((0<ti c d a/\ti c d b<0)\/(ti c d a<0/\0<ti c d b))
def IJ(a b c d:I2):Prop:=ti a b c=0/\ti a b d=0
section
variable{a b c d:I2}
def Km(hab:a≠b)(hcd:c≠d):(∃x y,ml a b c d x/\ml a b c d y/\x≠y)↔IJ a b c d/\low a b c d<0:=by
 by_cases h:IJ a b c d
 have:=(sG hab hcd h.1 h.2).2;exact⟨fun g=>⟨h,this.2 g⟩,fun g=>this.1 g.2⟩
 exact⟨fun⟨x,y,hx,hy,hne⟩=>Ss (Jl hcd h hx.2 hy.2) hne,fun g=>Ss g.1 h⟩
def Hu(hab:a≠b)(hcd:c≠d):(∃x,ml a b c d x)↔(IJ a b c d/\low a b c d<=0)\/(¬IJ a b c d/\(cF a b c\/cF a b d\/cF c d a\/cF c d b)):=by
 by_cases h:IJ a b c d
 have:=(sG hab hcd h.1 h.2).1;constructor
 rintro⟨x,hx⟩;refine .inl ⟨h,?_⟩;refine R8 fun hc=>?_;exact this.1 (by omega) x hx
 rintro(⟨_,g⟩|⟨g,_⟩)
 refine Classical.byContradiction fun hc=>?_;have:=this.2 fun x hx=>hc ⟨x,hx⟩;omega
 exact Ss h g
 constructor
 rintro⟨x,h1,h2,h3⟩;refine .inr ⟨h,?_⟩;rcases h1 with rfl|rfl|rfl|rfl
 exact .inr (.inr (.inl h3))
 exact .inr (.inr (.inr h3))
 exact .inl h2
 exact .inr (.inl h2)
 rintro(⟨g,_⟩|⟨_,g⟩)
 exact Ss g h
 rcases g with g|g|g|g
 exact⟨c,.inr (.inr (.inl rfl)),g,vg c d⟩
 exact⟨d,.inr (.inr (.inr rfl)),g,vh c d⟩
 exact⟨a,.inl rfl,vg a b,g⟩
 exact⟨b,.inr (.inl rfl),vh a b,g⟩
def yi(h:xQ a b c d):¬IJ a b c d/\∀x,¬ml a b c d x:=by
 unfold xQ at h;refine⟨fun g=>?_,fun x ⟨h1,h2,h3⟩=>?_⟩
 unfold IJ at g; omega
 have e2:=h2.1;have e3:=h3.1;rcases h1 with rfl|rfl|rfl|rfl<;>omega
noncomputable def uv (a b c d:I2):Int:=open Classical in if ∃x y,ml a b c d x/\ml a b c d y/\x≠y then 3 else if ∃x,ml a b c d x then 1 else if xQ a b c d then 2 else 0
def Ky(hab:a≠b)(hcd:c≠d):uv a b c d=open Classical in if IJ a b c d then(if 0<low a b c d then 0 else if low a b c d=0 then 1 else 3) else if xQ a b c d then 2 else if cF a b c\/cF a b d\/cF c d a\/cF c d b then 1 else 0:=by
 classical
 unfold uv;have h2:=Km hab hcd;have h1:=Hu hab hcd
 by_cases hc:IJ a b c d
 have hx:¬xQ a b c d:=fun h=>(yi h).1 hc;rw[R7 hc,R6 hx]
 by_cases g1:0<low a b c d
 rw[R7 g1,R6 (fun h=>by have:=(h2.1 h).2; omega),R6 (fun h=>(h1.1 h).elim (fun g=>by have:=g.2; omega) (fun g=>g.1 hc))]
 by_cases g2:low a b c d=0
 rw[R6 g1,R7 g2,R6 (fun h=>by have:=(h2.1 h).2; omega),R7 (h1.2 (.inl ⟨hc,by omega⟩))]
 rw[R6 g1,R6 g2,R7 (h2.2 ⟨hc,by omega⟩)]
 rw[R6 hc,R6 (fun h=>hc (h2.1 h).1)]
 by_cases hx:xQ a b c d
 rw[R7 hx,R7 hx,R6 (fun⟨x,h⟩=>(yi hx).2 x h)]
 rw[R6 hx,R6 hx]
 by_cases hb:cF a b c\/cF a b d\/cF c d a\/cF c d b
 rw[R7 hb,R7 (h1.2 (.inr ⟨hc,hb⟩))]
 rw[R6 hb,R6 (fun h=>(h1.1 h).elim (fun g=>hc g.1) (fun g=>hb g.2))]
def Gf:uv a b c d=0↔NM a b c d:=by
 classical
 unfold uv NM;constructor
 intro h
 by_cases h1:∃x y,ml a b c d x/\ml a b c d y/\x≠y
 rw[R7 h1] at h; exact Ss h (by decide)
 rw[R6 h1] at h
 by_cases h2:∃x,ml a b c d x
 rw[R7 h2] at h; exact Ss h (by decide)
 rw[R6 h2] at h
 by_cases h3:xQ a b c d
 rw[R7 h3] at h; exact Ss h (by decide)
 exact⟨fun x hx=>h2 ⟨x,hx⟩,h3⟩
 rintro⟨h1,h2⟩;rw[R6 (fun⟨x,_,hx,_⟩=>h1 x hx),R6 (fun⟨x,hx⟩=>h1 x hx)];exact R6 h2
end
def Cu(a b p:I2):wi b a p = -wi a b p:=by
 have h:=iG a b p;unfold wi
 by_cases h1:a.2<=p.2/\p.2<b.2/\0<ti a b p
 rw[R7 h1,UF,UG]
 by_cases h2:b.2<=p.2/\p.2<a.2/\ti a b p<0
 rw[R6 h1,R7 h2,UG]; rfl
 rw[R6 h1,R6 h2,UF,UF]; rfl
def dI(f:I2->I2){r:List I2}(h:r≠[])(i:Nat):nx (r.map f) i=f (nx r i):=by
 have hl:=List.length_pos_iff.2 h;unfold nx;rw[Sz];have hi:i%r.length<r.length:=S6 _ hl;rw[Sb,Sb,SX,R5 hi]; rfl
def wW{r:List I2}:nx r r.length=nx r 0:=by unfold nx; rw[Nat.mod_self,Nat.zero_mod]
section
variable{a b c d:I2}
def nB{x:I2}:ml a b c d x↔ml c d a b x:=by
 unfold ml;constructor<;>rintro⟨h,g1,g2⟩<;>exact⟨by rcases h with h|h|h|h<;>simp[h],g2,g1⟩
def IS:xQ a b c d↔xQ c d a b:=by unfold xQ; exact And.comm
def Ki:uv c d a b=uv a b c d:=by
 classical
 have h1:(∃x y,ml c d a b x/\ml c d a b y/\x≠y)↔∃x y,ml a b c d x/\ml a b c d y/\x≠y :=
  ⟨fun⟨x,y,p,q,r⟩=>⟨x,y,nB.1 p,nB.1 q,r⟩,fun⟨x,y,p,q,r⟩=>⟨x,y,nB.1 p,nB.1 q,r⟩⟩
 have h2:(∃x,ml c d a b x)↔∃x,ml a b c d x:=⟨fun⟨x,p⟩=>⟨x,nB.1 p⟩,fun⟨x,p⟩=>⟨x,nB.1 p⟩⟩;unfold uv;simp only[h1,h2,IS (a:=c) (b:=d) (c:=a) (d:=b)]
end
def qE(r:List I2):Int:=bD r.length fun i=>(nx r i).1*(nx r (i+1)).2-(nx r i).2*(nx r (i+1)).1
def jm(n:Nat)(f g:Nat->Int):bD n (fun i=>f i+g i)=bD n f+bD n g:=by
 induction n with
 | zero=>rfl
 | succ n ih=>simp only[bD]; rw[ih]; omega
def rT(c:Int)(n:Nat)(f:Nat->Int):bD n (fun i=>c*f i)=c*bD n f:=by
 induction n with
 | zero=>simp[bD]
 | succ n ih=>simp only[bD]; rw[ih,Int.mul_add]
def Du(n:Nat)(f:Nat->Int):bD (n+1) f=f 0+bD n fun i=>f (i+1):=by
 induction n with
 | zero=>simp[bD]
 | succ n ih=>rw[bD,ih]; simp only[bD]; omega
def EE(n:Nat)(f:Nat->Int):bD n (fun i=>f (n-1-i))=bD n f:=by
 induction n generalizing f with
 | zero=>rfl
 | succ n ih =>
  rw[Du];simp only[bD];have:bD n (fun i=>f (n+1-1-(i+1)))=bD n f:=by
   rw[<-ih f];exact aX fun i _=>by congr 1; omega
  rw[this,show n+1-1-0=n by omega]; omega
structure Chg(f:I2->I2)(k d:Int):Prop where
 inj:∀{a b},f a=f b->a=b
 ti:∀a b c,ti (f a) (f b) (f c)=k*ti a b c
 di:∀a b c,di (f a) (f b) (f c)=d*di a b c
 kp:k≠0
 dp:0<d
 btw:∀{a b c},cF (f a) (f b) (f c)↔cF a b c
def lb{k x:Int}(h:0<k):0<k*x↔0<x:=⟨fun g=>Int.pos_of_mul_pos_right g h,fun g=>Ui h g⟩
def gC{k x:Int}(h:0<k):k*x<0↔x<0:=by
 have:=lb (x:=-x) h;rw[Int.mul_neg] at this;omega
section
variable{f:I2->I2}{k d:Int}
def Chg.KL(h:Chg f k d){a b c d x:I2}:ml (f a) (f b) (f c) (f d) (f x)↔ml a b c d x:=by
 unfold ml;rw[h.btw,h.btw];constructor
 rintro⟨g,e⟩;exact⟨by rcases g with g|g|g|g<;>simp[h.inj g],e⟩
 rintro⟨g,e⟩;exact⟨by rcases g with g|g|g|g<;>simp[g],e⟩
def Chg.RJ(h:Chg f k d){a b c d:I2}:xQ (f a) (f b) (f c) (f d)↔xQ a b c d:=by
 unfold xQ;rw[h.ti,h.ti,h.ti,h.ti];rcases Int.lt_or_gt_of_ne h.kp with g|g
 have e:∀x,k*x = -((-k)*x):=fun x=>by rw[Int.neg_mul]; omega
 have p:∀{x},0<k*x↔x<0:=fun{x}=>by rw[e]; have:=gC (k:=-k) (x:=x) (by omega); omega
 have n:∀{x},k*x<0↔0<x:=fun{x}=>by rw[e]; have:=lb (k:=-k) (x:=x) (by omega); omega
 rw[p,p,p,p,n,n,n,n]; omega
 rw[lb g,lb g,lb g,lb g,gC g,gC g,gC g,gC g]
def F3{a b c d:I2}:NM a b c d↔(∀x,¬ml a b c d x)/\¬xQ a b c d:=Iff.rfl
def Chg.nm(h:Chg f k d){a b c d:I2}:NM (f a) (f b) (f c) (f d)↔NM a b c d:=by
 rw[F3,F3,h.RJ];refine and_congr_left fun _=>⟨fun g x hx=>g (f x) (h.KL.2 hx),fun g x hx=>?_⟩;have:∃y,x=f y:=by
  rcases hx.1 with e|e|e|e<;>exact⟨_,e⟩
 obtain⟨y,rfl⟩:=this;exact g y (h.KL.1 hx)
def Chg.vr(h:Chg f k d){r:List I2}(v:VR r):VR (r.map f):=by
 have hr:r≠[]:=fun e=>by have:=v.n3; rw[e] at this; simp at this
 refine⟨by rw[Sz]; exact v.n3,fun i=>?_,fun i=>?_,fun j i h1 h2 h3=>?_⟩
 rw[dI f hr,dI f hr];exact fun e=>v.still i (h.inj e)
 rw[dI f hr,dI f hr,dI f hr,h.ti,h.di];rintro⟨e1,e2⟩;refine v.spike i ⟨?_,(gC h.dp).1 e2⟩;rcases S7.1 e1 with e|e
 exact Ss e h.kp
 exact e
 rw[Sz] at h2 h3;rw[dI f hr,dI f hr,dI f hr,dI f hr,h.nm];exact v.meet j i h1 h2 h3
end
def ud(v:I2)(a:I2):I2:=(a.1+v.1,a.2+v.2)
def dE(s:Int)(a:I2):I2:=(a.1*s,a.2*s)
def HO(s:Int)(a b c:I2):ti (dE s a) (dE s b) (dE s c)=s*s*ti a b c:=by unfold ti dE; grind
def pb{s x y:Int}(hs:0<s):x*s<=y*s↔x<=y:=⟨fun h=>Int.le_of_mul_le_mul_right h hs,fun h=>Tk h (Int.le_of_lt hs)⟩
def J5{s:Int}(hs:0<s){a b c:I2}:cF (dE s a) (dE s b) (dE s c)↔cF a b c:=by
 have hss:s*s≠0:=by have:=Ui hs hs; omega
 have m1:∀x y z:Int,min (x*s) (y*s)<=z*s↔min x y<=z:=fun x y z=>by
  have h1:=pb (x:=x) (y:=z) hs;have h2:=pb (x:=y) (y:=z) hs;omega
 have m2:∀x y z:Int,z*s<=max (x*s) (y*s)↔z<=max x y:=fun x y z=>by
  have h1:=pb (x:=z) (y:=x) hs;have h2:=pb (x:=z) (y:=y) hs;omega
 unfold cF;rw[HO];unfold dE
 dsimp only
 rw[m1,m2,m1,m2];refine and_congr_left fun _=>⟨fun h=>?_,fun h=>by rw[h,Int.mul_zero]⟩
 rcases S7.1 h with e|e
 exact Ss e hss
 exact e
def CJ{s:Int}(hs:0<s):Chg (dE s) (s*s) (s*s):=by
 have hss:=Ui hs hs;refine⟨fun{a b} h=>?_,HO s,fun a b c=>by unfold di dE; grind,by omega,hss,J5 hs⟩
 have h1:=SK Prod.fst h;have h2:=SK Prod.snd h;exact S5 (Int.eq_of_mul_eq_mul_right (by omega) h1) (Int.eq_of_mul_eq_mul_right (by omega) h2)
def om(r:List I2){i j:Nat}(h:i%r.length=j%r.length):nx r i=nx r j:=by unfold nx; rw[h]
def wy(k:Nat):I2:=[(2,0),(2,1),(1,2),(0,2),(-1,2),(-2,1),(-2,0),(-2,-1),(-1,-2),(0,-2),(1,-2),(2,-1)].getD (k%12) (0,0)
def RV(m:Int)(a:I2):I2:=(a.1*m,a.2*m)
structure Star(r:List I2):Prop where
 n3:2<r.length
 dir:∃δ:Nat->Nat,(∀i,δ i < δ (i+1)/\δ (i+1)<=δ i+3)/\(∀i,δ (i+r.length)=δ i+12)/\∀i,∃m:Int,0<m/\nx r i=RV m (wy (δ i))
section
variable{h:Nat->Int}(hp:∀ i, 1 <= h i)
include hp
end
end Jd
end
section
namespace Go.Ab
open Go
end Go.Ab
end
section
namespace Go.Ab.W
open Go Go.Ab
section
variable{σ ρ τ:Type}
end
end Go.Ab.W
end
section
namespace Go.Ab.B
open Go Go.Ab Go.Ab.W
section
variable{α β σ ρ:Type}
def eT(a b:Option β):br true a b=a:=rfl
def ek(a b:Option β):br false a b=b:=rfl
def aJ(a:Option β):gd true a=a:=rfl
def ah(x:α)(f:α->Option β):ob (some x) f=f x:=rfl
def au{p:Prop}[Decidable p](h:p)(a b:Option β):br (decide p) a b=a:=by rw[Sd h]; rfl
def Vj{p:Prop}[Decidable p]{a b:Option β}(h:p:=by omega):br (decide p) a b=a:=au h a b
def aq{p:Prop}[Decidable p](h:¬p)(a b:Option β):br (decide p) a b=b:=by rw[Se h]; rfl
def Vl{p:Prop}[Decidable p]{a b:Option β}(h:¬p:=by omega):br (decide p) a b=b:=aq h a b
def Gs(c:Bool)(a b:Option β):br c a b=if c then a else b:=by cases c<;>rfl
def kl(c d:Bool):br c (some true) (some d)=some (c||d):=by cases c<;>rfl
def cU(c d:Bool):br c (some d) (some false)=some (c&&d):=by cases c<;>rfl
def fj{p:Prop}[Decidable p](h:p)(a:Option β):gd (decide p) a=a:=by rw[Sd h]; rfl
def al{i n:Nat}(h:i<n):bw (i:Int) n=true:=Sd ⟨Int.natCast_nonneg i,by simpa using h⟩
def aB{x:Int}(h1 : -9223372036854775808<=x)(h2:x<9223372036854775808):UD x=x:=wrap_i64 x h1 (by omega)
def aj{i:Nat}(h:i<4611686018427387904):UD ((i:Int)+1)=((i+1:Nat):Int):=by rw[aB (by omega) (by omega)]; rfl
def Vm{i:Nat}(h:i<4611686018427387904:=by omega):UD ((i:Int)+1)=((i+1:Nat):Int):=aj h
def eO{body:σ->Option (σ⊕ρ)}{n:Nat}{s s':σ}(h:body s=some (.inl s')):bh body (n+1) s=bh body n s':=by simp only[bh,h]
def eE{body:σ->Option (σ⊕ρ)}{n:Nat}{s:σ}{r:ρ}(h:body s=some (.inr r)):bh body (n+1) s=some r:=by simp only[bh,h]
end
def eQ{u v B C:Int}(hB:0<=B)(hu1 : -B<=u)(hu2:u<=B)(hv1 : -C<=v)(hv2:v<=C) : -(B*C)<=u*v/\u*v<=B*C:=by
 have hC:0<=C:=by omega
 have h1:0<=(B-u)*(C-v):=TI (by omega) (by omega)
 have h2:0<=(B+u)*(C+v):=TI (by omega) (by omega)
 have h3:0<=(B-u)*(C+v):=TI (by omega) (by omega)
 have h4:0<=(B+u)*(C-v):=TI (by omega) (by omega)
 have e1:(B-u)*(C-v)=B*C-B*v-u*C+u*v:=by rw[Int.sub_mul,Int.mul_sub,Int.mul_sub]; omega
 have e2:(B+u)*(C+v)=B*C+B*v+u*C+u*v:=by rw[Int.add_mul,Int.mul_add,Int.mul_add]; omega
 have e3:(B-u)*(C+v)=B*C+B*v-u*C-u*v:=by rw[Int.sub_mul,Int.mul_add,Int.mul_add]; omega
 have e4:(B+u)*(C-v)=B*C-B*v+u*C-u*v:=by rw[Int.add_mul,Int.mul_sub,Int.mul_sub]; omega
 omega
def uQ{α:Type}[DecidableEq α]:∀{l m:List α},l.Nodup->(∀a∈l,a∈m)->l.length<=m.length
 | [],_,_,_=>Th _
 | a::l,m,hn,hs=>by
  obtain⟨n1,n2⟩:=TT.1 hn;have ha:=hs a SV;have:=uQ (l:=l) (m:=m.erase a) n2 fun b hb=>by
   have hne:b≠a:=fun e=>n1 (e▸hb);exact(List.mem_erase_of_ne hne).2 (hs b (SE _ hb))
  rw[List.length_erase_of_mem ha] at this;have hp:0<m.length:=List.length_pos_of_mem ha;rw[SJ]; omega
end Go.Ab.B
end
section
namespace Jd
def Lt(a b:I2):Prop:=a.1<b.1\/a.1=b.1/\a.2<b.2
instance(a b:I2):Decidable (Lt a b):=by unfold Lt; infer_instance
def Edge(Q:I2->Prop)(a b:I2):Prop:=Lt a b/\∀q,Q q->0<=ti a b q/\(ti a b q=0->¬Lt q a/\¬Lt b q)
inductive Stk(Q:I2->Prop):List I2->Prop
 | one {a}:(∀q,Q q->¬Lt q a)->Q a->Stk Q [a]
 | more {a b st}:Edge Q a b->Q b->Stk Q (a::st)->Stk Q (b::a::st)
def Good(S:I2->Prop)(x y:I2):Prop:=x≠y/\S y/\∀q,S q->0<ti x y q\/q=x\/q=y\/(ti x y q=0/\0<di x q y)
inductive Way(S:I2->Prop):List I2->Prop
 | one (a):Way S [a]
 | more {a b l}:Good S a b->Way S (b::l)->Way S (a::b::l)
def IT{u v w:I2}(h1:u.1*w.2=u.2*w.1)(h2:v.1*w.2=v.2*w.1)(g1:0<u.1*w.1+u.2*w.2)(g2:0<v.1*w.1+v.2*w.2):0<u.1*v.1+u.2*v.2:=by
 have e:(u.1*w.1+u.2*w.2)*(v.1*w.1+v.2*w.2)=(u.1*v.1+u.2*v.2)*(w.1*w.1+w.2*w.2):=by grind
 have p:=Ui g1 g2;rw[e] at p;have n:0<=w.1*w.1+w.2*w.2:=Int.add_nonneg Oa Oa;rcases Int.lt_or_eq_of_le n with k|k
 rw[Int.mul_comm] at p; exact Int.pos_of_mul_pos_right p k
 rw[<-k,Int.mul_zero] at p; exact Ss p (by decide)
structure Hul(S:I2->Prop)(r:List I2):Prop where
 n3:2<r.length
 good:∀i,Good S (nx r i) (nx r (i+1))
 nodup:∀i j,i<j->j<r.length->nx r i≠nx r j
section
variable{S:I2->Prop}{r:List I2}
end
end Jd
end
section
namespace Go.Proofs.YtmndpgfbkicndaaGreat
section
open Go Go.Ab Go.Ab.W Go.Ab.B Jd
def pd(x:Int):Prop:=-9223372036854775808<=x/\x<9223372036854775808
def Fa(p:I2):Prop:=p.1 < -1000000\/1000000<p.1\/p.2 < -1000000\/1000000<p.2
instance(p:I2):Decidable (Fa p):=by unfold Fa; infer_instance
instance(a b p:I2):Decidable (cF a b p):=by unfold cF; infer_instance
def gH(a b:Int):ma a b=max a b:=by unfold ma; split<;>omega
def gA(a b:Int):mi a b=min a b:=by unfold mi; split<;>omega
def LC{x:Int}(h:pd x):UD (0-x)=if x = -9223372036854775808 then x else -x:=by
 unfold pd at h
 split
 rename_i e; subst e; decide
 rw[aB (by omega) (by omega)]; omega
def pG(n:Nat){x y:Int}(hx:pd x)(hy:pd y):xq n x y=some (decide (Fa (x,y))):=by
 unfold xq;rw[LC hx,LC hy,ah,kl,<-Ua]
 congr 1
 rw[decide_eq_decide];unfold pd at hx hy;unfold Fa
 dsimp only
 rw[gH,gH,gH,gA]
 split<;>split<;>omega
def sg(z:Int):Int:=if z<0 then -1 else if 0<z then 1 else 0
def vO(n:Nat)(x y:Int):Bm n x y=some (sg (x-y)):=by
 unfold Bm FG sg;simp only[decide_true,SM,ah,ek]
 by_cases h:x<y
 rw[au h,R7 (show x-y<0 by omega)]
 rw[aq h,R6 (show ¬x-y<0 by omega)]
 by_cases g:y<x
 rw[au g,R7 (show 0<x-y by omega)]
 rw[aq g,R6 (show ¬0<x-y by omega)]
def Nr(p:I2):Prop:=-1000000<=p.1/\p.1<=1000000/\-1000000<=p.2/\p.2<=1000000
def vt{p:I2}:¬Fa p↔Nr p:=by unfold Fa Nr; omega
def mW(n:Nat){a b c:I2}(ha:Nr a)(hb:Nr b)(hc:Nr c):uf n a.1 a.2 b.1 b.2 c.1 c.2=some (sg (ti a b c)):=by
 unfold Nr at ha hb hc;have m1:=eQ (B:=2000000) (C:=2000000) (u:=b.1-a.1) (v:=c.2-a.2) (by decide) (by omega) (by omega) (by omega) (by omega)
 have m2:=eQ (B:=2000000) (C:=2000000) (u:=b.2-a.2) (v:=c.1-a.1) (by decide) (by omega) (by omega) (by omega) (by omega)
 unfold uf;rw[aB (x:=b.1-a.1) (by omega) (by omega),aB (x:=c.2-a.2) (by omega) (by omega),aB (x:=b.2-a.2) (by omega) (by omega),aB (x:=c.1-a.1) (by omega) (by omega),
  aB (by omega) (by omega),aB (by omega) (by omega),ah,ah,vO,ah]
 rfl
def iI{z:Int}:sg z=0↔z=0:=by unfold sg; split<;>(try split)<;>omega
def tM{z:Int}:sg z<0↔z<0:=by unfold sg; split<;>(try split)<;>omega
def jr{z:Int}:0<sg z↔0<z:=by unfold sg; split<;>(try split)<;>omega
def j7(z:Int):sg z = -1\/sg z=0\/sg z=1:=by unfold sg; split<;>(try split)<;>simp
def JD(n:Nat)(r s:Int)(hn:2<n):Hs n [r,s]=some (if r≠0 then r else s):=by
 obtain⟨n,rfl⟩:∃n',n=n'+3:=⟨n-3,by omega⟩
 have L0:mw (n+3) [r,s] 0=if r≠0 then some (.inr (.inl r)) else some (.inl 1):=by
  unfold mw;rw[au (by simp),show bw 0 [r,s].length=true from rfl,aJ]
  show ob (some r) _=_
  rw[ah]
  by_cases h:r=0
  rw[Sd h,SM,ek,R6 (by simpa using h)]; rfl
  rw[Se h,SL,eT,R7 h]
 have L1:mw (n+3) [r,s] 1=if s≠0 then some (.inr (.inl s)) else some (.inl 2):=by
  unfold mw;rw[au (by simp),show bw 1 [r,s].length=true from rfl,aJ]
  show ob (some s) _=_
  rw[ah]
  by_cases h:s=0
  rw[Sd h,SM,ek,R6 (by simpa using h)]; rfl
  rw[Se h,SL,eT,R7 h]
 have L2:mw (n+3) [r,s] 2=some (.inr (.inr ())):=by
  unfold mw;rw[aq (by simp)]
 unfold Hs
 by_cases h:r=0
 rw[R6 (by simpa using h)] at L0 ⊢
 rw[eO L0]
 by_cases g:s=0
 rw[R6 (by simpa using g)] at L1
 rw[eO L1,eE L2,ah,g]
 rw[R7 g] at L1;rw[eE L1,ah]
 rw[R7 h] at L0 ⊢;rw[eE L0,ah]
def Qo(a b:I2):Int:=if sg (a.1-b.1)≠0 then sg (a.1-b.1) else sg (a.2-b.2)
def xn(n:Nat)(a b:I2)(hn:2<n):xf n a.1 a.2 b.1 b.2=some (Qo a b):=by
 unfold xf;rw[vO,ah,vO,ah,JD n _ _ hn,ah]; rfl
def vR{a b:I2}:Qo a b<=0↔Lx a b:=by
 unfold Qo Lx;have h1:=iI (z:=a.1-b.1);have h2:=jr (z:=a.1-b.1);have h3:=jr (z:=a.2-b.2)
 split<;>omega
def CT(n:Nat)(e:Int){a b p:I2}(ha:Nr a)(hb:Nr b)(hp:Nr p)(hab:a≠b)(hn:2<n):Dh n e a.1 a.2 b.1 b.2 p.1 p.2=some (decide (cF a b p)):=by
 unfold Dh;rw[mW n ha hb hp,ah]
 by_cases h0:ti a b p=0
 rw[Sd (iI.2 h0),SM,ek,xn n a b hn,ah];have key:∀{u v:I2},u≠v->Lx u v->ti u v p=0->(ob (xf n u.1 u.2 p.1 p.2) fun r28=>br (decide (r28<=0)) (ob (xf n p.1 p.2 v.1 v.2) fun r31=>some (decide (r31<=0))) (some false))=some (decide (cF u v p)):=fun{u v} huv hl ht=>by
  rw[xn n u p hn,ah,xn n p v hn,ah,cU,<-SI]
  congr 1
  rw[decide_eq_decide,N1 huv hl,vR,vR];exact⟨fun h=>⟨ht,h⟩,fun h=>h.2⟩
 by_cases hl:0<Qo a b
 rw[au hl,ah];have hl':Lx b a:=by
  have:¬Lx a b:=fun h=>by have:=vR.2 h; omega
  unfold Lx at this ⊢; omega
 have:=key hab.symm hl' (by rw[iG,h0]; rfl)
 dsimp only
 rw[this]
 congr 1
 rw[decide_eq_decide]; exact Ak
 rw[aq hl,ah];exact key hab (vR.1 (by omega)) h0
 rw[Se (fun h=>h0 (iI.1 h)),SL,eT,Se fun h=>h0 h.1]
def tq{α β:Type}[DecidableEq α](k:α):∀(xs:List (α×β)) (i:Nat),(dh k xs i=none/\k∉xs.map Prod.fst)\/∃j v,dh k xs i=some (i+j,v)/\(xs[j]?).map Prod.fst=some k
 | [],_=>.inl ⟨rfl,by simp⟩
 | e::es,i=>by
  unfold dh
  by_cases h:k=e.1
  rw[R7 h]; exact .inr ⟨0,e.2,rfl,by rw[h]; rfl⟩
  rw[R6 h];rcases tq k es (i+1) with⟨h1,h2⟩|⟨j,v,h1,h2⟩
  exact .inl ⟨h1,fun g=>by
   rw[Tt,Sx] at g;exact g.elim h h2⟩
  exact .inr ⟨j+1,v,by rw[h1,show i+1+j=i+(j+1) by omega],h2⟩
def Em{α β:Type}[DecidableEq α](xs:List (α×β))(k:α)(v:β):(jP xs k v).map Prod.fst=if k∈xs.map Prod.fst then xs.map Prod.fst else xs.map Prod.fst++[k]:=by
 unfold jP;rcases tq k xs 0 with⟨h1,h2⟩|⟨j,w,h1,h2⟩
 rw[h1,R6 h2]; simp
 rw[h1,SD];have hj:j<xs.length:=by
  refine R8 fun hc=>?_;rw[SU (by omega)] at h2; cases h2
 have e:(xs.map Prod.fst)[j]? = some k:=by rw[SX]; exact h2
 rw[R7 (Sf e),List.map_set];refine S9 fun t=>?_;rw[List.getElem?_set]
 by_cases ht:j=t
 subst ht;rw[R7 rfl,R7 (by rw[Sz]; exact hj),e]
 rw[R6 ht]
def xM(a b c d:I2)(l:List (I2×Bool))(x:I2):List (I2×Bool):=if cF a b x/\cF c d x then jP l x true else l
def zJ{a b c d:I2}:∀(xs:List I2) (l:List (I2×Bool)),(l.map Prod.fst).Nodup->((xs.foldl (xM a b c d) l).map Prod.fst).Nodup/\∀q,q ∈(xs.foldl (xM a b c d) l).map Prod.fst↔q∈l.map Prod.fst\/(q∈xs/\cF a b q/\cF c d q)
 | [],l,hn=>⟨hn,fun q=>by simp⟩
 | x::xs,l,hn=>by
  rw[List.foldl_cons];have key:((xM a b c d l x).map Prod.fst).Nodup/\∀q,q ∈(xM a b c d l x).map Prod.fst↔q∈l.map Prod.fst\/(q=x/\cF a b q/\cF c d q):=by
   unfold xM
   by_cases h:cF a b x/\cF c d x
   rw[R7 h,Em]
   by_cases g:x∈l.map Prod.fst
   rw[R7 g];exact⟨hn,fun q=>⟨.inl,fun e=>e.elim id fun e=>e.1▸g⟩⟩
   rw[R6 g];refine⟨List.nodup_append.2 ⟨hn,by simp,fun u hu v hv=>?_⟩,fun q=>?_⟩
   rw[Sp] at hv;intro e; rw[e,hv] at hu; exact g hu
   rw[Su,Sp];exact⟨fun e=>e.elim .inl fun e=>.inr ⟨e,e▸h⟩,fun e=>e.elim .inl fun e=>.inr e.1⟩
   rw[R6 h];exact⟨hn,fun q=>⟨.inl,fun e=>e.elim id fun⟨e,g⟩=>Ss (e▸g) h⟩⟩
  obtain⟨k1,k2⟩:=key;obtain⟨r1,r2⟩:=zJ xs _ k1;refine⟨r1,fun q=>?_⟩;rw[r2,k2,Sx];constructor
  rintro((h|⟨rfl,h⟩) |⟨h,g⟩)
  exact .inl h
  exact .inr ⟨.inl rfl,h⟩
  exact .inr ⟨.inr h,g⟩
  rintro(h|⟨rfl|h,g⟩)
  exact .inl (.inl h)
  exact .inl (.inr ⟨rfl,g⟩)
  exact .inr ⟨h,g⟩
def rG(n:Nat)(e f:Int){a b c d x:I2}(ha:Nr a)(hb:Nr b)(hc:Nr c)(hd:Nr d)(hx:Nr x)(hab:a≠b)(hcd:c≠d)(hn:2<n)(l:List (I2×Bool)){i:Nat}(hi:i<4)(he:[a,b,c,d][i]? = some x) :
  lQ n a.1 a.2 b.1 b.2 c.1 c.2 d.1 d.2 e f (l,(i:Int))=some (.inl (xM a b c d l x,((i+1:Nat):Int))):=by
 unfold lQ
 dsimp only
 rw[Vj,al hi,aJ,Sv]
 have:[(a.1,a.2),(b.1,b.2),(c.1,c.2),(d.1,d.2)][i]? = some (x.1,x.2):=he;rw[this,ah]
 dsimp only
 rw[CT n e ha hb hx hab hn,ah,CT n f hc hd hx hcd hn,ah,cU,ah,Vm]
 unfold xM
 by_cases h:cF a b x/\cF c d x
 rw[Sd h.1,Sd h.2,R7 h]; rfl
 rw[R6 h,<-SI,Se h]; rfl
def B3(n:Nat)(e f:Int){a b c d:I2}(ha:Nr a)(hb:Nr b)(hc:Nr c)(hd:Nr d)(hab:a≠b)(hcd:c≠d)(hn:5<n):Dd n e a.1 a.2 b.1 b.2 f c.1 c.2 d.1 d.2=some (uv a b c d):=by
 classical
 unfold Dd;rw[mW n ha hb hc,ah,mW n ha hb hd,ah,mW n hc hd ha,ah,mW n hc hd hb,ah];have L:bh (lQ n a.1 a.2 b.1 b.2 c.1 c.2 d.1 d.2 e f) n ([],0)=some ([a,b,c,d].foldl (xM a b c d) []):=by
  obtain⟨m,hm⟩:∃m,n=m+5:=⟨n-5,by omega⟩
  have L5:∀l,lQ n a.1 a.2 b.1 b.2 c.1 c.2 d.1 d.2 e f (l,((4:Nat):Int))=some (.inr l):=fun l=>by
   unfold lQ
   dsimp only
   rw[aq (by decide)]
  have h0:=rG n e f ha hb hc hd ha hab hcd (by omega) [] (i:=0) (by decide) rfl
  have h1:=rG n e f ha hb hc hd hb hab hcd (by omega) (xM a b c d [] a) (i:=1) (by decide) rfl
  have h2:=rG n e f ha hb hc hd hc hab hcd (by omega) (xM a b c d (xM a b c d [] a) b) (i:=2) (by decide) rfl
  have h3:=rG n e f ha hb hc hd hd hab hcd (by omega) (xM a b c d (xM a b c d (xM a b c d [] a) b) c) (i:=3) (by decide) rfl
  have:∀body:(List (I2×Bool)×Int)->Option ((List (I2×Bool)×Int)⊕List (I2×Bool)),body=lQ n a.1 a.2 b.1 b.2 c.1 c.2 d.1 d.2 e f->bh body n ([],0)=some ([a,b,c,d].foldl (xM a b c d) []):=fun body hbd=>by
   rw[<-hbd] at h0 h1 h2 h3 L5;rw[hm,show(0:Int)=((0:Nat):Int) from rfl,eO h0,eO h1,eO h2,eO h3,eE (L5 _)]
   rfl
  exact this _ rfl
 obtain⟨k1,k2⟩:=zJ (a:=a) (b:=b) (c:=c) (d:=d) [a,b,c,d] [] (by simp)
 have hlen:([a,b,c,d].foldl (xM a b c d) []).length=(([a,b,c,d].foldl (xM a b c d) []).map Prod.fst).length:=by rw[Sz]
 rw[L,ah];generalize [a,b,c,d].foldl (xM a b c d) []=l at *;have kc:∀q,q∈l.map Prod.fst↔ml a b c d q:=fun q=>by
  rw[k2];unfold ml;constructor
  rintro(h|⟨h,g⟩)
  simp at h
  exact⟨by simpa only[Sx,List.not_mem_nil,or_false] using h,g⟩
  rintro⟨h,g⟩;exact .inr ⟨by simpa only[Sx,List.not_mem_nil,or_false] using h,g⟩
 rw[ah,ah,hlen];generalize l.map Prod.fst=ks at *;unfold uv
 by_cases h2:∃x y,ml a b c d x/\ml a b c d y/\x≠y
 obtain⟨x,y,hx,hy,hne⟩:=h2;have:=uQ (l:=[x,y]) (m:=ks) (by simp[hne]) fun q hq=>by
  simp only[Sx,List.not_mem_nil,or_false] at hq;rcases hq with rfl|rfl
  exact(kc _).2 hx
  exact(kc _).2 hy
 have hl:2<=ks.length:=this;rw[Vj,R7 ⟨x,y,hx,hy,hne⟩]
 ·have hl1:ks.length<=1:=by
   match ks,k1,kc with
   | [],_,_=>exact Th _
   | [_],_,_=>exact Sc _
   | x::y::t,k1,kc =>
    refine Ss ⟨x,y,(kc x).1 (by simp),(kc y).1 (by simp),?_⟩ h2
    intro e; subst e; simp at k1
  rw[R6 h2,Vl]
  by_cases h1:∃x,ml a b c d x
  obtain⟨x,hx⟩:=h1;have:0<ks.length:=List.length_pos_of_mem ((kc x).2 hx);rw[R7 ⟨x,hx⟩,Vj]
  ·have:ks.length=0:=by
    match ks,kc with
    | [],_=>rfl
    | x::t,kc=>exact Ss ⟨x,(kc x).1 (by simp)⟩ h1
   rw[R6 h1,Vl]
   have w:∀u v:Int,UD (sg u*sg v)=sg u*sg v:=fun u v=>by
    have h1:=j7 u;have h2:=j7 v;rcases h1 with h1|h1|h1<;>rcases h2 with h2|h2|h2<;>rw[h1,h2]<;>decide
   have s:∀u v:Int,sg u*sg v<0↔(0<u/\v<0)\/(u<0/\0<v):=fun u v=>by
    have a1:=tM (z:=u);have a2:=jr (z:=u);have b1:=tM (z:=v);have b2:=jr (z:=v);have h1:=j7 u;have h2:=j7 v;rcases h1 with h1|h1|h1<;>rcases h2 with h2|h2|h2<;>rw[h1] at a1 a2 ⊢<;>rw[h2] at b1 b2 ⊢<;>omega
   rw[w,w,cU,ah,Gs]
   by_cases hx:xQ a b c d
   rw[R7 hx,R7];unfold xQ at hx;rw[Sa,Sn,Sn,s,s];exact hx
   rw[R6 hx,R6];rw[Sa,Sn,Sn,s,s];exact hx
def Kc(n:Nat){a b c d:I2}(ha:pd a.1/\pd a.2)(hb:pd b.1/\pd b.2)(hc:pd c.1/\pd c.2)(hd:pd d.1/\pd d.2)(hn:5<n) :
  EV n a.1 a.2 b.1 b.2 c.1 c.2 d.1 d.2=some (if Fa a\/Fa b\/Fa c\/Fa d\/a=b\/c=d then(0,2) else(uv a b c d,0)):=by
 classical
 unfold EV;rw[pG n ha.1 ha.2,pG n hb.1 hb.2,pG n hc.1 hc.2,pG n hd.1 hd.2,ah,ah,ah,ah,kl,kl,kl,kl,kl,ah];have e1:(decide (a.1=b.1)&&decide (a.2=b.2))=decide (a=b):=by
  rw[<-SI,decide_eq_decide]; exact⟨fun h=>S5 h.1 h.2,fun h=>by subst h; exact⟨rfl,rfl⟩⟩
 have e2:(decide (c.1=d.1)&&decide (c.2=d.2))=decide (c=d):=by
  rw[<-SI,decide_eq_decide]; exact⟨fun h=>S5 h.1 h.2,fun h=>by subst h; exact⟨rfl,rfl⟩⟩
 rw[e1,e2,Gs];have hd:(decide (Fa (a.1,a.2)) ||(decide (Fa (b.1,b.2)) ||(decide (Fa (c.1,c.2)) ||(decide (Fa (d.1,d.2)) ||(decide (a=b)||decide (c=d))))))=decide (Fa a\/Fa b\/Fa c\/Fa d\/a=b\/c=d):=by
  simp only[Ua]
 rw[hd]
 by_cases h:Fa a\/Fa b\/Fa c\/Fa d\/a=b\/c=d
 rw[R7 (Sd h),R7 h]
 rw[R6 (by simpa using h),R6 h]
 simp only[not_or] at h;obtain⟨h1,h2,h3,h4,h5,h6⟩:=h;rw[B3 n 0 0 (vt.1 h1) (vt.1 h2) (vt.1 h3) (vt.1 h4) h5 h6 hn,ah]
end
section
open Go Go.Ab Go.Ab.W Go.Ab.B Jd
def bt{ρ:Type}(f:Nat->Option ρ)(e:ρ):Nat->Nat->ρ
 | 0,_=>e
 | k+1,i=>match f i with
  | some r=>r
  | none=>bt f e k (i+1)
def aY{ρ:Type}{B:Int->Option (Int⊕ρ)}{f:Nat->Option ρ}{e:ρ}{len:Nat}(hB:∀i:Nat,i<len->B (i:Int)=some (match f i with|some r=>.inr r|none=>.inl ((i+1:Nat):Int)))(hE:B (len:Int)=some (.inr e)) :
  ∀(k i n:Nat),i+k=len->k<n->bh B n (i:Int)=some (bt f e k i)
 | 0,i,n+1,h,_=>by
  rw[Tn] at h; subst h;simp only[bh,hE,bt]
 | k+1,i,n+1,h,hn=>by
  have:=hB i (by omega)
  simp only[bh,this,bt];cases hf:f i with
  | some r=>rfl
  | none=>exact aY hB hE k (i+1) n (by omega) (by omega)
def bW{ρ:Type}{f:Nat->Option ρ}{e:ρ}:∀(k i:Nat),((∀j,i<=j->j<i+k->f j=none)/\bt f e k i=e)\/∃j,i<=j/\j<i+k/\f j=some (bt f e k i)
 | 0,i=>.inl ⟨fun j h1 h2=>by omega,rfl⟩
 | k+1,i=>by
  cases hf:f i with
  | some r=>exact .inr ⟨i,by omega,by omega,by simp only[bt,hf]⟩
  | none =>
   have e1:bt f e (k+1) i=bt f e k (i+1):=by simp only[bt,hf]
   rw[e1];rcases bW (f:=f) (e:=e) k (i+1) with⟨h1,h2⟩|⟨j,h1,h2,h3⟩
   refine .inl ⟨fun j a b=>?_,h2⟩
   by_cases e:j=i
   rw[e]; exact hf
   exact h1 j (by omega) (by omega)
   exact .inr ⟨j,by omega,by omega,h3⟩
def eR{l:List I2}{i:Nat}(h:i<l.length):l[((i:Nat):Int).toNat]? = some ((nx l i).1,(nx l i).2):=by
 rw[Sv,R5 h];unfold nx;rw[TL h,Sb,R5 h]; rfl
def jn(m n:Nat):Int.tmod (m:Int) (n:Int)=((m%n:Nat):Int):=rfl
def u9{l:List I2}{i:Nat}:nx l (i%l.length)=nx l i:=by unfold nx; rw[Nat.mod_mod]
def AP(n:Nat)(p:I2):NV n p.1 p.2=some (decide (Fa p)):=by
 unfold NV Fa;rw[kl,kl,kl,<-Ua,<-Ua,<-Ua]
def nq(n:Nat){l:List I2}(i:Nat)(h:l≠[]):uE n l (i:Int)=some ((nx l i).1,(nx l i).2):=by
 have hl:0<l.length:=List.length_pos_iff.2 h;have hm:i%l.length<l.length:=S6 _ hl;unfold uE;rw[Sd (show((l.length:Nat):Int)≠0 by omega),aJ,jn,al hm,aJ,eR hm,ah,u9]
def nv(n:Nat){a b c:I2}(ha:Nr a)(hb:Nr b)(hc:Nr c):qn n a.1 a.2 b.1 b.2 c.1 c.2=some (ti a b c):=by
 unfold Nr at ha hb hc;have m1:=eQ (B:=2000000) (C:=2000000) (u:=b.1-a.1) (v:=c.2-a.2) (by decide) (by omega) (by omega) (by omega) (by omega)
 have m2:=eQ (B:=2000000) (C:=2000000) (u:=b.2-a.2) (v:=c.1-a.1) (by decide) (by omega) (by omega) (by omega) (by omega)
 unfold qn;rw[aB (x:=b.1-a.1) (by omega) (by omega),aB (x:=c.2-a.2) (by omega) (by omega),aB (x:=b.2-a.2) (by omega) (by omega),aB (x:=c.1-a.1) (by omega) (by omega),
  aB (by omega) (by omega),aB (by omega) (by omega),ah,ah,aB (by omega) (by omega)]
 rfl
def PG{a b c:I2}(ha:Nr a)(hb:Nr b)(hc:Nr c):UD (UD ((UD (b.1-a.1))*(UD (c.1-b.1)))+UD ((UD (b.2-a.2))*(UD (c.2-b.2))))=di a b c:=by
 unfold Nr at ha hb hc;have m1:=eQ (B:=2000000) (C:=2000000) (u:=b.1-a.1) (v:=c.1-b.1) (by decide) (by omega) (by omega) (by omega) (by omega)
 have m2:=eQ (B:=2000000) (C:=2000000) (u:=b.2-a.2) (v:=c.2-b.2) (by decide) (by omega) (by omega) (by omega) (by omega)
 rw[aB (x:=b.1-a.1) (by omega) (by omega),aB (x:=c.1-b.1) (by omega) (by omega),aB (x:=b.2-a.2) (by omega) (by omega),aB (x:=c.2-b.2) (by omega) (by omega),
  aB (x:=(b.1-a.1)*(c.1-b.1)) (by omega) (by omega),aB (x:=(b.2-a.2)*(c.2-b.2)) (by omega) (by omega),aB (by omega) (by omega)]
 rfl
def Ke(n:Nat){a b c:I2}(ha:Nr a)(hb:Nr b)(hc:Nr c):Gb n a.1 a.2 b.1 b.2 c.1 c.2=some (di a b c):=by
 unfold Gb;rw[ah,ah,PG ha hb hc]
def ry(n:Nat)(z:Int):zD n z=some (sg z):=by
 unfold zD sg
 by_cases h:0<z
 rw[au h,UF,R7 h]
 rw[aq h,R6 h]
 by_cases g:z<0
 rw[au g,R7 g]
 rw[aq g,R6 g]
def ri(n:Nat){a b p:I2}(ha:Nr a)(hb:Nr b)(hp:Nr p):sA n a.1 a.2 b.1 b.2 p.1 p.2=some (decide (cF a b p)):=by
 unfold sA;rw[nv n ha hb hp,ah]
 by_cases h:ti a b p=0
 rw[Sd h,SM,ek,cU,cU,cU,gH,gH,gA,gA,<-SI,<-SI,<-SI]
 congr 1
 rw[decide_eq_decide];unfold cF;exact⟨fun g=>⟨h,g⟩,fun g=>g.2⟩
 rw[Se h,SL,eT,Se fun g=>h g.1]
def Le{a b c d:I2}(ha:Nr a)(hb:Nr b)(hc:Nr c)(hd:Nr d) :
  UD ((ma (mi a.1 b.1) (mi c.1 d.1))-(mi (ma a.1 b.1) (ma c.1 d.1)))=max (min a.1 b.1) (min c.1 d.1)-min (max a.1 b.1) (max c.1 d.1) /\
  UD ((ma (mi a.2 b.2) (mi c.2 d.2))-(mi (ma a.2 b.2) (ma c.2 d.2)))=max (min a.2 b.2) (min c.2 d.2)-min (max a.2 b.2) (max c.2 d.2):=by
 unfold Nr at ha hb hc hd;simp only[gH,gA];exact⟨aB (by omega) (by omega),aB (by omega) (by omega)⟩
def Cs(x y:Int):UD (sg x*sg y)=sg x*sg y:=by
 rcases j7 x with h|h|h<;>rcases j7 y with g|g|g<;>rw[h,g]<;>decide
def wF(x y:Int):sg x*sg y<0↔(0<x/\y<0)\/(x<0/\0<y):=by
 unfold sg
 split<;>split<;>(try split)<;>(try split)<;>omega
def Ct(n:Nat){a b c d:I2}(ha:Nr a)(hb:Nr b)(hc:Nr c)(hd:Nr d)(hab:a≠b)(hcd:c≠d):DT n a.1 a.2 b.1 b.2 c.1 c.2 d.1 d.2=some (uv a b c d):=by
 classical
 rw[Ky hab hcd];unfold DT;rw[nv n ha hb hc,ah,ry,ah,nv n ha hb hd,ah,ry,ah,nv n hc hd ha,ah,ry,ah,nv n hc hd hb,ah,ry,ah,cU,ah,<-SI];rw[(Le ha hb hc hd).1,(Le ha hb hc hd).2]
 by_cases h:IJ a b c d
 have h':sg (ti a b c)=0/\sg (ti a b d)=0:=⟨iI.2 h.1,iI.2 h.2⟩;rw[au h',R7 h];have hl:(ob (some (max (min a.1 b.1) (min c.1 d.1)-min (max a.1 b.1) (max c.1 d.1))) fun y54=>ob (br (decide (a.1=b.1)) (ob (some (max (min a.2 b.2) (min c.2 d.2)-min (max a.2 b.2) (max c.2 d.2))) fun y61=>some y61) (some y54)) fun v59=>br (decide (0<v59)) (some (0:Int)) (br (decide (v59=0)) (some 1) (some 3)))
   = br (decide (0<low a b c d)) (some 0) (br (decide (low a b c d=0)) (some 1) (some 3)):=by
  unfold low
  by_cases e:a.1=b.1
  rw[ah,au e,ah,ah,R7 e]
  rw[ah,aq e,ah,R6 e]
 rw[hl]
 by_cases g:0<low a b c d
 rw[au g,R7 g]
 rw[aq g,R6 g]
 by_cases k:low a b c d=0
 rw[au k,R7 k]
 rw[aq k,R6 k]
 have h':¬(sg (ti a b c)=0/\sg (ti a b d)=0):=fun g=>h ⟨iI.1 g.1,iI.1 g.2⟩;rw[aq h',R6 h,Cs,Cs,cU,ah,<-SI]
 by_cases g:xQ a b c d
 have g':sg (ti a b c)*sg (ti a b d)<0/\sg (ti c d a)*sg (ti c d b)<0:=⟨(wF _ _).2 g.1,(wF _ _).2 g.2⟩;rw[au g',R7 g]
 have g':¬(sg (ti a b c)*sg (ti a b d)<0/\sg (ti c d a)*sg (ti c d b)<0):=fun k=>g ⟨(wF _ _).1 k.1,(wF _ _).1 k.2⟩;rw[aq g',R6 g,ri n ha hb hc,ri n ha hb hd,ri n hc hd ha,ri n hc hd hb];simp only[ah,kl,<-Ua]
 by_cases k:cF a b c\/cF a b d\/cF c d a\/cF c d b
 rw[au k,R7 k]
 rw[aq k,R6 k]
end
section
open Go Go.Ab Go.Ab.W Go.Ab.B Jd
def jD(l:List I2)(i:Nat):Option (Int⊕Unit):=if Fa (nx l i) then some (.inl (i:Int)) else none
def gB(l:List I2)(i:Nat):Option (Int⊕Unit):=if nx l i=nx l (i+1) then some (.inl (i:Int)) else none
def iC(l:List I2)(i:Nat):Option (Int⊕Unit):=if ti (nx l (i+l.length-1)) (nx l i) (nx l (i+1))=0/\di (nx l (i+l.length-1)) (nx l i) (nx l (i+1))<0 then some (.inl (i:Int)) else none
def uk(l:List I2)(i j:Nat):Prop:=¬(j=0/\i=l.length-1)/\uv (nx l j) (nx l (j+1)) (nx l i) (nx l (i+1))≠0
open Classical in
noncomputable def iu (l:List I2) (i:Nat):Option (Int⊕Unit):=if ∃j,j+1<i/\uk l i j then some (.inl (i:Int)) else none
noncomputable def oV (l:List I2):Int×Int :=
 if l.length<3\/40<l.length then(1,0) else
 match bt (jD l) (.inr ()) l.length 0 with
 | .inl v=>(2,v)
 | .inr _=>match bt (gB l) (.inr ()) l.length 0 with
  | .inl v=>(3,v)
  | .inr _=>match bt (iC l) (.inr ()) l.length 0 with
   | .inl v=>(4,v)
   | .inr _=>match bt (iu l) (.inr ()) l.length 0 with
    | .inl v=>(5,v)
    | .inr _=>(0,0)
section
variable{l:List I2}(n:Nat)
def rZ(p q:I2):(decide (p.1=q.1)&&decide (p.2=q.2))=decide (p=q):=by
 rw[<-SI,decide_eq_decide]; exact⟨fun h=>S5 h.1 h.2,fun h=>by subst h; exact⟨rfl,rfl⟩⟩
def C6(hn:l.length<n)(hl:l.length<100):bh (sy n l) n 0=some (bt (jD l) (.inr ()) l.length 0):=by
 refine aY (len:=l.length) (fun i hi=>?_) ?_ l.length 0 n (by omega) hn
 unfold sy jD
 dsimp only
 rw[Vj,al hi,aJ,eR hi,ah]
 dsimp only
 rw[AP,ah,Vm]
 by_cases h:Fa (nx l i)
 rw[au h,R7 h]
 rw[aq h,R6 h]
 unfold sy
 dsimp only
 rw[Vl]
def Dw(h64:∀i,pd (nx l i).1/\pd (nx l i).2)(hn:l.length<n)(hl:l.length<100):bh (tl n l) n 0=some (bt (jD l) (.inr ()) l.length 0):=by
 refine aY (len:=l.length) (fun i hi=>?_) ?_ l.length 0 n (by omega) hn
 unfold tl jD
 dsimp only
 rw[Vj,al hi,aJ,eR hi,ah]
 dsimp only
 rw[pG n (h64 i).1 (h64 i).2,ah,Vm]
 by_cases h:Fa (nx l i)
 rw[au (show Fa ((nx l i).1,(nx l i).2) from h),R7 h]
 rw[aq (show ¬Fa ((nx l i).1,(nx l i).2) from h),R6 h]
 unfold tl
 dsimp only
 rw[Vl]
def Eb(hn:l.length<n)(hl:l.length<100):bh (sX n l) n 0=some (bt (gB l) (.inr ()) l.length 0):=by
 refine aY (len:=l.length) (fun i hi=>?_) ?_ l.length 0 n (by omega) hn
 have hne:l≠[]:=by rintro rfl; cases hi
 unfold sX gB
 dsimp only
 rw[Vj,al hi,aJ,eR hi,ah]
 dsimp only
 rw[Vm,nq n (i+1) hne,ah]
 dsimp only
 rw[rZ]
 by_cases h:nx l i=nx l (i+1)
 rw[au h,R7 h]
 rw[aq h,R6 h]
 unfold sX
 dsimp only
 rw[Vl]
def k6(i:Nat)(hi:i<l.length)(hl:l.length<100){β:Type}(K:Int×Int->Option β) :
  gd (decide ((l.length:Int)≠0)) (gd (bw (Int.tmod ((i+1:Nat):Int) (l.length:Int)) l.length) (ob (l[(Int.tmod ((i+1:Nat):Int) (l.length:Int)).toNat]?) K))=K ((nx l (i+1)).1,(nx l (i+1)).2):=by
 have hm:(i+1)%l.length<l.length:=S6 _ (by omega)
 rw[Sd (show((l.length:Nat):Int)≠0 by omega),aJ,jn,al hm,aJ,eR hm,ah,u9]
def Eg(hn:l.length<n)(hl:l.length<100):bh (tG n l) n 0=some (bt (gB l) (.inr ()) l.length 0):=by
 refine aY (len:=l.length) (fun i hi=>?_) ?_ l.length 0 n (by omega) hn
 unfold tG gB
 dsimp only
 rw[Vj,al hi,aJ,eR hi,ah]
 dsimp only
 rw[Vm,k6 i hi hl]
 dsimp only
 rw[rZ]
 by_cases h:nx l i=nx l (i+1)
 rw[au h,R7 h]; rfl
 rw[aq h,R6 h]; rfl
 unfold tG
 dsimp only
 rw[Vl]
def Eu(hnr:∀i,Nr (nx l i))(hn:l.length<n)(hl:l.length<100):bh (tK n l) n 0=some (bt (iC l) (.inr ()) l.length 0):=by
 refine aY (len:=l.length) (fun i hi=>?_) ?_ l.length 0 n (by omega) hn
 have hne:l≠[]:=by rintro rfl; cases hi
 have e1:UD ((UD ((i:Int)+(l.length:Int)))-1)=((i+l.length-1:Nat):Int):=by
  rw[aB (x:=(i:Int)+(l.length:Int)) (by omega) (by omega),aB (by omega) (by omega)]; omega
 unfold tK iC
 dsimp only
 rw[Vj,e1,nq n _ hne,ah]
 dsimp only
 rw[al hi,aJ,eR hi,ah]
 dsimp only
 rw[Vm,nq n (i+1) hne,ah]
 dsimp only
 rw[nv n (hnr _) (hnr _) (hnr _),ah,Ke n (hnr _) (hnr _) (hnr _),ah,cU,ah,<-SI]
 by_cases h:ti (nx l (i+l.length-1)) (nx l i) (nx l (i+1))=0/\di (nx l (i+l.length-1)) (nx l i) (nx l (i+1))<0
 rw[au h,R7 h]
 rw[aq h,R6 h]
 unfold tK
 dsimp only
 rw[Vl]
def Eh(hnr:∀i,Nr (nx l i))(hn:l.length<n)(hl:l.length<100):bh (tS n l) n 0=some (bt (iC l) (.inr ()) l.length 0):=by
 refine aY (len:=l.length) (fun i hi=>?_) ?_ l.length 0 n (by omega) hn
 have hm:(i+l.length-1)%l.length<l.length:=S6 _ (by omega)
 have e1:UD ((UD ((i:Int)+(l.length:Int)))-1)=((i+l.length-1:Nat):Int):=by
  rw[aB (x:=(i:Int)+(l.length:Int)) (by omega) (by omega),aB (by omega) (by omega)]; omega
 unfold tS iC
 dsimp only
 rw[Vj,al hi,aJ,eR hi,ah]
 dsimp only
 rw[Vm,k6 i hi hl]
 dsimp only
 rw[e1,Sd (show((l.length:Nat):Int)≠0 by omega),aJ,jn,ah,al hm,aJ,eR hm,u9,ah]
 dsimp only
 rw[mW n (hnr _) (hnr _) (hnr _),ah,ah,ah,PG (hnr _) (hnr _) (hnr _),cU,ah,<-SI]
 by_cases h:ti (nx l (i+l.length-1)) (nx l i) (nx l (i+1))=0/\di (nx l (i+l.length-1)) (nx l i) (nx l (i+1))<0
 rw[au (show _/\_ from⟨iI.2 h.1,h.2⟩),R7 h]; rfl
 rw[aq (fun g=>h ⟨iI.1 g.1,g.2⟩),R6 h]; rfl
 unfold tS
 dsimp only
 rw[Vl]
end
end
section
open Go Go.Ab Go.Ab.W Go.Ab.B Jd
section
variable{l:List I2}(n:Nat)
open Classical in
noncomputable def DG {ρ:Type} (l:List I2) (r:ρ) (i j:Nat):Option ρ:=if uk l i j then some r else none
def FM{ρ:Type}{r e:ρ}(hre:r≠e){i:Nat}:(bt (DG l r i) e (i-1) 0=r/\∃j,j+1<i/\uk l i j)\/(bt (DG l r i) e (i-1) 0=e/\¬∃j,j+1<i/\uk l i j):=by
 classical
 rcases bW (f:=DG l r i) (e:=e) (i-1) 0 with⟨h1,h2⟩|⟨j,_,h2,h3⟩
 refine .inr ⟨h2,?_⟩;rintro⟨j,hj,hh⟩;have:=h1 j (by omega) (by omega)
 unfold DG at this;rw[R7 hh] at this;cases this
 unfold DG at h3
 split at h3
 rename_i hh;exact .inl ⟨(R9 h3).symm,j,by omega,hh⟩
 cases h3
def Dl(hnr:∀i,Nr (nx l i))(hst:∀i,nx l i≠nx l (i+1)){i:Nat}(hi:i<l.length)(hn:l.length<n)(hl:l.length<100):bh (sj n (i:Int) l) n 0=some (bt (DG l (.inl ()) i) (.inr ()) (i-1) 0):=by
 classical
 have hne:l≠[]:=by rintro rfl; cases hi
 refine aY (len:=i-1) (fun j hj=>?_) ?_ (i-1) 0 n (by omega) (by omega)
 have e1:UD ((l.length:Int)-1)=(l.length:Int)-1:=aB (by omega) (by omega)
 unfold sj DG
 dsimp only
 rw[Vm,Vj,cU,ah,e1,<-SI]
 by_cases h:(j:Int)=0/\(i:Int)=(l.length:Int)-1
 rw[au h,ah,R6 (fun g:uk l i j=>g.1 ⟨by omega,by omega⟩)]
 rw[aq h,al (by omega),aJ,eR (by omega),ah]
 dsimp only
 rw[al (by omega),aJ,eR (by omega),ah]
 dsimp only
 rw[al hi,aJ,eR hi,ah]
 dsimp only
 rw[Vm,nq n (i+1) hne,ah]
 dsimp only
 rw[Ct n (hnr _) (hnr _) (hnr _) (hnr _) (hst _) (hst _),ah]
 by_cases g:uv (nx l j) (nx l (j+1)) (nx l i) (nx l (i+1))=0
 rw[Sd g,SM,ek,ah,R6 (fun k:uk l i j=>k.2 g)]
 rw[Se g,SL,eT,ah,R7 (show uk l i j from⟨fun k=>h ⟨by omega,by omega⟩,g⟩)]
 unfold sj
 dsimp only
 rw[Vm,Vl]
def C8(hnr:∀i,Nr (nx l i))(hst:∀i,nx l i≠nx l (i+1)){i:Nat}(hi:i<l.length)(hn:l.length<n)(h5:5<n)(hl:l.length<100) :
  bh (tz n l (i:Int) (nx l i).1 (nx l i).2 (nx l (i+1)).1 (nx l (i+1)).2) n 0=some (bt (DG l (.inr (.inl ())) i) (.inl ()) (i-1) 0):=by
 classical
 have hne:l≠[]:=by rintro rfl; cases hi
 have e0:UD ((i:Int)-1)=(i:Int)-1:=aB (by omega) (by omega)
 refine aY (len:=i-1) (fun j hj=>?_) ?_ (i-1) 0 n (by omega) (by omega)
 ·have e1:UD ((l.length:Int)-1)=(l.length:Int)-1:=aB (by omega) (by omega)
  unfold tz DG
  dsimp only
  rw[Vj,al (by omega),aJ,eR (by omega),ah]
  dsimp only
  rw[Vm,k6 j (by omega) hl]
  try dsimp only
  rw[e0,Vl,cU,ah,e1,<-SI]
  by_cases h:(j:Int)=0/\(i:Int)=(l.length:Int)-1
  rw[au h,ah,R6 (fun g:uk l i j=>g.1 ⟨by omega,by omega⟩)]
  rw[aq h,B3 n _ _ (hnr _) (hnr _) (hnr _) (hnr _) (hst _) (hst _) h5,Ki,ah]
  by_cases g:uv (nx l j) (nx l (j+1)) (nx l i) (nx l (i+1))=0
  rw[Sd g,SM,ek,ah,R6 (fun k:uk l i j=>k.2 g)]
  rw[Se g,SL,eT,ah,R7 (show uk l i j from⟨fun k=>h ⟨by omega,by omega⟩,g⟩)]
 ·unfold tz
  dsimp only
  rw[Vj,al (by omega),aJ,eR (by omega),ah]
  dsimp only
  rw[Vm,k6 (i-1) (by omega) hl]
  try dsimp only
  rw[e0,Vj,ah]
def Dv(hnr:∀i,Nr (nx l i))(hst:∀i,nx l i≠nx l (i+1))(hn:l.length<n)(hl:l.length<100):bh (tX n l) n 0=some (bt (iu l) (.inr ()) l.length 0):=by
 classical
 refine aY (len:=l.length) (fun i hi=>?_) ?_ l.length 0 n (by omega) hn
 ·unfold tX iu
  try dsimp only
  rw[Vj,Dl n hnr hst hi hn hl,ah,Vm]
  rcases FM (l:=l) (r:=(.inl ():Unit⊕Unit)) (e:=.inr ()) (by simp) (i:=i) with⟨h1,h2⟩|⟨h1,h2⟩
  rw[h1,R7 h2]
  rw[h1,R6 h2]
 ·unfold tX
  try dsimp only
  rw[Vl]
def DC(hnr:∀i,Nr (nx l i))(hst:∀i,nx l i≠nx l (i+1))(hn:l.length<n)(h5:5<n)(hl:l.length<100):bh (sR n l) n 0=some (bt (iu l) (.inr ()) l.length 0):=by
 classical
 refine aY (len:=l.length) (fun i hi=>?_) ?_ l.length 0 n (by omega) hn
 unfold sR iu
 dsimp only
 rw[Vj,al hi,aJ,eR hi,ah]
 dsimp only
 rw[Vm,k6 i hi hl]
 dsimp only
 rw[ah,C8 n hnr hst hi hn h5 hl,ah];rcases FM (l:=l) (r:=(.inr (.inl ()):Unit ⊕(Unit⊕Unit))) (e:=.inl ()) (by simp) (i:=i) with⟨h1,h2⟩|⟨h1,h2⟩
 rw[h1,R7 h2]; rfl
 rw[h1,R6 h2]; rfl
 unfold sR
 dsimp only
 rw[Vl]
def jZ{f:Nat->Option (Int⊕Unit)}(hf:∀j r,f j=some r->r≠.inr ()){k:Nat}(h:bt f (.inr ()) k 0=.inr ()):∀j,j<k->f j=none:=by
 rcases bW (f:=f) (e:=.inr ()) k 0 with⟨h1,_⟩|⟨j,_,_,h3⟩
 exact fun j hj=>h1 j (by omega) (by omega)
 rw[h] at h3; exact Ss rfl (hf j _ h3)
def Bh{P:I2->Prop}(hl:0<l.length)(h:∀i,i<l.length->P (nx l i))(i:Nat):P (nx l i):=by
 rw[<-u9]; exact h _ (S6 _ hl)
def qC{i:Nat}:nx l (i%l.length+1)=nx l (i+1):=by unfold nx; rw[Nat.mod_add_mod]
def wS(hl:0<l.length)(h:bt (jD l) (.inr ()) l.length 0=.inr ()):∀i,Nr (nx l i):=by
 refine Bh hl fun i hi=>?_;have:=jZ (fun j r hr=>by unfold jD at hr; split at hr<;>cases hr; simp) h i hi
 unfold jD at this
 split at this
 cases this
 rename_i g; exact vt.1 g
def A3(hl:0<l.length)(h:bt (gB l) (.inr ()) l.length 0=.inr ()):∀i,nx l i≠nx l (i+1):=fun i=>by
 have:=jZ (fun j r hr=>by unfold gB at hr; split at hr<;>cases hr; simp) h (i%l.length) (S6 _ hl)
 unfold gB at this
 split at this
 cases this
 rename_i g;rw[u9,qC] at g;exact g
def Ck(v:Int)(h:bt (jD l) (.inr ()) l.length 0=.inl v):0<=v:=by
 rcases bW (f:=jD l) (e:=.inr ()) l.length 0 with⟨_,h2⟩|⟨j,_,_,h3⟩
 rw[h] at h2; cases h2
 rw[h] at h3;unfold jD at h3
 split at h3
 cases h3; omega
 cases h3
def KN(hn:l.length<n)(h5:41<n):Hv n l=some (oV l):=by
 unfold Hv oV;rw[kl,ah,<-Ua]
 by_cases h:l.length<3\/40<l.length
 rw[Vj,R7 h]
 ·rw[Vl,R6 h,C6 n hn (by omega),ah]
  cases h1:bt (jD l) (.inr ()) l.length 0 with
  | inl v=>rfl
  | inr _ =>
   have hnr:=wS (by omega) h1
   dsimp only
   rw[Eb n hn (by omega),ah]
   cases h2:bt (gB l) (.inr ()) l.length 0 with
   | inl v=>rfl
   | inr _ =>
    have hst:=A3 (by omega) h2
    dsimp only
    rw[Eu n hnr hn (by omega),ah]
    cases h3:bt (iC l) (.inr ()) l.length 0 with
    | inl v=>rfl
    | inr _ =>
     dsimp only
     rw[Dv n hnr hst hn (by omega),ah]
     cases h4:bt (iu l) (.inr ()) l.length 0<;>rfl
def Kn(h64:∀x∈l,pd x.1/\pd x.2)(hn:l.length<n)(h5:41<n):Fu n l=some (oV l):=by
 unfold Fu oV;rw[kl,ah,<-Ua]
 by_cases h:l.length<3\/40<l.length
 rw[Vj,R7 h]
 ·have h64':∀i,pd (nx l i).1/\pd (nx l i).2:=Bh (P:=fun x=>pd x.1/\pd x.2) (by omega) fun i hi=>by
   refine h64 _ ?_;unfold nx;rw[TL hi,Sb,R5 hi];exact SB hi
  rw[Vl,R6 h,Dw n h64' hn (by omega),ah]
  cases h1:bt (jD l) (.inr ()) l.length 0 with
  | inl v =>
   have:=Ck v h1
   dsimp only
   rw[ah,au this]
  | inr _ =>
   have hnr:=wS (by omega) h1
   dsimp only
   rw[ah,Vl,ah,Eg n hn (by omega),ah]
   cases h2:bt (gB l) (.inr ()) l.length 0 with
   | inl v=>rfl
   | inr _ =>
    have hst:=A3 (by omega) h2
    dsimp only
    rw[ah]
    dsimp only
    rw[ah,Eh n hnr hn (by omega),ah]
    cases h3:bt (iC l) (.inr ()) l.length 0 with
    | inl v=>rfl
    | inr _ =>
     dsimp only
     rw[ah]
     dsimp only
     rw[ah,DC n hnr hst hn (by omega) (by omega),ah]
     cases h4:bt (iu l) (.inr ()) l.length 0<;>rfl
def mQ(l:List I2):Prop:=(oV l).1<=0
open Classical in
def KC(hn:l.length<n)(h5:41<n):Hk n l=some (if mQ l then 0 else 140):=by
 unfold Hk mQ;rw[KN n hn h5,ah];obtain⟨a,b⟩:=oV l
 dsimp only
 by_cases h:0<a
 rw[au h,UF]
 rw[aq h,UG]
open Classical in
def MK(h64:∀x∈l,pd x.1/\pd x.2)(hn:l.length<n)(h5:41<n):OU n l=some (if mQ l then 0 else 140):=by
 unfold OU mQ;rw[Kn n h64 hn h5,ah];obtain⟨a,b⟩:=oV l
 dsimp only
 by_cases h:0<a
 rw[au h,UF]
 rw[aq h,UG]
end
end
section
open Go Go.Ab Go.Ab.W Go.Ab.B Jd
structure Ok(l:List I2):Prop where
 len:l.length<=40
 nr:∀i,Nr (nx l i)
 vr:VR l
def mU{ρ:Type}{f:Nat->Option ρ}{e:ρ}{k i:Nat}(h:∀j,i<=j->j<i+k->f j=none):bt f e k i=e:=by
 rcases bW (f:=f) (e:=e) k i with⟨_,h2⟩|⟨j,h1,h2,h3⟩
 exact h2
 rw[h j h1 h2] at h3; cases h3
def GD{i L:Nat}(hL:0<L):((i+1)%L+L-1)%L=i%L:=by
 have h:=Nat.div_add_mod (i+1) L;have:((i+1)%L+L-1)+L*((i+1)/L)=i+L:=by omega
 rw[<-Nat.add_mul_mod_self_left ((i+1)%L+L-1) L ((i+1)/L),this,Nat.add_mod_right]
def Ok.mQ{l:List I2}(h:Ok l):mQ l:=by
 have hn:=h.vr.n3;have hl:=h.len;unfold Go.Proofs.YtmndpgfbkicndaaGreat.mQ oV;rw[UF,mU (f:=jD l) fun j _ _=>by unfold jD; rw[R6 (vt.2 (h.nr j))]]
 dsimp only
 rw[mU (f:=gB l) fun j _ _=>by unfold gB; rw[R6 (h.vr.still j)]]
 dsimp only
 rw[mU (f:=iC l) fun j _ hj=>by
  unfold iC;have:=h.vr.spike (j+l.length-1);rw[show j+l.length-1+1=j+l.length by omega,show j+l.length-1+2=(j+1)+l.length by omega,om l (Nat.add_mod_right j l.length),om l (Nat.add_mod_right (j+1) l.length)] at this
  rw[R6 this]]
 dsimp only
 rw[mU (f:=iu l) fun j _ hj=>by
  unfold iu;rw[R6];rintro⟨t,ht,h1,h2⟩;exact h2 (Gf.2 (h.vr.meet t j ht (by omega) fun e=>h1 ⟨e.1,by omega⟩))]
 exact Int.le_refl 0
def mQ.ok{l:List I2}(h:mQ l):Ok l:=by
 unfold Go.Proofs.YtmndpgfbkicndaaGreat.mQ oV at h
 split at h
 exact Ss (show(1:Int)<=0 from h) (by decide)
 ·rename_i hl;cases h1:bt (jD l) (.inr ()) l.length 0 with
  | inl v=>rw[h1] at h; exact Ss (show(2:Int)<=0 from h) (by decide)
  | inr _ =>
   rw[h1] at h
   dsimp only at h
   cases h2:bt (gB l) (.inr ()) l.length 0 with
   | inl v=>rw[h2] at h; exact Ss (show(3:Int)<=0 from h) (by decide)
   | inr _ =>
    rw[h2] at h
    dsimp only at h
    cases h3:bt (iC l) (.inr ()) l.length 0 with
    | inl v=>rw[h3] at h; exact Ss (show(4:Int)<=0 from h) (by decide)
    | inr _ =>
     rw[h3] at h
     dsimp only at h
     cases h4:bt (iu l) (.inr ()) l.length 0 with
     | inl v=>rw[h4] at h; exact Ss (show(5:Int)<=0 from h) (by decide)
     | inr _ =>
      have hL:0<l.length:=by omega
      refine⟨by omega,wS hL h1,by omega,A3 hL h2,fun i=>?_,fun j i hji hi hn=>?_⟩
      have:=jZ (fun j r hr=>by unfold iC at hr; split at hr<;>cases hr; simp) h3 ((i+1)%l.length) (S6 _ hL)
      unfold iC at this
      split at this
      cases this
      rename_i g;rw[om l (GD hL),u9,qC] at g;exact g
      have:=jZ (fun j r hr=>by unfold iu at hr; split at hr<;>cases hr; simp) h4 i hi
      unfold iu at this
      split at this
      cases this
      rename_i g;refine Gf.1 (R8 fun e=>g ⟨j,hji,fun k=>hn ⟨k.1,by omega⟩,e⟩)
def rh{l:List I2}:mQ l↔Ok l:=⟨mQ.ok,Ok.mQ⟩
section
variable(n:Nat){l:List Nat}(hb:∀ x∈l, x < 256)(x5 x6:Int)(x7:Nat)(x8 x9:Bool)
include hb
end
end
section
open Go Go.Ab Go.Ab.W Go.Ab.B Jd
section
variable{l:List Nat}
end
structure Dr(l:List Nat)(x5 x6:Int)(x7:Nat):Prop where
 b:∀x∈l,x<256
 x : -32768<=x5/\x5<=32767
 y : -32768<=x6/\x6<=32767
 s:x7<256
end
section
open Go Go.Ab Go.Ab.W Go.Ab.B Jd
structure Bd(x2 x3:Nat)(x4 x5:Int):Prop where
 at_:x2<256
 to:x3<256
 x:pd x4
 y:pd x5
end
section
open Go Go.Ab Go.Ab.W Go.Ab.B Jd
def im{σ τ ρ:Type}{B:τ->Option (τ⊕ρ)}{len:Nat}(st:Nat->σ->τ)(inv:Nat->σ->Prop)(Post:ρ->Prop)
  (hB:∀i s,i<len->inv i s->(∃s',B (st i s)=some (.inl (st (i+1) s'))/\inv (i+1) s')\/∃r,B (st i s)=some (.inr r)/\Post r)
  (hE:∀s,inv len s->∃r,B (st len s)=some (.inr r)/\Post r):∀(k i:Nat) (s:σ) (n:Nat),i+k=len->k<n->inv i s->∃r,bh B n (st i s)=some r/\Post r
 | 0,i,s,n+1,h,_,hi=>by
  rw[Tn] at h; subst h;obtain⟨r,h1,h2⟩:=hE s hi;exact⟨r,eE h1,h2⟩
 | k+1,i,s,n+1,h,hn,hi=>by
  rcases hB i s (by omega) hi with⟨s',h1,h2⟩|⟨r,h1,h2⟩
  rw[eO h1]; exact im st inv Post hB hE k (i+1) s' n (by omega) (by omega) h2
  exact⟨r,eE h1,h2⟩
def rR{f:Nat->Int}(h:∀i,-8000000000000<=f i/\f i<=8000000000000):∀n:Nat,-(8000000000000*(n:Int))<=bD n f/\bD n f<=8000000000000*(n:Int)
 | 0=>by simp[bD]
 | n+1=>by
  have h1:=rR h n;have h2:=h n;simp only[bD];omega
section
variable{l:List I2}(n:Nat)
def Lh{a b o:I2}(ha:Nr a)(hb:Nr b)(ho:Nr o) : -8000000000000<=(a.1-o.1)*(b.2-o.2)-(a.2-o.2)*(b.1-o.1)/\(a.1-o.1)*(b.2-o.2)-(a.2-o.2)*(b.1-o.1)<=8000000000000:=by
 unfold Nr at ha hb ho;have m1:=eQ (B:=2000000) (C:=2000000) (u:=a.1-o.1) (v:=b.2-o.2) (by decide) (by omega) (by omega) (by omega) (by omega)
 have m2:=eQ (B:=2000000) (C:=2000000) (u:=a.2-o.2) (v:=b.1-o.1) (by decide) (by omega) (by omega) (by omega) (by omega)
 omega
def MM{a b:I2}(ha:Nr a)(hb:Nr b){s:Int}(hs : -8000000000000000<=s/\s<=8000000000000000) :
  UD (UD (s+UD (a.1*b.2))-UD (a.2*b.1))=s+(a.1*b.2-a.2*b.1):=by
 unfold Nr at ha hb;have m1:=eQ (B:=1000000) (C:=1000000) (u:=a.1) (v:=b.2) (by decide) (by omega) (by omega) (by omega) (by omega)
 have m2:=eQ (B:=1000000) (C:=1000000) (u:=a.2) (v:=b.1) (by decide) (by omega) (by omega) (by omega) (by omega)
 generalize a.1*b.2=u at *;generalize a.2*b.1=v at *;rw[aB (x:=u) (by omega) (by omega),aB (x:=v) (by omega) (by omega),aB (x:=s+u) (by omega) (by omega),aB (by omega) (by omega)]
 omega
open Classical in
noncomputable def side (l:List I2) (p:I2):Int:=if ∃i,i<l.length/\cF (nx l i) (nx l (i+1)) p then 1 else if fJ l p=0 then 0 else 2
def E0(l:List I2)(p:I2):∀i:Nat,-(i:Int)<=bD i (fun i=>wi (nx l i) (nx l (i+1)) p)/\bD i (fun i=>wi (nx l i) (nx l (i+1)) p)<=(i:Int)
 | 0=>by simp[bD]
 | i+1=>by
  have h1:=E0 l p i;have h2:=Fe (nx l i) (nx l (i+1)) p;simp only[bD];omega
end
end
end Go.Proofs.YtmndpgfbkicndaaGreat
end
section
namespace Go.Proofs.YtmndpgfbkicndaaGreat
open Go Go.Ab Go.Ab.W Go.Ab.B Jd
def Nw(p:I2):Prop:=-4000000<=p.1/\p.1<=4000000/\-4000000<=p.2/\p.2<=4000000
def LH{a b c:I2}(ha:Nw a)(hb:Nw b)(hc:Nw c) :
  UD (UD ((UD (b.1-a.1))*(UD (c.2-a.2)))-UD ((UD (b.2-a.2))*(UD (c.1-a.1))))=ti a b c:=by
 unfold Nw at ha hb hc;have m1:=eQ (B:=8000000) (C:=8000000) (u:=b.1-a.1) (v:=c.2-a.2) (by decide) (by omega) (by omega) (by omega) (by omega)
 have m2:=eQ (B:=8000000) (C:=8000000) (u:=b.2-a.2) (v:=c.1-a.1) (by decide) (by omega) (by omega) (by omega) (by omega)
 rw[aB (x:=b.1-a.1) (by omega) (by omega),aB (x:=c.2-a.2) (by omega) (by omega),aB (x:=b.2-a.2) (by omega) (by omega),aB (x:=c.1-a.1) (by omega) (by omega)]
 unfold ti;generalize(b.1-a.1)*(c.2-a.2)=u at *;generalize(b.2-a.2)*(c.1-a.1)=v at *;rw[aB (x:=u) (by omega) (by omega),aB (x:=v) (by omega) (by omega),aB (by omega) (by omega)]
def Hf(n:Nat){a b c:I2}(ha:Nw a)(hb:Nw b)(hc:Nw c):qn n a.1 a.2 b.1 b.2 c.1 c.2=some (ti a b c):=by
 unfold qn;simp only[ah];rw[<-LH ha hb hc]
def My(n:Nat){a b p:I2}(ha:Nw a)(hb:Nw b)(hp:Nw p):sA n a.1 a.2 b.1 b.2 p.1 p.2=some (decide (cF a b p)):=by
 unfold sA;rw[Hf n ha hb hp,ah]
 by_cases h:ti a b p=0
 rw[Sd h,SM,ek,cU,cU,cU,gH,gH,gA,gA,<-SI,<-SI,<-SI]
 congr 1
 rw[decide_eq_decide];unfold cF;exact⟨fun g=>⟨h,g⟩,fun g=>g.2⟩
 rw[Se h,SL,eT,Se fun g=>h g.1]
section
variable{l:List I2}(n:Nat)
def yP{p:I2}(hnr:∀i,Nw (nx l i))(hp:Nw p)(hL:l.length<100)(hn:l.length<n):I0 n l p.1 p.2=some (side l p):=by
 have L:∃r,bh (tL n l p.2 p.1) n ((0:Int),((0:Nat):Int))=some r/\match r with
   | .inl _=>∃i,i<l.length/\cF (nx l i) (nx l (i+1)) p
   | .inr w=>(∀i,i<l.length->¬cF (nx l i) (nx l (i+1)) p)/\w=fJ l p:=by
  refine im (len:=l.length) (fun i (s:Int)=>(s,(i:Int))) (fun i s=>(∀j,j<i->¬cF (nx l j) (nx l (j+1)) p)/\s=bD i fun i=>wi (nx l i) (nx l (i+1)) p) _ (fun i s hi hs=>?_) (fun s hs=>?_) l.length 0 0 n (by omega) hn ⟨fun j hj=>Ss hj (Nat.not_lt_zero _),rfl⟩
  ·have hw:=E0 l p i;have hwi:=Fe (nx l i) (nx l (i+1)) p;have hbase:tL n l p.2 p.1 (s,(i:Int))=if cF (nx l i) (nx l (i+1)) p then some (.inr (.inl ())) else some (.inl (s+wi (nx l i) (nx l (i+1)) p,((i+1:Nat):Int))):=by
    unfold tL
    try dsimp only
    rw[Vj,al hi,aJ,eR hi,ah]
    try dsimp only
    rw[Vm,k6 i hi (by omega)]
    try dsimp only
    rw[ah,ah,LH (hnr i) (hnr (i+1)) hp];have hB:(decide (ti (nx l i) (nx l (i+1)) p=0) &&(decide (mi (nx l i).1 (nx l (i+1)).1<=p.1) &&(decide (p.1<=ma (nx l i).1 (nx l (i+1)).1) &&(decide (mi (nx l i).2 (nx l (i+1)).2<=p.2)&&decide (p.2<=ma (nx l i).2 (nx l (i+1)).2)))))=decide (cF (nx l i) (nx l (i+1)) p):=by
     rw[gH,gH,gA,gA,<-SI,<-SI,<-SI,<-SI,decide_eq_decide];exact Iff.rfl
    rw[cU,cU,cU,cU,hB,ah]
    by_cases hb:cF (nx l i) (nx l (i+1)) p
    rw[au hb,ah,R7 hb]
    rw[aq hb,R6 hb,cU,cU,ah];unfold wi
    by_cases c1:(nx l i).2<=p.2/\p.2<(nx l (i+1)).2/\0<ti (nx l i) (nx l (i+1)) p
    rw[R7 c1,Sd c1.1,Sd c1.2.1,Sd c1.2.2,Ty,Ty,eT,ah,aB (by rw[hs.2]; omega) (by rw[hs.2]; omega)]
    have e1:(decide ((nx l i).2<=p.2) &&(decide (p.2<(nx l (i+1)).2)&&decide (0<ti (nx l i) (nx l (i+1)) p)))=false:=by
     rw[<-SI,<-SI]; exact Se fun g=>c1 ⟨g.1,g.2.1,g.2.2⟩
    rw[R6 c1,e1,ek,cU,cU,ah]
    by_cases c2:(nx l (i+1)).2<=p.2/\p.2<(nx l i).2/\ti (nx l i) (nx l (i+1)) p<0
    rw[R7 c2,Sd c2.1,Sd c2.2.1,Sd c2.2.2,Ty,Ty,eT,ah,aB (by rw[hs.2]; omega) (by rw[hs.2]; omega)]
    rfl
    have e2:(decide (p.2<(nx l i).2) &&(decide ((nx l (i+1)).2<=p.2)&&decide (ti (nx l i) (nx l (i+1)) p<0)))=false:=by
     rw[<-SI,<-SI]; exact Se fun g=>c2 ⟨g.2.1,g.1,g.2.2⟩
    rw[R6 c2,e2,ek,ah,Int.add_zero]
   by_cases hb:cF (nx l i) (nx l (i+1)) p
   exact .inr ⟨.inl (),by rw[hbase,R7 hb],⟨i,hi,hb⟩⟩
   refine .inl ⟨s+wi (nx l i) (nx l (i+1)) p,by rw[hbase,R6 hb],fun j hj=>?_,by rw[hs.2]; rfl⟩
   by_cases e:j=i
   rw[e]; exact hb
   exact hs.1 j (by omega)
  ·refine⟨.inr s,?_,hs.1,hs.2⟩;unfold tL
   try dsimp only
   rw[Vl]
 obtain⟨r,h1,h2⟩:=L;have h1':bh (tL n l p.2 p.1) n (0,0)=some r:=h1;unfold I0;rw[h1',ah];unfold side;cases r with
 | inl s =>
  dsimp only at h2
  rw[R7 h2]
 | inr w =>
  obtain⟨g1,g2⟩:=h2;rw[R6 (fun⟨i,a,b⟩=>g1 i a b)]
  try dsimp only
  rw[g2]
  by_cases e:fJ l p=0
  rw[au e,R7 e]
  rw[aq e,R6 e]
def uO{p:I2}(hv:VR l)(hnr:∀i,Nw (nx l i))(hp:Nw p)(hL:l.length<100)(hn:l.length<n):uh n l p.1 p.2=some (side l p):=by
 have h3:=hv.n3;have hne:l≠[]:=fun e=>by rw[e] at h3; simp at h3
 have L:∃r,bh (oQ n l p.1 p.2) n (false,((0:Nat):Int))=some r/\match r with
   | .inl _=>∃i,i<l.length/\cF (nx l i) (nx l (i+1)) p
   | .inr w=>(∀i,i<l.length->¬cF (nx l i) (nx l (i+1)) p)/\w=Dt l p l.length:=by
  refine im (len:=l.length) (fun i (s:Bool)=>(s,(i:Int))) (fun i s=>(∀j,j<i->¬cF (nx l j) (nx l (j+1)) p)/\s=Dt l p i) _ (fun i s hi hs=>?_) (fun s hs=>?_) l.length 0 false n (by omega) hn ⟨fun j hj=>Ss hj (Nat.not_lt_zero _),rfl⟩
  ·have hbase:oQ n l p.1 p.2 (s,(i:Int))=if cF (nx l i) (nx l (i+1)) p then some (.inr (.inl ())) else some (.inl (s != Ol (nx l i) (nx l (i+1)) p,((i+1:Nat):Int))):=by
    unfold oQ
    try dsimp only
    rw[Vj,al hi,aJ,eR hi,ah]
    try dsimp only
    rw[Vm,nq n (i+1) hne,ah]
    try dsimp only
    rw[My n (hnr i) (hnr (i+1)) hp,ah]
    by_cases hb:cF (nx l i) (nx l (i+1)) p
    rw[au hb,ah,R7 hb]
    rw[aq hb,R6 hb,Hf n (hnr i) (hnr (i+1)) hp,ah,cU,ah];unfold Ol;have e:(!(decide (p.2<(nx l i).2)==decide (p.2<(nx l (i+1)).2)))=(decide (p.2<(nx l i).2) != decide (p.2<(nx l (i+1)).2)):=rfl;rw[e];generalize((decide (p.2<(nx l i).2) != decide (p.2<(nx l (i+1)).2)) &&(decide (0<ti (nx l i) (nx l (i+1)) p)==decide ((nx l i).2<(nx l (i+1)).2)))=c;cases c<;>cases s<;>rfl
   by_cases hb:cF (nx l i) (nx l (i+1)) p
   exact .inr ⟨.inl (),by rw[hbase,R7 hb],⟨i,hi,hb⟩⟩
   refine .inl ⟨s != Ol (nx l i) (nx l (i+1)) p,by rw[hbase,R6 hb],fun j hj=>?_,by rw[hs.2]; rfl⟩
   by_cases e:j=i
   rw[e]; exact hb
   exact hs.1 j (by omega)
  ·refine⟨.inr s,?_,hs.1,hs.2⟩;unfold oQ
   try dsimp only
   rw[Vl]
 obtain⟨r,h1,h2⟩:=L;have h1':bh (oQ n l p.1 p.2) n (false,0)=some r:=h1;unfold uh;rw[h1',ah];unfold side;cases r with
 | inl s =>
  dsimp only at h2
  rw[R7 h2]
 | inr w =>
  obtain⟨g1,g2⟩:=h2;rw[R6 (fun⟨i,a,b⟩=>g1 i a b)]
  try dsimp only
  rw[g2,hv.J6 g1]
  by_cases e:fJ l p=0
  rw[Sd e,R7 e]; rfl
  rw[Se e,R6 e]; rfl
end
def xa{α β ρ:Type}{B:(List β×Int)->Option ((List β×Int)⊕ρ)}{l:List α}(f:α->β)(out:List β->ρ)
  (hB:∀i x,l[i]? = some x->i<l.length->B ((l.take i).map f,(i:Int))=some (.inl ((l.take i).map f++[f x],((i+1:Nat):Int))))
  (hE:B (l.map f,(l.length:Int))=some (.inr (out (l.map f)))) {n:Nat} (hn:l.length<n):bh B n ([],0)=some (out (l.map f)):=by
 obtain⟨r,h1,h2⟩:=im (B:=B) (len:=l.length) (fun i (s:List β)=>(s,(i:Int))) (fun i s=>s=(l.take i).map f) (fun r=>r=out (l.map f)) (fun i s hi hs=>by
  subst hs;have hx:=R5 hi;refine .inl ⟨_,hB i _ hx hi,?_⟩;rw[Ub,hx,List.map_append]; rfl) (fun s hs=>by
  subst hs;rw[List.take_length];exact⟨_,hE,rfl⟩) l.length 0 [] n (by omega) hn rfl
 subst h2;exact h1
def iF(pts:List I2)(i:Int):I2:=pts.getD i.toNat (0,0)
def db(pts:List I2)(l:List Int)(t:Int):List I2:=l.map fun i=>(t*(iF pts i).1,t*(iF pts i).2)
def Ix(pts:List I2)(l:List Int):Prop:=∀i∈l,0<=i/\i<pts.length
def df(pts:List I2):Prop:=∀q∈pts,Nr q
def gX{pts:List I2}{i:Int}(h:0<=i/\i<pts.length):pts[i.toNat]? = some (iF pts i):=by
 unfold iF;rw[Sb,R5 (by omega)]; rfl
def gk{pts:List I2}(hb:df pts){i:Int}(h:0<=i/\i<pts.length):Nr (iF pts i):=hb _ (Sf (gX h))
def cD(pts:List I2)(l:List Int)(t:Int):(db pts l t).length=l.length:=Sz _
def bz{k:Nat}(h:k<=1000000):lim k=true:=Nat.ble_eq_true_of_le (by omega)
section
variable{pts:List I2}{F:Ur}{l:List Int}{t:Int}(n:Nat)
def kZ(hb:df pts)(hx:Ix pts l)(ht:t=1\/t=2)(hl:l.length<=1000)(hn:l.length<n):Ic n pts F l t=some (db pts l t):=by
 have h:=xa (B:=zA n l pts t) (l:=l) (fun i=>(t*(iF pts i).1,t*(iF pts i).2)) (fun s=>s) (fun i x hi hil=>by
  have hxi:=hx x (Sf hi);have hnr:=gk hb hxi;unfold Nr at hnr;unfold zA
  try dsimp only
  rw[Vj,al hil,aJ,Sv,hi,ah,show bw x pts.length=true from Sd ⟨hxi.1,by omega⟩,aJ,gX hxi,ah]
  try dsimp only
  rw[aJ,aB (by rcases ht with rfl|rfl<;>omega) (by rcases ht with rfl|rfl<;>omega),aB (by rcases ht with rfl|rfl<;>omega) (by rcases ht with rfl|rfl<;>omega),bz (by simp; omega),aJ,Vm]) (by
  unfold zA
  try dsimp only
  rw[Vl]) hn
 unfold Ic;rw[h,ah]; rfl
def lO(hb:df pts)(hx:Ix pts l)(ht:t=1\/t=2)(hl:l.length<=1000)(hn:l.length<n):GB n pts F l t=some (db pts l t):=by
 have h:=xa (B:=zS n l pts t) (l:=l) (fun i=>(t*(iF pts i).1,t*(iF pts i).2)) (fun s=>s) (fun i x hi hil=>by
  have hxi:=hx x (Sf hi);have hnr:=gk hb hxi;unfold Nr at hnr;unfold zS
  try dsimp only
  rw[Vj,al hil,aJ,Sv,hi,ah,show bw x pts.length=true from Sd ⟨hxi.1,by omega⟩,aJ,gX hxi,ah]
  try dsimp only
  rw[aB (by rcases ht with rfl|rfl<;>omega) (by rcases ht with rfl|rfl<;>omega),aB (by rcases ht with rfl|rfl<;>omega) (by rcases ht with rfl|rfl<;>omega),bz (by simp; omega),aJ,Vm]) (by
  unfold zS
  try dsimp only
  rw[Vl]) hn
 unfold GB;rw[h,ah]; rfl
def FQ{r:List I2}(hnr:∀i,Nr (nx r i))(hL:r.length<100)(hn:r.length<n):On n r=some (qE r):=by
 have hb:∀i,-8000000000000<=(nx r i).1*(nx r (i+1)).2-(nx r i).2*(nx r (i+1)).1/\(nx r i).1*(nx r (i+1)).2-(nx r i).2*(nx r (i+1)).1<=8000000000000:=fun i=>by
  have:=Lh (hnr i) (hnr (i+1)) (show Nr (0,0) by unfold Nr; omega)
  simpa using this
 have L:∃z,bh (ve n r) n ((0:Int),((0:Nat):Int))=some z/\z=qE r:=by
  refine im (len:=r.length) (fun i (s:Int)=>(s,(i:Int))) (fun i s=>s=bD i fun i=>(nx r i).1*(nx r (i+1)).2-(nx r i).2*(nx r (i+1)).1) _ (fun i s hi hs=>?_) (fun s hs=>?_) r.length 0 0 n (by omega) hn rfl
  ·have hbi:=rR hb i;refine .inl ⟨s+((nx r i).1*(nx r (i+1)).2-(nx r i).2*(nx r (i+1)).1),?_,by rw[hs]; rfl⟩
   unfold ve
   try dsimp only
   rw[Vj,al hi,aJ,eR hi,ah]
   try dsimp only
   rw[Vm,k6 i hi (by omega)]
   try dsimp only
   rw[ah];have h1:=hnr i;have h2:=hnr (i+1);have h3:=hb i;unfold Nr at h1 h2;have m1:=eQ (B:=1000000) (C:=1000000) (u:=(nx r i).1) (v:=(nx r (i+1)).2) (by decide) (by omega) (by omega) (by omega) (by omega)
   have m2:=eQ (B:=1000000) (C:=1000000) (u:=(nx r i).2) (v:=(nx r (i+1)).1) (by decide) (by omega) (by omega) (by omega) (by omega)
   generalize(nx r i).1*(nx r (i+1)).2=u at *;generalize(nx r i).2*(nx r (i+1)).1=v at *;rw[aB (x:=u) (by omega) (by omega),aB (x:=v) (by omega) (by omega),aB (x:=u-v) (by omega) (by omega),aB (by rw[hs]; omega) (by rw[hs]; omega)]
  ·refine⟨s,?_,hs⟩;unfold ve
   try dsimp only
   rw[Vl]
 obtain⟨z,h1,h2⟩:=L;have h1':bh (ve n r) n (0,0)=some z:=h1;unfold On;rw[h1',ah,h2]
def yJ{r:List I2}(hnr:∀i,Nr (nx r i))(hne:r≠[])(hL:r.length<100)(hn:r.length<n):DZ n r=some (qE r):=by
 have hb:∀i,-8000000000000<=(nx r i).1*(nx r (i+1)).2-(nx r i).2*(nx r (i+1)).1/\(nx r i).1*(nx r (i+1)).2-(nx r i).2*(nx r (i+1)).1<=8000000000000:=fun i=>by
  have:=Lh (hnr i) (hnr (i+1)) (show Nr (0,0) by unfold Nr; omega)
  simpa using this
 have L:∃z,bh (pS n r) n ((0:Int),((0:Nat):Int))=some z/\z=qE r:=by
  refine im (len:=r.length) (fun i (s:Int)=>(s,(i:Int))) (fun i s=>s=bD i fun i=>(nx r i).1*(nx r (i+1)).2-(nx r i).2*(nx r (i+1)).1) _ (fun i s hi hs=>?_) (fun s hs=>?_) r.length 0 0 n (by omega) hn rfl
  ·have hbi:=rR hb i;refine .inl ⟨s+((nx r i).1*(nx r (i+1)).2-(nx r i).2*(nx r (i+1)).1),?_,by rw[hs]; rfl⟩
   unfold pS
   try dsimp only
   rw[Vj,al hi,aJ,eR hi,ah]
   try dsimp only
   rw[Vm,nq n (i+1) hne,ah]
   try dsimp only
   rw[ah,MM (hnr i) (hnr (i+1)) (by rw[hs]; omega)]
  ·refine⟨s,?_,hs⟩;unfold pS
   try dsimp only
   rw[Vl]
 obtain⟨z,h1,h2⟩:=L;have h1':bh (pS n r) n (0,0)=some z:=h1;unfold DZ;rw[h1',ah,h2]
end
def F0(n:Nat)(p:I2):Oh n p.1 p.2=some (decide (Fa p)):=by
 unfold Oh Fa;rw[gA,gH,kl];refine SK some ?_;have:(min p.1 p.2 < -1000000\/1000000<max p.1 p.2)↔(p.1 < -1000000\/1000000<p.1\/p.2 < -1000000\/1000000<p.2):=by omega
 simp only[<-this,Ua]
def DJ{α β:Type}[DecidableEq α](xs:List (α×β))(k k':α)(v:β):fX (jP xs k v) k'=(if k'=k then some v else fX xs k')/\(jP xs k v).length=(if fX xs k=none then xs.length+1 else xs.length):=by
 have key:∀(xs:List (α×β)) (i:Nat),(dh k xs i=none->∀j,(dh k' (xs++[(k,v)]) j).map (·.2)=if k'=k then some v else(dh k' xs j).map (·.2)) /\
   (∀p,dh k xs i=some p->i<=p.1/\∀j,(dh k' (xs.set (p.1-i) (k,v)) j).map (·.2)=if k'=k then some v else(dh k' xs j).map (·.2)):=by
  intro xs
  induction xs with
  | nil =>
   intro i;refine⟨fun _ j=>?_,fun p h=>by simp[dh] at h⟩
   simp only[Tw,dh]
   by_cases h:k'=k<;>simp[h]
  | cons e xs ih =>
   intro i
   by_cases he:k=e.1
   refine⟨fun h=>by simp[dh,he] at h,fun p h=>?_⟩
   have hp:p=(i,e.2):=by simp[dh,he] at h; exact h.symm
   subst hp;refine⟨Sc _,fun j=>?_⟩;simp only[Uo,List.set_cons_zero,dh]
   by_cases h:k'=k
   simp[h]
   have:k'≠e.1:=fun c=>h (c.trans he.symm);simp[h,this]
   refine⟨fun h j=>?_,fun p h=>?_⟩
   have h':dh k xs (i+1)=none:=by simpa [dh,he] using h
   simp only[Uj,dh]
   by_cases h2:k'=e.1
   have:k'≠k:=fun c=>he (c.symm.trans h2);simp[h2,Ne.symm he]
   simp only[R6 h2];exact(ih (i+1)).1 h' (j+1)
   have h':dh k xs (i+1)=some p:=by simpa [dh,he] using h
   obtain⟨g1,g2⟩:=(ih (i+1)).2 p h';refine⟨by omega,fun j=>?_⟩
   rw[show p.1-i=(p.1-(i+1))+1 by omega,List.set_cons_succ]
   simp only[dh]
   by_cases h2:k'=e.1
   have:k'≠k:=fun c=>he (c.symm.trans h2);simp[h2,Ne.symm he]
   simp only[R6 h2];exact g2 (j+1)
 unfold fX jP;cases h:dh k xs 0 with
 | none=>exact⟨(key xs 0).1 h 0,by simp⟩
 | some p=>exact⟨((key xs 0).2 p h).2 0,by simp⟩
def vi{α β:Type}[DecidableEq α](xs:List (α×β))(k k':α)(v:β):fX (jP xs k v) k'=if k'=k then some v else fX xs k':=(DJ xs k k' v).1
def lP(l:List I2)(i:Nat):Option (Int⊕Unit):=if nx l i∈l.take i then some (.inl (i:Int)) else none
section
variable{l:List I2}(n:Nat)
def GH(hn:l.length<n)(hl:l.length<1000):bh (xS n l) n 0=some (bt (jD l) (.inr ()) l.length 0):=by
 refine aY (len:=l.length) (fun i hi=>?_) ?_ l.length 0 n (by omega) hn
 unfold xS jD
 dsimp only
 rw[Vj,al hi,aJ,eR hi,ah]
 dsimp only
 rw[F0,ah,Vm]
 by_cases h:Fa (nx l i)
 rw[au h,R7 h]
 rw[aq h,R6 h]
 unfold xS
 dsimp only
 rw[Vl]
def GV(hn:l.length<n)(hl:l.length<1000):bh (yT n l) n 0=some (bt (jD l) (.inr ()) l.length 0):=by
 refine aY (len:=l.length) (fun i hi=>?_) ?_ l.length 0 n (by omega) hn
 unfold yT jD
 dsimp only
 rw[Vj,al hi,aJ,eR hi,ah]
 dsimp only
 rw[AP,ah,Vm]
 by_cases h:Fa (nx l i)
 rw[au h,R7 h]
 rw[aq h,R6 h]
 unfold yT
 dsimp only
 rw[Vl]
def tW(l:List I2)(i j:Nat):Option (Unit⊕Unit):=if nx l i=nx l j then some (.inl ()) else none
def IG{i:Nat}(hi:i<l.length)(hn:l.length<n)(hl:l.length<1000):bh (yw n (i:Int) l) n 0=some (bt (tW l i) (.inr ()) i 0):=by
 refine aY (len:=i) (fun j hj=>?_) ?_ i 0 n (by omega) (by omega)
 unfold yw tW
 dsimp only
 rw[Vj,al hi,aJ,eR hi,ah]
 dsimp only
 rw[al (by omega),aJ,eR (by omega),ah]
 dsimp only
 rw[rZ,Vm]
 by_cases h:nx l i=nx l j
 rw[au (by exact h),R7 h]
 rw[aq (by exact h),R6 h]
 unfold yw
 dsimp only
 rw[Vl]
def qQ{i:Nat}(hi:i<=l.length){p:I2}:p∈l.take i↔∃j,j<i/\nx l j=p:=by
 constructor
 intro h;obtain⟨j,hj,e⟩:=SG.1 h;rw[Sm] at hj;refine⟨j,by omega,?_⟩
 unfold nx;rw[TL (by omega),Sb,R5 (by omega)]
 rw[List.getElem_take] at e; exact e
 rintro⟨j,hj,e⟩;refine SG.2 ⟨j,by rw[Sm]; omega,?_⟩
 rw[List.getElem_take,<-e];unfold nx;rw[TL (by omega),Sb,R5 (by omega)]; rfl
def Dm{i:Nat}(hi:i<l.length):bt (tW l i) (.inr ()) i 0=if nx l i∈l.take i then .inl () else .inr ():=by
 rcases bW (f:=tW l i) (e:=.inr ()) i 0 with⟨h1,h2⟩|⟨j,_,h2,h3⟩
 rw[h2,R6];intro h;obtain⟨j,hj,e⟩:=(qQ (by omega)).1 h
 have:=h1 j (by omega) (by omega)
 unfold tW at this;rw[R7 e.symm] at this; cases this
 have:nx l i=nx l j:=by
  refine R8 fun hc=>?_;unfold tW at h3;rw[R6 hc] at h3; cases h3
 rw[R7 ((qQ (by omega)).2 ⟨j,by omega,this.symm⟩)]
 unfold tW at h3;rw[R7 this] at h3;exact(R9 h3).symm
def Gd(hn:l.length<n)(hl:l.length<1000):bh (yX n l) n 0=some (bt (lP l) (.inr ()) l.length 0):=by
 refine aY (len:=l.length) (fun i hi=>?_) ?_ l.length 0 n (by omega) hn
 ·unfold yX lP
  try dsimp only
  rw[Vj,IG n hi hn hl,ah,Dm hi]
  by_cases h:nx l i∈l.take i
  rw[R7 h,R7 h]
  ·rw[R6 h,R6 h]
   try dsimp only
   rw[Vm]
 ·unfold yX
  try dsimp only
  rw[Vl]
def PU(l:List I2)(m:List (I2×Bool)):Prop:=∀p,(fX m p).getD false=decide (p∈l)
def tD(m:List (I2×Bool))(k p:I2):(fX (jP m k true) p)=if p=k then some true else fX m p:=vi m k p true
def Hn(hn:l.length<n)(hl:l.length<1000):bh (qz n l) n ([],0)=some (bt (lP l) (.inr ()) l.length 0):=by
 have key:∀(k i:Nat) (m:List (I2×Bool)) (f:Nat),i+k=l.length->k<f->PU (l.take i) m->bh (qz n l) f (m,(i:Int))=some (bt (lP l) (.inr ()) k i):=by
  intro k
  induction k with
  | zero =>
   intro i m f h hf hm;obtain⟨f,rfl⟩:∃g,f=g+1:=⟨f-1,by omega⟩
   have:qz n l (m,(i:Int))=some (.inr (.inr ())):=by
    unfold qz
    dsimp only
    rw[Vl]
   simp only[bh,this,bt]
  | succ k ih =>
   intro i m f h hf hm;obtain⟨f,rfl⟩:∃g,f=g+1:=⟨f-1,by omega⟩
   have hi:i<l.length:=by omega
   have hB:qz n l (m,(i:Int))=if nx l i∈l.take i then some (.inr (.inl (i:Int))) else some (.inl (jP m (nx l i) true,((i+1:Nat):Int))):=by
    unfold qz
    dsimp only
    rw[Vj,al hi,aJ,eR hi,ah]
    dsimp only
    rw[ah,Vm]
    have e:=hm (nx l i);rw[show((nx l i).1,(nx l i).2)=nx l i from rfl,e]
    by_cases g:nx l i∈l.take i
    rw[au g,R7 g]
    rw[aq g,R6 g]
   by_cases g:nx l i∈l.take i
   rw[R7 g] at hB;simp only[bh,hB,bt,lP,R7 g]
   rw[R6 g] at hB;simp only[bh,hB,bt,lP,R6 g];refine ih (i+1) _ f (by omega) (by omega) fun p=>?_
   have e:l.take (i+1)=l.take i++[nx l i]:=by
    rw[Ub,R5 hi]
    congr 1
    unfold nx;rw[TL hi,Sb,R5 hi]; rfl
   rw[tD,e]
   by_cases hp:p=nx l i
   rw[R7 hp,hp]; simp
   rw[R6 hp,hm p,decide_eq_decide]; simp[hp]
 exact key l.length 0 [] n (by omega) hn (by intro p; simp[fX,dh])
end
def Iy(n:Nat)(o:List Int)(h:Uu)(hl:h.length<=1000)(hn:1000<n):bh (pH n [[o],h]) n (0,0)=some (((h.length+1:Nat):Int)):=by
 obtain⟨m,rfl⟩:∃m,n=m+3:=⟨n-3,by omega⟩
 have e0:pH (m+3) [[o],h] (0,0)=some (.inl (1,1)):=by
  unfold pH
  try dsimp only
  rw[au (by simp),show bw 0 ([[o],h]:List (Uu)).length=true from rfl,aJ]
  show ob (some [o]) _=_
  rw[ah,List.length_singleton]
  rfl
 have e1:pH (m+3) [[o],h] (1,1)=some (.inl (((h.length+1:Nat):Int),2)):=by
  unfold pH
  try dsimp only
  rw[au (by simp),show bw 1 ([[o],h]:List (Uu)).length=true from rfl,aJ]
  show ob (some h) _=_
  rw[ah,aB (by omega) (by omega),Vl,show UD (1+1)=2 from rfl,show((1:Int)+(h.length:Int))=((h.length+1:Nat):Int) by omega]
 have e2:pH (m+3) [[o],h] (((h.length+1:Nat):Int),2)=some (.inr ((h.length+1:Nat):Int)):=by
  unfold pH
  try dsimp only
  rw[aq (by simp)]
 simp only[bh,e0,e1,e2]
def G1(n:Nat)(o:List Int)(h:Uu)(hl:h.length<=1000)(hn:1000<n):bh (pF n [[o],h]) n ([],0)=some (o::h):=by
 obtain⟨m,rfl⟩:∃m,n=m+3:=⟨n-3,by omega⟩
 have e0:pF (m+3) [[o],h] ([],0)=some (.inl ([o],1)):=by
  unfold pF
  try dsimp only
  rw[au (by simp),show bw 0 ([[o],h]:List (Uu)).length=true from rfl,aJ]
  show ob (some [o]) _=_
  rw[ah,Tw,bz (by simp),aJ]
  rfl
 have e1:pF (m+3) [[o],h] ([o],1)=some (.inl (o::h,2)):=by
  unfold pF
  try dsimp only
  rw[au (by simp),show bw 1 ([[o],h]:List (Uu)).length=true from rfl,aJ]
  show ob (some h) _=_
  rw[ah,List.singleton_append,bz (by simp; omega),aJ]
  rfl
 have e2:pF (m+3) [[o],h] (o::h,2)=some (.inr (o::h)):=by
  unfold pF
  try dsimp only
  rw[aq (by simp)]
 simp only[bh,e0,e1,e2]
def vX(n:Nat)(o:List Int)(h:Uu)(hl:h.length<=1000)(hn:1000<n):As n o h=some (o::h):=by
 unfold As Qp;rw[Iy n o h hl hn,ah,Vl]
 have ew:UD (((h.length+1:Nat):Int)-(UD (0-0)))=((h.length+1:Nat):Int):=by
  rw[show UD (0-0)=0 from rfl,aB (by omega) (by omega)]; omega
 rw[ew,Vj,fj (by omega),Sv,bz (by omega),aJ]
 have eb:okB 0 0 (h.length+1)=true:=Sd ⟨Int.le_refl 0,Int.le_refl 0,by omega⟩
 rw[eb,aJ,fj (by omega),ah,ah,show UE=0 from rfl,List.take_zero,G1 n o h hl hn,ah,ah]
def mz(n:Nat)(o:List Int)(h:Uu)(hl:h.length<=1000):CD n o h=some (o::h):=by
 unfold CD;rw[List.singleton_append,bz (by simp; omega),aJ]
def aN{α:Type}{l:List α}{i:Nat}{x:α}(h:l[i]? = some x):l[((i:Nat):Int).toNat]? = some x:=by rw[Sv]; exact h
def bad{α:Type}(p:α->Bool)(l:List α)(i:Nat):Option (Unit⊕Unit):=match l[i]? with|some x=>if p x then none else some (.inl ())|none=>none
def me{α:Type}(p:α->Bool)(l:List α):bt (bad p l) (.inr ()) l.length 0=if l.all p then .inr () else .inl ():=by
 rcases bW (f:=bad p l) (e:=.inr ()) l.length 0 with⟨h1,h2⟩|⟨j,_,h2,h3⟩
 rw[h2,R7];rw[Si];intro x hx;obtain⟨j,hj,e⟩:=SG.1 hx;have:=h1 j (by omega) (by omega)
 unfold bad at this;rw[R5 hj,e] at this;refine R8 fun hc=>?_
 dsimp only at this
 rw[R6 hc] at this; cases this
 unfold bad at h3;rw[R5 (by omega:j<l.length)] at h3
 dsimp only at h3
 by_cases g:p l[j]=true
 rw[R7 g] at h3; cases h3
 rw[R6 g] at h3;rw[R6 (fun h=>g (Si.1 h _ (SB _)))];exact(R9 h3).symm
def NB(n:Nat){l:List Int}(h0:0<l.length)(hl:l.length<1000)(hn:l.length<n):∃m,Ob n l=some m/\m∈l/\∀x∈l,m<=x:=by
 have h00:l[0]? = some l[0]:=R5 h0;obtain⟨r,h1,h2⟩:=im (B:=yV n l) (len:=l.length) (fun i (s:Int)=>(s,(i:Int))) (fun i s=>s∈l/\∀x∈l.take i,s<=x) (fun r=>r∈l/\∀x∈l,r<=x) (fun i s hi hs=>by
  have hx:=R5 hi;refine .inl ⟨mi s l[i],?_,?_,fun x hxm=>?_⟩
  ·unfold yV
   try dsimp only
   rw[Vj,al hi,aJ,aN hx,ah,Vm]
  rw[gA];rcases Int.le_total s l[i] with h|h
  rw[Int.min_eq_left h]; exact hs.1
  rw[Int.min_eq_right h]; exact SB _
  rw[Ub,hx,Su] at hxm;rw[gA];rcases hxm with h|h
  have:=hs.2 x h; omega
  simp at h; omega) (fun s hs=>by
  rw[List.take_length] at hs;refine⟨s,?_,hs⟩;unfold yV
  try dsimp only
  rw[Vl]) (l.length-1) 1 l[0] n (by omega) (by omega) ⟨SB _,fun x hx=>by
   rw[Ub,h00] at hx;simp at hx; omega⟩
 refine⟨r,?_,h2⟩;unfold Ob;rw[Vl,show bw 0 l.length=true from Sd ⟨by omega,by omega⟩,aJ,show UE=0 from rfl,h00,ah,show((l[0],1):Int×Int)=(l[0],((1:Nat):Int)) from rfl,h1,ah]
def LP(n:Nat){l:List Int}(h0:0<l.length)(hl:l.length<1000)(hn:l.length<n):∃m,Oi n l=some m/\m∈l/\∀x∈l,x<=m:=by
 have h00:l[0]? = some l[0]:=R5 h0;obtain⟨r,h1,h2⟩:=im (B:=zY n l) (len:=l.length) (fun i (s:Int)=>(s,(i:Int))) (fun i s=>s∈l/\∀x∈l.take i,x<=s) (fun r=>r∈l/\∀x∈l,x<=r) (fun i s hi hs=>by
  have hx:=R5 hi;refine .inl ⟨ma s l[i],?_,?_,fun x hxm=>?_⟩
  ·unfold zY
   try dsimp only
   rw[Vj,al hi,aJ,aN hx,ah,Vm]
  rw[gH];rcases Int.le_total s l[i] with h|h
  rw[Int.max_eq_right h]; exact SB _
  rw[Int.max_eq_left h]; exact hs.1
  rw[Ub,hx,Su] at hxm;rw[gH];rcases hxm with h|h
  have:=hs.2 x h; omega
  simp at h; omega) (fun s hs=>by
  rw[List.take_length] at hs;refine⟨s,?_,hs⟩;unfold zY
  try dsimp only
  rw[Vl]) (l.length-1) 1 l[0] n (by omega) (by omega) ⟨SB _,fun x hx=>by
   rw[Ub,h00] at hx;simp at hx; omega⟩
 refine⟨r,?_,h2⟩;unfold Oi;rw[Vl,show bw 0 l.length=true from Sd ⟨by omega,by omega⟩,aJ,show UE=0 from rfl,h00,ah,show((l[0],1):Int×Int)=(l[0],((1:Nat):Int)) from rfl,h1,ah]
def ku(m:Nat)(l:List Int):Bool:=decide (3<=l.length/\l.length<=40/\∀i∈l,0<=i/\i<m)
section
variable{pts:List I2}(n:Nat)
def Gm{rs:Uu}(hr:rs.length<1000)(hn:1000<n):bh (yA n rs pts) n 0=some (if rs.all (ku pts.length) then .inr () else .inl ()):=by
 rw[<-me];refine aY (len:=rs.length) (fun i hi=>?_) ?_ rs.length 0 n (by omega) (by omega)
 ·have hx:=R5 hi;generalize rs[i]=l at hx;unfold yA bad;rw[hx]
  try dsimp only
  rw[Vj,al hi,aJ,aN hx,ah,Vm]
  have key:(br (decide ((l.length:Int)<3)) (some true) (br (decide (40<(l.length:Int))) (some true) (ob (Ob n l) fun r0=>br (decide (r0<0)) (some true) (ob (Oi n l) fun r1=>some (decide ((pts.length:Int)<=r1))))))=some (!ku pts.length l):=by
   by_cases h0:(l.length:Int)<3
   rw[au h0];unfold ku;rw[Se (by omega)]; rfl
   rw[aq h0]
   by_cases h1:40<(l.length:Int)
   rw[au h1];unfold ku;rw[Se (by omega)]; rfl
   rw[aq h1];obtain⟨a,e0,e2,e1⟩:=NB n (l:=l) (by omega) (by omega) (by omega)
   obtain⟨b,f0,f1,f2⟩:=LP n (l:=l) (by omega) (by omega) (by omega)
   rw[e0,ah]
   by_cases h2:a<0
   rw[au h2];unfold ku;rw[Se (fun h=>by have:=h.2.2 a e2; omega)]; rfl
   rw[aq h2,f0,ah];unfold ku;rw[<-decide_not];refine SK some (decide_eq_decide.2 ⟨fun h g=>by have:=g.2.2 b f1; omega,fun h=>?_⟩)
   refine R8 fun hc=>h ⟨by omega,by omega,fun x hx=>?_⟩
   have:=e1 x hx;have:=f2 x hx;omega
  rw[key,ah];cases ku pts.length l
  rw[show(!false)=true from rfl,eT]; rfl
  rw[show(!true)=false from rfl,ek]; rfl
 ·unfold yA
  try dsimp only
  rw[Vl]
def Da{rs:Uu}(hr:rs.length<1000)(hn:1000<n):bh (rU n rs pts) n 0=some (if rs.all (ku pts.length) then .inr () else .inl ()):=by
 rw[<-me];refine aY (len:=rs.length) (fun i hi=>?_) ?_ rs.length 0 n (by omega) (by omega)
 ·have hx:=R5 hi;generalize rs[i]=l at hx;unfold rU bad;rw[hx]
  try dsimp only
  rw[Vj]
  simp only[al hi,aJ,aN hx,ah,aj (show i<4611686018427387904 by omega)]
  by_cases h3:(l.length:Int)<3
  have:ku pts.length l=false:=Se (by omega)
  rw[au h3,ah,eT,this]; rfl
  rw[aq h3,ah]
  by_cases h4:40<(l.length:Int)
  have:ku pts.length l=false:=Se (by omega)
  rw[au h4,this]; rfl
  rw[aq h4];have key:bh (sS n (i:Int) rs pts) n 0=some (if l.all (fun x=>decide (0<=x/\x<pts.length)) then .inr () else .inl ()):=by
   rw[<-me];refine aY (len:=l.length) (fun j hj=>?_) ?_ l.length 0 n (by omega) (by omega)
   ·have hy:=R5 hj;generalize l[j]=x at hy;unfold sS bad;rw[hy]
    try dsimp only
    simp only[al hi,aJ,aN hx,ah,aj (show j<4611686018427387904 by omega)]
    rw[Vj]
    simp only[al hj,aJ,aN hy,ah]
    by_cases h5:x<0
    rw[au h5,ah,eT,R6 (by simp; omega)]
    rw[aq h5,ah]
    by_cases h6:(pts.length:Int)<=x
    rw[au h6,R6 (by simp; omega)]
    rw[aq h6,R7 (by simp; omega)]
   ·unfold sS
    try dsimp only
    simp only[al hi,aJ,aN hx,ah];rw[Vl]
  rw[key,ah]
  by_cases h7:l.all (fun x=>decide (0<=x/\x<pts.length))=true
  have:ku pts.length l=true:=Sd ⟨by omega,by omega,fun x hx=>by simpa using Si.1 h7 x hx⟩
  rw[R7 h7,this]; rfl
  have:ku pts.length l=false:=Se fun h=>h7 (Si.2 fun x hx=>Sd (h.2.2 x hx));rw[R6 h7,this]; rfl
 ·unfold rU
  try dsimp only
  rw[Vl]
end
abbrev Fc:=List Int×Uu
def fw(p:Fc->Bool)(F:List Fc)(i:Nat):Option (Int⊕Unit):=match F[i]? with|some x=>if p x then none else some (.inl (i:Int))|none=>none
def okF(m:Nat)(f:Fc):Bool:=decide (f.2.length<=8) &&(f.1::f.2).all (ku m)
noncomputable instance (l:List I2):Decidable (mQ l):=by unfold mQ; infer_instance
noncomputable def Mu (pts:List I2) (f:Fc):Bool:=(f.1::f.2).all fun r=>decide (mQ (db pts r 1))
section
variable{pts:List I2}{F:List Fc}(n:Nat)
def Kh(f:Fc)(hn:1000<n):Iv n pts F f.1 f.2=some (okF pts.length f):=by
 unfold Iv okF
 by_cases h:8<(f.2.length:Int)
 rw[au h,Se (by omega)]; rfl
 rw[aq h,Sd (by omega),mz n _ _ (by omega),ah,Da n (by simp; omega) hn,ah,Ty]
 cases(f.1::f.2).all (ku pts.length)<;>rfl
def HG(hF:F.length<1000)(hn:1000<n):bh (zh n F pts) n 0=some (bt (fw (okF pts.length) F) (.inr ()) F.length 0):=by
 refine aY (len:=F.length) (fun i hi=>?_) ?_ F.length 0 n (by omega) (by omega)
 ·have hx:=R5 hi;generalize F[i]=f at hx;unfold zh fw;rw[hx]
  try dsimp only
  rw[Vj,al hi,aJ,aN hx,ah]
  try dsimp only
  rw[Kh n f hn,ah,Vm]
  cases okF pts.length f<;>rfl
 ·unfold zh
  try dsimp only
  rw[Vl]
def EY(hF:F.length<1000)(hn:1000<n):bh (zi n F pts) n 0=some (bt (fw (okF pts.length) F) (.inr ()) F.length 0):=by
 refine aY (len:=F.length) (fun i hi=>?_) ?_ F.length 0 n (by omega) (by omega)
 ·have hx:=R5 hi;generalize F[i]=f at hx;obtain⟨o,h⟩:=f;unfold zi fw okF;rw[hx]
  try dsimp only
  rw[Vj,al hi,aJ,aN hx,ah]
  try dsimp only
  by_cases g:8<(h.length:Int)
  rw[au g,ah,eT,Se (by omega)]; rfl
  rw[aq g,Sd (by omega),vX n _ _ (by omega) hn,ah,Gm n (by simp; omega) hn,ah,Ty,Vm]
  cases(o::h).all (ku pts.length)<;>rfl
 ·unfold zi
  try dsimp only
  rw[Vl]
def Oj(pts:List I2)(F:List Fc):Prop:=∀f∈F,okF pts.length f=true
def dC{m:Nat}{pts:List I2}(e:m=pts.length){r:List Int}(h:ku m r=true):Ix pts r/\3<=r.length/\r.length<=40:=by
 have:=of_decide_eq_true h;subst e;exact⟨this.2.2,this.1,this.2.1⟩
def IC(hb:df pts){r:List Int}(hx:Ix pts r):∀q∈db pts r 1,Nr q:=by
 intro q hq;obtain⟨i,hi,rfl⟩:=Ts.1 hq;have:=gk hb (hx i hi)
 simpa using this
def Ea(hb:df pts){rs:Uu}(hr:rs.length<1000)(ho:∀r∈rs,ku pts.length r=true)(hn:1000<n):bh (tC n rs pts F) n 0=some (if rs.all (fun r=>decide (mQ (db pts r 1))) then .inr () else .inl ()):=by
 rw[<-me];refine aY (len:=rs.length) (fun i hi=>?_) ?_ rs.length 0 n (by omega) (by omega)
 ·have hx:=R5 hi;generalize rs[i]=r at hx;obtain⟨hix,h3,h4⟩:=dC rfl (ho r (Sf hx));unfold tC bad;rw[hx]
  try dsimp only
  rw[Vj,al hi,aJ,aN hx,ah,lO n hb hix (.inl rfl) (by omega) (by omega),ah,KC n (by rw[cD]; omega) (by omega),ah,Vm]
  by_cases g:mQ (db pts r 1)
  simp only[R7 g,decide_true,SM,ek,if_true,Sd g]
  simp only[R6 g,Se g]; rfl
 ·unfold tC
  try dsimp only
  rw[Vl]
def FH(hb:df pts){rs:Uu}(hr:rs.length<1000)(ho:∀r∈rs,ku pts.length r=true)(hn:1000<n):bh (zH n rs pts F) n 0=some (if rs.all (fun r=>decide (mQ (db pts r 1))) then .inr () else .inl ()):=by
 rw[<-me];refine aY (len:=rs.length) (fun i hi=>?_) ?_ rs.length 0 n (by omega) (by omega)
 ·have hx:=R5 hi;generalize rs[i]=r at hx;obtain⟨hix,h3,h4⟩:=dC rfl (ho r (Sf hx));unfold zH bad;rw[hx]
  try dsimp only
  rw[Vj,al hi,aJ,aN hx,ah,kZ n hb hix (.inl rfl) (by omega) (by omega),ah,MK n (fun x hx=>by
   have:=IC hb hix x hx;unfold Nr at this; unfold pd; omega) (by rw[cD]; omega) (by omega),ah,Vm]
  by_cases g:mQ (db pts r 1)
  simp only[R7 g,decide_true,SM,ah,ek,if_true,Sd g]
  simp only[R6 g,Se g]; rfl
 ·unfold zH
  try dsimp only
  rw[Vl]
def jJ{f:Fc}(h:okF pts.length f=true):f.2.length<=8/\∀r∈f.1::f.2,ku pts.length r=true:=by
 unfold okF at h;rw[Sa] at h;exact⟨of_decide_eq_true h.1,Si.1 h.2⟩
def G9(hb:df pts)(ho:Oj pts F)(hF:F.length<1000)(hn:1000<n):bh (zZ n F pts) n 0=some (bt (fw (Mu pts) F) (.inr ()) F.length 0):=by
 refine aY (len:=F.length) (fun i hi=>?_) ?_ F.length 0 n (by omega) (by omega)
 ·have hx:=R5 hi;generalize F[i]=f at hx;obtain⟨h8,h9⟩:=jJ (ho f (Sf hx));unfold zZ fw I7 Mu;rw[hx]
  try dsimp only
  rw[Vj,al hi,aJ,aN hx,ah]
  try dsimp only
  rw[mz n _ _ (by omega),ah,Ea n hb (by simp; omega) h9 hn,Vm]
  cases(f.1::f.2).all (fun r=>decide (mQ (db pts r 1)))<;>rfl
 ·unfold zZ
  try dsimp only
  rw[Vl]
def GZ(hb:df pts)(ho:Oj pts F)(hF:F.length<1000)(hn:1000<n):bh (yK n F pts) n 0=some (bt (fw (Mu pts) F) (.inr ()) F.length 0):=by
 refine aY (len:=F.length) (fun i hi=>?_) ?_ F.length 0 n (by omega) (by omega)
 ·have hx:=R5 hi;generalize F[i]=f at hx;obtain⟨h8,h9⟩:=jJ (ho f (Sf hx));obtain⟨o,h⟩:=f;replace h8:h.length<=8:=h8;unfold yK fw Mu;rw[hx]
  try dsimp only
  rw[Vj,al hi,aJ,aN hx,ah]
  try dsimp only
  rw[vX n _ _ (by omega) hn,ah,FH n hb (by simp; omega) h9 hn,Vm]
  cases(o::h).all (fun r=>decide (mQ (db pts r 1)))<;>rfl
 ·unfold yK
  try dsimp only
  rw[Vl]
end
def so(pts:List I2)(rs:Uu)(i:Nat):Option (Unit⊕Unit):=match rs[i]? with|some r=>if decide (i=0)==decide (0<qE (db pts r 1)) then none else some (.inl ())|none=>none
def N6(pts:List I2)(f:Fc):Bool:=match bt (so pts (f.1::f.2)) (.inr ()) (f.1::f.2).length 0 with|.inl _=>false|.inr _=>true
section
variable{pts:List I2}{F:List Fc}(n:Nat)
def ov(hb:df pts){r:List Int}(hx:Ix pts r)(h3:3<=r.length)(i:Nat):Nr (nx (db pts r 1) i) :=
 Bh (P:=Nr) (by rw[cD]; omega) (fun i hi=>by
  refine IC hb hx _ ?_;unfold nx;rw[TL hi,Sb,R5 hi];exact SB _) i
def DP(hb:df pts){rs:Uu}(hr:rs.length<1000)(ho:∀r∈rs,ku pts.length r=true)(ha:∀r∈rs,qE (db pts r 1)≠0)(hn:1000<n):bh (tT n rs pts F) n 0=some (bt (so pts rs) (.inr ()) rs.length 0):=by
 refine aY (len:=rs.length) (fun i hi=>?_) ?_ rs.length 0 n (by omega) (by omega)
 ·have hx:=R5 hi;generalize rs[i]=r at hx;obtain⟨hix,h3,h4⟩:=dC rfl (ho r (Sf hx));have hne:=ha r (Sf hx);unfold tT so;rw[hx]
  try dsimp only
  rw[Vj,al hi,aJ,aN hx,ah,lO n hb hix (.inl rfl) (by omega) (by omega),ah,yJ n (ov hb hix h3) (fun e=>by have:=cD pts r 1; rw[e] at this; simp at this; omega) (by rw[cD]; omega) (by rw[cD]; omega),ah,Vm]
  by_cases g:i=0
  subst g;rw[Vj]
  by_cases h:qE (db pts r 1)<0
  rw[au h,ah,eT,Se (show ¬0<qE (db pts r 1) by omega)]; rfl
  rw[aq h,Vl,ah,ek,Sd (show 0<qE (db pts r 1) by omega)]; rfl
  rw[Vl,Vj,ah,Se g]
  by_cases h:0<qE (db pts r 1)
  rw[au h,Sd h]; rfl
  rw[aq h,Se h]; rfl
 ·unfold tT
  try dsimp only
  rw[Vl]
def HZ(hb:df pts){rs:Uu}(hr:rs.length<1000)(ho:∀r∈rs,ku pts.length r=true)(ha:∀r∈rs,qE (db pts r 1)≠0)(hn:1000<n):bh (Am n rs pts F) n 0=some (bt (so pts rs) (.inr ()) rs.length 0):=by
 refine aY (len:=rs.length) (fun i hi=>?_) ?_ rs.length 0 n (by omega) (by omega)
 ·have hx:=R5 hi;generalize rs[i]=r at hx;obtain⟨hix,h3,h4⟩:=dC rfl (ho r (Sf hx));have hne:=ha r (Sf hx);unfold Am so;rw[hx]
  try dsimp only
  rw[Vj,al hi,aJ,aN hx,ah,kZ n hb hix (.inl rfl) (by omega) (by omega),ah,FQ n (ov hb hix h3) (by rw[cD]; omega) (by rw[cD]; omega),ah,ah,Vm]
  by_cases g:i=0
  subst g
  by_cases h:qE (db pts r 1)<0
  rw[Sd h,Se (show ¬0<qE (db pts r 1) by omega)]; rfl
  rw[Se h,Sd (show 0<qE (db pts r 1) by omega)]; rfl
  rw[Se g,Se (show ¬(i:Int)=0 by omega)]
  by_cases h:qE (db pts r 1)<0
  rw[Sd h,Se (show ¬0<qE (db pts r 1) by omega)]; rfl
  rw[Se h,Sd (show 0<qE (db pts r 1) by omega)]; rfl
 ·unfold Am
  try dsimp only
  rw[Vl]
def FX(hb:df pts)(ho:Oj pts F)(ha:∀f∈F,∀r∈f.1::f.2,qE (db pts r 1)≠0)(hF:F.length<1000)(hn:1000<n):bh (ye n F pts) n 0=some (bt (fw (N6 pts) F) (.inr ()) F.length 0):=by
 refine aY (len:=F.length) (fun i hi=>?_) ?_ F.length 0 n (by omega) (by omega)
 ·have hx:=R5 hi;generalize F[i]=f at hx;obtain⟨h8,h9⟩:=jJ (ho f (Sf hx));unfold ye fw Jq N6;rw[hx]
  try dsimp only
  rw[Vj,al hi,aJ,aN hx,ah]
  try dsimp only
  rw[mz n _ _ (by omega),ah,DP n hb (by simp; omega) h9 (ha f (Sf hx)) hn,Vm]
  cases bt (so pts (f.1::f.2)) (.inr ()) (f.1::f.2).length 0<;>rfl
 ·unfold ye
  try dsimp only
  rw[Vl]
def Hb(hb:df pts)(ho:Oj pts F)(ha:∀f∈F,∀r∈f.1::f.2,qE (db pts r 1)≠0)(hF:F.length<1000)(hn:1000<n):bh (yj n F pts) n 0=some (bt (fw (N6 pts) F) (.inr ()) F.length 0):=by
 refine aY (len:=F.length) (fun i hi=>?_) ?_ F.length 0 n (by omega) (by omega)
 ·have hx:=R5 hi;generalize F[i]=f at hx;obtain⟨h8,h9⟩:=jJ (ho f (Sf hx));have h10:=ha f (Sf hx);obtain⟨o,h⟩:=f;replace h8:h.length<=8:=h8;unfold yj fw N6;rw[hx]
  try dsimp only
  rw[Vj,al hi,aJ,aN hx,ah]
  try dsimp only
  rw[vX n _ _ (by omega) hn,ah,HZ n hb (by simp; omega) h9 h10 hn,Vm]
  cases bt (so pts (o::h)) (.inr ()) (o::h).length 0<;>rfl
 ·unfold yj
  try dsimp only
  rw[Vl]
end
end Go.Proofs.YtmndpgfbkicndaaGreat
end
