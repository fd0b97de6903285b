/- A part of the proof. -/
import Derived.Test.YtmndpgfbkicndaaGreatCf4
import Derived.HandedShaped
set_option linter.all false
namespace Go.Proofs.YtmndpgfbkicndaaGreat
section
open Go Go.Ab Go.Ab.W
set_option maxRecDepth 10000
set_option maxHeartbeats 4000000
attribute [local irreducible] Wo Wk At Wn Od Ox bo cb
attribute [local irreducible] Tm.at Trie.set Trie.get Vo.get Vo.set Vo.alloc Vo.ww Vo.kill
variable{p q:Option Prim}
def MV{n l2 l1 a0 c1 a1 c0}{r0:Ux}{e0:Uv}{r}(hF:Qg n l2 l1=some r)(m)(h27:dA m a0 c1 l2)(h28:fa m a1 c0 l1 e0)(h29:(bT ai r0 l1 e0).P m):
 aC (Vr p q) 84 [dZ a0 l2 c1 a1 l1 c0] m (Vn m (.tuple #[.int .i64 r.1,.int .i64 r.2])):=by
 unfold Qg at hF;refine cw Tryz.func84 (U5 (UT (UT (UP m) bQ h27) (bO bQ) h28) (bO (bO bQ)) h29) ?_;refine wz ?_;refine wb fun b0=>?_;refine wa z3 fun b1=>?_;refine wa z3 fun b2=>?_;refine an ?_;refine UX Gt gn rfl fun b4=>?_;refine wa Q3 fun b10=>?_;refine an ?_;obtain⟨l19,h30,hF⟩:=J hF;refine wq (fun l19 (b23:Nat)=>(.func (.func 126) #[] #[ptr b23 0],(cR b23 a0 l2 c1 a1 l1 c0 e0 ai r0 [EB b0 a0 l2 c1 a1 l1 c0,dg b1,dg b2,eJ b10 b4,.obj b4 (.map (l19.map (eM (fun p:Int×Int=>.agg #[.int .i64 p.1,.int .i64 p.2]) (fun b:Bool=>.bool b))))]))) l19 (fun m hm=>?_) ?_;clear hF;revert l19;intro r hF;refine aW (N:=4) (rs:=[.tmp 2]) rfl Tryz.func103 rfl rfl rfl hm ?_;refine wz ?_;refine wb fun b32=>?_;refine an ?_;refine UH (jO rfl rfl) rfl ?_;refine an ?_;cases hF;exact ar b32 [0,8,7,6,5,4,3,1,2];rintro b23;refine wz ?_;refine UK ?_;obtain⟨r10,h31,hF⟩:=J hF;refine Wk.range (N:=50) (rs:=[]) (γ:=Unit) (X:=fun g=>(fun(r:(Int×List ((Int×Int)×Bool)) ⊕(List ((Int×Int)×Bool))) (g:Unit)=>(match r,g with|.inl (v16,l25),_=>⟨.done,(some .ret),(cR b0 a0 l2 c1 a1 l1 c0 e0 ai r0 [GW b1,eZ b2 v16,eJ b10 b4,.obj b4 (.map (l25.map (eM (fun p:Int×Int=>.agg #[.int .i64 p.1,.int .i64 p.2]) (fun b:Bool=>.bool b))))])⟩|.inr l26,_=>⟨.ready,none,(cR b0 a0 l2 c1 a1 l1 c0 e0 ai r0 [dg b1,dg b2,eJ b10 b4,.obj b4 (.map (l26.map (eM (fun p:Int×Int=>.agg #[.int .i64 p.1,.int .i64 p.2]) (fun b:Bool=>.bool b))))])⟩:Rn)) r10 g) rfl rfl Tryz.func126 rfl rfl rfl ?_ (fun y=>by rcases r10 with _|_<;>(intro e; cases e)) ?_
 clear hF;revert r10;intro r hF;intro t1 l6 r5 h32 h33;refine wz ?_;refine UK ?_;obtain⟨r20,h1,hF⟩:=J hF;refine ct (fun(r:(Int×List ((Int×Int)×Bool)) ⊕(List ((Int×Int)×Bool))) (g:Unit)=>match r,g with|.inl (v17,l27),_=>⟨.ret,[],(.obj l6 (r5 .done (some .ret))::cR b0 a0 l2 c1 a1 l1 c0 e0 ai r0 [GW b1,eZ b2 v17,eJ b10 b4,.obj b4 (.map (l27.map (eM (fun p:Int×Int=>.agg #[.int .i64 p.1,.int .i64 p.2]) (fun b:Bool=>.bool b))))])⟩|.inr l28,_=>⟨(.exit 0),[],(.obj l6 (r5 .ready none)::cR b0 a0 l2 c1 a1 l1 c0 e0 ai r0 [dg b1,dg b2,eJ b10 b4,.obj b4 (.map (l28.map (eM (fun p:Int×Int=>.agg #[.int .i64 p.1,.int .i64 p.2]) (fun b:Bool=>.bool b))))])⟩) r20 ?_ ?_
 refine lo h1 () [0,3,4,5,2,6,7,8,9] (fun(v4,l29) _=>⟨.normal,((0,.func (.yield l6) #[] #[])::zP a1 l1 c0 v4 []),[.obj l6 (r5 .ready none),sd a1 c0 l1 e0,iH ai r0 l1 e0,EB b0 a0 l2 c1 a1 l1 c0,gr a0 c1 l2,dg b1,dg b2,eJ b10 b4,.obj b4 (.map (l29.map (eM (fun p:Int×Int=>.agg #[.int .i64 p.1,.int .i64 p.2]) (fun b:Bool=>.bool b))))]⟩) ?_;clear hF h1;rintro⟨v4,l29⟩ ⟨⟩ r hF;unfold qJ at hF;refine wz ?_;refine UJ ?_;rcases U hF with⟨h34,hF⟩|⟨h34,hF⟩;refine an ?_;obtain⟨h35,hF⟩:=bI hF;refine UY (k:=1) rfl (az h35) ?_;rintro b9 o4 rfl;refine wz ?_;obtain⟨⟨l44,l45⟩,h36,hF⟩:=J hF;refine wl 2 0 3 0 h36 ?_;rintro⟨⟨a28,c14⟩,⟨a29,c15,e8⟩⟩;refine wa z31 fun b40=>?_;refine an ?_;obtain⟨l13,h37,hF⟩:=J hF;refine vN gn (fun m hm=>jx h37 m hm.cy (hm.q 1) (hm.no 1) (hm.q 2) (hm.no 2) (hm.dp (q:=3) rfl) (hm.dw (q:=3) rfl)) ?_;rintro⟨a20,c7,n0,e6,r9⟩;refine Vb (k:=0) (q:=1) (L:=l13) rfl (.inr (.inl ⟨_,rfl⟩)) rfl ?_;rintro rfl;refine wz ?_;refine UK ?_;obtain⟨r21,h2,hF⟩:=J hF;refine ct (fun(r:(List ((Int×Int)×Bool)) ⊕(List ((Int×Int)×Bool))) (g:Unit)=>match r,g with|.inl l30,_=>⟨.ret,[],(.obj l6 (r5 .done (some .ret))::fg b0 a0 l2 c1 b9 o4 l1 c0 e0 ai r0 [GW b1,eZ b2 v4,eJ b10 b4,.obj b4 (.map (l30.map (eM (fun p:Int×Int=>.agg #[.int .i64 p.1,.int .i64 p.2]) (fun b:Bool=>.bool b))))])⟩|.inr l31,_=>⟨(.exit 2),((0,.func (.yield l6) #[] #[])::tj b9 o4 l1 c0 v4 []),(.obj l6 (r5 .ready none)::rI b9 o4 l1 e0 ai r0 c0 (qW b0 a0 l2 c1 b9 o4 l1 c0 b1 b2 [eJ b10 b4,.obj b4 (.map (l31.map (eM (fun p:Int×Int=>.agg #[.int .i64 p.1,.int .i64 p.2]) (fun b:Bool=>.bool b))))]))⟩) r21 ?_ ?_
 refine lo h2 () [7,6,9,8,0,1,10,11,12,13,14,15] (fun(v7,l32) _=>⟨.normal,((0,.func (.yield l6) #[] #[])::(3,aL v4)::tj b9 o4 l1 c0 v4 [(18,bl a20 l13 c7),(19,eh l13),(20,aL v7)]),(.obj l6 (r5 .ready none)::rI b9 o4 l1 e0 ai r0 c0 (ff a20 c7 l13 e6 ba r9 (qW b0 a0 l2 c1 b9 o4 l1 c0 b1 b2 [eJ b10 b4,.obj b4 (.map (l32.map (eM (fun p:Int×Int=>.agg #[.int .i64 p.1,.int .i64 p.2]) (fun b:Bool=>.bool b))))])))⟩) ?_;clear hF h2;rintro⟨v7,l32⟩ ⟨⟩ r hF;unfold qx at hF;refine wz ?_;refine UJ ?_;rcases U hF with⟨h38,hF⟩|⟨h38,hF⟩;refine an ?_;obtain⟨h39,hF⟩:=bI hF;refine UY (k:=4) rfl (az h39) ?_;rintro b19 o10 rfl;refine wz ?_;obtain⟨l16,h40,hF⟩:=J hF;refine wl 1 0 6 0 h40 ?_;rintro⟨a10,c9⟩;refine an ?_;refine UK ?_;obtain⟨r22,h3,hF⟩:=J hF;refine ct (fun(r:(List ((Int×Int)×Bool)) ⊕(List ((Int×Int)×Bool))) (g:Unit)=>match r,g with|.inl l33,_=>⟨.ret,[],(.obj l6 (r5 .done (some .ret))::fg b0 a0 l2 c1 b9 o4 l1 c0 e0 ai r0 [GW b1,eZ b2 v4,eJ b10 b4,.obj b4 (.map (l33.map (eM (fun p:Int×Int=>.agg #[.int .i64 p.1,.int .i64 p.2]) (fun b:Bool=>.bool b))))])⟩|.inr l34,_=>⟨(.exit 4),((0,.func (.yield l6) #[] #[])::(3,aL v4)::tj b9 o4 l1 c0 v4 (uo b19 o10 l13 c7 v7 [])),(.obj l6 (r5 .ready none)::rI b9 o4 l1 e0 ai r0 c0 (iV b19 o10 l13 e6 ba r9 c7 (qW b0 a0 l2 c1 b9 o4 l1 c0 b1 b2 [eJ b10 b4,.obj b4 (.map (l34.map (eM (fun p:Int×Int=>.agg #[.int .i64 p.1,.int .i64 p.2]) (fun b:Bool=>.bool b))))])))⟩) r22 ?_ ?_
 refine lo h3 () [2,0,3,4,5,1,7,6,8,9,10,11,12,13] (fun(v18,l17) _=>⟨.normal,((0,.func (.yield l6) #[] #[])::(3,aL v4)::(5,aL v7)::(6,bl a10 l16 c9)::tj b9 o4 l1 c0 v4 (uo b19 o10 l13 c7 v7 [(25,bl a10 l16 c9),(26,eh l16),(27,aL v18)])),(.obj l6 (r5 .ready none)::k9 a10 c9 l16::rI b9 o4 l1 e0 ai r0 c0 (iV b19 o10 l13 e6 ba r9 c7 (qW b0 a0 l2 c1 b9 o4 l1 c0 b1 b2 [eJ b10 b4,.obj b4 (.map (l17.map (eM (fun p:Int×Int=>.agg #[.int .i64 p.1,.int .i64 p.2]) (fun b:Bool=>.bool b))))])))⟩) ?_;clear hF h3;rintro⟨v18,l17⟩ ⟨⟩ r hF;unfold qI at hF;refine wz ?_;refine UJ ?_;rcases U hF with⟨h41,hF⟩|⟨h41,hF⟩;refine an ?_;obtain⟨h42,hF⟩:=bI hF;refine UY (k:=1) rfl (az h42) ?_;rintro b24 o12 rfl;refine wz ?_;obtain⟨x12,h108,hF⟩:=J hF;refine an ?_;obtain⟨h43,hF⟩:=aA hF;refine UH (aI rfl rfl (bZ _ _ h43)) rfl ?_;obtain⟨h109,hF⟩:=bI hF;refine wz ?_;obtain⟨x13,h110,hF⟩:=J hF;refine wz ?_;refine UH (cj rfl q7 rfl (cm zu rfl rfl rfl)) rfl ?_;obtain⟨r11,h15,hF⟩:=J hF;refine UX (vU (k:=1) (k1:=0) (γA:=Nat) (GA:=(fun g:Nat=>(match g with|b22=>⟨.normal,(ra b1 b2 [(4,ptr b10 0),(5,ptr b22 0)]),(.obj l6 (r5 .ready none)::dg b1::dg b2::eJ b10 b4::.obj b4 (.map (l17.map (eM (fun p:Int×Int=>.agg #[.int .i64 p.1,.int .i64 p.2]) (fun b:Bool=>.bool b))))::fG b22 x12 x13 v4 v7::fg b0 a0 l2 c1 b9 o4 l1 c0 e0 ai r0 (oU b24 o12 l16 c9 (iV b19 o10 l13 e6 ba r9 c7 [])))⟩:En))) (γ:=Unit) (G:=fun g=>(fun(r:(Unit) ⊕(Unit)) (g:Unit)=>(match r,g with|.inl _,_=>⟨.ret,[],(.obj l6 (r5 .busy none)::fg b0 a0 l2 c1 b9 o4 l1 c0 e0 ai r0 (GW b1::eZ b2 v4::eJ b10 b4::.obj b4 (.map (l17.map (eM (fun p:Int×Int=>.agg #[.int .i64 p.1,.int .i64 p.2]) (fun b:Bool=>.bool b))))::oU b24 o12 l16 c9 (iV b19 o10 l13 e6 ba r9 c7 [])))⟩|.inr _,_=>⟨.normal,[],(.obj l6 (r5 .busy none)::fg b0 a0 l2 c1 b9 o4 l1 c0 e0 ai r0 (dg b1::dg b2::eJ b10 b4::.obj b4 (.map ((jP l17 (x12,x13) true).map (eM (fun p:Int×Int=>.agg #[.int .i64 p.1,.int .i64 p.2]) (fun b:Bool=>.bool b))))::oU b24 o12 l16 c9 (iV b19 o10 l13 e6 ba r9 c7 [])))⟩:En)) r11 g) rfl rfl rfl h33 h32 rfl ?_ (fun _=>rfl) (fun _=>rfl) ?_ (fun y=>by rcases r11 with _|_<;>rfl)) gn rfl ?_
 clear hF h15;refine UM<|wa q7 fun b33=>?_;refine wz ?_;exact ae b33 [2,12,13,14,15,0,10,11,4,5,6,1,3,7,8,9];clear hF;revert r11;intro r hF;rintro b22;refine wz ?_;refine UH (cj rfl Ko rfl (cm Ge rfl rfl rfl)) rfl ?_;obtain⟨y0,h44,hF⟩:=J hF;refine UH (Lq (q:=4) (xs:=l17) (k:=(x12,x13)) (vE:=(fun b:Bool=>.bool b)) (z0:=false) PH (JK JT bX.known bX.size bX.agg u3) z4 rfl rfl rfl rfl h44) rfl ?_;refine wz ?_;rcases U hF with⟨h16,hF⟩|⟨h16,hF⟩;refine U8 rfl h16<|UJ<|U3 (prs:=[(1,2)]) (by kernel_rfl)<|UI (aM (r:=ptr b22 2) rfl (mZ _ _)) rfl<|U6 rfl (aD (k:=5) bX rfl rfl rfl) rfl<|Wn.AR rfl (dK (k:=1) bX rfl rfl rfl rfl rfl)<|Vc (dK (k:=2) bX rfl rfl rfl rfl rfl)<|U0 (fun m hm=>(cq.rw rfl rfl rfl (hm.ne (i:=5) (j:=1) rfl rfl rfl rfl (by decide) rfl) cq.nil)) ?_
 refine an ?_;cases hF;exact ae () [0,6,7,8,9,10,1,2,3,4,11,12,13,14,15];refine an ?_;refine UH (cj rfl Ko rfl (cm Ge rfl rfl rfl)) rfl<|Vf (Dq (q:=4) (xs:=l17) (k:=(x12,x13)) (v:=true) (vE:=(fun b:Bool=>.bool b)) PH (JK JT bX.known bX.size bX.agg u3) rfl rfl rfl rfl) ?_;refine wz ?_;cases hF;exact ae () [0,6,7,8,9,10,1,2,3,4,11,12,13,14,15];rcases r11 with _|_;rintro⟨⟩;refine an ?_;cases hF;exact ae () (Vh 0 10);rintro⟨⟩;refine dM ?_;cases hF;exact ae () [0,11,3,4,5,12,13,14,1,2,6,7,8,9];refine wz ?_;cases hF;exact ae () (0::Vh 2 12);rcases r22 with l33|l34;rintro⟨⟩;refine wz ?_;cases hF;exact ae () (Vh 0 10);rintro⟨⟩;refine an ?_;cases hF;exact ae () (0::1::2::3::6::5::Vh 7 6);refine wz ?_;cases hF;exact ae () (0::1::2::3::Vh 6 6);rcases r21 with l30|l31;rintro⟨⟩;refine wz ?_;cases hF;exact ae () [0,1,2,5,4,6,7,8,9];rintro⟨⟩;refine an ?_;cases hF;exact ae () (0::3::2::Vh 4 6);refine wz ?_;cases hF;exact ae () [0,3,4,1,2,5,6,7,8];rcases r20 with⟨v17,l27⟩|l28;rintro⟨⟩;refine At.br ?_;cases hF;exact U1 .nil fun m' hm=>⟨(),(UN [0,1,2,3,4,5,6,7,8] rfl rfl) m' hm⟩;rintro⟨⟩;refine At.be ?_;cases hF;exact At.fin .nil fun m' hm=>⟨(),(UN [0,1,2,3,4,5,6,7,8] rfl rfl) m' hm⟩;rcases r10 with⟨v16,l25⟩|l26;rintro⟨⟩
 change Wk _ _ _ _ .ret _ _ _ _
 refine wz ?_;cases hF;exact U1 (.cell (k:=4) bX rfl rfl rfl (.cell (k:=5) bX rfl rfl rfl .nil)) fun m' hm=>⟨(),rfl,(UN [] rfl rfl) m' hm⟩;rintro⟨⟩
 change At _ .normal _ _ _
 refine an ?_;refine wa Q9 fun b7=>?_;refine an ?_;obtain⟨r23,h45,hF⟩:=J hF;refine wq (fun _ (b25:Nat)=>(.func (.func 126) #[] #[ptr b25 0],(cR b25 a0 l2 c1 a1 l1 c0 e0 ai r0 [EB b0 a0 l2 c1 a1 l1 c0,dg b1,dg b2,.obj b7 (.cells [.slice none 0 0] .own)]))) r23 (fun m hm=>?_) ?_;clear hF;revert r23;intro r hF;refine aW (N:=4) (rs:=[.tmp 2]) rfl Tryz.func103 rfl rfl rfl hm ?_;refine wz ?_;refine wb fun b34=>?_;refine an ?_;refine UH (jO rfl rfl) rfl ?_;refine an ?_;cases hF;exact ar b34 [0,3,4,5,2,6,7,1];rintro b25;refine wz ?_;refine UK ?_;obtain⟨r12,h46,hF⟩:=J hF;refine Wk.range (N:=50) (rs:=[]) (γ:=Uw) (X:=fun g=>(fun(r:(Int×List (Us)) ⊕(List (Us))) (g:Uw)=>(match r,g with|.inl (v19,l21),a11=>⟨.done,(some .ret),(cR b0 a0 l2 c1 a1 l1 c0 e0 ai r0 [GX b1,eZ b2 v19,AY b7 a11 l21,lj a11 l21])⟩|.inr l35,a21=>⟨.ready,none,(cR b0 a0 l2 c1 a1 l1 c0 e0 ai r0 (q8 b1 b2 b7 a21 l35 []))⟩:Rn)) r12 g) rfl rfl Tryz.func126 rfl rfl rfl ?_ (fun y=>by rcases r12 with _|_<;>(intro e; cases e)) ?_
 clear hF;revert r12;intro r hF;intro t2 l3 r1 h47 h48;refine wz ?_;refine UK ?_;obtain⟨r24,h4,hF⟩:=J hF;refine ct (fun(r:(Int×List (Us)) ⊕(List (Us))) (g:Uw)=>match r,g with|.inl (v20,l22),a4=>⟨.ret,[],(.obj l3 (r1 .done (some .ret))::cR b0 a0 l2 c1 a1 l1 c0 e0 ai r0 [GX b1,eZ b2 v20,AY b7 a4 l22,lj a4 l22])⟩|.inr l36,a12=>⟨(.exit 0),[],(.obj l3 (r1 .ready none)::cR b0 a0 l2 c1 a1 l1 c0 e0 ai r0 (q8 b1 b2 b7 a12 l36 []))⟩) r24 ?_ ?_
 refine lw h4 none (fun(v0,l37) a5=>⟨.normal,((0,.func (.yield l3) #[] #[])::zP a1 l1 c0 v0 []),(.obj l3 (r1 .ready none)::sd a1 c0 l1 e0::iH ai r0 l1 e0::EB b0 a0 l2 c1 a1 l1 c0::gr a0 c1 l2::q8 b1 b2 b7 a5 l37 [])⟩) (UQ (Vd 4 rfl) (UN [1,4,5,6,3,7,8,9,0] rfl rfl)) ?_;clear hF h4;rintro⟨v0,l37⟩ a5 r hF;unfold qT at hF;refine wz ?_;refine UJ ?_;rcases U hF with⟨h49,hF⟩|⟨h49,hF⟩;refine an ?_;obtain⟨h50,hF⟩:=bI hF;refine UY (k:=1) rfl (az h50) ?_;rintro b6 o2 rfl;refine wz ?_;obtain⟨⟨l46,l47⟩,h51,hF⟩:=J hF;refine wl 2 0 3 0 h51 ?_;rintro⟨⟨a30,c16⟩,⟨a31,c17,e9⟩⟩;refine wa z31 fun b41=>?_;refine an ?_;obtain⟨l7,h52,hF⟩:=J hF;refine vN gn (fun m hm=>jx h52 m hm.cy (hm.q 1) (hm.no 1) (hm.q 2) (hm.no 2) (hm.dp (q:=3) rfl) (hm.dw (q:=3) rfl)) ?_;rintro⟨a22,c2,n1,e1,r6⟩;refine Vb (k:=0) (q:=1) (L:=l7) rfl (.inr (.inl ⟨_,rfl⟩)) rfl ?_;rintro rfl;refine wz ?_;refine UK ?_;obtain⟨r25,h5,hF⟩:=J hF;refine ct (fun(r:(List (Us)) ⊕(List (Us))) (g:Uw)=>match r,g with|.inl l23,a6=>⟨.ret,[],(.obj l3 (r1 .done (some .ret))::fg b0 a0 l2 c1 b6 o2 l1 c0 e0 ai r0 [GX b1,eZ b2 v0,AY b7 a6 l23,lj a6 l23])⟩|.inr l38,a13=>⟨(.exit 2),((0,.func (.yield l3) #[] #[])::tj b6 o2 l1 c0 v0 []),(.obj l3 (r1 .ready none)::rI b6 o2 l1 e0 ai r0 c0 (Ou b0 a0 l2 c1 b6 o2 l1 c0::gr a0 c1 l2::q8 b1 b2 b7 a13 l38 []))⟩) r25 ?_ ?_
 refine lo h5 a5 [7,6,9,8,0,1,10,11,12,13,14,15] (fun(v5,l39) a7=>⟨.normal,((0,.func (.yield l3) #[] #[])::(3,aL v0)::tj b6 o2 l1 c0 v0 [(18,bl a22 l7 c2),(19,eh l7),(20,aL v5)]),(.obj l3 (r1 .ready none)::rI b6 o2 l1 e0 ai r0 c0 (ff a22 c2 l7 e1 ba r6 (Ou b0 a0 l2 c1 b6 o2 l1 c0::gr a0 c1 l2::q8 b1 b2 b7 a7 l39 [])))⟩) ?_;clear hF h5;rintro⟨v5,l39⟩ a7 r hF;unfold qu at hF;refine wz ?_;refine UJ ?_;rcases U hF with⟨h53,hF⟩|⟨h53,hF⟩;refine an ?_;obtain⟨h54,hF⟩:=bI hF;refine UY (k:=4) rfl (az h54) ?_;rintro b11 o5 rfl;refine wz ?_;obtain⟨l11,h55,hF⟩:=J hF;refine wl 1 0 6 0 h55 ?_;rintro⟨a14,c4⟩;refine an ?_;refine UK ?_;obtain⟨r26,h6,hF⟩:=J hF;refine ct (fun(r:(List (Us)) ⊕(List (Us))) (g:Uw)=>match r,g with|.inl l24,a8=>⟨.ret,[],(.obj l3 (r1 .done (some .ret))::fg b0 a0 l2 c1 b6 o2 l1 c0 e0 ai r0 [GX b1,eZ b2 v0,AY b7 a8 l24,lj a8 l24])⟩|.inr l40,a15=>⟨(.exit 4),((0,.func (.yield l3) #[] #[])::(3,aL v0)::tj b6 o2 l1 c0 v0 (uo b11 o5 l7 c2 v5 [])),(.obj l3 (r1 .ready none)::rI b6 o2 l1 e0 ai r0 c0 (iV b11 o5 l7 e1 ba r6 c2 (Ou b0 a0 l2 c1 b6 o2 l1 c0::gr a0 c1 l2::q8 b1 b2 b7 a15 l40 [])))⟩) r26 ?_ ?_
 refine lo h6 a7 [2,0,3,4,5,1,7,6,8,9,10,11,12,13] (fun(v21,l9) a2=>⟨.normal,((0,.func (.yield l3) #[] #[])::(3,aL v0)::(5,aL v5)::(6,bl a14 l11 c4)::tj b6 o2 l1 c0 v0 (uo b11 o5 l7 c2 v5 [(25,bl a14 l11 c4),(26,eh l11),(27,aL v21)])),(.obj l3 (r1 .ready none)::k9 a14 c4 l11::rI b6 o2 l1 e0 ai r0 c0 (iV b11 o5 l7 e1 ba r6 c2 (Ou b0 a0 l2 c1 b6 o2 l1 c0::gr a0 c1 l2::q8 b1 b2 b7 a2 l9 [])))⟩) ?_;clear hF h6;rintro⟨v21,l9⟩ a2 r hF;unfold qM at hF;refine wz ?_;refine UJ ?_;rcases U hF with⟨h56,hF⟩|⟨h56,hF⟩;refine an ?_;obtain⟨h57,hF⟩:=bI hF;refine UY (k:=1) rfl (az h57) ?_;rintro b16 o8 rfl;refine wz ?_;obtain⟨x3,h111,hF⟩:=J hF;refine an ?_;obtain⟨h58,hF⟩:=aA hF;refine UH (aI rfl rfl (bZ _ _ h58)) rfl ?_;obtain⟨h112,hF⟩:=bI hF;refine wz ?_;obtain⟨x4,h113,hF⟩:=J hF;refine wz ?_;refine UH (cj rfl q7 rfl (cm zu rfl rfl rfl)) rfl ?_;obtain⟨r13,h17,hF⟩:=J hF;refine UX (vU (k:=1) (k1:=0) (γA:=Nat) (GA:=(fun g:Nat=>(match g with|b14=>⟨.normal,((1,ptr b0 0)::ra b1 b2 [(6,ptr b7 0),(7,ptr b14 0)]),(.obj l3 (r1 .ready none)::fg b0 a0 l2 c1 b6 o2 l1 c0 e0 ai r0 (q8 b1 b2 b7 a2 l9 (fG b14 x3 x4 v0 v5::oU b16 o8 l11 c4 (iV b11 o5 l7 e1 ba r6 c2 []))))⟩:En))) (γ:=Uw) (G:=fun g=>(fun(r:(Unit) ⊕(List (Us))) (g:Uw)=>(match r,g with|.inl _,_=>⟨.ret,[],(.obj l3 (r1 .busy none)::fg b0 a0 l2 c1 b6 o2 l1 c0 e0 ai r0 (GX b1::eZ b2 v0::AY b7 a2 l9::lj a2 l9::oU b16 o8 l11 c4 (iV b11 o5 l7 e1 ba r6 c2 [])))⟩|.inr l41,a16=>⟨.normal,[],(.obj l3 (r1 .busy none)::fg b0 a0 l2 c1 b6 o2 l1 c0 e0 ai r0 (q8 b1 b2 b7 a16 l41 (oU b16 o8 l11 c4 (iV b11 o5 l7 e1 ba r6 c2 []))))⟩:En)) r13 g) rfl rfl rfl h48 h47 rfl ?_ (fun _=>rfl) (fun _=>rfl) ?_ (fun y=>by rcases r13 with _|_<;>rfl)) gn rfl ?_
 clear hF h17;refine UM<|wa q7 fun b35=>?_;refine wz ?_;exact ae b35 [2,10,11,4,5,6,12,13,14,15,0,1,3,7,8,9];clear hF;revert r13;intro r hF;rintro b14;refine wz ?_;refine UH (jO rfl rfl) rfl ?_;obtain⟨v8,h59,hF⟩:=J hF;refine wq (fun v8 (_:Unit)=>(.int .i64 v8,(.obj l3 (r1 .busy none)::fg b0 a0 l2 c1 b6 o2 l1 c0 e0 ai r0 (q8 b1 b2 b7 a2 l9 (oU b16 o8 l11 c4 (iV b11 o5 l7 e1 ba r6 c2 [fG b14 x3 x4 v0 v5])))))) v8 (fun m hm=>?_) ?_;clear hF;revert v8;intro r hF;refine aW (N:=19) (rs:=[.tmp 4]) rfl Tryz.func111 rfl rfl rfl hm ?_;refine an ?_;refine UK ?_;obtain⟨r27,h7,hF⟩:=J hF;refine ct (fun(r:(Int) ⊕(Unit)) (g:Unit)=>match r,g with|.inl v22,_=>⟨.ret,[(4,aL v22)],(.obj l3 (r1 .busy none)::fg b0 a0 l2 c1 b6 o2 l1 c0 e0 ai r0 (q8 b1 b2 b7 a2 l9 (oU b16 o8 l11 c4 (iV b11 o5 l7 e1 ba r6 c2 [fG b14 x3 x4 v0 v5]))))⟩|.inr _,_=>⟨(.exit 0),[],(.obj l3 (r1 .busy none)::fg b0 a0 l2 c1 b6 o2 l1 c0 e0 ai r0 (q8 b1 b2 b7 a2 l9 (oU b16 o8 l11 c4 (iV b11 o5 l7 e1 ba r6 c2 [fG b14 x3 x4 v0 v5]))))⟩) r27 ?_ ?_
 refine lo h7 () [0,1,2,3,4,5,10,9,6,7,8,11,12,13,14,15] (fun v23 _=>⟨.normal,[(1,.func (.func 112) #[] #[ptr b0 0,ptr b14 0]),(7,bU a2 l9),(8,eh l9),(9,aL v23)],(.obj l3 (r1 .busy none)::fg b0 a0 l2 c1 b6 o2 l1 c0 e0 ai r0 (fG b14 x3 x4 v0 v5::lj a2 l9::dg b1::dg b2::AY b7 a2 l9::oU b16 o8 l11 c4 (iV b11 o5 l7 e1 ba r6 c2 [])))⟩) ?_;clear hF h7;rintro v23 ⟨⟩ r hF;unfold rO at hF;refine wz ?_;refine UJ ?_;rcases U hF with⟨h60,hF⟩|⟨h60,hF⟩;refine an ?_;obtain⟨h61,hF⟩:=bI hF;refine U9 (k:=7) rfl (az h61) ?_;rintro b28 t0 rfl h114;refine wz ?_;obtain⟨⟨x16,x17,x18,x19⟩,h115,hF⟩:=J hF;refine wz ?_;refine wa q7 fun b42=>?_;refine an ?_;obtain⟨v9,h62,hF⟩:=J hF;refine wq (fun v9 (_:Unit)=>(.bool v9,(.obj l3 (r1 .busy none)::fg b0 a0 l2 c1 b6 o2 l1 c0 e0 ai r0 (dg b1::dg b2::.obj b7 (.cells [re b28 l9] .own)::qX b28 l9 t0::oU b16 o8 l11 c4 (iV b11 o5 l7 e1 ba r6 c2 [fG b14 x3 x4 v0 v5]))))) v9 (fun m hm=>?_) ?_;clear hF;revert v9;intro r hF;refine aW (N:=9) (rs:=[.tmp 4]) rfl Tryz.func112 rfl rfl rfl hm ?_;refine wz ?_;refine wb fun b43=>?_;refine an ?_;obtain⟨r37,h63,hF⟩:=J hF;refine wc gn (fun m hm=>IY h63 m (hm.q 4) (hm.q 7) (hm.dp (q:=6) rfl)) ?_;rintro⟨⟩;refine an ?_;obtain rfl:=R9 hF;exact ar () [2,3,4,5,6,7,10,11,12,9,13,14,15,16,17,8];rintro⟨⟩;refine wz ?_;rcases U hF with⟨h64,hF⟩|⟨h64,hF⟩;refine an ?_;cases hF;exact aT () (UQ (UO (k:=9) rfl) (UN [0,1,2,3,4,5,6,7,8,9,10,11,12,13,14,15] rfl rfl));refine an ?_;cases hF;exact aT () (UQ (UO (k:=9) rfl) (UN [0,1,2,3,4,5,15,9,6,7,8,10,11,12,13,14] rfl rfl));refine wz ?_;cases hF;exact ae () [0,1,2,3,4,5,8,9,10,7,11,12,13,14,15,6];rcases r27 with v22|_;rintro⟨⟩;refine wz ?_;obtain rfl:=R9 hF;exact ar () (Vh 0 16);rintro⟨⟩;refine dM ?_;cases hF;exact ar () (Vh 0 16);rintro⟨⟩;refine wz ?_;rcases U hF with⟨h18,hF⟩|⟨h18,hF⟩;refine U8 rfl h18<|UJ<|U3 (prs:=[(1,2)]) (by kernel_rfl)<|UI (aM (r:=ptr b14 2) rfl (mZ _ _)) rfl<|U6 rfl (aD (k:=15) bX rfl rfl rfl) rfl<|Wn.AR rfl (dK (k:=6) bX rfl rfl rfl rfl rfl)<|Vc (dK (k:=7) bX rfl rfl rfl rfl rfl)<|U0 (fun m hm=>(cq.rw rfl rfl rfl (hm.ne (i:=15) (j:=6) rfl rfl rfl rfl (by decide) rfl) cq.nil)) ?_
 refine an ?_;cases hF;exact ae none (Vh 0 15);refine an ?_;refine UX (cu (es:=([(x3,x4,v0,v5)]:List (Us)).map (eP (eI .i64) (eP (eI .i64) (eP (eI .i64) (eI .i64))))) J4 rfl (cx J4 q7 rfl rfl) rfl rfl) gn rfl fun b44=>?_;obtain⟨h65,hF⟩:=aA hF;refine UX (ph (k:=10) (k2:=0) (xs:=(l9:List (Us))) (ys:=([(x3,x4,v0,v5)]:List (Us))) (Ar (py .i64) (Ar (py .i64) (Ar (py .i64) (py .i64)))) J4 ⟨_,Py⟩ rfl rfl rfl (.arr _ _ _ _ _) h65) gn rfl fun a27=>?_;refine wz ?_;cases hF;exact ae a27 (Vh 1 15);rcases r13 with _|l41;rintro g0;refine an ?_;cases hF;exact ae a2 (Vh 0 10);rintro a16;refine dM ?_;cases hF;exact ae a16 [0,11,3,4,5,12,13,14,1,2,6,7,8,9];refine wz ?_;cases hF;exact ae a2 (0::Vh 2 12);rcases r26 with l24|l40;rintro a8;refine wz ?_;cases hF;exact ae a8 (Vh 0 10);rintro a15;refine an ?_;cases hF;exact ae a15 (0::1::2::3::6::5::Vh 7 6);refine wz ?_;cases hF;exact ae a7 (0::1::2::3::Vh 6 6);rcases r25 with l23|l38;rintro a6;refine wz ?_;cases hF;exact ae a6 [0,1,2,5,4,6,7,8,9];rintro a13;refine an ?_;cases hF;exact ae a13 (0::3::2::Vh 4 6);refine wz ?_;cases hF;exact ae a5 [0,3,4,1,2,5,6,7,8];rcases r24 with⟨v20,l22⟩|l36;rintro a4;refine At.br ?_;cases hF;exact U1 .nil fun m' hm=>⟨a4,(UN [0,1,2,3,4,5,6,7,8] rfl rfl) m' hm⟩;rintro a12;refine At.be ?_;cases hF;exact At.fin .nil fun m' hm=>⟨a12,(UN [0,1,2,3,4,5,6,7,8] rfl rfl) m' hm⟩;rcases r12 with⟨v19,l21⟩|l35;rintro a11
 change Wk _ _ _ _ .ret _ _ _ _
 refine wz ?_;cases hF;exact U1 (.cell (k:=4) bX rfl rfl rfl (.cell (k:=5) bX rfl rfl rfl .nil)) fun m' hm=>⟨(),rfl,(UN [] rfl rfl) m' hm⟩;rintro a21
 change At _ .normal _ _ _
 refine an ?_;refine UH (jO rfl rfl) rfl<|wa z138 fun b3=>?_;refine an ?_;obtain⟨r28,h66,hF⟩:=J hF;refine wq (fun _ (b26:Nat)=>(.func (.func 126) #[] #[ptr b26 0],(cR b26 a0 l2 c1 a1 l1 c0 e0 ai r0 [EB b0 a0 l2 c1 a1 l1 c0,dg b1,dg b2,.obj b3 (.cells [.func (.func 114) #[] #[ptr b0 0]] .own)]))) r28 (fun m hm=>?_) ?_;clear hF;revert r28;intro r hF;refine aW (N:=4) (rs:=[.tmp 2]) rfl Tryz.func103 rfl rfl rfl hm ?_;refine wz ?_;refine wb fun b36=>?_;refine an ?_;refine UH (jO rfl rfl) rfl ?_;refine an ?_;cases hF;exact ar b36 [0,3,4,5,2,6,7,1];rintro b26;refine wz ?_;refine UK ?_;obtain⟨r14,h67,hF⟩:=J hF;refine Wk.range (N:=50) (rs:=[]) (γ:=Unit) (X:=fun g=>(fun(r:(Int) ⊕(Unit)) (g:Unit)=>(match r,g with|.inl v24,_=>⟨.done,(some .ret),(cR b0 a0 l2 c1 a1 l1 c0 e0 ai r0 [Fv b1,eZ b2 v24,.obj b3 (.cells [.func (.func 114) #[] #[ptr b0 0]] .own)])⟩|.inr _,_=>⟨.ready,none,(cR b0 a0 l2 c1 a1 l1 c0 e0 ai r0 [dg b1,dg b2,.obj b3 (.cells [.func (.func 114) #[] #[ptr b0 0]] .own)])⟩:Rn)) r14 g) rfl rfl Tryz.func126 rfl rfl rfl ?_ (fun y=>by rcases r14 with _|_<;>(intro e; cases e)) ?_
 clear hF;revert r14;intro r hF;intro t3 l5 r4 h68 h69;refine wz ?_;refine UK ?_;obtain⟨r29,h8,hF⟩:=J hF;refine ct (fun(r:(Int) ⊕(Unit)) (g:Unit)=>match r,g with|.inl v25,_=>⟨.ret,[],(.obj l5 (r4 .done (some .ret))::cR b0 a0 l2 c1 a1 l1 c0 e0 ai r0 [Fv b1,eZ b2 v25,.obj b3 (.cells [.func (.func 114) #[] #[ptr b0 0]] .own)])⟩|.inr _,_=>⟨(.exit 0),[],(.obj l5 (r4 .ready none)::cR b0 a0 l2 c1 a1 l1 c0 e0 ai r0 [dg b1,dg b2,.obj b3 (.cells [.func (.func 114) #[] #[ptr b0 0]] .own)])⟩) r29 ?_ ?_
 refine lo h8 () [0,3,4,5,2,6,7,8] (fun v3 _=>⟨.normal,((0,.func (.yield l5) #[] #[])::zP a1 l1 c0 v3 []),[.obj l5 (r4 .ready none),sd a1 c0 l1 e0,iH ai r0 l1 e0,EB b0 a0 l2 c1 a1 l1 c0,gr a0 c1 l2,dg b1,dg b2,.obj b3 (.cells [.func (.func 114) #[] #[ptr b0 0]] .own)]⟩) ?_;clear hF h8;rintro v3 ⟨⟩ r hF;unfold mA at hF;refine wz ?_;refine UJ ?_;rcases U hF with⟨h70,hF⟩|⟨h70,hF⟩;refine an ?_;obtain⟨h71,hF⟩:=bI hF;refine UY (k:=1) rfl (az h71) ?_;rintro b8 o3 rfl;refine wz ?_;obtain⟨⟨l20,l14⟩,h19,hF⟩:=J hF;refine wl 2 0 3 0 h19 ?_;rintro⟨⟨a32,c18⟩,⟨a33,c19,e10⟩⟩;refine wa z31 fun b45=>?_;refine an ?_;obtain⟨l10,h72,hF⟩:=J hF;refine vN gn (fun m hm=>jx h72 m hm.cy (hm.q 1) (hm.no 1) (hm.q 2) (hm.no 2) (hm.dp (q:=3) rfl) (hm.dw (q:=3) rfl)) ?_;rintro⟨a23,c5,n2,e5,r8⟩;refine Vb (k:=0) (q:=1) (L:=l10) rfl (.inr (.inl ⟨_,rfl⟩)) rfl ?_;rintro rfl;refine wz ?_;refine UK ?_;obtain⟨r30,h9,hF⟩:=J hF;refine ct (fun(r:(Unit) ⊕(Unit)) (g:Unit)=>match r,g with|.inl _,_=>⟨.ret,[],(.obj l5 (r4 .done (some .ret))::fg b0 a0 l2 c1 b8 o3 l1 c0 e0 ai r0 [Fv b1,eZ b2 v3,.obj b3 (.cells [.func (.func 114) #[] #[ptr b0 0]] .own)])⟩|.inr _,_=>⟨(.exit 2),((0,.func (.yield l5) #[] #[])::tj b8 o3 l1 c0 v3 []),(.obj l5 (r4 .ready none)::rI b8 o3 l1 e0 ai r0 c0 (qW b0 a0 l2 c1 b8 o3 l1 c0 b1 b2 [.obj b3 (.cells [.func (.func 114) #[] #[ptr b0 0]] .own)]))⟩) r30 ?_ ?_
 refine lo h9 () [7,6,9,8,0,1,10,11,12,13,14] (fun v2 _=>⟨.normal,((0,.func (.yield l5) #[] #[])::(3,aL v3)::tj b8 o3 l1 c0 v3 [(18,bl a23 l10 c5),(19,eh l10),(20,aL v2)]),(.obj l5 (r4 .ready none)::rI b8 o3 l1 e0 ai r0 c0 (ff a23 c5 l10 e5 ba r8 (qW b0 a0 l2 c1 b8 o3 l1 c0 b1 b2 [.obj b3 (.cells [.func (.func 114) #[] #[ptr b0 0]] .own)])))⟩) ?_;clear hF h9;rintro v2 ⟨⟩ r hF;unfold qL at hF;refine wz ?_;refine UJ ?_;rcases U hF with⟨h73,hF⟩|⟨h73,hF⟩;refine an ?_;obtain⟨h74,hF⟩:=bI hF;refine UY (k:=4) rfl (az h74) ?_;rintro b15 o7 rfl;refine wz ?_;obtain⟨l15,h75,hF⟩:=J hF;refine wl 1 0 6 0 h75 ?_;rintro⟨a17,c8⟩;refine an ?_;refine UK ?_;obtain⟨r31,h10,hF⟩:=J hF;refine ct (fun(r:(Unit) ⊕(Unit)) (g:Unit)=>match r,g with|.inl _,_=>⟨.ret,[],(.obj l5 (r4 .done (some .ret))::fg b0 a0 l2 c1 b8 o3 l1 c0 e0 ai r0 [Fv b1,eZ b2 v3,.obj b3 (.cells [.func (.func 114) #[] #[ptr b0 0]] .own)])⟩|.inr _,_=>⟨(.exit 4),((0,.func (.yield l5) #[] #[])::(3,aL v3)::tj b8 o3 l1 c0 v3 (uo b15 o7 l10 c5 v2 [])),(.obj l5 (r4 .ready none)::rI b8 o3 l1 e0 ai r0 c0 (iV b15 o7 l10 e5 ba r8 c5 (qW b0 a0 l2 c1 b8 o3 l1 c0 b1 b2 [.obj b3 (.cells [.func (.func 114) #[] #[ptr b0 0]] .own)])))⟩) r31 ?_ ?_
 refine lo h10 () [2,0,3,4,5,1,7,6,8,9,10,11,12] (fun v26 _=>⟨.normal,((0,.func (.yield l5) #[] #[])::(3,aL v3)::(5,aL v2)::(6,bl a17 l15 c8)::tj b8 o3 l1 c0 v3 (uo b15 o7 l10 c5 v2 [(25,bl a17 l15 c8),(26,eh l15),(27,aL v26)])),(.obj l5 (r4 .ready none)::k9 a17 c8 l15::rI b8 o3 l1 e0 ai r0 c0 (iV b15 o7 l10 e5 ba r8 c5 (qW b0 a0 l2 c1 b8 o3 l1 c0 b1 b2 [.obj b3 (.cells [.func (.func 114) #[] #[ptr b0 0]] .own)])))⟩) ?_;clear hF h10;rintro v26 ⟨⟩ r hF;unfold qN at hF;refine wz ?_;refine UJ ?_;rcases U hF with⟨h76,hF⟩|⟨h76,hF⟩;refine an ?_;obtain⟨h77,hF⟩:=bI hF;refine UY (k:=1) rfl (az h77) ?_;rintro b20 o11 rfl;refine wz ?_;obtain⟨x14,h116,hF⟩:=J hF;refine an ?_;obtain⟨h78,hF⟩:=aA hF;refine UH (aI rfl rfl (bZ _ _ h78)) rfl ?_;obtain⟨h117,hF⟩:=bI hF;refine wz ?_;obtain⟨x15,h118,hF⟩:=J hF;refine wz ?_;refine UH (cj rfl q7 rfl (cm zu rfl rfl rfl)) rfl ?_;obtain⟨r15,h20,hF⟩:=J hF;refine UX (vU (k:=1) (k1:=0) (γA:=Nat) (GA:=(fun g:Nat=>(match g with|b17=>⟨.normal,((1,ptr b0 0)::ra b1 b2 [(8,ptr b3 0),(9,ptr b17 0)]),(.obj l5 (r4 .ready none)::fg b0 a0 l2 c1 b8 o3 l1 c0 e0 ai r0 (dg b1::dg b2::.obj b3 (.cells [.func (.func 114) #[] #[ptr b0 0]] .own)::fG b17 x14 x15 v3 v2::oU b20 o11 l15 c8 (iV b15 o7 l10 e5 ba r8 c5 [])))⟩:En))) (γ:=Unit) (G:=fun g=>(fun(r:(Unit) ⊕(Unit)) (g:Unit)=>(match r,g with|.inl _,_=>⟨.normal,[],(.obj l5 (r4 .busy none)::fg b0 a0 l2 c1 b8 o3 l1 c0 e0 ai r0 (dg b1::dg b2::.obj b3 (.cells [.func (.func 114) #[] #[ptr b0 0]] .own)::oU b20 o11 l15 c8 (iV b15 o7 l10 e5 ba r8 c5 [])))⟩|.inr _,_=>⟨.ret,[],(.obj l5 (r4 .busy none)::fg b0 a0 l2 c1 b8 o3 l1 c0 e0 ai r0 (Fv b1::eZ b2 v3::.obj b3 (.cells [.func (.func 114) #[] #[ptr b0 0]] .own)::oU b20 o11 l15 c8 (iV b15 o7 l10 e5 ba r8 c5 [])))⟩:En)) r15 g) rfl rfl rfl h69 h68 rfl ?_ (fun _=>rfl) (fun _=>rfl) ?_ (fun y=>by rcases r15 with _|_<;>rfl)) gn rfl ?_
 clear hF h20;refine UM<|wa q7 fun b37=>?_;refine wz ?_;exact ae b37 [2,10,11,4,5,6,12,13,14,0,1,3,7,8,9];clear hF;revert r15;intro r hF;rintro b17;refine wz ?_;rcases U hF with⟨h79,hF⟩|⟨h79,hF⟩;refine wz ?_;cases hF;exact ae () [0,1,2,3,4,5,6,7,8,10,11,12,13,14];refine an ?_;obtain⟨h119,hF⟩:=bI hF;refine wz ?_;refine wl 2 0 4 3 h19 ?_;rintro⟨⟨a9,c10⟩,⟨a18,c11,e4⟩⟩;refine wa z31 fun b21=>?_;refine wz ?_;refine UJ<|U3 (prs:=[(2,4),(2,7)]) (by kernel_rfl)<|UI (aM (r:=ptr b21 1) rfl (eC _ _)) rfl<|UI (aD (k:=0) jU rfl rfl rfl) rfl ?_
 obtain⟨_,h80,hF⟩:=J hF;refine Wn.c (Pb (N:=fun x:Uw×Nat=>[.sl x.1 1 x.2 e4]) rfl rfl (fun m hm=>JX n l14 e4 a18 c11 _ h80 m (hm.q 2) (hm.dp (q:=3) rfl)) fun _=>rfl) gn rfl ?_;rintro⟨a3,n4⟩;refine Wn.fD (k:=0) (q:=4) (L:=l14) rfl (.inl rfl) rfl ?_;rintro rfl;refine UI (aM (r:=ptr b17 3) rfl (w7 _ _)) rfl<|UI (aD (k:=14) bX rfl rfl rfl) rfl<|UI (aI rfl rfl (bN _ _ _)) rfl<|UI (aM (r:=ptr b17 3) rfl (w7 _ _)) rfl<|UI (aD (k:=14) bX rfl rfl rfl) rfl ?_;obtain⟨l18,h21,hF⟩:=J hF;refine Va (lN (α:=Unit) (V:=fun _=>.slice a3 l18.length l14.length) (N:=(fun _:Unit=>bS (.sl a3 1 l14.length e4::EB b21 a9 l20 c10 a18 l14 c11::k9 a9 c10 l20::ff a18 c11 l14 e4 ba r0 (.obj l5 (r4 .busy none)::fg b0 a0 l2 c1 b8 o3 l1 c0 e0 ai r0 (dg b1::dg b2::.obj b3 (.cells [.func (.func 114) #[] #[ptr b0 0]] .own)::fG b17 x14 x15 v3 v2::oU b20 o11 l15 c8 (iV b15 o7 l10 e5 ba r8 c5 [])))) 0 (.gen (nG a3 l14.length 1 l18.length (e4.take (UD (v2-1):Int).toNat++e4.drop (v2:Int).toNat))))) rfl rfl (fun m hm=>ID n hm (k:=0) (qq:=4) rfl rfl h21)) gn rfl fun _=>?_;refine Vg (aa.PA (q:=4) (i:=(UD (v2-1):Int).toNat) (j:=(v2:Int).toNat) rfl (Ku h21))<|UI (aM (r:=ptr b21 1) rfl (eC _ _)) rfl<|Vc (dK (k:=2) jU rfl rfl rfl rfl rfl)<|U0 (fun m hm=>cq.all rfl)<|US<|UJ<|U3 (prs:=[(0,4),(1,4)]) (by kernel_rfl)<|U6 rfl (aD (k:=7) eS rfl rfl rfl) rfl<|U6 rfl (aD (k:=2) Bk rfl rfl rfl) rfl<|UI (aD (k:=14) EW rfl rfl rfl) rfl<|UI (aD (k:=15) G2 rfl rfl rfl) rfl ?_
 obtain⟨r16,h81,hF⟩:=J hF;refine Wn.xk (l:=[b0,b21]) (lN (α:=Unit) (V:=fun g=>(fun(r:Int×Int) (g:Unit)=>match r,g with |(v11,v12),_=>(.agg #[aL v11,aL v12]:Uy)) r16 g) (N:=fun g=>(fun(r:Int×Int) (g:Unit)=>match r,g with |(v11,v12),_=>((.obj l5 (r4 .busy none)::fg b0 a0 l2 c1 b8 o3 l1 c0 e0 ai r0 (dg b1::dg b2::.obj b3 (.cells [.func (.func 114) #[] #[ptr b0 0]] .own)::oU b20 o11 l15 c8 (iV b15 o7 l10 e5 ba r8 c5 [fG b17 x14 x15 v3 v2,.obj b21 (.cells [bl a9 l20 c10,.slice a3 l18.length l14.length] .own),k9 a9 c10 l20,.gen (nG a3 l14.length 1 l18.length (e4.take (UD (v2-1):Int).toNat++e4.drop (v2:Int).toNat)),.gen (bT ba r0 l18 (e4.take (UD (v2-1):Int).toNat++e4.drop (v2:Int).toNat))]))):List Pc)) r16 g) rfl rfl (fun m hm=>?_)) ⟨⟨_,7,rfl,rfl,fun _=>⟨1,rfl⟩⟩,⟨⟨_,2,rfl,rfl,fun _=>⟨15,rfl⟩⟩,trivial⟩⟩ gn rfl ?_
 clear hF;revert r16;intro r hF;refine aW (N:=29) (rs:=[.cell 3 38]) rfl Tryz.func114 rfl rfl rfl hm ?_;refine wz ?_;refine wb fun b29=>?_;refine wa iv fun b46=>?_;refine wz ?_;refine UJ<|U3 (prs:=[(7,14),(9,14),(11,14)]) (by kernel_rfl)<|UI (aM (r:=ptr b0 0) rfl (gE _ _)) rfl<|UI (aD (k:=9) qb rfl rfl rfl) rfl<|UI (aM (r:=ptr b29 0) rfl (xB _ _)) rfl<|UI (aD (k:=1) bX rfl rfl rfl) rfl ?_
 obtain⟨h22,hF⟩:=bI hF;refine Wn.aP (k:=10) rfl (az h22) ?_;rintro b47 o13 rfl;refine U2 (cQ ue rfl rfl h22) gn rfl ?_;obtain⟨⟨x20,x21⟩,h82,hF⟩:=J hF;refine UI (fi (k:=0) bJ rfl rfl (cK h82) rfl rfl) rfl<|UI (aM (r:=ptr b0 0) rfl (gE _ _)) rfl<|U6 rfl (aD (k:=10) qb rfl rfl rfl) rfl<|UI (aM (r:=ptr b29 1) rfl (vP _ _)) rfl<|U6 rfl (aD (k:=2) bX rfl rfl rfl) rfl ?_;obtain⟨h83,hF⟩:=bI hF;refine U2 (cQ ue rfl rfl h83) gn rfl ?_;obtain⟨⟨x22,x23⟩,h84,hF⟩:=J hF;refine U6 rfl (fi (k:=0) bJ rfl rfl (cK h84) rfl rfl) rfl<|Va (jR iv rfl) gn rfl fun b48=>?_;refine Va (jR iv rfl) gn rfl fun b49=>?_;refine Wn.AR rfl (dK (k:=1) bJ rfl rfl rfl rfl rfl)<|Vc (dK (k:=0) bJ rfl rfl rfl rfl rfl)<|U0 (fun m hm=>(cq.rw rfl rfl rfl (hm.ne (i:=12) (j:=1) rfl rfl rfl rfl (by decide) rfl) (cq.rw rfl rfl rfl (hm.ne (i:=4) (j:=1) rfl rfl rfl rfl (by decide) rfl) (cq.rw rfl rfl rfl (hm.ne (i:=1) (j:=2) rfl rfl rfl rfl (by decide) rfl).symm cq.nil)))) ?_
 refine an ?_;refine UH (cj rfl iv rfl (cm vV rfl rfl rfl)) rfl ?_;refine an ?_;cases hF;exact U1 (.cell (k:=3) bJ rfl rfl rfl .nil) fun m' hm=>⟨(),rfl,(UN [11,12,13,14,15,16,17,18,19,21,22,23,24,25,20,7,8,6,5] rfl rfl) m' hm⟩;clear h81;obtain⟨v11,v12⟩:=r16;rintro⟨⟩;obtain⟨r38,h85,hF⟩:=J hF;refine Vg (aa.E1 (k:=17) rfl)<|nc gn (fun m hm=>AJ h85 m (hm.q 2) (hm.q 5) (hm.dp (q:=4) rfl) (hm.q 16) (hm.q 17) (hm.dp (q:=18) rfl)) ?_;rintro⟨⟩;refine UI (AA rfl rfl) rfl ?_;refine U0 (fun m hm=>(by(first|refine cq.rk rfl rfl rfl (by simp) ?_|refine cq.step rfl ?_); exact(by(first|refine cq.rk rfl rfl rfl (by simp) ?_|refine cq.step rfl ?_); exact cq.nil))) ?_
 refine US ?_;rcases U hF with⟨h23,hF⟩|⟨h23,hF⟩;refine U8 rfl h23<|UJ<|U3 (prs:=[(1,2)]) (by kernel_rfl)<|UI (aM (r:=ptr b17 2) rfl (mZ _ _)) rfl<|U6 rfl (aD (k:=14) bX rfl rfl rfl) rfl<|Wn.AR rfl (dK (k:=6) bX rfl rfl rfl rfl rfl)<|Vc (dK (k:=7) bX rfl rfl rfl rfl rfl)<|U0 (fun m hm=>(cq.rw rfl rfl rfl (hm.ne (i:=14) (j:=6) rfl rfl rfl rfl (by decide) rfl) cq.nil)) ?_
 refine an ?_;cases hF;exact ae () (Vh 0 14);refine wz ?_;cases hF;exact ae () (Vh 0 14);rcases r15 with _|_;rintro⟨⟩;refine dM ?_;cases hF;exact ae () [0,10,3,4,5,11,12,13,1,2,6,7,8];rintro⟨⟩;refine an ?_;cases hF;exact ae () (Vh 0 9);refine wz ?_;cases hF;exact ae () (0::Vh 2 11);rcases r31 with _|_;rintro⟨⟩;refine wz ?_;cases hF;exact ae () (Vh 0 9);rintro⟨⟩;refine an ?_;cases hF;exact ae () [0,1,2,3,6,5,7,8,9,10,11];refine wz ?_;cases hF;exact ae () [0,1,2,3,6,7,8,9,10];rcases r30 with _|_;rintro⟨⟩;refine wz ?_;cases hF;exact ae () [0,1,2,5,4,6,7,8];rintro⟨⟩;refine an ?_;cases hF;exact ae () [0,3,2,4,5,6,7,8];refine wz ?_;cases hF;exact ae () [0,3,4,1,2,5,6,7];rcases r29 with v25|_;rintro⟨⟩;refine At.br ?_;cases hF;exact U1 .nil fun m' hm=>⟨(),(UN [0,1,2,3,4,5,6,7] rfl rfl) m' hm⟩;rintro⟨⟩;refine At.be ?_;cases hF;exact At.fin .nil fun m' hm=>⟨(),(UN [0,1,2,3,4,5,6,7] rfl rfl) m' hm⟩;rcases r14 with v24|_;rintro⟨⟩
 change Wk _ _ _ _ .ret _ _ _ _
 refine wz ?_;cases hF;exact U1 (.cell (k:=4) bX rfl rfl rfl (.cell (k:=5) bX rfl rfl rfl .nil)) fun m' hm=>⟨(),rfl,(UN [] rfl rfl) m' hm⟩;rintro⟨⟩
 change At _ .normal _ _ _
 refine an ?_;obtain⟨r32,h86,hF⟩:=J hF;refine wq (fun _ (b27:Nat)=>(.func (.func 126) #[] #[ptr b27 0],(cR b27 a0 l2 c1 a1 l1 c0 e0 ai r0 [EB b0 a0 l2 c1 a1 l1 c0,dg b1,dg b2,.obj b3 (.cells [.func (.func 114) #[] #[ptr b0 0]] .own)]))) r32 (fun m hm=>?_) ?_;clear hF;revert r32;intro r hF;refine aW (N:=4) (rs:=[.tmp 2]) rfl Tryz.func103 rfl rfl rfl hm ?_;refine wz ?_;refine wb fun b38=>?_;refine an ?_;refine UH (jO rfl rfl) rfl ?_;refine an ?_;cases hF;exact ar b38 [0,2,3,4,1,5,6,7];rintro b27;refine wz ?_;refine UK ?_;obtain⟨r17,h87,hF⟩:=J hF;refine Wk.range (N:=50) (rs:=[]) (γ:=Unit) (X:=fun g=>(fun(r:(Int) ⊕(Unit)) (g:Unit)=>(match r,g with|.inl v27,_=>⟨.done,(some .ret),(cR b0 a0 l2 c1 a1 l1 c0 e0 ai r0 [D7 b1,eZ b2 v27,.obj b3 (.cells [.func (.func 114) #[] #[ptr b0 0]] .own)])⟩|.inr _,_=>⟨.ready,none,(cR b0 a0 l2 c1 a1 l1 c0 e0 ai r0 [dg b1,dg b2,.obj b3 (.cells [.func (.func 114) #[] #[ptr b0 0]] .own)])⟩:Rn)) r17 g) rfl rfl Tryz.func126 rfl rfl rfl ?_ (fun y=>by rcases r17 with _|_<;>(intro e; cases e)) ?_
 clear hF;revert r17;intro r hF;intro t4 l4 r3 h88 h89;refine wz ?_;refine UK ?_;obtain⟨r33,h11,hF⟩:=J hF;refine ct (fun(r:(Int) ⊕(Unit)) (g:Unit)=>match r,g with|.inl v28,_=>⟨.ret,[],(.obj l4 (r3 .done (some .ret))::cR b0 a0 l2 c1 a1 l1 c0 e0 ai r0 [D7 b1,eZ b2 v28,.obj b3 (.cells [.func (.func 114) #[] #[ptr b0 0]] .own)])⟩|.inr _,_=>⟨(.exit 0),[],(.obj l4 (r3 .ready none)::cR b0 a0 l2 c1 a1 l1 c0 e0 ai r0 [dg b1,dg b2,.obj b3 (.cells [.func (.func 114) #[] #[ptr b0 0]] .own)])⟩) r33 ?_ ?_
 refine lo h11 () [0,3,4,5,2,6,7,8] (fun v1 _=>⟨.normal,((0,.func (.yield l4) #[] #[])::zP a1 l1 c0 v1 []),[.obj l4 (r3 .ready none),sd a1 c0 l1 e0,iH ai r0 l1 e0,EB b0 a0 l2 c1 a1 l1 c0,gr a0 c1 l2,dg b1,dg b2,.obj b3 (.cells [.func (.func 114) #[] #[ptr b0 0]] .own)]⟩) ?_;clear hF h11;rintro v1 ⟨⟩ r hF;unfold lU at hF;refine wz ?_;refine UJ ?_;rcases U hF with⟨h90,hF⟩|⟨h90,hF⟩;refine an ?_;obtain⟨h91,hF⟩:=bI hF;refine UY (k:=1) rfl (az h91) ?_;rintro b5 o1 rfl;refine wz ?_;obtain⟨⟨l48,l49⟩,h92,hF⟩:=J hF;refine wl 2 0 3 0 h92 ?_;rintro⟨⟨a34,c20⟩,⟨a35,c21,e11⟩⟩;refine wa z31 fun b50=>?_;refine an ?_;obtain⟨l8,h93,hF⟩:=J hF;refine vN gn (fun m hm=>jx h93 m hm.cy (hm.q 1) (hm.no 1) (hm.q 2) (hm.no 2) (hm.dp (q:=3) rfl) (hm.dw (q:=3) rfl)) ?_;rintro⟨a24,c3,n5,e3,r7⟩;refine Vb (k:=0) (q:=1) (L:=l8) rfl (.inr (.inl ⟨_,rfl⟩)) rfl ?_;rintro rfl;refine wz ?_;refine UK ?_;obtain⟨r34,h12,hF⟩:=J hF;refine ct (fun(r:(Unit) ⊕(Unit)) (g:Unit)=>match r,g with|.inl _,_=>⟨.ret,[],(.obj l4 (r3 .done (some .ret))::fg b0 a0 l2 c1 b5 o1 l1 c0 e0 ai r0 [D7 b1,eZ b2 v1,.obj b3 (.cells [.func (.func 114) #[] #[ptr b0 0]] .own)])⟩|.inr _,_=>⟨(.exit 2),((0,.func (.yield l4) #[] #[])::tj b5 o1 l1 c0 v1 []),(.obj l4 (r3 .ready none)::rI b5 o1 l1 e0 ai r0 c0 (qW b0 a0 l2 c1 b5 o1 l1 c0 b1 b2 [.obj b3 (.cells [.func (.func 114) #[] #[ptr b0 0]] .own)]))⟩) r34 ?_ ?_
 refine lo h12 () [7,6,9,8,0,1,10,11,12,13,14] (fun v6 _=>⟨.normal,((0,.func (.yield l4) #[] #[])::(3,aL v1)::tj b5 o1 l1 c0 v1 [(18,bl a24 l8 c3),(19,eh l8),(20,aL v6)]),(.obj l4 (r3 .ready none)::rI b5 o1 l1 e0 ai r0 c0 (ff a24 c3 l8 e3 ba r7 (qW b0 a0 l2 c1 b5 o1 l1 c0 b1 b2 [.obj b3 (.cells [.func (.func 114) #[] #[ptr b0 0]] .own)])))⟩) ?_;clear hF h12;rintro v6 ⟨⟩ r hF;unfold lD at hF;refine wz ?_;refine UJ ?_;rcases U hF with⟨h94,hF⟩|⟨h94,hF⟩;refine an ?_;obtain⟨h95,hF⟩:=bI hF;refine UY (k:=4) rfl (az h95) ?_;rintro b12 o6 rfl;refine wz ?_;obtain⟨l12,h96,hF⟩:=J hF;refine wl 1 0 6 0 h96 ?_;rintro⟨a19,c6⟩;refine an ?_;refine UK ?_;obtain⟨r35,h13,hF⟩:=J hF;refine ct (fun(r:(Unit) ⊕(Unit)) (g:Unit)=>match r,g with|.inl _,_=>⟨.ret,[],(.obj l4 (r3 .done (some .ret))::fg b0 a0 l2 c1 b5 o1 l1 c0 e0 ai r0 [D7 b1,eZ b2 v1,.obj b3 (.cells [.func (.func 114) #[] #[ptr b0 0]] .own)])⟩|.inr _,_=>⟨(.exit 4),((0,.func (.yield l4) #[] #[])::(3,aL v1)::tj b5 o1 l1 c0 v1 (uo b12 o6 l8 c3 v6 [])),(.obj l4 (r3 .ready none)::rI b5 o1 l1 e0 ai r0 c0 (iV b12 o6 l8 e3 ba r7 c3 (qW b0 a0 l2 c1 b5 o1 l1 c0 b1 b2 [.obj b3 (.cells [.func (.func 114) #[] #[ptr b0 0]] .own)])))⟩) r35 ?_ ?_
 refine lo h13 () [2,0,3,4,5,1,7,6,8,9,10,11,12] (fun v29 _=>⟨.normal,((0,.func (.yield l4) #[] #[])::(3,aL v1)::(5,aL v6)::(6,bl a19 l12 c6)::tj b5 o1 l1 c0 v1 (uo b12 o6 l8 c3 v6 [(25,bl a19 l12 c6),(26,eh l12),(27,aL v29)])),(.obj l4 (r3 .ready none)::k9 a19 c6 l12::rI b5 o1 l1 e0 ai r0 c0 (iV b12 o6 l8 e3 ba r7 c3 (qW b0 a0 l2 c1 b5 o1 l1 c0 b1 b2 [.obj b3 (.cells [.func (.func 114) #[] #[ptr b0 0]] .own)])))⟩) ?_;clear hF h13;rintro v29 ⟨⟩ r hF;unfold lE at hF;refine wz ?_;refine UJ ?_;rcases U hF with⟨h97,hF⟩|⟨h97,hF⟩;refine an ?_;obtain⟨h98,hF⟩:=bI hF;refine UY (k:=1) rfl (az h98) ?_;rintro b18 o9 rfl;refine wz ?_;obtain⟨x10,h120,hF⟩:=J hF;refine an ?_;obtain⟨h99,hF⟩:=aA hF;refine UH (aI rfl rfl (bZ _ _ h99)) rfl ?_;obtain⟨h121,hF⟩:=bI hF;refine wz ?_;obtain⟨x11,h122,hF⟩:=J hF;refine wz ?_;refine UH (cj rfl q7 rfl (cm zu rfl rfl rfl)) rfl ?_;obtain⟨r18,h24,hF⟩:=J hF;refine UX (vU (k:=1) (k1:=0) (γA:=Nat) (GA:=(fun g:Nat=>(match g with|b13=>⟨.normal,((1,ptr b0 0)::ra b1 b2 [(8,ptr b3 0),(11,ptr b13 0)]),(.obj l4 (r3 .ready none)::fg b0 a0 l2 c1 b5 o1 l1 c0 e0 ai r0 (dg b1::dg b2::.obj b3 (.cells [.func (.func 114) #[] #[ptr b0 0]] .own)::fG b13 x10 x11 v1 v6::oU b18 o9 l12 c6 (iV b12 o6 l8 e3 ba r7 c3 [])))⟩:En))) (γ:=Unit) (G:=fun g=>(fun(r:(Unit) ⊕(Unit)) (g:Unit)=>(match r,g with|.inl _,_=>⟨.ret,[],(.obj l4 (r3 .busy none)::fg b0 a0 l2 c1 b5 o1 l1 c0 e0 ai r0 (D7 b1::eZ b2 v1::.obj b3 (.cells [.func (.func 114) #[] #[ptr b0 0]] .own)::oU b18 o9 l12 c6 (iV b12 o6 l8 e3 ba r7 c3 [])))⟩|.inr _,_=>⟨.normal,[],(.obj l4 (r3 .busy none)::fg b0 a0 l2 c1 b5 o1 l1 c0 e0 ai r0 (dg b1::dg b2::.obj b3 (.cells [.func (.func 114) #[] #[ptr b0 0]] .own)::oU b18 o9 l12 c6 (iV b12 o6 l8 e3 ba r7 c3 [])))⟩:En)) r18 g) rfl rfl rfl h89 h88 rfl ?_ (fun _=>rfl) (fun _=>rfl) ?_ (fun y=>by rcases r18 with _|_<;>rfl)) gn rfl ?_
 clear hF h24;refine UM<|wa q7 fun b39=>?_;refine wz ?_;exact ae b39 [2,10,11,4,5,6,12,13,14,0,1,3,7,8,9];clear hF;revert r18;intro r hF;rintro b13;refine wz ?_;refine UK ?_;obtain⟨r36,h14,hF⟩:=J hF;refine ct (fun(r:(Unit) ⊕(Unit)) (g:Unit)=>match r,g with|.inl _,_=>⟨.ret,(ra b1 b2 []),(.obj l4 (r3 .busy none)::D7 b1::eZ b2 v1::fg b0 a0 l2 c1 b5 o1 l1 c0 e0 ai r0 (.obj b3 (.cells [.func (.func 114) #[] #[ptr b0 0]] .own)::oU b18 o9 l12 c6 (iV b12 o6 l8 e3 ba r7 c3 [])))⟩|.inr _,_=>⟨(.exit 8),((1,ptr b0 0)::ra b1 b2 [(8,ptr b3 0),(11,ptr b13 0)]),(.obj l4 (r3 .busy none)::fg b0 a0 l2 c1 b5 o1 l1 c0 e0 ai r0 (dg b1::dg b2::.obj b3 (.cells [.func (.func 114) #[] #[ptr b0 0]] .own)::fG b13 x10 x11 v1 v6::oU b18 o9 l12 c6 (iV b12 o6 l8 e3 ba r7 c3 [])))⟩) r36 ?_ ?_
 refine lo h14 () [0,1,2,3,4,5,6,7,8,9,10,11,12,13,14] (fun v13 _=>⟨.normal,((1,ptr b0 0)::ra b1 b2 [(8,ptr b3 0),(11,ptr b13 0),(82,nL b5 o1 l1 c0),(83,eh l1),(84,aL v13)]),(.obj l4 (r3 .busy none)::fg b0 a0 l2 c1 b5 o1 l1 c0 e0 ai r0 (dg b1::dg b2::.obj b3 (.cells [.func (.func 114) #[] #[ptr b0 0]] .own)::fG b13 x10 x11 v1 v6::oU b18 o9 l12 c6 (iV b12 o6 l8 e3 ba r7 c3 [])))⟩) ?_;clear hF h14;rintro v13 ⟨⟩ r hF;unfold rN at hF;refine wz ?_;refine UJ ?_;rcases U hF with⟨h100,hF⟩|⟨h100,hF⟩;refine an ?_;obtain⟨h123,hF⟩:=bI hF;refine wz ?_;obtain⟨⟨l42,l43⟩,h101,hF⟩:=J hF;refine wl 2 0 4 3 h101 ?_;rintro⟨⟨a25,c12⟩,⟨a26,c13,e7⟩⟩;refine wa z31 fun b30=>?_;refine wz ?_;refine UJ ?_;obtain⟨v10,h102,hF⟩:=J hF;refine ct (fun v10 (_:Unit)=>⟨.normal,((1,ptr b0 0)::ra b1 b2 [(8,ptr b3 0),(11,ptr b13 0),(82,nL b5 o1 l1 c0),(83,eh l1),(84,aL v13),(100,dL v10)]),(.obj l4 (r3 .busy none)::fg b0 a0 l2 c1 b5 o1 l1 c0 e0 ai r0 (dg b1::dg b2::.obj b3 (.cells [.func (.func 114) #[] #[ptr b0 0]] .own)::fG b13 x10 x11 v1 v6::oU b18 o9 l12 c6 (iV b12 o6 l8 e3 ba r7 c3 [])))⟩) v10 ?_ ?_;clear hF;revert v10;intro r hF;refine U3 (prs:=[(5,9),(6,9)]) (by kernel_rfl)<|UI (aK rfl) rfl<|UI (aM (r:=ptr b13 2) rfl (mZ _ _)) rfl<|UI (aD (k:=13) bX rfl rfl rfl) rfl<|UI (aI rfl rfl (oj _ _)) rfl<|UI (aK rfl) rfl ?_
 rcases U hF with⟨h0,hF⟩|⟨h0,hF⟩;refine Wn.Rl rfl (aD (k:=5) eS rfl rfl rfl) (gg rfl rfl (dJ h0)) rfl<|Wn.Rl rfl (aD (k:=0) Bk rfl rfl rfl) (gg rfl rfl (dJ h0)) rfl<|U2 (aD (k:=12) EW rfl rfl rfl) (gg rfl rfl (dJ h0)) rfl<|U2 (aD (k:=13) G2 rfl rfl rfl) (gg rfl rfl (dJ h0)) rfl ?_;obtain⟨r19,h103,hF⟩:=J hF;refine Wn.xk (l:=[b0,b30]) (lN (α:=Unit) (V:=fun g=>(fun(r:Int×Int) (g:Unit)=>match r,g with |(v14,v15),_=>(.agg #[aL v14,aL v15]:Uy)) r19 g) (N:=fun g=>(fun(r:Int×Int) (g:Unit)=>match r,g with |(v14,v15),_=>((.obj l4 (r3 .busy none)::fg b0 a0 l2 c1 b5 o1 l1 c0 e0 ai r0 (dg b1::dg b2::.obj b3 (.cells [.func (.func 114) #[] #[ptr b0 0]] .own)::oU b18 o9 l12 c6 (iV b12 o6 l8 e3 ba r7 c3 (fG b13 x10 x11 v1 v6::EB b30 a25 l42 c12 a26 l43 c13::k9 a25 c12 l42::ff a26 c13 l43 e7 ba r0 [])))):List Pc)) r19 g) rfl rfl (fun m hm=>?_)) ⟨⟨_,5,rfl,rfl,fun _=>⟨1,rfl⟩⟩,⟨⟨_,0,rfl,rfl,fun _=>⟨15,rfl⟩⟩,trivial⟩⟩ (gg rfl rfl (dJ h0)) rfl ?_
 clear hF;revert r19;intro r hF;refine aW (N:=29) (rs:=[.cell 3 38]) rfl Tryz.func114 rfl rfl rfl hm ?_;refine wz ?_;refine wb fun b31=>?_;refine wa iv fun b51=>?_;refine wz ?_;refine UJ<|U3 (prs:=[(7,14),(9,14),(11,14)]) (by kernel_rfl)<|UI (aM (r:=ptr b0 0) rfl (gE _ _)) rfl<|UI (aD (k:=7) qb rfl rfl rfl) rfl<|UI (aM (r:=ptr b31 0) rfl (xB _ _)) rfl<|UI (aD (k:=1) bX rfl rfl rfl) rfl ?_
 obtain⟨h25,hF⟩:=bI hF;refine Wn.aP (k:=8) rfl (az h25) ?_;rintro b52 o14 rfl;refine U2 (cQ ue rfl rfl h25) gn rfl ?_;obtain⟨⟨x24,x25⟩,h104,hF⟩:=J hF;refine UI (fi (k:=0) bJ rfl rfl (cK h104) rfl rfl) rfl<|UI (aM (r:=ptr b0 0) rfl (gE _ _)) rfl<|U6 rfl (aD (k:=8) qb rfl rfl rfl) rfl<|UI (aM (r:=ptr b31 1) rfl (vP _ _)) rfl<|U6 rfl (aD (k:=2) bX rfl rfl rfl) rfl ?_;obtain⟨h105,hF⟩:=bI hF;refine U2 (cQ ue rfl rfl h105) gn rfl ?_;obtain⟨⟨x26,x27⟩,h106,hF⟩:=J hF;refine U6 rfl (fi (k:=0) bJ rfl rfl (cK h106) rfl rfl) rfl<|Va (jR iv rfl) gn rfl fun b53=>?_;refine Va (jR iv rfl) gn rfl fun b54=>?_;refine Wn.AR rfl (dK (k:=1) bJ rfl rfl rfl rfl rfl)<|Vc (dK (k:=0) bJ rfl rfl rfl rfl rfl)<|U0 (fun m hm=>(cq.rw rfl rfl rfl (hm.ne (i:=10) (j:=1) rfl rfl rfl rfl (by decide) rfl) (cq.rw rfl rfl rfl (hm.ne (i:=4) (j:=1) rfl rfl rfl rfl (by decide) rfl) (cq.rw rfl rfl rfl (hm.ne (i:=1) (j:=2) rfl rfl rfl rfl (by decide) rfl).symm cq.nil)))) ?_
 refine an ?_;refine UH (cj rfl iv rfl (cm vV rfl rfl rfl)) rfl ?_;refine an ?_;cases hF;exact U1 (.cell (k:=3) bJ rfl rfl rfl .nil) fun m' hm=>⟨(),rfl,(UN [9,10,11,12,13,14,15,16,17,19,20,21,22,23,18,5,6,7,8] rfl rfl) m' hm⟩;clear h103;obtain⟨v14,v15⟩:=r19;rintro⟨⟩;obtain⟨r39,h107,hF⟩:=J hF;refine nc (gg rfl rfl (dJ h0)) (fun m hm=>AJ h107 m (hm.q 2) (hm.q 5) (hm.dp (q:=4) rfl) (hm.q 16) (hm.q 17) (hm.dp (q:=18) rfl)) ?_;rintro⟨⟩;refine UI (ux rfl h0 rfl) rfl ?_;refine U0 (fun m hm=>(by(first|refine cq.rk rfl rfl rfl (by simp) ?_|refine cq.step rfl ?_); exact(by(first|refine cq.rk rfl rfl rfl (by simp) ?_|refine cq.step rfl ?_); exact cq.nil))) ?_
 obtain rfl:=R9 hF;exact ae () [0,1,2,3,4,5,6,7,8,14,9,10,11,12,13];refine U4 (gg rfl rfl (nO h0)) rfl<|U4 (gg rfl rfl (nO h0)) rfl<|U4 (gg rfl rfl (nO h0)) rfl<|U4 (gg rfl rfl (nO h0)) rfl<|U4 (gg rfl rfl (nO h0)) rfl<|U4 (gg rfl rfl (nO h0)) rfl<|UI (ui rfl h0 rfl) rfl ?_;refine U0 (fun m hm=>(by(first|refine cq.rk rfl rfl rfl (by simp) ?_|refine cq.step rfl ?_); exact(by(first|refine cq.rk rfl rfl rfl (by simp) ?_|refine cq.step rfl ?_); exact cq.nil))) ?_
 cases hF;exact ae () (Vh 4 15);rintro⟨⟩;refine US ?_;rcases U hF with⟨h26,hF⟩|⟨h26,hF⟩;refine U8 rfl h26<|UJ<|U3 (prs:=[(1,2)]) (by kernel_rfl)<|UI (aM (r:=ptr b13 2) rfl (mZ _ _)) rfl<|U6 rfl (aD (k:=9) bX rfl rfl rfl) rfl<|Wn.AR rfl (dK (k:=6) bX rfl rfl rfl rfl rfl)<|Vc (dK (k:=7) bX rfl rfl rfl rfl rfl)<|U0 (fun m hm=>(cq.rw rfl rfl rfl (hm.ne (i:=9) (j:=6) rfl rfl rfl rfl (by decide) rfl) cq.nil)) ?_
 refine an ?_;cases hF;exact ae () [0,6,7,1,2,3,4,5,8,10,11,12,13,14];refine an ?_;cases hF;exact ae () (Vh 0 15);refine wz ?_;cases hF;exact ae () (Vh 0 15);rcases r36 with _|_;rintro⟨⟩;refine wz ?_;cases hF;exact ae () (0::3::4::5::6::7::1::2::Vh 8 6);rintro⟨⟩;refine wz ?_;cases hF;exact ae () [0,1,2,3,4,5,6,7,8,10,11,12,13,14];rcases r18 with _|_;rintro⟨⟩;refine an ?_;cases hF;exact ae () (Vh 0 9);rintro⟨⟩;refine dM ?_;cases hF;exact ae () [0,10,3,4,5,11,12,13,1,2,6,7,8];refine wz ?_;cases hF;exact ae () (0::Vh 2 11);rcases r35 with _|_;rintro⟨⟩;refine wz ?_;cases hF;exact ae () (Vh 0 9);rintro⟨⟩;refine an ?_;cases hF;exact ae () [0,1,2,3,6,5,7,8,9,10,11];refine wz ?_;cases hF;exact ae () [0,1,2,3,6,7,8,9,10];rcases r34 with _|_;rintro⟨⟩;refine wz ?_;cases hF;exact ae () [0,1,2,5,4,6,7,8];rintro⟨⟩;refine an ?_;cases hF;exact ae () [0,3,2,4,5,6,7,8];refine wz ?_;cases hF;exact ae () [0,3,4,1,2,5,6,7];rcases r33 with v28|_;rintro⟨⟩;refine At.br ?_;cases hF;exact U1 .nil fun m' hm=>⟨(),(UN [0,1,2,3,4,5,6,7] rfl rfl) m' hm⟩;rintro⟨⟩;refine At.be ?_;cases hF;exact At.fin .nil fun m' hm=>⟨(),(UN [0,1,2,3,4,5,6,7] rfl rfl) m' hm⟩;rcases r17 with v27|_;rintro⟨⟩
 change Wk _ _ _ _ .ret _ _ _ _
 refine wz ?_;cases hF;exact U1 (.cell (k:=4) bX rfl rfl rfl (.cell (k:=5) bX rfl rfl rfl .nil)) fun m' hm=>⟨(),rfl,(UN [] rfl rfl) m' hm⟩;rintro⟨⟩
 change At _ .normal _ _ _
 refine dM ?_;cases hF;exact U1 (.cell (k:=4) bX rfl rfl rfl (.cell (k:=5) bX rfl rfl rfl .nil)) fun m' hm=>⟨(),rfl,(UN [] rfl rfl) m' hm⟩
def GY{n l2 l1 a0 c1 a1 c0}{r0:Ux}{e0:Uv}{r}(hF:Oe n l2 l1=some r)(m)(h12:dA m a0 c1 l2)(h13:fa m a1 c0 l1 e0)(h14:(bT ai r0 l1 e0).P m):
 aC (Vr p q) 45 [dZ a0 l2 c1 a1 l1 c0] m (Vn m (.tuple #[.int .i64 r.1,.int .i64 r.2])):=by
 unfold Oe at hF;refine cw Tryz.func45 (U5 (UT (UT (UP m) bQ h12) (bO bQ) h13) (bO (bO bQ)) h14) ?_;refine wz ?_;refine wb fun b0=>?_;refine an ?_;refine UJ ?_;obtain⟨v1,h15,hF⟩:=J hF;refine ct (fun v1 (_:Unit)=>⟨.normal,[(1,ptr b0 0),(33,dL v1)],(cR b0 a0 l2 c1 a1 l1 c0 e0 ai r0 [])⟩) v1 ?_ ?_;clear hF;revert v1;intro r hF;refine wz ?_;rcases U hF with⟨h16,hF⟩|⟨h16,hF⟩;refine wz ?_;cases hF;exact ae () [0,3,2,1];refine wz ?_;rcases U hF with⟨h17,hF⟩|⟨h17,hF⟩;refine wz ?_;cases hF;exact ae () [0,3,2,1];refine wz ?_;rcases U hF with⟨h18,hF⟩|⟨h18,hF⟩;refine wz ?_;cases hF;exact ae () [0,3,2,1];refine wz ?_;cases hF;exact ae () [0,3,2,1];rintro⟨⟩;refine US ?_;rcases U hF with⟨h19,hF⟩|⟨h19,hF⟩;refine an ?_;cases hF;exact ar () [];refine an ?_;obtain⟨v2,h20,hF⟩:=J hF;refine wq (fun v2 (_:Unit)=>(.int .i64 v2,(cR b0 a0 l2 c1 a1 l1 c0 e0 ai r0 []))) v2 (fun m hm=>?_) ?_;clear hF;revert v2;intro r hF;refine aW (N:=19) (rs:=[.tmp 4]) rfl Tryz.func73 rfl rfl rfl hm ?_;refine an ?_;refine UK ?_;obtain⟨r1,h3,hF⟩:=J hF;refine ct (fun(r:(Int) ⊕(Unit)) (g:Unit)=>match r,g with|.inl v14,_=>⟨.ret,[(4,aL v14)],(cR b0 a0 l2 c1 a1 l1 c0 e0 ai r0 [])⟩|.inr _,_=>⟨(.exit 0),[],(cR b0 a0 l2 c1 a1 l1 c0 e0 ai r0 [])⟩) r1 ?_ ?_
 refine lo h3 () [1,0,2,3] (fun v15 _=>⟨.normal,((1,.func (.func 56) #[] #[])::xT a0 l2 c1 v15 []),[gr a0 c1 l2,EB b0 a0 l2 c1 a1 l1 c0,sd a1 c0 l1 e0,iH ai r0 l1 e0]⟩) ?_;clear hF h3;rintro v15 ⟨⟩ r hF;unfold xS at hF;refine wz ?_;refine UJ ?_;rcases U hF with⟨h21,hF⟩|⟨h21,hF⟩;refine an ?_;obtain⟨h22,hF⟩:=bI hF;refine UY (k:=0) rfl (az h22) ?_;rintro b9 o7 rfl;refine wz ?_;obtain⟨⟨x10,x11⟩,h79,hF⟩:=J hF;refine wz ?_;refine wa iv fun b10=>?_;refine an ?_;obtain⟨r13,h23,hF⟩:=J hF;refine wc gn (fun m hm=>Fq h23 m) ?_;rintro⟨⟩;refine wz ?_;rcases U hF with⟨h24,hF⟩|⟨h24,hF⟩;refine an ?_;cases hF;exact ae () [3,2,4,5];refine an ?_;cases hF;exact ae () [2,3,4,5];refine wz ?_;cases hF;exact ae () [1,0,2,3];rcases r1 with v14|_;rintro⟨⟩;refine wz ?_;obtain rfl:=R9 hF;exact ar () [0,1,2,3];rintro⟨⟩;refine dM ?_;cases hF;exact ar () [0,1,2,3];rintro⟨⟩;refine an ?_;rcases U hF with⟨h25,hF⟩|⟨h25,hF⟩;refine an ?_;cases hF;exact ar () [];refine an ?_;refine UX Gt gn rfl fun b5=>?_;refine an ?_;refine UK ?_;obtain⟨r3,h4,hF⟩:=J hF;refine ct (fun(r:(Int) ⊕(Unit)) (g:Unit)=>match r,g with|.inl v16,_=>⟨.ret,[(2,.int .i64 3),(3,aL v16)],[]⟩|.inr _,_=>⟨(.exit 0),[(1,ptr b0 0)],(cR b0 a0 l2 c1 a1 l1 c0 e0 ai r0 [])⟩) r3 ?_ ?_
 refine lo h4 () [1,2,3,4,0] (fun(l6,v17) _=>⟨.normal,[(1,ptr b0 0),(6,.map (some b5)),(42,bl a0 l2 c1),(43,eh l2),(44,aL v17)],(cR b0 a0 l2 c1 a1 l1 c0 e0 ai r0 [.obj b5 (.map (l6.map (eM (fun p:Int×Int=>.agg #[.int .i64 p.1,.int .i64 p.2]) (fun b:Bool=>.bool b))))])⟩) ?_;clear hF h4;rintro⟨l6,v17⟩ ⟨⟩ r hF;unfold qz at hF;refine wz ?_;refine UJ ?_;rcases U hF with⟨h26,hF⟩|⟨h26,hF⟩;refine an ?_;obtain⟨h27,hF⟩:=bI hF;refine UY (k:=1) rfl (az h27) ?_;rintro b11 o8 rfl;refine wz ?_;obtain⟨⟨x3,x4⟩,h80,hF⟩:=J hF;refine wz ?_;refine wa iv fun b12=>?_;refine an ?_;obtain⟨y0,h28,hF⟩:=J hF;refine UH (Lq (q:=6) (xs:=l6) (k:=(x3,x4)) (vE:=(fun b:Bool=>.bool b)) (z0:=false) Ph (EG BN) z4 rfl rfl rfl rfl h28) rfl ?_;refine wz ?_;rcases U hF with⟨h29,hF⟩|⟨h29,hF⟩;refine an ?_;cases hF;exact ae () [];refine an ?_;refine Vf (Dq (q:=6) (xs:=l6) (k:=(x3,x4)) (v:=true) (vE:=(fun b:Bool=>.bool b)) Ph (EG BN) rfl rfl rfl rfl) ?_;refine an ?_;cases hF;exact ae () (Vh 2 5);refine wz ?_;cases hF;exact ae () [0,1,2,3];rcases r3 with v16|_;rintro⟨⟩;refine wz ?_;cases hF;exact ar () [];rintro⟨⟩;refine an ?_;refine wa QO fun b1=>?_;refine an ?_;refine UH (jO rfl rfl) rfl ?_;obtain⟨v3,h30,hF⟩:=J hF;refine wq (fun v3 (_:Unit)=>(.int .i64 v3,(cR b0 a0 l2 c1 a1 l1 c0 e0 ai r0 [.obj b1 (.cells [.func (.func 74) #[] #[]] .own)]))) v3 (fun m hm=>?_) ?_;clear hF;revert v3;intro r hF;refine aW (N:=19) (rs:=[.tmp 4]) rfl Tryz.func57 rfl rfl rfl hm ?_;refine an ?_;refine UK ?_;obtain⟨r4,h5,hF⟩:=J hF;refine ct (fun(r:(Int) ⊕(Unit)) (g:Unit)=>match r,g with|.inl v18,_=>⟨.ret,[(4,aL v18)],(cR b0 a0 l2 c1 a1 l1 c0 e0 ai r0 [.obj b1 (.cells [.func (.func 74) #[] #[]] .own)])⟩|.inr _,_=>⟨(.exit 0),[],(cR b0 a0 l2 c1 a1 l1 c0 e0 ai r0 [.obj b1 (.cells [.func (.func 74) #[] #[]] .own)])⟩) r4 ?_ ?_
 refine lo h5 () [0,1,2,3,4] (fun v19 _=>⟨.normal,((1,.func (.func 75) #[] #[ptr b1 0,ptr b0 0])::xT a1 l1 c0 v19 []),(.obj b1 (.cells [.func (.func 74) #[] #[]] .own)::cR b0 a0 l2 c1 a1 l1 c0 e0 ai r0 [])⟩) ?_;clear hF h5;rintro v19 ⟨⟩ r hF;unfold zi at hF;refine wz ?_;refine UJ ?_;rcases U hF with⟨h31,hF⟩|⟨h31,hF⟩;refine an ?_;obtain⟨h32,hF⟩:=bI hF;refine UY (k:=3) rfl (az h32) ?_;rintro b2 o1 rfl;refine wz ?_;obtain⟨⟨l9,l10⟩,h33,hF⟩:=J hF;refine wl 2 0 5 0 h33 ?_;rintro⟨⟨a5,c5⟩,⟨a6,c6,e5⟩⟩;refine wa z31 fun b13=>?_;refine an ?_;obtain⟨v4,h34,hF⟩:=J hF;refine wq (fun v4 (_:Unit)=>(.bool v4,(fg b0 a0 l2 c1 b2 o1 l1 c0 e0 ai r0 [.obj b1 (.cells [.func (.func 74) #[] #[]] .own)]))) v4 (fun m hm=>?_) ?_;clear hF;revert v4;intro r hF;refine aW (N:=15) (rs:=[.tmp 4]) rfl Tryz.func75 rfl rfl rfl hm ?_;refine wz ?_;refine wb fun b14=>?_;refine an ?_;rcases U hF with⟨h6,hF⟩|⟨h6,hF⟩;refine an ?_;cases hF;exact ar () [7,8,5,10,9,6];refine wz ?_;refine UZ (jO rfl rfl) (gg rfl rfl (iM h6)) rfl ?_;obtain⟨v0,h35,hF⟩:=J hF;refine UX (lN (α:=Unit) (V:=fun g=>(fun(r:Bool) (g:Unit)=>match r,g with|v0,_=>(.bool v0:Uy)) v0 g) (N:=fun g=>(fun(r:Bool) (g:Unit)=>match r,g with|v0,_=>((fg b0 a0 l2 c1 b2 o1 l1 c0 e0 ai r0 [.obj b1 (.cells [.func (.func 74) #[] #[]] .own)]):List Pc)) v0 g) rfl rfl (fun m hm=>?_)) (gg rfl rfl (iM h6)) rfl ?_
 clear hF;revert v0;intro r hF;refine aW (N:=20) (rs:=[.tmp 4]) rfl Tryz.func74 rfl rfl rfl hm ?_;refine wz ?_;refine wb fun b15=>?_;refine an ?_;obtain⟨l3,h36,hF⟩:=J hF;refine vN gn (fun m hm=>jx h36 m hm.cy (hm.q 3) (hm.no 3) (hm.q 4) (hm.no 4) (hm.dp (q:=5) rfl) (hm.dw (q:=5) rfl)) ?_;rintro⟨a2,c2,n0,e1,r5⟩;refine Vb (k:=0) (q:=1) (L:=l3) rfl (.inr (.inl ⟨_,rfl⟩)) rfl ?_;rintro rfl;refine wz ?_;refine UK ?_;obtain⟨r6,h7,hF⟩:=J hF;refine ct (fun(r:(Unit) ⊕(Unit)) (g:Unit)=>match r,g with|.inl _,_=>⟨.ret,[(4,.bool true)],(fg b0 a0 l2 c1 b2 o1 l1 c0 e0 ai r0 [.obj b1 (.cells [.func (.func 74) #[] #[]] .own)])⟩|.inr _,_=>⟨(.exit 0),[],(fg b0 a0 l2 c1 b2 o1 l1 c0 e0 ai r0 [.obj b1 (.cells [.func (.func 74) #[] #[]] .own)])⟩) r6 ?_ ?_
 refine lo h7 () [10,11,8,13,12,0,1,9] (fun v20 _=>⟨.normal,[(1,.func (.func 76) #[] #[ptr b0 0]),(8,bl a2 l3 c2),(9,eh l3),(10,aL v20)],(fg b0 a0 l2 c1 b2 o1 l1 c0 e0 ai r0 (ff a2 c2 l3 e1 ba r5 [.obj b1 (.cells [.func (.func 74) #[] #[]] .own)]))⟩) ?_;clear hF h7;rintro v20 ⟨⟩ r hF;unfold yA at hF;refine wz ?_;refine UJ ?_;rcases U hF with⟨h37,hF⟩|⟨h37,hF⟩;refine an ?_;obtain⟨h38,hF⟩:=bI hF;refine UY (k:=5) rfl (az h38) ?_;rintro b6 o4 rfl;refine wz ?_;obtain⟨l11,h39,hF⟩:=J hF;refine wl 1 0 7 0 h39 ?_;rintro⟨a7,c7⟩;refine an ?_;obtain⟨v5,h40,hF⟩:=J hF;refine wq (fun v5 (_:Unit)=>(.bool v5,(fg b0 a0 l2 c1 b2 o1 l1 c0 e0 ai r0 (.obj b1 (.cells [.func (.func 74) #[] #[]] .own)::iV b6 o4 l3 e1 ba r5 c2 [])))) v5 (fun m hm=>?_) ?_;clear hF;revert v5;intro r hF;refine aW (N:=27) (rs:=[.tmp 5]) rfl Tryz.func76 rfl rfl rfl hm ?_;refine wz ?_;refine UJ<|U3 (prs:=[(15,17),(15,18)]) (by kernel_rfl)<|UI (aK rfl) rfl<|UI (il (k:=0) I8 rfl rfl (.inl rfl)) rfl<|UI (aI rfl rfl (gi _ _ _)) rfl<|UI (aK rfl) rfl ?_
 rcases U hF with⟨h1,hF⟩|⟨h1,hF⟩;refine U4 (gg rfl rfl (oT h1)) rfl<|U4 (gg rfl rfl (oT h1)) rfl<|U4 (gg rfl rfl (oT h1)) rfl<|UI (ux rfl h1 rfl) rfl<|UI (aK rfl) rfl<|U4 (gg rfl rfl rfl) rfl<|U4 (gg rfl rfl rfl) rfl<|U4 (gg rfl rfl rfl) rfl<|UI (HL rfl rfl) rfl<|UI (aK rfl) rfl ?_;refine U4 (gg rfl rfl rfl) rfl<|U4 (gg rfl rfl rfl) rfl<|U4 (gg rfl rfl rfl) rfl<|U4 (gg rfl rfl rfl) rfl<|U4 (gg rfl rfl rfl) rfl<|U4 (gg rfl rfl rfl) rfl<|UI (HL rfl rfl) rfl<|UI (bH rfl) rfl<|U0 (fun m hm=>cq.all rfl) ?_;refine an ?_;cases hF;exact ar () [2,3,4,5,6,9,1,8,7];refine U2 (aK rfl) (gg rfl rfl (iM h1)) rfl<|U2 (il (k:=0) I8 rfl rfl (.inl rfl)) (gg rfl rfl (iM h1)) rfl<|U2 (aI rfl rfl (jM _ _ _)) (gg rfl rfl (iM h1)) rfl<|UI (ui rfl h1 rfl) rfl<|UI (aK rfl) rfl ?_;rcases U hF with⟨h2,hF⟩|⟨h2,hF⟩;refine U4 (gg rfl rfl (oT h2)) rfl<|U4 (gg rfl rfl (oT h2)) rfl<|U4 (gg rfl rfl (oT h2)) rfl<|UI (ux rfl h2 rfl) rfl<|UI (aK rfl) rfl<|U4 (gg rfl rfl rfl) rfl<|U4 (gg rfl rfl rfl) rfl<|U4 (gg rfl rfl rfl) rfl<|U4 (gg rfl rfl rfl) rfl<|U4 (gg rfl rfl rfl) rfl ?_;refine U4 (gg rfl rfl rfl) rfl<|UI (HL rfl rfl) rfl<|UI (bH rfl) rfl<|U0 (fun m hm=>cq.all rfl) ?_;refine an ?_;cases hF;exact ar () [2,3,4,5,6,9,1,8,7];refine U2 (aK rfl) (gg rfl rfl (iM h2)) rfl ?_;obtain⟨r14,h41,hF⟩:=J hF;refine nc (gg rfl rfl (iM h2)) (fun m hm=>MG h41 m (hm.q 0)) ?_;rintro⟨⟩;refine U2 (aI rfl rfl (gi _ _ _)) (gg rfl rfl (iM h2)) rfl<|UI (ui rfl h2 rfl) rfl<|UI (aK rfl) rfl ?_;rcases U hF with⟨h0,hF⟩|⟨h0,hF⟩;refine U4 (gg rfl rfl (oT h0)) rfl<|U4 (gg rfl rfl (oT h0)) rfl<|U4 (gg rfl rfl (oT h0)) rfl<|U4 (gg rfl rfl (oT h0)) rfl<|U4 (gg rfl rfl (oT h0)) rfl<|U4 (gg rfl rfl (oT h0)) rfl<|UI (ux rfl h0 rfl) rfl<|UI (bH rfl) rfl<|U0 (fun m hm=>cq.all rfl) ?_;refine an ?_;cases hF;exact ar () [2,3,4,5,6,9,1,8,7];refine U2 (aK rfl) (gg rfl rfl (iM h0)) rfl ?_;obtain⟨r15,h42,hF⟩:=J hF;refine nc (gg rfl rfl (iM h0)) (fun m hm=>Mg h42 m (hm.q 0)) ?_;rintro⟨⟩;refine U2 (aM (r:=ptr b0 0) rfl (gE _ _)) (gg rfl rfl (iM h0)) rfl<|U2 (aD (k:=2) qb rfl rfl rfl) (gg rfl rfl (iM h0)) rfl<|U2 (il (k:=3) N4 rfl rfl (.inl rfl)) (gg rfl rfl (iM h0)) rfl<|U2 (aI rfl rfl (wI _ _ _)) (gg rfl rfl (iM h0)) rfl<|UI (ui rfl h0 rfl) rfl<|UI (bH rfl) rfl<|U0 (fun m hm=>cq.all rfl) ?_;refine an ?_;cases hF;exact ar () [2,3,4,5,6,9,1,8,7];rintro⟨⟩;refine wz ?_;rcases U hF with⟨h43,hF⟩|⟨h43,hF⟩;refine an ?_;cases hF;exact ae () (Vh 0 6);refine an ?_;cases hF;exact ae () [0,1,2,3,4,8,7,5];refine wz ?_;cases hF;exact ae () [0,1,2,3,4,7];rcases r6 with _|_;rintro⟨⟩;refine wz ?_;cases hF;exact ar () (Vh 0 6);rintro⟨⟩;refine dM ?_;cases hF;exact ar () (Vh 0 6);rintro⟨⟩;refine an ?_;obtain rfl:=R9 hF;exact ar () (Vh 0 6);rintro⟨⟩;refine wz ?_;rcases U hF with⟨h44,hF⟩|⟨h44,hF⟩;refine an ?_;cases hF;exact ae () [0,1,4,3,5];refine an ?_;cases hF;exact ae () [5,0,1,4,3];refine wz ?_;cases hF;exact ae () [1,2,3,4,0];rcases r4 with v18|_;rintro⟨⟩;refine wz ?_;obtain rfl:=R9 hF;exact ar () (Vh 0 5);rintro⟨⟩;refine dM ?_;cases hF;exact ar () (Vh 0 5);rintro⟨⟩;refine an ?_;rcases U hF with⟨h45,hF⟩|⟨h45,hF⟩;refine an ?_;cases hF;exact ar () [];refine an ?_;refine UH (jO rfl rfl) rfl ?_;obtain⟨v6,h46,hF⟩:=J hF;refine wq (fun v6 (_:Unit)=>(.int .i64 v6,(cR b0 a0 l2 c1 a1 l1 c0 e0 ai r0 [.obj b1 (.cells [.func (.func 74) #[] #[]] .own)]))) v6 (fun m hm=>?_) ?_;clear hF;revert v6;intro r hF;refine aW (N:=19) (rs:=[.tmp 4]) rfl Tryz.func57 rfl rfl rfl hm ?_;refine an ?_;refine UK ?_;obtain⟨r7,h8,hF⟩:=J hF;refine ct (fun(r:(Int) ⊕(Unit)) (g:Unit)=>match r,g with|.inl v21,_=>⟨.ret,[(4,aL v21)],(cR b0 a0 l2 c1 a1 l1 c0 e0 ai r0 [.obj b1 (.cells [.func (.func 74) #[] #[]] .own)])⟩|.inr _,_=>⟨(.exit 0),[],(cR b0 a0 l2 c1 a1 l1 c0 e0 ai r0 [.obj b1 (.cells [.func (.func 74) #[] #[]] .own)])⟩) r7 ?_ ?_
 refine lo h8 () [4,0,1,2,3] (fun v22 _=>⟨.normal,((1,.func (.func 79) #[] #[ptr b1 0,ptr b0 0])::xT a1 l1 c0 v22 []),(.obj b1 (.cells [.func (.func 74) #[] #[]] .own)::cR b0 a0 l2 c1 a1 l1 c0 e0 ai r0 [])⟩) ?_;clear hF h8;rintro v22 ⟨⟩ r hF;unfold yK at hF;refine wz ?_;refine UJ ?_;rcases U hF with⟨h47,hF⟩|⟨h47,hF⟩;refine an ?_;obtain⟨h48,hF⟩:=bI hF;refine UY (k:=3) rfl (az h48) ?_;rintro b3 o2 rfl;refine wz ?_;obtain⟨⟨l12,l13⟩,h49,hF⟩:=J hF;refine wl 2 0 5 0 h49 ?_;rintro⟨⟨a8,c8⟩,⟨a9,c9,e6⟩⟩;refine wa z31 fun b16=>?_;refine an ?_;obtain⟨v7,h50,hF⟩:=J hF;refine wq (fun v7 (_:Unit)=>(.bool v7,(fg b0 a0 l2 c1 b3 o2 l1 c0 e0 ai r0 [.obj b1 (.cells [.func (.func 74) #[] #[]] .own)]))) v7 (fun m hm=>?_) ?_;clear hF;revert v7;intro r hF;refine aW (N:=9) (rs:=[.tmp 4]) rfl Tryz.func79 rfl rfl rfl hm ?_;refine wz ?_;refine wb fun b17=>?_;refine an ?_;refine UH (jO rfl rfl) rfl ?_;obtain⟨v8,h51,hF⟩:=J hF;refine wq (fun v8 (_:Unit)=>(.bool v8,(fg b0 a0 l2 c1 b3 o2 l1 c0 e0 ai r0 [.obj b1 (.cells [.func (.func 74) #[] #[]] .own)]))) v8 (fun m hm=>?_) ?_;clear hF;revert v8;intro r hF;refine aW (N:=20) (rs:=[.tmp 4]) rfl Tryz.func74 rfl rfl rfl hm ?_;refine wz ?_;refine wb fun b18=>?_;refine an ?_;obtain⟨l4,h52,hF⟩:=J hF;refine vN gn (fun m hm=>jx h52 m hm.cy (hm.q 3) (hm.no 3) (hm.q 4) (hm.no 4) (hm.dp (q:=5) rfl) (hm.dw (q:=5) rfl)) ?_;rintro⟨a3,c3,n1,e3,r8⟩;refine Vb (k:=0) (q:=1) (L:=l4) rfl (.inr (.inl ⟨_,rfl⟩)) rfl ?_;rintro rfl;refine wz ?_;refine UK ?_;obtain⟨r9,h9,hF⟩:=J hF;refine ct (fun(r:(Unit) ⊕(Unit)) (g:Unit)=>match r,g with|.inl _,_=>⟨.ret,[(4,.bool true)],(fg b0 a0 l2 c1 b3 o2 l1 c0 e0 ai r0 [.obj b1 (.cells [.func (.func 74) #[] #[]] .own)])⟩|.inr _,_=>⟨(.exit 0),[],(fg b0 a0 l2 c1 b3 o2 l1 c0 e0 ai r0 [.obj b1 (.cells [.func (.func 74) #[] #[]] .own)])⟩) r9 ?_ ?_
 refine lo h9 () [10,11,8,13,12,0,1,9] (fun v23 _=>⟨.normal,[(1,.func (.func 80) #[] #[ptr b0 0]),(8,bl a3 l4 c3),(9,eh l4),(10,aL v23)],(fg b0 a0 l2 c1 b3 o2 l1 c0 e0 ai r0 (ff a3 c3 l4 e3 ba r8 [.obj b1 (.cells [.func (.func 74) #[] #[]] .own)]))⟩) ?_;clear hF h9;rintro v23 ⟨⟩ r hF;unfold zH at hF;refine wz ?_;refine UJ ?_;rcases U hF with⟨h53,hF⟩|⟨h53,hF⟩;refine an ?_;obtain⟨h54,hF⟩:=bI hF;refine UY (k:=5) rfl (az h54) ?_;rintro b7 o5 rfl;refine wz ?_;obtain⟨l14,h55,hF⟩:=J hF;refine wl 1 0 7 0 h55 ?_;rintro⟨a10,c10⟩;refine an ?_;obtain⟨v9,h56,hF⟩:=J hF;refine wq (fun v9 (_:Unit)=>(.bool v9,(fg b0 a0 l2 c1 b3 o2 l1 c0 e0 ai r0 (.obj b1 (.cells [.func (.func 74) #[] #[]] .own)::iV b7 o5 l4 e3 ba r8 c3 [])))) v9 (fun m hm=>?_) ?_;clear hF;revert v9;intro r hF;refine aW (N:=11) (rs:=[.tmp 5]) rfl Tryz.func80 rfl rfl rfl hm ?_;refine an ?_;obtain⟨l7,h57,hF⟩:=J hF;refine wc gn (fun m hm=>oH h57 m (hm.q 3) (hm.q 6) (hm.dp (q:=5) rfl) (hm.q 0)) ?_;rintro⟨a11,n2⟩;refine U7 (k:=0) (xs:=l7) rfl ?_;rintro rfl;obtain⟨r16,h58,hF⟩:=J hF;refine wc gn (fun m hm=>NA h58 m (hm.rd (k:=0) rfl (.sl _ _ _ _))) ?_;rintro⟨⟩;refine an ?_;cases hF;exact ar () [3,4,5,6,7,10,2,9,8];rintro⟨⟩;refine wz ?_;rcases U hF with⟨h59,hF⟩|⟨h59,hF⟩;refine an ?_;cases hF;exact ae () (Vh 0 6);refine an ?_;cases hF;exact ae () [0,1,2,3,4,8,7,5];refine wz ?_;cases hF;exact ae () [0,1,2,3,4,7];rcases r9 with _|_;rintro⟨⟩;refine wz ?_;cases hF;exact ar () (Vh 0 6);rintro⟨⟩;refine dM ?_;cases hF;exact ar () (Vh 0 6);rintro⟨⟩;refine an ?_;obtain rfl:=R9 hF;exact ar () (Vh 0 6);rintro⟨⟩;refine wz ?_;rcases U hF with⟨h60,hF⟩|⟨h60,hF⟩;refine an ?_;cases hF;exact ae () [0,1,4,3,5];refine an ?_;cases hF;exact ae () [5,0,1,4,3];refine wz ?_;cases hF;exact ae () [1,2,3,4,0];rcases r7 with v21|_;rintro⟨⟩;refine wz ?_;obtain rfl:=R9 hF;exact ar () (Vh 0 5);rintro⟨⟩;refine dM ?_;cases hF;exact ar () (Vh 0 5);rintro⟨⟩;refine an ?_;rcases U hF with⟨h61,hF⟩|⟨h61,hF⟩;refine an ?_;cases hF;exact ar () [];refine an ?_;refine UH (jO rfl rfl) rfl ?_;obtain⟨v10,h62,hF⟩:=J hF;refine wq (fun v10 (_:Unit)=>(.int .i64 v10,(cR b0 a0 l2 c1 a1 l1 c0 e0 ai r0 []))) v10 (fun m hm=>?_) ?_;clear hF;revert v10;intro r hF;refine aW (N:=19) (rs:=[.tmp 4]) rfl Tryz.func57 rfl rfl rfl hm ?_;refine an ?_;refine UK ?_;obtain⟨r10,h10,hF⟩:=J hF;refine ct (fun(r:(Int) ⊕(Unit)) (g:Unit)=>match r,g with|.inl v24,_=>⟨.ret,[(4,aL v24)],(cR b0 a0 l2 c1 a1 l1 c0 e0 ai r0 [])⟩|.inr _,_=>⟨(.exit 0),[],(cR b0 a0 l2 c1 a1 l1 c0 e0 ai r0 [])⟩) r10 ?_ ?_
 refine lo h10 () [4,0,1,2,3] (fun v25 _=>⟨.normal,((1,.func (.func 82) #[] #[ptr b1 0,ptr b0 0])::xT a1 l1 c0 v25 []),(.obj b1 (.cells [.func (.func 74) #[] #[]] .own)::cR b0 a0 l2 c1 a1 l1 c0 e0 ai r0 [])⟩) ?_;clear hF h10;rintro v25 ⟨⟩ r hF;unfold yj at hF;refine wz ?_;refine UJ ?_;rcases U hF with⟨h63,hF⟩|⟨h63,hF⟩;refine an ?_;obtain⟨h64,hF⟩:=bI hF;refine UY (k:=3) rfl (az h64) ?_;rintro b4 o3 rfl;refine wz ?_;obtain⟨⟨l15,l16⟩,h65,hF⟩:=J hF;refine wl 2 0 5 0 h65 ?_;rintro⟨⟨a12,c11⟩,⟨a13,c12,e7⟩⟩;refine wa z31 fun b19=>?_;refine an ?_;obtain⟨v11,h66,hF⟩:=J hF;refine wq (fun v11 (_:Unit)=>(.bool v11,(fg b0 a0 l2 c1 b4 o3 l1 c0 e0 ai r0 [.obj b1 (.cells [.func (.func 74) #[] #[]] .own)]))) v11 (fun m hm=>?_) ?_;clear hF;revert v11;intro r hF;refine aW (N:=9) (rs:=[.tmp 4]) rfl Tryz.func82 rfl rfl rfl hm ?_;refine wz ?_;refine wb fun b20=>?_;refine an ?_;refine UH (jO rfl rfl) rfl ?_;obtain⟨v12,h67,hF⟩:=J hF;refine wq (fun v12 (_:Unit)=>(.bool v12,(fg b0 a0 l2 c1 b4 o3 l1 c0 e0 ai r0 [.obj b1 (.cells [.func (.func 74) #[] #[]] .own)]))) v12 (fun m hm=>?_) ?_;clear hF;revert v12;intro r hF;refine aW (N:=20) (rs:=[.tmp 4]) rfl Tryz.func74 rfl rfl rfl hm ?_;refine wz ?_;refine wb fun b21=>?_;refine an ?_;obtain⟨l5,h68,hF⟩:=J hF;refine vN gn (fun m hm=>jx h68 m hm.cy (hm.q 3) (hm.no 3) (hm.q 4) (hm.no 4) (hm.dp (q:=5) rfl) (hm.dw (q:=5) rfl)) ?_;rintro⟨a4,c4,n4,e4,r11⟩;refine Vb (k:=0) (q:=1) (L:=l5) rfl (.inr (.inl ⟨_,rfl⟩)) rfl ?_;rintro rfl;refine wz ?_;refine UK ?_;obtain⟨r12,h11,hF⟩:=J hF;refine ct (fun(r:(Unit) ⊕(Unit)) (g:Unit)=>match r,g with|.inl _,_=>⟨.ret,[(4,.bool true)],(fg b0 a0 l2 c1 b4 o3 l1 c0 e0 ai r0 [.obj b1 (.cells [.func (.func 74) #[] #[]] .own)])⟩|.inr _,_=>⟨(.exit 0),[],(fg b0 a0 l2 c1 b4 o3 l1 c0 e0 ai r0 [.obj b1 (.cells [.func (.func 74) #[] #[]] .own)])⟩) r12 ?_ ?_
 refine lo h11 () [10,11,8,13,12,0,1,9] (fun v26 _=>⟨.normal,[(1,.func (.func 83) #[] #[ptr b0 0]),(8,bl a4 l5 c4),(9,eh l5),(10,aL v26)],(fg b0 a0 l2 c1 b4 o3 l1 c0 e0 ai r0 (ff a4 c4 l5 e4 ba r11 [.obj b1 (.cells [.func (.func 74) #[] #[]] .own)]))⟩) ?_;clear hF h11;rintro v26 ⟨⟩ r hF;unfold Am at hF;refine wz ?_;refine UJ ?_;rcases U hF with⟨h69,hF⟩|⟨h69,hF⟩;refine an ?_;obtain⟨h70,hF⟩:=bI hF;refine UY (k:=5) rfl (az h70) ?_;rintro b8 o6 rfl;refine wz ?_;obtain⟨l17,h71,hF⟩:=J hF;refine wl 1 0 7 0 h71 ?_;rintro⟨a14,c13⟩;refine an ?_;obtain⟨v13,h72,hF⟩:=J hF;refine wq (fun v13 (_:Unit)=>(.bool v13,(fg b0 a0 l2 c1 b4 o3 l1 c0 e0 ai r0 (.obj b1 (.cells [.func (.func 74) #[] #[]] .own)::iV b8 o6 l5 e4 ba r11 c4 [])))) v13 (fun m hm=>?_) ?_;clear hF;revert v13;intro r hF;refine aW (N:=14) (rs:=[.tmp 5]) rfl Tryz.func83 rfl rfl rfl hm ?_;refine an ?_;obtain⟨l8,h73,hF⟩:=J hF;refine wc gn (fun m hm=>oH h73 m (hm.q 3) (hm.q 6) (hm.dp (q:=5) rfl) (hm.q 0)) ?_;rintro⟨a15,n5⟩;refine U7 (k:=0) (xs:=l8) rfl ?_;rintro rfl;obtain⟨r17,h74,hF⟩:=J hF;refine wc gn (fun m hm=>GP h74 m (hm.rd (k:=0) rfl (.sl _ _ _ _))) ?_;rintro⟨⟩;refine wz ?_;refine UH (aI rfl rfl (FY u4)) rfl ?_;refine an ?_;cases hF;exact ar () [3,4,5,6,7,10,2,9,8];rintro⟨⟩;refine wz ?_;rcases U hF with⟨h75,hF⟩|⟨h75,hF⟩;refine an ?_;cases hF;exact ae () (Vh 0 6);refine an ?_;cases hF;exact ae () [0,1,2,3,4,8,7,5];refine wz ?_;cases hF;exact ae () [0,1,2,3,4,7];rcases r12 with _|_;rintro⟨⟩;refine wz ?_;cases hF;exact ar () (Vh 0 6);rintro⟨⟩;refine dM ?_;cases hF;exact ar () (Vh 0 6);rintro⟨⟩;refine an ?_;obtain rfl:=R9 hF;exact ar () (Vh 0 6);rintro⟨⟩;refine wz ?_;rcases U hF with⟨h76,hF⟩|⟨h76,hF⟩;refine an ?_;cases hF;exact ae () [0,1,4,3];refine an ?_;cases hF;exact ae () [5,0,1,4,3];refine wz ?_;cases hF;exact ae () [1,2,3,4];rcases r10 with v24|_;rintro⟨⟩;refine wz ?_;obtain rfl:=R9 hF;exact ar () [0,1,2,3];rintro⟨⟩;refine dM ?_;cases hF;exact ar () [0,1,2,3];rintro⟨⟩;refine an ?_;rcases U hF with⟨h77,hF⟩|⟨h77,hF⟩;refine an ?_;cases hF;exact ar () [];refine an ?_;obtain⟨⟨r18,r19⟩,h78,hF⟩:=J hF;refine wc gn (fun m hm=>MV h78 m (hm.q 1) (hm.q 2) (hm.dp (q:=3) rfl)) ?_;rintro⟨⟩;refine an ?_;cases hF;exact ar () []
def tR{n l1 l5 a2 c3 a6 c7}{rr8:Ux}{es9:Uv}{r}(hF:Jv n l1 l5=some r)(m)(h4:dA m a2 c3 l1)(h10:fa m a6 c7 l5 es9)(h11:(bT ai rr8 l5 es9).P m):
 aC (Vr p q) 47 [dZ a2 l1 c3 a6 l5 c7] m (Vn m (.int .i64 r)):=by
 unfold Jv at hF;refine cw Tryz.func47 (U5 (UT (UT (UP m) bQ h4) (bO bQ) h10) (bO (bO bQ)) h11) ?_;refine wz ?_;refine wb fun b12=>?_;refine an ?_;obtain⟨⟨r14,r15⟩,h13,hF⟩:=J hF;refine wc gn (fun m hm=>GY h13 m (hm.q 3) (hm.q 2) (hm.dp (q:=1) rfl)) ?_;rintro⟨⟩;refine an ?_;rcases U hF with⟨h16,hF⟩|⟨h16,hF⟩;refine an ?_;cases hF;exact ar () [];refine dM ?_;cases hF;exact ar () []
def Gz(n l1 b1 b2 b0){m0:Vo}: ∀(k:Nat) (x3:Int) (r0:Int),Qi n l1 k () x3=some r0->∀(rest:List Pc) (m:Vo),Hp m0 m (.obj b1 (.cells [.map (some b2)] .own)::.obj b2 (.map (l1.map (eM (fun n:Int=>.int .i64 n) (fun n:Int=>.int .i64 n))))::.obj b0 (.cells [.func (.func 67) #[] #[ptr b1 0,ptr b0 0]] .own)::rest) ->
 aC (Vr (some lL) q) 67 [aL x3,ptr b1 0,ptr b0 0] m (fun v m'=>∃_:Unit,v=.int .i64 r0/\Hp m0 m' (.obj b1 (.cells [.map (some b2)] .own)::.obj b2 (.map (l1.map (eM (fun n:Int=>.int .i64 n) (fun n:Int=>.int .i64 n))))::.obj b0 (.cells [.func (.func 67) #[] #[ptr b1 0,ptr b0 0]] .own)::rest)):=by
 intro k
 induction k with
 | zero=>intro x3 r0 hF; cases hF
 | succ k ih =>
 intro x3 r0 hF rest m hm;replace hF:Mb n (Qi n l1 k) l1 () x3=_:=hF;unfold Mb at hF;refine aW (N:=23) (rs:=[.tmp 4]) rfl Tryz.func67 rfl rfl rfl hm ?_;clear hm;refine an ?_;obtain⟨⟨y0,y1⟩,h1,hF⟩:=J hF;refine UH (H7 (q:=1) (xs:=l1) (k:=x3) (vE:=(fun n:Int=>.int .i64 n)) (z0:=(0:Int)) N9 (JU u3) z3 rfl rfl rfl rfl h1) rfl ?_;refine wz ?_;refine UJ ?_;obtain⟨v0,h2,hF⟩:=J hF;refine ct (fun v0 (_:Unit)=>⟨.normal,[(0,aL x3),(2,ptr b0 0),(5,aL y0),(18,dL v0)],(.obj b0 (.cells [.func (.func 67) #[] #[ptr b1 0,ptr b0 0]] .own)::.obj b1 (.cells [.map (some b2)] .own)::.obj b2 (.map (l1.map (eM (fun n:Int=>.int .i64 n) (fun n:Int=>.int .i64 n))))::rest)⟩) v0 ?_ ?_;clear hF;revert v0;intro r hF;refine wz ?_;rcases U hF with⟨h3,hF⟩|⟨h3,hF⟩;refine wz ?_;cases hF;exact aT () (aa.lM 3 [2,0,1] rfl rfl rfl);refine wz ?_;cases hF;exact aT () (aa.lM 3 [2,0,1] rfl rfl rfl);rintro⟨⟩;refine US ?_;rcases U hF with⟨h0,hF⟩|⟨h0,hF⟩;refine U8 rfl h0<|UJ<|UM<|UH (aD (k:=0) FV rfl rfl rfl) rfl<|UH (aK rfl) rfl ?_;obtain⟨r1,h4,hF⟩:=J hF;refine UW (aa.lM 3 [1,2,0] rfl rfl rfl)<|UX (lN (α:=Unit) (V:=fun _=>.int .i64 r1) (N:=fun _=>(.obj b1 (.cells [.map (some b2)] .own)::.obj b2 (.map (l1.map (eM (fun n:Int=>.int .i64 n) (fun n:Int=>.int .i64 n))))::.obj b0 (.cells [.func (.func 67) #[] #[ptr b1 0,ptr b0 0]] .own)::rest)) rfl rfl (fun m hm=>ih y0 r1 h4 rest m hm)) gn rfl fun _=>?_;refine an ?_;have hr:=R9 hF;subst r0;exact U1 (.tmp rfl .nil) fun m' hm=>⟨(),rfl,(aa.lM 3 [0,1,2] rfl rfl rfl) m' hm⟩;refine dM ?_;have hr:=R9 hF;subst r0;exact U1 (.tmp rfl .nil) fun m' hm=>⟨(),rfl,(aa.lM 3 [1,2,0] rfl rfl rfl) m' hm⟩
def JS(hE:EnvOk (Vr (some lL) q))(n:Nat)(l3:Ut)(l2:Ur)(a0:Uw)(c0:Nat)(a1:Uw)(c1:Nat)(r0:Ux)(e0:Uv)(r:(Int×Int×Int×Int×Int) ⊕(List (Us)×Ut))(hF:LZ n l3 l2=some r)(m:Vo)(h17:dA m a0 c0 l3)(h18:fa m a1 c1 l2 e0)(h19:(bT ai r0 l2 e0).P m){R:Uy->Vo->Prop}(kR:∀x,r=.inl x->∀m':Vo,Hp m m' []->R (.tuple #[.int .i64 x.1,.int .i64 x.2.1,.int .i64 x.2.2.1,.int .i64 x.2.2.2.1,.int .i64 x.2.2.2.2]) m')(kN:∀x,r=.inr x->∀g:Nat×Uw×Nat×Nat,Vk (Vr (some lL) q) 84 38 none (Pp 7 (mc Tryz.f38)) (jh (Vr (some lL) q) [.tmp 2,.tmp 3,.tmp 4,.tmp 5,.tmp 6] R) m ((fun(r:List (Us)×Ut) (g:Nat×Uw×Nat×Nat)=>match r,g with |(l7,l9),(b6,a3,b7,b8)=>([(1,ptr b6 0),(5,.int .i64 0),(8,bU a3 l7),(9,ptr b7 0)]:Fs)) x g) ((fun(r:List (Us)×Ut) (g:Nat×Uw×Nat×Nat)=>match r,g with |(l7,l9),(b6,a3,b7,b8)=>((cR b6 a0 l3 c0 a1 l2 c1 e0 ai r0 [lj a3 l7,eJ b7 b8,vJ b8 l9]):List Pc)) x g)) :
 Vk (Vr (some lL) q) 84 38 none (mc Tryz.f38) (jh (Vr (some lL) q) [.tmp 2,.tmp 3,.tmp 4,.tmp 5,.tmp 6] R) m (nQ [dZ a0 l3 c0 a1 l2 c1] 0 []) [iH ai r0 l2 e0,sd a1 c1 l2 e0,gr a0 c0 l3]:=by
 unfold LZ at hF;refine Vk.seq hE<|UM<|wb fun b3=>?_;refine UH (bH rfl) rfl<|UH (bH rfl) rfl<|UH (bH rfl) rfl<|UH (bH rfl) rfl<|UH (bH rfl) rfl<|UU<|At.HT<|Vk.seq hE<|UJ<|UM<|UH (aD (k:=0) eS rfl rfl rfl) rfl ?_;obtain⟨r4,h9,hF⟩:=J hF;refine wc gn (fun m hm=>tR h9 m (hm.q 3) (hm.q 2) (hm.dp (q:=1) rfl)) ?_;rintro⟨⟩;refine UH (bH rfl) rfl<|UU<|US<|UJ<|UM<|UH (aK rfl) rfl<|UH (aI rfl rfl (oj _ _)) rfl<|UU<|US ?_;rcases U hF with⟨h1,hF⟩|⟨h1,hF⟩;refine U8 rfl h1<|UJ<|UM<|UH (aK rfl) rfl<|UH (bH rfl) rfl<|UH (bH rfl) rfl<|UH (bH rfl) rfl<|UH (bH rfl) rfl<|UH (bH rfl) rfl<|UU<|US<|Wk.ret<|At.tr ?_;cases hF;exact U1 (.tmp rfl (.tmp rfl (.tmp rfl (.tmp rfl (.tmp rfl .nil))))) fun m' hm=>kR _ rfl m' (UN [] rfl rfl m' hm);refine Wk.eY rfl h1<|Ve<|At.HT<|Vk.seq hE<|UM<|UH (aD (k:=0) eS rfl rfl rfl) rfl ?_;obtain⟨l1,h10,hF⟩:=J hF;refine wc gn (fun m hm=>IE n l3 l2 a0 c0 a1 c1 r0 e0 _ h10 m (hm.q 3) (hm.q 2) (hm.dp (q:=1) rfl)) ?_;rintro⟨a2,n0⟩;refine U7 (k:=0) (xs:=l1) rfl ?_;rintro rfl;refine UH (bH rfl) rfl<|UU<|At.HT<|Vk.seq hE<|UM<|UX Gt gn rfl fun b2=>?_;refine wa R4 fun b0=>?_;refine Vf (dK (k:=0) Bb rfl rfl rfl rfl rfl)<|UU<|At.HT<|Vk.seq hE<|UM<|wa z93 fun b1=>?_;refine UU<|At.HT<|Vk.seq hE<|UM<|UH (jO rfl rfl) rfl<|Vf (dK (k:=0) FV rfl rfl rfl rfl rfl)<|UU<|At.HT<|Vk.seq hE<|UJ<|UM<|UH (aK rfl) rfl<|UH (il (k:=3) Of rfl rfl (.inl rfl)) rfl<|UH (aK rfl) rfl<|UU<|US<|UK ?_;obtain⟨l8,h2,hF⟩:=J hF;refine ct (fun l8 (_:Unit)=>⟨(.exit 0),[(1,ptr b3 0),(5,.int .i64 0),(8,bU a2 l1),(9,ptr b0 0)],(cR b3 a0 l3 c0 a1 l2 c1 e0 ai r0 [lj a2 l1,eJ b0 b2,vJ b2 l8])⟩) l8 ?_ ?_;refine lo h2 () [4,7,6,5,3,1,2,0] (fun(l10,v0) _=>⟨.normal,[(1,ptr b3 0),(5,.int .i64 0),(8,bU a2 l1),(9,ptr b0 0),(10,ptr b1 0),(28,bU a2 l1),(29,eh l1),(30,aL v0)],(cR b3 a0 l3 c0 a1 l2 c1 e0 ai r0 [lj a2 l1,eJ b0 b2,vJ b2 l10,.obj b1 (.cells [.func (.func 67) #[] #[ptr b0 0,ptr b1 0]] .own)])⟩) ?_;clear hF h2;rintro⟨l10,v0⟩ ⟨⟩ r hF;unfold LD at hF;refine UJ<|UM<|UH (aI rfl rfl (gi _ _ _)) rfl<|UU<|US<|UJ ?_;rcases U hF with⟨h3,hF⟩|⟨h3,hF⟩;refine U8 rfl h3<|Ve<|US<|UJ<|UK<|UJ<|UM ?_;obtain⟨h7,hF⟩:=bI hF;refine U9 (k:=4) rfl (az h7) ?_;rintro b5 t0 rfl h20;refine UZ (lJ Lv rfl rfl h7) gn rfl ?_;obtain⟨⟨x3,x4,x10,x11⟩,h11,hF⟩:=J hF;refine UH (eK (k:=4) AB rfl rfl (cK h11) rfl rfl) rfl<|wa z64 fun b4=>?_;refine Vf (dK (k:=0) AB rfl rfl rfl rfl rfl)<|UU<|US<|UJ<|UJ<|UM<|UH (aM (r:=ptr b4 0) rfl (qe _ _)) rfl<|UH (aD (k:=0) bX rfl rfl rfl) rfl<|UH (aM (r:=ptr b4 1) rfl (pO _ _)) rfl<|UH (aD (k:=0) bX rfl rfl rfl) rfl<|UH (cj rfl z67 rfl (cm II rfl rfl rfl)) rfl<|UH (aK rfl) rfl<|UU<|US<|UK ?_;obtain⟨l4,h4,hF⟩:=J hF;refine ct (fun l4 (_:Unit)=>⟨(.exit 2),[(1,ptr b3 0),(5,.int .i64 0),(8,re b5 l1),(9,ptr b0 0),(10,ptr b1 0),(12,ptr b4 0),(28,re b5 l1),(29,eh l1),(30,aL v0)],(cR b3 a0 l3 c0 a1 l2 c1 e0 ai r0 [qX b5 l1 t0,eJ b0 b2,vJ b2 l4,.obj b1 (.cells [.func (.func 67) #[] #[ptr b0 0,ptr b1 0]] .own),fG b4 x3 x4 x10 x11])⟩) l4 ?_ ?_;refine lo h4 () [1,2,3,4,5,6,7,8,0] (fun(l5,v1) _=>⟨.normal,[(1,ptr b3 0),(5,.int .i64 0),(8,re b5 l1),(9,ptr b0 0),(10,ptr b1 0),(12,ptr b4 0),(28,re b5 l1),(29,eh l1),(30,aL v0),(38,eU x3 x4),(39,aL v1)],(cR b3 a0 l3 c0 a1 l2 c1 e0 ai r0 [qX b5 l1 t0,eJ b0 b2,vJ b2 l5,.obj b1 (.cells [.func (.func 67) #[] #[ptr b0 0,ptr b1 0]] .own),fG b4 x3 x4 x10 x11])⟩) ?_;clear hF h4;rintro⟨l5,v1⟩ ⟨⟩ r hF;unfold LJ at hF;refine UJ<|UM<|UH (aI rfl rfl (gi _ _ _)) rfl<|UU<|US<|UJ ?_;rcases U hF with⟨h5,hF⟩|⟨h5,hF⟩;refine U8 rfl h5<|Ve<|US<|UJ ?_;obtain⟨l6,h12,hF⟩:=J hF;refine ct (fun l6 (_:Unit)=>⟨.normal,[(1,ptr b3 0),(5,.int .i64 0),(8,re b5 l1),(9,ptr b0 0),(10,ptr b1 0),(12,ptr b4 0),(28,re b5 l1),(29,eh l1),(30,aL v0),(38,eU x3 x4),(39,aL v1)],(cR b3 a0 l3 c0 a1 l2 c1 e0 ai r0 [qX b5 l1 t0,eJ b0 b2,vJ b2 l6,.obj b1 (.cells [.func (.func 67) #[] #[ptr b0 0,ptr b1 0]] .own),fG b4 x3 x4 x10 x11])⟩) l6 ?_ ?_;clear hF;revert l6;intro r hF;refine UK<|UJ<|UM ?_;obtain⟨h13,hF⟩:=aA hF;obtain⟨x12,h0,hF⟩:=J hF;refine UX (yH (α:=Unit) (V:=fun g=>match g with|_=>.int .i64 x12) (N:=fun g=>match g with|_=>[]++(cR b3 a0 l3 c0 a1 l2 c1 e0 ai r0 [qX b5 l1 t0,eJ b0 b2,vJ b2 l5,.obj b1 (.cells [.func (.func 67) #[] #[ptr b0 0,ptr b1 0]] .own),fG b4 x3 x4 x10 x11])) rfl rfl (fun m hm=>?_)) gn rfl ?_
 have hj:=kj h13;obtain⟨j,h8⟩:∃j:Nat,(v1:Int)=j:=⟨_,(Ti hj.1).symm⟩;rw[h8] at h0 hj ⊢;rw[Sv] at h0 hj;replace hj:=hj.2;clear hF h8
 match j,hj,h0 with
 | 0,_,h0=>cases h0; exact⟨(),oM LO (i:=0) (by decide) (BJ bX rfl),hm⟩
 | 1,_,h0=>cases h0; exact⟨(),oM LO (i:=1) (by decide) (BJ bX rfl),hm⟩
 | _+2,hj,_=>exact Ss hj (by omega)
 rintro⟨⟩;refine UH (bH rfl) rfl<|UU<|US<|UJ<|UM<|UH (aD (k:=5) Bb rfl rfl rfl) rfl<|UH (aK rfl) rfl ?_;obtain⟨⟨y0,y1⟩,h14,hF⟩:=J hF;refine UH (H7 (q:=6) (xs:=l5) (k:=x12) (vE:=(fun n:Int=>.int .i64 n)) (z0:=(0:Int)) N9 (JU u3) z3 rfl rfl rfl rfl h14) rfl<|UH (aK rfl) rfl<|UH (Ec rfl rfl) rfl<|UH (Ec rfl rfl) rfl<|UH (bH rfl) rfl<|UH (bH rfl) rfl<|UU<|US<|UJ<|UM<|UH (aK rfl) rfl<|UH (AA rfl rfl) rfl<|UU<|US ?_;rcases U hF with⟨h6,hF⟩|⟨h6,hF⟩;refine U8 rfl h6<|UM<|UH (aD (k:=5) Bb rfl rfl rfl) rfl<|UH (aK rfl) rfl<|UH (aK rfl) rfl<|Vf (Dq (q:=6) (xs:=l5) (k:=x12) (v:=x12) (vE:=(fun n:Int=>.int .i64 n)) N9 (JU u3) rfl rfl rfl rfl)<|UU<|At.bn ?_;cases hF;exact ae () (Vh 0 9);refine Wk.eY rfl h6<|Ve<|At.bn ?_;obtain rfl:=R9 hF;exact ae () (Vh 0 9);rintro⟨⟩;refine US<|UM<|UH (aI rfl rfl (bR _ _ _)) rfl<|UH (aK rfl) rfl<|UU ?_;cases hF;exact ae () (Vh 0 9);refine Wk.eY rfl h5<|Wk.exit<|At.te ?_;cases hF;exact ae () (Vh 0 9);rintro⟨⟩;refine At.be<|US<|U3 (prs:=[(0,4),(4,5),(4,7),(0,8)]) (by kernel_rfl)<|U6 rfl (aD (k:=5) Bb rfl rfl rfl) rfl<|UI (aD (k:=7) FV rfl rfl rfl) rfl<|UI (aM (r:=ptr b4 0) rfl (qe _ _)) rfl<|UI (aD (k:=8) bX rfl rfl rfl) rfl ?_
 obtain⟨r1,h15,hF⟩:=J hF;refine Vg (UN [5,6,7,0,1,2,3,4,8] rfl rfl) ?_;refine Wn.xk (l:=[b0,b1,b4]) (lN (α:=Unit) (V:=fun _=>.int .i64 r1) (N:=fun _=>(eJ b0 b2::vJ b2 l4::.obj b1 (.cells [.func (.func 67) #[] #[ptr b0 0,ptr b1 0]] .own)::cR b3 a0 l3 c0 a1 l2 c1 e0 ai r0 [qX b5 l1 t0,fG b4 x3 x4 x10 x11])) rfl rfl (fun m hm=>Gz n l4 b0 b2 b1 n x3 r1 h15 ((cR b3 a0 l3 c0 a1 l2 c1 e0 ai r0 [qX b5 l1 t0,fG b4 x3 x4 x10 x11])) m hm)) ⟨⟨_,0,rfl,rfl,fun _=>⟨0,rfl⟩⟩,⟨⟨_,2,rfl,rfl,fun _=>⟨2,rfl⟩⟩,⟨⟨_,8,rfl,rfl,fun _=>⟨8,rfl⟩⟩,trivial⟩⟩⟩ gn rfl fun _=>?_;refine U6 rfl (aD (k:=2) FV rfl rfl rfl) rfl<|UI (aM (r:=ptr b4 1) rfl (pO _ _)) rfl<|U6 rfl (aD (k:=8) bX rfl rfl rfl) rfl ?_;obtain⟨r3,h16,hF⟩:=J hF;refine Vg (UN [0,1,2,3,4,5,6,7,8] rfl rfl) ?_;refine Wn.xk (l:=[b0]) (lN (α:=Unit) (V:=fun _=>.int .i64 r3) (N:=fun _=>(eJ b0 b2::vJ b2 l4::.obj b1 (.cells [.func (.func 67) #[] #[ptr b0 0,ptr b1 0]] .own)::cR b3 a0 l3 c0 a1 l2 c1 e0 ai r0 [qX b5 l1 t0,fG b4 x3 x4 x10 x11])) rfl rfl (fun m hm=>Gz n l4 b0 b2 b1 n x4 r3 h16 ((cR b3 a0 l3 c0 a1 l2 c1 e0 ai r0 [qX b5 l1 t0,fG b4 x3 x4 x10 x11])) m hm)) ⟨⟨_,0,rfl,rfl,fun _=>⟨0,rfl⟩⟩,trivial⟩ gn rfl fun _=>?_;refine Vc (Dq (q:=1) (xs:=l4) (k:=r1) (v:=r3) (vE:=(fun n:Int=>.int .i64 n)) N9 (JU u3) rfl rfl rfl rfl) ?_;refine U0 (fun m hm=>(by(first|refine cq.rk rfl rfl rfl (by simp) ?_|refine cq.step rfl ?_); exact(by(first|refine cq.kr rfl rfl rfl (by simp) ?_|refine cq.step rfl ?_); exact(by(first|refine cq.kr rfl rfl rfl (by simp) ?_|refine cq.step rfl ?_); exact(by(first|refine cq.rk rfl rfl rfl (by simp) ?_|refine cq.step rfl ?_); exact cq.nil))))) ?_
 refine At.bn<|US<|UM<|UH (aI rfl rfl (bR _ _ _)) rfl<|UH (aK rfl) rfl<|UU ?_;cases hF;exact aT () (UQ (UO (k:=7) rfl) (UN [3,4,5,6,7,0,1,2] rfl rfl));refine Wk.eY rfl h3<|Wk.exit<|At.te ?_;cases hF;exact ae () (Vh 0 7);rintro⟨⟩;refine At.be<|At.HT ?_;cases hF;exact Vk.G7 (sc rfl (sc rfl (sc rfl (sc rfl sn)))) (UN [0,1,2,3,4,5,6] rfl rfl) (kN _ rfl (b3,a2,b0,b2))
end
section
open Go Go.Ab Go.Ab.W
set_option maxRecDepth 10000
attribute [local irreducible] Tm.at Trie.set Trie.get Vo.get Vo.set Vo.alloc Vo.ww Vo.kill
def jq(r:Ut)(S:List Nat):Int:=((S.filterMap fun i=>r[i]?).countP (fun p=>decide (p.1=p.2)):Nat)
def sF{r:Ut}{S:List Nat}{i:Nat}{e:Int×Int}(h:r[i]? = some e):jq r (S++[i])=jq r S+if e.1=e.2 then 1 else 0:=by
 unfold jq;rw[List.filterMap_append,List.countP_append];simp[h,List.countP_cons]
 split<;>rfl
def Hm{r:Ut}{S:List Nat}:0<=jq r S/\jq r S<=S.length:=by
 unfold jq;have h1:=List.countP_le_length (p:=fun p:Int×Int=>decide (p.1=p.2)) (l:=S.filterMap fun i=>r[i]?);have h2:=List.length_filterMap_le (fun i=>r[i]?) S;omega
def Ae(r:Ut):jq r (List.range r.length)=pK r:=by
 unfold jq pK;have:∀(r:Ut),(List.range r.length).filterMap (fun i=>r[i]?)=r:=by
  intro r
  induction r with
  | nil=>rfl
  | cons x r ih =>
   rw[SJ,List.range_succ_eq_map,List.filterMap_cons];simp only[Sy,List.filterMap_map]
   congr 1
 rw[this]
def Be{r:Ut}{S:List Nat}(h:S.Perm (List.range r.length)):jq r S=pK r:=by
 rw[<-Ae];unfold jq;rw[(h.filterMap _).countP_eq]
def GG{x:Int}(h1:0<=x)(h2:x<=1073741825):UD x=x:=by
 simp only[IntKind.wrap,IntKind.bits,IntKind.signed]
 show(if(true&&decide (x%18446744073709551616≥9223372036854775808))=true then x%18446744073709551616-18446744073709551616 else x%18446744073709551616)=x
 simp only[Ty,Sn]
 split<;>omega
abbrev HR:Int×Int->Uy×Uy:=eM (fun n:Int=>.int .i64 n) (fun n:Int=>.int .i64 n)
abbrev JP(x:Int×Int×Int×Int×Int):Uy:=.tuple #[.int .i64 x.1,.int .i64 x.2.1,.int .i64 x.2.2.1,.int .i64 x.2.2.2.1,.int .i64 x.2.2.2.2]
set_option maxHeartbeats 4000000
def L3{m:Vo}{l1:Ut}{l5:Ur}{a2:Uw}{c3:Nat}{a6:Uw}{c7:Nat}{rr8:Ux}{es9:Uv}{l:List fN}{r:Ut}{b:Nat}{a:Uw}{b2 b3:Nat}(hlim:lim r.length=true){R:Uy->Vo->Prop}
  (hR:∀m':Vo,Hp m m' []->R (JP (r.length,l.length,l5.length,pK r,0)) m') :
  Vk (Vr (some lL) none) 84 38 none (Pp 7 (mc Tryz.f38)) (jh (Vr (some lL) none) [.tmp 2,.tmp 3,.tmp 4,.tmp 5,.tmp 6] R) m [(1,ptr b 0),(5,.int .i64 0),(8,.slice a l.length l.length),(9,ptr b2 0)]
   [.obj b (.cells [.slice a2 l1.length c3,.slice a6 l5.length c7] .own),.rd a2 c3 2 l1.length (l1.map (eP (eI .i64) (eI .i64))),.rd a6 c7 2 l5.length es9,.gen (bT ai rr8 l5 es9),.sl a 4 l.length (l.map (eP (eI .i64) (eP (eI .i64) (eP (eI .i64) (eI .i64))))),.obj b2 (.cells [.map (some b3)] .own),.obj b3 (.map (r.map HR))]:=by
 refine Vk.mapRange (E:=Vr (some lL) none) pA (fun h=>h) (γ:=Unit) (kt:=3) (et:=3) ⟨rfl,rfl⟩ ⟨rfl,rfl,rfl⟩ N9 ⟨rfl,rfl,rfl⟩ ⟨rfl,rfl,rfl⟩ ⟨rfl,rfl,rfl⟩ rfl (by decide) (by decide) (bm:=b3) (k:=6) (es:=r.map HR)
  (fun t m' hf hm=>zU (k:=5) Bb rfl rfl rfl hf hm) rfl
  (fun bi S _=>([(1,ptr b 0),(5,.int .i64 (jq r S)),(8,.slice a l.length l.length),(9,ptr b2 0),(65,ptr bi 0)],[]))
  (fun bi S g=>rfl) (fun bi S g p hp=>by cases hp) (fun _=>()) (fun bi=>⟨sc rfl (sc rfl (sc rfl (sc rfl (sc rfl sn)))),fun m1=>UN [] rfl rfl⟩) ?_ ?_
 intro bi m1 S i e a' hS hSl hi he;rw[Sz] at hSl;rw[SX] at he;obtain⟨e,he0,rfl⟩:=Option.map_eq_some_iff.1 he;clear he;have hn:S.length<=r.length:=by
  simpa using hS.length_le_of_subset (fun x hx=>TF.2 (hSl x hx):S⊆List.range r.length)
 have hc:=Hm (r:=r) (S:=S);have hll:=oh hlim;refine UH (Ec rfl rfl) rfl ?_;refine UH (Ec rfl rfl) rfl ?_;refine UH (bH rfl) rfl ?_;refine UH (bH rfl) rfl ?_;refine UU (Q:=fun _=>_) ?_
 show Wk (Vr (some lL) none) 84 38 none _ _ m1 _ _
 refine UJ ?_;refine UM ?_;refine UH (aK rfl) rfl ?_;refine UH (aK rfl) rfl ?_;refine UH (aI rfl rfl (ng _ _ _)) rfl ?_;refine UU ?_;refine US ?_
 by_cases hk:e.1=e.2
 refine U8 rfl (Sd hk) ?_;refine UM ?_;refine UH (aK rfl) rfl ?_;refine UH (aI rfl rfl (bR _ _ _)) rfl ?_;refine UH (bH rfl) rfl ?_;refine UU (Q:=fun _=>_) ?_;intro t' m' hf hm;refine⟨rfl,(),?_,hm⟩;have e1:UD (jq r S+1)=jq r (S++[i]):=by rw[sF he0,R7 hk,GG (by omega) (by omega)]
 rw[<-e1];exact hf.sub (sc rfl (sc rfl (sc rfl (sc rfl (sc rfl sn)))))
 refine Wk.eY rfl (Se hk) ?_;refine Ve ?_;intro t' m' hf hm;refine⟨rfl,(),?_,hm⟩;have e1:jq r S=jq r (S++[i]):=by rw[sF he0,R6 hk,Int.add_zero]
 rw[<-e1];exact hf.sub (sc rfl (sc rfl (sc rfl (sc rfl (sc rfl sn)))))
 intro bi S a' hS;rw[Sz] at hS;have hp:=Be hS;refine Vk.of pA ?_;refine UJ ?_;refine Wk.draw (by kernel_rfl) ?_
 refine UH (aD (k:=5) Bb rfl rfl rfl) rfl ?_;refine UH (A0 (q:=6) (xs:=r) (f:=HR) N9 rfl rfl rfl) rfl ?_;refine UH (aK rfl) rfl ?_;refine UH (il (k:=4) Of rfl rfl (.inl rfl)) rfl ?_;refine UH (aM (r:=ptr b 1) rfl (iq _ _)) rfl ?_;refine UH (aD (k:=0) qk rfl rfl rfl) rfl ?_;refine UH (il (k:=2) A4 rfl rfl (.inl rfl)) rfl ?_;refine UH (aK rfl) rfl ?_;refine UH (bH rfl) rfl ?_;refine UH (bH rfl) rfl ?_;refine UH (bH rfl) rfl ?_;refine UH (bH rfl) rfl ?_;refine UH (bH rfl) rfl ?_;refine UU ?_;refine US ?_;refine Wk.ret ?_;refine U1 (.tmp rfl (.tmp rfl (.tmp rfl (.tmp rfl (.tmp rfl .nil))))) fun m' hm=>?_;have:=hR m' ((UN [] rfl rfl) m' hm);rw[<-hp] at this;exact this
open Classical in
noncomputable def mq (args:List Uy) (m:Vo):Option (Uy×Vo) :=
 match args with
 | [v]=>if h:∃r,∃x:Cx,pW m v x/\LI 0 x.1 x.2=some r then some (JP (Classical.choose h),m) else none
 | _=>none
noncomputable def EC:Prim:=⟨mq⟩
open Classical in
def uu{m m':Vo}{v r:Uy}(h:mq [v] m=some (r,m')):∃x:Cx,∃y,pW m v x/\LI 0 x.1 x.2=some y/\JP y=r/\m=m':=by
 change dite _ _ _=_ at h
 by_cases hx:∃r,∃x:Cx,pW m v x/\LI 0 x.1 x.2=some r
 rw[dif_pos hx] at h;obtain⟨x,h1,h2⟩:=Te hx;have h3:=R9 h;exact⟨x,_,h1,h2,(Prod.ext_iff.1 h3).1,(Prod.ext_iff.1 h3).2⟩
 rw[dif_neg hx] at h; cases h
open Classical in
def Ac{m:Vo}{v:Uy}{x:Cx}{r:Int×Int×Int×Int×Int}(h:pW m v x)(hF:LI 0 x.1 x.2=some r):mq [v] m=some (JP r,m):=by
 have hx:∃r,∃x:Cx,pW m v x/\LI 0 x.1 x.2=some r:=⟨r,x,h,hF⟩
 change dite _ _ _=_
 rw[dif_pos hx];obtain⟨y,h1,h2⟩:=Te hx;have e1:=h1.uniq h;subst e1;rw[hF] at h2;rw[<-R9 h2]
def wu{args:List Uy}{m m':Vo}{v:Uy}(h:mq args m=some (v,m'))(pr:Bool){j:aS}{w:UC}{args':List Uy}(hm:MR (Vr (some lL) none) j m w)(hl:LR j args args') :
  gI (Vr (some lL) none).P pr 38 args'.toArray w (ji (Vr (some lL) none) j m w v m'):=by
 have ha:∃v,args=[v]:=by
  unfold mq at h
  split at h
  exact⟨_,rfl⟩
  cases h
 obtain⟨va,rfl⟩:=ha;obtain⟨⟨l1,l5⟩,y,⟨a,c,a',c',R,es,rfl,h1,h2,h3⟩,hF,rfl,rfl⟩:=uu h;simp only at h1 h2 h3 hF;unfold LI at hF;obtain⟨s,hFA,hF⟩:=J hF;have hh1:Rd { m with wl:=m.next} a c 2 l1.length (l1.map xy):=B1 h1
 have hh2:Rd { m with wl:=m.next} a' c' 2 l5.length es:=B1 h2
 have hh3:(bT ai R l5 es).P { m with wl:=m.next}:=LA h3
 refine qD (y9 (E:=Vr (some lL) none) (c:=mc Tryz.f38) (m0:={ m with wl:=m.next}) (m:={ m with wl:=m.next}) (N:=84) (rs:=[.tmp 2,.tmp 3,.tmp 4,.tmp 5,.tmp 6]) (ps:=[.gen (bT ai R l5 es),.rd a' c' 2 l5.length es,.rd a c 2 l1.length (l1.map xy)]) pA Tryz.func38 rfl rfl rfl ((((UP _).bq bQ hh1).bq (bO bQ) hh2).ep (bO (bO bQ)) hh3) ?_) pr hm hl
 have hn0:({ m with wl:=m.next}:Vo).next=m.next:=rfl
 have hg:∀m1:Vo,Hp { m with wl:=m.next} m1 []->Grown m m1:=fun m1 hm1=>⟨hm1.ext.next,fun b hb=>(hm1.ext.same b hb).trans HD,by have:=hm1.ext.wl; rw[hn0] at this; exact SC (Uh (Nat.min_self _).symm) this⟩
 refine JS pA 100000 l1 l5 a c a' c' R es s hFA _ hh1 hh2 hh3 (fun x hx m1 hm1=>?_) fun x hx g=>?_
 subst hx;cases hF;exact⟨hg m1 hm1,.inl ⟨rfl,rfl,rfl⟩⟩
 subst hx;obtain⟨l,r⟩:=x;obtain⟨hc,hF⟩:=aA hF;cases hF;exact L3 hc fun m1 hm1=>⟨hg m1 hm1,.inl ⟨rfl,rfl,rfl⟩⟩
def I6:EnvOk (Vr (some lL) (some EC)):=su (E:=Vr (some lL) none) pA (pr:=(Vr (some lL) (some EC)).cZ) fun f P hp=>by
 by_cases e:f=65
 subst e; exact .inl hp
 by_cases e':f=38
 subst e';have hp':some EC=some P:=hp;cases hp';exact .inr fun args m v m' h j w args' hm hl=>wu h _ hm hl
 refine .inl ?_;have:(Vr (some lL) (some EC)).cZ f=(Vr (some lL) none).cZ f:=by
  show(if f=65 then _ else if f=38 then _ else _)=(if f=65 then _ else if f=38 then _ else _)
  rw[R6 e,R6 e',R6 e,R6 e']
 rw[<-this]; exact hp
def L6(n:Nat)(l1:Ut)(l5:Ur)(a2:Uw)(c3:Nat)(a6:Uw)(c7:Nat)(rr8:Ux)(es9:Uv)(r:Int×Int×Int×Int×Int)(hF:LI n l1 l5=some r)(m:Vo)(h4:Rd m a2 c3 2 l1.length (l1.map xy))(h10:Rd m a6 c7 2 l5.length es9)(h11:(bT ai rr8 l5 es9).P m) :
  aC (Vr (some lL) (some EC)) 38 [.agg #[.slice a2 l1.length c3,.slice a6 l5.length c7]] m (Vn m (.tuple #[.int .i64 r.1,.int .i64 r.2.1,.int .i64 r.2.2.1,.int .i64 r.2.2.2.1,.int .i64 r.2.2.2.2])) :=
 aC.cZ (p:=EC) rfl (Ac (x:=(l1,l5)) ⟨a2,c3,a6,c7,rr8,es9,rfl,h4,h10,h11⟩ hF) ⟨(),rfl,UP m⟩
end
section
set_option maxRecDepth 100000
open Go Go.ChangeShapes Go.WideShapes Go.ChangeAt Go.WideMaps Go.WideElems Go.RowKit Go.Ab Go.Ab.W
def P0:laidOutB Tryz.prog=true:=by kernel_rfl
def KV:mapsRowed Tryz.prog=true:=by kernel_rfl
def KI:sizedB Tryz.prog=true:=by kernel_rfl
def Ds{H:Type}{enc:Uz×Uy->H}{f:FuncId}{fn:Func}{s:ChangeSpec}{W:UC}{args:Array Uy}{ds:List (DataW H)}{before:List MemPlace}{tb:Uz}{fresh handsOn:Bool}{absArgs:List Uy}(hpr:(Vr (some lL) (some EC)).cZ f=none)
  (hvars:s.vars=[]) (hres:fn.resultTypes.toList=[tb]) (hrs:fn.resultTypes.size=1) (htb:Tryz.prog.underlying tb=some .bool) (hpt:∀t∈fn.params.toList,t<Tryz.prog.types.size) (hfn:s.fn H ds ={ results:=[.lit (.bool true)],args:=ds,vars:=[]})
  (hW:DataW.Whole enc Tryz.prog fn.params.toList s.vars false W args.toList ds [] before)
  (hl:LR (dR W) absArgs args.toList) (hc:aC (Vr (some lL) (some EC)) f absArgs (fm W) (fun v m'=>∃x:Unit,v=.bool true/\Hp (fm W) m' [])) :
  Calls Tryz.prog f args W fun e W'=>∃v,e=.returned v/\s.post enc Tryz.prog fn false fresh handsOn false W args v W':=by
 obtain⟨v,m',⟨fuel,hrun⟩,_,rfl,hm'⟩:=hc;have hm:MR (Vr (some lL) (some EC)) (dR W) (fm W) W:=Mq (Th _);have hcall:=callsIn_wide.1 (pn I6 hrun hpr hm hl);refine hcall.mono fun e W' ⟨v',he,j',sm,hv⟩=>?_;have hv':v'=.bool true:=fV rfl hv;subst hv';have hwl:(fm W).next<=m'.wl:=by
  have h1:=hm'.ext.wl;have h2:min (fm W).wl (fm W).next=(fm W).next:=Nat.min_self _
  omega
 exact⟨_,he,ED P0 KV KI hvars hres hrs htb hpt hfn hW sm.calm (sm.grown hm hwl)⟩
def Fx{W:UC}(h:W.ShapedOpen Tryz.prog):0<W.heap.size:=by
 unfold World.ShapedOpen at h;obtain⟨_,h2⟩:=h;have e:((begin Tryz.prog (fun _ _=>0) default).world).heap.size=Tryz.prog.globals.size+5:=by
  unfold begin; simp only[Array.size_push,Array.size_mapIdx]
 obtain⟨o,o0,h3,_⟩:=h2 Tryz.prog.globals.size (Sc _) (by rw[e]; omega)
 exact Nat.lt_of_le_of_lt (Th _) (Sh.1 h3).1
def QX:Co Tryz.prog 5 38=some [.int .i64,.int .i64]:=by kernel_rfl
def QI:Co Tryz.prog 5 54=some [.int .u8,.int .u8,.int .u8,.int .i64,.int .i64,.int .i64,.int .u8,.int .u8,.int .u8,.int .i64,.int .i64,.int .i64]:=by kernel_rfl
def Q7:Co Tryz.prog 5 51=some [.int .u8,.int .u8,.sl 5,.sl 5,.bool]:=by kernel_rfl
def Q5:Co Tryz.prog 5 66=some [.int .u8,.int .u8]:=by kernel_rfl
def RM:Co Tryz.prog 5 5=some [.int .u8]:=by kernel_rfl
def QK:Tryz.prog.underlying 54=some (.array 2 53):=by kernel_rfl
def QM:Tryz.prog.underlying 66=some (.array 2 5):=by kernel_rfl
def Rr:Tryz.prog.underlying 3=some (.int .i64):=by kernel_rfl
abbrev QS(p:Int×Int):Prop:=(-9223372036854775808<=p.1/\p.1<=9223372036854775807)/\(-9223372036854775808<=p.2/\p.2<=9223372036854775807)
section
variable{H:Type}{enc:Uz×Uy->H}{W:UC}{sp:Nat->Bool}{held:Bool}{v:Uy}{d:DataW H}{p:List MemPlace}{base:Nat}
def FK{P:UB}{base:Nat}{v:Uy}(h:qA enc P W base sp held .bool v):∃b,v=.bool b:=h
def Pj:∀(n:Nat) (cs:List Uy) (x:DataW H×List MemPlace),DataW.trod enc Tryz.prog W 0 sp held n 5 cs=some x->∃p:Nat,cs=eN .u8 p/\p<256:=by
 intro n cs x h;obtain⟨v1,cs,rfl,h1,h⟩:=bM (xW 5 5 _ RM n _ x h);obtain rfl:=lV h;obtain⟨a,rfl,ha⟩:=jy h1;exact⟨a,rfl,ha⟩
def O9(hok:Value.okWide Tryz.prog W .any base 51 v)(hs:0<W.heap.size)(h:DataW.Trod enc Tryz.prog W 0 sp held 51 v d p):∃(x1 x2:Nat) (l3 l4:List Nat) (x5:Bool) (a3:Uw) (c3:Nat) (a4:Uw) (c4:Nat),
  VR (dR W) (.agg #[.int .u8 ((x1:Nat):Int),.int .u8 ((x2:Nat):Int),.slice a3 l3.length c3,.slice a4 l4.length c4,.bool x5]) v/\x1<256/\x2<256/\(∀q∈l3,q<256)/\(∀q∈l4,q<256)/\Rd (fm W) a3 c3 1 l3.length (l3.map (eN .u8))/\Rd (fm W) a4 c4 1 l4.length (l4.map (eN .u8)):=by
 obtain⟨cs,rfl,_⟩:=okWide_struct (t:=51) (fs:=Tryz.prog.underlying 51 |>.elim #[] fun u=>match u with|.struct fs=>fs|_=>#[]) (by kernel_rfl) hok
 obtain⟨n,h⟩:=h;obtain⟨v1,r,hr,h1,h⟩:=bM (kT Q7 h);obtain⟨v2,r,rfl,h2,h⟩:=bM h;obtain⟨v3,r,rfl,h3,h⟩:=bM h;obtain⟨v4,r,rfl,h4,h⟩:=bM h;obtain⟨v5,r,rfl,h5,h⟩:=bM h;obtain rfl:=lV h;obtain⟨x1,rfl,g1⟩:=jy h1;obtain⟨x2,rfl,g2⟩:=jy h2;obtain⟨a3,c3,l3,e1,e2,e3,e4⟩:=Hq (f:=eN .u8) (w:=1) (by kernel_rfl) (by omega) hs (fun q=>rfl) Pj h3
 obtain⟨a4,c4,l4,f1,f2,f3,f4⟩:=Hq (f:=eN .u8) (w:=1) (by kernel_rfl) (by omega) hs (fun q=>rfl) Pj h4
 obtain⟨x5,rfl⟩:=FK h5;refine⟨x1,x2,l3,l4,x5,a3,c3,a4,c4,?_,g1,g2,e3,f3,e2,f2⟩;refine wJ (l:=[.int .u8 ((x1:Nat):Int),.int .u8 ((x2:Nat):Int),.slice a3 l3.length c3,.slice a4 l4.length c4,.bool x5]) ?_;rw[hr];exact .cons (.int _ _) (.cons (.int _ _) (.cons e1 (.cons f1 (LR.plain rfl))))
def PT(hok:Value.okWide Tryz.prog W .any base 54 v)(h:DataW.Trod enc Tryz.prog W 0 sp held 54 v d p):∃(x1 x2 x3:Nat) (x4 x5 x6:Int) (x7 x8 x9:Nat) (x10 x11 x12:Int),
  VR (dR W) (.agg #[.int .u8 ((x1:Nat):Int),.int .u8 ((x2:Nat):Int),.int .u8 ((x3:Nat):Int),.int .i64 x4,.int .i64 x5,.int .i64 x6,.int .u8 ((x7:Nat):Int),.int .u8 ((x8:Nat):Int),.int .u8 ((x9:Nat):Int),.int .i64 x10,.int .i64 x11,.int .i64 x12]) v /\
   (x2<256/\x3<256)/\(x8<256/\x9<256):=by
 obtain⟨cs,rfl,_⟩:=pa QK hok;obtain⟨n,h⟩:=h;obtain⟨v1,r,hr,h1,h⟩:=bM (kT QI h);obtain⟨v2,r,rfl,h2,h⟩:=bM h;obtain⟨v3,r,rfl,h3,h⟩:=bM h;obtain⟨v4,r,rfl,h4,h⟩:=bM h;obtain⟨v5,r,rfl,h5,h⟩:=bM h;obtain⟨v6,r,rfl,h6,h⟩:=bM h;obtain⟨v7,r,rfl,h7,h⟩:=bM h;obtain⟨v8,r,rfl,h8,h⟩:=bM h;obtain⟨v9,r,rfl,h9,h⟩:=bM h;obtain⟨v10,r,rfl,h10,h⟩:=bM h;obtain⟨v11,r,rfl,h11,h⟩:=bM h;obtain⟨v12,r,rfl,h12,h⟩:=bM h;obtain rfl:=lV h;obtain⟨x1,rfl,g1⟩:=jy h1;obtain⟨x2,rfl,g2⟩:=jy h2;obtain⟨x3,rfl,g3⟩:=jy h3;obtain⟨x4,rfl,_⟩:=jL h4;obtain⟨x5,rfl,_⟩:=jL h5;obtain⟨x6,rfl,_⟩:=jL h6;obtain⟨x7,rfl,g7⟩:=jy h7;obtain⟨x8,rfl,g8⟩:=jy h8;obtain⟨x9,rfl,g9⟩:=jy h9;obtain⟨x10,rfl,_⟩:=jL h10;obtain⟨x11,rfl,_⟩:=jL h11;obtain⟨x12,rfl,_⟩:=jL h12;refine⟨x1,x2,x3,x4,x5,x6,x7,x8,x9,x10,x11,x12,?_,⟨g2,g3⟩,⟨g8,g9⟩⟩;refine wJ (l:=[.int .u8 ((x1:Nat):Int),.int .u8 ((x2:Nat):Int),.int .u8 ((x3:Nat):Int),.int .i64 x4,.int .i64 x5,.int .i64 x6,.int .u8 ((x7:Nat):Int),.int .u8 ((x8:Nat):Int),.int .u8 ((x9:Nat):Int),.int .i64 x10,.int .i64 x11,.int .i64 x12]) ?_;rw[hr];exact LR.plain rfl
def O6(hok:Value.okWide Tryz.prog W .any base 38 v)(h:DataW.Trod enc Tryz.prog W 0 sp held 38 v d p):∃(x1 x2:Int),VR (dR W) (.agg #[.int .i64 x1,.int .i64 x2]) v/\QS (x1,x2):=by
 obtain⟨cs,rfl,_⟩:=okWide_struct (t:=38) (fs:=Tryz.prog.underlying 38 |>.elim #[] fun u=>match u with|.struct fs=>fs|_=>#[]) (by kernel_rfl) hok
 obtain⟨n,h⟩:=h;obtain⟨v1,r,hr,h1,h⟩:=bM (kT QX h);obtain⟨v2,r,rfl,h2,h⟩:=bM h;obtain rfl:=lV h;obtain⟨x1,rfl,g1⟩:=jL h1;obtain⟨x2,rfl,g2⟩:=jL h2;refine⟨x1,x2,?_,g1,g2⟩;refine wJ (l:=[.int .i64 x1,.int .i64 x2]) ?_;rw[hr];exact LR.plain rfl
def OK(hok:Value.okWide Tryz.prog W .any base 66 v)(h:DataW.Trod enc Tryz.prog W 0 sp held 66 v d p):∃(x1 x2:Nat),VR (dR W) (.agg #[.int .u8 ((x1:Nat):Int),.int .u8 ((x2:Nat):Int)]) v/\x1<256/\x2<256:=by
 obtain⟨cs,rfl,_⟩:=pa QM hok;obtain⟨n,h⟩:=h;obtain⟨v1,r,hr,h1,h⟩:=bM (kT Q5 h);obtain⟨v2,r,rfl,h2,h⟩:=bM h;obtain rfl:=lV h;obtain⟨x1,rfl,g1⟩:=jy h1;obtain⟨x2,rfl,g2⟩:=jy h2;refine⟨x1,x2,?_,g1,g2⟩;refine wJ (l:=[.int .u8 ((x1:Nat):Int),.int .u8 ((x2:Nat):Int)]) ?_;rw[hr];exact LR.plain rfl
def Pd(hok:Value.okWide Tryz.prog W .any base 3 v)(h:DataW.Trod enc Tryz.prog W 0 sp held 3 v d p):∃n:Int,v=.int .i64 n:=by
 obtain⟨k,rfl⟩:=okWide_int Rr hok;obtain⟨n,h⟩:=h;obtain⟨m,e,_,hw⟩:=DataW.trod_int Rr h;exact⟨m,by cases e; rfl⟩
end
end
section
open Go Go.Ab Go.Ab.W
def vC(n:Nat)(l1:Uu):(Uu×Int)->Option ((Uu×Int) ⊕(Uu)):=fun(l3,v0) =>
br (decide (v0<((Vi l1 10).length:Int))) (
gd (bw v0 ((Vi l1 10).length)) (
ob ((Vi l1 10)[v0.toNat]?) fun l2 =>
gd (okB 0 (mi (l2.length:Int) (42:Int)) l2.length) (
ob (zB n (Vi l2 42)) fun l4 =>
gd (lim (l3++([l4]:Uu)).length) (
some (.inl ((l3++([l4]:Uu)),UD (v0+1))))))) (
some (.inr l3))
def uW(n:Nat)(l1:Ur):(Ur×Int)->Option ((Ur×Int) ⊕(Ur)):=fun(l3,v0) =>
br (decide (v0<((Vi l1 66).length:Int))) (
gd (bw v0 ((Vi l1 66).length)) (
ob ((Vi l1 66)[v0.toNat]?) fun(l2,l4) =>
gd (okB 0 (mi (l2.length:Int) (42:Int)) l2.length) (
ob (zB n (Vi l2 42)) fun l5 =>
gd (okB 0 (mi (l4.length:Int) (10:Int)) l4.length) (
ob (
bh (vC n l4) n (([]:Uu),0)) fun l6 =>
gd (lim (l3++([(l5,l6)]:Ur)).length) (
some (.inl ((l3++([(l5,l6)]:Ur)),UD (v0+1)))))))) (
some (.inr l3))
def N5(n:Nat)(l1:Ut)(l2:Ur):Option (Ut×Ur) :=
gd (okB 0 (mi (l1.length:Int) (125:Int)) l1.length) (
ob (Kj n (Vi l1 125)) fun l3 =>
gd (okB 0 (mi (l2.length:Int) (66:Int)) l2.length) (
ob (
bh (uW n l2) n (([]:Ur),0)) fun l4 =>
some (l3,l4)))
def MA(_:Nat)(l:List Int)(i j:Int):Option (List Int):=gd (decide (0<l.length)&&decide (0<=i)&&decide (i<=j)&&decide (j<=(l.length:Int))&&lim l.length) (some (l.take i.toNat++l.drop j.toNat))
def QT(_:Nat)(l:Ur)(i j:Int):Option (Ur):=gd (decide (0<l.length)&&decide (0<=i)&&decide (i<j)&&decide (j<=(l.length:Int))&&lim l.length) (some (l.take i.toNat++l.drop j.toNat))
def MB(_:Nat)(l:List Int)(i:Int)(vs:List Int):Option (List Int):=gd (decide (0<=i)&&decide (i<=(l.length:Int))&&lim l.length) (some (l.take i.toNat++(vs++l.drop i.toNat)))
def sP(n:Nat)(l2:List Int):(List (Int)×Int×Int)->Option ((List (Int)×Int×Int) ⊕(List (Int))):=fun(l1,v0,v1) =>
br (decide (v0<v1)) (
gd (bw v1 l2.length) (
ob (l1[v1.toNat]?) fun x3 =>
gd (bw v0 l2.length) (
ob (l1[v0.toNat]?) fun x4 =>
gd (bw v0 l2.length) (
gd (bw v1 l2.length) (
ob ((l1.set v0.toNat x3)[v1.toNat]?) fun x10 =>
some (.inl (((l1.set v0.toNat x3).set v1.toNat x4),UD (v0+1),UD (v1-1)))))))) (
some (.inr l1))
def E6(n:Nat)(l2:List Int):(List (Int)×Int×Int)->Option ((List (Int)×Int×Int) ⊕(List (Int))):=fun(l1,v0,v1) =>
br (decide (v0<v1)) (
gd (bw v1 l2.length) (
ob (l1[v1.toNat]?) fun x3 =>
gd (bw v0 l2.length) (
ob (l1[v0.toNat]?) fun x4 =>
gd (bw v0 l2.length) (
gd (bw v1 l2.length) (
ob ((l1.set v0.toNat x3)[v1.toNat]?) fun x10 =>
some (.inl (((l1.set v0.toNat x3).set v1.toNat x4),UD (v0+1),UD (v1-1)))))))) (
some (.inr l1))
def tN(n:Nat)(x3:Nat)(l3:List Int):Uu->Option ((Uu) ⊕(Uu)):=fun l1 =>
br (decide ((l1.length:Int)<UD (8+(UD ((x3%2:Nat):Int))))) (
ob (zB n l3) fun l2 =>
gd (lim (l1++([l2]:Uu)).length) (
some (.inl (l1++([l2]:Uu))))) (
some (.inr l1))
def Ex(n:Nat)(x1:Nat)(x2:Nat)(x3:Nat)(x4:Int)(x5:Int)(x6:Int)(l13:Ut)(l14:Ur):Option (Ut×Ur) :=
ob (N5 n l13 l14) fun(l2,l1) =>
ob (
br (decide ((l2.length:Int)=0)) (
some true) (
some (decide ((l1.length:Int)=0)))) fun v0 =>
br (v0) (
some (l2,l1)) (
gd (decide ((l2.length:Int)≠0)) (
gd (decide ((l1.length:Int)≠0)) (
gd (bw (Int.tmod (UD ((x2:Nat):Int)) (l1.length:Int)) l1.length) (
ob (l1[(Int.tmod (UD ((x2:Nat):Int)) (l1.length:Int)).toNat]?) fun(l3,l4) =>
ob (
br (decide (x1%14=0)) (
gd (bw (Int.tmod (UD ((x2:Nat):Int)) (l2.length:Int)) l2.length) (
ob (l2[(Int.tmod (UD ((x2:Nat):Int)) (l2.length:Int)).toNat]?) fun(x12,x13) =>
some ((l2.set ((Int.tmod (UD ((x2:Nat):Int)) (l2.length:Int)).toNat) (x5,x6)),l2.length,l1.length,(l1.set ((Int.tmod (UD ((x2:Nat):Int)) (l1.length:Int)).toNat) (l3,l4))))) (
br (decide (x1%14=1)) (
gd (decide ((l2.length:Int)≠0)) (
gd (bw (Int.tmod (UD ((x3:Nat):Int)) (l2.length:Int)) l2.length) (
ob (l2[(Int.tmod (UD ((x3:Nat):Int)) (l2.length:Int)).toNat]?) fun(x10,x11) =>
gd (bw (Int.tmod (UD ((x2:Nat):Int)) (l2.length:Int)) l2.length) (
ob (l2[(Int.tmod (UD ((x2:Nat):Int)) (l2.length:Int)).toNat]?) fun(x14,x15) =>
some ((l2.set ((Int.tmod (UD ((x2:Nat):Int)) (l2.length:Int)).toNat) (x10,x11)),l2.length,l1.length,(l1.set ((Int.tmod (UD ((x2:Nat):Int)) (l1.length:Int)).toNat) (l3,l4))))))) (
br (decide (x1%14=2)) (
gd (lim (l2++[(x5,x6)]).length) (
some ((l2++[(x5,x6)]),(l2++[(x5,x6)]).length,l1.length,(l1.set ((Int.tmod (UD ((x2:Nat):Int)) (l1.length:Int)).toNat) (l3,l4))))) (
br (decide (x1%14=3)) (
gd (okB 0 (Int.tmod (UD ((x2:Nat):Int)) (l2.length:Int)) l2.length) (
gd (decide (0<l2.length)) (
ob (some (l2.take (Int.tmod (UD ((x2:Nat):Int)) (l2.length:Int):Int).toNat)) fun l9 =>
some (l9,l9.length,l1.length,(l1.set ((Int.tmod (UD ((x2:Nat):Int)) (l1.length:Int)).toNat) (l3,l4)))))) (
br (decide (x1%14=4)) (
ob (N5 n l2 l1) fun(l25,l10) =>
gd (decide ((l1.length:Int)≠0)) (
gd (bw (Int.tmod (UD ((x3:Nat):Int)) (l1.length:Int)) l10.length) (
ob (l10[(Int.tmod (UD ((x3:Nat):Int)) (l1.length:Int)).toNat]?) fun(l6,l7) =>
gd (lim (l1++([(l6,l7)]:Ur)).length) (
some (l2,l2.length,(l1++([(l6,l7)]:Ur)).length,(l1++([(l6,l7)]:Ur))))))) (
br (decide (x1%14=5)) (
gd (decide ((l1.length:Int)≠0)) (
gd (decide ((l1.length:Int)≠0)) (
ob (some (UD ((Int.tmod (UD ((x2:Nat):Int)) (l1.length:Int))+1))) fun y1 =>
ob (QT n l1 (Int.tmod (UD ((x2:Nat):Int)) (l1.length:Int)) y1) fun l11 =>
some (l2,l2.length,l11.length,l11)))) (
br (decide (x1%14=6)) (
br (decide (0<(l3.length:Int))) (
gd (decide ((l3.length:Int)≠0)) (
gd (bw (Int.tmod (UD ((x3:Nat):Int)) (l3.length:Int)) l3.length) (
ob (l3[(Int.tmod (UD ((x3:Nat):Int)) (l3.length:Int)).toNat]?) fun x16 =>
some (l2,l2.length,l1.length,(l1.set ((Int.tmod (UD ((x2:Nat):Int)) (l1.length:Int)).toNat) ((l3.set ((Int.tmod (UD ((x3:Nat):Int)) (l3.length:Int)).toNat) x4),l4)))))) (
some (l2,l2.length,l1.length,(l1.set ((Int.tmod (UD ((x2:Nat):Int)) (l1.length:Int)).toNat) (l3,l4))))) (
br (decide (x1%14=7)) (
ob (
ob (
bh (sP n l3) n (l3,0,UD ((l3.length:Int)-1))) fun l15 =>
some (l1.set ((Int.tmod (UD ((x2:Nat):Int)) (l1.length:Int)).toNat) (l15,l4))) fun l16 =>
some (l2,l2.length,l1.length,l16)) (
br (decide (x1%14=8)) (
some (l2,l2.length,l1.length,(l1.set ((Int.tmod (UD ((x2:Nat):Int)) (l1.length:Int)).toNat) (l3,[])))) (
br (decide (x1%14=9)) (
gd (decide ((l1.length:Int)≠0)) (
gd (bw (Int.tmod (UD ((x3:Nat):Int)) (l1.length:Int)) l1.length) (
ob (l1[(Int.tmod (UD ((x3:Nat):Int)) (l1.length:Int)).toNat]?) fun(l17,l26) =>
ob (zB n l17) fun l5 =>
gd (lim (l4++([l5]:Uu)).length) (
ob (some (UD (((l4++([l5]:Uu)).length:Int)-1))) fun y0 =>
gd (bw y0 ((l4++([l5]:Uu)).length)) (
ob ((l4++([l5]:Uu))[y0.toNat]?) fun l8 =>
ob (
ob (
bh (E6 n l8) n (l8,0,UD ((l8.length:Int)-1))) fun l18 =>
some (l1.set ((Int.tmod (UD ((x2:Nat):Int)) (l1.length:Int)).toNat) (l3,((l4++([l5]:Uu)).set y0.toNat l18)))) fun l19 =>
some (l2,l2.length,l1.length,l19)))))) (
br (decide (x1%14=10)) (
br (decide (0<(l3.length:Int))) (
gd (decide ((l3.length:Int)≠0)) (
gd (decide ((l3.length:Int)≠0)) (
ob (some (UD ((Int.tmod (UD ((x3:Nat):Int)) (l3.length:Int))+1))) fun y2 =>
ob (MA n l3 (Int.tmod (UD ((x3:Nat):Int)) (l3.length:Int)) y2) fun l20 =>
some (l2,l2.length,l1.length,(l1.set ((Int.tmod (UD ((x2:Nat):Int)) (l1.length:Int)).toNat) (l20,l4)))))) (
some (l2,l2.length,l1.length,(l1.set ((Int.tmod (UD ((x2:Nat):Int)) (l1.length:Int)).toNat) (l3,l4))))) (
br (decide (x1%14=11)) (
gd (decide (UD ((l3.length:Int)+1)≠0)) (
ob (some (Int.tmod (UD ((x3:Nat):Int)) (UD ((l3.length:Int)+1)))) fun y3 =>
gd (decide ((l2.length:Int)≠0)) (
ob (MB n l3 y3 ([Int.tmod (EN .i64 x4 127) (l2.length:Int)])) fun l21 =>
some (l2,l2.length,l1.length,(l1.set ((Int.tmod (UD ((x2:Nat):Int)) (l1.length:Int)).toNat) (l21,l4)))))) (
br (decide (x1%14=12)) (
br (decide (0<(l3.length:Int))) (
gd (decide ((l3.length:Int)≠0)) (
gd (okB (Int.tmod (UD ((x3:Nat):Int)) (l3.length:Int)) (l3.length:Int) l3.length) (
ob (zB n ((l3.drop (Int.tmod (UD ((x3:Nat):Int)) (l3.length:Int):Int).toNat).take (((l3.length:Int):Int).toNat-(Int.tmod (UD ((x3:Nat):Int)) (l3.length:Int):Int).toNat))) fun l12 =>
gd (decide ((l3.length:Int)≠0)) (
gd (okB 0 (Int.tmod (UD ((x3:Nat):Int)) (l3.length:Int)) l3.length) (
gd (lim (l12++((l3.drop UE).take ((Int.tmod (UD ((x3:Nat):Int)) (l3.length:Int):Int).toNat-UE))).length) (
some (l2,l2.length,l1.length,(l1.set ((Int.tmod (UD ((x2:Nat):Int)) (l1.length:Int)).toNat) ((l12++((l3.drop UE).take ((Int.tmod (UD ((x3:Nat):Int)) (l3.length:Int):Int).toNat-UE))),l4))))))))) (
some (l2,l2.length,l1.length,(l1.set ((Int.tmod (UD ((x2:Nat):Int)) (l1.length:Int)).toNat) (l3,l4))))) (
ob (
bh (tN n x3 l3) n l4) fun l22 =>
some (l2,l2.length,l1.length,(l1.set ((Int.tmod (UD ((x2:Nat):Int)) (l1.length:Int)).toNat) (l3,l22))))))))))))))))) fun(l23,n0,n1,l24) =>
some (l23,l24)))))
def IQ(n:Nat)(l1:List (Nat))(x5:Int):Option (Int) :=
br (decide ((l1.length:Int)=0)) (
some 0) (
gd (decide ((l1.length:Int)≠0)) (
gd (bw (Int.tmod x5 (l1.length:Int)) l1.length) (
ob (l1[(Int.tmod x5 (l1.length:Int)).toNat]?) fun x11 =>
some (UD ((x11:Nat):Int)))))
def vA(n:Nat)(v3:Int)(v2:Int)(l2:List (Nat)):(Ut×Int×Int)->Option ((Ut×Int×Int) ⊕(Ut)):=fun(l1,v0,v1) =>
br (decide (v1<=v3)) (
gd (lim (l1++[(v0,v2)]).length) (
ob (IQ n l2 v1) fun r0 =>
some (.inl ((l1++[(v0,v2)]),UD ((UD (v0+1))+(Int.tmod r0 5)),UD (v1+1))))) (
some (.inr l1))
def vk(n:Nat)(v2:Int)(v3:Int)(l1:List (Nat)):(Ut×Int×Int)->Option ((Ut×Int×Int) ⊕(Ut)):=fun(l2,v1,v0) =>
br (decide (v0<=v2)) (
ob (
bh (vA n v3 v1 l1) n (l2,0,0)) fun l3 =>
ob (IQ n l1 (UD (7+v0))) fun r0 =>
some (.inl (l3,UD ((UD (v1+1))+(Int.tmod r0 5)),UD (v0+1)))) (
some (.inr l2))
def sv(n:Nat)(v0:Int)(v2:Int)(l2:List (Nat)):(Ur×Int)->Option ((Ur×Int) ⊕(Ur)):=fun(l1,v1) =>
br (decide (v1<v0)) (
ob (
ob (some (UD ((UD (v2*(UD (v0+1))))+v1))) fun y0 =>
ob (IQ n l2 (UD ((UD (v2*v0))+v1))) fun r0 =>
br (decide (Int.tmod r0 8=0)) (
ob (some (UD ((UD ((UD (y0+v0))+1))+1))) fun y1 =>
ob (some (UD ((UD ((UD (y0+v0))+1))+1))) fun y2 =>
gd (lim (l1++([([y0,UD (y0+1),y1],[]),([y0,y2,UD ((UD (y0+v0))+1)],[])]:Ur)).length) (
some (l1++([([y0,UD (y0+1),y1],[]),([y0,y2,UD ((UD (y0+v0))+1)],[])]:Ur)))) (
br (decide (Int.tmod r0 8=1)) (
br (decide (0<(l1.length:Int))) (
some l1) (
ob (some (UD ((UD ((UD (y0+v0))+1))+1))) fun y3 =>
gd (lim (l1++([([y3,UD ((UD (y0+v0))+1),y0,UD (y0+1)],[])]:Ur)).length) (
some (l1++([([y3,UD ((UD (y0+v0))+1),y0,UD (y0+1)],[])]:Ur))))) (
ob (some (UD ((UD ((UD (y0+v0))+1))+1))) fun y4 =>
gd (lim (l1++([([y0,UD (y0+1),y4,UD ((UD (y0+v0))+1)],[])]:Ur)).length) (
some (l1++([([y0,UD (y0+1),y4,UD ((UD (y0+v0))+1)],[])]:Ur)))))) fun l3 =>
some (.inl (l3,UD (v1+1)))) (
some (.inr l1))
def uY(n:Nat)(v1:Int)(v2:Int)(l2:List (Nat)):(Ur×Int)->Option ((Ur×Int) ⊕(Ur)):=fun(l1,v0) =>
br (decide (v0<v1)) (
ob (
bh (sv n v2 v0 l2) n (l1,0)) fun l3 =>
some (.inl (l3,UD (v0+1)))) (
some (.inr l1))
def N7(n:Nat)(x1:Nat)(x2:Nat)(l1:List (Nat))(l3:List (Nat))(x3:Bool):Option (Ut×Ur) :=
ob (
br (x3) (
some (3,3)) (
some (UD (1+(UD ((x1%4:Nat):Int))),UD (1+(UD ((x2%3:Nat):Int)))))) fun(v0,v1) =>
ob (
bh (vk n v1 v0 l3) n (([]:Ut),0,0)) fun l2 =>
br (x3) (
gd (lim (([]:Ur)++([([0,1,2,3,7,11,15,14,13,12,8,4],[[5,9,10,6]])]:Ur)).length) (
ob (
ob (IQ n l1 0) fun r0 =>
br (decide (Int.tmod r0 2=0)) (
gd (lim ((([]:Ur)++([([0,1,2,3,7,11,15,14,13,12,8,4],[[5,9,10,6]])]:Ur))++([([5,6,10,9],[])]:Ur)).length) (
some ((([]:Ur)++([([0,1,2,3,7,11,15,14,13,12,8,4],[[5,9,10,6]])]:Ur))++([([5,6,10,9],[])]:Ur)))) (
some (([]:Ur)++([([0,1,2,3,7,11,15,14,13,12,8,4],[[5,9,10,6]])]:Ur)))) fun l4 =>
some (l2,l4))) (
ob (
bh (uY n v1 v0 l1) n (([]:Ur),0)) fun l5 =>
some (l2,l5))
def Pt(n:Nat)(x1:Nat)(x2:Nat)(l3:List (Nat))(l8:List (Nat))(x13:Bool)(x14:Nat)(x15:Nat)(x16:Nat)(x17:Int)(x18:Int)(x19:Int)(x20:Nat)(x21:Nat)(x22:Nat)(x23:Int)(x24:Int)(x25:Int):Option (Ut×Ur×Ut×Ur×Ut×Ur) :=
ob (N7 n x1 x2 l3 l8 x13) fun(l30,l34) =>
ob (Ex n x14 x15 x16 x17 x18 x19 l30 l34) fun(l42,l46) =>
ob (Ex n x20 x21 x22 x23 x24 x25 l42 l46) fun(l54,l58) =>
some (l30,l34,l42,l46,l54,l58)
def NV(n:Nat)(x1:Int)(x2:Int):Option (Bool) :=
br (decide (x1 < -1000000)) (
some true) (
br (decide (1000000<x1)) (
some true) (
br (decide (x2 < -1000000)) (
some true) (
some (decide (1000000<x2)))))
def yT(n:Nat)(l1:Ut):Int->Option ((Int) ⊕((Int) ⊕(Unit))):=fun v34 =>
br (decide (v34<(l1.length:Int))) (
gd (bw v34 l1.length) (
ob (l1[v34.toNat]?) fun(x51,x52) =>
ob (NV n x51 x52) fun r55 =>
br (r55) (
some (.inr (.inl v34))) (
some (.inl (UD (v34+1)))))) (
some (.inr (.inr ())))
def yw(n:Nat)(v1:Int)(l1:Ut):Int->Option ((Int) ⊕((Unit) ⊕(Unit))):=fun v0 =>
br (decide (v0<v1)) (
gd (bw v1 l1.length) (
ob (l1[v1.toNat]?) fun(x3,x4) =>
gd (bw v0 l1.length) (
ob (l1[v0.toNat]?) fun(x10,x11) =>
br ((decide (x3=x10)&&decide (x4=x11))) (
some (.inr (.inl ()))) (
some (.inl (UD (v0+1))))))) (
some (.inr (.inr ())))
def yX(n:Nat)(l1:Ut):Int->Option ((Int) ⊕((Int) ⊕(Unit))):=fun v0 =>
br (decide (v0<(l1.length:Int))) (
ob (α:=(Unit) ⊕(Unit)) (
bh (yw n v0 l1) n 0) fun r0=>match r0 with
| .inl _ =>
some (.inr (.inl v0))
| .inr _ =>
some (.inl (UD (v0+1)))) (
some (.inr (.inr ())))
def Qs(n:Nat)(l1:Ut)(l2:Ur):Option (Int×Int) :=
ob (
br (decide ((l1.length:Int)<3)) (
some true) (
br (decide (120<(l1.length:Int))) (
some true) (
br (decide ((l2.length:Int)<1)) (
some true) (
some (decide (64<(l2.length:Int))))))) fun v0 =>
br (v0) (
some (1,0)) (
ob (α:=(Int) ⊕(Unit)) (
bh (yT n l1) n 0) fun r0=>match r0 with
| .inl v1 =>
some (2,v1)
| .inr _ =>
ob (α:=(Int) ⊕(Unit)) (
bh (yX n l1) n 0) fun r1=>match r1 with
| .inl v2 =>
some (3,v2)
| .inr _ =>
some (0,0))
def CD(n:Nat)(l1:List (Int))(l6:Uu):Option (Uu) :=
gd (lim (([l1]:Uu)++l6).length) (
some (([l1]:Uu)++l6))
def sS(n:Nat)(v1:Int)(l2:Uu)(l3:Ut):Int->Option ((Int) ⊕((Unit) ⊕(Unit))):=fun v0 =>
gd (bw v1 l2.length) (
ob (l2[v1.toNat]?) fun l1 =>
br (decide (v0<(l1.length:Int))) (
ob (
gd (bw v1 l2.length) (
gd (bw v0 l1.length) (
ob (l1[v0.toNat]?) fun x3 =>
br (decide (x3<0)) (
some true) (
gd (bw v1 l2.length) (
gd (bw v0 l1.length) (
ob (l1[v0.toNat]?) fun x4 =>
some (decide ((l3.length:Int)<=x4)))))))) fun v2 =>
br (v2) (
some (.inr (.inl ()))) (
some (.inl (UD (v0+1))))) (
some (.inr (.inr ()))))
def rU(n:Nat)(l1:Uu)(l3:Ut):Int->Option ((Int) ⊕((Unit) ⊕(Unit))):=fun v0 =>
br (decide (v0<(l1.length:Int))) (
ob (
gd (bw v0 l1.length) (
ob (l1[v0.toNat]?) fun l2 =>
br (decide ((l2.length:Int)<3)) (
some true) (
gd (bw v0 l1.length) (
some (decide (40<(l2.length:Int))))))) fun v1 =>
br (v1) (
some (.inr (.inl ()))) (
ob (α:=(Unit) ⊕(Unit)) (
bh (sS n v0 l1 l3) n 0) fun r0=>match r0 with
| .inl _ =>
some (.inr (.inl ()))
| .inr _ =>
some (.inl (UD (v0+1))))) (
some (.inr (.inr ())))
def Iv(n:Nat)(l2:Ut)(l5:Ur)(l3:List (Int))(l1:Uu):Option (Bool) :=
br (decide (8<(l1.length:Int))) (
some false) (
ob (CD n l3 l1) fun l4 =>
ob (α:=(Unit) ⊕(Unit)) (
bh (rU n l4 l2) n 0) fun r0=>match r0 with
| .inl _ =>
some false
| .inr _ =>
some true)
def zS(n:Nat)(l12:List (Int))(l1:Ut)(x16:Int):(Ut×Int)->Option ((Ut×Int) ⊕(Ut)):=fun(l36,v38) =>
br (decide (v38<(l12.length:Int))) (
gd (bw v38 l12.length) (
ob (l12[v38.toNat]?) fun x64 =>
gd (bw x64 l1.length) (
ob (l1[x64.toNat]?) fun(x69,x70) =>
gd (lim (l36++[(UD (x16*x69),UD (x16*x70))]).length) (
some (.inl ((l36++[(UD (x16*x69),UD (x16*x70))]),UD (v38+1))))))) (
some (.inr l36))
def GB(n:Nat)(l1:Ut)(l5:Ur)(l12:List (Int))(x16:Int):Option (Ut) :=
ob (
bh (zS n l12 l1 x16) n (([]:Ut),0)) fun l58 =>
some l58
def uE(n:Nat)(l1:Ut)(x5:Int):Option (Int×Int) :=
gd (decide ((l1.length:Int)≠0)) (
gd (bw (Int.tmod x5 (l1.length:Int)) l1.length) (
ob (l1[(Int.tmod x5 (l1.length:Int)).toNat]?) fun(x11,x12) =>
some (x11,x12)))
def qn(n:Nat)(x1:Int)(x2:Int)(x3:Int)(x4:Int)(x5:Int)(x6:Int):Option (Int) :=
ob (some (UD ((UD (x3-x1))*(UD (x6-x2))))) fun y10 =>
ob (some (UD ((UD (x4-x2))*(UD (x5-x1))))) fun y12 =>
some (UD (y10-y12))
def Gb(n:Nat)(x1:Int)(x2:Int)(x3:Int)(x4:Int)(x5:Int)(x6:Int):Option (Int) :=
ob (some (UD ((UD (x3-x1))*(UD (x5-x3))))) fun y10 =>
ob (some (UD ((UD (x4-x2))*(UD (x6-x4))))) fun y12 =>
some (UD (y10+y12))
def zD(n:Nat)(x1:Int):Option (Int) :=
br (decide (0<x1)) (
some 1) (
br (decide (x1<0)) (
some (-1)) (
some 0))
def sA(n:Nat)(x1:Int)(x2:Int)(x3:Int)(x4:Int)(x5:Int)(x6:Int):Option (Bool) :=
ob (qn n x1 x2 x3 x4 x5 x6) fun r11 =>
br (!decide (r11=0)) (
some false) (
br (decide (mi x1 x3<=x5)) (
br (decide (x5<=ma x1 x3)) (
br (decide (mi x2 x4<=x6)) (
some (decide (x6<=ma x2 x4))) (
some false)) (
some false)) (
some false))
def DT(n:Nat)(x1:Int)(x2:Int)(x3:Int)(x4:Int)(x5:Int)(x6:Int)(x7:Int)(x8:Int):Option (Int) :=
ob (qn n x1 x2 x3 x4 x5 x6) fun r3 =>
ob (zD n r3) fun r0 =>
ob (qn n x1 x2 x3 x4 x7 x8) fun r4 =>
ob (zD n r4) fun r1 =>
ob (qn n x5 x6 x7 x8 x1 x2) fun r5 =>
ob (zD n r5) fun r6 =>
ob (qn n x5 x6 x7 x8 x3 x4) fun r7 =>
ob (zD n r7) fun r8 =>
ob (
br (decide (r0=0)) (
some (decide (r1=0))) (
some false)) fun v1 =>
br (v1) (
ob (some (UD ((ma (mi x1 x3) (mi x5 x7))-(mi (ma x1 x3) (ma x5 x7))))) fun y0 =>
ob (
br (decide (x1=x3)) (
ob (some (UD ((ma (mi x2 x4) (mi x6 x8))-(mi (ma x2 x4) (ma x6 x8))))) fun y1 =>
some y1) (
some y0)) fun v0 =>
br (decide (0<v0)) (
some 0) (
br (decide (v0=0)) (
some 1) (
some 3))) (
ob (
br (decide (UD (r0*r1)<0)) (
some (decide (UD (r6*r8)<0))) (
some false)) fun v2 =>
br (v2) (
some 2) (
ob (
ob (sA n x1 x2 x3 x4 x5 x6) fun r9 =>
br (r9) (
some true) (
ob (sA n x1 x2 x3 x4 x7 x8) fun r10 =>
br (r10) (
some true) (
ob (sA n x5 x6 x7 x8 x1 x2) fun r11 =>
br (r11) (
some true) (
ob (sA n x5 x6 x7 x8 x3 x4) fun r12 =>
some r12)))) fun v3 =>
br (v3) (
some 1) (
some 0)))
def sy(n:Nat)(l1:Ut):Int->Option ((Int) ⊕((Int) ⊕(Unit))):=fun v18 =>
br (decide (v18<(l1.length:Int))) (
gd (bw v18 l1.length) (
ob (l1[v18.toNat]?) fun(x35,x36) =>
ob (NV n x35 x36) fun r39 =>
br (r39) (
some (.inr (.inl v18))) (
some (.inl (UD (v18+1)))))) (
some (.inr (.inr ())))
def sX(n:Nat)(l1:Ut):Int->Option ((Int) ⊕((Int) ⊕(Unit))):=fun v44 =>
br (decide (v44<(l1.length:Int))) (
gd (bw v44 l1.length) (
ob (l1[v44.toNat]?) fun(x62,x63) =>
ob (uE n l1 (UD (v44+1))) fun(r66,r67) =>
br ((decide (x62=r66)&&decide (x63=r67))) (
some (.inr (.inl v44))) (
some (.inl (UD (v44+1)))))) (
some (.inr (.inr ())))
def tK(n:Nat)(l1:Ut):Int->Option ((Int) ⊕((Int) ⊕(Unit))):=fun v0 =>
br (decide (v0<(l1.length:Int))) (
ob (uE n l1 (UD ((UD (v0+(l1.length:Int)))-1))) fun(r0,r1) =>
gd (bw v0 l1.length) (
ob (l1[v0.toNat]?) fun(x3,x4) =>
ob (uE n l1 (UD (v0+1))) fun(r3,r4) =>
ob (
ob (qn n r0 r1 x3 x4 r3 r4) fun r5 =>
br (decide (r5=0)) (
ob (Gb n r0 r1 x3 x4 r3 r4) fun r6 =>
some (decide (r6<0))) (
some false)) fun v1 =>
br (v1) (
some (.inr (.inl v0))) (
some (.inl (UD (v0+1)))))) (
some (.inr (.inr ())))
def sj(n:Nat)(v1:Int)(l1:Ut):Int->Option ((Int) ⊕((Unit) ⊕(Unit))):=fun v0 =>
br (decide (UD (v0+1)<v1)) (
ob (α:=(Unit) ⊕(Unit)) (
ob (
br (decide (v0=0)) (
some (decide (v1=UD ((l1.length:Int)-1)))) (
some false)) fun v2 =>
br (v2) (
some (.inl ())) (
gd (bw v0 l1.length) (
ob (l1[v0.toNat]?) fun(x3,x4) =>
gd (bw (UD (v0+1)) l1.length) (
ob (l1[(UD (v0+1)).toNat]?) fun(x10,x11) =>
gd (bw v1 l1.length) (
ob (l1[v1.toNat]?) fun(x12,x13) =>
ob (uE n l1 (UD (v1+1))) fun(r0,r1) =>
ob (DT n x3 x4 x10 x11 x12 x13 r0 r1) fun r3 =>
br (!decide (r3=0)) (
some (.inr ())) (
some (.inl ()))))))) fun r4=>match r4 with
| .inl _ =>
some (.inl (UD (v0+1)))
| .inr _ =>
some (.inr (.inl ()))) (
some (.inr (.inr ())))
def tX(n:Nat)(l1:Ut):Int->Option ((Int) ⊕((Int) ⊕(Unit))):=fun v0 =>
br (decide (v0<(l1.length:Int))) (
ob (α:=(Unit) ⊕(Unit)) (
bh (sj n v0 l1) n 0) fun r0=>match r0 with
| .inl _ =>
some (.inr (.inl v0))
| .inr _ =>
some (.inl (UD (v0+1)))) (
some (.inr (.inr ())))
def Hv(n:Nat)(l1:Ut):Option (Int×Int) :=
ob (
br (decide ((l1.length:Int)<3)) (
some true) (
some (decide (40<(l1.length:Int))))) fun v0 =>
br (v0) (
some (1,0)) (
ob (α:=(Int) ⊕(Unit)) (
bh (sy n l1) n 0) fun r0=>match r0 with
| .inl v1 =>
some (2,v1)
| .inr _ =>
ob (α:=(Int) ⊕(Unit)) (
bh (sX n l1) n 0) fun r1=>match r1 with
| .inl v2 =>
some (3,v2)
| .inr _ =>
ob (α:=(Int) ⊕(Unit)) (
bh (tK n l1) n 0) fun r3=>match r3 with
| .inl v3 =>
some (4,v3)
| .inr _ =>
ob (α:=(Int) ⊕(Unit)) (
bh (tX n l1) n 0) fun r4=>match r4 with
| .inl v4 =>
some (5,v4)
| .inr _ =>
some (0,0))
def Hk(n:Nat)(l1:Ut):Option (Int) :=
ob (Hv n l1) fun(r6,r7) =>
br (decide (0<r6)) (
some 140) (
some 0)
def tC(n:Nat)(l26:Uu)(l1:Ut)(l5:Ur):Int->Option ((Int) ⊕((Unit) ⊕(Unit))):=fun v33 =>
br (decide (v33<(l26.length:Int))) (
gd (bw v33 l26.length) (
ob (l26[v33.toNat]?) fun l54 =>
ob (GB n l1 l5 l54 1) fun l59 =>
ob (Hk n l59) fun r63 =>
br (!decide (r63=0)) (
some (.inr (.inl ()))) (
some (.inl (UD (v33+1)))))) (
some (.inr (.inr ())))
def I7(n:Nat)(l1:Ut)(l5:Ur)(l12:List (Int))(l16:Uu):Option (Bool) :=
ob (CD n l12 l16) fun l26 =>
ob (α:=(Unit) ⊕(Unit)) (
bh (tC n l26 l1 l5) n 0) fun r66=>match r66 with
| .inl _ =>
some false
| .inr _ =>
some true
def pS(n:Nat)(l1:Ut):(Int×Int)->Option ((Int×Int) ⊕(Int)):=fun(v7,v8) =>
br (decide (v8<(l1.length:Int))) (
gd (bw v8 l1.length) (
ob (l1[v8.toNat]?) fun(x30,x31) =>
ob (uE n l1 (UD (v8+1))) fun(r34,r35) =>
ob (some (UD ((UD (v7+(UD (x30*r35))))-(UD (x31*r34))))) fun y38 =>
some (.inl (y38,UD (v8+1))))) (
some (.inr v7))
def DZ(n:Nat)(l1:Ut):Option (Int) :=
ob (
bh (pS n l1) n (0,0)) fun v25 =>
some v25
def tT(n:Nat)(l1:Uu)(l2:Ut)(l3:Ur):Int->Option ((Int) ⊕((Unit) ⊕(Unit))):=fun v0 =>
br (decide (v0<(l1.length:Int))) (
gd (bw v0 l1.length) (
ob (l1[v0.toNat]?) fun l4 =>
ob (GB n l2 l3 l4 1) fun l5 =>
ob (DZ n l5) fun r0 =>
ob (
br (decide (v0=0)) (
br (decide (r0<0)) (
some true) (
br (decide (0<v0)) (
some (decide (0<r0))) (
some false))) (
br (decide (0<v0)) (
some (decide (0<r0))) (
some false))) fun v1 =>
br (v1) (
some (.inr (.inl ()))) (
some (.inl (UD (v0+1)))))) (
some (.inr (.inr ())))
def Jq(n:Nat)(l1:Ut)(l2:Ur)(l3:List (Int))(l4:Uu):Option (Bool) :=
ob (CD n l3 l4) fun l5 =>
ob (α:=(Unit) ⊕(Unit)) (
bh (tT n l5 l1 l2) n 0) fun r0=>match r0 with
| .inl _ =>
some false
| .inr _ =>
some true
def zh(n:Nat)(l5:Ur)(l1:Ut):Int->Option ((Int) ⊕((Int) ⊕(Unit))):=fun v14 =>
br (decide (v14<(l5.length:Int))) (
gd (bw v14 l5.length) (
ob (l5[v14.toNat]?) fun(l36,l37) =>
ob (Iv n l1 l5 l36 l37) fun r45 =>
br (!r45) (
some (.inr (.inl v14))) (
some (.inl (UD (v14+1)))))) (
some (.inr (.inr ())))
def zZ(n:Nat)(l5:Ur)(l1:Ut):Int->Option ((Int) ⊕((Int) ⊕(Unit))):=fun v50 =>
br (decide (v50<(l5.length:Int))) (
gd (bw v50 l5.length) (
ob (l5[v50.toNat]?) fun(l72,l73) =>
ob (I7 n l1 l5 l72 l73) fun r81 =>
br (!r81) (
some (.inr (.inl v50))) (
some (.inl (UD (v50+1)))))) (
some (.inr (.inr ())))
def ye(n:Nat)(l1:Ur)(l2:Ut):Int->Option ((Int) ⊕((Int) ⊕(Unit))):=fun v0 =>
br (decide (v0<(l1.length:Int))) (
gd (bw v0 l1.length) (
ob (l1[v0.toNat]?) fun(l3,l4) =>
ob (Jq n l2 l1 l3 l4) fun r0 =>
br (!r0) (
some (.inr (.inl v0))) (
some (.inl (UD (v0+1)))))) (
some (.inr (.inr ())))
def Qu(n:Nat)(l1:Ut)(l2:Ur):Option (Int×Int) :=
ob (α:=(Int) ⊕(Unit)) (
bh (zh n l2 l1) n 0) fun r0=>match r0 with
| .inl v0 =>
some (4,v0)
| .inr _ =>
ob (α:=(Int) ⊕(Unit)) (
bh (zZ n l2 l1) n 0) fun r1=>match r1 with
| .inl v1 =>
some (5,v1)
| .inr _ =>
ob (α:=(Int) ⊕(Unit)) (
bh (ye n l2 l1) n 0) fun r3=>match r3 with
| .inl v2 =>
some (6,v2)
| .inr _ =>
some (0,0)
def qh(n:Nat)(v0:Int)(l2:Uu)(v2:Int):(List (Us)×Int)->Option ((List (Us)×Int) ⊕(List (Us))):=fun(l3,v1) =>
gd (bw v0 l2.length) (
ob (l2[v0.toNat]?) fun l1 =>
br (decide (v1<(l1.length:Int))) (
gd (bw v0 l2.length) (
gd (bw v1 l1.length) (
ob (l1[v1.toNat]?) fun x3 =>
gd (bw v0 l2.length) (
gd (bw v0 l2.length) (
gd (decide ((l1.length:Int)≠0)) (
gd (bw (Int.tmod (UD (v1+1)) (l1.length:Int)) l1.length) (
ob (l1[(Int.tmod (UD (v1+1)) (l1.length:Int)).toNat]?) fun x4 =>
gd (lim (l3++[(x3,x4,v2,v0)]).length) (
some (.inl ((l3++[(x3,x4,v2,v0)]),UD (v1+1))))))))))) (
some (.inr l3)))
def qf(n:Nat)(l1:Uu)(v1:Int):(List (Us)×Int)->Option ((List (Us)×Int) ⊕(List (Us))):=fun(l2,v0) =>
br (decide (v0<(l1.length:Int))) (
ob (
bh (qh n v0 l1 v1) n (l2,0)) fun l3 =>
some (.inl (l3,UD (v0+1)))) (
some (.inr l2))
def tI(n:Nat)(l1:Ur):(List (Us)×Int)->Option ((List (Us)×Int) ⊕(List (Us))):=fun(l2,v0) =>
br (decide (v0<(l1.length:Int))) (
gd (bw v0 l1.length) (
ob (l1[v0.toNat]?) fun(l3,l4) =>
ob (CD n l3 l4) fun l5 =>
ob (
bh (qf n l5 v0) n (l2,0)) fun l6 =>
some (.inl (l6,UD (v0+1))))) (
some (.inr l2))
def HM(n:Nat)(l3:Ut)(l1:Ur):Option (List (Us)) :=
ob (
bh (tI n l1) n (([]:List (Us)),0)) fun l2 =>
some l2
def Fl(n:Nat)(l1:Ut)(l5:Ur)(x12:Int)(x13:Int)(x14:Int)(x15:Int)(x16:Int)(x17:Int)(x18:Int)(x19:Int):Option (Bool) :=
ob (
br (decide (x12=x16)) (
br (decide (x13=x17)) (
some true) (
br (decide (x12=x17)) (
some (decide (x13=x16))) (
some false))) (
br (decide (x12=x17)) (
some (decide (x13=x16))) (
some false))) fun v39 =>
br (v39) (
some false) (
gd (bw x12 l1.length) (
ob (l1[x12.toNat]?) fun(x50,x51) =>
gd (bw x13 l1.length) (
ob (l1[x13.toNat]?) fun(x54,x55) =>
gd (bw x16 l1.length) (
ob (l1[x16.toNat]?) fun(x58,x59) =>
gd (bw x17 l1.length) (
ob (l1[x17.toNat]?) fun(x62,x63) =>
ob (DT n x50 x51 x54 x55 x58 x59 x62 x63) fun r70 =>
br (decide (r70=1)) (
br (!decide (x12=x16)) (
br (!decide (x12=x17)) (
br (!decide (x13=x16)) (
some (!decide (x13=x17))) (
some false)) (
some false)) (
some false)) (
some (!decide (r70=0))))))))
def yW(n:Nat)(l1:Ut)(l5:Ur)(x12:Int)(x13:Int)(x14:Int)(x15:Int):Option (Int×Int) :=
gd (bw x12 l1.length) (
ob (l1[x12.toNat]?) fun(x22,x23) =>
gd (bw x13 l1.length) (
ob (l1[x13.toNat]?) fun(x26,x27) =>
some (UD (x22+x26),UD (x23+x27))))
def oQ(n:Nat)(l1:Ut)(x5:Int)(x6:Int):(Bool×Int)->Option ((Bool×Int) ⊕((Unit) ⊕(Bool))):=fun(v1,v0) =>
br (decide (v0<(l1.length:Int))) (
ob (α:=(Unit) ⊕(Bool)) (
gd (bw v0 l1.length) (
ob (l1[v0.toNat]?) fun(x4,x3) =>
ob (uE n l1 (UD (v0+1))) fun(r1,r0) =>
ob (sA n x4 x3 r1 r0 x5 x6) fun r3 =>
br (r3) (
some (.inl ())) (
ob (
br (!((decide (x6<x3)) ==(decide (x6<r0)))) (
ob (qn n x4 x3 r1 r0 x5 x6) fun r4 =>
some ((decide (0<r4)) ==(decide (x3<r0)))) (
some false)) fun v2 =>
br (v2) (
some (.inr (!v1))) (
some (.inr v1))))) fun r5=>match r5 with
| .inl _ =>
some (.inr (.inl ()))
| .inr v3 =>
some (.inl (v3,UD (v0+1)))) (
some (.inr (.inr v1)))
def uh(n:Nat)(l1:Ut)(x5:Int)(x6:Int):Option (Int) :=
ob (α:=(Unit) ⊕(Bool)) (
bh (oQ n l1 x5 x6) n (false,0)) fun r0=>match r0 with
| .inl _ =>
some 1
| .inr v0 =>
br (v0) (
some 2) (
some 0)
def lY(n:Nat)(l1:Uu)(l2:Ut)(l3:Ur)(x3:Int)(x4:Int)(x10:Int):Int->Option ((Int) ⊕((Unit) ⊕(Unit))):=fun v0 =>
br (decide (v0<(l1.length:Int))) (
gd (bw v0 l1.length) (
ob (l1[v0.toNat]?) fun l4 =>
ob (GB n l2 l3 l4 x3) fun l5 =>
ob (uh n l5 x4 x10) fun r0 =>
ob (
br (decide (v0=0)) (
br (!decide (r0=2)) (
some true) (
br (decide (0<v0)) (
some (!decide (r0=0))) (
some false))) (
br (decide (0<v0)) (
some (!decide (r0=0))) (
some false))) fun v1 =>
br (v1) (
some (.inr (.inl ()))) (
some (.inl (UD (v0+1)))))) (
some (.inr (.inr ())))
def wP(n:Nat)(l2:Ut)(l1:Ur)(x3:Int)(x4:Int)(x10:Int)(x11:Int):Option (Bool) :=
gd (bw x3 l1.length) (
ob (l1[x3.toNat]?) fun(l3,l4) =>
ob (CD n l3 l4) fun l5 =>
ob (α:=(Unit) ⊕(Unit)) (
bh (lY n l5 l2 l1 x11 x4 x10) n 0) fun r0=>match r0 with
| .inl _ =>
some false
| .inr _ =>
some true)
def yn(n:Nat)(v0:Int)(l1:List (Us)):Int->Option ((Int) ⊕((Int) ⊕(Unit))):=fun v1 =>
br (decide (v1<v0)) (
ob (
gd (bw v0 l1.length) (
ob (l1[v0.toNat]?) fun(x3,x4,x13,x14) =>
gd (bw v1 l1.length) (
ob (l1[v1.toNat]?) fun(x10,x11,x15,x16) =>
br (decide (x3=x10)) (
gd (bw v0 l1.length) (
gd (bw v1 l1.length) (
some (decide (x4=x11))))) (
some false)))) fun v2 =>
br (v2) (
gd (bw v0 l1.length) (
ob (l1[v0.toNat]?) fun(x17,x18,x12,x19) =>
some (.inr (.inl x12)))) (
some (.inl (UD (v1+1))))) (
some (.inr (.inr ())))
def yB(n:Nat)(l1:List (Us)):Int->Option ((Int) ⊕((Int) ⊕(Unit))):=fun v0 =>
br (decide (v0<(l1.length:Int))) (
ob (α:=(Int) ⊕(Unit)) (
bh (yn n v0 l1) n 0) fun r0=>match r0 with
| .inl v1 =>
some (.inr (.inl v1))
| .inr _ =>
some (.inl (UD (v0+1)))) (
some (.inr (.inr ())))
def yC(n:Nat)(v0:Int)(l1:List (Us))(l2:Ut)(l3:Ur):Int->Option ((Int) ⊕((Int) ⊕(Unit))):=fun v1 =>
br (decide (v1<v0)) (
gd (bw v0 l1.length) (
ob (l1[v0.toNat]?) fun(x4,x10,x3,x11) =>
gd (bw v1 l1.length) (
ob (l1[v1.toNat]?) fun(x12,x13,x14,x15) =>
ob (Fl n l2 l3 x4 x10 x3 x11 x12 x13 x14 x15) fun r0 =>
br (r0) (
gd (bw v0 l1.length) (
some (.inr (.inl x3)))) (
some (.inl (UD (v1+1))))))) (
some (.inr (.inr ())))
def yD(n:Nat)(l1:List (Us))(l2:Ut)(l3:Ur):Int->Option ((Int) ⊕((Int) ⊕(Unit))):=fun v0 =>
br (decide (v0<(l1.length:Int))) (
ob (α:=(Int) ⊕(Unit)) (
bh (yC n v0 l1 l2 l3) n 0) fun r0=>match r0 with
| .inl v1 =>
some (.inr (.inl v1))
| .inr _ =>
some (.inl (UD (v0+1)))) (
some (.inr (.inr ())))
def zK(n:Nat)(l2:Uu)(l3:Ut)(l4:Ur)(v1:Int)(l1:List (Us))(x4:Int)(x10:Int)(x11:Int)(x3:Int):Int->Option ((Int) ⊕((Unit) ⊕(Unit))):=fun v0 =>
br (decide (v0<(l2.length:Int))) (
gd (bw v0 l2.length) (
ob (l2[v0.toNat]?) fun l5 =>
ob (GB n l3 l4 l5 2) fun l6 =>
gd (bw v1 l1.length) (
ob (yW n l3 l4 x4 x10 x11 x3) fun(r1,r3) =>
ob (uh n l6 r1 r3) fun r0 =>
ob (
br (decide (v0=0)) (
br (!decide (r0=2)) (
some true) (
br (decide (0<v0)) (
gd (bw v1 l1.length) (
br (!decide (v0=x3)) (
some (!decide (r0=0))) (
some false))) (
some false))) (
br (decide (0<v0)) (
gd (bw v1 l1.length) (
br (!decide (v0=x3)) (
some (!decide (r0=0))) (
some false))) (
some false))) fun v2 =>
br (v2) (
gd (bw v1 l1.length) (
some (.inr (.inl ())))) (
some (.inl (UD (v0+1))))))) (
some (.inr (.inr ())))
def yd(n:Nat)(l1:List (Us))(l2:Ur)(l3:Ut):Int->Option ((Int) ⊕((Int) ⊕(Unit))):=fun v0 =>
br (decide (v0<(l1.length:Int))) (
ob (α:=(Unit) ⊕(Int)) (
gd (bw v0 l1.length) (
ob (l1[v0.toNat]?) fun(x10,x11,x3,x4) =>
br (decide (x4=0)) (
some (.inl ())) (
gd (bw v0 l1.length) (
gd (bw x3 l2.length) (
ob (l2[x3.toNat]?) fun(l4,l5) =>
ob (CD n l4 l5) fun l6 =>
ob (α:=(Unit) ⊕(Unit)) (
bh (zK n l6 l3 l2 v0 l1 x10 x11 x3 x4) n 0) fun r0=>match r0 with
| .inl _ =>
some (.inr x3)
| .inr _ =>
some (.inl ())))))) fun r1=>match r1 with
| .inl _ =>
some (.inl (UD (v0+1)))
| .inr v1 =>
some (.inr (.inl v1))) (
some (.inr (.inr ())))
def zW(n:Nat)(l2:Ur)(v0:Int)(l1:List (Us))(l3:Ut):Int->Option ((Int) ⊕((Int) ⊕(Unit))):=fun v1 =>
br (decide (v1<(l2.length:Int))) (
ob (
gd (bw v0 l1.length) (
ob (l1[v0.toNat]?) fun(x4,x10,x3,x11) =>
br (!decide (v1=x3)) (
gd (bw v0 l1.length) (
ob (yW n l3 l2 x4 x10 x3 x11) fun(r0,r1) =>
ob (wP n l3 l2 v1 r0 r1 2) fun r3 =>
some r3)) (
some false))) fun v2 =>
br (v2) (
gd (bw v0 l1.length) (
ob (l1[v0.toNat]?) fun(x13,x14,x12,x15) =>
some (.inr (.inl x12)))) (
some (.inl (UD (v1+1))))) (
some (.inr (.inr ())))
def zd(n:Nat)(l1:List (Us))(l2:Ur)(l3:Ut):Int->Option ((Int) ⊕((Int) ⊕(Unit))):=fun v0 =>
br (decide (v0<(l1.length:Int))) (
ob (α:=(Int) ⊕(Unit)) (
bh (zW n l2 v0 l1 l3) n 0) fun r0=>match r0 with
| .inl v1 =>
some (.inr (.inl v1))
| .inr _ =>
some (.inl (UD (v0+1)))) (
some (.inr (.inr ())))
def OE(n:Nat)(l1:Ut)(l2:Ur):Option (Int×Int) :=
ob (HM n l1 l2) fun l3 =>
ob (α:=(Int) ⊕(Unit)) (
bh (yB n l3) n 0) fun r0=>match r0 with
| .inl v0 =>
some (7,v0)
| .inr _ =>
ob (α:=(Int) ⊕(Unit)) (
bh (yD n l3 l1 l2) n 0) fun r1=>match r1 with
| .inl v1 =>
some (8,v1)
| .inr _ =>
ob (α:=(Int) ⊕(Unit)) (
bh (yd n l3 l2 l1) n 0) fun r3=>match r3 with
| .inl v2 =>
some (9,v2)
| .inr _ =>
ob (α:=(Int) ⊕(Unit)) (
bh (zd n l3 l2 l1) n 0) fun r4=>match r4 with
| .inl v3 =>
some (10,v3)
| .inr _ =>
some (0,0)
def PY(n:Nat)(l1:Ut)(l5:Ur):Option (Int×Int) :=
ob (Qs n l1 l5) fun(r14,r15) =>
ob (
br (decide (r14=0)) (
ob (Qu n l1 l5) fun(r24,r25) =>
some (r24,r25)) (
some (r14,r15))) fun(v20,v21) =>
ob (
br (decide (v20=0)) (
ob (OE n l1 l5) fun(r36,r37) =>
some (r36,r37)) (
some (v20,v21))) fun(v32,v33) =>
some (v32,v33)
def NO(n:Nat)(l1:Ut)(l5:Ur):Option (Int) :=
ob (PY n l1 l5) fun(r14,r15) =>
br (decide (0<r14)) (
some 150) (
some 0)
def Gi(n:Nat)(l1:Ut)(l5:Ut):Int->Option ((Int) ⊕((Unit) ⊕(Unit))):=fun v11 =>
br (decide (v11<(l1.length:Int))) (
gd (bw v11 l1.length) (
ob (l1[v11.toNat]?) fun(x31,x32) =>
gd (bw v11 l5.length) (
ob (l5[v11.toNat]?) fun(x37,x38) =>
br (!(decide (x31=x37)&&decide (x32=x38))) (
some (.inr (.inl ()))) (
some (.inl (UD (v11+1))))))) (
some (.inr (.inr ())))
def Ru(n:Nat)(l1:Ut)(l5:Ut):Option (Bool) :=
br (!decide ((l1.length:Int)=(l5.length:Int))) (
some false) (
ob (α:=(Unit) ⊕(Unit)) (
bh (Gi n l1 l5) n 0) fun r42=>match r42 with
| .inl _ =>
some false
| .inr _ =>
some true)
def Ln(n:Nat)(l1:Ut)(l5:Ut):Int->Option ((Int) ⊕((Unit) ⊕(Unit))):=fun v11 =>
br (decide (v11<(l1.length:Int))) (
gd (bw v11 l1.length) (
ob (l1[v11.toNat]?) fun(x31,x32) =>
gd (bw v11 l5.length) (
ob (l5[v11.toNat]?) fun(x37,x38) =>
br (!(decide (x31=x37)&&decide (x32=x38))) (
some (.inr (.inl ()))) (
some (.inl (UD (v11+1))))))) (
some (.inr (.inr ())))
def Qr(n:Nat)(l1:Ut)(l5:Ut):Option (Bool) :=
br (!decide ((l1.length:Int)=(l5.length:Int))) (
some false) (
ob (α:=(Unit) ⊕(Unit)) (
bh (Ln n l1 l5) n 0) fun r42=>match r42 with
| .inl _ =>
some false
| .inr _ =>
some true)
def OV(n:Nat)(l1:List (Int)):(Ut×Int)->Option ((Ut×Int) ⊕(Ut)):=fun(l19,v21) =>
br (decide (UD (v21+1)<(l1.length:Int))) (
gd (bw v21 l1.length) (
ob (l1[v21.toNat]?) fun x43 =>
gd (bw (UD (v21+1)) l1.length) (
ob (l1[(UD (v21+1)).toNat]?) fun x46 =>
gd (lim (l19++[(x43,x46)]).length) (
some (.inl ((l19++[(x43,x46)]),UD (v21+2))))))) (
some (.inr l19))
def F9(n:Nat)(l1:List (Int)):Option (Ut) :=
ob (
bh (OV n l1) n (([]:Ut),0)) fun l37 =>
some l37
def Qq(n:Nat)(l1:Ut)(l5:Ur):Option (List (Us)×Int) :=
ob (Jv n l1 l5) fun r14 =>
br (!decide (r14=0)) (
some ([],r14)) (
ob (KF n l1 l5) fun l17 =>
some (l17,0))
def uU(n:Nat)(l41:Uu)(l1:Ut)(l5:Ur):(Int×Int)->Option ((Int×Int) ⊕(Int)):=fun(v49,v50) =>
br (decide (v50<(l41.length:Int))) (
gd (bw v50 l41.length) (
ob (l41[v50.toNat]?) fun l72 =>
ob (Ic n l1 l5 l72 1) fun l77 =>
ob (On n l77) fun r81 =>
some (.inl (UD (v49+r81),UD (v50+1))))) (
some (.inr v49))
def N8(n:Nat)(l1:Ut)(l5:Ur)(x12:Int):Option (Int×Int) :=
ob (Jv n l1 l5) fun r15 =>
br (!decide (r15=0)) (
some (0,r15)) (
ob (
br (decide (x12<0)) (
some true) (
some (decide ((l5.length:Int)<=x12)))) fun v24 =>
br (v24) (
some (0,2)) (
gd (bw x12 l5.length) (
ob (l5[x12.toNat]?) fun(l32,l33) =>
ob (As n l32 l33) fun l41 =>
ob (
bh (uU n l41 l1 l5) n (0,0)) fun v67 =>
some (v67,0))))
def Ls(n:Nat)(l1:List (Us))(l5:List (Us)):Int->Option ((Int) ⊕((Unit) ⊕(Unit))):=fun v11 =>
br (decide (v11<(l1.length:Int))) (
gd (bw v11 l1.length) (
ob (l1[v11.toNat]?) fun(x35,x36,x37,x38) =>
gd (bw v11 l5.length) (
ob (l5[v11.toNat]?) fun(x43,x44,x45,x46) =>
br (!(decide (x35=x43)&&decide (x36=x44)&&decide (x37=x45)&&decide (x38=x46))) (
some (.inr (.inl ()))) (
some (.inl (UD (v11+1))))))) (
some (.inr (.inr ())))
def QQ(n:Nat)(l1:List (Us))(l5:List (Us)):Option (Bool) :=
br (!decide ((l1.length:Int)=(l5.length:Int))) (
some false) (
ob (α:=(Unit) ⊕(Unit)) (
bh (Ls n l1 l5) n 0) fun r50=>match r50 with
| .inl _ =>
some false
| .inr _ =>
some true)
def MH(n:Nat)(l1:Ut)(l5:Ur)(x12:Int)(x13:Int):Option (Bool) :=
ob (Oe n l1 l5) fun(r16,r17) =>
ob (Qq n l1 l5) fun(l19,r22) =>
br (decide (r16=x12)) (
br (decide (r17=x13)) (
some ((decide (r22=150)) ==(decide (0<x12)))) (
some false)) (
some false)
def Qm(n:Nat)(l1:Ut)(l5:Ur)(x12:Int)(x13:Int)(x14:Int)(x15:Int):Option (Bool) :=
ob (LI n l1 l5) fun(r18,r19,r20,r21,r22) =>
br (decide (r18=x12)) (
br (decide (r19=x13)) (
br (decide (r20=x14)) (
br (decide (r21=x15)) (
some (decide (r22=0))) (
some false)) (
some false)) (
some false)) (
some false)
def ym(n:Nat)(l1:Uu)(l2:Ut)(l3:Ur)(x3:Int)(x4:Int):Int->Option ((Int) ⊕((Int) ⊕(Unit))):=fun v0 =>
br (decide (v0<(l1.length:Int))) (
gd (bw v0 l1.length) (
ob (l1[v0.toNat]?) fun l4 =>
ob (
ob (Ic n l2 l3 l4 1) fun l5 =>
ob (I0 n l5 x3 x4) fun r0 =>
some (decide (r0=1))) fun v1 =>
br (v1) (
some (.inr (.inl v0))) (
some (.inl (UD (v0+1)))))) (
some (.inr (.inr ())))
def y7(n:Nat)(l1:Ur)(l2:Ut)(x3:Int)(x4:Int):Int->Option ((Int) ⊕((Int) ⊕(Unit))):=fun v0 =>
br (decide (v0<(l1.length:Int))) (
gd (bw v0 l1.length) (
ob (l1[v0.toNat]?) fun(l3,l4) =>
ob (
ob (FZ n l2 l1 l3 l4 x3 x4 1) fun r0 =>
br (r0) (
some true) (
ob (As n l3 l4) fun l5 =>
ob (
ob (α:=(Int) ⊕(Unit)) (
bh (ym n l5 l2 l1 x3 x4) n 0) fun r1=>match r1 with
| .inl v1 =>
some v1
| .inr _ =>
some (-1)) fun v2 =>
some (decide (0<=v2)))) fun v3 =>
br (v3) (
some (.inr (.inl v0))) (
some (.inl (UD (v0+1)))))) (
some (.inr (.inr ())))
def Og(n:Nat)(l1:Ut)(l2:Ur)(x3:Int)(x4:Int):Option (Int×Int) :=
ob (Jv n l1 l2) fun r0 =>
br (!decide (r0=0)) (
some (0,r0)) (
ob (Oh n x3 x4) fun r1 =>
br (r1) (
some (0,2)) (
ob (
ob (α:=(Int) ⊕(Unit)) (
bh (y7 n l2 l1 x3 x4) n 0) fun r3=>match r3 with
| .inl v0 =>
some v0
| .inr _ =>
some (-1)) fun v1 =>
some (v1,0)))
def Oo(n:Nat)(l1:Ut)(l5:Ur)(x12:Int)(x13:Int)(x14:Int):Option (Bool) :=
ob (Og n l1 l5 x12 x13) fun(r17,r18) =>
br (decide (r17=x14)) (
some (decide (r18=0))) (
some false)
def F7(n:Nat):Option (Bool) :=
ob (
ob (F9 n ([0,0,2,0,4,0,4,2,2,2,0,2])) fun l8 =>
some (l8,([([0,1,4,5],[]),([1,2,3,4],[])]:Ur))) fun(l3,l4) =>
ob (
ob (F9 n ([0,0,9,0,9,9,0,9,3,3,6,3,6,6,3,6])) fun l9 =>
some (l9,([([0,1,2,3],[[4,7,6,5]]),([4,5,6,7],[])]:Ur))) fun(l1,l2) =>
ob (Qq n l3 l4) fun(l10,r0) =>
ob (N8 n l1 l2 0) fun(r1,r3) =>
ob (
ob (F9 n ([0,0,9,0,9,9,0,9,3,3,6,3,6,6,3,6])) fun l11 =>
some (l11,([([0,1,2,3],[[4,7,6,5]]),([4,5,6,7],[])]:Ur))) fun(l12,l5) =>
ob (
ob (F9 n ([0,0,9,0,9,9,0,9,3,3,6,3,6,6,3,6])) fun l13 =>
some (l13,([([0,1,2,3],[[4,7,6,5]]),([4,5,6,7],[])]:Ur))) fun(l14,l6) =>
ob (
ob (F9 n ([0,0,2,0,4,0,4,2,2,2,0,2])) fun l15 =>
some (l15,([([0,1,4,5],[]),([1,2,3,4],[])]:Ur))) fun(l16,l7) =>
gd (bw 0 l5.length) (
ob (l5[UE]?) fun(l17,l20) =>
gd (bw 0 l6.length) (
ob (l6[UE]?) fun(l18,l21) =>
gd (bw 1 l7.length) (
ob (l7[(1:Int).toNat]?) fun(l22,l19) =>
ob (QQ n l10 ([(0,1,0,-1),(0,5,-1,0),(1,2,1,-1),(1,4,0,1),(2,3,1,-1),(3,4,1,-1),(4,5,0,-1)])) fun r4 =>
ob (
ob (MH n l3 l4 0 0) fun r5 =>
br (r5) (
ob (MH n l1 l2 0 0) fun r6 =>
br (r6) (
ob (MH n l12 (l5.set (UE) (l17,[])) 10 1) fun r7 =>
br (r7) (
ob (MH n l14 (l6.set (UE) (l18,[[4,5,6,7]])) 6 0) fun r8 =>
br (r8) (
ob (MH n l16 (l7.set ((1:Int).toNat) ([1,2,3,5],l19)) 8 1) fun r9 =>
some r9) (
some false)) (
some false)) (
some false)) (
some false)) fun v0 =>
br (r4) (
br (decide (r0=0)) (
br (decide (r1=144)) (
br (decide (r3=0)) (
br (v0) (
ob (Qm n l3 l4 6 7 2 1) fun r10 =>
br (r10) (
ob (Qm n l1 l2 8 8 2 2) fun r11 =>
br (r11) (
ob (Oo n l1 l2 4 4 1) fun r12 =>
br (r12) (
ob (Oo n l1 l2 1 1 0) fun r13 =>
br (r13) (
ob (Oo n l1 l2 3 3 0) fun r14 =>
br (r14) (
ob (Oo n l1 l2 10 10 (-1)) fun r15 =>
some r15) (
some false)) (
some false)) (
some false)) (
some false)) (
some false)) (
some false)) (
some false)) (
some false)) (
some false)) (
some false))))
def OJ(n:Nat)(l2:Ut)(l1:Ur)(x3:Int)(x4:Int):Option (Ut×Int) :=
ob (Jv n l2 l1) fun r0 =>
br (!decide (r0=0)) (
some ([],r0)) (
ob (
br (decide (x3<0)) (
some true) (
br (decide ((l1.length:Int)<=x3)) (
some true) (
br (decide (x4 < -1)) (
some true) (
gd (bw x3 l1.length) (
ob (l1[x3.toNat]?) fun(l9,l4) =>
some (decide ((l4.length:Int)<=x4))))))) fun v0 =>
br (v0) (
some ([],2)) (
gd (bw x3 l1.length) (
ob (l1[x3.toNat]?) fun(l5,l6) =>
ob (As n l5 l6) fun l3 =>
gd (bw (UD (x4+1)) l3.length) (
ob (l3[(UD (x4+1)).toNat]?) fun l7 =>
ob (Ic n l2 l1 l7 1) fun l8 =>
some (l8,0)))))
def PZ(n:Nat)(l2:Ut)(l1:Ur)(x3:Int)(x4:Int):Option (Ut×Int) :=
ob (NO n l2 l1) fun r0 =>
br (!decide (r0=0)) (
some ([],r0)) (
ob (
br (decide (x3<0)) (
some true) (
br (decide ((l1.length:Int)<=x3)) (
some true) (
br (decide (x4 < -1)) (
some true) (
gd (bw x3 l1.length) (
ob (l1[x3.toNat]?) fun(l9,l4) =>
some (decide ((l4.length:Int)<=x4))))))) fun v0 =>
br (v0) (
some ([],2)) (
gd (bw x3 l1.length) (
ob (l1[x3.toNat]?) fun(l5,l6) =>
ob (CD n l5 l6) fun l3 =>
gd (bw (UD (x4+1)) l3.length) (
ob (l3[(UD (x4+1)).toNat]?) fun l7 =>
ob (GB n l2 l1 l7 1) fun l8 =>
some (l8,0)))))
def vp(n:Nat)(l26:Uu)(l1:Ut)(l5:Ur):(Int×Int)->Option ((Int×Int) ⊕(Int)):=fun(v34,v35) =>
br (decide (v35<(l26.length:Int))) (
gd (bw v35 l26.length) (
ob (l26[v35.toNat]?) fun l57 =>
ob (GB n l1 l5 l57 1) fun l62 =>
ob (DZ n l62) fun r66 =>
some (.inl (UD (v34+r66),UD (v35+1))))) (
some (.inr v34))
def Qt(n:Nat)(l1:Ut)(l5:Ur)(x12:Int):Option (Int) :=
gd (bw x12 l5.length) (
ob (l5[x12.toNat]?) fun(l17,l18) =>
ob (CD n l17 l18) fun l26 =>
ob (
bh (vp n l26 l1 l5) n (0,0)) fun v52 =>
some v52)
def Ow(n:Nat)(l1:Ut)(l5:Ur)(x12:Int):Option (Int×Int) :=
ob (NO n l1 l5) fun r15 =>
br (!decide (r15=0)) (
some (0,r15)) (
ob (
br (decide (x12<0)) (
some true) (
some (decide ((l5.length:Int)<=x12)))) fun v24 =>
br (v24) (
some (0,2)) (
ob (Qt n l1 l5 x12) fun r30 =>
some (r30,0)))
def yb(n:Nat)(l29:Uu)(l1:Ut)(l5:Ur)(x13:Int)(x14:Int):Int->Option ((Int) ⊕((Unit) ⊕(Unit))):=fun v36 =>
br (decide (v36<(l29.length:Int))) (
gd (bw v36 l29.length) (
ob (l29[v36.toNat]?) fun l57 =>
ob (GB n l1 l5 l57 1) fun l62 =>
ob (uh n l62 x13 x14) fun r66 =>
br (decide (r66=1)) (
some (.inr (.inl ()))) (
some (.inl (UD (v36+1)))))) (
some (.inr (.inr ())))
def P7(n:Nat)(l1:Ut)(l5:Ur)(x12:Int)(x13:Int)(x14:Int):Option (Bool) :=
gd (bw x12 l5.length) (
ob (l5[x12.toNat]?) fun(l20,l21) =>
ob (CD n l20 l21) fun l29 =>
ob (α:=(Unit) ⊕(Unit)) (
bh (yb n l29 l1 l5 x13 x14) n 0) fun r69=>match r69 with
| .inl _ =>
some true
| .inr _ =>
ob (wP n l1 l5 x12 x13 x14 1) fun r71 =>
some r71)
def zt(n:Nat)(l5:Ur)(l1:Ut)(x12:Int)(x13:Int):Int->Option ((Int) ⊕((Int) ⊕(Unit))):=fun v23 =>
br (decide (v23<(l5.length:Int))) (
ob (P7 n l1 l5 v23 x12 x13) fun r32 =>
br (r32) (
some (.inr (.inl v23))) (
some (.inl (UD (v23+1))))) (
some (.inr (.inr ())))
def Pg(n:Nat)(l1:Ut)(l5:Ur)(x12:Int)(x13:Int):Option (Int×Int) :=
ob (NO n l1 l5) fun r17 =>
br (!decide (r17=0)) (
some (0,r17)) (
ob (NV n x12 x13) fun r20 =>
br (r20) (
some (0,2)) (
ob (α:=(Int) ⊕(Unit)) (
bh (zt n l5 l1 x12 x13) n 0) fun r35=>match r35 with
| .inl v29 =>
some (v29,0)
| .inr _ =>
some (-1,0)))
def El(n:Nat)(x4:Int)(x11:Int)(y0:Int)(y1:Int)(x12:Nat)(l1:Ut)(l2:Ur):Int->Option ((Int) ⊕((Unit) ⊕(Unit))):=fun v0 =>
br (decide (v0<4)) (
gd (bw v0 4) (
ob ([(x4,x11),(y0,-1),(y1,UD ((x12%2:Nat):Int)),(x4,-1)][v0.toNat]?) fun(x3,x10) =>
ob (OJ n l1 l2 x3 x10) fun(l3,r0) =>
ob (PZ n l1 l2 x3 x10) fun(l4,r1) =>
ob (N8 n l1 l2 x3) fun(r3,r4) =>
ob (Ow n l1 l2 x3) fun(r5,r6) =>
ob (
br (!decide (r0=r1)) (
some true) (
ob (Qr n l3 l4) fun r7 =>
br (!r7) (
some true) (
br (!decide (r3=r5)) (
some true) (
some (!decide (r4=r6)))))) fun v1 =>
br (v1) (
some (.inr (.inl ()))) (
some (.inl (UD (v0+1)))))) (
some (.inr (.inr ())))
def D2(n:Nat)(x10:Int)(x11:Int)(x12:Nat)(x13:Nat)(l1:Ut)(l2:Ur):Int->Option ((Int) ⊕((Unit) ⊕(Unit))):=fun v0 =>
br (decide (v0<2)) (
gd (bw v0 2) (
ob ([(x10,x11),(UD ((x12%22:Nat):Int),UD ((x13%18:Nat):Int))][v0.toNat]?) fun(x3,x4) =>
ob (Og n l1 l2 x3 x4) fun(r0,r1) =>
ob (Pg n l1 l2 x3 x4) fun(r3,r4) =>
ob (
br (!decide (r0=r3)) (
some true) (
some (!decide (r1=r4)))) fun v1 =>
br (v1) (
some (.inr (.inl ()))) (
some (.inl (UD (v0+1)))))) (
some (.inr (.inr ())))
def D6(n:Nat)(l3:Ut)(l4:Ur)(l5:Ut)(l6:Ur)(l7:Ut)(l8:Ur)(x3:Nat)(x10:Int)(x11:Int)(x4:Nat)(x12:Int)(x13:Int):Int->Option ((Int) ⊕((Unit) ⊕(Unit))):=fun v0 =>
br (decide (v0<3)) (
gd (bw v0 3) (
ob ([(l3,l4),(l5,l6),(l7,l8)][v0.toNat]?) fun(l2,l1) =>
gd (decide (UD ((l1.length:Int)+1)≠0)) (
ob (some (Int.tmod (UD ((x3:Nat):Int)) (UD ((l1.length:Int)+1)))) fun y0 =>
gd (decide (UD ((l1.length:Int)+1)≠0)) (
ob (some (Int.tmod (UD ((x3:Nat):Int)) (UD ((l1.length:Int)+1)))) fun y1 =>
ob (α:=(Unit) ⊕(Unit)) (
bh (El n x10 x11 y0 y1 x4 l2 l1) n 0) fun r0=>match r0 with
| .inl _ =>
some (.inr (.inl ()))
| .inr _ =>
ob (α:=(Unit) ⊕(Unit)) (
bh (D2 n x12 x13 x3 x4 l2 l1) n 0) fun r1=>match r1 with
| .inl _ =>
some (.inr (.inl ()))
| .inr _ =>
some (.inl (UD (v0+1))))))) (
some (.inr (.inr ())))
def F5(n:Nat)(x1:Nat)(x2:Nat)(l1:List (Nat))(l2:List (Nat))(x3:Bool)(x4:Nat)(x10:Nat)(x11:Nat)(x12:Int)(x13:Int)(x14:Int)(x15:Nat)(x16:Nat)(x17:Nat)(x18:Int)(x19:Int)(x20:Int)(x21:Int)(x22:Int)(x23:Nat)(x24:Nat)(x25:Int)(x26:Int):Option (Bool) :=
ob (Pt n x1 x2 l1 l2 x3 x4 x10 x11 x12 x13 x14 x15 x16 x17 x18 x19 x20) fun(l3,l4,l5,l6,l7,l8) =>
ob (α:=(Unit) ⊕(Unit)) (
bh (D6 n l3 l4 l5 l6 l7 l8 x23 x21 x22 x24 x25 x26) n 0) fun r0=>match r0 with
| .inl _ =>
some false
| .inr _ =>
ob (F7 n) fun r1 =>
some r1
end
end Go.Proofs.YtmndpgfbkicndaaGreat
namespace Go.Ab.W
open Go Go.Ab
section
variable{P:UB}{ty:Uz}
def JR(P:UB)(ty u:Uz)(k:IntKind):Bool:=match P.underlying ty with
 | some (.struct fs) => !(P.stoodInHeld ty || fs.any (·.name == "_")) && (fs.toList.map (fun f => (f.type, f.offset)) == [(u, 0), (u, 1), (u, 2), (u, 3)]) && known P u && (match P.underlying u with | some (.int k') => k' == k | _ => false)
 | _=>false
def Db {u : Uz} {k : IntKind} (h : JR P ty u k = true) : ∃ fs, P.underlying ty = some (.struct fs) /\ (P.stoodInHeld ty || fs.any (·.name == "_")) = false /\ fs.toList.map (fun f => (f.type, f.offset)) = [(u, 0), (u, 1), (u, 2), (u, 3)] /\
  known P u=true/\P.underlying u=some (.int k):=by
 unfold JR at h
 split at h
 rename_i fs hf;simp only[Sa,S8,beq_iff_eq] at h;obtain⟨⟨⟨h1,h2⟩,h3⟩,h5⟩:=h
 split at h5
 rename_i k' e1;simp only[beq_iff_eq] at h5;subst h5;exact⟨fs,hf,h1,h2,h3,e1⟩
 cases h5
 cases h
def PO{u:Uz}{k:IntKind}(h:JR P ty u k=true)(x0 y0 x1 y1 x2 y2 x3 y3:Int) :
  jY P Op.maxDepth ty (.agg #[.int k x0,.int k x1,.int k x2,.int k x3]) (.agg #[.int k y0,.int k y1,.int k y2,.int k y3])=some (decide (x0=y0)&&decide (x1=y1)&&decide (x2=y2)&&decide (x3=y3)):=by
 obtain⟨fs,hf,h1,h2,h3,h5⟩:=Db h;have a1:dY P u=false:=by simp only[dY,h5]
 have p0:∀x y z w:Uy,dn P u #[x,y,z,w] 0=some x:=fun x y z w=>by simp only[dn,h3,a1]; rfl
 have p1:∀x y z w:Uy,dn P u #[x,y,z,w] 1=some y:=fun x y z w=>by simp only[dn,h3,a1]; rfl
 have p2:∀x y z w:Uy,dn P u #[x,y,z,w] 2=some z:=fun x y z w=>by simp only[dn,h3,a1]; rfl
 have p3:∀x y z w:Uy,dn P u #[x,y,z,w] 3=some w:=fun x y z w=>by simp only[dn,h3,a1]; rfl
 show jY P (9999+1) ty _ _=_
 unfold jY;simp only[hf,h1,Sw,if_false,h2];rw[mY (p0 _ _ _ _) (p0 _ _ _ _) (vD h5 9998 x0 y0) (mY (p1 _ _ _ _) (p1 _ _ _ _) (vD h5 9998 x1 y1) (mY (p2 _ _ _ _) (p2 _ _ _ _) (vD h5 9998 x2 y2) (mY (p3 _ _ _ _) (p3 _ _ _ _) (vD h5 9998 x3 y3) rfl)))];simp only[Bool.and_true,Bool.and_assoc]
end
section
variable{E:Env}{m0:Vo}{fs:Fs}{ps:List Pc}{x:UA}{ty:Uz}
def jC{a:Addr}(h:ev E fs x=some (.pointer (some a))):Od E m0 fs ps (.nilCheck x) (.pointer (some a)) ps:=.pure (fun _=>rfl) fun t m hf K=>by
 show eX (match aw E t x with
  | some (.pointer (some a))=>some (.pointer (some a),m)
  | some (.func (.func f) a b)=>some (.func (.func f) a b,m)
  | some (.func (.yield f) a b)=>some (.func (.yield f) a b,m)
  | _=>none) K=_
 rw[hf.ev h]; rfl
end
set_option maxRecDepth 10000
attribute [local irreducible] Tm.at Trie.set Trie.get Vo.get Vo.set Vo.alloc Vo.ww
section
variable{E:Env}{n:Nat}{m0:Vo}{fs:Fs}{ps:List Pc}{x y z:UA}{v:Uy}{ty ty2:Uz}
def Li{elem lo hi mx b o len cap w k:Nat}{cs:List Uy}{lx hx:Option UA}{l h:Option Uy}(ht:SlT E.P ty elem w)(hv:ev E fs x=some (.slice (some ⟨b,o,none⟩) len cap))(e1:iY E fs lx=some l)(e2:iY E fs hx=some h)
  (hp:pk ps k=some (.obj b (.cells cs (.more w)))) (hb:bV len cap l h none=some (lo,hi,mx)) :
  Od E m0 fs ps (.slice ty x lx hx none) (if cap=lo then gj b else .slice (some ⟨b,o+lo*w,none⟩) (hi-lo) (cap-lo)) ps :=
 fun t m hf hm=>⟨fun b' hb'=>by
  have:dN (.slice (some ⟨b,o,none⟩) len cap)=some b:=rfl;simp only[aQ,hf.ev hv,SA,this] at hb';cases hb'; exact(hm.get hp).2.1,fun K hK=>by
  have hg:=(hm.get hp).2.2;have hs:cf E.P ty (.slice (some ⟨b,o,none⟩) len cap) l h none m=some (if cap=lo then gj b else .slice (some ⟨b,o+lo*w,none⟩) (hi-lo) (cap-lo)):=by
   have hne:¬w≠w:=fun h=>h rfl;simp only[cf,ht.und,ht.known,if_true,hg,hb,ht.size,R6 hne]
   split<;>rfl
  rw[Go.Ab.np (hf.ev hv) (hf.iY e1) (hf.iY e2) (show dW E t none=some none from rfl) hs]; exact hK m hm⟩
def Lj{elem lo hi mx b o len cap w k:Nat}{cs:List Uy}{lx hx:Option UA}{kx:UA}{l h:Option Uy}{q:Uy}(ht:SlT E.P ty elem w)(hv:ev E fs x=some (.slice (some ⟨b,o,none⟩) len cap))(e1:iY E fs lx=some l)(e2:iY E fs hx=some h)(e3:iY E fs (some kx)=some (some q))
  (hp:pk ps k=some (.obj b (.cells cs (.more w)))) (hb:bV len cap l h (some q)=some (lo,hi,mx)) :
  Od E m0 fs ps (.slice ty x lx hx (some kx)) (if mx=lo/\hi=lo then .slice (some ⟨b,0,some 1⟩) 0 0 else .complex .f64 0 0) ps :=
 fun t m hf hm=>⟨fun b' hb'=>by
  have:dN (.slice (some ⟨b,o,none⟩) len cap)=some b:=rfl;simp only[aQ,hf.ev hv,SA,this] at hb';cases hb'; exact(hm.get hp).2.1,fun K hK=>by
  have hg:=(hm.get hp).2.2;have hs:cf E.P ty (.slice (some ⟨b,o,none⟩) len cap) l h (some q) m=some (if mx=lo/\hi=lo then .slice (some ⟨b,0,some 1⟩) 0 0 else .complex .f64 0 0):=by
   have hne:¬w≠w:=fun h=>h rfl;simp only[cf,ht.und,ht.known,if_true,hg,hb,ht.size,R6 hne]
   split<;>rfl
  rw[Go.Ab.np (hf.ev hv) (hf.iY e1) (hf.iY e2) (hf.iY e3) hs]; exact hK m hm⟩
def PL{elem w b o len cap l1 c0 k:Nat}{tg:Tag}{a0:Uw}{cs new:List Uy}{ars:Array UA}(ht:SlT E.P ty elem w)(h0:∃e2,E.P.underlying ty2=some (.slice e2))(ha:gw E fs ars.toList=some [.slice (some ⟨b,o,none⟩) len cap,.slice a0 l1 c0])(hp:pk ps k=some (.obj b (.cells cs tg)))(htg:qR tg=true)
  (hs:∀m,Hp m0 m ps->cX w (.slice a0 l1 c0) l1 m=some new) (hnl:new.length=l1*w) (ho:bg new=true) (hlim:lim (len+l1)=true) (hfit:len+l1<=cap) (hl:o+len*w+new.length<=cs.length) :
  Od E m0 fs ps (.call ⟨.builtin .append,ars,#[ty,ty2]⟩) (.slice (some ⟨b,o,none⟩) (len+l1) cap) (bS ps k (.obj b (.cells (aG cs (o+len*w) new) tg))) :=
 fun t m hf hm=>⟨fun b' hb'=>by simp[aQ] at hb',fun K hK=>by
  have hg:=(hm.get hp).2.2;obtain⟨e2,h0⟩:=h0;obtain⟨inf,h1,h2,h3⟩:=ht.bytes;have hlim':len+l1<=1073741824:=Tc hlim;have hfc:dO inf.bytes (len+l1)=true:=by
   simp only[dO,Sn]
   calc (2*(len+l1)+2000)*inf.bytes<=(2*1073741824+2000)*1024:=Uk (by omega) h3
    _<=2 ^ 48:=by decide
  have hguard:(!(known E.P elem)||aH E.P elem==0 || !bg new || !(E.P.info? elem).any (fun i=>dO i.bytes (len+l1)&&i.bytes != 0)||new.length != l1*aH E.P elem || !(bu E.P elem).any (fun z=>z.cells.size==aH E.P elem&&z.cells.toList.all aU))=false:=by
   have hz:=ht.zero;have hp:=ht.pos;rw[ht.size];simp only[ht.known,ho,h1,Option.any_some,hfc,hz,hnl];simp[h2]; omega
  have hnc:eV E.P elem (some ty2) (.slice a0 l1 c0) m=some (l1,new):=by
   simp only[eV,SA,h0,ht.size,hs m hm,Sq]
  by_cases hnil:new=[]
  subst hnil;have hsp:aG cs (o+len*w) []=cs:=by
   apply S9;intro i;rw[aR,R6 (by simp; omega)]
  have:bj E.P .append #[ty,ty2] [.slice (some ⟨b,o,none⟩) len cap,.slice a0 l1 c0] m=some (.slice (some ⟨b,o,none⟩) (len+l1) cap,m):=by
   show cN E.P ty (some ty2) _ _ m=_
   unfold cN;simp only[ht.und,hnc,hguard,Sw,if_false,hg,R7 hfit,Vo.cW,Sq]
  rw[Go.Ab.dD (hf.gw ha) this];refine hK _ ?_;rw[hsp];have e:bS ps k (.obj b (.cells cs tg))=ps:=pQ _ _ _ hp;rw[e]; exact hm
  ·have hst:m.cW b (o+len*w) new=some (m.set b (.cells (aG cs (o+len*w) new) tg)):=by
    cases new with
    | nil=>exact Ss rfl hnil
    | cons a' new =>
     cases tg with
     | ro=>cases htg
     | own=>simp only[Vo.cW,hg,R7 hl]
     | more s=>simp only[Vo.cW,hg,R7 hl]
   have h4:m.cW b (o+len*aH E.P elem) new=some (m.set b (.cells (aG cs (o+len*w) new) tg)):=by rw[ht.size]; exact hst
   have:bj E.P .append #[ty,ty2] [.slice (some ⟨b,o,none⟩) len cap,.slice a0 l1 c0] m=some (.slice (some ⟨b,o,none⟩) (len+l1) cap,m.set b (.cells (aG cs (o+len*w) new) tg)):=by
    show cN E.P ty (some ty2) _ _ m=_
    unfold cN;simp only[ht.und,hnc,hguard,Sw,if_false,hg,R7 hfit,h4,Sq]
   rw[Go.Ab.dD (hf.gw ha) this];exact hK _ (hm.write hp rfl rfl rfl rfl ⟨(hm.get hp).1,by rw[Vo.next_set]; exact(hm.get hp).2.1,by rw[Vo.bC,R7 rfl]⟩)⟩
def FU{elem lo hi mx b o len cap w k:Nat}{cs:List Uy}{tg:Tag}{lx hx:Option UA}{l h:Option Uy}(ht:SlT E.P ty elem w)(hv:ev E fs x=some (.slice (some ⟨b,o,none⟩) len cap))(e1:iY E fs lx=some l)(e2:iY E fs hx=some h)
  (hp:pk ps k=some (.obj b (.cells cs tg))) (htg:tg=.own\/tg=.more w) (hb:bV len cap l h none=some (lo,hi,mx)) (hmx:mx=cap) (hlo:cap≠lo) :
  Od E m0 fs ps (.slice ty x lx hx none) (.slice (some ⟨b,o+lo*w,none⟩) (hi-lo) (cap-lo)) ps:=by
 rcases htg with rfl|rfl
 subst hmx;exact Cr ht hv e1 e2 (show iY E fs none=some none from rfl) hp rfl hb (by rw[R6 hlo])
 have:=Li (m0:=m0) ht hv e1 e2 hp hb;rwa[R6 hlo] at this
def PX{elem lo hi mx b o len cap w k:Nat}{cs:List Uy}{tg:Tag}{lx hx:Option UA}{kx:UA}{l h:Option Uy}{q:Uy}(ht:SlT E.P ty elem w)(hv:ev E fs x=some (.slice (some ⟨b,o,none⟩) len cap))(e1:iY E fs lx=some l)(e2:iY E fs hx=some h)(e3:iY E fs (some kx)=some (some q))
  (hp:pk ps k=some (.obj b (.cells cs tg))) (htg:tg=.own\/tg=.more w) (hb:bV len cap l h (some q)=some (lo,hi,mx)) :
  Ox E m0 fs ps (.slice ty x lx hx (some kx)) (fun v:Uy=>v) (fun _=>ps):=by
 rcases htg with rfl|rfl
 exact fun t m hf hm=>⟨(Cr (m0:=m0) ht hv e1 e2 e3 hp rfl hb rfl t m hf hm).1,fun K hK=>(Cr (m0:=m0) ht hv e1 e2 e3 hp rfl hb rfl t m hf hm).2 K (hK _)⟩
 exact fun t m hf hm=>⟨(Lj (m0:=m0) ht hv e1 e2 e3 hp hb t m hf hm).1,fun K hK=>(Lj (m0:=m0) ht hv e1 e2 e3 hp hb t m hf hm).2 K (hK _)⟩
def Pk{elem b w k j nn:Nat}{cs:List Uy}{tg:Tag}{lx:Option UA}{l:Option Uy}(ht:SlT E.P ty elem w)(hv:ev E fs x=some (.slice (some ⟨b,0,none⟩) nn nn))(e1:iY E fs lx=some l)
  (hp:pk ps k=some (.obj b (.cells cs tg))) (htg:tg=.own\/tg=.more w) (hj:j<=nn) (hb:bV nn nn l none none=some (j,nn,nn)) (hcl:nn*w<=cs.length) :
  Ox E m0 fs ps (.slice ty x lx none none) (fun A:{ A:Addr // ∀m,Hp m0 m ps->cX w (.slice (some A) (nn-j) (nn-j)) (nn-j) m=some ((cs.drop (j*w)).take ((nn-j)*w))}=>.slice (some A.1) (nn-j) (nn-j)) (fun _=>ps):=by
 by_cases h:nn=j
 subst h;have h0:∀A m,cX w (.slice (some A) (nn-nn) (nn-nn)) (nn-nn) m=some ((cs.drop (nn*w)).take ((nn-nn)*w)):=fun A m=>by
  obtain⟨ab,ao,ax⟩:=A;cases ax<;>simp[cX]
 rcases htg with rfl|rfl
 have h1:=Cr (m0:=m0) ht hv e1 (show iY E fs none=some none from rfl) (show iY E fs none=some none from rfl) hp rfl hb rfl
 rw[R7 rfl] at h1;exact fun t m hf hm=>⟨(h1 t m hf hm).1,fun K hK=>(h1 t m hf hm).2 K (hK ⟨_,fun m' _=>h0 _ m'⟩)⟩
 have h1:=Li (m0:=m0) ht hv e1 (show iY E fs none=some none from rfl) hp hb
 rw[R7 rfl] at h1;have h2:gj b=.slice (some ⟨b,0,some 0⟩) (nn-nn) (nn-nn):=by rw[Uo]; rfl
 rw[h2] at h1;exact fun t m hf hm=>⟨(h1 t m hf hm).1,fun K hK=>(h1 t m hf hm).2 K (hK ⟨_,fun m' _=>h0 _ m'⟩)⟩
 have h1:=FU (m0:=m0) ht hv e1 (show iY E fs none=some none from rfl) hp htg hb rfl h
 exact fun t m hf hm=>⟨(h1 t m hf hm).1,fun K hK=>(h1 t m hf hm).2 K (hK ⟨_,fun m' hm'=>by
  have:=Jw (b:=b) (o:=0+j*w) (l:=nn-j) (c:=nn-j) (w:=w) (q:=nn-j) (k:=k) hm' hp (by omega) (by
   have:j*w+(nn-j)*w=nn*w:=by rw[<-TW]; congr 1; omega
   omega)
  rw[this,SD]⟩)⟩
end
end Go.Ab.W
namespace Go.Proofs.YtmndpgfbkicndaaGreat
open Go Go.Ab Go.Ab.W
set_option maxRecDepth 10000
set_option maxHeartbeats 4000000
attribute [local irreducible] Tm.at Trie.set Trie.get Vo.get Vo.set Vo.alloc Vo.ww Vo.kill
variable{p q:Option Prim}
def bA(k:IntKind){x y:Nat}(h:x<=y):je (.int k (x:Int)) y=some x:=by
 simp only[je]; rw[R7 ⟨by omega,by omega⟩,Sv]
def QR{len cap lo hi mx:Nat}{k1 k2 k3:IntKind}(h1:lo<=hi)(h2:hi<=mx)(h3:mx<=cap):bV len cap (some (.int k1 (lo:Int))) (some (.int k2 (hi:Int))) (some (.int k3 (mx:Int)))=some (lo,hi,mx):=by
 unfold bV; simp only[bA _ h3,bA _ h2,bA _ h1]
def QE{len cap hi:Nat}{k2:IntKind}(h2:hi<=cap):bV len cap none (some (.int k2 (hi:Int))) none=some (0,hi,cap):=by
 unfold bV; simp only[bA _ h2]
def Rf{len cap lo:Nat}{k1:IntKind}(h1:lo<=len):bV len cap (some (.int k1 (lo:Int))) none none=some (lo,len,cap):=by
 unfold bV; simp only[bA _ h1]
def PW{len cap lo hi:Nat}{k1 k2:IntKind}(h1:lo<=hi)(h2:hi<=cap):bV len cap (some (.int k1 (lo:Int))) (some (.int k2 (hi:Int))) none=some (lo,hi,cap):=by
 unfold bV; simp only[bA _ h2,bA _ h1]
def M9{a b:Nat}(h:lim a=true)(hb:b<=a):lim b=true:=Nat.ble_eq_true_of_le (SC hb (Tc h))
def yI{l l':List Uy}(h:bg l=true)(hs:∀v∈l',v∈l):bg l'=true:=Si.2 fun v hv=>Si.1 h v (hs v hv)
def yS{cs new zs:List Uy}{p q:Nat}(hq:q=p+new.length)(hl:q<=cs.length):(aG (aG cs p new) q zs).take q=cs.take p++new:=by
 apply S9;intro k;have hp:(cs.take p).length=p:=by rw[Sm]; omega
 rw[Tf]
 split
 rw[aR,UF,aR]
 by_cases hk:k<p
 rw[UF,SS (by rw[hp]; exact hk),Tf,R7 hk]
 rw[R7 ⟨by omega,by omega,by omega⟩,SO (by rw[hp]; omega),hp]
 rw[SU (by rw[Sk,hp]; omega)]
def QW{n:Nat}:fR (Vr p q).P 31 n=some (bp [.slice none 0 0,.slice none 0 0] n):=by
 have:bu (Vr p q).P 31=some (.agg #[.slice none 0 0,.slice none 0 0]):=by kernel_rfl
 have hs:aH (Vr p q).P 31=2:=by kernel_rfl
 simp only[fR,this,hs]; rfl
def GO{m0 m:Vo}{rest:List Pc}{b n i j:Nat}{cs:List Uy}{tg:Tag}(htg:tg=.own\/tg=.more 2)(hm:Hp m0 m (.obj b (.cells cs tg)::rest))(hcl:cs.length=n*2)(hone:bg cs=true)(hij:i<j)(hjn:j<=n)(hlim:lim n=true) :
  aC (Vr p q) 98 [.slice (some ⟨b,0,none⟩) n n,.int .i64 (i:Int),.int .i64 (j:Int)] m fun v m'=>v=.slice (some ⟨b,0,none⟩) (n-(j-i)) n /\
   ∃cs',Hp m0 m' (.obj b (.cells cs' tg)::rest)/\cs'.length=cs.length/\cs'.take ((n-(j-i))*2)=cs.take (i*2)++(cs.drop (j*2)).take ((n-j)*2):=by
 have hro:qR tg=true:=by rcases htg with rfl|rfl<;>rfl
 refine aW (m0:=m0) (ps:=.obj b (.cells cs tg)::rest) (N:=33) (rs:=[.tmp 6]) rfl Tryz.func98 rfl rfl rfl hm ?_;refine UJ ?_;refine UM ?_;refine UH (bH rfl) rfl ?_;refine UU ?_;refine US ?_;refine UJ ?_;refine UM ?_;refine UH (aK rfl) rfl ?_;refine UH (aK rfl) rfl ?_;refine UH (aK rfl) rfl ?_;refine UH (aK rfl) rfl ?_;refine UH (il (k:=0) A4 rfl rfl (.inl rfl)) rfl ?_;refine UX (PX (k:=0) jA rfl rfl rfl rfl rfl htg (QR (Nat.le_of_lt hij) hjn (Sc n))) gn rfl fun _=>?_;refine UU ?_;refine US ?_;refine UJ ?_;refine UJ ?_;refine UM ?_;refine UH (aK rfl) rfl ?_;refine UH (aK rfl) rfl ?_;refine UH (aI rfl rfl (ES _ _)) rfl ?_;refine UU ?_;refine US ?_;refine Wk.eY rfl (Se (Nat.ne_of_lt hij)) ?_;refine Ve ?_;refine US ?_;refine UJ ?_;refine UM ?_;refine UH (aK rfl) rfl ?_;refine UH (il (k:=0) A4 rfl rfl (.inl rfl)) rfl ?_;refine UH (bH rfl) rfl ?_;refine UU ?_;refine US ?_;refine UJ ?_;refine Wk.draw (by kernel_rfl) ?_
 refine UH (aK rfl) rfl ?_;refine UH (aK rfl) rfl ?_;refine UH (FU (k:=0) jA rfl rfl rfl rfl htg (QE (by omega)) rfl (by omega)) rfl ?_
 refine UH (aK rfl) rfl ?_;refine UH (aK rfl) rfl ?_;refine UX (Pk (k:=0) jA rfl rfl rfl htg hjn (Rf hjn) (by omega)) gn rfl fun A=>?_
 have hnl:((cs.drop (j*2)).take ((n-j)*2)).length=(n-j)*2:=by simp; omega
 have ho1:bg ((cs.drop (j*2)).take ((n-j)*2))=true:=yI hone fun v hv=>TH (TG hv);refine UH (PL (k:=0) jA ⟨_,A4⟩ rfl rfl hro A.2 hnl ho1 (M9 hlim (by omega)) (by omega) (by rw[hnl]; omega)) rfl ?_
 refine UH (bH rfl) rfl ?_;refine UU ?_;refine US ?_;refine UJ ?_;refine UM ?_;refine UH (aK rfl) rfl ?_;refine UH (aK rfl) rfl ?_;refine UH (il (k:=0) A4 rfl rfl (.inl rfl)) rfl ?_;refine UH (aK rfl) rfl ?_;refine UH (FU (k:=0) jA rfl rfl rfl rfl htg (PW (by omega) (by omega)) rfl (by omega)) rfl ?_
 refine Vf (PI (k:=0) (zs:=bp [.slice none 0 0,.slice none 0 0] (n-(i-0+(n-j)))) jA rfl rfl hro (by omega) QW (eB (by decide) _) (by intro e; have:=SK List.length e; rw[bP] at this; simp at this; omega) (by rw[bP,bf]; simp; omega)) ?_
 refine UU ?_;refine US ?_;refine UJ ?_;refine UM ?_;refine UH (aK rfl) rfl ?_;refine UH (bH rfl) rfl ?_;refine UU ?_;refine US ?_;refine Wk.ret ?_;refine U1 (.tmp rfl .nil) fun m' hm'=>⟨?_,_,hm',?_,?_⟩
 rw[show i-0+(n-j)=n-(j-i) by omega,TK]; rfl
 rw[bf,bf]
 rw[show(n-(j-i))*2=0+(i-0+(n-j))*2 by omega]
 rw[yS (by rw[hnl]; omega) (by omega),SD,TK]
end Go.Proofs.YtmndpgfbkicndaaGreat
namespace Go.Ab.W
open Go Go.Ab
attribute [local irreducible] Tm.at Trie.set Trie.get Vo.get Vo.set Vo.alloc Vo.ww Vo.kill
section
variable{α:Type}{r:Rep α}{o:Orp r}{E:Env}{n:Nat}{m0 m:Vo}{fs:Fs}{ps:List Pc}{dr:Bool}{ops:Array Oper}{K:Tm->Vo->Prop}{os:List Oper}{prs:List (Nat×Nat)}{ss:List Nk}{ty:Uz}
def aa.CF:aa m0 ps (.gen (cV o (fun _=>False) [] [])::ps):=fun _ hm=>hm.CF
def Wo.um{x:α}{g:o.G}{qs:List Pc}(hq:o.N x g++ps=qs)(k:∀S,Wo dr E n ops K os m0 fs (.gen (cV o S [x] [o.V x g])::ps)):Wo dr E n ops K os m0 fs qs :=
 Wo.po (N:=fun S=>.gen (cV o S [x] [o.V x g])::ps) (fun m hm=>⟨_,Hp.um (by rw[hq]; exact hm)⟩) k
def Wn.um{x:α}{g:o.G}{qs:List Pc}(hq:o.N x g++ps=qs)(k:∀S,Wn E n ops prs K os ss m0 fs (.gen (cV o S [x] [o.V x g])::ps)):Wn E n ops prs K os ss m0 fs qs :=
 Wn.po (N:=fun S=>.gen (cV o S [x] [o.V x g])::ps) (fun m hm=>⟨_,Hp.um (by rw[hq]; exact hm)⟩) k
def s7{elem ty2:Uz}{w c0 l l1:Nat}{a a0:Uw}{S S':Ux}{L L':List α}{es es':Uv}{ars:Array UA}{p0:Pc}(ht:SlT E.P ty elem w)(h3:∃e2,E.P.underlying ty2=some (.slice e2))(ha:gw E fs ars.toList=some [.slice a l l,.slice a0 l1 c0])(hr:IsRd p0 a0 c0 w l1 es')(hw:r.w=w)(hl:lim (L++L').length=true) :
  Ox E m0 fs (.gen (cV o S L es)::.gen (cV o S' L' es')::.sl a w l es::p0::ps) (.call ⟨.builtin .append,ars,#[ty,ty2]⟩) (fun y:Uw ×(Nat->Prop)=>.slice y.1 (L++L').length (L++L').length)
   (fun y=>.gen (cV o y.2 (L++L') (es++es'))::.sl y.1 w (L++L').length (es++es')::p0::ps):=fun t m hf hm=>⟨fun b hb=>(by simp[aQ] at hb),fun K hK=>by
 have e1:l=L.length:=by rw[Pc.rW (hm.get (k:=2) rfl),sI hm (q:=0) rfl]
 have e2:l1=L'.length:=by rw[<-(hm.rd (k:=3) rfl hr).1,sI hm (q:=1) rfl]
 have e0:l+l1=(L++L').length:=by rw[e1,e2,Sk]
 obtain⟨⟨qs,h0,_⟩,_⟩:=(hm.get (k:=1) rfl).1;obtain⟨S'',h1⟩:=hm.Hd;obtain⟨a',m',h4,h2⟩:=p8 (n:=l) (k:=1) ht h3 h1 rfl (h1.rd (k:=2) rfl hr) (fun e he=>by rw[<-hw]; exact(h0.cells e he).1) (fun e he=>(h0.cells e he).2) (by rw[e0]; exact hl)
 have:bj E.P .append #[ty,ty2] [.slice a l l,.slice a0 l1 c0] m=some (.slice a' (l+l1) (l+l1),m'):=h4;rw[Go.Ab.dD (hf.gw ha) this];rw[e0] at h2 ⊢;exact hK (a',S'') m' h2⟩
end
def ie{γ:Type}{l:List γ}{j:Nat}{e:γ}(h:l[j]? = some e):l.set j e=l:=by
 apply S9;intro i;rw[List.getElem?_set]
 split
 rename_i hij; subst hij;rw[R7 (Sl.1 h).1,h]
 rfl
def dc{γ:Type}{l:List γ}{j:Nat}{e e':γ}(h:l[j]? = some e):(l.set j e')[j]? = some e':=by
 rw[List.getElem?_set,R7 rfl,R7 (Sl.1 h).1]
section
variable{α β:Type}{r:Rep α}{o:Orp r}{E:Env}{n:Nat}{m0 m:Vo}{fs:Fs}{ps qs:List Pc}{dr:Bool}{ops:Array Oper}{K:Tm->Vo->Prop}{os:List Oper}{prs:List (Nat×Nat)}{ss:List Nk}{ty:Uz}{Q:Vp->Tm->Vo->Prop}
def aa.my{k b w l:Nat}{es es':Uv}{tg:Tag}(hp:pk ps k=some (.arr b w l es tg))(h:es=es'):aa m0 ps (bS ps k (.arr b w l es' tg)):=fun m hm=>by
 subst h; rw[pQ _ _ _ hp]; exact hm
def At.po{e:Vp}{β:Type}{N:β->List Pc}(h:∀m,Hp m0 m ps->∃y,Hp m0 m (N y))(k:∀y,At Q e m0 fs (N y)):At Q e m0 fs ps:=fun t m hf hm=>by
 obtain⟨y,hy⟩:=h m hm; exact k y t m hf hy
def yE{S:Ux}{L:List α}{es:Uv}{j:Nat}{x:α}(hl:L[j]? = some x):∀m,Hp m0 m (.gen (cV o S L es)::ps) ->
  ∃z:{ z:o.G ×(Nat->Prop) ×(Nat->Prop) // es[j]? = some (o.V x z.1)},Hp m0 m (o.N x z.1.1++(.gen (cV o z.1.2.1 (L.take j) (es.take j))::.gen (cV o z.1.2.2 (L.drop (j+1)) (es.drop (j+1)))::ps)):=fun m hm=>by
 obtain⟨g,S1,S2,he,h⟩:=hm.JC hl;exact⟨⟨(g,S1,S2),he⟩,h⟩
def Wo.Cz{S:Ux}{L:List α}{es:Uv}{j:Nat}{x:α}{N:o.G->(Nat->Prop)->(Nat->Prop)->List Pc}(hl:L[j]? = some x)(hN:∀g S1 S2,N g S1 S2=o.N x g++(.gen (cV o S1 (L.take j) (es.take j))::.gen (cV o S2 (L.drop (j+1)) (es.drop (j+1)))::ps))(k:∀g S1 S2,es[j]? = some (o.V x g)->Wo dr E n ops K os m0 fs (N g S1 S2)) :
  Wo dr E n ops K os m0 fs (.gen (cV o S L es)::ps):=Wo.po (yE hl) fun z=>by rw[<-hN]; exact k _ _ _ z.2
def Wn.Cz{S:Ux}{L:List α}{es:Uv}{j:Nat}{x:α}{N:o.G->(Nat->Prop)->(Nat->Prop)->List Pc}(hl:L[j]? = some x)(hN:∀g S1 S2,N g S1 S2=o.N x g++(.gen (cV o S1 (L.take j) (es.take j))::.gen (cV o S2 (L.drop (j+1)) (es.drop (j+1)))::ps))(k:∀g S1 S2,es[j]? = some (o.V x g)->Wn E n ops prs K os ss m0 fs (N g S1 S2)) :
  Wn E n ops prs K os ss m0 fs (.gen (cV o S L es)::ps):=Wn.po (yE hl) fun z=>by rw[<-hN]; exact k _ _ _ z.2
def yM{S1 S2:Ux}{L:List α}{es:Uv}{j:Nat}{x:α}{g:o.G}(hl:L[j]? = some x)(he:es[j]? = some (o.V x g))(hq:o.N x g++(.gen (cV o S1 (L.take j) (es.take j))::.gen (cV o S2 (L.drop (j+1)) (es.drop (j+1)))::ps)=qs):∀m,Hp m0 m qs->∃S,Hp m0 m (.gen (cV o S L es)::ps):=fun m hm=>by
 rw[<-hq] at hm;obtain⟨S,h⟩:=hm.DH hl he;rw[ie hl,ie he] at h;exact⟨S,h⟩
def Wo.HH{S1 S2:Ux}{L:List α}{es:Uv}{j:Nat}{x:α}{g:o.G}(hl:L[j]? = some x)(he:es[j]? = some (o.V x g))(hq:o.N x g++(.gen (cV o S1 (L.take j) (es.take j))::.gen (cV o S2 (L.drop (j+1)) (es.drop (j+1)))::ps)=qs)(k:∀S,Wo dr E n ops K os m0 fs (.gen (cV o S L es)::ps)):Wo dr E n ops K os m0 fs qs:=Wo.po (yM hl he hq) k
def Wn.HH{S1 S2:Ux}{L:List α}{es:Uv}{j:Nat}{x:α}{g:o.G}(hl:L[j]? = some x)(he:es[j]? = some (o.V x g))(hq:o.N x g++(.gen (cV o S1 (L.take j) (es.take j))::.gen (cV o S2 (L.drop (j+1)) (es.drop (j+1)))::ps)=qs)(k:∀S,Wn E n ops prs K os ss m0 fs (.gen (cV o S L es)::ps)):Wn E n ops prs K os ss m0 fs qs:=Wn.po (yM hl he hq) k
def aa.hY{S:Ux}{L:List α}{es:Uv}:aa m0 (.gen (cV o S L es)::ps) (.gen (bT r S L es)::ps):=fun _ hm=>hm.se
def Fk{S1 S2 S:Ux}{L:List α}{es:Uv}{j:Nat}{x y:α}{e:List Uy}{g:r.G}(hl:L[j]? = some x)(he:es[j]? = some e)(hf:Lf m0 ps r y g S):∀m,Hp m0 m (.gen (cV o S1 (L.take j) (es.take j))::.gen (cV o S2 (L.drop (j+1)) (es.drop (j+1)))::ps)->∃R,Hp m0 m (.gen (bT r R (L.set j y) (es.set j (r.V y g)))::ps):=fun m hm=>by
 have h1:=hm.se;have h2:Hp m0 m (.gen (cV o S2 (L.drop (j+1)) (es.drop (j+1)))::.gen (bT r S1 (L.take j) (es.take j))::ps):=h1.perm (List.Perm.swap _ _ _);have h3:=h2.se;have h0:Hp m0 m ps:=by
  have:=h3.ok;exact⟨h3.ext,fun p hp=>h3.ok p (SE _ (SE _ hp)),(Sr.1 (Sr.1 h3.apart).2).2⟩
 obtain⟨a1,a2⟩:=hf m h0;have h4:gU m0 (.gen (bT r S2 (L.drop (j+1)) (es.drop (j+1)))::.gen (bT r S1 (L.take j) (es.take j))::ps) r [y] [r.V y g] (fun b=>S b\/False):=fun m' hm'=>by
  have h5:Hp m0 m' ps:=⟨hm'.ext,fun p hp=>hm'.ok p (SE _ (SE _ hp)),(Sr.1 (Sr.1 hm'.apart).2).2⟩;obtain⟨b1,b2⟩:=hf m' h5;refine⟨.cons (r.mono b1 fun _ h=>.inl h) .nil,fun b hb=>?_⟩;obtain⟨q,hq,h⟩:=b2 b (hb.elim id False.elim);exact⟨q,SE _ (SE _ hq),h⟩
 have h6:=aa.dp h4 m h3;have h7:=aa.Cg (m0:=m0) (q:=0) (q2:=1) rfl rfl m h6;have h8:=aa.Cg (m0:=m0) (q:=2) (q2:=0) rfl rfl m h7;have h9:Hp m0 m (.gen (bT r (fun b=>S1 b\/((S b\/False)\/S2 b)) (L.take j++([y]++L.drop (j+1))) (es.take j++([r.V y g]++es.drop (j+1))))::ps):=⟨h8.ext,fun p hp=>h8.ok p (SE _ (SE _ hp)),(Sr.1 (Sr.1 h8.apart).2).2⟩;refine⟨fun b=>S1 b\/((S b\/False)\/S2 b),?_⟩;rw[gR y (Sl.1 hl).1,gR (r.V y g) (Sl.1 he).1];exact h9
def At.iD{ex:Vp}{S1 S2 S:Ux}{L:List α}{es:Uv}{j:Nat}{x y:α}{e:List Uy}{g:r.G}(hl:L[j]? = some x)(he:es[j]? = some e){e2:List Uy}(hf:Lf m0 ps r y g S)(hV:∀m,Hp m0 m ps->r.V y g=e2)(k:∀R,At Q ex m0 fs (.gen (bT r R (L.set j y) (es.set j e2))::ps)) :
  At Q ex m0 fs (.gen (cV o S1 (L.take j) (es.take j))::.gen (cV o S2 (L.drop (j+1)) (es.drop (j+1)))::ps):=At.po (fun m hm=>by
 obtain⟨R,hR⟩:=Fk hl he hf m hm;have h0:Hp m0 m ps:=⟨hR.ext,fun p hp=>hR.ok p (SE _ hp),(Sr.1 hR.apart).2⟩;rw[hV m h0] at hR;exact⟨R,hR⟩) k
def Hp.PK{f:β->List Uy}{w:Nat}{r2:Rep α}{o2:Orp r2}{S:Ux}{L:List (List β×α)}{es:Uv}{k q:Nat}{x:List β×α}(hm:Hp m0 m ps)(hq:pk ps q=some (.gen (cV (oP (oS f w) o2) S L es)))(hl:L[k]? = some x) :
  ∃a h,es[k]? = some (.slice a x.1.length x.1.length::h)/\Rd m a x.1.length w x.1.length (x.1.map f):=by
 obtain⟨⟨qs,h1,h2⟩,_⟩:=(hm.get hq).1;obtain⟨q1,q2,rfl,h3,h4⟩:=h1.split k;have hk:k<L.length:=(Sl.1 hl).1;have hke:k<es.length:=by rw[h1.len]; exact hk
 have hd:L.drop k=x::L.drop (k+1):=by
  rw[T2 hk];rw[R5 hk] at hl;rw[R9 hl]
 rw[hd,T2 hke] at h4;obtain⟨g,q3,e1,rfl,h5⟩:=h4;have hmem:(.sl g.1 w x.1.length (x.1.map f):Pc)∈q1++((oP (oS f w) o2).N x g++q3):=To _ (SQ _ (SQ _ (Sp.2 rfl)));refine⟨g.1,o2.V x.2 g.2,by rw[R5 hke,e1]; rfl,?_⟩
 exact Pc.DI (p:=.sl g.1 w x.1.length (x.1.map f)) (h2.1 _ hmem).1 (.sl ..)
def Wo.L7{k q w l:Nat}{a:Uw}{S:Ux}{L:List α}{es:Uv}(hp:pk ps k=some (.sl a w l es))(hq:pk ps q=some (.gen (cV o S L es)))(h:l=L.length->Wo dr E n ops K os m0 fs ps):Wo dr E n ops K os m0 fs ps:=by
 have key:∀m,Hp m0 m ps->l=L.length:=fun m hm=>(Pc.rW (hm.get hp)).trans (sI hm hq);cases dr with
 | false=>exact fun t m hf hm=>h (key m hm) t m hf hm
 | true=>exact fun t m w hf hm hw=>h (key m hm) t m w hf hm hw
def Wn.L7{k q w l:Nat}{a:Uw}{S:Ux}{L:List α}{es:Uv}(hp:pk ps k=some (.sl a w l es))(hq:pk ps q=some (.gen (cV o S L es)))(h:l=L.length->Wn E n ops prs K os ss m0 fs ps):Wn E n ops prs K os ss m0 fs ps :=
 fun t m ns hf hm hn=>h ((Pc.rW (hm.get hp)).trans (sI hm hq)) t m ns hf hm hn
def BV:∀p ∈([]:List Pc),p.bound=true/\∀b,p.any b->p.ow b:=fun p hp=>by cases hp
def w8{l:List Pc}{a:Uw}{w k:Nat}{es:Uv}(h:∀p∈l,p.bound=true/\∀b,p.any b->p.ow b):∀p ∈(Pc.sl a w k es::l),p.bound=true/\∀b,p.any b->p.ow b:=fun p hp=>by
 rcases Sx.1 hp with rfl|hp
 exact⟨rfl,fun b hb=>AL hb⟩
 exact h p hp
def EU{l:List Pc}{S:Ux}{L:List α}{es:Uv}(h:∀p∈l,p.bound=true/\∀b,p.any b->p.ow b):∀p ∈(Pc.gen (cV o S L es)::l),p.bound=true/\∀b,p.any b->p.ow b:=fun p hp=>by
 rcases Sx.1 hp with rfl|hp
 exact⟨rfl,fun b hb=>hb.elim (fun h=>by cases h) fun h=>h.elim (fun h=>.inr h) fun h=>h.elim⟩
 exact h p hp
def Hp.od{q:Nat}{S:Ux}{L:List α}{es:Uv}(hm:Hp m0 m ps)(hq:pk ps q=some (.gen (cV o S L es))):(bT r S L es).P m:=by
 obtain⟨⟨qs,h1,h2⟩,h3⟩:=(hm.get hq).1;exact⟨h1.E8 (fun p hp=>(h2.1 p hp).1) fun p hp b hb=>(h2.1 p hp).2.2.2 b ((h2.1 p hp).2.2.1 b hb),h3⟩
def Hp.rj{f:β->List Uy}{w:Nat}{r2:Rep α}{o2:Orp r2}{S1 S2:Ux}{L:List (List β×α)}{es:Uv}{j k q0 q1 q2:Nat}{z x:List β×α}{a0:Uw}{h0:List Uy}(hm:Hp m0 m ps)(hl:L[j]? = some z)(he:es[j]? = some (.slice a0 z.1.length z.1.length::h0))(hx:L[k]? = some x)
  (hq0:pk ps q0=some (.sl a0 w z.1.length (z.1.map f))) (hq1:pk ps q1=some (.gen (cV (oP (oS f w) o2) S1 (L.take j) (es.take j)))) (hq2:pk ps q2=some (.gen (cV (oP (oS f w) o2) S2 (L.drop (j+1)) (es.drop (j+1))))) :
  ∃a h,es[k]? = some (.slice a x.1.length x.1.length::h)/\Rd m a x.1.length w x.1.length (x.1.map f):=by
 rcases Nat.lt_trichotomy k j with h|h|h
 obtain⟨a,t,h1,h2⟩:=hm.PK (k:=k) (x:=x) hq1 (by rw[Tf,R7 h]; exact hx)
 rw[Tf,R7 h] at h1;exact⟨a,t,h1,h2⟩
 subst h;rw[hl] at hx; cases hx;exact⟨a0,h0,he,Pc.DI (hm.get hq0) (.sl ..)⟩
 obtain⟨a,t,h1,h2⟩:=hm.PK (k:=k-(j+1)) (x:=x) hq2 (by rw[Tg,show j+1+(k-(j+1))=k by omega]; exact hx)
 rw[Tg,show j+1+(k-(j+1))=k by omega] at h1
 exact⟨a,t,h1,h2⟩
def Wn.rj{f:β->List Uy}{w:Nat}{r2:Rep α}{o2:Orp r2}{S1 S2:Ux}{L:List (List β×α)}{es:Uv}{j k q0 q1 q2:Nat}{z x:List β×α}{a0:Uw}{h0:List Uy}(hl:L[j]? = some z)(he:es[j]? = some (.slice a0 z.1.length z.1.length::h0))(hx:L[k]? = some x)
  (hq0:pk ps q0=some (.sl a0 w z.1.length (z.1.map f))) (hq1:pk ps q1=some (.gen (cV (oP (oS f w) o2) S1 (L.take j) (es.take j)))) (hq2:pk ps q2=some (.gen (cV (oP (oS f w) o2) S2 (L.drop (j+1)) (es.drop (j+1)))))
  (kk:∀a h,es[k]? = some (.slice a x.1.length x.1.length::h)->(∀m,Hp m0 m ps->Rd m a x.1.length w x.1.length (x.1.map f))->Wn E n ops prs K os ss m0 fs ps):Wn E n ops prs K os ss m0 fs ps:=fun t m ns hf hm hn=>by
 obtain⟨a,h,h1,_⟩:=hm.rj hl he hx hq0 hq1 hq2;refine kk a h h1 (fun m' hm'=>?_) t m ns hf hm hn;obtain⟨a',h',h3,h4⟩:=hm'.rj hl he hx hq0 hq1 hq2;rw[h1] at h3;have e:=Tx (R9 h3);injection e with e;rw[e]; exact h4
def Lf.sr{f:β->List Uy}{a:Uw}{k cap w l:Nat}{xs:List β}(hp:pk ps k=some (.rd a cap w l (xs.map f))):Lf m0 ps (rS f w) xs (a,cap) (fun b=>j4 a=some b):=fun m hm=>by
 have e:=qc hm hp;subst e;exact Lf.s hp m hm
def Lf.lr{a:Uw}{k cap w q l:Nat}{R:Ux}{xs:List α}{es:Uv}(hp:pk ps k=some (.rd a cap w l es))(hq:pk ps q=some (.gen (bT r R xs es)))(hw:r.w=w):Lf m0 ps (rL r) xs (a,cap,es) (fun b=>j4 a=some b\/R b):=fun m hm=>by
 have e:l=xs.length:=(hm.get hp).1.symm.trans (mN hm hq);subst e;exact Lf.l hp hq hw m hm
end
end Go.Ab.W
namespace Go.Proofs.YtmndpgfbkicndaaGreat
section
open Go Go.Ab Go.Ab.W
set_option maxRecDepth 10000
set_option maxHeartbeats 4000000
attribute [local irreducible] Wo Wk At Wn Od Ox bo cb
attribute [local irreducible] Tm.at Trie.set Trie.get Vo.get Vo.set Vo.alloc Vo.ww Vo.kill
variable{p q:Option Prim}
def z26:bu (Vr p q).P 26=some (.agg #[.slice none 0 0,.slice none 0 0]):=by kernel_rfl
def Bl:BdT (Vr p q).P 26 (.agg #[.slice none 0 0,.slice none 0 0]) [(0,1),(1,1)]:=.mk' (by kernel_rfl) (by kernel_rfl)
def mC:BdT (Vr p q).P 31 (.agg #[.slice none 0 0,.slice none 0 0]) [(0,1),(1,1)]:=.mk' (by kernel_rfl) (by kernel_rfl)
abbrev hU:Orp ba:=(oS (eI .i64) 1)
abbrev cG:Orp ai:=(oP (oS (eI .i64) 1) (oL hU))
def Ho{n l7 l1 a7 c1 a8 c2}{r0:Ux}{e0:Uv}{r}(hF:N5 n l7 l1=some r)(m)(h2:dA m a7 c1 l7)(h3:fa m a8 c2 l1 e0)(h4:(bT ai r0 l1 e0).P m):
 aC (Vr p q) 97 [dZ a7 l7 c1 a8 l1 c2] m (fun v m'=>∃x:Uw×Nat×Uw×Nat×Uv ×(Nat->Prop),v=.agg #[.slice x.1 x.2.1 x.2.1,.slice x.2.2.1 x.2.2.2.1 x.2.2.2.1]/\Hp m m' [.sl x.1 2 x.2.1 (r.1.map (eP (eI .i64) (eI .i64))),.sl x.2.2.1 2 x.2.2.2.1 x.2.2.2.2.1,.gen (cV cG x.2.2.2.2.2 r.2 x.2.2.2.2.1)]):=by
 unfold N5 at hF;refine cw Tryz.func97 (U5 (UT (UT (UP m) bQ h2) (bO bQ) h3) (bO (bO bQ)) h4) ?_;refine wz ?_;refine wb fun b4=>?_;refine wa z26 fun b0=>?_;refine an ?_;refine UH (fp rfl rfl (gp _ _)) rfl ?_;obtain⟨h5,hF⟩:=aA hF;refine UX (zx (k:=4) (lo:=0) (hi:=mi (l7.length:Int) (125:Int)) ue rfl rfl rfl rfl h5 (.inl ⟨rfl,rfl⟩) (.inr ⟨_,rfl⟩)) gn rfl ?_;rintro⟨a11,c4⟩;obtain⟨l4,h6,hF⟩:=J hF;refine wc gn (fun m hm=>Jk n (Vi l7 125) a11 c4 _ h6 m (hm.q 0)) ?_;rintro⟨a0,n0⟩;refine U7 (k:=0) (xs:=l4) rfl ?_;rintro rfl;refine UH (cj rfl z26 rfl (cm Bl rfl rfl rfl)) rfl<|wa z26 fun b1=>?_;refine an ?_;refine UH (fp rfl rfl (gp _ _)) rfl ?_;obtain⟨h7,hF⟩:=aA hF;refine UX (Lc (r:=ai) (k:=6) (q:=5) (lo:=0) (hi:=mi (l1.length:Int) (66:Int)) jA rfl rfl rfl rfl rfl h7 (.inl ⟨rfl,rfl⟩) (.inr ⟨_,rfl⟩)) gn rfl ?_;rintro⟨a9,c0⟩;refine wz ?_;refine UK ?_;obtain⟨l8,h0,hF⟩:=J hF;refine ct (fun l8 ((a4,e4,r3):Uw×Uv ×(Nat->Prop))=>⟨(.exit 0),(ra b0 b1 []),[ja b0,sK b1 a0 l4 a4 l8,de a0 l4,lz a4 l8 e4,pJ cG r3 l8 e4]⟩) l8 ?_ ?_;refine lw h0 ((none,[],(fun _=>False)):Uw×Uv ×(Nat->Prop)) (fun(l2,v0) ((a1,e1,r1):Uw×Uv ×(Nat->Prop))=>⟨.normal,(ra b0 b1 [(24,.slice a9 ((Vi l1 66).length) c0),(25,.int .i64 ((Vi l1 66).length:Int)),(26,aL v0)]),[ja b0,sK b1 a0 l4 a1 l2,de a0 l4,lz a1 l2 e1,pJ cG r1 l2 e1,.rd a9 c0 2 ((Vi l1 66).length) ((e0.drop UE).take ((mi (l1.length:Int) (66:Int):Int).toNat-UE)),.gen (bT ai r0 (Vi l1 66) ((e0.drop UE).take ((mi (l1.length:Int) (66:Int):Int).toNat-UE)))]⟩) (UQ (Vd 2 rfl) (UQ (aa.CF (o:=cG)) (UN [7,4,5,1,0,2,3] rfl rfl))) ?_;clear hF h0;rintro⟨l2,v0⟩ ⟨a1,e1,r1⟩ r hF;unfold uW at hF;refine wz ?_;refine UJ ?_;rcases U hF with⟨h8,hF⟩|⟨h8,hF⟩;refine an ?_;obtain⟨h9,hF⟩:=bI hF;refine UY (k:=5) rfl (az h9) ?_;rintro b2 o1 rfl;refine wz ?_;obtain⟨⟨l11,l3⟩,h10,hF⟩:=J hF;refine wl 2 0 7 0 h10 ?_;rintro⟨⟨a16,c7⟩,⟨a17,c8,e6⟩⟩;refine wa z31 fun b5=>?_;refine an ?_;refine UH (fp rfl rfl (gp _ _)) rfl ?_;obtain⟨h11,hF⟩:=aA hF;refine UX (zx (k:=1) (lo:=0) (hi:=mi (l11.length:Int) (42:Int)) fu rfl rfl rfl rfl h11 (.inl ⟨rfl,rfl⟩) (.inr ⟨_,rfl⟩)) gn rfl ?_;rintro⟨a12,c5⟩;obtain⟨l5,h12,hF⟩:=J hF;refine wc gn (fun m hm=>pj n (Vi l11 42) a12 c5 _ h12 m (hm.q 0)) ?_;rintro⟨a2,n1⟩;refine U7 (k:=0) (xs:=l5) rfl ?_;rintro rfl;refine UH (cj rfl z31 rfl (cm mC rfl rfl rfl)) rfl<|wa z31 fun b3=>?_;refine an ?_;refine UH (fp rfl rfl (gp _ _)) rfl ?_;obtain⟨h13,hF⟩:=aA hF;refine UX (Lc (r:=ba) (k:=5) (q:=6) (lo:=0) (hi:=mi (l3.length:Int) (10:Int)) kn rfl rfl rfl rfl rfl h13 (.inl ⟨rfl,rfl⟩) (.inr ⟨_,rfl⟩)) gn rfl ?_;rintro⟨a10,c3⟩;refine wz ?_;refine UK ?_;obtain⟨l6,h1,hF⟩:=J hF;refine ct (fun l6 ((a3,e5,r4):Uw×Uv ×(Nat->Prop))=>⟨(.exit 2),(ra b0 b1 [(6,ptr b3 0),(24,.slice (some ⟨b2,o1,none⟩) ((Vi l1 66).length) c0),(25,.int .i64 ((Vi l1 66).length:Int)),(26,aL v0)]),[ja b0,sK b1 a0 l4 a1 l2,de a0 l4,lz a1 l2 e1,pJ cG r1 l2 e1,sK b3 a2 l5 a3 l6,wH a2 l5,.sl a3 1 l6.length e5,pJ hU r4 l6 e5,.ro b2 o1 2 ((Vi l1 66).length) ((e0.drop UE).take ((mi (l1.length:Int) (66:Int):Int).toNat-UE)),.gen (bT ai r0 (Vi l1 66) ((e0.drop UE).take ((mi (l1.length:Int) (66:Int):Int).toNat-UE))),.rd (some ⟨b2,o1,none⟩) c0 2 ((Vi l1 66).length) ((e0.drop UE).take ((mi (l1.length:Int) (66:Int):Int).toNat-UE))]⟩) l6 ?_ ?_;refine lw h1 ((none,[],(fun _=>False)):Uw×Uv ×(Nat->Prop)) (fun(l9,v1) ((a5,e3,r5):Uw×Uv ×(Nat->Prop))=>⟨.normal,(ra b0 b1 [(6,ptr b3 0),(24,.slice (some ⟨b2,o1,none⟩) ((Vi l1 66).length) c0),(25,.int .i64 ((Vi l1 66).length:Int)),(26,aL v0),(45,.slice a10 ((Vi l3 10).length) c3),(46,.int .i64 ((Vi l3 10).length:Int)),(47,aL v1)]),[ja b0,sK b1 a0 l4 a1 l2,de a0 l4,lz a1 l2 e1,pJ cG r1 l2 e1,sK b3 a2 l5 a5 l9,wH a2 l5,.sl a5 1 l9.length e3,pJ hU r5 l9 e3,.ro b2 o1 2 ((Vi l1 66).length) ((e0.drop UE).take ((mi (l1.length:Int) (66:Int):Int).toNat-UE)),.gen (bT ai r0 (Vi l1 66) ((e0.drop UE).take ((mi (l1.length:Int) (66:Int):Int).toNat-UE))),.rd (some ⟨b2,o1,none⟩) c0 2 ((Vi l1 66).length) ((e0.drop UE).take ((mi (l1.length:Int) (66:Int):Int).toNat-UE)),.rd a10 c3 1 ((Vi l3 10).length) ((e6.drop UE).take ((mi (l3.length:Int) (10:Int):Int).toNat-UE)),.gen (bT ba r0 (Vi l3 10) ((e6.drop UE).take ((mi (l3.length:Int) (10:Int):Int).toNat-UE)))]⟩) (UQ (Vd 1 rfl) (UQ (aa.CF (o:=hU)) (UN [12,13,14,15,16,4,5,1,0,11,18,17,2,3] rfl rfl))) ?_;clear hF h1;rintro⟨l9,v1⟩ ⟨a5,e3,r5⟩ r hF;unfold vC at hF;refine wz ?_;refine UJ ?_;rcases U hF with⟨h14,hF⟩|⟨h14,hF⟩;refine an ?_;obtain⟨h15,hF⟩:=bI hF;refine UY (k:=12) rfl (az h15) ?_;rintro b6 o2 rfl;refine wz ?_;obtain⟨l12,h16,hF⟩:=J hF;refine wl 1 0 14 0 h16 ?_;rintro⟨a18,c9⟩;refine wz ?_;refine U3 (prs:=[(1,7)]) (by kernel_rfl)<|UI (aM (r:=ptr b3 1) rfl (eC _ _)) rfl<|UI (aD (k:=7) jU rfl rfl rfl) rfl<|UI (aK rfl) rfl<|UI (aK rfl) rfl<|UI (il (k:=0) I8 rfl rfl (.inl rfl)) rfl<|UI (fp rfl rfl (gp _ _)) rfl ?_
 obtain⟨h17,hF⟩:=aA hF;refine Va (zx (k:=0) (lo:=0) (hi:=mi (l12.length:Int) (42:Int)) fu rfl rfl rfl rfl h17 (.inl ⟨rfl,rfl⟩) (.inr ⟨_,rfl⟩)) gn rfl ?_;rintro⟨a13,c6⟩;obtain⟨l10,h18,hF⟩:=J hF;refine nc gn (fun m hm=>pj n (Vi l12 42) a13 c6 _ h18 m (hm.q 0)) ?_;rintro⟨a6,n2⟩;refine Wn.len (k:=0) (xs:=l10) rfl ?_;rintro rfl;refine Va (cu (es:=[[bU a6 l10]]) kn rfl (cx kn z28 rfl rfl) rfl rfl) gn rfl fun b7=>?_;refine Vg (UN [1,0,2,3,4,5,6,7,8,9,10,11,12,13,14,15,16,17,18] rfl rfl)<|Wn.um (o:=hU) (x:=l10) (g:=a6) rfl ?_;intro r8;obtain⟨h19,hF⟩:=aA hF;refine Vg (UN [13,0,12,1,2,3,4,5,6,7,8,9,10,11,14,15,16,17,18] rfl rfl)<|Va (s7 (o:=hU) (L:=l9) (L':=([l10]:Uu)) kn ⟨_,Ez⟩ rfl (.arr _ _ _ _ _) rfl h19) gn rfl ?_;rintro⟨a14,r6⟩;refine UI (aM (r:=ptr b3 1) rfl (eC _ _)) rfl<|Vc (dK (k:=11) jU rfl rfl rfl rfl rfl)<|U0 (fun m hm=>cq.all rfl) ?_;refine an ?_;cases hF;exact ae (a14,(e3++([[bU a6 l10]]:Uv)),r6) [6,7,8,9,10,11,12,1,0,13,14,15,16,17];refine wz ?_;cases hF;exact ae (a5,e3,r5) (Vh 0 12);rintro⟨a3,e5,r4⟩;refine an ?_;refine UX (cu (es:=[[bU a2 l5,bU a3 l6]]) jA rfl (cx jA z31 rfl rfl) rfl rfl) gn rfl fun b8=>?_;refine UW (UN [7,8,9,0,1,2,3,4,5,6,10,11,12] rfl rfl)<|Wo.um (o:=cG) (x:=(l5,l6)) (g:=(a2,(a3,e5,r4))) rfl ?_;intro r9;obtain⟨h20,hF⟩:=aA hF;refine UW (UN [6,0,5,1,2,3,4,7,8,9,10] rfl rfl)<|UX (s7 (o:=cG) (L:=l2) (L':=([(l5,l6)]:Ur)) jA ⟨_,A4⟩ rfl (.arr _ _ _ _ _) rfl h20) gn rfl ?_;rintro⟨a15,r7⟩;refine an ?_;cases hF;exact ae (a15,(e1++([[bU a2 l5,bU a3 l6]]:Uv)),r7) [3,4,5,1,0,9,8];refine wz ?_;cases hF;exact ae (a1,e1,r1) (Vh 0 5);rintro⟨a4,e4,r3⟩;refine dM ?_;cases hF;exact U1 (.cell (k:=0) eS rfl rfl rfl .nil) fun m' hm=>⟨(a0,l4.length,a4,l8.length,e4,r3),rfl,(UN [2,3,4] rfl rfl) m' hm⟩
end
section
open Go Go.Ab Go.Ab.W
set_option maxRecDepth 10000
set_option maxHeartbeats 4000000
attribute [local irreducible] Tm.at Trie.set Trie.get Vo.get Vo.set Vo.alloc Vo.ww Vo.kill
variable{p q:Option Prim}
def GM(n:Nat){m0 m:Vo}{ps:List Pc}{k:Nat}{a:Uw}{l r:List Int}{i j:Int}(h:Hp m0 m ps)(hp:pk ps k=some (.sl a 1 l.length (l.map (eI .i64))))(hF:MA n l i j=some r) :
  aC (Vr p q) 101 [.slice a l.length l.length,.int .i64 i,.int .i64 j] m (fun v m'=>∃_:Unit,v=.slice a r.length l.length/\Hp m0 m' (bS ps k (.gen (nG a l.length 1 r.length (r.map (eI .i64)))))):=by
 obtain⟨hc,hF⟩:=aA hF;simp only[Sa,Sn] at hc;obtain⟨⟨⟨⟨c0,c1⟩,c2⟩,c3⟩,c4⟩:=hc;have hr:=R9 hF;subst hr;obtain⟨es,hes⟩:∃es,es=l.map (eI .i64):=⟨_,rfl⟩;have hel:es.length=l.length:=by rw[hes,Sz]
 have hwid:∀e∈es,e.length=1:=fun e he=>by rw[hes] at he; obtain⟨x,_,rfl⟩:=Ts.1 he; rfl
 have hone:dH es:=fun e he=>by rw[hes] at he; obtain⟨x,_,rfl⟩:=Ts.1 he; rfl
 rw[show(l.take i.toNat++l.drop j.toNat).map (eI .i64)=es.take i.toNat++es.drop j.toNat by rw[hes,List.map_append,List.map_take,List.map_drop]]
 rw[<-hes] at hp;rcases h.get hp with⟨h0,_⟩|⟨b,tg,rfl,g1,g2,g3,g4,g5,g6,g7⟩
 omega
 ·have hfl:es.flatten.length=l.length*1:=by rw[cO hwid,hel]
  have hwb:gF m 1 b l.length l.length=some (es.flatten,tg):=by
   unfold gF;rcases g6 with rfl|rfl<;>simp only[g3]
   rw[R7 ⟨trivial,hfl⟩]
   rw[R7 ⟨trivial,hfl,trivial⟩]
  have ft:∀(k:Nat) (l:Uv),(∀e∈l,e.length=1)->(l.take k).flatten=l.flatten.take k/\(l.drop k).flatten=l.flatten.drop k:=by
   intro k l
   induction l generalizing k with
   | nil=>intro _; simp
   | cons e l ih =>
    intro hl;cases k with
    | zero=>simp
    | succ k =>
     obtain⟨x1,x2⟩:=ih k fun e he=>hl e (SE _ he);have he:=hl e (SV ..);obtain⟨y,rfl⟩:∃y,e=[y]:=List.length_eq_one_iff.1 he;simp[x1,x2]
  have hlen:(l.take i.toNat++l.drop j.toNat).length=l.length-(j.toNat-i.toNat):=by simp; omega
  refine aC.cZ (p:=⟨jX (.int .i64 0)⟩) rfl (v:=.slice (some ⟨b,0,none⟩) (l.take i.toNat++l.drop j.toNat).length l.length) (m':=m.set b (.cells (es.flatten.take i.toNat++es.flatten.drop j.toNat++List.replicate (j.toNat-i.toNat) (.int .i64 0)) tg)) ?_ ⟨(),rfl,?_⟩
  show jX _ [.slice (some ⟨b,0,none⟩) l.length l.length,.int .i64 i,.int .i64 j] m=_
  simp only[jX,hwb];rw[R7 ⟨c1,c2,c3,c4,gY hone⟩,hlen]
  refine h.Df hp (fun b' hb=>.inl (.inl ⟨rfl,hb.elim (fun h=>by cases h.1) id⟩)) (fun b' hb=>.inl (.inl (hb.elim (fun h=>by cases h) fun h=>h.elim id fun h=>h.elim))) (by rw[Vo.next_set]; exact Sc _) (h.ext.set g1 _) ⟨⟨?_,?_,by decide,by rw[hlen]; omega,.inr ⟨b,List.replicate (j.toNat-i.toNat) (.int .i64 0),tg,rfl,by rw[Vo.next_set]; exact g2,?_,g6,?_⟩⟩,fun _ b' hb=>by cases hb; exact g1⟩ fun b' hb hlt=>?_
  rw[hlen]; simp; omega
  intro e he;rcases Su.1 he with he|he
  exact hwid e (TG he)
  exact hwid e (TH he)
  rw[Vo.bC,R7 rfl,Tv,(ft _ es hwid).1,(ft _ es hwid).2]
  have e1:=(ft i.toNat es hwid).1;have e2:=(ft j.toNat es hwid).2;rw[Tv,e1,e2];simp[hfl]; omega
  rw[Vo.bC,R6 fun e=>hb (.inl ⟨rfl,by rw[e]; rfl⟩)]
def HN(l:List Int):((l.map (eI .i64)).flatten).all aU=true:=by
 induction l with
 | nil=>rfl
 | cons x l ih=>rw[Tt,SY,List.all_append,ih]; rfl
def rl(l:List Int):(l.map (eI .i64)).flatten=l.map (fun x=>Value.int .i64 x):=by
 induction l with
 | nil=>rfl
 | cons x l ih=>rw[Tt,SY,ih]; rfl
def used{m0 m:Vo}{ps:List Pc}(h:Hp m0 m ps){k b n n3:Nat}{es es3:Uv}(hp:pk ps k=some (.sl (some ⟨b,0,none⟩) 1 n es))(hn:es3.length=n3)(hw:∀e∈es3,e.length=1) :
  Hp m0 ((m.kill b).alloc (.cells es3.flatten (.more 1))) (bS ps k (.sl (some ⟨m.next,0,none⟩) 1 n3 es3)):=by
 have hb:m0.next<=b:=by
  rcases h.get hp with⟨_,_,h3,_⟩|⟨b',tg,h1,h2⟩
  cases h3
  cases h1; exact h2.1
 have hk:Ext m0 (m.kill b):=⟨by rw[Vo.next_kill]; exact h.ext.next,fun x hx=>by rw[Vo.dX,UF]; exact h.ext.same x hx,by
  rw[Vo.wl_kill];have:=h.ext.wl; omega⟩
 refine h.renew hp (by rw[Vo.next_alloc,Vo.next_kill]; omega) (hk.alloc _) (.inr ⟨m.next,.more 1,rfl,h.ext.next,by rw[Vo.next_alloc,Vo.next_kill]; omega,by rw[Vo.aZ,Vo.next_kill,R7 rfl],hn,hw,.inr rfl,by decide⟩) (fun b' hb'=>?_) rfl fun b' hb' hlt=>?_
 cases hb'; exact Sc _
 rw[Vo.aZ,Vo.next_kill,UF,Vo.dX,R6 (fun e=>hb' (by rw[e]; rfl))]
def KB{m0 m:Vo}{ps:List Pc}(h:Hp m0 m ps){k n n3:Nat}{es es3:Uv}(hp:pk ps k=some (.sl none 1 n es))(hn:es3.length=n3)(hw:∀e∈es3,e.length=1) :
  Hp m0 (m.alloc (.cells es3.flatten (.more 1))) (bS ps k (.sl (some ⟨m.next,0,none⟩) 1 n3 es3)):=by
 refine h.renew hp (by rw[Vo.next_alloc]; omega) (h.ext.alloc _) (.inr ⟨m.next,.more 1,rfl,h.ext.next,by rw[Vo.next_alloc]; omega,by rw[Vo.aZ,R7 rfl],hn,hw,.inr rfl,by decide⟩) (fun b' hb'=>?_) rfl fun b' _ hlt=>?_
 cases hb'; exact Sc _
 rw[Vo.aZ,UF]
def Hy(n:Nat){m0 m:Vo}{ps:List Pc}(h:Hp m0 m ps){k k2 b2:Nat}{a:Uw}{i:Int}{l r:List Int}{x:Int}(hp:pk ps k=some (.sl a 1 l.length (l.map (eI .i64))))(hp2:pk ps k2=some (.arr b2 1 1 ([x].map (eI .i64)) .own))(hk:Nat.beq k2 k=false)(hF:MB n l i [x]=some r) :
  aC (Vr p q) 102 [.slice a l.length l.length,.int .i64 i,.slice (some ⟨b2,0,none⟩) 1 1] m (fun v m'=>∃y:Uw×Nat,v=.slice y.1 y.2 y.2/\Hp m0 m' (bS ps k (.sl y.1 1 y.2 (r.map (eI .i64))))):=by
 obtain⟨hc,hF⟩:=aA hF;simp only[Sa,Sn] at hc;obtain⟨⟨c1,c2⟩,c4⟩:=hc;have hr:=R9 hF;subst hr;obtain⟨i,rfl⟩:=TY c1;have hi:i<=l.length:=by omega
 simp only[Sv];have hv:m.get b2=some (.cells [.int .i64 x] .own):=(h.get hp2).2.2.1;have hw1:∀l:List Int,∀e∈l.map (eI .i64),e.length=1:=fun l e he=>by obtain⟨y,_,rfl⟩:=Ts.1 he; rfl
 have e3:(l.take i++([x]++l.drop i)).length=l.length+1:=by simp; omega
 rcases h.get hp with⟨h0,h1,rfl,_⟩|⟨b,tg,rfl,g1,g2,g3,g4,g5,g6,g7⟩
 have hl:l=[]:=T1.1 h1;subst hl;obtain rfl:i=0:=by simpa using hi
 refine aC.cZ (p:=⟨kW⟩) rfl (v:=.slice (some ⟨m.next,0,none⟩) 1 1) (m':=m.alloc (.cells [.int .i64 x] (.more 1))) ?_ ⟨(some ⟨m.next,0,none⟩,1),rfl,KB (es3:=[x].map (eI .i64)) h hp rfl (hw1 _)⟩
 show kW [.slice none 0 0,.int .i64 0,.slice (some ⟨b2,0,none⟩) 1 1] m=_
 simp only[kW,hv]
 have hne:b2≠b:=fun e=>(fx h.apart hp2 hp (Ug hk)).1 b2 (.inl ⟨rfl,rfl⟩) (.inl (by rw[e]; rfl))
 have hwb:gF m 1 b l.length l.length=some ((l.map (eI .i64)).flatten,tg):=by
  unfold gF;rcases g6 with rfl|rfl<;>simp only[g3]
  rw[R7 ⟨trivial,by rw[rl]; simp⟩]
  rw[R7 ⟨trivial,by rw[rl]; simp,trivial⟩]
 refine aC.cZ (p:=⟨kW⟩) rfl (v:=.slice (some ⟨m.next,0,none⟩) (l.length+1) (l.length+1)) (m':=(m.kill b).alloc (.cells ((l.take i++([x]++l.drop i)).map (eI .i64)).flatten (.more 1))) ?_ ⟨(some ⟨m.next,0,none⟩,l.length+1),rfl,used h hp (by simpa using e3) (hw1 _)⟩
 show kW [.slice (some ⟨b,0,none⟩) l.length l.length,.int .i64 (i:Int),.slice (some ⟨b2,0,none⟩) 1 1] m=_
 simp only[kW,hv,hwb];rw[R7 ⟨hne,by omega,by omega,c4,HN l⟩]
 simp only[Sv];rw[rl,rl];simp only[List.map_append,List.map_take,List.map_drop]
 rfl
def Hl{α:Type}{r:Rep α}{o:Orp r}{m0:Vo}{ps:List Pc}{S:Ux}{L:List α}{es:Uv}{i j:Nat}(hij:i<=j):∀m,Hp m0 m (.gen (cV o S L es)::ps)->∃S',Hp m0 m (.gen (cV o S' (L.take i++L.drop j) (es.take i++es.drop j))::ps):=fun m hm=>by
 obtain⟨qs,h1,h2⟩:=hm.vT;obtain⟨q1,q2,rfl,h3,h4⟩:=h1.split i;obtain⟨q3,q4,rfl,h5,h6⟩:=h4.split (j-i);rw[T9,T9,show i+(j-i)=j by omega] at h6
 have h7:Hp m0 m ((q1++q4)++ps):=by
  refine⟨h2.ext,fun p hp=>h2.ok p ?_,h2.apart.sublist ?_⟩
  rcases Su.1 hp with hp|hp
  rcases Su.1 hp with hp|hp
  exact SQ _ (SQ _ hp)
  exact SQ _ (To _ (To _ hp))
  exact To _ hp
  exact List.Sublist.append (List.Sublist.append (List.Sublist.refl _) (List.sublist_append_right _ _)) (List.Sublist.refl _)
 exact⟨_,h7.rM (h3.append h6)⟩
def Jg(n:Nat){m0 m:Vo}{rest:List Pc}{a:Uw}{l r:Ur}{S:Ux}{es:Uv}{i j:Int}(h:Hp m0 m (.sl a 2 l.length es::.gen (cV cG S l es)::rest))(hF:QT n l i j=some r) :
  aC (Vr p q) 98 [.slice a l.length l.length,.int .i64 i,.int .i64 j] m (fun v m'=>∃S':Nat->Prop,v=.slice a r.length l.length/\Hp m0 m' (.gen (cV cG S' r (es.take i.toNat++es.drop j.toNat))::.gen (nG a l.length 2 r.length (es.take i.toNat++es.drop j.toNat))::rest)):=by
 obtain⟨hc,hF⟩:=aA hF;simp only[Sa,Sn] at hc;obtain⟨⟨⟨⟨c0,c1⟩,c2⟩,c3⟩,c4⟩:=hc;have hr:=R9 hF;subst hr;obtain⟨i,rfl⟩:=TY c1;obtain⟨j,rfl⟩:=TY (show 0<=j by omega)
 simp only[Sv];have hij:i<j:=by omega
 have hjn:j<=l.length:=by omega
 have hel:es.length=l.length:=sI h (q:=1) rfl;obtain⟨⟨qs,hOd,_⟩,_⟩:=(h.get (k:=1) rfl).1;have hwid:∀e∈es,e.length=2:=fun e he=>(hOd.cells e he).1;have hone:dH es:=fun e he=>(hOd.cells e he).2;rcases h.get (k:=0) rfl with⟨h0,_⟩|⟨b,tg,rfl,g1,g2,g3,g4,g5,g6,g7⟩
 omega
 ·have ft:∀(k:Nat) (l:Uv),(∀e∈l,e.length=2)->(l.take k).flatten=l.flatten.take (k*2)/\(l.drop k).flatten=l.flatten.drop (k*2):=by
   intro k l
   induction l generalizing k with
   | nil=>intro _; simp
   | cons e l ih =>
    intro hl;cases k with
    | zero=>simp
    | succ k =>
     obtain⟨x1,x2⟩:=ih k fun e he=>hl e (SE _ he);have he:=hl e (SV ..);obtain⟨y,z,rfl⟩:∃y z,e=[y,z]:=by
      match e,he with
      | [y,z],_=>exact⟨y,z,rfl⟩
     rw[TW];simp[x1,x2]
  have hfl:es.flatten.length=l.length*2:=by rw[cO hwid,hel]
  have hlen:(l.take i++l.drop j).length=l.length-(j-i):=by simp; omega
  have hobj:Hp m0 m (.obj b (.cells es.flatten tg)::.gen (cV cG S l es)::rest):=h.put (k:=0) rfl rfl rfl rfl (Sc _) h.ext ⟨g1,g2,g3⟩ fun _ _ _=>rfl;refine(GO (p:=p) (q:=q) g6 hobj hfl (gY hone) hij hjn c4).mono fun v m' ⟨hv,cs',hm',hl',ht'⟩=>?_;have hcs:cs'=(es.take i++es.drop j).flatten++cs'.drop ((l.length-(j-i))*2):=by
   have e1:(es.flatten.drop (j*2)).take ((l.length-j)*2)=es.flatten.drop (j*2):=TB (by rw[SR]; omega)
   rw[Tv,(ft i es hwid).1,(ft j es hwid).2];rw[e1] at ht';rw[<-ht',List.take_append_drop]
  have hst:Hp m0 m' (.gen (nG (some ⟨b,0,none⟩) l.length 2 (l.take i++l.drop j).length (es.take i++es.drop j))::.gen (cV cG S l es)::rest):=by
   have h0:=hm'.get (k:=0) rfl;refine hm'.Df (k:=0) rfl (fun b' hb=>.inl (.inl ⟨rfl,hb.elim (fun h=>by cases h.1) id⟩)) (fun b' hb=>.inl (.inl (hb.elim (fun h=>by cases h) fun h=>h.elim id fun h=>h.elim))) (Sc _) hm'.ext ⟨⟨?_,?_,by decide,by rw[hlen]; omega,.inr ⟨b,cs'.drop ((l.length-(j-i))*2),tg,rfl,h0.2.1,?_,g6,?_⟩⟩,fun _ b' hb=>by cases hb; exact h0.1⟩ fun b' hb hlt=>rfl
   rw[hlen]; simp; omega
   intro e he;rcases Su.1 he with he|he
   exact hwid e (TG he)
   exact hwid e (TH he)
   rw[<-hcs]; exact h0.2.2
   rw[<-hcs,hl',hfl]
  obtain⟨S',hS⟩:=Hl (o:=cG) (Nat.le_of_lt hij) m' (hst.perm (List.Perm.swap _ _ _));exact⟨S',by rw[hv,hlen],hS⟩
end
end Go.Proofs.YtmndpgfbkicndaaGreat
