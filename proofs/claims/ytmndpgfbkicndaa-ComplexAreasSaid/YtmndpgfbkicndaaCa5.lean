/- A part of the proof. -/
import Derived.Test.YtmndpgfbkicndaaCa4
import Derived.HandedShaped
set_option linter.all false
namespace Go.Proofs.Ytmndpgfbkicndaa
section
open Go Go.Ab Go.Ab.W
set_option maxRecDepth 10000
set_option maxHeartbeats 4000000
attribute [local irreducible] Wo Wk At Wn Od Ox bh bT
attribute [local irreducible] Tm.at Trie.set Trie.get Vn.get Vn.set Vn.alloc Vn.ww Vn.kill
variable{p q:VA Prim}
def Mj{n l2 l1 a0 c1 a1 c0}{r0:Uy}{e0:Uw}{r}(hF:Ps n l2 l1=some r)(m)(h27:kq m a0 c1 l2)(h28:nY m a1 c0 l1 e0)(h29:(cp aj r0 l1 e0).P m):
 aK (Vq p q) 69 [lO a0 l2 c1 a1 l1 c0] m (Vm m (.tuple #[.int .i64 r.1,.int .i64 r.2])):=by
 unfold Ps at hF;refine cw Try.func69 (Hp.nV (U2 (U2 (UU m) eo h27) (fg eo) h28) (fg (fg eo)) h29) ?_;refine wz ?_;refine wb fun b0=>?_;refine wa z3 fun b1=>?_;refine wa z3 fun b2=>?_;refine au ?_;refine UX Fi gn rfl fun b4=>?_;refine wa z131 fun b10=>?_;refine au ?_;obtain⟨l19,h30,hF⟩:=J hF;refine wq (fun l19 (b23:Nat)=>(.func (.func 73) #[] #[ptr b23 0],(fR b23 a0 l2 c1 a1 l1 c0 e0 aj r0 [EE b0 a0 l2 c1 a1 l1 c0,fS b1,fS b2,eu b10 b4,.obj b4 (.map (l19.map (eM (fun p:Int×Int=>.agg #[.int .i64 p.1,.int .i64 p.2]) (fun b:Bool=>.bool b))))]))) l19 (fun m hm=>?_) ?_;clear hF;revert l19;intro r hF;refine aS (N:=4) (rs:=[.tmp 2]) rfl Try.func50 rfl rfl rfl hm ?_;refine wz ?_;refine wb fun b32=>?_;refine au ?_;refine UI (j9 rfl rfl) rfl ?_;refine au ?_;cases hF;exact ar b32 [0,8,7,6,5,4,3,1,2];rintro b23;refine wz ?_;refine UN ?_;obtain⟨r10,h31,hF⟩:=J hF;refine Wk.range (N:=50) (rs:=[]) (γ:=VC) (X:=fun g=>(fun(r:(Int×VB ((Int×Int)×Bool)) ⊕(VB ((Int×Int)×Bool))) (g:VC)=>(match r,g with|.inl (v16,l26),_=>⟨.done,(some .ret),(fR b0 a0 l2 c1 a1 l1 c0 e0 aj r0 [FV b1,eJ b2 v16,eu b10 b4,.obj b4 (.map (l26.map (eM (fun p:Int×Int=>.agg #[.int .i64 p.1,.int .i64 p.2]) (fun b:Bool=>.bool b))))])⟩|.inr l27,_=>⟨.ready,none,(fR b0 a0 l2 c1 a1 l1 c0 e0 aj r0 [fS b1,fS b2,eu b10 b4,.obj b4 (.map (l27.map (eM (fun p:Int×Int=>.agg #[.int .i64 p.1,.int .i64 p.2]) (fun b:Bool=>.bool b))))])⟩:Rn)) r10 g) rfl rfl Try.func73 rfl rfl rfl ?_ (fun y=>by rcases r10 with _|_<;>(intro e; cases e)) ?_
 clear hF;revert r10;intro r hF;intro t1 l6 r5 h32 h33;refine wz ?_;refine UN ?_;obtain⟨r20,h1,hF⟩:=J hF;refine ct (fun(r:(Int×VB ((Int×Int)×Bool)) ⊕(VB ((Int×Int)×Bool))) (g:VC)=>match r,g with|.inl (v17,l28),_=>⟨.ret,[],(.obj l6 (r5 .done (some .ret))::fR b0 a0 l2 c1 a1 l1 c0 e0 aj r0 [FV b1,eJ b2 v17,eu b10 b4,.obj b4 (.map (l28.map (eM (fun p:Int×Int=>.agg #[.int .i64 p.1,.int .i64 p.2]) (fun b:Bool=>.bool b))))])⟩|.inr l29,_=>⟨(.exit 0),[],(.obj l6 (r5 .ready none)::fR b0 a0 l2 c1 a1 l1 c0 e0 aj r0 [fS b1,fS b2,eu b10 b4,.obj b4 (.map (l29.map (eM (fun p:Int×Int=>.agg #[.int .i64 p.1,.int .i64 p.2]) (fun b:Bool=>.bool b))))])⟩) r20 ?_ ?_
 refine lo h1 () [0,3,4,5,2,6,7,8,9] (fun(v4,l30) _=>⟨.normal,((0,.func (.yield l6) #[] #[])::zH a1 l1 c0 v4 []),[.obj l6 (r5 .ready none),CK a1 c0 l1 e0,fT aj r0 l1 e0,EE b0 a0 l2 c1 a1 l1 c0,rR a0 c1 l2,fS b1,fS b2,eu b10 b4,.obj b4 (.map (l30.map (eM (fun p:Int×Int=>.agg #[.int .i64 p.1,.int .i64 p.2]) (fun b:Bool=>.bool b))))]⟩) ?_;clear hF h1;rintro⟨v4,l30⟩ ⟨⟩ r hF;unfold qY at hF;refine wz ?_;refine UJ ?_;rcases U hF with⟨h34,hF⟩|⟨h34,hF⟩;refine au ?_;obtain⟨h35,hF⟩:=cW hF;refine U0 (k:=1) rfl (aU h35) ?_;rintro b9 o4 rfl;refine wz ?_;obtain⟨⟨l44,l45⟩,h36,hF⟩:=J hF;refine wl 2 0 3 0 h36 ?_;rintro⟨⟨a28,c14⟩,⟨a29,c15,e8⟩⟩;refine wa z54 fun b40=>?_;refine au ?_;obtain⟨l11,h37,hF⟩:=J hF;refine Fx gn (fun m hm=>j7 h37 m hm.dW (hm.q 1) (hm.no 1) (hm.q 2) (hm.no 2) (hm.dp (q:=3) rfl) (hm.gQ (q:=3) rfl)) ?_;rintro⟨a20,c7,n0,e6,r9⟩;refine Wo.jH (k:=0) (q:=1) (L:=l11) rfl (.inr (.inl ⟨_,rfl⟩)) rfl ?_;rintro rfl;refine wz ?_;refine UN ?_;obtain⟨r21,h2,hF⟩:=J hF;refine ct (fun(r:(VB ((Int×Int)×Bool)) ⊕(VB ((Int×Int)×Bool))) (g:VC)=>match r,g with|.inl l31,_=>⟨.ret,[],(.obj l6 (r5 .done (some .ret))::gC b0 a0 l2 c1 b9 o4 l1 c0 e0 aj r0 [FV b1,eJ b2 v4,eu b10 b4,.obj b4 (.map (l31.map (eM (fun p:Int×Int=>.agg #[.int .i64 p.1,.int .i64 p.2]) (fun b:Bool=>.bool b))))])⟩|.inr l32,_=>⟨(.exit 2),((0,.func (.yield l6) #[] #[])::sO b9 o4 l1 c0 v4 []),(.obj l6 (r5 .ready none)::rV b9 o4 l1 e0 aj r0 c0 (rF b0 a0 l2 c1 b9 o4 l1 c0 b1 b2 [eu b10 b4,.obj b4 (.map (l32.map (eM (fun p:Int×Int=>.agg #[.int .i64 p.1,.int .i64 p.2]) (fun b:Bool=>.bool b))))]))⟩) r21 ?_ ?_
 refine lo h2 () [7,6,9,8,0,1,10,11,12,13,14,15] (fun(v7,l33) _=>⟨.normal,((0,.func (.yield l6) #[] #[])::(3,bg v4)::sO b9 o4 l1 c0 v4 [(18,bI a20 l11 c7),(19,dC l11),(20,bg v7)]),(.obj l6 (r5 .ready none)::rV b9 o4 l1 e0 aj r0 c0 (ju a20 c7 l11 e6::fT bl r9 l11 e6::rF b0 a0 l2 c1 b9 o4 l1 c0 b1 b2 [eu b10 b4,.obj b4 (.map (l33.map (eM (fun p:Int×Int=>.agg #[.int .i64 p.1,.int .i64 p.2]) (fun b:Bool=>.bool b))))]))⟩) ?_;clear hF h2;rintro⟨v7,l33⟩ ⟨⟩ r hF;unfold qR at hF;refine wz ?_;refine UJ ?_;rcases U hF with⟨h38,hF⟩|⟨h38,hF⟩;refine au ?_;obtain⟨h39,hF⟩:=cW hF;refine U0 (k:=4) rfl (aU h39) ?_;rintro b19 o10 rfl;refine wz ?_;obtain⟨l16,h40,hF⟩:=J hF;refine wl 1 0 6 0 h40 ?_;rintro⟨a10,c9⟩;refine au ?_;refine UN ?_;obtain⟨r22,h3,hF⟩:=J hF;refine ct (fun(r:(VB ((Int×Int)×Bool)) ⊕(VB ((Int×Int)×Bool))) (g:VC)=>match r,g with|.inl l34,_=>⟨.ret,[],(.obj l6 (r5 .done (some .ret))::gC b0 a0 l2 c1 b9 o4 l1 c0 e0 aj r0 [FV b1,eJ b2 v4,eu b10 b4,.obj b4 (.map (l34.map (eM (fun p:Int×Int=>.agg #[.int .i64 p.1,.int .i64 p.2]) (fun b:Bool=>.bool b))))])⟩|.inr l35,_=>⟨(.exit 4),((0,.func (.yield l6) #[] #[])::(3,bg v4)::sO b9 o4 l1 c0 v4 (uJ b19 o10 l11 c7 v7 [])),(.obj l6 (r5 .ready none)::rV b9 o4 l1 e0 aj r0 c0 (ki b19 o10 l11 e6 bl r9 c7 (rF b0 a0 l2 c1 b9 o4 l1 c0 b1 b2 [eu b10 b4,.obj b4 (.map (l35.map (eM (fun p:Int×Int=>.agg #[.int .i64 p.1,.int .i64 p.2]) (fun b:Bool=>.bool b))))])))⟩) r22 ?_ ?_
 refine lo h3 () [2,0,3,4,5,1,7,6,8,9,10,11,12,13] (fun(v18,l17) _=>⟨.normal,((0,.func (.yield l6) #[] #[])::(3,bg v4)::(5,bg v7)::(6,bI a10 l16 c9)::sO b9 o4 l1 c0 v4 (uJ b19 o10 l11 c7 v7 [(25,bI a10 l16 c9),(26,dC l16),(27,bg v18)])),(.obj l6 (r5 .ready none)::oc a10 c9 l16::rV b9 o4 l1 e0 aj r0 c0 (ki b19 o10 l11 e6 bl r9 c7 (rF b0 a0 l2 c1 b9 o4 l1 c0 b1 b2 [eu b10 b4,.obj b4 (.map (l17.map (eM (fun p:Int×Int=>.agg #[.int .i64 p.1,.int .i64 p.2]) (fun b:Bool=>.bool b))))])))⟩) ?_;clear hF h3;rintro⟨v18,l17⟩ ⟨⟩ r hF;unfold q9 at hF;refine wz ?_;refine UJ ?_;rcases U hF with⟨h41,hF⟩|⟨h41,hF⟩;refine au ?_;obtain⟨h42,hF⟩:=cW hF;refine U0 (k:=1) rfl (aU h42) ?_;rintro b24 o12 rfl;refine wz ?_;obtain⟨x12,h108,hF⟩:=J hF;refine au ?_;obtain⟨h43,hF⟩:=az hF;refine UI (aJ rfl rfl (cf _ _ h43)) rfl ?_;obtain⟨h109,hF⟩:=cW hF;refine wz ?_;obtain⟨x13,h110,hF⟩:=J hF;refine wz ?_;refine UI (cH rfl rD rfl (cJ zo rfl rfl rfl)) rfl ?_;obtain⟨r11,h15,hF⟩:=J hF;refine UX (xO (k:=1) (k1:=0) (γA:=Nat) (GA:=(fun g:Nat=>(match g with|b22=>⟨.normal,(iO b1 b2 [(4,ptr b10 0),(5,ptr b22 0)]),(.obj l6 (r5 .ready none)::fS b1::fS b2::eu b10 b4::.obj b4 (.map (l17.map (eM (fun p:Int×Int=>.agg #[.int .i64 p.1,.int .i64 p.2]) (fun b:Bool=>.bool b))))::fq b22 x12 x13 v4 v7::gC b0 a0 l2 c1 b9 o4 l1 c0 e0 aj r0 (po b24 o12 l16 c9 (ki b19 o10 l11 e6 bl r9 c7 [])))⟩:En))) (γ:=VC) (G:=fun g=>(fun(r:VC⊕VC) (g:VC)=>(match r,g with|.inl _,_=>⟨.ret,[],(.obj l6 (r5 .busy none)::gC b0 a0 l2 c1 b9 o4 l1 c0 e0 aj r0 (FV b1::eJ b2 v4::eu b10 b4::.obj b4 (.map (l17.map (eM (fun p:Int×Int=>.agg #[.int .i64 p.1,.int .i64 p.2]) (fun b:Bool=>.bool b))))::po b24 o12 l16 c9 (ki b19 o10 l11 e6 bl r9 c7 [])))⟩|.inr _,_=>⟨.normal,[],(.obj l6 (r5 .busy none)::gC b0 a0 l2 c1 b9 o4 l1 c0 e0 aj r0 (fS b1::fS b2::eu b10 b4::.obj b4 (.map ((iW l17 (x12,x13) true).map (eM (fun p:Int×Int=>.agg #[.int .i64 p.1,.int .i64 p.2]) (fun b:Bool=>.bool b))))::po b24 o12 l16 c9 (ki b19 o10 l11 e6 bl r9 c7 [])))⟩:En)) r11 g) rfl rfl rfl h33 h32 rfl ?_ (fun _=>rfl) (fun _=>rfl) ?_ (fun y=>by rcases r11 with _|_<;>rfl)) gn rfl ?_
 clear hF h15;refine UK<|wa rD fun b33=>?_;refine wz ?_;exact ae b33 [2,12,13,14,15,0,10,11,4,5,6,1,3,7,8,9];clear hF;revert r11;intro r hF;rintro b22;refine wz ?_;refine UI (cH rfl Kq rfl (cJ Gw rfl rfl rfl)) rfl ?_;obtain⟨y0,h44,hF⟩:=J hF;refine UI (Lb (q:=4) (xs:=l17) (k:=(x12,x13)) (vE:=(fun b:Bool=>.bool b)) (z0:=false) OI (JD Kf bZ.known bZ.size bZ.agg u3) z4 rfl rfl rfl rfl h44) rfl ?_;refine wz ?_;rcases U hF with⟨h16,hF⟩|⟨h16,hF⟩;refine U3 rfl h16<|UJ<|U6 (prs:=[(1,2)]) (by kernel_rfl)<|UL (aG (r:=ptr b22 2) rfl (nz _ _)) rfl<|Vc rfl (aI (k:=5) bZ rfl rfl rfl) rfl<|Wn.G7 rfl (eg (k:=1) bZ rfl rfl rfl rfl rfl)<|Wn.o0 (eg (k:=2) bZ rfl rfl rfl rfl rfl)<|U1 (fun m hm=>(dq.rw rfl rfl rfl (hm.ne (i:=5) (j:=1) rfl rfl rfl rfl (by decide) rfl) dq.nil)) ?_
 refine au ?_;cases hF;exact ae () [0,6,7,8,9,10,1,2,3,4,11,12,13,14,15];refine au ?_;refine UI (cH rfl Kq rfl (cJ Gw rfl rfl rfl)) rfl<|U4 (D0 (q:=4) (xs:=l17) (k:=(x12,x13)) (v:=true) (vE:=(fun b:Bool=>.bool b)) OI (JD Kf bZ.known bZ.size bZ.agg u3) rfl rfl rfl rfl) ?_;refine wz ?_;cases hF;exact ae () [0,6,7,8,9,10,1,2,3,4,11,12,13,14,15];rcases r11 with _|_;rintro⟨⟩;refine au ?_;cases hF;exact ae () (Vg 0 10);rintro⟨⟩;refine gB ?_;cases hF;exact ae () [0,11,3,4,5,12,13,14,1,2,6,7,8,9];refine wz ?_;cases hF;exact ae () (0::Vg 2 12);rcases r22 with l34|l35;rintro⟨⟩;refine wz ?_;cases hF;exact ae () (Vg 0 10);rintro⟨⟩;refine au ?_;cases hF;exact ae () (0::1::2::3::6::5::Vg 7 6);refine wz ?_;cases hF;exact ae () (0::1::2::3::Vg 6 6);rcases r21 with l31|l32;rintro⟨⟩;refine wz ?_;cases hF;exact ae () [0,1,2,5,4,6,7,8,9];rintro⟨⟩;refine au ?_;cases hF;exact ae () (0::3::2::Vg 4 6);refine wz ?_;cases hF;exact ae () [0,3,4,1,2,5,6,7,8];rcases r20 with⟨v17,l28⟩|l29;rintro⟨⟩;refine At.br ?_;cases hF;exact UY .nil fun m' hm=>⟨(),(UO (Vg 0 9) rfl rfl) m' hm⟩;rintro⟨⟩;refine Vf ?_;cases hF;exact At.fin .nil fun m' hm=>⟨(),(UO (Vg 0 9) rfl rfl) m' hm⟩;rcases r10 with⟨v16,l26⟩|l27;rintro⟨⟩
 change Wk _ _ _ _ .ret _ _ _ _
 refine wz ?_;cases hF;exact UY (.cell (k:=4) bZ rfl rfl rfl (.cell (k:=5) bZ rfl rfl rfl .nil)) fun m' hm=>⟨(),rfl,(UO [] rfl rfl) m' hm⟩;rintro⟨⟩
 change At _ .normal _ _ _
 refine au ?_;refine wa Q7 fun b7=>?_;refine au ?_;obtain⟨r23,h45,hF⟩:=J hF;refine wq (fun _ (b25:Nat)=>(.func (.func 73) #[] #[ptr b25 0],(fR b25 a0 l2 c1 a1 l1 c0 e0 aj r0 [EE b0 a0 l2 c1 a1 l1 c0,fS b1,fS b2,.obj b7 (.cells [.slice none 0 0] .own)]))) r23 (fun m hm=>?_) ?_;clear hF;revert r23;intro r hF;refine aS (N:=4) (rs:=[.tmp 2]) rfl Try.func50 rfl rfl rfl hm ?_;refine wz ?_;refine wb fun b34=>?_;refine au ?_;refine UI (j9 rfl rfl) rfl ?_;refine au ?_;cases hF;exact ar b34 [0,3,4,5,2,6,7,1];rintro b25;refine wz ?_;refine UN ?_;obtain⟨r12,h46,hF⟩:=J hF;refine Wk.range (N:=50) (rs:=[]) (γ:=Ux) (X:=fun g=>(fun(r:(Int×VB (Ut)) ⊕(VB (Ut))) (g:Ux)=>(match r,g with|.inl (v19,l21),a11=>⟨.done,(some .ret),(fR b0 a0 l2 c1 a1 l1 c0 e0 aj r0 [GP b1,eJ b2 v19,Ca b7 a11 l21,j8 a11 l21])⟩|.inr l36,a21=>⟨.ready,none,(fR b0 a0 l2 c1 a1 l1 c0 e0 aj r0 (rB b1 b2 b7 a21 l36 []))⟩:Rn)) r12 g) rfl rfl Try.func73 rfl rfl rfl ?_ (fun y=>by rcases r12 with _|_<;>(intro e; cases e)) ?_
 clear hF;revert r12;intro r hF;intro t2 l3 r1 h47 h48;refine wz ?_;refine UN ?_;obtain⟨r24,h4,hF⟩:=J hF;refine ct (fun(r:(Int×VB (Ut)) ⊕(VB (Ut))) (g:Ux)=>match r,g with|.inl (v20,l22),a4=>⟨.ret,[],(.obj l3 (r1 .done (some .ret))::fR b0 a0 l2 c1 a1 l1 c0 e0 aj r0 [GP b1,eJ b2 v20,Ca b7 a4 l22,j8 a4 l22])⟩|.inr l37,a12=>⟨(.exit 0),[],(.obj l3 (r1 .ready none)::fR b0 a0 l2 c1 a1 l1 c0 e0 aj r0 (rB b1 b2 b7 a12 l37 []))⟩) r24 ?_ ?_
 refine lw h4 none (fun(v0,l38) a5=>⟨.normal,((0,.func (.yield l3) #[] #[])::zH a1 l1 c0 v0 []),(.obj l3 (r1 .ready none)::CK a1 c0 l1 e0::fT aj r0 l1 e0::EE b0 a0 l2 c1 a1 l1 c0::rR a0 c1 l2::rB b1 b2 b7 a5 l38 [])⟩) (UT (aa.nil 4 rfl) (UO [1,4,5,6,3,7,8,9,0] rfl rfl)) ?_;clear hF h4;rintro⟨v0,l38⟩ a5 r hF;unfold rq at hF;refine wz ?_;refine UJ ?_;rcases U hF with⟨h49,hF⟩|⟨h49,hF⟩;refine au ?_;obtain⟨h50,hF⟩:=cW hF;refine U0 (k:=1) rfl (aU h50) ?_;rintro b6 o2 rfl;refine wz ?_;obtain⟨⟨l46,l47⟩,h51,hF⟩:=J hF;refine wl 2 0 3 0 h51 ?_;rintro⟨⟨a30,c16⟩,⟨a31,c17,e9⟩⟩;refine wa z54 fun b41=>?_;refine au ?_;obtain⟨l7,h52,hF⟩:=J hF;refine Fx gn (fun m hm=>j7 h52 m hm.dW (hm.q 1) (hm.no 1) (hm.q 2) (hm.no 2) (hm.dp (q:=3) rfl) (hm.gQ (q:=3) rfl)) ?_;rintro⟨a22,c2,n1,e1,r6⟩;refine Wo.jH (k:=0) (q:=1) (L:=l7) rfl (.inr (.inl ⟨_,rfl⟩)) rfl ?_;rintro rfl;refine wz ?_;refine UN ?_;obtain⟨r25,h5,hF⟩:=J hF;refine ct (fun(r:(VB (Ut)) ⊕(VB (Ut))) (g:Ux)=>match r,g with|.inl l23,a6=>⟨.ret,[],(.obj l3 (r1 .done (some .ret))::gC b0 a0 l2 c1 b6 o2 l1 c0 e0 aj r0 [GP b1,eJ b2 v0,Ca b7 a6 l23,j8 a6 l23])⟩|.inr l39,a13=>⟨(.exit 2),((0,.func (.yield l3) #[] #[])::sO b6 o2 l1 c0 v0 []),(.obj l3 (r1 .ready none)::rV b6 o2 l1 e0 aj r0 c0 (Oe b0 a0 l2 c1 b6 o2 l1 c0::rR a0 c1 l2::rB b1 b2 b7 a13 l39 []))⟩) r25 ?_ ?_
 refine lo h5 a5 [7,6,9,8,0,1,10,11,12,13,14,15] (fun(v5,l40) a7=>⟨.normal,((0,.func (.yield l3) #[] #[])::(3,bg v0)::sO b6 o2 l1 c0 v0 [(18,bI a22 l7 c2),(19,dC l7),(20,bg v5)]),(.obj l3 (r1 .ready none)::rV b6 o2 l1 e0 aj r0 c0 (ju a22 c2 l7 e1::fT bl r6 l7 e1::Oe b0 a0 l2 c1 b6 o2 l1 c0::rR a0 c1 l2::rB b1 b2 b7 a7 l40 []))⟩) ?_;clear hF h5;rintro⟨v5,l40⟩ a7 r hF;unfold q8 at hF;refine wz ?_;refine UJ ?_;rcases U hF with⟨h53,hF⟩|⟨h53,hF⟩;refine au ?_;obtain⟨h54,hF⟩:=cW hF;refine U0 (k:=4) rfl (aU h54) ?_;rintro b11 o5 rfl;refine wz ?_;obtain⟨l12,h55,hF⟩:=J hF;refine wl 1 0 6 0 h55 ?_;rintro⟨a14,c4⟩;refine au ?_;refine UN ?_;obtain⟨r26,h6,hF⟩:=J hF;refine ct (fun(r:(VB (Ut)) ⊕(VB (Ut))) (g:Ux)=>match r,g with|.inl l24,a8=>⟨.ret,[],(.obj l3 (r1 .done (some .ret))::gC b0 a0 l2 c1 b6 o2 l1 c0 e0 aj r0 [GP b1,eJ b2 v0,Ca b7 a8 l24,j8 a8 l24])⟩|.inr l41,a15=>⟨(.exit 4),((0,.func (.yield l3) #[] #[])::(3,bg v0)::sO b6 o2 l1 c0 v0 (uJ b11 o5 l7 c2 v5 [])),(.obj l3 (r1 .ready none)::rV b6 o2 l1 e0 aj r0 c0 (ki b11 o5 l7 e1 bl r6 c2 (Oe b0 a0 l2 c1 b6 o2 l1 c0::rR a0 c1 l2::rB b1 b2 b7 a15 l41 [])))⟩) r26 ?_ ?_
 refine lo h6 a7 [2,0,3,4,5,1,7,6,8,9,10,11,12,13] (fun(v21,l9) a2=>⟨.normal,((0,.func (.yield l3) #[] #[])::(3,bg v0)::(5,bg v5)::(6,bI a14 l12 c4)::sO b6 o2 l1 c0 v0 (uJ b11 o5 l7 c2 v5 [(25,bI a14 l12 c4),(26,dC l12),(27,bg v21)])),(.obj l3 (r1 .ready none)::oc a14 c4 l12::rV b6 o2 l1 e0 aj r0 c0 (ki b11 o5 l7 e1 bl r6 c2 (Oe b0 a0 l2 c1 b6 o2 l1 c0::rR a0 c1 l2::rB b1 b2 b7 a2 l9 [])))⟩) ?_;clear hF h6;rintro⟨v21,l9⟩ a2 r hF;unfold qV at hF;refine wz ?_;refine UJ ?_;rcases U hF with⟨h56,hF⟩|⟨h56,hF⟩;refine au ?_;obtain⟨h57,hF⟩:=cW hF;refine U0 (k:=1) rfl (aU h57) ?_;rintro b16 o8 rfl;refine wz ?_;obtain⟨x3,h111,hF⟩:=J hF;refine au ?_;obtain⟨h58,hF⟩:=az hF;refine UI (aJ rfl rfl (cf _ _ h58)) rfl ?_;obtain⟨h112,hF⟩:=cW hF;refine wz ?_;obtain⟨x4,h113,hF⟩:=J hF;refine wz ?_;refine UI (cH rfl rD rfl (cJ zo rfl rfl rfl)) rfl ?_;obtain⟨r13,h17,hF⟩:=J hF;refine UX (xO (k:=1) (k1:=0) (γA:=Nat) (GA:=(fun g:Nat=>(match g with|b14=>⟨.normal,((1,ptr b0 0)::iO b1 b2 [(6,ptr b7 0),(7,ptr b14 0)]),(.obj l3 (r1 .ready none)::gC b0 a0 l2 c1 b6 o2 l1 c0 e0 aj r0 (rB b1 b2 b7 a2 l9 (fq b14 x3 x4 v0 v5::po b16 o8 l12 c4 (ki b11 o5 l7 e1 bl r6 c2 []))))⟩:En))) (γ:=Ux) (G:=fun g=>(fun(r:VC ⊕(VB (Ut))) (g:Ux)=>(match r,g with|.inl _,_=>⟨.ret,[],(.obj l3 (r1 .busy none)::gC b0 a0 l2 c1 b6 o2 l1 c0 e0 aj r0 (GP b1::eJ b2 v0::Ca b7 a2 l9::j8 a2 l9::po b16 o8 l12 c4 (ki b11 o5 l7 e1 bl r6 c2 [])))⟩|.inr l42,a16=>⟨.normal,[],(.obj l3 (r1 .busy none)::gC b0 a0 l2 c1 b6 o2 l1 c0 e0 aj r0 (rB b1 b2 b7 a16 l42 (po b16 o8 l12 c4 (ki b11 o5 l7 e1 bl r6 c2 []))))⟩:En)) r13 g) rfl rfl rfl h48 h47 rfl ?_ (fun _=>rfl) (fun _=>rfl) ?_ (fun y=>by rcases r13 with _|_<;>rfl)) gn rfl ?_
 clear hF h17;refine UK<|wa rD fun b35=>?_;refine wz ?_;exact ae b35 [2,10,11,4,5,6,12,13,14,15,0,1,3,7,8,9];clear hF;revert r13;intro r hF;rintro b14;refine wz ?_;refine UI (j9 rfl rfl) rfl ?_;obtain⟨v8,h59,hF⟩:=J hF;refine wq (fun v8 (_:VC)=>(.int .i64 v8,(.obj l3 (r1 .busy none)::gC b0 a0 l2 c1 b6 o2 l1 c0 e0 aj r0 (rB b1 b2 b7 a2 l9 (po b16 o8 l12 c4 (ki b11 o5 l7 e1 bl r6 c2 [fq b14 x3 x4 v0 v5])))))) v8 (fun m hm=>?_) ?_;clear hF;revert v8;intro r hF;refine aS (N:=19) (rs:=[.tmp 4]) rfl Try.func81 rfl rfl rfl hm ?_;refine au ?_;refine UN ?_;obtain⟨r27,h7,hF⟩:=J hF;refine ct (fun(r:Int⊕VC) (g:VC)=>match r,g with|.inl v22,_=>⟨.ret,[(4,bg v22)],(.obj l3 (r1 .busy none)::gC b0 a0 l2 c1 b6 o2 l1 c0 e0 aj r0 (rB b1 b2 b7 a2 l9 (po b16 o8 l12 c4 (ki b11 o5 l7 e1 bl r6 c2 [fq b14 x3 x4 v0 v5]))))⟩|.inr _,_=>⟨(.exit 0),[],(.obj l3 (r1 .busy none)::gC b0 a0 l2 c1 b6 o2 l1 c0 e0 aj r0 (rB b1 b2 b7 a2 l9 (po b16 o8 l12 c4 (ki b11 o5 l7 e1 bl r6 c2 [fq b14 x3 x4 v0 v5]))))⟩) r27 ?_ ?_
 refine lo h7 () [0,1,2,3,4,5,10,9,6,7,8,11,12,13,14,15] (fun v23 _=>⟨.normal,[(1,.func (.func 82) #[] #[ptr b0 0,ptr b14 0]),(7,bQ a2 l9),(8,dC l9),(9,bg v23)],(.obj l3 (r1 .busy none)::gC b0 a0 l2 c1 b6 o2 l1 c0 e0 aj r0 (fq b14 x3 x4 v0 v5::j8 a2 l9::fS b1::fS b2::Ca b7 a2 l9::po b16 o8 l12 c4 (ki b11 o5 l7 e1 bl r6 c2 [])))⟩) ?_;clear hF h7;rintro v23 ⟨⟩ r hF;unfold sP at hF;refine wz ?_;refine UJ ?_;rcases U hF with⟨h60,hF⟩|⟨h60,hF⟩;refine au ?_;obtain⟨h61,hF⟩:=cW hF;refine Vd (k:=7) rfl (aU h61) ?_;rintro b28 t0 rfl h114;refine wz ?_;obtain⟨⟨x16,x17,x18,x19⟩,h115,hF⟩:=J hF;refine wz ?_;refine wa rD fun b42=>?_;refine au ?_;obtain⟨v9,h62,hF⟩:=J hF;refine wq (fun v9 (_:VC)=>(.bool v9,(.obj l3 (r1 .busy none)::gC b0 a0 l2 c1 b6 o2 l1 c0 e0 aj r0 (fS b1::fS b2::.obj b7 (.cells [tN b28 l9] .own)::s6 b28 l9 t0::po b16 o8 l12 c4 (ki b11 o5 l7 e1 bl r6 c2 [fq b14 x3 x4 v0 v5]))))) v9 (fun m hm=>?_) ?_;clear hF;revert v9;intro r hF;refine aS (N:=9) (rs:=[.tmp 4]) rfl Try.func82 rfl rfl rfl hm ?_;refine wz ?_;refine wb fun b43=>?_;refine au ?_;obtain⟨r37,h63,hF⟩:=J hF;refine wc gn (fun m hm=>Ni h63 m (hm.q 4) (hm.q 7) (hm.dp (q:=6) rfl)) ?_;rintro⟨⟩;refine au ?_;obtain rfl:=Sb hF;exact ar () [2,3,4,5,6,7,10,11,12,9,13,14,15,16,17,8];rintro⟨⟩;refine wz ?_;rcases U hF with⟨h64,hF⟩|⟨h64,hF⟩;refine au ?_;cases hF;exact aT () (UT (UP (k:=9) rfl) (UO (Vg 0 16) rfl rfl));refine au ?_;cases hF;exact aT () (UT (UP (k:=9) rfl) (UO [0,1,2,3,4,5,15,9,6,7,8,10,11,12,13,14] rfl rfl));refine wz ?_;cases hF;exact ae () [0,1,2,3,4,5,8,9,10,7,11,12,13,14,15,6];rcases r27 with v22|_;rintro⟨⟩;refine wz ?_;obtain rfl:=Sb hF;exact ar () (Vg 0 16);rintro⟨⟩;refine gB ?_;cases hF;exact ar () (Vg 0 16);rintro⟨⟩;refine wz ?_;rcases U hF with⟨h18,hF⟩|⟨h18,hF⟩;refine U3 rfl h18<|UJ<|U6 (prs:=[(1,2)]) (by kernel_rfl)<|UL (aG (r:=ptr b14 2) rfl (nz _ _)) rfl<|Vc rfl (aI (k:=15) bZ rfl rfl rfl) rfl<|Wn.G7 rfl (eg (k:=6) bZ rfl rfl rfl rfl rfl)<|Wn.o0 (eg (k:=7) bZ rfl rfl rfl rfl rfl)<|U1 (fun m hm=>(dq.rw rfl rfl rfl (hm.ne (i:=15) (j:=6) rfl rfl rfl rfl (by decide) rfl) dq.nil)) ?_
 refine au ?_;cases hF;exact ae none (Vg 0 15);refine au ?_;refine UX (cm (es:=([(x3,x4,v0,v5)]:VB (Ut)).map (eP (eI .i64) (eP (eI .i64) (eP (eI .i64) (eI .i64))))) Jq rfl (cn Jq rD rfl rfl) rfl rfl) gn rfl fun b44=>?_;obtain⟨h65,hF⟩:=az hF;refine UX (uy (k:=10) (k2:=0) (xs:=(l9:VB (Ut))) (ys:=([(x3,x4,v0,v5)]:VB (Ut))) (EC (tF .i64) (EC (tF .i64) (EC (tF .i64) (tF .i64)))) Jq ⟨_,O5⟩ rfl rfl rfl (.arr _ _ _ _ _) h65) gn rfl fun a27=>?_;refine wz ?_;cases hF;exact ae a27 (Vg 1 15);rcases r13 with _|l42;rintro g0;refine au ?_;cases hF;exact ae a2 (Vg 0 10);rintro a16;refine gB ?_;cases hF;exact ae a16 [0,11,3,4,5,12,13,14,1,2,6,7,8,9];refine wz ?_;cases hF;exact ae a2 (0::Vg 2 12);rcases r26 with l24|l41;rintro a8;refine wz ?_;cases hF;exact ae a8 (Vg 0 10);rintro a15;refine au ?_;cases hF;exact ae a15 (0::1::2::3::6::5::Vg 7 6);refine wz ?_;cases hF;exact ae a7 (0::1::2::3::Vg 6 6);rcases r25 with l23|l39;rintro a6;refine wz ?_;cases hF;exact ae a6 [0,1,2,5,4,6,7,8,9];rintro a13;refine au ?_;cases hF;exact ae a13 (0::3::2::Vg 4 6);refine wz ?_;cases hF;exact ae a5 [0,3,4,1,2,5,6,7,8];rcases r24 with⟨v20,l22⟩|l37;rintro a4;refine At.br ?_;cases hF;exact UY .nil fun m' hm=>⟨a4,(UO (Vg 0 9) rfl rfl) m' hm⟩;rintro a12;refine Vf ?_;cases hF;exact At.fin .nil fun m' hm=>⟨a12,(UO (Vg 0 9) rfl rfl) m' hm⟩;rcases r12 with⟨v19,l21⟩|l36;rintro a11
 change Wk _ _ _ _ .ret _ _ _ _
 refine wz ?_;cases hF;exact UY (.cell (k:=4) bZ rfl rfl rfl (.cell (k:=5) bZ rfl rfl rfl .nil)) fun m' hm=>⟨(),rfl,(UO [] rfl rfl) m' hm⟩;rintro a21
 change At _ .normal _ _ _
 refine au ?_;refine UI (j9 rfl rfl) rfl<|wa Re fun b3=>?_;refine au ?_;obtain⟨r28,h66,hF⟩:=J hF;refine wq (fun _ (b26:Nat)=>(.func (.func 73) #[] #[ptr b26 0],(fR b26 a0 l2 c1 a1 l1 c0 e0 aj r0 [EE b0 a0 l2 c1 a1 l1 c0,fS b1,fS b2,.obj b3 (.cells [.func (.func 84) #[] #[ptr b0 0]] .own)]))) r28 (fun m hm=>?_) ?_;clear hF;revert r28;intro r hF;refine aS (N:=4) (rs:=[.tmp 2]) rfl Try.func50 rfl rfl rfl hm ?_;refine wz ?_;refine wb fun b36=>?_;refine au ?_;refine UI (j9 rfl rfl) rfl ?_;refine au ?_;cases hF;exact ar b36 [0,3,4,5,2,6,7,1];rintro b26;refine wz ?_;refine UN ?_;obtain⟨r14,h67,hF⟩:=J hF;refine Wk.range (N:=50) (rs:=[]) (γ:=VC) (X:=fun g=>(fun(r:Int⊕VC) (g:VC)=>(match r,g with|.inl v24,_=>⟨.done,(some .ret),(fR b0 a0 l2 c1 a1 l1 c0 e0 aj r0 [Hy b1,eJ b2 v24,.obj b3 (.cells [.func (.func 84) #[] #[ptr b0 0]] .own)])⟩|.inr _,_=>⟨.ready,none,(fR b0 a0 l2 c1 a1 l1 c0 e0 aj r0 [fS b1,fS b2,.obj b3 (.cells [.func (.func 84) #[] #[ptr b0 0]] .own)])⟩:Rn)) r14 g) rfl rfl Try.func73 rfl rfl rfl ?_ (fun y=>by rcases r14 with _|_<;>(intro e; cases e)) ?_
 clear hF;revert r14;intro r hF;intro t3 l5 r4 h68 h69;refine wz ?_;refine UN ?_;obtain⟨r29,h8,hF⟩:=J hF;refine ct (fun(r:Int⊕VC) (g:VC)=>match r,g with|.inl v25,_=>⟨.ret,[],(.obj l5 (r4 .done (some .ret))::fR b0 a0 l2 c1 a1 l1 c0 e0 aj r0 [Hy b1,eJ b2 v25,.obj b3 (.cells [.func (.func 84) #[] #[ptr b0 0]] .own)])⟩|.inr _,_=>⟨(.exit 0),[],(.obj l5 (r4 .ready none)::fR b0 a0 l2 c1 a1 l1 c0 e0 aj r0 [fS b1,fS b2,.obj b3 (.cells [.func (.func 84) #[] #[ptr b0 0]] .own)])⟩) r29 ?_ ?_
 refine lo h8 () [0,3,4,5,2,6,7,8] (fun v3 _=>⟨.normal,((0,.func (.yield l5) #[] #[])::zH a1 l1 c0 v3 []),[.obj l5 (r4 .ready none),CK a1 c0 l1 e0,fT aj r0 l1 e0,EE b0 a0 l2 c1 a1 l1 c0,rR a0 c1 l2,fS b1,fS b2,.obj b3 (.cells [.func (.func 84) #[] #[ptr b0 0]] .own)]⟩) ?_;clear hF h8;rintro v3 ⟨⟩ r hF;unfold mc at hF;refine wz ?_;refine UJ ?_;rcases U hF with⟨h70,hF⟩|⟨h70,hF⟩;refine au ?_;obtain⟨h71,hF⟩:=cW hF;refine U0 (k:=1) rfl (aU h71) ?_;rintro b8 o3 rfl;refine wz ?_;obtain⟨⟨l20,l14⟩,h19,hF⟩:=J hF;refine wl 2 0 3 0 h19 ?_;rintro⟨⟨a32,c18⟩,⟨a33,c19,e10⟩⟩;refine wa z54 fun b45=>?_;refine au ?_;obtain⟨l10,h72,hF⟩:=J hF;refine Fx gn (fun m hm=>j7 h72 m hm.dW (hm.q 1) (hm.no 1) (hm.q 2) (hm.no 2) (hm.dp (q:=3) rfl) (hm.gQ (q:=3) rfl)) ?_;rintro⟨a23,c5,n2,e5,r8⟩;refine Wo.jH (k:=0) (q:=1) (L:=l10) rfl (.inr (.inl ⟨_,rfl⟩)) rfl ?_;rintro rfl;refine wz ?_;refine UN ?_;obtain⟨r30,h9,hF⟩:=J hF;refine ct (fun(r:VC⊕VC) (g:VC)=>match r,g with|.inl _,_=>⟨.ret,[],(.obj l5 (r4 .done (some .ret))::gC b0 a0 l2 c1 b8 o3 l1 c0 e0 aj r0 [Hy b1,eJ b2 v3,.obj b3 (.cells [.func (.func 84) #[] #[ptr b0 0]] .own)])⟩|.inr _,_=>⟨(.exit 2),((0,.func (.yield l5) #[] #[])::sO b8 o3 l1 c0 v3 []),(.obj l5 (r4 .ready none)::rV b8 o3 l1 e0 aj r0 c0 (rF b0 a0 l2 c1 b8 o3 l1 c0 b1 b2 [.obj b3 (.cells [.func (.func 84) #[] #[ptr b0 0]] .own)]))⟩) r30 ?_ ?_
 refine lo h9 () [7,6,9,8,0,1,10,11,12,13,14] (fun v2 _=>⟨.normal,((0,.func (.yield l5) #[] #[])::(3,bg v3)::sO b8 o3 l1 c0 v3 [(18,bI a23 l10 c5),(19,dC l10),(20,bg v2)]),(.obj l5 (r4 .ready none)::rV b8 o3 l1 e0 aj r0 c0 (ju a23 c5 l10 e5::fT bl r8 l10 e5::rF b0 a0 l2 c1 b8 o3 l1 c0 b1 b2 [.obj b3 (.cells [.func (.func 84) #[] #[ptr b0 0]] .own)]))⟩) ?_;clear hF h9;rintro v2 ⟨⟩ r hF;unfold qS at hF;refine wz ?_;refine UJ ?_;rcases U hF with⟨h73,hF⟩|⟨h73,hF⟩;refine au ?_;obtain⟨h74,hF⟩:=cW hF;refine U0 (k:=4) rfl (aU h74) ?_;rintro b15 o7 rfl;refine wz ?_;obtain⟨l15,h75,hF⟩:=J hF;refine wl 1 0 6 0 h75 ?_;rintro⟨a17,c8⟩;refine au ?_;refine UN ?_;obtain⟨r31,h10,hF⟩:=J hF;refine ct (fun(r:VC⊕VC) (g:VC)=>match r,g with|.inl _,_=>⟨.ret,[],(.obj l5 (r4 .done (some .ret))::gC b0 a0 l2 c1 b8 o3 l1 c0 e0 aj r0 [Hy b1,eJ b2 v3,.obj b3 (.cells [.func (.func 84) #[] #[ptr b0 0]] .own)])⟩|.inr _,_=>⟨(.exit 4),((0,.func (.yield l5) #[] #[])::(3,bg v3)::sO b8 o3 l1 c0 v3 (uJ b15 o7 l10 c5 v2 [])),(.obj l5 (r4 .ready none)::rV b8 o3 l1 e0 aj r0 c0 (ki b15 o7 l10 e5 bl r8 c5 (rF b0 a0 l2 c1 b8 o3 l1 c0 b1 b2 [.obj b3 (.cells [.func (.func 84) #[] #[ptr b0 0]] .own)])))⟩) r31 ?_ ?_
 refine lo h10 () [2,0,3,4,5,1,7,6,8,9,10,11,12] (fun v26 _=>⟨.normal,((0,.func (.yield l5) #[] #[])::(3,bg v3)::(5,bg v2)::(6,bI a17 l15 c8)::sO b8 o3 l1 c0 v3 (uJ b15 o7 l10 c5 v2 [(25,bI a17 l15 c8),(26,dC l15),(27,bg v26)])),(.obj l5 (r4 .ready none)::oc a17 c8 l15::rV b8 o3 l1 e0 aj r0 c0 (ki b15 o7 l10 e5 bl r8 c5 (rF b0 a0 l2 c1 b8 o3 l1 c0 b1 b2 [.obj b3 (.cells [.func (.func 84) #[] #[ptr b0 0]] .own)])))⟩) ?_;clear hF h10;rintro v26 ⟨⟩ r hF;unfold qO at hF;refine wz ?_;refine UJ ?_;rcases U hF with⟨h76,hF⟩|⟨h76,hF⟩;refine au ?_;obtain⟨h77,hF⟩:=cW hF;refine U0 (k:=1) rfl (aU h77) ?_;rintro b20 o11 rfl;refine wz ?_;obtain⟨x14,h116,hF⟩:=J hF;refine au ?_;obtain⟨h78,hF⟩:=az hF;refine UI (aJ rfl rfl (cf _ _ h78)) rfl ?_;obtain⟨h117,hF⟩:=cW hF;refine wz ?_;obtain⟨x15,h118,hF⟩:=J hF;refine wz ?_;refine UI (cH rfl rD rfl (cJ zo rfl rfl rfl)) rfl ?_;obtain⟨r15,h20,hF⟩:=J hF;refine UX (xO (k:=1) (k1:=0) (γA:=Nat) (GA:=(fun g:Nat=>(match g with|b17=>⟨.normal,((1,ptr b0 0)::iO b1 b2 [(8,ptr b3 0),(9,ptr b17 0)]),(.obj l5 (r4 .ready none)::gC b0 a0 l2 c1 b8 o3 l1 c0 e0 aj r0 (fS b1::fS b2::.obj b3 (.cells [.func (.func 84) #[] #[ptr b0 0]] .own)::fq b17 x14 x15 v3 v2::po b20 o11 l15 c8 (ki b15 o7 l10 e5 bl r8 c5 [])))⟩:En))) (γ:=VC) (G:=fun g=>(fun(r:VC⊕VC) (g:VC)=>(match r,g with|.inl _,_=>⟨.normal,[],(.obj l5 (r4 .busy none)::gC b0 a0 l2 c1 b8 o3 l1 c0 e0 aj r0 (fS b1::fS b2::.obj b3 (.cells [.func (.func 84) #[] #[ptr b0 0]] .own)::po b20 o11 l15 c8 (ki b15 o7 l10 e5 bl r8 c5 [])))⟩|.inr _,_=>⟨.ret,[],(.obj l5 (r4 .busy none)::gC b0 a0 l2 c1 b8 o3 l1 c0 e0 aj r0 (Hy b1::eJ b2 v3::.obj b3 (.cells [.func (.func 84) #[] #[ptr b0 0]] .own)::po b20 o11 l15 c8 (ki b15 o7 l10 e5 bl r8 c5 [])))⟩:En)) r15 g) rfl rfl rfl h69 h68 rfl ?_ (fun _=>rfl) (fun _=>rfl) ?_ (fun y=>by rcases r15 with _|_<;>rfl)) gn rfl ?_
 clear hF h20;refine UK<|wa rD fun b37=>?_;refine wz ?_;exact ae b37 [2,10,11,4,5,6,12,13,14,0,1,3,7,8,9];clear hF;revert r15;intro r hF;rintro b17;refine wz ?_;rcases U hF with⟨h79,hF⟩|⟨h79,hF⟩;refine wz ?_;cases hF;exact ae () [0,1,2,3,4,5,6,7,8,10,11,12,13,14];refine au ?_;obtain⟨h119,hF⟩:=cW hF;refine wz ?_;refine wl 2 0 4 3 h19 ?_;rintro⟨⟨a9,c10⟩,⟨a18,c11,e4⟩⟩;refine wa z54 fun b21=>?_;refine wz ?_;refine UJ<|U6 (prs:=[(2,4),(2,7)]) (by kernel_rfl)<|UL (aG (r:=ptr b21 1) rfl (fe _ _)) rfl<|UL (aI (k:=0) mB rfl rfl rfl) rfl ?_
 obtain⟨_,h80,hF⟩:=J hF;refine Wn.c (Pz (N:=fun x:Ux×Nat=>[.sl x.1 1 x.2 e4]) rfl rfl (fun m hm=>Mo n l14 e4 a18 c11 _ h80 m (hm.q 2) (hm.dp (q:=3) rfl)) fun _=>rfl) gn rfl ?_;rintro⟨a3,n4⟩;refine Wn.jH (k:=0) (q:=4) (L:=l14) rfl (.inl rfl) rfl ?_;rintro rfl;refine UL (aG (r:=ptr b17 3) rfl (xx _ _)) rfl<|UL (aI (k:=14) bZ rfl rfl rfl) rfl<|UL (aJ rfl rfl (cK _ _ _)) rfl<|UL (aG (r:=ptr b17 3) rfl (xx _ _)) rfl<|UL (aI (k:=14) bZ rfl rfl rfl) rfl ?_;obtain⟨l18,h21,hF⟩:=J hF;refine Wn.x (mC (α:=VC) (V:=fun _=>.slice a3 l18.length l14.length) (N:=(fun _:VC=>bL (.sl a3 1 l14.length e4::EE b21 a9 l20 c10 a18 l14 c11::oc a9 c10 l20::ju a18 c11 l14 e4::fT bl r0 l14 e4::.obj l5 (r4 .busy none)::gC b0 a0 l2 c1 b8 o3 l1 c0 e0 aj r0 (fS b1::fS b2::.obj b3 (.cells [.func (.func 84) #[] #[ptr b0 0]] .own)::fq b17 x14 x15 v3 v2::po b20 o11 l15 c8 (ki b15 o7 l10 e5 bl r8 c5 []))) 0 (.gen (nX a3 l14.length 1 l18.length (e4.take (UE (v2-1):Int).toNat++e4.drop (v2:Int).toNat))))) rfl rfl (fun m hm=>KJ n hm (k:=0) (qq:=4) rfl rfl h21)) gn rfl fun _=>?_;refine Ve (aa.PI (q:=4) (i:=(UE (v2-1):Int).toNat) (j:=(v2:Int).toNat) rfl (MS h21))<|UL (aG (r:=ptr b21 1) rfl (fe _ _)) rfl<|Wn.o0 (eg (k:=2) mB rfl rfl rfl rfl rfl)<|U1 (fun m hm=>dq.all rfl)<|UR<|UJ<|U6 (prs:=[(0,4),(1,4)]) (by kernel_rfl)<|Vc rfl (aI (k:=7) fB rfl rfl rfl) rfl<|Vc rfl (aI (k:=2) JW rfl rfl rfl) rfl<|UL (aI (k:=14) IS rfl rfl rfl) rfl<|UL (aI (k:=15) Hq rfl rfl rfl) rfl ?_
 obtain⟨r16,h81,hF⟩:=J hF;refine Wn.xk (l:=[b0,b21]) (mC (α:=VC) (V:=fun g=>(fun(r:Int×Int) (g:VC)=>match r,g with |(v11,v12),_=>(.agg #[bg v11,bg v12]:Uz)) r16 g) (N:=fun g=>(fun(r:Int×Int) (g:VC)=>match r,g with |(v11,v12),_=>((.obj l5 (r4 .busy none)::gC b0 a0 l2 c1 b8 o3 l1 c0 e0 aj r0 (fS b1::fS b2::.obj b3 (.cells [.func (.func 84) #[] #[ptr b0 0]] .own)::po b20 o11 l15 c8 (ki b15 o7 l10 e5 bl r8 c5 [fq b17 x14 x15 v3 v2,.obj b21 (.cells [bI a9 l20 c10,.slice a3 l18.length l14.length] .own),oc a9 c10 l20,.gen (nX a3 l14.length 1 l18.length (e4.take (UE (v2-1):Int).toNat++e4.drop (v2:Int).toNat)),.gen (cp bl r0 l18 (e4.take (UE (v2-1):Int).toNat++e4.drop (v2:Int).toNat))]))):VB Pc)) r16 g) rfl rfl (fun m hm=>?_)) ⟨⟨_,7,rfl,rfl,fun _=>⟨1,rfl⟩⟩,⟨⟨_,2,rfl,rfl,fun _=>⟨15,rfl⟩⟩,trivial⟩⟩ gn rfl ?_
 clear hF;revert r16;intro r hF;refine aS (N:=29) (rs:=[.cell 3 26]) rfl Try.func84 rfl rfl rfl hm ?_;refine wz ?_;refine wb fun b29=>?_;refine wa z26 fun b46=>?_;refine wz ?_;refine UJ<|U6 (prs:=[(7,14),(9,14),(11,14)]) (by kernel_rfl)<|UL (aG (r:=ptr b0 0) rfl (iz _ _)) rfl<|UL (aI (k:=9) rI rfl rfl rfl) rfl<|UL (aG (r:=ptr b29 0) rfl (xo _ _)) rfl<|UL (aI (k:=1) bZ rfl rfl rfl) rfl ?_
 obtain⟨h22,hF⟩:=cW hF;refine Wn.bH (k:=10) rfl (aU h22) ?_;rintro b47 o13 rfl;refine Va (mW vK rfl rfl h22) gn rfl ?_;obtain⟨⟨x20,x21⟩,h82,hF⟩:=J hF;refine UL (ou (k:=0) cX rfl rfl (iF h82) rfl rfl) rfl<|UL (aG (r:=ptr b0 0) rfl (iz _ _)) rfl<|Vc rfl (aI (k:=10) rI rfl rfl rfl) rfl<|UL (aG (r:=ptr b29 1) rfl (xN _ _)) rfl<|Vc rfl (aI (k:=2) bZ rfl rfl rfl) rfl ?_;obtain⟨h83,hF⟩:=cW hF;refine Va (mW vK rfl rfl h83) gn rfl ?_;obtain⟨⟨x22,x23⟩,h84,hF⟩:=J hF;refine Vc rfl (ou (k:=0) cX rfl rfl (iF h84) rfl rfl) rfl<|Wn.x (uH z26 rfl) gn rfl fun b48=>?_;refine Wn.x (uH z26 rfl) gn rfl fun b49=>?_;refine Wn.G7 rfl (eg (k:=1) cX rfl rfl rfl rfl rfl)<|Wn.o0 (eg (k:=0) cX rfl rfl rfl rfl rfl)<|U1 (fun m hm=>(dq.rw rfl rfl rfl (hm.ne (i:=12) (j:=1) rfl rfl rfl rfl (by decide) rfl) (dq.rw rfl rfl rfl (hm.ne (i:=4) (j:=1) rfl rfl rfl rfl (by decide) rfl) (dq.rw rfl rfl rfl (hm.ne (i:=1) (j:=2) rfl rfl rfl rfl (by decide) rfl).symm dq.nil)))) ?_
 refine au ?_;refine UI (cH rfl z26 rfl (cJ Es rfl rfl rfl)) rfl ?_;refine au ?_;cases hF;exact UY (.cell (k:=3) cX rfl rfl rfl .nil) fun m' hm=>⟨(),rfl,(UO [11,12,13,14,15,16,17,18,19,21,22,23,24,25,20,7,8,6,5] rfl rfl) m' hm⟩;clear h81;obtain⟨v11,v12⟩:=r16;rintro⟨⟩;obtain⟨r38,h85,hF⟩:=J hF;refine Ve (aa.GY (k:=17) rfl)<|nc gn (fun m hm=>AZ h85 m (hm.q 2) (hm.q 5) (hm.dp (q:=4) rfl) (hm.q 16) (hm.q 17) (hm.dp (q:=18) rfl)) ?_;rintro⟨⟩;refine UL (Er rfl rfl) rfl ?_;refine U1 (fun m hm=>(by(first|refine dq.rk rfl rfl rfl (by simp) ?_|refine dq.step rfl ?_); exact(by(first|refine dq.rk rfl rfl rfl (by simp) ?_|refine dq.step rfl ?_); exact dq.nil))) ?_
 refine UR ?_;rcases U hF with⟨h23,hF⟩|⟨h23,hF⟩;refine U3 rfl h23<|UJ<|U6 (prs:=[(1,2)]) (by kernel_rfl)<|UL (aG (r:=ptr b17 2) rfl (nz _ _)) rfl<|Vc rfl (aI (k:=14) bZ rfl rfl rfl) rfl<|Wn.G7 rfl (eg (k:=6) bZ rfl rfl rfl rfl rfl)<|Wn.o0 (eg (k:=7) bZ rfl rfl rfl rfl rfl)<|U1 (fun m hm=>(dq.rw rfl rfl rfl (hm.ne (i:=14) (j:=6) rfl rfl rfl rfl (by decide) rfl) dq.nil)) ?_
 refine au ?_;cases hF;exact ae () (Vg 0 14);refine wz ?_;cases hF;exact ae () (Vg 0 14);rcases r15 with _|_;rintro⟨⟩;refine gB ?_;cases hF;exact ae () [0,10,3,4,5,11,12,13,1,2,6,7,8];rintro⟨⟩;refine au ?_;cases hF;exact ae () (Vg 0 9);refine wz ?_;cases hF;exact ae () (0::Vg 2 11);rcases r31 with _|_;rintro⟨⟩;refine wz ?_;cases hF;exact ae () (Vg 0 9);rintro⟨⟩;refine au ?_;cases hF;exact ae () [0,1,2,3,6,5,7,8,9,10,11];refine wz ?_;cases hF;exact ae () [0,1,2,3,6,7,8,9,10];rcases r30 with _|_;rintro⟨⟩;refine wz ?_;cases hF;exact ae () [0,1,2,5,4,6,7,8];rintro⟨⟩;refine au ?_;cases hF;exact ae () [0,3,2,4,5,6,7,8];refine wz ?_;cases hF;exact ae () [0,3,4,1,2,5,6,7];rcases r29 with v25|_;rintro⟨⟩;refine At.br ?_;cases hF;exact UY .nil fun m' hm=>⟨(),(UO (Vg 0 8) rfl rfl) m' hm⟩;rintro⟨⟩;refine Vf ?_;cases hF;exact At.fin .nil fun m' hm=>⟨(),(UO (Vg 0 8) rfl rfl) m' hm⟩;rcases r14 with v24|_;rintro⟨⟩
 change Wk _ _ _ _ .ret _ _ _ _
 refine wz ?_;cases hF;exact UY (.cell (k:=4) bZ rfl rfl rfl (.cell (k:=5) bZ rfl rfl rfl .nil)) fun m' hm=>⟨(),rfl,(UO [] rfl rfl) m' hm⟩;rintro⟨⟩
 change At _ .normal _ _ _
 refine au ?_;obtain⟨r32,h86,hF⟩:=J hF;refine wq (fun _ (b27:Nat)=>(.func (.func 73) #[] #[ptr b27 0],(fR b27 a0 l2 c1 a1 l1 c0 e0 aj r0 [EE b0 a0 l2 c1 a1 l1 c0,fS b1,fS b2,.obj b3 (.cells [.func (.func 84) #[] #[ptr b0 0]] .own)]))) r32 (fun m hm=>?_) ?_;clear hF;revert r32;intro r hF;refine aS (N:=4) (rs:=[.tmp 2]) rfl Try.func50 rfl rfl rfl hm ?_;refine wz ?_;refine wb fun b38=>?_;refine au ?_;refine UI (j9 rfl rfl) rfl ?_;refine au ?_;cases hF;exact ar b38 [0,2,3,4,1,5,6,7];rintro b27;refine wz ?_;refine UN ?_;obtain⟨r17,h87,hF⟩:=J hF;refine Wk.range (N:=50) (rs:=[]) (γ:=VC) (X:=fun g=>(fun(r:Int⊕VC) (g:VC)=>(match r,g with|.inl v27,_=>⟨.done,(some .ret),(fR b0 a0 l2 c1 a1 l1 c0 e0 aj r0 [DA b1,eJ b2 v27,.obj b3 (.cells [.func (.func 84) #[] #[ptr b0 0]] .own)])⟩|.inr _,_=>⟨.ready,none,(fR b0 a0 l2 c1 a1 l1 c0 e0 aj r0 [fS b1,fS b2,.obj b3 (.cells [.func (.func 84) #[] #[ptr b0 0]] .own)])⟩:Rn)) r17 g) rfl rfl Try.func73 rfl rfl rfl ?_ (fun y=>by rcases r17 with _|_<;>(intro e; cases e)) ?_
 clear hF;revert r17;intro r hF;intro t4 l4 r3 h88 h89;refine wz ?_;refine UN ?_;obtain⟨r33,h11,hF⟩:=J hF;refine ct (fun(r:Int⊕VC) (g:VC)=>match r,g with|.inl v28,_=>⟨.ret,[],(.obj l4 (r3 .done (some .ret))::fR b0 a0 l2 c1 a1 l1 c0 e0 aj r0 [DA b1,eJ b2 v28,.obj b3 (.cells [.func (.func 84) #[] #[ptr b0 0]] .own)])⟩|.inr _,_=>⟨(.exit 0),[],(.obj l4 (r3 .ready none)::fR b0 a0 l2 c1 a1 l1 c0 e0 aj r0 [fS b1,fS b2,.obj b3 (.cells [.func (.func 84) #[] #[ptr b0 0]] .own)])⟩) r33 ?_ ?_
 refine lo h11 () [0,3,4,5,2,6,7,8] (fun v1 _=>⟨.normal,((0,.func (.yield l4) #[] #[])::zH a1 l1 c0 v1 []),[.obj l4 (r3 .ready none),CK a1 c0 l1 e0,fT aj r0 l1 e0,EE b0 a0 l2 c1 a1 l1 c0,rR a0 c1 l2,fS b1,fS b2,.obj b3 (.cells [.func (.func 84) #[] #[ptr b0 0]] .own)]⟩) ?_;clear hF h11;rintro v1 ⟨⟩ r hF;unfold mX at hF;refine wz ?_;refine UJ ?_;rcases U hF with⟨h90,hF⟩|⟨h90,hF⟩;refine au ?_;obtain⟨h91,hF⟩:=cW hF;refine U0 (k:=1) rfl (aU h91) ?_;rintro b5 o1 rfl;refine wz ?_;obtain⟨⟨l48,l49⟩,h92,hF⟩:=J hF;refine wl 2 0 3 0 h92 ?_;rintro⟨⟨a34,c20⟩,⟨a35,c21,e11⟩⟩;refine wa z54 fun b50=>?_;refine au ?_;obtain⟨l8,h93,hF⟩:=J hF;refine Fx gn (fun m hm=>j7 h93 m hm.dW (hm.q 1) (hm.no 1) (hm.q 2) (hm.no 2) (hm.dp (q:=3) rfl) (hm.gQ (q:=3) rfl)) ?_;rintro⟨a24,c3,n5,e3,r7⟩;refine Wo.jH (k:=0) (q:=1) (L:=l8) rfl (.inr (.inl ⟨_,rfl⟩)) rfl ?_;rintro rfl;refine wz ?_;refine UN ?_;obtain⟨r34,h12,hF⟩:=J hF;refine ct (fun(r:VC⊕VC) (g:VC)=>match r,g with|.inl _,_=>⟨.ret,[],(.obj l4 (r3 .done (some .ret))::gC b0 a0 l2 c1 b5 o1 l1 c0 e0 aj r0 [DA b1,eJ b2 v1,.obj b3 (.cells [.func (.func 84) #[] #[ptr b0 0]] .own)])⟩|.inr _,_=>⟨(.exit 2),((0,.func (.yield l4) #[] #[])::sO b5 o1 l1 c0 v1 []),(.obj l4 (r3 .ready none)::rV b5 o1 l1 e0 aj r0 c0 (rF b0 a0 l2 c1 b5 o1 l1 c0 b1 b2 [.obj b3 (.cells [.func (.func 84) #[] #[ptr b0 0]] .own)]))⟩) r34 ?_ ?_
 refine lo h12 () [7,6,9,8,0,1,10,11,12,13,14] (fun v6 _=>⟨.normal,((0,.func (.yield l4) #[] #[])::(3,bg v1)::sO b5 o1 l1 c0 v1 [(18,bI a24 l8 c3),(19,dC l8),(20,bg v6)]),(.obj l4 (r3 .ready none)::rV b5 o1 l1 e0 aj r0 c0 (ju a24 c3 l8 e3::fT bl r7 l8 e3::rF b0 a0 l2 c1 b5 o1 l1 c0 b1 b2 [.obj b3 (.cells [.func (.func 84) #[] #[ptr b0 0]] .own)]))⟩) ?_;clear hF h12;rintro v6 ⟨⟩ r hF;unfold lV at hF;refine wz ?_;refine UJ ?_;rcases U hF with⟨h94,hF⟩|⟨h94,hF⟩;refine au ?_;obtain⟨h95,hF⟩:=cW hF;refine U0 (k:=4) rfl (aU h95) ?_;rintro b12 o6 rfl;refine wz ?_;obtain⟨l13,h96,hF⟩:=J hF;refine wl 1 0 6 0 h96 ?_;rintro⟨a19,c6⟩;refine au ?_;refine UN ?_;obtain⟨r35,h13,hF⟩:=J hF;refine ct (fun(r:VC⊕VC) (g:VC)=>match r,g with|.inl _,_=>⟨.ret,[],(.obj l4 (r3 .done (some .ret))::gC b0 a0 l2 c1 b5 o1 l1 c0 e0 aj r0 [DA b1,eJ b2 v1,.obj b3 (.cells [.func (.func 84) #[] #[ptr b0 0]] .own)])⟩|.inr _,_=>⟨(.exit 4),((0,.func (.yield l4) #[] #[])::(3,bg v1)::sO b5 o1 l1 c0 v1 (uJ b12 o6 l8 c3 v6 [])),(.obj l4 (r3 .ready none)::rV b5 o1 l1 e0 aj r0 c0 (ki b12 o6 l8 e3 bl r7 c3 (rF b0 a0 l2 c1 b5 o1 l1 c0 b1 b2 [.obj b3 (.cells [.func (.func 84) #[] #[ptr b0 0]] .own)])))⟩) r35 ?_ ?_
 refine lo h13 () [2,0,3,4,5,1,7,6,8,9,10,11,12] (fun v29 _=>⟨.normal,((0,.func (.yield l4) #[] #[])::(3,bg v1)::(5,bg v6)::(6,bI a19 l13 c6)::sO b5 o1 l1 c0 v1 (uJ b12 o6 l8 c3 v6 [(25,bI a19 l13 c6),(26,dC l13),(27,bg v29)])),(.obj l4 (r3 .ready none)::oc a19 c6 l13::rV b5 o1 l1 e0 aj r0 c0 (ki b12 o6 l8 e3 bl r7 c3 (rF b0 a0 l2 c1 b5 o1 l1 c0 b1 b2 [.obj b3 (.cells [.func (.func 84) #[] #[ptr b0 0]] .own)])))⟩) ?_;clear hF h13;rintro v29 ⟨⟩ r hF;unfold mS at hF;refine wz ?_;refine UJ ?_;rcases U hF with⟨h97,hF⟩|⟨h97,hF⟩;refine au ?_;obtain⟨h98,hF⟩:=cW hF;refine U0 (k:=1) rfl (aU h98) ?_;rintro b18 o9 rfl;refine wz ?_;obtain⟨x10,h120,hF⟩:=J hF;refine au ?_;obtain⟨h99,hF⟩:=az hF;refine UI (aJ rfl rfl (cf _ _ h99)) rfl ?_;obtain⟨h121,hF⟩:=cW hF;refine wz ?_;obtain⟨x11,h122,hF⟩:=J hF;refine wz ?_;refine UI (cH rfl rD rfl (cJ zo rfl rfl rfl)) rfl ?_;obtain⟨r18,h24,hF⟩:=J hF;refine UX (xO (k:=1) (k1:=0) (γA:=Nat) (GA:=(fun g:Nat=>(match g with|b13=>⟨.normal,((1,ptr b0 0)::iO b1 b2 [(8,ptr b3 0),(11,ptr b13 0)]),(.obj l4 (r3 .ready none)::gC b0 a0 l2 c1 b5 o1 l1 c0 e0 aj r0 (fS b1::fS b2::.obj b3 (.cells [.func (.func 84) #[] #[ptr b0 0]] .own)::fq b13 x10 x11 v1 v6::po b18 o9 l13 c6 (ki b12 o6 l8 e3 bl r7 c3 [])))⟩:En))) (γ:=VC) (G:=fun g=>(fun(r:VC⊕VC) (g:VC)=>(match r,g with|.inl _,_=>⟨.ret,[],(.obj l4 (r3 .busy none)::gC b0 a0 l2 c1 b5 o1 l1 c0 e0 aj r0 (DA b1::eJ b2 v1::.obj b3 (.cells [.func (.func 84) #[] #[ptr b0 0]] .own)::po b18 o9 l13 c6 (ki b12 o6 l8 e3 bl r7 c3 [])))⟩|.inr _,_=>⟨.normal,[],(.obj l4 (r3 .busy none)::gC b0 a0 l2 c1 b5 o1 l1 c0 e0 aj r0 (fS b1::fS b2::.obj b3 (.cells [.func (.func 84) #[] #[ptr b0 0]] .own)::po b18 o9 l13 c6 (ki b12 o6 l8 e3 bl r7 c3 [])))⟩:En)) r18 g) rfl rfl rfl h89 h88 rfl ?_ (fun _=>rfl) (fun _=>rfl) ?_ (fun y=>by rcases r18 with _|_<;>rfl)) gn rfl ?_
 clear hF h24;refine UK<|wa rD fun b39=>?_;refine wz ?_;exact ae b39 [2,10,11,4,5,6,12,13,14,0,1,3,7,8,9];clear hF;revert r18;intro r hF;rintro b13;refine wz ?_;refine UN ?_;obtain⟨r36,h14,hF⟩:=J hF;refine ct (fun(r:VC⊕VC) (g:VC)=>match r,g with|.inl _,_=>⟨.ret,(iO b1 b2 []),(.obj l4 (r3 .busy none)::DA b1::eJ b2 v1::gC b0 a0 l2 c1 b5 o1 l1 c0 e0 aj r0 (.obj b3 (.cells [.func (.func 84) #[] #[ptr b0 0]] .own)::po b18 o9 l13 c6 (ki b12 o6 l8 e3 bl r7 c3 [])))⟩|.inr _,_=>⟨(.exit 8),((1,ptr b0 0)::iO b1 b2 [(8,ptr b3 0),(11,ptr b13 0)]),(.obj l4 (r3 .busy none)::gC b0 a0 l2 c1 b5 o1 l1 c0 e0 aj r0 (fS b1::fS b2::.obj b3 (.cells [.func (.func 84) #[] #[ptr b0 0]] .own)::fq b13 x10 x11 v1 v6::po b18 o9 l13 c6 (ki b12 o6 l8 e3 bl r7 c3 [])))⟩) r36 ?_ ?_
 refine lo h14 () [0,1,2,3,4,5,6,7,8,9,10,11,12,13,14] (fun v13 _=>⟨.normal,((1,ptr b0 0)::iO b1 b2 [(8,ptr b3 0),(11,ptr b13 0),(82,tY b5 o1 l1 c0),(83,dC l1),(84,bg v13)]),(.obj l4 (r3 .busy none)::gC b0 a0 l2 c1 b5 o1 l1 c0 e0 aj r0 (fS b1::fS b2::.obj b3 (.cells [.func (.func 84) #[] #[ptr b0 0]] .own)::fq b13 x10 x11 v1 v6::po b18 o9 l13 c6 (ki b12 o6 l8 e3 bl r7 c3 [])))⟩) ?_;clear hF h14;rintro v13 ⟨⟩ r hF;unfold sQ at hF;refine wz ?_;refine UJ ?_;rcases U hF with⟨h100,hF⟩|⟨h100,hF⟩;refine au ?_;obtain⟨h123,hF⟩:=cW hF;refine wz ?_;obtain⟨⟨l43,l25⟩,h101,hF⟩:=J hF;refine wl 2 0 4 3 h101 ?_;rintro⟨⟨a25,c12⟩,⟨a26,c13,e7⟩⟩;refine wa z54 fun b30=>?_;refine wz ?_;refine UJ ?_;obtain⟨v10,h102,hF⟩:=J hF;refine ct (fun v10 (_:VC)=>⟨.normal,((1,ptr b0 0)::iO b1 b2 [(8,ptr b3 0),(11,ptr b13 0),(82,tY b5 o1 l1 c0),(83,dC l1),(84,bg v13),(100,.bool v10)]),(.obj l4 (r3 .busy none)::gC b0 a0 l2 c1 b5 o1 l1 c0 e0 aj r0 (fS b1::fS b2::.obj b3 (.cells [.func (.func 84) #[] #[ptr b0 0]] .own)::fq b13 x10 x11 v1 v6::po b18 o9 l13 c6 (ki b12 o6 l8 e3 bl r7 c3 [])))⟩) v10 ?_ ?_;clear hF;revert v10;intro r hF;refine U6 (prs:=[(5,9),(6,9)]) (by kernel_rfl)<|UL (aV rfl) rfl<|UL (aG (r:=ptr b13 2) rfl (nz _ _)) rfl<|UL (aI (k:=13) bZ rfl rfl rfl) rfl<|UL (aJ rfl rfl (Bc _ _)) rfl<|UL (aV rfl) rfl ?_
 rcases U hF with⟨h0,hF⟩|⟨h0,hF⟩;refine Wn.Rj rfl (aI (k:=5) fB rfl rfl rfl) (gg rfl rfl (fi h0)) rfl<|Wn.Rj rfl (aI (k:=0) JW rfl rfl rfl) (gg rfl rfl (fi h0)) rfl<|Va (aI (k:=12) IS rfl rfl rfl) (gg rfl rfl (fi h0)) rfl<|Va (aI (k:=13) Hq rfl rfl rfl) (gg rfl rfl (fi h0)) rfl ?_;obtain⟨r19,h103,hF⟩:=J hF;refine Wn.xk (l:=[b0,b30]) (mC (α:=VC) (V:=fun g=>(fun(r:Int×Int) (g:VC)=>match r,g with |(v14,v15),_=>(.agg #[bg v14,bg v15]:Uz)) r19 g) (N:=fun g=>(fun(r:Int×Int) (g:VC)=>match r,g with |(v14,v15),_=>((.obj l4 (r3 .busy none)::gC b0 a0 l2 c1 b5 o1 l1 c0 e0 aj r0 (fS b1::fS b2::.obj b3 (.cells [.func (.func 84) #[] #[ptr b0 0]] .own)::po b18 o9 l13 c6 (ki b12 o6 l8 e3 bl r7 c3 [fq b13 x10 x11 v1 v6,EE b30 a25 l43 c12 a26 l25 c13,oc a25 c12 l43,ju a26 c13 l25 e7,fT bl r0 l25 e7]))):VB Pc)) r19 g) rfl rfl (fun m hm=>?_)) ⟨⟨_,5,rfl,rfl,fun _=>⟨1,rfl⟩⟩,⟨⟨_,0,rfl,rfl,fun _=>⟨15,rfl⟩⟩,trivial⟩⟩ (gg rfl rfl (fi h0)) rfl ?_
 clear hF;revert r19;intro r hF;refine aS (N:=29) (rs:=[.cell 3 26]) rfl Try.func84 rfl rfl rfl hm ?_;refine wz ?_;refine wb fun b31=>?_;refine wa z26 fun b51=>?_;refine wz ?_;refine UJ<|U6 (prs:=[(7,14),(9,14),(11,14)]) (by kernel_rfl)<|UL (aG (r:=ptr b0 0) rfl (iz _ _)) rfl<|UL (aI (k:=7) rI rfl rfl rfl) rfl<|UL (aG (r:=ptr b31 0) rfl (xo _ _)) rfl<|UL (aI (k:=1) bZ rfl rfl rfl) rfl ?_
 obtain⟨h25,hF⟩:=cW hF;refine Wn.bH (k:=8) rfl (aU h25) ?_;rintro b52 o14 rfl;refine Va (mW vK rfl rfl h25) gn rfl ?_;obtain⟨⟨x24,x25⟩,h104,hF⟩:=J hF;refine UL (ou (k:=0) cX rfl rfl (iF h104) rfl rfl) rfl<|UL (aG (r:=ptr b0 0) rfl (iz _ _)) rfl<|Vc rfl (aI (k:=8) rI rfl rfl rfl) rfl<|UL (aG (r:=ptr b31 1) rfl (xN _ _)) rfl<|Vc rfl (aI (k:=2) bZ rfl rfl rfl) rfl ?_;obtain⟨h105,hF⟩:=cW hF;refine Va (mW vK rfl rfl h105) gn rfl ?_;obtain⟨⟨x26,x27⟩,h106,hF⟩:=J hF;refine Vc rfl (ou (k:=0) cX rfl rfl (iF h106) rfl rfl) rfl<|Wn.x (uH z26 rfl) gn rfl fun b53=>?_;refine Wn.x (uH z26 rfl) gn rfl fun b54=>?_;refine Wn.G7 rfl (eg (k:=1) cX rfl rfl rfl rfl rfl)<|Wn.o0 (eg (k:=0) cX rfl rfl rfl rfl rfl)<|U1 (fun m hm=>(dq.rw rfl rfl rfl (hm.ne (i:=10) (j:=1) rfl rfl rfl rfl (by decide) rfl) (dq.rw rfl rfl rfl (hm.ne (i:=4) (j:=1) rfl rfl rfl rfl (by decide) rfl) (dq.rw rfl rfl rfl (hm.ne (i:=1) (j:=2) rfl rfl rfl rfl (by decide) rfl).symm dq.nil)))) ?_
 refine au ?_;refine UI (cH rfl z26 rfl (cJ Es rfl rfl rfl)) rfl ?_;refine au ?_;cases hF;exact UY (.cell (k:=3) cX rfl rfl rfl .nil) fun m' hm=>⟨(),rfl,(UO [9,10,11,12,13,14,15,16,17,19,20,21,22,23,18,5,6,7,8] rfl rfl) m' hm⟩;clear h103;obtain⟨v14,v15⟩:=r19;rintro⟨⟩;obtain⟨r39,h107,hF⟩:=J hF;refine nc (gg rfl rfl (fi h0)) (fun m hm=>AZ h107 m (hm.q 2) (hm.q 5) (hm.dp (q:=4) rfl) (hm.q 16) (hm.q 17) (hm.dp (q:=18) rfl)) ?_;rintro⟨⟩;refine UL (zj rfl h0 rfl) rfl ?_;refine U1 (fun m hm=>(by(first|refine dq.rk rfl rfl rfl (by simp) ?_|refine dq.step rfl ?_); exact(by(first|refine dq.rk rfl rfl rfl (by simp) ?_|refine dq.step rfl ?_); exact dq.nil))) ?_
 obtain rfl:=Sb hF;exact ae () [0,1,2,3,4,5,6,7,8,14,9,10,11,12,13];refine U7 (gg rfl rfl (wZ h0)) rfl<|U7 (gg rfl rfl (wZ h0)) rfl<|U7 (gg rfl rfl (wZ h0)) rfl<|U7 (gg rfl rfl (wZ h0)) rfl<|U7 (gg rfl rfl (wZ h0)) rfl<|U7 (gg rfl rfl (wZ h0)) rfl<|UL (zh rfl h0 rfl) rfl ?_;refine U1 (fun m hm=>(by(first|refine dq.rk rfl rfl rfl (by simp) ?_|refine dq.step rfl ?_); exact(by(first|refine dq.rk rfl rfl rfl (by simp) ?_|refine dq.step rfl ?_); exact dq.nil))) ?_
 cases hF;exact ae () (Vg 4 15);rintro⟨⟩;refine UR ?_;rcases U hF with⟨h26,hF⟩|⟨h26,hF⟩;refine U3 rfl h26<|UJ<|U6 (prs:=[(1,2)]) (by kernel_rfl)<|UL (aG (r:=ptr b13 2) rfl (nz _ _)) rfl<|Vc rfl (aI (k:=9) bZ rfl rfl rfl) rfl<|Wn.G7 rfl (eg (k:=6) bZ rfl rfl rfl rfl rfl)<|Wn.o0 (eg (k:=7) bZ rfl rfl rfl rfl rfl)<|U1 (fun m hm=>(dq.rw rfl rfl rfl (hm.ne (i:=9) (j:=6) rfl rfl rfl rfl (by decide) rfl) dq.nil)) ?_
 refine au ?_;cases hF;exact ae () [0,6,7,1,2,3,4,5,8,10,11,12,13,14];refine au ?_;cases hF;exact ae () (Vg 0 15);refine wz ?_;cases hF;exact ae () (Vg 0 15);rcases r36 with _|_;rintro⟨⟩;refine wz ?_;cases hF;exact ae () (0::3::4::5::6::7::1::2::Vg 8 6);rintro⟨⟩;refine wz ?_;cases hF;exact ae () [0,1,2,3,4,5,6,7,8,10,11,12,13,14];rcases r18 with _|_;rintro⟨⟩;refine au ?_;cases hF;exact ae () (Vg 0 9);rintro⟨⟩;refine gB ?_;cases hF;exact ae () [0,10,3,4,5,11,12,13,1,2,6,7,8];refine wz ?_;cases hF;exact ae () (0::Vg 2 11);rcases r35 with _|_;rintro⟨⟩;refine wz ?_;cases hF;exact ae () (Vg 0 9);rintro⟨⟩;refine au ?_;cases hF;exact ae () [0,1,2,3,6,5,7,8,9,10,11];refine wz ?_;cases hF;exact ae () [0,1,2,3,6,7,8,9,10];rcases r34 with _|_;rintro⟨⟩;refine wz ?_;cases hF;exact ae () [0,1,2,5,4,6,7,8];rintro⟨⟩;refine au ?_;cases hF;exact ae () [0,3,2,4,5,6,7,8];refine wz ?_;cases hF;exact ae () [0,3,4,1,2,5,6,7];rcases r33 with v28|_;rintro⟨⟩;refine At.br ?_;cases hF;exact UY .nil fun m' hm=>⟨(),(UO (Vg 0 8) rfl rfl) m' hm⟩;rintro⟨⟩;refine Vf ?_;cases hF;exact At.fin .nil fun m' hm=>⟨(),(UO (Vg 0 8) rfl rfl) m' hm⟩;rcases r17 with v27|_;rintro⟨⟩
 change Wk _ _ _ _ .ret _ _ _ _
 refine wz ?_;cases hF;exact UY (.cell (k:=4) bZ rfl rfl rfl (.cell (k:=5) bZ rfl rfl rfl .nil)) fun m' hm=>⟨(),rfl,(UO [] rfl rfl) m' hm⟩;rintro⟨⟩
 change At _ .normal _ _ _
 refine gB ?_;cases hF;exact UY (.cell (k:=4) bZ rfl rfl rfl (.cell (k:=5) bZ rfl rfl rfl .nil)) fun m' hm=>⟨(),rfl,(UO [] rfl rfl) m' hm⟩
def Gl{n l2 l1 a0 c1 a1 c0}{r0:Uy}{e0:Uw}{r}(hF:N4 n l2 l1=some r)(m)(h12:kq m a0 c1 l2)(h13:nY m a1 c0 l1 e0)(h14:(cp aj r0 l1 e0).P m):
 aK (Vq p q) 43 [lO a0 l2 c1 a1 l1 c0] m (Vm m (.tuple #[.int .i64 r.1,.int .i64 r.2])):=by
 unfold N4 at hF;refine cw Try.func43 (Hp.nV (U2 (U2 (UU m) eo h12) (fg eo) h13) (fg (fg eo)) h14) ?_;refine wz ?_;refine wb fun b0=>?_;refine au ?_;refine UJ ?_;obtain⟨v1,h15,hF⟩:=J hF;refine ct (fun v1 (_:VC)=>⟨.normal,[(1,ptr b0 0),(33,.bool v1)],(fR b0 a0 l2 c1 a1 l1 c0 e0 aj r0 [])⟩) v1 ?_ ?_;clear hF;revert v1;intro r hF;refine wz ?_;rcases U hF with⟨h16,hF⟩|⟨h16,hF⟩;refine wz ?_;cases hF;exact ae () [0,3,2,1];refine wz ?_;rcases U hF with⟨h17,hF⟩|⟨h17,hF⟩;refine wz ?_;cases hF;exact ae () [0,3,2,1];refine wz ?_;rcases U hF with⟨h18,hF⟩|⟨h18,hF⟩;refine wz ?_;cases hF;exact ae () [0,3,2,1];refine wz ?_;cases hF;exact ae () [0,3,2,1];rintro⟨⟩;refine UR ?_;rcases U hF with⟨h19,hF⟩|⟨h19,hF⟩;refine au ?_;cases hF;exact ar () [];refine au ?_;obtain⟨v2,h20,hF⟩:=J hF;refine wq (fun v2 (_:VC)=>(.int .i64 v2,(fR b0 a0 l2 c1 a1 l1 c0 e0 aj r0 []))) v2 (fun m hm=>?_) ?_;clear hF;revert v2;intro r hF;refine aS (N:=19) (rs:=[.tmp 4]) rfl Try.func59 rfl rfl rfl hm ?_;refine au ?_;refine UN ?_;obtain⟨r1,h3,hF⟩:=J hF;refine ct (fun(r:Int⊕VC) (g:VC)=>match r,g with|.inl v14,_=>⟨.ret,[(4,bg v14)],(fR b0 a0 l2 c1 a1 l1 c0 e0 aj r0 [])⟩|.inr _,_=>⟨(.exit 0),[],(fR b0 a0 l2 c1 a1 l1 c0 e0 aj r0 [])⟩) r1 ?_ ?_
 refine lo h3 () [1,0,2,3] (fun v15 _=>⟨.normal,((1,.func (.func 30) #[] #[])::AJ a0 l2 c1 v15 []),[rR a0 c1 l2,EE b0 a0 l2 c1 a1 l1 c0,CK a1 c0 l1 e0,fT aj r0 l1 e0]⟩) ?_;clear hF h3;rintro v15 ⟨⟩ r hF;unfold Aj at hF;refine wz ?_;refine UJ ?_;rcases U hF with⟨h21,hF⟩|⟨h21,hF⟩;refine au ?_;obtain⟨h22,hF⟩:=cW hF;refine U0 (k:=0) rfl (aU h22) ?_;rintro b9 o7 rfl;refine wz ?_;obtain⟨⟨x10,x11⟩,h79,hF⟩:=J hF;refine wz ?_;refine wa z26 fun b10=>?_;refine au ?_;obtain⟨r13,h23,hF⟩:=J hF;refine wc gn (fun m hm=>H0 h23 m) ?_;rintro⟨⟩;refine wz ?_;rcases U hF with⟨h24,hF⟩|⟨h24,hF⟩;refine au ?_;cases hF;exact ae () [3,2,4,5];refine au ?_;cases hF;exact ae () [2,3,4,5];refine wz ?_;cases hF;exact ae () [1,0,2,3];rcases r1 with v14|_;rintro⟨⟩;refine wz ?_;obtain rfl:=Sb hF;exact ar () [0,1,2,3];rintro⟨⟩;refine gB ?_;cases hF;exact ar () [0,1,2,3];rintro⟨⟩;refine au ?_;rcases U hF with⟨h25,hF⟩|⟨h25,hF⟩;refine au ?_;cases hF;exact ar () [];refine au ?_;refine UX Fi gn rfl fun b5=>?_;refine au ?_;refine UN ?_;obtain⟨r3,h4,hF⟩:=J hF;refine ct (fun(r:Int⊕VC) (g:VC)=>match r,g with|.inl v16,_=>⟨.ret,[(2,.int .i64 3),(3,bg v16)],[]⟩|.inr _,_=>⟨(.exit 0),[(1,ptr b0 0)],(fR b0 a0 l2 c1 a1 l1 c0 e0 aj r0 [])⟩) r3 ?_ ?_
 refine lo h4 () [1,2,3,4,0] (fun(l6,v17) _=>⟨.normal,[(1,ptr b0 0),(6,.map (some b5)),(42,bI a0 l2 c1),(43,dC l2),(44,bg v17)],(fR b0 a0 l2 c1 a1 l1 c0 e0 aj r0 [.obj b5 (.map (l6.map (eM (fun p:Int×Int=>.agg #[.int .i64 p.1,.int .i64 p.2]) (fun b:Bool=>.bool b))))])⟩) ?_;clear hF h4;rintro⟨l6,v17⟩ ⟨⟩ r hF;unfold ra at hF;refine wz ?_;refine UJ ?_;rcases U hF with⟨h26,hF⟩|⟨h26,hF⟩;refine au ?_;obtain⟨h27,hF⟩:=cW hF;refine U0 (k:=1) rfl (aU h27) ?_;rintro b11 o8 rfl;refine wz ?_;obtain⟨⟨x3,x4⟩,h80,hF⟩:=J hF;refine wz ?_;refine wa z26 fun b12=>?_;refine au ?_;obtain⟨y0,h28,hF⟩:=J hF;refine UI (Lb (q:=6) (xs:=l6) (k:=(x3,x4)) (vE:=(fun b:Bool=>.bool b)) (z0:=false) GQ (FT C5) z4 rfl rfl rfl rfl h28) rfl ?_;refine wz ?_;rcases U hF with⟨h29,hF⟩|⟨h29,hF⟩;refine au ?_;cases hF;exact ae () [];refine au ?_;refine U4 (D0 (q:=6) (xs:=l6) (k:=(x3,x4)) (v:=true) (vE:=(fun b:Bool=>.bool b)) GQ (FT C5) rfl rfl rfl rfl) ?_;refine au ?_;cases hF;exact ae () (Vg 2 5);refine wz ?_;cases hF;exact ae () [0,1,2,3];rcases r3 with v16|_;rintro⟨⟩;refine wz ?_;cases hF;exact ar () [];rintro⟨⟩;refine au ?_;refine wa z116 fun b1=>?_;refine au ?_;refine UI (j9 rfl rfl) rfl ?_;obtain⟨v3,h30,hF⟩:=J hF;refine wq (fun v3 (_:VC)=>(.int .i64 v3,(fR b0 a0 l2 c1 a1 l1 c0 e0 aj r0 [.obj b1 (.cells [.func (.func 60) #[] #[]] .own)]))) v3 (fun m hm=>?_) ?_;clear hF;revert v3;intro r hF;refine aS (N:=19) (rs:=[.tmp 4]) rfl Try.func31 rfl rfl rfl hm ?_;refine au ?_;refine UN ?_;obtain⟨r4,h5,hF⟩:=J hF;refine ct (fun(r:Int⊕VC) (g:VC)=>match r,g with|.inl v18,_=>⟨.ret,[(4,bg v18)],(fR b0 a0 l2 c1 a1 l1 c0 e0 aj r0 [.obj b1 (.cells [.func (.func 60) #[] #[]] .own)])⟩|.inr _,_=>⟨(.exit 0),[],(fR b0 a0 l2 c1 a1 l1 c0 e0 aj r0 [.obj b1 (.cells [.func (.func 60) #[] #[]] .own)])⟩) r4 ?_ ?_
 refine lo h5 () [0,1,2,3,4] (fun v19 _=>⟨.normal,((1,.func (.func 61) #[] #[ptr b1 0,ptr b0 0])::AJ a1 l1 c0 v19 []),(.obj b1 (.cells [.func (.func 60) #[] #[]] .own)::fR b0 a0 l2 c1 a1 l1 c0 e0 aj r0 [])⟩) ?_;clear hF h5;rintro v19 ⟨⟩ r hF;unfold y9 at hF;refine wz ?_;refine UJ ?_;rcases U hF with⟨h31,hF⟩|⟨h31,hF⟩;refine au ?_;obtain⟨h32,hF⟩:=cW hF;refine U0 (k:=3) rfl (aU h32) ?_;rintro b2 o1 rfl;refine wz ?_;obtain⟨⟨l9,l10⟩,h33,hF⟩:=J hF;refine wl 2 0 5 0 h33 ?_;rintro⟨⟨a5,c5⟩,⟨a6,c6,e5⟩⟩;refine wa z54 fun b13=>?_;refine au ?_;obtain⟨v4,h34,hF⟩:=J hF;refine wq (fun v4 (_:VC)=>(.bool v4,(gC b0 a0 l2 c1 b2 o1 l1 c0 e0 aj r0 [.obj b1 (.cells [.func (.func 60) #[] #[]] .own)]))) v4 (fun m hm=>?_) ?_;clear hF;revert v4;intro r hF;refine aS (N:=15) (rs:=[.tmp 4]) rfl Try.func61 rfl rfl rfl hm ?_;refine wz ?_;refine wb fun b14=>?_;refine au ?_;rcases U hF with⟨h6,hF⟩|⟨h6,hF⟩;refine au ?_;cases hF;exact ar () [7,8,5,10,9,6];refine wz ?_;refine UZ (j9 rfl rfl) (gg rfl rfl (qv h6)) rfl ?_;obtain⟨v0,h35,hF⟩:=J hF;refine UX (mC (α:=VC) (V:=fun g=>(fun(r:Bool) (g:VC)=>match r,g with|v0,_=>(.bool v0:Uz)) v0 g) (N:=fun g=>(fun(r:Bool) (g:VC)=>match r,g with|v0,_=>((gC b0 a0 l2 c1 b2 o1 l1 c0 e0 aj r0 [.obj b1 (.cells [.func (.func 60) #[] #[]] .own)]):VB Pc)) v0 g) rfl rfl (fun m hm=>?_)) (gg rfl rfl (qv h6)) rfl ?_
 clear hF;revert v0;intro r hF;refine aS (N:=20) (rs:=[.tmp 4]) rfl Try.func60 rfl rfl rfl hm ?_;refine wz ?_;refine wb fun b15=>?_;refine au ?_;obtain⟨l3,h36,hF⟩:=J hF;refine Fx gn (fun m hm=>j7 h36 m hm.dW (hm.q 3) (hm.no 3) (hm.q 4) (hm.no 4) (hm.dp (q:=5) rfl) (hm.gQ (q:=5) rfl)) ?_;rintro⟨a2,c2,n0,e1,r5⟩;refine Wo.jH (k:=0) (q:=1) (L:=l3) rfl (.inr (.inl ⟨_,rfl⟩)) rfl ?_;rintro rfl;refine wz ?_;refine UN ?_;obtain⟨r6,h7,hF⟩:=J hF;refine ct (fun(r:VC⊕VC) (g:VC)=>match r,g with|.inl _,_=>⟨.ret,[(4,.bool true)],(gC b0 a0 l2 c1 b2 o1 l1 c0 e0 aj r0 [.obj b1 (.cells [.func (.func 60) #[] #[]] .own)])⟩|.inr _,_=>⟨(.exit 0),[],(gC b0 a0 l2 c1 b2 o1 l1 c0 e0 aj r0 [.obj b1 (.cells [.func (.func 60) #[] #[]] .own)])⟩) r6 ?_ ?_
 refine lo h7 () [10,11,8,13,12,0,1,9] (fun v20 _=>⟨.normal,[(1,.func (.func 62) #[] #[ptr b0 0]),(8,bI a2 l3 c2),(9,dC l3),(10,bg v20)],(gC b0 a0 l2 c1 b2 o1 l1 c0 e0 aj r0 [ju a2 c2 l3 e1,fT bl r5 l3 e1,.obj b1 (.cells [.func (.func 60) #[] #[]] .own)])⟩) ?_;clear hF h7;rintro v20 ⟨⟩ r hF;unfold zS at hF;refine wz ?_;refine UJ ?_;rcases U hF with⟨h37,hF⟩|⟨h37,hF⟩;refine au ?_;obtain⟨h38,hF⟩:=cW hF;refine U0 (k:=5) rfl (aU h38) ?_;rintro b6 o4 rfl;refine wz ?_;obtain⟨l11,h39,hF⟩:=J hF;refine wl 1 0 7 0 h39 ?_;rintro⟨a7,c7⟩;refine au ?_;obtain⟨v5,h40,hF⟩:=J hF;refine wq (fun v5 (_:VC)=>(.bool v5,(gC b0 a0 l2 c1 b2 o1 l1 c0 e0 aj r0 (.obj b1 (.cells [.func (.func 60) #[] #[]] .own)::ki b6 o4 l3 e1 bl r5 c2 [])))) v5 (fun m hm=>?_) ?_;clear hF;revert v5;intro r hF;refine aS (N:=27) (rs:=[.tmp 5]) rfl Try.func62 rfl rfl rfl hm ?_;refine wz ?_;refine UJ<|U6 (prs:=[(15,17),(15,18)]) (by kernel_rfl)<|UL (aV rfl) rfl<|UL (oU (k:=0) MI rfl rfl (.inl rfl)) rfl<|UL (aJ rfl rfl (hY _ _ _)) rfl<|UL (aV rfl) rfl ?_
 rcases U hF with⟨h1,hF⟩|⟨h1,hF⟩;refine U7 (gg rfl rfl (DB h1)) rfl<|U7 (gg rfl rfl (DB h1)) rfl<|U7 (gg rfl rfl (DB h1)) rfl<|UL (zj rfl h1 rfl) rfl<|UL (aV rfl) rfl<|U7 (gg rfl rfl rfl) rfl<|U7 (gg rfl rfl rfl) rfl<|U7 (gg rfl rfl rfl) rfl<|UL (IB rfl rfl) rfl<|UL (aV rfl) rfl ?_;refine U7 (gg rfl rfl rfl) rfl<|U7 (gg rfl rfl rfl) rfl<|U7 (gg rfl rfl rfl) rfl<|U7 (gg rfl rfl rfl) rfl<|U7 (gg rfl rfl rfl) rfl<|U7 (gg rfl rfl rfl) rfl<|UL (IB rfl rfl) rfl<|UL (bG rfl) rfl<|U1 (fun m hm=>dq.all rfl) ?_;refine au ?_;cases hF;exact ar () [2,3,4,5,6,9,1,8,7];refine Va (aV rfl) (gg rfl rfl (qv h1)) rfl<|Va (oU (k:=0) MI rfl rfl (.inl rfl)) (gg rfl rfl (qv h1)) rfl<|Va (aJ rfl rfl (rM _ _ _)) (gg rfl rfl (qv h1)) rfl<|UL (zh rfl h1 rfl) rfl<|UL (aV rfl) rfl ?_;rcases U hF with⟨h2,hF⟩|⟨h2,hF⟩;refine U7 (gg rfl rfl (DB h2)) rfl<|U7 (gg rfl rfl (DB h2)) rfl<|U7 (gg rfl rfl (DB h2)) rfl<|UL (zj rfl h2 rfl) rfl<|UL (aV rfl) rfl<|U7 (gg rfl rfl rfl) rfl<|U7 (gg rfl rfl rfl) rfl<|U7 (gg rfl rfl rfl) rfl<|U7 (gg rfl rfl rfl) rfl<|U7 (gg rfl rfl rfl) rfl ?_;refine U7 (gg rfl rfl rfl) rfl<|UL (IB rfl rfl) rfl<|UL (bG rfl) rfl<|U1 (fun m hm=>dq.all rfl) ?_;refine au ?_;cases hF;exact ar () [2,3,4,5,6,9,1,8,7];refine Va (aV rfl) (gg rfl rfl (qv h2)) rfl ?_;obtain⟨r14,h41,hF⟩:=J hF;refine nc (gg rfl rfl (qv h2)) (fun m hm=>Nt h41 m (hm.q 0)) ?_;rintro⟨⟩;refine Va (aJ rfl rfl (hY _ _ _)) (gg rfl rfl (qv h2)) rfl<|UL (zh rfl h2 rfl) rfl<|UL (aV rfl) rfl ?_;rcases U hF with⟨h0,hF⟩|⟨h0,hF⟩;refine U7 (gg rfl rfl (DB h0)) rfl<|U7 (gg rfl rfl (DB h0)) rfl<|U7 (gg rfl rfl (DB h0)) rfl<|U7 (gg rfl rfl (DB h0)) rfl<|U7 (gg rfl rfl (DB h0)) rfl<|U7 (gg rfl rfl (DB h0)) rfl<|UL (zj rfl h0 rfl) rfl<|UL (bG rfl) rfl<|U1 (fun m hm=>dq.all rfl) ?_;refine au ?_;cases hF;exact ar () [2,3,4,5,6,9,1,8,7];refine Va (aV rfl) (gg rfl rfl (qv h0)) rfl ?_;obtain⟨r15,h42,hF⟩:=J hF;refine nc (gg rfl rfl (qv h0)) (fun m hm=>LB h42 m (hm.q 0)) ?_;rintro⟨⟩;refine Va (aG (r:=ptr b0 0) rfl (iz _ _)) (gg rfl rfl (qv h0)) rfl<|Va (aI (k:=2) rI rfl rfl rfl) (gg rfl rfl (qv h0)) rfl<|Va (oU (k:=3) Qa rfl rfl (.inl rfl)) (gg rfl rfl (qv h0)) rfl<|Va (aJ rfl rfl (CC _ _ _)) (gg rfl rfl (qv h0)) rfl<|UL (zh rfl h0 rfl) rfl<|UL (bG rfl) rfl<|U1 (fun m hm=>dq.all rfl) ?_;refine au ?_;cases hF;exact ar () [2,3,4,5,6,9,1,8,7];rintro⟨⟩;refine wz ?_;rcases U hF with⟨h43,hF⟩|⟨h43,hF⟩;refine au ?_;cases hF;exact ae () (Vg 0 6);refine au ?_;cases hF;exact ae () [0,1,2,3,4,8,7,5];refine wz ?_;cases hF;exact ae () [0,1,2,3,4,7];rcases r6 with _|_;rintro⟨⟩;refine wz ?_;cases hF;exact ar () (Vg 0 6);rintro⟨⟩;refine gB ?_;cases hF;exact ar () (Vg 0 6);rintro⟨⟩;refine au ?_;obtain rfl:=Sb hF;exact ar () (Vg 0 6);rintro⟨⟩;refine wz ?_;rcases U hF with⟨h44,hF⟩|⟨h44,hF⟩;refine au ?_;cases hF;exact ae () [0,1,4,3,5];refine au ?_;cases hF;exact ae () [5,0,1,4,3];refine wz ?_;cases hF;exact ae () [1,2,3,4,0];rcases r4 with v18|_;rintro⟨⟩;refine wz ?_;obtain rfl:=Sb hF;exact ar () (Vg 0 5);rintro⟨⟩;refine gB ?_;cases hF;exact ar () (Vg 0 5);rintro⟨⟩;refine au ?_;rcases U hF with⟨h45,hF⟩|⟨h45,hF⟩;refine au ?_;cases hF;exact ar () [];refine au ?_;refine UI (j9 rfl rfl) rfl ?_;obtain⟨v6,h46,hF⟩:=J hF;refine wq (fun v6 (_:VC)=>(.int .i64 v6,(fR b0 a0 l2 c1 a1 l1 c0 e0 aj r0 [.obj b1 (.cells [.func (.func 60) #[] #[]] .own)]))) v6 (fun m hm=>?_) ?_;clear hF;revert v6;intro r hF;refine aS (N:=19) (rs:=[.tmp 4]) rfl Try.func31 rfl rfl rfl hm ?_;refine au ?_;refine UN ?_;obtain⟨r7,h8,hF⟩:=J hF;refine ct (fun(r:Int⊕VC) (g:VC)=>match r,g with|.inl v21,_=>⟨.ret,[(4,bg v21)],(fR b0 a0 l2 c1 a1 l1 c0 e0 aj r0 [.obj b1 (.cells [.func (.func 60) #[] #[]] .own)])⟩|.inr _,_=>⟨(.exit 0),[],(fR b0 a0 l2 c1 a1 l1 c0 e0 aj r0 [.obj b1 (.cells [.func (.func 60) #[] #[]] .own)])⟩) r7 ?_ ?_
 refine lo h8 () [4,0,1,2,3] (fun v22 _=>⟨.normal,((1,.func (.func 65) #[] #[ptr b1 0,ptr b0 0])::AJ a1 l1 c0 v22 []),(.obj b1 (.cells [.func (.func 60) #[] #[]] .own)::fR b0 a0 l2 c1 a1 l1 c0 e0 aj r0 [])⟩) ?_;clear hF h8;rintro v22 ⟨⟩ r hF;unfold zB at hF;refine wz ?_;refine UJ ?_;rcases U hF with⟨h47,hF⟩|⟨h47,hF⟩;refine au ?_;obtain⟨h48,hF⟩:=cW hF;refine U0 (k:=3) rfl (aU h48) ?_;rintro b3 o2 rfl;refine wz ?_;obtain⟨⟨l12,l13⟩,h49,hF⟩:=J hF;refine wl 2 0 5 0 h49 ?_;rintro⟨⟨a8,c8⟩,⟨a9,c9,e6⟩⟩;refine wa z54 fun b16=>?_;refine au ?_;obtain⟨v7,h50,hF⟩:=J hF;refine wq (fun v7 (_:VC)=>(.bool v7,(gC b0 a0 l2 c1 b3 o2 l1 c0 e0 aj r0 [.obj b1 (.cells [.func (.func 60) #[] #[]] .own)]))) v7 (fun m hm=>?_) ?_;clear hF;revert v7;intro r hF;refine aS (N:=9) (rs:=[.tmp 4]) rfl Try.func65 rfl rfl rfl hm ?_;refine wz ?_;refine wb fun b17=>?_;refine au ?_;refine UI (j9 rfl rfl) rfl ?_;obtain⟨v8,h51,hF⟩:=J hF;refine wq (fun v8 (_:VC)=>(.bool v8,(gC b0 a0 l2 c1 b3 o2 l1 c0 e0 aj r0 [.obj b1 (.cells [.func (.func 60) #[] #[]] .own)]))) v8 (fun m hm=>?_) ?_;clear hF;revert v8;intro r hF;refine aS (N:=20) (rs:=[.tmp 4]) rfl Try.func60 rfl rfl rfl hm ?_;refine wz ?_;refine wb fun b18=>?_;refine au ?_;obtain⟨l4,h52,hF⟩:=J hF;refine Fx gn (fun m hm=>j7 h52 m hm.dW (hm.q 3) (hm.no 3) (hm.q 4) (hm.no 4) (hm.dp (q:=5) rfl) (hm.gQ (q:=5) rfl)) ?_;rintro⟨a3,c3,n1,e3,r8⟩;refine Wo.jH (k:=0) (q:=1) (L:=l4) rfl (.inr (.inl ⟨_,rfl⟩)) rfl ?_;rintro rfl;refine wz ?_;refine UN ?_;obtain⟨r9,h9,hF⟩:=J hF;refine ct (fun(r:VC⊕VC) (g:VC)=>match r,g with|.inl _,_=>⟨.ret,[(4,.bool true)],(gC b0 a0 l2 c1 b3 o2 l1 c0 e0 aj r0 [.obj b1 (.cells [.func (.func 60) #[] #[]] .own)])⟩|.inr _,_=>⟨(.exit 0),[],(gC b0 a0 l2 c1 b3 o2 l1 c0 e0 aj r0 [.obj b1 (.cells [.func (.func 60) #[] #[]] .own)])⟩) r9 ?_ ?_
 refine lo h9 () [10,11,8,13,12,0,1,9] (fun v23 _=>⟨.normal,[(1,.func (.func 66) #[] #[ptr b0 0]),(8,bI a3 l4 c3),(9,dC l4),(10,bg v23)],(gC b0 a0 l2 c1 b3 o2 l1 c0 e0 aj r0 [ju a3 c3 l4 e3,fT bl r8 l4 e3,.obj b1 (.cells [.func (.func 60) #[] #[]] .own)])⟩) ?_;clear hF h9;rintro v23 ⟨⟩ r hF;unfold zv at hF;refine wz ?_;refine UJ ?_;rcases U hF with⟨h53,hF⟩|⟨h53,hF⟩;refine au ?_;obtain⟨h54,hF⟩:=cW hF;refine U0 (k:=5) rfl (aU h54) ?_;rintro b7 o5 rfl;refine wz ?_;obtain⟨l14,h55,hF⟩:=J hF;refine wl 1 0 7 0 h55 ?_;rintro⟨a10,c10⟩;refine au ?_;obtain⟨v9,h56,hF⟩:=J hF;refine wq (fun v9 (_:VC)=>(.bool v9,(gC b0 a0 l2 c1 b3 o2 l1 c0 e0 aj r0 (.obj b1 (.cells [.func (.func 60) #[] #[]] .own)::ki b7 o5 l4 e3 bl r8 c3 [])))) v9 (fun m hm=>?_) ?_;clear hF;revert v9;intro r hF;refine aS (N:=11) (rs:=[.tmp 5]) rfl Try.func66 rfl rfl rfl hm ?_;refine au ?_;obtain⟨l7,h57,hF⟩:=J hF;refine wc gn (fun m hm=>qw h57 m (hm.q 3) (hm.q 6) (hm.dp (q:=5) rfl) (hm.q 0)) ?_;rintro⟨a11,n2⟩;refine Vb (k:=0) (xs:=l7) rfl ?_;rintro rfl;obtain⟨r16,h58,hF⟩:=J hF;refine wc gn (fun m hm=>MW h58 m (hm.rd (k:=0) rfl (.sl _ _ _ _))) ?_;rintro⟨⟩;refine au ?_;cases hF;exact ar () [3,4,5,6,7,10,2,9,8];rintro⟨⟩;refine wz ?_;rcases U hF with⟨h59,hF⟩|⟨h59,hF⟩;refine au ?_;cases hF;exact ae () (Vg 0 6);refine au ?_;cases hF;exact ae () [0,1,2,3,4,8,7,5];refine wz ?_;cases hF;exact ae () [0,1,2,3,4,7];rcases r9 with _|_;rintro⟨⟩;refine wz ?_;cases hF;exact ar () (Vg 0 6);rintro⟨⟩;refine gB ?_;cases hF;exact ar () (Vg 0 6);rintro⟨⟩;refine au ?_;obtain rfl:=Sb hF;exact ar () (Vg 0 6);rintro⟨⟩;refine wz ?_;rcases U hF with⟨h60,hF⟩|⟨h60,hF⟩;refine au ?_;cases hF;exact ae () [0,1,4,3,5];refine au ?_;cases hF;exact ae () [5,0,1,4,3];refine wz ?_;cases hF;exact ae () [1,2,3,4,0];rcases r7 with v21|_;rintro⟨⟩;refine wz ?_;obtain rfl:=Sb hF;exact ar () (Vg 0 5);rintro⟨⟩;refine gB ?_;cases hF;exact ar () (Vg 0 5);rintro⟨⟩;refine au ?_;rcases U hF with⟨h61,hF⟩|⟨h61,hF⟩;refine au ?_;cases hF;exact ar () [];refine au ?_;refine UI (j9 rfl rfl) rfl ?_;obtain⟨v10,h62,hF⟩:=J hF;refine wq (fun v10 (_:VC)=>(.int .i64 v10,(fR b0 a0 l2 c1 a1 l1 c0 e0 aj r0 []))) v10 (fun m hm=>?_) ?_;clear hF;revert v10;intro r hF;refine aS (N:=19) (rs:=[.tmp 4]) rfl Try.func31 rfl rfl rfl hm ?_;refine au ?_;refine UN ?_;obtain⟨r10,h10,hF⟩:=J hF;refine ct (fun(r:Int⊕VC) (g:VC)=>match r,g with|.inl v24,_=>⟨.ret,[(4,bg v24)],(fR b0 a0 l2 c1 a1 l1 c0 e0 aj r0 [])⟩|.inr _,_=>⟨(.exit 0),[],(fR b0 a0 l2 c1 a1 l1 c0 e0 aj r0 [])⟩) r10 ?_ ?_
 refine lo h10 () [4,0,1,2,3] (fun v25 _=>⟨.normal,((1,.func (.func 67) #[] #[ptr b1 0,ptr b0 0])::AJ a1 l1 c0 v25 []),(.obj b1 (.cells [.func (.func 60) #[] #[]] .own)::fR b0 a0 l2 c1 a1 l1 c0 e0 aj r0 [])⟩) ?_;clear hF h10;rintro v25 ⟨⟩ r hF;unfold zn at hF;refine wz ?_;refine UJ ?_;rcases U hF with⟨h63,hF⟩|⟨h63,hF⟩;refine au ?_;obtain⟨h64,hF⟩:=cW hF;refine U0 (k:=3) rfl (aU h64) ?_;rintro b4 o3 rfl;refine wz ?_;obtain⟨⟨l15,l16⟩,h65,hF⟩:=J hF;refine wl 2 0 5 0 h65 ?_;rintro⟨⟨a12,c11⟩,⟨a13,c12,e7⟩⟩;refine wa z54 fun b19=>?_;refine au ?_;obtain⟨v11,h66,hF⟩:=J hF;refine wq (fun v11 (_:VC)=>(.bool v11,(gC b0 a0 l2 c1 b4 o3 l1 c0 e0 aj r0 [.obj b1 (.cells [.func (.func 60) #[] #[]] .own)]))) v11 (fun m hm=>?_) ?_;clear hF;revert v11;intro r hF;refine aS (N:=9) (rs:=[.tmp 4]) rfl Try.func67 rfl rfl rfl hm ?_;refine wz ?_;refine wb fun b20=>?_;refine au ?_;refine UI (j9 rfl rfl) rfl ?_;obtain⟨v12,h67,hF⟩:=J hF;refine wq (fun v12 (_:VC)=>(.bool v12,(gC b0 a0 l2 c1 b4 o3 l1 c0 e0 aj r0 [.obj b1 (.cells [.func (.func 60) #[] #[]] .own)]))) v12 (fun m hm=>?_) ?_;clear hF;revert v12;intro r hF;refine aS (N:=20) (rs:=[.tmp 4]) rfl Try.func60 rfl rfl rfl hm ?_;refine wz ?_;refine wb fun b21=>?_;refine au ?_;obtain⟨l5,h68,hF⟩:=J hF;refine Fx gn (fun m hm=>j7 h68 m hm.dW (hm.q 3) (hm.no 3) (hm.q 4) (hm.no 4) (hm.dp (q:=5) rfl) (hm.gQ (q:=5) rfl)) ?_;rintro⟨a4,c4,n4,e4,r11⟩;refine Wo.jH (k:=0) (q:=1) (L:=l5) rfl (.inr (.inl ⟨_,rfl⟩)) rfl ?_;rintro rfl;refine wz ?_;refine UN ?_;obtain⟨r12,h11,hF⟩:=J hF;refine ct (fun(r:VC⊕VC) (g:VC)=>match r,g with|.inl _,_=>⟨.ret,[(4,.bool true)],(gC b0 a0 l2 c1 b4 o3 l1 c0 e0 aj r0 [.obj b1 (.cells [.func (.func 60) #[] #[]] .own)])⟩|.inr _,_=>⟨(.exit 0),[],(gC b0 a0 l2 c1 b4 o3 l1 c0 e0 aj r0 [.obj b1 (.cells [.func (.func 60) #[] #[]] .own)])⟩) r12 ?_ ?_
 refine lo h11 () [10,11,8,13,12,0,1,9] (fun v26 _=>⟨.normal,[(1,.func (.func 68) #[] #[ptr b0 0]),(8,bI a4 l5 c4),(9,dC l5),(10,bg v26)],(gC b0 a0 l2 c1 b4 o3 l1 c0 e0 aj r0 [ju a4 c4 l5 e4,fT bl r11 l5 e4,.obj b1 (.cells [.func (.func 60) #[] #[]] .own)])⟩) ?_;clear hF h11;rintro v26 ⟨⟩ r hF;unfold yG at hF;refine wz ?_;refine UJ ?_;rcases U hF with⟨h69,hF⟩|⟨h69,hF⟩;refine au ?_;obtain⟨h70,hF⟩:=cW hF;refine U0 (k:=5) rfl (aU h70) ?_;rintro b8 o6 rfl;refine wz ?_;obtain⟨l17,h71,hF⟩:=J hF;refine wl 1 0 7 0 h71 ?_;rintro⟨a14,c13⟩;refine au ?_;obtain⟨v13,h72,hF⟩:=J hF;refine wq (fun v13 (_:VC)=>(.bool v13,(gC b0 a0 l2 c1 b4 o3 l1 c0 e0 aj r0 (.obj b1 (.cells [.func (.func 60) #[] #[]] .own)::ki b8 o6 l5 e4 bl r11 c4 [])))) v13 (fun m hm=>?_) ?_;clear hF;revert v13;intro r hF;refine aS (N:=14) (rs:=[.tmp 5]) rfl Try.func68 rfl rfl rfl hm ?_;refine au ?_;obtain⟨l8,h73,hF⟩:=J hF;refine wc gn (fun m hm=>qw h73 m (hm.q 3) (hm.q 6) (hm.dp (q:=5) rfl) (hm.q 0)) ?_;rintro⟨a15,n5⟩;refine Vb (k:=0) (xs:=l8) rfl ?_;rintro rfl;obtain⟨r17,h74,hF⟩:=J hF;refine wc gn (fun m hm=>E9 h74 m (hm.rd (k:=0) rfl (.sl _ _ _ _))) ?_;rintro⟨⟩;refine wz ?_;refine UI (aJ rfl rfl (Lu u4)) rfl ?_;refine au ?_;cases hF;exact ar () [3,4,5,6,7,10,2,9,8];rintro⟨⟩;refine wz ?_;rcases U hF with⟨h75,hF⟩|⟨h75,hF⟩;refine au ?_;cases hF;exact ae () (Vg 0 6);refine au ?_;cases hF;exact ae () [0,1,2,3,4,8,7,5];refine wz ?_;cases hF;exact ae () [0,1,2,3,4,7];rcases r12 with _|_;rintro⟨⟩;refine wz ?_;cases hF;exact ar () (Vg 0 6);rintro⟨⟩;refine gB ?_;cases hF;exact ar () (Vg 0 6);rintro⟨⟩;refine au ?_;obtain rfl:=Sb hF;exact ar () (Vg 0 6);rintro⟨⟩;refine wz ?_;rcases U hF with⟨h76,hF⟩|⟨h76,hF⟩;refine au ?_;cases hF;exact ae () [0,1,4,3];refine au ?_;cases hF;exact ae () [5,0,1,4,3];refine wz ?_;cases hF;exact ae () [1,2,3,4];rcases r10 with v24|_;rintro⟨⟩;refine wz ?_;obtain rfl:=Sb hF;exact ar () [0,1,2,3];rintro⟨⟩;refine gB ?_;cases hF;exact ar () [0,1,2,3];rintro⟨⟩;refine au ?_;rcases U hF with⟨h77,hF⟩|⟨h77,hF⟩;refine au ?_;cases hF;exact ar () [];refine au ?_;obtain⟨⟨r18,r19⟩,h78,hF⟩:=J hF;refine wc gn (fun m hm=>Mj h78 m (hm.q 1) (hm.q 2) (hm.dp (q:=3) rfl)) ?_;rintro⟨⟩;refine au ?_;cases hF;exact ar () []
def w7{n l1 l5 a2 c3 a6 c7}{rr8:Uy}{es9:Uw}{r}(hF:EP n l1 l5=some r)(m)(h4:kq m a2 c3 l1)(h10:nY m a6 c7 l5 es9)(h11:(cp aj rr8 l5 es9).P m):
 aK (Vq p q) 23 [lO a2 l1 c3 a6 l5 c7] m (Vm m (.int .i64 r)):=by
 unfold EP at hF;refine cw Try.func23 (Hp.nV (U2 (U2 (UU m) eo h4) (fg eo) h10) (fg (fg eo)) h11) ?_;refine wz ?_;refine wb fun b12=>?_;refine au ?_;obtain⟨⟨r14,r15⟩,h13,hF⟩:=J hF;refine wc gn (fun m hm=>Gl h13 m (hm.q 3) (hm.q 2) (hm.dp (q:=1) rfl)) ?_;rintro⟨⟩;refine au ?_;rcases U hF with⟨h16,hF⟩|⟨h16,hF⟩;refine au ?_;cases hF;exact ar () [];refine gB ?_;cases hF;exact ar () []
def GK(n l1 b1 b2 b0){m0:Vn}: ∀(k:Nat) (x3:Int) (r0:Int),Ot n l1 k () x3=some r0->∀(rest:VB Pc) (m:Vn),Hp m0 m (.obj b1 (.cells [.map (some b2)] .own)::.obj b2 (.map (l1.map (eM (fun n:Int=>.int .i64 n) (fun n:Int=>.int .i64 n))))::.obj b0 (.cells [.func (.func 28) #[] #[ptr b1 0,ptr b0 0]] .own)::rest) ->
 aK (Vq (some mK) q) 28 [bg x3,ptr b1 0,ptr b0 0] m (fun v m'=>∃_:VC,v=.int .i64 r0/\Hp m0 m' (.obj b1 (.cells [.map (some b2)] .own)::.obj b2 (.map (l1.map (eM (fun n:Int=>.int .i64 n) (fun n:Int=>.int .i64 n))))::.obj b0 (.cells [.func (.func 28) #[] #[ptr b1 0,ptr b0 0]] .own)::rest)):=by
 intro k
 induction k with
 | zero=>intro x3 r0 hF; cases hF
 | succ k ih =>
 intro x3 r0 hF rest m hm;replace hF:Nd n (Ot n l1 k) l1 () x3=_:=hF;unfold Nd at hF;refine aS (N:=23) (rs:=[.tmp 4]) rfl Try.func28 rfl rfl rfl hm ?_;clear hm;refine au ?_;obtain⟨⟨y0,y1⟩,h1,hF⟩:=J hF;refine UI (IJ (q:=1) (xs:=l1) (k:=x3) (vE:=(fun n:Int=>.int .i64 n)) (z0:=(0:Int)) Ob (JG u3) z3 rfl rfl rfl rfl h1) rfl ?_;refine wz ?_;refine UJ ?_;obtain⟨v0,h2,hF⟩:=J hF;refine ct (fun v0 (_:VC)=>⟨.normal,[(0,bg x3),(2,ptr b0 0),(5,bg y0),(18,.bool v0)],(.obj b0 (.cells [.func (.func 28) #[] #[ptr b1 0,ptr b0 0]] .own)::.obj b1 (.cells [.map (some b2)] .own)::.obj b2 (.map (l1.map (eM (fun n:Int=>.int .i64 n) (fun n:Int=>.int .i64 n))))::rest)⟩) v0 ?_ ?_;clear hF;revert v0;intro r hF;refine wz ?_;rcases U hF with⟨h3,hF⟩|⟨h3,hF⟩;refine wz ?_;cases hF;exact aT () (aa.my 3 [2,0,1] rfl rfl rfl);refine wz ?_;cases hF;exact aT () (aa.my 3 [2,0,1] rfl rfl rfl);rintro⟨⟩;refine UR ?_;rcases U hF with⟨h0,hF⟩|⟨h0,hF⟩;refine U3 rfl h0<|UJ<|UK<|UI (aI (k:=0) JP rfl rfl rfl) rfl<|UI (aV rfl) rfl ?_;obtain⟨r1,h4,hF⟩:=J hF;refine UW (aa.my 3 [1,2,0] rfl rfl rfl)<|UX (mC (α:=VC) (V:=fun _=>.int .i64 r1) (N:=fun _=>(.obj b1 (.cells [.map (some b2)] .own)::.obj b2 (.map (l1.map (eM (fun n:Int=>.int .i64 n) (fun n:Int=>.int .i64 n))))::.obj b0 (.cells [.func (.func 28) #[] #[ptr b1 0,ptr b0 0]] .own)::rest)) rfl rfl (fun m hm=>ih y0 r1 h4 rest m hm)) gn rfl fun _=>?_;refine au ?_;have hr:=Sb hF;subst r0;exact UY (.tmp rfl .nil) fun m' hm=>⟨(),rfl,(aa.my 3 [0,1,2] rfl rfl rfl) m' hm⟩;refine gB ?_;have hr:=Sb hF;subst r0;exact UY (.tmp rfl .nil) fun m' hm=>⟨(),rfl,(aa.my 3 [1,2,0] rfl rfl rfl) m' hm⟩
def KK(hE:EnvOk (Vq (some mK) q))(n:Nat)(l3:Uu)(l2:Us)(a0:Ux)(c0:Nat)(a1:Ux)(c1:Nat)(r0:Uy)(e0:Uw)(r:(Int×Int×Int×Int×Int) ⊕(VB (Ut)×Uu))(hF:Mm n l3 l2=some r)(m:Vn)(h16:kq m a0 c0 l3)(h17:nY m a1 c1 l2 e0)(h18:(cp aj r0 l2 e0).P m){R:Uz->Vn->Prop}(kR:∀x,r=.inl x->∀m':Vn,Hp m m' []->R (.tuple #[.int .i64 x.1,.int .i64 x.2.1,.int .i64 x.2.2.1,.int .i64 x.2.2.2.1,.int .i64 x.2.2.2.2]) m')(kN:∀x,r=.inr x->∀g:Nat×Ux×Nat×Nat,Vk (Vq (some mK) q) 84 10 none (Qc 7 (ml Try.f10)) (jA (Vq (some mK) q) [.tmp 2,.tmp 3,.tmp 4,.tmp 5,.tmp 6] R) m ((fun(r:VB (Ut)×Uu) (g:Nat×Ux×Nat×Nat)=>match r,g with |(l7,l9),(b6,a3,b7,b8)=>([(1,ptr b6 0),(5,.int .i64 0),(8,bQ a3 l7),(9,ptr b7 0)]:Fs)) x g) ((fun(r:VB (Ut)×Uu) (g:Nat×Ux×Nat×Nat)=>match r,g with |(l7,l9),(b6,a3,b7,b8)=>((fR b6 a0 l3 c0 a1 l2 c1 e0 aj r0 [j8 a3 l7,eu b7 b8,ye b8 l9]):VB Pc)) x g)) :
 Vk (Vq (some mK) q) 84 10 none (ml Try.f10) (jA (Vq (some mK) q) [.tmp 2,.tmp 3,.tmp 4,.tmp 5,.tmp 6] R) m (oh [lO a0 l3 c0 a1 l2 c1] 0 []) [fT aj r0 l2 e0,CK a1 c1 l2 e0,rR a0 c0 l3]:=by
 unfold Mm at hF;refine Vk.seq hE<|UK<|wb fun b3=>?_;refine wz ?_;refine At.Ih<|Vk.seq hE ?_;refine wz ?_;obtain⟨r4,h4,hF⟩:=J hF;refine wc gn (fun m hm=>w7 h4 m (hm.q 3) (hm.q 2) (hm.dp (q:=1) rfl)) ?_;rintro⟨⟩;refine au ?_;rcases U hF with⟨h5,hF⟩|⟨h5,hF⟩;refine au ?_;cases hF;exact UY (.tmp rfl (.tmp rfl (.tmp rfl (.tmp rfl (.tmp rfl .nil))))) fun m' hm=>kR _ rfl m' (UO [] rfl rfl m' hm);refine wz ?_;refine At.Ih<|Vk.seq hE ?_;refine wz ?_;obtain⟨l1,h6,hF⟩:=J hF;refine wc gn (fun m hm=>E3 n l3 l2 a0 c0 a1 c1 r0 e0 _ h6 m (hm.q 3) (hm.q 2) (hm.dp (q:=1) rfl)) ?_;rintro⟨a2,n0⟩;refine Vb (k:=0) (xs:=l1) rfl ?_;rintro rfl;refine wz ?_;refine At.Ih<|Vk.seq hE<|UK<|UX Fi gn rfl fun b2=>?_;refine wa z70 fun b0=>?_;refine wz ?_;refine At.Ih<|Vk.seq hE<|UK<|wa RI fun b1=>?_;refine UQ<|At.Ih<|Vk.seq hE<|UK<|UI (j9 rfl rfl) rfl ?_;refine wz ?_;refine At.Ih<|Vk.seq hE ?_;refine wz ?_;refine UN ?_;obtain⟨l8,h1,hF⟩:=J hF;refine ct (fun l8 (_:VC)=>⟨(.exit 0),[(1,ptr b3 0),(5,.int .i64 0),(8,bQ a2 l1),(9,ptr b0 0)],(fR b3 a0 l3 c0 a1 l2 c1 e0 aj r0 [j8 a2 l1,eu b0 b2,ye b2 l8])⟩) l8 ?_ ?_;refine lo h1 () [4,7,6,5,3,1,2,0] (fun(l10,v0) _=>⟨.normal,[(1,ptr b3 0),(5,.int .i64 0),(8,bQ a2 l1),(9,ptr b0 0),(10,ptr b1 0),(28,bQ a2 l1),(29,dC l1),(30,bg v0)],(fR b3 a0 l3 c0 a1 l2 c1 e0 aj r0 [j8 a2 l1,eu b0 b2,ye b2 l10,.obj b1 (.cells [.func (.func 28) #[] #[ptr b0 0,ptr b1 0]] .own)])⟩) ?_;clear hF h1;rintro⟨l10,v0⟩ ⟨⟩ r hF;unfold KV at hF;refine wz ?_;refine UJ ?_;rcases U hF with⟨h7,hF⟩|⟨h7,hF⟩;refine au ?_;obtain⟨h8,hF⟩:=cW hF;refine Vd (k:=4) rfl (aU h8) ?_;rintro b4 t0 rfl h19;refine wz ?_;obtain⟨⟨x3,x4,x10,x11⟩,h20,hF⟩:=J hF;refine wz ?_;refine wa z44 fun b5=>?_;refine au ?_;refine UI (cH rfl RZ rfl (cJ QF rfl rfl rfl)) rfl ?_;refine wz ?_;refine UN ?_;obtain⟨l4,h2,hF⟩:=J hF;refine ct (fun l4 (_:VC)=>⟨(.exit 2),[(1,ptr b3 0),(5,.int .i64 0),(8,tN b4 l1),(9,ptr b0 0),(10,ptr b1 0),(12,ptr b5 0),(28,tN b4 l1),(29,dC l1),(30,bg v0)],(fR b3 a0 l3 c0 a1 l2 c1 e0 aj r0 [s6 b4 l1 t0,eu b0 b2,ye b2 l4,.obj b1 (.cells [.func (.func 28) #[] #[ptr b0 0,ptr b1 0]] .own),fq b5 x3 x4 x10 x11])⟩) l4 ?_ ?_;refine lo h2 () [1,2,3,4,5,6,7,8,0] (fun(l5,v1) _=>⟨.normal,[(1,ptr b3 0),(5,.int .i64 0),(8,tN b4 l1),(9,ptr b0 0),(10,ptr b1 0),(12,ptr b5 0),(28,tN b4 l1),(29,dC l1),(30,bg v0),(38,mI x3 x4),(39,bg v1)],(fR b3 a0 l3 c0 a1 l2 c1 e0 aj r0 [s6 b4 l1 t0,eu b0 b2,ye b2 l5,.obj b1 (.cells [.func (.func 28) #[] #[ptr b0 0,ptr b1 0]] .own),fq b5 x3 x4 x10 x11])⟩) ?_;clear hF h2;rintro⟨l5,v1⟩ ⟨⟩ r hF;unfold K4 at hF;refine wz ?_;refine UJ ?_;rcases U hF with⟨h9,hF⟩|⟨h9,hF⟩;refine wz ?_;refine UJ ?_;obtain⟨l6,h10,hF⟩:=J hF;refine ct (fun l6 (_:VC)=>⟨.normal,[(1,ptr b3 0),(5,.int .i64 0),(8,tN b4 l1),(9,ptr b0 0),(10,ptr b1 0),(12,ptr b5 0),(28,tN b4 l1),(29,dC l1),(30,bg v0),(38,mI x3 x4),(39,bg v1)],(fR b3 a0 l3 c0 a1 l2 c1 e0 aj r0 [s6 b4 l1 t0,eu b0 b2,ye b2 l6,.obj b1 (.cells [.func (.func 28) #[] #[ptr b0 0,ptr b1 0]] .own),fq b5 x3 x4 x10 x11])⟩) l6 ?_ ?_;clear hF;revert l6;intro r hF;refine wz ?_;obtain⟨h11,hF⟩:=az hF;obtain⟨x12,h0,hF⟩:=J hF;refine UX (E8 (α:=VC) (V:=fun g=>match g with|_=>.int .i64 x12) (N:=fun g=>match g with|_=>[]++(fR b3 a0 l3 c0 a1 l2 c1 e0 aj r0 [s6 b4 l1 t0,eu b0 b2,ye b2 l5,.obj b1 (.cells [.func (.func 28) #[] #[ptr b0 0,ptr b1 0]] .own),fq b5 x3 x4 x10 x11])) rfl rfl (fun m hm=>?_)) gn rfl ?_
 have hj:=pG h11;obtain⟨j,h3⟩:∃j:Nat,(v1:Int)=j:=⟨_,(To hj.1).symm⟩;rw[h3] at h0 hj ⊢;rw[SG] at h0 hj;replace hj:=hj.2;clear hF h3
 match j,hj,h0 with
 | 0,_,h0=>cases h0; exact⟨(),yp LX (i:=0) (by decide) (Cb bZ rfl),hm⟩
 | 1,_,h0=>cases h0; exact⟨(),yp LX (i:=1) (by decide) (Cb bZ rfl),hm⟩
 | _+2,hj,_=>exact Sw hj (by omega)
 rintro⟨⟩;refine au ?_;obtain⟨⟨y0,y1⟩,h12,hF⟩:=J hF;refine UI (IJ (q:=6) (xs:=l5) (k:=x12) (vE:=(fun n:Int=>.int .i64 n)) (z0:=(0:Int)) Ob (JG u3) z3 rfl rfl rfl rfl h12) rfl ?_;refine au ?_;rcases U hF with⟨h13,hF⟩|⟨h13,hF⟩;refine wz ?_;refine U4 (D0 (q:=6) (xs:=l5) (k:=x12) (v:=x12) (vE:=(fun n:Int=>.int .i64 n)) Ob (JG u3) rfl rfl rfl rfl) ?_;refine wz ?_;cases hF;exact ae () (Vg 0 9);refine wz ?_;obtain rfl:=Sb hF;exact ae () (Vg 0 9);rintro⟨⟩;refine au ?_;cases hF;exact ae () (Vg 0 9);refine wz ?_;cases hF;exact ae () (Vg 0 9);rintro⟨⟩;refine wz ?_;refine U6 (prs:=[(0,4),(4,5),(4,7),(0,8)]) (by kernel_rfl)<|Vc rfl (aI (k:=5) JO rfl rfl rfl) rfl<|UL (aI (k:=7) JP rfl rfl rfl) rfl<|UL (aG (r:=ptr b5 0) rfl (BO _ _)) rfl<|UL (aI (k:=8) bZ rfl rfl rfl) rfl ?_
 obtain⟨r1,h14,hF⟩:=J hF;refine Ve (UO [5,6,7,0,1,2,3,4,8] rfl rfl) ?_;refine Wn.xk (l:=[b0,b1,b5]) (mC (α:=VC) (V:=fun _=>.int .i64 r1) (N:=fun _=>(eu b0 b2::ye b2 l4::.obj b1 (.cells [.func (.func 28) #[] #[ptr b0 0,ptr b1 0]] .own)::fR b3 a0 l3 c0 a1 l2 c1 e0 aj r0 [s6 b4 l1 t0,fq b5 x3 x4 x10 x11])) rfl rfl (fun m hm=>GK n l4 b0 b2 b1 n x3 r1 h14 ((fR b3 a0 l3 c0 a1 l2 c1 e0 aj r0 [s6 b4 l1 t0,fq b5 x3 x4 x10 x11])) m hm)) ⟨⟨_,0,rfl,rfl,fun _=>⟨0,rfl⟩⟩,⟨⟨_,2,rfl,rfl,fun _=>⟨2,rfl⟩⟩,⟨⟨_,8,rfl,rfl,fun _=>⟨8,rfl⟩⟩,trivial⟩⟩⟩ gn rfl fun _=>?_;refine Vc rfl (aI (k:=2) JP rfl rfl rfl) rfl<|UL (aG (r:=ptr b5 1) rfl (Ce _ _)) rfl<|Vc rfl (aI (k:=8) bZ rfl rfl rfl) rfl ?_;obtain⟨r3,h15,hF⟩:=J hF;refine Ve (UO (Vg 0 9) rfl rfl) ?_;refine Wn.xk (l:=[b0]) (mC (α:=VC) (V:=fun _=>.int .i64 r3) (N:=fun _=>(eu b0 b2::ye b2 l4::.obj b1 (.cells [.func (.func 28) #[] #[ptr b0 0,ptr b1 0]] .own)::fR b3 a0 l3 c0 a1 l2 c1 e0 aj r0 [s6 b4 l1 t0,fq b5 x3 x4 x10 x11])) rfl rfl (fun m hm=>GK n l4 b0 b2 b1 n x4 r3 h15 ((fR b3 a0 l3 c0 a1 l2 c1 e0 aj r0 [s6 b4 l1 t0,fq b5 x3 x4 x10 x11])) m hm)) ⟨⟨_,0,rfl,rfl,fun _=>⟨0,rfl⟩⟩,trivial⟩ gn rfl fun _=>?_;refine Wn.o0 (D0 (q:=1) (xs:=l4) (k:=r1) (v:=r3) (vE:=(fun n:Int=>.int .i64 n)) Ob (JG u3) rfl rfl rfl rfl) ?_;refine U1 (fun m hm=>(by(first|refine dq.rk rfl rfl rfl (by simp) ?_|refine dq.step rfl ?_); exact(by(first|refine dq.kr rfl rfl rfl (by simp) ?_|refine dq.step rfl ?_); exact(by(first|refine dq.kr rfl rfl rfl (by simp) ?_|refine dq.step rfl ?_); exact(by(first|refine dq.rk rfl rfl rfl (by simp) ?_|refine dq.step rfl ?_); exact dq.nil))))) ?_
 refine au ?_;cases hF;exact aT () (UT (UP (k:=7) rfl) (UO [3,4,5,6,7,0,1,2] rfl rfl));refine wz ?_;cases hF;exact ae () (Vg 0 7);rintro⟨⟩;refine Vf<|At.Ih ?_;cases hF;exact Vk.Gz (sc rfl (sc rfl (sc rfl (sc rfl sn)))) (UO (Vg 0 7) rfl rfl) (kN _ rfl (b3,a2,b0,b2))
end
section
open Go Go.Ab Go.Ab.W
set_option maxRecDepth 10000
attribute [local irreducible] Tm.at Trie.set Trie.get Vn.get Vn.set Vn.alloc Vn.ww Vn.kill
def jd(r:Uu)(S:VB Nat):Int:=((S.filterMap fun i=>r[i]?).countP (fun p=>decide (p.1=p.2)):Nat)
def sA{r:Uu}{S:VB Nat}{i:Nat}{e:Int×Int}(h:r[i]? = some e):jd r (S++[i])=jd r S+if e.1=e.2 then 1 else 0:=by
 unfold jd;rw[List.filterMap_append,List.countP_append];simp[h,List.countP_cons]
 split<;>rfl
def Fo{r:Uu}{S:VB Nat}:0<=jd r S/\jd r S<=S.length:=by
 unfold jd;have h1:=List.countP_le_length (p:=fun p:Int×Int=>decide (p.1=p.2)) (l:=S.filterMap fun i=>r[i]?);have h2:=List.length_filterMap_le (fun i=>r[i]?) S;omega
def y8(r:Uu):jd r (List.range r.length)=pM r:=by
 unfold jd pM;have:∀(r:Uu),(List.range r.length).filterMap (fun i=>r[i]?)=r:=by
  intro r
  induction r with
  | nil=>rfl
  | cons x r ih =>
   rw[SS,List.range_succ_eq_map,List.filterMap_cons];simp only[SB,List.filterMap_map]
   congr 1
 rw[this]
def BS{r:Uu}{S:VB Nat}(h:S.Perm (List.range r.length)):jd r S=pM r:=by
 rw[<-y8];unfold jd;rw[(h.filterMap _).countP_eq]
def HN{x:Int}(h1:0<=x)(h2:x<=1073741825):UE x=x:=by
 simp only[IntKind.wrap,IntKind.bits,IntKind.signed]
 show(if(true&&decide (x%18446744073709551616≥9223372036854775808))=true then x%18446744073709551616-18446744073709551616 else x%18446744073709551616)=x
 simp only[TL,Sj]
 split<;>omega
abbrev EN:Int×Int->Uz×Uz:=eM (fun n:Int=>.int .i64 n) (fun n:Int=>.int .i64 n)
abbrev KC(x:Int×Int×Int×Int×Int):Uz:=.tuple #[.int .i64 x.1,.int .i64 x.2.1,.int .i64 x.2.2.1,.int .i64 x.2.2.2.1,.int .i64 x.2.2.2.2]
set_option maxHeartbeats 4000000
def NP{m:Vn}{l1:Uu}{l5:Us}{a2:Ux}{c3:Nat}{a6:Ux}{c7:Nat}{rr8:Uy}{es9:Uw}{l:VB dS}{r:Uu}{b:Nat}{a:Ux}{b2 b3:Nat}(hlim:lim r.length=true){R:Uz->Vn->Prop}
  (hR:∀m':Vn,Hp m m' []->R (KC (r.length,l.length,l5.length,pM r,0)) m') :
  Vk (Vq (some mK) none) 84 10 none (Qc 7 (ml Try.f10)) (jA (Vq (some mK) none) [.tmp 2,.tmp 3,.tmp 4,.tmp 5,.tmp 6] R) m [(1,ptr b 0),(5,.int .i64 0),(8,.slice a l.length l.length),(9,ptr b2 0)]
   [.obj b (.cells [.slice a2 l1.length c3,.slice a6 l5.length c7] .own),.rd a2 c3 2 l1.length (l1.map (eP (eI .i64) (eI .i64))),.rd a6 c7 2 l5.length es9,.gen (cp aj rr8 l5 es9),.sl a 4 l.length (l.map (eP (eI .i64) (eP (eI .i64) (eP (eI .i64) (eI .i64))))),.obj b2 (.cells [.map (some b3)] .own),.obj b3 (.map (r.map EN))]:=by
 refine Vk.mapRange (E:=Vq (some mK) none) pt (fun h=>h) (γ:=VC) (kt:=3) (et:=3) ⟨rfl,rfl⟩ ⟨rfl,rfl,rfl⟩ Ob ⟨rfl,rfl,rfl⟩ ⟨rfl,rfl,rfl⟩ ⟨rfl,rfl,rfl⟩ rfl (by decide) (by decide) (bm:=b3) (k:=6) (es:=r.map EN)
  (fun t m' hf hm=>zR (k:=5) JO rfl rfl rfl hf hm) rfl
  (fun bi S _=>([(1,ptr b 0),(5,.int .i64 (jd r S)),(8,.slice a l.length l.length),(9,ptr b2 0),(65,ptr bi 0)],[]))
  (fun bi S g=>rfl) (fun bi S g p hp=>by cases hp) (fun _=>()) (fun bi=>⟨sc rfl (sc rfl (sc rfl (sc rfl (sc rfl sn)))),fun m1=>UO [] rfl rfl⟩) ?_ ?_
 intro bi m1 S i e a' hS hSl hi he;rw[Si] at hSl;rw[S5] at he;obtain⟨e,he0,rfl⟩:=Option.map_eq_some_iff.1 he;clear he;have hn:S.length<=r.length:=by
  simpa using hS.length_le_of_subset (fun x hx=>SM.2 (hSl x hx):S⊆List.range r.length)
 have hc:=Fo (r:=r) (S:=S);have hll:=oW hlim;refine UI (KD rfl rfl) rfl ?_;refine UI (KD rfl rfl) rfl ?_;refine UI (bG rfl) rfl ?_;refine UI (bG rfl) rfl ?_;refine UQ (Q:=fun _=>_) ?_
 show Wk (Vq (some mK) none) 84 10 none _ _ m1 _ _
 refine UJ ?_;refine UK ?_;refine UI (aV rfl) rfl ?_;refine UI (aV rfl) rfl ?_;refine UI (aJ rfl rfl (iN _ _ _)) rfl ?_;refine UQ ?_;refine UR ?_
 by_cases hk:e.1=e.2
 refine U3 rfl (Sd hk) ?_;refine UK ?_;refine UI (aV rfl) rfl ?_;refine UI (aJ rfl rfl (bD _ _ _)) rfl ?_;refine UI (bG rfl) rfl ?_;refine UQ (Q:=fun _=>_) ?_;intro t' m' hf hm;refine⟨rfl,(),?_,hm⟩;have e1:UE (jd r S+1)=jd r (S++[i]):=by rw[sA he0,R7 hk,HN (by omega) (by omega)]
 rw[<-e1];exact hf.sub (sc rfl (sc rfl (sc rfl (sc rfl (sc rfl sn)))))
 refine U8 rfl (Sm hk) ?_;refine U5 ?_;intro t' m' hf hm;refine⟨rfl,(),?_,hm⟩;have e1:jd r S=jd r (S++[i]):=by rw[sA he0,R5 hk,Int.add_zero]
 rw[<-e1];exact hf.sub (sc rfl (sc rfl (sc rfl (sc rfl (sc rfl sn)))))
 intro bi S a' hS;rw[Si] at hS;have hp:=BS hS;refine Vk.of pt ?_;refine UJ ?_;refine Wk.draw (by kernel_rfl) ?_
 refine UI (aI (k:=5) JO rfl rfl rfl) rfl ?_;refine UI (Bs (q:=6) (xs:=r) (f:=EN) Ob rfl rfl rfl) rfl ?_;refine UI (aV rfl) rfl ?_;refine UI (oU (k:=4) QQ rfl rfl (.inl rfl)) rfl ?_;refine UI (aG (r:=ptr b 1) rfl (fb _ _)) rfl ?_;refine UI (aI (k:=0) mz rfl rfl rfl) rfl ?_;refine UI (oU (k:=2) u32 rfl rfl (.inl rfl)) rfl ?_;refine UI (aV rfl) rfl ?_;refine UI (bG rfl) rfl ?_;refine UI (bG rfl) rfl ?_;refine UI (bG rfl) rfl ?_;refine UI (bG rfl) rfl ?_;refine UI (bG rfl) rfl ?_;refine UQ ?_;refine UR ?_;refine U9 ?_;refine UY (.tmp rfl (.tmp rfl (.tmp rfl (.tmp rfl (.tmp rfl .nil))))) fun m' hm=>?_;have:=hR m' ((UO [] rfl rfl) m' hm);rw[<-hp] at this;exact this
open Classical in
noncomputable def mV (args:VB Uz) (m:Vn):VA (Uz×Vn) :=
 match args with
 | [v]=>if h:∃r,∃x:Cx,qo m v x/\KX 0 x.1 x.2=some r then some (KC (Classical.choose h),m) else none
 | _=>none
noncomputable def ED:Prim:=⟨mV⟩
open Classical in
def uE{m m':Vn}{v r:Uz}(h:mV [v] m=some (r,m')):∃x:Cx,∃y,qo m v x/\KX 0 x.1 x.2=some y/\KC y=r/\m=m':=by
 change dite _ _ _=_ at h
 by_cases hx:∃r,∃x:Cx,qo m v x/\KX 0 x.1 x.2=some r
 rw[dif_pos hx] at h;obtain⟨x,h1,h2⟩:=Tj hx;have h3:=Sb h;exact⟨x,_,h1,h2,(Prod.ext_iff.1 h3).1,(Prod.ext_iff.1 h3).2⟩
 rw[dif_neg hx] at h; cases h
open Classical in
def zf{m:Vn}{v:Uz}{x:Cx}{r:Int×Int×Int×Int×Int}(h:qo m v x)(hF:KX 0 x.1 x.2=some r):mV [v] m=some (KC r,m):=by
 have hx:∃r,∃x:Cx,qo m v x/\KX 0 x.1 x.2=some r:=⟨r,x,h,hF⟩
 change dite _ _ _=_
 rw[dif_pos hx];obtain⟨y,h1,h2⟩:=Tj hx;have e1:=h1.uniq h;subst e1;rw[hF] at h2;rw[<-Sb h2]
def w6{args:VB Uz}{m m':Vn}{v:Uz}(h:mV args m=some (v,m'))(pr:Bool){j:aP}{w:UD}{args':VB Uz}(hm:MR (Vq (some mK) none) j m w)(hl:LR j args args') :
  gN (Vq (some mK) none).P pr 10 args'.toArray w (jx (Vq (some mK) none) j m w v m'):=by
 have ha:∃v,args=[v]:=by
  unfold mV at h
  split at h
  exact⟨_,rfl⟩
  cases h
 obtain⟨va,rfl⟩:=ha;obtain⟨⟨l1,l5⟩,y,⟨a,c,a',c',R,es,rfl,h1,h2,h3⟩,hF,rfl,rfl⟩:=uE h;simp only at h1 h2 h3 hF;unfold KX at hF;obtain⟨s,hFA,hF⟩:=J hF;have hh1:Rd { m with wl:=m.next} a c 2 l1.length (l1.map wJ):=CM h1
 have hh2:Rd { m with wl:=m.next} a' c' 2 l5.length es:=CM h2
 have hh3:(cp aj R l5 es).P { m with wl:=m.next}:=KT h3
 refine ry (Ac (E:=Vq (some mK) none) (c:=ml Try.f10) (m0:={ m with wl:=m.next}) (m:={ m with wl:=m.next}) (N:=84) (rs:=[.tmp 2,.tmp 3,.tmp 4,.tmp 5,.tmp 6]) (ps:=[.gen (cp aj R l5 es),.rd a' c' 2 l5.length es,.rd a c 2 l1.length (l1.map wJ)]) pt Try.func10 rfl rfl rfl ((((UU _).cU eo hh1).cU (fg eo) hh2).nV (fg (fg eo)) hh3) ?_) pr hm hl
 have hn0:({ m with wl:=m.next}:Vn).next=m.next:=rfl
 have hg:∀m1:Vn,Hp { m with wl:=m.next} m1 []->Grown m m1:=fun m1 hm1=>⟨hm1.ext.next,fun b hb=>(hm1.ext.same b hb).trans Is,by have:=hm1.ext.wl; rw[hn0] at this; exact SI (Ue (Nat.min_self _).symm) this⟩
 refine KK pt 100000 l1 l5 a c a' c' R es s hFA _ hh1 hh2 hh3 (fun x hx m1 hm1=>?_) fun x hx g=>?_
 subst hx;cases hF;exact⟨hg m1 hm1,.inl ⟨rfl,rfl,rfl⟩⟩
 subst hx;obtain⟨l,r⟩:=x;obtain⟨hc,hF⟩:=az hF;cases hF;exact NP hc fun m1 hm1=>⟨hg m1 hm1,.inl ⟨rfl,rfl,rfl⟩⟩
def J5:EnvOk (Vq (some mK) (some ED)):=tJ (E:=Vq (some mK) none) pt (pr:=(Vq (some mK) (some ED)).cP) fun f P hp=>by
 by_cases e:f=24
 subst e; exact .inl hp
 by_cases e':f=10
 subst e';have hp':some ED=some P:=hp;cases hp';exact .inr fun args m v m' h j w args' hm hl=>w6 h _ hm hl
 refine .inl ?_;have:(Vq (some mK) (some ED)).cP f=(Vq (some mK) none).cP f:=by
  show(if f=24 then _ else if f=10 then _ else _)=(if f=24 then _ else if f=10 then _ else _)
  rw[R5 e,R5 e',R5 e,R5 e']
 rw[<-this]; exact hp
def Ny(n:Nat)(l1:Uu)(l5:Us)(a2:Ux)(c3:Nat)(a6:Ux)(c7:Nat)(rr8:Uy)(es9:Uw)(r:Int×Int×Int×Int×Int)(hF:KX n l1 l5=some r)(m:Vn)(h4:Rd m a2 c3 2 l1.length (l1.map wJ))(h10:Rd m a6 c7 2 l5.length es9)(h11:(cp aj rr8 l5 es9).P m) :
  aK (Vq (some mK) (some ED)) 10 [.agg #[.slice a2 l1.length c3,.slice a6 l5.length c7]] m (Vm m (.tuple #[.int .i64 r.1,.int .i64 r.2.1,.int .i64 r.2.2.1,.int .i64 r.2.2.2.1,.int .i64 r.2.2.2.2])) :=
 aK.cP (p:=ED) rfl (zf (x:=(l1,l5)) ⟨a2,c3,a6,c7,rr8,es9,rfl,h4,h10,h11⟩ hF) ⟨(),rfl,UU m⟩
end
section
set_option maxRecDepth 100000
open Go Go.ChangeShapes Go.WideShapes Go.ChangeAt Go.WideMaps Go.WideElems Go.RowKit Go.Ab Go.Ab.W
def O8:laidOutB Try.prog=true:=by kernel_rfl
def JL:mapsRowed Try.prog=true:=by kernel_rfl
def JI:sizedB Try.prog=true:=by kernel_rfl
def DN{H:Type}{enc:UA×Uz->H}{f:VI}{fn:Func}{s:ChangeSpec}{W:UD}{args:VD Uz}{ds:VB (DataW H)}{before:VB MemPlace}{tb:UA}{fresh handsOn:Bool}{absArgs:VB Uz}(hpr:(Vq (some mK) (some ED)).cP f=none)
  (hvars:s.vars=[]) (hres:fn.resultTypes.toList=[tb]) (hrs:fn.resultTypes.size=1) (htb:Try.prog.underlying tb=some .bool) (hpt:∀t∈fn.params.toList,t<Try.prog.types.size) (hfn:s.fn H ds ={ results:=[.lit (.bool true)],args:=ds,vars:=[]})
  (hW:DataW.Whole enc Try.prog fn.params.toList s.vars false W args.toList ds [] before)
  (hl:LR (ez W) absArgs args.toList) (hc:aK (Vq (some mK) (some ED)) f absArgs (fh W) (fun v m'=>∃x:VC,v=.bool true/\Hp (fh W) m' [])) :
  Calls Try.prog f args W fun e W'=>∃v,e=.returned v/\s.post enc Try.prog fn false fresh handsOn false W args v W':=by
 obtain⟨v,m',⟨fuel,hrun⟩,_,rfl,hm'⟩:=hc;have hm:MR (Vq (some mK) (some ED)) (ez W) (fh W) W:=Ng (Tn _);have hcall:=callsIn_wide.1 (pW J5 hrun hpr hm hl);refine hcall.mono fun e W' ⟨v',he,j',sm,hv⟩=>?_;have hv':v'=.bool true:=fN rfl hv;subst hv';have hwl:(fh W).next<=m'.wl:=by
  have h1:=hm'.ext.wl;have h2:min (fh W).wl (fh W).next=(fh W).next:=Nat.min_self _
  omega
 exact⟨_,he,Gg O8 JL JI hvars hres hrs htb hpt hfn hW sm.calm (sm.grown hm hwl)⟩
def G8{W:UD}(h:W.ShapedOpen Try.prog):0<W.heap.size:=by
 unfold World.ShapedOpen at h;obtain⟨_,h2⟩:=h;have e:((begin Try.prog (fun _ _=>0) default).world).heap.size=Try.prog.globals.size+5:=by
  unfold begin; simp only[Array.size_push,Array.size_mapIdx]
 obtain⟨o,o0,h3,_⟩:=h2 Try.prog.globals.size (Sa _) (by rw[e]; omega)
 exact Nat.lt_of_le_of_lt (Tn _) (Sh.1 h3).1
def Ri:EB Try.prog 5 29=some [.int .u8,.int .u8,.int .u8,.int .i64,.int .i64,.int .i64,.int .u8,.int .u8,.int .u8,.int .i64,.int .i64,.int .i64]:=by kernel_rfl
def QY:EB Try.prog 5 24=some [.int .u8,.int .u8,.sl 5,.sl 5,.bool]:=by kernel_rfl
def RF:EB Try.prog 5 5=some [.int .u8]:=by kernel_rfl
def QK:Try.prog.underlying 29=some (.array 2 28):=by kernel_rfl
section
variable{H:Type}{enc:UA×Uz->H}{W:UD}{sp:Nat->Bool}{held:Bool}{v:Uz}{d:DataW H}{p:VB MemPlace}{base:Nat}
theorem G3{P:UC}{base:Nat}{v:Uz}(h:qZ enc P W base sp held .bool v):∃b,v=.bool b:=h
theorem O7:∀(n:Nat) (cs:VB Uz) (x:DataW H×VB MemPlace),DataW.trod enc Try.prog W 0 sp held n 5 cs=some x->∃p:Nat,cs=eN .u8 p/\p<256:=by
 intro n cs x h;obtain⟨v1,cs,rfl,h1,h⟩:=bX (Ap 5 5 _ RF n _ x h);obtain rfl:=tv h;obtain⟨a,rfl,ha⟩:=lF h1;exact⟨a,rfl,ha⟩
theorem Pf(hok:Value.okWide Try.prog W .any base 24 v)(hs:0<W.heap.size)(h:DataW.Trod enc Try.prog W 0 sp held 24 v d p):∃(x1 x2:Nat) (l3 l4:VB Nat) (x5:Bool) (a3:Ux) (c3:Nat) (a4:Ux) (c4:Nat),
  VR (ez W) (.agg #[.int .u8 ((x1:Nat):Int),.int .u8 ((x2:Nat):Int),.slice a3 l3.length c3,.slice a4 l4.length c4,.bool x5]) v/\x1<256/\x2<256/\(∀q∈l3,q<256)/\(∀q∈l4,q<256)/\Rd (fh W) a3 c3 1 l3.length (l3.map (eN .u8))/\Rd (fh W) a4 c4 1 l4.length (l4.map (eN .u8)):=by
 obtain⟨cs,rfl,_⟩:=okWide_struct (t:=24) (fs:=Try.prog.underlying 24 |>.elim #[] fun u=>match u with|.struct fs=>fs|_=>#[]) (by kernel_rfl) hok
 obtain⟨n,h⟩:=h;obtain⟨v1,r,hr,h1,h⟩:=bX (tD QY h);obtain⟨v2,r,rfl,h2,h⟩:=bX h;obtain⟨v3,r,rfl,h3,h⟩:=bX h;obtain⟨v4,r,rfl,h4,h⟩:=bX h;obtain⟨v5,r,rfl,h5,h⟩:=bX h;obtain rfl:=tv h;obtain⟨x1,rfl,g1⟩:=lF h1;obtain⟨x2,rfl,g2⟩:=lF h2;obtain⟨a3,c3,l3,e1,e2,e3,e4⟩:=GR (f:=eN .u8) (w:=1) (by kernel_rfl) (by omega) hs (fun q=>rfl) O7 h3
 obtain⟨a4,c4,l4,f1,f2,f3,f4⟩:=GR (f:=eN .u8) (w:=1) (by kernel_rfl) (by omega) hs (fun q=>rfl) O7 h4
 obtain⟨x5,rfl⟩:=G3 h5;refine⟨x1,x2,l3,l4,x5,a3,c3,a4,c4,?_,g1,g2,e3,f3,e2,f2⟩;refine FB (l:=[.int .u8 ((x1:Nat):Int),.int .u8 ((x2:Nat):Int),.slice a3 l3.length c3,.slice a4 l4.length c4,.bool x5]) ?_;rw[hr];exact .cons (.int _ _) (.cons (.int _ _) (.cons e1 (.cons f1 (LR.plain rfl))))
theorem OJ(hok:Value.okWide Try.prog W .any base 29 v)(h:DataW.Trod enc Try.prog W 0 sp held 29 v d p):∃(x1 x2 x3:Nat) (x4 x5 x6:Int) (x7 x8 x9:Nat) (x10 x11 x12:Int),
  VR (ez W) (.agg #[.int .u8 ((x1:Nat):Int),.int .u8 ((x2:Nat):Int),.int .u8 ((x3:Nat):Int),.int .i64 x4,.int .i64 x5,.int .i64 x6,.int .u8 ((x7:Nat):Int),.int .u8 ((x8:Nat):Int),.int .u8 ((x9:Nat):Int),.int .i64 x10,.int .i64 x11,.int .i64 x12]) v /\
   (x2<256/\x3<256)/\(x8<256/\x9<256):=by
 obtain⟨cs,rfl,_⟩:=wU QK hok;obtain⟨n,h⟩:=h;obtain⟨v1,r,hr,h1,h⟩:=bX (tD Ri h);obtain⟨v2,r,rfl,h2,h⟩:=bX h;obtain⟨v3,r,rfl,h3,h⟩:=bX h;obtain⟨v4,r,rfl,h4,h⟩:=bX h;obtain⟨v5,r,rfl,h5,h⟩:=bX h;obtain⟨v6,r,rfl,h6,h⟩:=bX h;obtain⟨v7,r,rfl,h7,h⟩:=bX h;obtain⟨v8,r,rfl,h8,h⟩:=bX h;obtain⟨v9,r,rfl,h9,h⟩:=bX h;obtain⟨v10,r,rfl,h10,h⟩:=bX h;obtain⟨v11,r,rfl,h11,h⟩:=bX h;obtain⟨v12,r,rfl,h12,h⟩:=bX h;obtain rfl:=tv h;obtain⟨x1,rfl,g1⟩:=lF h1;obtain⟨x2,rfl,g2⟩:=lF h2;obtain⟨x3,rfl,g3⟩:=lF h3;obtain⟨x4,rfl,_⟩:=nI h4;obtain⟨x5,rfl,_⟩:=nI h5;obtain⟨x6,rfl,_⟩:=nI h6;obtain⟨x7,rfl,g7⟩:=lF h7;obtain⟨x8,rfl,g8⟩:=lF h8;obtain⟨x9,rfl,g9⟩:=lF h9;obtain⟨x10,rfl,_⟩:=nI h10;obtain⟨x11,rfl,_⟩:=nI h11;obtain⟨x12,rfl,_⟩:=nI h12;refine⟨x1,x2,x3,x4,x5,x6,x7,x8,x9,x10,x11,x12,?_,⟨g2,g3⟩,⟨g8,g9⟩⟩;refine FB (l:=[.int .u8 ((x1:Nat):Int),.int .u8 ((x2:Nat):Int),.int .u8 ((x3:Nat):Int),.int .i64 x4,.int .i64 x5,.int .i64 x6,.int .u8 ((x7:Nat):Int),.int .u8 ((x8:Nat):Int),.int .u8 ((x9:Nat):Int),.int .i64 x10,.int .i64 x11,.int .i64 x12]) ?_;rw[hr];exact LR.plain rfl
end
end
section
open Go Go.Ab Go.Ab.W
def uX(n:Nat)(l1:Uv):(Uv×Int)->VA ((Uv×Int)⊕Uv):=fun(l3,v0) =>
br (decide (v0<((Vh l1 10).length:Int))) (
gd (cz v0 ((Vh l1 10).length)) (
ob ((Vh l1 10)[v0.toNat]?) fun l2 =>
gd (okB 0 (mi (l2.length:Int) (42:Int)) l2.length) (
ob (Lj n (Vh l2 42)) fun l4 =>
gd (lim (l3++([l4]:Uv)).length) (
some (.inl ((l3++([l4]:Uv)),UE (v0+1))))))) (
some (.inr l3))
def vG(n:Nat)(l1:Us):(Us×Int)->VA ((Us×Int)⊕Us):=fun(l3,v0) =>
br (decide (v0<((Vh l1 66).length:Int))) (
gd (cz v0 ((Vh l1 66).length)) (
ob ((Vh l1 66)[v0.toNat]?) fun(l2,l4) =>
gd (okB 0 (mi (l2.length:Int) (42:Int)) l2.length) (
ob (Lj n (Vh l2 42)) fun l5 =>
gd (okB 0 (mi (l4.length:Int) (10:Int)) l4.length) (
ob (
bK (uX n l4) n (([]:Uv),0)) fun l6 =>
gd (lim (l3++([(l5,l6)]:Us)).length) (
some (.inl ((l3++([(l5,l6)]:Us)),UE (v0+1)))))))) (
some (.inr l3))
def N0(n:Nat)(l1:Uu)(l2:Us):VA (Uu×Us) :=
gd (okB 0 (mi (l1.length:Int) (125:Int)) l1.length) (
ob (Qs n (Vh l1 125)) fun l3 =>
gd (okB 0 (mi (l2.length:Int) (66:Int)) l2.length) (
ob (
bK (vG n l2) n (([]:Us),0)) fun l4 =>
some (l3,l4)))
def Qx(_:Nat)(l:VB Int)(i j:Int):VA (VB Int):=gd (decide (0<l.length)&&decide (0<=i)&&decide (i<=j)&&decide (j<=(l.length:Int))&&lim l.length) (some (l.take i.toNat++l.drop j.toNat))
def Rp(_:Nat)(l:Us)(i j:Int):VA Us:=gd (decide (0<l.length)&&decide (0<=i)&&decide (i<j)&&decide (j<=(l.length:Int))&&lim l.length) (some (l.take i.toNat++l.drop j.toNat))
def Rg(_:Nat)(l:VB Int)(i:Int)(vs:VB Int):VA (VB Int):=gd (decide (0<=i)&&decide (i<=(l.length:Int))&&lim l.length) (some (l.take i.toNat++(vs++l.drop i.toNat)))
def ur(n:Nat)(l2:VB Int):(VB (Int)×Int×Int)->VA ((VB (Int)×Int×Int) ⊕(VB (Int))):=fun(l1,v0,v1) =>
br (decide (v0<v1)) (
gd (cz v1 l2.length) (
ob (l1[v1.toNat]?) fun x3 =>
gd (cz v0 l2.length) (
ob (l1[v0.toNat]?) fun x4 =>
gd (cz v0 l2.length) (
gd (cz v1 l2.length) (
ob ((l1.set v0.toNat x3)[v1.toNat]?) fun x10 =>
some (.inl (((l1.set v0.toNat x3).set v1.toNat x4),UE (v0+1),UE (v1-1)))))))) (
some (.inr l1))
def G0(n:Nat)(l2:VB Int):(VB (Int)×Int×Int)->VA ((VB (Int)×Int×Int) ⊕(VB (Int))):=fun(l1,v0,v1) =>
br (decide (v0<v1)) (
gd (cz v1 l2.length) (
ob (l1[v1.toNat]?) fun x3 =>
gd (cz v0 l2.length) (
ob (l1[v0.toNat]?) fun x4 =>
gd (cz v0 l2.length) (
gd (cz v1 l2.length) (
ob ((l1.set v0.toNat x3)[v1.toNat]?) fun x10 =>
some (.inl (((l1.set v0.toNat x3).set v1.toNat x4),UE (v0+1),UE (v1-1)))))))) (
some (.inr l1))
def uf(n:Nat)(x3:Nat)(l3:VB Int):Uv->VA (Uv⊕Uv):=fun l1 =>
br (decide ((l1.length:Int)<UE (8+(UE ((x3%2:Nat):Int))))) (
ob (Lj n l3) fun l2 =>
gd (lim (l1++([l2]:Uv)).length) (
some (.inl (l1++([l2]:Uv))))) (
some (.inr l1))
def N1(n:Nat)(x1:Nat)(x2:Nat)(x3:Nat)(x4:Int)(x5:Int)(x6:Int)(l13:Uu)(l14:Us):VA (Uu×Us) :=
ob (N0 n l13 l14) fun(l2,l1) =>
ob (
br (decide ((l2.length:Int)=0)) (
some true) (
some (decide ((l1.length:Int)=0)))) fun v0 =>
br (v0) (
some (l2,l1)) (
gd (decide ((l2.length:Int)≠0)) (
gd (decide ((l1.length:Int)≠0)) (
gd (cz (Int.tmod (UE ((x2:Nat):Int)) (l1.length:Int)) l1.length) (
ob (l1[(Int.tmod (UE ((x2:Nat):Int)) (l1.length:Int)).toNat]?) fun(l3,l4) =>
ob (
br (decide (x1%14=0)) (
gd (cz (Int.tmod (UE ((x2:Nat):Int)) (l2.length:Int)) l2.length) (
ob (l2[(Int.tmod (UE ((x2:Nat):Int)) (l2.length:Int)).toNat]?) fun(x12,x13) =>
some ((l2.set ((Int.tmod (UE ((x2:Nat):Int)) (l2.length:Int)).toNat) (x5,x6)),l2.length,l1.length,(l1.set ((Int.tmod (UE ((x2:Nat):Int)) (l1.length:Int)).toNat) (l3,l4))))) (
br (decide (x1%14=1)) (
gd (decide ((l2.length:Int)≠0)) (
gd (cz (Int.tmod (UE ((x3:Nat):Int)) (l2.length:Int)) l2.length) (
ob (l2[(Int.tmod (UE ((x3:Nat):Int)) (l2.length:Int)).toNat]?) fun(x10,x11) =>
gd (cz (Int.tmod (UE ((x2:Nat):Int)) (l2.length:Int)) l2.length) (
ob (l2[(Int.tmod (UE ((x2:Nat):Int)) (l2.length:Int)).toNat]?) fun(x14,x15) =>
some ((l2.set ((Int.tmod (UE ((x2:Nat):Int)) (l2.length:Int)).toNat) (x10,x11)),l2.length,l1.length,(l1.set ((Int.tmod (UE ((x2:Nat):Int)) (l1.length:Int)).toNat) (l3,l4))))))) (
br (decide (x1%14=2)) (
gd (lim (l2++[(x5,x6)]).length) (
some ((l2++[(x5,x6)]),(l2++[(x5,x6)]).length,l1.length,(l1.set ((Int.tmod (UE ((x2:Nat):Int)) (l1.length:Int)).toNat) (l3,l4))))) (
br (decide (x1%14=3)) (
gd (okB 0 (Int.tmod (UE ((x2:Nat):Int)) (l2.length:Int)) l2.length) (
gd (decide (0<l2.length)) (
ob (some (l2.take (Int.tmod (UE ((x2:Nat):Int)) (l2.length:Int):Int).toNat)) fun l9 =>
some (l9,l9.length,l1.length,(l1.set ((Int.tmod (UE ((x2:Nat):Int)) (l1.length:Int)).toNat) (l3,l4)))))) (
br (decide (x1%14=4)) (
ob (N0 n l2 l1) fun(l25,l10) =>
gd (decide ((l1.length:Int)≠0)) (
gd (cz (Int.tmod (UE ((x3:Nat):Int)) (l1.length:Int)) l10.length) (
ob (l10[(Int.tmod (UE ((x3:Nat):Int)) (l1.length:Int)).toNat]?) fun(l6,l7) =>
gd (lim (l1++([(l6,l7)]:Us)).length) (
some (l2,l2.length,(l1++([(l6,l7)]:Us)).length,(l1++([(l6,l7)]:Us))))))) (
br (decide (x1%14=5)) (
gd (decide ((l1.length:Int)≠0)) (
gd (decide ((l1.length:Int)≠0)) (
ob (some (UE ((Int.tmod (UE ((x2:Nat):Int)) (l1.length:Int))+1))) fun y1 =>
ob (Rp n l1 (Int.tmod (UE ((x2:Nat):Int)) (l1.length:Int)) y1) fun l11 =>
some (l2,l2.length,l11.length,l11)))) (
br (decide (x1%14=6)) (
br (decide (0<(l3.length:Int))) (
gd (decide ((l3.length:Int)≠0)) (
gd (cz (Int.tmod (UE ((x3:Nat):Int)) (l3.length:Int)) l3.length) (
ob (l3[(Int.tmod (UE ((x3:Nat):Int)) (l3.length:Int)).toNat]?) fun x16 =>
some (l2,l2.length,l1.length,(l1.set ((Int.tmod (UE ((x2:Nat):Int)) (l1.length:Int)).toNat) ((l3.set ((Int.tmod (UE ((x3:Nat):Int)) (l3.length:Int)).toNat) x4),l4)))))) (
some (l2,l2.length,l1.length,(l1.set ((Int.tmod (UE ((x2:Nat):Int)) (l1.length:Int)).toNat) (l3,l4))))) (
br (decide (x1%14=7)) (
ob (
ob (
bK (ur n l3) n (l3,0,UE ((l3.length:Int)-1))) fun l15 =>
some (l1.set ((Int.tmod (UE ((x2:Nat):Int)) (l1.length:Int)).toNat) (l15,l4))) fun l16 =>
some (l2,l2.length,l1.length,l16)) (
br (decide (x1%14=8)) (
some (l2,l2.length,l1.length,(l1.set ((Int.tmod (UE ((x2:Nat):Int)) (l1.length:Int)).toNat) (l3,[])))) (
br (decide (x1%14=9)) (
gd (decide ((l1.length:Int)≠0)) (
gd (cz (Int.tmod (UE ((x3:Nat):Int)) (l1.length:Int)) l1.length) (
ob (l1[(Int.tmod (UE ((x3:Nat):Int)) (l1.length:Int)).toNat]?) fun(l17,l26) =>
ob (Lj n l17) fun l5 =>
gd (lim (l4++([l5]:Uv)).length) (
ob (some (UE (((l4++([l5]:Uv)).length:Int)-1))) fun y0 =>
gd (cz y0 ((l4++([l5]:Uv)).length)) (
ob ((l4++([l5]:Uv))[y0.toNat]?) fun l8 =>
ob (
ob (
bK (G0 n l8) n (l8,0,UE ((l8.length:Int)-1))) fun l18 =>
some (l1.set ((Int.tmod (UE ((x2:Nat):Int)) (l1.length:Int)).toNat) (l3,((l4++([l5]:Uv)).set y0.toNat l18)))) fun l19 =>
some (l2,l2.length,l1.length,l19)))))) (
br (decide (x1%14=10)) (
br (decide (0<(l3.length:Int))) (
gd (decide ((l3.length:Int)≠0)) (
gd (decide ((l3.length:Int)≠0)) (
ob (some (UE ((Int.tmod (UE ((x3:Nat):Int)) (l3.length:Int))+1))) fun y2 =>
ob (Qx n l3 (Int.tmod (UE ((x3:Nat):Int)) (l3.length:Int)) y2) fun l20 =>
some (l2,l2.length,l1.length,(l1.set ((Int.tmod (UE ((x2:Nat):Int)) (l1.length:Int)).toNat) (l20,l4)))))) (
some (l2,l2.length,l1.length,(l1.set ((Int.tmod (UE ((x2:Nat):Int)) (l1.length:Int)).toNat) (l3,l4))))) (
br (decide (x1%14=11)) (
gd (decide (UE ((l3.length:Int)+1)≠0)) (
ob (some (Int.tmod (UE ((x3:Nat):Int)) (UE ((l3.length:Int)+1)))) fun y3 =>
gd (decide ((l2.length:Int)≠0)) (
ob (Rg n l3 y3 ([Int.tmod (Iz .i64 x4 127) (l2.length:Int)])) fun l21 =>
some (l2,l2.length,l1.length,(l1.set ((Int.tmod (UE ((x2:Nat):Int)) (l1.length:Int)).toNat) (l21,l4)))))) (
br (decide (x1%14=12)) (
br (decide (0<(l3.length:Int))) (
gd (decide ((l3.length:Int)≠0)) (
gd (okB (Int.tmod (UE ((x3:Nat):Int)) (l3.length:Int)) (l3.length:Int) l3.length) (
ob (Lj n ((l3.drop (Int.tmod (UE ((x3:Nat):Int)) (l3.length:Int):Int).toNat).take (((l3.length:Int):Int).toNat-(Int.tmod (UE ((x3:Nat):Int)) (l3.length:Int):Int).toNat))) fun l12 =>
gd (decide ((l3.length:Int)≠0)) (
gd (okB 0 (Int.tmod (UE ((x3:Nat):Int)) (l3.length:Int)) l3.length) (
gd (lim (l12++((l3.drop UF).take ((Int.tmod (UE ((x3:Nat):Int)) (l3.length:Int):Int).toNat-UF))).length) (
some (l2,l2.length,l1.length,(l1.set ((Int.tmod (UE ((x2:Nat):Int)) (l1.length:Int)).toNat) ((l12++((l3.drop UF).take ((Int.tmod (UE ((x3:Nat):Int)) (l3.length:Int):Int).toNat-UF))),l4))))))))) (
some (l2,l2.length,l1.length,(l1.set ((Int.tmod (UE ((x2:Nat):Int)) (l1.length:Int)).toNat) (l3,l4))))) (
ob (
bK (uf n x3 l3) n l4) fun l22 =>
some (l2,l2.length,l1.length,(l1.set ((Int.tmod (UE ((x2:Nat):Int)) (l1.length:Int)).toNat) (l3,l22))))))))))))))))) fun(l23,n0,n1,l24) =>
some (l23,l24)))))
set_option maxRecDepth 10000
set_option maxHeartbeats 4000000
attribute [local irreducible] Tm.at Trie.set Trie.get Vn.get Vn.set Vn.alloc Vn.ww Vn.kill
variable{p q:VA Prim}
end
section
open Go Go.Ab Go.Ab.W
def Lo(n:Nat)(l1:VB (Int)):(Uu×Int)->VA ((Uu×Int)⊕Uu):=fun(l19,v21) =>
br (decide (UE (v21+1)<(l1.length:Int))) (
gd (cz v21 l1.length) (
ob (l1[v21.toNat]?) fun x43 =>
gd (cz (UE (v21+1)) l1.length) (
ob (l1[(UE (v21+1)).toNat]?) fun x46 =>
gd (lim (l19++[(x43,x46)]).length) (
some (.inl ((l19++[(x43,x46)]),UE (v21+2))))))) (
some (.inr l19))
def Mi(n:Nat)(l1:VB (Int)):VA Uu :=
ob (
bK (Lo n l1) n (([]:Uu),0)) fun l37 =>
some l37
def F8(n:Nat)(l1:Uu)(l5:Us):VA (VB (Ut)×Int) :=
ob (EP n l1 l5) fun r14 =>
br (!decide (r14=0)) (
some ([],r14)) (
ob (E1 n l1 l5) fun l17 =>
some (l17,0))
def DZ(n:Nat)(l41:Uv)(l1:Uu)(l5:Us):(Int×Int)->VA ((Int×Int)⊕Int):=fun(v49,v50) =>
br (decide (v50<(l41.length:Int))) (
gd (cz v50 l41.length) (
ob (l41[v50.toNat]?) fun l72 =>
ob (IY n l1 l5 l72 1) fun l77 =>
ob (N8 n l77) fun r81 =>
some (.inl (UE (v49+r81),UE (v50+1))))) (
some (.inr v49))
def F9(n:Nat)(l1:Uu)(l5:Us)(x12:Int):VA (Int×Int) :=
ob (EP n l1 l5) fun r15 =>
br (!decide (r15=0)) (
some (0,r15)) (
ob (
br (decide (x12<0)) (
some true) (
some (decide ((l5.length:Int)<=x12)))) fun v24 =>
br (v24) (
some (0,2)) (
gd (cz x12 l5.length) (
ob (l5[x12.toNat]?) fun(l32,l33) =>
ob (Bq n l32 l33) fun l41 =>
ob (
bK (DZ n l41 l1 l5) n (0,0)) fun v67 =>
some (v67,0))))
def Ll(n:Nat)(l1:VB (Ut))(l5:VB (Ut)):Int->VA (Int⊕VC⊕VC):=fun v11 =>
br (decide (v11<(l1.length:Int))) (
gd (cz v11 l1.length) (
ob (l1[v11.toNat]?) fun(x35,x36,x37,x38) =>
gd (cz v11 l5.length) (
ob (l5[v11.toNat]?) fun(x43,x44,x45,x46) =>
br (!(decide (x35=x43)&&decide (x36=x44)&&decide (x37=x45)&&decide (x38=x46))) (
some (.inr (.inl ()))) (
some (.inl (UE (v11+1))))))) (
some (.inr (.inr ())))
def QZ(n:Nat)(l1:VB (Ut))(l5:VB (Ut)):VA Bool :=
br (!decide ((l1.length:Int)=(l5.length:Int))) (
some false) (
ob (α:=(VC)⊕VC) (
bK (Ll n l1 l5) n 0) fun r50=>match r50 with
| .inl _ =>
some false
| .inr _ =>
some true)
def ME(n:Nat)(l1:Uu)(l5:Us)(x12:Int)(x13:Int):VA Bool :=
ob (N4 n l1 l5) fun(r16,r17) =>
ob (F8 n l1 l5) fun(l19,r22) =>
br (decide (r16=x12)) (
br (decide (r17=x13)) (
some ((decide (r22=150)) ==(decide (0<x12)))) (
some false)) (
some false)
def Qp(n:Nat)(l1:Uu)(l5:Us)(x12:Int)(x13:Int)(x14:Int)(x15:Int):VA Bool :=
ob (KX n l1 l5) fun(r18,r19,r20,r21,r22) =>
br (decide (r18=x12)) (
br (decide (r19=x13)) (
br (decide (r20=x14)) (
br (decide (r21=x15)) (
some (decide (r22=0))) (
some false)) (
some false)) (
some false)) (
some false)
def Ld(n:Nat)(l1:Uv)(l2:Uu)(l3:Us)(x3:Int)(x4:Int):Int->VA (Int⊕Int⊕VC):=fun v0 =>
br (decide (v0<(l1.length:Int))) (
gd (cz v0 l1.length) (
ob (l1[v0.toNat]?) fun l4 =>
ob (
ob (IY n l2 l3 l4 1) fun l5 =>
ob (K1 n l5 x3 x4) fun r0 =>
some (decide (r0=1))) fun v1 =>
br (v1) (
some (.inr (.inl v0))) (
some (.inl (UE (v0+1)))))) (
some (.inr (.inr ())))
def K3(n:Nat)(l1:Us)(l2:Uu)(x3:Int)(x4:Int):Int->VA (Int⊕Int⊕VC):=fun v0 =>
br (decide (v0<(l1.length:Int))) (
gd (cz v0 l1.length) (
ob (l1[v0.toNat]?) fun(l3,l4) =>
ob (
ob (I8 n l2 l1 l3 l4 x3 x4 1) fun r0 =>
br (r0) (
some true) (
ob (Bq n l3 l4) fun l5 =>
ob (
ob (α:=(Int)⊕VC) (
bK (Ld n l5 l2 l1 x3 x4) n 0) fun r1=>match r1 with
| .inl v1 =>
some v1
| .inr _ =>
some (-1)) fun v2 =>
some (decide (0<=v2)))) fun v3 =>
br (v3) (
some (.inr (.inl v0))) (
some (.inl (UE (v0+1)))))) (
some (.inr (.inr ())))
def QM(n:Nat)(l1:Uu)(l2:Us)(x3:Int)(x4:Int):VA (Int×Int) :=
ob (EP n l1 l2) fun r0 =>
br (!decide (r0=0)) (
some (0,r0)) (
ob (Oa n x3 x4) fun r1 =>
br (r1) (
some (0,2)) (
ob (
ob (α:=(Int)⊕VC) (
bK (K3 n l2 l1 x3 x4) n 0) fun r3=>match r3 with
| .inl v0 =>
some v0
| .inr _ =>
some (-1)) fun v1 =>
some (v1,0)))
def Oi(n:Nat)(l1:Uu)(l5:Us)(x12:Int)(x13:Int)(x14:Int):VA Bool :=
ob (QM n l1 l5 x12 x13) fun(r17,r18) =>
br (decide (r17=x14)) (
some (decide (r18=0))) (
some false)
def F6(n:Nat):VA Bool :=
ob (
ob (Mi n ([0,0,2,0,4,0,4,2,2,2,0,2])) fun l8 =>
some (l8,([([0,1,4,5],[]),([1,2,3,4],[])]:Us))) fun(l3,l4) =>
ob (
ob (Mi n ([0,0,9,0,9,9,0,9,3,3,6,3,6,6,3,6])) fun l9 =>
some (l9,([([0,1,2,3],[[4,7,6,5]]),([4,5,6,7],[])]:Us))) fun(l1,l2) =>
ob (F8 n l3 l4) fun(l10,r0) =>
ob (F9 n l1 l2 0) fun(r1,r3) =>
ob (
ob (Mi n ([0,0,9,0,9,9,0,9,3,3,6,3,6,6,3,6])) fun l11 =>
some (l11,([([0,1,2,3],[[4,7,6,5]]),([4,5,6,7],[])]:Us))) fun(l12,l5) =>
ob (
ob (Mi n ([0,0,9,0,9,9,0,9,3,3,6,3,6,6,3,6])) fun l13 =>
some (l13,([([0,1,2,3],[[4,7,6,5]]),([4,5,6,7],[])]:Us))) fun(l14,l6) =>
ob (
ob (Mi n ([0,0,2,0,4,0,4,2,2,2,0,2])) fun l15 =>
some (l15,([([0,1,4,5],[]),([1,2,3,4],[])]:Us))) fun(l16,l7) =>
gd (cz 0 l5.length) (
ob (l5[UF]?) fun(l17,l20) =>
gd (cz 0 l6.length) (
ob (l6[UF]?) fun(l18,l21) =>
gd (cz 1 l7.length) (
ob (l7[(1:Int).toNat]?) fun(l22,l19) =>
ob (QZ n l10 ([(0,1,0,-1),(0,5,-1,0),(1,2,1,-1),(1,4,0,1),(2,3,1,-1),(3,4,1,-1),(4,5,0,-1)])) fun r4 =>
ob (
ob (ME n l3 l4 0 0) fun r5 =>
br (r5) (
ob (ME n l1 l2 0 0) fun r6 =>
br (r6) (
ob (ME n l12 (l5.set (UF) (l17,[])) 10 1) fun r7 =>
br (r7) (
ob (ME n l14 (l6.set (UF) (l18,[[4,5,6,7]])) 6 0) fun r8 =>
br (r8) (
ob (ME n l16 (l7.set ((1:Int).toNat) ([1,2,3,5],l19)) 8 1) fun r9 =>
some r9) (
some false)) (
some false)) (
some false)) (
some false)) fun v0 =>
br (r4) (
br (decide (r0=0)) (
br (decide (r1=144)) (
br (decide (r3=0)) (
br (v0) (
ob (Qp n l3 l4 6 7 2 1) fun r10 =>
br (r10) (
ob (Qp n l1 l2 8 8 2 2) fun r11 =>
br (r11) (
ob (Oi n l1 l2 4 4 1) fun r12 =>
br (r12) (
ob (Oi n l1 l2 1 1 0) fun r13 =>
br (r13) (
ob (Oi n l1 l2 3 3 0) fun r14 =>
br (r14) (
ob (Oi n l1 l2 10 10 (-1)) fun r15 =>
some r15) (
some false)) (
some false)) (
some false)) (
some false)) (
some false)) (
some false)) (
some false)) (
some false)) (
some false)) (
some false))))
def Jv(n:Nat)(l1:VB (Nat))(x5:Int):VA Int :=
br (decide ((l1.length:Int)=0)) (
some 0) (
gd (decide ((l1.length:Int)≠0)) (
gd (cz (Int.tmod x5 (l1.length:Int)) l1.length) (
ob (l1[(Int.tmod x5 (l1.length:Int)).toNat]?) fun x11 =>
some (UE ((x11:Nat):Int)))))
def vD(n:Nat)(v3:Int)(v2:Int)(l2:VB (Nat)):(Uu×Int×Int)->VA ((Uu×Int×Int)⊕Uu):=fun(l1,v0,v1) =>
br (decide (v1<=v3)) (
gd (lim (l1++[(v0,v2)]).length) (
ob (Jv n l2 v1) fun r0 =>
some (.inl ((l1++[(v0,v2)]),UE ((UE (v0+1))+(Int.tmod r0 5)),UE (v1+1))))) (
some (.inr l1))
def vT(n:Nat)(v2:Int)(v3:Int)(l1:VB (Nat)):(Uu×Int×Int)->VA ((Uu×Int×Int)⊕Uu):=fun(l2,v1,v0) =>
br (decide (v0<=v2)) (
ob (
bK (vD n v3 v1 l1) n (l2,0,0)) fun l3 =>
ob (Jv n l1 (UE (7+v0))) fun r0 =>
some (.inl (l3,UE ((UE (v1+1))+(Int.tmod r0 5)),UE (v0+1)))) (
some (.inr l2))
def ui(n:Nat)(v0:Int)(v2:Int)(l2:VB (Nat)):(Us×Int)->VA ((Us×Int)⊕Us):=fun(l1,v1) =>
br (decide (v1<v0)) (
ob (
ob (some (UE ((UE (v2*(UE (v0+1))))+v1))) fun y0 =>
ob (Jv n l2 (UE ((UE (v2*v0))+v1))) fun r0 =>
br (decide (Int.tmod r0 8=0)) (
ob (some (UE ((UE ((UE (y0+v0))+1))+1))) fun y1 =>
ob (some (UE ((UE ((UE (y0+v0))+1))+1))) fun y2 =>
gd (lim (l1++([([y0,UE (y0+1),y1],[]),([y0,y2,UE ((UE (y0+v0))+1)],[])]:Us)).length) (
some (l1++([([y0,UE (y0+1),y1],[]),([y0,y2,UE ((UE (y0+v0))+1)],[])]:Us)))) (
br (decide (Int.tmod r0 8=1)) (
br (decide (0<(l1.length:Int))) (
some l1) (
ob (some (UE ((UE ((UE (y0+v0))+1))+1))) fun y3 =>
gd (lim (l1++([([y3,UE ((UE (y0+v0))+1),y0,UE (y0+1)],[])]:Us)).length) (
some (l1++([([y3,UE ((UE (y0+v0))+1),y0,UE (y0+1)],[])]:Us))))) (
ob (some (UE ((UE ((UE (y0+v0))+1))+1))) fun y4 =>
gd (lim (l1++([([y0,UE (y0+1),y4,UE ((UE (y0+v0))+1)],[])]:Us)).length) (
some (l1++([([y0,UE (y0+1),y4,UE ((UE (y0+v0))+1)],[])]:Us)))))) fun l3 =>
some (.inl (l3,UE (v1+1)))) (
some (.inr l1))
def vC(n:Nat)(v1:Int)(v2:Int)(l2:VB (Nat)):(Us×Int)->VA ((Us×Int)⊕Us):=fun(l1,v0) =>
br (decide (v0<v1)) (
ob (
bK (ui n v2 v0 l2) n (l1,0)) fun l3 =>
some (.inl (l3,UE (v0+1)))) (
some (.inr l1))
def Of(n:Nat)(x1:Nat)(x2:Nat)(l1:VB (Nat))(l3:VB (Nat))(x3:Bool):VA (Uu×Us) :=
ob (
br (x3) (
some (3,3)) (
some (UE (1+(UE ((x1%4:Nat):Int))),UE (1+(UE ((x2%3:Nat):Int)))))) fun(v0,v1) =>
ob (
bK (vT n v1 v0 l3) n (([]:Uu),0,0)) fun l2 =>
br (x3) (
gd (lim (([]:Us)++([([0,1,2,3,7,11,15,14,13,12,8,4],[[5,9,10,6]])]:Us)).length) (
ob (
ob (Jv n l1 0) fun r0 =>
br (decide (Int.tmod r0 2=0)) (
gd (lim ((([]:Us)++([([0,1,2,3,7,11,15,14,13,12,8,4],[[5,9,10,6]])]:Us))++([([5,6,10,9],[])]:Us)).length) (
some ((([]:Us)++([([0,1,2,3,7,11,15,14,13,12,8,4],[[5,9,10,6]])]:Us))++([([5,6,10,9],[])]:Us)))) (
some (([]:Us)++([([0,1,2,3,7,11,15,14,13,12,8,4],[[5,9,10,6]])]:Us)))) fun l4 =>
some (l2,l4))) (
ob (
bK (vC n v1 v0 l1) n (([]:Us),0)) fun l5 =>
some (l2,l5))
def F7(n:Nat)(x1:Nat)(x2:Nat)(l3:VB (Nat))(l8:VB (Nat))(x13:Bool)(x14:Nat)(x15:Nat)(x16:Nat)(x17:Int)(x18:Int)(x19:Int)(x20:Nat)(x21:Nat)(x22:Nat)(x23:Int)(x24:Int)(x25:Int):VA (Uu×Us×Uu×Us×Uu×Us) :=
ob (Of n x1 x2 l3 l8 x13) fun(l30,l34) =>
ob (N1 n x14 x15 x16 x17 x18 x19 l30 l34) fun(l42,l46) =>
ob (N1 n x20 x21 x22 x23 x24 x25 l42 l46) fun(l54,l58) =>
some (l30,l34,l42,l46,l54,l58)
def Ef(n:Nat)(l1:Us)(l2:Uu):(Int×Int)->VA ((Int×Int)⊕VC⊕Int):=fun(v1,v0) =>
br (decide (v0<(l1.length:Int))) (
ob (F9 n l2 l1 v0) fun(r0,r1) =>
ob (
br (!decide (r1=0)) (
some true) (
some (decide (r0<=0)))) fun v2 =>
br (v2) (
some (.inr (.inl ()))) (
some (.inl (UE (v1+r0),UE (v0+1))))) (
some (.inr (.inr v1)))
def D6(n:Nat)(l2:VB (Ut))(l1:Uu)(l3:Us):(Int×Int)->VA ((Int×Int)⊕VC⊕Int):=fun(v1,v0) =>
br (decide (v0<(l2.length:Int))) (
ob (α:=(VC)⊕Int) (
gd (cz v0 l2.length) (
ob (l2[v0.toNat]?) fun(x3,x4,x10,x11) =>
ob (
br (decide (x3<0)) (
some true) (
br (decide (x4<=x3)) (
some true) (
br (decide ((l1.length:Int)<=x4)) (
some true) (
br (decide (x10=x11)) (
some true) (
br (decide (mi x10 x11 < -1)) (
some true) (
some (decide ((l3.length:Int)<=ma x10 x11)))))))) fun v3 =>
br (v3) (
some (.inl ())) (
gd (cz x3 l1.length) (
ob (l1[x3.toNat]?) fun(x12,x13) =>
gd (cz x4 l1.length) (
ob (l1[x4.toNat]?) fun(x14,x15) =>
ob (
br (decide (x11 = -1)) (
ob (some (UE ((UE (x12*x15))-(UE (x13*x14))))) fun y0 =>
some (UE (v1+y0))) (
some v1)) fun v2 =>
br (decide (x10 = -1)) (
ob (some (UE ((UE (x12*x15))-(UE (x13*x14))))) fun y1 =>
some (.inr (UE (v2-y1)))) (
some (.inr v2))))))) fun r0=>match r0 with
| .inl _ =>
some (.inr (.inl ()))
| .inr v4 =>
some (.inl (v4,UE (v0+1)))) (
some (.inr (.inr v1)))
def Ee(n:Nat)(l3:Uu)(l4:Us)(l5:Uu)(l6:Us)(l7:Uu)(l8:Us):Int->VA (Int⊕VC⊕VC):=fun v0 =>
br (decide (v0<3)) (
ob (α:=(VC)⊕VC) (
gd (cz v0 3) (
ob ([(l3,l4),(l5,l6),(l7,l8)][v0.toNat]?) fun(l1,l2) =>
ob (F8 n l1 l2) fun(l9,r0) =>
br (!decide (r0=0)) (
some (.inl ())) (
ob (α:=(VC)⊕Int) (
bK (Ef n l2 l1) n (0,0)) fun r1=>match r1 with
| .inl _ =>
some (.inr ())
| .inr v1 =>
ob (α:=(VC)⊕Int) (
bK (D6 n l9 l1 l2) n (0,0)) fun r3=>match r3 with
| .inl _ =>
some (.inr ())
| .inr v2 =>
br (!decide (v1=v2)) (
some (.inr ())) (
some (.inl ()))))) fun r4=>match r4 with
| .inl _ =>
some (.inl (UE (v0+1)))
| .inr _ =>
some (.inr (.inl ()))) (
some (.inr (.inr ())))
def F3(n:Nat)(x1:Nat)(x2:Nat)(l1:VB (Nat))(l2:VB (Nat))(x3:Bool)(x4:Nat)(x10:Nat)(x11:Nat)(x12:Int)(x13:Int)(x14:Int)(x15:Nat)(x16:Nat)(x17:Nat)(x18:Int)(x19:Int)(x20:Int):VA Bool :=
ob (F6 n) fun r0 =>
br (!r0) (
some false) (
ob (F7 n x1 x2 l1 l2 x3 x4 x10 x11 x12 x13 x14 x15 x16 x17 x18 x19 x20) fun(l3,l4,l5,l6,l7,l8) =>
ob (α:=(VC)⊕VC) (
bK (Ee n l3 l4 l5 l6 l7 l8) n 0) fun r1=>match r1 with
| .inl _ =>
some false
| .inr _ =>
some true)
end
end Go.Proofs.Ytmndpgfbkicndaa
namespace Go.Ab.W
open Go Go.Ab
section
variable{P:UC}{ty:UA}
def Jg(P:UC)(ty u:UA)(k:IntKind):Bool:=match P.underlying ty with
 | some (.struct fs) => !(P.stoodInHeld ty || fs.any (·.name == "_")) && (fs.toList.map (fun f => (f.type, f.offset)) == [(u, 0), (u, 1), (u, 2), (u, 3)]) && known P u && (match P.underlying u with | some (.int k') => k' == k | _ => false)
 | _=>false
def Et {u : UA} {k : IntKind} (h : Jg P ty u k = true) : ∃ fs, P.underlying ty = some (.struct fs) /\ (P.stoodInHeld ty || fs.any (·.name == "_")) = false /\ fs.toList.map (fun f => (f.type, f.offset)) = [(u, 0), (u, 1), (u, 2), (u, 3)] /\
  known P u=true/\P.underlying u=some (.int k):=by
 unfold Jg at h
 split at h
 rename_i fs hf;simp only[R9,Td,beq_iff_eq] at h;obtain⟨⟨⟨h1,h2⟩,h3⟩,h5⟩:=h
 split at h5
 rename_i k' e1;simp only[beq_iff_eq] at h5;subst h5;exact⟨fs,hf,h1,h2,h3,e1⟩
 cases h5
 cases h
def Ou{u:UA}{k:IntKind}(h:Jg P ty u k=true)(x0 y0 x1 y1 x2 y2 x3 y3:Int) :
  kD P Op.maxDepth ty (.agg #[.int k x0,.int k x1,.int k x2,.int k x3]) (.agg #[.int k y0,.int k y1,.int k y2,.int k y3])=some (decide (x0=y0)&&decide (x1=y1)&&decide (x2=y2)&&decide (x3=y3)):=by
 obtain⟨fs,hf,h1,h2,h3,h5⟩:=Et h;have a1:dQ P u=false:=by simp only[dQ,h5]
 have p0:∀x y z w:Uz,df P u #[x,y,z,w] 0=some x:=fun x y z w=>by simp only[df,h3,a1]; rfl
 have p1:∀x y z w:Uz,df P u #[x,y,z,w] 1=some y:=fun x y z w=>by simp only[df,h3,a1]; rfl
 have p2:∀x y z w:Uz,df P u #[x,y,z,w] 2=some z:=fun x y z w=>by simp only[df,h3,a1]; rfl
 have p3:∀x y z w:Uz,df P u #[x,y,z,w] 3=some w:=fun x y z w=>by simp only[df,h3,a1]; rfl
 show kD P (9999+1) ty _ _=_
 unfold kD;simp only[hf,h1,SC,if_false,h2];rw[nP (p0 _ _ _ _) (p0 _ _ _ _) (vv h5 9998 x0 y0) (nP (p1 _ _ _ _) (p1 _ _ _ _) (vv h5 9998 x1 y1) (nP (p2 _ _ _ _) (p2 _ _ _ _) (vv h5 9998 x2 y2) (nP (p3 _ _ _ _) (p3 _ _ _ _) (vv h5 9998 x3 y3) rfl)))];simp only[Bool.and_true,Bool.and_assoc]
end
section
variable{E:Env}{m0:Vn}{fs:Fs}{ps:VB Pc}{x:UB}{ty:UA}
def jF{a:Addr}(h:ev E fs x=some (.pointer (some a))):Od E m0 fs ps (.nilCheck x) (.pointer (some a)) ps:=.pure (fun _=>rfl) fun t m hf K=>by
 show eQ (match al E t x with
  | some (.pointer (some a))=>some (.pointer (some a),m)
  | some (.func (.func f) a b)=>some (.func (.func f) a b,m)
  | some (.func (.yield f) a b)=>some (.func (.yield f) a b,m)
  | _=>none) K=_
 rw[hf.ev h]; rfl
end
set_option maxRecDepth 10000
attribute [local irreducible] Tm.at Trie.set Trie.get Vn.get Vn.set Vn.alloc Vn.ww
section
variable{E:Env}{n:Nat}{m0:Vn}{fs:Fs}{ps:VB Pc}{x y z:UB}{v:Uz}{ty ty2:UA}
def K9{elem lo hi mx b o len cap w k:Nat}{cs:VB Uz}{lx hx:VA UB}{l h:VA Uz}(ht:SlT E.P ty elem w)(hv:ev E fs x=some (.slice (some ⟨b,o,none⟩) len cap))(e1:jz E fs lx=some l)(e2:jz E fs hx=some h)
  (hp:pk ps k=some (.obj b (.cells cs (.more w)))) (hb:bP len cap l h none=some (lo,hi,mx)) :
  Od E m0 fs ps (.slice ty x lx hx none) (if cap=lo then gq b else .slice (some ⟨b,o+lo*w,none⟩) (hi-lo) (cap-lo)) ps :=
 fun t m hf hm=>⟨fun b' hb'=>by
  have:dE (.slice (some ⟨b,o,none⟩) len cap)=some b:=rfl;simp only[aL,hf.ev hv,SD,this] at hb';cases hb'; exact(hm.get hp).2.1,fun K hK=>by
  have hg:=(hm.get hp).2.2;have hs:bU E.P ty (.slice (some ⟨b,o,none⟩) len cap) l h none m=some (if cap=lo then gq b else .slice (some ⟨b,o+lo*w,none⟩) (hi-lo) (cap-lo)):=by
   have hne:¬w≠w:=fun h=>h rfl;simp only[bU,ht.und,ht.known,if_true,hg,hb,ht.size,R5 hne]
   split<;>rfl
  rw[Go.Ab.nF (hf.ev hv) (hf.jz e1) (hf.jz e2) (show dP E t none=some none from rfl) hs]; exact hK m hm⟩
def K6{elem lo hi mx b o len cap w k:Nat}{cs:VB Uz}{lx hx:VA UB}{kx:UB}{l h:VA Uz}{q:Uz}(ht:SlT E.P ty elem w)(hv:ev E fs x=some (.slice (some ⟨b,o,none⟩) len cap))(e1:jz E fs lx=some l)(e2:jz E fs hx=some h)(e3:jz E fs (some kx)=some (some q))
  (hp:pk ps k=some (.obj b (.cells cs (.more w)))) (hb:bP len cap l h (some q)=some (lo,hi,mx)) :
  Od E m0 fs ps (.slice ty x lx hx (some kx)) (if mx=lo/\hi=lo then .slice (some ⟨b,0,some 1⟩) 0 0 else .complex .f64 0 0) ps :=
 fun t m hf hm=>⟨fun b' hb'=>by
  have:dE (.slice (some ⟨b,o,none⟩) len cap)=some b:=rfl;simp only[aL,hf.ev hv,SD,this] at hb';cases hb'; exact(hm.get hp).2.1,fun K hK=>by
  have hg:=(hm.get hp).2.2;have hs:bU E.P ty (.slice (some ⟨b,o,none⟩) len cap) l h (some q) m=some (if mx=lo/\hi=lo then .slice (some ⟨b,0,some 1⟩) 0 0 else .complex .f64 0 0):=by
   have hne:¬w≠w:=fun h=>h rfl;simp only[bU,ht.und,ht.known,if_true,hg,hb,ht.size,R5 hne]
   split<;>rfl
  rw[Go.Ab.nF (hf.ev hv) (hf.jz e1) (hf.jz e2) (hf.jz e3) hs]; exact hK m hm⟩
def Oq{elem w b o len cap l1 c0 k:Nat}{tg:Tag}{a0:Ux}{cs new:VB Uz}{ars:VD UB}(ht:SlT E.P ty elem w)(h0:∃e2,E.P.underlying ty2=some (.slice e2))(ha:gF E fs ars.toList=some [.slice (some ⟨b,o,none⟩) len cap,.slice a0 l1 c0])(hp:pk ps k=some (.obj b (.cells cs tg)))(htg:qX tg=true)
  (hs:∀m,Hp m0 m ps->cS w (.slice a0 l1 c0) l1 m=some new) (hnl:new.length=l1*w) (ho:aX new=true) (hlim:lim (len+l1)=true) (hfit:len+l1<=cap) (hl:o+len*w+new.length<=cs.length) :
  Od E m0 fs ps (.call ⟨.builtin .append,ars,#[ty,ty2]⟩) (.slice (some ⟨b,o,none⟩) (len+l1) cap) (bL ps k (.obj b (.cells (ay cs (o+len*w) new) tg))) :=
 fun t m hf hm=>⟨fun b' hb'=>by simp[aL] at hb',fun K hK=>by
  have hg:=(hm.get hp).2.2;obtain⟨e2,h0⟩:=h0;obtain⟨inf,h1,h2,h3⟩:=ht.bytes;have hlim':len+l1<=1073741824:=Th hlim;have hfc:dF inf.bytes (len+l1)=true:=by
   simp only[dF,Sj]
   calc (2*(len+l1)+2000)*inf.bytes<=(2*1073741824+2000)*1024:=Uk (by omega) h3
    _<=2 ^ 48:=by decide
  have hguard:(!(known E.P elem)||aB E.P elem==0 || !aX new || !(E.P.info? elem).any (fun i=>dF i.bytes (len+l1)&&i.bytes != 0)||new.length != l1*aB E.P elem || !(bq E.P elem).any (fun z=>z.cells.size==aB E.P elem&&z.cells.toList.all aQ))=false:=by
   have hz:=ht.zero;have hp:=ht.pos;rw[ht.size];simp only[ht.known,ho,h1,Option.any_some,hfc,hz,hnl];simp[h2]; omega
  have hnc:eR E.P elem (some ty2) (.slice a0 l1 c0) m=some (l1,new):=by
   simp only[eR,SD,h0,ht.size,hs m hm,Ss]
  by_cases hnil:new=[]
  subst hnil;have hsp:ay cs (o+len*w) []=cs:=by
   apply Tg;intro i;rw[aM,R5 (by simp; omega)]
  have:ba E.P .append #[ty,ty2] [.slice (some ⟨b,o,none⟩) len cap,.slice a0 l1 c0] m=some (.slice (some ⟨b,o,none⟩) (len+l1) cap,m):=by
   show cE E.P ty (some ty2) _ _ m=_
   unfold cE;simp only[ht.und,hnc,hguard,SC,if_false,hg,R7 hfit,Vn.cQ,Ss]
  rw[Go.Ab.dw (hf.gF ha) this];refine hK _ ?_;rw[hsp];have e:bL ps k (.obj b (.cells cs tg))=ps:=qg _ _ _ hp;rw[e]; exact hm
  ·have hst:m.cQ b (o+len*w) new=some (m.set b (.cells (ay cs (o+len*w) new) tg)):=by
    cases new with
    | nil=>exact Sw rfl hnil
    | cons a' new =>
     cases tg with
     | ro=>cases htg
     | own=>simp only[Vn.cQ,hg,R7 hl]
     | more s=>simp only[Vn.cQ,hg,R7 hl]
   have h4:m.cQ b (o+len*aB E.P elem) new=some (m.set b (.cells (ay cs (o+len*w) new) tg)):=by rw[ht.size]; exact hst
   have:ba E.P .append #[ty,ty2] [.slice (some ⟨b,o,none⟩) len cap,.slice a0 l1 c0] m=some (.slice (some ⟨b,o,none⟩) (len+l1) cap,m.set b (.cells (ay cs (o+len*w) new) tg)):=by
    show cE E.P ty (some ty2) _ _ m=_
    unfold cE;simp only[ht.und,hnc,hguard,SC,if_false,hg,R7 hfit,h4,Ss]
   rw[Go.Ab.dw (hf.gF ha) this];exact hK _ (hm.write hp rfl rfl rfl rfl ⟨(hm.get hp).1,by rw[Vn.next_set]; exact(hm.get hp).2.1,by rw[Vn.bp,R7 rfl]⟩)⟩
def IL{elem lo hi mx b o len cap w k:Nat}{cs:VB Uz}{tg:Tag}{lx hx:VA UB}{l h:VA Uz}(ht:SlT E.P ty elem w)(hv:ev E fs x=some (.slice (some ⟨b,o,none⟩) len cap))(e1:jz E fs lx=some l)(e2:jz E fs hx=some h)
  (hp:pk ps k=some (.obj b (.cells cs tg))) (htg:tg=.own\/tg=.more w) (hb:bP len cap l h none=some (lo,hi,mx)) (hmx:mx=cap) (hlo:cap≠lo) :
  Od E m0 fs ps (.slice ty x lx hx none) (.slice (some ⟨b,o+lo*w,none⟩) (hi-lo) (cap-lo)) ps:=by
 rcases htg with rfl|rfl
 subst hmx;exact Cu ht hv e1 e2 (show jz E fs none=some none from rfl) hp rfl hb (by rw[R5 hlo])
 have:=K9 (m0:=m0) ht hv e1 e2 hp hb;rwa[R5 hlo] at this
def OC{elem lo hi mx b o len cap w k:Nat}{cs:VB Uz}{tg:Tag}{lx hx:VA UB}{kx:UB}{l h:VA Uz}{q:Uz}(ht:SlT E.P ty elem w)(hv:ev E fs x=some (.slice (some ⟨b,o,none⟩) len cap))(e1:jz E fs lx=some l)(e2:jz E fs hx=some h)(e3:jz E fs (some kx)=some (some q))
  (hp:pk ps k=some (.obj b (.cells cs tg))) (htg:tg=.own\/tg=.more w) (hb:bP len cap l h (some q)=some (lo,hi,mx)) :
  Ox E m0 fs ps (.slice ty x lx hx (some kx)) (fun v:Uz=>v) (fun _=>ps):=by
 rcases htg with rfl|rfl
 exact fun t m hf hm=>⟨(Cu (m0:=m0) ht hv e1 e2 e3 hp rfl hb rfl t m hf hm).1,fun K hK=>(Cu (m0:=m0) ht hv e1 e2 e3 hp rfl hb rfl t m hf hm).2 K (hK _)⟩
 exact fun t m hf hm=>⟨(K6 (m0:=m0) ht hv e1 e2 e3 hp hb t m hf hm).1,fun K hK=>(K6 (m0:=m0) ht hv e1 e2 e3 hp hb t m hf hm).2 K (hK _)⟩
def OY{elem b w k j nn:Nat}{cs:VB Uz}{tg:Tag}{lx:VA UB}{l:VA Uz}(ht:SlT E.P ty elem w)(hv:ev E fs x=some (.slice (some ⟨b,0,none⟩) nn nn))(e1:jz E fs lx=some l)
  (hp:pk ps k=some (.obj b (.cells cs tg))) (htg:tg=.own\/tg=.more w) (hj:j<=nn) (hb:bP nn nn l none none=some (j,nn,nn)) (hcl:nn*w<=cs.length) :
  Ox E m0 fs ps (.slice ty x lx none none) (fun A:{ A:Addr // ∀m,Hp m0 m ps->cS w (.slice (some A) (nn-j) (nn-j)) (nn-j) m=some ((cs.drop (j*w)).take ((nn-j)*w))}=>.slice (some A.1) (nn-j) (nn-j)) (fun _=>ps):=by
 by_cases h:nn=j
 subst h;have h0:∀A m,cS w (.slice (some A) (nn-nn) (nn-nn)) (nn-nn) m=some ((cs.drop (nn*w)).take ((nn-nn)*w)):=fun A m=>by
  obtain⟨ab,ao,ax⟩:=A;cases ax<;>simp[cS]
 rcases htg with rfl|rfl
 have h1:=Cu (m0:=m0) ht hv e1 (show jz E fs none=some none from rfl) (show jz E fs none=some none from rfl) hp rfl hb rfl
 rw[R7 rfl] at h1;exact fun t m hf hm=>⟨(h1 t m hf hm).1,fun K hK=>(h1 t m hf hm).2 K (hK ⟨_,fun m' _=>h0 _ m'⟩)⟩
 have h1:=K9 (m0:=m0) ht hv e1 (show jz E fs none=some none from rfl) hp hb
 rw[R7 rfl] at h1;have h2:gq b=.slice (some ⟨b,0,some 0⟩) (nn-nn) (nn-nn):=by rw[Ur]; rfl
 rw[h2] at h1;exact fun t m hf hm=>⟨(h1 t m hf hm).1,fun K hK=>(h1 t m hf hm).2 K (hK ⟨_,fun m' _=>h0 _ m'⟩)⟩
 have h1:=IL (m0:=m0) ht hv e1 (show jz E fs none=some none from rfl) hp htg hb rfl h
 exact fun t m hf hm=>⟨(h1 t m hf hm).1,fun K hK=>(h1 t m hf hm).2 K (hK ⟨_,fun m' hm'=>by
  have:=Ji (b:=b) (o:=0+j*w) (l:=nn-j) (c:=nn-j) (w:=w) (q:=nn-j) (k:=k) hm' hp (by omega) (by
   have:j*w+(nn-j)*w=nn*w:=by rw[<-TW]; congr 1; omega
   omega)
  rw[this,SE]⟩)⟩
end
end Go.Ab.W
namespace Go.Proofs.Ytmndpgfbkicndaa
open Go Go.Ab Go.Ab.W
set_option maxRecDepth 10000
set_option maxHeartbeats 4000000
attribute [local irreducible] Tm.at Trie.set Trie.get Vn.get Vn.set Vn.alloc Vn.ww Vn.kill
variable{p q:VA Prim}
def bA(k:IntKind){x y:Nat}(h:x<=y):jq (.int k (x:Int)) y=some x:=by
 simp only[jq]; rw[R7 ⟨by omega,by omega⟩,SG]
def QU{len cap lo hi mx:Nat}{k1 k2 k3:IntKind}(h1:lo<=hi)(h2:hi<=mx)(h3:mx<=cap):bP len cap (some (.int k1 (lo:Int))) (some (.int k2 (hi:Int))) (some (.int k3 (mx:Int)))=some (lo,hi,mx):=by
 unfold bP; simp only[bA _ h3,bA _ h2,bA _ h1]
def Qv{len cap hi:Nat}{k2:IntKind}(h2:hi<=cap):bP len cap none (some (.int k2 (hi:Int))) none=some (0,hi,cap):=by
 unfold bP; simp only[bA _ h2]
def Q6{len cap lo:Nat}{k1:IntKind}(h1:lo<=len):bP len cap (some (.int k1 (lo:Int))) none none=some (lo,len,cap):=by
 unfold bP; simp only[bA _ h1]
def Qg{len cap lo hi:Nat}{k1 k2:IntKind}(h1:lo<=hi)(h2:hi<=cap):bP len cap (some (.int k1 (lo:Int))) (some (.int k2 (hi:Int))) none=some (lo,hi,cap):=by
 unfold bP; simp only[bA _ h2,bA _ h1]
def Mf{a b:Nat}(h:lim a=true)(hb:b<=a):lim b=true:=Nat.ble_eq_true_of_le (SI hb (Th h))
def zx{l l':VB Uz}(h:aX l=true)(hs:∀v∈l',v∈l):aX l'=true:=Sp.2 fun v hv=>Sp.1 h v (hs v hv)
def ze{cs new zs:VB Uz}{p q:Nat}(hq:q=p+new.length)(hl:q<=cs.length):(ay (ay cs p new) q zs).take q=cs.take p++new:=by
 apply Tg;intro k;have hp:(cs.take p).length=p:=by rw[Sq]; omega
 rw[Tk]
 split
 rw[aM,UG,aM]
 by_cases hk:k<p
 rw[UG,SU (by rw[hp]; exact hk),Tk,R7 hk]
 rw[R7 ⟨by omega,by omega,by omega⟩,SP (by rw[hp]; omega),hp]
 rw[Tc (by rw[Sn,hp]; omega)]
def Q0{n:Nat}:fI (Vq p q).P 54 n=some (bj [.slice none 0 0,.slice none 0 0] n):=by
 have:bq (Vq p q).P 54=some (.agg #[.slice none 0 0,.slice none 0 0]):=by kernel_rfl
 have hs:aB (Vq p q).P 54=2:=by kernel_rfl
 simp only[fI,this,hs]; rfl
def FX{m0 m:Vn}{rest:VB Pc}{b n i j:Nat}{cs:VB Uz}{tg:Tag}(htg:tg=.own\/tg=.more 2)(hm:Hp m0 m (.obj b (.cells cs tg)::rest))(hcl:cs.length=n*2)(hone:aX cs=true)(hij:i<j)(hjn:j<=n)(hlim:lim n=true) :
  aK (Vq p q) 45 [.slice (some ⟨b,0,none⟩) n n,.int .i64 (i:Int),.int .i64 (j:Int)] m fun v m'=>v=.slice (some ⟨b,0,none⟩) (n-(j-i)) n /\
   ∃cs',Hp m0 m' (.obj b (.cells cs' tg)::rest)/\cs'.length=cs.length/\cs'.take ((n-(j-i))*2)=cs.take (i*2)++(cs.drop (j*2)).take ((n-j)*2):=by
 have hro:qX tg=true:=by rcases htg with rfl|rfl<;>rfl
 refine aS (m0:=m0) (ps:=.obj b (.cells cs tg)::rest) (N:=33) (rs:=[.tmp 6]) rfl Try.func45 rfl rfl rfl hm ?_;refine UJ ?_;refine UK ?_;refine UI (bG rfl) rfl ?_;refine UQ ?_;refine UR ?_;refine UJ ?_;refine UK ?_;refine UI (aV rfl) rfl ?_;refine UI (aV rfl) rfl ?_;refine UI (aV rfl) rfl ?_;refine UI (aV rfl) rfl ?_;refine UI (oU (k:=0) u32 rfl rfl (.inl rfl)) rfl ?_;refine UX (OC (k:=0) jU rfl rfl rfl rfl rfl htg (QU (Nat.le_of_lt hij) hjn (Sa n))) gn rfl fun _=>?_;refine UQ ?_;refine UR ?_;refine UJ ?_;refine UJ ?_;refine UK ?_;refine UI (aV rfl) rfl ?_;refine UI (aV rfl) rfl ?_;refine UI (aJ rfl rfl (EY _ _)) rfl ?_;refine UQ ?_;refine UR ?_;refine U8 rfl (Sm (Nat.ne_of_lt hij)) ?_;refine U5 ?_;refine UR ?_;refine UJ ?_;refine UK ?_;refine UI (aV rfl) rfl ?_;refine UI (oU (k:=0) u32 rfl rfl (.inl rfl)) rfl ?_;refine UI (bG rfl) rfl ?_;refine UQ ?_;refine UR ?_;refine UJ ?_;refine Wk.draw (by kernel_rfl) ?_
 refine UI (aV rfl) rfl ?_;refine UI (aV rfl) rfl ?_;refine UI (IL (k:=0) jU rfl rfl rfl rfl htg (Qv (by omega)) rfl (by omega)) rfl ?_
 refine UI (aV rfl) rfl ?_;refine UI (aV rfl) rfl ?_;refine UX (OY (k:=0) jU rfl rfl rfl htg hjn (Q6 hjn) (by omega)) gn rfl fun A=>?_
 have hnl:((cs.drop (j*2)).take ((n-j)*2)).length=(n-j)*2:=by simp; omega
 have ho1:aX ((cs.drop (j*2)).take ((n-j)*2))=true:=zx hone fun v hv=>TF (Tq hv);refine UI (Oq (k:=0) jU ⟨_,u32⟩ rfl rfl hro A.2 hnl ho1 (Mf hlim (by omega)) (by omega) (by rw[hnl]; omega)) rfl ?_
 refine UI (bG rfl) rfl ?_;refine UQ ?_;refine UR ?_;refine UJ ?_;refine UK ?_;refine UI (aV rfl) rfl ?_;refine UI (aV rfl) rfl ?_;refine UI (oU (k:=0) u32 rfl rfl (.inl rfl)) rfl ?_;refine UI (aV rfl) rfl ?_;refine UI (IL (k:=0) jU rfl rfl rfl rfl htg (Qg (by omega) (by omega)) rfl (by omega)) rfl ?_
 refine U4 (Ov (k:=0) (zs:=bj [.slice none 0 0,.slice none 0 0] (n-(i-0+(n-j)))) jU rfl rfl hro (by omega) Q0 (ep (by decide) _) (by intro e; have:=SH List.length e; rw[bJ] at this; simp at this; omega) (by rw[bJ,aY]; simp; omega)) ?_
 refine UQ ?_;refine UR ?_;refine UJ ?_;refine UK ?_;refine UI (aV rfl) rfl ?_;refine UI (bG rfl) rfl ?_;refine UQ ?_;refine UR ?_;refine U9 ?_;refine UY (.tmp rfl .nil) fun m' hm'=>⟨?_,_,hm',?_,?_⟩
 rw[show i-0+(n-j)=n-(j-i) by omega,TN]; rfl
 rw[aY,aY]
 rw[show(n-(j-i))*2=0+(i-0+(n-j))*2 by omega]
 rw[ze (by rw[hnl]; omega) (by omega),SE,TN]
end Go.Proofs.Ytmndpgfbkicndaa
namespace Go.Ab.W
open Go Go.Ab
attribute [local irreducible] Tm.at Trie.set Trie.get Vn.get Vn.set Vn.alloc Vn.ww Vn.kill
section
variable{α:Type}{r:Rep α}{o:Orp r}{E:Env}{n:Nat}{m0 m:Vn}{fs:Fs}{ps:VB Pc}{dr:Bool}{ops:VD Oper}{K:Tm->Vn->Prop}{os:VB Oper}{prs:VB (Nat×Nat)}{ss:VB Nk}{ty:UA}
def aa.Cj:aa m0 ps (.gen (cR o (fun _=>False) [] [])::ps):=fun _ hm=>hm.Cj
def Wo.uS{x:α}{g:o.G}{qs:VB Pc}(hq:o.N x g++ps=qs)(k:∀S,Wo dr E n ops K os m0 fs (.gen (cR o S [x] [o.V x g])::ps)):Wo dr E n ops K os m0 fs qs :=
 Wo.pR (N:=fun S=>.gen (cR o S [x] [o.V x g])::ps) (fun m hm=>⟨_,Hp.uS (by rw[hq]; exact hm)⟩) k
def Wn.uS{x:α}{g:o.G}{qs:VB Pc}(hq:o.N x g++ps=qs)(k:∀S,Wn E n ops prs K os ss m0 fs (.gen (cR o S [x] [o.V x g])::ps)):Wn E n ops prs K os ss m0 fs qs :=
 Wn.pR (N:=fun S=>.gen (cR o S [x] [o.V x g])::ps) (fun m hm=>⟨_,Hp.uS (by rw[hq]; exact hm)⟩) k
def tz{elem ty2:UA}{w c0 l l1:Nat}{a a0:Ux}{S S':Uy}{L L':VB α}{es es':Uw}{ars:VD UB}{p0:Pc}(ht:SlT E.P ty elem w)(h3:∃e2,E.P.underlying ty2=some (.slice e2))(ha:gF E fs ars.toList=some [.slice a l l,.slice a0 l1 c0])(hr:IsRd p0 a0 c0 w l1 es')(hw:r.w=w)(hl:lim (L++L').length=true) :
  Ox E m0 fs (.gen (cR o S L es)::.gen (cR o S' L' es')::.sl a w l es::p0::ps) (.call ⟨.builtin .append,ars,#[ty,ty2]⟩) (fun y:Ux ×(Nat->Prop)=>.slice y.1 (L++L').length (L++L').length)
   (fun y=>.gen (cR o y.2 (L++L') (es++es'))::.sl y.1 w (L++L').length (es++es')::p0::ps):=fun t m hf hm=>⟨fun b hb=>(by simp[aL] at hb),fun K hK=>by
 have e1:l=L.length:=by rw[Pc.td (hm.get (k:=2) rfl),sG hm (q:=0) rfl]
 have e2:l1=L'.length:=by rw[<-(hm.rd (k:=3) rfl hr).1,sG hm (q:=1) rfl]
 have e0:l+l1=(L++L').length:=by rw[e1,e2,Sn]
 obtain⟨⟨qs,h0,_⟩,_⟩:=(hm.get (k:=1) rfl).1;obtain⟨S'',h1⟩:=hm.F0;obtain⟨a',m',h4,h2⟩:=qk (n:=l) (k:=1) ht h3 h1 rfl (h1.rd (k:=2) rfl hr) (fun e he=>by rw[<-hw]; exact(h0.cells e he).1) (fun e he=>(h0.cells e he).2) (by rw[e0]; exact hl)
 have:ba E.P .append #[ty,ty2] [.slice a l l,.slice a0 l1 c0] m=some (.slice a' (l+l1) (l+l1),m'):=h4;rw[Go.Ab.dw (hf.gF ha) this];rw[e0] at h2 ⊢;exact hK (a',S'') m' h2⟩
end
def ia{γ:Type}{l:VB γ}{j:Nat}{e:γ}(h:l[j]? = some e):l.set j e=l:=by
 apply Tg;intro i;rw[List.getElem?_set]
 split
 rename_i hij; subst hij;rw[R7 (Sl.1 h).1,h]
 rfl
def cV{γ:Type}{l:VB γ}{j:Nat}{e e':γ}(h:l[j]? = some e):(l.set j e')[j]? = some e':=by
 rw[List.getElem?_set,R7 rfl,R7 (Sl.1 h).1]
section
variable{α β:Type}{r:Rep α}{o:Orp r}{E:Env}{n:Nat}{m0 m:Vn}{fs:Fs}{ps qs:VB Pc}{dr:Bool}{ops:VD Oper}{K:Tm->Vn->Prop}{os:VB Oper}{prs:VB (Nat×Nat)}{ss:VB Nk}{ty:UA}{Q:Vo->Tm->Vn->Prop}
def aa.mT{k b w l:Nat}{es es':Uw}{tg:Tag}(hp:pk ps k=some (.arr b w l es tg))(h:es=es'):aa m0 ps (bL ps k (.arr b w l es' tg)):=fun m hm=>by
 subst h; rw[qg _ _ _ hp]; exact hm
def At.pR{e:Vo}{β:Type}{N:β->VB Pc}(h:∀m,Hp m0 m ps->∃y,Hp m0 m (N y))(k:∀y,At Q e m0 fs (N y)):At Q e m0 fs ps:=fun t m hf hm=>by
 obtain⟨y,hy⟩:=h m hm; exact k y t m hf hy
def zK{S:Uy}{L:VB α}{es:Uw}{j:Nat}{x:α}(hl:L[j]? = some x):∀m,Hp m0 m (.gen (cR o S L es)::ps) ->
  ∃z:{ z:o.G ×(Nat->Prop) ×(Nat->Prop) // es[j]? = some (o.V x z.1)},Hp m0 m (o.N x z.1.1++(.gen (cR o z.1.2.1 (L.take j) (es.take j))::.gen (cR o z.1.2.2 (L.drop (j+1)) (es.drop (j+1)))::ps)):=fun m hm=>by
 obtain⟨g,S1,S2,he,h⟩:=hm.J3 hl;exact⟨⟨(g,S1,S2),he⟩,h⟩
def Wo.CW{S:Uy}{L:VB α}{es:Uw}{j:Nat}{x:α}{N:o.G->(Nat->Prop)->(Nat->Prop)->VB Pc}(hl:L[j]? = some x)(hN:∀g S1 S2,N g S1 S2=o.N x g++(.gen (cR o S1 (L.take j) (es.take j))::.gen (cR o S2 (L.drop (j+1)) (es.drop (j+1)))::ps))(k:∀g S1 S2,es[j]? = some (o.V x g)->Wo dr E n ops K os m0 fs (N g S1 S2)) :
  Wo dr E n ops K os m0 fs (.gen (cR o S L es)::ps):=Wo.pR (zK hl) fun z=>by rw[<-hN]; exact k _ _ _ z.2
def Wn.CW{S:Uy}{L:VB α}{es:Uw}{j:Nat}{x:α}{N:o.G->(Nat->Prop)->(Nat->Prop)->VB Pc}(hl:L[j]? = some x)(hN:∀g S1 S2,N g S1 S2=o.N x g++(.gen (cR o S1 (L.take j) (es.take j))::.gen (cR o S2 (L.drop (j+1)) (es.drop (j+1)))::ps))(k:∀g S1 S2,es[j]? = some (o.V x g)->Wn E n ops prs K os ss m0 fs (N g S1 S2)) :
  Wn E n ops prs K os ss m0 fs (.gen (cR o S L es)::ps):=Wn.pR (zK hl) fun z=>by rw[<-hN]; exact k _ _ _ z.2
def yQ{S1 S2:Uy}{L:VB α}{es:Uw}{j:Nat}{x:α}{g:o.G}(hl:L[j]? = some x)(he:es[j]? = some (o.V x g))(hq:o.N x g++(.gen (cR o S1 (L.take j) (es.take j))::.gen (cR o S2 (L.drop (j+1)) (es.drop (j+1)))::ps)=qs):∀m,Hp m0 m qs->∃S,Hp m0 m (.gen (cR o S L es)::ps):=fun m hm=>by
 rw[<-hq] at hm;obtain⟨S,h⟩:=hm.DY hl he;rw[ia hl,ia he] at h;exact⟨S,h⟩
def Wo.Gh{S1 S2:Uy}{L:VB α}{es:Uw}{j:Nat}{x:α}{g:o.G}(hl:L[j]? = some x)(he:es[j]? = some (o.V x g))(hq:o.N x g++(.gen (cR o S1 (L.take j) (es.take j))::.gen (cR o S2 (L.drop (j+1)) (es.drop (j+1)))::ps)=qs)(k:∀S,Wo dr E n ops K os m0 fs (.gen (cR o S L es)::ps)):Wo dr E n ops K os m0 fs qs:=Wo.pR (yQ hl he hq) k
def Wn.Gh{S1 S2:Uy}{L:VB α}{es:Uw}{j:Nat}{x:α}{g:o.G}(hl:L[j]? = some x)(he:es[j]? = some (o.V x g))(hq:o.N x g++(.gen (cR o S1 (L.take j) (es.take j))::.gen (cR o S2 (L.drop (j+1)) (es.drop (j+1)))::ps)=qs)(k:∀S,Wn E n ops prs K os ss m0 fs (.gen (cR o S L es)::ps)):Wn E n ops prs K os ss m0 fs qs:=Wn.pR (yQ hl he hq) k
def aa.iu{S:Uy}{L:VB α}{es:Uw}:aa m0 (.gen (cR o S L es)::ps) (.gen (cp r S L es)::ps):=fun _ hm=>hm.sY
def H8{S1 S2 S:Uy}{L:VB α}{es:Uw}{j:Nat}{x y:α}{e:VB Uz}{g:r.G}(hl:L[j]? = some x)(he:es[j]? = some e)(hf:Lf m0 ps r y g S):∀m,Hp m0 m (.gen (cR o S1 (L.take j) (es.take j))::.gen (cR o S2 (L.drop (j+1)) (es.drop (j+1)))::ps)->∃R,Hp m0 m (.gen (cp r R (L.set j y) (es.set j (r.V y g)))::ps):=fun m hm=>by
 have h1:=hm.sY;have h2:Hp m0 m (.gen (cR o S2 (L.drop (j+1)) (es.drop (j+1)))::.gen (cp r S1 (L.take j) (es.take j))::ps):=h1.perm (List.Perm.swap _ _ _);have h3:=h2.sY;have h0:Hp m0 m ps:=by
  have:=h3.ok;exact⟨h3.ext,fun p hp=>h3.ok p (Sf _ (Sf _ hp)),(Sz.1 (Sz.1 h3.apart).2).2⟩
 obtain⟨a1,a2⟩:=hf m h0;have h4:iy m0 (.gen (cp r S2 (L.drop (j+1)) (es.drop (j+1)))::.gen (cp r S1 (L.take j) (es.take j))::ps) r [y] [r.V y g] (fun b=>S b\/False):=fun m' hm'=>by
  have h5:Hp m0 m' ps:=⟨hm'.ext,fun p hp=>hm'.ok p (Sf _ (Sf _ hp)),(Sz.1 (Sz.1 hm'.apart).2).2⟩;obtain⟨b1,b2⟩:=hf m' h5;refine⟨.cons (r.mono b1 fun _ h=>.inl h) .nil,fun b hb=>?_⟩;obtain⟨q,hq,h⟩:=b2 b (hb.elim id False.elim);exact⟨q,Sf _ (Sf _ hq),h⟩
 have h6:=aa.dp h4 m h3;have h7:=aa.Cg (m0:=m0) (q:=0) (q2:=1) rfl rfl m h6;have h8:=aa.Cg (m0:=m0) (q:=2) (q2:=0) rfl rfl m h7;have h9:Hp m0 m (.gen (cp r (fun b=>S1 b\/((S b\/False)\/S2 b)) (L.take j++([y]++L.drop (j+1))) (es.take j++([r.V y g]++es.drop (j+1))))::ps):=⟨h8.ext,fun p hp=>h8.ok p (Sf _ (Sf _ hp)),(Sz.1 (Sz.1 h8.apart).2).2⟩;refine⟨fun b=>S1 b\/((S b\/False)\/S2 b),?_⟩;rw[hU y (Sl.1 hl).1,hU (r.V y g) (Sl.1 he).1];exact h9
def At.iK{ex:Vo}{S1 S2 S:Uy}{L:VB α}{es:Uw}{j:Nat}{x y:α}{e:VB Uz}{g:r.G}(hl:L[j]? = some x)(he:es[j]? = some e){e2:VB Uz}(hf:Lf m0 ps r y g S)(hV:∀m,Hp m0 m ps->r.V y g=e2)(k:∀R,At Q ex m0 fs (.gen (cp r R (L.set j y) (es.set j e2))::ps)) :
  At Q ex m0 fs (.gen (cR o S1 (L.take j) (es.take j))::.gen (cR o S2 (L.drop (j+1)) (es.drop (j+1)))::ps):=At.pR (fun m hm=>by
 obtain⟨R,hR⟩:=H8 hl he hf m hm;have h0:Hp m0 m ps:=⟨hR.ext,fun p hp=>hR.ok p (Sf _ hp),(Sz.1 hR.apart).2⟩;rw[hV m h0] at hR;exact⟨R,hR⟩) k
def Hp.OM{f:β->VB Uz}{w:Nat}{r2:Rep α}{o2:Orp r2}{S:Uy}{L:VB (VB β×α)}{es:Uw}{k q:Nat}{x:VB β×α}(hm:Hp m0 m ps)(hq:pk ps q=some (.gen (cR (oP (oS f w) o2) S L es)))(hl:L[k]? = some x) :
  ∃a h,es[k]? = some (.slice a x.1.length x.1.length::h)/\Rd m a x.1.length w x.1.length (x.1.map f):=by
 obtain⟨⟨qs,h1,h2⟩,_⟩:=(hm.get hq).1;obtain⟨q1,q2,rfl,h3,h4⟩:=h1.split k;have hk:k<L.length:=(Sl.1 hl).1;have hke:k<es.length:=by rw[h1.len]; exact hk
 have hd:L.drop k=x::L.drop (k+1):=by
  rw[List.drop_eq_getElem_cons hk];rw[R6 hk] at hl;rw[Sb hl]
 rw[hd,List.drop_eq_getElem_cons hke] at h4;obtain⟨g,q3,e1,rfl,h5⟩:=h4;have hmem:(.sl g.1 w x.1.length (x.1.map f):Pc)∈q1++((oP (oS f w) o2).N x g++q3):=SJ _ (Sx _ (Sx _ (Se.2 rfl)));refine⟨g.1,o2.V x.2 g.2,by rw[R6 hke,e1]; rfl,?_⟩
 exact Pc.Dx (p:=.sl g.1 w x.1.length (x.1.map f)) (h2.1 _ hmem).1 (.sl ..)
def Wo.M6{k q w l:Nat}{a:Ux}{S:Uy}{L:VB α}{es:Uw}(hp:pk ps k=some (.sl a w l es))(hq:pk ps q=some (.gen (cR o S L es)))(h:l=L.length->Wo dr E n ops K os m0 fs ps):Wo dr E n ops K os m0 fs ps:=by
 have key:∀m,Hp m0 m ps->l=L.length:=fun m hm=>(Pc.td (hm.get hp)).trans (sG hm hq);cases dr with
 | false=>exact fun t m hf hm=>h (key m hm) t m hf hm
 | true=>exact fun t m w hf hm hw=>h (key m hm) t m w hf hm hw
def Wn.M6{k q w l:Nat}{a:Ux}{S:Uy}{L:VB α}{es:Uw}(hp:pk ps k=some (.sl a w l es))(hq:pk ps q=some (.gen (cR o S L es)))(h:l=L.length->Wn E n ops prs K os ss m0 fs ps):Wn E n ops prs K os ss m0 fs ps :=
 fun t m ns hf hm hn=>h ((Pc.td (hm.get hp)).trans (sG hm hq)) t m ns hf hm hn
def CG:∀p ∈([]:VB Pc),p.bound=true/\∀b,p.any b->p.ow b:=fun p hp=>by cases hp
def wN{l:VB Pc}{a:Ux}{w k:Nat}{es:Uw}(h:∀p∈l,p.bound=true/\∀b,p.any b->p.ow b):∀p ∈(Pc.sl a w k es::l),p.bound=true/\∀b,p.any b->p.ow b:=fun p hp=>by
 rcases Sr.1 hp with rfl|hp
 exact⟨rfl,fun b hb=>Bg hb⟩
 exact h p hp
def Ir{l:VB Pc}{S:Uy}{L:VB α}{es:Uw}(h:∀p∈l,p.bound=true/\∀b,p.any b->p.ow b):∀p ∈(Pc.gen (cR o S L es)::l),p.bound=true/\∀b,p.any b->p.ow b:=fun p hp=>by
 rcases Sr.1 hp with rfl|hp
 exact⟨rfl,fun b hb=>hb.elim (fun h=>by cases h) fun h=>h.elim (fun h=>.inr h) fun h=>h.elim⟩
 exact h p hp
def Hp.od{q:Nat}{S:Uy}{L:VB α}{es:Uw}(hm:Hp m0 m ps)(hq:pk ps q=some (.gen (cR o S L es))):(cp r S L es).P m:=by
 obtain⟨⟨qs,h1,h2⟩,h3⟩:=(hm.get hq).1;exact⟨h1.FD (fun p hp=>(h2.1 p hp).1) fun p hp b hb=>(h2.1 p hp).2.2.2 b ((h2.1 p hp).2.2.1 b hb),h3⟩
def Hp.rO{f:β->VB Uz}{w:Nat}{r2:Rep α}{o2:Orp r2}{S1 S2:Uy}{L:VB (VB β×α)}{es:Uw}{j k q0 q1 q2:Nat}{z x:VB β×α}{a0:Ux}{h0:VB Uz}(hm:Hp m0 m ps)(hl:L[j]? = some z)(he:es[j]? = some (.slice a0 z.1.length z.1.length::h0))(hx:L[k]? = some x)
  (hq0:pk ps q0=some (.sl a0 w z.1.length (z.1.map f))) (hq1:pk ps q1=some (.gen (cR (oP (oS f w) o2) S1 (L.take j) (es.take j)))) (hq2:pk ps q2=some (.gen (cR (oP (oS f w) o2) S2 (L.drop (j+1)) (es.drop (j+1))))) :
  ∃a h,es[k]? = some (.slice a x.1.length x.1.length::h)/\Rd m a x.1.length w x.1.length (x.1.map f):=by
 rcases Nat.lt_trichotomy k j with h|h|h
 obtain⟨a,t,h1,h2⟩:=hm.OM (k:=k) (x:=x) hq1 (by rw[Tk,R7 h]; exact hx)
 rw[Tk,R7 h] at h1;exact⟨a,t,h1,h2⟩
 subst h;rw[hl] at hx; cases hx;exact⟨a0,h0,he,Pc.Dx (hm.get hq0) (.sl ..)⟩
 obtain⟨a,t,h1,h2⟩:=hm.OM (k:=k-(j+1)) (x:=x) hq2 (by rw[Tl,show j+1+(k-(j+1))=k by omega]; exact hx)
 rw[Tl,show j+1+(k-(j+1))=k by omega] at h1
 exact⟨a,t,h1,h2⟩
def Wn.rO{f:β->VB Uz}{w:Nat}{r2:Rep α}{o2:Orp r2}{S1 S2:Uy}{L:VB (VB β×α)}{es:Uw}{j k q0 q1 q2:Nat}{z x:VB β×α}{a0:Ux}{h0:VB Uz}(hl:L[j]? = some z)(he:es[j]? = some (.slice a0 z.1.length z.1.length::h0))(hx:L[k]? = some x)
  (hq0:pk ps q0=some (.sl a0 w z.1.length (z.1.map f))) (hq1:pk ps q1=some (.gen (cR (oP (oS f w) o2) S1 (L.take j) (es.take j)))) (hq2:pk ps q2=some (.gen (cR (oP (oS f w) o2) S2 (L.drop (j+1)) (es.drop (j+1)))))
  (kk:∀a h,es[k]? = some (.slice a x.1.length x.1.length::h)->(∀m,Hp m0 m ps->Rd m a x.1.length w x.1.length (x.1.map f))->Wn E n ops prs K os ss m0 fs ps):Wn E n ops prs K os ss m0 fs ps:=fun t m ns hf hm hn=>by
 obtain⟨a,h,h1,_⟩:=hm.rO hl he hx hq0 hq1 hq2;refine kk a h h1 (fun m' hm'=>?_) t m ns hf hm hn;obtain⟨a',h',h3,h4⟩:=hm'.rO hl he hx hq0 hq1 hq2;rw[h1] at h3;have e:=TE (Sb h3);injection e with e;rw[e]; exact h4
def Lf.sr{f:β->VB Uz}{a:Ux}{k cap w l:Nat}{xs:VB β}(hp:pk ps k=some (.rd a cap w l (xs.map f))):Lf m0 ps (rS f w) xs (a,cap) (fun b=>kU a=some b):=fun m hm=>by
 have e:=qG hm hp;subst e;exact Lf.s hp m hm
def Lf.lr{a:Ux}{k cap w q l:Nat}{R:Uy}{xs:VB α}{es:Uw}(hp:pk ps k=some (.rd a cap w l es))(hq:pk ps q=some (.gen (cp r R xs es)))(hw:r.w=w):Lf m0 ps (rL r) xs (a,cap,es) (fun b=>kU a=some b\/R b):=fun m hm=>by
 have e:l=xs.length:=(hm.get hp).1.symm.trans (lT hm hq);subst e;exact Lf.l hp hq hw m hm
end
end Go.Ab.W
namespace Go.Proofs.Ytmndpgfbkicndaa
section
open Go Go.Ab Go.Ab.W
set_option maxRecDepth 10000
set_option maxHeartbeats 4000000
attribute [local irreducible] Wo Wk At Wn Od Ox bh bT
attribute [local irreducible] Tm.at Trie.set Trie.get Vn.get Vn.set Vn.alloc Vn.ww Vn.kill
variable{p q:VA Prim}
def rJ:bq (Vq p q).P 34=some (.agg #[.slice none 0 0,.slice none 0 0]):=by kernel_rfl
def BM:BdT (Vq p q).P 34 (.agg #[.slice none 0 0,.slice none 0 0]) [(0,1),(1,1)]:=.mk' (by kernel_rfl) (by kernel_rfl)
def np:BdT (Vq p q).P 54 (.agg #[.slice none 0 0,.slice none 0 0]) [(0,1),(1,1)]:=.mk' (by kernel_rfl) (by kernel_rfl)
abbrev iw:Orp bl:=(oS (eI .i64) 1)
abbrev cu:Orp aj:=(oP (oS (eI .i64) 1) (oL iw))
def GH{n l7 l1 a7 c1 a8 c2}{r0:Uy}{e0:Uw}{r}(hF:N0 n l7 l1=some r)(m)(h2:kq m a7 c1 l7)(h3:nY m a8 c2 l1 e0)(h4:(cp aj r0 l1 e0).P m):
 aK (Vq p q) 44 [lO a7 l7 c1 a8 l1 c2] m (fun v m'=>∃x:Ux×Nat×Ux×Nat×Uw ×(Nat->Prop),v=.agg #[.slice x.1 x.2.1 x.2.1,.slice x.2.2.1 x.2.2.2.1 x.2.2.2.1]/\Hp m m' [.sl x.1 2 x.2.1 (r.1.map (eP (eI .i64) (eI .i64))),.sl x.2.2.1 2 x.2.2.2.1 x.2.2.2.2.1,.gen (cR cu x.2.2.2.2.2 r.2 x.2.2.2.2.1)]):=by
 unfold N0 at hF;refine cw Try.func44 (Hp.nV (U2 (U2 (UU m) eo h2) (fg eo) h3) (fg (fg eo)) h4) ?_;refine wz ?_;refine wb fun b4=>?_;refine wa rJ fun b0=>?_;refine au ?_;refine UI (kV rfl rfl (lH _ _)) rfl ?_;obtain⟨h5,hF⟩:=az hF;refine UX (zi (k:=4) (lo:=0) (hi:=mi (l7.length:Int) (125:Int)) vK rfl rfl rfl rfl h5 (.inl ⟨rfl,rfl⟩) (.inr ⟨_,rfl⟩)) gn rfl ?_;rintro⟨a11,c4⟩;obtain⟨l4,h6,hF⟩:=J hF;refine wc gn (fun m hm=>NL n (Vh l7 125) a11 c4 _ h6 m (hm.q 0)) ?_;rintro⟨a0,n0⟩;refine Vb (k:=0) (xs:=l4) rfl ?_;rintro rfl;refine UI (cH rfl rJ rfl (cJ BM rfl rfl rfl)) rfl<|wa rJ fun b1=>?_;refine au ?_;refine UI (kV rfl rfl (lH _ _)) rfl ?_;obtain⟨h7,hF⟩:=az hF;refine UX (Lh (r:=aj) (k:=6) (q:=5) (lo:=0) (hi:=mi (l1.length:Int) (66:Int)) jU rfl rfl rfl rfl rfl h7 (.inl ⟨rfl,rfl⟩) (.inr ⟨_,rfl⟩)) gn rfl ?_;rintro⟨a9,c0⟩;refine wz ?_;refine UN ?_;obtain⟨l8,h0,hF⟩:=J hF;refine ct (fun l8 ((a4,e4,r3):Ux×Uw ×(Nat->Prop))=>⟨(.exit 0),(iO b0 b1 []),[jE b0,tC b1 a0 l4 a4 l8,dg a0 l4,lQ a4 l8 e4,pT cu r3 l8 e4]⟩) l8 ?_ ?_;refine lw h0 ((none,[],(fun _=>False)):Ux×Uw ×(Nat->Prop)) (fun(l2,v0) ((a1,e1,r1):Ux×Uw ×(Nat->Prop))=>⟨.normal,(iO b0 b1 [(24,.slice a9 ((Vh l1 66).length) c0),(25,.int .i64 ((Vh l1 66).length:Int)),(26,bg v0)]),[jE b0,tC b1 a0 l4 a1 l2,dg a0 l4,lQ a1 l2 e1,pT cu r1 l2 e1,.rd a9 c0 2 ((Vh l1 66).length) ((e0.drop UF).take ((mi (l1.length:Int) (66:Int):Int).toNat-UF)),.gen (cp aj r0 (Vh l1 66) ((e0.drop UF).take ((mi (l1.length:Int) (66:Int):Int).toNat-UF)))]⟩) (UT (aa.nil 2 rfl) (UT (aa.Cj (o:=cu)) (UO [7,4,5,1,0,2,3] rfl rfl))) ?_;clear hF h0;rintro⟨l2,v0⟩ ⟨a1,e1,r1⟩ r hF;unfold vG at hF;refine wz ?_;refine UJ ?_;rcases U hF with⟨h8,hF⟩|⟨h8,hF⟩;refine au ?_;obtain⟨h9,hF⟩:=cW hF;refine U0 (k:=5) rfl (aU h9) ?_;rintro b2 o1 rfl;refine wz ?_;obtain⟨⟨l11,l3⟩,h10,hF⟩:=J hF;refine wl 2 0 7 0 h10 ?_;rintro⟨⟨a16,c7⟩,⟨a17,c8,e6⟩⟩;refine wa z54 fun b5=>?_;refine au ?_;refine UI (kV rfl rfl (lH _ _)) rfl ?_;obtain⟨h11,hF⟩:=az hF;refine UX (zi (k:=1) (lo:=0) (hi:=mi (l11.length:Int) (42:Int)) fw rfl rfl rfl rfl h11 (.inl ⟨rfl,rfl⟩) (.inr ⟨_,rfl⟩)) gn rfl ?_;rintro⟨a12,c5⟩;obtain⟨l5,h12,hF⟩:=J hF;refine wc gn (fun m hm=>sC n (Vh l11 42) a12 c5 _ h12 m (hm.q 0)) ?_;rintro⟨a2,n1⟩;refine Vb (k:=0) (xs:=l5) rfl ?_;rintro rfl;refine UI (cH rfl z54 rfl (cJ np rfl rfl rfl)) rfl<|wa z54 fun b3=>?_;refine au ?_;refine UI (kV rfl rfl (lH _ _)) rfl ?_;obtain⟨h13,hF⟩:=az hF;refine UX (Lh (r:=bl) (k:=5) (q:=6) (lo:=0) (hi:=mi (l3.length:Int) (10:Int)) qc rfl rfl rfl rfl rfl h13 (.inl ⟨rfl,rfl⟩) (.inr ⟨_,rfl⟩)) gn rfl ?_;rintro⟨a10,c3⟩;refine wz ?_;refine UN ?_;obtain⟨l6,h1,hF⟩:=J hF;refine ct (fun l6 ((a3,e5,r4):Ux×Uw ×(Nat->Prop))=>⟨(.exit 2),(iO b0 b1 [(6,ptr b3 0),(24,.slice (some ⟨b2,o1,none⟩) ((Vh l1 66).length) c0),(25,.int .i64 ((Vh l1 66).length:Int)),(26,bg v0)]),[jE b0,tC b1 a0 l4 a1 l2,dg a0 l4,lQ a1 l2 e1,pT cu r1 l2 e1,tC b3 a2 l5 a3 l6,yd a2 l5,.sl a3 1 l6.length e5,pT iw r4 l6 e5,.ro b2 o1 2 ((Vh l1 66).length) ((e0.drop UF).take ((mi (l1.length:Int) (66:Int):Int).toNat-UF)),.gen (cp aj r0 (Vh l1 66) ((e0.drop UF).take ((mi (l1.length:Int) (66:Int):Int).toNat-UF))),.rd (some ⟨b2,o1,none⟩) c0 2 ((Vh l1 66).length) ((e0.drop UF).take ((mi (l1.length:Int) (66:Int):Int).toNat-UF))]⟩) l6 ?_ ?_;refine lw h1 ((none,[],(fun _=>False)):Ux×Uw ×(Nat->Prop)) (fun(l9,v1) ((a5,e3,r5):Ux×Uw ×(Nat->Prop))=>⟨.normal,(iO b0 b1 [(6,ptr b3 0),(24,.slice (some ⟨b2,o1,none⟩) ((Vh l1 66).length) c0),(25,.int .i64 ((Vh l1 66).length:Int)),(26,bg v0),(45,.slice a10 ((Vh l3 10).length) c3),(46,.int .i64 ((Vh l3 10).length:Int)),(47,bg v1)]),[jE b0,tC b1 a0 l4 a1 l2,dg a0 l4,lQ a1 l2 e1,pT cu r1 l2 e1,tC b3 a2 l5 a5 l9,yd a2 l5,.sl a5 1 l9.length e3,pT iw r5 l9 e3,.ro b2 o1 2 ((Vh l1 66).length) ((e0.drop UF).take ((mi (l1.length:Int) (66:Int):Int).toNat-UF)),.gen (cp aj r0 (Vh l1 66) ((e0.drop UF).take ((mi (l1.length:Int) (66:Int):Int).toNat-UF))),.rd (some ⟨b2,o1,none⟩) c0 2 ((Vh l1 66).length) ((e0.drop UF).take ((mi (l1.length:Int) (66:Int):Int).toNat-UF)),.rd a10 c3 1 ((Vh l3 10).length) ((e6.drop UF).take ((mi (l3.length:Int) (10:Int):Int).toNat-UF)),.gen (cp bl r0 (Vh l3 10) ((e6.drop UF).take ((mi (l3.length:Int) (10:Int):Int).toNat-UF)))]⟩) (UT (aa.nil 1 rfl) (UT (aa.Cj (o:=iw)) (UO [12,13,14,15,16,4,5,1,0,11,18,17,2,3] rfl rfl))) ?_;clear hF h1;rintro⟨l9,v1⟩ ⟨a5,e3,r5⟩ r hF;unfold uX at hF;refine wz ?_;refine UJ ?_;rcases U hF with⟨h14,hF⟩|⟨h14,hF⟩;refine au ?_;obtain⟨h15,hF⟩:=cW hF;refine U0 (k:=12) rfl (aU h15) ?_;rintro b6 o2 rfl;refine wz ?_;obtain⟨l12,h16,hF⟩:=J hF;refine wl 1 0 14 0 h16 ?_;rintro⟨a18,c9⟩;refine wz ?_;refine U6 (prs:=[(1,7)]) (by kernel_rfl)<|UL (aG (r:=ptr b3 1) rfl (fe _ _)) rfl<|UL (aI (k:=7) mB rfl rfl rfl) rfl<|UL (aV rfl) rfl<|UL (aV rfl) rfl<|UL (oU (k:=0) MI rfl rfl (.inl rfl)) rfl<|UL (kV rfl rfl (lH _ _)) rfl ?_
 obtain⟨h17,hF⟩:=az hF;refine Wn.x (zi (k:=0) (lo:=0) (hi:=mi (l12.length:Int) (42:Int)) fw rfl rfl rfl rfl h17 (.inl ⟨rfl,rfl⟩) (.inr ⟨_,rfl⟩)) gn rfl ?_;rintro⟨a13,c6⟩;obtain⟨l10,h18,hF⟩:=J hF;refine nc gn (fun m hm=>sC n (Vh l12 42) a13 c6 _ h18 m (hm.q 0)) ?_;rintro⟨a6,n2⟩;refine Wn.len (k:=0) (xs:=l10) rfl ?_;rintro rfl;refine Wn.x (cm (es:=[[bQ a6 l10]]) qc rfl (cn qc z51 rfl rfl) rfl rfl) gn rfl fun b7=>?_;refine Ve (UO (1::0::Vg 2 17) rfl rfl)<|Wn.uS (o:=iw) (x:=l10) (g:=a6) rfl ?_;intro r8;obtain⟨h19,hF⟩:=az hF;refine Ve (UO [13,0,12,1,2,3,4,5,6,7,8,9,10,11,14,15,16,17,18] rfl rfl)<|Wn.x (tz (o:=iw) (L:=l9) (L':=([l10]:Uv)) qc ⟨_,Ko⟩ rfl (.arr _ _ _ _ _) rfl h19) gn rfl ?_;rintro⟨a14,r6⟩;refine UL (aG (r:=ptr b3 1) rfl (fe _ _)) rfl<|Wn.o0 (eg (k:=11) mB rfl rfl rfl rfl rfl)<|U1 (fun m hm=>dq.all rfl) ?_;refine au ?_;cases hF;exact ae (a14,(e3++([[bQ a6 l10]]:Uw)),r6) [6,7,8,9,10,11,12,1,0,13,14,15,16,17];refine wz ?_;cases hF;exact ae (a5,e3,r5) (Vg 0 12);rintro⟨a3,e5,r4⟩;refine au ?_;refine UX (cm (es:=[[bQ a2 l5,bQ a3 l6]]) jU rfl (cn jU z54 rfl rfl) rfl rfl) gn rfl fun b8=>?_;refine UW (UO [7,8,9,0,1,2,3,4,5,6,10,11,12] rfl rfl)<|Wo.uS (o:=cu) (x:=(l5,l6)) (g:=(a2,(a3,e5,r4))) rfl ?_;intro r9;obtain⟨h20,hF⟩:=az hF;refine UW (UO [6,0,5,1,2,3,4,7,8,9,10] rfl rfl)<|UX (tz (o:=cu) (L:=l2) (L':=([(l5,l6)]:Us)) jU ⟨_,u32⟩ rfl (.arr _ _ _ _ _) rfl h20) gn rfl ?_;rintro⟨a15,r7⟩;refine au ?_;cases hF;exact ae (a15,(e1++([[bQ a2 l5,bQ a3 l6]]:Uw)),r7) [3,4,5,1,0,9,8];refine wz ?_;cases hF;exact ae (a1,e1,r1) (Vg 0 5);rintro⟨a4,e4,r3⟩;refine gB ?_;cases hF;exact UY (.cell (k:=0) fB rfl rfl rfl .nil) fun m' hm=>⟨(a0,l4.length,a4,l8.length,e4,r3),rfl,(UO [2,3,4] rfl rfl) m' hm⟩
end
section
open Go Go.Ab Go.Ab.W
set_option maxRecDepth 10000
set_option maxHeartbeats 4000000
attribute [local irreducible] Tm.at Trie.set Trie.get Vn.get Vn.set Vn.alloc Vn.ww Vn.kill
variable{p q:VA Prim}
def Kh(n:Nat){m0 m:Vn}{ps:VB Pc}{k:Nat}{a:Ux}{l r:VB Int}{i j:Int}(h:Hp m0 m ps)(hp:pk ps k=some (.sl a 1 l.length (l.map (eI .i64))))(hF:Qx n l i j=some r) :
  aK (Vq p q) 48 [.slice a l.length l.length,.int .i64 i,.int .i64 j] m (fun v m'=>∃_:VC,v=.slice a r.length l.length/\Hp m0 m' (bL ps k (.gen (nX a l.length 1 r.length (r.map (eI .i64)))))):=by
 obtain⟨hc,hF⟩:=az hF;simp only[R9,Sj] at hc;obtain⟨⟨⟨⟨c0,c1⟩,c2⟩,c3⟩,c4⟩:=hc;have hr:=Sb hF;subst hr;obtain⟨es,hes⟩:∃es,es=l.map (eI .i64):=⟨_,rfl⟩;have hel:es.length=l.length:=by rw[hes,Si]
 have hwid:∀e∈es,e.length=1:=fun e he=>by rw[hes] at he; obtain⟨x,_,rfl⟩:=Sy.1 he; rfl
 have hone:dB es:=fun e he=>by rw[hes] at he; obtain⟨x,_,rfl⟩:=Sy.1 he; rfl
 rw[show(l.take i.toNat++l.drop j.toNat).map (eI .i64)=es.take i.toNat++es.drop j.toNat by rw[hes,List.map_append,List.map_take,List.map_drop]]
 rw[<-hes] at hp;rcases h.get hp with⟨h0,_⟩|⟨b,tg,rfl,g1,g2,g3,g4,g5,g6,g7⟩
 omega
 ·have hfl:es.flatten.length=l.length*1:=by rw[cG hwid,hel]
  have hwb:gO m 1 b l.length l.length=some (es.flatten,tg):=by
   unfold gO;rcases g6 with rfl|rfl<;>simp only[g3]
   rw[R7 ⟨trivial,hfl⟩]
   rw[R7 ⟨trivial,hfl,trivial⟩]
  have ft:∀(k:Nat) (l:Uw),(∀e∈l,e.length=1)->(l.take k).flatten=l.flatten.take k/\(l.drop k).flatten=l.flatten.drop k:=by
   intro k l
   induction l generalizing k with
   | nil=>intro _; simp
   | cons e l ih =>
    intro hl;cases k with
    | zero=>simp
    | succ k =>
     obtain⟨x1,x2⟩:=ih k fun e he=>hl e (Sf _ he);have he:=hl e (Sv ..);obtain⟨y,rfl⟩:∃y,e=[y]:=List.length_eq_one_iff.1 he;simp[x1,x2]
  have hlen:(l.take i.toNat++l.drop j.toNat).length=l.length-(j.toNat-i.toNat):=by simp; omega
  refine aK.cP (p:=⟨jX (.int .i64 0)⟩) rfl (v:=.slice (some ⟨b,0,none⟩) (l.take i.toNat++l.drop j.toNat).length l.length) (m':=m.set b (.cells (es.flatten.take i.toNat++es.flatten.drop j.toNat++List.replicate (j.toNat-i.toNat) (.int .i64 0)) tg)) ?_ ⟨(),rfl,?_⟩
  show jX _ [.slice (some ⟨b,0,none⟩) l.length l.length,.int .i64 i,.int .i64 j] m=_
  simp only[jX,hwb];rw[R7 ⟨c1,c2,c3,c4,iv hone⟩,hlen]
  refine h.Eu hp (fun b' hb=>.inl (.inl ⟨rfl,hb.elim (fun h=>by cases h.1) id⟩)) (fun b' hb=>.inl (.inl (hb.elim (fun h=>by cases h) fun h=>h.elim id fun h=>h.elim))) (by rw[Vn.next_set]; exact Sa _) (h.ext.set g1 _) ⟨⟨?_,?_,by decide,by rw[hlen]; omega,.inr ⟨b,List.replicate (j.toNat-i.toNat) (.int .i64 0),tg,rfl,by rw[Vn.next_set]; exact g2,?_,g6,?_⟩⟩,fun _ b' hb=>by cases hb; exact g1⟩ fun b' hb hlt=>?_
  rw[hlen]; simp; omega
  intro e he;rcases St.1 he with he|he
  exact hwid e (Tq he)
  exact hwid e (TF he)
  rw[Vn.bp,R7 rfl,TC,(ft _ es hwid).1,(ft _ es hwid).2]
  have e1:=(ft i.toNat es hwid).1;have e2:=(ft j.toNat es hwid).2;rw[TC,e1,e2];simp[hfl]; omega
  rw[Vn.bp,R5 fun e=>hb (.inl ⟨rfl,by rw[e]; rfl⟩)]
def Iv(l:VB Int):((l.map (eI .i64)).flatten).all aQ=true:=by
 induction l with
 | nil=>rfl
 | cons x l ih=>rw[Ts,S6,List.all_append,ih]; rfl
def se(l:VB Int):(l.map (eI .i64)).flatten=l.map (fun x=>Value.int .i64 x):=by
 induction l with
 | nil=>rfl
 | cons x l ih=>rw[Ts,S6,ih]; rfl
def used{m0 m:Vn}{ps:VB Pc}(h:Hp m0 m ps){k b n n3:Nat}{es es3:Uw}(hp:pk ps k=some (.sl (some ⟨b,0,none⟩) 1 n es))(hn:es3.length=n3)(hw:∀e∈es3,e.length=1) :
  Hp m0 ((m.kill b).alloc (.cells es3.flatten (.more 1))) (bL ps k (.sl (some ⟨m.next,0,none⟩) 1 n3 es3)):=by
 have hb:m0.next<=b:=by
  rcases h.get hp with⟨_,_,h3,_⟩|⟨b',tg,h1,h2⟩
  cases h3
  cases h1; exact h2.1
 have hk:Ext m0 (m.kill b):=⟨by rw[Vn.next_kill]; exact h.ext.next,fun x hx=>by rw[Vn.dJ,UG]; exact h.ext.same x hx,by
  rw[Vn.wl_kill];have:=h.ext.wl; omega⟩
 refine h.renew hp (by rw[Vn.next_alloc,Vn.next_kill]; omega) (hk.alloc _) (.inr ⟨m.next,.more 1,rfl,h.ext.next,by rw[Vn.next_alloc,Vn.next_kill]; omega,by rw[Vn.aW,Vn.next_kill,R7 rfl],hn,hw,.inr rfl,by decide⟩) (fun b' hb'=>?_) rfl fun b' hb' hlt=>?_
 cases hb'; exact Sa _
 rw[Vn.aW,Vn.next_kill,UG,Vn.dJ,R5 (fun e=>hb' (by rw[e]; rfl))]
def J2{m0 m:Vn}{ps:VB Pc}(h:Hp m0 m ps){k n n3:Nat}{es es3:Uw}(hp:pk ps k=some (.sl none 1 n es))(hn:es3.length=n3)(hw:∀e∈es3,e.length=1) :
  Hp m0 (m.alloc (.cells es3.flatten (.more 1))) (bL ps k (.sl (some ⟨m.next,0,none⟩) 1 n3 es3)):=by
 refine h.renew hp (by rw[Vn.next_alloc]; omega) (h.ext.alloc _) (.inr ⟨m.next,.more 1,rfl,h.ext.next,by rw[Vn.next_alloc]; omega,by rw[Vn.aW,R7 rfl],hn,hw,.inr rfl,by decide⟩) (fun b' hb'=>?_) rfl fun b' _ hlt=>?_
 cases hb'; exact Sa _
 rw[Vn.aW,UG]
def Jt(n:Nat){m0 m:Vn}{ps:VB Pc}(h:Hp m0 m ps){k k2 b2:Nat}{a:Ux}{i:Int}{l r:VB Int}{x:Int}(hp:pk ps k=some (.sl a 1 l.length (l.map (eI .i64))))(hp2:pk ps k2=some (.arr b2 1 1 ([x].map (eI .i64)) .own))(hk:Nat.beq k2 k=false)(hF:Rg n l i [x]=some r) :
  aK (Vq p q) 49 [.slice a l.length l.length,.int .i64 i,.slice (some ⟨b2,0,none⟩) 1 1] m (fun v m'=>∃y:Ux×Nat,v=.slice y.1 y.2 y.2/\Hp m0 m' (bL ps k (.sl y.1 1 y.2 (r.map (eI .i64))))):=by
 obtain⟨hc,hF⟩:=az hF;simp only[R9,Sj] at hc;obtain⟨⟨c1,c2⟩,c4⟩:=hc;have hr:=Sb hF;subst hr;obtain⟨i,rfl⟩:=TY c1;have hi:i<=l.length:=by omega
 simp only[SG];have hv:m.get b2=some (.cells [.int .i64 x] .own):=(h.get hp2).2.2.1;have hw1:∀l:VB Int,∀e∈l.map (eI .i64),e.length=1:=fun l e he=>by obtain⟨y,_,rfl⟩:=Sy.1 he; rfl
 have e3:(l.take i++([x]++l.drop i)).length=l.length+1:=by simp; omega
 rcases h.get hp with⟨h0,h1,rfl,_⟩|⟨b,tg,rfl,g1,g2,g3,g4,g5,g6,g7⟩
 have hl:l=[]:=T1.1 h1;subst hl;obtain rfl:i=0:=by simpa using hi
 refine aK.cP (p:=⟨lu⟩) rfl (v:=.slice (some ⟨m.next,0,none⟩) 1 1) (m':=m.alloc (.cells [.int .i64 x] (.more 1))) ?_ ⟨(some ⟨m.next,0,none⟩,1),rfl,J2 (es3:=[x].map (eI .i64)) h hp rfl (hw1 _)⟩
 show lu [.slice none 0 0,.int .i64 0,.slice (some ⟨b2,0,none⟩) 1 1] m=_
 simp only[lu,hv]
 have hne:b2≠b:=fun e=>(fu h.apart hp2 hp (Ud hk)).1 b2 (.inl ⟨rfl,rfl⟩) (.inl (by rw[e]; rfl))
 have hwb:gO m 1 b l.length l.length=some ((l.map (eI .i64)).flatten,tg):=by
  unfold gO;rcases g6 with rfl|rfl<;>simp only[g3]
  rw[R7 ⟨trivial,by rw[se]; simp⟩]
  rw[R7 ⟨trivial,by rw[se]; simp,trivial⟩]
 refine aK.cP (p:=⟨lu⟩) rfl (v:=.slice (some ⟨m.next,0,none⟩) (l.length+1) (l.length+1)) (m':=(m.kill b).alloc (.cells ((l.take i++([x]++l.drop i)).map (eI .i64)).flatten (.more 1))) ?_ ⟨(some ⟨m.next,0,none⟩,l.length+1),rfl,used h hp (by simpa using e3) (hw1 _)⟩
 show lu [.slice (some ⟨b,0,none⟩) l.length l.length,.int .i64 (i:Int),.slice (some ⟨b2,0,none⟩) 1 1] m=_
 simp only[lu,hv,hwb];rw[R7 ⟨hne,by omega,by omega,c4,Iv l⟩]
 simp only[SG];rw[se,se];simp only[List.map_append,List.map_take,List.map_drop]
 rfl
def Ht{α:Type}{r:Rep α}{o:Orp r}{m0:Vn}{ps:VB Pc}{S:Uy}{L:VB α}{es:Uw}{i j:Nat}(hij:i<=j):∀m,Hp m0 m (.gen (cR o S L es)::ps)->∃S',Hp m0 m (.gen (cR o S' (L.take i++L.drop j) (es.take i++es.drop j))::ps):=fun m hm=>by
 obtain⟨qs,h1,h2⟩:=hm.wD;obtain⟨q1,q2,rfl,h3,h4⟩:=h1.split i;obtain⟨q3,q4,rfl,h5,h6⟩:=h4.split (j-i);rw[T8,T8,show i+(j-i)=j by omega] at h6
 have h7:Hp m0 m ((q1++q4)++ps):=by
  refine⟨h2.ext,fun p hp=>h2.ok p ?_,h2.apart.sublist ?_⟩
  rcases St.1 hp with hp|hp
  rcases St.1 hp with hp|hp
  exact Sx _ (Sx _ hp)
  exact Sx _ (SJ _ (SJ _ hp))
  exact SJ _ hp
  exact List.Sublist.append (List.Sublist.append (List.Sublist.refl _) (List.sublist_append_right _ _)) (List.Sublist.refl _)
 exact⟨_,h7.sv (h3.append h6)⟩
def Kn(n:Nat){m0 m:Vn}{rest:VB Pc}{a:Ux}{l r:Us}{S:Uy}{es:Uw}{i j:Int}(h:Hp m0 m (.sl a 2 l.length es::.gen (cR cu S l es)::rest))(hF:Rp n l i j=some r) :
  aK (Vq p q) 45 [.slice a l.length l.length,.int .i64 i,.int .i64 j] m (fun v m'=>∃S':Nat->Prop,v=.slice a r.length l.length/\Hp m0 m' (.gen (cR cu S' r (es.take i.toNat++es.drop j.toNat))::.gen (nX a l.length 2 r.length (es.take i.toNat++es.drop j.toNat))::rest)):=by
 obtain⟨hc,hF⟩:=az hF;simp only[R9,Sj] at hc;obtain⟨⟨⟨⟨c0,c1⟩,c2⟩,c3⟩,c4⟩:=hc;have hr:=Sb hF;subst hr;obtain⟨i,rfl⟩:=TY c1;obtain⟨j,rfl⟩:=TY (show 0<=j by omega)
 simp only[SG];have hij:i<j:=by omega
 have hjn:j<=l.length:=by omega
 have hel:es.length=l.length:=sG h (q:=1) rfl;obtain⟨⟨qs,hOd,_⟩,_⟩:=(h.get (k:=1) rfl).1;have hwid:∀e∈es,e.length=2:=fun e he=>(hOd.cells e he).1;have hone:dB es:=fun e he=>(hOd.cells e he).2;rcases h.get (k:=0) rfl with⟨h0,_⟩|⟨b,tg,rfl,g1,g2,g3,g4,g5,g6,g7⟩
 omega
 ·have ft:∀(k:Nat) (l:Uw),(∀e∈l,e.length=2)->(l.take k).flatten=l.flatten.take (k*2)/\(l.drop k).flatten=l.flatten.drop (k*2):=by
   intro k l
   induction l generalizing k with
   | nil=>intro _; simp
   | cons e l ih =>
    intro hl;cases k with
    | zero=>simp
    | succ k =>
     obtain⟨x1,x2⟩:=ih k fun e he=>hl e (Sf _ he);have he:=hl e (Sv ..);obtain⟨y,z,rfl⟩:∃y z,e=[y,z]:=by
      match e,he with
      | [y,z],_=>exact⟨y,z,rfl⟩
     rw[TW];simp[x1,x2]
  have hfl:es.flatten.length=l.length*2:=by rw[cG hwid,hel]
  have hlen:(l.take i++l.drop j).length=l.length-(j-i):=by simp; omega
  have hobj:Hp m0 m (.obj b (.cells es.flatten tg)::.gen (cR cu S l es)::rest):=h.put (k:=0) rfl rfl rfl rfl (Sa _) h.ext ⟨g1,g2,g3⟩ fun _ _ _=>rfl;refine(FX (p:=p) (q:=q) g6 hobj hfl (iv hone) hij hjn c4).mono fun v m' ⟨hv,cs',hm',hl',ht'⟩=>?_;have hcs:cs'=(es.take i++es.drop j).flatten++cs'.drop ((l.length-(j-i))*2):=by
   have e1:(es.flatten.drop (j*2)).take ((l.length-j)*2)=es.flatten.drop (j*2):=TG (by rw[SZ]; omega)
   rw[TC,(ft i es hwid).1,(ft j es hwid).2];rw[e1] at ht';rw[<-ht',List.take_append_drop]
  have hst:Hp m0 m' (.gen (nX (some ⟨b,0,none⟩) l.length 2 (l.take i++l.drop j).length (es.take i++es.drop j))::.gen (cR cu S l es)::rest):=by
   have h0:=hm'.get (k:=0) rfl;refine hm'.Eu (k:=0) rfl (fun b' hb=>.inl (.inl ⟨rfl,hb.elim (fun h=>by cases h.1) id⟩)) (fun b' hb=>.inl (.inl (hb.elim (fun h=>by cases h) fun h=>h.elim id fun h=>h.elim))) (Sa _) hm'.ext ⟨⟨?_,?_,by decide,by rw[hlen]; omega,.inr ⟨b,cs'.drop ((l.length-(j-i))*2),tg,rfl,h0.2.1,?_,g6,?_⟩⟩,fun _ b' hb=>by cases hb; exact h0.1⟩ fun b' hb hlt=>rfl
   rw[hlen]; simp; omega
   intro e he;rcases St.1 he with he|he
   exact hwid e (Tq he)
   exact hwid e (TF he)
   rw[<-hcs]; exact h0.2.2
   rw[<-hcs,hl',hfl]
  obtain⟨S',hS⟩:=Ht (o:=cu) (Nat.le_of_lt hij) m' (hst.perm (List.Perm.swap _ _ _));exact⟨S',by rw[hv,hlen],hS⟩
end
end Go.Proofs.Ytmndpgfbkicndaa
