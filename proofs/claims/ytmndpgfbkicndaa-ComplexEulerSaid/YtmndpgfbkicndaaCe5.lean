/- A part of the proof. -/
import Derived.Test.YtmndpgfbkicndaaCe4
import Derived.HandedShaped
set_option linter.all false
namespace Go.Proofs.Ytmndpgfbkicndaa
section
open Go Go.Ab Go.Ab.W
set_option maxRecDepth 10000
set_option maxHeartbeats 4000000
attribute [local irreducible] Wo Wk At Wn Od Ox bj bW
attribute [local irreducible] Tm.at Trie.set Trie.get Yq.get Yq.set Yq.alloc Yq.ww Yq.kill
variable{p q:YA Prim}
def PI{n l2 l1 a0 c1 a1 c0}{r0:XH}{e0:XF}{r}(hF:Rh n l2 l1=some r)(m)(h27:lF m a0 c1 l2)(h28:pC m a1 c0 l1 e0)(h29:(cE al r0 l1 e0).P m):
 aK (Yt p q) 69 [mU a0 l2 c1 a1 l1 c0] m (Yp m (.tuple #[.int .i64 r.1,.int .i64 r.2])):=by
 unfold Rh at hF;refine cw Try.func69 (Hp.pG (X6 (X6 (XZ m) eL h27) (fH eL) h28) (fH (fH eL)) h29) ?_;refine wz ?_;refine wb fun b0=>?_;refine wa z3 fun b1=>?_;refine wa z3 fun b2=>?_;refine az ?_;refine X1 Hc gn rfl fun b4=>?_;refine wa z131 fun b10=>?_;refine az ?_;obtain⟨l19,h30,hF⟩:=J hF;refine wq (fun l19 (b23:Nat)=>(.func (.func 73) #[] #[ptr b23 0],(ig b23 a0 l2 c1 a1 l1 c0 e0 al r0 [Gv b0 a0 l2 c1 a1 l1 c0,gL b1,gL b2,eW b10 b4,.obj b4 (.map (l19.map (eM (fun p:Int×Int=>.agg #[.int .i64 p.1,.int .i64 p.2]) (fun b:Bool=>.bool b))))]))) l19 (fun m hm=>?_) ?_;clear hF;revert l19;intro r hF;refine aS (N:=4) (rs:=[.tmp 2]) rfl Try.func50 rfl rfl rfl hm ?_;refine wz ?_;refine wb fun b32=>?_;refine az ?_;refine XR (kX rfl rfl) rfl ?_;refine az ?_;cases hF;exact ar b32 [0,8,7,6,5,4,3,1,2];rintro b23;refine wz ?_;refine XV ?_;obtain⟨r10,h31,hF⟩:=J hF;refine Wk.range (N:=50) (rs:=[]) (γ:=YC) (X:=fun g=>(fun(r:(Int×YB ((Int×Int)×Bool)) ⊕(YB ((Int×Int)×Bool))) (g:YC)=>(match r,g with|.inl (v16,l26),_=>⟨.done,(some .ret),(ig b0 a0 l2 c1 a1 l1 c0 e0 al r0 [Kt b1,fk b2 v16,eW b10 b4,.obj b4 (.map (l26.map (eM (fun p:Int×Int=>.agg #[.int .i64 p.1,.int .i64 p.2]) (fun b:Bool=>.bool b))))])⟩|.inr l27,_=>⟨.ready,none,(ig b0 a0 l2 c1 a1 l1 c0 e0 al r0 [gL b1,gL b2,eW b10 b4,.obj b4 (.map (l27.map (eM (fun p:Int×Int=>.agg #[.int .i64 p.1,.int .i64 p.2]) (fun b:Bool=>.bool b))))])⟩:Rn)) r10 g) rfl rfl Try.func73 rfl rfl rfl ?_ (fun y=>by rcases r10 with _|_<;>(intro e; cases e)) ?_
 clear hF;revert r10;intro r hF;intro t1 l6 r5 h32 h33;refine wz ?_;refine XV ?_;obtain⟨r20,h1,hF⟩:=J hF;refine ct (fun(r:(Int×YB ((Int×Int)×Bool)) ⊕(YB ((Int×Int)×Bool))) (g:YC)=>match r,g with|.inl (v17,l28),_=>⟨.ret,[],(.obj l6 (r5 .done (some .ret))::ig b0 a0 l2 c1 a1 l1 c0 e0 al r0 [Kt b1,fk b2 v17,eW b10 b4,.obj b4 (.map (l28.map (eM (fun p:Int×Int=>.agg #[.int .i64 p.1,.int .i64 p.2]) (fun b:Bool=>.bool b))))])⟩|.inr l29,_=>⟨(.exit 0),[],(.obj l6 (r5 .ready none)::ig b0 a0 l2 c1 a1 l1 c0 e0 al r0 [gL b1,gL b2,eW b10 b4,.obj b4 (.map (l29.map (eM (fun p:Int×Int=>.agg #[.int .i64 p.1,.int .i64 p.2]) (fun b:Bool=>.bool b))))])⟩) r20 ?_ ?_
 refine lo h1 () [0,3,4,5,2,6,7,8,9] (fun(v4,l30) _=>⟨.normal,((0,.func (.yield l6) #[] #[])::BB a1 l1 c0 v4 []),[.obj l6 (r5 .ready none),Fx a1 c0 l1 e0,gQ al r0 l1 e0,Gv b0 a0 l2 c1 a1 l1 c0,tL a0 c1 l2,gL b1,gL b2,eW b10 b4,.obj b4 (.map (l30.map (eM (fun p:Int×Int=>.agg #[.int .i64 p.1,.int .i64 p.2]) (fun b:Bool=>.bool b))))]⟩) ?_;clear hF h1;rintro⟨v4,l30⟩ ⟨⟩ r hF;unfold sL at hF;refine wz ?_;refine XS ?_;rcases aa hF with⟨h34,hF⟩|⟨h34,hF⟩;refine az ?_;obtain⟨h35,hF⟩:=du hF;refine X4 (k:=1) rfl (aW h35) ?_;rintro b9 o8 rfl;refine wz ?_;obtain⟨⟨l44,l45⟩,h36,hF⟩:=J hF;refine wl 2 0 3 0 h36 ?_;rintro⟨⟨a28,c14⟩,⟨a29,c15,e8⟩⟩;refine wa z54 fun b40=>?_;refine az ?_;obtain⟨l11,h37,hF⟩:=J hF;refine Hr gn (fun m hm=>kQ h37 m hm.dX (hm.q 1) (hm.no 1) (hm.q 2) (hm.no 2) (hm.dp (q:=3) rfl) (hm.iA (q:=3) rfl)) ?_;rintro⟨a20,c7,n0,e6,r9⟩;refine Yj (k:=0) (q:=1) (L:=l11) rfl (.inr (.inl ⟨_,rfl⟩)) rfl ?_;rintro rfl;refine wz ?_;refine XV ?_;obtain⟨r21,h2,hF⟩:=J hF;refine ct (fun(r:(YB ((Int×Int)×Bool)) ⊕(YB ((Int×Int)×Bool))) (g:YC)=>match r,g with|.inl l31,_=>⟨.ret,[],(.obj l6 (r5 .done (some .ret))::ic b0 a0 l2 c1 b9 o8 l1 c0 e0 al r0 [Kt b1,fk b2 v4,eW b10 b4,.obj b4 (.map (l31.map (eM (fun p:Int×Int=>.agg #[.int .i64 p.1,.int .i64 p.2]) (fun b:Bool=>.bool b))))])⟩|.inr l32,_=>⟨(.exit 2),((0,.func (.yield l6) #[] #[])::vS b9 o8 l1 c0 v4 []),(.obj l6 (r5 .ready none)::ud b9 o8 l1 e0 al r0 c0 (tE b0 a0 l2 c1 b9 o8 l1 c0 b1 b2 [eW b10 b4,.obj b4 (.map (l32.map (eM (fun p:Int×Int=>.agg #[.int .i64 p.1,.int .i64 p.2]) (fun b:Bool=>.bool b))))]))⟩) r21 ?_ ?_
 refine lo h2 () [7,6,9,8,0,1,10,11,12,13,14,15] (fun(v7,l33) _=>⟨.normal,((0,.func (.yield l6) #[] #[])::(3,bu v4)::vS b9 o8 l1 c0 v4 [(18,bQ a20 l11 c7),(19,eD l11),(20,bu v7)]),(.obj l6 (r5 .ready none)::ud b9 o8 l1 e0 al r0 c0 (km a20 c7 l11 e6::gQ bq r9 l11 e6::tE b0 a0 l2 c1 b9 o8 l1 c0 b1 b2 [eW b10 b4,.obj b4 (.map (l33.map (eM (fun p:Int×Int=>.agg #[.int .i64 p.1,.int .i64 p.2]) (fun b:Bool=>.bool b))))]))⟩) ?_;clear hF h2;rintro⟨v7,l33⟩ ⟨⟩ r hF;unfold sK at hF;refine wz ?_;refine XS ?_;rcases aa hF with⟨h38,hF⟩|⟨h38,hF⟩;refine az ?_;obtain⟨h39,hF⟩:=du hF;refine X4 (k:=4) rfl (aW h39) ?_;rintro b19 o14 rfl;refine wz ?_;obtain⟨l16,h40,hF⟩:=J hF;refine wl 1 0 6 0 h40 ?_;rintro⟨a10,c9⟩;refine az ?_;refine XV ?_;obtain⟨r22,h3,hF⟩:=J hF;refine ct (fun(r:(YB ((Int×Int)×Bool)) ⊕(YB ((Int×Int)×Bool))) (g:YC)=>match r,g with|.inl l34,_=>⟨.ret,[],(.obj l6 (r5 .done (some .ret))::ic b0 a0 l2 c1 b9 o8 l1 c0 e0 al r0 [Kt b1,fk b2 v4,eW b10 b4,.obj b4 (.map (l34.map (eM (fun p:Int×Int=>.agg #[.int .i64 p.1,.int .i64 p.2]) (fun b:Bool=>.bool b))))])⟩|.inr l35,_=>⟨(.exit 4),((0,.func (.yield l6) #[] #[])::(3,bu v4)::vS b9 o8 l1 c0 v4 (wZ b19 o14 l11 c7 v7 [])),(.obj l6 (r5 .ready none)::ud b9 o8 l1 e0 al r0 c0 (kT b19 o14 l11 e6 bq r9 c7 (tE b0 a0 l2 c1 b9 o8 l1 c0 b1 b2 [eW b10 b4,.obj b4 (.map (l35.map (eM (fun p:Int×Int=>.agg #[.int .i64 p.1,.int .i64 p.2]) (fun b:Bool=>.bool b))))])))⟩) r22 ?_ ?_
 refine lo h3 () [2,0,3,4,5,1,7,6,8,9,10,11,12,13] (fun(v18,l17) _=>⟨.normal,((0,.func (.yield l6) #[] #[])::(3,bu v4)::(5,bu v7)::(6,bQ a10 l16 c9)::vS b9 o8 l1 c0 v4 (wZ b19 o14 l11 c7 v7 [(25,bQ a10 l16 c9),(26,eD l16),(27,bu v18)])),(.obj l6 (r5 .ready none)::pD a10 c9 l16::ud b9 o8 l1 e0 al r0 c0 (kT b19 o14 l11 e6 bq r9 c7 (tE b0 a0 l2 c1 b9 o8 l1 c0 b1 b2 [eW b10 b4,.obj b4 (.map (l17.map (eM (fun p:Int×Int=>.agg #[.int .i64 p.1,.int .i64 p.2]) (fun b:Bool=>.bool b))))])))⟩) ?_;clear hF h3;rintro⟨v18,l17⟩ ⟨⟩ r hF;unfold sP at hF;refine wz ?_;refine XS ?_;rcases aa hF with⟨h41,hF⟩|⟨h41,hF⟩;refine az ?_;obtain⟨h42,hF⟩:=du hF;refine X4 (k:=1) rfl (aW h42) ?_;rintro b24 o16 rfl;refine wz ?_;obtain⟨x12,h108,hF⟩:=J hF;refine az ?_;obtain⟨h43,hF⟩:=aD hF;refine XR (aL rfl rfl (cu _ _ h43)) rfl ?_;obtain⟨h109,hF⟩:=du hF;refine wz ?_;obtain⟨x13,h110,hF⟩:=J hF;refine wz ?_;refine XR (cR rfl tB rfl (cQ Ah rfl rfl rfl)) rfl ?_;obtain⟨r11,h15,hF⟩:=J hF;refine X1 (yq (k:=1) (k1:=0) (γA:=Nat) (GA:=(fun g:Nat=>(match g with|b22=>⟨.normal,(jC b1 b2 [(4,ptr b10 0),(5,ptr b22 0)]),(.obj l6 (r5 .ready none)::gL b1::gL b2::eW b10 b4::.obj b4 (.map (l17.map (eM (fun p:Int×Int=>.agg #[.int .i64 p.1,.int .i64 p.2]) (fun b:Bool=>.bool b))))::gN b22 x12 x13 v4 v7::ic b0 a0 l2 c1 b9 o8 l1 c0 e0 al r0 (qB b24 o16 l16 c9 (kT b19 o14 l11 e6 bq r9 c7 [])))⟩:En))) (γ:=YC) (G:=fun g=>(fun(r:YC⊕YC) (g:YC)=>(match r,g with|.inl _,_=>⟨.ret,[],(.obj l6 (r5 .busy none)::ic b0 a0 l2 c1 b9 o8 l1 c0 e0 al r0 (Kt b1::fk b2 v4::eW b10 b4::.obj b4 (.map (l17.map (eM (fun p:Int×Int=>.agg #[.int .i64 p.1,.int .i64 p.2]) (fun b:Bool=>.bool b))))::qB b24 o16 l16 c9 (kT b19 o14 l11 e6 bq r9 c7 [])))⟩|.inr _,_=>⟨.normal,[],(.obj l6 (r5 .busy none)::ic b0 a0 l2 c1 b9 o8 l1 c0 e0 al r0 (gL b1::gL b2::eW b10 b4::.obj b4 (.map ((fX l17 (x12,x13) true).map (eM (fun p:Int×Int=>.agg #[.int .i64 p.1,.int .i64 p.2]) (fun b:Bool=>.bool b))))::qB b24 o16 l16 c9 (kT b19 o14 l11 e6 bq r9 c7 [])))⟩:En)) r11 g) rfl rfl rfl h33 h32 rfl ?_ (fun _=>rfl) (fun _=>rfl) ?_ (fun y=>by rcases r11 with _|_<;>rfl)) gn rfl ?_
 clear hF h15;refine XT<|wa tB fun b33=>?_;refine wz ?_;exact ae b33 [2,12,13,14,15,0,10,11,4,5,6,1,3,7,8,9];clear hF;revert r11;intro r hF;rintro b22;refine wz ?_;refine XR (cR rfl K1 rfl (cQ Im rfl rfl rfl)) rfl ?_;obtain⟨y0,h44,hF⟩:=J hF;refine XR (NO (q:=4) (xs:=l17) (k:=(x12,x13)) (vE:=(fun b:Bool=>.bool b)) (z0:=false) Si (KY Mk cK.known cK.size cK.agg u3) z4 rfl rfl rfl rfl h44) rfl ?_;refine wz ?_;rcases aa hF with⟨h16,hF⟩|⟨h16,hF⟩;refine X7 rfl h16<|XS<|Ya (prs:=[(1,2)]) (by kernel_rfl)<|XU (aI (r:=ptr b22 2) rfl (oF _ _)) rfl<|Wn.yX rfl (aJ (k:=5) cK rfl rfl rfl) rfl<|Wn.KI rfl (fe (k:=1) cK rfl rfl rfl rfl rfl)<|Wn.o0 (fe (k:=2) cK rfl rfl rfl rfl rfl)<|X5 (fun m hm=>(dQ.rw rfl rfl rfl (hm.ne (i:=5) (j:=1) rfl rfl rfl rfl (by decide) rfl) dQ.nil)) ?_
 refine az ?_;cases hF;exact ae () [0,6,7,8,9,10,1,2,3,4,11,12,13,14,15];refine az ?_;refine XR (cR rfl K1 rfl (cQ Im rfl rfl rfl)) rfl<|X8 (FH (q:=4) (xs:=l17) (k:=(x12,x13)) (v:=true) (vE:=(fun b:Bool=>.bool b)) Si (KY Mk cK.known cK.size cK.agg u3) rfl rfl rfl rfl) ?_;refine wz ?_;cases hF;exact ae () [0,6,7,8,9,10,1,2,3,4,11,12,13,14,15];rcases r11 with _|_;rintro⟨⟩;refine az ?_;cases hF;exact ae () (Yk 0 10);rintro⟨⟩;refine ja ?_;cases hF;exact ae () [0,11,3,4,5,12,13,14,1,2,6,7,8,9];refine wz ?_;cases hF;exact ae () (0::Yk 2 12);rcases r22 with l34|l35;rintro⟨⟩;refine wz ?_;cases hF;exact ae () (Yk 0 10);rintro⟨⟩;refine az ?_;cases hF;exact ae () (0::1::2::3::6::5::Yk 7 6);refine wz ?_;cases hF;exact ae () (0::1::2::3::Yk 6 6);rcases r21 with l31|l32;rintro⟨⟩;refine wz ?_;cases hF;exact ae () [0,1,2,5,4,6,7,8,9];rintro⟨⟩;refine az ?_;cases hF;exact ae () (0::3::2::Yk 4 6);refine wz ?_;cases hF;exact ae () [0,3,4,1,2,5,6,7,8];rcases r20 with⟨v17,l28⟩|l29;rintro⟨⟩;refine At.br ?_;cases hF;exact X2 .nil fun m' hm=>⟨(),(ai.aq [0,1,2,3,4,5,6,7,8] rfl rfl) m' hm⟩;rintro⟨⟩;refine Yi ?_;cases hF;exact At.fin .nil fun m' hm=>⟨(),(ai.aq [0,1,2,3,4,5,6,7,8] rfl rfl) m' hm⟩;rcases r10 with⟨v16,l26⟩|l27;rintro⟨⟩
 change Wk _ _ _ _ .ret _ _ _ _
 refine wz ?_;cases hF;exact X2 (.cell (k:=4) cK rfl rfl rfl (.cell (k:=5) cK rfl rfl rfl .nil)) fun m' hm=>⟨(),rfl,(ai.aq [] rfl rfl) m' hm⟩;rintro⟨⟩
 change At _ .normal _ _ _
 refine az ?_;refine wa T1 fun b7=>?_;refine az ?_;obtain⟨r23,h45,hF⟩:=J hF;refine wq (fun _ (b25:Nat)=>(.func (.func 73) #[] #[ptr b25 0],(ig b25 a0 l2 c1 a1 l1 c0 e0 al r0 [Gv b0 a0 l2 c1 a1 l1 c0,gL b1,gL b2,.obj b7 (.cells [.slice none 0 0] .own)]))) r23 (fun m hm=>?_) ?_;clear hF;revert r23;intro r hF;refine aS (N:=4) (rs:=[.tmp 2]) rfl Try.func50 rfl rfl rfl hm ?_;refine wz ?_;refine wb fun b34=>?_;refine az ?_;refine XR (kX rfl rfl) rfl ?_;refine az ?_;cases hF;exact ar b34 [0,3,4,5,2,6,7,1];rintro b25;refine wz ?_;refine XV ?_;obtain⟨r12,h46,hF⟩:=J hF;refine Wk.range (N:=50) (rs:=[]) (γ:=XG) (X:=fun g=>(fun(r:(Int×YB (XC)) ⊕(YB (XC))) (g:XG)=>(match r,g with|.inl (v19,l21),a11=>⟨.done,(some .ret),(ig b0 a0 l2 c1 a1 l1 c0 e0 al r0 [JA b1,fk b2 v19,CV b7 a11 l21,pz a11 l21])⟩|.inr l36,a21=>⟨.ready,none,(ig b0 a0 l2 c1 a1 l1 c0 e0 al r0 (tF b1 b2 b7 a21 l36 []))⟩:Rn)) r12 g) rfl rfl Try.func73 rfl rfl rfl ?_ (fun y=>by rcases r12 with _|_<;>(intro e; cases e)) ?_
 clear hF;revert r12;intro r hF;intro t2 l3 r1 h47 h48;refine wz ?_;refine XV ?_;obtain⟨r24,h4,hF⟩:=J hF;refine ct (fun(r:(Int×YB (XC)) ⊕(YB (XC))) (g:XG)=>match r,g with|.inl (v20,l22),a4=>⟨.ret,[],(.obj l3 (r1 .done (some .ret))::ig b0 a0 l2 c1 a1 l1 c0 e0 al r0 [JA b1,fk b2 v20,CV b7 a4 l22,pz a4 l22])⟩|.inr l37,a12=>⟨(.exit 0),[],(.obj l3 (r1 .ready none)::ig b0 a0 l2 c1 a1 l1 c0 e0 al r0 (tF b1 b2 b7 a12 l37 []))⟩) r24 ?_ ?_
 refine lw h4 none (fun(v0,l38) a5=>⟨.normal,((0,.func (.yield l3) #[] #[])::BB a1 l1 c0 v0 []),(.obj l3 (r1 .ready none)::Fx a1 c0 l1 e0::gQ al r0 l1 e0::Gv b0 a0 l2 c1 a1 l1 c0::tL a0 c1 l2::tF b1 b2 b7 a5 l38 [])⟩) (ai.trans (ai.nil 4 rfl) (ai.aq [1,4,5,6,3,7,8,9,0] rfl rfl)) ?_;clear hF h4;rintro⟨v0,l38⟩ a5 r hF;unfold sX at hF;refine wz ?_;refine XS ?_;rcases aa hF with⟨h49,hF⟩|⟨h49,hF⟩;refine az ?_;obtain⟨h50,hF⟩:=du hF;refine X4 (k:=1) rfl (aW h50) ?_;rintro b6 o6 rfl;refine wz ?_;obtain⟨⟨l46,l47⟩,h51,hF⟩:=J hF;refine wl 2 0 3 0 h51 ?_;rintro⟨⟨a30,c16⟩,⟨a31,c17,e9⟩⟩;refine wa z54 fun b41=>?_;refine az ?_;obtain⟨l7,h52,hF⟩:=J hF;refine Hr gn (fun m hm=>kQ h52 m hm.dX (hm.q 1) (hm.no 1) (hm.q 2) (hm.no 2) (hm.dp (q:=3) rfl) (hm.iA (q:=3) rfl)) ?_;rintro⟨a22,c2,n1,e1,r6⟩;refine Yj (k:=0) (q:=1) (L:=l7) rfl (.inr (.inl ⟨_,rfl⟩)) rfl ?_;rintro rfl;refine wz ?_;refine XV ?_;obtain⟨r25,h5,hF⟩:=J hF;refine ct (fun(r:(YB (XC)) ⊕(YB (XC))) (g:XG)=>match r,g with|.inl l23,a6=>⟨.ret,[],(.obj l3 (r1 .done (some .ret))::ic b0 a0 l2 c1 b6 o6 l1 c0 e0 al r0 [JA b1,fk b2 v0,CV b7 a6 l23,pz a6 l23])⟩|.inr l39,a13=>⟨(.exit 2),((0,.func (.yield l3) #[] #[])::vS b6 o6 l1 c0 v0 []),(.obj l3 (r1 .ready none)::ud b6 o6 l1 e0 al r0 c0 (Qq b0 a0 l2 c1 b6 o6 l1 c0::tL a0 c1 l2::tF b1 b2 b7 a13 l39 []))⟩) r25 ?_ ?_
 refine lo h5 a5 [7,6,9,8,0,1,10,11,12,13,14,15] (fun(v5,l40) a7=>⟨.normal,((0,.func (.yield l3) #[] #[])::(3,bu v0)::vS b6 o6 l1 c0 v0 [(18,bQ a22 l7 c2),(19,eD l7),(20,bu v5)]),(.obj l3 (r1 .ready none)::ud b6 o6 l1 e0 al r0 c0 (km a22 c2 l7 e1::gQ bq r6 l7 e1::Qq b0 a0 l2 c1 b6 o6 l1 c0::tL a0 c1 l2::tF b1 b2 b7 a7 l40 []))⟩) ?_;clear hF h5;rintro⟨v5,l40⟩ a7 r hF;unfold sV at hF;refine wz ?_;refine XS ?_;rcases aa hF with⟨h53,hF⟩|⟨h53,hF⟩;refine az ?_;obtain⟨h54,hF⟩:=du hF;refine X4 (k:=4) rfl (aW h54) ?_;rintro b11 o9 rfl;refine wz ?_;obtain⟨l12,h55,hF⟩:=J hF;refine wl 1 0 6 0 h55 ?_;rintro⟨a14,c4⟩;refine az ?_;refine XV ?_;obtain⟨r26,h6,hF⟩:=J hF;refine ct (fun(r:(YB (XC)) ⊕(YB (XC))) (g:XG)=>match r,g with|.inl l24,a8=>⟨.ret,[],(.obj l3 (r1 .done (some .ret))::ic b0 a0 l2 c1 b6 o6 l1 c0 e0 al r0 [JA b1,fk b2 v0,CV b7 a8 l24,pz a8 l24])⟩|.inr l41,a15=>⟨(.exit 4),((0,.func (.yield l3) #[] #[])::(3,bu v0)::vS b6 o6 l1 c0 v0 (wZ b11 o9 l7 c2 v5 [])),(.obj l3 (r1 .ready none)::ud b6 o6 l1 e0 al r0 c0 (kT b11 o9 l7 e1 bq r6 c2 (Qq b0 a0 l2 c1 b6 o6 l1 c0::tL a0 c1 l2::tF b1 b2 b7 a15 l41 [])))⟩) r26 ?_ ?_
 refine lo h6 a7 [2,0,3,4,5,1,7,6,8,9,10,11,12,13] (fun(v21,l9) a2=>⟨.normal,((0,.func (.yield l3) #[] #[])::(3,bu v0)::(5,bu v5)::(6,bQ a14 l12 c4)::vS b6 o6 l1 c0 v0 (wZ b11 o9 l7 c2 v5 [(25,bQ a14 l12 c4),(26,eD l12),(27,bu v21)])),(.obj l3 (r1 .ready none)::pD a14 c4 l12::ud b6 o6 l1 e0 al r0 c0 (kT b11 o9 l7 e1 bq r6 c2 (Qq b0 a0 l2 c1 b6 o6 l1 c0::tL a0 c1 l2::tF b1 b2 b7 a2 l9 [])))⟩) ?_;clear hF h6;rintro⟨v21,l9⟩ a2 r hF;unfold tp at hF;refine wz ?_;refine XS ?_;rcases aa hF with⟨h56,hF⟩|⟨h56,hF⟩;refine az ?_;obtain⟨h57,hF⟩:=du hF;refine X4 (k:=1) rfl (aW h57) ?_;rintro b16 o12 rfl;refine wz ?_;obtain⟨x3,h111,hF⟩:=J hF;refine az ?_;obtain⟨h58,hF⟩:=aD hF;refine XR (aL rfl rfl (cu _ _ h58)) rfl ?_;obtain⟨h112,hF⟩:=du hF;refine wz ?_;obtain⟨x4,h113,hF⟩:=J hF;refine wz ?_;refine XR (cR rfl tB rfl (cQ Ah rfl rfl rfl)) rfl ?_;obtain⟨r13,h17,hF⟩:=J hF;refine X1 (yq (k:=1) (k1:=0) (γA:=Nat) (GA:=(fun g:Nat=>(match g with|b14=>⟨.normal,((1,ptr b0 0)::jC b1 b2 [(6,ptr b7 0),(7,ptr b14 0)]),(.obj l3 (r1 .ready none)::ic b0 a0 l2 c1 b6 o6 l1 c0 e0 al r0 (tF b1 b2 b7 a2 l9 (gN b14 x3 x4 v0 v5::qB b16 o12 l12 c4 (kT b11 o9 l7 e1 bq r6 c2 []))))⟩:En))) (γ:=XG) (G:=fun g=>(fun(r:YC ⊕(YB (XC))) (g:XG)=>(match r,g with|.inl _,_=>⟨.ret,[],(.obj l3 (r1 .busy none)::ic b0 a0 l2 c1 b6 o6 l1 c0 e0 al r0 (JA b1::fk b2 v0::CV b7 a2 l9::pz a2 l9::qB b16 o12 l12 c4 (kT b11 o9 l7 e1 bq r6 c2 [])))⟩|.inr l42,a16=>⟨.normal,[],(.obj l3 (r1 .busy none)::ic b0 a0 l2 c1 b6 o6 l1 c0 e0 al r0 (tF b1 b2 b7 a16 l42 (qB b16 o12 l12 c4 (kT b11 o9 l7 e1 bq r6 c2 []))))⟩:En)) r13 g) rfl rfl rfl h48 h47 rfl ?_ (fun _=>rfl) (fun _=>rfl) ?_ (fun y=>by rcases r13 with _|_<;>rfl)) gn rfl ?_
 clear hF h17;refine XT<|wa tB fun b35=>?_;refine wz ?_;exact ae b35 [2,10,11,4,5,6,12,13,14,15,0,1,3,7,8,9];clear hF;revert r13;intro r hF;rintro b14;refine wz ?_;refine XR (kX rfl rfl) rfl ?_;obtain⟨v8,h59,hF⟩:=J hF;refine wq (fun v8 (_:YC)=>(.int .i64 v8,(.obj l3 (r1 .busy none)::ic b0 a0 l2 c1 b6 o6 l1 c0 e0 al r0 (tF b1 b2 b7 a2 l9 (qB b16 o12 l12 c4 (kT b11 o9 l7 e1 bq r6 c2 [gN b14 x3 x4 v0 v5])))))) v8 (fun m hm=>?_) ?_;clear hF;revert v8;intro r hF;refine aS (N:=19) (rs:=[.tmp 4]) rfl Try.func81 rfl rfl rfl hm ?_;refine az ?_;refine XV ?_;obtain⟨r27,h7,hF⟩:=J hF;refine ct (fun(r:Int⊕YC) (g:YC)=>match r,g with|.inl v22,_=>⟨.ret,[(4,bu v22)],(.obj l3 (r1 .busy none)::ic b0 a0 l2 c1 b6 o6 l1 c0 e0 al r0 (tF b1 b2 b7 a2 l9 (qB b16 o12 l12 c4 (kT b11 o9 l7 e1 bq r6 c2 [gN b14 x3 x4 v0 v5]))))⟩|.inr _,_=>⟨(.exit 0),[],(.obj l3 (r1 .busy none)::ic b0 a0 l2 c1 b6 o6 l1 c0 e0 al r0 (tF b1 b2 b7 a2 l9 (qB b16 o12 l12 c4 (kT b11 o9 l7 e1 bq r6 c2 [gN b14 x3 x4 v0 v5]))))⟩) r27 ?_ ?_
 refine lo h7 () [0,1,2,3,4,5,10,9,6,7,8,11,12,13,14,15] (fun v23 _=>⟨.normal,[(1,.func (.func 82) #[] #[ptr b0 0,ptr b14 0]),(7,bZ a2 l9),(8,eD l9),(9,bu v23)],(.obj l3 (r1 .busy none)::ic b0 a0 l2 c1 b6 o6 l1 c0 e0 al r0 (gN b14 x3 x4 v0 v5::pz a2 l9::gL b1::gL b2::CV b7 a2 l9::qB b16 o12 l12 c4 (kT b11 o9 l7 e1 bq r6 c2 [])))⟩) ?_;clear hF h7;rintro v23 ⟨⟩ r hF;unfold wg at hF;refine wz ?_;refine XS ?_;rcases aa hF with⟨h60,hF⟩|⟨h60,hF⟩;refine az ?_;obtain⟨h61,hF⟩:=du hF;refine Yg (k:=7) rfl (aW h61) ?_;rintro b28 t0 rfl h114;refine wz ?_;obtain⟨⟨x16,x17,x18,x19⟩,h115,hF⟩:=J hF;refine wz ?_;refine wa tB fun b42=>?_;refine az ?_;obtain⟨v9,h62,hF⟩:=J hF;refine wq (fun v9 (_:YC)=>(.bool v9,(.obj l3 (r1 .busy none)::ic b0 a0 l2 c1 b6 o6 l1 c0 e0 al r0 (gL b1::gL b2::.obj b7 (.cells [yw b28 l9] .own)::y7 b28 l9 t0::qB b16 o12 l12 c4 (kT b11 o9 l7 e1 bq r6 c2 [gN b14 x3 x4 v0 v5]))))) v9 (fun m hm=>?_) ?_;clear hF;revert v9;intro r hF;refine aS (N:=9) (rs:=[.tmp 4]) rfl Try.func82 rfl rfl rfl hm ?_;refine wz ?_;refine wb fun b43=>?_;refine az ?_;obtain⟨r37,h63,hF⟩:=J hF;refine wc gn (fun m hm=>O9 h63 m (hm.q 4) (hm.q 7) (hm.dp (q:=6) rfl)) ?_;rintro⟨⟩;refine az ?_;obtain rfl:=U9 hF;exact ar () [2,3,4,5,6,7,10,11,12,9,13,14,15,16,17,8];rintro⟨⟩;refine wz ?_;rcases aa hF with⟨h64,hF⟩|⟨h64,hF⟩;refine az ?_;cases hF;exact aT () (ai.trans (ai.close (k:=9) rfl) (ai.aq [0,1,2,3,4,5,6,7,8,9,10,11,12,13,14,15] rfl rfl));refine az ?_;cases hF;exact aT () (ai.trans (ai.close (k:=9) rfl) (ai.aq [0,1,2,3,4,5,15,9,6,7,8,10,11,12,13,14] rfl rfl));refine wz ?_;cases hF;exact ae () [0,1,2,3,4,5,8,9,10,7,11,12,13,14,15,6];rcases r27 with v22|_;rintro⟨⟩;refine wz ?_;obtain rfl:=U9 hF;exact ar () (Yk 0 16);rintro⟨⟩;refine ja ?_;cases hF;exact ar () (Yk 0 16);rintro⟨⟩;refine wz ?_;rcases aa hF with⟨h18,hF⟩|⟨h18,hF⟩;refine X7 rfl h18<|XS<|Ya (prs:=[(1,2)]) (by kernel_rfl)<|XU (aI (r:=ptr b14 2) rfl (oF _ _)) rfl<|Wn.yX rfl (aJ (k:=15) cK rfl rfl rfl) rfl<|Wn.KI rfl (fe (k:=6) cK rfl rfl rfl rfl rfl)<|Wn.o0 (fe (k:=7) cK rfl rfl rfl rfl rfl)<|X5 (fun m hm=>(dQ.rw rfl rfl rfl (hm.ne (i:=15) (j:=6) rfl rfl rfl rfl (by decide) rfl) dQ.nil)) ?_
 refine az ?_;cases hF;exact ae none (Yk 0 15);refine az ?_;refine X1 (cB (es:=([(x3,x4,v0,v5)]:YB (XC)).map (eP (eI .i64) (eP (eI .i64) (eP (eI .i64) (eI .i64))))) LO rfl (cz LO tB rfl rfl) rfl rfl) gn rfl fun b44=>?_;obtain⟨h65,hF⟩:=aD hF;refine X1 (vy (k:=10) (k2:=0) (xs:=(l9:YB (XC))) (ys:=([(x3,x4,v0,v5)]:YB (XC))) (Gs (uV .i64) (Gs (uV .i64) (Gs (uV .i64) (uV .i64)))) LO ⟨_,Sv⟩ rfl rfl rfl (.arr _ _ _ _ _) h65) gn rfl fun a27=>?_;refine wz ?_;cases hF;exact ae a27 (Yk 1 15);rcases r13 with _|l42;rintro g0;refine az ?_;cases hF;exact ae a2 (Yk 0 10);rintro a16;refine ja ?_;cases hF;exact ae a16 [0,11,3,4,5,12,13,14,1,2,6,7,8,9];refine wz ?_;cases hF;exact ae a2 (0::Yk 2 12);rcases r26 with l24|l41;rintro a8;refine wz ?_;cases hF;exact ae a8 (Yk 0 10);rintro a15;refine az ?_;cases hF;exact ae a15 (0::1::2::3::6::5::Yk 7 6);refine wz ?_;cases hF;exact ae a7 (0::1::2::3::Yk 6 6);rcases r25 with l23|l39;rintro a6;refine wz ?_;cases hF;exact ae a6 [0,1,2,5,4,6,7,8,9];rintro a13;refine az ?_;cases hF;exact ae a13 (0::3::2::Yk 4 6);refine wz ?_;cases hF;exact ae a5 [0,3,4,1,2,5,6,7,8];rcases r24 with⟨v20,l22⟩|l37;rintro a4;refine At.br ?_;cases hF;exact X2 .nil fun m' hm=>⟨a4,(ai.aq [0,1,2,3,4,5,6,7,8] rfl rfl) m' hm⟩;rintro a12;refine Yi ?_;cases hF;exact At.fin .nil fun m' hm=>⟨a12,(ai.aq [0,1,2,3,4,5,6,7,8] rfl rfl) m' hm⟩;rcases r12 with⟨v19,l21⟩|l36;rintro a11
 change Wk _ _ _ _ .ret _ _ _ _
 refine wz ?_;cases hF;exact X2 (.cell (k:=4) cK rfl rfl rfl (.cell (k:=5) cK rfl rfl rfl .nil)) fun m' hm=>⟨(),rfl,(ai.aq [] rfl rfl) m' hm⟩;rintro a21
 change At _ .normal _ _ _
 refine az ?_;refine XR (kX rfl rfl) rfl<|wa Tg fun b3=>?_;refine az ?_;obtain⟨r28,h66,hF⟩:=J hF;refine wq (fun _ (b26:Nat)=>(.func (.func 73) #[] #[ptr b26 0],(ig b26 a0 l2 c1 a1 l1 c0 e0 al r0 [Gv b0 a0 l2 c1 a1 l1 c0,gL b1,gL b2,.obj b3 (.cells [.func (.func 84) #[] #[ptr b0 0]] .own)]))) r28 (fun m hm=>?_) ?_;clear hF;revert r28;intro r hF;refine aS (N:=4) (rs:=[.tmp 2]) rfl Try.func50 rfl rfl rfl hm ?_;refine wz ?_;refine wb fun b36=>?_;refine az ?_;refine XR (kX rfl rfl) rfl ?_;refine az ?_;cases hF;exact ar b36 [0,3,4,5,2,6,7,1];rintro b26;refine wz ?_;refine XV ?_;obtain⟨r14,h67,hF⟩:=J hF;refine Wk.range (N:=50) (rs:=[]) (γ:=YC) (X:=fun g=>(fun(r:Int⊕YC) (g:YC)=>(match r,g with|.inl v24,_=>⟨.done,(some .ret),(ig b0 a0 l2 c1 a1 l1 c0 e0 al r0 [JJ b1,fk b2 v24,.obj b3 (.cells [.func (.func 84) #[] #[ptr b0 0]] .own)])⟩|.inr _,_=>⟨.ready,none,(ig b0 a0 l2 c1 a1 l1 c0 e0 al r0 [gL b1,gL b2,.obj b3 (.cells [.func (.func 84) #[] #[ptr b0 0]] .own)])⟩:Rn)) r14 g) rfl rfl Try.func73 rfl rfl rfl ?_ (fun y=>by rcases r14 with _|_<;>(intro e; cases e)) ?_
 clear hF;revert r14;intro r hF;intro t3 l5 r4 h68 h69;refine wz ?_;refine XV ?_;obtain⟨r29,h8,hF⟩:=J hF;refine ct (fun(r:Int⊕YC) (g:YC)=>match r,g with|.inl v25,_=>⟨.ret,[],(.obj l5 (r4 .done (some .ret))::ig b0 a0 l2 c1 a1 l1 c0 e0 al r0 [JJ b1,fk b2 v25,.obj b3 (.cells [.func (.func 84) #[] #[ptr b0 0]] .own)])⟩|.inr _,_=>⟨(.exit 0),[],(.obj l5 (r4 .ready none)::ig b0 a0 l2 c1 a1 l1 c0 e0 al r0 [gL b1,gL b2,.obj b3 (.cells [.func (.func 84) #[] #[ptr b0 0]] .own)])⟩) r29 ?_ ?_
 refine lo h8 () [0,3,4,5,2,6,7,8] (fun v3 _=>⟨.normal,((0,.func (.yield l5) #[] #[])::BB a1 l1 c0 v3 []),[.obj l5 (r4 .ready none),Fx a1 c0 l1 e0,gQ al r0 l1 e0,Gv b0 a0 l2 c1 a1 l1 c0,tL a0 c1 l2,gL b1,gL b2,.obj b3 (.cells [.func (.func 84) #[] #[ptr b0 0]] .own)]⟩) ?_;clear hF h8;rintro v3 ⟨⟩ r hF;unfold nB at hF;refine wz ?_;refine XS ?_;rcases aa hF with⟨h70,hF⟩|⟨h70,hF⟩;refine az ?_;obtain⟨h71,hF⟩:=du hF;refine X4 (k:=1) rfl (aW h71) ?_;rintro b8 o7 rfl;refine wz ?_;obtain⟨⟨l20,l14⟩,h19,hF⟩:=J hF;refine wl 2 0 3 0 h19 ?_;rintro⟨⟨a32,c18⟩,⟨a33,c19,e10⟩⟩;refine wa z54 fun b45=>?_;refine az ?_;obtain⟨l10,h72,hF⟩:=J hF;refine Hr gn (fun m hm=>kQ h72 m hm.dX (hm.q 1) (hm.no 1) (hm.q 2) (hm.no 2) (hm.dp (q:=3) rfl) (hm.iA (q:=3) rfl)) ?_;rintro⟨a23,c5,n2,e5,r8⟩;refine Yj (k:=0) (q:=1) (L:=l10) rfl (.inr (.inl ⟨_,rfl⟩)) rfl ?_;rintro rfl;refine wz ?_;refine XV ?_;obtain⟨r30,h9,hF⟩:=J hF;refine ct (fun(r:YC⊕YC) (g:YC)=>match r,g with|.inl _,_=>⟨.ret,[],(.obj l5 (r4 .done (some .ret))::ic b0 a0 l2 c1 b8 o7 l1 c0 e0 al r0 [JJ b1,fk b2 v3,.obj b3 (.cells [.func (.func 84) #[] #[ptr b0 0]] .own)])⟩|.inr _,_=>⟨(.exit 2),((0,.func (.yield l5) #[] #[])::vS b8 o7 l1 c0 v3 []),(.obj l5 (r4 .ready none)::ud b8 o7 l1 e0 al r0 c0 (tE b0 a0 l2 c1 b8 o7 l1 c0 b1 b2 [.obj b3 (.cells [.func (.func 84) #[] #[ptr b0 0]] .own)]))⟩) r30 ?_ ?_
 refine lo h9 () [7,6,9,8,0,1,10,11,12,13,14] (fun v2 _=>⟨.normal,((0,.func (.yield l5) #[] #[])::(3,bu v3)::vS b8 o7 l1 c0 v3 [(18,bQ a23 l10 c5),(19,eD l10),(20,bu v2)]),(.obj l5 (r4 .ready none)::ud b8 o7 l1 e0 al r0 c0 (km a23 c5 l10 e5::gQ bq r8 l10 e5::tE b0 a0 l2 c1 b8 o7 l1 c0 b1 b2 [.obj b3 (.cells [.func (.func 84) #[] #[ptr b0 0]] .own)]))⟩) ?_;clear hF h9;rintro v2 ⟨⟩ r hF;unfold s8 at hF;refine wz ?_;refine XS ?_;rcases aa hF with⟨h73,hF⟩|⟨h73,hF⟩;refine az ?_;obtain⟨h74,hF⟩:=du hF;refine X4 (k:=4) rfl (aW h74) ?_;rintro b15 o11 rfl;refine wz ?_;obtain⟨l15,h75,hF⟩:=J hF;refine wl 1 0 6 0 h75 ?_;rintro⟨a17,c8⟩;refine az ?_;refine XV ?_;obtain⟨r31,h10,hF⟩:=J hF;refine ct (fun(r:YC⊕YC) (g:YC)=>match r,g with|.inl _,_=>⟨.ret,[],(.obj l5 (r4 .done (some .ret))::ic b0 a0 l2 c1 b8 o7 l1 c0 e0 al r0 [JJ b1,fk b2 v3,.obj b3 (.cells [.func (.func 84) #[] #[ptr b0 0]] .own)])⟩|.inr _,_=>⟨(.exit 4),((0,.func (.yield l5) #[] #[])::(3,bu v3)::vS b8 o7 l1 c0 v3 (wZ b15 o11 l10 c5 v2 [])),(.obj l5 (r4 .ready none)::ud b8 o7 l1 e0 al r0 c0 (kT b15 o11 l10 e5 bq r8 c5 (tE b0 a0 l2 c1 b8 o7 l1 c0 b1 b2 [.obj b3 (.cells [.func (.func 84) #[] #[ptr b0 0]] .own)])))⟩) r31 ?_ ?_
 refine lo h10 () [2,0,3,4,5,1,7,6,8,9,10,11,12] (fun v26 _=>⟨.normal,((0,.func (.yield l5) #[] #[])::(3,bu v3)::(5,bu v2)::(6,bQ a17 l15 c8)::vS b8 o7 l1 c0 v3 (wZ b15 o11 l10 c5 v2 [(25,bQ a17 l15 c8),(26,eD l15),(27,bu v26)])),(.obj l5 (r4 .ready none)::pD a17 c8 l15::ud b8 o7 l1 e0 al r0 c0 (kT b15 o11 l10 e5 bq r8 c5 (tE b0 a0 l2 c1 b8 o7 l1 c0 b1 b2 [.obj b3 (.cells [.func (.func 84) #[] #[ptr b0 0]] .own)])))⟩) ?_;clear hF h10;rintro v26 ⟨⟩ r hF;unfold td at hF;refine wz ?_;refine XS ?_;rcases aa hF with⟨h76,hF⟩|⟨h76,hF⟩;refine az ?_;obtain⟨h77,hF⟩:=du hF;refine X4 (k:=1) rfl (aW h77) ?_;rintro b20 o15 rfl;refine wz ?_;obtain⟨x14,h116,hF⟩:=J hF;refine az ?_;obtain⟨h78,hF⟩:=aD hF;refine XR (aL rfl rfl (cu _ _ h78)) rfl ?_;obtain⟨h117,hF⟩:=du hF;refine wz ?_;obtain⟨x15,h118,hF⟩:=J hF;refine wz ?_;refine XR (cR rfl tB rfl (cQ Ah rfl rfl rfl)) rfl ?_;obtain⟨r15,h20,hF⟩:=J hF;refine X1 (yq (k:=1) (k1:=0) (γA:=Nat) (GA:=(fun g:Nat=>(match g with|b17=>⟨.normal,((1,ptr b0 0)::jC b1 b2 [(8,ptr b3 0),(9,ptr b17 0)]),(.obj l5 (r4 .ready none)::ic b0 a0 l2 c1 b8 o7 l1 c0 e0 al r0 (gL b1::gL b2::.obj b3 (.cells [.func (.func 84) #[] #[ptr b0 0]] .own)::gN b17 x14 x15 v3 v2::qB b20 o15 l15 c8 (kT b15 o11 l10 e5 bq r8 c5 [])))⟩:En))) (γ:=YC) (G:=fun g=>(fun(r:YC⊕YC) (g:YC)=>(match r,g with|.inl _,_=>⟨.normal,[],(.obj l5 (r4 .busy none)::ic b0 a0 l2 c1 b8 o7 l1 c0 e0 al r0 (gL b1::gL b2::.obj b3 (.cells [.func (.func 84) #[] #[ptr b0 0]] .own)::qB b20 o15 l15 c8 (kT b15 o11 l10 e5 bq r8 c5 [])))⟩|.inr _,_=>⟨.ret,[],(.obj l5 (r4 .busy none)::ic b0 a0 l2 c1 b8 o7 l1 c0 e0 al r0 (JJ b1::fk b2 v3::.obj b3 (.cells [.func (.func 84) #[] #[ptr b0 0]] .own)::qB b20 o15 l15 c8 (kT b15 o11 l10 e5 bq r8 c5 [])))⟩:En)) r15 g) rfl rfl rfl h69 h68 rfl ?_ (fun _=>rfl) (fun _=>rfl) ?_ (fun y=>by rcases r15 with _|_<;>rfl)) gn rfl ?_
 clear hF h20;refine XT<|wa tB fun b37=>?_;refine wz ?_;exact ae b37 [2,10,11,4,5,6,12,13,14,0,1,3,7,8,9];clear hF;revert r15;intro r hF;rintro b17;refine wz ?_;rcases aa hF with⟨h79,hF⟩|⟨h79,hF⟩;refine wz ?_;cases hF;exact ae () [0,1,2,3,4,5,6,7,8,10,11,12,13,14];refine az ?_;obtain⟨h119,hF⟩:=du hF;refine wz ?_;refine wl 2 0 4 3 h19 ?_;rintro⟨⟨a9,c10⟩,⟨a18,c11,e4⟩⟩;refine wa z54 fun b21=>?_;refine wz ?_;refine XS<|Ya (prs:=[(2,4),(2,7)]) (by kernel_rfl)<|XU (aI (r:=ptr b21 1) rfl (fK _ _)) rfl<|XU (aJ (k:=0) oc rfl rfl rfl) rfl ?_
 obtain⟨_,h80,hF⟩:=J hF;refine Wn.c (QW (N:=fun x:XG×Nat=>[.sl x.1 1 x.2 e4]) rfl rfl (fun m hm=>Qm n l14 e4 a18 c11 _ h80 m (hm.q 2) (hm.dp (q:=3) rfl)) fun _=>rfl) gn rfl ?_;rintro⟨a3,n4⟩;refine Wn.kj (k:=0) (q:=4) (L:=l14) rfl (.inl rfl) rfl ?_;rintro rfl;refine XU (aI (r:=ptr b17 3) rfl (zJ _ _)) rfl<|XU (aJ (k:=14) cK rfl rfl rfl) rfl<|XU (aL rfl rfl (df _ _ _)) rfl<|XU (aI (r:=ptr b17 3) rfl (zJ _ _)) rfl<|XU (aJ (k:=14) cK rfl rfl rfl) rfl ?_;obtain⟨l18,h21,hF⟩:=J hF;refine Wn.x (nq (α:=YC) (V:=fun _=>.slice a3 l18.length l14.length) (N:=(fun _:YC=>bJ (.sl a3 1 l14.length e4::Gv b21 a9 l20 c10 a18 l14 c11::pD a9 c10 l20::km a18 c11 l14 e4::gQ bq r0 l14 e4::.obj l5 (r4 .busy none)::ic b0 a0 l2 c1 b8 o7 l1 c0 e0 al r0 (gL b1::gL b2::.obj b3 (.cells [.func (.func 84) #[] #[ptr b0 0]] .own)::gN b17 x14 x15 v3 v2::qB b20 o15 l15 c8 (kT b15 o11 l10 e5 bq r8 c5 []))) 0 (.gen (pF a3 l14.length 1 l18.length (e4.take (XN (v2-1):Int).toNat++e4.drop (v2:Int).toNat))))) rfl rfl (fun m hm=>M5 n hm (k:=0) (qq:=4) rfl rfl h21)) gn rfl fun _=>?_;refine Yh (ai.RA (q:=4) (i:=(XN (v2-1):Int).toNat) (j:=(v2:Int).toNat) rfl (PR h21))<|XU (aI (r:=ptr b21 1) rfl (fK _ _)) rfl<|Wn.o0 (fe (k:=2) oc rfl rfl rfl rfl rfl)<|X5 (fun m hm=>dQ.all rfl)<|XX<|XS<|Ya (prs:=[(0,4),(1,4)]) (by kernel_rfl)<|Wn.yX rfl (aJ (k:=7) fZ rfl rfl rfl) rfl<|Wn.yX rfl (aJ (k:=2) Lu rfl rfl rfl) rfl<|XU (aJ (k:=14) IN rfl rfl rfl) rfl<|XU (aJ (k:=15) GI rfl rfl rfl) rfl ?_
 obtain⟨r16,h81,hF⟩:=J hF;refine Wn.xk (l:=[b0,b21]) (nq (α:=YC) (V:=fun g=>(fun(r:Int×Int) (g:YC)=>match r,g with |(v11,v12),_=>(.agg #[bu v11,bu v12]:XI)) r16 g) (N:=fun g=>(fun(r:Int×Int) (g:YC)=>match r,g with |(v11,v12),_=>((.obj l5 (r4 .busy none)::ic b0 a0 l2 c1 b8 o7 l1 c0 e0 al r0 (gL b1::gL b2::.obj b3 (.cells [.func (.func 84) #[] #[ptr b0 0]] .own)::qB b20 o15 l15 c8 (kT b15 o11 l10 e5 bq r8 c5 [gN b17 x14 x15 v3 v2,.obj b21 (.cells [bQ a9 l20 c10,.slice a3 l18.length l14.length] .own),pD a9 c10 l20,.gen (pF a3 l14.length 1 l18.length (e4.take (XN (v2-1):Int).toNat++e4.drop (v2:Int).toNat)),.gen (cE bq r0 l18 (e4.take (XN (v2-1):Int).toNat++e4.drop (v2:Int).toNat))]))):YB Pc)) r16 g) rfl rfl (fun m hm=>?_)) ⟨⟨_,7,rfl,rfl,fun _=>⟨1,rfl⟩⟩,⟨⟨_,2,rfl,rfl,fun _=>⟨15,rfl⟩⟩,trivial⟩⟩ gn rfl ?_
 clear hF;revert r16;intro r hF;refine aS (N:=29) (rs:=[.cell 3 26]) rfl Try.func84 rfl rfl rfl hm ?_;refine wz ?_;refine wb fun b29=>?_;refine wa z26 fun b46=>?_;refine wz ?_;refine XS<|Ya (prs:=[(7,14),(9,14),(11,14)]) (by kernel_rfl)<|XU (aI (r:=ptr b0 0) rfl (kW _ _)) rfl<|XU (aJ (k:=9) wQ rfl rfl rfl) rfl<|XU (aI (r:=ptr b29 0) rfl (yn _ _)) rfl<|XU (aJ (k:=1) cK rfl rfl rfl) rfl ?_
 obtain⟨h22,hF⟩:=du hF;refine Wn.bP (k:=10) rfl (aW h22) ?_;rintro b47 o17 rfl;refine Yf (qX Ae rfl rfl h22) gn rfl ?_;obtain⟨⟨x20,x21⟩,h82,hF⟩:=J hF;refine XU (sY (k:=0) dN rfl rfl (kV h82) rfl rfl) rfl<|XU (aI (r:=ptr b0 0) rfl (kW _ _)) rfl<|Wn.yX rfl (aJ (k:=10) wQ rfl rfl rfl) rfl<|XU (aI (r:=ptr b29 1) rfl (zg _ _)) rfl<|Wn.yX rfl (aJ (k:=2) cK rfl rfl rfl) rfl ?_;obtain⟨h83,hF⟩:=du hF;refine Yf (qX Ae rfl rfl h83) gn rfl ?_;obtain⟨⟨x22,x23⟩,h84,hF⟩:=J hF;refine Wn.yX rfl (sY (k:=0) dN rfl rfl (kV h84) rfl rfl) rfl<|Wn.x (Bg z26 rfl) gn rfl fun b48=>?_;refine Wn.x (Bg z26 rfl) gn rfl fun b49=>?_;refine Wn.KI rfl (fe (k:=1) dN rfl rfl rfl rfl rfl)<|Wn.o0 (fe (k:=0) dN rfl rfl rfl rfl rfl)<|X5 (fun m hm=>(dQ.rw rfl rfl rfl (hm.ne (i:=12) (j:=1) rfl rfl rfl rfl (by decide) rfl) (dQ.rw rfl rfl rfl (hm.ne (i:=4) (j:=1) rfl rfl rfl rfl (by decide) rfl) (dQ.rw rfl rfl rfl (hm.ne (i:=1) (j:=2) rfl rfl rfl rfl (by decide) rfl).symm dQ.nil)))) ?_
 refine az ?_;refine XR (cR rfl z26 rfl (cQ FT rfl rfl rfl)) rfl ?_;refine az ?_;cases hF;exact X2 (.cell (k:=3) dN rfl rfl rfl .nil) fun m' hm=>⟨(),rfl,(ai.aq [11,12,13,14,15,16,17,18,19,21,22,23,24,25,20,7,8,6,5] rfl rfl) m' hm⟩;clear h81;obtain⟨v11,v12⟩:=r16;rintro⟨⟩;obtain⟨r38,h85,hF⟩:=J hF;refine Yh (ai.GH (k:=17) rfl)<|nc gn (fun m hm=>DG h85 m (hm.q 2) (hm.q 5) (hm.dp (q:=4) rfl) (hm.q 16) (hm.q 17) (hm.dp (q:=18) rfl)) ?_;rintro⟨⟩;refine XU (FG rfl rfl) rfl ?_;refine X5 (fun m hm=>(by(first|refine dQ.rk rfl rfl rfl (by simp) ?_|refine dQ.step rfl ?_); exact(by(first|refine dQ.rk rfl rfl rfl (by simp) ?_|refine dQ.step rfl ?_); exact dQ.nil))) ?_
 refine XX ?_;rcases aa hF with⟨h23,hF⟩|⟨h23,hF⟩;refine X7 rfl h23<|XS<|Ya (prs:=[(1,2)]) (by kernel_rfl)<|XU (aI (r:=ptr b17 2) rfl (oF _ _)) rfl<|Wn.yX rfl (aJ (k:=14) cK rfl rfl rfl) rfl<|Wn.KI rfl (fe (k:=6) cK rfl rfl rfl rfl rfl)<|Wn.o0 (fe (k:=7) cK rfl rfl rfl rfl rfl)<|X5 (fun m hm=>(dQ.rw rfl rfl rfl (hm.ne (i:=14) (j:=6) rfl rfl rfl rfl (by decide) rfl) dQ.nil)) ?_
 refine az ?_;cases hF;exact ae () (Yk 0 14);refine wz ?_;cases hF;exact ae () (Yk 0 14);rcases r15 with _|_;rintro⟨⟩;refine ja ?_;cases hF;exact ae () [0,10,3,4,5,11,12,13,1,2,6,7,8];rintro⟨⟩;refine az ?_;cases hF;exact ae () (Yk 0 9);refine wz ?_;cases hF;exact ae () (0::Yk 2 11);rcases r31 with _|_;rintro⟨⟩;refine wz ?_;cases hF;exact ae () (Yk 0 9);rintro⟨⟩;refine az ?_;cases hF;exact ae () [0,1,2,3,6,5,7,8,9,10,11];refine wz ?_;cases hF;exact ae () [0,1,2,3,6,7,8,9,10];rcases r30 with _|_;rintro⟨⟩;refine wz ?_;cases hF;exact ae () [0,1,2,5,4,6,7,8];rintro⟨⟩;refine az ?_;cases hF;exact ae () [0,3,2,4,5,6,7,8];refine wz ?_;cases hF;exact ae () [0,3,4,1,2,5,6,7];rcases r29 with v25|_;rintro⟨⟩;refine At.br ?_;cases hF;exact X2 .nil fun m' hm=>⟨(),(ai.aq [0,1,2,3,4,5,6,7] rfl rfl) m' hm⟩;rintro⟨⟩;refine Yi ?_;cases hF;exact At.fin .nil fun m' hm=>⟨(),(ai.aq [0,1,2,3,4,5,6,7] rfl rfl) m' hm⟩;rcases r14 with v24|_;rintro⟨⟩
 change Wk _ _ _ _ .ret _ _ _ _
 refine wz ?_;cases hF;exact X2 (.cell (k:=4) cK rfl rfl rfl (.cell (k:=5) cK rfl rfl rfl .nil)) fun m' hm=>⟨(),rfl,(ai.aq [] rfl rfl) m' hm⟩;rintro⟨⟩
 change At _ .normal _ _ _
 refine az ?_;obtain⟨r32,h86,hF⟩:=J hF;refine wq (fun _ (b27:Nat)=>(.func (.func 73) #[] #[ptr b27 0],(ig b27 a0 l2 c1 a1 l1 c0 e0 al r0 [Gv b0 a0 l2 c1 a1 l1 c0,gL b1,gL b2,.obj b3 (.cells [.func (.func 84) #[] #[ptr b0 0]] .own)]))) r32 (fun m hm=>?_) ?_;clear hF;revert r32;intro r hF;refine aS (N:=4) (rs:=[.tmp 2]) rfl Try.func50 rfl rfl rfl hm ?_;refine wz ?_;refine wb fun b38=>?_;refine az ?_;refine XR (kX rfl rfl) rfl ?_;refine az ?_;cases hF;exact ar b38 [0,2,3,4,1,5,6,7];rintro b27;refine wz ?_;refine XV ?_;obtain⟨r17,h87,hF⟩:=J hF;refine Wk.range (N:=50) (rs:=[]) (γ:=YC) (X:=fun g=>(fun(r:Int⊕YC) (g:YC)=>(match r,g with|.inl v27,_=>⟨.done,(some .ret),(ig b0 a0 l2 c1 a1 l1 c0 e0 al r0 [FQ b1,fk b2 v27,.obj b3 (.cells [.func (.func 84) #[] #[ptr b0 0]] .own)])⟩|.inr _,_=>⟨.ready,none,(ig b0 a0 l2 c1 a1 l1 c0 e0 al r0 [gL b1,gL b2,.obj b3 (.cells [.func (.func 84) #[] #[ptr b0 0]] .own)])⟩:Rn)) r17 g) rfl rfl Try.func73 rfl rfl rfl ?_ (fun y=>by rcases r17 with _|_<;>(intro e; cases e)) ?_
 clear hF;revert r17;intro r hF;intro t4 l4 r3 h88 h89;refine wz ?_;refine XV ?_;obtain⟨r33,h11,hF⟩:=J hF;refine ct (fun(r:Int⊕YC) (g:YC)=>match r,g with|.inl v28,_=>⟨.ret,[],(.obj l4 (r3 .done (some .ret))::ig b0 a0 l2 c1 a1 l1 c0 e0 al r0 [FQ b1,fk b2 v28,.obj b3 (.cells [.func (.func 84) #[] #[ptr b0 0]] .own)])⟩|.inr _,_=>⟨(.exit 0),[],(.obj l4 (r3 .ready none)::ig b0 a0 l2 c1 a1 l1 c0 e0 al r0 [gL b1,gL b2,.obj b3 (.cells [.func (.func 84) #[] #[ptr b0 0]] .own)])⟩) r33 ?_ ?_
 refine lo h11 () [0,3,4,5,2,6,7,8] (fun v1 _=>⟨.normal,((0,.func (.yield l4) #[] #[])::BB a1 l1 c0 v1 []),[.obj l4 (r3 .ready none),Fx a1 c0 l1 e0,gQ al r0 l1 e0,Gv b0 a0 l2 c1 a1 l1 c0,tL a0 c1 l2,gL b1,gL b2,.obj b3 (.cells [.func (.func 84) #[] #[ptr b0 0]] .own)]⟩) ?_;clear hF h11;rintro v1 ⟨⟩ r hF;unfold om at hF;refine wz ?_;refine XS ?_;rcases aa hF with⟨h90,hF⟩|⟨h90,hF⟩;refine az ?_;obtain⟨h91,hF⟩:=du hF;refine X4 (k:=1) rfl (aW h91) ?_;rintro b5 o5 rfl;refine wz ?_;obtain⟨⟨l48,l49⟩,h92,hF⟩:=J hF;refine wl 2 0 3 0 h92 ?_;rintro⟨⟨a34,c20⟩,⟨a35,c21,e11⟩⟩;refine wa z54 fun b50=>?_;refine az ?_;obtain⟨l8,h93,hF⟩:=J hF;refine Hr gn (fun m hm=>kQ h93 m hm.dX (hm.q 1) (hm.no 1) (hm.q 2) (hm.no 2) (hm.dp (q:=3) rfl) (hm.iA (q:=3) rfl)) ?_;rintro⟨a24,c3,n5,e3,r7⟩;refine Yj (k:=0) (q:=1) (L:=l8) rfl (.inr (.inl ⟨_,rfl⟩)) rfl ?_;rintro rfl;refine wz ?_;refine XV ?_;obtain⟨r34,h12,hF⟩:=J hF;refine ct (fun(r:YC⊕YC) (g:YC)=>match r,g with|.inl _,_=>⟨.ret,[],(.obj l4 (r3 .done (some .ret))::ic b0 a0 l2 c1 b5 o5 l1 c0 e0 al r0 [FQ b1,fk b2 v1,.obj b3 (.cells [.func (.func 84) #[] #[ptr b0 0]] .own)])⟩|.inr _,_=>⟨(.exit 2),((0,.func (.yield l4) #[] #[])::vS b5 o5 l1 c0 v1 []),(.obj l4 (r3 .ready none)::ud b5 o5 l1 e0 al r0 c0 (tE b0 a0 l2 c1 b5 o5 l1 c0 b1 b2 [.obj b3 (.cells [.func (.func 84) #[] #[ptr b0 0]] .own)]))⟩) r34 ?_ ?_
 refine lo h12 () [7,6,9,8,0,1,10,11,12,13,14] (fun v6 _=>⟨.normal,((0,.func (.yield l4) #[] #[])::(3,bu v1)::vS b5 o5 l1 c0 v1 [(18,bQ a24 l8 c3),(19,eD l8),(20,bu v6)]),(.obj l4 (r3 .ready none)::ud b5 o5 l1 e0 al r0 c0 (km a24 c3 l8 e3::gQ bq r7 l8 e3::tE b0 a0 l2 c1 b5 o5 l1 c0 b1 b2 [.obj b3 (.cells [.func (.func 84) #[] #[ptr b0 0]] .own)]))⟩) ?_;clear hF h12;rintro v6 ⟨⟩ r hF;unfold nO at hF;refine wz ?_;refine XS ?_;rcases aa hF with⟨h94,hF⟩|⟨h94,hF⟩;refine az ?_;obtain⟨h95,hF⟩:=du hF;refine X4 (k:=4) rfl (aW h95) ?_;rintro b12 o10 rfl;refine wz ?_;obtain⟨l13,h96,hF⟩:=J hF;refine wl 1 0 6 0 h96 ?_;rintro⟨a19,c6⟩;refine az ?_;refine XV ?_;obtain⟨r35,h13,hF⟩:=J hF;refine ct (fun(r:YC⊕YC) (g:YC)=>match r,g with|.inl _,_=>⟨.ret,[],(.obj l4 (r3 .done (some .ret))::ic b0 a0 l2 c1 b5 o5 l1 c0 e0 al r0 [FQ b1,fk b2 v1,.obj b3 (.cells [.func (.func 84) #[] #[ptr b0 0]] .own)])⟩|.inr _,_=>⟨(.exit 4),((0,.func (.yield l4) #[] #[])::(3,bu v1)::vS b5 o5 l1 c0 v1 (wZ b12 o10 l8 c3 v6 [])),(.obj l4 (r3 .ready none)::ud b5 o5 l1 e0 al r0 c0 (kT b12 o10 l8 e3 bq r7 c3 (tE b0 a0 l2 c1 b5 o5 l1 c0 b1 b2 [.obj b3 (.cells [.func (.func 84) #[] #[ptr b0 0]] .own)])))⟩) r35 ?_ ?_
 refine lo h13 () [2,0,3,4,5,1,7,6,8,9,10,11,12] (fun v29 _=>⟨.normal,((0,.func (.yield l4) #[] #[])::(3,bu v1)::(5,bu v6)::(6,bQ a19 l13 c6)::vS b5 o5 l1 c0 v1 (wZ b12 o10 l8 c3 v6 [(25,bQ a19 l13 c6),(26,eD l13),(27,bu v29)])),(.obj l4 (r3 .ready none)::pD a19 c6 l13::ud b5 o5 l1 e0 al r0 c0 (kT b12 o10 l8 e3 bq r7 c3 (tE b0 a0 l2 c1 b5 o5 l1 c0 b1 b2 [.obj b3 (.cells [.func (.func 84) #[] #[ptr b0 0]] .own)])))⟩) ?_;clear hF h13;rintro v29 ⟨⟩ r hF;unfold oB at hF;refine wz ?_;refine XS ?_;rcases aa hF with⟨h97,hF⟩|⟨h97,hF⟩;refine az ?_;obtain⟨h98,hF⟩:=du hF;refine X4 (k:=1) rfl (aW h98) ?_;rintro b18 o13 rfl;refine wz ?_;obtain⟨x10,h120,hF⟩:=J hF;refine az ?_;obtain⟨h99,hF⟩:=aD hF;refine XR (aL rfl rfl (cu _ _ h99)) rfl ?_;obtain⟨h121,hF⟩:=du hF;refine wz ?_;obtain⟨x11,h122,hF⟩:=J hF;refine wz ?_;refine XR (cR rfl tB rfl (cQ Ah rfl rfl rfl)) rfl ?_;obtain⟨r18,h24,hF⟩:=J hF;refine X1 (yq (k:=1) (k1:=0) (γA:=Nat) (GA:=(fun g:Nat=>(match g with|b13=>⟨.normal,((1,ptr b0 0)::jC b1 b2 [(8,ptr b3 0),(11,ptr b13 0)]),(.obj l4 (r3 .ready none)::ic b0 a0 l2 c1 b5 o5 l1 c0 e0 al r0 (gL b1::gL b2::.obj b3 (.cells [.func (.func 84) #[] #[ptr b0 0]] .own)::gN b13 x10 x11 v1 v6::qB b18 o13 l13 c6 (kT b12 o10 l8 e3 bq r7 c3 [])))⟩:En))) (γ:=YC) (G:=fun g=>(fun(r:YC⊕YC) (g:YC)=>(match r,g with|.inl _,_=>⟨.ret,[],(.obj l4 (r3 .busy none)::ic b0 a0 l2 c1 b5 o5 l1 c0 e0 al r0 (FQ b1::fk b2 v1::.obj b3 (.cells [.func (.func 84) #[] #[ptr b0 0]] .own)::qB b18 o13 l13 c6 (kT b12 o10 l8 e3 bq r7 c3 [])))⟩|.inr _,_=>⟨.normal,[],(.obj l4 (r3 .busy none)::ic b0 a0 l2 c1 b5 o5 l1 c0 e0 al r0 (gL b1::gL b2::.obj b3 (.cells [.func (.func 84) #[] #[ptr b0 0]] .own)::qB b18 o13 l13 c6 (kT b12 o10 l8 e3 bq r7 c3 [])))⟩:En)) r18 g) rfl rfl rfl h89 h88 rfl ?_ (fun _=>rfl) (fun _=>rfl) ?_ (fun y=>by rcases r18 with _|_<;>rfl)) gn rfl ?_
 clear hF h24;refine XT<|wa tB fun b39=>?_;refine wz ?_;exact ae b39 [2,10,11,4,5,6,12,13,14,0,1,3,7,8,9];clear hF;revert r18;intro r hF;rintro b13;refine wz ?_;refine XV ?_;obtain⟨r36,h14,hF⟩:=J hF;refine ct (fun(r:YC⊕YC) (g:YC)=>match r,g with|.inl _,_=>⟨.ret,(jC b1 b2 []),(.obj l4 (r3 .busy none)::FQ b1::fk b2 v1::ic b0 a0 l2 c1 b5 o5 l1 c0 e0 al r0 (.obj b3 (.cells [.func (.func 84) #[] #[ptr b0 0]] .own)::qB b18 o13 l13 c6 (kT b12 o10 l8 e3 bq r7 c3 [])))⟩|.inr _,_=>⟨(.exit 8),((1,ptr b0 0)::jC b1 b2 [(8,ptr b3 0),(11,ptr b13 0)]),(.obj l4 (r3 .busy none)::ic b0 a0 l2 c1 b5 o5 l1 c0 e0 al r0 (gL b1::gL b2::.obj b3 (.cells [.func (.func 84) #[] #[ptr b0 0]] .own)::gN b13 x10 x11 v1 v6::qB b18 o13 l13 c6 (kT b12 o10 l8 e3 bq r7 c3 [])))⟩) r36 ?_ ?_
 refine lo h14 () [0,1,2,3,4,5,6,7,8,9,10,11,12,13,14] (fun v13 _=>⟨.normal,((1,ptr b0 0)::jC b1 b2 [(8,ptr b3 0),(11,ptr b13 0),(82,wV b5 o5 l1 c0),(83,eD l1),(84,bu v13)]),(.obj l4 (r3 .busy none)::ic b0 a0 l2 c1 b5 o5 l1 c0 e0 al r0 (gL b1::gL b2::.obj b3 (.cells [.func (.func 84) #[] #[ptr b0 0]] .own)::gN b13 x10 x11 v1 v6::qB b18 o13 l13 c6 (kT b12 o10 l8 e3 bq r7 c3 [])))⟩) ?_;clear hF h14;rintro v13 ⟨⟩ r hF;unfold ve at hF;refine wz ?_;refine XS ?_;rcases aa hF with⟨h100,hF⟩|⟨h100,hF⟩;refine az ?_;obtain⟨h123,hF⟩:=du hF;refine wz ?_;obtain⟨⟨l43,l25⟩,h101,hF⟩:=J hF;refine wl 2 0 4 3 h101 ?_;rintro⟨⟨a25,c12⟩,⟨a26,c13,e7⟩⟩;refine wa z54 fun b30=>?_;refine wz ?_;refine XS ?_;obtain⟨v10,h102,hF⟩:=J hF;refine ct (fun v10 (_:YC)=>⟨.normal,((1,ptr b0 0)::jC b1 b2 [(8,ptr b3 0),(11,ptr b13 0),(82,wV b5 o5 l1 c0),(83,eD l1),(84,bu v13),(100,.bool v10)]),(.obj l4 (r3 .busy none)::ic b0 a0 l2 c1 b5 o5 l1 c0 e0 al r0 (gL b1::gL b2::.obj b3 (.cells [.func (.func 84) #[] #[ptr b0 0]] .own)::gN b13 x10 x11 v1 v6::qB b18 o13 l13 c6 (kT b12 o10 l8 e3 bq r7 c3 [])))⟩) v10 ?_ ?_;clear hF;revert v10;intro r hF;refine Ya (prs:=[(5,9),(6,9)]) (by kernel_rfl)<|XU (aX rfl) rfl<|XU (aI (r:=ptr b13 2) rfl (oF _ _)) rfl<|XU (aJ (k:=13) cK rfl rfl rfl) rfl<|XU (aL rfl rfl (CZ _ _)) rfl<|XU (aX rfl) rfl ?_
 rcases aa hF with⟨h0,hF⟩|⟨h0,hF⟩;refine Wn.Tk rfl (aJ (k:=5) fZ rfl rfl rfl) (gg rfl rfl (fg h0)) rfl<|Wn.Tk rfl (aJ (k:=0) Lu rfl rfl rfl) (gg rfl rfl (fg h0)) rfl<|Yf (aJ (k:=12) IN rfl rfl rfl) (gg rfl rfl (fg h0)) rfl<|Yf (aJ (k:=13) GI rfl rfl rfl) (gg rfl rfl (fg h0)) rfl ?_;obtain⟨r19,h103,hF⟩:=J hF;refine Wn.xk (l:=[b0,b30]) (nq (α:=YC) (V:=fun g=>(fun(r:Int×Int) (g:YC)=>match r,g with |(v14,v15),_=>(.agg #[bu v14,bu v15]:XI)) r19 g) (N:=fun g=>(fun(r:Int×Int) (g:YC)=>match r,g with |(v14,v15),_=>((.obj l4 (r3 .busy none)::ic b0 a0 l2 c1 b5 o5 l1 c0 e0 al r0 (gL b1::gL b2::.obj b3 (.cells [.func (.func 84) #[] #[ptr b0 0]] .own)::qB b18 o13 l13 c6 (kT b12 o10 l8 e3 bq r7 c3 [gN b13 x10 x11 v1 v6,Gv b30 a25 l43 c12 a26 l25 c13,pD a25 c12 l43,km a26 c13 l25 e7,gQ bq r0 l25 e7]))):YB Pc)) r19 g) rfl rfl (fun m hm=>?_)) ⟨⟨_,5,rfl,rfl,fun _=>⟨1,rfl⟩⟩,⟨⟨_,0,rfl,rfl,fun _=>⟨15,rfl⟩⟩,trivial⟩⟩ (gg rfl rfl (fg h0)) rfl ?_
 clear hF;revert r19;intro r hF;refine aS (N:=29) (rs:=[.cell 3 26]) rfl Try.func84 rfl rfl rfl hm ?_;refine wz ?_;refine wb fun b31=>?_;refine wa z26 fun b51=>?_;refine wz ?_;refine XS<|Ya (prs:=[(7,14),(9,14),(11,14)]) (by kernel_rfl)<|XU (aI (r:=ptr b0 0) rfl (kW _ _)) rfl<|XU (aJ (k:=7) wQ rfl rfl rfl) rfl<|XU (aI (r:=ptr b31 0) rfl (yn _ _)) rfl<|XU (aJ (k:=1) cK rfl rfl rfl) rfl ?_
 obtain⟨h25,hF⟩:=du hF;refine Wn.bP (k:=8) rfl (aW h25) ?_;rintro b52 o18 rfl;refine Yf (qX Ae rfl rfl h25) gn rfl ?_;obtain⟨⟨x24,x25⟩,h104,hF⟩:=J hF;refine XU (sY (k:=0) dN rfl rfl (kV h104) rfl rfl) rfl<|XU (aI (r:=ptr b0 0) rfl (kW _ _)) rfl<|Wn.yX rfl (aJ (k:=8) wQ rfl rfl rfl) rfl<|XU (aI (r:=ptr b31 1) rfl (zg _ _)) rfl<|Wn.yX rfl (aJ (k:=2) cK rfl rfl rfl) rfl ?_;obtain⟨h105,hF⟩:=du hF;refine Yf (qX Ae rfl rfl h105) gn rfl ?_;obtain⟨⟨x26,x27⟩,h106,hF⟩:=J hF;refine Wn.yX rfl (sY (k:=0) dN rfl rfl (kV h106) rfl rfl) rfl<|Wn.x (Bg z26 rfl) gn rfl fun b53=>?_;refine Wn.x (Bg z26 rfl) gn rfl fun b54=>?_;refine Wn.KI rfl (fe (k:=1) dN rfl rfl rfl rfl rfl)<|Wn.o0 (fe (k:=0) dN rfl rfl rfl rfl rfl)<|X5 (fun m hm=>(dQ.rw rfl rfl rfl (hm.ne (i:=10) (j:=1) rfl rfl rfl rfl (by decide) rfl) (dQ.rw rfl rfl rfl (hm.ne (i:=4) (j:=1) rfl rfl rfl rfl (by decide) rfl) (dQ.rw rfl rfl rfl (hm.ne (i:=1) (j:=2) rfl rfl rfl rfl (by decide) rfl).symm dQ.nil)))) ?_
 refine az ?_;refine XR (cR rfl z26 rfl (cQ FT rfl rfl rfl)) rfl ?_;refine az ?_;cases hF;exact X2 (.cell (k:=3) dN rfl rfl rfl .nil) fun m' hm=>⟨(),rfl,(ai.aq [9,10,11,12,13,14,15,16,17,19,20,21,22,23,18,5,6,7,8] rfl rfl) m' hm⟩;clear h103;obtain⟨v14,v15⟩:=r19;rintro⟨⟩;obtain⟨r39,h107,hF⟩:=J hF;refine nc (gg rfl rfl (fg h0)) (fun m hm=>DG h107 m (hm.q 2) (hm.q 5) (hm.dp (q:=4) rfl) (hm.q 16) (hm.q 17) (hm.dp (q:=18) rfl)) ?_;rintro⟨⟩;refine XU (Ar rfl h0 rfl) rfl ?_;refine X5 (fun m hm=>(by(first|refine dQ.rk rfl rfl rfl (by simp) ?_|refine dQ.step rfl ?_); exact(by(first|refine dQ.rk rfl rfl rfl (by simp) ?_|refine dQ.step rfl ?_); exact dQ.nil))) ?_
 obtain rfl:=U9 hF;exact ae () [0,1,2,3,4,5,6,7,8,14,9,10,11,12,13];refine Yd (gg rfl rfl (zn h0)) rfl<|Yd (gg rfl rfl (zn h0)) rfl<|Yd (gg rfl rfl (zn h0)) rfl<|Yd (gg rfl rfl (zn h0)) rfl<|Yd (gg rfl rfl (zn h0)) rfl<|Yd (gg rfl rfl (zn h0)) rfl<|XU (Cb rfl h0 rfl) rfl ?_;refine X5 (fun m hm=>(by(first|refine dQ.rk rfl rfl rfl (by simp) ?_|refine dQ.step rfl ?_); exact(by(first|refine dQ.rk rfl rfl rfl (by simp) ?_|refine dQ.step rfl ?_); exact dQ.nil))) ?_
 cases hF;exact ae () (Yk 4 15);rintro⟨⟩;refine XX ?_;rcases aa hF with⟨h26,hF⟩|⟨h26,hF⟩;refine X7 rfl h26<|XS<|Ya (prs:=[(1,2)]) (by kernel_rfl)<|XU (aI (r:=ptr b13 2) rfl (oF _ _)) rfl<|Wn.yX rfl (aJ (k:=9) cK rfl rfl rfl) rfl<|Wn.KI rfl (fe (k:=6) cK rfl rfl rfl rfl rfl)<|Wn.o0 (fe (k:=7) cK rfl rfl rfl rfl rfl)<|X5 (fun m hm=>(dQ.rw rfl rfl rfl (hm.ne (i:=9) (j:=6) rfl rfl rfl rfl (by decide) rfl) dQ.nil)) ?_
 refine az ?_;cases hF;exact ae () [0,6,7,1,2,3,4,5,8,10,11,12,13,14];refine az ?_;cases hF;exact ae () (Yk 0 15);refine wz ?_;cases hF;exact ae () (Yk 0 15);rcases r36 with _|_;rintro⟨⟩;refine wz ?_;cases hF;exact ae () (0::3::4::5::6::7::1::2::Yk 8 6);rintro⟨⟩;refine wz ?_;cases hF;exact ae () [0,1,2,3,4,5,6,7,8,10,11,12,13,14];rcases r18 with _|_;rintro⟨⟩;refine az ?_;cases hF;exact ae () (Yk 0 9);rintro⟨⟩;refine ja ?_;cases hF;exact ae () [0,10,3,4,5,11,12,13,1,2,6,7,8];refine wz ?_;cases hF;exact ae () (0::Yk 2 11);rcases r35 with _|_;rintro⟨⟩;refine wz ?_;cases hF;exact ae () (Yk 0 9);rintro⟨⟩;refine az ?_;cases hF;exact ae () [0,1,2,3,6,5,7,8,9,10,11];refine wz ?_;cases hF;exact ae () [0,1,2,3,6,7,8,9,10];rcases r34 with _|_;rintro⟨⟩;refine wz ?_;cases hF;exact ae () [0,1,2,5,4,6,7,8];rintro⟨⟩;refine az ?_;cases hF;exact ae () [0,3,2,4,5,6,7,8];refine wz ?_;cases hF;exact ae () [0,3,4,1,2,5,6,7];rcases r33 with v28|_;rintro⟨⟩;refine At.br ?_;cases hF;exact X2 .nil fun m' hm=>⟨(),(ai.aq [0,1,2,3,4,5,6,7] rfl rfl) m' hm⟩;rintro⟨⟩;refine Yi ?_;cases hF;exact At.fin .nil fun m' hm=>⟨(),(ai.aq [0,1,2,3,4,5,6,7] rfl rfl) m' hm⟩;rcases r17 with v27|_;rintro⟨⟩
 change Wk _ _ _ _ .ret _ _ _ _
 refine wz ?_;cases hF;exact X2 (.cell (k:=4) cK rfl rfl rfl (.cell (k:=5) cK rfl rfl rfl .nil)) fun m' hm=>⟨(),rfl,(ai.aq [] rfl rfl) m' hm⟩;rintro⟨⟩
 change At _ .normal _ _ _
 refine ja ?_;cases hF;exact X2 (.cell (k:=4) cK rfl rfl rfl (.cell (k:=5) cK rfl rfl rfl .nil)) fun m' hm=>⟨(),rfl,(ai.aq [] rfl rfl) m' hm⟩
def JP{n l2 l1 a0 c1 a1 c0}{r0:XH}{e0:XF}{r}(hF:N0 n l2 l1=some r)(m)(h12:lF m a0 c1 l2)(h13:pC m a1 c0 l1 e0)(h14:(cE al r0 l1 e0).P m):
 aK (Yt p q) 43 [mU a0 l2 c1 a1 l1 c0] m (Yp m (.tuple #[.int .i64 r.1,.int .i64 r.2])):=by
 unfold N0 at hF;refine cw Try.func43 (Hp.pG (X6 (X6 (XZ m) eL h12) (fH eL) h13) (fH (fH eL)) h14) ?_;refine wz ?_;refine wb fun b0=>?_;refine az ?_;refine XS ?_;obtain⟨v1,h15,hF⟩:=J hF;refine ct (fun v1 (_:YC)=>⟨.normal,[(1,ptr b0 0),(33,.bool v1)],(ig b0 a0 l2 c1 a1 l1 c0 e0 al r0 [])⟩) v1 ?_ ?_;clear hF;revert v1;intro r hF;refine wz ?_;rcases aa hF with⟨h16,hF⟩|⟨h16,hF⟩;refine wz ?_;cases hF;exact ae () [0,3,2,1];refine wz ?_;rcases aa hF with⟨h17,hF⟩|⟨h17,hF⟩;refine wz ?_;cases hF;exact ae () [0,3,2,1];refine wz ?_;rcases aa hF with⟨h18,hF⟩|⟨h18,hF⟩;refine wz ?_;cases hF;exact ae () [0,3,2,1];refine wz ?_;cases hF;exact ae () [0,3,2,1];rintro⟨⟩;refine XX ?_;rcases aa hF with⟨h19,hF⟩|⟨h19,hF⟩;refine az ?_;cases hF;exact ar () [];refine az ?_;obtain⟨v2,h20,hF⟩:=J hF;refine wq (fun v2 (_:YC)=>(.int .i64 v2,(ig b0 a0 l2 c1 a1 l1 c0 e0 al r0 []))) v2 (fun m hm=>?_) ?_;clear hF;revert v2;intro r hF;refine aS (N:=19) (rs:=[.tmp 4]) rfl Try.func59 rfl rfl rfl hm ?_;refine az ?_;refine XV ?_;obtain⟨r1,h3,hF⟩:=J hF;refine ct (fun(r:Int⊕YC) (g:YC)=>match r,g with|.inl v14,_=>⟨.ret,[(4,bu v14)],(ig b0 a0 l2 c1 a1 l1 c0 e0 al r0 [])⟩|.inr _,_=>⟨(.exit 0),[],(ig b0 a0 l2 c1 a1 l1 c0 e0 al r0 [])⟩) r1 ?_ ?_
 refine lo h3 () [1,0,2,3] (fun v15 _=>⟨.normal,((1,.func (.func 30) #[] #[])::BI a0 l2 c1 v15 []),[tL a0 c1 l2,Gv b0 a0 l2 c1 a1 l1 c0,Fx a1 c0 l1 e0,gQ al r0 l1 e0]⟩) ?_;clear hF h3;rintro v15 ⟨⟩ r hF;unfold BA at hF;refine wz ?_;refine XS ?_;rcases aa hF with⟨h21,hF⟩|⟨h21,hF⟩;refine az ?_;obtain⟨h22,hF⟩:=du hF;refine X4 (k:=0) rfl (aW h22) ?_;rintro b9 o11 rfl;refine wz ?_;obtain⟨⟨x10,x11⟩,h79,hF⟩:=J hF;refine wz ?_;refine wa z26 fun b10=>?_;refine az ?_;obtain⟨r13,h23,hF⟩:=J hF;refine wc gn (fun m hm=>Kz h23 m) ?_;rintro⟨⟩;refine wz ?_;rcases aa hF with⟨h24,hF⟩|⟨h24,hF⟩;refine az ?_;cases hF;exact ae () [3,2,4,5];refine az ?_;cases hF;exact ae () [2,3,4,5];refine wz ?_;cases hF;exact ae () [1,0,2,3];rcases r1 with v14|_;rintro⟨⟩;refine wz ?_;obtain rfl:=U9 hF;exact ar () [0,1,2,3];rintro⟨⟩;refine ja ?_;cases hF;exact ar () [0,1,2,3];rintro⟨⟩;refine az ?_;rcases aa hF with⟨h25,hF⟩|⟨h25,hF⟩;refine az ?_;cases hF;exact ar () [];refine az ?_;refine X1 Hc gn rfl fun b5=>?_;refine az ?_;refine XV ?_;obtain⟨r3,h4,hF⟩:=J hF;refine ct (fun(r:Int⊕YC) (g:YC)=>match r,g with|.inl v16,_=>⟨.ret,[(2,.int .i64 3),(3,bu v16)],[]⟩|.inr _,_=>⟨(.exit 0),[(1,ptr b0 0)],(ig b0 a0 l2 c1 a1 l1 c0 e0 al r0 [])⟩) r3 ?_ ?_
 refine lo h4 () [1,2,3,4,0] (fun(l6,v17) _=>⟨.normal,[(1,ptr b0 0),(6,.map (some b5)),(42,bQ a0 l2 c1),(43,eD l2),(44,bu v17)],(ig b0 a0 l2 c1 a1 l1 c0 e0 al r0 [.obj b5 (.map (l6.map (eM (fun p:Int×Int=>.agg #[.int .i64 p.1,.int .i64 p.2]) (fun b:Bool=>.bool b))))])⟩) ?_;clear hF h4;rintro⟨l6,v17⟩ ⟨⟩ r hF;unfold s5 at hF;refine wz ?_;refine XS ?_;rcases aa hF with⟨h26,hF⟩|⟨h26,hF⟩;refine az ?_;obtain⟨h27,hF⟩:=du hF;refine X4 (k:=1) rfl (aW h27) ?_;rintro b11 o12 rfl;refine wz ?_;obtain⟨⟨x3,x4⟩,h80,hF⟩:=J hF;refine wz ?_;refine wa z26 fun b12=>?_;refine az ?_;obtain⟨y0,h28,hF⟩:=J hF;refine XR (NO (q:=6) (xs:=l6) (k:=(x3,x4)) (vE:=(fun b:Bool=>.bool b)) (z0:=false) JG (Jk DX) z4 rfl rfl rfl rfl h28) rfl ?_;refine wz ?_;rcases aa hF with⟨h29,hF⟩|⟨h29,hF⟩;refine az ?_;cases hF;exact ae () [];refine az ?_;refine X8 (FH (q:=6) (xs:=l6) (k:=(x3,x4)) (v:=true) (vE:=(fun b:Bool=>.bool b)) JG (Jk DX) rfl rfl rfl rfl) ?_;refine az ?_;cases hF;exact ae () (Yk 2 5);refine wz ?_;cases hF;exact ae () [0,1,2,3];rcases r3 with v16|_;rintro⟨⟩;refine wz ?_;cases hF;exact ar () [];rintro⟨⟩;refine az ?_;refine wa z116 fun b1=>?_;refine az ?_;refine XR (kX rfl rfl) rfl ?_;obtain⟨v3,h30,hF⟩:=J hF;refine wq (fun v3 (_:YC)=>(.int .i64 v3,(ig b0 a0 l2 c1 a1 l1 c0 e0 al r0 [.obj b1 (.cells [.func (.func 60) #[] #[]] .own)]))) v3 (fun m hm=>?_) ?_;clear hF;revert v3;intro r hF;refine aS (N:=19) (rs:=[.tmp 4]) rfl Try.func31 rfl rfl rfl hm ?_;refine az ?_;refine XV ?_;obtain⟨r4,h5,hF⟩:=J hF;refine ct (fun(r:Int⊕YC) (g:YC)=>match r,g with|.inl v18,_=>⟨.ret,[(4,bu v18)],(ig b0 a0 l2 c1 a1 l1 c0 e0 al r0 [.obj b1 (.cells [.func (.func 60) #[] #[]] .own)])⟩|.inr _,_=>⟨(.exit 0),[],(ig b0 a0 l2 c1 a1 l1 c0 e0 al r0 [.obj b1 (.cells [.func (.func 60) #[] #[]] .own)])⟩) r4 ?_ ?_
 refine lo h5 () [0,1,2,3,4] (fun v19 _=>⟨.normal,((1,.func (.func 61) #[] #[ptr b1 0,ptr b0 0])::BI a1 l1 c0 v19 []),(.obj b1 (.cells [.func (.func 60) #[] #[]] .own)::ig b0 a0 l2 c1 a1 l1 c0 e0 al r0 [])⟩) ?_;clear hF h5;rintro v19 ⟨⟩ r hF;unfold BP at hF;refine wz ?_;refine XS ?_;rcases aa hF with⟨h31,hF⟩|⟨h31,hF⟩;refine az ?_;obtain⟨h32,hF⟩:=du hF;refine X4 (k:=3) rfl (aW h32) ?_;rintro b2 o5 rfl;refine wz ?_;obtain⟨⟨l9,l10⟩,h33,hF⟩:=J hF;refine wl 2 0 5 0 h33 ?_;rintro⟨⟨a5,c5⟩,⟨a6,c6,e5⟩⟩;refine wa z54 fun b13=>?_;refine az ?_;obtain⟨v4,h34,hF⟩:=J hF;refine wq (fun v4 (_:YC)=>(.bool v4,(ic b0 a0 l2 c1 b2 o5 l1 c0 e0 al r0 [.obj b1 (.cells [.func (.func 60) #[] #[]] .own)]))) v4 (fun m hm=>?_) ?_;clear hF;revert v4;intro r hF;refine aS (N:=15) (rs:=[.tmp 4]) rfl Try.func61 rfl rfl rfl hm ?_;refine wz ?_;refine wb fun b14=>?_;refine az ?_;rcases aa hF with⟨h6,hF⟩|⟨h6,hF⟩;refine az ?_;cases hF;exact ar () [7,8,5,10,9,6];refine wz ?_;refine X3 (kX rfl rfl) (gg rfl rfl (tD h6)) rfl ?_;obtain⟨v0,h35,hF⟩:=J hF;refine X1 (nq (α:=YC) (V:=fun g=>(fun(r:Bool) (g:YC)=>match r,g with|v0,_=>(.bool v0:XI)) v0 g) (N:=fun g=>(fun(r:Bool) (g:YC)=>match r,g with|v0,_=>((ic b0 a0 l2 c1 b2 o5 l1 c0 e0 al r0 [.obj b1 (.cells [.func (.func 60) #[] #[]] .own)]):YB Pc)) v0 g) rfl rfl (fun m hm=>?_)) (gg rfl rfl (tD h6)) rfl ?_
 clear hF;revert v0;intro r hF;refine aS (N:=20) (rs:=[.tmp 4]) rfl Try.func60 rfl rfl rfl hm ?_;refine wz ?_;refine wb fun b15=>?_;refine az ?_;obtain⟨l3,h36,hF⟩:=J hF;refine Hr gn (fun m hm=>kQ h36 m hm.dX (hm.q 3) (hm.no 3) (hm.q 4) (hm.no 4) (hm.dp (q:=5) rfl) (hm.iA (q:=5) rfl)) ?_;rintro⟨a2,c2,n0,e1,r5⟩;refine Yj (k:=0) (q:=1) (L:=l3) rfl (.inr (.inl ⟨_,rfl⟩)) rfl ?_;rintro rfl;refine wz ?_;refine XV ?_;obtain⟨r6,h7,hF⟩:=J hF;refine ct (fun(r:YC⊕YC) (g:YC)=>match r,g with|.inl _,_=>⟨.ret,[(4,.bool true)],(ic b0 a0 l2 c1 b2 o5 l1 c0 e0 al r0 [.obj b1 (.cells [.func (.func 60) #[] #[]] .own)])⟩|.inr _,_=>⟨(.exit 0),[],(ic b0 a0 l2 c1 b2 o5 l1 c0 e0 al r0 [.obj b1 (.cells [.func (.func 60) #[] #[]] .own)])⟩) r6 ?_ ?_
 refine lo h7 () [10,11,8,13,12,0,1,9] (fun v20 _=>⟨.normal,[(1,.func (.func 62) #[] #[ptr b0 0]),(8,bQ a2 l3 c2),(9,eD l3),(10,bu v20)],(ic b0 a0 l2 c1 b2 o5 l1 c0 e0 al r0 [km a2 c2 l3 e1,gQ bq r5 l3 e1,.obj b1 (.cells [.func (.func 60) #[] #[]] .own)])⟩) ?_;clear hF h7;rintro v20 ⟨⟩ r hF;unfold Ci at hF;refine wz ?_;refine XS ?_;rcases aa hF with⟨h37,hF⟩|⟨h37,hF⟩;refine az ?_;obtain⟨h38,hF⟩:=du hF;refine X4 (k:=5) rfl (aW h38) ?_;rintro b6 o8 rfl;refine wz ?_;obtain⟨l11,h39,hF⟩:=J hF;refine wl 1 0 7 0 h39 ?_;rintro⟨a7,c7⟩;refine az ?_;obtain⟨v5,h40,hF⟩:=J hF;refine wq (fun v5 (_:YC)=>(.bool v5,(ic b0 a0 l2 c1 b2 o5 l1 c0 e0 al r0 (.obj b1 (.cells [.func (.func 60) #[] #[]] .own)::kT b6 o8 l3 e1 bq r5 c2 [])))) v5 (fun m hm=>?_) ?_;clear hF;revert v5;intro r hF;refine aS (N:=27) (rs:=[.tmp 5]) rfl Try.func62 rfl rfl rfl hm ?_;refine wz ?_;refine XS<|Ya (prs:=[(15,17),(15,18)]) (by kernel_rfl)<|XU (aX rfl) rfl<|XU (qv (k:=0) PD rfl rfl (.inl rfl)) rfl<|XU (aL rfl rfl (iJ _ _ _)) rfl<|XU (aX rfl) rfl ?_
 rcases aa hF with⟨h1,hF⟩|⟨h1,hF⟩;refine Yd (gg rfl rfl (E9 h1)) rfl<|Yd (gg rfl rfl (E9 h1)) rfl<|Yd (gg rfl rfl (E9 h1)) rfl<|XU (Ar rfl h1 rfl) rfl<|XU (aX rfl) rfl<|Yd (gg rfl rfl rfl) rfl<|Yd (gg rfl rfl rfl) rfl<|Yd (gg rfl rfl rfl) rfl<|XU (Iw rfl rfl) rfl<|XU (aX rfl) rfl ?_;refine Yd (gg rfl rfl rfl) rfl<|Yd (gg rfl rfl rfl) rfl<|Yd (gg rfl rfl rfl) rfl<|Yd (gg rfl rfl rfl) rfl<|Yd (gg rfl rfl rfl) rfl<|Yd (gg rfl rfl rfl) rfl<|XU (Iw rfl rfl) rfl<|XU (bE rfl) rfl<|X5 (fun m hm=>dQ.all rfl) ?_;refine az ?_;cases hF;exact ar () [2,3,4,5,6,9,1,8,7];refine Yf (aX rfl) (gg rfl rfl (tD h1)) rfl<|Yf (qv (k:=0) PD rfl rfl (.inl rfl)) (gg rfl rfl (tD h1)) rfl<|Yf (aL rfl rfl (tM _ _ _)) (gg rfl rfl (tD h1)) rfl<|XU (Cb rfl h1 rfl) rfl<|XU (aX rfl) rfl ?_;rcases aa hF with⟨h2,hF⟩|⟨h2,hF⟩;refine Yd (gg rfl rfl (E9 h2)) rfl<|Yd (gg rfl rfl (E9 h2)) rfl<|Yd (gg rfl rfl (E9 h2)) rfl<|XU (Ar rfl h2 rfl) rfl<|XU (aX rfl) rfl<|Yd (gg rfl rfl rfl) rfl<|Yd (gg rfl rfl rfl) rfl<|Yd (gg rfl rfl rfl) rfl<|Yd (gg rfl rfl rfl) rfl<|Yd (gg rfl rfl rfl) rfl ?_;refine Yd (gg rfl rfl rfl) rfl<|XU (Iw rfl rfl) rfl<|XU (bE rfl) rfl<|X5 (fun m hm=>dQ.all rfl) ?_;refine az ?_;cases hF;exact ar () [2,3,4,5,6,9,1,8,7];refine Yf (aX rfl) (gg rfl rfl (tD h2)) rfl ?_;obtain⟨r14,h41,hF⟩:=J hF;refine nc (gg rfl rfl (tD h2)) (fun m hm=>Qf h41 m (hm.q 0)) ?_;rintro⟨⟩;refine Yf (aL rfl rfl (iJ _ _ _)) (gg rfl rfl (tD h2)) rfl<|XU (Cb rfl h2 rfl) rfl<|XU (aX rfl) rfl ?_;rcases aa hF with⟨h0,hF⟩|⟨h0,hF⟩;refine Yd (gg rfl rfl (E9 h0)) rfl<|Yd (gg rfl rfl (E9 h0)) rfl<|Yd (gg rfl rfl (E9 h0)) rfl<|Yd (gg rfl rfl (E9 h0)) rfl<|Yd (gg rfl rfl (E9 h0)) rfl<|Yd (gg rfl rfl (E9 h0)) rfl<|XU (Ar rfl h0 rfl) rfl<|XU (bE rfl) rfl<|X5 (fun m hm=>dQ.all rfl) ?_;refine az ?_;cases hF;exact ar () [2,3,4,5,6,9,1,8,7];refine Yf (aX rfl) (gg rfl rfl (tD h0)) rfl ?_;obtain⟨r15,h42,hF⟩:=J hF;refine nc (gg rfl rfl (tD h0)) (fun m hm=>Om h42 m (hm.q 0)) ?_;rintro⟨⟩;refine Yf (aI (r:=ptr b0 0) rfl (kW _ _)) (gg rfl rfl (tD h0)) rfl<|Yf (aJ (k:=2) wQ rfl rfl rfl) (gg rfl rfl (tD h0)) rfl<|Yf (qv (k:=3) Q7 rfl rfl (.inl rfl)) (gg rfl rfl (tD h0)) rfl<|Yf (aL rfl rfl (EV _ _ _)) (gg rfl rfl (tD h0)) rfl<|XU (Cb rfl h0 rfl) rfl<|XU (bE rfl) rfl<|X5 (fun m hm=>dQ.all rfl) ?_;refine az ?_;cases hF;exact ar () [2,3,4,5,6,9,1,8,7];rintro⟨⟩;refine wz ?_;rcases aa hF with⟨h43,hF⟩|⟨h43,hF⟩;refine az ?_;cases hF;exact ae () (Yk 0 6);refine az ?_;cases hF;exact ae () [0,1,2,3,4,8,7,5];refine wz ?_;cases hF;exact ae () [0,1,2,3,4,7];rcases r6 with _|_;rintro⟨⟩;refine wz ?_;cases hF;exact ar () (Yk 0 6);rintro⟨⟩;refine ja ?_;cases hF;exact ar () (Yk 0 6);rintro⟨⟩;refine az ?_;obtain rfl:=U9 hF;exact ar () (Yk 0 6);rintro⟨⟩;refine wz ?_;rcases aa hF with⟨h44,hF⟩|⟨h44,hF⟩;refine az ?_;cases hF;exact ae () [0,1,4,3,5];refine az ?_;cases hF;exact ae () [5,0,1,4,3];refine wz ?_;cases hF;exact ae () [1,2,3,4,0];rcases r4 with v18|_;rintro⟨⟩;refine wz ?_;obtain rfl:=U9 hF;exact ar () (Yk 0 5);rintro⟨⟩;refine ja ?_;cases hF;exact ar () (Yk 0 5);rintro⟨⟩;refine az ?_;rcases aa hF with⟨h45,hF⟩|⟨h45,hF⟩;refine az ?_;cases hF;exact ar () [];refine az ?_;refine XR (kX rfl rfl) rfl ?_;obtain⟨v6,h46,hF⟩:=J hF;refine wq (fun v6 (_:YC)=>(.int .i64 v6,(ig b0 a0 l2 c1 a1 l1 c0 e0 al r0 [.obj b1 (.cells [.func (.func 60) #[] #[]] .own)]))) v6 (fun m hm=>?_) ?_;clear hF;revert v6;intro r hF;refine aS (N:=19) (rs:=[.tmp 4]) rfl Try.func31 rfl rfl rfl hm ?_;refine az ?_;refine XV ?_;obtain⟨r7,h8,hF⟩:=J hF;refine ct (fun(r:Int⊕YC) (g:YC)=>match r,g with|.inl v21,_=>⟨.ret,[(4,bu v21)],(ig b0 a0 l2 c1 a1 l1 c0 e0 al r0 [.obj b1 (.cells [.func (.func 60) #[] #[]] .own)])⟩|.inr _,_=>⟨(.exit 0),[],(ig b0 a0 l2 c1 a1 l1 c0 e0 al r0 [.obj b1 (.cells [.func (.func 60) #[] #[]] .own)])⟩) r7 ?_ ?_
 refine lo h8 () [4,0,1,2,3] (fun v22 _=>⟨.normal,((1,.func (.func 65) #[] #[ptr b1 0,ptr b0 0])::BI a1 l1 c0 v22 []),(.obj b1 (.cells [.func (.func 60) #[] #[]] .own)::ig b0 a0 l2 c1 a1 l1 c0 e0 al r0 [])⟩) ?_;clear hF h8;rintro v22 ⟨⟩ r hF;unfold B2 at hF;refine wz ?_;refine XS ?_;rcases aa hF with⟨h47,hF⟩|⟨h47,hF⟩;refine az ?_;obtain⟨h48,hF⟩:=du hF;refine X4 (k:=3) rfl (aW h48) ?_;rintro b3 o6 rfl;refine wz ?_;obtain⟨⟨l12,l13⟩,h49,hF⟩:=J hF;refine wl 2 0 5 0 h49 ?_;rintro⟨⟨a8,c8⟩,⟨a9,c9,e6⟩⟩;refine wa z54 fun b16=>?_;refine az ?_;obtain⟨v7,h50,hF⟩:=J hF;refine wq (fun v7 (_:YC)=>(.bool v7,(ic b0 a0 l2 c1 b3 o6 l1 c0 e0 al r0 [.obj b1 (.cells [.func (.func 60) #[] #[]] .own)]))) v7 (fun m hm=>?_) ?_;clear hF;revert v7;intro r hF;refine aS (N:=9) (rs:=[.tmp 4]) rfl Try.func65 rfl rfl rfl hm ?_;refine wz ?_;refine wb fun b17=>?_;refine az ?_;refine XR (kX rfl rfl) rfl ?_;obtain⟨v8,h51,hF⟩:=J hF;refine wq (fun v8 (_:YC)=>(.bool v8,(ic b0 a0 l2 c1 b3 o6 l1 c0 e0 al r0 [.obj b1 (.cells [.func (.func 60) #[] #[]] .own)]))) v8 (fun m hm=>?_) ?_;clear hF;revert v8;intro r hF;refine aS (N:=20) (rs:=[.tmp 4]) rfl Try.func60 rfl rfl rfl hm ?_;refine wz ?_;refine wb fun b18=>?_;refine az ?_;obtain⟨l4,h52,hF⟩:=J hF;refine Hr gn (fun m hm=>kQ h52 m hm.dX (hm.q 3) (hm.no 3) (hm.q 4) (hm.no 4) (hm.dp (q:=5) rfl) (hm.iA (q:=5) rfl)) ?_;rintro⟨a3,c3,n1,e3,r8⟩;refine Yj (k:=0) (q:=1) (L:=l4) rfl (.inr (.inl ⟨_,rfl⟩)) rfl ?_;rintro rfl;refine wz ?_;refine XV ?_;obtain⟨r9,h9,hF⟩:=J hF;refine ct (fun(r:YC⊕YC) (g:YC)=>match r,g with|.inl _,_=>⟨.ret,[(4,.bool true)],(ic b0 a0 l2 c1 b3 o6 l1 c0 e0 al r0 [.obj b1 (.cells [.func (.func 60) #[] #[]] .own)])⟩|.inr _,_=>⟨(.exit 0),[],(ic b0 a0 l2 c1 b3 o6 l1 c0 e0 al r0 [.obj b1 (.cells [.func (.func 60) #[] #[]] .own)])⟩) r9 ?_ ?_
 refine lo h9 () [10,11,8,13,12,0,1,9] (fun v23 _=>⟨.normal,[(1,.func (.func 66) #[] #[ptr b0 0]),(8,bQ a3 l4 c3),(9,eD l4),(10,bu v23)],(ic b0 a0 l2 c1 b3 o6 l1 c0 e0 al r0 [km a3 c3 l4 e3,gQ bq r8 l4 e3,.obj b1 (.cells [.func (.func 60) #[] #[]] .own)])⟩) ?_;clear hF h9;rintro v23 ⟨⟩ r hF;unfold B9 at hF;refine wz ?_;refine XS ?_;rcases aa hF with⟨h53,hF⟩|⟨h53,hF⟩;refine az ?_;obtain⟨h54,hF⟩:=du hF;refine X4 (k:=5) rfl (aW h54) ?_;rintro b7 o9 rfl;refine wz ?_;obtain⟨l14,h55,hF⟩:=J hF;refine wl 1 0 7 0 h55 ?_;rintro⟨a10,c10⟩;refine az ?_;obtain⟨v9,h56,hF⟩:=J hF;refine wq (fun v9 (_:YC)=>(.bool v9,(ic b0 a0 l2 c1 b3 o6 l1 c0 e0 al r0 (.obj b1 (.cells [.func (.func 60) #[] #[]] .own)::kT b7 o9 l4 e3 bq r8 c3 [])))) v9 (fun m hm=>?_) ?_;clear hF;revert v9;intro r hF;refine aS (N:=11) (rs:=[.tmp 5]) rfl Try.func66 rfl rfl rfl hm ?_;refine az ?_;obtain⟨l7,h57,hF⟩:=J hF;refine wc gn (fun m hm=>rK h57 m (hm.q 3) (hm.q 6) (hm.dp (q:=5) rfl) (hm.q 0)) ?_;rintro⟨a11,n2⟩;refine Ye (k:=0) (xs:=l7) rfl ?_;rintro rfl;obtain⟨r16,h58,hF⟩:=J hF;refine wc gn (fun m hm=>On h58 m (hm.rd (k:=0) rfl (.sl _ _ _ _))) ?_;rintro⟨⟩;refine az ?_;cases hF;exact ar () [3,4,5,6,7,10,2,9,8];rintro⟨⟩;refine wz ?_;rcases aa hF with⟨h59,hF⟩|⟨h59,hF⟩;refine az ?_;cases hF;exact ae () (Yk 0 6);refine az ?_;cases hF;exact ae () [0,1,2,3,4,8,7,5];refine wz ?_;cases hF;exact ae () [0,1,2,3,4,7];rcases r9 with _|_;rintro⟨⟩;refine wz ?_;cases hF;exact ar () (Yk 0 6);rintro⟨⟩;refine ja ?_;cases hF;exact ar () (Yk 0 6);rintro⟨⟩;refine az ?_;obtain rfl:=U9 hF;exact ar () (Yk 0 6);rintro⟨⟩;refine wz ?_;rcases aa hF with⟨h60,hF⟩|⟨h60,hF⟩;refine az ?_;cases hF;exact ae () [0,1,4,3,5];refine az ?_;cases hF;exact ae () [5,0,1,4,3];refine wz ?_;cases hF;exact ae () [1,2,3,4,0];rcases r7 with v21|_;rintro⟨⟩;refine wz ?_;obtain rfl:=U9 hF;exact ar () (Yk 0 5);rintro⟨⟩;refine ja ?_;cases hF;exact ar () (Yk 0 5);rintro⟨⟩;refine az ?_;rcases aa hF with⟨h61,hF⟩|⟨h61,hF⟩;refine az ?_;cases hF;exact ar () [];refine az ?_;refine XR (kX rfl rfl) rfl ?_;obtain⟨v10,h62,hF⟩:=J hF;refine wq (fun v10 (_:YC)=>(.int .i64 v10,(ig b0 a0 l2 c1 a1 l1 c0 e0 al r0 []))) v10 (fun m hm=>?_) ?_;clear hF;revert v10;intro r hF;refine aS (N:=19) (rs:=[.tmp 4]) rfl Try.func31 rfl rfl rfl hm ?_;refine az ?_;refine XV ?_;obtain⟨r10,h10,hF⟩:=J hF;refine ct (fun(r:Int⊕YC) (g:YC)=>match r,g with|.inl v24,_=>⟨.ret,[(4,bu v24)],(ig b0 a0 l2 c1 a1 l1 c0 e0 al r0 [])⟩|.inr _,_=>⟨(.exit 0),[],(ig b0 a0 l2 c1 a1 l1 c0 e0 al r0 [])⟩) r10 ?_ ?_
 refine lo h10 () [4,0,1,2,3] (fun v25 _=>⟨.normal,((1,.func (.func 67) #[] #[ptr b1 0,ptr b0 0])::BI a1 l1 c0 v25 []),(.obj b1 (.cells [.func (.func 60) #[] #[]] .own)::ig b0 a0 l2 c1 a1 l1 c0 e0 al r0 [])⟩) ?_;clear hF h10;rintro v25 ⟨⟩ r hF;unfold Ce at hF;refine wz ?_;refine XS ?_;rcases aa hF with⟨h63,hF⟩|⟨h63,hF⟩;refine az ?_;obtain⟨h64,hF⟩:=du hF;refine X4 (k:=3) rfl (aW h64) ?_;rintro b4 o7 rfl;refine wz ?_;obtain⟨⟨l15,l16⟩,h65,hF⟩:=J hF;refine wl 2 0 5 0 h65 ?_;rintro⟨⟨a12,c11⟩,⟨a13,c12,e7⟩⟩;refine wa z54 fun b19=>?_;refine az ?_;obtain⟨v11,h66,hF⟩:=J hF;refine wq (fun v11 (_:YC)=>(.bool v11,(ic b0 a0 l2 c1 b4 o7 l1 c0 e0 al r0 [.obj b1 (.cells [.func (.func 60) #[] #[]] .own)]))) v11 (fun m hm=>?_) ?_;clear hF;revert v11;intro r hF;refine aS (N:=9) (rs:=[.tmp 4]) rfl Try.func67 rfl rfl rfl hm ?_;refine wz ?_;refine wb fun b20=>?_;refine az ?_;refine XR (kX rfl rfl) rfl ?_;obtain⟨v12,h67,hF⟩:=J hF;refine wq (fun v12 (_:YC)=>(.bool v12,(ic b0 a0 l2 c1 b4 o7 l1 c0 e0 al r0 [.obj b1 (.cells [.func (.func 60) #[] #[]] .own)]))) v12 (fun m hm=>?_) ?_;clear hF;revert v12;intro r hF;refine aS (N:=20) (rs:=[.tmp 4]) rfl Try.func60 rfl rfl rfl hm ?_;refine wz ?_;refine wb fun b21=>?_;refine az ?_;obtain⟨l5,h68,hF⟩:=J hF;refine Hr gn (fun m hm=>kQ h68 m hm.dX (hm.q 3) (hm.no 3) (hm.q 4) (hm.no 4) (hm.dp (q:=5) rfl) (hm.iA (q:=5) rfl)) ?_;rintro⟨a4,c4,n4,e4,r11⟩;refine Yj (k:=0) (q:=1) (L:=l5) rfl (.inr (.inl ⟨_,rfl⟩)) rfl ?_;rintro rfl;refine wz ?_;refine XV ?_;obtain⟨r12,h11,hF⟩:=J hF;refine ct (fun(r:YC⊕YC) (g:YC)=>match r,g with|.inl _,_=>⟨.ret,[(4,.bool true)],(ic b0 a0 l2 c1 b4 o7 l1 c0 e0 al r0 [.obj b1 (.cells [.func (.func 60) #[] #[]] .own)])⟩|.inr _,_=>⟨(.exit 0),[],(ic b0 a0 l2 c1 b4 o7 l1 c0 e0 al r0 [.obj b1 (.cells [.func (.func 60) #[] #[]] .own)])⟩) r12 ?_ ?_
 refine lo h11 () [10,11,8,13,12,0,1,9] (fun v26 _=>⟨.normal,[(1,.func (.func 68) #[] #[ptr b0 0]),(8,bQ a4 l5 c4),(9,eD l5),(10,bu v26)],(ic b0 a0 l2 c1 b4 o7 l1 c0 e0 al r0 [km a4 c4 l5 e4,gQ bq r11 l5 e4,.obj b1 (.cells [.func (.func 60) #[] #[]] .own)])⟩) ?_;clear hF h11;rintro v26 ⟨⟩ r hF;unfold Ck at hF;refine wz ?_;refine XS ?_;rcases aa hF with⟨h69,hF⟩|⟨h69,hF⟩;refine az ?_;obtain⟨h70,hF⟩:=du hF;refine X4 (k:=5) rfl (aW h70) ?_;rintro b8 o10 rfl;refine wz ?_;obtain⟨l17,h71,hF⟩:=J hF;refine wl 1 0 7 0 h71 ?_;rintro⟨a14,c13⟩;refine az ?_;obtain⟨v13,h72,hF⟩:=J hF;refine wq (fun v13 (_:YC)=>(.bool v13,(ic b0 a0 l2 c1 b4 o7 l1 c0 e0 al r0 (.obj b1 (.cells [.func (.func 60) #[] #[]] .own)::kT b8 o10 l5 e4 bq r11 c4 [])))) v13 (fun m hm=>?_) ?_;clear hF;revert v13;intro r hF;refine aS (N:=14) (rs:=[.tmp 5]) rfl Try.func68 rfl rfl rfl hm ?_;refine az ?_;obtain⟨l8,h73,hF⟩:=J hF;refine wc gn (fun m hm=>rK h73 m (hm.q 3) (hm.q 6) (hm.dp (q:=5) rfl) (hm.q 0)) ?_;rintro⟨a15,n5⟩;refine Ye (k:=0) (xs:=l8) rfl ?_;rintro rfl;obtain⟨r17,h74,hF⟩:=J hF;refine wc gn (fun m hm=>Ic h74 m (hm.rd (k:=0) rfl (.sl _ _ _ _))) ?_;rintro⟨⟩;refine wz ?_;refine XR (aL rfl rfl (Nb u4)) rfl ?_;refine az ?_;cases hF;exact ar () [3,4,5,6,7,10,2,9,8];rintro⟨⟩;refine wz ?_;rcases aa hF with⟨h75,hF⟩|⟨h75,hF⟩;refine az ?_;cases hF;exact ae () (Yk 0 6);refine az ?_;cases hF;exact ae () [0,1,2,3,4,8,7,5];refine wz ?_;cases hF;exact ae () [0,1,2,3,4,7];rcases r12 with _|_;rintro⟨⟩;refine wz ?_;cases hF;exact ar () (Yk 0 6);rintro⟨⟩;refine ja ?_;cases hF;exact ar () (Yk 0 6);rintro⟨⟩;refine az ?_;obtain rfl:=U9 hF;exact ar () (Yk 0 6);rintro⟨⟩;refine wz ?_;rcases aa hF with⟨h76,hF⟩|⟨h76,hF⟩;refine az ?_;cases hF;exact ae () [0,1,4,3];refine az ?_;cases hF;exact ae () [5,0,1,4,3];refine wz ?_;cases hF;exact ae () [1,2,3,4];rcases r10 with v24|_;rintro⟨⟩;refine wz ?_;obtain rfl:=U9 hF;exact ar () [0,1,2,3];rintro⟨⟩;refine ja ?_;cases hF;exact ar () [0,1,2,3];rintro⟨⟩;refine az ?_;rcases aa hF with⟨h77,hF⟩|⟨h77,hF⟩;refine az ?_;cases hF;exact ar () [];refine az ?_;obtain⟨⟨r18,r19⟩,h78,hF⟩:=J hF;refine wc gn (fun m hm=>PI h78 m (hm.q 1) (hm.q 2) (hm.dp (q:=3) rfl)) ?_;rintro⟨⟩;refine az ?_;cases hF;exact ar () []
def zb{n l1 l5 a2 c3 a6 c7}{rr8:XH}{es9:XF}{r}(hF:G5 n l1 l5=some r)(m)(h4:lF m a2 c3 l1)(h10:pC m a6 c7 l5 es9)(h11:(cE al rr8 l5 es9).P m):
 aK (Yt p q) 23 [mU a2 l1 c3 a6 l5 c7] m (Yp m (.int .i64 r)):=by
 unfold G5 at hF;refine cw Try.func23 (Hp.pG (X6 (X6 (XZ m) eL h4) (fH eL) h10) (fH (fH eL)) h11) ?_;refine wz ?_;refine wb fun b12=>?_;refine az ?_;obtain⟨⟨r14,r15⟩,h13,hF⟩:=J hF;refine wc gn (fun m hm=>JP h13 m (hm.q 3) (hm.q 2) (hm.dp (q:=1) rfl)) ?_;rintro⟨⟩;refine az ?_;rcases aa hF with⟨h16,hF⟩|⟨h16,hF⟩;refine az ?_;cases hF;exact ar () [];refine ja ?_;cases hF;exact ar () []
def HQ(n l1 b1 b2 b0){m0:Yq}: ∀(k:Nat) (x3:Int) (r0:Int),KJ n l1 k () x3=some r0->∀(rest:YB Pc) (m:Yq),Hp m0 m (.obj b1 (.cells [.map (some b2)] .own)::.obj b2 (.map (l1.map (eM (fun n:Int=>.int .i64 n) (fun n:Int=>.int .i64 n))))::.obj b0 (.cells [.func (.func 28) #[] #[ptr b1 0,ptr b0 0]] .own)::rest) ->
 aK (Yt (some nC) q) 28 [bu x3,ptr b1 0,ptr b0 0] m (fun v m'=>∃_:YC,v=.int .i64 r0/\Hp m0 m' (.obj b1 (.cells [.map (some b2)] .own)::.obj b2 (.map (l1.map (eM (fun n:Int=>.int .i64 n) (fun n:Int=>.int .i64 n))))::.obj b0 (.cells [.func (.func 28) #[] #[ptr b1 0,ptr b0 0]] .own)::rest)):=by
 intro k
 induction k with
 | zero=>intro x3 r0 hF; cases hF
 | succ k ih =>
 intro x3 r0 hF rest m hm;replace hF:CX n (KJ n l1 k) l1 () x3=_:=hF;unfold CX at hF;refine aS (N:=23) (rs:=[.tmp 4]) rfl Try.func28 rfl rfl rfl hm ?_;clear hm;refine az ?_;obtain⟨⟨y0,y1⟩,h1,hF⟩:=J hF;refine XR (Jj (q:=1) (xs:=l1) (k:=x3) (vE:=(fun n:Int=>.int .i64 n)) (z0:=(0:Int)) Qv (Mb u3) z3 rfl rfl rfl rfl h1) rfl ?_;refine wz ?_;refine XS ?_;obtain⟨v0,h2,hF⟩:=J hF;refine ct (fun v0 (_:YC)=>⟨.normal,[(0,bu x3),(2,ptr b0 0),(5,bu y0),(18,.bool v0)],(.obj b0 (.cells [.func (.func 28) #[] #[ptr b1 0,ptr b0 0]] .own)::.obj b1 (.cells [.map (some b2)] .own)::.obj b2 (.map (l1.map (eM (fun n:Int=>.int .i64 n) (fun n:Int=>.int .i64 n))))::rest)⟩) v0 ?_ ?_;clear hF;revert v0;intro r hF;refine wz ?_;rcases aa hF with⟨h3,hF⟩|⟨h3,hF⟩;refine wz ?_;cases hF;exact aT () (ai.nX 3 [2,0,1] rfl rfl rfl);refine wz ?_;cases hF;exact aT () (ai.nX 3 [2,0,1] rfl rfl rfl);rintro⟨⟩;refine XX ?_;rcases aa hF with⟨h0,hF⟩|⟨h0,hF⟩;refine X7 rfl h0<|XS<|XT<|XR (aJ (k:=0) M1 rfl rfl rfl) rfl<|XR (aX rfl) rfl ?_;obtain⟨r1,h4,hF⟩:=J hF;refine X0 (ai.nX 3 [1,2,0] rfl rfl rfl)<|X1 (nq (α:=YC) (V:=fun _=>.int .i64 r1) (N:=fun _=>(.obj b1 (.cells [.map (some b2)] .own)::.obj b2 (.map (l1.map (eM (fun n:Int=>.int .i64 n) (fun n:Int=>.int .i64 n))))::.obj b0 (.cells [.func (.func 28) #[] #[ptr b1 0,ptr b0 0]] .own)::rest)) rfl rfl (fun m hm=>ih y0 r1 h4 rest m hm)) gn rfl fun _=>?_;refine az ?_;have hr:=U9 hF;subst r0;exact X2 (.tmp rfl .nil) fun m' hm=>⟨(),rfl,(ai.nX 3 [0,1,2] rfl rfl rfl) m' hm⟩;refine ja ?_;have hr:=U9 hF;subst r0;exact X2 (.tmp rfl .nil) fun m' hm=>⟨(),rfl,(ai.nX 3 [1,2,0] rfl rfl rfl) m' hm⟩
def MJ(hE:EnvOk (Yt (some nC) q))(n:Nat)(l3:XD)(l2:XB)(a0:XG)(c0:Nat)(a1:XG)(c1:Nat)(r0:XH)(e0:XF)(r:(Int×Int×Int×Int×Int) ⊕(YB (XC)×XD))(hF:GW n l3 l2=some r)(m:Yq)(h16:lF m a0 c0 l3)(h17:pC m a1 c1 l2 e0)(h18:(cE al r0 l2 e0).P m){R:XI->Yq->Prop}(kR:∀x,r=.inl x->∀m':Yq,Hp m m' []->R (.tuple #[.int .i64 x.1,.int .i64 x.2.1,.int .i64 x.2.2.1,.int .i64 x.2.2.2.1,.int .i64 x.2.2.2.2]) m')(kN:∀x,r=.inr x->∀g:Nat×XG×Nat×Nat,Vk (Yt (some nC) q) 84 10 none (Sr 7 (oe Try.f10)) (j5 (Yt (some nC) q) [.tmp 2,.tmp 3,.tmp 4,.tmp 5,.tmp 6] R) m ((fun(r:YB (XC)×XD) (g:Nat×XG×Nat×Nat)=>match r,g with |(l7,l9),(b6,a3,b7,b8)=>([(1,ptr b6 0),(5,.int .i64 0),(8,bZ a3 l7),(9,ptr b7 0)]:Fs)) x g) ((fun(r:YB (XC)×XD) (g:Nat×XG×Nat×Nat)=>match r,g with |(l7,l9),(b6,a3,b7,b8)=>((ig b6 a0 l3 c0 a1 l2 c1 e0 al r0 [pz a3 l7,eW b7 b8,yS b8 l9]):YB Pc)) x g)) :
 Vk (Yt (some nC) q) 84 10 none (oe Try.f10) (j5 (Yt (some nC) q) [.tmp 2,.tmp 3,.tmp 4,.tmp 5,.tmp 6] R) m (pL [mU a0 l3 c0 a1 l2 c1] 0 []) [gQ al r0 l2 e0,Fx a1 c1 l2 e0,tL a0 c0 l3]:=by
 unfold GW at hF;refine Vk.seq hE<|XT<|wb fun b3=>?_;refine wz ?_;refine At.Iu<|Vk.seq hE ?_;refine wz ?_;obtain⟨r4,h4,hF⟩:=J hF;refine wc gn (fun m hm=>zb h4 m (hm.q 3) (hm.q 2) (hm.dp (q:=1) rfl)) ?_;rintro⟨⟩;refine az ?_;rcases aa hF with⟨h5,hF⟩|⟨h5,hF⟩;refine az ?_;cases hF;exact X2 (.tmp rfl (.tmp rfl (.tmp rfl (.tmp rfl (.tmp rfl .nil))))) fun m' hm=>kR _ rfl m' (ai.aq [] rfl rfl m' hm);refine wz ?_;refine At.Iu<|Vk.seq hE ?_;refine wz ?_;obtain⟨l1,h6,hF⟩:=J hF;refine wc gn (fun m hm=>Il n l3 l2 a0 c0 a1 c1 r0 e0 _ h6 m (hm.q 3) (hm.q 2) (hm.dp (q:=1) rfl)) ?_;rintro⟨a2,n0⟩;refine Ye (k:=0) (xs:=l1) rfl ?_;rintro rfl;refine wz ?_;refine At.Iu<|Vk.seq hE<|XT<|X1 Hc gn rfl fun b2=>?_;refine wa z70 fun b0=>?_;refine wz ?_;refine At.Iu<|Vk.seq hE<|XT<|wa UC fun b1=>?_;refine XW<|At.Iu<|Vk.seq hE<|XT<|XR (kX rfl rfl) rfl ?_;refine wz ?_;refine At.Iu<|Vk.seq hE ?_;refine wz ?_;refine XV ?_;obtain⟨l8,h1,hF⟩:=J hF;refine ct (fun l8 (_:YC)=>⟨(.exit 0),[(1,ptr b3 0),(5,.int .i64 0),(8,bZ a2 l1),(9,ptr b0 0)],(ig b3 a0 l3 c0 a1 l2 c1 e0 al r0 [pz a2 l1,eW b0 b2,yS b2 l8])⟩) l8 ?_ ?_;refine lo h1 () [4,7,6,5,3,1,2,0] (fun(l10,v0) _=>⟨.normal,[(1,ptr b3 0),(5,.int .i64 0),(8,bZ a2 l1),(9,ptr b0 0),(10,ptr b1 0),(28,bZ a2 l1),(29,eD l1),(30,bu v0)],(ig b3 a0 l3 c0 a1 l2 c1 e0 al r0 [pz a2 l1,eW b0 b2,yS b2 l10,.obj b1 (.cells [.func (.func 28) #[] #[ptr b0 0,ptr b1 0]] .own)])⟩) ?_;clear hF h1;rintro⟨l10,v0⟩ ⟨⟩ r hF;unfold xP at hF;refine wz ?_;refine XS ?_;rcases aa hF with⟨h7,hF⟩|⟨h7,hF⟩;refine az ?_;obtain⟨h8,hF⟩:=du hF;refine Yg (k:=4) rfl (aW h8) ?_;rintro b4 t0 rfl h19;refine wz ?_;obtain⟨⟨x3,x4,x10,x11⟩,h20,hF⟩:=J hF;refine wz ?_;refine wa z44 fun b5=>?_;refine az ?_;refine XR (cR rfl UI rfl (cQ TL rfl rfl rfl)) rfl ?_;refine wz ?_;refine XV ?_;obtain⟨l4,h2,hF⟩:=J hF;refine ct (fun l4 (_:YC)=>⟨(.exit 2),[(1,ptr b3 0),(5,.int .i64 0),(8,yw b4 l1),(9,ptr b0 0),(10,ptr b1 0),(12,ptr b5 0),(28,yw b4 l1),(29,eD l1),(30,bu v0)],(ig b3 a0 l3 c0 a1 l2 c1 e0 al r0 [y7 b4 l1 t0,eW b0 b2,yS b2 l4,.obj b1 (.cells [.func (.func 28) #[] #[ptr b0 0,ptr b1 0]] .own),gN b5 x3 x4 x10 x11])⟩) l4 ?_ ?_;refine lo h2 () [1,2,3,4,5,6,7,8,0] (fun(l5,v1) _=>⟨.normal,[(1,ptr b3 0),(5,.int .i64 0),(8,yw b4 l1),(9,ptr b0 0),(10,ptr b1 0),(12,ptr b5 0),(28,yw b4 l1),(29,eD l1),(30,bu v0),(38,nK x3 x4),(39,bu v1)],(ig b3 a0 l3 c0 a1 l2 c1 e0 al r0 [y7 b4 l1 t0,eW b0 b2,yS b2 l5,.obj b1 (.cells [.func (.func 28) #[] #[ptr b0 0,ptr b1 0]] .own),gN b5 x3 x4 x10 x11])⟩) ?_;clear hF h2;rintro⟨l5,v1⟩ ⟨⟩ r hF;unfold pH at hF;refine wz ?_;refine XS ?_;rcases aa hF with⟨h9,hF⟩|⟨h9,hF⟩;refine wz ?_;refine XS ?_;obtain⟨l6,h10,hF⟩:=J hF;refine ct (fun l6 (_:YC)=>⟨.normal,[(1,ptr b3 0),(5,.int .i64 0),(8,yw b4 l1),(9,ptr b0 0),(10,ptr b1 0),(12,ptr b5 0),(28,yw b4 l1),(29,eD l1),(30,bu v0),(38,nK x3 x4),(39,bu v1)],(ig b3 a0 l3 c0 a1 l2 c1 e0 al r0 [y7 b4 l1 t0,eW b0 b2,yS b2 l6,.obj b1 (.cells [.func (.func 28) #[] #[ptr b0 0,ptr b1 0]] .own),gN b5 x3 x4 x10 x11])⟩) l6 ?_ ?_;clear hF;revert l6;intro r hF;refine wz ?_;obtain⟨h11,hF⟩:=aD hF;obtain⟨x12,h0,hF⟩:=J hF;refine X1 (Hz (α:=YC) (V:=fun g=>match g with|_=>.int .i64 x12) (N:=fun g=>match g with|_=>[]++(ig b3 a0 l3 c0 a1 l2 c1 e0 al r0 [y7 b4 l1 t0,eW b0 b2,yS b2 l5,.obj b1 (.cells [.func (.func 28) #[] #[ptr b0 0,ptr b1 0]] .own),gN b5 x3 x4 x10 x11])) rfl rfl (fun m hm=>?_)) gn rfl ?_
 have hj:=qS h11;obtain⟨j,h3⟩:∃j:Nat,(v1:Int)=j:=⟨_,(Ws hj.1).symm⟩;rw[h3] at h0 hj ⊢;rw[VH] at h0 hj;replace hj:=hj.2;clear hF h3
 match j,hj,h0 with
 | 0,_,h0=>cases h0; exact⟨(),zi Qi (i:=0) (by decide) (CF cK rfl),hm⟩
 | 1,_,h0=>cases h0; exact⟨(),zi Qi (i:=1) (by decide) (CF cK rfl),hm⟩
 | _+2,hj,_=>exact Vr hj (by omega)
 rintro⟨⟩;refine az ?_;obtain⟨⟨y0,y1⟩,h12,hF⟩:=J hF;refine XR (Jj (q:=6) (xs:=l5) (k:=x12) (vE:=(fun n:Int=>.int .i64 n)) (z0:=(0:Int)) Qv (Mb u3) z3 rfl rfl rfl rfl h12) rfl ?_;refine az ?_;rcases aa hF with⟨h13,hF⟩|⟨h13,hF⟩;refine wz ?_;refine X8 (FH (q:=6) (xs:=l5) (k:=x12) (v:=x12) (vE:=(fun n:Int=>.int .i64 n)) Qv (Mb u3) rfl rfl rfl rfl) ?_;refine wz ?_;cases hF;exact ae () (Yk 0 9);refine wz ?_;obtain rfl:=U9 hF;exact ae () (Yk 0 9);rintro⟨⟩;refine az ?_;cases hF;exact ae () (Yk 0 9);refine wz ?_;cases hF;exact ae () (Yk 0 9);rintro⟨⟩;refine wz ?_;refine Ya (prs:=[(0,4),(4,5),(4,7),(0,8)]) (by kernel_rfl)<|Wn.yX rfl (aJ (k:=5) LN rfl rfl rfl) rfl<|XU (aJ (k:=7) M1 rfl rfl rfl) rfl<|XU (aI (r:=ptr b5 0) rfl (JC _ _)) rfl<|XU (aJ (k:=8) cK rfl rfl rfl) rfl ?_
 obtain⟨r1,h14,hF⟩:=J hF;refine Yh (ai.aq [5,6,7,0,1,2,3,4,8] rfl rfl) ?_;refine Wn.xk (l:=[b0,b1,b5]) (nq (α:=YC) (V:=fun _=>.int .i64 r1) (N:=fun _=>(eW b0 b2::yS b2 l4::.obj b1 (.cells [.func (.func 28) #[] #[ptr b0 0,ptr b1 0]] .own)::ig b3 a0 l3 c0 a1 l2 c1 e0 al r0 [y7 b4 l1 t0,gN b5 x3 x4 x10 x11])) rfl rfl (fun m hm=>HQ n l4 b0 b2 b1 n x3 r1 h14 ((ig b3 a0 l3 c0 a1 l2 c1 e0 al r0 [y7 b4 l1 t0,gN b5 x3 x4 x10 x11])) m hm)) ⟨⟨_,0,rfl,rfl,fun _=>⟨0,rfl⟩⟩,⟨⟨_,2,rfl,rfl,fun _=>⟨2,rfl⟩⟩,⟨⟨_,8,rfl,rfl,fun _=>⟨8,rfl⟩⟩,trivial⟩⟩⟩ gn rfl fun _=>?_;refine Wn.yX rfl (aJ (k:=2) M1 rfl rfl rfl) rfl<|XU (aI (r:=ptr b5 1) rfl (I7 _ _)) rfl<|Wn.yX rfl (aJ (k:=8) cK rfl rfl rfl) rfl ?_;obtain⟨r3,h15,hF⟩:=J hF;refine Yh (ai.aq [0,1,2,3,4,5,6,7,8] rfl rfl) ?_;refine Wn.xk (l:=[b0]) (nq (α:=YC) (V:=fun _=>.int .i64 r3) (N:=fun _=>(eW b0 b2::yS b2 l4::.obj b1 (.cells [.func (.func 28) #[] #[ptr b0 0,ptr b1 0]] .own)::ig b3 a0 l3 c0 a1 l2 c1 e0 al r0 [y7 b4 l1 t0,gN b5 x3 x4 x10 x11])) rfl rfl (fun m hm=>HQ n l4 b0 b2 b1 n x4 r3 h15 ((ig b3 a0 l3 c0 a1 l2 c1 e0 al r0 [y7 b4 l1 t0,gN b5 x3 x4 x10 x11])) m hm)) ⟨⟨_,0,rfl,rfl,fun _=>⟨0,rfl⟩⟩,trivial⟩ gn rfl fun _=>?_;refine Wn.o0 (FH (q:=1) (xs:=l4) (k:=r1) (v:=r3) (vE:=(fun n:Int=>.int .i64 n)) Qv (Mb u3) rfl rfl rfl rfl) ?_;refine X5 (fun m hm=>(by(first|refine dQ.rk rfl rfl rfl (by simp) ?_|refine dQ.step rfl ?_); exact(by(first|refine dQ.kr rfl rfl rfl (by simp) ?_|refine dQ.step rfl ?_); exact(by(first|refine dQ.kr rfl rfl rfl (by simp) ?_|refine dQ.step rfl ?_); exact(by(first|refine dQ.rk rfl rfl rfl (by simp) ?_|refine dQ.step rfl ?_); exact dQ.nil))))) ?_
 refine az ?_;cases hF;exact aT () (ai.trans (ai.close (k:=7) rfl) (ai.aq [3,4,5,6,7,0,1,2] rfl rfl));refine wz ?_;cases hF;exact ae () (Yk 0 7);rintro⟨⟩;refine Yi<|At.Iu ?_;cases hF;exact Vk.H4 (sc rfl (sc rfl (sc rfl (sc rfl sn)))) (ai.aq [0,1,2,3,4,5,6] rfl rfl) (kN _ rfl (b3,a2,b0,b2))
end
section
open Go Go.Ab Go.Ab.W
set_option maxRecDepth 10000
attribute [local irreducible] Tm.at Trie.set Trie.get Yq.get Yq.set Yq.alloc Yq.ww Yq.kill
def j7(r:XD)(S:YB Nat):Int:=((S.filterMap fun i=>r[i]?).countP (fun p=>decide (p.1=p.2)):Nat)
def vu{r:XD}{S:YB Nat}{i:Nat}{e:Int×Int}(h:r[i]? = some e):j7 r (S++[i])=j7 r S+if e.1=e.2 then 1 else 0:=by
 unfold j7;rw[List.filterMap_append,List.countP_append];simp[h,List.countP_cons]
 split<;>rfl
def JY{r:XD}{S:YB Nat}:0<=j7 r S/\j7 r S<=S.length:=by
 unfold j7;have h1:=List.countP_le_length (p:=fun p:Int×Int=>decide (p.1=p.2)) (l:=S.filterMap fun i=>r[i]?);have h2:=List.length_filterMap_le (fun i=>r[i]?) S;omega
def Am(r:XD):j7 r (List.range r.length)=fa r:=by
 unfold j7 fa;have:∀(r:XD),(List.range r.length).filterMap (fun i=>r[i]?)=r:=by
  intro r
  induction r with
  | nil=>rfl
  | cons x r ih =>
   rw[VF,List.range_succ_eq_map,List.filterMap_cons];simp only[VB,List.filterMap_map]
   congr 1
 rw[this]
def C5{r:XD}{S:YB Nat}(h:S.Perm (List.range r.length)):j7 r S=fa r:=by
 rw[<-Am];unfold j7;rw[(h.filterMap _).countP_eq]
def Ij{x:Int}(h1:0<=x)(h2:x<=1073741825):XN x=x:=by
 simp only[IntKind.wrap,IntKind.bits,IntKind.signed]
 show(if(true&&decide (x%18446744073709551616≥9223372036854775808))=true then x%18446744073709551616-18446744073709551616 else x%18446744073709551616)=x
 simp only[WH,Vm]
 split<;>omega
abbrev Hv:Int×Int->XI×XI:=eM (fun n:Int=>.int .i64 n) (fun n:Int=>.int .i64 n)
abbrev MX(x:Int×Int×Int×Int×Int):XI:=.tuple #[.int .i64 x.1,.int .i64 x.2.1,.int .i64 x.2.2.1,.int .i64 x.2.2.2.1,.int .i64 x.2.2.2.2]
set_option maxHeartbeats 4000000
def O3{m:Yq}{l1:XD}{l5:XB}{a2:XG}{c3:Nat}{a6:XG}{c7:Nat}{rr8:XH}{es9:XF}{l:YB dm}{r:XD}{b:Nat}{a:XG}{b2 b3:Nat}(hlim:lim r.length=true){R:XI->Yq->Prop}
  (hR:∀m':Yq,Hp m m' []->R (MX (r.length,l.length,l5.length,fa r,0)) m') :
  Vk (Yt (some nC) none) 84 10 none (Sr 7 (oe Try.f10)) (j5 (Yt (some nC) none) [.tmp 2,.tmp 3,.tmp 4,.tmp 5,.tmp 6] R) m [(1,ptr b 0),(5,.int .i64 0),(8,.slice a l.length l.length),(9,ptr b2 0)]
   [.obj b (.cells [.slice a2 l1.length c3,.slice a6 l5.length c7] .own),.rd a2 c3 2 l1.length (l1.map (eP (eI .i64) (eI .i64))),.rd a6 c7 2 l5.length es9,.gen (cE al rr8 l5 es9),.sl a 4 l.length (l.map (eP (eI .i64) (eP (eI .i64) (eP (eI .i64) (eI .i64))))),.obj b2 (.cells [.map (some b3)] .own),.obj b3 (.map (r.map Hv))]:=by
 refine Vk.mapRange (E:=Yt (some nC) none) qW (fun h=>h) (γ:=YC) (kt:=3) (et:=3) ⟨rfl,rfl⟩ ⟨rfl,rfl,rfl⟩ Qv ⟨rfl,rfl,rfl⟩ ⟨rfl,rfl,rfl⟩ ⟨rfl,rfl,rfl⟩ rfl (by decide) (by decide) (bm:=b3) (k:=6) (es:=r.map Hv)
  (fun t m' hf hm=>AD (k:=5) LN rfl rfl rfl hf hm) rfl
  (fun bi S _=>([(1,ptr b 0),(5,.int .i64 (j7 r S)),(8,.slice a l.length l.length),(9,ptr b2 0),(65,ptr bi 0)],[]))
  (fun bi S g=>rfl) (fun bi S g p hp=>by cases hp) (fun _=>()) (fun bi=>⟨sc rfl (sc rfl (sc rfl (sc rfl (sc rfl sn)))),fun m1=>ai.aq [] rfl rfl⟩) ?_ ?_
 intro bi m1 S i e a' hS hSl hi he;rw[Vf] at hSl;rw[VQ] at he;obtain⟨e,he0,rfl⟩:=W1.1 he;clear he;have hn:S.length<=r.length:=by
  simpa using hS.length_le_of_subset (fun x hx=>Vy.2 (hSl x hx):S⊆List.range r.length)
 have hc:=JY (r:=r) (S:=S);have hll:=qx hlim;refine XR (LU rfl rfl) rfl ?_;refine XR (LU rfl rfl) rfl ?_;refine XR (bE rfl) rfl ?_;refine XR (bE rfl) rfl ?_;refine XW (Q:=fun _=>_) ?_
 show Wk (Yt (some nC) none) 84 10 none _ _ m1 _ _
 refine XS ?_;refine XT ?_;refine XR (aX rfl) rfl ?_;refine XR (aX rfl) rfl ?_;refine XR (aL rfl rfl (jv _ _ _)) rfl ?_;refine XW ?_;refine XX ?_
 by_cases hk:e.1=e.2
 refine X7 rfl (Vc hk) ?_;refine XT ?_;refine XR (aX rfl) rfl ?_;refine XR (aL rfl rfl (bD _ _ _)) rfl ?_;refine XR (bE rfl) rfl ?_;refine XW (Q:=fun _=>_) ?_;intro t' m' hf hm;refine⟨rfl,(),?_,hm⟩;have e1:XN (j7 r S+1)=j7 r (S++[i]):=by rw[vu he0,U5 hk,Ij (by omega) (by omega)]
 rw[<-e1];exact hf.sub (sc rfl (sc rfl (sc rfl (sc rfl (sc rfl sn)))))
 refine Yc rfl (Vj hk) ?_;refine X9 ?_;intro t' m' hf hm;refine⟨rfl,(),?_,hm⟩;have e1:j7 r S=j7 r (S++[i]):=by rw[vu he0,U3 hk,Int.add_zero]
 rw[<-e1];exact hf.sub (sc rfl (sc rfl (sc rfl (sc rfl (sc rfl sn)))))
 intro bi S a' hS;rw[Vf] at hS;have hp:=C5 hS;refine Vk.of qW ?_;refine XS ?_;refine Wk.draw (by kernel_rfl) ?_
 refine XR (aJ (k:=5) LN rfl rfl rfl) rfl ?_;refine XR (Dk (q:=6) (xs:=r) (f:=Hv) Qv rfl rfl rfl) rfl ?_;refine XR (aX rfl) rfl ?_;refine XR (qv (k:=4) TK rfl rfl (.inl rfl)) rfl ?_;refine XR (aI (r:=ptr b 1) rfl (fF _ _)) rfl ?_;refine XR (aJ (k:=0) nu rfl rfl rfl) rfl ?_;refine XR (qv (k:=2) u32 rfl rfl (.inl rfl)) rfl ?_;refine XR (aX rfl) rfl ?_;refine XR (bE rfl) rfl ?_;refine XR (bE rfl) rfl ?_;refine XR (bE rfl) rfl ?_;refine XR (bE rfl) rfl ?_;refine XR (bE rfl) rfl ?_;refine XW ?_;refine XX ?_;refine Yb ?_;refine X2 (.tmp rfl (.tmp rfl (.tmp rfl (.tmp rfl (.tmp rfl .nil))))) fun m' hm=>?_;have:=hR m' ((ai.aq [] rfl rfl) m' hm);rw[<-hp] at this;exact this
open Classical in
noncomputable def nP (args:YB XI) (m:Yq):YA (XI×Yq) :=
 match args with
 | [v]=>if h:∃r,∃x:Cx,sG m v x/\DV 0 x.1 x.2=some r then some (MX (Classical.choose h),m) else none
 | _=>none
noncomputable def Gp:Prim:=⟨nP⟩
open Classical in
def wP{m m':Yq}{v r:XI}(h:nP [v] m=some (r,m')):∃x:Cx,∃y,sG m v x/\DV 0 x.1 x.2=some y/\MX y=r/\m=m':=by
 change dite _ _ _=_ at h
 by_cases hx:∃r,∃x:Cx,sG m v x/\DV 0 x.1 x.2=some r
 rw[dif_pos hx] at h;obtain⟨x,h1,h2⟩:=Wi hx;have h3:=U9 h;exact⟨x,_,h1,h2,(Prod.ext_iff.1 h3).1,(Prod.ext_iff.1 h3).2⟩
 rw[dif_neg hx] at h; cases h
open Classical in
def A2{m:Yq}{v:XI}{x:Cx}{r:Int×Int×Int×Int×Int}(h:sG m v x)(hF:DV 0 x.1 x.2=some r):nP [v] m=some (MX r,m):=by
 have hx:∃r,∃x:Cx,sG m v x/\DV 0 x.1 x.2=some r:=⟨r,x,h,hF⟩
 change dite _ _ _=_
 rw[dif_pos hx];obtain⟨y,h1,h2⟩:=Wi hx;have e1:=h1.uniq h;subst e1;rw[hF] at h2;rw[<-U9 h2]
def zX{args:YB XI}{m m':Yq}{v:XI}(h:nP args m=some (v,m'))(pr:Bool){j:aR}{w:XM}{args':YB XI}(hm:MR (Yt (some nC) none) j m w)(hl:LR j args args') :
  iy (Yt (some nC) none).P pr 10 args'.toArray w (jR (Yt (some nC) none) j m w v m'):=by
 have ha:∃v,args=[v]:=by
  unfold nP at h
  split at h
  exact⟨_,rfl⟩
  cases h
 obtain⟨va,rfl⟩:=ha;obtain⟨⟨l1,l5⟩,y,⟨a,c,a',c',R,es,rfl,h1,h2,h3⟩,hF,rfl,rfl⟩:=wP h;simp only at h1 h2 h3 hF;unfold DV at hF;obtain⟨s,hFA,hF⟩:=J hF;have hh1:Rd { m with wl:=m.next} a c 2 l1.length (l1.map zt):=D4 h1
 have hh2:Rd { m with wl:=m.next} a' c' 2 l5.length es:=D4 h2
 have hh3:(cE al R l5 es).P { m with wl:=m.next}:=Np h3
 refine sI (AB (E:=Yt (some nC) none) (c:=oe Try.f10) (m0:={ m with wl:=m.next}) (m:={ m with wl:=m.next}) (N:=84) (rs:=[.tmp 2,.tmp 3,.tmp 4,.tmp 5,.tmp 6]) (ps:=[.gen (cE al R l5 es),.rd a' c' 2 l5.length es,.rd a c 2 l1.length (l1.map zt)]) qW Try.func10 rfl rfl rfl ((((XZ _).dc eL hh1).dc (fH eL) hh2).pG (fH (fH eL)) hh3) ?_) pr hm hl
 have hn0:({ m with wl:=m.next}:Yq).next=m.next:=rfl
 have hg:∀m1:Yq,Hp { m with wl:=m.next} m1 []->Grown m m1:=fun m1 hm1=>⟨hm1.ext.next,fun b hb=>(hm1.ext.same b hb).trans Ik,by have:=hm1.ext.wl; rw[hn0] at this; exact VK (Xr (Nat.min_self _).symm) this⟩
 refine MJ qW 100000 l1 l5 a c a' c' R es s hFA _ hh1 hh2 hh3 (fun x hx m1 hm1=>?_) fun x hx g=>?_
 subst hx;cases hF;exact⟨hg m1 hm1,.inl ⟨rfl,rfl,rfl⟩⟩
 subst hx;obtain⟨l,r⟩:=x;obtain⟨hc,hF⟩:=aD hF;cases hF;exact O3 hc fun m1 hm1=>⟨hg m1 hm1,.inl ⟨rfl,rfl,rfl⟩⟩
def My:EnvOk (Yt (some nC) (some Gp)):=vW (E:=Yt (some nC) none) qW (pr:=(Yt (some nC) (some Gp)).cZ) fun f P hp=>by
 by_cases e:f=24
 subst e; exact .inl hp
 by_cases e':f=10
 subst e';have hp':some Gp=some P:=hp;cases hp';exact .inr fun args m v m' h j w args' hm hl=>zX h _ hm hl
 refine .inl ?_;have:(Yt (some nC) (some Gp)).cZ f=(Yt (some nC) none).cZ f:=by
  show(if f=24 then _ else if f=10 then _ else _)=(if f=24 then _ else if f=10 then _ else _)
  rw[U3 e,U3 e',U3 e,U3 e']
 rw[<-this]; exact hp
def Cw(n:Nat)(l1:XD)(l5:XB)(a2:XG)(c3:Nat)(a6:XG)(c7:Nat)(rr8:XH)(es9:XF)(r:Int×Int×Int×Int×Int)(hF:DV n l1 l5=some r)(m:Yq)(h4:Rd m a2 c3 2 l1.length (l1.map zt))(h10:Rd m a6 c7 2 l5.length es9)(h11:(cE al rr8 l5 es9).P m) :
  aK (Yt (some nC) (some Gp)) 10 [.agg #[.slice a2 l1.length c3,.slice a6 l5.length c7]] m (Yp m (.tuple #[.int .i64 r.1,.int .i64 r.2.1,.int .i64 r.2.2.1,.int .i64 r.2.2.2.1,.int .i64 r.2.2.2.2])) :=
 aK.cZ (p:=Gp) rfl (A2 (x:=(l1,l5)) ⟨a2,c3,a6,c7,rr8,es9,rfl,h4,h10,h11⟩ hF) ⟨(),rfl,XZ m⟩
end
section
set_option maxRecDepth 100000
open Go Go.ChangeShapes Go.WideShapes Go.ChangeAt Go.WideMaps Go.WideElems Go.RowKit Go.Ab Go.Ab.W
def R8:laidOutB Try.prog=true:=by kernel_rfl
def LL:mapsRowed Try.prog=true:=by kernel_rfl
def LC:sizedB Try.prog=true:=by kernel_rfl
def FU{H:Type}{enc:XJ×XI->H}{f:YI}{fn:Func}{s:ChangeSpec}{W:XM}{args:YD XI}{ds:YB (DataW H)}{before:YB MemPlace}{tb:XJ}{fresh handsOn:Bool}{absArgs:YB XI}(hpr:(Yt (some nC) (some Gp)).cZ f=none)
  (hvars:s.vars=[]) (hres:fn.resultTypes.toList=[tb]) (hrs:fn.resultTypes.size=1) (htb:Try.prog.underlying tb=some .bool) (hpt:∀t∈fn.params.toList,t<Try.prog.types.size) (hfn:s.fn H ds ={ results:=[.lit (.bool true)],args:=ds,vars:=[]})
  (hW:DataW.Whole enc Try.prog fn.params.toList s.vars false W args.toList ds [] before)
  (hl:LR (eU W) absArgs args.toList) (hc:aK (Yt (some nC) (some Gp)) f absArgs (fI W) (fun v m'=>∃x:YC,v=.bool true/\Hp (fI W) m' [])) :
  Calls Try.prog f args W fun e W'=>∃v,e=.returned v/\s.post enc Try.prog fn false fresh handsOn false W args v W':=by
 obtain⟨v,m',⟨fuel,hrun⟩,_,rfl,hm'⟩:=hc;have hm:MR (Yt (some nC) (some Gp)) (eU W) (fI W) W:=OC (V9 _);have hcall:=callsIn_wide.1 (qP My hrun hpr hm hl);refine hcall.mono fun e W' ⟨v',he,j',sm,hv⟩=>?_;have hv':v'=.bool true:=gI rfl hv;subst hv';have hwl:(fI W).next<=m'.wl:=by
  have h1:=hm'.ext.wl;have h2:min (fI W).wl (fI W).next=(fI W).next:=Nat.min_self _
  omega
 exact⟨_,he,HO R8 LL LC hvars hres hrs htb hpt hfn hW sm.calm (sm.grown hm hwl)⟩
def GS{W:XM}(h:W.ShapedOpen Try.prog):0<W.heap.size:=by
 unfold World.ShapedOpen at h;obtain⟨_,h2⟩:=h;have e:((begin Try.prog (fun _ _=>0) default).world).heap.size=Try.prog.globals.size+5:=by
  unfold begin; simp only[Array.size_push,Array.size_mapIdx]
 obtain⟨o,o0,h3,_⟩:=h2 Try.prog.globals.size (U8 _) (by rw[e]; omega)
 exact Nat.lt_of_le_of_lt (V9 _) (Vh.1 h3).1
def TN:Gu Try.prog 5 29=some [.int .u8,.int .u8,.int .u8,.int .i64,.int .i64,.int .i64,.int .u8,.int .u8,.int .u8,.int .i64,.int .i64,.int .i64]:=by kernel_rfl
def Tf:Gu Try.prog 5 24=some [.int .u8,.int .u8,.sl 5,.sl 5,.bool]:=by kernel_rfl
def Ux:Gu Try.prog 5 5=some [.int .u8]:=by kernel_rfl
def Tq:Try.prog.underlying 29=some (.array 2 28):=by kernel_rfl
section
variable{H:Type}{enc:XJ×XI->H}{W:XM}{sp:Nat->Bool}{held:Bool}{v:XI}{d:DataW H}{p:YB MemPlace}{base:Nat}
theorem JQ{P:XL}{base:Nat}{v:XI}(h:sZ enc P W base sp held .bool v):∃b,v=.bool b:=h
theorem R2:∀(n:Nat) (cs:YB XI) (x:DataW H×YB MemPlace),DataW.trod enc Try.prog W 0 sp held n 5 cs=some x->∃p:Nat,cs=eN .u8 p/\p<256:=by
 intro n cs x h;obtain⟨v1,cs,rfl,h1,h⟩:=cj (Bz 5 5 _ Ux n _ x h);obtain rfl:=wh h;obtain⟨a,rfl,ha⟩:=lM h1;exact⟨a,rfl,ha⟩
theorem QP(hok:Value.okWide Try.prog W .any base 24 v)(hs:0<W.heap.size)(h:DataW.Trod enc Try.prog W 0 sp held 24 v d p):∃(x1 x2:Nat) (l3 l4:YB Nat) (x5:Bool) (a3:XG) (c3:Nat) (a4:XG) (c4:Nat),
  VR (eU W) (.agg #[.int .u8 ((x1:Nat):Int),.int .u8 ((x2:Nat):Int),.slice a3 l3.length c3,.slice a4 l4.length c4,.bool x5]) v/\x1<256/\x2<256/\(∀q∈l3,q<256)/\(∀q∈l4,q<256)/\Rd (fI W) a3 c3 1 l3.length (l3.map (eN .u8))/\Rd (fI W) a4 c4 1 l4.length (l4.map (eN .u8)):=by
 obtain⟨cs,rfl,_⟩:=okWide_struct (t:=24) (fs:=Try.prog.underlying 24 |>.elim #[] fun u=>match u with|.struct fs=>fs|_=>#[]) (by kernel_rfl) hok
 obtain⟨n,h⟩:=h;obtain⟨v1,r,hr,h1,h⟩:=cj (vT Tf h);obtain⟨v2,r,rfl,h2,h⟩:=cj h;obtain⟨v3,r,rfl,h3,h⟩:=cj h;obtain⟨v4,r,rfl,h4,h⟩:=cj h;obtain⟨v5,r,rfl,h5,h⟩:=cj h;obtain rfl:=wh h;obtain⟨x1,rfl,g1⟩:=lM h1;obtain⟨x2,rfl,g2⟩:=lM h2;obtain⟨a3,c3,l3,e1,e2,e3,e4⟩:=Hh (f:=eN .u8) (w:=1) (by kernel_rfl) (by omega) hs (fun q=>rfl) R2 h3
 obtain⟨a4,c4,l4,f1,f2,f3,f4⟩:=Hh (f:=eN .u8) (w:=1) (by kernel_rfl) (by omega) hs (fun q=>rfl) R2 h4
 obtain⟨x5,rfl⟩:=JQ h5;refine⟨x1,x2,l3,l4,x5,a3,c3,a4,c4,?_,g1,g2,e3,f3,e2,f2⟩;refine GV (l:=[.int .u8 ((x1:Nat):Int),.int .u8 ((x2:Nat):Int),.slice a3 l3.length c3,.slice a4 l4.length c4,.bool x5]) ?_;rw[hr];exact .cons (.int _ _) (.cons (.int _ _) (.cons e1 (.cons f1 (LR.plain rfl))))
theorem SI(hok:Value.okWide Try.prog W .any base 29 v)(h:DataW.Trod enc Try.prog W 0 sp held 29 v d p):∃(x1 x2 x3:Nat) (x4 x5 x6:Int) (x7 x8 x9:Nat) (x10 x11 x12:Int),
  VR (eU W) (.agg #[.int .u8 ((x1:Nat):Int),.int .u8 ((x2:Nat):Int),.int .u8 ((x3:Nat):Int),.int .i64 x4,.int .i64 x5,.int .i64 x6,.int .u8 ((x7:Nat):Int),.int .u8 ((x8:Nat):Int),.int .u8 ((x9:Nat):Int),.int .i64 x10,.int .i64 x11,.int .i64 x12]) v /\
   (x2<256/\x3<256)/\(x8<256/\x9<256):=by
 obtain⟨cs,rfl,_⟩:=yP Tq hok;obtain⟨n,h⟩:=h;obtain⟨v1,r,hr,h1,h⟩:=cj (vT TN h);obtain⟨v2,r,rfl,h2,h⟩:=cj h;obtain⟨v3,r,rfl,h3,h⟩:=cj h;obtain⟨v4,r,rfl,h4,h⟩:=cj h;obtain⟨v5,r,rfl,h5,h⟩:=cj h;obtain⟨v6,r,rfl,h6,h⟩:=cj h;obtain⟨v7,r,rfl,h7,h⟩:=cj h;obtain⟨v8,r,rfl,h8,h⟩:=cj h;obtain⟨v9,r,rfl,h9,h⟩:=cj h;obtain⟨v10,r,rfl,h10,h⟩:=cj h;obtain⟨v11,r,rfl,h11,h⟩:=cj h;obtain⟨v12,r,rfl,h12,h⟩:=cj h;obtain rfl:=wh h;obtain⟨x1,rfl,g1⟩:=lM h1;obtain⟨x2,rfl,g2⟩:=lM h2;obtain⟨x3,rfl,g3⟩:=lM h3;obtain⟨x4,rfl,_⟩:=pj h4;obtain⟨x5,rfl,_⟩:=pj h5;obtain⟨x6,rfl,_⟩:=pj h6;obtain⟨x7,rfl,g7⟩:=lM h7;obtain⟨x8,rfl,g8⟩:=lM h8;obtain⟨x9,rfl,g9⟩:=lM h9;obtain⟨x10,rfl,_⟩:=pj h10;obtain⟨x11,rfl,_⟩:=pj h11;obtain⟨x12,rfl,_⟩:=pj h12;refine⟨x1,x2,x3,x4,x5,x6,x7,x8,x9,x10,x11,x12,?_,⟨g2,g3⟩,⟨g8,g9⟩⟩;refine GV (l:=[.int .u8 ((x1:Nat):Int),.int .u8 ((x2:Nat):Int),.int .u8 ((x3:Nat):Int),.int .i64 x4,.int .i64 x5,.int .i64 x6,.int .u8 ((x7:Nat):Int),.int .u8 ((x8:Nat):Int),.int .u8 ((x9:Nat):Int),.int .i64 x10,.int .i64 x11,.int .i64 x12]) ?_;rw[hr];exact LR.plain rfl
end
section
variable{H:Type}{enc:XJ×XI->H}{W:XM}{sp:Nat->Bool}{held:Bool}{v:XI}{d:DataW H}{p:YB MemPlace}{j:aR}
theorem PF{s:XG}{n c:Nat}{v:XI}(h:VR j (.slice s n c) v):∃s' c',v=.slice s' n c':=by
 cases h<;>exact⟨_,_,rfl⟩
theorem Rk{a b e f:XI}{s:XG}{n c:Nat}(hv:VR j (.agg #[a,b,.slice s n c,e,f]) v)(h:DataW.Trod enc Try.prog W 0 sp held 24 v d p)(hz:∀x∈DataW.weights Try.prog 24 d,x<=reachBytes):n<=140737488351232:=by
 obtain⟨fs,hu,hk⟩:∃fs,Try.prog.underlying 24=some (.struct fs)/\fs.toList.map (fun g=>(g.type,g.offset))=[(5,0),(5,1),(22,2),(22,3),(4,4)]:=⟨Try.prog.underlying 24 |>.elim #[] fun u=>match u with|.struct fs=>fs|_=>#[],by kernel_rfl,by kernel_rfl⟩
 obtain⟨cs,rfl,hcs⟩:∃cs:YD XI,v=.agg cs/\∃s' c',cs.toList[2]? = some (.slice s' n c'):=by
  cases hv with
  | agg h1 h2 =>
   rename_i ys;have hs:2<ys.size:=by rw[<-h1]; exact(show 2<5 by decide)
   obtain⟨s',c',e'⟩:=PF (h2 2 (show 2<5 by decide) hs)
   exact⟨ys,rfl,s',c',by rw[Array.getElem?_toList,WE hs,e']⟩
 obtain⟨s',c',hcs⟩:=hcs;obtain⟨k,h⟩:=h;obtain⟨xs,m,rfl,hx,hcl,hxl,hel⟩:=DataW.trod_struct hu h;have h2:fs.toList[2]?.map (fun g=>(g.type,g.offset))=some (22,2):=by rw[<-VQ,hk]; rfl
 obtain⟨g,hg,hgt⟩:=W1.1 h2;have hg2:fs[2]? = some g:=by rw[<-hg,Array.getElem?_toList]
 have ht:g.type=22:=Vs Prod.fst hgt;have ho:g.offset=2:=Vs Prod.snd hgt;have h3:=hel 2 g hg2;rw[ht,ho,show Try.prog.cellsOf 22=1 by kernel_rfl] at h3
 have hc1:((Value.agg cs).cells.toList.drop 2).take 1=[.slice s' n c']:=by
  have:(Value.agg cs).cells=cs:=rfl;rw[this];obtain⟨hlt,e1⟩:=Vn.1 hcs;rw[W9 hlt,e1]; rfl
 rw[hc1] at h3;have hlt:2<xs.length:=by
  rw[hxl];have:=(Vh.1 hg2).1;exact this
 rw[U4 hlt] at h3;have hd:d=.agg (xs.map (·.1)):=Vs Prod.fst hx;have hmem:∀x∈DataW.weights Try.prog 22 (xs[2]).1,x<=reachBytes:=fun x hxm=>hz x (by
  subst hd;rw[show DataW.weights Try.prog 24 (.agg (xs.map (·.1)))=DataW.weightsEach Try.prog (fs.toList.map (·.type)) (xs.map (·.1)) by unfold DataW.weights; rw[hu]]
  exact DataW.weights_mem_each (j:=2) (t:=22) (d:=(xs[2]).1) (by rw[VQ,hg,Vx,ht]) (by rw[VQ,U4 hlt]; rfl) x hxm)
 have hu2:Try.prog.underlying 22=some (.slice 5):=by kernel_rfl
 rcases DataW.trod_slice hu2 h3 with⟨e1,_⟩|⟨A,len,cap,el,rest,m',_,e1,e2,_,_,_,e3,_⟩
 cases e1; exact V9 _
 cases e1;rw[e2] at hmem;have h5:=hmem ((el.map (·.1)).length+(rest.map (·.1)).length) (by
  unfold DataW.weights;rw[hu2];have hb:Try.prog.bytesOf 5=1:=by kernel_rfl
  simp only[hb,Nat.mul_one];exact Vp)
 rw[Vf,e3] at h5;have:reachBytes=140737488351232:=by decide
 omega
end
end
section
open Go Go.Ab Go.Ab.W
def xx(n:Nat)(l1:XE):(XE×Int)->YA ((XE×Int)⊕XE):=fun(l3,v0) =>
br (decide (v0<((Yl l1 10).length:Int))) (
gd (cM v0 ((Yl l1 10).length)) (
ob ((Yl l1 10)[v0.toNat]?) fun l2 =>
gd (okB 0 (mi (l2.length:Int) (42:Int)) l2.length) (
ob (NZ n (Yl l2 42)) fun l4 =>
gd (lim (l3++([l4]:XE)).length) (
some (.inl ((l3++([l4]:XE)),XN (v0+1))))))) (
some (.inr l3))
def xQ(n:Nat)(l1:XB):(XB×Int)->YA ((XB×Int)⊕XB):=fun(l3,v0) =>
br (decide (v0<((Yl l1 66).length:Int))) (
gd (cM v0 ((Yl l1 66).length)) (
ob ((Yl l1 66)[v0.toNat]?) fun(l2,l4) =>
gd (okB 0 (mi (l2.length:Int) (42:Int)) l2.length) (
ob (NZ n (Yl l2 42)) fun l5 =>
gd (okB 0 (mi (l4.length:Int) (10:Int)) l4.length) (
ob (
bL (xx n l4) n (([]:XE),0)) fun l6 =>
gd (lim (l3++([(l5,l6)]:XB)).length) (
some (.inl ((l3++([(l5,l6)]:XB)),XN (v0+1)))))))) (
some (.inr l3))
def QB(n:Nat)(l1:XD)(l2:XB):YA (XD×XB) :=
gd (okB 0 (mi (l1.length:Int) (125:Int)) l1.length) (
ob (SO n (Yl l1 125)) fun l3 =>
gd (okB 0 (mi (l2.length:Int) (66:Int)) l2.length) (
ob (
bL (xQ n l2) n (([]:XB),0)) fun l4 =>
some (l3,l4)))
def Te(_:Nat)(l:YB Int)(i j:Int):YA (YB Int):=gd (decide (0<l.length)&&decide (0<=i)&&decide (i<=j)&&decide (j<=(l.length:Int))&&lim l.length) (some (l.take i.toNat++l.drop j.toNat))
def TS(_:Nat)(l:XB)(i j:Int):YA XB:=gd (decide (0<l.length)&&decide (0<=i)&&decide (i<j)&&decide (j<=(l.length:Int))&&lim l.length) (some (l.take i.toNat++l.drop j.toNat))
def To(_:Nat)(l:YB Int)(i:Int)(vs:YB Int):YA (YB Int):=gd (decide (0<=i)&&decide (i<=(l.length:Int))&&lim l.length) (some (l.take i.toNat++(vs++l.drop i.toNat)))
def uG(n:Nat)(l2:YB Int):(YB (Int)×Int×Int)->YA ((YB (Int)×Int×Int) ⊕(YB (Int))):=fun(l1,v0,v1) =>
br (decide (v0<v1)) (
gd (cM v1 l2.length) (
ob (l1[v1.toNat]?) fun x3 =>
gd (cM v0 l2.length) (
ob (l1[v0.toNat]?) fun x4 =>
gd (cM v0 l2.length) (
gd (cM v1 l2.length) (
ob ((l1.set v0.toNat x3)[v1.toNat]?) fun x10 =>
some (.inl (((l1.set v0.toNat x3).set v1.toNat x4),XN (v0+1),XN (v1-1)))))))) (
some (.inr l1))
def J0(n:Nat)(l2:YB Int):(YB (Int)×Int×Int)->YA ((YB (Int)×Int×Int) ⊕(YB (Int))):=fun(l1,v0,v1) =>
br (decide (v0<v1)) (
gd (cM v1 l2.length) (
ob (l1[v1.toNat]?) fun x3 =>
gd (cM v0 l2.length) (
ob (l1[v0.toNat]?) fun x4 =>
gd (cM v0 l2.length) (
gd (cM v1 l2.length) (
ob ((l1.set v0.toNat x3)[v1.toNat]?) fun x10 =>
some (.inl (((l1.set v0.toNat x3).set v1.toNat x4),XN (v0+1),XN (v1-1)))))))) (
some (.inr l1))
def vR(n:Nat)(x3:Nat)(l3:YB Int):XE->YA (XE⊕XE):=fun l1 =>
br (decide ((l1.length:Int)<XN (8+(XN ((x3%2:Nat):Int))))) (
ob (NZ n l3) fun l2 =>
gd (lim (l1++([l2]:XE)).length) (
some (.inl (l1++([l2]:XE))))) (
some (.inr l1))
def Qx(n:Nat)(x1:Nat)(x2:Nat)(x3:Nat)(x4:Int)(x5:Int)(x6:Int)(l13:XD)(l14:XB):YA (XD×XB) :=
ob (QB n l13 l14) fun(l2,l1) =>
ob (
br (decide ((l2.length:Int)=0)) (
some true) (
some (decide ((l1.length:Int)=0)))) fun v0 =>
br (v0) (
some (l2,l1)) (
gd (decide ((l2.length:Int)≠0)) (
gd (decide ((l1.length:Int)≠0)) (
gd (cM (Int.tmod (XN ((x2:Nat):Int)) (l1.length:Int)) l1.length) (
ob (l1[(Int.tmod (XN ((x2:Nat):Int)) (l1.length:Int)).toNat]?) fun(l3,l4) =>
ob (
br (decide (x1%14=0)) (
gd (cM (Int.tmod (XN ((x2:Nat):Int)) (l2.length:Int)) l2.length) (
ob (l2[(Int.tmod (XN ((x2:Nat):Int)) (l2.length:Int)).toNat]?) fun(x12,x13) =>
some ((l2.set ((Int.tmod (XN ((x2:Nat):Int)) (l2.length:Int)).toNat) (x5,x6)),l2.length,l1.length,(l1.set ((Int.tmod (XN ((x2:Nat):Int)) (l1.length:Int)).toNat) (l3,l4))))) (
br (decide (x1%14=1)) (
gd (decide ((l2.length:Int)≠0)) (
gd (cM (Int.tmod (XN ((x3:Nat):Int)) (l2.length:Int)) l2.length) (
ob (l2[(Int.tmod (XN ((x3:Nat):Int)) (l2.length:Int)).toNat]?) fun(x10,x11) =>
gd (cM (Int.tmod (XN ((x2:Nat):Int)) (l2.length:Int)) l2.length) (
ob (l2[(Int.tmod (XN ((x2:Nat):Int)) (l2.length:Int)).toNat]?) fun(x14,x15) =>
some ((l2.set ((Int.tmod (XN ((x2:Nat):Int)) (l2.length:Int)).toNat) (x10,x11)),l2.length,l1.length,(l1.set ((Int.tmod (XN ((x2:Nat):Int)) (l1.length:Int)).toNat) (l3,l4))))))) (
br (decide (x1%14=2)) (
gd (lim (l2++[(x5,x6)]).length) (
some ((l2++[(x5,x6)]),(l2++[(x5,x6)]).length,l1.length,(l1.set ((Int.tmod (XN ((x2:Nat):Int)) (l1.length:Int)).toNat) (l3,l4))))) (
br (decide (x1%14=3)) (
gd (okB 0 (Int.tmod (XN ((x2:Nat):Int)) (l2.length:Int)) l2.length) (
gd (decide (0<l2.length)) (
ob (some (l2.take (Int.tmod (XN ((x2:Nat):Int)) (l2.length:Int):Int).toNat)) fun l9 =>
some (l9,l9.length,l1.length,(l1.set ((Int.tmod (XN ((x2:Nat):Int)) (l1.length:Int)).toNat) (l3,l4)))))) (
br (decide (x1%14=4)) (
ob (QB n l2 l1) fun(l25,l10) =>
gd (decide ((l1.length:Int)≠0)) (
gd (cM (Int.tmod (XN ((x3:Nat):Int)) (l1.length:Int)) l10.length) (
ob (l10[(Int.tmod (XN ((x3:Nat):Int)) (l1.length:Int)).toNat]?) fun(l6,l7) =>
gd (lim (l1++([(l6,l7)]:XB)).length) (
some (l2,l2.length,(l1++([(l6,l7)]:XB)).length,(l1++([(l6,l7)]:XB))))))) (
br (decide (x1%14=5)) (
gd (decide ((l1.length:Int)≠0)) (
gd (decide ((l1.length:Int)≠0)) (
ob (some (XN ((Int.tmod (XN ((x2:Nat):Int)) (l1.length:Int))+1))) fun y1 =>
ob (TS n l1 (Int.tmod (XN ((x2:Nat):Int)) (l1.length:Int)) y1) fun l11 =>
some (l2,l2.length,l11.length,l11)))) (
br (decide (x1%14=6)) (
br (decide (0<(l3.length:Int))) (
gd (decide ((l3.length:Int)≠0)) (
gd (cM (Int.tmod (XN ((x3:Nat):Int)) (l3.length:Int)) l3.length) (
ob (l3[(Int.tmod (XN ((x3:Nat):Int)) (l3.length:Int)).toNat]?) fun x16 =>
some (l2,l2.length,l1.length,(l1.set ((Int.tmod (XN ((x2:Nat):Int)) (l1.length:Int)).toNat) ((l3.set ((Int.tmod (XN ((x3:Nat):Int)) (l3.length:Int)).toNat) x4),l4)))))) (
some (l2,l2.length,l1.length,(l1.set ((Int.tmod (XN ((x2:Nat):Int)) (l1.length:Int)).toNat) (l3,l4))))) (
br (decide (x1%14=7)) (
ob (
ob (
bL (uG n l3) n (l3,0,XN ((l3.length:Int)-1))) fun l15 =>
some (l1.set ((Int.tmod (XN ((x2:Nat):Int)) (l1.length:Int)).toNat) (l15,l4))) fun l16 =>
some (l2,l2.length,l1.length,l16)) (
br (decide (x1%14=8)) (
some (l2,l2.length,l1.length,(l1.set ((Int.tmod (XN ((x2:Nat):Int)) (l1.length:Int)).toNat) (l3,[])))) (
br (decide (x1%14=9)) (
gd (decide ((l1.length:Int)≠0)) (
gd (cM (Int.tmod (XN ((x3:Nat):Int)) (l1.length:Int)) l1.length) (
ob (l1[(Int.tmod (XN ((x3:Nat):Int)) (l1.length:Int)).toNat]?) fun(l17,l26) =>
ob (NZ n l17) fun l5 =>
gd (lim (l4++([l5]:XE)).length) (
ob (some (XN (((l4++([l5]:XE)).length:Int)-1))) fun y0 =>
gd (cM y0 ((l4++([l5]:XE)).length)) (
ob ((l4++([l5]:XE))[y0.toNat]?) fun l8 =>
ob (
ob (
bL (J0 n l8) n (l8,0,XN ((l8.length:Int)-1))) fun l18 =>
some (l1.set ((Int.tmod (XN ((x2:Nat):Int)) (l1.length:Int)).toNat) (l3,((l4++([l5]:XE)).set y0.toNat l18)))) fun l19 =>
some (l2,l2.length,l1.length,l19)))))) (
br (decide (x1%14=10)) (
br (decide (0<(l3.length:Int))) (
gd (decide ((l3.length:Int)≠0)) (
gd (decide ((l3.length:Int)≠0)) (
ob (some (XN ((Int.tmod (XN ((x3:Nat):Int)) (l3.length:Int))+1))) fun y2 =>
ob (Te n l3 (Int.tmod (XN ((x3:Nat):Int)) (l3.length:Int)) y2) fun l20 =>
some (l2,l2.length,l1.length,(l1.set ((Int.tmod (XN ((x2:Nat):Int)) (l1.length:Int)).toNat) (l20,l4)))))) (
some (l2,l2.length,l1.length,(l1.set ((Int.tmod (XN ((x2:Nat):Int)) (l1.length:Int)).toNat) (l3,l4))))) (
br (decide (x1%14=11)) (
gd (decide (XN ((l3.length:Int)+1)≠0)) (
ob (some (Int.tmod (XN ((x3:Nat):Int)) (XN ((l3.length:Int)+1)))) fun y3 =>
gd (decide ((l2.length:Int)≠0)) (
ob (To n l3 y3 ([Int.tmod (Kj .i64 x4 127) (l2.length:Int)])) fun l21 =>
some (l2,l2.length,l1.length,(l1.set ((Int.tmod (XN ((x2:Nat):Int)) (l1.length:Int)).toNat) (l21,l4)))))) (
br (decide (x1%14=12)) (
br (decide (0<(l3.length:Int))) (
gd (decide ((l3.length:Int)≠0)) (
gd (okB (Int.tmod (XN ((x3:Nat):Int)) (l3.length:Int)) (l3.length:Int) l3.length) (
ob (NZ n ((l3.drop (Int.tmod (XN ((x3:Nat):Int)) (l3.length:Int):Int).toNat).take (((l3.length:Int):Int).toNat-(Int.tmod (XN ((x3:Nat):Int)) (l3.length:Int):Int).toNat))) fun l12 =>
gd (decide ((l3.length:Int)≠0)) (
gd (okB 0 (Int.tmod (XN ((x3:Nat):Int)) (l3.length:Int)) l3.length) (
gd (lim (l12++((l3.drop XO).take ((Int.tmod (XN ((x3:Nat):Int)) (l3.length:Int):Int).toNat-XO))).length) (
some (l2,l2.length,l1.length,(l1.set ((Int.tmod (XN ((x2:Nat):Int)) (l1.length:Int)).toNat) ((l12++((l3.drop XO).take ((Int.tmod (XN ((x3:Nat):Int)) (l3.length:Int):Int).toNat-XO))),l4))))))))) (
some (l2,l2.length,l1.length,(l1.set ((Int.tmod (XN ((x2:Nat):Int)) (l1.length:Int)).toNat) (l3,l4))))) (
ob (
bL (vR n x3 l3) n l4) fun l22 =>
some (l2,l2.length,l1.length,(l1.set ((Int.tmod (XN ((x2:Nat):Int)) (l1.length:Int)).toNat) (l3,l22))))))))))))))))) fun(l23,n0,n1,l24) =>
some (l23,l24)))))
set_option maxRecDepth 10000
set_option maxHeartbeats 4000000
attribute [local irreducible] Tm.at Trie.set Trie.get Yq.get Yq.set Yq.alloc Yq.ww Yq.kill
variable{p q:YA Prim}
def TW:(Yt p q).P.underlying 22=some (.slice 5):=by kernel_rfl
def S8:SlT (Yt p q).P 22 5 1:=SlT.of (by kernel_rfl)
def Uw:bp (Yt p q).P 5=some (.int .u8 0):=by kernel_rfl
def LI(n:Nat):Bool:=Nat.ble n 140737488351232
def Cv{P:XL}{ty elem ty2:XJ}{w k n c0:Nat}{a a0:XG}{es:XF}{m0 m:Yq}{ps:YB Pc}(ht:SlT P ty elem w)(h1:∃e2,P.underlying ty2=some (.slice e2))(h:Hp m0 m ps)(hp:pk ps k=some (.sl a w 0 []))(hr:Rd m a0 c0 w n es)(h0:∀e∈es,e.length=w)(ho:db es)(hfit:(P.info? elem).any (fun i=>cS i.bytes (0+n)&&i.bytes != 0)=true) :
  ∃a' m',bS P ty (some ty2) (.slice a 0 0) (.slice a0 n c0) m=some (.slice a' n n,m')/\Hp m0 m' (bJ ps k (.sl a' w n es)):=by
 obtain⟨e2,h2⟩:=h1;have hc:=hr.cells;have hlen2:es.flatten.length=n*w:=by rw[cF h0,hr.1]
 have hnew:dZ P elem (some ty2) (.slice a0 n c0) m=some (n,es.flatten):=by
  simp only[dZ,VE,h2,ht.size];have:cW w (.slice a0 n c0) n m=some es.flatten:=hc;rw[this]; rfl
 have hpos:=ht.pos;have h3:(w==0)=false:=by simp; omega
 have hguard:(!(known P elem)||aE P elem==0 || !aZ es.flatten || !(P.info? elem).any (fun i=>cS i.bytes (0+n)&&i.bytes != 0)||es.flatten.length != n*aE P elem || !(bp P elem).any (fun z=>z.cells.size==aE P elem&&z.cells.toList.all aP))=false:=by
  have hz:(bp P elem).any (fun z=>z.cells.size==w&&z.cells.toList.all aP)=true:=ht.zero;rw[ht.size,ht.known,hfit,hz,gF ho,h3,hlen2]; simp
 have hext:=h.ext;have hset:n=0->bJ ps k (.sl a w n es)=ps:=fun hn=>by
  subst hn;obtain rfl:es=[]:=VJ.1 hr.1;have:∀(l:YB Pc) (k:Nat) (p:Pc),pk l k=some p->bJ l k p=l:=by
   intro l
   induction l with
   | nil=>intro k p h; simp[pk] at h
   | cons q l ih =>
    intro k p h;cases k with
    | zero=>rw[jA] at h; rw[iv,U9 h]
    | succ k=>rw[eE] at h; rw[dK,ih k p h]
  exact this ps k _ hp
 have hok:∀mm:Yq,m.next<=mm.next->Pc.ok m0.next (mm.alloc (.cells es.flatten (.more w))) (.sl (some ⟨mm.next,0,none⟩) w n es):=fun mm hmm =>
  .inr ⟨mm.next,.more w,rfl,VK hext.next hmm,(by rw[Yq.next_alloc]; omega),by rw[Yq.aU,U5 rfl],hr.1,h0,.inr rfl,hpos⟩
 have hsame:Hp m0 (m.alloc (.cells es.flatten (.more w))) (bJ ps k (.sl (some ⟨m.next,0,none⟩) w n es)) :=
  h.renew hp (by simp only[Yq.next_alloc]; omega) (hext.alloc _) (hok m (U8 _)) (fun b' hb'=>by cases hb'; exact U8 _) rfl fun b' _ hlt=>by rw[Yq.aU,XP]
 rcases h.get hp with⟨_,_,rfl,_⟩|⟨b,tg,rfl,g3,g2,g0,g4,g5,g1,g6⟩
 by_cases hn:n=0
 refine⟨none,m,?_,by rw[hset hn]; exact h⟩
 unfold bS;simp only[ht.und,hnew];rw[U3 (by rw[hguard]; exact VS)]
 subst hn; rfl
 refine⟨some ⟨m.next,0,none⟩,m.alloc (.cells es.flatten (.more w)),?_,hsame⟩
 unfold bS;simp only[ht.und,hnew];rw[U3 (by rw[hguard]; exact VS)]
 simp only[ht.size];rw[U3 (by simp),U3 hn]
 by_cases hn:n=0
 refine⟨some ⟨b,0,none⟩,m,?_,by rw[hset hn]; exact h⟩
 subst hn;obtain rfl:es=[]:=VJ.1 hr.1;unfold bS;simp only[ht.und,hnew];rw[U3 (by rw[hguard]; exact VS)]
 simp only[g0];rw[U5 (U8 _)];simp[Yq.cU]
 have hcap:¬(0+n<=0):=by omega
 rcases g1 with rfl|rfl
 refine⟨some ⟨m.next,0,none⟩,m.alloc (.cells es.flatten (.more w)),?_,hsame⟩
 unfold bS;simp only[ht.und,hnew];rw[U3 (by rw[hguard]; exact VS)]
 simp only[ht.size,g0];rw[U3 hcap];have hld:m.ek b 0 (0*w)=some []:=by
  simp only[Yq.ek,g0,W3,Xg,List.take_zero,WJ,if_true]
 simp only[hld,Wc,VC]
 refine⟨some ⟨(m.kill b).next,0,none⟩,(m.kill b).alloc (.cells es.flatten (.more w)),?_,?_⟩
 unfold bS;simp only[ht.und,hnew];rw[U3 (by rw[hguard]; exact VS)]
 simp only[ht.size,g0];rw[U3 hcap];simp only[and_self,if_true,Xg,List.take_zero,WJ,Wc,VC,Yq.next_kill]
 have hk:Ext m0 (m.kill b):=⟨by rw[Yq.next_kill]; exact hext.next,fun x hx=>by rw[Yq.dv,XP]; exact hext.same x hx,by
  rw[Yq.wl_kill];have:=hext.wl; omega⟩
 refine h.renew hp (by simp only[Yq.next_alloc,Yq.next_kill]; omega) (hk.alloc _) (hok (m.kill b) (by rw[Yq.next_kill]; exact U8 _)) (fun b' hb'=>?_) rfl fun b' hb' hlt=>?_
 cases hb'; rw[Yq.next_kill]; exact U8 _
 rw[Yq.aU,U3 (by simp; omega),Yq.dv,U3 (fun e=>hb' (by rw[e]; rfl))]
def Sy{E:Env}{m0:Yq}{fs:Fs}{ps:YB Pc}{ty elem ty2:XJ}{w k k2 n c0:Nat}{a a0:XG}{es:XF}{ops:YD XK}{p0:Pc}(ht:SlT E.P ty elem w)(h0:∃e2,E.P.underlying ty2=some (.slice e2))(ha:ia E fs ops.toList=some [.slice a 0 0,.slice a0 n c0])(hp:pk ps k=some (.sl a w 0 []))(h1:pk ps k2=some p0)(hr:IsRd p0 a0 c0 w n es)(h2:∀e∈es,e.length=w)(ho:db es)(hl:(E.P.info? elem).any (fun i=>cS i.bytes (0+n)&&i.bytes != 0)=true) :
  Ox E m0 fs ps (.call ⟨.builtin .append,ops,#[ty,ty2]⟩) (fun a':XG=>.slice a' n n) (fun a'=>bJ ps k (.sl a' w n es)) :=
 fun t m hf h=>⟨fun b hb=>(by simp[aM] at hb),fun K hK=>by
  obtain⟨a',m',h3,h4⟩:=Cv ht h0 h hp (h.rd h1 hr) h2 ho hl;have:bg E.P .append #[ty,ty2] [.slice a 0 0,.slice a0 n c0] m=some (.slice a' n n,m'):=h3;rw[Go.Ab.dn (hf.ia ha) this];exact hK a' m' h4⟩
def T7{n:Nat}(h:LI n=true):((Yt p q).P.info? 5).any (fun i=>cS i.bytes (0+n)&&i.bytes != 0)=true:=by
 have h:=V7 h;have hi:((Yt p q).P.info? 5).map (·.bytes)=some 1:=by kernel_rfl
 obtain⟨i,h1,h2⟩:=W1.1 hi;rw[h1,Xx,h2];simp only[cS,Va,Vm,bne_iff_ne,ne_eq];omega
def MP(n:Nat)(es:XF)(a:XG)(c:Nat)(hl:LI n=true)(hw:∀e∈es,e.length=1)(ho:db es)(m:Yq)(h:Rd m a c 1 n es):aK (Yt p q) 11 [.slice a n c] m (fun v m'=>∃x:XG,v=.slice x n n/\Hp m m' [.sl x 1 n es]):=by
 cases a with
 | none =>
  have h0:=Rd.ur h;subst h0;have:es=[]:=VJ.1 h.1;subst this;refine aS (m0:=m) (ps:=[]) (N:=8) (rs:=[.tmp 2]) rfl Try.func11 rfl rfl rfl (XZ m) ?_;refine XS ?_;refine XT ?_;refine XR (bE rfl) rfl ?_;refine XW ?_;refine XX ?_;refine XS ?_;refine XS ?_;refine XT ?_;refine XR (aX rfl) rfl ?_;refine XR (aL rfl rfl (E6 TW)) rfl ?_;refine XW ?_;refine XX ?_;refine X7 rfl rfl ?_;refine XS ?_;refine XT ?_;refine XR (bE rfl) rfl ?_;refine XW ?_;refine XX ?_;refine Yb ?_;refine At.tr ?_;exact X2 (.tmp rfl .nil) fun m' hm=>⟨none,rfl,(ai.nil 1 rfl) m' hm⟩
 | some A =>
  refine aS (m0:=m) (ps:=[.rd (some A) c 1 n es]) (N:=8) (rs:=[.tmp 2]) rfl Try.func11 rfl rfl rfl ((XZ m).dc eL h) ?_;refine XS ?_;refine XT ?_;refine XR (bE rfl) rfl ?_;refine XW ?_;refine XX ?_;refine XS ?_;refine XS ?_;refine XT ?_;refine XR (aX rfl) rfl ?_;refine XR (aL rfl rfl (EA TW)) rfl ?_;refine XW ?_;refine XX ?_;refine Yc rfl rfl ?_;refine X9 ?_;refine XX ?_;refine XS ?_;refine XT ?_;refine X1 (cB (es:=[]) S8 rfl (cz S8 Uw rfl rfl) rfl rfl) gn rfl fun b=>?_;refine XR (aX rfl) rfl ?_;refine X0 (ai.close (k:=0) rfl) ?_;refine X1 (Sy (k:=0) (k2:=1) (es:=es) S8 ⟨_,TW⟩ rfl rfl rfl (.rd _ _ _ _ _) hw ho (T7 hl)) gn rfl fun a2=>?_;refine XR (bE rfl) rfl ?_;refine XW ?_;refine XX ?_;refine Yb ?_;exact X2 (.tmp rfl .nil) fun m' hm=>⟨a2,rfl,(ai.aq [0] rfl rfl) m' hm⟩
def SU(_:Nat)(l:YB Nat):YA (YB Nat):=gd (LI l.length) (some l)
def Qb(n:Nat)(l:YB Nat)(a:XG)(c:Nat)(r:YB Nat)(hF:SU n l=some r)(m:Yq)(h:Rd m a c 1 l.length (l.map (eN .u8))):aK (Yt p q) 11 [.slice a l.length c] m (fun v m'=>∃x:XG×Nat,v=.slice x.1 x.2 x.2/\Hp m m' [.sl x.1 1 x.2 (r.map (eN .u8))]):=by
 obtain⟨hl,hF⟩:=aD hF;cases hF;exact(MP l.length (l.map (eN .u8)) a c hl ((Ui .u8).uc l) ((Ui .u8).db l) m h).mono fun v m' ⟨x,h1,h2⟩=>⟨(x,l.length),h1,h2⟩
end
section
open Go Go.Ab Go.Ab.W
def NL(n:Nat)(l1:YB (Int)):(XD×Int)->YA ((XD×Int)⊕XD):=fun(l19,v21) =>
br (decide (XN (v21+1)<(l1.length:Int))) (
gd (cM v21 l1.length) (
ob (l1[v21.toNat]?) fun x43 =>
gd (cM (XN (v21+1)) l1.length) (
ob (l1[(XN (v21+1)).toNat]?) fun x46 =>
gd (lim (l19++[(x43,x46)]).length) (
some (.inl ((l19++[(x43,x46)]),XN (v21+2))))))) (
some (.inr l19))
def Oz(n:Nat)(l1:YB (Int)):YA XD :=
ob (
bL (NL n l1) n (([]:XD),0)) fun l37 =>
some l37
def F8(n:Nat)(l1:XD)(l5:XB):YA (YB (XC)×Int) :=
ob (G5 n l1 l5) fun r14 =>
br (!decide (r14=0)) (
some ([],r14)) (
ob (G4 n l1 l5) fun l17 =>
some (l17,0))
def R7(n:Nat)(l41:XE)(l1:XD)(l5:XB):(Int×Int)->YA ((Int×Int)⊕Int):=fun(v49,v50) =>
br (decide (v50<(l41.length:Int))) (
gd (cM v50 l41.length) (
ob (l41[v50.toNat]?) fun l72 =>
ob (KN n l1 l5 l72 1) fun l77 =>
ob (Qu n l77) fun r81 =>
some (.inl (XN (v49+r81),XN (v50+1))))) (
some (.inr v49))
def F9(n:Nat)(l1:XD)(l5:XB)(x12:Int):YA (Int×Int) :=
ob (G5 n l1 l5) fun r15 =>
br (!decide (r15=0)) (
some (0,r15)) (
ob (
br (decide (x12<0)) (
some true) (
some (decide ((l5.length:Int)<=x12)))) fun v24 =>
br (v24) (
some (0,2)) (
gd (cM x12 l5.length) (
ob (l5[x12.toNat]?) fun(l32,l33) =>
ob (C6 n l32 l33) fun l41 =>
ob (
bL (R7 n l41 l1 l5) n (0,0)) fun v67 =>
some (v67,0))))
def No(n:Nat)(l1:YB (XC))(l5:YB (XC)):Int->YA (Int⊕YC⊕YC):=fun v11 =>
br (decide (v11<(l1.length:Int))) (
gd (cM v11 l1.length) (
ob (l1[v11.toNat]?) fun(x35,x36,x37,x38) =>
gd (cM v11 l5.length) (
ob (l5[v11.toNat]?) fun(x43,x44,x45,x46) =>
br (!(decide (x35=x43)&&decide (x36=x44)&&decide (x37=x45)&&decide (x38=x46))) (
some (.inr (.inl ()))) (
some (.inl (XN (v11+1))))))) (
some (.inr (.inr ())))
def Tv(n:Nat)(l1:YB (XC))(l5:YB (XC)):YA Bool :=
br (!decide ((l1.length:Int)=(l5.length:Int))) (
some false) (
ob (α:=(YC)⊕YC) (
bL (No n l1 l5) n 0) fun r50=>match r50 with
| .inl _ =>
some false
| .inr _ =>
some true)
def P3(n:Nat)(l1:XD)(l5:XB)(x12:Int)(x13:Int):YA Bool :=
ob (N0 n l1 l5) fun(r16,r17) =>
ob (F8 n l1 l5) fun(l19,r22) =>
br (decide (r16=x12)) (
br (decide (r17=x13)) (
some ((decide (r22=150)) ==(decide (0<x12)))) (
some false)) (
some false)
def SV(n:Nat)(l1:XD)(l5:XB)(x12:Int)(x13:Int)(x14:Int)(x15:Int):YA Bool :=
ob (DV n l1 l5) fun(r18,r19,r20,r21,r22) =>
br (decide (r18=x12)) (
br (decide (r19=x13)) (
br (decide (r20=x14)) (
br (decide (r21=x15)) (
some (decide (r22=0))) (
some false)) (
some false)) (
some false)) (
some false)
def NI(n:Nat)(l1:XE)(l2:XD)(l3:XB)(x3:Int)(x4:Int):Int->YA (Int⊕Int⊕YC):=fun v0 =>
br (decide (v0<(l1.length:Int))) (
gd (cM v0 l1.length) (
ob (l1[v0.toNat]?) fun l4 =>
ob (
ob (KN n l2 l3 l4 1) fun l5 =>
ob (Nq n l5 x3 x4) fun r0 =>
some (decide (r0=1))) fun v1 =>
br (v1) (
some (.inr (.inl v0))) (
some (.inl (XN (v0+1)))))) (
some (.inr (.inr ())))
def NJ(n:Nat)(l1:XB)(l2:XD)(x3:Int)(x4:Int):Int->YA (Int⊕Int⊕YC):=fun v0 =>
br (decide (v0<(l1.length:Int))) (
gd (cM v0 l1.length) (
ob (l1[v0.toNat]?) fun(l3,l4) =>
ob (
ob (MF n l2 l1 l3 l4 x3 x4 1) fun r0 =>
br (r0) (
some true) (
ob (C6 n l3 l4) fun l5 =>
ob (
ob (α:=(Int)⊕YC) (
bL (NI n l5 l2 l1 x3 x4) n 0) fun r1=>match r1 with
| .inl v1 =>
some v1
| .inr _ =>
some (-1)) fun v2 =>
some (decide (0<=v2)))) fun v3 =>
br (v3) (
some (.inr (.inl v0))) (
some (.inl (XN (v0+1)))))) (
some (.inr (.inr ())))
def Tp(n:Nat)(l1:XD)(l2:XB)(x3:Int)(x4:Int):YA (Int×Int) :=
ob (G5 n l1 l2) fun r0 =>
br (!decide (r0=0)) (
some (0,r0)) (
ob (QA n x3 x4) fun r1 =>
br (r1) (
some (0,2)) (
ob (
ob (α:=(Int)⊕YC) (
bL (NJ n l2 l1 x3 x4) n 0) fun r3=>match r3 with
| .inl v0 =>
some v0
| .inr _ =>
some (-1)) fun v1 =>
some (v1,0)))
def Qw(n:Nat)(l1:XD)(l5:XB)(x12:Int)(x13:Int)(x14:Int):YA Bool :=
ob (Tp n l1 l5 x12 x13) fun(r17,r18) =>
br (decide (r17=x14)) (
some (decide (r18=0))) (
some false)
def F6(n:Nat):YA Bool :=
ob (
ob (Oz n ([0,0,2,0,4,0,4,2,2,2,0,2])) fun l8 =>
some (l8,([([0,1,4,5],[]),([1,2,3,4],[])]:XB))) fun(l3,l4) =>
ob (
ob (Oz n ([0,0,9,0,9,9,0,9,3,3,6,3,6,6,3,6])) fun l9 =>
some (l9,([([0,1,2,3],[[4,7,6,5]]),([4,5,6,7],[])]:XB))) fun(l1,l2) =>
ob (F8 n l3 l4) fun(l10,r0) =>
ob (F9 n l1 l2 0) fun(r1,r3) =>
ob (
ob (Oz n ([0,0,9,0,9,9,0,9,3,3,6,3,6,6,3,6])) fun l11 =>
some (l11,([([0,1,2,3],[[4,7,6,5]]),([4,5,6,7],[])]:XB))) fun(l12,l5) =>
ob (
ob (Oz n ([0,0,9,0,9,9,0,9,3,3,6,3,6,6,3,6])) fun l13 =>
some (l13,([([0,1,2,3],[[4,7,6,5]]),([4,5,6,7],[])]:XB))) fun(l14,l6) =>
ob (
ob (Oz n ([0,0,2,0,4,0,4,2,2,2,0,2])) fun l15 =>
some (l15,([([0,1,4,5],[]),([1,2,3,4],[])]:XB))) fun(l16,l7) =>
gd (cM 0 l5.length) (
ob (l5[XO]?) fun(l17,l20) =>
gd (cM 0 l6.length) (
ob (l6[XO]?) fun(l18,l21) =>
gd (cM 1 l7.length) (
ob (l7[(1:Int).toNat]?) fun(l22,l19) =>
ob (Tv n l10 ([(0,1,0,-1),(0,5,-1,0),(1,2,1,-1),(1,4,0,1),(2,3,1,-1),(3,4,1,-1),(4,5,0,-1)])) fun r4 =>
ob (
ob (P3 n l3 l4 0 0) fun r5 =>
br (r5) (
ob (P3 n l1 l2 0 0) fun r6 =>
br (r6) (
ob (P3 n l12 (l5.set (XO) (l17,[])) 10 1) fun r7 =>
br (r7) (
ob (P3 n l14 (l6.set (XO) (l18,[[4,5,6,7]])) 6 0) fun r8 =>
br (r8) (
ob (P3 n l16 (l7.set ((1:Int).toNat) ([1,2,3,5],l19)) 8 1) fun r9 =>
some r9) (
some false)) (
some false)) (
some false)) (
some false)) fun v0 =>
br (r4) (
br (decide (r0=0)) (
br (decide (r1=144)) (
br (decide (r3=0)) (
br (v0) (
ob (SV n l3 l4 6 7 2 1) fun r10 =>
br (r10) (
ob (SV n l1 l2 8 8 2 2) fun r11 =>
br (r11) (
ob (Qw n l1 l2 4 4 1) fun r12 =>
br (r12) (
ob (Qw n l1 l2 1 1 0) fun r13 =>
br (r13) (
ob (Qw n l1 l2 3 3 0) fun r14 =>
br (r14) (
ob (Qw n l1 l2 10 10 (-1)) fun r15 =>
some r15) (
some false)) (
some false)) (
some false)) (
some false)) (
some false)) (
some false)) (
some false)) (
some false)) (
some false)) (
some false))))
def Ht(n:Nat)(l1:YB (Nat))(x5:Int):YA Int :=
br (decide ((l1.length:Int)=0)) (
some 0) (
gd (decide ((l1.length:Int)≠0)) (
gd (cM (Int.tmod x5 (l1.length:Int)) l1.length) (
ob (l1[(Int.tmod x5 (l1.length:Int)).toNat]?) fun x11 =>
some (XN ((x11:Nat):Int)))))
def pN(n:Nat)(v3:Int)(v2:Int)(l2:YB (Nat)):(XD×Int×Int)->YA ((XD×Int×Int)⊕XD):=fun(l1,v0,v1) =>
br (decide (v1<=v3)) (
gd (lim (l1++[(v0,v2)]).length) (
ob (Ht n l2 v1) fun r0 =>
some (.inl ((l1++[(v0,v2)]),XN ((XN (v0+1))+(Int.tmod r0 5)),XN (v1+1))))) (
some (.inr l1))
def pW(n:Nat)(v2:Int)(v3:Int)(l1:YB (Nat)):(XD×Int×Int)->YA ((XD×Int×Int)⊕XD):=fun(l2,v1,v0) =>
br (decide (v0<=v2)) (
ob (
bL (pN n v3 v1 l1) n (l2,0,0)) fun l3 =>
ob (Ht n l1 (XN (7+v0))) fun r0 =>
some (.inl (l3,XN ((XN (v1+1))+(Int.tmod r0 5)),XN (v0+1)))) (
some (.inr l2))
def nF(n:Nat)(v0:Int)(v2:Int)(l2:YB (Nat)):(XB×Int)->YA ((XB×Int)⊕XB):=fun(l1,v1) =>
br (decide (v1<v0)) (
ob (
ob (some (XN ((XN (v2*(XN (v0+1))))+v1))) fun y0 =>
ob (Ht n l2 (XN ((XN (v2*v0))+v1))) fun r0 =>
br (decide (Int.tmod r0 8=0)) (
ob (some (XN ((XN ((XN (y0+v0))+1))+1))) fun y1 =>
ob (some (XN ((XN ((XN (y0+v0))+1))+1))) fun y2 =>
gd (lim (l1++([([y0,XN (y0+1),y1],[]),([y0,y2,XN ((XN (y0+v0))+1)],[])]:XB)).length) (
some (l1++([([y0,XN (y0+1),y1],[]),([y0,y2,XN ((XN (y0+v0))+1)],[])]:XB)))) (
br (decide (Int.tmod r0 8=1)) (
br (decide (0<(l1.length:Int))) (
some l1) (
ob (some (XN ((XN ((XN (y0+v0))+1))+1))) fun y3 =>
gd (lim (l1++([([y3,XN ((XN (y0+v0))+1),y0,XN (y0+1)],[])]:XB)).length) (
some (l1++([([y3,XN ((XN (y0+v0))+1),y0,XN (y0+1)],[])]:XB))))) (
ob (some (XN ((XN ((XN (y0+v0))+1))+1))) fun y4 =>
gd (lim (l1++([([y0,XN (y0+1),y4,XN ((XN (y0+v0))+1)],[])]:XB)).length) (
some (l1++([([y0,XN (y0+1),y4,XN ((XN (y0+v0))+1)],[])]:XB)))))) fun l3 =>
some (.inl (l3,XN (v1+1)))) (
some (.inr l1))
def pU(n:Nat)(v1:Int)(v2:Int)(l2:YB (Nat)):(XB×Int)->YA ((XB×Int)⊕XB):=fun(l1,v0) =>
br (decide (v0<v1)) (
ob (
bL (nF n v2 v0 l2) n (l1,0)) fun l3 =>
some (.inl (l3,XN (v0+1)))) (
some (.inr l1))
def Ml(n:Nat)(x1:Nat)(x2:Nat)(l1:YB (Nat))(l3:YB (Nat))(x3:Bool):YA (XD×XB) :=
ob (
br (x3) (
some (3,3)) (
some (XN (1+(XN ((x1%4:Nat):Int))),XN (1+(XN ((x2%3:Nat):Int)))))) fun(v0,v1) =>
ob (
bL (pW n v1 v0 l3) n (([]:XD),0,0)) fun l2 =>
br (x3) (
gd (lim (([]:XB)++([([0,1,2,3,7,11,15,14,13,12,8,4],[[5,9,10,6]])]:XB)).length) (
ob (
ob (Ht n l1 0) fun r0 =>
br (decide (Int.tmod r0 2=0)) (
gd (lim ((([]:XB)++([([0,1,2,3,7,11,15,14,13,12,8,4],[[5,9,10,6]])]:XB))++([([5,6,10,9],[])]:XB)).length) (
some ((([]:XB)++([([0,1,2,3,7,11,15,14,13,12,8,4],[[5,9,10,6]])]:XB))++([([5,6,10,9],[])]:XB)))) (
some (([]:XB)++([([0,1,2,3,7,11,15,14,13,12,8,4],[[5,9,10,6]])]:XB)))) fun l4 =>
some (l2,l4))) (
ob (
bL (pU n v1 v0 l1) n (([]:XB),0)) fun l5 =>
some (l2,l5))
def F7(n:Nat)(x1:Nat)(x2:Nat)(l3:YB (Nat))(l8:YB (Nat))(x13:Bool)(x14:Nat)(x15:Nat)(x16:Nat)(x17:Int)(x18:Int)(x19:Int)(x20:Nat)(x21:Nat)(x22:Nat)(x23:Int)(x24:Int)(x25:Int):YA (XD×XB×XD×XB×XD×XB) :=
ob (Ml n x1 x2 l3 l8 x13) fun(l30,l34) =>
ob (Qx n x14 x15 x16 x17 x18 x19 l30 l34) fun(l42,l46) =>
ob (Qx n x20 x21 x22 x23 x24 x25 l42 l46) fun(l54,l58) =>
some (l30,l34,l42,l46,l54,l58)
def Gd(n:Nat)(l2:XD)(l3:XB)(l4:XD)(l5:XB)(l6:XD)(l7:XB):Int->YA (Int⊕YC⊕YC):=fun v0 =>
br (decide (v0<3)) (
gd (cM v0 3) (
ob ([(l2,l3),(l4,l5),(l6,l7)][v0.toNat]?) fun(l8,l1) =>
ob (DV n l8 l1) fun(r3,r4,r0,r1,r5) =>
ob (
br (decide (r5=0)) (
br (decide (r1<XN ((XN (r3-r4))+r0))) (
some true) (
br (decide (r1<1)) (
some true) (
some (!decide (r0=(l1.length:Int)))))) (
some false)) fun v1 =>
br (v1) (
some (.inr (.inl ()))) (
some (.inl (XN (v0+1)))))) (
some (.inr (.inr ())))
def CC(n:Nat)(l2:YB Nat):(YB (Nat)×Int)->YA ((YB (Nat)×Int) ⊕(YB (Nat))):=fun(l1,v0) =>
br (decide (v0<(l2.length:Int))) (
ob (
gd (cM v0 l2.length) (
ob (l1[v0.toNat]?) fun x3 =>
br (decide (x3%8=1)) (
gd (cM v0 l2.length) (
some (l1.set v0.toNat 2))) (
some l1))) fun l3 =>
some (.inl (l3,XN (v0+1)))) (
some (.inr l1))
def F4(n:Nat)(x1:Nat)(x2:Nat)(l1:YB (Nat))(l2:YB (Nat))(x3:Bool)(x4:Nat)(x10:Nat)(x11:Nat)(x12:Int)(x13:Int)(x14:Int)(x15:Nat)(x16:Nat)(x17:Nat)(x18:Int)(x19:Int)(x20:Int):YA Bool :=
ob (F6 n) fun r1 =>
br (!r1) (
some false) (
ob (F7 n x1 x2 l1 l2 x3 x4 x10 x11 x12 x13 x14 x15 x16 x17 x18 x19 x20) fun(l4,l5,l6,l7,l8,l9) =>
ob (α:=(YC)⊕YC) (
bL (Gd n l4 l5 l6 l7 l8 l9) n 0) fun r3=>match r3 with
| .inl _ =>
some false
| .inr _ =>
ob (SU n l1) fun l3 =>
ob (
bL (CC n l3) n (l3,0)) fun l10 =>
ob (Ml n x1 x2 l10 l2 false) fun(l11,l12) =>
ob (DV n l11 l12) fun(r0,r4,r5,r6,r7) =>
br (decide (r7=0)) (
br (decide (r6=1)) (
br (decide (XN ((XN (r0-r4))+r5)=1)) (
ob (some (XN ((XN (2+(XN ((x1%4:Nat):Int))))*(XN (2+(XN ((x2%3:Nat):Int))))))) fun y0 =>
some (decide (r0=y0))) (
some false)) (
some false)) (
some false))
end
end Go.Proofs.Ytmndpgfbkicndaa
namespace Go.Ab.W
open Go Go.Ab
section
variable{P:XL}{ty:XJ}
def ME(P:XL)(ty u:XJ)(k:IntKind):Bool:=match P.underlying ty with
 | some (.struct fs) => !(P.stoodInHeld ty || fs.any (·.name == "_")) && (fs.toList.map (fun f => (f.type, f.offset)) == [(u, 0), (u, 1), (u, 2), (u, 3)]) && known P u && (match P.underlying u with | some (.int k') => k' == k | _ => false)
 | _=>false
def Gb {u : XJ} {k : IntKind} (h : ME P ty u k = true) : ∃ fs, P.underlying ty = some (.struct fs) /\ (P.stoodInHeld ty || fs.any (·.name == "_")) = false /\ fs.toList.map (fun f => (f.type, f.offset)) = [(u, 0), (u, 1), (u, 2), (u, 3)] /\
  known P u=true/\P.underlying u=some (.int k):=by
 unfold ME at h
 split at h
 rename_i fs hf;simp only[Va,Wa,beq_iff_eq] at h;obtain⟨⟨⟨h1,h2⟩,h3⟩,h5⟩:=h
 split at h5
 rename_i k' e1;simp only[beq_iff_eq] at h5;subst h5;exact⟨fs,hf,h1,h2,h3,e1⟩
 cases h5
 cases h
def Rf{u:XJ}{k:IntKind}(h:ME P ty u k=true)(x0 y0 x1 y1 x2 y2 x3 y3:Int) :
  k8 P Op.maxDepth ty (.agg #[.int k x0,.int k x1,.int k x2,.int k x3]) (.agg #[.int k y0,.int k y1,.int k y2,.int k y3])=some (decide (x0=y0)&&decide (x1=y1)&&decide (x2=y2)&&decide (x3=y3)):=by
 obtain⟨fs,hf,h1,h2,h3,h5⟩:=Gb h;have a1:eh P u=false:=by simp only[eh,h5]
 have p0:∀x y z w:XI,dA P u #[x,y,z,w] 0=some x:=fun x y z w=>by simp only[dA,h3,a1]; rfl
 have p1:∀x y z w:XI,dA P u #[x,y,z,w] 1=some y:=fun x y z w=>by simp only[dA,h3,a1]; rfl
 have p2:∀x y z w:XI,dA P u #[x,y,z,w] 2=some z:=fun x y z w=>by simp only[dA,h3,a1]; rfl
 have p3:∀x y z w:XI,dA P u #[x,y,z,w] 3=some w:=fun x y z w=>by simp only[dA,h3,a1]; rfl
 show k8 P (9999+1) ty _ _=_
 unfold k8;simp only[hf,h1,VG,if_false,h2];rw[oO (p0 _ _ _ _) (p0 _ _ _ _) (xW h5 9998 x0 y0) (oO (p1 _ _ _ _) (p1 _ _ _ _) (xW h5 9998 x1 y1) (oO (p2 _ _ _ _) (p2 _ _ _ _) (xW h5 9998 x2 y2) (oO (p3 _ _ _ _) (p3 _ _ _ _) (xW h5 9998 x3 y3) rfl)))];simp only[Bool.and_true,Bool.and_assoc]
end
section
variable{E:Env}{m0:Yq}{fs:Fs}{ps:YB Pc}{x:XK}{ty:XJ}
def ko{a:Addr}(h:ev E fs x=some (.pointer (some a))):Od E m0 fs ps (.nilCheck x) (.pointer (some a)) ps:=.pure (fun _=>rfl) fun t m hf K=>by
 show fh (match an E t x with
  | some (.pointer (some a))=>some (.pointer (some a),m)
  | some (.func (.func f) a b)=>some (.func (.func f) a b,m)
  | some (.func (.yield f) a b)=>some (.func (.yield f) a b,m)
  | _=>none) K=_
 rw[hf.ev h]; rfl
end
set_option maxRecDepth 10000
attribute [local irreducible] Tm.at Trie.set Trie.get Yq.get Yq.set Yq.alloc Yq.ww
section
variable{E:Env}{n:Nat}{m0:Yq}{fs:Fs}{ps:YB Pc}{x y z:XK}{v:XI}{ty ty2:XJ}
def NK{elem lo hi mx b o len cap w k:Nat}{cs:YB XI}{lx hx:YA XK}{l h:YA XI}(ht:SlT E.P ty elem w)(hv:ev E fs x=some (.slice (some ⟨b,o,none⟩) len cap))(e1:jJ E fs lx=some l)(e2:jJ E fs hx=some h)
  (hp:pk ps k=some (.obj b (.cells cs (.more w)))) (hb:bT len cap l h none=some (lo,hi,mx)) :
  Od E m0 fs ps (.slice ty x lx hx none) (if cap=lo then gV b else .slice (some ⟨b,o+lo*w,none⟩) (hi-lo) (cap-lo)) ps :=
 fun t m hf hm=>⟨fun b' hb'=>by
  have:dT (.slice (some ⟨b,o,none⟩) len cap)=some b:=rfl;simp only[aM,hf.ev hv,VE,this] at hb';cases hb'; exact(hm.get hp).2.1,fun K hK=>by
  have hg:=(hm.get hp).2.2;have hs:cd E.P ty (.slice (some ⟨b,o,none⟩) len cap) l h none m=some (if cap=lo then gV b else .slice (some ⟨b,o+lo*w,none⟩) (hi-lo) (cap-lo)):=by
   have hne:¬w≠w:=fun h=>h rfl;simp only[cd,ht.und,ht.known,if_true,hg,hb,ht.size,U3 hne]
   split<;>rfl
  rw[Go.Ab.pa (hf.ev hv) (hf.jJ e1) (hf.jJ e2) (show dY E t none=some none from rfl) hs]; exact hK m hm⟩
def Nt{elem lo hi mx b o len cap w k:Nat}{cs:YB XI}{lx hx:YA XK}{kx:XK}{l h:YA XI}{q:XI}(ht:SlT E.P ty elem w)(hv:ev E fs x=some (.slice (some ⟨b,o,none⟩) len cap))(e1:jJ E fs lx=some l)(e2:jJ E fs hx=some h)(e3:jJ E fs (some kx)=some (some q))
  (hp:pk ps k=some (.obj b (.cells cs (.more w)))) (hb:bT len cap l h (some q)=some (lo,hi,mx)) :
  Od E m0 fs ps (.slice ty x lx hx (some kx)) (if mx=lo/\hi=lo then .slice (some ⟨b,0,some 1⟩) 0 0 else .complex .f64 0 0) ps :=
 fun t m hf hm=>⟨fun b' hb'=>by
  have:dT (.slice (some ⟨b,o,none⟩) len cap)=some b:=rfl;simp only[aM,hf.ev hv,VE,this] at hb';cases hb'; exact(hm.get hp).2.1,fun K hK=>by
  have hg:=(hm.get hp).2.2;have hs:cd E.P ty (.slice (some ⟨b,o,none⟩) len cap) l h (some q) m=some (if mx=lo/\hi=lo then .slice (some ⟨b,0,some 1⟩) 0 0 else .complex .f64 0 0):=by
   have hne:¬w≠w:=fun h=>h rfl;simp only[cd,ht.und,ht.known,if_true,hg,hb,ht.size,U3 hne]
   split<;>rfl
  rw[Go.Ab.pa (hf.ev hv) (hf.jJ e1) (hf.jJ e2) (hf.jJ e3) hs]; exact hK m hm⟩
def Q0{elem w b o len cap l1 c0 k:Nat}{tg:Tag}{a0:XG}{cs new:YB XI}{ars:YD XK}(ht:SlT E.P ty elem w)(h0:∃e2,E.P.underlying ty2=some (.slice e2))(ha:ia E fs ars.toList=some [.slice (some ⟨b,o,none⟩) len cap,.slice a0 l1 c0])(hp:pk ps k=some (.obj b (.cells cs tg)))(htg:tv tg=true)
  (hs:∀m,Hp m0 m ps->cW w (.slice a0 l1 c0) l1 m=some new) (hnl:new.length=l1*w) (ho:aZ new=true) (hlim:lim (len+l1)=true) (hfit:len+l1<=cap) (hl:o+len*w+new.length<=cs.length) :
  Od E m0 fs ps (.call ⟨.builtin .append,ars,#[ty,ty2]⟩) (.slice (some ⟨b,o,none⟩) (len+l1) cap) (bJ ps k (.obj b (.cells (aB cs (o+len*w) new) tg))) :=
 fun t m hf hm=>⟨fun b' hb'=>by simp[aM] at hb',fun K hK=>by
  have hg:=(hm.get hp).2.2;obtain⟨e2,h0⟩:=h0;obtain⟨inf,h1,h2,h3⟩:=ht.bytes;have hlim':len+l1<=1073741824:=V7 hlim;have hfc:cS inf.bytes (len+l1)=true:=by
   simp only[cS,Vm]
   calc (2*(len+l1)+2000)*inf.bytes<=(2*1073741824+2000)*1024:=Wr (by omega) h3
    _<=2 ^ 48:=by decide
  have hguard:(!(known E.P elem)||aE E.P elem==0 || !aZ new || !(E.P.info? elem).any (fun i=>cS i.bytes (len+l1)&&i.bytes != 0)||new.length != l1*aE E.P elem || !(bp E.P elem).any (fun z=>z.cells.size==aE E.P elem&&z.cells.toList.all aP))=false:=by
   have hz:=ht.zero;have hp:=ht.pos;rw[ht.size];simp only[ht.known,ho,h1,Xx,hfc,hz,hnl];simp[h2]; omega
  have hnc:dZ E.P elem (some ty2) (.slice a0 l1 c0) m=some (l1,new):=by
   simp only[dZ,VE,h0,ht.size,hs m hm,Vx]
  by_cases hnil:new=[]
  subst hnil;have hsp:aB cs (o+len*w) []=cs:=by
   apply Wg;intro i;rw[aQ,U3 (by simp; omega)]
  have:bg E.P .append #[ty,ty2] [.slice (some ⟨b,o,none⟩) len cap,.slice a0 l1 c0] m=some (.slice (some ⟨b,o,none⟩) (len+l1) cap,m):=by
   show bS E.P ty (some ty2) _ _ m=_
   unfold bS;simp only[ht.und,hnc,hguard,VG,if_false,hg,U5 hfit,Yq.cU,Vx]
  rw[Go.Ab.dn (hf.ia ha) this];refine hK _ ?_;rw[hsp];have e:bJ ps k (.obj b (.cells cs tg))=ps:=rX _ _ _ hp;rw[e]; exact hm
  ·have hst:m.cU b (o+len*w) new=some (m.set b (.cells (aB cs (o+len*w) new) tg)):=by
    cases new with
    | nil=>exact Vr rfl hnil
    | cons a' new =>
     cases tg with
     | ro=>cases htg
     | own=>simp only[Yq.cU,hg,U5 hl]
     | more s=>simp only[Yq.cU,hg,U5 hl]
   have h4:m.cU b (o+len*aE E.P elem) new=some (m.set b (.cells (aB cs (o+len*w) new) tg)):=by rw[ht.size]; exact hst
   have:bg E.P .append #[ty,ty2] [.slice (some ⟨b,o,none⟩) len cap,.slice a0 l1 c0] m=some (.slice (some ⟨b,o,none⟩) (len+l1) cap,m.set b (.cells (aB cs (o+len*w) new) tg)):=by
    show bS E.P ty (some ty2) _ _ m=_
    unfold bS;simp only[ht.und,hnc,hguard,VG,if_false,hg,U5 hfit,h4,Vx]
   rw[Go.Ab.dn (hf.ia ha) this];exact hK _ (hm.write hp rfl rfl rfl rfl ⟨(hm.get hp).1,by rw[Yq.next_set]; exact(hm.get hp).2.1,by rw[Yq.bz,U5 rfl]⟩)⟩
def Ju{elem lo hi mx b o len cap w k:Nat}{cs:YB XI}{tg:Tag}{lx hx:YA XK}{l h:YA XI}(ht:SlT E.P ty elem w)(hv:ev E fs x=some (.slice (some ⟨b,o,none⟩) len cap))(e1:jJ E fs lx=some l)(e2:jJ E fs hx=some h)
  (hp:pk ps k=some (.obj b (.cells cs tg))) (htg:tg=.own\/tg=.more w) (hb:bT len cap l h none=some (lo,hi,mx)) (hmx:mx=cap) (hlo:cap≠lo) :
  Od E m0 fs ps (.slice ty x lx hx none) (.slice (some ⟨b,o+lo*w,none⟩) (hi-lo) (cap-lo)) ps:=by
 rcases htg with rfl|rfl
 subst hmx;exact EH ht hv e1 e2 (show jJ E fs none=some none from rfl) hp rfl hb (by rw[U3 hlo])
 have:=NK (m0:=m0) ht hv e1 e2 hp hb;rwa[U3 hlo] at this
def Ru{elem lo hi mx b o len cap w k:Nat}{cs:YB XI}{tg:Tag}{lx hx:YA XK}{kx:XK}{l h:YA XI}{q:XI}(ht:SlT E.P ty elem w)(hv:ev E fs x=some (.slice (some ⟨b,o,none⟩) len cap))(e1:jJ E fs lx=some l)(e2:jJ E fs hx=some h)(e3:jJ E fs (some kx)=some (some q))
  (hp:pk ps k=some (.obj b (.cells cs tg))) (htg:tg=.own\/tg=.more w) (hb:bT len cap l h (some q)=some (lo,hi,mx)) :
  Ox E m0 fs ps (.slice ty x lx hx (some kx)) (fun v:XI=>v) (fun _=>ps):=by
 rcases htg with rfl|rfl
 exact fun t m hf hm=>⟨(EH (m0:=m0) ht hv e1 e2 e3 hp rfl hb rfl t m hf hm).1,fun K hK=>(EH (m0:=m0) ht hv e1 e2 e3 hp rfl hb rfl t m hf hm).2 K (hK _)⟩
 exact fun t m hf hm=>⟨(Nt (m0:=m0) ht hv e1 e2 e3 hp hb t m hf hm).1,fun K hK=>(Nt (m0:=m0) ht hv e1 e2 e3 hp hb t m hf hm).2 K (hK _)⟩
def RF{elem b w k j nn:Nat}{cs:YB XI}{tg:Tag}{lx:YA XK}{l:YA XI}(ht:SlT E.P ty elem w)(hv:ev E fs x=some (.slice (some ⟨b,0,none⟩) nn nn))(e1:jJ E fs lx=some l)
  (hp:pk ps k=some (.obj b (.cells cs tg))) (htg:tg=.own\/tg=.more w) (hj:j<=nn) (hb:bT nn nn l none none=some (j,nn,nn)) (hcl:nn*w<=cs.length) :
  Ox E m0 fs ps (.slice ty x lx none none) (fun A:{ A:Addr // ∀m,Hp m0 m ps->cW w (.slice (some A) (nn-j) (nn-j)) (nn-j) m=some ((cs.drop (j*w)).take ((nn-j)*w))}=>.slice (some A.1) (nn-j) (nn-j)) (fun _=>ps):=by
 by_cases h:nn=j
 subst h;have h0:∀A m,cW w (.slice (some A) (nn-nn) (nn-nn)) (nn-nn) m=some ((cs.drop (nn*w)).take ((nn-nn)*w)):=fun A m=>by
  obtain⟨ab,ao,ax⟩:=A;cases ax<;>simp[cW]
 rcases htg with rfl|rfl
 have h1:=EH (m0:=m0) ht hv e1 (show jJ E fs none=some none from rfl) (show jJ E fs none=some none from rfl) hp rfl hb rfl
 rw[U5 rfl] at h1;exact fun t m hf hm=>⟨(h1 t m hf hm).1,fun K hK=>(h1 t m hf hm).2 K (hK ⟨_,fun m' _=>h0 _ m'⟩)⟩
 have h1:=NK (m0:=m0) ht hv e1 (show jJ E fs none=some none from rfl) hp hb
 rw[U5 rfl] at h1;have h2:gV b=.slice (some ⟨b,0,some 0⟩) (nn-nn) (nn-nn):=by rw[Xz]; rfl
 rw[h2] at h1;exact fun t m hf hm=>⟨(h1 t m hf hm).1,fun K hK=>(h1 t m hf hm).2 K (hK ⟨_,fun m' _=>h0 _ m'⟩)⟩
 have h1:=Ju (m0:=m0) ht hv e1 (show jJ E fs none=some none from rfl) hp htg hb rfl h
 exact fun t m hf hm=>⟨(h1 t m hf hm).1,fun K hK=>(h1 t m hf hm).2 K (hK ⟨_,fun m' hm'=>by
  have:=Mu (b:=b) (o:=0+j*w) (l:=nn-j) (c:=nn-j) (w:=w) (q:=nn-j) (k:=k) hm' hp (by omega) (by
   have:j*w+(nn-j)*w=nn*w:=by rw[<-WW]; congr 1; omega
   omega)
  rw[this,VC]⟩)⟩
end
end Go.Ab.W
namespace Go.Proofs.Ytmndpgfbkicndaa
open Go Go.Ab Go.Ab.W
set_option maxRecDepth 10000
set_option maxHeartbeats 4000000
attribute [local irreducible] Tm.at Trie.set Trie.get Yq.get Yq.set Yq.alloc Yq.ww Yq.kill
variable{p q:YA Prim}
def bA(k:IntKind){x y:Nat}(h:x<=y):kg (.int k (x:Int)) y=some x:=by
 simp only[kg]; rw[U5 ⟨by omega,by omega⟩,VH]
def TP{len cap lo hi mx:Nat}{k1 k2 k3:IntKind}(h1:lo<=hi)(h2:hi<=mx)(h3:mx<=cap):bT len cap (some (.int k1 (lo:Int))) (some (.int k2 (hi:Int))) (some (.int k3 (mx:Int)))=some (lo,hi,mx):=by
 unfold bT; simp only[bA _ h3,bA _ h2,bA _ h1]
def S6{len cap hi:Nat}{k2:IntKind}(h2:hi<=cap):bT len cap none (some (.int k2 (hi:Int))) none=some (0,hi,cap):=by
 unfold bT; simp only[bA _ h2]
def T2{len cap lo:Nat}{k1:IntKind}(h1:lo<=len):bT len cap (some (.int k1 (lo:Int))) none none=some (lo,len,cap):=by
 unfold bT; simp only[bA _ h1]
def SB{len cap lo hi:Nat}{k1 k2:IntKind}(h1:lo<=hi)(h2:hi<=cap):bT len cap (some (.int k1 (lo:Int))) (some (.int k2 (hi:Int))) none=some (lo,hi,cap):=by
 unfold bT; simp only[bA _ h2,bA _ h1]
def P6{a b:Nat}(h:lim a=true)(hb:b<=a):lim b=true:=Nat.ble_eq_true_of_le (VK hb (V7 h))
def Cg{l l':YB XI}(h:aZ l=true)(hs:∀v∈l',v∈l):aZ l'=true:=Vo.2 fun v hv=>Vo.1 h v (hs v hv)
def Bu{cs new zs:YB XI}{p q:Nat}(hq:q=p+new.length)(hl:q<=cs.length):(aB (aB cs p new) q zs).take q=cs.take p++new:=by
 apply Wg;intro k;have hp:(cs.take p).length=p:=by rw[Vw]; omega
 rw[Wj]
 split
 rw[aQ,XP,aQ]
 by_cases hk:k<p
 rw[XP,VU (by rw[hp]; exact hk),Wj,U5 hk]
 rw[U5 ⟨by omega,by omega,by omega⟩,VO (by rw[hp]; omega),hp]
 rw[V8 (by rw[Vd,hp]; omega)]
def Tx{n:Nat}:gq (Yt p q).P 54 n=some (bl [.slice none 0 0,.slice none 0 0] n):=by
 have:bp (Yt p q).P 54=some (.agg #[.slice none 0 0,.slice none 0 0]):=by kernel_rfl
 have hs:aE (Yt p q).P 54=2:=by kernel_rfl
 simp only[gq,this,hs]; rfl
def Ir{m0 m:Yq}{rest:YB Pc}{b n i j:Nat}{cs:YB XI}{tg:Tag}(htg:tg=.own\/tg=.more 2)(hm:Hp m0 m (.obj b (.cells cs tg)::rest))(hcl:cs.length=n*2)(hone:aZ cs=true)(hij:i<j)(hjn:j<=n)(hlim:lim n=true) :
  aK (Yt p q) 45 [.slice (some ⟨b,0,none⟩) n n,.int .i64 (i:Int),.int .i64 (j:Int)] m fun v m'=>v=.slice (some ⟨b,0,none⟩) (n-(j-i)) n /\
   ∃cs',Hp m0 m' (.obj b (.cells cs' tg)::rest)/\cs'.length=cs.length/\cs'.take ((n-(j-i))*2)=cs.take (i*2)++(cs.drop (j*2)).take ((n-j)*2):=by
 have hro:tv tg=true:=by rcases htg with rfl|rfl<;>rfl
 refine aS (m0:=m0) (ps:=.obj b (.cells cs tg)::rest) (N:=33) (rs:=[.tmp 6]) rfl Try.func45 rfl rfl rfl hm ?_;refine XS ?_;refine XT ?_;refine XR (bE rfl) rfl ?_;refine XW ?_;refine XX ?_;refine XS ?_;refine XT ?_;refine XR (aX rfl) rfl ?_;refine XR (aX rfl) rfl ?_;refine XR (aX rfl) rfl ?_;refine XR (aX rfl) rfl ?_;refine XR (qv (k:=0) u32 rfl rfl (.inl rfl)) rfl ?_;refine X1 (Ru (k:=0) kJ rfl rfl rfl rfl rfl htg (TP (Nat.le_of_lt hij) hjn (U8 n))) gn rfl fun _=>?_;refine XW ?_;refine XX ?_;refine XS ?_;refine XS ?_;refine XT ?_;refine XR (aX rfl) rfl ?_;refine XR (aX rfl) rfl ?_;refine XR (aL rfl rfl (Kh _ _)) rfl ?_;refine XW ?_;refine XX ?_;refine Yc rfl (Vj (Nat.ne_of_lt hij)) ?_;refine X9 ?_;refine XX ?_;refine XS ?_;refine XT ?_;refine XR (aX rfl) rfl ?_;refine XR (qv (k:=0) u32 rfl rfl (.inl rfl)) rfl ?_;refine XR (bE rfl) rfl ?_;refine XW ?_;refine XX ?_;refine XS ?_;refine Wk.draw (by kernel_rfl) ?_
 refine XR (aX rfl) rfl ?_;refine XR (aX rfl) rfl ?_;refine XR (Ju (k:=0) kJ rfl rfl rfl rfl htg (S6 (by omega)) rfl (by omega)) rfl ?_
 refine XR (aX rfl) rfl ?_;refine XR (aX rfl) rfl ?_;refine X1 (RF (k:=0) kJ rfl rfl rfl htg hjn (T2 hjn) (by omega)) gn rfl fun A=>?_
 have hnl:((cs.drop (j*2)).take ((n-j)*2)).length=(n-j)*2:=by simp; omega
 have ho1:aZ ((cs.drop (j*2)).take ((n-j)*2))=true:=Cg hone fun v hv=>WD (WC hv);refine XR (Q0 (k:=0) kJ ⟨_,u32⟩ rfl rfl hro A.2 hnl ho1 (P6 hlim (by omega)) (by omega) (by rw[hnl]; omega)) rfl ?_
 refine XR (bE rfl) rfl ?_;refine XW ?_;refine XX ?_;refine XS ?_;refine XT ?_;refine XR (aX rfl) rfl ?_;refine XR (aX rfl) rfl ?_;refine XR (qv (k:=0) u32 rfl rfl (.inl rfl)) rfl ?_;refine XR (aX rfl) rfl ?_;refine XR (Ju (k:=0) kJ rfl rfl rfl rfl htg (SB (by omega) (by omega)) rfl (by omega)) rfl ?_
 refine X8 (QM (k:=0) (zs:=bl [.slice none 0 0,.slice none 0 0] (n-(i-0+(n-j)))) kJ rfl rfl hro (by omega) Tx (eS (by decide) _) (by intro e; have:=Vs List.length e; rw[bO] at this; simp at this; omega) (by rw[bO,bc]; simp; omega)) ?_
 refine XW ?_;refine XX ?_;refine XS ?_;refine XT ?_;refine XR (aX rfl) rfl ?_;refine XR (bE rfl) rfl ?_;refine XW ?_;refine XX ?_;refine Yb ?_;refine X2 (.tmp rfl .nil) fun m' hm'=>⟨?_,_,hm',?_,?_⟩
 rw[show i-0+(n-j)=n-(j-i) by omega,WK]; rfl
 rw[bc,bc]
 rw[show(n-(j-i))*2=0+(i-0+(n-j))*2 by omega]
 rw[Bu (by rw[hnl]; omega) (by omega),VC,WK]
end Go.Proofs.Ytmndpgfbkicndaa
namespace Go.Ab.W
open Go Go.Ab
attribute [local irreducible] Tm.at Trie.set Trie.get Yq.get Yq.set Yq.alloc Yq.ww Yq.kill
section
variable{α:Type}{r:Rep α}{o:Orp r}{E:Env}{n:Nat}{m0 m:Yq}{fs:Fs}{ps:YB Pc}{dr:Bool}{ops:YD Oper}{K:Tm->Yq->Prop}{os:YB Oper}{prs:YB (Nat×Nat)}{ss:YB Nk}{ty:XJ}
def ai.Ef:ai m0 ps (.gen (cY o (fun _=>False) [] [])::ps):=fun _ hm=>hm.Ef
def Wo.wS{x:α}{g:o.G}{qs:YB Pc}(hq:o.N x g++ps=qs)(k:∀S,Wo dr E n ops K os m0 fs (.gen (cY o S [x] [o.V x g])::ps)):Wo dr E n ops K os m0 fs qs :=
 Wo.qE (N:=fun S=>.gen (cY o S [x] [o.V x g])::ps) (fun m hm=>⟨_,Hp.wS (by rw[hq]; exact hm)⟩) k
def Wn.wS{x:α}{g:o.G}{qs:YB Pc}(hq:o.N x g++ps=qs)(k:∀S,Wn E n ops prs K os ss m0 fs (.gen (cY o S [x] [o.V x g])::ps)):Wn E n ops prs K os ss m0 fs qs :=
 Wn.qE (N:=fun S=>.gen (cY o S [x] [o.V x g])::ps) (fun m hm=>⟨_,Hp.wS (by rw[hq]; exact hm)⟩) k
def uR{elem ty2:XJ}{w c0 l l1:Nat}{a a0:XG}{S S':XH}{L L':YB α}{es es':XF}{ars:YD XK}{p0:Pc}(ht:SlT E.P ty elem w)(h3:∃e2,E.P.underlying ty2=some (.slice e2))(ha:ia E fs ars.toList=some [.slice a l l,.slice a0 l1 c0])(hr:IsRd p0 a0 c0 w l1 es')(hw:r.w=w)(hl:lim (L++L').length=true) :
  Ox E m0 fs (.gen (cY o S L es)::.gen (cY o S' L' es')::.sl a w l es::p0::ps) (.call ⟨.builtin .append,ars,#[ty,ty2]⟩) (fun y:XG ×(Nat->Prop)=>.slice y.1 (L++L').length (L++L').length)
   (fun y=>.gen (cY o y.2 (L++L') (es++es'))::.sl y.1 w (L++L').length (es++es')::p0::ps):=fun t m hf hm=>⟨fun b hb=>(by simp[aM] at hb),fun K hK=>by
 have e1:l=L.length:=by rw[Pc.wA (hm.get (k:=2) rfl),uZ hm (q:=0) rfl]
 have e2:l1=L'.length:=by rw[<-(hm.rd (k:=3) rfl hr).1,uZ hm (q:=1) rfl]
 have e0:l+l1=(L++L').length:=by rw[e1,e2,Vd]
 obtain⟨⟨qs,h0,_⟩,_⟩:=(hm.get (k:=1) rfl).1;obtain⟨S'',h1⟩:=hm.Gw;obtain⟨a',m',h4,h2⟩:=rB (n:=l) (k:=1) ht h3 h1 rfl (h1.rd (k:=2) rfl hr) (fun e he=>by rw[<-hw]; exact(h0.cells e he).1) (fun e he=>(h0.cells e he).2) (by rw[e0]; exact hl)
 have:bg E.P .append #[ty,ty2] [.slice a l l,.slice a0 l1 c0] m=some (.slice a' (l+l1) (l+l1),m'):=h4;rw[Go.Ab.dn (hf.ia ha) this];rw[e0] at h2 ⊢;exact hK (a',S'') m' h2⟩
end
def iX{γ:Type}{l:YB γ}{j:Nat}{e:γ}(h:l[j]? = some e):l.set j e=l:=by
 apply Wg;intro i;rw[List.getElem?_set]
 split
 rename_i hij; subst hij;rw[U5 (Vn.1 h).1,h]
 rfl
def dj{γ:Type}{l:YB γ}{j:Nat}{e e':γ}(h:l[j]? = some e):(l.set j e')[j]? = some e':=by
 rw[List.getElem?_set,U5 rfl,U5 (Vn.1 h).1]
section
variable{α β:Type}{r:Rep α}{o:Orp r}{E:Env}{n:Nat}{m0 m:Yq}{fs:Fs}{ps qs:YB Pc}{dr:Bool}{ops:YD Oper}{K:Tm->Yq->Prop}{os:YB Oper}{prs:YB (Nat×Nat)}{ss:YB Nk}{ty:XJ}{Q:Yr->Tm->Yq->Prop}
def ai.oq{k b w l:Nat}{es es':XF}{tg:Tag}(hp:pk ps k=some (.arr b w l es tg))(h:es=es'):ai m0 ps (bJ ps k (.arr b w l es' tg)):=fun m hm=>by
 subst h; rw[rX _ _ _ hp]; exact hm
def At.qE{e:Yr}{β:Type}{N:β->YB Pc}(h:∀m,Hp m0 m ps->∃y,Hp m0 m (N y))(k:∀y,At Q e m0 fs (N y)):At Q e m0 fs ps:=fun t m hf hm=>by
 obtain⟨y,hy⟩:=h m hm; exact k y t m hf hy
def AK{S:XH}{L:YB α}{es:XF}{j:Nat}{x:α}(hl:L[j]? = some x):∀m,Hp m0 m (.gen (cY o S L es)::ps) ->
  ∃z:{ z:o.G ×(Nat->Prop) ×(Nat->Prop) // es[j]? = some (o.V x z.1)},Hp m0 m (o.N x z.1.1++(.gen (cY o z.1.2.1 (L.take j) (es.take j))::.gen (cY o z.1.2.2 (L.drop (j+1)) (es.drop (j+1)))::ps)):=fun m hm=>by
 obtain⟨g,S1,S2,he,h⟩:=hm.KU hl;exact⟨⟨(g,S1,S2),he⟩,h⟩
def Wo.D1{S:XH}{L:YB α}{es:XF}{j:Nat}{x:α}{N:o.G->(Nat->Prop)->(Nat->Prop)->YB Pc}(hl:L[j]? = some x)(hN:∀g S1 S2,N g S1 S2=o.N x g++(.gen (cY o S1 (L.take j) (es.take j))::.gen (cY o S2 (L.drop (j+1)) (es.drop (j+1)))::ps))(k:∀g S1 S2,es[j]? = some (o.V x g)->Wo dr E n ops K os m0 fs (N g S1 S2)) :
  Wo dr E n ops K os m0 fs (.gen (cY o S L es)::ps):=Wo.qE (AK hl) fun z=>by rw[<-hN]; exact k _ _ _ z.2
def Wn.D1{S:XH}{L:YB α}{es:XF}{j:Nat}{x:α}{N:o.G->(Nat->Prop)->(Nat->Prop)->YB Pc}(hl:L[j]? = some x)(hN:∀g S1 S2,N g S1 S2=o.N x g++(.gen (cY o S1 (L.take j) (es.take j))::.gen (cY o S2 (L.drop (j+1)) (es.drop (j+1)))::ps))(k:∀g S1 S2,es[j]? = some (o.V x g)->Wn E n ops prs K os ss m0 fs (N g S1 S2)) :
  Wn E n ops prs K os ss m0 fs (.gen (cY o S L es)::ps):=Wn.qE (AK hl) fun z=>by rw[<-hN]; exact k _ _ _ z.2
def A5{S1 S2:XH}{L:YB α}{es:XF}{j:Nat}{x:α}{g:o.G}(hl:L[j]? = some x)(he:es[j]? = some (o.V x g))(hq:o.N x g++(.gen (cY o S1 (L.take j) (es.take j))::.gen (cY o S2 (L.drop (j+1)) (es.drop (j+1)))::ps)=qs):∀m,Hp m0 m qs->∃S,Hp m0 m (.gen (cY o S L es)::ps):=fun m hm=>by
 rw[<-hq] at hm;obtain⟨S,h⟩:=hm.E8 hl he;rw[iX hl,iX he] at h;exact⟨S,h⟩
def Wo.HV{S1 S2:XH}{L:YB α}{es:XF}{j:Nat}{x:α}{g:o.G}(hl:L[j]? = some x)(he:es[j]? = some (o.V x g))(hq:o.N x g++(.gen (cY o S1 (L.take j) (es.take j))::.gen (cY o S2 (L.drop (j+1)) (es.drop (j+1)))::ps)=qs)(k:∀S,Wo dr E n ops K os m0 fs (.gen (cY o S L es)::ps)):Wo dr E n ops K os m0 fs qs:=Wo.qE (A5 hl he hq) k
def Wn.HV{S1 S2:XH}{L:YB α}{es:XF}{j:Nat}{x:α}{g:o.G}(hl:L[j]? = some x)(he:es[j]? = some (o.V x g))(hq:o.N x g++(.gen (cY o S1 (L.take j) (es.take j))::.gen (cY o S2 (L.drop (j+1)) (es.drop (j+1)))::ps)=qs)(k:∀S,Wn E n ops prs K os ss m0 fs (.gen (cY o S L es)::ps)):Wn E n ops prs K os ss m0 fs qs:=Wn.qE (A5 hl he hq) k
def ai.iT{S:XH}{L:YB α}{es:XF}:ai m0 (.gen (cY o S L es)::ps) (.gen (cE r S L es)::ps):=fun _ hm=>hm.vP
def Iz{S1 S2 S:XH}{L:YB α}{es:XF}{j:Nat}{x y:α}{e:YB XI}{g:r.G}(hl:L[j]? = some x)(he:es[j]? = some e)(hf:Lf m0 ps r y g S):∀m,Hp m0 m (.gen (cY o S1 (L.take j) (es.take j))::.gen (cY o S2 (L.drop (j+1)) (es.drop (j+1)))::ps)->∃R,Hp m0 m (.gen (cE r R (L.set j y) (es.set j (r.V y g)))::ps):=fun m hm=>by
 have h1:=hm.vP;have h2:Hp m0 m (.gen (cY o S2 (L.drop (j+1)) (es.drop (j+1)))::.gen (cE r S1 (L.take j) (es.take j))::ps):=h1.perm (List.Perm.swap _ _ _);have h3:=h2.vP;have h0:Hp m0 m ps:=by
  have:=h3.ok;exact⟨h3.ext,fun p hp=>h3.ok p (Ve _ (Ve _ hp)),(VA.1 (VA.1 h3.apart).2).2⟩
 obtain⟨a1,a2⟩:=hf m h0;have h4:jg m0 (.gen (cE r S2 (L.drop (j+1)) (es.drop (j+1)))::.gen (cE r S1 (L.take j) (es.take j))::ps) r [y] [r.V y g] (fun b=>S b\/False):=fun m' hm'=>by
  have h5:Hp m0 m' ps:=⟨hm'.ext,fun p hp=>hm'.ok p (Ve _ (Ve _ hp)),(VA.1 (VA.1 hm'.apart).2).2⟩;obtain⟨b1,b2⟩:=hf m' h5;refine⟨.cons (r.mono b1 fun _ h=>.inl h) .nil,fun b hb=>?_⟩;obtain⟨q,hq,h⟩:=b2 b (hb.elim id False.elim);exact⟨q,Ve _ (Ve _ hq),h⟩
 have h6:=ai.dp h4 m h3;have h7:=ai.Eu (m0:=m0) (q:=0) (q2:=1) rfl rfl m h6;have h8:=ai.Eu (m0:=m0) (q:=2) (q2:=0) rfl rfl m h7;have h9:Hp m0 m (.gen (cE r (fun b=>S1 b\/((S b\/False)\/S2 b)) (L.take j++([y]++L.drop (j+1))) (es.take j++([r.V y g]++es.drop (j+1))))::ps):=⟨h8.ext,fun p hp=>h8.ok p (Ve _ (Ve _ hp)),(VA.1 (VA.1 h8.apart).2).2⟩;refine⟨fun b=>S1 b\/((S b\/False)\/S2 b),?_⟩;rw[iH y (Vn.1 hl).1,iH (r.V y g) (Vn.1 he).1];exact h9
def At.jt{ex:Yr}{S1 S2 S:XH}{L:YB α}{es:XF}{j:Nat}{x y:α}{e:YB XI}{g:r.G}(hl:L[j]? = some x)(he:es[j]? = some e){e2:YB XI}(hf:Lf m0 ps r y g S)(hV:∀m,Hp m0 m ps->r.V y g=e2)(k:∀R,At Q ex m0 fs (.gen (cE r R (L.set j y) (es.set j e2))::ps)) :
  At Q ex m0 fs (.gen (cY o S1 (L.take j) (es.take j))::.gen (cY o S2 (L.drop (j+1)) (es.drop (j+1)))::ps):=At.qE (fun m hm=>by
 obtain⟨R,hR⟩:=Iz hl he hf m hm;have h0:Hp m0 m ps:=⟨hR.ext,fun p hp=>hR.ok p (Ve _ hp),(VA.1 hR.apart).2⟩;rw[hV m h0] at hR;exact⟨R,hR⟩) k
def Hp.RB{f:β->YB XI}{w:Nat}{r2:Rep α}{o2:Orp r2}{S:XH}{L:YB (YB β×α)}{es:XF}{k q:Nat}{x:YB β×α}(hm:Hp m0 m ps)(hq:pk ps q=some (.gen (cY (oP (oS f w) o2) S L es)))(hl:L[k]? = some x) :
  ∃a h,es[k]? = some (.slice a x.1.length x.1.length::h)/\Rd m a x.1.length w x.1.length (x.1.map f):=by
 obtain⟨⟨qs,h1,h2⟩,_⟩:=(hm.get hq).1;obtain⟨q1,q2,rfl,h3,h4⟩:=h1.split k;have hk:k<L.length:=(Vn.1 hl).1;have hke:k<es.length:=by rw[h1.len]; exact hk
 have hd:L.drop k=x::L.drop (k+1):=by
  rw[W9 hk];rw[U4 hk] at hl;rw[U9 hl]
 rw[hd,W9 hke] at h4;obtain⟨g,q3,e1,rfl,h5⟩:=h4;have hmem:(.sl g.1 w x.1.length (x.1.map f):Pc)∈q1++((oP (oS f w) o2).N x g++q3):=Vv _ (Vl _ (Vl _ (Vb.2 rfl)));refine⟨g.1,o2.V x.2 g.2,by rw[U4 hke,e1]; rfl,?_⟩
 exact Pc.FK (p:=.sl g.1 w x.1.length (x.1.map f)) (h2.1 _ hmem).1 (.sl ..)
def Wo.OS{k q w l:Nat}{a:XG}{S:XH}{L:YB α}{es:XF}(hp:pk ps k=some (.sl a w l es))(hq:pk ps q=some (.gen (cY o S L es)))(h:l=L.length->Wo dr E n ops K os m0 fs ps):Wo dr E n ops K os m0 fs ps:=by
 have key:∀m,Hp m0 m ps->l=L.length:=fun m hm=>(Pc.wA (hm.get hp)).trans (uZ hm hq);cases dr with
 | false=>exact fun t m hf hm=>h (key m hm) t m hf hm
 | true=>exact fun t m w hf hm hw=>h (key m hm) t m w hf hm hw
def Wn.OS{k q w l:Nat}{a:XG}{S:XH}{L:YB α}{es:XF}(hp:pk ps k=some (.sl a w l es))(hq:pk ps q=some (.gen (cY o S L es)))(h:l=L.length->Wn E n ops prs K os ss m0 fs ps):Wn E n ops prs K os ss m0 fs ps :=
 fun t m ns hf hm hn=>h ((Pc.wA (hm.get hp)).trans (uZ hm hq)) t m ns hf hm hn
def E5:∀p ∈([]:YB Pc),p.bound=true/\∀b,p.any b->p.ow b:=fun p hp=>by cases hp
def zv{l:YB Pc}{a:XG}{w k:Nat}{es:XF}(h:∀p∈l,p.bound=true/\∀b,p.any b->p.ow b):∀p ∈(Pc.sl a w k es::l),p.bound=true/\∀b,p.any b->p.ow b:=fun p hp=>by
 rcases Vu.1 hp with rfl|hp
 exact⟨rfl,fun b hb=>CA hb⟩
 exact h p hp
def GB{l:YB Pc}{S:XH}{L:YB α}{es:XF}(h:∀p∈l,p.bound=true/\∀b,p.any b->p.ow b):∀p ∈(Pc.gen (cY o S L es)::l),p.bound=true/\∀b,p.any b->p.ow b:=fun p hp=>by
 rcases Vu.1 hp with rfl|hp
 exact⟨rfl,fun b hb=>hb.elim (fun h=>by cases h) fun h=>h.elim (fun h=>.inr h) fun h=>h.elim⟩
 exact h p hp
def Hp.od{q:Nat}{S:XH}{L:YB α}{es:XF}(hm:Hp m0 m ps)(hq:pk ps q=some (.gen (cY o S L es))):(cE r S L es).P m:=by
 obtain⟨⟨qs,h1,h2⟩,h3⟩:=(hm.get hq).1;exact⟨h1.IQ (fun p hp=>(h2.1 p hp).1) fun p hp b hb=>(h2.1 p hp).2.2.2 b ((h2.1 p hp).2.2.1 b hb),h3⟩
def Hp.tH{f:β->YB XI}{w:Nat}{r2:Rep α}{o2:Orp r2}{S1 S2:XH}{L:YB (YB β×α)}{es:XF}{j k q0 q1 q2:Nat}{z x:YB β×α}{a0:XG}{h0:YB XI}(hm:Hp m0 m ps)(hl:L[j]? = some z)(he:es[j]? = some (.slice a0 z.1.length z.1.length::h0))(hx:L[k]? = some x)
  (hq0:pk ps q0=some (.sl a0 w z.1.length (z.1.map f))) (hq1:pk ps q1=some (.gen (cY (oP (oS f w) o2) S1 (L.take j) (es.take j)))) (hq2:pk ps q2=some (.gen (cY (oP (oS f w) o2) S2 (L.drop (j+1)) (es.drop (j+1))))) :
  ∃a h,es[k]? = some (.slice a x.1.length x.1.length::h)/\Rd m a x.1.length w x.1.length (x.1.map f):=by
 rcases Xk k j with h|h|h
 obtain⟨a,t,h1,h2⟩:=hm.RB (k:=k) (x:=x) hq1 (by rw[Wj,U5 h]; exact hx)
 rw[Wj,U5 h] at h1;exact⟨a,t,h1,h2⟩
 subst h;rw[hl] at hx; cases hx;exact⟨a0,h0,he,Pc.FK (hm.get hq0) (.sl ..)⟩
 obtain⟨a,t,h1,h2⟩:=hm.RB (k:=k-(j+1)) (x:=x) hq2 (by rw[Wl,show j+1+(k-(j+1))=k by omega]; exact hx)
 rw[Wl,show j+1+(k-(j+1))=k by omega] at h1
 exact⟨a,t,h1,h2⟩
def Wn.tH{f:β->YB XI}{w:Nat}{r2:Rep α}{o2:Orp r2}{S1 S2:XH}{L:YB (YB β×α)}{es:XF}{j k q0 q1 q2:Nat}{z x:YB β×α}{a0:XG}{h0:YB XI}(hl:L[j]? = some z)(he:es[j]? = some (.slice a0 z.1.length z.1.length::h0))(hx:L[k]? = some x)
  (hq0:pk ps q0=some (.sl a0 w z.1.length (z.1.map f))) (hq1:pk ps q1=some (.gen (cY (oP (oS f w) o2) S1 (L.take j) (es.take j)))) (hq2:pk ps q2=some (.gen (cY (oP (oS f w) o2) S2 (L.drop (j+1)) (es.drop (j+1)))))
  (kk:∀a h,es[k]? = some (.slice a x.1.length x.1.length::h)->(∀m,Hp m0 m ps->Rd m a x.1.length w x.1.length (x.1.map f))->Wn E n ops prs K os ss m0 fs ps):Wn E n ops prs K os ss m0 fs ps:=fun t m ns hf hm hn=>by
 obtain⟨a,h,h1,_⟩:=hm.tH hl he hx hq0 hq1 hq2;refine kk a h h1 (fun m' hm'=>?_) t m ns hf hm hn;obtain⟨a',h',h3,h4⟩:=hm'.tH hl he hx hq0 hq1 hq2;rw[h1] at h3;have e:=WB (U9 h3);injection e with e;rw[e]; exact h4
def Lf.sr{f:β->YB XI}{a:XG}{k cap w l:Nat}{xs:YB β}(hp:pk ps k=some (.rd a cap w l (xs.map f))):Lf m0 ps (rS f w) xs (a,cap) (fun b=>mz a=some b):=fun m hm=>by
 have e:=sA hm hp;subst e;exact Lf.s hp m hm
def Lf.lr{a:XG}{k cap w q l:Nat}{R:XH}{xs:YB α}{es:XF}(hp:pk ps k=some (.rd a cap w l es))(hq:pk ps q=some (.gen (cE r R xs es)))(hw:r.w=w):Lf m0 ps (rL r) xs (a,cap,es) (fun b=>mz a=some b\/R b):=fun m hm=>by
 have e:l=xs.length:=(hm.get hp).1.symm.trans (nD hm hq);subst e;exact Lf.l hp hq hw m hm
end
end Go.Ab.W
namespace Go.Proofs.Ytmndpgfbkicndaa
section
open Go Go.Ab Go.Ab.W
set_option maxRecDepth 10000
set_option maxHeartbeats 4000000
attribute [local irreducible] Wo Wk At Wn Od Ox bj bW
attribute [local irreducible] Tm.at Trie.set Trie.get Yq.get Yq.set Yq.alloc Yq.ww Yq.kill
variable{p q:YA Prim}
def tG:bp (Yt p q).P 34=some (.agg #[.slice none 0 0,.slice none 0 0]):=by kernel_rfl
def Du:BdT (Yt p q).P 34 (.agg #[.slice none 0 0,.slice none 0 0]) [(0,1),(1,1)]:=.mk' (by kernel_rfl) (by kernel_rfl)
def oC:BdT (Yt p q).P 54 (.agg #[.slice none 0 0,.slice none 0 0]) [(0,1),(1,1)]:=.mk' (by kernel_rfl) (by kernel_rfl)
abbrev iV:Orp bq:=(oS (eI .i64) 1)
abbrev cH:Orp al:=(oP (oS (eI .i64) 1) (oL iV))
def IV{n l7 l1 a7 c1 a8 c2}{r0:XH}{e0:XF}{r}(hF:QB n l7 l1=some r)(m)(h2:lF m a7 c1 l7)(h3:pC m a8 c2 l1 e0)(h4:(cE al r0 l1 e0).P m):
 aK (Yt p q) 44 [mU a7 l7 c1 a8 l1 c2] m (fun v m'=>∃x:XG×Nat×XG×Nat×XF ×(Nat->Prop),v=.agg #[.slice x.1 x.2.1 x.2.1,.slice x.2.2.1 x.2.2.2.1 x.2.2.2.1]/\Hp m m' [.sl x.1 2 x.2.1 (r.1.map (eP (eI .i64) (eI .i64))),.sl x.2.2.1 2 x.2.2.2.1 x.2.2.2.2.1,.gen (cY cH x.2.2.2.2.2 r.2 x.2.2.2.2.1)]):=by
 unfold QB at hF;refine cw Try.func44 (Hp.pG (X6 (X6 (XZ m) eL h2) (fH eL) h3) (fH (fH eL)) h4) ?_;refine wz ?_;refine wb fun b4=>?_;refine wa tG fun b0=>?_;refine az ?_;refine XR (nI rfl rfl (nk _ _)) rfl ?_;obtain⟨h5,hF⟩:=aD hF;refine X1 (Ca (k:=4) (lo:=0) (hi:=mi (l7.length:Int) (125:Int)) Ae rfl rfl rfl rfl h5 (.inl ⟨rfl,rfl⟩) (.inr ⟨_,rfl⟩)) gn rfl ?_;rintro⟨a11,c4⟩;obtain⟨l4,h6,hF⟩:=J hF;refine wc gn (fun m hm=>P1 n (Yl l7 125) a11 c4 _ h6 m (hm.q 0)) ?_;rintro⟨a0,n0⟩;refine Ye (k:=0) (xs:=l4) rfl ?_;rintro rfl;refine XR (cR rfl tG rfl (cQ Du rfl rfl rfl)) rfl<|wa tG fun b1=>?_;refine az ?_;refine XR (nI rfl rfl (nk _ _)) rfl ?_;obtain⟨h7,hF⟩:=aD hF;refine X1 (NW (r:=al) (k:=6) (q:=5) (lo:=0) (hi:=mi (l1.length:Int) (66:Int)) kJ rfl rfl rfl rfl rfl h7 (.inl ⟨rfl,rfl⟩) (.inr ⟨_,rfl⟩)) gn rfl ?_;rintro⟨a9,c0⟩;refine wz ?_;refine XV ?_;obtain⟨l8,h0,hF⟩:=J hF;refine ct (fun l8 ((a4,e4,r3):XG×XF ×(Nat->Prop))=>⟨(.exit 0),(jC b0 b1 []),[gA b0,vz b1 a0 l4 a4 l8,dz a0 l4,mV a4 l8 e4,q6 cH r3 l8 e4]⟩) l8 ?_ ?_;refine lw h0 ((none,[],(fun _=>False)):XG×XF ×(Nat->Prop)) (fun(l2,v0) ((a1,e1,r1):XG×XF ×(Nat->Prop))=>⟨.normal,(jC b0 b1 [(24,.slice a9 ((Yl l1 66).length) c0),(25,.int .i64 ((Yl l1 66).length:Int)),(26,bu v0)]),[gA b0,vz b1 a0 l4 a1 l2,dz a0 l4,mV a1 l2 e1,q6 cH r1 l2 e1,.rd a9 c0 2 ((Yl l1 66).length) ((e0.drop XO).take ((mi (l1.length:Int) (66:Int):Int).toNat-XO)),.gen (cE al r0 (Yl l1 66) ((e0.drop XO).take ((mi (l1.length:Int) (66:Int):Int).toNat-XO)))]⟩) (ai.trans (ai.nil 2 rfl) (ai.trans (ai.Ef (o:=cH)) (ai.aq [7,4,5,1,0,2,3] rfl rfl))) ?_;clear hF h0;rintro⟨l2,v0⟩ ⟨a1,e1,r1⟩ r hF;unfold xQ at hF;refine wz ?_;refine XS ?_;rcases aa hF with⟨h8,hF⟩|⟨h8,hF⟩;refine az ?_;obtain⟨h9,hF⟩:=du hF;refine X4 (k:=5) rfl (aW h9) ?_;rintro b2 o5 rfl;refine wz ?_;obtain⟨⟨l11,l3⟩,h10,hF⟩:=J hF;refine wl 2 0 7 0 h10 ?_;rintro⟨⟨a16,c7⟩,⟨a17,c8,e6⟩⟩;refine wa z54 fun b5=>?_;refine az ?_;refine XR (nI rfl rfl (nk _ _)) rfl ?_;obtain⟨h11,hF⟩:=aD hF;refine X1 (Ca (k:=1) (lo:=0) (hi:=mi (l11.length:Int) (42:Int)) fQ rfl rfl rfl rfl h11 (.inl ⟨rfl,rfl⟩) (.inr ⟨_,rfl⟩)) gn rfl ?_;rintro⟨a12,c5⟩;obtain⟨l5,h12,hF⟩:=J hF;refine wc gn (fun m hm=>wk n (Yl l11 42) a12 c5 _ h12 m (hm.q 0)) ?_;rintro⟨a2,n1⟩;refine Ye (k:=0) (xs:=l5) rfl ?_;rintro rfl;refine XR (cR rfl z54 rfl (cQ oC rfl rfl rfl)) rfl<|wa z54 fun b3=>?_;refine az ?_;refine XR (nI rfl rfl (nk _ _)) rfl ?_;obtain⟨h13,hF⟩:=aD hF;refine X1 (NW (r:=bq) (k:=5) (q:=6) (lo:=0) (hi:=mi (l3.length:Int) (10:Int)) rA rfl rfl rfl rfl rfl h13 (.inl ⟨rfl,rfl⟩) (.inr ⟨_,rfl⟩)) gn rfl ?_;rintro⟨a10,c3⟩;refine wz ?_;refine XV ?_;obtain⟨l6,h1,hF⟩:=J hF;refine ct (fun l6 ((a3,e5,r4):XG×XF ×(Nat->Prop))=>⟨(.exit 2),(jC b0 b1 [(6,ptr b3 0),(24,.slice (some ⟨b2,o5,none⟩) ((Yl l1 66).length) c0),(25,.int .i64 ((Yl l1 66).length:Int)),(26,bu v0)]),[gA b0,vz b1 a0 l4 a1 l2,dz a0 l4,mV a1 l2 e1,q6 cH r1 l2 e1,vz b3 a2 l5 a3 l6,yB a2 l5,.sl a3 1 l6.length e5,q6 iV r4 l6 e5,.ro b2 o5 2 ((Yl l1 66).length) ((e0.drop XO).take ((mi (l1.length:Int) (66:Int):Int).toNat-XO)),.gen (cE al r0 (Yl l1 66) ((e0.drop XO).take ((mi (l1.length:Int) (66:Int):Int).toNat-XO))),.rd (some ⟨b2,o5,none⟩) c0 2 ((Yl l1 66).length) ((e0.drop XO).take ((mi (l1.length:Int) (66:Int):Int).toNat-XO))]⟩) l6 ?_ ?_;refine lw h1 ((none,[],(fun _=>False)):XG×XF ×(Nat->Prop)) (fun(l9,v1) ((a5,e3,r5):XG×XF ×(Nat->Prop))=>⟨.normal,(jC b0 b1 [(6,ptr b3 0),(24,.slice (some ⟨b2,o5,none⟩) ((Yl l1 66).length) c0),(25,.int .i64 ((Yl l1 66).length:Int)),(26,bu v0),(45,.slice a10 ((Yl l3 10).length) c3),(46,.int .i64 ((Yl l3 10).length:Int)),(47,bu v1)]),[gA b0,vz b1 a0 l4 a1 l2,dz a0 l4,mV a1 l2 e1,q6 cH r1 l2 e1,vz b3 a2 l5 a5 l9,yB a2 l5,.sl a5 1 l9.length e3,q6 iV r5 l9 e3,.ro b2 o5 2 ((Yl l1 66).length) ((e0.drop XO).take ((mi (l1.length:Int) (66:Int):Int).toNat-XO)),.gen (cE al r0 (Yl l1 66) ((e0.drop XO).take ((mi (l1.length:Int) (66:Int):Int).toNat-XO))),.rd (some ⟨b2,o5,none⟩) c0 2 ((Yl l1 66).length) ((e0.drop XO).take ((mi (l1.length:Int) (66:Int):Int).toNat-XO)),.rd a10 c3 1 ((Yl l3 10).length) ((e6.drop XO).take ((mi (l3.length:Int) (10:Int):Int).toNat-XO)),.gen (cE bq r0 (Yl l3 10) ((e6.drop XO).take ((mi (l3.length:Int) (10:Int):Int).toNat-XO)))]⟩) (ai.trans (ai.nil 1 rfl) (ai.trans (ai.Ef (o:=iV)) (ai.aq [12,13,14,15,16,4,5,1,0,11,18,17,2,3] rfl rfl))) ?_;clear hF h1;rintro⟨l9,v1⟩ ⟨a5,e3,r5⟩ r hF;unfold xx at hF;refine wz ?_;refine XS ?_;rcases aa hF with⟨h14,hF⟩|⟨h14,hF⟩;refine az ?_;obtain⟨h15,hF⟩:=du hF;refine X4 (k:=12) rfl (aW h15) ?_;rintro b6 o6 rfl;refine wz ?_;obtain⟨l12,h16,hF⟩:=J hF;refine wl 1 0 14 0 h16 ?_;rintro⟨a18,c9⟩;refine wz ?_;refine Ya (prs:=[(1,7)]) (by kernel_rfl)<|XU (aI (r:=ptr b3 1) rfl (fK _ _)) rfl<|XU (aJ (k:=7) oc rfl rfl rfl) rfl<|XU (aX rfl) rfl<|XU (aX rfl) rfl<|XU (qv (k:=0) PD rfl rfl (.inl rfl)) rfl<|XU (nI rfl rfl (nk _ _)) rfl ?_
 obtain⟨h17,hF⟩:=aD hF;refine Wn.x (Ca (k:=0) (lo:=0) (hi:=mi (l12.length:Int) (42:Int)) fQ rfl rfl rfl rfl h17 (.inl ⟨rfl,rfl⟩) (.inr ⟨_,rfl⟩)) gn rfl ?_;rintro⟨a13,c6⟩;obtain⟨l10,h18,hF⟩:=J hF;refine nc gn (fun m hm=>wk n (Yl l12 42) a13 c6 _ h18 m (hm.q 0)) ?_;rintro⟨a6,n2⟩;refine Wn.len (k:=0) (xs:=l10) rfl ?_;rintro rfl;refine Wn.x (cB (es:=[[bZ a6 l10]]) rA rfl (cz rA z51 rfl rfl) rfl rfl) gn rfl fun b7=>?_;refine Yh (ai.aq [1,0,2,3,4,5,6,7,8,9,10,11,12,13,14,15,16,17,18] rfl rfl)<|Wn.wS (o:=iV) (x:=l10) (g:=a6) rfl ?_;intro r8;obtain⟨h19,hF⟩:=aD hF;refine Yh (ai.aq [13,0,12,1,2,3,4,5,6,7,8,9,10,11,14,15,16,17,18] rfl rfl)<|Wn.x (uR (o:=iV) (L:=l9) (L':=([l10]:XE)) rA ⟨_,LH⟩ rfl (.arr _ _ _ _ _) rfl h19) gn rfl ?_;rintro⟨a14,r6⟩;refine XU (aI (r:=ptr b3 1) rfl (fK _ _)) rfl<|Wn.o0 (fe (k:=11) oc rfl rfl rfl rfl rfl)<|X5 (fun m hm=>dQ.all rfl) ?_;refine az ?_;cases hF;exact ae (a14,(e3++([[bZ a6 l10]]:XF)),r6) [6,7,8,9,10,11,12,1,0,13,14,15,16,17];refine wz ?_;cases hF;exact ae (a5,e3,r5) (Yk 0 12);rintro⟨a3,e5,r4⟩;refine az ?_;refine X1 (cB (es:=[[bZ a2 l5,bZ a3 l6]]) kJ rfl (cz kJ z54 rfl rfl) rfl rfl) gn rfl fun b8=>?_;refine X0 (ai.aq [7,8,9,0,1,2,3,4,5,6,10,11,12] rfl rfl)<|Wo.wS (o:=cH) (x:=(l5,l6)) (g:=(a2,(a3,e5,r4))) rfl ?_;intro r9;obtain⟨h20,hF⟩:=aD hF;refine X0 (ai.aq [6,0,5,1,2,3,4,7,8,9,10] rfl rfl)<|X1 (uR (o:=cH) (L:=l2) (L':=([(l5,l6)]:XB)) kJ ⟨_,u32⟩ rfl (.arr _ _ _ _ _) rfl h20) gn rfl ?_;rintro⟨a15,r7⟩;refine az ?_;cases hF;exact ae (a15,(e1++([[bZ a2 l5,bZ a3 l6]]:XF)),r7) [3,4,5,1,0,9,8];refine wz ?_;cases hF;exact ae (a1,e1,r1) (Yk 0 5);rintro⟨a4,e4,r3⟩;refine ja ?_;cases hF;exact X2 (.cell (k:=0) fZ rfl rfl rfl .nil) fun m' hm=>⟨(a0,l4.length,a4,l8.length,e4,r3),rfl,(ai.aq [2,3,4] rfl rfl) m' hm⟩
end
section
open Go Go.Ab Go.Ab.W
set_option maxRecDepth 10000
set_option maxHeartbeats 4000000
attribute [local irreducible] Tm.at Trie.set Trie.get Yq.get Yq.set Yq.alloc Yq.ww Yq.kill
variable{p q:YA Prim}
def KQ(n:Nat){m0 m:Yq}{ps:YB Pc}{k:Nat}{a:XG}{l r:YB Int}{i j:Int}(h:Hp m0 m ps)(hp:pk ps k=some (.sl a 1 l.length (l.map (eI .i64))))(hF:Te n l i j=some r) :
  aK (Yt p q) 48 [.slice a l.length l.length,.int .i64 i,.int .i64 j] m (fun v m'=>∃_:YC,v=.slice a r.length l.length/\Hp m0 m' (bJ ps k (.gen (pF a l.length 1 r.length (r.map (eI .i64)))))):=by
 obtain⟨hc,hF⟩:=aD hF;simp only[Va,Vm] at hc;obtain⟨⟨⟨⟨c0,c1⟩,c2⟩,c3⟩,c4⟩:=hc;have hr:=U9 hF;subst hr;obtain⟨es,hes⟩:∃es,es=l.map (eI .i64):=⟨_,rfl⟩;have hel:es.length=l.length:=by rw[hes,Vf]
 have hwid:∀e∈es,e.length=1:=fun e he=>by rw[hes] at he; obtain⟨x,_,rfl⟩:=Vi.1 he; rfl
 have hone:db es:=fun e he=>by rw[hes] at he; obtain⟨x,_,rfl⟩:=Vi.1 he; rfl
 rw[show(l.take i.toNat++l.drop j.toNat).map (eI .i64)=es.take i.toNat++es.drop j.toNat by rw[hes,W6,List.map_take,List.map_drop]]
 rw[<-hes] at hp;rcases h.get hp with⟨h0,_⟩|⟨b,tg,rfl,g1,g2,g3,g4,g5,g6,g7⟩
 omega
 ·have hfl:es.flatten.length=l.length*1:=by rw[cF hwid,hel]
  have hwb:ir m 1 b l.length l.length=some (es.flatten,tg):=by
   unfold ir;rcases g6 with rfl|rfl<;>simp only[g3]
   rw[U5 ⟨trivial,hfl⟩]
   rw[U5 ⟨trivial,hfl,trivial⟩]
  have ft:∀(k:Nat) (l:XF),(∀e∈l,e.length=1)->(l.take k).flatten=l.flatten.take k/\(l.drop k).flatten=l.flatten.drop k:=by
   intro k l
   induction l generalizing k with
   | nil=>intro _; simp
   | cons e l ih =>
    intro hl;cases k with
    | zero=>simp
    | succ k =>
     obtain⟨x1,x2⟩:=ih k fun e he=>hl e (Ve _ he);have he:=hl e (Vp ..);obtain⟨y,rfl⟩:∃y,e=[y]:=List.length_eq_one_iff.1 he;simp[x1,x2]
  have hlen:(l.take i.toNat++l.drop j.toNat).length=l.length-(j.toNat-i.toNat):=by simp; omega
  refine aK.cZ (p:=⟨kP (.int .i64 0)⟩) rfl (v:=.slice (some ⟨b,0,none⟩) (l.take i.toNat++l.drop j.toNat).length l.length) (m':=m.set b (.cells (es.flatten.take i.toNat++es.flatten.drop j.toNat++List.replicate (j.toNat-i.toNat) (.int .i64 0)) tg)) ?_ ⟨(),rfl,?_⟩
  show kP _ [.slice (some ⟨b,0,none⟩) l.length l.length,.int .i64 i,.int .i64 j] m=_
  simp only[kP,hwb];rw[U5 ⟨c1,c2,c3,c4,gF hone⟩,hlen]
  refine h.Gm hp (fun b' hb=>.inl (.inl ⟨rfl,hb.elim (fun h=>by cases h.1) id⟩)) (fun b' hb=>.inl (.inl (hb.elim (fun h=>by cases h) fun h=>h.elim id fun h=>h.elim))) (by rw[Yq.next_set]; exact U8 _) (h.ext.set g1 _) ⟨⟨?_,?_,by decide,by rw[hlen]; omega,.inr ⟨b,List.replicate (j.toNat-i.toNat) (.int .i64 0),tg,rfl,by rw[Yq.next_set]; exact g2,?_,g6,?_⟩⟩,fun _ b' hb=>by cases hb; exact g1⟩ fun b' hb hlt=>?_
  rw[hlen]; simp; omega
  intro e he;rcases Vq.1 he with he|he
  exact hwid e (WC he)
  exact hwid e (WD he)
  rw[Yq.bz,U5 rfl,Wz,(ft _ es hwid).1,(ft _ es hwid).2]
  have e1:=(ft i.toNat es hwid).1;have e2:=(ft j.toNat es hwid).2;rw[Wz,e1,e2];simp[hfl]; omega
  rw[Yq.bz,U3 fun e=>hb (.inl ⟨rfl,by rw[e]; rfl⟩)]
def JV(l:YB Int):((l.map (eI .i64)).flatten).all aP=true:=by
 induction l with
 | nil=>rfl
 | cons x l ih=>rw[V6,V0,List.all_append,ih]; rfl
def um(l:YB Int):(l.map (eI .i64)).flatten=l.map (fun x=>Value.int .i64 x):=by
 induction l with
 | nil=>rfl
 | cons x l ih=>rw[V6,V0,ih]; rfl
def used{m0 m:Yq}{ps:YB Pc}(h:Hp m0 m ps){k b n n3:Nat}{es es3:XF}(hp:pk ps k=some (.sl (some ⟨b,0,none⟩) 1 n es))(hn:es3.length=n3)(hw:∀e∈es3,e.length=1) :
  Hp m0 ((m.kill b).alloc (.cells es3.flatten (.more 1))) (bJ ps k (.sl (some ⟨m.next,0,none⟩) 1 n3 es3)):=by
 have hb:m0.next<=b:=by
  rcases h.get hp with⟨_,_,h3,_⟩|⟨b',tg,h1,h2⟩
  cases h3
  cases h1; exact h2.1
 have hk:Ext m0 (m.kill b):=⟨by rw[Yq.next_kill]; exact h.ext.next,fun x hx=>by rw[Yq.dv,XP]; exact h.ext.same x hx,by
  rw[Yq.wl_kill];have:=h.ext.wl; omega⟩
 refine h.renew hp (by rw[Yq.next_alloc,Yq.next_kill]; omega) (hk.alloc _) (.inr ⟨m.next,.more 1,rfl,h.ext.next,by rw[Yq.next_alloc,Yq.next_kill]; omega,by rw[Yq.aU,Yq.next_kill,U5 rfl],hn,hw,.inr rfl,by decide⟩) (fun b' hb'=>?_) rfl fun b' hb' hlt=>?_
 cases hb'; exact U8 _
 rw[Yq.aU,Yq.next_kill,XP,Yq.dv,U3 (fun e=>hb' (by rw[e]; rfl))]
def KV{m0 m:Yq}{ps:YB Pc}(h:Hp m0 m ps){k n n3:Nat}{es es3:XF}(hp:pk ps k=some (.sl none 1 n es))(hn:es3.length=n3)(hw:∀e∈es3,e.length=1) :
  Hp m0 (m.alloc (.cells es3.flatten (.more 1))) (bJ ps k (.sl (some ⟨m.next,0,none⟩) 1 n3 es3)):=by
 refine h.renew hp (by rw[Yq.next_alloc]; omega) (h.ext.alloc _) (.inr ⟨m.next,.more 1,rfl,h.ext.next,by rw[Yq.next_alloc]; omega,by rw[Yq.aU,U5 rfl],hn,hw,.inr rfl,by decide⟩) (fun b' hb'=>?_) rfl fun b' _ hlt=>?_
 cases hb'; exact U8 _
 rw[Yq.aU,XP]
def Lm(n:Nat){m0 m:Yq}{ps:YB Pc}(h:Hp m0 m ps){k k2 b2:Nat}{a:XG}{i:Int}{l r:YB Int}{x:Int}(hp:pk ps k=some (.sl a 1 l.length (l.map (eI .i64))))(hp2:pk ps k2=some (.arr b2 1 1 ([x].map (eI .i64)) .own))(hk:Nat.beq k2 k=false)(hF:To n l i [x]=some r) :
  aK (Yt p q) 49 [.slice a l.length l.length,.int .i64 i,.slice (some ⟨b2,0,none⟩) 1 1] m (fun v m'=>∃y:XG×Nat,v=.slice y.1 y.2 y.2/\Hp m0 m' (bJ ps k (.sl y.1 1 y.2 (r.map (eI .i64))))):=by
 obtain⟨hc,hF⟩:=aD hF;simp only[Va,Vm] at hc;obtain⟨⟨c1,c2⟩,c4⟩:=hc;have hr:=U9 hF;subst hr;obtain⟨i,rfl⟩:=WZ c1;have hi:i<=l.length:=by omega
 simp only[VH];have hv:m.get b2=some (.cells [.int .i64 x] .own):=(h.get hp2).2.2.1;have hw1:∀l:YB Int,∀e∈l.map (eI .i64),e.length=1:=fun l e he=>by obtain⟨y,_,rfl⟩:=Vi.1 he; rfl
 have e3:(l.take i++([x]++l.drop i)).length=l.length+1:=by simp; omega
 rcases h.get hp with⟨h0,h1,rfl,_⟩|⟨b,tg,rfl,g1,g2,g3,g4,g5,g6,g7⟩
 have hl:l=[]:=W5.1 h1;subst hl;obtain rfl:i=0:=by simpa using hi
 refine aK.cZ (p:=⟨lL⟩) rfl (v:=.slice (some ⟨m.next,0,none⟩) 1 1) (m':=m.alloc (.cells [.int .i64 x] (.more 1))) ?_ ⟨(some ⟨m.next,0,none⟩,1),rfl,KV (es3:=[x].map (eI .i64)) h hp rfl (hw1 _)⟩
 show lL [.slice none 0 0,.int .i64 0,.slice (some ⟨b2,0,none⟩) 1 1] m=_
 simp only[lL,hv]
 have hne:b2≠b:=fun e=>(fN h.apart hp2 hp (Xq hk)).1 b2 (.inl ⟨rfl,rfl⟩) (.inl (by rw[e]; rfl))
 have hwb:ir m 1 b l.length l.length=some ((l.map (eI .i64)).flatten,tg):=by
  unfold ir;rcases g6 with rfl|rfl<;>simp only[g3]
  rw[U5 ⟨trivial,by rw[um]; simp⟩]
  rw[U5 ⟨trivial,by rw[um]; simp,trivial⟩]
 refine aK.cZ (p:=⟨lL⟩) rfl (v:=.slice (some ⟨m.next,0,none⟩) (l.length+1) (l.length+1)) (m':=(m.kill b).alloc (.cells ((l.take i++([x]++l.drop i)).map (eI .i64)).flatten (.more 1))) ?_ ⟨(some ⟨m.next,0,none⟩,l.length+1),rfl,used h hp (by simpa using e3) (hw1 _)⟩
 show lL [.slice (some ⟨b,0,none⟩) l.length l.length,.int .i64 (i:Int),.slice (some ⟨b2,0,none⟩) 1 1] m=_
 simp only[lL,hv,hwb];rw[U5 ⟨hne,by omega,by omega,c4,JV l⟩]
 simp only[VH];rw[um,um];simp only[W6,List.map_take,List.map_drop]
 rfl
def H3{α:Type}{r:Rep α}{o:Orp r}{m0:Yq}{ps:YB Pc}{S:XH}{L:YB α}{es:XF}{i j:Nat}(hij:i<=j):∀m,Hp m0 m (.gen (cY o S L es)::ps)->∃S',Hp m0 m (.gen (cY o S' (L.take i++L.drop j) (es.take i++es.drop j))::ps):=fun m hm=>by
 obtain⟨qs,h1,h2⟩:=hm.zV;obtain⟨q1,q2,rfl,h3,h4⟩:=h1.split i;obtain⟨q3,q4,rfl,h5,h6⟩:=h4.split (j-i);rw[Xj,Xj,show i+(j-i)=j by omega] at h6
 have h7:Hp m0 m ((q1++q4)++ps):=by
  refine⟨h2.ext,fun p hp=>h2.ok p ?_,h2.apart.sublist ?_⟩
  rcases Vq.1 hp with hp|hp
  rcases Vq.1 hp with hp|hp
  exact Vl _ (Vl _ hp)
  exact Vl _ (Vv _ (Vv _ hp))
  exact Vv _ hp
  exact List.Sublist.append (List.Sublist.append (List.Sublist.refl _) (List.sublist_append_right _ _)) (List.Sublist.refl _)
 exact⟨_,h7.uj (h3.append h6)⟩
def MS(n:Nat){m0 m:Yq}{rest:YB Pc}{a:XG}{l r:XB}{S:XH}{es:XF}{i j:Int}(h:Hp m0 m (.sl a 2 l.length es::.gen (cY cH S l es)::rest))(hF:TS n l i j=some r) :
  aK (Yt p q) 45 [.slice a l.length l.length,.int .i64 i,.int .i64 j] m (fun v m'=>∃S':Nat->Prop,v=.slice a r.length l.length/\Hp m0 m' (.gen (cY cH S' r (es.take i.toNat++es.drop j.toNat))::.gen (pF a l.length 2 r.length (es.take i.toNat++es.drop j.toNat))::rest)):=by
 obtain⟨hc,hF⟩:=aD hF;simp only[Va,Vm] at hc;obtain⟨⟨⟨⟨c0,c1⟩,c2⟩,c3⟩,c4⟩:=hc;have hr:=U9 hF;subst hr;obtain⟨i,rfl⟩:=WZ c1;obtain⟨j,rfl⟩:=WZ (show 0<=j by omega)
 simp only[VH];have hij:i<j:=by omega
 have hjn:j<=l.length:=by omega
 have hel:es.length=l.length:=uZ h (q:=1) rfl;obtain⟨⟨qs,hOd,_⟩,_⟩:=(h.get (k:=1) rfl).1;have hwid:∀e∈es,e.length=2:=fun e he=>(hOd.cells e he).1;have hone:db es:=fun e he=>(hOd.cells e he).2;rcases h.get (k:=0) rfl with⟨h0,_⟩|⟨b,tg,rfl,g1,g2,g3,g4,g5,g6,g7⟩
 omega
 ·have ft:∀(k:Nat) (l:XF),(∀e∈l,e.length=2)->(l.take k).flatten=l.flatten.take (k*2)/\(l.drop k).flatten=l.flatten.drop (k*2):=by
   intro k l
   induction l generalizing k with
   | nil=>intro _; simp
   | cons e l ih =>
    intro hl;cases k with
    | zero=>simp
    | succ k =>
     obtain⟨x1,x2⟩:=ih k fun e he=>hl e (Ve _ he);have he:=hl e (Vp ..);obtain⟨y,z,rfl⟩:∃y z,e=[y,z]:=by
      match e,he with
      | [y,z],_=>exact⟨y,z,rfl⟩
     rw[WW];simp[x1,x2]
  have hfl:es.flatten.length=l.length*2:=by rw[cF hwid,hel]
  have hlen:(l.take i++l.drop j).length=l.length-(j-i):=by simp; omega
  have hobj:Hp m0 m (.obj b (.cells es.flatten tg)::.gen (cY cH S l es)::rest):=h.put (k:=0) rfl rfl rfl rfl (U8 _) h.ext ⟨g1,g2,g3⟩ fun _ _ _=>rfl;refine(Ir (p:=p) (q:=q) g6 hobj hfl (gF hone) hij hjn c4).mono fun v m' ⟨hv,cs',hm',hl',ht'⟩=>?_;have hcs:cs'=(es.take i++es.drop j).flatten++cs'.drop ((l.length-(j-i))*2):=by
   have e1:(es.flatten.drop (j*2)).take ((l.length-j)*2)=es.flatten.drop (j*2):=WG (by rw[VZ]; omega)
   rw[Wz,(ft i es hwid).1,(ft j es hwid).2];rw[e1] at ht';rw[<-ht',List.take_append_drop]
  have hst:Hp m0 m' (.gen (pF (some ⟨b,0,none⟩) l.length 2 (l.take i++l.drop j).length (es.take i++es.drop j))::.gen (cY cH S l es)::rest):=by
   have h0:=hm'.get (k:=0) rfl;refine hm'.Gm (k:=0) rfl (fun b' hb=>.inl (.inl ⟨rfl,hb.elim (fun h=>by cases h.1) id⟩)) (fun b' hb=>.inl (.inl (hb.elim (fun h=>by cases h) fun h=>h.elim id fun h=>h.elim))) (U8 _) hm'.ext ⟨⟨?_,?_,by decide,by rw[hlen]; omega,.inr ⟨b,cs'.drop ((l.length-(j-i))*2),tg,rfl,h0.2.1,?_,g6,?_⟩⟩,fun _ b' hb=>by cases hb; exact h0.1⟩ fun b' hb hlt=>rfl
   rw[hlen]; simp; omega
   intro e he;rcases Vq.1 he with he|he
   exact hwid e (WC he)
   exact hwid e (WD he)
   rw[<-hcs]; exact h0.2.2
   rw[<-hcs,hl',hfl]
  obtain⟨S',hS⟩:=H3 (o:=cH) (Nat.le_of_lt hij) m' (hst.perm (List.Perm.swap _ _ _));exact⟨S',by rw[hv,hlen],hS⟩
end
end Go.Proofs.Ytmndpgfbkicndaa
