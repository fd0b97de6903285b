/- A part of the proof. -/
import Derived.Test.YtmndpgfbkicndaaCp4
import Derived.HandedShaped
set_option linter.all false
namespace Go.Proofs.Ytmndpgfbkicndaa
section
open Go Go.Ab Go.Ab.W
set_option maxRecDepth 10000
set_option maxHeartbeats 4000000
attribute [local irreducible] Wo Wk At Wn Od Ox bc bR
attribute [local irreducible] Tm.at Trie.set Trie.get TS.get TS.set TS.alloc TS.ww TS.kill
variable{p q:TN Prim}
def Lr{n l2 l1 a0 c1 a1 c0}{r0:SV}{e0:SS}{r}(hF:NN n l2 l1=some r)(m)(h27:ja m a0 c1 l2)(h28:lW m a1 c0 l1 e0)(h29:(cd ak r0 l1 e0).P m):
 aI (TV p q) 69 [kI a0 l2 c1 a1 l1 c0] m (TQ m (.tuple #[.int .i64 r.1,.int .i64 r.2])):=by
 unfold NN at hF;refine cw Try.func69 (Hp.mz (Tw (Tw (Tp m) dI h27) (eC dI) h28) (eC (eC dI)) h29) ?_;refine wz ?_;refine wb fun b0=>?_;refine wa z3 fun b1=>?_;refine wa z3 fun b2=>?_;refine au ?_;refine Ts Fu gn rfl fun b4=>?_;refine wa z131 fun b10=>?_;refine au ?_;obtain⟨l19,h30,hF⟩:=J hF;refine wq (fun l19 (b23:Nat)=>(.func (.func 73) #[] #[ptr b23 0],(fp b23 a0 l2 c1 a1 l1 c0 e0 ak r0 [DB b0 a0 l2 c1 a1 l1 c0,dH b1,dH b2,dW b10 b4,.obj b4 (.map (l19.map (eM (fun p:Int×Int=>.agg #[.int .i64 p.1,.int .i64 p.2]) (fun b:Bool=>.bool b))))]))) l19 (fun m hm=>?_) ?_;clear hF;revert l19;intro r hF;refine aQ (N:=4) (rs:=[.tmp 2]) rfl Try.func50 rfl rfl rfl hm ?_;refine wz ?_;refine wb fun b32=>?_;refine au ?_;refine Tc (je rfl rfl) rfl ?_;refine au ?_;cases hF;exact ar b32 [0,8,7,6,5,4,3,1,2];rintro b23;refine wz ?_;refine Th ?_;obtain⟨r10,h31,hF⟩:=J hF;refine Wk.range (N:=50) (rs:=[]) (γ:=TP) (X:=fun g=>(fun(r:(Int×TO ((Int×Int)×Bool)) ⊕(TO ((Int×Int)×Bool))) (g:TP)=>(match r,g with|.inl (v16,l26),_=>⟨.done,(some .ret),(fp b0 a0 l2 c1 a1 l1 c0 e0 ak r0 [EO b1,db b2 v16,dW b10 b4,.obj b4 (.map (l26.map (eM (fun p:Int×Int=>.agg #[.int .i64 p.1,.int .i64 p.2]) (fun b:Bool=>.bool b))))])⟩|.inr l27,_=>⟨.ready,none,(fp b0 a0 l2 c1 a1 l1 c0 e0 ak r0 [dH b1,dH b2,dW b10 b4,.obj b4 (.map (l27.map (eM (fun p:Int×Int=>.agg #[.int .i64 p.1,.int .i64 p.2]) (fun b:Bool=>.bool b))))])⟩:Rn)) r10 g) rfl rfl Try.func73 rfl rfl rfl ?_ (fun y=>by rcases r10 with _|_<;>(intro e; cases e)) ?_
 clear hF;revert r10;intro r hF;intro t1 l6 r5 h32 h33;refine wz ?_;refine Th ?_;obtain⟨r20,h1,hF⟩:=J hF;refine ct (fun(r:(Int×TO ((Int×Int)×Bool)) ⊕(TO ((Int×Int)×Bool))) (g:TP)=>match r,g with|.inl (v17,l28),_=>⟨.ret,[],(.obj l6 (r5 .done (some .ret))::fp b0 a0 l2 c1 a1 l1 c0 e0 ak r0 [EO b1,db b2 v17,dW b10 b4,.obj b4 (.map (l28.map (eM (fun p:Int×Int=>.agg #[.int .i64 p.1,.int .i64 p.2]) (fun b:Bool=>.bool b))))])⟩|.inr l29,_=>⟨(.exit 0),[],(.obj l6 (r5 .ready none)::fp b0 a0 l2 c1 a1 l1 c0 e0 ak r0 [dH b1,dH b2,dW b10 b4,.obj b4 (.map (l29.map (eM (fun p:Int×Int=>.agg #[.int .i64 p.1,.int .i64 p.2]) (fun b:Bool=>.bool b))))])⟩) r20 ?_ ?_
 refine lo h1 () [0,3,4,5,2,6,7,8,9] (fun(v4,l30) _=>⟨.normal,((0,.func (.yield l6) #[] #[])::ym a1 l1 c0 v4 []),[.obj l6 (r5 .ready none),De a1 c0 l1 e0,fO ak r0 l1 e0,DB b0 a0 l2 c1 a1 l1 c0,q6 a0 c1 l2,dH b1,dH b2,dW b10 b4,.obj b4 (.map (l30.map (eM (fun p:Int×Int=>.agg #[.int .i64 p.1,.int .i64 p.2]) (fun b:Bool=>.bool b))))]⟩) ?_;clear hF h1;rintro⟨v4,l30⟩ ⟨⟩ r hF;unfold qx at hF;refine wz ?_;refine Td ?_;rcases U hF with⟨h34,hF⟩|⟨h34,hF⟩;refine au ?_;obtain⟨h35,hF⟩:=cO hF;refine Tv (k:=1) rfl (aM h35) ?_;rintro b9 o4 rfl;refine wz ?_;obtain⟨⟨l44,l45⟩,h36,hF⟩:=J hF;refine wl 2 0 3 0 h36 ?_;rintro⟨⟨a28,c14⟩,⟨a29,c15,e8⟩⟩;refine wa z54 fun b40=>?_;refine au ?_;obtain⟨l11,h37,hF⟩:=J hF;refine EU gn (fun m hm=>iD h37 m hm.du (hm.q 1) (hm.no 1) (hm.q 2) (hm.no 2) (hm.dp (q:=3) rfl) (hm.fQ (q:=3) rfl)) ?_;rintro⟨a20,c7,n0,e6,r9⟩;refine Wo.iv (k:=0) (q:=1) (L:=l11) rfl (.inr (.inl ⟨_,rfl⟩)) rfl ?_;rintro rfl;refine wz ?_;refine Th ?_;obtain⟨r21,h2,hF⟩:=J hF;refine ct (fun(r:(TO ((Int×Int)×Bool)) ⊕(TO ((Int×Int)×Bool))) (g:TP)=>match r,g with|.inl l31,_=>⟨.ret,[],(.obj l6 (r5 .done (some .ret))::fH b0 a0 l2 c1 b9 o4 l1 c0 e0 ak r0 [EO b1,db b2 v4,dW b10 b4,.obj b4 (.map (l31.map (eM (fun p:Int×Int=>.agg #[.int .i64 p.1,.int .i64 p.2]) (fun b:Bool=>.bool b))))])⟩|.inr l32,_=>⟨(.exit 2),((0,.func (.yield l6) #[] #[])::sy b9 o4 l1 c0 v4 []),(.obj l6 (r5 .ready none)::q7 b9 o4 l1 e0 ak r0 c0 (qE b0 a0 l2 c1 b9 o4 l1 c0 b1 b2 [dW b10 b4,.obj b4 (.map (l32.map (eM (fun p:Int×Int=>.agg #[.int .i64 p.1,.int .i64 p.2]) (fun b:Bool=>.bool b))))]))⟩) r21 ?_ ?_
 refine lo h2 () [7,6,9,8,0,1,10,11,12,13,14,15] (fun(v7,l33) _=>⟨.normal,((0,.func (.yield l6) #[] #[])::(3,ba v4)::sy b9 o4 l1 c0 v4 [(18,bD a20 l11 c7),(19,dN l11),(20,ba v7)]),(.obj l6 (r5 .ready none)::q7 b9 o4 l1 e0 ak r0 c0 (iM a20 c7 l11 e6::fO bg r9 l11 e6::qE b0 a0 l2 c1 b9 o4 l1 c0 b1 b2 [dW b10 b4,.obj b4 (.map (l33.map (eM (fun p:Int×Int=>.agg #[.int .i64 p.1,.int .i64 p.2]) (fun b:Bool=>.bool b))))]))⟩) ?_;clear hF h2;rintro⟨v7,l33⟩ ⟨⟩ r hF;unfold qg at hF;refine wz ?_;refine Td ?_;rcases U hF with⟨h38,hF⟩|⟨h38,hF⟩;refine au ?_;obtain⟨h39,hF⟩:=cO hF;refine Tv (k:=4) rfl (aM h39) ?_;rintro b19 o10 rfl;refine wz ?_;obtain⟨l16,h40,hF⟩:=J hF;refine wl 1 0 6 0 h40 ?_;rintro⟨a10,c9⟩;refine au ?_;refine Th ?_;obtain⟨r22,h3,hF⟩:=J hF;refine ct (fun(r:(TO ((Int×Int)×Bool)) ⊕(TO ((Int×Int)×Bool))) (g:TP)=>match r,g with|.inl l34,_=>⟨.ret,[],(.obj l6 (r5 .done (some .ret))::fH b0 a0 l2 c1 b9 o4 l1 c0 e0 ak r0 [EO b1,db b2 v4,dW b10 b4,.obj b4 (.map (l34.map (eM (fun p:Int×Int=>.agg #[.int .i64 p.1,.int .i64 p.2]) (fun b:Bool=>.bool b))))])⟩|.inr l35,_=>⟨(.exit 4),((0,.func (.yield l6) #[] #[])::(3,ba v4)::sy b9 o4 l1 c0 v4 (tP b19 o10 l11 c7 v7 [])),(.obj l6 (r5 .ready none)::q7 b9 o4 l1 e0 ak r0 c0 (jr b19 o10 l11 e6 bg r9 c7 (qE b0 a0 l2 c1 b9 o4 l1 c0 b1 b2 [dW b10 b4,.obj b4 (.map (l35.map (eM (fun p:Int×Int=>.agg #[.int .i64 p.1,.int .i64 p.2]) (fun b:Bool=>.bool b))))])))⟩) r22 ?_ ?_
 refine lo h3 () [2,0,3,4,5,1,7,6,8,9,10,11,12,13] (fun(v18,l17) _=>⟨.normal,((0,.func (.yield l6) #[] #[])::(3,ba v4)::(5,ba v7)::(6,bD a10 l16 c9)::sy b9 o4 l1 c0 v4 (tP b19 o10 l11 c7 v7 [(25,bD a10 l16 c9),(26,dN l16),(27,ba v18)])),(.obj l6 (r5 .ready none)::mY a10 c9 l16::q7 b9 o4 l1 e0 ak r0 c0 (jr b19 o10 l11 e6 bg r9 c7 (qE b0 a0 l2 c1 b9 o4 l1 c0 b1 b2 [dW b10 b4,.obj b4 (.map (l17.map (eM (fun p:Int×Int=>.agg #[.int .i64 p.1,.int .i64 p.2]) (fun b:Bool=>.bool b))))])))⟩) ?_;clear hF h3;rintro⟨v18,l17⟩ ⟨⟩ r hF;unfold qc at hF;refine wz ?_;refine Td ?_;rcases U hF with⟨h41,hF⟩|⟨h41,hF⟩;refine au ?_;obtain⟨h42,hF⟩:=cO hF;refine Tv (k:=1) rfl (aM h42) ?_;rintro b24 o12 rfl;refine wz ?_;obtain⟨x12,h108,hF⟩:=J hF;refine au ?_;obtain⟨h43,hF⟩:=az hF;refine Tc (aJ rfl rfl (bU _ _ h43)) rfl ?_;obtain⟨h109,hF⟩:=cO hF;refine wz ?_;obtain⟨x13,h110,hF⟩:=J hF;refine wz ?_;refine Tc (cp rfl qH rfl (cm xz rfl rfl rfl)) rfl ?_;obtain⟨r11,h15,hF⟩:=J hF;refine Ts (tJ (k:=1) (k1:=0) (γA:=Nat) (GA:=(fun g:Nat=>(match g with|b22=>⟨.normal,(ic b1 b2 [(4,ptr b10 0),(5,ptr b22 0)]),(.obj l6 (r5 .ready none)::dH b1::dH b2::dW b10 b4::.obj b4 (.map (l17.map (eM (fun p:Int×Int=>.agg #[.int .i64 p.1,.int .i64 p.2]) (fun b:Bool=>.bool b))))::fF b22 x12 x13 v4 v7::fH b0 a0 l2 c1 b9 o4 l1 c0 e0 ak r0 (om b24 o12 l16 c9 (jr b19 o10 l11 e6 bg r9 c7 [])))⟩:En))) (γ:=TP) (G:=fun g=>(fun(r:TP⊕TP) (g:TP)=>(match r,g with|.inl _,_=>⟨.ret,[],(.obj l6 (r5 .busy none)::fH b0 a0 l2 c1 b9 o4 l1 c0 e0 ak r0 (EO b1::db b2 v4::dW b10 b4::.obj b4 (.map (l17.map (eM (fun p:Int×Int=>.agg #[.int .i64 p.1,.int .i64 p.2]) (fun b:Bool=>.bool b))))::om b24 o12 l16 c9 (jr b19 o10 l11 e6 bg r9 c7 [])))⟩|.inr _,_=>⟨.normal,[],(.obj l6 (r5 .busy none)::fH b0 a0 l2 c1 b9 o4 l1 c0 e0 ak r0 (dH b1::dH b2::dW b10 b4::.obj b4 (.map ((jA l17 (x12,x13) true).map (eM (fun p:Int×Int=>.agg #[.int .i64 p.1,.int .i64 p.2]) (fun b:Bool=>.bool b))))::om b24 o12 l16 c9 (jr b19 o10 l11 e6 bg r9 c7 [])))⟩:En)) r11 g) rfl rfl rfl h33 h32 rfl ?_ (fun _=>rfl) (fun _=>rfl) ?_ (fun y=>by rcases r11 with _|_<;>rfl)) gn rfl ?_
 clear hF h15;refine Te<|wa qH fun b33=>?_;refine wz ?_;exact ae b33 [2,12,13,14,15,0,10,11,4,5,6,1,3,7,8,9];clear hF;revert r11;intro r hF;rintro b22;refine wz ?_;refine Tc (cp rfl IS rfl (cm Gj rfl rfl rfl)) rfl ?_;obtain⟨y0,h44,hF⟩:=J hF;refine Tc (JL (q:=4) (xs:=l17) (k:=(x12,x13)) (vE:=(fun b:Bool=>.bool b)) (z0:=false) Nj (Jk Jb cb.known cb.size cb.agg u3) z4 rfl rfl rfl rfl h44) rfl ?_;refine wz ?_;rcases U hF with⟨h16,hF⟩|⟨h16,hF⟩;refine Ty rfl h16<|Td<|TB (prs:=[(1,2)]) (by kernel_rfl)<|Tf (aG (r:=ptr b22 2) rfl (mM _ _)) rfl<|Wn.uZ rfl (aH (k:=5) cb rfl rfl rfl) rfl<|Wn.Ht rfl (ek (k:=1) cb rfl rfl rfl rfl rfl)<|Wn.o0 (ek (k:=2) cb rfl rfl rfl rfl rfl)<|Tx (fun m hm=>(dj.rw rfl rfl rfl (hm.ne (i:=5) (j:=1) rfl rfl rfl rfl (by decide) rfl) dj.nil)) ?_
 refine au ?_;cases hF;exact ae () [0,6,7,8,9,10,1,2,3,4,11,12,13,14,15];refine au ?_;refine Tc (cp rfl IS rfl (cm Gj rfl rfl rfl)) rfl<|Tz (Dn (q:=4) (xs:=l17) (k:=(x12,x13)) (v:=true) (vE:=(fun b:Bool=>.bool b)) Nj (Jk Jb cb.known cb.size cb.agg u3) rfl rfl rfl rfl) ?_;refine wz ?_;cases hF;exact ae () [0,6,7,8,9,10,1,2,3,4,11,12,13,14,15];rcases r11 with _|_;rintro⟨⟩;refine au ?_;cases hF;exact ae () (TL 0 10);rintro⟨⟩;refine fW ?_;cases hF;exact ae () [0,11,3,4,5,12,13,14,1,2,6,7,8,9];refine wz ?_;cases hF;exact ae () (0::TL 2 12);rcases r22 with l34|l35;rintro⟨⟩;refine wz ?_;cases hF;exact ae () (TL 0 10);rintro⟨⟩;refine au ?_;cases hF;exact ae () (0::1::2::3::6::5::TL 7 6);refine wz ?_;cases hF;exact ae () (0::1::2::3::TL 6 6);rcases r21 with l31|l32;rintro⟨⟩;refine wz ?_;cases hF;exact ae () [0,1,2,5,4,6,7,8,9];rintro⟨⟩;refine au ?_;cases hF;exact ae () (0::3::2::TL 4 6);refine wz ?_;cases hF;exact ae () [0,3,4,1,2,5,6,7,8];rcases r20 with⟨v17,l28⟩|l29;rintro⟨⟩;refine At.br ?_;cases hF;exact Tt .nil fun m' hm=>⟨(),(Ti [0,1,2,3,4,5,6,7,8] rfl rfl) m' hm⟩;rintro⟨⟩;refine TJ ?_;cases hF;exact At.fin .nil fun m' hm=>⟨(),(Ti [0,1,2,3,4,5,6,7,8] rfl rfl) m' hm⟩;rcases r10 with⟨v16,l26⟩|l27;rintro⟨⟩
 change Wk _ _ _ _ .ret _ _ _ _
 refine wz ?_;cases hF;exact Tt (.cell (k:=4) cb rfl rfl rfl (.cell (k:=5) cb rfl rfl rfl .nil)) fun m' hm=>⟨(),rfl,(Ti [] rfl rfl) m' hm⟩;rintro⟨⟩
 change At _ .normal _ _ _
 refine au ?_;refine wa Pe fun b7=>?_;refine au ?_;obtain⟨r23,h45,hF⟩:=J hF;refine wq (fun _ (b25:Nat)=>(.func (.func 73) #[] #[ptr b25 0],(fp b25 a0 l2 c1 a1 l1 c0 e0 ak r0 [DB b0 a0 l2 c1 a1 l1 c0,dH b1,dH b2,.obj b7 (.cells [.slice none 0 0] .own)]))) r23 (fun m hm=>?_) ?_;clear hF;revert r23;intro r hF;refine aQ (N:=4) (rs:=[.tmp 2]) rfl Try.func50 rfl rfl rfl hm ?_;refine wz ?_;refine wb fun b34=>?_;refine au ?_;refine Tc (je rfl rfl) rfl ?_;refine au ?_;cases hF;exact ar b34 [0,3,4,5,2,6,7,1];rintro b25;refine wz ?_;refine Th ?_;obtain⟨r12,h46,hF⟩:=J hF;refine Wk.range (N:=50) (rs:=[]) (γ:=SU) (X:=fun g=>(fun(r:(Int×TO (SP)) ⊕(TO (SP))) (g:SU)=>(match r,g with|.inl (v19,l21),a11=>⟨.done,(some .ret),(fp b0 a0 l2 c1 a1 l1 c0 e0 ak r0 [Ff b1,db b2 v19,Bc b7 a11 l21,nj a11 l21])⟩|.inr l36,a21=>⟨.ready,none,(fp b0 a0 l2 c1 a1 l1 c0 e0 ak r0 (qG b1 b2 b7 a21 l36 []))⟩:Rn)) r12 g) rfl rfl Try.func73 rfl rfl rfl ?_ (fun y=>by rcases r12 with _|_<;>(intro e; cases e)) ?_
 clear hF;revert r12;intro r hF;intro t2 l3 r1 h47 h48;refine wz ?_;refine Th ?_;obtain⟨r24,h4,hF⟩:=J hF;refine ct (fun(r:(Int×TO (SP)) ⊕(TO (SP))) (g:SU)=>match r,g with|.inl (v20,l22),a4=>⟨.ret,[],(.obj l3 (r1 .done (some .ret))::fp b0 a0 l2 c1 a1 l1 c0 e0 ak r0 [Ff b1,db b2 v20,Bc b7 a4 l22,nj a4 l22])⟩|.inr l37,a12=>⟨(.exit 0),[],(.obj l3 (r1 .ready none)::fp b0 a0 l2 c1 a1 l1 c0 e0 ak r0 (qG b1 b2 b7 a12 l37 []))⟩) r24 ?_ ?_
 refine lw h4 none (fun(v0,l38) a5=>⟨.normal,((0,.func (.yield l3) #[] #[])::ym a1 l1 c0 v0 []),(.obj l3 (r1 .ready none)::De a1 c0 l1 e0::fO ak r0 l1 e0::DB b0 a0 l2 c1 a1 l1 c0::q6 a0 c1 l2::qG b1 b2 b7 a5 l38 [])⟩) (To (TH 4 rfl) (Ti [1,4,5,6,3,7,8,9,0] rfl rfl)) ?_;clear hF h4;rintro⟨v0,l38⟩ a5 r hF;unfold qz at hF;refine wz ?_;refine Td ?_;rcases U hF with⟨h49,hF⟩|⟨h49,hF⟩;refine au ?_;obtain⟨h50,hF⟩:=cO hF;refine Tv (k:=1) rfl (aM h50) ?_;rintro b6 o2 rfl;refine wz ?_;obtain⟨⟨l46,l47⟩,h51,hF⟩:=J hF;refine wl 2 0 3 0 h51 ?_;rintro⟨⟨a30,c16⟩,⟨a31,c17,e9⟩⟩;refine wa z54 fun b41=>?_;refine au ?_;obtain⟨l7,h52,hF⟩:=J hF;refine EU gn (fun m hm=>iD h52 m hm.du (hm.q 1) (hm.no 1) (hm.q 2) (hm.no 2) (hm.dp (q:=3) rfl) (hm.fQ (q:=3) rfl)) ?_;rintro⟨a22,c2,n1,e1,r6⟩;refine Wo.iv (k:=0) (q:=1) (L:=l7) rfl (.inr (.inl ⟨_,rfl⟩)) rfl ?_;rintro rfl;refine wz ?_;refine Th ?_;obtain⟨r25,h5,hF⟩:=J hF;refine ct (fun(r:(TO (SP)) ⊕(TO (SP))) (g:SU)=>match r,g with|.inl l23,a6=>⟨.ret,[],(.obj l3 (r1 .done (some .ret))::fH b0 a0 l2 c1 b6 o2 l1 c0 e0 ak r0 [Ff b1,db b2 v0,Bc b7 a6 l23,nj a6 l23])⟩|.inr l39,a13=>⟨(.exit 2),((0,.func (.yield l3) #[] #[])::sy b6 o2 l1 c0 v0 []),(.obj l3 (r1 .ready none)::q7 b6 o2 l1 e0 ak r0 c0 (MG b0 a0 l2 c1 b6 o2 l1 c0::q6 a0 c1 l2::qG b1 b2 b7 a13 l39 []))⟩) r25 ?_ ?_
 refine lo h5 a5 [7,6,9,8,0,1,10,11,12,13,14,15] (fun(v5,l40) a7=>⟨.normal,((0,.func (.yield l3) #[] #[])::(3,ba v0)::sy b6 o2 l1 c0 v0 [(18,bD a22 l7 c2),(19,dN l7),(20,ba v5)]),(.obj l3 (r1 .ready none)::q7 b6 o2 l1 e0 ak r0 c0 (iM a22 c2 l7 e1::fO bg r6 l7 e1::MG b0 a0 l2 c1 b6 o2 l1 c0::q6 a0 c1 l2::qG b1 b2 b7 a7 l40 []))⟩) ?_;clear hF h5;rintro⟨v5,l40⟩ a7 r hF;unfold ql at hF;refine wz ?_;refine Td ?_;rcases U hF with⟨h53,hF⟩|⟨h53,hF⟩;refine au ?_;obtain⟨h54,hF⟩:=cO hF;refine Tv (k:=4) rfl (aM h54) ?_;rintro b11 o5 rfl;refine wz ?_;obtain⟨l12,h55,hF⟩:=J hF;refine wl 1 0 6 0 h55 ?_;rintro⟨a14,c4⟩;refine au ?_;refine Th ?_;obtain⟨r26,h6,hF⟩:=J hF;refine ct (fun(r:(TO (SP)) ⊕(TO (SP))) (g:SU)=>match r,g with|.inl l24,a8=>⟨.ret,[],(.obj l3 (r1 .done (some .ret))::fH b0 a0 l2 c1 b6 o2 l1 c0 e0 ak r0 [Ff b1,db b2 v0,Bc b7 a8 l24,nj a8 l24])⟩|.inr l41,a15=>⟨(.exit 4),((0,.func (.yield l3) #[] #[])::(3,ba v0)::sy b6 o2 l1 c0 v0 (tP b11 o5 l7 c2 v5 [])),(.obj l3 (r1 .ready none)::q7 b6 o2 l1 e0 ak r0 c0 (jr b11 o5 l7 e1 bg r6 c2 (MG b0 a0 l2 c1 b6 o2 l1 c0::q6 a0 c1 l2::qG b1 b2 b7 a15 l41 [])))⟩) r26 ?_ ?_
 refine lo h6 a7 [2,0,3,4,5,1,7,6,8,9,10,11,12,13] (fun(v21,l9) a2=>⟨.normal,((0,.func (.yield l3) #[] #[])::(3,ba v0)::(5,ba v5)::(6,bD a14 l12 c4)::sy b6 o2 l1 c0 v0 (tP b11 o5 l7 c2 v5 [(25,bD a14 l12 c4),(26,dN l12),(27,ba v21)])),(.obj l3 (r1 .ready none)::mY a14 c4 l12::q7 b6 o2 l1 e0 ak r0 c0 (jr b11 o5 l7 e1 bg r6 c2 (MG b0 a0 l2 c1 b6 o2 l1 c0::q6 a0 c1 l2::qG b1 b2 b7 a2 l9 [])))⟩) ?_;clear hF h6;rintro⟨v21,l9⟩ a2 r hF;unfold qC at hF;refine wz ?_;refine Td ?_;rcases U hF with⟨h56,hF⟩|⟨h56,hF⟩;refine au ?_;obtain⟨h57,hF⟩:=cO hF;refine Tv (k:=1) rfl (aM h57) ?_;rintro b16 o8 rfl;refine wz ?_;obtain⟨x3,h111,hF⟩:=J hF;refine au ?_;obtain⟨h58,hF⟩:=az hF;refine Tc (aJ rfl rfl (bU _ _ h58)) rfl ?_;obtain⟨h112,hF⟩:=cO hF;refine wz ?_;obtain⟨x4,h113,hF⟩:=J hF;refine wz ?_;refine Tc (cp rfl qH rfl (cm xz rfl rfl rfl)) rfl ?_;obtain⟨r13,h17,hF⟩:=J hF;refine Ts (tJ (k:=1) (k1:=0) (γA:=Nat) (GA:=(fun g:Nat=>(match g with|b14=>⟨.normal,((1,ptr b0 0)::ic b1 b2 [(6,ptr b7 0),(7,ptr b14 0)]),(.obj l3 (r1 .ready none)::fH b0 a0 l2 c1 b6 o2 l1 c0 e0 ak r0 (qG b1 b2 b7 a2 l9 (fF b14 x3 x4 v0 v5::om b16 o8 l12 c4 (jr b11 o5 l7 e1 bg r6 c2 []))))⟩:En))) (γ:=SU) (G:=fun g=>(fun(r:TP ⊕(TO (SP))) (g:SU)=>(match r,g with|.inl _,_=>⟨.ret,[],(.obj l3 (r1 .busy none)::fH b0 a0 l2 c1 b6 o2 l1 c0 e0 ak r0 (Ff b1::db b2 v0::Bc b7 a2 l9::nj a2 l9::om b16 o8 l12 c4 (jr b11 o5 l7 e1 bg r6 c2 [])))⟩|.inr l42,a16=>⟨.normal,[],(.obj l3 (r1 .busy none)::fH b0 a0 l2 c1 b6 o2 l1 c0 e0 ak r0 (qG b1 b2 b7 a16 l42 (om b16 o8 l12 c4 (jr b11 o5 l7 e1 bg r6 c2 []))))⟩:En)) r13 g) rfl rfl rfl h48 h47 rfl ?_ (fun _=>rfl) (fun _=>rfl) ?_ (fun y=>by rcases r13 with _|_<;>rfl)) gn rfl ?_
 clear hF h17;refine Te<|wa qH fun b35=>?_;refine wz ?_;exact ae b35 [2,10,11,4,5,6,12,13,14,15,0,1,3,7,8,9];clear hF;revert r13;intro r hF;rintro b14;refine wz ?_;refine Tc (je rfl rfl) rfl ?_;obtain⟨v8,h59,hF⟩:=J hF;refine wq (fun v8 (_:TP)=>(.int .i64 v8,(.obj l3 (r1 .busy none)::fH b0 a0 l2 c1 b6 o2 l1 c0 e0 ak r0 (qG b1 b2 b7 a2 l9 (om b16 o8 l12 c4 (jr b11 o5 l7 e1 bg r6 c2 [fF b14 x3 x4 v0 v5])))))) v8 (fun m hm=>?_) ?_;clear hF;revert v8;intro r hF;refine aQ (N:=19) (rs:=[.tmp 4]) rfl Try.func81 rfl rfl rfl hm ?_;refine au ?_;refine Th ?_;obtain⟨r27,h7,hF⟩:=J hF;refine ct (fun(r:Int⊕TP) (g:TP)=>match r,g with|.inl v22,_=>⟨.ret,[(4,ba v22)],(.obj l3 (r1 .busy none)::fH b0 a0 l2 c1 b6 o2 l1 c0 e0 ak r0 (qG b1 b2 b7 a2 l9 (om b16 o8 l12 c4 (jr b11 o5 l7 e1 bg r6 c2 [fF b14 x3 x4 v0 v5]))))⟩|.inr _,_=>⟨(.exit 0),[],(.obj l3 (r1 .busy none)::fH b0 a0 l2 c1 b6 o2 l1 c0 e0 ak r0 (qG b1 b2 b7 a2 l9 (om b16 o8 l12 c4 (jr b11 o5 l7 e1 bg r6 c2 [fF b14 x3 x4 v0 v5]))))⟩) r27 ?_ ?_
 refine lo h7 () [0,1,2,3,4,5,10,9,6,7,8,11,12,13,14,15] (fun v23 _=>⟨.normal,[(1,.func (.func 82) #[] #[ptr b0 0,ptr b14 0]),(7,bN a2 l9),(8,dN l9),(9,ba v23)],(.obj l3 (r1 .busy none)::fH b0 a0 l2 c1 b6 o2 l1 c0 e0 ak r0 (fF b14 x3 x4 v0 v5::nj a2 l9::dH b1::dH b2::Bc b7 a2 l9::om b16 o8 l12 c4 (jr b11 o5 l7 e1 bg r6 c2 [])))⟩) ?_;clear hF h7;rintro v23 ⟨⟩ r hF;unfold tv at hF;refine wz ?_;refine Td ?_;rcases U hF with⟨h60,hF⟩|⟨h60,hF⟩;refine au ?_;obtain⟨h61,hF⟩:=cO hF;refine Wo.open (k:=7) rfl (aM h61) ?_;rintro b28 t0 rfl h114;refine wz ?_;obtain⟨⟨x16,x17,x18,x19⟩,h115,hF⟩:=J hF;refine wz ?_;refine wa qH fun b42=>?_;refine au ?_;obtain⟨v9,h62,hF⟩:=J hF;refine wq (fun v9 (_:TP)=>(.bool v9,(.obj l3 (r1 .busy none)::fH b0 a0 l2 c1 b6 o2 l1 c0 e0 ak r0 (dH b1::dH b2::.obj b7 (.cells [vt b28 l9] .own)::vU b28 l9 t0::om b16 o8 l12 c4 (jr b11 o5 l7 e1 bg r6 c2 [fF b14 x3 x4 v0 v5]))))) v9 (fun m hm=>?_) ?_;clear hF;revert v9;intro r hF;refine aQ (N:=9) (rs:=[.tmp 4]) rfl Try.func82 rfl rfl rfl hm ?_;refine wz ?_;refine wb fun b43=>?_;refine au ?_;obtain⟨r37,h63,hF⟩:=J hF;refine wc gn (fun m hm=>Ku h63 m (hm.q 4) (hm.q 7) (hm.dp (q:=6) rfl)) ?_;rintro⟨⟩;refine au ?_;obtain rfl:=QL hF;exact ar () [2,3,4,5,6,7,10,11,12,9,13,14,15,16,17,8];rintro⟨⟩;refine wz ?_;rcases U hF with⟨h64,hF⟩|⟨h64,hF⟩;refine au ?_;cases hF;exact aT () (To (Tj (k:=9) rfl) (Ti [0,1,2,3,4,5,6,7,8,9,10,11,12,13,14,15] rfl rfl));refine au ?_;cases hF;exact aT () (To (Tj (k:=9) rfl) (Ti [0,1,2,3,4,5,15,9,6,7,8,10,11,12,13,14] rfl rfl));refine wz ?_;cases hF;exact ae () [0,1,2,3,4,5,8,9,10,7,11,12,13,14,15,6];rcases r27 with v22|_;rintro⟨⟩;refine wz ?_;obtain rfl:=QL hF;exact ar () (TL 0 16);rintro⟨⟩;refine fW ?_;cases hF;exact ar () (TL 0 16);rintro⟨⟩;refine wz ?_;rcases U hF with⟨h18,hF⟩|⟨h18,hF⟩;refine Ty rfl h18<|Td<|TB (prs:=[(1,2)]) (by kernel_rfl)<|Tf (aG (r:=ptr b14 2) rfl (mM _ _)) rfl<|Wn.uZ rfl (aH (k:=15) cb rfl rfl rfl) rfl<|Wn.Ht rfl (ek (k:=6) cb rfl rfl rfl rfl rfl)<|Wn.o0 (ek (k:=7) cb rfl rfl rfl rfl rfl)<|Tx (fun m hm=>(dj.rw rfl rfl rfl (hm.ne (i:=15) (j:=6) rfl rfl rfl rfl (by decide) rfl) dj.nil)) ?_
 refine au ?_;cases hF;exact ae none (TL 0 15);refine au ?_;refine Ts (bY (es:=([(x3,x4,v0,v5)]:TO (SP)).map (eP (eI .i64) (eP (eI .i64) (eP (eI .i64) (eI .i64))))) IT rfl (bZ IT qH rfl rfl) rfl rfl) gn rfl fun b44=>?_;obtain⟨h65,hF⟩:=az hF;refine Ts (so (k:=10) (k2:=0) (xs:=(l9:TO (SP))) (ys:=([(x3,x4,v0,v5)]:TO (SP))) (DC (sF .i64) (DC (sF .i64) (DC (sF .i64) (sF .i64)))) IT ⟨_,NX⟩ rfl rfl rfl (.arr _ _ _ _ _) h65) gn rfl fun a27=>?_;refine wz ?_;cases hF;exact ae a27 (TL 1 15);rcases r13 with _|l42;rintro g0;refine au ?_;cases hF;exact ae a2 (TL 0 10);rintro a16;refine fW ?_;cases hF;exact ae a16 [0,11,3,4,5,12,13,14,1,2,6,7,8,9];refine wz ?_;cases hF;exact ae a2 (0::TL 2 12);rcases r26 with l24|l41;rintro a8;refine wz ?_;cases hF;exact ae a8 (TL 0 10);rintro a15;refine au ?_;cases hF;exact ae a15 (0::1::2::3::6::5::TL 7 6);refine wz ?_;cases hF;exact ae a7 (0::1::2::3::TL 6 6);rcases r25 with l23|l39;rintro a6;refine wz ?_;cases hF;exact ae a6 [0,1,2,5,4,6,7,8,9];rintro a13;refine au ?_;cases hF;exact ae a13 (0::3::2::TL 4 6);refine wz ?_;cases hF;exact ae a5 [0,3,4,1,2,5,6,7,8];rcases r24 with⟨v20,l22⟩|l37;rintro a4;refine At.br ?_;cases hF;exact Tt .nil fun m' hm=>⟨a4,(Ti [0,1,2,3,4,5,6,7,8] rfl rfl) m' hm⟩;rintro a12;refine TJ ?_;cases hF;exact At.fin .nil fun m' hm=>⟨a12,(Ti [0,1,2,3,4,5,6,7,8] rfl rfl) m' hm⟩;rcases r12 with⟨v19,l21⟩|l36;rintro a11
 change Wk _ _ _ _ .ret _ _ _ _
 refine wz ?_;cases hF;exact Tt (.cell (k:=4) cb rfl rfl rfl (.cell (k:=5) cb rfl rfl rfl .nil)) fun m' hm=>⟨(),rfl,(Ti [] rfl rfl) m' hm⟩;rintro a21
 change At _ .normal _ _ _
 refine au ?_;refine Tc (je rfl rfl) rfl<|wa Px fun b3=>?_;refine au ?_;obtain⟨r28,h66,hF⟩:=J hF;refine wq (fun _ (b26:Nat)=>(.func (.func 73) #[] #[ptr b26 0],(fp b26 a0 l2 c1 a1 l1 c0 e0 ak r0 [DB b0 a0 l2 c1 a1 l1 c0,dH b1,dH b2,.obj b3 (.cells [.func (.func 84) #[] #[ptr b0 0]] .own)]))) r28 (fun m hm=>?_) ?_;clear hF;revert r28;intro r hF;refine aQ (N:=4) (rs:=[.tmp 2]) rfl Try.func50 rfl rfl rfl hm ?_;refine wz ?_;refine wb fun b36=>?_;refine au ?_;refine Tc (je rfl rfl) rfl ?_;refine au ?_;cases hF;exact ar b36 [0,3,4,5,2,6,7,1];rintro b26;refine wz ?_;refine Th ?_;obtain⟨r14,h67,hF⟩:=J hF;refine Wk.range (N:=50) (rs:=[]) (γ:=TP) (X:=fun g=>(fun(r:Int⊕TP) (g:TP)=>(match r,g with|.inl v24,_=>⟨.done,(some .ret),(fp b0 a0 l2 c1 a1 l1 c0 e0 ak r0 [DL b1,db b2 v24,.obj b3 (.cells [.func (.func 84) #[] #[ptr b0 0]] .own)])⟩|.inr _,_=>⟨.ready,none,(fp b0 a0 l2 c1 a1 l1 c0 e0 ak r0 [dH b1,dH b2,.obj b3 (.cells [.func (.func 84) #[] #[ptr b0 0]] .own)])⟩:Rn)) r14 g) rfl rfl Try.func73 rfl rfl rfl ?_ (fun y=>by rcases r14 with _|_<;>(intro e; cases e)) ?_
 clear hF;revert r14;intro r hF;intro t3 l5 r4 h68 h69;refine wz ?_;refine Th ?_;obtain⟨r29,h8,hF⟩:=J hF;refine ct (fun(r:Int⊕TP) (g:TP)=>match r,g with|.inl v25,_=>⟨.ret,[],(.obj l5 (r4 .done (some .ret))::fp b0 a0 l2 c1 a1 l1 c0 e0 ak r0 [DL b1,db b2 v25,.obj b3 (.cells [.func (.func 84) #[] #[ptr b0 0]] .own)])⟩|.inr _,_=>⟨(.exit 0),[],(.obj l5 (r4 .ready none)::fp b0 a0 l2 c1 a1 l1 c0 e0 ak r0 [dH b1,dH b2,.obj b3 (.cells [.func (.func 84) #[] #[ptr b0 0]] .own)])⟩) r29 ?_ ?_
 refine lo h8 () [0,3,4,5,2,6,7,8] (fun v3 _=>⟨.normal,((0,.func (.yield l5) #[] #[])::ym a1 l1 c0 v3 []),[.obj l5 (r4 .ready none),De a1 c0 l1 e0,fO ak r0 l1 e0,DB b0 a0 l2 c1 a1 l1 c0,q6 a0 c1 l2,dH b1,dH b2,.obj b3 (.cells [.func (.func 84) #[] #[ptr b0 0]] .own)]⟩) ?_;clear hF h8;rintro v3 ⟨⟩ r hF;unfold lK at hF;refine wz ?_;refine Td ?_;rcases U hF with⟨h70,hF⟩|⟨h70,hF⟩;refine au ?_;obtain⟨h71,hF⟩:=cO hF;refine Tv (k:=1) rfl (aM h71) ?_;rintro b8 o3 rfl;refine wz ?_;obtain⟨⟨l20,l14⟩,h19,hF⟩:=J hF;refine wl 2 0 3 0 h19 ?_;rintro⟨⟨a32,c18⟩,⟨a33,c19,e10⟩⟩;refine wa z54 fun b45=>?_;refine au ?_;obtain⟨l10,h72,hF⟩:=J hF;refine EU gn (fun m hm=>iD h72 m hm.du (hm.q 1) (hm.no 1) (hm.q 2) (hm.no 2) (hm.dp (q:=3) rfl) (hm.fQ (q:=3) rfl)) ?_;rintro⟨a23,c5,n2,e5,r8⟩;refine Wo.iv (k:=0) (q:=1) (L:=l10) rfl (.inr (.inl ⟨_,rfl⟩)) rfl ?_;rintro rfl;refine wz ?_;refine Th ?_;obtain⟨r30,h9,hF⟩:=J hF;refine ct (fun(r:TP⊕TP) (g:TP)=>match r,g with|.inl _,_=>⟨.ret,[],(.obj l5 (r4 .done (some .ret))::fH b0 a0 l2 c1 b8 o3 l1 c0 e0 ak r0 [DL b1,db b2 v3,.obj b3 (.cells [.func (.func 84) #[] #[ptr b0 0]] .own)])⟩|.inr _,_=>⟨(.exit 2),((0,.func (.yield l5) #[] #[])::sy b8 o3 l1 c0 v3 []),(.obj l5 (r4 .ready none)::q7 b8 o3 l1 e0 ak r0 c0 (qE b0 a0 l2 c1 b8 o3 l1 c0 b1 b2 [.obj b3 (.cells [.func (.func 84) #[] #[ptr b0 0]] .own)]))⟩) r30 ?_ ?_
 refine lo h9 () [7,6,9,8,0,1,10,11,12,13,14] (fun v2 _=>⟨.normal,((0,.func (.yield l5) #[] #[])::(3,ba v3)::sy b8 o3 l1 c0 v3 [(18,bD a23 l10 c5),(19,dN l10),(20,ba v2)]),(.obj l5 (r4 .ready none)::q7 b8 o3 l1 e0 ak r0 c0 (iM a23 c5 l10 e5::fO bg r8 l10 e5::qE b0 a0 l2 c1 b8 o3 l1 c0 b1 b2 [.obj b3 (.cells [.func (.func 84) #[] #[ptr b0 0]] .own)]))⟩) ?_;clear hF h9;rintro v2 ⟨⟩ r hF;unfold qk at hF;refine wz ?_;refine Td ?_;rcases U hF with⟨h73,hF⟩|⟨h73,hF⟩;refine au ?_;obtain⟨h74,hF⟩:=cO hF;refine Tv (k:=4) rfl (aM h74) ?_;rintro b15 o7 rfl;refine wz ?_;obtain⟨l15,h75,hF⟩:=J hF;refine wl 1 0 6 0 h75 ?_;rintro⟨a17,c8⟩;refine au ?_;refine Th ?_;obtain⟨r31,h10,hF⟩:=J hF;refine ct (fun(r:TP⊕TP) (g:TP)=>match r,g with|.inl _,_=>⟨.ret,[],(.obj l5 (r4 .done (some .ret))::fH b0 a0 l2 c1 b8 o3 l1 c0 e0 ak r0 [DL b1,db b2 v3,.obj b3 (.cells [.func (.func 84) #[] #[ptr b0 0]] .own)])⟩|.inr _,_=>⟨(.exit 4),((0,.func (.yield l5) #[] #[])::(3,ba v3)::sy b8 o3 l1 c0 v3 (tP b15 o7 l10 c5 v2 [])),(.obj l5 (r4 .ready none)::q7 b8 o3 l1 e0 ak r0 c0 (jr b15 o7 l10 e5 bg r8 c5 (qE b0 a0 l2 c1 b8 o3 l1 c0 b1 b2 [.obj b3 (.cells [.func (.func 84) #[] #[ptr b0 0]] .own)])))⟩) r31 ?_ ?_
 refine lo h10 () [2,0,3,4,5,1,7,6,8,9,10,11,12] (fun v26 _=>⟨.normal,((0,.func (.yield l5) #[] #[])::(3,ba v3)::(5,ba v2)::(6,bD a17 l15 c8)::sy b8 o3 l1 c0 v3 (tP b15 o7 l10 c5 v2 [(25,bD a17 l15 c8),(26,dN l15),(27,ba v26)])),(.obj l5 (r4 .ready none)::mY a17 c8 l15::q7 b8 o3 l1 e0 ak r0 c0 (jr b15 o7 l10 e5 bg r8 c5 (qE b0 a0 l2 c1 b8 o3 l1 c0 b1 b2 [.obj b3 (.cells [.func (.func 84) #[] #[ptr b0 0]] .own)])))⟩) ?_;clear hF h10;rintro v26 ⟨⟩ r hF;unfold qd at hF;refine wz ?_;refine Td ?_;rcases U hF with⟨h76,hF⟩|⟨h76,hF⟩;refine au ?_;obtain⟨h77,hF⟩:=cO hF;refine Tv (k:=1) rfl (aM h77) ?_;rintro b20 o11 rfl;refine wz ?_;obtain⟨x14,h116,hF⟩:=J hF;refine au ?_;obtain⟨h78,hF⟩:=az hF;refine Tc (aJ rfl rfl (bU _ _ h78)) rfl ?_;obtain⟨h117,hF⟩:=cO hF;refine wz ?_;obtain⟨x15,h118,hF⟩:=J hF;refine wz ?_;refine Tc (cp rfl qH rfl (cm xz rfl rfl rfl)) rfl ?_;obtain⟨r15,h20,hF⟩:=J hF;refine Ts (tJ (k:=1) (k1:=0) (γA:=Nat) (GA:=(fun g:Nat=>(match g with|b17=>⟨.normal,((1,ptr b0 0)::ic b1 b2 [(8,ptr b3 0),(9,ptr b17 0)]),(.obj l5 (r4 .ready none)::fH b0 a0 l2 c1 b8 o3 l1 c0 e0 ak r0 (dH b1::dH b2::.obj b3 (.cells [.func (.func 84) #[] #[ptr b0 0]] .own)::fF b17 x14 x15 v3 v2::om b20 o11 l15 c8 (jr b15 o7 l10 e5 bg r8 c5 [])))⟩:En))) (γ:=TP) (G:=fun g=>(fun(r:TP⊕TP) (g:TP)=>(match r,g with|.inl _,_=>⟨.normal,[],(.obj l5 (r4 .busy none)::fH b0 a0 l2 c1 b8 o3 l1 c0 e0 ak r0 (dH b1::dH b2::.obj b3 (.cells [.func (.func 84) #[] #[ptr b0 0]] .own)::om b20 o11 l15 c8 (jr b15 o7 l10 e5 bg r8 c5 [])))⟩|.inr _,_=>⟨.ret,[],(.obj l5 (r4 .busy none)::fH b0 a0 l2 c1 b8 o3 l1 c0 e0 ak r0 (DL b1::db b2 v3::.obj b3 (.cells [.func (.func 84) #[] #[ptr b0 0]] .own)::om b20 o11 l15 c8 (jr b15 o7 l10 e5 bg r8 c5 [])))⟩:En)) r15 g) rfl rfl rfl h69 h68 rfl ?_ (fun _=>rfl) (fun _=>rfl) ?_ (fun y=>by rcases r15 with _|_<;>rfl)) gn rfl ?_
 clear hF h20;refine Te<|wa qH fun b37=>?_;refine wz ?_;exact ae b37 [2,10,11,4,5,6,12,13,14,0,1,3,7,8,9];clear hF;revert r15;intro r hF;rintro b17;refine wz ?_;rcases U hF with⟨h79,hF⟩|⟨h79,hF⟩;refine wz ?_;cases hF;exact ae () [0,1,2,3,4,5,6,7,8,10,11,12,13,14];refine au ?_;obtain⟨h119,hF⟩:=cO hF;refine wz ?_;refine wl 2 0 4 3 h19 ?_;rintro⟨⟨a9,c10⟩,⟨a18,c11,e4⟩⟩;refine wa z54 fun b21=>?_;refine wz ?_;refine Td<|TB (prs:=[(2,4),(2,7)]) (by kernel_rfl)<|Tf (aG (r:=ptr b21 1) rfl (eO _ _)) rfl<|Tf (aH (k:=0) kT rfl rfl rfl) rfl ?_
 obtain⟨_,h80,hF⟩:=J hF;refine Wn.c (OJ (N:=fun x:SU×Nat=>[.sl x.1 1 x.2 e4]) rfl rfl (fun m hm=>LN n l14 e4 a18 c11 _ h80 m (hm.q 2) (hm.dp (q:=3) rfl)) fun _=>rfl) gn rfl ?_;rintro⟨a3,n4⟩;refine Wn.iv (k:=0) (q:=4) (L:=l14) rfl (.inl rfl) rfl ?_;rintro rfl;refine Tf (aG (r:=ptr b17 3) rfl (wP _ _)) rfl<|Tf (aH (k:=14) cb rfl rfl rfl) rfl<|Tf (aJ rfl rfl (cR _ _ _)) rfl<|Tf (aG (r:=ptr b17 3) rfl (wP _ _)) rfl<|Tf (aH (k:=14) cb rfl rfl rfl) rfl ?_;obtain⟨l18,h21,hF⟩:=J hF;refine Wn.x (ln (α:=TP) (V:=fun _=>.slice a3 l18.length l14.length) (N:=(fun _:TP=>bI (.sl a3 1 l14.length e4::DB b21 a9 l20 c10 a18 l14 c11::mY a9 c10 l20::iM a18 c11 l14 e4::fO bg r0 l14 e4::.obj l5 (r4 .busy none)::fH b0 a0 l2 c1 b8 o3 l1 c0 e0 ak r0 (dH b1::dH b2::.obj b3 (.cells [.func (.func 84) #[] #[ptr b0 0]] .own)::fF b17 x14 x15 v3 v2::om b20 o11 l15 c8 (jr b15 o7 l10 e5 bg r8 c5 []))) 0 (.gen (mZ a3 l14.length 1 l18.length (e4.take (S6 (v2-1):Int).toNat++e4.drop (v2:Int).toNat))))) rfl rfl (fun m hm=>HL n hm (k:=0) (qq:=4) rfl rfl h21)) gn rfl fun _=>?_;refine TK (aa.Oa (q:=4) (i:=(S6 (v2-1):Int).toNat) (j:=(v2:Int).toNat) rfl (Ky h21))<|Tf (aG (r:=ptr b21 1) rfl (eO _ _)) rfl<|Wn.o0 (ek (k:=2) kT rfl rfl rfl rfl rfl)<|Tx (fun m hm=>dj.all rfl)<|Tl<|Td<|TB (prs:=[(0,4),(1,4)]) (by kernel_rfl)<|Wn.uZ rfl (aH (k:=7) eW rfl rfl rfl) rfl<|Wn.uZ rfl (aH (k:=2) Hl rfl rfl rfl) rfl<|Tf (aH (k:=14) EL rfl rfl rfl) rfl<|Tf (aH (k:=15) FN rfl rfl rfl) rfl ?_
 obtain⟨r16,h81,hF⟩:=J hF;refine Wn.xk (l:=[b0,b21]) (ln (α:=TP) (V:=fun g=>(fun(r:Int×Int) (g:TP)=>match r,g with |(v11,v12),_=>(.agg #[ba v11,ba v12]:SX)) r16 g) (N:=fun g=>(fun(r:Int×Int) (g:TP)=>match r,g with |(v11,v12),_=>((.obj l5 (r4 .busy none)::fH b0 a0 l2 c1 b8 o3 l1 c0 e0 ak r0 (dH b1::dH b2::.obj b3 (.cells [.func (.func 84) #[] #[ptr b0 0]] .own)::om b20 o11 l15 c8 (jr b15 o7 l10 e5 bg r8 c5 [fF b17 x14 x15 v3 v2,.obj b21 (.cells [bD a9 l20 c10,.slice a3 l18.length l14.length] .own),mY a9 c10 l20,.gen (mZ a3 l14.length 1 l18.length (e4.take (S6 (v2-1):Int).toNat++e4.drop (v2:Int).toNat)),.gen (cd bg r0 l18 (e4.take (S6 (v2-1):Int).toNat++e4.drop (v2:Int).toNat))]))):TO Pc)) r16 g) rfl rfl (fun m hm=>?_)) ⟨⟨_,7,rfl,rfl,fun _=>⟨1,rfl⟩⟩,⟨⟨_,2,rfl,rfl,fun _=>⟨15,rfl⟩⟩,trivial⟩⟩ gn rfl ?_
 clear hF;revert r16;intro r hF;refine aQ (N:=29) (rs:=[.cell 3 26]) rfl Try.func84 rfl rfl rfl hm ?_;refine wz ?_;refine wb fun b29=>?_;refine wa z26 fun b46=>?_;refine wz ?_;refine Td<|TB (prs:=[(7,14),(9,14),(11,14)]) (by kernel_rfl)<|Tf (aG (r:=ptr b0 0) rfl (ju _ _)) rfl<|Tf (aH (k:=9) tL rfl rfl rfl) rfl<|Tf (aG (r:=ptr b29 0) rfl (vT _ _)) rfl<|Tf (aH (k:=1) cb rfl rfl rfl) rfl ?_
 obtain⟨h22,hF⟩:=cO hF;refine Wn.bt (k:=10) rfl (aM h22) ?_;rintro b47 o13 rfl;refine TG (lL w5 rfl rfl h22) gn rfl ?_;obtain⟨⟨x20,x21⟩,h82,hF⟩:=J hF;refine Tf (p8 (k:=0) df rfl rfl (js h82) rfl rfl) rfl<|Tf (aG (r:=ptr b0 0) rfl (ju _ _)) rfl<|Wn.uZ rfl (aH (k:=10) tL rfl rfl rfl) rfl<|Tf (aG (r:=ptr b29 1) rfl (vm _ _)) rfl<|Wn.uZ rfl (aH (k:=2) cb rfl rfl rfl) rfl ?_;obtain⟨h83,hF⟩:=cO hF;refine TG (lL w5 rfl rfl h83) gn rfl ?_;obtain⟨⟨x22,x23⟩,h84,hF⟩:=J hF;refine Wn.uZ rfl (p8 (k:=0) df rfl rfl (js h84) rfl rfl) rfl<|Wn.x (xr z26 rfl) gn rfl fun b48=>?_;refine Wn.x (xr z26 rfl) gn rfl fun b49=>?_;refine Wn.Ht rfl (ek (k:=1) df rfl rfl rfl rfl rfl)<|Wn.o0 (ek (k:=0) df rfl rfl rfl rfl rfl)<|Tx (fun m hm=>(dj.rw rfl rfl rfl (hm.ne (i:=12) (j:=1) rfl rfl rfl rfl (by decide) rfl) (dj.rw rfl rfl rfl (hm.ne (i:=4) (j:=1) rfl rfl rfl rfl (by decide) rfl) (dj.rw rfl rfl rfl (hm.ne (i:=1) (j:=2) rfl rfl rfl rfl (by decide) rfl).symm dj.nil)))) ?_
 refine au ?_;refine Tc (cp rfl z26 rfl (cm Ar rfl rfl rfl)) rfl ?_;refine au ?_;cases hF;exact Tt (.cell (k:=3) df rfl rfl rfl .nil) fun m' hm=>⟨(),rfl,(Ti [11,12,13,14,15,16,17,18,19,21,22,23,24,25,20,7,8,6,5] rfl rfl) m' hm⟩;clear h81;obtain⟨v11,v12⟩:=r16;rintro⟨⟩;obtain⟨r38,h85,hF⟩:=J hF;refine TK (aa.qF (k:=17) rfl)<|nc gn (fun m hm=>AN h85 m (hm.q 2) (hm.q 5) (hm.dp (q:=4) rfl) (hm.q 16) (hm.q 17) (hm.dp (q:=18) rfl)) ?_;rintro⟨⟩;refine Tf (Cs rfl rfl) rfl ?_;refine Tx (fun m hm=>(by(first|refine dj.rk rfl rfl rfl (by simp) ?_|refine dj.step rfl ?_); exact(by(first|refine dj.rk rfl rfl rfl (by simp) ?_|refine dj.step rfl ?_); exact dj.nil))) ?_
 refine Tl ?_;rcases U hF with⟨h23,hF⟩|⟨h23,hF⟩;refine Ty rfl h23<|Td<|TB (prs:=[(1,2)]) (by kernel_rfl)<|Tf (aG (r:=ptr b17 2) rfl (mM _ _)) rfl<|Wn.uZ rfl (aH (k:=14) cb rfl rfl rfl) rfl<|Wn.Ht rfl (ek (k:=6) cb rfl rfl rfl rfl rfl)<|Wn.o0 (ek (k:=7) cb rfl rfl rfl rfl rfl)<|Tx (fun m hm=>(dj.rw rfl rfl rfl (hm.ne (i:=14) (j:=6) rfl rfl rfl rfl (by decide) rfl) dj.nil)) ?_
 refine au ?_;cases hF;exact ae () (TL 0 14);refine wz ?_;cases hF;exact ae () (TL 0 14);rcases r15 with _|_;rintro⟨⟩;refine fW ?_;cases hF;exact ae () [0,10,3,4,5,11,12,13,1,2,6,7,8];rintro⟨⟩;refine au ?_;cases hF;exact ae () (TL 0 9);refine wz ?_;cases hF;exact ae () (0::TL 2 11);rcases r31 with _|_;rintro⟨⟩;refine wz ?_;cases hF;exact ae () (TL 0 9);rintro⟨⟩;refine au ?_;cases hF;exact ae () [0,1,2,3,6,5,7,8,9,10,11];refine wz ?_;cases hF;exact ae () [0,1,2,3,6,7,8,9,10];rcases r30 with _|_;rintro⟨⟩;refine wz ?_;cases hF;exact ae () [0,1,2,5,4,6,7,8];rintro⟨⟩;refine au ?_;cases hF;exact ae () [0,3,2,4,5,6,7,8];refine wz ?_;cases hF;exact ae () [0,3,4,1,2,5,6,7];rcases r29 with v25|_;rintro⟨⟩;refine At.br ?_;cases hF;exact Tt .nil fun m' hm=>⟨(),(Ti [0,1,2,3,4,5,6,7] rfl rfl) m' hm⟩;rintro⟨⟩;refine TJ ?_;cases hF;exact At.fin .nil fun m' hm=>⟨(),(Ti [0,1,2,3,4,5,6,7] rfl rfl) m' hm⟩;rcases r14 with v24|_;rintro⟨⟩
 change Wk _ _ _ _ .ret _ _ _ _
 refine wz ?_;cases hF;exact Tt (.cell (k:=4) cb rfl rfl rfl (.cell (k:=5) cb rfl rfl rfl .nil)) fun m' hm=>⟨(),rfl,(Ti [] rfl rfl) m' hm⟩;rintro⟨⟩
 change At _ .normal _ _ _
 refine au ?_;obtain⟨r32,h86,hF⟩:=J hF;refine wq (fun _ (b27:Nat)=>(.func (.func 73) #[] #[ptr b27 0],(fp b27 a0 l2 c1 a1 l1 c0 e0 ak r0 [DB b0 a0 l2 c1 a1 l1 c0,dH b1,dH b2,.obj b3 (.cells [.func (.func 84) #[] #[ptr b0 0]] .own)]))) r32 (fun m hm=>?_) ?_;clear hF;revert r32;intro r hF;refine aQ (N:=4) (rs:=[.tmp 2]) rfl Try.func50 rfl rfl rfl hm ?_;refine wz ?_;refine wb fun b38=>?_;refine au ?_;refine Tc (je rfl rfl) rfl ?_;refine au ?_;cases hF;exact ar b38 [0,2,3,4,1,5,6,7];rintro b27;refine wz ?_;refine Th ?_;obtain⟨r17,h87,hF⟩:=J hF;refine Wk.range (N:=50) (rs:=[]) (γ:=TP) (X:=fun g=>(fun(r:Int⊕TP) (g:TP)=>(match r,g with|.inl v27,_=>⟨.done,(some .ret),(fp b0 a0 l2 c1 a1 l1 c0 e0 ak r0 [C6 b1,db b2 v27,.obj b3 (.cells [.func (.func 84) #[] #[ptr b0 0]] .own)])⟩|.inr _,_=>⟨.ready,none,(fp b0 a0 l2 c1 a1 l1 c0 e0 ak r0 [dH b1,dH b2,.obj b3 (.cells [.func (.func 84) #[] #[ptr b0 0]] .own)])⟩:Rn)) r17 g) rfl rfl Try.func73 rfl rfl rfl ?_ (fun y=>by rcases r17 with _|_<;>(intro e; cases e)) ?_
 clear hF;revert r17;intro r hF;intro t4 l4 r3 h88 h89;refine wz ?_;refine Th ?_;obtain⟨r33,h11,hF⟩:=J hF;refine ct (fun(r:Int⊕TP) (g:TP)=>match r,g with|.inl v28,_=>⟨.ret,[],(.obj l4 (r3 .done (some .ret))::fp b0 a0 l2 c1 a1 l1 c0 e0 ak r0 [C6 b1,db b2 v28,.obj b3 (.cells [.func (.func 84) #[] #[ptr b0 0]] .own)])⟩|.inr _,_=>⟨(.exit 0),[],(.obj l4 (r3 .ready none)::fp b0 a0 l2 c1 a1 l1 c0 e0 ak r0 [dH b1,dH b2,.obj b3 (.cells [.func (.func 84) #[] #[ptr b0 0]] .own)])⟩) r33 ?_ ?_
 refine lo h11 () [0,3,4,5,2,6,7,8] (fun v1 _=>⟨.normal,((0,.func (.yield l4) #[] #[])::ym a1 l1 c0 v1 []),[.obj l4 (r3 .ready none),De a1 c0 l1 e0,fO ak r0 l1 e0,DB b0 a0 l2 c1 a1 l1 c0,q6 a0 c1 l2,dH b1,dH b2,.obj b3 (.cells [.func (.func 84) #[] #[ptr b0 0]] .own)]⟩) ?_;clear hF h11;rintro v1 ⟨⟩ r hF;unfold lE at hF;refine wz ?_;refine Td ?_;rcases U hF with⟨h90,hF⟩|⟨h90,hF⟩;refine au ?_;obtain⟨h91,hF⟩:=cO hF;refine Tv (k:=1) rfl (aM h91) ?_;rintro b5 o1 rfl;refine wz ?_;obtain⟨⟨l48,l49⟩,h92,hF⟩:=J hF;refine wl 2 0 3 0 h92 ?_;rintro⟨⟨a34,c20⟩,⟨a35,c21,e11⟩⟩;refine wa z54 fun b50=>?_;refine au ?_;obtain⟨l8,h93,hF⟩:=J hF;refine EU gn (fun m hm=>iD h93 m hm.du (hm.q 1) (hm.no 1) (hm.q 2) (hm.no 2) (hm.dp (q:=3) rfl) (hm.fQ (q:=3) rfl)) ?_;rintro⟨a24,c3,n5,e3,r7⟩;refine Wo.iv (k:=0) (q:=1) (L:=l8) rfl (.inr (.inl ⟨_,rfl⟩)) rfl ?_;rintro rfl;refine wz ?_;refine Th ?_;obtain⟨r34,h12,hF⟩:=J hF;refine ct (fun(r:TP⊕TP) (g:TP)=>match r,g with|.inl _,_=>⟨.ret,[],(.obj l4 (r3 .done (some .ret))::fH b0 a0 l2 c1 b5 o1 l1 c0 e0 ak r0 [C6 b1,db b2 v1,.obj b3 (.cells [.func (.func 84) #[] #[ptr b0 0]] .own)])⟩|.inr _,_=>⟨(.exit 2),((0,.func (.yield l4) #[] #[])::sy b5 o1 l1 c0 v1 []),(.obj l4 (r3 .ready none)::q7 b5 o1 l1 e0 ak r0 c0 (qE b0 a0 l2 c1 b5 o1 l1 c0 b1 b2 [.obj b3 (.cells [.func (.func 84) #[] #[ptr b0 0]] .own)]))⟩) r34 ?_ ?_
 refine lo h12 () [7,6,9,8,0,1,10,11,12,13,14] (fun v6 _=>⟨.normal,((0,.func (.yield l4) #[] #[])::(3,ba v1)::sy b5 o1 l1 c0 v1 [(18,bD a24 l8 c3),(19,dN l8),(20,ba v6)]),(.obj l4 (r3 .ready none)::q7 b5 o1 l1 e0 ak r0 c0 (iM a24 c3 l8 e3::fO bg r7 l8 e3::qE b0 a0 l2 c1 b5 o1 l1 c0 b1 b2 [.obj b3 (.cells [.func (.func 84) #[] #[ptr b0 0]] .own)]))⟩) ?_;clear hF h12;rintro v6 ⟨⟩ r hF;unfold lz at hF;refine wz ?_;refine Td ?_;rcases U hF with⟨h94,hF⟩|⟨h94,hF⟩;refine au ?_;obtain⟨h95,hF⟩:=cO hF;refine Tv (k:=4) rfl (aM h95) ?_;rintro b12 o6 rfl;refine wz ?_;obtain⟨l13,h96,hF⟩:=J hF;refine wl 1 0 6 0 h96 ?_;rintro⟨a19,c6⟩;refine au ?_;refine Th ?_;obtain⟨r35,h13,hF⟩:=J hF;refine ct (fun(r:TP⊕TP) (g:TP)=>match r,g with|.inl _,_=>⟨.ret,[],(.obj l4 (r3 .done (some .ret))::fH b0 a0 l2 c1 b5 o1 l1 c0 e0 ak r0 [C6 b1,db b2 v1,.obj b3 (.cells [.func (.func 84) #[] #[ptr b0 0]] .own)])⟩|.inr _,_=>⟨(.exit 4),((0,.func (.yield l4) #[] #[])::(3,ba v1)::sy b5 o1 l1 c0 v1 (tP b12 o6 l8 c3 v6 [])),(.obj l4 (r3 .ready none)::q7 b5 o1 l1 e0 ak r0 c0 (jr b12 o6 l8 e3 bg r7 c3 (qE b0 a0 l2 c1 b5 o1 l1 c0 b1 b2 [.obj b3 (.cells [.func (.func 84) #[] #[ptr b0 0]] .own)])))⟩) r35 ?_ ?_
 refine lo h13 () [2,0,3,4,5,1,7,6,8,9,10,11,12] (fun v29 _=>⟨.normal,((0,.func (.yield l4) #[] #[])::(3,ba v1)::(5,ba v6)::(6,bD a19 l13 c6)::sy b5 o1 l1 c0 v1 (tP b12 o6 l8 c3 v6 [(25,bD a19 l13 c6),(26,dN l13),(27,ba v29)])),(.obj l4 (r3 .ready none)::mY a19 c6 l13::q7 b5 o1 l1 e0 ak r0 c0 (jr b12 o6 l8 e3 bg r7 c3 (qE b0 a0 l2 c1 b5 o1 l1 c0 b1 b2 [.obj b3 (.cells [.func (.func 84) #[] #[ptr b0 0]] .own)])))⟩) ?_;clear hF h13;rintro v29 ⟨⟩ r hF;unfold lC at hF;refine wz ?_;refine Td ?_;rcases U hF with⟨h97,hF⟩|⟨h97,hF⟩;refine au ?_;obtain⟨h98,hF⟩:=cO hF;refine Tv (k:=1) rfl (aM h98) ?_;rintro b18 o9 rfl;refine wz ?_;obtain⟨x10,h120,hF⟩:=J hF;refine au ?_;obtain⟨h99,hF⟩:=az hF;refine Tc (aJ rfl rfl (bU _ _ h99)) rfl ?_;obtain⟨h121,hF⟩:=cO hF;refine wz ?_;obtain⟨x11,h122,hF⟩:=J hF;refine wz ?_;refine Tc (cp rfl qH rfl (cm xz rfl rfl rfl)) rfl ?_;obtain⟨r18,h24,hF⟩:=J hF;refine Ts (tJ (k:=1) (k1:=0) (γA:=Nat) (GA:=(fun g:Nat=>(match g with|b13=>⟨.normal,((1,ptr b0 0)::ic b1 b2 [(8,ptr b3 0),(11,ptr b13 0)]),(.obj l4 (r3 .ready none)::fH b0 a0 l2 c1 b5 o1 l1 c0 e0 ak r0 (dH b1::dH b2::.obj b3 (.cells [.func (.func 84) #[] #[ptr b0 0]] .own)::fF b13 x10 x11 v1 v6::om b18 o9 l13 c6 (jr b12 o6 l8 e3 bg r7 c3 [])))⟩:En))) (γ:=TP) (G:=fun g=>(fun(r:TP⊕TP) (g:TP)=>(match r,g with|.inl _,_=>⟨.ret,[],(.obj l4 (r3 .busy none)::fH b0 a0 l2 c1 b5 o1 l1 c0 e0 ak r0 (C6 b1::db b2 v1::.obj b3 (.cells [.func (.func 84) #[] #[ptr b0 0]] .own)::om b18 o9 l13 c6 (jr b12 o6 l8 e3 bg r7 c3 [])))⟩|.inr _,_=>⟨.normal,[],(.obj l4 (r3 .busy none)::fH b0 a0 l2 c1 b5 o1 l1 c0 e0 ak r0 (dH b1::dH b2::.obj b3 (.cells [.func (.func 84) #[] #[ptr b0 0]] .own)::om b18 o9 l13 c6 (jr b12 o6 l8 e3 bg r7 c3 [])))⟩:En)) r18 g) rfl rfl rfl h89 h88 rfl ?_ (fun _=>rfl) (fun _=>rfl) ?_ (fun y=>by rcases r18 with _|_<;>rfl)) gn rfl ?_
 clear hF h24;refine Te<|wa qH fun b39=>?_;refine wz ?_;exact ae b39 [2,10,11,4,5,6,12,13,14,0,1,3,7,8,9];clear hF;revert r18;intro r hF;rintro b13;refine wz ?_;refine Th ?_;obtain⟨r36,h14,hF⟩:=J hF;refine ct (fun(r:TP⊕TP) (g:TP)=>match r,g with|.inl _,_=>⟨.ret,(ic b1 b2 []),(.obj l4 (r3 .busy none)::C6 b1::db b2 v1::fH b0 a0 l2 c1 b5 o1 l1 c0 e0 ak r0 (.obj b3 (.cells [.func (.func 84) #[] #[ptr b0 0]] .own)::om b18 o9 l13 c6 (jr b12 o6 l8 e3 bg r7 c3 [])))⟩|.inr _,_=>⟨(.exit 8),((1,ptr b0 0)::ic b1 b2 [(8,ptr b3 0),(11,ptr b13 0)]),(.obj l4 (r3 .busy none)::fH b0 a0 l2 c1 b5 o1 l1 c0 e0 ak r0 (dH b1::dH b2::.obj b3 (.cells [.func (.func 84) #[] #[ptr b0 0]] .own)::fF b13 x10 x11 v1 v6::om b18 o9 l13 c6 (jr b12 o6 l8 e3 bg r7 c3 [])))⟩) r36 ?_ ?_
 refine lo h14 () [0,1,2,3,4,5,6,7,8,9,10,11,12,13,14] (fun v13 _=>⟨.normal,((1,ptr b0 0)::ic b1 b2 [(8,ptr b3 0),(11,ptr b13 0),(82,tK b5 o1 l1 c0),(83,dN l1),(84,ba v13)]),(.obj l4 (r3 .busy none)::fH b0 a0 l2 c1 b5 o1 l1 c0 e0 ak r0 (dH b1::dH b2::.obj b3 (.cells [.func (.func 84) #[] #[ptr b0 0]] .own)::fF b13 x10 x11 v1 v6::om b18 o9 l13 c6 (jr b12 o6 l8 e3 bg r7 c3 [])))⟩) ?_;clear hF h14;rintro v13 ⟨⟩ r hF;unfold sR at hF;refine wz ?_;refine Td ?_;rcases U hF with⟨h100,hF⟩|⟨h100,hF⟩;refine au ?_;obtain⟨h123,hF⟩:=cO hF;refine wz ?_;obtain⟨⟨l43,l25⟩,h101,hF⟩:=J hF;refine wl 2 0 4 3 h101 ?_;rintro⟨⟨a25,c12⟩,⟨a26,c13,e7⟩⟩;refine wa z54 fun b30=>?_;refine wz ?_;refine Td ?_;obtain⟨v10,h102,hF⟩:=J hF;refine ct (fun v10 (_:TP)=>⟨.normal,((1,ptr b0 0)::ic b1 b2 [(8,ptr b3 0),(11,ptr b13 0),(82,tK b5 o1 l1 c0),(83,dN l1),(84,ba v13),(100,.bool v10)]),(.obj l4 (r3 .busy none)::fH b0 a0 l2 c1 b5 o1 l1 c0 e0 ak r0 (dH b1::dH b2::.obj b3 (.cells [.func (.func 84) #[] #[ptr b0 0]] .own)::fF b13 x10 x11 v1 v6::om b18 o9 l13 c6 (jr b12 o6 l8 e3 bg r7 c3 [])))⟩) v10 ?_ ?_;clear hF;revert v10;intro r hF;refine TB (prs:=[(5,9),(6,9)]) (by kernel_rfl)<|Tf (aS rfl) rfl<|Tf (aG (r:=ptr b13 2) rfl (mM _ _)) rfl<|Tf (aH (k:=13) cb rfl rfl rfl) rfl<|Tf (aJ rfl rfl (AS _ _)) rfl<|Tf (aS rfl) rfl ?_
 rcases U hF with⟨h0,hF⟩|⟨h0,hF⟩;refine Wn.O5 rfl (aH (k:=5) eW rfl rfl rfl) (gg rfl rfl (eT h0)) rfl<|Wn.O5 rfl (aH (k:=0) Hl rfl rfl rfl) (gg rfl rfl (eT h0)) rfl<|TG (aH (k:=12) EL rfl rfl rfl) (gg rfl rfl (eT h0)) rfl<|TG (aH (k:=13) FN rfl rfl rfl) (gg rfl rfl (eT h0)) rfl ?_;obtain⟨r19,h103,hF⟩:=J hF;refine Wn.xk (l:=[b0,b30]) (ln (α:=TP) (V:=fun g=>(fun(r:Int×Int) (g:TP)=>match r,g with |(v14,v15),_=>(.agg #[ba v14,ba v15]:SX)) r19 g) (N:=fun g=>(fun(r:Int×Int) (g:TP)=>match r,g with |(v14,v15),_=>((.obj l4 (r3 .busy none)::fH b0 a0 l2 c1 b5 o1 l1 c0 e0 ak r0 (dH b1::dH b2::.obj b3 (.cells [.func (.func 84) #[] #[ptr b0 0]] .own)::om b18 o9 l13 c6 (jr b12 o6 l8 e3 bg r7 c3 [fF b13 x10 x11 v1 v6,DB b30 a25 l43 c12 a26 l25 c13,mY a25 c12 l43,iM a26 c13 l25 e7,fO bg r0 l25 e7]))):TO Pc)) r19 g) rfl rfl (fun m hm=>?_)) ⟨⟨_,5,rfl,rfl,fun _=>⟨1,rfl⟩⟩,⟨⟨_,0,rfl,rfl,fun _=>⟨15,rfl⟩⟩,trivial⟩⟩ (gg rfl rfl (eT h0)) rfl ?_
 clear hF;revert r19;intro r hF;refine aQ (N:=29) (rs:=[.cell 3 26]) rfl Try.func84 rfl rfl rfl hm ?_;refine wz ?_;refine wb fun b31=>?_;refine wa z26 fun b51=>?_;refine wz ?_;refine Td<|TB (prs:=[(7,14),(9,14),(11,14)]) (by kernel_rfl)<|Tf (aG (r:=ptr b0 0) rfl (ju _ _)) rfl<|Tf (aH (k:=7) tL rfl rfl rfl) rfl<|Tf (aG (r:=ptr b31 0) rfl (vT _ _)) rfl<|Tf (aH (k:=1) cb rfl rfl rfl) rfl ?_
 obtain⟨h25,hF⟩:=cO hF;refine Wn.bt (k:=8) rfl (aM h25) ?_;rintro b52 o14 rfl;refine TG (lL w5 rfl rfl h25) gn rfl ?_;obtain⟨⟨x24,x25⟩,h104,hF⟩:=J hF;refine Tf (p8 (k:=0) df rfl rfl (js h104) rfl rfl) rfl<|Tf (aG (r:=ptr b0 0) rfl (ju _ _)) rfl<|Wn.uZ rfl (aH (k:=8) tL rfl rfl rfl) rfl<|Tf (aG (r:=ptr b31 1) rfl (vm _ _)) rfl<|Wn.uZ rfl (aH (k:=2) cb rfl rfl rfl) rfl ?_;obtain⟨h105,hF⟩:=cO hF;refine TG (lL w5 rfl rfl h105) gn rfl ?_;obtain⟨⟨x26,x27⟩,h106,hF⟩:=J hF;refine Wn.uZ rfl (p8 (k:=0) df rfl rfl (js h106) rfl rfl) rfl<|Wn.x (xr z26 rfl) gn rfl fun b53=>?_;refine Wn.x (xr z26 rfl) gn rfl fun b54=>?_;refine Wn.Ht rfl (ek (k:=1) df rfl rfl rfl rfl rfl)<|Wn.o0 (ek (k:=0) df rfl rfl rfl rfl rfl)<|Tx (fun m hm=>(dj.rw rfl rfl rfl (hm.ne (i:=10) (j:=1) rfl rfl rfl rfl (by decide) rfl) (dj.rw rfl rfl rfl (hm.ne (i:=4) (j:=1) rfl rfl rfl rfl (by decide) rfl) (dj.rw rfl rfl rfl (hm.ne (i:=1) (j:=2) rfl rfl rfl rfl (by decide) rfl).symm dj.nil)))) ?_
 refine au ?_;refine Tc (cp rfl z26 rfl (cm Ar rfl rfl rfl)) rfl ?_;refine au ?_;cases hF;exact Tt (.cell (k:=3) df rfl rfl rfl .nil) fun m' hm=>⟨(),rfl,(Ti [9,10,11,12,13,14,15,16,17,19,20,21,22,23,18,5,6,7,8] rfl rfl) m' hm⟩;clear h103;obtain⟨v14,v15⟩:=r19;rintro⟨⟩;obtain⟨r39,h107,hF⟩:=J hF;refine nc (gg rfl rfl (eT h0)) (fun m hm=>AN h107 m (hm.q 2) (hm.q 5) (hm.dp (q:=4) rfl) (hm.q 16) (hm.q 17) (hm.dp (q:=18) rfl)) ?_;rintro⟨⟩;refine Tf (yr rfl h0 rfl) rfl ?_;refine Tx (fun m hm=>(by(first|refine dj.rk rfl rfl rfl (by simp) ?_|refine dj.step rfl ?_); exact(by(first|refine dj.rk rfl rfl rfl (by simp) ?_|refine dj.step rfl ?_); exact dj.nil))) ?_
 obtain rfl:=QL hF;exact ae () [0,1,2,3,4,5,6,7,8,14,9,10,11,12,13];refine TE (gg rfl rfl (vP h0)) rfl<|TE (gg rfl rfl (vP h0)) rfl<|TE (gg rfl rfl (vP h0)) rfl<|TE (gg rfl rfl (vP h0)) rfl<|TE (gg rfl rfl (vP h0)) rfl<|TE (gg rfl rfl (vP h0)) rfl<|Tf (yi rfl h0 rfl) rfl ?_;refine Tx (fun m hm=>(by(first|refine dj.rk rfl rfl rfl (by simp) ?_|refine dj.step rfl ?_); exact(by(first|refine dj.rk rfl rfl rfl (by simp) ?_|refine dj.step rfl ?_); exact dj.nil))) ?_
 cases hF;exact ae () (TL 4 15);rintro⟨⟩;refine Tl ?_;rcases U hF with⟨h26,hF⟩|⟨h26,hF⟩;refine Ty rfl h26<|Td<|TB (prs:=[(1,2)]) (by kernel_rfl)<|Tf (aG (r:=ptr b13 2) rfl (mM _ _)) rfl<|Wn.uZ rfl (aH (k:=9) cb rfl rfl rfl) rfl<|Wn.Ht rfl (ek (k:=6) cb rfl rfl rfl rfl rfl)<|Wn.o0 (ek (k:=7) cb rfl rfl rfl rfl rfl)<|Tx (fun m hm=>(dj.rw rfl rfl rfl (hm.ne (i:=9) (j:=6) rfl rfl rfl rfl (by decide) rfl) dj.nil)) ?_
 refine au ?_;cases hF;exact ae () [0,6,7,1,2,3,4,5,8,10,11,12,13,14];refine au ?_;cases hF;exact ae () (TL 0 15);refine wz ?_;cases hF;exact ae () (TL 0 15);rcases r36 with _|_;rintro⟨⟩;refine wz ?_;cases hF;exact ae () (0::3::4::5::6::7::1::2::TL 8 6);rintro⟨⟩;refine wz ?_;cases hF;exact ae () [0,1,2,3,4,5,6,7,8,10,11,12,13,14];rcases r18 with _|_;rintro⟨⟩;refine au ?_;cases hF;exact ae () (TL 0 9);rintro⟨⟩;refine fW ?_;cases hF;exact ae () [0,10,3,4,5,11,12,13,1,2,6,7,8];refine wz ?_;cases hF;exact ae () (0::TL 2 11);rcases r35 with _|_;rintro⟨⟩;refine wz ?_;cases hF;exact ae () (TL 0 9);rintro⟨⟩;refine au ?_;cases hF;exact ae () [0,1,2,3,6,5,7,8,9,10,11];refine wz ?_;cases hF;exact ae () [0,1,2,3,6,7,8,9,10];rcases r34 with _|_;rintro⟨⟩;refine wz ?_;cases hF;exact ae () [0,1,2,5,4,6,7,8];rintro⟨⟩;refine au ?_;cases hF;exact ae () [0,3,2,4,5,6,7,8];refine wz ?_;cases hF;exact ae () [0,3,4,1,2,5,6,7];rcases r33 with v28|_;rintro⟨⟩;refine At.br ?_;cases hF;exact Tt .nil fun m' hm=>⟨(),(Ti [0,1,2,3,4,5,6,7] rfl rfl) m' hm⟩;rintro⟨⟩;refine TJ ?_;cases hF;exact At.fin .nil fun m' hm=>⟨(),(Ti [0,1,2,3,4,5,6,7] rfl rfl) m' hm⟩;rcases r17 with v27|_;rintro⟨⟩
 change Wk _ _ _ _ .ret _ _ _ _
 refine wz ?_;cases hF;exact Tt (.cell (k:=4) cb rfl rfl rfl (.cell (k:=5) cb rfl rfl rfl .nil)) fun m' hm=>⟨(),rfl,(Ti [] rfl rfl) m' hm⟩;rintro⟨⟩
 change At _ .normal _ _ _
 refine fW ?_;cases hF;exact Tt (.cell (k:=4) cb rfl rfl rfl (.cell (k:=5) cb rfl rfl rfl .nil)) fun m' hm=>⟨(),rfl,(Ti [] rfl rfl) m' hm⟩
def Ef{n l2 l1 a0 c1 a1 c0}{r0:SV}{e0:SS}{r}(hF:MI n l2 l1=some r)(m)(h12:ja m a0 c1 l2)(h13:lW m a1 c0 l1 e0)(h14:(cd ak r0 l1 e0).P m):
 aI (TV p q) 43 [kI a0 l2 c1 a1 l1 c0] m (TQ m (.tuple #[.int .i64 r.1,.int .i64 r.2])):=by
 unfold MI at hF;refine cw Try.func43 (Hp.mz (Tw (Tw (Tp m) dI h12) (eC dI) h13) (eC (eC dI)) h14) ?_;refine wz ?_;refine wb fun b0=>?_;refine au ?_;refine Td ?_;obtain⟨v1,h15,hF⟩:=J hF;refine ct (fun v1 (_:TP)=>⟨.normal,[(1,ptr b0 0),(33,.bool v1)],(fp b0 a0 l2 c1 a1 l1 c0 e0 ak r0 [])⟩) v1 ?_ ?_;clear hF;revert v1;intro r hF;refine wz ?_;rcases U hF with⟨h16,hF⟩|⟨h16,hF⟩;refine wz ?_;cases hF;exact ae () [0,3,2,1];refine wz ?_;rcases U hF with⟨h17,hF⟩|⟨h17,hF⟩;refine wz ?_;cases hF;exact ae () [0,3,2,1];refine wz ?_;rcases U hF with⟨h18,hF⟩|⟨h18,hF⟩;refine wz ?_;cases hF;exact ae () [0,3,2,1];refine wz ?_;cases hF;exact ae () [0,3,2,1];rintro⟨⟩;refine Tl ?_;rcases U hF with⟨h19,hF⟩|⟨h19,hF⟩;refine au ?_;cases hF;exact ar () [];refine au ?_;obtain⟨v2,h20,hF⟩:=J hF;refine wq (fun v2 (_:TP)=>(.int .i64 v2,(fp b0 a0 l2 c1 a1 l1 c0 e0 ak r0 []))) v2 (fun m hm=>?_) ?_;clear hF;revert v2;intro r hF;refine aQ (N:=19) (rs:=[.tmp 4]) rfl Try.func59 rfl rfl rfl hm ?_;refine au ?_;refine Th ?_;obtain⟨r1,h3,hF⟩:=J hF;refine ct (fun(r:Int⊕TP) (g:TP)=>match r,g with|.inl v14,_=>⟨.ret,[(4,ba v14)],(fp b0 a0 l2 c1 a1 l1 c0 e0 ak r0 [])⟩|.inr _,_=>⟨(.exit 0),[],(fp b0 a0 l2 c1 a1 l1 c0 e0 ak r0 [])⟩) r1 ?_ ?_
 refine lo h3 () [1,0,2,3] (fun v15 _=>⟨.normal,((1,.func (.func 30) #[] #[])::yy a0 l2 c1 v15 []),[q6 a0 c1 l2,DB b0 a0 l2 c1 a1 l1 c0,De a1 c0 l1 e0,fO ak r0 l1 e0]⟩) ?_;clear hF h3;rintro v15 ⟨⟩ r hF;unfold yN at hF;refine wz ?_;refine Td ?_;rcases U hF with⟨h21,hF⟩|⟨h21,hF⟩;refine au ?_;obtain⟨h22,hF⟩:=cO hF;refine Tv (k:=0) rfl (aM h22) ?_;rintro b9 o7 rfl;refine wz ?_;obtain⟨⟨x10,x11⟩,h79,hF⟩:=J hF;refine wz ?_;refine wa z26 fun b10=>?_;refine au ?_;obtain⟨r13,h23,hF⟩:=J hF;refine wc gn (fun m hm=>FI h23 m) ?_;rintro⟨⟩;refine wz ?_;rcases U hF with⟨h24,hF⟩|⟨h24,hF⟩;refine au ?_;cases hF;exact ae () [3,2,4,5];refine au ?_;cases hF;exact ae () [2,3,4,5];refine wz ?_;cases hF;exact ae () [1,0,2,3];rcases r1 with v14|_;rintro⟨⟩;refine wz ?_;obtain rfl:=QL hF;exact ar () [0,1,2,3];rintro⟨⟩;refine fW ?_;cases hF;exact ar () [0,1,2,3];rintro⟨⟩;refine au ?_;rcases U hF with⟨h25,hF⟩|⟨h25,hF⟩;refine au ?_;cases hF;exact ar () [];refine au ?_;refine Ts Fu gn rfl fun b5=>?_;refine au ?_;refine Th ?_;obtain⟨r3,h4,hF⟩:=J hF;refine ct (fun(r:Int⊕TP) (g:TP)=>match r,g with|.inl v16,_=>⟨.ret,[(2,.int .i64 3),(3,ba v16)],[]⟩|.inr _,_=>⟨(.exit 0),[(1,ptr b0 0)],(fp b0 a0 l2 c1 a1 l1 c0 e0 ak r0 [])⟩) r3 ?_ ?_
 refine lo h4 () [1,2,3,4,0] (fun(l6,v17) _=>⟨.normal,[(1,ptr b0 0),(6,.map (some b5)),(42,bD a0 l2 c1),(43,dN l2),(44,ba v17)],(fp b0 a0 l2 c1 a1 l1 c0 e0 ak r0 [.obj b5 (.map (l6.map (eM (fun p:Int×Int=>.agg #[.int .i64 p.1,.int .i64 p.2]) (fun b:Bool=>.bool b))))])⟩) ?_;clear hF h4;rintro⟨l6,v17⟩ ⟨⟩ r hF;unfold qb at hF;refine wz ?_;refine Td ?_;rcases U hF with⟨h26,hF⟩|⟨h26,hF⟩;refine au ?_;obtain⟨h27,hF⟩:=cO hF;refine Tv (k:=1) rfl (aM h27) ?_;rintro b11 o8 rfl;refine wz ?_;obtain⟨⟨x3,x4⟩,h80,hF⟩:=J hF;refine wz ?_;refine wa z26 fun b12=>?_;refine au ?_;obtain⟨y0,h28,hF⟩:=J hF;refine Tc (JL (q:=6) (xs:=l6) (k:=(x3,x4)) (vE:=(fun b:Bool=>.bool b)) (z0:=false) EZ (Ge BT) z4 rfl rfl rfl rfl h28) rfl ?_;refine wz ?_;rcases U hF with⟨h29,hF⟩|⟨h29,hF⟩;refine au ?_;cases hF;exact ae () [];refine au ?_;refine Tz (Dn (q:=6) (xs:=l6) (k:=(x3,x4)) (v:=true) (vE:=(fun b:Bool=>.bool b)) EZ (Ge BT) rfl rfl rfl rfl) ?_;refine au ?_;cases hF;exact ae () (TL 2 5);refine wz ?_;cases hF;exact ae () [0,1,2,3];rcases r3 with v16|_;rintro⟨⟩;refine wz ?_;cases hF;exact ar () [];rintro⟨⟩;refine au ?_;refine wa z116 fun b1=>?_;refine au ?_;refine Tc (je rfl rfl) rfl ?_;obtain⟨v3,h30,hF⟩:=J hF;refine wq (fun v3 (_:TP)=>(.int .i64 v3,(fp b0 a0 l2 c1 a1 l1 c0 e0 ak r0 [.obj b1 (.cells [.func (.func 60) #[] #[]] .own)]))) v3 (fun m hm=>?_) ?_;clear hF;revert v3;intro r hF;refine aQ (N:=19) (rs:=[.tmp 4]) rfl Try.func31 rfl rfl rfl hm ?_;refine au ?_;refine Th ?_;obtain⟨r4,h5,hF⟩:=J hF;refine ct (fun(r:Int⊕TP) (g:TP)=>match r,g with|.inl v18,_=>⟨.ret,[(4,ba v18)],(fp b0 a0 l2 c1 a1 l1 c0 e0 ak r0 [.obj b1 (.cells [.func (.func 60) #[] #[]] .own)])⟩|.inr _,_=>⟨(.exit 0),[],(fp b0 a0 l2 c1 a1 l1 c0 e0 ak r0 [.obj b1 (.cells [.func (.func 60) #[] #[]] .own)])⟩) r4 ?_ ?_
 refine lo h5 () [0,1,2,3,4] (fun v19 _=>⟨.normal,((1,.func (.func 61) #[] #[ptr b1 0,ptr b0 0])::yy a1 l1 c0 v19 []),(.obj b1 (.cells [.func (.func 60) #[] #[]] .own)::fp b0 a0 l2 c1 a1 l1 c0 e0 ak r0 [])⟩) ?_;clear hF h5;rintro v19 ⟨⟩ r hF;unfold zj at hF;refine wz ?_;refine Td ?_;rcases U hF with⟨h31,hF⟩|⟨h31,hF⟩;refine au ?_;obtain⟨h32,hF⟩:=cO hF;refine Tv (k:=3) rfl (aM h32) ?_;rintro b2 o1 rfl;refine wz ?_;obtain⟨⟨l9,l10⟩,h33,hF⟩:=J hF;refine wl 2 0 5 0 h33 ?_;rintro⟨⟨a5,c5⟩,⟨a6,c6,e5⟩⟩;refine wa z54 fun b13=>?_;refine au ?_;obtain⟨v4,h34,hF⟩:=J hF;refine wq (fun v4 (_:TP)=>(.bool v4,(fH b0 a0 l2 c1 b2 o1 l1 c0 e0 ak r0 [.obj b1 (.cells [.func (.func 60) #[] #[]] .own)]))) v4 (fun m hm=>?_) ?_;clear hF;revert v4;intro r hF;refine aQ (N:=15) (rs:=[.tmp 4]) rfl Try.func61 rfl rfl rfl hm ?_;refine wz ?_;refine wb fun b14=>?_;refine au ?_;rcases U hF with⟨h6,hF⟩|⟨h6,hF⟩;refine au ?_;cases hF;exact ar () [7,8,5,10,9,6];refine wz ?_;refine Tu (je rfl rfl) (gg rfl rfl (p9 h6)) rfl ?_;obtain⟨v0,h35,hF⟩:=J hF;refine Ts (ln (α:=TP) (V:=fun g=>(fun(r:Bool) (g:TP)=>match r,g with|v0,_=>(.bool v0:SX)) v0 g) (N:=fun g=>(fun(r:Bool) (g:TP)=>match r,g with|v0,_=>((fH b0 a0 l2 c1 b2 o1 l1 c0 e0 ak r0 [.obj b1 (.cells [.func (.func 60) #[] #[]] .own)]):TO Pc)) v0 g) rfl rfl (fun m hm=>?_)) (gg rfl rfl (p9 h6)) rfl ?_
 clear hF;revert v0;intro r hF;refine aQ (N:=20) (rs:=[.tmp 4]) rfl Try.func60 rfl rfl rfl hm ?_;refine wz ?_;refine wb fun b15=>?_;refine au ?_;obtain⟨l3,h36,hF⟩:=J hF;refine EU gn (fun m hm=>iD h36 m hm.du (hm.q 3) (hm.no 3) (hm.q 4) (hm.no 4) (hm.dp (q:=5) rfl) (hm.fQ (q:=5) rfl)) ?_;rintro⟨a2,c2,n0,e1,r5⟩;refine Wo.iv (k:=0) (q:=1) (L:=l3) rfl (.inr (.inl ⟨_,rfl⟩)) rfl ?_;rintro rfl;refine wz ?_;refine Th ?_;obtain⟨r6,h7,hF⟩:=J hF;refine ct (fun(r:TP⊕TP) (g:TP)=>match r,g with|.inl _,_=>⟨.ret,[(4,.bool true)],(fH b0 a0 l2 c1 b2 o1 l1 c0 e0 ak r0 [.obj b1 (.cells [.func (.func 60) #[] #[]] .own)])⟩|.inr _,_=>⟨(.exit 0),[],(fH b0 a0 l2 c1 b2 o1 l1 c0 e0 ak r0 [.obj b1 (.cells [.func (.func 60) #[] #[]] .own)])⟩) r6 ?_ ?_
 refine lo h7 () [10,11,8,13,12,0,1,9] (fun v20 _=>⟨.normal,[(1,.func (.func 62) #[] #[ptr b0 0]),(8,bD a2 l3 c2),(9,dN l3),(10,ba v20)],(fH b0 a0 l2 c1 b2 o1 l1 c0 e0 ak r0 [iM a2 c2 l3 e1,fO bg r5 l3 e1,.obj b1 (.cells [.func (.func 60) #[] #[]] .own)])⟩) ?_;clear hF h7;rintro v20 ⟨⟩ r hF;unfold xT at hF;refine wz ?_;refine Td ?_;rcases U hF with⟨h37,hF⟩|⟨h37,hF⟩;refine au ?_;obtain⟨h38,hF⟩:=cO hF;refine Tv (k:=5) rfl (aM h38) ?_;rintro b6 o4 rfl;refine wz ?_;obtain⟨l11,h39,hF⟩:=J hF;refine wl 1 0 7 0 h39 ?_;rintro⟨a7,c7⟩;refine au ?_;obtain⟨v5,h40,hF⟩:=J hF;refine wq (fun v5 (_:TP)=>(.bool v5,(fH b0 a0 l2 c1 b2 o1 l1 c0 e0 ak r0 (.obj b1 (.cells [.func (.func 60) #[] #[]] .own)::jr b6 o4 l3 e1 bg r5 c2 [])))) v5 (fun m hm=>?_) ?_;clear hF;revert v5;intro r hF;refine aQ (N:=27) (rs:=[.tmp 5]) rfl Try.func62 rfl rfl rfl hm ?_;refine wz ?_;refine Td<|TB (prs:=[(15,17),(15,18)]) (by kernel_rfl)<|Tf (aS rfl) rfl<|Tf (nX (k:=0) Ma rfl rfl (.inl rfl)) rfl<|Tf (aJ rfl rfl (gC _ _ _)) rfl<|Tf (aS rfl) rfl ?_
 rcases U hF with⟨h1,hF⟩|⟨h1,hF⟩;refine TE (gg rfl rfl (CD h1)) rfl<|TE (gg rfl rfl (CD h1)) rfl<|TE (gg rfl rfl (CD h1)) rfl<|Tf (yr rfl h1 rfl) rfl<|Tf (aS rfl) rfl<|TE (gg rfl rfl rfl) rfl<|TE (gg rfl rfl rfl) rfl<|TE (gg rfl rfl rfl) rfl<|Tf (FX rfl rfl) rfl<|Tf (aS rfl) rfl ?_;refine TE (gg rfl rfl rfl) rfl<|TE (gg rfl rfl rfl) rfl<|TE (gg rfl rfl rfl) rfl<|TE (gg rfl rfl rfl) rfl<|TE (gg rfl rfl rfl) rfl<|TE (gg rfl rfl rfl) rfl<|Tf (FX rfl rfl) rfl<|Tf (bC rfl) rfl<|Tx (fun m hm=>dj.all rfl) ?_;refine au ?_;cases hF;exact ar () [2,3,4,5,6,9,1,8,7];refine TG (aS rfl) (gg rfl rfl (p9 h1)) rfl<|TG (nX (k:=0) Ma rfl rfl (.inl rfl)) (gg rfl rfl (p9 h1)) rfl<|TG (aJ rfl rfl (qL _ _ _)) (gg rfl rfl (p9 h1)) rfl<|Tf (yi rfl h1 rfl) rfl<|Tf (aS rfl) rfl ?_;rcases U hF with⟨h2,hF⟩|⟨h2,hF⟩;refine TE (gg rfl rfl (CD h2)) rfl<|TE (gg rfl rfl (CD h2)) rfl<|TE (gg rfl rfl (CD h2)) rfl<|Tf (yr rfl h2 rfl) rfl<|Tf (aS rfl) rfl<|TE (gg rfl rfl rfl) rfl<|TE (gg rfl rfl rfl) rfl<|TE (gg rfl rfl rfl) rfl<|TE (gg rfl rfl rfl) rfl<|TE (gg rfl rfl rfl) rfl ?_;refine TE (gg rfl rfl rfl) rfl<|Tf (FX rfl rfl) rfl<|Tf (bC rfl) rfl<|Tx (fun m hm=>dj.all rfl) ?_;refine au ?_;cases hF;exact ar () [2,3,4,5,6,9,1,8,7];refine TG (aS rfl) (gg rfl rfl (p9 h2)) rfl ?_;obtain⟨r14,h41,hF⟩:=J hF;refine nc (gg rfl rfl (p9 h2)) (fun m hm=>KV h41 m (hm.q 0)) ?_;rintro⟨⟩;refine TG (aJ rfl rfl (gC _ _ _)) (gg rfl rfl (p9 h2)) rfl<|Tf (yi rfl h2 rfl) rfl<|Tf (aS rfl) rfl ?_;rcases U hF with⟨h0,hF⟩|⟨h0,hF⟩;refine TE (gg rfl rfl (CD h0)) rfl<|TE (gg rfl rfl (CD h0)) rfl<|TE (gg rfl rfl (CD h0)) rfl<|TE (gg rfl rfl (CD h0)) rfl<|TE (gg rfl rfl (CD h0)) rfl<|TE (gg rfl rfl (CD h0)) rfl<|Tf (yr rfl h0 rfl) rfl<|Tf (bC rfl) rfl<|Tx (fun m hm=>dj.all rfl) ?_;refine au ?_;cases hF;exact ar () [2,3,4,5,6,9,1,8,7];refine TG (aS rfl) (gg rfl rfl (p9 h0)) rfl ?_;obtain⟨r15,h42,hF⟩:=J hF;refine nc (gg rfl rfl (p9 h0)) (fun m hm=>KG h42 m (hm.q 0)) ?_;rintro⟨⟩;refine TG (aG (r:=ptr b0 0) rfl (ju _ _)) (gg rfl rfl (p9 h0)) rfl<|TG (aH (k:=2) tL rfl rfl rfl) (gg rfl rfl (p9 h0)) rfl<|TG (nX (k:=3) Nb rfl rfl (.inl rfl)) (gg rfl rfl (p9 h0)) rfl<|TG (aJ rfl rfl (BE _ _ _)) (gg rfl rfl (p9 h0)) rfl<|Tf (yi rfl h0 rfl) rfl<|Tf (bC rfl) rfl<|Tx (fun m hm=>dj.all rfl) ?_;refine au ?_;cases hF;exact ar () [2,3,4,5,6,9,1,8,7];rintro⟨⟩;refine wz ?_;rcases U hF with⟨h43,hF⟩|⟨h43,hF⟩;refine au ?_;cases hF;exact ae () (TL 0 6);refine au ?_;cases hF;exact ae () [0,1,2,3,4,8,7,5];refine wz ?_;cases hF;exact ae () [0,1,2,3,4,7];rcases r6 with _|_;rintro⟨⟩;refine wz ?_;cases hF;exact ar () (TL 0 6);rintro⟨⟩;refine fW ?_;cases hF;exact ar () (TL 0 6);rintro⟨⟩;refine au ?_;obtain rfl:=QL hF;exact ar () (TL 0 6);rintro⟨⟩;refine wz ?_;rcases U hF with⟨h44,hF⟩|⟨h44,hF⟩;refine au ?_;cases hF;exact ae () [0,1,4,3,5];refine au ?_;cases hF;exact ae () [5,0,1,4,3];refine wz ?_;cases hF;exact ae () [1,2,3,4,0];rcases r4 with v18|_;rintro⟨⟩;refine wz ?_;obtain rfl:=QL hF;exact ar () (TL 0 5);rintro⟨⟩;refine fW ?_;cases hF;exact ar () (TL 0 5);rintro⟨⟩;refine au ?_;rcases U hF with⟨h45,hF⟩|⟨h45,hF⟩;refine au ?_;cases hF;exact ar () [];refine au ?_;refine Tc (je rfl rfl) rfl ?_;obtain⟨v6,h46,hF⟩:=J hF;refine wq (fun v6 (_:TP)=>(.int .i64 v6,(fp b0 a0 l2 c1 a1 l1 c0 e0 ak r0 [.obj b1 (.cells [.func (.func 60) #[] #[]] .own)]))) v6 (fun m hm=>?_) ?_;clear hF;revert v6;intro r hF;refine aQ (N:=19) (rs:=[.tmp 4]) rfl Try.func31 rfl rfl rfl hm ?_;refine au ?_;refine Th ?_;obtain⟨r7,h8,hF⟩:=J hF;refine ct (fun(r:Int⊕TP) (g:TP)=>match r,g with|.inl v21,_=>⟨.ret,[(4,ba v21)],(fp b0 a0 l2 c1 a1 l1 c0 e0 ak r0 [.obj b1 (.cells [.func (.func 60) #[] #[]] .own)])⟩|.inr _,_=>⟨(.exit 0),[],(fp b0 a0 l2 c1 a1 l1 c0 e0 ak r0 [.obj b1 (.cells [.func (.func 60) #[] #[]] .own)])⟩) r7 ?_ ?_
 refine lo h8 () [4,0,1,2,3] (fun v22 _=>⟨.normal,((1,.func (.func 65) #[] #[ptr b1 0,ptr b0 0])::yy a1 l1 c0 v22 []),(.obj b1 (.cells [.func (.func 60) #[] #[]] .own)::fp b0 a0 l2 c1 a1 l1 c0 e0 ak r0 [])⟩) ?_;clear hF h8;rintro v22 ⟨⟩ r hF;unfold yl at hF;refine wz ?_;refine Td ?_;rcases U hF with⟨h47,hF⟩|⟨h47,hF⟩;refine au ?_;obtain⟨h48,hF⟩:=cO hF;refine Tv (k:=3) rfl (aM h48) ?_;rintro b3 o2 rfl;refine wz ?_;obtain⟨⟨l12,l13⟩,h49,hF⟩:=J hF;refine wl 2 0 5 0 h49 ?_;rintro⟨⟨a8,c8⟩,⟨a9,c9,e6⟩⟩;refine wa z54 fun b16=>?_;refine au ?_;obtain⟨v7,h50,hF⟩:=J hF;refine wq (fun v7 (_:TP)=>(.bool v7,(fH b0 a0 l2 c1 b3 o2 l1 c0 e0 ak r0 [.obj b1 (.cells [.func (.func 60) #[] #[]] .own)]))) v7 (fun m hm=>?_) ?_;clear hF;revert v7;intro r hF;refine aQ (N:=9) (rs:=[.tmp 4]) rfl Try.func65 rfl rfl rfl hm ?_;refine wz ?_;refine wb fun b17=>?_;refine au ?_;refine Tc (je rfl rfl) rfl ?_;obtain⟨v8,h51,hF⟩:=J hF;refine wq (fun v8 (_:TP)=>(.bool v8,(fH b0 a0 l2 c1 b3 o2 l1 c0 e0 ak r0 [.obj b1 (.cells [.func (.func 60) #[] #[]] .own)]))) v8 (fun m hm=>?_) ?_;clear hF;revert v8;intro r hF;refine aQ (N:=20) (rs:=[.tmp 4]) rfl Try.func60 rfl rfl rfl hm ?_;refine wz ?_;refine wb fun b18=>?_;refine au ?_;obtain⟨l4,h52,hF⟩:=J hF;refine EU gn (fun m hm=>iD h52 m hm.du (hm.q 3) (hm.no 3) (hm.q 4) (hm.no 4) (hm.dp (q:=5) rfl) (hm.fQ (q:=5) rfl)) ?_;rintro⟨a3,c3,n1,e3,r8⟩;refine Wo.iv (k:=0) (q:=1) (L:=l4) rfl (.inr (.inl ⟨_,rfl⟩)) rfl ?_;rintro rfl;refine wz ?_;refine Th ?_;obtain⟨r9,h9,hF⟩:=J hF;refine ct (fun(r:TP⊕TP) (g:TP)=>match r,g with|.inl _,_=>⟨.ret,[(4,.bool true)],(fH b0 a0 l2 c1 b3 o2 l1 c0 e0 ak r0 [.obj b1 (.cells [.func (.func 60) #[] #[]] .own)])⟩|.inr _,_=>⟨(.exit 0),[],(fH b0 a0 l2 c1 b3 o2 l1 c0 e0 ak r0 [.obj b1 (.cells [.func (.func 60) #[] #[]] .own)])⟩) r9 ?_ ?_
 refine lo h9 () [10,11,8,13,12,0,1,9] (fun v23 _=>⟨.normal,[(1,.func (.func 66) #[] #[ptr b0 0]),(8,bD a3 l4 c3),(9,dN l4),(10,ba v23)],(fH b0 a0 l2 c1 b3 o2 l1 c0 e0 ak r0 [iM a3 c3 l4 e3,fO bg r8 l4 e3,.obj b1 (.cells [.func (.func 60) #[] #[]] .own)])⟩) ?_;clear hF h9;rintro v23 ⟨⟩ r hF;unfold xh at hF;refine wz ?_;refine Td ?_;rcases U hF with⟨h53,hF⟩|⟨h53,hF⟩;refine au ?_;obtain⟨h54,hF⟩:=cO hF;refine Tv (k:=5) rfl (aM h54) ?_;rintro b7 o5 rfl;refine wz ?_;obtain⟨l14,h55,hF⟩:=J hF;refine wl 1 0 7 0 h55 ?_;rintro⟨a10,c10⟩;refine au ?_;obtain⟨v9,h56,hF⟩:=J hF;refine wq (fun v9 (_:TP)=>(.bool v9,(fH b0 a0 l2 c1 b3 o2 l1 c0 e0 ak r0 (.obj b1 (.cells [.func (.func 60) #[] #[]] .own)::jr b7 o5 l4 e3 bg r8 c3 [])))) v9 (fun m hm=>?_) ?_;clear hF;revert v9;intro r hF;refine aQ (N:=11) (rs:=[.tmp 5]) rfl Try.func66 rfl rfl rfl hm ?_;refine au ?_;obtain⟨l7,h57,hF⟩:=J hF;refine wc gn (fun m hm=>nT h57 m (hm.q 3) (hm.q 6) (hm.dp (q:=5) rfl) (hm.q 0)) ?_;rintro⟨a11,n2⟩;refine TI (k:=0) (xs:=l7) rfl ?_;rintro rfl;obtain⟨r16,h58,hF⟩:=J hF;refine wc gn (fun m hm=>DE h58 m (hm.rd (k:=0) rfl (.sl _ _ _ _))) ?_;rintro⟨⟩;refine au ?_;cases hF;exact ar () [3,4,5,6,7,10,2,9,8];rintro⟨⟩;refine wz ?_;rcases U hF with⟨h59,hF⟩|⟨h59,hF⟩;refine au ?_;cases hF;exact ae () (TL 0 6);refine au ?_;cases hF;exact ae () [0,1,2,3,4,8,7,5];refine wz ?_;cases hF;exact ae () [0,1,2,3,4,7];rcases r9 with _|_;rintro⟨⟩;refine wz ?_;cases hF;exact ar () (TL 0 6);rintro⟨⟩;refine fW ?_;cases hF;exact ar () (TL 0 6);rintro⟨⟩;refine au ?_;obtain rfl:=QL hF;exact ar () (TL 0 6);rintro⟨⟩;refine wz ?_;rcases U hF with⟨h60,hF⟩|⟨h60,hF⟩;refine au ?_;cases hF;exact ae () [0,1,4,3,5];refine au ?_;cases hF;exact ae () [5,0,1,4,3];refine wz ?_;cases hF;exact ae () [1,2,3,4,0];rcases r7 with v21|_;rintro⟨⟩;refine wz ?_;obtain rfl:=QL hF;exact ar () (TL 0 5);rintro⟨⟩;refine fW ?_;cases hF;exact ar () (TL 0 5);rintro⟨⟩;refine au ?_;rcases U hF with⟨h61,hF⟩|⟨h61,hF⟩;refine au ?_;cases hF;exact ar () [];refine au ?_;refine Tc (je rfl rfl) rfl ?_;obtain⟨v10,h62,hF⟩:=J hF;refine wq (fun v10 (_:TP)=>(.int .i64 v10,(fp b0 a0 l2 c1 a1 l1 c0 e0 ak r0 []))) v10 (fun m hm=>?_) ?_;clear hF;revert v10;intro r hF;refine aQ (N:=19) (rs:=[.tmp 4]) rfl Try.func31 rfl rfl rfl hm ?_;refine au ?_;refine Th ?_;obtain⟨r10,h10,hF⟩:=J hF;refine ct (fun(r:Int⊕TP) (g:TP)=>match r,g with|.inl v24,_=>⟨.ret,[(4,ba v24)],(fp b0 a0 l2 c1 a1 l1 c0 e0 ak r0 [])⟩|.inr _,_=>⟨(.exit 0),[],(fp b0 a0 l2 c1 a1 l1 c0 e0 ak r0 [])⟩) r10 ?_ ?_
 refine lo h10 () [4,0,1,2,3] (fun v25 _=>⟨.normal,((1,.func (.func 67) #[] #[ptr b1 0,ptr b0 0])::yy a1 l1 c0 v25 []),(.obj b1 (.cells [.func (.func 60) #[] #[]] .own)::fp b0 a0 l2 c1 a1 l1 c0 e0 ak r0 [])⟩) ?_;clear hF h10;rintro v25 ⟨⟩ r hF;unfold xd at hF;refine wz ?_;refine Td ?_;rcases U hF with⟨h63,hF⟩|⟨h63,hF⟩;refine au ?_;obtain⟨h64,hF⟩:=cO hF;refine Tv (k:=3) rfl (aM h64) ?_;rintro b4 o3 rfl;refine wz ?_;obtain⟨⟨l15,l16⟩,h65,hF⟩:=J hF;refine wl 2 0 5 0 h65 ?_;rintro⟨⟨a12,c11⟩,⟨a13,c12,e7⟩⟩;refine wa z54 fun b19=>?_;refine au ?_;obtain⟨v11,h66,hF⟩:=J hF;refine wq (fun v11 (_:TP)=>(.bool v11,(fH b0 a0 l2 c1 b4 o3 l1 c0 e0 ak r0 [.obj b1 (.cells [.func (.func 60) #[] #[]] .own)]))) v11 (fun m hm=>?_) ?_;clear hF;revert v11;intro r hF;refine aQ (N:=9) (rs:=[.tmp 4]) rfl Try.func67 rfl rfl rfl hm ?_;refine wz ?_;refine wb fun b20=>?_;refine au ?_;refine Tc (je rfl rfl) rfl ?_;obtain⟨v12,h67,hF⟩:=J hF;refine wq (fun v12 (_:TP)=>(.bool v12,(fH b0 a0 l2 c1 b4 o3 l1 c0 e0 ak r0 [.obj b1 (.cells [.func (.func 60) #[] #[]] .own)]))) v12 (fun m hm=>?_) ?_;clear hF;revert v12;intro r hF;refine aQ (N:=20) (rs:=[.tmp 4]) rfl Try.func60 rfl rfl rfl hm ?_;refine wz ?_;refine wb fun b21=>?_;refine au ?_;obtain⟨l5,h68,hF⟩:=J hF;refine EU gn (fun m hm=>iD h68 m hm.du (hm.q 3) (hm.no 3) (hm.q 4) (hm.no 4) (hm.dp (q:=5) rfl) (hm.fQ (q:=5) rfl)) ?_;rintro⟨a4,c4,n4,e4,r11⟩;refine Wo.iv (k:=0) (q:=1) (L:=l5) rfl (.inr (.inl ⟨_,rfl⟩)) rfl ?_;rintro rfl;refine wz ?_;refine Th ?_;obtain⟨r12,h11,hF⟩:=J hF;refine ct (fun(r:TP⊕TP) (g:TP)=>match r,g with|.inl _,_=>⟨.ret,[(4,.bool true)],(fH b0 a0 l2 c1 b4 o3 l1 c0 e0 ak r0 [.obj b1 (.cells [.func (.func 60) #[] #[]] .own)])⟩|.inr _,_=>⟨(.exit 0),[],(fH b0 a0 l2 c1 b4 o3 l1 c0 e0 ak r0 [.obj b1 (.cells [.func (.func 60) #[] #[]] .own)])⟩) r12 ?_ ?_
 refine lo h11 () [10,11,8,13,12,0,1,9] (fun v26 _=>⟨.normal,[(1,.func (.func 68) #[] #[ptr b0 0]),(8,bD a4 l5 c4),(9,dN l5),(10,ba v26)],(fH b0 a0 l2 c1 b4 o3 l1 c0 e0 ak r0 [iM a4 c4 l5 e4,fO bg r11 l5 e4,.obj b1 (.cells [.func (.func 60) #[] #[]] .own)])⟩) ?_;clear hF h11;rintro v26 ⟨⟩ r hF;unfold ze at hF;refine wz ?_;refine Td ?_;rcases U hF with⟨h69,hF⟩|⟨h69,hF⟩;refine au ?_;obtain⟨h70,hF⟩:=cO hF;refine Tv (k:=5) rfl (aM h70) ?_;rintro b8 o6 rfl;refine wz ?_;obtain⟨l17,h71,hF⟩:=J hF;refine wl 1 0 7 0 h71 ?_;rintro⟨a14,c13⟩;refine au ?_;obtain⟨v13,h72,hF⟩:=J hF;refine wq (fun v13 (_:TP)=>(.bool v13,(fH b0 a0 l2 c1 b4 o3 l1 c0 e0 ak r0 (.obj b1 (.cells [.func (.func 60) #[] #[]] .own)::jr b8 o6 l5 e4 bg r11 c4 [])))) v13 (fun m hm=>?_) ?_;clear hF;revert v13;intro r hF;refine aQ (N:=14) (rs:=[.tmp 5]) rfl Try.func68 rfl rfl rfl hm ?_;refine au ?_;obtain⟨l8,h73,hF⟩:=J hF;refine wc gn (fun m hm=>nT h73 m (hm.q 3) (hm.q 6) (hm.dp (q:=5) rfl) (hm.q 0)) ?_;rintro⟨a15,n5⟩;refine TI (k:=0) (xs:=l8) rfl ?_;rintro rfl;obtain⟨r17,h74,hF⟩:=J hF;refine wc gn (fun m hm=>Gd h74 m (hm.rd (k:=0) rfl (.sl _ _ _ _))) ?_;rintro⟨⟩;refine wz ?_;refine Tc (aJ rfl rfl (J3 u4)) rfl ?_;refine au ?_;cases hF;exact ar () [3,4,5,6,7,10,2,9,8];rintro⟨⟩;refine wz ?_;rcases U hF with⟨h75,hF⟩|⟨h75,hF⟩;refine au ?_;cases hF;exact ae () (TL 0 6);refine au ?_;cases hF;exact ae () [0,1,2,3,4,8,7,5];refine wz ?_;cases hF;exact ae () [0,1,2,3,4,7];rcases r12 with _|_;rintro⟨⟩;refine wz ?_;cases hF;exact ar () (TL 0 6);rintro⟨⟩;refine fW ?_;cases hF;exact ar () (TL 0 6);rintro⟨⟩;refine au ?_;obtain rfl:=QL hF;exact ar () (TL 0 6);rintro⟨⟩;refine wz ?_;rcases U hF with⟨h76,hF⟩|⟨h76,hF⟩;refine au ?_;cases hF;exact ae () [0,1,4,3];refine au ?_;cases hF;exact ae () [5,0,1,4,3];refine wz ?_;cases hF;exact ae () [1,2,3,4];rcases r10 with v24|_;rintro⟨⟩;refine wz ?_;obtain rfl:=QL hF;exact ar () [0,1,2,3];rintro⟨⟩;refine fW ?_;cases hF;exact ar () [0,1,2,3];rintro⟨⟩;refine au ?_;rcases U hF with⟨h77,hF⟩|⟨h77,hF⟩;refine au ?_;cases hF;exact ar () [];refine au ?_;obtain⟨⟨r18,r19⟩,h78,hF⟩:=J hF;refine wc gn (fun m hm=>Lr h78 m (hm.q 1) (hm.q 2) (hm.dp (q:=3) rfl)) ?_;rintro⟨⟩;refine au ?_;cases hF;exact ar () []
def s9{n l1 l5 a2 c3 a6 c7}{rr8:SV}{es9:SS}{r}(hF:Dl n l1 l5=some r)(m)(h4:ja m a2 c3 l1)(h10:lW m a6 c7 l5 es9)(h11:(cd ak rr8 l5 es9).P m):
 aI (TV p q) 23 [kI a2 l1 c3 a6 l5 c7] m (TQ m (.int .i64 r)):=by
 unfold Dl at hF;refine cw Try.func23 (Hp.mz (Tw (Tw (Tp m) dI h4) (eC dI) h10) (eC (eC dI)) h11) ?_;refine wz ?_;refine wb fun b12=>?_;refine au ?_;obtain⟨⟨r14,r15⟩,h13,hF⟩:=J hF;refine wc gn (fun m hm=>Ef h13 m (hm.q 3) (hm.q 2) (hm.dp (q:=1) rfl)) ?_;rintro⟨⟩;refine au ?_;rcases U hF with⟨h16,hF⟩|⟨h16,hF⟩;refine au ?_;cases hF;exact ar () [];refine fW ?_;cases hF;exact ar () []
def G8(n l1 b1 b2 b0){m0:TS}: ∀(k:Nat) (x3:Int) (r0:Int),NU n l1 k () x3=some r0->∀(rest:TO Pc) (m:TS),Hp m0 m (.obj b1 (.cells [.map (some b2)] .own)::.obj b2 (.map (l1.map (eM (fun n:Int=>.int .i64 n) (fun n:Int=>.int .i64 n))))::.obj b0 (.cells [.func (.func 28) #[] #[ptr b1 0,ptr b0 0]] .own)::rest) ->
 aI (TV (some lu) q) 28 [ba x3,ptr b1 0,ptr b0 0] m (fun v m'=>∃_:TP,v=.int .i64 r0/\Hp m0 m' (.obj b1 (.cells [.map (some b2)] .own)::.obj b2 (.map (l1.map (eM (fun n:Int=>.int .i64 n) (fun n:Int=>.int .i64 n))))::.obj b0 (.cells [.func (.func 28) #[] #[ptr b1 0,ptr b0 0]] .own)::rest)):=by
 intro k
 induction k with
 | zero=>intro x3 r0 hF; cases hF
 | succ k ih =>
 intro x3 r0 hF rest m hm;replace hF:LC n (NU n l1 k) l1 () x3=_:=hF;unfold LC at hF;refine aQ (N:=23) (rs:=[.tmp 4]) rfl Try.func28 rfl rfl rfl hm ?_;clear hm;refine au ?_;obtain⟨⟨y0,y1⟩,h1,hF⟩:=J hF;refine Tc (Fg (q:=1) (xs:=l1) (k:=x3) (vE:=(fun n:Int=>.int .i64 n)) (z0:=(0:Int)) MO (Im u3) z3 rfl rfl rfl rfl h1) rfl ?_;refine wz ?_;refine Td ?_;obtain⟨v0,h2,hF⟩:=J hF;refine ct (fun v0 (_:TP)=>⟨.normal,[(0,ba x3),(2,ptr b0 0),(5,ba y0),(18,.bool v0)],(.obj b0 (.cells [.func (.func 28) #[] #[ptr b1 0,ptr b0 0]] .own)::.obj b1 (.cells [.map (some b2)] .own)::.obj b2 (.map (l1.map (eM (fun n:Int=>.int .i64 n) (fun n:Int=>.int .i64 n))))::rest)⟩) v0 ?_ ?_;clear hF;revert v0;intro r hF;refine wz ?_;rcases U hF with⟨h3,hF⟩|⟨h3,hF⟩;refine wz ?_;cases hF;exact aT () (aa.lq 3 [2,0,1] rfl rfl rfl);refine wz ?_;cases hF;exact aT () (aa.lq 3 [2,0,1] rfl rfl rfl);rintro⟨⟩;refine Tl ?_;rcases U hF with⟨h0,hF⟩|⟨h0,hF⟩;refine Ty rfl h0<|Td<|Te<|Tc (aH (k:=0) Iw rfl rfl rfl) rfl<|Tc (aS rfl) rfl ?_;obtain⟨r1,h4,hF⟩:=J hF;refine Tq (aa.lq 3 [1,2,0] rfl rfl rfl)<|Ts (ln (α:=TP) (V:=fun _=>.int .i64 r1) (N:=fun _=>(.obj b1 (.cells [.map (some b2)] .own)::.obj b2 (.map (l1.map (eM (fun n:Int=>.int .i64 n) (fun n:Int=>.int .i64 n))))::.obj b0 (.cells [.func (.func 28) #[] #[ptr b1 0,ptr b0 0]] .own)::rest)) rfl rfl (fun m hm=>ih y0 r1 h4 rest m hm)) gn rfl fun _=>?_;refine au ?_;have hr:=QL hF;subst r0;exact Tt (.tmp rfl .nil) fun m' hm=>⟨(),rfl,(aa.lq 3 [0,1,2] rfl rfl rfl) m' hm⟩;refine fW ?_;have hr:=QL hF;subst r0;exact Tt (.tmp rfl .nil) fun m' hm=>⟨(),rfl,(aa.lq 3 [1,2,0] rfl rfl rfl) m' hm⟩
def JB(hE:EnvOk (TV (some lu) q))(n:Nat)(l3:SQ)(l2:SO)(a0:SU)(c0:Nat)(a1:SU)(c1:Nat)(r0:SV)(e0:SS)(r:(Int×Int×Int×Int×Int) ⊕(TO (SP)×SQ))(hF:MB n l3 l2=some r)(m:TS)(h16:ja m a0 c0 l3)(h17:lW m a1 c1 l2 e0)(h18:(cd ak r0 l2 e0).P m){R:SX->TS->Prop}(kR:∀x,r=.inl x->∀m':TS,Hp m m' []->R (.tuple #[.int .i64 x.1,.int .i64 x.2.1,.int .i64 x.2.2.1,.int .i64 x.2.2.2.1,.int .i64 x.2.2.2.2]) m')(kN:∀x,r=.inr x->∀g:Nat×SU×Nat×Nat,Vk (TV (some lu) q) 84 10 none (OC 7 (k8 Try.f10)) (iF (TV (some lu) q) [.tmp 2,.tmp 3,.tmp 4,.tmp 5,.tmp 6] R) m ((fun(r:TO (SP)×SQ) (g:Nat×SU×Nat×Nat)=>match r,g with |(l7,l9),(b6,a3,b7,b8)=>([(1,ptr b6 0),(5,.int .i64 0),(8,bN a3 l7),(9,ptr b7 0)]:Fs)) x g) ((fun(r:TO (SP)×SQ) (g:Nat×SU×Nat×Nat)=>match r,g with |(l7,l9),(b6,a3,b7,b8)=>((fp b6 a0 l3 c0 a1 l2 c1 e0 ak r0 [nj a3 l7,dW b7 b8,vX b8 l9]):TO Pc)) x g)) :
 Vk (TV (some lu) q) 84 10 none (k8 Try.f10) (iF (TV (some lu) q) [.tmp 2,.tmp 3,.tmp 4,.tmp 5,.tmp 6] R) m (nB [kI a0 l3 c0 a1 l2 c1] 0 []) [fO ak r0 l2 e0,De a1 c1 l2 e0,q6 a0 c0 l3]:=by
 unfold MB at hF;refine Vk.seq hE<|Te<|wb fun b3=>?_;refine wz ?_;refine At.Hh<|Vk.seq hE ?_;refine wz ?_;obtain⟨r4,h4,hF⟩:=J hF;refine wc gn (fun m hm=>s9 h4 m (hm.q 3) (hm.q 2) (hm.dp (q:=1) rfl)) ?_;rintro⟨⟩;refine au ?_;rcases U hF with⟨h5,hF⟩|⟨h5,hF⟩;refine au ?_;cases hF;exact Tt (.tmp rfl (.tmp rfl (.tmp rfl (.tmp rfl (.tmp rfl .nil))))) fun m' hm=>kR _ rfl m' (Ti [] rfl rfl m' hm);refine wz ?_;refine At.Hh<|Vk.seq hE ?_;refine wz ?_;obtain⟨l1,h6,hF⟩:=J hF;refine wc gn (fun m hm=>GJ n l3 l2 a0 c0 a1 c1 r0 e0 _ h6 m (hm.q 3) (hm.q 2) (hm.dp (q:=1) rfl)) ?_;rintro⟨a2,n0⟩;refine TI (k:=0) (xs:=l1) rfl ?_;rintro rfl;refine wz ?_;refine At.Hh<|Vk.seq hE<|Te<|Ts Fu gn rfl fun b2=>?_;refine wa z70 fun b0=>?_;refine wz ?_;refine At.Hh<|Vk.seq hE<|Te<|wa Qp fun b1=>?_;refine Tk<|At.Hh<|Vk.seq hE<|Te<|Tc (je rfl rfl) rfl ?_;refine wz ?_;refine At.Hh<|Vk.seq hE ?_;refine wz ?_;refine Th ?_;obtain⟨l8,h1,hF⟩:=J hF;refine ct (fun l8 (_:TP)=>⟨(.exit 0),[(1,ptr b3 0),(5,.int .i64 0),(8,bN a2 l1),(9,ptr b0 0)],(fp b3 a0 l3 c0 a1 l2 c1 e0 ak r0 [nj a2 l1,dW b0 b2,vX b2 l8])⟩) l8 ?_ ?_;refine lo h1 () [4,7,6,5,3,1,2,0] (fun(l10,v0) _=>⟨.normal,[(1,ptr b3 0),(5,.int .i64 0),(8,bN a2 l1),(9,ptr b0 0),(10,ptr b1 0),(28,bN a2 l1),(29,dN l1),(30,ba v0)],(fp b3 a0 l3 c0 a1 l2 c1 e0 ak r0 [nj a2 l1,dW b0 b2,vX b2 l10,.obj b1 (.cells [.func (.func 28) #[] #[ptr b0 0,ptr b1 0]] .own)])⟩) ?_;clear hF h1;rintro⟨l10,v0⟩ ⟨⟩ r hF;unfold JG at hF;refine wz ?_;refine Td ?_;rcases U hF with⟨h7,hF⟩|⟨h7,hF⟩;refine au ?_;obtain⟨h8,hF⟩:=cO hF;refine Wo.open (k:=4) rfl (aM h8) ?_;rintro b4 t0 rfl h19;refine wz ?_;obtain⟨⟨x3,x4,x10,x11⟩,h20,hF⟩:=J hF;refine wz ?_;refine wa z44 fun b5=>?_;refine au ?_;refine Tc (cp rfl Qn rfl (cm Pb rfl rfl rfl)) rfl ?_;refine wz ?_;refine Th ?_;obtain⟨l4,h2,hF⟩:=J hF;refine ct (fun l4 (_:TP)=>⟨(.exit 2),[(1,ptr b3 0),(5,.int .i64 0),(8,vt b4 l1),(9,ptr b0 0),(10,ptr b1 0),(12,ptr b5 0),(28,vt b4 l1),(29,dN l1),(30,ba v0)],(fp b3 a0 l3 c0 a1 l2 c1 e0 ak r0 [vU b4 l1 t0,dW b0 b2,vX b2 l4,.obj b1 (.cells [.func (.func 28) #[] #[ptr b0 0,ptr b1 0]] .own),fF b5 x3 x4 x10 x11])⟩) l4 ?_ ?_;refine lo h2 () [1,2,3,4,5,6,7,8,0] (fun(l5,v1) _=>⟨.normal,[(1,ptr b3 0),(5,.int .i64 0),(8,vt b4 l1),(9,ptr b0 0),(10,ptr b1 0),(12,ptr b5 0),(28,vt b4 l1),(29,dN l1),(30,ba v0),(38,kW x3 x4),(39,ba v1)],(fp b3 a0 l3 c0 a1 l2 c1 e0 ak r0 [vU b4 l1 t0,dW b0 b2,vX b2 l5,.obj b1 (.cells [.func (.func 28) #[] #[ptr b0 0,ptr b1 0]] .own),fF b5 x3 x4 x10 x11])⟩) ?_;clear hF h2;rintro⟨l5,v1⟩ ⟨⟩ r hF;unfold Kd at hF;refine wz ?_;refine Td ?_;rcases U hF with⟨h9,hF⟩|⟨h9,hF⟩;refine wz ?_;refine Td ?_;obtain⟨l6,h10,hF⟩:=J hF;refine ct (fun l6 (_:TP)=>⟨.normal,[(1,ptr b3 0),(5,.int .i64 0),(8,vt b4 l1),(9,ptr b0 0),(10,ptr b1 0),(12,ptr b5 0),(28,vt b4 l1),(29,dN l1),(30,ba v0),(38,kW x3 x4),(39,ba v1)],(fp b3 a0 l3 c0 a1 l2 c1 e0 ak r0 [vU b4 l1 t0,dW b0 b2,vX b2 l6,.obj b1 (.cells [.func (.func 28) #[] #[ptr b0 0,ptr b1 0]] .own),fF b5 x3 x4 x10 x11])⟩) l6 ?_ ?_;clear hF;revert l6;intro r hF;refine wz ?_;obtain⟨h11,hF⟩:=az hF;obtain⟨x12,h0,hF⟩:=J hF;refine Ts (DP (α:=TP) (V:=fun g=>match g with|_=>.int .i64 x12) (N:=fun g=>match g with|_=>[]++(fp b3 a0 l3 c0 a1 l2 c1 e0 ak r0 [vU b4 l1 t0,dW b0 b2,vX b2 l5,.obj b1 (.cells [.func (.func 28) #[] #[ptr b0 0,ptr b1 0]] .own),fF b5 x3 x4 x10 x11])) rfl rfl (fun m hm=>?_)) gn rfl ?_
 have hj:=oM h11;obtain⟨j,h3⟩:∃j:Nat,(v1:Int)=j:=⟨_,(RY hj.1).symm⟩;rw[h3] at h0 hj ⊢;rw[Rb] at h0 hj;replace hj:=hj.2;clear hF h3
 match j,hj,h0 with
 | 0,_,h0=>cases h0; exact⟨(),uW LW (i:=0) (by decide) (An cb rfl),hm⟩
 | 1,_,h0=>cases h0; exact⟨(),uW LW (i:=1) (by decide) (An cb rfl),hm⟩
 | _+2,hj,_=>exact Q1 hj (by omega)
 rintro⟨⟩;refine au ?_;obtain⟨⟨y0,y1⟩,h12,hF⟩:=J hF;refine Tc (Fg (q:=6) (xs:=l5) (k:=x12) (vE:=(fun n:Int=>.int .i64 n)) (z0:=(0:Int)) MO (Im u3) z3 rfl rfl rfl rfl h12) rfl ?_;refine au ?_;rcases U hF with⟨h13,hF⟩|⟨h13,hF⟩;refine wz ?_;refine Tz (Dn (q:=6) (xs:=l5) (k:=x12) (v:=x12) (vE:=(fun n:Int=>.int .i64 n)) MO (Im u3) rfl rfl rfl rfl) ?_;refine wz ?_;cases hF;exact ae () (TL 0 9);refine wz ?_;obtain rfl:=QL hF;exact ae () (TL 0 9);rintro⟨⟩;refine au ?_;cases hF;exact ae () (TL 0 9);refine wz ?_;cases hF;exact ae () (TL 0 9);rintro⟨⟩;refine wz ?_;refine TB (prs:=[(0,4),(4,5),(4,7),(0,8)]) (by kernel_rfl)<|Wn.uZ rfl (aH (k:=5) Iv rfl rfl rfl) rfl<|Tf (aH (k:=7) Iw rfl rfl rfl) rfl<|Tf (aG (r:=ptr b5 0) rfl (Fj _ _)) rfl<|Tf (aH (k:=8) cb rfl rfl rfl) rfl ?_
 obtain⟨r1,h14,hF⟩:=J hF;refine TK (Ti [5,6,7,0,1,2,3,4,8] rfl rfl) ?_;refine Wn.xk (l:=[b0,b1,b5]) (ln (α:=TP) (V:=fun _=>.int .i64 r1) (N:=fun _=>(dW b0 b2::vX b2 l4::.obj b1 (.cells [.func (.func 28) #[] #[ptr b0 0,ptr b1 0]] .own)::fp b3 a0 l3 c0 a1 l2 c1 e0 ak r0 [vU b4 l1 t0,fF b5 x3 x4 x10 x11])) rfl rfl (fun m hm=>G8 n l4 b0 b2 b1 n x3 r1 h14 ((fp b3 a0 l3 c0 a1 l2 c1 e0 ak r0 [vU b4 l1 t0,fF b5 x3 x4 x10 x11])) m hm)) ⟨⟨_,0,rfl,rfl,fun _=>⟨0,rfl⟩⟩,⟨⟨_,2,rfl,rfl,fun _=>⟨2,rfl⟩⟩,⟨⟨_,8,rfl,rfl,fun _=>⟨8,rfl⟩⟩,trivial⟩⟩⟩ gn rfl fun _=>?_;refine Wn.uZ rfl (aH (k:=2) Iw rfl rfl rfl) rfl<|Tf (aG (r:=ptr b5 1) rfl (GY _ _)) rfl<|Wn.uZ rfl (aH (k:=8) cb rfl rfl rfl) rfl ?_;obtain⟨r3,h15,hF⟩:=J hF;refine TK (Ti [0,1,2,3,4,5,6,7,8] rfl rfl) ?_;refine Wn.xk (l:=[b0]) (ln (α:=TP) (V:=fun _=>.int .i64 r3) (N:=fun _=>(dW b0 b2::vX b2 l4::.obj b1 (.cells [.func (.func 28) #[] #[ptr b0 0,ptr b1 0]] .own)::fp b3 a0 l3 c0 a1 l2 c1 e0 ak r0 [vU b4 l1 t0,fF b5 x3 x4 x10 x11])) rfl rfl (fun m hm=>G8 n l4 b0 b2 b1 n x4 r3 h15 ((fp b3 a0 l3 c0 a1 l2 c1 e0 ak r0 [vU b4 l1 t0,fF b5 x3 x4 x10 x11])) m hm)) ⟨⟨_,0,rfl,rfl,fun _=>⟨0,rfl⟩⟩,trivial⟩ gn rfl fun _=>?_;refine Wn.o0 (Dn (q:=1) (xs:=l4) (k:=r1) (v:=r3) (vE:=(fun n:Int=>.int .i64 n)) MO (Im u3) rfl rfl rfl rfl) ?_;refine Tx (fun m hm=>(by(first|refine dj.rk rfl rfl rfl (by simp) ?_|refine dj.step rfl ?_); exact(by(first|refine dj.kr rfl rfl rfl (by simp) ?_|refine dj.step rfl ?_); exact(by(first|refine dj.kr rfl rfl rfl (by simp) ?_|refine dj.step rfl ?_); exact(by(first|refine dj.rk rfl rfl rfl (by simp) ?_|refine dj.step rfl ?_); exact dj.nil))))) ?_
 refine au ?_;cases hF;exact aT () (To (Tj (k:=7) rfl) (Ti [3,4,5,6,7,0,1,2] rfl rfl));refine wz ?_;cases hF;exact ae () (TL 0 7);rintro⟨⟩;refine TJ<|At.Hh ?_;cases hF;exact Vk.Fq (sc rfl (sc rfl (sc rfl (sc rfl sn)))) (Ti [0,1,2,3,4,5,6] rfl rfl) (kN _ rfl (b3,a2,b0,b2))
end
section
open Go Go.Ab Go.Ab.W
set_option maxRecDepth 10000
attribute [local irreducible] Tm.at Trie.set Trie.get TS.get TS.set TS.alloc TS.ww TS.kill
def iH(r:SQ)(S:TO Nat):Int:=((S.filterMap fun i=>r[i]?).countP (fun p=>decide (p.1=p.2)):Nat)
def sP{r:SQ}{S:TO Nat}{i:Nat}{e:Int×Int}(h:r[i]? = some e):iH r (S++[i])=iH r S+if e.1=e.2 then 1 else 0:=by
 unfold iH;rw[List.filterMap_append,List.countP_append];simp[h,List.countP_cons]
 split<;>rfl
def Hm{r:SQ}{S:TO Nat}:0<=iH r S/\iH r S<=S.length:=by
 unfold iH;have h1:=List.countP_le_length (p:=fun p:Int×Int=>decide (p.1=p.2)) (l:=S.filterMap fun i=>r[i]?);have h2:=List.length_filterMap_le (fun i=>r[i]?) S;omega
def xy(r:SQ):iH r (List.range r.length)=oC r:=by
 unfold iH oC;have:∀(r:SQ),(List.range r.length).filterMap (fun i=>r[i]?)=r:=by
  intro r
  induction r with
  | nil=>rfl
  | cons x r ih =>
   rw[Rl,List.range_succ_eq_map,List.filterMap_cons];simp only[Q6,List.filterMap_map]
   congr 1
 rw[this]
def zS{r:SQ}{S:TO Nat}(h:S.Perm (List.range r.length)):iH r S=oC r:=by
 rw[<-xy];unfold iH;rw[(h.filterMap _).countP_eq]
def Gq{x:Int}(h1:0<=x)(h2:x<=1073741825):S6 x=x:=by
 simp only[IntKind.wrap,IntKind.bits,IntKind.signed]
 show(if(true&&decide (x%18446744073709551616≥9223372036854775808))=true then x%18446744073709551616-18446744073709551616 else x%18446744073709551616)=x
 simp only[RE,QR]
 split<;>omega
abbrev GZ:Int×Int->SX×SX:=eM (fun n:Int=>.int .i64 n) (fun n:Int=>.int .i64 n)
abbrev Ih(x:Int×Int×Int×Int×Int):SX:=.tuple #[.int .i64 x.1,.int .i64 x.2.1,.int .i64 x.2.2.1,.int .i64 x.2.2.2.1,.int .i64 x.2.2.2.2]
set_option maxHeartbeats 4000000
def LO{m:TS}{l1:SQ}{l5:SO}{a2:SU}{c3:Nat}{a6:SU}{c7:Nat}{rr8:SV}{es9:SS}{l:TO fe}{r:SQ}{b:Nat}{a:SU}{b2 b3:Nat}(hlim:lim r.length=true){R:SX->TS->Prop}
  (hR:∀m':TS,Hp m m' []->R (Ih (r.length,l.length,l5.length,oC r,0)) m') :
  Vk (TV (some lu) none) 84 10 none (OC 7 (k8 Try.f10)) (iF (TV (some lu) none) [.tmp 2,.tmp 3,.tmp 4,.tmp 5,.tmp 6] R) m [(1,ptr b 0),(5,.int .i64 0),(8,.slice a l.length l.length),(9,ptr b2 0)]
   [.obj b (.cells [.slice a2 l1.length c3,.slice a6 l5.length c7] .own),.rd a2 c3 2 l1.length (l1.map (eP (eI .i64) (eI .i64))),.rd a6 c7 2 l5.length es9,.gen (cd ak rr8 l5 es9),.sl a 4 l.length (l.map (eP (eI .i64) (eP (eI .i64) (eP (eI .i64) (eI .i64))))),.obj b2 (.cells [.map (some b3)] .own),.obj b3 (.map (r.map GZ))]:=by
 refine Vk.mapRange (E:=TV (some lu) none) oG (fun h=>h) (γ:=TP) (kt:=3) (et:=3) ⟨rfl,rfl⟩ ⟨rfl,rfl,rfl⟩ MO ⟨rfl,rfl,rfl⟩ ⟨rfl,rfl,rfl⟩ ⟨rfl,rfl,rfl⟩ rfl (by decide) (by decide) (bm:=b3) (k:=6) (es:=r.map GZ)
  (fun t m' hf hm=>xf (k:=5) Iv rfl rfl rfl hf hm) rfl
  (fun bi S _=>([(1,ptr b 0),(5,.int .i64 (iH r S)),(8,.slice a l.length l.length),(9,ptr b2 0),(65,ptr bi 0)],[]))
  (fun bi S g=>rfl) (fun bi S g p hp=>by cases hp) (fun _=>()) (fun bi=>⟨sc rfl (sc rfl (sc rfl (sc rfl (sc rfl sn)))),fun m1=>Ti [] rfl rfl⟩) ?_ ?_
 intro bi m1 S i e a' hS hSl hi he;rw[Q0] at hSl;rw[Rw] at he;obtain⟨e,he0,rfl⟩:=Option.map_eq_some_iff.1 he;clear he;have hn:S.length<=r.length:=by
  simpa using hS.length_le_of_subset (fun x hx=>RB.2 (hSl x hx):S⊆List.range r.length)
 have hc:=Hm (r:=r) (S:=S);have hll:=nW hlim;refine Tc (HT rfl rfl) rfl ?_;refine Tc (HT rfl rfl) rfl ?_;refine Tc (bC rfl) rfl ?_;refine Tc (bC rfl) rfl ?_;refine Tk (Q:=fun _=>_) ?_
 show Wk (TV (some lu) none) 84 10 none _ _ m1 _ _
 refine Td ?_;refine Te ?_;refine Tc (aS rfl) rfl ?_;refine Tc (aS rfl) rfl ?_;refine Tc (aJ rfl rfl (ij _ _ _)) rfl ?_;refine Tk ?_;refine Tl ?_
 by_cases hk:e.1=e.2
 refine Ty rfl (QM hk) ?_;refine Te ?_;refine Tc (aS rfl) rfl ?_;refine Tc (aJ rfl rfl (bu _ _ _)) rfl ?_;refine Tc (bC rfl) rfl ?_;refine Tk (Q:=fun _=>_) ?_;intro t' m' hf hm;refine⟨rfl,(),?_,hm⟩;have e1:S6 (iH r S+1)=iH r (S++[i]):=by rw[sP he0,QH hk,Gq (by omega) (by omega)]
 rw[<-e1];exact hf.sub (sc rfl (sc rfl (sc rfl (sc rfl (sc rfl sn)))))
 refine TC rfl (QO hk) ?_;refine TA ?_;intro t' m' hf hm;refine⟨rfl,(),?_,hm⟩;have e1:iH r S=iH r (S++[i]):=by rw[sP he0,QF hk,Int.add_zero]
 rw[<-e1];exact hf.sub (sc rfl (sc rfl (sc rfl (sc rfl (sc rfl sn)))))
 intro bi S a' hS;rw[Q0] at hS;have hp:=zS hS;refine Vk.of oG ?_;refine Td ?_;refine Wk.draw (by kernel_rfl) ?_
 refine Tc (aH (k:=5) Iv rfl rfl rfl) rfl ?_;refine Tc (Ag (q:=6) (xs:=r) (f:=GZ) MO rfl rfl rfl) rfl ?_;refine Tc (aS rfl) rfl ?_;refine Tc (nX (k:=4) Pt rfl rfl (.inl rfl)) rfl ?_;refine Tc (aG (r:=ptr b 1) rfl (ep _ _)) rfl ?_;refine Tc (aH (k:=0) kY rfl rfl rfl) rfl ?_;refine Tc (nX (k:=2) u32 rfl rfl (.inl rfl)) rfl ?_;refine Tc (aS rfl) rfl ?_;refine Tc (bC rfl) rfl ?_;refine Tc (bC rfl) rfl ?_;refine Tc (bC rfl) rfl ?_;refine Tc (bC rfl) rfl ?_;refine Tc (bC rfl) rfl ?_;refine Tk ?_;refine Tl ?_;refine TF ?_;refine Tt (.tmp rfl (.tmp rfl (.tmp rfl (.tmp rfl (.tmp rfl .nil))))) fun m' hm=>?_;have:=hR m' ((Ti [] rfl rfl) m' hm);rw[<-hp] at this;exact this
open Classical in
noncomputable def lY (args:TO SX) (m:TS):TN (SX×TS) :=
 match args with
 | [v]=>if h:∃r,∃x:Cx,pX m v x/\JE 0 x.1 x.2=some r then some (Ih (Classical.choose h),m) else none
 | _=>none
noncomputable def DA:Prim:=⟨lY⟩
open Classical in
def tD{m m':TS}{v r:SX}(h:lY [v] m=some (r,m')):∃x:Cx,∃y,pX m v x/\JE 0 x.1 x.2=some y/\Ih y=r/\m=m':=by
 change dite _ _ _=_ at h
 by_cases hx:∃r,∃x:Cx,pX m v x/\JE 0 x.1 x.2=some r
 rw[dif_pos hx] at h;obtain⟨x,h1,h2⟩:=RJ hx;have h3:=QL h;exact⟨x,_,h1,h2,(Prod.ext_iff.1 h3).1,(Prod.ext_iff.1 h3).2⟩
 rw[dif_neg hx] at h; cases h
open Classical in
def yx{m:TS}{v:SX}{x:Cx}{r:Int×Int×Int×Int×Int}(h:pX m v x)(hF:JE 0 x.1 x.2=some r):lY [v] m=some (Ih r,m):=by
 have hx:∃r,∃x:Cx,pX m v x/\JE 0 x.1 x.2=some r:=⟨r,x,h,hF⟩
 change dite _ _ _=_
 rw[dif_pos hx];obtain⟨y,h1,h2⟩:=RJ hx;have e1:=h1.uniq h;subst e1;rw[hF] at h2;rw[<-QL h2]
def wA{args:TO SX}{m m':TS}{v:SX}(h:lY args m=some (v,m'))(pr:Bool){j:aN}{w:S5}{args':TO SX}(hm:MR (TV (some lu) none) j m w)(hl:LR j args args') :
  gk (TV (some lu) none).P pr 10 args'.toArray w (iC (TV (some lu) none) j m w v m'):=by
 have ha:∃v,args=[v]:=by
  unfold lY at h
  split at h
  exact⟨_,rfl⟩
  cases h
 obtain⟨va,rfl⟩:=ha;obtain⟨⟨l1,l5⟩,y,⟨a,c,a',c',R,es,rfl,h1,h2,h3⟩,hF,rfl,rfl⟩:=tD h;simp only at h1 h2 h3 hF;unfold JE at hF;obtain⟨s,hFA,hF⟩:=J hF;have hh1:Rd { m with wl:=m.next} a c 2 l1.length (l1.map vq):=BS h1
 have hh2:Rd { m with wl:=m.next} a' c' 2 l5.length es:=BS h2
 have hh3:(cd ak R l5 es).P { m with wl:=m.next}:=J0 h3
 refine qn (zh (E:=TV (some lu) none) (c:=k8 Try.f10) (m0:={ m with wl:=m.next}) (m:={ m with wl:=m.next}) (N:=84) (rs:=[.tmp 2,.tmp 3,.tmp 4,.tmp 5,.tmp 6]) (ps:=[.gen (cd ak R l5 es),.rd a' c' 2 l5.length es,.rd a c 2 l1.length (l1.map vq)]) oG Try.func10 rfl rfl rfl ((((Tp _).cF dI hh1).cF (eC dI) hh2).mz (eC (eC dI)) hh3) ?_) pr hm hl
 have hn0:({ m with wl:=m.next}:TS).next=m.next:=rfl
 have hg:∀m1:TS,Hp { m with wl:=m.next} m1 []->Grown m m1:=fun m1 hm1=>⟨hm1.ext.next,fun b hb=>(hm1.ext.same b hb).trans Eo,by have:=hm1.ext.wl; rw[hn0] at this; exact Rc (SE (Nat.min_self _).symm) this⟩
 refine JB oG 100000 l1 l5 a c a' c' R es s hFA _ hh1 hh2 hh3 (fun x hx m1 hm1=>?_) fun x hx g=>?_
 subst hx;cases hF;exact⟨hg m1 hm1,.inl ⟨rfl,rfl,rfl⟩⟩
 subst hx;obtain⟨l,r⟩:=x;obtain⟨hc,hF⟩:=az hF;cases hF;exact LO hc fun m1 hm1=>⟨hg m1 hm1,.inl ⟨rfl,rfl,rfl⟩⟩
def Ic:EnvOk (TV (some lu) (some DA)):=rH (E:=TV (some lu) none) oG (pr:=(TV (some lu) (some DA)).cH) fun f P hp=>by
 by_cases e:f=24
 subst e; exact .inl hp
 by_cases e':f=10
 subst e';have hp':some DA=some P:=hp;cases hp';exact .inr fun args m v m' h j w args' hm hl=>wA h _ hm hl
 refine .inl ?_;have:(TV (some lu) (some DA)).cH f=(TV (some lu) none).cH f:=by
  show(if f=24 then _ else if f=10 then _ else _)=(if f=24 then _ else if f=10 then _ else _)
  rw[QF e,QF e',QF e,QF e']
 rw[<-this]; exact hp
def L6(n:Nat)(l1:SQ)(l5:SO)(a2:SU)(c3:Nat)(a6:SU)(c7:Nat)(rr8:SV)(es9:SS)(r:Int×Int×Int×Int×Int)(hF:JE n l1 l5=some r)(m:TS)(h4:Rd m a2 c3 2 l1.length (l1.map vq))(h10:Rd m a6 c7 2 l5.length es9)(h11:(cd ak rr8 l5 es9).P m) :
  aI (TV (some lu) (some DA)) 10 [.agg #[.slice a2 l1.length c3,.slice a6 l5.length c7]] m (TQ m (.tuple #[.int .i64 r.1,.int .i64 r.2.1,.int .i64 r.2.2.1,.int .i64 r.2.2.2.1,.int .i64 r.2.2.2.2])) :=
 aI.cH (p:=DA) rfl (yx (x:=(l1,l5)) ⟨a2,c3,a6,c7,rr8,es9,rfl,h4,h10,h11⟩ hF) ⟨(),rfl,Tp m⟩
end
section
set_option maxRecDepth 100000
open Go Go.ChangeShapes Go.WideShapes Go.ChangeAt Go.WideMaps Go.WideElems Go.RowKit Go.Ab Go.Ab.W
def NI:laidOutB Try.prog=true:=by kernel_rfl
def IF:mapsRowed Try.prog=true:=by kernel_rfl
def Hv:sizedB Try.prog=true:=by kernel_rfl
def CF{H:Type}{enc:SY×SX->H}{f:T1}{fn:Func}{s:ChangeSpec}{W:S5}{args:TW SX}{ds:TO (DataW H)}{before:TO MemPlace}{tb:SY}{fresh handsOn:Bool}{absArgs:TO SX}(hpr:(TV (some lu) (some DA)).cH f=none)
  (hvars:s.vars=[]) (hres:fn.resultTypes.toList=[tb]) (hrs:fn.resultTypes.size=1) (htb:Try.prog.underlying tb=some .bool) (hpt:∀t∈fn.params.toList,t<Try.prog.types.size) (hfn:s.fn H ds ={ results:=[.lit (.bool true)],args:=ds,vars:=[]})
  (hW:DataW.Whole enc Try.prog fn.params.toList s.vars false W args.toList ds [] before)
  (hl:LR (ee W) absArgs args.toList) (hc:aI (TV (some lu) (some DA)) f absArgs (eR W) (fun v m'=>∃x:TP,v=.bool true/\Hp (eR W) m' [])) :
  Calls Try.prog f args W fun e W'=>∃v,e=.returned v/\s.post enc Try.prog fn false fresh handsOn false W args v W':=by
 obtain⟨v,m',⟨fuel,hrun⟩,_,rfl,hm'⟩:=hc;have hm:MR (TV (some lu) (some DA)) (ee W) (eR W) W:=K9 (RF _);have hcall:=callsIn_wide.1 (px Ic hrun hpr hm hl);refine hcall.mono fun e W' ⟨v',he,j',sm,hv⟩=>?_;have hv':v'=.bool true:=fB rfl hv;subst hv';have hwl:(eR W).next<=m'.wl:=by
  have h1:=hm'.ext.wl;have h2:min (eR W).wl (eR W).next=(eR W).next:=Nat.min_self _
  omega
 exact⟨_,he,EX NI IF Hv hvars hres hrs htb hpt hfn hW sm.calm (sm.grown hm hwl)⟩
def EF{W:S5}(h:W.ShapedOpen Try.prog):0<W.heap.size:=by
 unfold World.ShapedOpen at h;obtain⟨_,h2⟩:=h;have e:((begin Try.prog (fun _ _=>0) default).world).heap.size=Try.prog.globals.size+5:=by
  unfold begin; simp only[Array.size_push,Array.size_mapIdx]
 obtain⟨o,o0,h3,_⟩:=h2 Try.prog.globals.size (QK _) (by rw[e]; omega)
 exact Nat.lt_of_le_of_lt (RF _) (QP.1 h3).1
def Pf:DD Try.prog 5 29=some [.int .u8,.int .u8,.int .u8,.int .i64,.int .i64,.int .i64,.int .u8,.int .u8,.int .u8,.int .i64,.int .i64,.int .i64]:=by kernel_rfl
def Pj:DD Try.prog 5 24=some [.int .u8,.int .u8,.sl 5,.sl 5,.bool]:=by kernel_rfl
def Qh:DD Try.prog 5 5=some [.int .u8]:=by kernel_rfl
def PL:Try.prog.underlying 29=some (.array 2 28):=by kernel_rfl
def P5:Try.prog.underlying 5=some (.int .u8):=by kernel_rfl
section
variable{H:Type}{enc:SY×SX->H}{W:S5}{sp:Nat->Bool}{held:Bool}{v:SX}{d:DataW H}{p:TO MemPlace}{base:Nat}
theorem Ho{P:S0}{base:Nat}{v:SX}(h:qy enc P W base sp held .bool v):∃b,v=.bool b:=h
theorem M9:∀(n:Nat) (cs:TO SX) (x:DataW H×TO MemPlace),DataW.trod enc Try.prog W 0 sp held n 5 cs=some x->∃p:Nat,cs=eN .u8 p/\p<256:=by
 intro n cs x h;obtain⟨v1,cs,rfl,h1,h⟩:=bS (zA 5 5 _ Qh n _ x h);obtain rfl:=sZ h;obtain⟨a,rfl,ha⟩:=jz h1;exact⟨a,rfl,ha⟩
theorem Ni(hok:Value.okWide Try.prog W .any base 24 v)(hs:0<W.heap.size)(h:DataW.Trod enc Try.prog W 0 sp held 24 v d p):∃(x1 x2:Nat) (l3 l4:TO Nat) (x5:Bool) (a3:SU) (c3:Nat) (a4:SU) (c4:Nat),
  VR (ee W) (.agg #[.int .u8 ((x1:Nat):Int),.int .u8 ((x2:Nat):Int),.slice a3 l3.length c3,.slice a4 l4.length c4,.bool x5]) v/\x1<256/\x2<256/\(∀q∈l3,q<256)/\(∀q∈l4,q<256)/\Rd (eR W) a3 c3 1 l3.length (l3.map (eN .u8))/\Rd (eR W) a4 c4 1 l4.length (l4.map (eN .u8)):=by
 obtain⟨cs,rfl,_⟩:=okWide_struct (t:=24) (fs:=Try.prog.underlying 24 |>.elim #[] fun u=>match u with|.struct fs=>fs|_=>#[]) (by kernel_rfl) hok
 obtain⟨n,h⟩:=h;obtain⟨v1,r,hr,h1,h⟩:=bS (sJ Pj h);obtain⟨v2,r,rfl,h2,h⟩:=bS h;obtain⟨v3,r,rfl,h3,h⟩:=bS h;obtain⟨v4,r,rfl,h4,h⟩:=bS h;obtain⟨v5,r,rfl,h5,h⟩:=bS h;obtain rfl:=sZ h;obtain⟨x1,rfl,g1⟩:=jz h1;obtain⟨x2,rfl,g2⟩:=jz h2;obtain⟨a3,c3,l3,e1,e2,e3,e4⟩:=DS (f:=eN .u8) (w:=1) (by kernel_rfl) (by omega) hs (fun q=>rfl) M9 h3
 obtain⟨a4,c4,l4,f1,f2,f3,f4⟩:=DS (f:=eN .u8) (w:=1) (by kernel_rfl) (by omega) hs (fun q=>rfl) M9 h4
 obtain⟨x5,rfl⟩:=Ho h5;refine⟨x1,x2,l3,l4,x5,a3,c3,a4,c4,?_,g1,g2,e3,f3,e2,f2⟩;refine DI (l:=[.int .u8 ((x1:Nat):Int),.int .u8 ((x2:Nat):Int),.slice a3 l3.length c3,.slice a4 l4.length c4,.bool x5]) ?_;rw[hr];exact .cons (.int _ _) (.cons (.int _ _) (.cons e1 (.cons f1 (LR.plain rfl))))
theorem Nn(hok:Value.okWide Try.prog W .any base 29 v)(h:DataW.Trod enc Try.prog W 0 sp held 29 v d p):∃(x1 x2 x3:Nat) (x4 x5 x6:Int) (x7 x8 x9:Nat) (x10 x11 x12:Int),
  VR (ee W) (.agg #[.int .u8 ((x1:Nat):Int),.int .u8 ((x2:Nat):Int),.int .u8 ((x3:Nat):Int),.int .i64 x4,.int .i64 x5,.int .i64 x6,.int .u8 ((x7:Nat):Int),.int .u8 ((x8:Nat):Int),.int .u8 ((x9:Nat):Int),.int .i64 x10,.int .i64 x11,.int .i64 x12]) v /\
   (x2<256/\x3<256)/\(x8<256/\x9<256):=by
 obtain⟨cs,rfl,_⟩:=uV PL hok;obtain⟨n,h⟩:=h;obtain⟨v1,r,hr,h1,h⟩:=bS (sJ Pf h);obtain⟨v2,r,rfl,h2,h⟩:=bS h;obtain⟨v3,r,rfl,h3,h⟩:=bS h;obtain⟨v4,r,rfl,h4,h⟩:=bS h;obtain⟨v5,r,rfl,h5,h⟩:=bS h;obtain⟨v6,r,rfl,h6,h⟩:=bS h;obtain⟨v7,r,rfl,h7,h⟩:=bS h;obtain⟨v8,r,rfl,h8,h⟩:=bS h;obtain⟨v9,r,rfl,h9,h⟩:=bS h;obtain⟨v10,r,rfl,h10,h⟩:=bS h;obtain⟨v11,r,rfl,h11,h⟩:=bS h;obtain⟨v12,r,rfl,h12,h⟩:=bS h;obtain rfl:=sZ h;obtain⟨x1,rfl,g1⟩:=jz h1;obtain⟨x2,rfl,g2⟩:=jz h2;obtain⟨x3,rfl,g3⟩:=jz h3;obtain⟨x4,rfl,_⟩:=mN h4;obtain⟨x5,rfl,_⟩:=mN h5;obtain⟨x6,rfl,_⟩:=mN h6;obtain⟨x7,rfl,g7⟩:=jz h7;obtain⟨x8,rfl,g8⟩:=jz h8;obtain⟨x9,rfl,g9⟩:=jz h9;obtain⟨x10,rfl,_⟩:=mN h10;obtain⟨x11,rfl,_⟩:=mN h11;obtain⟨x12,rfl,_⟩:=mN h12;refine⟨x1,x2,x3,x4,x5,x6,x7,x8,x9,x10,x11,x12,?_,⟨g2,g3⟩,⟨g8,g9⟩⟩;refine DI (l:=[.int .u8 ((x1:Nat):Int),.int .u8 ((x2:Nat):Int),.int .u8 ((x3:Nat):Int),.int .i64 x4,.int .i64 x5,.int .i64 x6,.int .u8 ((x7:Nat):Int),.int .u8 ((x8:Nat):Int),.int .u8 ((x9:Nat):Int),.int .i64 x10,.int .i64 x11,.int .i64 x12]) ?_;rw[hr];exact LR.plain rfl
theorem Om(hok:Value.okWide Try.prog W .any base 5 v)(h:DataW.Trod enc Try.prog W 0 sp held 5 v d p):∃n:Nat,v=.int .u8 ((n:Nat):Int)/\n<256:=by
 obtain⟨k,rfl⟩:=okWide_int P5 hok;obtain⟨n,h⟩:=h;obtain⟨m,e,_,hw⟩:=DataW.trod_int P5 h;exact jz (enc:=enc) (P:=Try.prog) (W:=W) (base:=0) (sp:=sp) (held:=held) ⟨m,by cases e; rfl,hw⟩
end
end
section
open Go Go.Ab Go.Ab.W
def uJ(n:Nat)(l1:SR):(SR×Int)->TN ((SR×Int)⊕SR):=fun(l3,v0) =>
br (decide (v0<((TM l1 10).length:Int))) (
gd (ck v0 ((TM l1 10).length)) (
ob ((TM l1 10)[v0.toNat]?) fun l2 =>
gd (okB 0 (mi (l2.length:Int) (42:Int)) l2.length) (
ob (JO n (TM l2 42)) fun l4 =>
gd (lim (l3++([l4]:SR)).length) (
some (.inl ((l3++([l4]:SR)),S6 (v0+1))))))) (
some (.inr l3))
def um(n:Nat)(l1:SO):(SO×Int)->TN ((SO×Int)⊕SO):=fun(l3,v0) =>
br (decide (v0<((TM l1 66).length:Int))) (
gd (ck v0 ((TM l1 66).length)) (
ob ((TM l1 66)[v0.toNat]?) fun(l2,l4) =>
gd (okB 0 (mi (l2.length:Int) (42:Int)) l2.length) (
ob (JO n (TM l2 42)) fun l5 =>
gd (okB 0 (mi (l4.length:Int) (10:Int)) l4.length) (
ob (
bH (uJ n l4) n (([]:SR),0)) fun l6 =>
gd (lim (l3++([(l5,l6)]:SO)).length) (
some (.inl ((l3++([(l5,l6)]:SO)),S6 (v0+1)))))))) (
some (.inr l3))
def MK(n:Nat)(l1:SQ)(l2:SO):TN (SQ×SO) :=
gd (okB 0 (mi (l1.length:Int) (125:Int)) l1.length) (
ob (OV n (TM l1 125)) fun l3 =>
gd (okB 0 (mi (l2.length:Int) (66:Int)) l2.length) (
ob (
bH (um n l2) n (([]:SO),0)) fun l4 =>
some (l3,l4)))
def PT(_:Nat)(l:TO Int)(i j:Int):TN (TO Int):=gd (decide (0<l.length)&&decide (0<=i)&&decide (i<=j)&&decide (j<=(l.length:Int))&&lim l.length) (some (l.take i.toNat++l.drop j.toNat))
def PB(_:Nat)(l:SO)(i j:Int):TN SO:=gd (decide (0<l.length)&&decide (0<=i)&&decide (i<j)&&decide (j<=(l.length:Int))&&lim l.length) (some (l.take i.toNat++l.drop j.toNat))
def PW(_:Nat)(l:TO Int)(i:Int)(vs:TO Int):TN (TO Int):=gd (decide (0<=i)&&decide (i<=(l.length:Int))&&lim l.length) (some (l.take i.toNat++(vs++l.drop i.toNat)))
def sq(n:Nat)(l2:TO Int):(TO (Int)×Int×Int)->TN ((TO (Int)×Int×Int) ⊕(TO (Int))):=fun(l1,v0,v1) =>
br (decide (v0<v1)) (
gd (ck v1 l2.length) (
ob (l1[v1.toNat]?) fun x3 =>
gd (ck v0 l2.length) (
ob (l1[v0.toNat]?) fun x4 =>
gd (ck v0 l2.length) (
gd (ck v1 l2.length) (
ob ((l1.set v0.toNat x3)[v1.toNat]?) fun x10 =>
some (.inl (((l1.set v0.toNat x3).set v1.toNat x4),S6 (v0+1),S6 (v1-1)))))))) (
some (.inr l1))
def G7(n:Nat)(l2:TO Int):(TO (Int)×Int×Int)->TN ((TO (Int)×Int×Int) ⊕(TO (Int))):=fun(l1,v0,v1) =>
br (decide (v0<v1)) (
gd (ck v1 l2.length) (
ob (l1[v1.toNat]?) fun x3 =>
gd (ck v0 l2.length) (
ob (l1[v0.toNat]?) fun x4 =>
gd (ck v0 l2.length) (
gd (ck v1 l2.length) (
ob ((l1.set v0.toNat x3)[v1.toNat]?) fun x10 =>
some (.inl (((l1.set v0.toNat x3).set v1.toNat x4),S6 (v0+1),S6 (v1-1)))))))) (
some (.inr l1))
def tp(n:Nat)(x3:Nat)(l3:TO Int):SR->TN (SR⊕SR):=fun l1 =>
br (decide ((l1.length:Int)<S6 (8+(S6 ((x3%2:Nat):Int))))) (
ob (JO n l3) fun l2 =>
gd (lim (l1++([l2]:SR)).length) (
some (.inl (l1++([l2]:SR))))) (
some (.inr l1))
def MU(n:Nat)(x1:Nat)(x2:Nat)(x3:Nat)(x4:Int)(x5:Int)(x6:Int)(l13:SQ)(l14:SO):TN (SQ×SO) :=
ob (MK n l13 l14) fun(l2,l1) =>
ob (
br (decide ((l2.length:Int)=0)) (
some true) (
some (decide ((l1.length:Int)=0)))) fun v0 =>
br (v0) (
some (l2,l1)) (
gd (decide ((l2.length:Int)≠0)) (
gd (decide ((l1.length:Int)≠0)) (
gd (ck (Int.tmod (S6 ((x2:Nat):Int)) (l1.length:Int)) l1.length) (
ob (l1[(Int.tmod (S6 ((x2:Nat):Int)) (l1.length:Int)).toNat]?) fun(l3,l4) =>
ob (
br (decide (x1%14=0)) (
gd (ck (Int.tmod (S6 ((x2:Nat):Int)) (l2.length:Int)) l2.length) (
ob (l2[(Int.tmod (S6 ((x2:Nat):Int)) (l2.length:Int)).toNat]?) fun(x12,x13) =>
some ((l2.set ((Int.tmod (S6 ((x2:Nat):Int)) (l2.length:Int)).toNat) (x5,x6)),l2.length,l1.length,(l1.set ((Int.tmod (S6 ((x2:Nat):Int)) (l1.length:Int)).toNat) (l3,l4))))) (
br (decide (x1%14=1)) (
gd (decide ((l2.length:Int)≠0)) (
gd (ck (Int.tmod (S6 ((x3:Nat):Int)) (l2.length:Int)) l2.length) (
ob (l2[(Int.tmod (S6 ((x3:Nat):Int)) (l2.length:Int)).toNat]?) fun(x10,x11) =>
gd (ck (Int.tmod (S6 ((x2:Nat):Int)) (l2.length:Int)) l2.length) (
ob (l2[(Int.tmod (S6 ((x2:Nat):Int)) (l2.length:Int)).toNat]?) fun(x14,x15) =>
some ((l2.set ((Int.tmod (S6 ((x2:Nat):Int)) (l2.length:Int)).toNat) (x10,x11)),l2.length,l1.length,(l1.set ((Int.tmod (S6 ((x2:Nat):Int)) (l1.length:Int)).toNat) (l3,l4))))))) (
br (decide (x1%14=2)) (
gd (lim (l2++[(x5,x6)]).length) (
some ((l2++[(x5,x6)]),(l2++[(x5,x6)]).length,l1.length,(l1.set ((Int.tmod (S6 ((x2:Nat):Int)) (l1.length:Int)).toNat) (l3,l4))))) (
br (decide (x1%14=3)) (
gd (okB 0 (Int.tmod (S6 ((x2:Nat):Int)) (l2.length:Int)) l2.length) (
gd (decide (0<l2.length)) (
ob (some (l2.take (Int.tmod (S6 ((x2:Nat):Int)) (l2.length:Int):Int).toNat)) fun l9 =>
some (l9,l9.length,l1.length,(l1.set ((Int.tmod (S6 ((x2:Nat):Int)) (l1.length:Int)).toNat) (l3,l4)))))) (
br (decide (x1%14=4)) (
ob (MK n l2 l1) fun(l25,l10) =>
gd (decide ((l1.length:Int)≠0)) (
gd (ck (Int.tmod (S6 ((x3:Nat):Int)) (l1.length:Int)) l10.length) (
ob (l10[(Int.tmod (S6 ((x3:Nat):Int)) (l1.length:Int)).toNat]?) fun(l6,l7) =>
gd (lim (l1++([(l6,l7)]:SO)).length) (
some (l2,l2.length,(l1++([(l6,l7)]:SO)).length,(l1++([(l6,l7)]:SO))))))) (
br (decide (x1%14=5)) (
gd (decide ((l1.length:Int)≠0)) (
gd (decide ((l1.length:Int)≠0)) (
ob (some (S6 ((Int.tmod (S6 ((x2:Nat):Int)) (l1.length:Int))+1))) fun y1 =>
ob (PB n l1 (Int.tmod (S6 ((x2:Nat):Int)) (l1.length:Int)) y1) fun l11 =>
some (l2,l2.length,l11.length,l11)))) (
br (decide (x1%14=6)) (
br (decide (0<(l3.length:Int))) (
gd (decide ((l3.length:Int)≠0)) (
gd (ck (Int.tmod (S6 ((x3:Nat):Int)) (l3.length:Int)) l3.length) (
ob (l3[(Int.tmod (S6 ((x3:Nat):Int)) (l3.length:Int)).toNat]?) fun x16 =>
some (l2,l2.length,l1.length,(l1.set ((Int.tmod (S6 ((x2:Nat):Int)) (l1.length:Int)).toNat) ((l3.set ((Int.tmod (S6 ((x3:Nat):Int)) (l3.length:Int)).toNat) x4),l4)))))) (
some (l2,l2.length,l1.length,(l1.set ((Int.tmod (S6 ((x2:Nat):Int)) (l1.length:Int)).toNat) (l3,l4))))) (
br (decide (x1%14=7)) (
ob (
ob (
bH (sq n l3) n (l3,0,S6 ((l3.length:Int)-1))) fun l15 =>
some (l1.set ((Int.tmod (S6 ((x2:Nat):Int)) (l1.length:Int)).toNat) (l15,l4))) fun l16 =>
some (l2,l2.length,l1.length,l16)) (
br (decide (x1%14=8)) (
some (l2,l2.length,l1.length,(l1.set ((Int.tmod (S6 ((x2:Nat):Int)) (l1.length:Int)).toNat) (l3,[])))) (
br (decide (x1%14=9)) (
gd (decide ((l1.length:Int)≠0)) (
gd (ck (Int.tmod (S6 ((x3:Nat):Int)) (l1.length:Int)) l1.length) (
ob (l1[(Int.tmod (S6 ((x3:Nat):Int)) (l1.length:Int)).toNat]?) fun(l17,l26) =>
ob (JO n l17) fun l5 =>
gd (lim (l4++([l5]:SR)).length) (
ob (some (S6 (((l4++([l5]:SR)).length:Int)-1))) fun y0 =>
gd (ck y0 ((l4++([l5]:SR)).length)) (
ob ((l4++([l5]:SR))[y0.toNat]?) fun l8 =>
ob (
ob (
bH (G7 n l8) n (l8,0,S6 ((l8.length:Int)-1))) fun l18 =>
some (l1.set ((Int.tmod (S6 ((x2:Nat):Int)) (l1.length:Int)).toNat) (l3,((l4++([l5]:SR)).set y0.toNat l18)))) fun l19 =>
some (l2,l2.length,l1.length,l19)))))) (
br (decide (x1%14=10)) (
br (decide (0<(l3.length:Int))) (
gd (decide ((l3.length:Int)≠0)) (
gd (decide ((l3.length:Int)≠0)) (
ob (some (S6 ((Int.tmod (S6 ((x3:Nat):Int)) (l3.length:Int))+1))) fun y2 =>
ob (PT n l3 (Int.tmod (S6 ((x3:Nat):Int)) (l3.length:Int)) y2) fun l20 =>
some (l2,l2.length,l1.length,(l1.set ((Int.tmod (S6 ((x2:Nat):Int)) (l1.length:Int)).toNat) (l20,l4)))))) (
some (l2,l2.length,l1.length,(l1.set ((Int.tmod (S6 ((x2:Nat):Int)) (l1.length:Int)).toNat) (l3,l4))))) (
br (decide (x1%14=11)) (
gd (decide (S6 ((l3.length:Int)+1)≠0)) (
ob (some (Int.tmod (S6 ((x3:Nat):Int)) (S6 ((l3.length:Int)+1)))) fun y3 =>
gd (decide ((l2.length:Int)≠0)) (
ob (PW n l3 y3 ([Int.tmod (FK .i64 x4 127) (l2.length:Int)])) fun l21 =>
some (l2,l2.length,l1.length,(l1.set ((Int.tmod (S6 ((x2:Nat):Int)) (l1.length:Int)).toNat) (l21,l4)))))) (
br (decide (x1%14=12)) (
br (decide (0<(l3.length:Int))) (
gd (decide ((l3.length:Int)≠0)) (
gd (okB (Int.tmod (S6 ((x3:Nat):Int)) (l3.length:Int)) (l3.length:Int) l3.length) (
ob (JO n ((l3.drop (Int.tmod (S6 ((x3:Nat):Int)) (l3.length:Int):Int).toNat).take (((l3.length:Int):Int).toNat-(Int.tmod (S6 ((x3:Nat):Int)) (l3.length:Int):Int).toNat))) fun l12 =>
gd (decide ((l3.length:Int)≠0)) (
gd (okB 0 (Int.tmod (S6 ((x3:Nat):Int)) (l3.length:Int)) l3.length) (
gd (lim (l12++((l3.drop S7).take ((Int.tmod (S6 ((x3:Nat):Int)) (l3.length:Int):Int).toNat-S7))).length) (
some (l2,l2.length,l1.length,(l1.set ((Int.tmod (S6 ((x2:Nat):Int)) (l1.length:Int)).toNat) ((l12++((l3.drop S7).take ((Int.tmod (S6 ((x3:Nat):Int)) (l3.length:Int):Int).toNat-S7))),l4))))))))) (
some (l2,l2.length,l1.length,(l1.set ((Int.tmod (S6 ((x2:Nat):Int)) (l1.length:Int)).toNat) (l3,l4))))) (
ob (
bH (tp n x3 l3) n l4) fun l22 =>
some (l2,l2.length,l1.length,(l1.set ((Int.tmod (S6 ((x2:Nat):Int)) (l1.length:Int)).toNat) (l3,l22))))))))))))))))) fun(l23,n0,n1,l24) =>
some (l23,l24)))))
set_option maxRecDepth 10000
set_option maxHeartbeats 4000000
attribute [local irreducible] Tm.at Trie.set Trie.get TS.get TS.set TS.alloc TS.ww TS.kill
variable{p q:TN Prim}
end
section
open Go Go.Ab Go.Ab.W
def JH(n:Nat)(l1:TO (Int)):(SQ×Int)->TN ((SQ×Int)⊕SQ):=fun(l19,v21) =>
br (decide (S6 (v21+1)<(l1.length:Int))) (
gd (ck v21 l1.length) (
ob (l1[v21.toNat]?) fun x43 =>
gd (ck (S6 (v21+1)) l1.length) (
ob (l1[(S6 (v21+1)).toNat]?) fun x46 =>
gd (lim (l19++[(x43,x46)]).length) (
some (.inl ((l19++[(x43,x46)]),S6 (v21+2))))))) (
some (.inr l19))
def KX(n:Nat)(l1:TO (Int)):TN SQ :=
ob (
bH (JH n l1) n (([]:SQ),0)) fun l37 =>
some l37
def F8(n:Nat)(l1:SQ)(l5:SO):TN (TO (SP)×Int) :=
ob (Dl n l1 l5) fun r14 =>
br (!decide (r14=0)) (
some ([],r14)) (
ob (Iq n l1 l5) fun l17 =>
some (l17,0))
def M0(n:Nat)(l41:SR)(l1:SQ)(l5:SO):(Int×Int)->TN ((Int×Int)⊕Int):=fun(v49,v50) =>
br (decide (v50<(l41.length:Int))) (
gd (ck v50 l41.length) (
ob (l41[v50.toNat]?) fun l72 =>
ob (E2 n l1 l5 l72 1) fun l77 =>
ob (MM n l77) fun r81 =>
some (.inl (S6 (v49+r81),S6 (v50+1))))) (
some (.inr v49))
def F9(n:Nat)(l1:SQ)(l5:SO)(x12:Int):TN (Int×Int) :=
ob (Dl n l1 l5) fun r15 =>
br (!decide (r15=0)) (
some (0,r15)) (
ob (
br (decide (x12<0)) (
some true) (
some (decide ((l5.length:Int)<=x12)))) fun v24 =>
br (v24) (
some (0,2)) (
gd (ck x12 l5.length) (
ob (l5[x12.toNat]?) fun(l32,l33) =>
ob (zD n l32 l33) fun l41 =>
ob (
bH (M0 n l41 l1 l5) n (0,0)) fun v67 =>
some (v67,0))))
def JM(n:Nat)(l1:TO (SP))(l5:TO (SP)):Int->TN (Int⊕TP⊕TP):=fun v11 =>
br (decide (v11<(l1.length:Int))) (
gd (ck v11 l1.length) (
ob (l1[v11.toNat]?) fun(x35,x36,x37,x38) =>
gd (ck v11 l5.length) (
ob (l5[v11.toNat]?) fun(x43,x44,x45,x46) =>
br (!(decide (x35=x43)&&decide (x36=x44)&&decide (x37=x45)&&decide (x38=x46))) (
some (.inr (.inl ()))) (
some (.inl (S6 (v11+1))))))) (
some (.inr (.inr ())))
def PU(n:Nat)(l1:TO (SP))(l5:TO (SP)):TN Bool :=
br (!decide ((l1.length:Int)=(l5.length:Int))) (
some false) (
ob (α:=(TP)⊕TP) (
bH (JM n l1 l5) n 0) fun r50=>match r50 with
| .inl _ =>
some false
| .inr _ =>
some true)
def KP(n:Nat)(l1:SQ)(l5:SO)(x12:Int)(x13:Int):TN Bool :=
ob (MI n l1 l5) fun(r16,r17) =>
ob (F8 n l1 l5) fun(l19,r22) =>
br (decide (r16=x12)) (
br (decide (r17=x13)) (
some ((decide (r22=150)) ==(decide (0<x12)))) (
some false)) (
some false)
def OW(n:Nat)(l1:SQ)(l5:SO)(x12:Int)(x13:Int)(x14:Int)(x15:Int):TN Bool :=
ob (JE n l1 l5) fun(r18,r19,r20,r21,r22) =>
br (decide (r18=x12)) (
br (decide (r19=x13)) (
br (decide (r20=x14)) (
br (decide (r21=x15)) (
some (decide (r22=0))) (
some false)) (
some false)) (
some false)) (
some false)
def yX(n:Nat)(l1:SR)(l2:SQ)(l3:SO)(x3:Int)(x4:Int):Int->TN (Int⊕Int⊕TP):=fun v0 =>
br (decide (v0<(l1.length:Int))) (
gd (ck v0 l1.length) (
ob (l1[v0.toNat]?) fun l4 =>
ob (
ob (E2 n l2 l3 l4 1) fun l5 =>
ob (I8 n l5 x3 x4) fun r0 =>
some (decide (r0=1))) fun v1 =>
br (v1) (
some (.inr (.inl v0))) (
some (.inl (S6 (v0+1)))))) (
some (.inr (.inr ())))
def zn(n:Nat)(l1:SO)(l2:SQ)(x3:Int)(x4:Int):Int->TN (Int⊕Int⊕TP):=fun v0 =>
br (decide (v0<(l1.length:Int))) (
gd (ck v0 l1.length) (
ob (l1[v0.toNat]?) fun(l3,l4) =>
ob (
ob (Ez n l2 l1 l3 l4 x3 x4 1) fun r0 =>
br (r0) (
some true) (
ob (zD n l3 l4) fun l5 =>
ob (
ob (α:=(Int)⊕TP) (
bH (yX n l5 l2 l1 x3 x4) n 0) fun r1=>match r1 with
| .inl v1 =>
some v1
| .inr _ =>
some (-1)) fun v2 =>
some (decide (0<=v2)))) fun v3 =>
br (v3) (
some (.inr (.inl v0))) (
some (.inl (S6 (v0+1)))))) (
some (.inr (.inr ())))
def J9(n:Nat)(l1:SQ)(l2:SO)(x3:Int)(x4:Int):TN (Int×Int) :=
ob (Dl n l1 l2) fun r0 =>
br (!decide (r0=0)) (
some (0,r0)) (
ob (MH n x3 x4) fun r1 =>
br (r1) (
some (0,2)) (
ob (
ob (α:=(Int)⊕TP) (
bH (zn n l2 l1 x3 x4) n 0) fun r3=>match r3 with
| .inl v0 =>
some v0
| .inr _ =>
some (-1)) fun v1 =>
some (v1,0)))
def MQ(n:Nat)(l1:SQ)(l5:SO)(x12:Int)(x13:Int)(x14:Int):TN Bool :=
ob (J9 n l1 l5 x12 x13) fun(r17,r18) =>
br (decide (r17=x14)) (
some (decide (r18=0))) (
some false)
def F6(n:Nat):TN Bool :=
ob (
ob (KX n ([0,0,2,0,4,0,4,2,2,2,0,2])) fun l8 =>
some (l8,([([0,1,4,5],[]),([1,2,3,4],[])]:SO))) fun(l3,l4) =>
ob (
ob (KX n ([0,0,9,0,9,9,0,9,3,3,6,3,6,6,3,6])) fun l9 =>
some (l9,([([0,1,2,3],[[4,7,6,5]]),([4,5,6,7],[])]:SO))) fun(l1,l2) =>
ob (F8 n l3 l4) fun(l10,r0) =>
ob (F9 n l1 l2 0) fun(r1,r3) =>
ob (
ob (KX n ([0,0,9,0,9,9,0,9,3,3,6,3,6,6,3,6])) fun l11 =>
some (l11,([([0,1,2,3],[[4,7,6,5]]),([4,5,6,7],[])]:SO))) fun(l12,l5) =>
ob (
ob (KX n ([0,0,9,0,9,9,0,9,3,3,6,3,6,6,3,6])) fun l13 =>
some (l13,([([0,1,2,3],[[4,7,6,5]]),([4,5,6,7],[])]:SO))) fun(l14,l6) =>
ob (
ob (KX n ([0,0,2,0,4,0,4,2,2,2,0,2])) fun l15 =>
some (l15,([([0,1,4,5],[]),([1,2,3,4],[])]:SO))) fun(l16,l7) =>
gd (ck 0 l5.length) (
ob (l5[S7]?) fun(l17,l20) =>
gd (ck 0 l6.length) (
ob (l6[S7]?) fun(l18,l21) =>
gd (ck 1 l7.length) (
ob (l7[(1:Int).toNat]?) fun(l22,l19) =>
ob (PU n l10 ([(0,1,0,-1),(0,5,-1,0),(1,2,1,-1),(1,4,0,1),(2,3,1,-1),(3,4,1,-1),(4,5,0,-1)])) fun r4 =>
ob (
ob (KP n l3 l4 0 0) fun r5 =>
br (r5) (
ob (KP n l1 l2 0 0) fun r6 =>
br (r6) (
ob (KP n l12 (l5.set (S7) (l17,[])) 10 1) fun r7 =>
br (r7) (
ob (KP n l14 (l6.set (S7) (l18,[[4,5,6,7]])) 6 0) fun r8 =>
br (r8) (
ob (KP n l16 (l7.set ((1:Int).toNat) ([1,2,3,5],l19)) 8 1) fun r9 =>
some r9) (
some false)) (
some false)) (
some false)) (
some false)) fun v0 =>
br (r4) (
br (decide (r0=0)) (
br (decide (r1=144)) (
br (decide (r3=0)) (
br (v0) (
ob (OW n l3 l4 6 7 2 1) fun r10 =>
br (r10) (
ob (OW n l1 l2 8 8 2 2) fun r11 =>
br (r11) (
ob (MQ n l1 l2 4 4 1) fun r12 =>
br (r12) (
ob (MQ n l1 l2 1 1 0) fun r13 =>
br (r13) (
ob (MQ n l1 l2 3 3 0) fun r14 =>
br (r14) (
ob (MQ n l1 l2 10 10 (-1)) fun r15 =>
some r15) (
some false)) (
some false)) (
some false)) (
some false)) (
some false)) (
some false)) (
some false)) (
some false)) (
some false)) (
some false))))
def Jc(n:Nat)(l1:TO (Nat))(x5:Int):TN Int :=
br (decide ((l1.length:Int)=0)) (
some 0) (
gd (decide ((l1.length:Int)≠0)) (
gd (ck (Int.tmod x5 (l1.length:Int)) l1.length) (
ob (l1[(Int.tmod x5 (l1.length:Int)).toNat]?) fun x11 =>
some (S6 ((x11:Nat):Int)))))
def uN(n:Nat)(v3:Int)(v2:Int)(l2:TO (Nat)):(SQ×Int×Int)->TN ((SQ×Int×Int)⊕SQ):=fun(l1,v0,v1) =>
br (decide (v1<=v3)) (
gd (lim (l1++[(v0,v2)]).length) (
ob (Jc n l2 v1) fun r0 =>
some (.inl ((l1++[(v0,v2)]),S6 ((S6 (v0+1))+(Int.tmod r0 5)),S6 (v1+1))))) (
some (.inr l1))
def tY(n:Nat)(v2:Int)(v3:Int)(l1:TO (Nat)):(SQ×Int×Int)->TN ((SQ×Int×Int)⊕SQ):=fun(l2,v1,v0) =>
br (decide (v0<=v2)) (
ob (
bH (uN n v3 v1 l1) n (l2,0,0)) fun l3 =>
ob (Jc n l1 (S6 (7+v0))) fun r0 =>
some (.inl (l3,S6 ((S6 (v1+1))+(Int.tmod r0 5)),S6 (v0+1)))) (
some (.inr l2))
def ry(n:Nat)(v0:Int)(v2:Int)(l2:TO (Nat)):(SO×Int)->TN ((SO×Int)⊕SO):=fun(l1,v1) =>
br (decide (v1<v0)) (
ob (
ob (some (S6 ((S6 (v2*(S6 (v0+1))))+v1))) fun y0 =>
ob (Jc n l2 (S6 ((S6 (v2*v0))+v1))) fun r0 =>
br (decide (Int.tmod r0 8=0)) (
ob (some (S6 ((S6 ((S6 (y0+v0))+1))+1))) fun y1 =>
ob (some (S6 ((S6 ((S6 (y0+v0))+1))+1))) fun y2 =>
gd (lim (l1++([([y0,S6 (y0+1),y1],[]),([y0,y2,S6 ((S6 (y0+v0))+1)],[])]:SO)).length) (
some (l1++([([y0,S6 (y0+1),y1],[]),([y0,y2,S6 ((S6 (y0+v0))+1)],[])]:SO)))) (
br (decide (Int.tmod r0 8=1)) (
br (decide (0<(l1.length:Int))) (
some l1) (
ob (some (S6 ((S6 ((S6 (y0+v0))+1))+1))) fun y3 =>
gd (lim (l1++([([y3,S6 ((S6 (y0+v0))+1),y0,S6 (y0+1)],[])]:SO)).length) (
some (l1++([([y3,S6 ((S6 (y0+v0))+1),y0,S6 (y0+1)],[])]:SO))))) (
ob (some (S6 ((S6 ((S6 (y0+v0))+1))+1))) fun y4 =>
gd (lim (l1++([([y0,S6 (y0+1),y4,S6 ((S6 (y0+v0))+1)],[])]:SO)).length) (
some (l1++([([y0,S6 (y0+1),y4,S6 ((S6 (y0+v0))+1)],[])]:SO)))))) fun l3 =>
some (.inl (l3,S6 (v1+1)))) (
some (.inr l1))
def ua(n:Nat)(v1:Int)(v2:Int)(l2:TO (Nat)):(SO×Int)->TN ((SO×Int)⊕SO):=fun(l1,v0) =>
br (decide (v0<v1)) (
ob (
bH (ry n v2 v0 l2) n (l1,0)) fun l3 =>
some (.inl (l3,S6 (v0+1)))) (
some (.inr l1))
def MT(n:Nat)(x1:Nat)(x2:Nat)(l1:TO (Nat))(l3:TO (Nat))(x3:Bool):TN (SQ×SO) :=
ob (
br (x3) (
some (3,3)) (
some (S6 (1+(S6 ((x1%4:Nat):Int))),S6 (1+(S6 ((x2%3:Nat):Int)))))) fun(v0,v1) =>
ob (
bH (tY n v1 v0 l3) n (([]:SQ),0,0)) fun l2 =>
br (x3) (
gd (lim (([]:SO)++([([0,1,2,3,7,11,15,14,13,12,8,4],[[5,9,10,6]])]:SO)).length) (
ob (
ob (Jc n l1 0) fun r0 =>
br (decide (Int.tmod r0 2=0)) (
gd (lim ((([]:SO)++([([0,1,2,3,7,11,15,14,13,12,8,4],[[5,9,10,6]])]:SO))++([([5,6,10,9],[])]:SO)).length) (
some ((([]:SO)++([([0,1,2,3,7,11,15,14,13,12,8,4],[[5,9,10,6]])]:SO))++([([5,6,10,9],[])]:SO)))) (
some (([]:SO)++([([0,1,2,3,7,11,15,14,13,12,8,4],[[5,9,10,6]])]:SO)))) fun l4 =>
some (l2,l4))) (
ob (
bH (ua n v1 v0 l1) n (([]:SO),0)) fun l5 =>
some (l2,l5))
def F7(n:Nat)(x1:Nat)(x2:Nat)(l3:TO (Nat))(l8:TO (Nat))(x13:Bool)(x14:Nat)(x15:Nat)(x16:Nat)(x17:Int)(x18:Int)(x19:Int)(x20:Nat)(x21:Nat)(x22:Nat)(x23:Int)(x24:Int)(x25:Int):TN (SQ×SO×SQ×SO×SQ×SO) :=
ob (MT n x1 x2 l3 l8 x13) fun(l30,l34) =>
ob (MU n x14 x15 x16 x17 x18 x19 l30 l34) fun(l42,l46) =>
ob (MU n x20 x21 x22 x23 x24 x25 l42 l46) fun(l54,l58) =>
some (l30,l34,l42,l46,l54,l58)
def NQ(n:Nat)(l2:SQ)(l1:SO)(x3:Int)(x4:Int):TN (SQ×Int) :=
ob (Dl n l2 l1) fun r0 =>
br (!decide (r0=0)) (
some ([],r0)) (
ob (
br (decide (x3<0)) (
some true) (
br (decide ((l1.length:Int)<=x3)) (
some true) (
br (decide (x4 < -1)) (
some true) (
gd (ck x3 l1.length) (
ob (l1[x3.toNat]?) fun(l9,l4) =>
some (decide ((l4.length:Int)<=x4))))))) fun v0 =>
br (v0) (
some ([],2)) (
gd (ck x3 l1.length) (
ob (l1[x3.toNat]?) fun(l5,l6) =>
ob (zD n l5 l6) fun l3 =>
gd (ck (S6 (x4+1)) l3.length) (
ob (l3[(S6 (x4+1)).toNat]?) fun l7 =>
ob (E2 n l2 l1 l7 1) fun l8 =>
some (l8,0)))))
def s8(n:Nat)(l1:SQ)(x5:Int)(x6:Int):(Int×Int)->TN ((Int×Int)⊕Int⊕Int):=fun(v0,v1) =>
br (decide (v0<(l1.length:Int))) (
gd (ck v0 l1.length) (
ob (l1[v0.toNat]?) fun(x10,x3) =>
gd (decide ((l1.length:Int)≠0)) (
gd (ck (Int.tmod (S6 (v0+1)) (l1.length:Int)) l1.length) (
ob (l1[(Int.tmod (S6 (v0+1)) (l1.length:Int)).toNat]?) fun(x11,x4) =>
ob (α:=(TP)⊕Int) (
ob (Lw n v0 x10 x3 x11 x4 x5 x6) fun r1 =>
br (r1) (
some (.inl ())) (
ob (Gb n x10 x3 x11 x4 x5 x6) fun r0 =>
ob (
br (decide (x3<=x6)) (
br (decide (x6<x4)) (
some (decide (0<r0))) (
some false)) (
some false)) fun v2 =>
br (v2) (
some (.inr (S6 (v1+1)))) (
ob (
br (decide (x6<x3)) (
br (decide (x4<=x6)) (
some (decide (r0<0))) (
some false)) (
some false)) fun v3 =>
br (v3) (
some (.inr (S6 (v1-1)))) (
some (.inr v1))))) fun r3=>match r3 with
| .inl _ =>
some (.inr (.inl v1))
| .inr v4 =>
some (.inl (S6 (v0+1),v4)))))) (
some (.inr (.inr v1)))
def MF(n:Nat)(l1:SQ)(x5:Int)(x6:Int):TN (Int×Int) :=
ob (MC n l1) fun r0 =>
br (!decide (r0=0)) (
some (0,r0)) (
ob (Hs n x5 x6) fun r1 =>
br (r1) (
some (0,2)) (
ob (
some ()) fun _ =>
ob (α:=(Int)⊕Int) (
ob (α:=(Int)⊕Int) (
bH (s8 n l1 x5 x6) n (0,0)) fun r3=>match r3 with
| .inl v0 =>
some (.inl v0)
| .inr v1 =>
some (.inr v1)) fun r4=>match r4 with
| .inl v3 =>
some (1,0)
| .inr v2 =>
br (!decide (v2=0)) (
some (2,0)) (
some (0,0))))
def CP(n:Nat)(v2:Int)(l1:SO)(l2:SQ)(v5:Int)(v6:Int):(Bool×Bool×Int)->TN ((Bool×Bool×Int) ⊕(TP ⊕(Bool×Bool))):=fun(v3,v4,v0) =>
gd (ck v2 l1.length) (
ob (l1[v2.toNat]?) fun(l5,l3) =>
br (decide (v0<(l3.length:Int))) (
ob (α:=(TP) ⊕(Bool×Bool)) (
ob (NQ n l2 l1 v2 v0) fun(l4,r1) =>
ob (MF n l4 v5 v6) fun(r0,r3) =>
ob (
br (!decide (r1=0)) (
some true) (
some (!decide (r3=0)))) fun v7 =>
br (v7) (
some (.inl ())) (
ob (
br (v4) (
some true) (
some (decide (r0=1)))) fun v1 =>
br (v3) (
br (decide (v0<0)) (
br (decide (r0=2)) (
some (.inr (true,v1))) (
br (decide (0<=v0)) (
some (.inr (decide (r0=0),v1))) (
some (.inr (false,v1))))) (
br (decide (0<=v0)) (
some (.inr (decide (r0=0),v1))) (
some (.inr (false,v1))))) (
some (.inr (false,v1))))) fun r4=>match r4 with
| .inl _ =>
some (.inr (.inl ()))
| .inr (v8,v9) =>
some (.inl (v8,v9,S6 (v0+1)))) (
some (.inr (.inr (v3,v4)))))
def CY(n:Nat)(l1:SO)(l2:SQ)(v5:Int)(v6:Int):(Int×Int×Int)->TN ((Int×Int×Int) ⊕(TP ⊕(Int×Int))):=fun(v2,v0,v1) =>
br (decide (v1<(l1.length:Int))) (
ob (α:=(TP) ⊕(Int×Int)) (
ob (α:=(TP) ⊕(Bool×Bool)) (
bH (CP n v1 l1 l2 v5 v6) n (true,false,-1)) fun r0=>match r0 with
| .inl _ =>
some (.inl ())
| .inr (v3,v7) =>
ob (
br (v3) (
some (S6 (v2+1))) (
some v2)) fun v4 =>
ob (
br (v3) (
some (decide (v0<0))) (
br (v7) (
some (decide (v0<0))) (
some false))) fun v8 =>
br (v8) (
some (.inr (v4,v1))) (
some (.inr (v4,v0)))) fun r1=>match r1 with
| .inl _ =>
some (.inr (.inl ()))
| .inr (v9,v10) =>
some (.inl (v9,v10,S6 (v1+1)))) (
some (.inr (.inr (v2,v0))))
def Cw(n:Nat)(l3:SQ)(l4:SO)(l5:SQ)(l6:SO)(l7:SQ)(l8:SO):(Int×Int×Int)->TN ((Int×Int×Int)⊕TP⊕TP):=fun(v1,v2,v0) =>
br (decide (v0<3)) (
ob (α:=(TP)⊕TP) (
gd (ck v0 3) (
ob ([(l3,l4),(l5,l6),(l7,l8)][v0.toNat]?) fun(l1,l2) =>
ob (J9 n l1 l2 v1 v2) fun(r0,r1) =>
br (!decide (r1=0)) (
some (.inl ())) (
ob (α:=(TP) ⊕(Int×Int)) (
bH (CY n l2 l1 v1 v2) n (0,-1,0)) fun r3=>match r3 with
| .inl _ =>
some (.inr ())
| .inr (v3,v4) =>
ob (
br (decide (1<v3)) (
some true) (
some (!decide (r0=v4)))) fun v5 =>
br (v5) (
some (.inr ())) (
some (.inl ()))))) fun r4=>match r4 with
| .inl _ =>
some (.inl (v1,v2,S6 (v0+1)))
| .inr _ =>
some (.inr (.inl ()))) (
some (.inr (.inr ())))
def F5(n:Nat)(x1:Nat)(x2:Nat)(l1:TO (Nat))(l2:TO (Nat))(x3:Bool)(x4:Nat)(x10:Nat)(x11:Nat)(x12:Int)(x13:Int)(x14:Int)(x15:Nat)(x16:Nat)(x17:Nat)(x18:Int)(x19:Int)(x20:Int)(x21:Nat)(x22:Nat):TN Bool :=
ob (F6 n) fun r0 =>
br (!r0) (
some false) (
ob (F7 n x1 x2 l1 l2 x3 x4 x10 x11 x12 x13 x14 x15 x16 x17 x18 x19 x20) fun(l3,l4,l5,l6,l7,l8) =>
ob (α:=(TP)⊕TP) (
bH (Cw n l3 l4 l5 l6 l7 l8) n (S6 ((S6 ((x21%24:Nat):Int))-1),S6 ((S6 ((x22%20:Nat):Int))-1),0)) fun r1=>match r1 with
| .inl _ =>
some false
| .inr _ =>
some true)
end
end Go.Proofs.Ytmndpgfbkicndaa
namespace Go.Ab.W
open Go Go.Ab
section
variable{P:S0}{ty:SY}
def Is(P:S0)(ty u:SY)(k:IntKind):Bool:=match P.underlying ty with
 | some (.struct fs) => !(P.stoodInHeld ty || fs.any (·.name == "_")) && (fs.toList.map (fun f => (f.type, f.offset)) == [(u, 0), (u, 1), (u, 2), (u, 3)]) && known P u && (match P.underlying u with | some (.int k') => k' == k | _ => false)
 | _=>false
def Dq {u : SY} {k : IntKind} (h : Is P ty u k = true) : ∃ fs, P.underlying ty = some (.struct fs) /\ (P.stoodInHeld ty || fs.any (·.name == "_")) = false /\ fs.toList.map (fun f => (f.type, f.offset)) = [(u, 0), (u, 1), (u, 2), (u, 3)] /\
  known P u=true/\P.underlying u=some (.int k):=by
 unfold Is at h
 split at h
 rename_i fs hf;simp only[QJ,RD,beq_iff_eq] at h;obtain⟨⟨⟨h1,h2⟩,h3⟩,h5⟩:=h
 split at h5
 rename_i k' e1;simp only[beq_iff_eq] at h5;subst h5;exact⟨fs,hf,h1,h2,h3,e1⟩
 cases h5
 cases h
def Nq{u:SY}{k:IntKind}(h:Is P ty u k=true)(x0 y0 x1 y1 x2 y2 x3 y3:Int) :
  jK P Op.maxDepth ty (.agg #[.int k x0,.int k x1,.int k x2,.int k x3]) (.agg #[.int k y0,.int k y1,.int k y2,.int k y3])=some (decide (x0=y0)&&decide (x1=y1)&&decide (x2=y2)&&decide (x3=y3)):=by
 obtain⟨fs,hf,h1,h2,h3,h5⟩:=Dq h;have a1:dD P u=false:=by simp only[dD,h5]
 have p0:∀x y z w:SX,cX P u #[x,y,z,w] 0=some x:=fun x y z w=>by simp only[cX,h3,a1]; rfl
 have p1:∀x y z w:SX,cX P u #[x,y,z,w] 1=some y:=fun x y z w=>by simp only[cX,h3,a1]; rfl
 have p2:∀x y z w:SX,cX P u #[x,y,z,w] 2=some z:=fun x y z w=>by simp only[cX,h3,a1]; rfl
 have p3:∀x y z w:SX,cX P u #[x,y,z,w] 3=some w:=fun x y z w=>by simp only[cX,h3,a1]; rfl
 show jK P (9999+1) ty _ _=_
 unfold jK;simp only[hf,h1,Q8,if_false,h2];rw[mE (p0 _ _ _ _) (p0 _ _ _ _) (tX h5 9998 x0 y0) (mE (p1 _ _ _ _) (p1 _ _ _ _) (tX h5 9998 x1 y1) (mE (p2 _ _ _ _) (p2 _ _ _ _) (tX h5 9998 x2 y2) (mE (p3 _ _ _ _) (p3 _ _ _ _) (tX h5 9998 x3 y3) rfl)))];simp only[Bool.and_true,Bool.and_assoc]
end
section
variable{E:Env}{m0:TS}{fs:Fs}{ps:TO Pc}{x:SZ}{ty:SY}
def jb{a:Addr}(h:ev E fs x=some (.pointer (some a))):Od E m0 fs ps (.nilCheck x) (.pointer (some a)) ps:=.pure (fun _=>rfl) fun t m hf K=>by
 show eo (match an E t x with
  | some (.pointer (some a))=>some (.pointer (some a),m)
  | some (.func (.func f) a b)=>some (.func (.func f) a b,m)
  | some (.func (.yield f) a b)=>some (.func (.yield f) a b,m)
  | _=>none) K=_
 rw[hf.ev h]; rfl
end
set_option maxRecDepth 10000
attribute [local irreducible] Tm.at Trie.set Trie.get TS.get TS.set TS.alloc TS.ww
section
variable{E:Env}{n:Nat}{m0:TS}{fs:Fs}{ps:TO Pc}{x y z:SZ}{v:SX}{ty ty2:SY}
def JD{elem lo hi mx b o len cap w k:Nat}{cs:TO SX}{lx hx:TN SZ}{l h:TN SX}(ht:SlT E.P ty elem w)(hv:ev E fs x=some (.slice (some ⟨b,o,none⟩) len cap))(e1:iY E fs lx=some l)(e2:iY E fs hx=some h)
  (hp:pk ps k=some (.obj b (.cells cs (.more w)))) (hb:bK len cap l h none=some (lo,hi,mx)) :
  Od E m0 fs ps (.slice ty x lx hx none) (if cap=lo then fU b else .slice (some ⟨b,o+lo*w,none⟩) (hi-lo) (cap-lo)) ps :=
 fun t m hf hm=>⟨fun b' hb'=>by
  have:dx (.slice (some ⟨b,o,none⟩) len cap)=some b:=rfl;simp only[aK,hf.ev hv,Q9,this] at hb';cases hb'; exact(hm.get hp).2.1,fun K hK=>by
  have hg:=(hm.get hp).2.2;have hs:bP E.P ty (.slice (some ⟨b,o,none⟩) len cap) l h none m=some (if cap=lo then fU b else .slice (some ⟨b,o+lo*w,none⟩) (hi-lo) (cap-lo)):=by
   have hne:¬w≠w:=fun h=>h rfl;simp only[bP,ht.und,ht.known,if_true,hg,hb,ht.size,QF hne]
   split<;>rfl
  rw[Go.Ab.mC (hf.ev hv) (hf.iY e1) (hf.iY e2) (show dF E t none=some none from rfl) hs]; exact hK m hm⟩
def JN{elem lo hi mx b o len cap w k:Nat}{cs:TO SX}{lx hx:TN SZ}{kx:SZ}{l h:TN SX}{q:SX}(ht:SlT E.P ty elem w)(hv:ev E fs x=some (.slice (some ⟨b,o,none⟩) len cap))(e1:iY E fs lx=some l)(e2:iY E fs hx=some h)(e3:iY E fs (some kx)=some (some q))
  (hp:pk ps k=some (.obj b (.cells cs (.more w)))) (hb:bK len cap l h (some q)=some (lo,hi,mx)) :
  Od E m0 fs ps (.slice ty x lx hx (some kx)) (if mx=lo/\hi=lo then .slice (some ⟨b,0,some 1⟩) 0 0 else .complex .f64 0 0) ps :=
 fun t m hf hm=>⟨fun b' hb'=>by
  have:dx (.slice (some ⟨b,o,none⟩) len cap)=some b:=rfl;simp only[aK,hf.ev hv,Q9,this] at hb';cases hb'; exact(hm.get hp).2.1,fun K hK=>by
  have hg:=(hm.get hp).2.2;have hs:bP E.P ty (.slice (some ⟨b,o,none⟩) len cap) l h (some q) m=some (if mx=lo/\hi=lo then .slice (some ⟨b,0,some 1⟩) 0 0 else .complex .f64 0 0):=by
   have hne:¬w≠w:=fun h=>h rfl;simp only[bP,ht.und,ht.known,if_true,hg,hb,ht.size,QF hne]
   split<;>rfl
  rw[Go.Ab.mC (hf.ev hv) (hf.iY e1) (hf.iY e2) (hf.iY e3) hs]; exact hK m hm⟩
def N3{elem w b o len cap l1 c0 k:Nat}{tg:Tag}{a0:SU}{cs new:TO SX}{ars:TW SZ}(ht:SlT E.P ty elem w)(h0:∃e2,E.P.underlying ty2=some (.slice e2))(ha:fX E fs ars.toList=some [.slice (some ⟨b,o,none⟩) len cap,.slice a0 l1 c0])(hp:pk ps k=some (.obj b (.cells cs tg)))(htg:qj tg=true)
  (hs:∀m,Hp m0 m ps->cN w (.slice a0 l1 c0) l1 m=some new) (hnl:new.length=l1*w) (ho:aV new=true) (hlim:lim (len+l1)=true) (hfit:len+l1<=cap) (hl:o+len*w+new.length<=cs.length) :
  Od E m0 fs ps (.call ⟨.builtin .append,ars,#[ty,ty2]⟩) (.slice (some ⟨b,o,none⟩) (len+l1) cap) (bI ps k (.obj b (.cells (ay cs (o+len*w) new) tg))) :=
 fun t m hf hm=>⟨fun b' hb'=>by simp[aK] at hb',fun K hK=>by
  have hg:=(hm.get hp).2.2;obtain⟨e2,h0⟩:=h0;obtain⟨inf,h1,h2,h3⟩:=ht.bytes;have hlim':len+l1<=1073741824:=RH hlim;have hfc:dv inf.bytes (len+l1)=true:=by
   simp only[dv,QR]
   calc (2*(len+l1)+2000)*inf.bytes<=(2*1073741824+2000)*1024:=SH (by omega) h3
    _<=2 ^ 48:=by decide
  have hguard:(!(known E.P elem)||aB E.P elem==0 || !aV new || !(E.P.info? elem).any (fun i=>dv i.bytes (len+l1)&&i.bytes != 0)||new.length != l1*aB E.P elem || !(bj E.P elem).any (fun z=>z.cells.size==aB E.P elem&&z.cells.toList.all aP))=false:=by
   have hz:=ht.zero;have hp:=ht.pos;rw[ht.size];simp only[ht.known,ho,h1,Option.any_some,hfc,hz,hnl];simp[h2]; omega
  have hnc:eA E.P elem (some ty2) (.slice a0 l1 c0) m=some (l1,new):=by
   simp only[eA,Q9,h0,ht.size,hs m hm,QZ]
  by_cases hnil:new=[]
  subst hnil;have hsp:ay cs (o+len*w) []=cs:=by
   apply RG;intro i;rw[aL,QF (by simp; omega)]
  have:aZ E.P .append #[ty,ty2] [.slice (some ⟨b,o,none⟩) len cap,.slice a0 l1 c0] m=some (.slice (some ⟨b,o,none⟩) (len+l1) cap,m):=by
   show cq E.P ty (some ty2) _ _ m=_
   unfold cq;simp only[ht.und,hnc,hguard,Q8,if_false,hg,QH hfit,TS.cM,QZ]
  rw[Go.Ab.dc (hf.fX ha) this];refine hK _ ?_;rw[hsp];have e:bI ps k (.obj b (.cells cs tg))=ps:=pF _ _ _ hp;rw[e]; exact hm
  ·have hst:m.cM b (o+len*w) new=some (m.set b (.cells (ay cs (o+len*w) new) tg)):=by
    cases new with
    | nil=>exact Q1 rfl hnil
    | cons a' new =>
     cases tg with
     | ro=>cases htg
     | own=>simp only[TS.cM,hg,QH hl]
     | more s=>simp only[TS.cM,hg,QH hl]
   have h4:m.cM b (o+len*aB E.P elem) new=some (m.set b (.cells (ay cs (o+len*w) new) tg)):=by rw[ht.size]; exact hst
   have:aZ E.P .append #[ty,ty2] [.slice (some ⟨b,o,none⟩) len cap,.slice a0 l1 c0] m=some (.slice (some ⟨b,o,none⟩) (len+l1) cap,m.set b (.cells (ay cs (o+len*w) new) tg)):=by
    show cq E.P ty (some ty2) _ _ m=_
    unfold cq;simp only[ht.und,hnc,hguard,Q8,if_false,hg,QH hfit,h4,QZ]
   rw[Go.Ab.dc (hf.fX ha) this];exact hK _ (hm.write hp rfl rfl rfl rfl ⟨(hm.get hp).1,by rw[TS.next_set]; exact(hm.get hp).2.1,by rw[TS.bl,QH rfl]⟩)⟩
def G0{elem lo hi mx b o len cap w k:Nat}{cs:TO SX}{tg:Tag}{lx hx:TN SZ}{l h:TN SX}(ht:SlT E.P ty elem w)(hv:ev E fs x=some (.slice (some ⟨b,o,none⟩) len cap))(e1:iY E fs lx=some l)(e2:iY E fs hx=some h)
  (hp:pk ps k=some (.obj b (.cells cs tg))) (htg:tg=.own\/tg=.more w) (hb:bK len cap l h none=some (lo,hi,mx)) (hmx:mx=cap) (hlo:cap≠lo) :
  Od E m0 fs ps (.slice ty x lx hx none) (.slice (some ⟨b,o+lo*w,none⟩) (hi-lo) (cap-lo)) ps:=by
 rcases htg with rfl|rfl
 subst hmx;exact Bl ht hv e1 e2 (show iY E fs none=some none from rfl) hp rfl hb (by rw[QF hlo])
 have:=JD (m0:=m0) ht hv e1 e2 hp hb;rwa[QF hlo] at this
def Nd{elem lo hi mx b o len cap w k:Nat}{cs:TO SX}{tg:Tag}{lx hx:TN SZ}{kx:SZ}{l h:TN SX}{q:SX}(ht:SlT E.P ty elem w)(hv:ev E fs x=some (.slice (some ⟨b,o,none⟩) len cap))(e1:iY E fs lx=some l)(e2:iY E fs hx=some h)(e3:iY E fs (some kx)=some (some q))
  (hp:pk ps k=some (.obj b (.cells cs tg))) (htg:tg=.own\/tg=.more w) (hb:bK len cap l h (some q)=some (lo,hi,mx)) :
  Ox E m0 fs ps (.slice ty x lx hx (some kx)) (fun v:SX=>v) (fun _=>ps):=by
 rcases htg with rfl|rfl
 exact fun t m hf hm=>⟨(Bl (m0:=m0) ht hv e1 e2 e3 hp rfl hb rfl t m hf hm).1,fun K hK=>(Bl (m0:=m0) ht hv e1 e2 e3 hp rfl hb rfl t m hf hm).2 K (hK _)⟩
 exact fun t m hf hm=>⟨(JN (m0:=m0) ht hv e1 e2 e3 hp hb t m hf hm).1,fun K hK=>(JN (m0:=m0) ht hv e1 e2 e3 hp hb t m hf hm).2 K (hK _)⟩
def Np{elem b w k j nn:Nat}{cs:TO SX}{tg:Tag}{lx:TN SZ}{l:TN SX}(ht:SlT E.P ty elem w)(hv:ev E fs x=some (.slice (some ⟨b,0,none⟩) nn nn))(e1:iY E fs lx=some l)
  (hp:pk ps k=some (.obj b (.cells cs tg))) (htg:tg=.own\/tg=.more w) (hj:j<=nn) (hb:bK nn nn l none none=some (j,nn,nn)) (hcl:nn*w<=cs.length) :
  Ox E m0 fs ps (.slice ty x lx none none) (fun A:{ A:Addr // ∀m,Hp m0 m ps->cN w (.slice (some A) (nn-j) (nn-j)) (nn-j) m=some ((cs.drop (j*w)).take ((nn-j)*w))}=>.slice (some A.1) (nn-j) (nn-j)) (fun _=>ps):=by
 by_cases h:nn=j
 subst h;have h0:∀A m,cN w (.slice (some A) (nn-nn) (nn-nn)) (nn-nn) m=some ((cs.drop (nn*w)).take ((nn-nn)*w)):=fun A m=>by
  obtain⟨ab,ao,ax⟩:=A;cases ax<;>simp[cN]
 rcases htg with rfl|rfl
 have h1:=Bl (m0:=m0) ht hv e1 (show iY E fs none=some none from rfl) (show iY E fs none=some none from rfl) hp rfl hb rfl
 rw[QH rfl] at h1;exact fun t m hf hm=>⟨(h1 t m hf hm).1,fun K hK=>(h1 t m hf hm).2 K (hK ⟨_,fun m' _=>h0 _ m'⟩)⟩
 have h1:=JD (m0:=m0) ht hv e1 (show iY E fs none=some none from rfl) hp hb
 rw[QH rfl] at h1;have h2:fU b=.slice (some ⟨b,0,some 0⟩) (nn-nn) (nn-nn):=by rw[SN]; rfl
 rw[h2] at h1;exact fun t m hf hm=>⟨(h1 t m hf hm).1,fun K hK=>(h1 t m hf hm).2 K (hK ⟨_,fun m' _=>h0 _ m'⟩)⟩
 have h1:=G0 (m0:=m0) ht hv e1 (show iY E fs none=some none from rfl) hp htg hb rfl h
 exact fun t m hf hm=>⟨(h1 t m hf hm).1,fun K hK=>(h1 t m hf hm).2 K (hK ⟨_,fun m' hm'=>by
  have:=I6 (b:=b) (o:=0+j*w) (l:=nn-j) (c:=nn-j) (w:=w) (q:=nn-j) (k:=k) hm' hp (by omega) (by
   have:j*w+(nn-j)*w=nn*w:=by rw[<-Sm]; congr 1; omega
   omega)
  rw[this,Ra]⟩)⟩
end
end Go.Ab.W
namespace Go.Proofs.Ytmndpgfbkicndaa
open Go Go.Ab Go.Ab.W
set_option maxRecDepth 10000
set_option maxHeartbeats 4000000
attribute [local irreducible] Tm.at Trie.set Trie.get TS.get TS.set TS.alloc TS.ww TS.kill
variable{p q:TN Prim}
def bA(k:IntKind){x y:Nat}(h:x<=y):iX (.int k (x:Int)) y=some x:=by
 simp only[iX]; rw[QH ⟨by omega,by omega⟩,Rb]
def PY{len cap lo hi mx:Nat}{k1 k2 k3:IntKind}(h1:lo<=hi)(h2:hi<=mx)(h3:mx<=cap):bK len cap (some (.int k1 (lo:Int))) (some (.int k2 (hi:Int))) (some (.int k3 (mx:Int)))=some (lo,hi,mx):=by
 unfold bK; simp only[bA _ h3,bA _ h2,bA _ h1]
def Po{len cap hi:Nat}{k2:IntKind}(h2:hi<=cap):bK len cap none (some (.int k2 (hi:Int))) none=some (0,hi,cap):=by
 unfold bK; simp only[bA _ h2]
def PJ{len cap lo:Nat}{k1:IntKind}(h1:lo<=len):bK len cap (some (.int k1 (lo:Int))) none none=some (lo,len,cap):=by
 unfold bK; simp only[bA _ h1]
def OM{len cap lo hi:Nat}{k1 k2:IntKind}(h1:lo<=hi)(h2:hi<=cap):bK len cap (some (.int k1 (lo:Int))) (some (.int k2 (hi:Int))) none=some (lo,hi,cap):=by
 unfold bK; simp only[bA _ h2,bA _ h1]
def L3{a b:Nat}(h:lim a=true)(hb:b<=a):lim b=true:=Nat.ble_eq_true_of_le (Rc hb (RH h))
def zi{l l':TO SX}(h:aV l=true)(hs:∀v∈l',v∈l):aV l'=true:=QS.2 fun v hv=>QS.1 h v (hs v hv)
def yb{cs new zs:TO SX}{p q:Nat}(hq:q=p+new.length)(hl:q<=cs.length):(ay (ay cs p new) q zs).take q=cs.take p++new:=by
 apply RG;intro k;have hp:(cs.take p).length=p:=by rw[QX]; omega
 rw[RK]
 split
 rw[aL,S8,aL]
 by_cases hk:k<p
 rw[S8,Rp (by rw[hp]; exact hk),RK,QH hk]
 rw[QH ⟨by omega,by omega,by omega⟩,Rk (by rw[hp]; omega),hp]
 rw[RC (by rw[QV,hp]; omega)]
def PE{n:Nat}:ff (TV p q).P 54 n=some (bf [.slice none 0 0,.slice none 0 0] n):=by
 have:bj (TV p q).P 54=some (.agg #[.slice none 0 0,.slice none 0 0]):=by kernel_rfl
 have hs:aB (TV p q).P 54=2:=by kernel_rfl
 simp only[ff,this,hs]; rfl
def DK{m0 m:TS}{rest:TO Pc}{b n i j:Nat}{cs:TO SX}{tg:Tag}(htg:tg=.own\/tg=.more 2)(hm:Hp m0 m (.obj b (.cells cs tg)::rest))(hcl:cs.length=n*2)(hone:aV cs=true)(hij:i<j)(hjn:j<=n)(hlim:lim n=true) :
  aI (TV p q) 45 [.slice (some ⟨b,0,none⟩) n n,.int .i64 (i:Int),.int .i64 (j:Int)] m fun v m'=>v=.slice (some ⟨b,0,none⟩) (n-(j-i)) n /\
   ∃cs',Hp m0 m' (.obj b (.cells cs' tg)::rest)/\cs'.length=cs.length/\cs'.take ((n-(j-i))*2)=cs.take (i*2)++(cs.drop (j*2)).take ((n-j)*2):=by
 have hro:qj tg=true:=by rcases htg with rfl|rfl<;>rfl
 refine aQ (m0:=m0) (ps:=.obj b (.cells cs tg)::rest) (N:=33) (rs:=[.tmp 6]) rfl Try.func45 rfl rfl rfl hm ?_;refine Td ?_;refine Te ?_;refine Tc (bC rfl) rfl ?_;refine Tk ?_;refine Tl ?_;refine Td ?_;refine Te ?_;refine Tc (aS rfl) rfl ?_;refine Tc (aS rfl) rfl ?_;refine Tc (aS rfl) rfl ?_;refine Tc (aS rfl) rfl ?_;refine Tc (nX (k:=0) u32 rfl rfl (.inl rfl)) rfl ?_;refine Ts (Nd (k:=0) jd rfl rfl rfl rfl rfl htg (PY (Nat.le_of_lt hij) hjn (QK n))) gn rfl fun _=>?_;refine Tk ?_;refine Tl ?_;refine Td ?_;refine Td ?_;refine Te ?_;refine Tc (aS rfl) rfl ?_;refine Tc (aS rfl) rfl ?_;refine Tc (aJ rfl rfl (EI _ _)) rfl ?_;refine Tk ?_;refine Tl ?_;refine TC rfl (QO (Nat.ne_of_lt hij)) ?_;refine TA ?_;refine Tl ?_;refine Td ?_;refine Te ?_;refine Tc (aS rfl) rfl ?_;refine Tc (nX (k:=0) u32 rfl rfl (.inl rfl)) rfl ?_;refine Tc (bC rfl) rfl ?_;refine Tk ?_;refine Tl ?_;refine Td ?_;refine Wk.draw (by kernel_rfl) ?_
 refine Tc (aS rfl) rfl ?_;refine Tc (aS rfl) rfl ?_;refine Tc (G0 (k:=0) jd rfl rfl rfl rfl htg (Po (by omega)) rfl (by omega)) rfl ?_
 refine Tc (aS rfl) rfl ?_;refine Tc (aS rfl) rfl ?_;refine Ts (Np (k:=0) jd rfl rfl rfl htg hjn (PJ hjn) (by omega)) gn rfl fun A=>?_
 have hnl:((cs.drop (j*2)).take ((n-j)*2)).length=(n-j)*2:=by simp; omega
 have ho1:aV ((cs.drop (j*2)).take ((n-j)*2))=true:=zi hone fun v hv=>R4 (R3 hv);refine Tc (N3 (k:=0) jd ⟨_,u32⟩ rfl rfl hro A.2 hnl ho1 (L3 hlim (by omega)) (by omega) (by rw[hnl]; omega)) rfl ?_
 refine Tc (bC rfl) rfl ?_;refine Tk ?_;refine Tl ?_;refine Td ?_;refine Te ?_;refine Tc (aS rfl) rfl ?_;refine Tc (aS rfl) rfl ?_;refine Tc (nX (k:=0) u32 rfl rfl (.inl rfl)) rfl ?_;refine Tc (aS rfl) rfl ?_;refine Tc (G0 (k:=0) jd rfl rfl rfl rfl htg (OM (by omega) (by omega)) rfl (by omega)) rfl ?_
 refine Tz (NP (k:=0) (zs:=bf [.slice none 0 0,.slice none 0 0] (n-(i-0+(n-j)))) jd rfl rfl hro (by omega) PE (dV (by decide) _) (by intro e; have:=Rf List.length e; rw[bE] at this; simp at this; omega) (by rw[bE,aW]; simp; omega)) ?_
 refine Tk ?_;refine Tl ?_;refine Td ?_;refine Te ?_;refine Tc (aS rfl) rfl ?_;refine Tc (bC rfl) rfl ?_;refine Tk ?_;refine Tl ?_;refine TF ?_;refine Tt (.tmp rfl .nil) fun m' hm'=>⟨?_,_,hm',?_,?_⟩
 rw[show i-0+(n-j)=n-(j-i) by omega,Sd]; rfl
 rw[aW,aW]
 rw[show(n-(j-i))*2=0+(i-0+(n-j))*2 by omega]
 rw[yb (by rw[hnl]; omega) (by omega),Ra,Sd]
end Go.Proofs.Ytmndpgfbkicndaa
namespace Go.Ab.W
open Go Go.Ab
attribute [local irreducible] Tm.at Trie.set Trie.get TS.get TS.set TS.alloc TS.ww TS.kill
section
variable{α:Type}{r:Rep α}{o:Orp r}{E:Env}{n:Nat}{m0 m:TS}{fs:Fs}{ps:TO Pc}{dr:Bool}{ops:TW Oper}{K:Tm->TS->Prop}{os:TO Oper}{prs:TO (Nat×Nat)}{ss:TO Nk}{ty:SY}
def aa.B4:aa m0 ps (.gen (cL o (fun _=>False) [] [])::ps):=fun _ hm=>hm.B4
def Wo.tR{x:α}{g:o.G}{qs:TO Pc}(hq:o.N x g++ps=qs)(k:∀S,Wo dr E n ops K os m0 fs (.gen (cL o S [x] [o.V x g])::ps)):Wo dr E n ops K os m0 fs qs :=
 Wo.oY (N:=fun S=>.gen (cL o S [x] [o.V x g])::ps) (fun m hm=>⟨_,Hp.tR (by rw[hq]; exact hm)⟩) k
def Wn.tR{x:α}{g:o.G}{qs:TO Pc}(hq:o.N x g++ps=qs)(k:∀S,Wn E n ops prs K os ss m0 fs (.gen (cL o S [x] [o.V x g])::ps)):Wn E n ops prs K os ss m0 fs qs :=
 Wn.oY (N:=fun S=>.gen (cL o S [x] [o.V x g])::ps) (fun m hm=>⟨_,Hp.tR (by rw[hq]; exact hm)⟩) k
def s7{elem ty2:SY}{w c0 l l1:Nat}{a a0:SU}{S S':SV}{L L':TO α}{es es':SS}{ars:TW SZ}{p0:Pc}(ht:SlT E.P ty elem w)(h3:∃e2,E.P.underlying ty2=some (.slice e2))(ha:fX E fs ars.toList=some [.slice a l l,.slice a0 l1 c0])(hr:IsRd p0 a0 c0 w l1 es')(hw:r.w=w)(hl:lim (L++L').length=true) :
  Ox E m0 fs (.gen (cL o S L es)::.gen (cL o S' L' es')::.sl a w l es::p0::ps) (.call ⟨.builtin .append,ars,#[ty,ty2]⟩) (fun y:SU ×(Nat->Prop)=>.slice y.1 (L++L').length (L++L').length)
   (fun y=>.gen (cL o y.2 (L++L') (es++es'))::.sl y.1 w (L++L').length (es++es')::p0::ps):=fun t m hf hm=>⟨fun b hb=>(by simp[aK] at hb),fun K hK=>by
 have e1:l=L.length:=by rw[Pc.rz (hm.get (k:=2) rfl),sH hm (q:=0) rfl]
 have e2:l1=L'.length:=by rw[<-(hm.rd (k:=3) rfl hr).1,sH hm (q:=1) rfl]
 have e0:l+l1=(L++L').length:=by rw[e1,e2,QV]
 obtain⟨⟨qs,h0,_⟩,_⟩:=(hm.get (k:=1) rfl).1;obtain⟨S'',h1⟩:=hm.Gv;obtain⟨a',m',h4,h2⟩:=pS (n:=l) (k:=1) ht h3 h1 rfl (h1.rd (k:=2) rfl hr) (fun e he=>by rw[<-hw]; exact(h0.cells e he).1) (fun e he=>(h0.cells e he).2) (by rw[e0]; exact hl)
 have:aZ E.P .append #[ty,ty2] [.slice a l l,.slice a0 l1 c0] m=some (.slice a' (l+l1) (l+l1),m'):=h4;rw[Go.Ab.dc (hf.fX ha) this];rw[e0] at h2 ⊢;exact hK (a',S'') m' h2⟩
end
def gN{γ:Type}{l:TO γ}{j:Nat}{e:γ}(h:l[j]? = some e):l.set j e=l:=by
 apply RG;intro i;rw[List.getElem?_set]
 split
 rename_i hij; subst hij;rw[QH (QU.1 h).1,h]
 rfl
def cP{γ:Type}{l:TO γ}{j:Nat}{e e':γ}(h:l[j]? = some e):(l.set j e')[j]? = some e':=by
 rw[List.getElem?_set,QH rfl,QH (QU.1 h).1]
section
variable{α β:Type}{r:Rep α}{o:Orp r}{E:Env}{n:Nat}{m0 m:TS}{fs:Fs}{ps qs:TO Pc}{dr:Bool}{ops:TW Oper}{K:Tm->TS->Prop}{os:TO Oper}{prs:TO (Nat×Nat)}{ss:TO Nk}{ty:SY}{Q:TT->Tm->TS->Prop}
def aa.lj{k b w l:Nat}{es es':SS}{tg:Tag}(hp:pk ps k=some (.arr b w l es tg))(h:es=es'):aa m0 ps (bI ps k (.arr b w l es' tg)):=fun m hm=>by
 subst h; rw[pF _ _ _ hp]; exact hm
def At.oY{e:TT}{β:Type}{N:β->TO Pc}(h:∀m,Hp m0 m ps->∃y,Hp m0 m (N y))(k:∀y,At Q e m0 fs (N y)):At Q e m0 fs ps:=fun t m hf hm=>by
 obtain⟨y,hy⟩:=h m hm; exact k y t m hf hy
def yd{S:SV}{L:TO α}{es:SS}{j:Nat}{x:α}(hl:L[j]? = some x):∀m,Hp m0 m (.gen (cL o S L es)::ps) ->
  ∃z:{ z:o.G ×(Nat->Prop) ×(Nat->Prop) // es[j]? = some (o.V x z.1)},Hp m0 m (o.N x z.1.1++(.gen (cL o z.1.2.1 (L.take j) (es.take j))::.gen (cL o z.1.2.2 (L.drop (j+1)) (es.drop (j+1)))::ps)):=fun m hm=>by
 obtain⟨g,S1,S2,he,h⟩:=hm.HM hl;exact⟨⟨(g,S1,S2),he⟩,h⟩
def Wo.Bo{S:SV}{L:TO α}{es:SS}{j:Nat}{x:α}{N:o.G->(Nat->Prop)->(Nat->Prop)->TO Pc}(hl:L[j]? = some x)(hN:∀g S1 S2,N g S1 S2=o.N x g++(.gen (cL o S1 (L.take j) (es.take j))::.gen (cL o S2 (L.drop (j+1)) (es.drop (j+1)))::ps))(k:∀g S1 S2,es[j]? = some (o.V x g)->Wo dr E n ops K os m0 fs (N g S1 S2)) :
  Wo dr E n ops K os m0 fs (.gen (cL o S L es)::ps):=Wo.oY (yd hl) fun z=>by rw[<-hN]; exact k _ _ _ z.2
def Wn.Bo{S:SV}{L:TO α}{es:SS}{j:Nat}{x:α}{N:o.G->(Nat->Prop)->(Nat->Prop)->TO Pc}(hl:L[j]? = some x)(hN:∀g S1 S2,N g S1 S2=o.N x g++(.gen (cL o S1 (L.take j) (es.take j))::.gen (cL o S2 (L.drop (j+1)) (es.drop (j+1)))::ps))(k:∀g S1 S2,es[j]? = some (o.V x g)->Wn E n ops prs K os ss m0 fs (N g S1 S2)) :
  Wn E n ops prs K os ss m0 fs (.gen (cL o S L es)::ps):=Wn.oY (yd hl) fun z=>by rw[<-hN]; exact k _ _ _ z.2
def yZ{S1 S2:SV}{L:TO α}{es:SS}{j:Nat}{x:α}{g:o.G}(hl:L[j]? = some x)(he:es[j]? = some (o.V x g))(hq:o.N x g++(.gen (cL o S1 (L.take j) (es.take j))::.gen (cL o S2 (L.drop (j+1)) (es.drop (j+1)))::ps)=qs):∀m,Hp m0 m qs->∃S,Hp m0 m (.gen (cL o S L es)::ps):=fun m hm=>by
 rw[<-hq] at hm;obtain⟨S,h⟩:=hm.CX hl he;rw[gN hl,gN he] at h;exact⟨S,h⟩
def Wo.G2{S1 S2:SV}{L:TO α}{es:SS}{j:Nat}{x:α}{g:o.G}(hl:L[j]? = some x)(he:es[j]? = some (o.V x g))(hq:o.N x g++(.gen (cL o S1 (L.take j) (es.take j))::.gen (cL o S2 (L.drop (j+1)) (es.drop (j+1)))::ps)=qs)(k:∀S,Wo dr E n ops K os m0 fs (.gen (cL o S L es)::ps)):Wo dr E n ops K os m0 fs qs:=Wo.oY (yZ hl he hq) k
def Wn.G2{S1 S2:SV}{L:TO α}{es:SS}{j:Nat}{x:α}{g:o.G}(hl:L[j]? = some x)(he:es[j]? = some (o.V x g))(hq:o.N x g++(.gen (cL o S1 (L.take j) (es.take j))::.gen (cL o S2 (L.drop (j+1)) (es.drop (j+1)))::ps)=qs)(k:∀S,Wn E n ops prs K os ss m0 fs (.gen (cL o S L es)::ps)):Wn E n ops prs K os ss m0 fs qs:=Wn.oY (yZ hl he hq) k
def aa.gQ{S:SV}{L:TO α}{es:SS}:aa m0 (.gen (cL o S L es)::ps) (.gen (cd r S L es)::ps):=fun _ hm=>hm.sv
def Gm{S1 S2 S:SV}{L:TO α}{es:SS}{j:Nat}{x y:α}{e:TO SX}{g:r.G}(hl:L[j]? = some x)(he:es[j]? = some e)(hf:Lf m0 ps r y g S):∀m,Hp m0 m (.gen (cL o S1 (L.take j) (es.take j))::.gen (cL o S2 (L.drop (j+1)) (es.drop (j+1)))::ps)->∃R,Hp m0 m (.gen (cd r R (L.set j y) (es.set j (r.V y g)))::ps):=fun m hm=>by
 have h1:=hm.sv;have h2:Hp m0 m (.gen (cL o S2 (L.drop (j+1)) (es.drop (j+1)))::.gen (cd r S1 (L.take j) (es.take j))::ps):=h1.perm (List.Perm.swap _ _ _);have h3:=h2.sv;have h0:Hp m0 m ps:=by
  have:=h3.ok;exact⟨h3.ext,fun p hp=>h3.ok p (QQ _ (QQ _ hp)),(Q2.1 (Q2.1 h3.apart).2).2⟩
 obtain⟨a1,a2⟩:=hf m h0;have h4:gT m0 (.gen (cd r S2 (L.drop (j+1)) (es.drop (j+1)))::.gen (cd r S1 (L.take j) (es.take j))::ps) r [y] [r.V y g] (fun b=>S b\/False):=fun m' hm'=>by
  have h5:Hp m0 m' ps:=⟨hm'.ext,fun p hp=>hm'.ok p (QQ _ (QQ _ hp)),(Q2.1 (Q2.1 hm'.apart).2).2⟩;obtain⟨b1,b2⟩:=hf m' h5;refine⟨.cons (r.mono b1 fun _ h=>.inl h) .nil,fun b hb=>?_⟩;obtain⟨q,hq,h⟩:=b2 b (hb.elim id False.elim);exact⟨q,QQ _ (QQ _ hq),h⟩
 have h6:=aa.dp h4 m h3;have h7:=aa.Bn (m0:=m0) (q:=0) (q2:=1) rfl rfl m h6;have h8:=aa.Bn (m0:=m0) (q:=2) (q2:=0) rfl rfl m h7;have h9:Hp m0 m (.gen (cd r (fun b=>S1 b\/((S b\/False)\/S2 b)) (L.take j++([y]++L.drop (j+1))) (es.take j++([r.V y g]++es.drop (j+1))))::ps):=⟨h8.ext,fun p hp=>h8.ok p (QQ _ (QQ _ hp)),(Q2.1 (Q2.1 h8.apart).2).2⟩;refine⟨fun b=>S1 b\/((S b\/False)\/S2 b),?_⟩;rw[gB y (QU.1 hl).1,gB (r.V y g) (QU.1 he).1];exact h9
def At.ia{ex:TT}{S1 S2 S:SV}{L:TO α}{es:SS}{j:Nat}{x y:α}{e:TO SX}{g:r.G}(hl:L[j]? = some x)(he:es[j]? = some e){e2:TO SX}(hf:Lf m0 ps r y g S)(hV:∀m,Hp m0 m ps->r.V y g=e2)(k:∀R,At Q ex m0 fs (.gen (cd r R (L.set j y) (es.set j e2))::ps)) :
  At Q ex m0 fs (.gen (cL o S1 (L.take j) (es.take j))::.gen (cL o S2 (L.drop (j+1)) (es.drop (j+1)))::ps):=At.oY (fun m hm=>by
 obtain⟨R,hR⟩:=Gm hl he hf m hm;have h0:Hp m0 m ps:=⟨hR.ext,fun p hp=>hR.ok p (QQ _ hp),(Q2.1 hR.apart).2⟩;rw[hV m h0] at hR;exact⟨R,hR⟩) k
def Hp.N4{f:β->TO SX}{w:Nat}{r2:Rep α}{o2:Orp r2}{S:SV}{L:TO (TO β×α)}{es:SS}{k q:Nat}{x:TO β×α}(hm:Hp m0 m ps)(hq:pk ps q=some (.gen (cL (oP (oS f w) o2) S L es)))(hl:L[k]? = some x) :
  ∃a h,es[k]? = some (.slice a x.1.length x.1.length::h)/\Rd m a x.1.length w x.1.length (x.1.map f):=by
 obtain⟨⟨qs,h1,h2⟩,_⟩:=(hm.get hq).1;obtain⟨q1,q2,rfl,h3,h4⟩:=h1.split k;have hk:k<L.length:=(QU.1 hl).1;have hke:k<es.length:=by rw[h1.len]; exact hk
 have hd:L.drop k=x::L.drop (k+1):=by
  rw[List.drop_eq_getElem_cons hk];rw[QG hk] at hl;rw[QL hl]
 rw[hd,List.drop_eq_getElem_cons hke] at h4;obtain⟨g,q3,e1,rfl,h5⟩:=h4;have hmem:(.sl g.1 w x.1.length (x.1.map f):Pc)∈q1++((oP (oS f w) o2).N x g++q3):=Rs _ (Rg _ (Rg _ (QW.2 rfl)));refine⟨g.1,o2.V x.2 g.2,by rw[QG hke,e1]; rfl,?_⟩
 exact Pc.CM (p:=.sl g.1 w x.1.length (x.1.map f)) (h2.1 _ hmem).1 (.sl ..)
def Wo.MA{k q w l:Nat}{a:SU}{S:SV}{L:TO α}{es:SS}(hp:pk ps k=some (.sl a w l es))(hq:pk ps q=some (.gen (cL o S L es)))(h:l=L.length->Wo dr E n ops K os m0 fs ps):Wo dr E n ops K os m0 fs ps:=by
 have key:∀m,Hp m0 m ps->l=L.length:=fun m hm=>(Pc.rz (hm.get hp)).trans (sH hm hq);cases dr with
 | false=>exact fun t m hf hm=>h (key m hm) t m hf hm
 | true=>exact fun t m w hf hm hw=>h (key m hm) t m w hf hm hw
def Wn.MA{k q w l:Nat}{a:SU}{S:SV}{L:TO α}{es:SS}(hp:pk ps k=some (.sl a w l es))(hq:pk ps q=some (.gen (cL o S L es)))(h:l=L.length->Wn E n ops prs K os ss m0 fs ps):Wn E n ops prs K os ss m0 fs ps :=
 fun t m ns hf hm hn=>h ((Pc.rz (hm.get hp)).trans (sH hm hq)) t m ns hf hm hn
def BH:∀p ∈([]:TO Pc),p.bound=true/\∀b,p.any b->p.ow b:=fun p hp=>by cases hp
def uX{l:TO Pc}{a:SU}{w k:Nat}{es:SS}(h:∀p∈l,p.bound=true/\∀b,p.any b->p.ow b):∀p ∈(Pc.sl a w k es::l),p.bound=true/\∀b,p.any b->p.ow b:=fun p hp=>by
 rcases QY.1 hp with rfl|hp
 exact⟨rfl,fun b hb=>A5 hb⟩
 exact h p hp
def Hg{l:TO Pc}{S:SV}{L:TO α}{es:SS}(h:∀p∈l,p.bound=true/\∀b,p.any b->p.ow b):∀p ∈(Pc.gen (cL o S L es)::l),p.bound=true/\∀b,p.any b->p.ow b:=fun p hp=>by
 rcases QY.1 hp with rfl|hp
 exact⟨rfl,fun b hb=>hb.elim (fun h=>by cases h) fun h=>h.elim (fun h=>.inr h) fun h=>h.elim⟩
 exact h p hp
def Hp.od{q:Nat}{S:SV}{L:TO α}{es:SS}(hm:Hp m0 m ps)(hq:pk ps q=some (.gen (cL o S L es))):(cd r S L es).P m:=by
 obtain⟨⟨qs,h1,h2⟩,h3⟩:=(hm.get hq).1;exact⟨h1.Gy (fun p hp=>(h2.1 p hp).1) fun p hp b hb=>(h2.1 p hp).2.2.2 b ((h2.1 p hp).2.2.1 b hb),h3⟩
def Hp.q5{f:β->TO SX}{w:Nat}{r2:Rep α}{o2:Orp r2}{S1 S2:SV}{L:TO (TO β×α)}{es:SS}{j k q0 q1 q2:Nat}{z x:TO β×α}{a0:SU}{h0:TO SX}(hm:Hp m0 m ps)(hl:L[j]? = some z)(he:es[j]? = some (.slice a0 z.1.length z.1.length::h0))(hx:L[k]? = some x)
  (hq0:pk ps q0=some (.sl a0 w z.1.length (z.1.map f))) (hq1:pk ps q1=some (.gen (cL (oP (oS f w) o2) S1 (L.take j) (es.take j)))) (hq2:pk ps q2=some (.gen (cL (oP (oS f w) o2) S2 (L.drop (j+1)) (es.drop (j+1))))) :
  ∃a h,es[k]? = some (.slice a x.1.length x.1.length::h)/\Rd m a x.1.length w x.1.length (x.1.map f):=by
 rcases Nat.lt_trichotomy k j with h|h|h
 obtain⟨a,t,h1,h2⟩:=hm.N4 (k:=k) (x:=x) hq1 (by rw[RK,QH h]; exact hx)
 rw[RK,QH h] at h1;exact⟨a,t,h1,h2⟩
 subst h;rw[hl] at hx; cases hx;exact⟨a0,h0,he,Pc.CM (hm.get hq0) (.sl ..)⟩
 obtain⟨a,t,h1,h2⟩:=hm.N4 (k:=k-(j+1)) (x:=x) hq2 (by rw[RL,show j+1+(k-(j+1))=k by omega]; exact hx)
 rw[RL,show j+1+(k-(j+1))=k by omega] at h1
 exact⟨a,t,h1,h2⟩
def Wn.q5{f:β->TO SX}{w:Nat}{r2:Rep α}{o2:Orp r2}{S1 S2:SV}{L:TO (TO β×α)}{es:SS}{j k q0 q1 q2:Nat}{z x:TO β×α}{a0:SU}{h0:TO SX}(hl:L[j]? = some z)(he:es[j]? = some (.slice a0 z.1.length z.1.length::h0))(hx:L[k]? = some x)
  (hq0:pk ps q0=some (.sl a0 w z.1.length (z.1.map f))) (hq1:pk ps q1=some (.gen (cL (oP (oS f w) o2) S1 (L.take j) (es.take j)))) (hq2:pk ps q2=some (.gen (cL (oP (oS f w) o2) S2 (L.drop (j+1)) (es.drop (j+1)))))
  (kk:∀a h,es[k]? = some (.slice a x.1.length x.1.length::h)->(∀m,Hp m0 m ps->Rd m a x.1.length w x.1.length (x.1.map f))->Wn E n ops prs K os ss m0 fs ps):Wn E n ops prs K os ss m0 fs ps:=fun t m ns hf hm hn=>by
 obtain⟨a,h,h1,_⟩:=hm.q5 hl he hx hq0 hq1 hq2;refine kk a h h1 (fun m' hm'=>?_) t m ns hf hm hn;obtain⟨a',h',h3,h4⟩:=hm'.q5 hl he hx hq0 hq1 hq2;rw[h1] at h3;have e:=R1 (QL h3);injection e with e;rw[e]; exact h4
def Lf.sr{f:β->TO SX}{a:SU}{k cap w l:Nat}{xs:TO β}(hp:pk ps k=some (.rd a cap w l (xs.map f))):Lf m0 ps (rS f w) xs (a,cap) (fun b=>kK a=some b):=fun m hm=>by
 have e:=pW hm hp;subst e;exact Lf.s hp m hm
def Lf.lr{a:SU}{k cap w q l:Nat}{R:SV}{xs:TO α}{es:SS}(hp:pk ps k=some (.rd a cap w l es))(hq:pk ps q=some (.gen (cd r R xs es)))(hw:r.w=w):Lf m0 ps (rL r) xs (a,cap,es) (fun b=>kK a=some b\/R b):=fun m hm=>by
 have e:l=xs.length:=(hm.get hp).1.symm.trans (lP hm hq);subst e;exact Lf.l hp hq hw m hm
end
end Go.Ab.W
namespace Go.Proofs.Ytmndpgfbkicndaa
section
open Go Go.Ab Go.Ab.W
set_option maxRecDepth 10000
set_option maxHeartbeats 4000000
attribute [local irreducible] Wo Wk At Wn Od Ox bc bR
attribute [local irreducible] Tm.at Trie.set Trie.get TS.get TS.set TS.alloc TS.ww TS.kill
variable{p q:TN Prim}
def qI:bj (TV p q).P 34=some (.agg #[.slice none 0 0,.slice none 0 0]):=by kernel_rfl
def Be:BdT (TV p q).P 34 (.agg #[.slice none 0 0,.slice none 0 0]) [(0,1),(1,1)]:=.mk' (by kernel_rfl) (by kernel_rfl)
def lJ:BdT (TV p q).P 54 (.agg #[.slice none 0 0,.slice none 0 0]) [(0,1),(1,1)]:=.mk' (by kernel_rfl) (by kernel_rfl)
abbrev gP:Orp bg:=(oS (eI .i64) 1)
abbrev cg:Orp ak:=(oP (oS (eI .i64) 1) (oL gP))
def GG{n l7 l1 a7 c1 a8 c2}{r0:SV}{e0:SS}{r}(hF:MK n l7 l1=some r)(m)(h2:ja m a7 c1 l7)(h3:lW m a8 c2 l1 e0)(h4:(cd ak r0 l1 e0).P m):
 aI (TV p q) 44 [kI a7 l7 c1 a8 l1 c2] m (fun v m'=>∃x:SU×Nat×SU×Nat×SS ×(Nat->Prop),v=.agg #[.slice x.1 x.2.1 x.2.1,.slice x.2.2.1 x.2.2.2.1 x.2.2.2.1]/\Hp m m' [.sl x.1 2 x.2.1 (r.1.map (eP (eI .i64) (eI .i64))),.sl x.2.2.1 2 x.2.2.2.1 x.2.2.2.2.1,.gen (cL cg x.2.2.2.2.2 r.2 x.2.2.2.2.1)]):=by
 unfold MK at hF;refine cw Try.func44 (Hp.mz (Tw (Tw (Tp m) dI h2) (eC dI) h3) (eC (eC dI)) h4) ?_;refine wz ?_;refine wb fun b4=>?_;refine wa qI fun b0=>?_;refine au ?_;refine Tc (ll rfl rfl (mc _ _)) rfl ?_;obtain⟨h5,hF⟩:=az hF;refine Ts (xH (k:=4) (lo:=0) (hi:=mi (l7.length:Int) (125:Int)) w5 rfl rfl rfl rfl h5 (.inl ⟨rfl,rfl⟩) (.inr ⟨_,rfl⟩)) gn rfl ?_;rintro⟨a11,c4⟩;obtain⟨l4,h6,hF⟩:=J hF;refine wc gn (fun m hm=>KO n (TM l7 125) a11 c4 _ h6 m (hm.q 0)) ?_;rintro⟨a0,n0⟩;refine TI (k:=0) (xs:=l4) rfl ?_;rintro rfl;refine Tc (cp rfl qI rfl (cm Be rfl rfl rfl)) rfl<|wa qI fun b1=>?_;refine au ?_;refine Tc (ll rfl rfl (mc _ _)) rfl ?_;obtain⟨h7,hF⟩:=az hF;refine Ts (J5 (r:=ak) (k:=6) (q:=5) (lo:=0) (hi:=mi (l1.length:Int) (66:Int)) jd rfl rfl rfl rfl rfl h7 (.inl ⟨rfl,rfl⟩) (.inr ⟨_,rfl⟩)) gn rfl ?_;rintro⟨a9,c0⟩;refine wz ?_;refine Th ?_;obtain⟨l8,h0,hF⟩:=J hF;refine ct (fun l8 ((a4,e4,r3):SU×SS ×(Nat->Prop))=>⟨(.exit 0),(ic b0 b1 []),[iZ b0,tx b1 a0 l4 a4 l8,cV a0 l4,kX a4 l8 e4,ot cg r3 l8 e4]⟩) l8 ?_ ?_;refine lw h0 ((none,[],(fun _=>False)):SU×SS ×(Nat->Prop)) (fun(l2,v0) ((a1,e1,r1):SU×SS ×(Nat->Prop))=>⟨.normal,(ic b0 b1 [(24,.slice a9 ((TM l1 66).length) c0),(25,.int .i64 ((TM l1 66).length:Int)),(26,ba v0)]),[iZ b0,tx b1 a0 l4 a1 l2,cV a0 l4,kX a1 l2 e1,ot cg r1 l2 e1,.rd a9 c0 2 ((TM l1 66).length) ((e0.drop S7).take ((mi (l1.length:Int) (66:Int):Int).toNat-S7)),.gen (cd ak r0 (TM l1 66) ((e0.drop S7).take ((mi (l1.length:Int) (66:Int):Int).toNat-S7)))]⟩) (To (TH 2 rfl) (To (aa.B4 (o:=cg)) (Ti [7,4,5,1,0,2,3] rfl rfl))) ?_;clear hF h0;rintro⟨l2,v0⟩ ⟨a1,e1,r1⟩ r hF;unfold um at hF;refine wz ?_;refine Td ?_;rcases U hF with⟨h8,hF⟩|⟨h8,hF⟩;refine au ?_;obtain⟨h9,hF⟩:=cO hF;refine Tv (k:=5) rfl (aM h9) ?_;rintro b2 o1 rfl;refine wz ?_;obtain⟨⟨l11,l3⟩,h10,hF⟩:=J hF;refine wl 2 0 7 0 h10 ?_;rintro⟨⟨a16,c7⟩,⟨a17,c8,e6⟩⟩;refine wa z54 fun b5=>?_;refine au ?_;refine Tc (ll rfl rfl (mc _ _)) rfl ?_;obtain⟨h11,hF⟩:=az hF;refine Ts (xH (k:=1) (lo:=0) (hi:=mi (l11.length:Int) (42:Int)) eU rfl rfl rfl rfl h11 (.inl ⟨rfl,rfl⟩) (.inr ⟨_,rfl⟩)) gn rfl ?_;rintro⟨a12,c5⟩;obtain⟨l5,h12,hF⟩:=J hF;refine wc gn (fun m hm=>sV n (TM l11 42) a12 c5 _ h12 m (hm.q 0)) ?_;rintro⟨a2,n1⟩;refine TI (k:=0) (xs:=l5) rfl ?_;rintro rfl;refine Tc (cp rfl z54 rfl (cm lJ rfl rfl rfl)) rfl<|wa z54 fun b3=>?_;refine au ?_;refine Tc (ll rfl rfl (mc _ _)) rfl ?_;obtain⟨h13,hF⟩:=az hF;refine Ts (J5 (r:=bg) (k:=5) (q:=6) (lo:=0) (hi:=mi (l3.length:Int) (10:Int)) pw rfl rfl rfl rfl rfl h13 (.inl ⟨rfl,rfl⟩) (.inr ⟨_,rfl⟩)) gn rfl ?_;rintro⟨a10,c3⟩;refine wz ?_;refine Th ?_;obtain⟨l6,h1,hF⟩:=J hF;refine ct (fun l6 ((a3,e5,r4):SU×SS ×(Nat->Prop))=>⟨(.exit 2),(ic b0 b1 [(6,ptr b3 0),(24,.slice (some ⟨b2,o1,none⟩) ((TM l1 66).length) c0),(25,.int .i64 ((TM l1 66).length:Int)),(26,ba v0)]),[iZ b0,tx b1 a0 l4 a1 l2,cV a0 l4,kX a1 l2 e1,ot cg r1 l2 e1,tx b3 a2 l5 a3 l6,vA a2 l5,.sl a3 1 l6.length e5,ot gP r4 l6 e5,.ro b2 o1 2 ((TM l1 66).length) ((e0.drop S7).take ((mi (l1.length:Int) (66:Int):Int).toNat-S7)),.gen (cd ak r0 (TM l1 66) ((e0.drop S7).take ((mi (l1.length:Int) (66:Int):Int).toNat-S7))),.rd (some ⟨b2,o1,none⟩) c0 2 ((TM l1 66).length) ((e0.drop S7).take ((mi (l1.length:Int) (66:Int):Int).toNat-S7))]⟩) l6 ?_ ?_;refine lw h1 ((none,[],(fun _=>False)):SU×SS ×(Nat->Prop)) (fun(l9,v1) ((a5,e3,r5):SU×SS ×(Nat->Prop))=>⟨.normal,(ic b0 b1 [(6,ptr b3 0),(24,.slice (some ⟨b2,o1,none⟩) ((TM l1 66).length) c0),(25,.int .i64 ((TM l1 66).length:Int)),(26,ba v0),(45,.slice a10 ((TM l3 10).length) c3),(46,.int .i64 ((TM l3 10).length:Int)),(47,ba v1)]),[iZ b0,tx b1 a0 l4 a1 l2,cV a0 l4,kX a1 l2 e1,ot cg r1 l2 e1,tx b3 a2 l5 a5 l9,vA a2 l5,.sl a5 1 l9.length e3,ot gP r5 l9 e3,.ro b2 o1 2 ((TM l1 66).length) ((e0.drop S7).take ((mi (l1.length:Int) (66:Int):Int).toNat-S7)),.gen (cd ak r0 (TM l1 66) ((e0.drop S7).take ((mi (l1.length:Int) (66:Int):Int).toNat-S7))),.rd (some ⟨b2,o1,none⟩) c0 2 ((TM l1 66).length) ((e0.drop S7).take ((mi (l1.length:Int) (66:Int):Int).toNat-S7)),.rd a10 c3 1 ((TM l3 10).length) ((e6.drop S7).take ((mi (l3.length:Int) (10:Int):Int).toNat-S7)),.gen (cd bg r0 (TM l3 10) ((e6.drop S7).take ((mi (l3.length:Int) (10:Int):Int).toNat-S7)))]⟩) (To (TH 1 rfl) (To (aa.B4 (o:=gP)) (Ti [12,13,14,15,16,4,5,1,0,11,18,17,2,3] rfl rfl))) ?_;clear hF h1;rintro⟨l9,v1⟩ ⟨a5,e3,r5⟩ r hF;unfold uJ at hF;refine wz ?_;refine Td ?_;rcases U hF with⟨h14,hF⟩|⟨h14,hF⟩;refine au ?_;obtain⟨h15,hF⟩:=cO hF;refine Tv (k:=12) rfl (aM h15) ?_;rintro b6 o2 rfl;refine wz ?_;obtain⟨l12,h16,hF⟩:=J hF;refine wl 1 0 14 0 h16 ?_;rintro⟨a18,c9⟩;refine wz ?_;refine TB (prs:=[(1,7)]) (by kernel_rfl)<|Tf (aG (r:=ptr b3 1) rfl (eO _ _)) rfl<|Tf (aH (k:=7) kT rfl rfl rfl) rfl<|Tf (aS rfl) rfl<|Tf (aS rfl) rfl<|Tf (nX (k:=0) Ma rfl rfl (.inl rfl)) rfl<|Tf (ll rfl rfl (mc _ _)) rfl ?_
 obtain⟨h17,hF⟩:=az hF;refine Wn.x (xH (k:=0) (lo:=0) (hi:=mi (l12.length:Int) (42:Int)) eU rfl rfl rfl rfl h17 (.inl ⟨rfl,rfl⟩) (.inr ⟨_,rfl⟩)) gn rfl ?_;rintro⟨a13,c6⟩;obtain⟨l10,h18,hF⟩:=J hF;refine nc gn (fun m hm=>sV n (TM l12 42) a13 c6 _ h18 m (hm.q 0)) ?_;rintro⟨a6,n2⟩;refine Wn.len (k:=0) (xs:=l10) rfl ?_;rintro rfl;refine Wn.x (bY (es:=[[bN a6 l10]]) pw rfl (bZ pw z51 rfl rfl) rfl rfl) gn rfl fun b7=>?_;refine TK (Ti [1,0,2,3,4,5,6,7,8,9,10,11,12,13,14,15,16,17,18] rfl rfl)<|Wn.tR (o:=gP) (x:=l10) (g:=a6) rfl ?_;intro r8;obtain⟨h19,hF⟩:=az hF;refine TK (Ti [13,0,12,1,2,3,4,5,6,7,8,9,10,11,14,15,16,17,18] rfl rfl)<|Wn.x (s7 (o:=gP) (L:=l9) (L':=([l10]:SR)) pw ⟨_,HW⟩ rfl (.arr _ _ _ _ _) rfl h19) gn rfl ?_;rintro⟨a14,r6⟩;refine Tf (aG (r:=ptr b3 1) rfl (eO _ _)) rfl<|Wn.o0 (ek (k:=11) kT rfl rfl rfl rfl rfl)<|Tx (fun m hm=>dj.all rfl) ?_;refine au ?_;cases hF;exact ae (a14,(e3++([[bN a6 l10]]:SS)),r6) [6,7,8,9,10,11,12,1,0,13,14,15,16,17];refine wz ?_;cases hF;exact ae (a5,e3,r5) (TL 0 12);rintro⟨a3,e5,r4⟩;refine au ?_;refine Ts (bY (es:=[[bN a2 l5,bN a3 l6]]) jd rfl (bZ jd z54 rfl rfl) rfl rfl) gn rfl fun b8=>?_;refine Tq (Ti [7,8,9,0,1,2,3,4,5,6,10,11,12] rfl rfl)<|Wo.tR (o:=cg) (x:=(l5,l6)) (g:=(a2,(a3,e5,r4))) rfl ?_;intro r9;obtain⟨h20,hF⟩:=az hF;refine Tq (Ti [6,0,5,1,2,3,4,7,8,9,10] rfl rfl)<|Ts (s7 (o:=cg) (L:=l2) (L':=([(l5,l6)]:SO)) jd ⟨_,u32⟩ rfl (.arr _ _ _ _ _) rfl h20) gn rfl ?_;rintro⟨a15,r7⟩;refine au ?_;cases hF;exact ae (a15,(e1++([[bN a2 l5,bN a3 l6]]:SS)),r7) [3,4,5,1,0,9,8];refine wz ?_;cases hF;exact ae (a1,e1,r1) (TL 0 5);rintro⟨a4,e4,r3⟩;refine fW ?_;cases hF;exact Tt (.cell (k:=0) eW rfl rfl rfl .nil) fun m' hm=>⟨(a0,l4.length,a4,l8.length,e4,r3),rfl,(Ti [2,3,4] rfl rfl) m' hm⟩
end
section
open Go Go.Ab Go.Ab.W
set_option maxRecDepth 10000
set_option maxHeartbeats 4000000
attribute [local irreducible] Tm.at Trie.set Trie.get TS.get TS.set TS.alloc TS.ww TS.kill
variable{p q:TN Prim}
def IQ(n:Nat){m0 m:TS}{ps:TO Pc}{k:Nat}{a:SU}{l r:TO Int}{i j:Int}(h:Hp m0 m ps)(hp:pk ps k=some (.sl a 1 l.length (l.map (eI .i64))))(hF:PT n l i j=some r) :
  aI (TV p q) 48 [.slice a l.length l.length,.int .i64 i,.int .i64 j] m (fun v m'=>∃_:TP,v=.slice a r.length l.length/\Hp m0 m' (bI ps k (.gen (mZ a l.length 1 r.length (r.map (eI .i64)))))):=by
 obtain⟨hc,hF⟩:=az hF;simp only[QJ,QR] at hc;obtain⟨⟨⟨⟨c0,c1⟩,c2⟩,c3⟩,c4⟩:=hc;have hr:=QL hF;subst hr;obtain⟨es,hes⟩:∃es,es=l.map (eI .i64):=⟨_,rfl⟩;have hel:es.length=l.length:=by rw[hes,Q0]
 have hwid:∀e∈es,e.length=1:=fun e he=>by rw[hes] at he; obtain⟨x,_,rfl⟩:=Rj.1 he; rfl
 have hone:dn es:=fun e he=>by rw[hes] at he; obtain⟨x,_,rfl⟩:=Rj.1 he; rfl
 rw[show(l.take i.toNat++l.drop j.toNat).map (eI .i64)=es.take i.toNat++es.drop j.toNat by rw[hes,List.map_append,List.map_take,List.map_drop]]
 rw[<-hes] at hp;rcases h.get hp with⟨h0,_⟩|⟨b,tg,rfl,g1,g2,g3,g4,g5,g6,g7⟩
 omega
 ·have hfl:es.flatten.length=l.length*1:=by rw[cy hwid,hel]
  have hwb:gh m 1 b l.length l.length=some (es.flatten,tg):=by
   unfold gh;rcases g6 with rfl|rfl<;>simp only[g3]
   rw[QH ⟨trivial,hfl⟩]
   rw[QH ⟨trivial,hfl,trivial⟩]
  have ft:∀(k:Nat) (l:SS),(∀e∈l,e.length=1)->(l.take k).flatten=l.flatten.take k/\(l.drop k).flatten=l.flatten.drop k:=by
   intro k l
   induction l generalizing k with
   | nil=>intro _; simp
   | cons e l ih =>
    intro hl;cases k with
    | zero=>simp
    | succ k =>
     obtain⟨x1,x2⟩:=ih k fun e he=>hl e (QQ _ he);have he:=hl e (Q7 ..);obtain⟨y,rfl⟩:∃y,e=[y]:=List.length_eq_one_iff.1 he;simp[x1,x2]
  have hlen:(l.take i.toNat++l.drop j.toNat).length=l.length-(j.toNat-i.toNat):=by simp; omega
  refine aI.cH (p:=⟨jv (.int .i64 0)⟩) rfl (v:=.slice (some ⟨b,0,none⟩) (l.take i.toNat++l.drop j.toNat).length l.length) (m':=m.set b (.cells (es.flatten.take i.toNat++es.flatten.drop j.toNat++List.replicate (j.toNat-i.toNat) (.int .i64 0)) tg)) ?_ ⟨(),rfl,?_⟩
  show jv _ [.slice (some ⟨b,0,none⟩) l.length l.length,.int .i64 i,.int .i64 j] m=_
  simp only[jv,hwb];rw[QH ⟨c1,c2,c3,c4,gL hone⟩,hlen]
  refine h.CH hp (fun b' hb=>.inl (.inl ⟨rfl,hb.elim (fun h=>by cases h.1) id⟩)) (fun b' hb=>.inl (.inl (hb.elim (fun h=>by cases h) fun h=>h.elim id fun h=>h.elim))) (by rw[TS.next_set]; exact QK _) (h.ext.set g1 _) ⟨⟨?_,?_,by decide,by rw[hlen]; omega,.inr ⟨b,List.replicate (j.toNat-i.toNat) (.int .i64 0),tg,rfl,by rw[TS.next_set]; exact g2,?_,g6,?_⟩⟩,fun _ b' hb=>by cases hb; exact g1⟩ fun b' hb hlt=>?_
  rw[hlen]; simp; omega
  intro e he;rcases Q3.1 he with he|he
  exact hwid e (R3 he)
  exact hwid e (R4 he)
  rw[TS.bl,QH rfl,RX,(ft _ es hwid).1,(ft _ es hwid).2]
  have e1:=(ft i.toNat es hwid).1;have e2:=(ft j.toNat es hwid).2;rw[RX,e1,e2];simp[hfl]; omega
  rw[TS.bl,QF fun e=>hb (.inl ⟨rfl,by rw[e]; rfl⟩)]
def Hc(l:TO Int):((l.map (eI .i64)).flatten).all aP=true:=by
 induction l with
 | nil=>rfl
 | cons x l ih=>rw[RQ,Rx,SK,ih]; rfl
def qQ(l:TO Int):(l.map (eI .i64)).flatten=l.map (fun x=>Value.int .i64 x):=by
 induction l with
 | nil=>rfl
 | cons x l ih=>rw[RQ,Rx,ih]; rfl
def used{m0 m:TS}{ps:TO Pc}(h:Hp m0 m ps){k b n n3:Nat}{es es3:SS}(hp:pk ps k=some (.sl (some ⟨b,0,none⟩) 1 n es))(hn:es3.length=n3)(hw:∀e∈es3,e.length=1) :
  Hp m0 ((m.kill b).alloc (.cells es3.flatten (.more 1))) (bI ps k (.sl (some ⟨m.next,0,none⟩) 1 n3 es3)):=by
 have hb:m0.next<=b:=by
  rcases h.get hp with⟨_,_,h3,_⟩|⟨b',tg,h1,h2⟩
  cases h3
  cases h1; exact h2.1
 have hk:Ext m0 (m.kill b):=⟨by rw[TS.next_kill]; exact h.ext.next,fun x hx=>by rw[TS.dB,S8]; exact h.ext.same x hx,by
  rw[TS.wl_kill];have:=h.ext.wl; omega⟩
 refine h.renew hp (by rw[TS.next_alloc,TS.next_kill]; omega) (hk.alloc _) (.inr ⟨m.next,.more 1,rfl,h.ext.next,by rw[TS.next_alloc,TS.next_kill]; omega,by rw[TS.aU,TS.next_kill,QH rfl],hn,hw,.inr rfl,by decide⟩) (fun b' hb'=>?_) rfl fun b' hb' hlt=>?_
 cases hb'; exact QK _
 rw[TS.aU,TS.next_kill,S8,TS.dB,QF (fun e=>hb' (by rw[e]; rfl))]
def IN{m0 m:TS}{ps:TO Pc}(h:Hp m0 m ps){k n n3:Nat}{es es3:SS}(hp:pk ps k=some (.sl none 1 n es))(hn:es3.length=n3)(hw:∀e∈es3,e.length=1) :
  Hp m0 (m.alloc (.cells es3.flatten (.more 1))) (bI ps k (.sl (some ⟨m.next,0,none⟩) 1 n3 es3)):=by
 refine h.renew hp (by rw[TS.next_alloc]; omega) (h.ext.alloc _) (.inr ⟨m.next,.more 1,rfl,h.ext.next,by rw[TS.next_alloc]; omega,by rw[TS.aU,QH rfl],hn,hw,.inr rfl,by decide⟩) (fun b' hb'=>?_) rfl fun b' _ hlt=>?_
 cases hb'; exact QK _
 rw[TS.aU,S8]
def Jl(n:Nat){m0 m:TS}{ps:TO Pc}(h:Hp m0 m ps){k k2 b2:Nat}{a:SU}{i:Int}{l r:TO Int}{x:Int}(hp:pk ps k=some (.sl a 1 l.length (l.map (eI .i64))))(hp2:pk ps k2=some (.arr b2 1 1 ([x].map (eI .i64)) .own))(hk:Nat.beq k2 k=false)(hF:PW n l i [x]=some r) :
  aI (TV p q) 49 [.slice a l.length l.length,.int .i64 i,.slice (some ⟨b2,0,none⟩) 1 1] m (fun v m'=>∃y:SU×Nat,v=.slice y.1 y.2 y.2/\Hp m0 m' (bI ps k (.sl y.1 1 y.2 (r.map (eI .i64))))):=by
 obtain⟨hc,hF⟩:=az hF;simp only[QJ,QR] at hc;obtain⟨⟨c1,c2⟩,c4⟩:=hc;have hr:=QL hF;subst hr;obtain⟨i,rfl⟩:=Sp c1;have hi:i<=l.length:=by omega
 simp only[Rb];have hv:m.get b2=some (.cells [.int .i64 x] .own):=(h.get hp2).2.2.1;have hw1:∀l:TO Int,∀e∈l.map (eI .i64),e.length=1:=fun l e he=>by obtain⟨y,_,rfl⟩:=Rj.1 he; rfl
 have e3:(l.take i++([x]++l.drop i)).length=l.length+1:=by simp; omega
 rcases h.get hp with⟨h0,h1,rfl,_⟩|⟨b,tg,rfl,g1,g2,g3,g4,g5,g6,g7⟩
 have hl:l=[]:=Sr.1 h1;subst hl;obtain rfl:i=0:=by simpa using hi
 refine aI.cH (p:=⟨jW⟩) rfl (v:=.slice (some ⟨m.next,0,none⟩) 1 1) (m':=m.alloc (.cells [.int .i64 x] (.more 1))) ?_ ⟨(some ⟨m.next,0,none⟩,1),rfl,IN (es3:=[x].map (eI .i64)) h hp rfl (hw1 _)⟩
 show jW [.slice none 0 0,.int .i64 0,.slice (some ⟨b2,0,none⟩) 1 1] m=_
 simp only[jW,hv]
 have hne:b2≠b:=fun e=>(eX h.apart hp2 hp (SD hk)).1 b2 (.inl ⟨rfl,rfl⟩) (.inl (by rw[e]; rfl))
 have hwb:gh m 1 b l.length l.length=some ((l.map (eI .i64)).flatten,tg):=by
  unfold gh;rcases g6 with rfl|rfl<;>simp only[g3]
  rw[QH ⟨trivial,by rw[qQ]; simp⟩]
  rw[QH ⟨trivial,by rw[qQ]; simp,trivial⟩]
 refine aI.cH (p:=⟨jW⟩) rfl (v:=.slice (some ⟨m.next,0,none⟩) (l.length+1) (l.length+1)) (m':=(m.kill b).alloc (.cells ((l.take i++([x]++l.drop i)).map (eI .i64)).flatten (.more 1))) ?_ ⟨(some ⟨m.next,0,none⟩,l.length+1),rfl,used h hp (by simpa using e3) (hw1 _)⟩
 show jW [.slice (some ⟨b,0,none⟩) l.length l.length,.int .i64 (i:Int),.slice (some ⟨b2,0,none⟩) 1 1] m=_
 simp only[jW,hv,hwb];rw[QH ⟨hne,by omega,by omega,c4,Hc l⟩]
 simp only[Rb];rw[qQ,qQ];simp only[List.map_append,List.map_take,List.map_drop]
 rfl
def Ej{α:Type}{r:Rep α}{o:Orp r}{m0:TS}{ps:TO Pc}{S:SV}{L:TO α}{es:SS}{i j:Nat}(hij:i<=j):∀m,Hp m0 m (.gen (cL o S L es)::ps)->∃S',Hp m0 m (.gen (cL o S' (L.take i++L.drop j) (es.take i++es.drop j))::ps):=fun m hm=>by
 obtain⟨qs,h1,h2⟩:=hm.ve;obtain⟨q1,q2,rfl,h3,h4⟩:=h1.split i;obtain⟨q3,q4,rfl,h5,h6⟩:=h4.split (j-i);rw[Sy,Sy,show i+(j-i)=j by omega] at h6
 have h7:Hp m0 m ((q1++q4)++ps):=by
  refine⟨h2.ext,fun p hp=>h2.ok p ?_,h2.apart.sublist ?_⟩
  rcases Q3.1 hp with hp|hp
  rcases Q3.1 hp with hp|hp
  exact Rg _ (Rg _ hp)
  exact Rg _ (Rs _ (Rs _ hp))
  exact Rs _ hp
  exact List.Sublist.append (List.Sublist.append (List.Sublist.refl _) (List.sublist_append_right _ _)) (List.Sublist.refl _)
 exact⟨_,h7.q8 (h3.append h6)⟩
def Je(n:Nat){m0 m:TS}{rest:TO Pc}{a:SU}{l r:SO}{S:SV}{es:SS}{i j:Int}(h:Hp m0 m (.sl a 2 l.length es::.gen (cL cg S l es)::rest))(hF:PB n l i j=some r) :
  aI (TV p q) 45 [.slice a l.length l.length,.int .i64 i,.int .i64 j] m (fun v m'=>∃S':Nat->Prop,v=.slice a r.length l.length/\Hp m0 m' (.gen (cL cg S' r (es.take i.toNat++es.drop j.toNat))::.gen (mZ a l.length 2 r.length (es.take i.toNat++es.drop j.toNat))::rest)):=by
 obtain⟨hc,hF⟩:=az hF;simp only[QJ,QR] at hc;obtain⟨⟨⟨⟨c0,c1⟩,c2⟩,c3⟩,c4⟩:=hc;have hr:=QL hF;subst hr;obtain⟨i,rfl⟩:=Sp c1;obtain⟨j,rfl⟩:=Sp (show 0<=j by omega)
 simp only[Rb];have hij:i<j:=by omega
 have hjn:j<=l.length:=by omega
 have hel:es.length=l.length:=sH h (q:=1) rfl;obtain⟨⟨qs,hOd,_⟩,_⟩:=(h.get (k:=1) rfl).1;have hwid:∀e∈es,e.length=2:=fun e he=>(hOd.cells e he).1;have hone:dn es:=fun e he=>(hOd.cells e he).2;rcases h.get (k:=0) rfl with⟨h0,_⟩|⟨b,tg,rfl,g1,g2,g3,g4,g5,g6,g7⟩
 omega
 ·have ft:∀(k:Nat) (l:SS),(∀e∈l,e.length=2)->(l.take k).flatten=l.flatten.take (k*2)/\(l.drop k).flatten=l.flatten.drop (k*2):=by
   intro k l
   induction l generalizing k with
   | nil=>intro _; simp
   | cons e l ih =>
    intro hl;cases k with
    | zero=>simp
    | succ k =>
     obtain⟨x1,x2⟩:=ih k fun e he=>hl e (QQ _ he);have he:=hl e (Q7 ..);obtain⟨y,z,rfl⟩:∃y z,e=[y,z]:=by
      match e,he with
      | [y,z],_=>exact⟨y,z,rfl⟩
     rw[Sm];simp[x1,x2]
  have hfl:es.flatten.length=l.length*2:=by rw[cy hwid,hel]
  have hlen:(l.take i++l.drop j).length=l.length-(j-i):=by simp; omega
  have hobj:Hp m0 m (.obj b (.cells es.flatten tg)::.gen (cL cg S l es)::rest):=h.put (k:=0) rfl rfl rfl rfl (QK _) h.ext ⟨g1,g2,g3⟩ fun _ _ _=>rfl;refine(DK (p:=p) (q:=q) g6 hobj hfl (gL hone) hij hjn c4).mono fun v m' ⟨hv,cs',hm',hl',ht'⟩=>?_;have hcs:cs'=(es.take i++es.drop j).flatten++cs'.drop ((l.length-(j-i))*2):=by
   have e1:(es.flatten.drop (j*2)).take ((l.length-j)*2)=es.flatten.drop (j*2):=R6 (by rw[Rt]; omega)
   rw[RX,(ft i es hwid).1,(ft j es hwid).2];rw[e1] at ht';rw[<-ht',List.take_append_drop]
  have hst:Hp m0 m' (.gen (mZ (some ⟨b,0,none⟩) l.length 2 (l.take i++l.drop j).length (es.take i++es.drop j))::.gen (cL cg S l es)::rest):=by
   have h0:=hm'.get (k:=0) rfl;refine hm'.CH (k:=0) rfl (fun b' hb=>.inl (.inl ⟨rfl,hb.elim (fun h=>by cases h.1) id⟩)) (fun b' hb=>.inl (.inl (hb.elim (fun h=>by cases h) fun h=>h.elim id fun h=>h.elim))) (QK _) hm'.ext ⟨⟨?_,?_,by decide,by rw[hlen]; omega,.inr ⟨b,cs'.drop ((l.length-(j-i))*2),tg,rfl,h0.2.1,?_,g6,?_⟩⟩,fun _ b' hb=>by cases hb; exact h0.1⟩ fun b' hb hlt=>rfl
   rw[hlen]; simp; omega
   intro e he;rcases Q3.1 he with he|he
   exact hwid e (R3 he)
   exact hwid e (R4 he)
   rw[<-hcs]; exact h0.2.2
   rw[<-hcs,hl',hfl]
  obtain⟨S',hS⟩:=Ej (o:=cg) (Nat.le_of_lt hij) m' (hst.perm (List.Perm.swap _ _ _));exact⟨S',by rw[hv,hlen],hS⟩
end
end Go.Proofs.Ytmndpgfbkicndaa
