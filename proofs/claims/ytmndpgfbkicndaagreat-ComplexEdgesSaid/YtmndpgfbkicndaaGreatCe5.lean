/- A part of the proof. -/
import Derived.Test.YtmndpgfbkicndaaGreatCe4
import Derived.HandedShaped
set_option linter.all false
namespace Go.Proofs.YtmndpgfbkicndaaGreat
section
open Go Go.Ab Go.Ab.W
set_option maxRecDepth 10000
set_option maxHeartbeats 4000000
attribute [local irreducible] Wo Wk At Wn Od Ox bq bZ
attribute [local irreducible] Tm.at Trie.set Trie.get Wb.get Wb.set Wb.alloc Wb.ww Wb.kill
variable{p q:WA Prim}
def M0{n l2 l1 a0 c1 a1 c0}{r0:Vr}{e0:Vp}{r}(hF:QT n l2 l1=some r)(m)(h27:dZ m a0 c1 l2)(h28:fN m a1 c0 l1 e0)(h29:(bY aj r0 l1 e0).P m):
 aG (We p q) 84 [eu a0 l2 c1 a1 l1 c0] m (Wa m (.tuple #[.int .i64 r.1,.int .i64 r.2])):=by
 unfold QT at hF;refine cw Tryz.func84 (VW (VJ (VJ (VG m) bX h27) (bU bX) h28) (bU (bU bX)) h29) ?_;refine wz ?_;refine wb fun b0=>?_;refine wa z3 fun b1=>?_;refine wa z3 fun b2=>?_;refine an ?_;refine VL HI gn rfl fun b4=>?_;refine wa RO fun b10=>?_;refine an ?_;obtain⟨l19,h30,hF⟩:=J hF;refine wq (fun l19 (b23:Nat)=>(.func (.func 126) #[] #[ptr b23 0],(cV b23 a0 l2 c1 a1 l1 c0 e0 aj r0 [E8 b0 a0 l2 c1 a1 l1 c0,df b1,df b2,eD b10 b4,.obj b4 (.map (l19.map (eM (fun p:Int×Int=>.agg #[.int .i64 p.1,.int .i64 p.2]) (fun b:Bool=>.bool b))))]))) l19 (fun m hm=>?_) ?_;clear hF;revert l19;intro r hF;refine aW (N:=4) (rs:=[.tmp 2]) rfl Tryz.func103 rfl rfl rfl hm ?_;refine wz ?_;refine wb fun b32=>?_;refine an ?_;refine VB (jY rfl rfl) rfl ?_;refine an ?_;cases hF;exact ar b32 [0,8,7,6,5,4,3,1,2];rintro b23;refine wz ?_;refine VE ?_;obtain⟨r10,h31,hF⟩:=J hF;refine Wk.range (N:=50) (rs:=[]) (γ:=WC) (X:=fun g=>(fun(r:(Int×WB ((Int×Int)×Bool)) ⊕(WB ((Int×Int)×Bool))) (g:WC)=>(match r,g with|.inl (v16,l25),_=>⟨.done,(some .ret),(cV b0 a0 l2 c1 a1 l1 c0 e0 aj r0 [Ge b1,eY b2 v16,eD b10 b4,.obj b4 (.map (l25.map (eM (fun p:Int×Int=>.agg #[.int .i64 p.1,.int .i64 p.2]) (fun b:Bool=>.bool b))))])⟩|.inr l26,_=>⟨.ready,none,(cV b0 a0 l2 c1 a1 l1 c0 e0 aj r0 [df b1,df b2,eD b10 b4,.obj b4 (.map (l26.map (eM (fun p:Int×Int=>.agg #[.int .i64 p.1,.int .i64 p.2]) (fun b:Bool=>.bool b))))])⟩:Rn)) r10 g) rfl rfl Tryz.func126 rfl rfl rfl ?_ (fun y=>by rcases r10 with _|_<;>(intro e; cases e)) ?_
 clear hF;revert r10;intro r hF;intro t1 l6 r5 h32 h33;refine wz ?_;refine VE ?_;obtain⟨r20,h1,hF⟩:=J hF;refine ct (fun(r:(Int×WB ((Int×Int)×Bool)) ⊕(WB ((Int×Int)×Bool))) (g:WC)=>match r,g with|.inl (v17,l27),_=>⟨.ret,[],(.obj l6 (r5 .done (some .ret))::cV b0 a0 l2 c1 a1 l1 c0 e0 aj r0 [Ge b1,eY b2 v17,eD b10 b4,.obj b4 (.map (l27.map (eM (fun p:Int×Int=>.agg #[.int .i64 p.1,.int .i64 p.2]) (fun b:Bool=>.bool b))))])⟩|.inr l28,_=>⟨(.exit 0),[],(.obj l6 (r5 .ready none)::cV b0 a0 l2 c1 a1 l1 c0 e0 aj r0 [df b1,df b2,eD b10 b4,.obj b4 (.map (l28.map (eM (fun p:Int×Int=>.agg #[.int .i64 p.1,.int .i64 p.2]) (fun b:Bool=>.bool b))))])⟩) r20 ?_ ?_
 refine lo h1 () [0,3,4,5,2,6,7,8,9] (fun(v4,l29) _=>⟨.normal,((0,.func (.yield l6) #[] #[])::Au a1 l1 c0 v4 []),[.obj l6 (r5 .ready none),ko a1 c0 l1 e0,jH aj r0 l1 e0,E8 b0 a0 l2 c1 a1 l1 c0,iq a0 c1 l2,df b1,df b2,eD b10 b4,.obj b4 (.map (l29.map (eM (fun p:Int×Int=>.agg #[.int .i64 p.1,.int .i64 p.2]) (fun b:Bool=>.bool b))))]⟩) ?_;clear hF h1;rintro⟨v4,l29⟩ ⟨⟩ r hF;unfold qQ at hF;refine wz ?_;refine VD ?_;rcases aa hF with⟨h34,hF⟩|⟨h34,hF⟩;refine an ?_;obtain⟨h35,hF⟩:=bE hF;refine VO (k:=1) rfl (aC h35) ?_;rintro b9 o4 rfl;refine wz ?_;obtain⟨⟨l44,l45⟩,h36,hF⟩:=J hF;refine wl 2 0 3 0 h36 ?_;rintro⟨⟨a28,c14⟩,⟨a29,c15,e8⟩⟩;refine wa z31 fun b40=>?_;refine an ?_;obtain⟨l13,h37,hF⟩:=J hF;refine yU gn (fun m hm=>jW h37 m hm.cS (hm.q 1) (hm.no 1) (hm.q 2) (hm.no 2) (hm.dp (q:=3) rfl) (hm.ep (q:=3) rfl)) ?_;rintro⟨a20,c7,n0,e6,r9⟩;refine V2 (k:=0) (q:=1) (L:=l13) rfl (.inr (.inl ⟨_,rfl⟩)) rfl ?_;rintro rfl;refine wz ?_;refine VE ?_;obtain⟨r21,h2,hF⟩:=J hF;refine ct (fun(r:(WB ((Int×Int)×Bool)) ⊕(WB ((Int×Int)×Bool))) (g:WC)=>match r,g with|.inl l30,_=>⟨.ret,[],(.obj l6 (r5 .done (some .ret))::fB b0 a0 l2 c1 b9 o4 l1 c0 e0 aj r0 [Ge b1,eY b2 v4,eD b10 b4,.obj b4 (.map (l30.map (eM (fun p:Int×Int=>.agg #[.int .i64 p.1,.int .i64 p.2]) (fun b:Bool=>.bool b))))])⟩|.inr l31,_=>⟨(.exit 2),((0,.func (.yield l6) #[] #[])::sq b9 o4 l1 c0 v4 []),(.obj l6 (r5 .ready none)::rJ b9 o4 l1 e0 aj r0 c0 (q6 b0 a0 l2 c1 b9 o4 l1 c0 b1 b2 [eD b10 b4,.obj b4 (.map (l31.map (eM (fun p:Int×Int=>.agg #[.int .i64 p.1,.int .i64 p.2]) (fun b:Bool=>.bool b))))]))⟩) r21 ?_ ?_
 refine lo h2 () [7,6,9,8,0,1,10,11,12,13,14,15] (fun(v7,l32) _=>⟨.normal,((0,.func (.yield l6) #[] #[])::(3,aN v4)::sq b9 o4 l1 c0 v4 [(18,bj a20 l13 c7),(19,dh l13),(20,aN v7)]),(.obj l6 (r5 .ready none)::rJ b9 o4 l1 e0 aj r0 c0 (fL a20 c7 l13 e6 ba r9 (q6 b0 a0 l2 c1 b9 o4 l1 c0 b1 b2 [eD b10 b4,.obj b4 (.map (l32.map (eM (fun p:Int×Int=>.agg #[.int .i64 p.1,.int .i64 p.2]) (fun b:Bool=>.bool b))))])))⟩) ?_;clear hF h2;rintro⟨v7,l32⟩ ⟨⟩ r hF;unfold qH at hF;refine wz ?_;refine VD ?_;rcases aa hF with⟨h38,hF⟩|⟨h38,hF⟩;refine an ?_;obtain⟨h39,hF⟩:=bE hF;refine VO (k:=4) rfl (aC h39) ?_;rintro b19 o10 rfl;refine wz ?_;obtain⟨l16,h40,hF⟩:=J hF;refine wl 1 0 6 0 h40 ?_;rintro⟨a10,c9⟩;refine an ?_;refine VE ?_;obtain⟨r22,h3,hF⟩:=J hF;refine ct (fun(r:(WB ((Int×Int)×Bool)) ⊕(WB ((Int×Int)×Bool))) (g:WC)=>match r,g with|.inl l33,_=>⟨.ret,[],(.obj l6 (r5 .done (some .ret))::fB b0 a0 l2 c1 b9 o4 l1 c0 e0 aj r0 [Ge b1,eY b2 v4,eD b10 b4,.obj b4 (.map (l33.map (eM (fun p:Int×Int=>.agg #[.int .i64 p.1,.int .i64 p.2]) (fun b:Bool=>.bool b))))])⟩|.inr l34,_=>⟨(.exit 4),((0,.func (.yield l6) #[] #[])::(3,aN v4)::sq b9 o4 l1 c0 v4 (uH b19 o10 l13 c7 v7 [])),(.obj l6 (r5 .ready none)::rJ b9 o4 l1 e0 aj r0 c0 (jl b19 o10 l13 e6 ba r9 c7 (q6 b0 a0 l2 c1 b9 o4 l1 c0 b1 b2 [eD b10 b4,.obj b4 (.map (l34.map (eM (fun p:Int×Int=>.agg #[.int .i64 p.1,.int .i64 p.2]) (fun b:Bool=>.bool b))))])))⟩) r22 ?_ ?_
 refine lo h3 () [2,0,3,4,5,1,7,6,8,9,10,11,12,13] (fun(v18,l17) _=>⟨.normal,((0,.func (.yield l6) #[] #[])::(3,aN v4)::(5,aN v7)::(6,bj a10 l16 c9)::sq b9 o4 l1 c0 v4 (uH b19 o10 l13 c7 v7 [(25,bj a10 l16 c9),(26,dh l16),(27,aN v18)])),(.obj l6 (r5 .ready none)::lp a10 c9 l16::rJ b9 o4 l1 e0 aj r0 c0 (jl b19 o10 l13 e6 ba r9 c7 (q6 b0 a0 l2 c1 b9 o4 l1 c0 b1 b2 [eD b10 b4,.obj b4 (.map (l17.map (eM (fun p:Int×Int=>.agg #[.int .i64 p.1,.int .i64 p.2]) (fun b:Bool=>.bool b))))])))⟩) ?_;clear hF h3;rintro⟨v18,l17⟩ ⟨⟩ r hF;unfold qW at hF;refine wz ?_;refine VD ?_;rcases aa hF with⟨h41,hF⟩|⟨h41,hF⟩;refine an ?_;obtain⟨h42,hF⟩:=bE hF;refine VO (k:=1) rfl (aC h42) ?_;rintro b24 o12 rfl;refine wz ?_;obtain⟨x12,h108,hF⟩:=J hF;refine an ?_;obtain⟨h43,hF⟩:=aB hF;refine VB (aJ rfl rfl (cg _ _ h43)) rfl ?_;obtain⟨h109,hF⟩:=bE hF;refine wz ?_;obtain⟨x13,h110,hF⟩:=J hF;refine wz ?_;refine VB (cL rfl q7 rfl (cJ AU rfl rfl rfl)) rfl ?_;obtain⟨r11,h15,hF⟩:=J hF;refine VL (yb (k:=1) (k1:=0) (γA:=Nat) (GA:=(fun g:Nat=>(match g with|b22=>⟨.normal,(rM b1 b2 [(4,ptr b10 0),(5,ptr b22 0)]),(.obj l6 (r5 .ready none)::df b1::df b2::eD b10 b4::.obj b4 (.map (l17.map (eM (fun p:Int×Int=>.agg #[.int .i64 p.1,.int .i64 p.2]) (fun b:Bool=>.bool b))))::fF b22 x12 x13 v4 v7::fB b0 a0 l2 c1 b9 o4 l1 c0 e0 aj r0 (pb b24 o12 l16 c9 (jl b19 o10 l13 e6 ba r9 c7 [])))⟩:En))) (γ:=WC) (G:=fun g=>(fun(r:WC ⊕(WC)) (g:WC)=>(match r,g with|.inl _,_=>⟨.ret,[],(.obj l6 (r5 .busy none)::fB b0 a0 l2 c1 b9 o4 l1 c0 e0 aj r0 (Ge b1::eY b2 v4::eD b10 b4::.obj b4 (.map (l17.map (eM (fun p:Int×Int=>.agg #[.int .i64 p.1,.int .i64 p.2]) (fun b:Bool=>.bool b))))::pb b24 o12 l16 c9 (jl b19 o10 l13 e6 ba r9 c7 [])))⟩|.inr _,_=>⟨.normal,[],(.obj l6 (r5 .busy none)::fB b0 a0 l2 c1 b9 o4 l1 c0 e0 aj r0 (df b1::df b2::eD b10 b4::.obj b4 (.map ((gS l17 (x12,x13) true).map (eM (fun p:Int×Int=>.agg #[.int .i64 p.1,.int .i64 p.2]) (fun b:Bool=>.bool b))))::pb b24 o12 l16 c9 (jl b19 o10 l13 e6 ba r9 c7 [])))⟩:En)) r11 g) rfl rfl rfl h33 h32 rfl ?_ (fun _=>rfl) (fun _=>rfl) ?_ (fun y=>by rcases r11 with _|_<;>rfl)) gn rfl ?_
 clear hF h15;refine VF<|wa q7 fun b33=>?_;refine wz ?_;exact ae b33 [2,12,13,14,15,0,10,11,4,5,6,1,3,7,8,9];clear hF;revert r11;intro r hF;rintro b22;refine wz ?_;refine VB (cL rfl Kz rfl (cJ Ho rfl rfl rfl)) rfl ?_;obtain⟨y0,h44,hF⟩:=J hF;refine VB (My (q:=4) (xs:=l17) (k:=(x12,x13)) (vE:=(fun b:Bool=>.bool b)) (z0:=false) Qz (J5 JP bS.known bS.size bS.agg u3) z4 rfl rfl rfl rfl h44) rfl ?_;refine wz ?_;rcases aa hF with⟨h16,hF⟩|⟨h16,hF⟩;refine VZ rfl h16<|VD<|VT (prs:=[(1,2)]) (by kernel_rfl)<|VC (aM (r:=ptr b22 2) rfl (nE _ _)) rfl<|VX rfl (aH (k:=5) bS rfl rfl rfl) rfl<|Wn.Bl rfl (ek (k:=1) bS rfl rfl rfl rfl rfl)<|V1 (ek (k:=2) bS rfl rfl rfl rfl rfl)<|VP (fun m hm=>(cA.rw rfl rfl rfl (hm.ne (i:=5) (j:=1) rfl rfl rfl rfl (by decide) rfl) cA.nil)) ?_
 refine an ?_;cases hF;exact ae () [0,6,7,8,9,10,1,2,3,4,11,12,13,14,15];refine an ?_;refine VB (cL rfl Kz rfl (cJ Ho rfl rfl rfl)) rfl<|V0 (D9 (q:=4) (xs:=l17) (k:=(x12,x13)) (v:=true) (vE:=(fun b:Bool=>.bool b)) Qz (J5 JP bS.known bS.size bS.agg u3) rfl rfl rfl rfl) ?_;refine wz ?_;cases hF;exact ae () [0,6,7,8,9,10,1,2,3,4,11,12,13,14,15];rcases r11 with _|_;rintro⟨⟩;refine an ?_;cases hF;exact ae () (V5 0 10);rintro⟨⟩;refine dM ?_;cases hF;exact ae () [0,11,3,4,5,12,13,14,1,2,6,7,8,9];refine wz ?_;cases hF;exact ae () (0::V5 2 12);rcases r22 with l33|l34;rintro⟨⟩;refine wz ?_;cases hF;exact ae () (V5 0 10);rintro⟨⟩;refine an ?_;cases hF;exact ae () (0::1::2::3::6::5::V5 7 6);refine wz ?_;cases hF;exact ae () (0::1::2::3::V5 6 6);rcases r21 with l30|l31;rintro⟨⟩;refine wz ?_;cases hF;exact ae () [0,1,2,5,4,6,7,8,9];rintro⟨⟩;refine an ?_;cases hF;exact ae () (0::3::2::V5 4 6);refine wz ?_;cases hF;exact ae () [0,3,4,1,2,5,6,7,8];rcases r20 with⟨v17,l27⟩|l28;rintro⟨⟩;refine At.br ?_;cases hF;exact VQ .nil fun m' hm=>⟨(),(ah.aq [0,1,2,3,4,5,6,7,8] rfl rfl) m' hm⟩;rintro⟨⟩;refine At.be ?_;cases hF;exact At.fin .nil fun m' hm=>⟨(),(ah.aq [0,1,2,3,4,5,6,7,8] rfl rfl) m' hm⟩;rcases r10 with⟨v16,l25⟩|l26;rintro⟨⟩
 change Wk _ _ _ _ .ret _ _ _ _
 refine wz ?_;cases hF;exact VQ (.cell (k:=4) bS rfl rfl rfl (.cell (k:=5) bS rfl rfl rfl .nil)) fun m' hm=>⟨(),rfl,(ah.aq [] rfl rfl) m' hm⟩;rintro⟨⟩
 change At _ .normal _ _ _
 refine an ?_;refine wa Rw fun b7=>?_;refine an ?_;obtain⟨r23,h45,hF⟩:=J hF;refine wq (fun _ (b25:Nat)=>(.func (.func 126) #[] #[ptr b25 0],(cV b25 a0 l2 c1 a1 l1 c0 e0 aj r0 [E8 b0 a0 l2 c1 a1 l1 c0,df b1,df b2,.obj b7 (.cells [.slice none 0 0] .own)]))) r23 (fun m hm=>?_) ?_;clear hF;revert r23;intro r hF;refine aW (N:=4) (rs:=[.tmp 2]) rfl Tryz.func103 rfl rfl rfl hm ?_;refine wz ?_;refine wb fun b34=>?_;refine an ?_;refine VB (jY rfl rfl) rfl ?_;refine an ?_;cases hF;exact ar b34 [0,3,4,5,2,6,7,1];rintro b25;refine wz ?_;refine VE ?_;obtain⟨r12,h46,hF⟩:=J hF;refine Wk.range (N:=50) (rs:=[]) (γ:=Vq) (X:=fun g=>(fun(r:(Int×WB (Vm)) ⊕(WB (Vm))) (g:Vq)=>(match r,g with|.inl (v19,l21),a11=>⟨.done,(some .ret),(cV b0 a0 l2 c1 a1 l1 c0 e0 aj r0 [IS b1,eY b2 v19,Bz b7 a11 l21,iu a11 l21])⟩|.inr l35,a21=>⟨.ready,none,(cV b0 a0 l2 c1 a1 l1 c0 e0 aj r0 (q9 b1 b2 b7 a21 l35 []))⟩:Rn)) r12 g) rfl rfl Tryz.func126 rfl rfl rfl ?_ (fun y=>by rcases r12 with _|_<;>(intro e; cases e)) ?_
 clear hF;revert r12;intro r hF;intro t2 l3 r1 h47 h48;refine wz ?_;refine VE ?_;obtain⟨r24,h4,hF⟩:=J hF;refine ct (fun(r:(Int×WB (Vm)) ⊕(WB (Vm))) (g:Vq)=>match r,g with|.inl (v20,l22),a4=>⟨.ret,[],(.obj l3 (r1 .done (some .ret))::cV b0 a0 l2 c1 a1 l1 c0 e0 aj r0 [IS b1,eY b2 v20,Bz b7 a4 l22,iu a4 l22])⟩|.inr l36,a12=>⟨(.exit 0),[],(.obj l3 (r1 .ready none)::cV b0 a0 l2 c1 a1 l1 c0 e0 aj r0 (q9 b1 b2 b7 a12 l36 []))⟩) r24 ?_ ?_
 refine lw h4 none (fun(v0,l37) a5=>⟨.normal,((0,.func (.yield l3) #[] #[])::Au a1 l1 c0 v0 []),(.obj l3 (r1 .ready none)::ko a1 c0 l1 e0::jH aj r0 l1 e0::E8 b0 a0 l2 c1 a1 l1 c0::iq a0 c1 l2::q9 b1 b2 b7 a5 l37 [])⟩) (ah.trans (ah.nil 4 rfl) (ah.aq [1,4,5,6,3,7,8,9,0] rfl rfl)) ?_;clear hF h4;rintro⟨v0,l37⟩ a5 r hF;unfold qV at hF;refine wz ?_;refine VD ?_;rcases aa hF with⟨h49,hF⟩|⟨h49,hF⟩;refine an ?_;obtain⟨h50,hF⟩:=bE hF;refine VO (k:=1) rfl (aC h50) ?_;rintro b6 o2 rfl;refine wz ?_;obtain⟨⟨l46,l47⟩,h51,hF⟩:=J hF;refine wl 2 0 3 0 h51 ?_;rintro⟨⟨a30,c16⟩,⟨a31,c17,e9⟩⟩;refine wa z31 fun b41=>?_;refine an ?_;obtain⟨l7,h52,hF⟩:=J hF;refine yU gn (fun m hm=>jW h52 m hm.cS (hm.q 1) (hm.no 1) (hm.q 2) (hm.no 2) (hm.dp (q:=3) rfl) (hm.ep (q:=3) rfl)) ?_;rintro⟨a22,c2,n1,e1,r6⟩;refine V2 (k:=0) (q:=1) (L:=l7) rfl (.inr (.inl ⟨_,rfl⟩)) rfl ?_;rintro rfl;refine wz ?_;refine VE ?_;obtain⟨r25,h5,hF⟩:=J hF;refine ct (fun(r:(WB (Vm)) ⊕(WB (Vm))) (g:Vq)=>match r,g with|.inl l23,a6=>⟨.ret,[],(.obj l3 (r1 .done (some .ret))::fB b0 a0 l2 c1 b6 o2 l1 c0 e0 aj r0 [IS b1,eY b2 v0,Bz b7 a6 l23,iu a6 l23])⟩|.inr l38,a13=>⟨(.exit 2),((0,.func (.yield l3) #[] #[])::sq b6 o2 l1 c0 v0 []),(.obj l3 (r1 .ready none)::rJ b6 o2 l1 e0 aj r0 c0 (O3 b0 a0 l2 c1 b6 o2 l1 c0::iq a0 c1 l2::q9 b1 b2 b7 a13 l38 []))⟩) r25 ?_ ?_
 refine lo h5 a5 [7,6,9,8,0,1,10,11,12,13,14,15] (fun(v5,l39) a7=>⟨.normal,((0,.func (.yield l3) #[] #[])::(3,aN v0)::sq b6 o2 l1 c0 v0 [(18,bj a22 l7 c2),(19,dh l7),(20,aN v5)]),(.obj l3 (r1 .ready none)::rJ b6 o2 l1 e0 aj r0 c0 (fL a22 c2 l7 e1 ba r6 (O3 b0 a0 l2 c1 b6 o2 l1 c0::iq a0 c1 l2::q9 b1 b2 b7 a7 l39 [])))⟩) ?_;clear hF h5;rintro⟨v5,l39⟩ a7 r hF;unfold qX at hF;refine wz ?_;refine VD ?_;rcases aa hF with⟨h53,hF⟩|⟨h53,hF⟩;refine an ?_;obtain⟨h54,hF⟩:=bE hF;refine VO (k:=4) rfl (aC h54) ?_;rintro b11 o5 rfl;refine wz ?_;obtain⟨l11,h55,hF⟩:=J hF;refine wl 1 0 6 0 h55 ?_;rintro⟨a14,c4⟩;refine an ?_;refine VE ?_;obtain⟨r26,h6,hF⟩:=J hF;refine ct (fun(r:(WB (Vm)) ⊕(WB (Vm))) (g:Vq)=>match r,g with|.inl l24,a8=>⟨.ret,[],(.obj l3 (r1 .done (some .ret))::fB b0 a0 l2 c1 b6 o2 l1 c0 e0 aj r0 [IS b1,eY b2 v0,Bz b7 a8 l24,iu a8 l24])⟩|.inr l40,a15=>⟨(.exit 4),((0,.func (.yield l3) #[] #[])::(3,aN v0)::sq b6 o2 l1 c0 v0 (uH b11 o5 l7 c2 v5 [])),(.obj l3 (r1 .ready none)::rJ b6 o2 l1 e0 aj r0 c0 (jl b11 o5 l7 e1 ba r6 c2 (O3 b0 a0 l2 c1 b6 o2 l1 c0::iq a0 c1 l2::q9 b1 b2 b7 a15 l40 [])))⟩) r26 ?_ ?_
 refine lo h6 a7 [2,0,3,4,5,1,7,6,8,9,10,11,12,13] (fun(v21,l9) a2=>⟨.normal,((0,.func (.yield l3) #[] #[])::(3,aN v0)::(5,aN v5)::(6,bj a14 l11 c4)::sq b6 o2 l1 c0 v0 (uH b11 o5 l7 c2 v5 [(25,bj a14 l11 c4),(26,dh l11),(27,aN v21)])),(.obj l3 (r1 .ready none)::lp a14 c4 l11::rJ b6 o2 l1 e0 aj r0 c0 (jl b11 o5 l7 e1 ba r6 c2 (O3 b0 a0 l2 c1 b6 o2 l1 c0::iq a0 c1 l2::q9 b1 b2 b7 a2 l9 [])))⟩) ?_;clear hF h6;rintro⟨v21,l9⟩ a2 r hF;unfold qO at hF;refine wz ?_;refine VD ?_;rcases aa hF with⟨h56,hF⟩|⟨h56,hF⟩;refine an ?_;obtain⟨h57,hF⟩:=bE hF;refine VO (k:=1) rfl (aC h57) ?_;rintro b16 o8 rfl;refine wz ?_;obtain⟨x3,h111,hF⟩:=J hF;refine an ?_;obtain⟨h58,hF⟩:=aB hF;refine VB (aJ rfl rfl (cg _ _ h58)) rfl ?_;obtain⟨h112,hF⟩:=bE hF;refine wz ?_;obtain⟨x4,h113,hF⟩:=J hF;refine wz ?_;refine VB (cL rfl q7 rfl (cJ AU rfl rfl rfl)) rfl ?_;obtain⟨r13,h17,hF⟩:=J hF;refine VL (yb (k:=1) (k1:=0) (γA:=Nat) (GA:=(fun g:Nat=>(match g with|b14=>⟨.normal,((1,ptr b0 0)::rM b1 b2 [(6,ptr b7 0),(7,ptr b14 0)]),(.obj l3 (r1 .ready none)::fB b0 a0 l2 c1 b6 o2 l1 c0 e0 aj r0 (q9 b1 b2 b7 a2 l9 (fF b14 x3 x4 v0 v5::pb b16 o8 l11 c4 (jl b11 o5 l7 e1 ba r6 c2 []))))⟩:En))) (γ:=Vq) (G:=fun g=>(fun(r:WC ⊕(WB (Vm))) (g:Vq)=>(match r,g with|.inl _,_=>⟨.ret,[],(.obj l3 (r1 .busy none)::fB b0 a0 l2 c1 b6 o2 l1 c0 e0 aj r0 (IS b1::eY b2 v0::Bz b7 a2 l9::iu a2 l9::pb b16 o8 l11 c4 (jl b11 o5 l7 e1 ba r6 c2 [])))⟩|.inr l41,a16=>⟨.normal,[],(.obj l3 (r1 .busy none)::fB b0 a0 l2 c1 b6 o2 l1 c0 e0 aj r0 (q9 b1 b2 b7 a16 l41 (pb b16 o8 l11 c4 (jl b11 o5 l7 e1 ba r6 c2 []))))⟩:En)) r13 g) rfl rfl rfl h48 h47 rfl ?_ (fun _=>rfl) (fun _=>rfl) ?_ (fun y=>by rcases r13 with _|_<;>rfl)) gn rfl ?_
 clear hF h17;refine VF<|wa q7 fun b35=>?_;refine wz ?_;exact ae b35 [2,10,11,4,5,6,12,13,14,15,0,1,3,7,8,9];clear hF;revert r13;intro r hF;rintro b14;refine wz ?_;refine VB (jY rfl rfl) rfl ?_;obtain⟨v8,h59,hF⟩:=J hF;refine wq (fun v8 (_:WC)=>(.int .i64 v8,(.obj l3 (r1 .busy none)::fB b0 a0 l2 c1 b6 o2 l1 c0 e0 aj r0 (q9 b1 b2 b7 a2 l9 (pb b16 o8 l11 c4 (jl b11 o5 l7 e1 ba r6 c2 [fF b14 x3 x4 v0 v5])))))) v8 (fun m hm=>?_) ?_;clear hF;revert v8;intro r hF;refine aW (N:=19) (rs:=[.tmp 4]) rfl Tryz.func111 rfl rfl rfl hm ?_;refine an ?_;refine VE ?_;obtain⟨r27,h7,hF⟩:=J hF;refine ct (fun(r:Int ⊕(WC)) (g:WC)=>match r,g with|.inl v22,_=>⟨.ret,[(4,aN v22)],(.obj l3 (r1 .busy none)::fB b0 a0 l2 c1 b6 o2 l1 c0 e0 aj r0 (q9 b1 b2 b7 a2 l9 (pb b16 o8 l11 c4 (jl b11 o5 l7 e1 ba r6 c2 [fF b14 x3 x4 v0 v5]))))⟩|.inr _,_=>⟨(.exit 0),[],(.obj l3 (r1 .busy none)::fB b0 a0 l2 c1 b6 o2 l1 c0 e0 aj r0 (q9 b1 b2 b7 a2 l9 (pb b16 o8 l11 c4 (jl b11 o5 l7 e1 ba r6 c2 [fF b14 x3 x4 v0 v5]))))⟩) r27 ?_ ?_
 refine lo h7 () [0,1,2,3,4,5,10,9,6,7,8,11,12,13,14,15] (fun v23 _=>⟨.normal,[(1,.func (.func 112) #[] #[ptr b0 0,ptr b14 0]),(7,bP a2 l9),(8,dh l9),(9,aN v23)],(.obj l3 (r1 .busy none)::fB b0 a0 l2 c1 b6 o2 l1 c0 e0 aj r0 (fF b14 x3 x4 v0 v5::iu a2 l9::df b1::df b2::Bz b7 a2 l9::pb b16 o8 l11 c4 (jl b11 o5 l7 e1 ba r6 c2 [])))⟩) ?_;clear hF h7;rintro v23 ⟨⟩ r hF;unfold sW at hF;refine wz ?_;refine VD ?_;rcases aa hF with⟨h60,hF⟩|⟨h60,hF⟩;refine an ?_;obtain⟨h61,hF⟩:=bE hF;refine VV (k:=7) rfl (aC h61) ?_;rintro b28 t0 rfl h114;refine wz ?_;obtain⟨⟨x16,x17,x18,x19⟩,h115,hF⟩:=J hF;refine wz ?_;refine wa q7 fun b42=>?_;refine an ?_;obtain⟨v9,h62,hF⟩:=J hF;refine wq (fun v9 (_:WC)=>(.bool v9,(.obj l3 (r1 .busy none)::fB b0 a0 l2 c1 b6 o2 l1 c0 e0 aj r0 (df b1::df b2::.obj b7 (.cells [rf b28 l9] .own)::q8 b28 l9 t0::pb b16 o8 l11 c4 (jl b11 o5 l7 e1 ba r6 c2 [fF b14 x3 x4 v0 v5]))))) v9 (fun m hm=>?_) ?_;clear hF;revert v9;intro r hF;refine aW (N:=9) (rs:=[.tmp 4]) rfl Tryz.func112 rfl rfl rfl hm ?_;refine wz ?_;refine wb fun b43=>?_;refine an ?_;obtain⟨r37,h63,hF⟩:=J hF;refine wc gn (fun m hm=>Lr h63 m (hm.q 4) (hm.q 7) (hm.dp (q:=6) rfl)) ?_;rintro⟨⟩;refine an ?_;obtain rfl:=SX hF;exact ar () [2,3,4,5,6,7,10,11,12,9,13,14,15,16,17,8];rintro⟨⟩;refine wz ?_;rcases aa hF with⟨h64,hF⟩|⟨h64,hF⟩;refine an ?_;cases hF;exact aT () (ah.trans (ah.close (k:=9) rfl) (ah.aq [0,1,2,3,4,5,6,7,8,9,10,11,12,13,14,15] rfl rfl));refine an ?_;cases hF;exact aT () (ah.trans (ah.close (k:=9) rfl) (ah.aq [0,1,2,3,4,5,15,9,6,7,8,10,11,12,13,14] rfl rfl));refine wz ?_;cases hF;exact ae () [0,1,2,3,4,5,8,9,10,7,11,12,13,14,15,6];rcases r27 with v22|_;rintro⟨⟩;refine wz ?_;obtain rfl:=SX hF;exact ar () (V5 0 16);rintro⟨⟩;refine dM ?_;cases hF;exact ar () (V5 0 16);rintro⟨⟩;refine wz ?_;rcases aa hF with⟨h18,hF⟩|⟨h18,hF⟩;refine VZ rfl h18<|VD<|VT (prs:=[(1,2)]) (by kernel_rfl)<|VC (aM (r:=ptr b14 2) rfl (nE _ _)) rfl<|VX rfl (aH (k:=15) bS rfl rfl rfl) rfl<|Wn.Bl rfl (ek (k:=6) bS rfl rfl rfl rfl rfl)<|V1 (ek (k:=7) bS rfl rfl rfl rfl rfl)<|VP (fun m hm=>(cA.rw rfl rfl rfl (hm.ne (i:=15) (j:=6) rfl rfl rfl rfl (by decide) rfl) cA.nil)) ?_
 refine an ?_;cases hF;exact ae none (V5 0 15);refine an ?_;refine VL (cn (es:=([(x3,x4,v0,v5)]:WB (Vm)).map (eP (eI .i64) (eP (eI .i64) (eP (eI .i64) (eI .i64))))) JV rfl (cm JV q7 rfl rfl) rfl rfl) gn rfl fun b44=>?_;obtain⟨h65,hF⟩:=aB hF;refine VL (om (k:=10) (k2:=0) (xs:=(l9:WB (Vm))) (ys:=([(x3,x4,v0,v5)]:WB (Vm))) (xb (nT .i64) (xb (nT .i64) (xb (nT .i64) (nT .i64)))) JV ⟨_,Qc⟩ rfl rfl rfl (.arr _ _ _ _ _) h65) gn rfl fun a27=>?_;refine wz ?_;cases hF;exact ae a27 (V5 1 15);rcases r13 with _|l41;rintro g0;refine an ?_;cases hF;exact ae a2 (V5 0 10);rintro a16;refine dM ?_;cases hF;exact ae a16 [0,11,3,4,5,12,13,14,1,2,6,7,8,9];refine wz ?_;cases hF;exact ae a2 (0::V5 2 12);rcases r26 with l24|l40;rintro a8;refine wz ?_;cases hF;exact ae a8 (V5 0 10);rintro a15;refine an ?_;cases hF;exact ae a15 (0::1::2::3::6::5::V5 7 6);refine wz ?_;cases hF;exact ae a7 (0::1::2::3::V5 6 6);rcases r25 with l23|l38;rintro a6;refine wz ?_;cases hF;exact ae a6 [0,1,2,5,4,6,7,8,9];rintro a13;refine an ?_;cases hF;exact ae a13 (0::3::2::V5 4 6);refine wz ?_;cases hF;exact ae a5 [0,3,4,1,2,5,6,7,8];rcases r24 with⟨v20,l22⟩|l36;rintro a4;refine At.br ?_;cases hF;exact VQ .nil fun m' hm=>⟨a4,(ah.aq [0,1,2,3,4,5,6,7,8] rfl rfl) m' hm⟩;rintro a12;refine At.be ?_;cases hF;exact At.fin .nil fun m' hm=>⟨a12,(ah.aq [0,1,2,3,4,5,6,7,8] rfl rfl) m' hm⟩;rcases r12 with⟨v19,l21⟩|l35;rintro a11
 change Wk _ _ _ _ .ret _ _ _ _
 refine wz ?_;cases hF;exact VQ (.cell (k:=4) bS rfl rfl rfl (.cell (k:=5) bS rfl rfl rfl .nil)) fun m' hm=>⟨(),rfl,(ah.aq [] rfl rfl) m' hm⟩;rintro a21
 change At _ .normal _ _ _
 refine an ?_;refine VB (jY rfl rfl) rfl<|wa z138 fun b3=>?_;refine an ?_;obtain⟨r28,h66,hF⟩:=J hF;refine wq (fun _ (b26:Nat)=>(.func (.func 126) #[] #[ptr b26 0],(cV b26 a0 l2 c1 a1 l1 c0 e0 aj r0 [E8 b0 a0 l2 c1 a1 l1 c0,df b1,df b2,.obj b3 (.cells [.func (.func 114) #[] #[ptr b0 0]] .own)]))) r28 (fun m hm=>?_) ?_;clear hF;revert r28;intro r hF;refine aW (N:=4) (rs:=[.tmp 2]) rfl Tryz.func103 rfl rfl rfl hm ?_;refine wz ?_;refine wb fun b36=>?_;refine an ?_;refine VB (jY rfl rfl) rfl ?_;refine an ?_;cases hF;exact ar b36 [0,3,4,5,2,6,7,1];rintro b26;refine wz ?_;refine VE ?_;obtain⟨r14,h67,hF⟩:=J hF;refine Wk.range (N:=50) (rs:=[]) (γ:=WC) (X:=fun g=>(fun(r:Int ⊕(WC)) (g:WC)=>(match r,g with|.inl v24,_=>⟨.done,(some .ret),(cV b0 a0 l2 c1 a1 l1 c0 e0 aj r0 [H9 b1,eY b2 v24,.obj b3 (.cells [.func (.func 114) #[] #[ptr b0 0]] .own)])⟩|.inr _,_=>⟨.ready,none,(cV b0 a0 l2 c1 a1 l1 c0 e0 aj r0 [df b1,df b2,.obj b3 (.cells [.func (.func 114) #[] #[ptr b0 0]] .own)])⟩:Rn)) r14 g) rfl rfl Tryz.func126 rfl rfl rfl ?_ (fun y=>by rcases r14 with _|_<;>(intro e; cases e)) ?_
 clear hF;revert r14;intro r hF;intro t3 l5 r4 h68 h69;refine wz ?_;refine VE ?_;obtain⟨r29,h8,hF⟩:=J hF;refine ct (fun(r:Int ⊕(WC)) (g:WC)=>match r,g with|.inl v25,_=>⟨.ret,[],(.obj l5 (r4 .done (some .ret))::cV b0 a0 l2 c1 a1 l1 c0 e0 aj r0 [H9 b1,eY b2 v25,.obj b3 (.cells [.func (.func 114) #[] #[ptr b0 0]] .own)])⟩|.inr _,_=>⟨(.exit 0),[],(.obj l5 (r4 .ready none)::cV b0 a0 l2 c1 a1 l1 c0 e0 aj r0 [df b1,df b2,.obj b3 (.cells [.func (.func 114) #[] #[ptr b0 0]] .own)])⟩) r29 ?_ ?_
 refine lo h8 () [0,3,4,5,2,6,7,8] (fun v3 _=>⟨.normal,((0,.func (.yield l5) #[] #[])::Au a1 l1 c0 v3 []),[.obj l5 (r4 .ready none),ko a1 c0 l1 e0,jH aj r0 l1 e0,E8 b0 a0 l2 c1 a1 l1 c0,iq a0 c1 l2,df b1,df b2,.obj b3 (.cells [.func (.func 114) #[] #[ptr b0 0]] .own)]⟩) ?_;clear hF h8;rintro v3 ⟨⟩ r hF;unfold mK at hF;refine wz ?_;refine VD ?_;rcases aa hF with⟨h70,hF⟩|⟨h70,hF⟩;refine an ?_;obtain⟨h71,hF⟩:=bE hF;refine VO (k:=1) rfl (aC h71) ?_;rintro b8 o3 rfl;refine wz ?_;obtain⟨⟨l20,l14⟩,h19,hF⟩:=J hF;refine wl 2 0 3 0 h19 ?_;rintro⟨⟨a32,c18⟩,⟨a33,c19,e10⟩⟩;refine wa z31 fun b45=>?_;refine an ?_;obtain⟨l10,h72,hF⟩:=J hF;refine yU gn (fun m hm=>jW h72 m hm.cS (hm.q 1) (hm.no 1) (hm.q 2) (hm.no 2) (hm.dp (q:=3) rfl) (hm.ep (q:=3) rfl)) ?_;rintro⟨a23,c5,n2,e5,r8⟩;refine V2 (k:=0) (q:=1) (L:=l10) rfl (.inr (.inl ⟨_,rfl⟩)) rfl ?_;rintro rfl;refine wz ?_;refine VE ?_;obtain⟨r30,h9,hF⟩:=J hF;refine ct (fun(r:WC ⊕(WC)) (g:WC)=>match r,g with|.inl _,_=>⟨.ret,[],(.obj l5 (r4 .done (some .ret))::fB b0 a0 l2 c1 b8 o3 l1 c0 e0 aj r0 [H9 b1,eY b2 v3,.obj b3 (.cells [.func (.func 114) #[] #[ptr b0 0]] .own)])⟩|.inr _,_=>⟨(.exit 2),((0,.func (.yield l5) #[] #[])::sq b8 o3 l1 c0 v3 []),(.obj l5 (r4 .ready none)::rJ b8 o3 l1 e0 aj r0 c0 (q6 b0 a0 l2 c1 b8 o3 l1 c0 b1 b2 [.obj b3 (.cells [.func (.func 114) #[] #[ptr b0 0]] .own)]))⟩) r30 ?_ ?_
 refine lo h9 () [7,6,9,8,0,1,10,11,12,13,14] (fun v2 _=>⟨.normal,((0,.func (.yield l5) #[] #[])::(3,aN v3)::sq b8 o3 l1 c0 v3 [(18,bj a23 l10 c5),(19,dh l10),(20,aN v2)]),(.obj l5 (r4 .ready none)::rJ b8 o3 l1 e0 aj r0 c0 (fL a23 c5 l10 e5 ba r8 (q6 b0 a0 l2 c1 b8 o3 l1 c0 b1 b2 [.obj b3 (.cells [.func (.func 114) #[] #[ptr b0 0]] .own)])))⟩) ?_;clear hF h9;rintro v2 ⟨⟩ r hF;unfold qG at hF;refine wz ?_;refine VD ?_;rcases aa hF with⟨h73,hF⟩|⟨h73,hF⟩;refine an ?_;obtain⟨h74,hF⟩:=bE hF;refine VO (k:=4) rfl (aC h74) ?_;rintro b15 o7 rfl;refine wz ?_;obtain⟨l15,h75,hF⟩:=J hF;refine wl 1 0 6 0 h75 ?_;rintro⟨a17,c8⟩;refine an ?_;refine VE ?_;obtain⟨r31,h10,hF⟩:=J hF;refine ct (fun(r:WC ⊕(WC)) (g:WC)=>match r,g with|.inl _,_=>⟨.ret,[],(.obj l5 (r4 .done (some .ret))::fB b0 a0 l2 c1 b8 o3 l1 c0 e0 aj r0 [H9 b1,eY b2 v3,.obj b3 (.cells [.func (.func 114) #[] #[ptr b0 0]] .own)])⟩|.inr _,_=>⟨(.exit 4),((0,.func (.yield l5) #[] #[])::(3,aN v3)::sq b8 o3 l1 c0 v3 (uH b15 o7 l10 c5 v2 [])),(.obj l5 (r4 .ready none)::rJ b8 o3 l1 e0 aj r0 c0 (jl b15 o7 l10 e5 ba r8 c5 (q6 b0 a0 l2 c1 b8 o3 l1 c0 b1 b2 [.obj b3 (.cells [.func (.func 114) #[] #[ptr b0 0]] .own)])))⟩) r31 ?_ ?_
 refine lo h10 () [2,0,3,4,5,1,7,6,8,9,10,11,12] (fun v26 _=>⟨.normal,((0,.func (.yield l5) #[] #[])::(3,aN v3)::(5,aN v2)::(6,bj a17 l15 c8)::sq b8 o3 l1 c0 v3 (uH b15 o7 l10 c5 v2 [(25,bj a17 l15 c8),(26,dh l15),(27,aN v26)])),(.obj l5 (r4 .ready none)::lp a17 c8 l15::rJ b8 o3 l1 e0 aj r0 c0 (jl b15 o7 l10 e5 ba r8 c5 (q6 b0 a0 l2 c1 b8 o3 l1 c0 b1 b2 [.obj b3 (.cells [.func (.func 114) #[] #[ptr b0 0]] .own)])))⟩) ?_;clear hF h10;rintro v26 ⟨⟩ r hF;unfold qL at hF;refine wz ?_;refine VD ?_;rcases aa hF with⟨h76,hF⟩|⟨h76,hF⟩;refine an ?_;obtain⟨h77,hF⟩:=bE hF;refine VO (k:=1) rfl (aC h77) ?_;rintro b20 o11 rfl;refine wz ?_;obtain⟨x14,h116,hF⟩:=J hF;refine an ?_;obtain⟨h78,hF⟩:=aB hF;refine VB (aJ rfl rfl (cg _ _ h78)) rfl ?_;obtain⟨h117,hF⟩:=bE hF;refine wz ?_;obtain⟨x15,h118,hF⟩:=J hF;refine wz ?_;refine VB (cL rfl q7 rfl (cJ AU rfl rfl rfl)) rfl ?_;obtain⟨r15,h20,hF⟩:=J hF;refine VL (yb (k:=1) (k1:=0) (γA:=Nat) (GA:=(fun g:Nat=>(match g with|b17=>⟨.normal,((1,ptr b0 0)::rM b1 b2 [(8,ptr b3 0),(9,ptr b17 0)]),(.obj l5 (r4 .ready none)::fB b0 a0 l2 c1 b8 o3 l1 c0 e0 aj r0 (df b1::df b2::.obj b3 (.cells [.func (.func 114) #[] #[ptr b0 0]] .own)::fF b17 x14 x15 v3 v2::pb b20 o11 l15 c8 (jl b15 o7 l10 e5 ba r8 c5 [])))⟩:En))) (γ:=WC) (G:=fun g=>(fun(r:WC ⊕(WC)) (g:WC)=>(match r,g with|.inl _,_=>⟨.normal,[],(.obj l5 (r4 .busy none)::fB b0 a0 l2 c1 b8 o3 l1 c0 e0 aj r0 (df b1::df b2::.obj b3 (.cells [.func (.func 114) #[] #[ptr b0 0]] .own)::pb b20 o11 l15 c8 (jl b15 o7 l10 e5 ba r8 c5 [])))⟩|.inr _,_=>⟨.ret,[],(.obj l5 (r4 .busy none)::fB b0 a0 l2 c1 b8 o3 l1 c0 e0 aj r0 (H9 b1::eY b2 v3::.obj b3 (.cells [.func (.func 114) #[] #[ptr b0 0]] .own)::pb b20 o11 l15 c8 (jl b15 o7 l10 e5 ba r8 c5 [])))⟩:En)) r15 g) rfl rfl rfl h69 h68 rfl ?_ (fun _=>rfl) (fun _=>rfl) ?_ (fun y=>by rcases r15 with _|_<;>rfl)) gn rfl ?_
 clear hF h20;refine VF<|wa q7 fun b37=>?_;refine wz ?_;exact ae b37 [2,10,11,4,5,6,12,13,14,0,1,3,7,8,9];clear hF;revert r15;intro r hF;rintro b17;refine wz ?_;rcases aa hF with⟨h79,hF⟩|⟨h79,hF⟩;refine wz ?_;cases hF;exact ae () [0,1,2,3,4,5,6,7,8,10,11,12,13,14];refine an ?_;obtain⟨h119,hF⟩:=bE hF;refine wz ?_;refine wl 2 0 4 3 h19 ?_;rintro⟨⟨a9,c10⟩,⟨a18,c11,e4⟩⟩;refine wa z31 fun b21=>?_;refine wz ?_;refine VD<|VT (prs:=[(2,4),(2,7)]) (by kernel_rfl)<|VC (aM (r:=ptr b21 1) rfl (eE _ _)) rfl<|VC (aH (k:=0) kX rfl rfl rfl) rfl ?_
 obtain⟨_,h80,hF⟩:=J hF;refine Wn.c (PY (N:=fun x:Vq×Nat=>[.sl x.1 1 x.2 e4]) rfl rfl (fun m hm=>J3 n l14 e4 a18 c11 _ h80 m (hm.q 2) (hm.dp (q:=3) rfl)) fun _=>rfl) gn rfl ?_;rintro⟨a3,n4⟩;refine Wn.gF (k:=0) (q:=4) (L:=l14) rfl (.inl rfl) rfl ?_;rintro rfl;refine VC (aM (r:=ptr b17 3) rfl (w5 _ _)) rfl<|VC (aH (k:=14) bS rfl rfl rfl) rfl<|VC (aJ rfl rfl (bJ _ _ _)) rfl<|VC (aM (r:=ptr b17 3) rfl (w5 _ _)) rfl<|VC (aH (k:=14) bS rfl rfl rfl) rfl ?_;obtain⟨l18,h21,hF⟩:=J hF;refine V3 (mz (α:=WC) (V:=fun _=>.slice a3 l18.length l14.length) (N:=(fun _:WC=>bR (.sl a3 1 l14.length e4::E8 b21 a9 l20 c10 a18 l14 c11::lp a9 c10 l20::fL a18 c11 l14 e4 ba r0 (.obj l5 (r4 .busy none)::fB b0 a0 l2 c1 b8 o3 l1 c0 e0 aj r0 (df b1::df b2::.obj b3 (.cells [.func (.func 114) #[] #[ptr b0 0]] .own)::fF b17 x14 x15 v3 v2::pb b20 o11 l15 c8 (jl b15 o7 l10 e5 ba r8 c5 [])))) 0 (.gen (nO a3 l14.length 1 l18.length (e4.take (Vx (v2-1):Int).toNat++e4.drop (v2:Int).toNat))))) rfl rfl (fun m hm=>Fz n hm (k:=0) (qq:=4) rfl rfl h21)) gn rfl fun _=>?_;refine V4 (ah.Qe (q:=4) (i:=(Vx (v2-1):Int).toNat) (j:=(v2:Int).toNat) rfl (KQ h21))<|VC (aM (r:=ptr b21 1) rfl (eE _ _)) rfl<|V1 (ek (k:=2) kX rfl rfl rfl rfl rfl)<|VP (fun m hm=>cA.all rfl)<|VI<|VD<|VT (prs:=[(0,4),(1,4)]) (by kernel_rfl)<|VX rfl (aH (k:=7) fG rfl rfl rfl) rfl<|VX rfl (aH (k:=2) HH rfl rfl rfl) rfl<|VC (aH (k:=14) Jz rfl rfl rfl) rfl<|VC (aH (k:=15) Jj rfl rfl rfl) rfl ?_
 obtain⟨r16,h81,hF⟩:=J hF;refine Wn.xk (l:=[b0,b21]) (mz (α:=WC) (V:=fun g=>(fun(r:Int×Int) (g:WC)=>match r,g with |(v11,v12),_=>(.agg #[aN v11,aN v12]:Vs)) r16 g) (N:=fun g=>(fun(r:Int×Int) (g:WC)=>match r,g with |(v11,v12),_=>((.obj l5 (r4 .busy none)::fB b0 a0 l2 c1 b8 o3 l1 c0 e0 aj r0 (df b1::df b2::.obj b3 (.cells [.func (.func 114) #[] #[ptr b0 0]] .own)::pb b20 o11 l15 c8 (jl b15 o7 l10 e5 ba r8 c5 [fF b17 x14 x15 v3 v2,.obj b21 (.cells [bj a9 l20 c10,.slice a3 l18.length l14.length] .own),lp a9 c10 l20,.gen (nO a3 l14.length 1 l18.length (e4.take (Vx (v2-1):Int).toNat++e4.drop (v2:Int).toNat)),.gen (bY ba r0 l18 (e4.take (Vx (v2-1):Int).toNat++e4.drop (v2:Int).toNat))]))):WB Pc)) r16 g) rfl rfl (fun m hm=>?_)) ⟨⟨_,7,rfl,rfl,fun _=>⟨1,rfl⟩⟩,⟨⟨_,2,rfl,rfl,fun _=>⟨15,rfl⟩⟩,trivial⟩⟩ gn rfl ?_
 clear hF;revert r16;intro r hF;refine aW (N:=29) (rs:=[.cell 3 38]) rfl Tryz.func114 rfl rfl rfl hm ?_;refine wz ?_;refine wb fun b29=>?_;refine wa iT fun b46=>?_;refine wz ?_;refine VD<|VT (prs:=[(7,14),(9,14),(11,14)]) (by kernel_rfl)<|VC (aM (r:=ptr b0 0) rfl (gA _ _)) rfl<|VC (aH (k:=9) pE rfl rfl rfl) rfl<|VC (aM (r:=ptr b29 0) rfl (wE _ _)) rfl<|VC (aH (k:=1) bS rfl rfl rfl) rfl ?_
 obtain⟨h22,hF⟩:=bE hF;refine Wn.aZ (k:=10) rfl (aC h22) ?_;rintro b47 o13 rfl;refine VS (dJ uu rfl rfl h22) gn rfl ?_;obtain⟨⟨x20,x21⟩,h82,hF⟩:=J hF;refine VC (ga (k:=0) bN rfl rfl (cD h82) rfl rfl) rfl<|VC (aM (r:=ptr b0 0) rfl (gA _ _)) rfl<|VX rfl (aH (k:=10) pE rfl rfl rfl) rfl<|VC (aM (r:=ptr b29 1) rfl (wW _ _)) rfl<|VX rfl (aH (k:=2) bS rfl rfl rfl) rfl ?_;obtain⟨h83,hF⟩:=bE hF;refine VS (dJ uu rfl rfl h83) gn rfl ?_;obtain⟨⟨x22,x23⟩,h84,hF⟩:=J hF;refine VX rfl (ga (k:=0) bN rfl rfl (cD h84) rfl rfl) rfl<|V3 (jX iT rfl) gn rfl fun b48=>?_;refine V3 (jX iT rfl) gn rfl fun b49=>?_;refine Wn.Bl rfl (ek (k:=1) bN rfl rfl rfl rfl rfl)<|V1 (ek (k:=0) bN rfl rfl rfl rfl rfl)<|VP (fun m hm=>(cA.rw rfl rfl rfl (hm.ne (i:=12) (j:=1) rfl rfl rfl rfl (by decide) rfl) (cA.rw rfl rfl rfl (hm.ne (i:=4) (j:=1) rfl rfl rfl rfl (by decide) rfl) (cA.rw rfl rfl rfl (hm.ne (i:=1) (j:=2) rfl rfl rfl rfl (by decide) rfl).symm cA.nil)))) ?_
 refine an ?_;refine VB (cL rfl iT rfl (cJ yD rfl rfl rfl)) rfl ?_;refine an ?_;cases hF;exact VQ (.cell (k:=3) bN rfl rfl rfl .nil) fun m' hm=>⟨(),rfl,(ah.aq [11,12,13,14,15,16,17,18,19,21,22,23,24,25,20,7,8,6,5] rfl rfl) m' hm⟩;clear h81;obtain⟨v11,v12⟩:=r16;rintro⟨⟩;obtain⟨r38,h85,hF⟩:=J hF;refine V4 (ah.GP (k:=17) rfl)<|nc gn (fun m hm=>B9 h85 m (hm.q 2) (hm.q 5) (hm.dp (q:=4) rfl) (hm.q 16) (hm.q 17) (hm.dp (q:=18) rfl)) ?_;rintro⟨⟩;refine VC (DZ rfl rfl) rfl ?_;refine VP (fun m hm=>(by(first|refine cA.rk rfl rfl rfl (by simp) ?_|refine cA.step rfl ?_); exact(by(first|refine cA.rk rfl rfl rfl (by simp) ?_|refine cA.step rfl ?_); exact cA.nil))) ?_
 refine VI ?_;rcases aa hF with⟨h23,hF⟩|⟨h23,hF⟩;refine VZ rfl h23<|VD<|VT (prs:=[(1,2)]) (by kernel_rfl)<|VC (aM (r:=ptr b17 2) rfl (nE _ _)) rfl<|VX rfl (aH (k:=14) bS rfl rfl rfl) rfl<|Wn.Bl rfl (ek (k:=6) bS rfl rfl rfl rfl rfl)<|V1 (ek (k:=7) bS rfl rfl rfl rfl rfl)<|VP (fun m hm=>(cA.rw rfl rfl rfl (hm.ne (i:=14) (j:=6) rfl rfl rfl rfl (by decide) rfl) cA.nil)) ?_
 refine an ?_;cases hF;exact ae () (V5 0 14);refine wz ?_;cases hF;exact ae () (V5 0 14);rcases r15 with _|_;rintro⟨⟩;refine dM ?_;cases hF;exact ae () [0,10,3,4,5,11,12,13,1,2,6,7,8];rintro⟨⟩;refine an ?_;cases hF;exact ae () (V5 0 9);refine wz ?_;cases hF;exact ae () (0::V5 2 11);rcases r31 with _|_;rintro⟨⟩;refine wz ?_;cases hF;exact ae () (V5 0 9);rintro⟨⟩;refine an ?_;cases hF;exact ae () [0,1,2,3,6,5,7,8,9,10,11];refine wz ?_;cases hF;exact ae () [0,1,2,3,6,7,8,9,10];rcases r30 with _|_;rintro⟨⟩;refine wz ?_;cases hF;exact ae () [0,1,2,5,4,6,7,8];rintro⟨⟩;refine an ?_;cases hF;exact ae () [0,3,2,4,5,6,7,8];refine wz ?_;cases hF;exact ae () [0,3,4,1,2,5,6,7];rcases r29 with v25|_;rintro⟨⟩;refine At.br ?_;cases hF;exact VQ .nil fun m' hm=>⟨(),(ah.aq [0,1,2,3,4,5,6,7] rfl rfl) m' hm⟩;rintro⟨⟩;refine At.be ?_;cases hF;exact At.fin .nil fun m' hm=>⟨(),(ah.aq [0,1,2,3,4,5,6,7] rfl rfl) m' hm⟩;rcases r14 with v24|_;rintro⟨⟩
 change Wk _ _ _ _ .ret _ _ _ _
 refine wz ?_;cases hF;exact VQ (.cell (k:=4) bS rfl rfl rfl (.cell (k:=5) bS rfl rfl rfl .nil)) fun m' hm=>⟨(),rfl,(ah.aq [] rfl rfl) m' hm⟩;rintro⟨⟩
 change At _ .normal _ _ _
 refine an ?_;obtain⟨r32,h86,hF⟩:=J hF;refine wq (fun _ (b27:Nat)=>(.func (.func 126) #[] #[ptr b27 0],(cV b27 a0 l2 c1 a1 l1 c0 e0 aj r0 [E8 b0 a0 l2 c1 a1 l1 c0,df b1,df b2,.obj b3 (.cells [.func (.func 114) #[] #[ptr b0 0]] .own)]))) r32 (fun m hm=>?_) ?_;clear hF;revert r32;intro r hF;refine aW (N:=4) (rs:=[.tmp 2]) rfl Tryz.func103 rfl rfl rfl hm ?_;refine wz ?_;refine wb fun b38=>?_;refine an ?_;refine VB (jY rfl rfl) rfl ?_;refine an ?_;cases hF;exact ar b38 [0,2,3,4,1,5,6,7];rintro b27;refine wz ?_;refine VE ?_;obtain⟨r17,h87,hF⟩:=J hF;refine Wk.range (N:=50) (rs:=[]) (γ:=WC) (X:=fun g=>(fun(r:Int ⊕(WC)) (g:WC)=>(match r,g with|.inl v27,_=>⟨.done,(some .ret),(cV b0 a0 l2 c1 a1 l1 c0 e0 aj r0 [DV b1,eY b2 v27,.obj b3 (.cells [.func (.func 114) #[] #[ptr b0 0]] .own)])⟩|.inr _,_=>⟨.ready,none,(cV b0 a0 l2 c1 a1 l1 c0 e0 aj r0 [df b1,df b2,.obj b3 (.cells [.func (.func 114) #[] #[ptr b0 0]] .own)])⟩:Rn)) r17 g) rfl rfl Tryz.func126 rfl rfl rfl ?_ (fun y=>by rcases r17 with _|_<;>(intro e; cases e)) ?_
 clear hF;revert r17;intro r hF;intro t4 l4 r3 h88 h89;refine wz ?_;refine VE ?_;obtain⟨r33,h11,hF⟩:=J hF;refine ct (fun(r:Int ⊕(WC)) (g:WC)=>match r,g with|.inl v28,_=>⟨.ret,[],(.obj l4 (r3 .done (some .ret))::cV b0 a0 l2 c1 a1 l1 c0 e0 aj r0 [DV b1,eY b2 v28,.obj b3 (.cells [.func (.func 114) #[] #[ptr b0 0]] .own)])⟩|.inr _,_=>⟨(.exit 0),[],(.obj l4 (r3 .ready none)::cV b0 a0 l2 c1 a1 l1 c0 e0 aj r0 [df b1,df b2,.obj b3 (.cells [.func (.func 114) #[] #[ptr b0 0]] .own)])⟩) r33 ?_ ?_
 refine lo h11 () [0,3,4,5,2,6,7,8] (fun v1 _=>⟨.normal,((0,.func (.yield l4) #[] #[])::Au a1 l1 c0 v1 []),[.obj l4 (r3 .ready none),ko a1 c0 l1 e0,jH aj r0 l1 e0,E8 b0 a0 l2 c1 a1 l1 c0,iq a0 c1 l2,df b1,df b2,.obj b3 (.cells [.func (.func 114) #[] #[ptr b0 0]] .own)]⟩) ?_;clear hF h11;rintro v1 ⟨⟩ r hF;unfold my at hF;refine wz ?_;refine VD ?_;rcases aa hF with⟨h90,hF⟩|⟨h90,hF⟩;refine an ?_;obtain⟨h91,hF⟩:=bE hF;refine VO (k:=1) rfl (aC h91) ?_;rintro b5 o1 rfl;refine wz ?_;obtain⟨⟨l48,l49⟩,h92,hF⟩:=J hF;refine wl 2 0 3 0 h92 ?_;rintro⟨⟨a34,c20⟩,⟨a35,c21,e11⟩⟩;refine wa z31 fun b50=>?_;refine an ?_;obtain⟨l8,h93,hF⟩:=J hF;refine yU gn (fun m hm=>jW h93 m hm.cS (hm.q 1) (hm.no 1) (hm.q 2) (hm.no 2) (hm.dp (q:=3) rfl) (hm.ep (q:=3) rfl)) ?_;rintro⟨a24,c3,n5,e3,r7⟩;refine V2 (k:=0) (q:=1) (L:=l8) rfl (.inr (.inl ⟨_,rfl⟩)) rfl ?_;rintro rfl;refine wz ?_;refine VE ?_;obtain⟨r34,h12,hF⟩:=J hF;refine ct (fun(r:WC ⊕(WC)) (g:WC)=>match r,g with|.inl _,_=>⟨.ret,[],(.obj l4 (r3 .done (some .ret))::fB b0 a0 l2 c1 b5 o1 l1 c0 e0 aj r0 [DV b1,eY b2 v1,.obj b3 (.cells [.func (.func 114) #[] #[ptr b0 0]] .own)])⟩|.inr _,_=>⟨(.exit 2),((0,.func (.yield l4) #[] #[])::sq b5 o1 l1 c0 v1 []),(.obj l4 (r3 .ready none)::rJ b5 o1 l1 e0 aj r0 c0 (q6 b0 a0 l2 c1 b5 o1 l1 c0 b1 b2 [.obj b3 (.cells [.func (.func 114) #[] #[ptr b0 0]] .own)]))⟩) r34 ?_ ?_
 refine lo h12 () [7,6,9,8,0,1,10,11,12,13,14] (fun v6 _=>⟨.normal,((0,.func (.yield l4) #[] #[])::(3,aN v1)::sq b5 o1 l1 c0 v1 [(18,bj a24 l8 c3),(19,dh l8),(20,aN v6)]),(.obj l4 (r3 .ready none)::rJ b5 o1 l1 e0 aj r0 c0 (fL a24 c3 l8 e3 ba r7 (q6 b0 a0 l2 c1 b5 o1 l1 c0 b1 b2 [.obj b3 (.cells [.func (.func 114) #[] #[ptr b0 0]] .own)])))⟩) ?_;clear hF h12;rintro v6 ⟨⟩ r hF;unfold mL at hF;refine wz ?_;refine VD ?_;rcases aa hF with⟨h94,hF⟩|⟨h94,hF⟩;refine an ?_;obtain⟨h95,hF⟩:=bE hF;refine VO (k:=4) rfl (aC h95) ?_;rintro b12 o6 rfl;refine wz ?_;obtain⟨l12,h96,hF⟩:=J hF;refine wl 1 0 6 0 h96 ?_;rintro⟨a19,c6⟩;refine an ?_;refine VE ?_;obtain⟨r35,h13,hF⟩:=J hF;refine ct (fun(r:WC ⊕(WC)) (g:WC)=>match r,g with|.inl _,_=>⟨.ret,[],(.obj l4 (r3 .done (some .ret))::fB b0 a0 l2 c1 b5 o1 l1 c0 e0 aj r0 [DV b1,eY b2 v1,.obj b3 (.cells [.func (.func 114) #[] #[ptr b0 0]] .own)])⟩|.inr _,_=>⟨(.exit 4),((0,.func (.yield l4) #[] #[])::(3,aN v1)::sq b5 o1 l1 c0 v1 (uH b12 o6 l8 c3 v6 [])),(.obj l4 (r3 .ready none)::rJ b5 o1 l1 e0 aj r0 c0 (jl b12 o6 l8 e3 ba r7 c3 (q6 b0 a0 l2 c1 b5 o1 l1 c0 b1 b2 [.obj b3 (.cells [.func (.func 114) #[] #[ptr b0 0]] .own)])))⟩) r35 ?_ ?_
 refine lo h13 () [2,0,3,4,5,1,7,6,8,9,10,11,12] (fun v29 _=>⟨.normal,((0,.func (.yield l4) #[] #[])::(3,aN v1)::(5,aN v6)::(6,bj a19 l12 c6)::sq b5 o1 l1 c0 v1 (uH b12 o6 l8 c3 v6 [(25,bj a19 l12 c6),(26,dh l12),(27,aN v29)])),(.obj l4 (r3 .ready none)::lp a19 c6 l12::rJ b5 o1 l1 e0 aj r0 c0 (jl b12 o6 l8 e3 ba r7 c3 (q6 b0 a0 l2 c1 b5 o1 l1 c0 b1 b2 [.obj b3 (.cells [.func (.func 114) #[] #[ptr b0 0]] .own)])))⟩) ?_;clear hF h13;rintro v29 ⟨⟩ r hF;unfold lS at hF;refine wz ?_;refine VD ?_;rcases aa hF with⟨h97,hF⟩|⟨h97,hF⟩;refine an ?_;obtain⟨h98,hF⟩:=bE hF;refine VO (k:=1) rfl (aC h98) ?_;rintro b18 o9 rfl;refine wz ?_;obtain⟨x10,h120,hF⟩:=J hF;refine an ?_;obtain⟨h99,hF⟩:=aB hF;refine VB (aJ rfl rfl (cg _ _ h99)) rfl ?_;obtain⟨h121,hF⟩:=bE hF;refine wz ?_;obtain⟨x11,h122,hF⟩:=J hF;refine wz ?_;refine VB (cL rfl q7 rfl (cJ AU rfl rfl rfl)) rfl ?_;obtain⟨r18,h24,hF⟩:=J hF;refine VL (yb (k:=1) (k1:=0) (γA:=Nat) (GA:=(fun g:Nat=>(match g with|b13=>⟨.normal,((1,ptr b0 0)::rM b1 b2 [(8,ptr b3 0),(11,ptr b13 0)]),(.obj l4 (r3 .ready none)::fB b0 a0 l2 c1 b5 o1 l1 c0 e0 aj r0 (df b1::df b2::.obj b3 (.cells [.func (.func 114) #[] #[ptr b0 0]] .own)::fF b13 x10 x11 v1 v6::pb b18 o9 l12 c6 (jl b12 o6 l8 e3 ba r7 c3 [])))⟩:En))) (γ:=WC) (G:=fun g=>(fun(r:WC ⊕(WC)) (g:WC)=>(match r,g with|.inl _,_=>⟨.ret,[],(.obj l4 (r3 .busy none)::fB b0 a0 l2 c1 b5 o1 l1 c0 e0 aj r0 (DV b1::eY b2 v1::.obj b3 (.cells [.func (.func 114) #[] #[ptr b0 0]] .own)::pb b18 o9 l12 c6 (jl b12 o6 l8 e3 ba r7 c3 [])))⟩|.inr _,_=>⟨.normal,[],(.obj l4 (r3 .busy none)::fB b0 a0 l2 c1 b5 o1 l1 c0 e0 aj r0 (df b1::df b2::.obj b3 (.cells [.func (.func 114) #[] #[ptr b0 0]] .own)::pb b18 o9 l12 c6 (jl b12 o6 l8 e3 ba r7 c3 [])))⟩:En)) r18 g) rfl rfl rfl h89 h88 rfl ?_ (fun _=>rfl) (fun _=>rfl) ?_ (fun y=>by rcases r18 with _|_<;>rfl)) gn rfl ?_
 clear hF h24;refine VF<|wa q7 fun b39=>?_;refine wz ?_;exact ae b39 [2,10,11,4,5,6,12,13,14,0,1,3,7,8,9];clear hF;revert r18;intro r hF;rintro b13;refine wz ?_;refine VE ?_;obtain⟨r36,h14,hF⟩:=J hF;refine ct (fun(r:WC ⊕(WC)) (g:WC)=>match r,g with|.inl _,_=>⟨.ret,(rM b1 b2 []),(.obj l4 (r3 .busy none)::DV b1::eY b2 v1::fB b0 a0 l2 c1 b5 o1 l1 c0 e0 aj r0 (.obj b3 (.cells [.func (.func 114) #[] #[ptr b0 0]] .own)::pb b18 o9 l12 c6 (jl b12 o6 l8 e3 ba r7 c3 [])))⟩|.inr _,_=>⟨(.exit 8),((1,ptr b0 0)::rM b1 b2 [(8,ptr b3 0),(11,ptr b13 0)]),(.obj l4 (r3 .busy none)::fB b0 a0 l2 c1 b5 o1 l1 c0 e0 aj r0 (df b1::df b2::.obj b3 (.cells [.func (.func 114) #[] #[ptr b0 0]] .own)::fF b13 x10 x11 v1 v6::pb b18 o9 l12 c6 (jl b12 o6 l8 e3 ba r7 c3 [])))⟩) r36 ?_ ?_
 refine lo h14 () [0,1,2,3,4,5,6,7,8,9,10,11,12,13,14] (fun v13 _=>⟨.normal,((1,ptr b0 0)::rM b1 b2 [(8,ptr b3 0),(11,ptr b13 0),(82,nQ b5 o1 l1 c0),(83,dh l1),(84,aN v13)]),(.obj l4 (r3 .busy none)::fB b0 a0 l2 c1 b5 o1 l1 c0 e0 aj r0 (df b1::df b2::.obj b3 (.cells [.func (.func 114) #[] #[ptr b0 0]] .own)::fF b13 x10 x11 v1 v6::pb b18 o9 l12 c6 (jl b12 o6 l8 e3 ba r7 c3 [])))⟩) ?_;clear hF h14;rintro v13 ⟨⟩ r hF;unfold sO at hF;refine wz ?_;refine VD ?_;rcases aa hF with⟨h100,hF⟩|⟨h100,hF⟩;refine an ?_;obtain⟨h123,hF⟩:=bE hF;refine wz ?_;obtain⟨⟨l42,l43⟩,h101,hF⟩:=J hF;refine wl 2 0 4 3 h101 ?_;rintro⟨⟨a25,c12⟩,⟨a26,c13,e7⟩⟩;refine wa z31 fun b30=>?_;refine wz ?_;refine VD ?_;obtain⟨v10,h102,hF⟩:=J hF;refine ct (fun v10 (_:WC)=>⟨.normal,((1,ptr b0 0)::rM b1 b2 [(8,ptr b3 0),(11,ptr b13 0),(82,nQ b5 o1 l1 c0),(83,dh l1),(84,aN v13),(100,.bool v10)]),(.obj l4 (r3 .busy none)::fB b0 a0 l2 c1 b5 o1 l1 c0 e0 aj r0 (df b1::df b2::.obj b3 (.cells [.func (.func 114) #[] #[ptr b0 0]] .own)::fF b13 x10 x11 v1 v6::pb b18 o9 l12 c6 (jl b12 o6 l8 e3 ba r7 c3 [])))⟩) v10 ?_ ?_;clear hF;revert v10;intro r hF;refine VT (prs:=[(5,9),(6,9)]) (by kernel_rfl)<|VC (aK rfl) rfl<|VC (aM (r:=ptr b13 2) rfl (nE _ _)) rfl<|VC (aH (k:=13) bS rfl rfl rfl) rfl<|VC (aJ rfl rfl (rO _ _)) rfl<|VC (aK rfl) rfl ?_
 rcases aa hF with⟨h0,hF⟩|⟨h0,hF⟩;refine Wn.Ro rfl (aH (k:=5) fG rfl rfl rfl) (gg rfl rfl (dL h0)) rfl<|Wn.Ro rfl (aH (k:=0) HH rfl rfl rfl) (gg rfl rfl (dL h0)) rfl<|VS (aH (k:=12) Jz rfl rfl rfl) (gg rfl rfl (dL h0)) rfl<|VS (aH (k:=13) Jj rfl rfl rfl) (gg rfl rfl (dL h0)) rfl ?_;obtain⟨r19,h103,hF⟩:=J hF;refine Wn.xk (l:=[b0,b30]) (mz (α:=WC) (V:=fun g=>(fun(r:Int×Int) (g:WC)=>match r,g with |(v14,v15),_=>(.agg #[aN v14,aN v15]:Vs)) r19 g) (N:=fun g=>(fun(r:Int×Int) (g:WC)=>match r,g with |(v14,v15),_=>((.obj l4 (r3 .busy none)::fB b0 a0 l2 c1 b5 o1 l1 c0 e0 aj r0 (df b1::df b2::.obj b3 (.cells [.func (.func 114) #[] #[ptr b0 0]] .own)::pb b18 o9 l12 c6 (jl b12 o6 l8 e3 ba r7 c3 (fF b13 x10 x11 v1 v6::E8 b30 a25 l42 c12 a26 l43 c13::lp a25 c12 l42::fL a26 c13 l43 e7 ba r0 [])))):WB Pc)) r19 g) rfl rfl (fun m hm=>?_)) ⟨⟨_,5,rfl,rfl,fun _=>⟨1,rfl⟩⟩,⟨⟨_,0,rfl,rfl,fun _=>⟨15,rfl⟩⟩,trivial⟩⟩ (gg rfl rfl (dL h0)) rfl ?_
 clear hF;revert r19;intro r hF;refine aW (N:=29) (rs:=[.cell 3 38]) rfl Tryz.func114 rfl rfl rfl hm ?_;refine wz ?_;refine wb fun b31=>?_;refine wa iT fun b51=>?_;refine wz ?_;refine VD<|VT (prs:=[(7,14),(9,14),(11,14)]) (by kernel_rfl)<|VC (aM (r:=ptr b0 0) rfl (gA _ _)) rfl<|VC (aH (k:=7) pE rfl rfl rfl) rfl<|VC (aM (r:=ptr b31 0) rfl (wE _ _)) rfl<|VC (aH (k:=1) bS rfl rfl rfl) rfl ?_
 obtain⟨h25,hF⟩:=bE hF;refine Wn.aZ (k:=8) rfl (aC h25) ?_;rintro b52 o14 rfl;refine VS (dJ uu rfl rfl h25) gn rfl ?_;obtain⟨⟨x24,x25⟩,h104,hF⟩:=J hF;refine VC (ga (k:=0) bN rfl rfl (cD h104) rfl rfl) rfl<|VC (aM (r:=ptr b0 0) rfl (gA _ _)) rfl<|VX rfl (aH (k:=8) pE rfl rfl rfl) rfl<|VC (aM (r:=ptr b31 1) rfl (wW _ _)) rfl<|VX rfl (aH (k:=2) bS rfl rfl rfl) rfl ?_;obtain⟨h105,hF⟩:=bE hF;refine VS (dJ uu rfl rfl h105) gn rfl ?_;obtain⟨⟨x26,x27⟩,h106,hF⟩:=J hF;refine VX rfl (ga (k:=0) bN rfl rfl (cD h106) rfl rfl) rfl<|V3 (jX iT rfl) gn rfl fun b53=>?_;refine V3 (jX iT rfl) gn rfl fun b54=>?_;refine Wn.Bl rfl (ek (k:=1) bN rfl rfl rfl rfl rfl)<|V1 (ek (k:=0) bN rfl rfl rfl rfl rfl)<|VP (fun m hm=>(cA.rw rfl rfl rfl (hm.ne (i:=10) (j:=1) rfl rfl rfl rfl (by decide) rfl) (cA.rw rfl rfl rfl (hm.ne (i:=4) (j:=1) rfl rfl rfl rfl (by decide) rfl) (cA.rw rfl rfl rfl (hm.ne (i:=1) (j:=2) rfl rfl rfl rfl (by decide) rfl).symm cA.nil)))) ?_
 refine an ?_;refine VB (cL rfl iT rfl (cJ yD rfl rfl rfl)) rfl ?_;refine an ?_;cases hF;exact VQ (.cell (k:=3) bN rfl rfl rfl .nil) fun m' hm=>⟨(),rfl,(ah.aq [9,10,11,12,13,14,15,16,17,19,20,21,22,23,18,5,6,7,8] rfl rfl) m' hm⟩;clear h103;obtain⟨v14,v15⟩:=r19;rintro⟨⟩;obtain⟨r39,h107,hF⟩:=J hF;refine nc (gg rfl rfl (dL h0)) (fun m hm=>B9 h107 m (hm.q 2) (hm.q 5) (hm.dp (q:=4) rfl) (hm.q 16) (hm.q 17) (hm.dp (q:=18) rfl)) ?_;rintro⟨⟩;refine VC (uw rfl h0 rfl) rfl ?_;refine VP (fun m hm=>(by(first|refine cA.rk rfl rfl rfl (by simp) ?_|refine cA.step rfl ?_); exact(by(first|refine cA.rk rfl rfl rfl (by simp) ?_|refine cA.step rfl ?_); exact cA.nil))) ?_
 obtain rfl:=SX hF;exact ae () [0,1,2,3,4,5,6,7,8,14,9,10,11,12,13];refine VU (gg rfl rfl (oi h0)) rfl<|VU (gg rfl rfl (oi h0)) rfl<|VU (gg rfl rfl (oi h0)) rfl<|VU (gg rfl rfl (oi h0)) rfl<|VU (gg rfl rfl (oi h0)) rfl<|VU (gg rfl rfl (oi h0)) rfl<|VC (uL rfl h0 rfl) rfl ?_;refine VP (fun m hm=>(by(first|refine cA.rk rfl rfl rfl (by simp) ?_|refine cA.step rfl ?_); exact(by(first|refine cA.rk rfl rfl rfl (by simp) ?_|refine cA.step rfl ?_); exact cA.nil))) ?_
 cases hF;exact ae () (V5 4 15);rintro⟨⟩;refine VI ?_;rcases aa hF with⟨h26,hF⟩|⟨h26,hF⟩;refine VZ rfl h26<|VD<|VT (prs:=[(1,2)]) (by kernel_rfl)<|VC (aM (r:=ptr b13 2) rfl (nE _ _)) rfl<|VX rfl (aH (k:=9) bS rfl rfl rfl) rfl<|Wn.Bl rfl (ek (k:=6) bS rfl rfl rfl rfl rfl)<|V1 (ek (k:=7) bS rfl rfl rfl rfl rfl)<|VP (fun m hm=>(cA.rw rfl rfl rfl (hm.ne (i:=9) (j:=6) rfl rfl rfl rfl (by decide) rfl) cA.nil)) ?_
 refine an ?_;cases hF;exact ae () [0,6,7,1,2,3,4,5,8,10,11,12,13,14];refine an ?_;cases hF;exact ae () (V5 0 15);refine wz ?_;cases hF;exact ae () (V5 0 15);rcases r36 with _|_;rintro⟨⟩;refine wz ?_;cases hF;exact ae () (0::3::4::5::6::7::1::2::V5 8 6);rintro⟨⟩;refine wz ?_;cases hF;exact ae () [0,1,2,3,4,5,6,7,8,10,11,12,13,14];rcases r18 with _|_;rintro⟨⟩;refine an ?_;cases hF;exact ae () (V5 0 9);rintro⟨⟩;refine dM ?_;cases hF;exact ae () [0,10,3,4,5,11,12,13,1,2,6,7,8];refine wz ?_;cases hF;exact ae () (0::V5 2 11);rcases r35 with _|_;rintro⟨⟩;refine wz ?_;cases hF;exact ae () (V5 0 9);rintro⟨⟩;refine an ?_;cases hF;exact ae () [0,1,2,3,6,5,7,8,9,10,11];refine wz ?_;cases hF;exact ae () [0,1,2,3,6,7,8,9,10];rcases r34 with _|_;rintro⟨⟩;refine wz ?_;cases hF;exact ae () [0,1,2,5,4,6,7,8];rintro⟨⟩;refine an ?_;cases hF;exact ae () [0,3,2,4,5,6,7,8];refine wz ?_;cases hF;exact ae () [0,3,4,1,2,5,6,7];rcases r33 with v28|_;rintro⟨⟩;refine At.br ?_;cases hF;exact VQ .nil fun m' hm=>⟨(),(ah.aq [0,1,2,3,4,5,6,7] rfl rfl) m' hm⟩;rintro⟨⟩;refine At.be ?_;cases hF;exact At.fin .nil fun m' hm=>⟨(),(ah.aq [0,1,2,3,4,5,6,7] rfl rfl) m' hm⟩;rcases r17 with v27|_;rintro⟨⟩
 change Wk _ _ _ _ .ret _ _ _ _
 refine wz ?_;cases hF;exact VQ (.cell (k:=4) bS rfl rfl rfl (.cell (k:=5) bS rfl rfl rfl .nil)) fun m' hm=>⟨(),rfl,(ah.aq [] rfl rfl) m' hm⟩;rintro⟨⟩
 change At _ .normal _ _ _
 refine dM ?_;cases hF;exact VQ (.cell (k:=4) bS rfl rfl rfl (.cell (k:=5) bS rfl rfl rfl .nil)) fun m' hm=>⟨(),rfl,(ah.aq [] rfl rfl) m' hm⟩
def HF{n l2 l1 a0 c1 a1 c0}{r0:Vr}{e0:Vp}{r}(hF:Po n l2 l1=some r)(m)(h12:dZ m a0 c1 l2)(h13:fN m a1 c0 l1 e0)(h14:(bY aj r0 l1 e0).P m):
 aG (We p q) 45 [eu a0 l2 c1 a1 l1 c0] m (Wa m (.tuple #[.int .i64 r.1,.int .i64 r.2])):=by
 unfold Po at hF;refine cw Tryz.func45 (VW (VJ (VJ (VG m) bX h12) (bU bX) h13) (bU (bU bX)) h14) ?_;refine wz ?_;refine wb fun b0=>?_;refine an ?_;refine VD ?_;obtain⟨v1,h15,hF⟩:=J hF;refine ct (fun v1 (_:WC)=>⟨.normal,[(1,ptr b0 0),(33,.bool v1)],(cV b0 a0 l2 c1 a1 l1 c0 e0 aj r0 [])⟩) v1 ?_ ?_;clear hF;revert v1;intro r hF;refine wz ?_;rcases aa hF with⟨h16,hF⟩|⟨h16,hF⟩;refine wz ?_;cases hF;exact ae () [0,3,2,1];refine wz ?_;rcases aa hF with⟨h17,hF⟩|⟨h17,hF⟩;refine wz ?_;cases hF;exact ae () [0,3,2,1];refine wz ?_;rcases aa hF with⟨h18,hF⟩|⟨h18,hF⟩;refine wz ?_;cases hF;exact ae () [0,3,2,1];refine wz ?_;cases hF;exact ae () [0,3,2,1];rintro⟨⟩;refine VI ?_;rcases aa hF with⟨h19,hF⟩|⟨h19,hF⟩;refine an ?_;cases hF;exact ar () [];refine an ?_;obtain⟨v2,h20,hF⟩:=J hF;refine wq (fun v2 (_:WC)=>(.int .i64 v2,(cV b0 a0 l2 c1 a1 l1 c0 e0 aj r0 []))) v2 (fun m hm=>?_) ?_;clear hF;revert v2;intro r hF;refine aW (N:=19) (rs:=[.tmp 4]) rfl Tryz.func73 rfl rfl rfl hm ?_;refine an ?_;refine VE ?_;obtain⟨r1,h3,hF⟩:=J hF;refine ct (fun(r:Int ⊕(WC)) (g:WC)=>match r,g with|.inl v14,_=>⟨.ret,[(4,aN v14)],(cV b0 a0 l2 c1 a1 l1 c0 e0 aj r0 [])⟩|.inr _,_=>⟨(.exit 0),[],(cV b0 a0 l2 c1 a1 l1 c0 e0 aj r0 [])⟩) r1 ?_ ?_
 refine lo h3 () [1,0,2,3] (fun v15 _=>⟨.normal,((1,.func (.func 56) #[] #[])::Al a0 l2 c1 v15 []),[iq a0 c1 l2,E8 b0 a0 l2 c1 a1 l1 c0,ko a1 c0 l1 e0,jH aj r0 l1 e0]⟩) ?_;clear hF h3;rintro v15 ⟨⟩ r hF;unfold zq at hF;refine wz ?_;refine VD ?_;rcases aa hF with⟨h21,hF⟩|⟨h21,hF⟩;refine an ?_;obtain⟨h22,hF⟩:=bE hF;refine VO (k:=0) rfl (aC h22) ?_;rintro b9 o7 rfl;refine wz ?_;obtain⟨⟨x10,x11⟩,h79,hF⟩:=J hF;refine wz ?_;refine wa iT fun b10=>?_;refine an ?_;obtain⟨r13,h23,hF⟩:=J hF;refine wc gn (fun m hm=>Fj h23 m) ?_;rintro⟨⟩;refine wz ?_;rcases aa hF with⟨h24,hF⟩|⟨h24,hF⟩;refine an ?_;cases hF;exact ae () [3,2,4,5];refine an ?_;cases hF;exact ae () [2,3,4,5];refine wz ?_;cases hF;exact ae () [1,0,2,3];rcases r1 with v14|_;rintro⟨⟩;refine wz ?_;obtain rfl:=SX hF;exact ar () [0,1,2,3];rintro⟨⟩;refine dM ?_;cases hF;exact ar () [0,1,2,3];rintro⟨⟩;refine an ?_;rcases aa hF with⟨h25,hF⟩|⟨h25,hF⟩;refine an ?_;cases hF;exact ar () [];refine an ?_;refine VL HI gn rfl fun b5=>?_;refine an ?_;refine VE ?_;obtain⟨r3,h4,hF⟩:=J hF;refine ct (fun(r:Int ⊕(WC)) (g:WC)=>match r,g with|.inl v16,_=>⟨.ret,[(2,.int .i64 3),(3,aN v16)],[]⟩|.inr _,_=>⟨(.exit 0),[(1,ptr b0 0)],(cV b0 a0 l2 c1 a1 l1 c0 e0 aj r0 [])⟩) r3 ?_ ?_
 refine lo h4 () [1,2,3,4,0] (fun(l6,v17) _=>⟨.normal,[(1,ptr b0 0),(6,.map (some b5)),(42,bj a0 l2 c1),(43,dh l2),(44,aN v17)],(cV b0 a0 l2 c1 a1 l1 c0 e0 aj r0 [.obj b5 (.map (l6.map (eM (fun p:Int×Int=>.agg #[.int .i64 p.1,.int .i64 p.2]) (fun b:Bool=>.bool b))))])⟩) ?_;clear hF h4;rintro⟨l6,v17⟩ ⟨⟩ r hF;unfold qC at hF;refine wz ?_;refine VD ?_;rcases aa hF with⟨h26,hF⟩|⟨h26,hF⟩;refine an ?_;obtain⟨h27,hF⟩:=bE hF;refine VO (k:=1) rfl (aC h27) ?_;rintro b11 o8 rfl;refine wz ?_;obtain⟨⟨x3,x4⟩,h80,hF⟩:=J hF;refine wz ?_;refine wa iT fun b12=>?_;refine an ?_;obtain⟨y0,h28,hF⟩:=J hF;refine VB (My (q:=6) (xs:=l6) (k:=(x3,x4)) (vE:=(fun b:Bool=>.bool b)) (z0:=false) Qg (Fk CV) z4 rfl rfl rfl rfl h28) rfl ?_;refine wz ?_;rcases aa hF with⟨h29,hF⟩|⟨h29,hF⟩;refine an ?_;cases hF;exact ae () [];refine an ?_;refine V0 (D9 (q:=6) (xs:=l6) (k:=(x3,x4)) (v:=true) (vE:=(fun b:Bool=>.bool b)) Qg (Fk CV) rfl rfl rfl rfl) ?_;refine an ?_;cases hF;exact ae () (V5 2 5);refine wz ?_;cases hF;exact ae () [0,1,2,3];rcases r3 with v16|_;rintro⟨⟩;refine wz ?_;cases hF;exact ar () [];rintro⟨⟩;refine an ?_;refine wa Sd fun b1=>?_;refine an ?_;refine VB (jY rfl rfl) rfl ?_;obtain⟨v3,h30,hF⟩:=J hF;refine wq (fun v3 (_:WC)=>(.int .i64 v3,(cV b0 a0 l2 c1 a1 l1 c0 e0 aj r0 [.obj b1 (.cells [.func (.func 74) #[] #[]] .own)]))) v3 (fun m hm=>?_) ?_;clear hF;revert v3;intro r hF;refine aW (N:=19) (rs:=[.tmp 4]) rfl Tryz.func57 rfl rfl rfl hm ?_;refine an ?_;refine VE ?_;obtain⟨r4,h5,hF⟩:=J hF;refine ct (fun(r:Int ⊕(WC)) (g:WC)=>match r,g with|.inl v18,_=>⟨.ret,[(4,aN v18)],(cV b0 a0 l2 c1 a1 l1 c0 e0 aj r0 [.obj b1 (.cells [.func (.func 74) #[] #[]] .own)])⟩|.inr _,_=>⟨(.exit 0),[],(cV b0 a0 l2 c1 a1 l1 c0 e0 aj r0 [.obj b1 (.cells [.func (.func 74) #[] #[]] .own)])⟩) r4 ?_ ?_
 refine lo h5 () [0,1,2,3,4] (fun v19 _=>⟨.normal,((1,.func (.func 75) #[] #[ptr b1 0,ptr b0 0])::Al a1 l1 c0 v19 []),(.obj b1 (.cells [.func (.func 74) #[] #[]] .own)::cV b0 a0 l2 c1 a1 l1 c0 e0 aj r0 [])⟩) ?_;clear hF h5;rintro v19 ⟨⟩ r hF;unfold Ar at hF;refine wz ?_;refine VD ?_;rcases aa hF with⟨h31,hF⟩|⟨h31,hF⟩;refine an ?_;obtain⟨h32,hF⟩:=bE hF;refine VO (k:=3) rfl (aC h32) ?_;rintro b2 o1 rfl;refine wz ?_;obtain⟨⟨l9,l10⟩,h33,hF⟩:=J hF;refine wl 2 0 5 0 h33 ?_;rintro⟨⟨a5,c5⟩,⟨a6,c6,e5⟩⟩;refine wa z31 fun b13=>?_;refine an ?_;obtain⟨v4,h34,hF⟩:=J hF;refine wq (fun v4 (_:WC)=>(.bool v4,(fB b0 a0 l2 c1 b2 o1 l1 c0 e0 aj r0 [.obj b1 (.cells [.func (.func 74) #[] #[]] .own)]))) v4 (fun m hm=>?_) ?_;clear hF;revert v4;intro r hF;refine aW (N:=15) (rs:=[.tmp 4]) rfl Tryz.func75 rfl rfl rfl hm ?_;refine wz ?_;refine wb fun b14=>?_;refine an ?_;rcases aa hF with⟨h6,hF⟩|⟨h6,hF⟩;refine an ?_;cases hF;exact ar () [7,8,5,10,9,6];refine wz ?_;refine VM (jY rfl rfl) (gg rfl rfl (jG h6)) rfl ?_;obtain⟨v0,h35,hF⟩:=J hF;refine VL (mz (α:=WC) (V:=fun g=>(fun(r:Bool) (g:WC)=>match r,g with|v0,_=>(.bool v0:Vs)) v0 g) (N:=fun g=>(fun(r:Bool) (g:WC)=>match r,g with|v0,_=>((fB b0 a0 l2 c1 b2 o1 l1 c0 e0 aj r0 [.obj b1 (.cells [.func (.func 74) #[] #[]] .own)]):WB Pc)) v0 g) rfl rfl (fun m hm=>?_)) (gg rfl rfl (jG h6)) rfl ?_
 clear hF;revert v0;intro r hF;refine aW (N:=20) (rs:=[.tmp 4]) rfl Tryz.func74 rfl rfl rfl hm ?_;refine wz ?_;refine wb fun b15=>?_;refine an ?_;obtain⟨l3,h36,hF⟩:=J hF;refine yU gn (fun m hm=>jW h36 m hm.cS (hm.q 3) (hm.no 3) (hm.q 4) (hm.no 4) (hm.dp (q:=5) rfl) (hm.ep (q:=5) rfl)) ?_;rintro⟨a2,c2,n0,e1,r5⟩;refine V2 (k:=0) (q:=1) (L:=l3) rfl (.inr (.inl ⟨_,rfl⟩)) rfl ?_;rintro rfl;refine wz ?_;refine VE ?_;obtain⟨r6,h7,hF⟩:=J hF;refine ct (fun(r:WC ⊕(WC)) (g:WC)=>match r,g with|.inl _,_=>⟨.ret,[(4,.bool true)],(fB b0 a0 l2 c1 b2 o1 l1 c0 e0 aj r0 [.obj b1 (.cells [.func (.func 74) #[] #[]] .own)])⟩|.inr _,_=>⟨(.exit 0),[],(fB b0 a0 l2 c1 b2 o1 l1 c0 e0 aj r0 [.obj b1 (.cells [.func (.func 74) #[] #[]] .own)])⟩) r6 ?_ ?_
 refine lo h7 () [10,11,8,13,12,0,1,9] (fun v20 _=>⟨.normal,[(1,.func (.func 76) #[] #[ptr b0 0]),(8,bj a2 l3 c2),(9,dh l3),(10,aN v20)],(fB b0 a0 l2 c1 b2 o1 l1 c0 e0 aj r0 (fL a2 c2 l3 e1 ba r5 [.obj b1 (.cells [.func (.func 74) #[] #[]] .own)]))⟩) ?_;clear hF h7;rintro v20 ⟨⟩ r hF;unfold AI at hF;refine wz ?_;refine VD ?_;rcases aa hF with⟨h37,hF⟩|⟨h37,hF⟩;refine an ?_;obtain⟨h38,hF⟩:=bE hF;refine VO (k:=5) rfl (aC h38) ?_;rintro b6 o4 rfl;refine wz ?_;obtain⟨l11,h39,hF⟩:=J hF;refine wl 1 0 7 0 h39 ?_;rintro⟨a7,c7⟩;refine an ?_;obtain⟨v5,h40,hF⟩:=J hF;refine wq (fun v5 (_:WC)=>(.bool v5,(fB b0 a0 l2 c1 b2 o1 l1 c0 e0 aj r0 (.obj b1 (.cells [.func (.func 74) #[] #[]] .own)::jl b6 o4 l3 e1 ba r5 c2 [])))) v5 (fun m hm=>?_) ?_;clear hF;revert v5;intro r hF;refine aW (N:=27) (rs:=[.tmp 5]) rfl Tryz.func76 rfl rfl rfl hm ?_;refine wz ?_;refine VD<|VT (prs:=[(15,17),(15,18)]) (by kernel_rfl)<|VC (aK rfl) rfl<|VC (jU (k:=0) Kq rfl rfl (.inl rfl)) rfl<|VC (aJ rfl rfl (gE _ _ _)) rfl<|VC (aK rfl) rfl ?_
 rcases aa hF with⟨h1,hF⟩|⟨h1,hF⟩;refine VU (gg rfl rfl (pc h1)) rfl<|VU (gg rfl rfl (pc h1)) rfl<|VU (gg rfl rfl (pc h1)) rfl<|VC (uw rfl h1 rfl) rfl<|VC (aK rfl) rfl<|VU (gg rfl rfl rfl) rfl<|VU (gg rfl rfl rfl) rfl<|VU (gg rfl rfl rfl) rfl<|VC (GY rfl rfl) rfl<|VC (aK rfl) rfl ?_;refine VU (gg rfl rfl rfl) rfl<|VU (gg rfl rfl rfl) rfl<|VU (gg rfl rfl rfl) rfl<|VU (gg rfl rfl rfl) rfl<|VU (gg rfl rfl rfl) rfl<|VU (gg rfl rfl rfl) rfl<|VC (GY rfl rfl) rfl<|VC (bQ rfl) rfl<|VP (fun m hm=>cA.all rfl) ?_;refine an ?_;cases hF;exact ar () [2,3,4,5,6,9,1,8,7];refine VS (aK rfl) (gg rfl rfl (jG h1)) rfl<|VS (jU (k:=0) Kq rfl rfl (.inl rfl)) (gg rfl rfl (jG h1)) rfl<|VS (aJ rfl rfl (iN _ _ _)) (gg rfl rfl (jG h1)) rfl<|VC (uL rfl h1 rfl) rfl<|VC (aK rfl) rfl ?_;rcases aa hF with⟨h2,hF⟩|⟨h2,hF⟩;refine VU (gg rfl rfl (pc h2)) rfl<|VU (gg rfl rfl (pc h2)) rfl<|VU (gg rfl rfl (pc h2)) rfl<|VC (uw rfl h2 rfl) rfl<|VC (aK rfl) rfl<|VU (gg rfl rfl rfl) rfl<|VU (gg rfl rfl rfl) rfl<|VU (gg rfl rfl rfl) rfl<|VU (gg rfl rfl rfl) rfl<|VU (gg rfl rfl rfl) rfl ?_;refine VU (gg rfl rfl rfl) rfl<|VC (GY rfl rfl) rfl<|VC (bQ rfl) rfl<|VP (fun m hm=>cA.all rfl) ?_;refine an ?_;cases hF;exact ar () [2,3,4,5,6,9,1,8,7];refine VS (aK rfl) (gg rfl rfl (jG h2)) rfl ?_;obtain⟨r14,h41,hF⟩:=J hF;refine nc (gg rfl rfl (jG h2)) (fun m hm=>Ny h41 m (hm.q 0)) ?_;rintro⟨⟩;refine VS (aJ rfl rfl (gE _ _ _)) (gg rfl rfl (jG h2)) rfl<|VC (uL rfl h2 rfl) rfl<|VC (aK rfl) rfl ?_;rcases aa hF with⟨h0,hF⟩|⟨h0,hF⟩;refine VU (gg rfl rfl (pc h0)) rfl<|VU (gg rfl rfl (pc h0)) rfl<|VU (gg rfl rfl (pc h0)) rfl<|VU (gg rfl rfl (pc h0)) rfl<|VU (gg rfl rfl (pc h0)) rfl<|VU (gg rfl rfl (pc h0)) rfl<|VC (uw rfl h0 rfl) rfl<|VC (bQ rfl) rfl<|VP (fun m hm=>cA.all rfl) ?_;refine an ?_;cases hF;exact ar () [2,3,4,5,6,9,1,8,7];refine VS (aK rfl) (gg rfl rfl (jG h0)) rfl ?_;obtain⟨r15,h42,hF⟩:=J hF;refine nc (gg rfl rfl (jG h0)) (fun m hm=>O1 h42 m (hm.q 0)) ?_;rintro⟨⟩;refine VS (aM (r:=ptr b0 0) rfl (gA _ _)) (gg rfl rfl (jG h0)) rfl<|VS (aH (k:=2) pE rfl rfl rfl) (gg rfl rfl (jG h0)) rfl<|VS (jU (k:=3) NY rfl rfl (.inl rfl)) (gg rfl rfl (jG h0)) rfl<|VS (aJ rfl rfl (wB _ _ _)) (gg rfl rfl (jG h0)) rfl<|VC (uL rfl h0 rfl) rfl<|VC (bQ rfl) rfl<|VP (fun m hm=>cA.all rfl) ?_;refine an ?_;cases hF;exact ar () [2,3,4,5,6,9,1,8,7];rintro⟨⟩;refine wz ?_;rcases aa hF with⟨h43,hF⟩|⟨h43,hF⟩;refine an ?_;cases hF;exact ae () (V5 0 6);refine an ?_;cases hF;exact ae () [0,1,2,3,4,8,7,5];refine wz ?_;cases hF;exact ae () [0,1,2,3,4,7];rcases r6 with _|_;rintro⟨⟩;refine wz ?_;cases hF;exact ar () (V5 0 6);rintro⟨⟩;refine dM ?_;cases hF;exact ar () (V5 0 6);rintro⟨⟩;refine an ?_;obtain rfl:=SX hF;exact ar () (V5 0 6);rintro⟨⟩;refine wz ?_;rcases aa hF with⟨h44,hF⟩|⟨h44,hF⟩;refine an ?_;cases hF;exact ae () [0,1,4,3,5];refine an ?_;cases hF;exact ae () [5,0,1,4,3];refine wz ?_;cases hF;exact ae () [1,2,3,4,0];rcases r4 with v18|_;rintro⟨⟩;refine wz ?_;obtain rfl:=SX hF;exact ar () (V5 0 5);rintro⟨⟩;refine dM ?_;cases hF;exact ar () (V5 0 5);rintro⟨⟩;refine an ?_;rcases aa hF with⟨h45,hF⟩|⟨h45,hF⟩;refine an ?_;cases hF;exact ar () [];refine an ?_;refine VB (jY rfl rfl) rfl ?_;obtain⟨v6,h46,hF⟩:=J hF;refine wq (fun v6 (_:WC)=>(.int .i64 v6,(cV b0 a0 l2 c1 a1 l1 c0 e0 aj r0 [.obj b1 (.cells [.func (.func 74) #[] #[]] .own)]))) v6 (fun m hm=>?_) ?_;clear hF;revert v6;intro r hF;refine aW (N:=19) (rs:=[.tmp 4]) rfl Tryz.func57 rfl rfl rfl hm ?_;refine an ?_;refine VE ?_;obtain⟨r7,h8,hF⟩:=J hF;refine ct (fun(r:Int ⊕(WC)) (g:WC)=>match r,g with|.inl v21,_=>⟨.ret,[(4,aN v21)],(cV b0 a0 l2 c1 a1 l1 c0 e0 aj r0 [.obj b1 (.cells [.func (.func 74) #[] #[]] .own)])⟩|.inr _,_=>⟨(.exit 0),[],(cV b0 a0 l2 c1 a1 l1 c0 e0 aj r0 [.obj b1 (.cells [.func (.func 74) #[] #[]] .own)])⟩) r7 ?_ ?_
 refine lo h8 () [4,0,1,2,3] (fun v22 _=>⟨.normal,((1,.func (.func 79) #[] #[ptr b1 0,ptr b0 0])::Al a1 l1 c0 v22 []),(.obj b1 (.cells [.func (.func 74) #[] #[]] .own)::cV b0 a0 l2 c1 a1 l1 c0 e0 aj r0 [])⟩) ?_;clear hF h8;rintro v22 ⟨⟩ r hF;unfold ze at hF;refine wz ?_;refine VD ?_;rcases aa hF with⟨h47,hF⟩|⟨h47,hF⟩;refine an ?_;obtain⟨h48,hF⟩:=bE hF;refine VO (k:=3) rfl (aC h48) ?_;rintro b3 o2 rfl;refine wz ?_;obtain⟨⟨l12,l13⟩,h49,hF⟩:=J hF;refine wl 2 0 5 0 h49 ?_;rintro⟨⟨a8,c8⟩,⟨a9,c9,e6⟩⟩;refine wa z31 fun b16=>?_;refine an ?_;obtain⟨v7,h50,hF⟩:=J hF;refine wq (fun v7 (_:WC)=>(.bool v7,(fB b0 a0 l2 c1 b3 o2 l1 c0 e0 aj r0 [.obj b1 (.cells [.func (.func 74) #[] #[]] .own)]))) v7 (fun m hm=>?_) ?_;clear hF;revert v7;intro r hF;refine aW (N:=9) (rs:=[.tmp 4]) rfl Tryz.func79 rfl rfl rfl hm ?_;refine wz ?_;refine wb fun b17=>?_;refine an ?_;refine VB (jY rfl rfl) rfl ?_;obtain⟨v8,h51,hF⟩:=J hF;refine wq (fun v8 (_:WC)=>(.bool v8,(fB b0 a0 l2 c1 b3 o2 l1 c0 e0 aj r0 [.obj b1 (.cells [.func (.func 74) #[] #[]] .own)]))) v8 (fun m hm=>?_) ?_;clear hF;revert v8;intro r hF;refine aW (N:=20) (rs:=[.tmp 4]) rfl Tryz.func74 rfl rfl rfl hm ?_;refine wz ?_;refine wb fun b18=>?_;refine an ?_;obtain⟨l4,h52,hF⟩:=J hF;refine yU gn (fun m hm=>jW h52 m hm.cS (hm.q 3) (hm.no 3) (hm.q 4) (hm.no 4) (hm.dp (q:=5) rfl) (hm.ep (q:=5) rfl)) ?_;rintro⟨a3,c3,n1,e3,r8⟩;refine V2 (k:=0) (q:=1) (L:=l4) rfl (.inr (.inl ⟨_,rfl⟩)) rfl ?_;rintro rfl;refine wz ?_;refine VE ?_;obtain⟨r9,h9,hF⟩:=J hF;refine ct (fun(r:WC ⊕(WC)) (g:WC)=>match r,g with|.inl _,_=>⟨.ret,[(4,.bool true)],(fB b0 a0 l2 c1 b3 o2 l1 c0 e0 aj r0 [.obj b1 (.cells [.func (.func 74) #[] #[]] .own)])⟩|.inr _,_=>⟨(.exit 0),[],(fB b0 a0 l2 c1 b3 o2 l1 c0 e0 aj r0 [.obj b1 (.cells [.func (.func 74) #[] #[]] .own)])⟩) r9 ?_ ?_
 refine lo h9 () [10,11,8,13,12,0,1,9] (fun v23 _=>⟨.normal,[(1,.func (.func 80) #[] #[ptr b0 0]),(8,bj a3 l4 c3),(9,dh l4),(10,aN v23)],(fB b0 a0 l2 c1 b3 o2 l1 c0 e0 aj r0 (fL a3 c3 l4 e3 ba r8 [.obj b1 (.cells [.func (.func 74) #[] #[]] .own)]))⟩) ?_;clear hF h9;rintro v23 ⟨⟩ r hF;unfold yL at hF;refine wz ?_;refine VD ?_;rcases aa hF with⟨h53,hF⟩|⟨h53,hF⟩;refine an ?_;obtain⟨h54,hF⟩:=bE hF;refine VO (k:=5) rfl (aC h54) ?_;rintro b7 o5 rfl;refine wz ?_;obtain⟨l14,h55,hF⟩:=J hF;refine wl 1 0 7 0 h55 ?_;rintro⟨a10,c10⟩;refine an ?_;obtain⟨v9,h56,hF⟩:=J hF;refine wq (fun v9 (_:WC)=>(.bool v9,(fB b0 a0 l2 c1 b3 o2 l1 c0 e0 aj r0 (.obj b1 (.cells [.func (.func 74) #[] #[]] .own)::jl b7 o5 l4 e3 ba r8 c3 [])))) v9 (fun m hm=>?_) ?_;clear hF;revert v9;intro r hF;refine aW (N:=11) (rs:=[.tmp 5]) rfl Tryz.func80 rfl rfl rfl hm ?_;refine an ?_;obtain⟨l7,h57,hF⟩:=J hF;refine wc gn (fun m hm=>p5 h57 m (hm.q 3) (hm.q 6) (hm.dp (q:=5) rfl) (hm.q 0)) ?_;rintro⟨a11,n2⟩;refine VY (k:=0) (xs:=l7) rfl ?_;rintro rfl;obtain⟨r16,h58,hF⟩:=J hF;refine wc gn (fun m hm=>M3 h58 m (hm.rd (k:=0) rfl (.sl _ _ _ _))) ?_;rintro⟨⟩;refine an ?_;cases hF;exact ar () [3,4,5,6,7,10,2,9,8];rintro⟨⟩;refine wz ?_;rcases aa hF with⟨h59,hF⟩|⟨h59,hF⟩;refine an ?_;cases hF;exact ae () (V5 0 6);refine an ?_;cases hF;exact ae () [0,1,2,3,4,8,7,5];refine wz ?_;cases hF;exact ae () [0,1,2,3,4,7];rcases r9 with _|_;rintro⟨⟩;refine wz ?_;cases hF;exact ar () (V5 0 6);rintro⟨⟩;refine dM ?_;cases hF;exact ar () (V5 0 6);rintro⟨⟩;refine an ?_;obtain rfl:=SX hF;exact ar () (V5 0 6);rintro⟨⟩;refine wz ?_;rcases aa hF with⟨h60,hF⟩|⟨h60,hF⟩;refine an ?_;cases hF;exact ae () [0,1,4,3,5];refine an ?_;cases hF;exact ae () [5,0,1,4,3];refine wz ?_;cases hF;exact ae () [1,2,3,4,0];rcases r7 with v21|_;rintro⟨⟩;refine wz ?_;obtain rfl:=SX hF;exact ar () (V5 0 5);rintro⟨⟩;refine dM ?_;cases hF;exact ar () (V5 0 5);rintro⟨⟩;refine an ?_;rcases aa hF with⟨h61,hF⟩|⟨h61,hF⟩;refine an ?_;cases hF;exact ar () [];refine an ?_;refine VB (jY rfl rfl) rfl ?_;obtain⟨v10,h62,hF⟩:=J hF;refine wq (fun v10 (_:WC)=>(.int .i64 v10,(cV b0 a0 l2 c1 a1 l1 c0 e0 aj r0 []))) v10 (fun m hm=>?_) ?_;clear hF;revert v10;intro r hF;refine aW (N:=19) (rs:=[.tmp 4]) rfl Tryz.func57 rfl rfl rfl hm ?_;refine an ?_;refine VE ?_;obtain⟨r10,h10,hF⟩:=J hF;refine ct (fun(r:Int ⊕(WC)) (g:WC)=>match r,g with|.inl v24,_=>⟨.ret,[(4,aN v24)],(cV b0 a0 l2 c1 a1 l1 c0 e0 aj r0 [])⟩|.inr _,_=>⟨(.exit 0),[],(cV b0 a0 l2 c1 a1 l1 c0 e0 aj r0 [])⟩) r10 ?_ ?_
 refine lo h10 () [4,0,1,2,3] (fun v25 _=>⟨.normal,((1,.func (.func 82) #[] #[ptr b1 0,ptr b0 0])::Al a1 l1 c0 v25 []),(.obj b1 (.cells [.func (.func 74) #[] #[]] .own)::cV b0 a0 l2 c1 a1 l1 c0 e0 aj r0 [])⟩) ?_;clear hF h10;rintro v25 ⟨⟩ r hF;unfold zM at hF;refine wz ?_;refine VD ?_;rcases aa hF with⟨h63,hF⟩|⟨h63,hF⟩;refine an ?_;obtain⟨h64,hF⟩:=bE hF;refine VO (k:=3) rfl (aC h64) ?_;rintro b4 o3 rfl;refine wz ?_;obtain⟨⟨l15,l16⟩,h65,hF⟩:=J hF;refine wl 2 0 5 0 h65 ?_;rintro⟨⟨a12,c11⟩,⟨a13,c12,e7⟩⟩;refine wa z31 fun b19=>?_;refine an ?_;obtain⟨v11,h66,hF⟩:=J hF;refine wq (fun v11 (_:WC)=>(.bool v11,(fB b0 a0 l2 c1 b4 o3 l1 c0 e0 aj r0 [.obj b1 (.cells [.func (.func 74) #[] #[]] .own)]))) v11 (fun m hm=>?_) ?_;clear hF;revert v11;intro r hF;refine aW (N:=9) (rs:=[.tmp 4]) rfl Tryz.func82 rfl rfl rfl hm ?_;refine wz ?_;refine wb fun b20=>?_;refine an ?_;refine VB (jY rfl rfl) rfl ?_;obtain⟨v12,h67,hF⟩:=J hF;refine wq (fun v12 (_:WC)=>(.bool v12,(fB b0 a0 l2 c1 b4 o3 l1 c0 e0 aj r0 [.obj b1 (.cells [.func (.func 74) #[] #[]] .own)]))) v12 (fun m hm=>?_) ?_;clear hF;revert v12;intro r hF;refine aW (N:=20) (rs:=[.tmp 4]) rfl Tryz.func74 rfl rfl rfl hm ?_;refine wz ?_;refine wb fun b21=>?_;refine an ?_;obtain⟨l5,h68,hF⟩:=J hF;refine yU gn (fun m hm=>jW h68 m hm.cS (hm.q 3) (hm.no 3) (hm.q 4) (hm.no 4) (hm.dp (q:=5) rfl) (hm.ep (q:=5) rfl)) ?_;rintro⟨a4,c4,n4,e4,r11⟩;refine V2 (k:=0) (q:=1) (L:=l5) rfl (.inr (.inl ⟨_,rfl⟩)) rfl ?_;rintro rfl;refine wz ?_;refine VE ?_;obtain⟨r12,h11,hF⟩:=J hF;refine ct (fun(r:WC ⊕(WC)) (g:WC)=>match r,g with|.inl _,_=>⟨.ret,[(4,.bool true)],(fB b0 a0 l2 c1 b4 o3 l1 c0 e0 aj r0 [.obj b1 (.cells [.func (.func 74) #[] #[]] .own)])⟩|.inr _,_=>⟨(.exit 0),[],(fB b0 a0 l2 c1 b4 o3 l1 c0 e0 aj r0 [.obj b1 (.cells [.func (.func 74) #[] #[]] .own)])⟩) r12 ?_ ?_
 refine lo h11 () [10,11,8,13,12,0,1,9] (fun v26 _=>⟨.normal,[(1,.func (.func 83) #[] #[ptr b0 0]),(8,bj a4 l5 c4),(9,dh l5),(10,aN v26)],(fB b0 a0 l2 c1 b4 o3 l1 c0 e0 aj r0 (fL a4 c4 l5 e4 ba r11 [.obj b1 (.cells [.func (.func 74) #[] #[]] .own)]))⟩) ?_;clear hF h11;rintro v26 ⟨⟩ r hF;unfold yP at hF;refine wz ?_;refine VD ?_;rcases aa hF with⟨h69,hF⟩|⟨h69,hF⟩;refine an ?_;obtain⟨h70,hF⟩:=bE hF;refine VO (k:=5) rfl (aC h70) ?_;rintro b8 o6 rfl;refine wz ?_;obtain⟨l17,h71,hF⟩:=J hF;refine wl 1 0 7 0 h71 ?_;rintro⟨a14,c13⟩;refine an ?_;obtain⟨v13,h72,hF⟩:=J hF;refine wq (fun v13 (_:WC)=>(.bool v13,(fB b0 a0 l2 c1 b4 o3 l1 c0 e0 aj r0 (.obj b1 (.cells [.func (.func 74) #[] #[]] .own)::jl b8 o6 l5 e4 ba r11 c4 [])))) v13 (fun m hm=>?_) ?_;clear hF;revert v13;intro r hF;refine aW (N:=14) (rs:=[.tmp 5]) rfl Tryz.func83 rfl rfl rfl hm ?_;refine an ?_;obtain⟨l8,h73,hF⟩:=J hF;refine wc gn (fun m hm=>p5 h73 m (hm.q 3) (hm.q 6) (hm.dp (q:=5) rfl) (hm.q 0)) ?_;rintro⟨a15,n5⟩;refine VY (k:=0) (xs:=l8) rfl ?_;rintro rfl;obtain⟨r17,h74,hF⟩:=J hF;refine wc gn (fun m hm=>Ha h74 m (hm.rd (k:=0) rfl (.sl _ _ _ _))) ?_;rintro⟨⟩;refine wz ?_;refine VB (aJ rfl rfl (Gd u4)) rfl ?_;refine an ?_;cases hF;exact ar () [3,4,5,6,7,10,2,9,8];rintro⟨⟩;refine wz ?_;rcases aa hF with⟨h75,hF⟩|⟨h75,hF⟩;refine an ?_;cases hF;exact ae () (V5 0 6);refine an ?_;cases hF;exact ae () [0,1,2,3,4,8,7,5];refine wz ?_;cases hF;exact ae () [0,1,2,3,4,7];rcases r12 with _|_;rintro⟨⟩;refine wz ?_;cases hF;exact ar () (V5 0 6);rintro⟨⟩;refine dM ?_;cases hF;exact ar () (V5 0 6);rintro⟨⟩;refine an ?_;obtain rfl:=SX hF;exact ar () (V5 0 6);rintro⟨⟩;refine wz ?_;rcases aa hF with⟨h76,hF⟩|⟨h76,hF⟩;refine an ?_;cases hF;exact ae () [0,1,4,3];refine an ?_;cases hF;exact ae () [5,0,1,4,3];refine wz ?_;cases hF;exact ae () [1,2,3,4];rcases r10 with v24|_;rintro⟨⟩;refine wz ?_;obtain rfl:=SX hF;exact ar () [0,1,2,3];rintro⟨⟩;refine dM ?_;cases hF;exact ar () [0,1,2,3];rintro⟨⟩;refine an ?_;rcases aa hF with⟨h77,hF⟩|⟨h77,hF⟩;refine an ?_;cases hF;exact ar () [];refine an ?_;obtain⟨⟨r18,r19⟩,h78,hF⟩:=J hF;refine wc gn (fun m hm=>M0 h78 m (hm.q 1) (hm.q 2) (hm.dp (q:=3) rfl)) ?_;rintro⟨⟩;refine an ?_;cases hF;exact ar () []
def yp{n l1 l5 a2 c3 a6 c7}{rr8:Vr}{es9:Vp}{r}(hF:Mh n l1 l5=some r)(m)(h4:dZ m a2 c3 l1)(h10:fN m a6 c7 l5 es9)(h11:(bY aj rr8 l5 es9).P m):
 aG (We p q) 47 [eu a2 l1 c3 a6 l5 c7] m (Wa m (.int .i64 r)):=by
 unfold Mh at hF;refine cw Tryz.func47 (VW (VJ (VJ (VG m) bX h4) (bU bX) h10) (bU (bU bX)) h11) ?_;refine wz ?_;refine wb fun b12=>?_;refine an ?_;obtain⟨⟨r14,r15⟩,h13,hF⟩:=J hF;refine wc gn (fun m hm=>HF h13 m (hm.q 3) (hm.q 2) (hm.dp (q:=1) rfl)) ?_;rintro⟨⟩;refine an ?_;rcases aa hF with⟨h16,hF⟩|⟨h16,hF⟩;refine an ?_;cases hF;exact ar () [];refine dM ?_;cases hF;exact ar () []
def G1(n l1 b1 b2 b0){m0:Wb}: ∀(k:Nat) (x3:Int) (r0:Int),JI n l1 k () x3=some r0->∀(rest:WB Pc) (m:Wb),Hp m0 m (.obj b1 (.cells [.map (some b2)] .own)::.obj b2 (.map (l1.map (eM (fun n:Int=>.int .i64 n) (fun n:Int=>.int .i64 n))))::.obj b0 (.cells [.func (.func 67) #[] #[ptr b1 0,ptr b0 0]] .own)::rest) ->
 aG (We (some mP) q) 67 [aN x3,ptr b1 0,ptr b0 0] m (fun v m'=>∃_:WC,v=.int .i64 r0/\Hp m0 m' (.obj b1 (.cells [.map (some b2)] .own)::.obj b2 (.map (l1.map (eM (fun n:Int=>.int .i64 n) (fun n:Int=>.int .i64 n))))::.obj b0 (.cells [.func (.func 67) #[] #[ptr b1 0,ptr b0 0]] .own)::rest)):=by
 intro k
 induction k with
 | zero=>intro x3 r0 hF; cases hF
 | succ k ih =>
 intro x3 r0 hF rest m hm;replace hF:BQ n (JI n l1 k) l1 () x3=_:=hF;unfold BQ at hF;refine aW (N:=23) (rs:=[.tmp 4]) rfl Tryz.func67 rfl rfl rfl hm ?_;clear hm;refine an ?_;obtain⟨⟨y0,y1⟩,h1,hF⟩:=J hF;refine VB (GJ (q:=1) (xs:=l1) (k:=x3) (vE:=(fun n:Int=>.int .i64 n)) (z0:=(0:Int)) Pq (LI u3) z3 rfl rfl rfl rfl h1) rfl ?_;refine wz ?_;refine VD ?_;obtain⟨v0,h2,hF⟩:=J hF;refine ct (fun v0 (_:WC)=>⟨.normal,[(0,aN x3),(2,ptr b0 0),(5,aN y0),(18,.bool v0)],(.obj b0 (.cells [.func (.func 67) #[] #[ptr b1 0,ptr b0 0]] .own)::.obj b1 (.cells [.map (some b2)] .own)::.obj b2 (.map (l1.map (eM (fun n:Int=>.int .i64 n) (fun n:Int=>.int .i64 n))))::rest)⟩) v0 ?_ ?_;clear hF;revert v0;intro r hF;refine wz ?_;rcases aa hF with⟨h3,hF⟩|⟨h3,hF⟩;refine wz ?_;cases hF;exact aT () (ah.lO 3 [2,0,1] rfl rfl rfl);refine wz ?_;cases hF;exact aT () (ah.lO 3 [2,0,1] rfl rfl rfl);rintro⟨⟩;refine VI ?_;rcases aa hF with⟨h0,hF⟩|⟨h0,hF⟩;refine VZ rfl h0<|VD<|VF<|VB (aH (k:=0) Kf rfl rfl rfl) rfl<|VB (aK rfl) rfl ?_;obtain⟨r1,h4,hF⟩:=J hF;refine VK (ah.lO 3 [1,2,0] rfl rfl rfl)<|VL (mz (α:=WC) (V:=fun _=>.int .i64 r1) (N:=fun _=>(.obj b1 (.cells [.map (some b2)] .own)::.obj b2 (.map (l1.map (eM (fun n:Int=>.int .i64 n) (fun n:Int=>.int .i64 n))))::.obj b0 (.cells [.func (.func 67) #[] #[ptr b1 0,ptr b0 0]] .own)::rest)) rfl rfl (fun m hm=>ih y0 r1 h4 rest m hm)) gn rfl fun _=>?_;refine an ?_;have hr:=SX hF;subst r0;exact VQ (.tmp rfl .nil) fun m' hm=>⟨(),rfl,(ah.lO 3 [0,1,2] rfl rfl rfl) m' hm⟩;refine dM ?_;have hr:=SX hF;subst r0;exact VQ (.tmp rfl .nil) fun m' hm=>⟨(),rfl,(ah.lO 3 [1,2,0] rfl rfl rfl) m' hm⟩
def JW(hE:EnvOk (We (some mP) q))(n:Nat)(l3:Vn)(l2:Vl)(a0:Vq)(c0:Nat)(a1:Vq)(c1:Nat)(r0:Vr)(e0:Vp)(r:(Int×Int×Int×Int×Int) ⊕(WB (Vm)×Vn))(hF:Ku n l3 l2=some r)(m:Wb)(h16:dZ m a0 c0 l3)(h17:fN m a1 c1 l2 e0)(h18:(bY aj r0 l2 e0).P m){R:Vs->Wb->Prop}(kR:∀x,r=.inl x->∀m':Wb,Hp m m' []->R (.tuple #[.int .i64 x.1,.int .i64 x.2.1,.int .i64 x.2.2.1,.int .i64 x.2.2.2.1,.int .i64 x.2.2.2.2]) m')(kN:∀x,r=.inr x->∀g:Nat×Vq×Nat×Nat,Vk (We (some mP) q) 84 38 none (QQ 7 (mO Tryz.f38)) (jy (We (some mP) q) [.tmp 2,.tmp 3,.tmp 4,.tmp 5,.tmp 6] R) m ((fun(r:WB (Vm)×Vn) (g:Nat×Vq×Nat×Nat)=>match r,g with |(l7,l9),(b6,a3,b7,b8)=>([(1,ptr b6 0),(5,.int .i64 0),(8,bP a3 l7),(9,ptr b7 0)]:Fs)) x g) ((fun(r:WB (Vm)×Vn) (g:Nat×Vq×Nat×Nat)=>match r,g with |(l7,l9),(b6,a3,b7,b8)=>((cV b6 a0 l3 c0 a1 l2 c1 e0 aj r0 [iu a3 l7,eD b7 b8,yq b8 l9]):WB Pc)) x g)) :
 Vk (We (some mP) q) 84 38 none (mO Tryz.f38) (jy (We (some mP) q) [.tmp 2,.tmp 3,.tmp 4,.tmp 5,.tmp 6] R) m (nX [eu a0 l3 c0 a1 l2 c1] 0 []) [jH aj r0 l2 e0,ko a1 c1 l2 e0,iq a0 c0 l3]:=by
 unfold Ku at hF;refine Vk.seq hE<|VF<|wb fun b3=>?_;refine wz ?_;refine At.IF<|Vk.seq hE ?_;refine wz ?_;obtain⟨r4,h4,hF⟩:=J hF;refine wc gn (fun m hm=>yp h4 m (hm.q 3) (hm.q 2) (hm.dp (q:=1) rfl)) ?_;rintro⟨⟩;refine an ?_;rcases aa hF with⟨h5,hF⟩|⟨h5,hF⟩;refine an ?_;cases hF;exact VQ (.tmp rfl (.tmp rfl (.tmp rfl (.tmp rfl (.tmp rfl .nil))))) fun m' hm=>kR _ rfl m' (ah.aq [] rfl rfl m' hm);refine wz ?_;refine At.IF<|Vk.seq hE ?_;refine wz ?_;obtain⟨l1,h6,hF⟩:=J hF;refine wc gn (fun m hm=>IL n l3 l2 a0 c0 a1 c1 r0 e0 _ h6 m (hm.q 3) (hm.q 2) (hm.dp (q:=1) rfl)) ?_;rintro⟨a2,n0⟩;refine VY (k:=0) (xs:=l1) rfl ?_;rintro rfl;refine wz ?_;refine At.IF<|Vk.seq hE<|VF<|VL HI gn rfl fun b2=>?_;refine wa Sz fun b0=>?_;refine wz ?_;refine At.IF<|Vk.seq hE<|VF<|wa z93 fun b1=>?_;refine VN<|At.IF<|Vk.seq hE<|VF<|VB (jY rfl rfl) rfl ?_;refine wz ?_;refine At.IF<|Vk.seq hE ?_;refine wz ?_;refine VE ?_;obtain⟨l8,h1,hF⟩:=J hF;refine ct (fun l8 (_:WC)=>⟨(.exit 0),[(1,ptr b3 0),(5,.int .i64 0),(8,bP a2 l1),(9,ptr b0 0)],(cV b3 a0 l3 c0 a1 l2 c1 e0 aj r0 [iu a2 l1,eD b0 b2,yq b2 l8])⟩) l8 ?_ ?_;refine lo h1 () [4,7,6,5,3,1,2,0] (fun(l10,v0) _=>⟨.normal,[(1,ptr b3 0),(5,.int .i64 0),(8,bP a2 l1),(9,ptr b0 0),(10,ptr b1 0),(28,bP a2 l1),(29,dh l1),(30,aN v0)],(cV b3 a0 l3 c0 a1 l2 c1 e0 aj r0 [iu a2 l1,eD b0 b2,yq b2 l10,.obj b1 (.cells [.func (.func 67) #[] #[ptr b0 0,ptr b1 0]] .own)])⟩) ?_;clear hF h1;rintro⟨l10,v0⟩ ⟨⟩ r hF;unfold u1 at hF;refine wz ?_;refine VD ?_;rcases aa hF with⟨h7,hF⟩|⟨h7,hF⟩;refine an ?_;obtain⟨h8,hF⟩:=bE hF;refine VV (k:=4) rfl (aC h8) ?_;rintro b4 t0 rfl h19;refine wz ?_;obtain⟨⟨x3,x4,x10,x11⟩,h20,hF⟩:=J hF;refine wz ?_;refine wa z64 fun b5=>?_;refine an ?_;refine VB (cL rfl z67 rfl (cJ RM rfl rfl rfl)) rfl ?_;refine wz ?_;refine VE ?_;obtain⟨l4,h2,hF⟩:=J hF;refine ct (fun l4 (_:WC)=>⟨(.exit 2),[(1,ptr b3 0),(5,.int .i64 0),(8,rf b4 l1),(9,ptr b0 0),(10,ptr b1 0),(12,ptr b5 0),(28,rf b4 l1),(29,dh l1),(30,aN v0)],(cV b3 a0 l3 c0 a1 l2 c1 e0 aj r0 [q8 b4 l1 t0,eD b0 b2,yq b2 l4,.obj b1 (.cells [.func (.func 67) #[] #[ptr b0 0,ptr b1 0]] .own),fF b5 x3 x4 x10 x11])⟩) l4 ?_ ?_;refine lo h2 () [1,2,3,4,5,6,7,8,0] (fun(l5,v1) _=>⟨.normal,[(1,ptr b3 0),(5,.int .i64 0),(8,rf b4 l1),(9,ptr b0 0),(10,ptr b1 0),(12,ptr b5 0),(28,rf b4 l1),(29,dh l1),(30,aN v0),(38,fy x3 x4),(39,aN v1)],(cV b3 a0 l3 c0 a1 l2 c1 e0 aj r0 [q8 b4 l1 t0,eD b0 b2,yq b2 l5,.obj b1 (.cells [.func (.func 67) #[] #[ptr b0 0,ptr b1 0]] .own),fF b5 x3 x4 x10 x11])⟩) ?_;clear hF h2;rintro⟨l5,v1⟩ ⟨⟩ r hF;unfold oe at hF;refine wz ?_;refine VD ?_;rcases aa hF with⟨h9,hF⟩|⟨h9,hF⟩;refine wz ?_;refine VD ?_;obtain⟨l6,h10,hF⟩:=J hF;refine ct (fun l6 (_:WC)=>⟨.normal,[(1,ptr b3 0),(5,.int .i64 0),(8,rf b4 l1),(9,ptr b0 0),(10,ptr b1 0),(12,ptr b5 0),(28,rf b4 l1),(29,dh l1),(30,aN v0),(38,fy x3 x4),(39,aN v1)],(cV b3 a0 l3 c0 a1 l2 c1 e0 aj r0 [q8 b4 l1 t0,eD b0 b2,yq b2 l6,.obj b1 (.cells [.func (.func 67) #[] #[ptr b0 0,ptr b1 0]] .own),fF b5 x3 x4 x10 x11])⟩) l6 ?_ ?_;clear hF;revert l6;intro r hF;refine wz ?_;obtain⟨h11,hF⟩:=aB hF;obtain⟨x12,h0,hF⟩:=J hF;refine VL (FE (α:=WC) (V:=fun g=>match g with|_=>.int .i64 x12) (N:=fun g=>match g with|_=>[]++(cV b3 a0 l3 c0 a1 l2 c1 e0 aj r0 [q8 b4 l1 t0,eD b0 b2,yq b2 l5,.obj b1 (.cells [.func (.func 67) #[] #[ptr b0 0,ptr b1 0]] .own),fF b5 x3 x4 x10 x11])) rfl rfl (fun m hm=>?_)) gn rfl ?_
 have hj:=pf h11;obtain⟨j,h3⟩:∃j:Nat,(v1:Int)=j:=⟨_,(TH hj.1).symm⟩;rw[h3] at h0 hj ⊢;rw[Ti] at h0 hj;replace hj:=hj.2;clear hF h3
 match j,hj,h0 with
 | 0,_,h0=>cases h0; exact⟨(),xG N9 (i:=0) (by decide) (A4 bS rfl),hm⟩
 | 1,_,h0=>cases h0; exact⟨(),xG N9 (i:=1) (by decide) (A4 bS rfl),hm⟩
 | _+2,hj,_=>exact Tj hj (by omega)
 rintro⟨⟩;refine an ?_;obtain⟨⟨y0,y1⟩,h12,hF⟩:=J hF;refine VB (GJ (q:=6) (xs:=l5) (k:=x12) (vE:=(fun n:Int=>.int .i64 n)) (z0:=(0:Int)) Pq (LI u3) z3 rfl rfl rfl rfl h12) rfl ?_;refine an ?_;rcases aa hF with⟨h13,hF⟩|⟨h13,hF⟩;refine wz ?_;refine V0 (D9 (q:=6) (xs:=l5) (k:=x12) (v:=x12) (vE:=(fun n:Int=>.int .i64 n)) Pq (LI u3) rfl rfl rfl rfl) ?_;refine wz ?_;cases hF;exact ae () (V5 0 9);refine wz ?_;obtain rfl:=SX hF;exact ae () (V5 0 9);rintro⟨⟩;refine an ?_;cases hF;exact ae () (V5 0 9);refine wz ?_;cases hF;exact ae () (V5 0 9);rintro⟨⟩;refine wz ?_;refine VT (prs:=[(0,4),(4,5),(4,7),(0,8)]) (by kernel_rfl)<|VX rfl (aH (k:=5) LZ rfl rfl rfl) rfl<|VC (aH (k:=7) Kf rfl rfl rfl) rfl<|VC (aM (r:=ptr b5 0) rfl (sQ _ _)) rfl<|VC (aH (k:=8) bS rfl rfl rfl) rfl ?_
 obtain⟨r1,h14,hF⟩:=J hF;refine V4 (ah.aq [5,6,7,0,1,2,3,4,8] rfl rfl) ?_;refine Wn.xk (l:=[b0,b1,b5]) (mz (α:=WC) (V:=fun _=>.int .i64 r1) (N:=fun _=>(eD b0 b2::yq b2 l4::.obj b1 (.cells [.func (.func 67) #[] #[ptr b0 0,ptr b1 0]] .own)::cV b3 a0 l3 c0 a1 l2 c1 e0 aj r0 [q8 b4 l1 t0,fF b5 x3 x4 x10 x11])) rfl rfl (fun m hm=>G1 n l4 b0 b2 b1 n x3 r1 h14 ((cV b3 a0 l3 c0 a1 l2 c1 e0 aj r0 [q8 b4 l1 t0,fF b5 x3 x4 x10 x11])) m hm)) ⟨⟨_,0,rfl,rfl,fun _=>⟨0,rfl⟩⟩,⟨⟨_,2,rfl,rfl,fun _=>⟨2,rfl⟩⟩,⟨⟨_,8,rfl,rfl,fun _=>⟨8,rfl⟩⟩,trivial⟩⟩⟩ gn rfl fun _=>?_;refine VX rfl (aH (k:=2) Kf rfl rfl rfl) rfl<|VC (aM (r:=ptr b5 1) rfl (tC _ _)) rfl<|VX rfl (aH (k:=8) bS rfl rfl rfl) rfl ?_;obtain⟨r3,h15,hF⟩:=J hF;refine V4 (ah.aq [0,1,2,3,4,5,6,7,8] rfl rfl) ?_;refine Wn.xk (l:=[b0]) (mz (α:=WC) (V:=fun _=>.int .i64 r3) (N:=fun _=>(eD b0 b2::yq b2 l4::.obj b1 (.cells [.func (.func 67) #[] #[ptr b0 0,ptr b1 0]] .own)::cV b3 a0 l3 c0 a1 l2 c1 e0 aj r0 [q8 b4 l1 t0,fF b5 x3 x4 x10 x11])) rfl rfl (fun m hm=>G1 n l4 b0 b2 b1 n x4 r3 h15 ((cV b3 a0 l3 c0 a1 l2 c1 e0 aj r0 [q8 b4 l1 t0,fF b5 x3 x4 x10 x11])) m hm)) ⟨⟨_,0,rfl,rfl,fun _=>⟨0,rfl⟩⟩,trivial⟩ gn rfl fun _=>?_;refine V1 (D9 (q:=1) (xs:=l4) (k:=r1) (v:=r3) (vE:=(fun n:Int=>.int .i64 n)) Pq (LI u3) rfl rfl rfl rfl) ?_;refine VP (fun m hm=>(by(first|refine cA.rk rfl rfl rfl (by simp) ?_|refine cA.step rfl ?_); exact(by(first|refine cA.kr rfl rfl rfl (by simp) ?_|refine cA.step rfl ?_); exact(by(first|refine cA.kr rfl rfl rfl (by simp) ?_|refine cA.step rfl ?_); exact(by(first|refine cA.rk rfl rfl rfl (by simp) ?_|refine cA.step rfl ?_); exact cA.nil))))) ?_
 refine an ?_;cases hF;exact aT () (ah.trans (ah.close (k:=7) rfl) (ah.aq [3,4,5,6,7,0,1,2] rfl rfl));refine wz ?_;cases hF;exact ae () (V5 0 7);rintro⟨⟩;refine At.be<|At.IF ?_;cases hF;exact Vk.Jr (sc rfl (sc rfl (sc rfl (sc rfl sn)))) (ah.aq [0,1,2,3,4,5,6] rfl rfl) (kN _ rfl (b3,a2,b0,b2))
end
section
open Go Go.Ab Go.Ab.W
set_option maxRecDepth 10000
attribute [local irreducible] Tm.at Trie.set Trie.get Wb.get Wb.set Wb.alloc Wb.ww Wb.kill
def jn(r:Vn)(S:WB Nat):Int:=((S.filterMap fun i=>r[i]?).countP (fun p=>decide (p.1=p.2)):Nat)
def rV{r:Vn}{S:WB Nat}{i:Nat}{e:Int×Int}(h:r[i]? = some e):jn r (S++[i])=jn r S+if e.1=e.2 then 1 else 0:=by
 unfold jn;rw[List.filterMap_append,List.countP_append];simp[h,List.countP_cons]
 split<;>rfl
def Gk{r:Vn}{S:WB Nat}:0<=jn r S/\jn r S<=S.length:=by
 unfold jn;have h1:=List.countP_le_length (p:=fun p:Int×Int=>decide (p.1=p.2)) (l:=S.filterMap fun i=>r[i]?);have h2:=List.length_filterMap_le (fun i=>r[i]?) S;omega
def Aw(r:Vn):jn r (List.range r.length)=jK r:=by
 unfold jn jK;have:∀(r:Vn),(List.range r.length).filterMap (fun i=>r[i]?)=r:=by
  intro r
  induction r with
  | nil=>rfl
  | cons x r ih =>
   rw[TJ,List.range_succ_eq_map,List.filterMap_cons];simp only[Tt,List.filterMap_map]
   congr 1
 rw[this]
def BH{r:Vn}{S:WB Nat}(h:S.Perm (List.range r.length)):jn r S=jK r:=by
 rw[<-Aw];unfold jn;rw[(h.filterMap _).countP_eq]
def Fu{x:Int}(h1:0<=x)(h2:x<=1073741825):Vx x=x:=by
 simp only[IntKind.wrap,IntKind.bits,IntKind.signed]
 show(if(true&&decide (x%18446744073709551616≥9223372036854775808))=true then x%18446744073709551616-18446744073709551616 else x%18446744073709551616)=x
 simp only[Ut,S9]
 split<;>omega
abbrev IM:Int×Int->Vs×Vs:=eM (fun n:Int=>.int .i64 n) (fun n:Int=>.int .i64 n)
abbrev KA(x:Int×Int×Int×Int×Int):Vs:=.tuple #[.int .i64 x.1,.int .i64 x.2.1,.int .i64 x.2.2.1,.int .i64 x.2.2.2.1,.int .i64 x.2.2.2.2]
set_option maxHeartbeats 4000000
def Oh{m:Wb}{l1:Vn}{l5:Vl}{a2:Vq}{c3:Nat}{a6:Vq}{c7:Nat}{rr8:Vr}{es9:Vp}{l:WB dy}{r:Vn}{b:Nat}{a:Vq}{b2 b3:Nat}(hlim:lim r.length=true){R:Vs->Wb->Prop}
  (hR:∀m':Wb,Hp m m' []->R (KA (r.length,l.length,l5.length,jK r,0)) m') :
  Vk (We (some mP) none) 84 38 none (QQ 7 (mO Tryz.f38)) (jy (We (some mP) none) [.tmp 2,.tmp 3,.tmp 4,.tmp 5,.tmp 6] R) m [(1,ptr b 0),(5,.int .i64 0),(8,.slice a l.length l.length),(9,ptr b2 0)]
   [.obj b (.cells [.slice a2 l1.length c3,.slice a6 l5.length c7] .own),.rd a2 c3 2 l1.length (l1.map (eP (eI .i64) (eI .i64))),.rd a6 c7 2 l5.length es9,.gen (bY aj rr8 l5 es9),.sl a 4 l.length (l.map (eP (eI .i64) (eP (eI .i64) (eP (eI .i64) (eI .i64))))),.obj b2 (.cells [.map (some b3)] .own),.obj b3 (.map (r.map IM))]:=by
 refine Vk.mapRange (E:=We (some mP) none) pG (fun h=>h) (γ:=WC) (kt:=3) (et:=3) ⟨rfl,rfl⟩ ⟨rfl,rfl,rfl⟩ Pq ⟨rfl,rfl,rfl⟩ ⟨rfl,rfl,rfl⟩ ⟨rfl,rfl,rfl⟩ rfl (by decide) (by decide) (bm:=b3) (k:=6) (es:=r.map IM)
  (fun t m' hf hm=>y9 (k:=5) LZ rfl rfl rfl hf hm) rfl
  (fun bi S _=>([(1,ptr b 0),(5,.int .i64 (jn r S)),(8,.slice a l.length l.length),(9,ptr b2 0),(65,ptr bi 0)],[]))
  (fun bi S g=>rfl) (fun bi S g p hp=>by cases hp) (fun _=>()) (fun bi=>⟨sc rfl (sc rfl (sc rfl (sc rfl (sc rfl sn)))),fun m1=>ah.aq [] rfl rfl⟩) ?_ ?_
 intro bi m1 S i e a' hS hSl hi he;rw[To] at hSl;rw[TT] at he;obtain⟨e,he0,rfl⟩:=Option.map_eq_some_iff.1 he;clear he;have hn:S.length<=r.length:=by
  simpa using hS.length_le_of_subset (fun x hx=>Ua.2 (hSl x hx):S⊆List.range r.length)
 have hc:=Gk (r:=r) (S:=S);have hll:=oW hlim;refine VB (K9 rfl rfl) rfl ?_;refine VB (K9 rfl rfl) rfl ?_;refine VB (bQ rfl) rfl ?_;refine VB (bQ rfl) rfl ?_;refine VN (Q:=fun _=>_) ?_
 show Wk (We (some mP) none) 84 38 none _ _ m1 _ _
 refine VD ?_;refine VF ?_;refine VB (aK rfl) rfl ?_;refine VB (aK rfl) rfl ?_;refine VB (aJ rfl rfl (pD _ _ _)) rfl ?_;refine VN ?_;refine VI ?_
 by_cases hk:e.1=e.2
 refine VZ rfl (S5 hk) ?_;refine VF ?_;refine VB (aK rfl) rfl ?_;refine VB (aJ rfl rfl (bM _ _ _)) rfl ?_;refine VB (bQ rfl) rfl ?_;refine VN (Q:=fun _=>_) ?_;intro t' m' hf hm;refine⟨rfl,(),?_,hm⟩;have e1:Vx (jn r S+1)=jn r (S++[i]):=by rw[rV he0,SU hk,Fu (by omega) (by omega)]
 rw[<-e1];exact hf.sub (sc rfl (sc rfl (sc rfl (sc rfl (sc rfl sn)))))
 refine Wk.fZ rfl (S7 hk) ?_;refine Wk.skip ?_;intro t' m' hf hm;refine⟨rfl,(),?_,hm⟩;have e1:jn r S=jn r (S++[i]):=by rw[rV he0,SS hk,Int.add_zero]
 rw[<-e1];exact hf.sub (sc rfl (sc rfl (sc rfl (sc rfl (sc rfl sn)))))
 intro bi S a' hS;rw[To] at hS;have hp:=BH hS;refine Vk.of pG ?_;refine VD ?_;refine Wk.draw (by kernel_rfl) ?_
 refine VB (aH (k:=5) LZ rfl rfl rfl) rfl ?_;refine VB (B3 (q:=6) (xs:=r) (f:=IM) Pq rfl rfl rfl) rfl ?_;refine VB (aK rfl) rfl ?_;refine VB (jU (k:=4) Rc rfl rfl (.inl rfl)) rfl ?_;refine VB (aM (r:=ptr b 1) rfl (mN _ _)) rfl ?_;refine VB (aH (k:=0) yn rfl rfl rfl) rfl ?_;refine VB (jU (k:=2) EV rfl rfl (.inl rfl)) rfl ?_;refine VB (aK rfl) rfl ?_;refine VB (bQ rfl) rfl ?_;refine VB (bQ rfl) rfl ?_;refine VB (bQ rfl) rfl ?_;refine VB (bQ rfl) rfl ?_;refine VB (bQ rfl) rfl ?_;refine VN ?_;refine VI ?_;refine Wk.ret ?_;refine VQ (.tmp rfl (.tmp rfl (.tmp rfl (.tmp rfl (.tmp rfl .nil))))) fun m' hm=>?_;have:=hR m' ((ah.aq [] rfl rfl) m' hm);rw[<-hp] at this;exact this
open Classical in
noncomputable def mj (args:WB Vs) (m:Wb):WA (Vs×Wb) :=
 match args with
 | [v]=>if h:∃r,∃x:Cx,qa m v x/\Fo 0 x.1 x.2=some r then some (KA (Classical.choose h),m) else none
 | _=>none
noncomputable def E9:Prim:=⟨mj⟩
open Classical in
def uG{m m':Wb}{v r:Vs}(h:mj [v] m=some (r,m')):∃x:Cx,∃y,qa m v x/\Fo 0 x.1 x.2=some y/\KA y=r/\m=m':=by
 change dite _ _ _=_ at h
 by_cases hx:∃r,∃x:Cx,qa m v x/\Fo 0 x.1 x.2=some r
 rw[dif_pos hx] at h;obtain⟨x,h1,h2⟩:=T3 hx;have h3:=SX h;exact⟨x,_,h1,h2,(Prod.ext_iff.1 h3).1,(Prod.ext_iff.1 h3).2⟩
 rw[dif_neg hx] at h; cases h
open Classical in
def zm{m:Wb}{v:Vs}{x:Cx}{r:Int×Int×Int×Int×Int}(h:qa m v x)(hF:Fo 0 x.1 x.2=some r):mj [v] m=some (KA r,m):=by
 have hx:∃r,∃x:Cx,qa m v x/\Fo 0 x.1 x.2=some r:=⟨r,x,h,hF⟩
 change dite _ _ _=_
 rw[dif_pos hx];obtain⟨y,h1,h2⟩:=T3 hx;have e1:=h1.uniq h;subst e1;rw[hF] at h2;rw[<-SX h2]
def wG{args:WB Vs}{m m':Wb}{v:Vs}(h:mj args m=some (v,m'))(pr:Bool){j:aU}{w:Vw}{args':WB Vs}(hm:MR (We (some mP) none) j m w)(hl:LR j args args') :
  gV (We (some mP) none).P pr 38 args'.toArray w (jt (We (some mP) none) j m w v m'):=by
 have ha:∃v,args=[v]:=by
  unfold mj at h
  split at h
  exact⟨_,rfl⟩
  cases h
 obtain⟨va,rfl⟩:=ha;obtain⟨⟨l1,l5⟩,y,⟨a,c,a',c',R,es,rfl,h1,h2,h3⟩,hF,rfl,rfl⟩:=uG h;simp only at h1 h2 h3 hF;unfold Fo at hF;obtain⟨s,hFA,hF⟩:=J hF;have hh1:Rd { m with wl:=m.next} a c 2 l1.length (l1.map xn):=Df h1
 have hh2:Rd { m with wl:=m.next} a' c' 2 l5.length es:=Df h2
 have hh3:(bY aj R l5 es).P { m with wl:=m.next}:=Ml h3
 refine qT (yG (E:=We (some mP) none) (c:=mO Tryz.f38) (m0:={ m with wl:=m.next}) (m:={ m with wl:=m.next}) (N:=84) (rs:=[.tmp 2,.tmp 3,.tmp 4,.tmp 5,.tmp 6]) (ps:=[.gen (bY aj R l5 es),.rd a' c' 2 l5.length es,.rd a c 2 l1.length (l1.map xn)]) pG Tryz.func38 rfl rfl rfl ((((VG _).bB bX hh1).bB (bU bX) hh2).eW (bU (bU bX)) hh3) ?_) pr hm hl
 have hn0:({ m with wl:=m.next}:Wb).next=m.next:=rfl
 have hg:∀m1:Wb,Hp { m with wl:=m.next} m1 []->Grown m m1:=fun m1 hm1=>⟨hm1.ext.next,fun b hb=>(hm1.ext.same b hb).trans I8,by have:=hm1.ext.wl; rw[hn0] at this; exact Tv (U7 (Nat.min_self _).symm) this⟩
 refine JW pG 100000 l1 l5 a c a' c' R es s hFA _ hh1 hh2 hh3 (fun x hx m1 hm1=>?_) fun x hx g=>?_
 subst hx;cases hF;exact⟨hg m1 hm1,.inl ⟨rfl,rfl,rfl⟩⟩
 subst hx;obtain⟨l,r⟩:=x;obtain⟨hc,hF⟩:=aB hF;cases hF;exact Oh hc fun m1 hm1=>⟨hg m1 hm1,.inl ⟨rfl,rfl,rfl⟩⟩
def Kl:EnvOk (We (some mP) (some E9)):=tx (E:=We (some mP) none) pG (pr:=(We (some mP) (some E9)).dc) fun f P hp=>by
 by_cases e:f=65
 subst e; exact .inl hp
 by_cases e':f=38
 subst e';have hp':some E9=some P:=hp;cases hp';exact .inr fun args m v m' h j w args' hm hl=>wG h _ hm hl
 refine .inl ?_;have:(We (some mP) (some E9)).dc f=(We (some mP) none).dc f:=by
  show(if f=65 then _ else if f=38 then _ else _)=(if f=65 then _ else if f=38 then _ else _)
  rw[SS e,SS e',SS e,SS e']
 rw[<-this]; exact hp
def GH(n:Nat)(l1:Vn)(l5:Vl)(a2:Vq)(c3:Nat)(a6:Vq)(c7:Nat)(rr8:Vr)(es9:Vp)(r:Int×Int×Int×Int×Int)(hF:Fo n l1 l5=some r)(m:Wb)(h4:Rd m a2 c3 2 l1.length (l1.map xn))(h10:Rd m a6 c7 2 l5.length es9)(h11:(bY aj rr8 l5 es9).P m) :
  aG (We (some mP) (some E9)) 38 [.agg #[.slice a2 l1.length c3,.slice a6 l5.length c7]] m (Wa m (.tuple #[.int .i64 r.1,.int .i64 r.2.1,.int .i64 r.2.2.1,.int .i64 r.2.2.2.1,.int .i64 r.2.2.2.2])) :=
 aG.dc (p:=E9) rfl (zm (x:=(l1,l5)) ⟨a2,c3,a6,c7,rr8,es9,rfl,h4,h10,h11⟩ hF) ⟨(),rfl,VG m⟩
end
section
set_option maxRecDepth 100000
open Go Go.ChangeShapes Go.WideShapes Go.ChangeAt Go.WideMaps Go.WideElems Go.RowKit Go.Ab Go.Ab.W
def Pz:laidOutB Tryz.prog=true:=by kernel_rfl
def Ld:mapsRowed Tryz.prog=true:=by kernel_rfl
def KU:sizedB Tryz.prog=true:=by kernel_rfl
def Et{H:Type}{enc:Vt×Vs->H}{f:WJ}{fn:Func}{s:ChangeSpec}{W:Vw}{args:WD Vs}{ds:WB (DataW H)}{before:WB MemPlace}{tb:Vt}{fresh handsOn:Bool}{absArgs:WB Vs}(hpr:(We (some mP) (some E9)).dc f=none)
  (hvars:s.vars=[]) (hres:fn.resultTypes.toList=[tb]) (hrs:fn.resultTypes.size=1) (htb:Tryz.prog.underlying tb=some .bool) (hpt:∀t∈fn.params.toList,t<Tryz.prog.types.size) (hfn:s.fn H ds ={ results:=[.lit (.bool true)],args:=ds,vars:=[]})
  (hW:DataW.Whole enc Tryz.prog fn.params.toList s.vars false W args.toList ds [] before)
  (hl:LR (eJ W) absArgs args.toList) (hc:aG (We (some mP) (some E9)) f absArgs (fu W) (fun v m'=>∃x:WC,v=.bool true/\Hp (fu W) m' [])) :
  Calls Tryz.prog f args W fun e W'=>∃v,e=.returned v/\s.post enc Tryz.prog fn false fresh handsOn false W args v W':=by
 obtain⟨v,m',⟨fuel,hrun⟩,_,rfl,hm'⟩:=hc;have hm:MR (We (some mP) (some E9)) (eJ W) (fu W) W:=Nc (T4 _);have hcall:=callsIn_wide.1 (pn Kl hrun hpr hm hl);refine hcall.mono fun e W' ⟨v',he,j',sm,hv⟩=>?_;have hv':v'=.bool true:=gi rfl hv;subst hv';have hwl:(fu W).next<=m'.wl:=by
  have h1:=hm'.ext.wl;have h2:min (fu W).wl (fu W).next=(fu W).next:=Nat.min_self _
  omega
 exact⟨_,he,GN Pz Ld KU hvars hres hrs htb hpt hfn hW sm.calm (sm.grown hm hwl)⟩
def I3{W:Vw}(h:W.ShapedOpen Tryz.prog):0<W.heap.size:=by
 unfold World.ShapedOpen at h;obtain⟨_,h2⟩:=h;have e:((begin Tryz.prog (fun _ _=>0) default).world).heap.size=Tryz.prog.globals.size+5:=by
  unfold begin; simp only[Array.size_push,Array.size_mapIdx]
 obtain⟨o,o0,h3,_⟩:=h2 Tryz.prog.globals.size (S0 _) (by rw[e]; omega)
 exact Nat.lt_of_le_of_lt (T4 _) (S8.1 h3).1
def RQ:E7 Tryz.prog 5 54=some [.int .u8,.int .u8,.int .u8,.int .i64,.int .i64,.int .i64,.int .u8,.int .u8,.int .u8,.int .i64,.int .i64,.int .i64]:=by kernel_rfl
def RX:E7 Tryz.prog 5 51=some [.int .u8,.int .u8,.sl 5,.sl 5,.bool]:=by kernel_rfl
def SJ:E7 Tryz.prog 5 5=some [.int .u8]:=by kernel_rfl
def RZ:Tryz.prog.underlying 54=some (.array 2 53):=by kernel_rfl
section
variable{H:Type}{enc:Vt×Vs->H}{W:Vw}{sp:Nat->Bool}{held:Bool}{v:Vs}{d:DataW H}{p:WB MemPlace}{base:Nat}
def GO{P:Vv}{base:Nat}{v:Vs}(h:qB enc P W base sp held .bool v):∃b,v=.bool b:=h
def PW:∀(n:Nat) (cs:WB Vs) (x:DataW H×WB MemPlace),DataW.trod enc Tryz.prog W 0 sp held n 5 cs=some x->∃p:Nat,cs=eN .u8 p/\p<256:=by
 intro n cs x h;obtain⟨v1,cs,rfl,h1,h⟩:=ck (zY 5 5 _ SJ n _ x h);obtain rfl:=sL h;obtain⟨a,rfl,ha⟩:=kJ h1;exact⟨a,rfl,ha⟩
def QZ(hok:Value.okWide Tryz.prog W .any base 51 v)(hs:0<W.heap.size)(h:DataW.Trod enc Tryz.prog W 0 sp held 51 v d p):∃(x1 x2:Nat) (l3 l4:WB Nat) (x5:Bool) (a3:Vq) (c3:Nat) (a4:Vq) (c4:Nat),
  VR (eJ W) (.agg #[.int .u8 ((x1:Nat):Int),.int .u8 ((x2:Nat):Int),.slice a3 l3.length c3,.slice a4 l4.length c4,.bool x5]) v/\x1<256/\x2<256/\(∀q∈l3,q<256)/\(∀q∈l4,q<256)/\Rd (fu W) a3 c3 1 l3.length (l3.map (eN .u8))/\Rd (fu W) a4 c4 1 l4.length (l4.map (eN .u8)):=by
 obtain⟨cs,rfl,_⟩:=okWide_struct (t:=51) (fs:=Tryz.prog.underlying 51 |>.elim #[] fun u=>match u with|.struct fs=>fs|_=>#[]) (by kernel_rfl) hok
 obtain⟨n,h⟩:=h;obtain⟨v1,r,hr,h1,h⟩:=ck (tI RX h);obtain⟨v2,r,rfl,h2,h⟩:=ck h;obtain⟨v3,r,rfl,h3,h⟩:=ck h;obtain⟨v4,r,rfl,h4,h⟩:=ck h;obtain⟨v5,r,rfl,h5,h⟩:=ck h;obtain rfl:=sL h;obtain⟨x1,rfl,g1⟩:=kJ h1;obtain⟨x2,rfl,g2⟩:=kJ h2;obtain⟨a3,c3,l3,e1,e2,e3,e4⟩:=HJ (f:=eN .u8) (w:=1) (by kernel_rfl) (by omega) hs (fun q=>rfl) PW h3
 obtain⟨a4,c4,l4,f1,f2,f3,f4⟩:=HJ (f:=eN .u8) (w:=1) (by kernel_rfl) (by omega) hs (fun q=>rfl) PW h4
 obtain⟨x5,rfl⟩:=GO h5;refine⟨x1,x2,l3,l4,x5,a3,c3,a4,c4,?_,g1,g2,e3,f3,e2,f2⟩;refine Ip (l:=[.int .u8 ((x1:Nat):Int),.int .u8 ((x2:Nat):Int),.slice a3 l3.length c3,.slice a4 l4.length c4,.bool x5]) ?_;rw[hr];exact .cons (.int _ _) (.cons (.int _ _) (.cons e1 (.cons f1 (LR.plain rfl))))
def P0(hok:Value.okWide Tryz.prog W .any base 54 v)(h:DataW.Trod enc Tryz.prog W 0 sp held 54 v d p):∃(x1 x2 x3:Nat) (x4 x5 x6:Int) (x7 x8 x9:Nat) (x10 x11 x12:Int),
  VR (eJ W) (.agg #[.int .u8 ((x1:Nat):Int),.int .u8 ((x2:Nat):Int),.int .u8 ((x3:Nat):Int),.int .i64 x4,.int .i64 x5,.int .i64 x6,.int .u8 ((x7:Nat):Int),.int .u8 ((x8:Nat):Int),.int .u8 ((x9:Nat):Int),.int .i64 x10,.int .i64 x11,.int .i64 x12]) v /\
   (x2<256/\x3<256)/\(x8<256/\x9<256):=by
 obtain⟨cs,rfl,_⟩:=yo RZ hok;obtain⟨n,h⟩:=h;obtain⟨v1,r,hr,h1,h⟩:=ck (tI RQ h);obtain⟨v2,r,rfl,h2,h⟩:=ck h;obtain⟨v3,r,rfl,h3,h⟩:=ck h;obtain⟨v4,r,rfl,h4,h⟩:=ck h;obtain⟨v5,r,rfl,h5,h⟩:=ck h;obtain⟨v6,r,rfl,h6,h⟩:=ck h;obtain⟨v7,r,rfl,h7,h⟩:=ck h;obtain⟨v8,r,rfl,h8,h⟩:=ck h;obtain⟨v9,r,rfl,h9,h⟩:=ck h;obtain⟨v10,r,rfl,h10,h⟩:=ck h;obtain⟨v11,r,rfl,h11,h⟩:=ck h;obtain⟨v12,r,rfl,h12,h⟩:=ck h;obtain rfl:=sL h;obtain⟨x1,rfl,g1⟩:=kJ h1;obtain⟨x2,rfl,g2⟩:=kJ h2;obtain⟨x3,rfl,g3⟩:=kJ h3;obtain⟨x4,rfl,_⟩:=nD h4;obtain⟨x5,rfl,_⟩:=nD h5;obtain⟨x6,rfl,_⟩:=nD h6;obtain⟨x7,rfl,g7⟩:=kJ h7;obtain⟨x8,rfl,g8⟩:=kJ h8;obtain⟨x9,rfl,g9⟩:=kJ h9;obtain⟨x10,rfl,_⟩:=nD h10;obtain⟨x11,rfl,_⟩:=nD h11;obtain⟨x12,rfl,_⟩:=nD h12;refine⟨x1,x2,x3,x4,x5,x6,x7,x8,x9,x10,x11,x12,?_,⟨g2,g3⟩,⟨g8,g9⟩⟩;refine Ip (l:=[.int .u8 ((x1:Nat):Int),.int .u8 ((x2:Nat):Int),.int .u8 ((x3:Nat):Int),.int .i64 x4,.int .i64 x5,.int .i64 x6,.int .u8 ((x7:Nat):Int),.int .u8 ((x8:Nat):Int),.int .u8 ((x9:Nat):Int),.int .i64 x10,.int .i64 x11,.int .i64 x12]) ?_;rw[hr];exact LR.plain rfl
end
end
section
open Go Go.Ab Go.Ab.W
def vA(n:Nat)(l1:Vo):(Vo×Int)->WA ((Vo×Int) ⊕(Vo)):=fun(l3,v0) =>
br (decide (v0<((V6 l1 10).length:Int))) (
gd (bu v0 ((V6 l1 10).length)) (
ob ((V6 l1 10)[v0.toNat]?) fun l2 =>
gd (okB 0 (mi (l2.length:Int) (42:Int)) l2.length) (
ob (zx n (V6 l2 42)) fun l4 =>
gd (lim (l3++([l4]:Vo)).length) (
some (.inl ((l3++([l4]:Vo)),Vx (v0+1))))))) (
some (.inr l3))
def vQ(n:Nat)(l1:Vl):(Vl×Int)->WA ((Vl×Int) ⊕(Vl)):=fun(l3,v0) =>
br (decide (v0<((V6 l1 66).length:Int))) (
gd (bu v0 ((V6 l1 66).length)) (
ob ((V6 l1 66)[v0.toNat]?) fun(l2,l4) =>
gd (okB 0 (mi (l2.length:Int) (42:Int)) l2.length) (
ob (zx n (V6 l2 42)) fun l5 =>
gd (okB 0 (mi (l4.length:Int) (10:Int)) l4.length) (
ob (
bh (vA n l4) n (([]:Vo),0)) fun l6 =>
gd (lim (l3++([(l5,l6)]:Vl)).length) (
some (.inl ((l3++([(l5,l6)]:Vl)),Vx (v0+1)))))))) (
some (.inr l3))
def Pn(n:Nat)(l1:Vn)(l2:Vl):WA (Vn×Vl) :=
gd (okB 0 (mi (l1.length:Int) (125:Int)) l1.length) (
ob (LC n (V6 l1 125)) fun l3 =>
gd (okB 0 (mi (l2.length:Int) (66:Int)) l2.length) (
ob (
bh (vQ n l2) n (([]:Vl),0)) fun l4 =>
some (l3,l4)))
def Nu(_:Nat)(l:WB Int)(i j:Int):WA (WB Int):=gd (decide (0<l.length)&&decide (0<=i)&&decide (i<=j)&&decide (j<=(l.length:Int))&&lim l.length) (some (l.take i.toNat++l.drop j.toNat))
def RP(_:Nat)(l:Vl)(i j:Int):WA Vl:=gd (decide (0<l.length)&&decide (0<=i)&&decide (i<j)&&decide (j<=(l.length:Int))&&lim l.length) (some (l.take i.toNat++l.drop j.toNat))
def OP(_:Nat)(l:WB Int)(i:Int)(vs:WB Int):WA (WB Int):=gd (decide (0<=i)&&decide (i<=(l.length:Int))&&lim l.length) (some (l.take i.toNat++(vs++l.drop i.toNat)))
def s6(n:Nat)(l2:WB Int):(WB (Int)×Int×Int)->WA ((WB (Int)×Int×Int) ⊕(WB (Int))):=fun(l1,v0,v1) =>
br (decide (v0<v1)) (
gd (bu v1 l2.length) (
ob (l1[v1.toNat]?) fun x3 =>
gd (bu v0 l2.length) (
ob (l1[v0.toNat]?) fun x4 =>
gd (bu v0 l2.length) (
gd (bu v1 l2.length) (
ob ((l1.set v0.toNat x3)[v1.toNat]?) fun x10 =>
some (.inl (((l1.set v0.toNat x3).set v1.toNat x4),Vx (v0+1),Vx (v1-1)))))))) (
some (.inr l1))
def H7(n:Nat)(l2:WB Int):(WB (Int)×Int×Int)->WA ((WB (Int)×Int×Int) ⊕(WB (Int))):=fun(l1,v0,v1) =>
br (decide (v0<v1)) (
gd (bu v1 l2.length) (
ob (l1[v1.toNat]?) fun x3 =>
gd (bu v0 l2.length) (
ob (l1[v0.toNat]?) fun x4 =>
gd (bu v0 l2.length) (
gd (bu v1 l2.length) (
ob ((l1.set v0.toNat x3)[v1.toNat]?) fun x10 =>
some (.inl (((l1.set v0.toNat x3).set v1.toNat x4),Vx (v0+1),Vx (v1-1)))))))) (
some (.inr l1))
def tY(n:Nat)(x3:Nat)(l3:WB Int):Vo->WA (Vo ⊕(Vo)):=fun l1 =>
br (decide ((l1.length:Int)<Vx (8+(Vx ((x3%2:Nat):Int))))) (
ob (zx n l3) fun l2 =>
gd (lim (l1++([l2]:Vo)).length) (
some (.inl (l1++([l2]:Vo))))) (
some (.inr l1))
def DI(n:Nat)(x1:Nat)(x2:Nat)(x3:Nat)(x4:Int)(x5:Int)(x6:Int)(l13:Vn)(l14:Vl):WA (Vn×Vl) :=
ob (Pn n l13 l14) fun(l2,l1) =>
ob (
br (decide ((l2.length:Int)=0)) (
some true) (
some (decide ((l1.length:Int)=0)))) fun v0 =>
br (v0) (
some (l2,l1)) (
gd (decide ((l2.length:Int)≠0)) (
gd (decide ((l1.length:Int)≠0)) (
gd (bu (Int.tmod (Vx ((x2:Nat):Int)) (l1.length:Int)) l1.length) (
ob (l1[(Int.tmod (Vx ((x2:Nat):Int)) (l1.length:Int)).toNat]?) fun(l3,l4) =>
ob (
br (decide (x1%14=0)) (
gd (bu (Int.tmod (Vx ((x2:Nat):Int)) (l2.length:Int)) l2.length) (
ob (l2[(Int.tmod (Vx ((x2:Nat):Int)) (l2.length:Int)).toNat]?) fun(x12,x13) =>
some ((l2.set ((Int.tmod (Vx ((x2:Nat):Int)) (l2.length:Int)).toNat) (x5,x6)),l2.length,l1.length,(l1.set ((Int.tmod (Vx ((x2:Nat):Int)) (l1.length:Int)).toNat) (l3,l4))))) (
br (decide (x1%14=1)) (
gd (decide ((l2.length:Int)≠0)) (
gd (bu (Int.tmod (Vx ((x3:Nat):Int)) (l2.length:Int)) l2.length) (
ob (l2[(Int.tmod (Vx ((x3:Nat):Int)) (l2.length:Int)).toNat]?) fun(x10,x11) =>
gd (bu (Int.tmod (Vx ((x2:Nat):Int)) (l2.length:Int)) l2.length) (
ob (l2[(Int.tmod (Vx ((x2:Nat):Int)) (l2.length:Int)).toNat]?) fun(x14,x15) =>
some ((l2.set ((Int.tmod (Vx ((x2:Nat):Int)) (l2.length:Int)).toNat) (x10,x11)),l2.length,l1.length,(l1.set ((Int.tmod (Vx ((x2:Nat):Int)) (l1.length:Int)).toNat) (l3,l4))))))) (
br (decide (x1%14=2)) (
gd (lim (l2++[(x5,x6)]).length) (
some ((l2++[(x5,x6)]),(l2++[(x5,x6)]).length,l1.length,(l1.set ((Int.tmod (Vx ((x2:Nat):Int)) (l1.length:Int)).toNat) (l3,l4))))) (
br (decide (x1%14=3)) (
gd (okB 0 (Int.tmod (Vx ((x2:Nat):Int)) (l2.length:Int)) l2.length) (
gd (decide (0<l2.length)) (
ob (some (l2.take (Int.tmod (Vx ((x2:Nat):Int)) (l2.length:Int):Int).toNat)) fun l9 =>
some (l9,l9.length,l1.length,(l1.set ((Int.tmod (Vx ((x2:Nat):Int)) (l1.length:Int)).toNat) (l3,l4)))))) (
br (decide (x1%14=4)) (
ob (Pn n l2 l1) fun(l25,l10) =>
gd (decide ((l1.length:Int)≠0)) (
gd (bu (Int.tmod (Vx ((x3:Nat):Int)) (l1.length:Int)) l10.length) (
ob (l10[(Int.tmod (Vx ((x3:Nat):Int)) (l1.length:Int)).toNat]?) fun(l6,l7) =>
gd (lim (l1++([(l6,l7)]:Vl)).length) (
some (l2,l2.length,(l1++([(l6,l7)]:Vl)).length,(l1++([(l6,l7)]:Vl))))))) (
br (decide (x1%14=5)) (
gd (decide ((l1.length:Int)≠0)) (
gd (decide ((l1.length:Int)≠0)) (
ob (some (Vx ((Int.tmod (Vx ((x2:Nat):Int)) (l1.length:Int))+1))) fun y1 =>
ob (RP n l1 (Int.tmod (Vx ((x2:Nat):Int)) (l1.length:Int)) y1) fun l11 =>
some (l2,l2.length,l11.length,l11)))) (
br (decide (x1%14=6)) (
br (decide (0<(l3.length:Int))) (
gd (decide ((l3.length:Int)≠0)) (
gd (bu (Int.tmod (Vx ((x3:Nat):Int)) (l3.length:Int)) l3.length) (
ob (l3[(Int.tmod (Vx ((x3:Nat):Int)) (l3.length:Int)).toNat]?) fun x16 =>
some (l2,l2.length,l1.length,(l1.set ((Int.tmod (Vx ((x2:Nat):Int)) (l1.length:Int)).toNat) ((l3.set ((Int.tmod (Vx ((x3:Nat):Int)) (l3.length:Int)).toNat) x4),l4)))))) (
some (l2,l2.length,l1.length,(l1.set ((Int.tmod (Vx ((x2:Nat):Int)) (l1.length:Int)).toNat) (l3,l4))))) (
br (decide (x1%14=7)) (
ob (
ob (
bh (s6 n l3) n (l3,0,Vx ((l3.length:Int)-1))) fun l15 =>
some (l1.set ((Int.tmod (Vx ((x2:Nat):Int)) (l1.length:Int)).toNat) (l15,l4))) fun l16 =>
some (l2,l2.length,l1.length,l16)) (
br (decide (x1%14=8)) (
some (l2,l2.length,l1.length,(l1.set ((Int.tmod (Vx ((x2:Nat):Int)) (l1.length:Int)).toNat) (l3,[])))) (
br (decide (x1%14=9)) (
gd (decide ((l1.length:Int)≠0)) (
gd (bu (Int.tmod (Vx ((x3:Nat):Int)) (l1.length:Int)) l1.length) (
ob (l1[(Int.tmod (Vx ((x3:Nat):Int)) (l1.length:Int)).toNat]?) fun(l17,l26) =>
ob (zx n l17) fun l5 =>
gd (lim (l4++([l5]:Vo)).length) (
ob (some (Vx (((l4++([l5]:Vo)).length:Int)-1))) fun y0 =>
gd (bu y0 ((l4++([l5]:Vo)).length)) (
ob ((l4++([l5]:Vo))[y0.toNat]?) fun l8 =>
ob (
ob (
bh (H7 n l8) n (l8,0,Vx ((l8.length:Int)-1))) fun l18 =>
some (l1.set ((Int.tmod (Vx ((x2:Nat):Int)) (l1.length:Int)).toNat) (l3,((l4++([l5]:Vo)).set y0.toNat l18)))) fun l19 =>
some (l2,l2.length,l1.length,l19)))))) (
br (decide (x1%14=10)) (
br (decide (0<(l3.length:Int))) (
gd (decide ((l3.length:Int)≠0)) (
gd (decide ((l3.length:Int)≠0)) (
ob (some (Vx ((Int.tmod (Vx ((x3:Nat):Int)) (l3.length:Int))+1))) fun y2 =>
ob (Nu n l3 (Int.tmod (Vx ((x3:Nat):Int)) (l3.length:Int)) y2) fun l20 =>
some (l2,l2.length,l1.length,(l1.set ((Int.tmod (Vx ((x2:Nat):Int)) (l1.length:Int)).toNat) (l20,l4)))))) (
some (l2,l2.length,l1.length,(l1.set ((Int.tmod (Vx ((x2:Nat):Int)) (l1.length:Int)).toNat) (l3,l4))))) (
br (decide (x1%14=11)) (
gd (decide (Vx ((l3.length:Int)+1)≠0)) (
ob (some (Int.tmod (Vx ((x3:Nat):Int)) (Vx ((l3.length:Int)+1)))) fun y3 =>
gd (decide ((l2.length:Int)≠0)) (
ob (OP n l3 y3 ([Int.tmod (Hy .i64 x4 127) (l2.length:Int)])) fun l21 =>
some (l2,l2.length,l1.length,(l1.set ((Int.tmod (Vx ((x2:Nat):Int)) (l1.length:Int)).toNat) (l21,l4)))))) (
br (decide (x1%14=12)) (
br (decide (0<(l3.length:Int))) (
gd (decide ((l3.length:Int)≠0)) (
gd (okB (Int.tmod (Vx ((x3:Nat):Int)) (l3.length:Int)) (l3.length:Int) l3.length) (
ob (zx n ((l3.drop (Int.tmod (Vx ((x3:Nat):Int)) (l3.length:Int):Int).toNat).take (((l3.length:Int):Int).toNat-(Int.tmod (Vx ((x3:Nat):Int)) (l3.length:Int):Int).toNat))) fun l12 =>
gd (decide ((l3.length:Int)≠0)) (
gd (okB 0 (Int.tmod (Vx ((x3:Nat):Int)) (l3.length:Int)) l3.length) (
gd (lim (l12++((l3.drop Vy).take ((Int.tmod (Vx ((x3:Nat):Int)) (l3.length:Int):Int).toNat-Vy))).length) (
some (l2,l2.length,l1.length,(l1.set ((Int.tmod (Vx ((x2:Nat):Int)) (l1.length:Int)).toNat) ((l12++((l3.drop Vy).take ((Int.tmod (Vx ((x3:Nat):Int)) (l3.length:Int):Int).toNat-Vy))),l4))))))))) (
some (l2,l2.length,l1.length,(l1.set ((Int.tmod (Vx ((x2:Nat):Int)) (l1.length:Int)).toNat) (l3,l4))))) (
ob (
bh (tY n x3 l3) n l4) fun l22 =>
some (l2,l2.length,l1.length,(l1.set ((Int.tmod (Vx ((x2:Nat):Int)) (l1.length:Int)).toNat) (l3,l22))))))))))))))))) fun(l23,n0,n1,l24) =>
some (l23,l24)))))
def K1(n:Nat)(l1:WB (Nat))(x5:Int):WA Int :=
br (decide ((l1.length:Int)=0)) (
some 0) (
gd (decide ((l1.length:Int)≠0)) (
gd (bu (Int.tmod x5 (l1.length:Int)) l1.length) (
ob (l1[(Int.tmod x5 (l1.length:Int)).toNat]?) fun x11 =>
some (Vx ((x11:Nat):Int)))))
def vD(n:Nat)(v3:Int)(v2:Int)(l2:WB (Nat)):(Vn×Int×Int)->WA ((Vn×Int×Int) ⊕(Vn)):=fun(l1,v0,v1) =>
br (decide (v1<=v3)) (
gd (lim (l1++[(v0,v2)]).length) (
ob (K1 n l2 v1) fun r0 =>
some (.inl ((l1++[(v0,v2)]),Vx ((Vx (v0+1))+(Int.tmod r0 5)),Vx (v1+1))))) (
some (.inr l1))
def vL(n:Nat)(v2:Int)(v3:Int)(l1:WB (Nat)):(Vn×Int×Int)->WA ((Vn×Int×Int) ⊕(Vn)):=fun(l2,v1,v0) =>
br (decide (v0<=v2)) (
ob (
bh (vD n v3 v1 l1) n (l2,0,0)) fun l3 =>
ob (K1 n l1 (Vx (7+v0))) fun r0 =>
some (.inl (l3,Vx ((Vx (v1+1))+(Int.tmod r0 5)),Vx (v0+1)))) (
some (.inr l2))
def rN(n:Nat)(v0:Int)(v2:Int)(l2:WB (Nat)):(Vl×Int)->WA ((Vl×Int) ⊕(Vl)):=fun(l1,v1) =>
br (decide (v1<v0)) (
ob (
ob (some (Vx ((Vx (v2*(Vx (v0+1))))+v1))) fun y0 =>
ob (K1 n l2 (Vx ((Vx (v2*v0))+v1))) fun r0 =>
br (decide (Int.tmod r0 8=0)) (
ob (some (Vx ((Vx ((Vx (y0+v0))+1))+1))) fun y1 =>
ob (some (Vx ((Vx ((Vx (y0+v0))+1))+1))) fun y2 =>
gd (lim (l1++([([y0,Vx (y0+1),y1],[]),([y0,y2,Vx ((Vx (y0+v0))+1)],[])]:Vl)).length) (
some (l1++([([y0,Vx (y0+1),y1],[]),([y0,y2,Vx ((Vx (y0+v0))+1)],[])]:Vl)))) (
br (decide (Int.tmod r0 8=1)) (
br (decide (0<(l1.length:Int))) (
some l1) (
ob (some (Vx ((Vx ((Vx (y0+v0))+1))+1))) fun y3 =>
gd (lim (l1++([([y3,Vx ((Vx (y0+v0))+1),y0,Vx (y0+1)],[])]:Vl)).length) (
some (l1++([([y3,Vx ((Vx (y0+v0))+1),y0,Vx (y0+1)],[])]:Vl))))) (
ob (some (Vx ((Vx ((Vx (y0+v0))+1))+1))) fun y4 =>
gd (lim (l1++([([y0,Vx (y0+1),y4,Vx ((Vx (y0+v0))+1)],[])]:Vl)).length) (
some (l1++([([y0,Vx (y0+1),y4,Vx ((Vx (y0+v0))+1)],[])]:Vl)))))) fun l3 =>
some (.inl (l3,Vx (v1+1)))) (
some (.inr l1))
def vt(n:Nat)(v1:Int)(v2:Int)(l2:WB (Nat)):(Vl×Int)->WA ((Vl×Int) ⊕(Vl)):=fun(l1,v0) =>
br (decide (v0<v1)) (
ob (
bh (rN n v2 v0 l2) n (l1,0)) fun l3 =>
some (.inl (l3,Vx (v0+1)))) (
some (.inr l1))
def Pk(n:Nat)(x1:Nat)(x2:Nat)(l1:WB (Nat))(l3:WB (Nat))(x3:Bool):WA (Vn×Vl) :=
ob (
br (x3) (
some (3,3)) (
some (Vx (1+(Vx ((x1%4:Nat):Int))),Vx (1+(Vx ((x2%3:Nat):Int)))))) fun(v0,v1) =>
ob (
bh (vL n v1 v0 l3) n (([]:Vn),0,0)) fun l2 =>
br (x3) (
gd (lim (([]:Vl)++([([0,1,2,3,7,11,15,14,13,12,8,4],[[5,9,10,6]])]:Vl)).length) (
ob (
ob (K1 n l1 0) fun r0 =>
br (decide (Int.tmod r0 2=0)) (
gd (lim ((([]:Vl)++([([0,1,2,3,7,11,15,14,13,12,8,4],[[5,9,10,6]])]:Vl))++([([5,6,10,9],[])]:Vl)).length) (
some ((([]:Vl)++([([0,1,2,3,7,11,15,14,13,12,8,4],[[5,9,10,6]])]:Vl))++([([5,6,10,9],[])]:Vl)))) (
some (([]:Vl)++([([0,1,2,3,7,11,15,14,13,12,8,4],[[5,9,10,6]])]:Vl)))) fun l4 =>
some (l2,l4))) (
ob (
bh (vt n v1 v0 l1) n (([]:Vl),0)) fun l5 =>
some (l2,l5))
def QV(n:Nat)(x1:Nat)(x2:Nat)(l3:WB (Nat))(l8:WB (Nat))(x13:Bool)(x14:Nat)(x15:Nat)(x16:Nat)(x17:Int)(x18:Int)(x19:Int)(x20:Nat)(x21:Nat)(x22:Nat)(x23:Int)(x24:Int)(x25:Int):WA (Vn×Vl×Vn×Vl×Vn×Vl) :=
ob (Pk n x1 x2 l3 l8 x13) fun(l30,l34) =>
ob (DI n x14 x15 x16 x17 x18 x19 l30 l34) fun(l42,l46) =>
ob (DI n x20 x21 x22 x23 x24 x25 l42 l46) fun(l54,l58) =>
some (l30,l34,l42,l46,l54,l58)
def O5(n:Nat)(x1:Int)(x2:Int):WA Bool :=
br (decide (x1 < -1000000)) (
some true) (
br (decide (1000000<x1)) (
some true) (
br (decide (x2 < -1000000)) (
some true) (
some (decide (1000000<x2)))))
def Ac(n:Nat)(l1:Vn):Int->WA (Int ⊕(Int ⊕(WC))):=fun v34 =>
br (decide (v34<(l1.length:Int))) (
gd (bu v34 l1.length) (
ob (l1[v34.toNat]?) fun(x51,x52) =>
ob (O5 n x51 x52) fun r55 =>
br (r55) (
some (.inr (.inl v34))) (
some (.inl (Vx (v34+1)))))) (
some (.inr (.inr ())))
def zK(n:Nat)(v1:Int)(l1:Vn):Int->WA (Int ⊕(WC ⊕(WC))):=fun v0 =>
br (decide (v0<v1)) (
gd (bu v1 l1.length) (
ob (l1[v1.toNat]?) fun(x3,x4) =>
gd (bu v0 l1.length) (
ob (l1[v0.toNat]?) fun(x10,x11) =>
br ((decide (x3=x10)&&decide (x4=x11))) (
some (.inr (.inl ()))) (
some (.inl (Vx (v0+1))))))) (
some (.inr (.inr ())))
def y6(n:Nat)(l1:Vn):Int->WA (Int ⊕(Int ⊕(WC))):=fun v0 =>
br (decide (v0<(l1.length:Int))) (
ob (α:=(WC) ⊕(WC)) (
bh (zK n v0 l1) n 0) fun r0=>match r0 with
| .inl _ =>
some (.inr (.inl v0))
| .inr _ =>
some (.inl (Vx (v0+1)))) (
some (.inr (.inr ())))
def Re(n:Nat)(l1:Vn)(l2:Vl):WA (Int×Int) :=
ob (
br (decide ((l1.length:Int)<3)) (
some true) (
br (decide (120<(l1.length:Int))) (
some true) (
br (decide ((l2.length:Int)<1)) (
some true) (
some (decide (64<(l2.length:Int))))))) fun v0 =>
br (v0) (
some (1,0)) (
ob (α:=(Int) ⊕(WC)) (
bh (Ac n l1) n 0) fun r0=>match r0 with
| .inl v1 =>
some (2,v1)
| .inr _ =>
ob (α:=(Int) ⊕(WC)) (
bh (y6 n l1) n 0) fun r1=>match r1 with
| .inl v2 =>
some (3,v2)
| .inr _ =>
some (0,0))
def JM(n:Nat)(l1:WB (Int))(l6:Vo):WA Vo :=
gd (lim (([l1]:Vo)++l6).length) (
some (([l1]:Vo)++l6))
def tL(n:Nat)(v1:Int)(l2:Vo)(l3:Vn):Int->WA (Int ⊕(WC ⊕(WC))):=fun v0 =>
gd (bu v1 l2.length) (
ob (l2[v1.toNat]?) fun l1 =>
br (decide (v0<(l1.length:Int))) (
ob (
gd (bu v1 l2.length) (
gd (bu v0 l1.length) (
ob (l1[v0.toNat]?) fun x3 =>
br (decide (x3<0)) (
some true) (
gd (bu v1 l2.length) (
gd (bu v0 l1.length) (
ob (l1[v0.toNat]?) fun x4 =>
some (decide ((l3.length:Int)<=x4)))))))) fun v2 =>
br (v2) (
some (.inr (.inl ()))) (
some (.inl (Vx (v0+1))))) (
some (.inr (.inr ()))))
def tT(n:Nat)(l1:Vo)(l3:Vn):Int->WA (Int ⊕(WC ⊕(WC))):=fun v0 =>
br (decide (v0<(l1.length:Int))) (
ob (
gd (bu v0 l1.length) (
ob (l1[v0.toNat]?) fun l2 =>
br (decide ((l2.length:Int)<3)) (
some true) (
gd (bu v0 l1.length) (
some (decide (40<(l2.length:Int))))))) fun v1 =>
br (v1) (
some (.inr (.inl ()))) (
ob (α:=(WC) ⊕(WC)) (
bh (tL n v0 l1 l3) n 0) fun r0=>match r0 with
| .inl _ =>
some (.inr (.inl ()))
| .inr _ =>
some (.inl (Vx (v0+1))))) (
some (.inr (.inr ())))
def Ik(n:Nat)(l2:Vn)(l5:Vl)(l3:WB (Int))(l1:Vo):WA Bool :=
br (decide (8<(l1.length:Int))) (
some false) (
ob (JM n l3 l1) fun l4 =>
ob (α:=(WC) ⊕(WC)) (
bh (tT n l4 l2) n 0) fun r0=>match r0 with
| .inl _ =>
some false
| .inr _ =>
some true)
def zr(n:Nat)(l12:WB (Int))(l1:Vn)(x16:Int):(Vn×Int)->WA ((Vn×Int) ⊕(Vn)):=fun(l36,v38) =>
br (decide (v38<(l12.length:Int))) (
gd (bu v38 l12.length) (
ob (l12[v38.toNat]?) fun x64 =>
gd (bu x64 l1.length) (
ob (l1[x64.toNat]?) fun(x69,x70) =>
gd (lim (l36++[(Vx (x16*x69),Vx (x16*x70))]).length) (
some (.inl ((l36++[(Vx (x16*x69),Vx (x16*x70))]),Vx (v38+1))))))) (
some (.inr l36))
def Ms(n:Nat)(l1:Vn)(l5:Vl)(l12:WB (Int))(x16:Int):WA Vn :=
ob (
bh (zr n l12 l1 x16) n (([]:Vn),0)) fun l58 =>
some l58
def uM(n:Nat)(l1:Vn)(x5:Int):WA (Int×Int) :=
gd (decide ((l1.length:Int)≠0)) (
gd (bu (Int.tmod x5 (l1.length:Int)) l1.length) (
ob (l1[(Int.tmod x5 (l1.length:Int)).toNat]?) fun(x11,x12) =>
some (x11,x12)))
def qo(n:Nat)(x1:Int)(x2:Int)(x3:Int)(x4:Int)(x5:Int)(x6:Int):WA Int :=
ob (some (Vx ((Vx (x3-x1))*(Vx (x6-x2))))) fun y10 =>
ob (some (Vx ((Vx (x4-x2))*(Vx (x5-x1))))) fun y12 =>
some (Vx (y10-y12))
def Fh(n:Nat)(x1:Int)(x2:Int)(x3:Int)(x4:Int)(x5:Int)(x6:Int):WA Int :=
ob (some (Vx ((Vx (x3-x1))*(Vx (x5-x3))))) fun y10 =>
ob (some (Vx ((Vx (x4-x2))*(Vx (x6-x4))))) fun y12 =>
some (Vx (y10+y12))
def zJ(n:Nat)(x1:Int):WA Int :=
br (decide (0<x1)) (
some 1) (
br (decide (x1<0)) (
some (-1)) (
some 0))
def sB(n:Nat)(x1:Int)(x2:Int)(x3:Int)(x4:Int)(x5:Int)(x6:Int):WA Bool :=
ob (qo n x1 x2 x3 x4 x5 x6) fun r11 =>
br (!decide (r11=0)) (
some false) (
br (decide (mi x1 x3<=x5)) (
br (decide (x5<=ma x1 x3)) (
br (decide (mi x2 x4<=x6)) (
some (decide (x6<=ma x2 x4))) (
some false)) (
some false)) (
some false))
def Ek(n:Nat)(x1:Int)(x2:Int)(x3:Int)(x4:Int)(x5:Int)(x6:Int)(x7:Int)(x8:Int):WA Int :=
ob (qo n x1 x2 x3 x4 x5 x6) fun r3 =>
ob (zJ n r3) fun r0 =>
ob (qo n x1 x2 x3 x4 x7 x8) fun r4 =>
ob (zJ n r4) fun r1 =>
ob (qo n x5 x6 x7 x8 x1 x2) fun r5 =>
ob (zJ n r5) fun r6 =>
ob (qo n x5 x6 x7 x8 x3 x4) fun r7 =>
ob (zJ n r7) fun r8 =>
ob (
br (decide (r0=0)) (
some (decide (r1=0))) (
some false)) fun v1 =>
br (v1) (
ob (some (Vx ((ma (mi x1 x3) (mi x5 x7))-(mi (ma x1 x3) (ma x5 x7))))) fun y0 =>
ob (
br (decide (x1=x3)) (
ob (some (Vx ((ma (mi x2 x4) (mi x6 x8))-(mi (ma x2 x4) (ma x6 x8))))) fun y1 =>
some y1) (
some y0)) fun v0 =>
br (decide (0<v0)) (
some 0) (
br (decide (v0=0)) (
some 1) (
some 3))) (
ob (
br (decide (Vx (r0*r1)<0)) (
some (decide (Vx (r6*r8)<0))) (
some false)) fun v2 =>
br (v2) (
some 2) (
ob (
ob (sB n x1 x2 x3 x4 x5 x6) fun r9 =>
br (r9) (
some true) (
ob (sB n x1 x2 x3 x4 x7 x8) fun r10 =>
br (r10) (
some true) (
ob (sB n x5 x6 x7 x8 x1 x2) fun r11 =>
br (r11) (
some true) (
ob (sB n x5 x6 x7 x8 x3 x4) fun r12 =>
some r12)))) fun v3 =>
br (v3) (
some 1) (
some 0)))
def sZ(n:Nat)(l1:Vn):Int->WA (Int ⊕(Int ⊕(WC))):=fun v18 =>
br (decide (v18<(l1.length:Int))) (
gd (bu v18 l1.length) (
ob (l1[v18.toNat]?) fun(x35,x36) =>
ob (O5 n x35 x36) fun r39 =>
br (r39) (
some (.inr (.inl v18))) (
some (.inl (Vx (v18+1)))))) (
some (.inr (.inr ())))
def sD(n:Nat)(l1:Vn):Int->WA (Int ⊕(Int ⊕(WC))):=fun v44 =>
br (decide (v44<(l1.length:Int))) (
gd (bu v44 l1.length) (
ob (l1[v44.toNat]?) fun(x62,x63) =>
ob (uM n l1 (Vx (v44+1))) fun(r66,r67) =>
br ((decide (x62=r66)&&decide (x63=r67))) (
some (.inr (.inl v44))) (
some (.inl (Vx (v44+1)))))) (
some (.inr (.inr ())))
def sF(n:Nat)(l1:Vn):Int->WA (Int ⊕(Int ⊕(WC))):=fun v0 =>
br (decide (v0<(l1.length:Int))) (
ob (uM n l1 (Vx ((Vx (v0+(l1.length:Int)))-1))) fun(r0,r1) =>
gd (bu v0 l1.length) (
ob (l1[v0.toNat]?) fun(x3,x4) =>
ob (uM n l1 (Vx (v0+1))) fun(r3,r4) =>
ob (
ob (qo n r0 r1 x3 x4 r3 r4) fun r5 =>
br (decide (r5=0)) (
ob (Fh n r0 r1 x3 x4 r3 r4) fun r6 =>
some (decide (r6<0))) (
some false)) fun v1 =>
br (v1) (
some (.inr (.inl v0))) (
some (.inl (Vx (v0+1)))))) (
some (.inr (.inr ())))
def si(n:Nat)(v1:Int)(l1:Vn):Int->WA (Int ⊕(WC ⊕(WC))):=fun v0 =>
br (decide (Vx (v0+1)<v1)) (
ob (α:=(WC) ⊕(WC)) (
ob (
br (decide (v0=0)) (
some (decide (v1=Vx ((l1.length:Int)-1)))) (
some false)) fun v2 =>
br (v2) (
some (.inl ())) (
gd (bu v0 l1.length) (
ob (l1[v0.toNat]?) fun(x3,x4) =>
gd (bu (Vx (v0+1)) l1.length) (
ob (l1[(Vx (v0+1)).toNat]?) fun(x10,x11) =>
gd (bu v1 l1.length) (
ob (l1[v1.toNat]?) fun(x12,x13) =>
ob (uM n l1 (Vx (v1+1))) fun(r0,r1) =>
ob (Ek n x3 x4 x10 x11 x12 x13 r0 r1) fun r3 =>
br (!decide (r3=0)) (
some (.inr ())) (
some (.inl ()))))))) fun r4=>match r4 with
| .inl _ =>
some (.inl (Vx (v0+1)))
| .inr _ =>
some (.inr (.inl ()))) (
some (.inr (.inr ())))
def tE(n:Nat)(l1:Vn):Int->WA (Int ⊕(Int ⊕(WC))):=fun v0 =>
br (decide (v0<(l1.length:Int))) (
ob (α:=(WC) ⊕(WC)) (
bh (si n v0 l1) n 0) fun r0=>match r0 with
| .inl _ =>
some (.inr (.inl v0))
| .inr _ =>
some (.inl (Vx (v0+1)))) (
some (.inr (.inr ())))
def Js(n:Nat)(l1:Vn):WA (Int×Int) :=
ob (
br (decide ((l1.length:Int)<3)) (
some true) (
some (decide (40<(l1.length:Int))))) fun v0 =>
br (v0) (
some (1,0)) (
ob (α:=(Int) ⊕(WC)) (
bh (sZ n l1) n 0) fun r0=>match r0 with
| .inl v1 =>
some (2,v1)
| .inr _ =>
ob (α:=(Int) ⊕(WC)) (
bh (sD n l1) n 0) fun r1=>match r1 with
| .inl v2 =>
some (3,v2)
| .inr _ =>
ob (α:=(Int) ⊕(WC)) (
bh (sF n l1) n 0) fun r3=>match r3 with
| .inl v3 =>
some (4,v3)
| .inr _ =>
ob (α:=(Int) ⊕(WC)) (
bh (tE n l1) n 0) fun r4=>match r4 with
| .inl v4 =>
some (5,v4)
| .inr _ =>
some (0,0))
def FL(n:Nat)(l1:Vn):WA Int :=
ob (Js n l1) fun(r6,r7) =>
br (decide (0<r6)) (
some 140) (
some 0)
def uh(n:Nat)(l26:Vo)(l1:Vn)(l5:Vl):Int->WA (Int ⊕(WC ⊕(WC))):=fun v33 =>
br (decide (v33<(l26.length:Int))) (
gd (bu v33 l26.length) (
ob (l26[v33.toNat]?) fun l54 =>
ob (Ms n l1 l5 l54 1) fun l59 =>
ob (FL n l59) fun r63 =>
br (!decide (r63=0)) (
some (.inr (.inl ()))) (
some (.inl (Vx (v33+1)))))) (
some (.inr (.inr ())))
def J8(n:Nat)(l1:Vn)(l5:Vl)(l12:WB (Int))(l16:Vo):WA Bool :=
ob (JM n l12 l16) fun l26 =>
ob (α:=(WC) ⊕(WC)) (
bh (uh n l26 l1 l5) n 0) fun r66=>match r66 with
| .inl _ =>
some false
| .inr _ =>
some true
def qn(n:Nat)(l1:Vn):(Int×Int)->WA ((Int×Int) ⊕(Int)):=fun(v7,v8) =>
br (decide (v8<(l1.length:Int))) (
gd (bu v8 l1.length) (
ob (l1[v8.toNat]?) fun(x30,x31) =>
ob (uM n l1 (Vx (v8+1))) fun(r34,r35) =>
ob (some (Vx ((Vx (v7+(Vx (x30*r35))))-(Vx (x31*r34))))) fun y38 =>
some (.inl (y38,Vx (v8+1))))) (
some (.inr v7))
def GQ(n:Nat)(l1:Vn):WA Int :=
ob (
bh (qn n l1) n (0,0)) fun v25 =>
some v25
def su(n:Nat)(l1:Vo)(l2:Vn)(l3:Vl):Int->WA (Int ⊕(WC ⊕(WC))):=fun v0 =>
br (decide (v0<(l1.length:Int))) (
gd (bu v0 l1.length) (
ob (l1[v0.toNat]?) fun l4 =>
ob (Ms n l2 l3 l4 1) fun l5 =>
ob (GQ n l5) fun r0 =>
ob (
br (decide (v0=0)) (
br (decide (r0<0)) (
some true) (
br (decide (0<v0)) (
some (decide (0<r0))) (
some false))) (
br (decide (0<v0)) (
some (decide (0<r0))) (
some false))) fun v1 =>
br (v1) (
some (.inr (.inl ()))) (
some (.inl (Vx (v0+1)))))) (
some (.inr (.inr ())))
def KC(n:Nat)(l1:Vn)(l2:Vl)(l3:WB (Int))(l4:Vo):WA Bool :=
ob (JM n l3 l4) fun l5 =>
ob (α:=(WC) ⊕(WC)) (
bh (su n l5 l1 l2) n 0) fun r0=>match r0 with
| .inl _ =>
some false
| .inr _ =>
some true
def zz(n:Nat)(l5:Vl)(l1:Vn):Int->WA (Int ⊕(Int ⊕(WC))):=fun v14 =>
br (decide (v14<(l5.length:Int))) (
gd (bu v14 l5.length) (
ob (l5[v14.toNat]?) fun(l36,l37) =>
ob (Ik n l1 l5 l36 l37) fun r45 =>
br (!r45) (
some (.inr (.inl v14))) (
some (.inl (Vx (v14+1)))))) (
some (.inr (.inr ())))
def yV(n:Nat)(l5:Vl)(l1:Vn):Int->WA (Int ⊕(Int ⊕(WC))):=fun v50 =>
br (decide (v50<(l5.length:Int))) (
gd (bu v50 l5.length) (
ob (l5[v50.toNat]?) fun(l72,l73) =>
ob (J8 n l1 l5 l72 l73) fun r81 =>
br (!r81) (
some (.inr (.inl v50))) (
some (.inl (Vx (v50+1)))))) (
some (.inr (.inr ())))
def zg(n:Nat)(l1:Vl)(l2:Vn):Int->WA (Int ⊕(Int ⊕(WC))):=fun v0 =>
br (decide (v0<(l1.length:Int))) (
gd (bu v0 l1.length) (
ob (l1[v0.toNat]?) fun(l3,l4) =>
ob (KC n l2 l1 l3 l4) fun r0 =>
br (!r0) (
some (.inr (.inl v0))) (
some (.inl (Vx (v0+1)))))) (
some (.inr (.inr ())))
def Rg(n:Nat)(l1:Vn)(l2:Vl):WA (Int×Int) :=
ob (α:=(Int) ⊕(WC)) (
bh (zz n l2 l1) n 0) fun r0=>match r0 with
| .inl v0 =>
some (4,v0)
| .inr _ =>
ob (α:=(Int) ⊕(WC)) (
bh (yV n l2 l1) n 0) fun r1=>match r1 with
| .inl v1 =>
some (5,v1)
| .inr _ =>
ob (α:=(Int) ⊕(WC)) (
bh (zg n l2 l1) n 0) fun r3=>match r3 with
| .inl v2 =>
some (6,v2)
| .inr _ =>
some (0,0)
def qd(n:Nat)(v0:Int)(l2:Vo)(v2:Int):(WB (Vm)×Int)->WA ((WB (Vm)×Int) ⊕(WB (Vm))):=fun(l3,v1) =>
gd (bu v0 l2.length) (
ob (l2[v0.toNat]?) fun l1 =>
br (decide (v1<(l1.length:Int))) (
gd (bu v0 l2.length) (
gd (bu v1 l1.length) (
ob (l1[v1.toNat]?) fun x3 =>
gd (bu v0 l2.length) (
gd (bu v0 l2.length) (
gd (decide ((l1.length:Int)≠0)) (
gd (bu (Int.tmod (Vx (v1+1)) (l1.length:Int)) l1.length) (
ob (l1[(Int.tmod (Vx (v1+1)) (l1.length:Int)).toNat]?) fun x4 =>
gd (lim (l3++[(x3,x4,v2,v0)]).length) (
some (.inl ((l3++[(x3,x4,v2,v0)]),Vx (v1+1))))))))))) (
some (.inr l3)))
def qh(n:Nat)(l1:Vo)(v1:Int):(WB (Vm)×Int)->WA ((WB (Vm)×Int) ⊕(WB (Vm))):=fun(l2,v0) =>
br (decide (v0<(l1.length:Int))) (
ob (
bh (qd n v0 l1 v1) n (l2,0)) fun l3 =>
some (.inl (l3,Vx (v0+1)))) (
some (.inr l2))
def sJ(n:Nat)(l1:Vl):(WB (Vm)×Int)->WA ((WB (Vm)×Int) ⊕(WB (Vm))):=fun(l2,v0) =>
br (decide (v0<(l1.length:Int))) (
gd (bu v0 l1.length) (
ob (l1[v0.toNat]?) fun(l3,l4) =>
ob (JM n l3 l4) fun l5 =>
ob (
bh (qh n l5 v0) n (l2,0)) fun l6 =>
some (.inl (l6,Vx (v0+1))))) (
some (.inr l2))
def DM(n:Nat)(l3:Vn)(l1:Vl):WA (WB (Vm)) :=
ob (
bh (sJ n l1) n (([]:WB (Vm)),0)) fun l2 =>
some l2
def Ja(n:Nat)(l1:Vn)(l5:Vl)(x12:Int)(x13:Int)(x14:Int)(x15:Int)(x16:Int)(x17:Int)(x18:Int)(x19:Int):WA Bool :=
ob (
br (decide (x12=x16)) (
br (decide (x13=x17)) (
some true) (
br (decide (x12=x17)) (
some (decide (x13=x16))) (
some false))) (
br (decide (x12=x17)) (
some (decide (x13=x16))) (
some false))) fun v39 =>
br (v39) (
some false) (
gd (bu x12 l1.length) (
ob (l1[x12.toNat]?) fun(x50,x51) =>
gd (bu x13 l1.length) (
ob (l1[x13.toNat]?) fun(x54,x55) =>
gd (bu x16 l1.length) (
ob (l1[x16.toNat]?) fun(x58,x59) =>
gd (bu x17 l1.length) (
ob (l1[x17.toNat]?) fun(x62,x63) =>
ob (Ek n x50 x51 x54 x55 x58 x59 x62 x63) fun r70 =>
br (decide (r70=1)) (
br (!decide (x12=x16)) (
br (!decide (x12=x17)) (
br (!decide (x13=x16)) (
some (!decide (x13=x17))) (
some false)) (
some false)) (
some false)) (
some (!decide (r70=0))))))))
def yX(n:Nat)(l1:Vn)(l5:Vl)(x12:Int)(x13:Int)(x14:Int)(x15:Int):WA (Int×Int) :=
gd (bu x12 l1.length) (
ob (l1[x12.toNat]?) fun(x22,x23) =>
gd (bu x13 l1.length) (
ob (l1[x13.toNat]?) fun(x26,x27) =>
some (Vx (x22+x26),Vx (x23+x27))))
def oI(n:Nat)(l1:Vn)(x5:Int)(x6:Int):(Bool×Int)->WA ((Bool×Int) ⊕(WC ⊕(Bool))):=fun(v1,v0) =>
br (decide (v0<(l1.length:Int))) (
ob (α:=(WC) ⊕(Bool)) (
gd (bu v0 l1.length) (
ob (l1[v0.toNat]?) fun(x4,x3) =>
ob (uM n l1 (Vx (v0+1))) fun(r1,r0) =>
ob (sB n x4 x3 r1 r0 x5 x6) fun r3 =>
br (r3) (
some (.inl ())) (
ob (
br (!((decide (x6<x3)) ==(decide (x6<r0)))) (
ob (qo n x4 x3 r1 r0 x5 x6) fun r4 =>
some ((decide (0<r4)) ==(decide (x3<r0)))) (
some false)) fun v2 =>
br (v2) (
some (.inr (!v1))) (
some (.inr v1))))) fun r5=>match r5 with
| .inl _ =>
some (.inr (.inl ()))
| .inr v3 =>
some (.inl (v3,Vx (v0+1)))) (
some (.inr (.inr v1)))
def AO(n:Nat)(l1:Vn)(x5:Int)(x6:Int):WA Int :=
ob (α:=(WC) ⊕(Bool)) (
bh (oI n l1 x5 x6) n (false,0)) fun r0=>match r0 with
| .inl _ =>
some 1
| .inr v0 =>
br (v0) (
some 2) (
some 0)
def sH(n:Nat)(l1:Vo)(l2:Vn)(l3:Vl)(x3:Int)(x4:Int)(x10:Int):Int->WA (Int ⊕(WC ⊕(WC))):=fun v0 =>
br (decide (v0<(l1.length:Int))) (
gd (bu v0 l1.length) (
ob (l1[v0.toNat]?) fun l4 =>
ob (Ms n l2 l3 l4 x3) fun l5 =>
ob (AO n l5 x4 x10) fun r0 =>
ob (
br (decide (v0=0)) (
br (!decide (r0=2)) (
some true) (
br (decide (0<v0)) (
some (!decide (r0=0))) (
some false))) (
br (decide (0<v0)) (
some (!decide (r0=0))) (
some false))) fun v1 =>
br (v1) (
some (.inr (.inl ()))) (
some (.inl (Vx (v0+1)))))) (
some (.inr (.inr ())))
def FJ(n:Nat)(l2:Vn)(l1:Vl)(x3:Int)(x4:Int)(x10:Int)(x11:Int):WA Bool :=
gd (bu x3 l1.length) (
ob (l1[x3.toNat]?) fun(l3,l4) =>
ob (JM n l3 l4) fun l5 =>
ob (α:=(WC) ⊕(WC)) (
bh (sH n l5 l2 l1 x11 x4 x10) n 0) fun r0=>match r0 with
| .inl _ =>
some false
| .inr _ =>
some true)
def zR(n:Nat)(v0:Int)(l1:WB (Vm)):Int->WA (Int ⊕(Int ⊕(WC))):=fun v1 =>
br (decide (v1<v0)) (
ob (
gd (bu v0 l1.length) (
ob (l1[v0.toNat]?) fun(x3,x4,x13,x14) =>
gd (bu v1 l1.length) (
ob (l1[v1.toNat]?) fun(x10,x11,x15,x16) =>
br (decide (x3=x10)) (
gd (bu v0 l1.length) (
gd (bu v1 l1.length) (
some (decide (x4=x11))))) (
some false)))) fun v2 =>
br (v2) (
gd (bu v0 l1.length) (
ob (l1[v0.toNat]?) fun(x17,x18,x12,x19) =>
some (.inr (.inl x12)))) (
some (.inl (Vx (v1+1))))) (
some (.inr (.inr ())))
def yE(n:Nat)(l1:WB (Vm)):Int->WA (Int ⊕(Int ⊕(WC))):=fun v0 =>
br (decide (v0<(l1.length:Int))) (
ob (α:=(Int) ⊕(WC)) (
bh (zR n v0 l1) n 0) fun r0=>match r0 with
| .inl v1 =>
some (.inr (.inl v1))
| .inr _ =>
some (.inl (Vx (v0+1)))) (
some (.inr (.inr ())))
def zA(n:Nat)(v0:Int)(l1:WB (Vm))(l2:Vn)(l3:Vl):Int->WA (Int ⊕(Int ⊕(WC))):=fun v1 =>
br (decide (v1<v0)) (
gd (bu v0 l1.length) (
ob (l1[v0.toNat]?) fun(x4,x10,x3,x11) =>
gd (bu v1 l1.length) (
ob (l1[v1.toNat]?) fun(x12,x13,x14,x15) =>
ob (Ja n l2 l3 x4 x10 x3 x11 x12 x13 x14 x15) fun r0 =>
br (r0) (
gd (bu v0 l1.length) (
some (.inr (.inl x3)))) (
some (.inl (Vx (v1+1))))))) (
some (.inr (.inr ())))
def yR(n:Nat)(l1:WB (Vm))(l2:Vn)(l3:Vl):Int->WA (Int ⊕(Int ⊕(WC))):=fun v0 =>
br (decide (v0<(l1.length:Int))) (
ob (α:=(Int) ⊕(WC)) (
bh (zA n v0 l1 l2 l3) n 0) fun r0=>match r0 with
| .inl v1 =>
some (.inr (.inl v1))
| .inr _ =>
some (.inl (Vx (v0+1)))) (
some (.inr (.inr ())))
def Av(n:Nat)(l2:Vo)(l3:Vn)(l4:Vl)(v1:Int)(l1:WB (Vm))(x4:Int)(x10:Int)(x11:Int)(x3:Int):Int->WA (Int ⊕(WC ⊕(WC))):=fun v0 =>
br (decide (v0<(l2.length:Int))) (
gd (bu v0 l2.length) (
ob (l2[v0.toNat]?) fun l5 =>
ob (Ms n l3 l4 l5 2) fun l6 =>
gd (bu v1 l1.length) (
ob (yX n l3 l4 x4 x10 x11 x3) fun(r1,r3) =>
ob (AO n l6 r1 r3) fun r0 =>
ob (
br (decide (v0=0)) (
br (!decide (r0=2)) (
some true) (
br (decide (0<v0)) (
gd (bu v1 l1.length) (
br (!decide (v0=x3)) (
some (!decide (r0=0))) (
some false))) (
some false))) (
br (decide (0<v0)) (
gd (bu v1 l1.length) (
br (!decide (v0=x3)) (
some (!decide (r0=0))) (
some false))) (
some false))) fun v2 =>
br (v2) (
gd (bu v1 l1.length) (
some (.inr (.inl ())))) (
some (.inl (Vx (v0+1))))))) (
some (.inr (.inr ())))
def zO(n:Nat)(l1:WB (Vm))(l2:Vl)(l3:Vn):Int->WA (Int ⊕(Int ⊕(WC))):=fun v0 =>
br (decide (v0<(l1.length:Int))) (
ob (α:=(WC) ⊕(Int)) (
gd (bu v0 l1.length) (
ob (l1[v0.toNat]?) fun(x10,x11,x3,x4) =>
br (decide (x4=0)) (
some (.inl ())) (
gd (bu v0 l1.length) (
gd (bu x3 l2.length) (
ob (l2[x3.toNat]?) fun(l4,l5) =>
ob (JM n l4 l5) fun l6 =>
ob (α:=(WC) ⊕(WC)) (
bh (Av n l6 l3 l2 v0 l1 x10 x11 x3 x4) n 0) fun r0=>match r0 with
| .inl _ =>
some (.inr x3)
| .inr _ =>
some (.inl ())))))) fun r1=>match r1 with
| .inl _ =>
some (.inl (Vx (v0+1)))
| .inr v1 =>
some (.inr (.inl v1))) (
some (.inr (.inr ())))
def zn(n:Nat)(l2:Vl)(v0:Int)(l1:WB (Vm))(l3:Vn):Int->WA (Int ⊕(Int ⊕(WC))):=fun v1 =>
br (decide (v1<(l2.length:Int))) (
ob (
gd (bu v0 l1.length) (
ob (l1[v0.toNat]?) fun(x4,x10,x3,x11) =>
br (!decide (v1=x3)) (
gd (bu v0 l1.length) (
ob (yX n l3 l2 x4 x10 x3 x11) fun(r0,r1) =>
ob (FJ n l3 l2 v1 r0 r1 2) fun r3 =>
some r3)) (
some false))) fun v2 =>
br (v2) (
gd (bu v0 l1.length) (
ob (l1[v0.toNat]?) fun(x13,x14,x12,x15) =>
some (.inr (.inl x12)))) (
some (.inl (Vx (v1+1))))) (
some (.inr (.inr ())))
def AH(n:Nat)(l1:WB (Vm))(l2:Vl)(l3:Vn):Int->WA (Int ⊕(Int ⊕(WC))):=fun v0 =>
br (decide (v0<(l1.length:Int))) (
ob (α:=(Int) ⊕(WC)) (
bh (zn n l2 v0 l1 l3) n 0) fun r0=>match r0 with
| .inl v1 =>
some (.inr (.inl v1))
| .inr _ =>
some (.inl (Vx (v0+1)))) (
some (.inr (.inr ())))
def QK(n:Nat)(l1:Vn)(l2:Vl):WA (Int×Int) :=
ob (DM n l1 l2) fun l3 =>
ob (α:=(Int) ⊕(WC)) (
bh (yE n l3) n 0) fun r0=>match r0 with
| .inl v0 =>
some (7,v0)
| .inr _ =>
ob (α:=(Int) ⊕(WC)) (
bh (yR n l3 l1 l2) n 0) fun r1=>match r1 with
| .inl v1 =>
some (8,v1)
| .inr _ =>
ob (α:=(Int) ⊕(WC)) (
bh (zO n l3 l2 l1) n 0) fun r3=>match r3 with
| .inl v2 =>
some (9,v2)
| .inr _ =>
ob (α:=(Int) ⊕(WC)) (
bh (AH n l3 l2 l1) n 0) fun r4=>match r4 with
| .inl v3 =>
some (10,v3)
| .inr _ =>
some (0,0)
def Qn(n:Nat)(l1:Vn)(l5:Vl):WA (Int×Int) :=
ob (Re n l1 l5) fun(r14,r15) =>
ob (
br (decide (r14=0)) (
ob (Rg n l1 l5) fun(r24,r25) =>
some (r24,r25)) (
some (r14,r15))) fun(v20,v21) =>
ob (
br (decide (v20=0)) (
ob (QK n l1 l5) fun(r36,r37) =>
some (r36,r37)) (
some (v20,v21))) fun(v32,v33) =>
some (v32,v33)
def O8(n:Nat)(l1:Vn)(l5:Vl):WA Int :=
ob (Qn n l1 l5) fun(r14,r15) =>
br (decide (0<r14)) (
some 150) (
some 0)
def QI(n:Nat)(l1:WB (Int)):(Vn×Int)->WA ((Vn×Int) ⊕(Vn)):=fun(l19,v21) =>
br (decide (Vx (v21+1)<(l1.length:Int))) (
gd (bu v21 l1.length) (
ob (l1[v21.toNat]?) fun x43 =>
gd (bu (Vx (v21+1)) l1.length) (
ob (l1[(Vx (v21+1)).toNat]?) fun x46 =>
gd (lim (l19++[(x43,x46)]).length) (
some (.inl ((l19++[(x43,x46)]),Vx (v21+2))))))) (
some (.inr l19))
def F9(n:Nat)(l1:WB (Int)):WA Vn :=
ob (
bh (QI n l1) n (([]:Vn),0)) fun l37 =>
some l37
def NK(n:Nat)(l1:Vn)(l5:Vl):WA (WB (Vm)×Int) :=
ob (Mh n l1 l5) fun r14 =>
br (!decide (r14=0)) (
some ([],r14)) (
ob (IQ n l1 l5) fun l17 =>
some (l17,0))
def MI(n:Nat)(l41:Vo)(l1:Vn)(l5:Vl):(Int×Int)->WA ((Int×Int) ⊕(Int)):=fun(v49,v50) =>
br (decide (v50<(l41.length:Int))) (
gd (bu v50 l41.length) (
ob (l41[v50.toNat]?) fun l72 =>
ob (JO n l1 l5 l72 1) fun l77 =>
ob (O7 n l77) fun r81 =>
some (.inl (Vx (v49+r81),Vx (v50+1))))) (
some (.inr v49))
def Ru(n:Nat)(l1:Vn)(l5:Vl)(x12:Int):WA (Int×Int) :=
ob (Mh n l1 l5) fun r15 =>
br (!decide (r15=0)) (
some (0,r15)) (
ob (
br (decide (x12<0)) (
some true) (
some (decide ((l5.length:Int)<=x12)))) fun v24 =>
br (v24) (
some (0,2)) (
gd (bu x12 l5.length) (
ob (l5[x12.toNat]?) fun(l32,l33) =>
ob (Bv n l32 l33) fun l41 =>
ob (
bh (MI n l41 l1 l5) n (0,0)) fun v67 =>
some (v67,0))))
def C6(n:Nat)(l1:WB (Vm))(l5:WB (Vm)):Int->WA (Int ⊕(WC ⊕(WC))):=fun v11 =>
br (decide (v11<(l1.length:Int))) (
gd (bu v11 l1.length) (
ob (l1[v11.toNat]?) fun(x35,x36,x37,x38) =>
gd (bu v11 l5.length) (
ob (l5[v11.toNat]?) fun(x43,x44,x45,x46) =>
br (!(decide (x35=x43)&&decide (x36=x44)&&decide (x37=x45)&&decide (x38=x46))) (
some (.inr (.inl ()))) (
some (.inl (Vx (v11+1))))))) (
some (.inr (.inr ())))
def Pp(n:Nat)(l1:WB (Vm))(l5:WB (Vm)):WA Bool :=
br (!decide ((l1.length:Int)=(l5.length:Int))) (
some false) (
ob (α:=(WC) ⊕(WC)) (
bh (C6 n l1 l5) n 0) fun r50=>match r50 with
| .inl _ =>
some false
| .inr _ =>
some true)
def MZ(n:Nat)(l1:Vn)(l5:Vl)(x12:Int)(x13:Int):WA Bool :=
ob (Po n l1 l5) fun(r16,r17) =>
ob (NK n l1 l5) fun(l19,r22) =>
br (decide (r16=x12)) (
br (decide (r17=x13)) (
some ((decide (r22=150)) ==(decide (0<x12)))) (
some false)) (
some false)
def Rj(n:Nat)(l1:Vn)(l5:Vl)(x12:Int)(x13:Int)(x14:Int)(x15:Int):WA Bool :=
ob (Fo n l1 l5) fun(r18,r19,r20,r21,r22) =>
br (decide (r18=x12)) (
br (decide (r19=x13)) (
br (decide (r20=x14)) (
br (decide (r21=x15)) (
some (decide (r22=0))) (
some false)) (
some false)) (
some false)) (
some false)
def Mp(n:Nat)(l1:Vo)(l2:Vn)(l3:Vl)(x3:Int)(x4:Int):Int->WA (Int ⊕(Int ⊕(WC))):=fun v0 =>
br (decide (v0<(l1.length:Int))) (
gd (bu v0 l1.length) (
ob (l1[v0.toNat]?) fun l4 =>
ob (
ob (JO n l2 l3 l4 1) fun l5 =>
ob (Mx n l5 x3 x4) fun r0 =>
some (decide (r0=1))) fun v1 =>
br (v1) (
some (.inr (.inl v0))) (
some (.inl (Vx (v0+1)))))) (
some (.inr (.inr ())))
def MM(n:Nat)(l1:Vl)(l2:Vn)(x3:Int)(x4:Int):Int->WA (Int ⊕(Int ⊕(WC))):=fun v0 =>
br (decide (v0<(l1.length:Int))) (
gd (bu v0 l1.length) (
ob (l1[v0.toNat]?) fun(l3,l4) =>
ob (
ob (K7 n l2 l1 l3 l4 x3 x4 1) fun r0 =>
br (r0) (
some true) (
ob (Bv n l3 l4) fun l5 =>
ob (
ob (α:=(Int) ⊕(WC)) (
bh (Mp n l5 l2 l1 x3 x4) n 0) fun r1=>match r1 with
| .inl v1 =>
some v1
| .inr _ =>
some (-1)) fun v2 =>
some (decide (0<=v2)))) fun v3 =>
br (v3) (
some (.inr (.inl v0))) (
some (.inl (Vx (v0+1)))))) (
some (.inr (.inr ())))
def R9(n:Nat)(l1:Vn)(l2:Vl)(x3:Int)(x4:Int):WA (Int×Int) :=
ob (Mh n l1 l2) fun r0 =>
br (!decide (r0=0)) (
some (0,r0)) (
ob (Pf n x3 x4) fun r1 =>
br (r1) (
some (0,2)) (
ob (
ob (α:=(Int) ⊕(WC)) (
bh (MM n l2 l1 x3 x4) n 0) fun r3=>match r3 with
| .inl v0 =>
some v0
| .inr _ =>
some (-1)) fun v1 =>
some (v1,0)))
def Ph(n:Nat)(l1:Vn)(l5:Vl)(x12:Int)(x13:Int)(x14:Int):WA Bool :=
ob (R9 n l1 l5 x12 x13) fun(r17,r18) =>
br (decide (r17=x14)) (
some (decide (r18=0))) (
some false)
def F7(n:Nat):WA Bool :=
ob (
ob (F9 n ([0,0,2,0,4,0,4,2,2,2,0,2])) fun l8 =>
some (l8,([([0,1,4,5],[]),([1,2,3,4],[])]:Vl))) fun(l3,l4) =>
ob (
ob (F9 n ([0,0,9,0,9,9,0,9,3,3,6,3,6,6,3,6])) fun l9 =>
some (l9,([([0,1,2,3],[[4,7,6,5]]),([4,5,6,7],[])]:Vl))) fun(l1,l2) =>
ob (NK n l3 l4) fun(l10,r0) =>
ob (Ru n l1 l2 0) fun(r1,r3) =>
ob (
ob (F9 n ([0,0,9,0,9,9,0,9,3,3,6,3,6,6,3,6])) fun l11 =>
some (l11,([([0,1,2,3],[[4,7,6,5]]),([4,5,6,7],[])]:Vl))) fun(l12,l5) =>
ob (
ob (F9 n ([0,0,9,0,9,9,0,9,3,3,6,3,6,6,3,6])) fun l13 =>
some (l13,([([0,1,2,3],[[4,7,6,5]]),([4,5,6,7],[])]:Vl))) fun(l14,l6) =>
ob (
ob (F9 n ([0,0,2,0,4,0,4,2,2,2,0,2])) fun l15 =>
some (l15,([([0,1,4,5],[]),([1,2,3,4],[])]:Vl))) fun(l16,l7) =>
gd (bu 0 l5.length) (
ob (l5[Vy]?) fun(l17,l20) =>
gd (bu 0 l6.length) (
ob (l6[Vy]?) fun(l18,l21) =>
gd (bu 1 l7.length) (
ob (l7[(1:Int).toNat]?) fun(l22,l19) =>
ob (Pp n l10 ([(0,1,0,-1),(0,5,-1,0),(1,2,1,-1),(1,4,0,1),(2,3,1,-1),(3,4,1,-1),(4,5,0,-1)])) fun r4 =>
ob (
ob (MZ n l3 l4 0 0) fun r5 =>
br (r5) (
ob (MZ n l1 l2 0 0) fun r6 =>
br (r6) (
ob (MZ n l12 (l5.set (Vy) (l17,[])) 10 1) fun r7 =>
br (r7) (
ob (MZ n l14 (l6.set (Vy) (l18,[[4,5,6,7]])) 6 0) fun r8 =>
br (r8) (
ob (MZ n l16 (l7.set ((1:Int).toNat) ([1,2,3,5],l19)) 8 1) fun r9 =>
some r9) (
some false)) (
some false)) (
some false)) (
some false)) fun v0 =>
br (r4) (
br (decide (r0=0)) (
br (decide (r1=144)) (
br (decide (r3=0)) (
br (v0) (
ob (Rj n l3 l4 6 7 2 1) fun r10 =>
br (r10) (
ob (Rj n l1 l2 8 8 2 2) fun r11 =>
br (r11) (
ob (Ph n l1 l2 4 4 1) fun r12 =>
br (r12) (
ob (Ph n l1 l2 1 1 0) fun r13 =>
br (r13) (
ob (Ph n l1 l2 3 3 0) fun r14 =>
br (r14) (
ob (Ph n l1 l2 10 10 (-1)) fun r15 =>
some r15) (
some false)) (
some false)) (
some false)) (
some false)) (
some false)) (
some false)) (
some false)) (
some false)) (
some false)) (
some false))))
def u7(n:Nat)(l14:WB (Vm))(l1:Vn):(WB (Int)×Nat×Int)->WA ((WB (Int)×Nat×Int) ⊕(WB (Int)×Nat)):=fun(l21,n23,v24) =>
br (decide (v24<(l14.length:Int))) (
gd (bu v24 l14.length) (
ob (l14[v24.toNat]?) fun(x58,x59,x60,x61) =>
gd (bu v24 l14.length) (
ob (some (Vx ((Vx (x58*(l1.length:Int)))+x59))) fun y64 =>
gd (bu v24 l14.length) (
gd (bu y64 n23) (
ob (l21[y64.toNat]?) fun x71 =>
some (.inl ((l21.set y64.toNat (Vx (x60+1))),n23,Vx (v24+1)))))))) (
some (.inr (l21,n23)))
def vJ(n:Nat)(l2:Vn)(v1:Int)(n0:Nat)(l3:WB (Int)):(WB (Vm)×Int)->WA ((WB (Vm)×Int) ⊕(WB (Vm))):=fun(l1,v0) =>
br (decide (v0<(l2.length:Int))) (
ob (
ob (some (Vx ((Vx (v1*(l2.length:Int)))+v0))) fun y0 =>
gd (bu y0 n0) (
ob (l3[y0.toNat]?) fun x3 =>
ob (some (Vx ((Vx (v0*(l2.length:Int)))+v1))) fun y1 =>
gd (bu y1 n0) (
ob (l3[y1.toNat]?) fun x4 =>
br (decide (0<Vx (x3+x4))) (
gd (lim (l1++[(v1,v0,Vx (x3-1),Vx (x4-1))]).length) (
some (l1++[(v1,v0,Vx (x3-1),Vx (x4-1))]))) (
some l1)))) fun l4 =>
some (.inl (l4,Vx (v0+1)))) (
some (.inr l1))
def vw(n:Nat)(l1:Vn)(n0:Nat)(l3:WB (Int)):(WB (Vm)×Int)->WA ((WB (Vm)×Int) ⊕(WB (Vm))):=fun(l2,v0) =>
br (decide (v0<(l1.length:Int))) (
ob (
bh (vJ n l1 v0 n0 l3) n (l2,Vx (v0+1))) fun l4 =>
some (.inl (l4,Vx (v0+1)))) (
some (.inr l2))
def Pd(n:Nat)(l1:Vn)(l2:Vl):WA (WB (Vm)) :=
ob (DM n l1 l2) fun l3 =>
gd (decide (0<=Vx ((l1.length:Int)*(l1.length:Int)))) (gd (lim ((Vx ((l1.length:Int)*(l1.length:Int))).toNat)) (
ob (
bh (u7 n l3 l1) n ((List.replicate (Vx ((l1.length:Int)*(l1.length:Int))).toNat (0:Int)),(Vx ((l1.length:Int)*(l1.length:Int))).toNat,0)) fun(l4,n0) =>
ob (
bh (vw n l1 n0 l4) n (([]:WB (Vm)),0)) fun l5 =>
some l5))
def PU(n:Nat)(l1:Vn)(l5:Vl):WA (WB (Vm)×Int) :=
ob (O8 n l1 l5) fun r14 =>
br (!decide (r14=0)) (
some ([],r14)) (
ob (Pd n l1 l5) fun l17 =>
some (l17,0))
def wh(n:Nat)(l1:Vn):(WB (Int)×Int)->WA ((WB (Int)×Int) ⊕(WB (Int))):=fun(l33,v34) =>
br (decide (v34<((l1.length:Int).toNat:Int))) (
gd (bu v34 ((l1.length:Int).toNat)) (
ob (l33[v34.toNat]?) fun x45 =>
some (.inl ((l33.set v34.toNat v34),Vx (v34+1))))) (
some (.inr l33))
def vf(n:Nat)(l1:WB (Vm))(l2:Vn):(WB (Int)×WB (Bool)×Int)->WA ((WB (Int)×WB (Bool)×Int) ⊕(WB (Int)×WB (Bool))):=fun(l3,l4,v0) =>
br (decide (v0<(l1.length:Int))) (
gd (bu v0 l1.length) (
ob (l1[v0.toNat]?) fun(x3,x4,x12,x13) =>
gd (bu x3 ((l2.length:Int).toNat)) (
ob (l3[x3.toNat]?) fun x10 =>
gd (bu v0 l1.length) (
gd (bu x4 ((l2.length:Int).toNat)) (
ob (l3[x4.toNat]?) fun x11 =>
gd (bu v0 l1.length) (
gd (bu v0 l1.length) (
gd (bu x3 ((l2.length:Int).toNat)) (
gd (bu x4 ((l2.length:Int).toNat)) (
ob ((l3.set x3.toNat (mi x10 x11))[x4.toNat]?) fun x14 =>
gd (bu v0 l1.length) (
gd (bu v0 l1.length) (
gd (bu x3 ((l2.length:Int).toNat)) (
ob (l4[x3.toNat]?) fun x15 =>
gd (bu x4 ((l2.length:Int).toNat)) (
ob ((l4.set x3.toNat true)[x4.toNat]?) fun x16 =>
some (.inl (((l3.set x3.toNat (mi x10 x11)).set x4.toNat (mi x10 x11)),((l4.set x3.toNat true).set x4.toNat true),Vx (v0+1)))))))))))))))) (
some (.inr (l3,l4)))
def vN(n:Nat)(l1:Vn)(l4:WB (Vm)):(WB (Int)×WB (Bool)×Int)->WA ((WB (Int)×WB (Bool)×Int) ⊕(WB (Int)×WB (Bool))):=fun(l2,l3,v0) =>
br (decide (v0<(l1.length:Int))) (
ob (
bh (vf n l4 l1) n (l2,l3,0)) fun(l5,l6) =>
some (.inl (l5,l6,Vx (v0+1)))) (
some (.inr (l2,l3)))
def vV(n:Nat)(l1:Vn)(l2:WB (Bool))(l3:WB (Int)):(Int×Int×Int)->WA ((Int×Int×Int) ⊕(Int×Int)):=fun(v1,v2,v0) =>
br (decide (v0<((l1.length:Int).toNat:Int))) (
ob (
gd (bu v0 ((l1.length:Int).toNat)) (
ob (l2[v0.toNat]?) fun x3 =>
br (x3) (
gd (bu v0 ((l1.length:Int).toNat)) (
ob (l3[v0.toNat]?) fun x4 =>
br (decide (x4=v0)) (
some (Vx (v1+1),Vx (v2+1))) (
some (Vx (v1+1),v2)))) (
some (v1,v2)))) fun(v3,v4) =>
some (.inl (v3,v4,Vx (v0+1)))) (
some (.inr (v1,v2)))
def Qb(n:Nat)(l1:Vn)(l2:Vl):WA (Int×Int×Int×Int×Int) :=
ob (O8 n l1 l2) fun r0 =>
br (!decide (r0=0)) (
some (0,0,0,0,r0)) (
ob (Pd n l1 l2) fun l3 =>
gd (decide (0<=(l1.length:Int))) (gd (lim ((l1.length:Int).toNat)) (
gd (decide (0<=(l1.length:Int))) (gd (lim ((l1.length:Int).toNat)) (
ob (
bh (wh n l1) n ((List.replicate (l1.length:Int).toNat (0:Int)),0)) fun l4 =>
ob (
bh (vN n l1 l3) n (l4,(List.replicate (l1.length:Int).toNat (false:Bool)),0)) fun(l5,l6) =>
ob (
bh (vV n l1 l6 l5) n (0,0,0)) fun(v0,v1) =>
some (v0,(l3.length:Int),(l2.length:Int),v1,0))))))
def EN(n:Nat)(l3:Vn)(l4:Vl)(l5:Vn)(l6:Vl)(l7:Vn)(l8:Vl):Int->WA (Int ⊕(WC ⊕(WC))):=fun v0 =>
br (decide (v0<3)) (
gd (bu v0 3) (
ob ([(l3,l4),(l5,l6),(l7,l8)][v0.toNat]?) fun(l1,l2) =>
ob (NK n l1 l2) fun(l9,r0) =>
ob (PU n l1 l2) fun(l10,r1) =>
ob (Fo n l1 l2) fun(r3,r4,r5,r6,r7) =>
ob (Qb n l1 l2) fun(r8,r9,r10,r11,r12) =>
ob (
br (!decide (r0=r1)) (
some true) (
ob (Pp n l9 l10) fun r13 =>
br (!r13) (
some true) (
br (!decide (r3=r8)) (
some true) (
br (!decide (r4=r9)) (
some true) (
br (!decide (r5=r10)) (
some true) (
br (!decide (r6=r11)) (
some true) (
some (!decide (r7=r12))))))))) fun v1 =>
br (v1) (
some (.inr (.inl ()))) (
some (.inl (Vx (v0+1)))))) (
some (.inr (.inr ())))
def F4(n:Nat)(x1:Nat)(x2:Nat)(l1:WB (Nat))(l2:WB (Nat))(x3:Bool)(x4:Nat)(x10:Nat)(x11:Nat)(x12:Int)(x13:Int)(x14:Int)(x15:Nat)(x16:Nat)(x17:Nat)(x18:Int)(x19:Int)(x20:Int):WA Bool :=
ob (QV n x1 x2 l1 l2 x3 x4 x10 x11 x12 x13 x14 x15 x16 x17 x18 x19 x20) fun(l3,l4,l5,l6,l7,l8) =>
ob (α:=(WC) ⊕(WC)) (
bh (EN n l3 l4 l5 l6 l7 l8) n 0) fun r0=>match r0 with
| .inl _ =>
some false
| .inr _ =>
ob (F7 n) fun r1 =>
some r1
end
end Go.Proofs.YtmndpgfbkicndaaGreat
namespace Go.Ab.W
open Go Go.Ab
section
variable{P:Vv}{ty:Vt}
def J0(P:Vv)(ty u:Vt)(k:IntKind):Bool:=match P.underlying ty with
 | some (.struct fs) => !(P.stoodInHeld ty || fs.any (·.name == "_")) && (fs.toList.map (fun f => (f.type, f.offset)) == [(u, 0), (u, 1), (u, 2), (u, 3)]) && known P u && (match P.underlying u with | some (.int k') => k' == k | _ => false)
 | _=>false
def EP {u : Vt} {k : IntKind} (h : J0 P ty u k = true) : ∃ fs, P.underlying ty = some (.struct fs) /\ (P.stoodInHeld ty || fs.any (·.name == "_")) = false /\ fs.toList.map (fun f => (f.type, f.offset)) = [(u, 0), (u, 1), (u, 2), (u, 3)] /\
  known P u=true/\P.underlying u=some (.int k):=by
 unfold J0 at h
 split at h
 rename_i fs hf;simp only[SY,T5,beq_iff_eq] at h;obtain⟨⟨⟨h1,h2⟩,h3⟩,h5⟩:=h
 split at h5
 rename_i k' e1;simp only[beq_iff_eq] at h5;subst h5;exact⟨fs,hf,h1,h2,h3,e1⟩
 cases h5
 cases h
def QB{u:Vt}{k:IntKind}(h:J0 P ty u k=true)(x0 y0 x1 y1 x2 y2 x3 y3:Int) :
  j7 P Op.maxDepth ty (.agg #[.int k x0,.int k x1,.int k x2,.int k x3]) (.agg #[.int k y0,.int k y1,.int k y2,.int k y3])=some (decide (x0=y0)&&decide (x1=y1)&&decide (x2=y2)&&decide (x3=y3)):=by
 obtain⟨fs,hf,h1,h2,h3,h5⟩:=EP h;have a1:dT P u=false:=by simp only[dT,h5]
 have p0:∀x y z w:Vs,dj P u #[x,y,z,w] 0=some x:=fun x y z w=>by simp only[dj,h3,a1]; rfl
 have p1:∀x y z w:Vs,dj P u #[x,y,z,w] 1=some y:=fun x y z w=>by simp only[dj,h3,a1]; rfl
 have p2:∀x y z w:Vs,dj P u #[x,y,z,w] 2=some z:=fun x y z w=>by simp only[dj,h3,a1]; rfl
 have p3:∀x y z w:Vs,dj P u #[x,y,z,w] 3=some w:=fun x y z w=>by simp only[dj,h3,a1]; rfl
 show j7 P (9999+1) ty _ _=_
 unfold j7;simp only[hf,h1,Ts,if_false,h2];rw[nB (p0 _ _ _ _) (p0 _ _ _ _) (vo h5 9998 x0 y0) (nB (p1 _ _ _ _) (p1 _ _ _ _) (vo h5 9998 x1 y1) (nB (p2 _ _ _ _) (p2 _ _ _ _) (vo h5 9998 x2 y2) (nB (p3 _ _ _ _) (p3 _ _ _ _) (vo h5 9998 x3 y3) rfl)))];simp only[Bool.and_true,Bool.and_assoc]
end
section
variable{E:Env}{m0:Wb}{fs:Fs}{ps:WB Pc}{x:Vu}{ty:Vt}
def jJ{a:Addr}(h:ev E fs x=some (.pointer (some a))):Od E m0 fs ps (.nilCheck x) (.pointer (some a)) ps:=.pure (fun _=>rfl) fun t m hf K=>by
 show fe (match ay E t x with
  | some (.pointer (some a))=>some (.pointer (some a),m)
  | some (.func (.func f) a b)=>some (.func (.func f) a b,m)
  | some (.func (.yield f) a b)=>some (.func (.yield f) a b,m)
  | _=>none) K=_
 rw[hf.ev h]; rfl
end
set_option maxRecDepth 10000
attribute [local irreducible] Tm.at Trie.set Trie.get Wb.get Wb.set Wb.alloc Wb.ww
section
variable{E:Env}{n:Nat}{m0:Wb}{fs:Fs}{ps:WB Pc}{x y z:Vu}{v:Vs}{ty ty2:Vt}
def Mz{elem lo hi mx b o len cap w k:Nat}{cs:WB Vs}{lx hx:WA Vu}{l h:WA Vs}(ht:SlT E.P ty elem w)(hv:ev E fs x=some (.slice (some ⟨b,o,none⟩) len cap))(e1:js E fs lx=some l)(e2:js E fs hx=some h)
  (hp:pk ps k=some (.obj b (.cells cs (.more w)))) (hb:bV len cap l h none=some (lo,hi,mx)) :
  Od E m0 fs ps (.slice ty x lx hx none) (if cap=lo then gy b else .slice (some ⟨b,o+lo*w,none⟩) (hi-lo) (cap-lo)) ps :=
 fun t m hf hm=>⟨fun b' hb'=>by
  have:dO (.slice (some ⟨b,o,none⟩) len cap)=some b:=rfl;simp only[aQ,hf.ev hv,Tu,this] at hb';cases hb'; exact(hm.get hp).2.1,fun K hK=>by
  have hg:=(hm.get hp).2.2;have hs:cf E.P ty (.slice (some ⟨b,o,none⟩) len cap) l h none m=some (if cap=lo then gy b else .slice (some ⟨b,o+lo*w,none⟩) (hi-lo) (cap-lo)):=by
   have hne:¬w≠w:=fun h=>h rfl;simp only[cf,ht.und,ht.known,if_true,hg,hb,ht.size,SS hne]
   split<;>rfl
  rw[Go.Ab.nA (hf.ev hv) (hf.js e1) (hf.js e2) (show dU E t none=some none from rfl) hs]; exact hK m hm⟩
def MK{elem lo hi mx b o len cap w k:Nat}{cs:WB Vs}{lx hx:WA Vu}{kx:Vu}{l h:WA Vs}{q:Vs}(ht:SlT E.P ty elem w)(hv:ev E fs x=some (.slice (some ⟨b,o,none⟩) len cap))(e1:js E fs lx=some l)(e2:js E fs hx=some h)(e3:js E fs (some kx)=some (some q))
  (hp:pk ps k=some (.obj b (.cells cs (.more w)))) (hb:bV len cap l h (some q)=some (lo,hi,mx)) :
  Od E m0 fs ps (.slice ty x lx hx (some kx)) (if mx=lo/\hi=lo then .slice (some ⟨b,0,some 1⟩) 0 0 else .complex .f64 0 0) ps :=
 fun t m hf hm=>⟨fun b' hb'=>by
  have:dO (.slice (some ⟨b,o,none⟩) len cap)=some b:=rfl;simp only[aQ,hf.ev hv,Tu,this] at hb';cases hb'; exact(hm.get hp).2.1,fun K hK=>by
  have hg:=(hm.get hp).2.2;have hs:cf E.P ty (.slice (some ⟨b,o,none⟩) len cap) l h (some q) m=some (if mx=lo/\hi=lo then .slice (some ⟨b,0,some 1⟩) 0 0 else .complex .f64 0 0):=by
   have hne:¬w≠w:=fun h=>h rfl;simp only[cf,ht.und,ht.known,if_true,hg,hb,ht.size,SS hne]
   split<;>rfl
  rw[Go.Ab.nA (hf.ev hv) (hf.js e1) (hf.js e2) (hf.js e3) hs]; exact hK m hm⟩
def P5{elem w b o len cap l1 c0 k:Nat}{tg:Tag}{a0:Vq}{cs new:WB Vs}{ars:WD Vu}(ht:SlT E.P ty elem w)(h0:∃e2,E.P.underlying ty2=some (.slice e2))(ha:gG E fs ars.toList=some [.slice (some ⟨b,o,none⟩) len cap,.slice a0 l1 c0])(hp:pk ps k=some (.obj b (.cells cs tg)))(htg:qU tg=true)
  (hs:∀m,Hp m0 m ps->db w (.slice a0 l1 c0) l1 m=some new) (hnl:new.length=l1*w) (ho:bf new=true) (hlim:lim (len+l1)=true) (hfit:len+l1<=cap) (hl:o+len*w+new.length<=cs.length) :
  Od E m0 fs ps (.call ⟨.builtin .append,ars,#[ty,ty2]⟩) (.slice (some ⟨b,o,none⟩) (len+l1) cap) (bR ps k (.obj b (.cells (aF cs (o+len*w) new) tg))) :=
 fun t m hf hm=>⟨fun b' hb'=>by simp[aQ] at hb',fun K hK=>by
  have hg:=(hm.get hp).2.2;obtain⟨e2,h0⟩:=h0;obtain⟨inf,h1,h2,h3⟩:=ht.bytes;have hlim':len+l1<=1073741824:=T2 hlim;have hfc:dP inf.bytes (len+l1)=true:=by
   simp only[dP,S9]
   calc (2*(len+l1)+2000)*inf.bytes<=(2*1073741824+2000)*1024:=UJ (by omega) h3
    _<=2 ^ 48:=by decide
  have hguard:(!(known E.P elem)||aI E.P elem==0 || !bf new || !(E.P.info? elem).any (fun i=>dP i.bytes (len+l1)&&i.bytes != 0)||new.length != l1*aI E.P elem || !(bw E.P elem).any (fun z=>z.cells.size==aI E.P elem&&z.cells.toList.all aP))=false:=by
   have hz:=ht.zero;have hp:=ht.pos;rw[ht.size];simp only[ht.known,ho,h1,U3,hfc,hz,hnl];simp[h2]; omega
  have hnc:fh E.P elem (some ty2) (.slice a0 l1 c0) m=some (l1,new):=by
   simp only[fh,Tu,h0,ht.size,hs m hm,Tl]
  by_cases hnil:new=[]
  subst hnil;have hsp:aF cs (o+len*w) []=cs:=by
   apply T6;intro i;rw[aS,SS (by simp; omega)]
  have:bo E.P .append #[ty,ty2] [.slice (some ⟨b,o,none⟩) len cap,.slice a0 l1 c0] m=some (.slice (some ⟨b,o,none⟩) (len+l1) cap,m):=by
   show cP E.P ty (some ty2) _ _ m=_
   unfold cP;simp only[ht.und,hnc,hguard,Ts,if_false,hg,SU hfit,Wb.cZ,Tl]
  rw[Go.Ab.dB (hf.gG ha) this];refine hK _ ?_;rw[hsp];have e:bR ps k (.obj b (.cells cs tg))=ps:=qz _ _ _ hp;rw[e]; exact hm
  ·have hst:m.cZ b (o+len*w) new=some (m.set b (.cells (aF cs (o+len*w) new) tg)):=by
    cases new with
    | nil=>exact Tj rfl hnil
    | cons a' new =>
     cases tg with
     | ro=>cases htg
     | own=>simp only[Wb.cZ,hg,SU hl]
     | more s=>simp only[Wb.cZ,hg,SU hl]
   have h4:m.cZ b (o+len*aI E.P elem) new=some (m.set b (.cells (aF cs (o+len*w) new) tg)):=by rw[ht.size]; exact hst
   have:bo E.P .append #[ty,ty2] [.slice (some ⟨b,o,none⟩) len cap,.slice a0 l1 c0] m=some (.slice (some ⟨b,o,none⟩) (len+l1) cap,m.set b (.cells (aF cs (o+len*w) new) tg)):=by
    show cP E.P ty (some ty2) _ _ m=_
    unfold cP;simp only[ht.und,hnc,hguard,Ts,if_false,hg,SU hfit,h4,Tl]
   rw[Go.Ab.dB (hf.gG ha) this];exact hK _ (hm.write hp rfl rfl rfl rfl ⟨(hm.get hp).1,by rw[Wb.next_set]; exact(hm.get hp).2.1,by rw[Wb.bC,SU rfl]⟩)⟩
def FU{elem lo hi mx b o len cap w k:Nat}{cs:WB Vs}{tg:Tag}{lx hx:WA Vu}{l h:WA Vs}(ht:SlT E.P ty elem w)(hv:ev E fs x=some (.slice (some ⟨b,o,none⟩) len cap))(e1:js E fs lx=some l)(e2:js E fs hx=some h)
  (hp:pk ps k=some (.obj b (.cells cs tg))) (htg:tg=.own\/tg=.more w) (hb:bV len cap l h none=some (lo,hi,mx)) (hmx:mx=cap) (hlo:cap≠lo) :
  Od E m0 fs ps (.slice ty x lx hx none) (.slice (some ⟨b,o+lo*w,none⟩) (hi-lo) (cap-lo)) ps:=by
 rcases htg with rfl|rfl
 subst hmx;exact Dj ht hv e1 e2 (show js E fs none=some none from rfl) hp rfl hb (by rw[SS hlo])
 have:=Mz (m0:=m0) ht hv e1 e2 hp hb;rwa[SS hlo] at this
def QN{elem lo hi mx b o len cap w k:Nat}{cs:WB Vs}{tg:Tag}{lx hx:WA Vu}{kx:Vu}{l h:WA Vs}{q:Vs}(ht:SlT E.P ty elem w)(hv:ev E fs x=some (.slice (some ⟨b,o,none⟩) len cap))(e1:js E fs lx=some l)(e2:js E fs hx=some h)(e3:js E fs (some kx)=some (some q))
  (hp:pk ps k=some (.obj b (.cells cs tg))) (htg:tg=.own\/tg=.more w) (hb:bV len cap l h (some q)=some (lo,hi,mx)) :
  Ox E m0 fs ps (.slice ty x lx hx (some kx)) (fun v:Vs=>v) (fun _=>ps):=by
 rcases htg with rfl|rfl
 exact fun t m hf hm=>⟨(Dj (m0:=m0) ht hv e1 e2 e3 hp rfl hb rfl t m hf hm).1,fun K hK=>(Dj (m0:=m0) ht hv e1 e2 e3 hp rfl hb rfl t m hf hm).2 K (hK _)⟩
 exact fun t m hf hm=>⟨(MK (m0:=m0) ht hv e1 e2 e3 hp hb t m hf hm).1,fun K hK=>(MK (m0:=m0) ht hv e1 e2 e3 hp hb t m hf hm).2 K (hK _)⟩
def QM{elem b w k j nn:Nat}{cs:WB Vs}{tg:Tag}{lx:WA Vu}{l:WA Vs}(ht:SlT E.P ty elem w)(hv:ev E fs x=some (.slice (some ⟨b,0,none⟩) nn nn))(e1:js E fs lx=some l)
  (hp:pk ps k=some (.obj b (.cells cs tg))) (htg:tg=.own\/tg=.more w) (hj:j<=nn) (hb:bV nn nn l none none=some (j,nn,nn)) (hcl:nn*w<=cs.length) :
  Ox E m0 fs ps (.slice ty x lx none none) (fun A:{ A:Addr // ∀m,Hp m0 m ps->db w (.slice (some A) (nn-j) (nn-j)) (nn-j) m=some ((cs.drop (j*w)).take ((nn-j)*w))}=>.slice (some A.1) (nn-j) (nn-j)) (fun _=>ps):=by
 by_cases h:nn=j
 subst h;have h0:∀A m,db w (.slice (some A) (nn-nn) (nn-nn)) (nn-nn) m=some ((cs.drop (nn*w)).take ((nn-nn)*w)):=fun A m=>by
  obtain⟨ab,ao,ax⟩:=A;cases ax<;>simp[db]
 rcases htg with rfl|rfl
 have h1:=Dj (m0:=m0) ht hv e1 (show js E fs none=some none from rfl) (show js E fs none=some none from rfl) hp rfl hb rfl
 rw[SU rfl] at h1;exact fun t m hf hm=>⟨(h1 t m hf hm).1,fun K hK=>(h1 t m hf hm).2 K (hK ⟨_,fun m' _=>h0 _ m'⟩)⟩
 have h1:=Mz (m0:=m0) ht hv e1 (show js E fs none=some none from rfl) hp hb
 rw[SU rfl] at h1;have h2:gy b=.slice (some ⟨b,0,some 0⟩) (nn-nn) (nn-nn):=by rw[Vj]; rfl
 rw[h2] at h1;exact fun t m hf hm=>⟨(h1 t m hf hm).1,fun K hK=>(h1 t m hf hm).2 K (hK ⟨_,fun m' _=>h0 _ m'⟩)⟩
 have h1:=FU (m0:=m0) ht hv e1 (show js E fs none=some none from rfl) hp htg hb rfl h
 exact fun t m hf hm=>⟨(h1 t m hf hm).1,fun K hK=>(h1 t m hf hm).2 K (hK ⟨_,fun m' hm'=>by
  have:=K2 (b:=b) (o:=0+j*w) (l:=nn-j) (c:=nn-j) (w:=w) (q:=nn-j) (k:=k) hm' hp (by omega) (by
   have:j*w+(nn-j)*w=nn*w:=by rw[<-UN]; congr 1; omega
   omega)
  rw[this,Tw]⟩)⟩
end
end Go.Ab.W
namespace Go.Proofs.YtmndpgfbkicndaaGreat
open Go Go.Ab Go.Ab.W
set_option maxRecDepth 10000
set_option maxHeartbeats 4000000
attribute [local irreducible] Tm.at Trie.set Trie.get Wb.get Wb.set Wb.alloc Wb.ww Wb.kill
variable{p q:WA Prim}
def bA(k:IntKind){x y:Nat}(h:x<=y):jA (.int k (x:Int)) y=some x:=by
 simp only[jA]; rw[SU ⟨by omega,by omega⟩,Ti]
def R8{len cap lo hi mx:Nat}{k1 k2 k3:IntKind}(h1:lo<=hi)(h2:hi<=mx)(h3:mx<=cap):bV len cap (some (.int k1 (lo:Int))) (some (.int k2 (hi:Int))) (some (.int k3 (mx:Int)))=some (lo,hi,mx):=by
 unfold bV; simp only[bA _ h3,bA _ h2,bA _ h1]
def R7{len cap hi:Nat}{k2:IntKind}(h2:hi<=cap):bV len cap none (some (.int k2 (hi:Int))) none=some (0,hi,cap):=by
 unfold bV; simp only[bA _ h2]
def R0{len cap lo:Nat}{k1:IntKind}(h1:lo<=len):bV len cap (some (.int k1 (lo:Int))) none none=some (lo,len,cap):=by
 unfold bV; simp only[bA _ h1]
def PK{len cap lo hi:Nat}{k1 k2:IntKind}(h1:lo<=hi)(h2:hi<=cap):bV len cap (some (.int k1 (lo:Int))) (some (.int k2 (hi:Int))) none=some (lo,hi,cap):=by
 unfold bV; simp only[bA _ h2,bA _ h1]
def NX{a b:Nat}(h:lim a=true)(hb:b<=a):lim b=true:=Nat.ble_eq_true_of_le (Tv hb (T2 h))
def AQ{l l':WB Vs}(h:bf l=true)(hs:∀v∈l',v∈l):bf l'=true:=Tc.2 fun v hv=>Tc.1 h v (hs v hv)
def yZ{cs new zs:WB Vs}{p q:Nat}(hq:q=p+new.length)(hl:q<=cs.length):(aF (aF cs p new) q zs).take q=cs.take p++new:=by
 apply T6;intro k;have hp:(cs.take p).length=p:=by rw[Th]; omega
 rw[T8]
 split
 rw[aS,Vz,aS]
 by_cases hk:k<p
 rw[Vz,TQ (by rw[hp]; exact hk),T8,SU hk]
 rw[SU ⟨by omega,by omega,by omega⟩,TN (by rw[hp]; omega),hp]
 rw[TV (by rw[Te,hp]; omega)]
def Sb{n:Nat}:fb (We p q).P 31 n=some (bt [.slice none 0 0,.slice none 0 0] n):=by
 have:bw (We p q).P 31=some (.agg #[.slice none 0 0,.slice none 0 0]):=by kernel_rfl
 have hs:aI (We p q).P 31=2:=by kernel_rfl
 simp only[fb,this,hs]; rfl
def Jk{m0 m:Wb}{rest:WB Pc}{b n i j:Nat}{cs:WB Vs}{tg:Tag}(htg:tg=.own\/tg=.more 2)(hm:Hp m0 m (.obj b (.cells cs tg)::rest))(hcl:cs.length=n*2)(hone:bf cs=true)(hij:i<j)(hjn:j<=n)(hlim:lim n=true) :
  aG (We p q) 98 [.slice (some ⟨b,0,none⟩) n n,.int .i64 (i:Int),.int .i64 (j:Int)] m fun v m'=>v=.slice (some ⟨b,0,none⟩) (n-(j-i)) n /\
   ∃cs',Hp m0 m' (.obj b (.cells cs' tg)::rest)/\cs'.length=cs.length/\cs'.take ((n-(j-i))*2)=cs.take (i*2)++(cs.drop (j*2)).take ((n-j)*2):=by
 have hro:qU tg=true:=by rcases htg with rfl|rfl<;>rfl
 refine aW (m0:=m0) (ps:=.obj b (.cells cs tg)::rest) (N:=33) (rs:=[.tmp 6]) rfl Tryz.func98 rfl rfl rfl hm ?_;refine VD ?_;refine VF ?_;refine VB (bQ rfl) rfl ?_;refine VN ?_;refine VI ?_;refine VD ?_;refine VF ?_;refine VB (aK rfl) rfl ?_;refine VB (aK rfl) rfl ?_;refine VB (aK rfl) rfl ?_;refine VB (aK rfl) rfl ?_;refine VB (jU (k:=0) EV rfl rfl (.inl rfl)) rfl ?_;refine VL (QN (k:=0) jQ rfl rfl rfl rfl rfl htg (R8 (Nat.le_of_lt hij) hjn (S0 n))) gn rfl fun _=>?_;refine VN ?_;refine VI ?_;refine VD ?_;refine VD ?_;refine VF ?_;refine VB (aK rfl) rfl ?_;refine VB (aK rfl) rfl ?_;refine VB (aJ rfl rfl (IZ _ _)) rfl ?_;refine VN ?_;refine VI ?_;refine Wk.fZ rfl (S7 (Nat.ne_of_lt hij)) ?_;refine Wk.skip ?_;refine VI ?_;refine VD ?_;refine VF ?_;refine VB (aK rfl) rfl ?_;refine VB (jU (k:=0) EV rfl rfl (.inl rfl)) rfl ?_;refine VB (bQ rfl) rfl ?_;refine VN ?_;refine VI ?_;refine VD ?_;refine Wk.draw (by kernel_rfl) ?_
 refine VB (aK rfl) rfl ?_;refine VB (aK rfl) rfl ?_;refine VB (FU (k:=0) jQ rfl rfl rfl rfl htg (R7 (by omega)) rfl (by omega)) rfl ?_
 refine VB (aK rfl) rfl ?_;refine VB (aK rfl) rfl ?_;refine VL (QM (k:=0) jQ rfl rfl rfl htg hjn (R0 hjn) (by omega)) gn rfl fun A=>?_
 have hnl:((cs.drop (j*2)).take ((n-j)*2)).length=(n-j)*2:=by simp; omega
 have ho1:bf ((cs.drop (j*2)).take ((n-j)*2))=true:=AQ hone fun v hv=>UA (Uz hv);refine VB (P5 (k:=0) jQ ⟨_,EV⟩ rfl rfl hro A.2 hnl ho1 (NX hlim (by omega)) (by omega) (by rw[hnl]; omega)) rfl ?_
 refine VB (bQ rfl) rfl ?_;refine VN ?_;refine VI ?_;refine VD ?_;refine VF ?_;refine VB (aK rfl) rfl ?_;refine VB (aK rfl) rfl ?_;refine VB (jU (k:=0) EV rfl rfl (.inl rfl)) rfl ?_;refine VB (aK rfl) rfl ?_;refine VB (FU (k:=0) jQ rfl rfl rfl rfl htg (PK (by omega) (by omega)) rfl (by omega)) rfl ?_
 refine V0 (Ps (k:=0) (zs:=bt [.slice none 0 0,.slice none 0 0] (n-(i-0+(n-j)))) jQ rfl rfl hro (by omega) Sb (eA (by decide) _) (by intro e; have:=TB List.length e; rw[bO] at this; simp at this; omega) (by rw[bO,bg]; simp; omega)) ?_
 refine VN ?_;refine VI ?_;refine VD ?_;refine VF ?_;refine VB (aK rfl) rfl ?_;refine VB (bQ rfl) rfl ?_;refine VN ?_;refine VI ?_;refine Wk.ret ?_;refine VQ (.tmp rfl .nil) fun m' hm'=>⟨?_,_,hm',?_,?_⟩
 rw[show i-0+(n-j)=n-(j-i) by omega,UC]; rfl
 rw[bg,bg]
 rw[show(n-(j-i))*2=0+(i-0+(n-j))*2 by omega]
 rw[yZ (by rw[hnl]; omega) (by omega),Tw,UC]
end Go.Proofs.YtmndpgfbkicndaaGreat
namespace Go.Ab.W
open Go Go.Ab
attribute [local irreducible] Tm.at Trie.set Trie.get Wb.get Wb.set Wb.alloc Wb.ww Wb.kill
section
variable{α:Type}{r:Rep α}{o:Orp r}{E:Env}{n:Nat}{m0 m:Wb}{fs:Fs}{ps:WB Pc}{dr:Bool}{ops:WD Oper}{K:Tm->Wb->Prop}{os:WB Oper}{prs:WB (Nat×Nat)}{ss:WB Nk}{ty:Vt}
def ah.Dx:ah m0 ps (.gen (cY o (fun _=>False) [] [])::ps):=fun _ hm=>hm.Dx
def Wo.uB{x:α}{g:o.G}{qs:WB Pc}(hq:o.N x g++ps=qs)(k:∀S,Wo dr E n ops K os m0 fs (.gen (cY o S [x] [o.V x g])::ps)):Wo dr E n ops K os m0 fs qs :=
 Wo.pd (N:=fun S=>.gen (cY o S [x] [o.V x g])::ps) (fun m hm=>⟨_,Hp.uB (by rw[hq]; exact hm)⟩) k
def Wn.uB{x:α}{g:o.G}{qs:WB Pc}(hq:o.N x g++ps=qs)(k:∀S,Wn E n ops prs K os ss m0 fs (.gen (cY o S [x] [o.V x g])::ps)):Wn E n ops prs K os ss m0 fs qs :=
 Wn.pd (N:=fun S=>.gen (cY o S [x] [o.V x g])::ps) (fun m hm=>⟨_,Hp.uB (by rw[hq]; exact hm)⟩) k
def th{elem ty2:Vt}{w c0 l l1:Nat}{a a0:Vq}{S S':Vr}{L L':WB α}{es es':Vp}{ars:WD Vu}{p0:Pc}(ht:SlT E.P ty elem w)(h3:∃e2,E.P.underlying ty2=some (.slice e2))(ha:gG E fs ars.toList=some [.slice a l l,.slice a0 l1 c0])(hr:IsRd p0 a0 c0 w l1 es')(hw:r.w=w)(hl:lim (L++L').length=true) :
  Ox E m0 fs (.gen (cY o S L es)::.gen (cY o S' L' es')::.sl a w l es::p0::ps) (.call ⟨.builtin .append,ars,#[ty,ty2]⟩) (fun y:Vq ×(Nat->Prop)=>.slice y.1 (L++L').length (L++L').length)
   (fun y=>.gen (cY o y.2 (L++L') (es++es'))::.sl y.1 w (L++L').length (es++es')::p0::ps):=fun t m hf hm=>⟨fun b hb=>(by simp[aQ] at hb),fun K hK=>by
 have e1:l=L.length:=by rw[Pc.tN (hm.get (k:=2) rfl),so hm (q:=0) rfl]
 have e2:l1=L'.length:=by rw[<-(hm.rd (k:=3) rfl hr).1,so hm (q:=1) rfl]
 have e0:l+l1=(L++L').length:=by rw[e1,e2,Te]
 obtain⟨⟨qs,h0,_⟩,_⟩:=(hm.get (k:=1) rfl).1;obtain⟨S'',h1⟩:=hm.Gg;obtain⟨a',m',h4,h2⟩:=pZ (n:=l) (k:=1) ht h3 h1 rfl (h1.rd (k:=2) rfl hr) (fun e he=>by rw[<-hw]; exact(h0.cells e he).1) (fun e he=>(h0.cells e he).2) (by rw[e0]; exact hl)
 have:bo E.P .append #[ty,ty2] [.slice a l l,.slice a0 l1 c0] m=some (.slice a' (l+l1) (l+l1),m'):=h4;rw[Go.Ab.dB (hf.gG ha) this];rw[e0] at h2 ⊢;exact hK (a',S'') m' h2⟩
end
def ig{γ:Type}{l:WB γ}{j:Nat}{e:γ}(h:l[j]? = some e):l.set j e=l:=by
 apply T6;intro i;rw[Us]
 split
 rename_i hij; subst hij;rw[SU (Tg.1 h).1,h]
 rfl
def de{γ:Type}{l:WB γ}{j:Nat}{e e':γ}(h:l[j]? = some e):(l.set j e')[j]? = some e':=by
 rw[Us,SU rfl,SU (Tg.1 h).1]
section
variable{α β:Type}{r:Rep α}{o:Orp r}{E:Env}{n:Nat}{m0 m:Wb}{fs:Fs}{ps qs:WB Pc}{dr:Bool}{ops:WD Oper}{K:Tm->Wb->Prop}{os:WB Oper}{prs:WB (Nat×Nat)}{ss:WB Nk}{ty:Vt}{Q:Wc->Tm->Wb->Prop}
def ah.lN{k b w l:Nat}{es es':Vp}{tg:Tag}(hp:pk ps k=some (.arr b w l es tg))(h:es=es'):ah m0 ps (bR ps k (.arr b w l es' tg)):=fun m hm=>by
 subst h; rw[qz _ _ _ hp]; exact hm
def At.pd{e:Wc}{β:Type}{N:β->WB Pc}(h:∀m,Hp m0 m ps->∃y,Hp m0 m (N y))(k:∀y,At Q e m0 fs (N y)):At Q e m0 fs ps:=fun t m hf hm=>by
 obtain⟨y,hy⟩:=h m hm; exact k y t m hf hy
def Aj{S:Vr}{L:WB α}{es:Vp}{j:Nat}{x:α}(hl:L[j]? = some x):∀m,Hp m0 m (.gen (cY o S L es)::ps) ->
  ∃z:{ z:o.G ×(Nat->Prop) ×(Nat->Prop) // es[j]? = some (o.V x z.1)},Hp m0 m (o.N x z.1.1++(.gen (cY o z.1.2.1 (L.take j) (es.take j))::.gen (cY o z.1.2.2 (L.drop (j+1)) (es.drop (j+1)))::ps)):=fun m hm=>by
 obtain⟨g,S1,S2,he,h⟩:=hm.Kk hl;exact⟨⟨(g,S1,S2),he⟩,h⟩
def Wo.Cu{S:Vr}{L:WB α}{es:Vp}{j:Nat}{x:α}{N:o.G->(Nat->Prop)->(Nat->Prop)->WB Pc}(hl:L[j]? = some x)(hN:∀g S1 S2,N g S1 S2=o.N x g++(.gen (cY o S1 (L.take j) (es.take j))::.gen (cY o S2 (L.drop (j+1)) (es.drop (j+1)))::ps))(k:∀g S1 S2,es[j]? = some (o.V x g)->Wo dr E n ops K os m0 fs (N g S1 S2)) :
  Wo dr E n ops K os m0 fs (.gen (cY o S L es)::ps):=Wo.pd (Aj hl) fun z=>by rw[<-hN]; exact k _ _ _ z.2
def Wn.Cu{S:Vr}{L:WB α}{es:Vp}{j:Nat}{x:α}{N:o.G->(Nat->Prop)->(Nat->Prop)->WB Pc}(hl:L[j]? = some x)(hN:∀g S1 S2,N g S1 S2=o.N x g++(.gen (cY o S1 (L.take j) (es.take j))::.gen (cY o S2 (L.drop (j+1)) (es.drop (j+1)))::ps))(k:∀g S1 S2,es[j]? = some (o.V x g)->Wn E n ops prs K os ss m0 fs (N g S1 S2)) :
  Wn E n ops prs K os ss m0 fs (.gen (cY o S L es)::ps):=Wn.pd (Aj hl) fun z=>by rw[<-hN]; exact k _ _ _ z.2
def zQ{S1 S2:Vr}{L:WB α}{es:Vp}{j:Nat}{x:α}{g:o.G}(hl:L[j]? = some x)(he:es[j]? = some (o.V x g))(hq:o.N x g++(.gen (cY o S1 (L.take j) (es.take j))::.gen (cY o S2 (L.drop (j+1)) (es.drop (j+1)))::ps)=qs):∀m,Hp m0 m qs->∃S,Hp m0 m (.gen (cY o S L es)::ps):=fun m hm=>by
 rw[<-hq] at hm;obtain⟨S,h⟩:=hm.EM hl he;rw[ig hl,ig he] at h;exact⟨S,h⟩
def Wo.FZ{S1 S2:Vr}{L:WB α}{es:Vp}{j:Nat}{x:α}{g:o.G}(hl:L[j]? = some x)(he:es[j]? = some (o.V x g))(hq:o.N x g++(.gen (cY o S1 (L.take j) (es.take j))::.gen (cY o S2 (L.drop (j+1)) (es.drop (j+1)))::ps)=qs)(k:∀S,Wo dr E n ops K os m0 fs (.gen (cY o S L es)::ps)):Wo dr E n ops K os m0 fs qs:=Wo.pd (zQ hl he hq) k
def Wn.FZ{S1 S2:Vr}{L:WB α}{es:Vp}{j:Nat}{x:α}{g:o.G}(hl:L[j]? = some x)(he:es[j]? = some (o.V x g))(hq:o.N x g++(.gen (cY o S1 (L.take j) (es.take j))::.gen (cY o S2 (L.drop (j+1)) (es.drop (j+1)))::ps)=qs)(k:∀S,Wn E n ops prs K os ss m0 fs (.gen (cY o S L es)::ps)):Wn E n ops prs K os ss m0 fs qs:=Wn.pd (zQ hl he hq) k
def ah.ij{S:Vr}{L:WB α}{es:Vp}:ah m0 (.gen (cY o S L es)::ps) (.gen (bY r S L es)::ps):=fun _ hm=>hm.tl
def Fv{S1 S2 S:Vr}{L:WB α}{es:Vp}{j:Nat}{x y:α}{e:WB Vs}{g:r.G}(hl:L[j]? = some x)(he:es[j]? = some e)(hf:Lf m0 ps r y g S):∀m,Hp m0 m (.gen (cY o S1 (L.take j) (es.take j))::.gen (cY o S2 (L.drop (j+1)) (es.drop (j+1)))::ps)->∃R,Hp m0 m (.gen (bY r R (L.set j y) (es.set j (r.V y g)))::ps):=fun m hm=>by
 have h1:=hm.tl;have h2:Hp m0 m (.gen (cY o S2 (L.drop (j+1)) (es.drop (j+1)))::.gen (bY r S1 (L.take j) (es.take j))::ps):=h1.perm (List.Perm.swap _ _ _);have h3:=h2.tl;have h0:Hp m0 m ps:=by
  have:=h3.ok;exact⟨h3.ext,fun p hp=>h3.ok p (Tn _ (Tn _ hp)),(Tp.1 (Tp.1 h3.apart).2).2⟩
 obtain⟨a1,a2⟩:=hf m h0;have h4:gX m0 (.gen (bY r S2 (L.drop (j+1)) (es.drop (j+1)))::.gen (bY r S1 (L.take j) (es.take j))::ps) r [y] [r.V y g] (fun b=>S b\/False):=fun m' hm'=>by
  have h5:Hp m0 m' ps:=⟨hm'.ext,fun p hp=>hm'.ok p (Tn _ (Tn _ hp)),(Tp.1 (Tp.1 hm'.apart).2).2⟩;obtain⟨b1,b2⟩:=hf m' h5;refine⟨.cons (r.mono b1 fun _ h=>.inl h) .nil,fun b hb=>?_⟩;obtain⟨q,hq,h⟩:=b2 b (hb.elim id False.elim);exact⟨q,Tn _ (Tn _ hq),h⟩
 have h6:=ah.dp h4 m h3;have h7:=ah.CN (m0:=m0) (q:=0) (q2:=1) rfl rfl m h6;have h8:=ah.CN (m0:=m0) (q:=2) (q2:=0) rfl rfl m h7;have h9:Hp m0 m (.gen (bY r (fun b=>S1 b\/((S b\/False)\/S2 b)) (L.take j++([y]++L.drop (j+1))) (es.take j++([r.V y g]++es.drop (j+1))))::ps):=⟨h8.ext,fun p hp=>h8.ok p (Tn _ (Tn _ hp)),(Tp.1 (Tp.1 h8.apart).2).2⟩;refine⟨fun b=>S1 b\/((S b\/False)\/S2 b),?_⟩;rw[hY y (Tg.1 hl).1,hY (r.V y g) (Tg.1 he).1];exact h9
def At.iL{ex:Wc}{S1 S2 S:Vr}{L:WB α}{es:Vp}{j:Nat}{x y:α}{e:WB Vs}{g:r.G}(hl:L[j]? = some x)(he:es[j]? = some e){e2:WB Vs}(hf:Lf m0 ps r y g S)(hV:∀m,Hp m0 m ps->r.V y g=e2)(k:∀R,At Q ex m0 fs (.gen (bY r R (L.set j y) (es.set j e2))::ps)) :
  At Q ex m0 fs (.gen (cY o S1 (L.take j) (es.take j))::.gen (cY o S2 (L.drop (j+1)) (es.drop (j+1)))::ps):=At.pd (fun m hm=>by
 obtain⟨R,hR⟩:=Fv hl he hf m hm;have h0:Hp m0 m ps:=⟨hR.ext,fun p hp=>hR.ok p (Tn _ hp),(Tp.1 hR.apart).2⟩;rw[hV m h0] at hR;exact⟨R,hR⟩) k
def Hp.QL{f:β->WB Vs}{w:Nat}{r2:Rep α}{o2:Orp r2}{S:Vr}{L:WB (WB β×α)}{es:Vp}{k q:Nat}{x:WB β×α}(hm:Hp m0 m ps)(hq:pk ps q=some (.gen (cY (oP (oS f w) o2) S L es)))(hl:L[k]? = some x) :
  ∃a h,es[k]? = some (.slice a x.1.length x.1.length::h)/\Rd m a x.1.length w x.1.length (x.1.map f):=by
 obtain⟨⟨qs,h1,h2⟩,_⟩:=(hm.get hq).1;obtain⟨q1,q2,rfl,h3,h4⟩:=h1.split k;have hk:k<L.length:=(Tg.1 hl).1;have hke:k<es.length:=by rw[h1.len]; exact hk
 have hd:L.drop k=x::L.drop (k+1):=by
  rw[US hk];rw[SR hk] at hl;rw[SX hl]
 rw[hd,US hke] at h4;obtain⟨g,q3,e1,rfl,h5⟩:=h4;have hmem:(.sl g.1 w x.1.length (x.1.map f):Pc)∈q1++((oP (oS f w) o2).N x g++q3):=TF _ (TA _ (TA _ (S6.2 rfl)));refine⟨g.1,o2.V x.2 g.2,by rw[SR hke,e1]; rfl,?_⟩
 exact Pc.Ex (p:=.sl g.1 w x.1.length (x.1.map f)) (h2.1 _ hmem).1 (.sl ..)
def Wo.N0{k q w l:Nat}{a:Vq}{S:Vr}{L:WB α}{es:Vp}(hp:pk ps k=some (.sl a w l es))(hq:pk ps q=some (.gen (cY o S L es)))(h:l=L.length->Wo dr E n ops K os m0 fs ps):Wo dr E n ops K os m0 fs ps:=by
 have key:∀m,Hp m0 m ps->l=L.length:=fun m hm=>(Pc.tN (hm.get hp)).trans (so hm hq);cases dr with
 | false=>exact fun t m hf hm=>h (key m hm) t m hf hm
 | true=>exact fun t m w hf hm hw=>h (key m hm) t m w hf hm hw
def Wn.N0{k q w l:Nat}{a:Vq}{S:Vr}{L:WB α}{es:Vp}(hp:pk ps k=some (.sl a w l es))(hq:pk ps q=some (.gen (cY o S L es)))(h:l=L.length->Wn E n ops prs K os ss m0 fs ps):Wn E n ops prs K os ss m0 fs ps :=
 fun t m ns hf hm hn=>h ((Pc.tN (hm.get hp)).trans (so hm hq)) t m ns hf hm hn
def C7:∀p ∈([]:WB Pc),p.bound=true/\∀b,p.any b->p.ow b:=fun p hp=>by cases hp
def yw{l:WB Pc}{a:Vq}{w k:Nat}{es:Vp}(h:∀p∈l,p.bound=true/\∀b,p.any b->p.ow b):∀p ∈(Pc.sl a w k es::l),p.bound=true/\∀b,p.any b->p.ow b:=fun p hp=>by
 rcases Tq.1 hp with rfl|hp
 exact⟨rfl,fun b hb=>A6 hb⟩
 exact h p hp
def G4{l:WB Pc}{S:Vr}{L:WB α}{es:Vp}(h:∀p∈l,p.bound=true/\∀b,p.any b->p.ow b):∀p ∈(Pc.gen (cY o S L es)::l),p.bound=true/\∀b,p.any b->p.ow b:=fun p hp=>by
 rcases Tq.1 hp with rfl|hp
 exact⟨rfl,fun b hb=>hb.elim (fun h=>by cases h) fun h=>h.elim (fun h=>.inr h) fun h=>h.elim⟩
 exact h p hp
def Hp.od{q:Nat}{S:Vr}{L:WB α}{es:Vp}(hm:Hp m0 m ps)(hq:pk ps q=some (.gen (cY o S L es))):(bY r S L es).P m:=by
 obtain⟨⟨qs,h1,h2⟩,h3⟩:=(hm.get hq).1;exact⟨h1.FA (fun p hp=>(h2.1 p hp).1) fun p hp b hb=>(h2.1 p hp).2.2.2 b ((h2.1 p hp).2.2.1 b hb),h3⟩
def Hp.rA{f:β->WB Vs}{w:Nat}{r2:Rep α}{o2:Orp r2}{S1 S2:Vr}{L:WB (WB β×α)}{es:Vp}{j k q0 q1 q2:Nat}{z x:WB β×α}{a0:Vq}{h0:WB Vs}(hm:Hp m0 m ps)(hl:L[j]? = some z)(he:es[j]? = some (.slice a0 z.1.length z.1.length::h0))(hx:L[k]? = some x)
  (hq0:pk ps q0=some (.sl a0 w z.1.length (z.1.map f))) (hq1:pk ps q1=some (.gen (cY (oP (oS f w) o2) S1 (L.take j) (es.take j)))) (hq2:pk ps q2=some (.gen (cY (oP (oS f w) o2) S2 (L.drop (j+1)) (es.drop (j+1))))) :
  ∃a h,es[k]? = some (.slice a x.1.length x.1.length::h)/\Rd m a x.1.length w x.1.length (x.1.map f):=by
 rcases Nat.lt_trichotomy k j with h|h|h
 obtain⟨a,t,h1,h2⟩:=hm.QL (k:=k) (x:=x) hq1 (by rw[T8,SU h]; exact hx)
 rw[T8,SU h] at h1;exact⟨a,t,h1,h2⟩
 subst h;rw[hl] at hx; cases hx;exact⟨a0,h0,he,Pc.Ex (hm.get hq0) (.sl ..)⟩
 obtain⟨a,t,h1,h2⟩:=hm.QL (k:=k-(j+1)) (x:=x) hq2 (by rw[T9,show j+1+(k-(j+1))=k by omega]; exact hx)
 rw[T9,show j+1+(k-(j+1))=k by omega] at h1
 exact⟨a,t,h1,h2⟩
def Wn.rA{f:β->WB Vs}{w:Nat}{r2:Rep α}{o2:Orp r2}{S1 S2:Vr}{L:WB (WB β×α)}{es:Vp}{j k q0 q1 q2:Nat}{z x:WB β×α}{a0:Vq}{h0:WB Vs}(hl:L[j]? = some z)(he:es[j]? = some (.slice a0 z.1.length z.1.length::h0))(hx:L[k]? = some x)
  (hq0:pk ps q0=some (.sl a0 w z.1.length (z.1.map f))) (hq1:pk ps q1=some (.gen (cY (oP (oS f w) o2) S1 (L.take j) (es.take j)))) (hq2:pk ps q2=some (.gen (cY (oP (oS f w) o2) S2 (L.drop (j+1)) (es.drop (j+1)))))
  (kk:∀a h,es[k]? = some (.slice a x.1.length x.1.length::h)->(∀m,Hp m0 m ps->Rd m a x.1.length w x.1.length (x.1.map f))->Wn E n ops prs K os ss m0 fs ps):Wn E n ops prs K os ss m0 fs ps:=fun t m ns hf hm hn=>by
 obtain⟨a,h,h1,_⟩:=hm.rA hl he hx hq0 hq1 hq2;refine kk a h h1 (fun m' hm'=>?_) t m ns hf hm hn;obtain⟨a',h',h3,h4⟩:=hm'.rA hl he hx hq0 hq1 hq2;rw[h1] at h3;have e:=Ur (SX h3);injection e with e;rw[e]; exact h4
def Lf.sr{f:β->WB Vs}{a:Vq}{k cap w l:Nat}{xs:WB β}(hp:pk ps k=some (.rd a cap w l (xs.map f))):Lf m0 ps (rS f w) xs (a,cap) (fun b=>kz a=some b):=fun m hm=>by
 have e:=pX hm hp;subst e;exact Lf.s hp m hm
def Lf.lr{a:Vq}{k cap w q l:Nat}{R:Vr}{xs:WB α}{es:Vp}(hp:pk ps k=some (.rd a cap w l es))(hq:pk ps q=some (.gen (bY r R xs es)))(hw:r.w=w):Lf m0 ps (rL r) xs (a,cap,es) (fun b=>kz a=some b\/R b):=fun m hm=>by
 have e:l=xs.length:=(hm.get hp).1.symm.trans (ml hm hq);subst e;exact Lf.l hp hq hw m hm
end
end Go.Ab.W
namespace Go.Proofs.YtmndpgfbkicndaaGreat
section
open Go Go.Ab Go.Ab.W
set_option maxRecDepth 10000
set_option maxHeartbeats 4000000
attribute [local irreducible] Wo Wk At Wn Od Ox bq bZ
attribute [local irreducible] Tm.at Trie.set Trie.get Wb.get Wb.set Wb.alloc Wb.ww Wb.kill
variable{p q:WA Prim}
def z26:bw (We p q).P 26=some (.agg #[.slice none 0 0,.slice none 0 0]):=by kernel_rfl
def B5:BdT (We p q).P 26 (.agg #[.slice none 0 0,.slice none 0 0]) [(0,1),(1,1)]:=.mk' (by kernel_rfl) (by kernel_rfl)
def mS:BdT (We p q).P 31 (.agg #[.slice none 0 0,.slice none 0 0]) [(0,1),(1,1)]:=.mk' (by kernel_rfl) (by kernel_rfl)
abbrev iy:Orp ba:=(oS (eI .i64) 1)
abbrev cH:Orp aj:=(oP (oS (eI .i64) 1) (oL iy))
def Hv{n l7 l1 a7 c1 a8 c2}{r0:Vr}{e0:Vp}{r}(hF:Pn n l7 l1=some r)(m)(h2:dZ m a7 c1 l7)(h3:fN m a8 c2 l1 e0)(h4:(bY aj r0 l1 e0).P m):
 aG (We p q) 97 [eu a7 l7 c1 a8 l1 c2] m (fun v m'=>∃x:Vq×Nat×Vq×Nat×Vp ×(Nat->Prop),v=.agg #[.slice x.1 x.2.1 x.2.1,.slice x.2.2.1 x.2.2.2.1 x.2.2.2.1]/\Hp m m' [.sl x.1 2 x.2.1 (r.1.map (eP (eI .i64) (eI .i64))),.sl x.2.2.1 2 x.2.2.2.1 x.2.2.2.2.1,.gen (cY cH x.2.2.2.2.2 r.2 x.2.2.2.2.1)]):=by
 unfold Pn at hF;refine cw Tryz.func97 (VW (VJ (VJ (VG m) bX h2) (bU bX) h3) (bU (bU bX)) h4) ?_;refine wz ?_;refine wb fun b4=>?_;refine wa z26 fun b0=>?_;refine an ?_;refine VB (fk rfl rfl (fY _ _)) rfl ?_;obtain⟨h5,hF⟩:=aB hF;refine VL (AE (k:=4) (lo:=0) (hi:=mi (l7.length:Int) (125:Int)) uu rfl rfl rfl rfl h5 (.inl ⟨rfl,rfl⟩) (.inr ⟨_,rfl⟩)) gn rfl ?_;rintro⟨a11,c4⟩;obtain⟨l4,h6,hF⟩:=J hF;refine wc gn (fun m hm=>K6 n (V6 l7 125) a11 c4 _ h6 m (hm.q 0)) ?_;rintro⟨a0,n0⟩;refine VY (k:=0) (xs:=l4) rfl ?_;rintro rfl;refine VB (cL rfl z26 rfl (cJ B5 rfl rfl rfl)) rfl<|wa z26 fun b1=>?_;refine an ?_;refine VB (fk rfl rfl (fY _ _)) rfl ?_;obtain⟨h7,hF⟩:=aB hF;refine VL (Mr (r:=aj) (k:=6) (q:=5) (lo:=0) (hi:=mi (l1.length:Int) (66:Int)) jQ rfl rfl rfl rfl rfl h7 (.inl ⟨rfl,rfl⟩) (.inr ⟨_,rfl⟩)) gn rfl ?_;rintro⟨a9,c0⟩;refine wz ?_;refine VE ?_;obtain⟨l8,h0,hF⟩:=J hF;refine ct (fun l8 ((a4,e4,r3):Vq×Vp ×(Nat->Prop))=>⟨(.exit 0),(rM b0 b1 []),[ji b0,sG b1 a0 l4 a4 l8,iO a0 l4,lC a4 l8 e4,pP cH r3 l8 e4]⟩) l8 ?_ ?_;refine lw h0 ((none,[],(fun _=>False)):Vq×Vp ×(Nat->Prop)) (fun(l2,v0) ((a1,e1,r1):Vq×Vp ×(Nat->Prop))=>⟨.normal,(rM b0 b1 [(24,.slice a9 ((V6 l1 66).length) c0),(25,.int .i64 ((V6 l1 66).length:Int)),(26,aN v0)]),[ji b0,sG b1 a0 l4 a1 l2,iO a0 l4,lC a1 l2 e1,pP cH r1 l2 e1,.rd a9 c0 2 ((V6 l1 66).length) ((e0.drop Vy).take ((mi (l1.length:Int) (66:Int):Int).toNat-Vy)),.gen (bY aj r0 (V6 l1 66) ((e0.drop Vy).take ((mi (l1.length:Int) (66:Int):Int).toNat-Vy)))]⟩) (ah.trans (ah.nil 2 rfl) (ah.trans (ah.Dx (o:=cH)) (ah.aq [7,4,5,1,0,2,3] rfl rfl))) ?_;clear hF h0;rintro⟨l2,v0⟩ ⟨a1,e1,r1⟩ r hF;unfold vQ at hF;refine wz ?_;refine VD ?_;rcases aa hF with⟨h8,hF⟩|⟨h8,hF⟩;refine an ?_;obtain⟨h9,hF⟩:=bE hF;refine VO (k:=5) rfl (aC h9) ?_;rintro b2 o1 rfl;refine wz ?_;obtain⟨⟨l11,l3⟩,h10,hF⟩:=J hF;refine wl 2 0 7 0 h10 ?_;rintro⟨⟨a16,c7⟩,⟨a17,c8,e6⟩⟩;refine wa z31 fun b5=>?_;refine an ?_;refine VB (fk rfl rfl (fY _ _)) rfl ?_;obtain⟨h11,hF⟩:=aB hF;refine VL (AE (k:=1) (lo:=0) (hi:=mi (l11.length:Int) (42:Int)) fa rfl rfl rfl rfl h11 (.inl ⟨rfl,rfl⟩) (.inr ⟨_,rfl⟩)) gn rfl ?_;rintro⟨a12,c5⟩;obtain⟨l5,h12,hF⟩:=J hF;refine wc gn (fun m hm=>pU n (V6 l11 42) a12 c5 _ h12 m (hm.q 0)) ?_;rintro⟨a2,n1⟩;refine VY (k:=0) (xs:=l5) rfl ?_;rintro rfl;refine VB (cL rfl z31 rfl (cJ mS rfl rfl rfl)) rfl<|wa z31 fun b3=>?_;refine an ?_;refine VB (fk rfl rfl (fY _ _)) rfl ?_;obtain⟨h13,hF⟩:=aB hF;refine VL (Mr (r:=ba) (k:=5) (q:=6) (lo:=0) (hi:=mi (l3.length:Int) (10:Int)) lu rfl rfl rfl rfl rfl h13 (.inl ⟨rfl,rfl⟩) (.inr ⟨_,rfl⟩)) gn rfl ?_;rintro⟨a10,c3⟩;refine wz ?_;refine VE ?_;obtain⟨l6,h1,hF⟩:=J hF;refine ct (fun l6 ((a3,e5,r4):Vq×Vp ×(Nat->Prop))=>⟨(.exit 2),(rM b0 b1 [(6,ptr b3 0),(24,.slice (some ⟨b2,o1,none⟩) ((V6 l1 66).length) c0),(25,.int .i64 ((V6 l1 66).length:Int)),(26,aN v0)]),[ji b0,sG b1 a0 l4 a1 l2,iO a0 l4,lC a1 l2 e1,pP cH r1 l2 e1,sG b3 a2 l5 a3 l6,xZ a2 l5,.sl a3 1 l6.length e5,pP iy r4 l6 e5,.ro b2 o1 2 ((V6 l1 66).length) ((e0.drop Vy).take ((mi (l1.length:Int) (66:Int):Int).toNat-Vy)),.gen (bY aj r0 (V6 l1 66) ((e0.drop Vy).take ((mi (l1.length:Int) (66:Int):Int).toNat-Vy))),.rd (some ⟨b2,o1,none⟩) c0 2 ((V6 l1 66).length) ((e0.drop Vy).take ((mi (l1.length:Int) (66:Int):Int).toNat-Vy))]⟩) l6 ?_ ?_;refine lw h1 ((none,[],(fun _=>False)):Vq×Vp ×(Nat->Prop)) (fun(l9,v1) ((a5,e3,r5):Vq×Vp ×(Nat->Prop))=>⟨.normal,(rM b0 b1 [(6,ptr b3 0),(24,.slice (some ⟨b2,o1,none⟩) ((V6 l1 66).length) c0),(25,.int .i64 ((V6 l1 66).length:Int)),(26,aN v0),(45,.slice a10 ((V6 l3 10).length) c3),(46,.int .i64 ((V6 l3 10).length:Int)),(47,aN v1)]),[ji b0,sG b1 a0 l4 a1 l2,iO a0 l4,lC a1 l2 e1,pP cH r1 l2 e1,sG b3 a2 l5 a5 l9,xZ a2 l5,.sl a5 1 l9.length e3,pP iy r5 l9 e3,.ro b2 o1 2 ((V6 l1 66).length) ((e0.drop Vy).take ((mi (l1.length:Int) (66:Int):Int).toNat-Vy)),.gen (bY aj r0 (V6 l1 66) ((e0.drop Vy).take ((mi (l1.length:Int) (66:Int):Int).toNat-Vy))),.rd (some ⟨b2,o1,none⟩) c0 2 ((V6 l1 66).length) ((e0.drop Vy).take ((mi (l1.length:Int) (66:Int):Int).toNat-Vy)),.rd a10 c3 1 ((V6 l3 10).length) ((e6.drop Vy).take ((mi (l3.length:Int) (10:Int):Int).toNat-Vy)),.gen (bY ba r0 (V6 l3 10) ((e6.drop Vy).take ((mi (l3.length:Int) (10:Int):Int).toNat-Vy)))]⟩) (ah.trans (ah.nil 1 rfl) (ah.trans (ah.Dx (o:=iy)) (ah.aq [12,13,14,15,16,4,5,1,0,11,18,17,2,3] rfl rfl))) ?_;clear hF h1;rintro⟨l9,v1⟩ ⟨a5,e3,r5⟩ r hF;unfold vA at hF;refine wz ?_;refine VD ?_;rcases aa hF with⟨h14,hF⟩|⟨h14,hF⟩;refine an ?_;obtain⟨h15,hF⟩:=bE hF;refine VO (k:=12) rfl (aC h15) ?_;rintro b6 o2 rfl;refine wz ?_;obtain⟨l12,h16,hF⟩:=J hF;refine wl 1 0 14 0 h16 ?_;rintro⟨a18,c9⟩;refine wz ?_;refine VT (prs:=[(1,7)]) (by kernel_rfl)<|VC (aM (r:=ptr b3 1) rfl (eE _ _)) rfl<|VC (aH (k:=7) kX rfl rfl rfl) rfl<|VC (aK rfl) rfl<|VC (aK rfl) rfl<|VC (jU (k:=0) Kq rfl rfl (.inl rfl)) rfl<|VC (fk rfl rfl (fY _ _)) rfl ?_
 obtain⟨h17,hF⟩:=aB hF;refine V3 (AE (k:=0) (lo:=0) (hi:=mi (l12.length:Int) (42:Int)) fa rfl rfl rfl rfl h17 (.inl ⟨rfl,rfl⟩) (.inr ⟨_,rfl⟩)) gn rfl ?_;rintro⟨a13,c6⟩;obtain⟨l10,h18,hF⟩:=J hF;refine nc gn (fun m hm=>pU n (V6 l12 42) a13 c6 _ h18 m (hm.q 0)) ?_;rintro⟨a6,n2⟩;refine Wn.len (k:=0) (xs:=l10) rfl ?_;rintro rfl;refine V3 (cn (es:=[[bP a6 l10]]) lu rfl (cm lu z28 rfl rfl) rfl rfl) gn rfl fun b7=>?_;refine V4 (ah.aq [1,0,2,3,4,5,6,7,8,9,10,11,12,13,14,15,16,17,18] rfl rfl)<|Wn.uB (o:=iy) (x:=l10) (g:=a6) rfl ?_;intro r8;obtain⟨h19,hF⟩:=aB hF;refine V4 (ah.aq [13,0,12,1,2,3,4,5,6,7,8,9,10,11,14,15,16,17,18] rfl rfl)<|V3 (th (o:=iy) (L:=l9) (L':=([l10]:Vo)) lu ⟨_,E6⟩ rfl (.arr _ _ _ _ _) rfl h19) gn rfl ?_;rintro⟨a14,r6⟩;refine VC (aM (r:=ptr b3 1) rfl (eE _ _)) rfl<|V1 (ek (k:=11) kX rfl rfl rfl rfl rfl)<|VP (fun m hm=>cA.all rfl) ?_;refine an ?_;cases hF;exact ae (a14,(e3++([[bP a6 l10]]:Vp)),r6) [6,7,8,9,10,11,12,1,0,13,14,15,16,17];refine wz ?_;cases hF;exact ae (a5,e3,r5) (V5 0 12);rintro⟨a3,e5,r4⟩;refine an ?_;refine VL (cn (es:=[[bP a2 l5,bP a3 l6]]) jQ rfl (cm jQ z31 rfl rfl) rfl rfl) gn rfl fun b8=>?_;refine VK (ah.aq [7,8,9,0,1,2,3,4,5,6,10,11,12] rfl rfl)<|Wo.uB (o:=cH) (x:=(l5,l6)) (g:=(a2,(a3,e5,r4))) rfl ?_;intro r9;obtain⟨h20,hF⟩:=aB hF;refine VK (ah.aq [6,0,5,1,2,3,4,7,8,9,10] rfl rfl)<|VL (th (o:=cH) (L:=l2) (L':=([(l5,l6)]:Vl)) jQ ⟨_,EV⟩ rfl (.arr _ _ _ _ _) rfl h20) gn rfl ?_;rintro⟨a15,r7⟩;refine an ?_;cases hF;exact ae (a15,(e1++([[bP a2 l5,bP a3 l6]]:Vp)),r7) [3,4,5,1,0,9,8];refine wz ?_;cases hF;exact ae (a1,e1,r1) (V5 0 5);rintro⟨a4,e4,r3⟩;refine dM ?_;cases hF;exact VQ (.cell (k:=0) fG rfl rfl rfl .nil) fun m' hm=>⟨(a0,l4.length,a4,l8.length,e4,r3),rfl,(ah.aq [2,3,4] rfl rfl) m' hm⟩
end
section
open Go Go.Ab Go.Ab.W
set_option maxRecDepth 10000
set_option maxHeartbeats 4000000
attribute [local irreducible] Tm.at Trie.set Trie.get Wb.get Wb.set Wb.alloc Wb.ww Wb.kill
variable{p q:WA Prim}
def Fq(n:Nat){m0 m:Wb}{ps:WB Pc}{k:Nat}{a:Vq}{l r:WB Int}{i j:Int}(h:Hp m0 m ps)(hp:pk ps k=some (.sl a 1 l.length (l.map (eI .i64))))(hF:Nu n l i j=some r) :
  aG (We p q) 101 [.slice a l.length l.length,.int .i64 i,.int .i64 j] m (fun v m'=>∃_:WC,v=.slice a r.length l.length/\Hp m0 m' (bR ps k (.gen (nO a l.length 1 r.length (r.map (eI .i64)))))):=by
 obtain⟨hc,hF⟩:=aB hF;simp only[SY,S9] at hc;obtain⟨⟨⟨⟨c0,c1⟩,c2⟩,c3⟩,c4⟩:=hc;have hr:=SX hF;subst hr;obtain⟨es,hes⟩:∃es,es=l.map (eI .i64):=⟨_,rfl⟩;have hel:es.length=l.length:=by rw[hes,To]
 have hwid:∀e∈es,e.length=1:=fun e he=>by rw[hes] at he; obtain⟨x,_,rfl⟩:=TS.1 he; rfl
 have hone:dH es:=fun e he=>by rw[hes] at he; obtain⟨x,_,rfl⟩:=TS.1 he; rfl
 rw[show(l.take i.toNat++l.drop j.toNat).map (eI .i64)=es.take i.toNat++es.drop j.toNat by rw[hes,Vg,List.map_take,List.map_drop]]
 rw[<-hes] at hp;rcases h.get hp with⟨h0,_⟩|⟨b,tg,rfl,g1,g2,g3,g4,g5,g6,g7⟩
 omega
 ·have hfl:es.flatten.length=l.length*1:=by rw[cQ hwid,hel]
  have hwb:gW m 1 b l.length l.length=some (es.flatten,tg):=by
   unfold gW;rcases g6 with rfl|rfl<;>simp only[g3]
   rw[SU ⟨trivial,hfl⟩]
   rw[SU ⟨trivial,hfl,trivial⟩]
  have ft:∀(k:Nat) (l:Vp),(∀e∈l,e.length=1)->(l.take k).flatten=l.flatten.take k/\(l.drop k).flatten=l.flatten.drop k:=by
   intro k l
   induction l generalizing k with
   | nil=>intro _; simp
   | cons e l ih =>
    intro hl;cases k with
    | zero=>simp
    | succ k =>
     obtain⟨x1,x2⟩:=ih k fun e he=>hl e (Tn _ he);have he:=hl e (TE ..);obtain⟨y,rfl⟩:∃y,e=[y]:=List.length_eq_one_iff.1 he;simp[x1,x2]
  have hlen:(l.take i.toNat++l.drop j.toNat).length=l.length-(j.toNat-i.toNat):=by simp; omega
  refine aG.dc (p:=⟨j4 (.int .i64 0)⟩) rfl (v:=.slice (some ⟨b,0,none⟩) (l.take i.toNat++l.drop j.toNat).length l.length) (m':=m.set b (.cells (es.flatten.take i.toNat++es.flatten.drop j.toNat++List.replicate (j.toNat-i.toNat) (.int .i64 0)) tg)) ?_ ⟨(),rfl,?_⟩
  show j4 _ [.slice (some ⟨b,0,none⟩) l.length l.length,.int .i64 i,.int .i64 j] m=_
  simp only[j4,hwb];rw[SU ⟨c1,c2,c3,c4,ir hone⟩,hlen]
  refine h.E2 hp (fun b' hb=>.inl (.inl ⟨rfl,hb.elim (fun h=>by cases h.1) id⟩)) (fun b' hb=>.inl (.inl (hb.elim (fun h=>by cases h) fun h=>h.elim id fun h=>h.elim))) (by rw[Wb.next_set]; exact S0 _) (h.ext.set g1 _) ⟨⟨?_,?_,by decide,by rw[hlen]; omega,.inr ⟨b,List.replicate (j.toNat-i.toNat) (.int .i64 0),tg,rfl,by rw[Wb.next_set]; exact g2,?_,g6,?_⟩⟩,fun _ b' hb=>by cases hb; exact g1⟩ fun b' hb hlt=>?_
  rw[hlen]; simp; omega
  intro e he;rcases Tk.1 he with he|he
  exact hwid e (Uz he)
  exact hwid e (UA he)
  rw[Wb.bC,SU rfl,Un,(ft _ es hwid).1,(ft _ es hwid).2]
  have e1:=(ft i.toNat es hwid).1;have e2:=(ft j.toNat es hwid).2;rw[Un,e1,e2];simp[hfl]; omega
  rw[Wb.bC,SS fun e=>hb (.inl ⟨rfl,by rw[e]; rfl⟩)]
def FF(l:WB Int):((l.map (eI .i64)).flatten).all aP=true:=by
 induction l with
 | nil=>rfl
 | cons x l ih=>rw[Ub,TW,List.all_append,ih]; rfl
def rp(l:WB Int):(l.map (eI .i64)).flatten=l.map (fun x=>Value.int .i64 x):=by
 induction l with
 | nil=>rfl
 | cons x l ih=>rw[Ub,TW,ih]; rfl
def used{m0 m:Wb}{ps:WB Pc}(h:Hp m0 m ps){k b n n3:Nat}{es es3:Vp}(hp:pk ps k=some (.sl (some ⟨b,0,none⟩) 1 n es))(hn:es3.length=n3)(hw:∀e∈es3,e.length=1) :
  Hp m0 ((m.kill b).alloc (.cells es3.flatten (.more 1))) (bR ps k (.sl (some ⟨m.next,0,none⟩) 1 n3 es3)):=by
 have hb:m0.next<=b:=by
  rcases h.get hp with⟨_,_,h3,_⟩|⟨b',tg,h1,h2⟩
  cases h3
  cases h1; exact h2.1
 have hk:Ext m0 (m.kill b):=⟨by rw[Wb.next_kill]; exact h.ext.next,fun x hx=>by rw[Wb.dR,Vz]; exact h.ext.same x hx,by
  rw[Wb.wl_kill];have:=h.ext.wl; omega⟩
 refine h.renew hp (by rw[Wb.next_alloc,Wb.next_kill]; omega) (hk.alloc _) (.inr ⟨m.next,.more 1,rfl,h.ext.next,by rw[Wb.next_alloc,Wb.next_kill]; omega,by rw[Wb.aY,Wb.next_kill,SU rfl],hn,hw,.inr rfl,by decide⟩) (fun b' hb'=>?_) rfl fun b' hb' hlt=>?_
 cases hb'; exact S0 _
 rw[Wb.aY,Wb.next_kill,Vz,Wb.dR,SS (fun e=>hb' (by rw[e]; rfl))]
def J2{m0 m:Wb}{ps:WB Pc}(h:Hp m0 m ps){k n n3:Nat}{es es3:Vp}(hp:pk ps k=some (.sl none 1 n es))(hn:es3.length=n3)(hw:∀e∈es3,e.length=1) :
  Hp m0 (m.alloc (.cells es3.flatten (.more 1))) (bR ps k (.sl (some ⟨m.next,0,none⟩) 1 n3 es3)):=by
 refine h.renew hp (by rw[Wb.next_alloc]; omega) (h.ext.alloc _) (.inr ⟨m.next,.more 1,rfl,h.ext.next,by rw[Wb.next_alloc]; omega,by rw[Wb.aY,SU rfl],hn,hw,.inr rfl,by decide⟩) (fun b' hb'=>?_) rfl fun b' _ hlt=>?_
 cases hb'; exact S0 _
 rw[Wb.aY,Vz]
def Fm(n:Nat){m0 m:Wb}{ps:WB Pc}(h:Hp m0 m ps){k k2 b2:Nat}{a:Vq}{i:Int}{l r:WB Int}{x:Int}(hp:pk ps k=some (.sl a 1 l.length (l.map (eI .i64))))(hp2:pk ps k2=some (.arr b2 1 1 ([x].map (eI .i64)) .own))(hk:Nat.beq k2 k=false)(hF:OP n l i [x]=some r) :
  aG (We p q) 102 [.slice a l.length l.length,.int .i64 i,.slice (some ⟨b2,0,none⟩) 1 1] m (fun v m'=>∃y:Vq×Nat,v=.slice y.1 y.2 y.2/\Hp m0 m' (bR ps k (.sl y.1 1 y.2 (r.map (eI .i64))))):=by
 obtain⟨hc,hF⟩:=aB hF;simp only[SY,S9] at hc;obtain⟨⟨c1,c2⟩,c4⟩:=hc;have hr:=SX hF;subst hr;obtain⟨i,rfl⟩:=UO c1;have hi:i<=l.length:=by omega
 simp only[Ti];have hv:m.get b2=some (.cells [.int .i64 x] .own):=(h.get hp2).2.2.1;have hw1:∀l:WB Int,∀e∈l.map (eI .i64),e.length=1:=fun l e he=>by obtain⟨y,_,rfl⟩:=TS.1 he; rfl
 have e3:(l.take i++([x]++l.drop i)).length=l.length+1:=by simp; omega
 rcases h.get hp with⟨h0,h1,rfl,_⟩|⟨b,tg,rfl,g1,g2,g3,g4,g5,g6,g7⟩
 have hl:l=[]:=UR.1 h1;subst hl;obtain rfl:i=0:=by simpa using hi
 refine aG.dc (p:=⟨kD⟩) rfl (v:=.slice (some ⟨m.next,0,none⟩) 1 1) (m':=m.alloc (.cells [.int .i64 x] (.more 1))) ?_ ⟨(some ⟨m.next,0,none⟩,1),rfl,J2 (es3:=[x].map (eI .i64)) h hp rfl (hw1 _)⟩
 show kD [.slice none 0 0,.int .i64 0,.slice (some ⟨b2,0,none⟩) 1 1] m=_
 simp only[kD,hv]
 have hne:b2≠b:=fun e=>(fC h.apart hp2 hp (U6 hk)).1 b2 (.inl ⟨rfl,rfl⟩) (.inl (by rw[e]; rfl))
 have hwb:gW m 1 b l.length l.length=some ((l.map (eI .i64)).flatten,tg):=by
  unfold gW;rcases g6 with rfl|rfl<;>simp only[g3]
  rw[SU ⟨trivial,by rw[rp]; simp⟩]
  rw[SU ⟨trivial,by rw[rp]; simp,trivial⟩]
 refine aG.dc (p:=⟨kD⟩) rfl (v:=.slice (some ⟨m.next,0,none⟩) (l.length+1) (l.length+1)) (m':=(m.kill b).alloc (.cells ((l.take i++([x]++l.drop i)).map (eI .i64)).flatten (.more 1))) ?_ ⟨(some ⟨m.next,0,none⟩,l.length+1),rfl,used h hp (by simpa using e3) (hw1 _)⟩
 show kD [.slice (some ⟨b,0,none⟩) l.length l.length,.int .i64 (i:Int),.slice (some ⟨b2,0,none⟩) 1 1] m=_
 simp only[kD,hv,hwb];rw[SU ⟨hne,by omega,by omega,c4,FF l⟩]
 simp only[Ti];rw[rp,rp];simp only[Vg,List.map_take,List.map_drop]
 rfl
def IU{α:Type}{r:Rep α}{o:Orp r}{m0:Wb}{ps:WB Pc}{S:Vr}{L:WB α}{es:Vp}{i j:Nat}(hij:i<=j):∀m,Hp m0 m (.gen (cY o S L es)::ps)->∃S',Hp m0 m (.gen (cY o S' (L.take i++L.drop j) (es.take i++es.drop j))::ps):=fun m hm=>by
 obtain⟨qs,h1,h2⟩:=hm.xq;obtain⟨q1,q2,rfl,h3,h4⟩:=h1.split i;obtain⟨q3,q4,rfl,h5,h6⟩:=h4.split (j-i);rw[U0,U0,show i+(j-i)=j by omega] at h6
 have h7:Hp m0 m ((q1++q4)++ps):=by
  refine⟨h2.ext,fun p hp=>h2.ok p ?_,h2.apart.sublist ?_⟩
  rcases Tk.1 hp with hp|hp
  rcases Tk.1 hp with hp|hp
  exact TA _ (TA _ hp)
  exact TA _ (TF _ (TF _ hp))
  exact TF _ hp
  exact List.Sublist.append (List.Sublist.append (List.Sublist.refl _) (List.sublist_append_right _ _)) (List.Sublist.refl _)
 exact⟨_,h7.rr (h3.append h6)⟩
def Lu(n:Nat){m0 m:Wb}{rest:WB Pc}{a:Vq}{l r:Vl}{S:Vr}{es:Vp}{i j:Int}(h:Hp m0 m (.sl a 2 l.length es::.gen (cY cH S l es)::rest))(hF:RP n l i j=some r) :
  aG (We p q) 98 [.slice a l.length l.length,.int .i64 i,.int .i64 j] m (fun v m'=>∃S':Nat->Prop,v=.slice a r.length l.length/\Hp m0 m' (.gen (cY cH S' r (es.take i.toNat++es.drop j.toNat))::.gen (nO a l.length 2 r.length (es.take i.toNat++es.drop j.toNat))::rest)):=by
 obtain⟨hc,hF⟩:=aB hF;simp only[SY,S9] at hc;obtain⟨⟨⟨⟨c0,c1⟩,c2⟩,c3⟩,c4⟩:=hc;have hr:=SX hF;subst hr;obtain⟨i,rfl⟩:=UO c1;obtain⟨j,rfl⟩:=UO (show 0<=j by omega)
 simp only[Ti];have hij:i<j:=by omega
 have hjn:j<=l.length:=by omega
 have hel:es.length=l.length:=so h (q:=1) rfl;obtain⟨⟨qs,hOd,_⟩,_⟩:=(h.get (k:=1) rfl).1;have hwid:∀e∈es,e.length=2:=fun e he=>(hOd.cells e he).1;have hone:dH es:=fun e he=>(hOd.cells e he).2;rcases h.get (k:=0) rfl with⟨h0,_⟩|⟨b,tg,rfl,g1,g2,g3,g4,g5,g6,g7⟩
 omega
 ·have ft:∀(k:Nat) (l:Vp),(∀e∈l,e.length=2)->(l.take k).flatten=l.flatten.take (k*2)/\(l.drop k).flatten=l.flatten.drop (k*2):=by
   intro k l
   induction l generalizing k with
   | nil=>intro _; simp
   | cons e l ih =>
    intro hl;cases k with
    | zero=>simp
    | succ k =>
     obtain⟨x1,x2⟩:=ih k fun e he=>hl e (Tn _ he);have he:=hl e (TE ..);obtain⟨y,z,rfl⟩:∃y z,e=[y,z]:=by
      match e,he with
      | [y,z],_=>exact⟨y,z,rfl⟩
     rw[UN];simp[x1,x2]
  have hfl:es.flatten.length=l.length*2:=by rw[cQ hwid,hel]
  have hlen:(l.take i++l.drop j).length=l.length-(j-i):=by simp; omega
  have hobj:Hp m0 m (.obj b (.cells es.flatten tg)::.gen (cY cH S l es)::rest):=h.put (k:=0) rfl rfl rfl rfl (S0 _) h.ext ⟨g1,g2,g3⟩ fun _ _ _=>rfl;refine(Jk (p:=p) (q:=q) g6 hobj hfl (ir hone) hij hjn c4).mono fun v m' ⟨hv,cs',hm',hl',ht'⟩=>?_;have hcs:cs'=(es.take i++es.drop j).flatten++cs'.drop ((l.length-(j-i))*2):=by
   have e1:(es.flatten.drop (j*2)).take ((l.length-j)*2)=es.flatten.drop (j*2):=Uv (by rw[TP]; omega)
   rw[Un,(ft i es hwid).1,(ft j es hwid).2];rw[e1] at ht';rw[<-ht',List.take_append_drop]
  have hst:Hp m0 m' (.gen (nO (some ⟨b,0,none⟩) l.length 2 (l.take i++l.drop j).length (es.take i++es.drop j))::.gen (cY cH S l es)::rest):=by
   have h0:=hm'.get (k:=0) rfl;refine hm'.E2 (k:=0) rfl (fun b' hb=>.inl (.inl ⟨rfl,hb.elim (fun h=>by cases h.1) id⟩)) (fun b' hb=>.inl (.inl (hb.elim (fun h=>by cases h) fun h=>h.elim id fun h=>h.elim))) (S0 _) hm'.ext ⟨⟨?_,?_,by decide,by rw[hlen]; omega,.inr ⟨b,cs'.drop ((l.length-(j-i))*2),tg,rfl,h0.2.1,?_,g6,?_⟩⟩,fun _ b' hb=>by cases hb; exact h0.1⟩ fun b' hb hlt=>rfl
   rw[hlen]; simp; omega
   intro e he;rcases Tk.1 he with he|he
   exact hwid e (Uz he)
   exact hwid e (UA he)
   rw[<-hcs]; exact h0.2.2
   rw[<-hcs,hl',hfl]
  obtain⟨S',hS⟩:=IU (o:=cH) (Nat.le_of_lt hij) m' (hst.perm (List.Perm.swap _ _ _));exact⟨S',by rw[hv,hlen],hS⟩
end
end Go.Proofs.YtmndpgfbkicndaaGreat
