/- A part of the proof. -/
import Derived.Test.YtmndpgfbkicndaaGreatCx4
import Derived.HandedShaped
set_option linter.defProp false
namespace Go.Proofs.YtmndpgfbkicndaaGreat
section
open Go Go.Ab Go.Ab.W
set_option maxRecDepth 10000
set_option maxHeartbeats 4000000
attribute [local irreducible] Wo Wk At Wn Od Ox bp bZ
attribute [local irreducible] Tm.at Trie.set Trie.get Vj.get Vj.set Vj.alloc Vj.ww Vj.kill
variable {p q : Option Prim}
def Nz {n l2 l1 a0 c1 a1 c0} {r0:Ur} {e0:Un} {r} (hF:OC n l2 l1=some r) (m) (h27:dm m a0 c1 l2) (h28:fh m a1 c0 l1 e0) (h29:(bU ai r0 l1 e0).P m):
 aD (Vn p q) 84 [dN a0 l2 c1 a1 l1 c0] m (Vi m (.tuple #[.int .i64 r.1,.int .i64 r.2])):=by
 unfold OC at hF;refine cw Tryz.func84 (UZ (UN (UN (UJ m) bP h27) (bC bP) h28) (bC (bC bP)) h29) ?_;refine wz ?_;refine wb fun b0=>?_;refine wa z3 fun b1=>?_;refine wa z3 fun b2=>?_;refine ak ?_;refine UQ Fk gn rfl fun b4=>?_;refine wa Qg fun b10=>?_;refine ak ?_;obtain⟨l19,h30,hF⟩:=J hF;refine wq (fun l19 (b23:Nat)=>(.func (.func 126) #[] #[ptr b23 0],(cU b23 a0 l2 c1 a1 l1 c0 e0 ai r0 [Ek b0 a0 l2 c1 a1 l1 c0,db b1,db b2,ez b10 b4,.obj b4 (.map (l19.map (eM (fun p:Int × Int=>.agg #[.int .i64 p.1,.int .i64 p.2]) (fun b:Bool=>.bool b))))]))) l19 (fun m hm=>?_) ?_;clear hF;revert l19;intro r hF;refine aV (N:=4) (rs:=[.tmp 2]) rfl Tryz.func103 rfl rfl rfl hm ?_;refine wz ?_;refine wb fun b32=>?_;refine ak ?_;refine UB (jT rfl rfl) rfl ?_;refine ak ?_;cases hF;exact ar b32 [0,8,7,6,5,4,3,1,2];rintro b23;refine wz ?_;refine UE ?_;obtain⟨r10,h31,hF⟩:=J hF;refine Wk.range (N:=50) (rs:=[]) (γ:=Unit) (X:=fun g=>(fun(r:(Int × List ((Int × Int) × Bool)) ⊕ (List ((Int × Int) × Bool))) (g:Unit)=>(match r,g with | .inl (v16,l25),_=>⟨.done,(some .ret),(cU b0 a0 l2 c1 a1 l1 c0 e0 ai r0 [Gj b1,eS b2 v16,ez b10 b4,.obj b4 (.map (l25.map (eM (fun p:Int × Int=>.agg #[.int .i64 p.1,.int .i64 p.2]) (fun b:Bool=>.bool b))))])⟩ | .inr l26,_=>⟨.ready,none,(cU b0 a0 l2 c1 a1 l1 c0 e0 ai r0 [db b1,db b2,ez b10 b4,.obj b4 (.map (l26.map (eM (fun p:Int × Int=>.agg #[.int .i64 p.1,.int .i64 p.2]) (fun b:Bool=>.bool b))))])⟩:Rn)) r10 g) rfl rfl Tryz.func126 rfl rfl rfl ?_ (fun y=>by rcases r10 with _|_<;>(intro e; cases e)) ?_
 clear hF;revert r10;intro r hF;intro t1 l6 r5 h32 h33;refine wz ?_;refine UE ?_;obtain⟨r20,h1,hF⟩:=J hF;refine ct (fun(r:(Int × List ((Int × Int) × Bool)) ⊕ (List ((Int × Int) × Bool))) (g:Unit)=>match r,g with | .inl (v17,l27),_=>⟨.ret,[],(.obj l6 (r5 .done (some .ret))::cU b0 a0 l2 c1 a1 l1 c0 e0 ai r0 [Gj b1,eS b2 v17,ez b10 b4,.obj b4 (.map (l27.map (eM (fun p:Int × Int=>.agg #[.int .i64 p.1,.int .i64 p.2]) (fun b:Bool=>.bool b))))])⟩ | .inr l28,_=>⟨(.exit 0),[],(.obj l6 (r5 .ready none)::cU b0 a0 l2 c1 a1 l1 c0 e0 ai r0 [db b1,db b2,ez b10 b4,.obj b4 (.map (l28.map (eM (fun p:Int × Int=>.agg #[.int .i64 p.1,.int .i64 p.2]) (fun b:Bool=>.bool b))))])⟩) r20 ?_ ?_
 refine lo h1 () [0,3,4,5,2,6,7,8,9] (fun(v4,l29) _=>⟨.normal,((0,.func (.yield l6) #[] #[])::zJ a1 l1 c0 v4 []),[.obj l6 (r5 .ready none),jG a1 c0 l1 e0,gr ai r0 l1 e0,Ek b0 a0 l2 c1 a1 l1 c0,gw a0 c1 l2,db b1,db b2,ez b10 b4,.obj b4 (.map (l29.map (eM (fun p:Int × Int=>.agg #[.int .i64 p.1,.int .i64 p.2]) (fun b:Bool=>.bool b))))]⟩) ?_;clear hF h1;rintro⟨v4,l29⟩ ⟨⟩ r hF;unfold qK at hF;refine wz ?_;refine UD ?_;rcases U hF with⟨h34,hF⟩|⟨h34,hF⟩;refine ak ?_;obtain⟨h35,hF⟩:=bJ hF;refine UO (k:=1) rfl (ay h35) ?_;rintro b9 o4 rfl;refine wz ?_;obtain⟨⟨l44,l45⟩,h36,hF⟩:=J hF;refine wl 2 0 3 0 h36 ?_;rintro⟨⟨a28,c14⟩,⟨a29,c15,e8⟩⟩;refine wa z31 fun b40=>?_;refine ak ?_;obtain⟨l13,h37,hF⟩:=J hF;refine xJ gn (fun m hm=>iA h37 m hm.cx (hm.q 1) (hm.no 1) (hm.q 2) (hm.no 2) (hm.dp (q:=3) rfl) (hm.dh (q:=3) rfl)) ?_;rintro⟨a20,c7,n0,e6,r9⟩;refine U6 (k:=0) (q:=1) (L:=l13) rfl (.inr (.inl ⟨_,rfl⟩)) rfl ?_;rintro rfl;refine wz ?_;refine UE ?_;obtain⟨r21,h2,hF⟩:=J hF;refine ct (fun(r:(List ((Int × Int) × Bool)) ⊕ (List ((Int × Int) × Bool))) (g:Unit)=>match r,g with | .inl l30,_=>⟨.ret,[],(.obj l6 (r5 .done (some .ret))::eW b0 a0 l2 c1 b9 o4 l1 c0 e0 ai r0 [Gj b1,eS b2 v4,ez b10 b4,.obj b4 (.map (l30.map (eM (fun p:Int × Int=>.agg #[.int .i64 p.1,.int .i64 p.2]) (fun b:Bool=>.bool b))))])⟩ | .inr l31,_=>⟨(.exit 2),((0,.func (.yield l6) #[] #[])::rG b9 o4 l1 c0 v4 []),(.obj l6 (r5 .ready none)::q9 b9 o4 l1 e0 ai r0 c0 (qU b0 a0 l2 c1 b9 o4 l1 c0 b1 b2 [ez b10 b4,.obj b4 (.map (l31.map (eM (fun p:Int × Int=>.agg #[.int .i64 p.1,.int .i64 p.2]) (fun b:Bool=>.bool b))))]))⟩) r21 ?_ ?_
 refine lo h2 () [7,6,9,8,0,1,10,11,12,13,14,15] (fun(v7,l32) _=>⟨.normal,((0,.func (.yield l6) #[] #[])::(3,aM v4)::rG b9 o4 l1 c0 v4 [(18,bu a20 l13 c7),(19,dF l13),(20,aM v7)]),(.obj l6 (r5 .ready none)::q9 b9 o4 l1 e0 ai r0 c0 (eL a20 c7 l13 e6 aY r9 (qU b0 a0 l2 c1 b9 o4 l1 c0 b1 b2 [ez b10 b4,.obj b4 (.map (l32.map (eM (fun p:Int × Int=>.agg #[.int .i64 p.1,.int .i64 p.2]) (fun b:Bool=>.bool b))))])))⟩) ?_;clear hF h2;rintro⟨v7,l32⟩ ⟨⟩ r hF;unfold qG at hF;refine wz ?_;refine UD ?_;rcases U hF with⟨h38,hF⟩|⟨h38,hF⟩;refine ak ?_;obtain⟨h39,hF⟩:=bJ hF;refine UO (k:=4) rfl (ay h39) ?_;rintro b19 o10 rfl;refine wz ?_;obtain⟨l16,h40,hF⟩:=J hF;refine wl 1 0 6 0 h40 ?_;rintro⟨a10,c9⟩;refine ak ?_;refine UE ?_;obtain⟨r22,h3,hF⟩:=J hF;refine ct (fun(r:(List ((Int × Int) × Bool)) ⊕ (List ((Int × Int) × Bool))) (g:Unit)=>match r,g with | .inl l33,_=>⟨.ret,[],(.obj l6 (r5 .done (some .ret))::eW b0 a0 l2 c1 b9 o4 l1 c0 e0 ai r0 [Gj b1,eS b2 v4,ez b10 b4,.obj b4 (.map (l33.map (eM (fun p:Int × Int=>.agg #[.int .i64 p.1,.int .i64 p.2]) (fun b:Bool=>.bool b))))])⟩ | .inr l34,_=>⟨(.exit 4),((0,.func (.yield l6) #[] #[])::(3,aM v4)::rG b9 o4 l1 c0 v4 (uj b19 o10 l13 c7 v7 [])),(.obj l6 (r5 .ready none)::q9 b9 o4 l1 e0 ai r0 c0 (iY b19 o10 l13 e6 aY r9 c7 (qU b0 a0 l2 c1 b9 o4 l1 c0 b1 b2 [ez b10 b4,.obj b4 (.map (l34.map (eM (fun p:Int × Int=>.agg #[.int .i64 p.1,.int .i64 p.2]) (fun b:Bool=>.bool b))))])))⟩) r22 ?_ ?_
 refine lo h3 () [2,0,3,4,5,1,7,6,8,9,10,11,12,13] (fun(v18,l17) _=>⟨.normal,((0,.func (.yield l6) #[] #[])::(3,aM v4)::(5,aM v7)::(6,bu a10 l16 c9)::rG b9 o4 l1 c0 v4 (uj b19 o10 l13 c7 v7 [(25,bu a10 l16 c9),(26,dF l16),(27,aM v18)])),(.obj l6 (r5 .ready none)::jx a10 c9 l16::q9 b9 o4 l1 e0 ai r0 c0 (iY b19 o10 l13 e6 aY r9 c7 (qU b0 a0 l2 c1 b9 o4 l1 c0 b1 b2 [ez b10 b4,.obj b4 (.map (l17.map (eM (fun p:Int × Int=>.agg #[.int .i64 p.1,.int .i64 p.2]) (fun b:Bool=>.bool b))))])))⟩) ?_;clear hF h3;rintro⟨v18,l17⟩ ⟨⟩ r hF;unfold qP at hF;refine wz ?_;refine UD ?_;rcases U hF with⟨h41,hF⟩|⟨h41,hF⟩;refine ak ?_;obtain⟨h42,hF⟩:=bJ hF;refine UO (k:=1) rfl (ay h42) ?_;rintro b24 o12 rfl;refine wz ?_;obtain⟨x12,h108,hF⟩:=J hF;refine ak ?_;obtain⟨h43,hF⟩:=aA hF;refine UB (aI rfl rfl (cb _ _ h43)) rfl ?_;obtain⟨h109,hF⟩:=bJ hF;refine wz ?_;obtain⟨x13,h110,hF⟩:=J hF;refine wz ?_;refine UB (cD rfl q7 rfl (cE zz rfl rfl rfl)) rfl ?_;obtain⟨r11,h15,hF⟩:=J hF;refine UQ (vP (k:=1) (k1:=0) (γA:=Nat) (GA:=(fun g:Nat=>(match g with|b22=>⟨.normal,(pI b1 b2 (qX b10 b22 [])),(.obj l6 (r5 .ready none)::db b1::db b2::ez b10 b4::.obj b4 (.map (l17.map (eM (fun p:Int × Int=>.agg #[.int .i64 p.1,.int .i64 p.2]) (fun b:Bool=>.bool b))))::fB b22 x12 x13 v4 v7::eW b0 a0 l2 c1 b9 o4 l1 c0 e0 ai r0 (oM b24 o12 l16 c9 (iY b19 o10 l13 e6 aY r9 c7 [])))⟩:En))) (γ:=Unit) (G:=fun g=>(fun(r:(Unit) ⊕ (Unit)) (g:Unit)=>(match r,g with | .inl _,_=>⟨.ret,[],(.obj l6 (r5 .busy none)::eW b0 a0 l2 c1 b9 o4 l1 c0 e0 ai r0 (Gj b1::eS b2 v4::ez b10 b4::.obj b4 (.map (l17.map (eM (fun p:Int × Int=>.agg #[.int .i64 p.1,.int .i64 p.2]) (fun b:Bool=>.bool b))))::oM b24 o12 l16 c9 (iY b19 o10 l13 e6 aY r9 c7 [])))⟩ | .inr _,_=>⟨.normal,[],(.obj l6 (r5 .busy none)::eW b0 a0 l2 c1 b9 o4 l1 c0 e0 ai r0 (db b1::db b2::ez b10 b4::.obj b4 (.map ((jU l17 (x12,x13) true).map (eM (fun p:Int × Int=>.agg #[.int .i64 p.1,.int .i64 p.2]) (fun b:Bool=>.bool b))))::oM b24 o12 l16 c9 (iY b19 o10 l13 e6 aY r9 c7 [])))⟩:En)) r11 g) rfl rfl rfl h33 h32 rfl ?_ (fun _=>rfl) (fun _=>rfl) ?_ (fun y=>by rcases r11 with _|_<;>rfl)) gn rfl ?_
 clear hF h15;refine UG<|wa q7 fun b33=>?_;refine wz ?_;exact ae b33 [2,12,13,14,15,0,10,11,4,5,6,1,3,7,8,9];clear hF;revert r11;intro r hF;rintro b22;refine wz ?_;refine UB (cD rfl Jh rfl (cE Gg rfl rfl rfl)) rfl ?_;obtain⟨y0,h44,hF⟩:=J hF;refine UB (K3 (q:=4) (xs:=l17) (k:=(x12,x13)) (vE:=(fun b:Bool=>.bool b)) (z0:=false) PI (J1 Iz bX.known bX.size bX.agg u3) z4 rfl rfl rfl rfl h44) rfl ?_;refine wz ?_;rcases U hF with⟨h16,hF⟩|⟨h16,hF⟩;refine U1 rfl h16<|UD<|UY (prs:=[(1,2)]) (by kernel_rfl)<|UC (aL (r:=ptr b22 2) rfl (mX _ _)) rfl<|U0 rfl (aC (k:=5) bX rfl rfl rfl) rfl<|Wn.Ag rfl (dI (k:=1) bX rfl rfl rfl rfl rfl)<|U4 (dI (k:=2) bX rfl rfl rfl rfl rfl)<|UT (fun m hm=>(cn.rw rfl rfl rfl (hm.ne (i:=5) (j:=1) rfl rfl rfl rfl (by decide) rfl) cn.nil)) ?_
 refine ak ?_;cases hF;exact ae () [0,6,7,8,9,10,1,2,3,4,11,12,13,14,15];refine ak ?_;refine UB (cD rfl Jh rfl (cE Gg rfl rfl rfl)) rfl<|U8 (CS (q:=4) (xs:=l17) (k:=(x12,x13)) (v:=true) (vE:=(fun b:Bool=>.bool b)) PI (J1 Iz bX.known bX.size bX.agg u3) rfl rfl rfl rfl) ?_;refine wz ?_;cases hF;exact ae () [0,6,7,8,9,10,1,2,3,4,11,12,13,14,15];rcases r11 with _|_;rintro⟨⟩;refine ak ?_;cases hF;exact ae () (Vd 0 10);rintro⟨⟩;refine dz ?_;cases hF;exact ae () [0,11,3,4,5,12,13,14,1,2,6,7,8,9];refine wz ?_;cases hF;exact ae () (0::Vd 2 12);rcases r22 with l33|l34;rintro⟨⟩;refine wz ?_;cases hF;exact ae () (Vd 0 10);rintro⟨⟩;refine ak ?_;cases hF;exact ae () (0::1::2::3::6::5::Vd 7 6);refine wz ?_;cases hF;exact ae () (0::1::2::3::Vd 6 6);rcases r21 with l30|l31;rintro⟨⟩;refine wz ?_;cases hF;exact ae () [0,1,2,5,4,6,7,8,9];rintro⟨⟩;refine ak ?_;cases hF;exact ae () (0::3::2::Vd 4 6);refine wz ?_;cases hF;exact ae () [0,3,4,1,2,5,6,7,8];rcases r20 with⟨v17,l27⟩|l28;rintro⟨⟩;refine At.br ?_;cases hF;exact UW .nil fun m' hm=>⟨(),(UH (Vd 0 9) rfl rfl) m' hm⟩;rintro⟨⟩;refine At.be ?_;cases hF;exact At.fin .nil fun m' hm=>⟨(),(UH (Vd 0 9) rfl rfl) m' hm⟩;rcases r10 with⟨v16,l25⟩|l26;rintro⟨⟩
 change Wk _ _ _ _ .ret _ _ _ _
 refine wz ?_;cases hF;exact UW (.cell (k:=4) bX rfl rfl rfl (.cell (k:=5) bX rfl rfl rfl .nil)) fun m' hm=>⟨(),rfl,(UH [] rfl rfl) m' hm⟩;rintro⟨⟩
 change At _ .normal _ _ _
 refine ak ?_;refine wa QH fun b7=>?_;refine ak ?_;obtain⟨r23,h45,hF⟩:=J hF;refine wq (fun _ (b25:Nat)=>(.func (.func 126) #[] #[ptr b25 0],(cU b25 a0 l2 c1 a1 l1 c0 e0 ai r0 [Ek b0 a0 l2 c1 a1 l1 c0,db b1,db b2,.obj b7 (.cells [.slice none 0 0] .own)]))) r23 (fun m hm=>?_) ?_;clear hF;revert r23;intro r hF;refine aV (N:=4) (rs:=[.tmp 2]) rfl Tryz.func103 rfl rfl rfl hm ?_;refine wz ?_;refine wb fun b34=>?_;refine ak ?_;refine UB (jT rfl rfl) rfl ?_;refine ak ?_;cases hF;exact ar b34 [0,3,4,5,2,6,7,1];rintro b25;refine wz ?_;refine UE ?_;obtain⟨r12,h46,hF⟩:=J hF;refine Wk.range (N:=50) (rs:=[]) (γ:=Uo) (X:=fun g=>(fun(r:(Int × List (Uk)) ⊕ (List (Uk))) (g:Uo)=>(match r,g with | .inl (v19,l21),a11=>⟨.done,(some .ret),(cU b0 a0 l2 c1 a1 l1 c0 e0 ai r0 [HD b1,eS b2 v19,AO b7 a11 l21,lq a11 l21])⟩ | .inr l35,a21=>⟨.ready,none,(cU b0 a0 l2 c1 a1 l1 c0 e0 ai r0 (qZ b1 b2 b7 a21 l35 []))⟩:Rn)) r12 g) rfl rfl Tryz.func126 rfl rfl rfl ?_ (fun y=>by rcases r12 with _|_<;>(intro e; cases e)) ?_
 clear hF;revert r12;intro r hF;intro t2 l3 r1 h47 h48;refine wz ?_;refine UE ?_;obtain⟨r24,h4,hF⟩:=J hF;refine ct (fun(r:(Int × List (Uk)) ⊕ (List (Uk))) (g:Uo)=>match r,g with | .inl (v20,l22),a4=>⟨.ret,[],(.obj l3 (r1 .done (some .ret))::cU b0 a0 l2 c1 a1 l1 c0 e0 ai r0 [HD b1,eS b2 v20,AO b7 a4 l22,lq a4 l22])⟩ | .inr l36,a12=>⟨(.exit 0),[],(.obj l3 (r1 .ready none)::cU b0 a0 l2 c1 a1 l1 c0 e0 ai r0 (qZ b1 b2 b7 a12 l36 []))⟩) r24 ?_ ?_
 refine lw h4 none (fun(v0,l37) a5=>⟨.normal,((0,.func (.yield l3) #[] #[])::zJ a1 l1 c0 v0 []),(.obj l3 (r1 .ready none)::jG a1 c0 l1 e0::gr ai r0 l1 e0::Ek b0 a0 l2 c1 a1 l1 c0::gw a0 c1 l2::qZ b1 b2 b7 a5 l37 [])⟩) (UK (U9 4 rfl) (UH [1,4,5,6,3,7,8,9,0] rfl rfl)) ?_;clear hF h4;rintro⟨v0,l37⟩ a5 r hF;unfold qN at hF;refine wz ?_;refine UD ?_;rcases U hF with⟨h49,hF⟩|⟨h49,hF⟩;refine ak ?_;obtain⟨h50,hF⟩:=bJ hF;refine UO (k:=1) rfl (ay h50) ?_;rintro b6 o2 rfl;refine wz ?_;obtain⟨⟨l46,l47⟩,h51,hF⟩:=J hF;refine wl 2 0 3 0 h51 ?_;rintro⟨⟨a30,c16⟩,⟨a31,c17,e9⟩⟩;refine wa z31 fun b41=>?_;refine ak ?_;obtain⟨l7,h52,hF⟩:=J hF;refine xJ gn (fun m hm=>iA h52 m hm.cx (hm.q 1) (hm.no 1) (hm.q 2) (hm.no 2) (hm.dp (q:=3) rfl) (hm.dh (q:=3) rfl)) ?_;rintro⟨a22,c2,n1,e1,r6⟩;refine U6 (k:=0) (q:=1) (L:=l7) rfl (.inr (.inl ⟨_,rfl⟩)) rfl ?_;rintro rfl;refine wz ?_;refine UE ?_;obtain⟨r25,h5,hF⟩:=J hF;refine ct (fun(r:(List (Uk)) ⊕ (List (Uk))) (g:Uo)=>match r,g with | .inl l23,a6=>⟨.ret,[],(.obj l3 (r1 .done (some .ret))::eW b0 a0 l2 c1 b6 o2 l1 c0 e0 ai r0 [HD b1,eS b2 v0,AO b7 a6 l23,lq a6 l23])⟩ | .inr l38,a13=>⟨(.exit 2),((0,.func (.yield l3) #[] #[])::rG b6 o2 l1 c0 v0 []),(.obj l3 (r1 .ready none)::q9 b6 o2 l1 e0 ai r0 c0 (NZ b0 a0 l2 c1 b6 o2 l1 c0::gw a0 c1 l2::qZ b1 b2 b7 a13 l38 []))⟩) r25 ?_ ?_
 refine lo h5 a5 [7,6,9,8,0,1,10,11,12,13,14,15] (fun(v5,l39) a7=>⟨.normal,((0,.func (.yield l3) #[] #[])::(3,aM v0)::rG b6 o2 l1 c0 v0 [(18,bu a22 l7 c2),(19,dF l7),(20,aM v5)]),(.obj l3 (r1 .ready none)::q9 b6 o2 l1 e0 ai r0 c0 (eL a22 c2 l7 e1 aY r6 (NZ b0 a0 l2 c1 b6 o2 l1 c0::gw a0 c1 l2::qZ b1 b2 b7 a7 l39 [])))⟩) ?_;clear hF h5;rintro⟨v5,l39⟩ a7 r hF;unfold qA at hF;refine wz ?_;refine UD ?_;rcases U hF with⟨h53,hF⟩|⟨h53,hF⟩;refine ak ?_;obtain⟨h54,hF⟩:=bJ hF;refine UO (k:=4) rfl (ay h54) ?_;rintro b11 o5 rfl;refine wz ?_;obtain⟨l11,h55,hF⟩:=J hF;refine wl 1 0 6 0 h55 ?_;rintro⟨a14,c4⟩;refine ak ?_;refine UE ?_;obtain⟨r26,h6,hF⟩:=J hF;refine ct (fun(r:(List (Uk)) ⊕ (List (Uk))) (g:Uo)=>match r,g with | .inl l24,a8=>⟨.ret,[],(.obj l3 (r1 .done (some .ret))::eW b0 a0 l2 c1 b6 o2 l1 c0 e0 ai r0 [HD b1,eS b2 v0,AO b7 a8 l24,lq a8 l24])⟩ | .inr l40,a15=>⟨(.exit 4),((0,.func (.yield l3) #[] #[])::(3,aM v0)::rG b6 o2 l1 c0 v0 (uj b11 o5 l7 c2 v5 [])),(.obj l3 (r1 .ready none)::q9 b6 o2 l1 e0 ai r0 c0 (iY b11 o5 l7 e1 aY r6 c2 (NZ b0 a0 l2 c1 b6 o2 l1 c0::gw a0 c1 l2::qZ b1 b2 b7 a15 l40 [])))⟩) r26 ?_ ?_
 refine lo h6 a7 [2,0,3,4,5,1,7,6,8,9,10,11,12,13] (fun(v21,l9) a2=>⟨.normal,((0,.func (.yield l3) #[] #[])::(3,aM v0)::(5,aM v5)::(6,bu a14 l11 c4)::rG b6 o2 l1 c0 v0 (uj b11 o5 l7 c2 v5 [(25,bu a14 l11 c4),(26,dF l11),(27,aM v21)])),(.obj l3 (r1 .ready none)::jx a14 c4 l11::q9 b6 o2 l1 e0 ai r0 c0 (iY b11 o5 l7 e1 aY r6 c2 (NZ b0 a0 l2 c1 b6 o2 l1 c0::gw a0 c1 l2::qZ b1 b2 b7 a2 l9 [])))⟩) ?_;clear hF h6;rintro⟨v21,l9⟩ a2 r hF;unfold qu at hF;refine wz ?_;refine UD ?_;rcases U hF with⟨h56,hF⟩|⟨h56,hF⟩;refine ak ?_;obtain⟨h57,hF⟩:=bJ hF;refine UO (k:=1) rfl (ay h57) ?_;rintro b16 o8 rfl;refine wz ?_;obtain⟨x3,h111,hF⟩:=J hF;refine ak ?_;obtain⟨h58,hF⟩:=aA hF;refine UB (aI rfl rfl (cb _ _ h58)) rfl ?_;obtain⟨h112,hF⟩:=bJ hF;refine wz ?_;obtain⟨x4,h113,hF⟩:=J hF;refine wz ?_;refine UB (cD rfl q7 rfl (cE zz rfl rfl rfl)) rfl ?_;obtain⟨r13,h17,hF⟩:=J hF;refine UQ (vP (k:=1) (k1:=0) (γA:=Nat) (GA:=(fun g:Nat=>(match g with|b14=>⟨.normal,((1,ptr b0 0)::pI b1 b2 [(6,ptr b7 0),(7,ptr b14 0)]),(.obj l3 (r1 .ready none)::eW b0 a0 l2 c1 b6 o2 l1 c0 e0 ai r0 (qZ b1 b2 b7 a2 l9 (fB b14 x3 x4 v0 v5::oM b16 o8 l11 c4 (iY b11 o5 l7 e1 aY r6 c2 []))))⟩:En))) (γ:=Uo) (G:=fun g=>(fun(r:(Unit) ⊕ (List (Uk))) (g:Uo)=>(match r,g with | .inl _,_=>⟨.ret,[],(.obj l3 (r1 .busy none)::eW b0 a0 l2 c1 b6 o2 l1 c0 e0 ai r0 (HD b1::eS b2 v0::AO b7 a2 l9::lq a2 l9::oM b16 o8 l11 c4 (iY b11 o5 l7 e1 aY r6 c2 [])))⟩ | .inr l41,a16=>⟨.normal,[],(.obj l3 (r1 .busy none)::eW b0 a0 l2 c1 b6 o2 l1 c0 e0 ai r0 (qZ b1 b2 b7 a16 l41 (oM b16 o8 l11 c4 (iY b11 o5 l7 e1 aY r6 c2 []))))⟩:En)) r13 g) rfl rfl rfl h48 h47 rfl ?_ (fun _=>rfl) (fun _=>rfl) ?_ (fun y=>by rcases r13 with _|_<;>rfl)) gn rfl ?_
 clear hF h17;refine UG<|wa q7 fun b35=>?_;refine wz ?_;exact ae b35 [2,10,11,4,5,6,12,13,14,15,0,1,3,7,8,9];clear hF;revert r13;intro r hF;rintro b14;refine wz ?_;refine UB (jT rfl rfl) rfl ?_;obtain⟨v8,h59,hF⟩:=J hF;refine wq (fun v8 (_:Unit)=>(.int .i64 v8,(.obj l3 (r1 .busy none)::eW b0 a0 l2 c1 b6 o2 l1 c0 e0 ai r0 (qZ b1 b2 b7 a2 l9 (oM b16 o8 l11 c4 (iY b11 o5 l7 e1 aY r6 c2 [fB b14 x3 x4 v0 v5])))))) v8 (fun m hm=>?_) ?_;clear hF;revert v8;intro r hF;refine aV (N:=19) (rs:=[.tmp 4]) rfl Tryz.func111 rfl rfl rfl hm ?_;refine ak ?_;refine UE ?_;obtain⟨r27,h7,hF⟩:=J hF;refine ct (fun(r:(Int) ⊕ (Unit)) (g:Unit)=>match r,g with | .inl v22,_=>⟨.ret,[(4,aM v22)],(.obj l3 (r1 .busy none)::eW b0 a0 l2 c1 b6 o2 l1 c0 e0 ai r0 (qZ b1 b2 b7 a2 l9 (oM b16 o8 l11 c4 (iY b11 o5 l7 e1 aY r6 c2 [fB b14 x3 x4 v0 v5]))))⟩ | .inr _,_=>⟨(.exit 0),[],(.obj l3 (r1 .busy none)::eW b0 a0 l2 c1 b6 o2 l1 c0 e0 ai r0 (qZ b1 b2 b7 a2 l9 (oM b16 o8 l11 c4 (iY b11 o5 l7 e1 aY r6 c2 [fB b14 x3 x4 v0 v5]))))⟩) r27 ?_ ?_
 refine lo h7 () [0,1,2,3,4,5,10,9,6,7,8,11,12,13,14,15] (fun v23 _=>⟨.normal,[(1,.func (.func 112) #[] #[ptr b0 0,ptr b14 0]),(7,bO a2 l9),(8,dF l9),(9,aM v23)],(.obj l3 (r1 .busy none)::eW b0 a0 l2 c1 b6 o2 l1 c0 e0 ai r0 (fB b14 x3 x4 v0 v5::lq a2 l9::db b1::db b2::AO b7 a2 l9::oM b16 o8 l11 c4 (iY b11 o5 l7 e1 aY r6 c2 [])))⟩) ?_;clear hF h7;rintro v23 ⟨⟩ r hF;unfold sZ at hF;refine wz ?_;refine UD ?_;rcases U hF with⟨h60,hF⟩|⟨h60,hF⟩;refine ak ?_;obtain⟨h61,hF⟩:=bJ hF;refine U2 (k:=7) rfl (ay h61) ?_;rintro b28 t0 rfl h114;refine wz ?_;obtain⟨⟨x16,x17,x18,x19⟩,h115,hF⟩:=J hF;refine wz ?_;refine wa q7 fun b42=>?_;refine ak ?_;obtain⟨v9,h62,hF⟩:=J hF;refine wq (fun v9 (_:Unit)=>(.bool v9,(.obj l3 (r1 .busy none)::eW b0 a0 l2 c1 b6 o2 l1 c0 e0 ai r0 (db b1::db b2::.obj b7 (.cells [qW b28 l9] .own)::qY b28 l9 t0::oM b16 o8 l11 c4 (iY b11 o5 l7 e1 aY r6 c2 [fB b14 x3 x4 v0 v5]))))) v9 (fun m hm=>?_) ?_;clear hF;revert v9;intro r hF;refine aV (N:=9) (rs:=[.tmp 4]) rfl Tryz.func112 rfl rfl rfl hm ?_;refine wz ?_;refine wb fun b43=>?_;refine ak ?_;obtain⟨r37,h63,hF⟩:=J hF;refine wc gn (fun m hm=>IE h63 m (hm.q 4) (hm.q 7) (hm.dp (q:=6) rfl)) ?_;rintro⟨⟩;refine ak ?_;obtain rfl:=R2 hF;exact ar () [2,3,4,5,6,7,10,11,12,9,13,14,15,16,17,8];rintro⟨⟩;refine wz ?_;rcases U hF with⟨h64,hF⟩|⟨h64,hF⟩;refine ak ?_;cases hF;exact aT () (UK (UI (k:=9) rfl) (UH (Vd 0 16) rfl rfl));refine ak ?_;cases hF;exact aT () (UK (UI (k:=9) rfl) (UH [0,1,2,3,4,5,15,9,6,7,8,10,11,12,13,14] rfl rfl));refine wz ?_;cases hF;exact ae () [0,1,2,3,4,5,8,9,10,7,11,12,13,14,15,6];rcases r27 with v22|_;rintro⟨⟩;refine wz ?_;obtain rfl:=R2 hF;exact ar () (Vd 0 16);rintro⟨⟩;refine dz ?_;cases hF;exact ar () (Vd 0 16);rintro⟨⟩;refine wz ?_;rcases U hF with⟨h18,hF⟩|⟨h18,hF⟩;refine U1 rfl h18<|UD<|UY (prs:=[(1,2)]) (by kernel_rfl)<|UC (aL (r:=ptr b14 2) rfl (mX _ _)) rfl<|U0 rfl (aC (k:=15) bX rfl rfl rfl) rfl<|Wn.Ag rfl (dI (k:=6) bX rfl rfl rfl rfl rfl)<|U4 (dI (k:=7) bX rfl rfl rfl rfl rfl)<|UT (fun m hm=>(cn.rw rfl rfl rfl (hm.ne (i:=15) (j:=6) rfl rfl rfl rfl (by decide) rfl) cn.nil)) ?_
 refine ak ?_;cases hF;exact ae none (Vd 0 15);refine ak ?_;refine UQ (cm (es:=([(x3,x4,v0,v5)]:List (Uk)).map (eP (eI .i64) (eP (eI .i64) (eP (eI .i64) (eI .i64))))) IS rfl (ck IS q7 rfl rfl) rfl rfl) gn rfl fun b44=>?_;obtain⟨h65,hF⟩:=aA hF;refine UQ (nV (k:=10) (k2:=0) (xs:=(l9:List (Uk))) (ys:=([(x3,x4,v0,v5)]:List (Uk))) (zZ (oO .i64) (zZ (oO .i64) (zZ (oO .i64) (oO .i64)))) IS ⟨_,PC⟩ rfl rfl rfl (.arr _ _ _ _ _) h65) gn rfl fun a27=>?_;refine wz ?_;cases hF;exact ae a27 (Vd 1 15);rcases r13 with _|l41;rintro g0;refine ak ?_;cases hF;exact ae a2 (Vd 0 10);rintro a16;refine dz ?_;cases hF;exact ae a16 [0,11,3,4,5,12,13,14,1,2,6,7,8,9];refine wz ?_;cases hF;exact ae a2 (0::Vd 2 12);rcases r26 with l24|l40;rintro a8;refine wz ?_;cases hF;exact ae a8 (Vd 0 10);rintro a15;refine ak ?_;cases hF;exact ae a15 (0::1::2::3::6::5::Vd 7 6);refine wz ?_;cases hF;exact ae a7 (0::1::2::3::Vd 6 6);rcases r25 with l23|l38;rintro a6;refine wz ?_;cases hF;exact ae a6 [0,1,2,5,4,6,7,8,9];rintro a13;refine ak ?_;cases hF;exact ae a13 (0::3::2::Vd 4 6);refine wz ?_;cases hF;exact ae a5 [0,3,4,1,2,5,6,7,8];rcases r24 with⟨v20,l22⟩|l36;rintro a4;refine At.br ?_;cases hF;exact UW .nil fun m' hm=>⟨a4,(UH (Vd 0 9) rfl rfl) m' hm⟩;rintro a12;refine At.be ?_;cases hF;exact At.fin .nil fun m' hm=>⟨a12,(UH (Vd 0 9) rfl rfl) m' hm⟩;rcases r12 with⟨v19,l21⟩|l35;rintro a11
 change Wk _ _ _ _ .ret _ _ _ _
 refine wz ?_;cases hF;exact UW (.cell (k:=4) bX rfl rfl rfl (.cell (k:=5) bX rfl rfl rfl .nil)) fun m' hm=>⟨(),rfl,(UH [] rfl rfl) m' hm⟩;rintro a21
 change At _ .normal _ _ _
 refine ak ?_;refine UB (jT rfl rfl) rfl<|wa z138 fun b3=>?_;refine ak ?_;obtain⟨r28,h66,hF⟩:=J hF;refine wq (fun _ (b26:Nat)=>(.func (.func 126) #[] #[ptr b26 0],(cU b26 a0 l2 c1 a1 l1 c0 e0 ai r0 [Ek b0 a0 l2 c1 a1 l1 c0,db b1,db b2,.obj b3 (.cells [.func (.func 114) #[] #[ptr b0 0]] .own)]))) r28 (fun m hm=>?_) ?_;clear hF;revert r28;intro r hF;refine aV (N:=4) (rs:=[.tmp 2]) rfl Tryz.func103 rfl rfl rfl hm ?_;refine wz ?_;refine wb fun b36=>?_;refine ak ?_;refine UB (jT rfl rfl) rfl ?_;refine ak ?_;cases hF;exact ar b36 [0,3,4,5,2,6,7,1];rintro b26;refine wz ?_;refine UE ?_;obtain⟨r14,h67,hF⟩:=J hF;refine Wk.range (N:=50) (rs:=[]) (γ:=Unit) (X:=fun g=>(fun(r:(Int) ⊕ (Unit)) (g:Unit)=>(match r,g with | .inl v24,_=>⟨.done,(some .ret),(cU b0 a0 l2 c1 a1 l1 c0 e0 ai r0 [HI b1,eS b2 v24,.obj b3 (.cells [.func (.func 114) #[] #[ptr b0 0]] .own)])⟩ | .inr _,_=>⟨.ready,none,(cU b0 a0 l2 c1 a1 l1 c0 e0 ai r0 [db b1,db b2,.obj b3 (.cells [.func (.func 114) #[] #[ptr b0 0]] .own)])⟩:Rn)) r14 g) rfl rfl Tryz.func126 rfl rfl rfl ?_ (fun y=>by rcases r14 with _|_<;>(intro e; cases e)) ?_
 clear hF;revert r14;intro r hF;intro t3 l5 r4 h68 h69;refine wz ?_;refine UE ?_;obtain⟨r29,h8,hF⟩:=J hF;refine ct (fun(r:(Int) ⊕ (Unit)) (g:Unit)=>match r,g with | .inl v25,_=>⟨.ret,[],(.obj l5 (r4 .done (some .ret))::cU b0 a0 l2 c1 a1 l1 c0 e0 ai r0 [HI b1,eS b2 v25,.obj b3 (.cells [.func (.func 114) #[] #[ptr b0 0]] .own)])⟩ | .inr _,_=>⟨(.exit 0),[],(.obj l5 (r4 .ready none)::cU b0 a0 l2 c1 a1 l1 c0 e0 ai r0 [db b1,db b2,.obj b3 (.cells [.func (.func 114) #[] #[ptr b0 0]] .own)])⟩) r29 ?_ ?_
 refine lo h8 () [0,3,4,5,2,6,7,8] (fun v3 _=>⟨.normal,((0,.func (.yield l5) #[] #[])::zJ a1 l1 c0 v3 []),[.obj l5 (r4 .ready none),jG a1 c0 l1 e0,gr ai r0 l1 e0,Ek b0 a0 l2 c1 a1 l1 c0,gw a0 c1 l2,db b1,db b2,.obj b3 (.cells [.func (.func 114) #[] #[ptr b0 0]] .own)]⟩) ?_;clear hF h8;rintro v3 ⟨⟩ r hF;unfold lF at hF;refine wz ?_;refine UD ?_;rcases U hF with⟨h70,hF⟩|⟨h70,hF⟩;refine ak ?_;obtain⟨h71,hF⟩:=bJ hF;refine UO (k:=1) rfl (ay h71) ?_;rintro b8 o3 rfl;refine wz ?_;obtain⟨⟨l20,l14⟩,h19,hF⟩:=J hF;refine wl 2 0 3 0 h19 ?_;rintro⟨⟨a32,c18⟩,⟨a33,c19,e10⟩⟩;refine wa z31 fun b45=>?_;refine ak ?_;obtain⟨l10,h72,hF⟩:=J hF;refine xJ gn (fun m hm=>iA h72 m hm.cx (hm.q 1) (hm.no 1) (hm.q 2) (hm.no 2) (hm.dp (q:=3) rfl) (hm.dh (q:=3) rfl)) ?_;rintro⟨a23,c5,n2,e5,r8⟩;refine U6 (k:=0) (q:=1) (L:=l10) rfl (.inr (.inl ⟨_,rfl⟩)) rfl ?_;rintro rfl;refine wz ?_;refine UE ?_;obtain⟨r30,h9,hF⟩:=J hF;refine ct (fun(r:(Unit) ⊕ (Unit)) (g:Unit)=>match r,g with | .inl _,_=>⟨.ret,[],(.obj l5 (r4 .done (some .ret))::eW b0 a0 l2 c1 b8 o3 l1 c0 e0 ai r0 [HI b1,eS b2 v3,.obj b3 (.cells [.func (.func 114) #[] #[ptr b0 0]] .own)])⟩ | .inr _,_=>⟨(.exit 2),((0,.func (.yield l5) #[] #[])::rG b8 o3 l1 c0 v3 []),(.obj l5 (r4 .ready none)::q9 b8 o3 l1 e0 ai r0 c0 (qU b0 a0 l2 c1 b8 o3 l1 c0 b1 b2 [.obj b3 (.cells [.func (.func 114) #[] #[ptr b0 0]] .own)]))⟩) r30 ?_ ?_
 refine lo h9 () [7,6,9,8,0,1,10,11,12,13,14] (fun v2 _=>⟨.normal,((0,.func (.yield l5) #[] #[])::(3,aM v3)::rG b8 o3 l1 c0 v3 [(18,bu a23 l10 c5),(19,dF l10),(20,aM v2)]),(.obj l5 (r4 .ready none)::q9 b8 o3 l1 e0 ai r0 c0 (eL a23 c5 l10 e5 aY r8 (qU b0 a0 l2 c1 b8 o3 l1 c0 b1 b2 [.obj b3 (.cells [.func (.func 114) #[] #[ptr b0 0]] .own)])))⟩) ?_;clear hF h9;rintro v2 ⟨⟩ r hF;unfold qH at hF;refine wz ?_;refine UD ?_;rcases U hF with⟨h73,hF⟩|⟨h73,hF⟩;refine ak ?_;obtain⟨h74,hF⟩:=bJ hF;refine UO (k:=4) rfl (ay h74) ?_;rintro b15 o7 rfl;refine wz ?_;obtain⟨l15,h75,hF⟩:=J hF;refine wl 1 0 6 0 h75 ?_;rintro⟨a17,c8⟩;refine ak ?_;refine UE ?_;obtain⟨r31,h10,hF⟩:=J hF;refine ct (fun(r:(Unit) ⊕ (Unit)) (g:Unit)=>match r,g with | .inl _,_=>⟨.ret,[],(.obj l5 (r4 .done (some .ret))::eW b0 a0 l2 c1 b8 o3 l1 c0 e0 ai r0 [HI b1,eS b2 v3,.obj b3 (.cells [.func (.func 114) #[] #[ptr b0 0]] .own)])⟩ | .inr _,_=>⟨(.exit 4),((0,.func (.yield l5) #[] #[])::(3,aM v3)::rG b8 o3 l1 c0 v3 (uj b15 o7 l10 c5 v2 [])),(.obj l5 (r4 .ready none)::q9 b8 o3 l1 e0 ai r0 c0 (iY b15 o7 l10 e5 aY r8 c5 (qU b0 a0 l2 c1 b8 o3 l1 c0 b1 b2 [.obj b3 (.cells [.func (.func 114) #[] #[ptr b0 0]] .own)])))⟩) r31 ?_ ?_
 refine lo h10 () [2,0,3,4,5,1,7,6,8,9,10,11,12] (fun v26 _=>⟨.normal,((0,.func (.yield l5) #[] #[])::(3,aM v3)::(5,aM v2)::(6,bu a17 l15 c8)::rG b8 o3 l1 c0 v3 (uj b15 o7 l10 c5 v2 [(25,bu a17 l15 c8),(26,dF l15),(27,aM v26)])),(.obj l5 (r4 .ready none)::jx a17 c8 l15::q9 b8 o3 l1 e0 ai r0 c0 (iY b15 o7 l10 e5 aY r8 c5 (qU b0 a0 l2 c1 b8 o3 l1 c0 b1 b2 [.obj b3 (.cells [.func (.func 114) #[] #[ptr b0 0]] .own)])))⟩) ?_;clear hF h10;rintro v26 ⟨⟩ r hF;unfold qC at hF;refine wz ?_;refine UD ?_;rcases U hF with⟨h76,hF⟩|⟨h76,hF⟩;refine ak ?_;obtain⟨h77,hF⟩:=bJ hF;refine UO (k:=1) rfl (ay h77) ?_;rintro b20 o11 rfl;refine wz ?_;obtain⟨x14,h116,hF⟩:=J hF;refine ak ?_;obtain⟨h78,hF⟩:=aA hF;refine UB (aI rfl rfl (cb _ _ h78)) rfl ?_;obtain⟨h117,hF⟩:=bJ hF;refine wz ?_;obtain⟨x15,h118,hF⟩:=J hF;refine wz ?_;refine UB (cD rfl q7 rfl (cE zz rfl rfl rfl)) rfl ?_;obtain⟨r15,h20,hF⟩:=J hF;refine UQ (vP (k:=1) (k1:=0) (γA:=Nat) (GA:=(fun g:Nat=>(match g with|b17=>⟨.normal,((1,ptr b0 0)::pI b1 b2 [(8,ptr b3 0),(9,ptr b17 0)]),(.obj l5 (r4 .ready none)::eW b0 a0 l2 c1 b8 o3 l1 c0 e0 ai r0 (db b1::db b2::.obj b3 (.cells [.func (.func 114) #[] #[ptr b0 0]] .own)::fB b17 x14 x15 v3 v2::oM b20 o11 l15 c8 (iY b15 o7 l10 e5 aY r8 c5 [])))⟩:En))) (γ:=Unit) (G:=fun g=>(fun(r:(Unit) ⊕ (Unit)) (g:Unit)=>(match r,g with | .inl _,_=>⟨.normal,[],(.obj l5 (r4 .busy none)::eW b0 a0 l2 c1 b8 o3 l1 c0 e0 ai r0 (db b1::db b2::.obj b3 (.cells [.func (.func 114) #[] #[ptr b0 0]] .own)::oM b20 o11 l15 c8 (iY b15 o7 l10 e5 aY r8 c5 [])))⟩ | .inr _,_=>⟨.ret,[],(.obj l5 (r4 .busy none)::eW b0 a0 l2 c1 b8 o3 l1 c0 e0 ai r0 (HI b1::eS b2 v3::.obj b3 (.cells [.func (.func 114) #[] #[ptr b0 0]] .own)::oM b20 o11 l15 c8 (iY b15 o7 l10 e5 aY r8 c5 [])))⟩:En)) r15 g) rfl rfl rfl h69 h68 rfl ?_ (fun _=>rfl) (fun _=>rfl) ?_ (fun y=>by rcases r15 with _|_<;>rfl)) gn rfl ?_
 clear hF h20;refine UG<|wa q7 fun b37=>?_;refine wz ?_;exact ae b37 [2,10,11,4,5,6,12,13,14,0,1,3,7,8,9];clear hF;revert r15;intro r hF;rintro b17;refine wz ?_;rcases U hF with⟨h79,hF⟩|⟨h79,hF⟩;refine wz ?_;cases hF;exact ae () [0,1,2,3,4,5,6,7,8,10,11,12,13,14];refine ak ?_;obtain⟨h119,hF⟩:=bJ hF;refine wz ?_;refine wl 2 0 4 3 h19 ?_;rintro⟨⟨a9,c10⟩,⟨a18,c11,e4⟩⟩;refine wa z31 fun b21=>?_;refine wz ?_;refine UD<|UY (prs:=[(2,4),(2,7)]) (by kernel_rfl)<|UC (aL (r:=ptr b21 1) rfl (eu _ _)) rfl<|UC (aC (k:=0) kO rfl rfl rfl) rfl ?_
 obtain⟨_,h80,hF⟩:=J hF;refine Wn.c (Oo (N:=fun x:Uo × Nat=>[.sl x.1 1 x.2 e4]) rfl rfl (fun m hm=>JS n l14 e4 a18 c11 _ h80 m (hm.q 2) (hm.dp (q:=3) rfl)) fun _=>rfl) gn rfl ?_;rintro⟨a3,n4⟩;refine Wn.fp (k:=0) (q:=4) (L:=l14) rfl (.inl rfl) rfl ?_;rintro rfl;refine UC (aL (r:=ptr b17 3) rfl (xa _ _)) rfl<|UC (aC (k:=14) bX rfl rfl rfl) rfl<|UC (aI rfl rfl (bR _ _ _)) rfl<|UC (aL (r:=ptr b17 3) rfl (xa _ _)) rfl<|UC (aC (k:=14) bX rfl rfl rfl) rfl ?_;obtain⟨l18,h21,hF⟩:=J hF;refine U3 (kD (α:=Unit) (V:=fun _=>.slice a3 l18.length l14.length) (N:=(fun _:Unit=>bT (.sl a3 1 l14.length e4::Ek b21 a9 l20 c10 a18 l14 c11::jx a9 c10 l20::eL a18 c11 l14 e4 aY r0 (.obj l5 (r4 .busy none)::eW b0 a0 l2 c1 b8 o3 l1 c0 e0 ai r0 (db b1::db b2::.obj b3 (.cells [.func (.func 114) #[] #[ptr b0 0]] .own)::fB b17 x14 x15 v3 v2::oM b20 o11 l15 c8 (iY b15 o7 l10 e5 aY r8 c5 [])))) 0 (.gen (nI a3 l14.length 1 l18.length (e4.take (Ux (v2-1):Int).toNat++e4.drop (v2:Int).toNat))))) rfl rfl (fun m hm=>Ib n hm (k:=0) (qq:=4) rfl rfl h21)) gn rfl fun _=>?_;refine Vb (aa.Oe (q:=4) (i:=(Ux (v2-1):Int).toNat) (j:=(v2:Int).toNat) rfl (JY h21))<|UC (aL (r:=ptr b21 1) rfl (eu _ _)) rfl<|U4 (dI (k:=2) kO rfl rfl rfl rfl rfl)<|UT (fun m hm=>cn.all rfl)<|UM<|UD<|UY (prs:=[(0,4),(1,4)]) (by kernel_rfl)<|U0 rfl (aC (k:=7) dA rfl rfl rfl) rfl<|U0 rfl (aC (k:=2) um rfl rfl rfl) rfl<|UC (aC (k:=14) FU rfl rfl rfl) rfl<|UC (aC (k:=15) Gl rfl rfl rfl) rfl ?_
 obtain⟨r16,h81,hF⟩:=J hF;refine Wn.xk (l:=[b0,b21]) (kD (α:=Unit) (V:=fun g=>(fun(r:Int × Int) (g:Unit)=>match r,g with | (v11,v12),_=>(.agg #[aM v11,aM v12]:Us)) r16 g) (N:=fun g=>(fun(r:Int × Int) (g:Unit)=>match r,g with | (v11,v12),_=>((.obj l5 (r4 .busy none)::eW b0 a0 l2 c1 b8 o3 l1 c0 e0 ai r0 (db b1::db b2::.obj b3 (.cells [.func (.func 114) #[] #[ptr b0 0]] .own)::oM b20 o11 l15 c8 (iY b15 o7 l10 e5 aY r8 c5 [fB b17 x14 x15 v3 v2,.obj b21 (.cells [bu a9 l20 c10,.slice a3 l18.length l14.length] .own),jx a9 c10 l20,.gen (nI a3 l14.length 1 l18.length (e4.take (Ux (v2-1):Int).toNat++e4.drop (v2:Int).toNat)),.gen (bU aY r0 l18 (e4.take (Ux (v2-1):Int).toNat++e4.drop (v2:Int).toNat))]))):List Pc)) r16 g) rfl rfl (fun m hm=>?_)) ⟨⟨_,7,rfl,rfl,fun _=>⟨1,rfl⟩⟩,⟨⟨_,2,rfl,rfl,fun _=>⟨15,rfl⟩⟩,trivial⟩⟩ gn rfl ?_
 clear hF;revert r16;intro r hF;refine aV (N:=29) (rs:=[.cell 3 38]) rfl Tryz.func114 rfl rfl rfl hm ?_;refine wz ?_;refine wb fun b29=>?_;refine wa iH fun b46=>?_;refine wz ?_;refine UD<|UY (prs:=[(7,14),(9,14),(11,14)]) (by kernel_rfl)<|UC (aL (r:=ptr b0 0) rfl (gO _ _)) rfl<|UC (aC (k:=9) p8 rfl rfl rfl) rfl<|UC (aL (r:=ptr b29 0) rfl (xx _ _)) rfl<|UC (aC (k:=1) bX rfl rfl rfl) rfl ?_
 obtain⟨h22,hF⟩:=bJ hF;refine Wn.aN (k:=10) rfl (ay h22) ?_;rintro b47 o13 rfl;refine UU (dc sB rfl rfl h22) gn rfl ?_;obtain⟨⟨x20,x21⟩,h82,hF⟩:=J hF;refine UC (fe (k:=0) bQ rfl rfl (cL h82) rfl rfl) rfl<|UC (aL (r:=ptr b0 0) rfl (gO _ _)) rfl<|U0 rfl (aC (k:=10) p8 rfl rfl rfl) rfl<|UC (aL (r:=ptr b29 1) rfl (xd _ _)) rfl<|U0 rfl (aC (k:=2) bX rfl rfl rfl) rfl ?_;obtain⟨h83,hF⟩:=bJ hF;refine UU (dc sB rfl rfl h83) gn rfl ?_;obtain⟨⟨x22,x23⟩,h84,hF⟩:=J hF;refine U0 rfl (fe (k:=0) bQ rfl rfl (cL h84) rfl rfl) rfl<|U3 (jR iH rfl) gn rfl fun b48=>?_;refine U3 (jR iH rfl) gn rfl fun b49=>?_;refine Wn.Ag rfl (dI (k:=1) bQ rfl rfl rfl rfl rfl)<|U4 (dI (k:=0) bQ rfl rfl rfl rfl rfl)<|UT (fun m hm=>(cn.rw rfl rfl rfl (hm.ne (i:=12) (j:=1) rfl rfl rfl rfl (by decide) rfl) (cn.rw rfl rfl rfl (hm.ne (i:=4) (j:=1) rfl rfl rfl rfl (by decide) rfl) (cn.rw rfl rfl rfl (hm.ne (i:=1) (j:=2) rfl rfl rfl rfl (by decide) rfl).symm cn.nil)))) ?_
 refine ak ?_;refine UB (cD rfl iH rfl (cE xZ rfl rfl rfl)) rfl ?_;refine ak ?_;cases hF;exact UW (.cell (k:=3) bQ rfl rfl rfl .nil) fun m' hm=>⟨(),rfl,(UH [11,12,13,14,15,16,17,18,19,21,22,23,24,25,20,7,8,6,5] rfl rfl) m' hm⟩;clear h81;obtain⟨v11,v12⟩:=r16;rintro⟨⟩;obtain⟨r38,h85,hF⟩:=J hF;refine Vb (aa.Fh (k:=17) rfl)<|nc gn (fun m hm=>Al h85 m (hm.q 2) (hm.q 5) (hm.dp (q:=4) rfl) (hm.q 16) (hm.q 17) (hm.dp (q:=18) rfl)) ?_;rintro⟨⟩;refine UC (Bb rfl rfl) rfl ?_;refine UT (fun m hm=>(by(first|refine cn.rk rfl rfl rfl (by simp) ?_|refine cn.step rfl ?_); exact(by(first|refine cn.rk rfl rfl rfl (by simp) ?_|refine cn.step rfl ?_); exact cn.nil))) ?_
 refine UM ?_;rcases U hF with⟨h23,hF⟩|⟨h23,hF⟩;refine U1 rfl h23<|UD<|UY (prs:=[(1,2)]) (by kernel_rfl)<|UC (aL (r:=ptr b17 2) rfl (mX _ _)) rfl<|U0 rfl (aC (k:=14) bX rfl rfl rfl) rfl<|Wn.Ag rfl (dI (k:=6) bX rfl rfl rfl rfl rfl)<|U4 (dI (k:=7) bX rfl rfl rfl rfl rfl)<|UT (fun m hm=>(cn.rw rfl rfl rfl (hm.ne (i:=14) (j:=6) rfl rfl rfl rfl (by decide) rfl) cn.nil)) ?_
 refine ak ?_;cases hF;exact ae () (Vd 0 14);refine wz ?_;cases hF;exact ae () (Vd 0 14);rcases r15 with _|_;rintro⟨⟩;refine dz ?_;cases hF;exact ae () [0,10,3,4,5,11,12,13,1,2,6,7,8];rintro⟨⟩;refine ak ?_;cases hF;exact ae () (Vd 0 9);refine wz ?_;cases hF;exact ae () (0::Vd 2 11);rcases r31 with _|_;rintro⟨⟩;refine wz ?_;cases hF;exact ae () (Vd 0 9);rintro⟨⟩;refine ak ?_;cases hF;exact ae () [0,1,2,3,6,5,7,8,9,10,11];refine wz ?_;cases hF;exact ae () [0,1,2,3,6,7,8,9,10];rcases r30 with _|_;rintro⟨⟩;refine wz ?_;cases hF;exact ae () [0,1,2,5,4,6,7,8];rintro⟨⟩;refine ak ?_;cases hF;exact ae () [0,3,2,4,5,6,7,8];refine wz ?_;cases hF;exact ae () [0,3,4,1,2,5,6,7];rcases r29 with v25|_;rintro⟨⟩;refine At.br ?_;cases hF;exact UW .nil fun m' hm=>⟨(),(UH (Vd 0 8) rfl rfl) m' hm⟩;rintro⟨⟩;refine At.be ?_;cases hF;exact At.fin .nil fun m' hm=>⟨(),(UH (Vd 0 8) rfl rfl) m' hm⟩;rcases r14 with v24|_;rintro⟨⟩
 change Wk _ _ _ _ .ret _ _ _ _
 refine wz ?_;cases hF;exact UW (.cell (k:=4) bX rfl rfl rfl (.cell (k:=5) bX rfl rfl rfl .nil)) fun m' hm=>⟨(),rfl,(UH [] rfl rfl) m' hm⟩;rintro⟨⟩
 change At _ .normal _ _ _
 refine ak ?_;obtain⟨r32,h86,hF⟩:=J hF;refine wq (fun _ (b27:Nat)=>(.func (.func 126) #[] #[ptr b27 0],(cU b27 a0 l2 c1 a1 l1 c0 e0 ai r0 [Ek b0 a0 l2 c1 a1 l1 c0,db b1,db b2,.obj b3 (.cells [.func (.func 114) #[] #[ptr b0 0]] .own)]))) r32 (fun m hm=>?_) ?_;clear hF;revert r32;intro r hF;refine aV (N:=4) (rs:=[.tmp 2]) rfl Tryz.func103 rfl rfl rfl hm ?_;refine wz ?_;refine wb fun b38=>?_;refine ak ?_;refine UB (jT rfl rfl) rfl ?_;refine ak ?_;cases hF;exact ar b38 [0,2,3,4,1,5,6,7];rintro b27;refine wz ?_;refine UE ?_;obtain⟨r17,h87,hF⟩:=J hF;refine Wk.range (N:=50) (rs:=[]) (γ:=Unit) (X:=fun g=>(fun(r:(Int) ⊕ (Unit)) (g:Unit)=>(match r,g with | .inl v27,_=>⟨.done,(some .ret),(cU b0 a0 l2 c1 a1 l1 c0 e0 ai r0 [DG b1,eS b2 v27,.obj b3 (.cells [.func (.func 114) #[] #[ptr b0 0]] .own)])⟩ | .inr _,_=>⟨.ready,none,(cU b0 a0 l2 c1 a1 l1 c0 e0 ai r0 [db b1,db b2,.obj b3 (.cells [.func (.func 114) #[] #[ptr b0 0]] .own)])⟩:Rn)) r17 g) rfl rfl Tryz.func126 rfl rfl rfl ?_ (fun y=>by rcases r17 with _|_<;>(intro e; cases e)) ?_
 clear hF;revert r17;intro r hF;intro t4 l4 r3 h88 h89;refine wz ?_;refine UE ?_;obtain⟨r33,h11,hF⟩:=J hF;refine ct (fun(r:(Int) ⊕ (Unit)) (g:Unit)=>match r,g with | .inl v28,_=>⟨.ret,[],(.obj l4 (r3 .done (some .ret))::cU b0 a0 l2 c1 a1 l1 c0 e0 ai r0 [DG b1,eS b2 v28,.obj b3 (.cells [.func (.func 114) #[] #[ptr b0 0]] .own)])⟩ | .inr _,_=>⟨(.exit 0),[],(.obj l4 (r3 .ready none)::cU b0 a0 l2 c1 a1 l1 c0 e0 ai r0 [db b1,db b2,.obj b3 (.cells [.func (.func 114) #[] #[ptr b0 0]] .own)])⟩) r33 ?_ ?_
 refine lo h11 () [0,3,4,5,2,6,7,8] (fun v1 _=>⟨.normal,((0,.func (.yield l4) #[] #[])::zJ a1 l1 c0 v1 []),[.obj l4 (r3 .ready none),jG a1 c0 l1 e0,gr ai r0 l1 e0,Ek b0 a0 l2 c1 a1 l1 c0,gw a0 c1 l2,db b1,db b2,.obj b3 (.cells [.func (.func 114) #[] #[ptr b0 0]] .own)]⟩) ?_;clear hF h11;rintro v1 ⟨⟩ r hF;unfold lN at hF;refine wz ?_;refine UD ?_;rcases U hF with⟨h90,hF⟩|⟨h90,hF⟩;refine ak ?_;obtain⟨h91,hF⟩:=bJ hF;refine UO (k:=1) rfl (ay h91) ?_;rintro b5 o1 rfl;refine wz ?_;obtain⟨⟨l48,l49⟩,h92,hF⟩:=J hF;refine wl 2 0 3 0 h92 ?_;rintro⟨⟨a34,c20⟩,⟨a35,c21,e11⟩⟩;refine wa z31 fun b50=>?_;refine ak ?_;obtain⟨l8,h93,hF⟩:=J hF;refine xJ gn (fun m hm=>iA h93 m hm.cx (hm.q 1) (hm.no 1) (hm.q 2) (hm.no 2) (hm.dp (q:=3) rfl) (hm.dh (q:=3) rfl)) ?_;rintro⟨a24,c3,n5,e3,r7⟩;refine U6 (k:=0) (q:=1) (L:=l8) rfl (.inr (.inl ⟨_,rfl⟩)) rfl ?_;rintro rfl;refine wz ?_;refine UE ?_;obtain⟨r34,h12,hF⟩:=J hF;refine ct (fun(r:(Unit) ⊕ (Unit)) (g:Unit)=>match r,g with | .inl _,_=>⟨.ret,[],(.obj l4 (r3 .done (some .ret))::eW b0 a0 l2 c1 b5 o1 l1 c0 e0 ai r0 [DG b1,eS b2 v1,.obj b3 (.cells [.func (.func 114) #[] #[ptr b0 0]] .own)])⟩ | .inr _,_=>⟨(.exit 2),((0,.func (.yield l4) #[] #[])::rG b5 o1 l1 c0 v1 []),(.obj l4 (r3 .ready none)::q9 b5 o1 l1 e0 ai r0 c0 (qU b0 a0 l2 c1 b5 o1 l1 c0 b1 b2 [.obj b3 (.cells [.func (.func 114) #[] #[ptr b0 0]] .own)]))⟩) r34 ?_ ?_
 refine lo h12 () [7,6,9,8,0,1,10,11,12,13,14] (fun v6 _=>⟨.normal,((0,.func (.yield l4) #[] #[])::(3,aM v1)::rG b5 o1 l1 c0 v1 [(18,bu a24 l8 c3),(19,dF l8),(20,aM v6)]),(.obj l4 (r3 .ready none)::q9 b5 o1 l1 e0 ai r0 c0 (eL a24 c3 l8 e3 aY r7 (qU b0 a0 l2 c1 b5 o1 l1 c0 b1 b2 [.obj b3 (.cells [.func (.func 114) #[] #[ptr b0 0]] .own)])))⟩) ?_;clear hF h12;rintro v6 ⟨⟩ r hF;unfold mC at hF;refine wz ?_;refine UD ?_;rcases U hF with⟨h94,hF⟩|⟨h94,hF⟩;refine ak ?_;obtain⟨h95,hF⟩:=bJ hF;refine UO (k:=4) rfl (ay h95) ?_;rintro b12 o6 rfl;refine wz ?_;obtain⟨l12,h96,hF⟩:=J hF;refine wl 1 0 6 0 h96 ?_;rintro⟨a19,c6⟩;refine ak ?_;refine UE ?_;obtain⟨r35,h13,hF⟩:=J hF;refine ct (fun(r:(Unit) ⊕ (Unit)) (g:Unit)=>match r,g with | .inl _,_=>⟨.ret,[],(.obj l4 (r3 .done (some .ret))::eW b0 a0 l2 c1 b5 o1 l1 c0 e0 ai r0 [DG b1,eS b2 v1,.obj b3 (.cells [.func (.func 114) #[] #[ptr b0 0]] .own)])⟩ | .inr _,_=>⟨(.exit 4),((0,.func (.yield l4) #[] #[])::(3,aM v1)::rG b5 o1 l1 c0 v1 (uj b12 o6 l8 c3 v6 [])),(.obj l4 (r3 .ready none)::q9 b5 o1 l1 e0 ai r0 c0 (iY b12 o6 l8 e3 aY r7 c3 (qU b0 a0 l2 c1 b5 o1 l1 c0 b1 b2 [.obj b3 (.cells [.func (.func 114) #[] #[ptr b0 0]] .own)])))⟩) r35 ?_ ?_
 refine lo h13 () [2,0,3,4,5,1,7,6,8,9,10,11,12] (fun v29 _=>⟨.normal,((0,.func (.yield l4) #[] #[])::(3,aM v1)::(5,aM v6)::(6,bu a19 l12 c6)::rG b5 o1 l1 c0 v1 (uj b12 o6 l8 c3 v6 [(25,bu a19 l12 c6),(26,dF l12),(27,aM v29)])),(.obj l4 (r3 .ready none)::jx a19 c6 l12::q9 b5 o1 l1 e0 ai r0 c0 (iY b12 o6 l8 e3 aY r7 c3 (qU b0 a0 l2 c1 b5 o1 l1 c0 b1 b2 [.obj b3 (.cells [.func (.func 114) #[] #[ptr b0 0]] .own)])))⟩) ?_;clear hF h13;rintro v29 ⟨⟩ r hF;unfold mK at hF;refine wz ?_;refine UD ?_;rcases U hF with⟨h97,hF⟩|⟨h97,hF⟩;refine ak ?_;obtain⟨h98,hF⟩:=bJ hF;refine UO (k:=1) rfl (ay h98) ?_;rintro b18 o9 rfl;refine wz ?_;obtain⟨x10,h120,hF⟩:=J hF;refine ak ?_;obtain⟨h99,hF⟩:=aA hF;refine UB (aI rfl rfl (cb _ _ h99)) rfl ?_;obtain⟨h121,hF⟩:=bJ hF;refine wz ?_;obtain⟨x11,h122,hF⟩:=J hF;refine wz ?_;refine UB (cD rfl q7 rfl (cE zz rfl rfl rfl)) rfl ?_;obtain⟨r18,h24,hF⟩:=J hF;refine UQ (vP (k:=1) (k1:=0) (γA:=Nat) (GA:=(fun g:Nat=>(match g with|b13=>⟨.normal,((1,ptr b0 0)::pI b1 b2 [(8,ptr b3 0),(11,ptr b13 0)]),(.obj l4 (r3 .ready none)::eW b0 a0 l2 c1 b5 o1 l1 c0 e0 ai r0 (db b1::db b2::.obj b3 (.cells [.func (.func 114) #[] #[ptr b0 0]] .own)::fB b13 x10 x11 v1 v6::oM b18 o9 l12 c6 (iY b12 o6 l8 e3 aY r7 c3 [])))⟩:En))) (γ:=Unit) (G:=fun g=>(fun(r:(Unit) ⊕ (Unit)) (g:Unit)=>(match r,g with | .inl _,_=>⟨.ret,[],(.obj l4 (r3 .busy none)::eW b0 a0 l2 c1 b5 o1 l1 c0 e0 ai r0 (DG b1::eS b2 v1::.obj b3 (.cells [.func (.func 114) #[] #[ptr b0 0]] .own)::oM b18 o9 l12 c6 (iY b12 o6 l8 e3 aY r7 c3 [])))⟩ | .inr _,_=>⟨.normal,[],(.obj l4 (r3 .busy none)::eW b0 a0 l2 c1 b5 o1 l1 c0 e0 ai r0 (db b1::db b2::.obj b3 (.cells [.func (.func 114) #[] #[ptr b0 0]] .own)::oM b18 o9 l12 c6 (iY b12 o6 l8 e3 aY r7 c3 [])))⟩:En)) r18 g) rfl rfl rfl h89 h88 rfl ?_ (fun _=>rfl) (fun _=>rfl) ?_ (fun y=>by rcases r18 with _|_<;>rfl)) gn rfl ?_
 clear hF h24;refine UG<|wa q7 fun b39=>?_;refine wz ?_;exact ae b39 [2,10,11,4,5,6,12,13,14,0,1,3,7,8,9];clear hF;revert r18;intro r hF;rintro b13;refine wz ?_;refine UE ?_;obtain⟨r36,h14,hF⟩:=J hF;refine ct (fun(r:(Unit) ⊕ (Unit)) (g:Unit)=>match r,g with | .inl _,_=>⟨.ret,(pI b1 b2 []),(.obj l4 (r3 .busy none)::DG b1::eS b2 v1::eW b0 a0 l2 c1 b5 o1 l1 c0 e0 ai r0 (.obj b3 (.cells [.func (.func 114) #[] #[ptr b0 0]] .own)::oM b18 o9 l12 c6 (iY b12 o6 l8 e3 aY r7 c3 [])))⟩ | .inr _,_=>⟨(.exit 8),((1,ptr b0 0)::pI b1 b2 [(8,ptr b3 0),(11,ptr b13 0)]),(.obj l4 (r3 .busy none)::eW b0 a0 l2 c1 b5 o1 l1 c0 e0 ai r0 (db b1::db b2::.obj b3 (.cells [.func (.func 114) #[] #[ptr b0 0]] .own)::fB b13 x10 x11 v1 v6::oM b18 o9 l12 c6 (iY b12 o6 l8 e3 aY r7 c3 [])))⟩) r36 ?_ ?_
 refine lo h14 () [0,1,2,3,4,5,6,7,8,9,10,11,12,13,14] (fun v13 _=>⟨.normal,((1,ptr b0 0)::pI b1 b2 [(8,ptr b3 0),(11,ptr b13 0),(82,nF b5 o1 l1 c0),(83,dF l1),(84,aM v13)]),(.obj l4 (r3 .busy none)::eW b0 a0 l2 c1 b5 o1 l1 c0 e0 ai r0 (db b1::db b2::.obj b3 (.cells [.func (.func 114) #[] #[ptr b0 0]] .own)::fB b13 x10 x11 v1 v6::oM b18 o9 l12 c6 (iY b12 o6 l8 e3 aY r7 c3 [])))⟩) ?_;clear hF h14;rintro v13 ⟨⟩ r hF;unfold sD at hF;refine wz ?_;refine UD ?_;rcases U hF with⟨h100,hF⟩|⟨h100,hF⟩;refine ak ?_;obtain⟨h123,hF⟩:=bJ hF;refine wz ?_;obtain⟨⟨l42,l43⟩,h101,hF⟩:=J hF;refine wl 2 0 4 3 h101 ?_;rintro⟨⟨a25,c12⟩,⟨a26,c13,e7⟩⟩;refine wa z31 fun b30=>?_;refine wz ?_;refine UD ?_;obtain⟨v10,h102,hF⟩:=J hF;refine ct (fun v10 (_:Unit)=>⟨.normal,((1,ptr b0 0)::pI b1 b2 [(8,ptr b3 0),(11,ptr b13 0),(82,nF b5 o1 l1 c0),(83,dF l1),(84,aM v13),(100,.bool v10)]),(.obj l4 (r3 .busy none)::eW b0 a0 l2 c1 b5 o1 l1 c0 e0 ai r0 (db b1::db b2::.obj b3 (.cells [.func (.func 114) #[] #[ptr b0 0]] .own)::fB b13 x10 x11 v1 v6::oM b18 o9 l12 c6 (iY b12 o6 l8 e3 aY r7 c3 [])))⟩) v10 ?_ ?_;clear hF;revert v10;intro r hF;refine UY (prs:=[(5,9),(6,9)]) (by kernel_rfl)<|UC (aK rfl) rfl<|UC (aL (r:=ptr b13 2) rfl (mX _ _)) rfl<|UC (aC (k:=13) bX rfl rfl rfl) rfl<|UC (aI rfl rfl (jQ _ _)) rfl<|UC (aK rfl) rfl ?_
 rcases U hF with⟨h0,hF⟩|⟨h0,hF⟩;refine Wn.Q3 rfl (aC (k:=5) dA rfl rfl rfl) (gg rfl rfl (dC h0)) rfl<|Wn.Q3 rfl (aC (k:=0) um rfl rfl rfl) (gg rfl rfl (dC h0)) rfl<|UU (aC (k:=12) FU rfl rfl rfl) (gg rfl rfl (dC h0)) rfl<|UU (aC (k:=13) Gl rfl rfl rfl) (gg rfl rfl (dC h0)) rfl ?_;obtain⟨r19,h103,hF⟩:=J hF;refine Wn.xk (l:=[b0,b30]) (kD (α:=Unit) (V:=fun g=>(fun(r:Int × Int) (g:Unit)=>match r,g with | (v14,v15),_=>(.agg #[aM v14,aM v15]:Us)) r19 g) (N:=fun g=>(fun(r:Int × Int) (g:Unit)=>match r,g with | (v14,v15),_=>((.obj l4 (r3 .busy none)::eW b0 a0 l2 c1 b5 o1 l1 c0 e0 ai r0 (db b1::db b2::.obj b3 (.cells [.func (.func 114) #[] #[ptr b0 0]] .own)::oM b18 o9 l12 c6 (iY b12 o6 l8 e3 aY r7 c3 (fB b13 x10 x11 v1 v6::Ek b30 a25 l42 c12 a26 l43 c13::jx a25 c12 l42::eL a26 c13 l43 e7 aY r0 [])))):List Pc)) r19 g) rfl rfl (fun m hm=>?_)) ⟨⟨_,5,rfl,rfl,fun _=>⟨1,rfl⟩⟩,⟨⟨_,0,rfl,rfl,fun _=>⟨15,rfl⟩⟩,trivial⟩⟩ (gg rfl rfl (dC h0)) rfl ?_
 clear hF;revert r19;intro r hF;refine aV (N:=29) (rs:=[.cell 3 38]) rfl Tryz.func114 rfl rfl rfl hm ?_;refine wz ?_;refine wb fun b31=>?_;refine wa iH fun b51=>?_;refine wz ?_;refine UD<|UY (prs:=[(7,14),(9,14),(11,14)]) (by kernel_rfl)<|UC (aL (r:=ptr b0 0) rfl (gO _ _)) rfl<|UC (aC (k:=7) p8 rfl rfl rfl) rfl<|UC (aL (r:=ptr b31 0) rfl (xx _ _)) rfl<|UC (aC (k:=1) bX rfl rfl rfl) rfl ?_
 obtain⟨h25,hF⟩:=bJ hF;refine Wn.aN (k:=8) rfl (ay h25) ?_;rintro b52 o14 rfl;refine UU (dc sB rfl rfl h25) gn rfl ?_;obtain⟨⟨x24,x25⟩,h104,hF⟩:=J hF;refine UC (fe (k:=0) bQ rfl rfl (cL h104) rfl rfl) rfl<|UC (aL (r:=ptr b0 0) rfl (gO _ _)) rfl<|U0 rfl (aC (k:=8) p8 rfl rfl rfl) rfl<|UC (aL (r:=ptr b31 1) rfl (xd _ _)) rfl<|U0 rfl (aC (k:=2) bX rfl rfl rfl) rfl ?_;obtain⟨h105,hF⟩:=bJ hF;refine UU (dc sB rfl rfl h105) gn rfl ?_;obtain⟨⟨x26,x27⟩,h106,hF⟩:=J hF;refine U0 rfl (fe (k:=0) bQ rfl rfl (cL h106) rfl rfl) rfl<|U3 (jR iH rfl) gn rfl fun b53=>?_;refine U3 (jR iH rfl) gn rfl fun b54=>?_;refine Wn.Ag rfl (dI (k:=1) bQ rfl rfl rfl rfl rfl)<|U4 (dI (k:=0) bQ rfl rfl rfl rfl rfl)<|UT (fun m hm=>(cn.rw rfl rfl rfl (hm.ne (i:=10) (j:=1) rfl rfl rfl rfl (by decide) rfl) (cn.rw rfl rfl rfl (hm.ne (i:=4) (j:=1) rfl rfl rfl rfl (by decide) rfl) (cn.rw rfl rfl rfl (hm.ne (i:=1) (j:=2) rfl rfl rfl rfl (by decide) rfl).symm cn.nil)))) ?_
 refine ak ?_;refine UB (cD rfl iH rfl (cE xZ rfl rfl rfl)) rfl ?_;refine ak ?_;cases hF;exact UW (.cell (k:=3) bQ rfl rfl rfl .nil) fun m' hm=>⟨(),rfl,(UH [9,10,11,12,13,14,15,16,17,19,20,21,22,23,18,5,6,7,8] rfl rfl) m' hm⟩;clear h103;obtain⟨v14,v15⟩:=r19;rintro⟨⟩;obtain⟨r39,h107,hF⟩:=J hF;refine nc (gg rfl rfl (dC h0)) (fun m hm=>Al h107 m (hm.q 2) (hm.q 5) (hm.dp (q:=4) rfl) (hm.q 16) (hm.q 17) (hm.dp (q:=18) rfl)) ?_;rintro⟨⟩;refine UC (qS rfl h0 rfl) rfl ?_;refine UT (fun m hm=>(by(first|refine cn.rk rfl rfl rfl (by simp) ?_|refine cn.step rfl ?_); exact(by(first|refine cn.rk rfl rfl rfl (by simp) ?_|refine cn.step rfl ?_); exact cn.nil))) ?_
 obtain rfl:=R2 hF;exact ae () [0,1,2,3,4,5,6,7,8,14,9,10,11,12,13];refine UX (gg rfl rfl (nT h0)) rfl<|UX (gg rfl rfl (nT h0)) rfl<|UX (gg rfl rfl (nT h0)) rfl<|UX (gg rfl rfl (nT h0)) rfl<|UX (gg rfl rfl (nT h0)) rfl<|UX (gg rfl rfl (nT h0)) rfl<|UC (qT rfl h0 rfl) rfl ?_;refine UT (fun m hm=>(by(first|refine cn.rk rfl rfl rfl (by simp) ?_|refine cn.step rfl ?_); exact(by(first|refine cn.rk rfl rfl rfl (by simp) ?_|refine cn.step rfl ?_); exact cn.nil))) ?_
 cases hF;exact ae () (Vd 4 15);rintro⟨⟩;refine UM ?_;rcases U hF with⟨h26,hF⟩|⟨h26,hF⟩;refine U1 rfl h26<|UD<|UY (prs:=[(1,2)]) (by kernel_rfl)<|UC (aL (r:=ptr b13 2) rfl (mX _ _)) rfl<|U0 rfl (aC (k:=9) bX rfl rfl rfl) rfl<|Wn.Ag rfl (dI (k:=6) bX rfl rfl rfl rfl rfl)<|U4 (dI (k:=7) bX rfl rfl rfl rfl rfl)<|UT (fun m hm=>(cn.rw rfl rfl rfl (hm.ne (i:=9) (j:=6) rfl rfl rfl rfl (by decide) rfl) cn.nil)) ?_
 refine ak ?_;cases hF;exact ae () [0,6,7,1,2,3,4,5,8,10,11,12,13,14];refine ak ?_;cases hF;exact ae () (Vd 0 15);refine wz ?_;cases hF;exact ae () (Vd 0 15);rcases r36 with _|_;rintro⟨⟩;refine wz ?_;cases hF;exact ae () (0::3::4::5::6::7::1::2::Vd 8 6);rintro⟨⟩;refine wz ?_;cases hF;exact ae () [0,1,2,3,4,5,6,7,8,10,11,12,13,14];rcases r18 with _|_;rintro⟨⟩;refine ak ?_;cases hF;exact ae () (Vd 0 9);rintro⟨⟩;refine dz ?_;cases hF;exact ae () [0,10,3,4,5,11,12,13,1,2,6,7,8];refine wz ?_;cases hF;exact ae () (0::Vd 2 11);rcases r35 with _|_;rintro⟨⟩;refine wz ?_;cases hF;exact ae () (Vd 0 9);rintro⟨⟩;refine ak ?_;cases hF;exact ae () [0,1,2,3,6,5,7,8,9,10,11];refine wz ?_;cases hF;exact ae () [0,1,2,3,6,7,8,9,10];rcases r34 with _|_;rintro⟨⟩;refine wz ?_;cases hF;exact ae () [0,1,2,5,4,6,7,8];rintro⟨⟩;refine ak ?_;cases hF;exact ae () [0,3,2,4,5,6,7,8];refine wz ?_;cases hF;exact ae () [0,3,4,1,2,5,6,7];rcases r33 with v28|_;rintro⟨⟩;refine At.br ?_;cases hF;exact UW .nil fun m' hm=>⟨(),(UH (Vd 0 8) rfl rfl) m' hm⟩;rintro⟨⟩;refine At.be ?_;cases hF;exact At.fin .nil fun m' hm=>⟨(),(UH (Vd 0 8) rfl rfl) m' hm⟩;rcases r17 with v27|_;rintro⟨⟩
 change Wk _ _ _ _ .ret _ _ _ _
 refine wz ?_;cases hF;exact UW (.cell (k:=4) bX rfl rfl rfl (.cell (k:=5) bX rfl rfl rfl .nil)) fun m' hm=>⟨(),rfl,(UH [] rfl rfl) m' hm⟩;rintro⟨⟩
 change At _ .normal _ _ _
 refine dz ?_;cases hF;exact UW (.cell (k:=4) bX rfl rfl rfl (.cell (k:=5) bX rfl rfl rfl .nil)) fun m' hm=>⟨(),rfl,(UH [] rfl rfl) m' hm⟩
end
section
open Go Go.Ab Go.Ab.W
set_option maxRecDepth 10000
set_option maxHeartbeats 4000000
attribute [local irreducible] Wo Wk At Wn Od Ox bp bZ
attribute [local irreducible] Tm.at Trie.set Trie.get Vj.get Vj.set Vj.alloc Vj.ww Vj.kill
variable {p q : Option Prim}
def Ac {n l2 l1 a0 c1 a1 c0} {r0:Ur} {e0:Un} {r} (hF:Ly n l2 l1=some r) (m) (h12:dm m a0 c1 l2) (h13:fh m a1 c0 l1 e0) (h14:(bU ai r0 l1 e0).P m):
 aD (Vn p q) 45 [dN a0 l2 c1 a1 l1 c0] m (Vi m (.tuple #[.int .i64 r.1,.int .i64 r.2])):=by
 unfold Ly at hF;refine cw Tryz.func45 (UZ (UN (UN (UJ m) bP h12) (bC bP) h13) (bC (bC bP)) h14) ?_;refine wz ?_;refine wb fun b0=>?_;refine ak ?_;refine UD ?_;obtain⟨v1,h15,hF⟩:=J hF;refine ct (fun v1 (_:Unit)=>⟨.normal,[(1,ptr b0 0),(33,.bool v1)],(cU b0 a0 l2 c1 a1 l1 c0 e0 ai r0 [])⟩) v1 ?_ ?_;clear hF;revert v1;intro r hF;refine wz ?_;rcases U hF with⟨h16,hF⟩|⟨h16,hF⟩;refine wz ?_;cases hF;exact ae () [0,3,2,1];refine wz ?_;rcases U hF with⟨h17,hF⟩|⟨h17,hF⟩;refine wz ?_;cases hF;exact ae () [0,3,2,1];refine wz ?_;rcases U hF with⟨h18,hF⟩|⟨h18,hF⟩;refine wz ?_;cases hF;exact ae () [0,3,2,1];refine wz ?_;cases hF;exact ae () [0,3,2,1];rintro⟨⟩;refine UM ?_;rcases U hF with⟨h19,hF⟩|⟨h19,hF⟩;refine ak ?_;cases hF;exact ar () [];refine ak ?_;obtain⟨v2,h20,hF⟩:=J hF;refine wq (fun v2 (_:Unit)=>(.int .i64 v2,(cU b0 a0 l2 c1 a1 l1 c0 e0 ai r0 []))) v2 (fun m hm=>?_) ?_;clear hF;revert v2;intro r hF;refine aV (N:=19) (rs:=[.tmp 4]) rfl Tryz.func73 rfl rfl rfl hm ?_;refine ak ?_;refine UE ?_;obtain⟨r1,h3,hF⟩:=J hF;refine ct (fun(r:(Int) ⊕ (Unit)) (g:Unit)=>match r,g with | .inl v14,_=>⟨.ret,[(4,aM v14)],(cU b0 a0 l2 c1 a1 l1 c0 e0 ai r0 [])⟩ | .inr _,_=>⟨(.exit 0),[],(cU b0 a0 l2 c1 a1 l1 c0 e0 ai r0 [])⟩) r1 ?_ ?_
 refine lo h3 () [1,0,2,3] (fun v15 _=>⟨.normal,((1,.func (.func 56) #[] #[])::yZ a0 l2 c1 v15 []),[gw a0 c1 l2,Ek b0 a0 l2 c1 a1 l1 c0,jG a1 c0 l1 e0,gr ai r0 l1 e0]⟩) ?_;clear hF h3;rintro v15 ⟨⟩ r hF;unfold zo at hF;refine wz ?_;refine UD ?_;rcases U hF with⟨h21,hF⟩|⟨h21,hF⟩;refine ak ?_;obtain⟨h22,hF⟩:=bJ hF;refine UO (k:=0) rfl (ay h22) ?_;rintro b9 o7 rfl;refine wz ?_;obtain⟨⟨x10,x11⟩,h79,hF⟩:=J hF;refine wz ?_;refine wa iH fun b10=>?_;refine ak ?_;obtain⟨r13,h23,hF⟩:=J hF;refine wc gn (fun m hm=>HY h23 m) ?_;rintro⟨⟩;refine wz ?_;rcases U hF with⟨h24,hF⟩|⟨h24,hF⟩;refine ak ?_;cases hF;exact ae () [3,2,4,5];refine ak ?_;cases hF;exact ae () [2,3,4,5];refine wz ?_;cases hF;exact ae () [1,0,2,3];rcases r1 with v14|_;rintro⟨⟩;refine wz ?_;obtain rfl:=R2 hF;exact ar () [0,1,2,3];rintro⟨⟩;refine dz ?_;cases hF;exact ar () [0,1,2,3];rintro⟨⟩;refine ak ?_;rcases U hF with⟨h25,hF⟩|⟨h25,hF⟩;refine ak ?_;cases hF;exact ar () [];refine ak ?_;refine UQ Fk gn rfl fun b5=>?_;refine ak ?_;refine UE ?_;obtain⟨r3,h4,hF⟩:=J hF;refine ct (fun(r:(Int) ⊕ (Unit)) (g:Unit)=>match r,g with | .inl v16,_=>⟨.ret,[(2,.int .i64 3),(3,aM v16)],[]⟩ | .inr _,_=>⟨(.exit 0),[(1,ptr b0 0)],(cU b0 a0 l2 c1 a1 l1 c0 e0 ai r0 [])⟩) r3 ?_ ?_
 refine lo h4 () [1,2,3,4,0] (fun(l6,v17) _=>⟨.normal,[(1,ptr b0 0),(6,.map (some b5)),(42,bu a0 l2 c1),(43,dF l2),(44,aM v17)],(cU b0 a0 l2 c1 a1 l1 c0 e0 ai r0 [.obj b5 (.map (l6.map (eM (fun p:Int × Int=>.agg #[.int .i64 p.1,.int .i64 p.2]) (fun b:Bool=>.bool b))))])⟩) ?_;clear hF h4;rintro⟨l6,v17⟩ ⟨⟩ r hF;unfold qB at hF;refine wz ?_;refine UD ?_;rcases U hF with⟨h26,hF⟩|⟨h26,hF⟩;refine ak ?_;obtain⟨h27,hF⟩:=bJ hF;refine UO (k:=1) rfl (ay h27) ?_;rintro b11 o8 rfl;refine wz ?_;obtain⟨⟨x3,x4⟩,h80,hF⟩:=J hF;refine wz ?_;refine wa iH fun b12=>?_;refine ak ?_;obtain⟨y0,h28,hF⟩:=J hF;refine UB (K3 (q:=6) (xs:=l6) (k:=(x3,x4)) (vE:=(fun b:Bool=>.bool b)) (z0:=false) Om (Em BX) z4 rfl rfl rfl rfl h28) rfl ?_;refine wz ?_;rcases U hF with⟨h29,hF⟩|⟨h29,hF⟩;refine ak ?_;cases hF;exact ae () [];refine ak ?_;refine U8 (CS (q:=6) (xs:=l6) (k:=(x3,x4)) (v:=true) (vE:=(fun b:Bool=>.bool b)) Om (Em BX) rfl rfl rfl rfl) ?_;refine ak ?_;cases hF;exact ae () (Vd 2 5);refine wz ?_;cases hF;exact ae () [0,1,2,3];rcases r3 with v16|_;rintro⟨⟩;refine wz ?_;cases hF;exact ar () [];rintro⟨⟩;refine ak ?_;refine wa Rc fun b1=>?_;refine ak ?_;refine UB (jT rfl rfl) rfl ?_;obtain⟨v3,h30,hF⟩:=J hF;refine wq (fun v3 (_:Unit)=>(.int .i64 v3,(cU b0 a0 l2 c1 a1 l1 c0 e0 ai r0 [.obj b1 (.cells [.func (.func 74) #[] #[]] .own)]))) v3 (fun m hm=>?_) ?_;clear hF;revert v3;intro r hF;refine aV (N:=19) (rs:=[.tmp 4]) rfl Tryz.func57 rfl rfl rfl hm ?_;refine ak ?_;refine UE ?_;obtain⟨r4,h5,hF⟩:=J hF;refine ct (fun(r:(Int) ⊕ (Unit)) (g:Unit)=>match r,g with | .inl v18,_=>⟨.ret,[(4,aM v18)],(cU b0 a0 l2 c1 a1 l1 c0 e0 ai r0 [.obj b1 (.cells [.func (.func 74) #[] #[]] .own)])⟩ | .inr _,_=>⟨(.exit 0),[],(cU b0 a0 l2 c1 a1 l1 c0 e0 ai r0 [.obj b1 (.cells [.func (.func 74) #[] #[]] .own)])⟩) r4 ?_ ?_
 refine lo h5 () [0,1,2,3,4] (fun v19 _=>⟨.normal,((1,.func (.func 75) #[] #[ptr b1 0,ptr b0 0])::yZ a1 l1 c0 v19 []),(.obj b1 (.cells [.func (.func 74) #[] #[]] .own)::cU b0 a0 l2 c1 a1 l1 c0 e0 ai r0 [])⟩) ?_;clear hF h5;rintro v19 ⟨⟩ r hF;unfold zN at hF;refine wz ?_;refine UD ?_;rcases U hF with⟨h31,hF⟩|⟨h31,hF⟩;refine ak ?_;obtain⟨h32,hF⟩:=bJ hF;refine UO (k:=3) rfl (ay h32) ?_;rintro b2 o1 rfl;refine wz ?_;obtain⟨⟨l9,l10⟩,h33,hF⟩:=J hF;refine wl 2 0 5 0 h33 ?_;rintro⟨⟨a5,c5⟩,⟨a6,c6,e5⟩⟩;refine wa z31 fun b13=>?_;refine ak ?_;obtain⟨v4,h34,hF⟩:=J hF;refine wq (fun v4 (_:Unit)=>(.bool v4,(eW b0 a0 l2 c1 b2 o1 l1 c0 e0 ai r0 [.obj b1 (.cells [.func (.func 74) #[] #[]] .own)]))) v4 (fun m hm=>?_) ?_;clear hF;revert v4;intro r hF;refine aV (N:=15) (rs:=[.tmp 4]) rfl Tryz.func75 rfl rfl rfl hm ?_;refine wz ?_;refine wb fun b14=>?_;refine ak ?_;rcases U hF with⟨h6,hF⟩|⟨h6,hF⟩;refine ak ?_;cases hF;exact ar () [7,8,5,10,9,6];refine wz ?_;refine US (jT rfl rfl) (gg rfl rfl (hZ h6)) rfl ?_;obtain⟨v0,h35,hF⟩:=J hF;refine UQ (kD (α:=Unit) (V:=fun g=>(fun(r:Bool) (g:Unit)=>match r,g with|v0,_=>(.bool v0:Us)) v0 g) (N:=fun g=>(fun(r:Bool) (g:Unit)=>match r,g with|v0,_=>((eW b0 a0 l2 c1 b2 o1 l1 c0 e0 ai r0 [.obj b1 (.cells [.func (.func 74) #[] #[]] .own)]):List Pc)) v0 g) rfl rfl (fun m hm=>?_)) (gg rfl rfl (hZ h6)) rfl ?_
 clear hF;revert v0;intro r hF;refine aV (N:=20) (rs:=[.tmp 4]) rfl Tryz.func74 rfl rfl rfl hm ?_;refine wz ?_;refine wb fun b15=>?_;refine ak ?_;obtain⟨l3,h36,hF⟩:=J hF;refine xJ gn (fun m hm=>iA h36 m hm.cx (hm.q 3) (hm.no 3) (hm.q 4) (hm.no 4) (hm.dp (q:=5) rfl) (hm.dh (q:=5) rfl)) ?_;rintro⟨a2,c2,n0,e1,r5⟩;refine U6 (k:=0) (q:=1) (L:=l3) rfl (.inr (.inl ⟨_,rfl⟩)) rfl ?_;rintro rfl;refine wz ?_;refine UE ?_;obtain⟨r6,h7,hF⟩:=J hF;refine ct (fun(r:(Unit) ⊕ (Unit)) (g:Unit)=>match r,g with | .inl _,_=>⟨.ret,[(4,.bool true)],(eW b0 a0 l2 c1 b2 o1 l1 c0 e0 ai r0 [.obj b1 (.cells [.func (.func 74) #[] #[]] .own)])⟩ | .inr _,_=>⟨(.exit 0),[],(eW b0 a0 l2 c1 b2 o1 l1 c0 e0 ai r0 [.obj b1 (.cells [.func (.func 74) #[] #[]] .own)])⟩) r6 ?_ ?_
 refine lo h7 () [10,11,8,13,12,0,1,9] (fun v20 _=>⟨.normal,[(1,.func (.func 76) #[] #[ptr b0 0]),(8,bu a2 l3 c2),(9,dF l3),(10,aM v20)],(eW b0 a0 l2 c1 b2 o1 l1 c0 e0 ai r0 (eL a2 c2 l3 e1 aY r5 [.obj b1 (.cells [.func (.func 74) #[] #[]] .own)]))⟩) ?_;clear hF h7;rintro v20 ⟨⟩ r hF;unfold xY at hF;refine wz ?_;refine UD ?_;rcases U hF with⟨h37,hF⟩|⟨h37,hF⟩;refine ak ?_;obtain⟨h38,hF⟩:=bJ hF;refine UO (k:=5) rfl (ay h38) ?_;rintro b6 o4 rfl;refine wz ?_;obtain⟨l11,h39,hF⟩:=J hF;refine wl 1 0 7 0 h39 ?_;rintro⟨a7,c7⟩;refine ak ?_;obtain⟨v5,h40,hF⟩:=J hF;refine wq (fun v5 (_:Unit)=>(.bool v5,(eW b0 a0 l2 c1 b2 o1 l1 c0 e0 ai r0 (.obj b1 (.cells [.func (.func 74) #[] #[]] .own)::iY b6 o4 l3 e1 aY r5 c2 [])))) v5 (fun m hm=>?_) ?_;clear hF;revert v5;intro r hF;refine aV (N:=27) (rs:=[.tmp 5]) rfl Tryz.func76 rfl rfl rfl hm ?_;refine wz ?_;refine UD<|UY (prs:=[(15,17),(15,18)]) (by kernel_rfl)<|UC (aK rfl) rfl<|UC (jd (k:=0) Ir rfl rfl (.inl rfl)) rfl<|UC (aI rfl rfl (gq _ _ _)) rfl<|UC (aK rfl) rfl ?_
 rcases U hF with⟨h1,hF⟩|⟨h1,hF⟩;refine UX (gg rfl rfl (ll h1)) rfl<|UX (gg rfl rfl (ll h1)) rfl<|UX (gg rfl rfl (ll h1)) rfl<|UC (qS rfl h1 rfl) rfl<|UC (aK rfl) rfl<|UX (gg rfl rfl rfl) rfl<|UX (gg rfl rfl rfl) rfl<|UX (gg rfl rfl rfl) rfl<|UC (DC rfl rfl) rfl<|UC (aK rfl) rfl ?_;refine UX (gg rfl rfl rfl) rfl<|UX (gg rfl rfl rfl) rfl<|UX (gg rfl rfl rfl) rfl<|UX (gg rfl rfl rfl) rfl<|UX (gg rfl rfl rfl) rfl<|UX (gg rfl rfl rfl) rfl<|UC (DC rfl rfl) rfl<|UC (bM rfl) rfl<|UT (fun m hm=>cn.all rfl) ?_;refine ak ?_;cases hF;exact ar () [2,3,4,5,6,9,1,8,7];refine UU (aK rfl) (gg rfl rfl (hZ h1)) rfl<|UU (jd (k:=0) Ir rfl rfl (.inl rfl)) (gg rfl rfl (hZ h1)) rfl<|UU (aI rfl rfl (jP _ _ _)) (gg rfl rfl (hZ h1)) rfl<|UC (qT rfl h1 rfl) rfl<|UC (aK rfl) rfl ?_;rcases U hF with⟨h2,hF⟩|⟨h2,hF⟩;refine UX (gg rfl rfl (ll h2)) rfl<|UX (gg rfl rfl (ll h2)) rfl<|UX (gg rfl rfl (ll h2)) rfl<|UC (qS rfl h2 rfl) rfl<|UC (aK rfl) rfl<|UX (gg rfl rfl rfl) rfl<|UX (gg rfl rfl rfl) rfl<|UX (gg rfl rfl rfl) rfl<|UX (gg rfl rfl rfl) rfl<|UX (gg rfl rfl rfl) rfl ?_;refine UX (gg rfl rfl rfl) rfl<|UC (DC rfl rfl) rfl<|UC (bM rfl) rfl<|UT (fun m hm=>cn.all rfl) ?_;refine ak ?_;cases hF;exact ar () [2,3,4,5,6,9,1,8,7];refine UU (aK rfl) (gg rfl rfl (hZ h2)) rfl ?_;obtain⟨r14,h41,hF⟩:=J hF;refine nc (gg rfl rfl (hZ h2)) (fun m hm=>LV h41 m (hm.q 0)) ?_;rintro⟨⟩;refine UU (aI rfl rfl (gq _ _ _)) (gg rfl rfl (hZ h2)) rfl<|UC (qT rfl h2 rfl) rfl<|UC (aK rfl) rfl ?_;rcases U hF with⟨h0,hF⟩|⟨h0,hF⟩;refine UX (gg rfl rfl (ll h0)) rfl<|UX (gg rfl rfl (ll h0)) rfl<|UX (gg rfl rfl (ll h0)) rfl<|UX (gg rfl rfl (ll h0)) rfl<|UX (gg rfl rfl (ll h0)) rfl<|UX (gg rfl rfl (ll h0)) rfl<|UC (qS rfl h0 rfl) rfl<|UC (bM rfl) rfl<|UT (fun m hm=>cn.all rfl) ?_;refine ak ?_;cases hF;exact ar () [2,3,4,5,6,9,1,8,7];refine UU (aK rfl) (gg rfl rfl (hZ h0)) rfl ?_;obtain⟨r15,h42,hF⟩:=J hF;refine nc (gg rfl rfl (hZ h0)) (fun m hm=>Nt h42 m (hm.q 0)) ?_;rintro⟨⟩;refine UU (aL (r:=ptr b0 0) rfl (gO _ _)) (gg rfl rfl (hZ h0)) rfl<|UU (aC (k:=2) p8 rfl rfl rfl) (gg rfl rfl (hZ h0)) rfl<|UU (jd (k:=3) NV rfl rfl (.inl rfl)) (gg rfl rfl (hZ h0)) rfl<|UU (aI rfl rfl (vB _ _ _)) (gg rfl rfl (hZ h0)) rfl<|UC (qT rfl h0 rfl) rfl<|UC (bM rfl) rfl<|UT (fun m hm=>cn.all rfl) ?_;refine ak ?_;cases hF;exact ar () [2,3,4,5,6,9,1,8,7];rintro⟨⟩;refine wz ?_;rcases U hF with⟨h43,hF⟩|⟨h43,hF⟩;refine ak ?_;cases hF;exact ae () (Vd 0 6);refine ak ?_;cases hF;exact ae () [0,1,2,3,4,8,7,5];refine wz ?_;cases hF;exact ae () [0,1,2,3,4,7];rcases r6 with _|_;rintro⟨⟩;refine wz ?_;cases hF;exact ar () (Vd 0 6);rintro⟨⟩;refine dz ?_;cases hF;exact ar () (Vd 0 6);rintro⟨⟩;refine ak ?_;obtain rfl:=R2 hF;exact ar () (Vd 0 6);rintro⟨⟩;refine wz ?_;rcases U hF with⟨h44,hF⟩|⟨h44,hF⟩;refine ak ?_;cases hF;exact ae () [0,1,4,3,5];refine ak ?_;cases hF;exact ae () [5,0,1,4,3];refine wz ?_;cases hF;exact ae () [1,2,3,4,0];rcases r4 with v18|_;rintro⟨⟩;refine wz ?_;obtain rfl:=R2 hF;exact ar () (Vd 0 5);rintro⟨⟩;refine dz ?_;cases hF;exact ar () (Vd 0 5);rintro⟨⟩;refine ak ?_;rcases U hF with⟨h45,hF⟩|⟨h45,hF⟩;refine ak ?_;cases hF;exact ar () [];refine ak ?_;refine UB (jT rfl rfl) rfl ?_;obtain⟨v6,h46,hF⟩:=J hF;refine wq (fun v6 (_:Unit)=>(.int .i64 v6,(cU b0 a0 l2 c1 a1 l1 c0 e0 ai r0 [.obj b1 (.cells [.func (.func 74) #[] #[]] .own)]))) v6 (fun m hm=>?_) ?_;clear hF;revert v6;intro r hF;refine aV (N:=19) (rs:=[.tmp 4]) rfl Tryz.func57 rfl rfl rfl hm ?_;refine ak ?_;refine UE ?_;obtain⟨r7,h8,hF⟩:=J hF;refine ct (fun(r:(Int) ⊕ (Unit)) (g:Unit)=>match r,g with | .inl v21,_=>⟨.ret,[(4,aM v21)],(cU b0 a0 l2 c1 a1 l1 c0 e0 ai r0 [.obj b1 (.cells [.func (.func 74) #[] #[]] .own)])⟩ | .inr _,_=>⟨(.exit 0),[],(cU b0 a0 l2 c1 a1 l1 c0 e0 ai r0 [.obj b1 (.cells [.func (.func 74) #[] #[]] .own)])⟩) r7 ?_ ?_
 refine lo h8 () [4,0,1,2,3] (fun v22 _=>⟨.normal,((1,.func (.func 79) #[] #[ptr b1 0,ptr b0 0])::yZ a1 l1 c0 v22 []),(.obj b1 (.cells [.func (.func 74) #[] #[]] .own)::cU b0 a0 l2 c1 a1 l1 c0 e0 ai r0 [])⟩) ?_;clear hF h8;rintro v22 ⟨⟩ r hF;unfold zO at hF;refine wz ?_;refine UD ?_;rcases U hF with⟨h47,hF⟩|⟨h47,hF⟩;refine ak ?_;obtain⟨h48,hF⟩:=bJ hF;refine UO (k:=3) rfl (ay h48) ?_;rintro b3 o2 rfl;refine wz ?_;obtain⟨⟨l12,l13⟩,h49,hF⟩:=J hF;refine wl 2 0 5 0 h49 ?_;rintro⟨⟨a8,c8⟩,⟨a9,c9,e6⟩⟩;refine wa z31 fun b16=>?_;refine ak ?_;obtain⟨v7,h50,hF⟩:=J hF;refine wq (fun v7 (_:Unit)=>(.bool v7,(eW b0 a0 l2 c1 b3 o2 l1 c0 e0 ai r0 [.obj b1 (.cells [.func (.func 74) #[] #[]] .own)]))) v7 (fun m hm=>?_) ?_;clear hF;revert v7;intro r hF;refine aV (N:=9) (rs:=[.tmp 4]) rfl Tryz.func79 rfl rfl rfl hm ?_;refine wz ?_;refine wb fun b17=>?_;refine ak ?_;refine UB (jT rfl rfl) rfl ?_;obtain⟨v8,h51,hF⟩:=J hF;refine wq (fun v8 (_:Unit)=>(.bool v8,(eW b0 a0 l2 c1 b3 o2 l1 c0 e0 ai r0 [.obj b1 (.cells [.func (.func 74) #[] #[]] .own)]))) v8 (fun m hm=>?_) ?_;clear hF;revert v8;intro r hF;refine aV (N:=20) (rs:=[.tmp 4]) rfl Tryz.func74 rfl rfl rfl hm ?_;refine wz ?_;refine wb fun b18=>?_;refine ak ?_;obtain⟨l4,h52,hF⟩:=J hF;refine xJ gn (fun m hm=>iA h52 m hm.cx (hm.q 3) (hm.no 3) (hm.q 4) (hm.no 4) (hm.dp (q:=5) rfl) (hm.dh (q:=5) rfl)) ?_;rintro⟨a3,c3,n1,e3,r8⟩;refine U6 (k:=0) (q:=1) (L:=l4) rfl (.inr (.inl ⟨_,rfl⟩)) rfl ?_;rintro rfl;refine wz ?_;refine UE ?_;obtain⟨r9,h9,hF⟩:=J hF;refine ct (fun(r:(Unit) ⊕ (Unit)) (g:Unit)=>match r,g with | .inl _,_=>⟨.ret,[(4,.bool true)],(eW b0 a0 l2 c1 b3 o2 l1 c0 e0 ai r0 [.obj b1 (.cells [.func (.func 74) #[] #[]] .own)])⟩ | .inr _,_=>⟨(.exit 0),[],(eW b0 a0 l2 c1 b3 o2 l1 c0 e0 ai r0 [.obj b1 (.cells [.func (.func 74) #[] #[]] .own)])⟩) r9 ?_ ?_
 refine lo h9 () [10,11,8,13,12,0,1,9] (fun v23 _=>⟨.normal,[(1,.func (.func 80) #[] #[ptr b0 0]),(8,bu a3 l4 c3),(9,dF l4),(10,aM v23)],(eW b0 a0 l2 c1 b3 o2 l1 c0 e0 ai r0 (eL a3 c3 l4 e3 aY r8 [.obj b1 (.cells [.func (.func 74) #[] #[]] .own)]))⟩) ?_;clear hF h9;rintro v23 ⟨⟩ r hF;unfold zf at hF;refine wz ?_;refine UD ?_;rcases U hF with⟨h53,hF⟩|⟨h53,hF⟩;refine ak ?_;obtain⟨h54,hF⟩:=bJ hF;refine UO (k:=5) rfl (ay h54) ?_;rintro b7 o5 rfl;refine wz ?_;obtain⟨l14,h55,hF⟩:=J hF;refine wl 1 0 7 0 h55 ?_;rintro⟨a10,c10⟩;refine ak ?_;obtain⟨v9,h56,hF⟩:=J hF;refine wq (fun v9 (_:Unit)=>(.bool v9,(eW b0 a0 l2 c1 b3 o2 l1 c0 e0 ai r0 (.obj b1 (.cells [.func (.func 74) #[] #[]] .own)::iY b7 o5 l4 e3 aY r8 c3 [])))) v9 (fun m hm=>?_) ?_;clear hF;revert v9;intro r hF;refine aV (N:=11) (rs:=[.tmp 5]) rfl Tryz.func80 rfl rfl rfl hm ?_;refine ak ?_;obtain⟨l7,h57,hF⟩:=J hF;refine wc gn (fun m hm=>p6 h57 m (hm.q 3) (hm.q 6) (hm.dp (q:=5) rfl) (hm.q 0)) ?_;rintro⟨a11,n2⟩;refine U5 (k:=0) (xs:=l7) rfl ?_;rintro rfl;obtain⟨r16,h58,hF⟩:=J hF;refine wc gn (fun m hm=>Ma h58 m (hm.rd (k:=0) rfl (.sl _ _ _ _))) ?_;rintro⟨⟩;refine ak ?_;cases hF;exact ar () [3,4,5,6,7,10,2,9,8];rintro⟨⟩;refine wz ?_;rcases U hF with⟨h59,hF⟩|⟨h59,hF⟩;refine ak ?_;cases hF;exact ae () (Vd 0 6);refine ak ?_;cases hF;exact ae () [0,1,2,3,4,8,7,5];refine wz ?_;cases hF;exact ae () [0,1,2,3,4,7];rcases r9 with _|_;rintro⟨⟩;refine wz ?_;cases hF;exact ar () (Vd 0 6);rintro⟨⟩;refine dz ?_;cases hF;exact ar () (Vd 0 6);rintro⟨⟩;refine ak ?_;obtain rfl:=R2 hF;exact ar () (Vd 0 6);rintro⟨⟩;refine wz ?_;rcases U hF with⟨h60,hF⟩|⟨h60,hF⟩;refine ak ?_;cases hF;exact ae () [0,1,4,3,5];refine ak ?_;cases hF;exact ae () [5,0,1,4,3];refine wz ?_;cases hF;exact ae () [1,2,3,4,0];rcases r7 with v21|_;rintro⟨⟩;refine wz ?_;obtain rfl:=R2 hF;exact ar () (Vd 0 5);rintro⟨⟩;refine dz ?_;cases hF;exact ar () (Vd 0 5);rintro⟨⟩;refine ak ?_;rcases U hF with⟨h61,hF⟩|⟨h61,hF⟩;refine ak ?_;cases hF;exact ar () [];refine ak ?_;refine UB (jT rfl rfl) rfl ?_;obtain⟨v10,h62,hF⟩:=J hF;refine wq (fun v10 (_:Unit)=>(.int .i64 v10,(cU b0 a0 l2 c1 a1 l1 c0 e0 ai r0 []))) v10 (fun m hm=>?_) ?_;clear hF;revert v10;intro r hF;refine aV (N:=19) (rs:=[.tmp 4]) rfl Tryz.func57 rfl rfl rfl hm ?_;refine ak ?_;refine UE ?_;obtain⟨r10,h10,hF⟩:=J hF;refine ct (fun(r:(Int) ⊕ (Unit)) (g:Unit)=>match r,g with | .inl v24,_=>⟨.ret,[(4,aM v24)],(cU b0 a0 l2 c1 a1 l1 c0 e0 ai r0 [])⟩ | .inr _,_=>⟨(.exit 0),[],(cU b0 a0 l2 c1 a1 l1 c0 e0 ai r0 [])⟩) r10 ?_ ?_
 refine lo h10 () [4,0,1,2,3] (fun v25 _=>⟨.normal,((1,.func (.func 82) #[] #[ptr b1 0,ptr b0 0])::yZ a1 l1 c0 v25 []),(.obj b1 (.cells [.func (.func 74) #[] #[]] .own)::cU b0 a0 l2 c1 a1 l1 c0 e0 ai r0 [])⟩) ?_;clear hF h10;rintro v25 ⟨⟩ r hF;unfold zB at hF;refine wz ?_;refine UD ?_;rcases U hF with⟨h63,hF⟩|⟨h63,hF⟩;refine ak ?_;obtain⟨h64,hF⟩:=bJ hF;refine UO (k:=3) rfl (ay h64) ?_;rintro b4 o3 rfl;refine wz ?_;obtain⟨⟨l15,l16⟩,h65,hF⟩:=J hF;refine wl 2 0 5 0 h65 ?_;rintro⟨⟨a12,c11⟩,⟨a13,c12,e7⟩⟩;refine wa z31 fun b19=>?_;refine ak ?_;obtain⟨v11,h66,hF⟩:=J hF;refine wq (fun v11 (_:Unit)=>(.bool v11,(eW b0 a0 l2 c1 b4 o3 l1 c0 e0 ai r0 [.obj b1 (.cells [.func (.func 74) #[] #[]] .own)]))) v11 (fun m hm=>?_) ?_;clear hF;revert v11;intro r hF;refine aV (N:=9) (rs:=[.tmp 4]) rfl Tryz.func82 rfl rfl rfl hm ?_;refine wz ?_;refine wb fun b20=>?_;refine ak ?_;refine UB (jT rfl rfl) rfl ?_;obtain⟨v12,h67,hF⟩:=J hF;refine wq (fun v12 (_:Unit)=>(.bool v12,(eW b0 a0 l2 c1 b4 o3 l1 c0 e0 ai r0 [.obj b1 (.cells [.func (.func 74) #[] #[]] .own)]))) v12 (fun m hm=>?_) ?_;clear hF;revert v12;intro r hF;refine aV (N:=20) (rs:=[.tmp 4]) rfl Tryz.func74 rfl rfl rfl hm ?_;refine wz ?_;refine wb fun b21=>?_;refine ak ?_;obtain⟨l5,h68,hF⟩:=J hF;refine xJ gn (fun m hm=>iA h68 m hm.cx (hm.q 3) (hm.no 3) (hm.q 4) (hm.no 4) (hm.dp (q:=5) rfl) (hm.dh (q:=5) rfl)) ?_;rintro⟨a4,c4,n4,e4,r11⟩;refine U6 (k:=0) (q:=1) (L:=l5) rfl (.inr (.inl ⟨_,rfl⟩)) rfl ?_;rintro rfl;refine wz ?_;refine UE ?_;obtain⟨r12,h11,hF⟩:=J hF;refine ct (fun(r:(Unit) ⊕ (Unit)) (g:Unit)=>match r,g with | .inl _,_=>⟨.ret,[(4,.bool true)],(eW b0 a0 l2 c1 b4 o3 l1 c0 e0 ai r0 [.obj b1 (.cells [.func (.func 74) #[] #[]] .own)])⟩ | .inr _,_=>⟨(.exit 0),[],(eW b0 a0 l2 c1 b4 o3 l1 c0 e0 ai r0 [.obj b1 (.cells [.func (.func 74) #[] #[]] .own)])⟩) r12 ?_ ?_
 refine lo h11 () [10,11,8,13,12,0,1,9] (fun v26 _=>⟨.normal,[(1,.func (.func 83) #[] #[ptr b0 0]),(8,bu a4 l5 c4),(9,dF l5),(10,aM v26)],(eW b0 a0 l2 c1 b4 o3 l1 c0 e0 ai r0 (eL a4 c4 l5 e4 aY r11 [.obj b1 (.cells [.func (.func 74) #[] #[]] .own)]))⟩) ?_;clear hF h11;rintro v26 ⟨⟩ r hF;unfold yo at hF;refine wz ?_;refine UD ?_;rcases U hF with⟨h69,hF⟩|⟨h69,hF⟩;refine ak ?_;obtain⟨h70,hF⟩:=bJ hF;refine UO (k:=5) rfl (ay h70) ?_;rintro b8 o6 rfl;refine wz ?_;obtain⟨l17,h71,hF⟩:=J hF;refine wl 1 0 7 0 h71 ?_;rintro⟨a14,c13⟩;refine ak ?_;obtain⟨v13,h72,hF⟩:=J hF;refine wq (fun v13 (_:Unit)=>(.bool v13,(eW b0 a0 l2 c1 b4 o3 l1 c0 e0 ai r0 (.obj b1 (.cells [.func (.func 74) #[] #[]] .own)::iY b8 o6 l5 e4 aY r11 c4 [])))) v13 (fun m hm=>?_) ?_;clear hF;revert v13;intro r hF;refine aV (N:=14) (rs:=[.tmp 5]) rfl Tryz.func83 rfl rfl rfl hm ?_;refine ak ?_;obtain⟨l8,h73,hF⟩:=J hF;refine wc gn (fun m hm=>p6 h73 m (hm.q 3) (hm.q 6) (hm.dp (q:=5) rfl) (hm.q 0)) ?_;rintro⟨a15,n5⟩;refine U5 (k:=0) (xs:=l8) rfl ?_;rintro rfl;obtain⟨r17,h74,hF⟩:=J hF;refine wc gn (fun m hm=>F0 h74 m (hm.rd (k:=0) rfl (.sl _ _ _ _))) ?_;rintro⟨⟩;refine wz ?_;refine UB (aI rfl rfl (Hf u4)) rfl ?_;refine ak ?_;cases hF;exact ar () [3,4,5,6,7,10,2,9,8];rintro⟨⟩;refine wz ?_;rcases U hF with⟨h75,hF⟩|⟨h75,hF⟩;refine ak ?_;cases hF;exact ae () (Vd 0 6);refine ak ?_;cases hF;exact ae () [0,1,2,3,4,8,7,5];refine wz ?_;cases hF;exact ae () [0,1,2,3,4,7];rcases r12 with _|_;rintro⟨⟩;refine wz ?_;cases hF;exact ar () (Vd 0 6);rintro⟨⟩;refine dz ?_;cases hF;exact ar () (Vd 0 6);rintro⟨⟩;refine ak ?_;obtain rfl:=R2 hF;exact ar () (Vd 0 6);rintro⟨⟩;refine wz ?_;rcases U hF with⟨h76,hF⟩|⟨h76,hF⟩;refine ak ?_;cases hF;exact ae () [0,1,4,3];refine ak ?_;cases hF;exact ae () [5,0,1,4,3];refine wz ?_;cases hF;exact ae () [1,2,3,4];rcases r10 with v24|_;rintro⟨⟩;refine wz ?_;obtain rfl:=R2 hF;exact ar () [0,1,2,3];rintro⟨⟩;refine dz ?_;cases hF;exact ar () [0,1,2,3];rintro⟨⟩;refine ak ?_;rcases U hF with⟨h77,hF⟩|⟨h77,hF⟩;refine ak ?_;cases hF;exact ar () [];refine ak ?_;obtain⟨⟨r18,r19⟩,h78,hF⟩:=J hF;refine wc gn (fun m hm=>Nz h78 m (hm.q 1) (hm.q 2) (hm.dp (q:=3) rfl)) ?_;rintro⟨⟩;refine ak ?_;cases hF;exact ar () []
def sj {n l1 l5 a2 c3 a6 c7} {rr8:Ur} {es9:Un} {r} (hF:II n l1 l5=some r) (m) (h4:dm m a2 c3 l1) (h10:fh m a6 c7 l5 es9) (h11:(bU ai rr8 l5 es9).P m):
 aD (Vn p q) 47 [dN a2 l1 c3 a6 l5 c7] m (Vi m (.int .i64 r)):=by
 unfold II at hF;refine cw Tryz.func47 (UZ (UN (UN (UJ m) bP h4) (bC bP) h10) (bC (bC bP)) h11) ?_;refine wz ?_;refine wb fun b12=>?_;refine ak ?_;obtain⟨⟨r14,r15⟩,h13,hF⟩:=J hF;refine wc gn (fun m hm=>Ac h13 m (hm.q 3) (hm.q 2) (hm.dp (q:=1) rfl)) ?_;rintro⟨⟩;refine ak ?_;rcases U hF with⟨h16,hF⟩|⟨h16,hF⟩;refine ak ?_;cases hF;exact ar () [];refine dz ?_;cases hF;exact ar () []
def F1 (n l1 b1 b2 b0) {m0:Vj}: ∀(k:Nat) (x3:Int) (r0:Int),Pw n l1 k () x3=some r0->∀(rest:List Pc) (m:Vj),Hp m0 m (.obj b1 (.cells [.map (some b2)] .own)::.obj b2 (.map (l1.map (eM (fun n:Int=>.int .i64 n) (fun n:Int=>.int .i64 n))))::.obj b0 (.cells [.func (.func 67) #[] #[ptr b1 0,ptr b0 0]] .own)::rest) ->
 aD (Vn (some lX) q) 67 [aM x3,ptr b1 0,ptr b0 0] m (fun v m'=>∃_:Unit,v = .int .i64 r0/\Hp m0 m' (.obj b1 (.cells [.map (some b2)] .own)::.obj b2 (.map (l1.map (eM (fun n:Int=>.int .i64 n) (fun n:Int=>.int .i64 n))))::.obj b0 (.cells [.func (.func 67) #[] #[ptr b1 0,ptr b0 0]] .own)::rest)):=by
 intro k
 induction k with
 | zero=>intro x3 r0 hF; cases hF
 | succ k ih =>
 intro x3 r0 hF rest m hm;replace hF:Mn n (Pw n l1 k) l1 () x3=_:=hF;unfold Mn at hF;refine aV (N:=23) (rs:=[.tmp 4]) rfl Tryz.func67 rfl rfl rfl hm ?_;clear hm;refine ak ?_;obtain⟨⟨y0,y1⟩,h1,hF⟩:=J hF;refine UB (Eu (q:=1) (xs:=l1) (k:=x3) (vE:=(fun n:Int=>.int .i64 n)) (z0:=(0:Int)) NL (Ki u3) z3 rfl rfl rfl rfl h1) rfl ?_;refine wz ?_;refine UD ?_;obtain⟨v0,h2,hF⟩:=J hF;refine ct (fun v0 (_:Unit)=>⟨.normal,[(0,aM x3),(2,ptr b0 0),(5,aM y0),(18,.bool v0)],(.obj b0 (.cells [.func (.func 67) #[] #[ptr b1 0,ptr b0 0]] .own)::.obj b1 (.cells [.map (some b2)] .own)::.obj b2 (.map (l1.map (eM (fun n:Int=>.int .i64 n) (fun n:Int=>.int .i64 n))))::rest)⟩) v0 ?_ ?_;clear hF;revert v0;intro r hF;refine wz ?_;rcases U hF with⟨h3,hF⟩|⟨h3,hF⟩;refine wz ?_;cases hF;exact aT () (aa.lS 3 [2,0,1] rfl rfl rfl);refine wz ?_;cases hF;exact aT () (aa.lS 3 [2,0,1] rfl rfl rfl);rintro⟨⟩;refine UM ?_;rcases U hF with⟨h0,hF⟩|⟨h0,hF⟩;refine U1 rfl h0<|UD<|UG<|UB (aC (k:=0) HW rfl rfl rfl) rfl<|UB (aK rfl) rfl ?_;obtain⟨r1,h4,hF⟩:=J hF;refine UR (aa.lS 3 [1,2,0] rfl rfl rfl)<|UQ (kD (α:=Unit) (V:=fun _=>.int .i64 r1) (N:=fun _=>(.obj b1 (.cells [.map (some b2)] .own)::.obj b2 (.map (l1.map (eM (fun n:Int=>.int .i64 n) (fun n:Int=>.int .i64 n))))::.obj b0 (.cells [.func (.func 67) #[] #[ptr b1 0,ptr b0 0]] .own)::rest)) rfl rfl (fun m hm=>ih y0 r1 h4 rest m hm)) gn rfl fun _=>?_;refine ak ?_;have hr:=R2 hF;subst r0;exact UW (.tmp rfl .nil) fun m' hm=>⟨(),rfl,(aa.lS 3 [0,1,2] rfl rfl rfl) m' hm⟩;refine dz ?_;have hr:=R2 hF;subst r0;exact UW (.tmp rfl .nil) fun m' hm=>⟨(),rfl,(aa.lS 3 [1,2,0] rfl rfl rfl) m' hm⟩
def Ks (hE:EnvOk (Vn (some lX) q)) (n:Nat) (l3:Ul) (l2:Uj) (a0:Uo) (c0:Nat) (a1:Uo) (c1:Nat) (r0:Ur) (e0:Un) (r:(Int × Int × Int × Int × Int) ⊕ (List (Uk) × Ul)) (hF:Me n l3 l2=some r) (m:Vj) (_:dm m a0 c0 l3) (_:fh m a1 c1 l2 e0) (_:(bU ai r0 l2 e0).P m) {R:Us->Vj->Prop} (kR:∀x,r = .inl x->∀m':Vj,Hp m m' []->R (.tuple #[.int .i64 x.1,.int .i64 x.2.1,.int .i64 x.2.2.1,.int .i64 x.2.2.2.1,.int .i64 x.2.2.2.2]) m') (kN:∀x,r = .inr x->∀g:Nat × Uo × Nat × Nat,Vk (Vn (some lX) q) 84 38 none (OV 7 (mc Tryz.f38)) (jo (Vn (some lX) q) [.tmp 2,.tmp 3,.tmp 4,.tmp 5,.tmp 6] R) m ((fun(r:List (Uk) × Ul) (g:Nat × Uo × Nat × Nat)=>match r,g with | (l7,_),(b6,a3,b7,_)=>([(1,ptr b6 0),(5,.int .i64 0),(8,bO a3 l7),(9,ptr b7 0)]:Fs)) x g) ((fun(r:List (Uk) × Ul) (g:Nat × Uo × Nat × Nat)=>match r,g with | (l7,l9),(b6,a3,b7,b8)=>((cU b6 a0 l3 c0 a1 l2 c1 e0 ai r0 [lq a3 l7,ez b7 b8,wI b8 l9]):List Pc)) x g)) :
 Vk (Vn (some lX) q) 84 38 none (mc Tryz.f38) (jo (Vn (some lX) q) [.tmp 2,.tmp 3,.tmp 4,.tmp 5,.tmp 6] R) m (nO [dN a0 l3 c0 a1 l2 c1] 0 []) [gr ai r0 l2 e0,jG a1 c1 l2 e0,gw a0 c0 l3]:=by
 unfold Me at hF;refine Vk.seq hE<|UG<|wb fun b3=>?_;refine UB (bM rfl) rfl<|UB (bM rfl) rfl<|UB (bM rfl) rfl<|UB (bM rfl) rfl<|UB (bM rfl) rfl<|UP<|At.Eo<|Vk.seq hE<|UD<|UG<|UB (aC (k:=0) dA rfl rfl rfl) rfl ?_;obtain⟨r4,h9,hF⟩:=J hF;refine wc gn (fun m hm=>sj h9 m (hm.q 3) (hm.q 2) (hm.dp (q:=1) rfl)) ?_;rintro⟨⟩;refine UB (bM rfl) rfl<|UP<|UM<|UD<|UG<|UB (aK rfl) rfl<|UB (aI rfl rfl (jQ _ _)) rfl<|UP<|UM ?_;rcases U hF with⟨h1,hF⟩|⟨h1,hF⟩;refine U1 rfl h1<|UD<|UG<|UB (aK rfl) rfl<|UB (bM rfl) rfl<|UB (bM rfl) rfl<|UB (bM rfl) rfl<|UB (bM rfl) rfl<|UB (bM rfl) rfl<|UP<|UM<|Wk.ret<|At.tr ?_;cases hF;exact UW (.tmp rfl (.tmp rfl (.tmp rfl (.tmp rfl (.tmp rfl .nil))))) fun m' hm=>kR _ rfl m' (UH [] rfl rfl m' hm);refine Wk.eT rfl h1<|U7<|At.Eo<|Vk.seq hE<|UG<|UB (aC (k:=0) dA rfl rfl rfl) rfl ?_;obtain⟨l1,h10,hF⟩:=J hF;refine wc gn (fun m hm=>H5 n l3 l2 a0 c0 a1 c1 r0 e0 _ h10 m (hm.q 3) (hm.q 2) (hm.dp (q:=1) rfl)) ?_;rintro⟨a2,n0⟩;refine U5 (k:=0) (xs:=l1) rfl ?_;rintro rfl;refine UB (bM rfl) rfl<|UP<|At.Eo<|Vk.seq hE<|UG<|UQ Fk gn rfl fun b2=>?_;refine wa RD fun b0=>?_;refine U8 (dI (k:=0) AW rfl rfl rfl rfl rfl)<|UP<|At.Eo<|Vk.seq hE<|UG<|wa z93 fun b1=>?_;refine UP<|At.Eo<|Vk.seq hE<|UG<|UB (jT rfl rfl) rfl<|U8 (dI (k:=0) HW rfl rfl rfl rfl rfl)<|UP<|At.Eo<|Vk.seq hE<|UD<|UG<|UB (aK rfl) rfl<|UB (jd (k:=3) N7 rfl rfl (.inl rfl)) rfl<|UB (aK rfl) rfl<|UP<|UM<|UE ?_;obtain⟨l8,h2,hF⟩:=J hF;refine ct (fun l8 (_:Unit)=>⟨(.exit 0),[(1,ptr b3 0),(5,.int .i64 0),(8,bO a2 l1),(9,ptr b0 0)],(cU b3 a0 l3 c0 a1 l2 c1 e0 ai r0 [lq a2 l1,ez b0 b2,wI b2 l8])⟩) l8 ?_ ?_;refine lo h2 () [4,7,6,5,3,1,2,0] (fun(l10,v0) _=>⟨.normal,[(1,ptr b3 0),(5,.int .i64 0),(8,bO a2 l1),(9,ptr b0 0),(10,ptr b1 0),(28,bO a2 l1),(29,dF l1),(30,aM v0)],(cU b3 a0 l3 c0 a1 l2 c1 e0 ai r0 [lq a2 l1,ez b0 b2,wI b2 l10,.obj b1 (.cells [.func (.func 67) #[] #[ptr b0 0,ptr b1 0]] .own)])⟩) ?_;clear hF h2;rintro⟨l10,v0⟩ ⟨⟩ r hF;unfold Lk at hF;refine UD<|UG<|UB (aI rfl rfl (gq _ _ _)) rfl<|UP<|UM<|UD ?_;rcases U hF with⟨h3,hF⟩|⟨h3,hF⟩;refine U1 rfl h3<|U7<|UM<|UD<|UE<|UD<|UG ?_;obtain⟨h7,hF⟩:=bJ hF;refine U2 (k:=4) rfl (ay h7) ?_;rintro b5 t0 rfl h20;refine US (mE KW rfl rfl h7) gn rfl ?_;obtain⟨⟨x3,x4,x10,x11⟩,h11,hF⟩:=J hF;refine UB (eD (k:=4) AN rfl rfl (cL h11) rfl rfl) rfl<|wa z64 fun b4=>?_;refine U8 (dI (k:=0) AN rfl rfl rfl rfl rfl)<|UP<|UM<|UD<|UD<|UG<|UB (aL (r:=ptr b4 0) rfl (qd _ _)) rfl<|UB (aC (k:=0) bX rfl rfl rfl) rfl<|UB (aL (r:=ptr b4 1) rfl (qm _ _)) rfl<|UB (aC (k:=0) bX rfl rfl rfl) rfl<|UB (cD rfl z67 rfl (cE Qn rfl rfl rfl)) rfl<|UB (aK rfl) rfl<|UP<|UM<|UE ?_;obtain⟨l4,h4,hF⟩:=J hF;refine ct (fun l4 (_:Unit)=>⟨(.exit 2),[(1,ptr b3 0),(5,.int .i64 0),(8,qW b5 l1),(9,ptr b0 0),(10,ptr b1 0),(12,ptr b4 0),(28,qW b5 l1),(29,dF l1),(30,aM v0)],(cU b3 a0 l3 c0 a1 l2 c1 e0 ai r0 [qY b5 l1 t0,ez b0 b2,wI b2 l4,.obj b1 (.cells [.func (.func 67) #[] #[ptr b0 0,ptr b1 0]] .own),fB b4 x3 x4 x10 x11])⟩) l4 ?_ ?_;refine lo h4 () [1,2,3,4,5,6,7,8,0] (fun(l5,v1) _=>⟨.normal,[(1,ptr b3 0),(5,.int .i64 0),(8,qW b5 l1),(9,ptr b0 0),(10,ptr b1 0),(12,ptr b4 0),(28,qW b5 l1),(29,dF l1),(30,aM v0),(38,fj x3 x4),(39,aM v1)],(cU b3 a0 l3 c0 a1 l2 c1 e0 ai r0 [qY b5 l1 t0,ez b0 b2,wI b2 l5,.obj b1 (.cells [.func (.func 67) #[] #[ptr b0 0,ptr b1 0]] .own),fB b4 x3 x4 x10 x11])⟩) ?_;clear hF h4;rintro⟨l5,v1⟩ ⟨⟩ r hF;unfold KT at hF;refine UD<|UG<|UB (aI rfl rfl (gq _ _ _)) rfl<|UP<|UM<|UD ?_;rcases U hF with⟨h5,hF⟩|⟨h5,hF⟩;refine U1 rfl h5<|U7<|UM<|UD ?_;obtain⟨l6,h12,hF⟩:=J hF;refine ct (fun l6 (_:Unit)=>⟨.normal,[(1,ptr b3 0),(5,.int .i64 0),(8,qW b5 l1),(9,ptr b0 0),(10,ptr b1 0),(12,ptr b4 0),(28,qW b5 l1),(29,dF l1),(30,aM v0),(38,fj x3 x4),(39,aM v1)],(cU b3 a0 l3 c0 a1 l2 c1 e0 ai r0 [qY b5 l1 t0,ez b0 b2,wI b2 l6,.obj b1 (.cells [.func (.func 67) #[] #[ptr b0 0,ptr b1 0]] .own),fB b4 x3 x4 x10 x11])⟩) l6 ?_ ?_;clear hF;revert l6;intro r hF;refine UE<|UD<|UG ?_;obtain⟨h13,hF⟩:=aA hF;obtain⟨x12,h0,hF⟩:=J hF;refine UQ (Bz (α:=Unit) (V:=fun g=>match g with|_=>.int .i64 x12) (N:=fun g=>match g with|_=>[]++(cU b3 a0 l3 c0 a1 l2 c1 e0 ai r0 [qY b5 l1 t0,ez b0 b2,wI b2 l5,.obj b1 (.cells [.func (.func 67) #[] #[ptr b0 0,ptr b1 0]] .own),fB b4 x3 x4 x10 x11])) rfl rfl (fun m hm=>?_)) gn rfl ?_
 have hj:=lG h13;obtain⟨j,h8⟩:∃j:Nat,(v1:Int)=j:=⟨_,(Tg hj.1).symm⟩;rw[h8] at h0 hj ⊢;rw[Ss] at h0 hj;replace hj:=hj.2;clear hF h8
 match j,hj,h0 with
 | 0,_,h0=>cases h0; exact⟨(),pH LY (i:=0) (by decide) (Af bX rfl),hm⟩
 | 1,_,h0=>cases h0; exact⟨(),pH LY (i:=1) (by decide) (Af bX rfl),hm⟩
 | _+2,hj,_=>exact Sl hj (by omega)
 rintro⟨⟩;refine UB (bM rfl) rfl<|UP<|UM<|UD<|UG<|UB (aC (k:=5) AW rfl rfl rfl) rfl<|UB (aK rfl) rfl ?_;obtain⟨⟨y0,y1⟩,h14,hF⟩:=J hF;refine UB (Eu (q:=6) (xs:=l5) (k:=x12) (vE:=(fun n:Int=>.int .i64 n)) (z0:=(0:Int)) NL (Ki u3) z3 rfl rfl rfl rfl h14) rfl<|UB (aK rfl) rfl<|UB (Dz rfl rfl) rfl<|UB (Dz rfl rfl) rfl<|UB (bM rfl) rfl<|UB (bM rfl) rfl<|UP<|UM<|UD<|UG<|UB (aK rfl) rfl<|UB (Bb rfl rfl) rfl<|UP<|UM ?_;rcases U hF with⟨h6,hF⟩|⟨h6,hF⟩;refine U1 rfl h6<|UG<|UB (aC (k:=5) AW rfl rfl rfl) rfl<|UB (aK rfl) rfl<|UB (aK rfl) rfl<|U8 (CS (q:=6) (xs:=l5) (k:=x12) (v:=x12) (vE:=(fun n:Int=>.int .i64 n)) NL (Ki u3) rfl rfl rfl rfl)<|UP<|At.bn ?_;cases hF;exact ae () (Vd 0 9);refine Wk.eT rfl h6<|U7<|At.bn ?_;obtain rfl:=R2 hF;exact ae () (Vd 0 9);rintro⟨⟩;refine UM<|UG<|UB (aI rfl rfl (cg _ _ _)) rfl<|UB (aK rfl) rfl<|UP ?_;cases hF;exact ae () (Vd 0 9);refine Wk.eT rfl h5<|Wk.exit<|At.te ?_;cases hF;exact ae () (Vd 0 9);rintro⟨⟩;refine At.be<|UM<|UY (prs:=[(0,4),(4,5),(4,7),(0,8)]) (by kernel_rfl)<|U0 rfl (aC (k:=5) AW rfl rfl rfl) rfl<|UC (aC (k:=7) HW rfl rfl rfl) rfl<|UC (aL (r:=ptr b4 0) rfl (qd _ _)) rfl<|UC (aC (k:=8) bX rfl rfl rfl) rfl ?_
 obtain⟨r1,h15,hF⟩:=J hF;refine Vb (UH [5,6,7,0,1,2,3,4,8] rfl rfl) ?_;refine Wn.xk (l:=[b0,b1,b4]) (kD (α:=Unit) (V:=fun _=>.int .i64 r1) (N:=fun _=>(ez b0 b2::wI b2 l4::.obj b1 (.cells [.func (.func 67) #[] #[ptr b0 0,ptr b1 0]] .own)::cU b3 a0 l3 c0 a1 l2 c1 e0 ai r0 [qY b5 l1 t0,fB b4 x3 x4 x10 x11])) rfl rfl (fun m hm=>F1 n l4 b0 b2 b1 n x3 r1 h15 ((cU b3 a0 l3 c0 a1 l2 c1 e0 ai r0 [qY b5 l1 t0,fB b4 x3 x4 x10 x11])) m hm)) ⟨⟨_,0,rfl,rfl,fun _=>⟨0,rfl⟩⟩,⟨⟨_,2,rfl,rfl,fun _=>⟨2,rfl⟩⟩,⟨⟨_,8,rfl,rfl,fun _=>⟨8,rfl⟩⟩,trivial⟩⟩⟩ gn rfl fun _=>?_;refine U0 rfl (aC (k:=2) HW rfl rfl rfl) rfl<|UC (aL (r:=ptr b4 1) rfl (qm _ _)) rfl<|U0 rfl (aC (k:=8) bX rfl rfl rfl) rfl ?_;obtain⟨r3,h16,hF⟩:=J hF;refine Vb (UH (Vd 0 9) rfl rfl) ?_;refine Wn.xk (l:=[b0]) (kD (α:=Unit) (V:=fun _=>.int .i64 r3) (N:=fun _=>(ez b0 b2::wI b2 l4::.obj b1 (.cells [.func (.func 67) #[] #[ptr b0 0,ptr b1 0]] .own)::cU b3 a0 l3 c0 a1 l2 c1 e0 ai r0 [qY b5 l1 t0,fB b4 x3 x4 x10 x11])) rfl rfl (fun m hm=>F1 n l4 b0 b2 b1 n x4 r3 h16 ((cU b3 a0 l3 c0 a1 l2 c1 e0 ai r0 [qY b5 l1 t0,fB b4 x3 x4 x10 x11])) m hm)) ⟨⟨_,0,rfl,rfl,fun _=>⟨0,rfl⟩⟩,trivial⟩ gn rfl fun _=>?_;refine U4 (CS (q:=1) (xs:=l4) (k:=r1) (v:=r3) (vE:=(fun n:Int=>.int .i64 n)) NL (Ki u3) rfl rfl rfl rfl) ?_;refine UT (fun m hm=>(by(first|refine cn.rk rfl rfl rfl (by simp) ?_|refine cn.step rfl ?_); exact(by(first|refine cn.kr rfl rfl rfl (by simp) ?_|refine cn.step rfl ?_); exact(by(first|refine cn.kr rfl rfl rfl (by simp) ?_|refine cn.step rfl ?_); exact(by(first|refine cn.rk rfl rfl rfl (by simp) ?_|refine cn.step rfl ?_); exact cn.nil))))) ?_
 refine At.bn<|UM<|UG<|UB (aI rfl rfl (cg _ _ _)) rfl<|UB (aK rfl) rfl<|UP ?_;cases hF;exact aT () (UK (UI (k:=7) rfl) (UH [3,4,5,6,7,0,1,2] rfl rfl));refine Wk.eT rfl h3<|Wk.exit<|At.te ?_;cases hF;exact ae () (Vd 0 7);rintro⟨⟩;refine At.be<|At.Eo ?_;cases hF;exact Vk.Fe (sc rfl (sc rfl (sc rfl (sc rfl sn)))) (UH (Vd 0 7) rfl rfl) (kN _ rfl (b3,a2,b0,b2))
end
section
open Go Go.Ab Go.Ab.W
set_option maxRecDepth 10000
attribute [local irreducible] Tm.at Trie.set Trie.get Vj.get Vj.set Vj.alloc Vj.ww Vj.kill
def je (r:Ul) (S:List Nat):Int:=((S.filterMap fun i=>r[i]?).countP (fun p=>decide (p.1=p.2)):Nat)
def sq {r:Ul} {S:List Nat} {i:Nat} {e:Int × Int} (h:r[i]? = some e):je r (S++[i])=je r S+if e.1=e.2 then 1 else 0:=by
 unfold je;rw[List.filterMap_append,List.countP_append];simp[h,List.countP_cons]
 split<;>rfl
def Hn {r:Ul} {S:List Nat}:0<=je r S/\je r S<=S.length:=by
 unfold je;have h1:=List.countP_le_length (p:=fun p:Int × Int=>decide (p.1=p.2)) (l:=S.filterMap fun i=>r[i]?);have h2:=List.length_filterMap_le (fun i=>r[i]?) S;omega
def yh (r:Ul):je r (List.range r.length)=pa r:=by
 unfold je pa;have:∀(r:Ul),(List.range r.length).filterMap (fun i=>r[i]?)=r:=by
  intro r
  induction r with
  | nil=>rfl
  | cons x r ih =>
   rw[SA,List.range_succ_eq_map,List.filterMap_cons];simp only[Sr,List.filterMap_map]
   congr 1
 rw[this]
def Bh {r:Ul} {S:List Nat} (h:S.Perm (List.range r.length)):je r S=pa r:=by
 rw[<-yh];unfold je;rw[(h.filterMap _).countP_eq]
def FY {x:Int} (h1:0<=x) (h2:x<=1073741825):Ux x=x:=by
 simp only[IntKind.wrap,IntKind.bits,IntKind.signed]
 show(if (true && decide (x%18446744073709551616≥9223372036854775808))=true then x%18446744073709551616-18446744073709551616 else x%18446744073709551616)=x
 simp only[Tv,Sf]
 split<;>omega
abbrev F2:Int × Int->Us × Us:=eM (fun n:Int=>.int .i64 n) (fun n:Int=>.int .i64 n)
abbrev Iv (x:Int × Int × Int × Int × Int):Us:=.tuple #[.int .i64 x.1,.int .i64 x.2.1,.int .i64 x.2.2.1,.int .i64 x.2.2.2.1,.int .i64 x.2.2.2.2]
set_option maxHeartbeats 4000000
def LM {m:Vj} {l1:Ul} {l5:Uj} {a2:Uo} {c3:Nat} {a6:Uo} {c7:Nat} {rr8:Ur} {es9:Un} {l:List fI} {r:Ul} {b:Nat} {a:Uo} {b2 b3:Nat} (hlim:lim r.length=true) {R:Us->Vj->Prop}
  (hR:∀m':Vj,Hp m m' []->R (Iv (r.length,l.length,l5.length,pa r,0)) m') :
  Vk (Vn (some lX) none) 84 38 none (OV 7 (mc Tryz.f38)) (jo (Vn (some lX) none) [.tmp 2,.tmp 3,.tmp 4,.tmp 5,.tmp 6] R) m [(1,ptr b 0),(5,.int .i64 0),(8,.slice a l.length l.length),(9,ptr b2 0)]
   [.obj b (.cells [.slice a2 l1.length c3,.slice a6 l5.length c7] .own),.rd a2 c3 2 l1.length (l1.map (eP (eI .i64) (eI .i64))),.rd a6 c7 2 l5.length es9,.gen (bU ai rr8 l5 es9),.sl a 4 l.length (l.map (eP (eI .i64) (eP (eI .i64) (eP (eI .i64) (eI .i64))))),.obj b2 (.cells [.map (some b3)] .own),.obj b3 (.map (r.map F2))]:=by
 refine Vk.mapRange (E:=Vn (some lX) none) pC (fun h=>h) (γ:=Unit) (kt:=3) (et:=3) ⟨rfl,rfl⟩ ⟨rfl,rfl,rfl⟩ NL ⟨rfl,rfl,rfl⟩ ⟨rfl,rfl,rfl⟩ ⟨rfl,rfl,rfl⟩ rfl (by decide) (by decide) (bm:=b3) (k:=6) (es:=r.map F2)
  (fun t m' hf hm=>yp (k:=5) AW rfl rfl rfl hf hm) rfl
  (fun bi S _=>([(1,ptr b 0),(5,.int .i64 (je r S)),(8,.slice a l.length l.length),(9,ptr b2 0),(65,ptr bi 0)],[]))
  (fun bi S g=>rfl) (fun bi S g p hp=>by cases hp) (fun _=>()) (fun bi=>⟨sc rfl (sc rfl (sc rfl (sc rfl (sc rfl sn)))),fun m1=>UH [] rfl rfl⟩) ?_ ?_
 intro bi m1 S i e a' hS hSl hi he;rw[Sj] at hSl;rw[SM] at he;obtain⟨e,he0,rfl⟩:=T6.1 he;clear he;have hn:S.length<=r.length:=by
  simpa using hS.length_le_of_subset (fun x hx=>TS.2 (hSl x hx):S ⊆ List.range r.length)
 have hc:=Hn (r:=r) (S:=S);have hll:=ov hlim;refine UB (Dz rfl rfl) rfl ?_;refine UB (Dz rfl rfl) rfl ?_;refine UB (bM rfl) rfl ?_;refine UB (bM rfl) rfl ?_;refine UP (Q:=fun _=>_) ?_
 show Wk (Vn (some lX) none) 84 38 none _ _ m1 _ _
 refine UD ?_;refine UG ?_;refine UB (aK rfl) rfl ?_;refine UB (aK rfl) rfl ?_;refine UB (aI rfl rfl (oR _ _ _)) rfl ?_;refine UP ?_;refine UM ?_
 by_cases hk:e.1=e.2
 refine U1 rfl (R3 hk) ?_;refine UG ?_;refine UB (aK rfl) rfl ?_;refine UB (aI rfl rfl (cg _ _ _)) rfl ?_;refine UB (bM rfl) rfl ?_;refine UP (Q:=fun _=>_) ?_;intro t' m' hf hm;refine⟨rfl,(),?_,hm⟩;have e1:Ux (je r S+1)=je r (S++[i]):=by rw[sq he0,R0 hk,FY (by omega) (by omega)]
 rw[<-e1];exact hf.sub (sc rfl (sc rfl (sc rfl (sc rfl (sc rfl sn)))))
 refine Wk.eT rfl (R6 hk) ?_;refine U7 ?_;intro t' m' hf hm;refine⟨rfl,(),?_,hm⟩;have e1:je r S=je r (S++[i]):=by rw[sq he0,RZ hk,Int.add_zero]
 rw[<-e1];exact hf.sub (sc rfl (sc rfl (sc rfl (sc rfl (sc rfl sn)))))
 intro bi S a' hS;rw[Sj] at hS;have hp:=Bh hS;refine Vk.of pC ?_;refine UD ?_;refine Wk.draw (by kernel_rfl) ?_
 refine UB (aC (k:=5) AW rfl rfl rfl) rfl ?_;refine UB (Bk (q:=6) (xs:=r) (f:=F2) NL rfl rfl rfl) rfl ?_;refine UB (aK rfl) rfl ?_;refine UB (jd (k:=4) N7 rfl rfl (.inl rfl)) rfl ?_;refine UB (aL (r:=ptr b 1) rfl (ja _ _)) rfl ?_;refine UB (aC (k:=0) q5 rfl rfl rfl) rfl ?_;refine UB (jd (k:=2) BY rfl rfl (.inl rfl)) rfl ?_;refine UB (aK rfl) rfl ?_;refine UB (bM rfl) rfl ?_;refine UB (bM rfl) rfl ?_;refine UB (bM rfl) rfl ?_;refine UB (bM rfl) rfl ?_;refine UB (bM rfl) rfl ?_;refine UP ?_;refine UM ?_;refine Wk.ret ?_;refine UW (.tmp rfl (.tmp rfl (.tmp rfl (.tmp rfl (.tmp rfl .nil))))) fun m' hm=>?_;have:=hR m' ((UH [] rfl rfl) m' hm);rw[<-hp] at this;exact this
open Classical in
noncomputable def me (args:List Us) (m:Vj):Option (Us × Vj) :=
 match args with
 | [v]=>if h:∃r,∃x:Cx,p5 m v x/\Lc 0 x.1 x.2=some r then some (Iv (Classical.choose h),m) else none
 | _=>none
noncomputable def Ej:Prim:=⟨me⟩
open Classical in
def ue {m m':Vj} {v r:Us} (h:me [v] m=some (r,m')):∃x:Cx,∃y,p5 m v x/\Lc 0 x.1 x.2=some y/\Iv y=r/\m=m':=by
 change dite _ _ _=_ at h
 by_cases hx:∃r,∃x:Cx,p5 m v x/\Lc 0 x.1 x.2=some r
 rw[dif_pos hx] at h;obtain⟨x,h1,h2⟩:=S5 hx;have h3:=R2 h;exact⟨x,_,h1,h2,(Prod.ext_iff.1 h3).1,(Prod.ext_iff.1 h3).2⟩
 rw[dif_neg hx] at h; cases h
open Classical in
def yC {m:Vj} {v:Us} {x:Cx} {r:Int × Int × Int × Int × Int} (h:p5 m v x) (hF:Lc 0 x.1 x.2=some r):me [v] m=some (Iv r,m):=by
 have hx:∃r,∃x:Cx,p5 m v x/\Lc 0 x.1 x.2=some r:=⟨r,x,h,hF⟩
 change dite _ _ _=_
 rw[dif_pos hx];obtain⟨y,h1,h2⟩:=S5 hx;have e1:=h1.uniq h;subst e1;rw[hF] at h2;rw[<-R2 h2]
def wm {args:List Us} {m m':Vj} {v:Us} (h:me args m=some (v,m')) (pr:Bool) {j:aU} {w:Uw} {args':List Us} (hm:MR (Vn (some lX) none) j m w) (hl:LR j args args') :
  gC (Vn (some lX) none).P pr 38 args'.toArray w (jv (Vn (some lX) none) j m w v m'):=by
 have ha:∃v,args = [v]:=by
  unfold me at h
  split at h
  exact⟨_,rfl⟩
  cases h
 obtain⟨va,rfl⟩:=ha;obtain⟨⟨l1,l5⟩,y,⟨a,c,a',c',R,es,rfl,h1,h2,h3⟩,hF,rfl,rfl⟩:=ue h;simp only at h1 h2 h3 hF;unfold Lc at hF;obtain⟨s,hFA,hF⟩:=J hF;have hh1:Rd { m with wl:=m.next} a c 2 l1.length (l1.map vR):=CB h1
 have hh2:Rd { m with wl:=m.next} a' c' 2 l5.length es:=CB h2
 have hh3:(bU ai R l5 es).P { m with wl:=m.next}:=Ll h3
 refine qF (zl (E:=Vn (some lX) none) (c:=mc Tryz.f38) (m0:={ m with wl:=m.next}) (m:={ m with wl:=m.next}) (N:=84) (rs:=[.tmp 2,.tmp 3,.tmp 4,.tmp 5,.tmp 6]) (ps:=[.gen (bU ai R l5 es),.rd a' c' 2 l5.length es,.rd a c 2 l1.length (l1.map vR)]) pC Tryz.func38 rfl rfl rfl ((((UJ _).bl bP hh1).bl (bC bP) hh2).ee (bC (bC bP)) hh3) ?_) pr hm hl
 have hn0:({ m with wl:=m.next}:Vj).next=m.next:=rfl
 have hg:∀m1:Vj,Hp { m with wl:=m.next} m1 []->Grown m m1:=fun m1 hm1=>⟨hm1.ext.next,fun b hb=>(hm1.ext.same b hb).trans E7,by have:=hm1.ext.wl; rw[hn0] at this; exact Sv (T8 (Nat.min_self _).symm) this⟩
 refine Ks pC 100000 l1 l5 a c a' c' R es s hFA _ hh1 hh2 hh3 (fun x hx m1 hm1=>?_) fun x hx g=>?_
 subst hx;cases hF;exact⟨hg m1 hm1,.inl ⟨rfl,rfl,rfl⟩⟩
 subst hx;obtain⟨l,r⟩:=x;obtain⟨hc,hF⟩:=aA hF;cases hF;exact LM hc fun m1 hm1=>⟨hg m1 hm1,.inl ⟨rfl,rfl,rfl⟩⟩
def IX:EnvOk (Vn (some lX) (some Ej)):=sX (E:=Vn (some lX) none) pC (pr:=(Vn (some lX) (some Ej)).cV) fun f P hp=>by
 by_cases e:f=65
 subst e; exact .inl hp
 by_cases e':f=38
 subst e';have hp':some Ej=some P:=hp;cases hp';exact .inr fun args m v m' h j w args' hm hl=>wm h _ hm hl
 refine .inl ?_;have:(Vn (some lX) (some Ej)).cV f=(Vn (some lX) none).cV f:=by
  show(if f=65 then _ else if f=38 then _ else _)=(if f=65 then _ else if f=38 then _ else _)
  rw[RZ e,RZ e',RZ e,RZ e']
 rw[<-this]; exact hp
def L9 (n:Nat) (l1:Ul) (l5:Uj) (a2:Uo) (c3:Nat) (a6:Uo) (c7:Nat) (rr8:Ur) (es9:Un) (r:Int × Int × Int × Int × Int) (hF:Lc n l1 l5=some r) (m:Vj) (h4:Rd m a2 c3 2 l1.length (l1.map vR)) (h10:Rd m a6 c7 2 l5.length es9) (h11:(bU ai rr8 l5 es9).P m) :
  aD (Vn (some lX) (some Ej)) 38 [.agg #[.slice a2 l1.length c3,.slice a6 l5.length c7]] m (Vi m (.tuple #[.int .i64 r.1,.int .i64 r.2.1,.int .i64 r.2.2.1,.int .i64 r.2.2.2.1,.int .i64 r.2.2.2.2])) :=
 aD.cV (p:=Ej) rfl (yC (x:=(l1,l5)) ⟨a2,c3,a6,c7,rr8,es9,rfl,h4,h10,h11⟩ hF) ⟨(),rfl,UJ m⟩
end
section
set_option maxRecDepth 100000
open Go Go.ChangeShapes Go.WideShapes Go.ChangeAt Go.WideMaps Go.WideElems Go.RowKit Go.Ab Go.Ab.W
def O1:laidOutB Tryz.prog=true:=by kernel_rfl
def JB:mapsRowed Tryz.prog=true:=by kernel_rfl
def JD:sizedB Tryz.prog=true:=by kernel_rfl
def DW {H:Type} {enc:Ut × Us->H} {f:FuncId} {fn:Func} {s:ChangeSpec} {W:Uw} {args:Array Us} {ds:List (DataW H)} {before:List MemPlace} {tb:Ut} {fresh handsOn:Bool} {absArgs:List Us} (hpr:(Vn (some lX) (some Ej)).cV f=none)
  (hvars:s.vars = []) (hres:fn.resultTypes.toList = [tb]) (hrs:fn.resultTypes.size=1) (htb:Tryz.prog.underlying tb=some .bool) (hpt:∀t ∈ fn.params.toList,t<Tryz.prog.types.size) (hfn:s.fn H ds = { results:=[.lit (.bool true)],args:=ds,vars:=[]})
  (hW:DataW.Whole enc Tryz.prog fn.params.toList s.vars false W args.toList ds [] before)
  (hl:LR (dW W) absArgs args.toList) (hc:aD (Vn (some lX) (some Ej)) f absArgs (dP W) (fun v m'=>∃_:Unit,v = .bool true/\Hp (dP W) m' [])) :
  Calls Tryz.prog f args W fun e W'=>∃v,e = .returned v/\s.post enc Tryz.prog fn false fresh handsOn false W args v W':=by
 obtain⟨v,m',⟨fuel,hrun⟩,_,rfl,hm'⟩:=hc;have hm:MR (Vn (some lX) (some Ej)) (dW W) (dP W) W:=Lm (S8 _);have hcall:=callsIn_wide.1 (ph IX hrun hpr hm hl);refine hcall.mono fun e W' ⟨v',he,j',sm,hv⟩=>?_;have hv':v' = .bool true:=fR rfl hv;subst hv';have hwl:(dP W).next<=m'.wl:=by
  have h1:=hm'.ext.wl;have h2:min (dP W).wl (dP W).next=(dP W).next:=Nat.min_self _
  omega
 exact⟨_,he,GC O1 JB JD hvars hres hrs htb hpt hfn hW sm.calm (sm.grown hm hwl)⟩
def GY {W:Uw} (h:W.ShapedOpen Tryz.prog):0<W.heap.size:=by
 unfold World.ShapedOpen at h;obtain⟨_,h2⟩:=h;have e:((begin Tryz.prog (fun _ _=>0) default).world).heap.size=Tryz.prog.globals.size+5:=by
  unfold begin; simp only[Array.size_push,Array.size_mapIdx]
 obtain⟨o,o0,h3,_⟩:=h2 Tryz.prog.globals.size (R5 _) (by rw[e]; omega)
 exact Nat.lt_of_le_of_lt (S8 _) (R9.1 h3).1
def QT:Ay Tryz.prog 5 38=some [.int .i64,.int .i64]:=by kernel_rfl
def Qk:Ay Tryz.prog 5 54=some [.int .u8,.int .u8,.int .u8,.int .i64,.int .i64,.int .i64,.int .u8,.int .u8,.int .u8,.int .i64,.int .i64,.int .i64]:=by kernel_rfl
def QB:Ay Tryz.prog 5 51=some [.int .u8,.int .u8,.sl 5,.sl 5,.bool]:=by kernel_rfl
def RB:Ay Tryz.prog 5 5=some [.int .u8]:=by kernel_rfl
def Q9:Ay Tryz.prog 5 73=some [.int .i8]:=by kernel_rfl
def Q0:Ay Tryz.prog 5 72=some [.sl 73]:=by kernel_rfl
def QX:Tryz.prog.underlying 23=some (.slice 38):=by kernel_rfl
def Re:Tryz.prog.underlying 71=some (.slice 72):=by kernel_rfl
def Qw:Tryz.prog.underlying 54=some (.array 2 53):=by kernel_rfl
abbrev OJ (p:Int × Int):Prop:=(-9223372036854775808<=p.1/\p.1<=9223372036854775807)/\(-9223372036854775808<=p.2/\p.2<=9223372036854775807)
section
variable {H : Type} {enc : Ut × Us -> H} {W : Uw} {sp : Nat -> Bool} {held : Bool} {v : Us} {d : DataW H} {p : List MemPlace} {base : Nat}
def HT {P:Uv} {base:Nat} {v:Us} (h:qx enc P W base sp held .bool v):∃b,v = .bool b:=h
def O3:∀(n:Nat) (cs:List Us) (x:DataW H × List MemPlace),DataW.trod enc Tryz.prog W 0 sp held n 38 cs=some x->∃p:Int × Int,cs=eP (eI .i64) (eI .i64) p/\OJ p:=by
 intro n cs x h;obtain⟨v1,cs,rfl,h1,h⟩:=bI (iZ 5 38 _ QT n _ x h);obtain⟨v2,cs,rfl,h2,h⟩:=bI h;obtain rfl:=ki h;obtain⟨a,rfl,ha⟩:=jM h1;obtain⟨b,rfl,hb⟩:=jM h2;exact⟨(a,b),rfl,ha,hb⟩
def OA:∀(n:Nat) (cs:List Us) (x:DataW H × List MemPlace),DataW.trod enc Tryz.prog W 0 sp held n 5 cs=some x->∃p:Nat,cs=eN .u8 p/\p<256:=by
 intro n cs x h;obtain⟨v1,cs,rfl,h1,h⟩:=bI (iZ 5 5 _ RB n _ x h);obtain rfl:=ki h;obtain⟨a,rfl,ha⟩:=kS h1;exact⟨a,rfl,ha⟩
def PQ (hok:Value.okWide Tryz.prog W .any base 23 v) (hs:0<W.heap.size) (h:DataW.Trod enc Tryz.prog W 0 sp held 23 v d p):∃(l:Ul) (a:Uo) (c:Nat),
  VR (dW W) (.slice a l.length c) v/\(∀q ∈ l,OJ q)/\Rd (dP W) a c 2 l.length (l.map (eP (eI .i64) (eI .i64))):=by
 obtain⟨a0,n0,c0,rfl⟩:=okWide_slice QX hok;obtain⟨n,h⟩:=h;have h1:=iZ 5 23 [.sl 38] (by kernel_rfl) n _ _ h
 obtain⟨v1,r,hr,h1,_⟩:=bI h1;cases hr;obtain⟨a,c,l,e1,e2,e3,e4⟩:=A5 (f:=eP (eI .i64) (eI .i64)) (w:=2) (by kernel_rfl) (by omega) hs (fun q=>rfl) O3 h1
 exact⟨l,a,c,e1,e3,e2⟩
def Pp:∀(n:Nat) (cs:List Us) (x:DataW H × List MemPlace),DataW.trod enc Tryz.prog W 0 sp held n 73 cs=some x->∃p:Int,cs=eI .i8 p:=by
 intro n cs x h;obtain⟨v1,cs,rfl,h1,h⟩:=bI (iZ 5 73 _ Q9 n _ x h);obtain rfl:=ki h;obtain⟨a,rfl,_⟩:=h1;exact⟨a,rfl⟩
def Ob (hok:Value.okWide Tryz.prog W .any base 71 v) (hs:0<W.heap.size) (h:DataW.Trod enc Tryz.prog W 0 sp held 71 v d p):∃(l:Um) (a:Uo) (c:Nat) (es:Un),
  VR (dW W) (.slice a l.length c) v/\Rd (dP W) a c 1 l.length es/\(bU (rS (eI .i8) 1) (fun b=>b<W.heap.size) l es).P (dP W):=by
 obtain⟨a0,n0,c0,rfl⟩:=okWide_slice Re hok;obtain⟨n,h⟩:=h;have h1:=iZ 5 71 [.sl 72] (by kernel_rfl) n _ _ h
 obtain⟨v1,r,hr,h1,_⟩:=bI h1;cases hr;obtain⟨a,c,l,e1,_,e2,e3,_⟩:=wT (α:=List Int × (Uo × Nat)) (f:=fun p=>[.slice p.2.1 p.1.length p.2.2]) (R:=fun p=>Rd (dP W) p.2.1 p.2.2 1 p.1.length (p.1.map (eI .i8))/\∀b,j4 p.2.1=some b->b<W.heap.size) (w:=1) (by kernel_rfl) (by omega) hs (fun n cs x hx=>by
  obtain⟨v2,cs,rfl,h2,h3⟩:=bI (iZ 5 72 _ Q0 n _ x hx);obtain rfl:=ki h3;obtain⟨a,c,l,g1,g2,g3,_,_⟩:=wT (α:=Int) (f:=eI .i8) (R:=fun _=>True) (w:=1) (by kernel_rfl) (by omega) hs (fun n cs x hx=>by
   obtain⟨q,rfl⟩:=Pp n cs x hx;exact⟨q,by show[Ab.seen _ _]=_; rw[oA rfl]; rfl,trivial⟩) h2
  exact⟨(l,a,c),by show[Ab.seen _ _]=_; rw[g1],g3,g2⟩) h1
 refine⟨l.map Prod.fst,a,c,l.map fun p=>[.slice p.2.1 p.1.length p.2.2],?_,?_,⟨?_,fun i x hi=>?_⟩,fun b hb=>hb⟩
 rw[Sj,<-e1]; exact wg _ _
 rw[Sj]; exact e2
 rw[Sj,Sj]
 rw[SM] at hi ⊢;obtain⟨q,hq,rfl⟩:=T6.1 hi;have:=e3 q (Sa hq);exact⟨q.2,by rw[hq]; rfl,this.1,this.2⟩
def PS (hok:Value.okWide Tryz.prog W .any base 51 v) (hs:0<W.heap.size) (h:DataW.Trod enc Tryz.prog W 0 sp held 51 v d p):∃(x1 x2:Nat) (l3 l4:List Nat) (x5:Bool) (a3:Uo) (c3:Nat) (a4:Uo) (c4:Nat),
  VR (dW W) (.agg #[.int .u8 ((x1:Nat):Int),.int .u8 ((x2:Nat):Int),.slice a3 l3.length c3,.slice a4 l4.length c4,.bool x5]) v/\x1<256/\x2<256/\(∀q ∈ l3,q<256)/\(∀q ∈ l4,q<256)/\Rd (dP W) a3 c3 1 l3.length (l3.map (eN .u8))/\Rd (dP W) a4 c4 1 l4.length (l4.map (eN .u8)):=by
 obtain⟨cs,rfl,_⟩:=okWide_struct (t:=51) (fs:=Tryz.prog.underlying 51 |>.elim #[] fun u=>match u with | .struct fs=>fs|_=>#[]) (by kernel_rfl) hok
 obtain⟨n,h⟩:=h;obtain⟨v1,r,hr,h1,h⟩:=bI (rT QB h);obtain⟨v2,r,rfl,h2,h⟩:=bI h;obtain⟨v3,r,rfl,h3,h⟩:=bI h;obtain⟨v4,r,rfl,h4,h⟩:=bI h;obtain⟨v5,r,rfl,h5,h⟩:=bI h;obtain rfl:=ki h;obtain⟨x1,rfl,g1⟩:=kS h1;obtain⟨x2,rfl,g2⟩:=kS h2;obtain⟨a3,c3,l3,e1,e2,e3,e4⟩:=A5 (f:=eN .u8) (w:=1) (by kernel_rfl) (by omega) hs (fun q=>rfl) OA h3
 obtain⟨a4,c4,l4,f1,f2,f3,f4⟩:=A5 (f:=eN .u8) (w:=1) (by kernel_rfl) (by omega) hs (fun q=>rfl) OA h4
 obtain⟨x5,rfl⟩:=HT h5;refine⟨x1,x2,l3,l4,x5,a3,c3,a4,c4,?_,g1,g2,e3,f3,e2,f2⟩;refine Hw (l:=[.int .u8 ((x1:Nat):Int),.int .u8 ((x2:Nat):Int),.slice a3 l3.length c3,.slice a4 l4.length c4,.bool x5]) ?_;rw[hr];exact .cons (.int _ _) (.cons (.int _ _) (.cons e1 (.cons f1 (LR.plain rfl))))
def OH (hok:Value.okWide Tryz.prog W .any base 54 v) (h:DataW.Trod enc Tryz.prog W 0 sp held 54 v d p):∃(x1 x2 x3:Nat) (x4 x5 x6:Int) (x7 x8 x9:Nat) (x10 x11 x12:Int),
  VR (dW W) (.agg #[.int .u8 ((x1:Nat):Int),.int .u8 ((x2:Nat):Int),.int .u8 ((x3:Nat):Int),.int .i64 x4,.int .i64 x5,.int .i64 x6,.int .u8 ((x7:Nat):Int),.int .u8 ((x8:Nat):Int),.int .u8 ((x9:Nat):Int),.int .i64 x10,.int .i64 x11,.int .i64 x12]) v /\
   (x2<256/\x3<256)/\(x8<256/\x9<256):=by
 obtain⟨cs,rfl,_⟩:=xo Qw hok;obtain⟨n,h⟩:=h;obtain⟨v1,r,hr,h1,h⟩:=bI (rT Qk h);obtain⟨v2,r,rfl,h2,h⟩:=bI h;obtain⟨v3,r,rfl,h3,h⟩:=bI h;obtain⟨v4,r,rfl,h4,h⟩:=bI h;obtain⟨v5,r,rfl,h5,h⟩:=bI h;obtain⟨v6,r,rfl,h6,h⟩:=bI h;obtain⟨v7,r,rfl,h7,h⟩:=bI h;obtain⟨v8,r,rfl,h8,h⟩:=bI h;obtain⟨v9,r,rfl,h9,h⟩:=bI h;obtain⟨v10,r,rfl,h10,h⟩:=bI h;obtain⟨v11,r,rfl,h11,h⟩:=bI h;obtain⟨v12,r,rfl,h12,h⟩:=bI h;obtain rfl:=ki h;obtain⟨x1,rfl,g1⟩:=kS h1;obtain⟨x2,rfl,g2⟩:=kS h2;obtain⟨x3,rfl,g3⟩:=kS h3;obtain⟨x4,rfl,_⟩:=jM h4;obtain⟨x5,rfl,_⟩:=jM h5;obtain⟨x6,rfl,_⟩:=jM h6;obtain⟨x7,rfl,g7⟩:=kS h7;obtain⟨x8,rfl,g8⟩:=kS h8;obtain⟨x9,rfl,g9⟩:=kS h9;obtain⟨x10,rfl,_⟩:=jM h10;obtain⟨x11,rfl,_⟩:=jM h11;obtain⟨x12,rfl,_⟩:=jM h12;refine⟨x1,x2,x3,x4,x5,x6,x7,x8,x9,x10,x11,x12,?_,⟨g2,g3⟩,⟨g8,g9⟩⟩;refine Hw (l:=[.int .u8 ((x1:Nat):Int),.int .u8 ((x2:Nat):Int),.int .u8 ((x3:Nat):Int),.int .i64 x4,.int .i64 x5,.int .i64 x6,.int .u8 ((x7:Nat):Int),.int .u8 ((x8:Nat):Int),.int .u8 ((x9:Nat):Int),.int .i64 x10,.int .i64 x11,.int .i64 x12]) ?_;rw[hr];exact LR.plain rfl
end
end
section
open Go Go.Ab Go.Ab.W
def uN (n:Nat) (l1:Um):(Um × Int)->Option ((Um × Int) ⊕ (Um)):=fun(l3,v0) =>
br (decide (v0<((Ve l1 10).length:Int))) (
gd (bw v0 ((Ve l1 10).length)) (
ob ((Ve l1 10)[v0.toNat]?) fun l2 =>
gd (okB 0 (mi (l2.length:Int) (42:Int)) l2.length) (
ob (zV n (Ve l2 42)) fun l4 =>
gd (lim (l3++([l4]:Um)).length) (
some (.inl ((l3++([l4]:Um)),Ux (v0+1))))))) (
some (.inr l3))
def uX (n:Nat) (l1:Uj):(Uj × Int)->Option ((Uj × Int) ⊕ (Uj)):=fun(l3,v0) =>
br (decide (v0<((Ve l1 66).length:Int))) (
gd (bw v0 ((Ve l1 66).length)) (
ob ((Ve l1 66)[v0.toNat]?) fun(l2,l4) =>
gd (okB 0 (mi (l2.length:Int) (42:Int)) l2.length) (
ob (zV n (Ve l2 42)) fun l5 =>
gd (okB 0 (mi (l4.length:Int) (10:Int)) l4.length) (
ob (
bg (uN n l4) n (([]:Um),0)) fun l6 =>
gd (lim (l3++([(l5,l6)]:Uj)).length) (
some (.inl ((l3++([(l5,l6)]:Uj)),Ux (v0+1)))))))) (
some (.inr l3))
def NO (n:Nat) (l1:Ul) (l2:Uj):Option (Ul × Uj) :=
gd (okB 0 (mi (l1.length:Int) (125:Int)) l1.length) (
ob (KB n (Ve l1 125)) fun l3 =>
gd (okB 0 (mi (l2.length:Int) (66:Int)) l2.length) (
ob (
bg (uX n l2) n (([]:Uj),0)) fun l4 =>
some (l3,l4)))
def NK (_:Nat) (l:List Int) (i j:Int):Option (List Int):=gd (decide (0<l.length) && decide (0<=i) && decide (i<=j) && decide (j<=(l.length:Int)) && lim l.length) (some (l.take i.toNat++l.drop j.toNat))
def Q2 (_:Nat) (l:Uj) (i j:Int):Option (Uj):=gd (decide (0<l.length) && decide (0<=i) && decide (i<j) && decide (j<=(l.length:Int)) && lim l.length) (some (l.take i.toNat++l.drop j.toNat))
def MS (_:Nat) (l:List Int) (i:Int) (vs:List Int):Option (List Int):=gd (decide (0<=i) && decide (i<=(l.length:Int)) && lim l.length) (some (l.take i.toNat++(vs++l.drop i.toNat)))
def rM (_:Nat) (l2:List Int):(List (Int) × Int × Int)->Option ((List (Int) × Int × Int) ⊕ (List (Int))):=fun(l1,v0,v1) =>
br (decide (v0<v1)) (
gd (bw v1 l2.length) (
ob (l1[v1.toNat]?) fun x3 =>
gd (bw v0 l2.length) (
ob (l1[v0.toNat]?) fun x4 =>
gd (bw v0 l2.length) (
gd (bw v1 l2.length) (
ob ((l1.set v0.toNat x3)[v1.toNat]?) fun _ =>
some (.inl (((l1.set v0.toNat x3).set v1.toNat x4),Ux (v0+1),Ux (v1-1)))))))) (
some (.inr l1))
def HJ (_:Nat) (l2:List Int):(List (Int) × Int × Int)->Option ((List (Int) × Int × Int) ⊕ (List (Int))):=fun(l1,v0,v1) =>
br (decide (v0<v1)) (
gd (bw v1 l2.length) (
ob (l1[v1.toNat]?) fun x3 =>
gd (bw v0 l2.length) (
ob (l1[v0.toNat]?) fun x4 =>
gd (bw v0 l2.length) (
gd (bw v1 l2.length) (
ob ((l1.set v0.toNat x3)[v1.toNat]?) fun _ =>
some (.inl (((l1.set v0.toNat x3).set v1.toNat x4),Ux (v0+1),Ux (v1-1)))))))) (
some (.inr l1))
def sv (n:Nat) (x3:Nat) (l3:List Int):Um->Option ((Um) ⊕ (Um)):=fun l1 =>
br (decide ((l1.length:Int)<Ux (8+(Ux ((x3%2:Nat):Int))))) (
ob (zV n l3) fun l2 =>
gd (lim (l1++([l2]:Um)).length) (
some (.inl (l1++([l2]:Um))))) (
some (.inr l1))
def C3 (n:Nat) (x1:Nat) (x2:Nat) (x3:Nat) (x4:Int) (x5:Int) (x6:Int) (l13:Ul) (l14:Uj):Option (Ul × Uj) :=
ob (NO n l13 l14) fun(l2,l1) =>
ob (
br (decide ((l2.length:Int)=0)) (
some true) (
some (decide ((l1.length:Int)=0)))) fun v0 =>
br (v0) (
some (l2,l1)) (
gd (decide ((l2.length:Int)≠0)) (
gd (decide ((l1.length:Int)≠0)) (
gd (bw (Int.tmod (Ux ((x2:Nat):Int)) (l1.length:Int)) l1.length) (
ob (l1[(Int.tmod (Ux ((x2:Nat):Int)) (l1.length:Int)).toNat]?) fun(l3,l4) =>
ob (
br (decide (x1%14=0)) (
gd (bw (Int.tmod (Ux ((x2:Nat):Int)) (l2.length:Int)) l2.length) (
ob (l2[(Int.tmod (Ux ((x2:Nat):Int)) (l2.length:Int)).toNat]?) fun(_,_) =>
some ((l2.set ((Int.tmod (Ux ((x2:Nat):Int)) (l2.length:Int)).toNat) (x5,x6)),l2.length,l1.length,(l1.set ((Int.tmod (Ux ((x2:Nat):Int)) (l1.length:Int)).toNat) (l3,l4))))) (
br (decide (x1%14=1)) (
gd (decide ((l2.length:Int)≠0)) (
gd (bw (Int.tmod (Ux ((x3:Nat):Int)) (l2.length:Int)) l2.length) (
ob (l2[(Int.tmod (Ux ((x3:Nat):Int)) (l2.length:Int)).toNat]?) fun(x10,x11) =>
gd (bw (Int.tmod (Ux ((x2:Nat):Int)) (l2.length:Int)) l2.length) (
ob (l2[(Int.tmod (Ux ((x2:Nat):Int)) (l2.length:Int)).toNat]?) fun(_,_) =>
some ((l2.set ((Int.tmod (Ux ((x2:Nat):Int)) (l2.length:Int)).toNat) (x10,x11)),l2.length,l1.length,(l1.set ((Int.tmod (Ux ((x2:Nat):Int)) (l1.length:Int)).toNat) (l3,l4))))))) (
br (decide (x1%14=2)) (
gd (lim (l2++[(x5,x6)]).length) (
some ((l2++[(x5,x6)]),(l2++[(x5,x6)]).length,l1.length,(l1.set ((Int.tmod (Ux ((x2:Nat):Int)) (l1.length:Int)).toNat) (l3,l4))))) (
br (decide (x1%14=3)) (
gd (okB 0 (Int.tmod (Ux ((x2:Nat):Int)) (l2.length:Int)) l2.length) (
gd (decide (0<l2.length)) (
ob (some (l2.take (Int.tmod (Ux ((x2:Nat):Int)) (l2.length:Int):Int).toNat)) fun l9 =>
some (l9,l9.length,l1.length,(l1.set ((Int.tmod (Ux ((x2:Nat):Int)) (l1.length:Int)).toNat) (l3,l4)))))) (
br (decide (x1%14=4)) (
ob (NO n l2 l1) fun(_,l10) =>
gd (decide ((l1.length:Int)≠0)) (
gd (bw (Int.tmod (Ux ((x3:Nat):Int)) (l1.length:Int)) l10.length) (
ob (l10[(Int.tmod (Ux ((x3:Nat):Int)) (l1.length:Int)).toNat]?) fun(l6,l7) =>
gd (lim (l1++([(l6,l7)]:Uj)).length) (
some (l2,l2.length,(l1++([(l6,l7)]:Uj)).length,(l1++([(l6,l7)]:Uj))))))) (
br (decide (x1%14=5)) (
gd (decide ((l1.length:Int)≠0)) (
gd (decide ((l1.length:Int)≠0)) (
ob (some (Ux ((Int.tmod (Ux ((x2:Nat):Int)) (l1.length:Int))+1))) fun y1 =>
ob (Q2 n l1 (Int.tmod (Ux ((x2:Nat):Int)) (l1.length:Int)) y1) fun l11 =>
some (l2,l2.length,l11.length,l11)))) (
br (decide (x1%14=6)) (
br (decide (0<(l3.length:Int))) (
gd (decide ((l3.length:Int)≠0)) (
gd (bw (Int.tmod (Ux ((x3:Nat):Int)) (l3.length:Int)) l3.length) (
ob (l3[(Int.tmod (Ux ((x3:Nat):Int)) (l3.length:Int)).toNat]?) fun _ =>
some (l2,l2.length,l1.length,(l1.set ((Int.tmod (Ux ((x2:Nat):Int)) (l1.length:Int)).toNat) ((l3.set ((Int.tmod (Ux ((x3:Nat):Int)) (l3.length:Int)).toNat) x4),l4)))))) (
some (l2,l2.length,l1.length,(l1.set ((Int.tmod (Ux ((x2:Nat):Int)) (l1.length:Int)).toNat) (l3,l4))))) (
br (decide (x1%14=7)) (
ob (
ob (
bg (rM n l3) n (l3,0,Ux ((l3.length:Int)-1))) fun l15 =>
some (l1.set ((Int.tmod (Ux ((x2:Nat):Int)) (l1.length:Int)).toNat) (l15,l4))) fun l16 =>
some (l2,l2.length,l1.length,l16)) (
br (decide (x1%14=8)) (
some (l2,l2.length,l1.length,(l1.set ((Int.tmod (Ux ((x2:Nat):Int)) (l1.length:Int)).toNat) (l3,[])))) (
br (decide (x1%14=9)) (
gd (decide ((l1.length:Int)≠0)) (
gd (bw (Int.tmod (Ux ((x3:Nat):Int)) (l1.length:Int)) l1.length) (
ob (l1[(Int.tmod (Ux ((x3:Nat):Int)) (l1.length:Int)).toNat]?) fun(l17,_) =>
ob (zV n l17) fun l5 =>
gd (lim (l4++([l5]:Um)).length) (
ob (some (Ux (((l4++([l5]:Um)).length:Int)-1))) fun y0 =>
gd (bw y0 ((l4++([l5]:Um)).length)) (
ob ((l4++([l5]:Um))[y0.toNat]?) fun l8 =>
ob (
ob (
bg (HJ n l8) n (l8,0,Ux ((l8.length:Int)-1))) fun l18 =>
some (l1.set ((Int.tmod (Ux ((x2:Nat):Int)) (l1.length:Int)).toNat) (l3,((l4++([l5]:Um)).set y0.toNat l18)))) fun l19 =>
some (l2,l2.length,l1.length,l19)))))) (
br (decide (x1%14=10)) (
br (decide (0<(l3.length:Int))) (
gd (decide ((l3.length:Int)≠0)) (
gd (decide ((l3.length:Int)≠0)) (
ob (some (Ux ((Int.tmod (Ux ((x3:Nat):Int)) (l3.length:Int))+1))) fun y2 =>
ob (NK n l3 (Int.tmod (Ux ((x3:Nat):Int)) (l3.length:Int)) y2) fun l20 =>
some (l2,l2.length,l1.length,(l1.set ((Int.tmod (Ux ((x2:Nat):Int)) (l1.length:Int)).toNat) (l20,l4)))))) (
some (l2,l2.length,l1.length,(l1.set ((Int.tmod (Ux ((x2:Nat):Int)) (l1.length:Int)).toNat) (l3,l4))))) (
br (decide (x1%14=11)) (
gd (decide (Ux ((l3.length:Int)+1)≠0)) (
ob (some (Int.tmod (Ux ((x3:Nat):Int)) (Ux ((l3.length:Int)+1)))) fun y3 =>
gd (decide ((l2.length:Int)≠0)) (
ob (MS n l3 y3 ([Int.tmod (GQ .i64 x4 127) (l2.length:Int)])) fun l21 =>
some (l2,l2.length,l1.length,(l1.set ((Int.tmod (Ux ((x2:Nat):Int)) (l1.length:Int)).toNat) (l21,l4)))))) (
br (decide (x1%14=12)) (
br (decide (0<(l3.length:Int))) (
gd (decide ((l3.length:Int)≠0)) (
gd (okB (Int.tmod (Ux ((x3:Nat):Int)) (l3.length:Int)) (l3.length:Int) l3.length) (
ob (zV n ((l3.drop (Int.tmod (Ux ((x3:Nat):Int)) (l3.length:Int):Int).toNat).take (((l3.length:Int):Int).toNat-(Int.tmod (Ux ((x3:Nat):Int)) (l3.length:Int):Int).toNat))) fun l12 =>
gd (decide ((l3.length:Int)≠0)) (
gd (okB 0 (Int.tmod (Ux ((x3:Nat):Int)) (l3.length:Int)) l3.length) (
gd (lim (l12++((l3.drop Uy).take ((Int.tmod (Ux ((x3:Nat):Int)) (l3.length:Int):Int).toNat-Uy))).length) (
some (l2,l2.length,l1.length,(l1.set ((Int.tmod (Ux ((x2:Nat):Int)) (l1.length:Int)).toNat) ((l12++((l3.drop Uy).take ((Int.tmod (Ux ((x3:Nat):Int)) (l3.length:Int):Int).toNat-Uy))),l4))))))))) (
some (l2,l2.length,l1.length,(l1.set ((Int.tmod (Ux ((x2:Nat):Int)) (l1.length:Int)).toNat) (l3,l4))))) (
ob (
bg (sv n x3 l3) n l4) fun l22 =>
some (l2,l2.length,l1.length,(l1.set ((Int.tmod (Ux ((x2:Nat):Int)) (l1.length:Int)).toNat) (l3,l22))))))))))))))))) fun(l23,_,_,l24) =>
some (l23,l24)))))
def JK (_:Nat) (l1:List (Nat)) (x5:Int):Option (Int) :=
br (decide ((l1.length:Int)=0)) (
some 0) (
gd (decide ((l1.length:Int)≠0)) (
gd (bw (Int.tmod x5 (l1.length:Int)) l1.length) (
ob (l1[(Int.tmod x5 (l1.length:Int)).toNat]?) fun x11 =>
some (Ux ((x11:Nat):Int)))))
def vp (n:Nat) (v3:Int) (v2:Int) (l2:List (Nat)):(Ul × Int × Int)->Option ((Ul × Int × Int) ⊕ (Ul)):=fun(l1,v0,v1) =>
br (decide (v1<=v3)) (
gd (lim (l1++[(v0,v2)]).length) (
ob (JK n l2 v1) fun r0 =>
some (.inl ((l1++[(v0,v2)]),Ux ((Ux (v0+1))+(Int.tmod r0 5)),Ux (v1+1))))) (
some (.inr l1))
def u0 (n:Nat) (v2:Int) (v3:Int) (l1:List (Nat)):(Ul × Int × Int)->Option ((Ul × Int × Int) ⊕ (Ul)):=fun(l2,v1,v0) =>
br (decide (v0<=v2)) (
ob (
bg (vp n v3 v1 l1) n (l2,0,0)) fun l3 =>
ob (JK n l1 (Ux (7+v0))) fun r0 =>
some (.inl (l3,Ux ((Ux (v1+1))+(Int.tmod r0 5)),Ux (v0+1)))) (
some (.inr l2))
def sY (n:Nat) (v0:Int) (v2:Int) (l2:List (Nat)):(Uj × Int)->Option ((Uj × Int) ⊕ (Uj)):=fun(l1,v1) =>
br (decide (v1<v0)) (
ob (
ob (some (Ux ((Ux (v2*(Ux (v0+1))))+v1))) fun y0 =>
ob (JK n l2 (Ux ((Ux (v2*v0))+v1))) fun r0 =>
br (decide (Int.tmod r0 8=0)) (
ob (some (Ux ((Ux ((Ux (y0+v0))+1))+1))) fun y1 =>
ob (some (Ux ((Ux ((Ux (y0+v0))+1))+1))) fun y2 =>
gd (lim (l1++([([y0,Ux (y0+1),y1],[]),([y0,y2,Ux ((Ux (y0+v0))+1)],[])]:Uj)).length) (
some (l1++([([y0,Ux (y0+1),y1],[]),([y0,y2,Ux ((Ux (y0+v0))+1)],[])]:Uj)))) (
br (decide (Int.tmod r0 8=1)) (
br (decide (0<(l1.length:Int))) (
some l1) (
ob (some (Ux ((Ux ((Ux (y0+v0))+1))+1))) fun y3 =>
gd (lim (l1++([([y3,Ux ((Ux (y0+v0))+1),y0,Ux (y0+1)],[])]:Uj)).length) (
some (l1++([([y3,Ux ((Ux (y0+v0))+1),y0,Ux (y0+1)],[])]:Uj))))) (
ob (some (Ux ((Ux ((Ux (y0+v0))+1))+1))) fun y4 =>
gd (lim (l1++([([y0,Ux (y0+1),y4,Ux ((Ux (y0+v0))+1)],[])]:Uj)).length) (
some (l1++([([y0,Ux (y0+1),y4,Ux ((Ux (y0+v0))+1)],[])]:Uj)))))) fun l3 =>
some (.inl (l3,Ux (v1+1)))) (
some (.inr l1))
def uP (n:Nat) (v1:Int) (v2:Int) (l2:List (Nat)):(Uj × Int)->Option ((Uj × Int) ⊕ (Uj)):=fun(l1,v0) =>
br (decide (v0<v1)) (
ob (
bg (sY n v2 v0 l2) n (l1,0)) fun l3 =>
some (.inl (l3,Ux (v0+1)))) (
some (.inr l1))
def N3 (n:Nat) (x1:Nat) (x2:Nat) (l1:List (Nat)) (l3:List (Nat)) (x3:Bool):Option (Ul × Uj) :=
ob (
br (x3) (
some (3,3)) (
some (Ux (1+(Ux ((x1%4:Nat):Int))),Ux (1+(Ux ((x2%3:Nat):Int)))))) fun(v0,v1) =>
ob (
bg (u0 n v1 v0 l3) n (([]:Ul),0,0)) fun l2 =>
br (x3) (
gd (lim (([]:Uj)++([([0,1,2,3,7,11,15,14,13,12,8,4],[[5,9,10,6]])]:Uj)).length) (
ob (
ob (JK n l1 0) fun r0 =>
br (decide (Int.tmod r0 2=0)) (
gd (lim ((([]:Uj)++([([0,1,2,3,7,11,15,14,13,12,8,4],[[5,9,10,6]])]:Uj))++([([5,6,10,9],[])]:Uj)).length) (
some ((([]:Uj)++([([0,1,2,3,7,11,15,14,13,12,8,4],[[5,9,10,6]])]:Uj))++([([5,6,10,9],[])]:Uj)))) (
some (([]:Uj)++([([0,1,2,3,7,11,15,14,13,12,8,4],[[5,9,10,6]])]:Uj)))) fun l4 =>
some (l2,l4))) (
ob (
bg (uP n v1 v0 l1) n (([]:Uj),0)) fun l5 =>
some (l2,l5))
def PM (n:Nat) (x1:Nat) (x2:Nat) (l3:List (Nat)) (l8:List (Nat)) (x13:Bool) (x14:Nat) (x15:Nat) (x16:Nat) (x17:Int) (x18:Int) (x19:Int) (x20:Nat) (x21:Nat) (x22:Nat) (x23:Int) (x24:Int) (x25:Int):Option (Ul × Uj × Ul × Uj × Ul × Uj) :=
ob (N3 n x1 x2 l3 l8 x13) fun(l30,l34) =>
ob (C3 n x14 x15 x16 x17 x18 x19 l30 l34) fun(l42,l46) =>
ob (C3 n x20 x21 x22 x23 x24 x25 l42 l46) fun(l54,l58) =>
some (l30,l34,l42,l46,l54,l58)
def NS (_:Nat) (x1:Int) (x2:Int):Option (Bool) :=
br (decide (x1 < -1000000)) (
some true) (
br (decide (1000000<x1)) (
some true) (
br (decide (x2 < -1000000)) (
some true) (
some (decide (1000000<x2)))))
def y8 (n:Nat) (l1:Ul):Int->Option ((Int) ⊕ ((Int) ⊕ (Unit))):=fun v34 =>
br (decide (v34<(l1.length:Int))) (
gd (bw v34 l1.length) (
ob (l1[v34.toNat]?) fun(x51,x52) =>
ob (NS n x51 x52) fun r55 =>
br (r55) (
some (.inr (.inl v34))) (
some (.inl (Ux (v34+1)))))) (
some (.inr (.inr ())))
def zR (_:Nat) (v1:Int) (l1:Ul):Int->Option ((Int) ⊕ ((Unit) ⊕ (Unit))):=fun v0 =>
br (decide (v0<v1)) (
gd (bw v1 l1.length) (
ob (l1[v1.toNat]?) fun(x3,x4) =>
gd (bw v0 l1.length) (
ob (l1[v0.toNat]?) fun(x10,x11) =>
br ((decide (x3=x10) && decide (x4=x11))) (
some (.inr (.inl ()))) (
some (.inl (Ux (v0+1))))))) (
some (.inr (.inr ())))
def xC (n:Nat) (l1:Ul):Int->Option ((Int) ⊕ ((Int) ⊕ (Unit))):=fun v0 =>
br (decide (v0<(l1.length:Int))) (
ob (α:=(Unit) ⊕ (Unit)) (
bg (zR n v0 l1) n 0) fun r0=>match r0 with
| .inl _ =>
some (.inr (.inl v0))
| .inr _ =>
some (.inl (Ux (v0+1)))) (
some (.inr (.inr ())))
def P4 (n:Nat) (l1:Ul) (l2:Uj):Option (Int × Int) :=
ob (
br (decide ((l1.length:Int)<3)) (
some true) (
br (decide (120<(l1.length:Int))) (
some true) (
br (decide ((l2.length:Int)<1)) (
some true) (
some (decide (64<(l2.length:Int))))))) fun v0 =>
br (v0) (
some (1,0)) (
ob (α:=(Int) ⊕ (Unit)) (
bg (y8 n l1) n 0) fun r0=>match r0 with
| .inl v1 =>
some (2,v1)
| .inr _ =>
ob (α:=(Int) ⊕ (Unit)) (
bg (xC n l1) n 0) fun r1=>match r1 with
| .inl v2 =>
some (3,v2)
| .inr _ =>
some (0,0))
def Eh (_:Nat) (l1:List (Int)) (l6:Um):Option (Um) :=
gd (lim (([l1]:Um)++l6).length) (
some (([l1]:Um)++l6))
def rY (_:Nat) (v1:Int) (l2:Um) (l3:Ul):Int->Option ((Int) ⊕ ((Unit) ⊕ (Unit))):=fun v0 =>
gd (bw v1 l2.length) (
ob (l2[v1.toNat]?) fun l1 =>
br (decide (v0<(l1.length:Int))) (
ob (
gd (bw v1 l2.length) (
gd (bw v0 l1.length) (
ob (l1[v0.toNat]?) fun x3 =>
br (decide (x3<0)) (
some true) (
gd (bw v1 l2.length) (
gd (bw v0 l1.length) (
ob (l1[v0.toNat]?) fun x4 =>
some (decide ((l3.length:Int)<=x4)))))))) fun v2 =>
br (v2) (
some (.inr (.inl ()))) (
some (.inl (Ux (v0+1))))) (
some (.inr (.inr ()))))
def tv (n:Nat) (l1:Um) (l3:Ul):Int->Option ((Int) ⊕ ((Unit) ⊕ (Unit))):=fun v0 =>
br (decide (v0<(l1.length:Int))) (
ob (
gd (bw v0 l1.length) (
ob (l1[v0.toNat]?) fun l2 =>
br (decide ((l2.length:Int)<3)) (
some true) (
gd (bw v0 l1.length) (
some (decide (40<(l2.length:Int))))))) fun v1 =>
br (v1) (
some (.inr (.inl ()))) (
ob (α:=(Unit) ⊕ (Unit)) (
bg (rY n v0 l1 l3) n 0) fun r0=>match r0 with
| .inl _ =>
some (.inr (.inl ()))
| .inr _ =>
some (.inl (Ux (v0+1))))) (
some (.inr (.inr ())))
def Ia (n:Nat) (l2:Ul) (_:Uj) (l3:List (Int)) (l1:Um):Option (Bool) :=
br (decide (8<(l1.length:Int))) (
some false) (
ob (Eh n l3 l1) fun l4 =>
ob (α:=(Unit) ⊕ (Unit)) (
bg (tv n l4 l2) n 0) fun r0=>match r0 with
| .inl _ =>
some false
| .inr _ =>
some true)
def xK (_:Nat) (l12:List (Int)) (l1:Ul) (x16:Int):(Ul × Int)->Option ((Ul × Int) ⊕ (Ul)):=fun(l36,v38) =>
br (decide (v38<(l12.length:Int))) (
gd (bw v38 l12.length) (
ob (l12[v38.toNat]?) fun x64 =>
gd (bw x64 l1.length) (
ob (l1[x64.toNat]?) fun(x69,x70) =>
gd (lim (l36++[(Ux (x16*x69),Ux (x16*x70))]).length) (
some (.inl ((l36++[(Ux (x16*x69),Ux (x16*x70))]),Ux (v38+1))))))) (
some (.inr l36))
def K1 (n:Nat) (l1:Ul) (_:Uj) (l12:List (Int)) (x16:Int):Option (Ul) :=
ob (
bg (xK n l12 l1 x16) n (([]:Ul),0)) fun l58 =>
some l58
def uC (_:Nat) (l1:Ul) (x5:Int):Option (Int × Int) :=
gd (decide ((l1.length:Int)≠0)) (
gd (bw (Int.tmod x5 (l1.length:Int)) l1.length) (
ob (l1[(Int.tmod x5 (l1.length:Int)).toNat]?) fun(x11,x12) =>
some (x11,x12)))
def pV (_:Nat) (x1:Int) (x2:Int) (x3:Int) (x4:Int) (x5:Int) (x6:Int):Option (Int) :=
ob (some (Ux ((Ux (x3-x1))*(Ux (x6-x2))))) fun y10 =>
ob (some (Ux ((Ux (x4-x2))*(Ux (x5-x1))))) fun y12 =>
some (Ux (y10-y12))
def EM (_:Nat) (x1:Int) (x2:Int) (x3:Int) (x4:Int) (x5:Int) (x6:Int):Option (Int) :=
ob (some (Ux ((Ux (x3-x1))*(Ux (x5-x3))))) fun y10 =>
ob (some (Ux ((Ux (x4-x2))*(Ux (x6-x4))))) fun y12 =>
some (Ux (y10+y12))
def zx (_:Nat) (x1:Int):Option (Int) :=
br (decide (0<x1)) (
some 1) (
br (decide (x1<0)) (
some (-1)) (
some 0))
def s6 (n:Nat) (x1:Int) (x2:Int) (x3:Int) (x4:Int) (x5:Int) (x6:Int):Option (Bool) :=
ob (pV n x1 x2 x3 x4 x5 x6) fun r11 =>
br (!decide (r11=0)) (
some false) (
br (decide (mi x1 x3<=x5)) (
br (decide (x5<=ma x1 x3)) (
br (decide (mi x2 x4<=x6)) (
some (decide (x6<=ma x2 x4))) (
some false)) (
some false)) (
some false))
def DR (n:Nat) (x1:Int) (x2:Int) (x3:Int) (x4:Int) (x5:Int) (x6:Int) (x7:Int) (x8:Int):Option (Int) :=
ob (pV n x1 x2 x3 x4 x5 x6) fun r3 =>
ob (zx n r3) fun r0 =>
ob (pV n x1 x2 x3 x4 x7 x8) fun r4 =>
ob (zx n r4) fun r1 =>
ob (pV n x5 x6 x7 x8 x1 x2) fun r5 =>
ob (zx n r5) fun r6 =>
ob (pV n x5 x6 x7 x8 x3 x4) fun r7 =>
ob (zx n r7) fun r8 =>
ob (
br (decide (r0=0)) (
some (decide (r1=0))) (
some false)) fun v1 =>
br (v1) (
ob (some (Ux ((ma (mi x1 x3) (mi x5 x7))-(mi (ma x1 x3) (ma x5 x7))))) fun y0 =>
ob (
br (decide (x1=x3)) (
ob (some (Ux ((ma (mi x2 x4) (mi x6 x8))-(mi (ma x2 x4) (ma x6 x8))))) fun y1 =>
some y1) (
some y0)) fun v0 =>
br (decide (0<v0)) (
some 0) (
br (decide (v0=0)) (
some 1) (
some 3))) (
ob (
br (decide (Ux (r0*r1)<0)) (
some (decide (Ux (r6*r8)<0))) (
some false)) fun v2 =>
br (v2) (
some 2) (
ob (
ob (s6 n x1 x2 x3 x4 x5 x6) fun r9 =>
br (r9) (
some true) (
ob (s6 n x1 x2 x3 x4 x7 x8) fun r10 =>
br (r10) (
some true) (
ob (s6 n x5 x6 x7 x8 x1 x2) fun r11 =>
br (r11) (
some true) (
ob (s6 n x5 x6 x7 x8 x3 x4) fun r12 =>
some r12)))) fun v3 =>
br (v3) (
some 1) (
some 0)))
def tw (n:Nat) (l1:Ul):Int->Option ((Int) ⊕ ((Int) ⊕ (Unit))):=fun v18 =>
br (decide (v18<(l1.length:Int))) (
gd (bw v18 l1.length) (
ob (l1[v18.toNat]?) fun(x35,x36) =>
ob (NS n x35 x36) fun r39 =>
br (r39) (
some (.inr (.inl v18))) (
some (.inl (Ux (v18+1)))))) (
some (.inr (.inr ())))
def tU (n:Nat) (l1:Ul):Int->Option ((Int) ⊕ ((Int) ⊕ (Unit))):=fun v44 =>
br (decide (v44<(l1.length:Int))) (
gd (bw v44 l1.length) (
ob (l1[v44.toNat]?) fun(x62,x63) =>
ob (uC n l1 (Ux (v44+1))) fun(r66,r67) =>
br ((decide (x62=r66) && decide (x63=r67))) (
some (.inr (.inl v44))) (
some (.inl (Ux (v44+1)))))) (
some (.inr (.inr ())))
def tH (n:Nat) (l1:Ul):Int->Option ((Int) ⊕ ((Int) ⊕ (Unit))):=fun v0 =>
br (decide (v0<(l1.length:Int))) (
ob (uC n l1 (Ux ((Ux (v0+(l1.length:Int)))-1))) fun(r0,r1) =>
gd (bw v0 l1.length) (
ob (l1[v0.toNat]?) fun(x3,x4) =>
ob (uC n l1 (Ux (v0+1))) fun(r3,r4) =>
ob (
ob (pV n r0 r1 x3 x4 r3 r4) fun r5 =>
br (decide (r5=0)) (
ob (EM n r0 r1 x3 x4 r3 r4) fun r6 =>
some (decide (r6<0))) (
some false)) fun v1 =>
br (v1) (
some (.inr (.inl v0))) (
some (.inl (Ux (v0+1)))))) (
some (.inr (.inr ())))
def tY (n:Nat) (v1:Int) (l1:Ul):Int->Option ((Int) ⊕ ((Unit) ⊕ (Unit))):=fun v0 =>
br (decide (Ux (v0+1)<v1)) (
ob (α:=(Unit) ⊕ (Unit)) (
ob (
br (decide (v0=0)) (
some (decide (v1=Ux ((l1.length:Int)-1)))) (
some false)) fun v2 =>
br (v2) (
some (.inl ())) (
gd (bw v0 l1.length) (
ob (l1[v0.toNat]?) fun(x3,x4) =>
gd (bw (Ux (v0+1)) l1.length) (
ob (l1[(Ux (v0+1)).toNat]?) fun(x10,x11) =>
gd (bw v1 l1.length) (
ob (l1[v1.toNat]?) fun(x12,x13) =>
ob (uC n l1 (Ux (v1+1))) fun(r0,r1) =>
ob (DR n x3 x4 x10 x11 x12 x13 r0 r1) fun r3 =>
br (!decide (r3=0)) (
some (.inr ())) (
some (.inl ()))))))) fun r4=>match r4 with
| .inl _ =>
some (.inl (Ux (v0+1)))
| .inr _ =>
some (.inr (.inl ()))) (
some (.inr (.inr ())))
def rO (n:Nat) (l1:Ul):Int->Option ((Int) ⊕ ((Int) ⊕ (Unit))):=fun v0 =>
br (decide (v0<(l1.length:Int))) (
ob (α:=(Unit) ⊕ (Unit)) (
bg (tY n v0 l1) n 0) fun r0=>match r0 with
| .inl _ =>
some (.inr (.inl v0))
| .inr _ =>
some (.inl (Ux (v0+1)))) (
some (.inr (.inr ())))
def Hq (n:Nat) (l1:Ul):Option (Int × Int) :=
ob (
br (decide ((l1.length:Int)<3)) (
some true) (
some (decide (40<(l1.length:Int))))) fun v0 =>
br (v0) (
some (1,0)) (
ob (α:=(Int) ⊕ (Unit)) (
bg (tw n l1) n 0) fun r0=>match r0 with
| .inl v1 =>
some (2,v1)
| .inr _ =>
ob (α:=(Int) ⊕ (Unit)) (
bg (tU n l1) n 0) fun r1=>match r1 with
| .inl v2 =>
some (3,v2)
| .inr _ =>
ob (α:=(Int) ⊕ (Unit)) (
bg (tH n l1) n 0) fun r3=>match r3 with
| .inl v3 =>
some (4,v3)
| .inr _ =>
ob (α:=(Int) ⊕ (Unit)) (
bg (rO n l1) n 0) fun r4=>match r4 with
| .inl v4 =>
some (5,v4)
| .inr _ =>
some (0,0))
def Ij (n:Nat) (l1:Ul):Option (Int) :=
ob (Hq n l1) fun(r6,_) =>
br (decide (0<r6)) (
some 140) (
some 0)
def tZ (n:Nat) (l26:Um) (l1:Ul) (l5:Uj):Int->Option ((Int) ⊕ ((Unit) ⊕ (Unit))):=fun v33 =>
br (decide (v33<(l26.length:Int))) (
gd (bw v33 l26.length) (
ob (l26[v33.toNat]?) fun l54 =>
ob (K1 n l1 l5 l54 1) fun l59 =>
ob (Ij n l59) fun r63 =>
br (!decide (r63=0)) (
some (.inr (.inl ()))) (
some (.inl (Ux (v33+1)))))) (
some (.inr (.inr ())))
def Jm (n:Nat) (l1:Ul) (l5:Uj) (l12:List (Int)) (l16:Um):Option (Bool) :=
ob (Eh n l12 l16) fun l26 =>
ob (α:=(Unit) ⊕ (Unit)) (
bg (tZ n l26 l1 l5) n 0) fun r66=>match r66 with
| .inl _ =>
some false
| .inr _ =>
some true
def pS (n:Nat) (l1:Ul):(Int × Int)->Option ((Int × Int) ⊕ (Int)):=fun(v7,v8) =>
br (decide (v8<(l1.length:Int))) (
gd (bw v8 l1.length) (
ob (l1[v8.toNat]?) fun(x30,x31) =>
ob (uC n l1 (Ux (v8+1))) fun(r34,r35) =>
ob (some (Ux ((Ux (v7+(Ux (x30*r35))))-(Ux (x31*r34))))) fun y38 =>
some (.inl (y38,Ux (v8+1))))) (
some (.inr v7))
def Gn (n:Nat) (l1:Ul):Option (Int) :=
ob (
bg (pS n l1) n (0,0)) fun v25 =>
some v25
def th (n:Nat) (l1:Um) (l2:Ul) (l3:Uj):Int->Option ((Int) ⊕ ((Unit) ⊕ (Unit))):=fun v0 =>
br (decide (v0<(l1.length:Int))) (
gd (bw v0 l1.length) (
ob (l1[v0.toNat]?) fun l4 =>
ob (K1 n l2 l3 l4 1) fun l5 =>
ob (Gn n l5) fun r0 =>
ob (
br (decide (v0=0)) (
br (decide (r0<0)) (
some true) (
br (decide (0<v0)) (
some (decide (0<r0))) (
some false))) (
br (decide (0<v0)) (
some (decide (0<r0))) (
some false))) fun v1 =>
br (v1) (
some (.inr (.inl ()))) (
some (.inl (Ux (v0+1)))))) (
some (.inr (.inr ())))
def Jv (n:Nat) (l1:Ul) (l2:Uj) (l3:List (Int)) (l4:Um):Option (Bool) :=
ob (Eh n l3 l4) fun l5 =>
ob (α:=(Unit) ⊕ (Unit)) (
bg (th n l5 l1 l2) n 0) fun r0=>match r0 with
| .inl _ =>
some false
| .inr _ =>
some true
def yq (n:Nat) (l5:Uj) (l1:Ul):Int->Option ((Int) ⊕ ((Int) ⊕ (Unit))):=fun v14 =>
br (decide (v14<(l5.length:Int))) (
gd (bw v14 l5.length) (
ob (l5[v14.toNat]?) fun(l36,l37) =>
ob (Ia n l1 l5 l36 l37) fun r45 =>
br (!r45) (
some (.inr (.inl v14))) (
some (.inl (Ux (v14+1)))))) (
some (.inr (.inr ())))
def zd (n:Nat) (l5:Uj) (l1:Ul):Int->Option ((Int) ⊕ ((Int) ⊕ (Unit))):=fun v50 =>
br (decide (v50<(l5.length:Int))) (
gd (bw v50 l5.length) (
ob (l5[v50.toNat]?) fun(l72,l73) =>
ob (Jm n l1 l5 l72 l73) fun r81 =>
br (!r81) (
some (.inr (.inl v50))) (
some (.inl (Ux (v50+1)))))) (
some (.inr (.inr ())))
def zH (n:Nat) (l1:Uj) (l2:Ul):Int->Option ((Int) ⊕ ((Int) ⊕ (Unit))):=fun v0 =>
br (decide (v0<(l1.length:Int))) (
gd (bw v0 l1.length) (
ob (l1[v0.toNat]?) fun(l3,l4) =>
ob (Jv n l2 l1 l3 l4) fun r0 =>
br (!r0) (
some (.inr (.inl v0))) (
some (.inl (Ux (v0+1)))))) (
some (.inr (.inr ())))
def P9 (n:Nat) (l1:Ul) (l2:Uj):Option (Int × Int) :=
ob (α:=(Int) ⊕ (Unit)) (
bg (yq n l2 l1) n 0) fun r0=>match r0 with
| .inl v0 =>
some (4,v0)
| .inr _ =>
ob (α:=(Int) ⊕ (Unit)) (
bg (zd n l2 l1) n 0) fun r1=>match r1 with
| .inl v1 =>
some (5,v1)
| .inr _ =>
ob (α:=(Int) ⊕ (Unit)) (
bg (zH n l2 l1) n 0) fun r3=>match r3 with
| .inl v2 =>
some (6,v2)
| .inr _ =>
some (0,0)
def pT (_:Nat) (v0:Int) (l2:Um) (v2:Int):(List (Uk) × Int)->Option ((List (Uk) × Int) ⊕ (List (Uk))):=fun(l3,v1) =>
gd (bw v0 l2.length) (
ob (l2[v0.toNat]?) fun l1 =>
br (decide (v1<(l1.length:Int))) (
gd (bw v0 l2.length) (
gd (bw v1 l1.length) (
ob (l1[v1.toNat]?) fun x3 =>
gd (bw v0 l2.length) (
gd (bw v0 l2.length) (
gd (decide ((l1.length:Int)≠0)) (
gd (bw (Int.tmod (Ux (v1+1)) (l1.length:Int)) l1.length) (
ob (l1[(Int.tmod (Ux (v1+1)) (l1.length:Int)).toNat]?) fun x4 =>
gd (lim (l3++[(x3,x4,v2,v0)]).length) (
some (.inl ((l3++[(x3,x4,v2,v0)]),Ux (v1+1))))))))))) (
some (.inr l3)))
def pP (n:Nat) (l1:Um) (v1:Int):(List (Uk) × Int)->Option ((List (Uk) × Int) ⊕ (List (Uk))):=fun(l2,v0) =>
br (decide (v0<(l1.length:Int))) (
ob (
bg (pT n v0 l1 v1) n (l2,0)) fun l3 =>
some (.inl (l3,Ux (v0+1)))) (
some (.inr l2))
def sT (n:Nat) (l1:Uj):(List (Uk) × Int)->Option ((List (Uk) × Int) ⊕ (List (Uk))):=fun(l2,v0) =>
br (decide (v0<(l1.length:Int))) (
gd (bw v0 l1.length) (
ob (l1[v0.toNat]?) fun(l3,l4) =>
ob (Eh n l3 l4) fun l5 =>
ob (
bg (pP n l5 v0) n (l2,0)) fun l6 =>
some (.inl (l6,Ux (v0+1))))) (
some (.inr l2))
def Gp (n:Nat) (_:Ul) (l1:Uj):Option (List (Uk)) :=
ob (
bg (sT n l1) n (([]:List (Uk)),0)) fun l2 =>
some l2
def Gt (n:Nat) (l1:Ul) (_:Uj) (x12:Int) (x13:Int) (_:Int) (_:Int) (x16:Int) (x17:Int) (_:Int) (_:Int):Option (Bool) :=
ob (
br (decide (x12=x16)) (
br (decide (x13=x17)) (
some true) (
br (decide (x12=x17)) (
some (decide (x13=x16))) (
some false))) (
br (decide (x12=x17)) (
some (decide (x13=x16))) (
some false))) fun v39 =>
br (v39) (
some false) (
gd (bw x12 l1.length) (
ob (l1[x12.toNat]?) fun(x50,x51) =>
gd (bw x13 l1.length) (
ob (l1[x13.toNat]?) fun(x54,x55) =>
gd (bw x16 l1.length) (
ob (l1[x16.toNat]?) fun(x58,x59) =>
gd (bw x17 l1.length) (
ob (l1[x17.toNat]?) fun(x62,x63) =>
ob (DR n x50 x51 x54 x55 x58 x59 x62 x63) fun r70 =>
br (decide (r70=1)) (
br (!decide (x12=x16)) (
br (!decide (x12=x17)) (
br (!decide (x13=x16)) (
some (!decide (x13=x17))) (
some false)) (
some false)) (
some false)) (
some (!decide (r70=0))))))))
def yU (_:Nat) (l1:Ul) (_:Uj) (x12:Int) (x13:Int) (_:Int) (_:Int):Option (Int × Int) :=
gd (bw x12 l1.length) (
ob (l1[x12.toNat]?) fun(x22,x23) =>
gd (bw x13 l1.length) (
ob (l1[x13.toNat]?) fun(x26,x27) =>
some (Ux (x22+x26),Ux (x23+x27))))
def oF (n:Nat) (l1:Ul) (x5:Int) (x6:Int):(Bool × Int)->Option ((Bool × Int) ⊕ ((Unit) ⊕ (Bool))):=fun(v1,v0) =>
br (decide (v0<(l1.length:Int))) (
ob (α:=(Unit) ⊕ (Bool)) (
gd (bw v0 l1.length) (
ob (l1[v0.toNat]?) fun(x4,x3) =>
ob (uC n l1 (Ux (v0+1))) fun(r1,r0) =>
ob (s6 n x4 x3 r1 r0 x5 x6) fun r3 =>
br (r3) (
some (.inl ())) (
ob (
br (!((decide (x6<x3)) == (decide (x6<r0)))) (
ob (pV n x4 x3 r1 r0 x5 x6) fun r4 =>
some ((decide (0<r4)) == (decide (x3<r0)))) (
some false)) fun v2 =>
br (v2) (
some (.inr (!v1))) (
some (.inr v1))))) fun r5=>match r5 with
| .inl _ =>
some (.inr (.inl ()))
| .inr v3 =>
some (.inl (v3,Ux (v0+1)))) (
some (.inr (.inr v1)))
def yr (n:Nat) (l1:Ul) (x5:Int) (x6:Int):Option (Int) :=
ob (α:=(Unit) ⊕ (Bool)) (
bg (oF n l1 x5 x6) n (false,0)) fun r0=>match r0 with
| .inl _ =>
some 1
| .inr v0 =>
br (v0) (
some 2) (
some 0)
def sU (n:Nat) (l1:Um) (l2:Ul) (l3:Uj) (x3:Int) (x4:Int) (x10:Int):Int->Option ((Int) ⊕ ((Unit) ⊕ (Unit))):=fun v0 =>
br (decide (v0<(l1.length:Int))) (
gd (bw v0 l1.length) (
ob (l1[v0.toNat]?) fun l4 =>
ob (K1 n l2 l3 l4 x3) fun l5 =>
ob (yr n l5 x4 x10) fun r0 =>
ob (
br (decide (v0=0)) (
br (!decide (r0=2)) (
some true) (
br (decide (0<v0)) (
some (!decide (r0=0))) (
some false))) (
br (decide (0<v0)) (
some (!decide (r0=0))) (
some false))) fun v1 =>
br (v1) (
some (.inr (.inl ()))) (
some (.inl (Ux (v0+1)))))) (
some (.inr (.inr ())))
def Hj (n:Nat) (l2:Ul) (l1:Uj) (x3:Int) (x4:Int) (x10:Int) (x11:Int):Option (Bool) :=
gd (bw x3 l1.length) (
ob (l1[x3.toNat]?) fun(l3,l4) =>
ob (Eh n l3 l4) fun l5 =>
ob (α:=(Unit) ⊕ (Unit)) (
bg (sU n l5 l2 l1 x11 x4 x10) n 0) fun r0=>match r0 with
| .inl _ =>
some false
| .inr _ =>
some true)
def yu (_:Nat) (v0:Int) (l1:List (Uk)):Int->Option ((Int) ⊕ ((Int) ⊕ (Unit))):=fun v1 =>
br (decide (v1<v0)) (
ob (
gd (bw v0 l1.length) (
ob (l1[v0.toNat]?) fun(x3,x4,_,_) =>
gd (bw v1 l1.length) (
ob (l1[v1.toNat]?) fun(x10,x11,_,_) =>
br (decide (x3=x10)) (
gd (bw v0 l1.length) (
gd (bw v1 l1.length) (
some (decide (x4=x11))))) (
some false)))) fun v2 =>
br (v2) (
gd (bw v0 l1.length) (
ob (l1[v0.toNat]?) fun(_,_,x12,_) =>
some (.inr (.inl x12)))) (
some (.inl (Ux (v1+1))))) (
some (.inr (.inr ())))
def xS (n:Nat) (l1:List (Uk)):Int->Option ((Int) ⊕ ((Int) ⊕ (Unit))):=fun v0 =>
br (decide (v0<(l1.length:Int))) (
ob (α:=(Int) ⊕ (Unit)) (
bg (yu n v0 l1) n 0) fun r0=>match r0 with
| .inl v1 =>
some (.inr (.inl v1))
| .inr _ =>
some (.inl (Ux (v0+1)))) (
some (.inr (.inr ())))
def yO (n:Nat) (v0:Int) (l1:List (Uk)) (l2:Ul) (l3:Uj):Int->Option ((Int) ⊕ ((Int) ⊕ (Unit))):=fun v1 =>
br (decide (v1<v0)) (
gd (bw v0 l1.length) (
ob (l1[v0.toNat]?) fun(x4,x10,x3,x11) =>
gd (bw v1 l1.length) (
ob (l1[v1.toNat]?) fun(x12,x13,x14,x15) =>
ob (Gt n l2 l3 x4 x10 x3 x11 x12 x13 x14 x15) fun r0 =>
br (r0) (
gd (bw v0 l1.length) (
some (.inr (.inl x3)))) (
some (.inl (Ux (v1+1))))))) (
some (.inr (.inr ())))
def yb (n:Nat) (l1:List (Uk)) (l2:Ul) (l3:Uj):Int->Option ((Int) ⊕ ((Int) ⊕ (Unit))):=fun v0 =>
br (decide (v0<(l1.length:Int))) (
ob (α:=(Int) ⊕ (Unit)) (
bg (yO n v0 l1 l2 l3) n 0) fun r0=>match r0 with
| .inl v1 =>
some (.inr (.inl v1))
| .inr _ =>
some (.inl (Ux (v0+1)))) (
some (.inr (.inr ())))
def xQ (n:Nat) (l2:Um) (l3:Ul) (l4:Uj) (v1:Int) (l1:List (Uk)) (x4:Int) (x10:Int) (x11:Int) (x3:Int):Int->Option ((Int) ⊕ ((Unit) ⊕ (Unit))):=fun v0 =>
br (decide (v0<(l2.length:Int))) (
gd (bw v0 l2.length) (
ob (l2[v0.toNat]?) fun l5 =>
ob (K1 n l3 l4 l5 2) fun l6 =>
gd (bw v1 l1.length) (
ob (yU n l3 l4 x4 x10 x11 x3) fun(r1,r3) =>
ob (yr n l6 r1 r3) fun r0 =>
ob (
br (decide (v0=0)) (
br (!decide (r0=2)) (
some true) (
br (decide (0<v0)) (
gd (bw v1 l1.length) (
br (!decide (v0=x3)) (
some (!decide (r0=0))) (
some false))) (
some false))) (
br (decide (0<v0)) (
gd (bw v1 l1.length) (
br (!decide (v0=x3)) (
some (!decide (r0=0))) (
some false))) (
some false))) fun v2 =>
br (v2) (
gd (bw v1 l1.length) (
some (.inr (.inl ())))) (
some (.inl (Ux (v0+1))))))) (
some (.inr (.inr ())))
def yI (n:Nat) (l1:List (Uk)) (l2:Uj) (l3:Ul):Int->Option ((Int) ⊕ ((Int) ⊕ (Unit))):=fun v0 =>
br (decide (v0<(l1.length:Int))) (
ob (α:=(Unit) ⊕ (Int)) (
gd (bw v0 l1.length) (
ob (l1[v0.toNat]?) fun(x10,x11,x3,x4) =>
br (decide (x4=0)) (
some (.inl ())) (
gd (bw v0 l1.length) (
gd (bw x3 l2.length) (
ob (l2[x3.toNat]?) fun(l4,l5) =>
ob (Eh n l4 l5) fun l6 =>
ob (α:=(Unit) ⊕ (Unit)) (
bg (xQ n l6 l3 l2 v0 l1 x10 x11 x3 x4) n 0) fun r0=>match r0 with
| .inl _ =>
some (.inr x3)
| .inr _ =>
some (.inl ())))))) fun r1=>match r1 with
| .inl _ =>
some (.inl (Ux (v0+1)))
| .inr v1 =>
some (.inr (.inl v1))) (
some (.inr (.inr ())))
def y6 (n:Nat) (l2:Uj) (v0:Int) (l1:List (Uk)) (l3:Ul):Int->Option ((Int) ⊕ ((Int) ⊕ (Unit))):=fun v1 =>
br (decide (v1<(l2.length:Int))) (
ob (
gd (bw v0 l1.length) (
ob (l1[v0.toNat]?) fun(x4,x10,x3,x11) =>
br (!decide (v1=x3)) (
gd (bw v0 l1.length) (
ob (yU n l3 l2 x4 x10 x3 x11) fun(r0,r1) =>
ob (Hj n l3 l2 v1 r0 r1 2) fun r3 =>
some r3)) (
some false))) fun v2 =>
br (v2) (
gd (bw v0 l1.length) (
ob (l1[v0.toNat]?) fun(_,_,x12,_) =>
some (.inr (.inl x12)))) (
some (.inl (Ux (v1+1))))) (
some (.inr (.inr ())))
def zL (n:Nat) (l1:List (Uk)) (l2:Uj) (l3:Ul):Int->Option ((Int) ⊕ ((Int) ⊕ (Unit))):=fun v0 =>
br (decide (v0<(l1.length:Int))) (
ob (α:=(Int) ⊕ (Unit)) (
bg (y6 n l2 v0 l1 l3) n 0) fun r0=>match r0 with
| .inl v1 =>
some (.inr (.inl v1))
| .inr _ =>
some (.inl (Ux (v0+1)))) (
some (.inr (.inr ())))
def Oq (n:Nat) (l1:Ul) (l2:Uj):Option (Int × Int) :=
ob (Gp n l1 l2) fun l3 =>
ob (α:=(Int) ⊕ (Unit)) (
bg (xS n l3) n 0) fun r0=>match r0 with
| .inl v0 =>
some (7,v0)
| .inr _ =>
ob (α:=(Int) ⊕ (Unit)) (
bg (yb n l3 l1 l2) n 0) fun r1=>match r1 with
| .inl v1 =>
some (8,v1)
| .inr _ =>
ob (α:=(Int) ⊕ (Unit)) (
bg (yI n l3 l2 l1) n 0) fun r3=>match r3 with
| .inl v2 =>
some (9,v2)
| .inr _ =>
ob (α:=(Int) ⊕ (Unit)) (
bg (zL n l3 l2 l1) n 0) fun r4=>match r4 with
| .inl v3 =>
some (10,v3)
| .inr _ =>
some (0,0)
def N2 (n:Nat) (l1:Ul) (l5:Uj):Option (Int × Int) :=
ob (P4 n l1 l5) fun(r14,r15) =>
ob (
br (decide (r14=0)) (
ob (P9 n l1 l5) fun(r24,r25) =>
some (r24,r25)) (
some (r14,r15))) fun(v20,v21) =>
ob (
br (decide (v20=0)) (
ob (Oq n l1 l5) fun(r36,r37) =>
some (r36,r37)) (
some (v20,v21))) fun(v32,v33) =>
some (v32,v33)
def PX (n:Nat) (l1:Ul) (l5:Uj):Option (Int) :=
ob (N2 n l1 l5) fun(r14,_) =>
br (decide (0<r14)) (
some 150) (
some 0)
def CE (_:Nat) (l1:Ul) (l5:Ul):Int->Option ((Int) ⊕ ((Unit) ⊕ (Unit))):=fun v11 =>
br (decide (v11<(l1.length:Int))) (
gd (bw v11 l1.length) (
ob (l1[v11.toNat]?) fun(x31,x32) =>
gd (bw v11 l5.length) (
ob (l5[v11.toNat]?) fun(x37,x38) =>
br (!(decide (x31=x37) && decide (x32=x38))) (
some (.inr (.inl ()))) (
some (.inl (Ux (v11+1))))))) (
some (.inr (.inr ())))
def PV (n:Nat) (l1:Ul) (l5:Ul):Option (Bool) :=
br (!decide ((l1.length:Int)=(l5.length:Int))) (
some false) (
ob (α:=(Unit) ⊕ (Unit)) (
bg (CE n l1 l5) n 0) fun r42=>match r42 with
| .inl _ =>
some false
| .inr _ =>
some true)
def Ch (_:Nat) (l1:List (Int)) (l5:List (Int)):Int->Option ((Int) ⊕ ((Unit) ⊕ (Unit))):=fun v11 =>
br (decide (v11<(l1.length:Int))) (
gd (bw v11 l1.length) (
ob (l1[v11.toNat]?) fun x29 =>
gd (bw v11 l5.length) (
ob (l5[v11.toNat]?) fun x34 =>
br (!decide (x29=x34)) (
some (.inr (.inl ()))) (
some (.inl (Ux (v11+1))))))) (
some (.inr (.inr ())))
def OS (n:Nat) (l1:List (Int)) (l5:List (Int)):Option (Bool) :=
br (!decide ((l1.length:Int)=(l5.length:Int))) (
some false) (
ob (α:=(Unit) ⊕ (Unit)) (
bg (Ch n l1 l5) n 0) fun r38=>match r38 with
| .inl _ =>
some false
| .inr _ =>
some true)
def Cs (n:Nat) (l1:Um) (l2:Um):Int->Option ((Int) ⊕ ((Unit) ⊕ (Unit))):=fun v0 =>
br (decide (v0<(l1.length:Int))) (
gd (bw v0 l1.length) (
ob (l1[v0.toNat]?) fun l3 =>
gd (bw v0 l2.length) (
ob (l2[v0.toNat]?) fun l4 =>
ob (OS n l3 l4) fun r0 =>
br (!r0) (
some (.inr (.inl ()))) (
some (.inl (Ux (v0+1))))))) (
some (.inr (.inr ())))
def Po (n:Nat) (l3:List (Int)) (l4:Um) (l5:List (Int)) (l6:Um):Option (Bool) :=
ob (yc n l3 l4) fun l1 =>
ob (yc n l5 l6) fun l2 =>
ob (
br (!decide ((l1.length:Int)=(l2.length:Int))) (
some false) (
ob (α:=(Unit) ⊕ (Unit)) (
bg (Cs n l1 l2) n 0) fun r0=>match r0 with
| .inl _ =>
some false
| .inr _ =>
some true)) fun v0 =>
some v0
def Bq (n:Nat) (l1:Uj) (l2:Uj):Int->Option ((Int) ⊕ ((Unit) ⊕ (Unit))):=fun v0 =>
br (decide (v0<(l1.length:Int))) (
gd (bw v0 l1.length) (
ob (l1[v0.toNat]?) fun(l3,l4) =>
gd (bw v0 l2.length) (
ob (l2[v0.toNat]?) fun(l5,l6) =>
ob (Po n l3 l4 l5 l6) fun r0 =>
br (!r0) (
some (.inr (.inl ()))) (
some (.inl (Ux (v0+1))))))) (
some (.inr (.inr ())))
def OB (n:Nat) (l3:Ul) (l1:Uj) (l4:Ul) (l2:Uj):Option (Bool) :=
ob (PV n l3 l4) fun r0 =>
br (r0) (
ob (
br (!decide ((l1.length:Int)=(l2.length:Int))) (
some false) (
ob (α:=(Unit) ⊕ (Unit)) (
bg (Bq n l1 l2) n 0) fun r1=>match r1 with
| .inl _ =>
some false
| .inr _ =>
some true)) fun v0 =>
some v0) (
some false)
def KJ (_:Nat) (l1:Ul) (l5:Ul):Int->Option ((Int) ⊕ ((Unit) ⊕ (Unit))):=fun v11 =>
br (decide (v11<(l1.length:Int))) (
gd (bw v11 l1.length) (
ob (l1[v11.toNat]?) fun(x31,x32) =>
gd (bw v11 l5.length) (
ob (l5[v11.toNat]?) fun(x37,x38) =>
br (!(decide (x31=x37) && decide (x32=x38))) (
some (.inr (.inl ()))) (
some (.inl (Ux (v11+1))))))) (
some (.inr (.inr ())))
def Qf (n:Nat) (l1:Ul) (l5:Ul):Option (Bool) :=
br (!decide ((l1.length:Int)=(l5.length:Int))) (
some false) (
ob (α:=(Unit) ⊕ (Unit)) (
bg (KJ n l1 l5) n 0) fun r42=>match r42 with
| .inl _ =>
some false
| .inr _ =>
some true)
def KP (_:Nat) (l1:List (Int)) (l5:List (Int)):Int->Option ((Int) ⊕ ((Unit) ⊕ (Unit))):=fun v11 =>
br (decide (v11<(l1.length:Int))) (
gd (bw v11 l1.length) (
ob (l1[v11.toNat]?) fun x29 =>
gd (bw v11 l5.length) (
ob (l5[v11.toNat]?) fun x34 =>
br (!decide (x29=x34)) (
some (.inr (.inl ()))) (
some (.inl (Ux (v11+1))))))) (
some (.inr (.inr ())))
def Qc (n:Nat) (l1:List (Int)) (l5:List (Int)):Option (Bool) :=
br (!decide ((l1.length:Int)=(l5.length:Int))) (
some false) (
ob (α:=(Unit) ⊕ (Unit)) (
bg (KP n l1 l5) n 0) fun r38=>match r38 with
| .inl _ =>
some false
| .inr _ =>
some true)
def BP (n:Nat) (l1:Um) (l2:Um):Int->Option ((Int) ⊕ ((Unit) ⊕ (Unit))):=fun v0 =>
br (decide (v0<(l1.length:Int))) (
gd (bw v0 l1.length) (
ob (l1[v0.toNat]?) fun l3 =>
gd (bw v0 l2.length) (
ob (l2[v0.toNat]?) fun l4 =>
ob (Qc n l3 l4) fun r0 =>
br (!r0) (
some (.inr (.inl ()))) (
some (.inl (Ux (v0+1))))))) (
some (.inr (.inr ())))
def Cq (n:Nat) (l1:Uj) (l2:Uj):Int->Option ((Int) ⊕ ((Unit) ⊕ (Unit))):=fun v0 =>
br (decide (v0<(l1.length:Int))) (
gd (bw v0 l1.length) (
ob (l1[v0.toNat]?) fun(l5,l6) =>
ob (Eh n l5 l6) fun l3 =>
gd (bw v0 l2.length) (
ob (l2[v0.toNat]?) fun(l7,l8) =>
ob (Eh n l7 l8) fun l4 =>
br (!decide ((l3.length:Int)=(l4.length:Int))) (
some (.inr (.inl ()))) (
ob (α:=(Unit) ⊕ (Unit)) (
bg (BP n l3 l4) n 0) fun r0=>match r0 with
| .inl _ =>
some (.inr (.inl ()))
| .inr _ =>
some (.inl (Ux (v0+1))))))) (
some (.inr (.inr ())))
def O2 (n:Nat) (l3:Ul) (l1:Uj) (l4:Ul) (l2:Uj):Option (Bool) :=
ob (
ob (Qf n l3 l4) fun r0 =>
br (!r0) (
some true) (
some (!decide ((l1.length:Int)=(l2.length:Int))))) fun v0 =>
br (v0) (
some false) (
ob (α:=(Unit) ⊕ (Unit)) (
bg (Cq n l1 l2) n 0) fun r1=>match r1 with
| .inl _ =>
some false
| .inr _ =>
some true)
def Py (_:Nat) (l1:List (Int)):(Ul × Int)->Option ((Ul × Int) ⊕ (Ul)):=fun(l19,v21) =>
br (decide (Ux (v21+1)<(l1.length:Int))) (
gd (bw v21 l1.length) (
ob (l1[v21.toNat]?) fun x43 =>
gd (bw (Ux (v21+1)) l1.length) (
ob (l1[(Ux (v21+1)).toNat]?) fun x46 =>
gd (lim (l19++[(x43,x46)]).length) (
some (.inl ((l19++[(x43,x46)]),Ux (v21+2))))))) (
some (.inr l19))
def F9 (n:Nat) (l1:List (Int)):Option (Ul) :=
ob (
bg (Py n l1) n (([]:Ul),0)) fun l37 =>
some l37
def Qd (n:Nat) (l1:Ul) (l5:Uj):Option (List (Uk) × Int) :=
ob (II n l1 l5) fun r14 =>
br (!decide (r14=0)) (
some ([],r14)) (
ob (JG n l1 l5) fun l17 =>
some (l17,0))
def KO (n:Nat) (l41:Um) (l1:Ul) (l5:Uj):(Int × Int)->Option ((Int × Int) ⊕ (Int)):=fun(v49,v50) =>
br (decide (v50<(l41.length:Int))) (
gd (bw v50 l41.length) (
ob (l41[v50.toNat]?) fun l72 =>
ob (Iq n l1 l5 l72 1) fun l77 =>
ob (NU n l77) fun r81 =>
some (.inl (Ux (v49+r81),Ux (v50+1))))) (
some (.inr v49))
def QI (n:Nat) (l1:Ul) (l5:Uj) (x12:Int):Option (Int × Int) :=
ob (II n l1 l5) fun r15 =>
br (!decide (r15=0)) (
some (0,r15)) (
ob (
br (decide (x12<0)) (
some true) (
some (decide ((l5.length:Int)<=x12)))) fun v24 =>
br (v24) (
some (0,2)) (
gd (bw x12 l5.length) (
ob (l5[x12.toNat]?) fun(l32,l33) =>
ob (yc n l32 l33) fun l41 =>
ob (
bg (KO n l41 l1 l5) n (0,0)) fun v67 =>
some (v67,0))))
def K9 (_:Nat) (l1:List (Uk)) (l5:List (Uk)):Int->Option ((Int) ⊕ ((Unit) ⊕ (Unit))):=fun v11 =>
br (decide (v11<(l1.length:Int))) (
gd (bw v11 l1.length) (
ob (l1[v11.toNat]?) fun(x35,x36,x37,x38) =>
gd (bw v11 l5.length) (
ob (l5[v11.toNat]?) fun(x43,x44,x45,x46) =>
br (!(decide (x35=x43) && decide (x36=x44) && decide (x37=x45) && decide (x38=x46))) (
some (.inr (.inl ()))) (
some (.inl (Ux (v11+1))))))) (
some (.inr (.inr ())))
def Rb (n:Nat) (l1:List (Uk)) (l5:List (Uk)):Option (Bool) :=
br (!decide ((l1.length:Int)=(l5.length:Int))) (
some false) (
ob (α:=(Unit) ⊕ (Unit)) (
bg (K9 n l1 l5) n 0) fun r50=>match r50 with
| .inl _ =>
some false
| .inr _ =>
some true)
def LI (n:Nat) (l1:Ul) (l5:Uj) (x12:Int) (x13:Int):Option (Bool) :=
ob (Ly n l1 l5) fun(r16,r17) =>
ob (Qd n l1 l5) fun(_,r22) =>
br (decide (r16=x12)) (
br (decide (r17=x13)) (
some ((decide (r22=150)) == (decide (0<x12)))) (
some false)) (
some false)
def P3 (n:Nat) (l1:Ul) (l5:Uj) (x12:Int) (x13:Int) (x14:Int) (x15:Int):Option (Bool) :=
ob (Lc n l1 l5) fun(r18,r19,r20,r21,r22) =>
br (decide (r18=x12)) (
br (decide (r19=x13)) (
br (decide (r20=x14)) (
br (decide (r21=x15)) (
some (decide (r22=0))) (
some false)) (
some false)) (
some false)) (
some false)
def KQ (n:Nat) (l1:Um) (l2:Ul) (l3:Uj) (x3:Int) (x4:Int):Int->Option ((Int) ⊕ ((Int) ⊕ (Unit))):=fun v0 =>
br (decide (v0<(l1.length:Int))) (
gd (bw v0 l1.length) (
ob (l1[v0.toNat]?) fun l4 =>
ob (
ob (Iq n l2 l3 l4 1) fun l5 =>
ob (Lj n l5 x3 x4) fun r0 =>
some (decide (r0=1))) fun v1 =>
br (v1) (
some (.inr (.inl v0))) (
some (.inl (Ux (v0+1)))))) (
some (.inr (.inr ())))
def KG (n:Nat) (l1:Uj) (l2:Ul) (x3:Int) (x4:Int):Int->Option ((Int) ⊕ ((Int) ⊕ (Unit))):=fun v0 =>
br (decide (v0<(l1.length:Int))) (
gd (bw v0 l1.length) (
ob (l1[v0.toNat]?) fun(l3,l4) =>
ob (
ob (IF n l2 l1 l3 l4 x3 x4 1) fun r0 =>
br (r0) (
some true) (
ob (yc n l3 l4) fun l5 =>
ob (
ob (α:=(Int) ⊕ (Unit)) (
bg (KQ n l5 l2 l1 x3 x4) n 0) fun r1=>match r1 with
| .inl v1 =>
some v1
| .inr _ =>
some (-1)) fun v2 =>
some (decide (0<=v2)))) fun v3 =>
br (v3) (
some (.inr (.inl v0))) (
some (.inl (Ux (v0+1)))))) (
some (.inr (.inr ())))
def Q7 (n:Nat) (l1:Ul) (l2:Uj) (x3:Int) (x4:Int):Option (Int × Int) :=
ob (II n l1 l2) fun r0 =>
br (!decide (r0=0)) (
some (0,r0)) (
ob (N4 n x3 x4) fun r1 =>
br (r1) (
some (0,2)) (
ob (
ob (α:=(Int) ⊕ (Unit)) (
bg (KG n l2 l1 x3 x4) n 0) fun r3=>match r3 with
| .inl v0 =>
some v0
| .inr _ =>
some (-1)) fun v1 =>
some (v1,0)))
def N5 (n:Nat) (l1:Ul) (l5:Uj) (x12:Int) (x13:Int) (x14:Int):Option (Bool) :=
ob (Q7 n l1 l5 x12 x13) fun(r17,r18) =>
br (decide (r17=x14)) (
some (decide (r18=0))) (
some false)
def F7 (n:Nat):Option (Bool) :=
ob (
ob (F9 n ([0,0,2,0,4,0,4,2,2,2,0,2])) fun l8 =>
some (l8,([([0,1,4,5],[]),([1,2,3,4],[])]:Uj))) fun(l3,l4) =>
ob (
ob (F9 n ([0,0,9,0,9,9,0,9,3,3,6,3,6,6,3,6])) fun l9 =>
some (l9,([([0,1,2,3],[[4,7,6,5]]),([4,5,6,7],[])]:Uj))) fun(l1,l2) =>
ob (Qd n l3 l4) fun(l10,r0) =>
ob (QI n l1 l2 0) fun(r1,r3) =>
ob (
ob (F9 n ([0,0,9,0,9,9,0,9,3,3,6,3,6,6,3,6])) fun l11 =>
some (l11,([([0,1,2,3],[[4,7,6,5]]),([4,5,6,7],[])]:Uj))) fun(l12,l5) =>
ob (
ob (F9 n ([0,0,9,0,9,9,0,9,3,3,6,3,6,6,3,6])) fun l13 =>
some (l13,([([0,1,2,3],[[4,7,6,5]]),([4,5,6,7],[])]:Uj))) fun(l14,l6) =>
ob (
ob (F9 n ([0,0,2,0,4,0,4,2,2,2,0,2])) fun l15 =>
some (l15,([([0,1,4,5],[]),([1,2,3,4],[])]:Uj))) fun(l16,l7) =>
gd (bw 0 l5.length) (
ob (l5[Uy]?) fun(l17,_) =>
gd (bw 0 l6.length) (
ob (l6[Uy]?) fun(l18,_) =>
gd (bw 1 l7.length) (
ob (l7[(1:Int).toNat]?) fun(_,l19) =>
ob (Rb n l10 ([(0,1,0,-1),(0,5,-1,0),(1,2,1,-1),(1,4,0,1),(2,3,1,-1),(3,4,1,-1),(4,5,0,-1)])) fun r4 =>
ob (
ob (LI n l3 l4 0 0) fun r5 =>
br (r5) (
ob (LI n l1 l2 0 0) fun r6 =>
br (r6) (
ob (LI n l12 (l5.set (Uy) (l17,[])) 10 1) fun r7 =>
br (r7) (
ob (LI n l14 (l6.set (Uy) (l18,[[4,5,6,7]])) 6 0) fun r8 =>
br (r8) (
ob (LI n l16 (l7.set ((1:Int).toNat) ([1,2,3,5],l19)) 8 1) fun r9 =>
some r9) (
some false)) (
some false)) (
some false)) (
some false)) fun v0 =>
br (r4) (
br (decide (r0=0)) (
br (decide (r1=144)) (
br (decide (r3=0)) (
br (v0) (
ob (P3 n l3 l4 6 7 2 1) fun r10 =>
br (r10) (
ob (P3 n l1 l2 8 8 2 2) fun r11 =>
br (r11) (
ob (N5 n l1 l2 4 4 1) fun r12 =>
br (r12) (
ob (N5 n l1 l2 1 1 0) fun r13 =>
br (r13) (
ob (N5 n l1 l2 3 3 0) fun r14 =>
br (r14) (
ob (N5 n l1 l2 10 10 (-1)) fun r15 =>
some r15) (
some false)) (
some false)) (
some false)) (
some false)) (
some false)) (
some false)) (
some false)) (
some false)) (
some false)) (
some false))))
def CR (_:Nat) (l1:List Int):(List (Int) × Int)->Option ((List (Int) × Int) ⊕ (List (Int))):=fun(l2,v0) =>
br (decide (v0<((Ve l1 8).length:Int))) (
gd (bw v0 ((Ve l1 8).length)) (
ob ((Ve l1 8)[v0.toNat]?) fun x3 =>
gd (lim (l2++[Ux x3]).length) (
some (.inl ((l2++[Ux x3]),Ux (v0+1)))))) (
some (.inr l2))
def CQ (n:Nat) (l1:Um):(Uj × Int)->Option ((Uj × Int) ⊕ (Uj)):=fun(l2,v0) =>
br (decide (v0<((Ve l1 4).length:Int))) (
gd (bw v0 ((Ve l1 4).length)) (
ob ((Ve l1 4)[v0.toNat]?) fun l3 =>
gd (okB 0 (mi (l3.length:Int) (8:Int)) l3.length) (
ob (
bg (CR n l3) n (([]:List (Int)),0)) fun l4 =>
gd (lim (l2++([(l4,[])]:Uj)).length) (
some (.inl ((l2++([(l4,[])]:Uj)),Ux (v0+1))))))) (
some (.inr l2))
def D1 (n:Nat) (l6:Ul) (l7:Uj) (l8:Ul) (l9:Uj) (l10:Ul) (l11:Uj) (l1:Ul) (l12:Uj) (l2:Ul) (l3:Uj):Int->Option ((Int) ⊕ ((Unit) ⊕ (Unit))):=fun v0 =>
br (decide (v0<4)) (
gd (bw v0 4) (
ob ([(l6,l7),(l8,l9),(l10,l11),((Ve l1 8),l12)][v0.toNat]?) fun(l4,l5) =>
ob (OB n l2 l3 l4 l5) fun r0 =>
ob (O2 n l2 l3 l4 l5) fun r1 =>
br (!(r0 == r1)) (
some (.inr (.inl ()))) (
some (.inl (Ux (v0+1)))))) (
some (.inr (.inr ())))
def DZ (n:Nat) (l4:Ul) (l5:Uj) (l6:Ul) (l7:Uj) (l8:Ul) (l9:Uj) (l3:Ul) (l10:Uj):Int->Option ((Int) ⊕ ((Unit) ⊕ (Unit))):=fun v0 =>
br (decide (v0<4)) (
gd (bw v0 4) (
ob ([(l4,l5),(l6,l7),(l8,l9),((Ve l3 8),l10)][v0.toNat]?) fun(l1,l2) =>
ob (Ly n l1 l2) fun(r0,r1) =>
ob (N2 n l1 l2) fun(r3,r4) =>
ob (
br (!decide (r0=r3)) (
some true) (
br (!decide (r1=r4)) (
some true) (
ob (II n l1 l2) fun r5 =>
ob (PX n l1 l2) fun r6 =>
some (!decide (r5=r6))))) fun v1 =>
br (v1) (
some (.inr (.inl ()))) (
ob (α:=(Unit) ⊕ (Unit)) (
bg (D1 n l4 l5 l6 l7 l8 l9 l3 l10 l1 l2) n 0) fun r7=>match r7 with
| .inl _ =>
some (.inr (.inl ()))
| .inr _ =>
some (.inl (Ux (v0+1)))))) (
some (.inr (.inr ())))
def F6 (n:Nat) (x1:Nat) (x2:Nat) (l3:List (Nat)) (l4:List (Nat)) (x3:Bool) (x4:Nat) (x10:Nat) (x11:Nat) (x12:Int) (x13:Int) (x14:Int) (x15:Nat) (x16:Nat) (x17:Nat) (x18:Int) (x19:Int) (x20:Int) (l1:Ul) (l2:Um):Option (Bool) :=
gd (okB 0 (mi (l1.length:Int) (8:Int)) l1.length) (
gd (okB 0 (mi (l2.length:Int) (4:Int)) l2.length) (
ob (
bg (CQ n l2) n (([]:Uj),0)) fun l5 =>
ob (PM n x1 x2 l3 l4 x3 x4 x10 x11 x12 x13 x14 x15 x16 x17 x18 x19 x20) fun(l6,l7,l8,l9,l10,l11) =>
ob (α:=(Unit) ⊕ (Unit)) (
bg (DZ n l6 l7 l8 l9 l10 l11 l1 l5) n 0) fun r0=>match r0 with
| .inl _ =>
some false
| .inr _ =>
ob (F7 n) fun r1 =>
some r1))
end
end Go.Proofs.YtmndpgfbkicndaaGreat
namespace Go.Ab.W
open Go Go.Ab
section
variable {P : Uv} {ty : Ut}
def J0 (P:Uv) (ty u:Ut) (k:IntKind):Bool:=match P.underlying ty with
 | some (.struct fs) => !(P.stoodInHeld ty || fs.any (·.name == "_")) && (fs.toList.map (fun f => (f.type, f.offset)) == [(u, 0), (u, 1), (u, 2), (u, 3)]) && known P u && (match P.underlying u with | some (.int k') => k' == k | _ => false)
 | _=>false
def D3 {u : Ut} {k : IntKind} (h : J0 P ty u k = true) : ∃ fs, P.underlying ty = some (.struct fs) /\ (P.stoodInHeld ty || fs.any (·.name == "_")) = false /\ fs.toList.map (fun f => (f.type, f.offset)) = [(u, 0), (u, 1), (u, 2), (u, 3)] /\
  known P u=true/\P.underlying u=some (.int k):=by
 unfold J0 at h
 split at h
 rename_i fs hf;simp only[R4,SX,beq_iff_eq] at h;obtain⟨⟨⟨h1,h2⟩,h3⟩,h5⟩:=h
 split at h5
 rename_i k' e1;simp only[beq_iff_eq] at h5;subst h5;exact⟨fs,hf,h1,h2,h3,e1⟩
 cases h5
 cases h
def OE {u:Ut} {k:IntKind} (h:J0 P ty u k=true) (x0 y0 x1 y1 x2 y2 x3 y3:Int) :
  j5 P Op.maxDepth ty (.agg #[.int k x0,.int k x1,.int k x2,.int k x3]) (.agg #[.int k y0,.int k y1,.int k y2,.int k y3])=some (decide (x0=y0) && decide (x1=y1) && decide (x2=y2) && decide (x3=y3)):=by
 obtain⟨fs,hf,h1,h2,h3,h5⟩:=D3 h;have a1:dM P u=false:=by simp only[dM,h5]
 have p0:∀x y z w:Us,dn P u #[x,y,z,w] 0=some x:=fun x y z w=>by simp only[dn,h3,a1]; rfl
 have p1:∀x y z w:Us,dn P u #[x,y,z,w] 1=some y:=fun x y z w=>by simp only[dn,h3,a1]; rfl
 have p2:∀x y z w:Us,dn P u #[x,y,z,w] 2=some z:=fun x y z w=>by simp only[dn,h3,a1]; rfl
 have p3:∀x y z w:Us,dn P u #[x,y,z,w] 3=some w:=fun x y z w=>by simp only[dn,h3,a1]; rfl
 show j5 P (9999+1) ty _ _=_
 unfold j5;simp only[hf,h1,Sq,if_false,h2];rw[mO (p0 _ _ _ _) (p0 _ _ _ _) (vv h5 9998 x0 y0) (mO (p1 _ _ _ _) (p1 _ _ _ _) (vv h5 9998 x1 y1) (mO (p2 _ _ _ _) (p2 _ _ _ _) (vv h5 9998 x2 y2) (mO (p3 _ _ _ _) (p3 _ _ _ _) (vv h5 9998 x3 y3) rfl)))];simp only[Bool.and_true,Bool.and_assoc]
end
section
variable {E : Env} {m0 : Vj} {fs : Fs} {ps : List Pc} {x : Uu} {ty : Ut}
def jD {a:Addr} (h:ev E fs x=some (.pointer (some a))):Od E m0 fs ps (.nilCheck x) (.pointer (some a)) ps:=.pure (fun _=>rfl) fun t m hf K=>by
 show eU (match aw E t x with
  | some (.pointer (some a))=>some (.pointer (some a),m)
  | some (.func (.func f) a b)=>some (.func (.func f) a b,m)
  | some (.func (.yield f) a b)=>some (.func (.yield f) a b,m)
  | _=>none) K=_
 rw[hf.ev h]; rfl
end
set_option maxRecDepth 10000
attribute [local irreducible] Tm.at Trie.set Trie.get Vj.get Vj.set Vj.alloc Vj.ww
section
variable {E : Env} {n : Nat} {m0 : Vj} {fs : Fs} {ps : List Pc} {x y z : Uu} {v : Us} {ty ty2 : Ut}
def K8 {elem lo hi mx b o len cap w k:Nat} {cs:List Us} {lx hx:Option Uu} {l h:Option Us} (ht:SlT E.P ty elem w) (hv:ev E fs x=some (.slice (some ⟨b,o,none⟩) len cap)) (e1:ji E fs lx=some l) (e2:ji E fs hx=some h)
  (hp:pk ps k=some (.obj b (.cells cs (.more w)))) (hb:bV len cap l h none=some (lo,hi,mx)) :
  Od E m0 fs ps (.slice ty x lx hx none) (if cap=lo then gh b else .slice (some ⟨b,o+lo*w,none⟩) (hi-lo) (cap-lo)) ps :=
 fun t m hf hm=>⟨fun b' hb'=>by
  have:dL (.slice (some ⟨b,o,none⟩) len cap)=some b:=rfl;simp only[aP,hf.ev hv,Su,this] at hb';cases hb'; exact(hm.get hp).2.1,fun K hK=>by
  have hg:=(hm.get hp).2.2;have hs:cd E.P ty (.slice (some ⟨b,o,none⟩) len cap) l h none m=some (if cap=lo then gh b else .slice (some ⟨b,o+lo*w,none⟩) (hi-lo) (cap-lo)):=by
   have hne:¬w≠w:=fun h=>h rfl;simp only[cd,ht.und,ht.known,if_true,hg,hb,ht.size,RZ hne]
   split<;>rfl
  rw[Go.Ab.nh (hf.ev hv) (hf.ji e1) (hf.ji e2) (show dQ E t none=some none from rfl) hs]; exact hK m hm⟩
def KY {elem lo hi mx b o len cap w k:Nat} {cs:List Us} {lx hx:Option Uu} {kx:Uu} {l h:Option Us} {q:Us} (ht:SlT E.P ty elem w) (hv:ev E fs x=some (.slice (some ⟨b,o,none⟩) len cap)) (e1:ji E fs lx=some l) (e2:ji E fs hx=some h) (e3:ji E fs (some kx)=some (some q))
  (hp:pk ps k=some (.obj b (.cells cs (.more w)))) (hb:bV len cap l h (some q)=some (lo,hi,mx)) :
  Od E m0 fs ps (.slice ty x lx hx (some kx)) (if mx=lo/\hi=lo then .slice (some ⟨b,0,some 1⟩) 0 0 else .complex .f64 0 0) ps :=
 fun t m hf hm=>⟨fun b' hb'=>by
  have:dL (.slice (some ⟨b,o,none⟩) len cap)=some b:=rfl;simp only[aP,hf.ev hv,Su,this] at hb';cases hb'; exact(hm.get hp).2.1,fun K hK=>by
  have hg:=(hm.get hp).2.2;have hs:cd E.P ty (.slice (some ⟨b,o,none⟩) len cap) l h (some q) m=some (if mx=lo/\hi=lo then .slice (some ⟨b,0,some 1⟩) 0 0 else .complex .f64 0 0):=by
   have hne:¬w≠w:=fun h=>h rfl;simp only[cd,ht.und,ht.known,if_true,hg,hb,ht.size,RZ hne]
   split<;>rfl
  rw[Go.Ab.nh (hf.ev hv) (hf.ji e1) (hf.ji e2) (hf.ji e3) hs]; exact hK m hm⟩
def Oh {elem w b o len cap l1 c0 k:Nat} {tg:Tag} {a0:Uo} {cs new:List Us} {ars:Array Uu} (ht:SlT E.P ty elem w) (h0:∃e2,E.P.underlying ty2=some (.slice e2)) (ha:gy E fs ars.toList=some [.slice (some ⟨b,o,none⟩) len cap,.slice a0 l1 c0]) (hp:pk ps k=some (.obj b (.cells cs tg))) (htg:qJ tg=true)
  (hs:∀m,Hp m0 m ps->cW w (.slice a0 l1 c0) l1 m=some new) (hnl:new.length=l1*w) (ho:bf new=true) (hlim:lim (len+l1)=true) (hfit:len+l1<=cap) (hl:o+len*w+new.length<=cs.length) :
  Od E m0 fs ps (.call ⟨.builtin .append,ars,#[ty,ty2]⟩) (.slice (some ⟨b,o,none⟩) (len+l1) cap) (bT ps k (.obj b (.cells (aG cs (o+len*w) new) tg))) :=
 fun t m hf hm=>⟨fun b' hb'=>by simp[aP] at hb',fun K hK=>by
  have hg:=(hm.get hp).2.2;obtain⟨e2,h0⟩:=h0;obtain⟨inf,h1,h2,h3⟩:=ht.bytes;have hlim':len+l1<=1073741824:=SZ hlim;have hfc:dK inf.bytes (len+l1)=true:=by
   simp only[dK,Sf]
   calc (2*(len+l1)+2000)*inf.bytes<=(2*1073741824+2000)*1024:=Ud (by omega) h3
    _<=2 ^ 48:=by decide
  have hguard:(!(known E.P elem) || aH E.P elem == 0 || !bf new || !(E.P.info? elem).any (fun i=>dK i.bytes (len+l1) && i.bytes != 0) || new.length != l1*aH E.P elem || !(bz E.P elem).any (fun z=>z.cells.size == aH E.P elem && z.cells.toList.all aS))=false:=by
   have hz:=ht.zero;have hp:=ht.pos;rw[ht.size];simp only[ht.known,ho,h1,Option.any_some,hfc,hz,hnl];simp[h2]; omega
  have hnc:eQ E.P elem (some ty2) (.slice a0 l1 c0) m=some (l1,new):=by
   simp only[eQ,Su,h0,ht.size,hs m hm,Si]
  by_cases hnil:new = []
  subst hnil;have hsp:aG cs (o+len*w) []=cs:=by
   apply SY;intro i;rw[aQ,RZ (by simp; omega)]
  have:bh E.P .append #[ty,ty2] [.slice (some ⟨b,o,none⟩) len cap,.slice a0 l1 c0] m=some (.slice (some ⟨b,o,none⟩) (len+l1) cap,m):=by
   show cM E.P ty (some ty2) _ _ m=_
   unfold cM;simp only[ht.und,hnc,hguard,Sq,if_false,hg,R0 hfit,Vj.cR,Si]
  rw[Go.Ab.dx (hf.gy ha) this];refine hK _ ?_;rw[hsp];have e:bT ps k (.obj b (.cells cs tg))=ps:=qb _ _ _ hp;rw[e]; exact hm
  ·have hst:m.cR b (o+len*w) new=some (m.set b (.cells (aG cs (o+len*w) new) tg)):=by
    cases new with
    | nil=>exact Sl rfl hnil
    | cons a' new =>
     cases tg with
     | ro=>cases htg
     | own=>simp only[Vj.cR,hg,R0 hl]
     | more s=>simp only[Vj.cR,hg,R0 hl]
   have h4:m.cR b (o+len*aH E.P elem) new=some (m.set b (.cells (aG cs (o+len*w) new) tg)):=by rw[ht.size]; exact hst
   have:bh E.P .append #[ty,ty2] [.slice (some ⟨b,o,none⟩) len cap,.slice a0 l1 c0] m=some (.slice (some ⟨b,o,none⟩) (len+l1) cap,m.set b (.cells (aG cs (o+len*w) new) tg)):=by
    show cM E.P ty (some ty2) _ _ m=_
    unfold cM;simp only[ht.und,hnc,hguard,Sq,if_false,hg,R0 hfit,h4,Si]
   rw[Go.Ab.dx (hf.gy ha) this];exact hK _ (hm.write hp rfl rfl rfl rfl ⟨(hm.get hp).1,by rw[Vj.next_set]; exact(hm.get hp).2.1,by rw[Vj.bD,R0 rfl]⟩)⟩
def F5 {elem lo hi mx b o len cap w k:Nat} {cs:List Us} {tg:Tag} {lx hx:Option Uu} {l h:Option Us} (ht:SlT E.P ty elem w) (hv:ev E fs x=some (.slice (some ⟨b,o,none⟩) len cap)) (e1:ji E fs lx=some l) (e2:ji E fs hx=some h)
  (hp:pk ps k=some (.obj b (.cells cs tg))) (htg:tg = .own\/tg = .more w) (hb:bV len cap l h none=some (lo,hi,mx)) (hmx:mx=cap) (hlo:cap≠lo) :
  Od E m0 fs ps (.slice ty x lx hx none) (.slice (some ⟨b,o+lo*w,none⟩) (hi-lo) (cap-lo)) ps:=by
 rcases htg with rfl|rfl
 subst hmx;exact BV ht hv e1 e2 (show ji E fs none=some none from rfl) hp rfl hb (by rw[RZ hlo])
 have:=K8 (m0:=m0) ht hv e1 e2 hp hb;rwa[RZ hlo] at this
def Ph {elem lo hi mx b o len cap w k:Nat} {cs:List Us} {tg:Tag} {lx hx:Option Uu} {kx:Uu} {l h:Option Us} {q:Us} (ht:SlT E.P ty elem w) (hv:ev E fs x=some (.slice (some ⟨b,o,none⟩) len cap)) (e1:ji E fs lx=some l) (e2:ji E fs hx=some h) (e3:ji E fs (some kx)=some (some q))
  (hp:pk ps k=some (.obj b (.cells cs tg))) (htg:tg = .own\/tg = .more w) (hb:bV len cap l h (some q)=some (lo,hi,mx)) :
  Ox E m0 fs ps (.slice ty x lx hx (some kx)) (fun v:Us=>v) (fun _=>ps):=by
 rcases htg with rfl|rfl
 exact fun t m hf hm=>⟨(BV (m0:=m0) ht hv e1 e2 e3 hp rfl hb rfl t m hf hm).1,fun K hK=>(BV (m0:=m0) ht hv e1 e2 e3 hp rfl hb rfl t m hf hm).2 K (hK _)⟩
 exact fun t m hf hm=>⟨(KY (m0:=m0) ht hv e1 e2 e3 hp hb t m hf hm).1,fun K hK=>(KY (m0:=m0) ht hv e1 e2 e3 hp hb t m hf hm).2 K (hK _)⟩
def Pb {elem b w k j nn:Nat} {cs:List Us} {tg:Tag} {lx:Option Uu} {l:Option Us} (ht:SlT E.P ty elem w) (hv:ev E fs x=some (.slice (some ⟨b,0,none⟩) nn nn)) (e1:ji E fs lx=some l)
  (hp:pk ps k=some (.obj b (.cells cs tg))) (htg:tg = .own\/tg = .more w) (hj:j<=nn) (hb:bV nn nn l none none=some (j,nn,nn)) (hcl:nn*w<=cs.length) :
  Ox E m0 fs ps (.slice ty x lx none none) (fun A:{ A:Addr // ∀m,Hp m0 m ps->cW w (.slice (some A) (nn-j) (nn-j)) (nn-j) m=some ((cs.drop (j*w)).take ((nn-j)*w))}=>.slice (some A.1) (nn-j) (nn-j)) (fun _=>ps):=by
 by_cases h:nn=j
 subst h;have h0:∀A m,cW w (.slice (some A) (nn-nn) (nn-nn)) (nn-nn) m=some ((cs.drop (nn*w)).take ((nn-nn)*w)):=fun A m=>by
  obtain⟨ab,ao,ax⟩:=A;cases ax<;>simp[cW]
 rcases htg with rfl|rfl
 have h1:=BV (m0:=m0) ht hv e1 (show ji E fs none=some none from rfl) (show ji E fs none=some none from rfl) hp rfl hb rfl
 rw[R0 rfl] at h1;exact fun t m hf hm=>⟨(h1 t m hf hm).1,fun K hK=>(h1 t m hf hm).2 K (hK ⟨_,fun m' _=>h0 _ m'⟩)⟩
 have h1:=K8 (m0:=m0) ht hv e1 (show ji E fs none=some none from rfl) hp hb
 rw[R0 rfl] at h1;have h2:gh b = .slice (some ⟨b,0,some 0⟩) (nn-nn) (nn-nn):=by rw[Ui]; rfl
 rw[h2] at h1;exact fun t m hf hm=>⟨(h1 t m hf hm).1,fun K hK=>(h1 t m hf hm).2 K (hK ⟨_,fun m' _=>h0 _ m'⟩)⟩
 have h1:=F5 (m0:=m0) ht hv e1 (show ji E fs none=some none from rfl) hp htg hb rfl h
 exact fun t m hf hm=>⟨(h1 t m hf hm).1,fun K hK=>(h1 t m hf hm).2 K (hK ⟨_,fun m' hm'=>by
  have:=JM (b:=b) (o:=0+j*w) (l:=nn-j) (c:=nn-j) (w:=w) (q:=nn-j) (k:=k) hm' hp (by omega) (by
   have:j*w+(nn-j)*w=nn*w:=by rw[<-TN]; congr 1; omega
   omega)
  rw[this,Sw]⟩)⟩
end
end Go.Ab.W
namespace Go.Proofs.YtmndpgfbkicndaaGreat
open Go Go.Ab Go.Ab.W
set_option maxRecDepth 10000
set_option maxHeartbeats 4000000
attribute [local irreducible] Tm.at Trie.set Trie.get Vj.get Vj.set Vj.alloc Vj.ww Vj.kill
variable {p q : Option Prim}
def bA (k:IntKind) {x y:Nat} (h:x<=y):jw (.int k (x:Int)) y=some x:=by
 simp only[jw]; rw[R0 ⟨by omega,by omega⟩,Ss]
def Ql {len cap lo hi mx:Nat} {k1 k2 k3:IntKind} (h1:lo<=hi) (h2:hi<=mx) (h3:mx<=cap):bV len cap (some (.int k1 (lo:Int))) (some (.int k2 (hi:Int))) (some (.int k3 (mx:Int)))=some (lo,hi,mx):=by
 unfold bV; simp only[bA _ h3,bA _ h2,bA _ h1]
def QP {len cap hi:Nat} {k2:IntKind} (h2:hi<=cap):bV len cap none (some (.int k2 (hi:Int))) none=some (0,hi,cap):=by
 unfold bV; simp only[bA _ h2]
def QG {len cap lo:Nat} {k1:IntKind} (h1:lo<=len):bV len cap (some (.int k1 (lo:Int))) none none=some (lo,len,cap):=by
 unfold bV; simp only[bA _ h1]
def PJ {len cap lo hi:Nat} {k1 k2:IntKind} (h1:lo<=hi) (h2:hi<=cap):bV len cap (some (.int k1 (lo:Int))) (some (.int k2 (hi:Int))) none=some (lo,hi,cap):=by
 unfold bV; simp only[bA _ h2,bA _ h1]
def NJ {a b:Nat} (h:lim a=true) (hb:b<=a):lim b=true:=Nat.ble_eq_true_of_le (Sv hb (SZ h))
def zh {l l':List Us} (h:bf l=true) (hs:∀v ∈ l',v ∈ l):bf l'=true:=Sb.2 fun v hv=>Sb.1 h v (hs v hv)
def xD {cs new zs:List Us} {p q:Nat} (hq:q=p+new.length) (hl:q<=cs.length):(aG (aG cs p new) q zs).take q=cs.take p++new:=by
 apply SY;intro k;have hp:(cs.take p).length=p:=by rw[R8]; omega
 rw[S6]
 split
 rw[aQ,Uz,aQ]
 by_cases hk:k<p
 rw[Uz,SL (by rw[hp]; exact hk),S6,R0 hk]
 rw[R0 ⟨by omega,by omega,by omega⟩,SH (by rw[hp]; omega),hp]
 rw[SN (by rw[Sd,hp]; omega)]
def Qj {n:Nat}:fJ (Vn p q).P 31 n=some (bq [.slice none 0 0,.slice none 0 0] n):=by
 have:bz (Vn p q).P 31=some (.agg #[.slice none 0 0,.slice none 0 0]):=by kernel_rfl
 have hs:aH (Vn p q).P 31=2:=by kernel_rfl
 simp only[fJ,this,hs]; rfl
def GL {m0 m:Vj} {rest:List Pc} {b n i j:Nat} {cs:List Us} {tg:Tag} (htg:tg = .own\/tg = .more 2) (hm:Hp m0 m (.obj b (.cells cs tg)::rest)) (hcl:cs.length=n*2) (hone:bf cs=true) (hij:i<j) (hjn:j<=n) (hlim:lim n=true) :
  aD (Vn p q) 98 [.slice (some ⟨b,0,none⟩) n n,.int .i64 (i:Int),.int .i64 (j:Int)] m fun v m'=>v = .slice (some ⟨b,0,none⟩) (n-(j-i)) n /\
   ∃cs',Hp m0 m' (.obj b (.cells cs' tg)::rest)/\cs'.length=cs.length/\cs'.take ((n-(j-i))*2)=cs.take (i*2)++(cs.drop (j*2)).take ((n-j)*2):=by
 have hro:qJ tg=true:=by rcases htg with rfl|rfl<;>rfl
 refine aV (m0:=m0) (ps:=.obj b (.cells cs tg)::rest) (N:=33) (rs:=[.tmp 6]) rfl Tryz.func98 rfl rfl rfl hm ?_;refine UD ?_;refine UG ?_;refine UB (bM rfl) rfl ?_;refine UP ?_;refine UM ?_;refine UD ?_;refine UG ?_;refine UB (aK rfl) rfl ?_;refine UB (aK rfl) rfl ?_;refine UB (aK rfl) rfl ?_;refine UB (aK rfl) rfl ?_;refine UB (jd (k:=0) BY rfl rfl (.inl rfl)) rfl ?_;refine UQ (Ph (k:=0) iI rfl rfl rfl rfl rfl htg (Ql (Nat.le_of_lt hij) hjn (R5 n))) gn rfl fun _=>?_;refine UP ?_;refine UM ?_;refine UD ?_;refine UD ?_;refine UG ?_;refine UB (aK rfl) rfl ?_;refine UB (aK rfl) rfl ?_;refine UB (aI rfl rfl (G0 _ _)) rfl ?_;refine UP ?_;refine UM ?_;refine Wk.eT rfl (R6 (Nat.ne_of_lt hij)) ?_;refine U7 ?_;refine UM ?_;refine UD ?_;refine UG ?_;refine UB (aK rfl) rfl ?_;refine UB (jd (k:=0) BY rfl rfl (.inl rfl)) rfl ?_;refine UB (bM rfl) rfl ?_;refine UP ?_;refine UM ?_;refine UD ?_;refine Wk.draw (by kernel_rfl) ?_
 refine UB (aK rfl) rfl ?_;refine UB (aK rfl) rfl ?_;refine UB (F5 (k:=0) iI rfl rfl rfl rfl htg (QP (by omega)) rfl (by omega)) rfl ?_
 refine UB (aK rfl) rfl ?_;refine UB (aK rfl) rfl ?_;refine UQ (Pb (k:=0) iI rfl rfl rfl htg hjn (QG hjn) (by omega)) gn rfl fun A=>?_
 have hnl:((cs.drop (j*2)).take ((n-j)*2)).length=(n-j)*2:=by simp; omega
 have ho1:bf ((cs.drop (j*2)).take ((n-j)*2))=true:=zh hone fun v hv=>Ty (Tx hv);refine UB (Oh (k:=0) iI ⟨_,BY⟩ rfl rfl hro A.2 hnl ho1 (NJ hlim (by omega)) (by omega) (by rw[hnl]; omega)) rfl ?_
 refine UB (bM rfl) rfl ?_;refine UP ?_;refine UM ?_;refine UD ?_;refine UG ?_;refine UB (aK rfl) rfl ?_;refine UB (aK rfl) rfl ?_;refine UB (jd (k:=0) BY rfl rfl (.inl rfl)) rfl ?_;refine UB (aK rfl) rfl ?_;refine UB (F5 (k:=0) iI rfl rfl rfl rfl htg (PJ (by omega) (by omega)) rfl (by omega)) rfl ?_
 refine U8 (N9 (k:=0) (zs:=bq [.slice none 0 0,.slice none 0 0] (n-(i-0+(n-j)))) iI rfl rfl hro (by omega) Qj (ep (by decide) _) (by intro e; have:=SD List.length e; rw[bS] at this; simp at this; omega) (by rw[bS,ba]; simp; omega)) ?_
 refine UP ?_;refine UM ?_;refine UD ?_;refine UG ?_;refine UB (aK rfl) rfl ?_;refine UB (bM rfl) rfl ?_;refine UP ?_;refine UM ?_;refine Wk.ret ?_;refine UW (.tmp rfl .nil) fun m' hm'=>⟨?_,_,hm',?_,?_⟩
 rw[show i-0+(n-j)=n-(j-i) by omega,TB]; rfl
 rw[ba,ba]
 rw[show(n-(j-i))*2=0+(i-0+(n-j))*2 by omega]
 rw[xD (by rw[hnl]; omega) (by omega),Sw,TB]
end Go.Proofs.YtmndpgfbkicndaaGreat
namespace Go.Ab.W
open Go Go.Ab
attribute [local irreducible] Tm.at Trie.set Trie.get Vj.get Vj.set Vj.alloc Vj.ww Vj.kill
section
variable {α : Type} {r : Rep α} {o : Orp r} {E : Env} {n : Nat} {m0 m : Vj} {fs : Fs} {ps : List Pc} {dr : Bool} {ops : Array Oper} {K : Tm -> Vj -> Prop} {os : List Oper} {prs : List (Nat × Nat)} {ss : List Nk} {ty : Ut}
def aa.BS:aa m0 ps (.gen (cT o (fun _=>False) [] [])::ps):=fun _ hm=>hm.BS
def Wo.uE {x:α} {g:o.G} {qs:List Pc} (hq:o.N x g++ps=qs) (k:∀S,Wo dr E n ops K os m0 fs (.gen (cT o S [x] [o.V x g])::ps)):Wo dr E n ops K os m0 fs qs :=
 Wo.pn (N:=fun S=>.gen (cT o S [x] [o.V x g])::ps) (fun m hm=>⟨_,Hp.uE (by rw[hq]; exact hm)⟩) k
def Wn.uE {x:α} {g:o.G} {qs:List Pc} (hq:o.N x g++ps=qs) (k:∀S,Wn E n ops prs K os ss m0 fs (.gen (cT o S [x] [o.V x g])::ps)):Wn E n ops prs K os ss m0 fs qs :=
 Wn.pn (N:=fun S=>.gen (cT o S [x] [o.V x g])::ps) (fun m hm=>⟨_,Hp.uE (by rw[hq]; exact hm)⟩) k
def tL {elem ty2:Ut} {w c0 l l1:Nat} {a a0:Uo} {S S':Ur} {L L':List α} {es es':Un} {ars:Array Uu} {p0:Pc} (ht:SlT E.P ty elem w) (h3:∃e2,E.P.underlying ty2=some (.slice e2)) (ha:gy E fs ars.toList=some [.slice a l l,.slice a0 l1 c0]) (hr:IsRd p0 a0 c0 w l1 es') (hw:r.w=w) (hl:lim (L++L').length=true) :
  Ox E m0 fs (.gen (cT o S L es)::.gen (cT o S' L' es')::.sl a w l es::p0::ps) (.call ⟨.builtin .append,ars,#[ty,ty2]⟩) (fun y:Uo × (Nat->Prop)=>.slice y.1 (L++L').length (L++L').length)
   (fun y=>.gen (cT o y.2 (L++L') (es++es'))::.sl y.1 w (L++L').length (es++es')::p0::ps):=fun t m hf hm=>⟨fun b hb=>(by simp[aP] at hb),fun K hK=>by
 have e1:l=L.length:=by rw[Pc.rX (hm.get (k:=2) rfl),tV hm (q:=0) rfl]
 have e2:l1=L'.length:=by rw[<-(hm.rd (k:=3) rfl hr).1,tV hm (q:=1) rfl]
 have e0:l+l1=(L++L').length:=by rw[e1,e2,Sd]
 obtain⟨⟨qs,h0,_⟩,_⟩:=(hm.get (k:=1) rfl).1;obtain⟨S'',h1⟩:=hm.FD;obtain⟨a',m',h4,h2⟩:=pN (n:=l) (k:=1) ht h3 h1 rfl (h1.rd (k:=2) rfl hr) (fun e he=>by rw[<-hw]; exact(h0.cells e he).1) (fun e he=>(h0.cells e he).2) (by rw[e0]; exact hl)
 have:bh E.P .append #[ty,ty2] [.slice a l l,.slice a0 l1 c0] m=some (.slice a' (l+l1) (l+l1),m'):=h4;rw[Go.Ab.dx (hf.gy ha) this];rw[e0] at h2 ⊢;exact hK (a',S'') m' h2⟩
end
def ie {γ:Type} {l:List γ} {j:Nat} {e:γ} (h:l[j]? = some e):l.set j e=l:=by
 apply SY;intro i;rw[List.getElem?_set]
 split
 rename_i hij; subst hij;rw[R0 (Se.1 h).1,h]
 rfl
def cY {γ:Type} {l:List γ} {j:Nat} {e e':γ} (h:l[j]? = some e):(l.set j e')[j]? = some e':=by
 rw[List.getElem?_set,R0 rfl,R0 (Se.1 h).1]
section
variable {α β : Type} {r : Rep α} {o : Orp r} {E : Env} {n : Nat} {m0 m : Vj} {fs : Fs} {ps qs : List Pc} {dr : Bool} {ops : Array Oper} {K : Tm -> Vj -> Prop} {os : List Oper} {prs : List (Nat × Nat)} {ss : List Nk} {ty : Ut} {Q : Vl -> Tm -> Vj -> Prop}
def aa.mJ {k b w l:Nat} {es es':Un} {tg:Tag} (hp:pk ps k=some (.arr b w l es tg)) (h:es=es'):aa m0 ps (bT ps k (.arr b w l es' tg)):=fun m hm=>by
 subst h; rw[qb _ _ _ hp]; exact hm
def At.pn {e:Vl} {β:Type} {N:β->List Pc} (h:∀m,Hp m0 m ps->∃y,Hp m0 m (N y)) (k:∀y,At Q e m0 fs (N y)):At Q e m0 fs ps:=fun t m hf hm=>by
 obtain⟨y,hy⟩:=h m hm; exact k y t m hf hy
def yR {S:Ur} {L:List α} {es:Un} {j:Nat} {x:α} (hl:L[j]? = some x):∀m,Hp m0 m (.gen (cT o S L es)::ps) ->
  ∃z:{ z:o.G × (Nat->Prop) × (Nat->Prop) // es[j]? = some (o.V x z.1)},Hp m0 m (o.N x z.1.1++(.gen (cT o z.1.2.1 (L.take j) (es.take j))::.gen (cT o z.1.2.2 (L.drop (j+1)) (es.drop (j+1)))::ps)):=fun m hm=>by
 obtain⟨g,S1,S2,he,h⟩:=hm.J4 hl;exact⟨⟨(g,S1,S2),he⟩,h⟩
def Wo.Cb {S:Ur} {L:List α} {es:Un} {j:Nat} {x:α} {N:o.G->(Nat->Prop)->(Nat->Prop)->List Pc} (hl:L[j]? = some x) (hN:∀g S1 S2,N g S1 S2=o.N x g++(.gen (cT o S1 (L.take j) (es.take j))::.gen (cT o S2 (L.drop (j+1)) (es.drop (j+1)))::ps)) (k:∀g S1 S2,es[j]? = some (o.V x g)->Wo dr E n ops K os m0 fs (N g S1 S2)) :
  Wo dr E n ops K os m0 fs (.gen (cT o S L es)::ps):=Wo.pn (yR hl) fun z=>by rw[<-hN]; exact k _ _ _ z.2
def Wn.Cb {S:Ur} {L:List α} {es:Un} {j:Nat} {x:α} {N:o.G->(Nat->Prop)->(Nat->Prop)->List Pc} (hl:L[j]? = some x) (hN:∀g S1 S2,N g S1 S2=o.N x g++(.gen (cT o S1 (L.take j) (es.take j))::.gen (cT o S2 (L.drop (j+1)) (es.drop (j+1)))::ps)) (k:∀g S1 S2,es[j]? = some (o.V x g)->Wn E n ops prs K os ss m0 fs (N g S1 S2)) :
  Wn E n ops prs K os ss m0 fs (.gen (cT o S L es)::ps):=Wn.pn (yR hl) fun z=>by rw[<-hN]; exact k _ _ _ z.2
def zA {S1 S2:Ur} {L:List α} {es:Un} {j:Nat} {x:α} {g:o.G} (hl:L[j]? = some x) (he:es[j]? = some (o.V x g)) (hq:o.N x g++(.gen (cT o S1 (L.take j) (es.take j))::.gen (cT o S2 (L.drop (j+1)) (es.drop (j+1)))::ps)=qs):∀m,Hp m0 m qs->∃S,Hp m0 m (.gen (cT o S L es)::ps):=fun m hm=>by
 rw[<-hq] at hm;obtain⟨S,h⟩:=hm.Dg hl he;rw[ie hl,ie he] at h;exact⟨S,h⟩
def Wo.Hv {S1 S2:Ur} {L:List α} {es:Un} {j:Nat} {x:α} {g:o.G} (hl:L[j]? = some x) (he:es[j]? = some (o.V x g)) (hq:o.N x g++(.gen (cT o S1 (L.take j) (es.take j))::.gen (cT o S2 (L.drop (j+1)) (es.drop (j+1)))::ps)=qs) (k:∀S,Wo dr E n ops K os m0 fs (.gen (cT o S L es)::ps)):Wo dr E n ops K os m0 fs qs:=Wo.pn (zA hl he hq) k
def Wn.Hv {S1 S2:Ur} {L:List α} {es:Un} {j:Nat} {x:α} {g:o.G} (hl:L[j]? = some x) (he:es[j]? = some (o.V x g)) (hq:o.N x g++(.gen (cT o S1 (L.take j) (es.take j))::.gen (cT o S2 (L.drop (j+1)) (es.drop (j+1)))::ps)=qs) (k:∀S,Wn E n ops prs K os ss m0 fs (.gen (cT o S L es)::ps)):Wn E n ops prs K os ss m0 fs qs:=Wn.pn (zA hl he hq) k
def aa.ij {S:Ur} {L:List α} {es:Un}:aa m0 (.gen (cT o S L es)::ps) (.gen (bU r S L es)::ps):=fun _ hm=>hm.rQ
def FE {S1 S2 S:Ur} {L:List α} {es:Un} {j:Nat} {x y:α} {e:List Us} {g:r.G} (hl:L[j]? = some x) (he:es[j]? = some e) (hf:Lf m0 ps r y g S):∀m,Hp m0 m (.gen (cT o S1 (L.take j) (es.take j))::.gen (cT o S2 (L.drop (j+1)) (es.drop (j+1)))::ps)->∃R,Hp m0 m (.gen (bU r R (L.set j y) (es.set j (r.V y g)))::ps):=fun m hm=>by
 have h1:=hm.rQ;have h2:Hp m0 m (.gen (cT o S2 (L.drop (j+1)) (es.drop (j+1)))::.gen (bU r S1 (L.take j) (es.take j))::ps):=h1.perm (List.Perm.swap _ _ _);have h3:=h2.rQ;have h0:Hp m0 m ps:=by
  have:=h3.ok;exact⟨h3.ext,fun p hp=>h3.ok p (Sx _ (Sx _ hp)),(Sk.1 (Sk.1 h3.apart).2).2⟩
 obtain⟨a1,a2⟩:=hf m h0;have h4:gA m0 (.gen (bU r S2 (L.drop (j+1)) (es.drop (j+1)))::.gen (bU r S1 (L.take j) (es.take j))::ps) r [y] [r.V y g] (fun b=>S b\/False):=fun m' hm'=>by
  have h5:Hp m0 m' ps:=⟨hm'.ext,fun p hp=>hm'.ok p (Sx _ (Sx _ hp)),(Sk.1 (Sk.1 hm'.apart).2).2⟩;obtain⟨b1,b2⟩:=hf m' h5;refine⟨.cons (r.mono b1 fun _ h=>.inl h) .nil,fun b hb=>?_⟩;obtain⟨q,hq,h⟩:=b2 b (hb.elim id False.elim);exact⟨q,Sx _ (Sx _ hq),h⟩
 have h6:=aa.dp h4 m h3;have h7:=aa.Cr (m0:=m0) (q:=0) (q2:=1) rfl rfl m h6;have h8:=aa.Cr (m0:=m0) (q:=2) (q2:=0) rfl rfl m h7;have h9:Hp m0 m (.gen (bU r (fun b=>S1 b\/((S b\/False)\/S2 b)) (L.take j++([y]++L.drop (j+1))) (es.take j++([r.V y g]++es.drop (j+1))))::ps):=⟨h8.ext,fun p hp=>h8.ok p (Sx _ (Sx _ hp)),(Sk.1 (Sk.1 h8.apart).2).2⟩;refine⟨fun b=>S1 b\/((S b\/False)\/S2 b),?_⟩;rw[gU y (Se.1 hl).1,gU (r.V y g) (Se.1 he).1];exact h9
def At.iD {ex:Vl} {S1 S2 S:Ur} {L:List α} {es:Un} {j:Nat} {x y:α} {e:List Us} {g:r.G} (hl:L[j]? = some x) (he:es[j]? = some e) {e2:List Us} (hf:Lf m0 ps r y g S) (hV:∀m,Hp m0 m ps->r.V y g=e2) (k:∀R,At Q ex m0 fs (.gen (bU r R (L.set j y) (es.set j e2))::ps)) :
  At Q ex m0 fs (.gen (cT o S1 (L.take j) (es.take j))::.gen (cT o S2 (L.drop (j+1)) (es.drop (j+1)))::ps):=At.pn (fun m hm=>by
 obtain⟨R,hR⟩:=FE hl he hf m hm;have h0:Hp m0 m ps:=⟨hR.ext,fun p hp=>hR.ok p (Sx _ hp),(Sk.1 hR.apart).2⟩;rw[hV m h0] at hR;exact⟨R,hR⟩) k
def Hp.O5 {f:β->List Us} {w:Nat} {r2:Rep α} {o2:Orp r2} {S:Ur} {L:List (List β × α)} {es:Un} {k q:Nat} {x:List β × α} (hm:Hp m0 m ps) (hq:pk ps q=some (.gen (cT (oP (oS f w) o2) S L es))) (hl:L[k]? = some x) :
  ∃a h,es[k]? = some (.slice a x.1.length x.1.length::h)/\Rd m a x.1.length w x.1.length (x.1.map f):=by
 obtain⟨⟨qs,h1,h2⟩,_⟩:=(hm.get hq).1;obtain⟨q1,q2,rfl,h3,h4⟩:=h1.split k;have hk:k<L.length:=(Se.1 hl).1;have hke:k<es.length:=by rw[h1.len]; exact hk
 have hd:L.drop k=x::L.drop (k+1):=by
  rw[TU hk];rw[RY hk] at hl;rw[R2 hl]
 rw[hd,TU hke] at h4;obtain⟨g,q3,e1,rfl,h5⟩:=h4;have hmem:(.sl g.1 w x.1.length (x.1.map f):Pc) ∈ q1++((oP (oS f w) o2).N x g++q3):=Tf _ (SJ _ (SJ _ (Sh.2 rfl)));refine⟨g.1,o2.V x.2 g.2,by rw[RY hke,e1]; rfl,?_⟩
 exact Pc.DK (p:=.sl g.1 w x.1.length (x.1.map f)) (h2.1 _ hmem).1 (.sl ..)
def Wo.L6 {k q w l:Nat} {a:Uo} {S:Ur} {L:List α} {es:Un} (hp:pk ps k=some (.sl a w l es)) (hq:pk ps q=some (.gen (cT o S L es))) (h:l=L.length->Wo dr E n ops K os m0 fs ps):Wo dr E n ops K os m0 fs ps:=by
 have key:∀m,Hp m0 m ps->l=L.length:=fun m hm=>(Pc.rX (hm.get hp)).trans (tV hm hq);cases dr with
 | false=>exact fun t m hf hm=>h (key m hm) t m hf hm
 | true=>exact fun t m w hf hm hw=>h (key m hm) t m w hf hm hw
def Wn.L6 {k q w l:Nat} {a:Uo} {S:Ur} {L:List α} {es:Un} (hp:pk ps k=some (.sl a w l es)) (hq:pk ps q=some (.gen (cT o S L es))) (h:l=L.length->Wn E n ops prs K os ss m0 fs ps):Wn E n ops prs K os ss m0 fs ps :=
 fun t m ns hf hm hn=>h ((Pc.rX (hm.get hp)).trans (tV hm hq)) t m ns hf hm hn
def B9:∀p ∈ ([]:List Pc),p.bound=true/\∀b,p.any b->p.ow b:=fun p hp=>by cases hp
def wU {l:List Pc} {a:Uo} {w k:Nat} {es:Un} (h:∀p ∈ l,p.bound=true/\∀b,p.any b->p.ow b):∀p ∈ (Pc.sl a w k es::l),p.bound=true/\∀b,p.any b->p.ow b:=fun p hp=>by
 rcases Sp.1 hp with rfl|hp
 exact⟨rfl,fun b hb=>Ar hb⟩
 exact h p hp
def FF {l:List Pc} {S:Ur} {L:List α} {es:Un} (h:∀p ∈ l,p.bound=true/\∀b,p.any b->p.ow b):∀p ∈ (Pc.gen (cT o S L es)::l),p.bound=true/\∀b,p.any b->p.ow b:=fun p hp=>by
 rcases Sp.1 hp with rfl|hp
 exact⟨rfl,fun b hb=>hb.elim (fun h=>by cases h) fun h=>h.elim (fun h=>.inr h) fun h=>h.elim⟩
 exact h p hp
def Hp.od {q:Nat} {S:Ur} {L:List α} {es:Un} (hm:Hp m0 m ps) (hq:pk ps q=some (.gen (cT o S L es))):(bU r S L es).P m:=by
 obtain⟨⟨qs,h1,h2⟩,h3⟩:=(hm.get hq).1;exact⟨h1.H7 (fun p hp=>(h2.1 p hp).1) fun p hp b hb=>(h2.1 p hp).2.2.2 b ((h2.1 p hp).2.2.1 b hb),h3⟩
def Hp.rB {f:β->List Us} {w:Nat} {r2:Rep α} {o2:Orp r2} {S1 S2:Ur} {L:List (List β × α)} {es:Un} {j k q0 q1 q2:Nat} {z x:List β × α} {a0:Uo} {h0:List Us} (hm:Hp m0 m ps) (hl:L[j]? = some z) (he:es[j]? = some (.slice a0 z.1.length z.1.length::h0)) (hx:L[k]? = some x)
  (hq0:pk ps q0=some (.sl a0 w z.1.length (z.1.map f))) (hq1:pk ps q1=some (.gen (cT (oP (oS f w) o2) S1 (L.take j) (es.take j)))) (hq2:pk ps q2=some (.gen (cT (oP (oS f w) o2) S2 (L.drop (j+1)) (es.drop (j+1))))) :
  ∃a h,es[k]? = some (.slice a x.1.length x.1.length::h)/\Rd m a x.1.length w x.1.length (x.1.map f):=by
 rcases Nat.lt_trichotomy k j with h|h|h
 obtain⟨a,t,h1,h2⟩:=hm.O5 (k:=k) (x:=x) hq1 (by rw[S6,R0 h]; exact hx)
 rw[S6,R0 h] at h1;exact⟨a,t,h1,h2⟩
 subst h;rw[hl] at hx; cases hx;exact⟨a0,h0,he,Pc.DK (hm.get hq0) (.sl ..)⟩
 obtain⟨a,t,h1,h2⟩:=hm.O5 (k:=k-(j+1)) (x:=x) hq2 (by rw[S7,show j+1+(k-(j+1))=k by omega]; exact hx)
 rw[S7,show j+1+(k-(j+1))=k by omega] at h1
 exact⟨a,t,h1,h2⟩
def Wn.rB {f:β->List Us} {w:Nat} {r2:Rep α} {o2:Orp r2} {S1 S2:Ur} {L:List (List β × α)} {es:Un} {j k q0 q1 q2:Nat} {z x:List β × α} {a0:Uo} {h0:List Us} (hl:L[j]? = some z) (he:es[j]? = some (.slice a0 z.1.length z.1.length::h0)) (hx:L[k]? = some x)
  (hq0:pk ps q0=some (.sl a0 w z.1.length (z.1.map f))) (hq1:pk ps q1=some (.gen (cT (oP (oS f w) o2) S1 (L.take j) (es.take j)))) (hq2:pk ps q2=some (.gen (cT (oP (oS f w) o2) S2 (L.drop (j+1)) (es.drop (j+1)))))
  (kk:∀a h,es[k]? = some (.slice a x.1.length x.1.length::h)->(∀m,Hp m0 m ps->Rd m a x.1.length w x.1.length (x.1.map f))->Wn E n ops prs K os ss m0 fs ps):Wn E n ops prs K os ss m0 fs ps:=fun t m ns hf hm hn=>by
 obtain⟨a,h,h1,_⟩:=hm.rB hl he hx hq0 hq1 hq2;refine kk a h h1 (fun m' hm'=>?_) t m ns hf hm hn;obtain⟨a',h',h3,h4⟩:=hm'.rB hl he hx hq0 hq1 hq2;rw[h1] at h3;have e:=Tp (R2 h3);injection e with e;rw[e]; exact h4
def Lf.sr {f:β->List Us} {a:Uo} {k cap w l:Nat} {xs:List β} (hp:pk ps k=some (.rd a cap w l (xs.map f))):Lf m0 ps (rS f w) xs (a,cap) (fun b=>j4 a=some b):=fun m hm=>by
 have e:=pQ hm hp;subst e;exact Lf.s hp m hm
def Lf.lr {a:Uo} {k cap w q l:Nat} {R:Ur} {xs:List α} {es:Un} (hp:pk ps k=some (.rd a cap w l es)) (hq:pk ps q=some (.gen (bU r R xs es))) (hw:r.w=w):Lf m0 ps (rL r) xs (a,cap,es) (fun b=>j4 a=some b\/R b):=fun m hm=>by
 have e:l=xs.length:=(hm.get hp).1.symm.trans (lU hm hq);subst e;exact Lf.l hp hq hw m hm
end
end Go.Ab.W
namespace Go.Proofs.YtmndpgfbkicndaaGreat
section
open Go Go.Ab Go.Ab.W
set_option maxRecDepth 10000
set_option maxHeartbeats 4000000
attribute [local irreducible] Wo Wk At Wn Od Ox bp bZ
attribute [local irreducible] Tm.at Trie.set Trie.get Vj.get Vj.set Vj.alloc Vj.ww Vj.kill
variable {p q : Option Prim}
def z26:bz (Vn p q).P 26=some (.agg #[.slice none 0 0,.slice none 0 0]):=by kernel_rfl
def xE:BdT (Vn p q).P 26 (.agg #[.slice none 0 0,.slice none 0 0]) [(0,1),(1,1)]:=.mk' (by kernel_rfl) (by kernel_rfl)
def mN:BdT (Vn p q).P 31 (.agg #[.slice none 0 0,.slice none 0 0]) [(0,1),(1,1)]:=.mk' (by kernel_rfl) (by kernel_rfl)
abbrev ig:Orp aY:=(oS (eI .i64) 1)
abbrev cJ:Orp ai:=(oP (oS (eI .i64) 1) (oL ig))
def EH {n l7 l1 a7 c1 a8 c2} {r0:Ur} {e0:Un} {r} (hF:NO n l7 l1=some r) (m) (h2:dm m a7 c1 l7) (h3:fh m a8 c2 l1 e0) (h4:(bU ai r0 l1 e0).P m):
 aD (Vn p q) 97 [dN a7 l7 c1 a8 l1 c2] m (fun v m'=>∃x:Uo × Nat × Uo × Nat × Un × (Nat->Prop),v = .agg #[.slice x.1 x.2.1 x.2.1,.slice x.2.2.1 x.2.2.2.1 x.2.2.2.1]/\Hp m m' [.sl x.1 2 x.2.1 (r.1.map (eP (eI .i64) (eI .i64))),.sl x.2.2.1 2 x.2.2.2.1 x.2.2.2.2.1,.gen (cT cJ x.2.2.2.2.2 r.2 x.2.2.2.2.1)]):=by
 unfold NO at hF;refine cw Tryz.func97 (UZ (UN (UN (UJ m) bP h2) (bC bP) h3) (bC (bC bP)) h4) ?_;refine wz ?_;refine wb fun b4=>?_;refine wa z26 fun b0=>?_;refine ak ?_;refine UB (eK rfl rfl (ff _ _)) rfl ?_;obtain⟨h5,hF⟩:=aA hF;refine UQ (si (k:=4) (lo:=0) (hi:=mi (l7.length:Int) (125:Int)) sB rfl rfl rfl rfl h5 (.inl ⟨rfl,rfl⟩) (.inr ⟨_,rfl⟩)) gn rfl ?_;rintro⟨a11,c4⟩;obtain⟨l4,h6,hF⟩:=J hF;refine wc gn (fun m hm=>IB n (Ve l7 125) a11 c4 _ h6 m (hm.q 0)) ?_;rintro⟨a0,n0⟩;refine U5 (k:=0) (xs:=l4) rfl ?_;rintro rfl;refine UB (cD rfl z26 rfl (cE xE rfl rfl rfl)) rfl<|wa z26 fun b1=>?_;refine ak ?_;refine UB (eK rfl rfl (ff _ _)) rfl ?_;obtain⟨h7,hF⟩:=aA hF;refine UQ (GD (r:=ai) (k:=6) (q:=5) (lo:=0) (hi:=mi (l1.length:Int) (66:Int)) iI rfl rfl rfl rfl rfl h7 (.inl ⟨rfl,rfl⟩) (.inr ⟨_,rfl⟩)) gn rfl ?_;rintro⟨a9,c0⟩;refine wz ?_;refine UE ?_;obtain⟨l8,h0,hF⟩:=J hF;refine ct (fun l8 ((a4,e4,r3):Uo × Un × (Nat->Prop))=>⟨(.exit 0),(pI b0 b1 []),[fQ b0,s9 b1 a0 l4 a4 l8,cZ a0 l4,jF a4 l8 e4,pF cJ r3 l8 e4]⟩) l8 ?_ ?_;refine lw h0 ((none,[],(fun _=>False)):Uo × Un × (Nat->Prop)) (fun(l2,v0) ((a1,e1,r1):Uo × Un × (Nat->Prop))=>⟨.normal,(pI b0 b1 [(24,.slice a9 ((Ve l1 66).length) c0),(25,.int .i64 ((Ve l1 66).length:Int)),(26,aM v0)]),[fQ b0,s9 b1 a0 l4 a1 l2,cZ a0 l4,jF a1 l2 e1,pF cJ r1 l2 e1,.rd a9 c0 2 ((Ve l1 66).length) ((e0.drop Uy).take ((mi (l1.length:Int) (66:Int):Int).toNat-Uy)),.gen (bU ai r0 (Ve l1 66) ((e0.drop Uy).take ((mi (l1.length:Int) (66:Int):Int).toNat-Uy)))]⟩) (UK (U9 2 rfl) (UK (aa.BS (o:=cJ)) (UH [7,4,5,1,0,2,3] rfl rfl))) ?_;clear hF h0;rintro⟨l2,v0⟩ ⟨a1,e1,r1⟩ r hF;unfold uX at hF;refine wz ?_;refine UD ?_;rcases U hF with⟨h8,hF⟩|⟨h8,hF⟩;refine ak ?_;obtain⟨h9,hF⟩:=bJ hF;refine UO (k:=5) rfl (ay h9) ?_;rintro b2 o1 rfl;refine wz ?_;obtain⟨⟨l11,l3⟩,h10,hF⟩:=J hF;refine wl 2 0 7 0 h10 ?_;rintro⟨⟨a16,c7⟩,⟨a17,c8,e6⟩⟩;refine wa z31 fun b5=>?_;refine ak ?_;refine UB (eK rfl rfl (ff _ _)) rfl ?_;obtain⟨h11,hF⟩:=aA hF;refine UQ (si (k:=1) (lo:=0) (hi:=mi (l11.length:Int) (42:Int)) eZ rfl rfl rfl rfl h11 (.inl ⟨rfl,rfl⟩) (.inr ⟨_,rfl⟩)) gn rfl ?_;rintro⟨a12,c5⟩;obtain⟨l5,h12,hF⟩:=J hF;refine wc gn (fun m hm=>pt n (Ve l11 42) a12 c5 _ h12 m (hm.q 0)) ?_;rintro⟨a2,n1⟩;refine U5 (k:=0) (xs:=l5) rfl ?_;rintro rfl;refine UB (cD rfl z31 rfl (cE mN rfl rfl rfl)) rfl<|wa z31 fun b3=>?_;refine ak ?_;refine UB (eK rfl rfl (ff _ _)) rfl ?_;obtain⟨h13,hF⟩:=aA hF;refine UQ (GD (r:=aY) (k:=5) (q:=6) (lo:=0) (hi:=mi (l3.length:Int) (10:Int)) lh rfl rfl rfl rfl rfl h13 (.inl ⟨rfl,rfl⟩) (.inr ⟨_,rfl⟩)) gn rfl ?_;rintro⟨a10,c3⟩;refine wz ?_;refine UE ?_;obtain⟨l6,h1,hF⟩:=J hF;refine ct (fun l6 ((a3,e5,r4):Uo × Un × (Nat->Prop))=>⟨(.exit 2),(pI b0 b1 [(6,ptr b3 0),(24,.slice (some ⟨b2,o1,none⟩) ((Ve l1 66).length) c0),(25,.int .i64 ((Ve l1 66).length:Int)),(26,aM v0)]),[fQ b0,s9 b1 a0 l4 a1 l2,cZ a0 l4,jF a1 l2 e1,pF cJ r1 l2 e1,s9 b3 a2 l5 a3 l6,tS a2 l5,.sl a3 1 l6.length e5,pF ig r4 l6 e5,.ro b2 o1 2 ((Ve l1 66).length) ((e0.drop Uy).take ((mi (l1.length:Int) (66:Int):Int).toNat-Uy)),.gen (bU ai r0 (Ve l1 66) ((e0.drop Uy).take ((mi (l1.length:Int) (66:Int):Int).toNat-Uy))),.rd (some ⟨b2,o1,none⟩) c0 2 ((Ve l1 66).length) ((e0.drop Uy).take ((mi (l1.length:Int) (66:Int):Int).toNat-Uy))]⟩) l6 ?_ ?_;refine lw h1 ((none,[],(fun _=>False)):Uo × Un × (Nat->Prop)) (fun(l9,v1) ((a5,e3,r5):Uo × Un × (Nat->Prop))=>⟨.normal,(pI b0 b1 [(6,ptr b3 0),(24,.slice (some ⟨b2,o1,none⟩) ((Ve l1 66).length) c0),(25,.int .i64 ((Ve l1 66).length:Int)),(26,aM v0),(45,.slice a10 ((Ve l3 10).length) c3),(46,.int .i64 ((Ve l3 10).length:Int)),(47,aM v1)]),[fQ b0,s9 b1 a0 l4 a1 l2,cZ a0 l4,jF a1 l2 e1,pF cJ r1 l2 e1,s9 b3 a2 l5 a5 l9,tS a2 l5,.sl a5 1 l9.length e3,pF ig r5 l9 e3,.ro b2 o1 2 ((Ve l1 66).length) ((e0.drop Uy).take ((mi (l1.length:Int) (66:Int):Int).toNat-Uy)),.gen (bU ai r0 (Ve l1 66) ((e0.drop Uy).take ((mi (l1.length:Int) (66:Int):Int).toNat-Uy))),.rd (some ⟨b2,o1,none⟩) c0 2 ((Ve l1 66).length) ((e0.drop Uy).take ((mi (l1.length:Int) (66:Int):Int).toNat-Uy)),.rd a10 c3 1 ((Ve l3 10).length) ((e6.drop Uy).take ((mi (l3.length:Int) (10:Int):Int).toNat-Uy)),.gen (bU aY r0 (Ve l3 10) ((e6.drop Uy).take ((mi (l3.length:Int) (10:Int):Int).toNat-Uy)))]⟩) (UK (U9 1 rfl) (UK (aa.BS (o:=ig)) (UH [12,13,14,15,16,4,5,1,0,11,18,17,2,3] rfl rfl))) ?_;clear hF h1;rintro⟨l9,v1⟩ ⟨a5,e3,r5⟩ r hF;unfold uN at hF;refine wz ?_;refine UD ?_;rcases U hF with⟨h14,hF⟩|⟨h14,hF⟩;refine ak ?_;obtain⟨h15,hF⟩:=bJ hF;refine UO (k:=12) rfl (ay h15) ?_;rintro b6 o2 rfl;refine wz ?_;obtain⟨l12,h16,hF⟩:=J hF;refine wl 1 0 14 0 h16 ?_;rintro⟨a18,c9⟩;refine wz ?_;refine UY (prs:=[(1,7)]) (by kernel_rfl)<|UC (aL (r:=ptr b3 1) rfl (eu _ _)) rfl<|UC (aC (k:=7) kO rfl rfl rfl) rfl<|UC (aK rfl) rfl<|UC (aK rfl) rfl<|UC (jd (k:=0) Ir rfl rfl (.inl rfl)) rfl<|UC (eK rfl rfl (ff _ _)) rfl ?_
 obtain⟨h17,hF⟩:=aA hF;refine U3 (si (k:=0) (lo:=0) (hi:=mi (l12.length:Int) (42:Int)) eZ rfl rfl rfl rfl h17 (.inl ⟨rfl,rfl⟩) (.inr ⟨_,rfl⟩)) gn rfl ?_;rintro⟨a13,c6⟩;obtain⟨l10,h18,hF⟩:=J hF;refine nc gn (fun m hm=>pt n (Ve l12 42) a13 c6 _ h18 m (hm.q 0)) ?_;rintro⟨a6,n2⟩;refine Wn.len (k:=0) (xs:=l10) rfl ?_;rintro rfl;refine U3 (cm (es:=[[bO a6 l10]]) lh rfl (ck lh z28 rfl rfl) rfl rfl) gn rfl fun b7=>?_;refine Vb (UH (1::0::Vd 2 17) rfl rfl)<|Wn.uE (o:=ig) (x:=l10) (g:=a6) rfl ?_;intro r8;obtain⟨h19,hF⟩:=aA hF;refine Vb (UH [13,0,12,1,2,3,4,5,6,7,8,9,10,11,14,15,16,17,18] rfl rfl)<|U3 (tL (o:=ig) (L:=l9) (L':=([l10]:Um)) lh ⟨_,El⟩ rfl (.arr _ _ _ _ _) rfl h19) gn rfl ?_;rintro⟨a14,r6⟩;refine UC (aL (r:=ptr b3 1) rfl (eu _ _)) rfl<|U4 (dI (k:=11) kO rfl rfl rfl rfl rfl)<|UT (fun m hm=>cn.all rfl) ?_;refine ak ?_;cases hF;exact ae (a14,(e3++([[bO a6 l10]]:Un)),r6) [6,7,8,9,10,11,12,1,0,13,14,15,16,17];refine wz ?_;cases hF;exact ae (a5,e3,r5) (Vd 0 12);rintro⟨a3,e5,r4⟩;refine ak ?_;refine UQ (cm (es:=[[bO a2 l5,bO a3 l6]]) iI rfl (ck iI z31 rfl rfl) rfl rfl) gn rfl fun b8=>?_;refine UR (UH [7,8,9,0,1,2,3,4,5,6,10,11,12] rfl rfl)<|Wo.uE (o:=cJ) (x:=(l5,l6)) (g:=(a2,(a3,e5,r4))) rfl ?_;intro r9;obtain⟨h20,hF⟩:=aA hF;refine UR (UH [6,0,5,1,2,3,4,7,8,9,10] rfl rfl)<|UQ (tL (o:=cJ) (L:=l2) (L':=([(l5,l6)]:Uj)) iI ⟨_,BY⟩ rfl (.arr _ _ _ _ _) rfl h20) gn rfl ?_;rintro⟨a15,r7⟩;refine ak ?_;cases hF;exact ae (a15,(e1++([[bO a2 l5,bO a3 l6]]:Un)),r7) [3,4,5,1,0,9,8];refine wz ?_;cases hF;exact ae (a1,e1,r1) (Vd 0 5);rintro⟨a4,e4,r3⟩;refine dz ?_;cases hF;exact UW (.cell (k:=0) dA rfl rfl rfl .nil) fun m' hm=>⟨(a0,l4.length,a4,l8.length,e4,r3),rfl,(UH [2,3,4] rfl rfl) m' hm⟩
end
section
open Go Go.Ab Go.Ab.W
set_option maxRecDepth 10000
set_option maxHeartbeats 4000000
attribute [local irreducible] Tm.at Trie.set Trie.get Vj.get Vj.set Vj.alloc Vj.ww Vj.kill
variable {p q : Option Prim}
def Ie (n:Nat) {m0 m:Vj} {ps:List Pc} {k:Nat} {a:Uo} {l r:List Int} {i j:Int} (h:Hp m0 m ps) (hp:pk ps k=some (.sl a 1 l.length (l.map (eI .i64)))) (hF:NK n l i j=some r) :
  aD (Vn p q) 101 [.slice a l.length l.length,.int .i64 i,.int .i64 j] m (fun v m'=>∃_:Unit,v = .slice a r.length l.length/\Hp m0 m' (bT ps k (.gen (nI a l.length 1 r.length (r.map (eI .i64)))))):=by
 obtain⟨hc,hF⟩:=aA hF;simp only[R4,Sf] at hc;obtain⟨⟨⟨⟨c0,c1⟩,c2⟩,c3⟩,c4⟩:=hc;have hr:=R2 hF;subst hr;obtain⟨es,hes⟩:∃es,es=l.map (eI .i64):=⟨_,rfl⟩;have hel:es.length=l.length:=by rw[hes,Sj]
 have hwid:∀e ∈ es,e.length=1:=fun e he=>by rw[hes] at he; obtain⟨x,_,rfl⟩:=Te.1 he; rfl
 have hone:dG es:=fun e he=>by rw[hes] at he; obtain⟨x,_,rfl⟩:=Te.1 he; rfl
 rw[show(l.take i.toNat++l.drop j.toNat).map (eI .i64)=es.take i.toNat++es.drop j.toNat by rw[hes,List.map_append,List.map_take,List.map_drop]]
 rw[<-hes] at hp;rcases h.get hp with⟨h0,_⟩|⟨b,tg,rfl,g1,g2,g3,g4,g5,g6,g7⟩
 omega
 ·have hfl:es.flatten.length=l.length*1:=by rw[cO hwid,hel]
  have hwb:gH m 1 b l.length l.length=some (es.flatten,tg):=by
   unfold gH;rcases g6 with rfl|rfl<;>simp only[g3]
   rw[R0 ⟨trivial,hfl⟩]
   rw[R0 ⟨trivial,hfl,trivial⟩]
  have ft:∀(k:Nat) (l:Un),(∀e ∈ l,e.length=1)->(l.take k).flatten=l.flatten.take k/\(l.drop k).flatten=l.flatten.drop k:=by
   intro k l
   induction l generalizing k with
   | nil=>intro _; simp
   | cons e l ih =>
    intro hl;cases k with
    | zero=>simp
    | succ k =>
     obtain⟨x1,x2⟩:=ih k fun e he=>hl e (Sx _ he);have he:=hl e (SP ..);obtain⟨y,rfl⟩:∃y,e = [y]:=List.length_eq_one_iff.1 he;simp[x1,x2]
  have hlen:(l.take i.toNat++l.drop j.toNat).length=l.length-(j.toNat-i.toNat):=by simp; omega
  refine aD.cV (p:=⟨jW (.int .i64 0)⟩) rfl (v:=.slice (some ⟨b,0,none⟩) (l.take i.toNat++l.drop j.toNat).length l.length) (m':=m.set b (.cells (es.flatten.take i.toNat++es.flatten.drop j.toNat++List.replicate (j.toNat-i.toNat) (.int .i64 0)) tg)) ?_ ⟨(),rfl,?_⟩
  show jW _ [.slice (some ⟨b,0,none⟩) l.length l.length,.int .i64 i,.int .i64 j] m=_
  simp only[jW,hwb];rw[R0 ⟨c1,c2,c3,c4,ik hone⟩,hlen]
  refine h.CN hp (fun b' hb=>.inl (.inl ⟨rfl,hb.elim (fun h=>by cases h.1) id⟩)) (fun b' hb=>.inl (.inl (hb.elim (fun h=>by cases h) fun h=>h.elim id fun h=>h.elim))) (by rw[Vj.next_set]; exact R5 _) (h.ext.set g1 _) ⟨⟨?_,?_,by decide,by rw[hlen]; omega,.inr ⟨b,List.replicate (j.toNat-i.toNat) (.int .i64 0),tg,rfl,by rw[Vj.next_set]; exact g2,?_,g6,?_⟩⟩,fun _ b' hb=>by cases hb; exact g1⟩ fun b' hb hlt=>?_
  rw[hlen]; simp; omega
  intro e he;rcases Sm.1 he with he|he
  exact hwid e (Tx he)
  exact hwid e (Ty he)
  rw[Vj.bD,R0 rfl,Tn,(ft _ es hwid).1,(ft _ es hwid).2]
  have e1:=(ft i.toNat es hwid).1;have e2:=(ft j.toNat es hwid).2;rw[Tn,e1,e2];simp[hfl]; omega
  rw[Vj.bD,RZ fun e=>hb (.inl ⟨rfl,by rw[e]; rfl⟩)]
def G6 (l:List Int):((l.map (eI .i64)).flatten).all aS=true:=by
 induction l with
 | nil=>rfl
 | cons x l ih=>rw[Tk,SQ,List.all_append,ih]; rfl
def rv (l:List Int):(l.map (eI .i64)).flatten=l.map (fun x=>Value.int .i64 x):=by
 induction l with
 | nil=>rfl
 | cons x l ih=>rw[Tk,SQ,ih]; rfl
def used {m0 m:Vj} {ps:List Pc} (h:Hp m0 m ps) {k b n n3:Nat} {es es3:Un} (hp:pk ps k=some (.sl (some ⟨b,0,none⟩) 1 n es)) (hn:es3.length=n3) (hw:∀e ∈ es3,e.length=1) :
  Hp m0 ((m.kill b).alloc (.cells es3.flatten (.more 1))) (bT ps k (.sl (some ⟨m.next,0,none⟩) 1 n3 es3)):=by
 have hb:m0.next<=b:=by
  rcases h.get hp with⟨_,_,h3,_⟩|⟨b',tg,h1,h2⟩
  cases h3
  cases h1; exact h2.1
 have hk:Ext m0 (m.kill b):=⟨by rw[Vj.next_kill]; exact h.ext.next,fun x hx=>by rw[Vj.dU,Uz]; exact h.ext.same x hx,by
  rw[Vj.wl_kill];have:=h.ext.wl; omega⟩
 refine h.renew hp (by rw[Vj.next_alloc,Vj.next_kill]; omega) (hk.alloc _) (.inr ⟨m.next,.more 1,rfl,h.ext.next,by rw[Vj.next_alloc,Vj.next_kill]; omega,by rw[Vj.aZ,Vj.next_kill,R0 rfl],hn,hw,.inr rfl,by decide⟩) (fun b' hb'=>?_) rfl fun b' hb' hlt=>?_
 cases hb'; exact R5 _
 rw[Vj.aZ,Vj.next_kill,Uz,Vj.dU,RZ (fun e=>hb' (by rw[e]; rfl))]
def IC {m0 m:Vj} {ps:List Pc} (h:Hp m0 m ps) {k n n3:Nat} {es es3:Un} (hp:pk ps k=some (.sl none 1 n es)) (hn:es3.length=n3) (hw:∀e ∈ es3,e.length=1) :
  Hp m0 (m.alloc (.cells es3.flatten (.more 1))) (bT ps k (.sl (some ⟨m.next,0,none⟩) 1 n3 es3)):=by
 refine h.renew hp (by rw[Vj.next_alloc]; omega) (h.ext.alloc _) (.inr ⟨m.next,.more 1,rfl,h.ext.next,by rw[Vj.next_alloc]; omega,by rw[Vj.aZ,R0 rfl],hn,hw,.inr rfl,by decide⟩) (fun b' hb'=>?_) rfl fun b' _ hlt=>?_
 cases hb'; exact R5 _
 rw[Vj.aZ,Uz]
def Ep (n:Nat) {m0 m:Vj} {ps:List Pc} (h:Hp m0 m ps) {k k2 b2:Nat} {a:Uo} {i:Int} {l r:List Int} {x:Int} (hp:pk ps k=some (.sl a 1 l.length (l.map (eI .i64)))) (hp2:pk ps k2=some (.arr b2 1 1 ([x].map (eI .i64)) .own)) (hk:Nat.beq k2 k=false) (hF:MS n l i [x]=some r) :
  aD (Vn p q) 102 [.slice a l.length l.length,.int .i64 i,.slice (some ⟨b2,0,none⟩) 1 1] m (fun v m'=>∃y:Uo × Nat,v = .slice y.1 y.2 y.2/\Hp m0 m' (bT ps k (.sl y.1 1 y.2 (r.map (eI .i64))))):=by
 obtain⟨hc,hF⟩:=aA hF;simp only[R4,Sf] at hc;obtain⟨⟨c1,c2⟩,c4⟩:=hc;have hr:=R2 hF;subst hr;obtain⟨i,rfl⟩:=TO c1;have hi:i<=l.length:=by omega
 simp only[Ss];have hv:m.get b2=some (.cells [.int .i64 x] .own):=(h.get hp2).2.2.1;have hw1:∀l:List Int,∀e ∈ l.map (eI .i64),e.length=1:=fun l e he=>by obtain⟨y,_,rfl⟩:=Te.1 he; rfl
 have e3:(l.take i++([x]++l.drop i)).length=l.length+1:=by simp; omega
 rcases h.get hp with⟨h0,h1,rfl,_⟩|⟨b,tg,rfl,g1,g2,g3,g4,g5,g6,g7⟩
 have hl:l = []:=TT.1 h1;subst hl;obtain rfl:i=0:=by simpa using hi
 refine aD.cV (p:=⟨kI⟩) rfl (v:=.slice (some ⟨m.next,0,none⟩) 1 1) (m':=m.alloc (.cells [.int .i64 x] (.more 1))) ?_ ⟨(some ⟨m.next,0,none⟩,1),rfl,IC (es3:=[x].map (eI .i64)) h hp rfl (hw1 _)⟩
 show kI [.slice none 0 0,.int .i64 0,.slice (some ⟨b2,0,none⟩) 1 1] m=_
 simp only[kI,hv]
 have hne:b2≠b:=fun e=>(fw h.apart hp2 hp (T7 hk)).1 b2 (.inl ⟨rfl,rfl⟩) (.inl (by rw[e]; rfl))
 have hwb:gH m 1 b l.length l.length=some ((l.map (eI .i64)).flatten,tg):=by
  unfold gH;rcases g6 with rfl|rfl<;>simp only[g3]
  rw[R0 ⟨trivial,by rw[rv]; simp⟩]
  rw[R0 ⟨trivial,by rw[rv]; simp,trivial⟩]
 refine aD.cV (p:=⟨kI⟩) rfl (v:=.slice (some ⟨m.next,0,none⟩) (l.length+1) (l.length+1)) (m':=(m.kill b).alloc (.cells ((l.take i++([x]++l.drop i)).map (eI .i64)).flatten (.more 1))) ?_ ⟨(some ⟨m.next,0,none⟩,l.length+1),rfl,used h hp (by simpa using e3) (hw1 _)⟩
 show kI [.slice (some ⟨b,0,none⟩) l.length l.length,.int .i64 (i:Int),.slice (some ⟨b2,0,none⟩) 1 1] m=_
 simp only[kI,hv,hwb];rw[R0 ⟨hne,by omega,by omega,c4,G6 l⟩]
 simp only[Ss];rw[rv,rv];simp only[List.map_append,List.map_take,List.map_drop]
 rfl
def GO {α:Type} {r:Rep α} {o:Orp r} {m0:Vj} {ps:List Pc} {S:Ur} {L:List α} {es:Un} {i j:Nat} (hij:i<=j):∀m,Hp m0 m (.gen (cT o S L es)::ps)->∃S',Hp m0 m (.gen (cT o S' (L.take i++L.drop j) (es.take i++es.drop j))::ps):=fun m hm=>by
 obtain⟨qs,h1,h2⟩:=hm.vK;obtain⟨q1,q2,rfl,h3,h4⟩:=h1.split i;obtain⟨q3,q4,rfl,h5,h6⟩:=h4.split (j-i);rw[T0,T0,show i+(j-i)=j by omega] at h6
 have h7:Hp m0 m ((q1++q4)++ps):=by
  refine⟨h2.ext,fun p hp=>h2.ok p ?_,h2.apart.sublist ?_⟩
  rcases Sm.1 hp with hp|hp
  rcases Sm.1 hp with hp|hp
  exact SJ _ (SJ _ hp)
  exact SJ _ (Tf _ (Tf _ hp))
  exact Tf _ hp
  exact List.Sublist.append (List.Sublist.append (List.Sublist.refl _) (List.sublist_append_right _ _)) (List.Sublist.refl _)
 exact⟨_,h7.rj (h3.append h6)⟩
def IL (n:Nat) {m0 m:Vj} {rest:List Pc} {a:Uo} {l r:Uj} {S:Ur} {es:Un} {i j:Int} (h:Hp m0 m (.sl a 2 l.length es::.gen (cT cJ S l es)::rest)) (hF:Q2 n l i j=some r) :
  aD (Vn p q) 98 [.slice a l.length l.length,.int .i64 i,.int .i64 j] m (fun v m'=>∃S':Nat->Prop,v = .slice a r.length l.length/\Hp m0 m' (.gen (cT cJ S' r (es.take i.toNat++es.drop j.toNat))::.gen (nI a l.length 2 r.length (es.take i.toNat++es.drop j.toNat))::rest)):=by
 obtain⟨hc,hF⟩:=aA hF;simp only[R4,Sf] at hc;obtain⟨⟨⟨⟨c0,c1⟩,c2⟩,c3⟩,c4⟩:=hc;have hr:=R2 hF;subst hr;obtain⟨i,rfl⟩:=TO c1;obtain⟨j,rfl⟩:=TO (show 0<=j by omega)
 simp only[Ss];have hij:i<j:=by omega
 have hjn:j<=l.length:=by omega
 have hel:es.length=l.length:=tV h (q:=1) rfl;obtain⟨⟨qs,hOd,_⟩,_⟩:=(h.get (k:=1) rfl).1;have hwid:∀e ∈ es,e.length=2:=fun e he=>(hOd.cells e he).1;have hone:dG es:=fun e he=>(hOd.cells e he).2;rcases h.get (k:=0) rfl with⟨h0,_⟩|⟨b,tg,rfl,g1,g2,g3,g4,g5,g6,g7⟩
 omega
 ·have ft:∀(k:Nat) (l:Un),(∀e ∈ l,e.length=2)->(l.take k).flatten=l.flatten.take (k*2)/\(l.drop k).flatten=l.flatten.drop (k*2):=by
   intro k l
   induction l generalizing k with
   | nil=>intro _; simp
   | cons e l ih =>
    intro hl;cases k with
    | zero=>simp
    | succ k =>
     obtain⟨x1,x2⟩:=ih k fun e he=>hl e (Sx _ he);have he:=hl e (SP ..);obtain⟨y,z,rfl⟩:∃y z,e = [y,z]:=by
      match e,he with
      | [y,z],_=>exact⟨y,z,rfl⟩
     rw[TN];simp[x1,x2]
  have hfl:es.flatten.length=l.length*2:=by rw[cO hwid,hel]
  have hlen:(l.take i++l.drop j).length=l.length-(j-i):=by simp; omega
  have hobj:Hp m0 m (.obj b (.cells es.flatten tg)::.gen (cT cJ S l es)::rest):=h.put (k:=0) rfl rfl rfl rfl (R5 _) h.ext ⟨g1,g2,g3⟩ fun _ _ _=>rfl;refine(GL (p:=p) (q:=q) g6 hobj hfl (ik hone) hij hjn c4).mono fun v m' ⟨hv,cs',hm',hl',ht'⟩=>?_;have hcs:cs'=(es.take i++es.drop j).flatten++cs'.drop ((l.length-(j-i))*2):=by
   have e1:(es.flatten.drop (j*2)).take ((l.length-j)*2)=es.flatten.drop (j*2):=Tt (by rw[SK]; omega)
   rw[Tn,(ft i es hwid).1,(ft j es hwid).2];rw[e1] at ht';rw[<-ht',List.take_append_drop]
  have hst:Hp m0 m' (.gen (nI (some ⟨b,0,none⟩) l.length 2 (l.take i++l.drop j).length (es.take i++es.drop j))::.gen (cT cJ S l es)::rest):=by
   have h0:=hm'.get (k:=0) rfl;refine hm'.CN (k:=0) rfl (fun b' hb=>.inl (.inl ⟨rfl,hb.elim (fun h=>by cases h.1) id⟩)) (fun b' hb=>.inl (.inl (hb.elim (fun h=>by cases h) fun h=>h.elim id fun h=>h.elim))) (R5 _) hm'.ext ⟨⟨?_,?_,by decide,by rw[hlen]; omega,.inr ⟨b,cs'.drop ((l.length-(j-i))*2),tg,rfl,h0.2.1,?_,g6,?_⟩⟩,fun _ b' hb=>by cases hb; exact h0.1⟩ fun b' hb hlt=>rfl
   rw[hlen]; simp; omega
   intro e he;rcases Sm.1 he with he|he
   exact hwid e (Tx he)
   exact hwid e (Ty he)
   rw[<-hcs]; exact h0.2.2
   rw[<-hcs,hl',hfl]
  obtain⟨S',hS⟩:=GO (o:=cJ) (Nat.le_of_lt hij) m' (hst.perm (List.Perm.swap _ _ _));exact⟨S',by rw[hv,hlen],hS⟩
end
end Go.Proofs.YtmndpgfbkicndaaGreat
