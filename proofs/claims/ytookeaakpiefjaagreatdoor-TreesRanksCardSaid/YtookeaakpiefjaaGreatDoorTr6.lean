/- A part of the proof. -/
import Derived.Test.YtookeaakpiefjaaGreatDoorTr5
section
namespace Go.Proofs.YtookeaakpiefjaaGreatDoor
open Go Go.Ab Go.Ab.W
set_option maxRecDepth 10000
set_option maxHeartbeats 4000000
attribute [local irreducible] Wo Wk At Wn Od Ox bf aW
attribute [local irreducible] Tm.at Trie.set Trie.get AMem.get AMem.set AMem.alloc AMem.ww AMem.kill
theorem Bo (n x1 l1 x3 l2 l3 a1 c0 b1 b0 r) (hF:Bn n x1 l1 x3 l2 l3=some r) (m) {H:Nat→Prop} (hH:∀b,H b→b<m.next) (hG:Gl m) (h39:iW m a1 c0 l1) (h40:∀b,ek a1=some b→¬H b) (h41:Fq m H b1 l2) (h42:Fq m H b0 l3):
  ax ai 55 [iZ x1 a1 l1 c0,aZ x3,.map b1,.map b0] m (fun v m'=>∃x:Option Addr × Nat × Nat,v = .agg #[.bool r.1,.slice x.1 x.2.2 x.2.1]∧Hp m m' [.rd x.1 x.2.1 1 x.2.2 (r.2.map (eN .u64)),cM H]):=by
 unfold Bn at hF;refine cw Tryz.func55 (Hp.SD (l0:=[fm a1 c0 l1]) (Hp.gL (l0:=[]) (Hp.dj m hH) rfl h39 h40) h41 h42) ?_;refine wz ?_;refine wb fun b10=>?_;refine wb fun b15=>?_;refine wb fun b6=>?_;refine wa fp fun b3=>?_;refine aq ?_;obtain⟨l23,h43,hF⟩:=J hF;refine wc gn (fun m hm=>Ih n   _ h43 m) ?_;rintro⟨a18,n11⟩;refine Wo.len (k:=0) (xs:=l23) rfl ?_;rintro rfl;refine wa Jg fun b16=>?_;refine aq ?_;obtain⟨r16,h44,hF⟩:=J hF;refine Wo.x (jh (α:=Nat × Nat) (V:=fun g=>(fun(r:Unit) (g:Nat × Nat)=>match r,g with|_,(b21,b17)=>(.func (.func 127) #[] #[ptr b21 0,ptr b17 0]:Value)) r16 g) (N:=fun g=>(fun(r:Unit) (g:Nat × Nat)=>match r,g with|_,(b21,b17)=>([fk b21 x1 a1 l1 c0,fm a1 c0 l1,eZ b17 x3,fk b10 x1 a1 l1 c0,bS b15 b1,bS b6 b0,eu b3,lM b16 a18 l23,e7 a18 l23,bZ H b1 l2 b0 l3]:List Pc)) r16 g) rfl rfl (fun m hm=>?_)) gn rfl ?_
 ·clear hF;revert r16;intro r hF;refine bQ (N:=6) (rs:=[.tmp 4]) rfl Tryz.func69 rfl rfl rfl hm ?_;refine wz ?_;refine wb fun b26=>?_;refine wb fun b27=>?_;refine aq ?_;refine Wo.od (AR rfl rfl) rfl ?_;refine aq ?_;cases hF;exact ar (b26,b27) [1,8,0,7,6,5,4,2,3,9]
 ·clear h44;rintro⟨b21,b17⟩;refine wz ?_;refine Wk.block ?_;obtain⟨r7,h45,hF⟩:=J hF;refine Wk.range (N:=25) (rs:=[]) (γ:=Option Addr × Nat × Option Addr) (X:=fun g=>(fun(r:(Bool × List (Nat) × List (Int) × Nat) ⊕ (List (Int) × Nat)) (g:Option Addr × Nat × Option Addr)=>(match r,g with | .inl (v23,l17,l35,n2),(a6,c3,a19)=>⟨.done,(some .ret),[fk b10 x1 a1 l1 c0,fm a1 c0 l1,bS b15 b1,bS b6 b0,ei b3 v23 a6 l17 c3,dT a6 c3 l17,pG b16 a19 n2,cJ a19 n2 l35,bZ H b1 l2 b0 l3]⟩ | .inr (l5,n0),(a0,_,_)=>⟨.ready,none,[fk b10 x1 a1 l1 c0,fm a1 c0 l1,bS b15 b1,bS b6 b0,eu b3,pG b16 a0 n0,cJ a0 n0 l5,bZ H b1 l2 b0 l3]⟩:Rn)) r7 g) rfl rfl Tryz.func127 rfl rfl rfl ?_ (fun y=>by rcases r7 with _|_<;>(intro e; cases e)) ?_
  ·clear hF;revert r7;intro r hF;intro t0 l7 r3 h46 h47;refine wz ?_;refine Wk.block ?_;obtain⟨r27,h0,hF⟩:=J hF;refine ct (fun(r:(Bool × List (Nat) × List (Int) × Nat) ⊕ (List (Int) × Nat)) (g:Option Addr × Nat × Option Addr)=>match r,g with | .inl (v24,l24,l36,n4),(a7,c4,a8)=>⟨.ret,[],[.obj l7 (r3 .done (some .ret)),fk b10 x1 a1 l1 c0,fm a1 c0 l1,bS b15 b1,bS b6 b0,ei b3 v24 a7 l24 c4,dT a7 c4 l24,pG b16 a8 n4,cJ a8 n4 l36,bZ H b1 l2 b0 l3]⟩ | .inr (l37,n5),(a9,_,_)=>⟨(.exit 0),[],[.obj l7 (r3 .ready none),fk b10 x1 a1 l1 c0,fm a1 c0 l1,bS b15 b1,bS b6 b0,eu b3,pG b16 a9 n5,cJ a9 n5 l37,bZ H b1 l2 b0 l3]⟩) r27 ?_ ?_
   ·refine lo h0 a18 [0,3,2,4,5,6,7,8,9,10] (fun(v4,l10,n1) a2=>⟨.normal,[(0,.func (.yield l7) #[] #[]),(2,ptr b17 0),(7,bK a1 l1 c0),(8,eo l1),(9,an v4)],[.obj l7 (r3 .ready none),eZ b17 x3,fm a1 c0 l1,fk b10 x1 a1 l1 c0,bS b15 b1,bS b6 b0,eu b3,pG b16 a2 n1,cJ a2 n1 l10,bZ H b1 l2 b0 l3]⟩) ?_;clear hF h0;rintro⟨v4,l10,n1⟩ a2 r hF;unfold ld at hF;refine wz ?_;refine Wk.seq ?_;rcases aa hF with⟨h48,hF⟩|⟨h48,hF⟩
    ·refine aq ?_;obtain⟨h49,hF⟩:=bG hF;refine Wo.bI (k:=2) rfl (aM h49) ?_;rintro b13 o2 rfl;refine wz ?_;obtain⟨⟨x6,x7⟩,h208,hF⟩:=J hF;refine wz ?_;refine wa FC fun b33=>?_;refine wz ?_;refine Wk.seq ?_;obtain⟨r17,h50,hF⟩:=J hF;refine ct (fun(r:(Bool × List (Nat) × List (Int) × Nat) ⊕ (List (Int) × Nat)) (g:Option Addr × Nat × Option Addr)=>match r,g with | .inl (v25,l25,l38,n6),(a10,c5,a11)=>⟨.normal,[(0,.func (.yield l7) #[] #[]),(2,ptr b17 0),(7,mF b13 o2 l1 c0),(8,eo l1),(9,an v4),(23,.bool true)],[.obj l7 (r3 .done (some .ret)),eZ b17 x3,dI b13 o2 l1,dJ b13 o2 c0 l1,kJ b10 x1 b13 o2 l1 c0,bS b15 b1,bS b6 b0,ei b3 v25 a10 l25 c5,dT a10 c5 l25,pG b16 a11 n6,cJ a11 n6 l38,bZ H b1 l2 b0 l3]⟩ | .inr (l39,n7),(a12,_,_)=>⟨.normal,[(0,.func (.yield l7) #[] #[]),(2,ptr b17 0),(7,mF b13 o2 l1 c0),(8,eo l1),(9,an v4),(23,.bool false)],[.obj l7 (r3 .ready none),eZ b17 x3,dI b13 o2 l1,dJ b13 o2 c0 l1,kJ b10 x1 b13 o2 l1 c0,bS b15 b1,bS b6 b0,eu b3,pG b16 a12 n7,cJ a12 n7 l39,bZ H b1 l2 b0 l3]⟩) r17 ?_ ?_
     ·clear hF;revert r17;intro r hF;refine wz ?_;obtain⟨r39,h51,hF⟩:=J hF;refine wc gn (fun m hm=>th n x3 x6 x7  _ h51 m) ?_;rintro⟨⟩;refine wz ?_;rcases aa hF with⟨h14,hF⟩|⟨h14,hF⟩
      ·refine wz ?_;obtain⟨r8,h15,hF⟩:=J hF;refine Wo.x (JW (k:=2) (k1:=0) (γA:=Nat) (GA:=(fun g:Nat=>(match g with|b20=>⟨.normal,[(6,ptr b15 0),(8,ptr b3 0),(9,ptr b16 0),(10,an v4),(11,ptr b20 0)],[.obj l7 (r3 .ready none),bS b15 b1,eu b3,pG b16 a2 n1,cJ a2 n1 l10,iA b20 x6 x7,kJ b10 x1 b13 o2 l1 c0,dI b13 o2 l1,dJ b13 o2 c0 l1,bS b6 b0,eZ b17 x3,bZ H b1 l2 b0 l3]⟩:En))) (γ:=Option Addr × Nat × Option Addr) (G:=fun g=>(fun(r:(Bool × List (Nat) × List (Int) × Nat) ⊕ (List (Int) × Nat)) (g:Option Addr × Nat × Option Addr)=>(match r,g with | .inl (v26,l26,l40,n8),(a13,c6,a14)=>⟨.ret,[],[.obj l7 (r3 .busy none),kJ b10 x1 b13 o2 l1 c0,dI b13 o2 l1,dJ b13 o2 c0 l1,bS b15 b1,bS b6 b0,ei b3 v26 a13 l26 c6,dT a13 c6 l26,pG b16 a14 n8,cJ a14 n8 l40,eZ b17 x3,bZ H b1 l2 b0 l3]⟩ | .inr (l41,n9),(a15,_,_)=>⟨.normal,[],[.obj l7 (r3 .busy none),kJ b10 x1 b13 o2 l1 c0,dI b13 o2 l1,dJ b13 o2 c0 l1,bS b15 b1,bS b6 b0,eu b3,pG b16 a15 n9,cJ a15 n9 l41,eZ b17 x3,bZ H b1 l2 b0 l3]⟩:En)) r8 g) rfl rfl rfl h47 h46 rfl ?_ (fun _=>rfl) (fun _=>rfl) ?_ (fun y=>by rcases r8 with _|_<;>rfl)) (gg rfl rfl (gR h14)) rfl ?_
       ·clear hF h15;refine aq ?_;refine wa FC fun b28=>?_;refine wz ?_;exact ae b28 [3,7,9,10,11,0,6,2,5,8,4,12]
       ·clear hF;revert r8;intro r hF;rintro b20;refine Wk.block<|Wk.seq ?_;obtain⟨r18,h52,hF⟩:=J hF;refine ct (fun(l42,n10,v27) (a4:Option Addr)=>⟨.normal,[(6,ptr b15 0),(8,ptr b3 0),(9,ptr b16 0),(10,an v4),(11,ptr b20 0),(37,cz v27)],[.obj l7 (r3 .busy none),bS b15 b1,eu b3,pG b16 a4 n10,cJ a4 n10 l42,iA b20 x6 x7,kJ b10 x1 b13 o2 l1 c0,dI b13 o2 l1,dJ b13 o2 c0 l1,bS b6 b0,eZ b17 x3,bZ H b1 l2 b0 l3]⟩) r18 ?_ ?_
        ·clear hF;revert r18;intro r hF;refine wz ?_;obtain⟨y12,h53,hF⟩:=J hF;refine Wo.od (Ml (k:=11) (q:=0) (i:=v4) xd (kF u3) z4 rfl rfl rfl rfl h53) rfl ?_;refine wz ?_;rcases aa hF with⟨h16,hF⟩|⟨h16,hF⟩
         ·refine wz ?_;obtain⟨r9,h54,hF⟩:=J hF;refine Wo.x (jh (α:=Unit) (V:=fun g=>(fun(r:Bool × List (Int)) (g:Unit)=>match r,g with | (v18,l27),_=>(.bool v18:Value)) r9 g) (N:=fun g=>(fun(r:Bool × List (Int)) (g:Unit)=>match r,g with | (v18,l27),_=>([.obj l7 (r3 .busy none),kJ b10 x1 b13 o2 l1 c0,dI b13 o2 l1,dJ b13 o2 c0 l1,bS b15 b1,bS b6 b0,eu b3,lM b16 a2 l10,.sl a2 1 l10.length (l27.map (eI .i64)),eZ b17 x3,iA b20 x6 x7,bZ H b1 l2 b0 l3]:List Pc)) r9 g) rfl rfl (fun m hm=>?_)) (gg rfl rfl (gR h16)) rfl ?_
          ·clear hF;revert r9;intro r hF;refine bQ (N:=29) (rs:=[.tmp 4]) rfl Tryz.func79 rfl rfl rfl hm ?_;refine wz ?_;refine wb fun b23=>?_;refine wb fun b24=>?_;refine wz ?_;refine Wk.seq<|Wk.bV (prs:=[(4,6),(4,8)]) (by kernel_rfl)<|Wn.od (bM (r:=ptr b23 0) rfl (oa _ _)) rfl<|Wn.od (aR (k:=1) t131 rfl rfl rfl) rfl<|Wn.od (iD (r:=ptr b24 0) rfl rfl (ja iC (i:=0) (by decide))) rfl<|Wn.od (aR (k:=0) t3 rfl rfl rfl) rfl ?_
           obtain⟨r30,h55,hF⟩:=J hF;have hFx:=hF;refine Wn.len (k:=6) (xs:=(l10:List (Int))) rfl ?_;rintro rfl;replace hF:=hFx;clear hFx;refine nc gn (fun m hm=>qL n l10 x6 a2 l10.length _ h55 m (hm.rd (k:=6) rfl (.sl _ _ _ _))) ?_;rintro⟨⟩;refine Wn.od (bM (r:=ptr b23 0) rfl (oa _ _)) rfl<|Wn.od (aR (k:=1) t131 rfl rfl rfl) rfl<|Wn.od (iD (r:=ptr b24 1) rfl rfl (ja iC (i:=1) (by decide))) rfl<|Wn.od (aR (k:=0) t3 rfl rfl rfl) rfl ?_
           obtain⟨r31,h56,hF⟩:=J hF;refine nc gn (fun m hm=>qL n l10 x7 a2 l10.length _ h56 m (hm.rd (k:=6) rfl (.sl _ _ _ _))) ?_;rintro⟨⟩;refine Wn.od (cl rfl) rfl<|Wn.od (cl rfl) rfl<|Wn.nil (fun m hm=>du.all rfl) ?_;refine aq ?_;refine Wo.od (D1 rfl rfl (FW _ _)) rfl ?_;refine wz ?_;refine Wo.od (D1 rfl rfl (IL _ _)) rfl ?_;obtain⟨h57,hF⟩:=bG hF;refine Wo.open (k:=6) rfl (aM h57) ?_;rintro b34 t1 rfl h209;refine wz ?_;obtain⟨x9,h58,hF⟩:=J hF;refine Wo.o0 (ew (k:=6) (x1:=x9) (x2:=mi r30 r31) t3 rfl rfl rfl h58 rfl) ?_;refine dC ?_;cases hF;exact At.ret (.tmp rfl .nil) fun m' hm=>⟨(),rfl,(ak.trans (ak.close (k:=6) rfl) (ak.aP [2,8,9,10,3,11,4,5,6,12,7,13] rfl rfl)) m' hm⟩
          ·clear h54;obtain⟨v18,l27⟩:=r9;rintro⟨⟩;refine wz ?_;cases hF;exact ae a2 [0,4,6,7,8,10,1,2,3,5,9,11]
         ·refine wz ?_;cases hF;exact ae a2 [0,1,2,3,4,5,6,7,8,9,10,11]
        ·clear h52;obtain⟨l42,n10,v27⟩:=r18;rintro a4;refine At.tn ?_;rcases aa hF with⟨h59,hF⟩|⟨h59,hF⟩
         ·refine wz ?_;obtain⟨⟨r40,l75⟩,h60,hF⟩:=J hF;refine wv gn (fun m hm=>jI n 0  _ h60 m hm.aB) ?_;rintro⟨a21,c10,n12⟩;refine Wo.bJ (k:=0) rfl ?_;rintro rfl;refine aq ?_;cases hF;exact ae (a21,c10,a4) [1,7,8,9,2,10,3,0,4,5,11,12]
         ·refine wz ?_;cases hF;exact ae (a4,0,none) [0,6,7,8,1,9,2,3,4,10,11]
       ·clear h15;rcases r8 with⟨v26,l26,l40,n8⟩|⟨l41,n9⟩
        ·rintro⟨a13,c6,a14⟩;refine wz ?_;cases hF;exact ae (a13,c6,a14) [0,10,2,3,1,4,5,6,7,8,9,11]
        ·rintro⟨a15,g0,g1⟩;refine wz ?_;cases hF;exact ae (a15,0,none) [0,9,2,3,1,4,5,6,7,8,10]
      ·refine wz ?_;cases hF;exact ae (a2,0,none) [2,3,1,4,5,6,7,8,9,10,11]
     ·clear h50;rcases r17 with⟨v25,l25,l38,n6⟩|⟨l39,n7⟩
      ·rintro⟨a10,c5,a11⟩;refine aq ?_;cases hF;exact ae (a10,c5,a11) [0,4,3,5,6,7,8,9,10,11]
      ·rintro⟨a12,g2,g3⟩;refine dC ?_;cases hF;exact ae a12 [0,1,3,4,5,6,7,8,9,10]
    ·refine wz ?_;cases hF;exact ae (a2,0,none) [0,3,2,4,5,6,7,8,9]
   ·clear h0;rcases r27 with⟨v24,l24,l36,n4⟩|⟨l37,n5⟩
    ·rintro⟨a7,c4,a8⟩;refine At.br ?_;cases hF;exact At.ret .nil fun m' hm=>⟨(a7,c4,a8),(ak.aP [0,1,2,3,4,5,6,7,8,9] rfl rfl) m' hm⟩
    ·rintro⟨a9,g4,g5⟩;refine At.be ?_;cases hF;exact At.fin .nil fun m' hm=>⟨(a9,0,none),(ak.aP [0,1,2,3,4,5,6,7,8] rfl rfl) m' hm⟩
  ·clear h45;rcases r7 with⟨v23,l17,l35,n2⟩|⟨l5,n0⟩
   ·rintro⟨a6,c3,a19⟩
    change Wk _ _ _ _ .ret _ _ _ _
    refine wz ?_;cases hF;exact At.ret (.cell (k:=4) t103 rfl rfl rfl .nil) fun m' hm=>⟨(a6,c3,l17.length),rfl,(ak.trans (ak.RU (k:=8) rfl) (ak.aP [5,8] rfl rfl)) m' hm⟩
   ·rintro⟨a0,g6,g7⟩
    change At _ .normal _ _ _
    refine aq ?_;refine Wo.x GF gn rfl fun b2=>?_;refine wa RQ fun b4=>?_;refine aq ?_;refine Wo.od (AR rfl rfl) rfl<|wa RJ fun b8=>?_;refine wz ?_;refine Wk.seq<|Wk.bV (prs:=[(0,2)]) (by kernel_rfl)<|Wn.od (aR (k:=0) t160 rfl rfl rfl) rfl<|Wn.od (aF rfl) rfl ?_
    obtain⟨r41,h61,hF⟩:=J hF;refine nc gn (fun m hm=>OH n x3  _ h61 m (hG.ext hm.ext)) ?_;rintro⟨⟩;obtain⟨r10,h62,hF⟩:=J hF;refine Wn.x (jh (α:=Unit) (V:=fun g=>(fun(r:Int × List (Int × Int)) (g:Unit)=>match r,g with | (v6,l28),_=>(.int .i64 v6:Value)) r10 g) (N:=fun g=>(fun(r:Int × List (Int × Int)) (g:Unit)=>match r,g with | (v6,l28),_=>([fk b10 x1 a1 l1 c0,fm a1 c0 l1,bS b6 b0,eu b3,bX b4 b2,lW b2 l28,.obj b8 (.cells [.func (.func 109) #[cp a0 n0] #[]] .own),cJ a0 n0 l5,bZ H b1 l2 b0 l3]:List Pc)) r10 g) rfl rfl (fun m hm=>?_)) gn rfl ?_
    ·clear hF;revert r10;intro r hF;refine bQ (N:=16) (rs:=[.tmp 4]) rfl Tryz.func109 rfl rfl rfl hm ?_;refine wz ?_;refine Wk.seq<|Wk.block ?_;obtain⟨r28,h1,hF⟩:=J hF;refine ct (fun(v28,l43) (_:Unit)=>⟨(.exit 0),[(1,an v28)],[fk b10 x1 a1 l1 c0,fm a1 c0 l1,bS b6 b0,eu b3,bX b4 b2,lW b2 l43,.obj b8 (.cells [.func (.func 109) #[cp a0 n0] #[]] .own),cJ a0 n0 l5,bZ H b1 l2 b0 l3]⟩) r28 ?_ ?_
     ·refine lo h1 () [9,3,4,6,7,1,2,0,10] (fun(v29,l44) _=>⟨.normal,[(0,cp a0 n0),(1,an v29)],[cJ a0 n0 l5,fk b10 x1 a1 l1 c0,fm a1 c0 l1,bS b6 b0,eu b3,bX b4 b2,lW b2 l44,.obj b8 (.cells [.func (.func 109) #[cp a0 n0] #[]] .own),bZ H b1 l2 b0 l3]⟩) ?_;clear hF h1;rintro⟨v29,l44⟩ ⟨⟩ r hF;unfold yq at hF;refine wz ?_;obtain⟨h63,hF⟩:=bG hF;refine Wo.open (k:=0) rfl (aM h63) ?_;rintro b35 t2 rfl h210;refine wz ?_;obtain⟨x18,h211,hF⟩:=J hF;refine wz ?_;rcases aa hF with⟨h64,hF⟩|⟨h64,hF⟩
      ·refine aq ?_;obtain⟨h212,hF⟩:=bG hF;refine wz ?_;cases hF;exact At.en () rfl (sc rfl (sc rfl sn)) (ak.trans (ak.close (k:=0) rfl) (ak.aP [0,1,2,3,4,5,6,7,8] rfl rfl))
      ·refine wz ?_;cases hF;exact At.en () rfl (sc rfl sn) (ak.trans (ak.close (k:=0) rfl) (ak.aP [1,2,3,4,5,6,7,0,8] rfl rfl))
     ·clear h1;obtain⟨v28,l43⟩:=r28;rintro⟨⟩;refine dC ?_;cases hF;exact ar () [0,1,2,3,4,5,6,7,8]
    ·clear h62;obtain⟨v6,l28⟩:=r10;rintro⟨⟩;refine Wn.od (cl rfl) rfl<|Wn.nil (fun m hm=>du.all rfl) ?_;refine aq ?_;refine Wk.block ?_;obtain⟨l4,h2,hF⟩:=J hF;refine ct (fun l4 (_:Unit)=>⟨(.exit 2),[(1,aZ x3),(4,ptr b10 0),(7,ptr b6 0),(8,ptr b3 0),(12,ptr b4 0),(13,ptr b8 0)],[fk b10 x1 a1 l1 c0,fm a1 c0 l1,bS b6 b0,eu b3,bX b4 b2,lW b2 l4,.obj b8 (.cells [.func (.func 109) #[cp a0 n0] #[]] .own),cJ a0 n0 l5,bZ H b1 l2 b0 l3]⟩) l4 ?_ ?_
     ·refine lo h2 () [0,1,2,3,4,5,6,7,8] (fun(l11,v7) _=>⟨.normal,[(1,aZ x3),(4,ptr b10 0),(7,ptr b6 0),(8,ptr b3 0),(12,ptr b4 0),(13,ptr b8 0),(14,an v6),(47,an v7)],[fk b10 x1 a1 l1 c0,fm a1 c0 l1,bS b6 b0,eu b3,bX b4 b2,lW b2 l11,.obj b8 (.cells [.func (.func 109) #[cp a0 n0] #[]] .own),cJ a0 n0 l5,bZ H b1 l2 b0 l3]⟩) ?_;clear hF h2;rintro⟨l11,v7⟩ ⟨⟩ r hF;unfold qq at hF;refine wz ?_;refine Wk.seq ?_;rcases aa hF with⟨h65,hF⟩|⟨h65,hF⟩
      ·refine wz ?_;refine Wk.seq ?_;obtain⟨l18,h66,hF⟩:=J hF;refine ct (fun l18 (_:Unit)=>⟨.normal,[(1,aZ x3),(4,ptr b10 0),(7,ptr b6 0),(8,ptr b3 0),(12,ptr b4 0),(13,ptr b8 0),(14,an v6),(47,an v7)],[fk b10 x1 a1 l1 c0,fm a1 c0 l1,bS b6 b0,eu b3,bX b4 b2,lW b2 l18,.obj b8 (.cells [.func (.func 109) #[cp a0 n0] #[]] .own),cJ a0 n0 l5,bZ H b1 l2 b0 l3]⟩) l18 ?_ ?_
       ·clear hF;revert l18;intro r hF;refine wz ?_;refine Wk.seq ?_;obtain⟨v11,h67,hF⟩:=J hF;refine ct (fun v11 (_:Unit)=>⟨.normal,[(1,aZ x3),(4,ptr b10 0),(7,ptr b6 0),(8,ptr b3 0),(12,ptr b4 0),(13,ptr b8 0),(14,an v6),(15,an v7),(47,an v7),(66,cz v11)],[fk b10 x1 a1 l1 c0,fm a1 c0 l1,bS b6 b0,eu b3,bX b4 b2,lW b2 l11,.obj b8 (.cells [.func (.func 109) #[cp a0 n0] #[]] .own),cJ a0 n0 l5,bZ H b1 l2 b0 l3]⟩) v11 ?_ ?_
        ·clear hF;revert v11;intro r hF;refine wz ?_;obtain⟨h68,hF⟩:=au hF;refine Wo.od (aG rfl rfl (ca _ _ h68)) rfl ?_;refine wz ?_;rcases aa hF with⟨h17,hF⟩|⟨h17,hF⟩
         ·refine wz ?_;obtain⟨v8,h69,hF⟩:=J hF;refine Wo.x (jh (α:=Unit) (V:=fun g=>(fun(r:Int) (g:Unit)=>match r,g with|v8,_=>(.int .i64 v8:Value)) v8 g) (N:=fun g=>(fun(r:Int) (g:Unit)=>match r,g with|v8,_=>([fk b10 x1 a1 l1 c0,fm a1 c0 l1,bS b6 b0,eu b3,bX b4 b2,lW b2 l11,.obj b8 (.cells [.func (.func 109) #[cp a0 n0] #[]] .own),cJ a0 n0 l5,bZ H b1 l2 b0 l3]:List Pc)) v8 g) rfl rfl (fun m hm=>?_)) (gg rfl rfl (gR h17)) rfl ?_
          ·clear hF;revert v8;intro r hF;refine bQ (N:=16) (rs:=[.tmp 4]) rfl Tryz.func109 rfl rfl rfl hm ?_;refine wz ?_;refine Wk.seq<|Wk.block ?_;obtain⟨v19,h3,hF⟩:=J hF;refine ct (fun v19 (_:Unit)=>⟨(.exit 0),[(1,an v19)],[fk b10 x1 a1 l1 c0,fm a1 c0 l1,bS b6 b0,eu b3,bX b4 b2,lW b2 l11,.obj b8 (.cells [.func (.func 109) #[cp a0 n0] #[]] .own),cJ a0 n0 l5,bZ H b1 l2 b0 l3]⟩) v19 ?_ ?_
           ·refine lo h3 () [7,0,1,2,3,4,5,6,8] (fun v30 _=>⟨.normal,[(0,cp a0 n0),(1,an v30)],[cJ a0 n0 l5,fk b10 x1 a1 l1 c0,fm a1 c0 l1,bS b6 b0,eu b3,bX b4 b2,lW b2 l11,.obj b8 (.cells [.func (.func 109) #[cp a0 n0] #[]] .own),bZ H b1 l2 b0 l3]⟩) ?_;clear hF h3;rintro v30 ⟨⟩ r hF;unfold FI at hF;refine wz ?_;obtain⟨h70,hF⟩:=bG hF;refine Wo.open (k:=0) rfl (aM h70) ?_;rintro b36 t6 rfl h213;refine wz ?_;obtain⟨x19,h214,hF⟩:=J hF;refine wz ?_;rcases aa hF with⟨h71,hF⟩|⟨h71,hF⟩
            ·refine aq ?_;obtain⟨h215,hF⟩:=bG hF;refine wz ?_;cases hF;exact At.en () rfl (sc rfl (sc rfl sn)) (ak.trans (ak.close (k:=0) rfl) (ak.aP [0,1,2,3,4,5,6,7,8] rfl rfl))
            ·refine wz ?_;cases hF;exact At.en () rfl (sc rfl sn) (ak.trans (ak.close (k:=0) rfl) (ak.aP [1,2,3,4,5,6,7,0,8] rfl rfl))
           ·clear h3;rintro⟨⟩;refine dC ?_;obtain rfl:=Option.some.inj hF;exact ar () [0,1,2,3,4,5,6,7,8]
          ·clear h69;rintro⟨⟩;refine wz ?_;rcases aa hF with⟨h72,hF⟩|⟨h72,hF⟩
           ·refine wz ?_;cases hF;exact ae () [0,1,2,3,4,5,6,7,8]
           ·refine wz ?_;cases hF;exact ae () [0,1,2,3,4,5,6,7,8]
         ·refine wz ?_;cases hF;exact ae () [0,1,2,3,4,5,6,7,8]
        ·clear h67;rintro⟨⟩;refine At.tn ?_;rcases aa hF with⟨h73,hF⟩|⟨h73,hF⟩
         ·refine wz ?_;obtain⟨y11,h4,hF⟩:=J hF;replace h4:=Option.some.inj h4;refine Wo.od (AJ (q:=5) (xs:=l11) qH rfl rfl h4) rfl<|Wo.o0 (EV (q:=5) (xs:=l11) (k:=v7) (v:=(y11:Int)) (vE:=(fun n:Int=>.int .i64 n)) qH (kF u3) rfl rfl rfl rfl) ?_;refine wz ?_;cases hF;exact ae () [0,1,2,3,4,5,6,7,8]
         ·refine wz ?_;obtain rfl:=Option.some.inj hF;exact ae () [0,1,2,3,4,5,6,7,8]
       ·clear h66;rintro⟨⟩;refine aq ?_;cases hF;exact ae () [0,1,2,3,4,5,6,7,8]
      ·refine wz ?_;cases hF;exact ae () [0,1,2,3,4,5,6,7,8]
     ·clear h2;rintro⟨⟩;refine aq ?_;obtain⟨y2,h5,hF⟩:=J hF;replace h5:=Option.some.inj h5;refine Wo.od (AJ (q:=5) (xs:=l4) qH rfl rfl h5) rfl ?_;obtain⟨h74,hF⟩:=au hF;obtain⟨h75,hF⟩:=au hF;refine Wo.x (PL oG rfl h74 h75 Rh) gn rfl fun b5=>?_;refine wa RI fun b7=>?_;refine aq ?_;refine Wo.od (vn (k:=1) Hq rfl rfl qY) rfl ?_;refine wz ?_;refine Wk.block ?_;obtain⟨l19,h6,hF⟩:=J hF;refine ct (fun l19 (r0:(Nat→Nat))=>⟨(.exit 4),[(1,aZ x3),(4,ptr b10 0),(7,ptr b6 0),(8,ptr b3 0),(12,ptr b4 0),(13,ptr b8 0),(16,ptr b7 0)],[fk b10 x1 a1 l1 c0,fm a1 c0 l1,bS b6 b0,eu b3,bX b4 b2,lW b2 l4,.obj b8 (.cells [.func (.func 109) #[cp a0 n0] #[]] .own),cJ a0 n0 l5,gE b7 b5 y2,.gen (oi b5 ((y2:Int).toNat) r0 (fun _=>False) l19),bZ H b1 l2 b0 l3]⟩) l19 ?_ ?_
      ·refine lo h6 ((fun _=>0):(Nat→Nat)) [2,3,4,5,6,7,8,9,0,1,10] (fun(l45,v12) r11=>⟨.normal,[(1,aZ x3),(4,ptr b10 0),(7,ptr b6 0),(8,ptr b3 0),(12,ptr b4 0),(13,ptr b8 0),(16,ptr b7 0),(76,E4 y2),(77,an v12)],[fk b10 x1 a1 l1 c0,fm a1 c0 l1,bS b6 b0,eu b3,bX b4 b2,lW b2 l4,.obj b8 (.cells [.func (.func 109) #[cp a0 n0] #[]] .own),cJ a0 n0 l5,gE b7 b5 y2,.gen (oi b5 ((y2:Int).toNat) r11 (fun _=>False) l45),bZ H b1 l2 b0 l3]⟩) ?_;clear hF h6;rintro⟨l45,v12⟩ r11 r hF;unfold tL at hF;refine wz ?_;refine Wk.seq ?_;rcases aa hF with⟨h76,hF⟩|⟨h76,hF⟩
       ·refine dC ?_;obtain⟨y13,h7,hF⟩:=J hF;replace h7:=Option.some.inj h7;refine Wo.od (AJ (q:=5) (xs:=l4) qH rfl rfl h7) rfl ?_;obtain⟨h77,hF⟩:=au hF;obtain⟨h78,hF⟩:=au hF;refine Wo.x (PX o5 rfl h77 h78 fp) gn rfl fun b29=>?_;obtain⟨h216,hF⟩:=bG hF;refine wz ?_;obtain⟨l76,h79,hF⟩:=J hF;obtain⟨h80,hF⟩:=au hF;refine Wo.o0 (Jb (k:=9) (i:=v12.toNat) t162 rfl (by rw[Nat.mul_one]; rfl) rfl rfl h79 (of_decide_eq_true h80)) ?_
        refine aq ?_;cases hF;exact ae (fun j=>if j=v12.toNat then b29 else r11 j) [0,1,2,3,4,5,6,7,8,9,10]
       ·refine wz ?_;cases hF;exact ae r11 [0,1,2,3,4,5,6,7,8,9,10]
      ·clear h6;rintro r0;refine aq ?_;refine Wo.od (AR rfl rfl) rfl<|wa RG fun b12=>?_;refine aq ?_;obtain⟨r19,h81,hF⟩:=J hF;refine Wo.x (jh (α:=Nat × Nat) (V:=fun g=>(fun(r:Unit) (g:Nat × Nat)=>match r,g with|_,(b22,b11)=>(.func (.func 127) #[] #[ptr b22 0,ptr b11 0]:Value)) r19 g) (N:=fun g=>(fun(r:Unit) (g:Nat × Nat)=>match r,g with|_,(b22,b11)=>([fk b22 x1 a1 l1 c0,fm a1 c0 l1,eZ b11 x3,bS b6 b0,eu b3,.obj b8 (.cells [.func (.func 109) #[cp a0 n0] #[]] .own),cJ a0 n0 l5,gE b7 b5 y2,.gen (oi b5 ((y2:Int).toNat) r0 (fun _=>False) l19),.obj b12 (.cells [.func (.func 110) #[] #[ptr b4 0,ptr b7 0]] .own),bX b4 b2,lW b2 l4,bZ H b1 l2 b0 l3]:List Pc)) r19 g) rfl rfl (fun m hm=>?_)) gn rfl ?_
       ·clear hF;revert r19;intro r hF;refine bQ (N:=6) (rs:=[.tmp 4]) rfl Tryz.func69 rfl rfl rfl hm ?_;refine wz ?_;refine wb fun b30=>?_;refine wb fun b31=>?_;refine aq ?_;refine Wo.od (AR rfl rfl) rfl ?_;refine aq ?_;cases hF;exact ar (b30,b31) [1,4,0,5,6,9,10,11,12,2,7,8,13]
       ·clear h81;rintro⟨b22,b11⟩;refine wz ?_;refine Wk.block ?_;obtain⟨l20,h82,hF⟩:=J hF;refine Wk.range (N:=25) (rs:=[]) (γ:=(Nat→Prop)) (X:=fun g=>(fun(r:List (List (Bool × List Nat))) (g:(Nat→Prop))=>(match r,g with|l20,r20=>⟨.ready,none,[bS b6 b0,eu b3,.obj b8 (.cells [.func (.func 109) #[cp a0 n0] #[]] .own),cJ a0 n0 l5,gE b7 b5 y2,gh b5 y2 r0 r20 l20,.obj b12 (.cells [.func (.func 110) #[] #[ptr b4 0,ptr b7 0]] .own),bX b4 b2,lW b2 l4,bZ H b1 l2 b0 l3]⟩:Rn)) l20 g) rfl rfl Tryz.func127 rfl rfl rfl ?_ (fun y=>by intro e; cases e) ?_
        ·clear hF;revert l20;intro r hF;intro t7 l6 r1 h83 h84;refine wz ?_;refine Wk.block ?_;obtain⟨l29,h8,hF⟩:=J hF;refine ct (fun l29 (r21:(Nat→Prop))=>⟨(.exit 0),[],[.obj l6 (r1 .ready none),bS b6 b0,eu b3,.obj b8 (.cells [.func (.func 109) #[cp a0 n0] #[]] .own),cJ a0 n0 l5,gE b7 b5 y2,gh b5 y2 r0 r21 l29,.obj b12 (.cells [.func (.func 110) #[] #[ptr b4 0,ptr b7 0]] .own),bX b4 b2,lW b2 l4,bZ H b1 l2 b0 l3]⟩) l29 ?_ ?_
         ·refine lo h8 ((fun _=>False):(Nat→Prop)) [0,3,2,4,5,6,7,8,9,10,11,12,13] (fun(v9,l9) r2=>⟨.normal,[(0,.func (.yield l6) #[] #[]),(2,ptr b11 0),(7,bK a1 l1 c0),(8,eo l1),(9,an v9)],[.obj l6 (r1 .ready none),eZ b11 x3,fm a1 c0 l1,bS b6 b0,eu b3,.obj b8 (.cells [.func (.func 109) #[cp a0 n0] #[]] .own),cJ a0 n0 l5,gE b7 b5 y2,gh b5 y2 r0 r2 l9,.obj b12 (.cells [.func (.func 110) #[] #[ptr b4 0,ptr b7 0]] .own),bX b4 b2,lW b2 l4,bZ H b1 l2 b0 l3]⟩) ?_;clear hF h8;rintro⟨v9,l9⟩ r2 r hF;unfold uO at hF;refine wz ?_;refine Wk.seq ?_;rcases aa hF with⟨h85,hF⟩|⟨h85,hF⟩
          ·refine aq ?_;obtain⟨h86,hF⟩:=bG hF;refine Wo.bI (k:=2) rfl (aM h86) ?_;rintro b9 o1 rfl;refine wz ?_;obtain⟨⟨x4,x5⟩,h217,hF⟩:=J hF;refine wz ?_;refine wa FC fun b37=>?_;refine wz ?_;refine Wk.seq ?_;obtain⟨l21,h87,hF⟩:=J hF;refine ct (fun l21 (r22:(Nat→Prop))=>⟨.normal,[(0,.func (.yield l6) #[] #[]),(2,ptr b11 0),(7,mF b9 o1 l1 c0),(8,eo l1),(9,an v9),(23,.bool false)],[.obj l6 (r1 .ready none),eZ b11 x3,dI b9 o1 l1,dJ b9 o1 c0 l1,bS b6 b0,eu b3,.obj b8 (.cells [.func (.func 109) #[cp a0 n0] #[]] .own),cJ a0 n0 l5,gE b7 b5 y2,gh b5 y2 r0 r22 l21,.obj b12 (.cells [.func (.func 110) #[] #[ptr b4 0,ptr b7 0]] .own),bX b4 b2,lW b2 l4,bZ H b1 l2 b0 l3]⟩) l21 ?_ ?_
           ·clear hF;revert l21;intro r hF;refine wz ?_;obtain⟨r42,h88,hF⟩:=J hF;refine wc gn (fun m hm=>th n x3 x4 x5  _ h88 m) ?_;rintro⟨⟩;refine wz ?_;rcases aa hF with⟨h18,hF⟩|⟨h18,hF⟩
            ·refine wz ?_;obtain⟨l22,h19,hF⟩:=J hF;refine Wo.x (JW (k:=2) (k1:=0) (γA:=Nat) (GA:=(fun g:Nat=>(match g with|b14=>⟨.normal,[(7,ptr b6 0),(13,ptr b8 0),(18,ptr b12 0),(19,an v9),(20,ptr b14 0)],[.obj l6 (r1 .ready none),bS b6 b0,.obj b8 (.cells [.func (.func 109) #[cp a0 n0] #[]] .own),cJ a0 n0 l5,.obj b12 (.cells [.func (.func 110) #[] #[ptr b4 0,ptr b7 0]] .own),bX b4 b2,lW b2 l4,gE b7 b5 y2,gh b5 y2 r0 r2 l9,iA b14 x4 x5,eu b3,eZ b11 x3,dI b9 o1 l1,dJ b9 o1 c0 l1,bZ H b1 l2 b0 l3]⟩:En))) (γ:=(Nat→Prop)) (G:=fun g=>(fun(r:List (List (Bool × List Nat))) (g:(Nat→Prop))=>(match r,g with|l22,r23=>⟨.normal,[],[.obj l6 (r1 .busy none),bS b6 b0,eu b3,.obj b8 (.cells [.func (.func 109) #[cp a0 n0] #[]] .own),cJ a0 n0 l5,gE b7 b5 y2,gh b5 y2 r0 r23 l22,.obj b12 (.cells [.func (.func 110) #[] #[ptr b4 0,ptr b7 0]] .own),bX b4 b2,lW b2 l4,eZ b11 x3,dI b9 o1 l1,dJ b9 o1 c0 l1,bZ H b1 l2 b0 l3]⟩:En)) l22 g) rfl rfl rfl h84 h83 rfl ?_ (fun _=>rfl) (fun _=>rfl) ?_ (fun y=>rfl)) (gg rfl rfl (gR h18)) rfl ?_
             ·clear hF h19;refine aq ?_;refine wa FC fun b32=>?_;refine wz ?_;exact ae b32 [3,6,8,9,12,13,14,10,11,0,7,4,2,5,15]
             ·clear hF;revert l22;intro r hF;rintro b14;refine Wk.block<|Wk.seq<|Wk.bV (prs:=[(3,4),(3,6)]) (by kernel_rfl)<|Wn.od (aR (k:=2) t160 rfl rfl rfl) rfl<|Wn.od (iD (r:=ptr b14 0) rfl rfl (ja iC (i:=0) (by decide))) rfl<|Wn.od (aR (k:=9) t3 rfl rfl rfl) rfl ?_
              obtain⟨v1,h89,hF⟩:=J hF;refine Wn.xk (l:=[b8,b14]) (jh (α:=Unit) (V:=fun g=>(fun(r:Int) (g:Unit)=>match r,g with|v1,_=>(.int .i64 v1:Value)) v1 g) (N:=fun g=>(fun(r:Int) (g:Unit)=>match r,g with|v1,_=>([.obj l6 (r1 .busy none),bS b6 b0,eu b3,.obj b8 (.cells [.func (.func 109) #[cp a0 n0] #[]] .own),cJ a0 n0 l5,gE b7 b5 y2,gh b5 y2 r0 r2 l9,.obj b12 (.cells [.func (.func 110) #[] #[ptr b4 0,ptr b7 0]] .own),bX b4 b2,lW b2 l4,eZ b11 x3,dI b9 o1 l1,dJ b9 o1 c0 l1,iA b14 x4 x5,bZ H b1 l2 b0 l3]:List Pc)) v1 g) rfl rfl (fun m hm=>?_)) ⟨⟨_,2,rfl,rfl,fun _=>⟨3,rfl⟩⟩,⟨⟨_,9,rfl,rfl,fun _=>⟨13,rfl⟩⟩,trivial⟩⟩ gn rfl ?_
              ·clear hF;revert v1;intro r hF;refine bQ (N:=16) (rs:=[.tmp 4]) rfl Tryz.func109 rfl rfl rfl hm ?_;refine wz ?_;refine Wk.seq<|Wk.block ?_;obtain⟨v20,h9,hF⟩:=J hF;refine ct (fun v20 (_:Unit)=>⟨(.exit 0),[(1,an v20)],[.obj l6 (r1 .busy none),bS b6 b0,eu b3,.obj b8 (.cells [.func (.func 109) #[cp a0 n0] #[]] .own),cJ a0 n0 l5,gE b7 b5 y2,gh b5 y2 r0 r2 l9,.obj b12 (.cells [.func (.func 110) #[] #[ptr b4 0,ptr b7 0]] .own),bX b4 b2,lW b2 l4,eZ b11 x3,dI b9 o1 l1,dJ b9 o1 c0 l1,iA b14 x4 x5,bZ H b1 l2 b0 l3]⟩) v20 ?_ ?_
               ·refine lo h9 () [0,3,1,10,2,7,8,4,5,6,11,12,13,9,14] (fun v31 _=>⟨.normal,[(0,cp a0 n0),(1,an v31)],[.obj l6 (r1 .busy none),cJ a0 n0 l5,bS b6 b0,eu b3,.obj b8 (.cells [.func (.func 109) #[cp a0 n0] #[]] .own),gE b7 b5 y2,gh b5 y2 r0 r2 l9,.obj b12 (.cells [.func (.func 110) #[] #[ptr b4 0,ptr b7 0]] .own),bX b4 b2,lW b2 l4,eZ b11 x3,dI b9 o1 l1,dJ b9 o1 c0 l1,iA b14 x4 x5,bZ H b1 l2 b0 l3]⟩) ?_;clear hF h9;rintro v31 ⟨⟩ r hF;unfold Dg at hF;refine wz ?_;obtain⟨h90,hF⟩:=bG hF;refine Wo.open (k:=1) rfl (aM h90) ?_;rintro b38 t8 rfl h218;refine wz ?_;obtain⟨x20,h219,hF⟩:=J hF;refine wz ?_;rcases aa hF with⟨h91,hF⟩|⟨h91,hF⟩
                ·refine aq ?_;obtain⟨h220,hF⟩:=bG hF;refine wz ?_;cases hF;exact At.en () rfl (sc rfl (sc rfl sn)) (ak.trans (ak.close (k:=1) rfl) (ak.aP [0,1,2,3,4,5,6,7,8,9,10,11,12,13,14] rfl rfl))
                ·refine wz ?_;cases hF;exact At.en () rfl (sc rfl sn) (ak.trans (ak.close (k:=1) rfl) (ak.aP [0,2,3,4,1,5,6,7,8,9,10,11,12,13,14] rfl rfl))
               ·clear h9;rintro⟨⟩;refine dC ?_;obtain rfl:=Option.some.inj hF;exact ar () [0,1,2,3,4,5,6,7,8,9,10,11,12,13,14]
              ·clear h89;rintro⟨⟩;refine Wn.Np rfl (aR (k:=3) t160 rfl rfl rfl) rfl<|Wn.od (iD (r:=ptr b14 1) rfl rfl (ja iC (i:=1) (by decide))) rfl<|Wn.Np rfl (aR (k:=13) t3 rfl rfl rfl) rfl ?_
               obtain⟨v2,h92,hF⟩:=J hF;refine Wn.x (jh (α:=Unit) (V:=fun g=>(fun(r:Int) (g:Unit)=>match r,g with|v2,_=>(.int .i64 v2:Value)) v2 g) (N:=fun g=>(fun(r:Int) (g:Unit)=>match r,g with|v2,_=>([.obj l6 (r1 .busy none),bS b6 b0,eu b3,.obj b8 (.cells [.func (.func 109) #[cp a0 n0] #[]] .own),cJ a0 n0 l5,gE b7 b5 y2,gh b5 y2 r0 r2 l9,.obj b12 (.cells [.func (.func 110) #[] #[ptr b4 0,ptr b7 0]] .own),bX b4 b2,lW b2 l4,eZ b11 x3,dI b9 o1 l1,dJ b9 o1 c0 l1,iA b14 x4 x5,bZ H b1 l2 b0 l3]:List Pc)) v2 g) rfl rfl (fun m hm=>?_)) gn rfl ?_
               ·clear hF;revert v2;intro r hF;refine bQ (N:=16) (rs:=[.tmp 4]) rfl Tryz.func109 rfl rfl rfl hm ?_;refine wz ?_;refine Wk.seq<|Wk.block ?_;obtain⟨v21,h10,hF⟩:=J hF;refine ct (fun v21 (_:Unit)=>⟨(.exit 0),[(1,an v21)],[.obj l6 (r1 .busy none),bS b6 b0,eu b3,.obj b8 (.cells [.func (.func 109) #[cp a0 n0] #[]] .own),cJ a0 n0 l5,gE b7 b5 y2,gh b5 y2 r0 r2 l9,.obj b12 (.cells [.func (.func 110) #[] #[ptr b4 0,ptr b7 0]] .own),bX b4 b2,lW b2 l4,eZ b11 x3,dI b9 o1 l1,dJ b9 o1 c0 l1,iA b14 x4 x5,bZ H b1 l2 b0 l3]⟩) v21 ?_ ?_
                ·refine lo h10 () [0,4,1,2,3,5,6,7,8,9,10,11,12,13,14] (fun v32 _=>⟨.normal,[(0,cp a0 n0),(1,an v32)],[.obj l6 (r1 .busy none),cJ a0 n0 l5,bS b6 b0,eu b3,.obj b8 (.cells [.func (.func 109) #[cp a0 n0] #[]] .own),gE b7 b5 y2,gh b5 y2 r0 r2 l9,.obj b12 (.cells [.func (.func 110) #[] #[ptr b4 0,ptr b7 0]] .own),bX b4 b2,lW b2 l4,eZ b11 x3,dI b9 o1 l1,dJ b9 o1 c0 l1,iA b14 x4 x5,bZ H b1 l2 b0 l3]⟩) ?_;clear hF h10;rintro v32 ⟨⟩ r hF;unfold C1 at hF;refine wz ?_;obtain⟨h93,hF⟩:=bG hF;refine Wo.open (k:=1) rfl (aM h93) ?_;rintro b39 t9 rfl h221;refine wz ?_;obtain⟨x21,h222,hF⟩:=J hF;refine wz ?_;rcases aa hF with⟨h94,hF⟩|⟨h94,hF⟩
                 ·refine aq ?_;obtain⟨h223,hF⟩:=bG hF;refine wz ?_;cases hF;exact At.en () rfl (sc rfl (sc rfl sn)) (ak.trans (ak.close (k:=1) rfl) (ak.aP [0,1,2,3,4,5,6,7,8,9,10,11,12,13,14] rfl rfl))
                 ·refine wz ?_;cases hF;exact At.en () rfl (sc rfl sn) (ak.trans (ak.close (k:=1) rfl) (ak.aP [0,2,3,4,1,5,6,7,8,9,10,11,12,13,14] rfl rfl))
                ·clear h10;rintro⟨⟩;refine dC ?_;obtain rfl:=Option.some.inj hF;exact ar () [0,1,2,3,4,5,6,7,8,9,10,11,12,13,14]
               ·clear h92;rintro⟨⟩;refine Wn.od (cl rfl) rfl<|Wn.od (cl rfl) rfl<|Wn.nil (fun m hm=>(du.kr rfl rfl rfl (by simp) (du.kr rfl rfl rfl (by simp) du.nil)))<|At.tn<|Wk.seq<|Wk.seq ?_
                obtain⟨v13,h95,hF⟩:=J hF;refine ct (fun v13 (_:Unit)=>⟨.normal,[(7,ptr b6 0),(13,ptr b8 0),(18,ptr b12 0),(19,an v9),(20,ptr b14 0),(21,an v1),(22,an v2),(108,cz v13)],[.obj l6 (r1 .busy none),bS b6 b0,.obj b8 (.cells [.func (.func 109) #[cp a0 n0] #[]] .own),cJ a0 n0 l5,.obj b12 (.cells [.func (.func 110) #[] #[ptr b4 0,ptr b7 0]] .own),bX b4 b2,lW b2 l4,gE b7 b5 y2,gh b5 y2 r0 r2 l9,iA b14 x4 x5,eu b3,eZ b11 x3,dI b9 o1 l1,dJ b9 o1 c0 l1,bZ H b1 l2 b0 l3]⟩) v13 ?_ ?_
                ·clear hF;revert v13;intro r hF;refine wz ?_;obtain⟨y14,h96,hF⟩:=J hF;refine Wo.od (Ml (k:=14) (q:=1) (i:=v9) xd (kF u3) z4 rfl rfl rfl rfl h96) rfl ?_;refine wz ?_;rcases aa hF with⟨h97,hF⟩|⟨h97,hF⟩
                 ·refine wz ?_;cases hF;exact ae () [0,1,3,4,7,8,9,5,6,13,2,10,11,12,14]
                 ·refine wz ?_;cases hF;exact ae () [0,1,3,4,7,8,9,5,6,13,2,10,11,12,14]
                ·clear h95;rintro⟨⟩;refine At.tn ?_;rcases aa hF with⟨h98,hF⟩|⟨h98,hF⟩
                 ·refine wz ?_;obtain rfl:=Option.some.inj hF;exact ae r2 [0,1,10,2,3,7,8,4,5,6,11,12,13,14]
                 ·refine aq ?_;obtain⟨l12,h99,hF⟩:=J hF;refine Wo.x (jh (α:=(Nat→Prop)) (V:=fun g=>(fun(r:List (List (Bool × List Nat))) (g:(Nat→Prop))=>match r,g with|l12,r4=>(.tuple #[]:Value)) l12 g) (N:=fun g=>(fun(r:List (List (Bool × List Nat))) (g:(Nat→Prop))=>match r,g with|l12,r4=>([.obj l6 (r1 .busy none),bS b6 b0,eu b3,.obj b8 (.cells [.func (.func 109) #[cp a0 n0] #[]] .own),cJ a0 n0 l5,gE b7 b5 y2,gh b5 y2 r0 r4 l12,.obj b12 (.cells [.func (.func 110) #[] #[ptr b4 0,ptr b7 0]] .own),bX b4 b2,lW b2 l4,eZ b11 x3,dI b9 o1 l1,dJ b9 o1 c0 l1,iA b14 x4 x5,bZ H b1 l2 b0 l3]:List Pc)) l12 g) rfl rfl (fun m hm=>?_)) gn rfl ?_
                  ·clear hF;revert l12;intro r hF;refine bQ (N:=44) (rs:=[]) rfl Tryz.func110 rfl rfl rfl hm ?_;refine wz ?_;obtain⟨⟨y3,y15⟩,h100,hF⟩:=J hF;refine Wo.od (qh (q:=6) (xs:=l4) (k:=v1) (vE:=(fun n:Int=>.int .i64 n)) (z0:=(0:Int)) qH (kF u3) z3 rfl rfl rfl rfl h100) rfl ?_;refine aq ?_;obtain⟨⟨y7,y16⟩,h101,hF⟩:=J hF;refine Wo.od (qh (q:=6) (xs:=l4) (k:=v1) (vE:=(fun n:Int=>.int .i64 n)) (z0:=(0:Int)) qH (kF u3) z3 rfl rfl rfl rfl h101) rfl ?_;refine wz ?_;refine Wk.seq ?_;obtain⟨v14,h102,hF⟩:=J hF;refine ct (fun v14 (_:Unit)=>⟨.normal,[(2,.int .i64 1),(4,ptr b7 0),(8,an y3),(10,an y7),(27,cz v14)],[.obj l6 (r1 .busy none),gE b7 b5 y2,gh b5 y2 r0 r2 l9,bS b6 b0,eu b3,.obj b8 (.cells [.func (.func 109) #[cp a0 n0] #[]] .own),cJ a0 n0 l5,.obj b12 (.cells [.func (.func 110) #[] #[ptr b4 0,ptr b7 0]] .own),bX b4 b2,lW b2 l4,eZ b11 x3,dI b9 o1 l1,dJ b9 o1 c0 l1,iA b14 x4 x5,bZ H b1 l2 b0 l3]⟩) v14 ?_ ?_
                   ·clear hF;revert v14;intro r hF;refine wz ?_;rcases aa hF with⟨h103,hF⟩|⟨h103,hF⟩
                    ·refine wz ?_;obtain rfl:=Option.some.inj hF;exact ae () [0,7,8,1,10,2,3,4,5,6,11,12,13,9,14]
                    ·refine wz ?_;cases hF;exact ae () [0,7,8,1,10,2,3,4,5,6,11,12,13,9,14]
                   ·clear h102;rintro⟨⟩;refine At.tn ?_;rcases aa hF with⟨h20,hF⟩|⟨h20,hF⟩
                    ·refine Wk.eQ rfl h20<|Wk.bV (prs:=[(0,13),(3,13),(5,13),(8,13),(11,13),(0,14),(3,14)]) (by kernel_rfl)<|Wn.od (aR (k:=1) t161 rfl rfl rfl) rfl<|Wn.od (aF rfl) rfl ?_
                     obtain⟨h104,hF⟩:=bG hF;refine Wn.og (cV oG rfl rfl h104) gn rfl ?_;obtain⟨l50,h21,hF⟩:=J hF;obtain⟨h105,hF⟩:=au hF;refine Wn.x (dx (k:=2) (i:=y3.toNat) t162 rfl (by rw[Nat.mul_one]; rfl) rfl h21 (of_decide_eq_true h105)) gn rfl ?_
                     rintro⟨b40,h106⟩;refine Wn.od (aF rfl) rfl<|Wn.od (aR (k:=1) t161 rfl rfl rfl) rfl<|Wn.od (aF rfl) rfl ?_;obtain⟨h107,hF⟩:=bG hF;refine Wn.og (cV oG rfl rfl h107) gn rfl ?_;obtain⟨l77,h22,hF⟩:=J hF;obtain⟨h108,hF⟩:=au hF;refine Wn.x (dx (k:=2) (i:=y3.toNat) t162 rfl (by rw[Nat.mul_one]; rfl) rfl h22 (of_decide_eq_true h108)) gn rfl ?_
                     rintro⟨b41,h109⟩;refine Wn.od (aF rfl) rfl ?_;obtain⟨h110,hF⟩:=bG hF;refine Wn.og (cV o5 rfl rfl h110) gn rfl ?_;obtain⟨⟨x10,l51⟩,h111,hF⟩:=J hF;refine Wn.x (iY (k:=2) (i:=y3.toNat) (j:=y7.toNat) t103 rfl rfl rfl h22 h109 h111) gn rfl ?_;rintro⟨a22,c11⟩;refine Wn.od (aF rfl) rfl ?_;obtain⟨⟨r32,l52⟩,h112,hF⟩:=J hF;refine nv gn (fun m hm=>jI n 1  _ h112 m hm.aB) ?_;rintro⟨a23,c12,n13⟩;refine Wn.bJ (k:=0) rfl ?_;rintro rfl;obtain⟨⟨r43,l53⟩,h113,hF⟩:=J hF;refine nv gn (fun m hm=>iF n x10 l51 r32 l52 a22 c11 a23 c12 _ h113 m hm.aB (hm.q 1) (hm.no 1) (hm.q 0) (hm.no 0)) ?_;rintro⟨a24,c29,n14⟩;refine Wn.bJ (k:=0) rfl ?_;rintro rfl;obtain⟨h114,hF⟩:=bG hF;refine Wn.og (cV o5 rfl rfl h114) gn rfl ?_;obtain⟨h115,hF⟩:=au hF;refine Wn.o0 (sd (k:=5) (k2:=0) (i:=y3.toNat) (j:=y7.toNat) (w:=l53) (row:=l50) t103 rfl rfl rfl rfl h21 h106 h115 (.inl ⟨rfl,rfl⟩))<|Wn.nil (fun m hm=>du.all rfl) ?_;cases hF;exact At.fin .nil fun m' hm=>⟨(fun z=>r2 z∨ek a24=some z),rfl,(ak.aP [3,6,7,8,9,4,5,10,11,12,13,14,15,16,17] rfl rfl) m' hm⟩
                    ·refine wz ?_;obtain rfl:=Option.some.inj hF;exact At.fin .nil fun m' hm=>⟨r2,rfl,(ak.aP [0,3,4,5,6,1,2,7,8,9,10,11,12,13,14] rfl rfl) m' hm⟩
                  ·clear h99;rintro r4;refine aq ?_;obtain⟨l13,h116,hF⟩:=J hF;refine Wo.x (jh (α:=(Nat→Prop)) (V:=fun g=>(fun(r:List (List (Bool × List Nat))) (g:(Nat→Prop))=>match r,g with|l13,r5=>(.tuple #[]:Value)) l13 g) (N:=fun g=>(fun(r:List (List (Bool × List Nat))) (g:(Nat→Prop))=>match r,g with|l13,r5=>([.obj l6 (r1 .busy none),bS b6 b0,eu b3,.obj b8 (.cells [.func (.func 109) #[cp a0 n0] #[]] .own),cJ a0 n0 l5,gE b7 b5 y2,gh b5 y2 r0 r5 l13,.obj b12 (.cells [.func (.func 110) #[] #[ptr b4 0,ptr b7 0]] .own),bX b4 b2,lW b2 l4,eZ b11 x3,dI b9 o1 l1,dJ b9 o1 c0 l1,iA b14 x4 x5,bZ H b1 l2 b0 l3]:List Pc)) l13 g) rfl rfl (fun m hm=>?_)) gn rfl ?_
                   ·clear hF;revert l13;intro r hF;refine bQ (N:=44) (rs:=[]) rfl Tryz.func110 rfl rfl rfl hm ?_;refine wz ?_;obtain⟨⟨y4,y17⟩,h117,hF⟩:=J hF;refine Wo.od (qh (q:=9) (xs:=l4) (k:=v2) (vE:=(fun n:Int=>.int .i64 n)) (z0:=(0:Int)) qH (kF u3) z3 rfl rfl rfl rfl h117) rfl ?_;refine aq ?_;obtain⟨⟨y8,y18⟩,h118,hF⟩:=J hF;refine Wo.od (qh (q:=9) (xs:=l4) (k:=v2) (vE:=(fun n:Int=>.int .i64 n)) (z0:=(0:Int)) qH (kF u3) z3 rfl rfl rfl rfl h118) rfl ?_;refine wz ?_;refine Wk.seq ?_;obtain⟨v15,h119,hF⟩:=J hF;refine ct (fun v15 (_:Unit)=>⟨.normal,[(2,.int .i64 1),(4,ptr b7 0),(8,an y4),(10,an y8),(27,cz v15)],[.obj l6 (r1 .busy none),gE b7 b5 y2,gh b5 y2 r0 r4 l12,bS b6 b0,eu b3,.obj b8 (.cells [.func (.func 109) #[cp a0 n0] #[]] .own),cJ a0 n0 l5,.obj b12 (.cells [.func (.func 110) #[] #[ptr b4 0,ptr b7 0]] .own),bX b4 b2,lW b2 l4,eZ b11 x3,dI b9 o1 l1,dJ b9 o1 c0 l1,iA b14 x4 x5,bZ H b1 l2 b0 l3]⟩) v15 ?_ ?_
                    ·clear hF;revert v15;intro r hF;refine wz ?_;rcases aa hF with⟨h120,hF⟩|⟨h120,hF⟩
                     ·refine wz ?_;obtain rfl:=Option.some.inj hF;exact ae () [0,5,6,1,2,3,4,7,8,9,10,11,12,13,14]
                     ·refine wz ?_;cases hF;exact ae () [0,5,6,1,2,3,4,7,8,9,10,11,12,13,14]
                    ·clear h119;rintro⟨⟩;refine At.tn ?_;rcases aa hF with⟨h23,hF⟩|⟨h23,hF⟩
                     ·refine Wk.eQ rfl h23<|Wk.bV (prs:=[(0,13),(3,13),(5,13),(8,13),(11,13),(0,14),(3,14)]) (by kernel_rfl)<|Wn.od (aR (k:=1) t161 rfl rfl rfl) rfl<|Wn.od (aF rfl) rfl ?_
                      obtain⟨h121,hF⟩:=bG hF;refine Wn.og (cV oG rfl rfl h121) gn rfl ?_;obtain⟨l54,h24,hF⟩:=J hF;obtain⟨h122,hF⟩:=au hF;refine Wn.x (dx (k:=2) (i:=y4.toNat) t162 rfl (by rw[Nat.mul_one]; rfl) rfl h24 (of_decide_eq_true h122)) gn rfl ?_
                      rintro⟨b42,h123⟩;refine Wn.od (aF rfl) rfl<|Wn.od (aR (k:=1) t161 rfl rfl rfl) rfl<|Wn.od (aF rfl) rfl ?_;obtain⟨h124,hF⟩:=bG hF;refine Wn.og (cV oG rfl rfl h124) gn rfl ?_;obtain⟨l78,h25,hF⟩:=J hF;obtain⟨h125,hF⟩:=au hF;refine Wn.x (dx (k:=2) (i:=y4.toNat) t162 rfl (by rw[Nat.mul_one]; rfl) rfl h25 (of_decide_eq_true h125)) gn rfl ?_
                      rintro⟨b43,h126⟩;refine Wn.od (aF rfl) rfl ?_;obtain⟨h127,hF⟩:=bG hF;refine Wn.og (cV o5 rfl rfl h127) gn rfl ?_;obtain⟨⟨x11,l55⟩,h128,hF⟩:=J hF;refine Wn.x (iY (k:=2) (i:=y4.toNat) (j:=y8.toNat) t103 rfl rfl rfl h25 h126 h128) gn rfl ?_;rintro⟨a25,c13⟩;refine Wn.od (aF rfl) rfl ?_;obtain⟨⟨r33,l56⟩,h129,hF⟩:=J hF;refine nv gn (fun m hm=>jI n 1  _ h129 m hm.aB) ?_;rintro⟨a26,c14,n15⟩;refine Wn.bJ (k:=0) rfl ?_;rintro rfl;obtain⟨⟨r44,l57⟩,h130,hF⟩:=J hF;refine nv gn (fun m hm=>iF n x11 l55 r33 l56 a25 c13 a26 c14 _ h130 m hm.aB (hm.q 1) (hm.no 1) (hm.q 0) (hm.no 0)) ?_;rintro⟨a27,c30,n16⟩;refine Wn.bJ (k:=0) rfl ?_;rintro rfl;obtain⟨h131,hF⟩:=bG hF;refine Wn.og (cV o5 rfl rfl h131) gn rfl ?_;obtain⟨h132,hF⟩:=au hF;refine Wn.o0 (sd (k:=5) (k2:=0) (i:=y4.toNat) (j:=y8.toNat) (w:=l57) (row:=l54) t103 rfl rfl rfl rfl h24 h123 h132 (.inl ⟨rfl,rfl⟩))<|Wn.nil (fun m hm=>du.all rfl) ?_;cases hF;exact At.fin .nil fun m' hm=>⟨(fun z=>r4 z∨ek a27=some z),rfl,(ak.aP [3,6,7,8,9,4,5,10,11,12,13,14,15,16,17] rfl rfl) m' hm⟩
                     ·refine wz ?_;obtain rfl:=Option.some.inj hF;exact At.fin .nil fun m' hm=>⟨r4,rfl,(ak.aP [0,3,4,5,6,1,2,7,8,9,10,11,12,13,14] rfl rfl) m' hm⟩
                   ·clear h116;rintro r5;refine aq ?_;obtain⟨l14,h133,hF⟩:=J hF;refine Wo.x (jh (α:=(Nat→Prop)) (V:=fun g=>(fun(r:List (List (Bool × List Nat))) (g:(Nat→Prop))=>match r,g with|l14,r6=>(.tuple #[]:Value)) l14 g) (N:=fun g=>(fun(r:List (List (Bool × List Nat))) (g:(Nat→Prop))=>match r,g with|l14,r6=>([.obj l6 (r1 .busy none),bS b6 b0,eu b3,.obj b8 (.cells [.func (.func 109) #[cp a0 n0] #[]] .own),cJ a0 n0 l5,gE b7 b5 y2,gh b5 y2 r0 r6 l14,.obj b12 (.cells [.func (.func 110) #[] #[ptr b4 0,ptr b7 0]] .own),bX b4 b2,lW b2 l4,eZ b11 x3,dI b9 o1 l1,dJ b9 o1 c0 l1,iA b14 x4 x5,bZ H b1 l2 b0 l3]:List Pc)) l14 g) rfl rfl (fun m hm=>?_)) gn rfl ?_
                    ·clear hF;revert l14;intro r hF;refine bQ (N:=44) (rs:=[]) rfl Tryz.func110 rfl rfl rfl hm ?_;refine wz ?_;obtain⟨⟨y5,y19⟩,h134,hF⟩:=J hF;refine Wo.od (qh (q:=9) (xs:=l4) (k:=v1) (vE:=(fun n:Int=>.int .i64 n)) (z0:=(0:Int)) qH (kF u3) z3 rfl rfl rfl rfl h134) rfl ?_;refine aq ?_;obtain⟨⟨y9,y20⟩,h135,hF⟩:=J hF;refine Wo.od (qh (q:=9) (xs:=l4) (k:=v2) (vE:=(fun n:Int=>.int .i64 n)) (z0:=(0:Int)) qH (kF u3) z3 rfl rfl rfl rfl h135) rfl ?_;refine wz ?_;refine Wk.seq ?_;obtain⟨v16,h136,hF⟩:=J hF;refine ct (fun v16 (_:Unit)=>⟨.normal,[(2,.int .i64 (-1)),(4,ptr b7 0),(8,an y5),(10,an y9),(27,cz v16)],[.obj l6 (r1 .busy none),gE b7 b5 y2,gh b5 y2 r0 r5 l13,bS b6 b0,eu b3,.obj b8 (.cells [.func (.func 109) #[cp a0 n0] #[]] .own),cJ a0 n0 l5,.obj b12 (.cells [.func (.func 110) #[] #[ptr b4 0,ptr b7 0]] .own),bX b4 b2,lW b2 l4,eZ b11 x3,dI b9 o1 l1,dJ b9 o1 c0 l1,iA b14 x4 x5,bZ H b1 l2 b0 l3]⟩) v16 ?_ ?_
                     ·clear hF;revert v16;intro r hF;refine wz ?_;rcases aa hF with⟨h137,hF⟩|⟨h137,hF⟩
                      ·refine wz ?_;obtain rfl:=Option.some.inj hF;exact ae () [0,5,6,1,2,3,4,7,8,9,10,11,12,13,14]
                      ·refine wz ?_;cases hF;exact ae () [0,5,6,1,2,3,4,7,8,9,10,11,12,13,14]
                     ·clear h136;rintro⟨⟩;refine At.tn ?_;rcases aa hF with⟨h26,hF⟩|⟨h26,hF⟩
                      ·refine Wk.eQ rfl h26<|Wk.bV (prs:=[(0,13),(3,13),(5,13),(8,13),(11,13),(0,14),(3,14)]) (by kernel_rfl)<|Wn.od (aR (k:=1) t161 rfl rfl rfl) rfl<|Wn.od (aF rfl) rfl ?_
                       obtain⟨h138,hF⟩:=bG hF;refine Wn.og (cV oG rfl rfl h138) gn rfl ?_;obtain⟨l58,h27,hF⟩:=J hF;obtain⟨h139,hF⟩:=au hF;refine Wn.x (dx (k:=2) (i:=y5.toNat) t162 rfl (by rw[Nat.mul_one]; rfl) rfl h27 (of_decide_eq_true h139)) gn rfl ?_
                       rintro⟨b44,h140⟩;refine Wn.od (aF rfl) rfl<|Wn.od (aR (k:=1) t161 rfl rfl rfl) rfl<|Wn.od (aF rfl) rfl ?_;obtain⟨h141,hF⟩:=bG hF;refine Wn.og (cV oG rfl rfl h141) gn rfl ?_;obtain⟨l79,h28,hF⟩:=J hF;obtain⟨h142,hF⟩:=au hF;refine Wn.x (dx (k:=2) (i:=y5.toNat) t162 rfl (by rw[Nat.mul_one]; rfl) rfl h28 (of_decide_eq_true h142)) gn rfl ?_
                       rintro⟨b45,h143⟩;refine Wn.od (aF rfl) rfl ?_;obtain⟨h144,hF⟩:=bG hF;refine Wn.og (cV o5 rfl rfl h144) gn rfl ?_;obtain⟨⟨x12,l59⟩,h145,hF⟩:=J hF;refine Wn.x (iY (k:=2) (i:=y5.toNat) (j:=y9.toNat) t103 rfl rfl rfl h28 h143 h145) gn rfl ?_;rintro⟨a28,c15⟩;refine Wn.od (aF rfl) rfl ?_;obtain⟨⟨r34,l60⟩,h146,hF⟩:=J hF;refine nv gn (fun m hm=>jI n (-1)  _ h146 m hm.aB) ?_;rintro⟨a29,c16,n17⟩;refine Wn.bJ (k:=0) rfl ?_;rintro rfl;obtain⟨⟨r45,l61⟩,h147,hF⟩:=J hF;refine nv gn (fun m hm=>iF n x12 l59 r34 l60 a28 c15 a29 c16 _ h147 m hm.aB (hm.q 1) (hm.no 1) (hm.q 0) (hm.no 0)) ?_;rintro⟨a30,c31,n18⟩;refine Wn.bJ (k:=0) rfl ?_;rintro rfl;obtain⟨h148,hF⟩:=bG hF;refine Wn.og (cV o5 rfl rfl h148) gn rfl ?_;obtain⟨h149,hF⟩:=au hF;refine Wn.o0 (sd (k:=5) (k2:=0) (i:=y5.toNat) (j:=y9.toNat) (w:=l61) (row:=l58) t103 rfl rfl rfl rfl h27 h140 h149 (.inl ⟨rfl,rfl⟩))<|Wn.nil (fun m hm=>du.all rfl) ?_;cases hF;exact At.fin .nil fun m' hm=>⟨(fun z=>r5 z∨ek a30=some z),rfl,(ak.aP [3,6,7,8,9,4,5,10,11,12,13,14,15,16,17] rfl rfl) m' hm⟩
                      ·refine wz ?_;obtain rfl:=Option.some.inj hF;exact At.fin .nil fun m' hm=>⟨r5,rfl,(ak.aP [0,3,4,5,6,1,2,7,8,9,10,11,12,13,14] rfl rfl) m' hm⟩
                    ·clear h133;rintro r6;refine aq ?_;obtain⟨l15,h150,hF⟩:=J hF;refine Wo.x (jh (α:=(Nat→Prop)) (V:=fun g=>(fun(r:List (List (Bool × List Nat))) (g:(Nat→Prop))=>match r,g with|l15,r12=>(.tuple #[]:Value)) l15 g) (N:=fun g=>(fun(r:List (List (Bool × List Nat))) (g:(Nat→Prop))=>match r,g with|l15,r12=>([.obj l6 (r1 .busy none),bS b6 b0,eu b3,.obj b8 (.cells [.func (.func 109) #[cp a0 n0] #[]] .own),cJ a0 n0 l5,gE b7 b5 y2,gh b5 y2 r0 r12 l15,.obj b12 (.cells [.func (.func 110) #[] #[ptr b4 0,ptr b7 0]] .own),bX b4 b2,lW b2 l4,eZ b11 x3,dI b9 o1 l1,dJ b9 o1 c0 l1,iA b14 x4 x5,bZ H b1 l2 b0 l3]:List Pc)) l15 g) rfl rfl (fun m hm=>?_)) gn rfl ?_
                     ·clear hF;revert l15;intro r hF;refine bQ (N:=44) (rs:=[]) rfl Tryz.func110 rfl rfl rfl hm ?_;refine wz ?_;obtain⟨⟨y6,y21⟩,h151,hF⟩:=J hF;refine Wo.od (qh (q:=9) (xs:=l4) (k:=v2) (vE:=(fun n:Int=>.int .i64 n)) (z0:=(0:Int)) qH (kF u3) z3 rfl rfl rfl rfl h151) rfl ?_;refine aq ?_;obtain⟨⟨y10,y22⟩,h152,hF⟩:=J hF;refine Wo.od (qh (q:=9) (xs:=l4) (k:=v1) (vE:=(fun n:Int=>.int .i64 n)) (z0:=(0:Int)) qH (kF u3) z3 rfl rfl rfl rfl h152) rfl ?_;refine wz ?_;refine Wk.seq ?_;obtain⟨v17,h153,hF⟩:=J hF;refine ct (fun v17 (_:Unit)=>⟨.normal,[(2,.int .i64 (-1)),(4,ptr b7 0),(8,an y6),(10,an y10),(27,cz v17)],[.obj l6 (r1 .busy none),gE b7 b5 y2,gh b5 y2 r0 r6 l14,bS b6 b0,eu b3,.obj b8 (.cells [.func (.func 109) #[cp a0 n0] #[]] .own),cJ a0 n0 l5,.obj b12 (.cells [.func (.func 110) #[] #[ptr b4 0,ptr b7 0]] .own),bX b4 b2,lW b2 l4,eZ b11 x3,dI b9 o1 l1,dJ b9 o1 c0 l1,iA b14 x4 x5,bZ H b1 l2 b0 l3]⟩) v17 ?_ ?_
                      ·clear hF;revert v17;intro r hF;refine wz ?_;rcases aa hF with⟨h154,hF⟩|⟨h154,hF⟩
                       ·refine wz ?_;obtain rfl:=Option.some.inj hF;exact ae () [0,5,6,1,2,3,4,7,8,9,10,11,12,13,14]
                       ·refine wz ?_;cases hF;exact ae () [0,5,6,1,2,3,4,7,8,9,10,11,12,13,14]
                      ·clear h153;rintro⟨⟩;refine At.tn ?_;rcases aa hF with⟨h29,hF⟩|⟨h29,hF⟩
                       ·refine Wk.eQ rfl h29<|Wk.bV (prs:=[(0,13),(3,13),(5,13),(8,13),(11,13),(0,14),(3,14)]) (by kernel_rfl)<|Wn.od (aR (k:=1) t161 rfl rfl rfl) rfl<|Wn.od (aF rfl) rfl ?_
                        obtain⟨h155,hF⟩:=bG hF;refine Wn.og (cV oG rfl rfl h155) gn rfl ?_;obtain⟨l62,h30,hF⟩:=J hF;obtain⟨h156,hF⟩:=au hF;refine Wn.x (dx (k:=2) (i:=y6.toNat) t162 rfl (by rw[Nat.mul_one]; rfl) rfl h30 (of_decide_eq_true h156)) gn rfl ?_
                        rintro⟨b46,h157⟩;refine Wn.od (aF rfl) rfl<|Wn.od (aR (k:=1) t161 rfl rfl rfl) rfl<|Wn.od (aF rfl) rfl ?_;obtain⟨h158,hF⟩:=bG hF;refine Wn.og (cV oG rfl rfl h158) gn rfl ?_;obtain⟨l80,h31,hF⟩:=J hF;obtain⟨h159,hF⟩:=au hF;refine Wn.x (dx (k:=2) (i:=y6.toNat) t162 rfl (by rw[Nat.mul_one]; rfl) rfl h31 (of_decide_eq_true h159)) gn rfl ?_
                        rintro⟨b47,h160⟩;refine Wn.od (aF rfl) rfl ?_;obtain⟨h161,hF⟩:=bG hF;refine Wn.og (cV o5 rfl rfl h161) gn rfl ?_;obtain⟨⟨x13,l63⟩,h162,hF⟩:=J hF;refine Wn.x (iY (k:=2) (i:=y6.toNat) (j:=y10.toNat) t103 rfl rfl rfl h31 h160 h162) gn rfl ?_;rintro⟨a31,c17⟩;refine Wn.od (aF rfl) rfl ?_;obtain⟨⟨r35,l64⟩,h163,hF⟩:=J hF;refine nv gn (fun m hm=>jI n (-1)  _ h163 m hm.aB) ?_;rintro⟨a32,c18,n19⟩;refine Wn.bJ (k:=0) rfl ?_;rintro rfl;obtain⟨⟨r46,l65⟩,h164,hF⟩:=J hF;refine nv gn (fun m hm=>iF n x13 l63 r35 l64 a31 c17 a32 c18 _ h164 m hm.aB (hm.q 1) (hm.no 1) (hm.q 0) (hm.no 0)) ?_;rintro⟨a33,c32,n20⟩;refine Wn.bJ (k:=0) rfl ?_;rintro rfl;obtain⟨h165,hF⟩:=bG hF;refine Wn.og (cV o5 rfl rfl h165) gn rfl ?_;obtain⟨h166,hF⟩:=au hF;refine Wn.o0 (sd (k:=5) (k2:=0) (i:=y6.toNat) (j:=y10.toNat) (w:=l65) (row:=l62) t103 rfl rfl rfl rfl h30 h157 h166 (.inl ⟨rfl,rfl⟩))<|Wn.nil (fun m hm=>du.all rfl) ?_;cases hF;exact At.fin .nil fun m' hm=>⟨(fun z=>r6 z∨ek a33=some z),rfl,(ak.aP [3,6,7,8,9,4,5,10,11,12,13,14,15,16,17] rfl rfl) m' hm⟩
                       ·refine wz ?_;obtain rfl:=Option.some.inj hF;exact At.fin .nil fun m' hm=>⟨r6,rfl,(ak.aP [0,3,4,5,6,1,2,7,8,9,10,11,12,13,14] rfl rfl) m' hm⟩
                     ·clear h150;rintro r12;refine wz ?_;obtain rfl:=Option.some.inj hF;exact ae r12 [0,1,2,3,4,5,6,7,8,9,10,11,12,14]
             ·clear h19;rintro r23;refine wz ?_;obtain rfl:=Option.some.inj hF;exact ae r23 [0,10,11,12,1,2,3,4,5,6,7,8,9,13]
            ·refine wz ?_;obtain rfl:=Option.some.inj hF;exact ae r2 [2,3,1,4,5,6,7,8,9,10,11,12,13,14]
           ·clear h87;rintro r22;refine dC ?_;cases hF;exact ae r22 [0,1,3,4,5,6,7,8,9,10,11,12,13]
          ·refine wz ?_;cases hF;exact ae r2 [0,3,4,5,6,7,8,9,10,11,12]
         ·clear h8;rintro r21;refine At.be ?_;obtain rfl:=Option.some.inj hF;exact At.fin .nil fun m' hm=>⟨r21,(ak.aP [0,1,2,3,4,5,6,7,8,9,10] rfl rfl) m' hm⟩
        ·clear h82;rintro r20
         change At _ .normal _ _ _
         refine aq ?_;obtain⟨r13,h167,hF⟩:=J hF;refine Wo.x (jh (α:=Option Addr × Nat) (V:=fun g=>(fun(r:Bool × List (Nat)) (g:Option Addr × Nat)=>match r,g with | (v22,l16),(a5,c2)=>(.agg #[cz v22,bK a5 l16 c2]:Value)) r13 g) (N:=fun g=>(fun(r:Bool × List (Nat)) (g:Option Addr × Nat)=>match r,g with | (v22,l16),(a5,c2)=>([dT a5 c2 l16,eu b3,bZ H b1 l2 b0 l3]:List Pc)) r13 g) rfl rfl (fun m hm=>?_)) gn rfl ?_
         ·clear hF;revert r13;intro r hF;refine bQ (N:=93) (rs:=[.cell 2 103]) rfl Tryz.func112 rfl rfl rfl hm ?_;refine wz ?_;refine wa fp fun b18=>?_;refine aq ?_;obtain⟨⟨r47,l81⟩,h168,hF⟩:=J hF;refine wv gn (fun m hm=>jI n 1  _ h168 m hm.aB) ?_;rintro⟨a34,c19,n21⟩;refine Wo.bJ (k:=0) rfl ?_;rintro rfl;refine wa fp fun b19=>?_;refine aq ?_;refine Wo.od (vn (k:=8) Hq rfl rfl qY) rfl ?_;refine wz ?_;refine Wk.block ?_;obtain⟨r29,h11,hF⟩:=J hF;refine ct (fun(r:(Bool × List (Nat)) ⊕ (Bool × List (Nat))) (g:Option Addr × Nat)=>match r,g with | .inl (v33,l30),(a16,c7)=>⟨.ret,[(2,ptr b18 0)],[ei b18 v33 a16 l30 c7,dT a16 c7 l30,eu b3,bZ H b1 l2 b0 l3]⟩ | .inr (v34,l31),(a17,c8)=>⟨(.exit 0),[(2,ptr b18 0),(3,ptr b19 0)],[eu b18,ei b19 v34 a17 l31 c8,dT a17 c8 l31,eu b3,bZ H b1 l2 b0 l3]⟩) r29 ?_ ?_
          ·refine lo h11 (r20,a34,c19) [8,2,0,1,4,12] (fun(l46,v5,l8,v0) ((r24,a3,c1):(Nat→Prop) × Option Addr × Nat)=>⟨.normal,[(0,IQ b5 y2),(2,ptr b18 0),(3,ptr b19 0),(11,E4 y2),(12,an v0)],[gh b5 y2 r0 r24 l46,eu b18,ei b19 v5 a3 l8 c1,dT a3 c1 l8,eu b3,bZ H b1 l2 b0 l3]⟩) ?_;clear hF h11;rintro⟨l46,v5,l8,v0⟩ ⟨r24,a3,c1⟩ r hF;unfold jf at hF;refine wz ?_;refine Wk.seq ?_;rcases aa hF with⟨h169,hF⟩|⟨h169,hF⟩
           ·refine dC ?_;obtain⟨h224,hF⟩:=bG hF;refine wz ?_;obtain⟨l82,h32,hF⟩:=J hF;obtain⟨h170,hF⟩:=au hF;refine Wo.x (dx (k:=0) (i:=v0.toNat) t162 rfl (by rw[Nat.mul_one]; rfl) rfl h32 (of_decide_eq_true h170)) gn rfl ?_
            rintro⟨b48,h171⟩;refine wz ?_;obtain⟨h225,hF⟩:=bG hF;refine wz ?_;obtain⟨⟨x14,l66⟩,h172,hF⟩:=J hF;refine Wo.x (iY (k:=0) (i:=v0.toNat) (j:=v0.toNat) t103 rfl rfl rfl h32 h171 h172) gn rfl ?_;rintro⟨a35,c20⟩;obtain⟨r48,h173,hF⟩:=J hF;refine wc gn (fun m hm=>BC n x14 l66 a35 c20 _ h173 m (hm.q 0)) ?_;rintro⟨⟩;refine wz ?_;rcases aa hF with⟨h174,hF⟩|⟨h174,hF⟩
            ·refine wz ?_;obtain⟨⟨r49,l83⟩,h175,hF⟩:=J hF;refine wv gn (fun m hm=>jI n 0  _ h175 m hm.aB) ?_;rintro⟨a36,c21,n22⟩;refine Wo.bJ (k:=0) rfl ?_;rintro rfl;refine aq ?_;cases hF;exact ae (a36,c21) [3,0,6,7]
            ·refine aq ?_;refine Wk.block ?_;obtain⟨l32,h12,hF⟩:=J hF;refine ct (fun l32 (r25:(Nat→Prop))=>⟨(.exit 2),[(0,IQ b5 y2),(2,ptr b18 0),(3,ptr b19 0),(4,an v0),(11,E4 y2),(12,an v0)],[gh b5 y2 r0 r25 l32,eu b18,ei b19 v5 a3 l8 c1,dT a3 c1 l8,eu b3,bZ H b1 l2 b0 l3]⟩) l32 ?_ ?_
             ·refine lo h12 r24 [1,2,3,4,5,6] (fun(l47,v3) r14=>⟨.normal,[(0,IQ b5 y2),(2,ptr b18 0),(3,ptr b19 0),(4,an v0),(5,an v3),(11,E4 y2),(12,an v0)],[gh b5 y2 r0 r14 l47,eu b18,ei b19 v5 a3 l8 c1,dT a3 c1 l8,eu b3,bZ H b1 l2 b0 l3]⟩) ?_;clear hF h12;rintro⟨l47,v3⟩ r14 r hF;unfold pw at hF;refine wz ?_;refine Wo.od (vn (k:=0) Hq rfl rfl qY) rfl ?_;refine wz ?_;rcases aa hF with⟨h176,hF⟩|⟨h176,hF⟩
              ·refine aq ?_;obtain⟨h226,hF⟩:=bG hF;refine wz ?_;obtain⟨l84,h33,hF⟩:=J hF;obtain⟨h177,hF⟩:=au hF;refine Wo.x (dx (k:=0) (i:=v3.toNat) t162 rfl (by rw[Nat.mul_one]; rfl) rfl h33 (of_decide_eq_true h177)) gn rfl ?_
               rintro⟨b49,h178⟩;refine wz ?_;obtain⟨h227,hF⟩:=bG hF;refine wz ?_;obtain⟨⟨x8,l33⟩,h179,hF⟩:=J hF;refine Wo.x (iY (k:=0) (i:=v3.toNat) (j:=v0.toNat) t103 rfl rfl rfl h33 h178 h179) gn rfl ?_;rintro⟨a20,c9⟩;refine wa fp fun b25=>?_;refine aq ?_;refine Wk.block ?_;obtain⟨l34,h13,hF⟩:=J hF;refine ct (fun l34 (r26:(Nat→Prop))=>⟨(.exit 4),[(0,IQ b5 y2),(2,ptr b18 0),(3,ptr b19 0),(4,an v0),(5,an v3),(11,E4 y2),(12,an v0)],[gh b5 y2 r0 r26 l34,eu b18,ei b19 v5 a3 l8 c1,dT a3 c1 l8,eu b3,bZ H b1 l2 b0 l3]⟩) l34 ?_ ?_
               ·refine lo h13 r14 [2,3,4,5,0,1,6,7] (fun(l48,v10) r15=>⟨.normal,[(0,IQ b5 y2),(2,ptr b18 0),(3,ptr b19 0),(4,an v0),(5,an v3),(6,ptr b25 0),(7,an v10),(11,E4 y2),(12,an v0)],[gh b5 y2 r0 r15 l48,eu b18,ei b19 v5 a3 l8 c1,dT a3 c1 l8,ei b25 x8 a20 l33 c9,dT a20 c9 l33,eu b3,bZ H b1 l2 b0 l3]⟩) ?_;clear hF h13;rintro⟨l48,v10⟩ r15 r hF;unfold tT at hF;refine wz ?_;refine Wo.od (vn (k:=0) Hq rfl rfl qY) rfl ?_;refine wz ?_;rcases aa hF with⟨h180,hF⟩|⟨h180,hF⟩
                ·refine wz ?_;refine Wk.seq<|Wk.block<|Wk.seq<|Wk.bV (prs:=[(14,15),(14,19),(14,22)]) (by kernel_rfl)<|Wn.od (aF rfl) rfl<|Wn.od (aF rfl) rfl ?_
                 obtain⟨h181,hF⟩:=bG hF;refine Wn.og (cV oG rfl rfl h181) gn rfl ?_;obtain⟨l85,h34,hF⟩:=J hF;obtain⟨h182,hF⟩:=au hF;refine Wn.x (dx (k:=0) (i:=v3.toNat) t162 rfl (by rw[Nat.mul_one]; rfl) rfl h34 (of_decide_eq_true h182)) gn rfl ?_
                 rintro⟨b50,h183⟩;refine Wn.od (aF rfl) rfl ?_;obtain⟨h184,hF⟩:=bG hF;refine Wn.og (cV o5 rfl rfl h184) gn rfl ?_;obtain⟨⟨x15,l67⟩,h185,hF⟩:=J hF;refine Wn.x (iY (k:=0) (i:=v3.toNat) (j:=v10.toNat) t103 rfl rfl rfl h34 h183 h185) gn rfl ?_;rintro⟨a37,c22⟩;refine Wn.od (aF rfl) rfl<|Wn.od (aF rfl) rfl ?_;obtain⟨h186,hF⟩:=bG hF;refine Wn.og (cV oG rfl rfl h186) gn rfl ?_;obtain⟨l86,h35,hF⟩:=J hF;obtain⟨h187,hF⟩:=au hF;refine Wn.x (dx (k:=1) (i:=v0.toNat) t162 rfl (by rw[Nat.mul_one]; rfl) rfl h35 (of_decide_eq_true h187)) gn rfl ?_
                 rintro⟨b51,h188⟩;refine Wn.od (aF rfl) rfl ?_;obtain⟨h189,hF⟩:=bG hF;refine Wn.og (cV o5 rfl rfl h189) gn rfl ?_;obtain⟨⟨x16,l68⟩,h190,hF⟩:=J hF;refine Wn.x (iY (k:=1) (i:=v0.toNat) (j:=v0.toNat) t103 rfl rfl rfl h35 h188 h190) gn rfl ?_;rintro⟨a38,c23⟩;obtain⟨⟨r36,l69⟩,h191,hF⟩:=J hF;refine nv gn (fun m hm=>CN n x15 l67 x16 l68 a37 c22 a38 c23 _ h191 m hm.aB (hm.q 1) (hm.no 1) (hm.q 0) (hm.no 0)) ?_;rintro⟨a39,c24,n23⟩;refine Wn.bJ (k:=0) rfl ?_;rintro rfl;refine Wn.od (aR (k:=7) t103 rfl rfl rfl) rfl<|Wn.od (aF rfl) rfl<|Wn.od (aF rfl) rfl ?_;obtain⟨h192,hF⟩:=bG hF;refine Wn.og (cV oG rfl rfl h192) gn rfl ?_;obtain⟨l87,h36,hF⟩:=J hF;obtain⟨h193,hF⟩:=au hF;refine Wn.x (dx (k:=3) (i:=v0.toNat) t162 rfl (by rw[Nat.mul_one]; rfl) rfl h36 (of_decide_eq_true h193)) gn rfl ?_
                 rintro⟨b52,h194⟩;refine Wn.od (aF rfl) rfl ?_;obtain⟨h195,hF⟩:=bG hF;refine Wn.og (cV o5 rfl rfl h195) gn rfl ?_;obtain⟨⟨x17,l70⟩,h196,hF⟩:=J hF;refine Wn.x (iY (k:=3) (i:=v0.toNat) (j:=v10.toNat) t103 rfl rfl rfl h36 h194 h196) gn rfl ?_;rintro⟨a40,c25⟩;obtain⟨⟨r37,l71⟩,h197,hF⟩:=J hF;refine nv gn (fun m hm=>CN n x8 l33 x17 l70 a20 c9 a40 c25 _ h197 m hm.aB (hm.q 9) (hm.no 9) (hm.q 0) (hm.no 0)) ?_;rintro⟨a41,c26,n24⟩;refine Wn.bJ (k:=0) rfl ?_;rintro rfl;obtain⟨⟨r38,l72⟩,h198,hF⟩:=J hF;refine nv gn (fun m hm=>Cf n r36 l69 r37 l71 a39 c24 a41 c26 _ h198 m hm.aB (hm.q 2) (hm.no 2) (hm.q 0) (hm.no 0)) ?_;rintro⟨a42,c27,n25⟩;refine Wn.bJ (k:=0) rfl ?_;rintro rfl;refine Wn.x (Qs fp rfl) gn rfl fun b53=>?_;refine Wn.o0 (mI (k:=0) t103 rfl rfl rfl rfl rfl)<|Wn.nil (fun m hm=>du.all rfl)<|At.tn<|Wk.bV (prs:=[(3,7)]) (by kernel_rfl)<|Wn.od (aF rfl) rfl<|Wn.od (aF rfl) rfl ?_
                 obtain⟨h199,hF⟩:=bG hF;refine Wn.og (cV oG rfl rfl h199) gn rfl ?_;obtain⟨l73,h37,hF⟩:=J hF;obtain⟨h200,hF⟩:=au hF;refine Wn.x (dx (k:=7) (i:=v3.toNat) t162 rfl (by rw[Nat.mul_one]; rfl) rfl h37 (of_decide_eq_true h200)) gn rfl ?_
                 rintro⟨b54,h201⟩;refine Wn.od (aF rfl) rfl<|Wn.od (aR (k:=0) t103 rfl rfl rfl) rfl<|Wn.od (aR (k:=9) t103 rfl rfl rfl) rfl ?_;obtain⟨⟨r50,l49,r51,l74⟩,h202,hF⟩:=J hF;refine Wn.c (LZ (N:=(fun x:Option Addr × Nat × Nat × Option Addr × Nat × Nat=>[.rd x.1 x.2.1 1 x.2.2.1 (l49.map (eN .u64)),.rd x.2.2.2.1 x.2.2.2.2.1 1 x.2.2.2.2.2 (l74.map (eN .u64))])) rfl rfl (fun m hm=>JZ n r38 l72 v5 l8 a42 c27 a3 c1 _ h202 m hm.aB (hm.q 1) (hm.no 1) (hm.q 10) (hm.no 10)) fun _=>rfl) gn rfl ?_;rintro⟨a43,c33,n26,a45,c34,n27⟩;refine Wn.bJ (k:=0) rfl ?_;rintro rfl;refine Wn.bJ (k:=1) rfl ?_;rintro rfl;refine Wn.od (aF rfl) rfl<|Wn.od (nB rfl rfl) rfl<|Wn.od (nB rfl rfl) rfl ?_;obtain⟨h203,hF⟩:=bG hF;refine Wn.og (cV o5 rfl rfl h203) gn rfl ?_;obtain⟨h204,hF⟩:=au hF;refine Wn.o0 (sd (k:=9) (k2:=0) (i:=v3.toNat) (j:=v10.toNat) (w:=l49) (row:=l73) t103 rfl rfl rfl rfl h37 h201 h204 (.inl ⟨rfl,rfl⟩))<|Wn.nil (fun m hm=>du.all rfl) ?_;refine aq ?_;cases hF;exact ae (fun z=>r15 z∨ek a43=some z) [9,10,11,12,13,14,15,16]
                ·refine wz ?_;cases hF;exact ae r15 [0,1,2,3,6,7]
               ·clear h13;rintro r26;refine aq ?_;cases hF;exact ae r26 [0,1,2,3,4,5]
              ·refine wz ?_;cases hF;exact ae r14 [0,1,2,3,4,5]
             ·clear h12;rintro r25;refine aq ?_;obtain⟨h228,hF⟩:=bG hF;refine wz ?_;obtain⟨l88,h38,hF⟩:=J hF;obtain⟨h205,hF⟩:=au hF;refine Wo.x (dx (k:=0) (i:=v0.toNat) t162 rfl (by rw[Nat.mul_one]; rfl) rfl h38 (of_decide_eq_true h205)) gn rfl ?_
              rintro⟨b55,h206⟩;refine wz ?_;obtain⟨h229,hF⟩:=bG hF;refine wz ?_;obtain⟨⟨x22,l89⟩,h207,hF⟩:=J hF;refine Wo.x (iY (k:=0) (i:=v0.toNat) (j:=v0.toNat) t103 rfl rfl rfl h38 h206 h207) gn rfl ?_;rintro⟨a44,c28⟩;refine aq ?_;cases hF;exact ae (r25,a44,c28) [1,2,3,0,5,6]
           ·refine wz ?_;cases hF;exact ae (a3,c1) [1,2,3,4,5]
          ·clear h11;rcases r29 with⟨v33,l30⟩|⟨v34,l31⟩
           ·rintro⟨a16,c7⟩;refine wz ?_;cases hF;exact ar (a16,c7) [1,2,3]
           ·rintro⟨a17,c8⟩;refine dC ?_;cases hF;exact ar (a17,c8) [2,3,4]
         ·clear h167;obtain⟨v22,l16⟩:=r13;rintro⟨a5,c2⟩;refine aq ?_;cases hF;exact At.ret (.cell (k:=1) t103 rfl rfl rfl .nil) fun m' hm=>⟨(a5,c2,l16.length),rfl,(ak.trans (ak.RU (k:=2) rfl) (ak.aP [0,2] rfl rfl)) m' hm⟩
theorem G8 (n x1 l2 x6 l7 a3 c4 a8 c9 r) (hF:Pd n x1 l2 x6 l7=some r) (m) (h5:fS m a3 c4 l2) (h10:fS m a8 c9 l7):
  ax ai 68 [iB x1 a3 l2 c4,iB x6 a8 l7 c9] m (fun v m'=>∃x:Unit,v = .int .i64 r∧Hp m m' []):=by
 unfold Pd at hF;refine cw Tryz.func68 (((Hp.start m).i h5).i h10) ?_;refine wz ?_;refine wb fun b11=>?_;refine wb fun b12=>?_;refine aq ?_;obtain⟨⟨r14,l15⟩,h13,hF⟩:=J hF;refine wv gn (fun m hm=>Cf n x1 l2 x6 l7 a3 c4 a8 c9 _ h13 m hm.aB (hm.q 3) (hm.no 3) (hm.q 2) (hm.no 2)) ?_;rintro⟨a16,c17,n18⟩;refine Wo.bJ (k:=0) rfl ?_;rintro rfl;obtain⟨r20,h19,hF⟩:=J hF;refine wc gn (fun m hm=>BC n r14 l15 a16 c17 _ h19 m (hm.q 0)) ?_;rintro⟨⟩;refine aq ?_;obtain rfl:=Option.some.inj hF;exact ar () []
theorem AW (n x1 l1 x3 x4 x5 x6 x7 x8 x9 x10 x11 a0 c0 r) (hF:Mo n x1 l1 x3 x4 x5 x6 x7 x8 x9 x10 x11=some r) (m) (hG:Gl m) (h4:iW m a0 c0 l1):
  ax ai 15 [iZ x1 a0 l1 c0,aZ x3,s9 x4 x5 x6 x7 x8 x9 x10 x11] m (fun v m'=>∃x:Option Addr × Nat,v = .tuple #[.slice x.1 x.2 x.2,.int .i64 r.2]∧Hp m m' [.sl x.1 1 x.2 (r.1.map (eI .i64))]):=by
 unfold Mo at hF;refine cw Tryz.func15 ((Hp.start m).i h4) ?_;refine wz ?_;refine wb fun b2=>?_;refine wb fun b3=>?_;refine wb fun b13=>?_;refine aq ?_;obtain⟨r9,h5,hF⟩:=J hF;refine wc gn (fun m hm=>Hb n x1 l1 x3 a0 c0 _ h5 m (hm.q 3)) ?_;rintro⟨⟩;refine aq ?_;rcases aa hF with⟨h6,hF⟩|⟨h6,hF⟩
 ·refine aq ?_;cases hF;exact At.ret (.tmp rfl (.tmp rfl .nil)) fun m' hm=>⟨(none,0),rfl,(ak.trans (ak.nil 1 rfl) (ak.aP [0] rfl rfl)) m' hm⟩
 ·refine aq ?_;obtain⟨⟨r1,l3⟩,h7,hF⟩:=J hF;refine wv gn (fun m hm=>GR n x4 x5 x6 x7 x8 x9 x10 x11  _ h7 m hm.aB) ?_;rintro⟨a2,c2,n0⟩;refine Wo.bJ (k:=0) rfl ?_;rintro rfl;refine wa fp fun b4=>?_;refine wz ?_;refine Wk.seq<|Wk.seq ?_;obtain⟨v2,h8,hF⟩:=J hF;refine ct (fun v2 (_:Unit)=>⟨.normal,[(3,ptr b2 0),(4,ptr b3 0),(9,ptr b4 0),(33,cz v2)],[fk b2 x1 a0 l1 c0,fm a0 c0 l1,eZ b3 x3,ei b4 r1 a2 l3 c2,dT a2 c2 l3]⟩) v2 ?_ ?_
  ·clear hF;revert v2;intro r hF;refine Wk.bV (prs:=[(4,7)]) (by kernel_rfl)<|Wn.od (aR (k:=0) t103 rfl rfl rfl) rfl ?_
   obtain⟨r10,h9,hF⟩:=J hF;refine nc gn (fun m hm=>BC n r1 l3 a2 c2 _ h9 m (hm.q 1)) ?_;rintro⟨⟩;refine Wn.od (aG rfl rfl (dH _ _ _)) rfl<|Wn.od (aF rfl) rfl ?_;rcases aa hF with⟨h0,hF⟩|⟨h0,hF⟩
   ·refine Wn.s (gg rfl rfl (dK h0)) rfl<|Wn.s (gg rfl rfl (dK h0)) rfl<|Wn.s (gg rfl rfl (dK h0)) rfl<|Wn.s (gg rfl rfl (dK h0)) rfl<|Wn.s (gg rfl rfl (dK h0)) rfl<|Wn.s (gg rfl rfl (dK h0)) rfl<|Wn.od (jk rfl h0 rfl) rfl<|Wn.nil (fun m hm=>du.all rfl) ?_;cases hF;exact ae () [4,5,3,0,1]
   ·refine Wn.og (aR (k:=0) t103 rfl rfl rfl) (gg rfl rfl (dm h0)) rfl<|Wn.og (aR (k:=4) t34 rfl rfl rfl) (gg rfl rfl (dm h0)) rfl<|Wn.og (aR (k:=3) t26 rfl rfl rfl) (gg rfl rfl (dm h0)) rfl ?_;obtain⟨⟨r8,l27⟩,h10,hF⟩:=J hF;refine nv (gg rfl rfl (dm h0)) (fun m hm=>Bo n x1 l1 x3 [] [] a0 c0 none none _ h10 m hm.aB (hG.ext hm.ext) (hm.q 5) (hm.no 5) Fq.nil Fq.nil) ?_;rintro⟨a13,c8,n1⟩;refine Wn.bJ (k:=0) rfl ?_;rintro rfl;obtain⟨r11,h11,hF⟩:=J hF;refine nc (gg rfl rfl (dm h0)) (fun m hm=>G8 n r1 l3 r8 l27 a2 c2 a13 c8 _ h11 m (hm.q 2) (hm.q 0)) ?_;rintro⟨⟩;refine Wn.og (aG rfl rfl (jC _ _ _)) (gg rfl rfl (dm h0)) rfl<|Wn.od (jV rfl h0 rfl) rfl<|Wn.nil (fun m hm=>du.all rfl) ?_;cases hF;exact ae () [5,6,4,1,2]
  ·clear h8;rintro⟨⟩;refine At.tn ?_;rcases aa hF with⟨h12,hF⟩|⟨h12,hF⟩
   ·refine aq ?_;cases hF;exact At.ret (.tmp rfl (.tmp rfl .nil)) fun m' hm=>⟨(none,0),rfl,(ak.trans (ak.nil 1 rfl) (ak.aP [0] rfl rfl)) m' hm⟩
   ·refine aq ?_;refine Wo.x GF gn rfl fun b0=>?_;refine Wo.x GF gn rfl fun b1=>?_;refine wa KY fun b7=>?_;refine wa KY fun b8=>?_;refine aq ?_;refine wa Mk fun b9=>?_;refine aq ?_;obtain⟨r2,h13,hF⟩:=J hF;refine Wo.x (jh (α:=Nat × Nat) (V:=fun g=>(fun(r:List (Int × Bool) × List (Int × Bool)) (g:Nat × Nat)=>match r,g with | (l10,l11),(b10,b5)=>(.func (.func 127) #[] #[ptr b10 0,ptr b5 0]:Value)) r2 g) (N:=fun g=>(fun(r:List (Int × Bool) × List (Int × Bool)) (g:Nat × Nat)=>match r,g with | (l10,l11),(b10,b5)=>([fk b10 x1 a0 l1 c0,fm a0 c0 l1,eZ b5 x3,fk b2 x1 a0 l1 c0,eZ b3 x3,ei b4 r1 a2 l3 c2,dT a2 c2 l3,bX b7 b0,.obj b0 (.map (l10.map (eM (fun n:Int=>.int .i64 n) (fun b:Bool=>.bool b)))),bX b8 b1,.obj b1 (.map (l11.map (eM (fun n:Int=>.int .i64 n) (fun b:Bool=>.bool b)))),Jo b9]:List Pc)) r2 g) rfl rfl (fun m hm=>?_)) gn rfl ?_
    ·clear hF;revert r2;intro r hF;refine bQ (N:=6) (rs:=[.tmp 4]) rfl Tryz.func69 rfl rfl rfl hm ?_;refine wz ?_;refine wb fun b11=>?_;refine wb fun b12=>?_;refine aq ?_;refine Wo.od (AR rfl rfl) rfl ?_;refine aq ?_;cases hF;exact ar (b11,b12) [1,8,0,7,9,10,11,4,6,3,5,2]
    ·clear h13;obtain⟨l10,l11⟩:=r2;rintro⟨b10,b5⟩;refine wz ?_;refine Wk.block ?_;obtain⟨r3,h14,hF⟩:=J hF;refine Wk.range (N:=25) (rs:=[]) (γ:=Option Addr × Nat × Option Addr) (X:=fun g=>(fun(r:Bool × List (Nat) × List (Int × Bool) × List (Int × Bool) × List (Int)) (g:Option Addr × Nat × Option Addr)=>(match r,g with | (v4,l15,l20,l21,l12),(a11,c6,a6)=>⟨.ready,none,[fk b2 x1 a0 l1 c0,fm a0 c0 l1,eZ b3 x3,ei b4 v4 a11 l15 c6,dT a11 c6 l15,bX b7 b0,.obj b0 (.map (l20.map (eM (fun n:Int=>.int .i64 n) (fun b:Bool=>.bool b)))),bX b8 b1,.obj b1 (.map (l21.map (eM (fun n:Int=>.int .i64 n) (fun b:Bool=>.bool b)))),lM b9 a6 l12,e7 a6 l12]⟩:Rn)) r3 g) rfl rfl Tryz.func127 rfl rfl rfl ?_ (fun y=>by intro e; cases e) ?_
     ·clear hF;revert r3;intro r hF;intro t0 l2 r0 h15 h16;refine wz ?_;refine Wk.block ?_;obtain⟨r6,h1,hF⟩:=J hF;refine ct (fun(v3,l6,l13,l14,l7) ((a4,c3,a5):Option Addr × Nat × Option Addr)=>⟨(.exit 0),[],[.obj l2 (r0 .ready none),fk b2 x1 a0 l1 c0,fm a0 c0 l1,eZ b3 x3,ei b4 v3 a4 l6 c3,dT a4 c3 l6,bX b7 b0,.obj b0 (.map (l13.map (eM (fun n:Int=>.int .i64 n) (fun b:Bool=>.bool b)))),bX b8 b1,.obj b1 (.map (l14.map (eM (fun n:Int=>.int .i64 n) (fun b:Bool=>.bool b)))),lM b9 a5 l7,e7 a5 l7]⟩) r6 ?_ ?_
      ·refine Wk.mH (fs':=[(0,.func (.yield l2) #[] #[]),(2,ptr b5 0),(7,bK a0 l1 c0),(8,eo l1),(9,.int .i64 0)]) (ps':=[.obj l2 (r0 .ready none),eZ b5 x3,fm a0 c0 l1,fk b2 x1 a0 l1 c0,eZ b3 x3,ei b4 r1 a2 l3 c2,dT a2 c2 l3,bX b7 b0,.obj b0 (.map (l10.map (eM (fun n:Int=>.int .i64 n) (fun b:Bool=>.bool b)))),bX b8 b1,.obj b1 (.map (l11.map (eM (fun n:Int=>.int .i64 n) (fun b:Bool=>.bool b)))),QV b9,.sl none 1 ([]:List (Int)).length (([]:List (Int)).map (eI .i64))]) (sc rfl (sc rfl (sc rfl (sc rfl (sc rfl sn))))) (ak.trans (ak.nil 1 rfl) (ak.aP [1,4,3,5,6,7,8,9,10,11,12,13,0] rfl rfl))<|Wk.loop (σ:=Int × Bool × List (Nat) × List (Int × Bool) × List (Int × Bool) × List (Int)) (ρ:=Bool × List (Nat) × List (Int × Bool) × List (Int × Bool) × List (Int)) (γ:=Option Addr × Nat × Option Addr) (δ:=fun _=>Option Addr × Nat × Option Addr) _ (fun(s:Int × Bool × List (Nat) × List (Int × Bool) × List (Int × Bool) × List (Int)) (g:Option Addr × Nat × Option Addr)=>match s,g with | (v0,v1,l4,l5,l8,l9),(a1,c1,a3)=>⟨.normal,[(0,.func (.yield l2) #[] #[]),(2,ptr b5 0),(7,bK a0 l1 c0),(8,eo l1),(9,an v0)],[.obj l2 (r0 .ready none),eZ b5 x3,fm a0 c0 l1,fk b2 x1 a0 l1 c0,eZ b3 x3,ei b4 v1 a1 l4 c1,dT a1 c1 l4,bX b7 b0,.obj b0 (.map (l5.map (eM (fun n:Int=>.int .i64 n) (fun b:Bool=>.bool b)))),bX b8 b1,.obj b1 (.map (l8.map (eM (fun n:Int=>.int .i64 n) (fun b:Bool=>.bool b)))),lM b9 a3 l9,e7 a3 l9]⟩) (fun(r:Bool × List (Nat) × List (Int × Bool) × List (Int × Bool) × List (Int)) (g:Option Addr × Nat × Option Addr)=>match r,g with | (v3,l6,l13,l14,l7),(a4,c3,a5)=>⟨(.exit 0),[],[.obj l2 (r0 .ready none),fk b2 x1 a0 l1 c0,fm a0 c0 l1,eZ b3 x3,ei b4 v3 a4 l6 c3,dT a4 c3 l6,bX b7 b0,.obj b0 (.map (l13.map (eM (fun n:Int=>.int .i64 n) (fun b:Bool=>.bool b)))),bX b8 b1,.obj b1 (.map (l14.map (eM (fun n:Int=>.int .i64 n) (fun b:Bool=>.bool b)))),lM b9 a5 l7,e7 a5 l7]⟩) ?_ (fun _ _=>rfl) (fun r d=>by intro e; cases e) _ _ _ h1 (a2,c2,none)
       clear hF h1;rintro⟨v0,v1,l4,l5,l8,l9⟩ ⟨a1,c1,a3⟩ r hF;unfold ql at hF;refine wz ?_;refine Wk.seq ?_;rcases aa hF with⟨h17,hF⟩|⟨h17,hF⟩
       ·refine aq ?_;obtain⟨h18,hF⟩:=bG hF;refine Wo.bI (k:=2) rfl (aM h18) ?_;rintro b6 o1 rfl;refine wz ?_;obtain⟨⟨x12,x13⟩,h26,hF⟩:=J hF;refine wz ?_;refine wa FC fun b14=>?_;refine wz ?_;refine Wk.seq ?_;obtain⟨r4,h19,hF⟩:=J hF;refine ct (fun(v5,l16,l22,l23,l17) ((a7,c4,a8):Option Addr × Nat × Option Addr)=>⟨.normal,[(0,.func (.yield l2) #[] #[]),(2,ptr b5 0),(7,mF b6 o1 l1 c0),(8,eo l1),(9,an v0),(23,.bool false)],[.obj l2 (r0 .ready none),eZ b5 x3,dI b6 o1 l1,dJ b6 o1 c0 l1,kJ b2 x1 b6 o1 l1 c0,eZ b3 x3,ei b4 v5 a7 l16 c4,dT a7 c4 l16,bX b7 b0,.obj b0 (.map (l22.map (eM (fun n:Int=>.int .i64 n) (fun b:Bool=>.bool b)))),bX b8 b1,.obj b1 (.map (l23.map (eM (fun n:Int=>.int .i64 n) (fun b:Bool=>.bool b)))),lM b9 a8 l17,e7 a8 l17]⟩) r4 ?_ ?_
        ·clear hF;revert r4;intro r hF;refine wz ?_;obtain⟨r12,h20,hF⟩:=J hF;refine wc gn (fun m hm=>th n x3 x12 x13  _ h20 m) ?_;rintro⟨⟩;refine wz ?_;rcases aa hF with⟨h2,hF⟩|⟨h2,hF⟩
         ·refine wz ?_;obtain⟨r5,h3,hF⟩:=J hF;refine Wo.x (JW (k:=2) (k1:=0) (γA:=Unit) (GA:=(fun g:Unit=>(match g with|_=>⟨.normal,[(3,ptr b2 0),(4,ptr b3 0),(9,ptr b4 0),(10,ptr b7 0),(11,ptr b8 0),(12,ptr b9 0),(13,an v0)],[.obj l2 (r0 .ready none),kJ b2 x1 b6 o1 l1 c0,dI b6 o1 l1,dJ b6 o1 c0 l1,eZ b3 x3,ei b4 v1 a1 l4 c1,dT a1 c1 l4,bX b7 b0,.obj b0 (.map (l5.map (eM (fun n:Int=>.int .i64 n) (fun b:Bool=>.bool b)))),bX b8 b1,.obj b1 (.map (l8.map (eM (fun n:Int=>.int .i64 n) (fun b:Bool=>.bool b)))),lM b9 a3 l9,e7 a3 l9,eZ b5 x3]⟩:En))) (γ:=Option Addr × Nat × Option Addr) (G:=fun g=>(fun(r:Bool × List (Nat) × List (Int × Bool) × List (Int × Bool) × List (Int)) (g:Option Addr × Nat × Option Addr)=>(match r,g with | (v6,l18,l24,l25,l19),(a9,c5,a10)=>⟨.normal,[],[.obj l2 (r0 .busy none),kJ b2 x1 b6 o1 l1 c0,dI b6 o1 l1,dJ b6 o1 c0 l1,eZ b3 x3,ei b4 v6 a9 l18 c5,dT a9 c5 l18,bX b7 b0,.obj b0 (.map (l24.map (eM (fun n:Int=>.int .i64 n) (fun b:Bool=>.bool b)))),bX b8 b1,.obj b1 (.map (l25.map (eM (fun n:Int=>.int .i64 n) (fun b:Bool=>.bool b)))),lM b9 a10 l19,e7 a10 l19,eZ b5 x3]⟩:En)) r5 g) rfl rfl rfl h16 h15 rfl ?_ (fun _=>rfl) (fun _=>rfl) ?_ (fun y=>rfl)) (gg rfl rfl (gR h2)) rfl ?_
          ·clear hF h3;refine wz ?_;exact ae () [2,5,1,4,6,7,8,9,10,11,12,13,14,3]
          ·clear hF;revert r5;intro r hF;rintro⟨⟩;refine wz ?_;refine Wo.o0 (EV (q:=8) (xs:=l5) (k:=v0) (v:=true) (vE:=(fun b:Bool=>.bool b)) xd (kF u3) rfl rfl rfl rfl) ?_;refine aq ?_;obtain⟨⟨r7,l26⟩,h21,hF⟩:=J hF;refine wv gn (fun m hm=>Bo n x1 l1 x3 (cH l5 v0 true) l8 (some ⟨b6,o1,none⟩) c0 (some b0) (some b1) _ h21 m hm.aB (hG.ext hm.ext) (hm.q 3) (hm.no 3) (hm.Q7 (k:=8) (xs:=(cH l5 v0 true)) rfl) (hm.Q7 (k:=10) (xs:=l8) rfl)) ?_;rintro⟨a12,c7,n2⟩;refine Wo.bJ (k:=0) rfl ?_;rintro rfl;refine wa fp fun b15=>?_;refine aq ?_;obtain⟨r13,h22,hF⟩:=J hF;refine wc gn (fun m hm=>G8 n v1 l4 r7 l26 a1 c1 a12 c7 _ h22 m (hm.q 8) (hm.q 1)) ?_;rintro⟨⟩;refine wz ?_;rcases aa hF with⟨h23,hF⟩|⟨h23,hF⟩
           ·refine wz ?_;refine Wo.x (kH (es:=([v0]:List (Int)).map (eI .i64)) lh rfl (ia lh z3 rfl rfl) rfl rfl) gn rfl fun b16=>?_;obtain⟨h24,hF⟩:=au hF;refine Wo.x (lO (k:=15) (k2:=0) (xs:=(l9:List (Int))) (ys:=([v0]:List (Int))) (AS .i64) lh ⟨_,HU⟩ rfl rfl rfl (.arr _ _ _ _ _) h24) gn rfl fun a14=>?_;refine aq ?_;cases hF;exact ae (a1,c1,a14) [3,4,5,6,7,8,9,10,11,12,13,14,15,16]
           ·refine aq ?_;obtain⟨⟨r14,l28⟩,h25,hF⟩:=J hF;refine wv gn (fun m hm=>Cf n v1 l4 r7 l26 a1 c1 a12 c7 _ h25 m hm.aB (hm.q 8) (hm.no 8) (hm.q 1) (hm.no 1)) ?_;rintro⟨a15,c9,n4⟩;refine Wo.bJ (k:=0) rfl ?_;rintro rfl;refine aq ?_;refine Wo.o0 (PO (q:=11) (xs:=(cH l5 v0 true)) (k:=v0) (vE:=(fun b:Bool=>.bool b)) xd (kF u3) rfl rfl) ?_;refine aq ?_;refine Wo.o0 (EV (q:=13) (xs:=l8) (k:=v0) (v:=true) (vE:=(fun b:Bool=>.bool b)) xd (kF u3) rfl rfl rfl rfl) ?_;refine wz ?_;cases hF;exact ae (a15,c9,a3) [3,4,5,6,7,8,0,10,11,12,13,14,15,16]
          ·clear h3;obtain⟨v6,l18,l24,l25,l19⟩:=r5;rintro⟨a9,c5,a10⟩;refine wz ?_;cases hF;exact ae (a9,c5,a10) [0,13,2,3,1,4,5,6,7,8,9,10,11,12]
         ·refine wz ?_;cases hF;exact ae (a1,c1,a3) [2,3,1,4,5,6,7,8,9,10,11,12,13,14]
        ·clear h19;obtain⟨v5,l16,l22,l23,l17⟩:=r4;rintro⟨a7,c4,a8⟩;refine dC ?_;cases hF;exact ae (a7,c4,a8) [0,1,3,4,5,6,7,8,9,10,11,12,13]
       ·refine wz ?_;cases hF;exact ae (a1,c1,a3) [0,3,2,4,5,6,7,8,9,10,11,12]
      ·clear h1;obtain⟨v3,l6,l13,l14,l7⟩:=r6;rintro⟨a4,c3,a5⟩;refine At.be ?_;cases hF;exact At.fin .nil fun m' hm=>⟨(a4,c3,a5),(ak.aP [0,1,2,3,4,5,6,7,8,9,10,11] rfl rfl) m' hm⟩
     ·clear h14;obtain⟨v4,l15,l20,l21,l12⟩:=r3;rintro⟨a11,c6,a6⟩
      change At _ .normal _ _ _
      refine dC ?_;cases hF;exact ar (a6,l12.length) [10]
theorem BU (n x1 l1 x3 x4 x5 x6 x7 x8 x9 x10 x11 a0 c0 r) (hF:LK n x1 l1 x3 x4 x5 x6 x7 x8 x9 x10 x11=some r) (m) {H:Nat→Prop} (hH:∀b,H b→b<m.next) (h1:iW m a0 c0 l1) (h2:∀b,ek a0=some b→¬H b):
  ax ai 17 [iZ x1 a0 l1 c0,aZ x3,s9 x4 x5 x6 x7 x8 x9 x10 x11] m (fun v m'=>∃x:Option Addr × Nat × Nat,v = .tuple #[.slice x.1 x.2.2 x.2.1,.int .i64 r.2]∧Hp m m' [.rd x.1 x.2.1 1 x.2.2 (r.1.map (eI .i64)),cM H]):=by
 unfold LK at hF;refine cw Tryz.func17 (Hp.gL (l0:=[]) (Hp.dj m hH) rfl h1 h2) ?_;refine wz ?_;refine wb fun b0=>?_;refine wb fun b1=>?_;refine aq ?_;obtain⟨r2,h3,hF⟩:=J hF;refine wc gn (fun m hm=>Bj n x1 l1 x3 a0 c0 _ h3 m (hm.q 2)) ?_;rintro⟨⟩;refine aq ?_;rcases aa hF with⟨h4,hF⟩|⟨h4,hF⟩
 ·refine aq ?_;cases hF;exact At.ret (.tmp rfl (.tmp rfl .nil)) fun m' hm=>⟨(none,0,0),rfl,(ak.trans (ak.Qp 1) (ak.aP [0,4] rfl rfl)) m' hm⟩
 ·refine aq ?_;obtain⟨l2,h5,hF⟩:=J hF;refine Wo.x (Dx rfl rfl (fun m hm=>B4 n x1 l1 x3 a0 c0 _ h5 m (hm.q 2)) fun _=>k7) gn rfl ?_;rintro⟨a1,n0,r1⟩;refine Wo.vc (k:=0) rfl ?_;rintro rfl;refine aq ?_;obtain⟨⟨r0,r3⟩,h6,hF⟩:=J hF;refine wc gn (fun m hm=>Fy n x4 x5 x6 x7 x8 x9 x10 x11  _ h6 m) ?_;rintro⟨⟩;refine wz ?_;refine Wk.seq<|Wk.seq ?_;obtain⟨v0,h7,hF⟩:=J hF;refine ct (fun v0 (_:Unit)=>⟨.normal,[(9,iq a1 l2),(10,an r0),(37,cz v0)],[EX a1 l2 r1,cM H]⟩) v0 ?_ ?_
  ·clear hF;revert v0;intro r hF;refine wz ?_;rcases aa hF with⟨h8,hF⟩|⟨h8,hF⟩
   ·refine wz ?_;cases hF;exact ae () [0,4]
   ·refine wz ?_;rcases aa hF with⟨h0,hF⟩|⟨h0,hF⟩
    ·refine wz ?_;cases hF;exact ae () [0,4]
    ·refine wz ?_;refine Wo.og (vn (k:=0) Lz rfl rfl GN) (gg rfl rfl (dm h0)) rfl ?_;refine wz ?_;cases hF;exact ae () [0,4]
  ·clear h7;rintro⟨⟩;refine At.tn ?_;rcases aa hF with⟨h9,hF⟩|⟨h9,hF⟩
   ·refine aq ?_;cases hF;exact At.ret (.tmp rfl (.tmp rfl .nil)) fun m' hm=>⟨(none,0,0),rfl,(ak.trans (ak.Qp 1) (ak.aP [0,2] rfl rfl)) m' hm⟩
   ·refine aq ?_;obtain⟨h10,hF⟩:=bG hF;refine Wo.cZ (ak.zY (k:=0) rfl)<|Wo.Hn (k:=0) rfl (aM h10) ?_;rintro b2 rfl;refine wz ?_;obtain⟨l3,h11,hF⟩:=J hF;refine Wo.x (Mg (k:=0) (i:=r0.toNat) t49 rfl (by rw[Nat.mul_one]; rfl) rfl h11) gn rfl ?_
    rintro⟨a2,c1⟩;refine aq ?_;cases hF;exact ar (a2,c1,l3.length) [0,2]
theorem B8 (n l1 l5 a2 c3 a6 c7 r) (hF:NN n l1 l5=some r) (m) (h4:dW m a2 c3 l1) (h8:dW m a6 c7 l5):
  ax ai 18 [bK a2 l1 c3,bK a6 l5 c7] m (fun v m'=>∃x:Unit,v = .bool r∧Hp m m' []):=by
 unfold NN at hF;refine cw Tryz.func18 (((Hp.start m).i h4).i h8) ?_;refine aq ?_;rcases aa hF with⟨h9,hF⟩|⟨h9,hF⟩
 ·refine aq ?_;cases hF;exact ar () []
 ·refine aq ?_;refine Wk.block ?_;obtain⟨r38,h37,hF⟩:=J hF;refine ct (fun(r:(Unit) ⊕ (Unit)) (g:Unit)=>match r,g with | .inl _,_=>⟨.ret,[(4,.bool false)],[]⟩ | .inr _,_=>⟨(.exit 0),[],[]⟩) r38 ?_ ?_
  ·refine lo h37 () [1,0] (fun v11 _=>⟨.normal,[(0,bK a2 l1 c3),(1,bK a6 l5 c7),(12,eo l1),(13,an v11)],[dZ a2 c3 l1,dZ a6 c7 l5]⟩) ?_;clear hF h37;rintro v11 ⟨⟩ r hF;unfold uN at hF;refine wz ?_;refine Wk.seq ?_;rcases aa hF with⟨h25,hF⟩|⟨h25,hF⟩
   ·refine dC ?_;obtain⟨h26,hF⟩:=bG hF;refine Wo.bI (k:=0) rfl (aM h26) ?_;rintro b27 o28 rfl;refine wz ?_;obtain⟨x29,h30,hF⟩:=J hF;refine wz ?_;obtain⟨h31,hF⟩:=bG hF;refine Wo.bI (k:=2) rfl (aM h31) ?_;rintro b32 o33 rfl;refine wz ?_;obtain⟨x34,h35,hF⟩:=J hF;refine wz ?_;rcases aa hF with⟨h36,hF⟩|⟨h36,hF⟩
    ·refine aq ?_;cases hF;exact ae () []
    ·refine aq ?_;cases hF;exact ae () [2,3]
   ·refine wz ?_;cases hF;exact ae () []
  ·clear h37;rcases r38 with _|_
   ·rintro⟨⟩;refine wz ?_;cases hF;exact ar () []
   ·rintro⟨⟩;refine dC ?_;cases hF;exact ar () []
theorem Ni (n x1 r) (hF:QS n x1=some r) (m):
  ax ai 43 [aZ x1] m (fun v m'=>∃x:Unit,v = .int .i64 r∧Hp m m' []):=by
 unfold QS at hF;refine cw Tryz.func43 (Hp.start m) ?_;refine aq ?_;refine Wo.od (aG rfl rfl (ca _ _ rfl)) rfl<|Wo.od (aG rfl rfl (nH rfl _ _)) rfl<|Wo.od (aF rfl) rfl<|Wo.od (aG rfl rfl (nH rfl _ _)) rfl ?_;obtain⟨y2,h3,hF⟩:=J hF;refine Wo.od (aG rfl rfl ((pz rfl _ _).trans (cN h3))) rfl ?_;refine aq ?_;refine Wo.od (aG rfl rfl (ca _ _ rfl)) rfl<|Wo.od (aG rfl rfl (nH rfl _ _)) rfl<|Wo.od (aF rfl) rfl<|Wo.od (aG rfl rfl (nH rfl _ _)) rfl ?_;obtain⟨y4,h5,hF⟩:=J hF;refine Wo.od (aG rfl rfl ((pz rfl _ _).trans (cN h5))) rfl ?_;refine aq ?_;refine Wo.od (aG rfl rfl (ca _ _ rfl)) rfl<|Wo.od (aF rfl) rfl<|Wo.od (aG rfl rfl (pz rfl _ _)) rfl ?_;obtain⟨y6,h7,hF⟩:=J hF;refine Wo.od (aG rfl rfl ((nH rfl _ _).trans (cN h7))) rfl ?_;refine aq ?_;refine Wo.od (aG rfl rfl (ca _ _ rfl)) rfl ?_;refine aq ?_;refine Wo.od (aG rfl rfl (ca _ _ rfl)) rfl ?_;obtain⟨y8,h9,hF⟩:=J hF;refine Wo.od (aG rfl rfl ((pz rfl _ _).trans (cN h9))) rfl ?_;refine aq ?_;refine Wo.od (aG rfl rfl (ca _ _ rfl)) rfl ?_;refine aq ?_;refine Wo.od (fq rfl (m8 (by rw[Fi]; rfl) u3)) rfl ?_
 obtain⟨y10,h11,hF⟩:=J hF;refine Wo.od (aG rfl rfl ((OF _ _).trans (cI h11))) rfl ?_;refine aq ?_;obtain rfl:=Option.some.inj hF;exact ar () []
theorem BJ (n x1 l2 x3 l1 a1 c1 a2 c0 r) (hF:Mx n x1 l2 x3 l1=some r) (m) (h3:iW m a1 c1 l2) (h4:dW m a2 c0 l1):
  ax ai 22 [iZ x1 a1 l2 c1,aZ x3,bK a2 l1 c0] m (fun v m'=>∃x:Unit,v = .int .i64 r∧Hp m m' []):=by
 unfold Mx at hF;refine cw Tryz.func22 (((Hp.start m).i h3).i h4) ?_;refine wz ?_;refine wb fun b1=>?_;refine aq ?_;obtain⟨r5,h5,hF⟩:=J hF;refine wc gn (fun m hm=>Hb n x1 l2 x3 a1 c1 _ h5 m (hm.q 2)) ?_;rintro⟨⟩;refine aq ?_;rcases aa hF with⟨h6,hF⟩|⟨h6,hF⟩
 ·refine aq ?_;obtain rfl:=Option.some.inj hF;exact ar () []
 ·refine aq ?_;obtain⟨l6,h7,hF⟩:=J hF;refine wc gn (fun m hm=>Ih n   _ h7 m) ?_;rintro⟨a4,n2⟩;refine Wo.len (k:=0) (xs:=l6) rfl ?_;rintro rfl;refine wa Jg fun b2=>?_;refine dC ?_;refine Wk.block ?_;obtain⟨r2,h0,hF⟩:=J hF;refine ct (fun(r:(Unit) ⊕ (Unit)) (g:Unit)=>match r,g with | .inl _,_=>⟨.ret,[(6,.int .i64 300)],[]⟩ | .inr _,_=>⟨(.exit 0),[(1,aZ x3),(2,bK a2 l1 c0)],[dZ a2 c0 l1]⟩) r2 ?_ ?_
  ·refine lo h0 a4 [3,2,4,0,1] (fun(l3,n0,v2,v0) a0=>⟨.normal,[(1,aZ x3),(2,bK a2 l1 c0),(3,ptr b1 0),(8,ptr b2 0),(9,an v2),(19,bK a2 l1 c0),(20,eo l1),(21,an v0)],[dZ a2 c0 l1,fk b1 x1 a1 l2 c1,fm a1 c1 l2,pG b2 a0 n0,cJ a0 n0 l3]⟩) ?_;clear hF h0;rintro⟨l3,n0,v2,v0⟩ a0 r hF;unfold mJ at hF;refine wz ?_;refine Wk.seq ?_;rcases aa hF with⟨h8,hF⟩|⟨h8,hF⟩
   ·refine aq ?_;obtain⟨h9,hF⟩:=bG hF;refine Wo.bI (k:=0) rfl (aM h9) ?_;rintro b0 o1 rfl;refine wz ?_;obtain⟨x6,h22,hF⟩:=J hF;refine wz ?_;refine Wk.seq<|Wk.seq ?_;obtain⟨r1,h10,hF⟩:=J hF;refine ct (fun(l5,n1,v3) (a3:Option Addr)=>⟨.normal,[(1,aZ x3),(2,mF b0 o1 l1 c0),(3,ptr b1 0),(8,ptr b2 0),(11,an x6),(19,mF b0 o1 l1 c0),(20,eo l1),(21,an v0),(54,cz v3)],[Ii b0 o1 l1,FN b0 o1 c0 l1,fk b1 x1 a1 l2 c1,fm a1 c1 l2,pG b2 a3 n1,cJ a3 n1 l5]⟩) r1 ?_ ?_
    ·clear hF;revert r1;intro r hF;refine wz ?_;rcases aa hF with⟨h11,hF⟩|⟨h11,hF⟩
     ·refine wz ?_;cases hF;exact ae a0 [0,1,2,3,4,5]
     ·refine wz ?_;rcases aa hF with⟨h1,hF⟩|⟨h1,hF⟩
      ·refine wz ?_;cases hF;exact ae a0 [0,1,2,3,4,5]
      ·refine wz ?_;obtain⟨h12,hF⟩:=bG hF;refine Wo.bI (k:=3) rfl (aM h12) ?_;rintro b3 o2 rfl;refine wz ?_;obtain⟨⟨x4,x5⟩,h23,hF⟩:=J hF;refine wz ?_;obtain⟨r6,h13,hF⟩:=J hF;refine wc (gg rfl rfl (dm h1)) (fun m hm=>th n x3 x4 x5  _ h13 m) ?_;rintro⟨⟩;refine wz ?_;rcases aa hF with⟨h2,hF⟩|⟨h2,hF⟩
       ·refine wz ?_;cases hF;exact ae a0 [1,2,3,4,5,6]
       ·refine wz ?_;obtain⟨h24,hF⟩:=bG hF;refine wz ?_;obtain⟨r0,h14,hF⟩:=J hF;refine Wo.x (jh (α:=Unit) (V:=fun g=>(fun(r:Bool × List (Int)) (g:Unit)=>match r,g with | (v1,l4),_=>(.bool v1:Value)) r0 g) (N:=fun g=>(fun(r:Bool × List (Int)) (g:Unit)=>match r,g with | (v1,l4),_=>([Ii b0 o1 l1,FN b0 o1 c0 l1,kJ b1 x1 b3 o2 l2 c1,dI b3 o2 l2,dJ b3 o2 c1 l2,lM b2 a0 l3,.sl a0 1 l3.length (l4.map (eI .i64))]:List Pc)) r0 g) rfl rfl (fun m hm=>?_)) (gg rfl rfl (dm h2)) rfl ?_
        ·clear hF;revert r0;intro r hF;refine bQ (N:=29) (rs:=[.tmp 4]) rfl Tryz.func79 rfl rfl rfl hm ?_;refine wz ?_;refine wb fun b4=>?_;refine wb fun b5=>?_;refine wz ?_;refine Wk.seq<|Wk.bV (prs:=[(4,6),(4,8)]) (by kernel_rfl)<|Wn.od (bM (r:=ptr b4 0) rfl (oa _ _)) rfl<|Wn.od (aR (k:=1) t131 rfl rfl rfl) rfl<|Wn.od (iD (r:=ptr b5 0) rfl rfl (ja iC (i:=0) (by decide))) rfl<|Wn.od (aR (k:=0) t3 rfl rfl rfl) rfl ?_
         obtain⟨r3,h15,hF⟩:=J hF;have hFx:=hF;refine Wn.len (k:=8) (xs:=(l3:List (Int))) rfl ?_;rintro rfl;replace hF:=hFx;clear hFx;refine nc gn (fun m hm=>qL n l3 x4 a0 l3.length _ h15 m (hm.rd (k:=8) rfl (.sl _ _ _ _))) ?_;rintro⟨⟩;refine Wn.od (bM (r:=ptr b4 0) rfl (oa _ _)) rfl<|Wn.od (aR (k:=1) t131 rfl rfl rfl) rfl<|Wn.od (iD (r:=ptr b5 1) rfl rfl (ja iC (i:=1) (by decide))) rfl<|Wn.od (aR (k:=0) t3 rfl rfl rfl) rfl ?_
         obtain⟨r4,h16,hF⟩:=J hF;refine nc gn (fun m hm=>qL n l3 x5 a0 l3.length _ h16 m (hm.rd (k:=8) rfl (.sl _ _ _ _))) ?_;rintro⟨⟩;refine Wn.od (cl rfl) rfl<|Wn.od (cl rfl) rfl<|Wn.nil (fun m hm=>du.all rfl) ?_;refine aq ?_;refine Wo.od (D1 rfl rfl (FW _ _)) rfl ?_;refine wz ?_;refine Wo.od (D1 rfl rfl (IL _ _)) rfl ?_;obtain⟨h17,hF⟩:=bG hF;refine Wo.open (k:=8) rfl (aM h17) ?_;rintro b6 t0 rfl h25;refine wz ?_;obtain⟨x7,h18,hF⟩:=J hF;refine Wo.o0 (ew (k:=8) (x1:=x7) (x2:=mi r3 r4) t3 rfl rfl rfl h18 rfl) ?_;refine dC ?_;cases hF;exact At.ret (.tmp rfl .nil) fun m' hm=>⟨(),rfl,(ak.trans (ak.close (k:=8) rfl) (ak.aP [3,4,5,2,6,7,8] rfl rfl)) m' hm⟩
        ·clear h14;obtain⟨v1,l4⟩:=r0;rintro⟨⟩;refine wz ?_;cases hF;exact ae a0 [0,1,2,4,5,6]
    ·clear h10;obtain⟨l5,n1,v3⟩:=r1;rintro a3;refine At.tn ?_;rcases aa hF with⟨h19,hF⟩|⟨h19,hF⟩
     ·refine aq ?_;cases hF;exact ae () []
     ·refine dC ?_;cases hF;exact ae a3 [1,2,3,4,5]
   ·refine wz ?_;cases hF;exact ae () [0]
  ·clear h0;rcases r2 with _|_
   ·rintro⟨⟩;refine wz ?_;cases hF;exact ar () []
   ·rintro⟨⟩;refine aq ?_;obtain⟨r7,h20,hF⟩:=J hF;refine wc gn (fun m hm=>Ni n x3  _ h20 m) ?_;rintro⟨⟩;refine wz ?_;rcases aa hF with⟨h21,hF⟩|⟨h21,hF⟩
    ·refine aq ?_;cases hF;exact ar () []
    ·refine dC ?_;cases hF;exact ar () []
theorem Lt (n l1 x5 a2 c3 r) (hF:Kq n l1 x5=some r) (m) (h4:dW m a2 c3 l1):
  ax ai 129 [bK a2 l1 c3,an x5] m (fun v m'=>∃x:Unit,v = .int .i64 r∧Hp m m' []):=by
 unfold Kq at hF;refine cw Tryz.func129 ((Hp.start m).i h4) ?_;refine aq ?_;refine Wk.block ?_;obtain⟨r25,h24,hF⟩:=J hF;refine ct (fun(r:(Int) ⊕ (Unit)) (g:Unit)=>match r,g with | .inl v16,_=>⟨.ret,[(4,an v16)],[]⟩ | .inr _,_=>⟨(.exit 0),[],[]⟩) r25 ?_ ?_
 ·refine lo h24 () [0] (fun v7 _=>⟨.normal,[(0,bK a2 l1 c3),(1,an x5),(7,eo l1),(8,an v7)],[dZ a2 c3 l1]⟩) ?_;clear hF h24;rintro v7 ⟨⟩ r hF;unfold nF at hF;refine wz ?_;refine Wk.seq ?_;rcases aa hF with⟨h17,hF⟩|⟨h17,hF⟩
  ·refine dC ?_;obtain⟨h18,hF⟩:=bG hF;refine Wo.bI (k:=0) rfl (aM h18) ?_;rintro b19 o20 rfl;refine wz ?_;obtain⟨x21,h22,hF⟩:=J hF;refine wz ?_;rcases aa hF with⟨h23,hF⟩|⟨h23,hF⟩
   ·refine aq ?_;cases hF;exact ae () []
   ·refine aq ?_;cases hF;exact ae () [1]
  ·refine wz ?_;cases hF;exact ae () []
 ·clear h24;rcases r25 with v16|_
  ·rintro⟨⟩;refine wz ?_;obtain rfl:=Option.some.inj hF;exact ar () []
  ·rintro⟨⟩;refine dC ?_;cases hF;exact ar () []
theorem N7 (n l1 x5 a2 c3 r) (hF:PU n l1 x5=some r) (m) (h4:dW m a2 c3 l1):
  ax ai 75 [bK a2 l1 c3,an x5] m (fun v m'=>∃x:Unit,v = .bool r∧Hp m m' []):=by
 unfold PU at hF;refine cw Tryz.func75 ((Hp.start m).i h4) ?_;refine aq ?_;obtain⟨r7,h6,hF⟩:=J hF;refine wc gn (fun m hm=>Lt n l1 x5 a2 c3 _ h6 m (hm.q 0)) ?_;rintro⟨⟩;refine aq ?_;cases hF;exact ar () []
theorem J1 (n x1 x2 x3 x4 x5 x6 x7 x8 x9 x10 x11 x12 x13 x14 x15 x16 r) (hF:OT n x1 x2 x3 x4 x5 x6 x7 x8 x9 x10 x11 x12 x13 x14 x15 x16=some r) (m):
  ax ai 144 [s9 x1 x2 x3 x4 x5 x6 x7 x8,s9 x9 x10 x11 x12 x13 x14 x15 x16] m (fun v m'=>∃x:Unit,v = .int .i64 r∧Hp m m' []):=by
 unfold OT at hF;refine cw Tryz.func144 (Hp.start m) ?_;refine wz ?_;refine wb fun b17=>?_;refine wb fun b18=>?_;refine aq ?_;refine Wk.block ?_;obtain⟨r62,h61,hF⟩:=J hF;refine ct (fun(r:(Int) ⊕ (Unit)) (g:Unit)=>match r,g with | .inl v49,_=>⟨.ret,[(4,an v49)],[]⟩ | .inr _,_=>⟨(.exit 0),[],[]⟩) r62 ?_ ?_
 ·refine Wk.mH (fs':=[(2,ptr b17 0),(3,ptr b18 0),(5,.int .i64 7)]) (ps':=[Gk b17 x1 x2 x3 x4 x5 x6 x7 x8,Gk b18 x9 x10 x11 x12 x13 x14 x15 x16]) (sc rfl (sc rfl (sc rfl sn))) (ak.trans (ak.qn (k:=1) (xs:=([x1,x2,x3,x4,x5,x6,x7,x8]:List (Nat))) (f:=eN .u64) (l:=8) (w:=1) rfl rfl rfl (Fx .u64) rfl) (ak.trans (ak.qn (k:=0) (xs:=([x9,x10,x11,x12,x13,x14,x15,x16]:List (Nat))) (f:=eN .u64) (l:=8) (w:=1) rfl rfl rfl (Fx .u64) rfl) (ak.aP [1,0] rfl rfl)))<|Wk.loop (σ:=List (Nat) × List (Nat) × Int) (ρ:=(Int) ⊕ (Unit)) (γ:=Unit) (δ:=fun _=>Unit) _ (fun(s:List (Nat) × List (Nat) × Int) (g:Unit)=>match s,g with | (l32,l33,v34),_=>⟨.normal,[(2,ptr b17 0),(3,ptr b18 0),(5,an v34)],[oE b17 l32,oE b18 l33]⟩) (fun(r:(Int) ⊕ (Unit)) (g:Unit)=>match r,g with | .inl v49,_=>⟨.ret,[(4,an v49)],[]⟩ | .inr _,_=>⟨(.exit 0),[],[]⟩) ?_ (fun _ _=>rfl) (fun r d=>by rcases r with _|_<;>(intro e; cases e)) _ _ _ h61 ()
  clear hF h61;rintro⟨l32,l33,v34⟩ ⟨⟩ r hF;unfold Gm at hF;refine wz ?_;rcases aa hF with⟨h50,hF⟩|⟨h50,hF⟩
  ·refine aq ?_;obtain⟨h51,hF⟩:=bG hF;refine Wo.og (ku mX rfl rfl h51) gn rfl ?_;obtain⟨x52,h53,hF⟩:=J hF;refine wz ?_;obtain⟨h54,hF⟩:=bG hF;refine Wo.og (ku mX rfl rfl h54) gn rfl ?_;obtain⟨x55,h56,hF⟩:=J hF;refine wz ?_;rcases aa hF with⟨h57,hF⟩|⟨h57,hF⟩
   ·refine wz ?_;obtain⟨h58,hF⟩:=bG hF;refine Wo.og (ku mX rfl rfl h58) gn rfl ?_;refine wz ?_;obtain⟨h59,hF⟩:=bG hF;refine Wo.og (ku mX rfl rfl h59) gn rfl ?_;refine wz ?_;rcases aa hF with⟨h60,hF⟩|⟨h60,hF⟩
    ·refine aq ?_;cases hF;exact ae () []
    ·refine dC ?_;cases hF;exact ae () []
   ·refine aq ?_;cases hF;exact ae () [0,1]
  ·refine wz ?_;cases hF;exact ae () []
 ·clear h61;rcases r62 with v49|_
  ·rintro⟨⟩;refine wz ?_;obtain rfl:=Option.some.inj hF;exact ar () []
  ·rintro⟨⟩;refine dC ?_;cases hF;exact ar () []
theorem Jj (n x1 x2 x3 x4 x5 x6 x7 x8 x9 r) (hF:MQ n x1 x2 x3 x4 x5 x6 x7 x8 x9=some r) (m):
  ax ai 113 [.agg #[cz x1,aZ x2,aZ x3,aZ x4,aZ x5,aZ x6,aZ x7,aZ x8,aZ x9]] m (fun v m'=>∃x:Unit,v = .tuple #[.agg #[.int .u64 ((r.1:Nat):Int),.int .u64 ((r.2.1:Nat):Int),.int .u64 ((r.2.2.1:Nat):Int),.int .u64 ((r.2.2.2.1:Nat):Int),.int .u64 ((r.2.2.2.2.1:Nat):Int),.int .u64 ((r.2.2.2.2.2.1:Nat):Int),.int .u64 ((r.2.2.2.2.2.2.1:Nat):Int),.int .u64 ((r.2.2.2.2.2.2.2.1:Nat):Int)],.int .i64 r.2.2.2.2.2.2.2.2]∧Hp m m' []):=by
 unfold MQ at hF;refine cw Tryz.func113 (Hp.start m) ?_;refine wz ?_;refine wb fun b10=>?_;refine wa z38 fun b11=>?_;refine aq ?_;refine Wo.od (fX rfl Hz rfl (fY GP rfl rfl rfl)) rfl<|wa Hz fun b12=>?_;refine aq ?_;obtain⟨r24,h23,hF⟩:=J hF;refine wc gn (fun m hm=>J1 n x2 x3 x4 x5 x6 x7 x8 x9 0 0 0 0 0 0 0 9223372036854775808  _ h23 m) ?_;rintro⟨⟩;refine wz ?_;refine Wk.seq ?_;obtain⟨v27,h30,hF⟩:=J hF;refine ct (fun v27 (_:Unit)=>⟨.normal,[(1,ptr b10 0),(2,ptr b11 0),(21,cz v27)],[NP b10 x1 x2 x3 x4 x5 x6 x7 x8 x9,lT b11]⟩) v27 ?_ ?_
 ·clear hF;revert v27;intro r hF;refine wz ?_;rcases aa hF with⟨h28,hF⟩|⟨h28,hF⟩
  ·refine wz ?_;cases hF;exact ae () [2,1]
  ·refine wz ?_;rcases aa hF with⟨h29,hF⟩|⟨h29,hF⟩
   ·refine wz ?_;cases hF;exact ae () [2,1]
   ·refine wz ?_;cases hF;exact ae () [2,1]
 ·clear h30;rintro⟨⟩;refine At.tn ?_;rcases aa hF with⟨h32,hF⟩|⟨h32,hF⟩
  ·refine wz ?_;refine Wo.od (fX rfl z38 rfl (fY B3 rfl rfl rfl)) rfl ?_;refine aq ?_;cases hF;exact ar () []
  ·refine wz ?_;refine Wk.seq ?_;obtain⟨r64,h63,hF⟩:=J hF;refine ct (fun(v44,v45,v46,v47,v48,v49,v50,v51) (_:Unit)=>⟨.normal,[(1,ptr b10 0),(2,ptr b11 0)],[NP b10 x1 v44 v45 v46 v47 v48 v49 v50 v51,lT b11]⟩) r64 ?_ ?_
   ·clear hF;revert r64;intro r hF;refine wz ?_;rcases aa hF with⟨h52,hF⟩|⟨h52,hF⟩
    ·refine wz ?_;refine Wo.od (fX rfl Hz rfl (fY GP rfl rfl rfl)) rfl ?_;refine wz ?_;obtain⟨⟨r54,r55,r56,r57,r58,r59,r60,r61,r62⟩,h53,hF⟩:=J hF;refine wc gn (fun m hm=>DE n 0 0 0 0 0 0 0 0 x2 x3 x4 x5 x6 x7 x8 x9  _ h53 m) ?_;rintro⟨⟩;refine wz ?_;cases hF;exact ae () [0,1]
    ·refine wz ?_;cases hF;exact ae () [0,1]
   ·clear h63;obtain⟨v44,v45,v46,v47,v48,v49,v50,v51⟩:=r64;rintro⟨⟩;refine dC ?_;cases hF;exact ar () []
theorem Nw (n x1 l2 a3 c4 r) (hF:Pf n x1 l2=some r) (m) (h5:fS m a3 c4 l2):
  ax ai 56 [iB x1 a3 l2 c4] m (fun v m'=>∃x:Unit,v = .tuple #[.agg #[.int .u64 ((r.1:Nat):Int),.int .u64 ((r.2.1:Nat):Int),.int .u64 ((r.2.2.1:Nat):Int),.int .u64 ((r.2.2.2.1:Nat):Int),.int .u64 ((r.2.2.2.2.1:Nat):Int),.int .u64 ((r.2.2.2.2.2.1:Nat):Int),.int .u64 ((r.2.2.2.2.2.2.1:Nat):Int),.int .u64 ((r.2.2.2.2.2.2.2.1:Nat):Int)],.int .i64 r.2.2.2.2.2.2.2.2]∧Hp m m' []):=by
 unfold Pf at hF;refine cw Tryz.func56 ((Hp.start m).i h5) ?_;refine wz ?_;refine wb fun b6=>?_;refine wa z38 fun b7=>?_;refine aq ?_;rcases aa hF with⟨h8,hF⟩|⟨h8,hF⟩
 ·refine wz ?_;refine Wo.od (fX rfl z38 rfl (fY B3 rfl rfl rfl)) rfl ?_;refine aq ?_;cases hF;exact ar () []
 ·refine aq ?_;refine Wo.od (fX rfl Ea rfl (fY L9 rfl rfl rfl)) rfl<|wa Ea fun b9=>?_;refine aq ?_;refine Wo.og (Kv (k:=0) mX rfl rfl rfl rfl) gn rfl ?_;refine wz ?_;obtain⟨h10,hF⟩:=au hF;obtain⟨⟨x12,x13,x14,x15,x16,x17,x18,x19⟩,h11,hF⟩:=J hF;refine Wo.od (Qf (k:=0) (ys:=(l2:List (Nat))) (cs':=[cz x1,aZ x12,aZ x13,aZ x14,aZ x15,aZ x16,aZ x17,aZ x18,aZ x19]) (Fx .u64) AF rfl rfl (fun m hm=>hm.q 3) h10 rfl (Pu (f:=eN .u64) (v:=fun x=>.int .u64 ((x:Nat):Int)) (fun _=>rfl) (oK h11) (of_decide_eq_true h10))) rfl ?_;refine aq ?_;obtain⟨⟨r21,r22,r23,r24,r25,r26,r27,r28,r29⟩,h20,hF⟩:=J hF;refine wc gn (fun m hm=>Jj n x1 x12 x13 x14 x15 x16 x17 x18 x19  _ h20 m) ?_;rintro⟨⟩;refine aq ?_;cases hF;exact ar () []
theorem GY (n x1 l1 x3 l2 a1 c0 a0 c1 r) (hF:OC n x1 l1 x3 l2=some r) (m) (hG:Gl m) (h4:iW m a1 c0 l1) (h5:dW m a0 c1 l2):
  ax ai 20 [iZ x1 a1 l1 c0,aZ x3,bK a0 l2 c1] m (fun v m'=>∃x:Unit,v = .tuple #[.agg #[.int .u64 ((r.1:Nat):Int),.int .u64 ((r.2.1:Nat):Int),.int .u64 ((r.2.2.1:Nat):Int),.int .u64 ((r.2.2.2.1:Nat):Int),.int .u64 ((r.2.2.2.2.1:Nat):Int),.int .u64 ((r.2.2.2.2.2.1:Nat):Int),.int .u64 ((r.2.2.2.2.2.2.1:Nat):Int),.int .u64 ((r.2.2.2.2.2.2.2.1:Nat):Int)],.int .i64 r.2.2.2.2.2.2.2.2]∧Hp m m' []):=by
 unfold OC at hF;refine cw Tryz.func20 (((Hp.start m).i h4).i h5) ?_;refine wz ?_;refine wb fun b1=>?_;refine wb fun b2=>?_;refine wb fun b3=>?_;refine wa z38 fun b0=>?_;refine aq ?_;obtain⟨r5,h6,hF⟩:=J hF;refine wc gn (fun m hm=>BJ n x1 l1 x3 l2 a1 c0 a0 c1 _ h6 m (hm.q 5) (hm.q 4)) ?_;rintro⟨⟩;refine aq ?_;rcases aa hF with⟨h7,hF⟩|⟨h7,hF⟩
 ·refine wz ?_;refine Wo.od (fX rfl z38 rfl (fY B3 rfl rfl rfl)) rfl ?_;refine aq ?_;cases hF;exact ar () []
 ·refine aq ?_;refine wa Mk fun b5=>?_;refine aq ?_;obtain⟨r3,h8,hF⟩:=J hF;refine Wo.x (jh (α:=Nat × Nat) (V:=fun g=>(fun(r:Unit) (g:Nat × Nat)=>match r,g with|_,(b11,b4)=>(.func (.func 127) #[] #[ptr b11 0,ptr b4 0]:Value)) r3 g) (N:=fun g=>(fun(r:Unit) (g:Nat × Nat)=>match r,g with|_,(b11,b4)=>([fk b11 x1 a1 l1 c0,fm a1 c0 l1,eZ b4 x3,fk b1 x1 a1 l1 c0,eZ b2 x3,sH b3 a0 l2 c1,dZ a0 c1 l2,lT b0,Jo b5]:List Pc)) r3 g) rfl rfl (fun m hm=>?_)) gn rfl ?_
  ·clear hF;revert r3;intro r hF;refine bQ (N:=6) (rs:=[.tmp 4]) rfl Tryz.func69 rfl rfl rfl hm ?_;refine wz ?_;refine wb fun b14=>?_;refine wb fun b15=>?_;refine aq ?_;refine Wo.od (AR rfl rfl) rfl ?_;refine aq ?_;cases hF;exact ar (b14,b15) [1,8,0,6,5,4,7,3,2]
  ·clear h8;rintro⟨b11,b4⟩;refine wz ?_;refine Wk.block ?_;obtain⟨l3,h9,hF⟩:=J hF;refine Wk.range (N:=25) (rs:=[]) (γ:=Option Addr) (X:=fun g=>(fun(r:List (Int)) (g:Option Addr)=>(match r,g with|l3,a5=>⟨.ready,none,[fk b1 x1 a1 l1 c0,fm a1 c0 l1,eZ b2 x3,sH b3 a0 l2 c1,dZ a0 c1 l2,lT b0,lM b5 a5 l3,e7 a5 l3]⟩:Rn)) l3 g) rfl rfl Tryz.func127 rfl rfl rfl ?_ (fun y=>by intro e; cases e) ?_
   ·clear hF;revert l3;intro r hF;intro t1 l4 r0 h10 h11;refine wz ?_;refine Wk.block ?_;obtain⟨l5,h0,hF⟩:=J hF;refine ct (fun l5 (a2:Option Addr)=>⟨(.exit 0),[],[.obj l4 (r0 .ready none),fk b1 x1 a1 l1 c0,fm a1 c0 l1,eZ b2 x3,sH b3 a0 l2 c1,dZ a0 c1 l2,lT b0,lM b5 a2 l5,e7 a2 l5]⟩) l5 ?_ ?_
    ·refine Wk.mH (fs':=[(0,.func (.yield l4) #[] #[]),(2,ptr b4 0),(7,bK a1 l1 c0),(8,eo l1),(9,.int .i64 0)]) (ps':=[.obj l4 (r0 .ready none),eZ b4 x3,fm a1 c0 l1,fk b1 x1 a1 l1 c0,eZ b2 x3,sH b3 a0 l2 c1,dZ a0 c1 l2,lT b0,QV b5,.sl none 1 ([]:List (Int)).length (([]:List (Int)).map (eI .i64))]) (sc rfl (sc rfl (sc rfl (sc rfl (sc rfl sn))))) (ak.trans (ak.nil 1 rfl) (ak.aP [1,4,3,5,6,7,8,9,10,0] rfl rfl))<|Wk.loop (σ:=Int × List (Int)) (ρ:=List (Int)) (γ:=Option Addr) (δ:=fun _=>Option Addr) _ (fun(s:Int × List (Int)) (g:Option Addr)=>match s,g with | (v0,l7),a3=>⟨.normal,[(0,.func (.yield l4) #[] #[]),(2,ptr b4 0),(7,bK a1 l1 c0),(8,eo l1),(9,an v0)],[.obj l4 (r0 .ready none),eZ b4 x3,fm a1 c0 l1,fk b1 x1 a1 l1 c0,eZ b2 x3,sH b3 a0 l2 c1,dZ a0 c1 l2,lT b0,lM b5 a3 l7,e7 a3 l7]⟩) (fun(r:List (Int)) (g:Option Addr)=>match r,g with|l5,a2=>⟨(.exit 0),[],[.obj l4 (r0 .ready none),fk b1 x1 a1 l1 c0,fm a1 c0 l1,eZ b2 x3,sH b3 a0 l2 c1,dZ a0 c1 l2,lT b0,lM b5 a2 l5,e7 a2 l5]⟩) ?_ (fun _ _=>rfl) (fun r d=>by intro e; cases e) _ _ _ h0 none
     clear hF h0;rintro⟨v0,l7⟩ a3 r hF;unfold uW at hF;refine wz ?_;refine Wk.seq ?_;rcases aa hF with⟨h12,hF⟩|⟨h12,hF⟩
     ·refine aq ?_;obtain⟨h13,hF⟩:=bG hF;refine Wo.bI (k:=2) rfl (aM h13) ?_;rintro b6 o1 rfl;refine wz ?_;obtain⟨⟨x5,x6⟩,h28,hF⟩:=J hF;refine wz ?_;refine wa FC fun b17=>?_;refine wz ?_;refine Wk.seq ?_;obtain⟨l9,h14,hF⟩:=J hF;refine ct (fun l9 (a8:Option Addr)=>⟨.normal,[(0,.func (.yield l4) #[] #[]),(2,ptr b4 0),(7,mF b6 o1 l1 c0),(8,eo l1),(9,an v0),(23,.bool false)],[.obj l4 (r0 .ready none),eZ b4 x3,dI b6 o1 l1,dJ b6 o1 c0 l1,kJ b1 x1 b6 o1 l1 c0,eZ b2 x3,sH b3 a0 l2 c1,dZ a0 c1 l2,lT b0,lM b5 a8 l9,e7 a8 l9]⟩) l9 ?_ ?_
      ·clear hF;revert l9;intro r hF;refine wz ?_;obtain⟨r6,h15,hF⟩:=J hF;refine wc gn (fun m hm=>th n x3 x5 x6  _ h15 m) ?_;rintro⟨⟩;refine wz ?_;rcases aa hF with⟨h2,hF⟩|⟨h2,hF⟩
       ·refine wz ?_;obtain⟨l10,h3,hF⟩:=J hF;refine Wo.x (JW (k:=2) (k1:=0) (γA:=Unit) (GA:=(fun g:Unit=>(match g with|_=>⟨.normal,[(9,ptr b5 0),(10,an v0)],[.obj l4 (r0 .ready none),lM b5 a3 l7,e7 a3 l7,kJ b1 x1 b6 o1 l1 c0,dI b6 o1 l1,dJ b6 o1 c0 l1,eZ b2 x3,sH b3 a0 l2 c1,dZ a0 c1 l2,lT b0,eZ b4 x3]⟩:En))) (γ:=Option Addr) (G:=fun g=>(fun(r:List (Int)) (g:Option Addr)=>(match r,g with|l10,a9=>⟨.normal,[],[.obj l4 (r0 .busy none),kJ b1 x1 b6 o1 l1 c0,dI b6 o1 l1,dJ b6 o1 c0 l1,eZ b2 x3,sH b3 a0 l2 c1,dZ a0 c1 l2,lT b0,lM b5 a9 l10,e7 a9 l10,eZ b4 x3]⟩:En)) l10 g) rfl rfl rfl h11 h10 rfl ?_ (fun _=>rfl) (fun _=>rfl) ?_ (fun y=>rfl)) (gg rfl rfl (gR h2)) rfl ?_
        ·clear hF h3;refine wz ?_;exact ae () [2,10,11,5,1,4,6,7,8,9,3]
        ·clear hF;revert l10;intro r hF;rintro⟨⟩;refine wz ?_;refine Wo.x (kH (es:=([v0]:List (Int)).map (eI .i64)) lh rfl (ia lh z3 rfl rfl) rfl rfl) gn rfl fun b18=>?_;obtain⟨h16,hF⟩:=au hF;refine Wo.x (lO (k:=3) (k2:=0) (xs:=(l7:List (Int))) (ys:=([v0]:List (Int))) (AS .i64) lh ⟨_,HU⟩ rfl rfl rfl (.arr _ _ _ _ _) h16) gn rfl fun a11=>?_;refine wz ?_;cases hF;exact ae a11 [1,4,5,6,7,8,9,10,2,3,11]
        ·clear h3;rintro a9;refine wz ?_;obtain rfl:=Option.some.inj hF;exact ae a9 [0,10,2,3,1,4,5,6,7,8,9]
       ·refine wz ?_;obtain rfl:=Option.some.inj hF;exact ae a3 [2,3,1,4,5,6,7,8,9,10,11]
      ·clear h14;rintro a8;refine dC ?_;cases hF;exact ae a8 [0,1,3,4,5,6,7,8,9,10]
     ·refine wz ?_;cases hF;exact ae a3 [0,3,2,4,5,6,7,8,9]
    ·clear h0;rintro a2;refine At.be ?_;obtain rfl:=Option.some.inj hF;exact At.fin .nil fun m' hm=>⟨a2,(ak.aP [0,1,2,3,4,5,6,7,8] rfl rfl) m' hm⟩
   ·clear h9;rintro a5
    change At _ .normal _ _ _
    refine aq ?_;refine Wo.x GF gn rfl fun b8=>?_;refine Wo.x GF gn rfl fun b9=>?_;refine wa KY fun b12=>?_;refine wa KY fun b13=>?_;refine aq ?_;refine Wo.od (AR rfl rfl) rfl ?_;obtain⟨r1,h17,hF⟩:=J hF;refine Wo.x (jh (α:=Option Addr × Nat) (V:=fun g=>(fun(r:Bool × List (Nat)) (g:Option Addr × Nat)=>match r,g with | (v1,l11),(a6,c3)=>(.agg #[cz v1,bK a6 l11 c3]:Value)) r1 g) (N:=fun g=>(fun(r:Bool × List (Nat)) (g:Option Addr × Nat)=>match r,g with | (v1,l11),(a6,c3)=>([dT a6 c3 l11,lT b0]:List Pc)) r1 g) rfl rfl (fun m hm=>?_)) gn rfl ?_
    ·clear hF;revert r1;intro r hF;refine bQ (N:=22) (rs:=[.cell 4 103]) rfl Tryz.func73 rfl rfl rfl hm ?_;refine wz ?_;refine wa fp fun b10=>?_;refine aq ?_;obtain⟨⟨r7,l17⟩,h18,hF⟩:=J hF;refine wv gn (fun m hm=>jI n 0  _ h18 m hm.aB) ?_;rintro⟨a12,c6,n0⟩;refine Wo.bJ (k:=0) rfl ?_;rintro rfl;refine wa fp fun b7=>?_;refine aq ?_;refine Wk.block ?_;obtain⟨r4,h1,hF⟩:=J hF;refine ct (fun(v4,l14) ((a10,c5):Option Addr × Nat)=>⟨(.exit 0),[(4,ptr b10 0),(5,ptr b7 0)],[eu b10,ei b7 v4 a10 l14 c5,dT a10 c5 l14,lT b0]⟩) r4 ?_ ?_
     ·refine lo h1 (a12,c6) [10,11,4,6,7,8,9,3,5,2,0,1,14,12] (fun(l6,l12,v2,l8,v5) ((a4,c2):Option Addr × Nat)=>⟨.normal,[(1,.func (.func 74) #[] #[ptr b3 0,ptr b12 0,ptr b1 0,ptr b2 0,ptr b13 0]),(4,ptr b10 0),(5,ptr b7 0),(9,iq a5 l3),(10,eo l3),(11,an v5)],[sH b3 a0 l2 c1,dZ a0 c1 l2,bX b12 b8,.obj b8 (.map (l6.map (eM (fun n:Int=>.int .i64 n) (fun b:Bool=>.bool b)))),fk b1 x1 a1 l1 c0,fm a1 c0 l1,eZ b2 x3,bX b13 b9,.obj b9 (.map (l12.map (eM (fun n:Int=>.int .i64 n) (fun b:Bool=>.bool b)))),eu b10,ei b7 v2 a4 l8 c2,dT a4 c2 l8,e7 a5 l3,lT b0]⟩) ?_;clear hF h1;rintro⟨l6,l12,v2,l8,v5⟩ ⟨a4,c2⟩ r hF;unfold oZ at hF;refine wz ?_;refine Wk.seq ?_;rcases aa hF with⟨h19,hF⟩|⟨h19,hF⟩
      ·refine aq ?_;obtain⟨h20,hF⟩:=bG hF;refine Wo.open (k:=12) rfl (aM h20) ?_;rintro b16 t0 rfl h29;refine wz ?_;obtain⟨x4,h30,hF⟩:=J hF;refine wz ?_;refine Wk.bV (prs:=[(0,3)]) (by kernel_rfl)<|Wn.Np rfl (aR (k:=10) t103 rfl rfl rfl) rfl<|Wn.od (aF rfl) rfl<|Wn.od (aF rfl) rfl ?_
       obtain⟨r2,h21,hF⟩:=J hF;refine Wn.xk (l:=[b7]) (jh (α:=Option Addr × Nat) (V:=fun g=>(fun(r:Bool × List (Nat) × List (Int × Bool) × List (Int × Bool)) (g:Option Addr × Nat)=>match r,g with | (v3,l13,l15,l16),(a7,c4)=>(.agg #[cz v3,bK a7 l13 c4]:Value)) r2 g) (N:=fun g=>(fun(r:Bool × List (Nat) × List (Int × Bool) × List (Int × Bool)) (g:Option Addr × Nat)=>match r,g with | (v3,l13,l15,l16),(a7,c4)=>([dT a7 c4 l13,lT b0,sH b3 a0 l2 c1,dZ a0 c1 l2,bX b12 b8,.obj b8 (.map (l15.map (eM (fun n:Int=>.int .i64 n) (fun b:Bool=>.bool b)))),fk b1 x1 a1 l1 c0,fm a1 c0 l1,eZ b2 x3,bX b13 b9,.obj b9 (.map (l16.map (eM (fun n:Int=>.int .i64 n) (fun b:Bool=>.bool b)))),eu b10,ei b7 v2 a4 l8 c2,dT a4 c2 l8,.arr b16 1 l3.length (l3.map (eI .i64)) t0]:List Pc)) r2 g) rfl rfl (fun m hm=>?_)) ⟨⟨_,10,rfl,rfl,fun _=>⟨12,rfl⟩⟩,trivial⟩ gn rfl ?_
       ·clear hF;revert r2;intro r hF;refine bQ (N:=27) (rs:=[.cell 7 103]) rfl Tryz.func74 rfl rfl rfl hm ?_;refine wz ?_;refine wa fp fun b19=>?_;refine aq ?_;obtain⟨r8,h22,hF⟩:=J hF;refine wc gn (fun m hm=>N7 n l2 x4 a0 c1 _ h22 m (hm.q 2)) ?_;rintro⟨⟩;refine wz ?_;rcases aa hF with⟨h23,hF⟩|⟨h23,hF⟩
        ·refine wz ?_;refine Wo.o0 (EV (q:=4) (xs:=l6) (k:=x4) (v:=true) (vE:=(fun b:Bool=>.bool b)) xd (kF u3) rfl rfl rfl rfl) ?_;refine aq ?_;obtain⟨⟨r9,l18⟩,h24,hF⟩:=J hF;refine wv gn (fun m hm=>jI n 0  _ h24 m hm.aB) ?_;rintro⟨a13,c7,n1⟩;refine Wo.bJ (k:=0) rfl ?_;rintro rfl;refine aq ?_;cases hF;exact ar (a13,c7) [0,15,2,3,4,5,6,7,8,9,10,11,12,13,14]
        ·refine aq ?_;refine Wo.o0 (EV (q:=4) (xs:=l6) (k:=x4) (v:=true) (vE:=(fun b:Bool=>.bool b)) xd (kF u3) rfl rfl rfl rfl) ?_;refine aq ?_;obtain⟨⟨r10,l19⟩,h25,hF⟩:=J hF;refine wv gn (fun m hm=>Bo n x1 l1 x3 (cH l6 x4 true) l12 a1 c0 (some b8) (some b9) _ h25 m hm.aB (hG.ext hm.ext) (hm.q 6) (hm.no 6) (hm.Q7 (k:=4) (xs:=(cH l6 x4 true)) rfl) (hm.Q7 (k:=9) (xs:=l12) rfl)) ?_;rintro⟨a14,c8,n2⟩;refine Wo.bJ (k:=0) rfl ?_;rintro rfl;refine wa fp fun b20=>?_;refine aq ?_;refine Wo.o0 (PO (q:=6) (xs:=(cH l6 x4 true)) (k:=x4) (vE:=(fun b:Bool=>.bool b)) xd (kF u3) rfl rfl) ?_;refine aq ?_;refine Wo.o0 (EV (q:=11) (xs:=l12) (k:=x4) (v:=true) (vE:=(fun b:Bool=>.bool b)) xd (kF u3) rfl rfl rfl rfl) ?_;refine dC ?_;cases hF;exact ar (a14,c8) [1,16,3,4,5,6,7,8,9,10,11,12,13,14,15]
       ·clear h21;obtain⟨v3,l13,l15,l16⟩:=r2;rintro⟨a7,c4⟩;obtain⟨⟨r11,l20⟩,h26,hF⟩:=J hF;refine nv gn (fun m hm=>iF n v2 l8 v3 l13 a4 c2 a7 c4 _ h26 m hm.aB (hm.q 13) (hm.no 13) (hm.q 0) (hm.no 0)) ?_;rintro⟨a15,c9,n4⟩;refine Wn.bJ (k:=0) rfl ?_;rintro rfl;refine Wn.o0 (mI (k:=13) t103 rfl rfl rfl rfl rfl)<|Wn.nil (fun m hm=>(du.rk rfl rfl rfl (by simp) du.nil)) ?_
        refine aq ?_;cases hF;exact At.en (a15,c9) rfl (sc rfl (sc rfl (sc rfl (sc rfl (sc rfl (sc rfl sn)))))) (ak.trans (ak.close (k:=15) rfl) (ak.aP [3,4,5,6,7,8,9,10,11,12,13,0,15,2] rfl rfl))
      ·refine wz ?_;cases hF;exact ae (a4,c2) [9,10,11,13]
     ·clear h1;obtain⟨v4,l14⟩:=r4;rintro⟨a10,c5⟩;refine dC ?_;cases hF;exact ar (a10,c5) [2,3]
    ·clear h17;obtain⟨v1,l11⟩:=r1;rintro⟨a6,c3⟩;refine wa fp fun b21=>?_;refine aq ?_;obtain⟨⟨r12,r13,r14,r15,r16,r17,r18,r19,r20⟩,h27,hF⟩:=J hF;refine wc gn (fun m hm=>Nw n v1 l11 a6 c3 _ h27 m (hm.q 1)) ?_;rintro⟨⟩;refine aq ?_;cases hF;exact ar () []
theorem O9 (n x1 r) (hF:Py n x1=some r) (m):
  ax ai 85 [aZ x1] m (fun v m'=>∃x:Unit,v = .int .i64 r∧Hp m m' []):=by
 unfold Py at hF;refine cw Tryz.func85 (Hp.start m) ?_;refine aq ?_;refine Wk.seq<|Wk.block ?_;obtain⟨v8,h12,hF⟩:=J hF;refine ct (fun v8 (_:Unit)=>⟨(.exit 0),[(3,an v8)],[]⟩) v8 ?_ ?_
 ·refine lo h12 () [] (fun v3 _=>⟨.normal,[(0,aZ x1),(3,an v3)],[]⟩) ?_;clear hF h12;rintro v3 ⟨⟩ r hF;unfold uI at hF;refine wz ?_;obtain⟨r10,h9,hF⟩:=J hF;refine wc gn (fun m hm=>lE n x1 v3  _ h9 m) ?_;rintro⟨⟩;refine wz ?_;rcases aa hF with⟨h11,hF⟩|⟨h11,hF⟩
  ·refine aq ?_;cases hF;exact ae () []
  ·refine wz ?_;cases hF;exact ae () []
 ·clear h12;rintro⟨⟩;refine dC ?_;obtain rfl:=Option.some.inj hF;exact ar () []
theorem Ou (n x1 l1 x3 l2 a0 c0 a1 c1 r) (hF:Q4 n x1 l1 x3 l2=some r) (m) (h2:iW m a0 c0 l1) (h3:dW m a1 c1 l2):
  ax ai 80 [iZ x1 a0 l1 c0,aZ x3,bK a1 l2 c1] m (fun v m'=>∃x:Unit,v = .bool r∧Hp m m' []):=by
 unfold Q4 at hF;refine cw Tryz.func80 (((Hp.start m).i h2).i h3) ?_;refine wz ?_;refine wb fun b0=>?_;refine aq ?_;refine Wk.block ?_;obtain⟨r0,h1,hF⟩:=J hF;refine ct (fun(r:(Unit) ⊕ (Unit)) (g:Unit)=>match r,g with | .inl _,_=>⟨.ret,[(6,.bool false)],[]⟩ | .inr _,_=>⟨(.exit 0),[(1,aZ x3),(2,bK a1 l2 c1),(3,ptr b0 0)],[dZ a1 c1 l2,fk b0 x1 a0 l1 c0,fm a0 c0 l1]⟩) r0 ?_ ?_
 ·refine lo h1 () [1,0,2] (fun v1 _=>⟨.normal,[(1,aZ x3),(2,bK a1 l2 c1),(3,ptr b0 0),(7,an v1)],[dZ a1 c1 l2,fk b0 x1 a0 l1 c0,fm a0 c0 l1]⟩) ?_;clear hF h1;rintro v1 ⟨⟩ r hF;unfold sT at hF;refine wz ?_;rcases aa hF with⟨h4,hF⟩|⟨h4,hF⟩
  ·refine wz ?_;refine Wk.seq<|Wk.block<|Wk.seq ?_;obtain⟨v0,h5,hF⟩:=J hF;refine ct (fun v0 (_:Unit)=>⟨.normal,[(1,aZ x3),(2,bK a1 l2 c1),(3,ptr b0 0),(7,an v1),(37,cz v0)],[dZ a1 c1 l2,fk b0 x1 a0 l1 c0,fm a0 c0 l1]⟩) v0 ?_ ?_
   ·clear hF;revert v0;intro r hF;refine wz ?_;obtain⟨h6,hF⟩:=bG hF;refine Wo.bI (k:=0) rfl (aM h6) ?_;rintro b1 o1 rfl;refine wz ?_;obtain⟨x4,h14,hF⟩:=J hF;refine wz ?_;obtain⟨r2,h7,hF⟩:=J hF;refine wc gn (fun m hm=>H5 n x1 l1 x3 x4 a0 c0 _ h7 m (hm.q 3)) ?_;rintro⟨⟩;refine wz ?_;rcases aa hF with⟨h8,hF⟩|⟨h8,hF⟩
    ·refine wz ?_;cases hF;exact ae () [1,2,3]
    ·refine wz ?_;rcases aa hF with⟨h9,hF⟩|⟨h9,hF⟩
     ·refine wz ?_;obtain⟨h15,hF⟩:=bG hF;refine wz ?_;obtain⟨h16,hF⟩:=bG hF;refine wz ?_;obtain⟨x5,h17,hF⟩:=J hF;refine wz ?_;cases hF;exact ae () [1,2,3]
     ·refine wz ?_;cases hF;exact ae () [1,2,3]
   ·clear h5;rintro⟨⟩;refine At.tn ?_;rcases aa hF with⟨h10,hF⟩|⟨h10,hF⟩
    ·refine aq ?_;cases hF;exact ae () []
    ·refine aq ?_;cases hF;exact ae () [0,1,2]
  ·refine wz ?_;cases hF;exact ae () [0,1,2]
 ·clear h1;rcases r0 with _|_
  ·rintro⟨⟩;refine wz ?_;cases hF;exact ar () []
  ·rintro⟨⟩;refine wz ?_;refine Wk.seq<|Wk.bV (prs:=[(1,3),(7,10)]) (by kernel_rfl)<|Wn.od (aF rfl) rfl<|Wn.od (Ee (k:=0) HU rfl rfl (.inl rfl)) rfl<|Wn.od (aF rfl) rfl ?_
   obtain⟨r3,h11,hF⟩:=J hF;refine nc gn (fun m hm=>we n x3  _ h11 m) ?_;rintro⟨⟩;refine Wn.od (aG rfl rfl (gG _ _ _)) rfl<|Wn.od (aG rfl rfl (oI _ _ _)) rfl<|Wn.od (aF rfl) rfl ?_;rcases aa hF with⟨h0,hF⟩|⟨h0,hF⟩
   ·refine Wn.og (aR (k:=1) t34 rfl rfl rfl) (gg rfl rfl (gR h0)) rfl<|Wn.og (aF rfl) (gg rfl rfl (gR h0)) rfl<|Wn.og (aF rfl) (gg rfl rfl (gR h0)) rfl ?_;obtain⟨r1,h12,hF⟩:=J hF;refine nc (gg rfl rfl (gR h0)) (fun m hm=>O9 n x3  _ h12 m) ?_;rintro⟨⟩;obtain⟨r4,h13,hF⟩:=J hF;refine nc (gg rfl rfl (gR h0)) (fun m hm=>IT n x1 l1 l2 r1 a0 c0 a1 c1 _ h13 m (hm.q 2) (hm.q 0)) ?_;rintro⟨⟩;refine Wn.og (aF rfl) (gg rfl rfl (gR h0)) rfl<|Wn.og (aG rfl rfl (Bw _ _)) (gg rfl rfl (gR h0)) rfl<|Wn.od (jk rfl h0 rfl) rfl<|Wn.od (cl rfl) rfl<|Wn.nil (fun m hm=>du.all rfl) ?_;refine aq ?_;cases hF;exact ar () []
   ·refine Wn.s (gg rfl rfl (o7 h0)) rfl<|Wn.s (gg rfl rfl (o7 h0)) rfl<|Wn.s (gg rfl rfl (o7 h0)) rfl<|Wn.s (gg rfl rfl (o7 h0)) rfl<|Wn.s (gg rfl rfl (o7 h0)) rfl<|Wn.s (gg rfl rfl (o7 h0)) rfl<|Wn.s (gg rfl rfl (o7 h0)) rfl<|Wn.od (jV rfl h0 rfl) rfl<|Wn.od (cl rfl) rfl<|Wn.nil (fun m hm=>du.all rfl) ?_;refine aq ?_;cases hF;exact ar () []
theorem Bd (n x1 l2 x6 l7 a3 c4 a8 c9 r) (hF:LN n x1 l2 x6 l7=some r) (m) (h5:iW m a3 c4 l2) (h10:dW m a8 c9 l7):
  ax ai 23 [iZ x1 a3 l2 c4,aZ x6,bK a8 l7 c9] m (fun v m'=>∃x:Unit,v = .int .i64 r∧Hp m m' []):=by
 unfold LN at hF;refine cw Tryz.func23 (((Hp.start m).i h5).i h10) ?_;refine wz ?_;refine wb fun b11=>?_;refine aq ?_;obtain⟨r13,h12,hF⟩:=J hF;refine wc gn (fun m hm=>Bj n x1 l2 x6 a3 c4 _ h12 m (hm.q 2)) ?_;rintro⟨⟩;refine aq ?_;rcases aa hF with⟨h14,hF⟩|⟨h14,hF⟩
 ·refine aq ?_;obtain rfl:=Option.some.inj hF;exact ar () []
 ·refine aq ?_;obtain⟨r16,h15,hF⟩:=J hF;refine wc gn (fun m hm=>Ou n x1 l2 x6 l7 a3 c4 a8 c9 _ h15 m (hm.q 2) (hm.q 1)) ?_;rintro⟨⟩;refine wz ?_;rcases aa hF with⟨h17,hF⟩|⟨h17,hF⟩
  ·refine aq ?_;cases hF;exact ar () []
  ·refine dC ?_;cases hF;exact ar () []
theorem O4 (n l1 l5 a2 c3 a6 c7 r) (hF:Qu n l1 l5=some r) (m) (h4:dW m a2 c3 l1) (h8:dW m a6 c7 l5):
  ax ai 77 [bK a2 l1 c3,bK a6 l5 c7] m (fun v m'=>∃x:Unit,v = .bool r∧Hp m m' []):=by
 unfold Qu at hF;refine cw Tryz.func77 (((Hp.start m).i h4).i h8) ?_;refine aq ?_;rcases aa hF with⟨h9,hF⟩|⟨h9,hF⟩
 ·refine aq ?_;cases hF;exact ar () []
 ·refine aq ?_;refine Wk.block ?_;obtain⟨r38,h37,hF⟩:=J hF;refine ct (fun(r:(Unit) ⊕ (Unit)) (g:Unit)=>match r,g with | .inl _,_=>⟨.ret,[(4,.bool false)],[]⟩ | .inr _,_=>⟨(.exit 0),[],[]⟩) r38 ?_ ?_
  ·refine lo h37 () [1,0] (fun v11 _=>⟨.normal,[(0,bK a2 l1 c3),(1,bK a6 l5 c7),(5,an v11)],[dZ a2 c3 l1,dZ a6 c7 l5]⟩) ?_;clear hF h37;rintro v11 ⟨⟩ r hF;unfold oP at hF;refine wz ?_;rcases aa hF with⟨h25,hF⟩|⟨h25,hF⟩
   ·refine aq ?_;obtain⟨h26,hF⟩:=bG hF;refine Wo.bI (k:=0) rfl (aM h26) ?_;rintro b27 o28 rfl;refine wz ?_;obtain⟨x29,h30,hF⟩:=J hF;refine wz ?_;obtain⟨h31,hF⟩:=bG hF;refine Wo.bI (k:=2) rfl (aM h31) ?_;rintro b32 o33 rfl;refine wz ?_;obtain⟨x34,h35,hF⟩:=J hF;refine wz ?_;rcases aa hF with⟨h36,hF⟩|⟨h36,hF⟩
    ·refine aq ?_;cases hF;exact ae () []
    ·refine aq ?_;cases hF;exact ae () [2,3]
   ·refine wz ?_;cases hF;exact ae () []
  ·clear h37;rcases r38 with _|_
   ·rintro⟨⟩;refine wz ?_;cases hF;exact ar () []
   ·rintro⟨⟩;refine dC ?_;cases hF;exact ar () []
theorem Hi (n x1 l3 x3 l1 a1 c1 a0 c0 r) (hF:OV n x1 l3 x3 l1=some r) (m) (h1:iW m a1 c1 l3) (h2:dW m a0 c0 l1):
  ax ai 21 [iZ x1 a1 l3 c1,aZ x3,bK a0 l1 c0] m (fun v m'=>∃x:Unit,v = .tuple #[.agg #[.int .u64 ((r.1:Nat):Int),.int .u64 ((r.2.1:Nat):Int),.int .u64 ((r.2.2.1:Nat):Int),.int .u64 ((r.2.2.2.1:Nat):Int),.int .u64 ((r.2.2.2.2.1:Nat):Int),.int .u64 ((r.2.2.2.2.2.1:Nat):Int),.int .u64 ((r.2.2.2.2.2.2.1:Nat):Int),.int .u64 ((r.2.2.2.2.2.2.2.1:Nat):Int)],.int .i64 r.2.2.2.2.2.2.2.2]∧Hp m m' []):=by
 unfold OV at hF;refine cw Tryz.func21 (((Hp.start m).i h1).i h2) ?_;refine wz ?_;refine wb fun b1=>?_;refine wa z38 fun b0=>?_;refine aq ?_;obtain⟨r1,h3,hF⟩:=J hF;refine wc gn (fun m hm=>Bd n x1 l3 x3 l1 a1 c1 a0 c0 _ h3 m (hm.q 3) (hm.q 2)) ?_;rintro⟨⟩;refine aq ?_;rcases aa hF with⟨h4,hF⟩|⟨h4,hF⟩
 ·refine wz ?_;refine Wo.od (fX rfl z38 rfl (fY B3 rfl rfl rfl)) rfl ?_;refine aq ?_;cases hF;exact ar () []
 ·refine aq ?_;obtain⟨l2,h5,hF⟩:=J hF;refine Wo.x (Dx rfl rfl (fun m hm=>B4 n x1 l3 x3 a1 c1 _ h5 m (hm.q 3)) fun _=>k7) gn rfl ?_;rintro⟨a2,n0,r0⟩;refine Wo.vc (k:=0) rfl ?_;rintro rfl;refine aq ?_;refine Wk.seq<|Wk.block ?_;obtain⟨v0,h0,hF⟩:=J hF;refine ct (fun v0 (_:Unit)=>⟨(.exit 0),[(6,ptr b0 0),(10,an v0)],[lT b0]⟩) v0 ?_ ?_
  ·refine Wk.mH (fs':=[(2,bK a0 l1 c0),(6,ptr b0 0),(9,iq a2 l2),(10,.int .i64 0)]) (ps':=[dZ a0 c0 l1,lT b0,.gen (Pe a2 l2.length l2.length r0 1 (eI .i64) l2)]) (sc rfl (sc rfl (sc rfl (sc rfl sn)))) (ak.trans (ak.zY (k:=0) rfl) (ak.aP [3,1,0] rfl rfl))<|Wk.loop (σ:=Int) (ρ:=Int) (γ:=Unit) (δ:=fun _=>Unit) _ (fun(s:Int) (g:Unit)=>match s,g with|v1,_=>⟨.normal,[(2,bK a0 l1 c0),(6,ptr b0 0),(9,iq a2 l2),(10,an v1)],[dZ a0 c0 l1,lT b0,.gen (Pe a2 l2.length l2.length r0 1 (eI .i64) l2)]⟩) (fun(r:Int) (g:Unit)=>match r,g with|v0,_=>⟨(.exit 0),[(6,ptr b0 0),(10,an v0)],[lT b0]⟩) ?_ (fun _ _=>rfl) (fun r d=>by intro e; cases e) _ _ _ h0 ()
   clear hF h0;rintro v1 ⟨⟩ r hF;unfold rI at hF;refine wz ?_;obtain⟨h6,hF⟩:=bG hF;refine Wo.Hn (k:=2) rfl (aM h6) ?_;rintro b2 rfl;refine wz ?_;obtain⟨l4,h7,hF⟩:=J hF;refine Wo.x (Mg (k:=2) (i:=v1.toNat) t49 rfl (by rw[Nat.mul_one]; rfl) rfl h7) gn rfl ?_
   rintro⟨a3,c2⟩;refine wz ?_;obtain⟨r2,h8,hF⟩:=J hF;refine wc gn (fun m hm=>O4 n l4 l1 a3 c2 a0 c0 _ h8 m (hm.q 0) (hm.q 1)) ?_;rintro⟨⟩;refine wz ?_;rcases aa hF with⟨h9,hF⟩|⟨h9,hF⟩
   ·refine aq ?_;cases hF;exact ae () [1,2,3]
   ·refine wz ?_;cases hF;exact ae () [2]
  ·clear h0;rintro⟨⟩;refine aq ?_;obtain⟨⟨r3,r4,r5,r6,r7,r8,r9,r10⟩,h10,hF⟩:=J hF;refine wc gn (fun m hm=>lu n v0  _ h10 m) ?_;rintro⟨⟩;refine aq ?_;cases hF;exact ar () []
theorem PG (n x1 x2 x8 l14 x9 x10 x11 x12 x5 l1 x6 a14 c11 a15 c12 r) (hF:F4 n x1 x2 x8 l14 x9 x10 x11 x12 x5 l1 x6=some r) (m) (hG:Gl m) (h12:Rd m a14 c11 2 l14.length (l14.map (eP (eN .u8) (eN .u8)))) (h13:Rd m a15 c12 1 l1.length (l1.map (eI .i64))):
  ax ai 4 [.agg #[.int .u8 ((x1:Nat):Int),.int .u8 ((x2:Nat):Int),.int .u16 ((x8:Nat):Int),.slice a14 l14.length c11],.int .u64 ((x9:Nat):Int),.agg #[.int .u8 ((x10:Nat):Int),.int .i64 x11,.int .u64 ((x12:Nat):Int)],.int .i64 x5,.slice a15 l1.length c12,.int .u8 ((x6:Nat):Int)] m (fun v m'=>∃x:Unit,v = .bool r∧Hp m m' []):=by
 unfold F4 at hF;refine cw Tryz.func4 (((Hp.start m).i h12).i h13) ?_;refine wz ?_;refine wb fun b9=>?_;refine wb fun b10=>?_;refine aq ?_;obtain⟨r67,h14,hF⟩:=J hF;refine wc gn (fun m hm=>QY n   _ h14 m (hG.ext hm.ext)) ?_;rintro⟨⟩;refine wz ?_;rcases aa hF with⟨h15,hF⟩|⟨h15,hF⟩
 ·refine aq ?_;cases hF;exact ar () []
 ·refine aq ?_;refine Wo.od (D1 rfl rfl (IL _ _)) rfl ?_;obtain⟨h16,hF⟩:=au hF;refine Wo.x (zV (k:=2) (lo:=0) (hi:=mi (l1.length:Int) (9:Int)) lh rfl rfl rfl rfl h16 (.inl ⟨rfl,rfl⟩) (.inr ⟨_,rfl⟩)) gn rfl ?_;rintro⟨a1,c1⟩;refine aq ?_;obtain⟨r5,h17,hF⟩:=J hF;refine Wo.x (jh (α:=Option Addr × Option Addr × Nat × Option Addr × Nat) (V:=fun g=>(fun(r:Int × List (Int × Int) × Nat × Int × Nat × Int × List (Int × Int) × Nat) (g:Option Addr × Option Addr × Nat × Option Addr × Nat)=>match r,g with | (v0,l2,v1,v2,v3,v4,l3,v5),(a10,a0,c0,a3,c3)=>(.slice a10 3 3:Value)) r5 g) (N:=fun g=>(fun(r:Int × List (Int × Int) × Nat × Int × Nat × Int × List (Int × Int) × Nat) (g:Option Addr × Option Addr × Nat × Option Addr × Nat)=>match r,g with | (v0,l2,v1,v2,v3,v4,l3,v5),(a10,a0,c0,a3,c3)=>([.sl a10 3 3 [[.int .i64 v0,.slice a0 l2.length c0,.int .u64 ((v1:Nat):Int)],[.int .i64 v2,.slice a0 l2.length c0,.int .u64 ((v3:Nat):Int)],[.int .i64 v4,.slice a3 l3.length c3,.int .u64 ((v5:Nat):Int)]],.rd a0 c0 2 l2.length (l2.map (eP (eI .i64) (eI .i64))),.rd a3 c3 2 l3.length (l3.map (eP (eI .i64) (eI .i64))),.rd a1 c1 1 (((l1.drop (0:Int).toNat).take ((mi (l1.length:Int) (9:Int):Int).toNat-(0:Int).toNat)).length) (((l1.drop (0:Int).toNat).take ((mi (l1.length:Int) (9:Int):Int).toNat-(0:Int).toNat)).map (eI .i64))]:List Pc)) r5 g) rfl rfl (fun m hm=>?_)) gn rfl ?_
  ·clear hF;revert r5;intro r hF;refine bQ (N:=49) (rs:=[.tmp 6]) rfl Tryz.func9 rfl rfl rfl hm ?_;refine wz ?_;refine wb fun b11=>?_;refine wb fun b12=>?_;refine aq ?_;obtain⟨⟨r0,l6⟩,h18,hF⟩:=J hF;refine wc gn (fun m hm=>MY n x1 x2 x8 l14 a14 c11 _ h18 m (hm.q 6)) ?_;rintro⟨a7,n0⟩;refine Wo.len (k:=0) (xs:=l6) rfl ?_;rintro rfl;refine wa Pa fun b13=>?_;refine aq ?_;obtain⟨r2,h19,hF⟩:=J hF;refine wc gn (fun m hm=>BA n r0 l6 x9 a7 l6.length _ h19 m (hm.rd (k:=1) rfl (.sl _ _ _ _))) ?_;rintro⟨⟩;refine wz ?_;refine Wk.seq<|Wk.bV (prs:=[(0,5),(3,5)]) (by kernel_rfl)<|Wn.od (aR (k:=0) t34 rfl rfl rfl) rfl<|Wn.od (aF rfl) rfl<|Wn.od (fX rfl z36 rfl (fY N0 rfl rfl rfl)) rfl<|Wn.od (aR (k:=0) t34 rfl rfl rfl) rfl<|Wn.od (aR (k:=0) t34 rfl rfl rfl) rfl ?_
   obtain⟨r3,h20,hF⟩:=J hF;refine nc gn (fun m hm=>BA n r0 l6 18446744073709551615 a7 l6.length _ h20 m (hm.rd (k:=1) rfl (.sl _ _ _ _))) ?_;rintro⟨⟩;refine Wn.od (fX rfl z36 rfl (fY N0 rfl rfl rfl)) rfl<|Wn.cZ (ak.freeze (k:=1) rfl)<|Wn.x (sE (es:=[[.int .i64 r0,.slice a7 l6.length l6.length,.int .u64 ((r2:Nat):Int)],[.int .i64 r0,.slice a7 l6.length l6.length,.int .u64 ((r3:Nat):Int)]]) Ph rfl (ia Ph z36 rfl rfl) rfl rfl) gn rfl fun b4=>?_;refine Wn.od (cl rfl) rfl<|Wn.nil (fun m hm=>du.all rfl) ?_;refine aq ?_;obtain⟨⟨r1,l11,r6⟩,h21,hF⟩:=J hF;refine wc gn (fun m hm=>Ow n x10 x11 x12 r0 l6 r2 a7 l6.length _ h21 m (hm.q 2)) ?_;rintro⟨a8,n1⟩;refine Wo.len (k:=0) (xs:=l11) rfl ?_;rintro rfl;refine wz ?_;refine wa Pa fun b5=>?_;refine wz ?_;refine Wk.seq ?_;obtain⟨v7,h22,hF⟩:=J hF;refine ct (fun v7 (_:Unit)=>⟨.normal,[(9,.slice (some ⟨b4,0,none⟩) 2 2),(10,ptr b5 0),(11,.int .u64 ((v7:Nat):Int))],[.obj b4 (.cells [.int .i64 r0,.slice a7 l6.length l6.length,.int .u64 ((r2:Nat):Int),.int .i64 r0,.slice a7 l6.length l6.length,.int .u64 ((r3:Nat):Int)] .own),.rd a7 l6.length 2 l6.length (l6.map (eP (eI .i64) (eI .i64))),.obj b5 (.cells [.int .i64 r1,.slice a8 l11.length l11.length] .own),.sl a8 2 l11.length (l11.map (eP (eI .i64) (eI .i64))),.rd a1 c1 1 (((l1.drop (0:Int).toNat).take ((mi (l1.length:Int) (9:Int):Int).toNat-(0:Int).toNat)).length) (((l1.drop (0:Int).toNat).take ((mi (l1.length:Int) (9:Int):Int).toNat-(0:Int).toNat)).map (eI .i64))]⟩) v7 ?_ ?_
   ·clear hF;revert v7;intro r hF;refine Wk.seq ?_;obtain⟨v8,h23,hF⟩:=J hF;refine ct (fun v8 (_:Unit)=>⟨.normal,[(9,.slice (some ⟨b4,0,none⟩) 2 2),(10,ptr b5 0),(11,.int .u64 ((r6:Nat):Int)),(39,.bool v8)],[.obj b4 (.cells [.int .i64 r0,.slice a7 l6.length l6.length,.int .u64 ((r2:Nat):Int),.int .i64 r0,.slice a7 l6.length l6.length,.int .u64 ((r3:Nat):Int)] .own),.rd a7 l6.length 2 l6.length (l6.map (eP (eI .i64) (eI .i64))),.obj b5 (.cells [.int .i64 r1,.slice a8 l11.length l11.length] .own),.sl a8 2 l11.length (l11.map (eP (eI .i64) (eI .i64))),.rd a1 c1 1 (((l1.drop (0:Int).toNat).take ((mi (l1.length:Int) (9:Int):Int).toNat-(0:Int).toNat)).length) (((l1.drop (0:Int).toNat).take ((mi (l1.length:Int) (9:Int):Int).toNat-(0:Int).toNat)).map (eI .i64))]⟩) v8 ?_ ?_
    ·clear hF;revert v8;intro r hF;refine wz ?_;obtain⟨r68,h24,hF⟩:=J hF;refine wc gn (fun m hm=>B7 n r1 l11 a8 l11.length _ h24 m (hm.rd (k:=1) rfl (.sl _ _ _ _))) ?_;rintro⟨⟩;refine wz ?_;rcases aa hF with⟨h11,hF⟩|⟨h11,hF⟩
     ·refine wz ?_;obtain⟨r69,h25,hF⟩:=J hF;refine wc (gg rfl rfl (gR h11)) (fun m hm=>we n r6  _ h25 m) ?_;rintro⟨⟩;refine wz ?_;cases hF;exact ae () [2,4,0,1,7]
     ·refine wz ?_;cases hF;exact ae () [2,4,0,1,7]
    ·clear h23;rintro⟨⟩;refine At.tn ?_;rcases aa hF with⟨h26,hF⟩|⟨h26,hF⟩
     ·refine wz ?_;obtain⟨r70,h27,hF⟩:=J hF;refine wc gn (fun m hm=>BA n r1 l11 r6 a8 l11.length _ h27 m (hm.rd (k:=3) rfl (.sl _ _ _ _))) ?_;rintro⟨⟩;refine wz ?_;obtain rfl:=Option.some.inj hF;exact ae () [0,1,2,3,4]
     ·refine wz ?_;obtain rfl:=Option.some.inj hF;exact ae () [0,1,2,3,4]
   ·clear h22;rintro⟨⟩;refine aq ?_;refine Wo.od (fX rfl z36 rfl (fY N0 rfl rfl rfl)) rfl<|Wo.cZ (ak.freeze (k:=3) rfl)<|Wo.x (sE (es:=[[.int .i64 r1,.slice a8 l11.length l11.length,.int .u64 ((v7:Nat):Int)]]) Ph rfl (ia Ph z36 rfl rfl) rfl rfl) gn rfl fun b14=>?_;refine Wo.cZ (ak.Nm (k:=1) (es:=[[.int .i64 r0,.slice a7 l6.length l6.length,.int .u64 ((r2:Nat):Int)],[.int .i64 r0,.slice a7 l6.length l6.length,.int .u64 ((r3:Nat):Int)]]) (w:=3) (n:=2) rfl rfl rfl rfl rfl)<|Wo.cZ (ak.Nm (k:=0) (es:=[[.int .i64 r1,.slice a8 l11.length l11.length,.int .u64 ((v7:Nat):Int)]]) (w:=3) (n:=1) rfl rfl rfl rfl rfl)<|Wo.x (zJ (k:=1) (k2:=0) (n3:=3) (es3:=[[.int .i64 r0,.slice a7 l6.length l6.length,.int .u64 ((r2:Nat):Int)],[.int .i64 r0,.slice a7 l6.length l6.length,.int .u64 ((r3:Nat):Int)],[.int .i64 r1,.slice a8 l11.length l11.length,.int .u64 ((v7:Nat):Int)]]) Ph ⟨_,R5⟩ rfl rfl rfl rfl rfl rfl rfl rfl) gn rfl fun a19=>?_;refine aq ?_;cases hF;exact ar (a19,a7,l6.length,a8,l11.length) [1,2,4,5]
  ·clear h17;obtain⟨v0,l2,v1,v2,v3,v4,l3,v5⟩:=r5;rintro⟨a10,a0,c0,a3,c3⟩;refine wz ?_;refine Wk.block ?_;obtain⟨r8,h8,hF⟩:=J hF;refine ct (fun(r:(Unit) ⊕ (Unit)) (g:Unit)=>match r,g with | .inl _,_=>⟨.ret,[(12,.bool false)],[]⟩ | .inr _,_=>⟨(.exit 0),[],[]⟩) r8 ?_ ?_
   ·refine lo h8 () [3,0,1,2] (fun v6 _=>⟨.normal,[(3,.int .i64 x5),(4,.slice a1 (((l1.drop (0:Int).toNat).take ((mi (l1.length:Int) (9:Int):Int).toNat-(0:Int).toNat)).length) c1),(5,.int .u8 ((x6:Nat):Int)),(44,.slice a10 3 3),(45,.int .i64 3),(46,.int .i64 v6)],[.rd a1 c1 1 (((l1.drop (0:Int).toNat).take ((mi (l1.length:Int) (9:Int):Int).toNat-(0:Int).toNat)).length) (((l1.drop (0:Int).toNat).take ((mi (l1.length:Int) (9:Int):Int).toNat-(0:Int).toNat)).map (eI .i64)),.sl a10 3 3 [[.int .i64 v0,.slice a0 l2.length c0,.int .u64 ((v1:Nat):Int)],[.int .i64 v2,.slice a0 l2.length c0,.int .u64 ((v3:Nat):Int)],[.int .i64 v4,.slice a3 l3.length c3,.int .u64 ((v5:Nat):Int)]],.rd a0 c0 2 l2.length (l2.map (eP (eI .i64) (eI .i64))),.rd a3 c3 2 l3.length (l3.map (eP (eI .i64) (eI .i64)))]⟩) ?_;clear hF h8;rintro v6 ⟨⟩ r hF;unfold AT at hF;refine wz ?_;refine Wk.seq ?_;rcases aa hF with⟨h28,hF⟩|⟨h28,hF⟩
    ·refine wz ?_;refine Wk.seq ?_;obtain⟨r7,h29,hF⟩:=J hF;refine ct (fun(r:(Unit) ⊕ (Unit)) (g:Unit)=>match r,g with | .inl _,_=>⟨.ret,[(12,.bool false)],[]⟩ | .inr _,_=>⟨.normal,[(3,.int .i64 x5),(4,.slice a1 (((l1.drop (0:Int).toNat).take ((mi (l1.length:Int) (9:Int):Int).toNat-(0:Int).toNat)).length) c1),(5,.int .u8 ((x6:Nat):Int)),(44,.slice a10 3 3),(45,.int .i64 3),(46,.int .i64 v6)],[.rd a1 c1 1 (((l1.drop (0:Int).toNat).take ((mi (l1.length:Int) (9:Int):Int).toNat-(0:Int).toNat)).length) (((l1.drop (0:Int).toNat).take ((mi (l1.length:Int) (9:Int):Int).toNat-(0:Int).toNat)).map (eI .i64)),.sl a10 3 3 [[.int .i64 v0,.slice a0 l2.length c0,.int .u64 ((v1:Nat):Int)],[.int .i64 v2,.slice a0 l2.length c0,.int .u64 ((v3:Nat):Int)],[.int .i64 v4,.slice a3 l3.length c3,.int .u64 ((v5:Nat):Int)]],.rd a0 c0 2 l2.length (l2.map (eP (eI .i64) (eI .i64))),.rd a3 c3 2 l3.length (l3.map (eP (eI .i64) (eI .i64)))]⟩) r7 ?_ ?_
     ·clear hF;revert r7;intro r hF;refine wz ?_;obtain⟨h30,hF⟩:=bG hF;refine Wo.open (k:=1) rfl (aM h30) ?_;rintro b1 t0 rfl h81;refine wz ?_;obtain⟨⟨x3,l4,x4⟩,h3,hF⟩:=J hF;refine Wo.x (qP (β:=Option Addr × Nat) (V:=fun g=>match g with | (a2,c2)=>.agg #[.int .i64 x3,.slice a2 l4.length c2,.int .u64 ((x4:Nat):Int)]) (N:=fun g=>match g with | (a2,c2)=>[.rd a2 c2 2 l4.length (l4.map (eP (eI .i64) (eI .i64)))]++[.rd a1 c1 1 (((l1.drop (0:Int).toNat).take ((mi (l1.length:Int) (9:Int):Int).toNat-(0:Int).toNat)).length) (((l1.drop (0:Int).toNat).take ((mi (l1.length:Int) (9:Int):Int).toNat-(0:Int).toNat)).map (eI .i64)),.arr b1 3 3 [[.int .i64 v0,.slice a0 l2.length c0,.int .u64 ((v1:Nat):Int)],[.int .i64 v2,.slice a0 l2.length c0,.int .u64 ((v3:Nat):Int)],[.int .i64 v4,.slice a3 l3.length c3,.int .u64 ((v5:Nat):Int)]] t0,.rd a0 c0 2 l2.length (l2.map (eP (eI .i64) (eI .i64))),.rd a3 c3 2 l3.length (l3.map (eP (eI .i64) (eI .i64)))]) rfl (fun m hm=>Pc.eL (hm.get (k:=1) rfl) (.inl rfl)) (fun m hm=>?_)) gn rfl ?_
      ·clear hF;generalize v6.toNat=j at h3 ⊢
       match j,h3 with
       | 0,h3=>cases h3; exact⟨(a0,c0),Rw (k:=1) (j:=0) hm t36 rfl rfl rfl rfl,(Hp.dup hm (k:=2) rfl)⟩
       | 1,h3=>cases h3; exact⟨(a0,c0),Rw (k:=1) (j:=1) hm t36 rfl rfl rfl rfl,(Hp.dup hm (k:=2) rfl)⟩
       | 2,h3=>cases h3; exact⟨(a3,c3),Rw (k:=1) (j:=2) hm t36 rfl rfl rfl rfl,(Hp.dup hm (k:=3) rfl)⟩
       | _+3,h3=>cases h3
      rintro⟨a2,c2⟩;refine wa z36 fun b0=>?_;refine aq ?_;obtain⟨⟨r11,r12,r13,r14,r15,r16,r17,r18,r71⟩,h31,hF⟩:=J hF;refine wc gn (fun m hm=>Nh n x3 l4 x4 a2 c2 _ h31 m (hm.q 1)) ?_;rintro⟨⟩;refine wz ?_;refine wa z38 fun b15=>?_;refine aq ?_;obtain⟨⟨r4,r72⟩,h32,hF⟩:=J hF;refine wc gn (fun m hm=>Fy n r11 r12 r13 r14 r15 r16 r17 r18  _ h32 m) ?_;rintro⟨⟩;refine aq ?_;refine Wo.x (sE (es:=[[.slice a1 (((l1.drop (0:Int).toNat).take ((mi (l1.length:Int) (9:Int):Int).toNat-(0:Int).toNat)).length) c1]]) yb rfl (ia yb Mk rfl rfl) rfl rfl) gn rfl fun b7=>?_;refine aq ?_;refine Wo.od (fq rfl (oR (by rw[u3]; rfl) Ij rfl)) rfl ?_
      refine wz ?_;refine Wo.od (D1 rfl rfl (FW _ _)) rfl<|Wo.od (fq rfl (oR (by rw[u3]; rfl) Ij rfl)) rfl ?_
      obtain⟨h33,hF⟩:=au hF;refine Wo.od (aG rfl rfl (kZ _ _ (of_decide_eq_true h33))) rfl ?_;obtain⟨y2,h34,hF⟩:=J hF;refine Wo.od (fq rfl ((m8 (by rw[Ij]; rfl) u3).trans (cI h34))) rfl ?_
      refine wz ?_;refine Wo.od (fX rfl z53 rfl (fY Rl rfl rfl rfl)) rfl ?_;refine wz ?_;refine Wk.block<|Wk.Qk<|Wl.round<|Wk.seq<|Wk.region<|Wo.od (aG (r:=.bool true) rfl rfl ((dH _ _ _).trans rfl)) rfl ?_;refine dC ?_;refine Wo.od (Lj rfl rfl (Om KA (i:=0) (by decide) (pt t3 rfl))) rfl ?_
      refine wz ?_;refine Wk.seq<|Wk.bV (prs:=[(1,5),(3,5)]) (by kernel_rfl)<|Wn.od (bM (r:=ptr b0 0) rfl (gS _ _)) rfl<|Wn.od (aR (k:=2) t34 rfl rfl rfl) rfl<|Wn.od (bM (r:=ptr b0 2) rfl (gV _ _)) rfl<|Wn.od (aR (k:=2) t26 rfl rfl rfl) rfl<|Wn.od (aF rfl) rfl ?_
      obtain⟨⟨r19,r20,r21,r22,r23,r24,r25,r26⟩,h35,hF⟩:=J hF;refine nc gn (fun m hm=>lu n x5  _ h35 m) ?_;rintro⟨⟩;obtain⟨⟨l15,r73⟩,h36,hF⟩:=J hF;refine nc gn (fun m hm=>AW n x3 l4 x4 r19 r20 r21 r22 r23 r24 r25 r26 a2 c2 _ h36 m (hG.ext hm.ext) (hm.q 3)) ?_;rintro⟨a20,n2⟩;refine Wn.len (k:=0) (xs:=l15) rfl ?_;rintro rfl;refine Wn.od (aF rfl) rfl<|Wn.od (nB rfl rfl) rfl<|Wn.od (nB rfl rfl) rfl<|Wn.od (cl rfl) rfl<|Wn.od (cl rfl) rfl<|Wn.nil (fun m hm=>du.all rfl)<|At.tn<|Wk.seq<|Wk.bV (prs:=[(1,5),(3,5)]) (by kernel_rfl)<|Wn.od (bM (r:=ptr b0 0) rfl (gS _ _)) rfl<|Wn.od (aR (k:=3) t34 rfl rfl rfl) rfl<|Wn.od (bM (r:=ptr b0 2) rfl (gV _ _)) rfl ?_
      refine Wn.od (aR (k:=3) t26 rfl rfl rfl) rfl<|Wn.od (aF rfl) rfl ?_;obtain⟨⟨r27,r28,r29,r30,r31,r32,r33,r34⟩,h37,hF⟩:=J hF;refine nc gn (fun m hm=>lu n x5  _ h37 m) ?_;rintro⟨⟩;obtain⟨⟨l5,r74⟩,h38,hF⟩:=J hF;refine nv gn (fun m hm=>BU n x3 l4 x4 r27 r28 r29 r30 r31 r32 r33 r34 a2 c2 _ h38 m hm.aB (hm.q 4) (hm.no 4)) ?_;rintro⟨a4,c4,n4⟩;refine Wn.bJ (k:=0) rfl ?_;rintro rfl;refine Wn.od (aF rfl) rfl<|Wn.od (nB rfl rfl) rfl<|Wn.od (nB rfl rfl) rfl<|Wn.od (cl rfl) rfl<|Wn.od (cl rfl) rfl<|Wn.nil (fun m hm=>du.all rfl)<|At.tn<|Wk.seq<|Wk.seq ?_;obtain⟨v9,h39,hF⟩:=J hF;refine ct (fun v9 (_:Unit)=>⟨.normal,[(3,.int .i64 x5),(4,.slice a1 (((l1.drop (0:Int).toNat).take ((mi (l1.length:Int) (9:Int):Int).toNat-(0:Int).toNat)).length) c1),(5,.int .u8 ((x6:Nat):Int)),(14,ptr b0 0),(19,.slice (some ⟨b7,0,none⟩) 1 1),(24,.slice a4 l5.length c4),(44,.slice (some ⟨b1,0,none⟩) 3 3),(45,.int .i64 3),(46,.int .i64 v6),(74,.agg #[.int .i64 x5,.int .i64 y2,.int .i64 r4]),(75,.int .i64 0),(106,.bool v9)],[.rd a1 c1 1 (((l1.drop (0:Int).toNat).take ((mi (l1.length:Int) (9:Int):Int).toNat-(0:Int).toNat)).length) (((l1.drop (0:Int).toNat).take ((mi (l1.length:Int) (9:Int):Int).toNat-(0:Int).toNat)).map (eI .i64)),.obj b0 (.cells [.int .i64 x3,.slice a2 l4.length c2,.int .u64 ((x4:Nat):Int)] .own),.rd a2 c2 2 l4.length (l4.map (eP (eI .i64) (eI .i64))),.obj b7 (.cells [.slice a1 (((l1.drop (0:Int).toNat).take ((mi (l1.length:Int) (9:Int):Int).toNat-(0:Int).toNat)).length) c1] .own),.rd a4 c4 1 l5.length (l5.map (eI .i64)),.arr b1 3 3 [[.int .i64 v0,.slice a0 l2.length c0,.int .u64 ((v1:Nat):Int)],[.int .i64 v2,.slice a0 l2.length c0,.int .u64 ((v3:Nat):Int)],[.int .i64 v4,.slice a3 l3.length c3,.int .u64 ((v5:Nat):Int)]] t0,.rd a0 c0 2 l2.length (l2.map (eP (eI .i64) (eI .i64))),.rd a3 c3 2 l3.length (l3.map (eP (eI .i64) (eI .i64)))]⟩) v9 ?_ ?_
      ·clear hF;revert v9;intro r hF;refine wz ?_;obtain⟨r75,h40,hF⟩:=J hF;refine wc gn (fun m hm=>B8 n l15 l5 a20 l15.length a4 c4 _ h40 m (hm.rd (k:=1) rfl (.sl _ _ _ _)) (hm.q 0)) ?_;rintro⟨⟩;refine wz ?_;rcases aa hF with⟨h41,hF⟩|⟨h41,hF⟩
       ·refine wz ?_;cases hF;exact ae () [6,4,5,2,0,7,8,9]
       ·refine wz ?_;cases hF;exact ae () [6,4,5,2,0,7,8,9]
      ·clear h39;rintro⟨⟩;refine At.tn ?_;rcases aa hF with⟨h42,hF⟩|⟨h42,hF⟩
       ·refine aq ?_;cases hF;exact ae () []
       ·refine aq ?_;refine Wo.x (sE (es:=[[.slice a4 l5.length c4]]) yb rfl (ia yb Mk rfl rfl) rfl rfl) gn rfl fun b16=>?_;refine Wo.cZ (ak.Nm (k:=4) (es:=[[.slice a1 (((l1.drop (0:Int).toNat).take ((mi (l1.length:Int) (9:Int):Int).toNat-(0:Int).toNat)).length) c1]]) (w:=1) (n:=1) rfl rfl rfl rfl rfl)<|Wo.cZ (ak.Nm (k:=0) (es:=[[.slice a4 l5.length c4]]) (w:=1) (n:=1) rfl rfl rfl rfl rfl)<|Wo.x (zJ (k:=4) (k2:=0) (n3:=2) (es3:=[[.slice a1 (((l1.drop (0:Int).toNat).take ((mi (l1.length:Int) (9:Int):Int).toNat-(0:Int).toNat)).length) c1],[.slice a4 l5.length c4]]) yb ⟨_,Lz⟩ rfl rfl rfl rfl rfl rfl rfl rfl) gn rfl fun a16=>?_;refine wz ?_;refine Wk.region<|Wo.od (aG (r:=.int .i64 1) rfl rfl ((eB _ _ _).trans rfl)) rfl ?_;refine wz ?_;refine At.tl<|Wl.round<|Wk.seq<|Wk.region<|Wo.od (aG (r:=.bool true) rfl rfl ((dH _ _ _).trans rfl)) rfl ?_;refine dC ?_;refine Wo.od (Lj rfl rfl (Om KA (i:=1) (by decide) (pt t3 rfl))) rfl ?_
        refine wz ?_;refine Wk.seq<|Wk.bV (prs:=[(1,5),(3,5)]) (by kernel_rfl) ?_
        refine Wn.od (bM (r:=ptr b0 0) rfl (gS _ _)) rfl<|Wn.od (aR (k:=2) t34 rfl rfl rfl) rfl<|Wn.od (bM (r:=ptr b0 2) rfl (gV _ _)) rfl<|Wn.od (aR (k:=2) t26 rfl rfl rfl) rfl<|Wn.od (aF rfl) rfl ?_;obtain⟨⟨r35,r36,r37,r38,r39,r40,r41,r42⟩,h43,hF⟩:=J hF;refine nc gn (fun m hm=>lu n y2  _ h43 m) ?_;rintro⟨⟩;obtain⟨⟨l16,r76⟩,h44,hF⟩:=J hF;refine nc gn (fun m hm=>AW n x3 l4 x4 r35 r36 r37 r38 r39 r40 r41 r42 a2 c2 _ h44 m (hG.ext hm.ext) (hm.q 3)) ?_;rintro⟨a21,n5⟩;refine Wn.len (k:=0) (xs:=l16) rfl ?_;rintro rfl;refine Wn.od (aF rfl) rfl<|Wn.od (nB rfl rfl) rfl<|Wn.od (nB rfl rfl) rfl<|Wn.od (cl rfl) rfl<|Wn.od (cl rfl) rfl<|Wn.nil (fun m hm=>du.all rfl)<|At.tn<|Wk.seq<|Wk.bV (prs:=[(1,5),(3,5)]) (by kernel_rfl)<|Wn.od (bM (r:=ptr b0 0) rfl (gS _ _)) rfl<|Wn.od (aR (k:=3) t34 rfl rfl rfl) rfl<|Wn.od (bM (r:=ptr b0 2) rfl (gV _ _)) rfl ?_
        refine Wn.od (aR (k:=3) t26 rfl rfl rfl) rfl<|Wn.od (aF rfl) rfl ?_;obtain⟨⟨r43,r44,r45,r46,r47,r48,r49,r50⟩,h45,hF⟩:=J hF;refine nc gn (fun m hm=>lu n y2  _ h45 m) ?_;rintro⟨⟩;obtain⟨⟨l7,r77⟩,h46,hF⟩:=J hF;refine nv gn (fun m hm=>BU n x3 l4 x4 r43 r44 r45 r46 r47 r48 r49 r50 a2 c2 _ h46 m hm.aB (hm.q 4) (hm.no 4)) ?_;rintro⟨a5,c5,n6⟩;refine Wn.bJ (k:=0) rfl ?_;rintro rfl;refine Wn.od (aF rfl) rfl<|Wn.od (nB rfl rfl) rfl<|Wn.od (nB rfl rfl) rfl<|Wn.od (cl rfl) rfl<|Wn.od (cl rfl) rfl<|Wn.nil (fun m hm=>du.all rfl)<|At.tn<|Wk.seq<|Wk.seq ?_;obtain⟨v10,h47,hF⟩:=J hF;refine ct (fun v10 (_:Unit)=>⟨.normal,[(3,.int .i64 x5),(4,.slice a1 (((l1.drop (0:Int).toNat).take ((mi (l1.length:Int) (9:Int):Int).toNat-(0:Int).toNat)).length) c1),(5,.int .u8 ((x6:Nat):Int)),(14,ptr b0 0),(19,.slice a16 2 2),(24,.slice a5 l7.length c5),(44,.slice (some ⟨b1,0,none⟩) 3 3),(45,.int .i64 3),(46,.int .i64 v6),(74,.agg #[.int .i64 x5,.int .i64 y2,.int .i64 r4]),(75,.int .i64 1),(106,.bool v10)],[.rd a1 c1 1 (((l1.drop (0:Int).toNat).take ((mi (l1.length:Int) (9:Int):Int).toNat-(0:Int).toNat)).length) (((l1.drop (0:Int).toNat).take ((mi (l1.length:Int) (9:Int):Int).toNat-(0:Int).toNat)).map (eI .i64)),.obj b0 (.cells [.int .i64 x3,.slice a2 l4.length c2,.int .u64 ((x4:Nat):Int)] .own),.rd a2 c2 2 l4.length (l4.map (eP (eI .i64) (eI .i64))),.sl a16 1 2 [[.slice a1 (((l1.drop (0:Int).toNat).take ((mi (l1.length:Int) (9:Int):Int).toNat-(0:Int).toNat)).length) c1],[.slice a4 l5.length c4]],.rd a4 c4 1 l5.length (l5.map (eI .i64)),.rd a5 c5 1 l7.length (l7.map (eI .i64)),.arr b1 3 3 [[.int .i64 v0,.slice a0 l2.length c0,.int .u64 ((v1:Nat):Int)],[.int .i64 v2,.slice a0 l2.length c0,.int .u64 ((v3:Nat):Int)],[.int .i64 v4,.slice a3 l3.length c3,.int .u64 ((v5:Nat):Int)]] t0,.rd a0 c0 2 l2.length (l2.map (eP (eI .i64) (eI .i64))),.rd a3 c3 2 l3.length (l3.map (eP (eI .i64) (eI .i64)))]⟩) v10 ?_ ?_
        ·clear hF;revert v10;intro r hF;refine wz ?_;obtain⟨r78,h48,hF⟩:=J hF;refine wc gn (fun m hm=>B8 n l16 l7 a21 l16.length a5 c5 _ h48 m (hm.rd (k:=1) rfl (.sl _ _ _ _)) (hm.q 0)) ?_;rintro⟨⟩;refine wz ?_;rcases aa hF with⟨h49,hF⟩|⟨h49,hF⟩
         ·refine wz ?_;cases hF;exact ae () [3,4,5,6,7,0,8,9,10]
         ·refine wz ?_;cases hF;exact ae () [3,4,5,6,7,0,8,9,10]
        ·clear h47;rintro⟨⟩;refine At.tn ?_;rcases aa hF with⟨h50,hF⟩|⟨h50,hF⟩
         ·refine aq ?_;cases hF;exact ae () []
         ·refine aq ?_;refine Wo.x (sE (es:=[[.slice a5 l7.length c5]]) yb rfl (ia yb Mk rfl rfl) rfl rfl) gn rfl fun b17=>?_;refine Wo.cZ (ak.Nm (k:=0) (es:=[[.slice a5 l7.length c5]]) (w:=1) (n:=1) rfl rfl rfl rfl rfl)<|Wo.x (zJ (k:=4) (k2:=0) (n3:=3) (es3:=[[.slice a1 (((l1.drop (0:Int).toNat).take ((mi (l1.length:Int) (9:Int):Int).toNat-(0:Int).toNat)).length) c1],[.slice a4 l5.length c4],[.slice a5 l7.length c5]]) yb ⟨_,Lz⟩ rfl rfl rfl rfl rfl rfl rfl rfl) gn rfl fun a17=>?_;refine wz ?_;refine Wk.region<|Wo.od (aG (r:=.int .i64 2) rfl rfl ((eB _ _ _).trans rfl)) rfl ?_;refine wz ?_;refine At.tl<|Wl.round<|Wk.seq<|Wk.region<|Wo.od (aG (r:=.bool true) rfl rfl ((dH _ _ _).trans rfl)) rfl ?_;refine dC ?_;refine Wo.od (Lj rfl rfl (Om KA (i:=2) (by decide) (pt t3 rfl))) rfl ?_
          refine wz ?_;refine Wk.seq<|Wk.bV (prs:=[(1,5),(3,5)]) (by kernel_rfl) ?_
          refine Wn.od (bM (r:=ptr b0 0) rfl (gS _ _)) rfl<|Wn.od (aR (k:=2) t34 rfl rfl rfl) rfl<|Wn.od (bM (r:=ptr b0 2) rfl (gV _ _)) rfl<|Wn.od (aR (k:=2) t26 rfl rfl rfl) rfl<|Wn.od (aF rfl) rfl ?_;obtain⟨⟨r51,r52,r53,r54,r55,r56,r57,r58⟩,h51,hF⟩:=J hF;refine nc gn (fun m hm=>lu n r4  _ h51 m) ?_;rintro⟨⟩;obtain⟨⟨l17,r79⟩,h52,hF⟩:=J hF;refine nc gn (fun m hm=>AW n x3 l4 x4 r51 r52 r53 r54 r55 r56 r57 r58 a2 c2 _ h52 m (hG.ext hm.ext) (hm.q 3)) ?_;rintro⟨a22,n7⟩;refine Wn.len (k:=0) (xs:=l17) rfl ?_;rintro rfl;refine Wn.od (aF rfl) rfl<|Wn.od (nB rfl rfl) rfl<|Wn.od (nB rfl rfl) rfl<|Wn.od (cl rfl) rfl<|Wn.od (cl rfl) rfl<|Wn.nil (fun m hm=>du.all rfl)<|At.tn<|Wk.seq<|Wk.bV (prs:=[(1,5),(3,5)]) (by kernel_rfl)<|Wn.od (bM (r:=ptr b0 0) rfl (gS _ _)) rfl<|Wn.od (aR (k:=3) t34 rfl rfl rfl) rfl<|Wn.od (bM (r:=ptr b0 2) rfl (gV _ _)) rfl ?_
          refine Wn.od (aR (k:=3) t26 rfl rfl rfl) rfl<|Wn.od (aF rfl) rfl ?_;obtain⟨⟨r59,r60,r61,r62,r63,r64,r65,r66⟩,h53,hF⟩:=J hF;refine nc gn (fun m hm=>lu n r4  _ h53 m) ?_;rintro⟨⟩;obtain⟨⟨l8,r80⟩,h54,hF⟩:=J hF;refine nv gn (fun m hm=>BU n x3 l4 x4 r59 r60 r61 r62 r63 r64 r65 r66 a2 c2 _ h54 m hm.aB (hm.q 4) (hm.no 4)) ?_;rintro⟨a6,c6,n8⟩;refine Wn.bJ (k:=0) rfl ?_;rintro rfl;refine Wn.od (aF rfl) rfl<|Wn.od (nB rfl rfl) rfl<|Wn.od (nB rfl rfl) rfl<|Wn.od (cl rfl) rfl<|Wn.od (cl rfl) rfl<|Wn.nil (fun m hm=>du.all rfl)<|At.tn<|Wk.seq<|Wk.seq ?_;obtain⟨v11,h55,hF⟩:=J hF;refine ct (fun v11 (_:Unit)=>⟨.normal,[(3,.int .i64 x5),(4,.slice a1 (((l1.drop (0:Int).toNat).take ((mi (l1.length:Int) (9:Int):Int).toNat-(0:Int).toNat)).length) c1),(5,.int .u8 ((x6:Nat):Int)),(14,ptr b0 0),(19,.slice a17 3 3),(24,.slice a6 l8.length c6),(44,.slice (some ⟨b1,0,none⟩) 3 3),(45,.int .i64 3),(46,.int .i64 v6),(74,.agg #[.int .i64 x5,.int .i64 y2,.int .i64 r4]),(75,.int .i64 2),(106,.bool v11)],[.rd a1 c1 1 (((l1.drop (0:Int).toNat).take ((mi (l1.length:Int) (9:Int):Int).toNat-(0:Int).toNat)).length) (((l1.drop (0:Int).toNat).take ((mi (l1.length:Int) (9:Int):Int).toNat-(0:Int).toNat)).map (eI .i64)),.obj b0 (.cells [.int .i64 x3,.slice a2 l4.length c2,.int .u64 ((x4:Nat):Int)] .own),.rd a2 c2 2 l4.length (l4.map (eP (eI .i64) (eI .i64))),.sl a17 1 3 [[.slice a1 (((l1.drop (0:Int).toNat).take ((mi (l1.length:Int) (9:Int):Int).toNat-(0:Int).toNat)).length) c1],[.slice a4 l5.length c4],[.slice a5 l7.length c5]],.rd a4 c4 1 l5.length (l5.map (eI .i64)),.rd a5 c5 1 l7.length (l7.map (eI .i64)),.rd a6 c6 1 l8.length (l8.map (eI .i64)),.arr b1 3 3 [[.int .i64 v0,.slice a0 l2.length c0,.int .u64 ((v1:Nat):Int)],[.int .i64 v2,.slice a0 l2.length c0,.int .u64 ((v3:Nat):Int)],[.int .i64 v4,.slice a3 l3.length c3,.int .u64 ((v5:Nat):Int)]] t0,.rd a0 c0 2 l2.length (l2.map (eP (eI .i64) (eI .i64))),.rd a3 c3 2 l3.length (l3.map (eP (eI .i64) (eI .i64)))]⟩) v11 ?_ ?_
          ·clear hF;revert v11;intro r hF;refine wz ?_;obtain⟨r81,h56,hF⟩:=J hF;refine wc gn (fun m hm=>B8 n l17 l8 a22 l17.length a6 c6 _ h56 m (hm.rd (k:=1) rfl (.sl _ _ _ _)) (hm.q 0)) ?_;rintro⟨⟩;refine wz ?_;rcases aa hF with⟨h57,hF⟩|⟨h57,hF⟩
           ·refine wz ?_;cases hF;exact ae () [3,4,5,6,7,8,0,9,10,11]
           ·refine wz ?_;cases hF;exact ae () [3,4,5,6,7,8,0,9,10,11]
          ·clear h55;rintro⟨⟩;refine At.tn ?_;rcases aa hF with⟨h58,hF⟩|⟨h58,hF⟩
           ·refine aq ?_;cases hF;exact ae () []
           ·refine aq ?_;refine Wo.x (sE (es:=[[.slice a6 l8.length c6]]) yb rfl (ia yb Mk rfl rfl) rfl rfl) gn rfl fun b8=>?_;refine Wo.cZ (ak.Nm (k:=0) (es:=[[.slice a6 l8.length c6]]) (w:=1) (n:=1) rfl rfl rfl rfl rfl)<|Wo.x (zJ (k:=4) (k2:=0) (n3:=4) (es3:=[[.slice a1 (((l1.drop (0:Int).toNat).take ((mi (l1.length:Int) (9:Int):Int).toNat-(0:Int).toNat)).length) c1],[.slice a4 l5.length c4],[.slice a5 l7.length c5],[.slice a6 l8.length c6]]) yb ⟨_,Lz⟩ rfl rfl rfl rfl rfl rfl rfl rfl) gn rfl fun a23=>?_;refine wz ?_;refine Wk.region<|Wo.od (aG (r:=.int .i64 3) rfl rfl ((eB _ _ _).trans rfl)) rfl ?_;refine wz ?_;refine At.tl<|Wl.round<|Wk.seq<|Wk.region<|Wo.od (aG (r:=.bool false) rfl rfl ((dH _ _ _).trans rfl)) rfl ?_;refine aq ?_;refine Wk.seq<|Wk.seq<|Wk.region<|Wo.od (aF rfl) rfl<|Wo.od (aF rfl) rfl<|Wo.od (Ee (k:=4) Lz rfl rfl (.inl rfl)) rfl<|Wo.od (aG (r:=.int .i64 2) rfl rfl ((gG _ _ _).trans rfl)) rfl ?_;obtain⟨h59,hF⟩:=bG hF;refine Wo.open (k:=4) rfl (aM h59) ?_;rintro b3 t1 rfl h82;refine wz ?_;obtain⟨l9,h1,hF⟩:=J hF;refine Wo.x (qP (β:=Option Addr × Nat) (V:=fun g=>match g with | (a13,c10)=>.slice a13 l9.length c10) (N:=fun g=>match g with | (a13,c10)=>[.rd a13 c10 1 l9.length (l9.map (eI .i64))]++[.sl (some ⟨b8,0,none⟩) 1 1 [[.slice a6 l8.length c6]],.rd a1 c1 1 (((l1.drop (0:Int).toNat).take ((mi (l1.length:Int) (9:Int):Int).toNat-(0:Int).toNat)).length) (((l1.drop (0:Int).toNat).take ((mi (l1.length:Int) (9:Int):Int).toNat-(0:Int).toNat)).map (eI .i64)),.obj b0 (.cells [.int .i64 x3,.slice a2 l4.length c2,.int .u64 ((x4:Nat):Int)] .own),.rd a2 c2 2 l4.length (l4.map (eP (eI .i64) (eI .i64))),.arr b3 1 4 [[.slice a1 (((l1.drop (0:Int).toNat).take ((mi (l1.length:Int) (9:Int):Int).toNat-(0:Int).toNat)).length) c1],[.slice a4 l5.length c4],[.slice a5 l7.length c5],[.slice a6 l8.length c6]] t1,.rd a4 c4 1 l5.length (l5.map (eI .i64)),.rd a5 c5 1 l7.length (l7.map (eI .i64)),.rd a6 c6 1 l8.length (l8.map (eI .i64)),.arr b1 3 3 [[.int .i64 v0,.slice a0 l2.length c0,.int .u64 ((v1:Nat):Int)],[.int .i64 v2,.slice a0 l2.length c0,.int .u64 ((v3:Nat):Int)],[.int .i64 v4,.slice a3 l3.length c3,.int .u64 ((v5:Nat):Int)]] t0,.rd a0 c0 2 l2.length (l2.map (eP (eI .i64) (eI .i64))),.rd a3 c3 2 l3.length (l3.map (eP (eI .i64) (eI .i64)))]) rfl (fun m hm=>Pc.eL (hm.get (k:=4) rfl) (.inl rfl)) (fun m hm=>?_)) gn rfl ?_
            ·clear hF;generalize (2:Int).toNat=j at h1 ⊢
             match j,h1 with
             | 0,h1=>cases h1; exact⟨(a1,c1),nO (k:=4) (j:=0) hm t49 rfl rfl rfl rfl,(Hp.dup hm (k:=1) rfl)⟩
             | 1,h1=>cases h1; exact⟨(a4,c4),nO (k:=4) (j:=1) hm t49 rfl rfl rfl rfl,(Hp.dup hm (k:=5) rfl)⟩
             | 2,h1=>cases h1; exact⟨(a5,c5),nO (k:=4) (j:=2) hm t49 rfl rfl rfl rfl,(Hp.dup hm (k:=6) rfl)⟩
             | 3,h1=>cases h1; exact⟨(a6,c6),nO (k:=4) (j:=3) hm t49 rfl rfl rfl rfl,(Hp.dup hm (k:=7) rfl)⟩
             | _+4,h1=>cases h1
            rintro⟨a13,c10⟩;refine aq ?_;rcases aa hF with⟨h60,hF⟩|⟨h60,hF⟩
            ·refine wz ?_;obtain⟨l10,h61,hF⟩:=J hF;refine wc gn (fun m hm=>MA n l9 a13 c10 _ h61 m (hm.q 0)) ?_;rintro⟨a24,n9⟩;refine Wo.len (k:=0) (xs:=l10) rfl ?_;rintro rfl;refine aq ?_;refine Wo.od (fq rfl (m8 (by rw[u5]; rfl) u3)) rfl ?_
             refine wz ?_;obtain⟨h62,hF⟩:=au hF;refine Wo.od (aG rfl rfl (gq _ _ h62)) rfl ?_;obtain⟨h63,hF⟩:=bG hF;refine Wo.open (k:=0) rfl (aM h63) ?_;rintro b2 t6 rfl h83;refine wz ?_;obtain⟨x7,h64,hF⟩:=J hF;refine wz ?_;obtain⟨h84,hF⟩:=bG hF;refine wz ?_;refine Wo.o0 (ew (k:=0) (x1:=x7) (x2:=IntKind.wrap .i64 (x7+1)) t3 rfl rfl rfl h64 rfl) ?_;refine aq ?_;obtain⟨h65,hF⟩:=au hF;refine Wo.x (zV (k:=1) (lo:=1) (hi:=(l9.length:Int)) lh rfl rfl rfl rfl h65 (.inr ⟨_,rfl⟩) (.inl ⟨rfl,rfl⟩)) gn rfl ?_;rintro⟨a9,c7⟩;refine Wo.cZ (ak.close (k:=1) rfl)<|Wo.cZ (ak.freeze (k:=1) rfl)<|Wo.x (sE (es:=[[.slice (some ⟨b2,0,none⟩) l10.length l10.length],[.slice a9 (((l9.drop (1:Int).toNat).take (((l9.length:Int):Int).toNat-(1:Int).toNat)).length) c7]]) yb rfl (ia yb Mk rfl rfl) rfl rfl) gn rfl fun b18=>?_;refine Wo.cZ (ak.close (k:=8) rfl)<|Wo.cZ (ak.Nm (k:=0) (es:=[[.slice (some ⟨b2,0,none⟩) l10.length l10.length],[.slice a9 (((l9.drop (1:Int).toNat).take (((l9.length:Int):Int).toNat-(1:Int).toNat)).length) c7]]) (w:=1) (n:=2) rfl rfl rfl rfl rfl)<|Wo.x (zJ (k:=8) (k2:=0) (n3:=6) (es3:=[[.slice a1 (((l1.drop (0:Int).toNat).take ((mi (l1.length:Int) (9:Int):Int).toNat-(0:Int).toNat)).length) c1],[.slice a4 l5.length c4],[.slice a5 l7.length c5],[.slice a6 l8.length c6],[.slice (some ⟨b2,0,none⟩) l10.length l10.length],[.slice a9 (((l9.drop (1:Int).toNat).take (((l9.length:Int):Int).toNat-(1:Int).toNat)).length) c7]]) yb ⟨_,Lz⟩ rfl rfl rfl rfl rfl rfl rfl rfl) gn rfl fun a18=>?_;refine aq ?_;refine Wk.block ?_;obtain⟨r9,h9,hF⟩:=J hF;refine ct (fun(r:(Unit) ⊕ (Unit)) (g:Unit)=>match r,g with | .inl _,_=>⟨.ret,[(12,.bool false)],[]⟩ | .inr _,_=>⟨(.exit 4),[(3,.int .i64 x5),(4,.slice a1 (((l1.drop (0:Int).toNat).take ((mi (l1.length:Int) (9:Int):Int).toNat-(0:Int).toNat)).length) c1),(5,.int .u8 ((x6:Nat):Int)),(44,.slice (some ⟨b1,0,none⟩) 3 3),(45,.int .i64 3),(46,.int .i64 v6)],[.rd a1 c1 1 (((l1.drop (0:Int).toNat).take ((mi (l1.length:Int) (9:Int):Int).toNat-(0:Int).toNat)).length) (((l1.drop (0:Int).toNat).take ((mi (l1.length:Int) (9:Int):Int).toNat-(0:Int).toNat)).map (eI .i64)),.arr b1 3 3 [[.int .i64 v0,.slice a0 l2.length c0,.int .u64 ((v1:Nat):Int)],[.int .i64 v2,.slice a0 l2.length c0,.int .u64 ((v3:Nat):Int)],[.int .i64 v4,.slice a3 l3.length c3,.int .u64 ((v5:Nat):Int)]] t0,.rd a0 c0 2 l2.length (l2.map (eP (eI .i64) (eI .i64))),.rd a3 c3 2 l3.length (l3.map (eP (eI .i64) (eI .i64)))]⟩) r9 ?_ ?_
             ·refine lo h9 () [5,6,7,12,13,14,8,9,10,11,2,1] (fun v12 _=>⟨.normal,[(3,.int .i64 x5),(4,.slice a1 (((l1.drop (0:Int).toNat).take ((mi (l1.length:Int) (9:Int):Int).toNat-(0:Int).toNat)).length) c1),(5,.int .u8 ((x6:Nat):Int)),(14,ptr b0 0),(44,.slice (some ⟨b1,0,none⟩) 3 3),(45,.int .i64 3),(46,.int .i64 v6),(139,.slice a18 6 6),(140,.int .i64 6),(141,.int .i64 v12)],[.rd a1 c1 1 (((l1.drop (0:Int).toNat).take ((mi (l1.length:Int) (9:Int):Int).toNat-(0:Int).toNat)).length) (((l1.drop (0:Int).toNat).take ((mi (l1.length:Int) (9:Int):Int).toNat-(0:Int).toNat)).map (eI .i64)),.obj b0 (.cells [.int .i64 x3,.slice a2 l4.length c2,.int .u64 ((x4:Nat):Int)] .own),.rd a2 c2 2 l4.length (l4.map (eP (eI .i64) (eI .i64))),.arr b1 3 3 [[.int .i64 v0,.slice a0 l2.length c0,.int .u64 ((v1:Nat):Int)],[.int .i64 v2,.slice a0 l2.length c0,.int .u64 ((v3:Nat):Int)],[.int .i64 v4,.slice a3 l3.length c3,.int .u64 ((v5:Nat):Int)]] t0,.rd a0 c0 2 l2.length (l2.map (eP (eI .i64) (eI .i64))),.rd a3 c3 2 l3.length (l3.map (eP (eI .i64) (eI .i64))),.sl a18 1 6 [[.slice a1 (((l1.drop (0:Int).toNat).take ((mi (l1.length:Int) (9:Int):Int).toNat-(0:Int).toNat)).length) c1],[.slice a4 l5.length c4],[.slice a5 l7.length c5],[.slice a6 l8.length c6],[.slice (some ⟨b2,0,none⟩) l10.length l10.length],[.slice a9 (((l9.drop (1:Int).toNat).take (((l9.length:Int):Int).toNat-(1:Int).toNat)).length) c7]],.rd a4 c4 1 l5.length (l5.map (eI .i64)),.rd a5 c5 1 l7.length (l7.map (eI .i64)),.rd a6 c6 1 l8.length (l8.map (eI .i64)),.rd (some ⟨b2,0,none⟩) l10.length 1 l10.length ((l10.set ((Int.tmod (IntKind.wrap .i64 ((x6:Nat):Int)) (l10.length:Int)).toNat) (IntKind.wrap .i64 (x7+1))).map (eI .i64)),.rd a9 c7 1 (((l9.drop (1:Int).toNat).take (((l9.length:Int):Int).toNat-(1:Int).toNat)).length) (((l9.drop (1:Int).toNat).take (((l9.length:Int):Int).toNat-(1:Int).toNat)).map (eI .i64))]⟩) ?_;clear hF h9;rintro v12 ⟨⟩ r hF;unfold BX at hF;refine wz ?_;refine Wk.seq ?_;rcases aa hF with⟨h66,hF⟩|⟨h66,hF⟩
              ·refine aq ?_;obtain⟨h67,hF⟩:=bG hF;refine Wo.open (k:=6) rfl (aM h67) ?_;rintro b6 t2 rfl h85;refine wz ?_;obtain⟨l12,h0,hF⟩:=J hF;refine Wo.x (qP (β:=Option Addr × Nat) (V:=fun g=>match g with | (a11,c8)=>.slice a11 l12.length c8) (N:=fun g=>match g with | (a11,c8)=>[.rd a11 c8 1 l12.length (l12.map (eI .i64))]++[.rd a1 c1 1 (((l1.drop (0:Int).toNat).take ((mi (l1.length:Int) (9:Int):Int).toNat-(0:Int).toNat)).length) (((l1.drop (0:Int).toNat).take ((mi (l1.length:Int) (9:Int):Int).toNat-(0:Int).toNat)).map (eI .i64)),.obj b0 (.cells [.int .i64 x3,.slice a2 l4.length c2,.int .u64 ((x4:Nat):Int)] .own),.rd a2 c2 2 l4.length (l4.map (eP (eI .i64) (eI .i64))),.arr b1 3 3 [[.int .i64 v0,.slice a0 l2.length c0,.int .u64 ((v1:Nat):Int)],[.int .i64 v2,.slice a0 l2.length c0,.int .u64 ((v3:Nat):Int)],[.int .i64 v4,.slice a3 l3.length c3,.int .u64 ((v5:Nat):Int)]] t0,.rd a0 c0 2 l2.length (l2.map (eP (eI .i64) (eI .i64))),.rd a3 c3 2 l3.length (l3.map (eP (eI .i64) (eI .i64))),.arr b6 1 6 [[.slice a1 (((l1.drop (0:Int).toNat).take ((mi (l1.length:Int) (9:Int):Int).toNat-(0:Int).toNat)).length) c1],[.slice a4 l5.length c4],[.slice a5 l7.length c5],[.slice a6 l8.length c6],[.slice (some ⟨b2,0,none⟩) l10.length l10.length],[.slice a9 (((l9.drop (1:Int).toNat).take (((l9.length:Int):Int).toNat-(1:Int).toNat)).length) c7]] t2,.rd a4 c4 1 l5.length (l5.map (eI .i64)),.rd a5 c5 1 l7.length (l7.map (eI .i64)),.rd a6 c6 1 l8.length (l8.map (eI .i64)),.rd (some ⟨b2,0,none⟩) l10.length 1 l10.length ((l10.set ((Int.tmod (IntKind.wrap .i64 ((x6:Nat):Int)) (l10.length:Int)).toNat) (IntKind.wrap .i64 (x7+1))).map (eI .i64)),.rd a9 c7 1 (((l9.drop (1:Int).toNat).take (((l9.length:Int):Int).toNat-(1:Int).toNat)).length) (((l9.drop (1:Int).toNat).take (((l9.length:Int):Int).toNat-(1:Int).toNat)).map (eI .i64))]) rfl (fun m hm=>Pc.eL (hm.get (k:=6) rfl) (.inl rfl)) (fun m hm=>?_)) gn rfl ?_
               ·clear hF;generalize v12.toNat=j at h0 ⊢
                match j,h0 with
                | 0,h0=>cases h0; exact⟨(a1,c1),nO (k:=6) (j:=0) hm t49 rfl rfl rfl rfl,(Hp.dup hm (k:=0) rfl)⟩
                | 1,h0=>cases h0; exact⟨(a4,c4),nO (k:=6) (j:=1) hm t49 rfl rfl rfl rfl,(Hp.dup hm (k:=7) rfl)⟩
                | 2,h0=>cases h0; exact⟨(a5,c5),nO (k:=6) (j:=2) hm t49 rfl rfl rfl rfl,(Hp.dup hm (k:=8) rfl)⟩
                | 3,h0=>cases h0; exact⟨(a6,c6),nO (k:=6) (j:=3) hm t49 rfl rfl rfl rfl,(Hp.dup hm (k:=9) rfl)⟩
                | 4,h0=>cases h0; have e0:=AN (k:=10) (xs:=(l10.set ((Int.tmod (IntKind.wrap .i64 ((x6:Nat):Int)) (l10.length:Int)).toNat) (IntKind.wrap .i64 (x7+1)))) hm rfl; exact⟨((some ⟨b2,0,none⟩),l10.length),(by rw[←e0]; exact nO (k:=6) (j:=4) hm t49 rfl rfl rfl rfl),(by rw[←e0]; exact(Hp.dup hm (k:=10) rfl))⟩
                | 5,h0=>cases h0; exact⟨(a9,c7),nO (k:=6) (j:=5) hm t49 rfl rfl rfl rfl,(Hp.dup hm (k:=11) rfl)⟩
                | _+6,h0=>cases h0
               rintro⟨a11,c8⟩;refine aq ?_;obtain⟨⟨r82,r83,r84,r85,r86,r87,r88,r89,r90⟩,h68,hF⟩:=J hF;refine wc gn (fun m hm=>GY n x3 l4 x4 l12 a2 c2 a11 c8 _ h68 m (hG.ext hm.ext) (hm.q 3) (hm.q 0)) ?_;rintro⟨⟩;refine wz ?_;refine wa z38 fun b19=>?_;refine aq ?_;obtain⟨⟨r91,r92,r93,r94,r95,r96,r97,r98,r99⟩,h69,hF⟩:=J hF;refine wc gn (fun m hm=>Hi n x3 l4 x4 l12 a2 c2 a11 c8 _ h69 m (hm.q 4) (hm.q 1)) ?_;rintro⟨⟩;refine wz ?_;refine wa z38 fun b20=>?_;refine wz ?_;refine Wk.seq ?_;obtain⟨v13,h70,hF⟩:=J hF;refine ct (fun v13 (_:Unit)=>⟨.normal,[(3,.int .i64 x5),(4,.slice a1 (((l1.drop (0:Int).toNat).take ((mi (l1.length:Int) (9:Int):Int).toNat-(0:Int).toNat)).length) c1),(5,.int .u8 ((x6:Nat):Int)),(14,ptr b0 0),(44,.slice (some ⟨b1,0,none⟩) 3 3),(45,.int .i64 3),(46,.int .i64 v6),(139,.slice (some ⟨b6,0,none⟩) 6 6),(140,.int .i64 6),(141,.int .i64 v12),(185,.bool v13)],[.rd a1 c1 1 (((l1.drop (0:Int).toNat).take ((mi (l1.length:Int) (9:Int):Int).toNat-(0:Int).toNat)).length) (((l1.drop (0:Int).toNat).take ((mi (l1.length:Int) (9:Int):Int).toNat-(0:Int).toNat)).map (eI .i64)),.obj b0 (.cells [.int .i64 x3,.slice a2 l4.length c2,.int .u64 ((x4:Nat):Int)] .own),.rd a2 c2 2 l4.length (l4.map (eP (eI .i64) (eI .i64))),.arr b1 3 3 [[.int .i64 v0,.slice a0 l2.length c0,.int .u64 ((v1:Nat):Int)],[.int .i64 v2,.slice a0 l2.length c0,.int .u64 ((v3:Nat):Int)],[.int .i64 v4,.slice a3 l3.length c3,.int .u64 ((v5:Nat):Int)]] t0,.rd a0 c0 2 l2.length (l2.map (eP (eI .i64) (eI .i64))),.rd a3 c3 2 l3.length (l3.map (eP (eI .i64) (eI .i64))),.arr b6 1 6 [[.slice a1 (((l1.drop (0:Int).toNat).take ((mi (l1.length:Int) (9:Int):Int).toNat-(0:Int).toNat)).length) c1],[.slice a4 l5.length c4],[.slice a5 l7.length c5],[.slice a6 l8.length c6],[.slice (some ⟨b2,0,none⟩) l10.length l10.length],[.slice a9 (((l9.drop (1:Int).toNat).take (((l9.length:Int):Int).toNat-(1:Int).toNat)).length) c7]] t2,.rd a4 c4 1 l5.length (l5.map (eI .i64)),.rd a5 c5 1 l7.length (l7.map (eI .i64)),.rd a6 c6 1 l8.length (l8.map (eI .i64)),.rd (some ⟨b2,0,none⟩) l10.length 1 l10.length ((l10.set ((Int.tmod (IntKind.wrap .i64 ((x6:Nat):Int)) (l10.length:Int)).toNat) (IntKind.wrap .i64 (x7+1))).map (eI .i64)),.rd a9 c7 1 (((l9.drop (1:Int).toNat).take (((l9.length:Int):Int).toNat-(1:Int).toNat)).length) (((l9.drop (1:Int).toNat).take (((l9.length:Int):Int).toNat-(1:Int).toNat)).map (eI .i64))]⟩) v13 ?_ ?_
               ·clear hF;revert v13;intro r hF;refine Wk.bV (prs:=[(5,7),(5,9)]) (by kernel_rfl)<|Wn.od (bM (r:=ptr b0 0) rfl (gS _ _)) rfl<|Wn.od (aR (k:=4) t34 rfl rfl rfl) rfl<|Wn.od (bM (r:=ptr b0 2) rfl (gV _ _)) rfl<|Wn.od (aR (k:=4) t26 rfl rfl rfl) rfl<|Wn.od (aF rfl) rfl ?_
                obtain⟨r100,h71,hF⟩:=J hF;refine nc gn (fun m hm=>BJ n x3 l4 x4 l12 a2 c2 a11 c8 _ h71 m (hm.q 5) (hm.q 2)) ?_;rintro⟨⟩;refine Wn.od (bM (r:=ptr b0 0) rfl (gS _ _)) rfl<|Wn.od (aR (k:=4) t34 rfl rfl rfl) rfl<|Wn.od (bM (r:=ptr b0 2) rfl (gV _ _)) rfl<|Wn.od (aR (k:=4) t26 rfl rfl rfl) rfl<|Wn.od (aF rfl) rfl ?_;obtain⟨r101,h72,hF⟩:=J hF;refine nc gn (fun m hm=>Bd n x3 l4 x4 l12 a2 c2 a11 c8 _ h72 m (hm.q 5) (hm.q 2)) ?_;rintro⟨⟩;refine Wn.od (aG rfl rfl (tH _ _)) rfl<|Wn.od (aF rfl) rfl ?_;rcases aa hF with⟨h4,hF⟩|⟨h4,hF⟩
                ·refine Wn.s (gg rfl rfl (dK h4)) rfl<|Wn.s (gg rfl rfl (dK h4)) rfl<|Wn.s (gg rfl rfl (dK h4)) rfl<|Wn.od (jk rfl h4 rfl) rfl<|Wn.od (aF rfl) rfl<|Wn.s (gg rfl rfl rfl) rfl<|Wn.s (gg rfl rfl rfl) rfl<|Wn.s (gg rfl rfl rfl) rfl<|Wn.od (DX rfl rfl) rfl<|Wn.nil (fun m hm=>du.all rfl) ?_;cases hF;exact ae () [3,4,5,6,7,8,9,10,11,12,13,14]
                ·refine Wn.og (aR (k:=1) t38 rfl rfl rfl) (gg rfl rfl (dm h4)) rfl<|Wn.og (aR (k:=0) t38 rfl rfl rfl) (gg rfl rfl (dm h4)) rfl<|Wn.og (aG rfl rfl (Mv PR (Qd _ _ _ _ _ _ _ _ _ _ _ _ _ _ _ _))) (gg rfl rfl (dm h4)) rfl<|Wn.od (jV rfl h4 rfl) rfl<|Wn.od (aF rfl) rfl ?_;rcases aa hF with⟨h5,hF⟩|⟨h5,hF⟩
                 ·refine Wn.s (gg rfl rfl (dK h5)) rfl<|Wn.s (gg rfl rfl (dK h5)) rfl<|Wn.s (gg rfl rfl (dK h5)) rfl<|Wn.od (jk rfl h5 rfl) rfl<|Wn.nil (fun m hm=>du.all rfl) ?_;cases hF;exact ae () [3,4,5,6,7,8,9,10,11,12,13,14]
                 ·refine Wn.og (aF rfl) (gg rfl rfl (dm h5)) rfl<|Wn.og (aF rfl) (gg rfl rfl (dm h5)) rfl<|Wn.og (aG rfl rfl (tH _ _)) (gg rfl rfl (dm h5)) rfl<|Wn.od (jV rfl h5 rfl) rfl<|Wn.nil (fun m hm=>du.all rfl) ?_;cases hF;exact ae () [3,4,5,6,7,8,9,10,11,12,13,14]
               ·clear h70;rintro⟨⟩;refine At.tn ?_;rcases aa hF with⟨h73,hF⟩|⟨h73,hF⟩
                ·refine aq ?_;cases hF;exact ae () []
                ·refine aq ?_;cases hF;exact At.en () rfl (sc rfl (sc rfl (sc rfl (sc rfl (sc rfl (sc rfl (sc rfl (sc rfl (sc rfl (sc rfl sn)))))))))) (ak.trans (ak.close (k:=6) rfl) (ak.aP [0,1,2,3,4,5,6,7,8,9,10,11] rfl rfl))
              ·refine wz ?_;cases hF;exact ae () [0,3,4,5]
             ·clear h9;rcases r9 with _|_
              ·rintro⟨⟩;refine wz ?_;cases hF;exact ae () []
              ·rintro⟨⟩;refine wz ?_;cases hF;exact At.en () rfl (sc rfl (sc rfl (sc rfl (sc rfl (sc rfl (sc rfl sn)))))) (ak.trans (ak.close (k:=1) rfl) (ak.aP [0,1,2,3] rfl rfl))
            ·refine aq ?_;refine Wk.block ?_;obtain⟨r10,h10,hF⟩:=J hF;refine ct (fun(r:(Unit) ⊕ (Unit)) (g:Unit)=>match r,g with | .inl _,_=>⟨.ret,[(12,.bool false)],[]⟩ | .inr _,_=>⟨(.exit 4),[(3,.int .i64 x5),(4,.slice a1 (((l1.drop (0:Int).toNat).take ((mi (l1.length:Int) (9:Int):Int).toNat-(0:Int).toNat)).length) c1),(5,.int .u8 ((x6:Nat):Int)),(44,.slice (some ⟨b1,0,none⟩) 3 3),(45,.int .i64 3),(46,.int .i64 v6)],[.rd a1 c1 1 (((l1.drop (0:Int).toNat).take ((mi (l1.length:Int) (9:Int):Int).toNat-(0:Int).toNat)).length) (((l1.drop (0:Int).toNat).take ((mi (l1.length:Int) (9:Int):Int).toNat-(0:Int).toNat)).map (eI .i64)),.arr b1 3 3 [[.int .i64 v0,.slice a0 l2.length c0,.int .u64 ((v1:Nat):Int)],[.int .i64 v2,.slice a0 l2.length c0,.int .u64 ((v3:Nat):Int)],[.int .i64 v4,.slice a3 l3.length c3,.int .u64 ((v5:Nat):Int)]] t0,.rd a0 c0 2 l2.length (l2.map (eP (eI .i64) (eI .i64))),.rd a3 c3 2 l3.length (l3.map (eP (eI .i64) (eI .i64)))]⟩) r10 ?_ ?_
             ·refine lo h10 () [2,3,4,9,10,11,5,6,7,8] (fun v14 _=>⟨.normal,[(3,.int .i64 x5),(4,.slice a1 (((l1.drop (0:Int).toNat).take ((mi (l1.length:Int) (9:Int):Int).toNat-(0:Int).toNat)).length) c1),(5,.int .u8 ((x6:Nat):Int)),(14,ptr b0 0),(44,.slice (some ⟨b1,0,none⟩) 3 3),(45,.int .i64 3),(46,.int .i64 v6),(139,.slice (some ⟨b3,0,none⟩) 4 4),(140,.int .i64 4),(141,.int .i64 v14)],[.rd a1 c1 1 (((l1.drop (0:Int).toNat).take ((mi (l1.length:Int) (9:Int):Int).toNat-(0:Int).toNat)).length) (((l1.drop (0:Int).toNat).take ((mi (l1.length:Int) (9:Int):Int).toNat-(0:Int).toNat)).map (eI .i64)),.obj b0 (.cells [.int .i64 x3,.slice a2 l4.length c2,.int .u64 ((x4:Nat):Int)] .own),.rd a2 c2 2 l4.length (l4.map (eP (eI .i64) (eI .i64))),.arr b1 3 3 [[.int .i64 v0,.slice a0 l2.length c0,.int .u64 ((v1:Nat):Int)],[.int .i64 v2,.slice a0 l2.length c0,.int .u64 ((v3:Nat):Int)],[.int .i64 v4,.slice a3 l3.length c3,.int .u64 ((v5:Nat):Int)]] t0,.rd a0 c0 2 l2.length (l2.map (eP (eI .i64) (eI .i64))),.rd a3 c3 2 l3.length (l3.map (eP (eI .i64) (eI .i64))),.arr b3 1 4 [[.slice a1 (((l1.drop (0:Int).toNat).take ((mi (l1.length:Int) (9:Int):Int).toNat-(0:Int).toNat)).length) c1],[.slice a4 l5.length c4],[.slice a5 l7.length c5],[.slice a6 l8.length c6]] t1,.rd a4 c4 1 l5.length (l5.map (eI .i64)),.rd a5 c5 1 l7.length (l7.map (eI .i64)),.rd a6 c6 1 l8.length (l8.map (eI .i64))]⟩) ?_;clear hF h10;rintro v14 ⟨⟩ r hF;unfold BS at hF;refine wz ?_;refine Wk.seq ?_;rcases aa hF with⟨h74,hF⟩|⟨h74,hF⟩
              ·refine aq ?_;obtain⟨h86,hF⟩:=bG hF;refine wz ?_;obtain⟨l13,h2,hF⟩:=J hF;refine Wo.x (qP (β:=Option Addr × Nat) (V:=fun g=>match g with | (a12,c9)=>.slice a12 l13.length c9) (N:=fun g=>match g with | (a12,c9)=>[.rd a12 c9 1 l13.length (l13.map (eI .i64))]++[.rd a1 c1 1 (((l1.drop (0:Int).toNat).take ((mi (l1.length:Int) (9:Int):Int).toNat-(0:Int).toNat)).length) (((l1.drop (0:Int).toNat).take ((mi (l1.length:Int) (9:Int):Int).toNat-(0:Int).toNat)).map (eI .i64)),.obj b0 (.cells [.int .i64 x3,.slice a2 l4.length c2,.int .u64 ((x4:Nat):Int)] .own),.rd a2 c2 2 l4.length (l4.map (eP (eI .i64) (eI .i64))),.arr b1 3 3 [[.int .i64 v0,.slice a0 l2.length c0,.int .u64 ((v1:Nat):Int)],[.int .i64 v2,.slice a0 l2.length c0,.int .u64 ((v3:Nat):Int)],[.int .i64 v4,.slice a3 l3.length c3,.int .u64 ((v5:Nat):Int)]] t0,.rd a0 c0 2 l2.length (l2.map (eP (eI .i64) (eI .i64))),.rd a3 c3 2 l3.length (l3.map (eP (eI .i64) (eI .i64))),.arr b3 1 4 [[.slice a1 (((l1.drop (0:Int).toNat).take ((mi (l1.length:Int) (9:Int):Int).toNat-(0:Int).toNat)).length) c1],[.slice a4 l5.length c4],[.slice a5 l7.length c5],[.slice a6 l8.length c6]] t1,.rd a4 c4 1 l5.length (l5.map (eI .i64)),.rd a5 c5 1 l7.length (l7.map (eI .i64)),.rd a6 c6 1 l8.length (l8.map (eI .i64))]) rfl (fun m hm=>Pc.eL (hm.get (k:=6) rfl) (.inl rfl)) (fun m hm=>?_)) gn rfl ?_
               ·clear hF;generalize v14.toNat=j at h2 ⊢
                match j,h2 with
                | 0,h2=>cases h2; exact⟨(a1,c1),nO (k:=6) (j:=0) hm t49 rfl rfl rfl rfl,(Hp.dup hm (k:=0) rfl)⟩
                | 1,h2=>cases h2; exact⟨(a4,c4),nO (k:=6) (j:=1) hm t49 rfl rfl rfl rfl,(Hp.dup hm (k:=7) rfl)⟩
                | 2,h2=>cases h2; exact⟨(a5,c5),nO (k:=6) (j:=2) hm t49 rfl rfl rfl rfl,(Hp.dup hm (k:=8) rfl)⟩
                | 3,h2=>cases h2; exact⟨(a6,c6),nO (k:=6) (j:=3) hm t49 rfl rfl rfl rfl,(Hp.dup hm (k:=9) rfl)⟩
                | _+4,h2=>cases h2
               rintro⟨a12,c9⟩;refine aq ?_;obtain⟨⟨r102,r103,r104,r105,r106,r107,r108,r109,r110⟩,h75,hF⟩:=J hF;refine wc gn (fun m hm=>GY n x3 l4 x4 l13 a2 c2 a12 c9 _ h75 m (hG.ext hm.ext) (hm.q 3) (hm.q 0)) ?_;rintro⟨⟩;refine wz ?_;refine wa z38 fun b21=>?_;refine aq ?_;obtain⟨⟨r111,r112,r113,r114,r115,r116,r117,r118,r119⟩,h76,hF⟩:=J hF;refine wc gn (fun m hm=>Hi n x3 l4 x4 l13 a2 c2 a12 c9 _ h76 m (hm.q 4) (hm.q 1)) ?_;rintro⟨⟩;refine wz ?_;refine wa z38 fun b22=>?_;refine wz ?_;refine Wk.seq ?_;obtain⟨v15,h77,hF⟩:=J hF;refine ct (fun v15 (_:Unit)=>⟨.normal,[(3,.int .i64 x5),(4,.slice a1 (((l1.drop (0:Int).toNat).take ((mi (l1.length:Int) (9:Int):Int).toNat-(0:Int).toNat)).length) c1),(5,.int .u8 ((x6:Nat):Int)),(14,ptr b0 0),(44,.slice (some ⟨b1,0,none⟩) 3 3),(45,.int .i64 3),(46,.int .i64 v6),(139,.slice (some ⟨b3,0,none⟩) 4 4),(140,.int .i64 4),(141,.int .i64 v14),(185,.bool v15)],[.rd a1 c1 1 (((l1.drop (0:Int).toNat).take ((mi (l1.length:Int) (9:Int):Int).toNat-(0:Int).toNat)).length) (((l1.drop (0:Int).toNat).take ((mi (l1.length:Int) (9:Int):Int).toNat-(0:Int).toNat)).map (eI .i64)),.obj b0 (.cells [.int .i64 x3,.slice a2 l4.length c2,.int .u64 ((x4:Nat):Int)] .own),.rd a2 c2 2 l4.length (l4.map (eP (eI .i64) (eI .i64))),.arr b1 3 3 [[.int .i64 v0,.slice a0 l2.length c0,.int .u64 ((v1:Nat):Int)],[.int .i64 v2,.slice a0 l2.length c0,.int .u64 ((v3:Nat):Int)],[.int .i64 v4,.slice a3 l3.length c3,.int .u64 ((v5:Nat):Int)]] t0,.rd a0 c0 2 l2.length (l2.map (eP (eI .i64) (eI .i64))),.rd a3 c3 2 l3.length (l3.map (eP (eI .i64) (eI .i64))),.arr b3 1 4 [[.slice a1 (((l1.drop (0:Int).toNat).take ((mi (l1.length:Int) (9:Int):Int).toNat-(0:Int).toNat)).length) c1],[.slice a4 l5.length c4],[.slice a5 l7.length c5],[.slice a6 l8.length c6]] t1,.rd a4 c4 1 l5.length (l5.map (eI .i64)),.rd a5 c5 1 l7.length (l7.map (eI .i64)),.rd a6 c6 1 l8.length (l8.map (eI .i64))]⟩) v15 ?_ ?_
               ·clear hF;revert v15;intro r hF;refine Wk.bV (prs:=[(5,7),(5,9)]) (by kernel_rfl)<|Wn.od (bM (r:=ptr b0 0) rfl (gS _ _)) rfl<|Wn.od (aR (k:=4) t34 rfl rfl rfl) rfl<|Wn.od (bM (r:=ptr b0 2) rfl (gV _ _)) rfl<|Wn.od (aR (k:=4) t26 rfl rfl rfl) rfl<|Wn.od (aF rfl) rfl ?_
                obtain⟨r120,h78,hF⟩:=J hF;refine nc gn (fun m hm=>BJ n x3 l4 x4 l13 a2 c2 a12 c9 _ h78 m (hm.q 5) (hm.q 2)) ?_;rintro⟨⟩;refine Wn.od (bM (r:=ptr b0 0) rfl (gS _ _)) rfl<|Wn.od (aR (k:=4) t34 rfl rfl rfl) rfl<|Wn.od (bM (r:=ptr b0 2) rfl (gV _ _)) rfl<|Wn.od (aR (k:=4) t26 rfl rfl rfl) rfl<|Wn.od (aF rfl) rfl ?_;obtain⟨r121,h79,hF⟩:=J hF;refine nc gn (fun m hm=>Bd n x3 l4 x4 l13 a2 c2 a12 c9 _ h79 m (hm.q 5) (hm.q 2)) ?_;rintro⟨⟩;refine Wn.od (aG rfl rfl (tH _ _)) rfl<|Wn.od (aF rfl) rfl ?_;rcases aa hF with⟨h6,hF⟩|⟨h6,hF⟩
                ·refine Wn.s (gg rfl rfl (dK h6)) rfl<|Wn.s (gg rfl rfl (dK h6)) rfl<|Wn.s (gg rfl rfl (dK h6)) rfl<|Wn.od (jk rfl h6 rfl) rfl<|Wn.od (aF rfl) rfl<|Wn.s (gg rfl rfl rfl) rfl<|Wn.s (gg rfl rfl rfl) rfl<|Wn.s (gg rfl rfl rfl) rfl<|Wn.od (DX rfl rfl) rfl<|Wn.nil (fun m hm=>du.all rfl) ?_;cases hF;exact ae () [3,4,5,6,7,8,9,10,11,12]
                ·refine Wn.og (aR (k:=1) t38 rfl rfl rfl) (gg rfl rfl (dm h6)) rfl<|Wn.og (aR (k:=0) t38 rfl rfl rfl) (gg rfl rfl (dm h6)) rfl<|Wn.og (aG rfl rfl (Mv PR (Qd _ _ _ _ _ _ _ _ _ _ _ _ _ _ _ _))) (gg rfl rfl (dm h6)) rfl<|Wn.od (jV rfl h6 rfl) rfl<|Wn.od (aF rfl) rfl ?_;rcases aa hF with⟨h7,hF⟩|⟨h7,hF⟩
                 ·refine Wn.s (gg rfl rfl (dK h7)) rfl<|Wn.s (gg rfl rfl (dK h7)) rfl<|Wn.s (gg rfl rfl (dK h7)) rfl<|Wn.od (jk rfl h7 rfl) rfl<|Wn.nil (fun m hm=>du.all rfl) ?_;cases hF;exact ae () [3,4,5,6,7,8,9,10,11,12]
                 ·refine Wn.og (aF rfl) (gg rfl rfl (dm h7)) rfl<|Wn.og (aF rfl) (gg rfl rfl (dm h7)) rfl<|Wn.og (aG rfl rfl (tH _ _)) (gg rfl rfl (dm h7)) rfl<|Wn.od (jV rfl h7 rfl) rfl<|Wn.nil (fun m hm=>du.all rfl) ?_;cases hF;exact ae () [3,4,5,6,7,8,9,10,11,12]
               ·clear h77;rintro⟨⟩;refine At.tn ?_;rcases aa hF with⟨h80,hF⟩|⟨h80,hF⟩
                ·refine aq ?_;cases hF;exact ae () []
                ·refine aq ?_;cases hF;exact ae () [0,1,2,3,4,5,6,7,8,9]
              ·refine wz ?_;cases hF;exact ae () [0,3,4,5]
             ·clear h10;rcases r10 with _|_
              ·rintro⟨⟩;refine wz ?_;cases hF;exact ae () []
              ·rintro⟨⟩;refine wz ?_;cases hF;exact At.en () rfl (sc rfl (sc rfl (sc rfl (sc rfl (sc rfl (sc rfl sn)))))) (ak.trans (ak.close (k:=1) rfl) (ak.aP [0,1,2,3] rfl rfl))
     ·clear h29;rcases r7 with _|_
      ·rintro⟨⟩;refine At.tr ?_;cases hF;exact ae () []
      ·rintro⟨⟩;refine aq ?_;cases hF;exact ae () [0,1,2,3]
    ·refine wz ?_;cases hF;exact ae () []
   ·clear h8;rcases r8 with _|_
    ·rintro⟨⟩;refine wz ?_;cases hF;exact ar () []
    ·rintro⟨⟩;refine dC ?_;cases hF;exact ar () []
end Go.Proofs.YtookeaakpiefjaaGreatDoor
end
section
namespace Go.Ab.T30
def sm:Nat→(Nat→Int)→Int
 | 0,_=>0
 | n+1,f=>sm n f+f n
theorem gW:∀{n:Nat} {f g:Nat→Int},(∀i,i<n→f i=g i)→sm n f=sm n g
 | 0,_,_,_=>rfl
 | n+1,f,g,h=>by
  simp only[sm];rw[gW fun i hi=>h i (by omega),h n (by omega)]
theorem vG:∀{n:Nat} {f:Nat→Int},(∀i,i<n→f i=0)→sm n f=0
 | 0,_,_=>rfl
 | n+1,f,h=>by
  simp only[sm];rw[vG fun i hi=>h i (by omega),h n (by omega)]; rfl
theorem vS (a b:Int):∀(n:Nat) (f g:Nat→Int),sm n (fun i=>a*f i+b*g i)=a*sm n f+b*sm n g
 | 0,_,_=>by simp[sm]
 | n+1,f,g=>by
  simp only[sm];rw[vS a b n f g,Int.mul_add,Int.mul_add]; omega
theorem OL {n k:Nat} {f:Nat→Int} (hk:k<n) (h:∀i,i<n→i≠k→f i=0):sm n f=f k:=by
 induction n with
 | zero=>cases hk
 | succ n ih =>
  simp only[sm]
  by_cases e:k=n
  ·subst e;rw[vG fun i hi=>h i (by omega) (by omega),Int.zero_add]
  ·rw[ih (by omega) fun i hi=>h i (by omega),h n (by omega) (fun g=>e g.symm),Int.add_zero]
theorem MH {n k:Nat} {f:Nat→Int} (hk:k+1<n) (h:∀i,i<n→i≠k→i≠k+1→f i=0):sm n f=f k+f (k+1):=by
 induction n with
 | zero=>cases hk
 | succ n ih =>
  simp only[sm]
  by_cases e:k+1=n
  ·rw[OL (k:=k) (by omega) fun i hi hne=>h i (by omega) hne (by omega),e]
  ·rw[ih (by omega) fun i hi=>h i (by omega),h n (by omega) (by omega) (fun g=>e g.symm),Int.add_zero]
def sg (i:Nat):Int:=if i%2=0 then 1 else -1
theorem KL (i:Nat):sg (i+1) = - sg i:=by
 unfold sg;have:i%2=0∨i%2=1:=by omega
 rcases this with h|h
 ·rw[if_pos h,if_neg (show ¬(i+1)%2=0 by omega)]
 ·rw[if_neg (show ¬i%2=0 by omega),if_pos (show(i+1)%2=0 by omega)]; rfl
def HW (i r:Nat):Nat:=if r<i then r else r+1
abbrev Mt:=Nat→Nat→Int
def pM (A:Mt) (i:Nat):Mt:=fun r c=>A (HW i r) (c+1)
def cu:Nat→Mt→Int
 | 0,_=>1
 | n+1,A=>sm (n+1) fun i=>sg i*A i 0*cu n (pM A i)
theorem AZ {i r n:Nat} (hr:r<n):HW i r<n+1:=by unfold HW; split<;>omega
theorem Mz {i r:Nat}:HW i r≠i:=by unfold HW; split<;>omega
theorem bD:∀{n:Nat} {A B:Mt},(∀r c,r<n→c<n→A r c=B r c)→cu n A=cu n B
 | 0,_,_,_=>rfl
 | n+1,A,B,h=>by
  simp only[cu];refine gW fun i hi=>?_;have hm:cu n (pM A i)=cu n (pM B i):=bD fun r c hr hc=>h _ _ (AZ hr) (by omega)
  rw[h i 0 hi (by omega),hm]
def upd (A:Mt) (k:Nat) (v:Nat→Int):Mt:=fun r c=>if r=k then v c else A r c
def pos (i k:Nat):Nat:=if k<i then k else k-1
theorem J7 {i r k:Nat} (h:i≠k):HW i r=k↔r=pos i k:=by unfold HW pos; split<;>split<;>omega
theorem xS {A:Mt} {i k:Nat} {v:Nat→Int} (h:i≠k):pM (upd A k v) i=upd (pM A i) (pos i k) fun c=>v (c+1):=by
 funext r c
 simp only[pM,upd,J7 h]
theorem jG {A:Mt} {k:Nat} {v:Nat→Int}:pM (upd A k v) k=pM A k:=by
 funext r c
 simp only[pM,upd,if_neg Mz]
theorem NB {i k n:Nat} (hk:k<n+1) (h:i≠k) (hi:i<n+1):pos i k<n:=by unfold pos; split<;>omega
theorem kj (a b:Int) (u w:Nat→Int):∀{n:Nat} {A:Mt} {k:Nat},k<n→cu n (upd A k fun c=>a*u c+b*w c)=a*cu n (upd A k u)+b*cu n (upd A k w):=by
 intro n
 induction n generalizing u w with
 | zero=>intro A k h; cases h
 | succ n ih =>
  intro A k hk;simp only[cu];rw[←vS];refine gW fun i hi=>?_
  by_cases h:i=k
  ·subst h;rw[jG,jG,jG];simp only[upd,if_true];generalize cu n (pM A i)=D;rw[Int.mul_add,Int.add_mul]
   congr 1
   ·rw[Int.mul_left_comm (sg i) a,Int.mul_assoc a]
   ·rw[Int.mul_left_comm (sg i) b,Int.mul_assoc b]
  ·rw[xS h,xS h,xS h,ih (fun c=>u (c+1)) (fun c=>w (c+1)) (NB hk h hi)];simp only[upd,if_neg h];generalize sg i*A i 0=s;rw[Int.mul_add,Int.mul_left_comm s a,Int.mul_left_comm s b]
theorem nS (A:Mt) (k:Nat):upd A k (A k)=A:=by
 funext r c
 unfold upd
 split
 ·rename_i h; rw[h]
 ·rfl
theorem C4:∀{n:Nat} {A:Mt} {k:Nat},k+1<n→(∀c,c<n→A k c=A (k+1) c)→cu n A=0:=by
 intro n
 induction n with
 | zero=>intro A k h; cases h
 | succ n ih =>
  intro A k hk he;simp only[cu];rw[MH (k:=k) hk]
  ·have hm:cu n (pM A k)=cu n (pM A (k+1)):=bD fun r c hr hc=>by
    simp only[pM,HW]
    by_cases h1:r<k
    ·rw[if_pos h1,if_pos (by omega)]
    ·by_cases h2:r=k
     ·subst h2;rw[if_neg (by omega),if_pos (by omega)]
      exact(he (c+1) (by omega)).symm
     ·rw[if_neg h1,if_neg (by omega)]
   rw[hm,he 0 (by omega),KL,Int.neg_mul,Int.neg_mul]
   omega
  ·intro i hi h1 h2;have:cu n (pM A i)=0:=by
    by_cases h:i<k
    ·exact ih (k:=k-1) (by omega) fun c hc=>by
      simp only[pM,HW];rw[if_neg (by omega),if_neg (by omega)]
      have:=he (c+1) (by omega)
      rw[show k-1+1=k by omega]
      exact this
    ·exact ih (k:=k) (by omega) fun c hc=>by
      simp only[pM,HW];rw[if_pos (by omega),if_pos (by omega)]
      exact he (c+1) (by omega)
   rw[this,Int.mul_zero]
def PZ (A:Mt) (j:Nat):Mt:=fun r c=>if r=j then A (j+1) c else if r=j+1 then A j c else A r c
theorem JJ {n j:Nat} {A:Mt} (hj:j+1<n):cu n (PZ A j) = - cu n A:=by
 let D:=fun(u w:Nat→Int)=>cu n (upd (upd A j u) (j+1) w)
 have hl:∀u u' w,D (fun c=>u c+u' c) w=D u w+D u' w:=fun u u' w=>by
  have e:∀v,upd (upd A j v) (j+1) w=upd (upd A (j+1) w) j v:=fun v=>by
   funext r c
   simp only[upd]
   by_cases h1:r=j+1
   ·rw[if_pos h1,if_neg (by omega),if_pos h1]
   ·rw[if_neg h1,if_neg h1]
  show cu n (upd (upd A j _) (j+1) w)=cu n (upd (upd A j u) (j+1) w)+cu n (upd (upd A j u') (j+1) w)
  rw[e,e,e];have:=kj 1 1 u u' (n:=n) (A:=upd A (j+1) w) (k:=j) (by omega)
  simp only[Int.one_mul] at this;exact this
 have hr:∀u w w',D u (fun c=>w c+w' c)=D u w+D u w':=fun u w w'=>by
  have:=kj 1 1 w w' (n:=n) (A:=upd A j u) (k:=j+1) hj;simp only[Int.one_mul] at this;exact this
 have hz:∀u,D u u=0:=fun u=>C4 hj fun c _=>by
  simp only[upd];rw[if_neg (by omega),if_pos trivial,if_pos trivial]
 have h0:=hz (fun c=>A j c+A (j+1) c);rw[hl,hr,hr,hz,hz] at h0;have e1:D (A j) (A (j+1))=cu n A:=by
  show cu n (upd (upd A j (A j)) (j+1) (A (j+1)))=_
  rw[nS,nS]
 have e2:D (A (j+1)) (A j)=cu n (PZ A j):=by
  show cu n (upd (upd A j (A (j+1))) (j+1) (A j))=_
  refine bD fun r c _ _=>?_;simp only[upd,PZ]
  by_cases h1:r=j+1
  ·rw[if_pos h1,if_neg (by omega),if_pos h1]
  ·rw[if_neg h1,if_neg h1]
 rw[e1,e2] at h0;omega
theorem uL {n:Nat}:∀{d j:Nat} {A:Mt},j+d+1<n→(∀c,c<n→A j c=A (j+d+1) c)→cu n A=0:=by
 intro d
 induction d with
 | zero=>intro j A hk he; exact C4 hk he
 | succ d ih =>
  intro j A hk he;have h1:=JJ (n:=n) (j:=j+d+1) (A:=A) (by omega)
  have h2:=ih (j:=j) (A:=PZ A (j+d+1)) (by omega) fun c hc=>by
   simp only[PZ];rw[if_neg (by omega),if_neg (by omega),if_pos trivial]
   exact he c hc
  omega
theorem ti {n j k:Nat} {A:Mt} (hj:j<n) (hk:k<n) (hne:j≠k) (he:∀c,c<n→A j c=A k c):cu n A=0:=by
 rcases Nat.lt_or_ge j k with h|h
 ·exact uL (d:=k-j-1) (j:=j) (by omega) fun c hc=>by rw[show j+(k-j-1)+1=k by omega]; exact he c hc
 ·exact uL (d:=j-k-1) (j:=k) (by omega) fun c hc=>by rw[show k+(j-k-1)+1=j by omega]; exact(he c hc).symm
theorem wN {n r k:Nat} {A:Mt} (t:Int) (hr:r<n) (hk:k<n) (hne:r≠k):cu n (upd A r fun c=>A r c+t*A k c)=cu n A:=by
 have h:=kj 1 t (A r) (A k) (n:=n) (A:=A) (k:=r) hr;simp only[Int.one_mul] at h;rw[h,nS,ti (A:=upd A r (A k)) hr hk hne fun c _=>by simp only[upd]; rw[if_pos trivial,if_neg (fun e=>hne e.symm)],Int.mul_zero,Int.add_zero]
theorem uu {n r:Nat} {A:Mt} (t:Int) (v:Nat→Int) (hr:r<n):cu n (upd A r fun c=>t*v c)=t*cu n (upd A r v):=by
 have h:=kj t 0 v v (n:=n) (A:=A) (k:=r) hr;simp only[Int.zero_mul,Int.add_zero] at h;exact h
theorem Gr {n r:Nat} {A:Mt} (hr:r<n) (q:Int) (γ:Nat→Int) (v:Nat→Int):∀k,k≤n→(∀i,i<k→i≠r)→cu n (upd A r fun c=>q*v c+sm k fun i=>γ i*A i c)=q*cu n (upd A r v):=by
 intro k
 induction k with
 | zero =>
  intro _ _;simp only[sm,Int.add_zero];exact uu q v hr
 | succ k ih =>
  intro hk hne;have e:(upd A r fun c=>q*v c+sm (k+1) fun i=>γ i*A i c)=upd A r fun c=>1*(q*v c+sm k fun i=>γ i*A i c)+γ k*A k c:=by
   funext r' c
   simp only[upd,sm]
   split<;>omega
  rw[e,kj 1 (γ k) _ _ hr,Int.one_mul,ih (by omega) fun i hi=>hne i (by omega),ti (A:=upd A r (A k)) hr (show k<n by omega) (fun e=>hne k (by omega) e.symm) fun c _=>by
   simp only[upd]; rw[if_pos trivial,if_neg (hne k (by omega))],Int.mul_zero,Int.add_zero]
theorem EM {n u:Nat} {A:Mt} (hu:u<n) (t:Nat→Int):cu n (fun i c=>if i=u then A u c else A i c+t i*A u c)=cu n A:=by
 have key:∀m,m≤n→cu n (fun i c=>if i=u∨m≤i then A i c else A i c+t i*A u c)=cu n A:=by
  intro m
  induction m with
  | zero =>
   intro _;refine bD fun r c _ _=>?_;rw[if_pos (.inr (Nat.zero_le _))]
  | succ m ih =>
   intro hm;rw[←ih (by omega)]
   by_cases h:m=u
   ·refine bD fun r c _ _=>?_
    by_cases h1:r=u
    ·rw[if_pos (.inl h1),if_pos (.inl h1)]
    ·by_cases h2:m≤r
     ·rw[if_pos (.inr (by omega)),if_pos (.inr h2)]
     ·rw[if_neg (by omega),if_neg (by omega)]
   ·have:=wN (n:=n) (r:=m) (k:=u) (A:=fun i c=>if i=u∨m≤i then A i c else A i c+t i*A u c) (t m) (by omega) hu h
    rw[←this];refine bD fun r c _ _=>?_;simp only[upd]
    by_cases h1:r=m
    ·subst h1;rw[if_neg (show ¬(r=u∨r+1≤r) by omega),if_pos rfl,if_pos (.inr (Nat.le_refl _)),if_pos (.inl trivial)]
    ·rw[if_neg h1]
     by_cases h2:r=u∨m+1≤r
     ·rw[if_pos h2,if_pos (by omega)]
     ·rw[if_neg h2,if_neg (by omega)]
 have:=key n (Nat.le_refl _);rw[←this];refine bD fun r c hr _=>?_
 by_cases h:r=u
 ·rw[if_pos h,if_pos (.inl h),h]
 ·rw[if_neg h,if_neg (by omega)]
theorem Ha:∀{n:Nat} {A:Mt} {c:Nat},c<n→(∀r,r<n→A r c=0)→cu n A=0:=by
 intro n
 induction n with
 | zero=>intro A c h; cases h
 | succ n ih =>
  intro A c hc h;simp only[cu];refine vG fun i hi=>?_;cases c with
  | zero=>rw[h i hi,Int.mul_zero,Int.zero_mul]
  | succ c=>rw[ih (c:=c) (by omega) fun r hr=>h _ (AZ hr),Int.mul_zero]
theorem Fp {n r:Nat} {A:Mt} (hr:r<n) (h:∀c,c<n→A r c=0):cu n A=0:=by
 have:=uu (n:=n) (r:=r) (A:=A) 0 (A r) hr;rw[Int.zero_mul] at this;rw[←this];refine bD fun i c _ hc=>?_;simp only[upd,Int.zero_mul]
 split
 ·rename_i e; rw[e,h c hc]
 ·rfl
theorem yu:∀{n:Nat} {A:Mt},(∀c,c<n→A n c=0)→cu (n+1) A=cu n A*A n n:=by
 intro n
 induction n with
 | zero=>intro A _; simp[cu,sm,sg]
 | succ n ih =>
  intro A h;have e:cu (n+2) A=sm (n+2) fun i=>sg i*A i 0*cu (n+1) (pM A i):=rfl;have e2:cu (n+1) A=sm (n+1) fun i=>sg i*A i 0*cu n (pM A i):=rfl;rw[e,e2];simp only[sm];rw[h 0 (by omega),Int.mul_zero,Int.zero_mul,Int.add_zero]
  have hs:sm (n+1) (fun i=>sg i*A i 0*cu (n+1) (pM A i))=A (n+1) (n+1)*sm (n+1) (fun i=>sg i*A i 0*cu n (pM A i)):=by
   have:=vS (A (n+1) (n+1)) 0 (n+1) (fun i=>sg i*A i 0*cu n (pM A i)) (fun _=>0);simp only[Int.mul_zero,Int.zero_mul,Int.add_zero] at this;rw[←this];refine gW fun i hi=>?_;have hm:∀c,pM A i n c=A (n+1) (c+1):=fun c=>by
    simp only[pM,HW];rw[if_neg (by omega)]
   rw[ih (A:=pM A i) fun c hc=>by rw[hm]; exact h (c+1) (by omega),hm]
   generalize sg i*A i 0=s;generalize cu n (pM A i)=d;generalize A (n+1) (n+1)=z;rw[Int.mul_comm z,Int.mul_assoc]
  simp only[sm] at hs;rw[hs,Int.mul_comm]
theorem zL:∀{n:Nat} {A:Mt},(∀r c,r<n→c<n→A r c=if r=c then 1 else 0)→cu n A=1
 | 0,_,_=>rfl
 | n+1,A,h=>by
  rw[yu fun c hc=>by rw[h n c (by omega) (by omega),if_neg (by omega)],zL fun r c hr hc=>h r c (by omega) (by omega),h n n (by omega) (by omega),if_pos rfl]; rfl
def dl (ρ:Nat→Nat) (e:Nat × Nat) (i:Nat):Int:=(if i=ρ e.1 then 1 else 0)-(if i=ρ e.2 then 1 else 0)
def ji (ρ:Nat→Nat):List (Nat × Nat)→Mt
 | [],_,_=>0
 | e::E,i,j=>dl ρ e i*dl ρ e j+ji ρ E i j
def vq (ρ:Nat→Nat):Mt:=fun i j=>if ρ i=i then 0 else if i=j then 1 else 0
def kM (ρ:Nat→Nat) (E:List (Nat × Nat)):Mt:=fun i j=>vq ρ i j+ji ρ E i j
def mg (ρ:Nat→Nat) (u v:Nat):Nat→Nat:=fun i=>if ρ i=u then v else ρ i
def rj (s:Nat):(Nat→Nat)→List (Nat × Nat)→Nat
 | ρ,[]=>if (List.range s).all (fun i=>ρ i != i) then 1 else 0
 | ρ,(a,b)::E=>rj s ρ E+if ρ a=ρ b then 0 else rj s (if ρ a=s then mg ρ (ρ b) (ρ a) else mg ρ (ρ a) (ρ b)) E
def wv (u v:Nat):Nat→Int:=fun c=>(if c=u then 1 else 0)-(if c=v then 1 else 0)
section
variable {s : Nat} {ρ : Nat → Nat} {E : List (Nat × Nat)} {u v : Nat}
theorem Ds (hi:∀i,ρ (ρ i)=ρ i) (hv:ρ v=v) (huv:u≠v) (i:Nat):mg ρ u v (mg ρ u v i)=mg ρ u v i:=by
 unfold mg
 by_cases h:ρ i=u
 ·rw[if_pos h,hv,if_neg (fun e=>huv e.symm)]
 ·rw[if_neg h,hi,if_neg h]
theorem zP (hr:∃i,i<s∧ρ i=i):cu s (kM ρ [])=0:=by
 obtain⟨i,h1,h2⟩:=hr;refine Fp h1 fun c _=>?_;simp only[kM,ji,vq];rw[if_pos h2]; rfl
theorem zG (hr:∀i,i<s→ρ i≠i):cu s (kM ρ [])=1:=by
 refine zL fun r c h1 _=>?_;simp only[kM,ji,vq];rw[if_neg (hr r h1),Int.add_zero]
theorem PQ (i:Nat) (hiu:i≠u) (hiv:ρ v=v) (huv:u≠v) (a:Nat):(if i=mg ρ u v a then(1:Int) else 0)=(if i=ρ a then 1 else 0)+(if i=v then(if u=ρ a then 1 else 0) else 0):=by
 unfold mg
 by_cases h:ρ a=u
 ·rw[if_pos h,h,if_neg hiu,if_pos rfl,Int.zero_add]
 ·rw[if_neg h];have:¬u=ρ a:=fun e=>h e.symm;rw[if_neg this]
  split<;>split<;>rfl
theorem QT (huv:u≠v) (a:Nat):(if u=mg ρ u v a then(1:Int) else 0)=0:=by
 unfold mg
 by_cases h:ρ a=u
 ·rw[if_pos h,if_neg huv]
 ·rw[if_neg h,if_neg (fun e=>h e.symm)]
theorem Mu (hiv:ρ v=v) (huv:u≠v) {i:Nat} (hiu:i≠u) (e:Nat × Nat):dl (mg ρ u v) e i=dl ρ e i+(if i=v then dl ρ e u else 0):=by
 unfold dl;rw[PQ i hiu hiv huv,PQ i hiu hiv huv]
 split<;>omega
theorem DI (huv:u≠v) (e:Nat × Nat):dl (mg ρ u v) e u=0:=by
 unfold dl;rw[QT huv,QT huv]; rfl
theorem IK (huv:u≠v) (i:Nat):∀E,ji (mg ρ u v) E i u=0
 | []=>rfl
 | e::E=>by
  simp only[ji];rw[DI huv,Int.mul_zero,IK huv i E]; rfl
theorem Gd (huv:u≠v) (i:Nat):∀E,ji (mg ρ u v) E u i=0
 | []=>rfl
 | e::E=>by
  simp only[ji];rw[DI huv,Int.zero_mul,Gd huv i E]; rfl
theorem Fo (hiv:ρ v=v) (huv:u≠v) {i c:Nat} (hiu:i≠u) (hcu:c≠u):∀E,ji (mg ρ u v) E i c=ji ρ E i c+(if i=v then ji ρ E u c else 0)+(if c=v then ji ρ E i u+(if i=v then ji ρ E u u else 0) else 0)
 | []=>by simp only[ji]; split<;>split<;>rfl
 | e::E=>by
  simp only[ji];rw[Fo hiv huv hiu hcu E,Mu hiv huv hiu,Mu hiv huv hcu];generalize dl ρ e i=p;generalize dl ρ e c=q;generalize dl ρ e u=r
  by_cases h1:i=v<;>by_cases h2:c=v
  ·simp only[if_pos h1,if_pos h2];rw[Int.mul_add,Int.add_mul,Int.add_mul]; omega
  ·simp only[if_pos h1,if_neg h2,Int.add_zero];rw[Int.add_mul]; omega
  ·simp only[if_neg h1,if_pos h2,Int.add_zero];rw[Int.mul_add]; omega
  ·simp only[if_neg h1,if_neg h2,Int.add_zero]
theorem AP (hi:∀i,ρ (ρ i)=ρ i) (hiv:ρ v=v) (huv:u≠v) {i c:Nat} (hiu:i≠u):vq (mg ρ u v) i c=vq ρ i c:=by
 unfold vq mg
 by_cases h:ρ i=i
 ·rw[if_pos h,h,if_neg hiu,if_pos rfl]
 ·rw[if_neg h]
  by_cases h2:ρ i=u
  ·rw[if_pos h2];have:¬v=i:=fun e=>h (by rw[←e]; exact hiv)
   rw[if_neg this]
  ·rw[if_neg h2,if_neg h]
theorem Ht (hi:∀i,ρ (ρ i)=ρ i) (hus:u<s) (hu:ρ u=u) (hv:ρ v=v) (huv:u≠v) (hvs:v≤s) :
  cu s (fun i j=>kM ρ E i j+wv u v i*wv u v j)=cu s (kM ρ E)+cu s (kM (mg ρ u v) E):=by
 have hwu:wv u v u=1:=by simp only[wv]; rw[if_pos trivial,if_neg huv]; rfl
 have hwi:∀i,i≠u→i≠v→wv u v i=0:=fun i h1 h2=>by simp only[wv]; rw[if_neg h1,if_neg h2]; rfl
 have hwv:wv u v v = -1:=by simp only[wv]; rw[if_neg (fun e=>huv e.symm),if_pos trivial]; rfl
 let R:Mt:=fun i c=>if i=v then kM ρ E v c+1*kM ρ E u c else kM ρ E i c
 have hRu:∀c,R u c=kM ρ E u c:=fun c=>if_neg huv;have hR:cu s R=cu s (kM ρ E):=by
  by_cases h:v<s
  ·have:=wN (n:=s) (A:=kM ρ E) (r:=v) (k:=u) 1 h hus (fun e=>huv e.symm);rw[←this];refine bD fun r c _ _=>?_
   show(if r=v then _ else _)=upd (kM ρ E) v _ r c
   rfl
  ·refine bD fun r c hr _=>?_;exact if_neg (by omega)
 have hB:cu s (fun i j=>kM ρ E i j+wv u v i*wv u v j)=cu s (upd R u fun c=>1*kM ρ E u c+1*wv u v c):=by
  by_cases h:v<s
  ·have:=wN (n:=s) (A:=fun i j=>kM ρ E i j+wv u v i*wv u v j) (r:=v) (k:=u) 1 h hus (fun e=>huv e.symm);rw[←this];refine bD fun r c _ _=>?_;simp only[upd,R]
   by_cases h1:r=v
   ·rw[if_pos h1,if_neg (by omega),if_pos h1,hwu,hwv]; omega
   ·rw[if_neg h1]
    by_cases h2:r=u
    ·subst h2; rw[if_pos rfl,hwu]; omega
    ·rw[if_neg h2,if_neg h1,hwi r h2 h1,Int.zero_mul,Int.add_zero]
  ·refine bD fun r c hr _=>?_;simp only[upd,R]
   by_cases h2:r=u
   ·subst h2; rw[if_pos rfl,hwu]; omega
   ·rw[if_neg h2,if_neg (by omega),hwi r h2 (by omega),Int.zero_mul,Int.add_zero]
 have hL:cu s (upd R u (kM ρ E u))=cu s (kM ρ E):=by
  rw[←hR];refine bD fun r c _ _=>?_;simp only[upd]
  split
  ·rename_i h; rw[h]; exact(hRu c).symm
  ·rfl
 rw[hB,kj 1 1 _ _ hus,Int.one_mul,Int.one_mul,hL]
 congr 1
 have h1:=EM (n:=s) (u:=u) (A:=upd R u (wv u v)) hus fun i=>- R i u;rw[←h1];have hC:cu s (fun i c=>if i=u then upd R u (wv u v) u c else upd R u (wv u v) i c + - R i u*upd R u (wv u v) u c)=cu s (upd (kM (mg ρ u v) E) u fun c=>1*(if c=u then 1 else 0)+(-1)*(if c=v then 1 else 0)):=by
  refine bD fun r c hr hc=>?_;simp only[upd]
  by_cases h2:r=u
  ·rw[if_pos h2,if_pos trivial,if_pos h2];simp only[wv]; omega
  ·rw[if_neg h2,if_neg h2,if_pos trivial,if_neg h2]
   by_cases h3:c=u
   ·subst h3;rw[hwu];have:kM (mg ρ c v) E r c=0:=by
     simp only[kM];rw[IK huv,AP hi hv huv h2];unfold vq;rw[if_neg h2]; split<;>rfl
    rw[this]; omega
   ·have e1:wv u v c = - (if c=v then 1 else 0):=by simp only[wv]; rw[if_neg h3]; omega
    rw[e1];simp only[kM];rw[Fo hv huv h2 h3,AP hi hv huv h2];have d1:vq ρ u c=0:=by unfold vq; rw[if_pos hu]
    have d2:vq ρ r u=0:=by unfold vq; rw[if_neg h2]; split<;>rfl
    have d3:vq ρ u u=0:=by unfold vq; rw[if_pos hu]
    have d4:vq ρ v u=0:=by unfold vq; rw[if_pos hv]
    simp only[R,kM]
    by_cases h4:r=v<;>by_cases h5:c=v
    ·simp only[if_pos h4,if_pos h5];rw[d1,d3,d4,h4]; omega
    ·simp only[if_pos h4,if_neg h5];rw[d1,d3,d4,h4]; omega
    ·simp only[if_neg h4,if_pos h5];rw[d2]; omega
    ·simp only[if_neg h4,if_neg h5];omega
 rw[hC,kj 1 (-1) _ _ hus,Ha (c:=u) (A:=upd (kM (mg ρ u v) E) u fun c=>if c=v then 1 else 0) hus fun r hr=>?_,Int.one_mul,Int.mul_zero,Int.add_zero]
 ·refine bD fun r c hr _=>?_;simp only[upd]
  split
  ·rename_i h;subst h;have:mg ρ r v r=v:=by unfold mg; rw[if_pos hu]
   have hd:vq (mg ρ r v) r c=if r=c then 1 else 0:=by unfold vq; rw[this,if_neg (fun e=>huv e.symm)]
   simp only[kM];rw[Gd huv,hd,Int.add_zero]
   by_cases h2:c=r
   ·rw[if_pos h2,if_pos h2.symm]
   ·rw[if_neg h2,if_neg (fun e=>h2 e.symm)]
  ·rfl
 ·simp only[upd]
  by_cases h2:r=u
  ·rw[if_pos h2,if_neg huv]
  ·rw[if_neg h2];simp only[kM];rw[IK huv,AP hi hv huv h2];unfold vq;rw[if_neg h2]; split<;>rfl
theorem qK:∀(E:List (Nat × Nat)) (ρ:Nat→Nat),(∀i,ρ (ρ i)=ρ i)→ρ s=s→(∀e ∈ E,ρ e.1≤s∧ρ e.2≤s)→cu s (kM ρ E)=(rj s ρ E:Int)
 | [],ρ,_,_,_=>by
  unfold rj
  by_cases h:∃i,i<s∧ρ i=i
  ·rw[zP h,if_neg]
   ·rfl
   ·rw[List.all_eq_true];intro g;obtain⟨i,h1,h2⟩:=h;have:=g i (List.mem_range.2 h1);simp[h2] at this
  ·rw[zG fun i h1 h2=>h ⟨i,h1,h2⟩,if_pos]
   ·rfl
   ·rw[List.all_eq_true];intro i hi;simp only[bne_iff_ne,ne_eq];exact fun e=>h ⟨i,List.mem_range.1 hi,e⟩
 | (a,b)::E,ρ,hi,hs,hE=>by
  have hab:=hE (a,b) (by simp)
  have hE':∀e ∈ E,ρ e.1≤s∧ρ e.2≤s:=fun e he=>hE e (by simp[he])
  have ih:=qK E ρ hi hs hE';unfold rj
  by_cases h:ρ a=ρ b
  ·rw[if_pos h,Nat.add_zero,←ih];refine bD fun i j _ _=>?_;simp only[kM,ji,dl];rw[h,Int.sub_self,Int.zero_mul,Int.zero_add]
  ·rw[if_neg h];have go:∀u v,u≤s→v≤s→u≠s→u≠v→ρ u=u→ρ v=v→(∀i j,dl ρ (a,b) i*dl ρ (a,b) j=wv u v i*wv u v j)→cu s (kM ρ ((a,b)::E))=((rj s ρ E+rj s (mg ρ u v) E:Nat):Int):=fun u v h1 h2 h3 h4 h5 h6 h7=>by
    have e1:cu s (kM ρ ((a,b)::E))=cu s (fun i j=>kM ρ E i j+wv u v i*wv u v j):=bD fun i j _ _=>by
     simp only[kM,ji];rw[h7]; omega
    have hus:u<s:=by omega
    have ih2:=qK E (mg ρ u v) (Ds hi h6 h4) (by unfold mg; rw[hs,if_neg (fun e=>h3 e.symm)]) fun e he=>by
     have:=hE' e he;unfold mg;refine⟨?_,?_⟩
     ·split
      ·exact h2
      ·exact this.1
     ·split
      ·exact h2
      ·exact this.2
    rw[e1,Ht hi hus h5 h6 h4 h2,ih,ih2];omega
   by_cases h8:ρ a=s
   ·rw[if_pos h8];refine go (ρ b) (ρ a) hab.2 hab.1 (fun e=>h (by rw[h8,e])) (fun e=>h e.symm) (hi b) (hi a) fun i j=>?_
    simp only[dl,wv];generalize (if i=ρ a then(1:Int) else 0)=p
    generalize (if i=ρ b then(1:Int) else 0)=q
    generalize (if j=ρ a then(1:Int) else 0)=p'
    generalize (if j=ρ b then(1:Int) else 0)=q'
    rw[show p-q = -(q-p) by omega,show p'-q' = -(q'-p') by omega,Int.neg_mul_neg]
   ·rw[if_neg h8];exact go (ρ a) (ρ b) hab.1 hab.2 h8 h (hi a) (hi b) fun i j=>rfl
end
def kD (A:Mt) (k r c:Nat):Mt:=fun i j=>A (if i<k then i else r) (if j<k then j else c)
theorem I0 (A:Mt) (k:Nat):cu (k+1) (kD A k k k)=cu (k+1) A:=bD fun i j hi hj=>by
 simp only[kD];have h1:(if i<k then i else k)=i:=by split<;>omega
 have h2:(if j<k then j else k)=j:=by split<;>omega
 rw[h1,h2]
def Q9 (A:Mt) (s k r:Nat) (m:Int) (Y:Nat→Int):Prop:=∃(Q:Int) (γ:Nat→Int),Q≠0∧∀c,c<s→Q*(if c<k then 0 else Y c)=(Q*m)*A r c+sm k fun i=>γ i*A i c
theorem Q9.minor {A:Mt} {s k r c:Nat} {m:Int} {Y:Nat→Int} (h:Q9 A s k r m Y) (hk:k≤c) (hc:c<s):m*cu (k+1) (kD A k r c)=cu k A*Y c:=by
 obtain⟨Q,γ,hQ,h⟩:=h;have h1:=Gr (n:=k+1) (r:=k) (A:=kD A k r c) (by omega) (Q*m) γ (kD A k r c k) k (by omega) (fun i hi=>by omega)
 rw[nS] at h1;have hrow:∀j,j<k+1→(Q*m)*kD A k r c k j+sm k (fun i=>γ i*kD A k r c i j)=Q*(if j<k then 0 else Y c):=fun j hj=>by
  have e:sm k (fun i=>γ i*kD A k r c i j)=sm k fun i=>γ i*A i (if j<k then j else c):=gW fun i hi=>by
   simp only[kD]; rw[if_pos hi]
  rw[e];have:=h (if j<k then j else c) (by split<;>omega)
  simp only[kD];rw[if_neg (show ¬k<k by omega),←this]
  by_cases hj2:j<k
  ·simp only[if_pos hj2]
  ·simp only[if_neg hj2];rw[if_neg (by omega)]
 rw[yu (n:=k) (fun j hj=>by
  simp only[upd];rw[if_pos trivial,hrow j (by omega),if_pos hj,Int.mul_zero])] at h1
 have h2:cu k (upd (kD A k r c) k fun j=>(Q*m)*kD A k r c k j+sm k fun i=>γ i*kD A k r c i j)=cu k A:=bD fun i j hi hj=>by
  simp only[upd,kD];rw[if_neg (by omega),if_pos hi,if_pos hj]
 have h3:(upd (kD A k r c) k fun j=>(Q*m)*kD A k r c k j+sm k fun i=>γ i*kD A k r c i j) k k=Q*Y c:=by
  simp only[upd];rw[if_pos trivial,hrow k (by omega),if_neg (by omega)]
 rw[h2,h3,Int.mul_assoc] at h1;have:Q*(cu k A*Y c)=Q*(m*cu (k+1) (kD A k r c)):=by rw[←h1,Int.mul_left_comm]
 exact(Int.eq_of_mul_eq_mul_left hQ this).symm
def D2 (M:Mt) (k:Nat) (p:Int):Mt:=fun r c=>if k<r∧k≤c then(M r c*M k k-M r k*M k c)/p else M r c
structure Bar (A:Mt) (s k:Nat) (M:Mt) (p:Int):Prop where
 p0:p≠0
 pe:p=cu k A
 row:∀r,k≤r→r<s→Q9 A s k r p (M r)
theorem Bar.start (A:Mt) (s:Nat):Bar A s 0 A 1:=⟨by decide,rfl,fun r _ _=>⟨1,fun _=>0,by decide,fun c _=>by simp[sm]⟩⟩
theorem Bar.minor {A:Mt} {s k:Nat} {M:Mt} {p:Int} (h:Bar A s k M p) {r c:Nat} (hr:k≤r) (hrs:r<s) (hc:k≤c) (hcs:c<s):M r c=cu (k+1) (kD A k r c):=by
 have h1:=(h.row r hr hrs).minor hc hcs;rw[←h.pe] at h1;exact(Int.eq_of_mul_eq_mul_left h.p0 h1).symm
theorem Bar.Gj {A:Mt} {s k:Nat} {M:Mt} {p:Int} (h:Bar A s k M p) (hk:k<s):M k k=cu (k+1) A:=by
 rw[h.minor (Nat.le_refl k) hk (Nat.le_refl k) hk,I0]
theorem Bar.R8 {A:Mt} {s k:Nat} {M:Mt} {p:Int} (h:Bar A s k M p) (hk:k<s) {r:Nat} (hr:k<r) (hrs:r<s):Q9 A s (k+1) r (p*M k k) fun c=>M r c*M k k-M r k*M k c:=by
 obtain⟨Q1,γ1,hQ1,h1⟩:=h.row r (by omega) hrs
 obtain⟨Q2,γ2,hQ2,h2⟩:=h.row k (Nat.le_refl k) hk;refine⟨Q1*Q2,fun i=>if i<k then(M k k*Q2)*γ1 i+(-(M r k*Q1))*γ2 i else -(M r k*Q1*Q2*p),fun e=>by rcases Int.mul_eq_zero.1 e with e|e; exact hQ1 e; exact hQ2 e,fun c hc=>?_⟩
 have g1:=h1 c hc;have g2:=h2 c hc;have e1:sm (k+1) (fun i=>(if i<k then(M k k*Q2)*γ1 i+(-(M r k*Q1))*γ2 i else -(M r k*Q1*Q2*p))*A i c)=(M k k*Q2)*sm k (fun i=>γ1 i*A i c)+(-(M r k*Q1))*sm k (fun i=>γ2 i*A i c) + -(M r k*Q1*Q2*p)*A k c:=by
  simp only[sm];rw[if_neg (by omega),←vS]
  congr 1
  refine gW fun i hi=>?_;rw[if_pos hi,Int.add_mul,Int.mul_assoc,Int.mul_assoc (-(M r k*Q1))]
 rw[e1];have e2:(if c<k+1 then(0:Int) else M r c*M k k-M r k*M k c)=M k k*(if c<k then 0 else M r c)-M r k*(if c<k then 0 else M k c):=by
  by_cases h3:c<k
  ·rw[if_pos (by omega),if_pos h3,if_pos h3]; simp
  ·rw[if_neg h3,if_neg h3]
   by_cases h4:c=k
   ·subst h4;rw[if_pos (by omega),Int.mul_comm]; omega
   ·rw[if_neg (by omega),Int.mul_comm (M r c)]
 rw[e2];generalize (if c<k then(0:Int) else M r c)=x at g1
 generalize (if c<k then(0:Int) else M k c)=y at g2
 generalize sm k (fun i=>γ1 i*A i c)=S1 at g1;generalize sm k (fun i=>γ2 i*A i c)=S2 at g2;have k1:S1=Q1*x-Q1*p*A r c:=by omega
 have k2:S2=Q2*y-Q2*p*A k c:=by omega
 rw[k1,k2];generalize A r c=a;generalize A k c=b;generalize M k k=q;generalize M r k=t;clear g1 g2 k1 k2 e1 e2 h1 h2
 grind
theorem Bar.exact {A:Mt} {s k:Nat} {M:Mt} {p:Int} (h:Bar A s k M p) (hk:k<s) (hp:M k k≠0) {r c:Nat} (hr:k<r) (hrs:r<s) (hc:k≤c) (hcs:c<s):M r c*M k k-M r k*M k c=p*D2 M k p r c:=by
 simp only[D2];rw[if_pos ⟨hr,hc⟩];have hd:p∣M r c*M k k-M r k*M k c:=by
  by_cases e:c=k
  ·subst e;rw[Int.mul_comm];exact⟨0,by omega⟩
  ·have h1:=(h.R8 hk hr hrs).minor (c:=c) (by omega) hcs
   rw[←h.Gj hk] at h1;refine⟨cu (k+1+1) (kD A (k+1) r c),?_⟩;have:M k k*(M r c*M k k-M r k*M k c)=M k k*(p*cu (k+1+1) (kD A (k+1) r c)):=by
    rw[←h1];generalize cu (k+1+1) (kD A (k+1) r c)=d;rw[Int.mul_comm p,Int.mul_assoc]
   exact Int.eq_of_mul_eq_mul_left hp this
 exact(Int.mul_ediv_cancel' hd).symm
theorem Bar.step {A:Mt} {s k:Nat} {M:Mt} {p:Int} (h:Bar A s k M p) (hk:k<s) (hp:M k k≠0):Bar A s (k+1) (D2 M k p) (M k k):=by
 refine⟨hp,h.Gj hk,fun r hr hrs=>?_⟩;obtain⟨Q,γ,hQ,h1⟩:=h.R8 hk (show k<r by omega) hrs
 refine⟨Q*p,γ,fun e=>by rcases Int.mul_eq_zero.1 e with e|e; exact hQ e; exact h.p0 e,fun c hc=>?_⟩
 have h2:=h1 c hc;rw[Int.mul_assoc Q p (M k k),←h2,Int.mul_assoc Q p]
 by_cases h3:c<k+1
 ·rw[if_pos h3,if_pos h3,Int.mul_zero,Int.mul_zero]
 ·rw[if_neg h3,if_neg h3,←h.exact hk hp (show k<r by omega) hrs (by omega) hc]
def Me:Nat→Nat→Mt→Int→Int
 | 0,_,_,p=>p
 | j+1,k,M,p=>if M k k=0 then 0 else Me j (k+1) (D2 M k p) (M k k)
theorem CB {A:Mt} {s:Nat} (hA:∀k,k<s→cu (k+1) A=0→cu s A=0):∀(j k:Nat) (M:Mt) (p:Int),j+k=s→Bar A s k M p→Me j k M p=cu s A
 | 0,k,M,p,hj,h=>by
  have:k=s:=by omega
  subst this;exact h.pe
 | j+1,k,M,p,hj,h=>by
  simp only[Me];have hk:k<s:=by omega
  by_cases h0:M k k=0
  ·rw[if_pos h0];have:=h.Gj hk;rw[h0] at this;exact(hA k hk this.symm).symm
  ·rw[if_neg h0];exact CB hA j (k+1) _ _ (by omega) (h.step hk h0)
def I2 (s:Nat) (ρ:Nat→Nat) (E:List (Nat × Nat)):Prop :=
 ∀f:Nat→Bool,(∀i,f i=f (ρ i))→(∀e ∈ E,f e.1=f e.2)→∀i,i≤s→f i=f s
structure Rho (s:Nat) (ρ:Nat→Nat):Prop where
 idem:∀i,ρ (ρ i)=ρ i
 top:ρ s=s
 le:∀i,i≤s→ρ i≤s
theorem Rho.id (s:Nat):Rho s fun i=>i:=⟨fun _=>rfl,rfl,fun _ h=>h⟩
theorem Rho.step {s:Nat} {ρ:Nat→Nat} (h:Rho s ρ) {a b:Nat} (ha:a≤s) (hb:b≤s) (hab:ρ a≠ρ b):Rho s (if ρ a=s then mg ρ (ρ b) (ρ a) else mg ρ (ρ a) (ρ b)):=by
 have key:∀u v,ρ u=u→ρ v=v→u≠v→u≠s→v≤s→Rho s (mg ρ u v):=fun u v hu hv huv hus hvs=>by
  refine⟨Ds h.idem hv huv,?_,fun i hi=>?_⟩
  ·unfold T30.mg; rw[h.top,if_neg (fun e=>hus e.symm)]
  ·unfold T30.mg
   split
   ·exact hvs
   ·exact h.le i hi
 by_cases hs:ρ a=s
 ·rw[if_pos hs];exact key _ _ (h.idem b) (h.idem a) (fun e=>hab e.symm) (fun e=>hab (by rw[hs,e])) (h.le a ha)
 ·rw[if_neg hs];exact key _ _ (h.idem a) (h.idem b) hab hs (h.le b hb)
theorem zQ {ρ:Nat→Nat} {u v:Nat} (hu:ρ u=u) (hv:ρ v=v) (f:Nat→Bool):(∀i,f i=f (mg ρ u v i))↔(∀i,f i=f (ρ i))∧f u=f v:=by
 constructor
 ·intro h;have huv:f u=f v:=by have:=h u; unfold mg at this; rwa[if_pos hu] at this
  refine⟨fun i=>?_,huv⟩;have:=h i;unfold mg at this
  by_cases hi:ρ i=u
  ·rw[if_pos hi] at this; rw[this,hi,huv]
  ·rwa[if_neg hi] at this
 ·rintro⟨h,huv⟩ i;unfold mg
  by_cases hi:ρ i=u
  ·rw[if_pos hi,h i,hi,huv]
  ·rw[if_neg hi]; exact h i
theorem qO (s:Nat):∀(E:List (Nat × Nat)) (ρ:Nat→Nat),Rho s ρ→(∀e ∈ E,e.1≤s∧e.2≤s)→(0<rj s ρ E↔I2 s ρ E)
 | [],ρ,h,_=>by
  simp only[rj];constructor
  ·intro h0;have hall:∀i,i<s→ρ i≠i:=fun i hi=>by
    by_cases hc:(List.range s).all (fun i=>ρ i != i)=true
    ·simpa using List.all_eq_true.1 hc i (List.mem_range.2 hi)
    ·rw[if_neg hc] at h0; omega
   intro f hf _ i hi;have h1:=h.le i hi;have h2:ρ i=s:=by
    by_cases h3:ρ i<s
    ·exact absurd (h.idem i) (hall _ h3)
    ·omega
   rw[hf i,h2]
  ·intro hu;have:(List.range s).all (fun i=>ρ i != i)=true:=by
    refine List.all_eq_true.2 fun i hi=>?_;have hi:=List.mem_range.1 hi
    by_cases hr:ρ i=i
    ·have h1:=hu (fun j=>ρ j == i) (fun j=>by simp[h.idem]) (fun e he=>nomatch he) i (Nat.le_of_lt hi)
     simp only[hr,h.top,beq_self_eq_true] at h1;have:s=i:=by simpa using h1.symm
     omega
    ·simpa using hr
   rw[if_pos this]; exact Nat.one_pos
 | (a,b)::E,ρ,h,hE=>by
  have ha:a≤s:=(hE (a,b) List.mem_cons_self).1;have hb:b≤s:=(hE (a,b) List.mem_cons_self).2;have hE':∀e ∈ E,e.1≤s∧e.2≤s:=fun e he=>hE e (List.mem_cons_of_mem _ he);have ih:=qO s E ρ h hE';simp only[rj]
  by_cases hab:ρ a=ρ b
  ·rw[if_pos hab,Nat.add_zero,ih];refine⟨fun hu f hf he i hi=>hu f hf (fun e h1=>he e (List.mem_cons_of_mem _ h1)) i hi,fun hu f hf he i hi=>hu f hf (fun e h1=>?_) i hi⟩;rcases List.mem_cons.1 h1 with rfl|h1
   ·show f a=f b
    rw[hf a,hf b,hab]
   ·exact he e h1
  ·rw[if_neg hab];have hR:=h.step ha hb hab;have ih2:=qO s E _ hR hE';have conn:∀f:Nat→Bool,(∀i,f i=f ((if ρ a=s then mg ρ (ρ b) (ρ a) else mg ρ (ρ a) (ρ b)) i))↔(∀i,f i=f (ρ i))∧f a=f b:=fun f=>by
    by_cases hs:ρ a=s
    ·simp only[if_pos hs];rw[zQ (h.idem b) (h.idem a)];refine⟨fun g=>⟨g.1,by rw[g.1 a,g.1 b,g.2]⟩,fun g=>⟨g.1,by rw[←g.1 a,←g.1 b,g.2]⟩⟩
    ·simp only[if_neg hs];rw[zQ (h.idem a) (h.idem b)];refine⟨fun g=>⟨g.1,by rw[g.1 a,g.1 b,g.2]⟩,fun g=>⟨g.1,by rw[←g.1 a,←g.1 b,g.2]⟩⟩
   have e2:I2 s (if ρ a=s then mg ρ (ρ b) (ρ a) else mg ρ (ρ a) (ρ b)) E↔I2 s ρ ((a,b)::E):=by
    refine⟨fun hu f hf he i hi=>hu f ((conn f).2 ⟨hf,he (a,b) List.mem_cons_self⟩) (fun e h1=>he e (List.mem_cons_of_mem _ h1)) i hi,fun hu f hf he i hi=>?_⟩;obtain⟨g1,g2⟩:=(conn f).1 hf;refine hu f g1 (fun e h1=>?_) i hi;rcases List.mem_cons.1 h1 with rfl|h1
    ·exact g2
    ·exact he e h1
   rw[←e2,←ih2];constructor
   ·intro h0
    by_cases h1:0<rj s ρ E
    ·refine ih2.2 (e2.2 fun f hf he i hi=>ih.1 h1 f hf (fun e h2=>he e (List.mem_cons_of_mem _ h2)) i hi)
    ·omega
   ·intro h0; omega
theorem AL (s:Nat):∀(E:List (Nat × Nat)) (ρ:Nat→Nat),rj s ρ E≤2 ^ E.length
 | [],ρ=>by simp only[rj,List.length_nil]; split<;>simp
 | (a,b)::E,ρ=>by
  simp only[rj,List.length_cons,Nat.pow_succ];have h1:=AL s E ρ
  split
  ·omega
  ·have h2:=AL s E (if ρ a=s then mg ρ (ρ b) (ρ a) else mg ρ (ρ a) (ρ b))
   omega
def yc (k i:Nat):Nat:=if i<k then i else k
def jz (φ:Nat→Nat) (E:List (Nat × Nat)):List (Nat × Nat):=E.map fun e=>(φ e.1,φ e.2)
theorem vZ (φ:Nat→Nat) (i j:Nat):∀E,ji φ E i j=kM (fun i=>i) (jz φ E) i j
 | []=>by simp[ji,kM,vq,jz]
 | e::E=>by
  have:=vZ φ i j E;simp only[kM,vq,jz,List.map_cons,ji,dl,if_true] at this ⊢;omega
theorem Dm (φ:Nat→Nat) {k i j:Nat} (hi:i<k) (hj:j<k):∀E,ji φ E i j=ji (fun v=>yc k (φ v)) E i j
 | []=>rfl
 | e::E=>by
  have key:∀i,i<k→dl φ e i=dl (fun v=>yc k (φ v)) e i:=fun i hi=>by
   have h1:∀v,(i=yc k (φ v))=(i=φ v):=fun v=>propext (by unfold yc; split<;>omega)
   unfold dl;simp only[h1]
  simp only[ji];rw[Dm φ hi hj E,key i hi,key j hj]
theorem xK (k i:Nat):yc k i≤k:=by unfold yc; split<;>omega
theorem ta (φ:Nat→Nat) (E:List (Nat × Nat)) (k:Nat):cu k (ji φ E)=(rj k (fun i=>i) (jz (fun v=>yc k (φ v)) E):Int):=by
 rw[←qK (jz (fun v=>yc k (φ v)) E) (fun i=>i) (fun _=>rfl) rfl fun e he=>?_]
 ·refine bD fun r c hr hc=>?_;rw[Dm φ hr hc,vZ]
 ·unfold jz at he;obtain⟨e',_,rfl⟩:=List.mem_map.1 he;exact⟨xK _ _,xK _ _⟩
theorem Eg (φ:Nat→Nat) (E:List (Nat × Nat)) (k:Nat):(cu k (ji φ E)).natAbs≤2 ^ E.length:=by
 rw[ta];have:=AL k (jz (fun v=>yc k (φ v)) E) fun i=>i;unfold jz at this;rw[List.length_map] at this;exact this
theorem CE (φ:Nat→Nat) (E:List (Nat × Nat)) (s:Nat) (h:∀e ∈ E,φ e.1≤s∧φ e.2≤s):cu s (ji φ E)=(rj s (fun i=>i) (jz φ E):Int):=by
 rw[←qK (jz φ E) (fun i=>i) (fun _=>rfl) rfl fun e he=>?_]
 ·exact bD fun r c _ _=>vZ _ _ _ _
 ·unfold jz at he;obtain⟨e',h1,rfl⟩:=List.mem_map.1 he;exact h e' h1
theorem Aq (φ:Nat→Nat) (E:List (Nat × Nat)) (s:Nat) (h:∀e ∈ E,φ e.1≤s∧φ e.2≤s) {k:Nat} (hk:k<s) (h0:cu (k+1) (ji φ E)=0):cu s (ji φ E)=0:=by
 rw[CE φ E s h];rw[ta] at h0;refine Int.natCast_eq_zero.2 (Nat.eq_zero_of_not_pos fun hp=>?_);have hs:∀e ∈ jz φ E,e.1≤s∧e.2≤s:=fun e he=>by
  obtain⟨e',h1,rfl⟩:=List.mem_map.1 he;exact h e' h1
 have hk':∀e ∈ jz (fun v=>yc (k+1) (φ v)) E,e.1≤k+1∧e.2≤k+1:=fun e he=>by
  obtain⟨e',_,rfl⟩:=List.mem_map.1 he;exact⟨xK _ _,xK _ _⟩
 have hu:=(qO s _ _ (Rho.id s) hs).1 hp;have hz:0<rj (k+1) (fun i=>i) (jz (fun v=>yc (k+1) (φ v)) E):=by
  refine(qO (k+1) _ _ (Rho.id _) hk').2 fun f hf he i hi=>?_;have h1:=fun j hj=>hu (fun j=>f (yc (k+1) j)) (fun _=>rfl) (fun e h2=>?_) j hj
  ·have c1:yc (k+1) s=k+1:=by unfold yc; rw[if_neg (by omega)]
   have h2:=h1 i (by omega)
   rw[c1] at h2
   by_cases hik:i=k+1
   ·rw[hik]
   ·have c2:yc (k+1) i=i:=by unfold yc; rw[if_pos (by omega)]
    rwa[c2] at h2
  ·obtain⟨e',h3,rfl⟩:=List.mem_map.1 h2;exact he (yc (k+1) (φ e'.1),yc (k+1) (φ e'.2)) (List.mem_map.2 ⟨e',h3,rfl⟩)
 omega
theorem Ld (φ:Nat→Nat) (E:List (Nat × Nat)) (s:Nat) (h:∀e ∈ E,φ e.1≤s∧φ e.2≤s):Me s 0 (ji φ E) 1=(rj s (fun i=>i) (jz φ E):Int):=by
 rw[←CE φ E s h];exact CB (fun k hk h0=>Aq φ E s h hk h0) s 0 _ 1 (Nat.add_zero _) (Bar.start _ _)
end Go.Ab.T30
end
