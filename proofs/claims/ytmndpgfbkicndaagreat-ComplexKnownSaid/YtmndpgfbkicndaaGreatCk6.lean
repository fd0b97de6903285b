/- A part of the proof. -/
import Derived.Test.YtmndpgfbkicndaaGreatCk5
import Derived.HandedShaped
section
namespace Go.Proofs.YtmndpgfbkicndaaGreat
open Go Go.Ab Go.Ab.W
set_option maxRecDepth 10000
set_option maxHeartbeats 4000000
attribute [local irreducible] Tm.at Trie.set Trie.get AMem.get AMem.set AMem.alloc AMem.ww AMem.kill
variable {p q : Option Prim}
theorem sG (n:Nat) (l2:List (Int × Int)) (l1:List (List Int × List (List Int))) (a0:Option Addr) (c1:Nat) (a1:Option Addr) (c0:Nat) (r0:Nat→Prop) (e0:List (List Value)) (r:Int × Int) (hF:zo n l2 l1=some r) (m:AMem) (h44:Rd m a0 c1 2 l2.length (l2.map (eP (eI .i64) (eI .i64)))) (h45:Rd m a1 c0 2 l1.length e0) (h46:(an ah r0 l1 e0).P m) :
  aW (E15v p q) 45 [.agg #[.slice a0 l2.length c1,.slice a1 l1.length c0]] m (fun v m'=>∃_:Unit,v = .tuple #[.int .i64 r.1,.int .i64 r.2]∧Hp m m' []):=by
 unfold zo at hF;refine ak (m0:=m) (ps:=[.gen (an ah r0 l1 e0),.rd a1 c0 2 l1.length e0,.rd a0 c1 2 l2.length (l2.map (eP (eI .i64) (eI .i64)))]) (N:=81) (rs:=[.tmp 2,.tmp 3]) rfl Tryz.func45 rfl rfl rfl (Hp.iQ (Hp.ct (Hp.ct (Hp.start m) dy h44) (dQ dy) h45) (dQ (dQ dy)) h46)<|Wk.seq<|Wk.region<|Wo.x (bR rfl) gn rfl fun b0=>?_;refine Wo.od (ai rfl) rfl<|Wo.od (ai rfl) rfl<|Wo.nil<|At.tn<|Wk.seq<|Wk.seq<|Wk.region<|Wo.od (au (r:=ptr b0 0) rfl (cP _ _)) rfl<|Wo.od (aj (k:=0) fS rfl rfl rfl) rfl<|Wo.od (bG (k:=3) xY rfl rfl (.inl rfl)) rfl<|Wo.od (ai rfl) rfl<|Wo.nil<|At.tn<|Wk.seq ?_;obtain⟨v13,h47,hF⟩:=J hF;refine Wk.cut (G:=(fun(r:Bool) (g:Unit)=>match r,g with|v13,_=>⟨.normal,[(1,ptr b0 0),(33,.bool v13)],[.obj b0 (.cells [.slice a0 l2.length c1,.slice a1 l1.length c0] .own),.rd a0 c1 2 l2.length (l2.map (eP (eI .i64) (eI .i64))),.rd a1 c0 2 l1.length e0,.gen (an ah r0 l1 e0)]⟩) v13) ?_ ?_
 ·clear hF;revert v13;intro r hF;refine Wk.region<|Wo.od (ab rfl) rfl<|Wo.od (aq rfl rfl (aD _ _ _)) rfl<|Wo.od (ab rfl) rfl ?_;rcases ae hF with⟨h6,hF⟩|⟨h6,hF⟩
  ·refine Wo.s (gg rfl rfl (cH h6)) rfl<|Wo.s (gg rfl rfl (cH h6)) rfl<|Wo.od (bf rfl h6 rfl) rfl<|Wo.od (ab rfl) rfl<|Wo.s (gg rfl rfl rfl) rfl<|Wo.s (gg rfl rfl rfl) rfl<|Wo.s (gg rfl rfl rfl) rfl<|Wo.s (gg rfl rfl rfl) rfl<|Wo.od (fK rfl rfl) rfl<|Wo.od (ab rfl) rfl ?_;refine Wo.s (gg rfl rfl rfl) rfl<|Wo.s (gg rfl rfl rfl) rfl<|Wo.s (gg rfl rfl rfl) rfl<|Wo.s (gg rfl rfl rfl) rfl<|Wo.od (fK rfl rfl) rfl<|Wo.nil ?_;cases hF;exact At.en () rfl (sc rfl (sc rfl sn)) (aa.U [0,3,2,1] rfl rfl)
  ·refine Wo.og (ab rfl) (gg rfl rfl (cD h6)) rfl<|Wo.og (aq rfl rfl (cx _ _ _)) (gg rfl rfl (cD h6)) rfl<|Wo.od (bc rfl h6 rfl) rfl<|Wo.od (ab rfl) rfl ?_;rcases ae hF with⟨h1,hF⟩|⟨h1,hF⟩
   ·refine Wo.s (gg rfl rfl (cH h1)) rfl<|Wo.s (gg rfl rfl (cH h1)) rfl<|Wo.s (gg rfl rfl (cH h1)) rfl<|Wo.s (gg rfl rfl (cH h1)) rfl<|Wo.od (bf rfl h1 rfl) rfl<|Wo.od (ab rfl) rfl<|Wo.s (gg rfl rfl rfl) rfl<|Wo.s (gg rfl rfl rfl) rfl<|Wo.s (gg rfl rfl rfl) rfl<|Wo.s (gg rfl rfl rfl) rfl ?_;refine Wo.od (fK rfl rfl) rfl<|Wo.nil ?_;cases hF;exact At.en () rfl (sc rfl (sc rfl sn)) (aa.U [0,3,2,1] rfl rfl)
   ·refine Wo.og (au (r:=ptr b0 1) rfl (bu _ _)) (gg rfl rfl (cD h1)) rfl<|Wo.og (aj (k:=0) cG rfl rfl rfl) (gg rfl rfl (cD h1)) rfl<|Wo.og (bG (k:=2) mX rfl rfl (.inl rfl)) (gg rfl rfl (cD h1)) rfl<|Wo.og (aq rfl rfl (aD _ _ _)) (gg rfl rfl (cD h1)) rfl<|Wo.od (bc rfl h1 rfl) rfl<|Wo.od (ab rfl) rfl ?_;rcases ae hF with⟨h2,hF⟩|⟨h2,hF⟩
    ·refine Wo.s (gg rfl rfl (cH h2)) rfl<|Wo.s (gg rfl rfl (cH h2)) rfl<|Wo.s (gg rfl rfl (cH h2)) rfl<|Wo.s (gg rfl rfl (cH h2)) rfl<|Wo.od (bf rfl h2 rfl) rfl<|Wo.nil ?_;cases hF;exact At.en () rfl (sc rfl (sc rfl sn)) (aa.U [0,3,2,1] rfl rfl)
    ·refine Wo.og (au (r:=ptr b0 1) rfl (bu _ _)) (gg rfl rfl (cD h2)) rfl<|Wo.og (aj (k:=0) cG rfl rfl rfl) (gg rfl rfl (cD h2)) rfl<|Wo.og (bG (k:=2) mX rfl rfl (.inl rfl)) (gg rfl rfl (cD h2)) rfl<|Wo.og (aq rfl rfl (cx _ _ _)) (gg rfl rfl (cD h2)) rfl<|Wo.od (bc rfl h2 rfl) rfl<|Wo.nil ?_;cases hF;exact At.en () rfl (sc rfl (sc rfl sn)) (aa.U [0,3,2,1] rfl rfl)
 ·clear h47;rintro⟨⟩;refine At.tn ?_;rcases ae hF with⟨h15,hF⟩|⟨h15,hF⟩
  ·refine Wk.ay rfl h15<|Wk.seq<|Wk.region<|Wo.od (ai rfl) rfl<|Wo.od (ai rfl) rfl<|Wo.nil<|At.tn<|Wk.ret<|At.tr ?_;cases hF;exact At.ret (.tmp rfl (.tmp rfl .nil)) fun m' hm=>⟨(),rfl,(aa.U [] rfl rfl) m' hm⟩
  ·refine Wk.ax rfl h15<|Wk.skip<|At.tn<|Wk.seq<|Wk.seq<|Wk.region<|Wo.od (au (r:=ptr b0 0) rfl (cP _ _)) rfl<|Wo.od (aj (k:=0) fS rfl rfl rfl) rfl ?_;obtain⟨v0,h48,hF⟩:=J hF;refine Wo.x (bg (α:=Unit) (V:=fun g=>(fun(r:Int) (g:Unit)=>match r,g with|v0,_=>(.int .i64 v0:Value)) v0 g) (N:=fun g=>(fun(r:Int) (g:Unit)=>match r,g with|v0,_=>([.obj b0 (.cells [.slice a0 l2.length c1,.slice a1 l1.length c0] .own),.rd a0 c1 2 l2.length (l2.map (eP (eI .i64) (eI .i64))),.rd a1 c0 2 l1.length e0,.gen (an ah r0 l1 e0)]:List Pc)) v0 g) rfl rfl (fun m hm=>?_)) gn rfl ?_
   ·clear hF;revert v0;intro r hF;refine ak (N:=19) (rs:=[.tmp 4]) rfl Tryz.func73 rfl rfl rfl hm<|Wk.seq<|Wk.region<|Wo.od (ai rfl) rfl<|Wo.nil<|At.tn<|Wk.seq<|Wk.seq<|Wk.region<|Wo.od (ab rfl) rfl<|Wo.od (bG (k:=1) xY rfl rfl (.inl rfl)) rfl<|Wo.od (ab rfl) rfl<|Wo.nil<|At.tn<|Wk.block ?_;obtain⟨r5,h16,hF⟩:=J hF;refine Wk.cut (G:=(fun(r:(Int) ⊕ (Unit)) (g:Unit)=>match r,g with | .inl v14,_=>⟨.ret,[(4,.int .i64 v14)],[.obj b0 (.cells [.slice a0 l2.length c1,.slice a1 l1.length c0] .own),.rd a0 c1 2 l2.length (l2.map (eP (eI .i64) (eI .i64))),.rd a1 c0 2 l1.length e0,.gen (an ah r0 l1 e0)]⟩ | .inr _,_=>⟨(.exit 0),[],[.obj b0 (.cells [.slice a0 l2.length c1,.slice a1 l1.length c0] .own),.rd a0 c1 2 l2.length (l2.map (eP (eI .i64) (eI .i64))),.rd a1 c0 2 l1.length e0,.gen (an ah r0 l1 e0)]⟩) r5) ?_ ?_
    ·refine Wk.bZ (fs':=[(1,.func (.func 56) #[] #[]),(7,.slice a0 l2.length c1),(8,.int .i64 (l2.length:Int)),(9,.int .i64 0)]) (ps':=[.rd a0 c1 2 l2.length (l2.map (eP (eI .i64) (eI .i64))),.obj b0 (.cells [.slice a0 l2.length c1,.slice a1 l1.length c0] .own),.rd a1 c0 2 l1.length e0,.gen (an ah r0 l1 e0)]) (sc rfl (sc rfl (sc rfl (sc rfl sn)))) (aa.U [1,0,2,3] rfl rfl) ?_;refine Wk.loop (σ:=Int) (ρ:=(Int) ⊕ (Unit)) (γ:=Unit) (δ:=fun _=>Unit) _ (fun(s:Int) (g:Unit)=>match s,g with|v25,_=>⟨.normal,[(1,.func (.func 56) #[] #[]),(7,.slice a0 l2.length c1),(8,.int .i64 (l2.length:Int)),(9,.int .i64 v25)],[.rd a0 c1 2 l2.length (l2.map (eP (eI .i64) (eI .i64))),.obj b0 (.cells [.slice a0 l2.length c1,.slice a1 l1.length c0] .own),.rd a1 c0 2 l1.length e0,.gen (an ah r0 l1 e0)]⟩) (fun(r:(Int) ⊕ (Unit)) (g:Unit)=>match r,g with | .inl v14,_=>⟨.ret,[(4,.int .i64 v14)],[.obj b0 (.cells [.slice a0 l2.length c1,.slice a1 l1.length c0] .own),.rd a0 c1 2 l2.length (l2.map (eP (eI .i64) (eI .i64))),.rd a1 c0 2 l1.length e0,.gen (an ah r0 l1 e0)]⟩ | .inr _,_=>⟨(.exit 0),[],[.obj b0 (.cells [.slice a0 l2.length c1,.slice a1 l1.length c0] .own),.rd a0 c1 2 l2.length (l2.map (eP (eI .i64) (eI .i64))),.rd a1 c0 2 l1.length e0,.gen (an ah r0 l1 e0)]⟩) ?_ (fun _ _=>rfl) (fun r d=>by rcases r with _|_<;>(intro e; cases e)) _ _ _ h16 ()
     clear hF h16;rintro v25 ⟨⟩ r hF;unfold wM at hF;refine Wk.seq<|Wk.region<|Wo.od (aq rfl rfl (aD _ _ _)) rfl<|Wo.nil<|At.tn<|Wk.seq ?_;rcases ae hF with⟨h17,hF⟩|⟨h17,hF⟩
     ·refine Wk.ay rfl h17<|Wk.skip<|At.tn<|Wk.seq<|Wk.block<|Wk.seq<|Wk.region<|Wo.od (ab rfl) rfl ?_;obtain⟨h7,hF⟩:=al hF;replace h7:=ar h7;refine Wo.bE (k:=0) rfl (aH h7) ?_;rintro b10 o7 rfl;refine Wo.og (aV my rfl rfl h7) gn rfl ?_;obtain⟨⟨x5,x6⟩,h49,hF⟩:=J hF;refine Wo.od (bH (k:=0) aU rfl rfl (aZ h49) rfl rfl) rfl<|Wo.x (aQ jn rfl) gn rfl fun b11=>?_;refine Wo.od (ai rfl) rfl<|Wo.o0 (aF (k:=0) aU rfl rfl rfl rfl rfl)<|Wo.nil<|At.tn<|Wk.seq<|Wk.region<|Wo.od (ab rfl) rfl<|Wo.od (aj (k:=0) aU rfl rfl rfl) rfl ?_;obtain⟨r13,h50,hF⟩:=J hF;refine Wo.x (aR rfl rfl (fun m hm=>tM n x5 x6  _ h50 m) fun _=>rfl) gn rfl ?_;rintro⟨⟩;refine Wo.nil<|At.tn ?_;rcases ae hF with⟨h18,hF⟩|⟨h18,hF⟩
      ·refine Wk.ay rfl h18<|Wk.seq<|Wk.region<|Wo.od (ab rfl) rfl<|Wo.od (ai rfl) rfl<|Wo.nil<|At.tn<|Wk.ret<|At.br<|At.tr ?_;cases hF;exact At.en () rfl (sc rfl sn) (aa.U [3,2,4,5] rfl rfl)
      ·refine Wk.ax rfl h18<|Wk.skip<|At.bn<|At.tn<|Wk.region<|Wo.od (aq rfl rfl (aA _ _ _)) rfl<|Wo.od (ab rfl) rfl<|Wo.nil ?_;cases hF;exact At.en () rfl (sc rfl (sc rfl (sc rfl (sc rfl sn)))) (aa.U [2,3,4,5] rfl rfl)
     ·refine Wk.ax rfl h17<|Wk.exit<|At.te ?_;cases hF;exact At.en () rfl sn (aa.U [1,0,2,3] rfl rfl)
    ·clear h16;rcases r5 with v14|_
     ·rintro⟨⟩;refine At.br<|At.tr ?_;have hr:=Option.some.inj hF;subst r;exact At.ret (.tmp rfl .nil) fun m' hm=>⟨(),rfl,(aa.U [0,1,2,3] rfl rfl) m' hm⟩
     ·rintro⟨⟩;refine At.be<|At.tn<|Wk.seq<|Wk.region<|Wo.od (ai rfl) rfl<|Wo.nil<|At.tn<|Wk.ret ?_;cases hF;exact At.ret (.tmp rfl .nil) fun m' hm=>⟨(),rfl,(aa.U [0,1,2,3] rfl rfl) m' hm⟩
   ·clear h48;rintro⟨⟩;refine Wo.od (ai rfl) rfl<|Wo.nil<|At.tn<|Wk.seq<|Wk.region<|Wo.od (ab rfl) rfl<|Wo.od (aq rfl rfl (dE _ _ _)) rfl<|Wo.nil<|At.tn ?_;rcases ae hF with⟨h19,hF⟩|⟨h19,hF⟩
    ·refine Wk.ay rfl h19<|Wk.seq<|Wk.region<|Wo.od (ab rfl) rfl<|Wo.od (ai rfl) rfl<|Wo.od (ai rfl) rfl<|Wo.nil<|At.tn<|Wk.ret<|At.tr ?_;cases hF;exact At.ret (.tmp rfl (.tmp rfl .nil)) fun m' hm=>⟨(),rfl,(aa.U [] rfl rfl) m' hm⟩
    ·refine Wk.ax rfl h19<|Wk.skip<|At.tn<|Wk.seq<|Wk.region<|Wo.x uq gn rfl fun b5=>?_;refine Wo.od (ai rfl) rfl<|Wo.nil<|At.tn<|Wk.seq<|Wk.seq<|Wk.region<|Wo.od (au (r:=ptr b0 0) rfl (cP _ _)) rfl<|Wo.od (aj (k:=1) fS rfl rfl rfl) rfl<|Wo.od (bG (k:=2) xY rfl rfl (.inl rfl)) rfl<|Wo.od (ab rfl) rfl<|Wo.nil<|At.tn<|Wk.block ?_;obtain⟨r6,h20,hF⟩:=J hF;refine Wk.cut (G:=(fun(r:(Int) ⊕ (Unit)) (g:Unit)=>match r,g with | .inl v15,_=>⟨.ret,[(2,.int .i64 3),(3,.int .i64 v15)],[]⟩ | .inr _,_=>⟨(.exit 0),[(1,ptr b0 0)],[.obj b0 (.cells [.slice a0 l2.length c1,.slice a1 l1.length c0] .own),.rd a0 c1 2 l2.length (l2.map (eP (eI .i64) (eI .i64))),.rd a1 c0 2 l1.length e0,.gen (an ah r0 l1 e0)]⟩) r6) ?_ ?_
     ·refine Wk.bZ (fs':=[(1,ptr b0 0),(6,.map (some b5)),(42,.slice a0 l2.length c1),(43,.int .i64 (l2.length:Int)),(44,.int .i64 0)]) (ps':=[.obj b0 (.cells [.slice a0 l2.length c1,.slice a1 l1.length c0] .own),.rd a0 c1 2 l2.length (l2.map (eP (eI .i64) (eI .i64))),.rd a1 c0 2 l1.length e0,.gen (an ah r0 l1 e0),.obj b5 (.map (([]:List ((Int × Int) × Bool)).map (eM (fun p:Int × Int=>.agg #[.int .i64 p.1,.int .i64 p.2]) (fun b:Bool=>.bool b))))]) (sc rfl (sc rfl (sc rfl (sc rfl (sc rfl sn))))) (aa.U [1,2,3,4,0] rfl rfl) ?_;refine Wk.loop (σ:=List ((Int × Int) × Bool) × Int) (ρ:=(Int) ⊕ (Unit)) (γ:=Unit) (δ:=fun _=>Unit) _ (fun(s:List ((Int × Int) × Bool) × Int) (g:Unit)=>match s,g with | (l15,v26),_=>⟨.normal,[(1,ptr b0 0),(6,.map (some b5)),(42,.slice a0 l2.length c1),(43,.int .i64 (l2.length:Int)),(44,.int .i64 v26)],[.obj b0 (.cells [.slice a0 l2.length c1,.slice a1 l1.length c0] .own),.rd a0 c1 2 l2.length (l2.map (eP (eI .i64) (eI .i64))),.rd a1 c0 2 l1.length e0,.gen (an ah r0 l1 e0),.obj b5 (.map (l15.map (eM (fun p:Int × Int=>.agg #[.int .i64 p.1,.int .i64 p.2]) (fun b:Bool=>.bool b))))]⟩) (fun(r:(Int) ⊕ (Unit)) (g:Unit)=>match r,g with | .inl v15,_=>⟨.ret,[(2,.int .i64 3),(3,.int .i64 v15)],[]⟩ | .inr _,_=>⟨(.exit 0),[(1,ptr b0 0)],[.obj b0 (.cells [.slice a0 l2.length c1,.slice a1 l1.length c0] .own),.rd a0 c1 2 l2.length (l2.map (eP (eI .i64) (eI .i64))),.rd a1 c0 2 l1.length e0,.gen (an ah r0 l1 e0)]⟩) ?_ (fun _ _=>rfl) (fun r d=>by rcases r with _|_<;>(intro e; cases e)) _ _ _ h20 ()
      clear hF h20;rintro⟨l15,v26⟩ ⟨⟩ r hF;unfold wI at hF;refine Wk.seq<|Wk.region<|Wo.od (aq rfl rfl (aD _ _ _)) rfl<|Wo.nil<|At.tn<|Wk.seq ?_;rcases ae hF with⟨h21,hF⟩|⟨h21,hF⟩
      ·refine Wk.ay rfl h21<|Wk.skip<|At.tn<|Wk.seq<|Wk.block<|Wk.seq<|Wk.region<|Wo.od (ab rfl) rfl ?_;obtain⟨h8,hF⟩:=al hF;replace h8:=ar h8;refine Wo.bE (k:=1) rfl (aH h8) ?_;rintro b12 o8 rfl;refine Wo.og (aV my rfl rfl h8) gn rfl ?_;obtain⟨⟨x3,x4⟩,h51,hF⟩:=J hF;refine Wo.od (bH (k:=0) aU rfl rfl (aZ h51) rfl rfl) rfl<|Wo.x (aQ jn rfl) gn rfl fun b13=>?_;refine Wo.od (ai rfl) rfl<|Wo.o0 (aF (k:=0) aU rfl rfl rfl rfl rfl)<|Wo.nil<|At.tn<|Wk.seq<|Wk.seq<|Wk.region<|Wo.od (ab rfl) rfl<|Wo.od (aj (k:=0) aU rfl rfl rfl) rfl ?_;obtain⟨y0,h52,hF⟩:=J hF;refine Wo.od (wO (q:=6) (xs:=l15) (k:=(x3,x4)) (vE:=(fun b:Bool=>.bool b)) (z0:=false) y5 (ui qC) z4 rfl rfl rfl rfl h52) rfl<|Wo.nil<|At.tn ?_;rcases ae hF with⟨h22,hF⟩|⟨h22,hF⟩
       ·refine Wk.ay rfl h22<|Wk.seq<|Wk.region<|Wo.od (ab rfl) rfl<|Wo.od (ai rfl) rfl<|Wo.od (ai rfl) rfl<|Wo.nil<|At.tn<|Wk.ret<|At.tr<|At.br<|At.tr ?_;cases hF;exact At.en () rfl (sc rfl (sc rfl sn)) (aa.U [] rfl rfl)
       ·refine Wk.ax rfl h22<|Wk.skip<|At.tn<|Wk.region<|Wo.od (ab rfl) rfl<|Wo.od (aj (k:=0) aU rfl rfl rfl) rfl<|Wo.o0 (qW (q:=6) (xs:=l15) (k:=(x3,x4)) (v:=true) (vE:=(fun b:Bool=>.bool b)) y5 (ui qC) rfl rfl rfl rfl)<|Wo.nil<|At.bn<|At.tn<|Wk.region<|Wo.od (aq rfl rfl (aA _ _ _)) rfl<|Wo.od (ab rfl) rfl<|Wo.nil ?_;cases hF;exact At.en () rfl (sc rfl (sc rfl (sc rfl (sc rfl (sc rfl sn))))) (aa.U [2,3,4,5,6] rfl rfl)
      ·refine Wk.ax rfl h21<|Wk.exit<|At.te ?_;cases hF;exact At.en () rfl (sc rfl sn) (aa.U [0,1,2,3] rfl rfl)
     ·clear h20;rcases r6 with v15|_
      ·rintro⟨⟩;refine At.br<|At.tr ?_;cases hF;exact At.ret (.tmp rfl (.tmp rfl .nil)) fun m' hm=>⟨(),rfl,(aa.U [] rfl rfl) m' hm⟩
      ·rintro⟨⟩;refine At.be<|At.tn<|Wk.seq<|Wk.region<|Wo.x (aQ zu rfl) gn rfl fun b1=>?_;refine Wo.o0 (aF (k:=0) qt rfl rfl rfl rfl rfl)<|Wo.nil<|At.tn<|Wk.seq<|Wk.seq<|Wk.region<|Wo.od (au (r:=ptr b0 1) rfl (bu _ _)) rfl<|Wo.od (aj (k:=1) cG rfl rfl rfl) rfl<|Wo.od (eU rfl rfl) rfl ?_;obtain⟨v1,h53,hF⟩:=J hF;refine Wo.x (bg (α:=Unit) (V:=fun g=>(fun(r:Int) (g:Unit)=>match r,g with|v1,_=>(.int .i64 v1:Value)) v1 g) (N:=fun g=>(fun(r:Int) (g:Unit)=>match r,g with|v1,_=>([.obj b0 (.cells [.slice a0 l2.length c1,.slice a1 l1.length c0] .own),.rd a0 c1 2 l2.length (l2.map (eP (eI .i64) (eI .i64))),.rd a1 c0 2 l1.length e0,.gen (an ah r0 l1 e0),.obj b1 (.cells [.func (.func 74) #[] #[]] .own)]:List Pc)) v1 g) rfl rfl (fun m hm=>?_)) gn rfl ?_
       ·clear hF;revert v1;intro r hF;refine ak (N:=19) (rs:=[.tmp 4]) rfl Tryz.func57 rfl rfl rfl hm<|Wk.seq<|Wk.region<|Wo.od (ai rfl) rfl<|Wo.nil<|At.tn<|Wk.seq<|Wk.seq<|Wk.region<|Wo.od (ab rfl) rfl<|Wo.od (bG (k:=3) mX rfl rfl (.inl rfl)) rfl<|Wo.od (ab rfl) rfl<|Wo.nil<|At.tn<|Wk.block ?_;obtain⟨r7,h23,hF⟩:=J hF;refine Wk.cut (G:=(fun(r:(Int) ⊕ (Unit)) (g:Unit)=>match r,g with | .inl v16,_=>⟨.ret,[(4,.int .i64 v16)],[.obj b0 (.cells [.slice a0 l2.length c1,.slice a1 l1.length c0] .own),.rd a0 c1 2 l2.length (l2.map (eP (eI .i64) (eI .i64))),.rd a1 c0 2 l1.length e0,.gen (an ah r0 l1 e0),.obj b1 (.cells [.func (.func 74) #[] #[]] .own)]⟩ | .inr _,_=>⟨(.exit 0),[],[.obj b0 (.cells [.slice a0 l2.length c1,.slice a1 l1.length c0] .own),.rd a0 c1 2 l2.length (l2.map (eP (eI .i64) (eI .i64))),.rd a1 c0 2 l1.length e0,.gen (an ah r0 l1 e0),.obj b1 (.cells [.func (.func 74) #[] #[]] .own)]⟩) r7) ?_ ?_
        ·refine Wk.bZ (fs':=[(1,.func (.func 75) #[] #[ptr b1 0,ptr b0 0]),(7,.slice a1 l1.length c0),(8,.int .i64 (l1.length:Int)),(9,.int .i64 0)]) (ps':=[.obj b1 (.cells [.func (.func 74) #[] #[]] .own),.obj b0 (.cells [.slice a0 l2.length c1,.slice a1 l1.length c0] .own),.rd a0 c1 2 l2.length (l2.map (eP (eI .i64) (eI .i64))),.rd a1 c0 2 l1.length e0,.gen (an ah r0 l1 e0)]) (sc rfl (sc rfl (sc rfl (sc rfl sn)))) (aa.U [0,1,2,3,4] rfl rfl) ?_;refine Wk.loop (σ:=Int) (ρ:=(Int) ⊕ (Unit)) (γ:=Unit) (δ:=fun _=>Unit) _ (fun(s:Int) (g:Unit)=>match s,g with|v19,_=>⟨.normal,[(1,.func (.func 75) #[] #[ptr b1 0,ptr b0 0]),(7,.slice a1 l1.length c0),(8,.int .i64 (l1.length:Int)),(9,.int .i64 v19)],[.obj b1 (.cells [.func (.func 74) #[] #[]] .own),.obj b0 (.cells [.slice a0 l2.length c1,.slice a1 l1.length c0] .own),.rd a0 c1 2 l2.length (l2.map (eP (eI .i64) (eI .i64))),.rd a1 c0 2 l1.length e0,.gen (an ah r0 l1 e0)]⟩) (fun(r:(Int) ⊕ (Unit)) (g:Unit)=>match r,g with | .inl v16,_=>⟨.ret,[(4,.int .i64 v16)],[.obj b0 (.cells [.slice a0 l2.length c1,.slice a1 l1.length c0] .own),.rd a0 c1 2 l2.length (l2.map (eP (eI .i64) (eI .i64))),.rd a1 c0 2 l1.length e0,.gen (an ah r0 l1 e0),.obj b1 (.cells [.func (.func 74) #[] #[]] .own)]⟩ | .inr _,_=>⟨(.exit 0),[],[.obj b0 (.cells [.slice a0 l2.length c1,.slice a1 l1.length c0] .own),.rd a0 c1 2 l2.length (l2.map (eP (eI .i64) (eI .i64))),.rd a1 c0 2 l1.length e0,.gen (an ah r0 l1 e0),.obj b1 (.cells [.func (.func 74) #[] #[]] .own)]⟩) ?_ (fun _ _=>rfl) (fun r d=>by rcases r with _|_<;>(intro e; cases e)) _ _ _ h23 ()
         clear hF h23;rintro v19 ⟨⟩ r hF;unfold wN at hF;refine Wk.seq<|Wk.region<|Wo.od (aq rfl rfl (aD _ _ _)) rfl<|Wo.nil<|At.tn<|Wk.seq ?_;rcases ae hF with⟨h24,hF⟩|⟨h24,hF⟩
         ·refine Wk.ay rfl h24<|Wk.skip<|At.tn<|Wk.seq<|Wk.block<|Wk.seq<|Wk.region<|Wo.od (ab rfl) rfl ?_;obtain⟨h9,hF⟩:=al hF;replace h9:=ar h9;refine Wo.bE (k:=3) rfl (aH h9) ?_;rintro b4 o3 rfl;refine Wo.og (aV cz rfl rfl h9) gn rfl ?_;obtain⟨⟨l7,l8⟩,h54,hF⟩:=J hF;refine Wo.x (cF (r:=ah) (w:=2) (j:=v19.toNat) (c:=0) (q:=5) (z:=(l7,l8)) (V:=fun g=>.agg #[.slice g.1.1 l7.length g.1.2,.slice g.2.1 l8.length g.2.2.1]) (N:=fun g=>[.rd g.1.1 g.1.2 1 l7.length (l7.map (eI .i64)),.rd g.2.1 g.2.2.1 1 l8.length g.2.2.2,.gen (an aw r0 l8 g.2.2.2),.ro b4 o3 2 l1.length e0,.obj b1 (.cells [.func (.func 74) #[] #[]] .own),.obj b0 (.cells [.slice a0 l2.length c1,.slice (some ⟨b4,o3,none⟩) l1.length c0] .own),.rd a0 c1 2 l2.length (l2.map (eP (eI .i64) (eI .i64))),.rd (some ⟨b4,o3,none⟩) c0 2 l1.length e0,.gen (an ah r0 l1 e0)]) cy rfl rfl (cE (k:=0) rfl) rfl h54 (fun _=>rfl) rfl (fun _=>rfl)) gn rfl ?_;rintro⟨⟨a6,c6⟩,⟨a7,c7,e4⟩⟩;refine Wo.x (aQ z31 rfl) gn rfl fun b14=>?_;refine Wo.od (ai rfl) rfl<|Wo.o0 (aF (k:=0) cy rfl rfl rfl rfl rfl)<|Wo.nil<|At.tn<|Wk.seq<|Wk.region<|Wo.od (ab rfl) rfl<|Wo.od (aj (k:=0) cy rfl rfl rfl) rfl ?_;obtain⟨v2,h55,hF⟩:=J hF;refine Wo.x (bg (α:=Unit) (V:=fun g=>(fun(r:Bool) (g:Unit)=>match r,g with|v2,_=>(.bool v2:Value)) v2 g) (N:=fun g=>(fun(r:Bool) (g:Unit)=>match r,g with|v2,_=>([.obj b0 (.cells [.slice a0 l2.length c1,.slice (some ⟨b4,o3,none⟩) l1.length c0] .own),.rd a0 c1 2 l2.length (l2.map (eP (eI .i64) (eI .i64))),.ro b4 o3 2 l1.length e0,.gen (an ah r0 l1 e0),.rd (some ⟨b4,o3,none⟩) c0 2 l1.length e0,.obj b1 (.cells [.func (.func 74) #[] #[]] .own)]:List Pc)) v2 g) rfl rfl (fun m hm=>?_)) gn rfl ?_
          ·clear hF;revert v2;intro r hF;refine ak (N:=15) (rs:=[.tmp 4]) rfl Tryz.func75 rfl rfl rfl hm<|Wk.seq<|Wk.region<|Wo.x (bR rfl) gn rfl fun b9=>?_;refine Wo.od (ai rfl) rfl<|Wo.nil<|At.tn<|Wk.seq<|Wk.region<|Wo.od (au (r:=ptr b9 1) rfl (eJ _ _)) rfl<|Wo.od (aj (k:=0) jv rfl rfl rfl) rfl<|Wo.od (bG (k:=3) mL rfl rfl (.inl rfl)) rfl<|Wo.od (aq rfl rfl (cx _ _ _)) rfl<|Wo.od (ab rfl) rfl ?_;rcases ae hF with⟨h3,hF⟩|⟨h3,hF⟩
           ·refine Wo.s (gg rfl rfl (cH h3)) rfl<|Wo.s (gg rfl rfl (cH h3)) rfl<|Wo.s (gg rfl rfl (cH h3)) rfl<|Wo.s (gg rfl rfl (cH h3)) rfl<|Wo.od (bf rfl h3 rfl) rfl<|Wo.od (ai rfl) rfl<|Wo.nil<|At.tn<|Wk.ret ?_;cases hF;exact At.ret (.tmp rfl .nil) fun m' hm=>⟨(),rfl,(aa.U [7,8,5,10,9,6] rfl rfl) m' hm⟩
           ·refine Wo.og (aj (k:=6) qt rfl rfl rfl) (gg rfl rfl (cD h3)) rfl<|Wo.og (aj (k:=0) cy rfl rfl rfl) (gg rfl rfl (cD h3)) rfl<|Wo.og (eU rfl rfl) (gg rfl rfl (cD h3)) rfl ?_;obtain⟨v3,h56,hF⟩:=J hF;refine Wo.x (bg (α:=Unit) (V:=fun g=>(fun(r:Bool) (g:Unit)=>match r,g with|v3,_=>(.bool v3:Value)) v3 g) (N:=fun g=>(fun(r:Bool) (g:Unit)=>match r,g with|v3,_=>([.obj b0 (.cells [.slice a0 l2.length c1,.slice (some ⟨b4,o3,none⟩) l1.length c0] .own),.rd a0 c1 2 l2.length (l2.map (eP (eI .i64) (eI .i64))),.ro b4 o3 2 l1.length e0,.gen (an ah r0 l1 e0),.rd (some ⟨b4,o3,none⟩) c0 2 l1.length e0,.obj b1 (.cells [.func (.func 74) #[] #[]] .own)]:List Pc)) v3 g) rfl rfl (fun m hm=>?_)) (gg rfl rfl (cD h3)) rfl ?_
            ·clear hF;revert v3;intro r hF;refine ak (N:=20) (rs:=[.tmp 4]) rfl Tryz.func74 rfl rfl rfl hm<|Wk.seq<|Wk.region<|Wo.x (bR rfl) gn rfl fun b15=>?_;refine Wo.od (ai rfl) rfl<|Wo.nil<|At.tn<|Wk.seq<|Wk.seq<|Wk.region<|Wo.od (aj (k:=0) cy rfl rfl rfl) rfl ?_;obtain⟨l3,h57,hF⟩:=J hF;refine Wo.x (iA (N:=(fun x:Option Addr × Nat × Nat × List (List Value) × (Nat→Prop)=>[.rd (x.1) (x.2.1) 1 (x.2.2.1) (x.2.2.2.1),.gen (an aw (x.2.2.2.2) l3 (x.2.2.2.1))])) rfl rfl (fun m hm=>fi n l7 l8 a6 c6 a7 c7 r0 e4 _ h57 m hm.dF (hm.rd (k:=3) rfl (.rd _ _ _ _ _)) (hm.di (k:=3) rfl) (hm.rd (k:=4) rfl (.rd _ _ _ _ _)) (hm.di (k:=4) rfl) (hm.dp (q:=5) rfl) (hm.eE (q:=5) rfl)) fun _=>rfl) gn rfl ?_;rintro⟨a2,c2,n0,e1,r1⟩;refine Wo.eu (k:=0) (q:=1) (L:=l3) rfl (.inr (.inl ⟨_,rfl⟩)) rfl ?_;rintro rfl;refine Wo.od (bG (k:=0) mL rfl rfl (.inl rfl)) rfl<|Wo.od (ab rfl) rfl<|Wo.nil<|At.tn<|Wk.block ?_;obtain⟨r8,h25,hF⟩:=J hF;refine Wk.cut (G:=(fun(r:(Unit) ⊕ (Unit)) (g:Unit)=>match r,g with | .inl _,_=>⟨.ret,[(4,.bool true)],[.obj b0 (.cells [.slice a0 l2.length c1,.slice (some ⟨b4,o3,none⟩) l1.length c0] .own),.rd a0 c1 2 l2.length (l2.map (eP (eI .i64) (eI .i64))),.ro b4 o3 2 l1.length e0,.gen (an ah r0 l1 e0),.rd (some ⟨b4,o3,none⟩) c0 2 l1.length e0,.obj b1 (.cells [.func (.func 74) #[] #[]] .own)]⟩ | .inr _,_=>⟨(.exit 0),[],[.obj b0 (.cells [.slice a0 l2.length c1,.slice (some ⟨b4,o3,none⟩) l1.length c0] .own),.rd a0 c1 2 l2.length (l2.map (eP (eI .i64) (eI .i64))),.ro b4 o3 2 l1.length e0,.gen (an ah r0 l1 e0),.rd (some ⟨b4,o3,none⟩) c0 2 l1.length e0,.obj b1 (.cells [.func (.func 74) #[] #[]] .own)]⟩) r8) ?_ ?_
             ·refine Wk.bZ (fs':=[(1,.func (.func 76) #[] #[ptr b0 0]),(8,.slice a2 l3.length c2),(9,.int .i64 (l3.length:Int)),(10,.int .i64 0)]) (ps':=[.obj b0 (.cells [.slice a0 l2.length c1,.slice (some ⟨b4,o3,none⟩) l1.length c0] .own),.rd a0 c1 2 l2.length (l2.map (eP (eI .i64) (eI .i64))),.ro b4 o3 2 l1.length e0,.gen (an ah r0 l1 e0),.rd (some ⟨b4,o3,none⟩) c0 2 l1.length e0,.rd a2 c2 1 l3.length e1,.gen (an aw r1 l3 e1),.obj b1 (.cells [.func (.func 74) #[] #[]] .own)]) (sc rfl (sc rfl (sc rfl (sc rfl sn)))) (aa.U [10,11,8,13,12,0,1,9] rfl rfl) ?_;refine Wk.loop (σ:=Int) (ρ:=(Unit) ⊕ (Unit)) (γ:=Unit) (δ:=fun _=>Unit) _ (fun(s:Int) (g:Unit)=>match s,g with|v20,_=>⟨.normal,[(1,.func (.func 76) #[] #[ptr b0 0]),(8,.slice a2 l3.length c2),(9,.int .i64 (l3.length:Int)),(10,.int .i64 v20)],[.obj b0 (.cells [.slice a0 l2.length c1,.slice (some ⟨b4,o3,none⟩) l1.length c0] .own),.rd a0 c1 2 l2.length (l2.map (eP (eI .i64) (eI .i64))),.ro b4 o3 2 l1.length e0,.gen (an ah r0 l1 e0),.rd (some ⟨b4,o3,none⟩) c0 2 l1.length e0,.rd a2 c2 1 l3.length e1,.gen (an aw r1 l3 e1),.obj b1 (.cells [.func (.func 74) #[] #[]] .own)]⟩) (fun(r:(Unit) ⊕ (Unit)) (g:Unit)=>match r,g with | .inl _,_=>⟨.ret,[(4,.bool true)],[.obj b0 (.cells [.slice a0 l2.length c1,.slice (some ⟨b4,o3,none⟩) l1.length c0] .own),.rd a0 c1 2 l2.length (l2.map (eP (eI .i64) (eI .i64))),.ro b4 o3 2 l1.length e0,.gen (an ah r0 l1 e0),.rd (some ⟨b4,o3,none⟩) c0 2 l1.length e0,.obj b1 (.cells [.func (.func 74) #[] #[]] .own)]⟩ | .inr _,_=>⟨(.exit 0),[],[.obj b0 (.cells [.slice a0 l2.length c1,.slice (some ⟨b4,o3,none⟩) l1.length c0] .own),.rd a0 c1 2 l2.length (l2.map (eP (eI .i64) (eI .i64))),.ro b4 o3 2 l1.length e0,.gen (an ah r0 l1 e0),.rd (some ⟨b4,o3,none⟩) c0 2 l1.length e0,.obj b1 (.cells [.func (.func 74) #[] #[]] .own)]⟩) ?_ (fun _ _=>rfl) (fun r d=>by rcases r with _|_<;>(intro e; cases e)) _ _ _ h25 ()
              clear hF h25;rintro v20 ⟨⟩ r hF;unfold wG at hF;refine Wk.seq<|Wk.region<|Wo.od (aq rfl rfl (aD _ _ _)) rfl<|Wo.nil<|At.tn<|Wk.seq ?_;rcases ae hF with⟨h26,hF⟩|⟨h26,hF⟩
              ·refine Wk.ay rfl h26<|Wk.skip<|At.tn<|Wk.seq<|Wk.block<|Wk.seq<|Wk.region<|Wo.od (ab rfl) rfl ?_;obtain⟨h10,hF⟩:=al hF;replace h10:=ar h10;refine Wo.bE (k:=5) rfl (aH h10) ?_;rintro b6 o4 rfl;refine Wo.og (aV ib rfl rfl h10) gn rfl ?_;obtain⟨l6,h58,hF⟩:=J hF;refine Wo.x (cF (r:=aw) (w:=1) (j:=v20.toNat) (c:=0) (q:=7) (z:=l6) (V:=fun g=>.slice g.1 l6.length g.2) (N:=fun g=>[.rd g.1 g.2 1 l6.length (l6.map (eI .i64)),.ro b6 o4 1 l3.length e1,.obj b0 (.cells [.slice a0 l2.length c1,.slice (some ⟨b4,o3,none⟩) l1.length c0] .own),.rd a0 c1 2 l2.length (l2.map (eP (eI .i64) (eI .i64))),.ro b4 o3 2 l1.length e0,.gen (an ah r0 l1 e0),.rd (some ⟨b4,o3,none⟩) c0 2 l1.length e0,.rd (some ⟨b6,o4,none⟩) c2 1 l3.length e1,.gen (an aw r1 l3 e1),.obj b1 (.cells [.func (.func 74) #[] #[]] .own)]) fp rfl rfl (cE (k:=0) rfl) rfl h58 (fun _=>rfl) rfl (fun _=>rfl)) gn rfl ?_;rintro⟨a5,c5⟩;refine Wo.od (ai rfl) rfl<|Wo.od (ai rfl) rfl<|Wo.nil<|At.tn<|Wk.seq<|Wk.region<|Wo.od (ab rfl) rfl<|Wo.od (ab rfl) rfl<|Wo.od (ab rfl) rfl ?_;obtain⟨v4,h59,hF⟩:=J hF;refine Wo.x (bg (α:=Unit) (V:=fun g=>(fun(r:Bool) (g:Unit)=>match r,g with|v4,_=>(.bool v4:Value)) v4 g) (N:=fun g=>(fun(r:Bool) (g:Unit)=>match r,g with|v4,_=>([.obj b0 (.cells [.slice a0 l2.length c1,.slice (some ⟨b4,o3,none⟩) l1.length c0] .own),.rd a0 c1 2 l2.length (l2.map (eP (eI .i64) (eI .i64))),.ro b4 o3 2 l1.length e0,.gen (an ah r0 l1 e0),.rd (some ⟨b4,o3,none⟩) c0 2 l1.length e0,.obj b1 (.cells [.func (.func 74) #[] #[]] .own),.ro b6 o4 1 l3.length e1,.gen (an aw r1 l3 e1),.rd (some ⟨b6,o4,none⟩) c2 1 l3.length e1]:List Pc)) v4 g) rfl rfl (fun m hm=>?_)) gn rfl ?_
               ·clear hF;revert v4;intro r hF;refine ak (N:=27) (rs:=[.tmp 5]) rfl Tryz.func76 rfl rfl rfl hm<|Wk.seq<|Wk.region<|Wo.od (ai rfl) rfl<|Wo.nil<|At.tn<|Wk.seq<|Wk.dj (prs:=[(15,17),(15,18)]) (by kernel_rfl)<|Wn.od (ab rfl) rfl<|Wn.od (bG (k:=0) np rfl rfl (.inl rfl)) rfl<|Wn.od (aq rfl rfl (aD _ _ _)) rfl<|Wn.od (ab rfl) rfl ?_
                rcases ae hF with⟨h4,hF⟩|⟨h4,hF⟩
                ·refine Wn.s (gg rfl rfl (cH h4)) rfl<|Wn.s (gg rfl rfl (cH h4)) rfl<|Wn.s (gg rfl rfl (cH h4)) rfl<|Wn.od (bf rfl h4 rfl) rfl<|Wn.od (ab rfl) rfl<|Wn.s (gg rfl rfl rfl) rfl<|Wn.s (gg rfl rfl rfl) rfl<|Wn.s (gg rfl rfl rfl) rfl<|Wn.od (fK rfl rfl) rfl<|Wn.od (ab rfl) rfl ?_;refine Wn.s (gg rfl rfl rfl) rfl<|Wn.s (gg rfl rfl rfl) rfl<|Wn.s (gg rfl rfl rfl) rfl<|Wn.s (gg rfl rfl rfl) rfl<|Wn.s (gg rfl rfl rfl) rfl<|Wn.s (gg rfl rfl rfl) rfl<|Wn.od (fK rfl rfl) rfl<|Wn.od (ai rfl) rfl<|Wn.nil (fun m hm=>cR.all rfl)<|At.tn<|Wk.ret ?_;cases hF;exact At.ret (.tmp rfl .nil) fun m' hm=>⟨(),rfl,(aa.U [2,3,4,5,6,9,1,8,7] rfl rfl) m' hm⟩
                ·refine Wn.og (ab rfl) (gg rfl rfl (cD h4)) rfl<|Wn.og (bG (k:=0) np rfl rfl (.inl rfl)) (gg rfl rfl (cD h4)) rfl<|Wn.og (aq rfl rfl (cx _ _ _)) (gg rfl rfl (cD h4)) rfl<|Wn.od (bc rfl h4 rfl) rfl<|Wn.od (ab rfl) rfl ?_;rcases ae hF with⟨h5,hF⟩|⟨h5,hF⟩
                 ·refine Wn.s (gg rfl rfl (cH h5)) rfl<|Wn.s (gg rfl rfl (cH h5)) rfl<|Wn.s (gg rfl rfl (cH h5)) rfl<|Wn.od (bf rfl h5 rfl) rfl<|Wn.od (ab rfl) rfl<|Wn.s (gg rfl rfl rfl) rfl<|Wn.s (gg rfl rfl rfl) rfl<|Wn.s (gg rfl rfl rfl) rfl<|Wn.s (gg rfl rfl rfl) rfl<|Wn.s (gg rfl rfl rfl) rfl ?_;refine Wn.s (gg rfl rfl rfl) rfl<|Wn.od (fK rfl rfl) rfl<|Wn.od (ai rfl) rfl<|Wn.nil (fun m hm=>cR.all rfl)<|At.tn<|Wk.ret ?_;cases hF;exact At.ret (.tmp rfl .nil) fun m' hm=>⟨(),rfl,(aa.U [2,3,4,5,6,9,1,8,7] rfl rfl) m' hm⟩
                 ·refine Wn.og (ab rfl) (gg rfl rfl (cD h5)) rfl ?_;obtain⟨r14,h60,hF⟩:=J hF;refine Wn.c (fL rfl rfl (fun m hm=>xc n l6 a5 c5 _ h60 m (hm.rd (k:=0) rfl (.rd _ _ _ _ _))) fun _=>rfl) (gg rfl rfl (cD h5)) rfl ?_;rintro⟨⟩;refine Wn.og (aq rfl rfl (aD _ _ _)) (gg rfl rfl (cD h5)) rfl<|Wn.od (bc rfl h5 rfl) rfl<|Wn.od (ab rfl) rfl ?_;rcases ae hF with⟨h0,hF⟩|⟨h0,hF⟩
                  ·refine Wn.s (gg rfl rfl (cH h0)) rfl<|Wn.s (gg rfl rfl (cH h0)) rfl<|Wn.s (gg rfl rfl (cH h0)) rfl<|Wn.s (gg rfl rfl (cH h0)) rfl<|Wn.s (gg rfl rfl (cH h0)) rfl<|Wn.s (gg rfl rfl (cH h0)) rfl<|Wn.od (bf rfl h0 rfl) rfl<|Wn.od (ai rfl) rfl<|Wn.nil (fun m hm=>cR.all rfl)<|At.tn<|Wk.ret ?_;cases hF;exact At.ret (.tmp rfl .nil) fun m' hm=>⟨(),rfl,(aa.U [2,3,4,5,6,9,1,8,7] rfl rfl) m' hm⟩
                  ·refine Wn.og (ab rfl) (gg rfl rfl (cD h0)) rfl ?_;obtain⟨r15,h61,hF⟩:=J hF;refine Wn.c (fL rfl rfl (fun m hm=>xj n l6 a5 c5 _ h61 m (hm.rd (k:=0) rfl (.rd _ _ _ _ _))) fun _=>rfl) (gg rfl rfl (cD h0)) rfl ?_;rintro⟨⟩;refine Wn.og (au (r:=ptr b0 0) rfl (cP _ _)) (gg rfl rfl (cD h0)) rfl<|Wn.og (aj (k:=2) fS rfl rfl rfl) (gg rfl rfl (cD h0)) rfl<|Wn.og (bG (k:=3) xY rfl rfl (.inl rfl)) (gg rfl rfl (cD h0)) rfl<|Wn.og (aq rfl rfl (dE _ _ _)) (gg rfl rfl (cD h0)) rfl<|Wn.od (bc rfl h0 rfl) rfl<|Wn.od (ai rfl) rfl<|Wn.nil (fun m hm=>cR.all rfl)<|At.tn<|Wk.ret ?_;cases hF;exact At.ret (.tmp rfl .nil) fun m' hm=>⟨(),rfl,(aa.U [2,3,4,5,6,9,1,8,7] rfl rfl) m' hm⟩
               ·clear h59;rintro⟨⟩;refine Wo.nil<|At.tn ?_;rcases ae hF with⟨h27,hF⟩|⟨h27,hF⟩
                ·refine Wk.ay rfl h27<|Wk.seq<|Wk.region<|Wo.od (ai rfl) rfl<|Wo.nil<|At.tn<|Wk.ret<|At.br<|At.tr ?_;cases hF;exact At.en () rfl (sc rfl sn) (aa.U [0,1,2,3,4,5] rfl rfl)
                ·refine Wk.ax rfl h27<|Wk.skip<|At.bn<|At.tn<|Wk.region<|Wo.od (aq rfl rfl (aA _ _ _)) rfl<|Wo.od (ab rfl) rfl<|Wo.nil ?_;cases hF;exact At.en () rfl (sc rfl (sc rfl (sc rfl (sc rfl sn)))) (aa.U [0,1,2,3,4,8,7,5] rfl rfl)
              ·refine Wk.ax rfl h26<|Wk.exit<|At.te ?_;cases hF;exact At.en () rfl sn (aa.U [0,1,2,3,4,7] rfl rfl)
             ·clear h25;rcases r8 with _|_
              ·rintro⟨⟩;refine At.br<|At.tr ?_;cases hF;exact At.ret (.tmp rfl .nil) fun m' hm=>⟨(),rfl,(aa.U [0,1,2,3,4,5] rfl rfl) m' hm⟩
              ·rintro⟨⟩;refine At.be<|At.tn<|Wk.seq<|Wk.region<|Wo.od (ai rfl) rfl<|Wo.nil<|At.tn<|Wk.ret ?_;cases hF;exact At.ret (.tmp rfl .nil) fun m' hm=>⟨(),rfl,(aa.U [0,1,2,3,4,5] rfl rfl) m' hm⟩
            ·clear h56;rintro⟨⟩;refine Wo.od (bc rfl h3 rfl) rfl<|Wo.od (ai rfl) rfl<|Wo.nil<|At.tn<|Wk.ret ?_;have hr:=Option.some.inj hF;subst r;exact At.ret (.tmp rfl .nil) fun m' hm=>⟨(),rfl,(aa.U [0,1,2,3,4,5] rfl rfl) m' hm⟩
          ·clear h55;rintro⟨⟩;refine Wo.nil<|At.tn ?_;rcases ae hF with⟨h28,hF⟩|⟨h28,hF⟩
           ·refine Wk.ay rfl h28<|Wk.seq<|Wk.region<|Wo.od (ab rfl) rfl<|Wo.od (ai rfl) rfl<|Wo.nil<|At.tn<|Wk.ret<|At.br<|At.tr ?_;cases hF;exact At.en () rfl (sc rfl sn) (aa.U [0,1,4,3,5] rfl rfl)
           ·refine Wk.ax rfl h28<|Wk.skip<|At.bn<|At.tn<|Wk.region<|Wo.od (aq rfl rfl (aA _ _ _)) rfl<|Wo.od (ab rfl) rfl<|Wo.nil ?_;cases hF;exact At.en () rfl (sc rfl (sc rfl (sc rfl (sc rfl sn)))) (aa.U [5,0,1,4,3] rfl rfl)
         ·refine Wk.ax rfl h24<|Wk.exit<|At.te ?_;cases hF;exact At.en () rfl sn (aa.U [1,2,3,4,0] rfl rfl)
        ·clear h23;rcases r7 with v16|_
         ·rintro⟨⟩;refine At.br<|At.tr ?_;have hr:=Option.some.inj hF;subst r;exact At.ret (.tmp rfl .nil) fun m' hm=>⟨(),rfl,(aa.U [0,1,2,3,4] rfl rfl) m' hm⟩
         ·rintro⟨⟩;refine At.be<|At.tn<|Wk.seq<|Wk.region<|Wo.od (ai rfl) rfl<|Wo.nil<|At.tn<|Wk.ret ?_;cases hF;exact At.ret (.tmp rfl .nil) fun m' hm=>⟨(),rfl,(aa.U [0,1,2,3,4] rfl rfl) m' hm⟩
       ·clear h53;rintro⟨⟩;refine Wo.od (ai rfl) rfl<|Wo.nil<|At.tn<|Wk.seq<|Wk.region<|Wo.od (ab rfl) rfl<|Wo.od (aq rfl rfl (dE _ _ _)) rfl<|Wo.nil<|At.tn ?_;rcases ae hF with⟨h29,hF⟩|⟨h29,hF⟩
        ·refine Wk.ay rfl h29<|Wk.seq<|Wk.region<|Wo.od (ab rfl) rfl<|Wo.od (ai rfl) rfl<|Wo.od (ai rfl) rfl<|Wo.nil<|At.tn<|Wk.ret<|At.tr ?_;cases hF;exact At.ret (.tmp rfl (.tmp rfl .nil)) fun m' hm=>⟨(),rfl,(aa.U [] rfl rfl) m' hm⟩
        ·refine Wk.ax rfl h29<|Wk.skip<|At.tn<|Wk.seq<|Wk.seq<|Wk.region<|Wo.od (au (r:=ptr b0 1) rfl (bu _ _)) rfl<|Wo.od (aj (k:=0) cG rfl rfl rfl) rfl<|Wo.od (eU rfl rfl) rfl ?_;obtain⟨v5,h62,hF⟩:=J hF;refine Wo.x (bg (α:=Unit) (V:=fun g=>(fun(r:Int) (g:Unit)=>match r,g with|v5,_=>(.int .i64 v5:Value)) v5 g) (N:=fun g=>(fun(r:Int) (g:Unit)=>match r,g with|v5,_=>([.obj b0 (.cells [.slice a0 l2.length c1,.slice a1 l1.length c0] .own),.rd a0 c1 2 l2.length (l2.map (eP (eI .i64) (eI .i64))),.rd a1 c0 2 l1.length e0,.gen (an ah r0 l1 e0),.obj b1 (.cells [.func (.func 74) #[] #[]] .own)]:List Pc)) v5 g) rfl rfl (fun m hm=>?_)) gn rfl ?_
         ·clear hF;revert v5;intro r hF;refine ak (N:=19) (rs:=[.tmp 4]) rfl Tryz.func57 rfl rfl rfl hm<|Wk.seq<|Wk.region<|Wo.od (ai rfl) rfl<|Wo.nil<|At.tn<|Wk.seq<|Wk.seq<|Wk.region<|Wo.od (ab rfl) rfl<|Wo.od (bG (k:=2) mX rfl rfl (.inl rfl)) rfl<|Wo.od (ab rfl) rfl<|Wo.nil<|At.tn<|Wk.block ?_;obtain⟨r9,h30,hF⟩:=J hF;refine Wk.cut (G:=(fun(r:(Int) ⊕ (Unit)) (g:Unit)=>match r,g with | .inl v17,_=>⟨.ret,[(4,.int .i64 v17)],[.obj b0 (.cells [.slice a0 l2.length c1,.slice a1 l1.length c0] .own),.rd a0 c1 2 l2.length (l2.map (eP (eI .i64) (eI .i64))),.rd a1 c0 2 l1.length e0,.gen (an ah r0 l1 e0),.obj b1 (.cells [.func (.func 74) #[] #[]] .own)]⟩ | .inr _,_=>⟨(.exit 0),[],[.obj b0 (.cells [.slice a0 l2.length c1,.slice a1 l1.length c0] .own),.rd a0 c1 2 l2.length (l2.map (eP (eI .i64) (eI .i64))),.rd a1 c0 2 l1.length e0,.gen (an ah r0 l1 e0),.obj b1 (.cells [.func (.func 74) #[] #[]] .own)]⟩) r9) ?_ ?_
          ·refine Wk.bZ (fs':=[(1,.func (.func 79) #[] #[ptr b1 0,ptr b0 0]),(7,.slice a1 l1.length c0),(8,.int .i64 (l1.length:Int)),(9,.int .i64 0)]) (ps':=[.obj b1 (.cells [.func (.func 74) #[] #[]] .own),.obj b0 (.cells [.slice a0 l2.length c1,.slice a1 l1.length c0] .own),.rd a0 c1 2 l2.length (l2.map (eP (eI .i64) (eI .i64))),.rd a1 c0 2 l1.length e0,.gen (an ah r0 l1 e0)]) (sc rfl (sc rfl (sc rfl (sc rfl sn)))) (aa.U [4,0,1,2,3] rfl rfl) ?_;refine Wk.loop (σ:=Int) (ρ:=(Int) ⊕ (Unit)) (γ:=Unit) (δ:=fun _=>Unit) _ (fun(s:Int) (g:Unit)=>match s,g with|v21,_=>⟨.normal,[(1,.func (.func 79) #[] #[ptr b1 0,ptr b0 0]),(7,.slice a1 l1.length c0),(8,.int .i64 (l1.length:Int)),(9,.int .i64 v21)],[.obj b1 (.cells [.func (.func 74) #[] #[]] .own),.obj b0 (.cells [.slice a0 l2.length c1,.slice a1 l1.length c0] .own),.rd a0 c1 2 l2.length (l2.map (eP (eI .i64) (eI .i64))),.rd a1 c0 2 l1.length e0,.gen (an ah r0 l1 e0)]⟩) (fun(r:(Int) ⊕ (Unit)) (g:Unit)=>match r,g with | .inl v17,_=>⟨.ret,[(4,.int .i64 v17)],[.obj b0 (.cells [.slice a0 l2.length c1,.slice a1 l1.length c0] .own),.rd a0 c1 2 l2.length (l2.map (eP (eI .i64) (eI .i64))),.rd a1 c0 2 l1.length e0,.gen (an ah r0 l1 e0),.obj b1 (.cells [.func (.func 74) #[] #[]] .own)]⟩ | .inr _,_=>⟨(.exit 0),[],[.obj b0 (.cells [.slice a0 l2.length c1,.slice a1 l1.length c0] .own),.rd a0 c1 2 l2.length (l2.map (eP (eI .i64) (eI .i64))),.rd a1 c0 2 l1.length e0,.gen (an ah r0 l1 e0),.obj b1 (.cells [.func (.func 74) #[] #[]] .own)]⟩) ?_ (fun _ _=>rfl) (fun r d=>by rcases r with _|_<;>(intro e; cases e)) _ _ _ h30 ()
           clear hF h30;rintro v21 ⟨⟩ r hF;unfold vU at hF;refine Wk.seq<|Wk.region<|Wo.od (aq rfl rfl (aD _ _ _)) rfl<|Wo.nil<|At.tn<|Wk.seq ?_;rcases ae hF with⟨h31,hF⟩|⟨h31,hF⟩
           ·refine Wk.ay rfl h31<|Wk.skip<|At.tn<|Wk.seq<|Wk.block<|Wk.seq<|Wk.region<|Wo.od (ab rfl) rfl ?_;obtain⟨h11,hF⟩:=al hF;replace h11:=ar h11;refine Wo.bE (k:=3) rfl (aH h11) ?_;rintro b2 o1 rfl;refine Wo.og (aV cz rfl rfl h11) gn rfl ?_;obtain⟨⟨l9,l10⟩,h63,hF⟩:=J hF;refine Wo.x (cF (r:=ah) (w:=2) (j:=v21.toNat) (c:=0) (q:=5) (z:=(l9,l10)) (V:=fun g=>.agg #[.slice g.1.1 l9.length g.1.2,.slice g.2.1 l10.length g.2.2.1]) (N:=fun g=>[.rd g.1.1 g.1.2 1 l9.length (l9.map (eI .i64)),.rd g.2.1 g.2.2.1 1 l10.length g.2.2.2,.gen (an aw r0 l10 g.2.2.2),.ro b2 o1 2 l1.length e0,.obj b1 (.cells [.func (.func 74) #[] #[]] .own),.obj b0 (.cells [.slice a0 l2.length c1,.slice (some ⟨b2,o1,none⟩) l1.length c0] .own),.rd a0 c1 2 l2.length (l2.map (eP (eI .i64) (eI .i64))),.rd (some ⟨b2,o1,none⟩) c0 2 l1.length e0,.gen (an ah r0 l1 e0)]) cy rfl rfl (cE (k:=0) rfl) rfl h63 (fun _=>rfl) rfl (fun _=>rfl)) gn rfl ?_;rintro⟨⟨a8,c8⟩,⟨a9,c9,e5⟩⟩;refine Wo.x (aQ z31 rfl) gn rfl fun b16=>?_;refine Wo.od (ai rfl) rfl<|Wo.o0 (aF (k:=0) cy rfl rfl rfl rfl rfl)<|Wo.nil<|At.tn<|Wk.seq<|Wk.region<|Wo.od (ab rfl) rfl<|Wo.od (aj (k:=0) cy rfl rfl rfl) rfl ?_;obtain⟨v6,h64,hF⟩:=J hF;refine Wo.x (bg (α:=Unit) (V:=fun g=>(fun(r:Bool) (g:Unit)=>match r,g with|v6,_=>(.bool v6:Value)) v6 g) (N:=fun g=>(fun(r:Bool) (g:Unit)=>match r,g with|v6,_=>([.obj b0 (.cells [.slice a0 l2.length c1,.slice (some ⟨b2,o1,none⟩) l1.length c0] .own),.rd a0 c1 2 l2.length (l2.map (eP (eI .i64) (eI .i64))),.ro b2 o1 2 l1.length e0,.gen (an ah r0 l1 e0),.rd (some ⟨b2,o1,none⟩) c0 2 l1.length e0,.obj b1 (.cells [.func (.func 74) #[] #[]] .own)]:List Pc)) v6 g) rfl rfl (fun m hm=>?_)) gn rfl ?_
            ·clear hF;revert v6;intro r hF;refine ak (N:=9) (rs:=[.tmp 4]) rfl Tryz.func79 rfl rfl rfl hm<|Wk.seq<|Wk.region<|Wo.x (bR rfl) gn rfl fun b17=>?_;refine Wo.od (ai rfl) rfl<|Wo.nil<|At.tn<|Wk.seq<|Wk.region<|Wo.od (aj (k:=6) qt rfl rfl rfl) rfl<|Wo.od (aj (k:=0) cy rfl rfl rfl) rfl<|Wo.od (eU rfl rfl) rfl ?_;obtain⟨v7,h65,hF⟩:=J hF;refine Wo.x (bg (α:=Unit) (V:=fun g=>(fun(r:Bool) (g:Unit)=>match r,g with|v7,_=>(.bool v7:Value)) v7 g) (N:=fun g=>(fun(r:Bool) (g:Unit)=>match r,g with|v7,_=>([.obj b0 (.cells [.slice a0 l2.length c1,.slice (some ⟨b2,o1,none⟩) l1.length c0] .own),.rd a0 c1 2 l2.length (l2.map (eP (eI .i64) (eI .i64))),.ro b2 o1 2 l1.length e0,.gen (an ah r0 l1 e0),.rd (some ⟨b2,o1,none⟩) c0 2 l1.length e0,.obj b1 (.cells [.func (.func 74) #[] #[]] .own)]:List Pc)) v7 g) rfl rfl (fun m hm=>?_)) gn rfl ?_
             ·clear hF;revert v7;intro r hF;refine ak (N:=20) (rs:=[.tmp 4]) rfl Tryz.func74 rfl rfl rfl hm<|Wk.seq<|Wk.region<|Wo.x (bR rfl) gn rfl fun b18=>?_;refine Wo.od (ai rfl) rfl<|Wo.nil<|At.tn<|Wk.seq<|Wk.seq<|Wk.region<|Wo.od (aj (k:=0) cy rfl rfl rfl) rfl ?_;obtain⟨l4,h66,hF⟩:=J hF;refine Wo.x (iA (N:=(fun x:Option Addr × Nat × Nat × List (List Value) × (Nat→Prop)=>[.rd (x.1) (x.2.1) 1 (x.2.2.1) (x.2.2.2.1),.gen (an aw (x.2.2.2.2) l4 (x.2.2.2.1))])) rfl rfl (fun m hm=>fi n l9 l10 a8 c8 a9 c9 r0 e5 _ h66 m hm.dF (hm.rd (k:=3) rfl (.rd _ _ _ _ _)) (hm.di (k:=3) rfl) (hm.rd (k:=4) rfl (.rd _ _ _ _ _)) (hm.di (k:=4) rfl) (hm.dp (q:=5) rfl) (hm.eE (q:=5) rfl)) fun _=>rfl) gn rfl ?_;rintro⟨a3,c3,n1,e2,r3⟩;refine Wo.eu (k:=0) (q:=1) (L:=l4) rfl (.inr (.inl ⟨_,rfl⟩)) rfl ?_;rintro rfl;refine Wo.od (bG (k:=0) mL rfl rfl (.inl rfl)) rfl<|Wo.od (ab rfl) rfl<|Wo.nil<|At.tn<|Wk.block ?_;obtain⟨r10,h32,hF⟩:=J hF;refine Wk.cut (G:=(fun(r:(Unit) ⊕ (Unit)) (g:Unit)=>match r,g with | .inl _,_=>⟨.ret,[(4,.bool true)],[.obj b0 (.cells [.slice a0 l2.length c1,.slice (some ⟨b2,o1,none⟩) l1.length c0] .own),.rd a0 c1 2 l2.length (l2.map (eP (eI .i64) (eI .i64))),.ro b2 o1 2 l1.length e0,.gen (an ah r0 l1 e0),.rd (some ⟨b2,o1,none⟩) c0 2 l1.length e0,.obj b1 (.cells [.func (.func 74) #[] #[]] .own)]⟩ | .inr _,_=>⟨(.exit 0),[],[.obj b0 (.cells [.slice a0 l2.length c1,.slice (some ⟨b2,o1,none⟩) l1.length c0] .own),.rd a0 c1 2 l2.length (l2.map (eP (eI .i64) (eI .i64))),.ro b2 o1 2 l1.length e0,.gen (an ah r0 l1 e0),.rd (some ⟨b2,o1,none⟩) c0 2 l1.length e0,.obj b1 (.cells [.func (.func 74) #[] #[]] .own)]⟩) r10) ?_ ?_
              ·refine Wk.bZ (fs':=[(1,.func (.func 80) #[] #[ptr b0 0]),(8,.slice a3 l4.length c3),(9,.int .i64 (l4.length:Int)),(10,.int .i64 0)]) (ps':=[.obj b0 (.cells [.slice a0 l2.length c1,.slice (some ⟨b2,o1,none⟩) l1.length c0] .own),.rd a0 c1 2 l2.length (l2.map (eP (eI .i64) (eI .i64))),.ro b2 o1 2 l1.length e0,.gen (an ah r0 l1 e0),.rd (some ⟨b2,o1,none⟩) c0 2 l1.length e0,.rd a3 c3 1 l4.length e2,.gen (an aw r3 l4 e2),.obj b1 (.cells [.func (.func 74) #[] #[]] .own)]) (sc rfl (sc rfl (sc rfl (sc rfl sn)))) (aa.U [10,11,8,13,12,0,1,9] rfl rfl) ?_;refine Wk.loop (σ:=Int) (ρ:=(Unit) ⊕ (Unit)) (γ:=Unit) (δ:=fun _=>Unit) _ (fun(s:Int) (g:Unit)=>match s,g with|v22,_=>⟨.normal,[(1,.func (.func 80) #[] #[ptr b0 0]),(8,.slice a3 l4.length c3),(9,.int .i64 (l4.length:Int)),(10,.int .i64 v22)],[.obj b0 (.cells [.slice a0 l2.length c1,.slice (some ⟨b2,o1,none⟩) l1.length c0] .own),.rd a0 c1 2 l2.length (l2.map (eP (eI .i64) (eI .i64))),.ro b2 o1 2 l1.length e0,.gen (an ah r0 l1 e0),.rd (some ⟨b2,o1,none⟩) c0 2 l1.length e0,.rd a3 c3 1 l4.length e2,.gen (an aw r3 l4 e2),.obj b1 (.cells [.func (.func 74) #[] #[]] .own)]⟩) (fun(r:(Unit) ⊕ (Unit)) (g:Unit)=>match r,g with | .inl _,_=>⟨.ret,[(4,.bool true)],[.obj b0 (.cells [.slice a0 l2.length c1,.slice (some ⟨b2,o1,none⟩) l1.length c0] .own),.rd a0 c1 2 l2.length (l2.map (eP (eI .i64) (eI .i64))),.ro b2 o1 2 l1.length e0,.gen (an ah r0 l1 e0),.rd (some ⟨b2,o1,none⟩) c0 2 l1.length e0,.obj b1 (.cells [.func (.func 74) #[] #[]] .own)]⟩ | .inr _,_=>⟨(.exit 0),[],[.obj b0 (.cells [.slice a0 l2.length c1,.slice (some ⟨b2,o1,none⟩) l1.length c0] .own),.rd a0 c1 2 l2.length (l2.map (eP (eI .i64) (eI .i64))),.ro b2 o1 2 l1.length e0,.gen (an ah r0 l1 e0),.rd (some ⟨b2,o1,none⟩) c0 2 l1.length e0,.obj b1 (.cells [.func (.func 74) #[] #[]] .own)]⟩) ?_ (fun _ _=>rfl) (fun r d=>by rcases r with _|_<;>(intro e; cases e)) _ _ _ h32 ()
               clear hF h32;rintro v22 ⟨⟩ r hF;unfold wz at hF;refine Wk.seq<|Wk.region<|Wo.od (aq rfl rfl (aD _ _ _)) rfl<|Wo.nil<|At.tn<|Wk.seq ?_;rcases ae hF with⟨h33,hF⟩|⟨h33,hF⟩
               ·refine Wk.ay rfl h33<|Wk.skip<|At.tn<|Wk.seq<|Wk.block<|Wk.seq<|Wk.region<|Wo.od (ab rfl) rfl ?_;obtain⟨h12,hF⟩:=al hF;replace h12:=ar h12;refine Wo.bE (k:=5) rfl (aH h12) ?_;rintro b7 o5 rfl;refine Wo.og (aV ib rfl rfl h12) gn rfl ?_;obtain⟨l11,h67,hF⟩:=J hF;refine Wo.x (cF (r:=aw) (w:=1) (j:=v22.toNat) (c:=0) (q:=7) (z:=l11) (V:=fun g=>.slice g.1 l11.length g.2) (N:=fun g=>[.rd g.1 g.2 1 l11.length (l11.map (eI .i64)),.ro b7 o5 1 l4.length e2,.obj b0 (.cells [.slice a0 l2.length c1,.slice (some ⟨b2,o1,none⟩) l1.length c0] .own),.rd a0 c1 2 l2.length (l2.map (eP (eI .i64) (eI .i64))),.ro b2 o1 2 l1.length e0,.gen (an ah r0 l1 e0),.rd (some ⟨b2,o1,none⟩) c0 2 l1.length e0,.rd (some ⟨b7,o5,none⟩) c3 1 l4.length e2,.gen (an aw r3 l4 e2),.obj b1 (.cells [.func (.func 74) #[] #[]] .own)]) fp rfl rfl (cE (k:=0) rfl) rfl h67 (fun _=>rfl) rfl (fun _=>rfl)) gn rfl ?_;rintro⟨a10,c10⟩;refine Wo.od (ai rfl) rfl<|Wo.od (ai rfl) rfl<|Wo.nil<|At.tn<|Wk.seq<|Wk.region<|Wo.od (ab rfl) rfl<|Wo.od (ab rfl) rfl<|Wo.od (ab rfl) rfl ?_;obtain⟨v8,h68,hF⟩:=J hF;refine Wo.x (bg (α:=Unit) (V:=fun g=>(fun(r:Bool) (g:Unit)=>match r,g with|v8,_=>(.bool v8:Value)) v8 g) (N:=fun g=>(fun(r:Bool) (g:Unit)=>match r,g with|v8,_=>([.obj b0 (.cells [.slice a0 l2.length c1,.slice (some ⟨b2,o1,none⟩) l1.length c0] .own),.rd a0 c1 2 l2.length (l2.map (eP (eI .i64) (eI .i64))),.ro b2 o1 2 l1.length e0,.gen (an ah r0 l1 e0),.rd (some ⟨b2,o1,none⟩) c0 2 l1.length e0,.obj b1 (.cells [.func (.func 74) #[] #[]] .own),.ro b7 o5 1 l4.length e2,.gen (an aw r3 l4 e2),.rd (some ⟨b7,o5,none⟩) c3 1 l4.length e2]:List Pc)) v8 g) rfl rfl (fun m hm=>?_)) gn rfl ?_
                ·clear hF;revert v8;intro r hF;refine ak (N:=11) (rs:=[.tmp 5]) rfl Tryz.func80 rfl rfl rfl hm<|Wk.seq<|Wk.region<|Wo.od (ai rfl) rfl<|Wo.nil<|At.tn<|Wk.seq<|Wk.region<|Wo.od (aj (k:=2) aB rfl rfl rfl) rfl<|Wo.od (ab rfl) rfl ?_;obtain⟨l16,h69,hF⟩:=J hF;refine Wo.x (aR rfl rfl (fun m hm=>jg n l2 l1 l11 1 a0 c1 (some ⟨b2,o1,none⟩) c0 r0 e0 a10 c10 _ h69 m (hm.rd (k:=3) rfl (.rd _ _ _ _ _)) (hm.rd (k:=6) rfl (.rd _ _ _ _ _)) (hm.dp (q:=5) rfl) (hm.rd (k:=0) rfl (.rd _ _ _ _ _))) fun _=>rfl) gn rfl ?_;rintro⟨a11,n2⟩;refine Wo.len (k:=0) (xs:=l16) rfl ?_;rintro rfl;obtain⟨r16,h70,hF⟩:=J hF;refine Wo.x (aR rfl rfl (fun m hm=>xQ n l16 a11 l16.length _ h70 m (hm.rd (k:=0) rfl (.sl _ _ _ _))) fun _=>rfl) gn rfl ?_;rintro⟨⟩;refine Wo.od (aq rfl rfl (cW _ _)) rfl<|Wo.od (ai rfl) rfl<|Wo.nil<|At.tn<|Wk.ret ?_;cases hF;exact At.ret (.tmp rfl .nil) fun m' hm=>⟨(),rfl,(aa.U [3,4,5,6,7,10,2,9,8] rfl rfl) m' hm⟩
                ·clear h68;rintro⟨⟩;refine Wo.nil<|At.tn ?_;rcases ae hF with⟨h34,hF⟩|⟨h34,hF⟩
                 ·refine Wk.ay rfl h34<|Wk.seq<|Wk.region<|Wo.od (ai rfl) rfl<|Wo.nil<|At.tn<|Wk.ret<|At.br<|At.tr ?_;cases hF;exact At.en () rfl (sc rfl sn) (aa.U [0,1,2,3,4,5] rfl rfl)
                 ·refine Wk.ax rfl h34<|Wk.skip<|At.bn<|At.tn<|Wk.region<|Wo.od (aq rfl rfl (aA _ _ _)) rfl<|Wo.od (ab rfl) rfl<|Wo.nil ?_;cases hF;exact At.en () rfl (sc rfl (sc rfl (sc rfl (sc rfl sn)))) (aa.U [0,1,2,3,4,8,7,5] rfl rfl)
               ·refine Wk.ax rfl h33<|Wk.exit<|At.te ?_;cases hF;exact At.en () rfl sn (aa.U [0,1,2,3,4,7] rfl rfl)
              ·clear h32;rcases r10 with _|_
               ·rintro⟨⟩;refine At.br<|At.tr ?_;cases hF;exact At.ret (.tmp rfl .nil) fun m' hm=>⟨(),rfl,(aa.U [0,1,2,3,4,5] rfl rfl) m' hm⟩
               ·rintro⟨⟩;refine At.be<|At.tn<|Wk.seq<|Wk.region<|Wo.od (ai rfl) rfl<|Wo.nil<|At.tn<|Wk.ret ?_;cases hF;exact At.ret (.tmp rfl .nil) fun m' hm=>⟨(),rfl,(aa.U [0,1,2,3,4,5] rfl rfl) m' hm⟩
             ·clear h65;rintro⟨⟩;refine Wo.od (ai rfl) rfl<|Wo.nil<|At.tn<|Wk.ret ?_;have hr:=Option.some.inj hF;subst r;exact At.ret (.tmp rfl .nil) fun m' hm=>⟨(),rfl,(aa.U [0,1,2,3,4,5] rfl rfl) m' hm⟩
            ·clear h64;rintro⟨⟩;refine Wo.nil<|At.tn ?_;rcases ae hF with⟨h35,hF⟩|⟨h35,hF⟩
             ·refine Wk.ay rfl h35<|Wk.seq<|Wk.region<|Wo.od (ab rfl) rfl<|Wo.od (ai rfl) rfl<|Wo.nil<|At.tn<|Wk.ret<|At.br<|At.tr ?_;cases hF;exact At.en () rfl (sc rfl sn) (aa.U [0,1,4,3,5] rfl rfl)
             ·refine Wk.ax rfl h35<|Wk.skip<|At.bn<|At.tn<|Wk.region<|Wo.od (aq rfl rfl (aA _ _ _)) rfl<|Wo.od (ab rfl) rfl<|Wo.nil ?_;cases hF;exact At.en () rfl (sc rfl (sc rfl (sc rfl (sc rfl sn)))) (aa.U [5,0,1,4,3] rfl rfl)
           ·refine Wk.ax rfl h31<|Wk.exit<|At.te ?_;cases hF;exact At.en () rfl sn (aa.U [1,2,3,4,0] rfl rfl)
          ·clear h30;rcases r9 with v17|_
           ·rintro⟨⟩;refine At.br<|At.tr ?_;have hr:=Option.some.inj hF;subst r;exact At.ret (.tmp rfl .nil) fun m' hm=>⟨(),rfl,(aa.U [0,1,2,3,4] rfl rfl) m' hm⟩
           ·rintro⟨⟩;refine At.be<|At.tn<|Wk.seq<|Wk.region<|Wo.od (ai rfl) rfl<|Wo.nil<|At.tn<|Wk.ret ?_;cases hF;exact At.ret (.tmp rfl .nil) fun m' hm=>⟨(),rfl,(aa.U [0,1,2,3,4] rfl rfl) m' hm⟩
         ·clear h62;rintro⟨⟩;refine Wo.od (ai rfl) rfl<|Wo.nil<|At.tn<|Wk.seq<|Wk.region<|Wo.od (ab rfl) rfl<|Wo.od (aq rfl rfl (dE _ _ _)) rfl<|Wo.nil<|At.tn ?_;rcases ae hF with⟨h36,hF⟩|⟨h36,hF⟩
          ·refine Wk.ay rfl h36<|Wk.seq<|Wk.region<|Wo.od (ab rfl) rfl<|Wo.od (ai rfl) rfl<|Wo.od (ai rfl) rfl<|Wo.nil<|At.tn<|Wk.ret<|At.tr ?_;cases hF;exact At.ret (.tmp rfl (.tmp rfl .nil)) fun m' hm=>⟨(),rfl,(aa.U [] rfl rfl) m' hm⟩
          ·refine Wk.ax rfl h36<|Wk.skip<|At.tn<|Wk.seq<|Wk.seq<|Wk.region<|Wo.od (au (r:=ptr b0 1) rfl (bu _ _)) rfl<|Wo.od (aj (k:=0) cG rfl rfl rfl) rfl<|Wo.od (eU rfl rfl) rfl ?_;obtain⟨v9,h71,hF⟩:=J hF;refine Wo.x (bg (α:=Unit) (V:=fun g=>(fun(r:Int) (g:Unit)=>match r,g with|v9,_=>(.int .i64 v9:Value)) v9 g) (N:=fun g=>(fun(r:Int) (g:Unit)=>match r,g with|v9,_=>([.obj b0 (.cells [.slice a0 l2.length c1,.slice a1 l1.length c0] .own),.rd a0 c1 2 l2.length (l2.map (eP (eI .i64) (eI .i64))),.rd a1 c0 2 l1.length e0,.gen (an ah r0 l1 e0)]:List Pc)) v9 g) rfl rfl (fun m hm=>?_)) gn rfl ?_
           ·clear hF;revert v9;intro r hF;refine ak (N:=19) (rs:=[.tmp 4]) rfl Tryz.func57 rfl rfl rfl hm<|Wk.seq<|Wk.region<|Wo.od (ai rfl) rfl<|Wo.nil<|At.tn<|Wk.seq<|Wk.seq<|Wk.region<|Wo.od (ab rfl) rfl<|Wo.od (bG (k:=2) mX rfl rfl (.inl rfl)) rfl<|Wo.od (ab rfl) rfl<|Wo.nil<|At.tn<|Wk.block ?_;obtain⟨r11,h37,hF⟩:=J hF;refine Wk.cut (G:=(fun(r:(Int) ⊕ (Unit)) (g:Unit)=>match r,g with | .inl v18,_=>⟨.ret,[(4,.int .i64 v18)],[.obj b0 (.cells [.slice a0 l2.length c1,.slice a1 l1.length c0] .own),.rd a0 c1 2 l2.length (l2.map (eP (eI .i64) (eI .i64))),.rd a1 c0 2 l1.length e0,.gen (an ah r0 l1 e0)]⟩ | .inr _,_=>⟨(.exit 0),[],[.obj b0 (.cells [.slice a0 l2.length c1,.slice a1 l1.length c0] .own),.rd a0 c1 2 l2.length (l2.map (eP (eI .i64) (eI .i64))),.rd a1 c0 2 l1.length e0,.gen (an ah r0 l1 e0)]⟩) r11) ?_ ?_
            ·refine Wk.bZ (fs':=[(1,.func (.func 82) #[] #[ptr b1 0,ptr b0 0]),(7,.slice a1 l1.length c0),(8,.int .i64 (l1.length:Int)),(9,.int .i64 0)]) (ps':=[.obj b1 (.cells [.func (.func 74) #[] #[]] .own),.obj b0 (.cells [.slice a0 l2.length c1,.slice a1 l1.length c0] .own),.rd a0 c1 2 l2.length (l2.map (eP (eI .i64) (eI .i64))),.rd a1 c0 2 l1.length e0,.gen (an ah r0 l1 e0)]) (sc rfl (sc rfl (sc rfl (sc rfl sn)))) (aa.U [4,0,1,2,3] rfl rfl) ?_;refine Wk.loop (σ:=Int) (ρ:=(Int) ⊕ (Unit)) (γ:=Unit) (δ:=fun _=>Unit) _ (fun(s:Int) (g:Unit)=>match s,g with|v23,_=>⟨.normal,[(1,.func (.func 82) #[] #[ptr b1 0,ptr b0 0]),(7,.slice a1 l1.length c0),(8,.int .i64 (l1.length:Int)),(9,.int .i64 v23)],[.obj b1 (.cells [.func (.func 74) #[] #[]] .own),.obj b0 (.cells [.slice a0 l2.length c1,.slice a1 l1.length c0] .own),.rd a0 c1 2 l2.length (l2.map (eP (eI .i64) (eI .i64))),.rd a1 c0 2 l1.length e0,.gen (an ah r0 l1 e0)]⟩) (fun(r:(Int) ⊕ (Unit)) (g:Unit)=>match r,g with | .inl v18,_=>⟨.ret,[(4,.int .i64 v18)],[.obj b0 (.cells [.slice a0 l2.length c1,.slice a1 l1.length c0] .own),.rd a0 c1 2 l2.length (l2.map (eP (eI .i64) (eI .i64))),.rd a1 c0 2 l1.length e0,.gen (an ah r0 l1 e0)]⟩ | .inr _,_=>⟨(.exit 0),[],[.obj b0 (.cells [.slice a0 l2.length c1,.slice a1 l1.length c0] .own),.rd a0 c1 2 l2.length (l2.map (eP (eI .i64) (eI .i64))),.rd a1 c0 2 l1.length e0,.gen (an ah r0 l1 e0)]⟩) ?_ (fun _ _=>rfl) (fun r d=>by rcases r with _|_<;>(intro e; cases e)) _ _ _ h37 ()
             clear hF h37;rintro v23 ⟨⟩ r hF;unfold wv at hF;refine Wk.seq<|Wk.region<|Wo.od (aq rfl rfl (aD _ _ _)) rfl<|Wo.nil<|At.tn<|Wk.seq ?_;rcases ae hF with⟨h38,hF⟩|⟨h38,hF⟩
             ·refine Wk.ay rfl h38<|Wk.skip<|At.tn<|Wk.seq<|Wk.block<|Wk.seq<|Wk.region<|Wo.od (ab rfl) rfl ?_;obtain⟨h13,hF⟩:=al hF;replace h13:=ar h13;refine Wo.bE (k:=3) rfl (aH h13) ?_;rintro b3 o2 rfl;refine Wo.og (aV cz rfl rfl h13) gn rfl ?_;obtain⟨⟨l12,l13⟩,h72,hF⟩:=J hF;refine Wo.x (cF (r:=ah) (w:=2) (j:=v23.toNat) (c:=0) (q:=5) (z:=(l12,l13)) (V:=fun g=>.agg #[.slice g.1.1 l12.length g.1.2,.slice g.2.1 l13.length g.2.2.1]) (N:=fun g=>[.rd g.1.1 g.1.2 1 l12.length (l12.map (eI .i64)),.rd g.2.1 g.2.2.1 1 l13.length g.2.2.2,.gen (an aw r0 l13 g.2.2.2),.ro b3 o2 2 l1.length e0,.obj b1 (.cells [.func (.func 74) #[] #[]] .own),.obj b0 (.cells [.slice a0 l2.length c1,.slice (some ⟨b3,o2,none⟩) l1.length c0] .own),.rd a0 c1 2 l2.length (l2.map (eP (eI .i64) (eI .i64))),.rd (some ⟨b3,o2,none⟩) c0 2 l1.length e0,.gen (an ah r0 l1 e0)]) cy rfl rfl (cE (k:=0) rfl) rfl h72 (fun _=>rfl) rfl (fun _=>rfl)) gn rfl ?_;rintro⟨⟨a12,c11⟩,⟨a13,c12,e6⟩⟩;refine Wo.x (aQ z31 rfl) gn rfl fun b19=>?_;refine Wo.od (ai rfl) rfl<|Wo.o0 (aF (k:=0) cy rfl rfl rfl rfl rfl)<|Wo.nil<|At.tn<|Wk.seq<|Wk.region<|Wo.od (ab rfl) rfl<|Wo.od (aj (k:=0) cy rfl rfl rfl) rfl ?_;obtain⟨v10,h73,hF⟩:=J hF;refine Wo.x (bg (α:=Unit) (V:=fun g=>(fun(r:Bool) (g:Unit)=>match r,g with|v10,_=>(.bool v10:Value)) v10 g) (N:=fun g=>(fun(r:Bool) (g:Unit)=>match r,g with|v10,_=>([.obj b0 (.cells [.slice a0 l2.length c1,.slice (some ⟨b3,o2,none⟩) l1.length c0] .own),.rd a0 c1 2 l2.length (l2.map (eP (eI .i64) (eI .i64))),.ro b3 o2 2 l1.length e0,.gen (an ah r0 l1 e0),.rd (some ⟨b3,o2,none⟩) c0 2 l1.length e0,.obj b1 (.cells [.func (.func 74) #[] #[]] .own)]:List Pc)) v10 g) rfl rfl (fun m hm=>?_)) gn rfl ?_
              ·clear hF;revert v10;intro r hF;refine ak (N:=9) (rs:=[.tmp 4]) rfl Tryz.func82 rfl rfl rfl hm<|Wk.seq<|Wk.region<|Wo.x (bR rfl) gn rfl fun b20=>?_;refine Wo.od (ai rfl) rfl<|Wo.nil<|At.tn<|Wk.seq<|Wk.region<|Wo.od (aj (k:=6) qt rfl rfl rfl) rfl<|Wo.od (aj (k:=0) cy rfl rfl rfl) rfl<|Wo.od (eU rfl rfl) rfl ?_;obtain⟨v11,h74,hF⟩:=J hF;refine Wo.x (bg (α:=Unit) (V:=fun g=>(fun(r:Bool) (g:Unit)=>match r,g with|v11,_=>(.bool v11:Value)) v11 g) (N:=fun g=>(fun(r:Bool) (g:Unit)=>match r,g with|v11,_=>([.obj b0 (.cells [.slice a0 l2.length c1,.slice (some ⟨b3,o2,none⟩) l1.length c0] .own),.rd a0 c1 2 l2.length (l2.map (eP (eI .i64) (eI .i64))),.ro b3 o2 2 l1.length e0,.gen (an ah r0 l1 e0),.rd (some ⟨b3,o2,none⟩) c0 2 l1.length e0,.obj b1 (.cells [.func (.func 74) #[] #[]] .own)]:List Pc)) v11 g) rfl rfl (fun m hm=>?_)) gn rfl ?_
               ·clear hF;revert v11;intro r hF;refine ak (N:=20) (rs:=[.tmp 4]) rfl Tryz.func74 rfl rfl rfl hm<|Wk.seq<|Wk.region<|Wo.x (bR rfl) gn rfl fun b21=>?_;refine Wo.od (ai rfl) rfl<|Wo.nil<|At.tn<|Wk.seq<|Wk.seq<|Wk.region<|Wo.od (aj (k:=0) cy rfl rfl rfl) rfl ?_;obtain⟨l5,h75,hF⟩:=J hF;refine Wo.x (iA (N:=(fun x:Option Addr × Nat × Nat × List (List Value) × (Nat→Prop)=>[.rd (x.1) (x.2.1) 1 (x.2.2.1) (x.2.2.2.1),.gen (an aw (x.2.2.2.2) l5 (x.2.2.2.1))])) rfl rfl (fun m hm=>fi n l12 l13 a12 c11 a13 c12 r0 e6 _ h75 m hm.dF (hm.rd (k:=3) rfl (.rd _ _ _ _ _)) (hm.di (k:=3) rfl) (hm.rd (k:=4) rfl (.rd _ _ _ _ _)) (hm.di (k:=4) rfl) (hm.dp (q:=5) rfl) (hm.eE (q:=5) rfl)) fun _=>rfl) gn rfl ?_;rintro⟨a4,c4,n3,e3,r4⟩;refine Wo.eu (k:=0) (q:=1) (L:=l5) rfl (.inr (.inl ⟨_,rfl⟩)) rfl ?_;rintro rfl;refine Wo.od (bG (k:=0) mL rfl rfl (.inl rfl)) rfl<|Wo.od (ab rfl) rfl<|Wo.nil<|At.tn<|Wk.block ?_;obtain⟨r12,h39,hF⟩:=J hF;refine Wk.cut (G:=(fun(r:(Unit) ⊕ (Unit)) (g:Unit)=>match r,g with | .inl _,_=>⟨.ret,[(4,.bool true)],[.obj b0 (.cells [.slice a0 l2.length c1,.slice (some ⟨b3,o2,none⟩) l1.length c0] .own),.rd a0 c1 2 l2.length (l2.map (eP (eI .i64) (eI .i64))),.ro b3 o2 2 l1.length e0,.gen (an ah r0 l1 e0),.rd (some ⟨b3,o2,none⟩) c0 2 l1.length e0,.obj b1 (.cells [.func (.func 74) #[] #[]] .own)]⟩ | .inr _,_=>⟨(.exit 0),[],[.obj b0 (.cells [.slice a0 l2.length c1,.slice (some ⟨b3,o2,none⟩) l1.length c0] .own),.rd a0 c1 2 l2.length (l2.map (eP (eI .i64) (eI .i64))),.ro b3 o2 2 l1.length e0,.gen (an ah r0 l1 e0),.rd (some ⟨b3,o2,none⟩) c0 2 l1.length e0,.obj b1 (.cells [.func (.func 74) #[] #[]] .own)]⟩) r12) ?_ ?_
                ·refine Wk.bZ (fs':=[(1,.func (.func 83) #[] #[ptr b0 0]),(8,.slice a4 l5.length c4),(9,.int .i64 (l5.length:Int)),(10,.int .i64 0)]) (ps':=[.obj b0 (.cells [.slice a0 l2.length c1,.slice (some ⟨b3,o2,none⟩) l1.length c0] .own),.rd a0 c1 2 l2.length (l2.map (eP (eI .i64) (eI .i64))),.ro b3 o2 2 l1.length e0,.gen (an ah r0 l1 e0),.rd (some ⟨b3,o2,none⟩) c0 2 l1.length e0,.rd a4 c4 1 l5.length e3,.gen (an aw r4 l5 e3),.obj b1 (.cells [.func (.func 74) #[] #[]] .own)]) (sc rfl (sc rfl (sc rfl (sc rfl sn)))) (aa.U [10,11,8,13,12,0,1,9] rfl rfl) ?_;refine Wk.loop (σ:=Int) (ρ:=(Unit) ⊕ (Unit)) (γ:=Unit) (δ:=fun _=>Unit) _ (fun(s:Int) (g:Unit)=>match s,g with|v24,_=>⟨.normal,[(1,.func (.func 83) #[] #[ptr b0 0]),(8,.slice a4 l5.length c4),(9,.int .i64 (l5.length:Int)),(10,.int .i64 v24)],[.obj b0 (.cells [.slice a0 l2.length c1,.slice (some ⟨b3,o2,none⟩) l1.length c0] .own),.rd a0 c1 2 l2.length (l2.map (eP (eI .i64) (eI .i64))),.ro b3 o2 2 l1.length e0,.gen (an ah r0 l1 e0),.rd (some ⟨b3,o2,none⟩) c0 2 l1.length e0,.rd a4 c4 1 l5.length e3,.gen (an aw r4 l5 e3),.obj b1 (.cells [.func (.func 74) #[] #[]] .own)]⟩) (fun(r:(Unit) ⊕ (Unit)) (g:Unit)=>match r,g with | .inl _,_=>⟨.ret,[(4,.bool true)],[.obj b0 (.cells [.slice a0 l2.length c1,.slice (some ⟨b3,o2,none⟩) l1.length c0] .own),.rd a0 c1 2 l2.length (l2.map (eP (eI .i64) (eI .i64))),.ro b3 o2 2 l1.length e0,.gen (an ah r0 l1 e0),.rd (some ⟨b3,o2,none⟩) c0 2 l1.length e0,.obj b1 (.cells [.func (.func 74) #[] #[]] .own)]⟩ | .inr _,_=>⟨(.exit 0),[],[.obj b0 (.cells [.slice a0 l2.length c1,.slice (some ⟨b3,o2,none⟩) l1.length c0] .own),.rd a0 c1 2 l2.length (l2.map (eP (eI .i64) (eI .i64))),.ro b3 o2 2 l1.length e0,.gen (an ah r0 l1 e0),.rd (some ⟨b3,o2,none⟩) c0 2 l1.length e0,.obj b1 (.cells [.func (.func 74) #[] #[]] .own)]⟩) ?_ (fun _ _=>rfl) (fun r d=>by rcases r with _|_<;>(intro e; cases e)) _ _ _ h39 ()
                 clear hF h39;rintro v24 ⟨⟩ r hF;unfold vS at hF;refine Wk.seq<|Wk.region<|Wo.od (aq rfl rfl (aD _ _ _)) rfl<|Wo.nil<|At.tn<|Wk.seq ?_;rcases ae hF with⟨h40,hF⟩|⟨h40,hF⟩
                 ·refine Wk.ay rfl h40<|Wk.skip<|At.tn<|Wk.seq<|Wk.block<|Wk.seq<|Wk.region<|Wo.od (ab rfl) rfl ?_;obtain⟨h14,hF⟩:=al hF;replace h14:=ar h14;refine Wo.bE (k:=5) rfl (aH h14) ?_;rintro b8 o6 rfl;refine Wo.og (aV ib rfl rfl h14) gn rfl ?_;obtain⟨l14,h76,hF⟩:=J hF;refine Wo.x (cF (r:=aw) (w:=1) (j:=v24.toNat) (c:=0) (q:=7) (z:=l14) (V:=fun g=>.slice g.1 l14.length g.2) (N:=fun g=>[.rd g.1 g.2 1 l14.length (l14.map (eI .i64)),.ro b8 o6 1 l5.length e3,.obj b0 (.cells [.slice a0 l2.length c1,.slice (some ⟨b3,o2,none⟩) l1.length c0] .own),.rd a0 c1 2 l2.length (l2.map (eP (eI .i64) (eI .i64))),.ro b3 o2 2 l1.length e0,.gen (an ah r0 l1 e0),.rd (some ⟨b3,o2,none⟩) c0 2 l1.length e0,.rd (some ⟨b8,o6,none⟩) c4 1 l5.length e3,.gen (an aw r4 l5 e3),.obj b1 (.cells [.func (.func 74) #[] #[]] .own)]) fp rfl rfl (cE (k:=0) rfl) rfl h76 (fun _=>rfl) rfl (fun _=>rfl)) gn rfl ?_;rintro⟨a14,c13⟩;refine Wo.od (ai rfl) rfl<|Wo.od (ai rfl) rfl<|Wo.nil<|At.tn<|Wk.seq<|Wk.region<|Wo.od (ab rfl) rfl<|Wo.od (ab rfl) rfl<|Wo.od (ab rfl) rfl ?_;obtain⟨v12,h77,hF⟩:=J hF;refine Wo.x (bg (α:=Unit) (V:=fun g=>(fun(r:Bool) (g:Unit)=>match r,g with|v12,_=>(.bool v12:Value)) v12 g) (N:=fun g=>(fun(r:Bool) (g:Unit)=>match r,g with|v12,_=>([.obj b0 (.cells [.slice a0 l2.length c1,.slice (some ⟨b3,o2,none⟩) l1.length c0] .own),.rd a0 c1 2 l2.length (l2.map (eP (eI .i64) (eI .i64))),.ro b3 o2 2 l1.length e0,.gen (an ah r0 l1 e0),.rd (some ⟨b3,o2,none⟩) c0 2 l1.length e0,.obj b1 (.cells [.func (.func 74) #[] #[]] .own),.ro b8 o6 1 l5.length e3,.gen (an aw r4 l5 e3),.rd (some ⟨b8,o6,none⟩) c4 1 l5.length e3]:List Pc)) v12 g) rfl rfl (fun m hm=>?_)) gn rfl ?_
                  ·clear hF;revert v12;intro r hF;refine ak (N:=14) (rs:=[.tmp 5]) rfl Tryz.func83 rfl rfl rfl hm<|Wk.seq<|Wk.region<|Wo.od (ai rfl) rfl<|Wo.nil<|At.tn<|Wk.seq<|Wk.region<|Wo.od (aj (k:=2) aB rfl rfl rfl) rfl<|Wo.od (ab rfl) rfl ?_;obtain⟨l17,h78,hF⟩:=J hF;refine Wo.x (aR rfl rfl (fun m hm=>jg n l2 l1 l14 1 a0 c1 (some ⟨b3,o2,none⟩) c0 r0 e0 a14 c13 _ h78 m (hm.rd (k:=3) rfl (.rd _ _ _ _ _)) (hm.rd (k:=6) rfl (.rd _ _ _ _ _)) (hm.dp (q:=5) rfl) (hm.rd (k:=0) rfl (.rd _ _ _ _ _))) fun _=>rfl) gn rfl ?_;rintro⟨a15,n4⟩;refine Wo.len (k:=0) (xs:=l17) rfl ?_;rintro rfl;obtain⟨r17,h79,hF⟩:=J hF;refine Wo.x (aR rfl rfl (fun m hm=>sA n l17 a15 l17.length _ h79 m (hm.rd (k:=0) rfl (.sl _ _ _ _))) fun _=>rfl) gn rfl ?_;rintro⟨⟩;refine Wo.od (aq rfl rfl (aD _ _ _)) rfl<|Wo.od (ab rfl) rfl<|Wo.od (aq rfl rfl (ba _ _ _)) rfl<|Wo.od (aq rfl rfl (vN u4)) rfl<|Wo.od (ai rfl) rfl<|Wo.nil<|At.tn<|Wk.ret ?_;cases hF;exact At.ret (.tmp rfl .nil) fun m' hm=>⟨(),rfl,(aa.U [3,4,5,6,7,10,2,9,8] rfl rfl) m' hm⟩
                  ·clear h77;rintro⟨⟩;refine Wo.nil<|At.tn ?_;rcases ae hF with⟨h41,hF⟩|⟨h41,hF⟩
                   ·refine Wk.ay rfl h41<|Wk.seq<|Wk.region<|Wo.od (ai rfl) rfl<|Wo.nil<|At.tn<|Wk.ret<|At.br<|At.tr ?_;cases hF;exact At.en () rfl (sc rfl sn) (aa.U [0,1,2,3,4,5] rfl rfl)
                   ·refine Wk.ax rfl h41<|Wk.skip<|At.bn<|At.tn<|Wk.region<|Wo.od (aq rfl rfl (aA _ _ _)) rfl<|Wo.od (ab rfl) rfl<|Wo.nil ?_;cases hF;exact At.en () rfl (sc rfl (sc rfl (sc rfl (sc rfl sn)))) (aa.U [0,1,2,3,4,8,7,5] rfl rfl)
                 ·refine Wk.ax rfl h40<|Wk.exit<|At.te ?_;cases hF;exact At.en () rfl sn (aa.U [0,1,2,3,4,7] rfl rfl)
                ·clear h39;rcases r12 with _|_
                 ·rintro⟨⟩;refine At.br<|At.tr ?_;cases hF;exact At.ret (.tmp rfl .nil) fun m' hm=>⟨(),rfl,(aa.U [0,1,2,3,4,5] rfl rfl) m' hm⟩
                 ·rintro⟨⟩;refine At.be<|At.tn<|Wk.seq<|Wk.region<|Wo.od (ai rfl) rfl<|Wo.nil<|At.tn<|Wk.ret ?_;cases hF;exact At.ret (.tmp rfl .nil) fun m' hm=>⟨(),rfl,(aa.U [0,1,2,3,4,5] rfl rfl) m' hm⟩
               ·clear h74;rintro⟨⟩;refine Wo.od (ai rfl) rfl<|Wo.nil<|At.tn<|Wk.ret ?_;have hr:=Option.some.inj hF;subst r;exact At.ret (.tmp rfl .nil) fun m' hm=>⟨(),rfl,(aa.U [0,1,2,3,4,5] rfl rfl) m' hm⟩
              ·clear h73;rintro⟨⟩;refine Wo.nil<|At.tn ?_;rcases ae hF with⟨h42,hF⟩|⟨h42,hF⟩
               ·refine Wk.ay rfl h42<|Wk.seq<|Wk.region<|Wo.od (ab rfl) rfl<|Wo.od (ai rfl) rfl<|Wo.nil<|At.tn<|Wk.ret<|At.br<|At.tr ?_;cases hF;exact At.en () rfl (sc rfl sn) (aa.U [0,1,4,3] rfl rfl)
               ·refine Wk.ax rfl h42<|Wk.skip<|At.bn<|At.tn<|Wk.region<|Wo.od (aq rfl rfl (aA _ _ _)) rfl<|Wo.od (ab rfl) rfl<|Wo.nil ?_;cases hF;exact At.en () rfl (sc rfl (sc rfl (sc rfl (sc rfl sn)))) (aa.U [5,0,1,4,3] rfl rfl)
             ·refine Wk.ax rfl h38<|Wk.exit<|At.te ?_;cases hF;exact At.en () rfl sn (aa.U [1,2,3,4] rfl rfl)
            ·clear h37;rcases r11 with v18|_
             ·rintro⟨⟩;refine At.br<|At.tr ?_;have hr:=Option.some.inj hF;subst r;exact At.ret (.tmp rfl .nil) fun m' hm=>⟨(),rfl,(aa.U [0,1,2,3] rfl rfl) m' hm⟩
             ·rintro⟨⟩;refine At.be<|At.tn<|Wk.seq<|Wk.region<|Wo.od (ai rfl) rfl<|Wo.nil<|At.tn<|Wk.ret ?_;cases hF;exact At.ret (.tmp rfl .nil) fun m' hm=>⟨(),rfl,(aa.U [0,1,2,3] rfl rfl) m' hm⟩
           ·clear h71;rintro⟨⟩;refine Wo.od (ai rfl) rfl<|Wo.nil<|At.tn<|Wk.seq<|Wk.region<|Wo.od (ab rfl) rfl<|Wo.od (aq rfl rfl (dE _ _ _)) rfl<|Wo.nil<|At.tn ?_;rcases ae hF with⟨h43,hF⟩|⟨h43,hF⟩
            ·refine Wk.ay rfl h43<|Wk.seq<|Wk.region<|Wo.od (ab rfl) rfl<|Wo.od (ai rfl) rfl<|Wo.od (ai rfl) rfl<|Wo.nil<|At.tn<|Wk.ret<|At.tr ?_;cases hF;exact At.ret (.tmp rfl (.tmp rfl .nil)) fun m' hm=>⟨(),rfl,(aa.U [] rfl rfl) m' hm⟩
            ·refine Wk.ax rfl h43<|Wk.skip<|At.tn<|Wk.seq<|Wk.region<|Wo.od (aj (k:=0) aB rfl rfl rfl) rfl ?_;obtain⟨⟨r18,r19⟩,h80,hF⟩:=J hF;refine Wo.x (aR rfl rfl (fun m hm=>xh n l2 l1 a0 c1 a1 c0 r0 e0 _ h80 m (hm.rd (k:=1) rfl (.rd _ _ _ _ _)) (hm.rd (k:=2) rfl (.rd _ _ _ _ _)) (hm.dp (q:=3) rfl)) fun _=>rfl) gn rfl ?_;rintro⟨⟩;refine Wo.od (cj rfl rfl) rfl<|Wo.od (cj rfl rfl) rfl<|Wo.od (ai rfl) rfl<|Wo.od (ai rfl) rfl<|Wo.nil<|At.tn<|Wk.ret ?_;cases hF;exact At.ret (.tmp rfl (.tmp rfl .nil)) fun m' hm=>⟨(),rfl,(aa.U [] rfl rfl) m' hm⟩
theorem lp (n:Nat) (l1:List (Int × Int)) (l5:List (List Int × List (List Int))) (a2:Option Addr) (c3:Nat) (a6:Option Addr) (c7:Nat) (rr8:Nat→Prop) (es9:List (List Value)) (r:Int) (hF:xL n l1 l5=some r) (m:AMem) (h4:Rd m a2 c3 2 l1.length (l1.map (eP (eI .i64) (eI .i64)))) (h10:Rd m a6 c7 2 l5.length es9) (h11:(an ah rr8 l5 es9).P m) :
  aW (E15v p q) 47 [.agg #[.slice a2 l1.length c3,.slice a6 l5.length c7]] m (fun v m'=>∃_:Unit,v = .int .i64 r∧Hp m m' []):=by
 unfold xL at hF;refine ak (m0:=m) (ps:=[.gen (an ah rr8 l5 es9),.rd a6 c7 2 l5.length es9,.rd a2 c3 2 l1.length (l1.map (eP (eI .i64) (eI .i64)))]) (N:=12) (rs:=[.tmp 2]) rfl Tryz.func47 rfl rfl rfl (Hp.iQ (Hp.ct (Hp.ct (Hp.start m) dy h4) (dQ dy) h10) (dQ (dQ dy)) h11)<|Wk.seq<|Wk.region<|Wo.x (bR rfl) gn rfl fun b12=>?_;refine Wo.od (ai rfl) rfl<|Wo.nil<|At.tn<|Wk.seq<|Wk.seq<|Wk.region<|Wo.od (aj (k:=0) aB rfl rfl rfl) rfl ?_;obtain⟨⟨r14,r15⟩,h13,hF⟩:=J hF;refine Wo.x (aR rfl rfl (fun m hm=>sG n l1 l5 a2 c3 a6 c7 rr8 es9 _ h13 m (hm.rd (k:=3) rfl (.rd _ _ _ _ _)) (hm.rd (k:=2) rfl (.rd _ _ _ _ _)) (hm.dp (q:=1) rfl)) fun _=>rfl) gn rfl ?_;rintro⟨⟩;refine Wo.od (ab rfl) rfl<|Wo.od (cj rfl rfl) rfl<|Wo.od (cj rfl rfl) rfl<|Wo.od (ai rfl) rfl<|Wo.od (ai rfl) rfl<|Wo.nil<|At.tn<|Wk.seq<|Wk.region<|Wo.od (ab rfl) rfl<|Wo.od (aq rfl rfl (cx _ _ _)) rfl<|Wo.nil<|At.tn ?_;rcases ae hF with⟨h16,hF⟩|⟨h16,hF⟩
 ·refine Wk.ay rfl h16<|Wk.seq<|Wk.region<|Wo.od (ai rfl) rfl<|Wo.nil<|At.tn<|Wk.ret<|At.tr ?_;cases hF;exact At.ret (.tmp rfl .nil) fun m' hm=>⟨(),rfl,(aa.U [] rfl rfl) m' hm⟩
 ·refine Wk.ax rfl h16<|Wk.skip<|At.tn<|Wk.seq<|Wk.region<|Wo.od (ai rfl) rfl<|Wo.nil<|At.tn<|Wk.ret ?_;cases hF;exact At.ret (.tmp rfl .nil) fun m' hm=>⟨(),rfl,(aa.U [] rfl rfl) m' hm⟩
theorem rX (n:Nat) (l1:List (Int × Int)) (b1:Nat) (b2:Nat) (b0:Nat) {m0:AMem}:∀(k:Nat) (x3:Int) (r0:Int),yG n l1 k () x3=some r0→∀(rest:List Pc) (m:AMem),Hp m0 m (.obj b1 (.cells [.map (some b2)] .own)::.obj b2 (.map (l1.map (eM (fun n:Int=>.int .i64 n) (fun n:Int=>.int .i64 n))))::.obj b0 (.cells [.func (.func 67) #[] #[ptr b1 0,ptr b0 0]] .own)::rest) →
  aW (E15v (some iz) q) 67 [.int .i64 x3,ptr b1 0,ptr b0 0] m (fun v m'=>∃_:Unit,v = .int .i64 r0∧Hp m0 m' (.obj b1 (.cells [.map (some b2)] .own)::.obj b2 (.map (l1.map (eM (fun n:Int=>.int .i64 n) (fun n:Int=>.int .i64 n))))::.obj b0 (.cells [.func (.func 67) #[] #[ptr b1 0,ptr b0 0]] .own)::rest)):=by
 intro k
 induction k with
 | zero=>intro x3 r0 hF; cases hF
 | succ k ih =>
  intro x3 r0 hF rest m hm;replace hF:xd n (yG n l1 k) l1 () x3=_:=hF;unfold xd at hF;refine ak (N:=23) (rs:=[.tmp 4]) rfl Tryz.func67 rfl rfl rfl hm ?_;clear hm;refine Wk.seq<|Wk.region<|Wo.od (ai rfl) rfl<|Wo.nil<|At.tn<|Wk.seq<|Wk.seq<|Wk.region<|Wo.od (aj (k:=0) qb rfl rfl rfl) rfl<|Wo.od (ab rfl) rfl ?_;obtain⟨⟨y0,y1⟩,h2,hF⟩:=J hF;refine Wo.od (si (q:=1) (xs:=l1) (k:=x3) (vE:=(fun n:Int=>.int .i64 n)) (z0:=(0:Int)) xX (u9 u3) z3 rfl rfl rfl rfl h2) rfl<|Wo.od (ab rfl) rfl<|Wo.od (cj rfl rfl) rfl<|Wo.od (cj rfl rfl) rfl<|Wo.od (ai rfl) rfl<|Wo.od (ai rfl) rfl<|Wo.nil<|At.tn<|Wk.seq ?_;obtain⟨v0,h3,hF⟩:=J hF;refine Wk.cut (G:=(fun(r:Bool) (g:Unit)=>match r,g with|v0,_=>⟨.normal,[(0,.int .i64 x3),(2,ptr b0 0),(5,.int .i64 y0),(18,.bool v0)],(.obj b0 (.cells [.func (.func 67) #[] #[ptr b1 0,ptr b0 0]] .own)::.obj b1 (.cells [.map (some b2)] .own)::.obj b2 (.map (l1.map (eM (fun n:Int=>.int .i64 n) (fun n:Int=>.int .i64 n))))::rest)⟩) v0) ?_ ?_
  ·clear hF;revert v0;intro r hF;refine Wk.region<|Wo.od (ab rfl) rfl<|Wo.od (ab rfl) rfl ?_;rcases ae hF with⟨h0,hF⟩|⟨h0,hF⟩
   ·refine Wo.og (ab rfl) (gg rfl rfl (aI h0)) rfl<|Wo.og (ab rfl) (gg rfl rfl (aI h0)) rfl<|Wo.og (aq rfl rfl (cW _ _)) (gg rfl rfl (aI h0)) rfl<|Wo.od (bf rfl h0 rfl) rfl<|Wo.nil ?_;cases hF;exact At.en () rfl (sc rfl (sc rfl (sc rfl (sc rfl sn)))) (aa.hC 3 [2,0,1] rfl rfl rfl)
   ·refine Wo.s (gg rfl rfl (aJ h0)) rfl<|Wo.s (gg rfl rfl (aJ h0)) rfl<|Wo.s (gg rfl rfl (aJ h0)) rfl<|Wo.od (bc rfl h0 rfl) rfl<|Wo.nil ?_;cases hF;exact At.en () rfl (sc rfl (sc rfl (sc rfl (sc rfl sn)))) (aa.hC 3 [2,0,1] rfl rfl rfl)
  ·clear h3;rintro⟨⟩;refine At.tn ?_;rcases ae hF with⟨h1,hF⟩|⟨h1,hF⟩
   ·refine Wk.ay rfl h1<|Wk.seq<|Wk.region<|Wo.od (aj (k:=0) uS rfl rfl rfl) rfl<|Wo.od (ab rfl) rfl ?_;obtain⟨r1,h4,hF⟩:=J hF;refine Wo.aG (aa.hC 3 [1,2,0] rfl rfl rfl)<|Wo.x (bg (α:=Unit) (V:=fun _=>.int .i64 r1) (N:=fun _=>(.obj b1 (.cells [.map (some b2)] .own)::.obj b2 (.map (l1.map (eM (fun n:Int=>.int .i64 n) (fun n:Int=>.int .i64 n))))::.obj b0 (.cells [.func (.func 67) #[] #[ptr b1 0,ptr b0 0]] .own)::rest)) rfl rfl (fun m hm=>ih y0 r1 h4 rest m hm)) gn rfl fun _=>?_;refine Wo.od (ai rfl) rfl<|Wo.nil<|At.tn<|Wk.ret<|At.tr ?_;have hr:=Option.some.inj hF;subst r0;exact At.ret (.tmp rfl .nil) fun m' hm=>⟨(),rfl,(aa.hC 3 [0,1,2] rfl rfl rfl) m' hm⟩
   ·refine Wk.ax rfl h1<|Wk.skip<|At.tn<|Wk.seq<|Wk.region<|Wo.od (ab rfl) rfl<|Wo.od (ai rfl) rfl<|Wo.nil<|At.tn<|Wk.ret ?_;have hr:=Option.some.inj hF;subst r0;exact At.ret (.tmp rfl .nil) fun m' hm=>⟨(),rfl,(aa.hC 3 [1,2,0] rfl rfl rfl) m' hm⟩
theorem vI (hE:EnvOk (E15v (some iz) q)) (n:Nat) (l2:List (Int × Int)) (l3:List (List Int × List (List Int))) (a0:Option Addr) (c0:Nat) (a1:Option Addr) (c1:Nat) (r0:Nat→Prop) (e0:List (List Value)) (r:(Int × Int × Int × Int × Int) ⊕ (List (Int × Int × Int × Int) × List (Int × Int))) (hF:wY n l2 l3=some r) (m:AMem) (_:Rd m a0 c0 2 l2.length (l2.map (eP (eI .i64) (eI .i64)))) (_:Rd m a1 c1 2 l3.length e0) (_:(an ah r0 l3 e0).P m) {R:Value→AMem→Prop} (kR:∀x,r = .inl x→∀m':AMem,Hp m m' []→R (.tuple #[.int .i64 x.1,.int .i64 x.2.1,.int .i64 x.2.2.1,.int .i64 x.2.2.2.1,.int .i64 x.2.2.2.2]) m') (kN:∀x,r = .inr x→∀g:Nat × Option Addr × Nat × Nat,Vk (E15v (some iz) q) 84 38 none (yu 7 (hZ Tryz.f38)) (fN (E15v (some iz) q) [.tmp 2,.tmp 3,.tmp 4,.tmp 5,.tmp 6] R) m ((fun(r:List (Int × Int × Int × Int) × List (Int × Int)) (g:Nat × Option Addr × Nat × Nat)=>match r,g with | (l5,_),(b6,a3,b7,_)=>([(1,ptr b6 0),(5,.int .i64 0),(8,.slice a3 l5.length l5.length),(9,ptr b7 0)]:Fs)) x g) ((fun(r:List (Int × Int × Int × Int) × List (Int × Int)) (g:Nat × Option Addr × Nat × Nat)=>match r,g with | (l5,l10),(b6,a3,b7,b8)=>([.obj b6 (.cells [.slice a0 l2.length c0,.slice a1 l3.length c1] .own),.rd a0 c0 2 l2.length (l2.map (eP (eI .i64) (eI .i64))),.rd a1 c1 2 l3.length e0,.gen (an ah r0 l3 e0),.sl a3 4 l5.length (l5.map (eP (eI .i64) (eP (eI .i64) (eP (eI .i64) (eI .i64))))),.obj b7 (.cells [.map (some b8)] .own),.obj b8 (.map (l10.map (eM (fun n:Int=>.int .i64 n) (fun n:Int=>.int .i64 n))))]:List Pc)) x g)) :
  Vk (E15v (some iz) q) 84 38 none (hZ Tryz.f38) (fN (E15v (some iz) q) [.tmp 2,.tmp 3,.tmp 4,.tmp 5,.tmp 6] R) m (jz [.agg #[.slice a0 l2.length c0,.slice a1 l3.length c1]] 0 []) [.gen (an ah r0 l3 e0),.rd a1 c1 2 l3.length e0,.rd a0 c0 2 l2.length (l2.map (eP (eI .i64) (eI .i64)))]:=by
 unfold wY at hF;refine Vk.seq hE<|Wk.region<|Wo.x (bR rfl) gn rfl fun b3=>?_;refine Wo.od (ai rfl) rfl<|Wo.od (ai rfl) rfl<|Wo.od (ai rfl) rfl<|Wo.od (ai rfl) rfl<|Wo.od (ai rfl) rfl<|Wo.nil<|At.sN<|Vk.seq hE<|Wk.seq<|Wk.region<|Wo.od (aj (k:=0) aB rfl rfl rfl) rfl ?_;obtain⟨r4,h9,hF⟩:=J hF;refine Wo.x (aR rfl rfl (fun m hm=>lp n l2 l3 a0 c0 a1 c1 r0 e0 _ h9 m (hm.rd (k:=3) rfl (.rd _ _ _ _ _)) (hm.rd (k:=2) rfl (.rd _ _ _ _ _)) (hm.dp (q:=1) rfl)) fun _=>rfl) gn rfl ?_;rintro⟨⟩;refine Wo.od (ai rfl) rfl<|Wo.nil<|At.tn<|Wk.seq<|Wk.region<|Wo.od (ab rfl) rfl<|Wo.od (aq rfl rfl (cW _ _)) rfl<|Wo.nil<|At.tn ?_;rcases ae hF with⟨h2,hF⟩|⟨h2,hF⟩
 ·refine Wk.ay rfl h2<|Wk.seq<|Wk.region<|Wo.od (ab rfl) rfl<|Wo.od (ai rfl) rfl<|Wo.od (ai rfl) rfl<|Wo.od (ai rfl) rfl<|Wo.od (ai rfl) rfl<|Wo.od (ai rfl) rfl<|Wo.nil<|At.tn<|Wk.ret<|At.tr ?_;cases hF;exact At.ret (.tmp rfl (.tmp rfl (.tmp rfl (.tmp rfl (.tmp rfl .nil))))) fun m' hm=>kR _ rfl m' (aa.U [] rfl rfl m' hm)
 ·refine Wk.ax rfl h2<|Wk.skip<|At.sN<|Vk.seq hE<|Wk.region<|Wo.od (aj (k:=0) aB rfl rfl rfl) rfl ?_;obtain⟨l1,h10,hF⟩:=J hF;refine Wo.x (aR rfl rfl (fun m hm=>sE n l2 l3 a0 c0 a1 c1 r0 e0 _ h10 m (hm.rd (k:=3) rfl (.rd _ _ _ _ _)) (hm.rd (k:=2) rfl (.rd _ _ _ _ _)) (hm.dp (q:=1) rfl)) fun _=>rfl) gn rfl ?_;rintro⟨a2,n0⟩;refine Wo.len (k:=0) (xs:=l1) rfl ?_;rintro rfl;refine Wo.od (ai rfl) rfl<|Wo.nil<|At.sN<|Vk.seq hE<|Wk.region<|Wo.x uq gn rfl fun b2=>?_;refine Wo.x (aQ zX rfl) gn rfl fun b0=>?_;refine Wo.o0 (aF (k:=0) qb rfl rfl rfl rfl rfl)<|Wo.nil<|At.sN<|Vk.seq hE<|Wk.region<|Wo.x (aQ z93 rfl) gn rfl fun b1=>?_;refine Wo.nil<|At.sN<|Vk.seq hE<|Wk.region<|Wo.od (eU rfl rfl) rfl<|Wo.o0 (aF (k:=0) uS rfl rfl rfl rfl rfl)<|Wo.nil<|At.sN<|Vk.seq hE<|Wk.seq<|Wk.region<|Wo.od (ab rfl) rfl<|Wo.od (bG (k:=3) xV rfl rfl (.inl rfl)) rfl<|Wo.od (ab rfl) rfl<|Wo.nil<|At.tn<|Wk.block ?_;obtain⟨l6,h3,hF⟩:=J hF;refine Wk.cut (G:=(fun(r:List (Int × Int)) (g:Unit)=>match r,g with|l6,_=>⟨(.exit 0),[(1,ptr b3 0),(5,.int .i64 0),(8,.slice a2 l1.length l1.length),(9,ptr b0 0)],[.obj b3 (.cells [.slice a0 l2.length c0,.slice a1 l3.length c1] .own),.rd a0 c0 2 l2.length (l2.map (eP (eI .i64) (eI .i64))),.rd a1 c1 2 l3.length e0,.gen (an ah r0 l3 e0),.sl a2 4 l1.length (l1.map (eP (eI .i64) (eP (eI .i64) (eP (eI .i64) (eI .i64))))),.obj b0 (.cells [.map (some b2)] .own),.obj b2 (.map (l6.map (eM (fun n:Int=>.int .i64 n) (fun n:Int=>.int .i64 n))))]⟩) l6) ?_ ?_
  ·refine Wk.bZ (fs':=[(1,ptr b3 0),(5,.int .i64 0),(8,.slice a2 l1.length l1.length),(9,ptr b0 0),(10,ptr b1 0),(28,.slice a2 l1.length l1.length),(29,.int .i64 (l1.length:Int)),(30,.int .i64 0)]) (ps':=[.obj b3 (.cells [.slice a0 l2.length c0,.slice a1 l3.length c1] .own),.rd a0 c0 2 l2.length (l2.map (eP (eI .i64) (eI .i64))),.rd a1 c1 2 l3.length e0,.gen (an ah r0 l3 e0),.sl a2 4 l1.length (l1.map (eP (eI .i64) (eP (eI .i64) (eP (eI .i64) (eI .i64))))),.obj b0 (.cells [.map (some b2)] .own),.obj b2 (.map (([]:List (Int × Int)).map (eM (fun n:Int=>.int .i64 n) (fun n:Int=>.int .i64 n)))),.obj b1 (.cells [.func (.func 67) #[] #[ptr b0 0,ptr b1 0]] .own)]) (sc rfl (sc rfl (sc rfl (sc rfl (sc rfl (sc rfl (sc rfl (sc rfl sn)))))))) (aa.U [4,7,6,5,3,1,2,0] rfl rfl) ?_;refine Wk.loop (σ:=List (Int × Int) × Int) (ρ:=List (Int × Int)) (γ:=Unit) (δ:=fun _=>Unit) _ (fun(s:List (Int × Int) × Int) (g:Unit)=>match s,g with | (l9,v0),_=>⟨.normal,[(1,ptr b3 0),(5,.int .i64 0),(8,.slice a2 l1.length l1.length),(9,ptr b0 0),(10,ptr b1 0),(28,.slice a2 l1.length l1.length),(29,.int .i64 (l1.length:Int)),(30,.int .i64 v0)],[.obj b3 (.cells [.slice a0 l2.length c0,.slice a1 l3.length c1] .own),.rd a0 c0 2 l2.length (l2.map (eP (eI .i64) (eI .i64))),.rd a1 c1 2 l3.length e0,.gen (an ah r0 l3 e0),.sl a2 4 l1.length (l1.map (eP (eI .i64) (eP (eI .i64) (eP (eI .i64) (eI .i64))))),.obj b0 (.cells [.map (some b2)] .own),.obj b2 (.map (l9.map (eM (fun n:Int=>.int .i64 n) (fun n:Int=>.int .i64 n)))),.obj b1 (.cells [.func (.func 67) #[] #[ptr b0 0,ptr b1 0]] .own)]⟩) (fun(r:List (Int × Int)) (g:Unit)=>match r,g with|l6,_=>⟨(.exit 0),[(1,ptr b3 0),(5,.int .i64 0),(8,.slice a2 l1.length l1.length),(9,ptr b0 0)],[.obj b3 (.cells [.slice a0 l2.length c0,.slice a1 l3.length c1] .own),.rd a0 c0 2 l2.length (l2.map (eP (eI .i64) (eI .i64))),.rd a1 c1 2 l3.length e0,.gen (an ah r0 l3 e0),.sl a2 4 l1.length (l1.map (eP (eI .i64) (eP (eI .i64) (eP (eI .i64) (eI .i64))))),.obj b0 (.cells [.map (some b2)] .own),.obj b2 (.map (l6.map (eM (fun n:Int=>.int .i64 n) (fun n:Int=>.int .i64 n))))]⟩) ?_ (fun _ _=>rfl) (fun r d=>by intro e; cases e) _ _ _ h3 ()
   clear hF h3;rintro⟨l9,v0⟩ ⟨⟩ r hF;unfold wx at hF;refine Wk.seq<|Wk.region<|Wo.od (aq rfl rfl (aD _ _ _)) rfl<|Wo.nil<|At.tn<|Wk.seq ?_;rcases ae hF with⟨h4,hF⟩|⟨h4,hF⟩
   ·refine Wk.ay rfl h4<|Wk.skip<|At.tn<|Wk.seq<|Wk.block<|Wk.seq<|Wk.region ?_;obtain⟨h1,hF⟩:=al hF;replace h1:=ar h1;refine Wo.open (k:=4) rfl (aH h1) ?_;rintro b4 t0 rfl h20;refine Wo.og (dY wL rfl rfl h1) gn rfl ?_;obtain⟨⟨x3,x4,x5,x6⟩,h11,hF⟩:=J hF;refine Wo.od (ua (k:=4) nm rfl rfl (aZ h11) rfl rfl) rfl<|Wo.x (aQ z64 rfl) gn rfl fun b5=>?_;refine Wo.o0 (aF (k:=0) nm rfl rfl rfl rfl rfl)<|Wo.nil<|At.tn<|Wk.seq<|Wk.seq<|Wk.region<|Wo.od (au (r:=ptr b5 0) rfl (k7 _ _)) rfl<|Wo.od (aj (k:=0) aX rfl rfl rfl) rfl<|Wo.od (au (r:=ptr b5 1) rfl (kY _ _)) rfl<|Wo.od (aj (k:=0) aX rfl rfl rfl) rfl<|Wo.od (bo rfl z67 rfl (bl zp rfl rfl rfl)) rfl<|Wo.od (ab rfl) rfl<|Wo.nil<|At.tn<|Wk.block ?_;obtain⟨l4,h5,hF⟩:=J hF;refine Wk.cut (G:=(fun(r:List (Int × Int)) (g:Unit)=>match r,g with|l4,_=>⟨(.exit 2),[(1,ptr b3 0),(5,.int .i64 0),(8,.slice (some ⟨b4,0,none⟩) l1.length l1.length),(9,ptr b0 0),(10,ptr b1 0),(12,ptr b5 0),(28,.slice (some ⟨b4,0,none⟩) l1.length l1.length),(29,.int .i64 (l1.length:Int)),(30,.int .i64 v0)],[.obj b3 (.cells [.slice a0 l2.length c0,.slice a1 l3.length c1] .own),.rd a0 c0 2 l2.length (l2.map (eP (eI .i64) (eI .i64))),.rd a1 c1 2 l3.length e0,.gen (an ah r0 l3 e0),.arr b4 4 l1.length (l1.map (eP (eI .i64) (eP (eI .i64) (eP (eI .i64) (eI .i64))))) t0,.obj b0 (.cells [.map (some b2)] .own),.obj b2 (.map (l4.map (eM (fun n:Int=>.int .i64 n) (fun n:Int=>.int .i64 n)))),.obj b1 (.cells [.func (.func 67) #[] #[ptr b0 0,ptr b1 0]] .own),.obj b5 (.cells [.int .i64 x3,.int .i64 x4,.int .i64 x5,.int .i64 x6] .own)]⟩) l4) ?_ ?_
    ·refine Wk.bZ (fs':=[(1,ptr b3 0),(5,.int .i64 0),(8,.slice (some ⟨b4,0,none⟩) l1.length l1.length),(9,ptr b0 0),(10,ptr b1 0),(12,ptr b5 0),(28,.slice (some ⟨b4,0,none⟩) l1.length l1.length),(29,.int .i64 (l1.length:Int)),(30,.int .i64 v0),(38,.agg #[.int .i64 x3,.int .i64 x4]),(39,.int .i64 0)]) (ps':=[.obj b3 (.cells [.slice a0 l2.length c0,.slice a1 l3.length c1] .own),.rd a0 c0 2 l2.length (l2.map (eP (eI .i64) (eI .i64))),.rd a1 c1 2 l3.length e0,.gen (an ah r0 l3 e0),.arr b4 4 l1.length (l1.map (eP (eI .i64) (eP (eI .i64) (eP (eI .i64) (eI .i64))))) t0,.obj b0 (.cells [.map (some b2)] .own),.obj b2 (.map (l9.map (eM (fun n:Int=>.int .i64 n) (fun n:Int=>.int .i64 n)))),.obj b1 (.cells [.func (.func 67) #[] #[ptr b0 0,ptr b1 0]] .own),.obj b5 (.cells [.int .i64 x3,.int .i64 x4,.int .i64 x5,.int .i64 x6] .own)]) (sc rfl (sc rfl (sc rfl (sc rfl (sc rfl (sc rfl (sc rfl (sc rfl (sc rfl (sc rfl (sc rfl sn))))))))))) (aa.U [1,2,3,4,5,6,7,8,0] rfl rfl) ?_;refine Wk.loop (σ:=List (Int × Int) × Int) (ρ:=List (Int × Int)) (γ:=Unit) (δ:=fun _=>Unit) _ (fun(s:List (Int × Int) × Int) (g:Unit)=>match s,g with | (l7,v1),_=>⟨.normal,[(1,ptr b3 0),(5,.int .i64 0),(8,.slice (some ⟨b4,0,none⟩) l1.length l1.length),(9,ptr b0 0),(10,ptr b1 0),(12,ptr b5 0),(28,.slice (some ⟨b4,0,none⟩) l1.length l1.length),(29,.int .i64 (l1.length:Int)),(30,.int .i64 v0),(38,.agg #[.int .i64 x3,.int .i64 x4]),(39,.int .i64 v1)],[.obj b3 (.cells [.slice a0 l2.length c0,.slice a1 l3.length c1] .own),.rd a0 c0 2 l2.length (l2.map (eP (eI .i64) (eI .i64))),.rd a1 c1 2 l3.length e0,.gen (an ah r0 l3 e0),.arr b4 4 l1.length (l1.map (eP (eI .i64) (eP (eI .i64) (eP (eI .i64) (eI .i64))))) t0,.obj b0 (.cells [.map (some b2)] .own),.obj b2 (.map (l7.map (eM (fun n:Int=>.int .i64 n) (fun n:Int=>.int .i64 n)))),.obj b1 (.cells [.func (.func 67) #[] #[ptr b0 0,ptr b1 0]] .own),.obj b5 (.cells [.int .i64 x3,.int .i64 x4,.int .i64 x5,.int .i64 x6] .own)]⟩) (fun(r:List (Int × Int)) (g:Unit)=>match r,g with|l4,_=>⟨(.exit 2),[(1,ptr b3 0),(5,.int .i64 0),(8,.slice (some ⟨b4,0,none⟩) l1.length l1.length),(9,ptr b0 0),(10,ptr b1 0),(12,ptr b5 0),(28,.slice (some ⟨b4,0,none⟩) l1.length l1.length),(29,.int .i64 (l1.length:Int)),(30,.int .i64 v0)],[.obj b3 (.cells [.slice a0 l2.length c0,.slice a1 l3.length c1] .own),.rd a0 c0 2 l2.length (l2.map (eP (eI .i64) (eI .i64))),.rd a1 c1 2 l3.length e0,.gen (an ah r0 l3 e0),.arr b4 4 l1.length (l1.map (eP (eI .i64) (eP (eI .i64) (eP (eI .i64) (eI .i64))))) t0,.obj b0 (.cells [.map (some b2)] .own),.obj b2 (.map (l4.map (eM (fun n:Int=>.int .i64 n) (fun n:Int=>.int .i64 n)))),.obj b1 (.cells [.func (.func 67) #[] #[ptr b0 0,ptr b1 0]] .own),.obj b5 (.cells [.int .i64 x3,.int .i64 x4,.int .i64 x5,.int .i64 x6] .own)]⟩) ?_ (fun _ _=>rfl) (fun r d=>by intro e; cases e) _ _ _ h5 ()
     clear hF h5;rintro⟨l7,v1⟩ ⟨⟩ r hF;unfold wS at hF;refine Wk.seq<|Wk.region<|Wo.od (aq rfl rfl (aD _ _ _)) rfl<|Wo.nil<|At.tn<|Wk.seq ?_;rcases ae hF with⟨h6,hF⟩|⟨h6,hF⟩
     ·refine Wk.ay rfl h6<|Wk.skip<|At.tn<|Wk.seq ?_;obtain⟨l8,h12,hF⟩:=J hF;refine Wk.cut (G:=(fun(r:List (Int × Int)) (g:Unit)=>match r,g with|l8,_=>⟨.normal,[(1,ptr b3 0),(5,.int .i64 0),(8,.slice (some ⟨b4,0,none⟩) l1.length l1.length),(9,ptr b0 0),(10,ptr b1 0),(12,ptr b5 0),(28,.slice (some ⟨b4,0,none⟩) l1.length l1.length),(29,.int .i64 (l1.length:Int)),(30,.int .i64 v0),(38,.agg #[.int .i64 x3,.int .i64 x4]),(39,.int .i64 v1)],[.obj b3 (.cells [.slice a0 l2.length c0,.slice a1 l3.length c1] .own),.rd a0 c0 2 l2.length (l2.map (eP (eI .i64) (eI .i64))),.rd a1 c1 2 l3.length e0,.gen (an ah r0 l3 e0),.arr b4 4 l1.length (l1.map (eP (eI .i64) (eP (eI .i64) (eP (eI .i64) (eI .i64))))) t0,.obj b0 (.cells [.map (some b2)] .own),.obj b2 (.map (l8.map (eM (fun n:Int=>.int .i64 n) (fun n:Int=>.int .i64 n)))),.obj b1 (.cells [.func (.func 67) #[] #[ptr b0 0,ptr b1 0]] .own),.obj b5 (.cells [.int .i64 x3,.int .i64 x4,.int .i64 x5,.int .i64 x6] .own)]⟩) l8) ?_ ?_
      ·clear hF;revert l8;intro r hF;refine Wk.block<|Wk.seq<|Wk.region ?_;obtain⟨h13,hF⟩:=al hF;obtain⟨x7,h0,hF⟩:=J hF;refine Wo.x (vQ (α:=Unit) (V:=fun g=>match g with|_=>.int .i64 x7) (N:=fun g=>match g with|_=>[]++[.obj b3 (.cells [.slice a0 l2.length c0,.slice a1 l3.length c1] .own),.rd a0 c0 2 l2.length (l2.map (eP (eI .i64) (eI .i64))),.rd a1 c1 2 l3.length e0,.gen (an ah r0 l3 e0),.arr b4 4 l1.length (l1.map (eP (eI .i64) (eP (eI .i64) (eP (eI .i64) (eI .i64))))) t0,.obj b0 (.cells [.map (some b2)] .own),.obj b2 (.map (l7.map (eM (fun n:Int=>.int .i64 n) (fun n:Int=>.int .i64 n)))),.obj b1 (.cells [.func (.func 67) #[] #[ptr b0 0,ptr b1 0]] .own),.obj b5 (.cells [.int .i64 x3,.int .i64 x4,.int .i64 x5,.int .i64 x6] .own)]) rfl rfl (fun m hm=>?_)) gn rfl ?_
       ·have hj:=ar h13;obtain⟨j,h8⟩:∃j:Nat,(v1:Int)=j:=⟨_,(Int.toNat_of_nonneg hj.1).symm⟩;rw[h8] at h0 hj ⊢;rw[Int.toNat_natCast] at h0 hj;replace hj:=hj.2;clear hF h8
        match j,hj,h0 with
        | 0,_,h0=>cases h0; exact⟨(),q6 yb (i:=0) (by decide) (s8 aX rfl),hm⟩
        | 1,_,h0=>cases h0; exact⟨(),q6 yb (i:=1) (by decide) (s8 aX rfl),hm⟩
        | _+2,hj,_=>exact absurd hj (by omega)
       rintro⟨⟩;refine Wo.od (ai rfl) rfl<|Wo.nil<|At.tn<|Wk.seq<|Wk.region<|Wo.od (aj (k:=5) qb rfl rfl rfl) rfl<|Wo.od (ab rfl) rfl ?_;obtain⟨⟨y0,y1⟩,h14,hF⟩:=J hF;refine Wo.od (si (q:=6) (xs:=l7) (k:=x7) (vE:=(fun n:Int=>.int .i64 n)) (z0:=(0:Int)) xX (u9 u3) z3 rfl rfl rfl rfl h14) rfl<|Wo.od (ab rfl) rfl<|Wo.od (cj rfl rfl) rfl<|Wo.od (cj rfl rfl) rfl<|Wo.od (ai rfl) rfl<|Wo.od (ai rfl) rfl<|Wo.nil<|At.tn<|Wk.seq<|Wk.region<|Wo.od (ab rfl) rfl<|Wo.od (ez rfl rfl) rfl<|Wo.nil<|At.tn ?_;rcases ae hF with⟨h7,hF⟩|⟨h7,hF⟩
       ·refine Wk.ay rfl h7<|Wk.region<|Wo.od (aj (k:=5) qb rfl rfl rfl) rfl<|Wo.od (ab rfl) rfl<|Wo.od (ab rfl) rfl<|Wo.o0 (qW (q:=6) (xs:=l7) (k:=x7) (v:=x7) (vE:=(fun n:Int=>.int .i64 n)) xX (u9 u3) rfl rfl rfl rfl)<|Wo.nil<|At.bn ?_;cases hF;exact At.en () rfl (sc rfl (sc rfl (sc rfl (sc rfl (sc rfl (sc rfl (sc rfl (sc rfl (sc rfl (sc rfl (sc rfl sn))))))))))) (aa.U [0,1,2,3,4,5,6,7,8] rfl rfl)
       ·refine Wk.ax rfl h7<|Wk.skip<|At.bn ?_;have hr:=Option.some.inj hF;subst r;exact At.en () rfl (sc rfl (sc rfl (sc rfl (sc rfl (sc rfl (sc rfl (sc rfl (sc rfl (sc rfl (sc rfl (sc rfl sn))))))))))) (aa.U [0,1,2,3,4,5,6,7,8] rfl rfl)
      ·clear h12;rintro⟨⟩;refine At.tn<|Wk.region<|Wo.od (aq rfl rfl (aA _ _ _)) rfl<|Wo.od (ab rfl) rfl<|Wo.nil ?_;cases hF;exact At.en () rfl (sc rfl (sc rfl (sc rfl (sc rfl (sc rfl (sc rfl (sc rfl (sc rfl (sc rfl (sc rfl (sc rfl sn))))))))))) (aa.U [0,1,2,3,4,5,6,7,8] rfl rfl)
     ·refine Wk.ax rfl h6<|Wk.exit<|At.te ?_;cases hF;exact At.en () rfl (sc rfl (sc rfl (sc rfl (sc rfl (sc rfl (sc rfl (sc rfl (sc rfl (sc rfl sn))))))))) (aa.U [0,1,2,3,4,5,6,7,8] rfl rfl)
    ·clear h5;rintro⟨⟩;refine At.be<|At.tn<|Wk.dj (prs:=[(0,4),(4,5),(4,7),(0,8)]) (by kernel_rfl)<|Wn.nr rfl (aj (k:=5) qb rfl rfl rfl) rfl<|Wn.od (aj (k:=7) uS rfl rfl rfl) rfl<|Wn.od (au (r:=ptr b5 0) rfl (k7 _ _)) rfl<|Wn.od (aj (k:=8) aX rfl rfl rfl) rfl ?_
     obtain⟨r1,h15,hF⟩:=J hF;refine Wn.aG (aa.U [5,6,7,0,1,2,3,4,8] rfl rfl) ?_;refine Wn.xk (l:=[b0,b1,b5]) (bg (α:=Unit) (V:=fun _=>.int .i64 r1) (N:=fun _=>[.obj b0 (.cells [.map (some b2)] .own),.obj b2 (.map (l4.map (eM (fun n:Int=>.int .i64 n) (fun n:Int=>.int .i64 n)))),.obj b1 (.cells [.func (.func 67) #[] #[ptr b0 0,ptr b1 0]] .own),.obj b3 (.cells [.slice a0 l2.length c0,.slice a1 l3.length c1] .own),.rd a0 c0 2 l2.length (l2.map (eP (eI .i64) (eI .i64))),.rd a1 c1 2 l3.length e0,.gen (an ah r0 l3 e0),.arr b4 4 l1.length (l1.map (eP (eI .i64) (eP (eI .i64) (eP (eI .i64) (eI .i64))))) t0,.obj b5 (.cells [.int .i64 x3,.int .i64 x4,.int .i64 x5,.int .i64 x6] .own)]) rfl rfl (fun m hm=>rX n l4 b0 b2 b1 n x3 r1 h15 ([.obj b3 (.cells [.slice a0 l2.length c0,.slice a1 l3.length c1] .own),.rd a0 c0 2 l2.length (l2.map (eP (eI .i64) (eI .i64))),.rd a1 c1 2 l3.length e0,.gen (an ah r0 l3 e0),.arr b4 4 l1.length (l1.map (eP (eI .i64) (eP (eI .i64) (eP (eI .i64) (eI .i64))))) t0,.obj b5 (.cells [.int .i64 x3,.int .i64 x4,.int .i64 x5,.int .i64 x6] .own)]) m hm)) ⟨⟨_,0,rfl,rfl,fun _=>⟨0,rfl⟩⟩,⟨⟨_,2,rfl,rfl,fun _=>⟨2,rfl⟩⟩,⟨⟨_,8,rfl,rfl,fun _=>⟨8,rfl⟩⟩,trivial⟩⟩⟩ gn rfl fun _=>?_;refine Wn.nr rfl (aj (k:=2) uS rfl rfl rfl) rfl<|Wn.od (au (r:=ptr b5 1) rfl (kY _ _)) rfl<|Wn.nr rfl (aj (k:=8) aX rfl rfl rfl) rfl ?_;obtain⟨r3,h16,hF⟩:=J hF;refine Wn.aG (aa.U [0,1,2,3,4,5,6,7,8] rfl rfl) ?_;refine Wn.xk (l:=[b0]) (bg (α:=Unit) (V:=fun _=>.int .i64 r3) (N:=fun _=>[.obj b0 (.cells [.map (some b2)] .own),.obj b2 (.map (l4.map (eM (fun n:Int=>.int .i64 n) (fun n:Int=>.int .i64 n)))),.obj b1 (.cells [.func (.func 67) #[] #[ptr b0 0,ptr b1 0]] .own),.obj b3 (.cells [.slice a0 l2.length c0,.slice a1 l3.length c1] .own),.rd a0 c0 2 l2.length (l2.map (eP (eI .i64) (eI .i64))),.rd a1 c1 2 l3.length e0,.gen (an ah r0 l3 e0),.arr b4 4 l1.length (l1.map (eP (eI .i64) (eP (eI .i64) (eP (eI .i64) (eI .i64))))) t0,.obj b5 (.cells [.int .i64 x3,.int .i64 x4,.int .i64 x5,.int .i64 x6] .own)]) rfl rfl (fun m hm=>rX n l4 b0 b2 b1 n x4 r3 h16 ([.obj b3 (.cells [.slice a0 l2.length c0,.slice a1 l3.length c1] .own),.rd a0 c0 2 l2.length (l2.map (eP (eI .i64) (eI .i64))),.rd a1 c1 2 l3.length e0,.gen (an ah r0 l3 e0),.arr b4 4 l1.length (l1.map (eP (eI .i64) (eP (eI .i64) (eP (eI .i64) (eI .i64))))) t0,.obj b5 (.cells [.int .i64 x3,.int .i64 x4,.int .i64 x5,.int .i64 x6] .own)]) m hm)) ⟨⟨_,0,rfl,rfl,fun _=>⟨0,rfl⟩⟩,trivial⟩ gn rfl fun _=>?_;refine Wn.o0 (qW (q:=1) (xs:=l4) (k:=r1) (v:=r3) (vE:=(fun n:Int=>.int .i64 n)) xX (u9 u3) rfl rfl rfl rfl) ?_;refine Wn.nil (fun m hm=>(by(first|refine cR.rk rfl rfl rfl (by simp) ?_|refine cR.step rfl ?_); exact(by(first|refine cR.kr rfl rfl rfl (by simp) ?_|refine cR.step rfl ?_); exact(by(first|refine cR.kr rfl rfl rfl (by simp) ?_|refine cR.step rfl ?_); exact(by(first|refine cR.rk rfl rfl rfl (by simp) ?_|refine cR.step rfl ?_); exact cR.nil))))) ?_
     refine At.bn<|At.tn<|Wk.region<|Wo.od (aq rfl rfl (aA _ _ _)) rfl<|Wo.od (ab rfl) rfl<|Wo.nil ?_;cases hF;exact At.en () rfl (sc rfl (sc rfl (sc rfl (sc rfl (sc rfl (sc rfl (sc rfl (sc rfl sn)))))))) (aa.trans (aa.close (k:=7) rfl) (aa.U [3,4,5,6,7,0,1,2] rfl rfl))
   ·refine Wk.ax rfl h4<|Wk.exit<|At.te ?_;cases hF;exact At.en () rfl (sc rfl (sc rfl (sc rfl (sc rfl sn)))) (aa.U [0,1,2,3,4,5,6] rfl rfl)
  ·clear h3;rintro⟨⟩;refine At.be<|At.sN ?_;cases hF;exact Vk.bZ (sc rfl (sc rfl (sc rfl (sc rfl sn)))) (aa.U [0,1,2,3,4,5,6] rfl rfl) (kN _ rfl (b3,a2,b0,b2))
end Go.Proofs.YtmndpgfbkicndaaGreat
end

section
namespace Go.Proofs.YtmndpgfbkicndaaGreat
open Go Go.Ab Go.Ab.W
set_option maxRecDepth 10000
attribute [local irreducible] Tm.at Trie.set Trie.get AMem.get AMem.set AMem.alloc AMem.ww AMem.kill
def fu (r:List (Int × Int)) (S:List Nat):Int:=((S.filterMap fun i=>r[i]?).countP (fun p=>decide (p.1=p.2)):Nat)
theorem kU {r:List (Int × Int)} {S:List Nat} {i:Nat} {e:Int × Int} (h:r[i]? = some e):fu r (S++[i])=fu r S+if e.1=e.2 then 1 else 0:=by
 unfold fu;rw[List.filterMap_append,List.countP_append];simp[h,List.countP_cons]
 split<;>rfl
theorem s6 {r:List (Int × Int)} {S:List Nat}:0≤fu r S∧fu r S≤S.length:=by
 unfold fu;have h1:=List.countP_le_length (p:=fun p:Int × Int=>decide (p.1=p.2)) (l:=S.filterMap fun i=>r[i]?);have h2:=List.length_filterMap_le (fun i=>r[i]?) S;omega
theorem oO (r:List (Int × Int)):fu r (List.range r.length)=jq r:=by
 unfold fu jq;have:∀(r:List (Int × Int)),(List.range r.length).filterMap (fun i=>r[i]?)=r:=by
  intro r
  induction r with
  | nil=>rfl
  | cons x r ih =>
   rw[List.length_cons,List.range_succ_eq_map,List.filterMap_cons];simp only[List.getElem?_cons_zero,List.filterMap_map]
   congr 1
 rw[this]
theorem pQ {r:List (Int × Int)} {S:List Nat} (h:S.Perm (List.range r.length)):fu r S=jq r:=by
 rw[←oO];unfold fu;rw[(h.filterMap _).countP_eq]
theorem sZ {x:Int} (h1:0≤x) (h2:x≤1073741825):IntKind.wrap .i64 x=x:=by
 simp only[IntKind.wrap,IntKind.bits,IntKind.signed]
 show(if (true && decide (x%18446744073709551616≥9223372036854775808))=true then x%18446744073709551616-18446744073709551616 else x%18446744073709551616)=x
 simp only[Bool.true_and,decide_eq_true_eq]
 split<;>omega
abbrev tJ:Int × Int→Value × Value:=eM (fun n:Int=>.int .i64 n) (fun n:Int=>.int .i64 n)
abbrev vc (x:Int × Int × Int × Int × Int):Value:=.tuple #[.int .i64 x.1,.int .i64 x.2.1,.int .i64 x.2.2.1,.int .i64 x.2.2.2.1,.int .i64 x.2.2.2.2]
set_option maxHeartbeats 4000000
theorem xN {m:AMem} {l1:List (Int × Int)} {l5:List (List Int × List (List Int))} {a2:Option Addr} {c3:Nat} {a6:Option Addr} {c7:Nat} {rr8:Nat→Prop} {es9:List (List Value)} {l:List dL} {r:List (Int × Int)} {b:Nat} {a:Option Addr} {b2 b3:Nat} (hlim:lim r.length=true) {R:Value→AMem→Prop}
  (hR:∀m':AMem,Hp m m' []→R (vc (r.length,l.length,l5.length,jq r,0)) m') :
  Vk (E15v (some iz) none) 84 38 none (yu 7 (hZ Tryz.f38)) (fN (E15v (some iz) none) [.tmp 2,.tmp 3,.tmp 4,.tmp 5,.tmp 6] R) m [(1,ptr b 0),(5,.int .i64 0),(8,.slice a l.length l.length),(9,ptr b2 0)]
   [.obj b (.cells [.slice a2 l1.length c3,.slice a6 l5.length c7] .own),.rd a2 c3 2 l1.length (l1.map (eP (eI .i64) (eI .i64))),.rd a6 c7 2 l5.length es9,.gen (an ah rr8 l5 es9),.sl a 4 l.length (l.map (eP (eI .i64) (eP (eI .i64) (eP (eI .i64) (eI .i64))))),.obj b2 (.cells [.map (some b3)] .own),.obj b3 (.map (r.map tJ))]:=by
 refine Vk.mapRange (E:=E15v (some iz) none) jE (fun h=>h) (γ:=Unit) (kt:=3) (et:=3) ⟨rfl,rfl⟩ ⟨rfl,rfl,rfl⟩ xX ⟨rfl,rfl,rfl⟩ ⟨rfl,rfl,rfl⟩ ⟨rfl,rfl,rfl⟩ rfl (by decide) (by decide) (bm:=b3) (k:=6) (es:=r.map tJ)
  (fun t m' hf hm=>pb (k:=5) qb rfl rfl rfl hf hm) rfl
  (fun bi S _=>([(1,ptr b 0),(5,.int .i64 (fu r S)),(8,.slice a l.length l.length),(9,ptr b2 0),(65,ptr bi 0)],[]))
  (fun bi S g=>rfl) (fun bi S g p hp=>by cases hp) (fun _=>()) (fun bi=>⟨sc rfl (sc rfl (sc rfl (sc rfl (sc rfl sn)))),fun m1=>aa.U [] rfl rfl⟩) ?_ ?_
 ·intro bi m1 S i e a' hS hSl hi he;rw[List.length_map] at hSl;rw[List.getElem?_map] at he;obtain⟨e,he0,rfl⟩:=Option.map_eq_some_iff.1 he;clear he;have hn:S.length≤r.length:=by
   simpa using hS.length_le_of_subset (fun x hx=>List.mem_range.2 (hSl x hx):S ⊆ List.range r.length)
  have hc:=s6 (r:=r) (S:=S);have hll:=lq hlim;refine Wo.od (cj rfl rfl) rfl ?_;refine Wo.od (cj rfl rfl) rfl ?_;refine Wo.od (ai rfl) rfl ?_;refine Wo.od (ai rfl) rfl ?_;refine Wo.nil (Q:=fun _=>_) ?_
  show Wk (E15v (some iz) none) 84 38 none _ _ m1 _ _
  refine Wk.seq ?_;refine Wk.region ?_;refine Wo.od (ab rfl) rfl ?_;refine Wo.od (ab rfl) rfl ?_;refine Wo.od (aq rfl rfl (ba _ _ _)) rfl ?_;refine Wo.nil ?_;refine At.tn ?_
  by_cases hk:e.1=e.2
  ·refine Wk.ay rfl (decide_eq_true hk) ?_;refine Wk.region ?_;refine Wo.od (ab rfl) rfl ?_;refine Wo.od (aq rfl rfl (aA _ _ _)) rfl ?_;refine Wo.od (ai rfl) rfl ?_;refine Wo.nil (Q:=fun _=>_) ?_;intro t' m' hf hm;refine⟨rfl,(),?_,hm⟩;have e1:IntKind.wrap .i64 (fu r S+1)=fu r (S++[i]):=by rw[kU he0,if_pos hk,sZ (by omega) (by omega)]
   rw[←e1];exact hf.sub (sc rfl (sc rfl (sc rfl (sc rfl (sc rfl sn)))))
  ·refine Wk.ax rfl (decide_eq_false hk) ?_;refine Wk.skip ?_;intro t' m' hf hm;refine⟨rfl,(),?_,hm⟩;have e1:fu r S=fu r (S++[i]):=by rw[kU he0,if_neg hk,Int.add_zero]
   rw[←e1];exact hf.sub (sc rfl (sc rfl (sc rfl (sc rfl (sc rfl sn)))))
 ·intro bi S a' hS;rw[List.length_map] at hS;have hp:=pQ hS;refine Vk.of jE ?_;refine Wk.seq ?_;refine Wk.draw (by kernel_rfl) ?_
  refine Wo.od (aj (k:=5) qb rfl rfl rfl) rfl ?_;refine Wo.od (p8 (q:=6) (xs:=r) (f:=tJ) xX rfl rfl rfl) rfl ?_;refine Wo.od (ab rfl) rfl ?_;refine Wo.od (bG (k:=4) xV rfl rfl (.inl rfl)) rfl ?_;refine Wo.od (au (r:=ptr b 1) rfl (bu _ _)) rfl ?_;refine Wo.od (aj (k:=0) cG rfl rfl rfl) rfl ?_;refine Wo.od (bG (k:=2) mX rfl rfl (.inl rfl)) rfl ?_;refine Wo.od (ab rfl) rfl ?_;refine Wo.od (ai rfl) rfl ?_;refine Wo.od (ai rfl) rfl ?_;refine Wo.od (ai rfl) rfl ?_;refine Wo.od (ai rfl) rfl ?_;refine Wo.od (ai rfl) rfl ?_;refine Wo.nil ?_;refine At.tn ?_;refine Wk.ret ?_;refine At.ret (.tmp rfl (.tmp rfl (.tmp rfl (.tmp rfl (.tmp rfl .nil))))) fun m' hm=>?_;have:=hR m' ((aa.U [] rfl rfl) m' hm);rw[←hp] at this;exact this
open Classical in
noncomputable def ie (args:List Value) (m:AMem):Option (Value × AMem) :=
 match args with
 | [v]=>if h:∃r,∃x:Cx,jO m v x∧wD 0 x.1 x.2=some r then some (vc (Classical.choose h),m) else none
 | _=>none
noncomputable def rN:Prim:=⟨ie⟩
open Classical in
theorem lF {m m':AMem} {v r:Value} (h:ie [v] m=some (r,m')):∃x:Cx,∃y,jO m v x∧wD 0 x.1 x.2=some y∧vc y=r∧m=m':=by
 change dite _ _ _=_ at h
 by_cases hx:∃r,∃x:Cx,jO m v x∧wD 0 x.1 x.2=some r
 ·rw[dif_pos hx] at h;obtain⟨x,h1,h2⟩:=Classical.choose_spec hx;have h3:=Option.some.inj h;exact⟨x,_,h1,h2,(Prod.ext_iff.1 h3).1,(Prod.ext_iff.1 h3).2⟩
 ·rw[dif_neg hx] at h; cases h
open Classical in
theorem oC {m:AMem} {v:Value} {x:Cx} {r:Int × Int × Int × Int × Int} (h:jO m v x) (hF:wD 0 x.1 x.2=some r):ie [v] m=some (vc r,m):=by
 have hx:∃r,∃x:Cx,jO m v x∧wD 0 x.1 x.2=some r:=⟨r,x,h,hF⟩
 change dite _ _ _=_
 rw[dif_pos hx];obtain⟨y,h1,h2⟩:=Classical.choose_spec hx;have e1:=h1.uniq h;subst e1;rw[hF] at h2;rw[←Option.some.inj h2]
theorem mF {args:List Value} {m m':AMem} {v:Value} (h:ie args m=some (v,m')) (pr:Bool) {j:aL} {w:World} {args':List Value} (hm:MR (E15v (some iz) none) j m w) (hl:LR j args args') :
  eK (E15v (some iz) none).P pr 38 args'.toArray w (fV (E15v (some iz) none) j m w v m'):=by
 have ha:∃v,args = [v]:=by
  unfold ie at h
  split at h
  ·exact⟨_,rfl⟩
  ·cases h
 obtain⟨va,rfl⟩:=ha;obtain⟨⟨l1,l5⟩,y,⟨a,c,a',c',R,es,rfl,h1,h2,h3⟩,hF,rfl,rfl⟩:=lF h;simp only at h1 h2 h3 hF;unfold wD at hF;obtain⟨s,hFA,hF⟩:=J hF;have hh1:Rd { m with wl:=m.next} a c 2 l1.length (l1.map mH):=qG h1
 have hh2:Rd { m with wl:=m.next} a' c' 2 l5.length es:=qG h2
 have hh3:(an ah R l5 es).P { m with wl:=m.next}:=we h3
 refine kf (nO (E:=E15v (some iz) none) (c:=hZ Tryz.f38) (m0:={ m with wl:=m.next}) (m:={ m with wl:=m.next}) (N:=84) (rs:=[.tmp 2,.tmp 3,.tmp 4,.tmp 5,.tmp 6]) (ps:=[.gen (an ah R l5 es),.rd a' c' 2 l5.length es,.rd a c 2 l1.length (l1.map mH)]) jE Tryz.func38 rfl rfl rfl ((((Hp.start _).ct dy hh1).ct (dQ dy) hh2).iQ (dQ (dQ dy)) hh3) ?_) pr hm hl
 have hn0:({ m with wl:=m.next}:AMem).next=m.next:=rfl
 have hg:∀m1:AMem,Hp { m with wl:=m.next} m1 []→Grown m m1:=fun m1 hm1=>⟨hm1.ext.next,fun b hb=>(hm1.ext.same b hb).trans tU,by have:=hm1.ext.wl; rw[hn0] at this; exact Nat.le_trans (Nat.le_of_eq (Nat.min_self _).symm) this⟩
 refine vI jE 100000 l1 l5 a c a' c' R es s hFA _ hh1 hh2 hh3 (fun x hx m1 hm1=>?_) fun x hx g=>?_
 ·subst hx;cases hF;exact⟨hg m1 hm1,.inl ⟨rfl,rfl,rfl⟩⟩
 ·subst hx;obtain⟨l,r⟩:=x;obtain⟨hc,hF⟩:=al hF;cases hF;exact xN hc fun m1 hm1=>⟨hg m1 hm1,.inl ⟨rfl,rfl,rfl⟩⟩
theorem vB:EnvOk (E15v (some iz) (some rN)):=ln (E:=E15v (some iz) none) jE (pr:=(E15v (some iz) (some rN)).cu) fun f P hp=>by
 by_cases e:f=65
 ·subst e; exact .inl hp
 ·by_cases e':f=38
  ·subst e';have hp':some rN=some P:=hp;cases hp';exact .inr fun args m v m' h j w args' hm hl=>mF h _ hm hl
  ·refine .inl ?_;have:(E15v (some iz) (some rN)).cu f=(E15v (some iz) none).cu f:=by
    show(if f=65 then _ else if f=38 then _ else _)=(if f=65 then _ else if f=38 then _ else _)
    rw[if_neg e,if_neg e',if_neg e,if_neg e']
   rw[←this]; exact hp
theorem xu (n:Nat) (l1:List (Int × Int)) (l5:List (List Int × List (List Int))) (a2:Option Addr) (c3:Nat) (a6:Option Addr) (c7:Nat) (rr8:Nat→Prop) (es9:List (List Value)) (r:Int × Int × Int × Int × Int) (hF:wD n l1 l5=some r) (m:AMem) (h4:Rd m a2 c3 2 l1.length (l1.map mH)) (h10:Rd m a6 c7 2 l5.length es9) (h11:(an ah rr8 l5 es9).P m) :
  aW (E15v (some iz) (some rN)) 38 [.agg #[.slice a2 l1.length c3,.slice a6 l5.length c7]] m (fun v m'=>∃_:Unit,v = .tuple #[.int .i64 r.1,.int .i64 r.2.1,.int .i64 r.2.2.1,.int .i64 r.2.2.2.1,.int .i64 r.2.2.2.2]∧Hp m m' []) :=
 aW.cu (p:=rN) rfl (oC (x:=(l1,l5)) ⟨a2,c3,a6,c7,rr8,es9,rfl,h4,h10,h11⟩ hF) ⟨(),rfl,Hp.start m⟩
end Go.Proofs.YtmndpgfbkicndaaGreat
end

section
namespace Go.Proofs.YtmndpgfbkicndaaGreat
set_option maxRecDepth 100000
open Go Go.ChangeShapes Go.WideShapes Go.ChangeAt Go.WideMaps Go.WideElems Go.RowKit Go.Ab Go.Ab.W
theorem yT:laidOutB Tryz.prog=true:=by kernel_rfl
theorem uN:mapsRowed Tryz.prog=true:=by kernel_rfl
theorem uD:sizedB Tryz.prog=true:=by kernel_rfl
theorem rH {H:Type} {enc:TypeId × Value→H} {f:FuncId} {fn:Func} {s:ChangeSpec} {W:World} {args:Array Value} {ds:List (DataW H)} {before:List MemPlace} {tb:TypeId} {fresh handsOn:Bool} {absArgs:List Value} (hpr:(E15v (some iz) (some rN)).cu f=none)
  (hvars:s.vars = []) (hres:fn.resultTypes.toList = [tb]) (hrs:fn.resultTypes.size=1) (htb:Tryz.prog.underlying tb=some .bool) (hpt:∀t ∈ fn.params.toList,t<Tryz.prog.types.size) (hfn:s.fn H ds = { results:=[.lit (.bool true)],args:=ds,vars:=[]})
  (hW:DataW.Whole enc Tryz.prog fn.params.toList s.vars false W args.toList ds [] before)
  (hl:LR (iu W) absArgs args.toList) (hc:aW (E15v (some iz) (some rN)) f absArgs (fx W) (fun v m'=>∃_:Unit,v = .bool true∧Hp (fx W) m' [])) :
  Calls Tryz.prog f args W fun e W'=>∃v,e = .returned v∧s.post enc Tryz.prog fn false fresh handsOn false W args v W':=by
 obtain⟨v,m',⟨fuel,hrun⟩,_,rfl,hm'⟩:=hc;have hm:MR (E15v (some iz) (some rN)) (iu W) (fx W) W:=xO (Nat.zero_le _);have hcall:=callsIn_wide.1 (jx vB hrun hpr hm hl);refine hcall.mono fun e W' ⟨v',he,j',sm,hv⟩=>?_;have hv':v' = .bool true:=ec rfl hv;subst hv';have hwl:(fx W).next≤m'.wl:=by
  have h1:=hm'.ext.wl;have h2:min (fx W).wl (fx W).next=(fx W).next:=Nat.min_self _
  omega
 exact⟨_,he,sQ yT uN uD hvars hres hrs htb hpt hfn hW sm.calm (sm.grown hm hwl)⟩
theorem sP {W:World} (h:W.ShapedOpen Tryz.prog):0<W.heap.size:=by
 unfold World.ShapedOpen at h;obtain⟨_,h2⟩:=h;have e:((begin Tryz.prog (fun _ _=>0) default).world).heap.size=Tryz.prog.globals.size+5:=by
  unfold begin; simp only[Array.size_push,Array.size_mapIdx]
 obtain⟨o,o0,h3,_⟩:=h2 Tryz.prog.globals.size (Nat.le_refl _) (by rw[e]; omega)
 exact Nat.lt_of_le_of_lt (Nat.zero_le _) (Array.getElem?_eq_some_iff.1 h3).1
end Go.Proofs.YtmndpgfbkicndaaGreat
end

section
namespace Go.Proofs.YtmndpgfbkicndaaGreat
open Go Go.Ab Go.Ab.W
def yY (_:Nat) (l1:List (Int)):(List (Int × Int) × Int)→Option ((List (Int × Int) × Int) ⊕ (List (Int × Int))):=fun(l19,v21) =>
br (decide (IntKind.wrap .i64 (v21+1)<(l1.length:Int))) (
gd (cg v21 l1.length) (
ob (l1[v21.toNat]?) fun x43 =>
gd (cg (IntKind.wrap .i64 (v21+1)) l1.length) (
ob (l1[(IntKind.wrap .i64 (v21+1)).toNat]?) fun x46 =>
gd (lim (l19++[(x43,x46)]).length) (
some (.inl ((l19++[(x43,x46)]),IntKind.wrap .i64 (v21+2))))))) (
some (.inr l19))
def F9 (n:Nat) (l1:List (Int)):Option (List (Int × Int)) :=
ob (
eC (yY n l1) n (([]:List (Int × Int)),0)) fun l37 =>
some l37
def zj (n:Nat) (l1:List (Int × Int)) (l5:List (List Int × List (List Int))):Option (List (Int × Int × Int × Int) × Int) :=
ob (xL n l1 l5) fun r14 =>
br (!decide (r14=0)) (
some ([],r14)) (
ob (vj n l1 l5) fun l17 =>
some (l17,0))
def wR (n:Nat) (l41:List (List Int)) (l1:List (Int × Int)) (l5:List (List Int × List (List Int))):(Int × Int)→Option ((Int × Int) ⊕ (Int)):=fun(v49,v50) =>
br (decide (v50<(l41.length:Int))) (
gd (cg v50 l41.length) (
ob (l41[v50.toNat]?) fun l72 =>
ob (vK n l1 l5 l72 1) fun l77 =>
ob (zm n l77) fun r81 =>
some (.inl (IntKind.wrap .i64 (v49+r81),IntKind.wrap .i64 (v50+1))))) (
some (.inr v49))
def zl (n:Nat) (l1:List (Int × Int)) (l5:List (List Int × List (List Int))) (x12:Int):Option (Int × Int) :=
ob (xL n l1 l5) fun r15 =>
br (!decide (r15=0)) (
some (0,r15)) (
ob (
br (decide (x12<0)) (
some true) (
some (decide ((l5.length:Int)≤x12)))) fun v24 =>
br (v24) (
some (0,2)) (
gd (cg x12 l5.length) (
ob (l5[x12.toNat]?) fun(l32,l33) =>
ob (rv n l32 l33) fun l41 =>
ob (
eC (wR n l41 l1 l5) n (0,0)) fun v67 =>
some (v67,0))))
def wm (_:Nat) (l1:List (Int × Int × Int × Int)) (l5:List (Int × Int × Int × Int)):Int→Option ((Int) ⊕ ((Unit) ⊕ (Unit))):=fun v11 =>
br (decide (v11<(l1.length:Int))) (
gd (cg v11 l1.length) (
ob (l1[v11.toNat]?) fun(x35,x36,x37,x38) =>
gd (cg v11 l5.length) (
ob (l5[v11.toNat]?) fun(x43,x44,x45,x46) =>
br (!(decide (x35=x43) && decide (x36=x44) && decide (x37=x45) && decide (x38=x46))) (
some (.inr (.inl ()))) (
some (.inl (IntKind.wrap .i64 (v11+1))))))) (
some (.inr (.inr ())))
def zr (n:Nat) (l1:List (Int × Int × Int × Int)) (l5:List (Int × Int × Int × Int)):Option (Bool) :=
br (!decide ((l1.length:Int)=(l5.length:Int))) (
some false) (
ob (α:=(Unit) ⊕ (Unit)) (
eC (wm n l1 l5) n 0) fun r50=>match r50 with
| .inl _ =>
some false
| .inr _ =>
some true)
def jI (n:Nat) (l1:List (Int × Int)) (l5:List (List Int × List (List Int))) (x12:Int) (x13:Int):Option (Bool) :=
ob (zo n l1 l5) fun(r16,r17) =>
ob (zj n l1 l5) fun(_,r22) =>
br (decide (r16=x12)) (
br (decide (r17=x13)) (
some ((decide (r22=150)) == (decide (0<x12)))) (
some false)) (
some false)
def xU (n:Nat) (l1:List (Int × Int)) (l5:List (List Int × List (List Int))) (x12:Int) (x13:Int) (x14:Int) (x15:Int):Option (Bool) :=
ob (wD n l1 l5) fun(r18,r19,r20,r21,r22) =>
br (decide (r18=x12)) (
br (decide (r19=x13)) (
br (decide (r20=x14)) (
br (decide (r21=x15)) (
some (decide (r22=0))) (
some false)) (
some false)) (
some false)) (
some false)
def vP (n:Nat) (l1:List (List Int)) (l2:List (Int × Int)) (l3:List (List Int × List (List Int))) (x3:Int) (x4:Int):Int→Option ((Int) ⊕ ((Int) ⊕ (Unit))):=fun v0 =>
br (decide (v0<(l1.length:Int))) (
gd (cg v0 l1.length) (
ob (l1[v0.toNat]?) fun l4 =>
ob (
ob (vK n l2 l3 l4 1) fun l5 =>
ob (yB n l5 x3 x4) fun r0 =>
some (decide (r0=1))) fun v1 =>
br (v1) (
some (.inr (.inl v0))) (
some (.inl (IntKind.wrap .i64 (v0+1)))))) (
some (.inr (.inr ())))
def wJ (n:Nat) (l1:List (List Int × List (List Int))) (l2:List (Int × Int)) (x3:Int) (x4:Int):Int→Option ((Int) ⊕ ((Int) ⊕ (Unit))):=fun v0 =>
br (decide (v0<(l1.length:Int))) (
gd (cg v0 l1.length) (
ob (l1[v0.toNat]?) fun(l3,l4) =>
ob (
ob (yp n l2 l1 l3 l4 x3 x4 1) fun r0 =>
br (r0) (
some true) (
ob (rv n l3 l4) fun l5 =>
ob (
ob (α:=(Int) ⊕ (Unit)) (
eC (vP n l5 l2 l1 x3 x4) n 0) fun r1=>match r1 with
| .inl v1 =>
some v1
| .inr _ =>
some (-1)) fun v2 =>
some (decide (0≤v2)))) fun v3 =>
br (v3) (
some (.inr (.inl v0))) (
some (.inl (IntKind.wrap .i64 (v0+1)))))) (
some (.inr (.inr ())))
def yj (n:Nat) (l1:List (Int × Int)) (l2:List (List Int × List (List Int))) (x3:Int) (x4:Int):Option (Int × Int) :=
ob (xL n l1 l2) fun r0 =>
br (!decide (r0=0)) (
some (0,r0)) (
ob (zh n x3 x4) fun r1 =>
br (r1) (
some (0,2)) (
ob (
ob (α:=(Int) ⊕ (Unit)) (
eC (wJ n l2 l1 x3 x4) n 0) fun r3=>match r3 with
| .inl v0 =>
some v0
| .inr _ =>
some (-1)) fun v1 =>
some (v1,0)))
def sT (n:Nat) (l1:List (Int × Int)) (l5:List (List Int × List (List Int))) (x12:Int) (x13:Int) (x14:Int):Option (Bool) :=
ob (yj n l1 l5 x12 x13) fun(r17,r18) =>
br (decide (r17=x14)) (
some (decide (r18=0))) (
some false)
def F7 (n:Nat):Option (Bool) :=
ob (
ob (F9 n ([0,0,2,0,4,0,4,2,2,2,0,2])) fun l8 =>
some (l8,([([0,1,4,5],[]),([1,2,3,4],[])]:List (List Int × List (List Int))))) fun(l3,l4) =>
ob (
ob (F9 n ([0,0,9,0,9,9,0,9,3,3,6,3,6,6,3,6])) fun l9 =>
some (l9,([([0,1,2,3],[[4,7,6,5]]),([4,5,6,7],[])]:List (List Int × List (List Int))))) fun(l1,l2) =>
ob (zj n l3 l4) fun(l10,r0) =>
ob (zl n l1 l2 0) fun(r1,r3) =>
ob (
ob (F9 n ([0,0,9,0,9,9,0,9,3,3,6,3,6,6,3,6])) fun l11 =>
some (l11,([([0,1,2,3],[[4,7,6,5]]),([4,5,6,7],[])]:List (List Int × List (List Int))))) fun(l12,l5) =>
ob (
ob (F9 n ([0,0,9,0,9,9,0,9,3,3,6,3,6,6,3,6])) fun l13 =>
some (l13,([([0,1,2,3],[[4,7,6,5]]),([4,5,6,7],[])]:List (List Int × List (List Int))))) fun(l14,l6) =>
ob (
ob (F9 n ([0,0,2,0,4,0,4,2,2,2,0,2])) fun l15 =>
some (l15,([([0,1,4,5],[]),([1,2,3,4],[])]:List (List Int × List (List Int))))) fun(l16,l7) =>
gd (cg 0 l5.length) (
ob (l5[(0:Int).toNat]?) fun(l17,_) =>
gd (cg 0 l6.length) (
ob (l6[(0:Int).toNat]?) fun(l18,_) =>
gd (cg 1 l7.length) (
ob (l7[(1:Int).toNat]?) fun(_,l19) =>
ob (zr n l10 ([(0,1,0,-1),(0,5,-1,0),(1,2,1,-1),(1,4,0,1),(2,3,1,-1),(3,4,1,-1),(4,5,0,-1)])) fun r4 =>
ob (
ob (jI n l3 l4 0 0) fun r5 =>
br (r5) (
ob (jI n l1 l2 0 0) fun r6 =>
br (r6) (
ob (jI n l12 (l5.set ((0:Int).toNat) (l17,[])) 10 1) fun r7 =>
br (r7) (
ob (jI n l14 (l6.set ((0:Int).toNat) (l18,[[4,5,6,7]])) 6 0) fun r8 =>
br (r8) (
ob (jI n l16 (l7.set ((1:Int).toNat) ([1,2,3,5],l19)) 8 1) fun r9 =>
some r9) (
some false)) (
some false)) (
some false)) (
some false)) fun v0 =>
br (r4) (
br (decide (r0=0)) (
br (decide (r1=144)) (
br (decide (r3=0)) (
br (v0) (
ob (xU n l3 l4 6 7 2 1) fun r10 =>
br (r10) (
ob (xU n l1 l2 8 8 2 2) fun r11 =>
br (r11) (
ob (sT n l1 l2 4 4 1) fun r12 =>
br (r12) (
ob (sT n l1 l2 1 1 0) fun r13 =>
br (r13) (
ob (sT n l1 l2 3 3 0) fun r14 =>
br (r14) (
ob (sT n l1 l2 10 10 (-1)) fun r15 =>
some r15) (
some false)) (
some false)) (
some false)) (
some false)) (
some false)) (
some false)) (
some false)) (
some false)) (
some false)) (
some false))))
def xC (n:Nat) (l2:List (Int × Int)) (l1:List (List Int × List (List Int))) (x3:Int) (x4:Int):Option (List (Int × Int) × Int) :=
ob (xL n l2 l1) fun r0 =>
br (!decide (r0=0)) (
some ([],r0)) (
ob (
br (decide (x3<0)) (
some true) (
br (decide ((l1.length:Int)≤x3)) (
some true) (
br (decide (x4 < -1)) (
some true) (
gd (cg x3 l1.length) (
ob (l1[x3.toNat]?) fun(_,l4) =>
some (decide ((l4.length:Int)≤x4))))))) fun v0 =>
br (v0) (
some ([],2)) (
gd (cg x3 l1.length) (
ob (l1[x3.toNat]?) fun(l5,l6) =>
ob (rv n l5 l6) fun l3 =>
gd (cg (IntKind.wrap .i64 (x4+1)) l3.length) (
ob (l3[(IntKind.wrap .i64 (x4+1)).toNat]?) fun l7 =>
ob (vK n l2 l1 l7 1) fun l8 =>
some (l8,0)))))
def wQ (_:Nat) (l1:List (Int × Int)) (l5:List (Int × Int)):Int→Option ((Int) ⊕ ((Unit) ⊕ (Unit))):=fun v11 =>
br (decide (v11<(l1.length:Int))) (
gd (cg v11 l1.length) (
ob (l1[v11.toNat]?) fun(x31,x32) =>
gd (cg v11 l5.length) (
ob (l5[v11.toNat]?) fun(x37,x38) =>
br (!(decide (x31=x37) && decide (x32=x38))) (
some (.inr (.inl ()))) (
some (.inl (IntKind.wrap .i64 (v11+1))))))) (
some (.inr (.inr ())))
def zH (n:Nat) (l1:List (Int × Int)) (l5:List (Int × Int)):Option (Bool) :=
br (!decide ((l1.length:Int)=(l5.length:Int))) (
some false) (
ob (α:=(Unit) ⊕ (Unit)) (
eC (wQ n l1 l5) n 0) fun r42=>match r42 with
| .inl _ =>
some false
| .inr _ =>
some true)
def F3 (n:Nat):Option (Bool) :=
ob (F7 n) fun r2 =>
br (!r2) (
some false) (
ob (
ob (
ob (F9 n ([0,0,8,0,8,8,0,8,4,0,2,2,6,2,6,6,2,6])) fun l21 =>
some (l21,([([0,4,1,2,3],[])]:List (List Int × List (List Int))))) fun(l22,l23) =>
ob (jI n l22 l23 0 0) fun r0 =>
br (r0) (
ob (jI n [] [] 1 0) fun r1 =>
br (r1) (
ob (
ob (
ob (F9 n ([0,0,8,0,8,8,0,8,4,0,2,2,6,2,6,6,2,6])) fun l24 =>
some (l24,([([0,4,1,2,3],[])]:List (List Int × List (List Int))))) fun(l25,_) =>
ob (
some ()) fun _ =>
some l25) fun l26 =>
ob (jI n l26 [] 1 0) fun r3 =>
br (r3) (
ob (
ob (
ob (F9 n ([0,0,8,0,8,8,0,8,4,0,2,2,6,2,6,6,2,6])) fun l27 =>
some (l27,([([0,4,1,2,3],[])]:List (List Int × List (List Int))))) fun(_,l28) =>
ob (
gd (decide ((0:Int)≤121)) (gd (lim ((121:Int).toNat)) (
some ((List.replicate (121:Int).toNat ((0,0):Int × Int)),(121:Int).toNat)))) fun(l29,n0) =>
some (l29,n0,l28)) fun(l30,_,l31) =>
ob (jI n l30 l31 1 0) fun r4 =>
br (r4) (
ob (
ob (
ob (F9 n ([0,0,8,0,8,8,0,8,4,0,2,2,6,2,6,6,2,6])) fun l32 =>
some (l32,([([0,4,1,2,3],[])]:List (List Int × List (List Int))))) fun(l5,l33) =>
ob (
gd (cg 8 l5.length) (
ob (l5[(8:Int).toNat]?) fun(_,x3) =>
some (l5.set ((8:Int).toNat) (-1000001,x3)))) fun l34 =>
some (l34,l5.length,l33)) fun(l35,_,l36) =>
ob (jI n l35 l36 2 8) fun r5 =>
br (r5) (
ob (
ob (
ob (F9 n ([0,0,8,0,8,8,0,8,4,0,2,2,6,2,6,6,2,6])) fun l37 =>
some (l37,([([0,4,1,2,3],[])]:List (List Int × List (List Int))))) fun(l3,l38) =>
ob (
gd (cg 2 l3.length) (
ob (l3[(2:Int).toNat]?) fun(x4,x5) =>
gd (cg 7 l3.length) (
ob (l3[(7:Int).toNat]?) fun(_,_) =>
some (l3.set ((7:Int).toNat) (x4,x5))))) fun l39 =>
some (l39,l3.length,l38)) fun(l40,_,l41) =>
ob (jI n l40 l41 3 7) fun r6 =>
some r6) (
some false)) (
some false)) (
some false)) (
some false)) (
some false)) fun v0 =>
ob (
br (v0) (
ob (
ob (
ob (F9 n ([0,0,8,0,8,8,0,8,4,0,2,2,6,2,6,6,2,6])) fun l42 =>
some (l42,([([0,4,1,2,3],[])]:List (List Int × List (List Int))))) fun(l43,l6) =>
ob (
gd (cg 0 l6.length) (
ob (l6[(0:Int).toNat]?) fun(_,l44) =>
some (l6.set ((0:Int).toNat) ([0,1],l44)))) fun l45 =>
some (l43,l6.length,l45)) fun(l46,_,l47) =>
ob (jI n l46 l47 4 0) fun r7 =>
br (r7) (
ob (
ob (
ob (F9 n ([0,0,8,0,8,8,0,8,4,0,2,2,6,2,6,6,2,6])) fun l48 =>
some (l48,([([0,4,1,2,3],[])]:List (List Int × List (List Int))))) fun(l49,l7) =>
ob (
gd (cg 0 l7.length) (
ob (l7[(0:Int).toNat]?) fun(_,l50) =>
some (l7.set ((0:Int).toNat) ([0,1,9],l50)))) fun l51 =>
some (l49,l7.length,l51)) fun(l52,_,l53) =>
ob (jI n l52 l53 4 0) fun r8 =>
br (r8) (
ob (
ob (
ob (F9 n ([0,0,8,0,8,8,0,8,4,0,2,2,6,2,6,6,2,6])) fun l54 =>
some (l54,([([0,4,1,2,3],[])]:List (List Int × List (List Int))))) fun(l55,l8) =>
ob (
gd (cg 0 l8.length) (
ob (l8[(0:Int).toNat]?) fun(l56,_) =>
some (l8.set ((0:Int).toNat) (l56,[[],[],[],[],[],[],[],[],[]])))) fun l57 =>
some (l55,l8.length,l57)) fun(l58,_,l59) =>
ob (jI n l58 l59 4 0) fun r9 =>
br (r9) (
ob (
ob (
ob (F9 n ([0,0,8,0,8,8,0,8,4,0,2,2,6,2,6,6,2,6])) fun l60 =>
some (l60,([([0,4,1,2,3],[])]:List (List Int × List (List Int))))) fun(l61,l9) =>
ob (
gd (cg 0 l9.length) (
ob (l9[(0:Int).toNat]?) fun(_,l62) =>
some (l9.set ((0:Int).toNat) ([0,1,3,2],l62)))) fun l63 =>
some (l61,l9.length,l63)) fun(l64,_,l65) =>
ob (jI n l64 l65 5 0) fun r10 =>
br (r10) (
ob (
ob (
ob (F9 n ([0,0,8,0,8,8,0,8,4,0,2,2,6,2,6,6,2,6])) fun l66 =>
some (l66,([([0,4,1,2,3],[])]:List (List Int × List (List Int))))) fun(l67,l10) =>
ob (
gd (cg 0 l10.length) (
ob (l10[(0:Int).toNat]?) fun(_,l68) =>
some (l10.set ((0:Int).toNat) ([0,3,2,1],l68)))) fun l69 =>
some (l67,l10.length,l69)) fun(l70,_,l71) =>
ob (jI n l70 l71 6 0) fun r11 =>
some r11) (
some false)) (
some false)) (
some false)) (
some false)) (
some false)) fun v1 =>
ob (
br (v1) (
ob (
ob (
ob (F9 n ([0,0,8,0,8,8,0,8,4,0,2,2,6,2,6,6,2,6])) fun l72 =>
some (l72,([([0,4,1,2,3],[])]:List (List Int × List (List Int))))) fun(l73,l16) =>
ob (
gd (lim (l16++([([0,4,1,2,3],[])]:List (List Int × List (List Int)))).length) (
some ())) fun _ =>
some (l73,(l16++([([0,4,1,2,3],[])]:List (List Int × List (List Int)))))) fun(l74,l75) =>
ob (jI n l74 l75 7 1) fun r12 =>
br (r12) (
ob (
ob (
ob (F9 n ([0,0,8,0,8,8,0,8,4,0,2,2,6,2,6,6,2,6])) fun l76 =>
some (l76,([([0,4,1,2,3],[])]:List (List Int × List (List Int))))) fun(l77,l11) =>
ob (
gd (cg 0 l11.length) (
ob (l11[(0:Int).toNat]?) fun(l78,_) =>
some (l11.set ((0:Int).toNat) (l78,[[5,8,7,6],[5,8,7]])))) fun l79 =>
some (l77,l11.length,l79)) fun(l80,_,l81) =>
ob (jI n l80 l81 7 0) fun r13 =>
br (r13) (
ob (
ob (
ob (F9 n ([0,0,8,0,8,8,0,8,4,0,2,2,6,2,6,6,2,6])) fun l82 =>
some (l82,([([0,4,1,2,3],[])]:List (List Int × List (List Int))))) fun(l83,l12) =>
ob (
gd (cg 0 l12.length) (
ob (l12[(0:Int).toNat]?) fun(_,l17) =>
gd (lim ((l12.set ((0:Int).toNat) ([0,1,2,3],l17))++([([4,6,5],[])]:List (List Int × List (List Int)))).length) (
some ((l12.set ((0:Int).toNat) ([0,1,2,3],l17))++([([4,6,5],[])]:List (List Int × List (List Int))))))) fun l84 =>
some (l83,l84)) fun(l85,l86) =>
ob (jI n l85 l86 8 1) fun r14 =>
some r14) (
some false)) (
some false)) (
some false)) fun v2 =>
ob (
br (v2) (
ob (
ob (
ob (F9 n ([0,0,8,0,8,8,0,8,4,0,2,2,6,2,6,6,2,6])) fun l87 =>
some (l87,([([0,4,1,2,3],[])]:List (List Int × List (List Int))))) fun(l88,l13) =>
ob (
gd (cg 0 l13.length) (
ob (l13[(0:Int).toNat]?) fun(_,_) =>
some (l13.set ((0:Int).toNat) ([5,6,7,8],[[0,3,2,1]])))) fun l89 =>
some (l88,l13.length,l89)) fun(l90,_,l91) =>
ob (jI n l90 l91 9 0) fun r15 =>
br (r15) (
ob (
ob (
ob (F9 n ([0,0,8,0,8,8,0,8,4,0,2,2,6,2,6,6,2,6])) fun l92 =>
some (l92,([([0,4,1,2,3],[])]:List (List Int × List (List Int))))) fun(l18,l14) =>
ob (
ob (F9 n ([3,3,5,3,4,5])) fun l19 =>
gd (lim (l18++l19).length) (
gd (cg 0 l14.length) (
ob (l14[(0:Int).toNat]?) fun(l93,_) =>
some ((l18++l19),(l14.set ((0:Int).toNat) (l93,[[5,8,7,6],[9,11,10]])))))) fun(l94,l95) =>
some (l94,l14.length,l95)) fun(l96,_,l97) =>
ob (jI n l96 l97 9 0) fun r16 =>
br (r16) (
ob (
ob (
ob (F9 n ([0,0,8,0,8,8,0,8,4,0,2,2,6,2,6,6,2,6])) fun l98 =>
some (l98,([([0,4,1,2,3],[])]:List (List Int × List (List Int))))) fun(l99,l20) =>
ob (
gd (lim (l20++([([5,6,7,8],[])]:List (List Int × List (List Int)))).length) (
some (l20++([([5,6,7,8],[])]:List (List Int × List (List Int)))))) fun l100 =>
some (l99,l100)) fun(l101,l102) =>
ob (jI n l101 l102 10 1) fun r17 =>
br (r17) (
ob (
ob (
ob (F9 n ([0,0,8,0,8,8,0,8,4,0,2,2,6,2,6,6,2,6])) fun l103 =>
some (l103,([([0,4,1,2,3],[])]:List (List Int × List (List Int))))) fun(l104,_) =>
ob (
some ([([5,6,7,8],[]),([0,4,1,2,3],[])]:List (List Int × List (List Int)))) fun l105 =>
some (l104,l105)) fun(l106,l107) =>
ob (jI n l106 l107 10 0) fun r18 =>
some r18) (
some false)) (
some false)) (
some false)) (
some false)) fun v3 =>
ob (
ob (
ob (F9 n ([0,0,8,0,8,8,0,8,4,0,2,2,6,2,6,6,2,6])) fun l108 =>
some (l108,([([0,4,1,2,3],[])]:List (List Int × List (List Int))))) fun(l109,l4) =>
ob (
gd (lim (l4++([([5,6,7,8],[])]:List (List Int × List (List Int)))).length) (
gd (cg 0 ((l4++([([5,6,7,8],[])]:List (List Int × List (List Int)))).length)) (
ob ((l4++([([5,6,7,8],[])]:List (List Int × List (List Int))))[(0:Int).toNat]?) fun(l110,_) =>
some ((l4++([([5,6,7,8],[])]:List (List Int × List (List Int)))).length,((l4++([([5,6,7,8],[])]:List (List Int × List (List Int)))).set ((0:Int).toNat) (l110,[[5,8,7,6]])))))) fun(n1,l111) =>
some (l109,n1,l111)) fun(l1,_,l2) =>
ob (F9 n ([0,0,2,0,1,1,0,2,2,2])) fun l15 =>
ob (
ob (jI n l1 l2 0 0) fun r19 =>
br (r19) (
ob (xU n l1 l2 9 9 2 2) fun r20 =>
br (r20) (
ob (sT n l1 l2 4 4 1) fun r21 =>
br (r21) (
ob (sT n l1 l2 2 4 0) fun r22 =>
br (r22) (
ob (sT n l1 l2 4 0 0) fun r23 =>
br (r23) (
ob (jI n l15 ([([0,1,2],[]),([3,2,4],[])]) 0 0) fun r24 =>
br (r24) (
ob (xU n l15 ([([0,1,2],[]),([3,2,4],[])]) 5 6 2 1) fun r25 =>
br (r25) (
ob (sT n l15 ([([0,1,2],[]),([3,2,4],[])]) 1 1 0) fun r26 =>
br (r26) (
ob (sT n l15 ([([0,1,2],[]),([3,2,4],[])]) 0 1 (-1)) fun r27 =>
some r27) (
some false)) (
some false)) (
some false)) (
some false)) (
some false)) (
some false)) (
some false)) (
some false)) fun v4 =>
ob (xC n l1 l2 0 1) fun(_,r28) =>
ob (xC n l1 l2 2 (-1)) fun(_,r29) =>
ob (xC n l1 l2 0 (-2)) fun(_,r30) =>
ob (zl n l1 l2 (-1)) fun(_,r31) =>
ob (yj n l1 l2 1000001 0) fun(_,r32) =>
ob (yj n [] [] 1000001 0) fun(_,r33) =>
ob (xC n [] [] 9 9) fun(_,r34) =>
ob (xC n l1 l2 0 0) fun(l112,r35) =>
br (v3) (
br (v4) (
br (decide (r28=2)) (
br (decide (r29=2)) (
br (decide (r30=2)) (
br (decide (r31=2)) (
br (decide (r32=2)) (
br (decide (r33=150)) (
br (decide (r34=150)) (
br (decide (r35=0)) (
ob (F9 n ([2,2,2,6,6,6,6,2])) fun l113 =>
ob (zH n l112 l113) fun r36 =>
some r36) (
some false)) (
some false)) (
some false)) (
some false)) (
some false)) (
some false)) (
some false)) (
some false)) (
some false)) (
some false))
end Go.Proofs.YtmndpgfbkicndaaGreat
end

section
namespace Go.Ab.W
open Go Go.Ab
section
variable {P : Program} {ty : TypeId}
def uW (P:Program) (ty u:TypeId) (k:IntKind):Bool:=match P.underlying ty with
 | some (.struct fs) => !(P.stoodInHeld ty || fs.any (·.name == "_")) && (fs.toList.map (fun f => (f.type, f.offset)) == [(u, 0), (u, 1), (u, 2), (u, 3)]) && known P u && (match P.underlying u with | some (.int k') => k' == k | _ => false)
 | _=>false
theorem rC {u : TypeId} {k : IntKind} (h : uW P ty u k = true) : ∃ fs, P.underlying ty = some (.struct fs) ∧ (P.stoodInHeld ty || fs.any (·.name == "_")) = false ∧ fs.toList.map (fun f => (f.type, f.offset)) = [(u, 0), (u, 1), (u, 2), (u, 3)] ∧
  known P u=true∧P.underlying u=some (.int k):=by
 unfold uW at h
 split at h
 ·rename_i fs hf;simp only[Bool.and_eq_true,Bool.not_eq_true',beq_iff_eq] at h;obtain⟨⟨⟨h1,h2⟩,h3⟩,h5⟩:=h
  split at h5
  ·rename_i k' e1;simp only[beq_iff_eq] at h5;subst h5;exact⟨fs,hf,h1,h2,h3,e1⟩
  ·cases h5
 ·cases h
theorem yh {u:TypeId} {k:IntKind} (h:uW P ty u k=true) (x0 y0 x1 y1 x2 y2 x3 y3:Int) :
  fU P Op.maxDepth ty (.agg #[.int k x0,.int k x1,.int k x2,.int k x3]) (.agg #[.int k y0,.int k y1,.int k y2,.int k y3])=some (decide (x0=y0) && decide (x1=y1) && decide (x2=y2) && decide (x3=y3)):=by
 obtain⟨fs,hf,h1,h2,h3,h5⟩:=rC h;have a1:cL P u=false:=by simp only[cL,h5]
 have p0:∀x y z w:Value,cw P u #[x,y,z,w] 0=some x:=fun x y z w=>by simp only[cw,h3,a1]; rfl
 have p1:∀x y z w:Value,cw P u #[x,y,z,w] 1=some y:=fun x y z w=>by simp only[cw,h3,a1]; rfl
 have p2:∀x y z w:Value,cw P u #[x,y,z,w] 2=some z:=fun x y z w=>by simp only[cw,h3,a1]; rfl
 have p3:∀x y z w:Value,cw P u #[x,y,z,w] 3=some w:=fun x y z w=>by simp only[cw,h3,a1]; rfl
 show fU P (9999+1) ty _ _=_
 unfold fU;simp only[hf,h1,Bool.false_eq_true,if_false,h2];rw[iB (p0 _ _ _ _) (p0 _ _ _ _) (lU h5 9998 x0 y0) (iB (p1 _ _ _ _) (p1 _ _ _ _) (lU h5 9998 x1 y1) (iB (p2 _ _ _ _) (p2 _ _ _ _) (lU h5 9998 x2 y2) (iB (p3 _ _ _ _) (p3 _ _ _ _) (lU h5 9998 x3 y3) rfl)))];simp only[Bool.and_true,Bool.and_assoc]
end
section
variable {E : Env} {m0 : AMem} {fs : Fs} {ps : List Pc} {x : Operand} {ty : TypeId}
theorem ep {a:Addr} (h:ev E fs x=some (.pointer (some a))):Od E m0 fs ps (.nilCheck x) (.pointer (some a)) ps:=.pure (fun _=>rfl) fun t m hf K=>by
 show dN (match av E t x with
  | some (.pointer (some a))=>some (.pointer (some a),m)
  | some (.func (.func f) a b)=>some (.func (.func f) a b,m)
  | some (.func (.yield f) a b)=>some (.func (.yield f) a b,m)
  | _=>none) K=_
 rw[hf.ev h]; rfl
theorem yE {elem:TypeId} {w:Nat} {i:Int} {z:Value} {es:List (List Value)} (ht:SlT E.P ty elem w) (hx:ev E fs x=some (.int .i64 i)) (hi:decide (0≤i)=true) (hl:lim i.toNat=true) (hz:bq E.P elem=some z) (hp:z.cells.toList.all aP=true) (he:List.replicate i.toNat z.cells.toList=es) :
  Ox E m0 fs ps (.makeSlice ty x x) (fun b=>.slice (some ⟨b,0,none⟩) i.toNat i.toNat) (fun b=>.arr b w i.toNat es .own::ps):=by
 have:=yD (m0:=m0) (ps:=ps) ht hx (Int.toNat_of_nonneg (of_decide_eq_true hi)).symm hl hz hp;rw[he] at this;exact this
end
end Go.Ab.W
end
