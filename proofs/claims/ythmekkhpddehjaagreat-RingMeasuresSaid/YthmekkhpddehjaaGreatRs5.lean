/- A part of the proof. -/
import Derived.Test.YthmekkhpddehjaaGreatRs4
section
namespace Go.Proofs.YthmekkhpddehjaaGreat
open Go Go.Ab Go.Ab.W
set_option maxRecDepth 10000
set_option maxHeartbeats 4000000
attribute [local irreducible] Tm.at Trie.set Trie.get AMem.get AMem.set AMem.alloc AMem.ww AMem.kill
theorem FL (n:Nat) (l1:List (Int × Int)) (a0:Option Addr) (c0:Nat) (r:Int × Int) (hF:Gr n l1=some r) (m:AMem) (h36:Rd m a0 c0 2 l1.length (l1.map (eP (eI .i64) (eI .i64)))) :
  aR aK 41 [.slice a0 l1.length c0] m (fun v m'=>∃_:Unit,v = .tuple #[.int .i64 r.1,.int .i64 r.2]∧Hp m m' []):=by
 unfold Gr at hF;refine aH (m0:=m) (ps:=[.rd a0 c0 2 l1.length (l1.map (eP (eI .i64) (eI .i64)))]) (N:=116) (rs:=[.cell 2 3,.cell 3 3]) rfl Tryz.func41 rfl rfl rfl ((Hp.start m).nC rfl h36)<|Wk.seq<|Wk.region<|Wo.x (cd rfl) gn rfl fun b6=>?_;refine Wo.x (cL z3 rfl) gn rfl fun b3=>?_;refine Wo.x (cL z3 rfl) gn rfl fun b4=>?_;refine Wo.nil<|At.tn<|Wk.seq<|Wk.region<|Wo.od (aj (k:=2) cY rfl rfl rfl) rfl<|Wo.od (da (k:=3) fP rfl rfl (.inl rfl)) rfl<|Wo.x (cL z3 rfl) gn rfl fun b5=>?_;refine Wo.o0 (bB (k:=0) bg rfl rfl rfl rfl rfl)<|Wo.nil<|At.tn<|Wk.seq<|Wk.seq ?_;obtain⟨v4,h37,hF⟩:=J hF;refine Wk.cut (G:=(fun(r:Bool) (g:Unit)=>match r,g with|v4,_=>⟨.normal,[(1,ptr b6 0),(2,ptr b3 0),(3,ptr b4 0),(4,ptr b5 0),(18,.bool v4)],[.obj b6 (.cells [.slice a0 l1.length c0] .own),.rd a0 c0 2 l1.length (l1.map (eP (eI .i64) (eI .i64))),.obj b3 (.cells [.int .i64 0] .own),.obj b4 (.cells [.int .i64 0] .own),.obj b5 (.cells [.int .i64 (l1.length:Int)] .own)]⟩) v4) ?_ ?_
 ·clear hF;revert v4;intro r hF;refine Wk.region<|Wo.od (aj (k:=0) bg rfl rfl rfl) rfl<|Wo.od (ak rfl rfl (aS _ _ _)) rfl<|Wo.od (aa rfl) rfl ?_;rcases ah hF with⟨h2,hF⟩|⟨h2,hF⟩
  ·refine Wo.s (gg rfl rfl (eU h2)) rfl<|Wo.s (gg rfl rfl (eU h2)) rfl<|Wo.od (dG rfl h2 rfl) rfl<|Wo.nil ?_;cases hF;exact At.en () rfl (sc rfl (sc rfl (sc rfl (sc rfl (sc rfl sn))))) (ae.U [3,4,2,1,0] rfl rfl)
  ·refine Wo.og (aj (k:=0) bg rfl rfl rfl) (gg rfl rfl (eX h2)) rfl<|Wo.og (ak rfl rfl (bJ _ _ _)) (gg rfl rfl (eX h2)) rfl<|Wo.od (dC rfl h2 rfl) rfl<|Wo.nil ?_;cases hF;exact At.en () rfl (sc rfl (sc rfl (sc rfl (sc rfl (sc rfl sn))))) (ae.U [3,4,2,1,0] rfl rfl)
 ·clear h37;rintro⟨⟩;refine At.tn ?_;rcases ah hF with⟨h7,hF⟩|⟨h7,hF⟩
  ·refine Wk.aD rfl h7<|Wk.seq<|Wk.region<|Wo.o0 (bB (k:=2) bg rfl rfl rfl rfl rfl)<|Wo.o0 (bB (k:=3) bg rfl rfl rfl rfl rfl)<|Wo.nil<|At.tn<|Wk.ret<|At.tr ?_;cases hF;exact At.ret (.cell (k:=2) bg rfl rfl rfl (.cell (k:=3) bg rfl rfl rfl .nil)) fun m' hm=>⟨(),rfl,(ae.U [] rfl rfl) m' hm⟩
  ·refine Wk.aC rfl h7<|Wk.skip<|At.tn<|Wk.seq<|Wk.seq<|Wk.region<|Wo.od (aj (k:=0) cY rfl rfl rfl) rfl ?_;obtain⟨v1,h38,hF⟩:=J hF;refine Wo.x (pN (α:=Unit) (V:=fun g=>(fun(r:Int) (g:Unit)=>match r,g with|v1,_=>(.int .i64 v1:Value)) v1 g) (N:=fun g=>(fun(r:Int) (g:Unit)=>match r,g with|v1,_=>([.obj b6 (.cells [.slice a0 l1.length c0] .own),.rd a0 c0 2 l1.length (l1.map (eP (eI .i64) (eI .i64))),.obj b3 (.cells [.int .i64 0] .own),.obj b4 (.cells [.int .i64 0] .own),.obj b5 (.cells [.int .i64 (l1.length:Int)] .own)]:List Pc)) v1 g) rfl rfl (fun m hm=>?_)) gn rfl ?_
   ·clear hF;revert v1;intro r hF;refine aH (N:=19) (rs:=[.tmp 4]) rfl Tryz.func76 rfl rfl rfl hm<|Wk.seq<|Wk.region<|Wo.od (ai rfl) rfl<|Wo.nil<|At.tn<|Wk.seq<|Wk.seq<|Wk.region<|Wo.od (aa rfl) rfl<|Wo.od (da (k:=1) fP rfl rfl (.inl rfl)) rfl<|Wo.od (aa rfl) rfl<|Wo.nil<|At.tn<|Wk.block ?_;obtain⟨r16,h8,hF⟩:=J hF;refine Wk.cut (G:=(fun(r:(Int) ⊕ (Unit)) (g:Unit)=>match r,g with | .inl v5,_=>⟨.ret,[(4,.int .i64 v5)],[.obj b6 (.cells [.slice a0 l1.length c0] .own),.rd a0 c0 2 l1.length (l1.map (eP (eI .i64) (eI .i64))),.obj b3 (.cells [.int .i64 0] .own),.obj b4 (.cells [.int .i64 0] .own),.obj b5 (.cells [.int .i64 (l1.length:Int)] .own)]⟩ | .inr _,_=>⟨(.exit 0),[],[.obj b6 (.cells [.slice a0 l1.length c0] .own),.rd a0 c0 2 l1.length (l1.map (eP (eI .i64) (eI .i64))),.obj b3 (.cells [.int .i64 0] .own),.obj b4 (.cells [.int .i64 0] .own),.obj b5 (.cells [.int .i64 (l1.length:Int)] .own)]⟩) r16) ?_ ?_
    ·refine Wk.ep (fs':=[(0,.slice a0 l1.length c0),(1,.func (.func 48) #[] #[]),(7,.int .i64 (l1.length:Int)),(8,.int .i64 0)]) (ps':=[.rd a0 c0 2 l1.length (l1.map (eP (eI .i64) (eI .i64))),.obj b6 (.cells [.slice a0 l1.length c0] .own),.obj b3 (.cells [.int .i64 0] .own),.obj b4 (.cells [.int .i64 0] .own),.obj b5 (.cells [.int .i64 (l1.length:Int)] .own)]) (sc rfl (sc rfl (sc rfl (sc rfl sn)))) (ae.U [1,0,2,3,4] rfl rfl) ?_;refine Wk.loop (σ:=Int) (ρ:=(Int) ⊕ (Unit)) (γ:=Unit) (δ:=fun _=>Unit) _ (fun(s:Int) (g:Unit)=>match s,g with|v12,_=>⟨.normal,[(0,.slice a0 l1.length c0),(1,.func (.func 48) #[] #[]),(7,.int .i64 (l1.length:Int)),(8,.int .i64 v12)],[.rd a0 c0 2 l1.length (l1.map (eP (eI .i64) (eI .i64))),.obj b6 (.cells [.slice a0 l1.length c0] .own),.obj b3 (.cells [.int .i64 0] .own),.obj b4 (.cells [.int .i64 0] .own),.obj b5 (.cells [.int .i64 (l1.length:Int)] .own)]⟩) (fun(r:(Int) ⊕ (Unit)) (g:Unit)=>match r,g with | .inl v5,_=>⟨.ret,[(4,.int .i64 v5)],[.obj b6 (.cells [.slice a0 l1.length c0] .own),.rd a0 c0 2 l1.length (l1.map (eP (eI .i64) (eI .i64))),.obj b3 (.cells [.int .i64 0] .own),.obj b4 (.cells [.int .i64 0] .own),.obj b5 (.cells [.int .i64 (l1.length:Int)] .own)]⟩ | .inr _,_=>⟨(.exit 0),[],[.obj b6 (.cells [.slice a0 l1.length c0] .own),.rd a0 c0 2 l1.length (l1.map (eP (eI .i64) (eI .i64))),.obj b3 (.cells [.int .i64 0] .own),.obj b4 (.cells [.int .i64 0] .own),.obj b5 (.cells [.int .i64 (l1.length:Int)] .own)]⟩) ?_ (fun _ _=>rfl) (fun r d=>by rcases r with _|_<;>(intro e; cases e)) _ _ _ h8 ()
     clear hF h8;rintro v12 ⟨⟩ r hF;unfold uj at hF;refine Wk.seq<|Wk.region<|Wo.od (ak rfl rfl (aS _ _ _)) rfl<|Wo.nil<|At.tn<|Wk.seq ?_;rcases ah hF with⟨h9,hF⟩|⟨h9,hF⟩
     ·refine Wk.aD rfl h9<|Wk.skip<|At.tn<|Wk.seq<|Wk.block<|Wk.seq<|Wk.region<|Wo.od (aa rfl) rfl<|Wo.od (ai rfl) rfl<|Wo.nil<|At.tn<|Wk.seq<|Wk.region<|Wo.od (aa rfl) rfl<|Wo.od (aa rfl) rfl<|Wo.od (aa rfl) rfl ?_;obtain⟨h3,hF⟩:=al hF;replace h3:=av h3;refine Wo.dL (k:=0) rfl (bP h3) ?_;rintro b26 o4 rfl;refine Wo.og (bC ct rfl rfl h3) gn rfl ?_;obtain⟨⟨x20,x21⟩,h39,hF⟩:=J hF;refine Wo.od (bI (k:=0) az rfl rfl (aO h39) rfl rfl) rfl ?_;obtain⟨r21,h40,hF⟩:=J hF;refine Wo.x (bR rfl rfl (fun m hm=>zu n x20 x21  _ h40 m) fun _=>rfl) gn rfl ?_;rintro⟨⟩;refine Wo.nil<|At.tn ?_;rcases ah hF with⟨h10,hF⟩|⟨h10,hF⟩
      ·refine Wk.aD rfl h10<|Wk.seq<|Wk.region<|Wo.od (aa rfl) rfl<|Wo.od (ai rfl) rfl<|Wo.nil<|At.tn<|Wk.ret<|At.br<|At.tr ?_;cases hF;exact At.en () rfl (sc rfl sn) (ae.U [2,1,3,4,5] rfl rfl)
      ·refine Wk.aC rfl h10<|Wk.skip<|At.bn<|At.tn<|Wk.region<|Wo.od (ak rfl rfl (aB _ _ _)) rfl<|Wo.od (aa rfl) rfl<|Wo.nil ?_;cases hF;exact At.en () rfl (sc rfl (sc rfl (sc rfl (sc rfl sn)))) (ae.U [1,2,3,4,5] rfl rfl)
     ·refine Wk.aC rfl h9<|Wk.exit<|At.te ?_;cases hF;exact At.en () rfl sn (ae.U [1,0,2,3,4] rfl rfl)
    ·clear h8;rcases r16 with v5|_
     ·rintro⟨⟩;refine At.br<|At.tr ?_;have hr:=Option.some.inj hF;subst r;exact At.ret (.tmp rfl .nil) fun m' hm=>⟨(),rfl,(ae.U [0,1,2,3,4] rfl rfl) m' hm⟩
     ·rintro⟨⟩;refine At.be<|At.tn<|Wk.seq<|Wk.region<|Wo.od (ai rfl) rfl<|Wo.nil<|At.tn<|Wk.ret ?_;cases hF;exact At.ret (.tmp rfl .nil) fun m' hm=>⟨(),rfl,(ae.U [0,1,2,3,4] rfl rfl) m' hm⟩
   ·clear h38;rintro⟨⟩;refine Wo.od (ai rfl) rfl<|Wo.nil<|At.tn<|Wk.seq<|Wk.region<|Wo.od (aa rfl) rfl<|Wo.od (ak rfl rfl (lF _ _ _)) rfl<|Wo.nil<|At.tn ?_;rcases ah hF with⟨h11,hF⟩|⟨h11,hF⟩
    ·refine Wk.aD rfl h11<|Wk.seq<|Wk.region<|Wo.od (aa rfl) rfl<|Wo.o0 (bB (k:=2) bg rfl rfl rfl rfl rfl)<|Wo.o0 (bB (k:=3) bg rfl rfl rfl rfl rfl)<|Wo.nil<|At.tn<|Wk.ret<|At.tr ?_;cases hF;exact At.ret (.cell (k:=2) bg rfl rfl rfl (.cell (k:=3) bg rfl rfl rfl .nil)) fun m' hm=>⟨(),rfl,(ae.U [] rfl rfl) m' hm⟩
    ·refine Wk.aC rfl h11<|Wk.skip<|At.tn<|Wk.seq<|Wk.seq<|Wk.region<|Wo.od (aj (k:=0) cY rfl rfl rfl) rfl ?_;obtain⟨r12,h41,hF⟩:=J hF;refine Wo.x (pN (α:=Nat) (V:=fun g=>(fun(r:Unit) (g:Nat)=>match r,g with|_,b14=>(.func (.func 86) #[] #[ptr b14 0]:Value)) r12 g) (N:=fun g=>(fun(r:Unit) (g:Nat)=>match r,g with|_,b14=>([.obj b14 (.cells [.slice a0 l1.length c0] .own),.rd a0 c0 2 l1.length (l1.map (eP (eI .i64) (eI .i64))),.obj b6 (.cells [.slice a0 l1.length c0] .own),.obj b3 (.cells [.int .i64 0] .own),.obj b4 (.cells [.int .i64 0] .own),.obj b5 (.cells [.int .i64 (l1.length:Int)] .own)]:List Pc)) r12 g) rfl rfl (fun m hm=>?_)) gn rfl ?_
     ·clear hF;revert r12;intro r hF;refine aH (N:=4) (rs:=[.tmp 2]) rfl Tryz.func63 rfl rfl rfl hm<|Wk.seq<|Wk.region<|Wo.x (cd rfl) gn rfl fun b18=>?_;refine Wo.od (ai rfl) rfl<|Wo.nil<|At.tn<|Wk.seq<|Wk.region<|Wo.od (vz rfl rfl) rfl<|Wo.od (ai rfl) rfl<|Wo.nil<|At.tn<|Wk.ret ?_;cases hF;exact At.ret (.tmp rfl .nil) fun m' hm=>⟨b18,rfl,(ae.U [0,2,1,3,4,5] rfl rfl) m' hm⟩
     ·clear h41;rintro b14;refine Wo.nil<|At.tn<|Wk.block ?_;obtain⟨r4,h42,hF⟩:=J hF;refine Wk.range (N:=27) (rs:=[]) (γ:=Unit) (X:=fun g=>(fun(r:(Int) ⊕ (Unit)) (g:Unit)=>(match r,g with | .inl v13,_=>⟨.done,(some .ret),[.obj b6 (.cells [.slice a0 l1.length c0] .own),.rd a0 c0 2 l1.length (l1.map (eP (eI .i64) (eI .i64))),.obj b3 (.cells [.int .i64 3] .own),.obj b4 (.cells [.int .i64 v13] .own),.obj b5 (.cells [.int .i64 (l1.length:Int)] .own)]⟩ | .inr _,_=>⟨.ready,none,[.obj b6 (.cells [.slice a0 l1.length c0] .own),.rd a0 c0 2 l1.length (l1.map (eP (eI .i64) (eI .i64))),.obj b3 (.cells [.int .i64 0] .own),.obj b4 (.cells [.int .i64 0] .own),.obj b5 (.cells [.int .i64 (l1.length:Int)] .own)]⟩:Rn)) r4 g) rfl rfl Tryz.func86 rfl rfl rfl ?_ (fun y=>by rcases r4 with _|_<;>(intro e; cases e)) ?_
      ·clear hF;revert r4;intro r hF;intro t0 l5 r3 h43 h44;refine Wk.seq<|Wk.region<|Wo.od (aj (k:=1) cY rfl rfl rfl) rfl<|Wo.od (da (k:=2) fP rfl rfl (.inl rfl)) rfl<|Wo.od (aa rfl) rfl<|Wo.nil<|At.tn<|Wk.block ?_;obtain⟨r17,h12,hF⟩:=J hF;refine Wk.cut (G:=(fun(r:(Int) ⊕ (Unit)) (g:Unit)=>match r,g with | .inl v6,_=>⟨.ret,[],[.obj l5 (r3 .done (some .ret)),.obj b6 (.cells [.slice a0 l1.length c0] .own),.rd a0 c0 2 l1.length (l1.map (eP (eI .i64) (eI .i64))),.obj b3 (.cells [.int .i64 3] .own),.obj b4 (.cells [.int .i64 v6] .own),.obj b5 (.cells [.int .i64 (l1.length:Int)] .own)]⟩ | .inr _,_=>⟨(.exit 0),[],[.obj l5 (r3 .ready none),.obj b6 (.cells [.slice a0 l1.length c0] .own),.rd a0 c0 2 l1.length (l1.map (eP (eI .i64) (eI .i64))),.obj b3 (.cells [.int .i64 0] .own),.obj b4 (.cells [.int .i64 0] .own),.obj b5 (.cells [.int .i64 (l1.length:Int)] .own)]⟩) r17) ?_ ?_
       ·refine Wk.ep (fs':=[(0,.func (.yield l5) #[] #[]),(1,ptr b14 0),(5,.slice a0 l1.length c0),(6,.int .i64 (l1.length:Int)),(7,.int .i64 0)]) (ps':=[.obj l5 (r3 .ready none),.obj b14 (.cells [.slice a0 l1.length c0] .own),.rd a0 c0 2 l1.length (l1.map (eP (eI .i64) (eI .i64))),.obj b6 (.cells [.slice a0 l1.length c0] .own),.obj b3 (.cells [.int .i64 0] .own),.obj b4 (.cells [.int .i64 0] .own),.obj b5 (.cells [.int .i64 (l1.length:Int)] .own)]) (sc rfl (sc rfl (sc rfl (sc rfl (sc rfl sn))))) (ae.U [0,1,2,3,4,5,6] rfl rfl) ?_;refine Wk.loop (σ:=Int) (ρ:=(Int) ⊕ (Unit)) (γ:=Unit) (δ:=fun _=>Unit) _ (fun(s:Int) (g:Unit)=>match s,g with|v7,_=>⟨.normal,[(0,.func (.yield l5) #[] #[]),(1,ptr b14 0),(5,.slice a0 l1.length c0),(6,.int .i64 (l1.length:Int)),(7,.int .i64 v7)],[.obj l5 (r3 .ready none),.obj b14 (.cells [.slice a0 l1.length c0] .own),.rd a0 c0 2 l1.length (l1.map (eP (eI .i64) (eI .i64))),.obj b6 (.cells [.slice a0 l1.length c0] .own),.obj b3 (.cells [.int .i64 0] .own),.obj b4 (.cells [.int .i64 0] .own),.obj b5 (.cells [.int .i64 (l1.length:Int)] .own)]⟩) (fun(r:(Int) ⊕ (Unit)) (g:Unit)=>match r,g with | .inl v6,_=>⟨.ret,[],[.obj l5 (r3 .done (some .ret)),.obj b6 (.cells [.slice a0 l1.length c0] .own),.rd a0 c0 2 l1.length (l1.map (eP (eI .i64) (eI .i64))),.obj b3 (.cells [.int .i64 3] .own),.obj b4 (.cells [.int .i64 v6] .own),.obj b5 (.cells [.int .i64 (l1.length:Int)] .own)]⟩ | .inr _,_=>⟨(.exit 0),[],[.obj l5 (r3 .ready none),.obj b6 (.cells [.slice a0 l1.length c0] .own),.rd a0 c0 2 l1.length (l1.map (eP (eI .i64) (eI .i64))),.obj b3 (.cells [.int .i64 0] .own),.obj b4 (.cells [.int .i64 0] .own),.obj b5 (.cells [.int .i64 (l1.length:Int)] .own)]⟩) ?_ (fun _ _=>rfl) (fun r d=>by rcases r with _|_<;>(intro e; cases e)) _ _ _ h12 ()
        clear hF h12;rintro v7 ⟨⟩ r hF;unfold tl at hF;refine Wk.seq<|Wk.region<|Wo.od (ak rfl rfl (aS _ _ _)) rfl<|Wo.nil<|At.tn<|Wk.seq ?_;rcases ah hF with⟨h13,hF⟩|⟨h13,hF⟩
        ·refine Wk.aD rfl h13<|Wk.skip<|At.tn<|Wk.seq<|Wk.block<|Wk.seq<|Wk.region<|Wo.od (aa rfl) rfl ?_;obtain⟨h4,hF⟩:=al hF;replace h4:=av h4;refine Wo.dL (k:=2) rfl (bP h4) ?_;rintro b12 o3 rfl;refine Wo.og (bC ct rfl rfl h4) gn rfl ?_;obtain⟨⟨x22,x23⟩,h45,hF⟩:=J hF;refine Wo.od (bI (k:=0) az rfl rfl (aO h45) rfl rfl) rfl<|Wo.x (cL z33 rfl) gn rfl fun b27=>?_;refine Wo.od (ai rfl) rfl<|Wo.o0 (bB (k:=0) az rfl rfl rfl rfl rfl)<|Wo.nil<|At.tn<|Wk.seq<|Wk.draw (by kernel_rfl)<|Wo.od (aa rfl) rfl<|Wo.od (aa rfl) rfl<|Wo.od (aj (k:=0) az rfl rfl rfl) rfl<|Wo.od (aj (k:=3) cY rfl rfl rfl) rfl<|Wo.od (aa rfl) rfl<|Wo.od (ak rfl rfl (aB _ _ _)) rfl<|Wo.od (aj (k:=3) cY rfl rfl rfl) rfl ?_
         refine Wo.od (da (k:=1) fP rfl rfl (.inl rfl)) rfl ?_;obtain⟨h46,hF⟩:=al hF;refine Wo.od (ak rfl rfl (cC _ _ h46)) rfl ?_;obtain⟨h14,hF⟩:=al hF;replace h14:=av h14;refine Wo.og (bC ct rfl rfl h14) gn rfl ?_;obtain⟨⟨x24,x25⟩,h47,hF⟩:=J hF;refine Wo.od (bI (k:=1) az rfl rfl (aO h47) rfl rfl) rfl<|Wo.od (dK rfl xu rfl (dI u7 rfl rfl rfl)) rfl ?_;obtain⟨r5,h31,hF⟩:=J hF;refine Wo.x (wM (k:=2) (k1:=0) (γA:=Nat) (GA:=(fun g:Nat=>(match g with|b16=>⟨.normal,[(2,ptr b3 0),(3,ptr b4 0),(6,ptr b16 0)],[.obj l5 (r3 .ready none),.obj b3 (.cells [.int .i64 0] .own),.obj b4 (.cells [.int .i64 0] .own),.obj b16 (.cells [.int .i64 v7,.int .i64 x22,.int .i64 x23,.int .i64 x24,.int .i64 x25] .own),.obj b6 (.cells [.slice (some ⟨b12,o3,none⟩) l1.length c0] .own),.ro b12 o3 2 l1.length (l1.map (eP (eI .i64) (eI .i64))),.rd (some ⟨b12,o3,none⟩) c0 2 l1.length (l1.map (eP (eI .i64) (eI .i64))),.obj b5 (.cells [.int .i64 (l1.length:Int)] .own),.obj b14 (.cells [.slice (some ⟨b12,o3,none⟩) l1.length c0] .own)]⟩:En))) (γ:=Unit) (G:=fun g=>(fun(r:(Unit) ⊕ (Unit)) (g:Unit)=>(match r,g with | .inl _,_=>⟨.ret,[],[.obj l5 (r3 .busy none),.obj b6 (.cells [.slice (some ⟨b12,o3,none⟩) l1.length c0] .own),.ro b12 o3 2 l1.length (l1.map (eP (eI .i64) (eI .i64))),.rd (some ⟨b12,o3,none⟩) c0 2 l1.length (l1.map (eP (eI .i64) (eI .i64))),.obj b3 (.cells [.int .i64 3] .own),.obj b4 (.cells [.int .i64 v7] .own),.obj b5 (.cells [.int .i64 (l1.length:Int)] .own),.obj b14 (.cells [.slice (some ⟨b12,o3,none⟩) l1.length c0] .own)]⟩ | .inr _,_=>⟨.normal,[],[.obj l5 (r3 .busy none),.obj b6 (.cells [.slice (some ⟨b12,o3,none⟩) l1.length c0] .own),.ro b12 o3 2 l1.length (l1.map (eP (eI .i64) (eI .i64))),.rd (some ⟨b12,o3,none⟩) c0 2 l1.length (l1.map (eP (eI .i64) (eI .i64))),.obj b3 (.cells [.int .i64 0] .own),.obj b4 (.cells [.int .i64 0] .own),.obj b5 (.cells [.int .i64 (l1.length:Int)] .own),.obj b14 (.cells [.slice (some ⟨b12,o3,none⟩) l1.length c0] .own)]⟩:En)) r5 g) rfl rfl rfl h44 h43 rfl ?_ (fun _=>rfl) (fun _=>rfl) ?_ (fun y=>by rcases r5 with _|_<;>rfl)) gn rfl ?_
         ·clear hF h31;refine Wk.region<|Wo.x (cL xu rfl) gn rfl fun b19=>?_;refine Wo.o0 (bB (k:=0) nk rfl rfl rfl rfl rfl)<|Wo.nil ?_;exact At.en b19 rfl (sc rfl (sc rfl (sc rfl sn))) (ae.U [3,7,8,0,6,2,5,9,4] rfl rfl)
         ·clear hF;revert r5;intro r hF;rintro b16;refine Wk.block<|Wk.seq<|Wk.region<|Wo.od (ay (r:=ptr b16 1) rfl (cA _ _)) rfl<|Wo.od (aj (k:=3) az rfl rfl rfl) rfl<|Wo.od (ay (r:=ptr b16 3) rfl (de _ _)) rfl<|Wo.od (aj (k:=3) az rfl rfl rfl) rfl<|Wo.od (ak rfl rfl (DR Cy (B8 _ _ _ _))) rfl<|Wo.nil<|At.tn ?_;rcases ah hF with⟨h15,hF⟩|⟨h15,hF⟩
          ·refine Wk.aD rfl h15<|Wk.seq<|Wk.eH (prs:=[(1,2)]) (by kernel_rfl)<|Wn.od (ay (r:=ptr b16 0) rfl (iB _ _)) rfl<|Wn.FV rfl (aj (k:=3) bg rfl rfl rfl) rfl<|Wn.Gc rfl (bB (k:=1) bg rfl rfl rfl rfl rfl)<|Wn.o0 (bB (k:=2) bg rfl rfl rfl rfl rfl)<|Wn.nil (fun m hm=>(eG.rw rfl rfl rfl (hm.ne (i:=3) (j:=1) rfl rfl rfl rfl (by decide) rfl) eG.nil))<|At.tn<|Wk.ret<|At.br ?_
           cases hF;exact At.en () rfl sn (ae.U [0,4,5,6,1,2,7,8] rfl rfl)
          ·refine Wk.aC rfl h15<|Wk.skip<|At.bn ?_;cases hF;exact At.en () rfl sn (ae.U [0,4,5,6,1,2,7,8] rfl rfl)
         ·clear h31;rcases r5 with _|_
          ·rintro⟨⟩;refine Wo.od (gV rfl rfl) rfl<|Wo.nil<|At.tn<|Wk.aD rfl rfl<|Wk.ret<|At.br<|At.tr ?_;cases hF;exact At.en () rfl sn (ae.U [0,1,3,4,5,6] rfl rfl)
          ·rintro⟨⟩;refine Wo.od (gV rfl rfl) rfl<|Wo.nil<|At.tn<|Wk.aC rfl rfl<|Wk.skip<|At.bn<|At.tn<|Wk.region<|Wo.od (ak rfl rfl (aB _ _ _)) rfl<|Wo.od (aa rfl) rfl<|Wo.nil ?_;cases hF;exact At.en () rfl (sc rfl (sc rfl (sc rfl (sc rfl (sc rfl sn))))) (ae.U [0,7,3,1,4,5,6] rfl rfl)
        ·refine Wk.aC rfl h13<|Wk.exit<|At.te ?_;cases hF;exact At.en () rfl sn (ae.U [0,3,2,4,5,6] rfl rfl)
       ·clear h12;rcases r17 with v6|_
        ·rintro⟨⟩;refine At.br ?_;cases hF;exact At.ret .nil fun m' hm=>⟨(),(ae.U [0,1,2,3,4,5] rfl rfl) m' hm⟩
        ·rintro⟨⟩;refine At.be ?_;cases hF;exact At.fin .nil fun m' hm=>⟨(),(ae.U [0,1,2,3,4,5] rfl rfl) m' hm⟩
      ·clear h42;rcases r4 with v13|_
       ·rintro⟨⟩
        change Wk _ _ _ _ .ret _ _ _ _
        refine Wk.ret<|At.br<|At.tr ?_;cases hF;exact At.ret (.cell (k:=2) bg rfl rfl rfl (.cell (k:=3) bg rfl rfl rfl .nil)) fun m' hm=>⟨(),rfl,(ae.U [] rfl rfl) m' hm⟩
       ·rintro⟨⟩
        change At _ .normal _ _ _
        refine At.bn<|At.tn<|Wk.seq<|Wk.seq<|Wk.region<|Wo.od (aj (k:=0) cY rfl rfl rfl) rfl ?_;obtain⟨r13,h48,hF⟩:=J hF;refine Wo.x (pN (α:=Nat) (V:=fun g=>(fun(r:Unit) (g:Nat)=>match r,g with|_,b13=>(.func (.func 86) #[] #[ptr b13 0]:Value)) r13 g) (N:=fun g=>(fun(r:Unit) (g:Nat)=>match r,g with|_,b13=>([.obj b13 (.cells [.slice a0 l1.length c0] .own),.rd a0 c0 2 l1.length (l1.map (eP (eI .i64) (eI .i64))),.obj b6 (.cells [.slice a0 l1.length c0] .own),.obj b3 (.cells [.int .i64 0] .own),.obj b4 (.cells [.int .i64 0] .own),.obj b5 (.cells [.int .i64 (l1.length:Int)] .own)]:List Pc)) r13 g) rfl rfl (fun m hm=>?_)) gn rfl ?_
        ·clear hF;revert r13;intro r hF;refine aH (N:=4) (rs:=[.tmp 2]) rfl Tryz.func63 rfl rfl rfl hm<|Wk.seq<|Wk.region<|Wo.x (cd rfl) gn rfl fun b20=>?_;refine Wo.od (ai rfl) rfl<|Wo.nil<|At.tn<|Wk.seq<|Wk.region<|Wo.od (vz rfl rfl) rfl<|Wo.od (ai rfl) rfl<|Wo.nil<|At.tn<|Wk.ret ?_;cases hF;exact At.ret (.tmp rfl .nil) fun m' hm=>⟨b20,rfl,(ae.U [0,2,1,3,4,5] rfl rfl) m' hm⟩
        ·clear h48;rintro b13;refine Wo.nil<|At.tn<|Wk.block ?_;obtain⟨r6,h49,hF⟩:=J hF;refine Wk.range (N:=27) (rs:=[]) (γ:=Unit) (X:=fun g=>(fun(r:(Int) ⊕ (Unit)) (g:Unit)=>(match r,g with | .inl v14,_=>⟨.done,(some .ret),[.obj b6 (.cells [.slice a0 l1.length c0] .own),.rd a0 c0 2 l1.length (l1.map (eP (eI .i64) (eI .i64))),.obj b3 (.cells [.int .i64 4] .own),.obj b4 (.cells [.int .i64 v14] .own),.obj b5 (.cells [.int .i64 (l1.length:Int)] .own)]⟩ | .inr _,_=>⟨.ready,none,[.obj b6 (.cells [.slice a0 l1.length c0] .own),.rd a0 c0 2 l1.length (l1.map (eP (eI .i64) (eI .i64))),.obj b3 (.cells [.int .i64 0] .own),.obj b4 (.cells [.int .i64 0] .own),.obj b5 (.cells [.int .i64 (l1.length:Int)] .own)]⟩:Rn)) r6 g) rfl rfl Tryz.func86 rfl rfl rfl ?_ (fun y=>by rcases r6 with _|_<;>(intro e; cases e)) ?_
         ·clear hF;revert r6;intro r hF;intro t3 l4 r2 h50 h51;refine Wk.seq<|Wk.region<|Wo.od (aj (k:=1) cY rfl rfl rfl) rfl<|Wo.od (da (k:=2) fP rfl rfl (.inl rfl)) rfl<|Wo.od (aa rfl) rfl<|Wo.nil<|At.tn<|Wk.block ?_;obtain⟨r18,h16,hF⟩:=J hF;refine Wk.cut (G:=(fun(r:(Int) ⊕ (Unit)) (g:Unit)=>match r,g with | .inl v8,_=>⟨.ret,[],[.obj l4 (r2 .done (some .ret)),.obj b6 (.cells [.slice a0 l1.length c0] .own),.rd a0 c0 2 l1.length (l1.map (eP (eI .i64) (eI .i64))),.obj b3 (.cells [.int .i64 4] .own),.obj b4 (.cells [.int .i64 v8] .own),.obj b5 (.cells [.int .i64 (l1.length:Int)] .own)]⟩ | .inr _,_=>⟨(.exit 0),[],[.obj l4 (r2 .ready none),.obj b6 (.cells [.slice a0 l1.length c0] .own),.rd a0 c0 2 l1.length (l1.map (eP (eI .i64) (eI .i64))),.obj b3 (.cells [.int .i64 0] .own),.obj b4 (.cells [.int .i64 0] .own),.obj b5 (.cells [.int .i64 (l1.length:Int)] .own)]⟩) r18) ?_ ?_
          ·refine Wk.ep (fs':=[(0,.func (.yield l4) #[] #[]),(1,ptr b13 0),(5,.slice a0 l1.length c0),(6,.int .i64 (l1.length:Int)),(7,.int .i64 0)]) (ps':=[.obj l4 (r2 .ready none),.obj b13 (.cells [.slice a0 l1.length c0] .own),.rd a0 c0 2 l1.length (l1.map (eP (eI .i64) (eI .i64))),.obj b6 (.cells [.slice a0 l1.length c0] .own),.obj b3 (.cells [.int .i64 0] .own),.obj b4 (.cells [.int .i64 0] .own),.obj b5 (.cells [.int .i64 (l1.length:Int)] .own)]) (sc rfl (sc rfl (sc rfl (sc rfl (sc rfl sn))))) (ae.U [0,1,2,3,4,5,6] rfl rfl) ?_;refine Wk.loop (σ:=Int) (ρ:=(Int) ⊕ (Unit)) (γ:=Unit) (δ:=fun _=>Unit) _ (fun(s:Int) (g:Unit)=>match s,g with|v2,_=>⟨.normal,[(0,.func (.yield l4) #[] #[]),(1,ptr b13 0),(5,.slice a0 l1.length c0),(6,.int .i64 (l1.length:Int)),(7,.int .i64 v2)],[.obj l4 (r2 .ready none),.obj b13 (.cells [.slice a0 l1.length c0] .own),.rd a0 c0 2 l1.length (l1.map (eP (eI .i64) (eI .i64))),.obj b6 (.cells [.slice a0 l1.length c0] .own),.obj b3 (.cells [.int .i64 0] .own),.obj b4 (.cells [.int .i64 0] .own),.obj b5 (.cells [.int .i64 (l1.length:Int)] .own)]⟩) (fun(r:(Int) ⊕ (Unit)) (g:Unit)=>match r,g with | .inl v8,_=>⟨.ret,[],[.obj l4 (r2 .done (some .ret)),.obj b6 (.cells [.slice a0 l1.length c0] .own),.rd a0 c0 2 l1.length (l1.map (eP (eI .i64) (eI .i64))),.obj b3 (.cells [.int .i64 4] .own),.obj b4 (.cells [.int .i64 v8] .own),.obj b5 (.cells [.int .i64 (l1.length:Int)] .own)]⟩ | .inr _,_=>⟨(.exit 0),[],[.obj l4 (r2 .ready none),.obj b6 (.cells [.slice a0 l1.length c0] .own),.rd a0 c0 2 l1.length (l1.map (eP (eI .i64) (eI .i64))),.obj b3 (.cells [.int .i64 0] .own),.obj b4 (.cells [.int .i64 0] .own),.obj b5 (.cells [.int .i64 (l1.length:Int)] .own)]⟩) ?_ (fun _ _=>rfl) (fun r d=>by rcases r with _|_<;>(intro e; cases e)) _ _ _ h16 ()
           clear hF h16;rintro v2 ⟨⟩ r hF;unfold tu at hF;refine Wk.seq<|Wk.region<|Wo.od (ak rfl rfl (aS _ _ _)) rfl<|Wo.nil<|At.tn<|Wk.seq ?_;rcases ah hF with⟨h17,hF⟩|⟨h17,hF⟩
           ·refine Wk.aD rfl h17<|Wk.skip<|At.tn<|Wk.seq<|Wk.block<|Wk.seq<|Wk.region<|Wo.od (aa rfl) rfl ?_;obtain⟨h5,hF⟩:=al hF;replace h5:=av h5;refine Wo.dL (k:=2) rfl (bP h5) ?_;rintro b10 o2 rfl;refine Wo.og (bC ct rfl rfl h5) gn rfl ?_;obtain⟨⟨x12,x13⟩,h52,hF⟩:=J hF;refine Wo.od (bI (k:=0) az rfl rfl (aO h52) rfl rfl) rfl<|Wo.x (cL z33 rfl) gn rfl fun b28=>?_;refine Wo.od (ai rfl) rfl<|Wo.o0 (bB (k:=0) az rfl rfl rfl rfl rfl)<|Wo.nil<|At.tn<|Wk.seq<|Wk.draw (by kernel_rfl)<|Wo.od (aa rfl) rfl<|Wo.od (aa rfl) rfl<|Wo.od (aj (k:=0) az rfl rfl rfl) rfl<|Wo.od (aj (k:=3) cY rfl rfl rfl) rfl<|Wo.od (aa rfl) rfl<|Wo.od (ak rfl rfl (aB _ _ _)) rfl<|Wo.od (aj (k:=3) cY rfl rfl rfl) rfl ?_
            refine Wo.od (da (k:=1) fP rfl rfl (.inl rfl)) rfl ?_;obtain⟨h53,hF⟩:=al hF;refine Wo.od (ak rfl rfl (cC _ _ h53)) rfl ?_;obtain⟨h18,hF⟩:=al hF;replace h18:=av h18;refine Wo.og (bC ct rfl rfl h18) gn rfl ?_;obtain⟨⟨x14,x15⟩,h54,hF⟩:=J hF;refine Wo.od (bI (k:=1) az rfl rfl (aO h54) rfl rfl) rfl<|Wo.od (dK rfl xu rfl (dI u7 rfl rfl rfl)) rfl ?_;obtain⟨r7,h32,hF⟩:=J hF;refine Wo.x (wM (k:=2) (k1:=0) (γA:=Nat) (GA:=(fun g:Nat=>(match g with|b9=>⟨.normal,[(1,ptr b6 0),(2,ptr b3 0),(3,ptr b4 0),(4,ptr b5 0),(7,ptr b9 0)],[.obj l4 (r2 .ready none),.obj b6 (.cells [.slice (some ⟨b10,o2,none⟩) l1.length c0] .own),.ro b10 o2 2 l1.length (l1.map (eP (eI .i64) (eI .i64))),.rd (some ⟨b10,o2,none⟩) c0 2 l1.length (l1.map (eP (eI .i64) (eI .i64))),.obj b3 (.cells [.int .i64 0] .own),.obj b4 (.cells [.int .i64 0] .own),.obj b5 (.cells [.int .i64 (l1.length:Int)] .own),.obj b9 (.cells [.int .i64 v2,.int .i64 x12,.int .i64 x13,.int .i64 x14,.int .i64 x15] .own),.obj b13 (.cells [.slice (some ⟨b10,o2,none⟩) l1.length c0] .own)]⟩:En))) (γ:=Unit) (G:=fun g=>(fun(r:(Unit) ⊕ (Unit)) (g:Unit)=>(match r,g with | .inl _,_=>⟨.ret,[],[.obj l4 (r2 .busy none),.obj b6 (.cells [.slice (some ⟨b10,o2,none⟩) l1.length c0] .own),.ro b10 o2 2 l1.length (l1.map (eP (eI .i64) (eI .i64))),.rd (some ⟨b10,o2,none⟩) c0 2 l1.length (l1.map (eP (eI .i64) (eI .i64))),.obj b3 (.cells [.int .i64 4] .own),.obj b4 (.cells [.int .i64 v2] .own),.obj b5 (.cells [.int .i64 (l1.length:Int)] .own),.obj b13 (.cells [.slice (some ⟨b10,o2,none⟩) l1.length c0] .own)]⟩ | .inr _,_=>⟨.normal,[],[.obj l4 (r2 .busy none),.obj b6 (.cells [.slice (some ⟨b10,o2,none⟩) l1.length c0] .own),.ro b10 o2 2 l1.length (l1.map (eP (eI .i64) (eI .i64))),.rd (some ⟨b10,o2,none⟩) c0 2 l1.length (l1.map (eP (eI .i64) (eI .i64))),.obj b3 (.cells [.int .i64 0] .own),.obj b4 (.cells [.int .i64 0] .own),.obj b5 (.cells [.int .i64 (l1.length:Int)] .own),.obj b13 (.cells [.slice (some ⟨b10,o2,none⟩) l1.length c0] .own)]⟩:En)) r7 g) rfl rfl rfl h51 h50 rfl ?_ (fun _=>rfl) (fun _=>rfl) ?_ (fun y=>by rcases r7 with _|_<;>rfl)) gn rfl ?_
            ·clear hF h32;refine Wk.region<|Wo.x (cL xu rfl) gn rfl fun b21=>?_;refine Wo.o0 (bB (k:=0) nk rfl rfl rfl rfl rfl)<|Wo.nil ?_;exact At.en b21 rfl (sc rfl (sc rfl (sc rfl (sc rfl (sc rfl sn))))) (ae.U [3,6,2,5,7,8,9,0,4] rfl rfl)
            ·clear hF;revert r7;intro r hF;rintro b9;refine Wk.block<|Wk.seq<|Wk.draw (by kernel_rfl)<|Wo.od (aj (k:=1) cY rfl rfl rfl) rfl<|Wo.od (ay (r:=ptr b9 0) rfl (iB _ _)) rfl<|Wo.od (aj (k:=7) bg rfl rfl rfl) rfl<|Wo.od (aj (k:=6) bg rfl rfl rfl) rfl<|Wo.od (ak rfl rfl (aB _ _ _)) rfl<|Wo.od (ak rfl rfl (aV _ _ _)) rfl<|Wo.od (aj (k:=6) bg rfl rfl rfl) rfl ?_
             obtain⟨h55,hF⟩:=al hF;obtain⟨y0,h56,hF⟩:=J hF;refine Wo.od (ak rfl rfl ((cC _ _ h55).trans (cI h56))) rfl ?_;obtain⟨h19,hF⟩:=al hF;replace h19:=av h19;refine Wo.og (bC ct rfl rfl h19) gn rfl ?_;obtain⟨⟨x26,x27⟩,h57,hF⟩:=J hF;refine Wo.od (bI (k:=2) az rfl rfl (aO h57) rfl rfl) rfl<|Wo.x (cL z33 rfl) gn rfl fun b17=>?_;refine Wo.o0 (bB (k:=0) az rfl rfl rfl rfl rfl)<|Wo.nil<|At.tn<|Wk.seq ?_;obtain⟨v9,h58,hF⟩:=J hF;refine Wk.cut (G:=(fun(r:Bool) (g:Unit)=>match r,g with|v9,_=>⟨.normal,[(1,ptr b6 0),(2,ptr b3 0),(3,ptr b4 0),(4,ptr b5 0),(7,ptr b9 0),(85,.bool v9)],[.obj l4 (r2 .busy none),.obj b6 (.cells [.slice (some ⟨b10,o2,none⟩) l1.length c0] .own),.ro b10 o2 2 l1.length (l1.map (eP (eI .i64) (eI .i64))),.rd (some ⟨b10,o2,none⟩) c0 2 l1.length (l1.map (eP (eI .i64) (eI .i64))),.obj b3 (.cells [.int .i64 0] .own),.obj b4 (.cells [.int .i64 0] .own),.obj b5 (.cells [.int .i64 (l1.length:Int)] .own),.obj b9 (.cells [.int .i64 v2,.int .i64 x12,.int .i64 x13,.int .i64 x14,.int .i64 x15] .own),.obj b13 (.cells [.slice (some ⟨b10,o2,none⟩) l1.length c0] .own)]⟩) v9) ?_ ?_
             ·clear hF;revert v9;intro r hF;refine Wk.region<|Wo.od (aj (k:=0) az rfl rfl rfl) rfl<|Wo.od (ay (r:=ptr b9 1) rfl (cA _ _)) rfl<|Wo.od (aj (k:=8) az rfl rfl rfl) rfl<|Wo.od (ay (r:=ptr b9 3) rfl (de _ _)) rfl<|Wo.od (aj (k:=8) az rfl rfl rfl) rfl ?_;obtain⟨r22,h59,hF⟩:=J hF;refine Wo.x (bR rfl rfl (fun m hm=>jj n x26 x27 x12 x13 x14 x15  _ h59 m) fun _=>rfl) gn rfl ?_;rintro⟨⟩;refine Wo.od (ak rfl rfl (dh _ _ _)) rfl<|Wo.od (aa rfl) rfl ?_;rcases ah hF with⟨h0,hF⟩|⟨h0,hF⟩
              ·refine Wo.og (ay (r:=ptr b9 1) rfl (cA _ _)) (gg rfl rfl (bO h0)) rfl<|Wo.og (ay (r:=ptr b9 1) rfl (aQ _ _)) (gg rfl rfl (bO h0)) rfl<|Wo.og (aj (k:=8) bg rfl rfl rfl) (gg rfl rfl (bO h0)) rfl<|Wo.og (ay (r:=ptr b17 0) rfl (aQ _ _)) (gg rfl rfl (bO h0)) rfl<|Wo.og (aj (k:=0) bg rfl rfl rfl) (gg rfl rfl (bO h0)) rfl<|Wo.og (ak rfl rfl (aV _ _ _)) (gg rfl rfl (bO h0)) rfl<|Wo.og (ay (r:=ptr b9 3) rfl (de _ _)) (gg rfl rfl (bO h0)) rfl<|Wo.og (ay (r:=ptr b9 3) rfl (aQ _ _)) (gg rfl rfl (bO h0)) rfl<|Wo.og (aj (k:=8) bg rfl rfl rfl) (gg rfl rfl (bO h0)) rfl<|Wo.og (ay (r:=ptr b9 1) rfl (cA _ _)) (gg rfl rfl (bO h0)) rfl ?_;refine Wo.og (ay (r:=ptr b9 1) rfl (aQ _ _)) (gg rfl rfl (bO h0)) rfl<|Wo.og (aj (k:=8) bg rfl rfl rfl) (gg rfl rfl (bO h0)) rfl<|Wo.og (ak rfl rfl (aV _ _ _)) (gg rfl rfl (bO h0)) rfl ?_;obtain⟨y1,h60,hF⟩:=J hF;refine Wo.og (ak rfl rfl ((bQ _ _ _).trans (cI h60))) (gg rfl rfl (bO h0)) rfl<|Wo.og (ay (r:=ptr b9 1) rfl (cA _ _)) (gg rfl rfl (bO h0)) rfl<|Wo.og (ay (r:=ptr b9 2) rfl (aF _ _)) (gg rfl rfl (bO h0)) rfl<|Wo.og (aj (k:=8) bg rfl rfl rfl) (gg rfl rfl (bO h0)) rfl<|Wo.og (ay (r:=ptr b17 1) rfl (aF _ _)) (gg rfl rfl (bO h0)) rfl<|Wo.og (aj (k:=0) bg rfl rfl rfl) (gg rfl rfl (bO h0)) rfl<|Wo.og (ak rfl rfl (aV _ _ _)) (gg rfl rfl (bO h0)) rfl<|Wo.og (ay (r:=ptr b9 3) rfl (de _ _)) (gg rfl rfl (bO h0)) rfl<|Wo.og (ay (r:=ptr b9 4) rfl (aF _ _)) (gg rfl rfl (bO h0)) rfl<|Wo.og (aj (k:=8) bg rfl rfl rfl) (gg rfl rfl (bO h0)) rfl ?_;refine Wo.og (ay (r:=ptr b9 1) rfl (cA _ _)) (gg rfl rfl (bO h0)) rfl<|Wo.og (ay (r:=ptr b9 2) rfl (aF _ _)) (gg rfl rfl (bO h0)) rfl<|Wo.og (aj (k:=8) bg rfl rfl rfl) (gg rfl rfl (bO h0)) rfl<|Wo.og (ak rfl rfl (aV _ _ _)) (gg rfl rfl (bO h0)) rfl ?_;obtain⟨y2,h61,hF⟩:=J hF;refine Wo.og (ak rfl rfl ((bQ _ _ _).trans (cI h61))) (gg rfl rfl (bO h0)) rfl<|Wo.og (ak rfl rfl (aB _ _ _)) (gg rfl rfl (bO h0)) rfl<|Wo.og (ak rfl rfl (aS _ _ _)) (gg rfl rfl (bO h0)) rfl<|Wo.od (dG rfl h0 rfl) rfl<|Wo.nil ?_;cases hF;exact At.en () rfl (sc rfl (sc rfl (sc rfl (sc rfl (sc rfl (sc rfl sn)))))) (ae.U [1,2,3,4,5,6,7,8,9] rfl rfl)
              ·refine Wo.s (gg rfl rfl (bM h0)) rfl<|Wo.s (gg rfl rfl (bM h0)) rfl<|Wo.s (gg rfl rfl (bM h0)) rfl<|Wo.s (gg rfl rfl (bM h0)) rfl<|Wo.s (gg rfl rfl (bM h0)) rfl<|Wo.s (gg rfl rfl (bM h0)) rfl<|Wo.s (gg rfl rfl (bM h0)) rfl<|Wo.s (gg rfl rfl (bM h0)) rfl<|Wo.s (gg rfl rfl (bM h0)) rfl<|Wo.s (gg rfl rfl (bM h0)) rfl ?_;refine Wo.s (gg rfl rfl (bM h0)) rfl<|Wo.s (gg rfl rfl (bM h0)) rfl<|Wo.s (gg rfl rfl (bM h0)) rfl<|Wo.s (gg rfl rfl (bM h0)) rfl<|Wo.s (gg rfl rfl (bM h0)) rfl<|Wo.s (gg rfl rfl (bM h0)) rfl<|Wo.s (gg rfl rfl (bM h0)) rfl<|Wo.s (gg rfl rfl (bM h0)) rfl<|Wo.s (gg rfl rfl (bM h0)) rfl<|Wo.s (gg rfl rfl (bM h0)) rfl ?_;refine Wo.s (gg rfl rfl (bM h0)) rfl<|Wo.s (gg rfl rfl (bM h0)) rfl<|Wo.s (gg rfl rfl (bM h0)) rfl<|Wo.s (gg rfl rfl (bM h0)) rfl<|Wo.s (gg rfl rfl (bM h0)) rfl<|Wo.s (gg rfl rfl (bM h0)) rfl<|Wo.s (gg rfl rfl (bM h0)) rfl<|Wo.s (gg rfl rfl (bM h0)) rfl<|Wo.s (gg rfl rfl (bM h0)) rfl<|Wo.s (gg rfl rfl (bM h0)) rfl ?_;refine Wo.od (dC rfl h0 rfl) rfl<|Wo.nil ?_;cases hF;exact At.en () rfl (sc rfl (sc rfl (sc rfl (sc rfl (sc rfl (sc rfl sn)))))) (ae.U [1,2,3,4,5,6,7,8,9] rfl rfl)
             ·clear h58;rintro⟨⟩;refine At.tn ?_;rcases ah hF with⟨h20,hF⟩|⟨h20,hF⟩
              ·refine Wk.aD rfl h20<|Wk.seq<|Wk.eH (prs:=[(1,2)]) (by kernel_rfl)<|Wn.od (ay (r:=ptr b9 0) rfl (iB _ _)) rfl<|Wn.FV rfl (aj (k:=7) bg rfl rfl rfl) rfl<|Wn.Gc rfl (bB (k:=4) bg rfl rfl rfl rfl rfl)<|Wn.o0 (bB (k:=5) bg rfl rfl rfl rfl rfl)<|Wn.nil (fun m hm=>(eG.rw rfl rfl rfl (hm.ne (i:=7) (j:=4) rfl rfl rfl rfl (by decide) rfl) eG.nil))<|At.tn<|Wk.ret<|At.br ?_
               cases hF;exact At.en () rfl sn (ae.U [0,1,2,3,4,5,6,8] rfl rfl)
              ·refine Wk.aC rfl h20<|Wk.skip<|At.bn ?_;cases hF;exact At.en () rfl sn (ae.U [0,1,2,3,4,5,6,8] rfl rfl)
            ·clear h32;rcases r7 with _|_
             ·rintro⟨⟩;refine Wo.od (gV rfl rfl) rfl<|Wo.nil<|At.tn<|Wk.aD rfl rfl<|Wk.ret<|At.br<|At.tr ?_;cases hF;exact At.en () rfl sn (ae.U [0,1,3,4,5,6] rfl rfl)
             ·rintro⟨⟩;refine Wo.od (gV rfl rfl) rfl<|Wo.nil<|At.tn<|Wk.aC rfl rfl<|Wk.skip<|At.bn<|At.tn<|Wk.region<|Wo.od (ak rfl rfl (aB _ _ _)) rfl<|Wo.od (aa rfl) rfl<|Wo.nil ?_;cases hF;exact At.en () rfl (sc rfl (sc rfl (sc rfl (sc rfl (sc rfl sn))))) (ae.U [0,7,3,1,4,5,6] rfl rfl)
           ·refine Wk.aC rfl h17<|Wk.exit<|At.te ?_;cases hF;exact At.en () rfl sn (ae.U [0,3,2,4,5,6] rfl rfl)
          ·clear h16;rcases r18 with v8|_
           ·rintro⟨⟩;refine At.br ?_;cases hF;exact At.ret .nil fun m' hm=>⟨(),(ae.U [0,1,2,3,4,5] rfl rfl) m' hm⟩
           ·rintro⟨⟩;refine At.be ?_;cases hF;exact At.fin .nil fun m' hm=>⟨(),(ae.U [0,1,2,3,4,5] rfl rfl) m' hm⟩
         ·clear h49;rcases r6 with v14|_
          ·rintro⟨⟩
           change Wk _ _ _ _ .ret _ _ _ _
           refine Wk.ret<|At.br<|At.tr ?_;cases hF;exact At.ret (.cell (k:=2) bg rfl rfl rfl (.cell (k:=3) bg rfl rfl rfl .nil)) fun m' hm=>⟨(),rfl,(ae.U [] rfl rfl) m' hm⟩
          ·rintro⟨⟩
           change At _ .normal _ _ _
           refine At.bn<|At.tn<|Wk.seq<|Wk.seq<|Wk.region<|Wo.od (aj (k:=0) cY rfl rfl rfl) rfl ?_;obtain⟨r14,h62,hF⟩:=J hF;refine Wo.x (pN (α:=Nat) (V:=fun g=>(fun(r:Unit) (g:Nat)=>match r,g with|_,b7=>(.func (.func 86) #[] #[ptr b7 0]:Value)) r14 g) (N:=fun g=>(fun(r:Unit) (g:Nat)=>match r,g with|_,b7=>([.obj b7 (.cells [.slice a0 l1.length c0] .own),.rd a0 c0 2 l1.length (l1.map (eP (eI .i64) (eI .i64))),.obj b6 (.cells [.slice a0 l1.length c0] .own),.obj b3 (.cells [.int .i64 0] .own),.obj b4 (.cells [.int .i64 0] .own),.obj b5 (.cells [.int .i64 (l1.length:Int)] .own)]:List Pc)) r14 g) rfl rfl (fun m hm=>?_)) gn rfl ?_
           ·clear hF;revert r14;intro r hF;refine aH (N:=4) (rs:=[.tmp 2]) rfl Tryz.func63 rfl rfl rfl hm<|Wk.seq<|Wk.region<|Wo.x (cd rfl) gn rfl fun b22=>?_;refine Wo.od (ai rfl) rfl<|Wo.nil<|At.tn<|Wk.seq<|Wk.region<|Wo.od (vz rfl rfl) rfl<|Wo.od (ai rfl) rfl<|Wo.nil<|At.tn<|Wk.ret ?_;cases hF;exact At.ret (.tmp rfl .nil) fun m' hm=>⟨b22,rfl,(ae.U [0,2,1,3,4,5] rfl rfl) m' hm⟩
           ·clear h62;rintro b7;refine Wo.nil<|At.tn<|Wk.block ?_;obtain⟨r8,h63,hF⟩:=J hF;refine Wk.range (N:=27) (rs:=[]) (γ:=Unit) (X:=fun g=>(fun(r:(Int) ⊕ (Unit)) (g:Unit)=>(match r,g with | .inl v15,_=>⟨.done,(some .ret),[.obj b6 (.cells [.slice a0 l1.length c0] .own),.rd a0 c0 2 l1.length (l1.map (eP (eI .i64) (eI .i64))),.obj b3 (.cells [.int .i64 5] .own),.obj b4 (.cells [.int .i64 v15] .own),.obj b5 (.cells [.int .i64 (l1.length:Int)] .own)]⟩ | .inr _,_=>⟨.ready,none,[.obj b6 (.cells [.slice a0 l1.length c0] .own),.rd a0 c0 2 l1.length (l1.map (eP (eI .i64) (eI .i64))),.obj b3 (.cells [.int .i64 0] .own),.obj b4 (.cells [.int .i64 0] .own),.obj b5 (.cells [.int .i64 (l1.length:Int)] .own)]⟩:Rn)) r8 g) rfl rfl Tryz.func86 rfl rfl rfl ?_ (fun y=>by rcases r8 with _|_<;>(intro e; cases e)) ?_
            ·clear hF;revert r8;intro r hF;intro t4 l2 r0 h64 h33;refine Wk.seq<|Wk.region<|Wo.od (aj (k:=1) cY rfl rfl rfl) rfl<|Wo.od (da (k:=2) fP rfl rfl (.inl rfl)) rfl<|Wo.od (aa rfl) rfl<|Wo.nil<|At.tn<|Wk.block ?_;obtain⟨r19,h21,hF⟩:=J hF;refine Wk.cut (G:=(fun(r:(Int) ⊕ (Unit)) (g:Unit)=>match r,g with | .inl v10,_=>⟨.ret,[],[.obj l2 (r0 .done (some .ret)),.obj b6 (.cells [.slice a0 l1.length c0] .own),.rd a0 c0 2 l1.length (l1.map (eP (eI .i64) (eI .i64))),.obj b3 (.cells [.int .i64 5] .own),.obj b4 (.cells [.int .i64 v10] .own),.obj b5 (.cells [.int .i64 (l1.length:Int)] .own)]⟩ | .inr _,_=>⟨(.exit 0),[],[.obj l2 (r0 .ready none),.obj b6 (.cells [.slice a0 l1.length c0] .own),.rd a0 c0 2 l1.length (l1.map (eP (eI .i64) (eI .i64))),.obj b3 (.cells [.int .i64 0] .own),.obj b4 (.cells [.int .i64 0] .own),.obj b5 (.cells [.int .i64 (l1.length:Int)] .own)]⟩) r19) ?_ ?_
             ·refine Wk.ep (fs':=[(0,.func (.yield l2) #[] #[]),(1,ptr b7 0),(5,.slice a0 l1.length c0),(6,.int .i64 (l1.length:Int)),(7,.int .i64 0)]) (ps':=[.obj l2 (r0 .ready none),.obj b7 (.cells [.slice a0 l1.length c0] .own),.rd a0 c0 2 l1.length (l1.map (eP (eI .i64) (eI .i64))),.obj b6 (.cells [.slice a0 l1.length c0] .own),.obj b3 (.cells [.int .i64 0] .own),.obj b4 (.cells [.int .i64 0] .own),.obj b5 (.cells [.int .i64 (l1.length:Int)] .own)]) (sc rfl (sc rfl (sc rfl (sc rfl (sc rfl sn))))) (ae.U [0,1,2,3,4,5,6] rfl rfl) ?_;refine Wk.loop (σ:=Int) (ρ:=(Int) ⊕ (Unit)) (γ:=Unit) (δ:=fun _=>Unit) _ (fun(s:Int) (g:Unit)=>match s,g with|v0,_=>⟨.normal,[(0,.func (.yield l2) #[] #[]),(1,ptr b7 0),(5,.slice a0 l1.length c0),(6,.int .i64 (l1.length:Int)),(7,.int .i64 v0)],[.obj l2 (r0 .ready none),.obj b7 (.cells [.slice a0 l1.length c0] .own),.rd a0 c0 2 l1.length (l1.map (eP (eI .i64) (eI .i64))),.obj b6 (.cells [.slice a0 l1.length c0] .own),.obj b3 (.cells [.int .i64 0] .own),.obj b4 (.cells [.int .i64 0] .own),.obj b5 (.cells [.int .i64 (l1.length:Int)] .own)]⟩) (fun(r:(Int) ⊕ (Unit)) (g:Unit)=>match r,g with | .inl v10,_=>⟨.ret,[],[.obj l2 (r0 .done (some .ret)),.obj b6 (.cells [.slice a0 l1.length c0] .own),.rd a0 c0 2 l1.length (l1.map (eP (eI .i64) (eI .i64))),.obj b3 (.cells [.int .i64 5] .own),.obj b4 (.cells [.int .i64 v10] .own),.obj b5 (.cells [.int .i64 (l1.length:Int)] .own)]⟩ | .inr _,_=>⟨(.exit 0),[],[.obj l2 (r0 .ready none),.obj b6 (.cells [.slice a0 l1.length c0] .own),.rd a0 c0 2 l1.length (l1.map (eP (eI .i64) (eI .i64))),.obj b3 (.cells [.int .i64 0] .own),.obj b4 (.cells [.int .i64 0] .own),.obj b5 (.cells [.int .i64 (l1.length:Int)] .own)]⟩) ?_ (fun _ _=>rfl) (fun r d=>by rcases r with _|_<;>(intro e; cases e)) _ _ _ h21 ()
              clear hF h21;rintro v0 ⟨⟩ r hF;unfold uo at hF;refine Wk.seq<|Wk.region<|Wo.od (ak rfl rfl (aS _ _ _)) rfl<|Wo.nil<|At.tn<|Wk.seq ?_;rcases ah hF with⟨h22,hF⟩|⟨h22,hF⟩
              ·refine Wk.aD rfl h22<|Wk.skip<|At.tn<|Wk.seq<|Wk.block<|Wk.seq<|Wk.region<|Wo.od (aa rfl) rfl ?_;obtain⟨h6,hF⟩:=al hF;replace h6:=av h6;refine Wo.dL (k:=2) rfl (bP h6) ?_;rintro b0 o1 rfl;refine Wo.og (bC ct rfl rfl h6) gn rfl ?_;obtain⟨⟨x3,x4⟩,h65,hF⟩:=J hF;refine Wo.od (bI (k:=0) az rfl rfl (aO h65) rfl rfl) rfl<|Wo.x (cL z33 rfl) gn rfl fun b29=>?_;refine Wo.od (ai rfl) rfl<|Wo.o0 (bB (k:=0) az rfl rfl rfl rfl rfl)<|Wo.nil<|At.tn<|Wk.seq<|Wk.draw (by kernel_rfl)<|Wo.od (aa rfl) rfl<|Wo.od (aa rfl) rfl<|Wo.od (aj (k:=0) az rfl rfl rfl) rfl<|Wo.od (aj (k:=3) cY rfl rfl rfl) rfl<|Wo.od (aa rfl) rfl<|Wo.od (ak rfl rfl (aB _ _ _)) rfl<|Wo.od (aj (k:=3) cY rfl rfl rfl) rfl ?_
               refine Wo.od (da (k:=1) fP rfl rfl (.inl rfl)) rfl ?_;obtain⟨h66,hF⟩:=al hF;refine Wo.od (ak rfl rfl (cC _ _ h66)) rfl ?_;obtain⟨h23,hF⟩:=al hF;replace h23:=av h23;refine Wo.og (bC ct rfl rfl h23) gn rfl ?_;obtain⟨⟨x10,x11⟩,h67,hF⟩:=J hF;refine Wo.od (bI (k:=1) az rfl rfl (aO h67) rfl rfl) rfl<|Wo.od (dK rfl xu rfl (dI u7 rfl rfl rfl)) rfl ?_;obtain⟨r9,h34,hF⟩:=J hF;refine Wo.x (wM (k:=2) (k1:=0) (γA:=Nat) (GA:=(fun g:Nat=>(match g with|b8=>⟨.normal,[(1,ptr b6 0),(2,ptr b3 0),(3,ptr b4 0),(4,ptr b5 0),(9,ptr b8 0)],[.obj l2 (r0 .ready none),.obj b6 (.cells [.slice (some ⟨b0,o1,none⟩) l1.length c0] .own),.ro b0 o1 2 l1.length (l1.map (eP (eI .i64) (eI .i64))),.rd (some ⟨b0,o1,none⟩) c0 2 l1.length (l1.map (eP (eI .i64) (eI .i64))),.obj b3 (.cells [.int .i64 0] .own),.obj b4 (.cells [.int .i64 0] .own),.obj b5 (.cells [.int .i64 (l1.length:Int)] .own),.obj b8 (.cells [.int .i64 v0,.int .i64 x3,.int .i64 x4,.int .i64 x10,.int .i64 x11] .own),.obj b7 (.cells [.slice (some ⟨b0,o1,none⟩) l1.length c0] .own)]⟩:En))) (γ:=Unit) (G:=fun g=>(fun(r:(Unit) ⊕ (Unit)) (g:Unit)=>(match r,g with | .inl _,_=>⟨.normal,[],[.obj l2 (r0 .busy none),.obj b6 (.cells [.slice (some ⟨b0,o1,none⟩) l1.length c0] .own),.ro b0 o1 2 l1.length (l1.map (eP (eI .i64) (eI .i64))),.rd (some ⟨b0,o1,none⟩) c0 2 l1.length (l1.map (eP (eI .i64) (eI .i64))),.obj b3 (.cells [.int .i64 0] .own),.obj b4 (.cells [.int .i64 0] .own),.obj b5 (.cells [.int .i64 (l1.length:Int)] .own),.obj b7 (.cells [.slice (some ⟨b0,o1,none⟩) l1.length c0] .own)]⟩ | .inr _,_=>⟨.ret,[],[.obj l2 (r0 .busy none),.obj b6 (.cells [.slice (some ⟨b0,o1,none⟩) l1.length c0] .own),.ro b0 o1 2 l1.length (l1.map (eP (eI .i64) (eI .i64))),.rd (some ⟨b0,o1,none⟩) c0 2 l1.length (l1.map (eP (eI .i64) (eI .i64))),.obj b3 (.cells [.int .i64 5] .own),.obj b4 (.cells [.int .i64 v0] .own),.obj b5 (.cells [.int .i64 (l1.length:Int)] .own),.obj b7 (.cells [.slice (some ⟨b0,o1,none⟩) l1.length c0] .own)]⟩:En)) r9 g) rfl rfl rfl h33 h64 rfl ?_ (fun _=>rfl) (fun _=>rfl) ?_ (fun y=>by rcases r9 with _|_<;>rfl)) gn rfl ?_
               ·clear hF h34;refine Wk.region<|Wo.x (cL xu rfl) gn rfl fun b23=>?_;refine Wo.o0 (bB (k:=0) nk rfl rfl rfl rfl rfl)<|Wo.nil ?_;exact At.en b23 rfl (sc rfl (sc rfl (sc rfl (sc rfl (sc rfl sn))))) (ae.U [3,6,2,5,7,8,9,0,4] rfl rfl)
               ·clear hF;revert r9;intro r hF;rintro b8;refine Wk.block<|Wk.seq<|Wk.region<|Wo.od (aj (k:=1) cY rfl rfl rfl) rfl ?_;obtain⟨r15,h68,hF⟩:=J hF;refine Wo.x (pN (α:=Nat) (V:=fun g=>(fun(r:Unit) (g:Nat)=>match r,g with|_,b11=>(.func (.func 86) #[] #[ptr b11 0]:Value)) r15 g) (N:=fun g=>(fun(r:Unit) (g:Nat)=>match r,g with|_,b11=>([.obj l2 (r0 .busy none),.obj b11 (.cells [.slice (some ⟨b0,o1,none⟩) l1.length c0] .own),.ro b0 o1 2 l1.length (l1.map (eP (eI .i64) (eI .i64))),.rd (some ⟨b0,o1,none⟩) c0 2 l1.length (l1.map (eP (eI .i64) (eI .i64))),.obj b6 (.cells [.slice (some ⟨b0,o1,none⟩) l1.length c0] .own),.obj b3 (.cells [.int .i64 0] .own),.obj b4 (.cells [.int .i64 0] .own),.obj b5 (.cells [.int .i64 (l1.length:Int)] .own),.obj b7 (.cells [.slice (some ⟨b0,o1,none⟩) l1.length c0] .own),.obj b8 (.cells [.int .i64 v0,.int .i64 x3,.int .i64 x4,.int .i64 x10,.int .i64 x11] .own)]:List Pc)) r15 g) rfl rfl (fun m hm=>?_)) gn rfl ?_
                ·clear hF;revert r15;intro r hF;refine aH (N:=4) (rs:=[.tmp 2]) rfl Tryz.func63 rfl rfl rfl hm<|Wk.seq<|Wk.region<|Wo.x (cd rfl) gn rfl fun b24=>?_;refine Wo.od (ai rfl) rfl<|Wo.nil<|At.tn<|Wk.seq<|Wk.region<|Wo.od (vz rfl rfl) rfl<|Wo.od (ai rfl) rfl<|Wo.nil<|At.tn<|Wk.ret ?_;cases hF;exact At.ret (.tmp rfl .nil) fun m' hm=>⟨b24,rfl,(ae.U [1,0,3,4,2,5,6,7,9,8] rfl rfl) m' hm⟩
                ·clear h68;rintro b11;refine Wo.nil<|At.tn<|Wk.block ?_;obtain⟨r10,h69,hF⟩:=J hF;refine Wk.EX (k0:=0) (N:=27) (rs:=[]) (γ:=Unit) (X:=fun g=>(fun(r:(Unit) ⊕ ((Unit) ⊕ (Unit))) (g:Unit)=>(match r,g with | .inl _,_=>⟨.done,(some (.exit 6)),[.obj l2 (r0 .busy none),.obj b6 (.cells [.slice (some ⟨b0,o1,none⟩) l1.length c0] .own),.ro b0 o1 2 l1.length (l1.map (eP (eI .i64) (eI .i64))),.rd (some ⟨b0,o1,none⟩) c0 2 l1.length (l1.map (eP (eI .i64) (eI .i64))),.obj b3 (.cells [.int .i64 0] .own),.obj b4 (.cells [.int .i64 0] .own),.obj b5 (.cells [.int .i64 (l1.length:Int)] .own),.obj b7 (.cells [.slice (some ⟨b0,o1,none⟩) l1.length c0] .own),.obj b8 (.cells [.int .i64 v0,.int .i64 x3,.int .i64 x4,.int .i64 x10,.int .i64 x11] .own)]⟩ | .inr (.inl _),_=>⟨.done,(some .ret),[.obj l2 (r0 .busy none),.obj b6 (.cells [.slice (some ⟨b0,o1,none⟩) l1.length c0] .own),.ro b0 o1 2 l1.length (l1.map (eP (eI .i64) (eI .i64))),.rd (some ⟨b0,o1,none⟩) c0 2 l1.length (l1.map (eP (eI .i64) (eI .i64))),.obj b3 (.cells [.int .i64 5] .own),.obj b4 (.cells [.int .i64 v0] .own),.obj b5 (.cells [.int .i64 (l1.length:Int)] .own),.obj b7 (.cells [.slice (some ⟨b0,o1,none⟩) l1.length c0] .own),.obj b8 (.cells [.int .i64 v0,.int .i64 x3,.int .i64 x4,.int .i64 x10,.int .i64 x11] .own)]⟩ | .inr (.inr _),_=>⟨.ready,none,[.obj l2 (r0 .busy none),.obj b6 (.cells [.slice (some ⟨b0,o1,none⟩) l1.length c0] .own),.ro b0 o1 2 l1.length (l1.map (eP (eI .i64) (eI .i64))),.rd (some ⟨b0,o1,none⟩) c0 2 l1.length (l1.map (eP (eI .i64) (eI .i64))),.obj b3 (.cells [.int .i64 0] .own),.obj b4 (.cells [.int .i64 0] .own),.obj b5 (.cells [.int .i64 (l1.length:Int)] .own),.obj b7 (.cells [.slice (some ⟨b0,o1,none⟩) l1.length c0] .own),.obj b8 (.cells [.int .i64 v0,.int .i64 x3,.int .i64 x4,.int .i64 x10,.int .i64 x11] .own)]⟩:Rn)) r10 g) rfl rfl Tryz.func86 rfl rfl rfl h33 rfl ?_ (fun y=>by rcases r10 with _|_|_<;>(intro e; cases e)) ?_
                 ·clear hF;revert r10;intro r hF;intro t5 l3 r1 h70 h71;refine Wk.seq<|Wk.region<|Wo.od (aj (k:=2) cY rfl rfl rfl) rfl<|Wo.od (da (k:=3) fP rfl rfl (.inl rfl)) rfl<|Wo.od (aa rfl) rfl<|Wo.nil<|At.tn<|Wk.block ?_;obtain⟨r20,h24,hF⟩:=J hF;refine Wk.cut (G:=(fun(r:(Unit) ⊕ ((Unit) ⊕ (Unit))) (g:Unit)=>match r,g with | .inl _,_=>⟨.ret,[],[.obj l3 (r1 .done (some (.exit 6))),.obj l2 (r0 .busy none),.obj b6 (.cells [.slice (some ⟨b0,o1,none⟩) l1.length c0] .own),.ro b0 o1 2 l1.length (l1.map (eP (eI .i64) (eI .i64))),.rd (some ⟨b0,o1,none⟩) c0 2 l1.length (l1.map (eP (eI .i64) (eI .i64))),.obj b3 (.cells [.int .i64 0] .own),.obj b4 (.cells [.int .i64 0] .own),.obj b5 (.cells [.int .i64 (l1.length:Int)] .own),.obj b7 (.cells [.slice (some ⟨b0,o1,none⟩) l1.length c0] .own),.obj b8 (.cells [.int .i64 v0,.int .i64 x3,.int .i64 x4,.int .i64 x10,.int .i64 x11] .own)]⟩ | .inr (.inl _),_=>⟨.ret,[],[.obj l3 (r1 .done (some .ret)),.obj l2 (r0 .busy none),.obj b6 (.cells [.slice (some ⟨b0,o1,none⟩) l1.length c0] .own),.ro b0 o1 2 l1.length (l1.map (eP (eI .i64) (eI .i64))),.rd (some ⟨b0,o1,none⟩) c0 2 l1.length (l1.map (eP (eI .i64) (eI .i64))),.obj b3 (.cells [.int .i64 5] .own),.obj b4 (.cells [.int .i64 v0] .own),.obj b5 (.cells [.int .i64 (l1.length:Int)] .own),.obj b7 (.cells [.slice (some ⟨b0,o1,none⟩) l1.length c0] .own),.obj b8 (.cells [.int .i64 v0,.int .i64 x3,.int .i64 x4,.int .i64 x10,.int .i64 x11] .own)]⟩ | .inr (.inr _),_=>⟨(.exit 0),[],[.obj l3 (r1 .ready none),.obj l2 (r0 .busy none),.obj b6 (.cells [.slice (some ⟨b0,o1,none⟩) l1.length c0] .own),.ro b0 o1 2 l1.length (l1.map (eP (eI .i64) (eI .i64))),.rd (some ⟨b0,o1,none⟩) c0 2 l1.length (l1.map (eP (eI .i64) (eI .i64))),.obj b3 (.cells [.int .i64 0] .own),.obj b4 (.cells [.int .i64 0] .own),.obj b5 (.cells [.int .i64 (l1.length:Int)] .own),.obj b7 (.cells [.slice (some ⟨b0,o1,none⟩) l1.length c0] .own),.obj b8 (.cells [.int .i64 v0,.int .i64 x3,.int .i64 x4,.int .i64 x10,.int .i64 x11] .own)]⟩) r20) ?_ ?_
                  ·refine Wk.ep (fs':=[(0,.func (.yield l3) #[] #[]),(1,ptr b11 0),(5,.slice (some ⟨b0,o1,none⟩) l1.length c0),(6,.int .i64 (l1.length:Int)),(7,.int .i64 0)]) (ps':=[.obj l3 (r1 .ready none),.obj l2 (r0 .busy none),.obj b11 (.cells [.slice (some ⟨b0,o1,none⟩) l1.length c0] .own),.ro b0 o1 2 l1.length (l1.map (eP (eI .i64) (eI .i64))),.rd (some ⟨b0,o1,none⟩) c0 2 l1.length (l1.map (eP (eI .i64) (eI .i64))),.obj b6 (.cells [.slice (some ⟨b0,o1,none⟩) l1.length c0] .own),.obj b3 (.cells [.int .i64 0] .own),.obj b4 (.cells [.int .i64 0] .own),.obj b5 (.cells [.int .i64 (l1.length:Int)] .own),.obj b7 (.cells [.slice (some ⟨b0,o1,none⟩) l1.length c0] .own),.obj b8 (.cells [.int .i64 v0,.int .i64 x3,.int .i64 x4,.int .i64 x10,.int .i64 x11] .own)]) (sc rfl (sc rfl (sc rfl (sc rfl (sc rfl sn))))) (ae.U [0,1,2,3,4,5,6,7,8,9,10] rfl rfl) ?_;refine Wk.loop (σ:=Int) (ρ:=(Unit) ⊕ ((Unit) ⊕ (Unit))) (γ:=Unit) (δ:=fun _=>Unit) _ (fun(s:Int) (g:Unit)=>match s,g with|v3,_=>⟨.normal,[(0,.func (.yield l3) #[] #[]),(1,ptr b11 0),(5,.slice (some ⟨b0,o1,none⟩) l1.length c0),(6,.int .i64 (l1.length:Int)),(7,.int .i64 v3)],[.obj l3 (r1 .ready none),.obj l2 (r0 .busy none),.obj b11 (.cells [.slice (some ⟨b0,o1,none⟩) l1.length c0] .own),.ro b0 o1 2 l1.length (l1.map (eP (eI .i64) (eI .i64))),.rd (some ⟨b0,o1,none⟩) c0 2 l1.length (l1.map (eP (eI .i64) (eI .i64))),.obj b6 (.cells [.slice (some ⟨b0,o1,none⟩) l1.length c0] .own),.obj b3 (.cells [.int .i64 0] .own),.obj b4 (.cells [.int .i64 0] .own),.obj b5 (.cells [.int .i64 (l1.length:Int)] .own),.obj b7 (.cells [.slice (some ⟨b0,o1,none⟩) l1.length c0] .own),.obj b8 (.cells [.int .i64 v0,.int .i64 x3,.int .i64 x4,.int .i64 x10,.int .i64 x11] .own)]⟩) (fun(r:(Unit) ⊕ ((Unit) ⊕ (Unit))) (g:Unit)=>match r,g with | .inl _,_=>⟨.ret,[],[.obj l3 (r1 .done (some (.exit 6))),.obj l2 (r0 .busy none),.obj b6 (.cells [.slice (some ⟨b0,o1,none⟩) l1.length c0] .own),.ro b0 o1 2 l1.length (l1.map (eP (eI .i64) (eI .i64))),.rd (some ⟨b0,o1,none⟩) c0 2 l1.length (l1.map (eP (eI .i64) (eI .i64))),.obj b3 (.cells [.int .i64 0] .own),.obj b4 (.cells [.int .i64 0] .own),.obj b5 (.cells [.int .i64 (l1.length:Int)] .own),.obj b7 (.cells [.slice (some ⟨b0,o1,none⟩) l1.length c0] .own),.obj b8 (.cells [.int .i64 v0,.int .i64 x3,.int .i64 x4,.int .i64 x10,.int .i64 x11] .own)]⟩ | .inr (.inl _),_=>⟨.ret,[],[.obj l3 (r1 .done (some .ret)),.obj l2 (r0 .busy none),.obj b6 (.cells [.slice (some ⟨b0,o1,none⟩) l1.length c0] .own),.ro b0 o1 2 l1.length (l1.map (eP (eI .i64) (eI .i64))),.rd (some ⟨b0,o1,none⟩) c0 2 l1.length (l1.map (eP (eI .i64) (eI .i64))),.obj b3 (.cells [.int .i64 5] .own),.obj b4 (.cells [.int .i64 v0] .own),.obj b5 (.cells [.int .i64 (l1.length:Int)] .own),.obj b7 (.cells [.slice (some ⟨b0,o1,none⟩) l1.length c0] .own),.obj b8 (.cells [.int .i64 v0,.int .i64 x3,.int .i64 x4,.int .i64 x10,.int .i64 x11] .own)]⟩ | .inr (.inr _),_=>⟨(.exit 0),[],[.obj l3 (r1 .ready none),.obj l2 (r0 .busy none),.obj b6 (.cells [.slice (some ⟨b0,o1,none⟩) l1.length c0] .own),.ro b0 o1 2 l1.length (l1.map (eP (eI .i64) (eI .i64))),.rd (some ⟨b0,o1,none⟩) c0 2 l1.length (l1.map (eP (eI .i64) (eI .i64))),.obj b3 (.cells [.int .i64 0] .own),.obj b4 (.cells [.int .i64 0] .own),.obj b5 (.cells [.int .i64 (l1.length:Int)] .own),.obj b7 (.cells [.slice (some ⟨b0,o1,none⟩) l1.length c0] .own),.obj b8 (.cells [.int .i64 v0,.int .i64 x3,.int .i64 x4,.int .i64 x10,.int .i64 x11] .own)]⟩) ?_ (fun _ _=>rfl) (fun r d=>by rcases r with _ | (_|_)<;>(intro e; cases e)) _ _ _ h24 ()
                   clear hF h24;rintro v3 ⟨⟩ r hF;unfold sW at hF;refine Wk.seq<|Wk.region<|Wo.od (ak rfl rfl (aS _ _ _)) rfl<|Wo.nil<|At.tn<|Wk.seq ?_;rcases ah hF with⟨h25,hF⟩|⟨h25,hF⟩
                   ·refine Wk.aD rfl h25<|Wk.skip<|At.tn<|Wk.seq<|Wk.block<|Wk.seq<|Wk.region<|Wo.od (aa rfl) rfl ?_;obtain⟨h26,hF⟩:=al hF;replace h26:=av h26;refine Wo.og (bC ct rfl rfl h26) gn rfl ?_;obtain⟨⟨x16,x17⟩,h72,hF⟩:=J hF;refine Wo.od (bI (k:=3) az rfl rfl (aO h72) rfl rfl) rfl<|Wo.x (cL z33 rfl) gn rfl fun b30=>?_;refine Wo.od (ai rfl) rfl<|Wo.o0 (bB (k:=0) az rfl rfl rfl rfl rfl)<|Wo.nil<|At.tn<|Wk.seq<|Wk.draw (by kernel_rfl)<|Wo.od (aa rfl) rfl<|Wo.od (aa rfl) rfl<|Wo.od (aj (k:=0) az rfl rfl rfl) rfl<|Wo.od (aj (k:=3) cY rfl rfl rfl) rfl<|Wo.od (aa rfl) rfl<|Wo.od (ak rfl rfl (aB _ _ _)) rfl<|Wo.od (aj (k:=3) cY rfl rfl rfl) rfl ?_
                    refine Wo.od (da (k:=4) fP rfl rfl (.inl rfl)) rfl ?_;obtain⟨h73,hF⟩:=al hF;refine Wo.od (ak rfl rfl (cC _ _ h73)) rfl ?_;obtain⟨h27,hF⟩:=al hF;replace h27:=av h27;refine Wo.og (bC ct rfl rfl h27) gn rfl ?_;obtain⟨⟨x18,x19⟩,h74,hF⟩:=J hF;refine Wo.od (bI (k:=4) az rfl rfl (aO h74) rfl rfl) rfl<|Wo.od (dK rfl xu rfl (dI u7 rfl rfl rfl)) rfl ?_;obtain⟨r11,h35,hF⟩:=J hF;refine Wo.x (wM (k:=1) (k1:=0) (γA:=Nat) (GA:=(fun g:Nat=>(match g with|b15=>⟨.normal,[(2,ptr b3 0),(3,ptr b4 0),(4,ptr b5 0),(9,ptr b8 0),(10,ptr b15 0)],[.obj l3 (r1 .ready none),.obj l2 (r0 .busy none),.obj b3 (.cells [.int .i64 0] .own),.obj b4 (.cells [.int .i64 0] .own),.obj b5 (.cells [.int .i64 (l1.length:Int)] .own),.obj b8 (.cells [.int .i64 v0,.int .i64 x3,.int .i64 x4,.int .i64 x10,.int .i64 x11] .own),.obj b15 (.cells [.int .i64 v3,.int .i64 x16,.int .i64 x17,.int .i64 x18,.int .i64 x19] .own),.obj b6 (.cells [.slice (some ⟨b0,o1,none⟩) l1.length c0] .own),.ro b0 o1 2 l1.length (l1.map (eP (eI .i64) (eI .i64))),.rd (some ⟨b0,o1,none⟩) c0 2 l1.length (l1.map (eP (eI .i64) (eI .i64))),.obj b7 (.cells [.slice (some ⟨b0,o1,none⟩) l1.length c0] .own),.obj b11 (.cells [.slice (some ⟨b0,o1,none⟩) l1.length c0] .own)]⟩:En))) (γ:=Unit) (G:=fun g=>(fun(r:(Unit) ⊕ ((Unit) ⊕ (Unit))) (g:Unit)=>(match r,g with | .inl _,_=>⟨(.exit 6),[],[.obj l3 (r1 .busy none),.obj l2 (r0 .busy none),.obj b6 (.cells [.slice (some ⟨b0,o1,none⟩) l1.length c0] .own),.ro b0 o1 2 l1.length (l1.map (eP (eI .i64) (eI .i64))),.rd (some ⟨b0,o1,none⟩) c0 2 l1.length (l1.map (eP (eI .i64) (eI .i64))),.obj b3 (.cells [.int .i64 0] .own),.obj b4 (.cells [.int .i64 0] .own),.obj b5 (.cells [.int .i64 (l1.length:Int)] .own),.obj b7 (.cells [.slice (some ⟨b0,o1,none⟩) l1.length c0] .own),.obj b8 (.cells [.int .i64 v0,.int .i64 x3,.int .i64 x4,.int .i64 x10,.int .i64 x11] .own),.obj b11 (.cells [.slice (some ⟨b0,o1,none⟩) l1.length c0] .own)]⟩ | .inr (.inl _),_=>⟨.normal,[],[.obj l3 (r1 .busy none),.obj l2 (r0 .busy none),.obj b6 (.cells [.slice (some ⟨b0,o1,none⟩) l1.length c0] .own),.ro b0 o1 2 l1.length (l1.map (eP (eI .i64) (eI .i64))),.rd (some ⟨b0,o1,none⟩) c0 2 l1.length (l1.map (eP (eI .i64) (eI .i64))),.obj b3 (.cells [.int .i64 0] .own),.obj b4 (.cells [.int .i64 0] .own),.obj b5 (.cells [.int .i64 (l1.length:Int)] .own),.obj b7 (.cells [.slice (some ⟨b0,o1,none⟩) l1.length c0] .own),.obj b8 (.cells [.int .i64 v0,.int .i64 x3,.int .i64 x4,.int .i64 x10,.int .i64 x11] .own),.obj b11 (.cells [.slice (some ⟨b0,o1,none⟩) l1.length c0] .own)]⟩ | .inr (.inr _),_=>⟨.ret,[],[.obj l3 (r1 .busy none),.obj l2 (r0 .busy none),.obj b6 (.cells [.slice (some ⟨b0,o1,none⟩) l1.length c0] .own),.ro b0 o1 2 l1.length (l1.map (eP (eI .i64) (eI .i64))),.rd (some ⟨b0,o1,none⟩) c0 2 l1.length (l1.map (eP (eI .i64) (eI .i64))),.obj b3 (.cells [.int .i64 5] .own),.obj b4 (.cells [.int .i64 v0] .own),.obj b5 (.cells [.int .i64 (l1.length:Int)] .own),.obj b7 (.cells [.slice (some ⟨b0,o1,none⟩) l1.length c0] .own),.obj b8 (.cells [.int .i64 v0,.int .i64 x3,.int .i64 x4,.int .i64 x10,.int .i64 x11] .own),.obj b11 (.cells [.slice (some ⟨b0,o1,none⟩) l1.length c0] .own)]⟩:En)) r11 g) rfl rfl rfl h71 h70 rfl ?_ (fun _=>rfl) (fun _=>rfl) ?_ (fun y=>by rcases r11 with _|_|_<;>rfl)) gn rfl ?_
                    ·clear hF h35;refine Wk.region<|Wo.x (cL xu rfl) gn rfl fun b25=>?_;refine Wo.o0 (bB (k:=0) nk rfl rfl rfl rfl rfl)<|Wo.nil ?_;exact At.en b25 rfl (sc rfl (sc rfl (sc rfl (sc rfl (sc rfl sn))))) (ae.U [2,3,8,9,10,12,0,7,5,6,11,4] rfl rfl)
                    ·clear hF;revert r11;intro r hF;rintro b15;refine Wk.block<|Wk.seq<|Wk.seq<|Wk.region<|Wo.od (ay (r:=ptr b15 0) rfl (iB _ _)) rfl<|Wo.od (aj (k:=6) bg rfl rfl rfl) rfl<|Wo.od (ay (r:=ptr b8 0) rfl (iB _ _)) rfl<|Wo.od (aj (k:=5) bg rfl rfl rfl) rfl<|Wo.od (ak rfl rfl (aV _ _ _)) rfl<|Wo.od (ak rfl rfl (lF _ _ _)) rfl<|Wo.nil<|At.tn ?_;rcases ah hF with⟨h28,hF⟩|⟨h28,hF⟩
                     ·refine Wk.aD rfl h28<|Wk.exit<|At.te<|At.bx rfl ?_;cases hF;exact At.en () rfl sn (ae.U [0,1,7,8,9,2,3,4,10,5,11] rfl rfl)
                     ·refine Wk.aC rfl h28<|Wk.skip<|At.tn<|Wk.seq<|Wk.seq ?_;obtain⟨v11,h75,hF⟩:=J hF;refine Wk.cut (G:=(fun(r:Bool) (g:Unit)=>match r,g with|v11,_=>⟨.normal,[(2,ptr b3 0),(3,ptr b4 0),(4,ptr b5 0),(9,ptr b8 0),(10,ptr b15 0),(109,.bool v11)],[.obj l3 (r1 .busy none),.obj l2 (r0 .busy none),.obj b3 (.cells [.int .i64 0] .own),.obj b4 (.cells [.int .i64 0] .own),.obj b5 (.cells [.int .i64 (l1.length:Int)] .own),.obj b8 (.cells [.int .i64 v0,.int .i64 x3,.int .i64 x4,.int .i64 x10,.int .i64 x11] .own),.obj b15 (.cells [.int .i64 v3,.int .i64 x16,.int .i64 x17,.int .i64 x18,.int .i64 x19] .own),.obj b6 (.cells [.slice (some ⟨b0,o1,none⟩) l1.length c0] .own),.ro b0 o1 2 l1.length (l1.map (eP (eI .i64) (eI .i64))),.rd (some ⟨b0,o1,none⟩) c0 2 l1.length (l1.map (eP (eI .i64) (eI .i64))),.obj b7 (.cells [.slice (some ⟨b0,o1,none⟩) l1.length c0] .own),.obj b11 (.cells [.slice (some ⟨b0,o1,none⟩) l1.length c0] .own)]⟩) v11) ?_ ?_
                      ·clear hF;revert v11;intro r hF;refine Wk.region<|Wo.od (ay (r:=ptr b15 0) rfl (iB _ _)) rfl<|Wo.od (aj (k:=6) bg rfl rfl rfl) rfl<|Wo.od (ak rfl rfl (dh _ _ _)) rfl<|Wo.od (aa rfl) rfl ?_;rcases ah hF with⟨h1,hF⟩|⟨h1,hF⟩
                       ·refine Wo.og (ay (r:=ptr b8 0) rfl (iB _ _)) (gg rfl rfl (bO h1)) rfl<|Wo.og (aj (k:=5) bg rfl rfl rfl) (gg rfl rfl (bO h1)) rfl<|Wo.og (aj (k:=4) bg rfl rfl rfl) (gg rfl rfl (bO h1)) rfl<|Wo.og (ak rfl rfl (aV _ _ _)) (gg rfl rfl (bO h1)) rfl<|Wo.og (ak rfl rfl (dh _ _ _)) (gg rfl rfl (bO h1)) rfl<|Wo.od (dG rfl h1 rfl) rfl<|Wo.nil ?_;cases hF;exact At.en () rfl (sc rfl (sc rfl (sc rfl (sc rfl (sc rfl (sc rfl sn)))))) (ae.U [0,1,2,3,4,5,6,7,8,9,10,11] rfl rfl)
                       ·refine Wo.s (gg rfl rfl (bM h1)) rfl<|Wo.s (gg rfl rfl (bM h1)) rfl<|Wo.s (gg rfl rfl (bM h1)) rfl<|Wo.s (gg rfl rfl (bM h1)) rfl<|Wo.s (gg rfl rfl (bM h1)) rfl<|Wo.od (dC rfl h1 rfl) rfl<|Wo.nil ?_;cases hF;exact At.en () rfl (sc rfl (sc rfl (sc rfl (sc rfl (sc rfl (sc rfl sn)))))) (ae.U [0,1,2,3,4,5,6,7,8,9,10,11] rfl rfl)
                      ·clear h75;rintro⟨⟩;refine At.tn ?_;rcases ah hF with⟨h29,hF⟩|⟨h29,hF⟩
                       ·refine Wk.aD rfl h29<|Wk.exit<|At.te<|At.be ?_;cases hF;exact At.en () rfl sn (ae.U [0,1,7,8,9,2,3,4,10,5,11] rfl rfl)
                       ·refine Wk.aC rfl h29<|Wk.skip<|At.tn<|Wk.seq<|Wk.region<|Wo.od (aj (k:=5) nk rfl rfl rfl) rfl<|Wo.od (aj (k:=6) nk rfl rfl rfl) rfl ?_;obtain⟨r23,h76,hF⟩:=J hF;refine Wo.x (bR rfl rfl (fun m hm=>E7 n v0 x3 x4 x10 x11 v3 x16 x17 x18 x19  _ h76 m) fun _=>rfl) gn rfl ?_;rintro⟨⟩;refine Wo.od (ak rfl rfl (cj _ _)) rfl<|Wo.nil<|At.tn ?_;rcases ah hF with⟨h30,hF⟩|⟨h30,hF⟩
                        ·refine Wk.aD rfl h30<|Wk.seq<|Wk.eH (prs:=[(1,2)]) (by kernel_rfl)<|Wn.od (ay (r:=ptr b8 0) rfl (iB _ _)) rfl<|Wn.FV rfl (aj (k:=5) bg rfl rfl rfl) rfl<|Wn.Gc rfl (bB (k:=2) bg rfl rfl rfl rfl rfl)<|Wn.o0 (bB (k:=3) bg rfl rfl rfl rfl rfl)<|Wn.nil (fun m hm=>(eG.rw rfl rfl rfl (hm.ne (i:=5) (j:=2) rfl rfl rfl rfl (by decide) rfl) eG.nil))<|At.tn<|Wk.ret<|At.br ?_
                         cases hF;exact At.en () rfl sn (ae.U [0,1,7,8,9,2,3,4,10,5,11] rfl rfl)
                        ·refine Wk.aC rfl h30<|Wk.skip<|At.bn ?_;cases hF;exact At.en () rfl sn (ae.U [0,1,7,8,9,2,3,4,10,5,11] rfl rfl)
                    ·clear h35;rcases r11 with _|_|_
                     ·rintro⟨⟩;refine Wo.od (gV rfl rfl) rfl<|Wo.nil<|At.tn<|Wk.aD rfl rfl<|Wk.ret<|At.br<|At.tr ?_;cases hF;exact At.en () rfl sn (ae.U [0,1,2,3,4,5,6,7,8,9] rfl rfl)
                     ·rintro⟨⟩;refine Wo.od (gV rfl rfl) rfl<|Wo.nil<|At.tn<|Wk.aC rfl rfl<|Wk.skip<|At.bn<|At.tn<|Wk.region<|Wo.od (ak rfl rfl (aB _ _ _)) rfl<|Wo.od (aa rfl) rfl<|Wo.nil ?_;cases hF;exact At.en () rfl (sc rfl (sc rfl (sc rfl (sc rfl (sc rfl sn))))) (ae.U [0,1,10,3,4,2,5,6,7,8,9] rfl rfl)
                     ·rintro⟨⟩;refine Wo.od (gV rfl rfl) rfl<|Wo.nil<|At.tn<|Wk.aD rfl rfl<|Wk.ret<|At.br<|At.tr ?_;cases hF;exact At.en () rfl sn (ae.U [0,1,2,3,4,5,6,7,8,9] rfl rfl)
                   ·refine Wk.aC rfl h25<|Wk.exit<|At.te ?_;cases hF;exact At.en () rfl sn (ae.U [0,1,5,3,4,6,7,8,9,10] rfl rfl)
                  ·clear h24;rcases r20 with _ | (_|_)
                   ·rintro⟨⟩;refine At.br ?_;cases hF;exact At.ret .nil fun m' hm=>⟨(),(ae.U [0,1,2,3,4,5,6,7,8,9] rfl rfl) m' hm⟩
                   ·rintro⟨⟩;refine At.br ?_;cases hF;exact At.ret .nil fun m' hm=>⟨(),(ae.U [0,1,2,3,4,5,6,7,8,9] rfl rfl) m' hm⟩
                   ·rintro⟨⟩;refine At.be ?_;cases hF;exact At.fin .nil fun m' hm=>⟨(),(ae.U [0,1,2,3,4,5,6,7,8,9] rfl rfl) m' hm⟩
                 ·clear h69;rcases r10 with _|_|_
                  ·rintro⟨⟩
                   change Wk _ _ _ _ (.exit 6) _ _ _ _
                   refine Wk.exit<|At.be<|At.bn ?_;cases hF;exact At.en () rfl sn (ae.U [0,1,2,3,4,5,6,7] rfl rfl)
                  ·rintro⟨⟩
                   change Wk _ _ _ _ .ret _ _ _ _
                   refine Wk.ret<|At.br<|At.br ?_;cases hF;exact At.en () rfl sn (ae.U [0,1,2,3,4,5,6,7] rfl rfl)
                  ·rintro⟨⟩
                   change At _ .normal _ _ _
                   refine At.bn<|At.bn ?_;cases hF;exact At.en () rfl sn (ae.U [0,1,2,3,4,5,6,7] rfl rfl)
               ·clear h34;rcases r9 with _|_
                ·rintro⟨⟩;refine Wo.od (gV rfl rfl) rfl<|Wo.nil<|At.tn<|Wk.aC rfl rfl<|Wk.skip<|At.bn<|At.tn<|Wk.region<|Wo.od (ak rfl rfl (aB _ _ _)) rfl<|Wo.od (aa rfl) rfl<|Wo.nil ?_;cases hF;exact At.en () rfl (sc rfl (sc rfl (sc rfl (sc rfl (sc rfl sn))))) (ae.U [0,7,3,1,4,5,6] rfl rfl)
                ·rintro⟨⟩;refine Wo.od (gV rfl rfl) rfl<|Wo.nil<|At.tn<|Wk.aD rfl rfl<|Wk.ret<|At.br<|At.tr ?_;cases hF;exact At.en () rfl sn (ae.U [0,1,3,4,5,6] rfl rfl)
              ·refine Wk.aC rfl h22<|Wk.exit<|At.te ?_;cases hF;exact At.en () rfl sn (ae.U [0,3,2,4,5,6] rfl rfl)
             ·clear h21;rcases r19 with v10|_
              ·rintro⟨⟩;refine At.br ?_;cases hF;exact At.ret .nil fun m' hm=>⟨(),(ae.U [0,1,2,3,4,5] rfl rfl) m' hm⟩
              ·rintro⟨⟩;refine At.be ?_;cases hF;exact At.fin .nil fun m' hm=>⟨(),(ae.U [0,1,2,3,4,5] rfl rfl) m' hm⟩
            ·clear h63;rcases r8 with v15|_
             ·rintro⟨⟩
              change Wk _ _ _ _ .ret _ _ _ _
              refine Wk.ret<|At.br<|At.tr ?_;cases hF;exact At.ret (.cell (k:=2) bg rfl rfl rfl (.cell (k:=3) bg rfl rfl rfl .nil)) fun m' hm=>⟨(),rfl,(ae.U [] rfl rfl) m' hm⟩
             ·rintro⟨⟩
              change At _ .normal _ _ _
              refine At.bn<|At.tn<|Wk.seq<|Wk.region<|Wo.o0 (bB (k:=2) bg rfl rfl rfl rfl rfl)<|Wo.o0 (bB (k:=3) bg rfl rfl rfl rfl rfl)<|Wo.nil<|At.tn<|Wk.ret ?_;cases hF;exact At.ret (.cell (k:=2) bg rfl rfl rfl (.cell (k:=3) bg rfl rfl rfl .nil)) fun m' hm=>⟨(),rfl,(ae.U [] rfl rfl) m' hm⟩
theorem rS (n:Nat) (l1:List (Int × Int)) (a2:Option Addr) (c3:Nat) (r:Int) (hF:DM n l1=some r) (m:AMem) (h4:Rd m a2 c3 2 l1.length (l1.map (eP (eI .i64) (eI .i64)))) :
  aR aK 43 [.slice a2 l1.length c3] m (fun v m'=>∃_:Unit,v = .int .i64 r∧Hp m m' []):=by
 unfold DM at hF;refine aH (m0:=m) (ps:=[.rd a2 c3 2 l1.length (l1.map (eP (eI .i64) (eI .i64)))]) (N:=12) (rs:=[.tmp 2]) rfl Tryz.func43 rfl rfl rfl ((Hp.start m).nC rfl h4)<|Wk.seq<|Wk.region<|Wo.od (ai rfl) rfl<|Wo.nil<|At.tn<|Wk.seq<|Wk.seq<|Wk.region<|Wo.od (aa rfl) rfl ?_;obtain⟨⟨r6,r7⟩,h5,hF⟩:=J hF;refine Wo.x (bR rfl rfl (fun m hm=>FL n l1 a2 c3 _ h5 m (hm.rd (k:=0) rfl (.rd _ _ _ _ _))) fun _=>rfl) gn rfl ?_;rintro⟨⟩;refine Wo.od (aa rfl) rfl<|Wo.od (gh rfl rfl) rfl<|Wo.od (gh rfl rfl) rfl<|Wo.od (ai rfl) rfl<|Wo.od (ai rfl) rfl<|Wo.nil<|At.tn<|Wk.seq<|Wk.region<|Wo.od (aa rfl) rfl<|Wo.od (ak rfl rfl (bJ _ _ _)) rfl<|Wo.nil<|At.tn ?_;rcases ah hF with⟨h8,hF⟩|⟨h8,hF⟩
 ·refine Wk.aD rfl h8<|Wk.seq<|Wk.region<|Wo.od (ai rfl) rfl<|Wo.nil<|At.tn<|Wk.ret<|At.tr ?_;cases hF;exact At.ret (.tmp rfl .nil) fun m' hm=>⟨(),rfl,(ae.U [] rfl rfl) m' hm⟩
 ·refine Wk.aC rfl h8<|Wk.skip<|At.tn<|Wk.seq<|Wk.region<|Wo.od (ai rfl) rfl<|Wo.nil<|At.tn<|Wk.ret ?_;cases hF;exact At.ret (.tmp rfl .nil) fun m' hm=>⟨(),rfl,(ae.U [] rfl rfl) m' hm⟩
theorem F0 (n:Nat) (l1:List (Int × Int)) (a0:Option Addr) (c0:Nat) (r:Int × Int) (hF:Ht n l1=some r) (m:AMem) (h11:Rd m a0 c0 2 l1.length (l1.map (eP (eI .i64) (eI .i64)))) :
  aR aK 22 [.slice a0 l1.length c0] m (fun v m'=>∃_:Unit,v = .tuple #[.int .i64 r.1,.int .i64 r.2]∧Hp m m' []):=by
 unfold Ht at hF;refine aH (m0:=m) (ps:=[.rd a0 c0 2 l1.length (l1.map (eP (eI .i64) (eI .i64)))]) (N:=54) (rs:=[.tmp 2,.tmp 3]) rfl Tryz.func22 rfl rfl rfl ((Hp.start m).nC rfl h11)<|Wk.seq<|Wk.region<|Wo.x (cd rfl) gn rfl fun b5=>?_;refine Wo.od (ai rfl) rfl<|Wo.od (ai rfl) rfl<|Wo.nil<|At.tn<|Wk.seq<|Wk.seq<|Wk.region<|Wo.od (aj (k:=0) cY rfl rfl rfl) rfl ?_;obtain⟨r2,h12,hF⟩:=J hF;refine Wo.x (bR rfl rfl (fun m hm=>rS n l1 a0 c0 _ h12 m (hm.rd (k:=1) rfl (.rd _ _ _ _ _))) fun _=>rfl) gn rfl ?_;rintro⟨⟩;refine Wo.od (ai rfl) rfl<|Wo.nil<|At.tn<|Wk.seq<|Wk.region<|Wo.od (aa rfl) rfl<|Wo.od (ak rfl rfl (cj _ _)) rfl<|Wo.nil<|At.tn ?_;rcases ah hF with⟨h2,hF⟩|⟨h2,hF⟩
 ·refine Wk.aD rfl h2<|Wk.seq<|Wk.region<|Wo.od (aa rfl) rfl<|Wo.od (ai rfl) rfl<|Wo.od (ai rfl) rfl<|Wo.nil<|At.tn<|Wk.ret<|At.tr ?_;cases hF;exact At.ret (.tmp rfl (.tmp rfl .nil)) fun m' hm=>⟨(),rfl,(ae.U [] rfl rfl) m' hm⟩
 ·refine Wk.aC rfl h2<|Wk.skip<|At.tn<|Wk.seq<|Wk.region<|Wo.x (cL z3 rfl) gn rfl fun b6=>?_;refine Wo.o0 (bB (k:=0) bg rfl rfl rfl rfl rfl)<|Wo.nil<|At.tn<|Wk.seq<|Wk.seq<|Wk.region<|Wo.od (aj (k:=1) cY rfl rfl rfl) rfl ?_;obtain⟨r1,h13,hF⟩:=J hF;refine Wo.x (pN (α:=Nat) (V:=fun g=>(fun(r:Unit) (g:Nat)=>match r,g with|_,b4=>(.func (.func 86) #[] #[ptr b4 0]:Value)) r1 g) (N:=fun g=>(fun(r:Unit) (g:Nat)=>match r,g with|_,b4=>([.obj b4 (.cells [.slice a0 l1.length c0] .own),.rd a0 c0 2 l1.length (l1.map (eP (eI .i64) (eI .i64))),.obj b5 (.cells [.slice a0 l1.length c0] .own),.obj b6 (.cells [.int .i64 0] .own)]:List Pc)) r1 g) rfl rfl (fun m hm=>?_)) gn rfl ?_
  ·clear hF;revert r1;intro r hF;refine aH (N:=4) (rs:=[.tmp 2]) rfl Tryz.func63 rfl rfl rfl hm<|Wk.seq<|Wk.region<|Wo.x (cd rfl) gn rfl fun b7=>?_;refine Wo.od (ai rfl) rfl<|Wo.nil<|At.tn<|Wk.seq<|Wk.region<|Wo.od (vz rfl rfl) rfl<|Wo.od (ai rfl) rfl<|Wo.nil<|At.tn<|Wk.ret ?_;cases hF;exact At.ret (.tmp rfl .nil) fun m' hm=>⟨b7,rfl,(ae.U [0,3,2,1] rfl rfl) m' hm⟩
  ·clear h13;rintro b4;refine Wo.nil<|At.tn<|Wk.block ?_;obtain⟨v1,h14,hF⟩:=J hF;refine Wk.range (N:=27) (rs:=[]) (γ:=Unit) (X:=fun g=>(fun(r:Int) (g:Unit)=>(match r,g with|v1,_=>⟨.ready,none,[.obj b5 (.cells [.slice a0 l1.length c0] .own),.rd a0 c0 2 l1.length (l1.map (eP (eI .i64) (eI .i64))),.obj b6 (.cells [.int .i64 v1] .own)]⟩:Rn)) v1 g) rfl rfl Tryz.func86 rfl rfl rfl ?_ (fun y=>by intro e; cases e) ?_
   ·clear hF;revert v1;intro r hF;intro t0 l2 r0 h15 h16;refine Wk.seq<|Wk.region<|Wo.od (aj (k:=1) cY rfl rfl rfl) rfl<|Wo.od (da (k:=2) fP rfl rfl (.inl rfl)) rfl<|Wo.od (aa rfl) rfl<|Wo.nil<|At.tn<|Wk.block ?_;obtain⟨v0,h3,hF⟩:=J hF;refine Wk.cut (G:=(fun(r:Int) (g:Unit)=>match r,g with|v0,_=>⟨(.exit 0),[],[.obj l2 (r0 .ready none),.obj b5 (.cells [.slice a0 l1.length c0] .own),.rd a0 c0 2 l1.length (l1.map (eP (eI .i64) (eI .i64))),.obj b6 (.cells [.int .i64 v0] .own)]⟩) v0) ?_ ?_
    ·refine Wk.ep (fs':=[(0,.func (.yield l2) #[] #[]),(1,ptr b4 0),(5,.slice a0 l1.length c0),(6,.int .i64 (l1.length:Int)),(7,.int .i64 0)]) (ps':=[.obj l2 (r0 .ready none),.obj b4 (.cells [.slice a0 l1.length c0] .own),.rd a0 c0 2 l1.length (l1.map (eP (eI .i64) (eI .i64))),.obj b5 (.cells [.slice a0 l1.length c0] .own),.obj b6 (.cells [.int .i64 0] .own)]) (sc rfl (sc rfl (sc rfl (sc rfl (sc rfl sn))))) (ae.U [0,1,2,3,4] rfl rfl) ?_;refine Wk.loop (σ:=Int × Int) (ρ:=Int) (γ:=Unit) (δ:=fun _=>Unit) _ (fun(s:Int × Int) (g:Unit)=>match s,g with | (v3,v4),_=>⟨.normal,[(0,.func (.yield l2) #[] #[]),(1,ptr b4 0),(5,.slice a0 l1.length c0),(6,.int .i64 (l1.length:Int)),(7,.int .i64 v3)],[.obj l2 (r0 .ready none),.obj b4 (.cells [.slice a0 l1.length c0] .own),.rd a0 c0 2 l1.length (l1.map (eP (eI .i64) (eI .i64))),.obj b5 (.cells [.slice a0 l1.length c0] .own),.obj b6 (.cells [.int .i64 v4] .own)]⟩) (fun(r:Int) (g:Unit)=>match r,g with|v0,_=>⟨(.exit 0),[],[.obj l2 (r0 .ready none),.obj b5 (.cells [.slice a0 l1.length c0] .own),.rd a0 c0 2 l1.length (l1.map (eP (eI .i64) (eI .i64))),.obj b6 (.cells [.int .i64 v0] .own)]⟩) ?_ (fun _ _=>rfl) (fun r d=>by intro e; cases e) _ _ _ h3 ()
     clear hF h3;rintro⟨v3,v4⟩ ⟨⟩ r hF;unfold qt at hF;refine Wk.seq<|Wk.region<|Wo.od (ak rfl rfl (aS _ _ _)) rfl<|Wo.nil<|At.tn<|Wk.seq ?_;rcases ah hF with⟨h4,hF⟩|⟨h4,hF⟩
     ·refine Wk.aD rfl h4<|Wk.skip<|At.tn<|Wk.seq<|Wk.block<|Wk.seq<|Wk.region<|Wo.od (aa rfl) rfl ?_;obtain⟨h0,hF⟩:=al hF;replace h0:=av h0;refine Wo.dL (k:=2) rfl (bP h0) ?_;rintro b0 o1 rfl;refine Wo.og (bC ct rfl rfl h0) gn rfl ?_;obtain⟨⟨x3,x4⟩,h17,hF⟩:=J hF;refine Wo.od (bI (k:=0) az rfl rfl (aO h17) rfl rfl) rfl<|Wo.x (cL z33 rfl) gn rfl fun b9=>?_;refine Wo.od (ai rfl) rfl<|Wo.o0 (bB (k:=0) az rfl rfl rfl rfl rfl)<|Wo.nil<|At.tn<|Wk.seq<|Wk.draw (by kernel_rfl)<|Wo.od (aa rfl) rfl<|Wo.od (aa rfl) rfl<|Wo.od (aj (k:=0) az rfl rfl rfl) rfl<|Wo.od (aj (k:=3) cY rfl rfl rfl) rfl<|Wo.od (aa rfl) rfl<|Wo.od (ak rfl rfl (aB _ _ _)) rfl<|Wo.od (aj (k:=3) cY rfl rfl rfl) rfl ?_
      refine Wo.od (da (k:=1) fP rfl rfl (.inl rfl)) rfl ?_;obtain⟨h18,hF⟩:=al hF;refine Wo.od (ak rfl rfl (cC _ _ h18)) rfl ?_;obtain⟨h5,hF⟩:=al hF;replace h5:=av h5;refine Wo.og (bC ct rfl rfl h5) gn rfl ?_;obtain⟨⟨x10,x11⟩,h19,hF⟩:=J hF;refine Wo.od (bI (k:=1) az rfl rfl (aO h19) rfl rfl) rfl<|Wo.od (dK rfl xu rfl (dI u7 rfl rfl rfl)) rfl ?_;obtain⟨v2,h10,hF⟩:=J hF;refine Wo.x (wM (k:=2) (k1:=0) (γA:=Nat) (GA:=(fun g:Nat=>(match g with|b3=>⟨.normal,[(1,ptr b5 0),(5,ptr b6 0),(6,ptr b3 0)],[.obj l2 (r0 .ready none),.obj b5 (.cells [.slice (some ⟨b0,o1,none⟩) l1.length c0] .own),.ro b0 o1 2 l1.length (l1.map (eP (eI .i64) (eI .i64))),.rd (some ⟨b0,o1,none⟩) c0 2 l1.length (l1.map (eP (eI .i64) (eI .i64))),.obj b6 (.cells [.int .i64 v4] .own),.obj b3 (.cells [.int .i64 v3,.int .i64 x3,.int .i64 x4,.int .i64 x10,.int .i64 x11] .own),.obj b4 (.cells [.slice (some ⟨b0,o1,none⟩) l1.length c0] .own)]⟩:En))) (γ:=Unit) (G:=fun g=>(fun(r:Int) (g:Unit)=>(match r,g with|v2,_=>⟨.normal,[],[.obj l2 (r0 .busy none),.obj b5 (.cells [.slice (some ⟨b0,o1,none⟩) l1.length c0] .own),.ro b0 o1 2 l1.length (l1.map (eP (eI .i64) (eI .i64))),.rd (some ⟨b0,o1,none⟩) c0 2 l1.length (l1.map (eP (eI .i64) (eI .i64))),.obj b6 (.cells [.int .i64 v2] .own),.obj b4 (.cells [.slice (some ⟨b0,o1,none⟩) l1.length c0] .own)]⟩:En)) v2 g) rfl rfl rfl h16 h15 rfl ?_ (fun _=>rfl) (fun _=>rfl) ?_ (fun y=>rfl)) gn rfl ?_
      ·clear hF h10;refine Wk.region<|Wo.x (cL xu rfl) gn rfl fun b8=>?_;refine Wo.o0 (bB (k:=0) nk rfl rfl rfl rfl rfl)<|Wo.nil ?_;exact At.en b8 rfl (sc rfl (sc rfl (sc rfl sn))) (ae.U [3,6,2,5,7,0,4] rfl rfl)
      ·clear hF;revert v2;intro r hF;rintro b3;refine Wk.block<|Wk.seq<|Wk.draw (by kernel_rfl)<|Wo.od (aj (k:=4) bg rfl rfl rfl) rfl<|Wo.od (ay (r:=ptr b3 1) rfl (cA _ _)) rfl<|Wo.od (ay (r:=ptr b3 1) rfl (aQ _ _)) rfl<|Wo.od (aj (k:=5) bg rfl rfl rfl) rfl<|Wo.od (aj (k:=1) cY rfl rfl rfl) rfl ?_
       obtain⟨h6,hF⟩:=al hF;replace h6:=av h6;refine Wo.og (bC ct rfl rfl h6) gn rfl<|Wo.od (ay (r:=ptr b0 (o1+(0:Int).toNat*2+0)) rfl (aQ _ _)) rfl ?_;obtain⟨⟨x12,x13⟩,h1,hF⟩:=J hF;refine Wo.od (bI (k:=2) bg rfl rfl (aO h1) rfl rfl) rfl<|Wo.od (ak rfl rfl (aV _ _ _)) rfl<|Wo.od (ay (r:=ptr b3 3) rfl (de _ _)) rfl<|Wo.od (ay (r:=ptr b3 4) rfl (aF _ _)) rfl<|Wo.od (aj (k:=5) bg rfl rfl rfl) rfl<|Wo.od (aj (k:=1) cY rfl rfl rfl) rfl ?_;obtain⟨h7,hF⟩:=al hF;replace h7:=av h7;refine Wo.og (bC ct rfl rfl h7) gn rfl<|Wo.od (ay (r:=ptr b0 (o1+(0:Int).toNat*2+1)) rfl (aF _ _)) rfl<|Wo.od (bI (k:=2) bg rfl rfl (aO h1) rfl rfl) rfl<|Wo.od (ak rfl rfl (aV _ _ _)) rfl ?_;obtain⟨y0,h20,hF⟩:=J hF;refine Wo.od (ak rfl rfl ((bQ _ _ _).trans (cI h20))) rfl<|Wo.od (ak rfl rfl (aB _ _ _)) rfl<|Wo.o0 (bB (k:=4) bg rfl rfl rfl rfl rfl)<|Wo.nil<|At.tn<|Wk.draw (by kernel_rfl)<|Wo.od (aj (k:=4) bg rfl rfl rfl) rfl<|Wo.od (ay (r:=ptr b3 1) rfl (cA _ _)) rfl<|Wo.od (ay (r:=ptr b3 2) rfl (aF _ _)) rfl<|Wo.od (aj (k:=5) bg rfl rfl rfl) rfl<|Wo.od (aj (k:=1) cY rfl rfl rfl) rfl ?_
       obtain⟨h8,hF⟩:=al hF;replace h8:=av h8;refine Wo.og (bC ct rfl rfl h8) gn rfl<|Wo.od (ay (r:=ptr b0 (o1+(0:Int).toNat*2+1)) rfl (aF _ _)) rfl<|Wo.od (bI (k:=2) bg rfl rfl (aO h1) rfl rfl) rfl<|Wo.od (ak rfl rfl (aV _ _ _)) rfl<|Wo.od (ay (r:=ptr b3 3) rfl (de _ _)) rfl<|Wo.od (ay (r:=ptr b3 3) rfl (aQ _ _)) rfl<|Wo.od (aj (k:=5) bg rfl rfl rfl) rfl<|Wo.od (aj (k:=1) cY rfl rfl rfl) rfl ?_;obtain⟨h9,hF⟩:=al hF;replace h9:=av h9;refine Wo.og (bC ct rfl rfl h9) gn rfl<|Wo.od (ay (r:=ptr b0 (o1+(0:Int).toNat*2+0)) rfl (aQ _ _)) rfl<|Wo.od (bI (k:=2) bg rfl rfl (aO h1) rfl rfl) rfl<|Wo.od (ak rfl rfl (aV _ _ _)) rfl ?_;obtain⟨y1,h21,hF⟩:=J hF;refine Wo.od (ak rfl rfl ((bQ _ _ _).trans (cI h21))) rfl<|Wo.od (ak rfl rfl (aV _ _ _)) rfl<|Wo.o0 (bB (k:=4) bg rfl rfl rfl rfl rfl)<|Wo.nil<|At.bn ?_;cases hF;exact At.en () rfl sn (ae.U [0,1,2,3,4,6] rfl rfl)
      ·clear h10;rintro⟨⟩;refine Wo.od (gV rfl rfl) rfl<|Wo.nil<|At.tn<|Wk.aC rfl rfl<|Wk.skip<|At.bn<|At.tn<|Wk.region<|Wo.od (ak rfl rfl (aB _ _ _)) rfl<|Wo.od (aa rfl) rfl<|Wo.nil ?_;cases hF;exact At.en () rfl (sc rfl (sc rfl (sc rfl (sc rfl (sc rfl sn))))) (ae.U [0,5,3,1,4] rfl rfl)
     ·refine Wk.aC rfl h4<|Wk.exit<|At.te ?_;cases hF;exact At.en () rfl sn (ae.U [0,3,2,4] rfl rfl)
    ·clear h3;rintro⟨⟩;refine At.be ?_;have hr:=Option.some.inj hF;subst r;exact At.fin .nil fun m' hm=>⟨(),(ae.U [0,1,2,3] rfl rfl) m' hm⟩
   ·clear h14;rintro⟨⟩
    change At _ .normal _ _ _
    refine At.bn<|At.tn<|Wk.seq<|Wk.region<|Wo.od (aj (k:=2) bg rfl rfl rfl) rfl<|Wo.od (ai rfl) rfl<|Wo.od (ai rfl) rfl<|Wo.nil<|At.tn<|Wk.ret ?_;cases hF;exact At.ret (.tmp rfl (.tmp rfl .nil)) fun m' hm=>⟨(),rfl,(ae.U [] rfl rfl) m' hm⟩
theorem FO (n:Nat) (l1:List (Int × Int)) (a2:Option Addr) (c3:Nat) (r:Int) (hF:HO n l1=some r) (m:AMem) (h4:Rd m a2 c3 2 l1.length (l1.map (eP (eI .i64) (eI .i64)))) :
  aR aK 69 [.slice a2 l1.length c3] m (fun v m'=>∃_:Unit,v = .int .i64 r∧Hp m m' []):=by
 unfold HO at hF;refine aH (m0:=m) (ps:=[.rd a2 c3 2 l1.length (l1.map (eP (eI .i64) (eI .i64)))]) (N:=35) (rs:=[.tmp 2]) rfl Tryz.func69 rfl rfl rfl ((Hp.start m).nC rfl h4)<|Wk.seq<|Wk.region<|Wo.od (ai rfl) rfl<|Wo.nil<|At.tn<|Wk.seq<|Wk.region<|Wo.od (ai rfl) rfl<|Wo.nil<|At.tn<|Wk.seq<|Wk.seq<|Wk.region<|Wo.od (ai rfl) rfl<|Wo.nil<|At.tn<|Wk.block ?_;obtain⟨v25,h40,hF⟩:=J hF;refine Wk.cut (G:=(fun(r:Int) (g:Unit)=>match r,g with|v25,_=>⟨(.exit 0),[(3,.int .i64 v25)],[]⟩) v25) ?_ ?_
 ·refine Wk.ep (fs':=[(0,.slice a2 l1.length c3),(3,.int .i64 0),(4,.int .i64 0)]) (ps':=[.rd a2 c3 2 l1.length (l1.map (eP (eI .i64) (eI .i64)))]) (sc rfl (sc rfl (sc rfl sn))) (ae.U [0] rfl rfl) ?_;refine Wk.loop (σ:=Int × Int) (ρ:=Int) (γ:=Unit) (δ:=fun _=>Unit) _ (fun(s:Int × Int) (g:Unit)=>match s,g with | (v7,v8),_=>⟨.normal,[(0,.slice a2 l1.length c3),(3,.int .i64 v7),(4,.int .i64 v8)],[.rd a2 c3 2 l1.length (l1.map (eP (eI .i64) (eI .i64)))]⟩) (fun(r:Int) (g:Unit)=>match r,g with|v25,_=>⟨(.exit 0),[(3,.int .i64 v25)],[]⟩) ?_ (fun _ _=>rfl) (fun r d=>by intro e; cases e) _ _ _ h40 ()
  clear hF h40;rintro⟨v7,v8⟩ ⟨⟩ r hF;unfold qg at hF;refine Wk.seq<|Wk.seq<|Wk.region<|Wo.od (aa rfl) rfl<|Wo.od (aa rfl) rfl<|Wo.od (da (k:=0) fP rfl rfl (.inl rfl)) rfl<|Wo.od (ak rfl rfl (aS _ _ _)) rfl<|Wo.nil<|At.tn ?_;rcases ah hF with⟨h26,hF⟩|⟨h26,hF⟩
  ·refine Wk.aD rfl h26<|Wk.skip<|At.tn<|Wk.seq<|Wk.block<|Wk.seq<|Wk.eH (prs:=[(3,7)]) (by kernel_rfl)<|Wn.od (aa rfl) rfl<|Wn.od (aa rfl) rfl ?_
   obtain⟨h27,hF⟩:=al hF;replace h27:=av h27;refine Wn.dL (k:=0) rfl (bP h27) ?_;rintro b28 o29 rfl;refine Wn.og (bC ct rfl rfl h27) gn rfl ?_;obtain⟨⟨x30,x31⟩,h32,hF⟩:=J hF;refine Wn.od (bI (k:=0) az rfl rfl (aO h32) rfl rfl) rfl<|Wn.od (aa rfl) rfl<|Wn.od (aa rfl) rfl<|Wn.od (ak rfl rfl (aB _ _ _)) rfl ?_;obtain⟨⟨r34,r35⟩,h33,hF⟩:=J hF;refine Wn.c (eT rfl rfl (fun m hm=>jb n l1 (IntKind.wrap .i64 (v8+1)) (some ⟨b28,o29,none⟩) c3 _ h33 m (hm.rd (k:=1) rfl (.rd _ _ _ _ _))) fun _=>rfl) gn rfl ?_;rintro⟨⟩;refine Wn.x (cL z33 rfl) gn rfl fun b36=>?_;refine Wn.x (cL z33 rfl) gn rfl fun b37=>?_;refine Wn.o0 (bB (k:=1) az rfl rfl rfl rfl rfl)<|Wn.o0 (bB (k:=0) az rfl rfl rfl rfl rfl)<|Wn.nil (fun m hm=>eG.all rfl)<|At.tn<|Wk.region<|Wo.od (aa rfl) rfl<|Wo.od (ay (r:=ptr b36 0) rfl (aQ _ _)) rfl<|Wo.od (aj (k:=1) bg rfl rfl rfl) rfl<|Wo.od (ay (r:=ptr b37 1) rfl (aF _ _)) rfl<|Wo.od (aj (k:=0) bg rfl rfl rfl) rfl<|Wo.od (ak rfl rfl (bQ _ _ _)) rfl<|Wo.od (ak rfl rfl (aB _ _ _)) rfl ?_;refine Wo.od (ay (r:=ptr b36 1) rfl (aF _ _)) rfl<|Wo.od (aj (k:=1) bg rfl rfl rfl) rfl<|Wo.od (ay (r:=ptr b37 0) rfl (aQ _ _)) rfl<|Wo.od (aj (k:=0) bg rfl rfl rfl) rfl<|Wo.od (ak rfl rfl (bQ _ _ _)) rfl ?_;obtain⟨y38,h39,hF⟩:=J hF;refine Wo.od (ak rfl rfl ((aV _ _ _).trans (cI h39))) rfl<|Wo.od (ai rfl) rfl<|Wo.nil<|At.bn<|At.tn<|Wk.region<|Wo.od (aa rfl) rfl<|Wo.od (ak rfl rfl (aB _ _ _)) rfl<|Wo.od (ai rfl) rfl<|Wo.nil ?_;cases hF;exact At.en () rfl (sc rfl (sc rfl (sc rfl sn))) (ae.U [3] rfl rfl)
  ·refine Wk.aC rfl h26<|Wk.exit<|At.te ?_;cases hF;exact At.en () rfl (sc rfl sn) (ae.U [] rfl rfl)
 ·clear h40;rintro⟨⟩;refine At.be<|At.tn<|Wk.seq<|Wk.region<|Wo.od (aa rfl) rfl<|Wo.od (ai rfl) rfl<|Wo.nil<|At.tn<|Wk.ret ?_;have hr:=Option.some.inj hF;subst r;exact At.ret (.tmp rfl .nil) fun m' hm=>⟨(),rfl,(ae.U [] rfl rfl) m' hm⟩
theorem FE (n:Nat) (l1:List (Int × Int)) (a2:Option Addr) (c3:Nat) (r:Int × Int) (hF:Gg n l1=some r) (m:AMem) (h4:Rd m a2 c3 2 l1.length (l1.map (eP (eI .i64) (eI .i64)))) :
  aR aK 33 [.slice a2 l1.length c3] m (fun v m'=>∃_:Unit,v = .tuple #[.int .i64 r.1,.int .i64 r.2]∧Hp m m' []):=by
 unfold Gg at hF;refine aH (m0:=m) (ps:=[.rd a2 c3 2 l1.length (l1.map (eP (eI .i64) (eI .i64)))]) (N:=12) (rs:=[.tmp 2,.tmp 3]) rfl Tryz.func33 rfl rfl rfl ((Hp.start m).nC rfl h4)<|Wk.seq<|Wk.region<|Wo.od (ai rfl) rfl<|Wo.od (ai rfl) rfl<|Wo.nil<|At.tn<|Wk.seq<|Wk.seq<|Wk.region<|Wo.od (aa rfl) rfl ?_;obtain⟨r6,h5,hF⟩:=J hF;refine Wo.x (bR rfl rfl (fun m hm=>rN n l1 a2 c3 _ h5 m (hm.rd (k:=0) rfl (.rd _ _ _ _ _))) fun _=>rfl) gn rfl ?_;rintro⟨⟩;refine Wo.od (ai rfl) rfl<|Wo.nil<|At.tn<|Wk.seq<|Wk.region<|Wo.od (aa rfl) rfl<|Wo.od (ak rfl rfl (cj _ _)) rfl<|Wo.nil<|At.tn ?_;rcases ah hF with⟨h7,hF⟩|⟨h7,hF⟩
 ·refine Wk.aD rfl h7<|Wk.seq<|Wk.region<|Wo.od (aa rfl) rfl<|Wo.od (ai rfl) rfl<|Wo.od (ai rfl) rfl<|Wo.nil<|At.tn<|Wk.ret<|At.tr ?_;cases hF;exact At.ret (.tmp rfl (.tmp rfl .nil)) fun m' hm=>⟨(),rfl,(ae.U [] rfl rfl) m' hm⟩
 ·refine Wk.aC rfl h7<|Wk.skip<|At.tn<|Wk.seq<|Wk.region<|Wo.od (aa rfl) rfl ?_;obtain⟨r9,h8,hF⟩:=J hF;refine Wo.x (bR rfl rfl (fun m hm=>FO n l1 a2 c3 _ h8 m (hm.rd (k:=0) rfl (.rd _ _ _ _ _))) fun _=>rfl) gn rfl ?_;rintro⟨⟩;refine Wo.od (ai rfl) rfl<|Wo.od (ai rfl) rfl<|Wo.nil<|At.tn<|Wk.ret ?_;cases hF;exact At.ret (.tmp rfl (.tmp rfl .nil)) fun m' hm=>⟨(),rfl,(ae.U [] rfl rfl) m' hm⟩
theorem Ey (n:Nat) (l1:List (Int × Int)) (a0:Option Addr) (c0:Nat) (r:Bool × Int) (hF:GK n l1=some r) (m:AMem) (h8:Rd m a0 c0 2 l1.length (l1.map (eP (eI .i64) (eI .i64)))) :
  aR aK 34 [.slice a0 l1.length c0] m (fun v m'=>∃_:Unit,v = .tuple #[.bool r.1,.int .i64 r.2]∧Hp m m' []):=by
 unfold GK at hF;refine aH (m0:=m) (ps:=[.rd a0 c0 2 l1.length (l1.map (eP (eI .i64) (eI .i64)))]) (N:=37) (rs:=[.tmp 2,.tmp 3]) rfl Tryz.func34 rfl rfl rfl ((Hp.start m).nC rfl h8)<|Wk.seq<|Wk.region<|Wo.x (cd rfl) gn rfl fun b4=>?_;refine Wo.od (ai rfl) rfl<|Wo.od (ai rfl) rfl<|Wo.nil<|At.tn<|Wk.seq<|Wk.seq<|Wk.region<|Wo.od (aj (k:=0) cY rfl rfl rfl) rfl ?_;obtain⟨r2,h9,hF⟩:=J hF;refine Wo.x (bR rfl rfl (fun m hm=>rS n l1 a0 c0 _ h9 m (hm.rd (k:=1) rfl (.rd _ _ _ _ _))) fun _=>rfl) gn rfl ?_;rintro⟨⟩;refine Wo.od (ai rfl) rfl<|Wo.nil<|At.tn<|Wk.seq<|Wk.region<|Wo.od (aa rfl) rfl<|Wo.od (ak rfl rfl (cj _ _)) rfl<|Wo.nil<|At.tn ?_;rcases ah hF with⟨h1,hF⟩|⟨h1,hF⟩
 ·refine Wk.aD rfl h1<|Wk.seq<|Wk.region<|Wo.od (aa rfl) rfl<|Wo.od (ai rfl) rfl<|Wo.od (ai rfl) rfl<|Wo.nil<|At.tn<|Wk.ret<|At.tr ?_;cases hF;exact At.ret (.tmp rfl (.tmp rfl .nil)) fun m' hm=>⟨(),rfl,(ae.U [] rfl rfl) m' hm⟩
 ·refine Wk.aC rfl h1<|Wk.skip<|At.tn<|Wk.seq<|Wk.region<|Wo.od (dK rfl Gh rfl (dI Gw rfl rfl rfl)) rfl<|Wo.x (cL Gh rfl) gn rfl fun b0=>?_;refine Wo.o0 (bB (k:=0) GP rfl rfl rfl rfl rfl)<|Wo.nil<|At.tn<|Wk.seq<|Wk.seq<|Wk.region<|Wo.od (aj (k:=1) cY rfl rfl rfl) rfl ?_;obtain⟨r1,h10,hF⟩:=J hF;refine Wo.x (pN (α:=Nat) (V:=fun g=>(fun(r:Unit) (g:Nat)=>match r,g with|_,b3=>(.func (.func 86) #[] #[ptr b3 0]:Value)) r1 g) (N:=fun g=>(fun(r:Unit) (g:Nat)=>match r,g with|_,b3=>([.obj b3 (.cells [.slice a0 l1.length c0] .own),.rd a0 c0 2 l1.length (l1.map (eP (eI .i64) (eI .i64))),.obj b4 (.cells [.slice a0 l1.length c0] .own),.obj b0 (.cells [.bool false,.bool false,.bool false] .own)]:List Pc)) r1 g) rfl rfl (fun m hm=>?_)) gn rfl ?_
  ·clear hF;revert r1;intro r hF;refine aH (N:=4) (rs:=[.tmp 2]) rfl Tryz.func63 rfl rfl rfl hm<|Wk.seq<|Wk.region<|Wo.x (cd rfl) gn rfl fun b7=>?_;refine Wo.od (ai rfl) rfl<|Wo.nil<|At.tn<|Wk.seq<|Wk.region<|Wo.od (vz rfl rfl) rfl<|Wo.od (ai rfl) rfl<|Wo.nil<|At.tn<|Wk.ret ?_;cases hF;exact At.ret (.tmp rfl .nil) fun m' hm=>⟨b7,rfl,(ae.U [0,3,2,1] rfl rfl) m' hm⟩
  ·clear h10;rintro b3;refine Wo.nil<|At.tn<|Wk.block ?_;obtain⟨l4,h11,hF⟩:=J hF;refine Wk.range (N:=27) (rs:=[]) (γ:=Unit) (X:=fun g=>(fun(r:List (Bool)) (g:Unit)=>(match r,g with|l4,_=>⟨.ready,none,[.obj b4 (.cells [.slice a0 l1.length c0] .own),.rd a0 c0 2 l1.length (l1.map (eP (eI .i64) (eI .i64))),.arr b0 1 3 (l4.map (eB)) .own]⟩:Rn)) l4 g) rfl rfl Tryz.func86 rfl rfl rfl ?_ (fun y=>by intro e; cases e) ?_
   ·clear hF;revert l4;intro r hF;intro t0 l2 r0 h12 h13;refine Wk.seq<|Wk.region<|Wo.od (aj (k:=1) cY rfl rfl rfl) rfl<|Wo.od (da (k:=2) fP rfl rfl (.inl rfl)) rfl<|Wo.od (aa rfl) rfl<|Wo.nil<|At.tn<|Wk.block ?_;obtain⟨l3,h2,hF⟩:=J hF;refine Wk.cut (G:=(fun(r:List (Bool)) (g:Unit)=>match r,g with|l3,_=>⟨(.exit 0),[],[.obj l2 (r0 .ready none),.obj b4 (.cells [.slice a0 l1.length c0] .own),.rd a0 c0 2 l1.length (l1.map (eP (eI .i64) (eI .i64))),.arr b0 1 3 (l3.map (eB)) .own]⟩) l3) ?_ ?_
    ·refine Wk.ep (fs':=[(0,.func (.yield l2) #[] #[]),(1,ptr b3 0),(5,.slice a0 l1.length c0),(6,.int .i64 (l1.length:Int)),(7,.int .i64 0)]) (ps':=[.obj l2 (r0 .ready none),.obj b3 (.cells [.slice a0 l1.length c0] .own),.rd a0 c0 2 l1.length (l1.map (eP (eI .i64) (eI .i64))),.obj b4 (.cells [.slice a0 l1.length c0] .own),.arr b0 1 3 (([false,false,false]:List (Bool)).map (eB)) .own]) (sc rfl (sc rfl (sc rfl (sc rfl (sc rfl sn))))) (ae.trans (ae.DZ (k:=4) (xs:=([false,false,false]:List (Bool))) (f:=eB) (l:=3) (w:=1) rfl rfl rfl (IN) rfl) (ae.U [0,1,2,3,4] rfl rfl)) ?_;refine Wk.loop (σ:=Int × List (Bool)) (ρ:=List (Bool)) (γ:=Unit) (δ:=fun _=>Unit) _ (fun(s:Int × List (Bool)) (g:Unit)=>match s,g with | (v0,l6),_=>⟨.normal,[(0,.func (.yield l2) #[] #[]),(1,ptr b3 0),(5,.slice a0 l1.length c0),(6,.int .i64 (l1.length:Int)),(7,.int .i64 v0)],[.obj l2 (r0 .ready none),.obj b3 (.cells [.slice a0 l1.length c0] .own),.rd a0 c0 2 l1.length (l1.map (eP (eI .i64) (eI .i64))),.obj b4 (.cells [.slice a0 l1.length c0] .own),.arr b0 1 3 (l6.map (eB)) .own]⟩) (fun(r:List (Bool)) (g:Unit)=>match r,g with|l3,_=>⟨(.exit 0),[],[.obj l2 (r0 .ready none),.obj b4 (.cells [.slice a0 l1.length c0] .own),.rd a0 c0 2 l1.length (l1.map (eP (eI .i64) (eI .i64))),.arr b0 1 3 (l3.map (eB)) .own]⟩) ?_ (fun _ _=>rfl) (fun r d=>by intro e; cases e) _ _ _ h2 ()
     clear hF h2;rintro⟨v0,l6⟩ ⟨⟩ r hF;unfold qC at hF;refine Wk.seq<|Wk.region<|Wo.od (ak rfl rfl (aS _ _ _)) rfl<|Wo.nil<|At.tn<|Wk.seq ?_;rcases ah hF with⟨h3,hF⟩|⟨h3,hF⟩
     ·refine Wk.aD rfl h3<|Wk.skip<|At.tn<|Wk.seq<|Wk.block<|Wk.seq<|Wk.region<|Wo.od (aa rfl) rfl ?_;obtain⟨h0,hF⟩:=al hF;replace h0:=av h0;refine Wo.dL (k:=2) rfl (bP h0) ?_;rintro b5 o1 rfl;refine Wo.og (bC ct rfl rfl h0) gn rfl ?_;obtain⟨⟨x3,x4⟩,h14,hF⟩:=J hF;refine Wo.od (bI (k:=0) az rfl rfl (aO h14) rfl rfl) rfl<|Wo.x (cL z33 rfl) gn rfl fun b9=>?_;refine Wo.od (ai rfl) rfl<|Wo.o0 (bB (k:=0) az rfl rfl rfl rfl rfl)<|Wo.nil<|At.tn<|Wk.seq<|Wk.draw (by kernel_rfl)<|Wo.od (aa rfl) rfl<|Wo.od (aa rfl) rfl<|Wo.od (aj (k:=0) az rfl rfl rfl) rfl<|Wo.od (aj (k:=3) cY rfl rfl rfl) rfl<|Wo.od (aa rfl) rfl<|Wo.od (ak rfl rfl (aB _ _ _)) rfl<|Wo.od (aj (k:=3) cY rfl rfl rfl) rfl ?_
      refine Wo.od (da (k:=1) fP rfl rfl (.inl rfl)) rfl ?_;obtain⟨h15,hF⟩:=al hF;refine Wo.od (ak rfl rfl (cC _ _ h15)) rfl ?_;obtain⟨h4,hF⟩:=al hF;replace h4:=av h4;refine Wo.og (bC ct rfl rfl h4) gn rfl ?_;obtain⟨⟨x10,x11⟩,h16,hF⟩:=J hF;refine Wo.od (bI (k:=1) az rfl rfl (aO h16) rfl rfl) rfl<|Wo.od (dK rfl xu rfl (dI u7 rfl rfl rfl)) rfl ?_;obtain⟨l5,h7,hF⟩:=J hF;refine Wo.x (wM (k:=2) (k1:=0) (γA:=Nat) (GA:=(fun g:Nat=>(match g with|b6=>⟨.normal,[(1,ptr b4 0),(5,ptr b0 0),(6,ptr b6 0)],[.obj l2 (r0 .ready none),.obj b4 (.cells [.slice (some ⟨b5,o1,none⟩) l1.length c0] .own),.ro b5 o1 2 l1.length (l1.map (eP (eI .i64) (eI .i64))),.rd (some ⟨b5,o1,none⟩) c0 2 l1.length (l1.map (eP (eI .i64) (eI .i64))),.arr b0 1 3 (l6.map (eB)) .own,.obj b6 (.cells [.int .i64 v0,.int .i64 x3,.int .i64 x4,.int .i64 x10,.int .i64 x11] .own),.obj b3 (.cells [.slice (some ⟨b5,o1,none⟩) l1.length c0] .own)]⟩:En))) (γ:=Unit) (G:=fun g=>(fun(r:List (Bool)) (g:Unit)=>(match r,g with|l5,_=>⟨.normal,[],[.obj l2 (r0 .busy none),.obj b4 (.cells [.slice (some ⟨b5,o1,none⟩) l1.length c0] .own),.ro b5 o1 2 l1.length (l1.map (eP (eI .i64) (eI .i64))),.rd (some ⟨b5,o1,none⟩) c0 2 l1.length (l1.map (eP (eI .i64) (eI .i64))),.arr b0 1 3 (l5.map (eB)) .own,.obj b3 (.cells [.slice (some ⟨b5,o1,none⟩) l1.length c0] .own)]⟩:En)) l5 g) rfl rfl rfl h13 h12 rfl ?_ (fun _=>rfl) (fun _=>rfl) ?_ (fun y=>rfl)) gn rfl ?_
      ·clear hF h7;refine Wk.region<|Wo.x (cL xu rfl) gn rfl fun b8=>?_;refine Wo.o0 (bB (k:=0) nk rfl rfl rfl rfl rfl)<|Wo.nil ?_;exact At.en b8 rfl (sc rfl (sc rfl (sc rfl sn))) (ae.U [3,6,2,5,7,0,4] rfl rfl)
      ·clear hF;revert l5;intro r hF;rintro b6;refine Wk.block<|Wk.draw (by kernel_rfl)<|Wo.od (ay (r:=ptr b6 1) rfl (cA _ _)) rfl<|Wo.od (aj (k:=5) az rfl rfl rfl) rfl<|Wo.od (ay (r:=ptr b6 3) rfl (de _ _)) rfl<|Wo.od (aj (k:=5) az rfl rfl rfl) rfl<|Wo.od (aj (k:=1) cY rfl rfl rfl) rfl<|Wo.od (ay (r:=ptr b6 0) rfl (iB _ _)) rfl<|Wo.od (aj (k:=5) bg rfl rfl rfl) rfl<|Wo.od (ak rfl rfl (aB _ _ _)) rfl<|Wo.od (aj (k:=1) cY rfl rfl rfl) rfl ?_
       refine Wo.od (da (k:=2) fP rfl rfl (.inl rfl)) rfl ?_;obtain⟨h17,hF⟩:=al hF;refine Wo.od (ak rfl rfl (cC _ _ h17)) rfl ?_;obtain⟨h5,hF⟩:=al hF;replace h5:=av h5;refine Wo.og (bC ct rfl rfl h5) gn rfl ?_;obtain⟨⟨x15,x16⟩,h18,hF⟩:=J hF;refine Wo.od (bI (k:=2) az rfl rfl (aO h18) rfl rfl) rfl ?_;obtain⟨r3,h19,hF⟩:=J hF;refine Wo.x (bR rfl rfl (fun m hm=>jj n x3 x4 x10 x11 x15 x16  _ h19 m) fun _=>rfl) gn rfl ?_;rintro⟨⟩;refine Wo.od (ak rfl rfl (aB _ _ _)) rfl ?_;obtain⟨h6,hF⟩:=al hF;replace h6:=av h6;refine Wo.og (Bv AE rfl rfl h6) gn rfl ?_;obtain⟨x17,h20,hF⟩:=J hF;refine Wo.o0 (j6 (k:=4) (x1:=x17) (x2:=true) HD rfl rfl rfl h20 rfl)<|Wo.nil<|At.bn ?_;cases hF;exact At.en () rfl sn (ae.U [0,1,2,3,4,6] rfl rfl)
      ·clear h7;rintro⟨⟩;refine Wo.od (gV rfl rfl) rfl<|Wo.nil<|At.tn<|Wk.aC rfl rfl<|Wk.skip<|At.bn<|At.tn<|Wk.region<|Wo.od (ak rfl rfl (aB _ _ _)) rfl<|Wo.od (aa rfl) rfl<|Wo.nil ?_;cases hF;exact At.en () rfl (sc rfl (sc rfl (sc rfl (sc rfl (sc rfl sn))))) (ae.U [0,5,3,1,4] rfl rfl)
     ·refine Wk.aC rfl h3<|Wk.exit<|At.te ?_;cases hF;exact At.en () rfl sn (ae.U [0,3,2,4] rfl rfl)
    ·clear h2;rintro⟨⟩;refine At.be ?_;have hr:=Option.some.inj hF;subst r;exact At.fin .nil fun m' hm=>⟨(),(ae.U [0,1,2,3] rfl rfl) m' hm⟩
   ·clear h11;rintro⟨⟩
    change At _ .normal _ _ _
    refine At.bn<|At.tn<|Wk.seq<|Wk.region<|Wo.od (kU (r:=ptr b0 0) rfl rfl (mC AE (i:=0) (by decide))) rfl ?_
    obtain⟨⟨x12,x13,x14⟩,h21,hF⟩:=J hF;refine Wo.iN (ae.Ci (k:=2) (ys:=[x12,x13,x14]) (cs:=[.bool x12,.bool x13,.bool x14]) rfl (Be h21) rfl)<|Wo.od (aj (k:=2) HD rfl rfl rfl) rfl<|Wo.od (kU (r:=ptr b0 2) rfl rfl (mC AE (i:=2) (by decide))) rfl<|Wo.od (aj (k:=2) HD rfl rfl rfl) rfl<|Wo.od (ak rfl rfl (ye u4)) rfl<|Wo.od (ai rfl) rfl<|Wo.od (ai rfl) rfl<|Wo.nil<|At.tn<|Wk.ret ?_
    cases hF;exact At.ret (.tmp rfl (.tmp rfl .nil)) fun m' hm=>⟨(),rfl,(ae.U [] rfl rfl) m' hm⟩
theorem F3 (n:Nat) (l1:List (Int × Int)) (a0:Option Addr) (c0:Nat) (r:Bool × Int) (hF:Hq n l1=some r) (m:AMem) (h6:Rd m a0 c0 2 l1.length (l1.map (eP (eI .i64) (eI .i64)))) :
  aR aK 35 [.slice a0 l1.length c0] m (fun v m'=>∃_:Unit,v = .tuple #[.bool r.1,.int .i64 r.2]∧Hp m m' []):=by
 unfold Hq at hF;refine aH (m0:=m) (ps:=[.rd a0 c0 2 l1.length (l1.map (eP (eI .i64) (eI .i64)))]) (N:=46) (rs:=[.tmp 2,.tmp 3]) rfl Tryz.func35 rfl rfl rfl ((Hp.start m).nC rfl h6)<|Wk.seq<|Wk.region<|Wo.od (ai rfl) rfl<|Wo.od (ai rfl) rfl<|Wo.nil<|At.tn<|Wk.seq<|Wk.seq<|Wk.region<|Wo.od (aa rfl) rfl ?_;obtain⟨r7,h7,hF⟩:=J hF;refine Wo.x (bR rfl rfl (fun m hm=>rN n l1 a0 c0 _ h7 m (hm.rd (k:=0) rfl (.rd _ _ _ _ _))) fun _=>rfl) gn rfl ?_;rintro⟨⟩;refine Wo.od (ai rfl) rfl<|Wo.nil<|At.tn<|Wk.seq<|Wk.region<|Wo.od (aa rfl) rfl<|Wo.od (ak rfl rfl (cj _ _)) rfl<|Wo.nil<|At.tn ?_;rcases ah hF with⟨h3,hF⟩|⟨h3,hF⟩
 ·refine Wk.aD rfl h3<|Wk.seq<|Wk.region<|Wo.od (aa rfl) rfl<|Wo.od (ai rfl) rfl<|Wo.od (ai rfl) rfl<|Wo.nil<|At.tn<|Wk.ret<|At.tr ?_;cases hF;exact At.ret (.tmp rfl (.tmp rfl .nil)) fun m' hm=>⟨(),rfl,(ae.U [] rfl rfl) m' hm⟩
 ·refine Wk.aC rfl h3<|Wk.skip<|At.tn<|Wk.seq<|Wk.region<|Wo.od (ai rfl) rfl<|Wo.od (ai rfl) rfl<|Wo.nil<|At.tn<|Wk.seq<|Wk.seq<|Wk.region<|Wo.od (ai rfl) rfl<|Wo.nil<|At.tn<|Wk.block ?_;obtain⟨r1,h4,hF⟩:=J hF;refine Wk.cut (G:=(fun(r:Bool × Bool) (g:Unit)=>match r,g with | (v1,v2),_=>⟨(.exit 0),[(5,.bool v1),(6,.bool v2)],[]⟩) r1) ?_ ?_
  ·refine Wk.ep (fs':=[(0,.slice a0 l1.length c0),(5,.bool false),(6,.bool false),(7,.int .i64 0)]) (ps':=[.rd a0 c0 2 l1.length (l1.map (eP (eI .i64) (eI .i64)))]) (sc rfl (sc rfl (sc rfl (sc rfl sn)))) (ae.U [0] rfl rfl) ?_;refine Wk.loop (σ:=Bool × Bool × Int) (ρ:=Bool × Bool) (γ:=Unit) (δ:=fun _=>Unit) _ (fun(s:Bool × Bool × Int) (g:Unit)=>match s,g with | (v5,v4,v0),_=>⟨.normal,[(0,.slice a0 l1.length c0),(5,.bool v5),(6,.bool v4),(7,.int .i64 v0)],[.rd a0 c0 2 l1.length (l1.map (eP (eI .i64) (eI .i64)))]⟩) (fun(r:Bool × Bool) (g:Unit)=>match r,g with | (v1,v2),_=>⟨(.exit 0),[(5,.bool v1),(6,.bool v2)],[]⟩) ?_ (fun _ _=>rfl) (fun r d=>by intro e; cases e) _ _ _ h4 ()
   clear hF h4;rintro⟨v5,v4,v0⟩ ⟨⟩ r hF;unfold qD at hF;refine Wk.seq<|Wk.seq<|Wk.region<|Wo.od (aa rfl) rfl<|Wo.od (aa rfl) rfl<|Wo.od (da (k:=0) fP rfl rfl (.inl rfl)) rfl<|Wo.od (ak rfl rfl (aS _ _ _)) rfl<|Wo.nil<|At.tn ?_;rcases ah hF with⟨h5,hF⟩|⟨h5,hF⟩
   ·refine Wk.aD rfl h5<|Wk.skip<|At.tn<|Wk.seq ?_;obtain⟨r0,h8,hF⟩:=J hF;refine Wk.cut (G:=(fun(r:Bool × Bool) (g:Unit)=>match r,g with | (v6,v7),_=>⟨.normal,[(0,.slice a0 l1.length c0),(5,.bool v6),(6,.bool v7),(7,.int .i64 v0)],[.rd a0 c0 2 l1.length (l1.map (eP (eI .i64) (eI .i64)))]⟩) r0) ?_ ?_
    ·clear hF;revert r0;intro r hF;refine Wk.block<|Wk.seq<|Wk.eH (prs:=[(3,7),(3,11)]) (by kernel_rfl)<|Wn.od (aa rfl) rfl<|Wn.od (aa rfl) rfl ?_
     obtain⟨h2,hF⟩:=al hF;replace h2:=av h2;refine Wn.dL (k:=0) rfl (bP h2) ?_;rintro b0 o1 rfl;refine Wn.og (bC ct rfl rfl h2) gn rfl ?_;obtain⟨⟨x3,x4⟩,h9,hF⟩:=J hF;refine Wn.od (bI (k:=0) az rfl rfl (aO h9) rfl rfl) rfl<|Wn.od (aa rfl) rfl<|Wn.od (aa rfl) rfl<|Wn.od (ak rfl rfl (aB _ _ _)) rfl ?_;obtain⟨⟨r2,r3⟩,h10,hF⟩:=J hF;refine Wn.c (eT rfl rfl (fun m hm=>jb n l1 (IntKind.wrap .i64 (v0+1)) (some ⟨b0,o1,none⟩) c0 _ h10 m (hm.rd (k:=1) rfl (.rd _ _ _ _ _))) fun _=>rfl) gn rfl ?_;rintro⟨⟩;refine Wn.od (aa rfl) rfl<|Wn.od (aa rfl) rfl<|Wn.od (ak rfl rfl (aB _ _ _)) rfl ?_;obtain⟨⟨r4,r5⟩,h11,hF⟩:=J hF;refine Wn.c (eT rfl rfl (fun m hm=>jb n l1 (IntKind.wrap .i64 (v0+2)) (some ⟨b0,o1,none⟩) c0 _ h11 m (hm.rd (k:=1) rfl (.rd _ _ _ _ _))) fun _=>rfl) gn rfl ?_;rintro⟨⟩;obtain⟨r6,h12,hF⟩:=J hF;refine Wn.c (eT rfl rfl (fun m hm=>iS n x3 x4 r2 r3 r4 r5  _ h12 m) fun _=>rfl) gn rfl ?_;rintro⟨⟩;refine Wn.od (ai rfl) rfl<|Wn.nil (fun m hm=>eG.all rfl)<|At.tn<|Wk.seq ?_;obtain⟨v3,h13,hF⟩:=J hF;refine Wk.cut (G:=(fun(r:Bool) (g:Unit)=>match r,g with|v3,_=>⟨.normal,[(0,.slice (some ⟨b0,o1,none⟩) l1.length c0),(5,.bool v3),(6,.bool v4),(7,.int .i64 v0),(8,.int .i64 r6)],[.ro b0 o1 2 l1.length (l1.map (eP (eI .i64) (eI .i64))),.rd (some ⟨b0,o1,none⟩) c0 2 l1.length (l1.map (eP (eI .i64) (eI .i64)))]⟩) v3) ?_ ?_
     ·clear hF;revert v3;intro r hF;refine Wk.region<|Wo.od (aa rfl) rfl<|Wo.od (aa rfl) rfl ?_;rcases ah hF with⟨h0,hF⟩|⟨h0,hF⟩
      ·refine Wo.s (gg rfl rfl (eU h0)) rfl<|Wo.s (gg rfl rfl (eU h0)) rfl<|Wo.od (dG rfl h0 rfl) rfl<|Wo.od (ai rfl) rfl<|Wo.nil ?_;cases hF;exact At.en () rfl (sc rfl (sc rfl (sc rfl (sc rfl (sc rfl sn))))) (ae.U [0,1] rfl rfl)
      ·refine Wo.og (aa rfl) (gg rfl rfl (eX h0)) rfl<|Wo.og (ak rfl rfl (bJ _ _ _)) (gg rfl rfl (eX h0)) rfl<|Wo.od (dC rfl h0 rfl) rfl<|Wo.od (ai rfl) rfl<|Wo.nil ?_;cases hF;exact At.en () rfl (sc rfl (sc rfl (sc rfl (sc rfl (sc rfl sn))))) (ae.U [0,1] rfl rfl)
     ·clear h13;rintro⟨⟩;refine At.tn<|Wk.region<|Wo.od (aa rfl) rfl<|Wo.od (aa rfl) rfl ?_;rcases ah hF with⟨h1,hF⟩|⟨h1,hF⟩
      ·refine Wo.s (gg rfl rfl (eU h1)) rfl<|Wo.s (gg rfl rfl (eU h1)) rfl<|Wo.od (dG rfl h1 rfl) rfl<|Wo.od (ai rfl) rfl<|Wo.nil<|At.bn ?_;cases hF;exact At.en () rfl (sc rfl (sc rfl (sc rfl (sc rfl sn)))) (ae.U [1] rfl rfl)
      ·refine Wo.og (aa rfl) (gg rfl rfl (eX h1)) rfl<|Wo.og (ak rfl rfl (aS _ _ _)) (gg rfl rfl (eX h1)) rfl<|Wo.od (dC rfl h1 rfl) rfl<|Wo.od (ai rfl) rfl<|Wo.nil<|At.bn ?_;cases hF;exact At.en () rfl (sc rfl (sc rfl (sc rfl (sc rfl sn)))) (ae.U [1] rfl rfl)
    ·clear h8;obtain⟨v6,v7⟩:=r0;rintro⟨⟩;refine At.tn<|Wk.region<|Wo.od (aa rfl) rfl<|Wo.od (ak rfl rfl (aB _ _ _)) rfl<|Wo.od (ai rfl) rfl<|Wo.nil ?_;cases hF;exact At.en () rfl (sc rfl (sc rfl (sc rfl (sc rfl sn)))) (ae.U [0] rfl rfl)
   ·refine Wk.aC rfl h5<|Wk.exit<|At.te ?_;cases hF;exact At.en () rfl (sc rfl (sc rfl sn)) (ae.U [] rfl rfl)
  ·clear h4;obtain⟨v1,v2⟩:=r1;rintro⟨⟩;refine At.be<|At.tn<|Wk.seq<|Wk.region<|Wo.od (aa rfl) rfl<|Wo.od (aa rfl) rfl<|Wo.od (ak rfl rfl (ye u4)) rfl<|Wo.od (ai rfl) rfl<|Wo.od (ai rfl) rfl<|Wo.nil<|At.tn<|Wk.ret ?_;cases hF;exact At.ret (.tmp rfl (.tmp rfl .nil)) fun m' hm=>⟨(),rfl,(ae.U [] rfl rfl) m' hm⟩
theorem Ff (n:Nat) (l2:List (Int × Int)) (a0:Option Addr) (c0:Nat) (r:List (Int × Int) × Int) (hF:GZ n l2=some r) (m:AMem) (h9:Rd m a0 c0 2 l2.length (l2.map (eP (eI .i64) (eI .i64)))) :
  aR aK 36 [.slice a0 l2.length c0] m (fun v m'=>∃x:Option Addr × Nat,v = .tuple #[.slice x.1 x.2 x.2,.int .i64 r.2]∧Hp m m' [.sl x.1 2 x.2 (r.1.map (eP (eI .i64) (eI .i64)))]):=by
 unfold GZ at hF;refine aH (m0:=m) (ps:=[.rd a0 c0 2 l2.length (l2.map (eP (eI .i64) (eI .i64)))]) (N:=17) (rs:=[.tmp 2,.tmp 3]) rfl Tryz.func36 rfl rfl rfl ((Hp.start m).nC rfl h9)<|Wk.seq<|Wk.region<|Wo.od (ai rfl) rfl<|Wo.od (ai rfl) rfl<|Wo.nil<|At.tn<|Wk.seq<|Wk.seq<|Wk.region<|Wo.od (aa rfl) rfl ?_;obtain⟨r0,h10,hF⟩:=J hF;refine Wo.x (bR rfl rfl (fun m hm=>rS n l2 a0 c0 _ h10 m (hm.rd (k:=0) rfl (.rd _ _ _ _ _))) fun _=>rfl) gn rfl ?_;rintro⟨⟩;refine Wo.od (ai rfl) rfl<|Wo.nil<|At.tn<|Wk.seq<|Wk.region<|Wo.od (aa rfl) rfl<|Wo.od (ak rfl rfl (cj _ _)) rfl<|Wo.nil<|At.tn ?_;rcases ah hF with⟨h1,hF⟩|⟨h1,hF⟩
 ·refine Wk.aD rfl h1<|Wk.seq<|Wk.region<|Wo.od (aa rfl) rfl<|Wo.od (ai rfl) rfl<|Wo.od (ai rfl) rfl<|Wo.nil<|At.tn<|Wk.ret<|At.tr ?_;cases hF;exact At.ret (.tmp rfl (.tmp rfl .nil)) fun m' hm=>⟨(none,0),rfl,(ae.trans (ae.nil 2 rfl) (ae.U [0] rfl rfl)) m' hm⟩
 ·refine Wk.aC rfl h1<|Wk.skip<|At.tn<|Wk.seq<|Wk.region<|Wo.od (aa rfl) rfl ?_;obtain⟨l1,h11,hF⟩:=J hF;refine Wo.x (bR rfl rfl (fun m hm=>Ex n l2 a0 c0 _ h11 m (hm.rd (k:=0) rfl (.rd _ _ _ _ _))) fun _=>rfl) gn rfl ?_;rintro⟨a1,n0⟩;refine Wo.len (k:=0) (xs:=l1) rfl ?_;rintro rfl;refine Wo.od (ai rfl) rfl<|Wo.nil<|At.tn<|Wk.seq<|Wk.region<|Wo.od (aa rfl) rfl ?_;obtain⟨h0,hF⟩:=al hF;replace h0:=of_decide_eq_true h0;refine Wo.open (k:=0) rfl (Nat.lt_of_le_of_lt (Nat.zero_le _) h0) ?_;rintro b0 t0 rfl h15;refine Wo.og (He (k:=0) (L:=1) ct rfl rfl rfl h0 rfl) gn rfl ?_;obtain⟨l3,h12,hF⟩:=J hF;refine Wo.x (pN (α:=Unit) (V:=fun g=>(fun(r:List (Int × Int)) (g:Unit)=>match r,g with|l3,_=>(.tuple #[]:Value)) l3 g) (N:=fun g=>(fun(r:List (Int × Int)) (g:Unit)=>match r,g with|l3,_=>([.arr b0 2 l1.length (l3.map (eP (eI .i64) (eI .i64))) t0]:List Pc)) l3 g) rfl rfl (fun m hm=>?_)) gn rfl ?_
  ·clear hF;revert l3;intro r hF;refine aH (N:=28) (rs:=[]) rfl Tryz.func72 rfl rfl rfl hm<|Wk.seq<|Wk.region<|Wo.od (aa rfl) rfl<|Wo.od (da (k:=0) fP rfl rfl (.inl rfl)) rfl<|Wo.od (ak rfl rfl (aV _ _ _)) rfl<|Wo.od (ai rfl) rfl<|Wo.od (ai rfl) rfl<|Wo.nil<|At.tn<|Wk.block ?_;obtain⟨l4,h2,hF⟩:=J hF;refine Wk.cut (G:=(fun(r:List (Int × Int)) (g:Unit)=>match r,g with|l4,_=>⟨(.exit 0),[],[.arr b0 2 l1.length (l4.map (eP (eI .i64) (eI .i64))) t0]⟩) l4) ?_ ?_
   ·refine Wk.ep (fs':=[(0,.slice (some ⟨b0,2,none⟩) (l1.length-1:Nat) (l1.length-1:Nat)),(2,.int .i64 0),(3,.int .i64 (IntKind.wrap .i64 (((l1.length-1:Nat):Int)-1)))]) (ps':=[.arr b0 2 l1.length (l1.map (eP (eI .i64) (eI .i64))) t0]) (sc rfl (sc rfl (sc rfl sn))) (ae.U [0] rfl rfl) ?_;refine Wk.loop (σ:=List (Int × Int) × Int × Int) (ρ:=List (Int × Int)) (γ:=Unit) (δ:=fun _=>Unit) _ (fun(s:List (Int × Int) × Int × Int) (g:Unit)=>match s,g with | (l5,v0,v1),_=>⟨.normal,[(0,.slice (some ⟨b0,2,none⟩) (l1.length-1:Nat) (l1.length-1:Nat)),(2,.int .i64 v0),(3,.int .i64 v1)],[.arr b0 2 l1.length (l5.map (eP (eI .i64) (eI .i64))) t0]⟩) (fun(r:List (Int × Int)) (g:Unit)=>match r,g with|l4,_=>⟨(.exit 0),[],[.arr b0 2 l1.length (l4.map (eP (eI .i64) (eI .i64))) t0]⟩) ?_ (fun _ _=>rfl) (fun r d=>by intro e; cases e) _ _ _ h2 ()
    clear hF h2;rintro⟨l5,v0,v1⟩ ⟨⟩ r hF;unfold qv at hF;refine Wk.seq<|Wk.seq<|Wk.region<|Wo.od (aa rfl) rfl<|Wo.od (aa rfl) rfl<|Wo.od (ak rfl rfl (aS _ _ _)) rfl<|Wo.nil<|At.tn ?_;rcases ah hF with⟨h3,hF⟩|⟨h3,hF⟩
    ·refine Wk.aD rfl h3<|Wk.skip<|At.tn<|Wk.seq<|Wk.block<|Wk.draw (by kernel_rfl)<|Wo.od (aa rfl) rfl<|Wo.od (aa rfl) rfl<|Wo.od (aa rfl) rfl<|Wo.od (aa rfl) rfl<|Wo.od (aa rfl) rfl<|Wo.od (aa rfl) rfl ?_
     obtain⟨h4,hF⟩:=al hF;replace h4:=av h4;refine Wo.og (xS (L:=1) ct rfl rfl rfl h4) gn rfl ?_;obtain⟨⟨x10,x11⟩,h13,hF⟩:=J hF;refine Wo.od (gz (k:=0) az rfl rfl (aO h13) rfl rfl) rfl<|Wo.od (aa rfl) rfl<|Wo.od (aa rfl) rfl ?_;obtain⟨h5,hF⟩:=al hF;replace h5:=av h5;refine Wo.og (xS (L:=1) ct rfl rfl rfl h5) gn rfl ?_;obtain⟨⟨x3,x4⟩,h8,hF⟩:=J hF;refine Wo.od (gz (k:=0) az rfl rfl (aO h8) rfl rfl) rfl ?_;obtain⟨h6,hF⟩:=al hF;replace h6:=av h6;refine Wo.og (xS (L:=1) ct rfl rfl rfl h6) gn rfl<|Wo.o0 (j6 (k:=0) (x1:=(x3,x4)) (x2:=(x10,x11)) az rfl rfl rfl h8 rfl) ?_;obtain⟨h7,hF⟩:=al hF;replace h7:=av h7;refine Wo.og (xS (L:=1) ct rfl rfl rfl h7) gn rfl ?_;obtain⟨⟨x12,x13⟩,h14,hF⟩:=J hF;refine Wo.o0 (j6 (k:=0) (x1:=(x12,x13)) (x2:=(x3,x4)) az rfl rfl rfl h14 rfl)<|Wo.nil<|At.bn<|At.tn<|Wk.region<|Wo.od (aa rfl) rfl<|Wo.od (ak rfl rfl (aB _ _ _)) rfl<|Wo.od (aa rfl) rfl<|Wo.od (ak rfl rfl (aV _ _ _)) rfl<|Wo.od (ai rfl) rfl<|Wo.od (ai rfl) rfl<|Wo.nil ?_;cases hF;exact At.en () rfl (sc rfl (sc rfl (sc rfl sn))) (ae.U [0] rfl rfl)
    ·refine Wk.aC rfl h3<|Wk.exit<|At.te ?_;cases hF;exact At.en () rfl sn (ae.U [0] rfl rfl)
   ·clear h2;rintro⟨⟩;refine At.be ?_;have hr:=Option.some.inj hF;subst r;exact At.fin .nil fun m' hm=>⟨(),rfl,(ae.U [0] rfl rfl) m' hm⟩
  ·clear h12;rintro⟨⟩;refine Wo.nil<|At.tn<|Wk.seq<|Wk.region<|Wo.od (aa rfl) rfl<|Wo.od (ai rfl) rfl<|Wo.od (ai rfl) rfl<|Wo.nil<|At.tn<|Wk.ret ?_;cases hF;exact At.ret (.tmp rfl (.tmp rfl .nil)) fun m' hm=>⟨((some ⟨b0,0,none⟩),l1.length),rfl,(ae.trans (ae.close (k:=0) rfl) (ae.U [0] rfl rfl)) m' hm⟩
theorem F1 (n:Nat) (l1:List (Int × Int)) (l5:List (Int × Int)) (a2:Option Addr) (c3:Nat) (a6:Option Addr) (c7:Nat) (r:Bool) (hF:Fh n l1 l5=some r) (m:AMem) (h4:Rd m a2 c3 2 l1.length (l1.map (eP (eI .i64) (eI .i64)))) (h8:Rd m a6 c7 2 l5.length (l5.map (eP (eI .i64) (eI .i64)))) :
  aR aK 15 [.slice a2 l1.length c3,.slice a6 l5.length c7] m (fun v m'=>∃_:Unit,v = .bool r∧Hp m m' []):=by
 unfold Fh at hF;refine aH (m0:=m) (ps:=[.rd a6 c7 2 l5.length (l5.map (eP (eI .i64) (eI .i64))),.rd a2 c3 2 l1.length (l1.map (eP (eI .i64) (eI .i64)))]) (N:=26) (rs:=[.tmp 4]) rfl Tryz.func15 rfl rfl rfl (((Hp.start m).nC rfl h4).nC rfl h8)<|Wk.seq<|Wk.region<|Wo.od (ai rfl) rfl<|Wo.nil<|At.tn<|Wk.seq<|Wk.seq<|Wk.region<|Wo.od (aa rfl) rfl<|Wo.od (da (k:=1) fP rfl rfl (.inl rfl)) rfl<|Wo.od (aa rfl) rfl<|Wo.od (da (k:=0) fP rfl rfl (.inl rfl)) rfl<|Wo.od (ak rfl rfl (cj _ _)) rfl<|Wo.nil<|At.tn ?_;rcases ah hF with⟨h9,hF⟩|⟨h9,hF⟩
 ·refine Wk.aD rfl h9<|Wk.seq<|Wk.region<|Wo.od (ai rfl) rfl<|Wo.nil<|At.tn<|Wk.ret<|At.tr ?_;cases hF;exact At.ret (.tmp rfl .nil) fun m' hm=>⟨(),rfl,(ae.U [] rfl rfl) m' hm⟩
 ·refine Wk.aC rfl h9<|Wk.skip<|At.tn<|Wk.seq<|Wk.seq<|Wk.region<|Wo.od (ai rfl) rfl<|Wo.nil<|At.tn<|Wk.block ?_;obtain⟨r42,h41,hF⟩:=J hF;refine Wk.cut (G:=(fun(r:(Unit) ⊕ (Unit)) (g:Unit)=>match r,g with | .inl _,_=>⟨.ret,[(4,.bool false)],[]⟩ | .inr _,_=>⟨(.exit 0),[],[]⟩) r42) ?_ ?_
  ·refine Wk.ep (fs':=[(0,.slice a2 l1.length c3),(1,.slice a6 l5.length c7),(5,.int .i64 0)]) (ps':=[.rd a2 c3 2 l1.length (l1.map (eP (eI .i64) (eI .i64))),.rd a6 c7 2 l5.length (l5.map (eP (eI .i64) (eI .i64)))]) (sc rfl (sc rfl (sc rfl sn))) (ae.U [1,0] rfl rfl) ?_;refine Wk.loop (σ:=Int) (ρ:=(Unit) ⊕ (Unit)) (γ:=Unit) (δ:=fun _=>Unit) _ (fun(s:Int) (g:Unit)=>match s,g with|v11,_=>⟨.normal,[(0,.slice a2 l1.length c3),(1,.slice a6 l5.length c7),(5,.int .i64 v11)],[.rd a2 c3 2 l1.length (l1.map (eP (eI .i64) (eI .i64))),.rd a6 c7 2 l5.length (l5.map (eP (eI .i64) (eI .i64)))]⟩) (fun(r:(Unit) ⊕ (Unit)) (g:Unit)=>match r,g with | .inl _,_=>⟨.ret,[(4,.bool false)],[]⟩ | .inr _,_=>⟨(.exit 0),[],[]⟩) ?_ (fun _ _=>rfl) (fun r d=>by rcases r with _|_<;>(intro e; cases e)) _ _ _ h41 ()
   clear hF h41;rintro v11 ⟨⟩ r hF;unfold sP at hF;refine Wk.seq<|Wk.seq<|Wk.region<|Wo.od (aa rfl) rfl<|Wo.od (aa rfl) rfl<|Wo.od (da (k:=0) fP rfl rfl (.inl rfl)) rfl<|Wo.od (ak rfl rfl (aS _ _ _)) rfl<|Wo.nil<|At.tn ?_;rcases ah hF with⟨h27,hF⟩|⟨h27,hF⟩
   ·refine Wk.aD rfl h27<|Wk.skip<|At.tn<|Wk.seq<|Wk.block<|Wk.seq<|Wk.draw (by kernel_rfl)<|Wo.od (aa rfl) rfl<|Wo.od (aa rfl) rfl ?_
    obtain⟨h28,hF⟩:=al hF;replace h28:=av h28;refine Wo.dL (k:=0) rfl (bP h28) ?_;rintro b29 o30 rfl;refine Wo.og (bC ct rfl rfl h28) gn rfl ?_;obtain⟨⟨x31,x32⟩,h33,hF⟩:=J hF;refine Wo.od (bI (k:=0) az rfl rfl (aO h33) rfl rfl) rfl<|Wo.od (aa rfl) rfl<|Wo.od (aa rfl) rfl ?_;obtain⟨h34,hF⟩:=al hF;replace h34:=av h34;refine Wo.dL (k:=2) rfl (bP h34) ?_;rintro b35 o36 rfl;refine Wo.og (bC ct rfl rfl h34) gn rfl ?_;obtain⟨⟨x37,x38⟩,h39,hF⟩:=J hF;refine Wo.od (bI (k:=0) az rfl rfl (aO h39) rfl rfl) rfl<|Wo.od (ak rfl rfl (D7 Cy (B8 _ _ _ _))) rfl<|Wo.nil<|At.tn ?_;rcases ah hF with⟨h40,hF⟩|⟨h40,hF⟩
    ·refine Wk.aD rfl h40<|Wk.seq<|Wk.region<|Wo.od (ai rfl) rfl<|Wo.nil<|At.tn<|Wk.ret<|At.br<|At.tr ?_;cases hF;exact At.en () rfl (sc rfl sn) (ae.U [] rfl rfl)
    ·refine Wk.aC rfl h40<|Wk.skip<|At.bn<|At.tn<|Wk.region<|Wo.od (aa rfl) rfl<|Wo.od (ak rfl rfl (aB _ _ _)) rfl<|Wo.od (ai rfl) rfl<|Wo.nil ?_;cases hF;exact At.en () rfl (sc rfl (sc rfl (sc rfl sn))) (ae.U [2,3] rfl rfl)
   ·refine Wk.aC rfl h27<|Wk.exit<|At.te ?_;cases hF;exact At.en () rfl sn (ae.U [] rfl rfl)
  ·clear h41;rcases r42 with _|_
   ·rintro⟨⟩;refine At.br<|At.tr ?_;cases hF;exact At.ret (.tmp rfl .nil) fun m' hm=>⟨(),rfl,(ae.U [] rfl rfl) m' hm⟩
   ·rintro⟨⟩;refine At.be<|At.tn<|Wk.seq<|Wk.region<|Wo.od (ai rfl) rfl<|Wo.nil<|At.tn<|Wk.ret ?_;cases hF;exact At.ret (.tmp rfl .nil) fun m' hm=>⟨(),rfl,(ae.U [] rfl rfl) m' hm⟩
theorem FU (n:Nat) (l1:List (Int × Int)) (x5:Int) (x6:Int) (a0:Option Addr) (c0:Nat) (r:Int × Int) (hF:G6 n l1 x5 x6=some r) (m:AMem) (h15:Rd m a0 c0 2 l1.length (l1.map (eP (eI .i64) (eI .i64)))) :
  aR aK 20 [.slice a0 l1.length c0,.agg #[.int .i64 x5,.int .i64 x6]] m (fun v m'=>∃_:Unit,v = .tuple #[.int .i64 r.1,.int .i64 r.2]∧Hp m m' []):=by
 unfold G6 at hF;refine aH (m0:=m) (ps:=[.rd a0 c0 2 l1.length (l1.map (eP (eI .i64) (eI .i64)))]) (N:=73) (rs:=[.cell 4 3,.cell 5 37]) rfl Tryz.func20 rfl rfl rfl ((Hp.start m).nC rfl h15)<|Wk.seq<|Wk.region<|Wo.x (cd rfl) gn rfl fun b0=>?_;refine Wo.x (cL z3 rfl) gn rfl fun b3=>?_;refine Wo.x (cL IJ rfl) gn rfl fun b4=>?_;refine Wo.nil<|At.tn<|Wk.seq<|Wk.seq<|Wk.region<|Wo.od (aa rfl) rfl ?_;obtain⟨r6,h16,hF⟩:=J hF;refine Wo.x (bR rfl rfl (fun m hm=>rS n l1 a0 c0 _ h16 m (hm.rd (k:=3) rfl (.rd _ _ _ _ _))) fun _=>rfl) gn rfl ?_;rintro⟨⟩;refine Wo.od (ai rfl) rfl<|Wo.nil<|At.tn<|Wk.seq<|Wk.region<|Wo.od (aa rfl) rfl<|Wo.od (ak rfl rfl (cj _ _)) rfl<|Wo.nil<|At.tn ?_;rcases ah hF with⟨h5,hF⟩|⟨h5,hF⟩
 ·refine Wk.aD rfl h5<|Wk.seq<|Wk.region<|Wo.od (aa rfl) rfl<|Wo.o0 (bB (k:=1) bg rfl rfl rfl rfl rfl)<|Wo.o0 (bB (k:=0) pS rfl rfl rfl rfl rfl)<|Wo.nil<|At.tn<|Wk.ret<|At.tr ?_;cases hF;exact At.ret (.cell (k:=1) bg rfl rfl rfl (.cell (k:=0) pS rfl rfl rfl .nil)) fun m' hm=>⟨(),rfl,(ae.U [] rfl rfl) m' hm⟩
 ·refine Wk.aC rfl h5<|Wk.skip<|At.tn<|Wk.seq<|Wk.seq<|Wk.region<|Wo.od (aj (k:=2) az rfl rfl rfl) rfl ?_;obtain⟨r7,h17,hF⟩:=J hF;refine Wo.x (bR rfl rfl (fun m hm=>zu n x5 x6  _ h17 m) fun _=>rfl) gn rfl ?_;rintro⟨⟩;refine Wo.nil<|At.tn ?_;rcases ah hF with⟨h6,hF⟩|⟨h6,hF⟩
  ·refine Wk.aD rfl h6<|Wk.seq<|Wk.region<|Wo.o0 (bB (k:=1) bg rfl rfl rfl rfl rfl)<|Wo.o0 (bB (k:=0) pS rfl rfl rfl rfl rfl)<|Wo.nil<|At.tn<|Wk.ret<|At.tr ?_;cases hF;exact At.ret (.cell (k:=1) bg rfl rfl rfl (.cell (k:=0) pS rfl rfl rfl .nil)) fun m' hm=>⟨(),rfl,(ae.U [] rfl rfl) m' hm⟩
  ·refine Wk.aC rfl h6<|Wk.skip<|At.tn<|Wk.seq<|Wk.region<|Wo.x (cL z3 rfl) gn rfl fun b5=>?_;refine Wo.o0 (bB (k:=0) bg rfl rfl rfl rfl rfl)<|Wo.nil<|At.tn<|Wk.seq<|Wk.seq<|Wk.region<|Wo.od (aa rfl) rfl ?_;obtain⟨r3,h18,hF⟩:=J hF;refine Wo.x (pN (α:=Nat) (V:=fun g=>(fun(r:Unit) (g:Nat)=>match r,g with|_,b8=>(.func (.func 86) #[] #[ptr b8 0]:Value)) r3 g) (N:=fun g=>(fun(r:Unit) (g:Nat)=>match r,g with|_,b8=>([.obj b8 (.cells [.slice a0 l1.length c0] .own),.rd a0 c0 2 l1.length (l1.map (eP (eI .i64) (eI .i64))),.obj b0 (.cells [.int .i64 x5,.int .i64 x6] .own),.obj b3 (.cells [.int .i64 0] .own),.obj b4 (.cells [.int .i64 0] .own),.obj b5 (.cells [.int .i64 0] .own)]:List Pc)) r3 g) rfl rfl (fun m hm=>?_)) gn rfl ?_
   ·clear hF;revert r3;intro r hF;refine aH (N:=4) (rs:=[.tmp 2]) rfl Tryz.func63 rfl rfl rfl hm<|Wk.seq<|Wk.region<|Wo.x (cd rfl) gn rfl fun b9=>?_;refine Wo.od (ai rfl) rfl<|Wo.nil<|At.tn<|Wk.seq<|Wk.region<|Wo.od (vz rfl rfl) rfl<|Wo.od (ai rfl) rfl<|Wo.nil<|At.tn<|Wk.ret ?_;cases hF;exact At.ret (.tmp rfl .nil) fun m' hm=>⟨b9,rfl,(ae.U [0,5,4,3,2,1] rfl rfl) m' hm⟩
   ·clear h18;rintro b8;refine Wo.nil<|At.tn<|Wk.block ?_;obtain⟨r1,h19,hF⟩:=J hF;refine Wk.range (N:=27) (rs:=[]) (γ:=Unit) (X:=fun g=>(fun(r:(Int) ⊕ (Int)) (g:Unit)=>(match r,g with | .inl v6,_=>⟨.done,(some .ret),[.obj b0 (.cells [.int .i64 x5,.int .i64 x6] .own),.obj b3 (.cells [.int .i64 1] .own),.obj b4 (.cells [.int .i64 0] .own),.obj b5 (.cells [.int .i64 v6] .own)]⟩ | .inr v7,_=>⟨.ready,none,[.obj b0 (.cells [.int .i64 x5,.int .i64 x6] .own),.obj b3 (.cells [.int .i64 0] .own),.obj b4 (.cells [.int .i64 0] .own),.obj b5 (.cells [.int .i64 v7] .own)]⟩:Rn)) r1 g) rfl rfl Tryz.func86 rfl rfl rfl ?_ (fun y=>by rcases r1 with _|_<;>(intro e; cases e)) ?_
    ·clear hF;revert r1;intro r hF;intro t0 l2 r0 h20 h21;refine Wk.seq<|Wk.region<|Wo.od (aj (k:=1) cY rfl rfl rfl) rfl<|Wo.od (da (k:=2) fP rfl rfl (.inl rfl)) rfl<|Wo.od (aa rfl) rfl<|Wo.nil<|At.tn<|Wk.block ?_;obtain⟨r4,h7,hF⟩:=J hF;refine Wk.cut (G:=(fun(r:(Int) ⊕ (Int)) (g:Unit)=>match r,g with | .inl v2,_=>⟨.ret,[],[.obj l2 (r0 .done (some .ret)),.obj b0 (.cells [.int .i64 x5,.int .i64 x6] .own),.obj b3 (.cells [.int .i64 1] .own),.obj b4 (.cells [.int .i64 0] .own),.obj b5 (.cells [.int .i64 v2] .own)]⟩ | .inr v3,_=>⟨(.exit 0),[],[.obj l2 (r0 .ready none),.obj b0 (.cells [.int .i64 x5,.int .i64 x6] .own),.obj b3 (.cells [.int .i64 0] .own),.obj b4 (.cells [.int .i64 0] .own),.obj b5 (.cells [.int .i64 v3] .own)]⟩) r4) ?_ ?_
     ·refine Wk.ep (fs':=[(0,.func (.yield l2) #[] #[]),(1,ptr b8 0),(5,.slice a0 l1.length c0),(6,.int .i64 (l1.length:Int)),(7,.int .i64 0)]) (ps':=[.obj l2 (r0 .ready none),.obj b8 (.cells [.slice a0 l1.length c0] .own),.rd a0 c0 2 l1.length (l1.map (eP (eI .i64) (eI .i64))),.obj b0 (.cells [.int .i64 x5,.int .i64 x6] .own),.obj b3 (.cells [.int .i64 0] .own),.obj b4 (.cells [.int .i64 0] .own),.obj b5 (.cells [.int .i64 0] .own)]) (sc rfl (sc rfl (sc rfl (sc rfl (sc rfl sn))))) (ae.U [0,1,2,3,4,5,6] rfl rfl) ?_;refine Wk.loop (σ:=Int × Int) (ρ:=(Int) ⊕ (Int)) (γ:=Unit) (δ:=fun _=>Unit) _ (fun(s:Int × Int) (g:Unit)=>match s,g with | (v0,v1),_=>⟨.normal,[(0,.func (.yield l2) #[] #[]),(1,ptr b8 0),(5,.slice a0 l1.length c0),(6,.int .i64 (l1.length:Int)),(7,.int .i64 v0)],[.obj l2 (r0 .ready none),.obj b8 (.cells [.slice a0 l1.length c0] .own),.rd a0 c0 2 l1.length (l1.map (eP (eI .i64) (eI .i64))),.obj b0 (.cells [.int .i64 x5,.int .i64 x6] .own),.obj b3 (.cells [.int .i64 0] .own),.obj b4 (.cells [.int .i64 0] .own),.obj b5 (.cells [.int .i64 v1] .own)]⟩) (fun(r:(Int) ⊕ (Int)) (g:Unit)=>match r,g with | .inl v2,_=>⟨.ret,[],[.obj l2 (r0 .done (some .ret)),.obj b0 (.cells [.int .i64 x5,.int .i64 x6] .own),.obj b3 (.cells [.int .i64 1] .own),.obj b4 (.cells [.int .i64 0] .own),.obj b5 (.cells [.int .i64 v2] .own)]⟩ | .inr v3,_=>⟨(.exit 0),[],[.obj l2 (r0 .ready none),.obj b0 (.cells [.int .i64 x5,.int .i64 x6] .own),.obj b3 (.cells [.int .i64 0] .own),.obj b4 (.cells [.int .i64 0] .own),.obj b5 (.cells [.int .i64 v3] .own)]⟩) ?_ (fun _ _=>rfl) (fun r d=>by rcases r with _|_<;>(intro e; cases e)) _ _ _ h7 ()
      clear hF h7;rintro⟨v0,v1⟩ ⟨⟩ r hF;unfold pD at hF;refine Wk.seq<|Wk.region<|Wo.od (ak rfl rfl (aS _ _ _)) rfl<|Wo.nil<|At.tn<|Wk.seq ?_;rcases ah hF with⟨h8,hF⟩|⟨h8,hF⟩
      ·refine Wk.aD rfl h8<|Wk.skip<|At.tn<|Wk.seq<|Wk.block<|Wk.seq<|Wk.region<|Wo.od (aa rfl) rfl ?_;obtain⟨h4,hF⟩:=al hF;replace h4:=av h4;refine Wo.dL (k:=2) rfl (bP h4) ?_;rintro b7 o1 rfl;refine Wo.og (bC ct rfl rfl h4) gn rfl ?_;obtain⟨⟨x3,x4⟩,h22,hF⟩:=J hF;refine Wo.od (bI (k:=0) az rfl rfl (aO h22) rfl rfl) rfl<|Wo.x (cL z33 rfl) gn rfl fun b11=>?_;refine Wo.od (ai rfl) rfl<|Wo.o0 (bB (k:=0) az rfl rfl rfl rfl rfl)<|Wo.nil<|At.tn<|Wk.seq<|Wk.draw (by kernel_rfl)<|Wo.od (aa rfl) rfl<|Wo.od (aa rfl) rfl<|Wo.od (aj (k:=0) az rfl rfl rfl) rfl<|Wo.od (aj (k:=3) cY rfl rfl rfl) rfl<|Wo.od (aa rfl) rfl<|Wo.od (ak rfl rfl (aB _ _ _)) rfl<|Wo.od (aj (k:=3) cY rfl rfl rfl) rfl ?_
       refine Wo.od (da (k:=1) fP rfl rfl (.inl rfl)) rfl ?_;obtain⟨h23,hF⟩:=al hF;refine Wo.od (ak rfl rfl (cC _ _ h23)) rfl ?_;obtain⟨h9,hF⟩:=al hF;replace h9:=av h9;refine Wo.og (bC ct rfl rfl h9) gn rfl ?_;obtain⟨⟨x10,x11⟩,h24,hF⟩:=J hF;refine Wo.od (bI (k:=1) az rfl rfl (aO h24) rfl rfl) rfl<|Wo.od (dK rfl xu rfl (dI u7 rfl rfl rfl)) rfl ?_;obtain⟨r2,h14,hF⟩:=J hF;refine Wo.x (wM (k:=2) (k1:=0) (γA:=Nat) (GA:=(fun g:Nat=>(match g with|b6=>⟨.normal,[(3,ptr b0 0),(4,ptr b3 0),(5,ptr b4 0),(7,ptr b5 0),(8,ptr b6 0)],[.obj l2 (r0 .ready none),.obj b0 (.cells [.int .i64 x5,.int .i64 x6] .own),.obj b3 (.cells [.int .i64 0] .own),.obj b4 (.cells [.int .i64 0] .own),.obj b5 (.cells [.int .i64 v1] .own),.obj b6 (.cells [.int .i64 v0,.int .i64 x3,.int .i64 x4,.int .i64 x10,.int .i64 x11] .own),.obj b8 (.cells [.slice (some ⟨b7,o1,none⟩) l1.length c0] .own),.ro b7 o1 2 l1.length (l1.map (eP (eI .i64) (eI .i64))),.rd (some ⟨b7,o1,none⟩) c0 2 l1.length (l1.map (eP (eI .i64) (eI .i64)))]⟩:En))) (γ:=Unit) (G:=fun g=>(fun(r:(Unit) ⊕ (Int)) (g:Unit)=>(match r,g with | .inl _,_=>⟨.ret,[],[.obj l2 (r0 .busy none),.obj b0 (.cells [.int .i64 x5,.int .i64 x6] .own),.obj b3 (.cells [.int .i64 1] .own),.obj b4 (.cells [.int .i64 0] .own),.obj b5 (.cells [.int .i64 v1] .own),.obj b8 (.cells [.slice (some ⟨b7,o1,none⟩) l1.length c0] .own),.ro b7 o1 2 l1.length (l1.map (eP (eI .i64) (eI .i64))),.rd (some ⟨b7,o1,none⟩) c0 2 l1.length (l1.map (eP (eI .i64) (eI .i64)))]⟩ | .inr v8,_=>⟨.normal,[],[.obj l2 (r0 .busy none),.obj b0 (.cells [.int .i64 x5,.int .i64 x6] .own),.obj b3 (.cells [.int .i64 0] .own),.obj b4 (.cells [.int .i64 0] .own),.obj b5 (.cells [.int .i64 v8] .own),.obj b8 (.cells [.slice (some ⟨b7,o1,none⟩) l1.length c0] .own),.ro b7 o1 2 l1.length (l1.map (eP (eI .i64) (eI .i64))),.rd (some ⟨b7,o1,none⟩) c0 2 l1.length (l1.map (eP (eI .i64) (eI .i64)))]⟩:En)) r2 g) rfl rfl rfl h21 h20 rfl ?_ (fun _=>rfl) (fun _=>rfl) ?_ (fun y=>by rcases r2 with _|_<;>rfl)) gn rfl ?_
       ·clear hF h14;refine Wk.region<|Wo.x (cL xu rfl) gn rfl fun b10=>?_;refine Wo.o0 (bB (k:=0) nk rfl rfl rfl rfl rfl)<|Wo.nil ?_;exact At.en b10 rfl (sc rfl (sc rfl (sc rfl (sc rfl (sc rfl sn))))) (ae.U [3,6,7,8,9,0,4,2,5] rfl rfl)
       ·clear hF;revert r2;intro r hF;rintro b6;refine Wk.block<|Wk.seq<|Wk.seq<|Wk.region<|Wo.od (aj (k:=5) nk rfl rfl rfl) rfl<|Wo.od (aj (k:=1) az rfl rfl rfl) rfl ?_;obtain⟨r8,h25,hF⟩:=J hF;refine Wo.x (bR rfl rfl (fun m hm=>vC n v0 x3 x4 x10 x11 x5 x6  _ h25 m) fun _=>rfl) gn rfl ?_;rintro⟨⟩;refine Wo.nil<|At.tn ?_;rcases ah hF with⟨h10,hF⟩|⟨h10,hF⟩
        ·refine Wk.aD rfl h10<|Wk.seq<|Wk.region<|Wo.o0 (bB (k:=2) bg rfl rfl rfl rfl rfl)<|Wo.o0 (bB (k:=3) pS rfl rfl rfl rfl rfl)<|Wo.nil<|At.tn<|Wk.ret<|At.tr<|At.br ?_;cases hF;exact At.en () rfl sn (ae.U [0,1,2,3,4,6,7,8] rfl rfl)
        ·refine Wk.aC rfl h10<|Wk.skip<|At.tn<|Wk.seq<|Wk.region<|Wo.od (ay (r:=ptr b6 1) rfl (cA _ _)) rfl<|Wo.od (aj (k:=5) az rfl rfl rfl) rfl<|Wo.od (ay (r:=ptr b6 3) rfl (de _ _)) rfl<|Wo.od (aj (k:=5) az rfl rfl rfl) rfl<|Wo.od (aj (k:=1) az rfl rfl rfl) rfl ?_;obtain⟨r5,h26,hF⟩:=J hF;refine Wo.x (bR rfl rfl (fun m hm=>jj n x3 x4 x10 x11 x5 x6  _ h26 m) fun _=>rfl) gn rfl ?_;rintro⟨⟩;refine Wo.od (ai rfl) rfl<|Wo.nil<|At.tn<|Wk.block<|Wk.seq ?_;obtain⟨v4,h27,hF⟩:=J hF;refine Wk.cut (G:=(fun(r:Bool) (g:Unit)=>match r,g with|v4,_=>⟨.normal,[(3,ptr b0 0),(4,ptr b3 0),(5,ptr b4 0),(7,ptr b5 0),(8,ptr b6 0),(9,.int .i64 r5),(29,.bool v4)],[.obj l2 (r0 .busy none),.obj b0 (.cells [.int .i64 x5,.int .i64 x6] .own),.obj b3 (.cells [.int .i64 0] .own),.obj b4 (.cells [.int .i64 0] .own),.obj b5 (.cells [.int .i64 v1] .own),.obj b6 (.cells [.int .i64 v0,.int .i64 x3,.int .i64 x4,.int .i64 x10,.int .i64 x11] .own),.obj b8 (.cells [.slice (some ⟨b7,o1,none⟩) l1.length c0] .own),.ro b7 o1 2 l1.length (l1.map (eP (eI .i64) (eI .i64))),.rd (some ⟨b7,o1,none⟩) c0 2 l1.length (l1.map (eP (eI .i64) (eI .i64)))]⟩) v4) ?_ ?_
         ·clear hF;revert v4;intro r hF;refine Wk.region<|Wo.od (ay (r:=ptr b6 1) rfl (cA _ _)) rfl<|Wo.od (ay (r:=ptr b6 2) rfl (aF _ _)) rfl<|Wo.od (aj (k:=5) bg rfl rfl rfl) rfl<|Wo.od (ay (r:=ptr b0 1) rfl (aF _ _)) rfl<|Wo.od (aj (k:=1) bg rfl rfl rfl) rfl<|Wo.od (ak rfl rfl (fy _ _ _)) rfl<|Wo.od (aa rfl) rfl ?_;rcases ah hF with⟨h0,hF⟩|⟨h0,hF⟩
          ·refine Wo.og (ay (r:=ptr b6 3) rfl (de _ _)) (gg rfl rfl (bO h0)) rfl<|Wo.og (ay (r:=ptr b6 4) rfl (aF _ _)) (gg rfl rfl (bO h0)) rfl<|Wo.og (aj (k:=5) bg rfl rfl rfl) (gg rfl rfl (bO h0)) rfl<|Wo.og (ay (r:=ptr b0 1) rfl (aF _ _)) (gg rfl rfl (bO h0)) rfl<|Wo.og (aj (k:=1) bg rfl rfl rfl) (gg rfl rfl (bO h0)) rfl<|Wo.og (ak rfl rfl (bJ _ _ _)) (gg rfl rfl (bO h0)) rfl<|Wo.od (dG rfl h0 rfl) rfl<|Wo.od (aa rfl) rfl ?_;rcases ah hF with⟨h2,hF⟩|⟨h2,hF⟩
           ·refine Wo.og (aa rfl) (gg rfl rfl (bO h2)) rfl<|Wo.og (ak rfl rfl (bJ _ _ _)) (gg rfl rfl (bO h2)) rfl<|Wo.od (dG rfl h2 rfl) rfl<|Wo.od (ai rfl) rfl<|Wo.nil ?_;cases hF;exact At.en () rfl (sc rfl (sc rfl (sc rfl (sc rfl (sc rfl (sc rfl (sc rfl sn))))))) (ae.U [0,1,2,3,4,5,6,7,8] rfl rfl)
           ·refine Wo.s (gg rfl rfl (bM h2)) rfl<|Wo.s (gg rfl rfl (bM h2)) rfl<|Wo.od (dC rfl h2 rfl) rfl<|Wo.od (ai rfl) rfl<|Wo.nil ?_;cases hF;exact At.en () rfl (sc rfl (sc rfl (sc rfl (sc rfl (sc rfl (sc rfl (sc rfl sn))))))) (ae.U [0,1,2,3,4,5,6,7,8] rfl rfl)
          ·refine Wo.s (gg rfl rfl (bM h0)) rfl<|Wo.s (gg rfl rfl (bM h0)) rfl<|Wo.s (gg rfl rfl (bM h0)) rfl<|Wo.s (gg rfl rfl (bM h0)) rfl<|Wo.s (gg rfl rfl (bM h0)) rfl<|Wo.s (gg rfl rfl (bM h0)) rfl<|Wo.od (dC rfl h0 rfl) rfl<|Wo.od (aa rfl) rfl<|Wo.s (gg rfl rfl rfl) rfl<|Wo.s (gg rfl rfl rfl) rfl ?_;refine Wo.od (yr rfl rfl) rfl<|Wo.od (ai rfl) rfl<|Wo.nil ?_;cases hF;exact At.en () rfl (sc rfl (sc rfl (sc rfl (sc rfl (sc rfl (sc rfl (sc rfl sn))))))) (ae.U [0,1,2,3,4,5,6,7,8] rfl rfl)
         ·clear h27;rintro⟨⟩;refine At.tn ?_;rcases ah hF with⟨h11,hF⟩|⟨h11,hF⟩
          ·refine Wk.aD rfl h11<|Wk.region<|Wo.od (aj (k:=4) bg rfl rfl rfl) rfl<|Wo.od (ak rfl rfl (aB _ _ _)) rfl<|Wo.o0 (bB (k:=4) bg rfl rfl rfl rfl rfl)<|Wo.nil<|At.bn<|At.bn ?_;cases hF;exact At.en () rfl sn (ae.U [0,1,2,3,4,6,7,8] rfl rfl)
          ·refine Wk.aC rfl h11<|Wk.seq ?_;obtain⟨v5,h28,hF⟩:=J hF;refine Wk.cut (G:=(fun(r:Bool) (g:Unit)=>match r,g with|v5,_=>⟨.normal,[(3,ptr b0 0),(4,ptr b3 0),(5,ptr b4 0),(7,ptr b5 0),(8,ptr b6 0),(50,.bool v5)],[.obj l2 (r0 .busy none),.obj b0 (.cells [.int .i64 x5,.int .i64 x6] .own),.obj b3 (.cells [.int .i64 0] .own),.obj b4 (.cells [.int .i64 0] .own),.obj b5 (.cells [.int .i64 v1] .own),.obj b6 (.cells [.int .i64 v0,.int .i64 x3,.int .i64 x4,.int .i64 x10,.int .i64 x11] .own),.obj b8 (.cells [.slice (some ⟨b7,o1,none⟩) l1.length c0] .own),.ro b7 o1 2 l1.length (l1.map (eP (eI .i64) (eI .i64))),.rd (some ⟨b7,o1,none⟩) c0 2 l1.length (l1.map (eP (eI .i64) (eI .i64)))]⟩) v5) ?_ ?_
           ·clear hF;revert v5;intro r hF;refine Wk.region<|Wo.od (ay (r:=ptr b6 1) rfl (cA _ _)) rfl<|Wo.od (ay (r:=ptr b6 2) rfl (aF _ _)) rfl<|Wo.od (aj (k:=5) bg rfl rfl rfl) rfl<|Wo.od (ay (r:=ptr b0 1) rfl (aF _ _)) rfl<|Wo.od (aj (k:=1) bg rfl rfl rfl) rfl<|Wo.od (ak rfl rfl (bJ _ _ _)) rfl<|Wo.od (aa rfl) rfl ?_;rcases ah hF with⟨h1,hF⟩|⟨h1,hF⟩
            ·refine Wo.og (ay (r:=ptr b6 3) rfl (de _ _)) (gg rfl rfl (bO h1)) rfl<|Wo.og (ay (r:=ptr b6 4) rfl (aF _ _)) (gg rfl rfl (bO h1)) rfl<|Wo.og (aj (k:=5) bg rfl rfl rfl) (gg rfl rfl (bO h1)) rfl<|Wo.og (ay (r:=ptr b0 1) rfl (aF _ _)) (gg rfl rfl (bO h1)) rfl<|Wo.og (aj (k:=1) bg rfl rfl rfl) (gg rfl rfl (bO h1)) rfl<|Wo.og (ak rfl rfl (fy _ _ _)) (gg rfl rfl (bO h1)) rfl<|Wo.od (dG rfl h1 rfl) rfl<|Wo.od (aa rfl) rfl ?_;rcases ah hF with⟨h3,hF⟩|⟨h3,hF⟩
             ·refine Wo.og (aa rfl) (gg rfl rfl (bO h3)) rfl<|Wo.og (ak rfl rfl (aS _ _ _)) (gg rfl rfl (bO h3)) rfl<|Wo.od (dG rfl h3 rfl) rfl<|Wo.od (ai rfl) rfl<|Wo.nil ?_;cases hF;exact At.en () rfl (sc rfl (sc rfl (sc rfl (sc rfl (sc rfl (sc rfl sn)))))) (ae.U [0,1,2,3,4,5,6,7,8] rfl rfl)
             ·refine Wo.s (gg rfl rfl (bM h3)) rfl<|Wo.s (gg rfl rfl (bM h3)) rfl<|Wo.od (dC rfl h3 rfl) rfl<|Wo.od (ai rfl) rfl<|Wo.nil ?_;cases hF;exact At.en () rfl (sc rfl (sc rfl (sc rfl (sc rfl (sc rfl (sc rfl sn)))))) (ae.U [0,1,2,3,4,5,6,7,8] rfl rfl)
            ·refine Wo.s (gg rfl rfl (bM h1)) rfl<|Wo.s (gg rfl rfl (bM h1)) rfl<|Wo.s (gg rfl rfl (bM h1)) rfl<|Wo.s (gg rfl rfl (bM h1)) rfl<|Wo.s (gg rfl rfl (bM h1)) rfl<|Wo.s (gg rfl rfl (bM h1)) rfl<|Wo.od (dC rfl h1 rfl) rfl<|Wo.od (aa rfl) rfl<|Wo.s (gg rfl rfl rfl) rfl<|Wo.s (gg rfl rfl rfl) rfl ?_;refine Wo.od (yr rfl rfl) rfl<|Wo.od (ai rfl) rfl<|Wo.nil ?_;cases hF;exact At.en () rfl (sc rfl (sc rfl (sc rfl (sc rfl (sc rfl (sc rfl sn)))))) (ae.U [0,1,2,3,4,5,6,7,8] rfl rfl)
           ·clear h28;rintro⟨⟩;refine At.tn ?_;rcases ah hF with⟨h12,hF⟩|⟨h12,hF⟩
            ·refine Wk.aD rfl h12<|Wk.region<|Wo.od (aj (k:=4) bg rfl rfl rfl) rfl<|Wo.od (ak rfl rfl (aV _ _ _)) rfl<|Wo.o0 (bB (k:=4) bg rfl rfl rfl rfl rfl)<|Wo.nil<|At.bn<|At.bn ?_;cases hF;exact At.en () rfl sn (ae.U [0,1,2,3,4,6,7,8] rfl rfl)
            ·refine Wk.aC rfl h12<|Wk.skip<|At.bn<|At.bn ?_;cases hF;exact At.en () rfl sn (ae.U [0,1,2,3,4,6,7,8] rfl rfl)
       ·clear h14;rcases r2 with _|v8
        ·rintro⟨⟩;refine Wo.od (gV rfl rfl) rfl<|Wo.nil<|At.tn<|Wk.aD rfl rfl<|Wk.ret<|At.br<|At.tr ?_;cases hF;exact At.en () rfl sn (ae.U [0,1,2,3,4] rfl rfl)
        ·rintro⟨⟩;refine Wo.od (gV rfl rfl) rfl<|Wo.nil<|At.tn<|Wk.aC rfl rfl<|Wk.skip<|At.bn<|At.tn<|Wk.region<|Wo.od (ak rfl rfl (aB _ _ _)) rfl<|Wo.od (aa rfl) rfl<|Wo.nil ?_;cases hF;exact At.en () rfl (sc rfl (sc rfl (sc rfl (sc rfl (sc rfl sn))))) (ae.U [0,5,7,1,2,3,4] rfl rfl)
      ·refine Wk.aC rfl h8<|Wk.exit<|At.te ?_;cases hF;exact At.en () rfl sn (ae.U [0,3,4,5,6] rfl rfl)
     ·clear h7;rcases r4 with v2|v3
      ·rintro⟨⟩;refine At.br ?_;cases hF;exact At.ret .nil fun m' hm=>⟨(),(ae.U [0,1,2,3,4] rfl rfl) m' hm⟩
      ·rintro⟨⟩;refine At.be ?_;cases hF;exact At.fin .nil fun m' hm=>⟨(),(ae.U [0,1,2,3,4] rfl rfl) m' hm⟩
    ·clear h19;rcases r1 with v6|v7
     ·rintro⟨⟩
      change Wk _ _ _ _ .ret _ _ _ _
      refine Wk.ret<|At.br<|At.tr ?_;cases hF;exact At.ret (.cell (k:=1) bg rfl rfl rfl (.cell (k:=2) pS rfl rfl rfl .nil)) fun m' hm=>⟨(),rfl,(ae.U [] rfl rfl) m' hm⟩
     ·rintro⟨⟩
      change At _ .normal _ _ _
      refine At.bn<|At.tn<|Wk.seq<|Wk.seq<|Wk.region<|Wo.od (aj (k:=3) bg rfl rfl rfl) rfl<|Wo.od (ak rfl rfl (cj _ _)) rfl<|Wo.nil<|At.tn ?_;rcases ah hF with⟨h13,hF⟩|⟨h13,hF⟩
      ·refine Wk.aD rfl h13<|Wk.seq<|Wk.region<|Wo.o0 (bB (k:=1) bg rfl rfl rfl rfl rfl)<|Wo.o0 (bB (k:=2) pS rfl rfl rfl rfl rfl)<|Wo.nil<|At.tn<|Wk.ret<|At.tr ?_;cases hF;exact At.ret (.cell (k:=1) bg rfl rfl rfl (.cell (k:=2) pS rfl rfl rfl .nil)) fun m' hm=>⟨(),rfl,(ae.U [] rfl rfl) m' hm⟩
      ·refine Wk.aC rfl h13<|Wk.skip<|At.tn<|Wk.seq<|Wk.region<|Wo.o0 (bB (k:=1) bg rfl rfl rfl rfl rfl)<|Wo.o0 (bB (k:=2) pS rfl rfl rfl rfl rfl)<|Wo.nil<|At.tn<|Wk.ret ?_;cases hF;exact At.ret (.cell (k:=1) bg rfl rfl rfl (.cell (k:=2) pS rfl rfl rfl .nil)) fun m' hm=>⟨(),rfl,(ae.U [] rfl rfl) m' hm⟩
theorem EG (n:Nat) (l1:List (Int × Int)) (x5:Int) (x6:Int) (a0:Option Addr) (c0:Nat) (r:Int) (hF:HQ n l1 x5 x6=some r) (m:AMem) (h7:Rd m a0 c0 2 l1.length (l1.map (eP (eI .i64) (eI .i64)))) :
  aR aK 73 [.slice a0 l1.length c0,.agg #[.int .i64 x5,.int .i64 x6]] m (fun v m'=>∃_:Unit,v = .int .i64 r∧Hp m m' []):=by
 unfold HQ at hF;refine aH (m0:=m) (ps:=[.rd a0 c0 2 l1.length (l1.map (eP (eI .i64) (eI .i64)))]) (N:=54) (rs:=[.tmp 4]) rfl Tryz.func73 rfl rfl rfl ((Hp.start m).nC rfl h7)<|Wk.seq<|Wk.region<|Wo.x (cd rfl) gn rfl fun b0=>?_;refine Wo.od (ai rfl) rfl<|Wo.nil<|At.tn<|Wk.seq<|Wk.region<|Wo.od (ai rfl) rfl<|Wo.nil<|At.tn<|Wk.seq<|Wk.seq<|Wk.region<|Wo.od (ai rfl) rfl<|Wo.nil<|At.tn<|Wk.block ?_;obtain⟨r1,h2,hF⟩:=J hF;refine Wk.cut (G:=(fun(r:(Unit) ⊕ (Bool)) (g:Unit)=>match r,g with | .inl _,_=>⟨.ret,[(4,.int .i64 1)],[]⟩ | .inr v1,_=>⟨(.exit 0),[(5,.bool v1)],[]⟩) r1) ?_ ?_
 ·refine Wk.ep (fs':=[(0,.slice a0 l1.length c0),(3,ptr b0 0),(5,.bool false),(6,.int .i64 0)]) (ps':=[.rd a0 c0 2 l1.length (l1.map (eP (eI .i64) (eI .i64))),.obj b0 (.cells [.int .i64 x5,.int .i64 x6] .own)]) (sc rfl (sc rfl (sc rfl (sc rfl sn)))) (ae.U [1,0] rfl rfl) ?_;refine Wk.loop (σ:=Bool × Int) (ρ:=(Unit) ⊕ (Bool)) (γ:=Unit) (δ:=fun _=>Unit) _ (fun(s:Bool × Int) (g:Unit)=>match s,g with | (v3,v0),_=>⟨.normal,[(0,.slice a0 l1.length c0),(3,ptr b0 0),(5,.bool v3),(6,.int .i64 v0)],[.rd a0 c0 2 l1.length (l1.map (eP (eI .i64) (eI .i64))),.obj b0 (.cells [.int .i64 x5,.int .i64 x6] .own)]⟩) (fun(r:(Unit) ⊕ (Bool)) (g:Unit)=>match r,g with | .inl _,_=>⟨.ret,[(4,.int .i64 1)],[]⟩ | .inr v1,_=>⟨(.exit 0),[(5,.bool v1)],[]⟩) ?_ (fun _ _=>rfl) (fun r d=>by rcases r with _|_<;>(intro e; cases e)) _ _ _ h2 ()
  clear hF h2;rintro⟨v3,v0⟩ ⟨⟩ r hF;unfold oK at hF;refine Wk.seq<|Wk.seq<|Wk.region<|Wo.od (aa rfl) rfl<|Wo.od (aa rfl) rfl<|Wo.od (da (k:=0) fP rfl rfl (.inl rfl)) rfl<|Wo.od (ak rfl rfl (aS _ _ _)) rfl<|Wo.nil<|At.tn ?_;rcases ah hF with⟨h3,hF⟩|⟨h3,hF⟩
  ·refine Wk.aD rfl h3<|Wk.skip<|At.tn<|Wk.seq ?_;obtain⟨r0,h8,hF⟩:=J hF;refine Wk.cut (G:=(fun(r:(Unit) ⊕ (Bool)) (g:Unit)=>match r,g with | .inl _,_=>⟨.ret,[(4,.int .i64 1)],[]⟩ | .inr v4,_=>⟨.normal,[(0,.slice a0 l1.length c0),(3,ptr b0 0),(5,.bool v4),(6,.int .i64 v0)],[.rd a0 c0 2 l1.length (l1.map (eP (eI .i64) (eI .i64))),.obj b0 (.cells [.int .i64 x5,.int .i64 x6] .own)]⟩) r0) ?_ ?_
   ·clear hF;revert r0;intro r hF;refine Wk.block<|Wk.seq<|Wk.eH (prs:=[(3,7)]) (by kernel_rfl)<|Wn.od (aa rfl) rfl<|Wn.od (aa rfl) rfl ?_
    obtain⟨h1,hF⟩:=al hF;replace h1:=av h1;refine Wn.dL (k:=0) rfl (bP h1) ?_;rintro b3 o1 rfl;refine Wn.og (bC ct rfl rfl h1) gn rfl ?_;obtain⟨⟨x3,x4⟩,h9,hF⟩:=J hF;refine Wn.od (bI (k:=0) az rfl rfl (aO h9) rfl rfl) rfl<|Wn.od (aa rfl) rfl<|Wn.od (aa rfl) rfl<|Wn.od (ak rfl rfl (aB _ _ _)) rfl ?_;obtain⟨⟨r2,r3⟩,h10,hF⟩:=J hF;refine Wn.c (eT rfl rfl (fun m hm=>jb n l1 (IntKind.wrap .i64 (v0+1)) (some ⟨b3,o1,none⟩) c0 _ h10 m (hm.rd (k:=1) rfl (.rd _ _ _ _ _))) fun _=>rfl) gn rfl ?_;rintro⟨⟩;refine Wn.x (cL z33 rfl) gn rfl fun b4=>?_;refine Wn.x (cL z33 rfl) gn rfl fun b5=>?_;refine Wn.o0 (bB (k:=1) az rfl rfl rfl rfl rfl)<|Wn.o0 (bB (k:=0) az rfl rfl rfl rfl rfl)<|Wn.nil (fun m hm=>eG.all rfl)<|At.tn<|Wk.seq<|Wk.seq<|Wk.region<|Wo.od (aj (k:=1) az rfl rfl rfl) rfl<|Wo.od (aj (k:=0) az rfl rfl rfl) rfl<|Wo.od (aj (k:=4) az rfl rfl rfl) rfl ?_;obtain⟨r4,h11,hF⟩:=J hF;refine Wo.x (bR rfl rfl (fun m hm=>oO n x3 x4 r2 r3 x5 x6  _ h11 m) fun _=>rfl) gn rfl ?_;rintro⟨⟩;refine Wo.nil<|At.tn ?_;rcases ah hF with⟨h4,hF⟩|⟨h4,hF⟩
    ·refine Wk.aD rfl h4<|Wk.seq<|Wk.region<|Wo.od (ai rfl) rfl<|Wo.nil<|At.tn<|Wk.ret<|At.tr<|At.br ?_;cases hF;exact At.en () rfl (sc rfl sn) (ae.U [] rfl rfl)
    ·refine Wk.aC rfl h4<|Wk.skip<|At.tn<|Wk.seq ?_;obtain⟨v2,h12,hF⟩:=J hF;refine Wk.cut (G:=(fun(r:Bool) (g:Unit)=>match r,g with|v2,_=>⟨.normal,[(0,.slice (some ⟨b3,o1,none⟩) l1.length c0),(3,ptr b0 0),(5,.bool v3),(6,.int .i64 v0),(50,.bool v2)],[.ro b3 o1 2 l1.length (l1.map (eP (eI .i64) (eI .i64))),.rd (some ⟨b3,o1,none⟩) c0 2 l1.length (l1.map (eP (eI .i64) (eI .i64))),.obj b0 (.cells [.int .i64 x5,.int .i64 x6] .own)]⟩) v2) ?_ ?_
     ·clear hF;revert v2;intro r hF;refine Wk.eH (prs:=[(15,18),(15,20)]) (by kernel_rfl)<|Wn.od (ay (r:=ptr b4 1) rfl (aF _ _)) rfl<|Wn.od (aj (k:=1) bg rfl rfl rfl) rfl<|Wn.od (ay (r:=ptr b0 1) rfl (aF _ _)) rfl<|Wn.od (aj (k:=4) bg rfl rfl rfl) rfl<|Wn.od (ak rfl rfl (bJ _ _ _)) rfl<|Wn.od (ay (r:=ptr b5 1) rfl (aF _ _)) rfl<|Wn.od (aj (k:=0) bg rfl rfl rfl) rfl<|Wn.od (ay (r:=ptr b0 1) rfl (aF _ _)) rfl<|Wn.od (aj (k:=4) bg rfl rfl rfl) rfl ?_
      refine Wn.od (ak rfl rfl (bJ _ _ _)) rfl<|Wn.od (ak rfl rfl (ye u4)) rfl<|Wn.od (aa rfl) rfl ?_;rcases ah hF with⟨h0,hF⟩|⟨h0,hF⟩
      ·refine Wn.og (aj (k:=1) az rfl rfl rfl) (gg rfl rfl (bO h0)) rfl<|Wn.og (aj (k:=0) az rfl rfl rfl) (gg rfl rfl (bO h0)) rfl<|Wn.og (aj (k:=4) az rfl rfl rfl) (gg rfl rfl (bO h0)) rfl ?_;obtain⟨r5,h13,hF⟩:=J hF;refine Wn.c (eT rfl rfl (fun m hm=>iS n x3 x4 r2 r3 x5 x6  _ h13 m) fun _=>rfl) (gg rfl rfl (bO h0)) rfl ?_;rintro⟨⟩;refine Wn.og (ak rfl rfl (bJ _ _ _)) (gg rfl rfl (bO h0)) rfl<|Wn.og (ay (r:=ptr b5 1) rfl (aF _ _)) (gg rfl rfl (bO h0)) rfl<|Wn.og (aj (k:=0) bg rfl rfl rfl) (gg rfl rfl (bO h0)) rfl<|Wn.og (ay (r:=ptr b4 1) rfl (aF _ _)) (gg rfl rfl (bO h0)) rfl<|Wn.og (aj (k:=1) bg rfl rfl rfl) (gg rfl rfl (bO h0)) rfl<|Wn.og (ak rfl rfl (bJ _ _ _)) (gg rfl rfl (bO h0)) rfl<|Wn.og (ak rfl rfl (GV u4)) (gg rfl rfl (bO h0)) rfl<|Wn.od (dG rfl h0 rfl) rfl<|Wn.nil (fun m hm=>eG.all rfl) ?_;cases hF;exact At.en () rfl (sc rfl (sc rfl (sc rfl (sc rfl (sc rfl sn))))) (ae.U [2,3,4] rfl rfl)
      ·refine Wn.s (gg rfl rfl (bM h0)) rfl<|Wn.s (gg rfl rfl (bM h0)) rfl<|Wn.s (gg rfl rfl (bM h0)) rfl<|Wn.s (gg rfl rfl (bM h0)) rfl<|Wn.s (gg rfl rfl (bM h0)) rfl<|Wn.s (gg rfl rfl (bM h0)) rfl<|Wn.s (gg rfl rfl (bM h0)) rfl<|Wn.s (gg rfl rfl (bM h0)) rfl<|Wn.s (gg rfl rfl (bM h0)) rfl<|Wn.s (gg rfl rfl (bM h0)) rfl ?_;refine Wn.s (gg rfl rfl (bM h0)) rfl<|Wn.od (dC rfl h0 rfl) rfl<|Wn.nil (fun m hm=>eG.all rfl) ?_;cases hF;exact At.en () rfl (sc rfl (sc rfl (sc rfl (sc rfl (sc rfl sn))))) (ae.U [2,3,4] rfl rfl)
     ·clear h12;rintro⟨⟩;refine At.tn ?_;rcases ah hF with⟨h5,hF⟩|⟨h5,hF⟩
      ·refine Wk.aD rfl h5<|Wk.region<|Wo.od (aa rfl) rfl<|Wo.od (gV rfl rfl) rfl<|Wo.od (ai rfl) rfl<|Wo.nil<|At.bn ?_;cases hF;exact At.en () rfl (sc rfl (sc rfl (sc rfl (sc rfl sn)))) (ae.U [1,2] rfl rfl)
      ·refine Wk.aC rfl h5<|Wk.skip<|At.bn ?_;cases hF;exact At.en () rfl (sc rfl (sc rfl (sc rfl (sc rfl sn)))) (ae.U [1,2] rfl rfl)
   ·clear h8;rcases r0 with _|v4
    ·rintro⟨⟩;refine At.tr ?_;cases hF;exact At.en () rfl (sc rfl sn) (ae.U [] rfl rfl)
    ·rintro⟨⟩;refine At.tn<|Wk.region<|Wo.od (aa rfl) rfl<|Wo.od (ak rfl rfl (aB _ _ _)) rfl<|Wo.od (ai rfl) rfl<|Wo.nil ?_;cases hF;exact At.en () rfl (sc rfl (sc rfl (sc rfl (sc rfl sn)))) (ae.U [0,1] rfl rfl)
  ·refine Wk.aC rfl h3<|Wk.exit<|At.te ?_;cases hF;exact At.en () rfl (sc rfl sn) (ae.U [] rfl rfl)
 ·clear h2;rcases r1 with _|v1
  ·rintro⟨⟩;refine At.br<|At.tr ?_;cases hF;exact At.ret (.tmp rfl .nil) fun m' hm=>⟨(),rfl,(ae.U [] rfl rfl) m' hm⟩
  ·rintro⟨⟩;refine At.be<|At.tn<|Wk.seq<|Wk.seq<|Wk.region<|Wo.od (aa rfl) rfl<|Wo.nil<|At.tn ?_;rcases ah hF with⟨h6,hF⟩|⟨h6,hF⟩
   ·refine Wk.aD rfl h6<|Wk.seq<|Wk.region<|Wo.od (ai rfl) rfl<|Wo.nil<|At.tn<|Wk.ret<|At.tr ?_;cases hF;exact At.ret (.tmp rfl .nil) fun m' hm=>⟨(),rfl,(ae.U [] rfl rfl) m' hm⟩
   ·refine Wk.aC rfl h6<|Wk.skip<|At.tn<|Wk.seq<|Wk.region<|Wo.od (ai rfl) rfl<|Wo.nil<|At.tn<|Wk.ret ?_;cases hF;exact At.ret (.tmp rfl .nil) fun m' hm=>⟨(),rfl,(ae.U [] rfl rfl) m' hm⟩
theorem Fk (n:Nat) (l1:List (Int × Int)) (x5:Int) (x6:Int) (a2:Option Addr) (c3:Nat) (r:Int × Int) (hF:Hc n l1 x5 x6=some r) (m:AMem) (h4:Rd m a2 c3 2 l1.length (l1.map (eP (eI .i64) (eI .i64)))) :
  aR aK 38 [.slice a2 l1.length c3,.agg #[.int .i64 x5,.int .i64 x6]] m (fun v m'=>∃_:Unit,v = .tuple #[.int .i64 r.1,.int .i64 r.2]∧Hp m m' []):=by
 unfold Hc at hF;refine aH (m0:=m) (ps:=[.rd a2 c3 2 l1.length (l1.map (eP (eI .i64) (eI .i64)))]) (N:=17) (rs:=[.tmp 4,.tmp 5]) rfl Tryz.func38 rfl rfl rfl ((Hp.start m).nC rfl h4)<|Wk.seq<|Wk.region<|Wo.x (cd rfl) gn rfl fun b7=>?_;refine Wo.od (ai rfl) rfl<|Wo.od (ai rfl) rfl<|Wo.nil<|At.tn<|Wk.seq<|Wk.seq<|Wk.region<|Wo.od (aa rfl) rfl ?_;obtain⟨r9,h8,hF⟩:=J hF;refine Wo.x (bR rfl rfl (fun m hm=>rN n l1 a2 c3 _ h8 m (hm.rd (k:=1) rfl (.rd _ _ _ _ _))) fun _=>rfl) gn rfl ?_;rintro⟨⟩;refine Wo.od (ai rfl) rfl<|Wo.nil<|At.tn<|Wk.seq<|Wk.region<|Wo.od (aa rfl) rfl<|Wo.od (ak rfl rfl (cj _ _)) rfl<|Wo.nil<|At.tn ?_;rcases ah hF with⟨h10,hF⟩|⟨h10,hF⟩
 ·refine Wk.aD rfl h10<|Wk.seq<|Wk.region<|Wo.od (aa rfl) rfl<|Wo.od (ai rfl) rfl<|Wo.od (ai rfl) rfl<|Wo.nil<|At.tn<|Wk.ret<|At.tr ?_;cases hF;exact At.ret (.tmp rfl (.tmp rfl .nil)) fun m' hm=>⟨(),rfl,(ae.U [] rfl rfl) m' hm⟩
 ·refine Wk.aC rfl h10<|Wk.skip<|At.tn<|Wk.seq<|Wk.seq<|Wk.region<|Wo.od (aj (k:=0) az rfl rfl rfl) rfl ?_;obtain⟨r12,h11,hF⟩:=J hF;refine Wo.x (bR rfl rfl (fun m hm=>Bz n x5 x6  _ h11 m) fun _=>rfl) gn rfl ?_;rintro⟨⟩;refine Wo.nil<|At.tn ?_;rcases ah hF with⟨h13,hF⟩|⟨h13,hF⟩
  ·refine Wk.aD rfl h13<|Wk.seq<|Wk.region<|Wo.od (ai rfl) rfl<|Wo.od (ai rfl) rfl<|Wo.nil<|At.tn<|Wk.ret<|At.tr ?_;cases hF;exact At.ret (.tmp rfl (.tmp rfl .nil)) fun m' hm=>⟨(),rfl,(ae.U [] rfl rfl) m' hm⟩
  ·refine Wk.aC rfl h13<|Wk.skip<|At.tn<|Wk.seq<|Wk.region<|Wo.od (aa rfl) rfl<|Wo.od (aj (k:=0) az rfl rfl rfl) rfl ?_;obtain⟨r15,h14,hF⟩:=J hF;refine Wo.x (bR rfl rfl (fun m hm=>EG n l1 x5 x6 a2 c3 _ h14 m (hm.rd (k:=1) rfl (.rd _ _ _ _ _))) fun _=>rfl) gn rfl ?_;rintro⟨⟩;refine Wo.od (ai rfl) rfl<|Wo.od (ai rfl) rfl<|Wo.nil<|At.tn<|Wk.ret ?_;cases hF;exact At.ret (.tmp rfl (.tmp rfl .nil)) fun m' hm=>⟨(),rfl,(ae.U [] rfl rfl) m' hm⟩
theorem GN (n:Nat) (l7:List (Int × Int)) (l1:List (Nat)) (x9:Int) (x3:Int) (x13:Nat) (x14:Bool) (x15:Bool) (x16:Nat) (x17:Nat) (x18:Nat) (x19:Int) (x20:Int) (x21:Nat) (x22:Nat) (x23:Nat) (x24:Int) (x25:Int) (x4:Int) (x10:Int) (x11:Int) (x12:Int) (a6:Option Addr) (c6:Nat) (a0:Option Addr) (c0:Nat) (r:Bool) (hF:F8 n l7 l1 x9 x3 x13 x14 x15 x16 x17 x18 x19 x20 x21 x22 x23 x24 x25 x4 x10 x11 x12=some r) (m:AMem) (h20:Rd m a6 c6 2 l7.length (l7.map (eP (eI .i64) (eI .i64)))) (h21:Rd m a0 c0 1 l1.length (l1.map (eN .u8))) :
  aR aK 8 [.slice a6 l7.length c6,.agg #[.slice a0 l1.length c0,.int .i16 x9,.int .i16 x3,.int .u8 ((x13:Nat):Int),.bool x14,.bool x15],.agg #[.int .u8 ((x16:Nat):Int),.int .u8 ((x17:Nat):Int),.int .u8 ((x18:Nat):Int),.int .i64 x19,.int .i64 x20,.int .u8 ((x21:Nat):Int),.int .u8 ((x22:Nat):Int),.int .u8 ((x23:Nat):Int),.int .i64 x24,.int .i64 x25],.agg #[.int .i64 x4,.int .i64 x10],.agg #[.int .i8 x11,.int .i8 x12]] m (fun v m'=>∃_:Unit,v = .bool r∧Hp m m' []):=by
 unfold F8 at hF;refine aH (m0:=m) (ps:=[.rd a0 c0 1 l1.length (l1.map (eN .u8)),.rd a6 c6 2 l7.length (l7.map (eP (eI .i64) (eI .i64)))]) (N:=179) (rs:=[.tmp 10]) rfl Tryz.func8 rfl rfl rfl (((Hp.start m).nC rfl h20).nC rfl h21)<|Wk.seq<|Wk.region<|Wo.x (cd rfl) gn rfl fun b0=>?_;refine Wo.x (cd rfl) gn rfl fun b3=>?_;refine Wo.x (cd rfl) gn rfl fun b5=>?_;refine Wo.x (cd rfl) gn rfl fun b4=>?_;refine Wo.od (ai rfl) rfl<|Wo.nil<|At.tn<|Wk.seq<|Wk.seq<|Wk.region<|Wo.od (aa rfl) rfl<|Wo.od (aj (k:=3) zh rfl rfl rfl) rfl<|Wo.od (aj (k:=2) Io rfl rfl rfl) rfl ?_;obtain⟨⟨l2,l3,l4,l5⟩,h22,hF⟩:=J hF;refine Wo.x (wR (N:=(fun x:Option Addr × Nat × Nat × Option Addr × Nat × Nat × Option Addr × Nat × Nat × Option Addr × Nat × Nat=>[.rd x.1 x.2.1 2 x.2.2.1 (l2.map (eP (eI .i64) (eI .i64))),.rd x.2.2.2.1 x.2.2.2.2.1 2 x.2.2.2.2.2.1 (l3.map (eP (eI .i64) (eI .i64))),.rd x.2.2.2.2.2.2.1 x.2.2.2.2.2.2.2.1 2 x.2.2.2.2.2.2.2.2.1 (l4.map (eP (eI .i64) (eI .i64))),.rd x.2.2.2.2.2.2.2.2.2.1 x.2.2.2.2.2.2.2.2.2.2.1 2 x.2.2.2.2.2.2.2.2.2.2.2 (l5.map (eP (eI .i64) (eI .i64)))])) rfl rfl (fun m hm=>Ea n l7 l1 x9 x3 x13 x14 x15 x16 x17 x18 x19 x20 x21 x22 x23 x24 x25 a6 c6 a0 c0 _ h22 m hm.nS (hm.rd (k:=5) rfl (.rd _ _ _ _ _)) (hm.uU (k:=5) rfl) (hm.rd (k:=4) rfl (.rd _ _ _ _ _)) (hm.uU (k:=4) rfl)) fun _=>rfl) gn rfl ?_;rintro⟨a2,c2,n0,a3,c3,n1,a4,c4,n2,a5,c5,n4⟩;refine Wo.vT (k:=0) (xs:=l2) rfl ?_;rintro rfl;refine Wo.vT (k:=1) (xs:=l3) rfl ?_;rintro rfl;refine Wo.vT (k:=2) (xs:=l4) rfl ?_;rintro rfl;refine Wo.vT (k:=3) (xs:=l5) rfl ?_;rintro rfl;refine Wo.od (aa rfl) rfl<|Wo.nil<|At.tn<|Wk.block ?_;obtain⟨r1,h10,hF⟩:=J hF;refine Wk.cut (G:=(fun(r:(Unit) ⊕ (Unit)) (g:Unit)=>match r,g with | .inl _,_=>⟨.ret,[(10,.bool false)],[]⟩ | .inr _,_=>⟨(.exit 0),[],[]⟩) r1) ?_ ?_
 ·refine Wk.ep (fs':=[(6,ptr b0 0),(7,ptr b3 0),(8,ptr b5 0),(9,ptr b4 0),(36,.agg #[.slice a2 l2.length c2,.slice a3 l3.length c3,.slice a4 l4.length c4,.slice a5 l5.length c5]),(37,.int .i64 0)]) (ps':=[.obj b0 (.cells [.slice a0 l1.length c0,.int .i16 x9,.int .i16 x3,.int .u8 ((x13:Nat):Int),.bool x14,.bool x15] .own),.rd a0 c0 1 l1.length (l1.map (eN .u8)),.obj b3 (.cells [.int .u8 ((x16:Nat):Int),.int .u8 ((x17:Nat):Int),.int .u8 ((x18:Nat):Int),.int .i64 x19,.int .i64 x20,.int .u8 ((x21:Nat):Int),.int .u8 ((x22:Nat):Int),.int .u8 ((x23:Nat):Int),.int .i64 x24,.int .i64 x25] .own),.obj b5 (.cells [.int .i64 x4,.int .i64 x10] .own),.obj b4 (.cells [.int .i8 x11,.int .i8 x12] .own),.rd a2 c2 2 l2.length (l2.map (eP (eI .i64) (eI .i64))),.rd a3 c3 2 l3.length (l3.map (eP (eI .i64) (eI .i64))),.rd a4 c4 2 l4.length (l4.map (eP (eI .i64) (eI .i64))),.rd a5 c5 2 l5.length (l5.map (eP (eI .i64) (eI .i64)))]) (sc rfl (sc rfl (sc rfl (sc rfl (sc rfl (sc rfl sn)))))) (ae.U [7,8,6,5,4,0,1,2,3] rfl rfl) ?_;refine Wk.loop (σ:=Int) (ρ:=(Unit) ⊕ (Unit)) (γ:=Unit) (δ:=fun _=>Unit) _ (fun(s:Int) (g:Unit)=>match s,g with|v0,_=>⟨.normal,[(6,ptr b0 0),(7,ptr b3 0),(8,ptr b5 0),(9,ptr b4 0),(36,.agg #[.slice a2 l2.length c2,.slice a3 l3.length c3,.slice a4 l4.length c4,.slice a5 l5.length c5]),(37,.int .i64 v0)],[.obj b0 (.cells [.slice a0 l1.length c0,.int .i16 x9,.int .i16 x3,.int .u8 ((x13:Nat):Int),.bool x14,.bool x15] .own),.rd a0 c0 1 l1.length (l1.map (eN .u8)),.obj b3 (.cells [.int .u8 ((x16:Nat):Int),.int .u8 ((x17:Nat):Int),.int .u8 ((x18:Nat):Int),.int .i64 x19,.int .i64 x20,.int .u8 ((x21:Nat):Int),.int .u8 ((x22:Nat):Int),.int .u8 ((x23:Nat):Int),.int .i64 x24,.int .i64 x25] .own),.obj b5 (.cells [.int .i64 x4,.int .i64 x10] .own),.obj b4 (.cells [.int .i8 x11,.int .i8 x12] .own),.rd a2 c2 2 l2.length (l2.map (eP (eI .i64) (eI .i64))),.rd a3 c3 2 l3.length (l3.map (eP (eI .i64) (eI .i64))),.rd a4 c4 2 l4.length (l4.map (eP (eI .i64) (eI .i64))),.rd a5 c5 2 l5.length (l5.map (eP (eI .i64) (eI .i64)))]⟩) (fun(r:(Unit) ⊕ (Unit)) (g:Unit)=>match r,g with | .inl _,_=>⟨.ret,[(10,.bool false)],[]⟩ | .inr _,_=>⟨(.exit 0),[],[]⟩) ?_ (fun _ _=>rfl) (fun r d=>by rcases r with _|_<;>(intro e; cases e)) _ _ _ h10 ()
  clear hF h10;rintro v0 ⟨⟩ r hF;unfold AH at hF;refine Wk.seq<|Wk.region<|Wo.od (ak rfl rfl (aS _ _ _)) rfl<|Wo.nil<|At.tn<|Wk.seq ?_;rcases ah hF with⟨h11,hF⟩|⟨h11,hF⟩
  ·refine Wk.aD rfl h11<|Wk.skip<|At.tn<|Wk.seq<|Wk.block<|Wk.seq<|Wk.region ?_;obtain⟨h23,hF⟩:=al hF;obtain⟨l6,h0,hF⟩:=J hF;refine Wo.x (zT (α:=Option Addr × Nat) (V:=fun g=>match g with | (a1,c1)=>.slice a1 l6.length c1) (N:=fun g=>match g with | (a1,c1)=>[.rd a1 c1 2 l6.length (l6.map (eP (eI .i64) (eI .i64)))]++[.obj b0 (.cells [.slice a0 l1.length c0,.int .i16 x9,.int .i16 x3,.int .u8 ((x13:Nat):Int),.bool x14,.bool x15] .own),.rd a0 c0 1 l1.length (l1.map (eN .u8)),.obj b3 (.cells [.int .u8 ((x16:Nat):Int),.int .u8 ((x17:Nat):Int),.int .u8 ((x18:Nat):Int),.int .i64 x19,.int .i64 x20,.int .u8 ((x21:Nat):Int),.int .u8 ((x22:Nat):Int),.int .u8 ((x23:Nat):Int),.int .i64 x24,.int .i64 x25] .own),.obj b5 (.cells [.int .i64 x4,.int .i64 x10] .own),.obj b4 (.cells [.int .i8 x11,.int .i8 x12] .own),.rd a2 c2 2 l2.length (l2.map (eP (eI .i64) (eI .i64))),.rd a3 c3 2 l3.length (l3.map (eP (eI .i64) (eI .i64))),.rd a4 c4 2 l4.length (l4.map (eP (eI .i64) (eI .i64))),.rd a5 c5 2 l5.length (l5.map (eP (eI .i64) (eI .i64)))]) rfl rfl (fun m hm=>?_)) gn rfl ?_
   ·have hj:=av h23;obtain⟨j,h8⟩:∃j:Nat,(v0:Int)=j:=⟨_,(Int.toNat_of_nonneg hj.1).symm⟩;rw[h8] at h0 hj ⊢;rw[Int.toNat_natCast] at h0 hj;replace hj:=hj.2;clear hF h8
    match j,hj,h0 with
    | 0,_,h0=>cases h0; exact⟨(a2,c2),oU Cs (i:=0) (by decide) (rF cY rfl),(Hp.dup hm (k:=5) rfl)⟩
    | 1,_,h0=>cases h0; exact⟨(a3,c3),oU Cs (i:=1) (by decide) (rF cY rfl),(Hp.dup hm (k:=6) rfl)⟩
    | 2,_,h0=>cases h0; exact⟨(a4,c4),oU Cs (i:=2) (by decide) (rF cY rfl),(Hp.dup hm (k:=7) rfl)⟩
    | 3,_,h0=>cases h0; exact⟨(a5,c5),oU Cs (i:=3) (by decide) (rF cY rfl),(Hp.dup hm (k:=8) rfl)⟩
    | _+4,hj,_=>exact absurd hj (by omega)
   rintro⟨a1,c1⟩;refine Wo.od (ai rfl) rfl<|Wo.nil<|At.tn<|Wk.seq<|Wk.region<|Wo.od (aa rfl) rfl ?_;obtain⟨⟨r3,r4⟩,h24,hF⟩:=J hF;refine Wo.x (bR rfl rfl (fun m hm=>F0 n l6 a1 c1 _ h24 m (hm.rd (k:=0) rfl (.rd _ _ _ _ _))) fun _=>rfl) gn rfl ?_;rintro⟨⟩;refine Wo.od (aa rfl) rfl<|Wo.od (gh rfl rfl) rfl<|Wo.od (gh rfl rfl) rfl<|Wo.od (ai rfl) rfl<|Wo.od (ai rfl) rfl<|Wo.nil<|At.tn<|Wk.seq<|Wk.region<|Wo.od (aa rfl) rfl ?_;obtain⟨⟨r5,r6⟩,h25,hF⟩:=J hF;refine Wo.x (bR rfl rfl (fun m hm=>FE n l6 a1 c1 _ h25 m (hm.rd (k:=0) rfl (.rd _ _ _ _ _))) fun _=>rfl) gn rfl ?_;rintro⟨⟩;refine Wo.od (aa rfl) rfl<|Wo.od (gh rfl rfl) rfl<|Wo.od (gh rfl rfl) rfl<|Wo.od (ai rfl) rfl<|Wo.od (ai rfl) rfl<|Wo.nil<|At.tn<|Wk.seq<|Wk.region<|Wo.od (aa rfl) rfl ?_;obtain⟨⟨r7,r8⟩,h26,hF⟩:=J hF;refine Wo.x (bR rfl rfl (fun m hm=>Ey n l6 a1 c1 _ h26 m (hm.rd (k:=0) rfl (.rd _ _ _ _ _))) fun _=>rfl) gn rfl ?_;rintro⟨⟩;refine Wo.od (aa rfl) rfl<|Wo.od (gh rfl rfl) rfl<|Wo.od (gh rfl rfl) rfl<|Wo.od (ai rfl) rfl<|Wo.od (ai rfl) rfl<|Wo.nil<|At.tn<|Wk.seq<|Wk.region<|Wo.od (aa rfl) rfl ?_;obtain⟨⟨r9,r10⟩,h27,hF⟩:=J hF;refine Wo.x (bR rfl rfl (fun m hm=>F3 n l6 a1 c1 _ h27 m (hm.rd (k:=0) rfl (.rd _ _ _ _ _))) fun _=>rfl) gn rfl ?_;rintro⟨⟩;refine Wo.od (aa rfl) rfl<|Wo.od (gh rfl rfl) rfl<|Wo.od (gh rfl rfl) rfl<|Wo.od (ai rfl) rfl<|Wo.od (ai rfl) rfl<|Wo.nil<|At.tn<|Wk.seq<|Wk.region<|Wo.od (aa rfl) rfl ?_;obtain⟨⟨l8,r11⟩,h28,hF⟩:=J hF;refine Wo.x (bR rfl rfl (fun m hm=>Ff n l6 a1 c1 _ h28 m (hm.rd (k:=0) rfl (.rd _ _ _ _ _))) fun _=>rfl) gn rfl ?_;rintro⟨a7,n8⟩;refine Wo.len (k:=0) (xs:=l8) rfl ?_;rintro rfl;refine Wo.od (aa rfl) rfl<|Wo.od (gh rfl rfl) rfl<|Wo.od (gh rfl rfl) rfl<|Wo.od (ai rfl) rfl<|Wo.od (ai rfl) rfl<|Wo.nil<|At.tn<|Wk.seq<|Wk.region<|Wo.od (aa rfl) rfl ?_;obtain⟨⟨l9,r12⟩,h29,hF⟩:=J hF;refine Wo.x (bR rfl rfl (fun m hm=>Bj n l6 a1 c1 _ h29 m (hm.rd (k:=1) rfl (.rd _ _ _ _ _))) fun _=>rfl) gn rfl ?_;rintro⟨a8,n9⟩;refine Wo.len (k:=0) (xs:=l9) rfl ?_;rintro rfl;refine Wo.od (aa rfl) rfl<|Wo.od (gh rfl rfl) rfl<|Wo.od (gh rfl rfl) rfl<|Wo.od (ai rfl) rfl<|Wo.od (ai rfl) rfl<|Wo.nil<|At.tn<|Wk.seq<|Wk.seq ?_;obtain⟨v3,h30,hF⟩:=J hF;refine Wk.cut (G:=(fun(r:Bool) (g:Unit)=>match r,g with|v3,_=>⟨.normal,[(6,ptr b0 0),(7,ptr b3 0),(8,ptr b5 0),(9,ptr b4 0),(12,.slice a1 l6.length c1),(36,.agg #[.slice a2 l2.length c2,.slice a3 l3.length c3,.slice a4 l4.length c4,.slice a5 l5.length c5]),(37,.int .i64 v0),(98,.bool v3)],[.obj b0 (.cells [.slice a0 l1.length c0,.int .i16 x9,.int .i16 x3,.int .u8 ((x13:Nat):Int),.bool x14,.bool x15] .own),.rd a0 c0 1 l1.length (l1.map (eN .u8)),.obj b3 (.cells [.int .u8 ((x16:Nat):Int),.int .u8 ((x17:Nat):Int),.int .u8 ((x18:Nat):Int),.int .i64 x19,.int .i64 x20,.int .u8 ((x21:Nat):Int),.int .u8 ((x22:Nat):Int),.int .u8 ((x23:Nat):Int),.int .i64 x24,.int .i64 x25] .own),.obj b5 (.cells [.int .i64 x4,.int .i64 x10] .own),.obj b4 (.cells [.int .i8 x11,.int .i8 x12] .own),.rd a1 c1 2 l6.length (l6.map (eP (eI .i64) (eI .i64))),.rd a2 c2 2 l2.length (l2.map (eP (eI .i64) (eI .i64))),.rd a3 c3 2 l3.length (l3.map (eP (eI .i64) (eI .i64))),.rd a4 c4 2 l4.length (l4.map (eP (eI .i64) (eI .i64))),.rd a5 c5 2 l5.length (l5.map (eP (eI .i64) (eI .i64)))]⟩) v3) ?_ ?_
   ·clear hF;revert v3;intro r hF;refine Wk.region<|Wo.od (aa rfl) rfl<|Wo.od (aa rfl) rfl<|Wo.od (ak rfl rfl (cj _ _)) rfl<|Wo.od (aa rfl) rfl ?_;rcases ah hF with⟨h2,hF⟩|⟨h2,hF⟩
    ·refine Wo.s (gg rfl rfl (eU h2)) rfl<|Wo.s (gg rfl rfl (eU h2)) rfl<|Wo.s (gg rfl rfl (eU h2)) rfl<|Wo.od (dG rfl h2 rfl) rfl<|Wo.od (aa rfl) rfl<|Wo.s (gg rfl rfl rfl) rfl<|Wo.s (gg rfl rfl rfl) rfl<|Wo.s (gg rfl rfl rfl) rfl<|Wo.od (iY rfl rfl) rfl<|Wo.od (aa rfl) rfl ?_;refine Wo.s (gg rfl rfl rfl) rfl<|Wo.s (gg rfl rfl rfl) rfl<|Wo.s (gg rfl rfl rfl) rfl<|Wo.od (iY rfl rfl) rfl<|Wo.od (aa rfl) rfl<|Wo.s (gg rfl rfl rfl) rfl<|Wo.s (gg rfl rfl rfl) rfl<|Wo.s (gg rfl rfl rfl) rfl<|Wo.od (iY rfl rfl) rfl<|Wo.od (aa rfl) rfl ?_;refine Wo.s (gg rfl rfl rfl) rfl<|Wo.s (gg rfl rfl rfl) rfl<|Wo.s (gg rfl rfl rfl) rfl<|Wo.s (gg rfl rfl rfl) rfl<|Wo.od (iY rfl rfl) rfl<|Wo.nil ?_;cases hF;exact At.en () rfl (sc rfl (sc rfl (sc rfl (sc rfl (sc rfl (sc rfl (sc rfl (sc rfl sn)))))))) (ae.U [3,4,5,6,7,2,8,9,10,11] rfl rfl)
    ·refine Wo.og (aa rfl) (gg rfl rfl (eX h2)) rfl<|Wo.og (aa rfl) (gg rfl rfl (eX h2)) rfl<|Wo.og (ak rfl rfl (cj _ _)) (gg rfl rfl (eX h2)) rfl<|Wo.od (dC rfl h2 rfl) rfl<|Wo.od (aa rfl) rfl ?_;rcases ah hF with⟨h3,hF⟩|⟨h3,hF⟩
     ·refine Wo.s (gg rfl rfl (eU h3)) rfl<|Wo.s (gg rfl rfl (eU h3)) rfl<|Wo.s (gg rfl rfl (eU h3)) rfl<|Wo.od (dG rfl h3 rfl) rfl<|Wo.od (aa rfl) rfl<|Wo.s (gg rfl rfl rfl) rfl<|Wo.s (gg rfl rfl rfl) rfl<|Wo.s (gg rfl rfl rfl) rfl<|Wo.od (iY rfl rfl) rfl<|Wo.od (aa rfl) rfl ?_;refine Wo.s (gg rfl rfl rfl) rfl<|Wo.s (gg rfl rfl rfl) rfl<|Wo.s (gg rfl rfl rfl) rfl<|Wo.od (iY rfl rfl) rfl<|Wo.od (aa rfl) rfl<|Wo.s (gg rfl rfl rfl) rfl<|Wo.s (gg rfl rfl rfl) rfl<|Wo.s (gg rfl rfl rfl) rfl<|Wo.s (gg rfl rfl rfl) rfl<|Wo.od (iY rfl rfl) rfl ?_;refine Wo.nil ?_;cases hF;exact At.en () rfl (sc rfl (sc rfl (sc rfl (sc rfl (sc rfl (sc rfl (sc rfl (sc rfl sn)))))))) (ae.U [3,4,5,6,7,2,8,9,10,11] rfl rfl)
     ·refine Wo.og (aa rfl) (gg rfl rfl (eX h3)) rfl<|Wo.og (aa rfl) (gg rfl rfl (eX h3)) rfl<|Wo.og (ak rfl rfl (ye u4)) (gg rfl rfl (eX h3)) rfl<|Wo.od (dC rfl h3 rfl) rfl<|Wo.od (aa rfl) rfl ?_;rcases ah hF with⟨h4,hF⟩|⟨h4,hF⟩
      ·refine Wo.s (gg rfl rfl (eU h4)) rfl<|Wo.s (gg rfl rfl (eU h4)) rfl<|Wo.s (gg rfl rfl (eU h4)) rfl<|Wo.od (dG rfl h4 rfl) rfl<|Wo.od (aa rfl) rfl<|Wo.s (gg rfl rfl rfl) rfl<|Wo.s (gg rfl rfl rfl) rfl<|Wo.s (gg rfl rfl rfl) rfl<|Wo.od (iY rfl rfl) rfl<|Wo.od (aa rfl) rfl ?_;refine Wo.s (gg rfl rfl rfl) rfl<|Wo.s (gg rfl rfl rfl) rfl<|Wo.s (gg rfl rfl rfl) rfl<|Wo.s (gg rfl rfl rfl) rfl<|Wo.od (iY rfl rfl) rfl<|Wo.nil ?_;cases hF;exact At.en () rfl (sc rfl (sc rfl (sc rfl (sc rfl (sc rfl (sc rfl (sc rfl (sc rfl sn)))))))) (ae.U [3,4,5,6,7,2,8,9,10,11] rfl rfl)
      ·refine Wo.og (aa rfl) (gg rfl rfl (eX h4)) rfl<|Wo.og (aa rfl) (gg rfl rfl (eX h4)) rfl<|Wo.og (ak rfl rfl (cj _ _)) (gg rfl rfl (eX h4)) rfl<|Wo.od (dC rfl h4 rfl) rfl<|Wo.od (aa rfl) rfl ?_;rcases ah hF with⟨h5,hF⟩|⟨h5,hF⟩
       ·refine Wo.s (gg rfl rfl (eU h5)) rfl<|Wo.s (gg rfl rfl (eU h5)) rfl<|Wo.s (gg rfl rfl (eU h5)) rfl<|Wo.od (dG rfl h5 rfl) rfl<|Wo.od (aa rfl) rfl<|Wo.s (gg rfl rfl rfl) rfl<|Wo.s (gg rfl rfl rfl) rfl<|Wo.s (gg rfl rfl rfl) rfl<|Wo.s (gg rfl rfl rfl) rfl<|Wo.od (iY rfl rfl) rfl ?_;refine Wo.nil ?_;cases hF;exact At.en () rfl (sc rfl (sc rfl (sc rfl (sc rfl (sc rfl (sc rfl (sc rfl (sc rfl sn)))))))) (ae.U [3,4,5,6,7,2,8,9,10,11] rfl rfl)
       ·refine Wo.og (aa rfl) (gg rfl rfl (eX h5)) rfl<|Wo.og (aa rfl) (gg rfl rfl (eX h5)) rfl<|Wo.og (ak rfl rfl (cj _ _)) (gg rfl rfl (eX h5)) rfl<|Wo.od (dC rfl h5 rfl) rfl<|Wo.od (aa rfl) rfl ?_;rcases ah hF with⟨h1,hF⟩|⟨h1,hF⟩
        ·refine Wo.s (gg rfl rfl (eU h1)) rfl<|Wo.s (gg rfl rfl (eU h1)) rfl<|Wo.s (gg rfl rfl (eU h1)) rfl<|Wo.s (gg rfl rfl (eU h1)) rfl<|Wo.od (dG rfl h1 rfl) rfl<|Wo.nil ?_;cases hF;exact At.en () rfl (sc rfl (sc rfl (sc rfl (sc rfl (sc rfl (sc rfl (sc rfl (sc rfl sn)))))))) (ae.U [3,4,5,6,7,2,8,9,10,11] rfl rfl)
        ·refine Wo.og (aa rfl) (gg rfl rfl (eX h1)) rfl<|Wo.og (aa rfl) (gg rfl rfl (eX h1)) rfl ?_;obtain⟨r13,h31,hF⟩:=J hF;refine Wo.x (bR rfl rfl (fun m hm=>F1 n l8 l9 a7 l8.length a8 l9.length _ h31 m (hm.rd (k:=1) rfl (.sl _ _ _ _)) (hm.rd (k:=0) rfl (.sl _ _ _ _))) fun _=>rfl) (gg rfl rfl (eX h1)) rfl ?_;rintro⟨⟩;refine Wo.og (gV rfl rfl) (gg rfl rfl (eX h1)) rfl<|Wo.od (dC rfl h1 rfl) rfl<|Wo.nil ?_;cases hF;exact At.en () rfl (sc rfl (sc rfl (sc rfl (sc rfl (sc rfl (sc rfl (sc rfl (sc rfl sn)))))))) (ae.U [3,4,5,6,7,2,8,9,10,11] rfl rfl)
   ·clear h30;rintro⟨⟩;refine At.tn ?_;rcases ah hF with⟨h12,hF⟩|⟨h12,hF⟩
    ·refine Wk.aD rfl h12<|Wk.seq<|Wk.region<|Wo.od (ai rfl) rfl<|Wo.nil<|At.tn<|Wk.ret<|At.tr<|At.br<|At.tr ?_;cases hF;exact At.en () rfl (sc rfl sn) (ae.U [] rfl rfl)
    ·refine Wk.aC rfl h12<|Wk.skip<|At.tn<|Wk.seq<|Wk.region<|Wo.od (aj (k:=3) az rfl rfl rfl) rfl<|Wo.od (ay (r:=ptr b0 1) rfl (ra _ _)) rfl<|Wo.od (kU (r:=ptr b0 1) rfl rfl (mC C7 (i:=0) (by decide))) rfl<|Wo.od (aj (k:=0) CO rfl rfl rfl) rfl<|Wo.od (nB rfl (nj (by rw[HN]; rfl) u3)) rfl<|Wo.od (kU (r:=ptr b4 0) rfl rfl (mC GI (i:=0) (by decide))) rfl<|Wo.od (aj (k:=4) GW rfl rfl rfl) rfl<|Wo.od (nB rfl (nj (by rw[Iu]; rfl) u3)) rfl<|Wo.od (ak rfl rfl (aB _ _ _)) rfl ?_
     refine Wo.od (ay (r:=ptr b0 1) rfl (ra _ _)) rfl<|Wo.od (kU (r:=ptr b0 2) rfl rfl (mC C7 (i:=1) (by decide))) rfl<|Wo.od (aj (k:=0) CO rfl rfl rfl) rfl<|Wo.od (nB rfl (nj (by rw[HN]; rfl) u3)) rfl<|Wo.od (kU (r:=ptr b4 1) rfl rfl (mC GI (i:=1) (by decide))) rfl<|Wo.od (aj (k:=4) GW rfl rfl rfl) rfl<|Wo.od (nB rfl (nj (by rw[Iu]; rfl) u3)) rfl<|Wo.od (ak rfl rfl (aB _ _ _)) rfl<|Wo.od (dK rfl z33 rfl (dI gb rfl rfl rfl)) rfl<|Wo.od (dK rfl z33 rfl (dI gb rfl rfl rfl)) rfl ?_
     refine Wo.od (dK rfl IB rfl (dI H3 rfl rfl rfl)) rfl<|Wo.x (cL IB rfl) gn rfl fun b6=>?_;refine Wo.o0 (bB (k:=0) G5 rfl rfl rfl rfl rfl)<|Wo.nil<|At.tn<|Wk.seq ?_;obtain⟨r0,h32,hF⟩:=J hF;refine Wk.cut (G:=(fun(r:Int × Int) (g:Unit)=>match r,g with | (v1,v2),_=>⟨.normal,[(6,ptr b0 0),(7,ptr b3 0),(8,ptr b5 0),(9,ptr b4 0),(12,.slice a1 l6.length c1),(25,ptr b6 0),(36,.agg #[.slice a2 l2.length c2,.slice a3 l3.length c3,.slice a4 l4.length c4,.slice a5 l5.length c5]),(37,.int .i64 v0)],[.obj b0 (.cells [.slice a0 l1.length c0,.int .i16 x9,.int .i16 x3,.int .u8 ((x13:Nat):Int),.bool x14,.bool x15] .own),.rd a0 c0 1 l1.length (l1.map (eN .u8)),.obj b3 (.cells [.int .u8 ((x16:Nat):Int),.int .u8 ((x17:Nat):Int),.int .u8 ((x18:Nat):Int),.int .i64 x19,.int .i64 x20,.int .u8 ((x21:Nat):Int),.int .u8 ((x22:Nat):Int),.int .u8 ((x23:Nat):Int),.int .i64 x24,.int .i64 x25] .own),.obj b5 (.cells [.int .i64 x4,.int .i64 x10] .own),.obj b4 (.cells [.int .i8 x11,.int .i8 x12] .own),.rd a1 c1 2 l6.length (l6.map (eP (eI .i64) (eI .i64))),.obj b6 (.cells [.int .i64 x4,.int .i64 x10,.int .i64 (IntKind.wrap .i64 ((IntKind.wrap .i64 x9)+(IntKind.wrap .i64 x11))),.int .i64 (IntKind.wrap .i64 ((IntKind.wrap .i64 x3)+(IntKind.wrap .i64 x12))),.int .i64 v1,.int .i64 v2] .own),.rd a2 c2 2 l2.length (l2.map (eP (eI .i64) (eI .i64))),.rd a3 c3 2 l3.length (l3.map (eP (eI .i64) (eI .i64))),.rd a4 c4 2 l4.length (l4.map (eP (eI .i64) (eI .i64))),.rd a5 c5 2 l5.length (l5.map (eP (eI .i64) (eI .i64)))]⟩) r0) ?_ ?_
     ·clear hF;revert r0;intro r hF;refine Wk.seq<|Wk.region<|Wo.od (aa rfl) rfl<|Wo.od (da (k:=6) fP rfl rfl (.inl rfl)) rfl<|Wo.od (ak rfl rfl (bJ _ _ _)) rfl<|Wo.nil<|At.tn ?_;rcases ah hF with⟨h13,hF⟩|⟨h13,hF⟩
      ·refine Wk.aD rfl h13<|Wk.seq<|Wk.region<|Wo.od (aa rfl) rfl<|Wo.od (kU (r:=ptr b3 0) rfl rfl (mC EE (i:=0) (by decide))) rfl<|Wo.od (ay (r:=ptr b3 1) rfl (zG _ _)) rfl<|Wo.od (aj (k:=3) Ej rfl rfl rfl) rfl<|Wo.od (nB rfl (nj (by rw[u5]; rfl) u3)) rfl<|Wo.od (aa rfl) rfl<|Wo.od (da (k:=6) fP rfl rfl (.inl rfl)) rfl ?_
       obtain⟨h33,hF⟩:=al hF;refine Wo.od (ak rfl rfl (cC _ _ h33)) rfl ?_;obtain⟨h9,hF⟩:=al hF;replace h9:=av h9;refine Wo.dL (k:=6) rfl (bP h9) ?_;rintro b7 o1 rfl;refine Wo.og (bC ct rfl rfl h9) gn rfl ?_;obtain⟨⟨x28,x29⟩,h34,hF⟩:=J hF;refine Wo.od (bI (k:=0) az rfl rfl (aO h34) rfl rfl) rfl<|Wo.x (cL z33 rfl) gn rfl fun b8=>?_;refine Wo.o0 (bB (k:=0) az rfl rfl rfl rfl rfl)<|Wo.nil<|At.tn<|Wk.draw (by kernel_rfl)<|Wo.od (ay (r:=ptr b8 0) rfl (aQ _ _)) rfl<|Wo.od (aj (k:=0) bg rfl rfl rfl) rfl<|Wo.od (ak rfl rfl (je _ _ (by decide))) rfl<|Wo.od (aa rfl) rfl ?_
       obtain⟨h14,hF⟩:=al hF;replace h14:=av h14;refine Wo.og (bC ct rfl rfl h14) gn rfl<|Wo.od (ay (r:=ptr b7 (o1+(0:Int).toNat*2+0)) rfl (aQ _ _)) rfl ?_;obtain⟨⟨x30,x31⟩,h19,hF⟩:=J hF;refine Wo.od (bI (k:=1) bg rfl rfl (aO h19) rfl rfl) rfl<|Wo.od (ak rfl rfl (je _ _ (by decide))) rfl ?_
       obtain⟨y0,h35,hF⟩:=J hF;refine Wo.od (ak rfl rfl ((aB _ _ _).trans (cI h35))) rfl<|Wo.od (ay (r:=ptr b8 1) rfl (aF _ _)) rfl<|Wo.od (aj (k:=0) bg rfl rfl rfl) rfl<|Wo.od (ak rfl rfl (je _ _ (by decide))) rfl<|Wo.od (aa rfl) rfl ?_
       obtain⟨h15,hF⟩:=al hF;replace h15:=av h15;refine Wo.og (bC ct rfl rfl h15) gn rfl<|Wo.od (ay (r:=ptr b7 (o1+(0:Int).toNat*2+1)) rfl (aF _ _)) rfl<|Wo.od (bI (k:=1) bg rfl rfl (aO h19) rfl rfl) rfl<|Wo.od (ak rfl rfl (je _ _ (by decide))) rfl ?_
       obtain⟨y1,h36,hF⟩:=J hF;refine Wo.od (ak rfl rfl ((aB _ _ _).trans (cI h36))) rfl<|Wo.od (dK rfl z33 rfl (dI gb rfl rfl rfl)) rfl<|Wo.od (kU (r:=ptr b6 4) rfl rfl (mC Cb (i:=2) (by decide))) rfl<|Wo.o0 (bB (k:=2) az rfl rfl rfl rfl rfl)<|Wo.nil ?_
       cases hF;exact At.en () rfl (sc rfl (sc rfl (sc rfl (sc rfl (sc rfl (sc rfl (sc rfl (sc rfl sn)))))))) (ae.U [3,4,5,6,7,8,2,9,10,11,12] rfl rfl)
      ·refine Wk.aC rfl h13<|Wk.skip ?_;cases hF;exact At.en () rfl (sc rfl (sc rfl (sc rfl (sc rfl (sc rfl (sc rfl (sc rfl (sc rfl sn)))))))) (ae.U [1,2,3,4,5,6,0,7,8,9,10] rfl rfl)
     ·clear h32;obtain⟨v1,v2⟩:=r0;rintro⟨⟩;refine At.tn<|Wk.seq<|Wk.region<|Wo.od (aj (k:=6) G5 rfl rfl rfl) rfl<|Wo.od (aa rfl) rfl<|Wo.nil<|At.tn<|Wk.block ?_;obtain⟨r2,h16,hF⟩:=J hF;refine Wk.cut (G:=(fun(r:(Unit) ⊕ (Unit)) (g:Unit)=>match r,g with | .inl _,_=>⟨.ret,[(10,.bool false)],[]⟩ | .inr _,_=>⟨(.exit 2),[(6,ptr b0 0),(7,ptr b3 0),(8,ptr b5 0),(9,ptr b4 0),(36,.agg #[.slice a2 l2.length c2,.slice a3 l3.length c3,.slice a4 l4.length c4,.slice a5 l5.length c5]),(37,.int .i64 v0)],[.obj b0 (.cells [.slice a0 l1.length c0,.int .i16 x9,.int .i16 x3,.int .u8 ((x13:Nat):Int),.bool x14,.bool x15] .own),.rd a0 c0 1 l1.length (l1.map (eN .u8)),.obj b3 (.cells [.int .u8 ((x16:Nat):Int),.int .u8 ((x17:Nat):Int),.int .u8 ((x18:Nat):Int),.int .i64 x19,.int .i64 x20,.int .u8 ((x21:Nat):Int),.int .u8 ((x22:Nat):Int),.int .u8 ((x23:Nat):Int),.int .i64 x24,.int .i64 x25] .own),.obj b5 (.cells [.int .i64 x4,.int .i64 x10] .own),.obj b4 (.cells [.int .i8 x11,.int .i8 x12] .own),.rd a2 c2 2 l2.length (l2.map (eP (eI .i64) (eI .i64))),.rd a3 c3 2 l3.length (l3.map (eP (eI .i64) (eI .i64))),.rd a4 c4 2 l4.length (l4.map (eP (eI .i64) (eI .i64))),.rd a5 c5 2 l5.length (l5.map (eP (eI .i64) (eI .i64)))]⟩) r2) ?_ ?_
      ·refine Wk.ep (fs':=[(6,ptr b0 0),(7,ptr b3 0),(8,ptr b5 0),(9,ptr b4 0),(12,.slice a1 l6.length c1),(36,.agg #[.slice a2 l2.length c2,.slice a3 l3.length c3,.slice a4 l4.length c4,.slice a5 l5.length c5]),(37,.int .i64 v0),(152,.agg #[.int .i64 x4,.int .i64 x10,.int .i64 (IntKind.wrap .i64 ((IntKind.wrap .i64 x9)+(IntKind.wrap .i64 x11))),.int .i64 (IntKind.wrap .i64 ((IntKind.wrap .i64 x3)+(IntKind.wrap .i64 x12))),.int .i64 v1,.int .i64 v2]),(153,.int .i64 0)]) (ps':=[.obj b0 (.cells [.slice a0 l1.length c0,.int .i16 x9,.int .i16 x3,.int .u8 ((x13:Nat):Int),.bool x14,.bool x15] .own),.rd a0 c0 1 l1.length (l1.map (eN .u8)),.obj b3 (.cells [.int .u8 ((x16:Nat):Int),.int .u8 ((x17:Nat):Int),.int .u8 ((x18:Nat):Int),.int .i64 x19,.int .i64 x20,.int .u8 ((x21:Nat):Int),.int .u8 ((x22:Nat):Int),.int .u8 ((x23:Nat):Int),.int .i64 x24,.int .i64 x25] .own),.obj b5 (.cells [.int .i64 x4,.int .i64 x10] .own),.obj b4 (.cells [.int .i8 x11,.int .i8 x12] .own),.rd a1 c1 2 l6.length (l6.map (eP (eI .i64) (eI .i64))),.rd a2 c2 2 l2.length (l2.map (eP (eI .i64) (eI .i64))),.rd a3 c3 2 l3.length (l3.map (eP (eI .i64) (eI .i64))),.rd a4 c4 2 l4.length (l4.map (eP (eI .i64) (eI .i64))),.rd a5 c5 2 l5.length (l5.map (eP (eI .i64) (eI .i64)))]) (sc rfl (sc rfl (sc rfl (sc rfl (sc rfl (sc rfl (sc rfl (sc rfl (sc rfl sn))))))))) (ae.U [0,1,2,3,4,5,7,8,9,10] rfl rfl) ?_;refine Wk.loop (σ:=Int) (ρ:=(Unit) ⊕ (Unit)) (γ:=Unit) (δ:=fun _=>Unit) _ (fun(s:Int) (g:Unit)=>match s,g with|v4,_=>⟨.normal,[(6,ptr b0 0),(7,ptr b3 0),(8,ptr b5 0),(9,ptr b4 0),(12,.slice a1 l6.length c1),(36,.agg #[.slice a2 l2.length c2,.slice a3 l3.length c3,.slice a4 l4.length c4,.slice a5 l5.length c5]),(37,.int .i64 v0),(152,.agg #[.int .i64 x4,.int .i64 x10,.int .i64 (IntKind.wrap .i64 ((IntKind.wrap .i64 x9)+(IntKind.wrap .i64 x11))),.int .i64 (IntKind.wrap .i64 ((IntKind.wrap .i64 x3)+(IntKind.wrap .i64 x12))),.int .i64 v1,.int .i64 v2]),(153,.int .i64 v4)],[.obj b0 (.cells [.slice a0 l1.length c0,.int .i16 x9,.int .i16 x3,.int .u8 ((x13:Nat):Int),.bool x14,.bool x15] .own),.rd a0 c0 1 l1.length (l1.map (eN .u8)),.obj b3 (.cells [.int .u8 ((x16:Nat):Int),.int .u8 ((x17:Nat):Int),.int .u8 ((x18:Nat):Int),.int .i64 x19,.int .i64 x20,.int .u8 ((x21:Nat):Int),.int .u8 ((x22:Nat):Int),.int .u8 ((x23:Nat):Int),.int .i64 x24,.int .i64 x25] .own),.obj b5 (.cells [.int .i64 x4,.int .i64 x10] .own),.obj b4 (.cells [.int .i8 x11,.int .i8 x12] .own),.rd a1 c1 2 l6.length (l6.map (eP (eI .i64) (eI .i64))),.rd a2 c2 2 l2.length (l2.map (eP (eI .i64) (eI .i64))),.rd a3 c3 2 l3.length (l3.map (eP (eI .i64) (eI .i64))),.rd a4 c4 2 l4.length (l4.map (eP (eI .i64) (eI .i64))),.rd a5 c5 2 l5.length (l5.map (eP (eI .i64) (eI .i64)))]⟩) (fun(r:(Unit) ⊕ (Unit)) (g:Unit)=>match r,g with | .inl _,_=>⟨.ret,[(10,.bool false)],[]⟩ | .inr _,_=>⟨(.exit 2),[(6,ptr b0 0),(7,ptr b3 0),(8,ptr b5 0),(9,ptr b4 0),(36,.agg #[.slice a2 l2.length c2,.slice a3 l3.length c3,.slice a4 l4.length c4,.slice a5 l5.length c5]),(37,.int .i64 v0)],[.obj b0 (.cells [.slice a0 l1.length c0,.int .i16 x9,.int .i16 x3,.int .u8 ((x13:Nat):Int),.bool x14,.bool x15] .own),.rd a0 c0 1 l1.length (l1.map (eN .u8)),.obj b3 (.cells [.int .u8 ((x16:Nat):Int),.int .u8 ((x17:Nat):Int),.int .u8 ((x18:Nat):Int),.int .i64 x19,.int .i64 x20,.int .u8 ((x21:Nat):Int),.int .u8 ((x22:Nat):Int),.int .u8 ((x23:Nat):Int),.int .i64 x24,.int .i64 x25] .own),.obj b5 (.cells [.int .i64 x4,.int .i64 x10] .own),.obj b4 (.cells [.int .i8 x11,.int .i8 x12] .own),.rd a2 c2 2 l2.length (l2.map (eP (eI .i64) (eI .i64))),.rd a3 c3 2 l3.length (l3.map (eP (eI .i64) (eI .i64))),.rd a4 c4 2 l4.length (l4.map (eP (eI .i64) (eI .i64))),.rd a5 c5 2 l5.length (l5.map (eP (eI .i64) (eI .i64)))]⟩) ?_ (fun _ _=>rfl) (fun r d=>by rcases r with _|_<;>(intro e; cases e)) _ _ _ h16 ()
       clear hF h16;rintro v4 ⟨⟩ r hF;unfold Aa at hF;refine Wk.seq<|Wk.region<|Wo.od (ak rfl rfl (aS _ _ _)) rfl<|Wo.nil<|At.tn<|Wk.seq ?_;rcases ah hF with⟨h17,hF⟩|⟨h17,hF⟩
       ·refine Wk.aD rfl h17<|Wk.skip<|At.tn<|Wk.seq<|Wk.block<|Wk.seq<|Wk.region ?_;obtain⟨h37,hF⟩:=al hF;obtain⟨⟨x26,x27⟩,h6,hF⟩:=J hF;refine Wo.x (zT (α:=Unit) (V:=fun g=>match g with|_=>.agg #[.int .i64 x26,.int .i64 x27]) (N:=fun g=>match g with|_=>[]++[.obj b0 (.cells [.slice a0 l1.length c0,.int .i16 x9,.int .i16 x3,.int .u8 ((x13:Nat):Int),.bool x14,.bool x15] .own),.rd a0 c0 1 l1.length (l1.map (eN .u8)),.obj b3 (.cells [.int .u8 ((x16:Nat):Int),.int .u8 ((x17:Nat):Int),.int .u8 ((x18:Nat):Int),.int .i64 x19,.int .i64 x20,.int .u8 ((x21:Nat):Int),.int .u8 ((x22:Nat):Int),.int .u8 ((x23:Nat):Int),.int .i64 x24,.int .i64 x25] .own),.obj b5 (.cells [.int .i64 x4,.int .i64 x10] .own),.obj b4 (.cells [.int .i8 x11,.int .i8 x12] .own),.rd a1 c1 2 l6.length (l6.map (eP (eI .i64) (eI .i64))),.rd a2 c2 2 l2.length (l2.map (eP (eI .i64) (eI .i64))),.rd a3 c3 2 l3.length (l3.map (eP (eI .i64) (eI .i64))),.rd a4 c4 2 l4.length (l4.map (eP (eI .i64) (eI .i64))),.rd a5 c5 2 l5.length (l5.map (eP (eI .i64) (eI .i64)))]) rfl rfl (fun m hm=>?_)) gn rfl ?_
        ·have hj:=av h37;obtain⟨j,h8⟩:∃j:Nat,(v4:Int)=j:=⟨_,(Int.toNat_of_nonneg hj.1).symm⟩;rw[h8] at h6 hj ⊢;rw[Int.toNat_natCast] at h6 hj;replace hj:=hj.2;clear hF h8
         match j,hj,h6 with
         | 0,_,h6=>cases h6; exact⟨(),oU Cb (i:=0) (by decide) (kN az rfl),hm⟩
         | 1,_,h6=>cases h6; exact⟨(),oU Cb (i:=1) (by decide) (kN az rfl),hm⟩
         | 2,_,h6=>cases h6; exact⟨(),oU Cb (i:=2) (by decide) (kN az rfl),hm⟩
         | _+3,hj,_=>exact absurd hj (by omega)
        rintro⟨⟩;refine Wo.x (cL z33 rfl) gn rfl fun b9=>?_;refine Wo.o0 (bB (k:=0) az rfl rfl rfl rfl rfl)<|Wo.nil<|At.tn<|Wk.seq<|Wk.region<|Wo.od (aa rfl) rfl<|Wo.od (aj (k:=0) az rfl rfl rfl) rfl ?_;obtain⟨⟨r14,r15⟩,h38,hF⟩:=J hF;refine Wo.x (bR rfl rfl (fun m hm=>FU n l6 x26 x27 a1 c1 _ h38 m (hm.rd (k:=6) rfl (.rd _ _ _ _ _))) fun _=>rfl) gn rfl ?_;rintro⟨⟩;refine Wo.od (aa rfl) rfl<|Wo.od (gh rfl rfl) rfl<|Wo.od (gh rfl rfl) rfl<|Wo.od (ai rfl) rfl<|Wo.od (ai rfl) rfl<|Wo.nil<|At.tn<|Wk.seq<|Wk.region<|Wo.od (aa rfl) rfl<|Wo.od (aj (k:=0) az rfl rfl rfl) rfl ?_;obtain⟨⟨r16,r17⟩,h39,hF⟩:=J hF;refine Wo.x (bR rfl rfl (fun m hm=>Fk n l6 x26 x27 a1 c1 _ h39 m (hm.rd (k:=6) rfl (.rd _ _ _ _ _))) fun _=>rfl) gn rfl ?_;rintro⟨⟩;refine Wo.od (aa rfl) rfl<|Wo.od (gh rfl rfl) rfl<|Wo.od (gh rfl rfl) rfl<|Wo.od (ai rfl) rfl<|Wo.od (ai rfl) rfl<|Wo.nil<|At.tn<|Wk.seq ?_;obtain⟨v5,h40,hF⟩:=J hF;refine Wk.cut (G:=(fun(r:Bool) (g:Unit)=>match r,g with|v5,_=>⟨.normal,[(6,ptr b0 0),(7,ptr b3 0),(8,ptr b5 0),(9,ptr b4 0),(12,.slice a1 l6.length c1),(36,.agg #[.slice a2 l2.length c2,.slice a3 l3.length c3,.slice a4 l4.length c4,.slice a5 l5.length c5]),(37,.int .i64 v0),(152,.agg #[.int .i64 x4,.int .i64 x10,.int .i64 (IntKind.wrap .i64 ((IntKind.wrap .i64 x9)+(IntKind.wrap .i64 x11))),.int .i64 (IntKind.wrap .i64 ((IntKind.wrap .i64 x3)+(IntKind.wrap .i64 x12))),.int .i64 v1,.int .i64 v2]),(153,.int .i64 v4),(175,.bool v5)],[.obj b0 (.cells [.slice a0 l1.length c0,.int .i16 x9,.int .i16 x3,.int .u8 ((x13:Nat):Int),.bool x14,.bool x15] .own),.rd a0 c0 1 l1.length (l1.map (eN .u8)),.obj b3 (.cells [.int .u8 ((x16:Nat):Int),.int .u8 ((x17:Nat):Int),.int .u8 ((x18:Nat):Int),.int .i64 x19,.int .i64 x20,.int .u8 ((x21:Nat):Int),.int .u8 ((x22:Nat):Int),.int .u8 ((x23:Nat):Int),.int .i64 x24,.int .i64 x25] .own),.obj b5 (.cells [.int .i64 x4,.int .i64 x10] .own),.obj b4 (.cells [.int .i8 x11,.int .i8 x12] .own),.rd a1 c1 2 l6.length (l6.map (eP (eI .i64) (eI .i64))),.rd a2 c2 2 l2.length (l2.map (eP (eI .i64) (eI .i64))),.rd a3 c3 2 l3.length (l3.map (eP (eI .i64) (eI .i64))),.rd a4 c4 2 l4.length (l4.map (eP (eI .i64) (eI .i64))),.rd a5 c5 2 l5.length (l5.map (eP (eI .i64) (eI .i64)))]⟩) v5) ?_ ?_
        ·clear hF;revert v5;intro r hF;refine Wk.region<|Wo.od (aa rfl) rfl<|Wo.od (aa rfl) rfl<|Wo.od (ak rfl rfl (cj _ _)) rfl<|Wo.od (aa rfl) rfl ?_;rcases ah hF with⟨h7,hF⟩|⟨h7,hF⟩
         ·refine Wo.s (gg rfl rfl (eU h7)) rfl<|Wo.s (gg rfl rfl (eU h7)) rfl<|Wo.s (gg rfl rfl (eU h7)) rfl<|Wo.od (dG rfl h7 rfl) rfl<|Wo.nil ?_;cases hF;exact At.en () rfl (sc rfl (sc rfl (sc rfl (sc rfl (sc rfl (sc rfl (sc rfl (sc rfl (sc rfl (sc rfl sn)))))))))) (ae.U [1,2,3,4,5,6,7,8,9,10] rfl rfl)
         ·refine Wo.og (aa rfl) (gg rfl rfl (eX h7)) rfl<|Wo.og (aa rfl) (gg rfl rfl (eX h7)) rfl<|Wo.og (ak rfl rfl (cj _ _)) (gg rfl rfl (eX h7)) rfl<|Wo.od (dC rfl h7 rfl) rfl<|Wo.nil ?_;cases hF;exact At.en () rfl (sc rfl (sc rfl (sc rfl (sc rfl (sc rfl (sc rfl (sc rfl (sc rfl (sc rfl (sc rfl sn)))))))))) (ae.U [1,2,3,4,5,6,7,8,9,10] rfl rfl)
        ·clear h40;rintro⟨⟩;refine At.tn ?_;rcases ah hF with⟨h18,hF⟩|⟨h18,hF⟩
         ·refine Wk.aD rfl h18<|Wk.seq<|Wk.region<|Wo.od (ai rfl) rfl<|Wo.nil<|At.tn<|Wk.ret<|At.br<|At.tr ?_;cases hF;exact At.en () rfl (sc rfl sn) (ae.U [] rfl rfl)
         ·refine Wk.aC rfl h18<|Wk.skip<|At.bn<|At.tn<|Wk.region<|Wo.od (ak rfl rfl (aB _ _ _)) rfl<|Wo.od (aa rfl) rfl<|Wo.nil ?_;cases hF;exact At.en () rfl (sc rfl (sc rfl (sc rfl (sc rfl (sc rfl (sc rfl (sc rfl (sc rfl (sc rfl sn))))))))) (ae.U [0,1,2,3,4,5,6,7,8,9] rfl rfl)
       ·refine Wk.aC rfl h17<|Wk.exit<|At.te ?_;cases hF;exact At.en () rfl (sc rfl (sc rfl (sc rfl (sc rfl (sc rfl (sc rfl sn)))))) (ae.U [0,1,2,3,4,6,7,8,9] rfl rfl)
      ·clear h16;rcases r2 with _|_
       ·rintro⟨⟩;refine At.br<|At.br<|At.tr ?_;cases hF;exact At.en () rfl (sc rfl sn) (ae.U [] rfl rfl)
       ·rintro⟨⟩;refine At.be<|At.bn<|At.tn<|Wk.region<|Wo.od (ak rfl rfl (aB _ _ _)) rfl<|Wo.od (aa rfl) rfl<|Wo.nil ?_;cases hF;exact At.en () rfl (sc rfl (sc rfl (sc rfl (sc rfl (sc rfl (sc rfl sn)))))) (ae.U [0,1,2,3,4,5,6,7,8] rfl rfl)
  ·refine Wk.aC rfl h11<|Wk.exit<|At.te ?_;cases hF;exact At.en () rfl sn (ae.U [] rfl rfl)
 ·clear h10;rcases r1 with _|_
  ·rintro⟨⟩;refine At.br<|At.tr ?_;cases hF;exact At.ret (.tmp rfl .nil) fun m' hm=>⟨(),rfl,(ae.U [] rfl rfl) m' hm⟩
  ·rintro⟨⟩;refine At.be<|At.tn<|Wk.seq<|Wk.region ?_;obtain⟨r18,h41,hF⟩:=J hF;refine Wo.x (bR rfl rfl (fun m hm=>EV n   _ h41 m) fun _=>rfl) gn rfl ?_;rintro⟨⟩;refine Wo.od (ai rfl) rfl<|Wo.nil<|At.tn<|Wk.ret ?_;have hr:=Option.some.inj hF;subst r;exact At.ret (.tmp rfl .nil) fun m' hm=>⟨(),rfl,(ae.U [] rfl rfl) m' hm⟩
end Go.Proofs.YthmekkhpddehjaaGreat
end

section
namespace Go.Ab
open Go
end Go.Ab
end

section
namespace Go.Ab.W
open Go Go.Ab
section
variable {σ ρ τ : Type}
end
end Go.Ab.W
end

section
namespace Go.Ab.B
open Go Go.Ab Go.Ab.W
section
variable {α β σ ρ : Type}
theorem kA (a b:Option β):br true a b=a:=rfl
theorem dV (a b:Option β):br false a b=b:=rfl
theorem bA (a:Option β):gd true a=a:=rfl
theorem aq (x:α) (f:α→Option β):ob (some x) f=f x:=rfl
theorem aP {p:Prop} [Decidable p] (h:p) (a b:Option β):br (decide p) a b=a:=by rw[decide_eq_true h]; rfl
theorem aU {p:Prop} [Decidable p] (h:¬p) (a b:Option β):br (decide p) a b=b:=by rw[decide_eq_false h]; rfl
theorem F5 (c:Bool) (a b:Option β):br c a b=if c then a else b:=by cases c<;>rfl
theorem nf (c d:Bool):br c (some true) (some d)=some (c || d):=by cases c<;>rfl
theorem dz (c d:Bool):br c (some d) (some false)=some (c && d):=by cases c<;>rfl
theorem tX {p:Prop} [Decidable p] (h:p) (a:Option β):gd (decide p) a=a:=by rw[decide_eq_true h]; rfl
theorem aZ {i n:Nat} (h:i<n):dq (i:Int) n=true:=decide_eq_true ⟨Int.natCast_nonneg i,by simpa using h⟩
theorem aA {x:Int} (h1 : -9223372036854775808≤x) (h2:x<9223372036854775808):IntKind.wrap .i64 x=x:=wrap_i64 x h1 (by omega)
theorem aX {i:Nat} (h:i<4611686018427387904):IntKind.wrap .i64 ((i:Int)+1)=((i+1:Nat):Int):=by rw[aA (by omega) (by omega)]; rfl
theorem bH {body:σ→Option (σ ⊕ ρ)} {n:Nat} {s s':σ} (h:body s=some (.inl s')):dn body (n+1) s=dn body n s':=by simp only[dn,h]
theorem dM {body:σ→Option (σ ⊕ ρ)} {n:Nat} {s:σ} {r:ρ} (h:body s=some (.inr r)):dn body (n+1) s=some r:=by simp only[dn,h]
end
theorem cN {u v B C:Int} (_:0≤B) (hu1 : -B≤u) (hu2:u≤B) (hv1 : -C≤v) (hv2:v≤C) : -(B*C)≤u*v∧u*v≤B*C:=by
 have hC:0≤C:=by omega
 have h1:0≤(B-u)*(C-v):=Int.mul_nonneg (by omega) (by omega)
 have h2:0≤(B+u)*(C+v):=Int.mul_nonneg (by omega) (by omega)
 have h3:0≤(B-u)*(C+v):=Int.mul_nonneg (by omega) (by omega)
 have h4:0≤(B+u)*(C-v):=Int.mul_nonneg (by omega) (by omega)
 have e1:(B-u)*(C-v)=B*C-B*v-u*C+u*v:=by rw[Int.sub_mul,Int.mul_sub,Int.mul_sub]; omega
 have e2:(B+u)*(C+v)=B*C+B*v+u*C+u*v:=by rw[Int.add_mul,Int.mul_add,Int.mul_add]; omega
 have e3:(B-u)*(C+v)=B*C+B*v-u*C-u*v:=by rw[Int.sub_mul,Int.mul_add,Int.mul_add]; omega
 have e4:(B+u)*(C-v)=B*C-B*v+u*C-u*v:=by rw[Int.add_mul,Int.mul_sub,Int.mul_sub]; omega
 omega
theorem qM {α:Type} [DecidableEq α]:∀{l m:List α},l.Nodup→(∀a ∈ l,a ∈ m)→l.length≤m.length
 | [],_,_,_=>Nat.zero_le _
 | a::l,m,hn,hs=>by
  obtain⟨n1,n2⟩:=List.nodup_cons.1 hn;have ha:=hs a List.mem_cons_self;have:=qM (l:=l) (m:=m.erase a) n2 fun b hb=>by
   have hne:b≠a:=fun e=>n1 (e ▸ hb);exact(List.mem_erase_of_ne hne).2 (hs b (List.mem_cons_of_mem _ hb))
  rw[List.length_erase_of_mem ha] at this;have hp:0<m.length:=List.length_pos_of_mem ha;rw[List.length_cons]; omega
end Go.Ab.B
end

section
namespace Jd
abbrev P2:=Rat × Rat
def tn (a b c:P2):Rat:=(b.1-a.1)*(c.2-a.2)-(b.2-a.2)*(c.1-a.1)
def af (α β γ:Rat) (x:P2):Rat:=α*x.1+β*x.2+γ
def Sep (a b p q:P2):Prop:=∃α β γ,0<af α β γ a∧0<af α β γ b∧af α β γ p<0∧af α β γ q<0
theorem Sep.ab {a b p q:P2} (h:Sep a b p q):Sep b a p q:=let ⟨α,β,γ,h1,h2,h3,h4⟩:=h; ⟨α,β,γ,h2,h1,h3,h4⟩
theorem Sep.pq {a b p q:P2} (h:Sep a b p q):Sep a b q p:=let ⟨α,β,γ,h1,h2,h3,h4⟩:=h; ⟨α,β,γ,h1,h2,h4,h3⟩
theorem bN {x y:Rat} (hx:0≤x) (hy:0≤y):0≤x*y:=Rat.mul_nonneg hx hy
theorem bt {x y:Rat} (hx:0<x) (hy:0<y):0<x*y:=Rat.mul_pos hx hy
theorem dc {x y:Rat} (hx:0≤x) (hy:y≤0):x*y≤0:=by
 have:=bN hx (show(0:Rat)≤-y by grind)
 grind
theorem dW {x y:Rat} (hx:0<x) (hy:y<0):x*y<0:=by
 have:=bt hx (show(0:Rat) < -y by grind)
 grind
theorem gE (a b p:P2):tn b a p = -tn a b p:=by unfold tn; grind
def we (a b p:P2):Int:=if a.2≤p.2∧p.2<b.2∧0<tn a b p then 1 else if b.2≤p.2∧p.2<a.2∧tn a b p<0 then -1 else 0
theorem gx {a b p:P2} (h1:a.2≤p.2) (h2:p.2<b.2):we a b p=if 0<tn a b p then 1 else 0:=by
 unfold we
 by_cases h:0<tn a b p
 ·rw[if_pos ⟨h1,h2,h⟩,if_pos h]
 ·rw[if_neg (fun e=>h e.2.2),if_neg (fun e=>by grind),if_neg h]
theorem dJ {a b p:P2} (h1:¬(a.2≤p.2∧p.2<b.2)) (h2:¬(b.2≤p.2∧p.2<a.2)):we a b p=0:=by
 unfold we;rw[if_neg (fun e=>h1 ⟨e.1,e.2.1⟩),if_neg (fun e=>h2 ⟨e.1,e.2.1⟩)]
theorem iE (a b p:P2):we b a p = -we a b p:=by
 have h:=gE a b p;unfold we
 by_cases h1:a.2≤p.2∧p.2<b.2∧0<tn a b p
 ·rw[if_pos h1,if_neg (fun e=>by grind),if_pos ⟨h1.1,h1.2.1,by grind⟩]
 ·by_cases h2:b.2≤p.2∧p.2<a.2∧tn a b p<0
  ·rw[if_neg h1,if_pos h2,if_pos ⟨h2.1,h2.2.1,by grind⟩]; rfl
  ·rw[if_neg h1,if_neg h2,if_neg (fun e=>h2 ⟨e.1,e.2.1,by grind⟩),if_neg (fun e=>h1 ⟨e.1,e.2.1,by grind⟩)]; rfl
def fz (p q v:P2):Int:=if p.2<v.2∧v.2≤q.2∧tn p q v<0 then 1 else 0
theorem gI {p q v:P2} (h:¬(p.2<v.2∧v.2≤q.2)):fz p q v=0:=if_neg fun e=>h ⟨e.1,e.2.1⟩
theorem oB {p q v:P2} (h1:p.2<v.2) (h2:v.2≤q.2):fz p q v=if tn p q v<0 then 1 else 0:=by
 unfold fz
 by_cases h:tn p q v<0
 ·rw[if_pos ⟨h1,h2,h⟩,if_pos h]
 ·rw[if_neg (fun e=>h e.2.2),if_neg h]
section
variable {a b p q : P2}
theorem Fv (α β γ:Rat):tn p q b*af α β γ a-tn p q a*af α β γ b=tn a b p*af α β γ q-tn a b q*af α β γ p:=by
 unfold tn af; grind
theorem Bi (h:Sep a b p q) (h1:0≤tn p q b) (h2:tn p q a≤0) (h3:0≤tn a b p) (h4:tn a b q≤0) (h5:0<tn a b p∨tn a b q<0∨0<tn p q b∨tn p q a<0):False:=by
 obtain⟨α,β,γ,g1,g2,g3,g4⟩:=h;have e:=Fv (a:=a) (b:=b) (p:=p) (q:=q) α β γ;generalize af α β γ a=A at *;generalize af α β γ b=B at *;generalize af α β γ p=C at *;generalize af α β γ q=D at *;generalize tn p q b=Tb at *;generalize tn p q a=Ta at *;generalize tn a b p=Up at *;generalize tn a b q=Uq at *;have k1:0≤Tb*A:=bN h1 (by grind)
 have k2:0≤(-Ta)*B:=bN (by grind) (by grind)
 have k3:0≤Up*(-D):=bN h3 (by grind)
 have k4:0≤(-Uq)*(-C):=bN (by grind) (by grind)
 rcases h5 with h|h|h|h
 ·have:0<Up*(-D):=bt h (by grind)
  grind
 ·have:0<(-Uq)*(-C):=bt (by grind) (by grind)
  grind
 ·have:0<Tb*A:=bt h g1
  grind
 ·have:0<(-Ta)*B:=bt (by grind) g2
  grind
theorem xc (h:Sep a b p q) (h1:tn p q b≤0) (h2:0≤tn p q a) (h3:tn a b p≤0) (h4:0≤tn a b q) (h5:tn a b p<0∨0<tn a b q∨tn p q b<0∨0<tn p q a):False:=by
 have e1:=gE a b p;have e2:=gE a b q;exact Bi h.ab (a:=b) (b:=a) h2 h1 (by grind) (by grind) (by grind)
theorem i1:(p.2-a.2)*tn p q b+(b.2-p.2)*tn p q a = -((q.2-p.2)*tn a b p):=by unfold tn; grind
theorem i2:(b.2-p.2)*tn a b q+(q.2-b.2)*tn a b p = -((b.2-a.2)*tn p q b):=by unfold tn; grind
theorem i3:(q.2-a.2)*tn p q b+(b.2-q.2)*tn p q a = -((q.2-p.2)*tn a b q):=by unfold tn; grind
theorem i4:(a.2-p.2)*tn a b q+(q.2-a.2)*tn a b p = -((b.2-a.2)*tn p q a):=by unfold tn; grind
theorem i5:tn a b q-tn a b p=tn p q a-tn p q b:=by unfold tn; grind
theorem FJ (h:Sep a b p q) (h1:a.2≤p.2) (h2:p.2<b.2) (h3:b.2≤q.2):0<tn a b p↔tn p q b<0:=by
 have e1:=i1 (a:=a) (b:=b) (p:=p) (q:=q);have e2:=i2 (a:=a) (b:=b) (p:=p) (q:=q);have K:=Bi h;have K':=xc h;clear h;generalize tn p q b=Tb at *;generalize tn p q a=Ta at *;generalize tn a b p=Up at *;generalize tn a b q=Uq at *;have d1:0≤p.2-a.2:=by grind
 have d2:0<b.2-p.2:=by grind
 have d3:0<q.2-p.2:=by grind
 have d4:0≤q.2-b.2:=by grind
 have d5:0<b.2-a.2:=by grind
 generalize p.2-a.2=x1 at *;generalize b.2-p.2=x2 at *;generalize q.2-p.2=x3 at *;generalize q.2-b.2=x4 at *;generalize b.2-a.2=x5 at *;constructor
 ·intro hu;refine Decidable.byContradiction fun ht=>?_;have ht:0≤Tb:=by grind
  have m1:=bN d1 ht;have m2:=bt d3 hu;have ta:Ta≤0:=by
   refine Decidable.byContradiction fun hc=>?_;have:=bt d2 (show 0<Ta by grind)
   grind
  have uq:Uq≤0:=by
   refine Decidable.byContradiction fun hc=>?_;have m3:=bt d2 (show 0<Uq by grind)
   have m4:=bN d4 (show 0≤Up by grind)
   have m5:=bN (show 0≤x5 by grind) ht
   grind
  exact K ht ta (by grind) uq (.inl hu)
 ·intro ht;refine Decidable.byContradiction fun hu=>?_;have hu:Up≤0:=by grind
  have m1:=dc d1 (show Tb≤0 by grind)
  have m2:=dc (show 0≤x3 by grind) hu
  have ta:0≤Ta:=by
   refine Decidable.byContradiction fun hc=>?_;have:=dW d2 (show Ta<0 by grind)
   grind
  have uq:0≤Uq:=by
   refine Decidable.byContradiction fun hc=>?_;have m3:=dW d2 (show Uq<0 by grind)
   have m4:=dc d4 hu;have m5:=dW d5 ht
   grind
  exact K' (by grind) ta hu uq (.inr (.inr (.inl ht)))
theorem FM (h:Sep a b p q) (h1:p.2<a.2) (h2:a.2≤q.2) (h3:q.2<b.2):0<tn a b q↔tn p q a<0:=by
 have e3:=i3 (a:=a) (b:=b) (p:=p) (q:=q);have e4:=i4 (a:=a) (b:=b) (p:=p) (q:=q);have K:=Bi h;have K':=xc h;clear h;generalize tn p q b=Tb at *;generalize tn p q a=Ta at *;generalize tn a b p=Up at *;generalize tn a b q=Uq at *;have d1:0≤q.2-a.2:=by grind
 have d2:0<b.2-q.2:=by grind
 have d3:0<q.2-p.2:=by grind
 have d4:0<a.2-p.2:=by grind
 have d5:0<b.2-a.2:=by grind
 generalize q.2-a.2=x1 at *;generalize b.2-q.2=x2 at *;generalize q.2-p.2=x3 at *;generalize a.2-p.2=x4 at *;generalize b.2-a.2=x5 at *;constructor
 ·intro hu;refine Decidable.byContradiction fun ht=>?_;have ht:0≤Ta:=by grind
  have m1:=bN (show 0≤x2 by grind) ht
  have m2:=bt d3 hu;have tb:Tb≤0:=by
   refine Decidable.byContradiction fun hc=>?_;have:=bN d1 (show 0≤Tb by grind)
   grind
  have up:Up≤0:=by
   refine Decidable.byContradiction fun hc=>?_;have m3:=bt d4 hu;have m4:=bN d1 (show 0≤Up by grind)
   have m5:=bN (show 0≤x5 by grind) ht
   grind
  exact K' tb ht up (by grind) (.inr (.inl hu))
 ·intro ht;refine Decidable.byContradiction fun hu=>?_;have hu:Uq≤0:=by grind
  have m2:=dc (show 0≤x3 by grind) hu
  have m1:=dW d2 ht;have tb:0≤Tb:=by
   refine Decidable.byContradiction fun hc=>?_;have:=dc d1 (show Tb≤0 by grind)
   grind
  have up:0≤Up:=by
   refine Decidable.byContradiction fun hc=>?_;have m3:=dc (show 0≤x4 by grind) hu
   have m4:=dc d1 (show Up≤0 by grind)
   have m5:=dW d5 ht
   grind
  exact K tb (by grind) up hu (.inr (.inr (.inr ht)))
theorem Hg (h:Sep a b p q) (h1:a.2≤p.2) (h2:p.2≤q.2) (h3:q.2<b.2):0<tn a b p↔0<tn a b q:=by
 have e1:=i1 (a:=a) (b:=b) (p:=p) (q:=q);have e3:=i3 (a:=a) (b:=b) (p:=p) (q:=q);have e5:=i5 (a:=a) (b:=b) (p:=p) (q:=q);have K:=Bi h;have K':=xc h;clear h;generalize tn p q b=Tb at *;generalize tn p q a=Ta at *;generalize tn a b p=Up at *;generalize tn a b q=Uq at *;have d1:0≤p.2-a.2:=by grind
 have d2:0<b.2-p.2:=by grind
 have d3:0≤q.2-p.2:=by grind
 have d4:0≤q.2-a.2:=by grind
 have d5:0<b.2-q.2:=by grind
 generalize p.2-a.2=x1 at *;generalize b.2-p.2=x2 at *;generalize q.2-p.2=x3 at *;generalize q.2-a.2=x4 at *;generalize b.2-q.2=x5 at *;constructor
 ·intro hu;refine Decidable.byContradiction fun hc=>?_;have hc:Uq≤0:=by grind
  have ta:Ta≤0:=by
   refine Decidable.byContradiction fun ht=>?_;have m1:=bN d1 (show 0≤Tb by grind)
   have m2:=bt d2 (show 0<Ta by grind)
   have m3:=bN d3 (show 0≤Up by grind)
   grind
  have tb:0≤Tb:=by
   refine Decidable.byContradiction fun ht=>?_;have m1:=dc d4 (show Tb≤0 by grind)
   have m2:=dW d5 (show Ta<0 by grind)
   have m3:=dc d3 hc
   grind
  exact K tb ta (by grind) hc (.inl hu)
 ·intro hu;refine Decidable.byContradiction fun hc=>?_;have hc:Up≤0:=by grind
  have ta:0≤Ta:=by
   refine Decidable.byContradiction fun ht=>?_;have m1:=dc d1 (show Tb≤0 by grind)
   have m2:=dW d2 (show Ta<0 by grind)
   have m3:=dc d3 hc
   grind
  have tb:Tb≤0:=by
   refine Decidable.byContradiction fun ht=>?_;have m1:=bN d4 (show 0≤Tb by grind)
   have m2:=bt d5 (show 0<Ta by grind)
   have m3:=bN d3 (show 0≤Uq by grind)
   grind
  exact K' tb ta hc (by grind) (.inr (.inl hu))
theorem CZ (h:Sep a b p q) (h0:a.2≤b.2) (h1:p.2<a.2) (h2:b.2≤q.2):tn p q a<0↔tn p q b<0:=by
 have e2:=i2 (a:=a) (b:=b) (p:=p) (q:=q);have e4:=i4 (a:=a) (b:=b) (p:=p) (q:=q);have e5:=i5 (a:=a) (b:=b) (p:=p) (q:=q);have K:=Bi h;have K':=xc h;clear h;generalize tn p q b=Tb at *;generalize tn p q a=Ta at *;generalize tn a b p=Up at *;generalize tn a b q=Uq at *;have d1:0<b.2-p.2:=by grind
 have d2:0≤q.2-b.2:=by grind
 have d3:0≤b.2-a.2:=by grind
 have d4:0<a.2-p.2:=by grind
 have d5:0≤q.2-a.2:=by grind
 generalize b.2-p.2=x1 at *;generalize q.2-b.2=x2 at *;generalize b.2-a.2=x3 at *;generalize a.2-p.2=x4 at *;generalize q.2-a.2=x5 at *;constructor
 ·intro ha;refine Decidable.byContradiction fun hb=>?_;have hb:0≤Tb:=by grind
  have uq:Uq≤0:=by
   refine Decidable.byContradiction fun hc=>?_;have m1:=bt d1 (show 0<Uq by grind)
   have m2:=bN d2 (show 0≤Up by grind)
   have m3:=bN d3 hb
   grind
  have up:0≤Up:=by
   refine Decidable.byContradiction fun hc=>?_;have m1:=dW d4 (show Uq<0 by grind)
   have m2:=dc d5 (show Up≤0 by grind)
   have m3:=dc d3 (show Ta≤0 by grind)
   grind
  exact K hb (by grind) up uq (.inr (.inr (.inr ha)))
 ·intro hb;refine Decidable.byContradiction fun ha=>?_;have ha:0≤Ta:=by grind
  have uq:0≤Uq:=by
   refine Decidable.byContradiction fun hc=>?_;have m1:=dW d1 (show Uq<0 by grind)
   have m2:=dc d2 (show Up≤0 by grind)
   have m3:=dc d3 (show Tb≤0 by grind)
   grind
  have up:Up≤0:=by
   refine Decidable.byContradiction fun hc=>?_;have m1:=bt d4 (show 0<Uq by grind)
   have m2:=bN d5 (show 0≤Up by grind)
   have m3:=bN d3 ha
   grind
  exact K' (by grind) ha up uq (.inr (.inr (.inl hb)))
theorem jN {c d:Prop} [Decidable c] [Decidable d] (h:c↔d):(if c then(1:Int) else 0)=if d then 1 else 0:=by
 by_cases hc:c
 ·rw[if_pos hc,if_pos (h.1 hc)]
 ·rw[if_neg hc,if_neg (fun e=>hc (h.2 e))]
theorem AI (h:Sep a b p q) (hpq:p.2≤q.2) (hab:a.2≤b.2):we a b p-we a b q=fz p q b-fz p q a:=by
 by_cases ha:a.2≤p.2
 ·rw[gI (v:=a) (by grind)]
  by_cases hb:b.2≤p.2
  ·rw[gI (v:=b) (by grind),dJ (by grind) (by grind),dJ (by grind) (by grind)]
  ·by_cases hb2:b.2≤q.2
   ·rw[oB (by grind) hb2,gx ha (by grind),dJ (p:=q) (by grind) (by grind),jN (FJ h ha (by grind) hb2)]
   ·rw[gI (v:=b) (by grind),gx ha (by grind),gx (p:=q) (by grind) (by grind),jN (Hg h ha hpq (by grind))]
    omega
 ·rw[dJ (p:=p) (by grind) (by grind)]
  by_cases ha2:a.2≤q.2
  ·rw[oB (v:=a) (by grind) ha2]
   by_cases hb2:b.2≤q.2
   ·rw[oB (v:=b) (by grind) hb2,dJ (p:=q) (by grind) (by grind),jN (CZ h hab (by grind) hb2)]
    omega
   ·rw[gI (v:=b) (by grind),gx (p:=q) ha2 (by grind),jN (FM h (by grind) ha2 (by grind))]
  ·rw[gI (v:=a) (by grind),gI (v:=b) (by grind),dJ (p:=q) (by grind) (by grind)]
theorem AV (h:Sep a b p q) (hpq:p.2≤q.2):we a b p-we a b q=fz p q b-fz p q a:=by
 by_cases hab:a.2≤b.2
 ·exact AI h hpq hab
 ·have:=AI h.ab hpq (by grind)
  rw[iE b a p,iE b a q];omega
end
def bX:Nat→(Nat→Int)→Int
 | 0,_=>0
 | n+1,f=>bX n f+f n
theorem dD {n:Nat} {f g:Nat→Int} (h:∀i,i<n→f i=g i):bX n f=bX n g:=by
 induction n with
 | zero=>rfl
 | succ n ih=>simp only[bX]; rw[ih fun i hi=>h i (by omega),h n (by omega)]
theorem sR (n:Nat) (f g:Nat→Int):bX n (fun i=>f i-g i)=bX n f-bX n g:=by
 induction n with
 | zero=>rfl
 | succ n ih=>simp only[bX]; rw[ih]; omega
theorem nZ (n:Nat) (f:Nat→Int):bX n (fun i=>f (i+1)-f i)=f n-f 0:=by
 induction n with
 | zero=>simp[bX]
 | succ n ih=>simp only[bX]; rw[ih]; omega
theorem gZ {n:Nat} {f:Nat→Int} (h:∀i,i<n→f i=0):bX n f=0:=by
 induction n with
 | zero=>rfl
 | succ n ih=>simp only[bX]; rw[ih fun i hi=>h i (by omega),h n (by omega)]; rfl
theorem A8 {n k:Nat} {f:Nat→Int} (hk:k<n) (h:∀i,i<n→i≠k→f i=0):bX n f=f k:=by
 induction n with
 | zero=>omega
 | succ n ih =>
  simp only[bX]
  by_cases e:k=n
  ·subst e;rw[gZ fun i hi=>h i (by omega) (by omega)]; omega
  ·rw[ih (by omega) (fun i hi hn=>h i (by omega) hn),h n (by omega) (by omega)]; omega
def cv (u w:P2) (t:Rat):P2:=(u.1+t*(w.1-u.1),u.2+t*(w.2-u.2))
def sm (p d:P2) (x:Rat):P2:=(p.1+x*d.1,p.2+x*d.2)
def cr (u w d:P2):Rat:=(w.1-u.1)*d.2-(w.2-u.2)*d.1
def dt (u w x:P2):Rat:=(w.1-u.1)*(x.1-w.1)+(w.2-u.2)*(x.2-w.2)
theorem dP {A B:Rat} (ha:0<A) (hb:0<B):∃k:Rat,0<k∧k<A∧k<B:=by
 by_cases h:A≤B
 ·exact⟨A/2,by grind,by grind,by grind⟩
 ·exact⟨B/2,by grind,by grind,by grind⟩
theorem ku {a b p q:P2} (α β γ:Rat) (h1:0≤af α β γ a) (h2:0≤af α β γ b) (h3:af α β γ p<0) (h4:af α β γ q<0):Sep a b p q:=by
 obtain⟨k,k1,k2,k3⟩:=dP (show 0 < -af α β γ p by grind) (show 0 < -af α β γ q by grind)
 refine⟨α,β,γ+k,?_,?_,?_,?_⟩<;>(unfold af at *; grind)
theorem C5 {a b u w:P2} (h:Sep a b u w) {t s:Rat} (t0:0≤t) (t1:t≤1) (s0:0≤s) (s1:s≤1):Sep a b (cv u w t) (cv u w s):=by
 obtain⟨α,β,γ,h1,h2,h3,h4⟩:=h;have key:∀t:Rat,0≤t→t≤1→af α β γ (cv u w t)<0:=by
  intro t t0 t1;have e:af α β γ (cv u w t)=(1-t)*af α β γ u+t*af α β γ w:=by unfold af cv; grind
  rw[e];have m1:=dc (show 0≤1-t by grind) (show af α β γ u≤0 by grind)
  have m2:=dc t0 (show af α β γ w≤0 by grind)
  by_cases ht:0<t
  ·have:=dW ht h4
   grind
  ·have:=dW (show 0<1-t by grind) h3
   grind
 exact⟨α,β,γ,h1,h2,key t t0 t1,key s s0 s1⟩
theorem sq_pos {x:Rat} (h:x≠0):0<x*x:=by
 by_cases hx:0<x
 ·exact bt hx hx
 ·have:=bt (show 0 < -x by grind) (show 0 < -x by grind)
  grind
theorem xb (x:Rat):0≤x*x:=by
 by_cases hx:0≤x
 ·exact bN hx hx
 ·have:=bN (show 0≤-x by grind) (show 0≤-x by grind)
  grind
theorem rJ {u w:P2} (h:u≠w):0<(w.1-u.1)*(w.1-u.1)+(w.2-u.2)*(w.2-u.2):=by
 have n1:=xb (w.1-u.1);have n2:=xb (w.2-u.2)
 by_cases h1:w.1-u.1=0
 ·have h2:w.2-u.2≠0:=fun e=>h (Prod.ext (by grind) (by grind))
  have:=sq_pos h2
  grind
 ·have:=sq_pos h1
  grind
theorem zN {u w x:P2} (hne:u≠w) (hc:tn u w x≠0∨0<dt u w x) {t s:Rat} (t1:t<1) (s1:s<1):Sep w x (cv u w t) (cv u w s):=by
 have e:∀t:Rat,af (-(x.2-w.2)) (x.1-w.1) ((x.2-w.2)*w.1-(x.1-w.1)*w.2) (cv u w t)=(1-t)*tn u w x:=fun t=>by unfold af cv tn; grind
 have f:∀t:Rat,af (x.2-w.2) (-(x.1-w.1)) (-((x.2-w.2)*w.1-(x.1-w.1)*w.2)) (cv u w t) = -((1-t)*tn u w x):=fun t=>by unfold af cv tn; grind
 have g:∀t:Rat,af (w.1-u.1) (w.2-u.2) (-((w.1-u.1)*w.1+(w.2-u.2)*w.2)) (cv u w t) = -((1-t)*((w.1-u.1)*(w.1-u.1)+(w.2-u.2)*(w.2-u.2))):=fun t=>by unfold af cv; grind
 by_cases h0:tn u w x=0
 ·have hd:0<dt u w x:=hc.resolve_left fun h=>h h0;have hl:=rJ hne;refine ku (w.1-u.1) (w.2-u.2) (-((w.1-u.1)*w.1+(w.2-u.2)*w.2)) ?_ ?_ ?_ ?_
  ·unfold af; grind
  ·unfold dt at hd; unfold af; grind
  ·rw[g]; have:=bt (show 0<1-t by grind) hl; grind
  ·rw[g]; have:=bt (show 0<1-s by grind) hl; grind
 ·by_cases hp:0<tn u w x
  ·refine ku (x.2-w.2) (-(x.1-w.1)) (-((x.2-w.2)*w.1-(x.1-w.1)*w.2)) ?_ ?_ ?_ ?_
   ·unfold af; grind
   ·unfold af; grind
   ·rw[f]; have:=bt (show 0<1-t by grind) hp; grind
   ·rw[f]; have:=bt (show 0<1-s by grind) hp; grind
  ·have hm:tn u w x<0:=by grind
   refine ku (-(x.2-w.2)) (x.1-w.1) ((x.2-w.2)*w.1-(x.1-w.1)*w.2) ?_ ?_ ?_ ?_
   ·unfold af; grind
   ·unfold af; grind
   ·rw[e]; exact dW (show 0<1-t by grind) hm
   ·rw[e]; exact dW (show 0<1-s by grind) hm
theorem Bf {x u w:P2} (hc:tn x u w≠0∨0<dt x u w) {t s:Rat} (t0:0<t) (s0:0<s):Sep x u (cv u w t) (cv u w s):=by
 have e:∀t:Rat,af (-(u.2-x.2)) (u.1-x.1) ((u.2-x.2)*x.1-(u.1-x.1)*x.2) (cv u w t)=t*tn x u w:=fun t=>by unfold af cv tn; grind
 have f:∀t:Rat,af (u.2-x.2) (-(u.1-x.1)) (-((u.2-x.2)*x.1-(u.1-x.1)*x.2)) (cv u w t) = -(t*tn x u w):=fun t=>by unfold af cv tn; grind
 have g:∀t:Rat,af (-(u.1-x.1)) (-(u.2-x.2)) ((u.1-x.1)*u.1+(u.2-x.2)*u.2) (cv u w t) = -(t*dt x u w):=fun t=>by unfold af cv dt; grind
 by_cases h0:tn x u w=0
 ·have hd:0<dt x u w:=hc.resolve_left fun h=>h h0;have n1:=xb (u.1-x.1);have n2:=xb (u.2-x.2);refine ku (-(u.1-x.1)) (-(u.2-x.2)) ((u.1-x.1)*u.1+(u.2-x.2)*u.2) ?_ ?_ ?_ ?_
  ·unfold af; grind
  ·unfold af; grind
  ·rw[g]; have:=bt t0 hd; grind
  ·rw[g]; have:=bt s0 hd; grind
 ·by_cases hp:0<tn x u w
  ·refine ku (u.2-x.2) (-(u.1-x.1)) (-((u.2-x.2)*x.1-(u.1-x.1)*x.2)) ?_ ?_ ?_ ?_
   ·unfold af; grind
   ·unfold af; grind
   ·rw[f]; have:=bt t0 hp; grind
   ·rw[f]; have:=bt s0 hp; grind
  ·have hm:tn x u w<0:=by grind
   refine ku (-(u.2-x.2)) (u.1-x.1) ((u.2-x.2)*x.1-(u.1-x.1)*x.2) ?_ ?_ ?_ ?_
   ·unfold af; grind
   ·unfold af; grind
   ·rw[e]; exact dW t0 hm
   ·rw[e]; exact dW s0 hm
def Ev (P:Rat→Rat→Prop):Prop:=∃e:Rat,0<e∧∀x y,0<x→x≤e→0<y→y≤e→P x y
theorem Ev.and {P Q:Rat→Rat→Prop} (h:Ev P) (g:Ev Q):Ev fun x y=>P x y∧Q x y:=by
 obtain⟨e,e0,h⟩:=h;obtain⟨f,f0,g⟩:=g
 by_cases hl:e≤f
 ·exact⟨e,e0,fun x y a b c d=>⟨h x y a b c d,g x y a (by grind) c (by grind)⟩⟩
 ·exact⟨f,f0,fun x y a b c d=>⟨h x y a (by grind) c (by grind),g x y a b c d⟩⟩
theorem Ev.mono {P Q:Rat→Rat→Prop} (h:Ev P) (g:∀x y,0<x→0<y→P x y→Q x y):Ev Q :=
 let ⟨e,e0,h⟩:=h
 ⟨e,e0,fun x y a b c d=>g x y a c (h x y a b c d)⟩
theorem Ev.of {P:Rat→Rat→Prop} (h:∀x y,0<x→0<y→P x y):Ev P:=⟨1,by grind,fun x y a _ c _=>h x y a c⟩
theorem Ev.all {P:Nat→Rat→Rat→Prop}:∀{n:Nat},(∀i,i<n→Ev (P i))→Ev fun x y=>∀i,i<n→P i x y
 | 0,_=>Ev.of fun _ _ _ _ i hi=>by omega
 | n+1,h=>by
  have h1:=Ev.all (P:=P) (n:=n) fun i hi=>h i (by omega)
  refine(h1.and (h n (by omega))).mono fun x y _ _ g i hi=>?_
  by_cases e:i=n
  ·subst e; exact g.2
  ·exact g.1 i (by omega)
theorem rV {A:Rat} (h:A<0) (B:Rat):∃e:Rat,0<e∧∀x,0<x→x≤e→A+x*B<0:=by
 by_cases hb:B≤0
 ·exact⟨1,by grind,fun x hx _=>by have:=dc (show 0≤x by grind) hb; grind⟩
 ·have hb0:B≠0:=by grind
  have hi:B*B⁻¹=1:=Rat.mul_inv_cancel B hb0;have e1:(-A/2*B⁻¹)*B = -A/2:=by grind
  have hpos:0 < -A/2*B⁻¹:=by
   refine Decidable.byContradiction fun hc=>?_;have:=bN (show 0≤-(-A/2*B⁻¹) by grind) (show 0≤B by grind)
   grind
  refine⟨-A/2*B⁻¹,hpos,fun x hx hl=>?_⟩;have:=bN (show 0≤-A/2*B⁻¹-x by grind) (show 0≤B by grind)
  grind
theorem rU {a b p q:P2} (h:Sep a b p q) (d d':P2):Ev fun x y=>Sep a b (sm p d x) (sm q d' y):=by
 obtain⟨α,β,γ,h1,h2,h3,h4⟩:=h;obtain⟨e,e0,he⟩:=rV h3 (α*d.1+β*d.2);obtain⟨f,f0,hf⟩:=rV h4 (α*d'.1+β*d'.2);have k1:∀x,af α β γ (sm p d x)=af α β γ p+x*(α*d.1+β*d.2):=fun x=>by unfold af sm; grind
 have k2:∀x,af α β γ (sm q d' x)=af α β γ q+x*(α*d'.1+β*d'.2):=fun x=>by unfold af sm; grind
 obtain⟨g,g0,ge,gf⟩:=dP e0 f0;exact⟨g,g0,fun x y x0 xg y0 yg=>⟨α,β,γ,h1,h2,by rw[k1]; exact he x x0 (by grind),by rw[k2]; exact hf y y0 (by grind)⟩⟩
structure Simple (n:Nat) (v:Nat→P2):Prop where
 n3:2<n
 cl:v n=v 0
 cl1:v (n+1)=v 1
 ne:∀i,i<n→v i≠v (i+1)
 iN:∀i,i<n→tn (v i) (v (i+1)) (v (i+2))≠0∨0<dt (v i) (v (i+1)) (v (i+2))
 sep:∀i j,i<n→j<n→i≠j→j≠i+1→i≠j+1→¬(i=0∧j+1=n)→¬(j=0∧i+1=n)→Sep (v i) (v (i+1)) (v j) (v (j+1))
def W (n:Nat) (v:Nat→P2) (p:P2):Int:=bX n fun i=>we (v i) (v (i+1)) p
section
variable {n : Nat} {v : Nat → P2}
theorem vH (hv:v n=v 0) (p q:P2):W n v p-W n v q=bX n fun i=>(we (v i) (v (i+1)) p-we (v i) (v (i+1)) q)-(fz p q (v (i+1))-fz p q (v i)):=by
 have h1:=sR n (fun i=>we (v i) (v (i+1)) p-we (v i) (v (i+1)) q) (fun i=>fz p q (v (i+1))-fz p q (v i));have h2:=nZ n fun i=>fz p q (v i);have h3:=sR n (fun i=>we (v i) (v (i+1)) p) fun i=>we (v i) (v (i+1)) q;rw[hv] at h2;rw[h1,h2,h3];unfold W; omega
theorem vj (hv:v n=v 0) {p q:P2} (h:∀i,i<n→Sep (v i) (v (i+1)) p q):W n v p=W n v q:=by
 by_cases hl:p.2≤q.2
 ·have:=vH hv p q;rw[gZ fun i hi=>by rw[AV (h i hi) hl]; omega] at this
  omega
 ·have:=vH hv q p;rw[gZ fun i hi=>by rw[AV (h i hi).pq (by grind)]; omega] at this
  omega
theorem xA (hv:v n=v 0) {k:Nat} (hk:k<n) {p q:P2} (hl:p.2≤q.2) (h:∀i,i<n→i≠k→Sep (v i) (v (i+1)) p q) :
  W n v p-W n v q=(we (v k) (v (k+1)) p-we (v k) (v (k+1)) q)-(fz p q (v (k+1))-fz p q (v k)):=by
 rw[vH hv p q];exact A8 hk fun i hi hn=>by rw[AV (h i hi hn) hl]; omega
theorem Simple.off (S:Simple n v) {i j:Nat} (hi:i<n) (hj:j<n) (hij:i≠j) {t s:Rat} (t0:0≤t) (t1:t≤1) (s0:0≤s) (s1:s≤1)
  (hn:j=i+1∨(i+1=n∧j=0)→t<1∧s<1) (hp:i=j+1∨(j+1=n∧i=0)→0<t∧0<s):Sep (v j) (v (j+1)) (cv (v i) (v (i+1)) t) (cv (v i) (v (i+1)) s):=by
 have hn3:=S.n3
 by_cases h1:j=i+1∨(i+1=n∧j=0)
 ·obtain⟨a,b⟩:=hn h1;have e:v j=v (i+1)∧v (j+1)=v (i+2):=by
   rcases h1 with rfl|⟨h,rfl⟩
   ·exact⟨rfl,rfl⟩
   ·have:i+2=n+1:=by omega
    rw[this,S.cl1,h,S.cl]; exact⟨rfl,rfl⟩
  rw[e.1,e.2];exact zN (S.ne i hi) (S.iN i hi) a b
 ·by_cases h2:i=j+1∨(j+1=n∧i=0)
  ·obtain⟨a,b⟩:=hp h2;have e:v (j+1)=v i∧v (j+2)=v (i+1):=by
    rcases h2 with rfl|⟨h,rfl⟩
    ·exact⟨rfl,rfl⟩
    ·have:j+2=n+1:=by omega
     rw[this,S.cl1,h,S.cl]; exact⟨rfl,rfl⟩
   have:=S.iN j hj;rw[e.1,e.2] at this;rw[e.1];exact Bf this a b
  ·exact C5 (S.sep j i hj hi (by omega) (by omega) (by omega) (by omega) (by omega)) t0 t1 s0 s1
theorem jU (u w d:P2) (t x:Rat):tn u w (sm (cv u w t) d x)=x*cr u w d:=by unfold tn sm cv cr; grind
theorem ew {u w p q:P2} {σ:Rat} (h1:0 < σ*tn u w p) (h2:0 < σ*tn u w q):Sep u w p q:=by
 refine ku (σ*(w.2-u.2)) (-(σ*(w.1-u.1))) (-(σ*((w.2-u.2)*u.1-(w.1-u.1)*u.2))) ?_ ?_ ?_ ?_
 ·unfold af; grind
 ·unfold af; grind
 ·unfold tn at h1; unfold af; grind
 ·unfold tn at h2; unfold af; grind
theorem Simple.beside (S:Simple n v) {σ:Rat} {i:Nat} (hi:i<n) {t s:Rat} (t0:0<t) (t1:t<1) (s0:0<s) (s1:s<1) {d d':P2} (h:0 < σ*cr (v i) (v (i+1)) d) (h':0 < σ*cr (v i) (v (i+1)) d') :
  Ev fun x y=>W n v (sm (cv (v i) (v (i+1)) t) d x)=W n v (sm (cv (v i) (v (i+1)) s) d' y):=by
 have hE:Ev fun x y=>∀j,j<n→Sep (v j) (v (j+1)) (sm (cv (v i) (v (i+1)) t) d x) (sm (cv (v i) (v (i+1)) s) d' y):=by
  refine Ev.all fun j hj=>?_
  by_cases e:i=j
  ·subst e;refine Ev.of fun x y hx hy=>ew (σ:=σ) ?_ ?_
   ·rw[jU]; have:=bt hx h; grind
   ·rw[jU]; have:=bt hy h'; grind
  ·exact rU (S.off hi hj e (by grind) (by grind) (by grind) (by grind) (fun _=>⟨t1,s1⟩) (fun _=>⟨t0,s0⟩)) d d'
 exact hE.mono fun x y _ _ h=>vj S.cl h
def HS (n:Nat) (v:Nat→P2) (σ:Rat) (i:Nat) (L:Int):Prop:=∀t d,0<t→t<1→0 < σ*cr (v i) (v (i+1)) d→∃e:Rat,0<e∧∀x,0<x→x≤e→W n v (sm (cv (v i) (v (i+1)) t) d x)=L
theorem Simple.hs (S:Simple n v) {σ:Rat} (hσ:σ≠0) {i:Nat} (hi:i<n):∃L,HS n v σ i L:=by
 have hl:=rJ (S.ne i hi)
 let d0:P2:=(-(σ*((v (i+1)).2-(v i).2)),σ*((v (i+1)).1-(v i).1))
 have h0:0 < σ*cr (v i) (v (i+1)) d0:=by
  have:=bt (sq_pos hσ) hl;have e:σ*cr (v i) (v (i+1)) d0=σ*σ*(((v (i+1)).1-(v i).1)*((v (i+1)).1-(v i).1)+((v (i+1)).2-(v i).2)*((v (i+1)).2-(v i).2)):=by
   show σ*(((v (i+1)).1-(v i).1)*(σ*((v (i+1)).1-(v i).1))-((v (i+1)).2-(v i).2)*(-(σ*((v (i+1)).2-(v i).2))))=_
   grind
  rw[e]; exact this
 obtain⟨e,e0,he⟩:=S.beside (σ:=σ) hi (t:=1/2) (s:=1/2) (by grind) (by grind) (by grind) (by grind) h0 h0
 refine⟨W n v (sm (cv (v i) (v (i+1)) (1/2)) d0 e),fun t d t0 t1 hd=>?_⟩;obtain⟨f,f0,hf⟩:=S.beside (σ:=σ) hi (t:=t) (s:=1/2) t0 t1 (by grind) (by grind) hd h0
 obtain⟨g,g0,ge,gf⟩:=dP e0 f0;refine⟨f,f0,fun x x0 x1=>?_⟩;rw[hf x g x0 x1 g0 (by grind),he g e g0 (by grind) e0 (by grind)]
theorem HS.inj {σ:Rat} {i:Nat} {L L':Int} (h:HS n v σ i L) (h':HS n v σ i L') (hd:∃d,0 < σ*cr (v i) (v (i+1)) d):L=L':=by
 obtain⟨d,hd⟩:=hd;obtain⟨e,e0,he⟩:=h (1/2) d (by grind) (by grind) hd
 obtain⟨f,f0,hf⟩:=h' (1/2) d (by grind) (by grind) hd
 obtain⟨g,g0,ge,gf⟩:=dP e0 f0;rw[←he g g0 (by grind),hf g g0 (by grind)]
theorem Simple.Bg (S:Simple n v) {i:Nat} (hi:i<n) {L R:Int} (hL:HS n v 1 i L) (hR:HS n v (-1) i R):L=R+1:=by
 have hne:=S.ne i hi;have eoff:∀d d':P2,Ev fun x y=>∀j,j<n→j≠i→Sep (v j) (v (j+1)) (sm (cv (v i) (v (i+1)) (1/2)) d x) (sm (cv (v i) (v (i+1)) (1/2)) d' y):=fun d d' =>
  Ev.all (P:=fun j x y=>j≠i→Sep (v j) (v (j+1)) (sm (cv (v i) (v (i+1)) (1/2)) d x) (sm (cv (v i) (v (i+1)) (1/2)) d' y)) fun j hj=>by
   by_cases e:j=i
   ·exact Ev.of fun _ _ _ _ h=>absurd e h
   ·exact(rU (S.off hi hj (Ne.symm e) (t:=1/2) (s:=1/2) (by grind) (by grind) (by grind) (by grind) (fun _=>⟨by grind,by grind⟩) (fun _=>⟨by grind,by grind⟩)) d d').mono fun x y _ _ h _=>h
 have pick:∀d d':P2,0<cr (v i) (v (i+1)) d→0 < -cr (v i) (v (i+1)) d'→∃x:Rat,0<x∧W n v (sm (cv (v i) (v (i+1)) (1/2)) d x)=L∧W n v (sm (cv (v i) (v (i+1)) (1/2)) d' x)=R ∧
   (∀j,j<n→j≠i→Sep (v j) (v (j+1)) (sm (cv (v i) (v (i+1)) (1/2)) d x) (sm (cv (v i) (v (i+1)) (1/2)) d' x))∧∀B:Rat,B<0→True:=by
  intro d d' hd hd';obtain⟨e,e0,he⟩:=hL (1/2) d (by grind) (by grind) (by grind)
  obtain⟨f,f0,hf⟩:=hR (1/2) d' (by grind) (by grind) (by grind)
  obtain⟨g,g0,hg⟩:=eoff d d';obtain⟨k,k0,ke,kf⟩:=dP e0 f0;obtain⟨m,m0,mk,mg⟩:=dP k0 g0;exact⟨m,m0,he m m0 (by grind),hf m m0 (by grind),hg m m m0 (by grind) m0 (by grind),fun _ _=>trivial⟩
 generalize hu:v i=u at *;generalize hw:v (i+1)=w at *
 by_cases h0:w.2=u.2
 ·
  have h1:w.1≠u.1:=fun e=>hne (Prod.ext e.symm h0.symm)
  by_cases hp:u.1<w.1
  ·obtain⟨x,x0,xL,xR,xs,_⟩:=pick (0,1) (0,-1) (by unfold cr; grind) (by unfold cr; grind)
   have k:=xA S.cl hi (p:=sm (cv u w (1/2)) (0,-1) x) (q:=sm (cv u w (1/2)) (0,1) x) (by unfold sm; grind) fun j hj hn=>(xs j hj hn).pq
   rw[hu,hw,dJ (by unfold sm cv; grind) (by unfold sm cv; grind),dJ (by unfold sm cv; grind) (by unfold sm cv; grind),oB (v:=w) (by unfold sm cv; grind) (by unfold sm cv; grind),oB (v:=u) (by unfold sm cv; grind) (by unfold sm cv; grind)] at k
   have t1:tn (sm (cv u w (1/2)) (0,-1) x) (sm (cv u w (1/2)) (0,1) x) w = -(x*(w.1-u.1)):=by unfold tn sm cv; grind
   have t2:tn (sm (cv u w (1/2)) (0,-1) x) (sm (cv u w (1/2)) (0,1) x) u=x*(w.1-u.1):=by unfold tn sm cv; grind
   have m:=bt x0 (show 0<w.1-u.1 by grind)
   rw[t1,t2,if_pos (by grind),if_neg (by grind),xL,xR] at k
   omega
  ·obtain⟨x,x0,xL,xR,xs,_⟩:=pick (0,-1) (0,1) (by unfold cr; grind) (by unfold cr; grind)
   have k:=xA S.cl hi (p:=sm (cv u w (1/2)) (0,-1) x) (q:=sm (cv u w (1/2)) (0,1) x) (by unfold sm; grind) fun j hj hn=>xs j hj hn
   rw[hu,hw,dJ (by unfold sm cv; grind) (by unfold sm cv; grind),dJ (by unfold sm cv; grind) (by unfold sm cv; grind),oB (v:=w) (by unfold sm cv; grind) (by unfold sm cv; grind),oB (v:=u) (by unfold sm cv; grind) (by unfold sm cv; grind)] at k
   have t1:tn (sm (cv u w (1/2)) (0,-1) x) (sm (cv u w (1/2)) (0,1) x) w=x*(u.1-w.1):=by unfold tn sm cv; grind
   have t2:tn (sm (cv u w (1/2)) (0,-1) x) (sm (cv u w (1/2)) (0,1) x) u = -(x*(u.1-w.1)):=by unfold tn sm cv; grind
   have m:=bt x0 (show 0<u.1-w.1 by grind)
   rw[t1,t2,if_neg (by grind),if_pos (by grind),xL,xR] at k
   omega
 ·by_cases hp:u.2<w.2
  ·obtain⟨x,x0,xL,xR,xs,_⟩:=pick (-1,0) (1,0) (by unfold cr; grind) (by unfold cr; grind)
   have k:=xA S.cl hi (p:=sm (cv u w (1/2)) (-1,0) x) (q:=sm (cv u w (1/2)) (1,0) x) (by unfold sm; grind) fun j hj hn=>xs j hj hn
   rw[gI (by unfold sm; grind),gI (by unfold sm; grind),hu,hw,gx (by unfold sm cv; grind) (by unfold sm cv; grind),gx (by unfold sm cv; grind) (by unfold sm cv; grind),jU,jU] at k
   have m:=bt x0 (show 0<w.2-u.2 by grind)
   rw[if_pos (by unfold cr; grind),if_neg (by unfold cr; grind),xL,xR] at k
   omega
  ·obtain⟨x,x0,xL,xR,xs,_⟩:=pick (1,0) (-1,0) (by unfold cr; grind) (by unfold cr; grind)
   have k:=xA S.cl hi (p:=sm (cv u w (1/2)) (-1,0) x) (q:=sm (cv u w (1/2)) (1,0) x) (by unfold sm; grind) fun j hj hn=>(xs j hj hn).pq
   have e1:=iE w u (sm (cv u w (1/2)) (-1,0) x);have e2:=iE w u (sm (cv u w (1/2)) (1,0) x);rw[gx (a:=w) (b:=u) (by unfold sm cv; grind) (by unfold sm cv; grind),gE u w,jU] at e1
   rw[gx (a:=w) (b:=u) (by unfold sm cv; grind) (by unfold sm cv; grind),gE u w,jU] at e2
   have m:=bt x0 (show 0<u.2-w.2 by grind)
   rw[if_pos (by unfold cr; grind)] at e1
   rw[if_neg (by unfold cr; grind)] at e2
   rw[gI (by unfold sm; grind),gI (by unfold sm; grind),hu,hw,e1,e2,xL,xR] at k
   omega
theorem Simple.wE (S:Simple n v) {σ:Rat} {i:Nat} (hi:i+1<n) {d:P2} (hd:0 < σ*cr (v i) (v (i+1)) d) (hd':0 < σ*cr (v (i+1)) (v (i+2)) d) (hs:0≤σ*tn (v i) (v (i+1)) (v (i+2)))
  {L L':Int} (h:HS n v σ i L) (h':HS n v σ (i+1) L'):L=L':=by
 have hn3:=S.n3;have e1:Ev fun x y=>∀j,j<n→Sep (v j) (v (j+1)) (sm (cv (v i) (v (i+1)) (1/2)) d x) (sm (cv (v i) (v (i+1)) 1) d y):=by
  refine Ev.all fun j hj=>?_
  by_cases e:i=j
  ·subst e;refine Ev.of fun x y hx hy=>ew (σ:=σ) ?_ ?_
   ·rw[jU]; have:=bt hx hd; grind
   ·rw[jU]; have:=bt hy hd; grind
  ·by_cases e':j=i+1
   ·subst e';refine Ev.of fun x y hx hy=>ew (σ:=σ) ?_ ?_
    ·have m1:=bt hx hd';have:σ*tn (v (i+1)) (v (i+1+1)) (sm (cv (v i) (v (i+1)) (1/2)) d x)=1/2*(σ*tn (v i) (v (i+1)) (v (i+2)))+x*(σ*cr (v (i+1)) (v (i+2)) d):=by
      unfold tn sm cv cr; grind
     rw[this]; grind
    ·have m1:=bt hy hd';have:σ*tn (v (i+1)) (v (i+1+1)) (sm (cv (v i) (v (i+1)) 1) d y)=y*(σ*cr (v (i+1)) (v (i+2)) d):=by
      unfold tn sm cv cr; grind
     rw[this]; exact m1
   ·exact rU (S.off (by omega) hj e (by grind) (by grind) (by grind) (by grind) (fun h=>by omega) (fun _=>⟨by grind,by grind⟩)) d d
 have e2:Ev fun x y=>∀j,j<n→Sep (v j) (v (j+1)) (sm (cv (v (i+1)) (v (i+2)) (1/2)) d x) (sm (cv (v (i+1)) (v (i+2)) 0) d y):=by
  refine Ev.all fun j hj=>?_
  by_cases e:j=i+1
  ·subst e;refine Ev.of fun x y hx hy=>ew (σ:=σ) ?_ ?_
   ·rw[jU]; have:=bt hx hd'; grind
   ·rw[jU]; have:=bt hy hd'; grind
  ·by_cases e':j=i
   ·subst e';refine Ev.of fun x y hx hy=>ew (σ:=σ) ?_ ?_
    ·have m1:=bt hx hd;have:σ*tn (v j) (v (j+1)) (sm (cv (v (j+1)) (v (j+2)) (1/2)) d x)=1/2*(σ*tn (v j) (v (j+1)) (v (j+2)))+x*(σ*cr (v j) (v (j+1)) d):=by
      unfold tn sm cv cr; grind
     rw[this]; grind
    ·have m1:=bt hy hd;have:σ*tn (v j) (v (j+1)) (sm (cv (v (j+1)) (v (j+2)) 0) d y)=y*(σ*cr (v j) (v (j+1)) d):=by
      unfold tn sm cv cr; grind
     rw[this]; exact m1
   ·exact rU (S.off (i:=i+1) hi hj (Ne.symm e) (by grind) (by grind) (by grind) (by grind) (fun _=>⟨by grind,by grind⟩) (fun h=>by omega)) d d
 obtain⟨a,a0,ha⟩:=e1;obtain⟨b,b0,hb⟩:=e2;obtain⟨f,f0,hf⟩:=h (1/2) d (by grind) (by grind) hd
 obtain⟨g,g0,hg⟩:=h' (1/2) d (by grind) (by grind) hd'
 obtain⟨k,k0,ka,kb⟩:=dP a0 b0;obtain⟨l,l0,lf,lg⟩:=dP f0 g0;obtain⟨x,x0,xk,xl⟩:=dP k0 l0;have w1:=vj S.cl (ha x x x0 (by grind) x0 (by grind))
 have w2:=vj S.cl (hb x x x0 (by grind) x0 (by grind))
 rw[hf x x0 (by grind)] at w1
 rw[hg x x0 (by grind)] at w2
 have e:cv (v i) (v (i+1)) 1=cv (v (i+1)) (v (i+2)) 0:=by unfold cv; exact Prod.ext (by grind) (by grind)
 rw[w1,w2,e]
theorem Simple.step (S:Simple n v) {i:Nat} (hi:i+1<n) {L L':Int} (h:HS n v 1 i L) (h':HS n v 1 (i+1) L'):L=L':=by
 have hne:=S.ne i (by omega)
 have ht:=S.iN i (by omega)
 have c1:cr (v i) (v (i+1)) ((v (i+2)).1-(v (i+1)).1-((v (i+1)).1-(v i).1),(v (i+2)).2-(v (i+1)).2-((v (i+1)).2-(v i).2))=tn (v i) (v (i+1)) (v (i+2)):=by unfold cr tn; grind
 have c2:cr (v (i+1)) (v (i+2)) ((v (i+2)).1-(v (i+1)).1-((v (i+1)).1-(v i).1),(v (i+2)).2-(v (i+1)).2-((v (i+1)).2-(v i).2))=tn (v i) (v (i+1)) (v (i+2)):=by unfold cr tn; grind
 by_cases h0:tn (v i) (v (i+1)) (v (i+2))=0
 ·have hd:0<dt (v i) (v (i+1)) (v (i+2)):=ht.resolve_left fun e=>e h0;have hl:=rJ hne;refine S.wE (σ:=1) hi (d:=(-((v (i+1)).2-(v i).2),(v (i+1)).1-(v i).1)) ?_ ?_ (by rw[h0]; grind) h h'
  ·unfold cr; grind
  ·unfold dt at hd; unfold cr; grind
 ·by_cases hp:0<tn (v i) (v (i+1)) (v (i+2))
  ·exact S.wE (σ:=1) hi (by rw[c1]; grind) (by rw[c2]; grind) (by grind) h h'
  ·obtain⟨R,hR⟩:=S.hs (σ:=-1) (by grind) (i:=i) (by omega)
   obtain⟨R',hR'⟩:=S.hs (σ:=-1) (by grind) (i:=i+1) (by omega)
   have e:=S.wE (σ:=-1) hi (by rw[c1]; grind) (by rw[c2]; grind) (by grind) hR hR'
   have e1:=S.Bg (by omega) h hR
   have e2:=S.Bg hi h' hR';omega
theorem Simple.along (S:Simple n v):∃L:Int,∀i,i<n→HS n v 1 i L∧HS n v (-1) i (L-1):=by
 have hn3:=S.n3;obtain⟨L,hL⟩:=S.hs (σ:=1) (by grind) (i:=0) (by omega)
 have h1:∀i,i<n→HS n v 1 i L:=by
  intro i
  induction i with
  | zero=>intro _; exact hL
  | succ i ih =>
   intro hi;obtain⟨L',hL'⟩:=S.hs (σ:=1) (by grind) (i:=i+1) hi
   have:=S.step hi (ih (by omega)) hL'
   rw[this]; exact hL'
 refine⟨L,fun i hi=>⟨h1 i hi,?_⟩⟩;obtain⟨R,hR⟩:=S.hs (σ:=-1) (by grind) (i:=i) hi
 have:=S.Bg hi (h1 i hi) hR;rw[show L-1=R by omega]; exact hR
end
theorem kO {X:Nat→Rat} {P:Nat→Prop}:∀{n:Nat},(∃i,i<n∧P i)→∃i,i<n∧P i∧∀j,j<n→P j→X i≤X j
 | 0,h=>by obtain⟨i,h,_⟩:=h; omega
 | n+1,h=>by
  by_cases hn:∃i,i<n∧P i
  ·obtain⟨i,i1,i2,i3⟩:=kO (X:=X) hn
   by_cases hp:P n∧X n≤X i
   ·refine⟨n,by omega,hp.1,fun j hj hP=>?_⟩
    by_cases e:j=n
    ·subst e; grind
    ·have:=i3 j (by omega) hP; grind
   ·refine⟨i,by omega,i2,fun j hj hP=>?_⟩
    by_cases e:j=n
    ·subst e;have:¬X j≤X i:=fun h=>hp ⟨hP,h⟩
     grind
    ·exact i3 j (by omega) hP
  ·obtain⟨i,i1,i2⟩:=h;have:i=n:=Decidable.byContradiction fun e=>hn ⟨i,by omega,i2⟩
   subst this;refine⟨i,by omega,i2,fun j hj hP=>?_⟩
   by_cases e:j=i
   ·subst e; grind
   ·exact absurd ⟨j,by omega,hP⟩ hn
theorem tp {u w:P2} {y:Rat} (h:(u.2<y∧y<w.2)∨(w.2<y∧y<u.2)) :
  ∃t,0<t∧t<1∧(cv u w t).2=y∧∀q:P2,q.2=y→tn u w q=(w.2-u.2)*((cv u w t).1-q.1):=by
 have hD:w.2-u.2≠0:=by grind
 have hi:(w.2-u.2)*(w.2-u.2)⁻¹=1:=Rat.mul_inv_cancel _ hD;have ht:((y-u.2)*(w.2-u.2)⁻¹)*(w.2-u.2)=y-u.2:=by grind
 generalize (y-u.2)*(w.2-u.2)⁻¹=t at ht;have t0:0<t:=by
  refine Decidable.byContradiction fun hc=>?_;rcases h with h|h
  ·have:=bN (show 0≤-t by grind) (show 0≤w.2-u.2 by grind)
   grind
  ·have:=bN (show 0≤-t by grind) (show 0≤u.2-w.2 by grind)
   grind
 have t1:t<1:=by
  refine Decidable.byContradiction fun hc=>?_;rcases h with h|h
  ·have:=bN (show 0≤t-1 by grind) (show 0≤w.2-u.2 by grind)
   grind
  ·have:=bN (show 0≤t-1 by grind) (show 0≤u.2-w.2 by grind)
   grind
 refine⟨t,t0,t1,by unfold cv; grind,fun q hq=>?_⟩
 unfold tn cv;rw[hq]
 grind
section
variable {n : Nat} {v : Nat → P2}
def dd (u w:P2) (y:Rat):Int:=if u.2<y∧y<w.2 then 1 else if w.2<y∧y<u.2 then -1 else 0
theorem A5 {u w:P2} {y:Rat} (hu:u.2≠y) (hw:w.2≠y):∃X:Rat,(∀q:P2,q.2=y→we u w q=if q.1<X then dd u w y else 0)∧(dd u w y≠0→∃t,0<t∧t<1∧cv u w t=(X,y)):=by
 by_cases h1:u.2<y∧y<w.2
 ·obtain⟨t,t0,t1,t2,t3⟩:=tp (.inl h1);refine⟨(cv u w t).1,fun q hq=>?_,fun _=>⟨t,t0,t1,Prod.ext rfl t2⟩⟩;unfold dd;rw[gx (by grind) (by grind),if_pos h1,t3 q hq]
  by_cases hx:q.1<(cv u w t).1
  ·rw[if_pos hx,if_pos (bt (by grind) (by grind))]
  ·rw[if_neg hx,if_neg];have:=dc (show 0≤w.2-u.2 by grind) (show(cv u w t).1-q.1≤0 by grind)
   grind
 ·by_cases h2:w.2<y∧y<u.2
  ·obtain⟨t,t0,t1,t2,t3⟩:=tp (.inr h2);refine⟨(cv u w t).1,fun q hq=>?_,fun _=>⟨t,t0,t1,Prod.ext rfl t2⟩⟩;unfold dd;rw[iE w u,gx (by grind) (by grind),if_neg h1,if_pos h2,gE u w,t3 q hq]
   by_cases hx:q.1<(cv u w t).1
   ·have:=bt (show 0<u.2-w.2 by grind) (show 0<(cv u w t).1-q.1 by grind)
    rw[if_pos hx,if_pos (by grind)]
   ·have:=dc (show 0≤u.2-w.2 by grind) (show(cv u w t).1-q.1≤0 by grind)
    rw[if_neg hx,if_neg (by grind)]; rfl
  ·have e:dd u w y=0:=by unfold dd; rw[if_neg h1,if_neg h2]
   refine⟨0,fun q hq=>?_,fun h=>absurd e h⟩;rw[e,ite_self,dJ (by grind) (by grind)]
theorem Simple.level (S:Simple n v) {p:P2} (hp:∀i,i<n→(v i).2≠p.2):W n v p=0∨W n v p=1∨W n v p = -1:=by
 have hn3:=S.n3;have hp':∀i,i<n→(v (i+1)).2≠p.2:=fun i hi=>by
  by_cases e:i+1=n
  ·rw[e,S.cl]; exact hp 0 (by omega)
  ·exact hp (i+1) (by omega)
 have hX:∀i,∃X:Rat,i<n→(∀q:P2,q.2=p.2→we (v i) (v (i+1)) q=if q.1<X then dd (v i) (v (i+1)) p.2 else 0)∧(dd (v i) (v (i+1)) p.2≠0→∃t,0<t∧t<1∧cv (v i) (v (i+1)) t=(X,p.2)):=fun i=>by
  by_cases hi:i<n
  ·obtain⟨X,h⟩:=A5 (hp i hi) (hp' i hi);exact⟨X,fun _=>h⟩
  ·exact⟨0,fun h=>absurd h hi⟩
 obtain⟨X,hX⟩:=Classical.axiomOfChoice hX;have hW:∀q:P2,q.2=p.2→W n v q=bX n fun i=>if q.1<X i then dd (v i) (v (i+1)) p.2 else 0:=fun q hq=>dD fun i hi=>(hX i hi).1 q hq
 obtain⟨L,hL⟩:=S.along
 by_cases hE:∃i,i<n∧(dd (v i) (v (i+1)) p.2≠0∧p.1<X i)
 ·obtain⟨i,i1,⟨i2,i3⟩,i4⟩:=kO (X:=X) hE;obtain⟨k,k1,⟨k2,k3⟩,k4⟩:=kO (X:=fun i=>-X i) hE;have hl:W n v p=L∨W n v p=L-1:=by
   obtain⟨t,t0,t1,t2⟩:=(hX i i1).2 i2;have key:∀σ M,0 < σ*cr (v i) (v (i+1)) (-1,0)→HS n v σ i M→W n v p=M:=by
    intro σ M hσ hM;obtain⟨e,e0,he⟩:=hM t (-1,0) t0 t1 hσ;obtain⟨x,x0,xe,xp⟩:=dP e0 (show 0<X i-p.1 by grind)
    rw[←he x x0 (by grind),t2,hW p rfl,hW (sm (X i,p.2) (-1,0) x) (by unfold sm; grind)]
    refine dD fun j hj=>?_
    by_cases hd:dd (v j) (v (j+1)) p.2=0
    ·rw[hd,ite_self,ite_self]
    ·by_cases hx:p.1<X j
     ·have:=i4 j hj ⟨hd,hx⟩;rw[if_pos hx,if_pos (by unfold sm; grind)]
     ·rw[if_neg hx,if_neg (by unfold sm; grind)]
   by_cases h1:(v i).2<p.2∧p.2<(v (i+1)).2
   ·exact .inl (key 1 L (by unfold cr; grind) (hL i i1).1)
   ·have h2:(v (i+1)).2<p.2∧p.2<(v i).2:=by
     unfold dd at i2;rw[if_neg h1] at i2;exact Decidable.byContradiction fun h=>i2 (if_neg h)
    exact .inr (key (-1) (L-1) (by unfold cr; grind) (hL i i1).2)
  have hr:L=0∨L=1:=by
   obtain⟨t,t0,t1,t2⟩:=(hX k k1).2 k2;have key:∀σ M,0 < σ*cr (v k) (v (k+1)) (1,0)→HS n v σ k M→M=0:=by
    intro σ M hσ hM;obtain⟨e,e0,he⟩:=hM t (1,0) t0 t1 hσ;rw[←he e e0 (by grind),t2,hW (sm (X k,p.2) (1,0) e) (by unfold sm; grind)]
    refine gZ fun j hj=>?_
    by_cases hd:dd (v j) (v (j+1)) p.2=0
    ·rw[hd,ite_self]
    ·refine if_neg fun hx=>?_;have hx':X k+e<X j:=by unfold sm at hx; grind
     have:=k4 j hj ⟨hd,by grind⟩
     grind
   by_cases h1:(v k).2<p.2∧p.2<(v (k+1)).2
   ·have:=key (-1) (L-1) (by unfold cr; grind) (hL k k1).2
    exact .inr (by omega)
   ·have h2:(v (k+1)).2<p.2∧p.2<(v k).2:=by
     unfold dd at k2;rw[if_neg h1] at k2;exact Decidable.byContradiction fun h=>k2 (if_neg h)
    exact .inl (key 1 L (by unfold cr; grind) (hL k k1).1)
  omega
 ·left
  rw[hW p rfl];refine gZ fun j hj=>?_
  by_cases hd:dd (v j) (v (j+1)) p.2=0
  ·rw[hd,ite_self]
  ·exact if_neg fun hx=>hE ⟨j,hj,hd,hx⟩
theorem Simple.main (S:Simple n v) {p:P2} (hp:∀i,i<n→((v i).2≤p.2∧p.2<(v (i+1)).2)∨((v (i+1)).2≤p.2∧p.2<(v i).2)→tn (v i) (v (i+1)) p≠0) :
  W n v p=0∨W n v p=1∨W n v p = -1:=by
 have hn3:=S.n3;have h1:Ev fun x _=>∀i,i<n→(v i).2≤p.2∨p.2+x<(v i).2:=Ev.all (P:=fun i x _=>(v i).2≤p.2∨p.2+x<(v i).2) fun i _=>by
  by_cases h:(v i).2≤p.2
  ·exact Ev.of fun _ _ _ _=>.inl h
  ·exact⟨((v i).2-p.2)/2,by grind,fun x y x0 x1 _ _=>.inr (by grind)⟩
 have h2:Ev fun x _=>∀i,i<n→(tn (v i) (v (i+1)) p<0→tn (v i) (v (i+1)) (p.1,p.2+x)<0)∧(0<tn (v i) (v (i+1)) p→0<tn (v i) (v (i+1)) (p.1,p.2+x)) :=
  Ev.all (P:=fun i x _=>(tn (v i) (v (i+1)) p<0→tn (v i) (v (i+1)) (p.1,p.2+x)<0)∧(0<tn (v i) (v (i+1)) p→0<tn (v i) (v (i+1)) (p.1,p.2+x))) fun i _=>by
   have e:∀x,tn (v i) (v (i+1)) (p.1,p.2+x)=tn (v i) (v (i+1)) p+x*((v (i+1)).1-(v i).1):=fun x=>by unfold tn; grind
   by_cases hm:tn (v i) (v (i+1)) p<0
   ·obtain⟨a,a0,ha⟩:=rV hm ((v (i+1)).1-(v i).1);exact⟨a,a0,fun x y x0 x1 _ _=>⟨fun _=>by rw[e]; exact ha x x0 x1,fun h=>by grind⟩⟩
   ·by_cases hq:0<tn (v i) (v (i+1)) p
    ·obtain⟨a,a0,ha⟩:=rV (A:=-tn (v i) (v (i+1)) p) (by grind) (-((v (i+1)).1-(v i).1))
     exact⟨a,a0,fun x y x0 x1 _ _=>⟨fun h=>absurd h hm,fun _=>by rw[e]; have:=ha x x0 x1; grind⟩⟩
    ·exact Ev.of fun _ _ _ _=>⟨fun h=>absurd h hm,fun h=>absurd h hq⟩
 obtain⟨x,x0,hx⟩:=h1.and h2;obtain⟨g1,g2⟩:=hx x x x0 (by grind) x0 (by grind)
 have g1':∀i,i<n→(v (i+1)).2≤p.2∨p.2+x<(v (i+1)).2:=fun i hi=>by
  by_cases e:i+1=n
  ·rw[e,S.cl]; exact g1 0 (by omega)
  ·exact g1 (i+1) (by omega)
 have e:W n v p=W n v (p.1,p.2+x):=dD fun i hi=>by
  have a:=g1 i hi;have b:=g1' i hi;obtain⟨c1,c2⟩:=g2 i hi;have hc:=hp i hi
  by_cases k1:(v i).2≤p.2∧p.2<(v (i+1)).2
  ·rw[gx k1.1 k1.2,gx (by grind) (by grind)]
   exact jN ⟨c2,fun h=>by have:=hc (.inl k1); grind⟩
  ·by_cases k2:(v (i+1)).2≤p.2∧p.2<(v i).2
   ·rw[iE (v (i+1)) (v i),iE (v (i+1)) (v i),gx k2.1 k2.2,gx (by grind) (by grind),gE (v i),gE (v i)]
    rw[jN (d:=0 < -tn (v i) (v (i+1)) (p.1,p.2+x)) ⟨fun h=>by have:=c1 (by grind); grind,fun h=>by have:=hc (.inr k2); grind⟩]
   ·rw[dJ k1 k2,dJ (by grind) (by grind)]
 rw[e];exact S.level fun i hi=>by have:=g1 i hi; grind
end
end Jd
end
