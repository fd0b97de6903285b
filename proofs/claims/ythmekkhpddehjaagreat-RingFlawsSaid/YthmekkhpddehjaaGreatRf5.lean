/- A part of the proof. -/
import Derived.Test.YthmekkhpddehjaaGreatRf4
section
namespace Go.Proofs.YthmekkhpddehjaaGreat
open Go Go.Ab Go.Ab.W
set_option maxRecDepth 10000
set_option maxHeartbeats 4000000
attribute [local irreducible] Tm.at Trie.set Trie.get AMem.get AMem.set AMem.alloc AMem.ww AMem.kill
theorem yh (n:Nat) (l1:List (Int × Int)) (a0:Option Addr) (c0:Nat) (r:Int × Int) (hF:Et n l1=some r) (m:AMem) (h36:Rd m a0 c0 2 l1.length (l1.map (eP (eI .i64) (eI .i64)))) :
  aP aQ 41 [.slice a0 l1.length c0] m (fun v m'=>∃_:Unit,v = .tuple #[.int .i64 r.1,.int .i64 r.2]∧Hp m m' []):=by
 unfold Et at hF;refine aU (m0:=m) (ps:=[.rd a0 c0 2 l1.length (l1.map (eP (eI .i64) (eI .i64)))]) (N:=116) (rs:=[.cell 2 3,.cell 3 3]) rfl Tryz.func41 rfl rfl rfl ((Hp.start m).qj rfl h36)<|Wk.seq<|Wk.region<|Wo.x (cY rfl) gn rfl fun b6=>?_;refine Wo.x (eg z3 rfl) gn rfl fun b3=>?_;refine Wo.x (eg z3 rfl) gn rfl fun b4=>?_;refine Wo.nil<|At.tn<|Wk.seq<|Wk.region<|Wo.od (aj (k:=2) ec rfl rfl rfl) rfl<|Wo.od (dy (k:=3) ic rfl rfl (.inl rfl)) rfl<|Wo.x (eg z3 rfl) gn rfl fun b5=>?_;refine Wo.o0 (cT (k:=0) bz rfl rfl rfl rfl rfl)<|Wo.nil<|At.tn<|Wk.seq<|Wk.seq ?_;obtain⟨v4,h37,hF⟩:=J hF;refine Wk.cut (G:=(fun(r:Bool) (g:Unit)=>match r,g with|v4,_=>⟨.normal,[(1,ptr b6 0),(2,ptr b3 0),(3,ptr b4 0),(4,ptr b5 0),(18,.bool v4)],[.obj b6 (.cells [.slice a0 l1.length c0] .own),.rd a0 c0 2 l1.length (l1.map (eP (eI .i64) (eI .i64))),.obj b3 (.cells [.int .i64 0] .own),.obj b4 (.cells [.int .i64 0] .own),.obj b5 (.cells [.int .i64 (l1.length:Int)] .own)]⟩) v4) ?_ ?_
 ·clear hF;revert v4;intro r hF;refine Wk.region<|Wo.od (aj (k:=0) bz rfl rfl rfl) rfl<|Wo.od (ak rfl rfl (bf _ _ _)) rfl<|Wo.od (ae rfl) rfl ?_;rcases ah hF with⟨h2,hF⟩|⟨h2,hF⟩
  ·refine Wo.s (gg rfl rfl (hU h2)) rfl<|Wo.s (gg rfl rfl (hU h2)) rfl<|Wo.od (fb rfl h2 rfl) rfl<|Wo.nil ?_;cases hF;exact At.en () rfl (sc rfl (sc rfl (sc rfl (sc rfl (sc rfl sn))))) (aa.U [3,4,2,1,0] rfl rfl)
  ·refine Wo.og (aj (k:=0) bz rfl rfl rfl) (gg rfl rfl (gS h2)) rfl<|Wo.og (ak rfl rfl (dc _ _ _)) (gg rfl rfl (gS h2)) rfl<|Wo.od (fc rfl h2 rfl) rfl<|Wo.nil ?_;cases hF;exact At.en () rfl (sc rfl (sc rfl (sc rfl (sc rfl (sc rfl sn))))) (aa.U [3,4,2,1,0] rfl rfl)
 ·clear h37;rintro⟨⟩;refine At.tn ?_;rcases ah hF with⟨h7,hF⟩|⟨h7,hF⟩
  ·refine Wk.aC rfl h7<|Wk.seq<|Wk.region<|Wo.o0 (cT (k:=2) bz rfl rfl rfl rfl rfl)<|Wo.o0 (cT (k:=3) bz rfl rfl rfl rfl rfl)<|Wo.nil<|At.tn<|Wk.ret<|At.tr ?_;cases hF;exact At.ret (.cell (k:=2) bz rfl rfl rfl (.cell (k:=3) bz rfl rfl rfl .nil)) fun m' hm=>⟨(),rfl,(aa.U [] rfl rfl) m' hm⟩
  ·refine Wk.aD rfl h7<|Wk.skip<|At.tn<|Wk.seq<|Wk.seq<|Wk.region<|Wo.od (aj (k:=0) ec rfl rfl rfl) rfl ?_;obtain⟨v1,h38,hF⟩:=J hF;refine Wo.x (uL (α:=Unit) (V:=fun g=>(fun(r:Int) (g:Unit)=>match r,g with|v1,_=>(.int .i64 v1:Value)) v1 g) (N:=fun g=>(fun(r:Int) (g:Unit)=>match r,g with|v1,_=>([.obj b6 (.cells [.slice a0 l1.length c0] .own),.rd a0 c0 2 l1.length (l1.map (eP (eI .i64) (eI .i64))),.obj b3 (.cells [.int .i64 0] .own),.obj b4 (.cells [.int .i64 0] .own),.obj b5 (.cells [.int .i64 (l1.length:Int)] .own)]:List Pc)) v1 g) rfl rfl (fun m hm=>?_)) gn rfl ?_
   ·clear hF;revert v1;intro r hF;refine aU (N:=19) (rs:=[.tmp 4]) rfl Tryz.func76 rfl rfl rfl hm<|Wk.seq<|Wk.region<|Wo.od (al rfl) rfl<|Wo.nil<|At.tn<|Wk.seq<|Wk.seq<|Wk.region<|Wo.od (ae rfl) rfl<|Wo.od (dy (k:=1) ic rfl rfl (.inl rfl)) rfl<|Wo.od (ae rfl) rfl<|Wo.nil<|At.tn<|Wk.block ?_;obtain⟨r16,h8,hF⟩:=J hF;refine Wk.cut (G:=(fun(r:(Int) ⊕ (Unit)) (g:Unit)=>match r,g with | .inl v5,_=>⟨.ret,[(4,.int .i64 v5)],[.obj b6 (.cells [.slice a0 l1.length c0] .own),.rd a0 c0 2 l1.length (l1.map (eP (eI .i64) (eI .i64))),.obj b3 (.cells [.int .i64 0] .own),.obj b4 (.cells [.int .i64 0] .own),.obj b5 (.cells [.int .i64 (l1.length:Int)] .own)]⟩ | .inr _,_=>⟨(.exit 0),[],[.obj b6 (.cells [.slice a0 l1.length c0] .own),.rd a0 c0 2 l1.length (l1.map (eP (eI .i64) (eI .i64))),.obj b3 (.cells [.int .i64 0] .own),.obj b4 (.cells [.int .i64 0] .own),.obj b5 (.cells [.int .i64 (l1.length:Int)] .own)]⟩) r16) ?_ ?_
    ·refine Wk.fy (fs':=[(0,.slice a0 l1.length c0),(1,.func (.func 48) #[] #[]),(7,.int .i64 (l1.length:Int)),(8,.int .i64 0)]) (ps':=[.rd a0 c0 2 l1.length (l1.map (eP (eI .i64) (eI .i64))),.obj b6 (.cells [.slice a0 l1.length c0] .own),.obj b3 (.cells [.int .i64 0] .own),.obj b4 (.cells [.int .i64 0] .own),.obj b5 (.cells [.int .i64 (l1.length:Int)] .own)]) (sc rfl (sc rfl (sc rfl (sc rfl sn)))) (aa.U [1,0,2,3,4] rfl rfl) ?_;refine Wk.loop (σ:=Int) (ρ:=(Int) ⊕ (Unit)) (γ:=Unit) (δ:=fun _=>Unit) _ (fun(s:Int) (g:Unit)=>match s,g with|v12,_=>⟨.normal,[(0,.slice a0 l1.length c0),(1,.func (.func 48) #[] #[]),(7,.int .i64 (l1.length:Int)),(8,.int .i64 v12)],[.rd a0 c0 2 l1.length (l1.map (eP (eI .i64) (eI .i64))),.obj b6 (.cells [.slice a0 l1.length c0] .own),.obj b3 (.cells [.int .i64 0] .own),.obj b4 (.cells [.int .i64 0] .own),.obj b5 (.cells [.int .i64 (l1.length:Int)] .own)]⟩) (fun(r:(Int) ⊕ (Unit)) (g:Unit)=>match r,g with | .inl v5,_=>⟨.ret,[(4,.int .i64 v5)],[.obj b6 (.cells [.slice a0 l1.length c0] .own),.rd a0 c0 2 l1.length (l1.map (eP (eI .i64) (eI .i64))),.obj b3 (.cells [.int .i64 0] .own),.obj b4 (.cells [.int .i64 0] .own),.obj b5 (.cells [.int .i64 (l1.length:Int)] .own)]⟩ | .inr _,_=>⟨(.exit 0),[],[.obj b6 (.cells [.slice a0 l1.length c0] .own),.rd a0 c0 2 l1.length (l1.map (eP (eI .i64) (eI .i64))),.obj b3 (.cells [.int .i64 0] .own),.obj b4 (.cells [.int .i64 0] .own),.obj b5 (.cells [.int .i64 (l1.length:Int)] .own)]⟩) ?_ (fun _ _=>rfl) (fun r d=>by rcases r with _|_<;>(intro e; cases e)) _ _ _ h8 ()
     clear hF h8;rintro v12 ⟨⟩ r hF;unfold sB at hF;refine Wk.seq<|Wk.region<|Wo.od (ak rfl rfl (bf _ _ _)) rfl<|Wo.nil<|At.tn<|Wk.seq ?_;rcases ah hF with⟨h9,hF⟩|⟨h9,hF⟩
     ·refine Wk.aC rfl h9<|Wk.skip<|At.tn<|Wk.seq<|Wk.block<|Wk.seq<|Wk.region<|Wo.od (ae rfl) rfl<|Wo.od (al rfl) rfl<|Wo.nil<|At.tn<|Wk.seq<|Wk.region<|Wo.od (ae rfl) rfl<|Wo.od (ae rfl) rfl<|Wo.od (ae rfl) rfl ?_;obtain⟨h3,hF⟩:=av hF;replace h3:=ax h3;refine Wo.eD (k:=0) rfl (bU h3) ?_;rintro b26 o4 rfl;refine Wo.og (cM de rfl rfl h3) gn rfl ?_;obtain⟨⟨x20,x21⟩,h39,hF⟩:=J hF;refine Wo.od (cX (k:=0) aA rfl rfl (bp h39) rfl rfl) rfl ?_;obtain⟨r21,h40,hF⟩:=J hF;refine Wo.x (cQ rfl rfl (fun m hm=>Dw n x20 x21  _ h40 m) fun _=>rfl) gn rfl ?_;rintro⟨⟩;refine Wo.nil<|At.tn ?_;rcases ah hF with⟨h10,hF⟩|⟨h10,hF⟩
      ·refine Wk.aC rfl h10<|Wk.seq<|Wk.region<|Wo.od (ae rfl) rfl<|Wo.od (al rfl) rfl<|Wo.nil<|At.tn<|Wk.ret<|At.br<|At.tr ?_;cases hF;exact At.en () rfl (sc rfl sn) (aa.U [2,1,3,4,5] rfl rfl)
      ·refine Wk.aD rfl h10<|Wk.skip<|At.bn<|At.tn<|Wk.region<|Wo.od (ak rfl rfl (aF _ _ _)) rfl<|Wo.od (ae rfl) rfl<|Wo.nil ?_;cases hF;exact At.en () rfl (sc rfl (sc rfl (sc rfl (sc rfl sn)))) (aa.U [1,2,3,4,5] rfl rfl)
     ·refine Wk.aD rfl h9<|Wk.exit<|At.te ?_;cases hF;exact At.en () rfl sn (aa.U [1,0,2,3,4] rfl rfl)
    ·clear h8;rcases r16 with v5|_
     ·rintro⟨⟩;refine At.br<|At.tr ?_;have hr:=Option.some.inj hF;subst r;exact At.ret (.tmp rfl .nil) fun m' hm=>⟨(),rfl,(aa.U [0,1,2,3,4] rfl rfl) m' hm⟩
     ·rintro⟨⟩;refine At.be<|At.tn<|Wk.seq<|Wk.region<|Wo.od (al rfl) rfl<|Wo.nil<|At.tn<|Wk.ret ?_;cases hF;exact At.ret (.tmp rfl .nil) fun m' hm=>⟨(),rfl,(aa.U [0,1,2,3,4] rfl rfl) m' hm⟩
   ·clear h38;rintro⟨⟩;refine Wo.od (al rfl) rfl<|Wo.nil<|At.tn<|Wk.seq<|Wk.region<|Wo.od (ae rfl) rfl<|Wo.od (ak rfl rfl (kr _ _ _)) rfl<|Wo.nil<|At.tn ?_;rcases ah hF with⟨h11,hF⟩|⟨h11,hF⟩
    ·refine Wk.aC rfl h11<|Wk.seq<|Wk.region<|Wo.od (ae rfl) rfl<|Wo.o0 (cT (k:=2) bz rfl rfl rfl rfl rfl)<|Wo.o0 (cT (k:=3) bz rfl rfl rfl rfl rfl)<|Wo.nil<|At.tn<|Wk.ret<|At.tr ?_;cases hF;exact At.ret (.cell (k:=2) bz rfl rfl rfl (.cell (k:=3) bz rfl rfl rfl .nil)) fun m' hm=>⟨(),rfl,(aa.U [] rfl rfl) m' hm⟩
    ·refine Wk.aD rfl h11<|Wk.skip<|At.tn<|Wk.seq<|Wk.seq<|Wk.region<|Wo.od (aj (k:=0) ec rfl rfl rfl) rfl ?_;obtain⟨r12,h41,hF⟩:=J hF;refine Wo.x (uL (α:=Nat) (V:=fun g=>(fun(r:Unit) (g:Nat)=>match r,g with|_,b14=>(.func (.func 86) #[] #[ptr b14 0]:Value)) r12 g) (N:=fun g=>(fun(r:Unit) (g:Nat)=>match r,g with|_,b14=>([.obj b14 (.cells [.slice a0 l1.length c0] .own),.rd a0 c0 2 l1.length (l1.map (eP (eI .i64) (eI .i64))),.obj b6 (.cells [.slice a0 l1.length c0] .own),.obj b3 (.cells [.int .i64 0] .own),.obj b4 (.cells [.int .i64 0] .own),.obj b5 (.cells [.int .i64 (l1.length:Int)] .own)]:List Pc)) r12 g) rfl rfl (fun m hm=>?_)) gn rfl ?_
     ·clear hF;revert r12;intro r hF;refine aU (N:=4) (rs:=[.tmp 2]) rfl Tryz.func63 rfl rfl rfl hm<|Wk.seq<|Wk.region<|Wo.x (cY rfl) gn rfl fun b18=>?_;refine Wo.od (al rfl) rfl<|Wo.nil<|At.tn<|Wk.seq<|Wk.region<|Wo.od (Bm rfl rfl) rfl<|Wo.od (al rfl) rfl<|Wo.nil<|At.tn<|Wk.ret ?_;cases hF;exact At.ret (.tmp rfl .nil) fun m' hm=>⟨b18,rfl,(aa.U [0,2,1,3,4,5] rfl rfl) m' hm⟩
     ·clear h41;rintro b14;refine Wo.nil<|At.tn<|Wk.block ?_;obtain⟨r4,h42,hF⟩:=J hF;refine Wk.range (N:=27) (rs:=[]) (γ:=Unit) (X:=fun g=>(fun(r:(Int) ⊕ (Unit)) (g:Unit)=>(match r,g with | .inl v13,_=>⟨.done,(some .ret),[.obj b6 (.cells [.slice a0 l1.length c0] .own),.rd a0 c0 2 l1.length (l1.map (eP (eI .i64) (eI .i64))),.obj b3 (.cells [.int .i64 3] .own),.obj b4 (.cells [.int .i64 v13] .own),.obj b5 (.cells [.int .i64 (l1.length:Int)] .own)]⟩ | .inr _,_=>⟨.ready,none,[.obj b6 (.cells [.slice a0 l1.length c0] .own),.rd a0 c0 2 l1.length (l1.map (eP (eI .i64) (eI .i64))),.obj b3 (.cells [.int .i64 0] .own),.obj b4 (.cells [.int .i64 0] .own),.obj b5 (.cells [.int .i64 (l1.length:Int)] .own)]⟩:Rn)) r4 g) rfl rfl Tryz.func86 rfl rfl rfl ?_ (fun y=>by rcases r4 with _|_<;>(intro e; cases e)) ?_
      ·clear hF;revert r4;intro r hF;intro t0 l5 r3 h43 h44;refine Wk.seq<|Wk.region<|Wo.od (aj (k:=1) ec rfl rfl rfl) rfl<|Wo.od (dy (k:=2) ic rfl rfl (.inl rfl)) rfl<|Wo.od (ae rfl) rfl<|Wo.nil<|At.tn<|Wk.block ?_;obtain⟨r17,h12,hF⟩:=J hF;refine Wk.cut (G:=(fun(r:(Int) ⊕ (Unit)) (g:Unit)=>match r,g with | .inl v6,_=>⟨.ret,[],[.obj l5 (r3 .done (some .ret)),.obj b6 (.cells [.slice a0 l1.length c0] .own),.rd a0 c0 2 l1.length (l1.map (eP (eI .i64) (eI .i64))),.obj b3 (.cells [.int .i64 3] .own),.obj b4 (.cells [.int .i64 v6] .own),.obj b5 (.cells [.int .i64 (l1.length:Int)] .own)]⟩ | .inr _,_=>⟨(.exit 0),[],[.obj l5 (r3 .ready none),.obj b6 (.cells [.slice a0 l1.length c0] .own),.rd a0 c0 2 l1.length (l1.map (eP (eI .i64) (eI .i64))),.obj b3 (.cells [.int .i64 0] .own),.obj b4 (.cells [.int .i64 0] .own),.obj b5 (.cells [.int .i64 (l1.length:Int)] .own)]⟩) r17) ?_ ?_
       ·refine Wk.fy (fs':=[(0,.func (.yield l5) #[] #[]),(1,ptr b14 0),(5,.slice a0 l1.length c0),(6,.int .i64 (l1.length:Int)),(7,.int .i64 0)]) (ps':=[.obj l5 (r3 .ready none),.obj b14 (.cells [.slice a0 l1.length c0] .own),.rd a0 c0 2 l1.length (l1.map (eP (eI .i64) (eI .i64))),.obj b6 (.cells [.slice a0 l1.length c0] .own),.obj b3 (.cells [.int .i64 0] .own),.obj b4 (.cells [.int .i64 0] .own),.obj b5 (.cells [.int .i64 (l1.length:Int)] .own)]) (sc rfl (sc rfl (sc rfl (sc rfl (sc rfl sn))))) (aa.U [0,1,2,3,4,5,6] rfl rfl) ?_;refine Wk.loop (σ:=Int) (ρ:=(Int) ⊕ (Unit)) (γ:=Unit) (δ:=fun _=>Unit) _ (fun(s:Int) (g:Unit)=>match s,g with|v7,_=>⟨.normal,[(0,.func (.yield l5) #[] #[]),(1,ptr b14 0),(5,.slice a0 l1.length c0),(6,.int .i64 (l1.length:Int)),(7,.int .i64 v7)],[.obj l5 (r3 .ready none),.obj b14 (.cells [.slice a0 l1.length c0] .own),.rd a0 c0 2 l1.length (l1.map (eP (eI .i64) (eI .i64))),.obj b6 (.cells [.slice a0 l1.length c0] .own),.obj b3 (.cells [.int .i64 0] .own),.obj b4 (.cells [.int .i64 0] .own),.obj b5 (.cells [.int .i64 (l1.length:Int)] .own)]⟩) (fun(r:(Int) ⊕ (Unit)) (g:Unit)=>match r,g with | .inl v6,_=>⟨.ret,[],[.obj l5 (r3 .done (some .ret)),.obj b6 (.cells [.slice a0 l1.length c0] .own),.rd a0 c0 2 l1.length (l1.map (eP (eI .i64) (eI .i64))),.obj b3 (.cells [.int .i64 3] .own),.obj b4 (.cells [.int .i64 v6] .own),.obj b5 (.cells [.int .i64 (l1.length:Int)] .own)]⟩ | .inr _,_=>⟨(.exit 0),[],[.obj l5 (r3 .ready none),.obj b6 (.cells [.slice a0 l1.length c0] .own),.rd a0 c0 2 l1.length (l1.map (eP (eI .i64) (eI .i64))),.obj b3 (.cells [.int .i64 0] .own),.obj b4 (.cells [.int .i64 0] .own),.obj b5 (.cells [.int .i64 (l1.length:Int)] .own)]⟩) ?_ (fun _ _=>rfl) (fun r d=>by rcases r with _|_<;>(intro e; cases e)) _ _ _ h12 ()
        clear hF h12;rintro v7 ⟨⟩ r hF;unfold rM at hF;refine Wk.seq<|Wk.region<|Wo.od (ak rfl rfl (bf _ _ _)) rfl<|Wo.nil<|At.tn<|Wk.seq ?_;rcases ah hF with⟨h13,hF⟩|⟨h13,hF⟩
        ·refine Wk.aC rfl h13<|Wk.skip<|At.tn<|Wk.seq<|Wk.block<|Wk.seq<|Wk.region<|Wo.od (ae rfl) rfl ?_;obtain⟨h4,hF⟩:=av hF;replace h4:=ax h4;refine Wo.eD (k:=2) rfl (bU h4) ?_;rintro b12 o3 rfl;refine Wo.og (cM de rfl rfl h4) gn rfl ?_;obtain⟨⟨x22,x23⟩,h45,hF⟩:=J hF;refine Wo.od (cX (k:=0) aA rfl rfl (bp h45) rfl rfl) rfl<|Wo.x (eg z33 rfl) gn rfl fun b27=>?_;refine Wo.od (al rfl) rfl<|Wo.o0 (cT (k:=0) aA rfl rfl rfl rfl rfl)<|Wo.nil<|At.tn<|Wk.seq<|Wk.draw (by kernel_rfl)<|Wo.od (ae rfl) rfl<|Wo.od (ae rfl) rfl<|Wo.od (aj (k:=0) aA rfl rfl rfl) rfl<|Wo.od (aj (k:=3) ec rfl rfl rfl) rfl<|Wo.od (ae rfl) rfl<|Wo.od (ak rfl rfl (aF _ _ _)) rfl<|Wo.od (aj (k:=3) ec rfl rfl rfl) rfl ?_
         refine Wo.od (dy (k:=1) ic rfl rfl (.inl rfl)) rfl ?_;obtain⟨h46,hF⟩:=av hF;refine Wo.od (ak rfl rfl (dg _ _ h46)) rfl ?_;obtain⟨h14,hF⟩:=av hF;replace h14:=ax h14;refine Wo.og (cM de rfl rfl h14) gn rfl ?_;obtain⟨⟨x24,x25⟩,h47,hF⟩:=J hF;refine Wo.od (cX (k:=1) aA rfl rfl (bp h47) rfl rfl) rfl<|Wo.od (eK rfl Cy rfl (eA B6 rfl rfl rfl)) rfl ?_;obtain⟨r5,h31,hF⟩:=J hF;refine Wo.x (BQ (k:=2) (k1:=0) (γA:=Nat) (GA:=(fun g:Nat=>(match g with|b16=>⟨.normal,[(2,ptr b3 0),(3,ptr b4 0),(6,ptr b16 0)],[.obj l5 (r3 .ready none),.obj b3 (.cells [.int .i64 0] .own),.obj b4 (.cells [.int .i64 0] .own),.obj b16 (.cells [.int .i64 v7,.int .i64 x22,.int .i64 x23,.int .i64 x24,.int .i64 x25] .own),.obj b6 (.cells [.slice (some ⟨b12,o3,none⟩) l1.length c0] .own),.ro b12 o3 2 l1.length (l1.map (eP (eI .i64) (eI .i64))),.rd (some ⟨b12,o3,none⟩) c0 2 l1.length (l1.map (eP (eI .i64) (eI .i64))),.obj b5 (.cells [.int .i64 (l1.length:Int)] .own),.obj b14 (.cells [.slice (some ⟨b12,o3,none⟩) l1.length c0] .own)]⟩:En))) (γ:=Unit) (G:=fun g=>(fun(r:(Unit) ⊕ (Unit)) (g:Unit)=>(match r,g with | .inl _,_=>⟨.ret,[],[.obj l5 (r3 .busy none),.obj b6 (.cells [.slice (some ⟨b12,o3,none⟩) l1.length c0] .own),.ro b12 o3 2 l1.length (l1.map (eP (eI .i64) (eI .i64))),.rd (some ⟨b12,o3,none⟩) c0 2 l1.length (l1.map (eP (eI .i64) (eI .i64))),.obj b3 (.cells [.int .i64 3] .own),.obj b4 (.cells [.int .i64 v7] .own),.obj b5 (.cells [.int .i64 (l1.length:Int)] .own),.obj b14 (.cells [.slice (some ⟨b12,o3,none⟩) l1.length c0] .own)]⟩ | .inr _,_=>⟨.normal,[],[.obj l5 (r3 .busy none),.obj b6 (.cells [.slice (some ⟨b12,o3,none⟩) l1.length c0] .own),.ro b12 o3 2 l1.length (l1.map (eP (eI .i64) (eI .i64))),.rd (some ⟨b12,o3,none⟩) c0 2 l1.length (l1.map (eP (eI .i64) (eI .i64))),.obj b3 (.cells [.int .i64 0] .own),.obj b4 (.cells [.int .i64 0] .own),.obj b5 (.cells [.int .i64 (l1.length:Int)] .own),.obj b14 (.cells [.slice (some ⟨b12,o3,none⟩) l1.length c0] .own)]⟩:En)) r5 g) rfl rfl rfl h44 h43 rfl ?_ (fun _=>rfl) (fun _=>rfl) ?_ (fun y=>by rcases r5 with _|_<;>rfl)) gn rfl ?_
         ·clear hF h31;refine Wk.region<|Wo.x (eg Cy rfl) gn rfl fun b19=>?_;refine Wo.o0 (cT (k:=0) tD rfl rfl rfl rfl rfl)<|Wo.nil ?_;exact At.en b19 rfl (sc rfl (sc rfl (sc rfl sn))) (aa.U [3,7,8,0,6,2,5,9,4] rfl rfl)
         ·clear hF;revert r5;intro r hF;rintro b16;refine Wk.block<|Wk.seq<|Wk.region<|Wo.od (ay (r:=ptr b16 1) rfl (dm _ _)) rfl<|Wo.od (aj (k:=3) aA rfl rfl rfl) rfl<|Wo.od (ay (r:=ptr b16 3) rfl (dQ _ _)) rfl<|Wo.od (aj (k:=3) aA rfl rfl rfl) rfl<|Wo.od (ak rfl rfl (Cj yi (zP _ _ _ _))) rfl<|Wo.nil<|At.tn ?_;rcases ah hF with⟨h15,hF⟩|⟨h15,hF⟩
          ·refine Wk.aC rfl h15<|Wk.seq<|Wk.fH (prs:=[(1,2)]) (by kernel_rfl)<|Wn.od (ay (r:=ptr b16 0) rfl (iA _ _)) rfl<|Wn.DJ rfl (aj (k:=3) bz rfl rfl rfl) rfl<|Wn.Eo rfl (cT (k:=1) bz rfl rfl rfl rfl rfl)<|Wn.o0 (cT (k:=2) bz rfl rfl rfl rfl rfl)<|Wn.nil (fun m hm=>(eO.rw rfl rfl rfl (hm.ne (i:=3) (j:=1) rfl rfl rfl rfl (by decide) rfl) eO.nil))<|At.tn<|Wk.ret<|At.br ?_
           cases hF;exact At.en () rfl sn (aa.U [0,4,5,6,1,2,7,8] rfl rfl)
          ·refine Wk.aD rfl h15<|Wk.skip<|At.bn ?_;cases hF;exact At.en () rfl sn (aa.U [0,4,5,6,1,2,7,8] rfl rfl)
         ·clear h31;rcases r5 with _|_
          ·rintro⟨⟩;refine Wo.od (kl rfl rfl) rfl<|Wo.nil<|At.tn<|Wk.aC rfl rfl<|Wk.ret<|At.br<|At.tr ?_;cases hF;exact At.en () rfl sn (aa.U [0,1,3,4,5,6] rfl rfl)
          ·rintro⟨⟩;refine Wo.od (kl rfl rfl) rfl<|Wo.nil<|At.tn<|Wk.aD rfl rfl<|Wk.skip<|At.bn<|At.tn<|Wk.region<|Wo.od (ak rfl rfl (aF _ _ _)) rfl<|Wo.od (ae rfl) rfl<|Wo.nil ?_;cases hF;exact At.en () rfl (sc rfl (sc rfl (sc rfl (sc rfl (sc rfl sn))))) (aa.U [0,7,3,1,4,5,6] rfl rfl)
        ·refine Wk.aD rfl h13<|Wk.exit<|At.te ?_;cases hF;exact At.en () rfl sn (aa.U [0,3,2,4,5,6] rfl rfl)
       ·clear h12;rcases r17 with v6|_
        ·rintro⟨⟩;refine At.br ?_;cases hF;exact At.ret .nil fun m' hm=>⟨(),(aa.U [0,1,2,3,4,5] rfl rfl) m' hm⟩
        ·rintro⟨⟩;refine At.be ?_;cases hF;exact At.fin .nil fun m' hm=>⟨(),(aa.U [0,1,2,3,4,5] rfl rfl) m' hm⟩
      ·clear h42;rcases r4 with v13|_
       ·rintro⟨⟩
        change Wk _ _ _ _ .ret _ _ _ _
        refine Wk.ret<|At.br<|At.tr ?_;cases hF;exact At.ret (.cell (k:=2) bz rfl rfl rfl (.cell (k:=3) bz rfl rfl rfl .nil)) fun m' hm=>⟨(),rfl,(aa.U [] rfl rfl) m' hm⟩
       ·rintro⟨⟩
        change At _ .normal _ _ _
        refine At.bn<|At.tn<|Wk.seq<|Wk.seq<|Wk.region<|Wo.od (aj (k:=0) ec rfl rfl rfl) rfl ?_;obtain⟨r13,h48,hF⟩:=J hF;refine Wo.x (uL (α:=Nat) (V:=fun g=>(fun(r:Unit) (g:Nat)=>match r,g with|_,b13=>(.func (.func 86) #[] #[ptr b13 0]:Value)) r13 g) (N:=fun g=>(fun(r:Unit) (g:Nat)=>match r,g with|_,b13=>([.obj b13 (.cells [.slice a0 l1.length c0] .own),.rd a0 c0 2 l1.length (l1.map (eP (eI .i64) (eI .i64))),.obj b6 (.cells [.slice a0 l1.length c0] .own),.obj b3 (.cells [.int .i64 0] .own),.obj b4 (.cells [.int .i64 0] .own),.obj b5 (.cells [.int .i64 (l1.length:Int)] .own)]:List Pc)) r13 g) rfl rfl (fun m hm=>?_)) gn rfl ?_
        ·clear hF;revert r13;intro r hF;refine aU (N:=4) (rs:=[.tmp 2]) rfl Tryz.func63 rfl rfl rfl hm<|Wk.seq<|Wk.region<|Wo.x (cY rfl) gn rfl fun b20=>?_;refine Wo.od (al rfl) rfl<|Wo.nil<|At.tn<|Wk.seq<|Wk.region<|Wo.od (Bm rfl rfl) rfl<|Wo.od (al rfl) rfl<|Wo.nil<|At.tn<|Wk.ret ?_;cases hF;exact At.ret (.tmp rfl .nil) fun m' hm=>⟨b20,rfl,(aa.U [0,2,1,3,4,5] rfl rfl) m' hm⟩
        ·clear h48;rintro b13;refine Wo.nil<|At.tn<|Wk.block ?_;obtain⟨r6,h49,hF⟩:=J hF;refine Wk.range (N:=27) (rs:=[]) (γ:=Unit) (X:=fun g=>(fun(r:(Int) ⊕ (Unit)) (g:Unit)=>(match r,g with | .inl v14,_=>⟨.done,(some .ret),[.obj b6 (.cells [.slice a0 l1.length c0] .own),.rd a0 c0 2 l1.length (l1.map (eP (eI .i64) (eI .i64))),.obj b3 (.cells [.int .i64 4] .own),.obj b4 (.cells [.int .i64 v14] .own),.obj b5 (.cells [.int .i64 (l1.length:Int)] .own)]⟩ | .inr _,_=>⟨.ready,none,[.obj b6 (.cells [.slice a0 l1.length c0] .own),.rd a0 c0 2 l1.length (l1.map (eP (eI .i64) (eI .i64))),.obj b3 (.cells [.int .i64 0] .own),.obj b4 (.cells [.int .i64 0] .own),.obj b5 (.cells [.int .i64 (l1.length:Int)] .own)]⟩:Rn)) r6 g) rfl rfl Tryz.func86 rfl rfl rfl ?_ (fun y=>by rcases r6 with _|_<;>(intro e; cases e)) ?_
         ·clear hF;revert r6;intro r hF;intro t3 l4 r2 h50 h51;refine Wk.seq<|Wk.region<|Wo.od (aj (k:=1) ec rfl rfl rfl) rfl<|Wo.od (dy (k:=2) ic rfl rfl (.inl rfl)) rfl<|Wo.od (ae rfl) rfl<|Wo.nil<|At.tn<|Wk.block ?_;obtain⟨r18,h16,hF⟩:=J hF;refine Wk.cut (G:=(fun(r:(Int) ⊕ (Unit)) (g:Unit)=>match r,g with | .inl v8,_=>⟨.ret,[],[.obj l4 (r2 .done (some .ret)),.obj b6 (.cells [.slice a0 l1.length c0] .own),.rd a0 c0 2 l1.length (l1.map (eP (eI .i64) (eI .i64))),.obj b3 (.cells [.int .i64 4] .own),.obj b4 (.cells [.int .i64 v8] .own),.obj b5 (.cells [.int .i64 (l1.length:Int)] .own)]⟩ | .inr _,_=>⟨(.exit 0),[],[.obj l4 (r2 .ready none),.obj b6 (.cells [.slice a0 l1.length c0] .own),.rd a0 c0 2 l1.length (l1.map (eP (eI .i64) (eI .i64))),.obj b3 (.cells [.int .i64 0] .own),.obj b4 (.cells [.int .i64 0] .own),.obj b5 (.cells [.int .i64 (l1.length:Int)] .own)]⟩) r18) ?_ ?_
          ·refine Wk.fy (fs':=[(0,.func (.yield l4) #[] #[]),(1,ptr b13 0),(5,.slice a0 l1.length c0),(6,.int .i64 (l1.length:Int)),(7,.int .i64 0)]) (ps':=[.obj l4 (r2 .ready none),.obj b13 (.cells [.slice a0 l1.length c0] .own),.rd a0 c0 2 l1.length (l1.map (eP (eI .i64) (eI .i64))),.obj b6 (.cells [.slice a0 l1.length c0] .own),.obj b3 (.cells [.int .i64 0] .own),.obj b4 (.cells [.int .i64 0] .own),.obj b5 (.cells [.int .i64 (l1.length:Int)] .own)]) (sc rfl (sc rfl (sc rfl (sc rfl (sc rfl sn))))) (aa.U [0,1,2,3,4,5,6] rfl rfl) ?_;refine Wk.loop (σ:=Int) (ρ:=(Int) ⊕ (Unit)) (γ:=Unit) (δ:=fun _=>Unit) _ (fun(s:Int) (g:Unit)=>match s,g with|v2,_=>⟨.normal,[(0,.func (.yield l4) #[] #[]),(1,ptr b13 0),(5,.slice a0 l1.length c0),(6,.int .i64 (l1.length:Int)),(7,.int .i64 v2)],[.obj l4 (r2 .ready none),.obj b13 (.cells [.slice a0 l1.length c0] .own),.rd a0 c0 2 l1.length (l1.map (eP (eI .i64) (eI .i64))),.obj b6 (.cells [.slice a0 l1.length c0] .own),.obj b3 (.cells [.int .i64 0] .own),.obj b4 (.cells [.int .i64 0] .own),.obj b5 (.cells [.int .i64 (l1.length:Int)] .own)]⟩) (fun(r:(Int) ⊕ (Unit)) (g:Unit)=>match r,g with | .inl v8,_=>⟨.ret,[],[.obj l4 (r2 .done (some .ret)),.obj b6 (.cells [.slice a0 l1.length c0] .own),.rd a0 c0 2 l1.length (l1.map (eP (eI .i64) (eI .i64))),.obj b3 (.cells [.int .i64 4] .own),.obj b4 (.cells [.int .i64 v8] .own),.obj b5 (.cells [.int .i64 (l1.length:Int)] .own)]⟩ | .inr _,_=>⟨(.exit 0),[],[.obj l4 (r2 .ready none),.obj b6 (.cells [.slice a0 l1.length c0] .own),.rd a0 c0 2 l1.length (l1.map (eP (eI .i64) (eI .i64))),.obj b3 (.cells [.int .i64 0] .own),.obj b4 (.cells [.int .i64 0] .own),.obj b5 (.cells [.int .i64 (l1.length:Int)] .own)]⟩) ?_ (fun _ _=>rfl) (fun r d=>by rcases r with _|_<;>(intro e; cases e)) _ _ _ h16 ()
           clear hF h16;rintro v2 ⟨⟩ r hF;unfold sF at hF;refine Wk.seq<|Wk.region<|Wo.od (ak rfl rfl (bf _ _ _)) rfl<|Wo.nil<|At.tn<|Wk.seq ?_;rcases ah hF with⟨h17,hF⟩|⟨h17,hF⟩
           ·refine Wk.aC rfl h17<|Wk.skip<|At.tn<|Wk.seq<|Wk.block<|Wk.seq<|Wk.region<|Wo.od (ae rfl) rfl ?_;obtain⟨h5,hF⟩:=av hF;replace h5:=ax h5;refine Wo.eD (k:=2) rfl (bU h5) ?_;rintro b10 o2 rfl;refine Wo.og (cM de rfl rfl h5) gn rfl ?_;obtain⟨⟨x12,x13⟩,h52,hF⟩:=J hF;refine Wo.od (cX (k:=0) aA rfl rfl (bp h52) rfl rfl) rfl<|Wo.x (eg z33 rfl) gn rfl fun b28=>?_;refine Wo.od (al rfl) rfl<|Wo.o0 (cT (k:=0) aA rfl rfl rfl rfl rfl)<|Wo.nil<|At.tn<|Wk.seq<|Wk.draw (by kernel_rfl)<|Wo.od (ae rfl) rfl<|Wo.od (ae rfl) rfl<|Wo.od (aj (k:=0) aA rfl rfl rfl) rfl<|Wo.od (aj (k:=3) ec rfl rfl rfl) rfl<|Wo.od (ae rfl) rfl<|Wo.od (ak rfl rfl (aF _ _ _)) rfl<|Wo.od (aj (k:=3) ec rfl rfl rfl) rfl ?_
            refine Wo.od (dy (k:=1) ic rfl rfl (.inl rfl)) rfl ?_;obtain⟨h53,hF⟩:=av hF;refine Wo.od (ak rfl rfl (dg _ _ h53)) rfl ?_;obtain⟨h18,hF⟩:=av hF;replace h18:=ax h18;refine Wo.og (cM de rfl rfl h18) gn rfl ?_;obtain⟨⟨x14,x15⟩,h54,hF⟩:=J hF;refine Wo.od (cX (k:=1) aA rfl rfl (bp h54) rfl rfl) rfl<|Wo.od (eK rfl Cy rfl (eA B6 rfl rfl rfl)) rfl ?_;obtain⟨r7,h32,hF⟩:=J hF;refine Wo.x (BQ (k:=2) (k1:=0) (γA:=Nat) (GA:=(fun g:Nat=>(match g with|b9=>⟨.normal,[(1,ptr b6 0),(2,ptr b3 0),(3,ptr b4 0),(4,ptr b5 0),(7,ptr b9 0)],[.obj l4 (r2 .ready none),.obj b6 (.cells [.slice (some ⟨b10,o2,none⟩) l1.length c0] .own),.ro b10 o2 2 l1.length (l1.map (eP (eI .i64) (eI .i64))),.rd (some ⟨b10,o2,none⟩) c0 2 l1.length (l1.map (eP (eI .i64) (eI .i64))),.obj b3 (.cells [.int .i64 0] .own),.obj b4 (.cells [.int .i64 0] .own),.obj b5 (.cells [.int .i64 (l1.length:Int)] .own),.obj b9 (.cells [.int .i64 v2,.int .i64 x12,.int .i64 x13,.int .i64 x14,.int .i64 x15] .own),.obj b13 (.cells [.slice (some ⟨b10,o2,none⟩) l1.length c0] .own)]⟩:En))) (γ:=Unit) (G:=fun g=>(fun(r:(Unit) ⊕ (Unit)) (g:Unit)=>(match r,g with | .inl _,_=>⟨.ret,[],[.obj l4 (r2 .busy none),.obj b6 (.cells [.slice (some ⟨b10,o2,none⟩) l1.length c0] .own),.ro b10 o2 2 l1.length (l1.map (eP (eI .i64) (eI .i64))),.rd (some ⟨b10,o2,none⟩) c0 2 l1.length (l1.map (eP (eI .i64) (eI .i64))),.obj b3 (.cells [.int .i64 4] .own),.obj b4 (.cells [.int .i64 v2] .own),.obj b5 (.cells [.int .i64 (l1.length:Int)] .own),.obj b13 (.cells [.slice (some ⟨b10,o2,none⟩) l1.length c0] .own)]⟩ | .inr _,_=>⟨.normal,[],[.obj l4 (r2 .busy none),.obj b6 (.cells [.slice (some ⟨b10,o2,none⟩) l1.length c0] .own),.ro b10 o2 2 l1.length (l1.map (eP (eI .i64) (eI .i64))),.rd (some ⟨b10,o2,none⟩) c0 2 l1.length (l1.map (eP (eI .i64) (eI .i64))),.obj b3 (.cells [.int .i64 0] .own),.obj b4 (.cells [.int .i64 0] .own),.obj b5 (.cells [.int .i64 (l1.length:Int)] .own),.obj b13 (.cells [.slice (some ⟨b10,o2,none⟩) l1.length c0] .own)]⟩:En)) r7 g) rfl rfl rfl h51 h50 rfl ?_ (fun _=>rfl) (fun _=>rfl) ?_ (fun y=>by rcases r7 with _|_<;>rfl)) gn rfl ?_
            ·clear hF h32;refine Wk.region<|Wo.x (eg Cy rfl) gn rfl fun b21=>?_;refine Wo.o0 (cT (k:=0) tD rfl rfl rfl rfl rfl)<|Wo.nil ?_;exact At.en b21 rfl (sc rfl (sc rfl (sc rfl (sc rfl (sc rfl sn))))) (aa.U [3,6,2,5,7,8,9,0,4] rfl rfl)
            ·clear hF;revert r7;intro r hF;rintro b9;refine Wk.block<|Wk.seq<|Wk.draw (by kernel_rfl)<|Wo.od (aj (k:=1) ec rfl rfl rfl) rfl<|Wo.od (ay (r:=ptr b9 0) rfl (iA _ _)) rfl<|Wo.od (aj (k:=7) bz rfl rfl rfl) rfl<|Wo.od (aj (k:=6) bz rfl rfl rfl) rfl<|Wo.od (ak rfl rfl (aF _ _ _)) rfl<|Wo.od (ak rfl rfl (bl _ _ _)) rfl<|Wo.od (aj (k:=6) bz rfl rfl rfl) rfl ?_
             obtain⟨h55,hF⟩:=av hF;obtain⟨y0,h56,hF⟩:=J hF;refine Wo.od (ak rfl rfl ((dg _ _ h55).trans (cI h56))) rfl ?_;obtain⟨h19,hF⟩:=av hF;replace h19:=ax h19;refine Wo.og (cM de rfl rfl h19) gn rfl ?_;obtain⟨⟨x26,x27⟩,h57,hF⟩:=J hF;refine Wo.od (cX (k:=2) aA rfl rfl (bp h57) rfl rfl) rfl<|Wo.x (eg z33 rfl) gn rfl fun b17=>?_;refine Wo.o0 (cT (k:=0) aA rfl rfl rfl rfl rfl)<|Wo.nil<|At.tn<|Wk.seq ?_;obtain⟨v9,h58,hF⟩:=J hF;refine Wk.cut (G:=(fun(r:Bool) (g:Unit)=>match r,g with|v9,_=>⟨.normal,[(1,ptr b6 0),(2,ptr b3 0),(3,ptr b4 0),(4,ptr b5 0),(7,ptr b9 0),(85,.bool v9)],[.obj l4 (r2 .busy none),.obj b6 (.cells [.slice (some ⟨b10,o2,none⟩) l1.length c0] .own),.ro b10 o2 2 l1.length (l1.map (eP (eI .i64) (eI .i64))),.rd (some ⟨b10,o2,none⟩) c0 2 l1.length (l1.map (eP (eI .i64) (eI .i64))),.obj b3 (.cells [.int .i64 0] .own),.obj b4 (.cells [.int .i64 0] .own),.obj b5 (.cells [.int .i64 (l1.length:Int)] .own),.obj b9 (.cells [.int .i64 v2,.int .i64 x12,.int .i64 x13,.int .i64 x14,.int .i64 x15] .own),.obj b13 (.cells [.slice (some ⟨b10,o2,none⟩) l1.length c0] .own)]⟩) v9) ?_ ?_
             ·clear hF;revert v9;intro r hF;refine Wk.region<|Wo.od (aj (k:=0) aA rfl rfl rfl) rfl<|Wo.od (ay (r:=ptr b9 1) rfl (dm _ _)) rfl<|Wo.od (aj (k:=8) aA rfl rfl rfl) rfl<|Wo.od (ay (r:=ptr b9 3) rfl (dQ _ _)) rfl<|Wo.od (aj (k:=8) aA rfl rfl rfl) rfl ?_;obtain⟨r22,h59,hF⟩:=J hF;refine Wo.x (cQ rfl rfl (fun m hm=>ly n x26 x27 x12 x13 x14 x15  _ h59 m) fun _=>rfl) gn rfl ?_;rintro⟨⟩;refine Wo.od (ak rfl rfl (cN _ _ _)) rfl<|Wo.od (ae rfl) rfl ?_;rcases ah hF with⟨h0,hF⟩|⟨h0,hF⟩
              ·refine Wo.og (ay (r:=ptr b9 1) rfl (dm _ _)) (gg rfl rfl (cx h0)) rfl<|Wo.og (ay (r:=ptr b9 1) rfl (aV _ _)) (gg rfl rfl (cx h0)) rfl<|Wo.og (aj (k:=8) bz rfl rfl rfl) (gg rfl rfl (cx h0)) rfl<|Wo.og (ay (r:=ptr b17 0) rfl (aV _ _)) (gg rfl rfl (cx h0)) rfl<|Wo.og (aj (k:=0) bz rfl rfl rfl) (gg rfl rfl (cx h0)) rfl<|Wo.og (ak rfl rfl (bl _ _ _)) (gg rfl rfl (cx h0)) rfl<|Wo.og (ay (r:=ptr b9 3) rfl (dQ _ _)) (gg rfl rfl (cx h0)) rfl<|Wo.og (ay (r:=ptr b9 3) rfl (aV _ _)) (gg rfl rfl (cx h0)) rfl<|Wo.og (aj (k:=8) bz rfl rfl rfl) (gg rfl rfl (cx h0)) rfl<|Wo.og (ay (r:=ptr b9 1) rfl (dm _ _)) (gg rfl rfl (cx h0)) rfl ?_;refine Wo.og (ay (r:=ptr b9 1) rfl (aV _ _)) (gg rfl rfl (cx h0)) rfl<|Wo.og (aj (k:=8) bz rfl rfl rfl) (gg rfl rfl (cx h0)) rfl<|Wo.og (ak rfl rfl (bl _ _ _)) (gg rfl rfl (cx h0)) rfl ?_;obtain⟨y1,h60,hF⟩:=J hF;refine Wo.og (ak rfl rfl ((bY _ _ _).trans (cI h60))) (gg rfl rfl (cx h0)) rfl<|Wo.og (ay (r:=ptr b9 1) rfl (dm _ _)) (gg rfl rfl (cx h0)) rfl<|Wo.og (ay (r:=ptr b9 2) rfl (aY _ _)) (gg rfl rfl (cx h0)) rfl<|Wo.og (aj (k:=8) bz rfl rfl rfl) (gg rfl rfl (cx h0)) rfl<|Wo.og (ay (r:=ptr b17 1) rfl (aY _ _)) (gg rfl rfl (cx h0)) rfl<|Wo.og (aj (k:=0) bz rfl rfl rfl) (gg rfl rfl (cx h0)) rfl<|Wo.og (ak rfl rfl (bl _ _ _)) (gg rfl rfl (cx h0)) rfl<|Wo.og (ay (r:=ptr b9 3) rfl (dQ _ _)) (gg rfl rfl (cx h0)) rfl<|Wo.og (ay (r:=ptr b9 4) rfl (aY _ _)) (gg rfl rfl (cx h0)) rfl<|Wo.og (aj (k:=8) bz rfl rfl rfl) (gg rfl rfl (cx h0)) rfl ?_;refine Wo.og (ay (r:=ptr b9 1) rfl (dm _ _)) (gg rfl rfl (cx h0)) rfl<|Wo.og (ay (r:=ptr b9 2) rfl (aY _ _)) (gg rfl rfl (cx h0)) rfl<|Wo.og (aj (k:=8) bz rfl rfl rfl) (gg rfl rfl (cx h0)) rfl<|Wo.og (ak rfl rfl (bl _ _ _)) (gg rfl rfl (cx h0)) rfl ?_;obtain⟨y2,h61,hF⟩:=J hF;refine Wo.og (ak rfl rfl ((bY _ _ _).trans (cI h61))) (gg rfl rfl (cx h0)) rfl<|Wo.og (ak rfl rfl (aF _ _ _)) (gg rfl rfl (cx h0)) rfl<|Wo.og (ak rfl rfl (bf _ _ _)) (gg rfl rfl (cx h0)) rfl<|Wo.od (fb rfl h0 rfl) rfl<|Wo.nil ?_;cases hF;exact At.en () rfl (sc rfl (sc rfl (sc rfl (sc rfl (sc rfl (sc rfl sn)))))) (aa.U [1,2,3,4,5,6,7,8,9] rfl rfl)
              ·refine Wo.s (gg rfl rfl (cw h0)) rfl<|Wo.s (gg rfl rfl (cw h0)) rfl<|Wo.s (gg rfl rfl (cw h0)) rfl<|Wo.s (gg rfl rfl (cw h0)) rfl<|Wo.s (gg rfl rfl (cw h0)) rfl<|Wo.s (gg rfl rfl (cw h0)) rfl<|Wo.s (gg rfl rfl (cw h0)) rfl<|Wo.s (gg rfl rfl (cw h0)) rfl<|Wo.s (gg rfl rfl (cw h0)) rfl<|Wo.s (gg rfl rfl (cw h0)) rfl ?_;refine Wo.s (gg rfl rfl (cw h0)) rfl<|Wo.s (gg rfl rfl (cw h0)) rfl<|Wo.s (gg rfl rfl (cw h0)) rfl<|Wo.s (gg rfl rfl (cw h0)) rfl<|Wo.s (gg rfl rfl (cw h0)) rfl<|Wo.s (gg rfl rfl (cw h0)) rfl<|Wo.s (gg rfl rfl (cw h0)) rfl<|Wo.s (gg rfl rfl (cw h0)) rfl<|Wo.s (gg rfl rfl (cw h0)) rfl<|Wo.s (gg rfl rfl (cw h0)) rfl ?_;refine Wo.s (gg rfl rfl (cw h0)) rfl<|Wo.s (gg rfl rfl (cw h0)) rfl<|Wo.s (gg rfl rfl (cw h0)) rfl<|Wo.s (gg rfl rfl (cw h0)) rfl<|Wo.s (gg rfl rfl (cw h0)) rfl<|Wo.s (gg rfl rfl (cw h0)) rfl<|Wo.s (gg rfl rfl (cw h0)) rfl<|Wo.s (gg rfl rfl (cw h0)) rfl<|Wo.s (gg rfl rfl (cw h0)) rfl<|Wo.s (gg rfl rfl (cw h0)) rfl ?_;refine Wo.od (fc rfl h0 rfl) rfl<|Wo.nil ?_;cases hF;exact At.en () rfl (sc rfl (sc rfl (sc rfl (sc rfl (sc rfl (sc rfl sn)))))) (aa.U [1,2,3,4,5,6,7,8,9] rfl rfl)
             ·clear h58;rintro⟨⟩;refine At.tn ?_;rcases ah hF with⟨h20,hF⟩|⟨h20,hF⟩
              ·refine Wk.aC rfl h20<|Wk.seq<|Wk.fH (prs:=[(1,2)]) (by kernel_rfl)<|Wn.od (ay (r:=ptr b9 0) rfl (iA _ _)) rfl<|Wn.DJ rfl (aj (k:=7) bz rfl rfl rfl) rfl<|Wn.Eo rfl (cT (k:=4) bz rfl rfl rfl rfl rfl)<|Wn.o0 (cT (k:=5) bz rfl rfl rfl rfl rfl)<|Wn.nil (fun m hm=>(eO.rw rfl rfl rfl (hm.ne (i:=7) (j:=4) rfl rfl rfl rfl (by decide) rfl) eO.nil))<|At.tn<|Wk.ret<|At.br ?_
               cases hF;exact At.en () rfl sn (aa.U [0,1,2,3,4,5,6,8] rfl rfl)
              ·refine Wk.aD rfl h20<|Wk.skip<|At.bn ?_;cases hF;exact At.en () rfl sn (aa.U [0,1,2,3,4,5,6,8] rfl rfl)
            ·clear h32;rcases r7 with _|_
             ·rintro⟨⟩;refine Wo.od (kl rfl rfl) rfl<|Wo.nil<|At.tn<|Wk.aC rfl rfl<|Wk.ret<|At.br<|At.tr ?_;cases hF;exact At.en () rfl sn (aa.U [0,1,3,4,5,6] rfl rfl)
             ·rintro⟨⟩;refine Wo.od (kl rfl rfl) rfl<|Wo.nil<|At.tn<|Wk.aD rfl rfl<|Wk.skip<|At.bn<|At.tn<|Wk.region<|Wo.od (ak rfl rfl (aF _ _ _)) rfl<|Wo.od (ae rfl) rfl<|Wo.nil ?_;cases hF;exact At.en () rfl (sc rfl (sc rfl (sc rfl (sc rfl (sc rfl sn))))) (aa.U [0,7,3,1,4,5,6] rfl rfl)
           ·refine Wk.aD rfl h17<|Wk.exit<|At.te ?_;cases hF;exact At.en () rfl sn (aa.U [0,3,2,4,5,6] rfl rfl)
          ·clear h16;rcases r18 with v8|_
           ·rintro⟨⟩;refine At.br ?_;cases hF;exact At.ret .nil fun m' hm=>⟨(),(aa.U [0,1,2,3,4,5] rfl rfl) m' hm⟩
           ·rintro⟨⟩;refine At.be ?_;cases hF;exact At.fin .nil fun m' hm=>⟨(),(aa.U [0,1,2,3,4,5] rfl rfl) m' hm⟩
         ·clear h49;rcases r6 with v14|_
          ·rintro⟨⟩
           change Wk _ _ _ _ .ret _ _ _ _
           refine Wk.ret<|At.br<|At.tr ?_;cases hF;exact At.ret (.cell (k:=2) bz rfl rfl rfl (.cell (k:=3) bz rfl rfl rfl .nil)) fun m' hm=>⟨(),rfl,(aa.U [] rfl rfl) m' hm⟩
          ·rintro⟨⟩
           change At _ .normal _ _ _
           refine At.bn<|At.tn<|Wk.seq<|Wk.seq<|Wk.region<|Wo.od (aj (k:=0) ec rfl rfl rfl) rfl ?_;obtain⟨r14,h62,hF⟩:=J hF;refine Wo.x (uL (α:=Nat) (V:=fun g=>(fun(r:Unit) (g:Nat)=>match r,g with|_,b7=>(.func (.func 86) #[] #[ptr b7 0]:Value)) r14 g) (N:=fun g=>(fun(r:Unit) (g:Nat)=>match r,g with|_,b7=>([.obj b7 (.cells [.slice a0 l1.length c0] .own),.rd a0 c0 2 l1.length (l1.map (eP (eI .i64) (eI .i64))),.obj b6 (.cells [.slice a0 l1.length c0] .own),.obj b3 (.cells [.int .i64 0] .own),.obj b4 (.cells [.int .i64 0] .own),.obj b5 (.cells [.int .i64 (l1.length:Int)] .own)]:List Pc)) r14 g) rfl rfl (fun m hm=>?_)) gn rfl ?_
           ·clear hF;revert r14;intro r hF;refine aU (N:=4) (rs:=[.tmp 2]) rfl Tryz.func63 rfl rfl rfl hm<|Wk.seq<|Wk.region<|Wo.x (cY rfl) gn rfl fun b22=>?_;refine Wo.od (al rfl) rfl<|Wo.nil<|At.tn<|Wk.seq<|Wk.region<|Wo.od (Bm rfl rfl) rfl<|Wo.od (al rfl) rfl<|Wo.nil<|At.tn<|Wk.ret ?_;cases hF;exact At.ret (.tmp rfl .nil) fun m' hm=>⟨b22,rfl,(aa.U [0,2,1,3,4,5] rfl rfl) m' hm⟩
           ·clear h62;rintro b7;refine Wo.nil<|At.tn<|Wk.block ?_;obtain⟨r8,h63,hF⟩:=J hF;refine Wk.range (N:=27) (rs:=[]) (γ:=Unit) (X:=fun g=>(fun(r:(Int) ⊕ (Unit)) (g:Unit)=>(match r,g with | .inl v15,_=>⟨.done,(some .ret),[.obj b6 (.cells [.slice a0 l1.length c0] .own),.rd a0 c0 2 l1.length (l1.map (eP (eI .i64) (eI .i64))),.obj b3 (.cells [.int .i64 5] .own),.obj b4 (.cells [.int .i64 v15] .own),.obj b5 (.cells [.int .i64 (l1.length:Int)] .own)]⟩ | .inr _,_=>⟨.ready,none,[.obj b6 (.cells [.slice a0 l1.length c0] .own),.rd a0 c0 2 l1.length (l1.map (eP (eI .i64) (eI .i64))),.obj b3 (.cells [.int .i64 0] .own),.obj b4 (.cells [.int .i64 0] .own),.obj b5 (.cells [.int .i64 (l1.length:Int)] .own)]⟩:Rn)) r8 g) rfl rfl Tryz.func86 rfl rfl rfl ?_ (fun y=>by rcases r8 with _|_<;>(intro e; cases e)) ?_
            ·clear hF;revert r8;intro r hF;intro t4 l2 r0 h64 h33;refine Wk.seq<|Wk.region<|Wo.od (aj (k:=1) ec rfl rfl rfl) rfl<|Wo.od (dy (k:=2) ic rfl rfl (.inl rfl)) rfl<|Wo.od (ae rfl) rfl<|Wo.nil<|At.tn<|Wk.block ?_;obtain⟨r19,h21,hF⟩:=J hF;refine Wk.cut (G:=(fun(r:(Int) ⊕ (Unit)) (g:Unit)=>match r,g with | .inl v10,_=>⟨.ret,[],[.obj l2 (r0 .done (some .ret)),.obj b6 (.cells [.slice a0 l1.length c0] .own),.rd a0 c0 2 l1.length (l1.map (eP (eI .i64) (eI .i64))),.obj b3 (.cells [.int .i64 5] .own),.obj b4 (.cells [.int .i64 v10] .own),.obj b5 (.cells [.int .i64 (l1.length:Int)] .own)]⟩ | .inr _,_=>⟨(.exit 0),[],[.obj l2 (r0 .ready none),.obj b6 (.cells [.slice a0 l1.length c0] .own),.rd a0 c0 2 l1.length (l1.map (eP (eI .i64) (eI .i64))),.obj b3 (.cells [.int .i64 0] .own),.obj b4 (.cells [.int .i64 0] .own),.obj b5 (.cells [.int .i64 (l1.length:Int)] .own)]⟩) r19) ?_ ?_
             ·refine Wk.fy (fs':=[(0,.func (.yield l2) #[] #[]),(1,ptr b7 0),(5,.slice a0 l1.length c0),(6,.int .i64 (l1.length:Int)),(7,.int .i64 0)]) (ps':=[.obj l2 (r0 .ready none),.obj b7 (.cells [.slice a0 l1.length c0] .own),.rd a0 c0 2 l1.length (l1.map (eP (eI .i64) (eI .i64))),.obj b6 (.cells [.slice a0 l1.length c0] .own),.obj b3 (.cells [.int .i64 0] .own),.obj b4 (.cells [.int .i64 0] .own),.obj b5 (.cells [.int .i64 (l1.length:Int)] .own)]) (sc rfl (sc rfl (sc rfl (sc rfl (sc rfl sn))))) (aa.U [0,1,2,3,4,5,6] rfl rfl) ?_;refine Wk.loop (σ:=Int) (ρ:=(Int) ⊕ (Unit)) (γ:=Unit) (δ:=fun _=>Unit) _ (fun(s:Int) (g:Unit)=>match s,g with|v0,_=>⟨.normal,[(0,.func (.yield l2) #[] #[]),(1,ptr b7 0),(5,.slice a0 l1.length c0),(6,.int .i64 (l1.length:Int)),(7,.int .i64 v0)],[.obj l2 (r0 .ready none),.obj b7 (.cells [.slice a0 l1.length c0] .own),.rd a0 c0 2 l1.length (l1.map (eP (eI .i64) (eI .i64))),.obj b6 (.cells [.slice a0 l1.length c0] .own),.obj b3 (.cells [.int .i64 0] .own),.obj b4 (.cells [.int .i64 0] .own),.obj b5 (.cells [.int .i64 (l1.length:Int)] .own)]⟩) (fun(r:(Int) ⊕ (Unit)) (g:Unit)=>match r,g with | .inl v10,_=>⟨.ret,[],[.obj l2 (r0 .done (some .ret)),.obj b6 (.cells [.slice a0 l1.length c0] .own),.rd a0 c0 2 l1.length (l1.map (eP (eI .i64) (eI .i64))),.obj b3 (.cells [.int .i64 5] .own),.obj b4 (.cells [.int .i64 v10] .own),.obj b5 (.cells [.int .i64 (l1.length:Int)] .own)]⟩ | .inr _,_=>⟨(.exit 0),[],[.obj l2 (r0 .ready none),.obj b6 (.cells [.slice a0 l1.length c0] .own),.rd a0 c0 2 l1.length (l1.map (eP (eI .i64) (eI .i64))),.obj b3 (.cells [.int .i64 0] .own),.obj b4 (.cells [.int .i64 0] .own),.obj b5 (.cells [.int .i64 (l1.length:Int)] .own)]⟩) ?_ (fun _ _=>rfl) (fun r d=>by rcases r with _|_<;>(intro e; cases e)) _ _ _ h21 ()
              clear hF h21;rintro v0 ⟨⟩ r hF;unfold sw at hF;refine Wk.seq<|Wk.region<|Wo.od (ak rfl rfl (bf _ _ _)) rfl<|Wo.nil<|At.tn<|Wk.seq ?_;rcases ah hF with⟨h22,hF⟩|⟨h22,hF⟩
              ·refine Wk.aC rfl h22<|Wk.skip<|At.tn<|Wk.seq<|Wk.block<|Wk.seq<|Wk.region<|Wo.od (ae rfl) rfl ?_;obtain⟨h6,hF⟩:=av hF;replace h6:=ax h6;refine Wo.eD (k:=2) rfl (bU h6) ?_;rintro b0 o1 rfl;refine Wo.og (cM de rfl rfl h6) gn rfl ?_;obtain⟨⟨x3,x4⟩,h65,hF⟩:=J hF;refine Wo.od (cX (k:=0) aA rfl rfl (bp h65) rfl rfl) rfl<|Wo.x (eg z33 rfl) gn rfl fun b29=>?_;refine Wo.od (al rfl) rfl<|Wo.o0 (cT (k:=0) aA rfl rfl rfl rfl rfl)<|Wo.nil<|At.tn<|Wk.seq<|Wk.draw (by kernel_rfl)<|Wo.od (ae rfl) rfl<|Wo.od (ae rfl) rfl<|Wo.od (aj (k:=0) aA rfl rfl rfl) rfl<|Wo.od (aj (k:=3) ec rfl rfl rfl) rfl<|Wo.od (ae rfl) rfl<|Wo.od (ak rfl rfl (aF _ _ _)) rfl<|Wo.od (aj (k:=3) ec rfl rfl rfl) rfl ?_
               refine Wo.od (dy (k:=1) ic rfl rfl (.inl rfl)) rfl ?_;obtain⟨h66,hF⟩:=av hF;refine Wo.od (ak rfl rfl (dg _ _ h66)) rfl ?_;obtain⟨h23,hF⟩:=av hF;replace h23:=ax h23;refine Wo.og (cM de rfl rfl h23) gn rfl ?_;obtain⟨⟨x10,x11⟩,h67,hF⟩:=J hF;refine Wo.od (cX (k:=1) aA rfl rfl (bp h67) rfl rfl) rfl<|Wo.od (eK rfl Cy rfl (eA B6 rfl rfl rfl)) rfl ?_;obtain⟨r9,h34,hF⟩:=J hF;refine Wo.x (BQ (k:=2) (k1:=0) (γA:=Nat) (GA:=(fun g:Nat=>(match g with|b8=>⟨.normal,[(1,ptr b6 0),(2,ptr b3 0),(3,ptr b4 0),(4,ptr b5 0),(9,ptr b8 0)],[.obj l2 (r0 .ready none),.obj b6 (.cells [.slice (some ⟨b0,o1,none⟩) l1.length c0] .own),.ro b0 o1 2 l1.length (l1.map (eP (eI .i64) (eI .i64))),.rd (some ⟨b0,o1,none⟩) c0 2 l1.length (l1.map (eP (eI .i64) (eI .i64))),.obj b3 (.cells [.int .i64 0] .own),.obj b4 (.cells [.int .i64 0] .own),.obj b5 (.cells [.int .i64 (l1.length:Int)] .own),.obj b8 (.cells [.int .i64 v0,.int .i64 x3,.int .i64 x4,.int .i64 x10,.int .i64 x11] .own),.obj b7 (.cells [.slice (some ⟨b0,o1,none⟩) l1.length c0] .own)]⟩:En))) (γ:=Unit) (G:=fun g=>(fun(r:(Unit) ⊕ (Unit)) (g:Unit)=>(match r,g with | .inl _,_=>⟨.normal,[],[.obj l2 (r0 .busy none),.obj b6 (.cells [.slice (some ⟨b0,o1,none⟩) l1.length c0] .own),.ro b0 o1 2 l1.length (l1.map (eP (eI .i64) (eI .i64))),.rd (some ⟨b0,o1,none⟩) c0 2 l1.length (l1.map (eP (eI .i64) (eI .i64))),.obj b3 (.cells [.int .i64 0] .own),.obj b4 (.cells [.int .i64 0] .own),.obj b5 (.cells [.int .i64 (l1.length:Int)] .own),.obj b7 (.cells [.slice (some ⟨b0,o1,none⟩) l1.length c0] .own)]⟩ | .inr _,_=>⟨.ret,[],[.obj l2 (r0 .busy none),.obj b6 (.cells [.slice (some ⟨b0,o1,none⟩) l1.length c0] .own),.ro b0 o1 2 l1.length (l1.map (eP (eI .i64) (eI .i64))),.rd (some ⟨b0,o1,none⟩) c0 2 l1.length (l1.map (eP (eI .i64) (eI .i64))),.obj b3 (.cells [.int .i64 5] .own),.obj b4 (.cells [.int .i64 v0] .own),.obj b5 (.cells [.int .i64 (l1.length:Int)] .own),.obj b7 (.cells [.slice (some ⟨b0,o1,none⟩) l1.length c0] .own)]⟩:En)) r9 g) rfl rfl rfl h33 h64 rfl ?_ (fun _=>rfl) (fun _=>rfl) ?_ (fun y=>by rcases r9 with _|_<;>rfl)) gn rfl ?_
               ·clear hF h34;refine Wk.region<|Wo.x (eg Cy rfl) gn rfl fun b23=>?_;refine Wo.o0 (cT (k:=0) tD rfl rfl rfl rfl rfl)<|Wo.nil ?_;exact At.en b23 rfl (sc rfl (sc rfl (sc rfl (sc rfl (sc rfl sn))))) (aa.U [3,6,2,5,7,8,9,0,4] rfl rfl)
               ·clear hF;revert r9;intro r hF;rintro b8;refine Wk.block<|Wk.seq<|Wk.region<|Wo.od (aj (k:=1) ec rfl rfl rfl) rfl ?_;obtain⟨r15,h68,hF⟩:=J hF;refine Wo.x (uL (α:=Nat) (V:=fun g=>(fun(r:Unit) (g:Nat)=>match r,g with|_,b11=>(.func (.func 86) #[] #[ptr b11 0]:Value)) r15 g) (N:=fun g=>(fun(r:Unit) (g:Nat)=>match r,g with|_,b11=>([.obj l2 (r0 .busy none),.obj b11 (.cells [.slice (some ⟨b0,o1,none⟩) l1.length c0] .own),.ro b0 o1 2 l1.length (l1.map (eP (eI .i64) (eI .i64))),.rd (some ⟨b0,o1,none⟩) c0 2 l1.length (l1.map (eP (eI .i64) (eI .i64))),.obj b6 (.cells [.slice (some ⟨b0,o1,none⟩) l1.length c0] .own),.obj b3 (.cells [.int .i64 0] .own),.obj b4 (.cells [.int .i64 0] .own),.obj b5 (.cells [.int .i64 (l1.length:Int)] .own),.obj b7 (.cells [.slice (some ⟨b0,o1,none⟩) l1.length c0] .own),.obj b8 (.cells [.int .i64 v0,.int .i64 x3,.int .i64 x4,.int .i64 x10,.int .i64 x11] .own)]:List Pc)) r15 g) rfl rfl (fun m hm=>?_)) gn rfl ?_
                ·clear hF;revert r15;intro r hF;refine aU (N:=4) (rs:=[.tmp 2]) rfl Tryz.func63 rfl rfl rfl hm<|Wk.seq<|Wk.region<|Wo.x (cY rfl) gn rfl fun b24=>?_;refine Wo.od (al rfl) rfl<|Wo.nil<|At.tn<|Wk.seq<|Wk.region<|Wo.od (Bm rfl rfl) rfl<|Wo.od (al rfl) rfl<|Wo.nil<|At.tn<|Wk.ret ?_;cases hF;exact At.ret (.tmp rfl .nil) fun m' hm=>⟨b24,rfl,(aa.U [1,0,3,4,2,5,6,7,9,8] rfl rfl) m' hm⟩
                ·clear h68;rintro b11;refine Wo.nil<|At.tn<|Wk.block ?_;obtain⟨r10,h69,hF⟩:=J hF;refine Wk.DG (k0:=0) (N:=27) (rs:=[]) (γ:=Unit) (X:=fun g=>(fun(r:(Unit) ⊕ ((Unit) ⊕ (Unit))) (g:Unit)=>(match r,g with | .inl _,_=>⟨.done,(some (.exit 6)),[.obj l2 (r0 .busy none),.obj b6 (.cells [.slice (some ⟨b0,o1,none⟩) l1.length c0] .own),.ro b0 o1 2 l1.length (l1.map (eP (eI .i64) (eI .i64))),.rd (some ⟨b0,o1,none⟩) c0 2 l1.length (l1.map (eP (eI .i64) (eI .i64))),.obj b3 (.cells [.int .i64 0] .own),.obj b4 (.cells [.int .i64 0] .own),.obj b5 (.cells [.int .i64 (l1.length:Int)] .own),.obj b7 (.cells [.slice (some ⟨b0,o1,none⟩) l1.length c0] .own),.obj b8 (.cells [.int .i64 v0,.int .i64 x3,.int .i64 x4,.int .i64 x10,.int .i64 x11] .own)]⟩ | .inr (.inl _),_=>⟨.done,(some .ret),[.obj l2 (r0 .busy none),.obj b6 (.cells [.slice (some ⟨b0,o1,none⟩) l1.length c0] .own),.ro b0 o1 2 l1.length (l1.map (eP (eI .i64) (eI .i64))),.rd (some ⟨b0,o1,none⟩) c0 2 l1.length (l1.map (eP (eI .i64) (eI .i64))),.obj b3 (.cells [.int .i64 5] .own),.obj b4 (.cells [.int .i64 v0] .own),.obj b5 (.cells [.int .i64 (l1.length:Int)] .own),.obj b7 (.cells [.slice (some ⟨b0,o1,none⟩) l1.length c0] .own),.obj b8 (.cells [.int .i64 v0,.int .i64 x3,.int .i64 x4,.int .i64 x10,.int .i64 x11] .own)]⟩ | .inr (.inr _),_=>⟨.ready,none,[.obj l2 (r0 .busy none),.obj b6 (.cells [.slice (some ⟨b0,o1,none⟩) l1.length c0] .own),.ro b0 o1 2 l1.length (l1.map (eP (eI .i64) (eI .i64))),.rd (some ⟨b0,o1,none⟩) c0 2 l1.length (l1.map (eP (eI .i64) (eI .i64))),.obj b3 (.cells [.int .i64 0] .own),.obj b4 (.cells [.int .i64 0] .own),.obj b5 (.cells [.int .i64 (l1.length:Int)] .own),.obj b7 (.cells [.slice (some ⟨b0,o1,none⟩) l1.length c0] .own),.obj b8 (.cells [.int .i64 v0,.int .i64 x3,.int .i64 x4,.int .i64 x10,.int .i64 x11] .own)]⟩:Rn)) r10 g) rfl rfl Tryz.func86 rfl rfl rfl h33 rfl ?_ (fun y=>by rcases r10 with _|_|_<;>(intro e; cases e)) ?_
                 ·clear hF;revert r10;intro r hF;intro t5 l3 r1 h70 h71;refine Wk.seq<|Wk.region<|Wo.od (aj (k:=2) ec rfl rfl rfl) rfl<|Wo.od (dy (k:=3) ic rfl rfl (.inl rfl)) rfl<|Wo.od (ae rfl) rfl<|Wo.nil<|At.tn<|Wk.block ?_;obtain⟨r20,h24,hF⟩:=J hF;refine Wk.cut (G:=(fun(r:(Unit) ⊕ ((Unit) ⊕ (Unit))) (g:Unit)=>match r,g with | .inl _,_=>⟨.ret,[],[.obj l3 (r1 .done (some (.exit 6))),.obj l2 (r0 .busy none),.obj b6 (.cells [.slice (some ⟨b0,o1,none⟩) l1.length c0] .own),.ro b0 o1 2 l1.length (l1.map (eP (eI .i64) (eI .i64))),.rd (some ⟨b0,o1,none⟩) c0 2 l1.length (l1.map (eP (eI .i64) (eI .i64))),.obj b3 (.cells [.int .i64 0] .own),.obj b4 (.cells [.int .i64 0] .own),.obj b5 (.cells [.int .i64 (l1.length:Int)] .own),.obj b7 (.cells [.slice (some ⟨b0,o1,none⟩) l1.length c0] .own),.obj b8 (.cells [.int .i64 v0,.int .i64 x3,.int .i64 x4,.int .i64 x10,.int .i64 x11] .own)]⟩ | .inr (.inl _),_=>⟨.ret,[],[.obj l3 (r1 .done (some .ret)),.obj l2 (r0 .busy none),.obj b6 (.cells [.slice (some ⟨b0,o1,none⟩) l1.length c0] .own),.ro b0 o1 2 l1.length (l1.map (eP (eI .i64) (eI .i64))),.rd (some ⟨b0,o1,none⟩) c0 2 l1.length (l1.map (eP (eI .i64) (eI .i64))),.obj b3 (.cells [.int .i64 5] .own),.obj b4 (.cells [.int .i64 v0] .own),.obj b5 (.cells [.int .i64 (l1.length:Int)] .own),.obj b7 (.cells [.slice (some ⟨b0,o1,none⟩) l1.length c0] .own),.obj b8 (.cells [.int .i64 v0,.int .i64 x3,.int .i64 x4,.int .i64 x10,.int .i64 x11] .own)]⟩ | .inr (.inr _),_=>⟨(.exit 0),[],[.obj l3 (r1 .ready none),.obj l2 (r0 .busy none),.obj b6 (.cells [.slice (some ⟨b0,o1,none⟩) l1.length c0] .own),.ro b0 o1 2 l1.length (l1.map (eP (eI .i64) (eI .i64))),.rd (some ⟨b0,o1,none⟩) c0 2 l1.length (l1.map (eP (eI .i64) (eI .i64))),.obj b3 (.cells [.int .i64 0] .own),.obj b4 (.cells [.int .i64 0] .own),.obj b5 (.cells [.int .i64 (l1.length:Int)] .own),.obj b7 (.cells [.slice (some ⟨b0,o1,none⟩) l1.length c0] .own),.obj b8 (.cells [.int .i64 v0,.int .i64 x3,.int .i64 x4,.int .i64 x10,.int .i64 x11] .own)]⟩) r20) ?_ ?_
                  ·refine Wk.fy (fs':=[(0,.func (.yield l3) #[] #[]),(1,ptr b11 0),(5,.slice (some ⟨b0,o1,none⟩) l1.length c0),(6,.int .i64 (l1.length:Int)),(7,.int .i64 0)]) (ps':=[.obj l3 (r1 .ready none),.obj l2 (r0 .busy none),.obj b11 (.cells [.slice (some ⟨b0,o1,none⟩) l1.length c0] .own),.ro b0 o1 2 l1.length (l1.map (eP (eI .i64) (eI .i64))),.rd (some ⟨b0,o1,none⟩) c0 2 l1.length (l1.map (eP (eI .i64) (eI .i64))),.obj b6 (.cells [.slice (some ⟨b0,o1,none⟩) l1.length c0] .own),.obj b3 (.cells [.int .i64 0] .own),.obj b4 (.cells [.int .i64 0] .own),.obj b5 (.cells [.int .i64 (l1.length:Int)] .own),.obj b7 (.cells [.slice (some ⟨b0,o1,none⟩) l1.length c0] .own),.obj b8 (.cells [.int .i64 v0,.int .i64 x3,.int .i64 x4,.int .i64 x10,.int .i64 x11] .own)]) (sc rfl (sc rfl (sc rfl (sc rfl (sc rfl sn))))) (aa.U [0,1,2,3,4,5,6,7,8,9,10] rfl rfl) ?_;refine Wk.loop (σ:=Int) (ρ:=(Unit) ⊕ ((Unit) ⊕ (Unit))) (γ:=Unit) (δ:=fun _=>Unit) _ (fun(s:Int) (g:Unit)=>match s,g with|v3,_=>⟨.normal,[(0,.func (.yield l3) #[] #[]),(1,ptr b11 0),(5,.slice (some ⟨b0,o1,none⟩) l1.length c0),(6,.int .i64 (l1.length:Int)),(7,.int .i64 v3)],[.obj l3 (r1 .ready none),.obj l2 (r0 .busy none),.obj b11 (.cells [.slice (some ⟨b0,o1,none⟩) l1.length c0] .own),.ro b0 o1 2 l1.length (l1.map (eP (eI .i64) (eI .i64))),.rd (some ⟨b0,o1,none⟩) c0 2 l1.length (l1.map (eP (eI .i64) (eI .i64))),.obj b6 (.cells [.slice (some ⟨b0,o1,none⟩) l1.length c0] .own),.obj b3 (.cells [.int .i64 0] .own),.obj b4 (.cells [.int .i64 0] .own),.obj b5 (.cells [.int .i64 (l1.length:Int)] .own),.obj b7 (.cells [.slice (some ⟨b0,o1,none⟩) l1.length c0] .own),.obj b8 (.cells [.int .i64 v0,.int .i64 x3,.int .i64 x4,.int .i64 x10,.int .i64 x11] .own)]⟩) (fun(r:(Unit) ⊕ ((Unit) ⊕ (Unit))) (g:Unit)=>match r,g with | .inl _,_=>⟨.ret,[],[.obj l3 (r1 .done (some (.exit 6))),.obj l2 (r0 .busy none),.obj b6 (.cells [.slice (some ⟨b0,o1,none⟩) l1.length c0] .own),.ro b0 o1 2 l1.length (l1.map (eP (eI .i64) (eI .i64))),.rd (some ⟨b0,o1,none⟩) c0 2 l1.length (l1.map (eP (eI .i64) (eI .i64))),.obj b3 (.cells [.int .i64 0] .own),.obj b4 (.cells [.int .i64 0] .own),.obj b5 (.cells [.int .i64 (l1.length:Int)] .own),.obj b7 (.cells [.slice (some ⟨b0,o1,none⟩) l1.length c0] .own),.obj b8 (.cells [.int .i64 v0,.int .i64 x3,.int .i64 x4,.int .i64 x10,.int .i64 x11] .own)]⟩ | .inr (.inl _),_=>⟨.ret,[],[.obj l3 (r1 .done (some .ret)),.obj l2 (r0 .busy none),.obj b6 (.cells [.slice (some ⟨b0,o1,none⟩) l1.length c0] .own),.ro b0 o1 2 l1.length (l1.map (eP (eI .i64) (eI .i64))),.rd (some ⟨b0,o1,none⟩) c0 2 l1.length (l1.map (eP (eI .i64) (eI .i64))),.obj b3 (.cells [.int .i64 5] .own),.obj b4 (.cells [.int .i64 v0] .own),.obj b5 (.cells [.int .i64 (l1.length:Int)] .own),.obj b7 (.cells [.slice (some ⟨b0,o1,none⟩) l1.length c0] .own),.obj b8 (.cells [.int .i64 v0,.int .i64 x3,.int .i64 x4,.int .i64 x10,.int .i64 x11] .own)]⟩ | .inr (.inr _),_=>⟨(.exit 0),[],[.obj l3 (r1 .ready none),.obj l2 (r0 .busy none),.obj b6 (.cells [.slice (some ⟨b0,o1,none⟩) l1.length c0] .own),.ro b0 o1 2 l1.length (l1.map (eP (eI .i64) (eI .i64))),.rd (some ⟨b0,o1,none⟩) c0 2 l1.length (l1.map (eP (eI .i64) (eI .i64))),.obj b3 (.cells [.int .i64 0] .own),.obj b4 (.cells [.int .i64 0] .own),.obj b5 (.cells [.int .i64 (l1.length:Int)] .own),.obj b7 (.cells [.slice (some ⟨b0,o1,none⟩) l1.length c0] .own),.obj b8 (.cells [.int .i64 v0,.int .i64 x3,.int .i64 x4,.int .i64 x10,.int .i64 x11] .own)]⟩) ?_ (fun _ _=>rfl) (fun r d=>by rcases r with _ | (_|_)<;>(intro e; cases e)) _ _ _ h24 ()
                   clear hF h24;rintro v3 ⟨⟩ r hF;unfold se at hF;refine Wk.seq<|Wk.region<|Wo.od (ak rfl rfl (bf _ _ _)) rfl<|Wo.nil<|At.tn<|Wk.seq ?_;rcases ah hF with⟨h25,hF⟩|⟨h25,hF⟩
                   ·refine Wk.aC rfl h25<|Wk.skip<|At.tn<|Wk.seq<|Wk.block<|Wk.seq<|Wk.region<|Wo.od (ae rfl) rfl ?_;obtain⟨h26,hF⟩:=av hF;replace h26:=ax h26;refine Wo.og (cM de rfl rfl h26) gn rfl ?_;obtain⟨⟨x16,x17⟩,h72,hF⟩:=J hF;refine Wo.od (cX (k:=3) aA rfl rfl (bp h72) rfl rfl) rfl<|Wo.x (eg z33 rfl) gn rfl fun b30=>?_;refine Wo.od (al rfl) rfl<|Wo.o0 (cT (k:=0) aA rfl rfl rfl rfl rfl)<|Wo.nil<|At.tn<|Wk.seq<|Wk.draw (by kernel_rfl)<|Wo.od (ae rfl) rfl<|Wo.od (ae rfl) rfl<|Wo.od (aj (k:=0) aA rfl rfl rfl) rfl<|Wo.od (aj (k:=3) ec rfl rfl rfl) rfl<|Wo.od (ae rfl) rfl<|Wo.od (ak rfl rfl (aF _ _ _)) rfl<|Wo.od (aj (k:=3) ec rfl rfl rfl) rfl ?_
                    refine Wo.od (dy (k:=4) ic rfl rfl (.inl rfl)) rfl ?_;obtain⟨h73,hF⟩:=av hF;refine Wo.od (ak rfl rfl (dg _ _ h73)) rfl ?_;obtain⟨h27,hF⟩:=av hF;replace h27:=ax h27;refine Wo.og (cM de rfl rfl h27) gn rfl ?_;obtain⟨⟨x18,x19⟩,h74,hF⟩:=J hF;refine Wo.od (cX (k:=4) aA rfl rfl (bp h74) rfl rfl) rfl<|Wo.od (eK rfl Cy rfl (eA B6 rfl rfl rfl)) rfl ?_;obtain⟨r11,h35,hF⟩:=J hF;refine Wo.x (BQ (k:=1) (k1:=0) (γA:=Nat) (GA:=(fun g:Nat=>(match g with|b15=>⟨.normal,[(2,ptr b3 0),(3,ptr b4 0),(4,ptr b5 0),(9,ptr b8 0),(10,ptr b15 0)],[.obj l3 (r1 .ready none),.obj l2 (r0 .busy none),.obj b3 (.cells [.int .i64 0] .own),.obj b4 (.cells [.int .i64 0] .own),.obj b5 (.cells [.int .i64 (l1.length:Int)] .own),.obj b8 (.cells [.int .i64 v0,.int .i64 x3,.int .i64 x4,.int .i64 x10,.int .i64 x11] .own),.obj b15 (.cells [.int .i64 v3,.int .i64 x16,.int .i64 x17,.int .i64 x18,.int .i64 x19] .own),.obj b6 (.cells [.slice (some ⟨b0,o1,none⟩) l1.length c0] .own),.ro b0 o1 2 l1.length (l1.map (eP (eI .i64) (eI .i64))),.rd (some ⟨b0,o1,none⟩) c0 2 l1.length (l1.map (eP (eI .i64) (eI .i64))),.obj b7 (.cells [.slice (some ⟨b0,o1,none⟩) l1.length c0] .own),.obj b11 (.cells [.slice (some ⟨b0,o1,none⟩) l1.length c0] .own)]⟩:En))) (γ:=Unit) (G:=fun g=>(fun(r:(Unit) ⊕ ((Unit) ⊕ (Unit))) (g:Unit)=>(match r,g with | .inl _,_=>⟨(.exit 6),[],[.obj l3 (r1 .busy none),.obj l2 (r0 .busy none),.obj b6 (.cells [.slice (some ⟨b0,o1,none⟩) l1.length c0] .own),.ro b0 o1 2 l1.length (l1.map (eP (eI .i64) (eI .i64))),.rd (some ⟨b0,o1,none⟩) c0 2 l1.length (l1.map (eP (eI .i64) (eI .i64))),.obj b3 (.cells [.int .i64 0] .own),.obj b4 (.cells [.int .i64 0] .own),.obj b5 (.cells [.int .i64 (l1.length:Int)] .own),.obj b7 (.cells [.slice (some ⟨b0,o1,none⟩) l1.length c0] .own),.obj b8 (.cells [.int .i64 v0,.int .i64 x3,.int .i64 x4,.int .i64 x10,.int .i64 x11] .own),.obj b11 (.cells [.slice (some ⟨b0,o1,none⟩) l1.length c0] .own)]⟩ | .inr (.inl _),_=>⟨.normal,[],[.obj l3 (r1 .busy none),.obj l2 (r0 .busy none),.obj b6 (.cells [.slice (some ⟨b0,o1,none⟩) l1.length c0] .own),.ro b0 o1 2 l1.length (l1.map (eP (eI .i64) (eI .i64))),.rd (some ⟨b0,o1,none⟩) c0 2 l1.length (l1.map (eP (eI .i64) (eI .i64))),.obj b3 (.cells [.int .i64 0] .own),.obj b4 (.cells [.int .i64 0] .own),.obj b5 (.cells [.int .i64 (l1.length:Int)] .own),.obj b7 (.cells [.slice (some ⟨b0,o1,none⟩) l1.length c0] .own),.obj b8 (.cells [.int .i64 v0,.int .i64 x3,.int .i64 x4,.int .i64 x10,.int .i64 x11] .own),.obj b11 (.cells [.slice (some ⟨b0,o1,none⟩) l1.length c0] .own)]⟩ | .inr (.inr _),_=>⟨.ret,[],[.obj l3 (r1 .busy none),.obj l2 (r0 .busy none),.obj b6 (.cells [.slice (some ⟨b0,o1,none⟩) l1.length c0] .own),.ro b0 o1 2 l1.length (l1.map (eP (eI .i64) (eI .i64))),.rd (some ⟨b0,o1,none⟩) c0 2 l1.length (l1.map (eP (eI .i64) (eI .i64))),.obj b3 (.cells [.int .i64 5] .own),.obj b4 (.cells [.int .i64 v0] .own),.obj b5 (.cells [.int .i64 (l1.length:Int)] .own),.obj b7 (.cells [.slice (some ⟨b0,o1,none⟩) l1.length c0] .own),.obj b8 (.cells [.int .i64 v0,.int .i64 x3,.int .i64 x4,.int .i64 x10,.int .i64 x11] .own),.obj b11 (.cells [.slice (some ⟨b0,o1,none⟩) l1.length c0] .own)]⟩:En)) r11 g) rfl rfl rfl h71 h70 rfl ?_ (fun _=>rfl) (fun _=>rfl) ?_ (fun y=>by rcases r11 with _|_|_<;>rfl)) gn rfl ?_
                    ·clear hF h35;refine Wk.region<|Wo.x (eg Cy rfl) gn rfl fun b25=>?_;refine Wo.o0 (cT (k:=0) tD rfl rfl rfl rfl rfl)<|Wo.nil ?_;exact At.en b25 rfl (sc rfl (sc rfl (sc rfl (sc rfl (sc rfl sn))))) (aa.U [2,3,8,9,10,12,0,7,5,6,11,4] rfl rfl)
                    ·clear hF;revert r11;intro r hF;rintro b15;refine Wk.block<|Wk.seq<|Wk.seq<|Wk.region<|Wo.od (ay (r:=ptr b15 0) rfl (iA _ _)) rfl<|Wo.od (aj (k:=6) bz rfl rfl rfl) rfl<|Wo.od (ay (r:=ptr b8 0) rfl (iA _ _)) rfl<|Wo.od (aj (k:=5) bz rfl rfl rfl) rfl<|Wo.od (ak rfl rfl (bl _ _ _)) rfl<|Wo.od (ak rfl rfl (kr _ _ _)) rfl<|Wo.nil<|At.tn ?_;rcases ah hF with⟨h28,hF⟩|⟨h28,hF⟩
                     ·refine Wk.aC rfl h28<|Wk.exit<|At.te<|At.bx rfl ?_;cases hF;exact At.en () rfl sn (aa.U [0,1,7,8,9,2,3,4,10,5,11] rfl rfl)
                     ·refine Wk.aD rfl h28<|Wk.skip<|At.tn<|Wk.seq<|Wk.seq ?_;obtain⟨v11,h75,hF⟩:=J hF;refine Wk.cut (G:=(fun(r:Bool) (g:Unit)=>match r,g with|v11,_=>⟨.normal,[(2,ptr b3 0),(3,ptr b4 0),(4,ptr b5 0),(9,ptr b8 0),(10,ptr b15 0),(109,.bool v11)],[.obj l3 (r1 .busy none),.obj l2 (r0 .busy none),.obj b3 (.cells [.int .i64 0] .own),.obj b4 (.cells [.int .i64 0] .own),.obj b5 (.cells [.int .i64 (l1.length:Int)] .own),.obj b8 (.cells [.int .i64 v0,.int .i64 x3,.int .i64 x4,.int .i64 x10,.int .i64 x11] .own),.obj b15 (.cells [.int .i64 v3,.int .i64 x16,.int .i64 x17,.int .i64 x18,.int .i64 x19] .own),.obj b6 (.cells [.slice (some ⟨b0,o1,none⟩) l1.length c0] .own),.ro b0 o1 2 l1.length (l1.map (eP (eI .i64) (eI .i64))),.rd (some ⟨b0,o1,none⟩) c0 2 l1.length (l1.map (eP (eI .i64) (eI .i64))),.obj b7 (.cells [.slice (some ⟨b0,o1,none⟩) l1.length c0] .own),.obj b11 (.cells [.slice (some ⟨b0,o1,none⟩) l1.length c0] .own)]⟩) v11) ?_ ?_
                      ·clear hF;revert v11;intro r hF;refine Wk.region<|Wo.od (ay (r:=ptr b15 0) rfl (iA _ _)) rfl<|Wo.od (aj (k:=6) bz rfl rfl rfl) rfl<|Wo.od (ak rfl rfl (cN _ _ _)) rfl<|Wo.od (ae rfl) rfl ?_;rcases ah hF with⟨h1,hF⟩|⟨h1,hF⟩
                       ·refine Wo.og (ay (r:=ptr b8 0) rfl (iA _ _)) (gg rfl rfl (cx h1)) rfl<|Wo.og (aj (k:=5) bz rfl rfl rfl) (gg rfl rfl (cx h1)) rfl<|Wo.og (aj (k:=4) bz rfl rfl rfl) (gg rfl rfl (cx h1)) rfl<|Wo.og (ak rfl rfl (bl _ _ _)) (gg rfl rfl (cx h1)) rfl<|Wo.og (ak rfl rfl (cN _ _ _)) (gg rfl rfl (cx h1)) rfl<|Wo.od (fb rfl h1 rfl) rfl<|Wo.nil ?_;cases hF;exact At.en () rfl (sc rfl (sc rfl (sc rfl (sc rfl (sc rfl (sc rfl sn)))))) (aa.U [0,1,2,3,4,5,6,7,8,9,10,11] rfl rfl)
                       ·refine Wo.s (gg rfl rfl (cw h1)) rfl<|Wo.s (gg rfl rfl (cw h1)) rfl<|Wo.s (gg rfl rfl (cw h1)) rfl<|Wo.s (gg rfl rfl (cw h1)) rfl<|Wo.s (gg rfl rfl (cw h1)) rfl<|Wo.od (fc rfl h1 rfl) rfl<|Wo.nil ?_;cases hF;exact At.en () rfl (sc rfl (sc rfl (sc rfl (sc rfl (sc rfl (sc rfl sn)))))) (aa.U [0,1,2,3,4,5,6,7,8,9,10,11] rfl rfl)
                      ·clear h75;rintro⟨⟩;refine At.tn ?_;rcases ah hF with⟨h29,hF⟩|⟨h29,hF⟩
                       ·refine Wk.aC rfl h29<|Wk.exit<|At.te<|At.be ?_;cases hF;exact At.en () rfl sn (aa.U [0,1,7,8,9,2,3,4,10,5,11] rfl rfl)
                       ·refine Wk.aD rfl h29<|Wk.skip<|At.tn<|Wk.seq<|Wk.region<|Wo.od (aj (k:=5) tD rfl rfl rfl) rfl<|Wo.od (aj (k:=6) tD rfl rfl rfl) rfl ?_;obtain⟨r23,h76,hF⟩:=J hF;refine Wo.x (cQ rfl rfl (fun m hm=>Dq n v0 x3 x4 x10 x11 v3 x16 x17 x18 x19  _ h76 m) fun _=>rfl) gn rfl ?_;rintro⟨⟩;refine Wo.od (ak rfl rfl (ee _ _)) rfl<|Wo.nil<|At.tn ?_;rcases ah hF with⟨h30,hF⟩|⟨h30,hF⟩
                        ·refine Wk.aC rfl h30<|Wk.seq<|Wk.fH (prs:=[(1,2)]) (by kernel_rfl)<|Wn.od (ay (r:=ptr b8 0) rfl (iA _ _)) rfl<|Wn.DJ rfl (aj (k:=5) bz rfl rfl rfl) rfl<|Wn.Eo rfl (cT (k:=2) bz rfl rfl rfl rfl rfl)<|Wn.o0 (cT (k:=3) bz rfl rfl rfl rfl rfl)<|Wn.nil (fun m hm=>(eO.rw rfl rfl rfl (hm.ne (i:=5) (j:=2) rfl rfl rfl rfl (by decide) rfl) eO.nil))<|At.tn<|Wk.ret<|At.br ?_
                         cases hF;exact At.en () rfl sn (aa.U [0,1,7,8,9,2,3,4,10,5,11] rfl rfl)
                        ·refine Wk.aD rfl h30<|Wk.skip<|At.bn ?_;cases hF;exact At.en () rfl sn (aa.U [0,1,7,8,9,2,3,4,10,5,11] rfl rfl)
                    ·clear h35;rcases r11 with _|_|_
                     ·rintro⟨⟩;refine Wo.od (kl rfl rfl) rfl<|Wo.nil<|At.tn<|Wk.aC rfl rfl<|Wk.ret<|At.br<|At.tr ?_;cases hF;exact At.en () rfl sn (aa.U [0,1,2,3,4,5,6,7,8,9] rfl rfl)
                     ·rintro⟨⟩;refine Wo.od (kl rfl rfl) rfl<|Wo.nil<|At.tn<|Wk.aD rfl rfl<|Wk.skip<|At.bn<|At.tn<|Wk.region<|Wo.od (ak rfl rfl (aF _ _ _)) rfl<|Wo.od (ae rfl) rfl<|Wo.nil ?_;cases hF;exact At.en () rfl (sc rfl (sc rfl (sc rfl (sc rfl (sc rfl sn))))) (aa.U [0,1,10,3,4,2,5,6,7,8,9] rfl rfl)
                     ·rintro⟨⟩;refine Wo.od (kl rfl rfl) rfl<|Wo.nil<|At.tn<|Wk.aC rfl rfl<|Wk.ret<|At.br<|At.tr ?_;cases hF;exact At.en () rfl sn (aa.U [0,1,2,3,4,5,6,7,8,9] rfl rfl)
                   ·refine Wk.aD rfl h25<|Wk.exit<|At.te ?_;cases hF;exact At.en () rfl sn (aa.U [0,1,5,3,4,6,7,8,9,10] rfl rfl)
                  ·clear h24;rcases r20 with _ | (_|_)
                   ·rintro⟨⟩;refine At.br ?_;cases hF;exact At.ret .nil fun m' hm=>⟨(),(aa.U [0,1,2,3,4,5,6,7,8,9] rfl rfl) m' hm⟩
                   ·rintro⟨⟩;refine At.br ?_;cases hF;exact At.ret .nil fun m' hm=>⟨(),(aa.U [0,1,2,3,4,5,6,7,8,9] rfl rfl) m' hm⟩
                   ·rintro⟨⟩;refine At.be ?_;cases hF;exact At.fin .nil fun m' hm=>⟨(),(aa.U [0,1,2,3,4,5,6,7,8,9] rfl rfl) m' hm⟩
                 ·clear h69;rcases r10 with _|_|_
                  ·rintro⟨⟩
                   change Wk _ _ _ _ (.exit 6) _ _ _ _
                   refine Wk.exit<|At.be<|At.bn ?_;cases hF;exact At.en () rfl sn (aa.U [0,1,2,3,4,5,6,7] rfl rfl)
                  ·rintro⟨⟩
                   change Wk _ _ _ _ .ret _ _ _ _
                   refine Wk.ret<|At.br<|At.br ?_;cases hF;exact At.en () rfl sn (aa.U [0,1,2,3,4,5,6,7] rfl rfl)
                  ·rintro⟨⟩
                   change At _ .normal _ _ _
                   refine At.bn<|At.bn ?_;cases hF;exact At.en () rfl sn (aa.U [0,1,2,3,4,5,6,7] rfl rfl)
               ·clear h34;rcases r9 with _|_
                ·rintro⟨⟩;refine Wo.od (kl rfl rfl) rfl<|Wo.nil<|At.tn<|Wk.aD rfl rfl<|Wk.skip<|At.bn<|At.tn<|Wk.region<|Wo.od (ak rfl rfl (aF _ _ _)) rfl<|Wo.od (ae rfl) rfl<|Wo.nil ?_;cases hF;exact At.en () rfl (sc rfl (sc rfl (sc rfl (sc rfl (sc rfl sn))))) (aa.U [0,7,3,1,4,5,6] rfl rfl)
                ·rintro⟨⟩;refine Wo.od (kl rfl rfl) rfl<|Wo.nil<|At.tn<|Wk.aC rfl rfl<|Wk.ret<|At.br<|At.tr ?_;cases hF;exact At.en () rfl sn (aa.U [0,1,3,4,5,6] rfl rfl)
              ·refine Wk.aD rfl h22<|Wk.exit<|At.te ?_;cases hF;exact At.en () rfl sn (aa.U [0,3,2,4,5,6] rfl rfl)
             ·clear h21;rcases r19 with v10|_
              ·rintro⟨⟩;refine At.br ?_;cases hF;exact At.ret .nil fun m' hm=>⟨(),(aa.U [0,1,2,3,4,5] rfl rfl) m' hm⟩
              ·rintro⟨⟩;refine At.be ?_;cases hF;exact At.fin .nil fun m' hm=>⟨(),(aa.U [0,1,2,3,4,5] rfl rfl) m' hm⟩
            ·clear h63;rcases r8 with v15|_
             ·rintro⟨⟩
              change Wk _ _ _ _ .ret _ _ _ _
              refine Wk.ret<|At.br<|At.tr ?_;cases hF;exact At.ret (.cell (k:=2) bz rfl rfl rfl (.cell (k:=3) bz rfl rfl rfl .nil)) fun m' hm=>⟨(),rfl,(aa.U [] rfl rfl) m' hm⟩
             ·rintro⟨⟩
              change At _ .normal _ _ _
              refine At.bn<|At.tn<|Wk.seq<|Wk.region<|Wo.o0 (cT (k:=2) bz rfl rfl rfl rfl rfl)<|Wo.o0 (cT (k:=3) bz rfl rfl rfl rfl rfl)<|Wo.nil<|At.tn<|Wk.ret ?_;cases hF;exact At.ret (.cell (k:=2) bz rfl rfl rfl (.cell (k:=3) bz rfl rfl rfl .nil)) fun m' hm=>⟨(),rfl,(aa.U [] rfl rfl) m' hm⟩
theorem Ed (n:Nat) (l1:List (Int × Int)) (a2:Option Addr) (c3:Nat) (r:Int) (hF:Fi n l1=some r) (m:AMem) (h4:Rd m a2 c3 2 l1.length (l1.map (eP (eI .i64) (eI .i64)))) :
  aP aQ 43 [.slice a2 l1.length c3] m (fun v m'=>∃_:Unit,v = .int .i64 r∧Hp m m' []):=by
 unfold Fi at hF;refine aU (m0:=m) (ps:=[.rd a2 c3 2 l1.length (l1.map (eP (eI .i64) (eI .i64)))]) (N:=12) (rs:=[.tmp 2]) rfl Tryz.func43 rfl rfl rfl ((Hp.start m).qj rfl h4)<|Wk.seq<|Wk.region<|Wo.od (al rfl) rfl<|Wo.nil<|At.tn<|Wk.seq<|Wk.seq<|Wk.region<|Wo.od (ae rfl) rfl ?_;obtain⟨⟨r6,r7⟩,h5,hF⟩:=J hF;refine Wo.x (cQ rfl rfl (fun m hm=>yh n l1 a2 c3 _ h5 m (hm.rd (k:=0) rfl (.rd _ _ _ _ _))) fun _=>rfl) gn rfl ?_;rintro⟨⟩;refine Wo.od (ae rfl) rfl<|Wo.od (oS rfl rfl) rfl<|Wo.od (oS rfl rfl) rfl<|Wo.od (al rfl) rfl<|Wo.od (al rfl) rfl<|Wo.nil<|At.tn<|Wk.seq<|Wk.region<|Wo.od (ae rfl) rfl<|Wo.od (ak rfl rfl (dc _ _ _)) rfl<|Wo.nil<|At.tn ?_;rcases ah hF with⟨h8,hF⟩|⟨h8,hF⟩
 ·refine Wk.aC rfl h8<|Wk.seq<|Wk.region<|Wo.od (al rfl) rfl<|Wo.nil<|At.tn<|Wk.ret<|At.tr ?_;cases hF;exact At.ret (.tmp rfl .nil) fun m' hm=>⟨(),rfl,(aa.U [] rfl rfl) m' hm⟩
 ·refine Wk.aD rfl h8<|Wk.skip<|At.tn<|Wk.seq<|Wk.region<|Wo.od (al rfl) rfl<|Wo.nil<|At.tn<|Wk.ret ?_;cases hF;exact At.ret (.tmp rfl .nil) fun m' hm=>⟨(),rfl,(aa.U [] rfl rfl) m' hm⟩
theorem D5 (n:Nat) (l1:List (Int × Int)) (l5:List (Int × Int)) (a2:Option Addr) (c3:Nat) (a6:Option Addr) (c7:Nat) (r:Bool) (hF:FO n l1 l5=some r) (m:AMem) (h4:Rd m a2 c3 2 l1.length (l1.map (eP (eI .i64) (eI .i64)))) (h8:Rd m a6 c7 2 l5.length (l5.map (eP (eI .i64) (eI .i64)))) :
  aP aQ 77 [.slice a2 l1.length c3,.slice a6 l5.length c7] m (fun v m'=>∃_:Unit,v = .bool r∧Hp m m' []):=by
 unfold FO at hF;refine aU (m0:=m) (ps:=[.rd a6 c7 2 l5.length (l5.map (eP (eI .i64) (eI .i64))),.rd a2 c3 2 l1.length (l1.map (eP (eI .i64) (eI .i64)))]) (N:=26) (rs:=[.tmp 4]) rfl Tryz.func77 rfl rfl rfl (((Hp.start m).qj rfl h4).qj rfl h8)<|Wk.seq<|Wk.region<|Wo.od (al rfl) rfl<|Wo.nil<|At.tn<|Wk.seq<|Wk.seq<|Wk.region<|Wo.od (ae rfl) rfl<|Wo.od (dy (k:=1) ic rfl rfl (.inl rfl)) rfl<|Wo.od (ae rfl) rfl<|Wo.od (dy (k:=0) ic rfl rfl (.inl rfl)) rfl<|Wo.od (ak rfl rfl (ee _ _)) rfl<|Wo.nil<|At.tn ?_;rcases ah hF with⟨h9,hF⟩|⟨h9,hF⟩
 ·refine Wk.aC rfl h9<|Wk.seq<|Wk.region<|Wo.od (al rfl) rfl<|Wo.nil<|At.tn<|Wk.ret<|At.tr ?_;cases hF;exact At.ret (.tmp rfl .nil) fun m' hm=>⟨(),rfl,(aa.U [] rfl rfl) m' hm⟩
 ·refine Wk.aD rfl h9<|Wk.skip<|At.tn<|Wk.seq<|Wk.seq<|Wk.region<|Wo.od (ae rfl) rfl<|Wo.od (dy (k:=1) ic rfl rfl (.inl rfl)) rfl<|Wo.od (ae rfl) rfl<|Wo.nil<|At.tn<|Wk.block ?_;obtain⟨r42,h41,hF⟩:=J hF;refine Wk.cut (G:=(fun(r:(Unit) ⊕ (Unit)) (g:Unit)=>match r,g with | .inl _,_=>⟨.ret,[(4,.bool false)],[]⟩ | .inr _,_=>⟨(.exit 0),[],[]⟩) r42) ?_ ?_
  ·refine Wk.fy (fs':=[(0,.slice a2 l1.length c3),(1,.slice a6 l5.length c7),(12,.int .i64 (l1.length:Int)),(13,.int .i64 0)]) (ps':=[.rd a2 c3 2 l1.length (l1.map (eP (eI .i64) (eI .i64))),.rd a6 c7 2 l5.length (l5.map (eP (eI .i64) (eI .i64)))]) (sc rfl (sc rfl (sc rfl (sc rfl sn)))) (aa.U [1,0] rfl rfl) ?_;refine Wk.loop (σ:=Int) (ρ:=(Unit) ⊕ (Unit)) (γ:=Unit) (δ:=fun _=>Unit) _ (fun(s:Int) (g:Unit)=>match s,g with|v11,_=>⟨.normal,[(0,.slice a2 l1.length c3),(1,.slice a6 l5.length c7),(12,.int .i64 (l1.length:Int)),(13,.int .i64 v11)],[.rd a2 c3 2 l1.length (l1.map (eP (eI .i64) (eI .i64))),.rd a6 c7 2 l5.length (l5.map (eP (eI .i64) (eI .i64)))]⟩) (fun(r:(Unit) ⊕ (Unit)) (g:Unit)=>match r,g with | .inl _,_=>⟨.ret,[(4,.bool false)],[]⟩ | .inr _,_=>⟨(.exit 0),[],[]⟩) ?_ (fun _ _=>rfl) (fun r d=>by rcases r with _|_<;>(intro e; cases e)) _ _ _ h41 ()
   clear hF h41;rintro v11 ⟨⟩ r hF;unfold sU at hF;refine Wk.seq<|Wk.region<|Wo.od (ak rfl rfl (bf _ _ _)) rfl<|Wo.nil<|At.tn<|Wk.seq ?_;rcases ah hF with⟨h27,hF⟩|⟨h27,hF⟩
   ·refine Wk.aC rfl h27<|Wk.skip<|At.tn<|Wk.seq<|Wk.block<|Wk.seq<|Wk.region<|Wo.od (ae rfl) rfl<|Wo.od (al rfl) rfl<|Wo.nil<|At.tn<|Wk.seq<|Wk.draw (by kernel_rfl)<|Wo.od (ae rfl) rfl<|Wo.od (ae rfl) rfl ?_
    obtain⟨h28,hF⟩:=av hF;replace h28:=ax h28;refine Wo.eD (k:=0) rfl (bU h28) ?_;rintro b29 o30 rfl;refine Wo.og (cM de rfl rfl h28) gn rfl ?_;obtain⟨⟨x31,x32⟩,h33,hF⟩:=J hF;refine Wo.od (cX (k:=0) aA rfl rfl (bp h33) rfl rfl) rfl<|Wo.od (ae rfl) rfl<|Wo.od (ae rfl) rfl ?_;obtain⟨h34,hF⟩:=av hF;replace h34:=ax h34;refine Wo.eD (k:=2) rfl (bU h34) ?_;rintro b35 o36 rfl;refine Wo.og (cM de rfl rfl h34) gn rfl ?_;obtain⟨⟨x37,x38⟩,h39,hF⟩:=J hF;refine Wo.od (cX (k:=0) aA rfl rfl (bp h39) rfl rfl) rfl<|Wo.od (ak rfl rfl (Ay yi (zP _ _ _ _))) rfl<|Wo.nil<|At.tn ?_;rcases ah hF with⟨h40,hF⟩|⟨h40,hF⟩
    ·refine Wk.aC rfl h40<|Wk.seq<|Wk.region<|Wo.od (al rfl) rfl<|Wo.nil<|At.tn<|Wk.ret<|At.br<|At.tr ?_;cases hF;exact At.en () rfl (sc rfl sn) (aa.U [] rfl rfl)
    ·refine Wk.aD rfl h40<|Wk.skip<|At.bn<|At.tn<|Wk.region<|Wo.od (ak rfl rfl (aF _ _ _)) rfl<|Wo.od (ae rfl) rfl<|Wo.nil ?_;cases hF;exact At.en () rfl (sc rfl (sc rfl (sc rfl (sc rfl sn)))) (aa.U [2,3] rfl rfl)
   ·refine Wk.aD rfl h27<|Wk.exit<|At.te ?_;cases hF;exact At.en () rfl sn (aa.U [] rfl rfl)
  ·clear h41;rcases r42 with _|_
   ·rintro⟨⟩;refine At.br<|At.tr ?_;cases hF;exact At.ret (.tmp rfl .nil) fun m' hm=>⟨(),rfl,(aa.U [] rfl rfl) m' hm⟩
   ·rintro⟨⟩;refine At.be<|At.tn<|Wk.seq<|Wk.region<|Wo.od (al rfl) rfl<|Wo.nil<|At.tn<|Wk.ret ?_;cases hF;exact At.ret (.tmp rfl .nil) fun m' hm=>⟨(),rfl,(aa.U [] rfl rfl) m' hm⟩
theorem CV (n:Nat) (l1:List (Int × Int)) (l5:List (Int × Int)) (a2:Option Addr) (c3:Nat) (a6:Option Addr) (c7:Nat) (r:Bool) (hF:Fz n l1 l5=some r) (m:AMem) (h4:Rd m a2 c3 2 l1.length (l1.map (eP (eI .i64) (eI .i64)))) (h8:Rd m a6 c7 2 l5.length (l5.map (eP (eI .i64) (eI .i64)))) :
  aP aQ 45 [.slice a2 l1.length c3,.slice a6 l5.length c7] m (fun v m'=>∃_:Unit,v = .bool r∧Hp m m' []):=by
 unfold Fz at hF;refine aU (m0:=m) (ps:=[.rd a6 c7 2 l5.length (l5.map (eP (eI .i64) (eI .i64))),.rd a2 c3 2 l1.length (l1.map (eP (eI .i64) (eI .i64)))]) (N:=8) (rs:=[.tmp 4]) rfl Tryz.func45 rfl rfl rfl (((Hp.start m).qj rfl h4).qj rfl h8)<|Wk.seq<|Wk.region<|Wo.od (al rfl) rfl<|Wo.nil<|At.tn<|Wk.seq<|Wk.region<|Wo.od (ae rfl) rfl<|Wo.od (ae rfl) rfl ?_;obtain⟨r10,h9,hF⟩:=J hF;refine Wo.x (cQ rfl rfl (fun m hm=>D5 n l1 l5 a2 c3 a6 c7 _ h9 m (hm.rd (k:=1) rfl (.rd _ _ _ _ _)) (hm.rd (k:=0) rfl (.rd _ _ _ _ _))) fun _=>rfl) gn rfl ?_;rintro⟨⟩;refine Wo.od (al rfl) rfl<|Wo.nil<|At.tn<|Wk.ret ?_;have hr:=Option.some.inj hF;subst r;exact At.ret (.tmp rfl .nil) fun m' hm=>⟨(),rfl,(aa.U [] rfl rfl) m' hm⟩
theorem D2 (n:Nat) (l1:List (Int × Int)) (l5:List (Int × Int)) (a2:Option Addr) (c3:Nat) (a6:Option Addr) (c7:Nat) (r:Bool) (hF:E7 n l1 l5=some r) (m:AMem) (h4:Rd m a2 c3 2 l1.length (l1.map (eP (eI .i64) (eI .i64)))) (h8:Rd m a6 c7 2 l5.length (l5.map (eP (eI .i64) (eI .i64)))) :
  aP aQ 15 [.slice a2 l1.length c3,.slice a6 l5.length c7] m (fun v m'=>∃_:Unit,v = .bool r∧Hp m m' []):=by
 unfold E7 at hF;refine aU (m0:=m) (ps:=[.rd a6 c7 2 l5.length (l5.map (eP (eI .i64) (eI .i64))),.rd a2 c3 2 l1.length (l1.map (eP (eI .i64) (eI .i64)))]) (N:=26) (rs:=[.tmp 4]) rfl Tryz.func15 rfl rfl rfl (((Hp.start m).qj rfl h4).qj rfl h8)<|Wk.seq<|Wk.region<|Wo.od (al rfl) rfl<|Wo.nil<|At.tn<|Wk.seq<|Wk.seq<|Wk.region<|Wo.od (ae rfl) rfl<|Wo.od (dy (k:=1) ic rfl rfl (.inl rfl)) rfl<|Wo.od (ae rfl) rfl<|Wo.od (dy (k:=0) ic rfl rfl (.inl rfl)) rfl<|Wo.od (ak rfl rfl (ee _ _)) rfl<|Wo.nil<|At.tn ?_;rcases ah hF with⟨h9,hF⟩|⟨h9,hF⟩
 ·refine Wk.aC rfl h9<|Wk.seq<|Wk.region<|Wo.od (al rfl) rfl<|Wo.nil<|At.tn<|Wk.ret<|At.tr ?_;cases hF;exact At.ret (.tmp rfl .nil) fun m' hm=>⟨(),rfl,(aa.U [] rfl rfl) m' hm⟩
 ·refine Wk.aD rfl h9<|Wk.skip<|At.tn<|Wk.seq<|Wk.seq<|Wk.region<|Wo.od (al rfl) rfl<|Wo.nil<|At.tn<|Wk.block ?_;obtain⟨r42,h41,hF⟩:=J hF;refine Wk.cut (G:=(fun(r:(Unit) ⊕ (Unit)) (g:Unit)=>match r,g with | .inl _,_=>⟨.ret,[(4,.bool false)],[]⟩ | .inr _,_=>⟨(.exit 0),[],[]⟩) r42) ?_ ?_
  ·refine Wk.fy (fs':=[(0,.slice a2 l1.length c3),(1,.slice a6 l5.length c7),(5,.int .i64 0)]) (ps':=[.rd a2 c3 2 l1.length (l1.map (eP (eI .i64) (eI .i64))),.rd a6 c7 2 l5.length (l5.map (eP (eI .i64) (eI .i64)))]) (sc rfl (sc rfl (sc rfl sn))) (aa.U [1,0] rfl rfl) ?_;refine Wk.loop (σ:=Int) (ρ:=(Unit) ⊕ (Unit)) (γ:=Unit) (δ:=fun _=>Unit) _ (fun(s:Int) (g:Unit)=>match s,g with|v11,_=>⟨.normal,[(0,.slice a2 l1.length c3),(1,.slice a6 l5.length c7),(5,.int .i64 v11)],[.rd a2 c3 2 l1.length (l1.map (eP (eI .i64) (eI .i64))),.rd a6 c7 2 l5.length (l5.map (eP (eI .i64) (eI .i64)))]⟩) (fun(r:(Unit) ⊕ (Unit)) (g:Unit)=>match r,g with | .inl _,_=>⟨.ret,[(4,.bool false)],[]⟩ | .inr _,_=>⟨(.exit 0),[],[]⟩) ?_ (fun _ _=>rfl) (fun r d=>by rcases r with _|_<;>(intro e; cases e)) _ _ _ h41 ()
   clear hF h41;rintro v11 ⟨⟩ r hF;unfold rF at hF;refine Wk.seq<|Wk.seq<|Wk.region<|Wo.od (ae rfl) rfl<|Wo.od (ae rfl) rfl<|Wo.od (dy (k:=0) ic rfl rfl (.inl rfl)) rfl<|Wo.od (ak rfl rfl (bf _ _ _)) rfl<|Wo.nil<|At.tn ?_;rcases ah hF with⟨h27,hF⟩|⟨h27,hF⟩
   ·refine Wk.aC rfl h27<|Wk.skip<|At.tn<|Wk.seq<|Wk.block<|Wk.seq<|Wk.draw (by kernel_rfl)<|Wo.od (ae rfl) rfl<|Wo.od (ae rfl) rfl ?_
    obtain⟨h28,hF⟩:=av hF;replace h28:=ax h28;refine Wo.eD (k:=0) rfl (bU h28) ?_;rintro b29 o30 rfl;refine Wo.og (cM de rfl rfl h28) gn rfl ?_;obtain⟨⟨x31,x32⟩,h33,hF⟩:=J hF;refine Wo.od (cX (k:=0) aA rfl rfl (bp h33) rfl rfl) rfl<|Wo.od (ae rfl) rfl<|Wo.od (ae rfl) rfl ?_;obtain⟨h34,hF⟩:=av hF;replace h34:=ax h34;refine Wo.eD (k:=2) rfl (bU h34) ?_;rintro b35 o36 rfl;refine Wo.og (cM de rfl rfl h34) gn rfl ?_;obtain⟨⟨x37,x38⟩,h39,hF⟩:=J hF;refine Wo.od (cX (k:=0) aA rfl rfl (bp h39) rfl rfl) rfl<|Wo.od (ak rfl rfl (Ay yi (zP _ _ _ _))) rfl<|Wo.nil<|At.tn ?_;rcases ah hF with⟨h40,hF⟩|⟨h40,hF⟩
    ·refine Wk.aC rfl h40<|Wk.seq<|Wk.region<|Wo.od (al rfl) rfl<|Wo.nil<|At.tn<|Wk.ret<|At.br<|At.tr ?_;cases hF;exact At.en () rfl (sc rfl sn) (aa.U [] rfl rfl)
    ·refine Wk.aD rfl h40<|Wk.skip<|At.bn<|At.tn<|Wk.region<|Wo.od (ae rfl) rfl<|Wo.od (ak rfl rfl (aF _ _ _)) rfl<|Wo.od (al rfl) rfl<|Wo.nil ?_;cases hF;exact At.en () rfl (sc rfl (sc rfl (sc rfl sn))) (aa.U [2,3] rfl rfl)
   ·refine Wk.aD rfl h27<|Wk.exit<|At.te ?_;cases hF;exact At.en () rfl sn (aa.U [] rfl rfl)
  ·clear h41;rcases r42 with _|_
   ·rintro⟨⟩;refine At.br<|At.tr ?_;cases hF;exact At.ret (.tmp rfl .nil) fun m' hm=>⟨(),rfl,(aa.U [] rfl rfl) m' hm⟩
   ·rintro⟨⟩;refine At.be<|At.tn<|Wk.seq<|Wk.region<|Wo.od (al rfl) rfl<|Wo.nil<|At.tn<|Wk.ret ?_;cases hF;exact At.ret (.tmp rfl .nil) fun m' hm=>⟨(),rfl,(aa.U [] rfl rfl) m' hm⟩
theorem Ea (n:Nat) (l6:List (Int × Int)) (l7:List (Nat)) (x9:Int) (x3:Int) (x4:Nat) (x10:Bool) (x11:Bool) (x12:Nat) (x13:Nat) (x14:Nat) (x15:Int) (x16:Int) (x17:Nat) (x18:Nat) (x19:Nat) (x20:Int) (x21:Int) (a6:Option Addr) (c6:Nat) (a7:Option Addr) (c7:Nat) (r:Bool) (hF:FP n l6 l7 x9 x3 x4 x10 x11 x12 x13 x14 x15 x16 x17 x18 x19 x20 x21=some r) (m:AMem) (h11:Rd m a6 c6 2 l6.length (l6.map (eP (eI .i64) (eI .i64)))) (h12:Rd m a7 c7 1 l7.length (l7.map (eN .u8))) :
  aP aQ 10 [.slice a6 l6.length c6,.agg #[.slice a7 l7.length c7,.int .i16 x9,.int .i16 x3,.int .u8 ((x4:Nat):Int),.bool x10,.bool x11],.agg #[.int .u8 ((x12:Nat):Int),.int .u8 ((x13:Nat):Int),.int .u8 ((x14:Nat):Int),.int .i64 x15,.int .i64 x16,.int .u8 ((x17:Nat):Int),.int .u8 ((x18:Nat):Int),.int .u8 ((x19:Nat):Int),.int .i64 x20,.int .i64 x21]] m (fun v m'=>∃_:Unit,v = .bool r∧Hp m m' []):=by
 unfold FP at hF;refine aU (m0:=m) (ps:=[.rd a7 c7 1 l7.length (l7.map (eN .u8)),.rd a6 c6 2 l6.length (l6.map (eP (eI .i64) (eI .i64)))]) (N:=63) (rs:=[.tmp 6]) rfl Tryz.func10 rfl rfl rfl (((Hp.start m).qj rfl h11).qj rfl h12)<|Wk.seq<|Wk.region<|Wo.x (cY rfl) gn rfl fun b3=>?_;refine Wo.x (cY rfl) gn rfl fun b4=>?_;refine Wo.od (al rfl) rfl<|Wo.nil<|At.tn<|Wk.seq<|Wk.region<|Wo.od (ae rfl) rfl<|Wo.od (aj (k:=1) wS rfl rfl rfl) rfl<|Wo.od (aj (k:=0) F2 rfl rfl rfl) rfl ?_;obtain⟨⟨l1,l2,l3,l4⟩,h13,hF⟩:=J hF;refine Wo.x (wz (N:=(fun x:Option Addr × Nat × Nat × Option Addr × Nat × Nat × Option Addr × Nat × Nat × Option Addr × Nat × Nat=>[.rd x.1 x.2.1 2 x.2.2.1 (l1.map (eP (eI .i64) (eI .i64))),.rd x.2.2.2.1 x.2.2.2.2.1 2 x.2.2.2.2.2.1 (l2.map (eP (eI .i64) (eI .i64))),.rd x.2.2.2.2.2.2.1 x.2.2.2.2.2.2.2.1 2 x.2.2.2.2.2.2.2.2.1 (l3.map (eP (eI .i64) (eI .i64))),.rd x.2.2.2.2.2.2.2.2.2.1 x.2.2.2.2.2.2.2.2.2.2.1 2 x.2.2.2.2.2.2.2.2.2.2.2 (l4.map (eP (eI .i64) (eI .i64)))])) rfl rfl (fun m hm=>Ds n l6 l7 x9 x3 x4 x10 x11 x12 x13 x14 x15 x16 x17 x18 x19 x20 x21 a6 c6 a7 c7 _ h13 m hm.mR (hm.rd (k:=3) rfl (.rd _ _ _ _ _)) (hm.sQ (k:=3) rfl) (hm.rd (k:=2) rfl (.rd _ _ _ _ _)) (hm.sQ (k:=2) rfl)) fun _=>rfl) gn rfl ?_;rintro⟨a0,c0,n0,a1,c1,n1,a2,c2,n2,a3,c3,n4⟩;refine Wo.uW (k:=0) (xs:=l1) rfl ?_;rintro rfl;refine Wo.uW (k:=1) (xs:=l2) rfl ?_;rintro rfl;refine Wo.uW (k:=2) (xs:=l3) rfl ?_;rintro rfl;refine Wo.uW (k:=3) (xs:=l4) rfl ?_;rintro rfl;refine Wo.x (eg z70 rfl) gn rfl fun b0=>?_;refine Wo.o0 (cT (k:=0) yO rfl rfl rfl rfl rfl)<|Wo.nil<|At.tn<|Wk.seq<|Wk.seq<|Wk.region<|Wo.od (aj (k:=0) yO rfl rfl rfl) rfl<|Wo.od (ae rfl) rfl<|Wo.nil<|At.tn<|Wk.block ?_;obtain⟨r0,h5,hF⟩:=J hF;refine Wk.cut (G:=(fun(r:(Unit) ⊕ (Unit)) (g:Unit)=>match r,g with | .inl _,_=>⟨.ret,[(6,.bool false)],[]⟩ | .inr _,_=>⟨(.exit 0),[],[]⟩) r0) ?_ ?_
 ·refine Wk.fy (fs':=[(7,ptr b0 0),(20,.agg #[.slice a0 l1.length c0,.slice a1 l2.length c1,.slice a2 l3.length c2,.slice a3 l4.length c3]),(21,.int .i64 0)]) (ps':=[.obj b0 (.cells [.slice a0 l1.length c0,.slice a1 l2.length c1,.slice a2 l3.length c2,.slice a3 l4.length c3] .own),.rd a0 c0 2 l1.length (l1.map (eP (eI .i64) (eI .i64))),.rd a1 c1 2 l2.length (l2.map (eP (eI .i64) (eI .i64))),.rd a2 c2 2 l3.length (l3.map (eP (eI .i64) (eI .i64))),.rd a3 c3 2 l4.length (l4.map (eP (eI .i64) (eI .i64)))]) (sc rfl (sc rfl (sc rfl sn))) (aa.U [0,1,2,3,4] rfl rfl) ?_;refine Wk.loop (σ:=Int) (ρ:=(Unit) ⊕ (Unit)) (γ:=Unit) (δ:=fun _=>Unit) _ (fun(s:Int) (g:Unit)=>match s,g with|v0,_=>⟨.normal,[(7,ptr b0 0),(20,.agg #[.slice a0 l1.length c0,.slice a1 l2.length c1,.slice a2 l3.length c2,.slice a3 l4.length c3]),(21,.int .i64 v0)],[.obj b0 (.cells [.slice a0 l1.length c0,.slice a1 l2.length c1,.slice a2 l3.length c2,.slice a3 l4.length c3] .own),.rd a0 c0 2 l1.length (l1.map (eP (eI .i64) (eI .i64))),.rd a1 c1 2 l2.length (l2.map (eP (eI .i64) (eI .i64))),.rd a2 c2 2 l3.length (l3.map (eP (eI .i64) (eI .i64))),.rd a3 c3 2 l4.length (l4.map (eP (eI .i64) (eI .i64)))]⟩) (fun(r:(Unit) ⊕ (Unit)) (g:Unit)=>match r,g with | .inl _,_=>⟨.ret,[(6,.bool false)],[]⟩ | .inr _,_=>⟨(.exit 0),[],[]⟩) ?_ (fun _ _=>rfl) (fun r d=>by rcases r with _|_<;>(intro e; cases e)) _ _ _ h5 ()
  clear hF h5;rintro v0 ⟨⟩ r hF;unfold tT at hF;refine Wk.seq<|Wk.region<|Wo.od (ak rfl rfl (bf _ _ _)) rfl<|Wo.nil<|At.tn<|Wk.seq ?_;rcases ah hF with⟨h6,hF⟩|⟨h6,hF⟩
  ·refine Wk.aC rfl h6<|Wk.skip<|At.tn<|Wk.seq<|Wk.block<|Wk.seq<|Wk.region ?_;obtain⟨h14,hF⟩:=av hF;obtain⟨l5,h1,hF⟩:=J hF;refine Wo.x (zS (α:=Option Addr × Nat) (V:=fun g=>match g with | (a4,c4)=>.slice a4 l5.length c4) (N:=fun g=>match g with | (a4,c4)=>[.rd a4 c4 2 l5.length (l5.map (eP (eI .i64) (eI .i64)))]++[.obj b0 (.cells [.slice a0 l1.length c0,.slice a1 l2.length c1,.slice a2 l3.length c2,.slice a3 l4.length c3] .own),.rd a0 c0 2 l1.length (l1.map (eP (eI .i64) (eI .i64))),.rd a1 c1 2 l2.length (l2.map (eP (eI .i64) (eI .i64))),.rd a2 c2 2 l3.length (l3.map (eP (eI .i64) (eI .i64))),.rd a3 c3 2 l4.length (l4.map (eP (eI .i64) (eI .i64)))]) rfl rfl (fun m hm=>?_)) gn rfl ?_
   ·have hj:=ax h14;obtain⟨j,h4⟩:∃j:Nat,(v0:Int)=j:=⟨_,(Int.toNat_of_nonneg hj.1).symm⟩;rw[h4] at h1 hj ⊢;rw[Int.toNat_natCast] at h1 hj;replace hj:=hj.2;clear hF h4
    match j,hj,h1 with
    | 0,_,h1=>cases h1; exact⟨(a0,c0),mE sI (i:=0) (by decide) (iQ ec rfl),(Hp.dup hm (k:=1) rfl)⟩
    | 1,_,h1=>cases h1; exact⟨(a1,c1),mE sI (i:=1) (by decide) (iQ ec rfl),(Hp.dup hm (k:=2) rfl)⟩
    | 2,_,h1=>cases h1; exact⟨(a2,c2),mE sI (i:=2) (by decide) (iQ ec rfl),(Hp.dup hm (k:=3) rfl)⟩
    | 3,_,h1=>cases h1; exact⟨(a3,c3),mE sI (i:=3) (by decide) (iQ ec rfl),(Hp.dup hm (k:=4) rfl)⟩
    | _+4,hj,_=>exact absurd hj (by omega)
   rintro⟨a4,c4⟩;refine Wo.od (al rfl) rfl<|Wo.nil<|At.tn<|Wk.seq<|Wk.region<|Wo.od (ae rfl) rfl ?_;obtain⟨⟨r2,r3⟩,h15,hF⟩:=J hF;refine Wo.x (cQ rfl rfl (fun m hm=>yh n l5 a4 c4 _ h15 m (hm.rd (k:=0) rfl (.rd _ _ _ _ _))) fun _=>rfl) gn rfl ?_;rintro⟨⟩;refine Wo.od (ae rfl) rfl<|Wo.od (oS rfl rfl) rfl<|Wo.od (oS rfl rfl) rfl<|Wo.od (al rfl) rfl<|Wo.od (al rfl) rfl<|Wo.nil<|At.tn<|Wk.seq<|Wk.region<|Wo.od (ae rfl) rfl ?_;obtain⟨⟨r4,r5⟩,h16,hF⟩:=J hF;refine Wo.x (cQ rfl rfl (fun m hm=>yX n l5 a4 c4 _ h16 m (hm.rd (k:=0) rfl (.rd _ _ _ _ _))) fun _=>rfl) gn rfl ?_;rintro⟨⟩;refine Wo.od (ae rfl) rfl<|Wo.od (oS rfl rfl) rfl<|Wo.od (oS rfl rfl) rfl<|Wo.od (al rfl) rfl<|Wo.od (al rfl) rfl<|Wo.nil<|At.tn<|Wk.seq<|Wk.seq ?_;obtain⟨v1,h17,hF⟩:=J hF;refine Wk.cut (G:=(fun(r:Bool) (g:Unit)=>match r,g with|v1,_=>⟨.normal,[(7,ptr b0 0),(9,.slice a4 l5.length c4),(20,.agg #[.slice a0 l1.length c0,.slice a1 l2.length c1,.slice a2 l3.length c2,.slice a3 l4.length c3]),(21,.int .i64 v0),(48,.bool v1)],[.obj b0 (.cells [.slice a0 l1.length c0,.slice a1 l2.length c1,.slice a2 l3.length c2,.slice a3 l4.length c3] .own),.rd a0 c0 2 l1.length (l1.map (eP (eI .i64) (eI .i64))),.rd a1 c1 2 l2.length (l2.map (eP (eI .i64) (eI .i64))),.rd a2 c2 2 l3.length (l3.map (eP (eI .i64) (eI .i64))),.rd a3 c3 2 l4.length (l4.map (eP (eI .i64) (eI .i64))),.rd a4 c4 2 l5.length (l5.map (eP (eI .i64) (eI .i64)))]⟩) v1) ?_ ?_
   ·clear hF;revert v1;intro r hF;refine Wk.region<|Wo.od (ae rfl) rfl<|Wo.od (ae rfl) rfl<|Wo.od (ak rfl rfl (ee _ _)) rfl<|Wo.od (ae rfl) rfl ?_;rcases ah hF with⟨h3,hF⟩|⟨h3,hF⟩
    ·refine Wo.s (gg rfl rfl (hU h3)) rfl<|Wo.s (gg rfl rfl (hU h3)) rfl<|Wo.s (gg rfl rfl (hU h3)) rfl<|Wo.od (fb rfl h3 rfl) rfl<|Wo.od (ae rfl) rfl<|Wo.s (gg rfl rfl rfl) rfl<|Wo.s (gg rfl rfl rfl) rfl<|Wo.s (gg rfl rfl rfl) rfl<|Wo.s (gg rfl rfl rfl) rfl<|Wo.s (gg rfl rfl rfl) rfl ?_;refine Wo.od (sS rfl rfl) rfl<|Wo.nil ?_;cases hF;exact At.en () rfl (sc rfl (sc rfl (sc rfl (sc rfl (sc rfl sn))))) (aa.U [1,2,3,4,5,0] rfl rfl)
    ·refine Wo.og (ae rfl) (gg rfl rfl (gS h3)) rfl<|Wo.og (ae rfl) (gg rfl rfl (gS h3)) rfl<|Wo.og (ak rfl rfl (ee _ _)) (gg rfl rfl (gS h3)) rfl<|Wo.od (fc rfl h3 rfl) rfl<|Wo.od (ae rfl) rfl ?_;rcases ah hF with⟨h0,hF⟩|⟨h0,hF⟩
     ·refine Wo.s (gg rfl rfl (hU h0)) rfl<|Wo.s (gg rfl rfl (hU h0)) rfl<|Wo.s (gg rfl rfl (hU h0)) rfl<|Wo.s (gg rfl rfl (hU h0)) rfl<|Wo.s (gg rfl rfl (hU h0)) rfl<|Wo.od (fb rfl h0 rfl) rfl<|Wo.nil ?_;cases hF;exact At.en () rfl (sc rfl (sc rfl (sc rfl (sc rfl (sc rfl sn))))) (aa.U [1,2,3,4,5,0] rfl rfl)
     ·refine Wo.og (ae rfl) (gg rfl rfl (gS h0)) rfl ?_;obtain⟨r6,h18,hF⟩:=J hF;refine Wo.x (cQ rfl rfl (fun m hm=>Ed n l5 a4 c4 _ h18 m (hm.rd (k:=0) rfl (.rd _ _ _ _ _))) fun _=>rfl) (gg rfl rfl (gS h0)) rfl ?_;rintro⟨⟩;refine Wo.og (ae rfl) (gg rfl rfl (gS h0)) rfl ?_;obtain⟨r7,h19,hF⟩:=J hF;refine Wo.x (cQ rfl rfl (fun m hm=>yd n l5 a4 c4 _ h19 m (hm.rd (k:=0) rfl (.rd _ _ _ _ _))) fun _=>rfl) (gg rfl rfl (gS h0)) rfl ?_;rintro⟨⟩;refine Wo.og (ak rfl rfl (ee _ _)) (gg rfl rfl (gS h0)) rfl<|Wo.od (fc rfl h0 rfl) rfl<|Wo.nil ?_;cases hF;exact At.en () rfl (sc rfl (sc rfl (sc rfl (sc rfl (sc rfl sn))))) (aa.U [1,2,3,4,5,0] rfl rfl)
   ·clear h17;rintro⟨⟩;refine At.tn ?_;rcases ah hF with⟨h7,hF⟩|⟨h7,hF⟩
    ·refine Wk.aC rfl h7<|Wk.seq<|Wk.region<|Wo.od (al rfl) rfl<|Wo.nil<|At.tn<|Wk.ret<|At.tr<|At.br<|At.tr ?_;cases hF;exact At.en () rfl (sc rfl sn) (aa.U [] rfl rfl)
    ·refine Wk.aD rfl h7<|Wk.skip<|At.tn<|Wk.seq<|Wk.region<|Wo.od (aj (k:=0) yO rfl rfl rfl) rfl<|Wo.od (ae rfl) rfl<|Wo.nil<|At.tn<|Wk.block ?_;obtain⟨r1,h8,hF⟩:=J hF;refine Wk.cut (G:=(fun(r:(Unit) ⊕ (Unit)) (g:Unit)=>match r,g with | .inl _,_=>⟨.ret,[(6,.bool false)],[]⟩ | .inr _,_=>⟨(.exit 2),[(7,ptr b0 0),(20,.agg #[.slice a0 l1.length c0,.slice a1 l2.length c1,.slice a2 l3.length c2,.slice a3 l4.length c3]),(21,.int .i64 v0)],[.obj b0 (.cells [.slice a0 l1.length c0,.slice a1 l2.length c1,.slice a2 l3.length c2,.slice a3 l4.length c3] .own),.rd a0 c0 2 l1.length (l1.map (eP (eI .i64) (eI .i64))),.rd a1 c1 2 l2.length (l2.map (eP (eI .i64) (eI .i64))),.rd a2 c2 2 l3.length (l3.map (eP (eI .i64) (eI .i64))),.rd a3 c3 2 l4.length (l4.map (eP (eI .i64) (eI .i64)))]⟩) r1) ?_ ?_
     ·refine Wk.fy (fs':=[(7,ptr b0 0),(9,.slice a4 l5.length c4),(20,.agg #[.slice a0 l1.length c0,.slice a1 l2.length c1,.slice a2 l3.length c2,.slice a3 l4.length c3]),(21,.int .i64 v0),(49,.agg #[.slice a0 l1.length c0,.slice a1 l2.length c1,.slice a2 l3.length c2,.slice a3 l4.length c3]),(50,.int .i64 0)]) (ps':=[.obj b0 (.cells [.slice a0 l1.length c0,.slice a1 l2.length c1,.slice a2 l3.length c2,.slice a3 l4.length c3] .own),.rd a0 c0 2 l1.length (l1.map (eP (eI .i64) (eI .i64))),.rd a1 c1 2 l2.length (l2.map (eP (eI .i64) (eI .i64))),.rd a2 c2 2 l3.length (l3.map (eP (eI .i64) (eI .i64))),.rd a3 c3 2 l4.length (l4.map (eP (eI .i64) (eI .i64))),.rd a4 c4 2 l5.length (l5.map (eP (eI .i64) (eI .i64)))]) (sc rfl (sc rfl (sc rfl (sc rfl (sc rfl (sc rfl sn)))))) (aa.U [0,1,2,3,4,5] rfl rfl) ?_;refine Wk.loop (σ:=Int) (ρ:=(Unit) ⊕ (Unit)) (γ:=Unit) (δ:=fun _=>Unit) _ (fun(s:Int) (g:Unit)=>match s,g with|v2,_=>⟨.normal,[(7,ptr b0 0),(9,.slice a4 l5.length c4),(20,.agg #[.slice a0 l1.length c0,.slice a1 l2.length c1,.slice a2 l3.length c2,.slice a3 l4.length c3]),(21,.int .i64 v0),(49,.agg #[.slice a0 l1.length c0,.slice a1 l2.length c1,.slice a2 l3.length c2,.slice a3 l4.length c3]),(50,.int .i64 v2)],[.obj b0 (.cells [.slice a0 l1.length c0,.slice a1 l2.length c1,.slice a2 l3.length c2,.slice a3 l4.length c3] .own),.rd a0 c0 2 l1.length (l1.map (eP (eI .i64) (eI .i64))),.rd a1 c1 2 l2.length (l2.map (eP (eI .i64) (eI .i64))),.rd a2 c2 2 l3.length (l3.map (eP (eI .i64) (eI .i64))),.rd a3 c3 2 l4.length (l4.map (eP (eI .i64) (eI .i64))),.rd a4 c4 2 l5.length (l5.map (eP (eI .i64) (eI .i64)))]⟩) (fun(r:(Unit) ⊕ (Unit)) (g:Unit)=>match r,g with | .inl _,_=>⟨.ret,[(6,.bool false)],[]⟩ | .inr _,_=>⟨(.exit 2),[(7,ptr b0 0),(20,.agg #[.slice a0 l1.length c0,.slice a1 l2.length c1,.slice a2 l3.length c2,.slice a3 l4.length c3]),(21,.int .i64 v0)],[.obj b0 (.cells [.slice a0 l1.length c0,.slice a1 l2.length c1,.slice a2 l3.length c2,.slice a3 l4.length c3] .own),.rd a0 c0 2 l1.length (l1.map (eP (eI .i64) (eI .i64))),.rd a1 c1 2 l2.length (l2.map (eP (eI .i64) (eI .i64))),.rd a2 c2 2 l3.length (l3.map (eP (eI .i64) (eI .i64))),.rd a3 c3 2 l4.length (l4.map (eP (eI .i64) (eI .i64)))]⟩) ?_ (fun _ _=>rfl) (fun r d=>by rcases r with _|_<;>(intro e; cases e)) _ _ _ h8 ()
      clear hF h8;rintro v2 ⟨⟩ r hF;unfold tN at hF;refine Wk.seq<|Wk.region<|Wo.od (ak rfl rfl (bf _ _ _)) rfl<|Wo.nil<|At.tn<|Wk.seq ?_;rcases ah hF with⟨h9,hF⟩|⟨h9,hF⟩
      ·refine Wk.aC rfl h9<|Wk.skip<|At.tn<|Wk.seq<|Wk.block<|Wk.seq<|Wk.region ?_;obtain⟨h20,hF⟩:=av hF;obtain⟨l8,h2,hF⟩:=J hF;refine Wo.x (zS (α:=Option Addr × Nat) (V:=fun g=>match g with | (a5,c5)=>.slice a5 l8.length c5) (N:=fun g=>match g with | (a5,c5)=>[.rd a5 c5 2 l8.length (l8.map (eP (eI .i64) (eI .i64)))]++[.obj b0 (.cells [.slice a0 l1.length c0,.slice a1 l2.length c1,.slice a2 l3.length c2,.slice a3 l4.length c3] .own),.rd a0 c0 2 l1.length (l1.map (eP (eI .i64) (eI .i64))),.rd a1 c1 2 l2.length (l2.map (eP (eI .i64) (eI .i64))),.rd a2 c2 2 l3.length (l3.map (eP (eI .i64) (eI .i64))),.rd a3 c3 2 l4.length (l4.map (eP (eI .i64) (eI .i64))),.rd a4 c4 2 l5.length (l5.map (eP (eI .i64) (eI .i64)))]) rfl rfl (fun m hm=>?_)) gn rfl ?_
       ·have hj:=ax h20;obtain⟨j,h4⟩:∃j:Nat,(v2:Int)=j:=⟨_,(Int.toNat_of_nonneg hj.1).symm⟩;rw[h4] at h2 hj ⊢;rw[Int.toNat_natCast] at h2 hj;replace hj:=hj.2;clear hF h4
        match j,hj,h2 with
        | 0,_,h2=>cases h2; exact⟨(a0,c0),mE sI (i:=0) (by decide) (iQ ec rfl),(Hp.dup hm (k:=1) rfl)⟩
        | 1,_,h2=>cases h2; exact⟨(a1,c1),mE sI (i:=1) (by decide) (iQ ec rfl),(Hp.dup hm (k:=2) rfl)⟩
        | 2,_,h2=>cases h2; exact⟨(a2,c2),mE sI (i:=2) (by decide) (iQ ec rfl),(Hp.dup hm (k:=3) rfl)⟩
        | 3,_,h2=>cases h2; exact⟨(a3,c3),mE sI (i:=3) (by decide) (iQ ec rfl),(Hp.dup hm (k:=4) rfl)⟩
        | _+4,hj,_=>exact absurd hj (by omega)
       rintro⟨a5,c5⟩;refine Wo.od (al rfl) rfl<|Wo.nil<|At.tn<|Wk.seq<|Wk.region<|Wo.od (ae rfl) rfl<|Wo.od (ae rfl) rfl ?_;obtain⟨r8,h21,hF⟩:=J hF;refine Wo.x (cQ rfl rfl (fun m hm=>CV n l5 l8 a4 c4 a5 c5 _ h21 m (hm.rd (k:=6) rfl (.rd _ _ _ _ _)) (hm.rd (k:=0) rfl (.rd _ _ _ _ _))) fun _=>rfl) gn rfl ?_;rintro⟨⟩;refine Wo.od (ae rfl) rfl<|Wo.od (ae rfl) rfl ?_;obtain⟨r9,h22,hF⟩:=J hF;refine Wo.x (cQ rfl rfl (fun m hm=>D2 n l5 l8 a4 c4 a5 c5 _ h22 m (hm.rd (k:=6) rfl (.rd _ _ _ _ _)) (hm.rd (k:=0) rfl (.rd _ _ _ _ _))) fun _=>rfl) gn rfl ?_;rintro⟨⟩;refine Wo.od (ak rfl rfl (ED u4)) rfl<|Wo.nil<|At.tn ?_;rcases ah hF with⟨h10,hF⟩|⟨h10,hF⟩
       ·refine Wk.aC rfl h10<|Wk.seq<|Wk.region<|Wo.od (al rfl) rfl<|Wo.nil<|At.tn<|Wk.ret<|At.br<|At.tr ?_;cases hF;exact At.en () rfl (sc rfl sn) (aa.U [] rfl rfl)
       ·refine Wk.aD rfl h10<|Wk.skip<|At.bn<|At.tn<|Wk.region<|Wo.od (ak rfl rfl (aF _ _ _)) rfl<|Wo.od (ae rfl) rfl<|Wo.nil ?_;cases hF;exact At.en () rfl (sc rfl (sc rfl (sc rfl (sc rfl (sc rfl (sc rfl sn)))))) (aa.U [1,2,3,4,5,6] rfl rfl)
      ·refine Wk.aD rfl h9<|Wk.exit<|At.te ?_;cases hF;exact At.en () rfl (sc rfl (sc rfl (sc rfl sn))) (aa.U [0,1,2,3,4] rfl rfl)
     ·clear h8;rcases r1 with _|_
      ·rintro⟨⟩;refine At.br<|At.br<|At.tr ?_;cases hF;exact At.en () rfl (sc rfl sn) (aa.U [] rfl rfl)
      ·rintro⟨⟩;refine At.be<|At.bn<|At.tn<|Wk.region<|Wo.od (ak rfl rfl (aF _ _ _)) rfl<|Wo.od (ae rfl) rfl<|Wo.nil ?_;cases hF;exact At.en () rfl (sc rfl (sc rfl (sc rfl sn))) (aa.U [0,1,2,3,4] rfl rfl)
  ·refine Wk.aD rfl h6<|Wk.exit<|At.te ?_;cases hF;exact At.en () rfl sn (aa.U [] rfl rfl)
 ·clear h5;rcases r0 with _|_
  ·rintro⟨⟩;refine At.br<|At.tr ?_;cases hF;exact At.ret (.tmp rfl .nil) fun m' hm=>⟨(),rfl,(aa.U [] rfl rfl) m' hm⟩
  ·rintro⟨⟩;refine At.be<|At.tn<|Wk.seq<|Wk.region ?_;obtain⟨r10,h23,hF⟩:=J hF;refine Wo.x (cQ rfl rfl (fun m hm=>DT n   _ h23 m) fun _=>rfl) gn rfl ?_;rintro⟨⟩;refine Wo.od (al rfl) rfl<|Wo.nil<|At.tn<|Wk.ret ?_;have hr:=Option.some.inj hF;subst r;exact At.ret (.tmp rfl .nil) fun m' hm=>⟨(),rfl,(aa.U [] rfl rfl) m' hm⟩
end Go.Proofs.YthmekkhpddehjaaGreat
end

section
namespace Go.Ab
open Go
end Go.Ab
end

section
namespace Go.Ab.W
open Go Go.Ab
section
variable {σ ρ τ : Type}
end
end Go.Ab.W
end

section
namespace Go.Ab.B
open Go Go.Ab Go.Ab.W
section
variable {α β σ ρ : Type}
theorem kC (a b:Option β):br true a b=a:=rfl
theorem gK (a b:Option β):br false a b=b:=rfl
theorem bO (a:Option β):gd true a=a:=rfl
theorem aw (x:α) (f:α→Option β):ob (some x) f=f x:=rfl
theorem aR {p:Prop} [Decidable p] (h:p) (a b:Option β):br (decide p) a b=a:=by rw[decide_eq_true h]; rfl
theorem aW {p:Prop} [Decidable p] (h:¬p) (a b:Option β):br (decide p) a b=b:=by rw[decide_eq_false h]; rfl
theorem Dk (c:Bool) (a b:Option β):br c a b=if c then a else b:=by cases c<;>rfl
theorem oo (c d:Bool):br c (some true) (some d)=some (c || d):=by cases c<;>rfl
theorem ei (c d:Bool):br c (some d) (some false)=some (c && d):=by cases c<;>rfl
theorem yb {p:Prop} [Decidable p] (h:p) (a:Option β):gd (decide p) a=a:=by rw[decide_eq_true h]; rfl
theorem bt {i n:Nat} (h:i<n):ew (i:Int) n=true:=decide_eq_true ⟨Int.natCast_nonneg i,by simpa using h⟩
theorem az {x:Int} (h1 : -9223372036854775808≤x) (h2:x<9223372036854775808):IntKind.wrap .i64 x=x:=wrap_i64 x h1 (by omega)
theorem bj {i:Nat} (h:i<4611686018427387904):IntKind.wrap .i64 ((i:Int)+1)=((i+1:Nat):Int):=by rw[az (by omega) (by omega)]; rfl
theorem bP {body:σ→Option (σ ⊕ ρ)} {n:Nat} {s s':σ} (h:body s=some (.inl s')):dY body (n+1) s=dY body n s':=by simp only[dY,h]
theorem eU {body:σ→Option (σ ⊕ ρ)} {n:Nat} {s:σ} {r:ρ} (h:body s=some (.inr r)):dY body (n+1) s=some r:=by simp only[dY,h]
end
theorem dV {u v B C:Int} (_:0≤B) (hu1 : -B≤u) (hu2:u≤B) (hv1 : -C≤v) (hv2:v≤C) : -(B*C)≤u*v∧u*v≤B*C:=by
 have hC:0≤C:=by omega
 have h1:0≤(B-u)*(C-v):=Int.mul_nonneg (by omega) (by omega)
 have h2:0≤(B+u)*(C+v):=Int.mul_nonneg (by omega) (by omega)
 have h3:0≤(B-u)*(C+v):=Int.mul_nonneg (by omega) (by omega)
 have h4:0≤(B+u)*(C-v):=Int.mul_nonneg (by omega) (by omega)
 have e1:(B-u)*(C-v)=B*C-B*v-u*C+u*v:=by rw[Int.sub_mul,Int.mul_sub,Int.mul_sub]; omega
 have e2:(B+u)*(C+v)=B*C+B*v+u*C+u*v:=by rw[Int.add_mul,Int.mul_add,Int.mul_add]; omega
 have e3:(B-u)*(C+v)=B*C+B*v-u*C-u*v:=by rw[Int.sub_mul,Int.mul_add,Int.mul_add]; omega
 have e4:(B+u)*(C-v)=B*C-B*v+u*C-u*v:=by rw[Int.add_mul,Int.mul_sub,Int.mul_sub]; omega
 omega
theorem pI {α:Type} [DecidableEq α]:∀{l m:List α},l.Nodup→(∀a ∈ l,a ∈ m)→l.length≤m.length
 | [],_,_,_=>Nat.zero_le _
 | a::l,m,hn,hs=>by
  obtain⟨n1,n2⟩:=List.nodup_cons.1 hn;have ha:=hs a List.mem_cons_self;have:=pI (l:=l) (m:=m.erase a) n2 fun b hb=>by
   have hne:b≠a:=fun e=>n1 (e ▸ hb);exact(List.mem_erase_of_ne hne).2 (hs b (List.mem_cons_of_mem _ hb))
  rw[List.length_erase_of_mem ha] at this;have hp:0<m.length:=List.length_pos_of_mem ha;rw[List.length_cons]; omega
end Go.Ab.B
end

section
namespace Jd
abbrev P2:=Rat × Rat
def tn (a b c:P2):Rat:=(b.1-a.1)*(c.2-a.2)-(b.2-a.2)*(c.1-a.1)
def af (α β γ:Rat) (x:P2):Rat:=α*x.1+β*x.2+γ
def Sep (a b p q:P2):Prop:=∃α β γ,0<af α β γ a∧0<af α β γ b∧af α β γ p<0∧af α β γ q<0
theorem Sep.ab {a b p q:P2} (h:Sep a b p q):Sep b a p q:=let ⟨α,β,γ,h1,h2,h3,h4⟩:=h; ⟨α,β,γ,h2,h1,h3,h4⟩
theorem Sep.pq {a b p q:P2} (h:Sep a b p q):Sep a b q p:=let ⟨α,β,γ,h1,h2,h3,h4⟩:=h; ⟨α,β,γ,h1,h2,h4,h3⟩
theorem bQ {x y:Rat} (hx:0≤x) (hy:0≤y):0≤x*y:=Rat.mul_nonneg hx hy
theorem bm {x y:Rat} (hx:0<x) (hy:0<y):0<x*y:=Rat.mul_pos hx hy
theorem db {x y:Rat} (hx:0≤x) (hy:y≤0):x*y≤0:=by
 have:=bQ hx (show(0:Rat)≤-y by grind)
 grind
theorem dB {x y:Rat} (hx:0<x) (hy:y<0):x*y<0:=by
 have:=bm hx (show(0:Rat) < -y by grind)
 grind
theorem kz (a b p:P2):tn b a p = -tn a b p:=by unfold tn; grind
def we (a b p:P2):Int:=if a.2≤p.2∧p.2<b.2∧0<tn a b p then 1 else if b.2≤p.2∧p.2<a.2∧tn a b p<0 then -1 else 0
theorem my {a b p:P2} (h1:a.2≤p.2) (h2:p.2<b.2):we a b p=if 0<tn a b p then 1 else 0:=by
 unfold we
 by_cases h:0<tn a b p
 ·rw[if_pos ⟨h1,h2,h⟩,if_pos h]
 ·rw[if_neg (fun e=>h e.2.2),if_neg (fun e=>by grind),if_neg h]
theorem er {a b p:P2} (h1:¬(a.2≤p.2∧p.2<b.2)) (h2:¬(b.2≤p.2∧p.2<a.2)):we a b p=0:=by
 unfold we;rw[if_neg (fun e=>h1 ⟨e.1,e.2.1⟩),if_neg (fun e=>h2 ⟨e.1,e.2.1⟩)]
theorem mV (a b p:P2):we b a p = -we a b p:=by
 have h:=kz a b p;unfold we
 by_cases h1:a.2≤p.2∧p.2<b.2∧0<tn a b p
 ·rw[if_pos h1,if_neg (fun e=>by grind),if_pos ⟨h1.1,h1.2.1,by grind⟩]
 ·by_cases h2:b.2≤p.2∧p.2<a.2∧tn a b p<0
  ·rw[if_neg h1,if_pos h2,if_pos ⟨h2.1,h2.2.1,by grind⟩]; rfl
  ·rw[if_neg h1,if_neg h2,if_neg (fun e=>h2 ⟨e.1,e.2.1,by grind⟩),if_neg (fun e=>h1 ⟨e.1,e.2.1,by grind⟩)]; rfl
def fz (p q v:P2):Int:=if p.2<v.2∧v.2≤q.2∧tn p q v<0 then 1 else 0
theorem gh {p q v:P2} (h:¬(p.2<v.2∧v.2≤q.2)):fz p q v=0:=if_neg fun e=>h ⟨e.1,e.2.1⟩
theorem oe {p q v:P2} (h1:p.2<v.2) (h2:v.2≤q.2):fz p q v=if tn p q v<0 then 1 else 0:=by
 unfold fz
 by_cases h:tn p q v<0
 ·rw[if_pos ⟨h1,h2,h⟩,if_pos h]
 ·rw[if_neg (fun e=>h e.2.2),if_neg h]
section
variable {a b p q : P2}
theorem Du (α β γ:Rat):tn p q b*af α β γ a-tn p q a*af α β γ b=tn a b p*af α β γ q-tn a b q*af α β γ p:=by
 unfold tn af; grind
theorem z7 (h:Sep a b p q) (h1:0≤tn p q b) (h2:tn p q a≤0) (h3:0≤tn a b p) (h4:tn a b q≤0) (h5:0<tn a b p∨tn a b q<0∨0<tn p q b∨tn p q a<0):False:=by
 obtain⟨α,β,γ,g1,g2,g3,g4⟩:=h;have e:=Du (a:=a) (b:=b) (p:=p) (q:=q) α β γ;generalize af α β γ a=A at *;generalize af α β γ b=B at *;generalize af α β γ p=C at *;generalize af α β γ q=D at *;generalize tn p q b=Tb at *;generalize tn p q a=Ta at *;generalize tn a b p=Up at *;generalize tn a b q=Uq at *;have k1:0≤Tb*A:=bQ h1 (by grind)
 have k2:0≤(-Ta)*B:=bQ (by grind) (by grind)
 have k3:0≤Up*(-D):=bQ h3 (by grind)
 have k4:0≤(-Uq)*(-C):=bQ (by grind) (by grind)
 rcases h5 with h|h|h|h
 ·have:0<Up*(-D):=bm h (by grind)
  grind
 ·have:0<(-Uq)*(-C):=bm (by grind) (by grind)
  grind
 ·have:0<Tb*A:=bm h g1
  grind
 ·have:0<(-Ta)*B:=bm (by grind) g2
  grind
theorem vJ (h:Sep a b p q) (h1:tn p q b≤0) (h2:0≤tn p q a) (h3:tn a b p≤0) (h4:0≤tn a b q) (h5:tn a b p<0∨0<tn a b q∨tn p q b<0∨0<tn p q a):False:=by
 have e1:=kz a b p;have e2:=kz a b q;exact z7 h.ab (a:=b) (b:=a) h2 h1 (by grind) (by grind) (by grind)
theorem i1:(p.2-a.2)*tn p q b+(b.2-p.2)*tn p q a = -((q.2-p.2)*tn a b p):=by unfold tn; grind
theorem i2:(b.2-p.2)*tn a b q+(q.2-b.2)*tn a b p = -((b.2-a.2)*tn p q b):=by unfold tn; grind
theorem i3:(q.2-a.2)*tn p q b+(b.2-q.2)*tn p q a = -((q.2-p.2)*tn a b q):=by unfold tn; grind
theorem i4:(a.2-p.2)*tn a b q+(q.2-a.2)*tn a b p = -((b.2-a.2)*tn p q a):=by unfold tn; grind
theorem i5:tn a b q-tn a b p=tn p q a-tn p q b:=by unfold tn; grind
theorem DY (h:Sep a b p q) (h1:a.2≤p.2) (h2:p.2<b.2) (h3:b.2≤q.2):0<tn a b p↔tn p q b<0:=by
 have e1:=i1 (a:=a) (b:=b) (p:=p) (q:=q);have e2:=i2 (a:=a) (b:=b) (p:=p) (q:=q);have K:=z7 h;have K':=vJ h;clear h;generalize tn p q b=Tb at *;generalize tn p q a=Ta at *;generalize tn a b p=Up at *;generalize tn a b q=Uq at *;have d1:0≤p.2-a.2:=by grind
 have d2:0<b.2-p.2:=by grind
 have d3:0<q.2-p.2:=by grind
 have d4:0≤q.2-b.2:=by grind
 have d5:0<b.2-a.2:=by grind
 generalize p.2-a.2=x1 at *;generalize b.2-p.2=x2 at *;generalize q.2-p.2=x3 at *;generalize q.2-b.2=x4 at *;generalize b.2-a.2=x5 at *;constructor
 ·intro hu;refine Decidable.byContradiction fun ht=>?_;have ht:0≤Tb:=by grind
  have m1:=bQ d1 ht;have m2:=bm d3 hu;have ta:Ta≤0:=by
   refine Decidable.byContradiction fun hc=>?_;have:=bm d2 (show 0<Ta by grind)
   grind
  have uq:Uq≤0:=by
   refine Decidable.byContradiction fun hc=>?_;have m3:=bm d2 (show 0<Uq by grind)
   have m4:=bQ d4 (show 0≤Up by grind)
   have m5:=bQ (show 0≤x5 by grind) ht
   grind
  exact K ht ta (by grind) uq (.inl hu)
 ·intro ht;refine Decidable.byContradiction fun hu=>?_;have hu:Up≤0:=by grind
  have m1:=db d1 (show Tb≤0 by grind)
  have m2:=db (show 0≤x3 by grind) hu
  have ta:0≤Ta:=by
   refine Decidable.byContradiction fun hc=>?_;have:=dB d2 (show Ta<0 by grind)
   grind
  have uq:0≤Uq:=by
   refine Decidable.byContradiction fun hc=>?_;have m3:=dB d2 (show Uq<0 by grind)
   have m4:=db d4 hu;have m5:=dB d5 ht
   grind
  exact K' (by grind) ta hu uq (.inr (.inr (.inl ht)))
theorem Dj (h:Sep a b p q) (h1:p.2<a.2) (h2:a.2≤q.2) (h3:q.2<b.2):0<tn a b q↔tn p q a<0:=by
 have e3:=i3 (a:=a) (b:=b) (p:=p) (q:=q);have e4:=i4 (a:=a) (b:=b) (p:=p) (q:=q);have K:=z7 h;have K':=vJ h;clear h;generalize tn p q b=Tb at *;generalize tn p q a=Ta at *;generalize tn a b p=Up at *;generalize tn a b q=Uq at *;have d1:0≤q.2-a.2:=by grind
 have d2:0<b.2-q.2:=by grind
 have d3:0<q.2-p.2:=by grind
 have d4:0<a.2-p.2:=by grind
 have d5:0<b.2-a.2:=by grind
 generalize q.2-a.2=x1 at *;generalize b.2-q.2=x2 at *;generalize q.2-p.2=x3 at *;generalize a.2-p.2=x4 at *;generalize b.2-a.2=x5 at *;constructor
 ·intro hu;refine Decidable.byContradiction fun ht=>?_;have ht:0≤Ta:=by grind
  have m1:=bQ (show 0≤x2 by grind) ht
  have m2:=bm d3 hu;have tb:Tb≤0:=by
   refine Decidable.byContradiction fun hc=>?_;have:=bQ d1 (show 0≤Tb by grind)
   grind
  have up:Up≤0:=by
   refine Decidable.byContradiction fun hc=>?_;have m3:=bm d4 hu;have m4:=bQ d1 (show 0≤Up by grind)
   have m5:=bQ (show 0≤x5 by grind) ht
   grind
  exact K' tb ht up (by grind) (.inr (.inl hu))
 ·intro ht;refine Decidable.byContradiction fun hu=>?_;have hu:Uq≤0:=by grind
  have m2:=db (show 0≤x3 by grind) hu
  have m1:=dB d2 ht;have tb:0≤Tb:=by
   refine Decidable.byContradiction fun hc=>?_;have:=db d1 (show Tb≤0 by grind)
   grind
  have up:0≤Up:=by
   refine Decidable.byContradiction fun hc=>?_;have m3:=db (show 0≤x4 by grind) hu
   have m4:=db d1 (show Up≤0 by grind)
   have m5:=dB d5 ht
   grind
  exact K tb (by grind) up hu (.inr (.inr (.inr ht)))
theorem Eu (h:Sep a b p q) (h1:a.2≤p.2) (h2:p.2≤q.2) (h3:q.2<b.2):0<tn a b p↔0<tn a b q:=by
 have e1:=i1 (a:=a) (b:=b) (p:=p) (q:=q);have e3:=i3 (a:=a) (b:=b) (p:=p) (q:=q);have e5:=i5 (a:=a) (b:=b) (p:=p) (q:=q);have K:=z7 h;have K':=vJ h;clear h;generalize tn p q b=Tb at *;generalize tn p q a=Ta at *;generalize tn a b p=Up at *;generalize tn a b q=Uq at *;have d1:0≤p.2-a.2:=by grind
 have d2:0<b.2-p.2:=by grind
 have d3:0≤q.2-p.2:=by grind
 have d4:0≤q.2-a.2:=by grind
 have d5:0<b.2-q.2:=by grind
 generalize p.2-a.2=x1 at *;generalize b.2-p.2=x2 at *;generalize q.2-p.2=x3 at *;generalize q.2-a.2=x4 at *;generalize b.2-q.2=x5 at *;constructor
 ·intro hu;refine Decidable.byContradiction fun hc=>?_;have hc:Uq≤0:=by grind
  have ta:Ta≤0:=by
   refine Decidable.byContradiction fun ht=>?_;have m1:=bQ d1 (show 0≤Tb by grind)
   have m2:=bm d2 (show 0<Ta by grind)
   have m3:=bQ d3 (show 0≤Up by grind)
   grind
  have tb:0≤Tb:=by
   refine Decidable.byContradiction fun ht=>?_;have m1:=db d4 (show Tb≤0 by grind)
   have m2:=dB d5 (show Ta<0 by grind)
   have m3:=db d3 hc
   grind
  exact K tb ta (by grind) hc (.inl hu)
 ·intro hu;refine Decidable.byContradiction fun hc=>?_;have hc:Up≤0:=by grind
  have ta:0≤Ta:=by
   refine Decidable.byContradiction fun ht=>?_;have m1:=db d1 (show Tb≤0 by grind)
   have m2:=dB d2 (show Ta<0 by grind)
   have m3:=db d3 hc
   grind
  have tb:Tb≤0:=by
   refine Decidable.byContradiction fun ht=>?_;have m1:=bQ d4 (show 0≤Tb by grind)
   have m2:=bm d5 (show 0<Ta by grind)
   have m3:=bQ d3 (show 0≤Uq by grind)
   grind
  exact K' tb ta hc (by grind) (.inr (.inl hu))
theorem Ca (h:Sep a b p q) (h0:a.2≤b.2) (h1:p.2<a.2) (h2:b.2≤q.2):tn p q a<0↔tn p q b<0:=by
 have e2:=i2 (a:=a) (b:=b) (p:=p) (q:=q);have e4:=i4 (a:=a) (b:=b) (p:=p) (q:=q);have e5:=i5 (a:=a) (b:=b) (p:=p) (q:=q);have K:=z7 h;have K':=vJ h;clear h;generalize tn p q b=Tb at *;generalize tn p q a=Ta at *;generalize tn a b p=Up at *;generalize tn a b q=Uq at *;have d1:0<b.2-p.2:=by grind
 have d2:0≤q.2-b.2:=by grind
 have d3:0≤b.2-a.2:=by grind
 have d4:0<a.2-p.2:=by grind
 have d5:0≤q.2-a.2:=by grind
 generalize b.2-p.2=x1 at *;generalize q.2-b.2=x2 at *;generalize b.2-a.2=x3 at *;generalize a.2-p.2=x4 at *;generalize q.2-a.2=x5 at *;constructor
 ·intro ha;refine Decidable.byContradiction fun hb=>?_;have hb:0≤Tb:=by grind
  have uq:Uq≤0:=by
   refine Decidable.byContradiction fun hc=>?_;have m1:=bm d1 (show 0<Uq by grind)
   have m2:=bQ d2 (show 0≤Up by grind)
   have m3:=bQ d3 hb
   grind
  have up:0≤Up:=by
   refine Decidable.byContradiction fun hc=>?_;have m1:=dB d4 (show Uq<0 by grind)
   have m2:=db d5 (show Up≤0 by grind)
   have m3:=db d3 (show Ta≤0 by grind)
   grind
  exact K hb (by grind) up uq (.inr (.inr (.inr ha)))
 ·intro hb;refine Decidable.byContradiction fun ha=>?_;have ha:0≤Ta:=by grind
  have uq:0≤Uq:=by
   refine Decidable.byContradiction fun hc=>?_;have m1:=dB d1 (show Uq<0 by grind)
   have m2:=db d2 (show Up≤0 by grind)
   have m3:=db d3 (show Tb≤0 by grind)
   grind
  have up:Up≤0:=by
   refine Decidable.byContradiction fun hc=>?_;have m1:=bm d4 (show 0<Uq by grind)
   have m2:=bQ d5 (show 0≤Up by grind)
   have m3:=bQ d3 ha
   grind
  exact K' (by grind) ha up uq (.inr (.inr (.inl hb)))
theorem mU {c d:Prop} [Decidable c] [Decidable d] (h:c↔d):(if c then(1:Int) else 0)=if d then 1 else 0:=by
 by_cases hc:c
 ·rw[if_pos hc,if_pos (h.1 hc)]
 ·rw[if_neg hc,if_neg (fun e=>hc (h.2 e))]
theorem yn (h:Sep a b p q) (hpq:p.2≤q.2) (hab:a.2≤b.2):we a b p-we a b q=fz p q b-fz p q a:=by
 by_cases ha:a.2≤p.2
 ·rw[gh (v:=a) (by grind)]
  by_cases hb:b.2≤p.2
  ·rw[gh (v:=b) (by grind),er (by grind) (by grind),er (by grind) (by grind)]
  ·by_cases hb2:b.2≤q.2
   ·rw[oe (by grind) hb2,my ha (by grind),er (p:=q) (by grind) (by grind),mU (DY h ha (by grind) hb2)]
   ·rw[gh (v:=b) (by grind),my ha (by grind),my (p:=q) (by grind) (by grind),mU (Eu h ha hpq (by grind))]
    omega
 ·rw[er (p:=p) (by grind) (by grind)]
  by_cases ha2:a.2≤q.2
  ·rw[oe (v:=a) (by grind) ha2]
   by_cases hb2:b.2≤q.2
   ·rw[oe (v:=b) (by grind) hb2,er (p:=q) (by grind) (by grind),mU (Ca h hab (by grind) hb2)]
    omega
   ·rw[gh (v:=b) (by grind),my (p:=q) ha2 (by grind),mU (Dj h (by grind) ha2 (by grind))]
  ·rw[gh (v:=a) (by grind),gh (v:=b) (by grind),er (p:=q) (by grind) (by grind)]
theorem yZ (h:Sep a b p q) (hpq:p.2≤q.2):we a b p-we a b q=fz p q b-fz p q a:=by
 by_cases hab:a.2≤b.2
 ·exact yn h hpq hab
 ·have:=yn h.ab hpq (by grind)
  rw[mV b a p,mV b a q];omega
end
def cV:Nat→(Nat→Int)→Int
 | 0,_=>0
 | n+1,f=>cV n f+f n
theorem gF {n:Nat} {f g:Nat→Int} (h:∀i,i<n→f i=g i):cV n f=cV n g:=by
 induction n with
 | zero=>rfl
 | succ n ih=>simp only[cV]; rw[ih fun i hi=>h i (by omega),h n (by omega)]
theorem s8 (n:Nat) (f g:Nat→Int):cV n (fun i=>f i-g i)=cV n f-cV n g:=by
 induction n with
 | zero=>rfl
 | succ n ih=>simp only[cV]; rw[ih]; omega
theorem nL (n:Nat) (f:Nat→Int):cV n (fun i=>f (i+1)-f i)=f n-f 0:=by
 induction n with
 | zero=>simp[cV]
 | succ n ih=>simp only[cV]; rw[ih]; omega
theorem lK {n:Nat} {f:Nat→Int} (h:∀i,i<n→f i=0):cV n f=0:=by
 induction n with
 | zero=>rfl
 | succ n ih=>simp only[cV]; rw[ih fun i hi=>h i (by omega),h n (by omega)]; rfl
theorem yG {n k:Nat} {f:Nat→Int} (hk:k<n) (h:∀i,i<n→i≠k→f i=0):cV n f=f k:=by
 induction n with
 | zero=>omega
 | succ n ih =>
  simp only[cV]
  by_cases e:k=n
  ·subst e;rw[lK fun i hi=>h i (by omega) (by omega)]; omega
  ·rw[ih (by omega) (fun i hi hn=>h i (by omega) hn),h n (by omega) (by omega)]; omega
def cv (u w:P2) (t:Rat):P2:=(u.1+t*(w.1-u.1),u.2+t*(w.2-u.2))
def sm (p d:P2) (x:Rat):P2:=(p.1+x*d.1,p.2+x*d.2)
def cr (u w d:P2):Rat:=(w.1-u.1)*d.2-(w.2-u.2)*d.1
def dt (u w x:P2):Rat:=(w.1-u.1)*(x.1-w.1)+(w.2-u.2)*(x.2-w.2)
theorem dU {A B:Rat} (ha:0<A) (hb:0<B):∃k:Rat,0<k∧k<A∧k<B:=by
 by_cases h:A≤B
 ·exact⟨A/2,by grind,by grind,by grind⟩
 ·exact⟨B/2,by grind,by grind,by grind⟩
theorem uw {a b p q:P2} (α β γ:Rat) (h1:0≤af α β γ a) (h2:0≤af α β γ b) (h3:af α β γ p<0) (h4:af α β γ q<0):Sep a b p q:=by
 obtain⟨k,k1,k2,k3⟩:=dU (show 0 < -af α β γ p by grind) (show 0 < -af α β γ q by grind)
 refine⟨α,β,γ+k,?_,?_,?_,?_⟩<;>(unfold af at *; grind)
theorem AS {a b u w:P2} (h:Sep a b u w) {t s:Rat} (t0:0≤t) (t1:t≤1) (s0:0≤s) (s1:s≤1):Sep a b (cv u w t) (cv u w s):=by
 obtain⟨α,β,γ,h1,h2,h3,h4⟩:=h;have key:∀t:Rat,0≤t→t≤1→af α β γ (cv u w t)<0:=by
  intro t t0 t1;have e:af α β γ (cv u w t)=(1-t)*af α β γ u+t*af α β γ w:=by unfold af cv; grind
  rw[e];have m1:=db (show 0≤1-t by grind) (show af α β γ u≤0 by grind)
  have m2:=db t0 (show af α β γ w≤0 by grind)
  by_cases ht:0<t
  ·have:=dB ht h4
   grind
  ·have:=dB (show 0<1-t by grind) h3
   grind
 exact⟨α,β,γ,h1,h2,key t t0 t1,key s s0 s1⟩
theorem sq_pos {x:Rat} (h:x≠0):0<x*x:=by
 by_cases hx:0<x
 ·exact bm hx hx
 ·have:=bm (show 0 < -x by grind) (show 0 < -x by grind)
  grind
theorem vX (x:Rat):0≤x*x:=by
 by_cases hx:0≤x
 ·exact bQ hx hx
 ·have:=bQ (show 0≤-x by grind) (show 0≤-x by grind)
  grind
theorem qt {u w:P2} (h:u≠w):0<(w.1-u.1)*(w.1-u.1)+(w.2-u.2)*(w.2-u.2):=by
 have n1:=vX (w.1-u.1);have n2:=vX (w.2-u.2)
 by_cases h1:w.1-u.1=0
 ·have h2:w.2-u.2≠0:=fun e=>h (Prod.ext (by grind) (by grind))
  have:=sq_pos h2
  grind
 ·have:=sq_pos h1
  grind
theorem zJ {u w x:P2} (hne:u≠w) (hc:tn u w x≠0∨0<dt u w x) {t s:Rat} (t1:t<1) (s1:s<1):Sep w x (cv u w t) (cv u w s):=by
 have e:∀t:Rat,af (-(x.2-w.2)) (x.1-w.1) ((x.2-w.2)*w.1-(x.1-w.1)*w.2) (cv u w t)=(1-t)*tn u w x:=fun t=>by unfold af cv tn; grind
 have f:∀t:Rat,af (x.2-w.2) (-(x.1-w.1)) (-((x.2-w.2)*w.1-(x.1-w.1)*w.2)) (cv u w t) = -((1-t)*tn u w x):=fun t=>by unfold af cv tn; grind
 have g:∀t:Rat,af (w.1-u.1) (w.2-u.2) (-((w.1-u.1)*w.1+(w.2-u.2)*w.2)) (cv u w t) = -((1-t)*((w.1-u.1)*(w.1-u.1)+(w.2-u.2)*(w.2-u.2))):=fun t=>by unfold af cv; grind
 by_cases h0:tn u w x=0
 ·have hd:0<dt u w x:=hc.resolve_left fun h=>h h0;have hl:=qt hne;refine uw (w.1-u.1) (w.2-u.2) (-((w.1-u.1)*w.1+(w.2-u.2)*w.2)) ?_ ?_ ?_ ?_
  ·unfold af; grind
  ·unfold dt at hd; unfold af; grind
  ·rw[g]; have:=bm (show 0<1-t by grind) hl; grind
  ·rw[g]; have:=bm (show 0<1-s by grind) hl; grind
 ·by_cases hp:0<tn u w x
  ·refine uw (x.2-w.2) (-(x.1-w.1)) (-((x.2-w.2)*w.1-(x.1-w.1)*w.2)) ?_ ?_ ?_ ?_
   ·unfold af; grind
   ·unfold af; grind
   ·rw[f]; have:=bm (show 0<1-t by grind) hp; grind
   ·rw[f]; have:=bm (show 0<1-s by grind) hp; grind
  ·have hm:tn u w x<0:=by grind
   refine uw (-(x.2-w.2)) (x.1-w.1) ((x.2-w.2)*w.1-(x.1-w.1)*w.2) ?_ ?_ ?_ ?_
   ·unfold af; grind
   ·unfold af; grind
   ·rw[e]; exact dB (show 0<1-t by grind) hm
   ·rw[e]; exact dB (show 0<1-s by grind) hm
theorem zn {x u w:P2} (hc:tn x u w≠0∨0<dt x u w) {t s:Rat} (t0:0<t) (s0:0<s):Sep x u (cv u w t) (cv u w s):=by
 have e:∀t:Rat,af (-(u.2-x.2)) (u.1-x.1) ((u.2-x.2)*x.1-(u.1-x.1)*x.2) (cv u w t)=t*tn x u w:=fun t=>by unfold af cv tn; grind
 have f:∀t:Rat,af (u.2-x.2) (-(u.1-x.1)) (-((u.2-x.2)*x.1-(u.1-x.1)*x.2)) (cv u w t) = -(t*tn x u w):=fun t=>by unfold af cv tn; grind
 have g:∀t:Rat,af (-(u.1-x.1)) (-(u.2-x.2)) ((u.1-x.1)*u.1+(u.2-x.2)*u.2) (cv u w t) = -(t*dt x u w):=fun t=>by unfold af cv dt; grind
 by_cases h0:tn x u w=0
 ·have hd:0<dt x u w:=hc.resolve_left fun h=>h h0;have n1:=vX (u.1-x.1);have n2:=vX (u.2-x.2);refine uw (-(u.1-x.1)) (-(u.2-x.2)) ((u.1-x.1)*u.1+(u.2-x.2)*u.2) ?_ ?_ ?_ ?_
  ·unfold af; grind
  ·unfold af; grind
  ·rw[g]; have:=bm t0 hd; grind
  ·rw[g]; have:=bm s0 hd; grind
 ·by_cases hp:0<tn x u w
  ·refine uw (u.2-x.2) (-(u.1-x.1)) (-((u.2-x.2)*x.1-(u.1-x.1)*x.2)) ?_ ?_ ?_ ?_
   ·unfold af; grind
   ·unfold af; grind
   ·rw[f]; have:=bm t0 hp; grind
   ·rw[f]; have:=bm s0 hp; grind
  ·have hm:tn x u w<0:=by grind
   refine uw (-(u.2-x.2)) (u.1-x.1) ((u.2-x.2)*x.1-(u.1-x.1)*x.2) ?_ ?_ ?_ ?_
   ·unfold af; grind
   ·unfold af; grind
   ·rw[e]; exact dB t0 hm
   ·rw[e]; exact dB s0 hm
def Ev (P:Rat→Rat→Prop):Prop:=∃e:Rat,0<e∧∀x y,0<x→x≤e→0<y→y≤e→P x y
theorem Ev.and {P Q:Rat→Rat→Prop} (h:Ev P) (g:Ev Q):Ev fun x y=>P x y∧Q x y:=by
 obtain⟨e,e0,h⟩:=h;obtain⟨f,f0,g⟩:=g
 by_cases hl:e≤f
 ·exact⟨e,e0,fun x y a b c d=>⟨h x y a b c d,g x y a (by grind) c (by grind)⟩⟩
 ·exact⟨f,f0,fun x y a b c d=>⟨h x y a (by grind) c (by grind),g x y a b c d⟩⟩
theorem Ev.mono {P Q:Rat→Rat→Prop} (h:Ev P) (g:∀x y,0<x→0<y→P x y→Q x y):Ev Q :=
 let ⟨e,e0,h⟩:=h
 ⟨e,e0,fun x y a b c d=>g x y a c (h x y a b c d)⟩
theorem Ev.of {P:Rat→Rat→Prop} (h:∀x y,0<x→0<y→P x y):Ev P:=⟨1,by grind,fun x y a _ c _=>h x y a c⟩
theorem Ev.all {P:Nat→Rat→Rat→Prop}:∀{n:Nat},(∀i,i<n→Ev (P i))→Ev fun x y=>∀i,i<n→P i x y
 | 0,_=>Ev.of fun _ _ _ _ i hi=>by omega
 | n+1,h=>by
  have h1:=Ev.all (P:=P) (n:=n) fun i hi=>h i (by omega)
  refine(h1.and (h n (by omega))).mono fun x y _ _ g i hi=>?_
  by_cases e:i=n
  ·subst e; exact g.2
  ·exact g.1 i (by omega)
theorem zV {A:Rat} (h:A<0) (B:Rat):∃e:Rat,0<e∧∀x,0<x→x≤e→A+x*B<0:=by
 by_cases hb:B≤0
 ·exact⟨1,by grind,fun x hx _=>by have:=db (show 0≤x by grind) hb; grind⟩
 ·have hb0:B≠0:=by grind
  have hi:B*B⁻¹=1:=Rat.mul_inv_cancel B hb0;have e1:(-A/2*B⁻¹)*B = -A/2:=by grind
  have hpos:0 < -A/2*B⁻¹:=by
   refine Decidable.byContradiction fun hc=>?_;have:=bQ (show 0≤-(-A/2*B⁻¹) by grind) (show 0≤B by grind)
   grind
  refine⟨-A/2*B⁻¹,hpos,fun x hx hl=>?_⟩;have:=bQ (show 0≤-A/2*B⁻¹-x by grind) (show 0≤B by grind)
  grind
theorem q8 {a b p q:P2} (h:Sep a b p q) (d d':P2):Ev fun x y=>Sep a b (sm p d x) (sm q d' y):=by
 obtain⟨α,β,γ,h1,h2,h3,h4⟩:=h;obtain⟨e,e0,he⟩:=zV h3 (α*d.1+β*d.2);obtain⟨f,f0,hf⟩:=zV h4 (α*d'.1+β*d'.2);have k1:∀x,af α β γ (sm p d x)=af α β γ p+x*(α*d.1+β*d.2):=fun x=>by unfold af sm; grind
 have k2:∀x,af α β γ (sm q d' x)=af α β γ q+x*(α*d'.1+β*d'.2):=fun x=>by unfold af sm; grind
 obtain⟨g,g0,ge,gf⟩:=dU e0 f0;exact⟨g,g0,fun x y x0 xg y0 yg=>⟨α,β,γ,h1,h2,by rw[k1]; exact he x x0 (by grind),by rw[k2]; exact hf y y0 (by grind)⟩⟩
structure Simple (n:Nat) (v:Nat→P2):Prop where
 n3:2<n
 cl:v n=v 0
 cl1:v (n+1)=v 1
 ne:∀i,i<n→v i≠v (i+1)
 jk:∀i,i<n→tn (v i) (v (i+1)) (v (i+2))≠0∨0<dt (v i) (v (i+1)) (v (i+2))
 sep:∀i j,i<n→j<n→i≠j→j≠i+1→i≠j+1→¬(i=0∧j+1=n)→¬(j=0∧i+1=n)→Sep (v i) (v (i+1)) (v j) (v (j+1))
def W (n:Nat) (v:Nat→P2) (p:P2):Int:=cV n fun i=>we (v i) (v (i+1)) p
section
variable {n : Nat} {v : Nat → P2}
theorem uo (hv:v n=v 0) (p q:P2):W n v p-W n v q=cV n fun i=>(we (v i) (v (i+1)) p-we (v i) (v (i+1)) q)-(fz p q (v (i+1))-fz p q (v i)):=by
 have h1:=s8 n (fun i=>we (v i) (v (i+1)) p-we (v i) (v (i+1)) q) (fun i=>fz p q (v (i+1))-fz p q (v i));have h2:=nL n fun i=>fz p q (v i);have h3:=s8 n (fun i=>we (v i) (v (i+1)) p) fun i=>we (v i) (v (i+1)) q;rw[hv] at h2;rw[h1,h2,h3];unfold W; omega
theorem uM (hv:v n=v 0) {p q:P2} (h:∀i,i<n→Sep (v i) (v (i+1)) p q):W n v p=W n v q:=by
 by_cases hl:p.2≤q.2
 ·have:=uo hv p q;rw[lK fun i hi=>by rw[yZ (h i hi) hl]; omega] at this
  omega
 ·have:=uo hv q p;rw[lK fun i hi=>by rw[yZ (h i hi).pq (by grind)]; omega] at this
  omega
theorem wD (hv:v n=v 0) {k:Nat} (hk:k<n) {p q:P2} (hl:p.2≤q.2) (h:∀i,i<n→i≠k→Sep (v i) (v (i+1)) p q) :
  W n v p-W n v q=(we (v k) (v (k+1)) p-we (v k) (v (k+1)) q)-(fz p q (v (k+1))-fz p q (v k)):=by
 rw[uo hv p q];exact yG hk fun i hi hn=>by rw[yZ (h i hi hn) hl]; omega
theorem Simple.off (S:Simple n v) {i j:Nat} (hi:i<n) (hj:j<n) (hij:i≠j) {t s:Rat} (t0:0≤t) (t1:t≤1) (s0:0≤s) (s1:s≤1)
  (hn:j=i+1∨(i+1=n∧j=0)→t<1∧s<1) (hp:i=j+1∨(j+1=n∧i=0)→0<t∧0<s):Sep (v j) (v (j+1)) (cv (v i) (v (i+1)) t) (cv (v i) (v (i+1)) s):=by
 have hn3:=S.n3
 by_cases h1:j=i+1∨(i+1=n∧j=0)
 ·obtain⟨a,b⟩:=hn h1;have e:v j=v (i+1)∧v (j+1)=v (i+2):=by
   rcases h1 with rfl|⟨h,rfl⟩
   ·exact⟨rfl,rfl⟩
   ·have:i+2=n+1:=by omega
    rw[this,S.cl1,h,S.cl]; exact⟨rfl,rfl⟩
  rw[e.1,e.2];exact zJ (S.ne i hi) (S.jk i hi) a b
 ·by_cases h2:i=j+1∨(j+1=n∧i=0)
  ·obtain⟨a,b⟩:=hp h2;have e:v (j+1)=v i∧v (j+2)=v (i+1):=by
    rcases h2 with rfl|⟨h,rfl⟩
    ·exact⟨rfl,rfl⟩
    ·have:j+2=n+1:=by omega
     rw[this,S.cl1,h,S.cl]; exact⟨rfl,rfl⟩
   have:=S.jk j hj;rw[e.1,e.2] at this;rw[e.1];exact zn this a b
  ·exact AS (S.sep j i hj hi (by omega) (by omega) (by omega) (by omega) (by omega)) t0 t1 s0 s1
theorem jo (u w d:P2) (t x:Rat):tn u w (sm (cv u w t) d x)=x*cr u w d:=by unfold tn sm cv cr; grind
theorem iI {u w p q:P2} {σ:Rat} (h1:0 < σ*tn u w p) (h2:0 < σ*tn u w q):Sep u w p q:=by
 refine uw (σ*(w.2-u.2)) (-(σ*(w.1-u.1))) (-(σ*((w.2-u.2)*u.1-(w.1-u.1)*u.2))) ?_ ?_ ?_ ?_
 ·unfold af; grind
 ·unfold af; grind
 ·unfold tn at h1; unfold af; grind
 ·unfold tn at h2; unfold af; grind
theorem Simple.beside (S:Simple n v) {σ:Rat} {i:Nat} (hi:i<n) {t s:Rat} (t0:0<t) (t1:t<1) (s0:0<s) (s1:s<1) {d d':P2} (h:0 < σ*cr (v i) (v (i+1)) d) (h':0 < σ*cr (v i) (v (i+1)) d') :
  Ev fun x y=>W n v (sm (cv (v i) (v (i+1)) t) d x)=W n v (sm (cv (v i) (v (i+1)) s) d' y):=by
 have hE:Ev fun x y=>∀j,j<n→Sep (v j) (v (j+1)) (sm (cv (v i) (v (i+1)) t) d x) (sm (cv (v i) (v (i+1)) s) d' y):=by
  refine Ev.all fun j hj=>?_
  by_cases e:i=j
  ·subst e;refine Ev.of fun x y hx hy=>iI (σ:=σ) ?_ ?_
   ·rw[jo]; have:=bm hx h; grind
   ·rw[jo]; have:=bm hy h'; grind
  ·exact q8 (S.off hi hj e (by grind) (by grind) (by grind) (by grind) (fun _=>⟨t1,s1⟩) (fun _=>⟨t0,s0⟩)) d d'
 exact hE.mono fun x y _ _ h=>uM S.cl h
def HS (n:Nat) (v:Nat→P2) (σ:Rat) (i:Nat) (L:Int):Prop:=∀t d,0<t→t<1→0 < σ*cr (v i) (v (i+1)) d→∃e:Rat,0<e∧∀x,0<x→x≤e→W n v (sm (cv (v i) (v (i+1)) t) d x)=L
theorem Simple.hs (S:Simple n v) {σ:Rat} (hσ:σ≠0) {i:Nat} (hi:i<n):∃L,HS n v σ i L:=by
 have hl:=qt (S.ne i hi)
 let d0:P2:=(-(σ*((v (i+1)).2-(v i).2)),σ*((v (i+1)).1-(v i).1))
 have h0:0 < σ*cr (v i) (v (i+1)) d0:=by
  have:=bm (sq_pos hσ) hl;have e:σ*cr (v i) (v (i+1)) d0=σ*σ*(((v (i+1)).1-(v i).1)*((v (i+1)).1-(v i).1)+((v (i+1)).2-(v i).2)*((v (i+1)).2-(v i).2)):=by
   show σ*(((v (i+1)).1-(v i).1)*(σ*((v (i+1)).1-(v i).1))-((v (i+1)).2-(v i).2)*(-(σ*((v (i+1)).2-(v i).2))))=_
   grind
  rw[e]; exact this
 obtain⟨e,e0,he⟩:=S.beside (σ:=σ) hi (t:=1/2) (s:=1/2) (by grind) (by grind) (by grind) (by grind) h0 h0
 refine⟨W n v (sm (cv (v i) (v (i+1)) (1/2)) d0 e),fun t d t0 t1 hd=>?_⟩;obtain⟨f,f0,hf⟩:=S.beside (σ:=σ) hi (t:=t) (s:=1/2) t0 t1 (by grind) (by grind) hd h0
 obtain⟨g,g0,ge,gf⟩:=dU e0 f0;refine⟨f,f0,fun x x0 x1=>?_⟩;rw[hf x g x0 x1 g0 (by grind),he g e g0 (by grind) e0 (by grind)]
theorem HS.inj {σ:Rat} {i:Nat} {L L':Int} (h:HS n v σ i L) (h':HS n v σ i L') (hd:∃d,0 < σ*cr (v i) (v (i+1)) d):L=L':=by
 obtain⟨d,hd⟩:=hd;obtain⟨e,e0,he⟩:=h (1/2) d (by grind) (by grind) hd
 obtain⟨f,f0,hf⟩:=h' (1/2) d (by grind) (by grind) hd
 obtain⟨g,g0,ge,gf⟩:=dU e0 f0;rw[←he g g0 (by grind),hf g g0 (by grind)]
theorem Simple.CL (S:Simple n v) {i:Nat} (hi:i<n) {L R:Int} (hL:HS n v 1 i L) (hR:HS n v (-1) i R):L=R+1:=by
 have hne:=S.ne i hi;have eoff:∀d d':P2,Ev fun x y=>∀j,j<n→j≠i→Sep (v j) (v (j+1)) (sm (cv (v i) (v (i+1)) (1/2)) d x) (sm (cv (v i) (v (i+1)) (1/2)) d' y):=fun d d' =>
  Ev.all (P:=fun j x y=>j≠i→Sep (v j) (v (j+1)) (sm (cv (v i) (v (i+1)) (1/2)) d x) (sm (cv (v i) (v (i+1)) (1/2)) d' y)) fun j hj=>by
   by_cases e:j=i
   ·exact Ev.of fun _ _ _ _ h=>absurd e h
   ·exact(q8 (S.off hi hj (Ne.symm e) (t:=1/2) (s:=1/2) (by grind) (by grind) (by grind) (by grind) (fun _=>⟨by grind,by grind⟩) (fun _=>⟨by grind,by grind⟩)) d d').mono fun x y _ _ h _=>h
 have pick:∀d d':P2,0<cr (v i) (v (i+1)) d→0 < -cr (v i) (v (i+1)) d'→∃x:Rat,0<x∧W n v (sm (cv (v i) (v (i+1)) (1/2)) d x)=L∧W n v (sm (cv (v i) (v (i+1)) (1/2)) d' x)=R ∧
   (∀j,j<n→j≠i→Sep (v j) (v (j+1)) (sm (cv (v i) (v (i+1)) (1/2)) d x) (sm (cv (v i) (v (i+1)) (1/2)) d' x))∧∀B:Rat,B<0→True:=by
  intro d d' hd hd';obtain⟨e,e0,he⟩:=hL (1/2) d (by grind) (by grind) (by grind)
  obtain⟨f,f0,hf⟩:=hR (1/2) d' (by grind) (by grind) (by grind)
  obtain⟨g,g0,hg⟩:=eoff d d';obtain⟨k,k0,ke,kf⟩:=dU e0 f0;obtain⟨m,m0,mk,mg⟩:=dU k0 g0;exact⟨m,m0,he m m0 (by grind),hf m m0 (by grind),hg m m m0 (by grind) m0 (by grind),fun _ _=>trivial⟩
 generalize hu:v i=u at *;generalize hw:v (i+1)=w at *
 by_cases h0:w.2=u.2
 ·
  have h1:w.1≠u.1:=fun e=>hne (Prod.ext e.symm h0.symm)
  by_cases hp:u.1<w.1
  ·obtain⟨x,x0,xL,xR,xs,_⟩:=pick (0,1) (0,-1) (by unfold cr; grind) (by unfold cr; grind)
   have k:=wD S.cl hi (p:=sm (cv u w (1/2)) (0,-1) x) (q:=sm (cv u w (1/2)) (0,1) x) (by unfold sm; grind) fun j hj hn=>(xs j hj hn).pq
   rw[hu,hw,er (by unfold sm cv; grind) (by unfold sm cv; grind),er (by unfold sm cv; grind) (by unfold sm cv; grind),oe (v:=w) (by unfold sm cv; grind) (by unfold sm cv; grind),oe (v:=u) (by unfold sm cv; grind) (by unfold sm cv; grind)] at k
   have t1:tn (sm (cv u w (1/2)) (0,-1) x) (sm (cv u w (1/2)) (0,1) x) w = -(x*(w.1-u.1)):=by unfold tn sm cv; grind
   have t2:tn (sm (cv u w (1/2)) (0,-1) x) (sm (cv u w (1/2)) (0,1) x) u=x*(w.1-u.1):=by unfold tn sm cv; grind
   have m:=bm x0 (show 0<w.1-u.1 by grind)
   rw[t1,t2,if_pos (by grind),if_neg (by grind),xL,xR] at k
   omega
  ·obtain⟨x,x0,xL,xR,xs,_⟩:=pick (0,-1) (0,1) (by unfold cr; grind) (by unfold cr; grind)
   have k:=wD S.cl hi (p:=sm (cv u w (1/2)) (0,-1) x) (q:=sm (cv u w (1/2)) (0,1) x) (by unfold sm; grind) fun j hj hn=>xs j hj hn
   rw[hu,hw,er (by unfold sm cv; grind) (by unfold sm cv; grind),er (by unfold sm cv; grind) (by unfold sm cv; grind),oe (v:=w) (by unfold sm cv; grind) (by unfold sm cv; grind),oe (v:=u) (by unfold sm cv; grind) (by unfold sm cv; grind)] at k
   have t1:tn (sm (cv u w (1/2)) (0,-1) x) (sm (cv u w (1/2)) (0,1) x) w=x*(u.1-w.1):=by unfold tn sm cv; grind
   have t2:tn (sm (cv u w (1/2)) (0,-1) x) (sm (cv u w (1/2)) (0,1) x) u = -(x*(u.1-w.1)):=by unfold tn sm cv; grind
   have m:=bm x0 (show 0<u.1-w.1 by grind)
   rw[t1,t2,if_neg (by grind),if_pos (by grind),xL,xR] at k
   omega
 ·by_cases hp:u.2<w.2
  ·obtain⟨x,x0,xL,xR,xs,_⟩:=pick (-1,0) (1,0) (by unfold cr; grind) (by unfold cr; grind)
   have k:=wD S.cl hi (p:=sm (cv u w (1/2)) (-1,0) x) (q:=sm (cv u w (1/2)) (1,0) x) (by unfold sm; grind) fun j hj hn=>xs j hj hn
   rw[gh (by unfold sm; grind),gh (by unfold sm; grind),hu,hw,my (by unfold sm cv; grind) (by unfold sm cv; grind),my (by unfold sm cv; grind) (by unfold sm cv; grind),jo,jo] at k
   have m:=bm x0 (show 0<w.2-u.2 by grind)
   rw[if_pos (by unfold cr; grind),if_neg (by unfold cr; grind),xL,xR] at k
   omega
  ·obtain⟨x,x0,xL,xR,xs,_⟩:=pick (1,0) (-1,0) (by unfold cr; grind) (by unfold cr; grind)
   have k:=wD S.cl hi (p:=sm (cv u w (1/2)) (-1,0) x) (q:=sm (cv u w (1/2)) (1,0) x) (by unfold sm; grind) fun j hj hn=>(xs j hj hn).pq
   have e1:=mV w u (sm (cv u w (1/2)) (-1,0) x);have e2:=mV w u (sm (cv u w (1/2)) (1,0) x);rw[my (a:=w) (b:=u) (by unfold sm cv; grind) (by unfold sm cv; grind),kz u w,jo] at e1
   rw[my (a:=w) (b:=u) (by unfold sm cv; grind) (by unfold sm cv; grind),kz u w,jo] at e2
   have m:=bm x0 (show 0<u.2-w.2 by grind)
   rw[if_pos (by unfold cr; grind)] at e1
   rw[if_neg (by unfold cr; grind)] at e2
   rw[gh (by unfold sm; grind),gh (by unfold sm; grind),hu,hw,e1,e2,xL,xR] at k
   omega
theorem Simple.ue (S:Simple n v) {σ:Rat} {i:Nat} (hi:i+1<n) {d:P2} (hd:0 < σ*cr (v i) (v (i+1)) d) (hd':0 < σ*cr (v (i+1)) (v (i+2)) d) (hs:0≤σ*tn (v i) (v (i+1)) (v (i+2)))
  {L L':Int} (h:HS n v σ i L) (h':HS n v σ (i+1) L'):L=L':=by
 have hn3:=S.n3;have e1:Ev fun x y=>∀j,j<n→Sep (v j) (v (j+1)) (sm (cv (v i) (v (i+1)) (1/2)) d x) (sm (cv (v i) (v (i+1)) 1) d y):=by
  refine Ev.all fun j hj=>?_
  by_cases e:i=j
  ·subst e;refine Ev.of fun x y hx hy=>iI (σ:=σ) ?_ ?_
   ·rw[jo]; have:=bm hx hd; grind
   ·rw[jo]; have:=bm hy hd; grind
  ·by_cases e':j=i+1
   ·subst e';refine Ev.of fun x y hx hy=>iI (σ:=σ) ?_ ?_
    ·have m1:=bm hx hd';have:σ*tn (v (i+1)) (v (i+1+1)) (sm (cv (v i) (v (i+1)) (1/2)) d x)=1/2*(σ*tn (v i) (v (i+1)) (v (i+2)))+x*(σ*cr (v (i+1)) (v (i+2)) d):=by
      unfold tn sm cv cr; grind
     rw[this]; grind
    ·have m1:=bm hy hd';have:σ*tn (v (i+1)) (v (i+1+1)) (sm (cv (v i) (v (i+1)) 1) d y)=y*(σ*cr (v (i+1)) (v (i+2)) d):=by
      unfold tn sm cv cr; grind
     rw[this]; exact m1
   ·exact q8 (S.off (by omega) hj e (by grind) (by grind) (by grind) (by grind) (fun h=>by omega) (fun _=>⟨by grind,by grind⟩)) d d
 have e2:Ev fun x y=>∀j,j<n→Sep (v j) (v (j+1)) (sm (cv (v (i+1)) (v (i+2)) (1/2)) d x) (sm (cv (v (i+1)) (v (i+2)) 0) d y):=by
  refine Ev.all fun j hj=>?_
  by_cases e:j=i+1
  ·subst e;refine Ev.of fun x y hx hy=>iI (σ:=σ) ?_ ?_
   ·rw[jo]; have:=bm hx hd'; grind
   ·rw[jo]; have:=bm hy hd'; grind
  ·by_cases e':j=i
   ·subst e';refine Ev.of fun x y hx hy=>iI (σ:=σ) ?_ ?_
    ·have m1:=bm hx hd;have:σ*tn (v j) (v (j+1)) (sm (cv (v (j+1)) (v (j+2)) (1/2)) d x)=1/2*(σ*tn (v j) (v (j+1)) (v (j+2)))+x*(σ*cr (v j) (v (j+1)) d):=by
      unfold tn sm cv cr; grind
     rw[this]; grind
    ·have m1:=bm hy hd;have:σ*tn (v j) (v (j+1)) (sm (cv (v (j+1)) (v (j+2)) 0) d y)=y*(σ*cr (v j) (v (j+1)) d):=by
      unfold tn sm cv cr; grind
     rw[this]; exact m1
   ·exact q8 (S.off (i:=i+1) hi hj (Ne.symm e) (by grind) (by grind) (by grind) (by grind) (fun _=>⟨by grind,by grind⟩) (fun h=>by omega)) d d
 obtain⟨a,a0,ha⟩:=e1;obtain⟨b,b0,hb⟩:=e2;obtain⟨f,f0,hf⟩:=h (1/2) d (by grind) (by grind) hd
 obtain⟨g,g0,hg⟩:=h' (1/2) d (by grind) (by grind) hd'
 obtain⟨k,k0,ka,kb⟩:=dU a0 b0;obtain⟨l,l0,lf,lg⟩:=dU f0 g0;obtain⟨x,x0,xk,xl⟩:=dU k0 l0;have w1:=uM S.cl (ha x x x0 (by grind) x0 (by grind))
 have w2:=uM S.cl (hb x x x0 (by grind) x0 (by grind))
 rw[hf x x0 (by grind)] at w1
 rw[hg x x0 (by grind)] at w2
 have e:cv (v i) (v (i+1)) 1=cv (v (i+1)) (v (i+2)) 0:=by unfold cv; exact Prod.ext (by grind) (by grind)
 rw[w1,w2,e]
theorem Simple.step (S:Simple n v) {i:Nat} (hi:i+1<n) {L L':Int} (h:HS n v 1 i L) (h':HS n v 1 (i+1) L'):L=L':=by
 have hne:=S.ne i (by omega)
 have ht:=S.jk i (by omega)
 have c1:cr (v i) (v (i+1)) ((v (i+2)).1-(v (i+1)).1-((v (i+1)).1-(v i).1),(v (i+2)).2-(v (i+1)).2-((v (i+1)).2-(v i).2))=tn (v i) (v (i+1)) (v (i+2)):=by unfold cr tn; grind
 have c2:cr (v (i+1)) (v (i+2)) ((v (i+2)).1-(v (i+1)).1-((v (i+1)).1-(v i).1),(v (i+2)).2-(v (i+1)).2-((v (i+1)).2-(v i).2))=tn (v i) (v (i+1)) (v (i+2)):=by unfold cr tn; grind
 by_cases h0:tn (v i) (v (i+1)) (v (i+2))=0
 ·have hd:0<dt (v i) (v (i+1)) (v (i+2)):=ht.resolve_left fun e=>e h0;have hl:=qt hne;refine S.ue (σ:=1) hi (d:=(-((v (i+1)).2-(v i).2),(v (i+1)).1-(v i).1)) ?_ ?_ (by rw[h0]; grind) h h'
  ·unfold cr; grind
  ·unfold dt at hd; unfold cr; grind
 ·by_cases hp:0<tn (v i) (v (i+1)) (v (i+2))
  ·exact S.ue (σ:=1) hi (by rw[c1]; grind) (by rw[c2]; grind) (by grind) h h'
  ·obtain⟨R,hR⟩:=S.hs (σ:=-1) (by grind) (i:=i) (by omega)
   obtain⟨R',hR'⟩:=S.hs (σ:=-1) (by grind) (i:=i+1) (by omega)
   have e:=S.ue (σ:=-1) hi (by rw[c1]; grind) (by rw[c2]; grind) (by grind) hR hR'
   have e1:=S.CL (by omega) h hR
   have e2:=S.CL hi h' hR';omega
end
section
variable {n : Nat} {v : Nat → P2}
def dd (u w:P2) (y:Rat):Int:=if u.2<y∧y<w.2 then 1 else if w.2<y∧y<u.2 then -1 else 0
end
abbrev I2:=Int × Int
def ti (a b c:I2):Int:=(b.1-a.1)*(c.2-a.2)-(b.2-a.2)*(c.1-a.1)
theorem hY (a b p:I2):ti b a p = -ti a b p:=by unfold ti; grind
theorem rp (a b:I2):ti a b a=0:=by unfold ti; grind
theorem pU (a b:I2):ti a b b=0:=by unfold ti; grind
theorem A8 (a b c d:I2):ti a b d-ti a b c=ti c d a-ti c d b:=by unfold ti; grind
def dv (a b p:I2):Prop:=ti a b p=0∧min a.1 b.1≤p.1∧p.1≤max a.1 b.1∧min a.2 b.2≤p.2∧p.2≤max a.2 b.2
instance (a b p:I2):Decidable (dv a b p):=by unfold dv; infer_instance
theorem dv.swap {a b p:I2} (h:dv a b p):dv b a p:=by
 obtain⟨h1,h2⟩:=h;exact⟨by rw[hY,h1]; rfl,by omega⟩
theorem oa {a b p:I2}:dv a b p↔dv b a p:=⟨dv.swap,dv.swap⟩
theorem Cv (a b:I2):dv a b a:=⟨rp a b,by omega⟩
theorem CG (a b:I2):dv a b b:=⟨pU a b,by omega⟩
theorem Av {a b p:I2} (h:a.1<b.1):dv a b p↔ti a b p=0∧a.1≤p.1∧p.1≤b.1:=by
 refine⟨fun⟨h1,h2⟩=>⟨h1,by omega⟩,fun⟨h1,h2,h3⟩=>⟨h1,by omega,by omega,?_,?_⟩⟩
 all_goals
  unfold ti at h1;have e1:(b.1-a.1)*(p.2-a.2)=(b.2-a.2)*(p.1-a.1):=by omega
  have e2:(b.1-a.1)*(b.2-p.2)=(b.2-a.2)*(b.1-p.1):=by grind
  by_cases hy:a.2≤b.2
  ·have m1:0≤(b.1-a.1)*(p.2-a.2):=by rw[e1]; exact Int.mul_nonneg (by omega) (by omega)
   have m2:0≤(b.1-a.1)*(b.2-p.2):=by rw[e2]; exact Int.mul_nonneg (by omega) (by omega)
   have k1:=Int.nonneg_of_mul_nonneg_right m1 (by omega)
   have k2:=Int.nonneg_of_mul_nonneg_right m2 (by omega)
   omega
  ·have m1:0≤(b.1-a.1)*(a.2-p.2):=by
    rw[show(b.1-a.1)*(a.2-p.2)=(a.2-b.2)*(p.1-a.1) by grind]; exact Int.mul_nonneg (by omega) (by omega)
   have m2:0≤(b.1-a.1)*(p.2-b.2):=by
    rw[show(b.1-a.1)*(p.2-b.2)=(a.2-b.2)*(b.1-p.1) by grind]; exact Int.mul_nonneg (by omega) (by omega)
   have k1:=Int.nonneg_of_mul_nonneg_right m1 (by omega)
   have k2:=Int.nonneg_of_mul_nonneg_right m2 (by omega)
   omega
theorem Ai {a b p:I2} (h:a.1=b.1) (hab:a≠b):dv a b p↔p.1=a.1∧min a.2 b.2≤p.2∧p.2≤max a.2 b.2:=by
 have hy:a.2≠b.2:=fun e=>hab (Prod.ext h e);refine⟨fun⟨_,h2⟩=>by omega,fun⟨h1,h2⟩=>⟨?_,by omega⟩⟩
 unfold ti;rw[h1,←h]; grind
theorem jG {a b p:I2} (h:a.1=b.1) (hab:a≠b) (h0:ti a b p=0):p.1=a.1:=by
 have hy:b.2-a.2≠0:=fun e=>hab (Prod.ext h (by omega))
 unfold ti at h0;rw[h,Int.sub_self,Int.zero_mul] at h0;have:(b.2-a.2)*(p.1-b.1)=0:=by omega
 rcases Int.mul_eq_zero.1 this with e|e
 ·exact absurd e hy
 ·omega
theorem ki {a b p q:I2} (h:a.1≠b.1) (hp:ti a b p=0) (hq:ti a b q=0) (e:p.1=q.1):p=q:=by
 have:(b.1-a.1)*(p.2-q.2)=0:=by unfold ti at hp hq; rw[e] at hp; grind
 rcases Int.mul_eq_zero.1 this with e' | e'
 ·omega
 ·exact Prod.ext e (by omega)
def Lx (a b:I2):Prop:=a.1<b.1∨a.1=b.1∧a.2≤b.2
theorem DB {a b p:I2} (hab:a≠b) (h:Lx a b):dv a b p↔ti a b p=0∧Lx a p∧Lx p b:=by
 unfold Lx at *
 by_cases hx:a.1<b.1
 ·rw[Av hx];refine⟨fun⟨h1,h2,h3⟩=>⟨h1,?_,?_⟩,fun⟨h1,h2,h3⟩=>⟨h1,by omega,by omega⟩⟩
  ·by_cases e:p.1=a.1
   ·have:=ki (by omega) h1 (rp a b) e
    rw[this]; omega
   ·omega
  ·by_cases e:p.1=b.1
   ·have:=ki (by omega) h1 (pU a b) e
    rw[this]; omega
   ·omega
 ·have e:a.1=b.1:=by omega
  rw[Ai e hab];refine⟨fun⟨h1,h2⟩=>⟨?_,by omega,by omega⟩,fun⟨h1,h2,h3⟩=>?_⟩
  ·unfold ti; rw[h1,←e]; grind
  ·have:=jG e hab h1;omega
def fX (a b c d x:I2):Prop:=(x=a∨x=b∨x=c∨x=d)∧dv a b x∧dv c d x
def low (a b c d:I2):Int:=if a.1=b.1 then max (min a.2 b.2) (min c.2 d.2)-min (max a.2 b.2) (max c.2 d.2) else max (min a.1 b.1) (min c.1 d.1)-min (max a.1 b.1) (max c.1 d.1)
theorem Bt {a b c d:I2} (hab:a≠b) (hcd:c≠d) (hc:ti a b c=0) (hd:ti a b d=0):∃f:I2→Int,low a b c d=max (min (f a) (f b)) (min (f c) (f d))-min (max (f a) (f b)) (max (f c) (f d)) ∧
  (∀x y,ti a b x=0→ti a b y=0→f x=f y→x=y)∧(∀x,dv a b x↔ti a b x=0∧min (f a) (f b)≤f x∧f x≤max (f a) (f b))∧(∀x,ti a b x=0→(dv c d x↔min (f c) (f d)≤f x∧f x≤max (f c) (f d))):=by
 by_cases h:a.1=b.1
 ·have h3:=jG h hab hc;have h4:=jG h hab hd;refine⟨fun x=>x.2,by unfold low; rw[if_pos h],fun x y hx hy e=>Prod.ext ((jG h hab hx).trans (jG h hab hy).symm) e,fun x=>?_,fun x hx=>?_⟩
  ·rw[Ai h hab];refine⟨fun⟨h0,h1⟩=>⟨?_,h1⟩,fun⟨h0,h1⟩=>⟨jG h hab h0,h1⟩⟩;unfold ti; rw[h0,←h]; grind
  ·rw[Ai (by omega) hcd]
   have:=jG h hab hx;exact⟨fun h=>h.2,fun h=>⟨by omega,h⟩⟩
 ·have h2:c.1≠d.1:=fun e=>hcd (ki h hc hd e);have dir:∀x,ti a b x=0→ti c d x=0:=fun x hx=>by
   have e0:(b.1-a.1)*(c.2-a.2)=(b.2-a.2)*(c.1-a.1):=by unfold ti at hc; omega
   have e1:(b.1-a.1)*(d.2-a.2)=(b.2-a.2)*(d.1-a.1):=by unfold ti at hd; omega
   have e2:(b.1-a.1)*(x.2-a.2)=(b.2-a.2)*(x.1-a.1):=by unfold ti at hx; omega
   have:(b.1-a.1)*ti c d x=0:=by
    unfold ti;have:(b.1-a.1)*((d.1-c.1)*(x.2-c.2)-(d.2-c.2)*(x.1-c.1))=(d.1-c.1)*((b.1-a.1)*(x.2-a.2)-(b.1-a.1)*(c.2-a.2))-((b.1-a.1)*(d.2-a.2)-(b.1-a.1)*(c.2-a.2))*(x.1-c.1):=by grind
    rw[this,e0,e1,e2]; grind
   rcases Int.mul_eq_zero.1 this with e|e
   ·omega
   ·exact e
  have gen:∀{u w:I2},u.1≠w.1→∀x,(dv u w x↔ti u w x=0∧min u.1 w.1≤x.1∧x.1≤max u.1 w.1):=fun {u w} huw x=>by
   by_cases hl:u.1<w.1
   ·rw[Av hl]; refine⟨fun⟨h0,h1⟩=>⟨h0,by omega⟩,fun⟨h0,h1⟩=>⟨h0,by omega⟩⟩
   ·rw[oa,Av (by omega),hY]; refine⟨fun⟨h0,h1⟩=>⟨by omega,by omega⟩,fun⟨h0,h1⟩=>⟨by omega,by omega⟩⟩
  refine⟨fun x=>x.1,by unfold low; rw[if_neg h],fun x y hx hy e=>ki h hx hy e,gen h,fun x hx=>?_⟩
  rw[gen h2];exact⟨fun h=>h.2,fun h=>⟨dir x hx,h⟩⟩
theorem tq {a b c d:I2} (hab:a≠b) (hcd:c≠d) (hc:ti a b c=0) (hd:ti a b d=0) :
  (0<low a b c d↔∀x,¬fX a b c d x)∧(low a b c d<0↔∃x y,fX a b c d x∧fX a b c d y∧x≠y):=by
 obtain⟨f,e,hi,h1,h2⟩:=Bt hab hcd hc hd;have ha0:=rp a b;have hb0:=pU a b;have hfab:f a≠f b:=fun h=>hab (hi a b ha0 hb0 h);have hfcd:f c≠f d:=fun h=>hcd (hi c d hc hd h);have AU:∀x,fX a b c d x↔(x=a∨x=b∨x=c∨x=d)∧(min (f a) (f b)≤f x∧f x≤max (f a) (f b))∧(min (f c) (f d)≤f x∧f x≤max (f c) (f d)):=fun x=>by
  unfold fX;refine⟨fun⟨h,g1,g2⟩=>⟨h,((h1 x).1 g1).2,(h2 x ((h1 x).1 g1).1).1 g2⟩,fun⟨h,g1,g2⟩=>?_⟩;have hx:ti a b x=0:=by rcases h with rfl|rfl|rfl|rfl<;>assumption
  exact⟨h,(h1 x).2 ⟨hx,g1⟩,(h2 x hx).2 g2⟩
 rw[e];have lo:∃x,(x=a∨x=b∨x=c∨x=d)∧f x=max (min (f a) (f b)) (min (f c) (f d)):=by
  by_cases g1:f a≤f b<;>by_cases g2:f c≤f d
  ·by_cases g3:f a≤f c
   ·exact⟨c,by simp,by omega⟩
   ·exact⟨a,by simp,by omega⟩
  ·by_cases g3:f a≤f d
   ·exact⟨d,by simp,by omega⟩
   ·exact⟨a,by simp,by omega⟩
  ·by_cases g3:f b≤f c
   ·exact⟨c,by simp,by omega⟩
   ·exact⟨b,by simp,by omega⟩
  ·by_cases g3:f b≤f d
   ·exact⟨d,by simp,by omega⟩
   ·exact⟨b,by simp,by omega⟩
 have hi':∃x,(x=a∨x=b∨x=c∨x=d)∧f x=min (max (f a) (f b)) (max (f c) (f d)):=by
  by_cases g1:f a≤f b<;>by_cases g2:f c≤f d
  ·by_cases g3:f b≤f d
   ·exact⟨b,by simp,by omega⟩
   ·exact⟨d,by simp,by omega⟩
  ·by_cases g3:f b≤f c
   ·exact⟨b,by simp,by omega⟩
   ·exact⟨c,by simp,by omega⟩
  ·by_cases g3:f a≤f d
   ·exact⟨a,by simp,by omega⟩
   ·exact⟨d,by simp,by omega⟩
  ·by_cases g3:f a≤f c
   ·exact⟨a,by simp,by omega⟩
   ·exact⟨c,by simp,by omega⟩
 obtain⟨x,x1,x2⟩:=lo;obtain⟨y,y1,y2⟩:=hi';constructor
 ·refine⟨fun h z hz=>?_,fun h=>?_⟩
  ·have:=(AU z).1 hz;omega
  ·refine Decidable.byContradiction fun hc=>h x ((AU x).2 ⟨x1,by omega,by omega⟩)
 ·refine⟨fun h=>⟨x,y,(AU x).2 ⟨x1,by omega,by omega⟩,(AU y).2 ⟨y1,by omega,by omega⟩,fun e=>by rw[e] at x2; omega⟩,fun⟨z,w,hz,hw,hne⟩=>?_⟩
  refine Decidable.byContradiction fun hc=>hne (hi z w ?_ ?_ ?_)
  ·exact hz.2.1.1
  ·exact hw.2.1.1
  ·have:=(AU z).1 hz;have:=(AU w).1 hw;omega
theorem Cd {a b c d:I2} (hcd:c≠d) (h:¬(ti a b c=0∧ti a b d=0)) {x y:I2} (hx:dv a b x∧dv c d x) (hy:dv a b y∧dv c d y):x=y:=by
 obtain⟨⟨a1,_⟩,⟨a2,_⟩⟩:=hx;obtain⟨⟨b1,_⟩,⟨b2,_⟩⟩:=hy;have hk:(b.1-a.1)*(d.2-c.2)-(b.2-a.2)*(d.1-c.1)≠0:=fun e=>by
  have e1:ti a b d-ti a b c=0:=by
   have:ti a b d-ti a b c=(b.1-a.1)*(d.2-c.2)-(b.2-a.2)*(d.1-c.1):=by unfold ti; grind
   omega
  have e2:(d.1-c.1)*ti a b c=0:=by
   have t:(d.1-c.1)*ti a b c=(d.1-c.1)*ti a b x-(b.1-a.1)*ti c d x-(x.1-c.1)*((b.1-a.1)*(d.2-c.2)-(b.2-a.2)*(d.1-c.1)):=by unfold ti; grind
   rw[t,a1,a2,e]; simp
  have e3:(d.2-c.2)*ti a b c=0:=by
   have t:(d.2-c.2)*ti a b c=(d.2-c.2)*ti a b x-(b.2-a.2)*ti c d x-(x.2-c.2)*((b.1-a.1)*(d.2-c.2)-(b.2-a.2)*(d.1-c.1)):=by unfold ti; grind
   rw[t,a1,a2,e]; simp
  have h0:ti a b c=0:=by
   rcases Int.mul_eq_zero.1 e2 with g|g
   ·rcases Int.mul_eq_zero.1 e3 with g' | g'
    ·exact absurd (Prod.ext (by omega) (by omega)) hcd
    ·exact g'
   ·exact g
  exact h ⟨h0,by omega⟩
 have f1:((b.1-a.1)*(d.2-c.2)-(b.2-a.2)*(d.1-c.1))*(x.1-y.1)=0:=by
  have t:((b.1-a.1)*(d.2-c.2)-(b.2-a.2)*(d.1-c.1))*(x.1-y.1)=(d.1-c.1)*(ti a b x-ti a b y)-(b.1-a.1)*(ti c d x-ti c d y):=by unfold ti; grind
  rw[t,a1,a2,b1,b2]; simp
 have f2:((b.1-a.1)*(d.2-c.2)-(b.2-a.2)*(d.1-c.1))*(x.2-y.2)=0:=by
  have t:((b.1-a.1)*(d.2-c.2)-(b.2-a.2)*(d.1-c.1))*(x.2-y.2)=(d.2-c.2)*(ti a b x-ti a b y)-(b.2-a.2)*(ti c d x-ti c d y):=by unfold ti; grind
  rw[t,a1,a2,b1,b2]; simp
 refine Prod.ext ?_ ?_
 ·rcases Int.mul_eq_zero.1 f1 with g|g
  ·exact absurd g hk
  ·omega
 ·rcases Int.mul_eq_zero.1 f2 with g|g
  ·exact absurd g hk
  ·omega
def di (a b c:I2):Int:=(b.1-a.1)*(c.1-b.1)+(b.2-a.2)*(c.2-b.2)
def NM (a b c d:I2):Prop:=(∀x,¬fX a b c d x)∧¬(((0<ti a b c∧ti a b d<0)∨(ti a b c<0∧0<ti a b d))∧((0<ti c d a∧ti c d b<0)∨(ti c d a<0∧0<ti c d b)))
def nx (r:List I2) (i:Nat):I2:=r.getD (i%r.length) (0,0)
structure VR (r:List I2):Prop where
 n3:2<r.length
 still:∀i,nx r i≠nx r (i+1)
 pP:∀i,¬(ti (nx r i) (nx r (i+1)) (nx r (i+2))=0∧di (nx r i) (nx r (i+1)) (nx r (i+2))<0)
 meet:∀j i,j+1<i→i<r.length→¬(j=0∧i+1=r.length)→NM (nx r j) (nx r (j+1)) (nx r i) (nx r (i+1))
theorem Sep.symm {a b p q:P2} (h:Sep a b p q):Sep p q a b:=by
 obtain⟨α,β,γ,g1,g2,g3,g4⟩:=h;exact⟨-α,-β,-γ,by unfold af at *; grind,by unfold af at *; grind,by unfold af at *; grind,by unfold af at *; grind⟩
theorem wY {x:Int}:0≤x*x:=by
 rcases Int.le_total 0 x with h|h
 ·exact Int.mul_nonneg h h
 ·exact Int.mul_nonneg_of_nonpos_of_nonpos h h
theorem EV {x:Int} (h:x*x=0):x=0:=by
 rcases Int.mul_eq_zero.1 h with h|h<;>exact h
def ph (a b c d:I2):Prop:=((0<ti a b c∧ti a b d<0)∨(ti a b c<0∧0<ti a b d))∧((0<ti c d a∧ti c d b<0)∨(ti c d a<0∧0<ti c d b))
def AD (a b c d:I2):Prop:=ti a b c=0∧ti a b d=0
section
variable {a b c d : I2}
theorem BS (hab:a≠b) (hcd:c≠d):(∃x y,fX a b c d x∧fX a b c d y∧x≠y)↔AD a b c d∧low a b c d<0:=by
 by_cases h:AD a b c d
 ·have:=(tq hab hcd h.1 h.2).2;exact⟨fun g=>⟨h,this.2 g⟩,fun g=>this.1 g.2⟩
 ·exact⟨fun⟨x,y,hx,hy,hne⟩=>absurd (Cd hcd h hx.2 hy.2) hne,fun g=>absurd g.1 h⟩
theorem yc (hab:a≠b) (hcd:c≠d):(∃x,fX a b c d x)↔(AD a b c d∧low a b c d≤0)∨(¬AD a b c d∧(dv a b c∨dv a b d∨dv c d a∨dv c d b)):=by
 by_cases h:AD a b c d
 ·have:=(tq hab hcd h.1 h.2).1;constructor
  ·rintro⟨x,hx⟩;refine .inl ⟨h,?_⟩;refine Decidable.byContradiction fun hc=>?_;exact this.1 (by omega) x hx
  ·rintro(⟨_,g⟩|⟨g,_⟩)
   ·refine Classical.byContradiction fun hc=>?_;have:=this.2 fun x hx=>hc ⟨x,hx⟩;omega
   ·exact absurd h g
 ·constructor
  ·rintro⟨x,h1,h2,h3⟩;refine .inr ⟨h,?_⟩;rcases h1 with rfl|rfl|rfl|rfl
   ·exact .inr (.inr (.inl h3))
   ·exact .inr (.inr (.inr h3))
   ·exact .inl h2
   ·exact .inr (.inl h2)
  ·rintro(⟨g,_⟩|⟨_,g⟩)
   ·exact absurd g h
   ·rcases g with g|g|g|g
    ·exact⟨c,.inr (.inr (.inl rfl)),g,Cv c d⟩
    ·exact⟨d,.inr (.inr (.inr rfl)),g,CG c d⟩
    ·exact⟨a,.inl rfl,Cv a b,g⟩
    ·exact⟨b,.inr (.inl rfl),CG a b,g⟩
theorem tv (h:ph a b c d):¬AD a b c d∧∀x,¬fX a b c d x:=by
 unfold ph at h;refine⟨fun g=>?_,fun x ⟨h1,h2,h3⟩=>?_⟩
 ·unfold AD at g; omega
 ·have e2:=h2.1;have e3:=h3.1;rcases h1 with rfl|rfl|rfl|rfl<;>omega
noncomputable def ru (a b c d:I2):Int:=open Classical in if ∃x y,fX a b c d x∧fX a b c d y∧x≠y then 3 else if ∃x,fX a b c d x then 1 else if ph a b c d then 2 else 0
theorem B7 (hab:a≠b) (hcd:c≠d):ru a b c d=open Classical in if AD a b c d then(if 0<low a b c d then 0 else if low a b c d=0 then 1 else 3) else if ph a b c d then 2 else if dv a b c∨dv a b d∨dv c d a∨dv c d b then 1 else 0:=by
 classical
 unfold ru;have h2:=BS hab hcd;have h1:=yc hab hcd
 by_cases hc:AD a b c d
 ·have hx:¬ph a b c d:=fun h=>(tv h).1 hc;rw[if_pos hc,if_neg hx]
  by_cases g1:0<low a b c d
  ·rw[if_pos g1,if_neg (fun h=>by have:=(h2.1 h).2; omega),if_neg (fun h=>(h1.1 h).elim (fun g=>by have:=g.2; omega) (fun g=>g.1 hc))]
  ·by_cases g2:low a b c d=0
   ·rw[if_neg g1,if_pos g2,if_neg (fun h=>by have:=(h2.1 h).2; omega),if_pos (h1.2 (.inl ⟨hc,by omega⟩))]
   ·rw[if_neg g1,if_neg g2,if_pos (h2.2 ⟨hc,by omega⟩)]
 ·rw[if_neg hc,if_neg (fun h=>hc (h2.1 h).1)]
  by_cases hx:ph a b c d
  ·rw[if_pos hx,if_pos hx,if_neg (fun⟨x,h⟩=>(tv hx).2 x h)]
  ·rw[if_neg hx,if_neg hx]
   by_cases hb:dv a b c∨dv a b d∨dv c d a∨dv c d b
   ·rw[if_pos hb,if_pos (h1.2 (.inr ⟨hc,hb⟩))]
   ·rw[if_neg hb,if_neg (fun h=>(h1.1 h).elim (fun g=>hc g.1) (fun g=>hb g.2))]
theorem pW:ru a b c d=0↔NM a b c d:=by
 classical
 unfold ru NM;constructor
 ·intro h
  by_cases h1:∃x y,fX a b c d x∧fX a b c d y∧x≠y
  ·rw[if_pos h1] at h; exact absurd h (by decide)
  ·rw[if_neg h1] at h
   by_cases h2:∃x,fX a b c d x
   ·rw[if_pos h2] at h; exact absurd h (by decide)
   ·rw[if_neg h2] at h
    by_cases h3:ph a b c d
    ·rw[if_pos h3] at h; exact absurd h (by decide)
    ·exact⟨fun x hx=>h2 ⟨x,hx⟩,h3⟩
 ·rintro⟨h1,h2⟩;rw[if_neg (fun⟨x,_,hx,_⟩=>h1 x hx),if_neg (fun⟨x,hx⟩=>h1 x hx)];exact if_neg h2
end
section
variable {a b c d : I2}
theorem jd {x:I2}:fX a b c d x↔fX c d a b x:=by
 unfold fX;constructor<;>rintro⟨h,g1,g2⟩<;>exact⟨by rcases h with h|h|h|h<;>simp[h],g2,g1⟩
theorem gp {x:I2}:fX a b c d x↔fX b a c d x:=by
 unfold fX;rw[oa (a:=a) (b:=b)];constructor<;>rintro⟨h,g⟩<;>exact⟨by rcases h with h|h|h|h<;>simp[h],g⟩
theorem AZ:ph a b c d↔ph c d a b:=by unfold ph; exact And.comm
theorem zj:ph a b c d↔ph b a c d:=by
 unfold ph;rw[hY a b c,hY a b d];constructor<;>rintro⟨h,g⟩<;>constructor<;>omega
theorem pZ:ru c d a b=ru a b c d:=by
 classical
 have h1:(∃x y,fX c d a b x∧fX c d a b y∧x≠y)↔∃x y,fX a b c d x∧fX a b c d y∧x≠y :=
  ⟨fun⟨x,y,p,q,r⟩=>⟨x,y,jd.1 p,jd.1 q,r⟩,fun⟨x,y,p,q,r⟩=>⟨x,y,jd.1 p,jd.1 q,r⟩⟩
 have h2:(∃x,fX c d a b x)↔∃x,fX a b c d x:=⟨fun⟨x,p⟩=>⟨x,jd.1 p⟩,fun⟨x,p⟩=>⟨x,jd.1 p⟩⟩;unfold ru;simp only[h1,h2,AZ (a:=c) (b:=d) (c:=a) (d:=b)]
theorem sT:ru b a c d=ru a b c d:=by
 classical
 have h1:(∃x y,fX b a c d x∧fX b a c d y∧x≠y)↔∃x y,fX a b c d x∧fX a b c d y∧x≠y :=
  ⟨fun⟨x,y,p,q,r⟩=>⟨x,y,gp.1 p,gp.1 q,r⟩,fun⟨x,y,p,q,r⟩=>⟨x,y,gp.1 p,gp.1 q,r⟩⟩
 have h2:(∃x,fX b a c d x)↔∃x,fX a b c d x:=⟨fun⟨x,p⟩=>⟨x,gp.1 p⟩,fun⟨x,p⟩=>⟨x,gp.1 p⟩⟩;unfold ru;simp only[h1,h2,zj (a:=b) (b:=a) (c:=c) (d:=d)]
end
end Jd
end

section
namespace Go.Proofs.YthmekkhpddehjaaGreat
open Go Go.Ab Go.Ab.W Go.Ab.B Jd
def ie (x:Int):Prop:=-9223372036854775808≤x∧x<9223372036854775808
def Fa (p:I2):Prop:=p.1 < -1000000∨1000000<p.1∨p.2 < -1000000∨1000000<p.2
instance (p:I2):Decidable (Fa p):=by unfold Fa; infer_instance
instance (a b p:I2):Decidable (dv a b p):=by unfold dv; infer_instance
theorem ll (a b:Int):ma a b=max a b:=by unfold ma; split<;>omega
theorem iG (a b:Int):mi a b=min a b:=by unfold mi; split<;>omega
theorem Cw {x:Int} (h:ie x):IntKind.wrap .i64 (0-x)=if x = -9223372036854775808 then x else -x:=by
 unfold ie at h
 split
 ·rename_i e; subst e; decide
 ·rw[az (by omega) (by omega)]; omega
theorem D8 (n:Nat) {x y:Int} (hx:ie x) (hy:ie y):EM n x y=some (decide (Fa (x,y))):=by
 unfold EM;rw[Cw hx,Cw hy,aw,oo,←Bool.decide_or]
 congr 1
 rw[decide_eq_decide];unfold ie at hx hy;unfold Fa
 dsimp only
 rw[ll,ll,ll,iG]
 split<;>split<;>omega
def sg (z:Int):Int:=if z<0 then -1 else if 0<z then 1 else 0
theorem ui (n:Nat) (x y:Int):Ej n x y=some (sg (x-y)):=by
 unfold Ej y6 sg;simp only[decide_true,Bool.not_true,aw,gK]
 by_cases h:x<y
 ·rw[aR h,if_pos (show x-y<0 by omega)]
 ·rw[aW h,if_neg (show ¬x-y<0 by omega)]
  by_cases g:y<x
  ·rw[aR g,if_pos (show 0<x-y by omega)]
  ·rw[aW g,if_neg (show ¬0<x-y by omega)]
def Nr (p:I2):Prop:=-1000000≤p.1∧p.1≤1000000∧-1000000≤p.2∧p.2≤1000000
theorem Cz {p:I2}:¬Fa p↔Nr p:=by unfold Fa Nr; omega
theorem lE (n:Nat) {a b c:I2} (ha:Nr a) (hb:Nr b) (hc:Nr c):AB n a.1 a.2 b.1 b.2 c.1 c.2=some (sg (ti a b c)):=by
 unfold Nr at ha hb hc;have m1:=dV (B:=2000000) (C:=2000000) (u:=b.1-a.1) (v:=c.2-a.2) (by decide) (by omega) (by omega) (by omega) (by omega)
 have m2:=dV (B:=2000000) (C:=2000000) (u:=b.2-a.2) (v:=c.1-a.1) (by decide) (by omega) (by omega) (by omega) (by omega)
 unfold AB;rw[az (x:=b.1-a.1) (by omega) (by omega),az (x:=c.2-a.2) (by omega) (by omega),az (x:=b.2-a.2) (by omega) (by omega),az (x:=c.1-a.1) (by omega) (by omega),
  az (by omega) (by omega),az (by omega) (by omega),aw,aw,ui,aw]
 rfl
theorem e9 {z:Int}:sg z=0↔z=0:=by unfold sg; split<;>(try split)<;>omega
theorem Aw {z:Int}:sg z<0↔z<0:=by unfold sg; split<;>(try split)<;>omega
theorem qq {z:Int}:0<sg z↔0<z:=by unfold sg; split<;>(try split)<;>omega
theorem gx (z:Int):sg z = -1∨sg z=0∨sg z=1:=by unfold sg; split<;>(try split)<;>simp
theorem Dd (n:Nat) (r s:Int) (hn:2<n):EO n [r,s]=some (if r≠0 then r else s):=by
 obtain⟨n,rfl⟩:∃n',n=n'+3:=⟨n-3,by omega⟩
 have L0:lX (n+3) [r,s] 0=if r≠0 then some (.inr (.inl r)) else some (.inl 1):=by
  unfold lX;rw[aR (by simp),show ew 0 [r,s].length=true from rfl,bO]
  show ob (some r) _=_
  rw[aw]
  by_cases h:r=0
  ·rw[decide_eq_true h,Bool.not_true,gK,if_neg (by simpa using h)]; rfl
  ·rw[decide_eq_false h,Bool.not_false,kC,if_pos h]
 have L1:lX (n+3) [r,s] 1=if s≠0 then some (.inr (.inl s)) else some (.inl 2):=by
  unfold lX;rw[aR (by simp),show ew 1 [r,s].length=true from rfl,bO]
  show ob (some s) _=_
  rw[aw]
  by_cases h:s=0
  ·rw[decide_eq_true h,Bool.not_true,gK,if_neg (by simpa using h)]; rfl
  ·rw[decide_eq_false h,Bool.not_false,kC,if_pos h]
 have L2:lX (n+3) [r,s] 2=some (.inr (.inr ())):=by
  unfold lX;rw[aW (by simp)]
 unfold EO
 by_cases h:r=0
 ·rw[if_neg (by simpa using h)] at L0 ⊢
  rw[bP L0]
  by_cases g:s=0
  ·rw[if_neg (by simpa using g)] at L1
   rw[bP L1,eU L2,aw,g]
  ·rw[if_pos g] at L1;rw[eU L1,aw]
 ·rw[if_pos h] at L0 ⊢;rw[eU L0,aw]
def FJ (a b:I2):Int:=if sg (a.1-b.1)≠0 then sg (a.1-b.1) else sg (a.2-b.2)
theorem uX (n:Nat) (a b:I2) (hn:2<n):B5 n a.1 a.2 b.1 b.2=some (FJ a b):=by
 unfold B5;rw[ui,aw,ui,aw,Dd n _ _ hn,aw]; rfl
theorem qz {a b:I2}:FJ a b≤0↔Lx a b:=by
 unfold FJ Lx;have h1:=e9 (z:=a.1-b.1);have h2:=qq (z:=a.1-b.1);have h3:=qq (z:=a.2-b.2)
 split<;>omega
theorem zv (n:Nat) (e:Int) {a b p:I2} (ha:Nr a) (hb:Nr b) (hp:Nr p) (hab:a≠b) (hn:2<n):xj n e a.1 a.2 b.1 b.2 p.1 p.2=some (decide (dv a b p)):=by
 unfold xj;rw[lE n ha hb hp,aw]
 by_cases h0:ti a b p=0
 ·rw[decide_eq_true (e9.2 h0),Bool.not_true,gK,uX n a b hn,aw];have key:∀{u v:I2},u≠v→Lx u v→ti u v p=0→(ob (B5 n u.1 u.2 p.1 p.2) fun r28=>br (decide (r28≤0)) (ob (B5 n p.1 p.2 v.1 v.2) fun r31=>some (decide (r31≤0))) (some false))=some (decide (dv u v p)):=fun {u v} huv hl ht=>by
   rw[uX n u p hn,aw,uX n p v hn,aw,ei,←Bool.decide_and]
   congr 1
   rw[decide_eq_decide,DB huv hl,qz,qz];exact⟨fun h=>⟨ht,h⟩,fun h=>h.2⟩
  by_cases hl:0<FJ a b
  ·rw[aR hl,aw];have hl':Lx b a:=by
    have:¬Lx a b:=fun h=>by have:=qz.2 h; omega
    unfold Lx at this ⊢; omega
   have:=key hab.symm hl' (by rw[hY,h0]; rfl)
   dsimp only
   rw[this]
   congr 1
   rw[decide_eq_decide]; exact oa
  ·rw[aW hl,aw];exact key hab (qz.1 (by omega)) h0
 ·rw[decide_eq_false (fun h=>h0 (e9.1 h)),Bool.not_false,kC,decide_eq_false fun h=>h0 h.1]
theorem oC {α β:Type} [DecidableEq α] (k:α):∀(xs:List (α × β)) (i:Nat),(jw k xs i=none∧k ∉ xs.map Prod.fst)∨∃j v,jw k xs i=some (i+j,v)∧(xs[j]?).map Prod.fst=some k
 | [],_=>.inl ⟨rfl,by simp⟩
 | e::es,i=>by
  unfold jw
  by_cases h:k=e.1
  ·rw[if_pos h]; exact .inr ⟨0,e.2,rfl,by rw[h]; rfl⟩
  ·rw[if_neg h];rcases oC k es (i+1) with⟨h1,h2⟩|⟨j,v,h1,h2⟩
   ·exact .inl ⟨h1,fun g=>by
     rw[List.map_cons,List.mem_cons] at g;exact g.elim h h2⟩
   ·exact .inr ⟨j+1,v,by rw[h1,show i+1+j=i+(j+1) by omega],h2⟩
theorem xh {α β:Type} [DecidableEq α] (xs:List (α × β)) (k:α) (v:β):(uC xs k v).map Prod.fst=if k ∈ xs.map Prod.fst then xs.map Prod.fst else xs.map Prod.fst++[k]:=by
 unfold uC;rcases oC k xs 0 with⟨h1,h2⟩|⟨j,w,h1,h2⟩
 ·rw[h1,if_neg h2]; simp
 ·rw[h1,Nat.zero_add];have hj:j<xs.length:=by
   refine Decidable.byContradiction fun hc=>?_;rw[List.getElem?_eq_none (by omega)] at h2; cases h2
  have e:(xs.map Prod.fst)[j]? = some k:=by rw[List.getElem?_map]; exact h2
  rw[if_pos (List.mem_of_getElem? e),List.map_set];refine List.ext_getElem? fun t=>?_;rw[List.getElem?_set]
  by_cases ht:j=t
  ·subst ht;rw[if_pos rfl,if_pos (by rw[List.length_map]; exact hj),e]
  ·rw[if_neg ht]
def rr (a b c d:I2) (l:List (I2 × Bool)) (x:I2):List (I2 × Bool):=if dv a b x∧dv c d x then uC l x true else l
theorem sq {a b c d:I2}:∀(xs:List I2) (l:List (I2 × Bool)),(l.map Prod.fst).Nodup→((xs.foldl (rr a b c d) l).map Prod.fst).Nodup∧∀q,q ∈ (xs.foldl (rr a b c d) l).map Prod.fst↔q ∈ l.map Prod.fst∨(q ∈ xs∧dv a b q∧dv c d q)
 | [],l,hn=>⟨hn,fun q=>by simp⟩
 | x::xs,l,hn=>by
  rw[List.foldl_cons];have key:((rr a b c d l x).map Prod.fst).Nodup∧∀q,q ∈ (rr a b c d l x).map Prod.fst↔q ∈ l.map Prod.fst∨(q=x∧dv a b q∧dv c d q):=by
   unfold rr
   by_cases h:dv a b x∧dv c d x
   ·rw[if_pos h,xh]
    by_cases g:x ∈ l.map Prod.fst
    ·rw[if_pos g];exact⟨hn,fun q=>⟨.inl,fun e=>e.elim id fun e=>e.1 ▸ g⟩⟩
    ·rw[if_neg g];refine⟨List.nodup_append.2 ⟨hn,by simp,fun u hu v hv=>?_⟩,fun q=>?_⟩
     ·rw[List.mem_singleton] at hv;intro e; rw[e,hv] at hu; exact g hu
     ·rw[List.mem_append,List.mem_singleton];exact⟨fun e=>e.elim .inl fun e=>.inr ⟨e,e ▸ h⟩,fun e=>e.elim .inl fun e=>.inr e.1⟩
   ·rw[if_neg h];exact⟨hn,fun q=>⟨.inl,fun e=>e.elim id fun⟨e,g⟩=>absurd (e ▸ g) h⟩⟩
  obtain⟨k1,k2⟩:=key;obtain⟨r1,r2⟩:=sq xs _ k1;refine⟨r1,fun q=>?_⟩;rw[r2,k2,List.mem_cons];constructor
  ·rintro((h|⟨rfl,h⟩) | ⟨h,g⟩)
   ·exact .inl h
   ·exact .inr ⟨.inl rfl,h⟩
   ·exact .inr ⟨.inr h,g⟩
  ·rintro(h|⟨rfl|h,g⟩)
   ·exact .inl (.inl h)
   ·exact .inl (.inr ⟨rfl,g⟩)
   ·exact .inr ⟨h,g⟩
theorem qd (n:Nat) (e f:Int) {a b c d x:I2} (ha:Nr a) (hb:Nr b) (hc:Nr c) (hd:Nr d) (hx:Nr x) (hab:a≠b) (hcd:c≠d) (hn:2<n) (l:List (I2 × Bool)) {i:Nat} (hi:i<4) (he:[a,b,c,d][i]? = some x) :
  mw n a.1 a.2 b.1 b.2 c.1 c.2 d.1 d.2 e f (l,(i:Int))=some (.inl (rr a b c d l x,((i+1:Nat):Int))):=by
 unfold mw
 dsimp only
 rw[aR (by omega),bt hi,bO,Int.toNat_natCast]
 have:[(a.1,a.2),(b.1,b.2),(c.1,c.2),(d.1,d.2)][i]? = some (x.1,x.2):=he;rw[this,aw]
 dsimp only
 rw[zv n e ha hb hx hab hn,aw,zv n f hc hd hx hcd hn,aw,ei,aw,bj (by omega)]
 unfold rr
 by_cases h:dv a b x∧dv c d x
 ·rw[decide_eq_true h.1,decide_eq_true h.2,if_pos h]; rfl
 ·rw[if_neg h,←Bool.decide_and,decide_eq_false h]; rfl
theorem Dv (n:Nat) (e f:Int) {a b c d:I2} (ha:Nr a) (hb:Nr b) (hc:Nr c) (hd:Nr d) (hab:a≠b) (hcd:c≠d) (hn:5<n):Fv n e a.1 a.2 b.1 b.2 f c.1 c.2 d.1 d.2=some (ru a b c d):=by
 classical
 unfold Fv;rw[lE n ha hb hc,aw,lE n ha hb hd,aw,lE n hc hd ha,aw,lE n hc hd hb,aw];have L:dY (mw n a.1 a.2 b.1 b.2 c.1 c.2 d.1 d.2 e f) n ([],0)=some ([a,b,c,d].foldl (rr a b c d) []):=by
  obtain⟨m,hm⟩:∃m,n=m+5:=⟨n-5,by omega⟩
  have L5:∀l,mw n a.1 a.2 b.1 b.2 c.1 c.2 d.1 d.2 e f (l,((4:Nat):Int))=some (.inr l):=fun l=>by
   unfold mw
   dsimp only
   rw[aW (by decide)]
  have h0:=qd n e f ha hb hc hd ha hab hcd (by omega) [] (i:=0) (by decide) rfl
  have h1:=qd n e f ha hb hc hd hb hab hcd (by omega) (rr a b c d [] a) (i:=1) (by decide) rfl
  have h2:=qd n e f ha hb hc hd hc hab hcd (by omega) (rr a b c d (rr a b c d [] a) b) (i:=2) (by decide) rfl
  have h3:=qd n e f ha hb hc hd hd hab hcd (by omega) (rr a b c d (rr a b c d (rr a b c d [] a) b) c) (i:=3) (by decide) rfl
  have:∀body:(List (I2 × Bool) × Int)→Option ((List (I2 × Bool) × Int) ⊕ List (I2 × Bool)),body=mw n a.1 a.2 b.1 b.2 c.1 c.2 d.1 d.2 e f→dY body n ([],0)=some ([a,b,c,d].foldl (rr a b c d) []):=fun body hbd=>by
   rw[←hbd] at h0 h1 h2 h3 L5;rw[hm,show(0:Int)=((0:Nat):Int) from rfl,bP h0,bP h1,bP h2,bP h3,eU (L5 _)]
   rfl
  exact this _ rfl
 obtain⟨k1,k2⟩:=sq (a:=a) (b:=b) (c:=c) (d:=d) [a,b,c,d] [] (by simp)
 have hlen:([a,b,c,d].foldl (rr a b c d) []).length=(([a,b,c,d].foldl (rr a b c d) []).map Prod.fst).length:=by rw[List.length_map]
 rw[L,aw];generalize [a,b,c,d].foldl (rr a b c d) []=l at *;have kc:∀q,q ∈ l.map Prod.fst↔fX a b c d q:=fun q=>by
  rw[k2];unfold fX;constructor
  ·rintro(h|⟨h,g⟩)
   ·simp at h
   ·exact⟨by simpa only[List.mem_cons,List.not_mem_nil,or_false] using h,g⟩
  ·rintro⟨h,g⟩;exact .inr ⟨by simpa only[List.mem_cons,List.not_mem_nil,or_false] using h,g⟩
 rw[aw,aw,hlen];generalize l.map Prod.fst=ks at *;unfold ru
 by_cases h2:∃x y,fX a b c d x∧fX a b c d y∧x≠y
 ·obtain⟨x,y,hx,hy,hne⟩:=h2;have:=pI (l:=[x,y]) (m:=ks) (by simp[hne]) fun q hq=>by
   simp only[List.mem_cons,List.not_mem_nil,or_false] at hq;rcases hq with rfl|rfl
   ·exact(kc _).2 hx
   ·exact(kc _).2 hy
  have hl:2≤ks.length:=this;rw[aR (by omega),if_pos ⟨x,y,hx,hy,hne⟩]
 ·have hl1:ks.length≤1:=by
   match ks,k1,kc with
   | [],_,_=>exact Nat.zero_le _
   | [_],_,_=>exact Nat.le_refl _
   | x::y::t,k1,kc =>
    refine absurd ⟨x,y,(kc x).1 (by simp),(kc y).1 (by simp),?_⟩ h2
    intro e; subst e; simp at k1
  rw[if_neg h2,aW (by omega)]
  by_cases h1:∃x,fX a b c d x
  ·obtain⟨x,hx⟩:=h1;have:0<ks.length:=List.length_pos_of_mem ((kc x).2 hx);rw[if_pos ⟨x,hx⟩,aR (by omega)]
  ·have:ks.length=0:=by
    match ks,kc with
    | [],_=>rfl
    | x::t,kc=>exact absurd ⟨x,(kc x).1 (by simp)⟩ h1
   rw[if_neg h1,aW (by omega)]
   have w:∀u v:Int,IntKind.wrap .i64 (sg u*sg v)=sg u*sg v:=fun u v=>by
    have h1:=gx u;have h2:=gx v;rcases h1 with h1|h1|h1<;>rcases h2 with h2|h2|h2<;>rw[h1,h2]<;>decide
   have s:∀u v:Int,sg u*sg v<0↔(0<u∧v<0)∨(u<0∧0<v):=fun u v=>by
    have a1:=Aw (z:=u);have a2:=qq (z:=u);have b1:=Aw (z:=v);have b2:=qq (z:=v);have h1:=gx u;have h2:=gx v;rcases h1 with h1|h1|h1<;>rcases h2 with h2|h2|h2<;>rw[h1] at a1 a2 ⊢<;>rw[h2] at b1 b2 ⊢<;>omega
   rw[w,w,ei,aw,Dk]
   by_cases hx:ph a b c d
   ·rw[if_pos hx,if_pos];unfold ph at hx;rw[Bool.and_eq_true,decide_eq_true_eq,decide_eq_true_eq,s,s];exact hx
   ·rw[if_neg hx,if_neg];rw[Bool.and_eq_true,decide_eq_true_eq,decide_eq_true_eq,s,s];exact hx
def ca {ρ:Type} (f:Nat→Option ρ) (e:ρ):Nat→Nat→ρ
 | 0,_=>e
 | k+1,i=>match f i with
  | some r=>r
  | none=>ca f e k (i+1)
theorem dk {ρ:Type} {B:Int→Option (Int ⊕ ρ)} {f:Nat→Option ρ} {e:ρ} {len:Nat} (hB:∀i:Nat,i<len→B (i:Int)=some (match f i with|some r=>.inr r|none=>.inl ((i+1:Nat):Int))) (hE:B (len:Int)=some (.inr e)) :
  ∀(k i n:Nat),i+k=len→k<n→dY B n (i:Int)=some (ca f e k i)
 | 0,i,n+1,h,_=>by
  rw[Nat.add_zero] at h; subst h;simp only[dY,hE,ca]
 | k+1,i,n+1,h,hn=>by
  have:=hB i (by omega)
  simp only[dY,this,ca];cases hf:f i with
  | some r=>rfl
  | none=>exact dk hB hE k (i+1) n (by omega) (by omega)
theorem ej {ρ:Type} {f:Nat→Option ρ} {e:ρ}:∀(k i:Nat),((∀j,i≤j→j<i+k→f j=none)∧ca f e k i=e)∨∃j,i≤j∧j<i+k∧f j=some (ca f e k i)
 | 0,i=>.inl ⟨fun j h1 h2=>by omega,rfl⟩
 | k+1,i=>by
  cases hf:f i with
  | some r=>exact .inr ⟨i,by omega,by omega,by simp only[ca,hf]⟩
  | none =>
   have e1:ca f e (k+1) i=ca f e k (i+1):=by simp only[ca,hf]
   rw[e1];rcases ej (f:=f) (e:=e) k (i+1) with⟨h1,h2⟩|⟨j,h1,h2,h3⟩
   ·refine .inl ⟨fun j a b=>?_,h2⟩
    by_cases e:j=i
    ·rw[e]; exact hf
    ·exact h1 j (by omega) (by omega)
   ·exact .inr ⟨j,by omega,by omega,h3⟩
theorem dR {l:List I2} {i:Nat} (h:i<l.length):l[((i:Nat):Int).toNat]? = some ((nx l i).1,(nx l i).2):=by
 rw[Int.toNat_natCast,List.getElem?_eq_getElem h];unfold nx;rw[Nat.mod_eq_of_lt h,List.getD_eq_getElem?_getD,List.getElem?_eq_getElem h]; rfl
theorem jF (m n:Nat):Int.tmod (m:Int) (n:Int)=((m%n:Nat):Int):=rfl
theorem pO {l:List I2} {i:Nat}:nx l (i%l.length)=nx l i:=by unfold nx; rw[Nat.mod_mod]
theorem CU (n:Nat) (p:I2):Fe n p.1 p.2=some (decide (Fa p)):=by
 unfold Fe Fa;rw[oo,oo,oo,←Bool.decide_or,←Bool.decide_or,←Bool.decide_or]
theorem qN (n:Nat) {l:List I2} (i:Nat) (h:l≠[]):Ck n l (i:Int)=some ((nx l i).1,(nx l i).2):=by
 have hl:0<l.length:=List.length_pos_iff.2 h;have hm:i%l.length<l.length:=Nat.mod_lt _ hl;unfold Ck;rw[decide_eq_true (show((l.length:Nat):Int)≠0 by omega),bO,jF,bt hm,bO,dR hm,aw,pO]
theorem kZ (n:Nat) {a b c:I2} (ha:Nr a) (hb:Nr b) (hc:Nr c):AI n a.1 a.2 b.1 b.2 c.1 c.2=some (ti a b c):=by
 unfold Nr at ha hb hc;have m1:=dV (B:=2000000) (C:=2000000) (u:=b.1-a.1) (v:=c.2-a.2) (by decide) (by omega) (by omega) (by omega) (by omega)
 have m2:=dV (B:=2000000) (C:=2000000) (u:=b.2-a.2) (v:=c.1-a.1) (by decide) (by omega) (by omega) (by omega) (by omega)
 unfold AI;rw[az (x:=b.1-a.1) (by omega) (by omega),az (x:=c.2-a.2) (by omega) (by omega),az (x:=b.2-a.2) (by omega) (by omega),az (x:=c.1-a.1) (by omega) (by omega),
  az (by omega) (by omega),az (by omega) (by omega),aw,aw,az (by omega) (by omega)]
 rfl
theorem EI {a b c:I2} (ha:Nr a) (hb:Nr b) (hc:Nr c):IntKind.wrap .i64 (IntKind.wrap .i64 ((IntKind.wrap .i64 (b.1-a.1))*(IntKind.wrap .i64 (c.1-b.1)))+IntKind.wrap .i64 ((IntKind.wrap .i64 (b.2-a.2))*(IntKind.wrap .i64 (c.2-b.2))))=di a b c:=by
 unfold Nr at ha hb hc;have m1:=dV (B:=2000000) (C:=2000000) (u:=b.1-a.1) (v:=c.1-b.1) (by decide) (by omega) (by omega) (by omega) (by omega)
 have m2:=dV (B:=2000000) (C:=2000000) (u:=b.2-a.2) (v:=c.2-b.2) (by decide) (by omega) (by omega) (by omega) (by omega)
 rw[az (x:=b.1-a.1) (by omega) (by omega),az (x:=c.1-b.1) (by omega) (by omega),az (x:=b.2-a.2) (by omega) (by omega),az (x:=c.2-b.2) (by omega) (by omega),
  az (x:=(b.1-a.1)*(c.1-b.1)) (by omega) (by omega),az (x:=(b.2-a.2)*(c.2-b.2)) (by omega) (by omega),az (by omega) (by omega)]
 rfl
theorem Dx (n:Nat) {a b c:I2} (ha:Nr a) (hb:Nr b) (hc:Nr c):Ff n a.1 a.2 b.1 b.2 c.1 c.2=some (di a b c):=by
 unfold Ff;rw[aw,aw,EI ha hb hc]
theorem rj (n:Nat) (z:Int):CH n z=some (sg z):=by
 unfold CH sg
 by_cases h:0<z
 ·rw[aR h,if_neg (by omega),if_pos h]
 ·rw[aW h,if_neg h]
  by_cases g:z<0
  ·rw[aR g,if_pos g]
  ·rw[aW g,if_neg g]
theorem qg (n:Nat) {a b p:I2} (ha:Nr a) (hb:Nr b) (hp:Nr p):Cq n a.1 a.2 b.1 b.2 p.1 p.2=some (decide (dv a b p)):=by
 unfold Cq;rw[kZ n ha hb hp,aw]
 by_cases h:ti a b p=0
 ·rw[decide_eq_true h,Bool.not_true,gK,ei,ei,ei,ll,ll,iG,iG,←Bool.decide_and,←Bool.decide_and,←Bool.decide_and]
  congr 1
  rw[decide_eq_decide];unfold dv;exact⟨fun g=>⟨h,g⟩,fun g=>g.2⟩
 ·rw[decide_eq_false h,Bool.not_false,kC,decide_eq_false fun g=>h g.1]
theorem Cm {a b c d:I2} (ha:Nr a) (hb:Nr b) (hc:Nr c) (hd:Nr d) :
  IntKind.wrap .i64 ((ma (mi a.1 b.1) (mi c.1 d.1))-(mi (ma a.1 b.1) (ma c.1 d.1)))=max (min a.1 b.1) (min c.1 d.1)-min (max a.1 b.1) (max c.1 d.1) ∧
  IntKind.wrap .i64 ((ma (mi a.2 b.2) (mi c.2 d.2))-(mi (ma a.2 b.2) (ma c.2 d.2)))=max (min a.2 b.2) (min c.2 d.2)-min (max a.2 b.2) (max c.2 d.2):=by
 unfold Nr at ha hb hc hd;simp only[ll,iG];exact⟨az (by omega) (by omega),az (by omega) (by omega)⟩
theorem vA (x y:Int):IntKind.wrap .i64 (sg x*sg y)=sg x*sg y:=by
 rcases gx x with h|h|h<;>rcases gx y with g|g|g<;>rw[h,g]<;>decide
theorem qE (x y:Int):sg x*sg y<0↔(0<x∧y<0)∨(x<0∧0<y):=by
 unfold sg
 split<;>split<;>(try split)<;>(try split)<;>omega
theorem Ec (n:Nat) {a b c d:I2} (ha:Nr a) (hb:Nr b) (hc:Nr c) (hd:Nr d) (hab:a≠b) (hcd:c≠d):E4 n a.1 a.2 b.1 b.2 c.1 c.2 d.1 d.2=some (ru a b c d):=by
 classical
 rw[B7 hab hcd];unfold E4;rw[kZ n ha hb hc,aw,rj,aw,kZ n ha hb hd,aw,rj,aw,kZ n hc hd ha,aw,rj,aw,kZ n hc hd hb,aw,rj,aw,ei,aw,←Bool.decide_and];rw[(Cm ha hb hc hd).1,(Cm ha hb hc hd).2]
 by_cases h:AD a b c d
 ·have h':sg (ti a b c)=0∧sg (ti a b d)=0:=⟨e9.2 h.1,e9.2 h.2⟩;rw[aR h',if_pos h];have hl:(ob (some (max (min a.1 b.1) (min c.1 d.1)-min (max a.1 b.1) (max c.1 d.1))) fun y54=>ob (br (decide (a.1=b.1)) (ob (some (max (min a.2 b.2) (min c.2 d.2)-min (max a.2 b.2) (max c.2 d.2))) fun y61=>some y61) (some y54)) fun v59=>br (decide (0<v59)) (some (0:Int)) (br (decide (v59=0)) (some 1) (some 3)))
    = br (decide (0<low a b c d)) (some 0) (br (decide (low a b c d=0)) (some 1) (some 3)):=by
   unfold low
   by_cases e:a.1=b.1
   ·rw[aw,aR e,aw,aw,if_pos e]
   ·rw[aw,aW e,aw,if_neg e]
  rw[hl]
  by_cases g:0<low a b c d
  ·rw[aR g,if_pos g]
  ·rw[aW g,if_neg g]
   by_cases k:low a b c d=0
   ·rw[aR k,if_pos k]
   ·rw[aW k,if_neg k]
 ·have h':¬(sg (ti a b c)=0∧sg (ti a b d)=0):=fun g=>h ⟨e9.1 g.1,e9.1 g.2⟩;rw[aW h',if_neg h,vA,vA,ei,aw,←Bool.decide_and]
  by_cases g:ph a b c d
  ·have g':sg (ti a b c)*sg (ti a b d)<0∧sg (ti c d a)*sg (ti c d b)<0:=⟨(qE _ _).2 g.1,(qE _ _).2 g.2⟩;rw[aR g',if_pos g]
  ·have g':¬(sg (ti a b c)*sg (ti a b d)<0∧sg (ti c d a)*sg (ti c d b)<0):=fun k=>g ⟨(qE _ _).1 k.1,(qE _ _).1 k.2⟩;rw[aW g',if_neg g,qg n ha hb hc,qg n ha hb hd,qg n hc hd ha,qg n hc hd hb];simp only[aw,oo,←Bool.decide_or]
   by_cases k:dv a b c∨dv a b d∨dv c d a∨dv c d b
   ·rw[aR k,if_pos k]
   ·rw[aW k,if_neg k]
def jj (l:List I2) (i:Nat):Option (Int ⊕ Unit):=if Fa (nx l i) then some (.inl (i:Int)) else none
def dZ (l:List I2) (i:Nat):Option (Int ⊕ Unit):=if nx l i=nx l (i+1) then some (.inl (i:Int)) else none
def eR (l:List I2) (i:Nat):Option (Int ⊕ Unit):=if ti (nx l (i+l.length-1)) (nx l i) (nx l (i+1))=0∧di (nx l (i+l.length-1)) (nx l i) (nx l (i+1))<0 then some (.inl (i:Int)) else none
def oY (l:List I2) (i j:Nat):Prop:=¬(j=0∧i=l.length-1)∧ru (nx l j) (nx l (j+1)) (nx l i) (nx l (i+1))≠0
open Classical in
noncomputable def eQ (l:List I2) (i:Nat):Option (Int ⊕ Unit):=if ∃j,j+1<i∧oY l i j then some (.inl (i:Int)) else none
noncomputable def iw (l:List I2):Int × Int :=
 if l.length<3∨40<l.length then(1,0) else
 match ca (jj l) (.inr ()) l.length 0 with
 | .inl v=>(2,v)
 | .inr _=>match ca (dZ l) (.inr ()) l.length 0 with
  | .inl v=>(3,v)
  | .inr _=>match ca (eR l) (.inr ()) l.length 0 with
   | .inl v=>(4,v)
   | .inr _=>match ca (eQ l) (.inr ()) l.length 0 with
    | .inl v=>(5,v)
    | .inr _=>(0,0)
section
variable {l : List I2} (n : Nat)
theorem iD (p q:I2):(decide (p.1=q.1) && decide (p.2=q.2))=decide (p=q):=by
 rw[←Bool.decide_and,decide_eq_decide]; exact⟨fun h=>Prod.ext h.1 h.2,fun h=>by subst h; exact⟨rfl,rfl⟩⟩
theorem yj (hn:l.length<n) (hl:l.length<100):dY (tF n l) n 0=some (ca (jj l) (.inr ()) l.length 0):=by
 refine dk (len:=l.length) (fun i hi=>?_) ?_ l.length 0 n (by omega) hn
 ·unfold tF jj
  dsimp only
  rw[aR (by omega),bt hi,bO,dR hi,aw]
  dsimp only
  rw[CU,aw,bj (by omega)]
  by_cases h:Fa (nx l i)
  ·rw[aR h,if_pos h]
  ·rw[aW h,if_neg h]
 ·unfold tF
  dsimp only
  rw[aW (by omega)]
theorem y9 (h64:∀i,ie (nx l i).1∧ie (nx l i).2) (hn:l.length<n) (hl:l.length<100):dY (sB n l) n 0=some (ca (jj l) (.inr ()) l.length 0):=by
 refine dk (len:=l.length) (fun i hi=>?_) ?_ l.length 0 n (by omega) hn
 ·unfold sB jj
  dsimp only
  rw[aR (by omega),bt hi,bO,dR hi,aw]
  dsimp only
  rw[D8 n (h64 i).1 (h64 i).2,aw,bj (by omega)]
  by_cases h:Fa (nx l i)
  ·rw[aR (show Fa ((nx l i).1,(nx l i).2) from h),if_pos h]
  ·rw[aW (show ¬Fa ((nx l i).1,(nx l i).2) from h),if_neg h]
 ·unfold sB
  dsimp only
  rw[aW (by omega)]
theorem zu (hn:l.length<n) (hl:l.length<100):dY (sW n l) n 0=some (ca (dZ l) (.inr ()) l.length 0):=by
 refine dk (len:=l.length) (fun i hi=>?_) ?_ l.length 0 n (by omega) hn
 ·have hne:l≠[]:=by rintro rfl; cases hi
  unfold sW dZ
  dsimp only
  rw[aR (by omega),bt hi,bO,dR hi,aw]
  dsimp only
  rw[bj (by omega),qN n (i+1) hne,aw]
  dsimp only
  rw[iD]
  by_cases h:nx l i=nx l (i+1)
  ·rw[aR h,if_pos h]
  ·rw[aW h,if_neg h]
 ·unfold sW
  dsimp only
  rw[aW (by omega)]
theorem kL (i:Nat) (hi:i<l.length) (hl:l.length<100) {β:Type} (K:Int × Int→Option β) :
  gd (decide ((l.length:Int)≠0)) (gd (ew (Int.tmod ((i+1:Nat):Int) (l.length:Int)) l.length) (ob (l[(Int.tmod ((i+1:Nat):Int) (l.length:Int)).toNat]?) K))=K ((nx l (i+1)).1,(nx l (i+1)).2):=by
 have hm:(i+1)%l.length<l.length:=Nat.mod_lt _ (by omega)
 rw[decide_eq_true (show((l.length:Nat):Int)≠0 by omega),bO,jF,bt hm,bO,dR hm,aw,pO]
theorem yD (hn:l.length<n) (hl:l.length<100):dY (rM n l) n 0=some (ca (dZ l) (.inr ()) l.length 0):=by
 refine dk (len:=l.length) (fun i hi=>?_) ?_ l.length 0 n (by omega) hn
 ·unfold rM dZ
  dsimp only
  rw[aR (by omega),bt hi,bO,dR hi,aw]
  dsimp only
  rw[bj (by omega),kL i hi hl]
  dsimp only
  rw[iD]
  by_cases h:nx l i=nx l (i+1)
  ·rw[aR h,if_pos h]; rfl
  ·rw[aW h,if_neg h]; rfl
 ·unfold rM
  dsimp only
  rw[aW (by omega)]
theorem zo (hnr:∀i,Nr (nx l i)) (hn:l.length<n) (hl:l.length<100):dY (sY n l) n 0=some (ca (eR l) (.inr ()) l.length 0):=by
 refine dk (len:=l.length) (fun i hi=>?_) ?_ l.length 0 n (by omega) hn
 ·have hne:l≠[]:=by rintro rfl; cases hi
  have e1:IntKind.wrap .i64 ((IntKind.wrap .i64 ((i:Int)+(l.length:Int)))-1)=((i+l.length-1:Nat):Int):=by
   rw[az (x:=(i:Int)+(l.length:Int)) (by omega) (by omega),az (by omega) (by omega)]; omega
  unfold sY eR
  dsimp only
  rw[aR (by omega),e1,qN n _ hne,aw]
  dsimp only
  rw[bt hi,bO,dR hi,aw]
  dsimp only
  rw[bj (by omega),qN n (i+1) hne,aw]
  dsimp only
  rw[kZ n (hnr _) (hnr _) (hnr _),aw,Dx n (hnr _) (hnr _) (hnr _),aw,ei,aw,←Bool.decide_and]
  by_cases h:ti (nx l (i+l.length-1)) (nx l i) (nx l (i+1))=0∧di (nx l (i+l.length-1)) (nx l i) (nx l (i+1))<0
  ·rw[aR h,if_pos h]
  ·rw[aW h,if_neg h]
 ·unfold sY
  dsimp only
  rw[aW (by omega)]
theorem yr (hnr:∀i,Nr (nx l i)) (hn:l.length<n) (hl:l.length<100):dY (sF n l) n 0=some (ca (eR l) (.inr ()) l.length 0):=by
 refine dk (len:=l.length) (fun i hi=>?_) ?_ l.length 0 n (by omega) hn
 ·have hm:(i+l.length-1)%l.length<l.length:=Nat.mod_lt _ (by omega)
  have e1:IntKind.wrap .i64 ((IntKind.wrap .i64 ((i:Int)+(l.length:Int)))-1)=((i+l.length-1:Nat):Int):=by
   rw[az (x:=(i:Int)+(l.length:Int)) (by omega) (by omega),az (by omega) (by omega)]; omega
  unfold sF eR
  dsimp only
  rw[aR (by omega),bt hi,bO,dR hi,aw]
  dsimp only
  rw[bj (by omega),kL i hi hl]
  dsimp only
  rw[e1,decide_eq_true (show((l.length:Nat):Int)≠0 by omega),bO,jF,aw,bt hm,bO,dR hm,pO,aw]
  dsimp only
  rw[lE n (hnr _) (hnr _) (hnr _),aw,aw,aw,EI (hnr _) (hnr _) (hnr _),ei,aw,←Bool.decide_and]
  by_cases h:ti (nx l (i+l.length-1)) (nx l i) (nx l (i+1))=0∧di (nx l (i+l.length-1)) (nx l i) (nx l (i+1))<0
  ·rw[aR (show _∧_ from⟨e9.2 h.1,h.2⟩),if_pos h]; rfl
  ·rw[aW (fun g=>h ⟨e9.1 g.1,g.2⟩),if_neg h]; rfl
 ·unfold sF
  dsimp only
  rw[aW (by omega)]
end
section
variable {l : List I2} (n : Nat)
open Classical in
noncomputable def AV {ρ:Type} (l:List I2) (r:ρ) (i j:Nat):Option ρ:=if oY l i j then some r else none
theorem Ar {ρ:Type} {r e:ρ} (_:r≠e) {i:Nat}:(ca (AV l r i) e (i-1) 0=r∧∃j,j+1<i∧oY l i j)∨(ca (AV l r i) e (i-1) 0=e∧¬∃j,j+1<i∧oY l i j):=by
 classical
 rcases ej (f:=AV l r i) (e:=e) (i-1) 0 with⟨h1,h2⟩|⟨j,_,h2,h3⟩
 ·refine .inr ⟨h2,?_⟩;rintro⟨j,hj,hh⟩;have:=h1 j (by omega) (by omega)
  unfold AV at this;rw[if_pos hh] at this;cases this
 ·unfold AV at h3
  split at h3
  ·rename_i hh;exact .inl ⟨(Option.some.inj h3).symm,j,by omega,hh⟩
  ·cases h3
theorem yy (hnr:∀i,Nr (nx l i)) (hst:∀i,nx l i≠nx l (i+1)) {i:Nat} (hi:i<l.length) (hn:l.length<n) (hl:l.length<100):dY (tQ n (i:Int) l) n 0=some (ca (AV l (.inl ()) i) (.inr ()) (i-1) 0):=by
 classical
 have hne:l≠[]:=by rintro rfl; cases hi
 refine dk (len:=i-1) (fun j hj=>?_) ?_ (i-1) 0 n (by omega) (by omega)
 ·have e1:IntKind.wrap .i64 ((l.length:Int)-1)=(l.length:Int)-1:=az (by omega) (by omega)
  unfold tQ AV
  dsimp only
  rw[bj (by omega),aR (by omega),ei,aw,e1,←Bool.decide_and]
  by_cases h:(j:Int)=0∧(i:Int)=(l.length:Int)-1
  ·rw[aR h,aw,if_neg (fun g:oY l i j=>g.1 ⟨by omega,by omega⟩)]
  ·rw[aW h,bt (by omega),bO,dR (by omega),aw]
   dsimp only
   rw[bt (by omega),bO,dR (by omega),aw]
   dsimp only
   rw[bt hi,bO,dR hi,aw]
   dsimp only
   rw[bj (by omega),qN n (i+1) hne,aw]
   dsimp only
   rw[Ec n (hnr _) (hnr _) (hnr _) (hnr _) (hst _) (hst _),aw]
   by_cases g:ru (nx l j) (nx l (j+1)) (nx l i) (nx l (i+1))=0
   ·rw[decide_eq_true g,Bool.not_true,gK,aw,if_neg (fun k:oY l i j=>k.2 g)]
   ·rw[decide_eq_false g,Bool.not_false,kC,aw,if_pos (show oY l i j from⟨fun k=>h ⟨by omega,by omega⟩,g⟩)]
 ·unfold tQ
  dsimp only
  rw[bj (by omega),aW (by omega)]
theorem yo (hnr:∀i,Nr (nx l i)) (hst:∀i,nx l i≠nx l (i+1)) {i:Nat} (hi:i<l.length) (hn:l.length<n) (h5:5<n) (hl:l.length<100) :
  dY (se n l (i:Int) (nx l i).1 (nx l i).2 (nx l (i+1)).1 (nx l (i+1)).2) n 0=some (ca (AV l (.inr (.inl ())) i) (.inl ()) (i-1) 0):=by
 classical
 have hne:l≠[]:=by rintro rfl; cases hi
 have e0:IntKind.wrap .i64 ((i:Int)-1)=(i:Int)-1:=az (by omega) (by omega)
 refine dk (len:=i-1) (fun j hj=>?_) ?_ (i-1) 0 n (by omega) (by omega)
 ·have e1:IntKind.wrap .i64 ((l.length:Int)-1)=(l.length:Int)-1:=az (by omega) (by omega)
  unfold se AV
  dsimp only
  rw[aR (by omega),bt (by omega),bO,dR (by omega),aw]
  dsimp only
  rw[bj (by omega),kL j (by omega) hl]
  try dsimp only
  rw[e0,aW (by omega),ei,aw,e1,←Bool.decide_and]
  by_cases h:(j:Int)=0∧(i:Int)=(l.length:Int)-1
  ·rw[aR h,aw,if_neg (fun g:oY l i j=>g.1 ⟨by omega,by omega⟩)]
  ·rw[aW h,Dv n _ _ (hnr _) (hnr _) (hnr _) (hnr _) (hst _) (hst _) h5,pZ,aw]
   by_cases g:ru (nx l j) (nx l (j+1)) (nx l i) (nx l (i+1))=0
   ·rw[decide_eq_true g,Bool.not_true,gK,aw,if_neg (fun k:oY l i j=>k.2 g)]
   ·rw[decide_eq_false g,Bool.not_false,kC,aw,if_pos (show oY l i j from⟨fun k=>h ⟨by omega,by omega⟩,g⟩)]
 ·unfold se
  dsimp only
  rw[aR (by omega),bt (by omega),bO,dR (by omega),aw]
  dsimp only
  rw[bj (by omega),kL (i-1) (by omega) hl]
  try dsimp only
  rw[e0,aR (by omega),aw]
theorem Ah (hnr:∀i,Nr (nx l i)) (hst:∀i,nx l i≠nx l (i+1)) (hn:l.length<n) (hl:l.length<100):dY (s5 n l) n 0=some (ca (eQ l) (.inr ()) l.length 0):=by
 classical
 refine dk (len:=l.length) (fun i hi=>?_) ?_ l.length 0 n (by omega) hn
 ·unfold s5 eQ
  try dsimp only
  rw[aR (by omega),yy n hnr hst hi hn hl,aw,bj (by omega)]
  rcases Ar (l:=l) (r:=(.inl ():Unit ⊕ Unit)) (e:=.inr ()) (by simp) (i:=i) with⟨h1,h2⟩|⟨h1,h2⟩
  ·rw[h1,if_pos h2]
  ·rw[h1,if_neg h2]
 ·unfold s5
  try dsimp only
  rw[aW (by omega)]
theorem zB (hnr:∀i,Nr (nx l i)) (hst:∀i,nx l i≠nx l (i+1)) (hn:l.length<n) (h5:5<n) (hl:l.length<100):dY (sw n l) n 0=some (ca (eQ l) (.inr ()) l.length 0):=by
 classical
 refine dk (len:=l.length) (fun i hi=>?_) ?_ l.length 0 n (by omega) hn
 ·unfold sw eQ
  dsimp only
  rw[aR (by omega),bt hi,bO,dR hi,aw]
  dsimp only
  rw[bj (by omega),kL i hi hl]
  dsimp only
  rw[aw,yo n hnr hst hi hn h5 hl,aw];rcases Ar (l:=l) (r:=(.inr (.inl ()):Unit ⊕ (Unit ⊕ Unit))) (e:=.inl ()) (by simp) (i:=i) with⟨h1,h2⟩|⟨h1,h2⟩
  ·rw[h1,if_pos h2]; rfl
  ·rw[h1,if_neg h2]; rfl
 ·unfold sw
  dsimp only
  rw[aW (by omega)]
theorem kP {f:Nat→Option (Int ⊕ Unit)} (hf:∀j r,f j=some r→r≠.inr ()) {k:Nat} (h:ca f (.inr ()) k 0 = .inr ()):∀j,j<k→f j=none:=by
 rcases ej (f:=f) (e:=.inr ()) k 0 with⟨h1,_⟩|⟨j,_,_,h3⟩
 ·exact fun j hj=>h1 j (by omega) (by omega)
 ·rw[h] at h3; exact absurd rfl (hf j _ h3)
theorem yk {P:I2→Prop} (hl:0<l.length) (h:∀i,i<l.length→P (nx l i)) (i:Nat):P (nx l i):=by
 rw[←pO]; exact h _ (Nat.mod_lt _ hl)
theorem lV {i:Nat}:nx l (i%l.length+1)=nx l (i+1):=by unfold nx; rw[Nat.mod_add_mod]
theorem tZ (hl:0<l.length) (h:ca (jj l) (.inr ()) l.length 0 = .inr ()):∀i,Nr (nx l i):=by
 refine yk hl fun i hi=>?_;have:=kP (fun j r hr=>by unfold jj at hr; split at hr<;>cases hr; simp) h i hi
 unfold jj at this
 split at this
 ·cases this
 ·rename_i g; exact Cz.1 g
theorem uY (hl:0<l.length) (h:ca (dZ l) (.inr ()) l.length 0 = .inr ()):∀i,nx l i≠nx l (i+1):=fun i=>by
 have:=kP (fun j r hr=>by unfold dZ at hr; split at hr<;>cases hr; simp) h (i%l.length) (Nat.mod_lt _ hl)
 unfold dZ at this
 split at this
 ·cases this
 ·rename_i g;rw[pO,lV] at g;exact g
theorem Bz (v:Int) (h:ca (jj l) (.inr ()) l.length 0 = .inl v):0≤v:=by
 rcases ej (f:=jj l) (e:=.inr ()) l.length 0 with⟨_,h2⟩|⟨j,_,_,h3⟩
 ·rw[h] at h2; cases h2
 ·rw[h] at h3;unfold jj at h3
  split at h3
  ·cases h3; omega
  ·cases h3
theorem yR (hn:l.length<n) (_:41<n):Er n l=some (iw l):=by
 unfold Er iw;rw[oo,aw,←Bool.decide_or]
 by_cases h:l.length<3∨40<l.length
 ·rw[aR (by omega),if_pos h]
 ·rw[aW (by omega),if_neg h,yj n hn (by omega),aw]
  cases h1:ca (jj l) (.inr ()) l.length 0 with
  | inl v=>rfl
  | inr _ =>
   have hnr:=tZ (by omega) h1
   dsimp only
   rw[zu n hn (by omega),aw]
   cases h2:ca (dZ l) (.inr ()) l.length 0 with
   | inl v=>rfl
   | inr _ =>
    have hst:=uY (by omega) h2
    dsimp only
    rw[zo n hnr hn (by omega),aw]
    cases h3:ca (eR l) (.inr ()) l.length 0 with
    | inl v=>rfl
    | inr _ =>
     dsimp only
     rw[Ah n hnr hst hn (by omega),aw]
     cases h4:ca (eQ l) (.inr ()) l.length 0<;>rfl
theorem yq (h64:∀x ∈ l,ie x.1∧ie x.2) (hn:l.length<n) (h5:41<n):Et n l=some (iw l):=by
 unfold Et iw;rw[oo,aw,←Bool.decide_or]
 by_cases h:l.length<3∨40<l.length
 ·rw[aR (by omega),if_pos h]
 ·have h64':∀i,ie (nx l i).1∧ie (nx l i).2:=yk (P:=fun x=>ie x.1∧ie x.2) (by omega) fun i hi=>by
   refine h64 _ ?_;unfold nx;rw[Nat.mod_eq_of_lt hi,List.getD_eq_getElem?_getD,List.getElem?_eq_getElem hi];exact List.getElem_mem hi
  rw[aW (by omega),if_neg h,y9 n h64' hn (by omega),aw]
  cases h1:ca (jj l) (.inr ()) l.length 0 with
  | inl v =>
   have:=Bz v h1
   dsimp only
   rw[aw,aR this]
  | inr _ =>
   have hnr:=tZ (by omega) h1
   dsimp only
   rw[aw,aW (by omega),aw,yD n hn (by omega),aw]
   cases h2:ca (dZ l) (.inr ()) l.length 0 with
   | inl v=>rfl
   | inr _ =>
    have hst:=uY (by omega) h2
    dsimp only
    rw[aw]
    dsimp only
    rw[aw,yr n hnr hn (by omega),aw]
    cases h3:ca (eR l) (.inr ()) l.length 0 with
    | inl v=>rfl
    | inr _ =>
     dsimp only
     rw[aw]
     dsimp only
     rw[aw,zB n hnr hst hn (by omega) (by omega),aw]
     cases h4:ca (eQ l) (.inr ()) l.length 0<;>rfl
def xQ (l:List I2):Prop:=(iw l).1≤0
open Classical in
theorem zH (hn:l.length<n) (h5:41<n):Em n l=some (if xQ l then 0 else 140):=by
 unfold Em xQ;rw[yR n hn h5,aw];obtain⟨a,b⟩:=iw l
 dsimp only
 by_cases h:0<a
 ·rw[aR h,if_neg (by omega)]
 ·rw[aW h,if_pos (by omega)]
open Classical in
theorem Dp (h64:∀x ∈ l,ie x.1∧ie x.2) (hn:l.length<n) (h5:41<n):Fi n l=some (if xQ l then 0 else 140):=by
 unfold Fi xQ;rw[yq n h64 hn h5,aw];obtain⟨a,b⟩:=iw l
 dsimp only
 by_cases h:0<a
 ·rw[aR h,if_neg (by omega)]
 ·rw[aW h,if_pos (by omega)]
end
def s7 (a b:List I2) (i:Nat):Option (Unit ⊕ Unit):=if nx a i≠nx b i then some (.inl ()) else none
theorem sG {a b:List I2} (h:a.length=b.length):ca (s7 a b) (.inr ()) a.length 0=if a=b then .inr () else .inl ():=by
 rcases ej (f:=s7 a b) (e:=.inr ()) a.length 0 with⟨h1,h2⟩|⟨j,_,h2,h3⟩
 ·rw[h2,if_pos];refine List.ext_getElem h fun i h3 h4=>?_;have:=h1 i (by omega) (by omega)
  unfold s7 at this
  split at this
  ·cases this
  ·rename_i g;have g:nx a i=nx b i:=Decidable.not_not.1 g;unfold nx at g;rw[Nat.mod_eq_of_lt h3,Nat.mod_eq_of_lt h4,List.getD_eq_getElem?_getD,List.getD_eq_getElem?_getD,List.getElem?_eq_getElem h3,List.getElem?_eq_getElem h4] at g;exact g
 ·have h4:s7 a b j=if nx a j≠nx b j then some (.inl ()) else none:=rfl
  rw[h4] at h3
  split at h3
  ·rename_i g;rw[←Option.some.inj h3,if_neg];rintro rfl;exact g rfl
  ·cases h3
theorem D7 (n:Nat) {a b:List I2} (hn:a.length<n) (hl:a.length<100000):E7 n a b=some (decide (a=b)):=by
 unfold E7
 by_cases h:a.length=b.length
 ·rw[decide_eq_true (show(a.length:Int)=b.length by omega),Bool.not_true,gK]
  have:dY (rF n a b) n 0=some (ca (s7 a b) (.inr ()) a.length 0):=by
   refine dk (len:=a.length) (fun i hi=>?_) ?_ a.length 0 n (by omega) hn
   ·unfold rF s7
    dsimp only
    rw[aR (by omega),bt hi,bO,dR hi,aw]
    dsimp only
    rw[bt (h ▸ hi),bO,dR (h ▸ hi),aw]
    dsimp only
    rw[iD,bj (by omega)]
    by_cases g:nx a i=nx b i
    ·rw[decide_eq_true g,Bool.not_true,gK,if_neg (by simpa using g)]
    ·rw[decide_eq_false g,Bool.not_false,kC,if_pos g]
   ·unfold rF
    dsimp only
    rw[aW (by omega)]
  rw[this,aw,sG h]
  by_cases g:a=b
  ·rw[if_pos g,decide_eq_true g]
  ·rw[if_neg g,decide_eq_false g]
 ·rw[decide_eq_false (show ¬(a.length:Int)=b.length by omega),Bool.not_false,kC,decide_eq_false]
  rintro rfl;exact h rfl
theorem DC (n:Nat) {a b:List I2} (hn:a.length<n) (hl:a.length<100000):Fz n a b=some (decide (a=b)):=by
 unfold Fz FO
 by_cases h:a.length=b.length
 ·rw[decide_eq_true (show(a.length:Int)=b.length by omega),Bool.not_true,gK]
  have:dY (sU n a b) n 0=some (ca (s7 a b) (.inr ()) a.length 0):=by
   refine dk (len:=a.length) (fun i hi=>?_) ?_ a.length 0 n (by omega) hn
   ·unfold sU s7
    dsimp only
    rw[aR (by omega),bt hi,bO,dR hi,aw]
    dsimp only
    rw[bt (h ▸ hi),bO,dR (h ▸ hi),aw]
    dsimp only
    rw[iD,bj (by omega)]
    by_cases g:nx a i=nx b i
    ·rw[decide_eq_true g,Bool.not_true,gK,if_neg (by simpa using g)]
    ·rw[decide_eq_false g,Bool.not_false,kC,if_pos g]
   ·unfold sU
    dsimp only
    rw[aW (by omega)]
  rw[this,aw,sG h]
  by_cases g:a=b
  ·rw[if_pos g,decide_eq_true g]; rfl
  ·rw[if_neg g,decide_eq_false g]; rfl
 ·rw[decide_eq_false (show ¬(a.length:Int)=b.length by omega),Bool.not_false,kC,decide_eq_false]
  ·rfl
  ·rintro rfl;exact h rfl
end Go.Proofs.YthmekkhpddehjaaGreat
end

section
namespace Jd
theorem eh (f:I2→I2) {r:List I2} (h:r≠[]) (i:Nat):nx (r.map f) i=f (nx r i):=by
 have hl:=List.length_pos_iff.2 h;unfold nx;rw[List.length_map];have hi:i%r.length<r.length:=Nat.mod_lt _ hl;rw[List.getD_eq_getElem?_getD,List.getD_eq_getElem?_getD,List.getElem?_map,List.getElem?_eq_getElem hi]; rfl
theorem Dh {r:List I2}:nx r r.length=nx r 0:=by unfold nx; rw[Nat.mod_self,Nat.zero_mod]
def sA (r:List I2):Int:=cV r.length fun i=>(nx r i).1*(nx r (i+1)).2-(nx r i).2*(nx r (i+1)).1
theorem tO (n:Nat) (f g:Nat→Int):cV n (fun i=>f i+g i)=cV n f+cV n g:=by
 induction n with
 | zero=>rfl
 | succ n ih=>simp only[cV]; rw[ih]; omega
theorem oE (c:Int) (n:Nat) (f:Nat→Int):cV n (fun i=>c*f i)=c*cV n f:=by
 induction n with
 | zero=>simp[cV]
 | succ n ih=>simp only[cV]; rw[ih,Int.mul_add]
theorem xu (n:Nat) (f:Nat→Int):cV (n+1) f=f 0+cV n fun i=>f (i+1):=by
 induction n with
 | zero=>simp[cV]
 | succ n ih=>rw[cV,ih]; simp only[cV]; omega
theorem zt (r:List I2) (o:I2):cV r.length (fun i=>((nx r i).1-o.1)*((nx r (i+1)).2-o.2)-((nx r i).2-o.2)*((nx r (i+1)).1-o.1))=sA r:=by
 have t1:=nL r.length fun i=>(nx r i).1;have t2:=nL r.length fun i=>(nx r i).2;rw[Dh] at t1 t2;have e:cV r.length (fun i=>((nx r i).1-o.1)*((nx r (i+1)).2-o.2)-((nx r i).2-o.2)*((nx r (i+1)).1-o.1)) =
   cV r.length (fun i=>((nx r i).1*(nx r (i+1)).2-(nx r i).2*(nx r (i+1)).1)+(o.2*((nx r (i+1)).1-(nx r i).1) + -o.1*((nx r (i+1)).2-(nx r i).2))) :=
  gF fun i _=>by grind
 rw[e,tO,tO,oE,oE,t1,t2];unfold sA
 grind
structure Chg (f:I2→I2) (k d:Int):Prop where
 inj:∀{a b},f a=f b→a=b
 ti:∀a b c,ti (f a) (f b) (f c)=k*ti a b c
 di:∀a b c,di (f a) (f b) (f c)=d*di a b c
 kp:k≠0
 dp:0<d
 btw:∀{a b c},dv (f a) (f b) (f c)↔dv a b c
theorem iV {k x:Int} (h:0<k):0<k*x↔0<x:=⟨fun g=>Int.pos_of_mul_pos_right g h,fun g=>Int.mul_pos h g⟩
theorem fe {k x:Int} (h:0<k):k*x<0↔x<0:=by
 have:=iV (x:=-x) h;rw[Int.mul_neg] at this;omega
section
variable {f : I2 → I2} {k d : Int}
theorem Chg.AU (h:Chg f k d) {a b c d x:I2}:fX (f a) (f b) (f c) (f d) (f x)↔fX a b c d x:=by
 unfold fX;rw[h.btw,h.btw];constructor
 ·rintro⟨g,e⟩;exact⟨by rcases g with g|g|g|g<;>simp[h.inj g],e⟩
 ·rintro⟨g,e⟩;exact⟨by rcases g with g|g|g|g<;>simp[g],e⟩
theorem Chg.mQ (h:Chg f k d) {a b c d:I2}:ph (f a) (f b) (f c) (f d)↔ph a b c d:=by
 unfold ph;rw[h.ti,h.ti,h.ti,h.ti];rcases Int.lt_or_gt_of_ne h.kp with g|g
 ·have e:∀x,k*x = -((-k)*x):=fun x=>by rw[Int.neg_mul]; omega
  have p:∀{x},0<k*x↔x<0:=fun {x}=>by rw[e]; have:=fe (k:=-k) (x:=x) (by omega); omega
  have n:∀{x},k*x<0↔0<x:=fun {x}=>by rw[e]; have:=iV (k:=-k) (x:=x) (by omega); omega
  rw[p,p,p,p,n,n,n,n]; omega
 ·rw[iV g,iV g,iV g,iV g,fe g,fe g,fe g,fe g]
theorem zN {a b c d:I2}:NM a b c d↔(∀x,¬fX a b c d x)∧¬ph a b c d:=Iff.rfl
theorem Chg.nm (h:Chg f k d) {a b c d:I2}:NM (f a) (f b) (f c) (f d)↔NM a b c d:=by
 rw[zN,zN,h.mQ];refine and_congr_left fun _=>⟨fun g x hx=>g (f x) (h.AU.2 hx),fun g x hx=>?_⟩;have:∃y,x=f y:=by
  rcases hx.1 with e|e|e|e<;>exact⟨_,e⟩
 obtain⟨y,rfl⟩:=this;exact g y (h.AU.1 hx)
theorem Chg.vr (h:Chg f k d) {r:List I2} (v:VR r):VR (r.map f):=by
 have hr:r≠[]:=fun e=>by have:=v.n3; rw[e] at this; simp at this
 refine⟨by rw[List.length_map]; exact v.n3,fun i=>?_,fun i=>?_,fun j i h1 h2 h3=>?_⟩
 ·rw[eh f hr,eh f hr];exact fun e=>v.still i (h.inj e)
 ·rw[eh f hr,eh f hr,eh f hr,h.ti,h.di];rintro⟨e1,e2⟩;refine v.pP i ⟨?_,(fe h.dp).1 e2⟩;rcases Int.mul_eq_zero.1 e1 with e|e
  ·exact absurd e h.kp
  ·exact e
 ·rw[List.length_map] at h2 h3;rw[eh f hr,eh f hr,eh f hr,eh f hr,h.nm];exact v.meet j i h1 h2 h3
end
def kR (v:I2) (a:I2):I2:=(a.1+v.1,a.2+v.2)
theorem xW (v a b c:I2):ti (kR v a) (kR v b) (kR v c)=ti a b c:=by unfold ti kR; grind
theorem A5 {v a b c:I2}:dv (kR v a) (kR v b) (kR v c)↔dv a b c:=by
 unfold dv;rw[xW];unfold kR
 dsimp only
 omega
theorem Bp (v:I2):Chg (kR v) 1 1:=by
 refine⟨fun {a b} h=>?_,fun a b c=>by rw[xW]; omega,fun a b c=>by unfold di kR; grind,by decide,by decide,A5⟩
 have h1:=congrArg Prod.fst h;have h2:=congrArg Prod.snd h;unfold kR at h1 h2;exact Prod.ext (by dsimp only at h1; omega) (by dsimp only at h2; omega)
def lZ (s:Int) (a:I2):I2:=(a.1*s,a.2*s)
theorem zf (s:Int) (a b c:I2):ti (lZ s a) (lZ s b) (lZ s c)=s*s*ti a b c:=by unfold ti lZ; grind
theorem j6 {s x y:Int} (hs:0<s):x*s≤y*s↔x≤y:=⟨fun h=>Int.le_of_mul_le_mul_right h hs,fun h=>Int.mul_le_mul_of_nonneg_right h (Int.le_of_lt hs)⟩
theorem BV {s:Int} (hs:0<s) {a b c:I2}:dv (lZ s a) (lZ s b) (lZ s c)↔dv a b c:=by
 have hss:s*s≠0:=by have:=Int.mul_pos hs hs; omega
 have m1:∀x y z:Int,min (x*s) (y*s)≤z*s↔min x y≤z:=fun x y z=>by
  have h1:=j6 (x:=x) (y:=z) hs;have h2:=j6 (x:=y) (y:=z) hs;omega
 have m2:∀x y z:Int,z*s≤max (x*s) (y*s)↔z≤max x y:=fun x y z=>by
  have h1:=j6 (x:=z) (y:=x) hs;have h2:=j6 (x:=z) (y:=y) hs;omega
 unfold dv;rw[zf];unfold lZ
 dsimp only
 rw[m1,m2,m1,m2];refine and_congr_left fun _=>⟨fun h=>?_,fun h=>by rw[h,Int.mul_zero]⟩
 rcases Int.mul_eq_zero.1 h with e|e
 ·exact absurd e hss
 ·exact e
theorem BF {s:Int} (hs:0<s):Chg (lZ s) (s*s) (s*s):=by
 have hss:=Int.mul_pos hs hs;refine⟨fun {a b} h=>?_,zf s,fun a b c=>by unfold di lZ; grind,by omega,hss,BV hs⟩
 have h1:=congrArg Prod.fst h;have h2:=congrArg Prod.snd h;exact Prod.ext (Int.eq_of_mul_eq_mul_right (by omega) h1) (Int.eq_of_mul_eq_mul_right (by omega) h2)
theorem AO {r:List I2} (h:r≠[]) (v:I2):sA (r.map (kR v))=sA r:=by
 rw[←zt (r.map (kR v)) v];unfold sA;rw[List.length_map];refine gF fun i _=>?_;rw[eh _ h,eh _ h];unfold kR
 dsimp only
 rw[Int.add_sub_cancel,Int.add_sub_cancel,Int.add_sub_cancel,Int.add_sub_cancel]
def rv:List I2→List I2
 | []=>[]
 | a::l=>a::l.reverse
theorem oJ (r:List I2):(rv r).length=r.length:=by cases r<;>simp[rv]
theorem gZ (r:List I2) {i j:Nat} (h:i%r.length=j%r.length):nx r i=nx r j:=by unfold nx; rw[h]
theorem pT {r:List I2} {i t:Nat} (h:(t+i)%r.length=0):nx (rv r) i=nx r t:=by
 match r with
 | []=>rfl
 | a::l =>
  unfold nx;rw[oJ];have hn:0<(a::l).length:=by simp
  generalize hN:(a::l).length=N at *;have h1:i%N<N:=Nat.mod_lt _ hn;have h2:t%N<N:=Nat.mod_lt _ hn;have h3:(t%N+i%N)%N=0:=by rw[←Nat.add_mod]; exact h
  have hl:l.length+1=N:=by rw[←hN]; simp
  rcases Nat.eq_zero_or_pos (i%N) with e|e
  ·have e2:t%N=0:=by rw[e,Nat.add_zero,Nat.mod_eq_of_lt h2] at h3; exact h3
   rw[e,e2]; rfl
  ·have e2:t%N+i%N=N:=by
    rcases Nat.lt_or_ge (t%N+i%N) N with g|g
    ·rw[Nat.mod_eq_of_lt g] at h3; omega
    ·rw[Nat.mod_eq_sub_mod g,Nat.mod_eq_of_lt (by omega)] at h3; omega
   obtain⟨x,hx⟩:∃x,i%N=x+1:=⟨i%N-1,by omega⟩
   obtain⟨y,hy⟩:∃y,t%N=y+1:=⟨t%N-1,by omega⟩
   rw[hx,hy]
   show(a::l.reverse).getD (x+1) (0,0)=(a::l).getD (y+1) (0,0)
   simp only[List.getD_eq_getElem?_getD,List.getElem?_cons_succ];rw[List.getElem?_reverse (by omega)]
   congr 2
   omega
theorem Eb {a b c d:I2}:NM b a d c↔NM c d a b:=by
 rw[←pW,←pW,sT,pZ,sT,pZ (a:=a) (b:=b)]
theorem VR.rv {r:List I2} (v:VR r):VR (rv r):=by
 have hn:=v.n3;refine⟨by rw[oJ]; exact hn,fun i=>?_,fun i=>?_,fun j i h1 h2 h3=>?_⟩
 ·have e:((r.length-1)*(i+1)+(i+1))%r.length=0:=by
   rw[show(r.length-1)*(i+1)+(i+1)=r.length*(i+1) by
    obtain⟨m,hm⟩:∃m,r.length=m+1:=⟨r.length-1,by omega⟩
    rw[hm,Nat.add_sub_cancel,Nat.add_mul,Nat.one_mul],Nat.mul_mod_right]
  rw[pT (i:=i+1) e,pT (i:=i) (t:=(r.length-1)*(i+1)+1) (by rw[show(r.length-1)*(i+1)+1+i=(r.length-1)*(i+1)+(i+1) by omega]; exact e)]
  exact fun g=>v.still _ g.symm
 ·have e:((r.length-1)*(i+2)+(i+2))%r.length=0:=by
   rw[show(r.length-1)*(i+2)+(i+2)=r.length*(i+2) by
    obtain⟨m,hm⟩:∃m,r.length=m+1:=⟨r.length-1,by omega⟩
    rw[hm,Nat.add_sub_cancel,Nat.add_mul,Nat.one_mul],Nat.mul_mod_right]
  generalize (r.length-1)*(i+2)=m at e;rw[pT (i:=i+2) e,pT (i:=i+1) (t:=m+1) (by rw[show m+1+(i+1)=m+(i+2) by omega]; exact e),pT (i:=i) (t:=m+2) (by rw[show m+2+i=m+(i+2) by omega]; exact e)]
  rintro⟨g1,g2⟩;refine v.pP m ⟨?_,?_⟩
  ·have:ti (nx r (m+2)) (nx r (m+1)) (nx r m) = -ti (nx r m) (nx r (m+1)) (nx r (m+2)):=by unfold Jd.ti; grind
   omega
  ·have:di (nx r (m+2)) (nx r (m+1)) (nx r m)=di (nx r m) (nx r (m+1)) (nx r (m+2)):=by unfold Jd.di; grind
   omega
 ·rw[oJ] at h2 h3;have g:∀k,k≤r.length→nx (Jd.rv r) k=nx r (r.length-k):=fun k hk=>pT (by rw[show r.length-k+k=r.length by omega,Nat.mod_self])
  rw[g j (by omega),g (j+1) (by omega),g i (by omega),g (i+1) (by omega)]
  have:=v.meet (r.length-1-i) (r.length-1-j) (by omega) (by omega) (by omega)
  rw[show r.length-1-i+1=r.length-i by omega,show r.length-1-j+1=r.length-j by omega] at this
  rw[show r.length-(j+1)=r.length-1-j by omega,show r.length-(i+1)=r.length-1-i by omega]
  exact Eb.2 this
def dX (α β γ:Int) (x:I2):Int:=α*x.1+β*x.2+γ
theorem Cx {α β γ:Int} {a b x:I2} (h:ti a b x=0):(b.1-a.1)*dX α β γ x=(b.1-x.1)*dX α β γ a+(x.1-a.1)*dX α β γ b:=by
 have e:(b.1-a.1)*dX α β γ x-((b.1-x.1)*dX α β γ a+(x.1-a.1)*dX α β γ b)=β*ti a b x:=by unfold dX ti; grind
 rw[h,Int.mul_zero] at e; omega
theorem Cl {α β γ:Int} {a b x:I2} (h:ti a b x=0):(b.2-a.2)*dX α β γ x=(b.2-x.2)*dX α β γ a+(x.2-a.2)*dX α β γ b:=by
 have e:(b.2-a.2)*dX α β γ x-((b.2-x.2)*dX α β γ a+(x.2-a.2)*dX α β γ b) = -α*ti a b x:=by unfold dX ti; grind
 rw[h,Int.mul_zero] at e; omega
theorem mN {u v w s t z:Int} (hw:0<w) (hu:0≤u) (hv:0≤v) (e:u+v=w) (hs:0<s) (ht:0<t) (h:w*z=u*s+v*t):0<z:=by
 have h1:0≤u*s:=Int.mul_nonneg hu (Int.le_of_lt hs);have h2:0≤v*t:=Int.mul_nonneg hv (Int.le_of_lt ht);have:0<w*z:=by
  rcases Int.lt_or_eq_of_le hu with g|g
  ·have:=Int.mul_pos g hs; omega
  ·have:=Int.mul_pos (show 0<v by omega) ht; omega
 exact Int.pos_of_mul_pos_right this hw
theorem qC {α β γ:Int} {a b x:I2} (h:dv a b x) (ha:0<dX α β γ a) (hb:0<dX α β γ b):0<dX α β γ x:=by
 obtain⟨h0,h1,h2,h3,h4⟩:=h;rcases Int.lt_trichotomy a.1 b.1 with g|g|g
 ·exact mN (w:=b.1-a.1) (u:=b.1-x.1) (v:=x.1-a.1) (by omega) (by omega) (by omega) (by omega) ha hb (Cx h0)
 ·rcases Int.lt_trichotomy a.2 b.2 with k|k|k
  ·exact mN (w:=b.2-a.2) (u:=b.2-x.2) (v:=x.2-a.2) (by omega) (by omega) (by omega) (by omega) ha hb (Cl h0)
  ·have:x=a:=Prod.ext (by omega) (by omega)
   rw[this]; exact ha
  ·refine mN (w:=a.2-b.2) (u:=a.2-x.2) (v:=x.2-b.2) (by omega) (by omega) (by omega) (by omega) hb ha (Cl ?_)
   rw[hY,h0]; rfl
 ·refine mN (w:=a.1-b.1) (u:=a.1-x.1) (v:=x.1-b.1) (by omega) (by omega) (by omega) (by omega) hb ha (Cx ?_)
  rw[hY,h0]; rfl
theorem qJ (α β γ:Int) (x:I2):dX (-α) (-β) (-γ) x = -dX α β γ x:=by unfold dX; grind
theorem oD {α β γ:Int} {a b c d:I2} (ha:0<dX α β γ a) (hb:0<dX α β γ b) (hc:dX α β γ c<0) (hd:dX α β γ d<0):NM a b c d:=by
 refine⟨fun x hx=>?_,fun hx=>?_⟩
 ·have h1:=qC hx.2.1 ha hb;have h2:=qC (α:=-α) (β:=-β) (γ:=-γ) hx.2.2 (by rw[qJ]; omega) (by rw[qJ]; omega)
  rw[qJ] at h2; omega
 ·have e:ti c d b*dX α β γ a-ti c d a*dX α β γ b = -(ti a b d*dX α β γ c-ti a b c*dX α β γ d):=by unfold dX ti; grind
  have f:=A8 a b c d;generalize dX α β γ a=la at *;generalize dX α β γ b=lb at *;generalize dX α β γ c=lc at *;generalize dX α β γ d=ld at *;generalize ti a b c=s at *;generalize ti a b d=t at *;generalize ti c d a=u at *;generalize ti c d b=v at *;have pp:∀{x y:Int},0<x→0<y→0<x*y:=fun h g=>Int.mul_pos h g;have pn:∀{x y:Int},0<x→y<0→x*y<0:=fun h g=>Int.mul_neg_of_pos_of_neg h g;have np:∀{x y:Int},x<0→0<y→x*y<0:=fun h g=>Int.mul_neg_of_neg_of_pos h g;have nn:∀{x y:Int},x<0→y<0→0<x*y:=fun h g=>Int.mul_pos_of_neg_of_neg h g;obtain⟨h1|h1,h2|h2⟩:=hx
  ·have:=np h2.2 hb; omega
  ·have a1:=pp h2.2 ha; have a2:=np h2.1 hb; have a3:=nn h1.2 hc; have a4:=pn h1.1 hd; omega
  ·have a1:=np h2.2 ha; have a2:=pp h2.1 hb; have a3:=pn h1.2 hc; have a4:=nn h1.1 hd; omega
  ·have:=h1.1; omega
def mQ (a b:I2):Int:=a.1*b.2-a.2*b.1
theorem zm {a b c:I2} (h1:0<mQ a b) (h2:0<mQ b c):¬(ti a b c=0∧di a b c<0):=by
 rintro⟨g1,g2⟩;have e:((b.1-a.1)*(b.1-a.1)+(b.2-a.2)*(b.2-a.2))*mQ b c=di a b c*mQ a b+ti a b c*(b.1*(b.1-a.1)+b.2*(b.2-a.2)):=by unfold mQ di ti; grind
 rw[g1,Int.zero_mul,Int.add_zero] at e;have n1:0≤((b.1-a.1)*(b.1-a.1)+(b.2-a.2)*(b.2-a.2))*mQ b c:=Int.mul_nonneg (Int.add_nonneg wY wY) (Int.le_of_lt h2);have n2:=Int.mul_neg_of_neg_of_pos g2 h1;omega
def wy (k:Nat):I2:=[(2,0),(2,1),(1,2),(0,2),(-1,2),(-2,1),(-2,0),(-2,-1),(-1,-2),(0,-2),(1,-2),(2,-1)].getD (k%12) (0,0)
def uZ (m:Int) (a:I2):I2:=(a.1*m,a.2*m)
theorem mH (α β m:Int) (a:I2):dX α β 0 (uZ m a)=dX α β 0 a*m:=by unfold dX uZ; grind
theorem Br (m k:Int) (a b:I2):mQ (uZ m a) (uZ k b)=m*k*mQ a b:=by unfold mQ uZ; grind
theorem yK (k:Nat):wy (k%12)=wy k:=by unfold wy; rw[Nat.mod_mod]
def Ga:List (Int × Int):=[(3,1),(1,3),(-1,3),(-3,1),(-3,-1),(-1,-3),(1,-3),(3,-1),(4,3),(3,4),(-3,4),(-4,3),(-4,-3),(-3,-4),(3,-4),(4,-3),(1,1),(-1,1),(-1,-1),(1,-1),(1,0),(0,1),(-1,0),(0,-1),(5,1),(1,5),(-1,5),(-5,1),(-5,-1),(-1,-5),(1,-5),(5,-1),(2,1),(1,2),(-1,2),(-2,1),(-2,-1),(-1,-2),(1,-2),(2,-1)]
def yp (a x y z:Nat):Bool:=Ga.any fun c=>decide (0<dX c.1 c.2 0 (wy a)) && decide (0<dX c.1 c.2 0 (wy (a+x))) && decide (dX c.1 c.2 0 (wy (a+y))<0) && decide (dX c.1 c.2 0 (wy (a+y+z))<0)
def z6:Bool:=(List.range 12).all fun a=>(List.range 4).all fun x=>(List.range 12).all fun y=>(List.range 4).all fun z=>!(decide (0<x) && decide (x<y) && decide (0<z) && decide (y+z<12)) || yp a x y z
theorem zh:z6=true:=by decide +kernel
theorem FX (a:Nat) (ha:a<12) (x:Nat) (hx:x<4) (y:Nat) (hy:y<12) (z:Nat) (hz:z<4) (h1:0<x) (h2:x<y) (h3:0<z) (h4:y+z<12):yp a x y z=true:=by
 have h:=zh;unfold z6 at h;have h:=List.all_eq_true.1 h a (List.mem_range.2 ha);have h:=List.all_eq_true.1 h x (List.mem_range.2 hx);have h:=List.all_eq_true.1 h y (List.mem_range.2 hy);have h:=List.all_eq_true.1 h z (List.mem_range.2 hz)
 simpa [h1,h2,h3,h4] using h
theorem DA:∀a<12,∀x<4,0<x→0<mQ (wy a) (wy (a+x)):=by decide +kernel
theorem qp (a x:Nat):wy (a%12+x)=wy (a+x):=by unfold wy; rw[Nat.mod_add_mod]
structure Star (r:List I2):Prop where
 n3:2<r.length
 dir:∃δ:Nat→Nat,(∀i,δ i < δ (i+1)∧δ (i+1)≤δ i+3)∧(∀i,δ (i+r.length)=δ i+12)∧∀i,∃m:Int,0<m∧nx r i=uZ m (wy (δ i))
theorem Star.left {r:List I2} (h:Star r) (i:Nat):0<mQ (nx r i) (nx r (i+1)):=by
 obtain⟨δ,h1,_,h3⟩:=h.dir;obtain⟨m,m0,e1⟩:=h3 i;obtain⟨k,k0,e2⟩:=h3 (i+1);have hd:=h1 i;rw[e1,e2,Br];have:=DA (δ i%12) (Nat.mod_lt _ (by decide)) (δ (i+1)-δ i) (by omega) (by omega)
 rw[yK,qp,show δ i+(δ (i+1)-δ i)=δ (i+1) by omega] at this
 exact Int.mul_pos (Int.mul_pos m0 k0) this
theorem Star.vr {r:List I2} (h:Star r):VR r:=by
 refine⟨h.n3,fun i e=>?_,fun i=>zm (h.left i) (h.left (i+1)),fun j i h1 h2 h3=>?_⟩
 ·have:=h.left i;rw[e] at this;unfold mQ at this;rw[Int.mul_comm,Int.sub_self] at this;exact absurd this (by decide)
 ·obtain⟨δ,d1,d2,d3⟩:=h.dir;have mono:∀a b,a≤b→δ a≤δ b:=fun a b hab=>by
   induction b with
   | zero=>rw[Nat.le_zero.1 hab]; exact Nat.le_refl _
   | succ b ih =>
    rcases Nat.lt_or_ge a (b+1) with g|g
    ·have:=ih (by omega); have:=d1 b; omega
    ·rw[show a=b+1 by omega]; exact Nat.le_refl _
  have g1:=d1 j;have g2:=d1 i;have g3:δ (j+1) < δ i:=by have:=mono (j+1+1) i (by omega); have:=d1 (j+1); omega
  have g4:δ (i+1) < δ j+12:=by
   by_cases hj:j=0
   ·have:=mono (i+1) (r.length-1) (by omega)
    have h5:=d1 (r.length-1);rw[show r.length-1+1=0+r.length by omega,d2] at h5
    subst hj; omega
   ·have:=mono (i+1) (0+r.length) (by omega)
    rw[d2] at this;have h6:=mono 1 j (by omega)
    have h7:=(d1 0).1;rw[Nat.zero_add] at h7;omega
  have ck:=FX (δ j%12) (Nat.mod_lt _ (by decide)) (δ (j+1)-δ j) (by omega) (δ i-δ j) (by omega) (δ (i+1)-δ i) (by omega) (by omega) (by omega) (by omega) (by omega)
  unfold yp at ck;obtain⟨c,_,hc⟩:=List.any_eq_true.1 ck;simp only[Bool.and_eq_true,decide_eq_true_eq] at hc;obtain⟨⟨⟨c1,c2⟩,c3⟩,c4⟩:=hc;rw[yK] at c1;rw[qp,show δ j+(δ (j+1)-δ j)=δ (j+1) by omega] at c2
  rw[qp,show δ j+(δ i-δ j)=δ i by omega] at c3
  rw[Nat.add_assoc,qp,show δ j+(δ i-δ j+(δ (i+1)-δ i))=δ (i+1) by omega] at c4
  obtain⟨m1,p1,e1⟩:=d3 j;obtain⟨m2,p2,e2⟩:=d3 (j+1);obtain⟨m3,p3,e3⟩:=d3 i;obtain⟨m4,p4,e4⟩:=d3 (i+1);rw[e1,e2,e3,e4];exact oD (α:=c.1) (β:=c.2) (γ:=0) (by rw[mH]; exact Int.mul_pos c1 p1) (by rw[mH]; exact Int.mul_pos c2 p2) (by rw[mH]; exact Int.mul_neg_of_neg_of_pos c3 p3) (by rw[mH]; exact Int.mul_neg_of_neg_of_pos c4 p4)
theorem Ak {n:Nat} {f:Nat→Int} (h:∀i,i<n→0<f i) (hn:0<n):0<cV n f:=by
 induction n with
 | zero=>exact absurd hn (Nat.lt_irrefl 0)
 | succ n ih =>
  simp only[cV];have h1:=h n (Nat.lt_succ_self n);rcases Nat.eq_zero_or_pos n with e|e
  ·subst e; simp only[cV]; omega
  ·have:=ih (fun i hi=>h i (by omega)) e; omega
theorem Star.sA {r:List I2} (h:Star r):0<sA r:=Ak (fun i _=>h.left i) (by have:=h.n3; omega)
def Gd (D:List Nat) (i:Nat):Nat:=if i+1<D.length then D.getD (i+1) 0 else D.getD 0 0+12
def Gl (D:List Nat):Bool:=decide (2<D.length) && (List.range D.length).all fun i=>decide (D.getD i 0<Gd D i) && decide (Gd D i≤D.getD i 0+3)
def BI (b1 b2 b4 b5 b7 b8 b10 b11:Bool):List Nat:=(List.range 12).filter fun i=>[true,b1,b2,true,b4,b5,true,b7,b8,true,b10,b11].getD i false
theorem Bu:∀b1 b2 b4 b5 b7 b8 b10 b11:Bool,Gl (BI b1 b2 b4 b5 b7 b8 b10 b11)=true:=by decide +kernel
theorem B2 {p:Nat→Bool} (h0:p 0=true) (h3:p 3=true) (h6:p 6=true) (h9:p 9=true):(List.range 12).filter p=BI (p 1) (p 2) (p 4) (p 5) (p 7) (p 8) (p 10) (p 11):=by
 unfold BI;refine List.filter_congr fun i hi=>?_;have:=List.mem_range.1 hi
 match i,this with
 | 0,_=>exact h0
 | 1,_=>rfl
 | 2,_=>rfl
 | 3,_=>exact h3
 | 4,_=>rfl
 | 5,_=>rfl
 | 6,_=>exact h6
 | 7,_=>rfl
 | 8,_=>rfl
 | 9,_=>exact h9
 | 10,_=>rfl
 | 11,_=>rfl
theorem BC {p:Nat→Bool} (h0:p 0=true) (h3:p 3=true) (h6:p 6=true) (h9:p 9=true) {m:Nat→Int} (hm:∀i,0<m i):Star (((List.range 12).filter p).map fun i=>uZ (m i) (wy i)):=by
 rw[B2 h0 h3 h6 h9];have ck:=Bu (p 1) (p 2) (p 4) (p 5) (p 7) (p 8) (p 10) (p 11);generalize BI (p 1) (p 2) (p 4) (p 5) (p 7) (p 8) (p 10) (p 11)=D at *;unfold Gl at ck;simp only[Bool.and_eq_true,decide_eq_true_eq,List.all_eq_true,List.mem_range] at ck;obtain⟨hn,hc⟩:=ck;have hn0:0<D.length:=by omega
 refine⟨by rw[List.length_map]; exact hn,fun i=>D.getD (i%D.length) 0+12*(i/D.length),fun i=>?_,fun i=>?_,fun i=>?_⟩
 ·have hi:=Nat.mod_lt i hn0;have h:=hc _ hi;have hd:=Nat.div_add_mod i D.length;unfold Gd at h
  by_cases g:i%D.length+1<D.length
  ·have e1:(i+1)%D.length=i%D.length+1:=by
    rw[Nat.add_mod,Nat.mod_eq_of_lt (show 1<D.length by omega),Nat.mod_eq_of_lt g]
   have e2:(i+1)/D.length=i/D.length:=by
    have h5:=Nat.div_add_mod (i+1) D.length;rw[e1] at h5;have:D.length*((i+1)/D.length)=D.length*(i/D.length):=by omega
    exact Nat.eq_of_mul_eq_mul_left hn0 this
   rw[if_pos g] at h;simp only[e1,e2]; omega
  ·have hl:i%D.length+1=D.length:=by omega
   have e0:i+1=D.length*(i/D.length+1):=by rw[Nat.mul_add,Nat.mul_one]; omega
   have e1:(i+1)%D.length=0:=by rw[e0,Nat.mul_mod_right]
   have e2:(i+1)/D.length=i/D.length+1:=by rw[e0,Nat.mul_div_cancel_left _ hn0]
   rw[if_neg g] at h;simp only[e1,e2]; omega
 ·rw[List.length_map];simp only[Nat.add_mod_right,Nat.add_div_right _ hn0]; omega
 ·have hi:=Nat.mod_lt i hn0;refine⟨m (D.getD (i%D.length) 0),hm _,?_⟩;have hg:D.getD (i%D.length) 0=D[i%D.length]:=by rw[List.getD_eq_getElem?_getD,List.getElem?_eq_getElem hi]; rfl
  show nx (D.map fun i=>uZ (m i) (wy i)) i=uZ (m (D.getD (i%D.length) 0)) (wy (D.getD (i%D.length) 0+12*(i/D.length)))
  rw[hg];unfold nx;rw[List.length_map,List.getD_eq_getElem?_getD,List.getElem?_map,List.getElem?_eq_getElem hi]
  show uZ (m D[i%D.length]) (wy D[i%D.length])=uZ (m D[i%D.length]) (wy (D[i%D.length]+12*(i/D.length)))
  congr 1
  unfold wy;rw[Nat.add_mul_mod_self_left]
def mW:List I2→List (I2 × I2)
 | a::b::l=>(a,b)::mW (b::l)
 | _=>[]
def vO:List I2→Prop
 | a::b::l=>a≠b∧(∀c l',l=c::l'→¬(ti a b c=0∧di a b c<0))∧(∀e ∈ mW l,NM a b e.1 e.2)∧vO (b::l)
 | _=>True
theorem vp:∀(L:List I2) (i:Nat),i+1<L.length→(L.getD i (0,0),L.getD (i+1) (0,0)) ∈ mW L
 | [],_,h=>absurd h (by simp)
 | [_],_,h=>absurd h (by simp)
 | a::b::l,0,_=>by simp[mW]
 | a::b::l,i+1,h=>by
  have:=vp (b::l) i (by simpa using h)
  simp only[mW,List.mem_cons,List.getD_cons_succ] at *;exact .inr this
theorem vO.still:∀{L:List I2},vO L→∀i,i+1<L.length→L.getD i (0,0)≠L.getD (i+1) (0,0)
 | [],_,_,h=>absurd h (by simp)
 | [_],_,_,h=>absurd h (by simp)
 | _::_::_,ho,0,_=>ho.1
 | _::b::l,ho,i+1,h=>by simpa only[List.getD_cons_succ] using vO.still (L:=b::l) ho.2.2.2 i (by simpa using h)
theorem vO.pP:∀{L:List I2},vO L→∀i,i+2<L.length→¬(ti (L.getD i (0,0)) (L.getD (i+1) (0,0)) (L.getD (i+2) (0,0))=0∧di (L.getD i (0,0)) (L.getD (i+1) (0,0)) (L.getD (i+2) (0,0))<0)
 | [],_,_,h=>absurd h (by simp)
 | [_],_,_,h=>absurd h (by simp)
 | [_,_],_,_,h=>absurd h (by simp)
 | _::_::c::l,ho,0,_=>ho.2.1 c l rfl
 | _::b::c::l,ho,i+1,h=>by simpa only[List.getD_cons_succ] using vO.pP (L:=b::c::l) ho.2.2.2 i (by simpa using h)
theorem vO.meet:∀{L:List I2},vO L→∀j i,j+1<i→i+1<L.length→NM (L.getD j (0,0)) (L.getD (j+1) (0,0)) (L.getD i (0,0)) (L.getD (i+1) (0,0))
 | [],_,_,_,_,h=>absurd h (by simp)
 | [_],_,_,_,_,h=>absurd h (by simp)
 | _::_::l,ho,0,i+2,_,h=>by
  exact ho.2.2.1 _ (vp l i (by simp at h; omega))
 | _::b::l,ho,j+1,i+1,hj,h=>by simpa only[List.getD_cons_succ] using vO.meet (L:=b::l) ho.2.2.2 j i (by omega) (by simpa using h)
theorem EN {a b:I2} {l:List I2} {z:I2} (hab:a≠b) (hl:l≠[]) (hz:l.getLast? = some z) (s1:∀c l',l=c::l'→¬(ti a b c=0∧di a b c<0)) (s2:¬(ti z a b=0∧di z a b<0)) (hm:∀e ∈ mW l,NM a b e.1 e.2) (ho:vO (b::l++[a])):VR (a::b::l):=by
 have hlen:0<l.length:=List.length_pos_iff.2 hl;have hn:(a::b::l).length=l.length+2:=by simp
 have hC:∀i,i<l.length+2→nx (a::b::l) (i+1)=(b::l++[a]).getD i (0,0):=fun i hi=>by
  unfold nx;rw[hn];rcases Nat.lt_or_ge (i+1) (l.length+2) with g|g
  ·rw[Nat.mod_eq_of_lt g,List.getD_cons_succ,List.cons_append,←List.cons_append];rw[List.getD_eq_getElem?_getD,List.getD_eq_getElem?_getD,List.getElem?_append_left (by simp; omega)]
  ·have:i=l.length+1:=by omega
   subst this;rw[show l.length+1+1=l.length+2 by omega,Nat.mod_self,List.getD_eq_getElem?_getD,List.getD_eq_getElem?_getD,List.getElem?_append_right (by simp)]
   simp
 have hL:(b::l++[a]).length=l.length+2:=by simp
 have h0:nx (a::b::l) 0=a:=by unfold nx; simp
 have red:∀i,∃k,k<l.length+2∧∀t,nx (a::b::l) (i+t)=nx (a::b::l) (k+t):=fun i =>
  ⟨i%(l.length+2),Nat.mod_lt _ (by omega),fun t=>gZ _ (by rw[hn,Nat.mod_add_mod])⟩
 have hb:nx (a::b::l) 1=b:=by rw[hC 0 (by omega)]; rfl
 have hlast:nx (a::b::l) (l.length+1)=z:=by
  rw[hC l.length (by omega),List.getD_eq_getElem?_getD,List.getElem?_append_left (by simp)]
  have:(b::l)[l.length]? = l.getLast?:=by
   rw[List.getLast?_eq_getElem?,show l.length=(l.length-1)+1 by omega,List.getElem?_cons_succ]
   simp
  rw[this,hz]; rfl
 refine⟨by rw[hn]; omega,fun i=>?_,fun i=>?_,fun j i h1 h2 h3=>?_⟩
 ·obtain⟨k,hk,e⟩:=red i;rw[show nx (a::b::l) i=nx (a::b::l) (i+0) from rfl,e 0,e 1,Nat.add_zero]
  rcases Nat.eq_zero_or_pos k with g|g
  ·subst g; rw[h0,hb]; exact hab
  ·obtain⟨k,rfl⟩:∃k',k=k'+1:=⟨k-1,by omega⟩
   rw[hC k (by omega),hC (k+1) (by omega)]
   exact ho.still k (by rw[hL]; omega)
 ·obtain⟨k,hk,e⟩:=red i;rw[show nx (a::b::l) i=nx (a::b::l) (i+0) from rfl,e 0,e 1,e 2,Nat.add_zero]
  rcases Nat.eq_zero_or_pos k with g|g
  ·subst g;rw[h0,hb,show 0+2=1+1 from rfl,hC 1 (by omega)]
   match l,hl with
   | c::l',_=>exact s1 c l' rfl
  ·obtain⟨k,rfl⟩:∃k',k=k'+1:=⟨k-1,by omega⟩
   rw[hC k (by omega),hC (k+1) (by omega)]
   rcases Nat.lt_or_ge (k+2) (l.length+2) with g2|g2
   ·rw[show k+1+2=(k+2)+1 by omega,hC (k+2) g2]
    exact ho.pP k (by rw[hL]; omega)
   ·have:k=l.length:=by omega
    subst this;have e1:nx (a::b::l) (l.length+1+2)=b:=by
     refine(gZ _ ?_).trans hb;rw[hn,show l.length+1+2=1+(l.length+2) by omega,Nat.add_mod_right]
    rw[e1,←hC l.length (by omega),←hC (l.length+1) (by omega),hlast]
    have e2:nx (a::b::l) (l.length+1+1)=a:=by
     refine(gZ _ ?_).trans h0;rw[hn,show l.length+1+1=l.length+2 by omega,Nat.mod_self,Nat.zero_mod]
    rw[e2]; exact s2
 ·rw[hn] at h2 h3;obtain⟨i,rfl⟩:∃i',i=i'+1:=⟨i-1,by omega⟩
  rw[hC i (by omega),hC (i+1) (by omega)]
  rcases Nat.eq_zero_or_pos j with g|g
  ·subst g;rw[h0,hb];obtain⟨i,rfl⟩:∃i',i=i'+1:=⟨i-1,by omega⟩
   have hi:i+1<l.length:=by omega
   have e:∀k,k<l.length→(b::l++[a]).getD (k+1) (0,0)=l.getD k (0,0):=fun k hk=>by
    rw[List.cons_append,List.getD_cons_succ,List.getD_eq_getElem?_getD,List.getD_eq_getElem?_getD,List.getElem?_append_left hk]
   rw[e i (by omega),e (i+1) hi]
   exact hm _ (vp l i hi)
  ·obtain⟨j,rfl⟩:∃j',j=j'+1:=⟨j-1,by omega⟩
   rw[hC j (by omega),hC (j+1) (by omega)]
   exact ho.meet j i (by omega) (by rw[hL]; omega)
theorem vI (F:I2→I2→Int):∀L:List I2,((mW L).map fun e=>F e.1 e.2).sum=cV (L.length-1) fun i=>F (L.getD i (0,0)) (L.getD (i+1) (0,0))
 | []=>rfl
 | [_]=>rfl
 | a::b::l=>by
  simp only[mW,List.map_cons,List.sum_cons];rw[vI F (b::l)];have:(a::b::l).length-1=(b::l).length-1+1:=by simp
  rw[this,xu]
  rfl
theorem Ce (a b:I2) (l:List I2):sA (a::b::l)=mQ a b+((mW (b::l++[a])).map fun e=>mQ e.1 e.2).sum:=by
 have h:=vI mQ (a::(b::l++[a]));simp only[List.cons_append,mW,List.map_cons,List.sum_cons] at h;rw[List.cons_append,h];unfold sA;have hn:(a::b::l).length=l.length+2:=by simp
 rw[hn,show(a::b::(l++[a])).length-1=l.length+2 by simp]
 refine gF fun i hi=>?_;have hC:∀i,i<l.length+3→nx (a::b::l) i=(a::b::(l++[a])).getD i (0,0):=fun i hi=>by
  unfold nx;rw[hn];rcases Nat.lt_or_ge i (l.length+2) with g|g
  ·rw[Nat.mod_eq_of_lt g,show a::b::(l++[a])=(a::b::l)++[a] by simp,List.getD_eq_getElem?_getD,List.getD_eq_getElem?_getD,List.getElem?_append_left (by simp; omega)]
  ·have:i=l.length+2:=by omega
   subst this;rw[Nat.mod_self,show a::b::(l++[a])=(a::b::l)++[a] by simp,List.getD_eq_getElem?_getD,List.getD_eq_getElem?_getD,List.getElem?_append_right (by simp)]
   simp
 rw[hC i (by omega),hC (i+1) (by omega)]
 rfl
def fa (h:Nat→Int):Nat→Int→List I2
 | 0,_=>[]
 | k+1,p=>(if h k=p then[] else[(((k+1:Nat):Int),h k)])++((k:Int),h k)::fa h k (h k)
def down (h:Nat→Int) (k:Nat) (p:Int):List I2:=fa h k p++[(0,0)]
theorem lp (h:Nat→Int) (p:Int):down h 0 p = [(0,0)]:=rfl
theorem lA {h:Nat→Int} {k:Nat} {p:Int} (e:h k=p):down h (k+1) p=((k:Int),h k)::down h k (h k):=by
 unfold down; simp only[fa]; rw[if_pos e]; rfl
theorem kT {h:Nat→Int} {k:Nat} {p:Int} (e:h k≠p):down h (k+1) p=(((k+1:Nat):Int),h k)::((k:Int),h k)::down h k (h k):=by
 unfold down; simp only[fa]; rw[if_neg e]; rfl
section
variable {h : Nat → Int} (hp : ∀ i, 1 ≤ h i)
include hp
theorem kq:∀(k:Nat) (p:Int),∀x ∈ fa h k p,0≤x.1∧x.1≤k∧1≤x.2
 | 0,_,_,hx=>absurd hx (by simp[fa])
 | k+1,p,x,hx=>by
  simp only[fa,List.mem_append,List.mem_cons] at hx;rcases hx with hx|hx|hx
  ·split at hx
   ·simp at hx
   ·rw[List.mem_singleton] at hx; subst hx;have:=hp k;exact⟨by dsimp only; omega,by dsimp only; omega,this⟩
  ·subst hx;have:=hp k;exact⟨by dsimp only; omega,by dsimp only; omega,this⟩
  ·have:=kq k (h k) x hx;omega
theorem p9 (k:Nat) (p:Int):∀x ∈ down h k p,0≤x.1∧x.1≤k∧0≤x.2:=fun x hx=>by
 unfold down at hx;rcases List.mem_append.1 hx with hx|hx
 ·have:=kq hp k p x hx; omega
 ·rw[List.mem_singleton] at hx; subst hx; exact⟨by decide,by dsimp only; omega,by decide⟩
omit hp in
theorem qD {L:List I2}:∀{e:I2 × I2},e ∈ mW L→e.1 ∈ L∧e.2 ∈ L:=by
 induction L with
 | nil=>intro e he; simp[mW] at he
 | cons a L ih =>
  intro e he
  match L with
  | []=>simp[mW] at he
  | b::l =>
   simp only[mW,List.mem_cons] at he;rcases he with rfl|he
   ·simp
   ·have:=ih (by simpa only[mW] using he)
    exact⟨List.mem_cons_of_mem _ this.1,List.mem_cons_of_mem _ this.2⟩
omit hp in
theorem rX {a b c d:I2} {k:Int} (ha:k<a.1) (hb:k<b.1) (hc:c.1≤k) (hd:d.1≤k):NM a b c d :=
 oD (α:=2) (β:=0) (γ:=-(2*k+1)) (by unfold dX; omega) (by unfold dX; omega) (by unfold dX; omega) (by unfold dX; omega)
omit hp in
theorem zp {a b c d:I2} {y z:Int} (ha:a.2=y) (hb:b.2=y) (hc:c.2=z) (hd:d.2=z) (hyz:y≠z):NM a b c d:=by
 rcases Int.lt_or_gt_of_ne hyz with g|g
 ·exact oD (α:=0) (β:=-2) (γ:=y+z) (by unfold dX; omega) (by unfold dX; omega) (by unfold dX; omega) (by unfold dX; omega)
 ·exact oD (α:=0) (β:=2) (γ:=-(y+z)) (by unfold dX; omega) (by unfold dX; omega) (by unfold dX; omega) (by unfold dX; omega)
theorem Bs (k:Nat):∀e ∈ mW (down h k (h k)),NM (((k+1:Nat):Int),h k) ((k:Int),h k) e.1 e.2:=fun e he=>by
 match k with
 | 0=>rw[lp] at he; simp[mW] at he
 | k+1 =>
  have inner:∀e ∈ mW (((k:Int),h k)::down h k (h k)),NM (((k+1+1:Nat):Int),h (k+1)) (((k+1:Nat):Int),h (k+1)) e.1 e.2:=fun e he=>by
   obtain⟨m1,m2⟩:=qD he;have q:∀x ∈ ((k:Int),h k)::down h k (h k),x.1≤(k:Int):=fun x hx=>by
    rcases List.mem_cons.1 hx with rfl|hx
    ·exact Int.le_refl _
    ·exact(p9 hp k _ x hx).2.1
   exact rX (k:=(k:Int)) (by dsimp only; omega) (by dsimp only; omega) (q _ m1) (q _ m2)
  by_cases g:h k=h (k+1)
  ·rw[lA g] at he; exact inner e he
  ·rw[kT g] at he;simp only[mW,List.mem_cons] at he;rcases he with rfl|he
   ·exact zp rfl rfl rfl rfl (Ne.symm g)
   ·exact inner e he
theorem zd (k:Nat) (ho:vO (((k:Int),h k)::down h k (h k))):vO ((((k+1:Nat):Int),h k)::((k:Int),h k)::down h k (h k)):=by
 refine⟨fun e=>by have:=congrArg Prod.fst e; dsimp only at this; omega,fun c l' e=>?_,Bs hp k,ho⟩
 rintro⟨g1,g2⟩;have hc:=p9 hp k (h k) c (by rw[e]; exact List.mem_cons_self)
 unfold di at g2
 dsimp only at g2
 rw[Int.sub_self,Int.zero_mul,Int.add_zero,show(k:Int)-((k+1:Nat):Int) = -1 by omega] at g2
 omega
theorem sN:∀(k:Nat) (p:Int),(k=0→p≠0)→vO (((k:Int),p)::down h k p)
 | 0,p,h0=>by
  rw[lp];exact⟨fun e=>h0 rfl (congrArg Prod.snd e),fun c l' e=>by simp at e,fun e he=>by simp[mW] at he,trivial⟩
 | k+1,p,_=>by
  have ih:=sN k (h k) (fun _=>by have:=hp k; omega)
  have fl:=zd hp k ih
  by_cases g:h k=p
  ·rw[lA g,←g]; exact fl
  ·rw[kT g];refine⟨fun e=>g (congrArg Prod.snd e).symm,fun c l' e=>?_,fun e he=>?_,fl⟩
   ·have:c=((k:Int),h k):=(List.cons.inj e).1.symm;subst this;rintro⟨g1,_⟩;unfold ti at g1
    dsimp only at g1
    rw[Int.sub_self,Int.zero_mul,Int.zero_sub,show(k:Int)-((k+1:Nat):Int) = -1 by omega,Int.mul_neg,Int.mul_one] at g1
    omega
   ·obtain⟨m1,m2⟩:=qD he;have q:∀x ∈ ((k:Int),h k)::down h k (h k),x.1≤(k:Int):=fun x hx=>by
     rcases List.mem_cons.1 hx with rfl|hx
     ·exact Int.le_refl _
     ·exact(p9 hp k _ x hx).2.1
    exact rX (k:=(k:Int)) (by dsimp only; omega) (by dsimp only; omega) (q _ m1) (q _ m2)
def uk (h:Nat→Int) (c:Nat):List I2:=(0,0)::((c:Int),0)::fa h c 0
omit hp in
theorem py:∀(k:Nat) (p:Int),0<k→(fa h k p).getLast? = some (0,h 0)
 | 0,_,hk=>absurd hk (Nat.lt_irrefl 0)
 | k+1,p,_=>by
  simp only[fa];rw[List.getLast?_append,List.getLast?_cons]
  match k with
  | 0=>simp[fa]
  | k+1=>rw[py (k+1) _ (Nat.succ_pos k)]; simp
theorem D3 {c:Nat} (hc:0<c):VR (uk h c):=by
 obtain⟨k,rfl⟩:∃k,c=k+1:=⟨c-1,by omega⟩
 have hk:=hp k;have h0:=hp 0;have first:fa h (k+1) 0=(((k+1:Nat):Int),h k)::((k:Int),h k)::fa h k (h k):=by
  simp only[fa]; rw[if_neg (by omega)]; rfl
 refine EN (z:=(0,h 0)) (fun e=>by have:=congrArg Prod.fst e; dsimp only at this; omega) (by rw[first]; simp) (py (k+1) 0 (Nat.succ_pos k)) (fun c l' e=>?_) ?_ (fun e he=>?_) (sN hp (k+1) 0 (fun e=>absurd e (by simp)))
 ·rw[first] at e
  have:c=(((k+1:Nat):Int),h k):=(List.cons.inj e).1.symm;subst this;rintro⟨g,_⟩;unfold ti at g
  dsimp only at g
  rw[Int.sub_zero,Int.sub_zero,Int.sub_self,Int.zero_mul,Int.sub_zero] at g;rcases Int.mul_eq_zero.1 g with e|e<;>omega
 ·rintro⟨g,_⟩;unfold ti at g
  dsimp only at g
  rw[Int.sub_self,Int.zero_mul,Int.zero_sub,Int.zero_sub,Int.sub_zero] at g;have:h 0*((k+1:Nat):Int)=0:=by rw[Int.neg_mul] at g; omega
  rcases Int.mul_eq_zero.1 this with e|e<;>omega
 ·obtain⟨m1,m2⟩:=qD he;have q1:=kq hp _ _ _ m1;have q2:=kq hp _ _ _ m2;exact oD (α:=0) (β:=-2) (γ:=1) (by unfold dX; omega) (by unfold dX; omega) (by unfold dX; omega) (by unfold dX; omega)
omit hp in
def qQ (h:Nat→Int):Nat→Int
 | 0=>0
 | k+1=>qQ h k+2*h k
omit hp in
theorem pv:∀(k:Nat) (p:Int),((mW (((k:Int),p)::down h k p)).map fun e=>mQ e.1 e.2).sum=qQ h k-k*p
 | 0,p=>by
  rw[lp];simp[mW,mQ,qQ]
 | k+1,p=>by
  have ih:=pv k (h k);have e1:mQ (((k+1:Nat):Int),h k) ((k:Int),h k)=h k:=by unfold mQ; dsimp only; rw[Int.mul_comm (h k),←Int.sub_mul,show((k+1:Nat):Int)-(k:Int)=1 by omega,Int.one_mul]
  by_cases g:h k=p
  ·rw[lA g,←g];simp only[mW,List.map_cons,List.sum_cons];rw[ih,e1];simp only[qQ];rw[show((k+1:Nat):Int)=(k:Int)+1 by omega,Int.add_mul]
   omega
  ·rw[kT g];simp only[mW,List.map_cons,List.sum_cons];rw[ih,e1];have e2:mQ (((k+1:Nat):Int),p) (((k+1:Nat):Int),h k)=(k:Int)*h k+h k-(k:Int)*p-p:=by
    unfold mQ; dsimp only; rw[show((k+1:Nat):Int)=(k:Int)+1 by omega]; grind
   rw[e2];simp only[qQ];rw[show((k+1:Nat):Int)=(k:Int)+1 by omega,Int.add_mul]
   omega
theorem BE {c:Nat} (hc:0<c):0<sA (uk h c):=by
 have e:sA (uk h c)=qQ h c:=by
  unfold uk;rw[Ce];have:=pv (h:=h) c 0;unfold down at this;rw[List.cons_append,this];unfold mQ; dsimp only; omega
 rw[e];have:∀k,0≤qQ h k:=fun k=>by
  induction k with
  | zero=>exact Int.le_refl 0
  | succ k ih=>simp only[qQ]; have:=hp k; omega
 obtain⟨k,rfl⟩:∃k,c=k+1:=⟨c-1,by omega⟩
 have h1:=this k;have h2:=hp k;simp only[qQ]; omega
end
end Jd
end
