/- A part of the proof. -/
import Derived.Test.YthmekkhpddehjaaGreatRp5
section
namespace Go.Proofs.YthmekkhpddehjaaGreat
open Go Go.Ab Go.Ab.W
set_option maxRecDepth 10000
set_option maxHeartbeats 4000000
attribute [local irreducible] Tm.at Trie.set Trie.get AMem.get AMem.set AMem.alloc AMem.ww AMem.kill
theorem FO (n:Nat) (l0:List (Int × Int)) (a0:Option Addr) (c0:Nat) (r:Int × Int) (hF:Iw n l0=some r) (m:AMem) (h36:Rd m a0 c0 2 l0.length (l0.map (eP (eI .i64) (eI .i64)))) :
  aR bq 41 [.slice a0 l0.length c0] m (fun v m'=>∃_:Unit,v = .tuple #[.int .i64 r.1,.int .i64 r.2]∧Hp m m' []):=by
 unfold Iw at hF;refine aP (m0:=m) (ps:=[.rd a0 c0 2 l0.length (l0.map (eP (eI .i64) (eI .i64)))]) (N:=116) (rs:=[.cell 2 3,.cell 3 3]) rfl Tryz.func41 rfl rfl rfl ((Hp.start m).vJ rfl h36)<|Wk.seq<|Wk.region<|Wo.x (cQ rfl) gn rfl fun b4=>?_;refine Wo.x (dG z3 rfl) gn rfl fun b1=>?_;refine Wo.x (dG z3 rfl) gn rfl fun b2=>?_;refine Wo.nil<|At.tn<|Wk.seq<|Wk.region<|Wo.od (ai (k:=2) dP rfl rfl rfl) rfl<|Wo.od (fj (k:=3) oq rfl rfl (.inl rfl)) rfl<|Wo.x (dG z3 rfl) gn rfl fun b3=>?_;refine Wo.o0 (bI (k:=0) aW rfl rfl rfl rfl rfl)<|Wo.nil<|At.tn<|Wk.seq<|Wk.seq ?_;obtain⟨v4,h37,hF⟩:=J hF;refine Wk.cut (G:=(fun(r:Bool) (g:Unit)=>match r,g with|v4,_=>⟨.normal,[(1,ptr b4 0),(2,ptr b1 0),(3,ptr b2 0),(4,ptr b3 0),(18,.bool v4)],[.obj b4 (.cells [.slice a0 l0.length c0] .own),.rd a0 c0 2 l0.length (l0.map (eP (eI .i64) (eI .i64))),.obj b1 (.cells [.int .i64 0] .own),.obj b2 (.cells [.int .i64 0] .own),.obj b3 (.cells [.int .i64 (l0.length:Int)] .own)]⟩) v4) ?_ ?_
 ·clear hF;revert v4;intro r hF;refine Wk.region<|Wo.od (ai (k:=0) aW rfl rfl rfl) rfl<|Wo.od (aj rfl rfl (bh _ _ _)) rfl<|Wo.od (ae rfl) rfl ?_;rcases ah hF with⟨h2,hF⟩|⟨h2,hF⟩
  ·refine Wo.s (gg rfl rfl (fW h2)) rfl<|Wo.s (gg rfl rfl (fW h2)) rfl<|Wo.od (dw rfl h2 rfl) rfl<|Wo.nil ?_;cases hF;exact At.en () rfl (sc rfl (sc rfl (sc rfl (sc rfl (sc rfl sn))))) (aa.U [3,4,2,1,0] rfl rfl)
  ·refine Wo.og (ai (k:=0) aW rfl rfl rfl) (gg rfl rfl (fo h2)) rfl<|Wo.og (aj rfl rfl (bW _ _ _)) (gg rfl rfl (fo h2)) rfl<|Wo.od (dj rfl h2 rfl) rfl<|Wo.nil ?_;cases hF;exact At.en () rfl (sc rfl (sc rfl (sc rfl (sc rfl (sc rfl sn))))) (aa.U [3,4,2,1,0] rfl rfl)
 ·clear h37;rintro⟨⟩;refine At.tn ?_;rcases ah hF with⟨h7,hF⟩|⟨h7,hF⟩
  ·refine Wk.aB rfl h7<|Wk.seq<|Wk.region<|Wo.o0 (bI (k:=2) aW rfl rfl rfl rfl rfl)<|Wo.o0 (bI (k:=3) aW rfl rfl rfl rfl rfl)<|Wo.nil<|At.tn<|Wk.ret<|At.tr ?_;cases hF;exact At.ret (.cell (k:=2) aW rfl rfl rfl (.cell (k:=3) aW rfl rfl rfl .nil)) fun m' hm=>⟨(),rfl,(aa.U [] rfl rfl) m' hm⟩
  ·refine Wk.aA rfl h7<|Wk.skip<|At.tn<|Wk.seq<|Wk.seq<|Wk.region<|Wo.od (ai (k:=0) dP rfl rfl rfl) rfl ?_;obtain⟨v1,h38,hF⟩:=J hF;refine Wo.x (uP (α:=Unit) (V:=fun g=>(fun(r:Int) (g:Unit)=>match r,g with|v1,_=>(.int .i64 v1:Value)) v1 g) (N:=fun g=>(fun(r:Int) (g:Unit)=>match r,g with|v1,_=>([.obj b4 (.cells [.slice a0 l0.length c0] .own),.rd a0 c0 2 l0.length (l0.map (eP (eI .i64) (eI .i64))),.obj b1 (.cells [.int .i64 0] .own),.obj b2 (.cells [.int .i64 0] .own),.obj b3 (.cells [.int .i64 (l0.length:Int)] .own)]:List Pc)) v1 g) rfl rfl (fun m hm=>?_)) gn rfl ?_
   ·clear hF;revert v1;intro r hF;refine aP (N:=19) (rs:=[.tmp 4]) rfl Tryz.func76 rfl rfl rfl hm<|Wk.seq<|Wk.region<|Wo.od (ak rfl) rfl<|Wo.nil<|At.tn<|Wk.seq<|Wk.seq<|Wk.region<|Wo.od (ae rfl) rfl<|Wo.od (fj (k:=1) oq rfl rfl (.inl rfl)) rfl<|Wo.od (ae rfl) rfl<|Wo.nil<|At.tn<|Wk.block ?_;obtain⟨r16,h8,hF⟩:=J hF;refine Wk.cut (G:=(fun(r:(Int) ⊕ (Unit)) (g:Unit)=>match r,g with | .inl v5,_=>⟨.ret,[(4,.int .i64 v5)],[.obj b4 (.cells [.slice a0 l0.length c0] .own),.rd a0 c0 2 l0.length (l0.map (eP (eI .i64) (eI .i64))),.obj b1 (.cells [.int .i64 0] .own),.obj b2 (.cells [.int .i64 0] .own),.obj b3 (.cells [.int .i64 (l0.length:Int)] .own)]⟩ | .inr _,_=>⟨(.exit 0),[],[.obj b4 (.cells [.slice a0 l0.length c0] .own),.rd a0 c0 2 l0.length (l0.map (eP (eI .i64) (eI .i64))),.obj b1 (.cells [.int .i64 0] .own),.obj b2 (.cells [.int .i64 0] .own),.obj b3 (.cells [.int .i64 (l0.length:Int)] .own)]⟩) r16) ?_ ?_
    ·refine Wk.fu (fs':=[(0,.slice a0 l0.length c0),(1,.func (.func 48) #[] #[]),(7,.int .i64 (l0.length:Int)),(8,.int .i64 0)]) (ps':=[.rd a0 c0 2 l0.length (l0.map (eP (eI .i64) (eI .i64))),.obj b4 (.cells [.slice a0 l0.length c0] .own),.obj b1 (.cells [.int .i64 0] .own),.obj b2 (.cells [.int .i64 0] .own),.obj b3 (.cells [.int .i64 (l0.length:Int)] .own)]) (sc rfl (sc rfl (sc rfl (sc rfl sn)))) (aa.U [1,0,2,3,4] rfl rfl) ?_;refine Wk.loop (σ:=Int) (ρ:=(Int) ⊕ (Unit)) (γ:=Unit) (δ:=fun _=>Unit) _ (fun(s:Int) (g:Unit)=>match s,g with|v12,_=>⟨.normal,[(0,.slice a0 l0.length c0),(1,.func (.func 48) #[] #[]),(7,.int .i64 (l0.length:Int)),(8,.int .i64 v12)],[.rd a0 c0 2 l0.length (l0.map (eP (eI .i64) (eI .i64))),.obj b4 (.cells [.slice a0 l0.length c0] .own),.obj b1 (.cells [.int .i64 0] .own),.obj b2 (.cells [.int .i64 0] .own),.obj b3 (.cells [.int .i64 (l0.length:Int)] .own)]⟩) (fun(r:(Int) ⊕ (Unit)) (g:Unit)=>match r,g with | .inl v5,_=>⟨.ret,[(4,.int .i64 v5)],[.obj b4 (.cells [.slice a0 l0.length c0] .own),.rd a0 c0 2 l0.length (l0.map (eP (eI .i64) (eI .i64))),.obj b1 (.cells [.int .i64 0] .own),.obj b2 (.cells [.int .i64 0] .own),.obj b3 (.cells [.int .i64 (l0.length:Int)] .own)]⟩ | .inr _,_=>⟨(.exit 0),[],[.obj b4 (.cells [.slice a0 l0.length c0] .own),.rd a0 c0 2 l0.length (l0.map (eP (eI .i64) (eI .i64))),.obj b1 (.cells [.int .i64 0] .own),.obj b2 (.cells [.int .i64 0] .own),.obj b3 (.cells [.int .i64 (l0.length:Int)] .own)]⟩) ?_ (fun _ _=>rfl) (fun r d=>by rcases r with _|_<;>(intro e; cases e)) _ _ _ h8 ()
     clear hF h8;rintro v12 ⟨⟩ r hF;unfold vp at hF;refine Wk.seq<|Wk.region<|Wo.od (aj rfl rfl (bh _ _ _)) rfl<|Wo.nil<|At.tn<|Wk.seq ?_;rcases ah hF with⟨h9,hF⟩|⟨h9,hF⟩
     ·refine Wk.aB rfl h9<|Wk.skip<|At.tn<|Wk.seq<|Wk.block<|Wk.seq<|Wk.region<|Wo.od (ae rfl) rfl<|Wo.od (ak rfl) rfl<|Wo.nil<|At.tn<|Wk.seq<|Wk.region<|Wo.od (ae rfl) rfl<|Wo.od (ae rfl) rfl<|Wo.od (ae rfl) rfl ?_;obtain⟨h3,hF⟩:=ay hF;replace h3:=aG h3;refine Wo.fF (k:=0) rfl (dq h3) ?_;rintro b24 o4 rfl;refine Wo.og (cq fT rfl rfl h3) gn rfl ?_;obtain⟨⟨x20,x21⟩,h39,hF⟩:=J hF;refine Wo.od (cx (k:=0) ax rfl rfl (bp h39) rfl rfl) rfl ?_;obtain⟨r21,h40,hF⟩:=J hF;refine Wo.x (cL rfl rfl (fun m hm=>B5 n x20 x21  _ h40 m) fun _=>rfl) gn rfl ?_;rintro⟨⟩;refine Wo.nil<|At.tn ?_;rcases ah hF with⟨h10,hF⟩|⟨h10,hF⟩
      ·refine Wk.aB rfl h10<|Wk.seq<|Wk.region<|Wo.od (ae rfl) rfl<|Wo.od (ak rfl) rfl<|Wo.nil<|At.tn<|Wk.ret<|At.br<|At.tr ?_;cases hF;exact At.en () rfl (sc rfl sn) (aa.U [2,1,3,4,5] rfl rfl)
      ·refine Wk.aA rfl h10<|Wk.skip<|At.bn<|At.tn<|Wk.region<|Wo.od (aj rfl rfl (az _ _ _)) rfl<|Wo.od (ae rfl) rfl<|Wo.nil ?_;cases hF;exact At.en () rfl (sc rfl (sc rfl (sc rfl (sc rfl sn)))) (aa.U [1,2,3,4,5] rfl rfl)
     ·refine Wk.aA rfl h9<|Wk.exit<|At.te ?_;cases hF;exact At.en () rfl sn (aa.U [1,0,2,3,4] rfl rfl)
    ·clear h8;rcases r16 with v5|_
     ·rintro⟨⟩;refine At.br<|At.tr ?_;have hr:=Option.some.inj hF;subst r;exact At.ret (.tmp rfl .nil) fun m' hm=>⟨(),rfl,(aa.U [0,1,2,3,4] rfl rfl) m' hm⟩
     ·rintro⟨⟩;refine At.be<|At.tn<|Wk.seq<|Wk.region<|Wo.od (ak rfl) rfl<|Wo.nil<|At.tn<|Wk.ret ?_;cases hF;exact At.ret (.tmp rfl .nil) fun m' hm=>⟨(),rfl,(aa.U [0,1,2,3,4] rfl rfl) m' hm⟩
   ·clear h38;rintro⟨⟩;refine Wo.od (ak rfl) rfl<|Wo.nil<|At.tn<|Wk.seq<|Wk.region<|Wo.od (ae rfl) rfl<|Wo.od (aj rfl rfl (iH _ _ _)) rfl<|Wo.nil<|At.tn ?_;rcases ah hF with⟨h11,hF⟩|⟨h11,hF⟩
    ·refine Wk.aB rfl h11<|Wk.seq<|Wk.region<|Wo.od (ae rfl) rfl<|Wo.o0 (bI (k:=2) aW rfl rfl rfl rfl rfl)<|Wo.o0 (bI (k:=3) aW rfl rfl rfl rfl rfl)<|Wo.nil<|At.tn<|Wk.ret<|At.tr ?_;cases hF;exact At.ret (.cell (k:=2) aW rfl rfl rfl (.cell (k:=3) aW rfl rfl rfl .nil)) fun m' hm=>⟨(),rfl,(aa.U [] rfl rfl) m' hm⟩
    ·refine Wk.aA rfl h11<|Wk.skip<|At.tn<|Wk.seq<|Wk.seq<|Wk.region<|Wo.od (ai (k:=0) dP rfl rfl rfl) rfl ?_;obtain⟨r12,h41,hF⟩:=J hF;refine Wo.x (uP (α:=Nat) (V:=fun g=>(fun(r:Unit) (g:Nat)=>match r,g with|_,b12=>(.func (.func 86) #[] #[ptr b12 0]:Value)) r12 g) (N:=fun g=>(fun(r:Unit) (g:Nat)=>match r,g with|_,b12=>([.obj b12 (.cells [.slice a0 l0.length c0] .own),.rd a0 c0 2 l0.length (l0.map (eP (eI .i64) (eI .i64))),.obj b4 (.cells [.slice a0 l0.length c0] .own),.obj b1 (.cells [.int .i64 0] .own),.obj b2 (.cells [.int .i64 0] .own),.obj b3 (.cells [.int .i64 (l0.length:Int)] .own)]:List Pc)) r12 g) rfl rfl (fun m hm=>?_)) gn rfl ?_
     ·clear hF;revert r12;intro r hF;refine aP (N:=4) (rs:=[.tmp 2]) rfl Tryz.func63 rfl rfl rfl hm<|Wk.seq<|Wk.region<|Wo.x (cQ rfl) gn rfl fun b16=>?_;refine Wo.od (ak rfl) rfl<|Wo.nil<|At.tn<|Wk.seq<|Wk.region<|Wo.od (As rfl rfl) rfl<|Wo.od (ak rfl) rfl<|Wo.nil<|At.tn<|Wk.ret ?_;cases hF;exact At.ret (.tmp rfl .nil) fun m' hm=>⟨b16,rfl,(aa.U [0,2,1,3,4,5] rfl rfl) m' hm⟩
     ·clear h41;rintro b12;refine Wo.nil<|At.tn<|Wk.block ?_;obtain⟨r4,h42,hF⟩:=J hF;refine Wk.range (N:=27) (rs:=[]) (γ:=Unit) (X:=fun g=>(fun(r:(Int) ⊕ (Unit)) (g:Unit)=>(match r,g with | .inl v13,_=>⟨.done,(some .ret),[.obj b4 (.cells [.slice a0 l0.length c0] .own),.rd a0 c0 2 l0.length (l0.map (eP (eI .i64) (eI .i64))),.obj b1 (.cells [.int .i64 3] .own),.obj b2 (.cells [.int .i64 v13] .own),.obj b3 (.cells [.int .i64 (l0.length:Int)] .own)]⟩ | .inr _,_=>⟨.ready,none,[.obj b4 (.cells [.slice a0 l0.length c0] .own),.rd a0 c0 2 l0.length (l0.map (eP (eI .i64) (eI .i64))),.obj b1 (.cells [.int .i64 0] .own),.obj b2 (.cells [.int .i64 0] .own),.obj b3 (.cells [.int .i64 (l0.length:Int)] .own)]⟩:Rn)) r4 g) rfl rfl Tryz.func86 rfl rfl rfl ?_ (fun y=>by rcases r4 with _|_<;>(intro e; cases e)) ?_
      ·clear hF;revert r4;intro r hF;intro t0 l4 r3 h43 h44;refine Wk.seq<|Wk.region<|Wo.od (ai (k:=1) dP rfl rfl rfl) rfl<|Wo.od (fj (k:=2) oq rfl rfl (.inl rfl)) rfl<|Wo.od (ae rfl) rfl<|Wo.nil<|At.tn<|Wk.block ?_;obtain⟨r17,h12,hF⟩:=J hF;refine Wk.cut (G:=(fun(r:(Int) ⊕ (Unit)) (g:Unit)=>match r,g with | .inl v6,_=>⟨.ret,[],[.obj l4 (r3 .done (some .ret)),.obj b4 (.cells [.slice a0 l0.length c0] .own),.rd a0 c0 2 l0.length (l0.map (eP (eI .i64) (eI .i64))),.obj b1 (.cells [.int .i64 3] .own),.obj b2 (.cells [.int .i64 v6] .own),.obj b3 (.cells [.int .i64 (l0.length:Int)] .own)]⟩ | .inr _,_=>⟨(.exit 0),[],[.obj l4 (r3 .ready none),.obj b4 (.cells [.slice a0 l0.length c0] .own),.rd a0 c0 2 l0.length (l0.map (eP (eI .i64) (eI .i64))),.obj b1 (.cells [.int .i64 0] .own),.obj b2 (.cells [.int .i64 0] .own),.obj b3 (.cells [.int .i64 (l0.length:Int)] .own)]⟩) r17) ?_ ?_
       ·refine Wk.fu (fs':=[(0,.func (.yield l4) #[] #[]),(1,ptr b12 0),(5,.slice a0 l0.length c0),(6,.int .i64 (l0.length:Int)),(7,.int .i64 0)]) (ps':=[.obj l4 (r3 .ready none),.obj b12 (.cells [.slice a0 l0.length c0] .own),.rd a0 c0 2 l0.length (l0.map (eP (eI .i64) (eI .i64))),.obj b4 (.cells [.slice a0 l0.length c0] .own),.obj b1 (.cells [.int .i64 0] .own),.obj b2 (.cells [.int .i64 0] .own),.obj b3 (.cells [.int .i64 (l0.length:Int)] .own)]) (sc rfl (sc rfl (sc rfl (sc rfl (sc rfl sn))))) (aa.U [0,1,2,3,4,5,6] rfl rfl) ?_;refine Wk.loop (σ:=Int) (ρ:=(Int) ⊕ (Unit)) (γ:=Unit) (δ:=fun _=>Unit) _ (fun(s:Int) (g:Unit)=>match s,g with|v7,_=>⟨.normal,[(0,.func (.yield l4) #[] #[]),(1,ptr b12 0),(5,.slice a0 l0.length c0),(6,.int .i64 (l0.length:Int)),(7,.int .i64 v7)],[.obj l4 (r3 .ready none),.obj b12 (.cells [.slice a0 l0.length c0] .own),.rd a0 c0 2 l0.length (l0.map (eP (eI .i64) (eI .i64))),.obj b4 (.cells [.slice a0 l0.length c0] .own),.obj b1 (.cells [.int .i64 0] .own),.obj b2 (.cells [.int .i64 0] .own),.obj b3 (.cells [.int .i64 (l0.length:Int)] .own)]⟩) (fun(r:(Int) ⊕ (Unit)) (g:Unit)=>match r,g with | .inl v6,_=>⟨.ret,[],[.obj l4 (r3 .done (some .ret)),.obj b4 (.cells [.slice a0 l0.length c0] .own),.rd a0 c0 2 l0.length (l0.map (eP (eI .i64) (eI .i64))),.obj b1 (.cells [.int .i64 3] .own),.obj b2 (.cells [.int .i64 v6] .own),.obj b3 (.cells [.int .i64 (l0.length:Int)] .own)]⟩ | .inr _,_=>⟨(.exit 0),[],[.obj l4 (r3 .ready none),.obj b4 (.cells [.slice a0 l0.length c0] .own),.rd a0 c0 2 l0.length (l0.map (eP (eI .i64) (eI .i64))),.obj b1 (.cells [.int .i64 0] .own),.obj b2 (.cells [.int .i64 0] .own),.obj b3 (.cells [.int .i64 (l0.length:Int)] .own)]⟩) ?_ (fun _ _=>rfl) (fun r d=>by rcases r with _|_<;>(intro e; cases e)) _ _ _ h12 ()
        clear hF h12;rintro v7 ⟨⟩ r hF;unfold va at hF;refine Wk.seq<|Wk.region<|Wo.od (aj rfl rfl (bh _ _ _)) rfl<|Wo.nil<|At.tn<|Wk.seq ?_;rcases ah hF with⟨h13,hF⟩|⟨h13,hF⟩
        ·refine Wk.aB rfl h13<|Wk.skip<|At.tn<|Wk.seq<|Wk.block<|Wk.seq<|Wk.region<|Wo.od (ae rfl) rfl ?_;obtain⟨h4,hF⟩:=ay hF;replace h4:=aG h4;refine Wo.fF (k:=2) rfl (dq h4) ?_;rintro b10 o3 rfl;refine Wo.og (cq fT rfl rfl h4) gn rfl ?_;obtain⟨⟨x22,x23⟩,h45,hF⟩:=J hF;refine Wo.od (cx (k:=0) ax rfl rfl (bp h45) rfl rfl) rfl<|Wo.x (dG z33 rfl) gn rfl fun b25=>?_;refine Wo.od (ak rfl) rfl<|Wo.o0 (bI (k:=0) ax rfl rfl rfl rfl rfl)<|Wo.nil<|At.tn<|Wk.seq<|Wk.draw (by kernel_rfl)<|Wo.od (ae rfl) rfl<|Wo.od (ae rfl) rfl<|Wo.od (ai (k:=0) ax rfl rfl rfl) rfl<|Wo.od (ai (k:=3) dP rfl rfl rfl) rfl<|Wo.od (ae rfl) rfl<|Wo.od (aj rfl rfl (az _ _ _)) rfl<|Wo.od (ai (k:=3) dP rfl rfl rfl) rfl ?_
         refine Wo.od (fj (k:=1) oq rfl rfl (.inl rfl)) rfl ?_;obtain⟨h46,hF⟩:=ay hF;refine Wo.od (aj rfl rfl (dm _ _ h46)) rfl ?_;obtain⟨h14,hF⟩:=ay hF;replace h14:=aG h14;refine Wo.og (cq fT rfl rfl h14) gn rfl ?_;obtain⟨⟨x24,x25⟩,h47,hF⟩:=J hF;refine Wo.od (cx (k:=1) ax rfl rfl (bp h47) rfl rfl) rfl<|Wo.od (eE rfl AE rfl (eH z1 rfl rfl rfl)) rfl ?_;obtain⟨r5,h31,hF⟩:=J hF;refine Wo.x (Ax (k:=2) (k1:=0) (γA:=Nat) (GA:=(fun g:Nat=>(match g with|b14=>⟨.normal,[(2,ptr b1 0),(3,ptr b2 0),(6,ptr b14 0)],[.obj l4 (r3 .ready none),.obj b1 (.cells [.int .i64 0] .own),.obj b2 (.cells [.int .i64 0] .own),.obj b14 (.cells [.int .i64 v7,.int .i64 x22,.int .i64 x23,.int .i64 x24,.int .i64 x25] .own),.obj b4 (.cells [.slice (some ⟨b10,o3,none⟩) l0.length c0] .own),.ro b10 o3 2 l0.length (l0.map (eP (eI .i64) (eI .i64))),.rd (some ⟨b10,o3,none⟩) c0 2 l0.length (l0.map (eP (eI .i64) (eI .i64))),.obj b3 (.cells [.int .i64 (l0.length:Int)] .own),.obj b12 (.cells [.slice (some ⟨b10,o3,none⟩) l0.length c0] .own)]⟩:En))) (γ:=Unit) (G:=fun g=>(fun(r:(Unit) ⊕ (Unit)) (g:Unit)=>(match r,g with | .inl _,_=>⟨.ret,[],[.obj l4 (r3 .busy none),.obj b4 (.cells [.slice (some ⟨b10,o3,none⟩) l0.length c0] .own),.ro b10 o3 2 l0.length (l0.map (eP (eI .i64) (eI .i64))),.rd (some ⟨b10,o3,none⟩) c0 2 l0.length (l0.map (eP (eI .i64) (eI .i64))),.obj b1 (.cells [.int .i64 3] .own),.obj b2 (.cells [.int .i64 v7] .own),.obj b3 (.cells [.int .i64 (l0.length:Int)] .own),.obj b12 (.cells [.slice (some ⟨b10,o3,none⟩) l0.length c0] .own)]⟩ | .inr _,_=>⟨.normal,[],[.obj l4 (r3 .busy none),.obj b4 (.cells [.slice (some ⟨b10,o3,none⟩) l0.length c0] .own),.ro b10 o3 2 l0.length (l0.map (eP (eI .i64) (eI .i64))),.rd (some ⟨b10,o3,none⟩) c0 2 l0.length (l0.map (eP (eI .i64) (eI .i64))),.obj b1 (.cells [.int .i64 0] .own),.obj b2 (.cells [.int .i64 0] .own),.obj b3 (.cells [.int .i64 (l0.length:Int)] .own),.obj b12 (.cells [.slice (some ⟨b10,o3,none⟩) l0.length c0] .own)]⟩:En)) r5 g) rfl rfl rfl h44 h43 rfl ?_ (fun _=>rfl) (fun _=>rfl) ?_ (fun y=>by rcases r5 with _|_<;>rfl)) gn rfl ?_
         ·clear hF h31;refine Wk.region<|Wo.x (dG AE rfl) gn rfl fun b17=>?_;refine Wo.o0 (bI (k:=0) o7 rfl rfl rfl rfl rfl)<|Wo.nil ?_;exact At.en b17 rfl (sc rfl (sc rfl (sc rfl sn))) (aa.U [3,7,8,0,6,2,5,9,4] rfl rfl)
         ·clear hF;revert r5;intro r hF;rintro b14;refine Wk.block<|Wk.seq<|Wk.region<|Wo.od (aw (r:=ptr b14 1) rfl (cN _ _)) rfl<|Wo.od (ai (k:=3) ax rfl rfl rfl) rfl<|Wo.od (aw (r:=ptr b14 3) rfl (c8 _ _)) rfl<|Wo.od (ai (k:=3) ax rfl rfl rfl) rfl<|Wo.od (aj rfl rfl (EL GF (Gb _ _ _ _))) rfl<|Wo.nil<|At.tn ?_;rcases ah hF with⟨h15,hF⟩|⟨h15,hF⟩
          ·refine Wk.aB rfl h15<|Wk.seq<|Wk.gP (prs:=[(1,2)]) (by kernel_rfl)<|Wn.od (aw (r:=ptr b14 0) rfl (jD _ _)) rfl<|Wn.He rfl (ai (k:=3) aW rfl rfl rfl) rfl<|Wn.Hg rfl (bI (k:=1) aW rfl rfl rfl rfl rfl)<|Wn.o0 (bI (k:=2) aW rfl rfl rfl rfl rfl)<|Wn.nil (fun m hm=>(hI.rw rfl rfl rfl (hm.ne (i:=3) (j:=1) rfl rfl rfl rfl (by decide) rfl) hI.nil))<|At.tn<|Wk.ret<|At.br ?_
           cases hF;exact At.en () rfl sn (aa.U [0,4,5,6,1,2,7,8] rfl rfl)
          ·refine Wk.aA rfl h15<|Wk.skip<|At.bn ?_;cases hF;exact At.en () rfl sn (aa.U [0,4,5,6,1,2,7,8] rfl rfl)
         ·clear h31;rcases r5 with _|_
          ·rintro⟨⟩;refine Wo.od (ig rfl rfl) rfl<|Wo.nil<|At.tn<|Wk.aB rfl rfl<|Wk.ret<|At.br<|At.tr ?_;cases hF;exact At.en () rfl sn (aa.U [0,1,3,4,5,6] rfl rfl)
          ·rintro⟨⟩;refine Wo.od (ig rfl rfl) rfl<|Wo.nil<|At.tn<|Wk.aA rfl rfl<|Wk.skip<|At.bn<|At.tn<|Wk.region<|Wo.od (aj rfl rfl (az _ _ _)) rfl<|Wo.od (ae rfl) rfl<|Wo.nil ?_;cases hF;exact At.en () rfl (sc rfl (sc rfl (sc rfl (sc rfl (sc rfl sn))))) (aa.U [0,7,3,1,4,5,6] rfl rfl)
        ·refine Wk.aA rfl h13<|Wk.exit<|At.te ?_;cases hF;exact At.en () rfl sn (aa.U [0,3,2,4,5,6] rfl rfl)
       ·clear h12;rcases r17 with v6|_
        ·rintro⟨⟩;refine At.br ?_;cases hF;exact At.ret .nil fun m' hm=>⟨(),(aa.U [0,1,2,3,4,5] rfl rfl) m' hm⟩
        ·rintro⟨⟩;refine At.be ?_;cases hF;exact At.fin .nil fun m' hm=>⟨(),(aa.U [0,1,2,3,4,5] rfl rfl) m' hm⟩
      ·clear h42;rcases r4 with v13|_
       ·rintro⟨⟩
        change Wk _ _ _ _ .ret _ _ _ _
        refine Wk.ret<|At.br<|At.tr ?_;cases hF;exact At.ret (.cell (k:=2) aW rfl rfl rfl (.cell (k:=3) aW rfl rfl rfl .nil)) fun m' hm=>⟨(),rfl,(aa.U [] rfl rfl) m' hm⟩
       ·rintro⟨⟩
        change At _ .normal _ _ _
        refine At.bn<|At.tn<|Wk.seq<|Wk.seq<|Wk.region<|Wo.od (ai (k:=0) dP rfl rfl rfl) rfl ?_;obtain⟨r13,h48,hF⟩:=J hF;refine Wo.x (uP (α:=Nat) (V:=fun g=>(fun(r:Unit) (g:Nat)=>match r,g with|_,b11=>(.func (.func 86) #[] #[ptr b11 0]:Value)) r13 g) (N:=fun g=>(fun(r:Unit) (g:Nat)=>match r,g with|_,b11=>([.obj b11 (.cells [.slice a0 l0.length c0] .own),.rd a0 c0 2 l0.length (l0.map (eP (eI .i64) (eI .i64))),.obj b4 (.cells [.slice a0 l0.length c0] .own),.obj b1 (.cells [.int .i64 0] .own),.obj b2 (.cells [.int .i64 0] .own),.obj b3 (.cells [.int .i64 (l0.length:Int)] .own)]:List Pc)) r13 g) rfl rfl (fun m hm=>?_)) gn rfl ?_
        ·clear hF;revert r13;intro r hF;refine aP (N:=4) (rs:=[.tmp 2]) rfl Tryz.func63 rfl rfl rfl hm<|Wk.seq<|Wk.region<|Wo.x (cQ rfl) gn rfl fun b18=>?_;refine Wo.od (ak rfl) rfl<|Wo.nil<|At.tn<|Wk.seq<|Wk.region<|Wo.od (As rfl rfl) rfl<|Wo.od (ak rfl) rfl<|Wo.nil<|At.tn<|Wk.ret ?_;cases hF;exact At.ret (.tmp rfl .nil) fun m' hm=>⟨b18,rfl,(aa.U [0,2,1,3,4,5] rfl rfl) m' hm⟩
        ·clear h48;rintro b11;refine Wo.nil<|At.tn<|Wk.block ?_;obtain⟨r6,h49,hF⟩:=J hF;refine Wk.range (N:=27) (rs:=[]) (γ:=Unit) (X:=fun g=>(fun(r:(Int) ⊕ (Unit)) (g:Unit)=>(match r,g with | .inl v14,_=>⟨.done,(some .ret),[.obj b4 (.cells [.slice a0 l0.length c0] .own),.rd a0 c0 2 l0.length (l0.map (eP (eI .i64) (eI .i64))),.obj b1 (.cells [.int .i64 4] .own),.obj b2 (.cells [.int .i64 v14] .own),.obj b3 (.cells [.int .i64 (l0.length:Int)] .own)]⟩ | .inr _,_=>⟨.ready,none,[.obj b4 (.cells [.slice a0 l0.length c0] .own),.rd a0 c0 2 l0.length (l0.map (eP (eI .i64) (eI .i64))),.obj b1 (.cells [.int .i64 0] .own),.obj b2 (.cells [.int .i64 0] .own),.obj b3 (.cells [.int .i64 (l0.length:Int)] .own)]⟩:Rn)) r6 g) rfl rfl Tryz.func86 rfl rfl rfl ?_ (fun y=>by rcases r6 with _|_<;>(intro e; cases e)) ?_
         ·clear hF;revert r6;intro r hF;intro t1 l3 r2 h50 h51;refine Wk.seq<|Wk.region<|Wo.od (ai (k:=1) dP rfl rfl rfl) rfl<|Wo.od (fj (k:=2) oq rfl rfl (.inl rfl)) rfl<|Wo.od (ae rfl) rfl<|Wo.nil<|At.tn<|Wk.block ?_;obtain⟨r18,h16,hF⟩:=J hF;refine Wk.cut (G:=(fun(r:(Int) ⊕ (Unit)) (g:Unit)=>match r,g with | .inl v8,_=>⟨.ret,[],[.obj l3 (r2 .done (some .ret)),.obj b4 (.cells [.slice a0 l0.length c0] .own),.rd a0 c0 2 l0.length (l0.map (eP (eI .i64) (eI .i64))),.obj b1 (.cells [.int .i64 4] .own),.obj b2 (.cells [.int .i64 v8] .own),.obj b3 (.cells [.int .i64 (l0.length:Int)] .own)]⟩ | .inr _,_=>⟨(.exit 0),[],[.obj l3 (r2 .ready none),.obj b4 (.cells [.slice a0 l0.length c0] .own),.rd a0 c0 2 l0.length (l0.map (eP (eI .i64) (eI .i64))),.obj b1 (.cells [.int .i64 0] .own),.obj b2 (.cells [.int .i64 0] .own),.obj b3 (.cells [.int .i64 (l0.length:Int)] .own)]⟩) r18) ?_ ?_
          ·refine Wk.fu (fs':=[(0,.func (.yield l3) #[] #[]),(1,ptr b11 0),(5,.slice a0 l0.length c0),(6,.int .i64 (l0.length:Int)),(7,.int .i64 0)]) (ps':=[.obj l3 (r2 .ready none),.obj b11 (.cells [.slice a0 l0.length c0] .own),.rd a0 c0 2 l0.length (l0.map (eP (eI .i64) (eI .i64))),.obj b4 (.cells [.slice a0 l0.length c0] .own),.obj b1 (.cells [.int .i64 0] .own),.obj b2 (.cells [.int .i64 0] .own),.obj b3 (.cells [.int .i64 (l0.length:Int)] .own)]) (sc rfl (sc rfl (sc rfl (sc rfl (sc rfl sn))))) (aa.U [0,1,2,3,4,5,6] rfl rfl) ?_;refine Wk.loop (σ:=Int) (ρ:=(Int) ⊕ (Unit)) (γ:=Unit) (δ:=fun _=>Unit) _ (fun(s:Int) (g:Unit)=>match s,g with|v2,_=>⟨.normal,[(0,.func (.yield l3) #[] #[]),(1,ptr b11 0),(5,.slice a0 l0.length c0),(6,.int .i64 (l0.length:Int)),(7,.int .i64 v2)],[.obj l3 (r2 .ready none),.obj b11 (.cells [.slice a0 l0.length c0] .own),.rd a0 c0 2 l0.length (l0.map (eP (eI .i64) (eI .i64))),.obj b4 (.cells [.slice a0 l0.length c0] .own),.obj b1 (.cells [.int .i64 0] .own),.obj b2 (.cells [.int .i64 0] .own),.obj b3 (.cells [.int .i64 (l0.length:Int)] .own)]⟩) (fun(r:(Int) ⊕ (Unit)) (g:Unit)=>match r,g with | .inl v8,_=>⟨.ret,[],[.obj l3 (r2 .done (some .ret)),.obj b4 (.cells [.slice a0 l0.length c0] .own),.rd a0 c0 2 l0.length (l0.map (eP (eI .i64) (eI .i64))),.obj b1 (.cells [.int .i64 4] .own),.obj b2 (.cells [.int .i64 v8] .own),.obj b3 (.cells [.int .i64 (l0.length:Int)] .own)]⟩ | .inr _,_=>⟨(.exit 0),[],[.obj l3 (r2 .ready none),.obj b4 (.cells [.slice a0 l0.length c0] .own),.rd a0 c0 2 l0.length (l0.map (eP (eI .i64) (eI .i64))),.obj b1 (.cells [.int .i64 0] .own),.obj b2 (.cells [.int .i64 0] .own),.obj b3 (.cells [.int .i64 (l0.length:Int)] .own)]⟩) ?_ (fun _ _=>rfl) (fun r d=>by rcases r with _|_<;>(intro e; cases e)) _ _ _ h16 ()
           clear hF h16;rintro v2 ⟨⟩ r hF;unfold u7 at hF;refine Wk.seq<|Wk.region<|Wo.od (aj rfl rfl (bh _ _ _)) rfl<|Wo.nil<|At.tn<|Wk.seq ?_;rcases ah hF with⟨h17,hF⟩|⟨h17,hF⟩
           ·refine Wk.aB rfl h17<|Wk.skip<|At.tn<|Wk.seq<|Wk.block<|Wk.seq<|Wk.region<|Wo.od (ae rfl) rfl ?_;obtain⟨h5,hF⟩:=ay hF;replace h5:=aG h5;refine Wo.fF (k:=2) rfl (dq h5) ?_;rintro b8 o2 rfl;refine Wo.og (cq fT rfl rfl h5) gn rfl ?_;obtain⟨⟨x12,x13⟩,h52,hF⟩:=J hF;refine Wo.od (cx (k:=0) ax rfl rfl (bp h52) rfl rfl) rfl<|Wo.x (dG z33 rfl) gn rfl fun b26=>?_;refine Wo.od (ak rfl) rfl<|Wo.o0 (bI (k:=0) ax rfl rfl rfl rfl rfl)<|Wo.nil<|At.tn<|Wk.seq<|Wk.draw (by kernel_rfl)<|Wo.od (ae rfl) rfl<|Wo.od (ae rfl) rfl<|Wo.od (ai (k:=0) ax rfl rfl rfl) rfl<|Wo.od (ai (k:=3) dP rfl rfl rfl) rfl<|Wo.od (ae rfl) rfl<|Wo.od (aj rfl rfl (az _ _ _)) rfl<|Wo.od (ai (k:=3) dP rfl rfl rfl) rfl ?_
            refine Wo.od (fj (k:=1) oq rfl rfl (.inl rfl)) rfl ?_;obtain⟨h53,hF⟩:=ay hF;refine Wo.od (aj rfl rfl (dm _ _ h53)) rfl ?_;obtain⟨h18,hF⟩:=ay hF;replace h18:=aG h18;refine Wo.og (cq fT rfl rfl h18) gn rfl ?_;obtain⟨⟨x14,x15⟩,h54,hF⟩:=J hF;refine Wo.od (cx (k:=1) ax rfl rfl (bp h54) rfl rfl) rfl<|Wo.od (eE rfl AE rfl (eH z1 rfl rfl rfl)) rfl ?_;obtain⟨r7,h32,hF⟩:=J hF;refine Wo.x (Ax (k:=2) (k1:=0) (γA:=Nat) (GA:=(fun g:Nat=>(match g with|b7=>⟨.normal,[(1,ptr b4 0),(2,ptr b1 0),(3,ptr b2 0),(4,ptr b3 0),(7,ptr b7 0)],[.obj l3 (r2 .ready none),.obj b4 (.cells [.slice (some ⟨b8,o2,none⟩) l0.length c0] .own),.ro b8 o2 2 l0.length (l0.map (eP (eI .i64) (eI .i64))),.rd (some ⟨b8,o2,none⟩) c0 2 l0.length (l0.map (eP (eI .i64) (eI .i64))),.obj b1 (.cells [.int .i64 0] .own),.obj b2 (.cells [.int .i64 0] .own),.obj b3 (.cells [.int .i64 (l0.length:Int)] .own),.obj b7 (.cells [.int .i64 v2,.int .i64 x12,.int .i64 x13,.int .i64 x14,.int .i64 x15] .own),.obj b11 (.cells [.slice (some ⟨b8,o2,none⟩) l0.length c0] .own)]⟩:En))) (γ:=Unit) (G:=fun g=>(fun(r:(Unit) ⊕ (Unit)) (g:Unit)=>(match r,g with | .inl _,_=>⟨.ret,[],[.obj l3 (r2 .busy none),.obj b4 (.cells [.slice (some ⟨b8,o2,none⟩) l0.length c0] .own),.ro b8 o2 2 l0.length (l0.map (eP (eI .i64) (eI .i64))),.rd (some ⟨b8,o2,none⟩) c0 2 l0.length (l0.map (eP (eI .i64) (eI .i64))),.obj b1 (.cells [.int .i64 4] .own),.obj b2 (.cells [.int .i64 v2] .own),.obj b3 (.cells [.int .i64 (l0.length:Int)] .own),.obj b11 (.cells [.slice (some ⟨b8,o2,none⟩) l0.length c0] .own)]⟩ | .inr _,_=>⟨.normal,[],[.obj l3 (r2 .busy none),.obj b4 (.cells [.slice (some ⟨b8,o2,none⟩) l0.length c0] .own),.ro b8 o2 2 l0.length (l0.map (eP (eI .i64) (eI .i64))),.rd (some ⟨b8,o2,none⟩) c0 2 l0.length (l0.map (eP (eI .i64) (eI .i64))),.obj b1 (.cells [.int .i64 0] .own),.obj b2 (.cells [.int .i64 0] .own),.obj b3 (.cells [.int .i64 (l0.length:Int)] .own),.obj b11 (.cells [.slice (some ⟨b8,o2,none⟩) l0.length c0] .own)]⟩:En)) r7 g) rfl rfl rfl h51 h50 rfl ?_ (fun _=>rfl) (fun _=>rfl) ?_ (fun y=>by rcases r7 with _|_<;>rfl)) gn rfl ?_
            ·clear hF h32;refine Wk.region<|Wo.x (dG AE rfl) gn rfl fun b19=>?_;refine Wo.o0 (bI (k:=0) o7 rfl rfl rfl rfl rfl)<|Wo.nil ?_;exact At.en b19 rfl (sc rfl (sc rfl (sc rfl (sc rfl (sc rfl sn))))) (aa.U [3,6,2,5,7,8,9,0,4] rfl rfl)
            ·clear hF;revert r7;intro r hF;rintro b7;refine Wk.block<|Wk.seq<|Wk.draw (by kernel_rfl)<|Wo.od (ai (k:=1) dP rfl rfl rfl) rfl<|Wo.od (aw (r:=ptr b7 0) rfl (jD _ _)) rfl<|Wo.od (ai (k:=7) aW rfl rfl rfl) rfl<|Wo.od (ai (k:=6) aW rfl rfl rfl) rfl<|Wo.od (aj rfl rfl (az _ _ _)) rfl<|Wo.od (aj rfl rfl (aN _ _ _)) rfl<|Wo.od (ai (k:=6) aW rfl rfl rfl) rfl ?_
             obtain⟨h55,hF⟩:=ay hF;obtain⟨y3,h56,hF⟩:=J hF;refine Wo.od (aj rfl rfl ((dm _ _ h55).trans (cI h56))) rfl ?_;obtain⟨h19,hF⟩:=ay hF;replace h19:=aG h19;refine Wo.og (cq fT rfl rfl h19) gn rfl ?_;obtain⟨⟨x26,x27⟩,h57,hF⟩:=J hF;refine Wo.od (cx (k:=2) ax rfl rfl (bp h57) rfl rfl) rfl<|Wo.x (dG z33 rfl) gn rfl fun b15=>?_;refine Wo.o0 (bI (k:=0) ax rfl rfl rfl rfl rfl)<|Wo.nil<|At.tn<|Wk.seq ?_;obtain⟨v9,h58,hF⟩:=J hF;refine Wk.cut (G:=(fun(r:Bool) (g:Unit)=>match r,g with|v9,_=>⟨.normal,[(1,ptr b4 0),(2,ptr b1 0),(3,ptr b2 0),(4,ptr b3 0),(7,ptr b7 0),(85,.bool v9)],[.obj l3 (r2 .busy none),.obj b4 (.cells [.slice (some ⟨b8,o2,none⟩) l0.length c0] .own),.ro b8 o2 2 l0.length (l0.map (eP (eI .i64) (eI .i64))),.rd (some ⟨b8,o2,none⟩) c0 2 l0.length (l0.map (eP (eI .i64) (eI .i64))),.obj b1 (.cells [.int .i64 0] .own),.obj b2 (.cells [.int .i64 0] .own),.obj b3 (.cells [.int .i64 (l0.length:Int)] .own),.obj b7 (.cells [.int .i64 v2,.int .i64 x12,.int .i64 x13,.int .i64 x14,.int .i64 x15] .own),.obj b11 (.cells [.slice (some ⟨b8,o2,none⟩) l0.length c0] .own)]⟩) v9) ?_ ?_
             ·clear hF;revert v9;intro r hF;refine Wk.region<|Wo.od (ai (k:=0) ax rfl rfl rfl) rfl<|Wo.od (aw (r:=ptr b7 1) rfl (cN _ _)) rfl<|Wo.od (ai (k:=8) ax rfl rfl rfl) rfl<|Wo.od (aw (r:=ptr b7 3) rfl (c8 _ _)) rfl<|Wo.od (ai (k:=8) ax rfl rfl rfl) rfl ?_;obtain⟨r22,h59,hF⟩:=J hF;refine Wo.x (cL rfl rfl (fun m hm=>kP n x26 x27 x12 x13 x14 x15  _ h59 m) fun _=>rfl) gn rfl ?_;rintro⟨⟩;refine Wo.od (aj rfl rfl (bY _ _ _)) rfl<|Wo.od (ae rfl) rfl ?_;rcases ah hF with⟨h0,hF⟩|⟨h0,hF⟩
              ·refine Wo.og (aw (r:=ptr b7 1) rfl (cN _ _)) (gg rfl rfl (bB h0)) rfl<|Wo.og (aw (r:=ptr b7 1) rfl (aJ _ _)) (gg rfl rfl (bB h0)) rfl<|Wo.og (ai (k:=8) aW rfl rfl rfl) (gg rfl rfl (bB h0)) rfl<|Wo.og (aw (r:=ptr b15 0) rfl (aJ _ _)) (gg rfl rfl (bB h0)) rfl<|Wo.og (ai (k:=0) aW rfl rfl rfl) (gg rfl rfl (bB h0)) rfl<|Wo.og (aj rfl rfl (aN _ _ _)) (gg rfl rfl (bB h0)) rfl<|Wo.og (aw (r:=ptr b7 3) rfl (c8 _ _)) (gg rfl rfl (bB h0)) rfl<|Wo.og (aw (r:=ptr b7 3) rfl (aJ _ _)) (gg rfl rfl (bB h0)) rfl<|Wo.og (ai (k:=8) aW rfl rfl rfl) (gg rfl rfl (bB h0)) rfl<|Wo.og (aw (r:=ptr b7 1) rfl (cN _ _)) (gg rfl rfl (bB h0)) rfl ?_;refine Wo.og (aw (r:=ptr b7 1) rfl (aJ _ _)) (gg rfl rfl (bB h0)) rfl<|Wo.og (ai (k:=8) aW rfl rfl rfl) (gg rfl rfl (bB h0)) rfl<|Wo.og (aj rfl rfl (aN _ _ _)) (gg rfl rfl (bB h0)) rfl ?_;obtain⟨y4,h60,hF⟩:=J hF;refine Wo.og (aj rfl rfl ((bZ _ _ _).trans (cI h60))) (gg rfl rfl (bB h0)) rfl<|Wo.og (aw (r:=ptr b7 1) rfl (cN _ _)) (gg rfl rfl (bB h0)) rfl<|Wo.og (aw (r:=ptr b7 2) rfl (aF _ _)) (gg rfl rfl (bB h0)) rfl<|Wo.og (ai (k:=8) aW rfl rfl rfl) (gg rfl rfl (bB h0)) rfl<|Wo.og (aw (r:=ptr b15 1) rfl (aF _ _)) (gg rfl rfl (bB h0)) rfl<|Wo.og (ai (k:=0) aW rfl rfl rfl) (gg rfl rfl (bB h0)) rfl<|Wo.og (aj rfl rfl (aN _ _ _)) (gg rfl rfl (bB h0)) rfl<|Wo.og (aw (r:=ptr b7 3) rfl (c8 _ _)) (gg rfl rfl (bB h0)) rfl<|Wo.og (aw (r:=ptr b7 4) rfl (aF _ _)) (gg rfl rfl (bB h0)) rfl<|Wo.og (ai (k:=8) aW rfl rfl rfl) (gg rfl rfl (bB h0)) rfl ?_;refine Wo.og (aw (r:=ptr b7 1) rfl (cN _ _)) (gg rfl rfl (bB h0)) rfl<|Wo.og (aw (r:=ptr b7 2) rfl (aF _ _)) (gg rfl rfl (bB h0)) rfl<|Wo.og (ai (k:=8) aW rfl rfl rfl) (gg rfl rfl (bB h0)) rfl<|Wo.og (aj rfl rfl (aN _ _ _)) (gg rfl rfl (bB h0)) rfl ?_;obtain⟨y5,h61,hF⟩:=J hF;refine Wo.og (aj rfl rfl ((bZ _ _ _).trans (cI h61))) (gg rfl rfl (bB h0)) rfl<|Wo.og (aj rfl rfl (az _ _ _)) (gg rfl rfl (bB h0)) rfl<|Wo.og (aj rfl rfl (bh _ _ _)) (gg rfl rfl (bB h0)) rfl<|Wo.od (dw rfl h0 rfl) rfl<|Wo.nil ?_;cases hF;exact At.en () rfl (sc rfl (sc rfl (sc rfl (sc rfl (sc rfl (sc rfl sn)))))) (aa.U [1,2,3,4,5,6,7,8,9] rfl rfl)
              ·refine Wo.s (gg rfl rfl (bJ h0)) rfl<|Wo.s (gg rfl rfl (bJ h0)) rfl<|Wo.s (gg rfl rfl (bJ h0)) rfl<|Wo.s (gg rfl rfl (bJ h0)) rfl<|Wo.s (gg rfl rfl (bJ h0)) rfl<|Wo.s (gg rfl rfl (bJ h0)) rfl<|Wo.s (gg rfl rfl (bJ h0)) rfl<|Wo.s (gg rfl rfl (bJ h0)) rfl<|Wo.s (gg rfl rfl (bJ h0)) rfl<|Wo.s (gg rfl rfl (bJ h0)) rfl ?_;refine Wo.s (gg rfl rfl (bJ h0)) rfl<|Wo.s (gg rfl rfl (bJ h0)) rfl<|Wo.s (gg rfl rfl (bJ h0)) rfl<|Wo.s (gg rfl rfl (bJ h0)) rfl<|Wo.s (gg rfl rfl (bJ h0)) rfl<|Wo.s (gg rfl rfl (bJ h0)) rfl<|Wo.s (gg rfl rfl (bJ h0)) rfl<|Wo.s (gg rfl rfl (bJ h0)) rfl<|Wo.s (gg rfl rfl (bJ h0)) rfl<|Wo.s (gg rfl rfl (bJ h0)) rfl ?_;refine Wo.s (gg rfl rfl (bJ h0)) rfl<|Wo.s (gg rfl rfl (bJ h0)) rfl<|Wo.s (gg rfl rfl (bJ h0)) rfl<|Wo.s (gg rfl rfl (bJ h0)) rfl<|Wo.s (gg rfl rfl (bJ h0)) rfl<|Wo.s (gg rfl rfl (bJ h0)) rfl<|Wo.s (gg rfl rfl (bJ h0)) rfl<|Wo.s (gg rfl rfl (bJ h0)) rfl<|Wo.s (gg rfl rfl (bJ h0)) rfl<|Wo.s (gg rfl rfl (bJ h0)) rfl ?_;refine Wo.od (dj rfl h0 rfl) rfl<|Wo.nil ?_;cases hF;exact At.en () rfl (sc rfl (sc rfl (sc rfl (sc rfl (sc rfl (sc rfl sn)))))) (aa.U [1,2,3,4,5,6,7,8,9] rfl rfl)
             ·clear h58;rintro⟨⟩;refine At.tn ?_;rcases ah hF with⟨h20,hF⟩|⟨h20,hF⟩
              ·refine Wk.aB rfl h20<|Wk.seq<|Wk.gP (prs:=[(1,2)]) (by kernel_rfl)<|Wn.od (aw (r:=ptr b7 0) rfl (jD _ _)) rfl<|Wn.He rfl (ai (k:=7) aW rfl rfl rfl) rfl<|Wn.Hg rfl (bI (k:=4) aW rfl rfl rfl rfl rfl)<|Wn.o0 (bI (k:=5) aW rfl rfl rfl rfl rfl)<|Wn.nil (fun m hm=>(hI.rw rfl rfl rfl (hm.ne (i:=7) (j:=4) rfl rfl rfl rfl (by decide) rfl) hI.nil))<|At.tn<|Wk.ret<|At.br ?_
               cases hF;exact At.en () rfl sn (aa.U [0,1,2,3,4,5,6,8] rfl rfl)
              ·refine Wk.aA rfl h20<|Wk.skip<|At.bn ?_;cases hF;exact At.en () rfl sn (aa.U [0,1,2,3,4,5,6,8] rfl rfl)
            ·clear h32;rcases r7 with _|_
             ·rintro⟨⟩;refine Wo.od (ig rfl rfl) rfl<|Wo.nil<|At.tn<|Wk.aB rfl rfl<|Wk.ret<|At.br<|At.tr ?_;cases hF;exact At.en () rfl sn (aa.U [0,1,3,4,5,6] rfl rfl)
             ·rintro⟨⟩;refine Wo.od (ig rfl rfl) rfl<|Wo.nil<|At.tn<|Wk.aA rfl rfl<|Wk.skip<|At.bn<|At.tn<|Wk.region<|Wo.od (aj rfl rfl (az _ _ _)) rfl<|Wo.od (ae rfl) rfl<|Wo.nil ?_;cases hF;exact At.en () rfl (sc rfl (sc rfl (sc rfl (sc rfl (sc rfl sn))))) (aa.U [0,7,3,1,4,5,6] rfl rfl)
           ·refine Wk.aA rfl h17<|Wk.exit<|At.te ?_;cases hF;exact At.en () rfl sn (aa.U [0,3,2,4,5,6] rfl rfl)
          ·clear h16;rcases r18 with v8|_
           ·rintro⟨⟩;refine At.br ?_;cases hF;exact At.ret .nil fun m' hm=>⟨(),(aa.U [0,1,2,3,4,5] rfl rfl) m' hm⟩
           ·rintro⟨⟩;refine At.be ?_;cases hF;exact At.fin .nil fun m' hm=>⟨(),(aa.U [0,1,2,3,4,5] rfl rfl) m' hm⟩
         ·clear h49;rcases r6 with v14|_
          ·rintro⟨⟩
           change Wk _ _ _ _ .ret _ _ _ _
           refine Wk.ret<|At.br<|At.tr ?_;cases hF;exact At.ret (.cell (k:=2) aW rfl rfl rfl (.cell (k:=3) aW rfl rfl rfl .nil)) fun m' hm=>⟨(),rfl,(aa.U [] rfl rfl) m' hm⟩
          ·rintro⟨⟩
           change At _ .normal _ _ _
           refine At.bn<|At.tn<|Wk.seq<|Wk.seq<|Wk.region<|Wo.od (ai (k:=0) dP rfl rfl rfl) rfl ?_;obtain⟨r14,h62,hF⟩:=J hF;refine Wo.x (uP (α:=Nat) (V:=fun g=>(fun(r:Unit) (g:Nat)=>match r,g with|_,b5=>(.func (.func 86) #[] #[ptr b5 0]:Value)) r14 g) (N:=fun g=>(fun(r:Unit) (g:Nat)=>match r,g with|_,b5=>([.obj b5 (.cells [.slice a0 l0.length c0] .own),.rd a0 c0 2 l0.length (l0.map (eP (eI .i64) (eI .i64))),.obj b4 (.cells [.slice a0 l0.length c0] .own),.obj b1 (.cells [.int .i64 0] .own),.obj b2 (.cells [.int .i64 0] .own),.obj b3 (.cells [.int .i64 (l0.length:Int)] .own)]:List Pc)) r14 g) rfl rfl (fun m hm=>?_)) gn rfl ?_
           ·clear hF;revert r14;intro r hF;refine aP (N:=4) (rs:=[.tmp 2]) rfl Tryz.func63 rfl rfl rfl hm<|Wk.seq<|Wk.region<|Wo.x (cQ rfl) gn rfl fun b20=>?_;refine Wo.od (ak rfl) rfl<|Wo.nil<|At.tn<|Wk.seq<|Wk.region<|Wo.od (As rfl rfl) rfl<|Wo.od (ak rfl) rfl<|Wo.nil<|At.tn<|Wk.ret ?_;cases hF;exact At.ret (.tmp rfl .nil) fun m' hm=>⟨b20,rfl,(aa.U [0,2,1,3,4,5] rfl rfl) m' hm⟩
           ·clear h62;rintro b5;refine Wo.nil<|At.tn<|Wk.block ?_;obtain⟨r8,h63,hF⟩:=J hF;refine Wk.range (N:=27) (rs:=[]) (γ:=Unit) (X:=fun g=>(fun(r:(Int) ⊕ (Unit)) (g:Unit)=>(match r,g with | .inl v15,_=>⟨.done,(some .ret),[.obj b4 (.cells [.slice a0 l0.length c0] .own),.rd a0 c0 2 l0.length (l0.map (eP (eI .i64) (eI .i64))),.obj b1 (.cells [.int .i64 5] .own),.obj b2 (.cells [.int .i64 v15] .own),.obj b3 (.cells [.int .i64 (l0.length:Int)] .own)]⟩ | .inr _,_=>⟨.ready,none,[.obj b4 (.cells [.slice a0 l0.length c0] .own),.rd a0 c0 2 l0.length (l0.map (eP (eI .i64) (eI .i64))),.obj b1 (.cells [.int .i64 0] .own),.obj b2 (.cells [.int .i64 0] .own),.obj b3 (.cells [.int .i64 (l0.length:Int)] .own)]⟩:Rn)) r8 g) rfl rfl Tryz.func86 rfl rfl rfl ?_ (fun y=>by rcases r8 with _|_<;>(intro e; cases e)) ?_
            ·clear hF;revert r8;intro r hF;intro t2 l1 r0 h64 h33;refine Wk.seq<|Wk.region<|Wo.od (ai (k:=1) dP rfl rfl rfl) rfl<|Wo.od (fj (k:=2) oq rfl rfl (.inl rfl)) rfl<|Wo.od (ae rfl) rfl<|Wo.nil<|At.tn<|Wk.block ?_;obtain⟨r19,h21,hF⟩:=J hF;refine Wk.cut (G:=(fun(r:(Int) ⊕ (Unit)) (g:Unit)=>match r,g with | .inl v10,_=>⟨.ret,[],[.obj l1 (r0 .done (some .ret)),.obj b4 (.cells [.slice a0 l0.length c0] .own),.rd a0 c0 2 l0.length (l0.map (eP (eI .i64) (eI .i64))),.obj b1 (.cells [.int .i64 5] .own),.obj b2 (.cells [.int .i64 v10] .own),.obj b3 (.cells [.int .i64 (l0.length:Int)] .own)]⟩ | .inr _,_=>⟨(.exit 0),[],[.obj l1 (r0 .ready none),.obj b4 (.cells [.slice a0 l0.length c0] .own),.rd a0 c0 2 l0.length (l0.map (eP (eI .i64) (eI .i64))),.obj b1 (.cells [.int .i64 0] .own),.obj b2 (.cells [.int .i64 0] .own),.obj b3 (.cells [.int .i64 (l0.length:Int)] .own)]⟩) r19) ?_ ?_
             ·refine Wk.fu (fs':=[(0,.func (.yield l1) #[] #[]),(1,ptr b5 0),(5,.slice a0 l0.length c0),(6,.int .i64 (l0.length:Int)),(7,.int .i64 0)]) (ps':=[.obj l1 (r0 .ready none),.obj b5 (.cells [.slice a0 l0.length c0] .own),.rd a0 c0 2 l0.length (l0.map (eP (eI .i64) (eI .i64))),.obj b4 (.cells [.slice a0 l0.length c0] .own),.obj b1 (.cells [.int .i64 0] .own),.obj b2 (.cells [.int .i64 0] .own),.obj b3 (.cells [.int .i64 (l0.length:Int)] .own)]) (sc rfl (sc rfl (sc rfl (sc rfl (sc rfl sn))))) (aa.U [0,1,2,3,4,5,6] rfl rfl) ?_;refine Wk.loop (σ:=Int) (ρ:=(Int) ⊕ (Unit)) (γ:=Unit) (δ:=fun _=>Unit) _ (fun(s:Int) (g:Unit)=>match s,g with|v0,_=>⟨.normal,[(0,.func (.yield l1) #[] #[]),(1,ptr b5 0),(5,.slice a0 l0.length c0),(6,.int .i64 (l0.length:Int)),(7,.int .i64 v0)],[.obj l1 (r0 .ready none),.obj b5 (.cells [.slice a0 l0.length c0] .own),.rd a0 c0 2 l0.length (l0.map (eP (eI .i64) (eI .i64))),.obj b4 (.cells [.slice a0 l0.length c0] .own),.obj b1 (.cells [.int .i64 0] .own),.obj b2 (.cells [.int .i64 0] .own),.obj b3 (.cells [.int .i64 (l0.length:Int)] .own)]⟩) (fun(r:(Int) ⊕ (Unit)) (g:Unit)=>match r,g with | .inl v10,_=>⟨.ret,[],[.obj l1 (r0 .done (some .ret)),.obj b4 (.cells [.slice a0 l0.length c0] .own),.rd a0 c0 2 l0.length (l0.map (eP (eI .i64) (eI .i64))),.obj b1 (.cells [.int .i64 5] .own),.obj b2 (.cells [.int .i64 v10] .own),.obj b3 (.cells [.int .i64 (l0.length:Int)] .own)]⟩ | .inr _,_=>⟨(.exit 0),[],[.obj l1 (r0 .ready none),.obj b4 (.cells [.slice a0 l0.length c0] .own),.rd a0 c0 2 l0.length (l0.map (eP (eI .i64) (eI .i64))),.obj b1 (.cells [.int .i64 0] .own),.obj b2 (.cells [.int .i64 0] .own),.obj b3 (.cells [.int .i64 (l0.length:Int)] .own)]⟩) ?_ (fun _ _=>rfl) (fun r d=>by rcases r with _|_<;>(intro e; cases e)) _ _ _ h21 ()
              clear hF h21;rintro v0 ⟨⟩ r hF;unfold uC at hF;refine Wk.seq<|Wk.region<|Wo.od (aj rfl rfl (bh _ _ _)) rfl<|Wo.nil<|At.tn<|Wk.seq ?_;rcases ah hF with⟨h22,hF⟩|⟨h22,hF⟩
              ·refine Wk.aB rfl h22<|Wk.skip<|At.tn<|Wk.seq<|Wk.block<|Wk.seq<|Wk.region<|Wo.od (ae rfl) rfl ?_;obtain⟨h6,hF⟩:=ay hF;replace h6:=aG h6;refine Wo.fF (k:=2) rfl (dq h6) ?_;rintro b0 o1 rfl;refine Wo.og (cq fT rfl rfl h6) gn rfl ?_;obtain⟨⟨x3,x4⟩,h65,hF⟩:=J hF;refine Wo.od (cx (k:=0) ax rfl rfl (bp h65) rfl rfl) rfl<|Wo.x (dG z33 rfl) gn rfl fun b27=>?_;refine Wo.od (ak rfl) rfl<|Wo.o0 (bI (k:=0) ax rfl rfl rfl rfl rfl)<|Wo.nil<|At.tn<|Wk.seq<|Wk.draw (by kernel_rfl)<|Wo.od (ae rfl) rfl<|Wo.od (ae rfl) rfl<|Wo.od (ai (k:=0) ax rfl rfl rfl) rfl<|Wo.od (ai (k:=3) dP rfl rfl rfl) rfl<|Wo.od (ae rfl) rfl<|Wo.od (aj rfl rfl (az _ _ _)) rfl<|Wo.od (ai (k:=3) dP rfl rfl rfl) rfl ?_
               refine Wo.od (fj (k:=1) oq rfl rfl (.inl rfl)) rfl ?_;obtain⟨h66,hF⟩:=ay hF;refine Wo.od (aj rfl rfl (dm _ _ h66)) rfl ?_;obtain⟨h23,hF⟩:=ay hF;replace h23:=aG h23;refine Wo.og (cq fT rfl rfl h23) gn rfl ?_;obtain⟨⟨x10,x11⟩,h67,hF⟩:=J hF;refine Wo.od (cx (k:=1) ax rfl rfl (bp h67) rfl rfl) rfl<|Wo.od (eE rfl AE rfl (eH z1 rfl rfl rfl)) rfl ?_;obtain⟨r9,h34,hF⟩:=J hF;refine Wo.x (Ax (k:=2) (k1:=0) (γA:=Nat) (GA:=(fun g:Nat=>(match g with|b6=>⟨.normal,[(1,ptr b4 0),(2,ptr b1 0),(3,ptr b2 0),(4,ptr b3 0),(9,ptr b6 0)],[.obj l1 (r0 .ready none),.obj b4 (.cells [.slice (some ⟨b0,o1,none⟩) l0.length c0] .own),.ro b0 o1 2 l0.length (l0.map (eP (eI .i64) (eI .i64))),.rd (some ⟨b0,o1,none⟩) c0 2 l0.length (l0.map (eP (eI .i64) (eI .i64))),.obj b1 (.cells [.int .i64 0] .own),.obj b2 (.cells [.int .i64 0] .own),.obj b3 (.cells [.int .i64 (l0.length:Int)] .own),.obj b6 (.cells [.int .i64 v0,.int .i64 x3,.int .i64 x4,.int .i64 x10,.int .i64 x11] .own),.obj b5 (.cells [.slice (some ⟨b0,o1,none⟩) l0.length c0] .own)]⟩:En))) (γ:=Unit) (G:=fun g=>(fun(r:(Unit) ⊕ (Unit)) (g:Unit)=>(match r,g with | .inl _,_=>⟨.normal,[],[.obj l1 (r0 .busy none),.obj b4 (.cells [.slice (some ⟨b0,o1,none⟩) l0.length c0] .own),.ro b0 o1 2 l0.length (l0.map (eP (eI .i64) (eI .i64))),.rd (some ⟨b0,o1,none⟩) c0 2 l0.length (l0.map (eP (eI .i64) (eI .i64))),.obj b1 (.cells [.int .i64 0] .own),.obj b2 (.cells [.int .i64 0] .own),.obj b3 (.cells [.int .i64 (l0.length:Int)] .own),.obj b5 (.cells [.slice (some ⟨b0,o1,none⟩) l0.length c0] .own)]⟩ | .inr _,_=>⟨.ret,[],[.obj l1 (r0 .busy none),.obj b4 (.cells [.slice (some ⟨b0,o1,none⟩) l0.length c0] .own),.ro b0 o1 2 l0.length (l0.map (eP (eI .i64) (eI .i64))),.rd (some ⟨b0,o1,none⟩) c0 2 l0.length (l0.map (eP (eI .i64) (eI .i64))),.obj b1 (.cells [.int .i64 5] .own),.obj b2 (.cells [.int .i64 v0] .own),.obj b3 (.cells [.int .i64 (l0.length:Int)] .own),.obj b5 (.cells [.slice (some ⟨b0,o1,none⟩) l0.length c0] .own)]⟩:En)) r9 g) rfl rfl rfl h33 h64 rfl ?_ (fun _=>rfl) (fun _=>rfl) ?_ (fun y=>by rcases r9 with _|_<;>rfl)) gn rfl ?_
               ·clear hF h34;refine Wk.region<|Wo.x (dG AE rfl) gn rfl fun b21=>?_;refine Wo.o0 (bI (k:=0) o7 rfl rfl rfl rfl rfl)<|Wo.nil ?_;exact At.en b21 rfl (sc rfl (sc rfl (sc rfl (sc rfl (sc rfl sn))))) (aa.U [3,6,2,5,7,8,9,0,4] rfl rfl)
               ·clear hF;revert r9;intro r hF;rintro b6;refine Wk.block<|Wk.seq<|Wk.region<|Wo.od (ai (k:=1) dP rfl rfl rfl) rfl ?_;obtain⟨r15,h68,hF⟩:=J hF;refine Wo.x (uP (α:=Nat) (V:=fun g=>(fun(r:Unit) (g:Nat)=>match r,g with|_,b9=>(.func (.func 86) #[] #[ptr b9 0]:Value)) r15 g) (N:=fun g=>(fun(r:Unit) (g:Nat)=>match r,g with|_,b9=>([.obj l1 (r0 .busy none),.obj b9 (.cells [.slice (some ⟨b0,o1,none⟩) l0.length c0] .own),.ro b0 o1 2 l0.length (l0.map (eP (eI .i64) (eI .i64))),.rd (some ⟨b0,o1,none⟩) c0 2 l0.length (l0.map (eP (eI .i64) (eI .i64))),.obj b4 (.cells [.slice (some ⟨b0,o1,none⟩) l0.length c0] .own),.obj b1 (.cells [.int .i64 0] .own),.obj b2 (.cells [.int .i64 0] .own),.obj b3 (.cells [.int .i64 (l0.length:Int)] .own),.obj b5 (.cells [.slice (some ⟨b0,o1,none⟩) l0.length c0] .own),.obj b6 (.cells [.int .i64 v0,.int .i64 x3,.int .i64 x4,.int .i64 x10,.int .i64 x11] .own)]:List Pc)) r15 g) rfl rfl (fun m hm=>?_)) gn rfl ?_
                ·clear hF;revert r15;intro r hF;refine aP (N:=4) (rs:=[.tmp 2]) rfl Tryz.func63 rfl rfl rfl hm<|Wk.seq<|Wk.region<|Wo.x (cQ rfl) gn rfl fun b22=>?_;refine Wo.od (ak rfl) rfl<|Wo.nil<|At.tn<|Wk.seq<|Wk.region<|Wo.od (As rfl rfl) rfl<|Wo.od (ak rfl) rfl<|Wo.nil<|At.tn<|Wk.ret ?_;cases hF;exact At.ret (.tmp rfl .nil) fun m' hm=>⟨b22,rfl,(aa.U [1,0,3,4,2,5,6,7,9,8] rfl rfl) m' hm⟩
                ·clear h68;rintro b9;refine Wo.nil<|At.tn<|Wk.block ?_;obtain⟨r10,h69,hF⟩:=J hF;refine Wk.Fv (k0:=0) (N:=27) (rs:=[]) (γ:=Unit) (X:=fun g=>(fun(r:(Unit) ⊕ ((Unit) ⊕ (Unit))) (g:Unit)=>(match r,g with | .inl _,_=>⟨.done,(some (.exit 6)),[.obj l1 (r0 .busy none),.obj b4 (.cells [.slice (some ⟨b0,o1,none⟩) l0.length c0] .own),.ro b0 o1 2 l0.length (l0.map (eP (eI .i64) (eI .i64))),.rd (some ⟨b0,o1,none⟩) c0 2 l0.length (l0.map (eP (eI .i64) (eI .i64))),.obj b1 (.cells [.int .i64 0] .own),.obj b2 (.cells [.int .i64 0] .own),.obj b3 (.cells [.int .i64 (l0.length:Int)] .own),.obj b5 (.cells [.slice (some ⟨b0,o1,none⟩) l0.length c0] .own),.obj b6 (.cells [.int .i64 v0,.int .i64 x3,.int .i64 x4,.int .i64 x10,.int .i64 x11] .own)]⟩ | .inr (.inl _),_=>⟨.done,(some .ret),[.obj l1 (r0 .busy none),.obj b4 (.cells [.slice (some ⟨b0,o1,none⟩) l0.length c0] .own),.ro b0 o1 2 l0.length (l0.map (eP (eI .i64) (eI .i64))),.rd (some ⟨b0,o1,none⟩) c0 2 l0.length (l0.map (eP (eI .i64) (eI .i64))),.obj b1 (.cells [.int .i64 5] .own),.obj b2 (.cells [.int .i64 v0] .own),.obj b3 (.cells [.int .i64 (l0.length:Int)] .own),.obj b5 (.cells [.slice (some ⟨b0,o1,none⟩) l0.length c0] .own),.obj b6 (.cells [.int .i64 v0,.int .i64 x3,.int .i64 x4,.int .i64 x10,.int .i64 x11] .own)]⟩ | .inr (.inr _),_=>⟨.ready,none,[.obj l1 (r0 .busy none),.obj b4 (.cells [.slice (some ⟨b0,o1,none⟩) l0.length c0] .own),.ro b0 o1 2 l0.length (l0.map (eP (eI .i64) (eI .i64))),.rd (some ⟨b0,o1,none⟩) c0 2 l0.length (l0.map (eP (eI .i64) (eI .i64))),.obj b1 (.cells [.int .i64 0] .own),.obj b2 (.cells [.int .i64 0] .own),.obj b3 (.cells [.int .i64 (l0.length:Int)] .own),.obj b5 (.cells [.slice (some ⟨b0,o1,none⟩) l0.length c0] .own),.obj b6 (.cells [.int .i64 v0,.int .i64 x3,.int .i64 x4,.int .i64 x10,.int .i64 x11] .own)]⟩:Rn)) r10 g) rfl rfl Tryz.func86 rfl rfl rfl h33 rfl ?_ (fun y=>by rcases r10 with _|_|_<;>(intro e; cases e)) ?_
                 ·clear hF;revert r10;intro r hF;intro t3 l2 r1 h70 h71;refine Wk.seq<|Wk.region<|Wo.od (ai (k:=2) dP rfl rfl rfl) rfl<|Wo.od (fj (k:=3) oq rfl rfl (.inl rfl)) rfl<|Wo.od (ae rfl) rfl<|Wo.nil<|At.tn<|Wk.block ?_;obtain⟨r20,h24,hF⟩:=J hF;refine Wk.cut (G:=(fun(r:(Unit) ⊕ ((Unit) ⊕ (Unit))) (g:Unit)=>match r,g with | .inl _,_=>⟨.ret,[],[.obj l2 (r1 .done (some (.exit 6))),.obj l1 (r0 .busy none),.obj b4 (.cells [.slice (some ⟨b0,o1,none⟩) l0.length c0] .own),.ro b0 o1 2 l0.length (l0.map (eP (eI .i64) (eI .i64))),.rd (some ⟨b0,o1,none⟩) c0 2 l0.length (l0.map (eP (eI .i64) (eI .i64))),.obj b1 (.cells [.int .i64 0] .own),.obj b2 (.cells [.int .i64 0] .own),.obj b3 (.cells [.int .i64 (l0.length:Int)] .own),.obj b5 (.cells [.slice (some ⟨b0,o1,none⟩) l0.length c0] .own),.obj b6 (.cells [.int .i64 v0,.int .i64 x3,.int .i64 x4,.int .i64 x10,.int .i64 x11] .own)]⟩ | .inr (.inl _),_=>⟨.ret,[],[.obj l2 (r1 .done (some .ret)),.obj l1 (r0 .busy none),.obj b4 (.cells [.slice (some ⟨b0,o1,none⟩) l0.length c0] .own),.ro b0 o1 2 l0.length (l0.map (eP (eI .i64) (eI .i64))),.rd (some ⟨b0,o1,none⟩) c0 2 l0.length (l0.map (eP (eI .i64) (eI .i64))),.obj b1 (.cells [.int .i64 5] .own),.obj b2 (.cells [.int .i64 v0] .own),.obj b3 (.cells [.int .i64 (l0.length:Int)] .own),.obj b5 (.cells [.slice (some ⟨b0,o1,none⟩) l0.length c0] .own),.obj b6 (.cells [.int .i64 v0,.int .i64 x3,.int .i64 x4,.int .i64 x10,.int .i64 x11] .own)]⟩ | .inr (.inr _),_=>⟨(.exit 0),[],[.obj l2 (r1 .ready none),.obj l1 (r0 .busy none),.obj b4 (.cells [.slice (some ⟨b0,o1,none⟩) l0.length c0] .own),.ro b0 o1 2 l0.length (l0.map (eP (eI .i64) (eI .i64))),.rd (some ⟨b0,o1,none⟩) c0 2 l0.length (l0.map (eP (eI .i64) (eI .i64))),.obj b1 (.cells [.int .i64 0] .own),.obj b2 (.cells [.int .i64 0] .own),.obj b3 (.cells [.int .i64 (l0.length:Int)] .own),.obj b5 (.cells [.slice (some ⟨b0,o1,none⟩) l0.length c0] .own),.obj b6 (.cells [.int .i64 v0,.int .i64 x3,.int .i64 x4,.int .i64 x10,.int .i64 x11] .own)]⟩) r20) ?_ ?_
                  ·refine Wk.fu (fs':=[(0,.func (.yield l2) #[] #[]),(1,ptr b9 0),(5,.slice (some ⟨b0,o1,none⟩) l0.length c0),(6,.int .i64 (l0.length:Int)),(7,.int .i64 0)]) (ps':=[.obj l2 (r1 .ready none),.obj l1 (r0 .busy none),.obj b9 (.cells [.slice (some ⟨b0,o1,none⟩) l0.length c0] .own),.ro b0 o1 2 l0.length (l0.map (eP (eI .i64) (eI .i64))),.rd (some ⟨b0,o1,none⟩) c0 2 l0.length (l0.map (eP (eI .i64) (eI .i64))),.obj b4 (.cells [.slice (some ⟨b0,o1,none⟩) l0.length c0] .own),.obj b1 (.cells [.int .i64 0] .own),.obj b2 (.cells [.int .i64 0] .own),.obj b3 (.cells [.int .i64 (l0.length:Int)] .own),.obj b5 (.cells [.slice (some ⟨b0,o1,none⟩) l0.length c0] .own),.obj b6 (.cells [.int .i64 v0,.int .i64 x3,.int .i64 x4,.int .i64 x10,.int .i64 x11] .own)]) (sc rfl (sc rfl (sc rfl (sc rfl (sc rfl sn))))) (aa.U [0,1,2,3,4,5,6,7,8,9,10] rfl rfl) ?_;refine Wk.loop (σ:=Int) (ρ:=(Unit) ⊕ ((Unit) ⊕ (Unit))) (γ:=Unit) (δ:=fun _=>Unit) _ (fun(s:Int) (g:Unit)=>match s,g with|v3,_=>⟨.normal,[(0,.func (.yield l2) #[] #[]),(1,ptr b9 0),(5,.slice (some ⟨b0,o1,none⟩) l0.length c0),(6,.int .i64 (l0.length:Int)),(7,.int .i64 v3)],[.obj l2 (r1 .ready none),.obj l1 (r0 .busy none),.obj b9 (.cells [.slice (some ⟨b0,o1,none⟩) l0.length c0] .own),.ro b0 o1 2 l0.length (l0.map (eP (eI .i64) (eI .i64))),.rd (some ⟨b0,o1,none⟩) c0 2 l0.length (l0.map (eP (eI .i64) (eI .i64))),.obj b4 (.cells [.slice (some ⟨b0,o1,none⟩) l0.length c0] .own),.obj b1 (.cells [.int .i64 0] .own),.obj b2 (.cells [.int .i64 0] .own),.obj b3 (.cells [.int .i64 (l0.length:Int)] .own),.obj b5 (.cells [.slice (some ⟨b0,o1,none⟩) l0.length c0] .own),.obj b6 (.cells [.int .i64 v0,.int .i64 x3,.int .i64 x4,.int .i64 x10,.int .i64 x11] .own)]⟩) (fun(r:(Unit) ⊕ ((Unit) ⊕ (Unit))) (g:Unit)=>match r,g with | .inl _,_=>⟨.ret,[],[.obj l2 (r1 .done (some (.exit 6))),.obj l1 (r0 .busy none),.obj b4 (.cells [.slice (some ⟨b0,o1,none⟩) l0.length c0] .own),.ro b0 o1 2 l0.length (l0.map (eP (eI .i64) (eI .i64))),.rd (some ⟨b0,o1,none⟩) c0 2 l0.length (l0.map (eP (eI .i64) (eI .i64))),.obj b1 (.cells [.int .i64 0] .own),.obj b2 (.cells [.int .i64 0] .own),.obj b3 (.cells [.int .i64 (l0.length:Int)] .own),.obj b5 (.cells [.slice (some ⟨b0,o1,none⟩) l0.length c0] .own),.obj b6 (.cells [.int .i64 v0,.int .i64 x3,.int .i64 x4,.int .i64 x10,.int .i64 x11] .own)]⟩ | .inr (.inl _),_=>⟨.ret,[],[.obj l2 (r1 .done (some .ret)),.obj l1 (r0 .busy none),.obj b4 (.cells [.slice (some ⟨b0,o1,none⟩) l0.length c0] .own),.ro b0 o1 2 l0.length (l0.map (eP (eI .i64) (eI .i64))),.rd (some ⟨b0,o1,none⟩) c0 2 l0.length (l0.map (eP (eI .i64) (eI .i64))),.obj b1 (.cells [.int .i64 5] .own),.obj b2 (.cells [.int .i64 v0] .own),.obj b3 (.cells [.int .i64 (l0.length:Int)] .own),.obj b5 (.cells [.slice (some ⟨b0,o1,none⟩) l0.length c0] .own),.obj b6 (.cells [.int .i64 v0,.int .i64 x3,.int .i64 x4,.int .i64 x10,.int .i64 x11] .own)]⟩ | .inr (.inr _),_=>⟨(.exit 0),[],[.obj l2 (r1 .ready none),.obj l1 (r0 .busy none),.obj b4 (.cells [.slice (some ⟨b0,o1,none⟩) l0.length c0] .own),.ro b0 o1 2 l0.length (l0.map (eP (eI .i64) (eI .i64))),.rd (some ⟨b0,o1,none⟩) c0 2 l0.length (l0.map (eP (eI .i64) (eI .i64))),.obj b1 (.cells [.int .i64 0] .own),.obj b2 (.cells [.int .i64 0] .own),.obj b3 (.cells [.int .i64 (l0.length:Int)] .own),.obj b5 (.cells [.slice (some ⟨b0,o1,none⟩) l0.length c0] .own),.obj b6 (.cells [.int .i64 v0,.int .i64 x3,.int .i64 x4,.int .i64 x10,.int .i64 x11] .own)]⟩) ?_ (fun _ _=>rfl) (fun r d=>by rcases r with _ | (_|_)<;>(intro e; cases e)) _ _ _ h24 ()
                   clear hF h24;rintro v3 ⟨⟩ r hF;unfold u0 at hF;refine Wk.seq<|Wk.region<|Wo.od (aj rfl rfl (bh _ _ _)) rfl<|Wo.nil<|At.tn<|Wk.seq ?_;rcases ah hF with⟨h25,hF⟩|⟨h25,hF⟩
                   ·refine Wk.aB rfl h25<|Wk.skip<|At.tn<|Wk.seq<|Wk.block<|Wk.seq<|Wk.region<|Wo.od (ae rfl) rfl ?_;obtain⟨h26,hF⟩:=ay hF;replace h26:=aG h26;refine Wo.og (cq fT rfl rfl h26) gn rfl ?_;obtain⟨⟨x16,x17⟩,h72,hF⟩:=J hF;refine Wo.od (cx (k:=3) ax rfl rfl (bp h72) rfl rfl) rfl<|Wo.x (dG z33 rfl) gn rfl fun b28=>?_;refine Wo.od (ak rfl) rfl<|Wo.o0 (bI (k:=0) ax rfl rfl rfl rfl rfl)<|Wo.nil<|At.tn<|Wk.seq<|Wk.draw (by kernel_rfl)<|Wo.od (ae rfl) rfl<|Wo.od (ae rfl) rfl<|Wo.od (ai (k:=0) ax rfl rfl rfl) rfl<|Wo.od (ai (k:=3) dP rfl rfl rfl) rfl<|Wo.od (ae rfl) rfl<|Wo.od (aj rfl rfl (az _ _ _)) rfl<|Wo.od (ai (k:=3) dP rfl rfl rfl) rfl ?_
                    refine Wo.od (fj (k:=4) oq rfl rfl (.inl rfl)) rfl ?_;obtain⟨h73,hF⟩:=ay hF;refine Wo.od (aj rfl rfl (dm _ _ h73)) rfl ?_;obtain⟨h27,hF⟩:=ay hF;replace h27:=aG h27;refine Wo.og (cq fT rfl rfl h27) gn rfl ?_;obtain⟨⟨x18,x19⟩,h74,hF⟩:=J hF;refine Wo.od (cx (k:=4) ax rfl rfl (bp h74) rfl rfl) rfl<|Wo.od (eE rfl AE rfl (eH z1 rfl rfl rfl)) rfl ?_;obtain⟨r11,h35,hF⟩:=J hF;refine Wo.x (Ax (k:=1) (k1:=0) (γA:=Nat) (GA:=(fun g:Nat=>(match g with|b13=>⟨.normal,[(2,ptr b1 0),(3,ptr b2 0),(4,ptr b3 0),(9,ptr b6 0),(10,ptr b13 0)],[.obj l2 (r1 .ready none),.obj l1 (r0 .busy none),.obj b1 (.cells [.int .i64 0] .own),.obj b2 (.cells [.int .i64 0] .own),.obj b3 (.cells [.int .i64 (l0.length:Int)] .own),.obj b6 (.cells [.int .i64 v0,.int .i64 x3,.int .i64 x4,.int .i64 x10,.int .i64 x11] .own),.obj b13 (.cells [.int .i64 v3,.int .i64 x16,.int .i64 x17,.int .i64 x18,.int .i64 x19] .own),.obj b4 (.cells [.slice (some ⟨b0,o1,none⟩) l0.length c0] .own),.ro b0 o1 2 l0.length (l0.map (eP (eI .i64) (eI .i64))),.rd (some ⟨b0,o1,none⟩) c0 2 l0.length (l0.map (eP (eI .i64) (eI .i64))),.obj b5 (.cells [.slice (some ⟨b0,o1,none⟩) l0.length c0] .own),.obj b9 (.cells [.slice (some ⟨b0,o1,none⟩) l0.length c0] .own)]⟩:En))) (γ:=Unit) (G:=fun g=>(fun(r:(Unit) ⊕ ((Unit) ⊕ (Unit))) (g:Unit)=>(match r,g with | .inl _,_=>⟨(.exit 6),[],[.obj l2 (r1 .busy none),.obj l1 (r0 .busy none),.obj b4 (.cells [.slice (some ⟨b0,o1,none⟩) l0.length c0] .own),.ro b0 o1 2 l0.length (l0.map (eP (eI .i64) (eI .i64))),.rd (some ⟨b0,o1,none⟩) c0 2 l0.length (l0.map (eP (eI .i64) (eI .i64))),.obj b1 (.cells [.int .i64 0] .own),.obj b2 (.cells [.int .i64 0] .own),.obj b3 (.cells [.int .i64 (l0.length:Int)] .own),.obj b5 (.cells [.slice (some ⟨b0,o1,none⟩) l0.length c0] .own),.obj b6 (.cells [.int .i64 v0,.int .i64 x3,.int .i64 x4,.int .i64 x10,.int .i64 x11] .own),.obj b9 (.cells [.slice (some ⟨b0,o1,none⟩) l0.length c0] .own)]⟩ | .inr (.inl _),_=>⟨.normal,[],[.obj l2 (r1 .busy none),.obj l1 (r0 .busy none),.obj b4 (.cells [.slice (some ⟨b0,o1,none⟩) l0.length c0] .own),.ro b0 o1 2 l0.length (l0.map (eP (eI .i64) (eI .i64))),.rd (some ⟨b0,o1,none⟩) c0 2 l0.length (l0.map (eP (eI .i64) (eI .i64))),.obj b1 (.cells [.int .i64 0] .own),.obj b2 (.cells [.int .i64 0] .own),.obj b3 (.cells [.int .i64 (l0.length:Int)] .own),.obj b5 (.cells [.slice (some ⟨b0,o1,none⟩) l0.length c0] .own),.obj b6 (.cells [.int .i64 v0,.int .i64 x3,.int .i64 x4,.int .i64 x10,.int .i64 x11] .own),.obj b9 (.cells [.slice (some ⟨b0,o1,none⟩) l0.length c0] .own)]⟩ | .inr (.inr _),_=>⟨.ret,[],[.obj l2 (r1 .busy none),.obj l1 (r0 .busy none),.obj b4 (.cells [.slice (some ⟨b0,o1,none⟩) l0.length c0] .own),.ro b0 o1 2 l0.length (l0.map (eP (eI .i64) (eI .i64))),.rd (some ⟨b0,o1,none⟩) c0 2 l0.length (l0.map (eP (eI .i64) (eI .i64))),.obj b1 (.cells [.int .i64 5] .own),.obj b2 (.cells [.int .i64 v0] .own),.obj b3 (.cells [.int .i64 (l0.length:Int)] .own),.obj b5 (.cells [.slice (some ⟨b0,o1,none⟩) l0.length c0] .own),.obj b6 (.cells [.int .i64 v0,.int .i64 x3,.int .i64 x4,.int .i64 x10,.int .i64 x11] .own),.obj b9 (.cells [.slice (some ⟨b0,o1,none⟩) l0.length c0] .own)]⟩:En)) r11 g) rfl rfl rfl h71 h70 rfl ?_ (fun _=>rfl) (fun _=>rfl) ?_ (fun y=>by rcases r11 with _|_|_<;>rfl)) gn rfl ?_
                    ·clear hF h35;refine Wk.region<|Wo.x (dG AE rfl) gn rfl fun b23=>?_;refine Wo.o0 (bI (k:=0) o7 rfl rfl rfl rfl rfl)<|Wo.nil ?_;exact At.en b23 rfl (sc rfl (sc rfl (sc rfl (sc rfl (sc rfl sn))))) (aa.U [2,3,8,9,10,12,0,7,5,6,11,4] rfl rfl)
                    ·clear hF;revert r11;intro r hF;rintro b13;refine Wk.block<|Wk.seq<|Wk.seq<|Wk.region<|Wo.od (aw (r:=ptr b13 0) rfl (jD _ _)) rfl<|Wo.od (ai (k:=6) aW rfl rfl rfl) rfl<|Wo.od (aw (r:=ptr b6 0) rfl (jD _ _)) rfl<|Wo.od (ai (k:=5) aW rfl rfl rfl) rfl<|Wo.od (aj rfl rfl (aN _ _ _)) rfl<|Wo.od (aj rfl rfl (iH _ _ _)) rfl<|Wo.nil<|At.tn ?_;rcases ah hF with⟨h28,hF⟩|⟨h28,hF⟩
                     ·refine Wk.aB rfl h28<|Wk.exit<|At.te<|At.bx rfl ?_;cases hF;exact At.en () rfl sn (aa.U [0,1,7,8,9,2,3,4,10,5,11] rfl rfl)
                     ·refine Wk.aA rfl h28<|Wk.skip<|At.tn<|Wk.seq<|Wk.seq ?_;obtain⟨v11,h75,hF⟩:=J hF;refine Wk.cut (G:=(fun(r:Bool) (g:Unit)=>match r,g with|v11,_=>⟨.normal,[(2,ptr b1 0),(3,ptr b2 0),(4,ptr b3 0),(9,ptr b6 0),(10,ptr b13 0),(109,.bool v11)],[.obj l2 (r1 .busy none),.obj l1 (r0 .busy none),.obj b1 (.cells [.int .i64 0] .own),.obj b2 (.cells [.int .i64 0] .own),.obj b3 (.cells [.int .i64 (l0.length:Int)] .own),.obj b6 (.cells [.int .i64 v0,.int .i64 x3,.int .i64 x4,.int .i64 x10,.int .i64 x11] .own),.obj b13 (.cells [.int .i64 v3,.int .i64 x16,.int .i64 x17,.int .i64 x18,.int .i64 x19] .own),.obj b4 (.cells [.slice (some ⟨b0,o1,none⟩) l0.length c0] .own),.ro b0 o1 2 l0.length (l0.map (eP (eI .i64) (eI .i64))),.rd (some ⟨b0,o1,none⟩) c0 2 l0.length (l0.map (eP (eI .i64) (eI .i64))),.obj b5 (.cells [.slice (some ⟨b0,o1,none⟩) l0.length c0] .own),.obj b9 (.cells [.slice (some ⟨b0,o1,none⟩) l0.length c0] .own)]⟩) v11) ?_ ?_
                      ·clear hF;revert v11;intro r hF;refine Wk.region<|Wo.od (aw (r:=ptr b13 0) rfl (jD _ _)) rfl<|Wo.od (ai (k:=6) aW rfl rfl rfl) rfl<|Wo.od (aj rfl rfl (bY _ _ _)) rfl<|Wo.od (ae rfl) rfl ?_;rcases ah hF with⟨h1,hF⟩|⟨h1,hF⟩
                       ·refine Wo.og (aw (r:=ptr b6 0) rfl (jD _ _)) (gg rfl rfl (bB h1)) rfl<|Wo.og (ai (k:=5) aW rfl rfl rfl) (gg rfl rfl (bB h1)) rfl<|Wo.og (ai (k:=4) aW rfl rfl rfl) (gg rfl rfl (bB h1)) rfl<|Wo.og (aj rfl rfl (aN _ _ _)) (gg rfl rfl (bB h1)) rfl<|Wo.og (aj rfl rfl (bY _ _ _)) (gg rfl rfl (bB h1)) rfl<|Wo.od (dw rfl h1 rfl) rfl<|Wo.nil ?_;cases hF;exact At.en () rfl (sc rfl (sc rfl (sc rfl (sc rfl (sc rfl (sc rfl sn)))))) (aa.U [0,1,2,3,4,5,6,7,8,9,10,11] rfl rfl)
                       ·refine Wo.s (gg rfl rfl (bJ h1)) rfl<|Wo.s (gg rfl rfl (bJ h1)) rfl<|Wo.s (gg rfl rfl (bJ h1)) rfl<|Wo.s (gg rfl rfl (bJ h1)) rfl<|Wo.s (gg rfl rfl (bJ h1)) rfl<|Wo.od (dj rfl h1 rfl) rfl<|Wo.nil ?_;cases hF;exact At.en () rfl (sc rfl (sc rfl (sc rfl (sc rfl (sc rfl (sc rfl sn)))))) (aa.U [0,1,2,3,4,5,6,7,8,9,10,11] rfl rfl)
                      ·clear h75;rintro⟨⟩;refine At.tn ?_;rcases ah hF with⟨h29,hF⟩|⟨h29,hF⟩
                       ·refine Wk.aB rfl h29<|Wk.exit<|At.te<|At.be ?_;cases hF;exact At.en () rfl sn (aa.U [0,1,7,8,9,2,3,4,10,5,11] rfl rfl)
                       ·refine Wk.aA rfl h29<|Wk.skip<|At.tn<|Wk.seq<|Wk.region<|Wo.od (ai (k:=5) o7 rfl rfl rfl) rfl<|Wo.od (ai (k:=6) o7 rfl rfl rfl) rfl ?_;obtain⟨r23,h76,hF⟩:=J hF;refine Wo.x (cL rfl rfl (fun m hm=>GP n v0 x3 x4 x10 x11 v3 x16 x17 x18 x19  _ h76 m) fun _=>rfl) gn rfl ?_;rintro⟨⟩;refine Wo.od (aj rfl rfl (ep _ _)) rfl<|Wo.nil<|At.tn ?_;rcases ah hF with⟨h30,hF⟩|⟨h30,hF⟩
                        ·refine Wk.aB rfl h30<|Wk.seq<|Wk.gP (prs:=[(1,2)]) (by kernel_rfl)<|Wn.od (aw (r:=ptr b6 0) rfl (jD _ _)) rfl<|Wn.He rfl (ai (k:=5) aW rfl rfl rfl) rfl<|Wn.Hg rfl (bI (k:=2) aW rfl rfl rfl rfl rfl)<|Wn.o0 (bI (k:=3) aW rfl rfl rfl rfl rfl)<|Wn.nil (fun m hm=>(hI.rw rfl rfl rfl (hm.ne (i:=5) (j:=2) rfl rfl rfl rfl (by decide) rfl) hI.nil))<|At.tn<|Wk.ret<|At.br ?_
                         cases hF;exact At.en () rfl sn (aa.U [0,1,7,8,9,2,3,4,10,5,11] rfl rfl)
                        ·refine Wk.aA rfl h30<|Wk.skip<|At.bn ?_;cases hF;exact At.en () rfl sn (aa.U [0,1,7,8,9,2,3,4,10,5,11] rfl rfl)
                    ·clear h35;rcases r11 with _|_|_
                     ·rintro⟨⟩;refine Wo.od (ig rfl rfl) rfl<|Wo.nil<|At.tn<|Wk.aB rfl rfl<|Wk.ret<|At.br<|At.tr ?_;cases hF;exact At.en () rfl sn (aa.U [0,1,2,3,4,5,6,7,8,9] rfl rfl)
                     ·rintro⟨⟩;refine Wo.od (ig rfl rfl) rfl<|Wo.nil<|At.tn<|Wk.aA rfl rfl<|Wk.skip<|At.bn<|At.tn<|Wk.region<|Wo.od (aj rfl rfl (az _ _ _)) rfl<|Wo.od (ae rfl) rfl<|Wo.nil ?_;cases hF;exact At.en () rfl (sc rfl (sc rfl (sc rfl (sc rfl (sc rfl sn))))) (aa.U [0,1,10,3,4,2,5,6,7,8,9] rfl rfl)
                     ·rintro⟨⟩;refine Wo.od (ig rfl rfl) rfl<|Wo.nil<|At.tn<|Wk.aB rfl rfl<|Wk.ret<|At.br<|At.tr ?_;cases hF;exact At.en () rfl sn (aa.U [0,1,2,3,4,5,6,7,8,9] rfl rfl)
                   ·refine Wk.aA rfl h25<|Wk.exit<|At.te ?_;cases hF;exact At.en () rfl sn (aa.U [0,1,5,3,4,6,7,8,9,10] rfl rfl)
                  ·clear h24;rcases r20 with _ | (_|_)
                   ·rintro⟨⟩;refine At.br ?_;cases hF;exact At.ret .nil fun m' hm=>⟨(),(aa.U [0,1,2,3,4,5,6,7,8,9] rfl rfl) m' hm⟩
                   ·rintro⟨⟩;refine At.br ?_;cases hF;exact At.ret .nil fun m' hm=>⟨(),(aa.U [0,1,2,3,4,5,6,7,8,9] rfl rfl) m' hm⟩
                   ·rintro⟨⟩;refine At.be ?_;cases hF;exact At.fin .nil fun m' hm=>⟨(),(aa.U [0,1,2,3,4,5,6,7,8,9] rfl rfl) m' hm⟩
                 ·clear h69;rcases r10 with _|_|_
                  ·rintro⟨⟩
                   change Wk _ _ _ _ (.exit 6) _ _ _ _
                   refine Wk.exit<|At.be<|At.bn ?_;cases hF;exact At.en () rfl sn (aa.U [0,1,2,3,4,5,6,7] rfl rfl)
                  ·rintro⟨⟩
                   change Wk _ _ _ _ .ret _ _ _ _
                   refine Wk.ret<|At.br<|At.br ?_;cases hF;exact At.en () rfl sn (aa.U [0,1,2,3,4,5,6,7] rfl rfl)
                  ·rintro⟨⟩
                   change At _ .normal _ _ _
                   refine At.bn<|At.bn ?_;cases hF;exact At.en () rfl sn (aa.U [0,1,2,3,4,5,6,7] rfl rfl)
               ·clear h34;rcases r9 with _|_
                ·rintro⟨⟩;refine Wo.od (ig rfl rfl) rfl<|Wo.nil<|At.tn<|Wk.aA rfl rfl<|Wk.skip<|At.bn<|At.tn<|Wk.region<|Wo.od (aj rfl rfl (az _ _ _)) rfl<|Wo.od (ae rfl) rfl<|Wo.nil ?_;cases hF;exact At.en () rfl (sc rfl (sc rfl (sc rfl (sc rfl (sc rfl sn))))) (aa.U [0,7,3,1,4,5,6] rfl rfl)
                ·rintro⟨⟩;refine Wo.od (ig rfl rfl) rfl<|Wo.nil<|At.tn<|Wk.aB rfl rfl<|Wk.ret<|At.br<|At.tr ?_;cases hF;exact At.en () rfl sn (aa.U [0,1,3,4,5,6] rfl rfl)
              ·refine Wk.aA rfl h22<|Wk.exit<|At.te ?_;cases hF;exact At.en () rfl sn (aa.U [0,3,2,4,5,6] rfl rfl)
             ·clear h21;rcases r19 with v10|_
              ·rintro⟨⟩;refine At.br ?_;cases hF;exact At.ret .nil fun m' hm=>⟨(),(aa.U [0,1,2,3,4,5] rfl rfl) m' hm⟩
              ·rintro⟨⟩;refine At.be ?_;cases hF;exact At.fin .nil fun m' hm=>⟨(),(aa.U [0,1,2,3,4,5] rfl rfl) m' hm⟩
            ·clear h63;rcases r8 with v15|_
             ·rintro⟨⟩
              change Wk _ _ _ _ .ret _ _ _ _
              refine Wk.ret<|At.br<|At.tr ?_;cases hF;exact At.ret (.cell (k:=2) aW rfl rfl rfl (.cell (k:=3) aW rfl rfl rfl .nil)) fun m' hm=>⟨(),rfl,(aa.U [] rfl rfl) m' hm⟩
             ·rintro⟨⟩
              change At _ .normal _ _ _
              refine At.bn<|At.tn<|Wk.seq<|Wk.region<|Wo.o0 (bI (k:=2) aW rfl rfl rfl rfl rfl)<|Wo.o0 (bI (k:=3) aW rfl rfl rfl rfl rfl)<|Wo.nil<|At.tn<|Wk.ret ?_;cases hF;exact At.ret (.cell (k:=2) aW rfl rfl rfl (.cell (k:=3) aW rfl rfl rfl .nil)) fun m' hm=>⟨(),rfl,(aa.U [] rfl rfl) m' hm⟩
theorem BG (n:Nat) (l1:List (Int × Int)) (a2:Option Addr) (c3:Nat) (r:Int) (hF:E6 n l1=some r) (m:AMem) (h4:Rd m a2 c3 2 l1.length (l1.map (eP (eI .i64) (eI .i64)))) :
  aR bq 43 [.slice a2 l1.length c3] m (fun v m'=>∃_:Unit,v = .int .i64 r∧Hp m m' []):=by
 unfold E6 at hF;refine aP (m0:=m) (ps:=[.rd a2 c3 2 l1.length (l1.map (eP (eI .i64) (eI .i64)))]) (N:=12) (rs:=[.tmp 2]) rfl Tryz.func43 rfl rfl rfl ((Hp.start m).vJ rfl h4)<|Wk.seq<|Wk.region<|Wo.od (ak rfl) rfl<|Wo.nil<|At.tn<|Wk.seq<|Wk.seq<|Wk.region<|Wo.od (ae rfl) rfl ?_;obtain⟨⟨r6,r7⟩,h5,hF⟩:=J hF;refine Wo.x (cL rfl rfl (fun m hm=>FO n l1 a2 c3 _ h5 m (hm.rd (k:=0) rfl (.rd _ _ _ _ _))) fun _=>rfl) gn rfl ?_;rintro⟨⟩;refine Wo.od (ae rfl) rfl<|Wo.od (qh rfl rfl) rfl<|Wo.od (qh rfl rfl) rfl<|Wo.od (ak rfl) rfl<|Wo.od (ak rfl) rfl<|Wo.nil<|At.tn<|Wk.seq<|Wk.region<|Wo.od (ae rfl) rfl<|Wo.od (aj rfl rfl (bW _ _ _)) rfl<|Wo.nil<|At.tn ?_;rcases ah hF with⟨h8,hF⟩|⟨h8,hF⟩
 ·refine Wk.aB rfl h8<|Wk.seq<|Wk.region<|Wo.od (ak rfl) rfl<|Wo.nil<|At.tn<|Wk.ret<|At.tr ?_;cases hF;exact At.ret (.tmp rfl .nil) fun m' hm=>⟨(),rfl,(aa.U [] rfl rfl) m' hm⟩
 ·refine Wk.aA rfl h8<|Wk.skip<|At.tn<|Wk.seq<|Wk.region<|Wo.od (ak rfl) rfl<|Wo.nil<|At.tn<|Wk.ret ?_;cases hF;exact At.ret (.tmp rfl .nil) fun m' hm=>⟨(),rfl,(aa.U [] rfl rfl) m' hm⟩
theorem F2 (n:Nat) (l0:List (Int × Int)) (x5:Int) (x6:Int) (a0:Option Addr) (c0:Nat) (r:Int × Int) (hF:Hi n l0 x5 x6=some r) (m:AMem) (h15:Rd m a0 c0 2 l0.length (l0.map (eP (eI .i64) (eI .i64)))) :
  aR bq 20 [.slice a0 l0.length c0,.agg #[.int .i64 x5,.int .i64 x6]] m (fun v m'=>∃_:Unit,v = .tuple #[.int .i64 r.1,.int .i64 r.2]∧Hp m m' []):=by
 unfold Hi at hF;refine aP (m0:=m) (ps:=[.rd a0 c0 2 l0.length (l0.map (eP (eI .i64) (eI .i64)))]) (N:=73) (rs:=[.cell 4 3,.cell 5 37]) rfl Tryz.func20 rfl rfl rfl ((Hp.start m).vJ rfl h15)<|Wk.seq<|Wk.region<|Wo.x (cQ rfl) gn rfl fun b0=>?_;refine Wo.x (dG z3 rfl) gn rfl fun b1=>?_;refine Wo.x (dG z37 rfl) gn rfl fun b2=>?_;refine Wo.nil<|At.tn<|Wk.seq<|Wk.seq<|Wk.region<|Wo.od (ae rfl) rfl ?_;obtain⟨r6,h16,hF⟩:=J hF;refine Wo.x (cL rfl rfl (fun m hm=>BG n l0 a0 c0 _ h16 m (hm.rd (k:=3) rfl (.rd _ _ _ _ _))) fun _=>rfl) gn rfl ?_;rintro⟨⟩;refine Wo.od (ak rfl) rfl<|Wo.nil<|At.tn<|Wk.seq<|Wk.region<|Wo.od (ae rfl) rfl<|Wo.od (aj rfl rfl (ep _ _)) rfl<|Wo.nil<|At.tn ?_;rcases ah hF with⟨h5,hF⟩|⟨h5,hF⟩
 ·refine Wk.aB rfl h5<|Wk.seq<|Wk.region<|Wo.od (ae rfl) rfl<|Wo.o0 (bI (k:=1) aW rfl rfl rfl rfl rfl)<|Wo.o0 (bI (k:=0) qn rfl rfl rfl rfl rfl)<|Wo.nil<|At.tn<|Wk.ret<|At.tr ?_;cases hF;exact At.ret (.cell (k:=1) aW rfl rfl rfl (.cell (k:=0) qn rfl rfl rfl .nil)) fun m' hm=>⟨(),rfl,(aa.U [] rfl rfl) m' hm⟩
 ·refine Wk.aA rfl h5<|Wk.skip<|At.tn<|Wk.seq<|Wk.seq<|Wk.region<|Wo.od (ai (k:=2) ax rfl rfl rfl) rfl ?_;obtain⟨r7,h17,hF⟩:=J hF;refine Wo.x (cL rfl rfl (fun m hm=>B5 n x5 x6  _ h17 m) fun _=>rfl) gn rfl ?_;rintro⟨⟩;refine Wo.nil<|At.tn ?_;rcases ah hF with⟨h6,hF⟩|⟨h6,hF⟩
  ·refine Wk.aB rfl h6<|Wk.seq<|Wk.region<|Wo.o0 (bI (k:=1) aW rfl rfl rfl rfl rfl)<|Wo.o0 (bI (k:=0) qn rfl rfl rfl rfl rfl)<|Wo.nil<|At.tn<|Wk.ret<|At.tr ?_;cases hF;exact At.ret (.cell (k:=1) aW rfl rfl rfl (.cell (k:=0) qn rfl rfl rfl .nil)) fun m' hm=>⟨(),rfl,(aa.U [] rfl rfl) m' hm⟩
  ·refine Wk.aA rfl h6<|Wk.skip<|At.tn<|Wk.seq<|Wk.region<|Wo.x (dG z3 rfl) gn rfl fun b3=>?_;refine Wo.o0 (bI (k:=0) aW rfl rfl rfl rfl rfl)<|Wo.nil<|At.tn<|Wk.seq<|Wk.seq<|Wk.region<|Wo.od (ae rfl) rfl ?_;obtain⟨r3,h18,hF⟩:=J hF;refine Wo.x (uP (α:=Nat) (V:=fun g=>(fun(r:Unit) (g:Nat)=>match r,g with|_,b6=>(.func (.func 86) #[] #[ptr b6 0]:Value)) r3 g) (N:=fun g=>(fun(r:Unit) (g:Nat)=>match r,g with|_,b6=>([.obj b6 (.cells [.slice a0 l0.length c0] .own),.rd a0 c0 2 l0.length (l0.map (eP (eI .i64) (eI .i64))),.obj b0 (.cells [.int .i64 x5,.int .i64 x6] .own),.obj b1 (.cells [.int .i64 0] .own),.obj b2 (.cells [.int .i64 0] .own),.obj b3 (.cells [.int .i64 0] .own)]:List Pc)) r3 g) rfl rfl (fun m hm=>?_)) gn rfl ?_
   ·clear hF;revert r3;intro r hF;refine aP (N:=4) (rs:=[.tmp 2]) rfl Tryz.func63 rfl rfl rfl hm<|Wk.seq<|Wk.region<|Wo.x (cQ rfl) gn rfl fun b7=>?_;refine Wo.od (ak rfl) rfl<|Wo.nil<|At.tn<|Wk.seq<|Wk.region<|Wo.od (As rfl rfl) rfl<|Wo.od (ak rfl) rfl<|Wo.nil<|At.tn<|Wk.ret ?_;cases hF;exact At.ret (.tmp rfl .nil) fun m' hm=>⟨b7,rfl,(aa.U [0,5,4,3,2,1] rfl rfl) m' hm⟩
   ·clear h18;rintro b6;refine Wo.nil<|At.tn<|Wk.block ?_;obtain⟨r1,h19,hF⟩:=J hF;refine Wk.range (N:=27) (rs:=[]) (γ:=Unit) (X:=fun g=>(fun(r:(Int) ⊕ (Int)) (g:Unit)=>(match r,g with | .inl v6,_=>⟨.done,(some .ret),[.obj b0 (.cells [.int .i64 x5,.int .i64 x6] .own),.obj b1 (.cells [.int .i64 1] .own),.obj b2 (.cells [.int .i64 0] .own),.obj b3 (.cells [.int .i64 v6] .own)]⟩ | .inr v7,_=>⟨.ready,none,[.obj b0 (.cells [.int .i64 x5,.int .i64 x6] .own),.obj b1 (.cells [.int .i64 0] .own),.obj b2 (.cells [.int .i64 0] .own),.obj b3 (.cells [.int .i64 v7] .own)]⟩:Rn)) r1 g) rfl rfl Tryz.func86 rfl rfl rfl ?_ (fun y=>by rcases r1 with _|_<;>(intro e; cases e)) ?_
    ·clear hF;revert r1;intro r hF;intro t0 l1 r0 h20 h21;refine Wk.seq<|Wk.region<|Wo.od (ai (k:=1) dP rfl rfl rfl) rfl<|Wo.od (fj (k:=2) oq rfl rfl (.inl rfl)) rfl<|Wo.od (ae rfl) rfl<|Wo.nil<|At.tn<|Wk.block ?_;obtain⟨r4,h7,hF⟩:=J hF;refine Wk.cut (G:=(fun(r:(Int) ⊕ (Int)) (g:Unit)=>match r,g with | .inl v2,_=>⟨.ret,[],[.obj l1 (r0 .done (some .ret)),.obj b0 (.cells [.int .i64 x5,.int .i64 x6] .own),.obj b1 (.cells [.int .i64 1] .own),.obj b2 (.cells [.int .i64 0] .own),.obj b3 (.cells [.int .i64 v2] .own)]⟩ | .inr v3,_=>⟨(.exit 0),[],[.obj l1 (r0 .ready none),.obj b0 (.cells [.int .i64 x5,.int .i64 x6] .own),.obj b1 (.cells [.int .i64 0] .own),.obj b2 (.cells [.int .i64 0] .own),.obj b3 (.cells [.int .i64 v3] .own)]⟩) r4) ?_ ?_
     ·refine Wk.fu (fs':=[(0,.func (.yield l1) #[] #[]),(1,ptr b6 0),(5,.slice a0 l0.length c0),(6,.int .i64 (l0.length:Int)),(7,.int .i64 0)]) (ps':=[.obj l1 (r0 .ready none),.obj b6 (.cells [.slice a0 l0.length c0] .own),.rd a0 c0 2 l0.length (l0.map (eP (eI .i64) (eI .i64))),.obj b0 (.cells [.int .i64 x5,.int .i64 x6] .own),.obj b1 (.cells [.int .i64 0] .own),.obj b2 (.cells [.int .i64 0] .own),.obj b3 (.cells [.int .i64 0] .own)]) (sc rfl (sc rfl (sc rfl (sc rfl (sc rfl sn))))) (aa.U [0,1,2,3,4,5,6] rfl rfl) ?_;refine Wk.loop (σ:=Int × Int) (ρ:=(Int) ⊕ (Int)) (γ:=Unit) (δ:=fun _=>Unit) _ (fun(s:Int × Int) (g:Unit)=>match s,g with | (v0,v1),_=>⟨.normal,[(0,.func (.yield l1) #[] #[]),(1,ptr b6 0),(5,.slice a0 l0.length c0),(6,.int .i64 (l0.length:Int)),(7,.int .i64 v0)],[.obj l1 (r0 .ready none),.obj b6 (.cells [.slice a0 l0.length c0] .own),.rd a0 c0 2 l0.length (l0.map (eP (eI .i64) (eI .i64))),.obj b0 (.cells [.int .i64 x5,.int .i64 x6] .own),.obj b1 (.cells [.int .i64 0] .own),.obj b2 (.cells [.int .i64 0] .own),.obj b3 (.cells [.int .i64 v1] .own)]⟩) (fun(r:(Int) ⊕ (Int)) (g:Unit)=>match r,g with | .inl v2,_=>⟨.ret,[],[.obj l1 (r0 .done (some .ret)),.obj b0 (.cells [.int .i64 x5,.int .i64 x6] .own),.obj b1 (.cells [.int .i64 1] .own),.obj b2 (.cells [.int .i64 0] .own),.obj b3 (.cells [.int .i64 v2] .own)]⟩ | .inr v3,_=>⟨(.exit 0),[],[.obj l1 (r0 .ready none),.obj b0 (.cells [.int .i64 x5,.int .i64 x6] .own),.obj b1 (.cells [.int .i64 0] .own),.obj b2 (.cells [.int .i64 0] .own),.obj b3 (.cells [.int .i64 v3] .own)]⟩) ?_ (fun _ _=>rfl) (fun r d=>by rcases r with _|_<;>(intro e; cases e)) _ _ _ h7 ()
      clear hF h7;rintro⟨v0,v1⟩ ⟨⟩ r hF;unfold pD at hF;refine Wk.seq<|Wk.region<|Wo.od (aj rfl rfl (bh _ _ _)) rfl<|Wo.nil<|At.tn<|Wk.seq ?_;rcases ah hF with⟨h8,hF⟩|⟨h8,hF⟩
      ·refine Wk.aB rfl h8<|Wk.skip<|At.tn<|Wk.seq<|Wk.block<|Wk.seq<|Wk.region<|Wo.od (ae rfl) rfl ?_;obtain⟨h4,hF⟩:=ay hF;replace h4:=aG h4;refine Wo.fF (k:=2) rfl (dq h4) ?_;rintro b5 o1 rfl;refine Wo.og (cq fT rfl rfl h4) gn rfl ?_;obtain⟨⟨x3,x4⟩,h22,hF⟩:=J hF;refine Wo.od (cx (k:=0) ax rfl rfl (bp h22) rfl rfl) rfl<|Wo.x (dG z33 rfl) gn rfl fun b9=>?_;refine Wo.od (ak rfl) rfl<|Wo.o0 (bI (k:=0) ax rfl rfl rfl rfl rfl)<|Wo.nil<|At.tn<|Wk.seq<|Wk.draw (by kernel_rfl)<|Wo.od (ae rfl) rfl<|Wo.od (ae rfl) rfl<|Wo.od (ai (k:=0) ax rfl rfl rfl) rfl<|Wo.od (ai (k:=3) dP rfl rfl rfl) rfl<|Wo.od (ae rfl) rfl<|Wo.od (aj rfl rfl (az _ _ _)) rfl<|Wo.od (ai (k:=3) dP rfl rfl rfl) rfl ?_
       refine Wo.od (fj (k:=1) oq rfl rfl (.inl rfl)) rfl ?_;obtain⟨h23,hF⟩:=ay hF;refine Wo.od (aj rfl rfl (dm _ _ h23)) rfl ?_;obtain⟨h9,hF⟩:=ay hF;replace h9:=aG h9;refine Wo.og (cq fT rfl rfl h9) gn rfl ?_;obtain⟨⟨x10,x11⟩,h24,hF⟩:=J hF;refine Wo.od (cx (k:=1) ax rfl rfl (bp h24) rfl rfl) rfl<|Wo.od (eE rfl AE rfl (eH z1 rfl rfl rfl)) rfl ?_;obtain⟨r2,h14,hF⟩:=J hF;refine Wo.x (Ax (k:=2) (k1:=0) (γA:=Nat) (GA:=(fun g:Nat=>(match g with|b4=>⟨.normal,[(3,ptr b0 0),(4,ptr b1 0),(5,ptr b2 0),(7,ptr b3 0),(8,ptr b4 0)],[.obj l1 (r0 .ready none),.obj b0 (.cells [.int .i64 x5,.int .i64 x6] .own),.obj b1 (.cells [.int .i64 0] .own),.obj b2 (.cells [.int .i64 0] .own),.obj b3 (.cells [.int .i64 v1] .own),.obj b4 (.cells [.int .i64 v0,.int .i64 x3,.int .i64 x4,.int .i64 x10,.int .i64 x11] .own),.obj b6 (.cells [.slice (some ⟨b5,o1,none⟩) l0.length c0] .own),.ro b5 o1 2 l0.length (l0.map (eP (eI .i64) (eI .i64))),.rd (some ⟨b5,o1,none⟩) c0 2 l0.length (l0.map (eP (eI .i64) (eI .i64)))]⟩:En))) (γ:=Unit) (G:=fun g=>(fun(r:(Unit) ⊕ (Int)) (g:Unit)=>(match r,g with | .inl _,_=>⟨.ret,[],[.obj l1 (r0 .busy none),.obj b0 (.cells [.int .i64 x5,.int .i64 x6] .own),.obj b1 (.cells [.int .i64 1] .own),.obj b2 (.cells [.int .i64 0] .own),.obj b3 (.cells [.int .i64 v1] .own),.obj b6 (.cells [.slice (some ⟨b5,o1,none⟩) l0.length c0] .own),.ro b5 o1 2 l0.length (l0.map (eP (eI .i64) (eI .i64))),.rd (some ⟨b5,o1,none⟩) c0 2 l0.length (l0.map (eP (eI .i64) (eI .i64)))]⟩ | .inr v8,_=>⟨.normal,[],[.obj l1 (r0 .busy none),.obj b0 (.cells [.int .i64 x5,.int .i64 x6] .own),.obj b1 (.cells [.int .i64 0] .own),.obj b2 (.cells [.int .i64 0] .own),.obj b3 (.cells [.int .i64 v8] .own),.obj b6 (.cells [.slice (some ⟨b5,o1,none⟩) l0.length c0] .own),.ro b5 o1 2 l0.length (l0.map (eP (eI .i64) (eI .i64))),.rd (some ⟨b5,o1,none⟩) c0 2 l0.length (l0.map (eP (eI .i64) (eI .i64)))]⟩:En)) r2 g) rfl rfl rfl h21 h20 rfl ?_ (fun _=>rfl) (fun _=>rfl) ?_ (fun y=>by rcases r2 with _|_<;>rfl)) gn rfl ?_
       ·clear hF h14;refine Wk.region<|Wo.x (dG AE rfl) gn rfl fun b8=>?_;refine Wo.o0 (bI (k:=0) o7 rfl rfl rfl rfl rfl)<|Wo.nil ?_;exact At.en b8 rfl (sc rfl (sc rfl (sc rfl (sc rfl (sc rfl sn))))) (aa.U [3,6,7,8,9,0,4,2,5] rfl rfl)
       ·clear hF;revert r2;intro r hF;rintro b4;refine Wk.block<|Wk.seq<|Wk.seq<|Wk.region<|Wo.od (ai (k:=5) o7 rfl rfl rfl) rfl<|Wo.od (ai (k:=1) ax rfl rfl rfl) rfl ?_;obtain⟨r8,h25,hF⟩:=J hF;refine Wo.x (cL rfl rfl (fun m hm=>xJ n v0 x3 x4 x10 x11 x5 x6  _ h25 m) fun _=>rfl) gn rfl ?_;rintro⟨⟩;refine Wo.nil<|At.tn ?_;rcases ah hF with⟨h10,hF⟩|⟨h10,hF⟩
        ·refine Wk.aB rfl h10<|Wk.seq<|Wk.region<|Wo.o0 (bI (k:=2) aW rfl rfl rfl rfl rfl)<|Wo.o0 (bI (k:=3) qn rfl rfl rfl rfl rfl)<|Wo.nil<|At.tn<|Wk.ret<|At.tr<|At.br ?_;cases hF;exact At.en () rfl sn (aa.U [0,1,2,3,4,6,7,8] rfl rfl)
        ·refine Wk.aA rfl h10<|Wk.skip<|At.tn<|Wk.seq<|Wk.region<|Wo.od (aw (r:=ptr b4 1) rfl (cN _ _)) rfl<|Wo.od (ai (k:=5) ax rfl rfl rfl) rfl<|Wo.od (aw (r:=ptr b4 3) rfl (c8 _ _)) rfl<|Wo.od (ai (k:=5) ax rfl rfl rfl) rfl<|Wo.od (ai (k:=1) ax rfl rfl rfl) rfl ?_;obtain⟨r5,h26,hF⟩:=J hF;refine Wo.x (cL rfl rfl (fun m hm=>kP n x3 x4 x10 x11 x5 x6  _ h26 m) fun _=>rfl) gn rfl ?_;rintro⟨⟩;refine Wo.od (ak rfl) rfl<|Wo.nil<|At.tn<|Wk.block<|Wk.seq ?_;obtain⟨v4,h27,hF⟩:=J hF;refine Wk.cut (G:=(fun(r:Bool) (g:Unit)=>match r,g with|v4,_=>⟨.normal,[(3,ptr b0 0),(4,ptr b1 0),(5,ptr b2 0),(7,ptr b3 0),(8,ptr b4 0),(9,.int .i64 r5),(29,.bool v4)],[.obj l1 (r0 .busy none),.obj b0 (.cells [.int .i64 x5,.int .i64 x6] .own),.obj b1 (.cells [.int .i64 0] .own),.obj b2 (.cells [.int .i64 0] .own),.obj b3 (.cells [.int .i64 v1] .own),.obj b4 (.cells [.int .i64 v0,.int .i64 x3,.int .i64 x4,.int .i64 x10,.int .i64 x11] .own),.obj b6 (.cells [.slice (some ⟨b5,o1,none⟩) l0.length c0] .own),.ro b5 o1 2 l0.length (l0.map (eP (eI .i64) (eI .i64))),.rd (some ⟨b5,o1,none⟩) c0 2 l0.length (l0.map (eP (eI .i64) (eI .i64)))]⟩) v4) ?_ ?_
         ·clear hF;revert v4;intro r hF;refine Wk.region<|Wo.od (aw (r:=ptr b4 1) rfl (cN _ _)) rfl<|Wo.od (aw (r:=ptr b4 2) rfl (aF _ _)) rfl<|Wo.od (ai (k:=5) aW rfl rfl rfl) rfl<|Wo.od (aw (r:=ptr b0 1) rfl (aF _ _)) rfl<|Wo.od (ai (k:=1) aW rfl rfl rfl) rfl<|Wo.od (aj rfl rfl (dE _ _ _)) rfl<|Wo.od (ae rfl) rfl ?_;rcases ah hF with⟨h0,hF⟩|⟨h0,hF⟩
          ·refine Wo.og (aw (r:=ptr b4 3) rfl (c8 _ _)) (gg rfl rfl (bB h0)) rfl<|Wo.og (aw (r:=ptr b4 4) rfl (aF _ _)) (gg rfl rfl (bB h0)) rfl<|Wo.og (ai (k:=5) aW rfl rfl rfl) (gg rfl rfl (bB h0)) rfl<|Wo.og (aw (r:=ptr b0 1) rfl (aF _ _)) (gg rfl rfl (bB h0)) rfl<|Wo.og (ai (k:=1) aW rfl rfl rfl) (gg rfl rfl (bB h0)) rfl<|Wo.og (aj rfl rfl (bW _ _ _)) (gg rfl rfl (bB h0)) rfl<|Wo.od (dw rfl h0 rfl) rfl<|Wo.od (ae rfl) rfl ?_;rcases ah hF with⟨h2,hF⟩|⟨h2,hF⟩
           ·refine Wo.og (ae rfl) (gg rfl rfl (bB h2)) rfl<|Wo.og (aj rfl rfl (bW _ _ _)) (gg rfl rfl (bB h2)) rfl<|Wo.od (dw rfl h2 rfl) rfl<|Wo.od (ak rfl) rfl<|Wo.nil ?_;cases hF;exact At.en () rfl (sc rfl (sc rfl (sc rfl (sc rfl (sc rfl (sc rfl (sc rfl sn))))))) (aa.U [0,1,2,3,4,5,6,7,8] rfl rfl)
           ·refine Wo.s (gg rfl rfl (bJ h2)) rfl<|Wo.s (gg rfl rfl (bJ h2)) rfl<|Wo.od (dj rfl h2 rfl) rfl<|Wo.od (ak rfl) rfl<|Wo.nil ?_;cases hF;exact At.en () rfl (sc rfl (sc rfl (sc rfl (sc rfl (sc rfl (sc rfl (sc rfl sn))))))) (aa.U [0,1,2,3,4,5,6,7,8] rfl rfl)
          ·refine Wo.s (gg rfl rfl (bJ h0)) rfl<|Wo.s (gg rfl rfl (bJ h0)) rfl<|Wo.s (gg rfl rfl (bJ h0)) rfl<|Wo.s (gg rfl rfl (bJ h0)) rfl<|Wo.s (gg rfl rfl (bJ h0)) rfl<|Wo.s (gg rfl rfl (bJ h0)) rfl<|Wo.od (dj rfl h0 rfl) rfl<|Wo.od (ae rfl) rfl<|Wo.s (gg rfl rfl rfl) rfl<|Wo.s (gg rfl rfl rfl) rfl ?_;refine Wo.od (zD rfl rfl) rfl<|Wo.od (ak rfl) rfl<|Wo.nil ?_;cases hF;exact At.en () rfl (sc rfl (sc rfl (sc rfl (sc rfl (sc rfl (sc rfl (sc rfl sn))))))) (aa.U [0,1,2,3,4,5,6,7,8] rfl rfl)
         ·clear h27;rintro⟨⟩;refine At.tn ?_;rcases ah hF with⟨h11,hF⟩|⟨h11,hF⟩
          ·refine Wk.aB rfl h11<|Wk.region<|Wo.od (ai (k:=4) aW rfl rfl rfl) rfl<|Wo.od (aj rfl rfl (az _ _ _)) rfl<|Wo.o0 (bI (k:=4) aW rfl rfl rfl rfl rfl)<|Wo.nil<|At.bn<|At.bn ?_;cases hF;exact At.en () rfl sn (aa.U [0,1,2,3,4,6,7,8] rfl rfl)
          ·refine Wk.aA rfl h11<|Wk.seq ?_;obtain⟨v5,h28,hF⟩:=J hF;refine Wk.cut (G:=(fun(r:Bool) (g:Unit)=>match r,g with|v5,_=>⟨.normal,[(3,ptr b0 0),(4,ptr b1 0),(5,ptr b2 0),(7,ptr b3 0),(8,ptr b4 0),(50,.bool v5)],[.obj l1 (r0 .busy none),.obj b0 (.cells [.int .i64 x5,.int .i64 x6] .own),.obj b1 (.cells [.int .i64 0] .own),.obj b2 (.cells [.int .i64 0] .own),.obj b3 (.cells [.int .i64 v1] .own),.obj b4 (.cells [.int .i64 v0,.int .i64 x3,.int .i64 x4,.int .i64 x10,.int .i64 x11] .own),.obj b6 (.cells [.slice (some ⟨b5,o1,none⟩) l0.length c0] .own),.ro b5 o1 2 l0.length (l0.map (eP (eI .i64) (eI .i64))),.rd (some ⟨b5,o1,none⟩) c0 2 l0.length (l0.map (eP (eI .i64) (eI .i64)))]⟩) v5) ?_ ?_
           ·clear hF;revert v5;intro r hF;refine Wk.region<|Wo.od (aw (r:=ptr b4 1) rfl (cN _ _)) rfl<|Wo.od (aw (r:=ptr b4 2) rfl (aF _ _)) rfl<|Wo.od (ai (k:=5) aW rfl rfl rfl) rfl<|Wo.od (aw (r:=ptr b0 1) rfl (aF _ _)) rfl<|Wo.od (ai (k:=1) aW rfl rfl rfl) rfl<|Wo.od (aj rfl rfl (bW _ _ _)) rfl<|Wo.od (ae rfl) rfl ?_;rcases ah hF with⟨h1,hF⟩|⟨h1,hF⟩
            ·refine Wo.og (aw (r:=ptr b4 3) rfl (c8 _ _)) (gg rfl rfl (bB h1)) rfl<|Wo.og (aw (r:=ptr b4 4) rfl (aF _ _)) (gg rfl rfl (bB h1)) rfl<|Wo.og (ai (k:=5) aW rfl rfl rfl) (gg rfl rfl (bB h1)) rfl<|Wo.og (aw (r:=ptr b0 1) rfl (aF _ _)) (gg rfl rfl (bB h1)) rfl<|Wo.og (ai (k:=1) aW rfl rfl rfl) (gg rfl rfl (bB h1)) rfl<|Wo.og (aj rfl rfl (dE _ _ _)) (gg rfl rfl (bB h1)) rfl<|Wo.od (dw rfl h1 rfl) rfl<|Wo.od (ae rfl) rfl ?_;rcases ah hF with⟨h3,hF⟩|⟨h3,hF⟩
             ·refine Wo.og (ae rfl) (gg rfl rfl (bB h3)) rfl<|Wo.og (aj rfl rfl (bh _ _ _)) (gg rfl rfl (bB h3)) rfl<|Wo.od (dw rfl h3 rfl) rfl<|Wo.od (ak rfl) rfl<|Wo.nil ?_;cases hF;exact At.en () rfl (sc rfl (sc rfl (sc rfl (sc rfl (sc rfl (sc rfl sn)))))) (aa.U [0,1,2,3,4,5,6,7,8] rfl rfl)
             ·refine Wo.s (gg rfl rfl (bJ h3)) rfl<|Wo.s (gg rfl rfl (bJ h3)) rfl<|Wo.od (dj rfl h3 rfl) rfl<|Wo.od (ak rfl) rfl<|Wo.nil ?_;cases hF;exact At.en () rfl (sc rfl (sc rfl (sc rfl (sc rfl (sc rfl (sc rfl sn)))))) (aa.U [0,1,2,3,4,5,6,7,8] rfl rfl)
            ·refine Wo.s (gg rfl rfl (bJ h1)) rfl<|Wo.s (gg rfl rfl (bJ h1)) rfl<|Wo.s (gg rfl rfl (bJ h1)) rfl<|Wo.s (gg rfl rfl (bJ h1)) rfl<|Wo.s (gg rfl rfl (bJ h1)) rfl<|Wo.s (gg rfl rfl (bJ h1)) rfl<|Wo.od (dj rfl h1 rfl) rfl<|Wo.od (ae rfl) rfl<|Wo.s (gg rfl rfl rfl) rfl<|Wo.s (gg rfl rfl rfl) rfl ?_;refine Wo.od (zD rfl rfl) rfl<|Wo.od (ak rfl) rfl<|Wo.nil ?_;cases hF;exact At.en () rfl (sc rfl (sc rfl (sc rfl (sc rfl (sc rfl (sc rfl sn)))))) (aa.U [0,1,2,3,4,5,6,7,8] rfl rfl)
           ·clear h28;rintro⟨⟩;refine At.tn ?_;rcases ah hF with⟨h12,hF⟩|⟨h12,hF⟩
            ·refine Wk.aB rfl h12<|Wk.region<|Wo.od (ai (k:=4) aW rfl rfl rfl) rfl<|Wo.od (aj rfl rfl (aN _ _ _)) rfl<|Wo.o0 (bI (k:=4) aW rfl rfl rfl rfl rfl)<|Wo.nil<|At.bn<|At.bn ?_;cases hF;exact At.en () rfl sn (aa.U [0,1,2,3,4,6,7,8] rfl rfl)
            ·refine Wk.aA rfl h12<|Wk.skip<|At.bn<|At.bn ?_;cases hF;exact At.en () rfl sn (aa.U [0,1,2,3,4,6,7,8] rfl rfl)
       ·clear h14;rcases r2 with _|v8
        ·rintro⟨⟩;refine Wo.od (ig rfl rfl) rfl<|Wo.nil<|At.tn<|Wk.aB rfl rfl<|Wk.ret<|At.br<|At.tr ?_;cases hF;exact At.en () rfl sn (aa.U [0,1,2,3,4] rfl rfl)
        ·rintro⟨⟩;refine Wo.od (ig rfl rfl) rfl<|Wo.nil<|At.tn<|Wk.aA rfl rfl<|Wk.skip<|At.bn<|At.tn<|Wk.region<|Wo.od (aj rfl rfl (az _ _ _)) rfl<|Wo.od (ae rfl) rfl<|Wo.nil ?_;cases hF;exact At.en () rfl (sc rfl (sc rfl (sc rfl (sc rfl (sc rfl sn))))) (aa.U [0,5,7,1,2,3,4] rfl rfl)
      ·refine Wk.aA rfl h8<|Wk.exit<|At.te ?_;cases hF;exact At.en () rfl sn (aa.U [0,3,4,5,6] rfl rfl)
     ·clear h7;rcases r4 with v2|v3
      ·rintro⟨⟩;refine At.br ?_;cases hF;exact At.ret .nil fun m' hm=>⟨(),(aa.U [0,1,2,3,4] rfl rfl) m' hm⟩
      ·rintro⟨⟩;refine At.be ?_;cases hF;exact At.fin .nil fun m' hm=>⟨(),(aa.U [0,1,2,3,4] rfl rfl) m' hm⟩
    ·clear h19;rcases r1 with v6|v7
     ·rintro⟨⟩
      change Wk _ _ _ _ .ret _ _ _ _
      refine Wk.ret<|At.br<|At.tr ?_;cases hF;exact At.ret (.cell (k:=1) aW rfl rfl rfl (.cell (k:=2) qn rfl rfl rfl .nil)) fun m' hm=>⟨(),rfl,(aa.U [] rfl rfl) m' hm⟩
     ·rintro⟨⟩
      change At _ .normal _ _ _
      refine At.bn<|At.tn<|Wk.seq<|Wk.seq<|Wk.region<|Wo.od (ai (k:=3) aW rfl rfl rfl) rfl<|Wo.od (aj rfl rfl (ep _ _)) rfl<|Wo.nil<|At.tn ?_;rcases ah hF with⟨h13,hF⟩|⟨h13,hF⟩
      ·refine Wk.aB rfl h13<|Wk.seq<|Wk.region<|Wo.o0 (bI (k:=1) aW rfl rfl rfl rfl rfl)<|Wo.o0 (bI (k:=2) qn rfl rfl rfl rfl rfl)<|Wo.nil<|At.tn<|Wk.ret<|At.tr ?_;cases hF;exact At.ret (.cell (k:=1) aW rfl rfl rfl (.cell (k:=2) qn rfl rfl rfl .nil)) fun m' hm=>⟨(),rfl,(aa.U [] rfl rfl) m' hm⟩
      ·refine Wk.aA rfl h13<|Wk.skip<|At.tn<|Wk.seq<|Wk.region<|Wo.o0 (bI (k:=1) aW rfl rfl rfl rfl rfl)<|Wo.o0 (bI (k:=2) qn rfl rfl rfl rfl rfl)<|Wo.nil<|At.tn<|Wk.ret ?_;cases hF;exact At.ret (.cell (k:=1) aW rfl rfl rfl (.cell (k:=2) qn rfl rfl rfl .nil)) fun m' hm=>⟨(),rfl,(aa.U [] rfl rfl) m' hm⟩
theorem Fy (n:Nat) (l0:List (Int × Int)) (a0:Option Addr) (c0:Nat) (r:Int × Int) (hF:Hj n l0=some r) (m:AMem) (h11:Rd m a0 c0 2 l0.length (l0.map (eP (eI .i64) (eI .i64)))) :
  aR bq 22 [.slice a0 l0.length c0] m (fun v m'=>∃_:Unit,v = .tuple #[.int .i64 r.1,.int .i64 r.2]∧Hp m m' []):=by
 unfold Hj at hF;refine aP (m0:=m) (ps:=[.rd a0 c0 2 l0.length (l0.map (eP (eI .i64) (eI .i64)))]) (N:=54) (rs:=[.tmp 2,.tmp 3]) rfl Tryz.func22 rfl rfl rfl ((Hp.start m).vJ rfl h11)<|Wk.seq<|Wk.region<|Wo.x (cQ rfl) gn rfl fun b3=>?_;refine Wo.od (ak rfl) rfl<|Wo.od (ak rfl) rfl<|Wo.nil<|At.tn<|Wk.seq<|Wk.seq<|Wk.region<|Wo.od (ai (k:=0) dP rfl rfl rfl) rfl ?_;obtain⟨r2,h12,hF⟩:=J hF;refine Wo.x (cL rfl rfl (fun m hm=>BG n l0 a0 c0 _ h12 m (hm.rd (k:=1) rfl (.rd _ _ _ _ _))) fun _=>rfl) gn rfl ?_;rintro⟨⟩;refine Wo.od (ak rfl) rfl<|Wo.nil<|At.tn<|Wk.seq<|Wk.region<|Wo.od (ae rfl) rfl<|Wo.od (aj rfl rfl (ep _ _)) rfl<|Wo.nil<|At.tn ?_;rcases ah hF with⟨h2,hF⟩|⟨h2,hF⟩
 ·refine Wk.aB rfl h2<|Wk.seq<|Wk.region<|Wo.od (ae rfl) rfl<|Wo.od (ak rfl) rfl<|Wo.od (ak rfl) rfl<|Wo.nil<|At.tn<|Wk.ret<|At.tr ?_;cases hF;exact At.ret (.tmp rfl (.tmp rfl .nil)) fun m' hm=>⟨(),rfl,(aa.U [] rfl rfl) m' hm⟩
 ·refine Wk.aA rfl h2<|Wk.skip<|At.tn<|Wk.seq<|Wk.region<|Wo.x (dG z3 rfl) gn rfl fun b4=>?_;refine Wo.o0 (bI (k:=0) aW rfl rfl rfl rfl rfl)<|Wo.nil<|At.tn<|Wk.seq<|Wk.seq<|Wk.region<|Wo.od (ai (k:=1) dP rfl rfl rfl) rfl ?_;obtain⟨r1,h13,hF⟩:=J hF;refine Wo.x (uP (α:=Nat) (V:=fun g=>(fun(r:Unit) (g:Nat)=>match r,g with|_,b2=>(.func (.func 86) #[] #[ptr b2 0]:Value)) r1 g) (N:=fun g=>(fun(r:Unit) (g:Nat)=>match r,g with|_,b2=>([.obj b2 (.cells [.slice a0 l0.length c0] .own),.rd a0 c0 2 l0.length (l0.map (eP (eI .i64) (eI .i64))),.obj b3 (.cells [.slice a0 l0.length c0] .own),.obj b4 (.cells [.int .i64 0] .own)]:List Pc)) r1 g) rfl rfl (fun m hm=>?_)) gn rfl ?_
  ·clear hF;revert r1;intro r hF;refine aP (N:=4) (rs:=[.tmp 2]) rfl Tryz.func63 rfl rfl rfl hm<|Wk.seq<|Wk.region<|Wo.x (cQ rfl) gn rfl fun b5=>?_;refine Wo.od (ak rfl) rfl<|Wo.nil<|At.tn<|Wk.seq<|Wk.region<|Wo.od (As rfl rfl) rfl<|Wo.od (ak rfl) rfl<|Wo.nil<|At.tn<|Wk.ret ?_;cases hF;exact At.ret (.tmp rfl .nil) fun m' hm=>⟨b5,rfl,(aa.U [0,3,2,1] rfl rfl) m' hm⟩
  ·clear h13;rintro b2;refine Wo.nil<|At.tn<|Wk.block ?_;obtain⟨v1,h14,hF⟩:=J hF;refine Wk.range (N:=27) (rs:=[]) (γ:=Unit) (X:=fun g=>(fun(r:Int) (g:Unit)=>(match r,g with|v1,_=>⟨.ready,none,[.obj b3 (.cells [.slice a0 l0.length c0] .own),.rd a0 c0 2 l0.length (l0.map (eP (eI .i64) (eI .i64))),.obj b4 (.cells [.int .i64 v1] .own)]⟩:Rn)) v1 g) rfl rfl Tryz.func86 rfl rfl rfl ?_ (fun y=>by intro e; cases e) ?_
   ·clear hF;revert v1;intro r hF;intro t0 l1 r0 h15 h16;refine Wk.seq<|Wk.region<|Wo.od (ai (k:=1) dP rfl rfl rfl) rfl<|Wo.od (fj (k:=2) oq rfl rfl (.inl rfl)) rfl<|Wo.od (ae rfl) rfl<|Wo.nil<|At.tn<|Wk.block ?_;obtain⟨v0,h3,hF⟩:=J hF;refine Wk.cut (G:=(fun(r:Int) (g:Unit)=>match r,g with|v0,_=>⟨(.exit 0),[],[.obj l1 (r0 .ready none),.obj b3 (.cells [.slice a0 l0.length c0] .own),.rd a0 c0 2 l0.length (l0.map (eP (eI .i64) (eI .i64))),.obj b4 (.cells [.int .i64 v0] .own)]⟩) v0) ?_ ?_
    ·refine Wk.fu (fs':=[(0,.func (.yield l1) #[] #[]),(1,ptr b2 0),(5,.slice a0 l0.length c0),(6,.int .i64 (l0.length:Int)),(7,.int .i64 0)]) (ps':=[.obj l1 (r0 .ready none),.obj b2 (.cells [.slice a0 l0.length c0] .own),.rd a0 c0 2 l0.length (l0.map (eP (eI .i64) (eI .i64))),.obj b3 (.cells [.slice a0 l0.length c0] .own),.obj b4 (.cells [.int .i64 0] .own)]) (sc rfl (sc rfl (sc rfl (sc rfl (sc rfl sn))))) (aa.U [0,1,2,3,4] rfl rfl) ?_;refine Wk.loop (σ:=Int × Int) (ρ:=Int) (γ:=Unit) (δ:=fun _=>Unit) _ (fun(s:Int × Int) (g:Unit)=>match s,g with | (v3,v4),_=>⟨.normal,[(0,.func (.yield l1) #[] #[]),(1,ptr b2 0),(5,.slice a0 l0.length c0),(6,.int .i64 (l0.length:Int)),(7,.int .i64 v3)],[.obj l1 (r0 .ready none),.obj b2 (.cells [.slice a0 l0.length c0] .own),.rd a0 c0 2 l0.length (l0.map (eP (eI .i64) (eI .i64))),.obj b3 (.cells [.slice a0 l0.length c0] .own),.obj b4 (.cells [.int .i64 v4] .own)]⟩) (fun(r:Int) (g:Unit)=>match r,g with|v0,_=>⟨(.exit 0),[],[.obj l1 (r0 .ready none),.obj b3 (.cells [.slice a0 l0.length c0] .own),.rd a0 c0 2 l0.length (l0.map (eP (eI .i64) (eI .i64))),.obj b4 (.cells [.int .i64 v0] .own)]⟩) ?_ (fun _ _=>rfl) (fun r d=>by intro e; cases e) _ _ _ h3 ()
     clear hF h3;rintro⟨v3,v4⟩ ⟨⟩ r hF;unfold qB at hF;refine Wk.seq<|Wk.region<|Wo.od (aj rfl rfl (bh _ _ _)) rfl<|Wo.nil<|At.tn<|Wk.seq ?_;rcases ah hF with⟨h4,hF⟩|⟨h4,hF⟩
     ·refine Wk.aB rfl h4<|Wk.skip<|At.tn<|Wk.seq<|Wk.block<|Wk.seq<|Wk.region<|Wo.od (ae rfl) rfl ?_;obtain⟨h0,hF⟩:=ay hF;replace h0:=aG h0;refine Wo.fF (k:=2) rfl (dq h0) ?_;rintro b0 o1 rfl;refine Wo.og (cq fT rfl rfl h0) gn rfl ?_;obtain⟨⟨x3,x4⟩,h17,hF⟩:=J hF;refine Wo.od (cx (k:=0) ax rfl rfl (bp h17) rfl rfl) rfl<|Wo.x (dG z33 rfl) gn rfl fun b7=>?_;refine Wo.od (ak rfl) rfl<|Wo.o0 (bI (k:=0) ax rfl rfl rfl rfl rfl)<|Wo.nil<|At.tn<|Wk.seq<|Wk.draw (by kernel_rfl)<|Wo.od (ae rfl) rfl<|Wo.od (ae rfl) rfl<|Wo.od (ai (k:=0) ax rfl rfl rfl) rfl<|Wo.od (ai (k:=3) dP rfl rfl rfl) rfl<|Wo.od (ae rfl) rfl<|Wo.od (aj rfl rfl (az _ _ _)) rfl<|Wo.od (ai (k:=3) dP rfl rfl rfl) rfl ?_
      refine Wo.od (fj (k:=1) oq rfl rfl (.inl rfl)) rfl ?_;obtain⟨h18,hF⟩:=ay hF;refine Wo.od (aj rfl rfl (dm _ _ h18)) rfl ?_;obtain⟨h5,hF⟩:=ay hF;replace h5:=aG h5;refine Wo.og (cq fT rfl rfl h5) gn rfl ?_;obtain⟨⟨x10,x11⟩,h19,hF⟩:=J hF;refine Wo.od (cx (k:=1) ax rfl rfl (bp h19) rfl rfl) rfl<|Wo.od (eE rfl AE rfl (eH z1 rfl rfl rfl)) rfl ?_;obtain⟨v2,h10,hF⟩:=J hF;refine Wo.x (Ax (k:=2) (k1:=0) (γA:=Nat) (GA:=(fun g:Nat=>(match g with|b1=>⟨.normal,[(1,ptr b3 0),(5,ptr b4 0),(6,ptr b1 0)],[.obj l1 (r0 .ready none),.obj b3 (.cells [.slice (some ⟨b0,o1,none⟩) l0.length c0] .own),.ro b0 o1 2 l0.length (l0.map (eP (eI .i64) (eI .i64))),.rd (some ⟨b0,o1,none⟩) c0 2 l0.length (l0.map (eP (eI .i64) (eI .i64))),.obj b4 (.cells [.int .i64 v4] .own),.obj b1 (.cells [.int .i64 v3,.int .i64 x3,.int .i64 x4,.int .i64 x10,.int .i64 x11] .own),.obj b2 (.cells [.slice (some ⟨b0,o1,none⟩) l0.length c0] .own)]⟩:En))) (γ:=Unit) (G:=fun g=>(fun(r:Int) (g:Unit)=>(match r,g with|v2,_=>⟨.normal,[],[.obj l1 (r0 .busy none),.obj b3 (.cells [.slice (some ⟨b0,o1,none⟩) l0.length c0] .own),.ro b0 o1 2 l0.length (l0.map (eP (eI .i64) (eI .i64))),.rd (some ⟨b0,o1,none⟩) c0 2 l0.length (l0.map (eP (eI .i64) (eI .i64))),.obj b4 (.cells [.int .i64 v2] .own),.obj b2 (.cells [.slice (some ⟨b0,o1,none⟩) l0.length c0] .own)]⟩:En)) v2 g) rfl rfl rfl h16 h15 rfl ?_ (fun _=>rfl) (fun _=>rfl) ?_ (fun y=>rfl)) gn rfl ?_
      ·clear hF h10;refine Wk.region<|Wo.x (dG AE rfl) gn rfl fun b6=>?_;refine Wo.o0 (bI (k:=0) o7 rfl rfl rfl rfl rfl)<|Wo.nil ?_;exact At.en b6 rfl (sc rfl (sc rfl (sc rfl sn))) (aa.U [3,6,2,5,7,0,4] rfl rfl)
      ·clear hF;revert v2;intro r hF;rintro b1;refine Wk.block<|Wk.seq<|Wk.draw (by kernel_rfl)<|Wo.od (ai (k:=4) aW rfl rfl rfl) rfl<|Wo.od (aw (r:=ptr b1 1) rfl (cN _ _)) rfl<|Wo.od (aw (r:=ptr b1 1) rfl (aJ _ _)) rfl<|Wo.od (ai (k:=5) aW rfl rfl rfl) rfl<|Wo.od (ai (k:=1) dP rfl rfl rfl) rfl ?_
       obtain⟨h6,hF⟩:=ay hF;replace h6:=aG h6;refine Wo.og (cq fT rfl rfl h6) gn rfl<|Wo.od (aw (r:=ptr b0 (o1+(0:Int).toNat*2+0)) rfl (aJ _ _)) rfl ?_;obtain⟨⟨x12,x13⟩,h1,hF⟩:=J hF;refine Wo.od (cx (k:=2) aW rfl rfl (bp h1) rfl rfl) rfl<|Wo.od (aj rfl rfl (aN _ _ _)) rfl<|Wo.od (aw (r:=ptr b1 3) rfl (c8 _ _)) rfl<|Wo.od (aw (r:=ptr b1 4) rfl (aF _ _)) rfl<|Wo.od (ai (k:=5) aW rfl rfl rfl) rfl<|Wo.od (ai (k:=1) dP rfl rfl rfl) rfl ?_;obtain⟨h7,hF⟩:=ay hF;replace h7:=aG h7;refine Wo.og (cq fT rfl rfl h7) gn rfl<|Wo.od (aw (r:=ptr b0 (o1+(0:Int).toNat*2+1)) rfl (aF _ _)) rfl<|Wo.od (cx (k:=2) aW rfl rfl (bp h1) rfl rfl) rfl<|Wo.od (aj rfl rfl (aN _ _ _)) rfl ?_;obtain⟨y3,h20,hF⟩:=J hF;refine Wo.od (aj rfl rfl ((bZ _ _ _).trans (cI h20))) rfl<|Wo.od (aj rfl rfl (az _ _ _)) rfl<|Wo.o0 (bI (k:=4) aW rfl rfl rfl rfl rfl)<|Wo.nil<|At.tn<|Wk.draw (by kernel_rfl)<|Wo.od (ai (k:=4) aW rfl rfl rfl) rfl<|Wo.od (aw (r:=ptr b1 1) rfl (cN _ _)) rfl<|Wo.od (aw (r:=ptr b1 2) rfl (aF _ _)) rfl<|Wo.od (ai (k:=5) aW rfl rfl rfl) rfl<|Wo.od (ai (k:=1) dP rfl rfl rfl) rfl ?_
       obtain⟨h8,hF⟩:=ay hF;replace h8:=aG h8;refine Wo.og (cq fT rfl rfl h8) gn rfl<|Wo.od (aw (r:=ptr b0 (o1+(0:Int).toNat*2+1)) rfl (aF _ _)) rfl<|Wo.od (cx (k:=2) aW rfl rfl (bp h1) rfl rfl) rfl<|Wo.od (aj rfl rfl (aN _ _ _)) rfl<|Wo.od (aw (r:=ptr b1 3) rfl (c8 _ _)) rfl<|Wo.od (aw (r:=ptr b1 3) rfl (aJ _ _)) rfl<|Wo.od (ai (k:=5) aW rfl rfl rfl) rfl<|Wo.od (ai (k:=1) dP rfl rfl rfl) rfl ?_;obtain⟨h9,hF⟩:=ay hF;replace h9:=aG h9;refine Wo.og (cq fT rfl rfl h9) gn rfl<|Wo.od (aw (r:=ptr b0 (o1+(0:Int).toNat*2+0)) rfl (aJ _ _)) rfl<|Wo.od (cx (k:=2) aW rfl rfl (bp h1) rfl rfl) rfl<|Wo.od (aj rfl rfl (aN _ _ _)) rfl ?_;obtain⟨y4,h21,hF⟩:=J hF;refine Wo.od (aj rfl rfl ((bZ _ _ _).trans (cI h21))) rfl<|Wo.od (aj rfl rfl (aN _ _ _)) rfl<|Wo.o0 (bI (k:=4) aW rfl rfl rfl rfl rfl)<|Wo.nil<|At.bn ?_;cases hF;exact At.en () rfl sn (aa.U [0,1,2,3,4,6] rfl rfl)
      ·clear h10;rintro⟨⟩;refine Wo.od (ig rfl rfl) rfl<|Wo.nil<|At.tn<|Wk.aA rfl rfl<|Wk.skip<|At.bn<|At.tn<|Wk.region<|Wo.od (aj rfl rfl (az _ _ _)) rfl<|Wo.od (ae rfl) rfl<|Wo.nil ?_;cases hF;exact At.en () rfl (sc rfl (sc rfl (sc rfl (sc rfl (sc rfl sn))))) (aa.U [0,5,3,1,4] rfl rfl)
     ·refine Wk.aA rfl h4<|Wk.exit<|At.te ?_;cases hF;exact At.en () rfl sn (aa.U [0,3,2,4] rfl rfl)
    ·clear h3;rintro⟨⟩;refine At.be ?_;have hr:=Option.some.inj hF;subst r;exact At.fin .nil fun m' hm=>⟨(),(aa.U [0,1,2,3] rfl rfl) m' hm⟩
   ·clear h14;rintro⟨⟩
    change At _ .normal _ _ _
    refine At.bn<|At.tn<|Wk.seq<|Wk.region<|Wo.od (ai (k:=2) aW rfl rfl rfl) rfl<|Wo.od (ak rfl) rfl<|Wo.od (ak rfl) rfl<|Wo.nil<|At.tn<|Wk.ret ?_;cases hF;exact At.ret (.tmp rfl (.tmp rfl .nil)) fun m' hm=>⟨(),rfl,(aa.U [] rfl rfl) m' hm⟩
theorem Fl (n:Nat) (l1:List (Int × Int)) (x5:Int) (a2:Option Addr) (c3:Nat) (r:Bool) (hF:Ie n l1 x5=some r) (m:AMem) (h4:Rd m a2 c3 2 l1.length (l1.map (eP (eI .i64) (eI .i64)))) :
  aR bq 21 [.slice a2 l1.length c3,.int .i64 x5] m (fun v m'=>∃_:Unit,v = .bool r∧Hp m m' []):=by
 unfold Ie at hF;refine aP (m0:=m) (ps:=[.rd a2 c3 2 l1.length (l1.map (eP (eI .i64) (eI .i64)))]) (N:=19) (rs:=[.tmp 4]) rfl Tryz.func21 rfl rfl rfl ((Hp.start m).vJ rfl h4)<|Wk.seq<|Wk.region<|Wo.od (ak rfl) rfl<|Wo.nil<|At.tn<|Wk.seq<|Wk.region<|Wo.od (ae rfl) rfl ?_;obtain⟨⟨r7,r8⟩,h6,hF⟩:=J hF;refine Wo.x (cL rfl rfl (fun m hm=>Fy n l1 a2 c3 _ h6 m (hm.rd (k:=0) rfl (.rd _ _ _ _ _))) fun _=>rfl) gn rfl ?_;rintro⟨⟩;refine Wo.od (ae rfl) rfl<|Wo.od (qh rfl rfl) rfl<|Wo.od (qh rfl rfl) rfl<|Wo.od (ak rfl) rfl<|Wo.od (ak rfl) rfl<|Wo.nil<|At.tn<|Wk.seq<|Wk.region<|Wo.od (ae rfl) rfl<|Wo.od (ae rfl) rfl<|Wo.od (aj rfl rfl (bY _ _ _)) rfl<|Wo.od (ae rfl) rfl ?_;rcases ah hF with⟨h9,hF⟩|⟨h9,hF⟩
 ·refine Wo.og (ae rfl) (gg rfl rfl (bB h9)) rfl<|Wo.og (aj rfl rfl (bY _ _ _)) (gg rfl rfl (bB h9)) rfl<|Wo.od (dw rfl h9 rfl) rfl<|Wo.od (ak rfl) rfl<|Wo.nil<|At.tn<|Wk.ret ?_;cases hF;exact At.ret (.tmp rfl .nil) fun m' hm=>⟨(),rfl,(aa.U [] rfl rfl) m' hm⟩
 ·refine Wo.s (gg rfl rfl (bJ h9)) rfl<|Wo.s (gg rfl rfl (bJ h9)) rfl<|Wo.od (dj rfl h9 rfl) rfl<|Wo.od (ak rfl) rfl<|Wo.nil<|At.tn<|Wk.ret ?_;cases hF;exact At.ret (.tmp rfl .nil) fun m' hm=>⟨(),rfl,(aa.U [] rfl rfl) m' hm⟩
theorem H7 (n:Nat) (l1:List (Nat)) (x5:Int) (x6:Int) (x7:Nat) (x8:Bool) (x9:Bool) (a0:Option Addr) (c0:Nat) (r:Bool) (hF:F4 n l1 x5 x6 x7 x8 x9=some r) (m:AMem) (h21:Rd m a0 c0 1 l1.length (l1.map (eN .u8))) :
  aR bq 4 [.agg #[.slice a0 l1.length c0,.int .i16 x5,.int .i16 x6,.int .u8 ((x7:Nat):Int),.bool x8,.bool x9]] m (fun v m'=>∃_:Unit,v = .bool r∧Hp m m' []):=by
 unfold F4 at hF;refine aP (m0:=m) (ps:=[.rd a0 c0 1 l1.length (l1.map (eN .u8))]) (N:=161) (rs:=[.tmp 2]) rfl Tryz.func4 rfl rfl rfl ((Hp.start m).vJ rfl h21)<|Wk.seq<|Wk.region<|Wo.x (cQ rfl) gn rfl fun b4=>?_;refine Wo.od (ak rfl) rfl<|Wo.nil<|At.tn<|Wk.seq<|Wk.seq<|Wk.region ?_;obtain⟨r5,h22,hF⟩:=J hF;refine Wo.x (cL rfl rfl (fun m hm=>FY n   _ h22 m) fun _=>rfl) gn rfl ?_;rintro⟨⟩;refine Wo.od (ig rfl rfl) rfl<|Wo.nil<|At.tn ?_;rcases ah hF with⟨h7,hF⟩|⟨h7,hF⟩
 ·refine Wk.aB rfl h7<|Wk.seq<|Wk.region<|Wo.od (ak rfl) rfl<|Wo.nil<|At.tn<|Wk.ret<|At.tr ?_;cases hF;exact At.ret (.tmp rfl .nil) fun m' hm=>⟨(),rfl,(aa.U [] rfl rfl) m' hm⟩
 ·refine Wk.aA rfl h7<|Wk.skip<|At.tn<|Wk.seq<|Wk.region<|Wo.od (aw (r:=ptr b4 3) rfl (wo _ _)) rfl<|Wo.od (ai (k:=0) IJ rfl rfl rfl) rfl<|Wo.od (aj rfl rfl (Gr _ _ (by decide))) rfl<|Wo.od (aw (r:=ptr b4 3) rfl (wo _ _)) rfl<|Wo.o0 (bI (k:=0) IJ rfl rfl rfl rfl rfl)<|Wo.od (aw (r:=ptr b4 5) rfl (CD _ _)) rfl<|Wo.o0 (bI (k:=0) Jk rfl rfl rfl rfl rfl)<|Wo.nil<|At.tn<|Wk.seq<|Wk.region<|Wo.od (ai (k:=0) Bo rfl rfl rfl) rfl ?_
  obtain⟨l0,h23,hF⟩:=J hF;refine Wo.x (cL rfl rfl (fun m hm=>FZ n l1 x5 x6 (x7%2) x8 false a0 c0 _ h23 m (hm.rd (k:=1) rfl (.rd _ _ _ _ _))) fun _=>rfl) gn rfl ?_;rintro⟨a1,n0⟩;refine Wo.len (k:=0) (xs:=l0) rfl ?_;rintro rfl;refine Wo.od (ak rfl) rfl<|Wo.nil<|At.tn<|Wk.seq<|Wk.gP (prs:=[(5,8)]) (by kernel_rfl)<|Wn.od (ae rfl) rfl ?_
  obtain⟨h6,hF⟩:=ay hF;replace h6:=aG h6;refine Wn.open (k:=0) rfl (dq h6) ?_;rintro b0 t0 rfl h33;refine Wn.og (nG fT rfl rfl h6) gn rfl ?_;obtain⟨⟨x3,x4⟩,h20,hF⟩:=J hF;refine Wn.od (lR (k:=0) ax rfl rfl (bp h20) rfl rfl) rfl<|Wn.od (ae rfl) rfl ?_;obtain⟨h8,hF⟩:=ay hF;replace h8:=aG h8;refine Wn.og (nG fT rfl rfl h8) gn rfl<|Wn.He rfl (lR (k:=0) ax rfl rfl (bp h20) rfl rfl) rfl<|Wn.x (dG z33 rfl) gn rfl fun b1=>?_;refine Wn.x (dG z33 rfl) gn rfl fun b2=>?_;refine Wn.Hg rfl (bI (k:=1) ax rfl rfl rfl rfl rfl)<|Wn.o0 (bI (k:=0) ax rfl rfl rfl rfl rfl)<|Wn.nil (fun m hm=>(hI.rw rfl rfl rfl (hm.ne (i:=2) (j:=1) rfl rfl rfl rfl (by decide) rfl) hI.nil))<|At.tn<|Wk.seq<|Wk.region<|Wo.od (ak rfl) rfl<|Wo.nil<|At.tn<|Wk.seq<|Wk.seq<|Wk.region<|Wo.od (ae rfl) rfl<|Wo.od (fj (k:=2) oq rfl rfl (.inl rfl)) rfl<|Wo.od (ae rfl) rfl<|Wo.nil<|At.tn<|Wk.block ?_
  obtain⟨r1,h9,hF⟩:=J hF;refine Wk.cut (G:=(fun(r:Int × Int × Int × Int × Int) (g:Unit)=>match r,g with | (v1,v2,v3,v4,v0),_=>⟨(.exit 0),[(3,.slice (some ⟨b0,0,none⟩) l0.length l0.length),(4,ptr b1 0),(5,ptr b2 0),(6,.int .i64 v0)],[.arr b0 2 l0.length (l0.map (eP (eI .i64) (eI .i64))) t0,.obj b1 (.cells [.int .i64 v1,.int .i64 v2] .own),.obj b2 (.cells [.int .i64 v3,.int .i64 v4] .own)]⟩) r1) ?_ ?_
  ·refine Wk.fu (fs':=[(3,.slice (some ⟨b0,0,none⟩) l0.length l0.length),(4,ptr b1 0),(5,ptr b2 0),(6,.int .i64 0),(31,.slice (some ⟨b0,0,none⟩) l0.length l0.length),(32,.int .i64 (l0.length:Int)),(33,.int .i64 0)]) (ps':=[.arr b0 2 l0.length (l0.map (eP (eI .i64) (eI .i64))) t0,.obj b1 (.cells [.int .i64 x3,.int .i64 x4] .own),.obj b2 (.cells [.int .i64 x3,.int .i64 x4] .own)]) (sc rfl (sc rfl (sc rfl (sc rfl (sc rfl (sc rfl (sc rfl sn))))))) (aa.U [2,1,0] rfl rfl) ?_;refine Wk.loop (σ:=Int × Int × Int × Int × Int × Int) (ρ:=Int × Int × Int × Int × Int) (γ:=Unit) (δ:=fun _=>Unit) _ (fun(s:Int × Int × Int × Int × Int × Int) (g:Unit)=>match s,g with | (v16,v17,v18,v19,v20,v21),_=>⟨.normal,[(3,.slice (some ⟨b0,0,none⟩) l0.length l0.length),(4,ptr b1 0),(5,ptr b2 0),(6,.int .i64 v20),(31,.slice (some ⟨b0,0,none⟩) l0.length l0.length),(32,.int .i64 (l0.length:Int)),(33,.int .i64 v21)],[.arr b0 2 l0.length (l0.map (eP (eI .i64) (eI .i64))) t0,.obj b1 (.cells [.int .i64 v16,.int .i64 v17] .own),.obj b2 (.cells [.int .i64 v18,.int .i64 v19] .own)]⟩) (fun(r:Int × Int × Int × Int × Int) (g:Unit)=>match r,g with | (v1,v2,v3,v4,v0),_=>⟨(.exit 0),[(3,.slice (some ⟨b0,0,none⟩) l0.length l0.length),(4,ptr b1 0),(5,ptr b2 0),(6,.int .i64 v0)],[.arr b0 2 l0.length (l0.map (eP (eI .i64) (eI .i64))) t0,.obj b1 (.cells [.int .i64 v1,.int .i64 v2] .own),.obj b2 (.cells [.int .i64 v3,.int .i64 v4] .own)]⟩) ?_ (fun _ _=>rfl) (fun r d=>by intro e; cases e) _ _ _ h9 ()
   clear hF h9;rintro⟨v16,v17,v18,v19,v20,v21⟩ ⟨⟩ r hF;unfold Cp at hF;refine Wk.seq<|Wk.region<|Wo.od (aj rfl rfl (bh _ _ _)) rfl<|Wo.nil<|At.tn<|Wk.seq ?_;rcases ah hF with⟨h10,hF⟩|⟨h10,hF⟩
   ·refine Wk.aB rfl h10<|Wk.skip<|At.tn<|Wk.seq<|Wk.block<|Wk.seq<|Wk.region<|Wo.od (ae rfl) rfl ?_;obtain⟨h11,hF⟩:=ay hF;replace h11:=aG h11;refine Wo.og (nG fT rfl rfl h11) gn rfl ?_;obtain⟨⟨x10,x11⟩,h24,hF⟩:=J hF;refine Wo.od (lR (k:=0) ax rfl rfl (bp h24) rfl rfl) rfl<|Wo.x (dG z33 rfl) gn rfl fun b3=>?_;refine Wo.od (ak rfl) rfl<|Wo.o0 (bI (k:=0) ax rfl rfl rfl rfl rfl)<|Wo.nil<|At.tn<|Wk.seq<|Wk.region<|Wo.od (aw (r:=ptr b1 0) rfl (aJ _ _)) rfl<|Wo.od (ai (k:=2) aW rfl rfl rfl) rfl<|Wo.od (aw (r:=ptr b3 0) rfl (aJ _ _)) rfl<|Wo.od (ai (k:=0) aW rfl rfl rfl) rfl<|Wo.od (fH rfl rfl (jr _ _)) rfl<|Wo.od (aw (r:=ptr b1 1) rfl (aF _ _)) rfl<|Wo.od (ai (k:=2) aW rfl rfl rfl) rfl<|Wo.od (aw (r:=ptr b3 1) rfl (aF _ _)) rfl ?_;refine Wo.od (ai (k:=0) aW rfl rfl rfl) rfl<|Wo.od (fH rfl rfl (jr _ _)) rfl<|Wo.od (eE rfl z33 rfl (eH il rfl rfl rfl)) rfl<|Wo.o0 (bI (k:=2) ax rfl rfl rfl rfl rfl)<|Wo.nil<|At.tn<|Wk.seq<|Wk.region<|Wo.od (aw (r:=ptr b2 0) rfl (aJ _ _)) rfl<|Wo.od (ai (k:=3) aW rfl rfl rfl) rfl<|Wo.od (aw (r:=ptr b3 0) rfl (aJ _ _)) rfl<|Wo.od (ai (k:=0) aW rfl rfl rfl) rfl<|Wo.od (fH rfl rfl (iX _ _)) rfl<|Wo.od (aw (r:=ptr b2 1) rfl (aF _ _)) rfl ?_;refine Wo.od (ai (k:=3) aW rfl rfl rfl) rfl<|Wo.od (aw (r:=ptr b3 1) rfl (aF _ _)) rfl<|Wo.od (ai (k:=0) aW rfl rfl rfl) rfl<|Wo.od (fH rfl rfl (iX _ _)) rfl<|Wo.od (eE rfl z33 rfl (eH il rfl rfl rfl)) rfl<|Wo.o0 (bI (k:=3) ax rfl rfl rfl rfl rfl)<|Wo.nil<|At.tn<|Wk.seq<|Wk.region<|Wo.od (ae rfl) rfl<|Wo.od (ae rfl) rfl<|Wo.od (aj rfl rfl (az _ _ _)) rfl<|Wo.od (ae rfl) rfl ?_;refine Wo.od (fj (k:=1) oq rfl rfl (.inl rfl)) rfl ?_;obtain⟨h25,hF⟩:=ay hF;refine Wo.od (aj rfl rfl (dm _ _ h25)) rfl ?_;obtain⟨h12,hF⟩:=ay hF;replace h12:=aG h12;refine Wo.og (nG fT rfl rfl h12) gn rfl ?_;obtain⟨⟨x12,x13⟩,h26,hF⟩:=J hF;refine Wo.od (lR (k:=1) ax rfl rfl (bp h26) rfl rfl) rfl<|Wo.x (dG z33 rfl) gn rfl fun b5=>?_;refine Wo.o0 (bI (k:=0) ax rfl rfl rfl rfl rfl)<|Wo.nil<|At.tn<|Wk.region<|Wo.od (ae rfl) rfl<|Wo.od (aw (r:=ptr b5 0) rfl (aJ _ _)) rfl<|Wo.od (ai (k:=0) aW rfl rfl rfl) rfl<|Wo.od (aw (r:=ptr b3 0) rfl (aJ _ _)) rfl<|Wo.od (ai (k:=1) aW rfl rfl rfl) rfl<|Wo.od (aj rfl rfl (aN _ _ _)) rfl<|Wo.od (aw (r:=ptr b5 1) rfl (aF _ _)) rfl<|Wo.od (ai (k:=0) aW rfl rfl rfl) rfl<|Wo.od (aw (r:=ptr b3 1) rfl (aF _ _)) rfl ?_;refine Wo.od (ai (k:=1) aW rfl rfl rfl) rfl<|Wo.od (aj rfl rfl (aN _ _ _)) rfl ?_;obtain⟨r6,h27,hF⟩:=J hF;refine Wo.x (cL rfl rfl (fun m hm=>Gt n (IntKind.wrap .i64 (x12-x10)) (IntKind.wrap .i64 (x13-x11))  _ h27 m) fun _=>rfl) gn rfl ?_;rintro⟨⟩;refine Wo.od (aj rfl rfl (az _ _ _)) rfl<|Wo.od (ak rfl) rfl<|Wo.nil<|At.bn<|At.tn<|Wk.region<|Wo.od (aj rfl rfl (az _ _ _)) rfl<|Wo.od (ae rfl) rfl<|Wo.nil ?_;cases hF;exact At.en () rfl (sc rfl (sc rfl (sc rfl (sc rfl (sc rfl (sc rfl (sc rfl sn))))))) (aa.U [2,3,4] rfl rfl)
   ·refine Wk.aA rfl h10<|Wk.exit<|At.te ?_;cases hF;exact At.en () rfl (sc rfl (sc rfl (sc rfl (sc rfl sn)))) (aa.U [0,1,2] rfl rfl)
  ·clear h9;obtain⟨v1,v2,v3,v4,v0⟩:=r1;rintro⟨⟩;refine At.be<|At.tn<|Wk.seq<|Wk.region<|Wo.od (ak rfl) rfl<|Wo.od (ak rfl) rfl<|Wo.nil<|At.tn<|Wk.seq<|Wk.seq<|Wk.region<|Wo.od (aw (r:=ptr b1 0) rfl (aJ _ _)) rfl<|Wo.od (ai (k:=1) aW rfl rfl rfl) rfl<|Wo.od (aj rfl rfl (aN _ _ _)) rfl<|Wo.od (ak rfl) rfl<|Wo.nil<|At.tn<|Wk.block ?_;obtain⟨r2,h13,hF⟩:=J hF;refine Wk.cut (G:=(fun(r:(Unit) ⊕ (Int × Int)) (g:Unit)=>match r,g with | .inl _,_=>⟨.ret,[(2,.bool false)],[]⟩ | .inr (v7,v8),_=>⟨(.exit 2),[(3,.slice (some ⟨b0,0,none⟩) l0.length l0.length),(6,.int .i64 v0),(10,.int .i64 v7),(11,.int .i64 v8)],[.arr b0 2 l0.length (l0.map (eP (eI .i64) (eI .i64))) t0]⟩) r2) ?_ ?_
   ·refine Wk.fu (fs':=[(3,.slice (some ⟨b0,0,none⟩) l0.length l0.length),(4,ptr b1 0),(5,ptr b2 0),(6,.int .i64 v0),(10,.int .i64 0),(11,.int .i64 0),(12,.int .i64 (IntKind.wrap .i64 (v1-1)))]) (ps':=[.arr b0 2 l0.length (l0.map (eP (eI .i64) (eI .i64))) t0,.obj b1 (.cells [.int .i64 v1,.int .i64 v2] .own),.obj b2 (.cells [.int .i64 v3,.int .i64 v4] .own)]) (sc rfl (sc rfl (sc rfl (sc rfl (sc rfl (sc rfl (sc rfl sn))))))) (aa.U [0,1,2] rfl rfl) ?_;refine Wk.loop (σ:=Int × Int × Int) (ρ:=(Unit) ⊕ (Int × Int)) (γ:=Unit) (δ:=fun _=>Unit) _ (fun(s:Int × Int × Int) (g:Unit)=>match s,g with | (v12,v13,v5),_=>⟨.normal,[(3,.slice (some ⟨b0,0,none⟩) l0.length l0.length),(4,ptr b1 0),(5,ptr b2 0),(6,.int .i64 v0),(10,.int .i64 v12),(11,.int .i64 v13),(12,.int .i64 v5)],[.arr b0 2 l0.length (l0.map (eP (eI .i64) (eI .i64))) t0,.obj b1 (.cells [.int .i64 v1,.int .i64 v2] .own),.obj b2 (.cells [.int .i64 v3,.int .i64 v4] .own)]⟩) (fun(r:(Unit) ⊕ (Int × Int)) (g:Unit)=>match r,g with | .inl _,_=>⟨.ret,[(2,.bool false)],[]⟩ | .inr (v7,v8),_=>⟨(.exit 2),[(3,.slice (some ⟨b0,0,none⟩) l0.length l0.length),(6,.int .i64 v0),(10,.int .i64 v7),(11,.int .i64 v8)],[.arr b0 2 l0.length (l0.map (eP (eI .i64) (eI .i64))) t0]⟩) ?_ (fun _ _=>rfl) (fun r d=>by rcases r with _|_<;>(intro e; cases e)) _ _ _ h13 ()
    clear hF h13;rintro⟨v12,v13,v5⟩ ⟨⟩ r hF;unfold zG at hF;refine Wk.seq<|Wk.seq<|Wk.region<|Wo.od (ae rfl) rfl<|Wo.od (aw (r:=ptr b2 0) rfl (aJ _ _)) rfl<|Wo.od (ai (k:=2) aW rfl rfl rfl) rfl<|Wo.od (aj rfl rfl (az _ _ _)) rfl<|Wo.od (aj rfl rfl (dE _ _ _)) rfl<|Wo.nil<|At.tn ?_;rcases ah hF with⟨h14,hF⟩|⟨h14,hF⟩
    ·refine Wk.aB rfl h14<|Wk.skip<|At.tn<|Wk.seq<|Wk.block<|Wk.seq<|Wk.region<|Wo.od (aw (r:=ptr b1 1) rfl (aF _ _)) rfl<|Wo.od (ai (k:=1) aW rfl rfl rfl) rfl<|Wo.od (aj rfl rfl (aN _ _ _)) rfl<|Wo.od (ak rfl) rfl<|Wo.nil<|At.tn<|Wk.block ?_;obtain⟨r3,h15,hF⟩:=J hF;refine Wk.cut (G:=(fun(r:(Unit) ⊕ (Int × Int)) (g:Unit)=>match r,g with | .inl _,_=>⟨.ret,[(2,.bool false)],[]⟩ | .inr (v9,v10),_=>⟨(.exit 4),[(3,.slice (some ⟨b0,0,none⟩) l0.length l0.length),(4,ptr b1 0),(5,ptr b2 0),(6,.int .i64 v0),(10,.int .i64 v9),(11,.int .i64 v10),(12,.int .i64 v5)],[.arr b0 2 l0.length (l0.map (eP (eI .i64) (eI .i64))) t0,.obj b1 (.cells [.int .i64 v1,.int .i64 v2] .own),.obj b2 (.cells [.int .i64 v3,.int .i64 v4] .own)]⟩) r3) ?_ ?_
     ·refine Wk.fu (fs':=[(3,.slice (some ⟨b0,0,none⟩) l0.length l0.length),(4,ptr b1 0),(5,ptr b2 0),(6,.int .i64 v0),(10,.int .i64 v12),(11,.int .i64 v13),(12,.int .i64 v5),(13,.int .i64 (IntKind.wrap .i64 (v2-1)))]) (ps':=[.arr b0 2 l0.length (l0.map (eP (eI .i64) (eI .i64))) t0,.obj b1 (.cells [.int .i64 v1,.int .i64 v2] .own),.obj b2 (.cells [.int .i64 v3,.int .i64 v4] .own)]) (sc rfl (sc rfl (sc rfl (sc rfl (sc rfl (sc rfl (sc rfl (sc rfl sn)))))))) (aa.U [0,1,2] rfl rfl) ?_;refine Wk.loop (σ:=Int × Int × Int) (ρ:=(Unit) ⊕ (Int × Int)) (γ:=Unit) (δ:=fun _=>Unit) _ (fun(s:Int × Int × Int) (g:Unit)=>match s,g with | (v14,v15,v6),_=>⟨.normal,[(3,.slice (some ⟨b0,0,none⟩) l0.length l0.length),(4,ptr b1 0),(5,ptr b2 0),(6,.int .i64 v0),(10,.int .i64 v14),(11,.int .i64 v15),(12,.int .i64 v5),(13,.int .i64 v6)],[.arr b0 2 l0.length (l0.map (eP (eI .i64) (eI .i64))) t0,.obj b1 (.cells [.int .i64 v1,.int .i64 v2] .own),.obj b2 (.cells [.int .i64 v3,.int .i64 v4] .own)]⟩) (fun(r:(Unit) ⊕ (Int × Int)) (g:Unit)=>match r,g with | .inl _,_=>⟨.ret,[(2,.bool false)],[]⟩ | .inr (v9,v10),_=>⟨(.exit 4),[(3,.slice (some ⟨b0,0,none⟩) l0.length l0.length),(4,ptr b1 0),(5,ptr b2 0),(6,.int .i64 v0),(10,.int .i64 v9),(11,.int .i64 v10),(12,.int .i64 v5)],[.arr b0 2 l0.length (l0.map (eP (eI .i64) (eI .i64))) t0,.obj b1 (.cells [.int .i64 v1,.int .i64 v2] .own),.obj b2 (.cells [.int .i64 v3,.int .i64 v4] .own)]⟩) ?_ (fun _ _=>rfl) (fun r d=>by rcases r with _|_<;>(intro e; cases e)) _ _ _ h15 ()
      clear hF h15;rintro⟨v14,v15,v6⟩ ⟨⟩ r hF;unfold zT at hF;refine Wk.seq<|Wk.seq<|Wk.region<|Wo.od (ae rfl) rfl<|Wo.od (aw (r:=ptr b2 1) rfl (aF _ _)) rfl<|Wo.od (ai (k:=2) aW rfl rfl rfl) rfl<|Wo.od (aj rfl rfl (az _ _ _)) rfl<|Wo.od (aj rfl rfl (dE _ _ _)) rfl<|Wo.nil<|At.tn ?_;rcases ah hF with⟨h16,hF⟩|⟨h16,hF⟩
      ·refine Wk.aB rfl h16<|Wk.skip<|At.tn<|Wk.seq ?_;obtain⟨r0,h28,hF⟩:=J hF;refine Wk.cut (G:=(fun(r:(Unit) ⊕ (Int × Int)) (g:Unit)=>match r,g with | .inl _,_=>⟨.ret,[(2,.bool false)],[]⟩ | .inr (v22,v23),_=>⟨.normal,[(3,.slice (some ⟨b0,0,none⟩) l0.length l0.length),(4,ptr b1 0),(5,ptr b2 0),(6,.int .i64 v0),(10,.int .i64 v22),(11,.int .i64 v23),(12,.int .i64 v5),(13,.int .i64 v6)],[.arr b0 2 l0.length (l0.map (eP (eI .i64) (eI .i64))) t0,.obj b1 (.cells [.int .i64 v1,.int .i64 v2] .own),.obj b2 (.cells [.int .i64 v3,.int .i64 v4] .own)]⟩) r0) ?_ ?_
       ·clear hF;revert r0;intro r hF;refine Wk.block<|Wk.seq<|Wk.region<|Wo.od (ae rfl) rfl<|Wo.od (ae rfl) rfl<|Wo.od (ae rfl) rfl<|Wo.od (eE rfl z33 rfl (eH il rfl rfl rfl)) rfl ?_;obtain⟨⟨r4,r7⟩,h29,hF⟩:=J hF;refine Wo.x (cL rfl rfl (fun m hm=>F2 n l0 v5 v6 (some ⟨b0,0,none⟩) l0.length _ h29 m (hm.rd (k:=0) rfl (.arr _ _ _ _ _))) fun _=>rfl) gn rfl ?_;rintro⟨⟩;refine Wo.od (ae rfl) rfl<|Wo.od (qh rfl rfl) rfl<|Wo.od (qh rfl rfl) rfl<|Wo.od (ak rfl) rfl<|Wo.od (ak rfl) rfl<|Wo.nil<|At.tn<|Wk.seq<|Wk.seq ?_;obtain⟨v11,h30,hF⟩:=J hF;refine Wk.cut (G:=(fun(r:Bool) (g:Unit)=>match r,g with|v11,_=>⟨.normal,[(3,.slice (some ⟨b0,0,none⟩) l0.length l0.length),(4,ptr b1 0),(5,ptr b2 0),(6,.int .i64 v0),(10,.int .i64 v14),(11,.int .i64 v15),(12,.int .i64 v5),(13,.int .i64 v6),(14,.int .i64 r4),(139,.bool v11)],[.arr b0 2 l0.length (l0.map (eP (eI .i64) (eI .i64))) t0,.obj b1 (.cells [.int .i64 v1,.int .i64 v2] .own),.obj b2 (.cells [.int .i64 v3,.int .i64 v4] .own)]⟩) v11) ?_ ?_
        ·clear hF;revert v11;intro r hF;refine Wk.region<|Wo.od (ae rfl) rfl<|Wo.od (aj rfl rfl (ep _ _)) rfl<|Wo.od (ae rfl) rfl ?_;rcases ah hF with⟨h1,hF⟩|⟨h1,hF⟩
         ·refine Wo.s (gg rfl rfl (fW h1)) rfl<|Wo.s (gg rfl rfl (fW h1)) rfl<|Wo.s (gg rfl rfl (fW h1)) rfl<|Wo.s (gu rfl rfl) rfl<|Wo.s (gu rfl rfl) rfl<|Wo.s (gu rfl rfl) rfl<|Wo.s (gu rfl rfl) rfl<|Wo.s (gu rfl rfl) rfl<|Wo.s (gu rfl rfl) rfl<|Wo.s (gu rfl rfl) rfl ?_;refine Wo.s (gu rfl rfl) rfl<|Wo.s (gu rfl rfl) rfl<|Wo.s (gu rfl rfl) rfl<|Wo.s (gu rfl rfl) rfl<|Wo.s (gu rfl rfl) rfl<|Wo.s (gu rfl rfl) rfl<|Wo.s (gu rfl rfl) rfl<|Wo.s (gu rfl rfl) rfl<|Wo.s (gu rfl rfl) rfl<|Wo.s (gu rfl rfl) rfl ?_;refine Wo.s (gu rfl rfl) rfl<|Wo.s (gu rfl rfl) rfl<|Wo.s (gu rfl rfl) rfl<|Wo.s (gu rfl rfl) rfl<|Wo.s (gu rfl rfl) rfl<|Wo.s (gg rfl rfl (fW h1)) rfl<|Wo.od (dw rfl h1 rfl) rfl<|Wo.nil ?_;cases hF;exact At.en () rfl (sc rfl (sc rfl (sc rfl (sc rfl (sc rfl (sc rfl (sc rfl (sc rfl (sc rfl (sc rfl sn)))))))))) (aa.U [0,1,2] rfl rfl)
         ·refine Wo.og (ae rfl) (gg rfl rfl (fo h1)) rfl<|Wo.og (aj rfl rfl (bY _ _ _)) (gg rfl rfl (fo h1)) rfl<|Wo.og (ae rfl) (gg rfl rfl (fo h1)) rfl ?_;rcases ah hF with⟨h0,hF⟩|⟨h0,hF⟩
          ·refine Wo.og (ae rfl) (gg rfl rfl (bB h0)) rfl<|Wo.og (aw (r:=ptr b1 0) rfl (aJ _ _)) (gg rfl rfl (bB h0)) rfl<|Wo.og (ai (k:=1) aW rfl rfl rfl) (gg rfl rfl (bB h0)) rfl<|Wo.og (aj rfl rfl (dE _ _ _)) (gg rfl rfl (bB h0)) rfl<|Wo.og (ae rfl) (gg rfl rfl (bB h0)) rfl ?_;rcases ah hF with⟨h3,hF⟩|⟨h3,hF⟩
           ·refine Wo.s (gg rfl rfl (fW h3)) rfl<|Wo.s (gg rfl rfl (fW h3)) rfl<|Wo.s (gg rfl rfl (fW h3)) rfl<|Wo.s (gg rfl rfl (fW h3)) rfl<|Wo.og (dw rfl h3 rfl) (gg rfl rfl (bB h0)) rfl<|Wo.og (ae rfl) (gg rfl rfl (bB h0)) rfl<|Wo.s (gg rfl rfl rfl) rfl<|Wo.s (gg rfl rfl rfl) rfl<|Wo.s (gg rfl rfl rfl) rfl<|Wo.s (gg rfl rfl rfl) rfl ?_;refine Wo.og (qp rfl rfl) (gg rfl rfl (bB h0)) rfl<|Wo.og (ae rfl) (gg rfl rfl (bB h0)) rfl<|Wo.s (gg rfl rfl rfl) rfl<|Wo.s (gg rfl rfl rfl) rfl<|Wo.s (gg rfl rfl rfl) rfl<|Wo.s (gg rfl rfl rfl) rfl<|Wo.og (qp rfl rfl) (gg rfl rfl (bB h0)) rfl<|Wo.og (dw rfl h0 rfl) (gg rfl rfl (fo h1)) rfl<|Wo.od (dj rfl h1 rfl) rfl<|Wo.nil ?_;cases hF;exact At.en () rfl (sc rfl (sc rfl (sc rfl (sc rfl (sc rfl (sc rfl (sc rfl (sc rfl (sc rfl (sc rfl sn)))))))))) (aa.U [0,1,2] rfl rfl)
           ·refine Wo.og (ae rfl) (gg rfl rfl (fo h3)) rfl<|Wo.og (aw (r:=ptr b2 0) rfl (aJ _ _)) (gg rfl rfl (fo h3)) rfl<|Wo.og (ai (k:=2) aW rfl rfl rfl) (gg rfl rfl (fo h3)) rfl<|Wo.og (aj rfl rfl (iH _ _ _)) (gg rfl rfl (fo h3)) rfl<|Wo.og (dj rfl h3 rfl) (gg rfl rfl (bB h0)) rfl<|Wo.og (ae rfl) (gg rfl rfl (bB h0)) rfl ?_;rcases ah hF with⟨h4,hF⟩|⟨h4,hF⟩
            ·refine Wo.s (gg rfl rfl (fW h4)) rfl<|Wo.s (gg rfl rfl (fW h4)) rfl<|Wo.s (gg rfl rfl (fW h4)) rfl<|Wo.s (gg rfl rfl (fW h4)) rfl<|Wo.og (dw rfl h4 rfl) (gg rfl rfl (bB h0)) rfl<|Wo.og (ae rfl) (gg rfl rfl (bB h0)) rfl<|Wo.s (gg rfl rfl rfl) rfl<|Wo.s (gg rfl rfl rfl) rfl<|Wo.s (gg rfl rfl rfl) rfl<|Wo.s (gg rfl rfl rfl) rfl ?_;refine Wo.og (qp rfl rfl) (gg rfl rfl (bB h0)) rfl<|Wo.og (dw rfl h0 rfl) (gg rfl rfl (fo h1)) rfl<|Wo.od (dj rfl h1 rfl) rfl<|Wo.nil ?_;cases hF;exact At.en () rfl (sc rfl (sc rfl (sc rfl (sc rfl (sc rfl (sc rfl (sc rfl (sc rfl (sc rfl (sc rfl sn)))))))))) (aa.U [0,1,2] rfl rfl)
            ·refine Wo.og (ae rfl) (gg rfl rfl (fo h4)) rfl<|Wo.og (aw (r:=ptr b1 1) rfl (aF _ _)) (gg rfl rfl (fo h4)) rfl<|Wo.og (ai (k:=1) aW rfl rfl rfl) (gg rfl rfl (fo h4)) rfl<|Wo.og (aj rfl rfl (dE _ _ _)) (gg rfl rfl (fo h4)) rfl<|Wo.og (dj rfl h4 rfl) (gg rfl rfl (bB h0)) rfl<|Wo.og (ae rfl) (gg rfl rfl (bB h0)) rfl ?_;rcases ah hF with⟨h5,hF⟩|⟨h5,hF⟩
             ·refine Wo.s (gg rfl rfl (fW h5)) rfl<|Wo.s (gg rfl rfl (fW h5)) rfl<|Wo.s (gg rfl rfl (fW h5)) rfl<|Wo.s (gg rfl rfl (fW h5)) rfl<|Wo.og (dw rfl h5 rfl) (gg rfl rfl (bB h0)) rfl<|Wo.og (dw rfl h0 rfl) (gg rfl rfl (fo h1)) rfl<|Wo.od (dj rfl h1 rfl) rfl<|Wo.nil ?_;cases hF;exact At.en () rfl (sc rfl (sc rfl (sc rfl (sc rfl (sc rfl (sc rfl (sc rfl (sc rfl (sc rfl (sc rfl sn)))))))))) (aa.U [0,1,2] rfl rfl)
             ·refine Wo.og (ae rfl) (gg rfl rfl (fo h5)) rfl<|Wo.og (aw (r:=ptr b2 1) rfl (aF _ _)) (gg rfl rfl (fo h5)) rfl<|Wo.og (ai (k:=2) aW rfl rfl rfl) (gg rfl rfl (fo h5)) rfl<|Wo.og (aj rfl rfl (iH _ _ _)) (gg rfl rfl (fo h5)) rfl<|Wo.og (dj rfl h5 rfl) (gg rfl rfl (bB h0)) rfl<|Wo.og (dw rfl h0 rfl) (gg rfl rfl (fo h1)) rfl<|Wo.od (dj rfl h1 rfl) rfl<|Wo.nil ?_;cases hF;exact At.en () rfl (sc rfl (sc rfl (sc rfl (sc rfl (sc rfl (sc rfl (sc rfl (sc rfl (sc rfl (sc rfl sn)))))))))) (aa.U [0,1,2] rfl rfl)
          ·refine Wo.s (gg rfl rfl (bJ h0)) rfl<|Wo.s (gg rfl rfl (bJ h0)) rfl<|Wo.s (gg rfl rfl (bJ h0)) rfl<|Wo.s (gg rfl rfl (bJ h0)) rfl<|Wo.s (gg rfl rfl (bJ h0)) rfl<|Wo.s (gu rfl rfl) rfl<|Wo.s (gu rfl rfl) rfl<|Wo.s (gu rfl rfl) rfl<|Wo.s (gu rfl rfl) rfl<|Wo.s (gg rfl rfl (bJ h0)) rfl ?_;refine Wo.s (gg rfl rfl (bJ h0)) rfl<|Wo.s (gu rfl rfl) rfl<|Wo.s (gu rfl rfl) rfl<|Wo.s (gu rfl rfl) rfl<|Wo.s (gu rfl rfl) rfl<|Wo.s (gg rfl rfl (bJ h0)) rfl<|Wo.s (gg rfl rfl (bJ h0)) rfl<|Wo.s (gu rfl rfl) rfl<|Wo.s (gu rfl rfl) rfl<|Wo.s (gu rfl rfl) rfl ?_;refine Wo.s (gu rfl rfl) rfl<|Wo.s (gg rfl rfl (bJ h0)) rfl<|Wo.og (dj rfl h0 rfl) (gg rfl rfl (fo h1)) rfl<|Wo.od (dj rfl h1 rfl) rfl<|Wo.nil ?_;cases hF;exact At.en () rfl (sc rfl (sc rfl (sc rfl (sc rfl (sc rfl (sc rfl (sc rfl (sc rfl (sc rfl (sc rfl sn)))))))))) (aa.U [0,1,2] rfl rfl)
        ·clear h30;rintro⟨⟩;refine At.tn ?_;rcases ah hF with⟨h17,hF⟩|⟨h17,hF⟩
         ·refine Wk.aB rfl h17<|Wk.seq<|Wk.region<|Wo.od (ak rfl) rfl<|Wo.nil<|At.tn<|Wk.ret<|At.tr<|At.br ?_;cases hF;exact At.en () rfl (sc rfl sn) (aa.U [] rfl rfl)
         ·refine Wk.aA rfl h17<|Wk.skip<|At.tn<|Wk.seq<|Wk.region<|Wo.od (ae rfl) rfl<|Wo.nil<|At.tn<|Wk.block<|Wk.seq<|Wk.region<|Wo.od (aj rfl rfl (bY _ _ _)) rfl<|Wo.od (ak rfl) rfl<|Wo.nil<|At.tn ?_;rcases ah hF with⟨h18,hF⟩|⟨h18,hF⟩
          ·refine Wk.aB rfl h18<|Wk.region<|Wo.od (ae rfl) rfl<|Wo.od (aj rfl rfl (az _ _ _)) rfl<|Wo.od (ak rfl) rfl<|Wo.nil<|At.bn<|At.bn ?_;cases hF;exact At.en () rfl (sc rfl (sc rfl (sc rfl (sc rfl (sc rfl (sc rfl (sc rfl (sc rfl sn)))))))) (aa.U [0,1,2] rfl rfl)
          ·refine Wk.aA rfl h18<|Wk.seq<|Wk.region<|Wo.od (aj rfl rfl (bY _ _ _)) rfl<|Wo.od (ak rfl) rfl<|Wo.nil<|At.tn ?_;rcases ah hF with⟨h19,hF⟩|⟨h19,hF⟩
           ·refine Wk.aB rfl h19<|Wk.region<|Wo.od (ae rfl) rfl<|Wo.od (aj rfl rfl (az _ _ _)) rfl<|Wo.od (ak rfl) rfl<|Wo.nil<|At.bn<|At.bn ?_;cases hF;exact At.en () rfl (sc rfl (sc rfl (sc rfl (sc rfl (sc rfl (sc rfl (sc rfl (sc rfl sn)))))))) (aa.U [0,1,2] rfl rfl)
           ·refine Wk.aA rfl h19<|Wk.skip<|At.bn<|At.bn ?_;cases hF;exact At.en () rfl (sc rfl (sc rfl (sc rfl (sc rfl (sc rfl (sc rfl (sc rfl (sc rfl sn)))))))) (aa.U [0,1,2] rfl rfl)
       ·clear h28;rcases r0 with _|⟨v22,v23⟩
        ·rintro⟨⟩;refine At.tr ?_;cases hF;exact At.en () rfl (sc rfl sn) (aa.U [] rfl rfl)
        ·rintro⟨⟩;refine At.tn<|Wk.region<|Wo.od (ae rfl) rfl<|Wo.od (aj rfl rfl (az _ _ _)) rfl<|Wo.od (ak rfl) rfl<|Wo.nil ?_;cases hF;exact At.en () rfl (sc rfl (sc rfl (sc rfl (sc rfl (sc rfl (sc rfl (sc rfl (sc rfl sn)))))))) (aa.U [0,1,2] rfl rfl)
      ·refine Wk.aA rfl h16<|Wk.exit<|At.te ?_;cases hF;exact At.en () rfl (sc rfl (sc rfl (sc rfl (sc rfl (sc rfl (sc rfl (sc rfl sn))))))) (aa.U [0,1,2] rfl rfl)
     ·clear h15;rcases r3 with _|⟨v9,v10⟩
      ·rintro⟨⟩;refine At.br<|At.br<|At.tr ?_;cases hF;exact At.en () rfl (sc rfl sn) (aa.U [] rfl rfl)
      ·rintro⟨⟩;refine At.be<|At.bn<|At.tn<|Wk.region<|Wo.od (ae rfl) rfl<|Wo.od (aj rfl rfl (az _ _ _)) rfl<|Wo.od (ak rfl) rfl<|Wo.nil ?_;cases hF;exact At.en () rfl (sc rfl (sc rfl (sc rfl (sc rfl (sc rfl (sc rfl (sc rfl sn))))))) (aa.U [0,1,2] rfl rfl)
    ·refine Wk.aA rfl h14<|Wk.exit<|At.te ?_;cases hF;exact At.en () rfl (sc rfl (sc rfl (sc rfl (sc rfl sn)))) (aa.U [0] rfl rfl)
   ·clear h13;rcases r2 with _|⟨v7,v8⟩
    ·rintro⟨⟩;refine At.br<|At.tr ?_;cases hF;exact At.ret (.tmp rfl .nil) fun m' hm=>⟨(),rfl,(aa.U [] rfl rfl) m' hm⟩
    ·rintro⟨⟩;refine At.be<|At.tn<|Wk.seq<|Wk.region<|Wo.od (ae rfl) rfl<|Wo.od (ae rfl) rfl<|Wo.od (aj rfl rfl (bY _ _ _)) rfl<|Wo.od (ae rfl) rfl ?_;rcases ah hF with⟨h2,hF⟩|⟨h2,hF⟩
     ·refine Wo.og (ae rfl) (gg rfl rfl (bB h2)) rfl<|Wo.og (ae rfl) (gg rfl rfl (bB h2)) rfl<|Wo.og (aj rfl rfl (bZ _ _ _)) (gg rfl rfl (bB h2)) rfl<|Wo.og (ae rfl) (gg rfl rfl (bB h2)) rfl<|Wo.og (aj rfl rfl (az _ _ _)) (gg rfl rfl (bB h2)) rfl ?_;obtain⟨y3,h31,hF⟩:=J hF;refine Wo.og (aj rfl rfl ((aN _ _ _).trans (cI h31))) (gg rfl rfl (bB h2)) rfl ?_;obtain⟨r8,h32,hF⟩:=J hF;refine Wo.x (cL rfl rfl (fun m hm=>Fl n l0 y3 (some ⟨b0,0,none⟩) l0.length _ h32 m (hm.rd (k:=0) rfl (.arr _ _ _ _ _))) fun _=>rfl) (gg rfl rfl (bB h2)) rfl ?_;rintro⟨⟩;refine Wo.od (dw rfl h2 rfl) rfl<|Wo.od (ak rfl) rfl<|Wo.nil<|At.tn<|Wk.ret ?_;have hr:=Option.some.inj hF;subst r;exact At.ret (.tmp rfl .nil) fun m' hm=>⟨(),rfl,(aa.U [] rfl rfl) m' hm⟩
     ·refine Wo.s (gg rfl rfl (bJ h2)) rfl<|Wo.s (gg rfl rfl (bJ h2)) rfl<|Wo.s (gg rfl rfl (bJ h2)) rfl<|Wo.s (gg rfl rfl (bJ h2)) rfl<|Wo.s (gg rfl rfl (bJ h2)) rfl<|Wo.s (gg rfl rfl (bJ h2)) rfl<|Wo.s (gg rfl rfl (bJ h2)) rfl<|Wo.od (dj rfl h2 rfl) rfl<|Wo.od (ak rfl) rfl<|Wo.nil<|At.tn<|Wk.ret ?_;cases hF;exact At.ret (.tmp rfl .nil) fun m' hm=>⟨(),rfl,(aa.U [] rfl rfl) m' hm⟩
end Go.Proofs.YthmekkhpddehjaaGreat
end

section
namespace Go.Proofs.YthmekkhpddehjaaGreat
open Go Go.Ab Go.Ab.W Go.Ab.B Jd
def cM {ρ:Type} (f:Nat→Option ρ) (e:ρ):Nat→Nat→ρ
 | 0,_=>e
 | k+1,i=>match f i with
  | some r=>r
  | none=>cM f e k (i+1)
theorem ez {ρ:Type} {B:Int→Option (Int ⊕ ρ)} {f:Nat→Option ρ} {e:ρ} {len:Nat} (hB:∀i:Nat,i<len→B (i:Int)=some (match f i with|some r=>.inr r|none=>.inl ((i+1:Nat):Int))) (hE:B (len:Int)=some (.inr e)) :
  ∀(k i n:Nat),i+k=len→k<n→dx B n (i:Int)=some (cM f e k i)
 | 0,i,n+1,h,_=>by
  rw[Nat.add_zero] at h; subst h;simp only[dx,hE,cM]
 | k+1,i,n+1,h,hn=>by
  have:=hB i (by omega)
  simp only[dx,this,cM];cases hf:f i with
  | some r=>rfl
  | none=>exact ez hB hE k (i+1) n (by omega) (by omega)
theorem gA {ρ:Type} {f:Nat→Option ρ} {e:ρ}:∀(k i:Nat),((∀j,i≤j→j<i+k→f j=none)∧cM f e k i=e)∨∃j,i≤j∧j<i+k∧f j=some (cM f e k i)
 | 0,i=>.inl ⟨fun j h1 h2=>by omega,rfl⟩
 | k+1,i=>by
  cases hf:f i with
  | some r=>exact .inr ⟨i,by omega,by omega,by simp only[cM,hf]⟩
  | none =>
   have e1:cM f e (k+1) i=cM f e k (i+1):=by simp only[cM,hf]
   rw[e1];rcases gA (f:=f) (e:=e) k (i+1) with⟨h1,h2⟩|⟨j,h1,h2,h3⟩
   ·refine .inl ⟨fun j a b=>?_,h2⟩
    by_cases e:j=i
    ·rw[e]; exact hf
    ·exact h1 j (by omega) (by omega)
   ·exact .inr ⟨j,by omega,by omega,h3⟩
theorem dY {l:List I2} {i:Nat} (h:i<l.length):l[((i:Nat):Int).toNat]? = some ((nx l i).1,(nx l i).2):=by
 rw[Int.toNat_natCast,List.getElem?_eq_getElem h];unfold nx;rw[Nat.mod_eq_of_lt h,List.getD_eq_getElem?_getD,List.getElem?_eq_getElem h]; rfl
theorem pP (m n:Nat):Int.tmod (m:Int) (n:Int)=((m%n:Nat):Int):=rfl
theorem oT {l:List I2} {i:Nat}:nx l (i%l.length)=nx l i:=by unfold nx; rw[Nat.mod_mod]
theorem Gu (n:Nat) (p:I2):Hk n p.1 p.2=some (decide (Fa p)):=by
 unfold Hk Fa;rw[pC,pC,pC,←Bool.decide_or,←Bool.decide_or,←Bool.decide_or]
theorem rD (n:Nat) {l:List I2} (i:Nat) (h:l≠[]):AB n l (i:Int)=some ((nx l i).1,(nx l i).2):=by
 have hl:0<l.length:=List.length_pos_iff.2 h;have hm:i%l.length<l.length:=Nat.mod_lt _ hl;unfold AB;rw[decide_eq_true (show((l.length:Nat):Int)≠0 by omega),cw,pP,bD hm,cw,dY hm,av,oT]
theorem mS (n:Nat) {a b c:I2} (ha:Nr a) (hb:Nr b) (hc:Nr c):AD n a.1 a.2 b.1 b.2 c.1 c.2=some (ti a b c):=by
 unfold Nr at ha hb hc;have m1:=cZ (B:=2000000) (C:=2000000) (u:=b.1-a.1) (v:=c.2-a.2) (by decide) (by omega) (by omega) (by omega) (by omega)
 have m2:=cZ (B:=2000000) (C:=2000000) (u:=b.2-a.2) (v:=c.1-a.1) (by decide) (by omega) (by omega) (by omega) (by omega)
 unfold AD;rw[aq (x:=b.1-a.1) (by omega) (by omega),aq (x:=c.2-a.2) (by omega) (by omega),aq (x:=b.2-a.2) (by omega) (by omega),aq (x:=c.1-a.1) (by omega) (by omega),
  aq (by omega) (by omega),aq (by omega) (by omega),av,av,aq (by omega) (by omega)]
 rfl
theorem HG {a b c:I2} (ha:Nr a) (hb:Nr b) (hc:Nr c):IntKind.wrap .i64 (IntKind.wrap .i64 ((IntKind.wrap .i64 (b.1-a.1))*(IntKind.wrap .i64 (c.1-b.1)))+IntKind.wrap .i64 ((IntKind.wrap .i64 (b.2-a.2))*(IntKind.wrap .i64 (c.2-b.2))))=di a b c:=by
 unfold Nr at ha hb hc;have m1:=cZ (B:=2000000) (C:=2000000) (u:=b.1-a.1) (v:=c.1-b.1) (by decide) (by omega) (by omega) (by omega) (by omega)
 have m2:=cZ (B:=2000000) (C:=2000000) (u:=b.2-a.2) (v:=c.2-b.2) (by decide) (by omega) (by omega) (by omega) (by omega)
 rw[aq (x:=b.1-a.1) (by omega) (by omega),aq (x:=c.1-b.1) (by omega) (by omega),aq (x:=b.2-a.2) (by omega) (by omega),aq (x:=c.2-b.2) (by omega) (by omega),
  aq (x:=(b.1-a.1)*(c.1-b.1)) (by omega) (by omega),aq (x:=(b.2-a.2)*(c.2-b.2)) (by omega) (by omega),aq (by omega) (by omega)]
 rfl
theorem G9 (n:Nat) {a b c:I2} (ha:Nr a) (hb:Nr b) (hc:Nr c):HJ n a.1 a.2 b.1 b.2 c.1 c.2=some (di a b c):=by
 unfold HJ;rw[av,av,HG ha hb hc]
theorem sF (n:Nat) (z:Int):EJ n z=some (sg z):=by
 unfold EJ sg
 by_cases h:0<z
 ·rw[aY h,if_neg (by omega),if_pos h]
 ·rw[aX h,if_neg h]
  by_cases g:z<0
  ·rw[aY g,if_pos g]
  ·rw[aX g,if_neg g]
theorem s5 (n:Nat) {a b p:I2} (ha:Nr a) (hb:Nr b) (hp:Nr p):Ec n a.1 a.2 b.1 b.2 p.1 p.2=some (decide (bE a b p)):=by
 unfold Ec;rw[mS n ha hb hp,av]
 by_cases h:ti a b p=0
 ·rw[decide_eq_true h,Bool.not_true,gC,dC,dC,dC,iV,iV,mD,mD,←Bool.decide_and,←Bool.decide_and,←Bool.decide_and]
  congr 1
  rw[decide_eq_decide];unfold bE;exact⟨fun g=>⟨h,g⟩,fun g=>g.2⟩
 ·rw[decide_eq_false h,Bool.not_false,ng,decide_eq_false fun g=>h g.1]
theorem EI {a b c d:I2} (ha:Nr a) (hb:Nr b) (hc:Nr c) (hd:Nr d) :
  IntKind.wrap .i64 ((ma (mi a.1 b.1) (mi c.1 d.1))-(mi (ma a.1 b.1) (ma c.1 d.1)))=max (min a.1 b.1) (min c.1 d.1)-min (max a.1 b.1) (max c.1 d.1) ∧
  IntKind.wrap .i64 ((ma (mi a.2 b.2) (mi c.2 d.2))-(mi (ma a.2 b.2) (ma c.2 d.2)))=max (min a.2 b.2) (min c.2 d.2)-min (max a.2 b.2) (max c.2 d.2):=by
 unfold Nr at ha hb hc hd;simp only[iV,mD];exact⟨aq (by omega) (by omega),aq (by omega) (by omega)⟩
theorem yc (x y:Int):IntKind.wrap .i64 (sg x*sg y)=sg x*sg y:=by
 rcases im x with h|h|h<;>rcases im y with g|g|g<;>rw[h,g]<;>decide
theorem sV (x y:Int):sg x*sg y<0↔(0<x∧y<0)∨(x<0∧0<y):=by
 unfold sg
 split<;>split<;>(try split)<;>(try split)<;>omega
theorem Fq (n:Nat) {a b c d:I2} (ha:Nr a) (hb:Nr b) (hc:Nr c) (hd:Nr d) (hab:a≠b) (hcd:c≠d):Iy n a.1 a.2 b.1 b.2 c.1 c.2 d.1 d.2=some (tw a b c d):=by
 classical
 rw[Db hab hcd];unfold Iy;rw[mS n ha hb hc,av,sF,av,mS n ha hb hd,av,sF,av,mS n hc hd ha,av,sF,av,mS n hc hd hb,av,sF,av,dC,av,←Bool.decide_and];rw[(EI ha hb hc hd).1,(EI ha hb hc hd).2]
 by_cases h:CU a b c d
 ·have h':sg (ti a b c)=0∧sg (ti a b d)=0:=⟨eW.2 h.1,eW.2 h.2⟩;rw[aY h',if_pos h];have hl:(ob (some (max (min a.1 b.1) (min c.1 d.1)-min (max a.1 b.1) (max c.1 d.1))) fun y54=>ob (br (decide (a.1=b.1)) (ob (some (max (min a.2 b.2) (min c.2 d.2)-min (max a.2 b.2) (max c.2 d.2))) fun y61=>some y61) (some y54)) fun v59=>br (decide (0<v59)) (some (0:Int)) (br (decide (v59=0)) (some 1) (some 3)))
    = br (decide (0<low a b c d)) (some 0) (br (decide (low a b c d=0)) (some 1) (some 3)):=by
   unfold low
   by_cases e:a.1=b.1
   ·rw[av,aY e,av,av,if_pos e]
   ·rw[av,aX e,av,if_neg e]
  rw[hl]
  by_cases g:0<low a b c d
  ·rw[aY g,if_pos g]
  ·rw[aX g,if_neg g]
   by_cases k:low a b c d=0
   ·rw[aY k,if_pos k]
   ·rw[aX k,if_neg k]
 ·have h':¬(sg (ti a b c)=0∧sg (ti a b d)=0):=fun g=>h ⟨eW.1 g.1,eW.1 g.2⟩;rw[aX h',if_neg h,yc,yc,dC,av,←Bool.decide_and]
  by_cases g:qR a b c d
  ·have g':sg (ti a b c)*sg (ti a b d)<0∧sg (ti c d a)*sg (ti c d b)<0:=⟨(sV _ _).2 g.1,(sV _ _).2 g.2⟩;rw[aY g',if_pos g]
  ·have g':¬(sg (ti a b c)*sg (ti a b d)<0∧sg (ti c d a)*sg (ti c d b)<0):=fun k=>g ⟨(sV _ _).1 k.1,(sV _ _).1 k.2⟩;rw[aX g',if_neg g,s5 n ha hb hc,s5 n ha hb hd,s5 n hc hd ha,s5 n hc hd hb];simp only[av,pC,←Bool.decide_or]
   by_cases k:bE a b c∨bE a b d∨bE c d a∨bE c d b
   ·rw[aY k,if_pos k]
   ·rw[aX k,if_neg k]
def jZ (l:List I2) (i:Nat):Option (Int ⊕ Unit):=if Fa (nx l i) then some (.inl (i:Int)) else none
def eS (l:List I2) (i:Nat):Option (Int ⊕ Unit):=if nx l i=nx l (i+1) then some (.inl (i:Int)) else none
def fi (l:List I2) (i:Nat):Option (Int ⊕ Unit):=if ti (nx l (i+l.length-1)) (nx l i) (nx l (i+1))=0∧di (nx l (i+l.length-1)) (nx l i) (nx l (i+1))<0 then some (.inl (i:Int)) else none
def qe (l:List I2) (i j:Nat):Prop:=¬(j=0∧i=l.length-1)∧tw (nx l j) (nx l (j+1)) (nx l i) (nx l (i+1))≠0
open Classical in
noncomputable def fm (l:List I2) (i:Nat):Option (Int ⊕ Unit):=if ∃j,j+1<i∧qe l i j then some (.inl (i:Int)) else none
noncomputable def lT (l:List I2):Int × Int :=
 if l.length<3∨40<l.length then(1,0) else
 match cM (jZ l) (.inr ()) l.length 0 with
 | .inl v=>(2,v)
 | .inr _=>match cM (eS l) (.inr ()) l.length 0 with
  | .inl v=>(3,v)
  | .inr _=>match cM (fi l) (.inr ()) l.length 0 with
   | .inl v=>(4,v)
   | .inr _=>match cM (fm l) (.inr ()) l.length 0 with
    | .inl v=>(5,v)
    | .inr _=>(0,0)
section
variable {l : List I2} (n : Nat)
theorem oH (p q:I2):(decide (p.1=q.1) && decide (p.2=q.2))=decide (p=q):=by
 rw[←Bool.decide_and,decide_eq_decide]; exact⟨fun h=>Prod.ext h.1 h.2,fun h=>by subst h; exact⟨rfl,rfl⟩⟩
theorem Bk (hn:l.length<n) (hl:l.length<100):dx (ue n l) n 0=some (cM (jZ l) (.inr ()) l.length 0):=by
 refine ez (len:=l.length) (fun i hi=>?_) ?_ l.length 0 n (by omega) hn
 ·unfold ue jZ
  dsimp only
  rw[aY (by omega),bD hi,cw,dY hi,av]
  dsimp only
  rw[Gu,av,bw (by omega)]
  by_cases h:Fa (nx l i)
  ·rw[aY h,if_pos h]
  ·rw[aX h,if_neg h]
 ·unfold ue
  dsimp only
  rw[aX (by omega)]
theorem CI (h64:∀i,nQ (nx l i).1∧nQ (nx l i).2) (hn:l.length<n) (hl:l.length<100):dx (vp n l) n 0=some (cM (jZ l) (.inr ()) l.length 0):=by
 refine ez (len:=l.length) (fun i hi=>?_) ?_ l.length 0 n (by omega) hn
 ·unfold vp jZ
  dsimp only
  rw[aY (by omega),bD hi,cw,dY hi,av]
  dsimp only
  rw[AU n (h64 i).1 (h64 i).2,av,bw (by omega)]
  by_cases h:Fa (nx l i)
  ·rw[aY (show Fa ((nx l i).1,(nx l i).2) from h),if_pos h]
  ·rw[aX (show ¬Fa ((nx l i).1,(nx l i).2) from h),if_neg h]
 ·unfold vp
  dsimp only
  rw[aX (by omega)]
theorem Cw (hn:l.length<n) (hl:l.length<100):dx (uy n l) n 0=some (cM (eS l) (.inr ()) l.length 0):=by
 refine ez (len:=l.length) (fun i hi=>?_) ?_ l.length 0 n (by omega) hn
 ·have hne:l≠[]:=by rintro rfl; cases hi
  unfold uy eS
  dsimp only
  rw[aY (by omega),bD hi,cw,dY hi,av]
  dsimp only
  rw[bw (by omega),rD n (i+1) hne,av]
  dsimp only
  rw[oH]
  by_cases h:nx l i=nx l (i+1)
  ·rw[aY h,if_pos h]
  ·rw[aX h,if_neg h]
 ·unfold uy
  dsimp only
  rw[aX (by omega)]
theorem iw (i:Nat) (hi:i<l.length) (hl:l.length<100) {β:Type} (K:Int × Int→Option β) :
  gd (decide ((l.length:Int)≠0)) (gd (cX (Int.tmod ((i+1:Nat):Int) (l.length:Int)) l.length) (ob (l[(Int.tmod ((i+1:Nat):Int) (l.length:Int)).toNat]?) K))=K ((nx l (i+1)).1,(nx l (i+1)).2):=by
 have hm:(i+1)%l.length<l.length:=Nat.mod_lt _ (by omega)
 rw[decide_eq_true (show((l.length:Nat):Int)≠0 by omega),cw,pP,bD hm,cw,dY hm,av,oT]
theorem BZ (hn:l.length<n) (hl:l.length<100):dx (va n l) n 0=some (cM (eS l) (.inr ()) l.length 0):=by
 refine ez (len:=l.length) (fun i hi=>?_) ?_ l.length 0 n (by omega) hn
 ·unfold va eS
  dsimp only
  rw[aY (by omega),bD hi,cw,dY hi,av]
  dsimp only
  rw[bw (by omega),iw i hi hl]
  dsimp only
  rw[oH]
  by_cases h:nx l i=nx l (i+1)
  ·rw[aY h,if_pos h]; rfl
  ·rw[aX h,if_neg h]; rfl
 ·unfold va
  dsimp only
  rw[aX (by omega)]
theorem Bs (hnr:∀i,Nr (nx l i)) (hn:l.length<n) (hl:l.length<100):dx (tB n l) n 0=some (cM (fi l) (.inr ()) l.length 0):=by
 refine ez (len:=l.length) (fun i hi=>?_) ?_ l.length 0 n (by omega) hn
 ·have hne:l≠[]:=by rintro rfl; cases hi
  have e1:IntKind.wrap .i64 ((IntKind.wrap .i64 ((i:Int)+(l.length:Int)))-1)=((i+l.length-1:Nat):Int):=by
   rw[aq (x:=(i:Int)+(l.length:Int)) (by omega) (by omega),aq (by omega) (by omega)]; omega
  unfold tB fi
  dsimp only
  rw[aY (by omega),e1,rD n _ hne,av]
  dsimp only
  rw[bD hi,cw,dY hi,av]
  dsimp only
  rw[bw (by omega),rD n (i+1) hne,av]
  dsimp only
  rw[mS n (hnr _) (hnr _) (hnr _),av,G9 n (hnr _) (hnr _) (hnr _),av,dC,av,←Bool.decide_and]
  by_cases h:ti (nx l (i+l.length-1)) (nx l i) (nx l (i+1))=0∧di (nx l (i+l.length-1)) (nx l i) (nx l (i+1))<0
  ·rw[aY h,if_pos h]
  ·rw[aX h,if_neg h]
 ·unfold tB
  dsimp only
  rw[aX (by omega)]
theorem Ch (hnr:∀i,Nr (nx l i)) (hn:l.length<n) (hl:l.length<100):dx (u7 n l) n 0=some (cM (fi l) (.inr ()) l.length 0):=by
 refine ez (len:=l.length) (fun i hi=>?_) ?_ l.length 0 n (by omega) hn
 ·have hm:(i+l.length-1)%l.length<l.length:=Nat.mod_lt _ (by omega)
  have e1:IntKind.wrap .i64 ((IntKind.wrap .i64 ((i:Int)+(l.length:Int)))-1)=((i+l.length-1:Nat):Int):=by
   rw[aq (x:=(i:Int)+(l.length:Int)) (by omega) (by omega),aq (by omega) (by omega)]; omega
  unfold u7 fi
  dsimp only
  rw[aY (by omega),bD hi,cw,dY hi,av]
  dsimp only
  rw[bw (by omega),iw i hi hl]
  dsimp only
  rw[e1,decide_eq_true (show((l.length:Nat):Int)≠0 by omega),cw,pP,av,bD hm,cw,dY hm,oT,av]
  dsimp only
  rw[kQ n (hnr _) (hnr _) (hnr _),av,av,av,HG (hnr _) (hnr _) (hnr _),dC,av,←Bool.decide_and]
  by_cases h:ti (nx l (i+l.length-1)) (nx l i) (nx l (i+1))=0∧di (nx l (i+l.length-1)) (nx l i) (nx l (i+1))<0
  ·rw[aY (show _∧_ from⟨eW.2 h.1,h.2⟩),if_pos h]; rfl
  ·rw[aX (fun g=>h ⟨eW.1 g.1,g.2⟩),if_neg h]; rfl
 ·unfold u7
  dsimp only
  rw[aX (by omega)]
end
section
variable {l : List I2} (n : Nat)
open Classical in
noncomputable def DY {ρ:Type} (l:List I2) (r:ρ) (i j:Nat):Option ρ:=if qe l i j then some r else none
theorem AH {ρ:Type} {r e:ρ} (_:r≠e) {i:Nat}:(cM (DY l r i) e (i-1) 0=r∧∃j,j+1<i∧qe l i j)∨(cM (DY l r i) e (i-1) 0=e∧¬∃j,j+1<i∧qe l i j):=by
 classical
 rcases gA (f:=DY l r i) (e:=e) (i-1) 0 with⟨h1,h2⟩|⟨j,_,h2,h3⟩
 ·refine .inr ⟨h2,?_⟩;rintro⟨j,hj,hh⟩;have:=h1 j (by omega) (by omega)
  unfold DY at this;rw[if_pos hh] at this;cases this
 ·unfold DY at h3
  split at h3
  ·rename_i hh;exact .inl ⟨(Option.some.inj h3).symm,j,by omega,hh⟩
  ·cases h3
theorem AN (hnr:∀i,Nr (nx l i)) (hst:∀i,nx l i≠nx l (i+1)) {i:Nat} (hi:i<l.length) (hn:l.length<n) (hl:l.length<100):dx (tC n (i:Int) l) n 0=some (cM (DY l (.inl ()) i) (.inr ()) (i-1) 0):=by
 classical
 have hne:l≠[]:=by rintro rfl; cases hi
 refine ez (len:=i-1) (fun j hj=>?_) ?_ (i-1) 0 n (by omega) (by omega)
 ·have e1:IntKind.wrap .i64 ((l.length:Int)-1)=(l.length:Int)-1:=aq (by omega) (by omega)
  unfold tC DY
  dsimp only
  rw[bw (by omega),aY (by omega),dC,av,e1,←Bool.decide_and]
  by_cases h:(j:Int)=0∧(i:Int)=(l.length:Int)-1
  ·rw[aY h,av,if_neg (fun g:qe l i j=>g.1 ⟨by omega,by omega⟩)]
  ·rw[aX h,bD (by omega),cw,dY (by omega),av]
   dsimp only
   rw[bD (by omega),cw,dY (by omega),av]
   dsimp only
   rw[bD hi,cw,dY hi,av]
   dsimp only
   rw[bw (by omega),rD n (i+1) hne,av]
   dsimp only
   rw[Fq n (hnr _) (hnr _) (hnr _) (hnr _) (hst _) (hst _),av]
   by_cases g:tw (nx l j) (nx l (j+1)) (nx l i) (nx l (i+1))=0
   ·rw[decide_eq_true g,Bool.not_true,gC,av,if_neg (fun k:qe l i j=>k.2 g)]
   ·rw[decide_eq_false g,Bool.not_false,ng,av,if_pos (show qe l i j from⟨fun k=>h ⟨by omega,by omega⟩,g⟩)]
 ·unfold tC
  dsimp only
  rw[bw (by omega),aX (by omega)]
theorem BX (hnr:∀i,Nr (nx l i)) (hst:∀i,nx l i≠nx l (i+1)) {i:Nat} (hi:i<l.length) (hn:l.length<n) (h5:5<n) (hl:l.length<100) :
  dx (u0 n l (i:Int) (nx l i).1 (nx l i).2 (nx l (i+1)).1 (nx l (i+1)).2) n 0=some (cM (DY l (.inr (.inl ())) i) (.inl ()) (i-1) 0):=by
 classical
 have hne:l≠[]:=by rintro rfl; cases hi
 have e0:IntKind.wrap .i64 ((i:Int)-1)=(i:Int)-1:=aq (by omega) (by omega)
 refine ez (len:=i-1) (fun j hj=>?_) ?_ (i-1) 0 n (by omega) (by omega)
 ·have e1:IntKind.wrap .i64 ((l.length:Int)-1)=(l.length:Int)-1:=aq (by omega) (by omega)
  unfold u0 DY
  dsimp only
  rw[aY (by omega),bD (by omega),cw,dY (by omega),av]
  dsimp only
  rw[bw (by omega),iw j (by omega) hl]
  try dsimp only
  rw[e0,aX (by omega),dC,av,e1,←Bool.decide_and]
  by_cases h:(j:Int)=0∧(i:Int)=(l.length:Int)-1
  ·rw[aY h,av,if_neg (fun g:qe l i j=>g.1 ⟨by omega,by omega⟩)]
  ·rw[aX h,GR n _ _ (hnr _) (hnr _) (hnr _) (hnr _) (hst _) (hst _) h5,s4,av]
   by_cases g:tw (nx l j) (nx l (j+1)) (nx l i) (nx l (i+1))=0
   ·rw[decide_eq_true g,Bool.not_true,gC,av,if_neg (fun k:qe l i j=>k.2 g)]
   ·rw[decide_eq_false g,Bool.not_false,ng,av,if_pos (show qe l i j from⟨fun k=>h ⟨by omega,by omega⟩,g⟩)]
 ·unfold u0
  dsimp only
  rw[aY (by omega),bD (by omega),cw,dY (by omega),av]
  dsimp only
  rw[bw (by omega),iw (i-1) (by omega) hl]
  try dsimp only
  rw[e0,aY (by omega),av]
theorem BQ (hnr:∀i,Nr (nx l i)) (hst:∀i,nx l i≠nx l (i+1)) (hn:l.length<n) (hl:l.length<100):dx (tU n l) n 0=some (cM (fm l) (.inr ()) l.length 0):=by
 classical
 refine ez (len:=l.length) (fun i hi=>?_) ?_ l.length 0 n (by omega) hn
 ·unfold tU fm
  try dsimp only
  rw[aY (by omega),AN n hnr hst hi hn hl,av,bw (by omega)]
  rcases AH (l:=l) (r:=(.inl ():Unit ⊕ Unit)) (e:=.inr ()) (by simp) (i:=i) with⟨h1,h2⟩|⟨h1,h2⟩
  ·rw[h1,if_pos h2]
  ·rw[h1,if_neg h2]
 ·unfold tU
  try dsimp only
  rw[aX (by omega)]
theorem CG (hnr:∀i,Nr (nx l i)) (hst:∀i,nx l i≠nx l (i+1)) (hn:l.length<n) (h5:5<n) (hl:l.length<100):dx (uC n l) n 0=some (cM (fm l) (.inr ()) l.length 0):=by
 classical
 refine ez (len:=l.length) (fun i hi=>?_) ?_ l.length 0 n (by omega) hn
 ·unfold uC fm
  dsimp only
  rw[aY (by omega),bD hi,cw,dY hi,av]
  dsimp only
  rw[bw (by omega),iw i hi hl]
  dsimp only
  rw[av,BX n hnr hst hi hn h5 hl,av];rcases AH (l:=l) (r:=(.inr (.inl ()):Unit ⊕ (Unit ⊕ Unit))) (e:=.inl ()) (by simp) (i:=i) with⟨h1,h2⟩|⟨h1,h2⟩
  ·rw[h1,if_pos h2]; rfl
  ·rw[h1,if_neg h2]; rfl
 ·unfold uC
  dsimp only
  rw[aX (by omega)]
theorem lZ {f:Nat→Option (Int ⊕ Unit)} (hf:∀j r,f j=some r→r≠.inr ()) {k:Nat} (h:cM f (.inr ()) k 0 = .inr ()):∀j,j<k→f j=none:=by
 rcases gA (f:=f) (e:=.inr ()) k 0 with⟨h1,_⟩|⟨j,_,_,h3⟩
 ·exact fun j hj=>h1 j (by omega) (by omega)
 ·rw[h] at h3; exact absurd rfl (hf j _ h3)
theorem Cb {P:I2→Prop} (hl:0<l.length) (h:∀i,i<l.length→P (nx l i)) (i:Nat):P (nx l i):=by
 rw[←oT]; exact h _ (Nat.mod_lt _ hl)
theorem nH {i:Nat}:nx l (i%l.length+1)=nx l (i+1):=by unfold nx; rw[Nat.mod_add_mod]
theorem xf (hl:0<l.length) (h:cM (jZ l) (.inr ()) l.length 0 = .inr ()):∀i,Nr (nx l i):=by
 refine Cb hl fun i hi=>?_;have:=lZ (fun j r hr=>by unfold jZ at hr; split at hr<;>cases hr; simp) h i hi
 unfold jZ at this
 split at this
 ·cases this
 ·rename_i g; exact A1.1 g
theorem vR (hl:0<l.length) (h:cM (eS l) (.inr ()) l.length 0 = .inr ()):∀i,nx l i≠nx l (i+1):=fun i=>by
 have:=lZ (fun j r hr=>by unfold eS at hr; split at hr<;>cases hr; simp) h (i%l.length) (Nat.mod_lt _ hl)
 unfold eS at this
 split at this
 ·cases this
 ·rename_i g;rw[oT,nH] at g;exact g
theorem ED (v:Int) (h:cM (jZ l) (.inr ()) l.length 0 = .inl v):0≤v:=by
 rcases gA (f:=jZ l) (e:=.inr ()) l.length 0 with⟨_,h2⟩|⟨j,_,_,h3⟩
 ·rw[h] at h2; cases h2
 ·rw[h] at h3;unfold jZ at h3
  split at h3
  ·cases h3; omega
  ·cases h3
theorem Gk (hn:l.length<n) (_:41<n):HU n l=some (lT l):=by
 unfold HU lT;rw[pC,av,←Bool.decide_or]
 by_cases h:l.length<3∨40<l.length
 ·rw[aY (by omega),if_pos h]
 ·rw[aX (by omega),if_neg h,Bk n hn (by omega),av]
  cases h1:cM (jZ l) (.inr ()) l.length 0 with
  | inl v=>rfl
  | inr _ =>
   have hnr:=xf (by omega) h1
   dsimp only
   rw[Cw n hn (by omega),av]
   cases h2:cM (eS l) (.inr ()) l.length 0 with
   | inl v=>rfl
   | inr _ =>
    have hst:=vR (by omega) h2
    dsimp only
    rw[Bs n hnr hn (by omega),av]
    cases h3:cM (fi l) (.inr ()) l.length 0 with
    | inl v=>rfl
    | inr _ =>
     dsimp only
     rw[BQ n hnr hst hn (by omega),av]
     cases h4:cM (fm l) (.inr ()) l.length 0<;>rfl
theorem FW (h64:∀x ∈ l,nQ x.1∧nQ x.2) (hn:l.length<n) (h5:41<n):Iw n l=some (lT l):=by
 unfold Iw lT;rw[pC,av,←Bool.decide_or]
 by_cases h:l.length<3∨40<l.length
 ·rw[aY (by omega),if_pos h]
 ·have h64':∀i,nQ (nx l i).1∧nQ (nx l i).2:=Cb (P:=fun x=>nQ x.1∧nQ x.2) (by omega) fun i hi=>by
   refine h64 _ ?_;unfold nx;rw[Nat.mod_eq_of_lt hi,List.getD_eq_getElem?_getD,List.getElem?_eq_getElem hi];exact List.getElem_mem hi
  rw[aX (by omega),if_neg h,CI n h64' hn (by omega),av]
  cases h1:cM (jZ l) (.inr ()) l.length 0 with
  | inl v =>
   have:=ED v h1
   dsimp only
   rw[av,aY this]
  | inr _ =>
   have hnr:=xf (by omega) h1
   dsimp only
   rw[av,aX (by omega),av,BZ n hn (by omega),av]
   cases h2:cM (eS l) (.inr ()) l.length 0 with
   | inl v=>rfl
   | inr _ =>
    have hst:=vR (by omega) h2
    dsimp only
    rw[av]
    dsimp only
    rw[av,Ch n hnr hn (by omega),av]
    cases h3:cM (fi l) (.inr ()) l.length 0 with
    | inl v=>rfl
    | inr _ =>
     dsimp only
     rw[av]
     dsimp only
     rw[av,CG n hnr hst hn (by omega) (by omega),av]
     cases h4:cM (fm l) (.inr ()) l.length 0<;>rfl
def rk (l:List I2):Prop:=(lT l).1≤0
open Classical in
theorem Gf (hn:l.length<n) (h5:41<n):E8 n l=some (if rk l then 0 else 140):=by
 unfold E8 rk;rw[Gk n hn h5,av];obtain⟨a,b⟩:=lT l
 dsimp only
 by_cases h:0<a
 ·rw[aY h,if_neg (by omega)]
 ·rw[aX h,if_pos (by omega)]
open Classical in
theorem BD (h64:∀x ∈ l,nQ x.1∧nQ x.2) (hn:l.length<n) (h5:41<n):E6 n l=some (if rk l then 0 else 140):=by
 unfold E6 rk;rw[FW n h64 hn h5,av];obtain⟨a,b⟩:=lT l
 dsimp only
 by_cases h:0<a
 ·rw[aY h,if_neg (by omega)]
 ·rw[aX h,if_pos (by omega)]
end
end Go.Proofs.YthmekkhpddehjaaGreat
end

section
namespace Jd
theorem yJ (a b p:I2):wi b a p = -wi a b p:=by
 have h:=dD a b p;unfold wi
 by_cases h1:a.2≤p.2∧p.2<b.2∧0<ti a b p
 ·rw[if_pos h1,if_neg (by omega),if_pos (by omega)]
 ·by_cases h2:b.2≤p.2∧p.2<a.2∧ti a b p<0
  ·rw[if_neg h1,if_pos h2,if_pos (by omega)]; rfl
  ·rw[if_neg h1,if_neg h2,if_neg (by omega),if_neg (by omega)]; rfl
theorem bt (f:I2→I2) {r:List I2} (h:r≠[]) (i:Nat):nx (r.map f) i=f (nx r i):=by
 have hl:=List.length_pos_iff.2 h;unfold nx;rw[List.length_map];have hi:i%r.length<r.length:=Nat.mod_lt _ hl;rw[List.getD_eq_getElem?_getD,List.getD_eq_getElem?_getD,List.getElem?_map,List.getElem?_eq_getElem hi]; rfl
theorem kU {r:List I2}:nx r r.length=nx r 0:=by unfold nx; rw[Nat.mod_self,Nat.zero_mod]
def kz (r:List I2):Int:=aD r.length fun i=>(nx r i).1*(nx r (i+1)).2-(nx r i).2*(nx r (i+1)).1
theorem eu (n:Nat) (f g:Nat→Int):aD n (fun i=>f i+g i)=aD n f+aD n g:=by
 induction n with
 | zero=>rfl
 | succ n ih=>simp only[aD]; rw[ih]; omega
theorem hU (c:Int) (n:Nat) (f:Nat→Int):aD n (fun i=>c*f i)=c*aD n f:=by
 induction n with
 | zero=>simp[aD]
 | succ n ih=>simp only[aD]; rw[ih,Int.mul_add]
theorem eV (n:Nat) (f:Nat→Int):aD (n+1) f=f 0+aD n fun i=>f (i+1):=by
 induction n with
 | zero=>simp[aD]
 | succ n ih=>rw[aD,ih]; simp only[aD]; omega
theorem tR (n:Nat) (f:Nat→Int):aD n (fun i=>f (n-1-i))=aD n f:=by
 induction n generalizing f with
 | zero=>rfl
 | succ n ih =>
  rw[eV];simp only[aD];have:aD n (fun i=>f (n+1-1-(i+1)))=aD n f:=by
   rw[←ih f];exact ar fun i _=>by congr 1; omega
  rw[this,show n+1-1-0=n by omega]; omega
theorem ub (r:List I2) (o:I2):aD r.length (fun i=>((nx r i).1-o.1)*((nx r (i+1)).2-o.2)-((nx r i).2-o.2)*((nx r (i+1)).1-o.1))=kz r:=by
 have t1:=hJ r.length fun i=>(nx r i).1;have t2:=hJ r.length fun i=>(nx r i).2;rw[kU] at t1 t2;have e:aD r.length (fun i=>((nx r i).1-o.1)*((nx r (i+1)).2-o.2)-((nx r i).2-o.2)*((nx r (i+1)).1-o.1)) =
   aD r.length (fun i=>((nx r i).1*(nx r (i+1)).2-(nx r i).2*(nx r (i+1)).1)+(o.2*((nx r (i+1)).1-(nx r i).1) + -o.1*((nx r (i+1)).2-(nx r i).2))) :=
  ar fun i _=>by grind
 rw[e,eu,eu,hU,hU,t1,t2];unfold kz
 grind
structure Chg (f:I2→I2) (k d:Int):Prop where
 inj:∀{a b},f a=f b→a=b
 ti:∀a b c,ti (f a) (f b) (f c)=k*ti a b c
 di:∀a b c,di (f a) (f b) (f c)=d*di a b c
 kp:k≠0
 dp:0<d
 Hh:∀{a b c},bE (f a) (f b) (f c)↔bE a b c
theorem eY {k x:Int} (h:0<k):0<k*x↔0<x:=⟨fun g=>Int.pos_of_mul_pos_right g h,fun g=>Int.mul_pos h g⟩
theorem dU {k x:Int} (h:0<k):k*x<0↔x<0:=by
 have:=eY (x:=-x) h;rw[Int.mul_neg] at this;omega
section
variable {f : I2 → I2} {k d : Int}
theorem Chg.Dq (h:Chg f k d) {a b c d x:I2}:gH (f a) (f b) (f c) (f d) (f x)↔gH a b c d x:=by
 unfold gH;rw[h.Hh,h.Hh];constructor
 ·rintro⟨g,e⟩;exact⟨by rcases g with g|g|g|g<;>simp[h.inj g],e⟩
 ·rintro⟨g,e⟩;exact⟨by rcases g with g|g|g|g<;>simp[g],e⟩
theorem Chg.ft (h:Chg f k d) {a b c d:I2}:qR (f a) (f b) (f c) (f d)↔qR a b c d:=by
 unfold qR;rw[h.ti,h.ti,h.ti,h.ti];rcases Int.lt_or_gt_of_ne h.kp with g|g
 ·have e:∀x,k*x = -((-k)*x):=fun x=>by rw[Int.neg_mul]; omega
  have p:∀{x},0<k*x↔x<0:=fun {x}=>by rw[e]; have:=dU (k:=-k) (x:=x) (by omega); omega
  have n:∀{x},k*x<0↔0<x:=fun {x}=>by rw[e]; have:=eY (k:=-k) (x:=x) (by omega); omega
  rw[p,p,p,p,n,n,n,n]; omega
 ·rw[eY g,eY g,eY g,eY g,dU g,dU g,dU g,dU g]
theorem CO {a b c d:I2}:NM a b c d↔(∀x,¬gH a b c d x)∧¬qR a b c d:=Iff.rfl
theorem Chg.nm (h:Chg f k d) {a b c d:I2}:NM (f a) (f b) (f c) (f d)↔NM a b c d:=by
 rw[CO,CO,h.ft];refine and_congr_left fun _=>⟨fun g x hx=>g (f x) (h.Dq.2 hx),fun g x hx=>?_⟩;have:∃y,x=f y:=by
  rcases hx.1 with e|e|e|e<;>exact⟨_,e⟩
 obtain⟨y,rfl⟩:=this;exact g y (h.Dq.1 hx)
theorem Chg.vr (h:Chg f k d) {r:List I2} (v:VR r):VR (r.map f):=by
 have hr:r≠[]:=fun e=>by have:=v.n3; rw[e] at this; simp at this
 refine⟨by rw[List.length_map]; exact v.n3,fun i=>?_,fun i=>?_,fun j i h1 h2 h3=>?_⟩
 ·rw[bt f hr,bt f hr];exact fun e=>v.still i (h.inj e)
 ·rw[bt f hr,bt f hr,bt f hr,h.ti,h.di];rintro⟨e1,e2⟩;refine v.kg i ⟨?_,(dU h.dp).1 e2⟩;rcases Int.mul_eq_zero.1 e1 with e|e
  ·exact absurd e h.kp
  ·exact e
 ·rw[List.length_map] at h2 h3;rw[bt f hr,bt f hr,bt f hr,bt f hr,h.nm];exact v.meet j i h1 h2 h3
end
def dA (v:I2) (a:I2):I2:=(a.1+v.1,a.2+v.2)
theorem w8 (v a b c:I2):ti (dA v a) (dA v b) (dA v c)=ti a b c:=by unfold ti dA; grind
theorem DH {v a b c:I2}:bE (dA v a) (dA v b) (dA v c)↔bE a b c:=by
 unfold bE;rw[w8];unfold dA
 dsimp only
 omega
theorem CZ (v:I2):Chg (dA v) 1 1:=by
 refine⟨fun {a b} h=>?_,fun a b c=>by rw[w8]; omega,fun a b c=>by unfold di dA; grind,by decide,by decide,DH⟩
 have h1:=congrArg Prod.fst h;have h2:=congrArg Prod.snd h;unfold dA at h1 h2;exact Prod.ext (by dsimp only at h1; omega) (by dsimp only at h2; omega)
def bA (s:Int) (a:I2):I2:=(a.1*s,a.2*s)
theorem xh (s:Int) (a b c:I2):ti (bA s a) (bA s b) (bA s c)=s*s*ti a b c:=by unfold ti bA; grind
theorem lE {s x y:Int} (hs:0<s):x*s≤y*s↔x≤y:=⟨fun h=>Int.le_of_mul_le_mul_right h hs,fun h=>Int.mul_le_mul_of_nonneg_right h (Int.le_of_lt hs)⟩
theorem Ds {s:Int} (hs:0<s) {a b c:I2}:bE (bA s a) (bA s b) (bA s c)↔bE a b c:=by
 have hss:s*s≠0:=by have:=Int.mul_pos hs hs; omega
 have m1:∀x y z:Int,min (x*s) (y*s)≤z*s↔min x y≤z:=fun x y z=>by
  have h1:=lE (x:=x) (y:=z) hs;have h2:=lE (x:=y) (y:=z) hs;omega
 have m2:∀x y z:Int,z*s≤max (x*s) (y*s)↔z≤max x y:=fun x y z=>by
  have h1:=lE (x:=z) (y:=x) hs;have h2:=lE (x:=z) (y:=y) hs;omega
 unfold bE;rw[xh];unfold bA
 dsimp only
 rw[m1,m2,m1,m2];refine and_congr_left fun _=>⟨fun h=>?_,fun h=>by rw[h,Int.mul_zero]⟩
 rcases Int.mul_eq_zero.1 h with e|e
 ·exact absurd e hss
 ·exact e
theorem EB {s:Int} (hs:0<s):Chg (bA s) (s*s) (s*s):=by
 have hss:=Int.mul_pos hs hs;refine⟨fun {a b} h=>?_,xh s,fun a b c=>by unfold di bA; grind,by omega,hss,Ds hs⟩
 have h1:=congrArg Prod.fst h;have h2:=congrArg Prod.snd h;exact Prod.ext (Int.eq_of_mul_eq_mul_right (by omega) h1) (Int.eq_of_mul_eq_mul_right (by omega) h2)
theorem Er {r:List I2} (h:r≠[]) (v:I2):kz (r.map (dA v))=kz r:=by
 rw[←ub (r.map (dA v)) v];unfold kz;rw[List.length_map];refine ar fun i _=>?_;rw[bt _ h,bt _ h];unfold dA
 dsimp only
 rw[Int.add_sub_cancel,Int.add_sub_cancel,Int.add_sub_cancel,Int.add_sub_cancel]
def rv:List I2→List I2
 | []=>[]
 | a::l=>a::l.reverse
theorem mL (r:List I2):(rv r).length=r.length:=by cases r<;>simp[rv]
theorem dQ (r:List I2) {i j:Nat} (h:i%r.length=j%r.length):nx r i=nx r j:=by unfold nx; rw[h]
theorem oU {r:List I2} {i t:Nat} (h:(t+i)%r.length=0):nx (rv r) i=nx r t:=by
 match r with
 | []=>rfl
 | a::l =>
  unfold nx;rw[mL];have hn:0<(a::l).length:=by simp
  generalize hN:(a::l).length=N at *;have h1:i%N<N:=Nat.mod_lt _ hn;have h2:t%N<N:=Nat.mod_lt _ hn;have h3:(t%N+i%N)%N=0:=by rw[←Nat.add_mod]; exact h
  have hl:l.length+1=N:=by rw[←hN]; simp
  rcases Nat.eq_zero_or_pos (i%N) with e|e
  ·have e2:t%N=0:=by rw[e,Nat.add_zero,Nat.mod_eq_of_lt h2] at h3; exact h3
   rw[e,e2]; rfl
  ·have e2:t%N+i%N=N:=by
    rcases Nat.lt_or_ge (t%N+i%N) N with g|g
    ·rw[Nat.mod_eq_of_lt g] at h3; omega
    ·rw[Nat.mod_eq_sub_mod g,Nat.mod_eq_of_lt (by omega)] at h3; omega
   obtain⟨x,hx⟩:∃x,i%N=x+1:=⟨i%N-1,by omega⟩
   obtain⟨y,hy⟩:∃y,t%N=y+1:=⟨t%N-1,by omega⟩
   rw[hx,hy]
   show(a::l.reverse).getD (x+1) (0,0)=(a::l).getD (y+1) (0,0)
   simp only[List.getD_eq_getElem?_getD,List.getElem?_cons_succ];rw[List.getElem?_reverse (by omega)]
   congr 2
   omega
theorem GW {a b c d:I2}:NM b a d c↔NM c d a b:=by
 rw[←sB,←sB,uW,s4,uW,s4 (a:=a) (b:=b)]
theorem VR.rv {r:List I2} (v:VR r):VR (rv r):=by
 have hn:=v.n3;refine⟨by rw[mL]; exact hn,fun i=>?_,fun i=>?_,fun j i h1 h2 h3=>?_⟩
 ·have e:((r.length-1)*(i+1)+(i+1))%r.length=0:=by
   rw[show(r.length-1)*(i+1)+(i+1)=r.length*(i+1) by
    obtain⟨m,hm⟩:∃m,r.length=m+1:=⟨r.length-1,by omega⟩
    rw[hm,Nat.add_sub_cancel,Nat.add_mul,Nat.one_mul],Nat.mul_mod_right]
  rw[oU (i:=i+1) e,oU (i:=i) (t:=(r.length-1)*(i+1)+1) (by rw[show(r.length-1)*(i+1)+1+i=(r.length-1)*(i+1)+(i+1) by omega]; exact e)]
  exact fun g=>v.still _ g.symm
 ·have e:((r.length-1)*(i+2)+(i+2))%r.length=0:=by
   rw[show(r.length-1)*(i+2)+(i+2)=r.length*(i+2) by
    obtain⟨m,hm⟩:∃m,r.length=m+1:=⟨r.length-1,by omega⟩
    rw[hm,Nat.add_sub_cancel,Nat.add_mul,Nat.one_mul],Nat.mul_mod_right]
  generalize (r.length-1)*(i+2)=m at e;rw[oU (i:=i+2) e,oU (i:=i+1) (t:=m+1) (by rw[show m+1+(i+1)=m+(i+2) by omega]; exact e),oU (i:=i) (t:=m+2) (by rw[show m+2+i=m+(i+2) by omega]; exact e)]
  rintro⟨g1,g2⟩;refine v.kg m ⟨?_,?_⟩
  ·have:ti (nx r (m+2)) (nx r (m+1)) (nx r m) = -ti (nx r m) (nx r (m+1)) (nx r (m+2)):=by unfold Jd.ti; grind
   omega
  ·have:di (nx r (m+2)) (nx r (m+1)) (nx r m)=di (nx r m) (nx r (m+1)) (nx r (m+2)):=by unfold Jd.di; grind
   omega
 ·rw[mL] at h2 h3;have g:∀k,k≤r.length→nx (Jd.rv r) k=nx r (r.length-k):=fun k hk=>oU (by rw[show r.length-k+k=r.length by omega,Nat.mod_self])
  rw[g j (by omega),g (j+1) (by omega),g i (by omega),g (i+1) (by omega)]
  have:=v.meet (r.length-1-i) (r.length-1-j) (by omega) (by omega) (by omega)
  rw[show r.length-1-i+1=r.length-i by omega,show r.length-1-j+1=r.length-j by omega] at this
  rw[show r.length-(j+1)=r.length-1-j by omega,show r.length-(i+1)=r.length-1-i by omega]
  exact GW.2 this
theorem Bj {r:List I2} (F:I2→I2→Int):aD r.length (fun i=>F (nx (rv r) i) (nx (rv r) (i+1)))=aD r.length fun i=>F (nx r (i+1)) (nx r i):=by
 rw[←tR r.length fun i=>F (nx r (i+1)) (nx r i)];refine ar fun i hi=>?_;have g:∀k,k≤r.length→nx (rv r) k=nx r (r.length-k):=fun k hk=>oU (by rw[show r.length-k+k=r.length by omega,Nat.mod_self])
 rw[g i (by omega),g (i+1) (by omega),show r.length-(i+1)=r.length-1-i by omega,show r.length-1-i+1=r.length-i by omega]
theorem G4 (r:List I2):kz (rv r) = -kz r:=by
 unfold kz;rw[mL,Bj fun a b=>a.1*b.2-a.2*b.1,ar (g:=fun i=>-1*((nx r i).1*(nx r (i+1)).2-(nx r i).2*(nx r (i+1)).1)) fun i _=>by grind,hU]
 omega
def eD (α β γ:Int) (x:I2):Int:=α*x.1+β*x.2+γ
theorem ES {α β γ:Int} {a b x:I2} (h:ti a b x=0):(b.1-a.1)*eD α β γ x=(b.1-x.1)*eD α β γ a+(x.1-a.1)*eD α β γ b:=by
 have e:(b.1-a.1)*eD α β γ x-((b.1-x.1)*eD α β γ a+(x.1-a.1)*eD α β γ b)=β*ti a b x:=by unfold eD ti; grind
 rw[h,Int.mul_zero] at e; omega
theorem Ff {α β γ:Int} {a b x:I2} (h:ti a b x=0):(b.2-a.2)*eD α β γ x=(b.2-x.2)*eD α β γ a+(x.2-a.2)*eD α β γ b:=by
 have e:(b.2-a.2)*eD α β γ x-((b.2-x.2)*eD α β γ a+(x.2-a.2)*eD α β γ b) = -α*ti a b x:=by unfold eD ti; grind
 rw[h,Int.mul_zero] at e; omega
theorem nW {u v w s t z:Int} (hw:0<w) (hu:0≤u) (hv:0≤v) (e:u+v=w) (hs:0<s) (ht:0<t) (h:w*z=u*s+v*t):0<z:=by
 have h1:0≤u*s:=Int.mul_nonneg hu (Int.le_of_lt hs);have h2:0≤v*t:=Int.mul_nonneg hv (Int.le_of_lt ht);have:0<w*z:=by
  rcases Int.lt_or_eq_of_le hu with g|g
  ·have:=Int.mul_pos g hs; omega
  ·have:=Int.mul_pos (show 0<v by omega) ht; omega
 exact Int.pos_of_mul_pos_right this hw
theorem sZ {α β γ:Int} {a b x:I2} (h:bE a b x) (ha:0<eD α β γ a) (hb:0<eD α β γ b):0<eD α β γ x:=by
 obtain⟨h0,h1,h2,h3,h4⟩:=h;rcases Int.lt_trichotomy a.1 b.1 with g|g|g
 ·exact nW (w:=b.1-a.1) (u:=b.1-x.1) (v:=x.1-a.1) (by omega) (by omega) (by omega) (by omega) ha hb (ES h0)
 ·rcases Int.lt_trichotomy a.2 b.2 with k|k|k
  ·exact nW (w:=b.2-a.2) (u:=b.2-x.2) (v:=x.2-a.2) (by omega) (by omega) (by omega) (by omega) ha hb (Ff h0)
  ·have:x=a:=Prod.ext (by omega) (by omega)
   rw[this]; exact ha
  ·refine nW (w:=a.2-b.2) (u:=a.2-x.2) (v:=x.2-b.2) (by omega) (by omega) (by omega) (by omega) hb ha (Ff ?_)
   rw[dD,h0]; rfl
 ·refine nW (w:=a.1-b.1) (u:=a.1-x.1) (v:=x.1-b.1) (by omega) (by omega) (by omega) (by omega) hb ha (ES ?_)
  rw[dD,h0]; rfl
theorem rz (α β γ:Int) (x:I2):eD (-α) (-β) (-γ) x = -eD α β γ x:=by unfold eD; grind
theorem pg {α β γ:Int} {a b c d:I2} (ha:0<eD α β γ a) (hb:0<eD α β γ b) (hc:eD α β γ c<0) (hd:eD α β γ d<0):NM a b c d:=by
 refine⟨fun x hx=>?_,fun hx=>?_⟩
 ·have h1:=sZ hx.2.1 ha hb;have h2:=sZ (α:=-α) (β:=-β) (γ:=-γ) hx.2.2 (by rw[rz]; omega) (by rw[rz]; omega)
  rw[rz] at h2; omega
 ·have e:ti c d b*eD α β γ a-ti c d a*eD α β γ b = -(ti a b d*eD α β γ c-ti a b c*eD α β γ d):=by unfold eD ti; grind
  have f:=sC a b c d;generalize eD α β γ a=la at *;generalize eD α β γ b=lb at *;generalize eD α β γ c=lc at *;generalize eD α β γ d=ld at *;generalize ti a b c=s at *;generalize ti a b d=t at *;generalize ti c d a=u at *;generalize ti c d b=v at *;have pp:∀{x y:Int},0<x→0<y→0<x*y:=fun h g=>Int.mul_pos h g;have pn:∀{x y:Int},0<x→y<0→x*y<0:=fun h g=>Int.mul_neg_of_pos_of_neg h g;have np:∀{x y:Int},x<0→0<y→x*y<0:=fun h g=>Int.mul_neg_of_neg_of_pos h g;have nn:∀{x y:Int},x<0→y<0→0<x*y:=fun h g=>Int.mul_pos_of_neg_of_neg h g;obtain⟨h1|h1,h2|h2⟩:=hx
  ·have:=np h2.2 hb; omega
  ·have a1:=pp h2.2 ha; have a2:=np h2.1 hb; have a3:=nn h1.2 hc; have a4:=pn h1.1 hd; omega
  ·have a1:=np h2.2 ha; have a2:=pp h2.1 hb; have a3:=pn h1.2 hc; have a4:=nn h1.1 hd; omega
  ·have:=h1.1; omega
def ft (a b:I2):Int:=a.1*b.2-a.2*b.1
theorem AT {a b c:I2} (h1:0<ft a b) (h2:0<ft b c):¬(ti a b c=0∧di a b c<0):=by
 rintro⟨g1,g2⟩;have e:((b.1-a.1)*(b.1-a.1)+(b.2-a.2)*(b.2-a.2))*ft b c=di a b c*ft a b+ti a b c*(b.1*(b.1-a.1)+b.2*(b.2-a.2)):=by unfold ft di ti; grind
 rw[g1,Int.zero_mul,Int.add_zero] at e;have n1:0≤((b.1-a.1)*(b.1-a.1)+(b.2-a.2)*(b.2-a.2))*ft b c:=Int.mul_nonneg (Int.add_nonneg qc qc) (Int.le_of_lt h2);have n2:=Int.mul_neg_of_neg_of_pos g2 h1;omega
def wy (k:Nat):I2:=[(2,0),(2,1),(1,2),(0,2),(-1,2),(-2,1),(-2,0),(-2,-1),(-1,-2),(0,-2),(1,-2),(2,-1)].getD (k%12) (0,0)
def q6 (m:Int) (a:I2):I2:=(a.1*m,a.2*m)
theorem ou (α β m:Int) (a:I2):eD α β 0 (q6 m a)=eD α β 0 a*m:=by unfold eD q6; grind
theorem DR (m k:Int) (a b:I2):ft (q6 m a) (q6 k b)=m*k*ft a b:=by unfold ft q6; grind
theorem CM (k:Nat):wy (k%12)=wy k:=by unfold wy; rw[Nat.mod_mod]
def I7:List (Int × Int):=[(3,1),(1,3),(-1,3),(-3,1),(-3,-1),(-1,-3),(1,-3),(3,-1),(4,3),(3,4),(-3,4),(-4,3),(-4,-3),(-3,-4),(3,-4),(4,-3),(1,1),(-1,1),(-1,-1),(1,-1),(1,0),(0,1),(-1,0),(0,-1),(5,1),(1,5),(-1,5),(-5,1),(-5,-1),(-1,-5),(1,-5),(5,-1),(2,1),(1,2),(-1,2),(-2,1),(-2,-1),(-1,-2),(1,-2),(2,-1)]
def BC (a x y z:Nat):Bool:=I7.any fun c=>decide (0<eD c.1 c.2 0 (wy a)) && decide (0<eD c.1 c.2 0 (wy (a+x))) && decide (eD c.1 c.2 0 (wy (a+y))<0) && decide (eD c.1 c.2 0 (wy (a+y+z))<0)
def B6:Bool:=(List.range 12).all fun a=>(List.range 4).all fun x=>(List.range 12).all fun y=>(List.range 4).all fun z=>!(decide (0<x) && decide (x<y) && decide (0<z) && decide (y+z<12)) || BC a x y z
theorem A4:B6=true:=by decide +kernel
theorem I9 (a:Nat) (ha:a<12) (x:Nat) (hx:x<4) (y:Nat) (hy:y<12) (z:Nat) (hz:z<4) (h1:0<x) (h2:x<y) (h3:0<z) (h4:y+z<12):BC a x y z=true:=by
 have h:=A4;unfold B6 at h;have h:=List.all_eq_true.1 h a (List.mem_range.2 ha);have h:=List.all_eq_true.1 h x (List.mem_range.2 hx);have h:=List.all_eq_true.1 h y (List.mem_range.2 hy);have h:=List.all_eq_true.1 h z (List.mem_range.2 hz)
 simpa [h1,h2,h3,h4] using h
theorem Gs:∀a<12,∀x<4,0<x→0<ft (wy a) (wy (a+x)):=by decide +kernel
theorem tl (a x:Nat):wy (a%12+x)=wy (a+x):=by unfold wy; rw[Nat.mod_add_mod]
structure Star (r:List I2):Prop where
 n3:2<r.length
 dir:∃δ:Nat→Nat,(∀i,δ i < δ (i+1)∧δ (i+1)≤δ i+3)∧(∀i,δ (i+r.length)=δ i+12)∧∀i,∃m:Int,0<m∧nx r i=q6 m (wy (δ i))
theorem Star.left {r:List I2} (h:Star r) (i:Nat):0<ft (nx r i) (nx r (i+1)):=by
 obtain⟨δ,h1,_,h3⟩:=h.dir;obtain⟨m,m0,e1⟩:=h3 i;obtain⟨k,k0,e2⟩:=h3 (i+1);have hd:=h1 i;rw[e1,e2,DR];have:=Gs (δ i%12) (Nat.mod_lt _ (by decide)) (δ (i+1)-δ i) (by omega) (by omega)
 rw[CM,tl,show δ i+(δ (i+1)-δ i)=δ (i+1) by omega] at this
 exact Int.mul_pos (Int.mul_pos m0 k0) this
theorem Star.vr {r:List I2} (h:Star r):VR r:=by
 refine⟨h.n3,fun i e=>?_,fun i=>AT (h.left i) (h.left (i+1)),fun j i h1 h2 h3=>?_⟩
 ·have:=h.left i;rw[e] at this;unfold ft at this;rw[Int.mul_comm,Int.sub_self] at this;exact absurd this (by decide)
 ·obtain⟨δ,d1,d2,d3⟩:=h.dir;have mono:∀a b,a≤b→δ a≤δ b:=fun a b hab=>by
   induction b with
   | zero=>rw[Nat.le_zero.1 hab]; exact Nat.le_refl _
   | succ b ih =>
    rcases Nat.lt_or_ge a (b+1) with g|g
    ·have:=ih (by omega); have:=d1 b; omega
    ·rw[show a=b+1 by omega]; exact Nat.le_refl _
  have g1:=d1 j;have g2:=d1 i;have g3:δ (j+1) < δ i:=by have:=mono (j+1+1) i (by omega); have:=d1 (j+1); omega
  have g4:δ (i+1) < δ j+12:=by
   by_cases hj:j=0
   ·have:=mono (i+1) (r.length-1) (by omega)
    have h5:=d1 (r.length-1);rw[show r.length-1+1=0+r.length by omega,d2] at h5
    subst hj; omega
   ·have:=mono (i+1) (0+r.length) (by omega)
    rw[d2] at this;have h6:=mono 1 j (by omega)
    have h7:=(d1 0).1;rw[Nat.zero_add] at h7;omega
  have ck:=I9 (δ j%12) (Nat.mod_lt _ (by decide)) (δ (j+1)-δ j) (by omega) (δ i-δ j) (by omega) (δ (i+1)-δ i) (by omega) (by omega) (by omega) (by omega) (by omega)
  unfold BC at ck;obtain⟨c,_,hc⟩:=List.any_eq_true.1 ck;simp only[Bool.and_eq_true,decide_eq_true_eq] at hc;obtain⟨⟨⟨c1,c2⟩,c3⟩,c4⟩:=hc;rw[CM] at c1;rw[tl,show δ j+(δ (j+1)-δ j)=δ (j+1) by omega] at c2
  rw[tl,show δ j+(δ i-δ j)=δ i by omega] at c3
  rw[Nat.add_assoc,tl,show δ j+(δ i-δ j+(δ (i+1)-δ i))=δ (i+1) by omega] at c4
  obtain⟨m1,p1,e1⟩:=d3 j;obtain⟨m2,p2,e2⟩:=d3 (j+1);obtain⟨m3,p3,e3⟩:=d3 i;obtain⟨m4,p4,e4⟩:=d3 (i+1);rw[e1,e2,e3,e4];exact pg (α:=c.1) (β:=c.2) (γ:=0) (by rw[ou]; exact Int.mul_pos c1 p1) (by rw[ou]; exact Int.mul_pos c2 p2) (by rw[ou]; exact Int.mul_neg_of_neg_of_pos c3 p3) (by rw[ou]; exact Int.mul_neg_of_neg_of_pos c4 p4)
theorem Br {n:Nat} {f:Nat→Int} (h:∀i,i<n→0<f i) (hn:0<n):0<aD n f:=by
 induction n with
 | zero=>exact absurd hn (Nat.lt_irrefl 0)
 | succ n ih =>
  simp only[aD];have h1:=h n (Nat.lt_succ_self n);rcases Nat.eq_zero_or_pos n with e|e
  ·subst e; simp only[aD]; omega
  ·have:=ih (fun i hi=>h i (by omega)) e; omega
theorem Star.kz {r:List I2} (h:Star r):0<kz r:=Br (fun i _=>h.left i) (by have:=h.n3; omega)
def I1 (D:List Nat) (i:Nat):Nat:=if i+1<D.length then D.getD (i+1) 0 else D.getD 0 0+12
def IY (D:List Nat):Bool:=decide (2<D.length) && (List.range D.length).all fun i=>decide (D.getD i 0<I1 D i) && decide (I1 D i≤D.getD i 0+3)
def zo (b1 b2 b4 b5 b7 b8 b10 b11:Bool):List Nat:=(List.range 12).filter fun i=>[true,b1,b2,true,b4,b5,true,b7,b8,true,b10,b11].getD i false
theorem zj:∀b1 b2 b4 b5 b7 b8 b10 b11:Bool,IY (zo b1 b2 b4 b5 b7 b8 b10 b11)=true:=by decide +kernel
theorem zh {p:Nat→Bool} (h0:p 0=true) (h3:p 3=true) (h6:p 6=true) (h9:p 9=true):(List.range 12).filter p=zo (p 1) (p 2) (p 4) (p 5) (p 7) (p 8) (p 10) (p 11):=by
 unfold zo;refine List.filter_congr fun i hi=>?_;have:=List.mem_range.1 hi
 match i,this with
 | 0,_=>exact h0
 | 1,_=>rfl
 | 2,_=>rfl
 | 3,_=>exact h3
 | 4,_=>rfl
 | 5,_=>rfl
 | 6,_=>exact h6
 | 7,_=>rfl
 | 8,_=>rfl
 | 9,_=>exact h9
 | 10,_=>rfl
 | 11,_=>rfl
theorem yT {p:Nat→Bool} (h0:p 0=true) (h3:p 3=true) (h6:p 6=true) (h9:p 9=true) {m:Nat→Int} (hm:∀i,0<m i):Star (((List.range 12).filter p).map fun i=>q6 (m i) (wy i)):=by
 rw[zh h0 h3 h6 h9];have ck:=zj (p 1) (p 2) (p 4) (p 5) (p 7) (p 8) (p 10) (p 11);generalize zo (p 1) (p 2) (p 4) (p 5) (p 7) (p 8) (p 10) (p 11)=D at *;unfold IY at ck;simp only[Bool.and_eq_true,decide_eq_true_eq,List.all_eq_true,List.mem_range] at ck;obtain⟨hn,hc⟩:=ck;have hn0:0<D.length:=by omega
 refine⟨by rw[List.length_map]; exact hn,fun i=>D.getD (i%D.length) 0+12*(i/D.length),fun i=>?_,fun i=>?_,fun i=>?_⟩
 ·have hi:=Nat.mod_lt i hn0;have h:=hc _ hi;have hd:=Nat.div_add_mod i D.length;unfold I1 at h
  by_cases g:i%D.length+1<D.length
  ·have e1:(i+1)%D.length=i%D.length+1:=by
    rw[Nat.add_mod,Nat.mod_eq_of_lt (show 1<D.length by omega),Nat.mod_eq_of_lt g]
   have e2:(i+1)/D.length=i/D.length:=by
    have h5:=Nat.div_add_mod (i+1) D.length;rw[e1] at h5;have:D.length*((i+1)/D.length)=D.length*(i/D.length):=by omega
    exact Nat.eq_of_mul_eq_mul_left hn0 this
   rw[if_pos g] at h;simp only[e1,e2]; omega
  ·have hl:i%D.length+1=D.length:=by omega
   have e0:i+1=D.length*(i/D.length+1):=by rw[Nat.mul_add,Nat.mul_one]; omega
   have e1:(i+1)%D.length=0:=by rw[e0,Nat.mul_mod_right]
   have e2:(i+1)/D.length=i/D.length+1:=by rw[e0,Nat.mul_div_cancel_left _ hn0]
   rw[if_neg g] at h;simp only[e1,e2]; omega
 ·rw[List.length_map];simp only[Nat.add_mod_right,Nat.add_div_right _ hn0]; omega
 ·have hi:=Nat.mod_lt i hn0;refine⟨m (D.getD (i%D.length) 0),hm _,?_⟩;have hg:D.getD (i%D.length) 0=D[i%D.length]:=by rw[List.getD_eq_getElem?_getD,List.getElem?_eq_getElem hi]; rfl
  show nx (D.map fun i=>q6 (m i) (wy i)) i=q6 (m (D.getD (i%D.length) 0)) (wy (D.getD (i%D.length) 0+12*(i/D.length)))
  rw[hg];unfold nx;rw[List.length_map,List.getD_eq_getElem?_getD,List.getElem?_map,List.getElem?_eq_getElem hi]
  show q6 (m D[i%D.length]) (wy D[i%D.length])=q6 (m D[i%D.length]) (wy (D[i%D.length]+12*(i/D.length)))
  congr 1
  unfold wy;rw[Nat.add_mul_mod_self_left]
def oh:List I2→List (I2 × I2)
 | a::b::l=>(a,b)::oh (b::l)
 | _=>[]
def yk:List I2→Prop
 | a::b::l=>a≠b∧(∀c l',l=c::l'→¬(ti a b c=0∧di a b c<0))∧(∀e ∈ oh l,NM a b e.1 e.2)∧yk (b::l)
 | _=>True
theorem wD:∀(L:List I2) (i:Nat),i+1<L.length→(L.getD i (0,0),L.getD (i+1) (0,0)) ∈ oh L
 | [],_,h=>absurd h (by simp)
 | [_],_,h=>absurd h (by simp)
 | a::b::l,0,_=>by simp[oh]
 | a::b::l,i+1,h=>by
  have:=wD (b::l) i (by simpa using h)
  simp only[oh,List.mem_cons,List.getD_cons_succ] at *;exact .inr this
theorem yk.still:∀{L:List I2},yk L→∀i,i+1<L.length→L.getD i (0,0)≠L.getD (i+1) (0,0)
 | [],_,_,h=>absurd h (by simp)
 | [_],_,_,h=>absurd h (by simp)
 | _::_::_,ho,0,_=>ho.1
 | _::b::l,ho,i+1,h=>by simpa only[List.getD_cons_succ] using yk.still (L:=b::l) ho.2.2.2 i (by simpa using h)
theorem yk.kg:∀{L:List I2},yk L→∀i,i+2<L.length→¬(ti (L.getD i (0,0)) (L.getD (i+1) (0,0)) (L.getD (i+2) (0,0))=0∧di (L.getD i (0,0)) (L.getD (i+1) (0,0)) (L.getD (i+2) (0,0))<0)
 | [],_,_,h=>absurd h (by simp)
 | [_],_,_,h=>absurd h (by simp)
 | [_,_],_,_,h=>absurd h (by simp)
 | _::_::c::l,ho,0,_=>ho.2.1 c l rfl
 | _::b::c::l,ho,i+1,h=>by simpa only[List.getD_cons_succ] using yk.kg (L:=b::c::l) ho.2.2.2 i (by simpa using h)
theorem yk.meet:∀{L:List I2},yk L→∀j i,j+1<i→i+1<L.length→NM (L.getD j (0,0)) (L.getD (j+1) (0,0)) (L.getD i (0,0)) (L.getD (i+1) (0,0))
 | [],_,_,_,_,h=>absurd h (by simp)
 | [_],_,_,_,_,h=>absurd h (by simp)
 | _::_::l,ho,0,i+2,_,h=>by
  exact ho.2.2.1 _ (wD l i (by simp at h; omega))
 | _::b::l,ho,j+1,i+1,hj,h=>by simpa only[List.getD_cons_succ] using yk.meet (L:=b::l) ho.2.2.2 j i (by omega) (by simpa using h)
theorem Ib {a b:I2} {l:List I2} {z:I2} (hab:a≠b) (hl:l≠[]) (hz:l.getLast? = some z) (s1:∀c l',l=c::l'→¬(ti a b c=0∧di a b c<0)) (s2:¬(ti z a b=0∧di z a b<0)) (hm:∀e ∈ oh l,NM a b e.1 e.2) (ho:yk (b::l++[a])):VR (a::b::l):=by
 have hlen:0<l.length:=List.length_pos_iff.2 hl;have hn:(a::b::l).length=l.length+2:=by simp
 have hC:∀i,i<l.length+2→nx (a::b::l) (i+1)=(b::l++[a]).getD i (0,0):=fun i hi=>by
  unfold nx;rw[hn];rcases Nat.lt_or_ge (i+1) (l.length+2) with g|g
  ·rw[Nat.mod_eq_of_lt g,List.getD_cons_succ,List.cons_append,←List.cons_append];rw[List.getD_eq_getElem?_getD,List.getD_eq_getElem?_getD,List.getElem?_append_left (by simp; omega)]
  ·have:i=l.length+1:=by omega
   subst this;rw[show l.length+1+1=l.length+2 by omega,Nat.mod_self,List.getD_eq_getElem?_getD,List.getD_eq_getElem?_getD,List.getElem?_append_right (by simp)]
   simp
 have hL:(b::l++[a]).length=l.length+2:=by simp
 have h0:nx (a::b::l) 0=a:=by unfold nx; simp
 have red:∀i,∃k,k<l.length+2∧∀t,nx (a::b::l) (i+t)=nx (a::b::l) (k+t):=fun i =>
  ⟨i%(l.length+2),Nat.mod_lt _ (by omega),fun t=>dQ _ (by rw[hn,Nat.mod_add_mod])⟩
 have hb:nx (a::b::l) 1=b:=by rw[hC 0 (by omega)]; rfl
 have hlast:nx (a::b::l) (l.length+1)=z:=by
  rw[hC l.length (by omega),List.getD_eq_getElem?_getD,List.getElem?_append_left (by simp)]
  have:(b::l)[l.length]? = l.getLast?:=by
   rw[List.getLast?_eq_getElem?,show l.length=(l.length-1)+1 by omega,List.getElem?_cons_succ]
   simp
  rw[this,hz]; rfl
 refine⟨by rw[hn]; omega,fun i=>?_,fun i=>?_,fun j i h1 h2 h3=>?_⟩
 ·obtain⟨k,hk,e⟩:=red i;rw[show nx (a::b::l) i=nx (a::b::l) (i+0) from rfl,e 0,e 1,Nat.add_zero]
  rcases Nat.eq_zero_or_pos k with g|g
  ·subst g; rw[h0,hb]; exact hab
  ·obtain⟨k,rfl⟩:∃k',k=k'+1:=⟨k-1,by omega⟩
   rw[hC k (by omega),hC (k+1) (by omega)]
   exact ho.still k (by rw[hL]; omega)
 ·obtain⟨k,hk,e⟩:=red i;rw[show nx (a::b::l) i=nx (a::b::l) (i+0) from rfl,e 0,e 1,e 2,Nat.add_zero]
  rcases Nat.eq_zero_or_pos k with g|g
  ·subst g;rw[h0,hb,show 0+2=1+1 from rfl,hC 1 (by omega)]
   match l,hl with
   | c::l',_=>exact s1 c l' rfl
  ·obtain⟨k,rfl⟩:∃k',k=k'+1:=⟨k-1,by omega⟩
   rw[hC k (by omega),hC (k+1) (by omega)]
   rcases Nat.lt_or_ge (k+2) (l.length+2) with g2|g2
   ·rw[show k+1+2=(k+2)+1 by omega,hC (k+2) g2]
    exact ho.kg k (by rw[hL]; omega)
   ·have:k=l.length:=by omega
    subst this;have e1:nx (a::b::l) (l.length+1+2)=b:=by
     refine(dQ _ ?_).trans hb;rw[hn,show l.length+1+2=1+(l.length+2) by omega,Nat.add_mod_right]
    rw[e1,←hC l.length (by omega),←hC (l.length+1) (by omega),hlast]
    have e2:nx (a::b::l) (l.length+1+1)=a:=by
     refine(dQ _ ?_).trans h0;rw[hn,show l.length+1+1=l.length+2 by omega,Nat.mod_self,Nat.zero_mod]
    rw[e2]; exact s2
 ·rw[hn] at h2 h3;obtain⟨i,rfl⟩:∃i',i=i'+1:=⟨i-1,by omega⟩
  rw[hC i (by omega),hC (i+1) (by omega)]
  rcases Nat.eq_zero_or_pos j with g|g
  ·subst g;rw[h0,hb];obtain⟨i,rfl⟩:∃i',i=i'+1:=⟨i-1,by omega⟩
   have hi:i+1<l.length:=by omega
   have e:∀k,k<l.length→(b::l++[a]).getD (k+1) (0,0)=l.getD k (0,0):=fun k hk=>by
    rw[List.cons_append,List.getD_cons_succ,List.getD_eq_getElem?_getD,List.getD_eq_getElem?_getD,List.getElem?_append_left hk]
   rw[e i (by omega),e (i+1) hi]
   exact hm _ (wD l i hi)
  ·obtain⟨j,rfl⟩:∃j',j=j'+1:=⟨j-1,by omega⟩
   rw[hC j (by omega),hC (j+1) (by omega)]
   exact ho.meet j i (by omega) (by rw[hL]; omega)
theorem zn (F:I2→I2→Int):∀L:List I2,((oh L).map fun e=>F e.1 e.2).sum=aD (L.length-1) fun i=>F (L.getD i (0,0)) (L.getD (i+1) (0,0))
 | []=>rfl
 | [_]=>rfl
 | a::b::l=>by
  simp only[oh,List.map_cons,List.sum_cons];rw[zn F (b::l)];have:(a::b::l).length-1=(b::l).length-1+1:=by simp
  rw[this,eV]
  rfl
theorem DS (a b:I2) (l:List I2):kz (a::b::l)=ft a b+((oh (b::l++[a])).map fun e=>ft e.1 e.2).sum:=by
 have h:=zn ft (a::(b::l++[a]));simp only[List.cons_append,oh,List.map_cons,List.sum_cons] at h;rw[List.cons_append,h];unfold kz;have hn:(a::b::l).length=l.length+2:=by simp
 rw[hn,show(a::b::(l++[a])).length-1=l.length+2 by simp]
 refine ar fun i hi=>?_;have hC:∀i,i<l.length+3→nx (a::b::l) i=(a::b::(l++[a])).getD i (0,0):=fun i hi=>by
  unfold nx;rw[hn];rcases Nat.lt_or_ge i (l.length+2) with g|g
  ·rw[Nat.mod_eq_of_lt g,show a::b::(l++[a])=(a::b::l)++[a] by simp,List.getD_eq_getElem?_getD,List.getD_eq_getElem?_getD,List.getElem?_append_left (by simp; omega)]
  ·have:i=l.length+2:=by omega
   subst this;rw[Nat.mod_self,show a::b::(l++[a])=(a::b::l)++[a] by simp,List.getD_eq_getElem?_getD,List.getD_eq_getElem?_getD,List.getElem?_append_right (by simp)]
   simp
 rw[hC i (by omega),hC (i+1) (by omega)]
 rfl
def fK (h:Nat→Int):Nat→Int→List I2
 | 0,_=>[]
 | k+1,p=>(if h k=p then[] else[(((k+1:Nat):Int),h k)])++((k:Int),h k)::fK h k (h k)
def down (h:Nat→Int) (k:Nat) (p:Int):List I2:=fK h k p++[(0,0)]
theorem jO (h:Nat→Int) (p:Int):down h 0 p = [(0,0)]:=rfl
theorem jS {h:Nat→Int} {k:Nat} {p:Int} (e:h k=p):down h (k+1) p=((k:Int),h k)::down h k (h k):=by
 unfold down; simp only[fK]; rw[if_pos e]; rfl
theorem ij {h:Nat→Int} {k:Nat} {p:Int} (e:h k≠p):down h (k+1) p=(((k+1:Nat):Int),h k)::((k:Int),h k)::down h k (h k):=by
 unfold down; simp only[fK]; rw[if_neg e]; rfl
section
variable {h : Nat → Int} (hp : ∀ i, 1 ≤ h i)
include hp
theorem lY:∀(k:Nat) (p:Int),∀x ∈ fK h k p,0≤x.1∧x.1≤k∧1≤x.2
 | 0,_,_,hx=>absurd hx (by simp[fK])
 | k+1,p,x,hx=>by
  simp only[fK,List.mem_append,List.mem_cons] at hx;rcases hx with hx|hx|hx
  ·split at hx
   ·simp at hx
   ·rw[List.mem_singleton] at hx; subst hx;have:=hp k;exact⟨by dsimp only; omega,by dsimp only; omega,this⟩
  ·subst hx;have:=hp k;exact⟨by dsimp only; omega,by dsimp only; omega,this⟩
  ·have:=lY k (h k) x hx;omega
theorem rF (k:Nat) (p:Int):∀x ∈ down h k p,0≤x.1∧x.1≤k∧0≤x.2:=fun x hx=>by
 unfold down at hx;rcases List.mem_append.1 hx with hx|hx
 ·have:=lY hp k p x hx; omega
 ·rw[List.mem_singleton] at hx; subst hx; exact⟨by decide,by dsimp only; omega,by decide⟩
omit hp in
theorem rP {L:List I2}:∀{e:I2 × I2},e ∈ oh L→e.1 ∈ L∧e.2 ∈ L:=by
 induction L with
 | nil=>intro e he; simp[oh] at he
 | cons a L ih =>
  intro e he
  match L with
  | []=>simp[oh] at he
  | b::l =>
   simp only[oh,List.mem_cons] at he;rcases he with rfl|he
   ·simp
   ·have:=ih (by simpa only[oh] using he)
    exact⟨List.mem_cons_of_mem _ this.1,List.mem_cons_of_mem _ this.2⟩
omit hp in
theorem uf {a b c d:I2} {k:Int} (ha:k<a.1) (hb:k<b.1) (hc:c.1≤k) (hd:d.1≤k):NM a b c d :=
 pg (α:=2) (β:=0) (γ:=-(2*k+1)) (by unfold eD; omega) (by unfold eD; omega) (by unfold eD; omega) (by unfold eD; omega)
omit hp in
theorem BT {a b c d:I2} {y z:Int} (ha:a.2=y) (hb:b.2=y) (hc:c.2=z) (hd:d.2=z) (hyz:y≠z):NM a b c d:=by
 rcases Int.lt_or_gt_of_ne hyz with g|g
 ·exact pg (α:=0) (β:=-2) (γ:=y+z) (by unfold eD; omega) (by unfold eD; omega) (by unfold eD; omega) (by unfold eD; omega)
 ·exact pg (α:=0) (β:=2) (γ:=-(y+z)) (by unfold eD; omega) (by unfold eD; omega) (by unfold eD; omega) (by unfold eD; omega)
theorem Dw (k:Nat):∀e ∈ oh (down h k (h k)),NM (((k+1:Nat):Int),h k) ((k:Int),h k) e.1 e.2:=fun e he=>by
 match k with
 | 0=>rw[jO] at he; simp[oh] at he
 | k+1 =>
  have inner:∀e ∈ oh (((k:Int),h k)::down h k (h k)),NM (((k+1+1:Nat):Int),h (k+1)) (((k+1:Nat):Int),h (k+1)) e.1 e.2:=fun e he=>by
   obtain⟨m1,m2⟩:=rP he;have q:∀x ∈ ((k:Int),h k)::down h k (h k),x.1≤(k:Int):=fun x hx=>by
    rcases List.mem_cons.1 hx with rfl|hx
    ·exact Int.le_refl _
    ·exact(rF hp k _ x hx).2.1
   exact uf (k:=(k:Int)) (by dsimp only; omega) (by dsimp only; omega) (q _ m1) (q _ m2)
  by_cases g:h k=h (k+1)
  ·rw[jS g] at he; exact inner e he
  ·rw[ij g] at he;simp only[oh,List.mem_cons] at he;rcases he with rfl|he
   ·exact BT rfl rfl rfl rfl (Ne.symm g)
   ·exact inner e he
theorem Bz (k:Nat) (ho:yk (((k:Int),h k)::down h k (h k))):yk ((((k+1:Nat):Int),h k)::((k:Int),h k)::down h k (h k)):=by
 refine⟨fun e=>by have:=congrArg Prod.fst e; dsimp only at this; omega,fun c l' e=>?_,Dw hp k,ho⟩
 rintro⟨g1,g2⟩;have hc:=rF hp k (h k) c (by rw[e]; exact List.mem_cons_self)
 unfold di at g2
 dsimp only at g2
 rw[Int.sub_self,Int.zero_mul,Int.add_zero,show(k:Int)-((k+1:Nat):Int) = -1 by omega] at g2
 omega
theorem uJ:∀(k:Nat) (p:Int),(k=0→p≠0)→yk (((k:Int),p)::down h k p)
 | 0,p,h0=>by
  rw[jO];exact⟨fun e=>h0 rfl (congrArg Prod.snd e),fun c l' e=>by simp at e,fun e he=>by simp[oh] at he,trivial⟩
 | k+1,p,_=>by
  have ih:=uJ k (h k) (fun _=>by have:=hp k; omega)
  have fl:=Bz hp k ih
  by_cases g:h k=p
  ·rw[jS g,←g]; exact fl
  ·rw[ij g];refine⟨fun e=>g (congrArg Prod.snd e).symm,fun c l' e=>?_,fun e he=>?_,fl⟩
   ·have:c=((k:Int),h k):=(List.cons.inj e).1.symm;subst this;rintro⟨g1,_⟩;unfold ti at g1
    dsimp only at g1
    rw[Int.sub_self,Int.zero_mul,Int.zero_sub,show(k:Int)-((k+1:Nat):Int) = -1 by omega,Int.mul_neg,Int.mul_one] at g1
    omega
   ·obtain⟨m1,m2⟩:=rP he;have q:∀x ∈ ((k:Int),h k)::down h k (h k),x.1≤(k:Int):=fun x hx=>by
     rcases List.mem_cons.1 hx with rfl|hx
     ·exact Int.le_refl _
     ·exact(rF hp k _ x hx).2.1
    exact uf (k:=(k:Int)) (by dsimp only; omega) (by dsimp only; omega) (q _ m1) (q _ m2)
def bT (h:Nat→Int) (c:Nat):List I2:=(0,0)::((c:Int),0)::fK h c 0
omit hp in
theorem mK:∀(k:Nat) (p:Int),0<k→(fK h k p).getLast? = some (0,h 0)
 | 0,_,hk=>absurd hk (Nat.lt_irrefl 0)
 | k+1,p,_=>by
  simp only[fK];rw[List.getLast?_append,List.getLast?_cons]
  match k with
  | 0=>simp[fK]
  | k+1=>rw[mK (k+1) _ (Nat.succ_pos k)]; simp
theorem GD {c:Nat} (hc:0<c):VR (bT h c):=by
 obtain⟨k,rfl⟩:∃k,c=k+1:=⟨c-1,by omega⟩
 have hk:=hp k;have h0:=hp 0;have first:fK h (k+1) 0=(((k+1:Nat):Int),h k)::((k:Int),h k)::fK h k (h k):=by
  simp only[fK]; rw[if_neg (by omega)]; rfl
 refine Ib (z:=(0,h 0)) (fun e=>by have:=congrArg Prod.fst e; dsimp only at this; omega) (by rw[first]; simp) (mK (k+1) 0 (Nat.succ_pos k)) (fun c l' e=>?_) ?_ (fun e he=>?_) (uJ hp (k+1) 0 (fun e=>absurd e (by simp)))
 ·rw[first] at e
  have:c=(((k+1:Nat):Int),h k):=(List.cons.inj e).1.symm;subst this;rintro⟨g,_⟩;unfold ti at g
  dsimp only at g
  rw[Int.sub_zero,Int.sub_zero,Int.sub_self,Int.zero_mul,Int.sub_zero] at g;rcases Int.mul_eq_zero.1 g with e|e<;>omega
 ·rintro⟨g,_⟩;unfold ti at g
  dsimp only at g
  rw[Int.sub_self,Int.zero_mul,Int.zero_sub,Int.zero_sub,Int.sub_zero] at g;have:h 0*((k+1:Nat):Int)=0:=by rw[Int.neg_mul] at g; omega
  rcases Int.mul_eq_zero.1 this with e|e<;>omega
 ·obtain⟨m1,m2⟩:=rP he;have q1:=lY hp _ _ _ m1;have q2:=lY hp _ _ _ m2;exact pg (α:=0) (β:=-2) (γ:=1) (by unfold eD; omega) (by unfold eD; omega) (by unfold eD; omega) (by unfold eD; omega)
omit hp in
def th (h:Nat→Int):Nat→Int
 | 0=>0
 | k+1=>th h k+2*h k
omit hp in
theorem qE:∀(k:Nat) (p:Int),((oh (((k:Int),p)::down h k p)).map fun e=>ft e.1 e.2).sum=th h k-k*p
 | 0,p=>by
  rw[jO];simp[oh,ft,th]
 | k+1,p=>by
  have ih:=qE k (h k);have e1:ft (((k+1:Nat):Int),h k) ((k:Int),h k)=h k:=by unfold ft; dsimp only; rw[Int.mul_comm (h k),←Int.sub_mul,show((k+1:Nat):Int)-(k:Int)=1 by omega,Int.one_mul]
  by_cases g:h k=p
  ·rw[jS g,←g];simp only[oh,List.map_cons,List.sum_cons];rw[ih,e1];simp only[th];rw[show((k+1:Nat):Int)=(k:Int)+1 by omega,Int.add_mul]
   omega
  ·rw[ij g];simp only[oh,List.map_cons,List.sum_cons];rw[ih,e1];have e2:ft (((k+1:Nat):Int),p) (((k+1:Nat):Int),h k)=(k:Int)*h k+h k-(k:Int)*p-p:=by
    unfold ft; dsimp only; rw[show((k+1:Nat):Int)=(k:Int)+1 by omega]; grind
   rw[e2];simp only[th];rw[show((k+1:Nat):Int)=(k:Int)+1 by omega,Int.add_mul]
   omega
theorem DP {c:Nat} (hc:0<c):0<kz (bT h c):=by
 have e:kz (bT h c)=th h c:=by
  unfold bT;rw[DS];have:=qE (h:=h) c 0;unfold down at this;rw[List.cons_append,this];unfold ft; dsimp only; omega
 rw[e];have:∀k,0≤th h k:=fun k=>by
  induction k with
  | zero=>exact Int.le_refl 0
  | succ k ih=>simp only[th]; have:=hp k; omega
 obtain⟨k,rfl⟩:∃k,c=k+1:=⟨c-1,by omega⟩
 have h1:=this k;have h2:=hp k;simp only[th]; omega
end
end Jd
end

section
namespace Go.Proofs.YthmekkhpddehjaaGreat
open Go Go.Ab Go.Ab.W Go.Ab.B Jd
structure Ok (l:List I2):Prop where
 len:l.length≤40
 nr:∀i,Nr (nx l i)
 vr:VR l
theorem jP {ρ:Type} {f:Nat→Option ρ} {e:ρ} {k i:Nat} (h:∀j,i≤j→j<i+k→f j=none):cM f e k i=e:=by
 rcases gA (f:=f) (e:=e) k i with⟨_,h2⟩|⟨j,h1,h2,h3⟩
 ·exact h2
 ·rw[h j h1 h2] at h3; cases h3
theorem B4 {i L:Nat} (hL:0<L):((i+1)%L+L-1)%L=i%L:=by
 have h:=Nat.div_add_mod (i+1) L;have:((i+1)%L+L-1)+L*((i+1)/L)=i+L:=by omega
 rw[←Nat.add_mul_mod_self_left ((i+1)%L+L-1) L ((i+1)/L),this,Nat.add_mod_right]
theorem Ok.rk {l:List I2} (h:Ok l):rk l:=by
 have hn:=h.vr.n3;have hl:=h.len;unfold Go.Proofs.YthmekkhpddehjaaGreat.rk lT;rw[if_neg (by omega),jP (f:=jZ l) fun j _ _=>by unfold jZ; rw[if_neg (A1.2 (h.nr j))]]
 dsimp only
 rw[jP (f:=eS l) fun j _ _=>by unfold eS; rw[if_neg (h.vr.still j)]]
 dsimp only
 rw[jP (f:=fi l) fun j _ hj=>by
  unfold fi;have:=h.vr.kg (j+l.length-1);rw[show j+l.length-1+1=j+l.length by omega,show j+l.length-1+2=(j+1)+l.length by omega,dQ l (Nat.add_mod_right j l.length),dQ l (Nat.add_mod_right (j+1) l.length)] at this
  rw[if_neg this]]
 dsimp only
 rw[jP (f:=fm l) fun j _ hj=>by
  unfold fm;rw[if_neg];rintro⟨t,ht,h1,h2⟩;exact h2 (sB.2 (h.vr.meet t j ht (by omega) fun e=>h1 ⟨e.1,by omega⟩))]
 exact Int.le_refl 0
theorem rk.ok {l:List I2} (h:rk l):Ok l:=by
 unfold Go.Proofs.YthmekkhpddehjaaGreat.rk lT at h
 split at h
 ·exact absurd (show(1:Int)≤0 from h) (by decide)
 ·rename_i hl;cases h1:cM (jZ l) (.inr ()) l.length 0 with
  | inl v=>rw[h1] at h; exact absurd (show(2:Int)≤0 from h) (by decide)
  | inr _ =>
   rw[h1] at h
   dsimp only at h
   cases h2:cM (eS l) (.inr ()) l.length 0 with
   | inl v=>rw[h2] at h; exact absurd (show(3:Int)≤0 from h) (by decide)
   | inr _ =>
    rw[h2] at h
    dsimp only at h
    cases h3:cM (fi l) (.inr ()) l.length 0 with
    | inl v=>rw[h3] at h; exact absurd (show(4:Int)≤0 from h) (by decide)
    | inr _ =>
     rw[h3] at h
     dsimp only at h
     cases h4:cM (fm l) (.inr ()) l.length 0 with
     | inl v=>rw[h4] at h; exact absurd (show(5:Int)≤0 from h) (by decide)
     | inr _ =>
      have hL:0<l.length:=by omega
      refine⟨by omega,xf hL h1,by omega,vR hL h2,fun i=>?_,fun j i hji hi hn=>?_⟩
      ·have:=lZ (fun j r hr=>by unfold fi at hr; split at hr<;>cases hr; simp) h3 ((i+1)%l.length) (Nat.mod_lt _ hL)
       unfold fi at this
       split at this
       ·cases this
       ·rename_i g;rw[dQ l (B4 hL),oT,nH] at g;exact g
      ·have:=lZ (fun j r hr=>by unfold fm at hr; split at hr<;>cases hr; simp) h4 i hi
       unfold fm at this
       split at this
       ·cases this
       ·rename_i g;refine sB.1 (Decidable.byContradiction fun e=>g ⟨j,hji,fun k=>hn ⟨k.1,by omega⟩,e⟩)
theorem rN {l:List I2}:rk l↔Ok l:=⟨rk.ok,Ok.rk⟩
def num (l:List Nat) (i:Nat):Nat:=if l.length=0 then i%3 else l.getD (i%l.length) 0
theorem Gh {l:List Nat} (hb:∀x ∈ l,x<256) (i:Nat):num l i<256:=by
 unfold num
 split
 ·omega
 ·rename_i h;have hm:i%l.length<l.length:=Nat.mod_lt _ (by omega)
  rw[List.getD_eq_getElem?_getD,List.getElem?_eq_getElem hm];exact hb _ (List.getElem_mem hm)
section
variable (n : Nat) {l : List Nat} (hb : ∀ x ∈ l, x < 256) (x5 x6 : Int) (x7 : Nat) (x8 x9 : Bool)
include hb
theorem wJ (i:Nat):FU n l x5 x6 x7 x8 x9 (i:Int)=some ((num l i:Nat):Int):=by
 have hlt:=Gh hb i;unfold FU;unfold num at hlt ⊢
 by_cases h:l.length=0
 ·rw[aY (by omega),if_pos h]; rfl
 ·have hm:i%l.length<l.length:=Nat.mod_lt _ (by omega)
  rw[if_neg h] at hlt ⊢;rw[aX (by omega),decide_eq_true (show((l.length:Nat):Int)≠0 by omega),cw,pP,bD hm,cw,Int.toNat_natCast]
  rw[List.getD_eq_getElem?_getD,List.getElem?_eq_getElem hm] at hlt ⊢;have hlt':l[i%l.length]<256:=hlt;rw[av,aq (by omega) (by omega)]; rfl
def kp (l:List Nat) (i:Nat):Bool:=!(decide (num l i%6=0) && !decide (i%3=0))
def cm (l:List Nat) (i:Nat):Int:=((1+num l i%6%5:Nat):Int)
def IQ:List I2:=[(2,0),(2,1),(1,2),(0,2),(-1,2),(-2,1),(-2,0),(-2,-1),(-1,-2),(0,-2),(1,-2),(2,-1)]
omit hb in
theorem rM (i:Nat):1≤cm l i∧cm l i≤5:=by unfold cm; omega
omit hb in
theorem FI:∀i<12,IQ[i]? = some ((wy i).1,(wy i).2):=by decide
omit hb in
theorem Iq:∀i<12,-2≤(wy i).1∧(wy i).1≤2∧-2≤(wy i).2∧(wy i).2≤2:=by decide
omit hb in
theorem qY {x y:Int} (hx : -2≤x∧x≤2) (hy:1≤y∧y≤5):IntKind.wrap .i64 (x*y)=x*y:=by
 have:=cZ (B:=2) (C:=5) (u:=x) (v:=y) (by decide) (by omega) (by omega) (by omega) (by omega)
 exact aq (by omega) (by omega)
theorem CQ {i:Nat} (hi:i<12) (acc:List I2) (ha:acc.length≤12):qG n l x5 x6 x7 x8 x9 (acc,IQ,(i:Int))=some (.inl (if kp l i then acc++[q6 (cm l i) (wy i)] else acc,IQ,((i+1:Nat):Int))):=by
 have hw:=Iq i hi;have hc:=rM (l:=l) i;have e1:Int.tmod ((num l i:Nat):Int) 6=((num l i%6:Nat):Int):=rfl;have e2:Int.tmod (i:Int) 3=((i%3:Nat):Int):=rfl;have e3:Int.tmod ((num l i%6:Nat):Int) 5=((num l i%6%5:Nat):Int):=rfl;have e4:IntKind.wrap .i64 (1+((num l i%6%5:Nat):Int))=cm l i:=by
  unfold cm; rw[aq (by omega) (by omega)]; omega
 unfold qG
 dsimp only
 rw[aY (by omega),wJ n hb,av,e1,e2,e3,e4,bD hi,cw,Int.toNat_natCast,FI i hi,av]
 dsimp only
 rw[qY ⟨hw.1,hw.2.1⟩ hc,qY ⟨hw.2.2.1,hw.2.2.2⟩ hc,av,cw,av,bw (by omega),dC,av]
 have hk:(decide (((num l i%6:Nat):Int)=0) && !decide (((i%3:Nat):Int)=0)) = !kp l i:=by
  unfold kp;rw[Bool.not_not]
  congr 1
  ·rw[decide_eq_decide]; omega
  ·congr 1; rw[decide_eq_decide]; omega
 rw[hk];cases kp l i with
 | true =>
  rw[Bool.not_true,gC,show lim (acc++[((wy i).1*cm l i,(wy i).2*cm l i)]).length=true from Nat.ble_eq_true_of_le (by rw[List.length_append]; simp; omega),cw,av]; rfl
 | false=>rw[Bool.not_false,ng,av]; rfl
theorem oN:∀(k i m:Nat) (acc:List I2),i+k=12→acc.length≤i→k<m→dx (qG n l x5 x6 x7 x8 x9) m (acc,IQ,(i:Int))=some (acc++((List.range' i k).filter (kp l)).map fun i=>q6 (cm l i) (wy i))
 | 0,i,m+1,acc,h,_,_=>by
  rw[eg (r:=acc)]
  ·simp
  ·unfold qG
   dsimp only
   rw[aX (by omega)]
 | k+1,i,m+1,acc,h,ha,hm=>by
  rw[cC (CQ n hb x5 x6 x7 x8 x9 (show i<12 by omega) acc (by omega)),oN k (i+1) m _ (by omega) (by split<;>(try rw[List.length_append,List.length_singleton])<;>omega) (by omega),List.range'_succ,List.filter_cons]
  congr 1
  split<;>simp
def hh (l:List Nat) (i:Nat):Int:=((1+num l (i+1)%5:Nat):Int)
omit hb in
theorem rW (i:Nat):1≤hh l i:=by unfold hh; omega
omit hb in
theorem HH (i:Nat):hh l i≤5:=by unfold hh; omega
omit hb in
theorem D8 (k:Nat):IntKind.wrap .i64 (1+Int.tmod ((num l (k+1):Nat):Int) 5)=hh l k:=by
 have e3:Int.tmod ((num l (k+1):Nat):Int) 5=((num l (k+1)%5:Nat):Int):=rfl;rw[e3]; unfold hh; rw[aq (by omega) (by omega)]; omega
omit hb in
theorem DZ (A:List I2) (x:I2) (hA:A.length<1000) {β:Type} (K:Int × Int→Option β):gd (cX (IntKind.wrap .i64 (((A++[x]).length:Int)-1)) (A++[x]).length) (ob ((A++[x])[(IntKind.wrap .i64 (((A++[x]).length:Int)-1)).toNat]?) K)=K x:=by
 have e:IntKind.wrap .i64 (((A++[x]).length:Int)-1)=(A.length:Int):=by rw[List.length_append]; simp only[List.length_cons,List.length_nil]; rw[aq (by omega) (by omega)]; omega
 rw[e,bD (by simp),cw,Int.toNat_natCast,List.getElem?_append_right (Nat.le_refl _),Nat.sub_self]
 exact av x K
omit hb in
theorem pw (A:List I2) (x:I2) (hA:A.length<1000) (k:Nat) (u:Int) (hu:(k:Int)≤u) (hu':u<100000) :
  oD n (k:Int) ((num l (k+1):Nat):Int) (A++[x],(A++[x]).length,u)=some (.inl ((A++[x])++(if x=(u,hh l k) then[] else[(u,hh l k)]),((A++[x])++(if x=(u,hh l k) then[] else[(u,hh l k)])).length,u-1)):=by
 unfold oD
 dsimp only
 rw[aY hu,D8,DZ A x hA]
 try dsimp only
 have hd:(decide (x.1=u) && decide (x.2=hh l k))=decide (x=(u,hh l k)):=oH x (u,hh l k);have hw:IntKind.wrap .i64 (u-1)=u-1:=aq (by omega) (by omega)
 rw[hd,hw]
 by_cases h:x=(u,hh l k)
 ·rw[decide_eq_true h,Bool.not_true,gC,av,if_pos h,List.append_nil]
 ·rw[decide_eq_false h,Bool.not_false,ng,show lim ((A++[x])++[(u,hh l k)]).length=true from Nat.ble_eq_true_of_le (by simp; omega),cw,av,if_neg h]
omit hb in
theorem xD (A:List I2) (hA:A.length<900) (k:Nat) (hk:k<10000) (p:Int) {m:Nat} (hm:3≤m) :
  ∃B,dx (oD n (k:Int) ((num l (k+1):Nat):Int)) m (A++[(((k+1:Nat):Int),p)],(A++[(((k+1:Nat):Int),p)]).length,((k+1:Nat):Int))=some (B++[((k:Int),hh l k)],(B++[((k:Int),hh l k)]).length) ∧
   B++[((k:Int),hh l k)]=A++[(((k+1:Nat):Int),p)]++((if hh l k=p then[] else[(((k+1:Nat):Int),hh l k)])++[((k:Int),hh l k)])∧B.length≤A.length+2:=by
 obtain⟨m,rfl⟩:∃q,m=q+3:=⟨m-3,by omega⟩
 have s1:=pw (l:=l) n A (((k+1:Nat):Int),p) (by omega) k ((k+1:Nat):Int) (by omega) (by omega)
 have sE:∀B:List I2,oD n (k:Int) ((num l (k+1):Nat):Int) (B,B.length,(k:Int)-1)=some (.inr (B,B.length)):=fun B=>by
  unfold oD
  dsimp only
  rw[aX (by omega)]
 have e1:((k+1:Nat):Int)-1=(k:Int):=by omega
 by_cases h:p=hh l k
 ·subst h;rw[if_pos rfl,List.append_nil,e1] at s1;have s2:=pw (l:=l) n A (((k+1:Nat):Int),hh l k) (by omega) k (k:Int) (by omega) (by omega)
  rw[if_neg (fun e=>by have:=congrArg Prod.fst e; dsimp only at this; omega)] at s2
  refine⟨A++[(((k+1:Nat):Int),hh l k)],?_,by simp,by simp⟩
  rw[cC s1,cC s2,eg (sE _)]
 ·rw[if_neg (fun e=>h (congrArg Prod.snd e)),e1] at s1;have s2:=pw (l:=l) n (A++[(((k+1:Nat):Int),p)]) (((k+1:Nat):Int),hh l k) (by simp; omega) k (k:Int) (by omega) (by omega)
  rw[if_neg (fun e=>by have:=congrArg Prod.fst e; dsimp only at this; omega)] at s2
  refine⟨A++[(((k+1:Nat):Int),p)]++[(((k+1:Nat):Int),hh l k)],?_,by rw[if_neg (fun e=>h e.symm)]; simp,by simp⟩
  rw[cC s1,cC s2,eg (sE _)]
theorem oz (hn:3≤n):∀(k m:Nat) (A:List I2) (p:Int),A.length+2*k<900→k<m→∃N,dx (uO n l x5 x6 x7 x8 x9) m (A++[((k:Int),p)],(A++[((k:Int),p)]).length,(k:Int)-1)=some (A++[((k:Int),p)]++fK (hh l) k p,N)
 | 0,m+1,A,p,_,_=>by
  refine⟨_,eg (r:=(A++[(((0:Nat):Int),p)]++fK (hh l) 0 p,(A++[(((0:Nat):Int),p)]).length)) ?_⟩;unfold uO
  dsimp only
  rw[aX (by omega)]
  simp[fK]
 | k+1,m+1,A,p,hA,hm=>by
  obtain⟨B,h1,h2,h3⟩:=xD (l:=l) n A (by omega) k (by omega) p hn
  obtain⟨N,ih⟩:=oz hn k m B (hh l k) (by omega) (by omega)
  have e1:((k+1:Nat):Int)-1=(k:Int):=by omega
  refine⟨N,?_⟩;rw[cC (s':=(B++[((k:Int),hh l k)],(B++[((k:Int),hh l k)]).length,(k:Int)-1)),ih,h2]
  ·simp only[fK,List.append_assoc,List.cons_append,List.nil_append]
  ·unfold uO
   dsimp only
   rw[e1,aY (by omega),bw (by omega),wJ n hb,av,h1,av]
   dsimp only
   rw[aq (by omega) (by omega)]
def lD (l:List Nat):Nat:=1+num l 0%6
def du (l:List Nat) (row:Bool):List I2:=if row then bT (hh l) (lD l) else((List.range 12).filter (kp l)).map fun i=>q6 (cm l i) (wy i)
theorem Fx (hn:12<n):HW n l x5 x6 x7 x8 x9=some (du l x8):=by
 unfold HW du;cases x8 with
 | false =>
  rw[Bool.not_false,ng];have:=oN n hb x5 x6 x7 false x9 12 0 n [] (by omega) (by simp) hn
  rw[←List.range_eq_range'] at this;exact(congrArg (fun o=>ob o fun l0=>some l0) this).trans rfl
 | true =>
  have e0:Int.tmod ((num l 0:Nat):Int) 6=((num l 0%6:Nat):Int):=rfl;have e1:IntKind.wrap .i64 (1+((num l 0%6:Nat):Int))=(lD l:Int):=by unfold lD; rw[aq (by omega) (by omega)]; omega
  have e2:IntKind.wrap .i64 ((lD l:Int)-1)=(lD l:Int)-1:=aq (by unfold lD; omega) (by unfold lD; omega)
  rw[Bool.not_true,gC,show(0:Int)=((0:Nat):Int) from rfl,wJ n hb,av,e0,e1,e2]
  obtain⟨N,h⟩:=oz n hb x5 x6 x7 true x9 (by omega) (lD l) n [(0,0)] 0 (by simp; unfold lD; omega) (by unfold lD; omega)
  exact(congrArg (fun o=>ob o fun x:List I2 × Nat=>match x with | (l1,_)=>some l1) h).trans rfl
end
end Go.Proofs.YthmekkhpddehjaaGreat
end

section
namespace Jd
def Lt (a b:I2):Prop:=a.1<b.1∨a.1=b.1∧a.2<b.2
instance (a b:I2):Decidable (Lt a b):=by unfold Lt; infer_instance
theorem Lt.trans {a b c:I2} (h:Lt a b) (g:Lt b c):Lt a c:=by unfold Lt at *; omega
theorem Lt.JA (a:I2):¬Lt a a:=by unfold Lt; omega
theorem Lt.II (a b:I2):Lt a b∨a=b∨Lt b a:=by
 unfold Lt
 by_cases h1:a.1=b.1
 ·by_cases h2:a.2=b.2
  ·exact .inr (.inl (Prod.ext h1 h2))
  ·omega
 ·omega
def Fw (x y:Int):Prop:=0<x∨x=0∧0<y
theorem EX {a b:I2} (h:Lt a b):Fw (b.1-a.1) (b.2-a.2):=by unfold Lt at h; unfold Fw; omega
def Edge (Q:I2→Prop) (a b:I2):Prop:=Lt a b∧∀q,Q q→0≤ti a b q∧(ti a b q=0→¬Lt q a∧¬Lt b q)
inductive Stk (Q:I2→Prop):List I2→Prop
 | one {a}:(∀q,Q q→¬Lt q a)→Q a→Stk Q [a]
 | more {a b st}:Edge Q a b→Q b→Stk Q (a::st)→Stk Q (b::a::st)
theorem Stk.mono {Q R:I2→Prop} (h:∀q,Q q↔R q) {st:List I2} (s:Stk Q st):Stk R st:=by
 have:Q=R:=funext fun q=>propext (h q);rw[←this]; exact s
def Good (S:I2→Prop) (x y:I2):Prop:=x≠y∧S y∧∀q,S q→0<ti x y q∨q=x∨q=y∨(ti x y q=0∧0<di x q y)
theorem F0 {x1 y1 x2 y2:Int} (f1:Fw x1 y1) (f2:Fw x2 y2) (h:x1*y2-y1*x2=0):0<x1*x2+y1*y2:=by
 unfold Fw at f1 f2;have pp:∀{a b:Int},0<a→0<b→0<a*b:=Int.mul_pos
 by_cases h1:0<x1
 ·by_cases h2:0<x2
  ·
   have e:x1*x1*(y1*y2)=(x1*y1)*(x1*y2):=by grind
   have e2:x1*y2=y1*x2:=by omega
   have e3:x1*x1*(y1*y2)=(x1*x2)*(y1*y1):=by rw[e,e2]; grind
   have m1:=pp h1 h2;have m2:0≤x1*x1*(y1*y2):=by rw[e3]; exact Int.mul_nonneg (Int.le_of_lt m1) qc
   have:=Int.nonneg_of_mul_nonneg_right m2 (pp h1 h1);omega
  ·have e:x2=0:=by omega
   have:=pp h1 (show 0<y2 by omega)
   subst e;omega
 ·have e:x1=0:=by omega
  subst e;have k:0<y1:=by omega
  have:x2=0:=by
   refine Decidable.byContradiction fun hc=>?_;have:=pp k (show 0<x2 by omega)
   omega
  subst this;have:=pp k (show 0<y2 by omega)
  omega
theorem Edge.wL {Q:I2→Prop} {a b:I2} (h:Edge Q a b) (hb:Q b):Good Q a b:=by
 refine⟨fun e=>Lt.JA b (by have:=h.1; rwa[e] at this),hb,fun q hq=>?_⟩
 obtain⟨h1,h2⟩:=h.2 q hq
 by_cases h0:ti a b q=0
 ·obtain⟨g1,g2⟩:=h2 h0;rcases Lt.II a q with k|k|k
  ·rcases Lt.II q b with k' | k' | k'
   ·refine .inr (.inr (.inr ⟨h0,?_⟩));exact F0 (EX k) (EX k') (by rw[←Int.neg_eq_zero,←h0]; unfold ti; grind)
   ·exact .inr (.inr (.inl k'))
   ·exact absurd k' g2
  ·exact .inr (.inl k.symm)
  ·exact absurd k g1
 ·exact .inl (by omega)
inductive Way (S:I2→Prop):List I2→Prop
 | one (a):Way S [a]
 | more {a b l}:Good S a b→Way S (b::l)→Way S (a::b::l)
def p8 (now next q:I2):I2:=if next=now∨ti now next q<0∨(ti now next q=0∧0<di now next q) then q else next
theorem wY {S:I2→Prop} {x y q:I2} (h:Good S x y) (hq:S q):p8 x y q=y:=by
 unfold p8;rw[if_neg];rintro(e|e|⟨e,f⟩)
 ·exact h.1 e.symm
 ·rcases h.2.2 q hq with k|k|k|k
  ·omega
  ·rw[k,kD] at e; omega
  ·rw[k,kM] at e; omega
  ·omega
 ·rcases h.2.2 q hq with k|k|k|k
  ·omega
  ·rw[k] at f;have s1:=@qc (y.1-x.1);have s2:=@qc (y.2-x.2);unfold di at f; grind
  ·rw[k] at f; unfold di at f; grind
  ·have s1:=@qc (q.1-y.1);have s2:=@qc (q.2-y.2);have k2:=k.2;unfold di at f k2; grind
theorem vZ {S:I2→Prop} {x y c:I2} (h:Good S x y) (hc:S c):p8 x c y=y:=by
 unfold p8
 by_cases e:c=y
 ·subst e; split<;>rfl
 ·rw[if_pos];rcases h.2.2 c hc with k|k|k|k
  ·refine .inr (.inl ?_);have:ti x c y = -ti x y c:=by unfold ti; grind
   omega
  ·exact .inl k
  ·exact absurd k e
  ·refine .inr (.inr ⟨?_,k.2⟩);have:ti x c y = -ti x y c:=by unfold ti; grind
   omega
theorem yM {S:I2→Prop} {x y:I2} (h:Good S x y):∀(l:List I2) (c:I2),(∀q ∈ l,S q)→S c→(y ∈ l∨c=y)→l.foldl (p8 x) c=y
 | [],c,_,_,hm=>by
  rcases hm with hm|rfl
  ·cases hm
  ·rfl
 | q::l,c,hl,hc,hm=>by
  rw[List.foldl_cons];have hq:=hl q List.mem_cons_self;have hl':=fun q hq=>hl q (List.mem_cons_of_mem _ hq)
  by_cases e:c=y
  ·subst e;rw[wY h hq];exact yM h l c hl' hc (.inr rfl)
  ·rcases hm with hm|hm
   ·rcases List.mem_cons.1 hm with e' | hm
    ·subst e';rw[vZ h hc];exact yM h l y hl' hq (.inr rfl)
    ·refine yM h l _ hl' ?_ (.inl hm);unfold p8
     split
     ·exact hq
     ·exact hc
   ·exact absurd hm e
theorem Way.mem {S:I2→Prop}:∀{a:I2} {l:List I2},Way S (a::l)→∀q ∈ l,S q
 | _,_,.one _,q,hq=>by cases hq
 | _,_,.more h k,q,hq=>by
  rcases List.mem_cons.1 hq with rfl|hq
  ·exact h.2.1
  ·exact k.mem q hq
theorem Good.ge {S:I2→Prop} {x y q:I2} (h:Good S x y) (hq:S q):0≤ti x y q:=by
 rcases h.2.2 q hq with g|rfl|rfl|g
 ·omega
 ·rw[kD]; exact Int.le_refl 0
 ·rw[kM]; exact Int.le_refl 0
 ·omega
theorem Iz {x y q z:I2}:((y.1-q.1)*(y.1-x.1)+(y.2-q.2)*(y.2-x.2))*ti q z x+((q.1-x.1)*(y.1-x.1)+(q.2-x.2)*(y.2-x.2))*ti q z y=ti x y q * -((z.1-q.1)*(y.1-x.1)+(z.2-q.2)*(y.2-x.2)):=by unfold ti; grind
theorem za {u v w:I2} (h1:u.1*w.2=u.2*w.1) (_:v.1*w.2=v.2*w.1) (g1:0<u.1*w.1+u.2*w.2) (g2:0<v.1*w.1+v.2*w.2):0<u.1*v.1+u.2*v.2:=by
 have e:(u.1*w.1+u.2*w.2)*(v.1*w.1+v.2*w.2)=(u.1*v.1+u.2*v.2)*(w.1*w.1+w.2*w.2):=by grind
 have p:=Int.mul_pos g1 g2;rw[e] at p;have n:0≤w.1*w.1+w.2*w.2:=Int.add_nonneg qc qc;rcases Int.lt_or_eq_of_le n with k|k
 ·rw[Int.mul_comm] at p; exact Int.pos_of_mul_pos_right p k
 ·rw[←k,Int.mul_zero] at p; exact absurd p (by decide)
structure Hul (S:I2→Prop) (r:List I2):Prop where
 n3:2<r.length
 wL:∀i,Good S (nx r i) (nx r (i+1))
 nodup:∀i j,i<j→j<r.length→nx r i≠nx r j
section
variable {S : I2 → Prop} {r : List I2}
theorem Hul.mem (h:Hul S r) (i:Nat):S (nx r i):=by
 have hn:=h.n3;have:=(h.wL (i+(r.length-1))).2.1;rwa[show i+(r.length-1)+1=i+r.length by omega,dQ r (Nat.add_mod_right i r.length)] at this
theorem Hul.strict (h:Hul S r) (i k:Nat) (h1:nx r k≠nx r i) (h2:nx r k≠nx r (i+1)):0<ti (nx r i) (nx r (i+1)) (nx r k):=by
 rcases(h.wL i).2.2 _ (h.mem k) with g|g|g|⟨g1,g2⟩
 ·exact g
 ·exact absurd g h1
 ·exact absurd g h2
 ·exfalso;have hk:=h.wL k;have hx:=h.mem i;have hy:=h.mem (i+1);generalize nx r i=x at *;generalize nx r (i+1)=y at *;generalize nx r k=q at *;generalize nx r (k+1)=z at *;have hw:=Iz (x:=x) (y:=y) (q:=q) (z:=z);rw[g1,Int.zero_mul] at hw;have sx:=hk.ge hx;have sy:=hk.ge hy;have dd:di x q y=(q.1-x.1)*(y.1-q.1)+(q.2-x.2)*(y.2-q.2):=rfl;have wa:0<(q.1-x.1)*(y.1-x.1)+(q.2-x.2)*(y.2-x.2):=by
   have:(q.1-x.1)*(y.1-x.1)+(q.2-x.2)*(y.2-x.2)=di x q y+((q.1-x.1)*(q.1-x.1)+(q.2-x.2)*(q.2-x.2)):=by unfold di; grind
   have:=@qc (q.1-x.1);have:=@qc (q.2-x.2);omega
  have wb:0<(y.1-q.1)*(y.1-x.1)+(y.2-q.2)*(y.2-x.2):=by
   have:(y.1-q.1)*(y.1-x.1)+(y.2-q.2)*(y.2-x.2)=di x q y+((y.1-q.1)*(y.1-q.1)+(y.2-q.2)*(y.2-q.2)):=by unfold di; grind
   have:=@qc (y.1-q.1);have:=@qc (y.2-q.2);omega
  have n1:=Int.mul_nonneg (Int.le_of_lt wb) sx;have n2:=Int.mul_nonneg (Int.le_of_lt wa) sy;have zx:ti q z x=0:=by
   rcases Int.mul_eq_zero.1 (show((y.1-q.1)*(y.1-x.1)+(y.2-q.2)*(y.2-x.2))*ti q z x=0 by omega) with e|e
   ·omega
   ·exact e
  have zy:ti q z y=0:=by
   rcases Int.mul_eq_zero.1 (show((q.1-x.1)*(y.1-x.1)+(q.2-x.2)*(y.2-x.2))*ti q z y=0 by omega) with e|e
   ·omega
   ·exact e
  have hqz:=hk.1;have zz:0<(z.1-q.1)*(z.1-q.1)+(z.2-q.2)*(z.2-q.2):=by
   have s1:=@qc (z.1-q.1);have s2:=@qc (z.2-q.2);refine Decidable.byContradiction fun hc=>hqz ?_;have g1:=z6 (show(z.1-q.1)*(z.1-q.1)=0 by omega)
   have g2:=z6 (show(z.2-q.2)*(z.2-q.2)=0 by omega)
   exact Prod.ext (by omega) (by omega)
  have dir:∀p,S p→p≠q→ti q z p=0→0<(p.1-q.1)*(z.1-q.1)+(p.2-q.2)*(z.2-q.2):=fun p hp hne h0=>by
   rcases hk.2.2 p hp with e|e|e|⟨_,e⟩
   ·omega
   ·exact absurd e hne
   ·subst e; exact zz
   ·have:(p.1-q.1)*(z.1-q.1)+(p.2-q.2)*(z.2-q.2)=di q p z+((p.1-q.1)*(p.1-q.1)+(p.2-q.2)*(p.2-q.2)):=by unfold di; grind
    have:=@qc (p.1-q.1);have:=@qc (p.2-q.2);omega
  have d1:=dir x hx (Ne.symm h1) zx;have d2:=dir y hy (Ne.symm h2) zy;have:=za (u:=(x.1-q.1,x.2-q.2)) (v:=(y.1-q.1,y.2-q.2)) (w:=(z.1-q.1,z.2-q.2)) (by unfold ti at zx; grind) (by unfold ti at zy; grind) d1 d2
  dsimp only at this
  have e:(x.1-q.1)*(y.1-q.1)+(x.2-q.2)*(y.2-q.2) = -di x q y:=by unfold di; grind
  omega
theorem yp {r:List I2} {i:Nat} (h:i<r.length):i%r.length=i:=Nat.mod_eq_of_lt h
theorem Hul.ne (h:Hul S r) {i j:Nat} (hi:i%r.length≠j%r.length):nx r i≠nx r j:=by
 have hn:0<r.length:=by have:=h.n3; omega
 rw[dQ r (show i%r.length=(i%r.length)%r.length by rw[Nat.mod_mod]),dQ r (show j%r.length=(j%r.length)%r.length by rw[Nat.mod_mod])]
 have a:=Nat.mod_lt i hn;have b:=Nat.mod_lt j hn;rcases Nat.lt_or_gt_of_ne hi with g|g
 ·exact h.nodup _ _ g b
 ·exact(h.nodup _ _ g a).symm
theorem mod_succ {i n:Nat} (hn:0<n):(i+1)%n=if i%n+1=n then 0 else i%n+1:=by
 have h:=Nat.mod_lt i hn;rw[Nat.add_mod]
 by_cases g:i%n+1=n
 ·rw[if_pos g];rcases Nat.lt_or_ge 1 n with k|k
  ·rw[Nat.mod_eq_of_lt k,g,Nat.mod_self]
  ·have:n=1:=by omega
   subst this; omega
 ·rw[if_neg g,Nat.mod_eq_of_lt (show 1<n by omega),Nat.mod_eq_of_lt (by omega)]
theorem Hul.qk (h:Hul S r) (i:Nat):0<ti (nx r i) (nx r (i+1)) (nx r (i+2)):=by
 have hn:=h.n3;have e1:=mod_succ (i:=i) (n:=r.length) (by omega)
 have e2:=mod_succ (i:=i+1) (n:=r.length) (by omega)
 have:=Nat.mod_lt i (show 0<r.length by omega)
 refine h.strict i (i+2) (h.ne ?_) (h.ne ?_)
 ·rw[show i+2=i+1+1 from rfl,e2,e1]
  split<;>split<;>omega
 ·rw[show i+2=i+1+1 from rfl,e2,e1]
  split<;>split<;>omega
theorem Hul.vr (h:Hul S r):VR r:=by
 have hn:=h.n3;refine⟨hn,fun i=>(h.wL i).1,fun i g=>?_,fun j i h1 h2 h3=>?_⟩
 ·have:=h.qk i; omega
 ·have m1:(i+1)%r.length=if i+1=r.length then 0 else i+1:=by
   rw[mod_succ (by omega),yp h2]
  have mj:j%r.length=j:=yp (by omega)
  have mj1:(j+1)%r.length=j+1:=yp (by omega)
  have mi:i%r.length=i:=yp h2;have c1:=h.strict j i (h.ne (by rw[mi,mj]; omega)) (h.ne (by rw[mi,mj1]; omega))
  have c2:=h.strict j (i+1) (h.ne (by rw[m1,mj]; split<;>omega)) (h.ne (by rw[m1,mj1]; split<;>omega))
  have a1:=h.strict i j (h.ne (by rw[mi,mj]; omega)) (h.ne (by rw[m1,mj]; split<;>omega))
  have a2:=h.strict i (j+1) (h.ne (by rw[mi,mj1]; omega)) (h.ne (by rw[m1,mj1]; split<;>omega))
  generalize nx r j=a at *;generalize nx r (j+1)=b at *;generalize nx r i=c at *;generalize nx r (i+1)=d at *;refine⟨fun x hx=>?_,fun hx=>by omega⟩
  have el:∀x,eD (-(b.2-a.2)) (b.1-a.1) ((b.2-a.2)*a.1-(b.1-a.1)*a.2) x=ti a b x:=fun x=>by unfold eD ti; grind
  have:=sZ (α:=-(b.2-a.2)) (β:=b.1-a.1) (γ:=(b.2-a.2)*a.1-(b.1-a.1)*a.2) hx.2.2 (by rw[el]; exact c1) (by rw[el]; exact c2)
  rw[el,hx.2.1.1] at this;exact absurd this (by decide)
end
theorem Good.same {S T:I2→Prop} (h:∀q,S q↔T q) {x y:I2} (g:Good S x y):Good T x y:=⟨g.1,(h y).1 g.2.1,fun q hq=>g.2.2 q ((h q).2 hq)⟩
theorem Hul.same {S T:I2→Prop} (h:∀q,S q↔T q) {r:List I2} (g:Hul S r):Hul T r:=⟨g.n3,fun i=>(g.wL i).same h,g.nodup⟩
theorem wB {r:List I2} (h:r≠[]) (i:Nat):nx r i ∈ r:=by
 have hl:=List.length_pos_iff.2 h;have hi:=Nat.mod_lt i hl;unfold nx;rw[List.getD_eq_getElem?_getD,List.getElem?_eq_getElem hi];exact List.getElem_mem hi
theorem Hul.wrap {S:I2→Prop} {r:List I2} (h:Hul S r) {l:List I2} (hl:∀q,q ∈ l↔S q) (k:Nat):l.foldl (p8 (nx r k)) (nx r k)=nx r (k+1) :=
 yM (h.wL k) l (nx r k) (fun q hq=>(hl q).1 hq) (h.mem k) (.inl ((hl _).2 (h.mem (k+1))))
end Jd
end

section
namespace Go.Proofs.YthmekkhpddehjaaGreat
open Go Go.Ab Go.Ab.W Go.Ab.B Jd
def nT (s:Int) (v:I2) (r:List I2):List I2:=r.map fun q=>dA v (bA s q)
theorem vL (s:Int) (v:I2) (r:List I2):nT s v r=(r.map (bA s)).map (dA v):=by
 unfold nT; rw[List.map_map]; rfl
theorem yW {h:Nat→Int} (hp:∀i,h i≤5):∀(k:Nat) (p:Int),∀x ∈ fK h k p,x.2≤5
 | 0,_,_,hx=>absurd hx (by simp[fK])
 | k+1,p,x,hx=>by
  simp only[fK,List.mem_append,List.mem_cons] at hx;rcases hx with hx|hx|hx
  ·split at hx
   ·simp at hx
   ·rw[List.mem_singleton] at hx; subst hx; exact hp k
  ·subst hx; exact hp k
  ·exact yW hp k (h k) x hx
theorem vq (h:Nat→Int):∀(k:Nat) (p:Int),(fK h k p).length≤2*k
 | 0,_=>by simp[fK]
 | k+1,p=>by
  have:=vq h k (h k);simp only[fK,List.length_append,List.length_cons]
  split
  ·simp only[List.length_nil]; omega
  ·simp only[List.length_cons,List.length_nil]; omega
section
variable {l : List Nat}
theorem sD:1≤lD l∧lD l≤6:=by unfold lD; omega
theorem wU (row:Bool):∀q ∈ du l row,-10≤q.1∧q.1≤10∧-10≤q.2∧q.2≤10:=fun q hq=>by
 unfold du at hq;cases row with
 | true =>
  rw[if_pos rfl] at hq;unfold bT at hq;have hc:=sD (l:=l);rcases List.mem_cons.1 hq with rfl|hq
  ·decide
  ·rcases List.mem_cons.1 hq with rfl|hq
   ·dsimp only; omega
   ·have h1:=lY (fun i=>rW (l:=l) i) _ _ _ hq;have h2:=yW (fun i=>HH (l:=l) i) _ _ _ hq;omega
 | false =>
  rw[if_neg (by decide)] at hq
  obtain⟨i,hi,rfl⟩:=List.mem_map.1 hq;have hi:=List.mem_range.1 (List.mem_filter.1 hi).1;have hw:=Iq i hi;have hc:=rM (l:=l) i;have m1:=cZ (B:=2) (C:=5) (u:=(wy i).1) (v:=cm l i) (by decide) (by omega) (by omega) (by omega) (by omega)
  have m2:=cZ (B:=2) (C:=5) (u:=(wy i).2) (v:=cm l i) (by decide) (by omega) (by omega) (by omega) (by omega)
  unfold q6
  dsimp only
  omega
theorem uX (row:Bool):(du l row).length≤14:=by
 unfold du;cases row with
 | true =>
  have hc:=sD (l:=l);have:=vq (hh l) (lD l) 0;rw[if_pos rfl]; unfold bT; simp only[List.length_cons]; omega
 | false =>
  rw[if_neg (by decide),List.length_map]
  have:=List.length_filter_le (kp l) (List.range 12);rw[List.length_range] at this;omega
theorem nZ (row:Bool):VR (du l row)∧0<kz (du l row):=by
 unfold du;cases row with
 | true =>
  have hc:=sD (l:=l);rw[if_pos rfl];exact⟨GD (fun i=>rW (l:=l) i) (by omega),DP (fun i=>rW (l:=l) i) (by omega)⟩
 | false =>
  rw[if_neg (by decide)]
  have:=yT (p:=kp l) (by unfold kp; simp) (by unfold kp; simp) (by unfold kp; simp) (by unfold kp; simp) (m:=fun i=>cm l i) fun i=>by have:=rM (l:=l) i; omega
  exact⟨this.vr,this.kz⟩
end
def gx (l:List Nat) (x5 x6:Int) (x7:Nat) (row turned:Bool):List I2:=if turned then rv (nT (1+x7) (x5,x6) (du l row)) else nT (1+x7) (x5,x6) (du l row)
structure Dr (l:List Nat) (x5 x6:Int) (x7:Nat):Prop where
 b:∀x ∈ l,x<256
 x : -32768≤x5∧x5≤32767
 y : -32768≤x6∧x6≤32767
 s:x7<256
theorem EK {x:Nat} (hx:x<256) {v:I2} (hv : -32768≤v.1∧v.1≤32767∧-32768≤v.2∧v.2≤32767) {q:I2} (hq : -10≤q.1∧q.1≤10∧-10≤q.2∧q.2≤10) :
  (-2560≤q.1*(1+(x:Int))∧q.1*(1+(x:Int))≤2560∧-2560≤q.2*(1+(x:Int))∧q.2*(1+(x:Int))≤2560)∧Nr (dA v (bA (1+(x:Int)) q))∧-40000≤(dA v (bA (1+(x:Int)) q)).1∧(dA v (bA (1+(x:Int)) q)).1≤40000∧-40000≤(dA v (bA (1+(x:Int)) q)).2∧(dA v (bA (1+(x:Int)) q)).2≤40000:=by
 have m1:=cZ (B:=10) (C:=256) (u:=q.1) (v:=1+(x:Int)) (by decide) (by omega) (by omega) (by omega) (by omega)
 have m2:=cZ (B:=10) (C:=256) (u:=q.2) (v:=1+(x:Int)) (by decide) (by omega) (by omega) (by omega) (by omega)
 unfold Nr dA bA
 dsimp only
 omega
theorem vd (n:Nat) {x5 x6:Int} {x7:Nat} (h7:x7<256) (h5 : -32768≤x5∧x5≤32767) (h6 : -32768≤x6∧x6≤32767) (l12:List I2) (hl:l12.length<1000) :
  ∀(rest done:List I2) (m:Nat),done.length+rest.length=l12.length→rest.length<m→(∀q ∈ rest,-10≤q.1∧q.1≤10∧-10≤q.2∧q.2≤10) →
   dx (qH n l12 x5 x6) m (done++rest,1+(x7:Int),(done.length:Int))=some (done++nT (1+x7) (x5,x6) rest)
 | [],done,m+1,h,_,_=>by
  rw[eg (r:=done++[])]
  ·rfl
  ·unfold qH
   dsimp only
   rw[aX (by simp at h; omega)]
 | q::rest,done,m+1,h,hm,hq=>by
  have hq':=EK h7 (v:=(x5,x6)) ⟨h5.1,h5.2,h6.1,h6.2⟩ (hq q List.mem_cons_self);have hi:done.length<l12.length:=by simp at h; omega
  have ih:=vd n h7 h5 h6 l12 hl rest (done++[dA (x5,x6) (bA (1+x7) q)]) m (by simp at h ⊢; omega) (by simp at hm; omega) fun x hx=>hq x (List.mem_cons_of_mem _ hx)
  rw[cC (s':=((done++[dA (x5,x6) (bA (1+x7) q)])++rest,1+(x7:Int),((done++[dA (x5,x6) (bA (1+x7) q)]).length:Int))),ih]
  ·simp[nT]
  ·have hg:(done++q::rest)[done.length]? = some (q.1,q.2):=by rw[List.getElem?_append_right (Nat.le_refl _),Nat.sub_self]; rfl
   have hs:(done++q::rest).set done.length (dA (x5,x6) (bA (1+x7) q))=(done++[dA (x5,x6) (bA (1+x7) q)])++rest:=by
    rw[List.set_append_right _ _ (Nat.le_refl _),Nat.sub_self]; simp
   unfold qH
   dsimp only
   rw[aY (by omega),bD hi,cw,Int.toNat_natCast,hg,av]
   dsimp only
   have e5:IntKind.wrap .i64 x5=x5:=aq (by omega) (by omega)
   have e6:IntKind.wrap .i64 x6=x6:=aq (by omega) (by omega)
   rw[av,cw,av,cw,e5,e6,aq (x:=q.1*(1+(x7:Int))) (by omega) (by omega),aq (x:=q.2*(1+(x7:Int))) (by omega) (by omega),aq (x:=q.1*(1+(x7:Int))+x5) (by omega) (by omega),aq (x:=q.2*(1+(x7:Int))+x6) (by omega) (by omega),bw (by omega)]
   rw[show(q.1*(1+(x7:Int))+x5,q.2*(1+(x7:Int))+x6)=dA (x5,x6) (bA (1+x7) q) from rfl,hs]
   simp
theorem tM (n:Nat) (a:I2) (t:List I2) (ht:t.length<1000):∀(j m:Nat) (out:List I2),j≤t.length→j<m→out.length+j<3000→∃N,dx (ui n (a::t)) m (out,out.length,(j:Int))=some (out++(t.take j).reverse,N)
 | 0,m+1,out,_,_,_=>by
  refine⟨out.length,eg ?_⟩;unfold ui
  try dsimp only
  rw[aX (by omega)]
  simp
 | j+1,m+1,out,hj,hm,ho=>by
  have hx:(a::t)[j+1]? = some (t[j]'(by omega)):=by rw[List.getElem?_cons_succ,List.getElem?_eq_getElem (by omega)]
  obtain⟨N,ih⟩:=tM n a t ht j m (out++[t[j]'(by omega)]) (by omega) (by omega) (by simp; omega)
  refine⟨N,?_⟩;rw[cC (s':=(out++[t[j]'(by omega)],(out++[t[j]'(by omega)]).length,(j:Int))),ih]
  ·have e:t.take (j+1)=t.take j++[t[j]'(by omega)]:=List.take_succ_eq_append_getElem (show j<t.length by omega)
   rw[e,List.reverse_append];simp
  ·unfold ui
   try dsimp only
   rw[aY (by omega),bD (show j+1<(a::t).length by simp; omega),cw,Int.toNat_natCast,hx,av]
   try dsimp only
   rw[show lim (out++[((t[j]'(by omega)).1,(t[j]'(by omega)).2)]).length=true from Nat.ble_eq_true_of_le (by simp; omega),cw,aq (by omega) (by omega)]
   congr 4
   omega
theorem GL (n:Nat) {l:List I2} (h:Ok l) (hn:41<n):Hl n l=some (rv l,0):=by
 have hL:=h.len;have hc:=rN.2 h;unfold Hl;rw[Gf n (by omega) hn,if_pos hc,av]
 match l,h with
 | [],h=>have:=h.vr.n3; simp at this
 | a::t,h =>
  obtain⟨N,hlp⟩:=tM n a t (by simp at hL; omega) t.length n [a] (Nat.le_refl _) (by simp at hL; omega) (by simp at hL ⊢; omega)
  rw[List.take_length] at hlp;have e:IntKind.wrap .i64 (((a::t).length:Int)-1)=(t.length:Int):=by
   simp only[List.length_cons]; simp at hL; rw[aq (by omega) (by omega)]; omega
  rw[show(!decide ((0:Int)=0))=false from rfl,gC,show cX 0 (a::t).length=true from decide_eq_true ⟨Int.le_refl 0,by simp⟩,cw,e]
  show ob (some (a.1,a.2)) _=_
  rw[av]
  dsimp only
  exact(congrArg (fun o=>ob o fun x:List I2 × Nat=>match x with | (l41,_)=>some (l41,(0:Int))) hlp).trans rfl
theorem sA {l:List Nat} {x5 x6:Int} {x7:Nat} (d:Dr l x5 x6 x7) (row:Bool):Ok (nT (1+x7) (x5,x6) (du l row))∧0<kz (nT (1+x7) (x5,x6) (du l row)):=by
 have hs:(0:Int)<1+(x7:Int):=by omega
 have hv:=(nZ (l:=l) row).1;have ha:=(nZ (l:=l) row).2;have hlen:=uX (l:=l) row;have hne:du l row≠[]:=fun e=>by rw[e] at hv; exact absurd hv.n3 (by simp)
 have h3:VR (nT (1+x7) (x5,x6) (du l row)):=by
  rw[vL];exact(CZ (x5,x6)).vr ((EB hs).vr hv)
 refine⟨⟨by unfold nT; rw[List.length_map]; omega,fun i=>?_,h3⟩,?_⟩
 ·have hm:=wB (r:=nT (1+x7) (x5,x6) (du l row)) (fun e=>by unfold nT at e; rw[List.map_eq_nil_iff] at e; exact hne e) i
  unfold nT at hm;obtain⟨q,hq,e⟩:=List.mem_map.1 hm;unfold nT;rw[←e];exact(EK d.s (v:=(x5,x6)) ⟨d.x.1,d.x.2,d.y.1,d.y.2⟩ (wU row q hq)).2.1
 ·rw[vL,Er (by simpa using hne)]
  have:kz ((du l row).map (bA (1+x7)))=(1+(x7:Int))*(1+(x7:Int))*kz (du l row):=by
   unfold kz;rw[List.length_map,←hU];refine ar fun i _=>?_;rw[bt _ hne,bt _ hne];unfold bA
   dsimp only
   grind
  rw[this];exact Int.mul_pos (Int.mul_pos hs hs) ha
theorem Ok.rv {l:List I2} (h:Ok l):Ok (Jd.rv l):=by
 have hn:=h.vr.n3;have hne:Jd.rv l≠[]:=fun e=>by have:=congrArg List.length e; rw[mL] at this; simp at this; rw[this] at hn; simp at hn
 refine⟨by rw[mL]; exact h.len,fun i=>?_,h.vr.rv⟩
 have hm:=wB hne i;have:nx (Jd.rv l) i ∈ l:=by
  match l,hm with
  | a::t,hm=>unfold Jd.rv at hm ⊢; simpa using hm
 obtain⟨j,hj,e⟩:=List.mem_iff_getElem.1 this;have e2:nx l j=nx (Jd.rv l) i:=by
  unfold nx at e ⊢;rw[Nat.mod_eq_of_lt hj,List.getD_eq_getElem?_getD,List.getElem?_eq_getElem hj]; exact e
 rw[←e2];exact h.nr j
theorem CF {l:List Nat} {x5 x6:Int} {x7:Nat} (d:Dr l x5 x6 x7) (row turned:Bool):Ok (gx l x5 x6 x7 row turned):=by
 unfold gx
 split
 ·exact(sA d row).1.rv
 ·exact(sA d row).1
theorem z7 {l:List Nat} {x5 x6:Int} {x7:Nat} (d:Dr l x5 x6 x7) (row turned:Bool):if turned then kz (gx l x5 x6 x7 row turned)<0 else 0<kz (gx l x5 x6 x7 row turned):=by
 have:=(sA d row).2;unfold gx;cases turned with
 | true=>rw[if_pos rfl,if_pos rfl,G4]; omega
 | false=>rw[if_neg (by decide),if_neg (by decide)]; exact this
theorem GZ (n:Nat) {l:List Nat} {x5 x6:Int} {x7:Nat} (d:Dr l x5 x6 x7) (row turned:Bool) (hn:41<n):Hd n l x5 x6 x7 row turned=some (gx l x5 x6 x7 row turned):=by
 have hlen:=uX (l:=l) row;have hs:=d.s;unfold Hd gx;rw[Fx n d.b x5 x6 x7 row turned (by omega),av]
 have e1:IntKind.wrap .i64 (1+IntKind.wrap .i64 ((x7:Nat):Int))=1+(x7:Int):=by
  rw[aq (x:=((x7:Nat):Int)) (by omega) (by omega),aq (by omega) (by omega)]
 have L:=vd n d.s d.x d.y (du l row) (by omega) (du l row) [] n (by simp) (by omega) (wU row)
 rw[List.nil_append,List.nil_append] at L;rw[e1];have L':dx (qH n (du l row) x5 x6) n (du l row,1+(x7:Int),0)=some (nT (1+x7) (x5,x6) (du l row)):=L;rw[L',av];cases turned with
 | true =>
  rw[ng,GL n (sA d row).1 hn,av,av,if_pos rfl]
 | false =>
  rw[gC,av,if_neg (by decide)]
def GH (l:List I2):Prop:=∀q ∈ l,nQ q.1∧nQ q.2
theorem Jh {p:I2} (h:Nr p):nQ p.1∧nQ p.2:=by unfold Nr at h; unfold nQ; omega
theorem Ok.pt {l:List I2} (h:Ok l):GH l:=fun q hq=>by
 obtain⟨j,hj,e⟩:=List.mem_iff_getElem.1 hq;have e2:nx l j=q:=by
  unfold nx;rw[Nat.mod_eq_of_lt hj,List.getD_eq_getElem?_getD,List.getElem?_eq_getElem hj]; exact e
 rw[←e2];exact Jh (h.nr j)
structure Bd (x2 x3:Nat) (x4 x5:Int):Prop where
 at_:x2<256
 to:x3<256
 x:nQ x4
 y:nQ x5
theorem sY {σ τ ρ:Type} {B:τ→Option (τ ⊕ ρ)} {len:Nat} (st:Nat→σ→τ) (inv:Nat→σ→Prop) (Post:ρ→Prop)
  (hB:∀i s,i<len→inv i s→(∃s',B (st i s)=some (.inl (st (i+1) s'))∧inv (i+1) s')∨∃r,B (st i s)=some (.inr r)∧Post r)
  (hE:∀s,inv len s→∃r,B (st len s)=some (.inr r)∧Post r):∀(k i:Nat) (s:σ) (n:Nat),i+k=len→k<n→inv i s→∃r,dx B n (st i s)=some r∧Post r
 | 0,i,s,n+1,h,_,hi=>by
  rw[Nat.add_zero] at h; subst h;obtain⟨r,h1,h2⟩:=hE s hi;exact⟨r,eg h1,h2⟩
 | k+1,i,s,n+1,h,hn,hi=>by
  rcases hB i s (by omega) hi with⟨s',h1,h2⟩|⟨r,h1,h2⟩
  ·rw[cC h1]; exact sY st inv Post hB hE k (i+1) s' n (by omega) (by omega) h2
  ·exact⟨r,eg h1,h2⟩
theorem ua {f:Nat→Int} (h:∀i,-8000000000000≤f i∧f i≤8000000000000):∀n:Nat,-(8000000000000*(n:Int))≤aD n f∧aD n f≤8000000000000*(n:Int)
 | 0=>by simp[aD]
 | n+1=>by
  have h1:=ua h n;have h2:=h n;simp only[aD];omega
section
variable {l : List I2} (n : Nat)
def IL (l:List I2) (o:I2) (i:Nat):Int:=((nx l i).1-o.1)*((nx l (i+1)).2-o.2)-((nx l i).2-o.2)*((nx l (i+1)).1-o.1)
theorem Hs {a b o:I2} (ha:Nr a) (hb:Nr b) (ho:Nr o) : -8000000000000≤(a.1-o.1)*(b.2-o.2)-(a.2-o.2)*(b.1-o.1)∧(a.1-o.1)*(b.2-o.2)-(a.2-o.2)*(b.1-o.1)≤8000000000000:=by
 unfold Nr at ha hb ho;have m1:=cZ (B:=2000000) (C:=2000000) (u:=a.1-o.1) (v:=b.2-o.2) (by decide) (by omega) (by omega) (by omega) (by omega)
 have m2:=cZ (B:=2000000) (C:=2000000) (u:=a.2-o.2) (v:=b.1-o.1) (by decide) (by omega) (by omega) (by omega) (by omega)
 omega
theorem It {a b o:I2} (ha:Nr a) (hb:Nr b) (ho:Nr o) {s:Int} (hs : -8000000000000000≤s∧s≤8000000000000000) :
  IntKind.wrap .i64 (IntKind.wrap .i64 (s+IntKind.wrap .i64 ((IntKind.wrap .i64 (a.1-o.1))*(IntKind.wrap .i64 (b.2-o.2))))-IntKind.wrap .i64 ((IntKind.wrap .i64 (a.2-o.2))*(IntKind.wrap .i64 (b.1-o.1))))=s+((a.1-o.1)*(b.2-o.2)-(a.2-o.2)*(b.1-o.1)):=by
 unfold Nr at ha hb ho;have m1:=cZ (B:=2000000) (C:=2000000) (u:=a.1-o.1) (v:=b.2-o.2) (by decide) (by omega) (by omega) (by omega) (by omega)
 have m2:=cZ (B:=2000000) (C:=2000000) (u:=a.2-o.2) (v:=b.1-o.1) (by decide) (by omega) (by omega) (by omega) (by omega)
 rw[aq (x:=a.1-o.1) (by omega) (by omega),aq (x:=b.2-o.2) (by omega) (by omega),aq (x:=a.2-o.2) (by omega) (by omega),aq (x:=b.1-o.1) (by omega) (by omega)]
 generalize (a.1-o.1)*(b.2-o.2)=u at *;generalize (a.2-o.2)*(b.1-o.1)=v at *;rw[aq (x:=u) (by omega) (by omega),aq (x:=v) (by omega) (by omega),aq (x:=s+u) (by omega) (by omega),aq (by omega) (by omega)]
 omega
theorem yq (h:0<l.length):cX 0 l.length=true:=decide_eq_true ⟨Int.le_refl 0,h⟩
theorem yK (h:0<l.length):l[(0:Int).toNat]? = some ((nx l 0).1,(nx l 0).2):=dY (i:=0) h
open Classical in
theorem GY (h64:GH l) (hn:l.length<n) (h5:41<n):Hj n l=some (if rk l then(kz l,0) else(0,140)):=by
 unfold Hj;rw[BD n h64 hn h5,av]
 by_cases h:rk l
 ·have hok:=rN.1 h;have hL:=hok.len;have h3:=hok.vr.n3;have hnr:=hok.nr;have hb:∀i,-8000000000000≤IL l (nx l 0) i∧IL l (nx l 0) i≤8000000000000:=fun i=>Hs (hnr i) (hnr (i+1)) (hnr 0);have L:∃r,dx (qB n l) n (((0:Nat):Int),(0:Int))=some r∧r=kz l:=by
   refine sY (len:=l.length) (fun i (s:Int)=>((i:Int),s)) (fun i s=>s=aD i (IL l (nx l 0))) _ (fun i s hi hs=>?_) (fun s hs=>?_) l.length 0 0 n (by omega) hn rfl
   ·have hbi:=ua hb i;refine .inl ⟨s+IL l (nx l 0) i,?_,by rw[hs]; rfl⟩
    unfold qB
    try dsimp only
    rw[aY (by omega),bD hi,cw,dY hi,av]
    try dsimp only
    rw[bw (by omega),iw i hi (by omega)]
    try dsimp only
    rw[yq (by omega),cw,yK (by omega),av]
    try dsimp only
    rw[cw,av,cw,cw,av,av,It (hnr i) (hnr (i+1)) (hnr 0) (by rw[hs]; omega)]
    rfl
   ·refine⟨s,?_,by rw[hs]; exact ub l (nx l 0)⟩
    unfold qB
    try dsimp only
    rw[aX (by omega)]
  obtain⟨r,h1,h2⟩:=L;have h1':dx (qB n l) n (0,0)=some r:=h1;rw[if_pos h,if_pos h,show(!decide ((0:Int)=0))=false from rfl,gC,av,h1',av,av,h2]
 ·rw[if_neg h,if_neg h]; rfl
open Classical in
noncomputable def side (l:List I2) (p:I2):Int:=if ∃i,i<l.length∧bE (nx l i) (nx l (i+1)) p then 1 else if dh l p=0 then 0 else 2
theorem By (l:List I2) (p:I2):∀i:Nat,-(i:Int)≤aD i (fun i=>wi (nx l i) (nx l (i+1)) p)∧aD i (fun i=>wi (nx l i) (nx l (i+1)) p)≤(i:Int)
 | 0=>by simp[aD]
 | i+1=>by
  have h1:=By l p i;have h2:=B0 (nx l i) (nx l (i+1)) p;simp only[aD];omega
open Classical in
theorem Hb (h64:GH l) {p:I2} (hp:nQ p.1∧nQ p.2) (hn:l.length<n) (h5:41<n):Hi n l p.1 p.2=some (if rk l then(if Fa p then(0,2) else(side l p,0)) else(0,140)):=by
 unfold Hi;rw[BD n h64 hn h5,av]
 by_cases h:rk l
 ·have hok:=rN.1 h;have hL:=hok.len;have h3:=hok.vr.n3;have hnr:=hok.nr;rw[if_pos h,if_pos h,show(!decide ((0:Int)=0))=false from rfl,gC,AU n hp.1 hp.2,av]
  by_cases hf:Fa p
  ·rw[aY (show Fa (p.1,p.2) from hf),if_pos hf]
  ·have hpn:Nr p:=A1.1 hf;rw[aX (show ¬Fa (p.1,p.2) from hf),if_neg hf,av]
   have L:∃r,dx (pD n l p.1 p.2) n (((0:Nat):Int),(0:Int))=some r∧match r with
     | .inl _=>∃i,i<l.length∧bE (nx l i) (nx l (i+1)) p
     | .inr w=>(∀i,i<l.length→¬bE (nx l i) (nx l (i+1)) p)∧w=dh l p:=by
    refine sY (len:=l.length) (fun i (s:Int)=>((i:Int),s)) (fun i s=>(∀j,j<i→¬bE (nx l j) (nx l (j+1)) p)∧s=aD i fun i=>wi (nx l i) (nx l (i+1)) p) _ (fun i s hi hs=>?_) (fun s hs=>?_) l.length 0 0 n (by omega) hn ⟨fun j hj=>absurd hj (Nat.not_lt_zero _),rfl⟩
    ·have hw:=By l p i;have hwi:=B0 (nx l i) (nx l (i+1)) p;have hbase:pD n l p.1 p.2 ((i:Int),s)=if bE (nx l i) (nx l (i+1)) p then some (.inr (.inl s)) else some (.inl (((i+1:Nat):Int),s+wi (nx l i) (nx l (i+1)) p)):=by
      unfold pD
      try dsimp only
      rw[aY (by omega),bD hi,cw,dY hi,av]
      try dsimp only
      rw[bw (by omega),iw i hi (by omega)]
      try dsimp only
      rw[xq n _ (hnr i) (hnr (i+1)) hpn (hok.vr.still i) (by omega),av]
      by_cases hb:bE (nx l i) (nx l (i+1)) p
      ·rw[aY hb,av,if_pos hb]
      ·rw[aX hb,if_neg hb,kQ n (hnr i) (hnr (i+1)) hpn,av,dC,dC,av];have s1:=eR (z:=ti (nx l i) (nx l (i+1)) p);have s2:=jw (z:=ti (nx l i) (nx l (i+1)) p);unfold wi
       by_cases c1:(nx l i).2≤p.2∧p.2<(nx l (i+1)).2∧0<ti (nx l i) (nx l (i+1)) p
       ·rw[if_pos c1,decide_eq_true c1.1,decide_eq_true c1.2.1,decide_eq_true (s1.2 c1.2.2),Bool.true_and,Bool.true_and,ng,av,aq (by rw[hs.2]; omega) (by rw[hs.2]; omega)]
       ·have e1:(decide ((nx l i).2≤p.2) && (decide (p.2<(nx l (i+1)).2) && decide (0<sg (ti (nx l i) (nx l (i+1)) p))))=false:=by
         rw[←Bool.decide_and,←Bool.decide_and]; exact decide_eq_false fun g=>c1 ⟨g.1,g.2.1,s1.1 g.2.2⟩
        rw[if_neg c1,e1,gC,dC,dC,av]
        by_cases c2:(nx l (i+1)).2≤p.2∧p.2<(nx l i).2∧ti (nx l i) (nx l (i+1)) p<0
        ·rw[if_pos c2,decide_eq_true c2.1,decide_eq_true c2.2.1,decide_eq_true (s2.2 c2.2.2),Bool.true_and,Bool.true_and,ng,av,aq (by rw[hs.2]; omega) (by rw[hs.2]; omega)]
         rfl
        ·have e2:(decide (p.2<(nx l i).2) && (decide ((nx l (i+1)).2≤p.2) && decide (sg (ti (nx l i) (nx l (i+1)) p)<0)))=false:=by
          rw[←Bool.decide_and,←Bool.decide_and]; exact decide_eq_false fun g=>c2 ⟨g.2.1,g.1,s2.1 g.2.2⟩
         rw[if_neg c2,e2,gC,av,Int.add_zero]
     by_cases hb:bE (nx l i) (nx l (i+1)) p
     ·exact .inr ⟨.inl s,by rw[hbase,if_pos hb],⟨i,hi,hb⟩⟩
     ·refine .inl ⟨s+wi (nx l i) (nx l (i+1)) p,by rw[hbase,if_neg hb],fun j hj=>?_,by rw[hs.2]; rfl⟩
      by_cases e:j=i
      ·rw[e]; exact hb
      ·exact hs.1 j (by omega)
    ·refine⟨.inr s,?_,hs.1,hs.2⟩;unfold pD
     try dsimp only
     rw[aX (by omega)]
   obtain⟨r,h1,h2⟩:=L;have h1':dx (pD n l p.1 p.2) n (0,0)=some r:=h1;rw[h1',av];unfold side;cases r with
   | inl s =>
    dsimp only at h2
    rw[if_pos h2]
    rfl
   | inr w =>
    obtain⟨g1,g2⟩:=h2;rw[if_neg (fun⟨i,a,b⟩=>g1 i a b)]
    try dsimp only
    rw[av]
    try dsimp only
    rw[g2]
    by_cases e:dh l p=0
    ·rw[decide_eq_true e,Bool.not_true,gC,if_pos e]
    ·rw[decide_eq_false e,Bool.not_false,ng,if_neg e]
 ·rw[if_neg h,if_neg h]; rfl
end
end Go.Proofs.YthmekkhpddehjaaGreat
end
