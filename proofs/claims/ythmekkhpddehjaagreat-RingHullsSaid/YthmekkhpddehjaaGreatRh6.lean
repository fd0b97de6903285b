/- A part of the proof. -/
import Derived.Test.YthmekkhpddehjaaGreatRh5
section
namespace Go.Proofs.YthmekkhpddehjaaGreat
open Go Go.Ab Go.Ab.W
set_option maxRecDepth 10000
set_option maxHeartbeats 4000000
attribute [local irreducible] Tm.at Trie.set Trie.get AMem.get AMem.set AMem.alloc AMem.ww AMem.kill
theorem GF (n:Nat) (l1:List (Int × Int)) (a0:Option Addr) (c0:Nat) (r:List (Int × Int) × Int) (hF:G5 n l1=some r) (m:AMem) (h34:Rd m a0 c0 2 l1.length (l1.map (eP (eI .i64) (eI .i64)))) :
  aL aT 14 [.slice a0 l1.length c0] m (fun v m'=>∃x:Option Addr × Nat,v = .tuple #[.slice x.1 x.2 x.2,.int .i64 r.2]∧Hp m m' [.sl x.1 2 x.2 (r.1.map (eP (eI .i64) (eI .i64)))]):=by
 unfold G5 at hF;refine aN (m0:=m) (ps:=[.rd a0 c0 2 l1.length (l1.map (eP (eI .i64) (eI .i64)))]) (N:=131) (rs:=[.tmp 2,.tmp 3]) rfl Tryz.func14 rfl rfl rfl ((Hp.start m).uU rfl h34)<|Wk.seq<|Wk.region<|Wo.od (ai rfl) rfl<|Wo.od (ai rfl) rfl<|Wo.nil<|At.tn<|Wk.seq<|Wk.seq<|Wk.region<|Wo.od (aa rfl) rfl<|Wo.od (dK (k:=0) hG rfl rfl (.inl rfl)) rfl<|Wo.od (ak rfl rfl (bS _ _ _)) rfl<|Wo.nil<|At.tn ?_;rcases ah hF with⟨h8,hF⟩|⟨h8,hF⟩
 ·refine Wk.ay rfl h8<|Wk.seq<|Wk.region<|Wo.od (ai rfl) rfl<|Wo.od (ai rfl) rfl<|Wo.nil<|At.tn<|Wk.ret<|At.tr ?_;cases hF;exact At.ret (.tmp rfl (.tmp rfl .nil)) fun m' hm=>⟨(none,0),rfl,(ae.trans (ae.nil 2 rfl) (ae.U [0] rfl rfl)) m' hm⟩
 ·refine Wk.az rfl h8<|Wk.skip<|At.tn<|Wk.seq<|Wk.region<|Wo.od (ai rfl) rfl<|Wo.nil<|At.tn<|Wk.seq<|Wk.seq<|Wk.region<|Wo.od (ai rfl) rfl<|Wo.nil<|At.tn<|Wk.block ?_;obtain⟨r2,h9,hF⟩:=J hF;refine Wk.cut (G:=(fun(r:(Unit) ⊕ (Int)) (g:Unit)=>match r,g with | .inl _,_=>⟨.ret,[(2,.slice none 0 0),(3,.int .i64 2)],[]⟩ | .inr v0,_=>⟨(.exit 0),[(0,.slice a0 l1.length c0),(4,.int .i64 v0)],[.rd a0 c0 2 l1.length (l1.map (eP (eI .i64) (eI .i64)))]⟩) r2) ?_ ?_
  ·refine Wk.dz (fs':=[(0,.slice a0 l1.length c0),(4,.int .i64 0),(5,.int .i64 0)]) (ps':=[.rd a0 c0 2 l1.length (l1.map (eP (eI .i64) (eI .i64)))]) (sc rfl (sc rfl (sc rfl sn))) (ae.U [0] rfl rfl) ?_;refine Wk.loop (σ:=Int × Int) (ρ:=(Unit) ⊕ (Int)) (γ:=Unit) (δ:=fun _=>Unit) _ (fun(s:Int × Int) (g:Unit)=>match s,g with | (v14,v11),_=>⟨.normal,[(0,.slice a0 l1.length c0),(4,.int .i64 v14),(5,.int .i64 v11)],[.rd a0 c0 2 l1.length (l1.map (eP (eI .i64) (eI .i64)))]⟩) (fun(r:(Unit) ⊕ (Int)) (g:Unit)=>match r,g with | .inl _,_=>⟨.ret,[(2,.slice none 0 0),(3,.int .i64 2)],[]⟩ | .inr v0,_=>⟨(.exit 0),[(0,.slice a0 l1.length c0),(4,.int .i64 v0)],[.rd a0 c0 2 l1.length (l1.map (eP (eI .i64) (eI .i64)))]⟩) ?_ (fun _ _=>rfl) (fun r d=>by rcases r with _|_<;>(intro e; cases e)) _ _ _ h9 ()
   clear hF h9;rintro⟨v14,v11⟩ ⟨⟩ r hF;unfold pN at hF;refine Wk.seq<|Wk.seq<|Wk.region<|Wo.od (aa rfl) rfl<|Wo.od (aa rfl) rfl<|Wo.od (dK (k:=0) hG rfl rfl (.inl rfl)) rfl<|Wo.od (ak rfl rfl (aG _ _ _)) rfl<|Wo.nil<|At.tn ?_;rcases ah hF with⟨h10,hF⟩|⟨h10,hF⟩
   ·refine Wk.ay rfl h10<|Wk.skip<|At.tn<|Wk.seq ?_;obtain⟨r0,h35,hF⟩:=J hF;refine Wk.cut (G:=(fun(r:(Unit) ⊕ (Int)) (g:Unit)=>match r,g with | .inl _,_=>⟨.ret,[(2,.slice none 0 0),(3,.int .i64 2)],[]⟩ | .inr v15,_=>⟨.normal,[(0,.slice a0 l1.length c0),(4,.int .i64 v15),(5,.int .i64 v11)],[.rd a0 c0 2 l1.length (l1.map (eP (eI .i64) (eI .i64)))]⟩) r0) ?_ ?_
    ·clear hF;revert r0;intro r hF;refine Wk.block<|Wk.seq<|Wk.seq<|Wk.region<|Wo.od (aa rfl) rfl<|Wo.od (aa rfl) rfl ?_;obtain⟨h4,hF⟩:=al hF;replace h4:=av h4;refine Wo.ey (k:=0) rfl (bV h4) ?_;rintro b5 o2 rfl;refine Wo.og (cD dY rfl rfl h4) gn rfl ?_;obtain⟨⟨x10,x11⟩,h33,hF⟩:=J hF;refine Wo.od (cW (k:=0) aw rfl rfl (aQ h33) rfl rfl) rfl ?_;obtain⟨r5,h36,hF⟩:=J hF;refine Wo.x (bU rfl rfl (fun m hm=>lT n x10 x11  _ h36 m) fun _=>rfl) gn rfl ?_;rintro⟨⟩;refine Wo.nil<|At.tn ?_;rcases ah hF with⟨h11,hF⟩|⟨h11,hF⟩
     ·refine Wk.ay rfl h11<|Wk.seq<|Wk.region<|Wo.od (ai rfl) rfl<|Wo.od (ai rfl) rfl<|Wo.nil<|At.tn<|Wk.ret<|At.tr<|At.br ?_;cases hF;exact At.en () rfl (sc rfl (sc rfl sn)) (ae.U [] rfl rfl)
     ·refine Wk.az rfl h11<|Wk.skip<|At.tn<|Wk.seq<|Wk.draw (by kernel_rfl)<|Wo.od (aa rfl) rfl<|Wo.od (aa rfl) rfl ?_
      obtain⟨h12,hF⟩:=al hF;replace h12:=av h12;refine Wo.og (cD dY rfl rfl h12) gn rfl<|Wo.od (cW (k:=0) aw rfl rfl (aQ h33) rfl rfl) rfl<|Wo.od (aa rfl) rfl<|Wo.od (aa rfl) rfl ?_;obtain⟨h13,hF⟩:=al hF;replace h13:=av h13;refine Wo.og (cD dY rfl rfl h13) gn rfl ?_;obtain⟨⟨x19,x20⟩,h37,hF⟩:=J hF;refine Wo.od (cW (k:=0) aw rfl rfl (aQ h37) rfl rfl) rfl ?_;obtain⟨r6,h38,hF⟩:=J hF;refine Wo.x (bU rfl rfl (fun m hm=>GN n x10 x11 x19 x20  _ h38 m) fun _=>rfl) gn rfl ?_;rintro⟨⟩;refine Wo.nil<|At.tn ?_;rcases ah hF with⟨h14,hF⟩|⟨h14,hF⟩
      ·refine Wk.ay rfl h14<|Wk.region<|Wo.od (aa rfl) rfl<|Wo.od (ai rfl) rfl<|Wo.nil<|At.bn ?_;cases hF;exact At.en () rfl (sc rfl (sc rfl (sc rfl sn))) (ae.U [1] rfl rfl)
      ·refine Wk.az rfl h14<|Wk.skip<|At.bn ?_;cases hF;exact At.en () rfl (sc rfl (sc rfl (sc rfl sn))) (ae.U [1] rfl rfl)
    ·clear h35;rcases r0 with _|v15
     ·rintro⟨⟩;refine At.tr ?_;cases hF;exact At.en () rfl (sc rfl (sc rfl sn)) (ae.U [] rfl rfl)
     ·rintro⟨⟩;refine At.tn<|Wk.region<|Wo.od (aa rfl) rfl<|Wo.od (ak rfl rfl (aF _ _ _)) rfl<|Wo.od (ai rfl) rfl<|Wo.nil ?_;cases hF;exact At.en () rfl (sc rfl (sc rfl (sc rfl sn))) (ae.U [0] rfl rfl)
   ·refine Wk.az rfl h10<|Wk.exit<|At.te ?_;cases hF;exact At.en () rfl (sc rfl (sc rfl sn)) (ae.U [0] rfl rfl)
  ·clear h9;rcases r2 with _|v0
   ·rintro⟨⟩;refine At.br<|At.tr ?_;cases hF;exact At.ret (.tmp rfl (.tmp rfl .nil)) fun m' hm=>⟨(none,0),rfl,(ae.trans (ae.nil 2 rfl) (ae.U [0] rfl rfl)) m' hm⟩
   ·rintro⟨⟩;refine At.be<|At.tn<|Wk.seq<|Wk.region<|Wo.od (ai rfl) rfl<|Wo.nil<|At.tn<|Wk.seq<|Wk.seq<|Wk.region<|Wo.od (ai rfl) rfl<|Wo.nil<|At.tn<|Wk.block ?_;obtain⟨v4,h15,hF⟩:=J hF;refine Wk.cut (G:=(fun(r:Bool) (g:Unit)=>match r,g with|v4,_=>⟨(.exit 2),[(0,.slice a0 l1.length c0),(4,.int .i64 v0),(6,.bool v4)],[.rd a0 c0 2 l1.length (l1.map (eP (eI .i64) (eI .i64)))]⟩) v4) ?_ ?_
    ·refine Wk.dz (fs':=[(0,.slice a0 l1.length c0),(4,.int .i64 v0),(6,.bool true),(7,.int .i64 0)]) (ps':=[.rd a0 c0 2 l1.length (l1.map (eP (eI .i64) (eI .i64)))]) (sc rfl (sc rfl (sc rfl (sc rfl sn)))) (ae.U [0] rfl rfl) ?_;refine Wk.loop (σ:=Bool × Int) (ρ:=Bool) (γ:=Unit) (δ:=fun _=>Unit) _ (fun(s:Bool × Int) (g:Unit)=>match s,g with | (v12,v1),_=>⟨.normal,[(0,.slice a0 l1.length c0),(4,.int .i64 v0),(6,.bool v12),(7,.int .i64 v1)],[.rd a0 c0 2 l1.length (l1.map (eP (eI .i64) (eI .i64)))]⟩) (fun(r:Bool) (g:Unit)=>match r,g with|v4,_=>⟨(.exit 2),[(0,.slice a0 l1.length c0),(4,.int .i64 v0),(6,.bool v4)],[.rd a0 c0 2 l1.length (l1.map (eP (eI .i64) (eI .i64)))]⟩) ?_ (fun _ _=>rfl) (fun r d=>by intro e; cases e) _ _ _ h15 ()
     clear hF h15;rintro⟨v12,v1⟩ ⟨⟩ r hF;unfold nj at hF;refine Wk.seq<|Wk.seq<|Wk.region<|Wo.od (aa rfl) rfl<|Wo.od (aa rfl) rfl<|Wo.od (dK (k:=0) hG rfl rfl (.inl rfl)) rfl<|Wo.od (ak rfl rfl (aG _ _ _)) rfl<|Wo.nil<|At.tn ?_;rcases ah hF with⟨h16,hF⟩|⟨h16,hF⟩
     ·refine Wk.ay rfl h16<|Wk.skip<|At.tn<|Wk.seq<|Wk.block<|Wk.seq<|Wk.region<|Wo.od (ai rfl) rfl<|Wo.nil<|At.tn<|Wk.block ?_;obtain⟨v5,h17,hF⟩:=J hF;refine Wk.cut (G:=(fun(r:Bool) (g:Unit)=>match r,g with|v5,_=>⟨(.exit 4),[(0,.slice a0 l1.length c0),(4,.int .i64 v0),(6,.bool v5),(7,.int .i64 v1)],[.rd a0 c0 2 l1.length (l1.map (eP (eI .i64) (eI .i64)))]⟩) v5) ?_ ?_
      ·refine Wk.dz (fs':=[(0,.slice a0 l1.length c0),(4,.int .i64 v0),(6,.bool v12),(7,.int .i64 v1),(8,.int .i64 0)]) (ps':=[.rd a0 c0 2 l1.length (l1.map (eP (eI .i64) (eI .i64)))]) (sc rfl (sc rfl (sc rfl (sc rfl (sc rfl sn))))) (ae.U [0] rfl rfl) ?_;refine Wk.loop (σ:=Bool × Int) (ρ:=Bool) (γ:=Unit) (δ:=fun _=>Unit) _ (fun(s:Bool × Int) (g:Unit)=>match s,g with | (v16,v13),_=>⟨.normal,[(0,.slice a0 l1.length c0),(4,.int .i64 v0),(6,.bool v16),(7,.int .i64 v1),(8,.int .i64 v13)],[.rd a0 c0 2 l1.length (l1.map (eP (eI .i64) (eI .i64)))]⟩) (fun(r:Bool) (g:Unit)=>match r,g with|v5,_=>⟨(.exit 4),[(0,.slice a0 l1.length c0),(4,.int .i64 v0),(6,.bool v5),(7,.int .i64 v1)],[.rd a0 c0 2 l1.length (l1.map (eP (eI .i64) (eI .i64)))]⟩) ?_ (fun _ _=>rfl) (fun r d=>by intro e; cases e) _ _ _ h17 ()
       clear hF h17;rintro⟨v16,v13⟩ ⟨⟩ r hF;unfold uI at hF;refine Wk.seq<|Wk.seq<|Wk.region<|Wo.od (aa rfl) rfl<|Wo.od (aa rfl) rfl<|Wo.od (dK (k:=0) hG rfl rfl (.inl rfl)) rfl<|Wo.od (ak rfl rfl (aG _ _ _)) rfl<|Wo.nil<|At.tn ?_;rcases ah hF with⟨h18,hF⟩|⟨h18,hF⟩
       ·refine Wk.ay rfl h18<|Wk.skip<|At.tn<|Wk.seq ?_;obtain⟨v8,h39,hF⟩:=J hF;refine Wk.cut (G:=(fun(r:Bool) (g:Unit)=>match r,g with|v8,_=>⟨.normal,[(0,.slice a0 l1.length c0),(4,.int .i64 v0),(6,.bool v8),(7,.int .i64 v1),(8,.int .i64 v13)],[.rd a0 c0 2 l1.length (l1.map (eP (eI .i64) (eI .i64)))]⟩) v8) ?_ ?_
        ·clear hF;revert v8;intro r hF;refine Wk.block<|Wk.draw (by kernel_rfl)<|Wo.od (aa rfl) rfl<|Wo.od (aa rfl) rfl ?_
         rcases ah hF with⟨h0,hF⟩|⟨h0,hF⟩
         ·refine Wo.og (aa rfl) (gg rfl rfl (bP h0)) rfl<|Wo.og (aa rfl) (gg rfl rfl (bP h0)) rfl ?_;obtain⟨h5,hF⟩:=al hF;replace h5:=av h5;refine Wo.ey (k:=0) rfl (bV h5) ?_;rintro b6 o3 rfl;refine Wo.og (cD dY rfl rfl h5) (gg rfl rfl (bP h0)) rfl ?_;obtain⟨⟨x21,x22⟩,h40,hF⟩:=J hF;refine Wo.og (cW (k:=0) aw rfl rfl (aQ h40) rfl rfl) (gg rfl rfl (bP h0)) rfl<|Wo.og (aa rfl) (gg rfl rfl (bP h0)) rfl<|Wo.og (aa rfl) (gg rfl rfl (bP h0)) rfl ?_;obtain⟨h19,hF⟩:=al hF;replace h19:=av h19;refine Wo.og (cD dY rfl rfl h19) (gg rfl rfl (bP h0)) rfl ?_;obtain⟨⟨x23,x24⟩,h41,hF⟩:=J hF;refine Wo.og (cW (k:=0) aw rfl rfl (aQ h41) rfl rfl) (gg rfl rfl (bP h0)) rfl<|Wo.og (aa rfl) (gg rfl rfl (bP h0)) rfl<|Wo.og (aa rfl) (gg rfl rfl (bP h0)) rfl ?_;obtain⟨h20,hF⟩:=al hF;replace h20:=av h20;refine Wo.og (cD dY rfl rfl h20) (gg rfl rfl (bP h0)) rfl ?_;obtain⟨⟨x25,x27⟩,h42,hF⟩:=J hF;refine Wo.og (cW (k:=0) aw rfl rfl (aQ h42) rfl rfl) (gg rfl rfl (bP h0)) rfl ?_;obtain⟨r7,h43,hF⟩:=J hF;refine Wo.x (bU rfl rfl (fun m hm=>ju n x21 x22 x23 x24 x25 x27  _ h43 m) fun _=>rfl) (gg rfl rfl (bP h0)) rfl ?_;rintro⟨⟩;refine Wo.og (ak rfl rfl (dy _ _ _)) (gg rfl rfl (bP h0)) rfl<|Wo.od (cZ rfl h0 rfl) rfl<|Wo.od (ai rfl) rfl<|Wo.nil<|At.bn ?_;cases hF;exact At.en () rfl (sc rfl (sc rfl (sc rfl (sc rfl (sc rfl sn))))) (ae.U [1] rfl rfl)
         ·refine Wo.s (gg rfl rfl (bQ h0)) rfl<|Wo.s (gg rfl rfl (bQ h0)) rfl<|Wo.s (gg rfl rfl (bQ h0)) rfl<|Wo.s (gg rfl rfl (bQ h0)) rfl<|Wo.s (gg rfl rfl (bQ h0)) rfl<|Wo.s (gg rfl rfl (bQ h0)) rfl<|Wo.s (gg rfl rfl (bQ h0)) rfl<|Wo.s (gg rfl rfl (bQ h0)) rfl<|Wo.s (gg rfl rfl (bQ h0)) rfl<|Wo.s (gg rfl rfl (bQ h0)) rfl ?_;refine Wo.s (gg rfl rfl (bQ h0)) rfl<|Wo.s (gg rfl rfl (bQ h0)) rfl<|Wo.s (gg rfl rfl (bQ h0)) rfl<|Wo.s (gg rfl rfl (bQ h0)) rfl<|Wo.od (cP rfl h0 rfl) rfl<|Wo.od (ai rfl) rfl<|Wo.nil<|At.bn ?_;cases hF;exact At.en () rfl (sc rfl (sc rfl (sc rfl (sc rfl (sc rfl sn))))) (ae.U [0] rfl rfl)
        ·clear h39;rintro⟨⟩;refine At.tn<|Wk.region<|Wo.od (aa rfl) rfl<|Wo.od (ak rfl rfl (aF _ _ _)) rfl<|Wo.od (ai rfl) rfl<|Wo.nil ?_;cases hF;exact At.en () rfl (sc rfl (sc rfl (sc rfl (sc rfl (sc rfl sn))))) (ae.U [0] rfl rfl)
       ·refine Wk.az rfl h18<|Wk.exit<|At.te ?_;cases hF;exact At.en () rfl (sc rfl (sc rfl (sc rfl (sc rfl sn)))) (ae.U [0] rfl rfl)
      ·clear h17;rintro⟨⟩;refine At.be<|At.bn<|At.tn<|Wk.region<|Wo.od (aa rfl) rfl<|Wo.od (ak rfl rfl (aF _ _ _)) rfl<|Wo.od (ai rfl) rfl<|Wo.nil ?_;cases hF;exact At.en () rfl (sc rfl (sc rfl (sc rfl (sc rfl sn)))) (ae.U [0] rfl rfl)
     ·refine Wk.az rfl h16<|Wk.exit<|At.te ?_;cases hF;exact At.en () rfl (sc rfl (sc rfl (sc rfl sn))) (ae.U [0] rfl rfl)
    ·clear h15;rintro⟨⟩;refine At.be<|At.tn<|Wk.seq<|Wk.seq<|Wk.region<|Wo.od (aa rfl) rfl<|Wo.nil<|At.tn ?_;rcases ah hF with⟨h21,hF⟩|⟨h21,hF⟩
     ·refine Wk.ay rfl h21<|Wk.seq<|Wk.region<|Wo.od (ai rfl) rfl<|Wo.od (ai rfl) rfl<|Wo.nil<|At.tn<|Wk.ret<|At.tr ?_;cases hF;exact At.ret (.tmp rfl (.tmp rfl .nil)) fun m' hm=>⟨(none,0),rfl,(ae.trans (ae.nil 2 rfl) (ae.U [0] rfl rfl)) m' hm⟩
     ·refine Wk.az rfl h21<|Wk.skip<|At.tn<|Wk.seq<|Wk.region<|Wo.od (aa rfl) rfl<|Wo.od (aa rfl) rfl ?_;obtain⟨h6,hF⟩:=al hF;replace h6:=av h6;refine Wo.ey (k:=0) rfl (bV h6) ?_;rintro b0 o1 rfl;refine Wo.og (cD dY rfl rfl h6) gn rfl ?_;obtain⟨⟨x12,x16⟩,h44,hF⟩:=J hF;refine Wo.od (cW (k:=0) aw rfl rfl (aQ h44) rfl rfl) rfl<|Wo.x (js (es:=([(x12,x16)]:List (Int × Int)).map (eP (eI .i64) (eI .i64))) je rfl (jj je z33 rfl rfl) rfl rfl) gn rfl fun b4=>?_;refine Wo.od (ai rfl) rfl<|Wo.nil<|At.tn<|Wk.seq<|Wk.block ?_;obtain⟨r3,h22,hF⟩:=J hF;refine Wk.cut (G:=(fun(r:List (Int × Int) × Nat) (g:Option Addr)=>match r,g with | (l3,n1),a1=>⟨(.exit 6),[(9,.slice a1 n1 n1)],[.sl a1 2 n1 (l3.map (eP (eI .i64) (eI .i64)))]⟩) r3) ?_ ?_
      ·refine Wk.dz (fs':=[(0,.slice (some ⟨b0,o1,none⟩) l1.length c0),(9,.slice (some ⟨b4,0,none⟩) 1 1)]) (ps':=[.ro b0 o1 2 l1.length (l1.map (eP (eI .i64) (eI .i64))),.rd (some ⟨b0,o1,none⟩) c0 2 l1.length (l1.map (eP (eI .i64) (eI .i64))),.sl (some ⟨b4,0,none⟩) 2 1 (([(x12,x16)]).map (eP (eI .i64) (eI .i64)))]) (sc rfl (sc rfl sn)) (ae.trans (ae.close (k:=0) rfl) (ae.U [1,2,0] rfl rfl)) ?_;refine Wk.loop (σ:=List (Int × Int) × Nat) (ρ:=List (Int × Int) × Nat) (γ:=Option Addr) (δ:=fun _=>Option Addr) _ (fun(s:List (Int × Int) × Nat) (g:Option Addr)=>match s,g with | (l2,n0),a2=>⟨.normal,[(0,.slice (some ⟨b0,o1,none⟩) l1.length c0),(9,.slice a2 n0 n0)],[.ro b0 o1 2 l1.length (l1.map (eP (eI .i64) (eI .i64))),.rd (some ⟨b0,o1,none⟩) c0 2 l1.length (l1.map (eP (eI .i64) (eI .i64))),.sl a2 2 n0 (l2.map (eP (eI .i64) (eI .i64)))]⟩) (fun(r:List (Int × Int) × Nat) (g:Option Addr)=>match r,g with | (l3,n1),a1=>⟨(.exit 6),[(9,.slice a1 n1 n1)],[.sl a1 2 n1 (l3.map (eP (eI .i64) (eI .i64)))]⟩) ?_ (fun _ _=>rfl) (fun r d=>by intro e; cases e) _ _ _ h22 (some ⟨b4,0,none⟩)
       clear hF h22;rintro⟨l2,n0⟩ a2 r hF;unfold vi at hF;refine Wk.block<|Wk.seq<|Wk.region<|Wo.od (aa rfl) rfl<|Wo.od (aa rfl) rfl<|Wo.od (dK (k:=2) w7 rfl rfl (.inl rfl)) rfl<|Wo.od (ak rfl rfl (aX _ _ _)) rfl ?_;obtain⟨h7,hF⟩:=al hF;replace h7:=av h7;refine Wo.open (k:=2) rfl (bV h7) ?_;rintro b1 t0 rfl h52;refine Wo.og (eh je rfl rfl h7) gn rfl ?_;obtain⟨⟨x3,x4⟩,h45,hF⟩:=J hF;refine Wo.od (fP (k:=2) aw rfl rfl (aQ h45) rfl rfl) rfl<|Wo.x (jm z33 rfl) gn rfl fun b3=>?_;refine Wo.o0 (hY (k:=0) aw rfl rfl rfl rfl rfl)<|Wo.nil<|At.tn<|Wk.seq<|Wk.region<|Wo.od (aq (k:=0) aw rfl rfl rfl) rfl<|Wo.x (jm z33 rfl) gn rfl fun b2=>?_;refine Wo.o0 (hY (k:=0) aw rfl rfl rfl rfl rfl)<|Wo.nil<|At.tn<|Wk.seq<|Wk.seq<|Wk.region<|Wo.od (ai rfl) rfl<|Wo.nil<|At.tn<|Wk.block ?_;obtain⟨r4,h23,hF⟩:=J hF;refine Wk.cut (G:=(fun(r:Int × Int) (g:Unit)=>match r,g with | (v2,v3),_=>⟨(.exit 8),[(0,.slice (some ⟨b0,o1,none⟩) l1.length c0),(9,.slice (some ⟨b1,0,none⟩) n0 n0),(11,ptr b2 0)],[.ro b0 o1 2 l1.length (l1.map (eP (eI .i64) (eI .i64))),.rd (some ⟨b0,o1,none⟩) c0 2 l1.length (l1.map (eP (eI .i64) (eI .i64))),.arr b1 2 n0 (l2.map (eP (eI .i64) (eI .i64))) t0,.obj b2 (.cells [.int .i64 v2,.int .i64 v3] .own)]⟩) r4) ?_ ?_
       ·refine Wk.dz (fs':=[(0,.slice (some ⟨b0,o1,none⟩) l1.length c0),(9,.slice (some ⟨b1,0,none⟩) n0 n0),(10,ptr b3 0),(11,ptr b2 0),(12,.int .i64 0)]) (ps':=[.ro b0 o1 2 l1.length (l1.map (eP (eI .i64) (eI .i64))),.rd (some ⟨b0,o1,none⟩) c0 2 l1.length (l1.map (eP (eI .i64) (eI .i64))),.arr b1 2 n0 (l2.map (eP (eI .i64) (eI .i64))) t0,.obj b3 (.cells [.int .i64 x3,.int .i64 x4] .own),.obj b2 (.cells [.int .i64 x3,.int .i64 x4] .own)]) (sc rfl (sc rfl (sc rfl (sc rfl (sc rfl sn))))) (ae.U [2,3,4,1,0] rfl rfl) ?_;refine Wk.loop (σ:=Int × Int × Int) (ρ:=Int × Int) (γ:=Unit) (δ:=fun _=>Unit) _ (fun(s:Int × Int × Int) (g:Unit)=>match s,g with | (v6,v7,v9),_=>⟨.normal,[(0,.slice (some ⟨b0,o1,none⟩) l1.length c0),(9,.slice (some ⟨b1,0,none⟩) n0 n0),(10,ptr b3 0),(11,ptr b2 0),(12,.int .i64 v9)],[.ro b0 o1 2 l1.length (l1.map (eP (eI .i64) (eI .i64))),.rd (some ⟨b0,o1,none⟩) c0 2 l1.length (l1.map (eP (eI .i64) (eI .i64))),.arr b1 2 n0 (l2.map (eP (eI .i64) (eI .i64))) t0,.obj b3 (.cells [.int .i64 x3,.int .i64 x4] .own),.obj b2 (.cells [.int .i64 v6,.int .i64 v7] .own)]⟩) (fun(r:Int × Int) (g:Unit)=>match r,g with | (v2,v3),_=>⟨(.exit 8),[(0,.slice (some ⟨b0,o1,none⟩) l1.length c0),(9,.slice (some ⟨b1,0,none⟩) n0 n0),(11,ptr b2 0)],[.ro b0 o1 2 l1.length (l1.map (eP (eI .i64) (eI .i64))),.rd (some ⟨b0,o1,none⟩) c0 2 l1.length (l1.map (eP (eI .i64) (eI .i64))),.arr b1 2 n0 (l2.map (eP (eI .i64) (eI .i64))) t0,.obj b2 (.cells [.int .i64 v2,.int .i64 v3] .own)]⟩) ?_ (fun _ _=>rfl) (fun r d=>by intro e; cases e) _ _ _ h23 ()
        clear hF h23;rintro⟨v6,v7,v9⟩ ⟨⟩ r hF;unfold pO at hF;refine Wk.seq<|Wk.seq<|Wk.region<|Wo.od (aa rfl) rfl<|Wo.od (aa rfl) rfl<|Wo.od (dK (k:=0) hG rfl rfl (.inl rfl)) rfl<|Wo.od (ak rfl rfl (aG _ _ _)) rfl<|Wo.nil<|At.tn ?_;rcases ah hF with⟨h24,hF⟩|⟨h24,hF⟩
        ·refine Wk.ay rfl h24<|Wk.skip<|At.tn<|Wk.seq ?_;obtain⟨r1,h46,hF⟩:=J hF;refine Wk.cut (G:=(fun(r:Int × Int) (g:Unit)=>match r,g with | (v17,v18),_=>⟨.normal,[(0,.slice (some ⟨b0,o1,none⟩) l1.length c0),(9,.slice (some ⟨b1,0,none⟩) n0 n0),(10,ptr b3 0),(11,ptr b2 0),(12,.int .i64 v9)],[.ro b0 o1 2 l1.length (l1.map (eP (eI .i64) (eI .i64))),.rd (some ⟨b0,o1,none⟩) c0 2 l1.length (l1.map (eP (eI .i64) (eI .i64))),.arr b1 2 n0 (l2.map (eP (eI .i64) (eI .i64))) t0,.obj b3 (.cells [.int .i64 x3,.int .i64 x4] .own),.obj b2 (.cells [.int .i64 v17,.int .i64 v18] .own)]⟩) r1) ?_ ?_
         ·clear hF;revert r1;intro r hF;refine Wk.block<|Wk.seq<|Wk.draw (by kernel_rfl)<|Wo.od (aq (k:=3) aw rfl rfl rfl) rfl<|Wo.od (aq (k:=4) aw rfl rfl rfl) rfl<|Wo.od (aa rfl) rfl<|Wo.od (aa rfl) rfl ?_
          obtain⟨h25,hF⟩:=al hF;replace h25:=av h25;refine Wo.og (cD dY rfl rfl h25) gn rfl ?_;obtain⟨⟨x17,x18⟩,h26,hF⟩:=J hF;refine Wo.od (cW (k:=0) aw rfl rfl (aQ h26) rfl rfl) rfl ?_;obtain⟨r8,h47,hF⟩:=J hF;refine Wo.x (bU rfl rfl (fun m hm=>ju n x3 x4 v6 v7 x17 x18  _ h47 m) fun _=>rfl) gn rfl ?_;rintro⟨⟩;refine Wo.od (ai rfl) rfl<|Wo.nil<|At.tn<|Wk.seq ?_;obtain⟨v10,h48,hF⟩:=J hF;refine Wk.cut (G:=(fun(r:Bool) (g:Unit)=>match r,g with|v10,_=>⟨.normal,[(0,.slice (some ⟨b0,o1,none⟩) l1.length c0),(9,.slice (some ⟨b1,0,none⟩) n0 n0),(10,ptr b3 0),(11,ptr b2 0),(12,.int .i64 v9),(113,.bool v10)],[.ro b0 o1 2 l1.length (l1.map (eP (eI .i64) (eI .i64))),.rd (some ⟨b0,o1,none⟩) c0 2 l1.length (l1.map (eP (eI .i64) (eI .i64))),.arr b1 2 n0 (l2.map (eP (eI .i64) (eI .i64))) t0,.obj b3 (.cells [.int .i64 x3,.int .i64 x4] .own),.obj b2 (.cells [.int .i64 v6,.int .i64 v7] .own)]⟩) v10) ?_ ?_
          ·clear hF;revert v10;intro r hF;refine Wk.draw (by kernel_rfl)<|Wo.od (aq (k:=4) aw rfl rfl rfl) rfl<|Wo.od (aq (k:=3) aw rfl rfl rfl) rfl<|Wo.od (ak rfl rfl (nI o8 (oS _ _ _ _))) rfl<|Wo.od (aa rfl) rfl ?_
           rcases ah hF with⟨h3,hF⟩|⟨h3,hF⟩
           ·refine Wo.s (gg rfl rfl (dg h3)) rfl<|Wo.s (gg rfl rfl (dg h3)) rfl<|Wo.od (cZ rfl h3 rfl) rfl<|Wo.od (aa rfl) rfl<|Wo.s (gg rfl rfl rfl) rfl<|Wo.s (gg rfl rfl rfl) rfl<|Wo.s (gg rfl rfl rfl) rfl<|Wo.s (gu rfl rfl) rfl<|Wo.s (gu rfl rfl) rfl<|Wo.s (gu rfl rfl) rfl ?_;refine Wo.s (gu rfl rfl) rfl<|Wo.s (gu rfl rfl) rfl<|Wo.s (gu rfl rfl) rfl<|Wo.s (gu rfl rfl) rfl<|Wo.s (gu rfl rfl) rfl<|Wo.s (gg rfl rfl rfl) rfl<|Wo.od (eu rfl rfl) rfl<|Wo.nil ?_;cases hF;exact At.en () rfl (sc rfl (sc rfl (sc rfl (sc rfl (sc rfl (sc rfl sn)))))) (ae.U [0,1,2,3,4] rfl rfl)
           ·refine Wo.og (aa rfl) (gg rfl rfl (cY h3)) rfl<|Wo.og (ak rfl rfl (aG _ _ _)) (gg rfl rfl (cY h3)) rfl<|Wo.od (cP rfl h3 rfl) rfl<|Wo.od (aa rfl) rfl ?_;rcases ah hF with⟨h2,hF⟩|⟨h2,hF⟩
            ·refine Wo.s (gg rfl rfl (dg h2)) rfl<|Wo.s (gg rfl rfl (dg h2)) rfl<|Wo.s (gg rfl rfl (dg h2)) rfl<|Wo.s (gu rfl rfl) rfl<|Wo.s (gu rfl rfl) rfl<|Wo.s (gu rfl rfl) rfl<|Wo.s (gu rfl rfl) rfl<|Wo.s (gu rfl rfl) rfl<|Wo.s (gu rfl rfl) rfl<|Wo.s (gu rfl rfl) rfl ?_;refine Wo.s (gu rfl rfl) rfl<|Wo.s (gg rfl rfl (dg h2)) rfl<|Wo.od (cZ rfl h2 rfl) rfl<|Wo.nil ?_;cases hF;exact At.en () rfl (sc rfl (sc rfl (sc rfl (sc rfl (sc rfl (sc rfl sn)))))) (ae.U [0,1,2,3,4] rfl rfl)
            ·refine Wo.og (aa rfl) (gg rfl rfl (cY h2)) rfl<|Wo.og (ak rfl rfl (dy _ _ _)) (gg rfl rfl (cY h2)) rfl<|Wo.og (aa rfl) (gg rfl rfl (cY h2)) rfl ?_;rcases ah hF with⟨h1,hF⟩|⟨h1,hF⟩
             ·refine Wo.og (aq (k:=3) aw rfl rfl rfl) (gg rfl rfl (bP h1)) rfl<|Wo.og (aq (k:=4) aw rfl rfl rfl) (gg rfl rfl (bP h1)) rfl<|Wo.og (aa rfl) (gg rfl rfl (bP h1)) rfl<|Wo.og (aa rfl) (gg rfl rfl (bP h1)) rfl ?_;obtain⟨h27,hF⟩:=al hF;replace h27:=av h27;refine Wo.og (cD dY rfl rfl h27) (gg rfl rfl (bP h1)) rfl<|Wo.og (cW (k:=0) aw rfl rfl (aQ h26) rfl rfl) (gg rfl rfl (bP h1)) rfl ?_;obtain⟨r9,h49,hF⟩:=J hF;refine Wo.x (bU rfl rfl (fun m hm=>AH n x3 x4 v6 v7 x17 x18  _ h49 m) fun _=>rfl) (gg rfl rfl (bP h1)) rfl ?_;rintro⟨⟩;refine Wo.og (ak rfl rfl (bS _ _ _)) (gg rfl rfl (bP h1)) rfl<|Wo.og (cZ rfl h1 rfl) (gg rfl rfl (cY h2)) rfl<|Wo.od (cP rfl h2 rfl) rfl<|Wo.nil ?_;cases hF;exact At.en () rfl (sc rfl (sc rfl (sc rfl (sc rfl (sc rfl (sc rfl sn)))))) (ae.U [0,1,2,3,4] rfl rfl)
             ·refine Wo.s (gg rfl rfl (bQ h1)) rfl<|Wo.s (gg rfl rfl (bQ h1)) rfl<|Wo.s (gg rfl rfl (bQ h1)) rfl<|Wo.s (gg rfl rfl (bQ h1)) rfl<|Wo.s (gg rfl rfl (bQ h1)) rfl<|Wo.s (gg rfl rfl (bQ h1)) rfl<|Wo.s (gg rfl rfl (bQ h1)) rfl<|Wo.s (gg rfl rfl (bQ h1)) rfl<|Wo.og (cP rfl h1 rfl) (gg rfl rfl (cY h2)) rfl<|Wo.od (cP rfl h2 rfl) rfl ?_;refine Wo.nil ?_;cases hF;exact At.en () rfl (sc rfl (sc rfl (sc rfl (sc rfl (sc rfl (sc rfl sn)))))) (ae.U [0,1,2,3,4] rfl rfl)
          ·clear h48;rintro⟨⟩;refine At.tn ?_;rcases ah hF with⟨h28,hF⟩|⟨h28,hF⟩
           ·refine Wk.ay rfl h28<|Wk.region<|Wo.od (aa rfl) rfl<|Wo.od (aa rfl) rfl ?_;obtain⟨h29,hF⟩:=al hF;replace h29:=av h29;refine Wo.og (cD dY rfl rfl h29) gn rfl<|Wo.od (cW (k:=0) aw rfl rfl (aQ h26) rfl rfl) rfl<|Wo.o0 (hY (k:=4) aw rfl rfl rfl rfl rfl)<|Wo.nil<|At.bn ?_;cases hF;exact At.en () rfl (sc rfl (sc rfl (sc rfl (sc rfl (sc rfl sn))))) (ae.U [0,1,2,3,4] rfl rfl)
           ·refine Wk.az rfl h28<|Wk.skip<|At.bn ?_;cases hF;exact At.en () rfl (sc rfl (sc rfl (sc rfl (sc rfl (sc rfl sn))))) (ae.U [0,1,2,3,4] rfl rfl)
         ·clear h46;obtain⟨v17,v18⟩:=r1;rintro⟨⟩;refine At.tn<|Wk.region<|Wo.od (aa rfl) rfl<|Wo.od (ak rfl rfl (aF _ _ _)) rfl<|Wo.od (ai rfl) rfl<|Wo.nil ?_;cases hF;exact At.en () rfl (sc rfl (sc rfl (sc rfl (sc rfl (sc rfl sn))))) (ae.U [0,1,2,3,4] rfl rfl)
        ·refine Wk.az rfl h24<|Wk.exit<|At.te ?_;cases hF;exact At.en () rfl (sc rfl (sc rfl (sc rfl sn))) (ae.U [0,1,2,4] rfl rfl)
       ·clear h23;obtain⟨v2,v3⟩:=r4;rintro⟨⟩;refine At.be<|At.tn<|Wk.seq<|Wk.seq<|Wk.draw (by kernel_rfl)<|Wo.od (aq (k:=3) aw rfl rfl rfl) rfl<|Wo.od (aa rfl) rfl ?_
        obtain⟨h30,hF⟩:=al hF;replace h30:=av h30;refine Wo.og (eh je rfl rfl h30) gn rfl ?_;obtain⟨⟨x28,x29⟩,h50,hF⟩:=J hF;refine Wo.od (fP (k:=2) aw rfl rfl (aQ h50) rfl rfl) rfl<|Wo.od (ak rfl rfl (nI o8 (oS _ _ _ _))) rfl<|Wo.nil<|At.tn ?_;rcases ah hF with⟨h31,hF⟩|⟨h31,hF⟩
        ·refine Wk.ay rfl h31<|Wk.exit<|At.te<|At.bx rfl ?_;cases hF;exact At.en (some ⟨b1,0,none⟩) rfl (sc rfl sn) (ae.trans (ae.close (k:=2) rfl) (ae.U [2] rfl rfl))
        ·refine Wk.az rfl h31<|Wk.skip<|At.tn<|Wk.region<|Wo.od (aa rfl) rfl<|Wo.od (aq (k:=3) aw rfl rfl rfl) rfl<|Wo.x (js (es:=([(v2,v3)]:List (Int × Int)).map (eP (eI .i64) (eI .i64))) je rfl (jj je z33 rfl rfl) rfl rfl) gn rfl fun b7=>?_;obtain⟨h51,hF⟩:=al hF;refine Wo.gN (ae.close (k:=3) rfl)<|Wo.x (iZ (k:=3) (k2:=0) (xs:=(l2:List (Int × Int))) (ys:=([(v2,v3)]:List (Int × Int))) (sK (iM .i64) (iM .i64)) je ⟨_,w7⟩ rfl rfl rfl (.arr _ _ _ _ _) h51) gn rfl fun a3=>?_;refine Wo.od (ai rfl) rfl<|Wo.nil<|At.bn ?_;cases hF;exact At.en a3 rfl (sc rfl (sc rfl sn)) (ae.U [1,2,3] rfl rfl)
      ·clear h22;obtain⟨l3,n1⟩:=r3;rintro a1;refine At.be<|At.tn<|Wk.seq<|Wk.seq<|Wk.region<|Wo.od (aa rfl) rfl<|Wo.od (dK (k:=0) w7 rfl rfl (.inl rfl)) rfl<|Wo.od (ak rfl rfl (bS _ _ _)) rfl<|Wo.nil<|At.tn ?_;rcases ah hF with⟨h32,hF⟩|⟨h32,hF⟩
       ·refine Wk.ay rfl h32<|Wk.seq<|Wk.region<|Wo.od (ai rfl) rfl<|Wo.od (ai rfl) rfl<|Wo.nil<|At.tn<|Wk.ret<|At.tr ?_;cases hF;exact At.ret (.tmp rfl (.tmp rfl .nil)) fun m' hm=>⟨(none,0),rfl,(ae.trans (ae.nil 2 rfl) (ae.U [0] rfl rfl)) m' hm⟩
       ·refine Wk.az rfl h32<|Wk.skip<|At.tn<|Wk.seq<|Wk.region<|Wo.od (aa rfl) rfl<|Wo.od (ai rfl) rfl<|Wo.od (ai rfl) rfl<|Wo.nil<|At.tn<|Wk.ret ?_;cases hF;exact At.ret (.tmp rfl (.tmp rfl .nil)) fun m' hm=>⟨(a1,n1),rfl,(ae.U [0] rfl rfl) m' hm⟩
theorem Gv (n:Nat) (l1:List (Int × Int)) (l5:List (Int × Int)) (a2:Option Addr) (c3:Nat) (a6:Option Addr) (c7:Nat) (r:Bool) (hF:GL n l1 l5=some r) (m:AMem) (h4:Rd m a2 c3 2 l1.length (l1.map (eP (eI .i64) (eI .i64)))) (h8:Rd m a6 c7 2 l5.length (l5.map (eP (eI .i64) (eI .i64)))) :
  aL aT 15 [.slice a2 l1.length c3,.slice a6 l5.length c7] m (fun v m'=>∃_:Unit,v = .bool r∧Hp m m' []):=by
 unfold GL at hF;refine aN (m0:=m) (ps:=[.rd a6 c7 2 l5.length (l5.map (eP (eI .i64) (eI .i64))),.rd a2 c3 2 l1.length (l1.map (eP (eI .i64) (eI .i64)))]) (N:=26) (rs:=[.tmp 4]) rfl Tryz.func15 rfl rfl rfl (((Hp.start m).uU rfl h4).uU rfl h8)<|Wk.seq<|Wk.region<|Wo.od (ai rfl) rfl<|Wo.nil<|At.tn<|Wk.seq<|Wk.seq<|Wk.region<|Wo.od (aa rfl) rfl<|Wo.od (dK (k:=1) w7 rfl rfl (.inl rfl)) rfl<|Wo.od (aa rfl) rfl<|Wo.od (dK (k:=0) w7 rfl rfl (.inl rfl)) rfl<|Wo.od (ak rfl rfl (eJ _ _)) rfl<|Wo.nil<|At.tn ?_;rcases ah hF with⟨h9,hF⟩|⟨h9,hF⟩
 ·refine Wk.ay rfl h9<|Wk.seq<|Wk.region<|Wo.od (ai rfl) rfl<|Wo.nil<|At.tn<|Wk.ret<|At.tr ?_;cases hF;exact At.ret (.tmp rfl .nil) fun m' hm=>⟨(),rfl,(ae.U [] rfl rfl) m' hm⟩
 ·refine Wk.az rfl h9<|Wk.skip<|At.tn<|Wk.seq<|Wk.seq<|Wk.region<|Wo.od (ai rfl) rfl<|Wo.nil<|At.tn<|Wk.block ?_;obtain⟨r42,h41,hF⟩:=J hF;refine Wk.cut (G:=(fun(r:(Unit) ⊕ (Unit)) (g:Unit)=>match r,g with | .inl _,_=>⟨.ret,[(4,.bool false)],[]⟩ | .inr _,_=>⟨(.exit 0),[],[]⟩) r42) ?_ ?_
  ·refine Wk.dz (fs':=[(0,.slice a2 l1.length c3),(1,.slice a6 l5.length c7),(5,.int .i64 0)]) (ps':=[.rd a2 c3 2 l1.length (l1.map (eP (eI .i64) (eI .i64))),.rd a6 c7 2 l5.length (l5.map (eP (eI .i64) (eI .i64)))]) (sc rfl (sc rfl (sc rfl sn))) (ae.U [1,0] rfl rfl) ?_;refine Wk.loop (σ:=Int) (ρ:=(Unit) ⊕ (Unit)) (γ:=Unit) (δ:=fun _=>Unit) _ (fun(s:Int) (g:Unit)=>match s,g with|v11,_=>⟨.normal,[(0,.slice a2 l1.length c3),(1,.slice a6 l5.length c7),(5,.int .i64 v11)],[.rd a2 c3 2 l1.length (l1.map (eP (eI .i64) (eI .i64))),.rd a6 c7 2 l5.length (l5.map (eP (eI .i64) (eI .i64)))]⟩) (fun(r:(Unit) ⊕ (Unit)) (g:Unit)=>match r,g with | .inl _,_=>⟨.ret,[(4,.bool false)],[]⟩ | .inr _,_=>⟨(.exit 0),[],[]⟩) ?_ (fun _ _=>rfl) (fun r d=>by rcases r with _|_<;>(intro e; cases e)) _ _ _ h41 ()
   clear hF h41;rintro v11 ⟨⟩ r hF;unfold uB at hF;refine Wk.seq<|Wk.seq<|Wk.region<|Wo.od (aa rfl) rfl<|Wo.od (aa rfl) rfl<|Wo.od (dK (k:=0) w7 rfl rfl (.inl rfl)) rfl<|Wo.od (ak rfl rfl (aG _ _ _)) rfl<|Wo.nil<|At.tn ?_;rcases ah hF with⟨h27,hF⟩|⟨h27,hF⟩
   ·refine Wk.ay rfl h27<|Wk.skip<|At.tn<|Wk.seq<|Wk.block<|Wk.seq<|Wk.draw (by kernel_rfl)<|Wo.od (aa rfl) rfl<|Wo.od (aa rfl) rfl ?_
    obtain⟨h28,hF⟩:=al hF;replace h28:=av h28;refine Wo.ey (k:=0) rfl (bV h28) ?_;rintro b29 o30 rfl;refine Wo.og (cD je rfl rfl h28) gn rfl ?_;obtain⟨⟨x31,x32⟩,h33,hF⟩:=J hF;refine Wo.od (cW (k:=0) aw rfl rfl (aQ h33) rfl rfl) rfl<|Wo.od (aa rfl) rfl<|Wo.od (aa rfl) rfl ?_;obtain⟨h34,hF⟩:=al hF;replace h34:=av h34;refine Wo.ey (k:=2) rfl (bV h34) ?_;rintro b35 o36 rfl;refine Wo.og (cD je rfl rfl h34) gn rfl ?_;obtain⟨⟨x37,x38⟩,h39,hF⟩:=J hF;refine Wo.od (cW (k:=0) aw rfl rfl (aQ h39) rfl rfl) rfl<|Wo.od (ak rfl rfl (Ba o8 (oS _ _ _ _))) rfl<|Wo.nil<|At.tn ?_;rcases ah hF with⟨h40,hF⟩|⟨h40,hF⟩
    ·refine Wk.ay rfl h40<|Wk.seq<|Wk.region<|Wo.od (ai rfl) rfl<|Wo.nil<|At.tn<|Wk.ret<|At.br<|At.tr ?_;cases hF;exact At.en () rfl (sc rfl sn) (ae.U [] rfl rfl)
    ·refine Wk.az rfl h40<|Wk.skip<|At.bn<|At.tn<|Wk.region<|Wo.od (aa rfl) rfl<|Wo.od (ak rfl rfl (aF _ _ _)) rfl<|Wo.od (ai rfl) rfl<|Wo.nil ?_;cases hF;exact At.en () rfl (sc rfl (sc rfl (sc rfl sn))) (ae.U [2,3] rfl rfl)
   ·refine Wk.az rfl h27<|Wk.exit<|At.te ?_;cases hF;exact At.en () rfl sn (ae.U [] rfl rfl)
  ·clear h41;rcases r42 with _|_
   ·rintro⟨⟩;refine At.br<|At.tr ?_;cases hF;exact At.ret (.tmp rfl .nil) fun m' hm=>⟨(),rfl,(ae.U [] rfl rfl) m' hm⟩
   ·rintro⟨⟩;refine At.be<|At.tn<|Wk.seq<|Wk.region<|Wo.od (ai rfl) rfl<|Wo.nil<|At.tn<|Wk.ret ?_;cases hF;exact At.ret (.tmp rfl .nil) fun m' hm=>⟨(),rfl,(ae.U [] rfl rfl) m' hm⟩
theorem xj (n:Nat) (l1:List (Int)) (a2:Option Addr) (c3:Nat) (r:Int) (hF:FF n l1=some r) (m:AMem) (h4:Rd m a2 c3 1 l1.length (l1.map (eI .i64))) :
  aL aT 82 [.slice a2 l1.length c3] m (fun v m'=>∃_:Unit,v = .int .i64 r∧Hp m m' []):=by
 unfold FF at hF;refine aN (m0:=m) (ps:=[.rd a2 c3 1 l1.length (l1.map (eI .i64))]) (N:=18) (rs:=[.tmp 2]) rfl Tryz.func82 rfl rfl rfl ((Hp.start m).uU rfl h4)<|Wk.seq<|Wk.region<|Wo.od (ai rfl) rfl<|Wo.nil<|At.tn<|Wk.seq<|Wk.region<|Wo.od (ai rfl) rfl<|Wo.nil<|At.tn<|Wk.seq<|Wk.seq<|Wk.region<|Wo.od (aa rfl) rfl<|Wo.od (dK (k:=0) F7 rfl rfl (.inl rfl)) rfl<|Wo.od (aa rfl) rfl<|Wo.nil<|At.tn<|Wk.block ?_;obtain⟨r24,h23,hF⟩:=J hF;refine Wk.cut (G:=(fun(r:(Int) ⊕ (Unit)) (g:Unit)=>match r,g with | .inl v15,_=>⟨.ret,[(2,.int .i64 v15)],[]⟩ | .inr _,_=>⟨(.exit 0),[(3,.int .i64 0)],[]⟩) r24) ?_ ?_
 ·refine Wk.dz (fs':=[(3,.int .i64 0),(6,.slice a2 l1.length c3),(7,.int .i64 (l1.length:Int)),(8,.int .i64 0)]) (ps':=[.rd a2 c3 1 l1.length (l1.map (eI .i64))]) (sc rfl (sc rfl (sc rfl (sc rfl sn)))) (ae.U [0] rfl rfl) ?_;refine Wk.loop (σ:=Int) (ρ:=(Int) ⊕ (Unit)) (γ:=Unit) (δ:=fun _=>Unit) _ (fun(s:Int) (g:Unit)=>match s,g with|v6,_=>⟨.normal,[(3,.int .i64 0),(6,.slice a2 l1.length c3),(7,.int .i64 (l1.length:Int)),(8,.int .i64 v6)],[.rd a2 c3 1 l1.length (l1.map (eI .i64))]⟩) (fun(r:(Int) ⊕ (Unit)) (g:Unit)=>match r,g with | .inl v15,_=>⟨.ret,[(2,.int .i64 v15)],[]⟩ | .inr _,_=>⟨(.exit 0),[(3,.int .i64 0)],[]⟩) ?_ (fun _ _=>rfl) (fun r d=>by rcases r with _|_<;>(intro e; cases e)) _ _ _ h23 ()
  clear hF h23;rintro v6 ⟨⟩ r hF;unfold lj at hF;refine Wk.seq<|Wk.region<|Wo.od (ak rfl rfl (aG _ _ _)) rfl<|Wo.nil<|At.tn<|Wk.seq ?_;rcases ah hF with⟨h16,hF⟩|⟨h16,hF⟩
  ·refine Wk.ay rfl h16<|Wk.skip<|At.tn<|Wk.seq<|Wk.block<|Wk.seq<|Wk.region ?_;obtain⟨h17,hF⟩:=al hF;replace h17:=av h17;refine Wo.ey (k:=0) rfl (bV h17) ?_;rintro b18 o19 rfl;refine Wo.og (cD vS rfl rfl h17) gn rfl ?_;obtain⟨x20,h21,hF⟩:=J hF;refine Wo.od (cW (k:=0) cQ rfl rfl (aQ h21) rfl rfl) rfl<|Wo.od (ai rfl) rfl<|Wo.nil<|At.tn<|Wk.seq<|Wk.region<|Wo.od (aa rfl) rfl<|Wo.od (aa rfl) rfl<|Wo.od (ak rfl rfl (eJ _ _)) rfl<|Wo.nil<|At.tn ?_;rcases ah hF with⟨h22,hF⟩|⟨h22,hF⟩
   ·refine Wk.ay rfl h22<|Wk.seq<|Wk.region<|Wo.od (aa rfl) rfl<|Wo.od (ai rfl) rfl<|Wo.nil<|At.tn<|Wk.ret<|At.br<|At.tr ?_;cases hF;exact At.en () rfl (sc rfl sn) (ae.U [] rfl rfl)
   ·refine Wk.az rfl h22<|Wk.skip<|At.bn<|At.tn<|Wk.region<|Wo.od (ak rfl rfl (aF _ _ _)) rfl<|Wo.od (aa rfl) rfl<|Wo.nil ?_;cases hF;exact At.en () rfl (sc rfl (sc rfl (sc rfl (sc rfl sn)))) (ae.U [1] rfl rfl)
  ·refine Wk.az rfl h16<|Wk.exit<|At.te ?_;cases hF;exact At.en () rfl (sc rfl sn) (ae.U [] rfl rfl)
 ·clear h23;rcases r24 with v15|_
  ·rintro⟨⟩;refine At.br<|At.tr ?_;have hr:=Option.some.inj hF;subst r;exact At.ret (.tmp rfl .nil) fun m' hm=>⟨(),rfl,(ae.U [] rfl rfl) m' hm⟩
  ·rintro⟨⟩;refine At.be<|At.tn<|Wk.seq<|Wk.region<|Wo.od (aa rfl) rfl<|Wo.od (ai rfl) rfl<|Wo.nil<|At.tn<|Wk.ret ?_;cases hF;exact At.ret (.tmp rfl .nil) fun m' hm=>⟨(),rfl,(ae.U [] rfl rfl) m' hm⟩
theorem pS (n:Nat) (x1:Int) (x2:Int) (x3:Int) (x4:Int)  (r:Int) (hF:Ak n x1 x2 x3 x4=some r) (m:AMem)  :
  aL aT 52 [.agg #[.int .i64 x1,.int .i64 x2],.agg #[.int .i64 x3,.int .i64 x4]] m (fun v m'=>∃_:Unit,v = .int .i64 r∧Hp m m' []):=by
 unfold Ak at hF;refine aN (m0:=m) (ps:=[]) (N:=17) (rs:=[.tmp 4]) rfl Tryz.func52 rfl rfl rfl (Hp.start m)<|Wk.seq<|Wk.region<|Wo.x (cL rfl) gn rfl fun b5=>?_;refine Wo.x (cL rfl) gn rfl fun b6=>?_;refine Wo.od (ai rfl) rfl<|Wo.nil<|At.tn<|Wk.seq<|Wk.j4 (prs:=[(4,6),(4,8)]) (by kernel_rfl)<|Wn.od (aI (r:=ptr b5 0) rfl (aZ _ _)) rfl<|Wn.od (aq (k:=1) cQ rfl rfl rfl) rfl<|Wn.od (aI (r:=ptr b6 0) rfl (aZ _ _)) rfl<|Wn.od (aq (k:=0) cQ rfl rfl rfl) rfl ?_
 obtain⟨r8,h7,hF⟩:=J hF;refine Wn.c (fo rfl rfl (fun m hm=>mQ n x1 x3  _ h7 m) fun _=>rfl) gn rfl ?_;rintro⟨⟩;refine Wn.od (aI (r:=ptr b5 1) rfl (bm _ _)) rfl<|Wn.od (aq (k:=1) cQ rfl rfl rfl) rfl<|Wn.od (aI (r:=ptr b6 1) rfl (bm _ _)) rfl<|Wn.od (aq (k:=0) cQ rfl rfl rfl) rfl ?_;obtain⟨r10,h9,hF⟩:=J hF;refine Wn.c (fo rfl rfl (fun m hm=>mQ n x2 x4  _ h9 m) fun _=>rfl) gn rfl ?_;rintro⟨⟩;refine Wn.x (js (es:=([r8,r10]:List (Int)).map (eI .i64)) vS rfl (jj vS z3 rfl rfl) rfl rfl) gn rfl fun b11=>?_;obtain⟨r13,h12,hF⟩:=J hF;refine Wn.c (fo rfl rfl (fun m hm=>xj n ([r8,r10]) (some ⟨b11,0,none⟩) 2 _ h12 m (hm.rd (k:=0) rfl (.arr _ _ _ _ _))) fun _=>rfl) gn rfl ?_;rintro⟨⟩;refine Wn.od (ai rfl) rfl<|Wn.nil (fun m hm=>jq.all rfl)<|At.tn<|Wk.ret ?_;have hr:=Option.some.inj hF;subst r;exact At.ret (.tmp rfl .nil) fun m' hm=>⟨(),rfl,(ae.U [] rfl rfl) m' hm⟩
theorem AZ (n:Nat) (x1:Int) (x2:Int) (x3:Int) (x4:Int) (x5:Int) (x6:Int) (x7:Int)  (r:Bool) (hF:yp n x1 x2 x3 x4 x5 x6 x7=some r) (m:AMem)  :
  aL aT 64 [.agg #[.int .i64 x1,.int .i64 x2,.int .i64 x3,.int .i64 x4,.int .i64 x5],.agg #[.int .i64 x6,.int .i64 x7]] m (fun v m'=>∃_:Unit,v = .bool r∧Hp m m' []):=by
 unfold yp at hF;refine aN (m0:=m) (ps:=[]) (N:=34) (rs:=[.tmp 4]) rfl Tryz.func64 rfl rfl rfl (Hp.start m)<|Wk.seq<|Wk.region<|Wo.x (cL rfl) gn rfl fun b8=>?_;refine Wo.x (cL rfl) gn rfl fun b9=>?_;refine Wo.od (ai rfl) rfl<|Wo.nil<|At.tn<|Wk.seq<|Wk.seq<|Wk.region<|Wo.od (aI (r:=ptr b8 1) rfl (gI _ _)) rfl<|Wo.od (aq (k:=1) aw rfl rfl rfl) rfl<|Wo.od (aI (r:=ptr b8 3) rfl (gD _ _)) rfl<|Wo.od (aq (k:=1) aw rfl rfl rfl) rfl<|Wo.od (aq (k:=0) aw rfl rfl rfl) rfl ?_;obtain⟨r11,h10,hF⟩:=J hF;refine Wo.x (bU rfl rfl (fun m hm=>kq n x2 x3 x4 x5 x6 x7  _ h10 m) fun _=>rfl) gn rfl ?_;rintro⟨⟩;refine Wo.od (ak rfl rfl (eJ _ _)) rfl<|Wo.nil<|At.tn ?_;rcases ah hF with⟨h12,hF⟩|⟨h12,hF⟩
 ·refine Wk.ay rfl h12<|Wk.seq<|Wk.region<|Wo.od (ai rfl) rfl<|Wo.nil<|At.tn<|Wk.ret<|At.tr ?_;cases hF;exact At.ret (.tmp rfl .nil) fun m' hm=>⟨(),rfl,(ae.U [] rfl rfl) m' hm⟩
 ·refine Wk.az rfl h12<|Wk.skip<|At.tn<|Wk.seq<|Wk.j4 (prs:=[(3,6)]) (by kernel_rfl)<|Wn.od (aI (r:=ptr b8 1) rfl (gI _ _)) rfl<|Wn.od (aq (k:=1) aw rfl rfl rfl) rfl<|Wn.od (aI (r:=ptr b8 3) rfl (gD _ _)) rfl<|Wn.Jy rfl (aq (k:=1) aw rfl rfl rfl) rfl<|Wn.x (jm z33 rfl) gn rfl fun b13=>?_
  refine Wn.x (jm z33 rfl) gn rfl fun b14=>?_;refine Wn.JE rfl (hY (k:=1) aw rfl rfl rfl rfl rfl)<|Wn.o0 (hY (k:=0) aw rfl rfl rfl rfl rfl)<|Wn.nil (fun m hm=>(jq.rw rfl rfl rfl (hm.ne (i:=3) (j:=1) rfl rfl rfl rfl (by decide) rfl) jq.nil))<|At.tn<|Wk.seq ?_
  obtain⟨r26,h25,hF⟩:=J hF;refine Wk.cut (G:=(fun(r:Int × Int × Int × Int) (g:Unit)=>match r,g with | (v18,v19,v20,v21),_=>⟨.normal,[(3,ptr b9 0),(5,ptr b13 0),(6,ptr b14 0)],[.obj b9 (.cells [.int .i64 x6,.int .i64 x7] .own),.obj b13 (.cells [.int .i64 v18,.int .i64 v19] .own),.obj b14 (.cells [.int .i64 v20,.int .i64 v21] .own)]⟩) r26) ?_ ?_
  ·clear hF;revert r26;intro r hF;refine Wk.seq<|Wk.region<|Wo.od (aq (k:=1) aw rfl rfl rfl) rfl<|Wo.od (aq (k:=0) aw rfl rfl rfl) rfl ?_;obtain⟨r23,h22,hF⟩:=J hF;refine Wo.x (bU rfl rfl (fun m hm=>pS n x2 x3 x4 x5  _ h22 m) fun _=>rfl) gn rfl ?_;rintro⟨⟩;refine Wo.od (ak rfl rfl (bS _ _ _)) rfl<|Wo.nil<|At.tn ?_;rcases ah hF with⟨h24,hF⟩|⟨h24,hF⟩
   ·refine Wk.ay rfl h24<|Wk.region<|Wo.od (aq (k:=0) aw rfl rfl rfl) rfl<|Wo.od (aq (k:=1) aw rfl rfl rfl) rfl<|Wo.o0 (hY (k:=1) aw rfl rfl rfl rfl rfl)<|Wo.o0 (hY (k:=0) aw rfl rfl rfl rfl rfl)<|Wo.nil ?_;cases hF;exact At.en () rfl (sc rfl (sc rfl (sc rfl sn))) (ae.U [2,1,0] rfl rfl)
   ·refine Wk.az rfl h24<|Wk.skip ?_;cases hF;exact At.en () rfl (sc rfl (sc rfl (sc rfl sn))) (ae.U [2,1,0] rfl rfl)
  ·clear h25;obtain⟨v18,v19,v20,v21⟩:=r26;rintro⟨⟩;refine At.tn<|Wk.seq<|Wk.region<|Wo.od (aq (k:=1) aw rfl rfl rfl) rfl<|Wo.od (aq (k:=0) aw rfl rfl rfl) rfl ?_;obtain⟨r28,h27,hF⟩:=J hF;refine Wo.x (bU rfl rfl (fun m hm=>pS n v18 v19 x6 x7  _ h27 m) fun _=>rfl) gn rfl ?_;rintro⟨⟩;refine Wo.od (ak rfl rfl (fj _ _ _)) rfl<|Wo.od (aa rfl) rfl ?_;rcases ah hF with⟨h29,hF⟩|⟨h29,hF⟩
   ·refine Wo.og (aq (k:=0) aw rfl rfl rfl) (gg rfl rfl (bP h29)) rfl<|Wo.og (aq (k:=2) aw rfl rfl rfl) (gg rfl rfl (bP h29)) rfl ?_;obtain⟨r31,h30,hF⟩:=J hF;refine Wo.x (bU rfl rfl (fun m hm=>pS n x6 x7 v20 v21  _ h30 m) fun _=>rfl) (gg rfl rfl (bP h29)) rfl ?_;rintro⟨⟩;refine Wo.og (ak rfl rfl (fj _ _ _)) (gg rfl rfl (bP h29)) rfl<|Wo.od (cZ rfl h29 rfl) rfl<|Wo.od (ai rfl) rfl<|Wo.nil<|At.tn<|Wk.ret ?_;cases hF;exact At.ret (.tmp rfl .nil) fun m' hm=>⟨(),rfl,(ae.U [] rfl rfl) m' hm⟩
   ·refine Wo.s (gg rfl rfl (bQ h29)) rfl<|Wo.s (gg rfl rfl (bQ h29)) rfl<|Wo.s (gg rfl rfl (bQ h29)) rfl<|Wo.s (gg rfl rfl (bQ h29)) rfl<|Wo.od (cP rfl h29 rfl) rfl<|Wo.od (ai rfl) rfl<|Wo.nil<|At.tn<|Wk.ret ?_;cases hF;exact At.ret (.tmp rfl .nil) fun m' hm=>⟨(),rfl,(ae.U [] rfl rfl) m' hm⟩
theorem FG (n:Nat) (x1:Int) (x2:Int) (x3:Int) (x4:Int) (x5:Int) (x6:Int) (x7:Int) (x8:Int) (x9:Int) (x10:Int)  (r:Int) (hF:GS n x1 x2 x3 x4 x5 x6 x7 x8 x9 x10=some r) (m:AMem)  :
  aL aT 61 [.agg #[.int .i64 x1,.int .i64 x2,.int .i64 x3,.int .i64 x4,.int .i64 x5],.agg #[.int .i64 x6,.int .i64 x7,.int .i64 x8,.int .i64 x9,.int .i64 x10]] m (fun v m'=>∃_:Unit,v = .int .i64 r∧Hp m m' []):=by
 unfold GS at hF;refine aN (m0:=m) (ps:=[]) (N:=83) (rs:=[.tmp 4]) rfl Tryz.func61 rfl rfl rfl (Hp.start m)<|Wk.seq<|Wk.region<|Wo.x (cL rfl) gn rfl fun b0=>?_;refine Wo.x (cL rfl) gn rfl fun b1=>?_;refine Wo.od (ai rfl) rfl<|Wo.nil<|At.tn<|Wk.seq<|Wk.j4 (prs:=[(6,8),(6,10),(6,12)]) (by kernel_rfl)<|Wn.od (aI (r:=ptr b0 1) rfl (gI _ _)) rfl<|Wn.od (aq (k:=1) aw rfl rfl rfl) rfl<|Wn.od (aI (r:=ptr b0 3) rfl (gD _ _)) rfl<|Wn.od (aq (k:=1) aw rfl rfl rfl) rfl<|Wn.od (aI (r:=ptr b1 1) rfl (gI _ _)) rfl<|Wn.od (aq (k:=0) aw rfl rfl rfl) rfl ?_
 obtain⟨r0,h12,hF⟩:=J hF;refine Wn.c (fo rfl rfl (fun m hm=>kq n x2 x3 x4 x5 x7 x8  _ h12 m) fun _=>rfl) gn rfl ?_;rintro⟨⟩;refine Wn.od (aI (r:=ptr b0 1) rfl (gI _ _)) rfl<|Wn.od (aq (k:=1) aw rfl rfl rfl) rfl<|Wn.od (aI (r:=ptr b0 3) rfl (gD _ _)) rfl<|Wn.od (aq (k:=1) aw rfl rfl rfl) rfl<|Wn.od (aI (r:=ptr b1 3) rfl (gD _ _)) rfl<|Wn.od (aq (k:=0) aw rfl rfl rfl) rfl ?_;obtain⟨r1,h13,hF⟩:=J hF;refine Wn.c (fo rfl rfl (fun m hm=>kq n x2 x3 x4 x5 x9 x10  _ h13 m) fun _=>rfl) gn rfl ?_;rintro⟨⟩;refine Wn.od (ai rfl) rfl<|Wn.od (ai rfl) rfl<|Wn.nil (fun m hm=>jq.all rfl)<|At.tn<|Wk.seq<|Wk.j4 (prs:=[(6,8),(6,10),(6,12)]) (by kernel_rfl)<|Wn.od (aI (r:=ptr b1 1) rfl (gI _ _)) rfl<|Wn.od (aq (k:=0) aw rfl rfl rfl) rfl<|Wn.od (aI (r:=ptr b1 3) rfl (gD _ _)) rfl<|Wn.od (aq (k:=0) aw rfl rfl rfl) rfl<|Wn.od (aI (r:=ptr b0 1) rfl (gI _ _)) rfl<|Wn.od (aq (k:=1) aw rfl rfl rfl) rfl ?_
 obtain⟨r2,h14,hF⟩:=J hF;refine Wn.c (fo rfl rfl (fun m hm=>kq n x7 x8 x9 x10 x2 x3  _ h14 m) fun _=>rfl) gn rfl ?_;rintro⟨⟩;refine Wn.od (aI (r:=ptr b1 1) rfl (gI _ _)) rfl<|Wn.od (aq (k:=0) aw rfl rfl rfl) rfl<|Wn.od (aI (r:=ptr b1 3) rfl (gD _ _)) rfl<|Wn.od (aq (k:=0) aw rfl rfl rfl) rfl<|Wn.od (aI (r:=ptr b0 3) rfl (gD _ _)) rfl<|Wn.od (aq (k:=1) aw rfl rfl rfl) rfl ?_;obtain⟨r3,h15,hF⟩:=J hF;refine Wn.c (fo rfl rfl (fun m hm=>kq n x7 x8 x9 x10 x4 x5  _ h15 m) fun _=>rfl) gn rfl ?_;rintro⟨⟩;refine Wn.od (ai rfl) rfl<|Wn.od (ai rfl) rfl<|Wn.nil (fun m hm=>jq.all rfl)<|At.tn<|Wk.seq<|Wk.region<|Wo.x Jb gn rfl fun b2=>?_;refine Wo.od (ai rfl) rfl<|Wo.nil<|At.tn<|Wk.seq<|Wk.seq<|Wk.region<|Wo.od (aI (r:=ptr b0 1) rfl (gI _ _)) rfl<|Wo.od (aq (k:=2) aw rfl rfl rfl) rfl<|Wo.od (aI (r:=ptr b0 3) rfl (gD _ _)) rfl<|Wo.od (aq (k:=2) aw rfl rfl rfl) rfl<|Wo.od (aI (r:=ptr b1 1) rfl (gI _ _)) rfl<|Wo.od (aq (k:=1) aw rfl rfl rfl) rfl<|Wo.od (aI (r:=ptr b1 3) rfl (gD _ _)) rfl<|Wo.od (aq (k:=1) aw rfl rfl rfl) rfl<|Wo.od (eD rfl z41 rfl (eF I3 rfl rfl rfl)) rfl ?_;refine Wo.od (aa rfl) rfl<|Wo.nil<|At.tn<|Wk.block ?_;obtain⟨l2,h3,hF⟩:=J hF;refine Wk.cut (G:=(fun(r:List ((Int × Int) × Bool)) (g:Unit)=>match r,g with|l2,_=>⟨(.exit 0),[(5,.int .i64 r0),(6,.int .i64 r1),(7,.int .i64 r2),(8,.int .i64 r3),(9,.map (some b2))],[.obj b2 (.map (l2.map (eM (fun p:Int × Int=>.agg #[.int .i64 p.1,.int .i64 p.2]) (fun b:Bool=>.bool b))))]⟩) l2) ?_ ?_
 ·refine Wk.dz (fs':=[(2,ptr b0 0),(3,ptr b1 0),(5,.int .i64 r0),(6,.int .i64 r1),(7,.int .i64 r2),(8,.int .i64 r3),(9,.map (some b2)),(49,.agg #[.int .i64 x2,.int .i64 x3,.int .i64 x4,.int .i64 x5,.int .i64 x7,.int .i64 x8,.int .i64 x9,.int .i64 x10]),(50,.int .i64 0)]) (ps':=[.obj b0 (.cells [.int .i64 x1,.int .i64 x2,.int .i64 x3,.int .i64 x4,.int .i64 x5] .own),.obj b1 (.cells [.int .i64 x6,.int .i64 x7,.int .i64 x8,.int .i64 x9,.int .i64 x10] .own),.obj b2 (.map (([]:List ((Int × Int) × Bool)).map (eM (fun p:Int × Int=>.agg #[.int .i64 p.1,.int .i64 p.2]) (fun b:Bool=>.bool b))))]) (sc rfl (sc rfl (sc rfl (sc rfl (sc rfl (sc rfl (sc rfl (sc rfl (sc rfl sn))))))))) (ae.U [2,1,0] rfl rfl) ?_;refine Wk.loop (σ:=List ((Int × Int) × Bool) × Int) (ρ:=List ((Int × Int) × Bool)) (γ:=Unit) (δ:=fun _=>Unit) _ (fun(s:List ((Int × Int) × Bool) × Int) (g:Unit)=>match s,g with | (l3,v0),_=>⟨.normal,[(2,ptr b0 0),(3,ptr b1 0),(5,.int .i64 r0),(6,.int .i64 r1),(7,.int .i64 r2),(8,.int .i64 r3),(9,.map (some b2)),(49,.agg #[.int .i64 x2,.int .i64 x3,.int .i64 x4,.int .i64 x5,.int .i64 x7,.int .i64 x8,.int .i64 x9,.int .i64 x10]),(50,.int .i64 v0)],[.obj b0 (.cells [.int .i64 x1,.int .i64 x2,.int .i64 x3,.int .i64 x4,.int .i64 x5] .own),.obj b1 (.cells [.int .i64 x6,.int .i64 x7,.int .i64 x8,.int .i64 x9,.int .i64 x10] .own),.obj b2 (.map (l3.map (eM (fun p:Int × Int=>.agg #[.int .i64 p.1,.int .i64 p.2]) (fun b:Bool=>.bool b))))]⟩) (fun(r:List ((Int × Int) × Bool)) (g:Unit)=>match r,g with|l2,_=>⟨(.exit 0),[(5,.int .i64 r0),(6,.int .i64 r1),(7,.int .i64 r2),(8,.int .i64 r3),(9,.map (some b2))],[.obj b2 (.map (l2.map (eM (fun p:Int × Int=>.agg #[.int .i64 p.1,.int .i64 p.2]) (fun b:Bool=>.bool b))))]⟩) ?_ (fun _ _=>rfl) (fun r d=>by intro e; cases e) _ _ _ h3 ()
  clear hF h3;rintro⟨l3,v0⟩ ⟨⟩ r hF;unfold nb at hF;refine Wk.seq<|Wk.region<|Wo.od (ak rfl rfl (aG _ _ _)) rfl<|Wo.nil<|At.tn<|Wk.seq ?_;rcases ah hF with⟨h4,hF⟩|⟨h4,hF⟩
  ·refine Wk.ay rfl h4<|Wk.skip<|At.tn<|Wk.seq ?_;obtain⟨l4,h16,hF⟩:=J hF;refine Wk.cut (G:=(fun(r:List ((Int × Int) × Bool)) (g:Unit)=>match r,g with|l4,_=>⟨.normal,[(2,ptr b0 0),(3,ptr b1 0),(5,.int .i64 r0),(6,.int .i64 r1),(7,.int .i64 r2),(8,.int .i64 r3),(9,.map (some b2)),(49,.agg #[.int .i64 x2,.int .i64 x3,.int .i64 x4,.int .i64 x5,.int .i64 x7,.int .i64 x8,.int .i64 x9,.int .i64 x10]),(50,.int .i64 v0)],[.obj b0 (.cells [.int .i64 x1,.int .i64 x2,.int .i64 x3,.int .i64 x4,.int .i64 x5] .own),.obj b1 (.cells [.int .i64 x6,.int .i64 x7,.int .i64 x8,.int .i64 x9,.int .i64 x10] .own),.obj b2 (.map (l4.map (eM (fun p:Int × Int=>.agg #[.int .i64 p.1,.int .i64 p.2]) (fun b:Bool=>.bool b))))]⟩) l4) ?_ ?_
   ·clear hF;revert l4;intro r hF;refine Wk.block<|Wk.seq<|Wk.region ?_;obtain⟨h17,hF⟩:=al hF;obtain⟨⟨x11,x12⟩,h0,hF⟩:=J hF;refine Wo.x (B4 (α:=Unit) (V:=fun g=>match g with|_=>.agg #[.int .i64 x11,.int .i64 x12]) (N:=fun g=>match g with|_=>[]++[.obj b0 (.cells [.int .i64 x1,.int .i64 x2,.int .i64 x3,.int .i64 x4,.int .i64 x5] .own),.obj b1 (.cells [.int .i64 x6,.int .i64 x7,.int .i64 x8,.int .i64 x9,.int .i64 x10] .own),.obj b2 (.map (l3.map (eM (fun p:Int × Int=>.agg #[.int .i64 p.1,.int .i64 p.2]) (fun b:Bool=>.bool b))))]) rfl rfl (fun m hm=>?_)) gn rfl ?_
    ·have hj:=av h17;obtain⟨j,h11⟩:∃j:Nat,(v0:Int)=j:=⟨_,(Int.toNat_of_nonneg hj.1).symm⟩;rw[h11] at h0 hj ⊢;rw[Int.toNat_natCast] at h0 hj;replace hj:=hj.2;clear hF h11
     match j,hj,h0 with
     | 0,_,h0=>cases h0; exact⟨(),nQ kW (i:=0) (by decide) (mG aw rfl),hm⟩
     | 1,_,h0=>cases h0; exact⟨(),nQ kW (i:=1) (by decide) (mG aw rfl),hm⟩
     | 2,_,h0=>cases h0; exact⟨(),nQ kW (i:=2) (by decide) (mG aw rfl),hm⟩
     | 3,_,h0=>cases h0; exact⟨(),nQ kW (i:=3) (by decide) (mG aw rfl),hm⟩
     | _+4,hj,_=>exact absurd hj (by omega)
    rintro⟨⟩;refine Wo.x (jm z33 rfl) gn rfl fun b3=>?_;refine Wo.o0 (hY (k:=0) aw rfl rfl rfl rfl rfl)<|Wo.nil<|At.tn<|Wk.seq ?_;obtain⟨v1,h18,hF⟩:=J hF;refine Wk.cut (G:=(fun(r:Bool) (g:Unit)=>match r,g with|v1,_=>⟨.normal,[(2,ptr b0 0),(3,ptr b1 0),(5,.int .i64 r0),(6,.int .i64 r1),(7,.int .i64 r2),(8,.int .i64 r3),(9,.map (some b2)),(11,ptr b3 0),(49,.agg #[.int .i64 x2,.int .i64 x3,.int .i64 x4,.int .i64 x5,.int .i64 x7,.int .i64 x8,.int .i64 x9,.int .i64 x10]),(50,.int .i64 v0),(60,.bool v1)],[.obj b0 (.cells [.int .i64 x1,.int .i64 x2,.int .i64 x3,.int .i64 x4,.int .i64 x5] .own),.obj b1 (.cells [.int .i64 x6,.int .i64 x7,.int .i64 x8,.int .i64 x9,.int .i64 x10] .own),.obj b2 (.map (l3.map (eM (fun p:Int × Int=>.agg #[.int .i64 p.1,.int .i64 p.2]) (fun b:Bool=>.bool b)))),.obj b3 (.cells [.int .i64 x11,.int .i64 x12] .own)]⟩) v1) ?_ ?_
    ·clear hF;revert v1;intro r hF;refine Wk.region<|Wo.od (aq (k:=1) HL rfl rfl rfl) rfl<|Wo.od (aq (k:=0) aw rfl rfl rfl) rfl ?_;obtain⟨r4,h19,hF⟩:=J hF;refine Wo.x (bU rfl rfl (fun m hm=>AZ n x1 x2 x3 x4 x5 x11 x12  _ h19 m) fun _=>rfl) gn rfl ?_;rintro⟨⟩;refine Wo.od (aa rfl) rfl ?_;rcases ah hF with⟨h2,hF⟩|⟨h2,hF⟩
     ·refine Wo.og (aq (k:=2) HL rfl rfl rfl) (gg rfl rfl (bP h2)) rfl<|Wo.og (aq (k:=0) aw rfl rfl rfl) (gg rfl rfl (bP h2)) rfl ?_;obtain⟨r5,h20,hF⟩:=J hF;refine Wo.x (bU rfl rfl (fun m hm=>AZ n x6 x7 x8 x9 x10 x11 x12  _ h20 m) fun _=>rfl) (gg rfl rfl (bP h2)) rfl ?_;rintro⟨⟩;refine Wo.od (cZ rfl h2 rfl) rfl<|Wo.nil ?_;have hr:=Option.some.inj hF;subst r;exact At.en () rfl (sc rfl (sc rfl (sc rfl (sc rfl (sc rfl (sc rfl (sc rfl (sc rfl (sc rfl (sc rfl (sc rfl sn))))))))))) (ae.U [1,2,3,0] rfl rfl)
     ·refine Wo.s (gg rfl rfl (bQ h2)) rfl<|Wo.s (gg rfl rfl (bQ h2)) rfl<|Wo.s (gg rfl rfl (bQ h2)) rfl<|Wo.od (cP rfl h2 rfl) rfl<|Wo.nil ?_;cases hF;exact At.en () rfl (sc rfl (sc rfl (sc rfl (sc rfl (sc rfl (sc rfl (sc rfl (sc rfl (sc rfl (sc rfl (sc rfl sn))))))))))) (ae.U [1,2,3,0] rfl rfl)
    ·clear h18;rintro⟨⟩;refine At.tn ?_;rcases ah hF with⟨h5,hF⟩|⟨h5,hF⟩
     ·refine Wk.ay rfl h5<|Wk.region<|Wo.od (aa rfl) rfl<|Wo.od (aq (k:=3) aw rfl rfl rfl) rfl<|Wo.o0 (IM (q:=2) (xs:=l3) (k:=(x11,x12)) (v:=true) (vE:=(fun b:Bool=>.bool b)) GD (G7 EA) rfl rfl rfl rfl)<|Wo.nil<|At.bn ?_;cases hF;exact At.en () rfl (sc rfl (sc rfl (sc rfl (sc rfl (sc rfl (sc rfl (sc rfl (sc rfl (sc rfl sn))))))))) (ae.U [0,1,2] rfl rfl)
     ·refine Wk.az rfl h5<|Wk.skip<|At.bn ?_;have hr:=Option.some.inj hF;subst r;exact At.en () rfl (sc rfl (sc rfl (sc rfl (sc rfl (sc rfl (sc rfl (sc rfl (sc rfl (sc rfl sn))))))))) (ae.U [0,1,2] rfl rfl)
   ·clear h16;rintro⟨⟩;refine At.tn<|Wk.region<|Wo.od (ak rfl rfl (aF _ _ _)) rfl<|Wo.od (aa rfl) rfl<|Wo.nil ?_;cases hF;exact At.en () rfl (sc rfl (sc rfl (sc rfl (sc rfl (sc rfl (sc rfl (sc rfl (sc rfl (sc rfl sn))))))))) (ae.U [0,1,2] rfl rfl)
  ·refine Wk.az rfl h4<|Wk.exit<|At.te ?_;cases hF;exact At.en () rfl (sc rfl (sc rfl (sc rfl (sc rfl (sc rfl sn))))) (ae.U [2] rfl rfl)
 ·clear h3;rintro⟨⟩;refine At.be<|At.tn<|Wk.seq<|Wk.block<|Wk.seq<|Wk.region<|Wo.od (aa rfl) rfl ?_;obtain⟨y0,h6,hF⟩:=J hF;replace h6:=Option.some.inj h6;refine Wo.od (B8 (q:=0) (xs:=l2) GD rfl rfl h6) rfl<|Wo.od (ak rfl rfl (bS _ _ _)) rfl<|Wo.od (ai rfl) rfl<|Wo.nil<|At.tn ?_;rcases ah hF with⟨h7,hF⟩|⟨h7,hF⟩
  ·refine Wk.ay rfl h7<|Wk.seq<|Wk.region<|Wo.od (ai rfl) rfl<|Wo.nil<|At.tn<|Wk.ret<|At.br<|At.tr ?_;cases hF;exact At.ret (.tmp rfl .nil) fun m' hm=>⟨(),rfl,(ae.U [] rfl rfl) m' hm⟩
  ·refine Wk.az rfl h7<|Wk.seq<|Wk.region<|Wo.od (aa rfl) rfl ?_;obtain⟨y1,h8,hF⟩:=J hF;replace h8:=Option.some.inj h8;refine Wo.od (B8 (q:=0) (xs:=l2) GD rfl rfl h8) rfl<|Wo.od (ak rfl rfl (dy _ _ _)) rfl<|Wo.od (ai rfl) rfl<|Wo.nil<|At.tn ?_;rcases ah hF with⟨h9,hF⟩|⟨h9,hF⟩
   ·refine Wk.ay rfl h9<|Wk.seq<|Wk.region<|Wo.od (ai rfl) rfl<|Wo.nil<|At.tn<|Wk.ret<|At.br<|At.tr ?_;cases hF;exact At.ret (.tmp rfl .nil) fun m' hm=>⟨(),rfl,(ae.U [] rfl rfl) m' hm⟩
   ·refine Wk.az rfl h9<|Wk.seq ?_;obtain⟨v2,h21,hF⟩:=J hF;refine Wk.cut (G:=(fun(r:Bool) (g:Unit)=>match r,g with|v2,_=>⟨.normal,[(72,.bool v2)],[]⟩) v2) ?_ ?_
    ·clear hF;revert v2;intro r hF;refine Wk.region<|Wo.od (aa rfl) rfl<|Wo.od (aa rfl) rfl<|Wo.od (ak rfl rfl (df _ _ _)) rfl<|Wo.od (ak rfl rfl (aG _ _ _)) rfl<|Wo.od (aa rfl) rfl ?_;rcases ah hF with⟨h1,hF⟩|⟨h1,hF⟩
     ·refine Wo.og (aa rfl) (gg rfl rfl (bP h1)) rfl<|Wo.og (aa rfl) (gg rfl rfl (bP h1)) rfl<|Wo.og (ak rfl rfl (df _ _ _)) (gg rfl rfl (bP h1)) rfl<|Wo.og (ak rfl rfl (aG _ _ _)) (gg rfl rfl (bP h1)) rfl<|Wo.od (cZ rfl h1 rfl) rfl<|Wo.od (ai rfl) rfl<|Wo.nil ?_;cases hF;exact At.en () rfl (sc rfl sn) (ae.U [] rfl rfl)
     ·refine Wo.s (gg rfl rfl (bQ h1)) rfl<|Wo.s (gg rfl rfl (bQ h1)) rfl<|Wo.s (gg rfl rfl (bQ h1)) rfl<|Wo.s (gg rfl rfl (bQ h1)) rfl<|Wo.od (cP rfl h1 rfl) rfl<|Wo.od (ai rfl) rfl<|Wo.nil ?_;cases hF;exact At.en () rfl (sc rfl sn) (ae.U [] rfl rfl)
    ·clear h21;rintro⟨⟩;refine At.tn ?_;rcases ah hF with⟨h10,hF⟩|⟨h10,hF⟩
     ·refine Wk.ay rfl h10<|Wk.seq<|Wk.region<|Wo.od (ai rfl) rfl<|Wo.nil<|At.tn<|Wk.ret<|At.br<|At.tr ?_;cases hF;exact At.ret (.tmp rfl .nil) fun m' hm=>⟨(),rfl,(ae.U [] rfl rfl) m' hm⟩
     ·refine Wk.az rfl h10<|Wk.skip<|At.bn<|At.tn<|Wk.seq<|Wk.region<|Wo.od (ai rfl) rfl<|Wo.nil<|At.tn<|Wk.ret ?_;cases hF;exact At.ret (.tmp rfl .nil) fun m' hm=>⟨(),rfl,(ae.U [] rfl rfl) m' hm⟩
theorem Fc (n:Nat) (x1:Int) (x2:Int) (x3:Int) (x4:Int) (x5:Int) (x6:Int) (x7:Int) (x8:Int)  (r:Int × Int) (hF:GZ n x1 x2 x3 x4 x5 x6 x7 x8=some r) (m:AMem)  :
  aL aT 16 [.agg #[.int .i64 x1,.int .i64 x2],.agg #[.int .i64 x3,.int .i64 x4],.agg #[.int .i64 x5,.int .i64 x6],.agg #[.int .i64 x7,.int .i64 x8]] m (fun v m'=>∃_:Unit,v = .tuple #[.int .i64 r.1,.int .i64 r.2]∧Hp m m' []):=by
 unfold GZ at hF;refine aN (m0:=m) (ps:=[]) (N:=41) (rs:=[.tmp 8,.tmp 9]) rfl Tryz.func16 rfl rfl rfl (Hp.start m)<|Wk.seq<|Wk.region<|Wo.x (cL rfl) gn rfl fun b9=>?_;refine Wo.x (cL rfl) gn rfl fun b10=>?_;refine Wo.x (cL rfl) gn rfl fun b11=>?_;refine Wo.x (cL rfl) gn rfl fun b12=>?_;refine Wo.od (ai rfl) rfl<|Wo.od (ai rfl) rfl<|Wo.nil<|At.tn<|Wk.seq<|Wk.seq ?_;obtain⟨v56,h70,hF⟩:=J hF;refine Wk.cut (G:=(fun(r:Bool) (g:Unit)=>match r,g with|v56,_=>⟨.normal,[(4,ptr b9 0),(5,ptr b10 0),(6,ptr b11 0),(7,ptr b12 0),(33,.bool v56)],[.obj b9 (.cells [.int .i64 x1,.int .i64 x2] .own),.obj b10 (.cells [.int .i64 x3,.int .i64 x4] .own),.obj b11 (.cells [.int .i64 x5,.int .i64 x6] .own),.obj b12 (.cells [.int .i64 x7,.int .i64 x8] .own)]⟩) v56) ?_ ?_
 ·clear hF;revert v56;intro r hF;refine Wk.region<|Wo.od (aq (k:=3) aw rfl rfl rfl) rfl ?_;obtain⟨r58,h57,hF⟩:=J hF;refine Wo.x (bU rfl rfl (fun m hm=>oO n x1 x2  _ h57 m) fun _=>rfl) gn rfl ?_;rintro⟨⟩;refine Wo.od (aa rfl) rfl ?_;rcases ah hF with⟨h59,hF⟩|⟨h59,hF⟩
  ·refine Wo.s (gg rfl rfl (dg h59)) rfl<|Wo.s (gg rfl rfl (dg h59)) rfl<|Wo.od (cZ rfl h59 rfl) rfl<|Wo.od (aa rfl) rfl<|Wo.s (gg rfl rfl rfl) rfl<|Wo.s (gg rfl rfl rfl) rfl<|Wo.od (eu rfl rfl) rfl<|Wo.od (aa rfl) rfl<|Wo.s (gg rfl rfl rfl) rfl<|Wo.s (gg rfl rfl rfl) rfl ?_;refine Wo.od (eu rfl rfl) rfl<|Wo.od (aa rfl) rfl<|Wo.s (gg rfl rfl rfl) rfl<|Wo.s (gg rfl rfl rfl) rfl<|Wo.s (gg rfl rfl rfl) rfl<|Wo.od (eu rfl rfl) rfl<|Wo.od (aa rfl) rfl<|Wo.s (gg rfl rfl rfl) rfl<|Wo.s (gg rfl rfl rfl) rfl<|Wo.s (gg rfl rfl rfl) rfl ?_;refine Wo.od (eu rfl rfl) rfl<|Wo.nil ?_;cases hF;exact At.en () rfl (sc rfl (sc rfl (sc rfl (sc rfl (sc rfl sn))))) (ae.U [3,2,1,0] rfl rfl)
  ·refine Wo.og (aq (k:=2) aw rfl rfl rfl) (gg rfl rfl (cY h59)) rfl ?_;obtain⟨r61,h60,hF⟩:=J hF;refine Wo.x (bU rfl rfl (fun m hm=>oO n x3 x4  _ h60 m) fun _=>rfl) (gg rfl rfl (cY h59)) rfl ?_;rintro⟨⟩;refine Wo.od (cP rfl h59 rfl) rfl<|Wo.od (aa rfl) rfl ?_;rcases ah hF with⟨h62,hF⟩|⟨h62,hF⟩
   ·refine Wo.s (gg rfl rfl (dg h62)) rfl<|Wo.s (gg rfl rfl (dg h62)) rfl<|Wo.od (cZ rfl h62 rfl) rfl<|Wo.od (aa rfl) rfl<|Wo.s (gg rfl rfl rfl) rfl<|Wo.s (gg rfl rfl rfl) rfl<|Wo.od (eu rfl rfl) rfl<|Wo.od (aa rfl) rfl<|Wo.s (gg rfl rfl rfl) rfl<|Wo.s (gg rfl rfl rfl) rfl ?_;refine Wo.s (gg rfl rfl rfl) rfl<|Wo.od (eu rfl rfl) rfl<|Wo.od (aa rfl) rfl<|Wo.s (gg rfl rfl rfl) rfl<|Wo.s (gg rfl rfl rfl) rfl<|Wo.s (gg rfl rfl rfl) rfl<|Wo.od (eu rfl rfl) rfl<|Wo.nil ?_;cases hF;exact At.en () rfl (sc rfl (sc rfl (sc rfl (sc rfl (sc rfl sn))))) (ae.U [3,2,1,0] rfl rfl)
   ·refine Wo.og (aq (k:=1) aw rfl rfl rfl) (gg rfl rfl (cY h62)) rfl ?_;obtain⟨r64,h63,hF⟩:=J hF;refine Wo.x (bU rfl rfl (fun m hm=>oO n x5 x6  _ h63 m) fun _=>rfl) (gg rfl rfl (cY h62)) rfl ?_;rintro⟨⟩;refine Wo.od (cP rfl h62 rfl) rfl<|Wo.od (aa rfl) rfl ?_;rcases ah hF with⟨h65,hF⟩|⟨h65,hF⟩
    ·refine Wo.s (gg rfl rfl (dg h65)) rfl<|Wo.s (gg rfl rfl (dg h65)) rfl<|Wo.od (cZ rfl h65 rfl) rfl<|Wo.od (aa rfl) rfl<|Wo.s (gg rfl rfl rfl) rfl<|Wo.s (gg rfl rfl rfl) rfl<|Wo.s (gg rfl rfl rfl) rfl<|Wo.od (eu rfl rfl) rfl<|Wo.od (aa rfl) rfl<|Wo.s (gg rfl rfl rfl) rfl ?_;refine Wo.s (gg rfl rfl rfl) rfl<|Wo.s (gg rfl rfl rfl) rfl<|Wo.od (eu rfl rfl) rfl<|Wo.nil ?_;cases hF;exact At.en () rfl (sc rfl (sc rfl (sc rfl (sc rfl (sc rfl sn))))) (ae.U [3,2,1,0] rfl rfl)
    ·refine Wo.og (aq (k:=0) aw rfl rfl rfl) (gg rfl rfl (cY h65)) rfl ?_;obtain⟨r67,h66,hF⟩:=J hF;refine Wo.x (bU rfl rfl (fun m hm=>oO n x7 x8  _ h66 m) fun _=>rfl) (gg rfl rfl (cY h65)) rfl ?_;rintro⟨⟩;refine Wo.od (cP rfl h65 rfl) rfl<|Wo.od (aa rfl) rfl ?_;rcases ah hF with⟨h68,hF⟩|⟨h68,hF⟩
     ·refine Wo.s (gg rfl rfl (dg h68)) rfl<|Wo.s (gg rfl rfl (dg h68)) rfl<|Wo.s (gg rfl rfl (dg h68)) rfl<|Wo.od (cZ rfl h68 rfl) rfl<|Wo.od (aa rfl) rfl<|Wo.s (gg rfl rfl rfl) rfl<|Wo.s (gg rfl rfl rfl) rfl<|Wo.s (gg rfl rfl rfl) rfl<|Wo.od (eu rfl rfl) rfl<|Wo.nil ?_;cases hF;exact At.en () rfl (sc rfl (sc rfl (sc rfl (sc rfl (sc rfl sn))))) (ae.U [3,2,1,0] rfl rfl)
     ·refine Wo.og (aq (k:=3) aw rfl rfl rfl) (gg rfl rfl (cY h68)) rfl<|Wo.og (aq (k:=2) aw rfl rfl rfl) (gg rfl rfl (cY h68)) rfl<|Wo.og (ak rfl rfl (nI o8 (oS _ _ _ _))) (gg rfl rfl (cY h68)) rfl<|Wo.od (cP rfl h68 rfl) rfl<|Wo.od (aa rfl) rfl ?_;rcases ah hF with⟨h69,hF⟩|⟨h69,hF⟩
      ·refine Wo.s (gg rfl rfl (dg h69)) rfl<|Wo.s (gg rfl rfl (dg h69)) rfl<|Wo.s (gg rfl rfl (dg h69)) rfl<|Wo.od (cZ rfl h69 rfl) rfl<|Wo.nil ?_;cases hF;exact At.en () rfl (sc rfl (sc rfl (sc rfl (sc rfl (sc rfl sn))))) (ae.U [3,2,1,0] rfl rfl)
      ·refine Wo.og (aq (k:=1) aw rfl rfl rfl) (gg rfl rfl (cY h69)) rfl<|Wo.og (aq (k:=0) aw rfl rfl rfl) (gg rfl rfl (cY h69)) rfl<|Wo.og (ak rfl rfl (nI o8 (oS _ _ _ _))) (gg rfl rfl (cY h69)) rfl<|Wo.od (cP rfl h69 rfl) rfl<|Wo.nil ?_;cases hF;exact At.en () rfl (sc rfl (sc rfl (sc rfl (sc rfl (sc rfl sn))))) (ae.U [3,2,1,0] rfl rfl)
 ·clear h70;rintro⟨⟩;refine At.tn ?_;rcases ah hF with⟨h72,hF⟩|⟨h72,hF⟩
  ·refine Wk.ay rfl h72<|Wk.seq<|Wk.region<|Wo.od (ai rfl) rfl<|Wo.od (ai rfl) rfl<|Wo.nil<|At.tn<|Wk.ret<|At.tr ?_;cases hF;exact At.ret (.tmp rfl (.tmp rfl .nil)) fun m' hm=>⟨(),rfl,(ae.U [] rfl rfl) m' hm⟩
  ·refine Wk.az rfl h72<|Wk.skip<|At.tn<|Wk.seq<|Wk.region<|Wo.od (aq (k:=0) aw rfl rfl rfl) rfl<|Wo.od (aq (k:=1) aw rfl rfl rfl) rfl<|Wo.od (eD rfl Jo rfl (eF Hi rfl rfl rfl)) rfl<|Wo.od (aq (k:=2) aw rfl rfl rfl) rfl<|Wo.od (aq (k:=3) aw rfl rfl rfl) rfl<|Wo.od (eD rfl Jo rfl (eF Hi rfl rfl rfl)) rfl ?_;obtain⟨r74,h73,hF⟩:=J hF;refine Wo.x (bU rfl rfl (fun m hm=>FG n 0 x1 x2 x3 x4 0 x5 x6 x7 x8  _ h73 m) fun _=>rfl) gn rfl ?_;rintro⟨⟩;refine Wo.od (ai rfl) rfl<|Wo.od (ai rfl) rfl<|Wo.nil<|At.tn<|Wk.ret ?_;cases hF;exact At.ret (.tmp rfl (.tmp rfl .nil)) fun m' hm=>⟨(),rfl,(ae.U [] rfl rfl) m' hm⟩
theorem F5 (n:Nat) (x1:Int) (x2:Int) (x3:Int) (x4:Int) (x5:Int) (x6:Int) (x7:Int) (x8:Int)  (r:Int × Int) (hF:Gm n x1 x2 x3 x4 x5 x6 x7 x8=some r) (m:AMem)  :
  aL aT 17 [.agg #[.int .i64 x1,.int .i64 x2],.agg #[.int .i64 x3,.int .i64 x4],.agg #[.int .i64 x5,.int .i64 x6],.agg #[.int .i64 x7,.int .i64 x8]] m (fun v m'=>∃_:Unit,v = .tuple #[.int .i64 r.1,.int .i64 r.2]∧Hp m m' []):=by
 unfold Gm at hF;refine aN (m0:=m) (ps:=[]) (N:=39) (rs:=[.tmp 8,.tmp 9]) rfl Tryz.func17 rfl rfl rfl (Hp.start m)<|Wk.seq<|Wk.region<|Wo.x (cL rfl) gn rfl fun b9=>?_;refine Wo.x (cL rfl) gn rfl fun b10=>?_;refine Wo.x (cL rfl) gn rfl fun b11=>?_;refine Wo.x (cL rfl) gn rfl fun b12=>?_;refine Wo.od (ai rfl) rfl<|Wo.od (ai rfl) rfl<|Wo.nil<|At.tn<|Wk.seq<|Wk.seq ?_;obtain⟨v56,h70,hF⟩:=J hF;refine Wk.cut (G:=(fun(r:Bool) (g:Unit)=>match r,g with|v56,_=>⟨.normal,[(4,ptr b9 0),(5,ptr b10 0),(6,ptr b11 0),(7,ptr b12 0),(33,.bool v56)],[.obj b9 (.cells [.int .i64 x1,.int .i64 x2] .own),.obj b10 (.cells [.int .i64 x3,.int .i64 x4] .own),.obj b11 (.cells [.int .i64 x5,.int .i64 x6] .own),.obj b12 (.cells [.int .i64 x7,.int .i64 x8] .own)]⟩) v56) ?_ ?_
 ·clear hF;revert v56;intro r hF;refine Wk.region<|Wo.od (aq (k:=3) aw rfl rfl rfl) rfl ?_;obtain⟨r58,h57,hF⟩:=J hF;refine Wo.x (bU rfl rfl (fun m hm=>lT n x1 x2  _ h57 m) fun _=>rfl) gn rfl ?_;rintro⟨⟩;refine Wo.od (aa rfl) rfl ?_;rcases ah hF with⟨h59,hF⟩|⟨h59,hF⟩
  ·refine Wo.s (gg rfl rfl (dg h59)) rfl<|Wo.s (gg rfl rfl (dg h59)) rfl<|Wo.od (cZ rfl h59 rfl) rfl<|Wo.od (aa rfl) rfl<|Wo.s (gg rfl rfl rfl) rfl<|Wo.s (gg rfl rfl rfl) rfl<|Wo.od (eu rfl rfl) rfl<|Wo.od (aa rfl) rfl<|Wo.s (gg rfl rfl rfl) rfl<|Wo.s (gg rfl rfl rfl) rfl ?_;refine Wo.od (eu rfl rfl) rfl<|Wo.od (aa rfl) rfl<|Wo.s (gg rfl rfl rfl) rfl<|Wo.s (gg rfl rfl rfl) rfl<|Wo.s (gg rfl rfl rfl) rfl<|Wo.od (eu rfl rfl) rfl<|Wo.od (aa rfl) rfl<|Wo.s (gg rfl rfl rfl) rfl<|Wo.s (gg rfl rfl rfl) rfl<|Wo.s (gg rfl rfl rfl) rfl ?_;refine Wo.od (eu rfl rfl) rfl<|Wo.nil ?_;cases hF;exact At.en () rfl (sc rfl (sc rfl (sc rfl (sc rfl (sc rfl sn))))) (ae.U [3,2,1,0] rfl rfl)
  ·refine Wo.og (aq (k:=2) aw rfl rfl rfl) (gg rfl rfl (cY h59)) rfl ?_;obtain⟨r61,h60,hF⟩:=J hF;refine Wo.x (bU rfl rfl (fun m hm=>lT n x3 x4  _ h60 m) fun _=>rfl) (gg rfl rfl (cY h59)) rfl ?_;rintro⟨⟩;refine Wo.od (cP rfl h59 rfl) rfl<|Wo.od (aa rfl) rfl ?_;rcases ah hF with⟨h62,hF⟩|⟨h62,hF⟩
   ·refine Wo.s (gg rfl rfl (dg h62)) rfl<|Wo.s (gg rfl rfl (dg h62)) rfl<|Wo.od (cZ rfl h62 rfl) rfl<|Wo.od (aa rfl) rfl<|Wo.s (gg rfl rfl rfl) rfl<|Wo.s (gg rfl rfl rfl) rfl<|Wo.od (eu rfl rfl) rfl<|Wo.od (aa rfl) rfl<|Wo.s (gg rfl rfl rfl) rfl<|Wo.s (gg rfl rfl rfl) rfl ?_;refine Wo.s (gg rfl rfl rfl) rfl<|Wo.od (eu rfl rfl) rfl<|Wo.od (aa rfl) rfl<|Wo.s (gg rfl rfl rfl) rfl<|Wo.s (gg rfl rfl rfl) rfl<|Wo.s (gg rfl rfl rfl) rfl<|Wo.od (eu rfl rfl) rfl<|Wo.nil ?_;cases hF;exact At.en () rfl (sc rfl (sc rfl (sc rfl (sc rfl (sc rfl sn))))) (ae.U [3,2,1,0] rfl rfl)
   ·refine Wo.og (aq (k:=1) aw rfl rfl rfl) (gg rfl rfl (cY h62)) rfl ?_;obtain⟨r64,h63,hF⟩:=J hF;refine Wo.x (bU rfl rfl (fun m hm=>lT n x5 x6  _ h63 m) fun _=>rfl) (gg rfl rfl (cY h62)) rfl ?_;rintro⟨⟩;refine Wo.od (cP rfl h62 rfl) rfl<|Wo.od (aa rfl) rfl ?_;rcases ah hF with⟨h65,hF⟩|⟨h65,hF⟩
    ·refine Wo.s (gg rfl rfl (dg h65)) rfl<|Wo.s (gg rfl rfl (dg h65)) rfl<|Wo.od (cZ rfl h65 rfl) rfl<|Wo.od (aa rfl) rfl<|Wo.s (gg rfl rfl rfl) rfl<|Wo.s (gg rfl rfl rfl) rfl<|Wo.s (gg rfl rfl rfl) rfl<|Wo.od (eu rfl rfl) rfl<|Wo.od (aa rfl) rfl<|Wo.s (gg rfl rfl rfl) rfl ?_;refine Wo.s (gg rfl rfl rfl) rfl<|Wo.s (gg rfl rfl rfl) rfl<|Wo.od (eu rfl rfl) rfl<|Wo.nil ?_;cases hF;exact At.en () rfl (sc rfl (sc rfl (sc rfl (sc rfl (sc rfl sn))))) (ae.U [3,2,1,0] rfl rfl)
    ·refine Wo.og (aq (k:=0) aw rfl rfl rfl) (gg rfl rfl (cY h65)) rfl ?_;obtain⟨r67,h66,hF⟩:=J hF;refine Wo.x (bU rfl rfl (fun m hm=>lT n x7 x8  _ h66 m) fun _=>rfl) (gg rfl rfl (cY h65)) rfl ?_;rintro⟨⟩;refine Wo.od (cP rfl h65 rfl) rfl<|Wo.od (aa rfl) rfl ?_;rcases ah hF with⟨h68,hF⟩|⟨h68,hF⟩
     ·refine Wo.s (gg rfl rfl (dg h68)) rfl<|Wo.s (gg rfl rfl (dg h68)) rfl<|Wo.s (gg rfl rfl (dg h68)) rfl<|Wo.od (cZ rfl h68 rfl) rfl<|Wo.od (aa rfl) rfl<|Wo.s (gg rfl rfl rfl) rfl<|Wo.s (gg rfl rfl rfl) rfl<|Wo.s (gg rfl rfl rfl) rfl<|Wo.od (eu rfl rfl) rfl<|Wo.nil ?_;cases hF;exact At.en () rfl (sc rfl (sc rfl (sc rfl (sc rfl (sc rfl sn))))) (ae.U [3,2,1,0] rfl rfl)
     ·refine Wo.og (aq (k:=3) aw rfl rfl rfl) (gg rfl rfl (cY h68)) rfl<|Wo.og (aq (k:=2) aw rfl rfl rfl) (gg rfl rfl (cY h68)) rfl<|Wo.og (ak rfl rfl (nI o8 (oS _ _ _ _))) (gg rfl rfl (cY h68)) rfl<|Wo.od (cP rfl h68 rfl) rfl<|Wo.od (aa rfl) rfl ?_;rcases ah hF with⟨h69,hF⟩|⟨h69,hF⟩
      ·refine Wo.s (gg rfl rfl (dg h69)) rfl<|Wo.s (gg rfl rfl (dg h69)) rfl<|Wo.s (gg rfl rfl (dg h69)) rfl<|Wo.od (cZ rfl h69 rfl) rfl<|Wo.nil ?_;cases hF;exact At.en () rfl (sc rfl (sc rfl (sc rfl (sc rfl (sc rfl sn))))) (ae.U [3,2,1,0] rfl rfl)
      ·refine Wo.og (aq (k:=1) aw rfl rfl rfl) (gg rfl rfl (cY h69)) rfl<|Wo.og (aq (k:=0) aw rfl rfl rfl) (gg rfl rfl (cY h69)) rfl<|Wo.og (ak rfl rfl (nI o8 (oS _ _ _ _))) (gg rfl rfl (cY h69)) rfl<|Wo.od (cP rfl h69 rfl) rfl<|Wo.nil ?_;cases hF;exact At.en () rfl (sc rfl (sc rfl (sc rfl (sc rfl (sc rfl sn))))) (ae.U [3,2,1,0] rfl rfl)
 ·clear h70;rintro⟨⟩;refine At.tn ?_;rcases ah hF with⟨h72,hF⟩|⟨h72,hF⟩
  ·refine Wk.ay rfl h72<|Wk.seq<|Wk.region<|Wo.od (ai rfl) rfl<|Wo.od (ai rfl) rfl<|Wo.nil<|At.tn<|Wk.ret<|At.tr ?_;cases hF;exact At.ret (.tmp rfl (.tmp rfl .nil)) fun m' hm=>⟨(),rfl,(ae.U [] rfl rfl) m' hm⟩
  ·refine Wk.az rfl h72<|Wk.skip<|At.tn<|Wk.seq<|Wk.region<|Wo.od (aq (k:=0) aw rfl rfl rfl) rfl<|Wo.od (aq (k:=1) aw rfl rfl rfl) rfl<|Wo.od (aq (k:=2) aw rfl rfl rfl) rfl<|Wo.od (aq (k:=3) aw rfl rfl rfl) rfl ?_;obtain⟨r74,h73,hF⟩:=J hF;refine Wo.x (bU rfl rfl (fun m hm=>Cw n x1 x2 x3 x4 x5 x6 x7 x8  _ h73 m) fun _=>rfl) gn rfl ?_;rintro⟨⟩;refine Wo.od (ai rfl) rfl<|Wo.od (ai rfl) rfl<|Wo.nil<|At.tn<|Wk.ret ?_;cases hF;exact At.ret (.tmp rfl (.tmp rfl .nil)) fun m' hm=>⟨(),rfl,(ae.U [] rfl rfl) m' hm⟩
theorem HK (n:Nat) (l1:List (Int × Int)) (l5:List (Int × Int)) (l4:List (Nat)) (x13:Int) (x14:Int) (x15:Nat) (x19:Bool) (x20:Bool) (x3:Int) (x4:Int) (x10:Int) (x11:Int) (x12:Int) (x16:Int) (x17:Int) (x18:Int) (x26:Nat) (a12:Option Addr) (c4:Nat) (a13:Option Addr) (c5:Nat) (a2:Option Addr) (c1:Nat) (r:Bool) (hF:F3 n l1 l5 l4 x13 x14 x15 x19 x20 x3 x4 x10 x11 x12 x16 x17 x18 x26=some r) (m:AMem) (h27:Rd m a12 c4 2 l1.length (l1.map (eP (eI .i64) (eI .i64)))) (h28:Rd m a13 c5 2 l5.length (l5.map (eP (eI .i8) (eI .i8)))) (h29:Rd m a2 c1 1 l4.length (l4.map (eN .u8))) :
  aL aT 3 [.slice a12 l1.length c4,.slice a13 l5.length c5,.agg #[.slice a2 l4.length c1,.int .i16 x13,.int .i16 x14,.int .u8 ((x15:Nat):Int),.bool x19,.bool x20],.agg #[.int .i8 x3,.int .i8 x4,.int .i8 x10,.int .i8 x11,.int .i8 x12,.int .i8 x16,.int .i8 x17,.int .i8 x18],.int .u8 ((x26:Nat):Int)] m (fun v m'=>∃_:Unit,v = .bool r∧Hp m m' []):=by
 unfold F3 at hF;refine aN (m0:=m) (ps:=[.rd a2 c1 1 l4.length (l4.map (eN .u8)),.rd a13 c5 2 l5.length (l5.map (eP (eI .i8) (eI .i8))),.rd a12 c4 2 l1.length (l1.map (eP (eI .i64) (eI .i64)))]) (N:=198) (rs:=[.tmp 10]) rfl Tryz.func3 rfl rfl rfl ((((Hp.start m).uU rfl h27).uU rfl h28).uU rfl h29)<|Wk.seq<|Wk.region<|Wo.x (cL rfl) gn rfl fun b1=>?_;refine Wo.x (cL rfl) gn rfl fun b0=>?_;refine Wo.od (ai rfl) rfl<|Wo.nil<|At.tn<|Wk.seq<|Wk.region<|Wo.od (aa rfl) rfl<|Wo.od (aa rfl) rfl<|Wo.od (dK (k:=4) hG rfl rfl (.inl rfl)) rfl<|Wo.od (gZ rfl rfl (jh _ _)) rfl ?_;obtain⟨h30,hF⟩:=al hF;refine Wo.x (E4 (k:=4) (lo:=0) (hi:=mi (l1.length:Int) (20:Int)) dY rfl rfl rfl rfl h30 (.inl ⟨rfl,rfl⟩) (.inr ⟨_,rfl⟩)) gn rfl ?_;rintro⟨a0,c0⟩;refine Wo.od (ai rfl) rfl<|Wo.nil<|At.tn<|Wk.seq<|Wk.region<|Wo.od (ai rfl) rfl<|Wo.nil<|At.tn<|Wk.seq<|Wk.seq<|Wk.region<|Wo.od (aa rfl) rfl<|Wo.od (aa rfl) rfl<|Wo.od (dK (k:=4) Jn rfl rfl (.inl rfl)) rfl<|Wo.od (gZ rfl rfl (jh _ _)) rfl ?_;obtain⟨h31,hF⟩:=al hF;refine Wo.x (E4 (k:=4) (lo:=0) (hi:=mi (l5.length:Int) (30:Int)) Jz rfl rfl rfl rfl h31 (.inl ⟨rfl,rfl⟩) (.inr ⟨_,rfl⟩)) gn rfl ?_;rintro⟨a8,c3⟩;refine Wo.od (dK (k:=0) Jn rfl rfl (.inl rfl)) rfl<|Wo.od (aa rfl) rfl<|Wo.nil<|At.tn<|Wk.block ?_;obtain⟨l2,h7,hF⟩:=J hF;refine Wk.cut (G:=(fun(r:List (Int × Int)) (g:Option Addr)=>match r,g with|l2,a1=>⟨(.exit 0),[(0,.slice a0 (((l1.drop (0:Int).toNat).take ((mi (l1.length:Int) (20:Int):Int).toNat-(0:Int).toNat)).length) c0),(4,.int .u8 ((x26:Nat):Int)),(7,ptr b1 0),(8,ptr b0 0),(11,.slice a1 l2.length l2.length)],[.rd a0 c0 2 (((l1.drop (0:Int).toNat).take ((mi (l1.length:Int) (20:Int):Int).toNat-(0:Int).toNat)).length) (((l1.drop (0:Int).toNat).take ((mi (l1.length:Int) (20:Int):Int).toNat-(0:Int).toNat)).map (eP (eI .i64) (eI .i64))),.obj b1 (.cells [.slice a2 l4.length c1,.int .i16 x13,.int .i16 x14,.int .u8 ((x15:Nat):Int),.bool x19,.bool x20] .own),.rd a2 c1 1 l4.length (l4.map (eN .u8)),.obj b0 (.cells [.int .i8 x3,.int .i8 x4,.int .i8 x10,.int .i8 x11,.int .i8 x12,.int .i8 x16,.int .i8 x17,.int .i8 x18] .own),.sl a1 2 l2.length (l2.map (eP (eI .i64) (eI .i64)))]⟩) l2) ?_ ?_
 ·refine Wk.dz (fs':=[(0,.slice a0 (((l1.drop (0:Int).toNat).take ((mi (l1.length:Int) (20:Int):Int).toNat-(0:Int).toNat)).length) c0),(4,.int .u8 ((x26:Nat):Int)),(7,ptr b1 0),(8,ptr b0 0),(11,.slice none ([]:List (Int × Int)).length ([]:List (Int × Int)).length),(41,.slice a8 (((l5.drop (0:Int).toNat).take ((mi (l5.length:Int) (30:Int):Int).toNat-(0:Int).toNat)).length) c3),(42,.int .i64 (((l5.drop (0:Int).toNat).take ((mi (l5.length:Int) (30:Int):Int).toNat-(0:Int).toNat)).length:Int)),(43,.int .i64 0)]) (ps':=[.rd a0 c0 2 (((l1.drop (0:Int).toNat).take ((mi (l1.length:Int) (20:Int):Int).toNat-(0:Int).toNat)).length) (((l1.drop (0:Int).toNat).take ((mi (l1.length:Int) (20:Int):Int).toNat-(0:Int).toNat)).map (eP (eI .i64) (eI .i64))),.obj b1 (.cells [.slice a2 l4.length c1,.int .i16 x13,.int .i16 x14,.int .u8 ((x15:Nat):Int),.bool x19,.bool x20] .own),.rd a2 c1 1 l4.length (l4.map (eN .u8)),.obj b0 (.cells [.int .i8 x3,.int .i8 x4,.int .i8 x10,.int .i8 x11,.int .i8 x12,.int .i8 x16,.int .i8 x17,.int .i8 x18] .own),.sl none 2 ([]:List (Int × Int)).length (([]:List (Int × Int)).map (eP (eI .i64) (eI .i64))),.rd a8 c3 2 (((l5.drop (0:Int).toNat).take ((mi (l5.length:Int) (30:Int):Int).toNat-(0:Int).toNat)).length) (((l5.drop (0:Int).toNat).take ((mi (l5.length:Int) (30:Int):Int).toNat-(0:Int).toNat)).map (eP (eI .i8) (eI .i8)))]) (sc rfl (sc rfl (sc rfl (sc rfl (sc rfl (sc rfl (sc rfl (sc rfl sn)))))))) (ae.trans (ae.nil 2 rfl) (ae.U [2,4,5,3,0,1] rfl rfl)) ?_;refine Wk.loop (σ:=List (Int × Int) × Int) (ρ:=List (Int × Int)) (γ:=Option Addr) (δ:=fun _=>Option Addr) _ (fun(s:List (Int × Int) × Int) (g:Option Addr)=>match s,g with | (l9,v6),a9=>⟨.normal,[(0,.slice a0 (((l1.drop (0:Int).toNat).take ((mi (l1.length:Int) (20:Int):Int).toNat-(0:Int).toNat)).length) c0),(4,.int .u8 ((x26:Nat):Int)),(7,ptr b1 0),(8,ptr b0 0),(11,.slice a9 l9.length l9.length),(41,.slice a8 (((l5.drop (0:Int).toNat).take ((mi (l5.length:Int) (30:Int):Int).toNat-(0:Int).toNat)).length) c3),(42,.int .i64 (((l5.drop (0:Int).toNat).take ((mi (l5.length:Int) (30:Int):Int).toNat-(0:Int).toNat)).length:Int)),(43,.int .i64 v6)],[.rd a0 c0 2 (((l1.drop (0:Int).toNat).take ((mi (l1.length:Int) (20:Int):Int).toNat-(0:Int).toNat)).length) (((l1.drop (0:Int).toNat).take ((mi (l1.length:Int) (20:Int):Int).toNat-(0:Int).toNat)).map (eP (eI .i64) (eI .i64))),.obj b1 (.cells [.slice a2 l4.length c1,.int .i16 x13,.int .i16 x14,.int .u8 ((x15:Nat):Int),.bool x19,.bool x20] .own),.rd a2 c1 1 l4.length (l4.map (eN .u8)),.obj b0 (.cells [.int .i8 x3,.int .i8 x4,.int .i8 x10,.int .i8 x11,.int .i8 x12,.int .i8 x16,.int .i8 x17,.int .i8 x18] .own),.sl a9 2 l9.length (l9.map (eP (eI .i64) (eI .i64))),.rd a8 c3 2 (((l5.drop (0:Int).toNat).take ((mi (l5.length:Int) (30:Int):Int).toNat-(0:Int).toNat)).length) (((l5.drop (0:Int).toNat).take ((mi (l5.length:Int) (30:Int):Int).toNat-(0:Int).toNat)).map (eP (eI .i8) (eI .i8)))]⟩) (fun(r:List (Int × Int)) (g:Option Addr)=>match r,g with|l2,a1=>⟨(.exit 0),[(0,.slice a0 (((l1.drop (0:Int).toNat).take ((mi (l1.length:Int) (20:Int):Int).toNat-(0:Int).toNat)).length) c0),(4,.int .u8 ((x26:Nat):Int)),(7,ptr b1 0),(8,ptr b0 0),(11,.slice a1 l2.length l2.length)],[.rd a0 c0 2 (((l1.drop (0:Int).toNat).take ((mi (l1.length:Int) (20:Int):Int).toNat-(0:Int).toNat)).length) (((l1.drop (0:Int).toNat).take ((mi (l1.length:Int) (20:Int):Int).toNat-(0:Int).toNat)).map (eP (eI .i64) (eI .i64))),.obj b1 (.cells [.slice a2 l4.length c1,.int .i16 x13,.int .i16 x14,.int .u8 ((x15:Nat):Int),.bool x19,.bool x20] .own),.rd a2 c1 1 l4.length (l4.map (eN .u8)),.obj b0 (.cells [.int .i8 x3,.int .i8 x4,.int .i8 x10,.int .i8 x11,.int .i8 x12,.int .i8 x16,.int .i8 x17,.int .i8 x18] .own),.sl a1 2 l2.length (l2.map (eP (eI .i64) (eI .i64)))]⟩) ?_ (fun _ _=>rfl) (fun r d=>by intro e; cases e) _ _ _ h7 none
  clear hF h7;rintro⟨l9,v6⟩ a9 r hF;unfold zA at hF;refine Wk.seq<|Wk.region<|Wo.od (ak rfl rfl (aG _ _ _)) rfl<|Wo.nil<|At.tn<|Wk.seq ?_;rcases ah hF with⟨h8,hF⟩|⟨h8,hF⟩
  ·refine Wk.ay rfl h8<|Wk.skip<|At.tn<|Wk.seq<|Wk.block<|Wk.seq<|Wk.region ?_;obtain⟨h5,hF⟩:=al hF;replace h5:=av h5;refine Wo.ey (k:=5) rfl (bV h5) ?_;rintro b6 o1 rfl;refine Wo.og (cD Jz rfl rfl h5) gn rfl ?_;obtain⟨⟨x46,x47⟩,h32,hF⟩:=J hF;refine Wo.od (cW (k:=0) Iv rfl rfl (aQ h32) rfl rfl) rfl<|Wo.x (jm z30 rfl) gn rfl fun b4=>?_;refine Wo.o0 (hY (k:=0) Iv rfl rfl rfl rfl rfl)<|Wo.nil<|At.tn<|Wk.region<|Wo.od (aa rfl) rfl<|Wo.od (jR (r:=ptr b4 0) rfl rfl (kM CQ (i:=0) (by decide))) rfl<|Wo.od (aq (k:=0) Db rfl rfl rfl) rfl<|Wo.od (qu rfl (qj (by rw[ID]; rfl) u3)) rfl<|Wo.od (jR (r:=ptr b4 1) rfl rfl (kM CQ (i:=1) (by decide))) rfl<|Wo.od (aq (k:=0) Db rfl rfl rfl) rfl<|Wo.od (qu rfl (qj (by rw[ID]; rfl) u3)) rfl<|Wo.od (eD rfl z33 rfl (eF gL rfl rfl rfl)) rfl<|Wo.x (js (es:=([(IntKind.wrap .i64 x46,IntKind.wrap .i64 x47)]:List (Int × Int)).map (eP (eI .i64) (eI .i64))) dY rfl (jj dY z33 rfl rfl) rfl rfl) gn rfl fun b7=>?_
   obtain⟨h33,hF⟩:=al hF;refine Wo.x (iZ (k:=7) (k2:=0) (xs:=(l9:List (Int × Int))) (ys:=([(IntKind.wrap .i64 x46,IntKind.wrap .i64 x47)]:List (Int × Int))) (sK (iM .i64) (iM .i64)) dY ⟨_,hG⟩ rfl rfl rfl (.arr _ _ _ _ _) h33) gn rfl fun a15=>?_;refine Wo.od (ai rfl) rfl<|Wo.nil<|At.bn<|At.tn<|Wk.region<|Wo.od (ak rfl rfl (aF _ _ _)) rfl<|Wo.od (aa rfl) rfl<|Wo.nil ?_;cases hF;exact At.en a15 rfl (sc rfl (sc rfl (sc rfl (sc rfl (sc rfl (sc rfl (sc rfl (sc rfl sn)))))))) (ae.U [3,4,5,6,7,8] rfl rfl)
  ·refine Wk.az rfl h8<|Wk.exit<|At.te ?_;cases hF;exact At.en a9 rfl (sc rfl (sc rfl (sc rfl (sc rfl (sc rfl sn))))) (ae.U [0,1,2,3,4] rfl rfl)
 ·clear h7;rintro a1;refine At.be<|At.tn<|Wk.seq<|Wk.region<|Wo.x (js (es:=([]:List (Int × Int)).map (eP (eI .i64) (eI .i64))) dY rfl (jj dY z33 rfl rfl) rfl rfl) gn rfl fun b8=>?_;refine Wo.od (aa rfl) rfl ?_;obtain⟨h34,hF⟩:=al hF;refine Wo.gN (ae.close (k:=0) rfl)<|Wo.x (iZ (k:=0) (k2:=5) (xs:=([]:List (Int × Int))) (ys:=(l2:List (Int × Int))) (sK (iM .i64) (iM .i64)) dY ⟨_,hG⟩ rfl rfl rfl (.sl _ _ _ _) h34) gn rfl fun a14=>?_;refine Wo.od (ai rfl) rfl<|Wo.nil<|At.tn<|Wk.seq<|Wk.block ?_;obtain⟨l3,h9,hF⟩:=J hF;refine Wk.cut (G:=(fun(r:List (Int × Int)) (g:Option Addr)=>match r,g with|l3,a3=>⟨(.exit 2),[(0,.slice a0 (((l1.drop (0:Int).toNat).take ((mi (l1.length:Int) (20:Int):Int).toNat-(0:Int).toNat)).length) c0),(4,.int .u8 ((x26:Nat):Int)),(7,ptr b1 0),(8,ptr b0 0),(11,.slice a1 l2.length l2.length),(14,.slice a3 l3.length l3.length)],[.rd a0 c0 2 (((l1.drop (0:Int).toNat).take ((mi (l1.length:Int) (20:Int):Int).toNat-(0:Int).toNat)).length) (((l1.drop (0:Int).toNat).take ((mi (l1.length:Int) (20:Int):Int).toNat-(0:Int).toNat)).map (eP (eI .i64) (eI .i64))),.obj b1 (.cells [.slice a2 l4.length c1,.int .i16 x13,.int .i16 x14,.int .u8 ((x15:Nat):Int),.bool x19,.bool x20] .own),.rd a2 c1 1 l4.length (l4.map (eN .u8)),.obj b0 (.cells [.int .i8 x3,.int .i8 x4,.int .i8 x10,.int .i8 x11,.int .i8 x12,.int .i8 x16,.int .i8 x17,.int .i8 x18] .own),.sl a1 2 l2.length (l2.map (eP (eI .i64) (eI .i64))),.sl a3 2 l3.length (l3.map (eP (eI .i64) (eI .i64)))]⟩) l3) ?_ ?_
  ·refine Wk.dz (fs':=[(0,.slice a0 (((l1.drop (0:Int).toNat).take ((mi (l1.length:Int) (20:Int):Int).toNat-(0:Int).toNat)).length) c0),(4,.int .u8 ((x26:Nat):Int)),(7,ptr b1 0),(8,ptr b0 0),(11,.slice a1 l2.length l2.length),(14,.slice a14 (([]:List (Int × Int))++l2).length (([]:List (Int × Int))++l2).length)]) (ps':=[.rd a0 c0 2 (((l1.drop (0:Int).toNat).take ((mi (l1.length:Int) (20:Int):Int).toNat-(0:Int).toNat)).length) (((l1.drop (0:Int).toNat).take ((mi (l1.length:Int) (20:Int):Int).toNat-(0:Int).toNat)).map (eP (eI .i64) (eI .i64))),.obj b1 (.cells [.slice a2 l4.length c1,.int .i16 x13,.int .i16 x14,.int .u8 ((x15:Nat):Int),.bool x19,.bool x20] .own),.rd a2 c1 1 l4.length (l4.map (eN .u8)),.obj b0 (.cells [.int .i8 x3,.int .i8 x4,.int .i8 x10,.int .i8 x11,.int .i8 x12,.int .i8 x16,.int .i8 x17,.int .i8 x18] .own),.sl a1 2 l2.length (l2.map (eP (eI .i64) (eI .i64))),.sl a14 2 (([]:List (Int × Int))++l2).length ((([]:List (Int × Int))++l2).map (eP (eI .i64) (eI .i64)))]) (sc rfl (sc rfl (sc rfl (sc rfl (sc rfl (sc rfl sn)))))) (ae.U [1,2,3,4,5,0] rfl rfl) ?_;refine Wk.loop (σ:=List (Int × Int)) (ρ:=List (Int × Int)) (γ:=Option Addr) (δ:=fun _=>Option Addr) _ (fun(s:List (Int × Int)) (g:Option Addr)=>match s,g with|l8,a10=>⟨.normal,[(0,.slice a0 (((l1.drop (0:Int).toNat).take ((mi (l1.length:Int) (20:Int):Int).toNat-(0:Int).toNat)).length) c0),(4,.int .u8 ((x26:Nat):Int)),(7,ptr b1 0),(8,ptr b0 0),(11,.slice a1 l2.length l2.length),(14,.slice a10 l8.length l8.length)],[.rd a0 c0 2 (((l1.drop (0:Int).toNat).take ((mi (l1.length:Int) (20:Int):Int).toNat-(0:Int).toNat)).length) (((l1.drop (0:Int).toNat).take ((mi (l1.length:Int) (20:Int):Int).toNat-(0:Int).toNat)).map (eP (eI .i64) (eI .i64))),.obj b1 (.cells [.slice a2 l4.length c1,.int .i16 x13,.int .i16 x14,.int .u8 ((x15:Nat):Int),.bool x19,.bool x20] .own),.rd a2 c1 1 l4.length (l4.map (eN .u8)),.obj b0 (.cells [.int .i8 x3,.int .i8 x4,.int .i8 x10,.int .i8 x11,.int .i8 x12,.int .i8 x16,.int .i8 x17,.int .i8 x18] .own),.sl a1 2 l2.length (l2.map (eP (eI .i64) (eI .i64))),.sl a10 2 l8.length (l8.map (eP (eI .i64) (eI .i64)))]⟩) (fun(r:List (Int × Int)) (g:Option Addr)=>match r,g with|l3,a3=>⟨(.exit 2),[(0,.slice a0 (((l1.drop (0:Int).toNat).take ((mi (l1.length:Int) (20:Int):Int).toNat-(0:Int).toNat)).length) c0),(4,.int .u8 ((x26:Nat):Int)),(7,ptr b1 0),(8,ptr b0 0),(11,.slice a1 l2.length l2.length),(14,.slice a3 l3.length l3.length)],[.rd a0 c0 2 (((l1.drop (0:Int).toNat).take ((mi (l1.length:Int) (20:Int):Int).toNat-(0:Int).toNat)).length) (((l1.drop (0:Int).toNat).take ((mi (l1.length:Int) (20:Int):Int).toNat-(0:Int).toNat)).map (eP (eI .i64) (eI .i64))),.obj b1 (.cells [.slice a2 l4.length c1,.int .i16 x13,.int .i16 x14,.int .u8 ((x15:Nat):Int),.bool x19,.bool x20] .own),.rd a2 c1 1 l4.length (l4.map (eN .u8)),.obj b0 (.cells [.int .i8 x3,.int .i8 x4,.int .i8 x10,.int .i8 x11,.int .i8 x12,.int .i8 x16,.int .i8 x17,.int .i8 x18] .own),.sl a1 2 l2.length (l2.map (eP (eI .i64) (eI .i64))),.sl a3 2 l3.length (l3.map (eP (eI .i64) (eI .i64)))]⟩) ?_ (fun _ _=>rfl) (fun r d=>by intro e; cases e) _ _ _ h9 a14
   clear hF h9;rintro l8 a10 r hF;unfold tC at hF;refine Wk.seq<|Wk.seq<|Wk.region<|Wo.od (aa rfl) rfl<|Wo.od (dK (k:=5) hG rfl rfl (.inl rfl)) rfl<|Wo.od (aa rfl) rfl<|Wo.od (ak rfl rfl (wL _ _ (by decide))) rfl<|Wo.od (qu rfl (qj (by rw[u5]; rfl) u3)) rfl<|Wo.od (ak rfl rfl (aF _ _ _)) rfl<|Wo.od (ak rfl rfl (aG _ _ _)) rfl<|Wo.nil<|At.tn ?_
   rcases ah hF with⟨h10,hF⟩|⟨h10,hF⟩
   ·refine Wk.ay rfl h10<|Wk.skip<|At.tn<|Wk.block<|Wk.region<|Wo.od (aa rfl) rfl<|Wo.od (aa rfl) rfl<|Wo.od (dK (k:=5) hG rfl rfl (.inl rfl)) rfl<|Wo.od (ak rfl rfl (e7 _ _ (by decide))) rfl<|Wo.od (aa rfl) rfl<|Wo.od (dK (k:=5) hG rfl rfl (.inl rfl)) rfl<|Wo.od (ak rfl rfl (Gb _ _ (by decide))) rfl<|Wo.od (eD rfl z33 rfl (eF gL rfl rfl rfl)) rfl<|Wo.x (js (es:=([(Int.tmod (l8.length:Int) 14,IntKind.wrap .i64 (Int.tdiv (l8.length:Int) 14))]:List (Int × Int)).map (eP (eI .i64) (eI .i64))) dY rfl (jj dY z33 rfl rfl) rfl rfl) gn rfl fun b9=>?_
    obtain⟨h35,hF⟩:=al hF;refine Wo.x (iZ (k:=6) (k2:=0) (xs:=(l8:List (Int × Int))) (ys:=([(Int.tmod (l8.length:Int) 14,IntKind.wrap .i64 (Int.tdiv (l8.length:Int) 14))]:List (Int × Int))) (sK (iM .i64) (iM .i64)) dY ⟨_,hG⟩ rfl rfl rfl (.arr _ _ _ _ _) h35) gn rfl fun a16=>?_;refine Wo.od (ai rfl) rfl<|Wo.nil<|At.bn ?_;cases hF;exact At.en a16 rfl (sc rfl (sc rfl (sc rfl (sc rfl (sc rfl (sc rfl sn)))))) (ae.U [1,2,3,4,5,6] rfl rfl)
   ·refine Wk.az rfl h10<|Wk.exit<|At.te ?_;cases hF;exact At.en a10 rfl (sc rfl (sc rfl (sc rfl (sc rfl (sc rfl (sc rfl sn)))))) (ae.U [0,1,2,3,4,5] rfl rfl)
  ·clear h9;rintro a3;refine At.be<|At.tn<|Wk.seq<|Wk.region<|Wo.od (ai rfl) rfl<|Wo.nil<|At.tn<|Wk.seq<|Wk.seq<|Wk.region<|Wo.od (aa rfl) rfl<|Wo.od (ak rfl rfl (wL _ _ (by decide))) rfl<|Wo.od (qu rfl (qj (by rw[u5]; rfl) u3)) rfl<|Wo.od (ak rfl rfl (aF _ _ _)) rfl<|Wo.od (aa rfl) rfl<|Wo.nil<|At.tn<|Wk.block ?_
   obtain⟨l6,h11,hF⟩:=J hF;refine Wk.cut (G:=(fun(r:List (Int × Int)) (g:Option Addr)=>match r,g with|l6,a4=>⟨(.exit 4),[(0,.slice a0 (((l1.drop (0:Int).toNat).take ((mi (l1.length:Int) (20:Int):Int).toNat-(0:Int).toNat)).length) c0),(4,.int .u8 ((x26:Nat):Int)),(7,ptr b1 0),(8,ptr b0 0),(11,.slice a1 l2.length l2.length),(14,.slice a3 l3.length l3.length),(15,.slice a4 l6.length l6.length)],[.rd a0 c0 2 (((l1.drop (0:Int).toNat).take ((mi (l1.length:Int) (20:Int):Int).toNat-(0:Int).toNat)).length) (((l1.drop (0:Int).toNat).take ((mi (l1.length:Int) (20:Int):Int).toNat-(0:Int).toNat)).map (eP (eI .i64) (eI .i64))),.obj b1 (.cells [.slice a2 l4.length c1,.int .i16 x13,.int .i16 x14,.int .u8 ((x15:Nat):Int),.bool x19,.bool x20] .own),.rd a2 c1 1 l4.length (l4.map (eN .u8)),.obj b0 (.cells [.int .i8 x3,.int .i8 x4,.int .i8 x10,.int .i8 x11,.int .i8 x12,.int .i8 x16,.int .i8 x17,.int .i8 x18] .own),.sl a1 2 l2.length (l2.map (eP (eI .i64) (eI .i64))),.sl a3 2 l3.length (l3.map (eP (eI .i64) (eI .i64))),.sl a4 2 l6.length (l6.map (eP (eI .i64) (eI .i64)))]⟩) l6) ?_ ?_
   ·refine Wk.dz (fs':=[(0,.slice a0 (((l1.drop (0:Int).toNat).take ((mi (l1.length:Int) (20:Int):Int).toNat-(0:Int).toNat)).length) c0),(4,.int .u8 ((x26:Nat):Int)),(7,ptr b1 0),(8,ptr b0 0),(11,.slice a1 l2.length l2.length),(14,.slice a3 l3.length l3.length),(15,.slice none ([]:List (Int × Int)).length ([]:List (Int × Int)).length),(81,.int .i64 (IntKind.wrap .i64 (30+(IntKind.wrap .i64 ((x26%20:Nat):Int))))),(82,.int .i64 0)]) (ps':=[.rd a0 c0 2 (((l1.drop (0:Int).toNat).take ((mi (l1.length:Int) (20:Int):Int).toNat-(0:Int).toNat)).length) (((l1.drop (0:Int).toNat).take ((mi (l1.length:Int) (20:Int):Int).toNat-(0:Int).toNat)).map (eP (eI .i64) (eI .i64))),.obj b1 (.cells [.slice a2 l4.length c1,.int .i16 x13,.int .i16 x14,.int .u8 ((x15:Nat):Int),.bool x19,.bool x20] .own),.rd a2 c1 1 l4.length (l4.map (eN .u8)),.obj b0 (.cells [.int .i8 x3,.int .i8 x4,.int .i8 x10,.int .i8 x11,.int .i8 x12,.int .i8 x16,.int .i8 x17,.int .i8 x18] .own),.sl a1 2 l2.length (l2.map (eP (eI .i64) (eI .i64))),.sl a3 2 l3.length (l3.map (eP (eI .i64) (eI .i64))),.sl none 2 ([]:List (Int × Int)).length (([]:List (Int × Int)).map (eP (eI .i64) (eI .i64)))]) (sc rfl (sc rfl (sc rfl (sc rfl (sc rfl (sc rfl (sc rfl (sc rfl (sc rfl sn))))))))) (ae.trans (ae.nil 2 rfl) (ae.U [1,2,3,4,5,6,0] rfl rfl)) ?_;refine Wk.loop (σ:=List (Int × Int) × Int) (ρ:=List (Int × Int)) (γ:=Option Addr) (δ:=fun _=>Option Addr) _ (fun(s:List (Int × Int) × Int) (g:Option Addr)=>match s,g with | (l10,v0),a11=>⟨.normal,[(0,.slice a0 (((l1.drop (0:Int).toNat).take ((mi (l1.length:Int) (20:Int):Int).toNat-(0:Int).toNat)).length) c0),(4,.int .u8 ((x26:Nat):Int)),(7,ptr b1 0),(8,ptr b0 0),(11,.slice a1 l2.length l2.length),(14,.slice a3 l3.length l3.length),(15,.slice a11 l10.length l10.length),(81,.int .i64 (IntKind.wrap .i64 (30+(IntKind.wrap .i64 ((x26%20:Nat):Int))))),(82,.int .i64 v0)],[.rd a0 c0 2 (((l1.drop (0:Int).toNat).take ((mi (l1.length:Int) (20:Int):Int).toNat-(0:Int).toNat)).length) (((l1.drop (0:Int).toNat).take ((mi (l1.length:Int) (20:Int):Int).toNat-(0:Int).toNat)).map (eP (eI .i64) (eI .i64))),.obj b1 (.cells [.slice a2 l4.length c1,.int .i16 x13,.int .i16 x14,.int .u8 ((x15:Nat):Int),.bool x19,.bool x20] .own),.rd a2 c1 1 l4.length (l4.map (eN .u8)),.obj b0 (.cells [.int .i8 x3,.int .i8 x4,.int .i8 x10,.int .i8 x11,.int .i8 x12,.int .i8 x16,.int .i8 x17,.int .i8 x18] .own),.sl a1 2 l2.length (l2.map (eP (eI .i64) (eI .i64))),.sl a3 2 l3.length (l3.map (eP (eI .i64) (eI .i64))),.sl a11 2 l10.length (l10.map (eP (eI .i64) (eI .i64)))]⟩) (fun(r:List (Int × Int)) (g:Option Addr)=>match r,g with|l6,a4=>⟨(.exit 4),[(0,.slice a0 (((l1.drop (0:Int).toNat).take ((mi (l1.length:Int) (20:Int):Int).toNat-(0:Int).toNat)).length) c0),(4,.int .u8 ((x26:Nat):Int)),(7,ptr b1 0),(8,ptr b0 0),(11,.slice a1 l2.length l2.length),(14,.slice a3 l3.length l3.length),(15,.slice a4 l6.length l6.length)],[.rd a0 c0 2 (((l1.drop (0:Int).toNat).take ((mi (l1.length:Int) (20:Int):Int).toNat-(0:Int).toNat)).length) (((l1.drop (0:Int).toNat).take ((mi (l1.length:Int) (20:Int):Int).toNat-(0:Int).toNat)).map (eP (eI .i64) (eI .i64))),.obj b1 (.cells [.slice a2 l4.length c1,.int .i16 x13,.int .i16 x14,.int .u8 ((x15:Nat):Int),.bool x19,.bool x20] .own),.rd a2 c1 1 l4.length (l4.map (eN .u8)),.obj b0 (.cells [.int .i8 x3,.int .i8 x4,.int .i8 x10,.int .i8 x11,.int .i8 x12,.int .i8 x16,.int .i8 x17,.int .i8 x18] .own),.sl a1 2 l2.length (l2.map (eP (eI .i64) (eI .i64))),.sl a3 2 l3.length (l3.map (eP (eI .i64) (eI .i64))),.sl a4 2 l6.length (l6.map (eP (eI .i64) (eI .i64)))]⟩) ?_ (fun _ _=>rfl) (fun r d=>by intro e; cases e) _ _ _ h11 none
    clear hF h11;rintro⟨l10,v0⟩ a11 r hF;unfold zk at hF;refine Wk.seq<|Wk.region<|Wo.od (ak rfl rfl (aG _ _ _)) rfl<|Wo.nil<|At.tn<|Wk.seq ?_;rcases ah hF with⟨h12,hF⟩|⟨h12,hF⟩
    ·refine Wk.ay rfl h12<|Wk.skip<|At.tn<|Wk.seq<|Wk.block<|Wk.seq<|Wk.region<|Wo.od (aa rfl) rfl<|Wo.od (ai rfl) rfl<|Wo.nil<|At.tn<|Wk.region<|Wo.od (aa rfl) rfl<|Wo.od (aa rfl) rfl<|Wo.od (aa rfl) rfl<|Wo.od (aa rfl) rfl<|Wo.od (ak rfl rfl (df _ _ _)) rfl<|Wo.od (eD rfl z33 rfl (eF gL rfl rfl rfl)) rfl<|Wo.x (js (es:=([(v0,IntKind.wrap .i64 (v0*v0))]:List (Int × Int)).map (eP (eI .i64) (eI .i64))) dY rfl (jj dY z33 rfl rfl) rfl rfl) gn rfl fun b10=>?_;obtain⟨h36,hF⟩:=al hF;refine Wo.x (iZ (k:=7) (k2:=0) (xs:=(l10:List (Int × Int))) (ys:=([(v0,IntKind.wrap .i64 (v0*v0))]:List (Int × Int))) (sK (iM .i64) (iM .i64)) dY ⟨_,hG⟩ rfl rfl rfl (.arr _ _ _ _ _) h36) gn rfl fun a17=>?_;refine Wo.od (ai rfl) rfl<|Wo.nil<|At.bn<|At.tn<|Wk.region<|Wo.od (ak rfl rfl (aF _ _ _)) rfl<|Wo.od (aa rfl) rfl<|Wo.nil ?_;cases hF;exact At.en a17 rfl (sc rfl (sc rfl (sc rfl (sc rfl (sc rfl (sc rfl (sc rfl (sc rfl (sc rfl sn))))))))) (ae.U [1,2,3,4,5,6,7] rfl rfl)
    ·refine Wk.az rfl h12<|Wk.exit<|At.te ?_;cases hF;exact At.en a11 rfl (sc rfl (sc rfl (sc rfl (sc rfl (sc rfl (sc rfl (sc rfl sn))))))) (ae.U [0,1,2,3,4,5,6] rfl rfl)
   ·clear h11;rintro a4;refine At.be<|At.tn<|Wk.seq<|Wk.seq<|Wk.region<|Wo.od (aa rfl) rfl<|Wo.od (aa rfl) rfl<|Wo.od (aq (k:=1) AG rfl rfl rfl) rfl ?_;obtain⟨l7,h37,hF⟩:=J hF;refine Wo.x (bU rfl rfl (fun m hm=>Gh n l4 x13 x14 x15 x19 x20 a2 c1 _ h37 m (hm.rd (k:=2) rfl (.rd _ _ _ _ _))) fun _=>rfl) gn rfl ?_;rintro⟨a5,n0⟩;refine Wo.len (k:=0) (xs:=l7) rfl ?_;rintro rfl;refine Wo.x (js (es:=([]:List (Int × Int)).map (eP (eI .i64) (eI .i64))) dY rfl (jj dY z33 rfl rfl) rfl rfl) gn rfl fun b11=>?_;refine Wo.od (aa rfl) rfl ?_;obtain⟨h38,hF⟩:=al hF;refine Wo.gN (ae.close (k:=0) rfl)<|Wo.x (iZ (k:=0) (k2:=6) (xs:=([]:List (Int × Int))) (ys:=(l2:List (Int × Int))) (sK (iM .i64) (iM .i64)) dY ⟨_,hG⟩ rfl rfl rfl (.sl _ _ _ _) h38) gn rfl fun a20=>?_;refine Wo.od (aa rfl) rfl ?_;obtain⟨h39,hF⟩:=al hF;refine Wo.x (iZ (k:=0) (k2:=2) (xs:=((([]:List (Int × Int))++l2):List (Int × Int))) (ys:=(((l1.drop (0:Int).toNat).take ((mi (l1.length:Int) (20:Int):Int).toNat-(0:Int).toNat)):List (Int × Int))) (sK (iM .i64) (iM .i64)) dY ⟨_,hG⟩ rfl rfl rfl (.rd _ _ _ _ _) h39) gn rfl fun a6=>?_;refine Wo.od (aa rfl) rfl<|Wo.od (aa rfl) rfl<|Wo.od (eD rfl z36 rfl (eF Jh rfl rfl rfl)) rfl<|Wo.od (aa rfl) rfl<|Wo.nil<|At.tn<|Wk.block ?_;obtain⟨r0,h13,hF⟩:=J hF;refine Wk.cut (G:=(fun(r:(Unit) ⊕ (Unit)) (g:Unit)=>match r,g with | .inl _,_=>⟨.ret,[(10,.bool false)],[]⟩ | .inr _,_=>⟨(.exit 6),[(0,.slice a0 (((l1.drop (0:Int).toNat).take ((mi (l1.length:Int) (20:Int):Int).toNat-(0:Int).toNat)).length) c0),(4,.int .u8 ((x26:Nat):Int)),(8,ptr b0 0)],[.rd a0 c0 2 (((l1.drop (0:Int).toNat).take ((mi (l1.length:Int) (20:Int):Int).toNat-(0:Int).toNat)).length) (((l1.drop (0:Int).toNat).take ((mi (l1.length:Int) (20:Int):Int).toNat-(0:Int).toNat)).map (eP (eI .i64) (eI .i64))),.obj b0 (.cells [.int .i8 x3,.int .i8 x4,.int .i8 x10,.int .i8 x11,.int .i8 x12,.int .i8 x16,.int .i8 x17,.int .i8 x18] .own)]⟩) r0) ?_ ?_
    ·refine Wk.dz (fs':=[(0,.slice a0 (((l1.drop (0:Int).toNat).take ((mi (l1.length:Int) (20:Int):Int).toNat-(0:Int).toNat)).length) c0),(4,.int .u8 ((x26:Nat):Int)),(8,ptr b0 0),(105,.agg #[.slice a0 (((l1.drop (0:Int).toNat).take ((mi (l1.length:Int) (20:Int):Int).toNat-(0:Int).toNat)).length) c0,.slice a1 l2.length l2.length,.slice a5 l7.length l7.length,.slice a6 (((([]:List (Int × Int))++l2)++((l1.drop (0:Int).toNat).take ((mi (l1.length:Int) (20:Int):Int).toNat-(0:Int).toNat))).length) (((([]:List (Int × Int))++l2)++((l1.drop (0:Int).toNat).take ((mi (l1.length:Int) (20:Int):Int).toNat-(0:Int).toNat))).length),.slice a3 l3.length l3.length,.slice a4 l6.length l6.length]),(106,.int .i64 0)]) (ps':=[.rd a0 c0 2 (((l1.drop (0:Int).toNat).take ((mi (l1.length:Int) (20:Int):Int).toNat-(0:Int).toNat)).length) (((l1.drop (0:Int).toNat).take ((mi (l1.length:Int) (20:Int):Int).toNat-(0:Int).toNat)).map (eP (eI .i64) (eI .i64))),.obj b0 (.cells [.int .i8 x3,.int .i8 x4,.int .i8 x10,.int .i8 x11,.int .i8 x12,.int .i8 x16,.int .i8 x17,.int .i8 x18] .own),.rd a1 l2.length 2 l2.length (l2.map (eP (eI .i64) (eI .i64))),.rd a5 l7.length 2 l7.length (l7.map (eP (eI .i64) (eI .i64))),.rd a6 (((([]:List (Int × Int))++l2)++((l1.drop (0:Int).toNat).take ((mi (l1.length:Int) (20:Int):Int).toNat-(0:Int).toNat))).length) 2 (((([]:List (Int × Int))++l2)++((l1.drop (0:Int).toNat).take ((mi (l1.length:Int) (20:Int):Int).toNat-(0:Int).toNat))).length) (((([]:List (Int × Int))++l2)++((l1.drop (0:Int).toNat).take ((mi (l1.length:Int) (20:Int):Int).toNat-(0:Int).toNat))).map (eP (eI .i64) (eI .i64))),.rd a3 l3.length 2 l3.length (l3.map (eP (eI .i64) (eI .i64))),.rd a4 l6.length 2 l6.length (l6.map (eP (eI .i64) (eI .i64)))]) (sc rfl (sc rfl (sc rfl (sc rfl (sc rfl sn))))) (ae.trans (ae.freeze (k:=6) rfl) (ae.trans (ae.freeze (k:=1) rfl) (ae.trans (ae.freeze (k:=0) rfl) (ae.trans (ae.freeze (k:=7) rfl) (ae.trans (ae.freeze (k:=8) rfl) (ae.U [2,5,6,1,0,7,8] rfl rfl)))))) ?_;refine Wk.loop (σ:=Int) (ρ:=(Unit) ⊕ (Unit)) (γ:=Unit) (δ:=fun _=>Unit) _ (fun(s:Int) (g:Unit)=>match s,g with|v1,_=>⟨.normal,[(0,.slice a0 (((l1.drop (0:Int).toNat).take ((mi (l1.length:Int) (20:Int):Int).toNat-(0:Int).toNat)).length) c0),(4,.int .u8 ((x26:Nat):Int)),(8,ptr b0 0),(105,.agg #[.slice a0 (((l1.drop (0:Int).toNat).take ((mi (l1.length:Int) (20:Int):Int).toNat-(0:Int).toNat)).length) c0,.slice a1 l2.length l2.length,.slice a5 l7.length l7.length,.slice a6 (((([]:List (Int × Int))++l2)++((l1.drop (0:Int).toNat).take ((mi (l1.length:Int) (20:Int):Int).toNat-(0:Int).toNat))).length) (((([]:List (Int × Int))++l2)++((l1.drop (0:Int).toNat).take ((mi (l1.length:Int) (20:Int):Int).toNat-(0:Int).toNat))).length),.slice a3 l3.length l3.length,.slice a4 l6.length l6.length]),(106,.int .i64 v1)],[.rd a0 c0 2 (((l1.drop (0:Int).toNat).take ((mi (l1.length:Int) (20:Int):Int).toNat-(0:Int).toNat)).length) (((l1.drop (0:Int).toNat).take ((mi (l1.length:Int) (20:Int):Int).toNat-(0:Int).toNat)).map (eP (eI .i64) (eI .i64))),.obj b0 (.cells [.int .i8 x3,.int .i8 x4,.int .i8 x10,.int .i8 x11,.int .i8 x12,.int .i8 x16,.int .i8 x17,.int .i8 x18] .own),.rd a1 l2.length 2 l2.length (l2.map (eP (eI .i64) (eI .i64))),.rd a5 l7.length 2 l7.length (l7.map (eP (eI .i64) (eI .i64))),.rd a6 (((([]:List (Int × Int))++l2)++((l1.drop (0:Int).toNat).take ((mi (l1.length:Int) (20:Int):Int).toNat-(0:Int).toNat))).length) 2 (((([]:List (Int × Int))++l2)++((l1.drop (0:Int).toNat).take ((mi (l1.length:Int) (20:Int):Int).toNat-(0:Int).toNat))).length) (((([]:List (Int × Int))++l2)++((l1.drop (0:Int).toNat).take ((mi (l1.length:Int) (20:Int):Int).toNat-(0:Int).toNat))).map (eP (eI .i64) (eI .i64))),.rd a3 l3.length 2 l3.length (l3.map (eP (eI .i64) (eI .i64))),.rd a4 l6.length 2 l6.length (l6.map (eP (eI .i64) (eI .i64)))]⟩) (fun(r:(Unit) ⊕ (Unit)) (g:Unit)=>match r,g with | .inl _,_=>⟨.ret,[(10,.bool false)],[]⟩ | .inr _,_=>⟨(.exit 6),[(0,.slice a0 (((l1.drop (0:Int).toNat).take ((mi (l1.length:Int) (20:Int):Int).toNat-(0:Int).toNat)).length) c0),(4,.int .u8 ((x26:Nat):Int)),(8,ptr b0 0)],[.rd a0 c0 2 (((l1.drop (0:Int).toNat).take ((mi (l1.length:Int) (20:Int):Int).toNat-(0:Int).toNat)).length) (((l1.drop (0:Int).toNat).take ((mi (l1.length:Int) (20:Int):Int).toNat-(0:Int).toNat)).map (eP (eI .i64) (eI .i64))),.obj b0 (.cells [.int .i8 x3,.int .i8 x4,.int .i8 x10,.int .i8 x11,.int .i8 x12,.int .i8 x16,.int .i8 x17,.int .i8 x18] .own)]⟩) ?_ (fun _ _=>rfl) (fun r d=>by rcases r with _|_<;>(intro e; cases e)) _ _ _ h13 ()
     clear hF h13;rintro v1 ⟨⟩ r hF;unfold BZ at hF;refine Wk.seq<|Wk.region<|Wo.od (ak rfl rfl (aG _ _ _)) rfl<|Wo.nil<|At.tn<|Wk.seq ?_;rcases ah hF with⟨h14,hF⟩|⟨h14,hF⟩
     ·refine Wk.ay rfl h14<|Wk.skip<|At.tn<|Wk.seq<|Wk.block<|Wk.seq<|Wk.region ?_;obtain⟨h40,hF⟩:=al hF;obtain⟨l11,h0,hF⟩:=J hF;refine Wo.x (B4 (α:=Option Addr × Nat) (V:=fun g=>match g with | (a7,c2)=>.slice a7 l11.length c2) (N:=fun g=>match g with | (a7,c2)=>[.rd a7 c2 2 l11.length (l11.map (eP (eI .i64) (eI .i64)))]++[.rd a0 c0 2 (((l1.drop (0:Int).toNat).take ((mi (l1.length:Int) (20:Int):Int).toNat-(0:Int).toNat)).length) (((l1.drop (0:Int).toNat).take ((mi (l1.length:Int) (20:Int):Int).toNat-(0:Int).toNat)).map (eP (eI .i64) (eI .i64))),.obj b0 (.cells [.int .i8 x3,.int .i8 x4,.int .i8 x10,.int .i8 x11,.int .i8 x12,.int .i8 x16,.int .i8 x17,.int .i8 x18] .own),.rd a1 l2.length 2 l2.length (l2.map (eP (eI .i64) (eI .i64))),.rd a5 l7.length 2 l7.length (l7.map (eP (eI .i64) (eI .i64))),.rd a6 (((([]:List (Int × Int))++l2)++((l1.drop (0:Int).toNat).take ((mi (l1.length:Int) (20:Int):Int).toNat-(0:Int).toNat))).length) 2 (((([]:List (Int × Int))++l2)++((l1.drop (0:Int).toNat).take ((mi (l1.length:Int) (20:Int):Int).toNat-(0:Int).toNat))).length) (((([]:List (Int × Int))++l2)++((l1.drop (0:Int).toNat).take ((mi (l1.length:Int) (20:Int):Int).toNat-(0:Int).toNat))).map (eP (eI .i64) (eI .i64))),.rd a3 l3.length 2 l3.length (l3.map (eP (eI .i64) (eI .i64))),.rd a4 l6.length 2 l6.length (l6.map (eP (eI .i64) (eI .i64)))]) rfl rfl (fun m hm=>?_)) gn rfl ?_
      ·have hj:=av h40;obtain⟨j,h4⟩:∃j:Nat,(v1:Int)=j:=⟨_,(Int.toNat_of_nonneg hj.1).symm⟩;rw[h4] at h0 hj ⊢;rw[Int.toNat_natCast] at h0 hj;replace hj:=hj.2;clear hF h4
       match j,hj,h0 with
       | 0,_,h0=>cases h0; exact⟨(a0,c0),nQ Ad (i:=0) (by decide) (me zL rfl),(Hp.dup hm (k:=0) rfl)⟩
       | 1,_,h0=>cases h0; exact⟨(a1,l2.length),nQ Ad (i:=1) (by decide) (me zL rfl),(Hp.dup hm (k:=2) rfl)⟩
       | 2,_,h0=>cases h0; exact⟨(a5,l7.length),nQ Ad (i:=2) (by decide) (me zL rfl),(Hp.dup hm (k:=3) rfl)⟩
       | 3,_,h0=>cases h0; exact⟨(a6,(((([]:List (Int × Int))++l2)++((l1.drop (0:Int).toNat).take ((mi (l1.length:Int) (20:Int):Int).toNat-(0:Int).toNat))).length)),nQ Ad (i:=3) (by decide) (me zL rfl),(Hp.dup hm (k:=4) rfl)⟩
       | 4,_,h0=>cases h0; exact⟨(a3,l3.length),nQ Ad (i:=4) (by decide) (me zL rfl),(Hp.dup hm (k:=5) rfl)⟩
       | 5,_,h0=>cases h0; exact⟨(a4,l6.length),nQ Ad (i:=5) (by decide) (me zL rfl),(Hp.dup hm (k:=6) rfl)⟩
       | _+6,hj,_=>exact absurd hj (by omega)
      rintro⟨a7,c2⟩;refine Wo.od (ai rfl) rfl<|Wo.nil<|At.tn<|Wk.seq<|Wk.region<|Wo.od (aa rfl) rfl ?_;obtain⟨⟨l14,r2⟩,h41,hF⟩:=J hF;refine Wo.x (HG (N:=(fun x:Option Addr × Nat × Nat=>[.rd x.1 x.2.1 2 x.2.2 (l14.map (eP (eI .i64) (eI .i64)))])) rfl rfl (fun m hm=>GB n l11 a7 c2 _ h41 m hm.Ew (hm.rd (k:=0) rfl (.rd _ _ _ _ _)) (hm.HZ (k:=0) rfl)) fun _=>rfl) gn rfl ?_;rintro⟨a18,c6,n1⟩;refine Wo.Jf (k:=0) (xs:=l14) rfl ?_;rintro rfl;refine Wo.od (aa rfl) rfl<|Wo.od (nU rfl rfl) rfl<|Wo.od (nU rfl rfl) rfl<|Wo.od (ai rfl) rfl<|Wo.od (ai rfl) rfl<|Wo.nil<|At.tn<|Wk.seq<|Wk.region<|Wo.od (aa rfl) rfl ?_;obtain⟨⟨l15,r3⟩,h42,hF⟩:=J hF;refine Wo.x (bU rfl rfl (fun m hm=>GF n l11 a7 c2 _ h42 m (hm.rd (k:=1) rfl (.rd _ _ _ _ _))) fun _=>rfl) gn rfl ?_;rintro⟨a19,n2⟩;refine Wo.len (k:=0) (xs:=l15) rfl ?_;rintro rfl;refine Wo.od (aa rfl) rfl<|Wo.od (nU rfl rfl) rfl<|Wo.od (nU rfl rfl) rfl<|Wo.od (ai rfl) rfl<|Wo.od (ai rfl) rfl<|Wo.nil<|At.tn<|Wk.seq ?_;obtain⟨v2,h43,hF⟩:=J hF;refine Wk.cut (G:=(fun(r:Bool) (g:Unit)=>match r,g with|v2,_=>⟨.normal,[(0,.slice a0 (((l1.drop (0:Int).toNat).take ((mi (l1.length:Int) (20:Int):Int).toNat-(0:Int).toNat)).length) c0),(4,.int .u8 ((x26:Nat):Int)),(8,ptr b0 0),(105,.agg #[.slice a0 (((l1.drop (0:Int).toNat).take ((mi (l1.length:Int) (20:Int):Int).toNat-(0:Int).toNat)).length) c0,.slice a1 l2.length l2.length,.slice a5 l7.length l7.length,.slice a6 (((([]:List (Int × Int))++l2)++((l1.drop (0:Int).toNat).take ((mi (l1.length:Int) (20:Int):Int).toNat-(0:Int).toNat))).length) (((([]:List (Int × Int))++l2)++((l1.drop (0:Int).toNat).take ((mi (l1.length:Int) (20:Int):Int).toNat-(0:Int).toNat))).length),.slice a3 l3.length l3.length,.slice a4 l6.length l6.length]),(106,.int .i64 v1),(127,.bool v2)],[.rd a0 c0 2 (((l1.drop (0:Int).toNat).take ((mi (l1.length:Int) (20:Int):Int).toNat-(0:Int).toNat)).length) (((l1.drop (0:Int).toNat).take ((mi (l1.length:Int) (20:Int):Int).toNat-(0:Int).toNat)).map (eP (eI .i64) (eI .i64))),.obj b0 (.cells [.int .i8 x3,.int .i8 x4,.int .i8 x10,.int .i8 x11,.int .i8 x12,.int .i8 x16,.int .i8 x17,.int .i8 x18] .own),.rd a1 l2.length 2 l2.length (l2.map (eP (eI .i64) (eI .i64))),.rd a5 l7.length 2 l7.length (l7.map (eP (eI .i64) (eI .i64))),.rd a6 (((([]:List (Int × Int))++l2)++((l1.drop (0:Int).toNat).take ((mi (l1.length:Int) (20:Int):Int).toNat-(0:Int).toNat))).length) 2 (((([]:List (Int × Int))++l2)++((l1.drop (0:Int).toNat).take ((mi (l1.length:Int) (20:Int):Int).toNat-(0:Int).toNat))).length) (((([]:List (Int × Int))++l2)++((l1.drop (0:Int).toNat).take ((mi (l1.length:Int) (20:Int):Int).toNat-(0:Int).toNat))).map (eP (eI .i64) (eI .i64))),.rd a3 l3.length 2 l3.length (l3.map (eP (eI .i64) (eI .i64))),.rd a4 l6.length 2 l6.length (l6.map (eP (eI .i64) (eI .i64)))]⟩) v2) ?_ ?_
      ·clear hF;revert v2;intro r hF;refine Wk.region<|Wo.od (aa rfl) rfl<|Wo.od (aa rfl) rfl<|Wo.od (ak rfl rfl (eJ _ _)) rfl<|Wo.od (aa rfl) rfl ?_;rcases ah hF with⟨h1,hF⟩|⟨h1,hF⟩
       ·refine Wo.s (gg rfl rfl (dg h1)) rfl<|Wo.s (gg rfl rfl (dg h1)) rfl<|Wo.s (gg rfl rfl (dg h1)) rfl<|Wo.s (gg rfl rfl (dg h1)) rfl<|Wo.od (cZ rfl h1 rfl) rfl<|Wo.nil ?_;cases hF;exact At.en () rfl (sc rfl (sc rfl (sc rfl (sc rfl (sc rfl (sc rfl sn)))))) (ae.U [3,4,5,6,7,8,9] rfl rfl)
       ·refine Wo.og (aa rfl) (gg rfl rfl (cY h1)) rfl<|Wo.og (aa rfl) (gg rfl rfl (cY h1)) rfl ?_;obtain⟨r4,h44,hF⟩:=J hF;refine Wo.x (bU rfl rfl (fun m hm=>Gv n l14 l15 a18 c6 a19 l15.length _ h44 m (hm.rd (k:=1) rfl (.rd _ _ _ _ _)) (hm.rd (k:=0) rfl (.sl _ _ _ _))) fun _=>rfl) (gg rfl rfl (cY h1)) rfl ?_;rintro⟨⟩;refine Wo.og (zt rfl rfl) (gg rfl rfl (cY h1)) rfl<|Wo.od (cP rfl h1 rfl) rfl<|Wo.nil ?_;cases hF;exact At.en () rfl (sc rfl (sc rfl (sc rfl (sc rfl (sc rfl (sc rfl sn)))))) (ae.U [3,4,5,6,7,8,9] rfl rfl)
      ·clear h43;rintro⟨⟩;refine At.tn ?_;rcases ah hF with⟨h15,hF⟩|⟨h15,hF⟩
       ·refine Wk.ay rfl h15<|Wk.seq<|Wk.region<|Wo.od (ai rfl) rfl<|Wo.nil<|At.tn<|Wk.ret<|At.br<|At.tr ?_;cases hF;exact At.en () rfl (sc rfl sn) (ae.U [] rfl rfl)
       ·refine Wk.az rfl h15<|Wk.skip<|At.bn<|At.tn<|Wk.region<|Wo.od (ak rfl rfl (aF _ _ _)) rfl<|Wo.od (aa rfl) rfl<|Wo.nil ?_;cases hF;exact At.en () rfl (sc rfl (sc rfl (sc rfl (sc rfl (sc rfl sn))))) (ae.U [0,1,2,3,4,5,6] rfl rfl)
     ·refine Wk.az rfl h14<|Wk.exit<|At.te ?_;cases hF;exact At.en () rfl (sc rfl (sc rfl (sc rfl sn))) (ae.U [0,1] rfl rfl)
    ·clear h13;rcases r0 with _|_
     ·rintro⟨⟩;refine At.br<|At.tr ?_;cases hF;exact At.ret (.tmp rfl .nil) fun m' hm=>⟨(),rfl,(ae.U [] rfl rfl) m' hm⟩
     ·rintro⟨⟩;refine At.be<|At.tn<|Wk.seq<|Wk.region<|Wo.x (jm z41 rfl) gn rfl fun b2=>?_;refine Wo.nil<|At.tn<|Wk.seq<|Wk.seq<|Wk.region<|Wo.od (aa rfl) rfl<|Wo.nil<|At.tn<|Wk.block ?_;obtain⟨l12,h16,hF⟩:=J hF;refine Wk.cut (G:=(fun(r:List (Int × Int)) (g:Unit)=>match r,g with|l12,_=>⟨(.exit 8),[(0,.slice a0 (((l1.drop (0:Int).toNat).take ((mi (l1.length:Int) (20:Int):Int).toNat-(0:Int).toNat)).length) c0),(4,.int .u8 ((x26:Nat):Int)),(23,ptr b2 0)],[.rd a0 c0 2 (((l1.drop (0:Int).toNat).take ((mi (l1.length:Int) (20:Int):Int).toNat-(0:Int).toNat)).length) (((l1.drop (0:Int).toNat).take ((mi (l1.length:Int) (20:Int):Int).toNat-(0:Int).toNat)).map (eP (eI .i64) (eI .i64))),.arr b2 2 4 (l12.map (eP (eI .i64) (eI .i64))) .own]⟩) l12) ?_ ?_
      ·refine Wk.dz (fs':=[(0,.slice a0 (((l1.drop (0:Int).toNat).take ((mi (l1.length:Int) (20:Int):Int).toNat-(0:Int).toNat)).length) c0),(4,.int .u8 ((x26:Nat):Int)),(8,ptr b0 0),(23,ptr b2 0),(129,.int .i64 0)]) (ps':=[.rd a0 c0 2 (((l1.drop (0:Int).toNat).take ((mi (l1.length:Int) (20:Int):Int).toNat-(0:Int).toNat)).length) (((l1.drop (0:Int).toNat).take ((mi (l1.length:Int) (20:Int):Int).toNat-(0:Int).toNat)).map (eP (eI .i64) (eI .i64))),.arr b0 2 4 (([(x3,x4),(x10,x11),(x12,x16),(x17,x18)]:List (Int × Int)).map (eP (eI .i8) (eI .i8))) .own,.arr b2 2 4 (([(0,0),(0,0),(0,0),(0,0)]:List (Int × Int)).map (eP (eI .i64) (eI .i64))) .own]) (sc rfl (sc rfl (sc rfl (sc rfl (sc rfl sn))))) (ae.trans (ae.um (k:=2) (xs:=([(x3,x4),(x10,x11),(x12,x16),(x17,x18)]:List (Int × Int))) (f:=eP (eI .i8) (eI .i8)) (l:=4) (w:=2) rfl rfl rfl (sK (iM .i8) (iM .i8)) rfl) (ae.trans (ae.um (k:=0) (xs:=([(0,0),(0,0),(0,0),(0,0)]:List (Int × Int))) (f:=eP (eI .i64) (eI .i64)) (l:=4) (w:=2) rfl rfl rfl (sK (iM .i64) (iM .i64)) rfl) (ae.U [1,2,0] rfl rfl))) ?_;refine Wk.loop (σ:=List (Int × Int) × List (Int × Int) × Int) (ρ:=List (Int × Int)) (γ:=Unit) (δ:=fun _=>Unit) _ (fun(s:List (Int × Int) × List (Int × Int) × Int) (g:Unit)=>match s,g with | (l16,l17,v3),_=>⟨.normal,[(0,.slice a0 (((l1.drop (0:Int).toNat).take ((mi (l1.length:Int) (20:Int):Int).toNat-(0:Int).toNat)).length) c0),(4,.int .u8 ((x26:Nat):Int)),(8,ptr b0 0),(23,ptr b2 0),(129,.int .i64 v3)],[.rd a0 c0 2 (((l1.drop (0:Int).toNat).take ((mi (l1.length:Int) (20:Int):Int).toNat-(0:Int).toNat)).length) (((l1.drop (0:Int).toNat).take ((mi (l1.length:Int) (20:Int):Int).toNat-(0:Int).toNat)).map (eP (eI .i64) (eI .i64))),.arr b0 2 4 (l16.map (eP (eI .i8) (eI .i8))) .own,.arr b2 2 4 (l17.map (eP (eI .i64) (eI .i64))) .own]⟩) (fun(r:List (Int × Int)) (g:Unit)=>match r,g with|l12,_=>⟨(.exit 8),[(0,.slice a0 (((l1.drop (0:Int).toNat).take ((mi (l1.length:Int) (20:Int):Int).toNat-(0:Int).toNat)).length) c0),(4,.int .u8 ((x26:Nat):Int)),(23,ptr b2 0)],[.rd a0 c0 2 (((l1.drop (0:Int).toNat).take ((mi (l1.length:Int) (20:Int):Int).toNat-(0:Int).toNat)).length) (((l1.drop (0:Int).toNat).take ((mi (l1.length:Int) (20:Int):Int).toNat-(0:Int).toNat)).map (eP (eI .i64) (eI .i64))),.arr b2 2 4 (l12.map (eP (eI .i64) (eI .i64))) .own]⟩) ?_ (fun _ _=>rfl) (fun r d=>by intro e; cases e) _ _ _ h16 ()
       clear hF h16;rintro⟨l16,l17,v3⟩ ⟨⟩ r hF;unfold xz at hF;refine Wk.seq<|Wk.region<|Wo.od (ak rfl rfl (aG _ _ _)) rfl<|Wo.nil<|At.tn<|Wk.seq ?_;rcases ah hF with⟨h17,hF⟩|⟨h17,hF⟩
       ·refine Wk.ay rfl h17<|Wk.skip<|At.tn<|Wk.seq<|Wk.block<|Wk.seq<|Wk.region<|Wo.od (aa rfl) rfl<|Wo.od (ai rfl) rfl<|Wo.nil<|At.tn<|Wk.draw (by kernel_rfl)<|Wo.od (aa rfl) rfl<|Wo.od (aa rfl) rfl ?_
        obtain⟨h18,hF⟩:=al hF;replace h18:=av h18;refine Wo.og (qT H7 rfl rfl h18) gn rfl<|Wo.od (jR (r:=ptr b0 (v3.toNat*2+0)) rfl rfl (kM CQ (i:=0) (by decide))) rfl ?_
        obtain⟨⟨x48,x49⟩,h26,hF⟩:=J hF;refine Wo.od (fP (k:=1) Db rfl rfl (aQ h26) rfl rfl) rfl<|Wo.od (qu rfl (qj (by rw[ID]; rfl) u3)) rfl<|Wo.od (ak rfl rfl (e7 _ _ (by decide))) rfl<|Wo.od (aa rfl) rfl ?_
        obtain⟨h19,hF⟩:=al hF;replace h19:=av h19;refine Wo.og (qT H7 rfl rfl h19) gn rfl<|Wo.od (jR (r:=ptr b0 (v3.toNat*2+1)) rfl rfl (kM CQ (i:=1) (by decide))) rfl<|Wo.od (fP (k:=1) Db rfl rfl (aQ h26) rfl rfl) rfl<|Wo.od (qu rfl (qj (by rw[ID]; rfl) u3)) rfl<|Wo.od (ak rfl rfl (e7 _ _ (by decide))) rfl<|Wo.od (eD rfl z33 rfl (eF gL rfl rfl rfl)) rfl ?_
        obtain⟨h20,hF⟩:=al hF;replace h20:=av h20;refine Wo.og (qT kW rfl rfl h20) gn rfl ?_;obtain⟨⟨x50,x51⟩,h45,hF⟩:=J hF;refine Wo.o0 (xO (k:=2) (x1:=(x50,x51)) (x2:=(Int.tmod (IntKind.wrap .i64 x48) 6,Int.tmod (IntKind.wrap .i64 x49) 6)) aw rfl rfl rfl h45 rfl)<|Wo.nil<|At.bn<|At.tn<|Wk.region<|Wo.od (ak rfl rfl (aF _ _ _)) rfl<|Wo.od (aa rfl) rfl<|Wo.nil ?_;cases hF;exact At.en () rfl (sc rfl (sc rfl (sc rfl (sc rfl (sc rfl sn))))) (ae.U [0,1,2] rfl rfl)
       ·refine Wk.az rfl h17<|Wk.exit<|At.te ?_;cases hF;exact At.en () rfl (sc rfl (sc rfl (sc rfl sn))) (ae.U [0,2] rfl rfl)
      ·clear h16;rintro⟨⟩;refine At.be<|At.tn<|Wk.seq<|Wk.region ?_;obtain⟨⟨⟨x21,x22⟩,⟨x23,x24⟩,⟨x25,x27⟩,⟨x28,x29⟩⟩,h46,hF⟩:=J hF;refine Wo.gN (ae.yD (k:=1) (ys:=[(x21,x22),(x23,x24),(x25,x27),(x28,x29)]) (cs:=[.int .i64 x21,.int .i64 x22,.int .i64 x23,.int .i64 x24,.int .i64 x25,.int .i64 x27,.int .i64 x28,.int .i64 x29]) rfl (ux h46) rfl)<|Wo.od (aq (k:=1) wo rfl rfl rfl) rfl<|Wo.x (jm z41 rfl) gn rfl fun b5=>?_;refine Wo.o0 (hY (k:=0) wo rfl rfl rfl rfl rfl)<|Wo.nil<|At.tn<|Wk.seq ?_;obtain⟨l13,h47,hF⟩:=J hF;refine Wk.cut (G:=(fun(r:List (Int × Int)) (g:Unit)=>match r,g with|l13,_=>⟨.normal,[(23,ptr b2 0),(25,ptr b5 0)],[.obj b2 (.cells [.int .i64 x21,.int .i64 x22,.int .i64 x23,.int .i64 x24,.int .i64 x25,.int .i64 x27,.int .i64 x28,.int .i64 x29] .own),.arr b5 2 4 (l13.map (eP (eI .i64) (eI .i64))) .own]⟩) l13) ?_ ?_
       ·clear hF;revert l13;intro r hF;refine Wk.seq<|Wk.region<|Wo.od (aa rfl) rfl<|Wo.od (dK (k:=1) hG rfl rfl (.inl rfl)) rfl<|Wo.od (ak rfl rfl (bS _ _ _)) rfl<|Wo.nil<|At.tn ?_;rcases ah hF with⟨h21,hF⟩|⟨h21,hF⟩
        ·refine Wk.ay rfl h21<|Wk.region<|Wo.od (aa rfl) rfl<|Wo.od (ak rfl rfl (wL _ _ (by decide))) rfl<|Wo.od (aa rfl) rfl ?_
         obtain⟨h6,hF⟩:=al hF;replace h6:=av h6;refine Wo.ey (k:=1) rfl (bV h6) ?_;rintro b12 o2 rfl;refine Wo.og (cD dY rfl rfl h6) gn rfl ?_;obtain⟨⟨x52,x53⟩,h48,hF⟩:=J hF;refine Wo.od (cW (k:=0) aw rfl rfl (aQ h48) rfl rfl) rfl ?_;obtain⟨h22,hF⟩:=al hF;replace h22:=av h22;refine Wo.gN (ae.um (k:=1) (xs:=([(x21,x22),(x23,x24),(x25,x27),(x28,x29)]:List (Int × Int))) (f:=eP (eI .i64) (eI .i64)) (l:=4) (w:=2) rfl rfl rfl (sK (iM .i64) (iM .i64)) rfl)<|Wo.og (qT kW rfl rfl h22) gn rfl ?_;obtain⟨⟨x54,x55⟩,h49,hF⟩:=J hF;refine Wo.o0 (xO (k:=1) (x1:=(x54,x55)) (x2:=(x52,x53)) aw rfl rfl rfl h49 rfl)<|Wo.nil ?_;cases hF;exact At.en () rfl (sc rfl (sc rfl sn)) (ae.U [3,1] rfl rfl)
        ·refine Wk.az rfl h21<|Wk.skip ?_;cases hF;exact At.en () rfl (sc rfl (sc rfl sn)) (ae.trans (ae.um (k:=0) (xs:=([(x21,x22),(x23,x24),(x25,x27),(x28,x29)]:List (Int × Int))) (f:=eP (eI .i64) (eI .i64)) (l:=4) (w:=2) rfl rfl rfl (sK (iM .i64) (iM .i64)) rfl) (ae.U [2,0] rfl rfl))
       ·clear h47;rintro⟨⟩;refine At.tn<|Wk.seq<|Wk.seq<|Wk.region<|Wo.od (aq (k:=0) wo rfl rfl rfl) rfl ?_;obtain⟨⟨⟨x30,x31⟩,⟨x32,x33⟩,⟨x34,x35⟩,⟨x36,x37⟩⟩,h50,hF⟩:=J hF;refine Wo.gN (ae.yD (k:=1) (ys:=[(x30,x31),(x32,x33),(x34,x35),(x36,x37)]) (cs:=[.int .i64 x30,.int .i64 x31,.int .i64 x32,.int .i64 x33,.int .i64 x34,.int .i64 x35,.int .i64 x36,.int .i64 x37]) rfl (ux h50) rfl)<|Wo.od (aq (k:=1) wo rfl rfl rfl) rfl<|Wo.od (eD rfl z42 rfl (eF IT rfl rfl rfl)) rfl<|Wo.od (aa rfl) rfl<|Wo.nil<|At.tn<|Wk.block ?_;obtain⟨r1,h23,hF⟩:=J hF;refine Wk.cut (G:=(fun(r:(Unit) ⊕ (Unit)) (g:Unit)=>match r,g with | .inl _,_=>⟨.ret,[(10,.bool false)],[]⟩ | .inr _,_=>⟨(.exit 10),[],[]⟩) r1) ?_ ?_
        ·refine Wk.dz (fs':=[(160,.agg #[.int .i64 x21,.int .i64 x22,.int .i64 x23,.int .i64 x24,.int .i64 x25,.int .i64 x27,.int .i64 x28,.int .i64 x29,.int .i64 x30,.int .i64 x31,.int .i64 x32,.int .i64 x33,.int .i64 x34,.int .i64 x35,.int .i64 x36,.int .i64 x37]),(161,.int .i64 0)]) (ps':=[]) (sc rfl (sc rfl sn)) (ae.U [] rfl rfl) ?_;refine Wk.loop (σ:=Int) (ρ:=(Unit) ⊕ (Unit)) (γ:=Unit) (δ:=fun _=>Unit) _ (fun(s:Int) (g:Unit)=>match s,g with|v4,_=>⟨.normal,[(160,.agg #[.int .i64 x21,.int .i64 x22,.int .i64 x23,.int .i64 x24,.int .i64 x25,.int .i64 x27,.int .i64 x28,.int .i64 x29,.int .i64 x30,.int .i64 x31,.int .i64 x32,.int .i64 x33,.int .i64 x34,.int .i64 x35,.int .i64 x36,.int .i64 x37]),(161,.int .i64 v4)],[]⟩) (fun(r:(Unit) ⊕ (Unit)) (g:Unit)=>match r,g with | .inl _,_=>⟨.ret,[(10,.bool false)],[]⟩ | .inr _,_=>⟨(.exit 10),[],[]⟩) ?_ (fun _ _=>rfl) (fun r d=>by rcases r with _|_<;>(intro e; cases e)) _ _ _ h23 ()
         clear hF h23;rintro v4 ⟨⟩ r hF;unfold B1 at hF;refine Wk.seq<|Wk.region<|Wo.od (ak rfl rfl (aG _ _ _)) rfl<|Wo.nil<|At.tn<|Wk.seq ?_;rcases ah hF with⟨h24,hF⟩|⟨h24,hF⟩
         ·refine Wk.ay rfl h24<|Wk.skip<|At.tn<|Wk.seq<|Wk.block<|Wk.seq<|Wk.region ?_;obtain⟨h51,hF⟩:=al hF;obtain⟨⟨x38,x39,x40,x41,x42,x43,x44,x45⟩,h3,hF⟩:=J hF;refine Wo.x (B4 (α:=Unit) (V:=fun g=>match g with|_=>.agg #[.int .i64 x38,.int .i64 x39,.int .i64 x40,.int .i64 x41,.int .i64 x42,.int .i64 x43,.int .i64 x44,.int .i64 x45]) (N:=fun g=>match g with|_=>[]++[]) rfl rfl (fun m hm=>?_)) gn rfl ?_
          ·have hj:=av h51;obtain⟨j,h4⟩:∃j:Nat,(v4:Int)=j:=⟨_,(Int.toNat_of_nonneg hj.1).symm⟩;rw[h4] at h3 hj ⊢;rw[Int.toNat_natCast] at h3 hj;replace hj:=hj.2;clear hF h4
           match j,hj,h3 with
           | 0,_,h3=>cases h3; exact⟨(),nQ Ig (i:=0) (by decide) (mG wo rfl),hm⟩
           | 1,_,h3=>cases h3; exact⟨(),nQ Ig (i:=1) (by decide) (mG wo rfl),hm⟩
           | _+2,hj,_=>exact absurd hj (by omega)
          rintro⟨⟩;refine Wo.x (jm z41 rfl) gn rfl fun b3=>?_;refine Wo.o0 (hY (k:=0) wo rfl rfl rfl rfl rfl)<|Wo.nil<|At.tn<|Wk.seq<|Wk.region<|Wo.od (jR (r:=ptr b3 0) rfl rfl (kM kW (i:=0) (by decide))) rfl<|Wo.od (aq (k:=0) aw rfl rfl rfl) rfl<|Wo.od (jR (r:=ptr b3 2) rfl rfl (kM kW (i:=1) (by decide))) rfl<|Wo.od (aq (k:=0) aw rfl rfl rfl) rfl<|Wo.od (jR (r:=ptr b3 4) rfl rfl (kM kW (i:=2) (by decide))) rfl<|Wo.od (aq (k:=0) aw rfl rfl rfl) rfl<|Wo.od (jR (r:=ptr b3 6) rfl rfl (kM kW (i:=3) (by decide))) rfl<|Wo.od (aq (k:=0) aw rfl rfl rfl) rfl ?_
          obtain⟨⟨r5,r6⟩,h52,hF⟩:=J hF;refine Wo.x (bU rfl rfl (fun m hm=>Fc n x38 x39 x40 x41 x42 x43 x44 x45  _ h52 m) fun _=>rfl) gn rfl ?_;rintro⟨⟩;refine Wo.od (aa rfl) rfl<|Wo.od (nU rfl rfl) rfl<|Wo.od (nU rfl rfl) rfl<|Wo.od (ai rfl) rfl<|Wo.od (ai rfl) rfl<|Wo.nil<|At.tn<|Wk.seq<|Wk.region<|Wo.od (jR (r:=ptr b3 0) rfl rfl (kM kW (i:=0) (by decide))) rfl<|Wo.od (aq (k:=0) aw rfl rfl rfl) rfl<|Wo.od (jR (r:=ptr b3 2) rfl rfl (kM kW (i:=1) (by decide))) rfl<|Wo.od (aq (k:=0) aw rfl rfl rfl) rfl<|Wo.od (jR (r:=ptr b3 4) rfl rfl (kM kW (i:=2) (by decide))) rfl ?_
          refine Wo.od (aq (k:=0) aw rfl rfl rfl) rfl<|Wo.od (jR (r:=ptr b3 6) rfl rfl (kM kW (i:=3) (by decide))) rfl<|Wo.od (aq (k:=0) aw rfl rfl rfl) rfl ?_
          obtain⟨⟨r7,r8⟩,h53,hF⟩:=J hF;refine Wo.x (bU rfl rfl (fun m hm=>F5 n x38 x39 x40 x41 x42 x43 x44 x45  _ h53 m) fun _=>rfl) gn rfl ?_;rintro⟨⟩;refine Wo.od (aa rfl) rfl<|Wo.od (nU rfl rfl) rfl<|Wo.od (nU rfl rfl) rfl<|Wo.od (ai rfl) rfl<|Wo.od (ai rfl) rfl<|Wo.nil<|At.tn<|Wk.seq ?_;obtain⟨v5,h54,hF⟩:=J hF;refine Wk.cut (G:=(fun(r:Bool) (g:Unit)=>match r,g with|v5,_=>⟨.normal,[(160,.agg #[.int .i64 x21,.int .i64 x22,.int .i64 x23,.int .i64 x24,.int .i64 x25,.int .i64 x27,.int .i64 x28,.int .i64 x29,.int .i64 x30,.int .i64 x31,.int .i64 x32,.int .i64 x33,.int .i64 x34,.int .i64 x35,.int .i64 x36,.int .i64 x37]),(161,.int .i64 v4),(195,.bool v5)],[]⟩) v5) ?_ ?_
          ·clear hF;revert v5;intro r hF;refine Wk.region<|Wo.od (aa rfl) rfl<|Wo.od (aa rfl) rfl<|Wo.od (ak rfl rfl (eJ _ _)) rfl<|Wo.od (aa rfl) rfl ?_;rcases ah hF with⟨h2,hF⟩|⟨h2,hF⟩
           ·refine Wo.s (gg rfl rfl (dg h2)) rfl<|Wo.s (gg rfl rfl (dg h2)) rfl<|Wo.s (gg rfl rfl (dg h2)) rfl<|Wo.od (cZ rfl h2 rfl) rfl<|Wo.nil ?_;cases hF;exact At.en () rfl (sc rfl (sc rfl (sc rfl sn))) (ae.U [] rfl rfl)
           ·refine Wo.og (aa rfl) (gg rfl rfl (cY h2)) rfl<|Wo.og (aa rfl) (gg rfl rfl (cY h2)) rfl<|Wo.og (ak rfl rfl (eJ _ _)) (gg rfl rfl (cY h2)) rfl<|Wo.od (cP rfl h2 rfl) rfl<|Wo.nil ?_;cases hF;exact At.en () rfl (sc rfl (sc rfl (sc rfl sn))) (ae.U [] rfl rfl)
          ·clear h54;rintro⟨⟩;refine At.tn ?_;rcases ah hF with⟨h25,hF⟩|⟨h25,hF⟩
           ·refine Wk.ay rfl h25<|Wk.seq<|Wk.region<|Wo.od (ai rfl) rfl<|Wo.nil<|At.tn<|Wk.ret<|At.br<|At.tr ?_;cases hF;exact At.en () rfl (sc rfl sn) (ae.U [] rfl rfl)
           ·refine Wk.az rfl h25<|Wk.skip<|At.bn<|At.tn<|Wk.region<|Wo.od (ak rfl rfl (aF _ _ _)) rfl<|Wo.od (aa rfl) rfl<|Wo.nil ?_;cases hF;exact At.en () rfl (sc rfl (sc rfl sn)) (ae.U [] rfl rfl)
         ·refine Wk.az rfl h24<|Wk.exit<|At.te ?_;cases hF;exact At.en () rfl sn (ae.U [] rfl rfl)
        ·clear h23;rcases r1 with _|_
         ·rintro⟨⟩;refine At.br<|At.tr ?_;cases hF;exact At.ret (.tmp rfl .nil) fun m' hm=>⟨(),rfl,(ae.U [] rfl rfl) m' hm⟩
         ·rintro⟨⟩;refine At.be<|At.tn<|Wk.seq<|Wk.region ?_;obtain⟨r9,h55,hF⟩:=J hF;refine Wo.x (bU rfl rfl (fun m hm=>GI n   _ h55 m) fun _=>rfl) gn rfl ?_;rintro⟨⟩;refine Wo.od (ai rfl) rfl<|Wo.nil<|At.tn<|Wk.ret ?_;have hr:=Option.some.inj hF;subst r;exact At.ret (.tmp rfl .nil) fun m' hm=>⟨(),rfl,(ae.U [] rfl rfl) m' hm⟩
end Go.Proofs.YthmekkhpddehjaaGreat
end

section
namespace Go.Proofs.YthmekkhpddehjaaGreat
open Go Go.Ab Go.Ab.W Go.Ab.B Jd
def dv {ρ:Type} (f:Nat→Option ρ) (e:ρ):Nat→Nat→ρ
 | 0,_=>e
 | k+1,i=>match f i with
  | some r=>r
  | none=>dv f e k (i+1)
theorem ig {ρ:Type} {B:Int→Option (Int ⊕ ρ)} {f:Nat→Option ρ} {e:ρ} {len:Nat} (hB:∀i:Nat,i<len→B (i:Int)=some (match f i with|some r=>.inr r|none=>.inl ((i+1:Nat):Int))) (hE:B (len:Int)=some (.inr e)) :
  ∀(k i n:Nat),i+k=len→k<n→bT B n (i:Int)=some (dv f e k i)
 | 0,i,n+1,h,_=>by
  rw[Nat.add_zero] at h; subst h;simp only[bT,hE,dv]
 | k+1,i,n+1,h,hn=>by
  have:=hB i (by omega)
  simp only[bT,this,dv];cases hf:f i with
  | some r=>rfl
  | none=>exact ig hB hE k (i+1) n (by omega) (by omega)
theorem fL {ρ:Type} {f:Nat→Option ρ} {e:ρ}:∀(k i:Nat),((∀j,i≤j→j<i+k→f j=none)∧dv f e k i=e)∨∃j,i≤j∧j<i+k∧f j=some (dv f e k i)
 | 0,i=>.inl ⟨fun j h1 h2=>by omega,rfl⟩
 | k+1,i=>by
  cases hf:f i with
  | some r=>exact .inr ⟨i,by omega,by omega,by simp only[dv,hf]⟩
  | none =>
   have e1:dv f e (k+1) i=dv f e k (i+1):=by simp only[dv,hf]
   rw[e1];rcases fL (f:=f) (e:=e) k (i+1) with⟨h1,h2⟩|⟨j,h1,h2,h3⟩
   ·refine .inl ⟨fun j a b=>?_,h2⟩
    by_cases e:j=i
    ·rw[e]; exact hf
    ·exact h1 j (by omega) (by omega)
   ·exact .inr ⟨j,by omega,by omega,h3⟩
theorem eY {l:List I2} {i:Nat} (h:i<l.length):l[((i:Nat):Int).toNat]? = some ((nx l i).1,(nx l i).2):=by
 rw[Int.toNat_natCast,List.getElem?_eq_getElem h];unfold nx;rw[Nat.mod_eq_of_lt h,List.getD_eq_getElem?_getD,List.getElem?_eq_getElem h]; rfl
theorem BQ (m n:Nat):Int.tmod (m:Int) (n:Int)=((m%n:Nat):Int):=rfl
theorem xJ {l:List I2} {i:Nat}:nx l (i%l.length)=nx l i:=by unfold nx; rw[Nat.mod_mod]
theorem mw (n:Nat) (p:I2):Cc n p.1 p.2=some (decide (Fa p)):=by
 unfold Cc Fa;rw[ez,ez,ez,←Bool.decide_or,←Bool.decide_or,←Bool.decide_or]
theorem rK (n:Nat) {l:List I2} (i:Nat) (h:l≠[]):Ai n l (i:Int)=some ((nx l i).1,(nx l i).2):=by
 have hl:0<l.length:=List.length_pos_iff.2 h;have hm:i%l.length<l.length:=Nat.mod_lt _ hl;unfold Ai;rw[decide_eq_true (show((l.length:Nat):Int)≠0 by omega),bl,BQ,aJ hm,bl,eY hm,an,xJ]
theorem jd (n:Nat) {a b c:I2} (ha:Nr a) (hb:Nr b) (hc:Nr c):xD n a.1 a.2 b.1 b.2 c.1 c.2=some (ti a b c):=by
 unfold Nr at ha hb hc;have m1:=ef (B:=2000000) (C:=2000000) (u:=b.1-a.1) (v:=c.2-a.2) (by decide) (by omega) (by omega) (by omega) (by omega)
 have m2:=ef (B:=2000000) (C:=2000000) (u:=b.2-a.2) (v:=c.1-a.1) (by decide) (by omega) (by omega) (by omega) (by omega)
 unfold xD;rw[ax (x:=b.1-a.1) (by omega) (by omega),ax (x:=c.2-a.2) (by omega) (by omega),ax (x:=b.2-a.2) (by omega) (by omega),ax (x:=c.1-a.1) (by omega) (by omega),
  ax (by omega) (by omega),ax (by omega) (by omega),an,an,ax (by omega) (by omega)]
 rfl
theorem Jk {a b c:I2} (ha:Nr a) (hb:Nr b) (hc:Nr c):IntKind.wrap .i64 (IntKind.wrap .i64 ((IntKind.wrap .i64 (b.1-a.1))*(IntKind.wrap .i64 (c.1-b.1)))+IntKind.wrap .i64 ((IntKind.wrap .i64 (b.2-a.2))*(IntKind.wrap .i64 (c.2-b.2))))=di a b c:=by
 unfold Nr at ha hb hc;have m1:=ef (B:=2000000) (C:=2000000) (u:=b.1-a.1) (v:=c.1-b.1) (by decide) (by omega) (by omega) (by omega) (by omega)
 have m2:=ef (B:=2000000) (C:=2000000) (u:=b.2-a.2) (v:=c.2-b.2) (by decide) (by omega) (by omega) (by omega) (by omega)
 rw[ax (x:=b.1-a.1) (by omega) (by omega),ax (x:=c.1-b.1) (by omega) (by omega),ax (x:=b.2-a.2) (by omega) (by omega),ax (x:=c.2-b.2) (by omega) (by omega),
  ax (x:=(b.1-a.1)*(c.1-b.1)) (by omega) (by omega),ax (x:=(b.2-a.2)*(c.2-b.2)) (by omega) (by omega),ax (by omega) (by omega)]
 rfl
theorem Ch (n:Nat) {a b c:I2} (ha:Nr a) (hb:Nr b) (hc:Nr c):GU n a.1 a.2 b.1 b.2 c.1 c.2=some (di a b c):=by
 unfold GU;rw[an,an,Jk ha hb hc]
theorem sf (n:Nat) (z:Int):EP n z=some (sg z):=by
 unfold EP sg
 by_cases h:0<z
 ·rw[aO h,if_neg (by omega),if_pos h]
 ·rw[aK h,if_neg h]
  by_cases g:z<0
  ·rw[aO g,if_pos g]
  ·rw[aK g,if_neg g]
theorem rJ (n:Nat) {a b p:I2} (ha:Nr a) (hb:Nr b) (hp:Nr p):CX n a.1 a.2 b.1 b.2 p.1 p.2=some (decide (dJ a b p)):=by
 unfold CX;rw[jd n ha hb hp,an]
 by_cases h:ti a b p=0
 ·rw[decide_eq_true h,Bool.not_true,gB,eA,eA,eA,mP,mP,lZ,lZ,←Bool.decide_and,←Bool.decide_and,←Bool.decide_and]
  congr 1
  rw[decide_eq_decide];unfold dJ;exact⟨fun g=>⟨h,g⟩,fun g=>g.2⟩
 ·rw[decide_eq_false h,Bool.not_false,jO,decide_eq_false fun g=>h g.1]
theorem E1 {a b c d:I2} (ha:Nr a) (hb:Nr b) (hc:Nr c) (hd:Nr d) :
  IntKind.wrap .i64 ((ma (mi a.1 b.1) (mi c.1 d.1))-(mi (ma a.1 b.1) (ma c.1 d.1)))=max (min a.1 b.1) (min c.1 d.1)-min (max a.1 b.1) (max c.1 d.1) ∧
  IntKind.wrap .i64 ((ma (mi a.2 b.2) (mi c.2 d.2))-(mi (ma a.2 b.2) (ma c.2 d.2)))=max (min a.2 b.2) (min c.2 d.2)-min (max a.2 b.2) (max c.2 d.2):=by
 unfold Nr at ha hb hc hd;simp only[mP,lZ];exact⟨ax (by omega) (by omega),ax (by omega) (by omega)⟩
theorem yM (x y:Int):IntKind.wrap .i64 (sg x*sg y)=sg x*sg y:=by
 rcases gU x with h|h|h<;>rcases gU y with g|g|g<;>rw[h,g]<;>decide
theorem sY (x y:Int):sg x*sg y<0↔(0<x∧y<0)∨(x<0∧0<y):=by
 unfold sg
 split<;>split<;>(try split)<;>(try split)<;>omega
theorem Br (n:Nat) {a b c d:I2} (ha:Nr a) (hb:Nr b) (hc:Nr c) (hd:Nr d) (hab:a≠b) (hcd:c≠d):GX n a.1 a.2 b.1 b.2 c.1 c.2 d.1 d.2=some (sI a b c d):=by
 classical
 rw[DB hab hcd];unfold GX;rw[jd n ha hb hc,an,sf,an,jd n ha hb hd,an,sf,an,jd n hc hd ha,an,sf,an,jd n hc hd hb,an,sf,an,eA,an,←Bool.decide_and];rw[(E1 ha hb hc hd).1,(E1 ha hb hc hd).2]
 by_cases h:CK a b c d
 ·have h':sg (ti a b c)=0∧sg (ti a b d)=0:=⟨gr.2 h.1,gr.2 h.2⟩;rw[aO h',if_pos h];have hl:(ob (some (max (min a.1 b.1) (min c.1 d.1)-min (max a.1 b.1) (max c.1 d.1))) fun y54=>ob (br (decide (a.1=b.1)) (ob (some (max (min a.2 b.2) (min c.2 d.2)-min (max a.2 b.2) (max c.2 d.2))) fun y61=>some y61) (some y54)) fun v59=>br (decide (0<v59)) (some (0:Int)) (br (decide (v59=0)) (some 1) (some 3)))
    = br (decide (0<low a b c d)) (some 0) (br (decide (low a b c d=0)) (some 1) (some 3)):=by
   unfold low
   by_cases e:a.1=b.1
   ·rw[an,aO e,an,an,if_pos e]
   ·rw[an,aK e,an,if_neg e]
  rw[hl]
  by_cases g:0<low a b c d
  ·rw[aO g,if_pos g]
  ·rw[aK g,if_neg g]
   by_cases k:low a b c d=0
   ·rw[aO k,if_pos k]
   ·rw[aK k,if_neg k]
 ·have h':¬(sg (ti a b c)=0∧sg (ti a b d)=0):=fun g=>h ⟨gr.1 g.1,gr.1 g.2⟩;rw[aK h',if_neg h,yM,yM,eA,an,←Bool.decide_and]
  by_cases g:qX a b c d
  ·have g':sg (ti a b c)*sg (ti a b d)<0∧sg (ti c d a)*sg (ti c d b)<0:=⟨(sY _ _).2 g.1,(sY _ _).2 g.2⟩;rw[aO g',if_pos g]
  ·have g':¬(sg (ti a b c)*sg (ti a b d)<0∧sg (ti c d a)*sg (ti c d b)<0):=fun k=>g ⟨(sY _ _).1 k.1,(sY _ _).1 k.2⟩;rw[aK g',if_neg g,rJ n ha hb hc,rJ n ha hb hd,rJ n hc hd ha,rJ n hc hd hb];simp only[an,ez,←Bool.decide_or]
   by_cases k:dJ a b c∨dJ a b d∨dJ c d a∨dJ c d b
   ·rw[aO k,if_pos k]
   ·rw[aK k,if_neg k]
def qk (l:List I2) (i:Nat):Option (Int ⊕ Unit):=if Fa (nx l i) then some (.inl (i:Int)) else none
def gG (l:List I2) (i:Nat):Option (Int ⊕ Unit):=if nx l i=nx l (i+1) then some (.inl (i:Int)) else none
def hM (l:List I2) (i:Nat):Option (Int ⊕ Unit):=if ti (nx l (i+l.length-1)) (nx l i) (nx l (i+1))=0∧di (nx l (i+l.length-1)) (nx l i) (nx l (i+1))<0 then some (.inl (i:Int)) else none
def xb (l:List I2) (i j:Nat):Prop:=¬(j=0∧i=l.length-1)∧sI (nx l j) (nx l (j+1)) (nx l i) (nx l (i+1))≠0
open Classical in
noncomputable def iC (l:List I2) (i:Nat):Option (Int ⊕ Unit):=if ∃j,j+1<i∧xb l i j then some (.inl (i:Int)) else none
noncomputable def rl (l:List I2):Int × Int :=
 if l.length<3∨40<l.length then(1,0) else
 match dv (qk l) (.inr ()) l.length 0 with
 | .inl v=>(2,v)
 | .inr _=>match dv (gG l) (.inr ()) l.length 0 with
  | .inl v=>(3,v)
  | .inr _=>match dv (hM l) (.inr ()) l.length 0 with
   | .inl v=>(4,v)
   | .inr _=>match dv (iC l) (.inr ()) l.length 0 with
    | .inl v=>(5,v)
    | .inr _=>(0,0)
section
variable {l : List I2} (n : Nat)
theorem dE (p q:I2):(decide (p.1=q.1) && decide (p.2=q.2))=decide (p=q):=by
 rw[←Bool.decide_and,decide_eq_decide]; exact⟨fun h=>Prod.ext h.1 h.2,fun h=>by subst h; exact⟨rfl,rfl⟩⟩
theorem Bu (hn:l.length<n) (hl:l.length<100):bT (vl n l) n 0=some (dv (qk l) (.inr ()) l.length 0):=by
 refine ig (len:=l.length) (fun i hi=>?_) ?_ l.length 0 n (by omega) hn
 ·unfold vl qk
  dsimp only
  rw[aO (by omega),aJ hi,bl,eY hi,an]
  dsimp only
  rw[mw,an,aR (by omega)]
  by_cases h:Fa (nx l i)
  ·rw[aO h,if_pos h]
  ·rw[aK h,if_neg h]
 ·unfold vl
  dsimp only
  rw[aK (by omega)]
theorem BU (hn:l.length<n) (hl:l.length<100):bT (vh n l) n 0=some (dv (gG l) (.inr ()) l.length 0):=by
 refine ig (len:=l.length) (fun i hi=>?_) ?_ l.length 0 n (by omega) hn
 ·have hne:l≠[]:=by rintro rfl; cases hi
  unfold vh gG
  dsimp only
  rw[aO (by omega),aJ hi,bl,eY hi,an]
  dsimp only
  rw[aR (by omega),rK n (i+1) hne,an]
  dsimp only
  rw[dE]
  by_cases h:nx l i=nx l (i+1)
  ·rw[aO h,if_pos h]
  ·rw[aK h,if_neg h]
 ·unfold vh
  dsimp only
  rw[aK (by omega)]
theorem CG (hnr:∀i,Nr (nx l i)) (hn:l.length<n) (hl:l.length<100):bT (uW n l) n 0=some (dv (hM l) (.inr ()) l.length 0):=by
 refine ig (len:=l.length) (fun i hi=>?_) ?_ l.length 0 n (by omega) hn
 ·have hne:l≠[]:=by rintro rfl; cases hi
  have e1:IntKind.wrap .i64 ((IntKind.wrap .i64 ((i:Int)+(l.length:Int)))-1)=((i+l.length-1:Nat):Int):=by
   rw[ax (x:=(i:Int)+(l.length:Int)) (by omega) (by omega),ax (by omega) (by omega)]; omega
  unfold uW hM
  dsimp only
  rw[aO (by omega),e1,rK n _ hne,an]
  dsimp only
  rw[aJ hi,bl,eY hi,an]
  dsimp only
  rw[aR (by omega),rK n (i+1) hne,an]
  dsimp only
  rw[jd n (hnr _) (hnr _) (hnr _),an,Ch n (hnr _) (hnr _) (hnr _),an,eA,an,←Bool.decide_and]
  by_cases h:ti (nx l (i+l.length-1)) (nx l i) (nx l (i+1))=0∧di (nx l (i+l.length-1)) (nx l i) (nx l (i+1))<0
  ·rw[aO h,if_pos h]
  ·rw[aK h,if_neg h]
 ·unfold uW
  dsimp only
  rw[aK (by omega)]
end
section
variable {l : List I2} (n : Nat)
open Classical in
noncomputable def Al {ρ:Type} (l:List I2) (r:ρ) (i j:Nat):Option ρ:=if xb l i j then some r else none
theorem FW {ρ:Type} {r e:ρ} (_:r≠e) {i:Nat}:(dv (Al l r i) e (i-1) 0=r∧∃j,j+1<i∧xb l i j)∨(dv (Al l r i) e (i-1) 0=e∧¬∃j,j+1<i∧xb l i j):=by
 classical
 rcases fL (f:=Al l r i) (e:=e) (i-1) 0 with⟨h1,h2⟩|⟨j,_,h2,h3⟩
 ·refine .inr ⟨h2,?_⟩;rintro⟨j,hj,hh⟩;have:=h1 j (by omega) (by omega)
  unfold Al at this;rw[if_pos hh] at this;cases this
 ·unfold Al at h3
  split at h3
  ·rename_i hh;exact .inl ⟨(Option.some.inj h3).symm,j,by omega,hh⟩
  ·cases h3
theorem Cu (hnr:∀i,Nr (nx l i)) (hst:∀i,nx l i≠nx l (i+1)) {i:Nat} (hi:i<l.length) (hn:l.length<n) (hl:l.length<100):bT (ui n (i:Int) l) n 0=some (dv (Al l (.inl ()) i) (.inr ()) (i-1) 0):=by
 classical
 have hne:l≠[]:=by rintro rfl; cases hi
 refine ig (len:=i-1) (fun j hj=>?_) ?_ (i-1) 0 n (by omega) (by omega)
 ·have e1:IntKind.wrap .i64 ((l.length:Int)-1)=(l.length:Int)-1:=ax (by omega) (by omega)
  unfold ui Al
  dsimp only
  rw[aR (by omega),aO (by omega),eA,an,e1,←Bool.decide_and]
  by_cases h:(j:Int)=0∧(i:Int)=(l.length:Int)-1
  ·rw[aO h,an,if_neg (fun g:xb l i j=>g.1 ⟨by omega,by omega⟩)]
  ·rw[aK h,aJ (by omega),bl,eY (by omega),an]
   dsimp only
   rw[aJ (by omega),bl,eY (by omega),an]
   dsimp only
   rw[aJ hi,bl,eY hi,an]
   dsimp only
   rw[aR (by omega),rK n (i+1) hne,an]
   dsimp only
   rw[Br n (hnr _) (hnr _) (hnr _) (hnr _) (hst _) (hst _),an]
   by_cases g:sI (nx l j) (nx l (j+1)) (nx l i) (nx l (i+1))=0
   ·rw[decide_eq_true g,Bool.not_true,gB,an,if_neg (fun k:xb l i j=>k.2 g)]
   ·rw[decide_eq_false g,Bool.not_false,jO,an,if_pos (show xb l i j from⟨fun k=>h ⟨by omega,by omega⟩,g⟩)]
 ·unfold ui
  dsimp only
  rw[aR (by omega),aK (by omega)]
theorem A7 (hnr:∀i,Nr (nx l i)) (hst:∀i,nx l i≠nx l (i+1)) (hn:l.length<n) (hl:l.length<100):bT (tQ n l) n 0=some (dv (iC l) (.inr ()) l.length 0):=by
 classical
 refine ig (len:=l.length) (fun i hi=>?_) ?_ l.length 0 n (by omega) hn
 ·unfold tQ iC
  try dsimp only
  rw[aO (by omega),Cu n hnr hst hi hn hl,an,aR (by omega)]
  rcases FW (l:=l) (r:=(.inl ():Unit ⊕ Unit)) (e:=.inr ()) (by simp) (i:=i) with⟨h1,h2⟩|⟨h1,h2⟩
  ·rw[h1,if_pos h2]
  ·rw[h1,if_neg h2]
 ·unfold tQ
  try dsimp only
  rw[aK (by omega)]
theorem lC {f:Nat→Option (Int ⊕ Unit)} (hf:∀j r,f j=some r→r≠.inr ()) {k:Nat} (h:dv f (.inr ()) k 0 = .inr ()):∀j,j<k→f j=none:=by
 rcases fL (f:=f) (e:=.inr ()) k 0 with⟨h1,_⟩|⟨j,_,_,h3⟩
 ·exact fun j hj=>h1 j (by omega) (by omega)
 ·rw[h] at h3; exact absurd rfl (hf j _ h3)
theorem Fj {P:I2→Prop} (hl:0<l.length) (h:∀i,i<l.length→P (nx l i)) (i:Nat):P (nx l i):=by
 rw[←xJ]; exact h _ (Nat.mod_lt _ hl)
theorem nC {i:Nat}:nx l (i%l.length+1)=nx l (i+1):=by unfold nx; rw[Nat.mod_add_mod]
theorem Bg (hl:0<l.length) (h:dv (qk l) (.inr ()) l.length 0 = .inr ()):∀i,Nr (nx l i):=by
 refine Fj hl fun i hi=>?_;have:=lC (fun j r hr=>by unfold qk at hr; split at hr<;>cases hr; simp) h i hi
 unfold qk at this
 split at this
 ·cases this
 ·rename_i g; exact iL.1 g
theorem By (hl:0<l.length) (h:dv (gG l) (.inr ()) l.length 0 = .inr ()):∀i,nx l i≠nx l (i+1):=fun i=>by
 have:=lC (fun j r hr=>by unfold gG at hr; split at hr<;>cases hr; simp) h (i%l.length) (Nat.mod_lt _ hl)
 unfold gG at this
 split at this
 ·cases this
 ·rename_i g;rw[xJ,nC] at g;exact g
theorem FT (hn:l.length<n) (_:41<n):Ia n l=some (rl l):=by
 unfold Ia rl;rw[ez,an,←Bool.decide_or]
 by_cases h:l.length<3∨40<l.length
 ·rw[aO (by omega),if_pos h]
 ·rw[aK (by omega),if_neg h,Bu n hn (by omega),an]
  cases h1:dv (qk l) (.inr ()) l.length 0 with
  | inl v=>rfl
  | inr _ =>
   have hnr:=Bg (by omega) h1
   dsimp only
   rw[BU n hn (by omega),an]
   cases h2:dv (gG l) (.inr ()) l.length 0 with
   | inl v=>rfl
   | inr _ =>
    have hst:=By (by omega) h2
    dsimp only
    rw[CG n hnr hn (by omega),an]
    cases h3:dv (hM l) (.inr ()) l.length 0 with
    | inl v=>rfl
    | inr _ =>
     dsimp only
     rw[A7 n hnr hst hn (by omega),an]
     cases h4:dv (iC l) (.inr ()) l.length 0<;>rfl
def AK (l:List I2):Prop:=(rl l).1≤0
open Classical in
theorem Gs (hn:l.length<n) (h5:41<n):E2 n l=some (if AK l then 0 else 140):=by
 unfold E2 AK;rw[FT n hn h5,an];obtain⟨a,b⟩:=rl l
 dsimp only
 by_cases h:0<a
 ·rw[aO h,if_neg (by omega)]
 ·rw[aK h,if_pos (by omega)]
end
def zQ (a b:List I2) (i:Nat):Option (Unit ⊕ Unit):=if nx a i≠nx b i then some (.inl ()) else none
theorem CB {a b:List I2} (h:a.length=b.length):dv (zQ a b) (.inr ()) a.length 0=if a=b then .inr () else .inl ():=by
 rcases fL (f:=zQ a b) (e:=.inr ()) a.length 0 with⟨h1,h2⟩|⟨j,_,h2,h3⟩
 ·rw[h2,if_pos];refine List.ext_getElem h fun i h3 h4=>?_;have:=h1 i (by omega) (by omega)
  unfold zQ at this
  split at this
  ·cases this
  ·rename_i g;have g:nx a i=nx b i:=Decidable.not_not.1 g;unfold nx at g;rw[Nat.mod_eq_of_lt h3,Nat.mod_eq_of_lt h4,List.getD_eq_getElem?_getD,List.getD_eq_getElem?_getD,List.getElem?_eq_getElem h3,List.getElem?_eq_getElem h4] at g;exact g
 ·have h4:zQ a b j=if nx a j≠nx b j then some (.inl ()) else none:=rfl
  rw[h4] at h3
  split at h3
  ·rename_i g;rw[←Option.some.inj h3,if_neg];rintro rfl;exact g rfl
  ·cases h3
theorem Fk (n:Nat) {a b:List I2} (hn:a.length<n) (hl:a.length<100000):GL n a b=some (decide (a=b)):=by
 unfold GL
 by_cases h:a.length=b.length
 ·rw[decide_eq_true (show(a.length:Int)=b.length by omega),Bool.not_true,gB]
  have:bT (uB n a b) n 0=some (dv (zQ a b) (.inr ()) a.length 0):=by
   refine ig (len:=a.length) (fun i hi=>?_) ?_ a.length 0 n (by omega) hn
   ·unfold uB zQ
    dsimp only
    rw[aO (by omega),aJ hi,bl,eY hi,an]
    dsimp only
    rw[aJ (h ▸ hi),bl,eY (h ▸ hi),an]
    dsimp only
    rw[dE,aR (by omega)]
    by_cases g:nx a i=nx b i
    ·rw[decide_eq_true g,Bool.not_true,gB,if_neg (by simpa using g)]
    ·rw[decide_eq_false g,Bool.not_false,jO,if_pos g]
   ·unfold uB
    dsimp only
    rw[aK (by omega)]
  rw[this,an,CB h]
  by_cases g:a=b
  ·rw[if_pos g,decide_eq_true g]
  ·rw[if_neg g,decide_eq_false g]
 ·rw[decide_eq_false (show ¬(a.length:Int)=b.length by omega),Bool.not_false,jO,decide_eq_false]
  rintro rfl;exact h rfl
end Go.Proofs.YthmekkhpddehjaaGreat
end

section
namespace Jd
theorem eE (f:I2→I2) {r:List I2} (h:r≠[]) (i:Nat):nx (r.map f) i=f (nx r i):=by
 have hl:=List.length_pos_iff.2 h;unfold nx;rw[List.length_map];have hi:i%r.length<r.length:=Nat.mod_lt _ hl;rw[List.getD_eq_getElem?_getD,List.getD_eq_getElem?_getD,List.getElem?_map,List.getElem?_eq_getElem hi]; rfl
theorem wU {r:List I2}:nx r r.length=nx r 0:=by unfold nx; rw[Nat.mod_self,Nat.zero_mod]
def tS (r:List I2):Int:=dj r.length fun i=>(nx r i).1*(nx r (i+1)).2-(nx r i).2*(nx r (i+1)).1
theorem tw (n:Nat) (f g:Nat→Int):dj n (fun i=>f i+g i)=dj n f+dj n g:=by
 induction n with
 | zero=>rfl
 | succ n ih=>simp only[dj]; rw[ih]; omega
theorem oV (c:Int) (n:Nat) (f:Nat→Int):dj n (fun i=>c*f i)=c*dj n f:=by
 induction n with
 | zero=>simp[dj]
 | succ n ih=>simp only[dj]; rw[ih,Int.mul_add]
theorem zK (n:Nat) (f:Nat→Int):dj (n+1) f=f 0+dj n fun i=>f (i+1):=by
 induction n with
 | zero=>simp[dj]
 | succ n ih=>rw[dj,ih]; simp only[dj]; omega
theorem Bq (r:List I2) (o:I2):dj r.length (fun i=>((nx r i).1-o.1)*((nx r (i+1)).2-o.2)-((nx r i).2-o.2)*((nx r (i+1)).1-o.1))=tS r:=by
 have t1:=pc r.length fun i=>(nx r i).1;have t2:=pc r.length fun i=>(nx r i).2;rw[wU] at t1 t2;have e:dj r.length (fun i=>((nx r i).1-o.1)*((nx r (i+1)).2-o.2)-((nx r i).2-o.2)*((nx r (i+1)).1-o.1)) =
   dj r.length (fun i=>((nx r i).1*(nx r (i+1)).2-(nx r i).2*(nx r (i+1)).1)+(o.2*((nx r (i+1)).1-(nx r i).1) + -o.1*((nx r (i+1)).2-(nx r i).2))) :=
  im fun i _=>by grind
 rw[e,tw,tw,oV,oV,t1,t2];unfold tS
 grind
structure Chg (f:I2→I2) (k d:Int):Prop where
 inj:∀{a b},f a=f b→a=b
 ti:∀a b c,ti (f a) (f b) (f c)=k*ti a b c
 di:∀a b c,di (f a) (f b) (f c)=d*di a b c
 kp:k≠0
 dp:0<d
 btw:∀{a b c},dJ (f a) (f b) (f c)↔dJ a b c
theorem jH {k x:Int} (h:0<k):0<k*x↔0<x:=⟨fun g=>Int.pos_of_mul_pos_right g h,fun g=>Int.mul_pos h g⟩
theorem ft {k x:Int} (h:0<k):k*x<0↔x<0:=by
 have:=jH (x:=-x) h;rw[Int.mul_neg] at this;omega
section
variable {f : I2 → I2} {k d : Int}
theorem Chg.Dn (h:Chg f k d) {a b c d x:I2}:gK (f a) (f b) (f c) (f d) (f x)↔gK a b c d x:=by
 unfold gK;rw[h.btw,h.btw];constructor
 ·rintro⟨g,e⟩;exact⟨by rcases g with g|g|g|g<;>simp[h.inj g],e⟩
 ·rintro⟨g,e⟩;exact⟨by rcases g with g|g|g|g<;>simp[g],e⟩
theorem Chg.om (h:Chg f k d) {a b c d:I2}:qX (f a) (f b) (f c) (f d)↔qX a b c d:=by
 unfold qX;rw[h.ti,h.ti,h.ti,h.ti];rcases Int.lt_or_gt_of_ne h.kp with g|g
 ·have e:∀x,k*x = -((-k)*x):=fun x=>by rw[Int.neg_mul]; omega
  have p:∀{x},0<k*x↔x<0:=fun {x}=>by rw[e]; have:=ft (k:=-k) (x:=x) (by omega); omega
  have n:∀{x},k*x<0↔0<x:=fun {x}=>by rw[e]; have:=jH (k:=-k) (x:=x) (by omega); omega
  rw[p,p,p,p,n,n,n,n]; omega
 ·rw[jH g,jH g,jH g,jH g,ft g,ft g,ft g,ft g]
theorem BW {a b c d:I2}:NM a b c d↔(∀x,¬gK a b c d x)∧¬qX a b c d:=Iff.rfl
theorem Chg.nm (h:Chg f k d) {a b c d:I2}:NM (f a) (f b) (f c) (f d)↔NM a b c d:=by
 rw[BW,BW,h.om];refine and_congr_left fun _=>⟨fun g x hx=>g (f x) (h.Dn.2 hx),fun g x hx=>?_⟩;have:∃y,x=f y:=by
  rcases hx.1 with e|e|e|e<;>exact⟨_,e⟩
 obtain⟨y,rfl⟩:=this;exact g y (h.Dn.1 hx)
theorem Chg.vr (h:Chg f k d) {r:List I2} (v:VR r):VR (r.map f):=by
 have hr:r≠[]:=fun e=>by have:=v.n3; rw[e] at this; simp at this
 refine⟨by rw[List.length_map]; exact v.n3,fun i=>?_,fun i=>?_,fun j i h1 h2 h3=>?_⟩
 ·rw[eE f hr,eE f hr];exact fun e=>v.still i (h.inj e)
 ·rw[eE f hr,eE f hr,eE f hr,h.ti,h.di];rintro⟨e1,e2⟩;refine v.re i ⟨?_,(ft h.dp).1 e2⟩;rcases Int.mul_eq_zero.1 e1 with e|e
  ·exact absurd e h.kp
  ·exact e
 ·rw[List.length_map] at h2 h3;rw[eE f hr,eE f hr,eE f hr,eE f hr,h.nm];exact v.meet j i h1 h2 h3
end
def lN (v:I2) (a:I2):I2:=(a.1+v.1,a.2+v.2)
theorem AO (v a b c:I2):ti (lN v a) (lN v b) (lN v c)=ti a b c:=by unfold ti lN; grind
theorem DS {v a b c:I2}:dJ (lN v a) (lN v b) (lN v c)↔dJ a b c:=by
 unfold dJ;rw[AO];unfold lN
 dsimp only
 omega
theorem Eo (v:I2):Chg (lN v) 1 1:=by
 refine⟨fun {a b} h=>?_,fun a b c=>by rw[AO]; omega,fun a b c=>by unfold di lN; grind,by decide,by decide,DS⟩
 have h1:=congrArg Prod.fst h;have h2:=congrArg Prod.snd h;unfold lN at h1 h2;exact Prod.ext (by dsimp only at h1; omega) (by dsimp only at h2; omega)
def nB (s:Int) (a:I2):I2:=(a.1*s,a.2*s)
theorem B7 (s:Int) (a b c:I2):ti (nB s a) (nB s b) (nB s c)=s*s*ti a b c:=by unfold ti nB; grind
theorem kT {s x y:Int} (hs:0<s):x*s≤y*s↔x≤y:=⟨fun h=>Int.le_of_mul_le_mul_right h hs,fun h=>Int.mul_le_mul_of_nonneg_right h (Int.le_of_lt hs)⟩
theorem C5 {s:Int} (hs:0<s) {a b c:I2}:dJ (nB s a) (nB s b) (nB s c)↔dJ a b c:=by
 have hss:s*s≠0:=by have:=Int.mul_pos hs hs; omega
 have m1:∀x y z:Int,min (x*s) (y*s)≤z*s↔min x y≤z:=fun x y z=>by
  have h1:=kT (x:=x) (y:=z) hs;have h2:=kT (x:=y) (y:=z) hs;omega
 have m2:∀x y z:Int,z*s≤max (x*s) (y*s)↔z≤max x y:=fun x y z=>by
  have h1:=kT (x:=z) (y:=x) hs;have h2:=kT (x:=z) (y:=y) hs;omega
 unfold dJ;rw[B7];unfold nB
 dsimp only
 rw[m1,m2,m1,m2];refine and_congr_left fun _=>⟨fun h=>?_,fun h=>by rw[h,Int.mul_zero]⟩
 rcases Int.mul_eq_zero.1 h with e|e
 ·exact absurd e hss
 ·exact e
theorem Em {s:Int} (hs:0<s):Chg (nB s) (s*s) (s*s):=by
 have hss:=Int.mul_pos hs hs;refine⟨fun {a b} h=>?_,B7 s,fun a b c=>by unfold di nB; grind,by omega,hss,C5 hs⟩
 have h1:=congrArg Prod.fst h;have h2:=congrArg Prod.snd h;exact Prod.ext (Int.eq_of_mul_eq_mul_right (by omega) h1) (Int.eq_of_mul_eq_mul_right (by omega) h2)
theorem Dc {r:List I2} (h:r≠[]) (v:I2):tS (r.map (lN v))=tS r:=by
 rw[←Bq (r.map (lN v)) v];unfold tS;rw[List.length_map];refine im fun i _=>?_;rw[eE _ h,eE _ h];unfold lN
 dsimp only
 rw[Int.add_sub_cancel,Int.add_sub_cancel,Int.add_sub_cancel,Int.add_sub_cancel]
def rv:List I2→List I2
 | []=>[]
 | a::l=>a::l.reverse
theorem pV (r:List I2):(rv r).length=r.length:=by cases r<;>simp[rv]
theorem gF (r:List I2) {i j:Nat} (h:i%r.length=j%r.length):nx r i=nx r j:=by unfold nx; rw[h]
theorem rk {r:List I2} {i t:Nat} (h:(t+i)%r.length=0):nx (rv r) i=nx r t:=by
 match r with
 | []=>rfl
 | a::l =>
  unfold nx;rw[pV];have hn:0<(a::l).length:=by simp
  generalize hN:(a::l).length=N at *;have h1:i%N<N:=Nat.mod_lt _ hn;have h2:t%N<N:=Nat.mod_lt _ hn;have h3:(t%N+i%N)%N=0:=by rw[←Nat.add_mod]; exact h
  have hl:l.length+1=N:=by rw[←hN]; simp
  rcases Nat.eq_zero_or_pos (i%N) with e|e
  ·have e2:t%N=0:=by rw[e,Nat.add_zero,Nat.mod_eq_of_lt h2] at h3; exact h3
   rw[e,e2]; rfl
  ·have e2:t%N+i%N=N:=by
    rcases Nat.lt_or_ge (t%N+i%N) N with g|g
    ·rw[Nat.mod_eq_of_lt g] at h3; omega
    ·rw[Nat.mod_eq_sub_mod g,Nat.mod_eq_of_lt (by omega)] at h3; omega
   obtain⟨x,hx⟩:∃x,i%N=x+1:=⟨i%N-1,by omega⟩
   obtain⟨y,hy⟩:∃y,t%N=y+1:=⟨t%N-1,by omega⟩
   rw[hx,hy]
   show(a::l.reverse).getD (x+1) (0,0)=(a::l).getD (y+1) (0,0)
   simp only[List.getD_eq_getElem?_getD,List.getElem?_cons_succ];rw[List.getElem?_reverse (by omega)]
   congr 2
   omega
theorem Gc {a b c d:I2}:NM b a d c↔NM c d a b:=by
 rw[←sD,←sD,tx,yc,tx,yc (a:=a) (b:=b)]
theorem VR.rv {r:List I2} (v:VR r):VR (rv r):=by
 have hn:=v.n3;refine⟨by rw[pV]; exact hn,fun i=>?_,fun i=>?_,fun j i h1 h2 h3=>?_⟩
 ·have e:((r.length-1)*(i+1)+(i+1))%r.length=0:=by
   rw[show(r.length-1)*(i+1)+(i+1)=r.length*(i+1) by
    obtain⟨m,hm⟩:∃m,r.length=m+1:=⟨r.length-1,by omega⟩
    rw[hm,Nat.add_sub_cancel,Nat.add_mul,Nat.one_mul],Nat.mul_mod_right]
  rw[rk (i:=i+1) e,rk (i:=i) (t:=(r.length-1)*(i+1)+1) (by rw[show(r.length-1)*(i+1)+1+i=(r.length-1)*(i+1)+(i+1) by omega]; exact e)]
  exact fun g=>v.still _ g.symm
 ·have e:((r.length-1)*(i+2)+(i+2))%r.length=0:=by
   rw[show(r.length-1)*(i+2)+(i+2)=r.length*(i+2) by
    obtain⟨m,hm⟩:∃m,r.length=m+1:=⟨r.length-1,by omega⟩
    rw[hm,Nat.add_sub_cancel,Nat.add_mul,Nat.one_mul],Nat.mul_mod_right]
  generalize (r.length-1)*(i+2)=m at e;rw[rk (i:=i+2) e,rk (i:=i+1) (t:=m+1) (by rw[show m+1+(i+1)=m+(i+2) by omega]; exact e),rk (i:=i) (t:=m+2) (by rw[show m+2+i=m+(i+2) by omega]; exact e)]
  rintro⟨g1,g2⟩;refine v.re m ⟨?_,?_⟩
  ·have:ti (nx r (m+2)) (nx r (m+1)) (nx r m) = -ti (nx r m) (nx r (m+1)) (nx r (m+2)):=by unfold Jd.ti; grind
   omega
  ·have:di (nx r (m+2)) (nx r (m+1)) (nx r m)=di (nx r m) (nx r (m+1)) (nx r (m+2)):=by unfold Jd.di; grind
   omega
 ·rw[pV] at h2 h3;have g:∀k,k≤r.length→nx (Jd.rv r) k=nx r (r.length-k):=fun k hk=>rk (by rw[show r.length-k+k=r.length by omega,Nat.mod_self])
  rw[g j (by omega),g (j+1) (by omega),g i (by omega),g (i+1) (by omega)]
  have:=v.meet (r.length-1-i) (r.length-1-j) (by omega) (by omega) (by omega)
  rw[show r.length-1-i+1=r.length-i by omega,show r.length-1-j+1=r.length-j by omega] at this
  rw[show r.length-(j+1)=r.length-1-j by omega,show r.length-(i+1)=r.length-1-i by omega]
  exact Gc.2 this
def er (α β γ:Int) (x:I2):Int:=α*x.1+β*x.2+γ
theorem EF {α β γ:Int} {a b x:I2} (h:ti a b x=0):(b.1-a.1)*er α β γ x=(b.1-x.1)*er α β γ a+(x.1-a.1)*er α β γ b:=by
 have e:(b.1-a.1)*er α β γ x-((b.1-x.1)*er α β γ a+(x.1-a.1)*er α β γ b)=β*ti a b x:=by unfold er ti; grind
 rw[h,Int.mul_zero] at e; omega
theorem Ez {α β γ:Int} {a b x:I2} (h:ti a b x=0):(b.2-a.2)*er α β γ x=(b.2-x.2)*er α β γ a+(x.2-a.2)*er α β γ b:=by
 have e:(b.2-a.2)*er α β γ x-((b.2-x.2)*er α β γ a+(x.2-a.2)*er α β γ b) = -α*ti a b x:=by unfold er ti; grind
 rw[h,Int.mul_zero] at e; omega
theorem oc {u v w s t z:Int} (hw:0<w) (hu:0≤u) (hv:0≤v) (e:u+v=w) (hs:0<s) (ht:0<t) (h:w*z=u*s+v*t):0<z:=by
 have h1:0≤u*s:=Int.mul_nonneg hu (Int.le_of_lt hs);have h2:0≤v*t:=Int.mul_nonneg hv (Int.le_of_lt ht);have:0<w*z:=by
  rcases Int.lt_or_eq_of_le hu with g|g
  ·have:=Int.mul_pos g hs; omega
  ·have:=Int.mul_pos (show 0<v by omega) ht; omega
 exact Int.pos_of_mul_pos_right this hw
theorem sL {α β γ:Int} {a b x:I2} (h:dJ a b x) (ha:0<er α β γ a) (hb:0<er α β γ b):0<er α β γ x:=by
 obtain⟨h0,h1,h2,h3,h4⟩:=h;rcases Int.lt_trichotomy a.1 b.1 with g|g|g
 ·exact oc (w:=b.1-a.1) (u:=b.1-x.1) (v:=x.1-a.1) (by omega) (by omega) (by omega) (by omega) ha hb (EF h0)
 ·rcases Int.lt_trichotomy a.2 b.2 with k|k|k
  ·exact oc (w:=b.2-a.2) (u:=b.2-x.2) (v:=x.2-a.2) (by omega) (by omega) (by omega) (by omega) ha hb (Ez h0)
  ·have:x=a:=Prod.ext (by omega) (by omega)
   rw[this]; exact ha
  ·refine oc (w:=a.2-b.2) (u:=a.2-x.2) (v:=x.2-b.2) (by omega) (by omega) (by omega) (by omega) hb ha (Ez ?_)
   rw[gw,h0]; rfl
 ·refine oc (w:=a.1-b.1) (u:=a.1-x.1) (v:=x.1-b.1) (by omega) (by omega) (by omega) (by omega) hb ha (EF ?_)
  rw[gw,h0]; rfl
theorem rL (α β γ:Int) (x:I2):er (-α) (-β) (-γ) x = -er α β γ x:=by unfold er; grind
theorem pw {α β γ:Int} {a b c d:I2} (ha:0<er α β γ a) (hb:0<er α β γ b) (hc:er α β γ c<0) (hd:er α β γ d<0):NM a b c d:=by
 refine⟨fun x hx=>?_,fun hx=>?_⟩
 ·have h1:=sL hx.2.1 ha hb;have h2:=sL (α:=-α) (β:=-β) (γ:=-γ) hx.2.2 (by rw[rL]; omega) (by rw[rL]; omega)
  rw[rL] at h2; omega
 ·have e:ti c d b*er α β γ a-ti c d a*er α β γ b = -(ti a b d*er α β γ c-ti a b c*er α β γ d):=by unfold er ti; grind
  have f:=D4 a b c d;generalize er α β γ a=la at *;generalize er α β γ b=lb at *;generalize er α β γ c=lc at *;generalize er α β γ d=ld at *;generalize ti a b c=s at *;generalize ti a b d=t at *;generalize ti c d a=u at *;generalize ti c d b=v at *;have pp:∀{x y:Int},0<x→0<y→0<x*y:=fun h g=>Int.mul_pos h g;have pn:∀{x y:Int},0<x→y<0→x*y<0:=fun h g=>Int.mul_neg_of_pos_of_neg h g;have np:∀{x y:Int},x<0→0<y→x*y<0:=fun h g=>Int.mul_neg_of_neg_of_pos h g;have nn:∀{x y:Int},x<0→y<0→0<x*y:=fun h g=>Int.mul_pos_of_neg_of_neg h g;obtain⟨h1|h1,h2|h2⟩:=hx
  ·have:=np h2.2 hb; omega
  ·have a1:=pp h2.2 ha; have a2:=np h2.1 hb; have a3:=nn h1.2 hc; have a4:=pn h1.1 hd; omega
  ·have a1:=np h2.2 ha; have a2:=pp h2.1 hb; have a3:=pn h1.2 hc; have a4:=nn h1.1 hd; omega
  ·have:=h1.1; omega
def om (a b:I2):Int:=a.1*b.2-a.2*b.1
theorem BN {a b c:I2} (h1:0<om a b) (h2:0<om b c):¬(ti a b c=0∧di a b c<0):=by
 rintro⟨g1,g2⟩;have e:((b.1-a.1)*(b.1-a.1)+(b.2-a.2)*(b.2-a.2))*om b c=di a b c*om a b+ti a b c*(b.1*(b.1-a.1)+b.2*(b.2-a.2)):=by unfold om di ti; grind
 rw[g1,Int.zero_mul,Int.add_zero] at e;have n1:0≤((b.1-a.1)*(b.1-a.1)+(b.2-a.2)*(b.2-a.2))*om b c:=Int.mul_nonneg (Int.add_nonneg ur ur) (Int.le_of_lt h2);have n2:=Int.mul_neg_of_neg_of_pos g2 h1;omega
def wy (k:Nat):I2:=[(2,0),(2,1),(1,2),(0,2),(-1,2),(-2,1),(-2,0),(-2,-1),(-1,-2),(0,-2),(1,-2),(2,-1)].getD (k%12) (0,0)
def xq (m:Int) (a:I2):I2:=(a.1*m,a.2*m)
theorem oe (α β m:Int) (a:I2):er α β 0 (xq m a)=er α β 0 a*m:=by unfold er xq; grind
theorem Ej (m k:Int) (a b:I2):om (xq m a) (xq k b)=m*k*om a b:=by unfold om xq; grind
theorem AN (k:Nat):wy (k%12)=wy k:=by unfold wy; rw[Nat.mod_mod]
def I7:List (Int × Int):=[(3,1),(1,3),(-1,3),(-3,1),(-3,-1),(-1,-3),(1,-3),(3,-1),(4,3),(3,4),(-3,4),(-4,3),(-4,-3),(-3,-4),(3,-4),(4,-3),(1,1),(-1,1),(-1,-1),(1,-1),(1,0),(0,1),(-1,0),(0,-1),(5,1),(1,5),(-1,5),(-5,1),(-5,-1),(-1,-5),(1,-5),(5,-1),(2,1),(1,2),(-1,2),(-2,1),(-2,-1),(-1,-2),(1,-2),(2,-1)]
def Cj (a x y z:Nat):Bool:=I7.any fun c=>decide (0<er c.1 c.2 0 (wy a)) && decide (0<er c.1 c.2 0 (wy (a+x))) && decide (er c.1 c.2 0 (wy (a+y))<0) && decide (er c.1 c.2 0 (wy (a+y+z))<0)
def BD:Bool:=(List.range 12).all fun a=>(List.range 4).all fun x=>(List.range 12).all fun y=>(List.range 4).all fun z=>!(decide (0<x) && decide (x<y) && decide (0<z) && decide (y+z<12)) || Cj a x y z
theorem Bh:BD=true:=by decide +kernel
theorem Je (a:Nat) (ha:a<12) (x:Nat) (hx:x<4) (y:Nat) (hy:y<12) (z:Nat) (hz:z<4) (h1:0<x) (h2:x<y) (h3:0<z) (h4:y+z<12):Cj a x y z=true:=by
 have h:=Bh;unfold BD at h;have h:=List.all_eq_true.1 h a (List.mem_range.2 ha);have h:=List.all_eq_true.1 h x (List.mem_range.2 hx);have h:=List.all_eq_true.1 h y (List.mem_range.2 hy);have h:=List.all_eq_true.1 h z (List.mem_range.2 hz)
 simpa [h1,h2,h3,h4] using h
theorem FJ:∀a<12,∀x<4,0<x→0<om (wy a) (wy (a+x)):=by decide +kernel
theorem rO (a x:Nat):wy (a%12+x)=wy (a+x):=by unfold wy; rw[Nat.mod_add_mod]
structure Star (r:List I2):Prop where
 n3:2<r.length
 dir:∃δ:Nat→Nat,(∀i,δ i < δ (i+1)∧δ (i+1)≤δ i+3)∧(∀i,δ (i+r.length)=δ i+12)∧∀i,∃m:Int,0<m∧nx r i=xq m (wy (δ i))
theorem Star.left {r:List I2} (h:Star r) (i:Nat):0<om (nx r i) (nx r (i+1)):=by
 obtain⟨δ,h1,_,h3⟩:=h.dir;obtain⟨m,m0,e1⟩:=h3 i;obtain⟨k,k0,e2⟩:=h3 (i+1);have hd:=h1 i;rw[e1,e2,Ej];have:=FJ (δ i%12) (Nat.mod_lt _ (by decide)) (δ (i+1)-δ i) (by omega) (by omega)
 rw[AN,rO,show δ i+(δ (i+1)-δ i)=δ (i+1) by omega] at this
 exact Int.mul_pos (Int.mul_pos m0 k0) this
theorem Star.vr {r:List I2} (h:Star r):VR r:=by
 refine⟨h.n3,fun i e=>?_,fun i=>BN (h.left i) (h.left (i+1)),fun j i h1 h2 h3=>?_⟩
 ·have:=h.left i;rw[e] at this;unfold om at this;rw[Int.mul_comm,Int.sub_self] at this;exact absurd this (by decide)
 ·obtain⟨δ,d1,d2,d3⟩:=h.dir;have mono:∀a b,a≤b→δ a≤δ b:=fun a b hab=>by
   induction b with
   | zero=>rw[Nat.le_zero.1 hab]; exact Nat.le_refl _
   | succ b ih =>
    rcases Nat.lt_or_ge a (b+1) with g|g
    ·have:=ih (by omega); have:=d1 b; omega
    ·rw[show a=b+1 by omega]; exact Nat.le_refl _
  have g1:=d1 j;have g2:=d1 i;have g3:δ (j+1) < δ i:=by have:=mono (j+1+1) i (by omega); have:=d1 (j+1); omega
  have g4:δ (i+1) < δ j+12:=by
   by_cases hj:j=0
   ·have:=mono (i+1) (r.length-1) (by omega)
    have h5:=d1 (r.length-1);rw[show r.length-1+1=0+r.length by omega,d2] at h5
    subst hj; omega
   ·have:=mono (i+1) (0+r.length) (by omega)
    rw[d2] at this;have h6:=mono 1 j (by omega)
    have h7:=(d1 0).1;rw[Nat.zero_add] at h7;omega
  have ck:=Je (δ j%12) (Nat.mod_lt _ (by decide)) (δ (j+1)-δ j) (by omega) (δ i-δ j) (by omega) (δ (i+1)-δ i) (by omega) (by omega) (by omega) (by omega) (by omega)
  unfold Cj at ck;obtain⟨c,_,hc⟩:=List.any_eq_true.1 ck;simp only[Bool.and_eq_true,decide_eq_true_eq] at hc;obtain⟨⟨⟨c1,c2⟩,c3⟩,c4⟩:=hc;rw[AN] at c1;rw[rO,show δ j+(δ (j+1)-δ j)=δ (j+1) by omega] at c2
  rw[rO,show δ j+(δ i-δ j)=δ i by omega] at c3
  rw[Nat.add_assoc,rO,show δ j+(δ i-δ j+(δ (i+1)-δ i))=δ (i+1) by omega] at c4
  obtain⟨m1,p1,e1⟩:=d3 j;obtain⟨m2,p2,e2⟩:=d3 (j+1);obtain⟨m3,p3,e3⟩:=d3 i;obtain⟨m4,p4,e4⟩:=d3 (i+1);rw[e1,e2,e3,e4];exact pw (α:=c.1) (β:=c.2) (γ:=0) (by rw[oe]; exact Int.mul_pos c1 p1) (by rw[oe]; exact Int.mul_pos c2 p2) (by rw[oe]; exact Int.mul_neg_of_neg_of_pos c3 p3) (by rw[oe]; exact Int.mul_neg_of_neg_of_pos c4 p4)
theorem Cb {n:Nat} {f:Nat→Int} (h:∀i,i<n→0<f i) (hn:0<n):0<dj n f:=by
 induction n with
 | zero=>exact absurd hn (Nat.lt_irrefl 0)
 | succ n ih =>
  simp only[dj];have h1:=h n (Nat.lt_succ_self n);rcases Nat.eq_zero_or_pos n with e|e
  ·subst e; simp only[dj]; omega
  ·have:=ih (fun i hi=>h i (by omega)) e; omega
theorem Star.tS {r:List I2} (h:Star r):0<tS r:=Cb (fun i _=>h.left i) (by have:=h.n3; omega)
def IY (D:List Nat) (i:Nat):Nat:=if i+1<D.length then D.getD (i+1) 0 else D.getD 0 0+12
def Jr (D:List Nat):Bool:=decide (2<D.length) && (List.range D.length).all fun i=>decide (D.getD i 0<IY D i) && decide (IY D i≤D.getD i 0+3)
def Dl (b1 b2 b4 b5 b7 b8 b10 b11:Bool):List Nat:=(List.range 12).filter fun i=>[true,b1,b2,true,b4,b5,true,b7,b8,true,b10,b11].getD i false
theorem DW:∀b1 b2 b4 b5 b7 b8 b10 b11:Bool,Jr (Dl b1 b2 b4 b5 b7 b8 b10 b11)=true:=by decide +kernel
theorem DT {p:Nat→Bool} (h0:p 0=true) (h3:p 3=true) (h6:p 6=true) (h9:p 9=true):(List.range 12).filter p=Dl (p 1) (p 2) (p 4) (p 5) (p 7) (p 8) (p 10) (p 11):=by
 unfold Dl;refine List.filter_congr fun i hi=>?_;have:=List.mem_range.1 hi
 match i,this with
 | 0,_=>exact h0
 | 1,_=>rfl
 | 2,_=>rfl
 | 3,_=>exact h3
 | 4,_=>rfl
 | 5,_=>rfl
 | 6,_=>exact h6
 | 7,_=>rfl
 | 8,_=>rfl
 | 9,_=>exact h9
 | 10,_=>rfl
 | 11,_=>rfl
theorem DV {p:Nat→Bool} (h0:p 0=true) (h3:p 3=true) (h6:p 6=true) (h9:p 9=true) {m:Nat→Int} (hm:∀i,0<m i):Star (((List.range 12).filter p).map fun i=>xq (m i) (wy i)):=by
 rw[DT h0 h3 h6 h9];have ck:=DW (p 1) (p 2) (p 4) (p 5) (p 7) (p 8) (p 10) (p 11);generalize Dl (p 1) (p 2) (p 4) (p 5) (p 7) (p 8) (p 10) (p 11)=D at *;unfold Jr at ck;simp only[Bool.and_eq_true,decide_eq_true_eq,List.all_eq_true,List.mem_range] at ck;obtain⟨hn,hc⟩:=ck;have hn0:0<D.length:=by omega
 refine⟨by rw[List.length_map]; exact hn,fun i=>D.getD (i%D.length) 0+12*(i/D.length),fun i=>?_,fun i=>?_,fun i=>?_⟩
 ·have hi:=Nat.mod_lt i hn0;have h:=hc _ hi;have hd:=Nat.div_add_mod i D.length;unfold IY at h
  by_cases g:i%D.length+1<D.length
  ·have e1:(i+1)%D.length=i%D.length+1:=by
    rw[Nat.add_mod,Nat.mod_eq_of_lt (show 1<D.length by omega),Nat.mod_eq_of_lt g]
   have e2:(i+1)/D.length=i/D.length:=by
    have h5:=Nat.div_add_mod (i+1) D.length;rw[e1] at h5;have:D.length*((i+1)/D.length)=D.length*(i/D.length):=by omega
    exact Nat.eq_of_mul_eq_mul_left hn0 this
   rw[if_pos g] at h;simp only[e1,e2]; omega
  ·have hl:i%D.length+1=D.length:=by omega
   have e0:i+1=D.length*(i/D.length+1):=by rw[Nat.mul_add,Nat.mul_one]; omega
   have e1:(i+1)%D.length=0:=by rw[e0,Nat.mul_mod_right]
   have e2:(i+1)/D.length=i/D.length+1:=by rw[e0,Nat.mul_div_cancel_left _ hn0]
   rw[if_neg g] at h;simp only[e1,e2]; omega
 ·rw[List.length_map];simp only[Nat.add_mod_right,Nat.add_div_right _ hn0]; omega
 ·have hi:=Nat.mod_lt i hn0;refine⟨m (D.getD (i%D.length) 0),hm _,?_⟩;have hg:D.getD (i%D.length) 0=D[i%D.length]:=by rw[List.getD_eq_getElem?_getD,List.getElem?_eq_getElem hi]; rfl
  show nx (D.map fun i=>xq (m i) (wy i)) i=xq (m (D.getD (i%D.length) 0)) (wy (D.getD (i%D.length) 0+12*(i/D.length)))
  rw[hg];unfold nx;rw[List.length_map,List.getD_eq_getElem?_getD,List.getElem?_map,List.getElem?_eq_getElem hi]
  show xq (m D[i%D.length]) (wy D[i%D.length])=xq (m D[i%D.length]) (wy (D[i%D.length]+12*(i/D.length)))
  congr 1
  unfold wy;rw[Nat.add_mul_mod_self_left]
def oB:List I2→List (I2 × I2)
 | a::b::l=>(a,b)::oB (b::l)
 | _=>[]
def yi:List I2→Prop
 | a::b::l=>a≠b∧(∀c l',l=c::l'→¬(ti a b c=0∧di a b c<0))∧(∀e ∈ oB l,NM a b e.1 e.2)∧yi (b::l)
 | _=>True
theorem xu:∀(L:List I2) (i:Nat),i+1<L.length→(L.getD i (0,0),L.getD (i+1) (0,0)) ∈ oB L
 | [],_,h=>absurd h (by simp)
 | [_],_,h=>absurd h (by simp)
 | a::b::l,0,_=>by simp[oB]
 | a::b::l,i+1,h=>by
  have:=xu (b::l) i (by simpa using h)
  simp only[oB,List.mem_cons,List.getD_cons_succ] at *;exact .inr this
theorem yi.still:∀{L:List I2},yi L→∀i,i+1<L.length→L.getD i (0,0)≠L.getD (i+1) (0,0)
 | [],_,_,h=>absurd h (by simp)
 | [_],_,_,h=>absurd h (by simp)
 | _::_::_,ho,0,_=>ho.1
 | _::b::l,ho,i+1,h=>by simpa only[List.getD_cons_succ] using yi.still (L:=b::l) ho.2.2.2 i (by simpa using h)
theorem yi.re:∀{L:List I2},yi L→∀i,i+2<L.length→¬(ti (L.getD i (0,0)) (L.getD (i+1) (0,0)) (L.getD (i+2) (0,0))=0∧di (L.getD i (0,0)) (L.getD (i+1) (0,0)) (L.getD (i+2) (0,0))<0)
 | [],_,_,h=>absurd h (by simp)
 | [_],_,_,h=>absurd h (by simp)
 | [_,_],_,_,h=>absurd h (by simp)
 | _::_::c::l,ho,0,_=>ho.2.1 c l rfl
 | _::b::c::l,ho,i+1,h=>by simpa only[List.getD_cons_succ] using yi.re (L:=b::c::l) ho.2.2.2 i (by simpa using h)
theorem yi.meet:∀{L:List I2},yi L→∀j i,j+1<i→i+1<L.length→NM (L.getD j (0,0)) (L.getD (j+1) (0,0)) (L.getD i (0,0)) (L.getD (i+1) (0,0))
 | [],_,_,_,_,h=>absurd h (by simp)
 | [_],_,_,_,_,h=>absurd h (by simp)
 | _::_::l,ho,0,i+2,_,h=>by
  exact ho.2.2.1 _ (xu l i (by simp at h; omega))
 | _::b::l,ho,j+1,i+1,hj,h=>by simpa only[List.getD_cons_succ] using yi.meet (L:=b::l) ho.2.2.2 j i (by omega) (by simpa using h)
theorem Hu {a b:I2} {l:List I2} {z:I2} (hab:a≠b) (hl:l≠[]) (hz:l.getLast? = some z) (s1:∀c l',l=c::l'→¬(ti a b c=0∧di a b c<0)) (s2:¬(ti z a b=0∧di z a b<0)) (hm:∀e ∈ oB l,NM a b e.1 e.2) (ho:yi (b::l++[a])):VR (a::b::l):=by
 have hlen:0<l.length:=List.length_pos_iff.2 hl;have hn:(a::b::l).length=l.length+2:=by simp
 have hC:∀i,i<l.length+2→nx (a::b::l) (i+1)=(b::l++[a]).getD i (0,0):=fun i hi=>by
  unfold nx;rw[hn];rcases Nat.lt_or_ge (i+1) (l.length+2) with g|g
  ·rw[Nat.mod_eq_of_lt g,List.getD_cons_succ,List.cons_append,←List.cons_append];rw[List.getD_eq_getElem?_getD,List.getD_eq_getElem?_getD,List.getElem?_append_left (by simp; omega)]
  ·have:i=l.length+1:=by omega
   subst this;rw[show l.length+1+1=l.length+2 by omega,Nat.mod_self,List.getD_eq_getElem?_getD,List.getD_eq_getElem?_getD,List.getElem?_append_right (by simp)]
   simp
 have hL:(b::l++[a]).length=l.length+2:=by simp
 have h0:nx (a::b::l) 0=a:=by unfold nx; simp
 have red:∀i,∃k,k<l.length+2∧∀t,nx (a::b::l) (i+t)=nx (a::b::l) (k+t):=fun i =>
  ⟨i%(l.length+2),Nat.mod_lt _ (by omega),fun t=>gF _ (by rw[hn,Nat.mod_add_mod])⟩
 have hb:nx (a::b::l) 1=b:=by rw[hC 0 (by omega)]; rfl
 have hlast:nx (a::b::l) (l.length+1)=z:=by
  rw[hC l.length (by omega),List.getD_eq_getElem?_getD,List.getElem?_append_left (by simp)]
  have:(b::l)[l.length]? = l.getLast?:=by
   rw[List.getLast?_eq_getElem?,show l.length=(l.length-1)+1 by omega,List.getElem?_cons_succ]
   simp
  rw[this,hz]; rfl
 refine⟨by rw[hn]; omega,fun i=>?_,fun i=>?_,fun j i h1 h2 h3=>?_⟩
 ·obtain⟨k,hk,e⟩:=red i;rw[show nx (a::b::l) i=nx (a::b::l) (i+0) from rfl,e 0,e 1,Nat.add_zero]
  rcases Nat.eq_zero_or_pos k with g|g
  ·subst g; rw[h0,hb]; exact hab
  ·obtain⟨k,rfl⟩:∃k',k=k'+1:=⟨k-1,by omega⟩
   rw[hC k (by omega),hC (k+1) (by omega)]
   exact ho.still k (by rw[hL]; omega)
 ·obtain⟨k,hk,e⟩:=red i;rw[show nx (a::b::l) i=nx (a::b::l) (i+0) from rfl,e 0,e 1,e 2,Nat.add_zero]
  rcases Nat.eq_zero_or_pos k with g|g
  ·subst g;rw[h0,hb,show 0+2=1+1 from rfl,hC 1 (by omega)]
   match l,hl with
   | c::l',_=>exact s1 c l' rfl
  ·obtain⟨k,rfl⟩:∃k',k=k'+1:=⟨k-1,by omega⟩
   rw[hC k (by omega),hC (k+1) (by omega)]
   rcases Nat.lt_or_ge (k+2) (l.length+2) with g2|g2
   ·rw[show k+1+2=(k+2)+1 by omega,hC (k+2) g2]
    exact ho.re k (by rw[hL]; omega)
   ·have:k=l.length:=by omega
    subst this;have e1:nx (a::b::l) (l.length+1+2)=b:=by
     refine(gF _ ?_).trans hb;rw[hn,show l.length+1+2=1+(l.length+2) by omega,Nat.add_mod_right]
    rw[e1,←hC l.length (by omega),←hC (l.length+1) (by omega),hlast]
    have e2:nx (a::b::l) (l.length+1+1)=a:=by
     refine(gF _ ?_).trans h0;rw[hn,show l.length+1+1=l.length+2 by omega,Nat.mod_self,Nat.zero_mod]
    rw[e2]; exact s2
 ·rw[hn] at h2 h3;obtain⟨i,rfl⟩:∃i',i=i'+1:=⟨i-1,by omega⟩
  rw[hC i (by omega),hC (i+1) (by omega)]
  rcases Nat.eq_zero_or_pos j with g|g
  ·subst g;rw[h0,hb];obtain⟨i,rfl⟩:∃i',i=i'+1:=⟨i-1,by omega⟩
   have hi:i+1<l.length:=by omega
   have e:∀k,k<l.length→(b::l++[a]).getD (k+1) (0,0)=l.getD k (0,0):=fun k hk=>by
    rw[List.cons_append,List.getD_cons_succ,List.getD_eq_getElem?_getD,List.getD_eq_getElem?_getD,List.getElem?_append_left hk]
   rw[e i (by omega),e (i+1) hi]
   exact hm _ (xu l i hi)
  ·obtain⟨j,rfl⟩:∃j',j=j'+1:=⟨j-1,by omega⟩
   rw[hC j (by omega),hC (j+1) (by omega)]
   exact ho.meet j i (by omega) (by rw[hL]; omega)
theorem yO (F:I2→I2→Int):∀L:List I2,((oB L).map fun e=>F e.1 e.2).sum=dj (L.length-1) fun i=>F (L.getD i (0,0)) (L.getD (i+1) (0,0))
 | []=>rfl
 | [_]=>rfl
 | a::b::l=>by
  simp only[oB,List.map_cons,List.sum_cons];rw[yO F (b::l)];have:(a::b::l).length-1=(b::l).length-1+1:=by simp
  rw[this,zK]
  rfl
theorem DM (a b:I2) (l:List I2):tS (a::b::l)=om a b+((oB (b::l++[a])).map fun e=>om e.1 e.2).sum:=by
 have h:=yO om (a::(b::l++[a]));simp only[List.cons_append,oB,List.map_cons,List.sum_cons] at h;rw[List.cons_append,h];unfold tS;have hn:(a::b::l).length=l.length+2:=by simp
 rw[hn,show(a::b::(l++[a])).length-1=l.length+2 by simp]
 refine im fun i hi=>?_;have hC:∀i,i<l.length+3→nx (a::b::l) i=(a::b::(l++[a])).getD i (0,0):=fun i hi=>by
  unfold nx;rw[hn];rcases Nat.lt_or_ge i (l.length+2) with g|g
  ·rw[Nat.mod_eq_of_lt g,show a::b::(l++[a])=(a::b::l)++[a] by simp,List.getD_eq_getElem?_getD,List.getD_eq_getElem?_getD,List.getElem?_append_left (by simp; omega)]
  ·have:i=l.length+2:=by omega
   subst this;rw[Nat.mod_self,show a::b::(l++[a])=(a::b::l)++[a] by simp,List.getD_eq_getElem?_getD,List.getD_eq_getElem?_getD,List.getElem?_append_right (by simp)]
   simp
 rw[hC i (by omega),hC (i+1) (by omega)]
 rfl
def fm (h:Nat→Int):Nat→Int→List I2
 | 0,_=>[]
 | k+1,p=>(if h k=p then[] else[(((k+1:Nat):Int),h k)])++((k:Int),h k)::fm h k (h k)
def down (h:Nat→Int) (k:Nat) (p:Int):List I2:=fm h k p++[(0,0)]
theorem lW (h:Nat→Int) (p:Int):down h 0 p = [(0,0)]:=rfl
theorem mC {h:Nat→Int} {k:Nat} {p:Int} (e:h k=p):down h (k+1) p=((k:Int),h k)::down h k (h k):=by
 unfold down; simp only[fm]; rw[if_pos e]; rfl
theorem ml {h:Nat→Int} {k:Nat} {p:Int} (e:h k≠p):down h (k+1) p=(((k+1:Nat):Int),h k)::((k:Int),h k)::down h k (h k):=by
 unfold down; simp only[fm]; rw[if_neg e]; rfl
section
variable {h : Nat → Int} (hp : ∀ i, 1 ≤ h i)
include hp
theorem k8:∀(k:Nat) (p:Int),∀x ∈ fm h k p,0≤x.1∧x.1≤k∧1≤x.2
 | 0,_,_,hx=>absurd hx (by simp[fm])
 | k+1,p,x,hx=>by
  simp only[fm,List.mem_append,List.mem_cons] at hx;rcases hx with hx|hx|hx
  ·split at hx
   ·simp at hx
   ·rw[List.mem_singleton] at hx; subst hx;have:=hp k;exact⟨by dsimp only; omega,by dsimp only; omega,this⟩
  ·subst hx;have:=hp k;exact⟨by dsimp only; omega,by dsimp only; omega,this⟩
  ·have:=k8 k (h k) x hx;omega
theorem rP (k:Nat) (p:Int):∀x ∈ down h k p,0≤x.1∧x.1≤k∧0≤x.2:=fun x hx=>by
 unfold down at hx;rcases List.mem_append.1 hx with hx|hx
 ·have:=k8 hp k p x hx; omega
 ·rw[List.mem_singleton] at hx; subst hx; exact⟨by decide,by dsimp only; omega,by decide⟩
omit hp in
theorem sh {L:List I2}:∀{e:I2 × I2},e ∈ oB L→e.1 ∈ L∧e.2 ∈ L:=by
 induction L with
 | nil=>intro e he; simp[oB] at he
 | cons a L ih =>
  intro e he
  match L with
  | []=>simp[oB] at he
  | b::l =>
   simp only[oB,List.mem_cons] at he;rcases he with rfl|he
   ·simp
   ·have:=ih (by simpa only[oB] using he)
    exact⟨List.mem_cons_of_mem _ this.1,List.mem_cons_of_mem _ this.2⟩
omit hp in
theorem uZ {a b c d:I2} {k:Int} (ha:k<a.1) (hb:k<b.1) (hc:c.1≤k) (hd:d.1≤k):NM a b c d :=
 pw (α:=2) (β:=0) (γ:=-(2*k+1)) (by unfold er; omega) (by unfold er; omega) (by unfold er; omega) (by unfold er; omega)
omit hp in
theorem Cf {a b c d:I2} {y z:Int} (ha:a.2=y) (hb:b.2=y) (hc:c.2=z) (hd:d.2=z) (hyz:y≠z):NM a b c d:=by
 rcases Int.lt_or_gt_of_ne hyz with g|g
 ·exact pw (α:=0) (β:=-2) (γ:=y+z) (by unfold er; omega) (by unfold er; omega) (by unfold er; omega) (by unfold er; omega)
 ·exact pw (α:=0) (β:=2) (γ:=-(y+z)) (by unfold er; omega) (by unfold er; omega) (by unfold er; omega) (by unfold er; omega)
theorem DJ (k:Nat):∀e ∈ oB (down h k (h k)),NM (((k+1:Nat):Int),h k) ((k:Int),h k) e.1 e.2:=fun e he=>by
 match k with
 | 0=>rw[lW] at he; simp[oB] at he
 | k+1 =>
  have inner:∀e ∈ oB (((k:Int),h k)::down h k (h k)),NM (((k+1+1:Nat):Int),h (k+1)) (((k+1:Nat):Int),h (k+1)) e.1 e.2:=fun e he=>by
   obtain⟨m1,m2⟩:=sh he;have q:∀x ∈ ((k:Int),h k)::down h k (h k),x.1≤(k:Int):=fun x hx=>by
    rcases List.mem_cons.1 hx with rfl|hx
    ·exact Int.le_refl _
    ·exact(rP hp k _ x hx).2.1
   exact uZ (k:=(k:Int)) (by dsimp only; omega) (by dsimp only; omega) (q _ m1) (q _ m2)
  by_cases g:h k=h (k+1)
  ·rw[mC g] at he; exact inner e he
  ·rw[ml g] at he;simp only[oB,List.mem_cons] at he;rcases he with rfl|he
   ·exact Cf rfl rfl rfl rfl (Ne.symm g)
   ·exact inner e he
theorem BX (k:Nat) (ho:yi (((k:Int),h k)::down h k (h k))):yi ((((k+1:Nat):Int),h k)::((k:Int),h k)::down h k (h k)):=by
 refine⟨fun e=>by have:=congrArg Prod.fst e; dsimp only at this; omega,fun c l' e=>?_,DJ hp k,ho⟩
 rintro⟨g1,g2⟩;have hc:=rP hp k (h k) c (by rw[e]; exact List.mem_cons_self)
 unfold di at g2
 dsimp only at g2
 rw[Int.sub_self,Int.zero_mul,Int.add_zero,show(k:Int)-((k+1:Nat):Int) = -1 by omega] at g2
 omega
theorem uc:∀(k:Nat) (p:Int),(k=0→p≠0)→yi (((k:Int),p)::down h k p)
 | 0,p,h0=>by
  rw[lW];exact⟨fun e=>h0 rfl (congrArg Prod.snd e),fun c l' e=>by simp at e,fun e he=>by simp[oB] at he,trivial⟩
 | k+1,p,_=>by
  have ih:=uc k (h k) (fun _=>by have:=hp k; omega)
  have fl:=BX hp k ih
  by_cases g:h k=p
  ·rw[mC g,←g]; exact fl
  ·rw[ml g];refine⟨fun e=>g (congrArg Prod.snd e).symm,fun c l' e=>?_,fun e he=>?_,fl⟩
   ·have:c=((k:Int),h k):=(List.cons.inj e).1.symm;subst this;rintro⟨g1,_⟩;unfold ti at g1
    dsimp only at g1
    rw[Int.sub_self,Int.zero_mul,Int.zero_sub,show(k:Int)-((k+1:Nat):Int) = -1 by omega,Int.mul_neg,Int.mul_one] at g1
    omega
   ·obtain⟨m1,m2⟩:=sh he;have q:∀x ∈ ((k:Int),h k)::down h k (h k),x.1≤(k:Int):=fun x hx=>by
     rcases List.mem_cons.1 hx with rfl|hx
     ·exact Int.le_refl _
     ·exact(rP hp k _ x hx).2.1
    exact uZ (k:=(k:Int)) (by dsimp only; omega) (by dsimp only; omega) (q _ m1) (q _ m2)
def wj (h:Nat→Int) (c:Nat):List I2:=(0,0)::((c:Int),0)::fm h c 0
omit hp in
theorem rj:∀(k:Nat) (p:Int),0<k→(fm h k p).getLast? = some (0,h 0)
 | 0,_,hk=>absurd hk (Nat.lt_irrefl 0)
 | k+1,p,_=>by
  simp only[fm];rw[List.getLast?_append,List.getLast?_cons]
  match k with
  | 0=>simp[fm]
  | k+1=>rw[rj (k+1) _ (Nat.succ_pos k)]; simp
theorem GO {c:Nat} (hc:0<c):VR (wj h c):=by
 obtain⟨k,rfl⟩:∃k,c=k+1:=⟨c-1,by omega⟩
 have hk:=hp k;have h0:=hp 0;have first:fm h (k+1) 0=(((k+1:Nat):Int),h k)::((k:Int),h k)::fm h k (h k):=by
  simp only[fm]; rw[if_neg (by omega)]; rfl
 refine Hu (z:=(0,h 0)) (fun e=>by have:=congrArg Prod.fst e; dsimp only at this; omega) (by rw[first]; simp) (rj (k+1) 0 (Nat.succ_pos k)) (fun c l' e=>?_) ?_ (fun e he=>?_) (uc hp (k+1) 0 (fun e=>absurd e (by simp)))
 ·rw[first] at e
  have:c=(((k+1:Nat):Int),h k):=(List.cons.inj e).1.symm;subst this;rintro⟨g,_⟩;unfold ti at g
  dsimp only at g
  rw[Int.sub_zero,Int.sub_zero,Int.sub_self,Int.zero_mul,Int.sub_zero] at g;rcases Int.mul_eq_zero.1 g with e|e<;>omega
 ·rintro⟨g,_⟩;unfold ti at g
  dsimp only at g
  rw[Int.sub_self,Int.zero_mul,Int.zero_sub,Int.zero_sub,Int.sub_zero] at g;have:h 0*((k+1:Nat):Int)=0:=by rw[Int.neg_mul] at g; omega
  rcases Int.mul_eq_zero.1 this with e|e<;>omega
 ·obtain⟨m1,m2⟩:=sh he;have q1:=k8 hp _ _ _ m1;have q2:=k8 hp _ _ _ m2;exact pw (α:=0) (β:=-2) (γ:=1) (by unfold er; omega) (by unfold er; omega) (by unfold er; omega) (by unfold er; omega)
omit hp in
def rq (h:Nat→Int):Nat→Int
 | 0=>0
 | k+1=>rq h k+2*h k
omit hp in
theorem qD:∀(k:Nat) (p:Int),((oB (((k:Int),p)::down h k p)).map fun e=>om e.1 e.2).sum=rq h k-k*p
 | 0,p=>by
  rw[lW];simp[oB,om,rq]
 | k+1,p=>by
  have ih:=qD k (h k);have e1:om (((k+1:Nat):Int),h k) ((k:Int),h k)=h k:=by unfold om; dsimp only; rw[Int.mul_comm (h k),←Int.sub_mul,show((k+1:Nat):Int)-(k:Int)=1 by omega,Int.one_mul]
  by_cases g:h k=p
  ·rw[mC g,←g];simp only[oB,List.map_cons,List.sum_cons];rw[ih,e1];simp only[rq];rw[show((k+1:Nat):Int)=(k:Int)+1 by omega,Int.add_mul]
   omega
  ·rw[ml g];simp only[oB,List.map_cons,List.sum_cons];rw[ih,e1];have e2:om (((k+1:Nat):Int),p) (((k+1:Nat):Int),h k)=(k:Int)*h k+h k-(k:Int)*p-p:=by
    unfold om; dsimp only; rw[show((k+1:Nat):Int)=(k:Int)+1 by omega]; grind
   rw[e2];simp only[rq];rw[show((k+1:Nat):Int)=(k:Int)+1 by omega,Int.add_mul]
   omega
theorem DR {c:Nat} (hc:0<c):0<tS (wj h c):=by
 have e:tS (wj h c)=rq h c:=by
  unfold wj;rw[DM];have:=qD (h:=h) c 0;unfold down at this;rw[List.cons_append,this];unfold om; dsimp only; omega
 rw[e];have:∀k,0≤rq h k:=fun k=>by
  induction k with
  | zero=>exact Int.le_refl 0
  | succ k ih=>simp only[rq]; have:=hp k; omega
 obtain⟨k,rfl⟩:∃k,c=k+1:=⟨c-1,by omega⟩
 have h1:=this k;have h2:=hp k;simp only[rq]; omega
end
end Jd
end

section
namespace Go.Proofs.YthmekkhpddehjaaGreat
open Go Go.Ab Go.Ab.W Go.Ab.B Jd
structure Ok (l:List I2):Prop where
 len:l.length≤40
 nr:∀i,Nr (nx l i)
 vr:VR l
theorem jy {ρ:Type} {f:Nat→Option ρ} {e:ρ} {k i:Nat} (h:∀j,i≤j→j<i+k→f j=none):dv f e k i=e:=by
 rcases fL (f:=f) (e:=e) k i with⟨_,h2⟩|⟨j,h1,h2,h3⟩
 ·exact h2
 ·rw[h j h1 h2] at h3; cases h3
theorem BO {i L:Nat} (hL:0<L):((i+1)%L+L-1)%L=i%L:=by
 have h:=Nat.div_add_mod (i+1) L;have:((i+1)%L+L-1)+L*((i+1)/L)=i+L:=by omega
 rw[←Nat.add_mul_mod_self_left ((i+1)%L+L-1) L ((i+1)/L),this,Nat.add_mod_right]
theorem Ok.AK {l:List I2} (h:Ok l):AK l:=by
 have hn:=h.vr.n3;have hl:=h.len;unfold Go.Proofs.YthmekkhpddehjaaGreat.AK rl;rw[if_neg (by omega),jy (f:=qk l) fun j _ _=>by unfold qk; rw[if_neg (iL.2 (h.nr j))]]
 dsimp only
 rw[jy (f:=gG l) fun j _ _=>by unfold gG; rw[if_neg (h.vr.still j)]]
 dsimp only
 rw[jy (f:=hM l) fun j _ hj=>by
  unfold hM;have:=h.vr.re (j+l.length-1);rw[show j+l.length-1+1=j+l.length by omega,show j+l.length-1+2=(j+1)+l.length by omega,gF l (Nat.add_mod_right j l.length),gF l (Nat.add_mod_right (j+1) l.length)] at this
  rw[if_neg this]]
 dsimp only
 rw[jy (f:=iC l) fun j _ hj=>by
  unfold iC;rw[if_neg];rintro⟨t,ht,h1,h2⟩;exact h2 (sD.2 (h.vr.meet t j ht (by omega) fun e=>h1 ⟨e.1,by omega⟩))]
 exact Int.le_refl 0
theorem AK.ok {l:List I2} (h:AK l):Ok l:=by
 unfold Go.Proofs.YthmekkhpddehjaaGreat.AK rl at h
 split at h
 ·exact absurd (show(1:Int)≤0 from h) (by decide)
 ·rename_i hl;cases h1:dv (qk l) (.inr ()) l.length 0 with
  | inl v=>rw[h1] at h; exact absurd (show(2:Int)≤0 from h) (by decide)
  | inr _ =>
   rw[h1] at h
   dsimp only at h
   cases h2:dv (gG l) (.inr ()) l.length 0 with
   | inl v=>rw[h2] at h; exact absurd (show(3:Int)≤0 from h) (by decide)
   | inr _ =>
    rw[h2] at h
    dsimp only at h
    cases h3:dv (hM l) (.inr ()) l.length 0 with
    | inl v=>rw[h3] at h; exact absurd (show(4:Int)≤0 from h) (by decide)
    | inr _ =>
     rw[h3] at h
     dsimp only at h
     cases h4:dv (iC l) (.inr ()) l.length 0 with
     | inl v=>rw[h4] at h; exact absurd (show(5:Int)≤0 from h) (by decide)
     | inr _ =>
      have hL:0<l.length:=by omega
      refine⟨by omega,Bg hL h1,by omega,By hL h2,fun i=>?_,fun j i hji hi hn=>?_⟩
      ·have:=lC (fun j r hr=>by unfold hM at hr; split at hr<;>cases hr; simp) h3 ((i+1)%l.length) (Nat.mod_lt _ hL)
       unfold hM at this
       split at this
       ·cases this
       ·rename_i g;rw[gF l (BO hL),xJ,nC] at g;exact g
      ·have:=lC (fun j r hr=>by unfold iC at hr; split at hr<;>cases hr; simp) h4 i hi
       unfold iC at this
       split at this
       ·cases this
       ·rename_i g;refine sD.1 (Decidable.byContradiction fun e=>g ⟨j,hji,fun k=>hn ⟨k.1,by omega⟩,e⟩)
theorem DX {l:List I2}:AK l↔Ok l:=⟨AK.ok,Ok.AK⟩
def num (l:List Nat) (i:Nat):Nat:=if l.length=0 then i%3 else l.getD (i%l.length) 0
theorem FC {l:List Nat} (hb:∀x ∈ l,x<256) (i:Nat):num l i<256:=by
 unfold num
 split
 ·omega
 ·rename_i h;have hm:i%l.length<l.length:=Nat.mod_lt _ (by omega)
  rw[List.getD_eq_getElem?_getD,List.getElem?_eq_getElem hm];exact hb _ (List.getElem_mem hm)
section
variable (n : Nat) {l : List Nat} (hb : ∀ x ∈ l, x < 256) (x5 x6 : Int) (x7 : Nat) (x8 x9 : Bool)
include hb
theorem wD (i:Nat):F1 n l x5 x6 x7 x8 x9 (i:Int)=some ((num l i:Nat):Int):=by
 have hlt:=FC hb i;unfold F1;unfold num at hlt ⊢
 by_cases h:l.length=0
 ·rw[aO (by omega),if_pos h]; rfl
 ·have hm:i%l.length<l.length:=Nat.mod_lt _ (by omega)
  rw[if_neg h] at hlt ⊢;rw[aK (by omega),decide_eq_true (show((l.length:Nat):Int)≠0 by omega),bl,BQ,aJ hm,bl,Int.toNat_natCast]
  rw[List.getD_eq_getElem?_getD,List.getElem?_eq_getElem hm] at hlt ⊢;have hlt':l[i%l.length]<256:=hlt;rw[an,ax (by omega) (by omega)]; rfl
def kp (l:List Nat) (i:Nat):Bool:=!(decide (num l i%6=0) && !decide (i%3=0))
def cm (l:List Nat) (i:Nat):Int:=((1+num l i%6%5:Nat):Int)
def IH:List I2:=[(2,0),(2,1),(1,2),(0,2),(-1,2),(-2,1),(-2,0),(-2,-1),(-1,-2),(0,-2),(1,-2),(2,-1)]
omit hb in
theorem wB (i:Nat):1≤cm l i∧cm l i≤5:=by unfold cm; omega
omit hb in
theorem E9:∀i<12,IH[i]? = some ((wy i).1,(wy i).2):=by decide
omit hb in
theorem HX:∀i<12,-2≤(wy i).1∧(wy i).1≤2∧-2≤(wy i).2∧(wy i).2≤2:=by decide
omit hb in
theorem qw {x y:Int} (hx : -2≤x∧x≤2) (hy:1≤y∧y≤5):IntKind.wrap .i64 (x*y)=x*y:=by
 have:=ef (B:=2) (C:=5) (u:=x) (v:=y) (by decide) (by omega) (by omega) (by omega) (by omega)
 exact ax (by omega) (by omega)
theorem Bo {i:Nat} (hi:i<12) (acc:List I2) (ha:acc.length≤12):qC n l x5 x6 x7 x8 x9 (acc,IH,(i:Int))=some (.inl (if kp l i then acc++[xq (cm l i) (wy i)] else acc,IH,((i+1:Nat):Int))):=by
 have hw:=HX i hi;have hc:=wB (l:=l) i;have e1:Int.tmod ((num l i:Nat):Int) 6=((num l i%6:Nat):Int):=rfl;have e2:Int.tmod (i:Int) 3=((i%3:Nat):Int):=rfl;have e3:Int.tmod ((num l i%6:Nat):Int) 5=((num l i%6%5:Nat):Int):=rfl;have e4:IntKind.wrap .i64 (1+((num l i%6%5:Nat):Int))=cm l i:=by
  unfold cm; rw[ax (by omega) (by omega)]; omega
 unfold qC
 dsimp only
 rw[aO (by omega),wD n hb,an,e1,e2,e3,e4,aJ hi,bl,Int.toNat_natCast,E9 i hi,an]
 dsimp only
 rw[qw ⟨hw.1,hw.2.1⟩ hc,qw ⟨hw.2.2.1,hw.2.2.2⟩ hc,an,bl,an,aR (by omega),eA,an]
 have hk:(decide (((num l i%6:Nat):Int)=0) && !decide (((i%3:Nat):Int)=0)) = !kp l i:=by
  unfold kp;rw[Bool.not_not]
  congr 1
  ·rw[decide_eq_decide]; omega
  ·congr 1; rw[decide_eq_decide]; omega
 rw[hk];cases kp l i with
 | true =>
  rw[Bool.not_true,gB,show lim (acc++[((wy i).1*cm l i,(wy i).2*cm l i)]).length=true from Nat.ble_eq_true_of_le (by rw[List.length_append]; simp; omega),bl,an]; rfl
 | false=>rw[Bool.not_false,jO,an]; rfl
theorem oK:∀(k i m:Nat) (acc:List I2),i+k=12→acc.length≤i→k<m→bT (qC n l x5 x6 x7 x8 x9) m (acc,IH,(i:Int))=some (acc++((List.range' i k).filter (kp l)).map fun i=>xq (cm l i) (wy i))
 | 0,i,m+1,acc,h,_,_=>by
  rw[bG (r:=acc)]
  ·simp
  ·unfold qC
   dsimp only
   rw[aK (by omega)]
 | k+1,i,m+1,acc,h,ha,hm=>by
  rw[aV (Bo n hb x5 x6 x7 x8 x9 (show i<12 by omega) acc (by omega)),oK k (i+1) m _ (by omega) (by split<;>(try rw[List.length_append,List.length_singleton])<;>omega) (by omega),List.range'_succ,List.filter_cons]
  congr 1
  split<;>simp
def hh (l:List Nat) (i:Nat):Int:=((1+num l (i+1)%5:Nat):Int)
omit hb in
theorem vW (i:Nat):1≤hh l i:=by unfold hh; omega
omit hb in
theorem Hr (i:Nat):hh l i≤5:=by unfold hh; omega
omit hb in
theorem C6 (k:Nat):IntKind.wrap .i64 (1+Int.tmod ((num l (k+1):Nat):Int) 5)=hh l k:=by
 have e3:Int.tmod ((num l (k+1):Nat):Int) 5=((num l (k+1)%5:Nat):Int):=rfl;rw[e3]; unfold hh; rw[ax (by omega) (by omega)]; omega
omit hb in
theorem D7 (A:List I2) (x:I2) (hA:A.length<1000) {β:Type} (K:Int × Int→Option β):gd (bJ (IntKind.wrap .i64 (((A++[x]).length:Int)-1)) (A++[x]).length) (ob ((A++[x])[(IntKind.wrap .i64 (((A++[x]).length:Int)-1)).toNat]?) K)=K x:=by
 have e:IntKind.wrap .i64 (((A++[x]).length:Int)-1)=(A.length:Int):=by rw[List.length_append]; simp only[List.length_cons,List.length_nil]; rw[ax (by omega) (by omega)]; omega
 rw[e,aJ (by simp),bl,Int.toNat_natCast,List.getElem?_append_right (Nat.le_refl _),Nat.sub_self]
 exact an x K
omit hb in
theorem oL (A:List I2) (x:I2) (hA:A.length<1000) (k:Nat) (u:Int) (hu:(k:Int)≤u) (hu':u<100000) :
  oI n (k:Int) ((num l (k+1):Nat):Int) (A++[x],(A++[x]).length,u)=some (.inl ((A++[x])++(if x=(u,hh l k) then[] else[(u,hh l k)]),((A++[x])++(if x=(u,hh l k) then[] else[(u,hh l k)])).length,u-1)):=by
 unfold oI
 dsimp only
 rw[aO hu,C6,D7 A x hA]
 try dsimp only
 have hd:(decide (x.1=u) && decide (x.2=hh l k))=decide (x=(u,hh l k)):=dE x (u,hh l k);have hw:IntKind.wrap .i64 (u-1)=u-1:=ax (by omega) (by omega)
 rw[hd,hw]
 by_cases h:x=(u,hh l k)
 ·rw[decide_eq_true h,Bool.not_true,gB,an,if_pos h,List.append_nil]
 ·rw[decide_eq_false h,Bool.not_false,jO,show lim ((A++[x])++[(u,hh l k)]).length=true from Nat.ble_eq_true_of_le (by simp; omega),bl,an,if_neg h]
omit hb in
theorem wN (A:List I2) (hA:A.length<900) (k:Nat) (hk:k<10000) (p:Int) {m:Nat} (hm:3≤m) :
  ∃B,bT (oI n (k:Int) ((num l (k+1):Nat):Int)) m (A++[(((k+1:Nat):Int),p)],(A++[(((k+1:Nat):Int),p)]).length,((k+1:Nat):Int))=some (B++[((k:Int),hh l k)],(B++[((k:Int),hh l k)]).length) ∧
   B++[((k:Int),hh l k)]=A++[(((k+1:Nat):Int),p)]++((if hh l k=p then[] else[(((k+1:Nat):Int),hh l k)])++[((k:Int),hh l k)])∧B.length≤A.length+2:=by
 obtain⟨m,rfl⟩:∃q,m=q+3:=⟨m-3,by omega⟩
 have s1:=oL (l:=l) n A (((k+1:Nat):Int),p) (by omega) k ((k+1:Nat):Int) (by omega) (by omega)
 have sE:∀B:List I2,oI n (k:Int) ((num l (k+1):Nat):Int) (B,B.length,(k:Int)-1)=some (.inr (B,B.length)):=fun B=>by
  unfold oI
  dsimp only
  rw[aK (by omega)]
 have e1:((k+1:Nat):Int)-1=(k:Int):=by omega
 by_cases h:p=hh l k
 ·subst h;rw[if_pos rfl,List.append_nil,e1] at s1;have s2:=oL (l:=l) n A (((k+1:Nat):Int),hh l k) (by omega) k (k:Int) (by omega) (by omega)
  rw[if_neg (fun e=>by have:=congrArg Prod.fst e; dsimp only at this; omega)] at s2
  refine⟨A++[(((k+1:Nat):Int),hh l k)],?_,by simp,by simp⟩
  rw[aV s1,aV s2,bG (sE _)]
 ·rw[if_neg (fun e=>h (congrArg Prod.snd e)),e1] at s1;have s2:=oL (l:=l) n (A++[(((k+1:Nat):Int),p)]) (((k+1:Nat):Int),hh l k) (by simp; omega) k (k:Int) (by omega) (by omega)
  rw[if_neg (fun e=>by have:=congrArg Prod.fst e; dsimp only at this; omega)] at s2
  refine⟨A++[(((k+1:Nat):Int),p)]++[(((k+1:Nat):Int),hh l k)],?_,by rw[if_neg (fun e=>h e.symm)]; simp,by simp⟩
  rw[aV s1,aV s2,bG (sE _)]
theorem oJ (hn:3≤n):∀(k m:Nat) (A:List I2) (p:Int),A.length+2*k<900→k<m→∃N,bT (tY n l x5 x6 x7 x8 x9) m (A++[((k:Int),p)],(A++[((k:Int),p)]).length,(k:Int)-1)=some (A++[((k:Int),p)]++fm (hh l) k p,N)
 | 0,m+1,A,p,_,_=>by
  refine⟨_,bG (r:=(A++[(((0:Nat):Int),p)]++fm (hh l) 0 p,(A++[(((0:Nat):Int),p)]).length)) ?_⟩;unfold tY
  dsimp only
  rw[aK (by omega)]
  simp[fm]
 | k+1,m+1,A,p,hA,hm=>by
  obtain⟨B,h1,h2,h3⟩:=wN (l:=l) n A (by omega) k (by omega) p hn
  obtain⟨N,ih⟩:=oJ hn k m B (hh l k) (by omega) (by omega)
  have e1:((k+1:Nat):Int)-1=(k:Int):=by omega
  refine⟨N,?_⟩;rw[aV (s':=(B++[((k:Int),hh l k)],(B++[((k:Int),hh l k)]).length,(k:Int)-1)),ih,h2]
  ·simp only[fm,List.append_assoc,List.cons_append,List.nil_append]
  ·unfold tY
   dsimp only
   rw[e1,aO (by omega),aR (by omega),wD n hb,an,h1,an]
   dsimp only
   rw[ax (by omega) (by omega)]
def lu (l:List Nat):Nat:=1+num l 0%6
def fK (l:List Nat) (row:Bool):List I2:=if row then wj (hh l) (lu l) else((List.range 12).filter (kp l)).map fun i=>xq (cm l i) (wy i)
theorem Fb (hn:12<n):G1 n l x5 x6 x7 x8 x9=some (fK l x8):=by
 unfold G1 fK;cases x8 with
 | false =>
  rw[Bool.not_false,jO];have:=oK n hb x5 x6 x7 false x9 12 0 n [] (by omega) (by simp) hn
  rw[←List.range_eq_range'] at this;exact(congrArg (fun o=>ob o fun l2=>some l2) this).trans rfl
 | true =>
  have e0:Int.tmod ((num l 0:Nat):Int) 6=((num l 0%6:Nat):Int):=rfl;have e1:IntKind.wrap .i64 (1+((num l 0%6:Nat):Int))=(lu l:Int):=by unfold lu; rw[ax (by omega) (by omega)]; omega
  have e2:IntKind.wrap .i64 ((lu l:Int)-1)=(lu l:Int)-1:=ax (by unfold lu; omega) (by unfold lu; omega)
  rw[Bool.not_true,gB,show(0:Int)=((0:Nat):Int) from rfl,wD n hb,an,e0,e1,e2]
  obtain⟨N,h⟩:=oJ n hb x5 x6 x7 true x9 (by omega) (lu l) n [(0,0)] 0 (by simp; unfold lu; omega) (by unfold lu; omega)
  exact(congrArg (fun o=>ob o fun x:List I2 × Nat=>match x with | (l3,_)=>some l3) h).trans rfl
end
end Go.Proofs.YthmekkhpddehjaaGreat
end

section
namespace Jd
def Lt (a b:I2):Prop:=a.1<b.1∨a.1=b.1∧a.2<b.2
instance (a b:I2):Decidable (Lt a b):=by unfold Lt; infer_instance
theorem Lt.trans {a b c:I2} (h:Lt a b) (g:Lt b c):Lt a c:=by unfold Lt at *; omega
theorem Lt.CP (a:I2):¬Lt a a:=by unfold Lt; omega
theorem Lt.asymm {a b:I2} (h:Lt a b):¬Lt b a:=by unfold Lt at *; omega
theorem Lt.GV (a b:I2):Lt a b∨a=b∨Lt b a:=by
 unfold Lt
 by_cases h1:a.1=b.1
 ·by_cases h2:a.2=b.2
  ·exact .inr (.inl (Prod.ext h1 h2))
  ·omega
 ·omega
def Fw (x y:Int):Prop:=0<x∨x=0∧0<y
theorem fT {a b:I2} (h:Lt a b):Fw (b.1-a.1) (b.2-a.2):=by unfold Lt at h; unfold Fw; omega
theorem nW {x1 y1 x2 y2 x3 y3:Int} (f1:Fw x1 y1) (f2:Fw x2 y2) (f3:Fw x3 y3) (h:0≤x1*y2-y1*x2) (g:0≤x2*y3-y2*x3) :
  0≤x1*y3-y1*x3∧(0<x1*y2-y1*x2∨0<x2*y3-y2*x3→0<x1*y3-y1*x3):=by
 have nn:∀{a b:Int},0≤a→0≤b→0≤a*b:=Int.mul_nonneg;have pp:∀{a b:Int},0<a→0<b→0<a*b:=Int.mul_pos;unfold Fw at f1 f2 f3
 by_cases h2:0<x2
 ·
  have e:x2*(x1*y3-y1*x3)=x3*(x1*y2-y1*x2)+x1*(x2*y3-y2*x3):=by grind
  have g1:0≤x1:=by omega
  have g3:0≤x3:=by omega
  have m1:=nn g3 h;have m2:=nn g1 g;have m:0≤x2*(x1*y3-y1*x3):=by omega
  refine⟨Int.nonneg_of_mul_nonneg_right m h2,fun hs=>?_⟩;have pos:0<x2*(x1*y3-y1*x3):=by
   rcases hs with hs|hs
   ·by_cases k3:0<x3
    ·have:=pp k3 hs; omega
    ·have k3':x3=0:=by omega
     have k4:0<y3:=by omega
     subst k3'
     by_cases k1:0<x1
     ·have:=pp k1 (pp h2 k4);rw[Int.mul_zero,Int.sub_zero] at m2 ⊢
      grind
     ·have k1':x1=0:=by omega
      subst k1';have:0<y1:=by omega
      have:=pp this h2;omega
   ·by_cases k1:0<x1
    ·have:=pp k1 hs; omega
    ·have k1':x1=0:=by omega
     subst k1';have k2:0<y1:=by omega
     have:=pp k2 h2;omega
  exact Int.pos_of_mul_pos_right pos h2
 ·have k2:x2=0:=by omega
  have k3:0<y2:=by omega
  subst k2;have g':x3=0:=by
   refine Decidable.byContradiction fun hc=>?_;have:=pp k3 (show 0<x3 by omega)
   omega
  subst g';have k4:0<y3:=by omega
  rw[Int.mul_zero,Int.sub_zero,Int.mul_zero,Int.sub_zero] at *;have g1:0≤x1:=by omega
  refine⟨nn g1 (by omega),fun hs=>?_⟩
  rcases hs with hs|hs
  ·have:0<x1:=by
    refine Decidable.byContradiction fun hc=>?_;have:x1=0:=by omega
    subst this;omega
   exact pp this k4
  ·rw[Int.zero_mul] at hs; omega
theorem yl {s t p q:I2} (h1:Lt s t) (h2:Lt s p) (h3:Lt s q) (h:ti s t p≤0) (g:0≤ti s t q):0≤ti s p q:=by
 have:=(nW (fT h2) (fT h1) (fT h3) (by unfold ti at h; grind) (by unfold ti at g; grind)).1
 unfold ti; grind
theorem zB {s t p q:I2} (h1:Lt s p) (h2:Lt t p) (h3:Lt q p) (h:ti s t p≤0) (g:0≤ti t p q):0≤ti s p q:=by
 have:=(nW (fT h3) (fT h2) (fT h1) (by unfold ti at g; grind) (by unfold ti at h; grind)).1
 unfold ti; grind
theorem wX {a b p q:I2} (h1:Lt q b) (h2:Lt a b) (h3:Lt b p) (h:0≤ti a b q) (g:0<ti a b p):0<ti b p q:=by
 have:=(nW (fT h1) (fT h2) (fT h3) (by unfold ti at h; grind) (by unfold ti at g; grind)).2 (.inr (by unfold ti at g; grind))
 unfold ti; grind
theorem z6 {a b c p:I2} (h1:Lt a b) (h2:Lt b c) (h3:Lt b p) (h:0<ti a b c) (g:0<ti b c p):0<ti a b p:=by
 have:=(nW (fT h1) (fT h2) (fT h3) (by unfold ti at h; grind) (by unfold ti at g; grind)).2 (.inr (by unfold ti at g; grind))
 unfold ti; grind
def pop (p:I2):List I2→List I2
 | b::a::st=>if ti a b p≤0 then pop p (a::st) else b::a::st
 | st=>st
def push (st:List I2) (p:I2):List I2:=p::pop p st
def Edge (Q:I2→Prop) (a b:I2):Prop:=Lt a b∧∀q,Q q→0≤ti a b q∧(ti a b q=0→¬Lt q a∧¬Lt b q)
inductive Stk (Q:I2→Prop):List I2→Prop
 | one {a}:(∀q,Q q→¬Lt q a)→Q a→Stk Q [a]
 | more {a b st}:Edge Q a b→Q b→Stk Q (a::st)→Stk Q (b::a::st)
theorem Stk.top {Q:I2→Prop} {a:I2} {st:List I2} (h:Stk Q (a::st)):Q a:=by
 cases h with
 | one _ h=>exact h
 | more _ h _=>exact h
theorem Stk.wv {Q:I2→Prop} {p:I2} (hp:∀q,Q q→Lt q p):∀{st:List I2},Stk Q st→(∀a b st',st=b::a::st'→0<ti a b p)→Stk (fun q=>Q q∨q=p) st
 | _,.one h1 h2,_=>.one (fun q hq=>by
   rcases hq with hq|rfl
   ·exact h1 q hq
   ·exact(hp _ h2).asymm) (.inl h2)
 | _,.more (a:=a) (b:=b) (st:=st) h1 h2 h3,hl=>by
  have h0:=hl a b st rfl;refine .more ⟨h1.1,fun q hq=>?_⟩ (.inl h2) (Stk.wv hp h3 fun a' b' st' e=>?_)
  ·rcases hq with hq|rfl
   ·exact h1.2 q hq
   ·exact⟨by omega,fun e=>by omega⟩
  ·obtain⟨rfl,rfl⟩:a=b'∧st=a'::st':=by
    constructor
    ·exact(List.cons.inj e).1
    ·exact(List.cons.inj e).2
   cases h3 with
   | more e1 e2 e3 =>
    have e4:=e1.2 b h2;have e5:0<ti a' a b:=by
     refine Decidable.byContradiction fun hc=>?_;exact(e4.2 (by omega)).2 h1.1
    exact z6 e1.1 h1.1 (hp _ e2) e5 h0
theorem Bl {Q:I2→Prop} {p:I2} (hp:∀q,Q q→Lt q p):∀(st:List I2),Stk Q st→(∀t st',st=t::st'→∀q,Q q→Lt t q→0≤ti t p q)→Stk (fun q=>Q q∨q=p) (p::pop p st)
 | _,.one (a:=a) h1 h2,ht=>by
  refine .more ⟨hp a h2,fun q hq=>?_⟩ (.inr rfl) (.one (fun q hq=>?_) (.inl h2))
  ·rcases hq with hq|rfl
   ·have hl:=h1 q hq;rcases Lt.GV a q with h|rfl|h
    ·exact⟨ht a [] rfl q hq h,fun _=>⟨hl,(hp q hq).asymm⟩⟩
    ·have:=kA a p;exact⟨by omega,fun _=>⟨hl,(hp _ hq).asymm⟩⟩
    ·exact absurd h hl
   ·have:=kK a q;exact⟨by omega,fun _=>⟨(hp a h2).asymm,Lt.CP q⟩⟩
  ·rcases hq with hq|rfl
   ·exact h1 q hq
   ·exact(hp a h2).asymm
 | _,.more (a:=a) (b:=b) (st:=st) h1 h2 h3,ht=>by
  unfold pop
  by_cases hc:ti a b p≤0
  ·rw[if_pos hc];refine Bl hp (a::st) h3 fun t st' e q hq hl=>?_;obtain⟨rfl,rfl⟩:=List.cons.inj e;rcases Lt.GV q b with h|h|h
   ·exact yl h1.1 (hp _ h3.top) hl hc (h1.2 q hq).1
   ·exact yl h1.1 (hp _ h3.top) hl hc (h1.2 q hq).1
   ·exact zB (hp _ h3.top) (hp _ h2) (hp q hq) hc (ht b _ rfl q hq h)
  ·rw[if_neg hc];have hs:Stk Q (b::a::st):=.more h1 h2 h3;refine .more ⟨hp b h2,fun q hq=>?_⟩ (.inr rfl) (hs.wv hp fun a' b' st' e=>?_)
   ·rcases hq with hq|rfl
    ·rcases Lt.GV q b with h|rfl|h
     ·have:=wX h h1.1 (hp b h2) (h1.2 q hq).1 (by omega)
      exact⟨by omega,fun e=>by omega⟩
     ·have:=kA q p;exact⟨by omega,fun _=>⟨Lt.CP q,(hp q hq).asymm⟩⟩
     ·exact⟨ht b _ rfl q hq h,fun _=>⟨h.asymm,(hp q hq).asymm⟩⟩
    ·have:=kK b q;exact⟨by omega,fun _=>⟨(hp b h2).asymm,Lt.CP q⟩⟩
   ·obtain⟨rfl,e2⟩:=List.cons.inj e;obtain⟨rfl,rfl⟩:=List.cons.inj e2;omega
theorem Stk.mono {Q R:I2→Prop} (h:∀q,Q q↔R q) {st:List I2} (s:Stk Q st):Stk R st:=by
 have:Q=R:=funext fun q=>propext (h q);rw[←this]; exact s
theorem tP:∀(l done:List I2) (st:List I2),(done++l).Pairwise Lt→Stk (· ∈ done) st→(∀t st',st=t::st'→∀q,q ∈ done→¬Lt t q)→Stk (· ∈ done++l) (l.foldl push st)∧∀t st',l.foldl push st=t::st'→∀q,q ∈ done++l→¬Lt t q
 | [],done,st,_,hs,ht=>by
  rw[List.append_nil];exact⟨hs,ht⟩
 | p::l,done,st,hp,hs,ht=>by
  have hlt:∀q,q ∈ done→Lt q p:=fun q hq=>(List.pairwise_append.1 hp).2.2 q hq p List.mem_cons_self;have h1:=Bl (Q:=(· ∈ done)) hlt st hs fun t st' e q hq hl=>absurd hl (ht t st' e q hq);have e:done++p::l=(done++[p])++l:=by simp
  rw[e] at hp ⊢;refine tP l (done++[p]) (push st p) hp (h1.mono fun q=>by simp) fun t st' e' q hq=>?_
  obtain⟨rfl,_⟩:=List.cons.inj e';rcases List.mem_append.1 hq with h|h
  ·exact(hlt q h).asymm
  ·rw[List.mem_singleton.1 h]; exact Lt.CP p
def ng (a:I2):I2:=(-a.1,-a.2)
theorem EM (a b p:I2):ti (ng a) (ng b) (ng p)=ti a b p:=by unfold ti ng; grind
theorem Hh (a b p:I2):di (ng a) (ng b) (ng p)=di a b p:=by unfold di ng; grind
theorem ES {a b:I2}:Lt (ng a) (ng b)↔Lt b a:=by unfold Lt ng; omega
theorem fS (a:I2):ng (ng a)=a:=by unfold ng; exact Prod.ext (by simp) (by simp)
theorem Cx (p:I2):∀st:List I2,pop (ng p) (st.map ng)=(pop p st).map ng
 | []=>rfl
 | [_]=>rfl
 | b::a::st=>by
  show(if ti (ng a) (ng b) (ng p)≤0 then pop (ng p) (ng a::st.map ng) else ng b::ng a::st.map ng)=(if ti a b p≤0 then pop p (a::st) else b::a::st).map ng
  rw[EM]
  split
  ·exact Cx p (a::st)
  ·rfl
theorem xG:∀(l st:List I2),(l.map ng).foldl push (st.map ng)=(l.foldl push st).map ng
 | [],_=>rfl
 | p::l,st=>by
  rw[List.map_cons,List.foldl_cons,List.foldl_cons,←xG l (push st p)];unfold push;rw[Cx]; rfl
def Good (S:I2→Prop) (x y:I2):Prop:=x≠y∧S y∧∀q,S q→0<ti x y q∨q=x∨q=y∨(ti x y q=0∧0<di x q y)
theorem FB {x1 y1 x2 y2:Int} (f1:Fw x1 y1) (f2:Fw x2 y2) (h:x1*y2-y1*x2=0):0<x1*x2+y1*y2:=by
 unfold Fw at f1 f2;have pp:∀{a b:Int},0<a→0<b→0<a*b:=Int.mul_pos
 by_cases h1:0<x1
 ·by_cases h2:0<x2
  ·
   have e:x1*x1*(y1*y2)=(x1*y1)*(x1*y2):=by grind
   have e2:x1*y2=y1*x2:=by omega
   have e3:x1*x1*(y1*y2)=(x1*x2)*(y1*y1):=by rw[e,e2]; grind
   have m1:=pp h1 h2;have m2:0≤x1*x1*(y1*y2):=by rw[e3]; exact Int.mul_nonneg (Int.le_of_lt m1) ur
   have:=Int.nonneg_of_mul_nonneg_right m2 (pp h1 h1);omega
  ·have e:x2=0:=by omega
   have:=pp h1 (show 0<y2 by omega)
   subst e;omega
 ·have e:x1=0:=by omega
  subst e;have k:0<y1:=by omega
  have:x2=0:=by
   refine Decidable.byContradiction fun hc=>?_;have:=pp k (show 0<x2 by omega)
   omega
  subst this;have:=pp k (show 0<y2 by omega)
  omega
theorem Edge.nS {Q:I2→Prop} {a b:I2} (h:Edge Q a b) (hb:Q b):Good Q a b:=by
 refine⟨fun e=>Lt.CP b (by have:=h.1; rwa[e] at this),hb,fun q hq=>?_⟩
 obtain⟨h1,h2⟩:=h.2 q hq
 by_cases h0:ti a b q=0
 ·obtain⟨g1,g2⟩:=h2 h0;rcases Lt.GV a q with k|k|k
  ·rcases Lt.GV q b with k' | k' | k'
   ·refine .inr (.inr (.inr ⟨h0,?_⟩));exact FB (fT k) (fT k') (by rw[←Int.neg_eq_zero,←h0]; unfold ti; grind)
   ·exact .inr (.inr (.inl k'))
   ·exact absurd k' g2
  ·exact .inr (.inl k.symm)
  ·exact absurd k g1
 ·exact .inl (by omega)
theorem Good.ng {Q:I2→Prop} {a b:I2} (h:Good (fun q=>Q (Jd.ng q)) a b):Good Q (Jd.ng a) (Jd.ng b):=by
 refine⟨fun e=>h.1 (by have:=congrArg Jd.ng e; rwa[fS,fS] at this),h.2.1,fun q hq=>?_⟩
 have:=h.2.2 (Jd.ng q) (by show Q (Jd.ng (Jd.ng q)); rw[fS]; exact hq)
 rw[←EM,fS] at this;rcases this with k|k|k|⟨k1,k2⟩
 ·exact .inl k
 ·exact .inr (.inl (by rw[←k,fS]))
 ·exact .inr (.inr (.inl (by rw[←k,fS])))
 ·refine .inr (.inr (.inr ⟨k1,?_⟩));rw[←Hh,fS] at k2;exact k2
inductive Way (S:I2→Prop):List I2→Prop
 | one (a):Way S [a]
 | more {a b l}:Good S a b→Way S (b::l)→Way S (a::b::l)
theorem Way.app {S:I2→Prop} {b:I2}:∀{l m:List I2},Way S (l++[b])→Way S (b::m)→Way S (l++b::m)
 | [],_,_,h=>h
 | [_],_,.more h _,g=>.more h g
 | _::a'::l,_,.more h k,g=>.more h (Way.app (l:=a'::l) k g)
theorem Stk.JC {Q:I2→Prop}:∀{st:List I2},Stk Q st→Way Q st.reverse
 | _,.one (a:=a) _ _=>.one a
 | _,.more (a:=a) (b:=b) (st:=st) h1 h2 h3=>by
  have:=h3.JC;rw[List.reverse_cons] at this;rw[List.reverse_cons,List.reverse_cons,List.append_assoc];exact this.app (.more (h1.nS h2) (.one b))
theorem Way.Ar {Q:I2→Prop}:∀{l:List I2},Way (fun q=>Q (ng q)) l→Way Q (l.map ng)
 | _,.one a=>.one (ng a)
 | _,.more h k=>.more h.ng k.Ar
def fC (now next q:I2):I2:=if next=now∨ti now next q<0∨(ti now next q=0∧0<di now next q) then q else next
theorem xh {S:I2→Prop} {x y q:I2} (h:Good S x y) (hq:S q):fC x y q=y:=by
 unfold fC;rw[if_neg];rintro(e|e|⟨e,f⟩)
 ·exact h.1 e.symm
 ·rcases h.2.2 q hq with k|k|k|k
  ·omega
  ·rw[k,kA] at e; omega
  ·rw[k,kK] at e; omega
  ·omega
 ·rcases h.2.2 q hq with k|k|k|k
  ·omega
  ·rw[k] at f;have s1:=@ur (y.1-x.1);have s2:=@ur (y.2-x.2);unfold di at f; grind
  ·rw[k] at f; unfold di at f; grind
  ·have s1:=@ur (q.1-y.1);have s2:=@ur (q.2-y.2);have k2:=k.2;unfold di at f k2; grind
theorem xy {S:I2→Prop} {x y c:I2} (h:Good S x y) (hc:S c):fC x c y=y:=by
 unfold fC
 by_cases e:c=y
 ·subst e; split<;>rfl
 ·rw[if_pos];rcases h.2.2 c hc with k|k|k|k
  ·refine .inr (.inl ?_);have:ti x c y = -ti x y c:=by unfold ti; grind
   omega
  ·exact .inl k
  ·exact absurd k e
  ·refine .inr (.inr ⟨?_,k.2⟩);have:ti x c y = -ti x y c:=by unfold ti; grind
   omega
theorem qF {S:I2→Prop} {x y:I2} (h:Good S x y):∀(l:List I2) (c:I2),(∀q ∈ l,S q)→S c→(y ∈ l∨c=y)→l.foldl (fC x) c=y
 | [],c,_,_,hm=>by
  rcases hm with hm|rfl
  ·cases hm
  ·rfl
 | q::l,c,hl,hc,hm=>by
  rw[List.foldl_cons];have hq:=hl q List.mem_cons_self;have hl':=fun q hq=>hl q (List.mem_cons_of_mem _ hq)
  by_cases e:c=y
  ·subst e;rw[xh h hq];exact qF h l c hl' hc (.inr rfl)
  ·rcases hm with hm|hm
   ·rcases List.mem_cons.1 hm with e' | hm
    ·subst e';rw[xy h hc];exact qF h l y hl' hq (.inr rfl)
    ·refine qF h l _ hl' ?_ (.inl hm);unfold fC
     split
     ·exact hq
     ·exact hc
   ·exact absurd hm e
def chain (l:List I2):List I2:=(l.foldl push []).reverse
theorem nM {l:List I2} (h:l.Pairwise Lt):(l.reverse.map ng).Pairwise Lt:=by
 rw[List.pairwise_map,List.pairwise_reverse];exact h.imp fun h=>ES.2 h
theorem qR {l:List I2} (h:l.Pairwise Lt) {a:I2} (ha:l.head? = some a) {b:I2} (hb:l.getLast? = some b) :
  Way (· ∈ l) (chain l)∧(chain l).head? = some a∧(chain l).getLast? = some b∧(chain l).Pairwise Lt:=by
 obtain⟨l',rfl⟩:∃l',l=a::l':=by
  cases l with
  | nil=>cases ha
  | cons x l'=>exact⟨l',by rw[←Option.some.inj ha]⟩
 have h0:Stk (· ∈ [a]) [a]:=.one (fun q hq=>by rw[List.mem_singleton.1 hq]; exact Lt.CP a) List.mem_cons_self
 obtain⟨h1,h2⟩:=tP l' [a] [a] h h0 fun t st' e q hq=>by
  rw[List.mem_singleton.1 hq,←(List.cons.inj e).1]; exact Lt.CP a
 have e:(a::l').foldl push []=l'.foldl push [a]:=rfl;unfold chain;rw[e];generalize hst:l'.foldl push [a]=st at *;have hm:∀q,q ∈ [a]++l'↔q ∈ a::l':=fun q=>by simp
 have hs:=h1.mono hm;have hpw:∀{st:List I2},Stk (· ∈ a::l') st→st.Pairwise (fun x y=>Lt y x)∧st.getLast? = some a:=by
  intro st hs
  induction hs with
  | one g1 g2 =>
   rename_i c;refine⟨List.pairwise_singleton _ _,?_⟩;rcases List.mem_cons.1 g2 with rfl|hc
   ·rfl
   ·exact absurd ((List.pairwise_cons.1 h).1 c hc) (g1 a List.mem_cons_self)
  | more g1 g2 g3 ih =>
   refine⟨List.pairwise_cons.2 ⟨fun x hx=>?_,ih.1⟩,by rw[List.getLast?_cons_cons]; exact ih.2⟩
   rcases List.mem_cons.1 hx with rfl|hx
   ·exact g1.1
   ·exact((List.pairwise_cons.1 ih.1).1 x hx).trans g1.1
 obtain⟨p1,p2⟩:=hpw hs;refine⟨hs.JC,by rw[List.head?_reverse]; exact p2,?_,List.pairwise_reverse.2 p1⟩
 rw[List.getLast?_reverse];cases st with
 | nil=>cases hs
 | cons t st' =>
  have ht:=hs.top;have:=h2 t st' rfl b ((hm b).2 (List.mem_of_getLast? hb));rcases Lt.GV t b with k|k|k
  ·exact absurd k this
  ·rw[k]; rfl
  ·
   exfalso;obtain⟨m,hm'⟩:∃m,a::l'=m++[b]:=by
    have:=List.getLast?_eq_some_iff.1 hb;exact this
   rw[hm'] at ht h;rcases List.mem_append.1 ht with g|g
   ·exact Lt.asymm ((List.pairwise_append.1 h).2.2 t g b (by simp)) k
   ·rw[List.mem_singleton.1 g] at k; exact Lt.CP b k
theorem Bi (l:List I2):chain (l.map ng)=(chain l).map ng:=by
 unfold chain;have:=xG l [];rw[List.map_nil] at this;rw[this,List.map_reverse]
theorem Way.mem {S:I2→Prop}:∀{a:I2} {l:List I2},Way S (a::l)→∀q ∈ l,S q
 | _,_,.one _,q,hq=>by cases hq
 | _,_,.more h k,q,hq=>by
  rcases List.mem_cons.1 hq with rfl|hq
  ·exact h.2.1
  ·exact k.mem q hq
theorem yq {l:List I2} {a b:I2} (ha:l.head? = some a) (hb:l.getLast? = some b) (hab:a≠b):∃m,l=a::m++[b]:=by
 obtain⟨m,rfl⟩:=List.getLast?_eq_some_iff.1 hb;cases m with
 | nil=>exact absurd (Option.some.inj ha).symm hab
 | cons x m =>
  have:x=a:=Option.some.inj ha;rw[this]; exact⟨m,rfl⟩
theorem Cn {l:List I2} (h:l.Pairwise Lt) {a b:I2} (ha:l.head? = some a) (hb:l.getLast? = some b) (hab:a≠b) :
  ∃m u,chain l=a::m++[b]∧chain l.reverse=b::u++[a]∧Way (· ∈ l) (a::m++b::(u++[a]))∧(∀q ∈ m++b::u,Lt a q)∧(∀q ∈ a::m++b::u,q ∈ l):=by
 obtain⟨w1,w2,w3,w4⟩:=qR h ha hb;have hr1:(l.reverse.map ng).head? = some (ng b):=by rw[List.head?_map,List.head?_reverse,hb]; rfl
 have hr2:(l.reverse.map ng).getLast? = some (ng a):=by rw[List.getLast?_map,List.getLast?_reverse,ha]; rfl
 obtain⟨v1,v2,v3,v4⟩:=qR (nM h) hr1 hr2;rw[Bi] at v1 v2 v3 v4;have back:(chain l.reverse).map (fun q=>ng (ng q))=chain l.reverse:=by
  rw[List.map_congr_left fun q _=>fS q,List.map_id']
 have v2':(chain l.reverse).head? = some b:=by
  rw[List.head?_map] at v2;cases e:(chain l.reverse).head? with
  | none=>rw[e] at v2; cases v2
  | some x =>
   rw[e] at v2;have:=congrArg ng (Option.some.inj v2);rw[fS,fS] at this;rw[this]
 have v3':(chain l.reverse).getLast? = some a:=by
  rw[List.getLast?_map] at v3;cases e:(chain l.reverse).getLast? with
  | none=>rw[e] at v3; cases v3
  | some x =>
   rw[e] at v3;have:=congrArg ng (Option.some.inj v3);rw[fS,fS] at this;rw[this]
 have vw:Way (· ∈ l) (chain l.reverse):=by
  have e:(fun q=>q ∈ l.reverse.map ng)=fun q=>ng q ∈ l:=funext fun q=>propext (by
   rw[List.mem_map];refine⟨fun⟨x,hx,e⟩=>by rw[←e,fS]; exact List.mem_reverse.1 hx,fun hx=>⟨ng q,List.mem_reverse.2 hx,fS q⟩⟩)
  have v1':Way (fun q=>ng q ∈ l) ((chain l.reverse).map ng):=by rw[←e]; exact v1
  have:=v1'.Ar;rw[List.map_map] at this;rw[←back]; exact this
 obtain⟨m,hm⟩:=yq w2 w3 hab;obtain⟨u,hu⟩:=yq v2' v3' fun e=>hab e.symm;rw[hm] at w1 w4;rw[hu] at vw v4;have hmem:∀q ∈ a::m++b::u,q ∈ l:=fun q hq=>by
  rcases List.mem_append.1 hq with g|g
  ·rcases List.mem_cons.1 g with rfl|g
   ·exact List.mem_of_head? ha
   ·exact Way.mem (a:=a) (l:=m++[b]) w1 q (List.mem_append.2 (.inl g))
  ·rcases List.mem_cons.1 g with rfl|g
   ·exact List.mem_of_getLast? hb
   ·exact Way.mem (a:=b) (l:=u++[a]) vw q (List.mem_append.2 (.inl g))
 refine⟨m,u,hm,hu,Way.app (l:=a::m) w1 vw,fun q hq=>?_,hmem⟩;have p1:=List.pairwise_cons.1 (show(a::(m++[b])).Pairwise Lt from w4)
 rcases List.mem_append.1 hq with g|g
 ·exact p1.1 q (List.mem_append.2 (.inl g))
 ·rcases List.mem_cons.1 g with rfl|g
  ·exact p1.1 q (by simp)
  ·rw[List.map_append,List.map_singleton] at v4;have:=(List.pairwise_append.1 v4).2.2 (ng q) (List.mem_map.2 ⟨q,List.mem_cons_of_mem _ g,rfl⟩) (ng a) (by simp)
   exact ES.1 this
theorem zn {S:I2→Prop} {x y z:I2} (h:Good S x y) (g:Good S x z):y=z:=by
 have mem:∀q ∈ [y,z],S q:=fun q hq=>by
  simp at hq;rcases hq with rfl|rfl
  ·exact h.2.1
  ·exact g.2.1
 have h1:=qF h [y,z] y mem h.2.1 (.inr rfl);have h2:=qF g [y,z] y mem h.2.1 (.inl (by simp))
 exact h1.symm.trans h2
theorem Good.ge {S:I2→Prop} {x y q:I2} (h:Good S x y) (hq:S q):0≤ti x y q:=by
 rcases h.2.2 q hq with g|rfl|rfl|g
 ·omega
 ·rw[kA]; exact Int.le_refl 0
 ·rw[kK]; exact Int.le_refl 0
 ·omega
theorem Hv {x y q z:I2}:((y.1-q.1)*(y.1-x.1)+(y.2-q.2)*(y.2-x.2))*ti q z x+((q.1-x.1)*(y.1-x.1)+(q.2-x.2)*(y.2-x.2))*ti q z y=ti x y q * -((z.1-q.1)*(y.1-x.1)+(z.2-q.2)*(y.2-x.2)):=by unfold ti; grind
theorem Du {u v w:I2} (h1:u.1*w.2=u.2*w.1) (_:v.1*w.2=v.2*w.1) (g1:0<u.1*w.1+u.2*w.2) (g2:0<v.1*w.1+v.2*w.2):0<u.1*v.1+u.2*v.2:=by
 have e:(u.1*w.1+u.2*w.2)*(v.1*w.1+v.2*w.2)=(u.1*v.1+u.2*v.2)*(w.1*w.1+w.2*w.2):=by grind
 have p:=Int.mul_pos g1 g2;rw[e] at p;have n:0≤w.1*w.1+w.2*w.2:=Int.add_nonneg ur ur;rcases Int.lt_or_eq_of_le n with k|k
 ·rw[Int.mul_comm] at p; exact Int.pos_of_mul_pos_right p k
 ·rw[←k,Int.mul_zero] at p; exact absurd p (by decide)
structure Hul (S:I2→Prop) (r:List I2):Prop where
 n3:2<r.length
 nS:∀i,Good S (nx r i) (nx r (i+1))
 nodup:∀i j,i<j→j<r.length→nx r i≠nx r j
section
variable {S : I2 → Prop} {r : List I2}
theorem Hul.mem (h:Hul S r) (i:Nat):S (nx r i):=by
 have hn:=h.n3;have:=(h.nS (i+(r.length-1))).2.1;rwa[show i+(r.length-1)+1=i+r.length by omega,gF r (Nat.add_mod_right i r.length)] at this
theorem Hul.strict (h:Hul S r) (i k:Nat) (h1:nx r k≠nx r i) (h2:nx r k≠nx r (i+1)):0<ti (nx r i) (nx r (i+1)) (nx r k):=by
 rcases(h.nS i).2.2 _ (h.mem k) with g|g|g|⟨g1,g2⟩
 ·exact g
 ·exact absurd g h1
 ·exact absurd g h2
 ·exfalso;have hk:=h.nS k;have hx:=h.mem i;have hy:=h.mem (i+1);generalize nx r i=x at *;generalize nx r (i+1)=y at *;generalize nx r k=q at *;generalize nx r (k+1)=z at *;have hw:=Hv (x:=x) (y:=y) (q:=q) (z:=z);rw[g1,Int.zero_mul] at hw;have sx:=hk.ge hx;have sy:=hk.ge hy;have dd:di x q y=(q.1-x.1)*(y.1-q.1)+(q.2-x.2)*(y.2-q.2):=rfl;have wa:0<(q.1-x.1)*(y.1-x.1)+(q.2-x.2)*(y.2-x.2):=by
   have:(q.1-x.1)*(y.1-x.1)+(q.2-x.2)*(y.2-x.2)=di x q y+((q.1-x.1)*(q.1-x.1)+(q.2-x.2)*(q.2-x.2)):=by unfold di; grind
   have:=@ur (q.1-x.1);have:=@ur (q.2-x.2);omega
  have wb:0<(y.1-q.1)*(y.1-x.1)+(y.2-q.2)*(y.2-x.2):=by
   have:(y.1-q.1)*(y.1-x.1)+(y.2-q.2)*(y.2-x.2)=di x q y+((y.1-q.1)*(y.1-q.1)+(y.2-q.2)*(y.2-q.2)):=by unfold di; grind
   have:=@ur (y.1-q.1);have:=@ur (y.2-q.2);omega
  have n1:=Int.mul_nonneg (Int.le_of_lt wb) sx;have n2:=Int.mul_nonneg (Int.le_of_lt wa) sy;have zx:ti q z x=0:=by
   rcases Int.mul_eq_zero.1 (show((y.1-q.1)*(y.1-x.1)+(y.2-q.2)*(y.2-x.2))*ti q z x=0 by omega) with e|e
   ·omega
   ·exact e
  have zy:ti q z y=0:=by
   rcases Int.mul_eq_zero.1 (show((q.1-x.1)*(y.1-x.1)+(q.2-x.2)*(y.2-x.2))*ti q z y=0 by omega) with e|e
   ·omega
   ·exact e
  have hqz:=hk.1;have zz:0<(z.1-q.1)*(z.1-q.1)+(z.2-q.2)*(z.2-q.2):=by
   have s1:=@ur (z.1-q.1);have s2:=@ur (z.2-q.2);refine Decidable.byContradiction fun hc=>hqz ?_;have g1:=Hs (show(z.1-q.1)*(z.1-q.1)=0 by omega)
   have g2:=Hs (show(z.2-q.2)*(z.2-q.2)=0 by omega)
   exact Prod.ext (by omega) (by omega)
  have dir:∀p,S p→p≠q→ti q z p=0→0<(p.1-q.1)*(z.1-q.1)+(p.2-q.2)*(z.2-q.2):=fun p hp hne h0=>by
   rcases hk.2.2 p hp with e|e|e|⟨_,e⟩
   ·omega
   ·exact absurd e hne
   ·subst e; exact zz
   ·have:(p.1-q.1)*(z.1-q.1)+(p.2-q.2)*(z.2-q.2)=di q p z+((p.1-q.1)*(p.1-q.1)+(p.2-q.2)*(p.2-q.2)):=by unfold di; grind
    have:=@ur (p.1-q.1);have:=@ur (p.2-q.2);omega
  have d1:=dir x hx (Ne.symm h1) zx;have d2:=dir y hy (Ne.symm h2) zy;have:=Du (u:=(x.1-q.1,x.2-q.2)) (v:=(y.1-q.1,y.2-q.2)) (w:=(z.1-q.1,z.2-q.2)) (by unfold ti at zx; grind) (by unfold ti at zy; grind) d1 d2
  dsimp only at this
  have e:(x.1-q.1)*(y.1-q.1)+(x.2-q.2)*(y.2-q.2) = -di x q y:=by unfold di; grind
  omega
theorem xE {r:List I2} {i:Nat} (h:i<r.length):i%r.length=i:=Nat.mod_eq_of_lt h
theorem Hul.ne (h:Hul S r) {i j:Nat} (hi:i%r.length≠j%r.length):nx r i≠nx r j:=by
 have hn:0<r.length:=by have:=h.n3; omega
 rw[gF r (show i%r.length=(i%r.length)%r.length by rw[Nat.mod_mod]),gF r (show j%r.length=(j%r.length)%r.length by rw[Nat.mod_mod])]
 have a:=Nat.mod_lt i hn;have b:=Nat.mod_lt j hn;rcases Nat.lt_or_gt_of_ne hi with g|g
 ·exact h.nodup _ _ g b
 ·exact(h.nodup _ _ g a).symm
theorem mod_succ {i n:Nat} (hn:0<n):(i+1)%n=if i%n+1=n then 0 else i%n+1:=by
 have h:=Nat.mod_lt i hn;rw[Nat.add_mod]
 by_cases g:i%n+1=n
 ·rw[if_pos g];rcases Nat.lt_or_ge 1 n with k|k
  ·rw[Nat.mod_eq_of_lt k,g,Nat.mod_self]
  ·have:n=1:=by omega
   subst this; omega
 ·rw[if_neg g,Nat.mod_eq_of_lt (show 1<n by omega),Nat.mod_eq_of_lt (by omega)]
theorem Hul.gN (h:Hul S r) (i:Nat):0<ti (nx r i) (nx r (i+1)) (nx r (i+2)):=by
 have hn:=h.n3;have e1:=mod_succ (i:=i) (n:=r.length) (by omega)
 have e2:=mod_succ (i:=i+1) (n:=r.length) (by omega)
 have:=Nat.mod_lt i (show 0<r.length by omega)
 refine h.strict i (i+2) (h.ne ?_) (h.ne ?_)
 ·rw[show i+2=i+1+1 from rfl,e2,e1]
  split<;>split<;>omega
 ·rw[show i+2=i+1+1 from rfl,e2,e1]
  split<;>split<;>omega
theorem Hul.vr (h:Hul S r):VR r:=by
 have hn:=h.n3;refine⟨hn,fun i=>(h.nS i).1,fun i g=>?_,fun j i h1 h2 h3=>?_⟩
 ·have:=h.gN i; omega
 ·have m1:(i+1)%r.length=if i+1=r.length then 0 else i+1:=by
   rw[mod_succ (by omega),xE h2]
  have mj:j%r.length=j:=xE (by omega)
  have mj1:(j+1)%r.length=j+1:=xE (by omega)
  have mi:i%r.length=i:=xE h2;have c1:=h.strict j i (h.ne (by rw[mi,mj]; omega)) (h.ne (by rw[mi,mj1]; omega))
  have c2:=h.strict j (i+1) (h.ne (by rw[m1,mj]; split<;>omega)) (h.ne (by rw[m1,mj1]; split<;>omega))
  have a1:=h.strict i j (h.ne (by rw[mi,mj]; omega)) (h.ne (by rw[m1,mj]; split<;>omega))
  have a2:=h.strict i (j+1) (h.ne (by rw[mi,mj1]; omega)) (h.ne (by rw[m1,mj1]; split<;>omega))
  generalize nx r j=a at *;generalize nx r (j+1)=b at *;generalize nx r i=c at *;generalize nx r (i+1)=d at *;refine⟨fun x hx=>?_,fun hx=>by omega⟩
  have el:∀x,er (-(b.2-a.2)) (b.1-a.1) ((b.2-a.2)*a.1-(b.1-a.1)*a.2) x=ti a b x:=fun x=>by unfold er ti; grind
  have:=sL (α:=-(b.2-a.2)) (β:=b.1-a.1) (γ:=(b.2-a.2)*a.1-(b.1-a.1)*a.2) hx.2.2 (by rw[el]; exact c1) (by rw[el]; exact c2)
  rw[el,hx.2.1.1] at this;exact absurd this (by decide)
end
theorem AJ {S:I2→Prop}:∀{L:List I2},Way S L→∀i,i+1<L.length→Good S (L.getD i (0,0)) (L.getD (i+1) (0,0))
 | _,.one _,_,h=>absurd h (by simp)
 | _,.more g _,0,_=>g
 | _,.more (l:=l) (b:=b) _ w,i+1,h=>by
  simpa only[List.getD_cons_succ] using AJ (L:=b::l) w i (by simpa using h)
theorem Good.same {S T:I2→Prop} (h:∀q,S q↔T q) {x y:I2} (g:Good S x y):Good T x y:=⟨g.1,(h y).1 g.2.1,fun q hq=>g.2.2 q ((h q).2 hq)⟩
theorem Hul.same {S T:I2→Prop} (h:∀q,S q↔T q) {r:List I2} (g:Hul S r):Hul T r:=⟨g.n3,fun i=>(g.nS i).same h,g.nodup⟩
theorem il {r:List I2} (h:r≠[]) (i:Nat):nx r i ∈ r:=by
 have hl:=List.length_pos_iff.2 h;have hi:=Nat.mod_lt i hl;unfold nx;rw[List.getD_eq_getElem?_getD,List.getElem?_eq_getElem hi];exact List.getElem_mem hi
theorem FE {S:I2→Prop} {a b:I2} {m u:List I2} (hw:Way S (a::m++b::(u++[a]))) (hq:∀q ∈ m++b::u,Lt a q) (hn:m≠[]∨u≠[]):Hul S (a::m++b::u):=by
 have hlen:(a::m++b::u).length=m.length+u.length+2:=by simp; omega
 have hn3:2<(a::m++b::u).length:=by
  rw[hlen];rcases hn with g|g<;>have:=List.length_pos_iff.2 g<;>omega
 have eC:a::m++b::(u++[a])=(a::m++b::u)++[a]:=by simp
 rw[eC] at hw;have htail:∀i,0<i→i<(a::m++b::u).length→nx (a::m++b::u) i≠a:=fun i h0 hi e=>by
  obtain⟨i,rfl⟩:∃k,i=k+1:=⟨i-1,by omega⟩
  have hi':i<(m++b::u).length:=by simp at hi ⊢; omega
  have:nx (a::m++b::u) (i+1) ∈ m++b::u:=by
   unfold nx;rw[Nat.mod_eq_of_lt hi,List.cons_append,List.getD_cons_succ,List.getD_eq_getElem?_getD,List.getElem?_eq_getElem hi'];exact List.getElem_mem hi'
  have:=hq _ this;rw[e] at this;exact Lt.CP a this
 have h0:nx (a::m++b::u) 0=a:=by unfold nx; simp
 generalize a::m++b::u=r at *;have hr:0<r.length:=by omega
 have nS:∀i,Good S (nx r i) (nx r (i+1)):=fun i=>by
  have hi:=Nat.mod_lt i hr;have g:=AJ hw (i%r.length) (by simp; omega)
  have e1:(r++[a]).getD (i%r.length) (0,0)=nx r i:=by
   unfold nx;rw[List.getD_eq_getElem?_getD,List.getD_eq_getElem?_getD,List.getElem?_append_left hi]
  have e2:(r++[a]).getD (i%r.length+1) (0,0)=nx r (i+1):=by
   have em:=mod_succ (i:=i) hr
   by_cases k:i%r.length+1=r.length
   ·rw[if_pos k] at em;rw[gF r (show(i+1)%r.length=0%r.length by rw[em,Nat.zero_mod]),h0,k,List.getD_eq_getElem?_getD,List.getElem?_append_right (Nat.le_refl _)]
    simp
   ·rw[if_neg k] at em;unfold nx;rw[em,List.getD_eq_getElem?_getD,List.getD_eq_getElem?_getD,List.getElem?_append_left (by omega)]
  rw[e1,e2] at g;exact g
 refine⟨hn3,nS,fun i j hij hj e=>?_⟩;have all:∀t,nx r (i+t)=nx r (j+t):=fun t=>by
  induction t with
  | zero=>exact e
  | succ t ih=>have:=nS (i+t); rw[ih] at this; exact zn this (nS (j+t))
 have:=all (r.length-j);rw[show j+(r.length-j)=r.length by omega,wU,h0] at this
 exact htail _ (by omega) (by omega) this
theorem Dy {S:I2→Prop} {a b:I2} (hw:Way S [a,b,a]):∀q,S q→ti a b q=0:=fun q hq=>by
 cases hw with
 | more g1 w =>
  cases w with
  | more g2 _ =>
   have h1:=g1.ge hq;have h2:=g2.ge hq;rw[gw] at h2;omega
theorem BG {a b p q:I2} (hab:a≠b) (hp:ti a b p=0) (hq:ti a b q=0):ti a p q=0:=by
 by_cases hx:a.1=b.1
 ·have e1:=iH hx hab hp;have e2:=iH hx hab hq;unfold ti; rw[e1,e2]; grind
 ·have:(b.1-a.1)*ti a p q=0:=by
   unfold ti at *;have e1:(b.1-a.1)*(p.2-a.2)=(b.2-a.2)*(p.1-a.1):=by omega
   have e2:(b.1-a.1)*(q.2-a.2)=(b.2-a.2)*(q.1-a.1):=by omega
   have:(b.1-a.1)*((p.1-a.1)*(q.2-a.2)-(p.2-a.2)*(q.1-a.1))=(p.1-a.1)*((b.1-a.1)*(q.2-a.2))-((b.1-a.1)*(p.2-a.2))*(q.1-a.1):=by grind
   rw[this,e1,e2]; grind
  rcases Int.mul_eq_zero.1 this with g|g
  ·omega
  ·exact g
theorem Hul.wrap {S:I2→Prop} {r:List I2} (h:Hul S r) {l:List I2} (hl:∀q,q ∈ l↔S q) (k:Nat):l.foldl (fC (nx r k)) (nx r k)=nx r (k+1) :=
 qF (h.nS k) l (nx r k) (fun q hq=>(hl q).1 hq) (h.mem k) (.inl ((hl _).2 (h.mem (k+1))))
theorem Hul.back {S:I2→Prop} {r:List I2} (h:Hul S r) {k:Nat} (hk:k<r.length):nx r (k+1)=nx r 0↔k+1=r.length:=by
 constructor
 ·intro e;refine Decidable.byContradiction fun hc=>?_;exact h.nodup 0 (k+1) (by omega) (by omega) e.symm
 ·intro e; rw[e,wU]
end Jd
end

section
namespace Go.Proofs.YthmekkhpddehjaaGreat
open Go Go.Ab Go.Ab.W Go.Ab.B Jd
def wS (s:Int) (v:I2) (r:List I2):List I2:=r.map fun q=>lN v (nB s q)
theorem CA (s:Int) (v:I2) (r:List I2):wS s v r=(r.map (nB s)).map (lN v):=by
 unfold wS; rw[List.map_map]; rfl
theorem yx {h:Nat→Int} (hp:∀i,h i≤5):∀(k:Nat) (p:Int),∀x ∈ fm h k p,x.2≤5
 | 0,_,_,hx=>absurd hx (by simp[fm])
 | k+1,p,x,hx=>by
  simp only[fm,List.mem_append,List.mem_cons] at hx;rcases hx with hx|hx|hx
  ·split at hx
   ·simp at hx
   ·rw[List.mem_singleton] at hx; subst hx; exact hp k
  ·subst hx; exact hp k
  ·exact yx hp k (h k) x hx
theorem uu (h:Nat→Int):∀(k:Nat) (p:Int),(fm h k p).length≤2*k
 | 0,_=>by simp[fm]
 | k+1,p=>by
  have:=uu h k (h k);simp only[fm,List.length_append,List.length_cons]
  split
  ·simp only[List.length_nil]; omega
  ·simp only[List.length_cons,List.length_nil]; omega
section
variable {l : List Nat}
theorem vO:1≤lu l∧lu l≤6:=by unfold lu; omega
theorem AL (row:Bool):∀q ∈ fK l row,-10≤q.1∧q.1≤10∧-10≤q.2∧q.2≤10:=fun q hq=>by
 unfold fK at hq;cases row with
 | true =>
  rw[if_pos rfl] at hq;unfold wj at hq;have hc:=vO (l:=l);rcases List.mem_cons.1 hq with rfl|hq
  ·decide
  ·rcases List.mem_cons.1 hq with rfl|hq
   ·dsimp only; omega
   ·have h1:=k8 (fun i=>vW (l:=l) i) _ _ _ hq;have h2:=yx (fun i=>Hr (l:=l) i) _ _ _ hq;omega
 | false =>
  rw[if_neg (by decide)] at hq
  obtain⟨i,hi,rfl⟩:=List.mem_map.1 hq;have hi:=List.mem_range.1 (List.mem_filter.1 hi).1;have hw:=HX i hi;have hc:=wB (l:=l) i;have m1:=ef (B:=2) (C:=5) (u:=(wy i).1) (v:=cm l i) (by decide) (by omega) (by omega) (by omega) (by omega)
  have m2:=ef (B:=2) (C:=5) (u:=(wy i).2) (v:=cm l i) (by decide) (by omega) (by omega) (by omega) (by omega)
  unfold xq
  dsimp only
  omega
theorem uJ (row:Bool):(fK l row).length≤14:=by
 unfold fK;cases row with
 | true =>
  have hc:=vO (l:=l);have:=uu (hh l) (lu l) 0;rw[if_pos rfl]; unfold wj; simp only[List.length_cons]; omega
 | false =>
  rw[if_neg (by decide),List.length_map]
  have:=List.length_filter_le (kp l) (List.range 12);rw[List.length_range] at this;omega
theorem xV (row:Bool):VR (fK l row)∧0<tS (fK l row):=by
 unfold fK;cases row with
 | true =>
  have hc:=vO (l:=l);rw[if_pos rfl];exact⟨GO (fun i=>vW (l:=l) i) (by omega),DR (fun i=>vW (l:=l) i) (by omega)⟩
 | false =>
  rw[if_neg (by decide)]
  have:=DV (p:=kp l) (by unfold kp; simp) (by unfold kp; simp) (by unfold kp; simp) (by unfold kp; simp) (m:=fun i=>cm l i) fun i=>by have:=wB (l:=l) i; omega
  exact⟨this.vr,this.tS⟩
end
def qP (l:List Nat) (x5 x6:Int) (x7:Nat) (row turned:Bool):List I2:=if turned then rv (wS (1+x7) (x5,x6) (fK l row)) else wS (1+x7) (x5,x6) (fK l row)
structure Dr (l:List Nat) (x5 x6:Int) (x7:Nat):Prop where
 b:∀x ∈ l,x<256
 x : -32768≤x5∧x5≤32767
 y : -32768≤x6∧x6≤32767
 s:x7<256
theorem EN {x:Nat} (hx:x<256) {v:I2} (hv : -32768≤v.1∧v.1≤32767∧-32768≤v.2∧v.2≤32767) {q:I2} (hq : -10≤q.1∧q.1≤10∧-10≤q.2∧q.2≤10) :
  (-2560≤q.1*(1+(x:Int))∧q.1*(1+(x:Int))≤2560∧-2560≤q.2*(1+(x:Int))∧q.2*(1+(x:Int))≤2560)∧Nr (lN v (nB (1+(x:Int)) q))∧-40000≤(lN v (nB (1+(x:Int)) q)).1∧(lN v (nB (1+(x:Int)) q)).1≤40000∧-40000≤(lN v (nB (1+(x:Int)) q)).2∧(lN v (nB (1+(x:Int)) q)).2≤40000:=by
 have m1:=ef (B:=10) (C:=256) (u:=q.1) (v:=1+(x:Int)) (by decide) (by omega) (by omega) (by omega) (by omega)
 have m2:=ef (B:=10) (C:=256) (u:=q.2) (v:=1+(x:Int)) (by decide) (by omega) (by omega) (by omega) (by omega)
 unfold Nr lN nB
 dsimp only
 omega
theorem tD (n:Nat) {x5 x6:Int} {x7:Nat} (h7:x7<256) (h5 : -32768≤x5∧x5≤32767) (h6 : -32768≤x6∧x6≤32767) (l12:List I2) (hl:l12.length<1000) :
  ∀(rest done:List I2) (m:Nat),done.length+rest.length=l12.length→rest.length<m→(∀q ∈ rest,-10≤q.1∧q.1≤10∧-10≤q.2∧q.2≤10) →
   bT (q8 n l12 x5 x6) m (done++rest,1+(x7:Int),(done.length:Int))=some (done++wS (1+x7) (x5,x6) rest)
 | [],done,m+1,h,_,_=>by
  rw[bG (r:=done++[])]
  ·rfl
  ·unfold q8
   dsimp only
   rw[aK (by simp at h; omega)]
 | q::rest,done,m+1,h,hm,hq=>by
  have hq':=EN h7 (v:=(x5,x6)) ⟨h5.1,h5.2,h6.1,h6.2⟩ (hq q List.mem_cons_self);have hi:done.length<l12.length:=by simp at h; omega
  have ih:=tD n h7 h5 h6 l12 hl rest (done++[lN (x5,x6) (nB (1+x7) q)]) m (by simp at h ⊢; omega) (by simp at hm; omega) fun x hx=>hq x (List.mem_cons_of_mem _ hx)
  rw[aV (s':=((done++[lN (x5,x6) (nB (1+x7) q)])++rest,1+(x7:Int),((done++[lN (x5,x6) (nB (1+x7) q)]).length:Int))),ih]
  ·simp[wS]
  ·have hg:(done++q::rest)[done.length]? = some (q.1,q.2):=by rw[List.getElem?_append_right (Nat.le_refl _),Nat.sub_self]; rfl
   have hs:(done++q::rest).set done.length (lN (x5,x6) (nB (1+x7) q))=(done++[lN (x5,x6) (nB (1+x7) q)])++rest:=by
    rw[List.set_append_right _ _ (Nat.le_refl _),Nat.sub_self]; simp
   unfold q8
   dsimp only
   rw[aO (by omega),aJ hi,bl,Int.toNat_natCast,hg,an]
   dsimp only
   have e5:IntKind.wrap .i64 x5=x5:=ax (by omega) (by omega)
   have e6:IntKind.wrap .i64 x6=x6:=ax (by omega) (by omega)
   rw[an,bl,an,bl,e5,e6,ax (x:=q.1*(1+(x7:Int))) (by omega) (by omega),ax (x:=q.2*(1+(x7:Int))) (by omega) (by omega),ax (x:=q.1*(1+(x7:Int))+x5) (by omega) (by omega),ax (x:=q.2*(1+(x7:Int))+x6) (by omega) (by omega),aR (by omega)]
   rw[show(q.1*(1+(x7:Int))+x5,q.2*(1+(x7:Int))+x6)=lN (x5,x6) (nB (1+x7) q) from rfl,hs]
   simp
theorem uj (n:Nat) (a:I2) (t:List I2) (ht:t.length<1000):∀(j m:Nat) (out:List I2),j≤t.length→j<m→out.length+j<3000→∃N,bT (tM n (a::t)) m (out,out.length,(j:Int))=some (out++(t.take j).reverse,N)
 | 0,m+1,out,_,_,_=>by
  refine⟨out.length,bG ?_⟩;unfold tM
  try dsimp only
  rw[aK (by omega)]
  simp
 | j+1,m+1,out,hj,hm,ho=>by
  have hx:(a::t)[j+1]? = some (t[j]'(by omega)):=by rw[List.getElem?_cons_succ,List.getElem?_eq_getElem (by omega)]
  obtain⟨N,ih⟩:=uj n a t ht j m (out++[t[j]'(by omega)]) (by omega) (by omega) (by simp; omega)
  refine⟨N,?_⟩;rw[aV (s':=(out++[t[j]'(by omega)],(out++[t[j]'(by omega)]).length,(j:Int))),ih]
  ·have e:t.take (j+1)=t.take j++[t[j]'(by omega)]:=List.take_succ_eq_append_getElem (show j<t.length by omega)
   rw[e,List.reverse_append];simp
  ·unfold tM
   try dsimp only
   rw[aO (by omega),aJ (show j+1<(a::t).length by simp; omega),bl,Int.toNat_natCast,hx,an]
   try dsimp only
   rw[show lim (out++[((t[j]'(by omega)).1,(t[j]'(by omega)).2)]).length=true from Nat.ble_eq_true_of_le (by simp; omega),bl,ax (by omega) (by omega)]
   congr 4
   omega
theorem Gg (n:Nat) {l:List I2} (h:Ok l) (hn:41<n):GY n l=some (rv l,0):=by
 have hL:=h.len;have hc:=DX.2 h;unfold GY;rw[Gs n (by omega) hn,if_pos hc,an]
 match l,h with
 | [],h=>have:=h.vr.n3; simp at this
 | a::t,h =>
  obtain⟨N,hlp⟩:=uj n a t (by simp at hL; omega) t.length n [a] (Nat.le_refl _) (by simp at hL; omega) (by simp at hL ⊢; omega)
  rw[List.take_length] at hlp;have e:IntKind.wrap .i64 (((a::t).length:Int)-1)=(t.length:Int):=by
   simp only[List.length_cons]; simp at hL; rw[ax (by omega) (by omega)]; omega
  rw[show(!decide ((0:Int)=0))=false from rfl,gB,show bJ 0 (a::t).length=true from decide_eq_true ⟨Int.le_refl 0,by simp⟩,bl,e]
  show ob (some (a.1,a.2)) _=_
  rw[an]
  dsimp only
  exact(congrArg (fun o=>ob o fun x:List I2 × Nat=>match x with | (l41,_)=>some (l41,(0:Int))) hlp).trans rfl
theorem vZ {l:List Nat} {x5 x6:Int} {x7:Nat} (d:Dr l x5 x6 x7) (row:Bool):Ok (wS (1+x7) (x5,x6) (fK l row))∧0<tS (wS (1+x7) (x5,x6) (fK l row)):=by
 have hs:(0:Int)<1+(x7:Int):=by omega
 have hv:=(xV (l:=l) row).1;have ha:=(xV (l:=l) row).2;have hlen:=uJ (l:=l) row;have hne:fK l row≠[]:=fun e=>by rw[e] at hv; exact absurd hv.n3 (by simp)
 have h3:VR (wS (1+x7) (x5,x6) (fK l row)):=by
  rw[CA];exact(Eo (x5,x6)).vr ((Em hs).vr hv)
 refine⟨⟨by unfold wS; rw[List.length_map]; omega,fun i=>?_,h3⟩,?_⟩
 ·have hm:=il (r:=wS (1+x7) (x5,x6) (fK l row)) (fun e=>by unfold wS at e; rw[List.map_eq_nil_iff] at e; exact hne e) i
  unfold wS at hm;obtain⟨q,hq,e⟩:=List.mem_map.1 hm;unfold wS;rw[←e];exact(EN d.s (v:=(x5,x6)) ⟨d.x.1,d.x.2,d.y.1,d.y.2⟩ (AL row q hq)).2.1
 ·rw[CA,Dc (by simpa using hne)]
  have:tS ((fK l row).map (nB (1+x7)))=(1+(x7:Int))*(1+(x7:Int))*tS (fK l row):=by
   unfold tS;rw[List.length_map,←oV];refine im fun i _=>?_;rw[eE _ hne,eE _ hne];unfold nB
   dsimp only
   grind
  rw[this];exact Int.mul_pos (Int.mul_pos hs hs) ha
theorem Ok.rv {l:List I2} (h:Ok l):Ok (Jd.rv l):=by
 have hn:=h.vr.n3;have hne:Jd.rv l≠[]:=fun e=>by have:=congrArg List.length e; rw[pV] at this; simp at this; rw[this] at hn; simp at hn
 refine⟨by rw[pV]; exact h.len,fun i=>?_,h.vr.rv⟩
 have hm:=il hne i;have:nx (Jd.rv l) i ∈ l:=by
  match l,hm with
  | a::t,hm=>unfold Jd.rv at hm ⊢; simpa using hm
 obtain⟨j,hj,e⟩:=List.mem_iff_getElem.1 this;have e2:nx l j=nx (Jd.rv l) i:=by
  unfold nx at e ⊢;rw[Nat.mod_eq_of_lt hj,List.getD_eq_getElem?_getD,List.getElem?_eq_getElem hj]; exact e
 rw[←e2];exact h.nr j
theorem Bz {l:List Nat} {x5 x6:Int} {x7:Nat} (d:Dr l x5 x6 x7) (row turned:Bool):Ok (qP l x5 x6 x7 row turned):=by
 unfold qP
 split
 ·exact(vZ d row).1.rv
 ·exact(vZ d row).1
theorem Gd (n:Nat) {l:List Nat} {x5 x6:Int} {x7:Nat} (d:Dr l x5 x6 x7) (row turned:Bool) (hn:41<n):GW n l x5 x6 x7 row turned=some (qP l x5 x6 x7 row turned):=by
 have hlen:=uJ (l:=l) row;have hs:=d.s;unfold GW qP;rw[Fb n d.b x5 x6 x7 row turned (by omega),an]
 have e1:IntKind.wrap .i64 (1+IntKind.wrap .i64 ((x7:Nat):Int))=1+(x7:Int):=by
  rw[ax (x:=((x7:Nat):Int)) (by omega) (by omega),ax (by omega) (by omega)]
 have L:=tD n d.s d.x d.y (fK l row) (by omega) (fK l row) [] n (by simp) (by omega) (AL row)
 rw[List.nil_append,List.nil_append] at L;rw[e1];have L':bT (q8 n (fK l row) x5 x6) n (fK l row,1+(x7:Int),0)=some (wS (1+x7) (x5,x6) (fK l row)):=L;rw[L',an];cases turned with
 | true =>
  rw[jO,Gg n (vZ d row).1 hn,an,an,if_pos rfl]
 | false =>
  rw[gB,an,if_neg (by decide)]
def hU (l:List I2):Prop:=∀q ∈ l,fh q.1∧fh q.2
theorem uO (x:Int):fh (IntKind.wrap .i64 x):=by
 unfold fh IntKind.wrap IntKind.bits IntKind.signed;simp only;rw[show((2:Int) ^ 64)=18446744073709551616 by rfl,show((2:Int) ^ (64-1))=9223372036854775808 by rfl]
 split
 ·rename_i h; simp at h; omega
 ·rename_i h; simp at h; omega
theorem Gy {l:List I2} (h:hU l) {i:Nat} (hi:i<l.length):∃q:I2,l[i]? = some (q.1,q.2)∧fh q.1∧fh q.2 :=
 ⟨l[i],List.getElem?_eq_getElem hi,h _ (List.getElem_mem hi)⟩
theorem pX {l:List I2} (h:hU l) (i:Nat) {q:I2} (hq:fh q.1∧fh q.2):hU (l.set i q):=fun x hx=>by
 rcases List.mem_or_eq_of_mem_set hx with hx|rfl
 ·exact h x hx
 ·exact hq
theorem Jc {p:I2} (h:Nr p):fh p.1∧fh p.2:=by unfold Nr at h; unfold fh; omega
theorem Ok.pt {l:List I2} (h:Ok l):hU l:=fun q hq=>by
 obtain⟨j,hj,e⟩:=List.mem_iff_getElem.1 hq;have e2:nx l j=q:=by
  unfold nx;rw[Nat.mod_eq_of_lt hj,List.getD_eq_getElem?_getD,List.getElem?_eq_getElem hj]; exact e
 rw[←e2];exact Jc (h.nr j)
structure Bd (x2 x3:Nat) (x4 x5:Int):Prop where
 at_:x2<256
 to:x3<256
 x:fh x4
 y:fh x5
end Go.Proofs.YthmekkhpddehjaaGreat
end
