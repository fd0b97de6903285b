/- A part of the proof. -/
import Derived.Test.YtookeaakpiefjaaDoorTn6
section
namespace Go.Proofs.YtookeaakpiefjaaDoor
open Go Go.Ab Go.Ab.W
set_option maxRecDepth 10000
set_option maxHeartbeats 4000000
attribute [local irreducible] Tm.at Trie.set Trie.get AMem.get AMem.set AMem.alloc AMem.ww AMem.kill
theorem m5 (n:Nat) (x1:Int) (l1:List (Int × Int)) (x3:Nat) (x4:Nat) (x5:Nat) (x6:Nat) (x7:Nat) (x8:Nat) (x9:Nat) (x10:Nat) (x11:Nat) (a0:Option Addr) (c0:Nat) (r:List Int × Int) (hF:xK n x1 l1 x3 x4 x5 x6 x7 x8 x9 x10 x11=some r) (m:AMem) (hG:Gl m) (h9:Rd m a0 c0 2 l1.length (l1.map (eP (eI .i64) (eI .i64)))) :
  aF aD 10 [.agg #[.int .i64 x1,.slice a0 l1.length c0],.int .u64 ((x3:Nat):Int),.agg #[.int .u64 ((x4:Nat):Int),.int .u64 ((x5:Nat):Int),.int .u64 ((x6:Nat):Int),.int .u64 ((x7:Nat):Int),.int .u64 ((x8:Nat):Int),.int .u64 ((x9:Nat):Int),.int .u64 ((x10:Nat):Int),.int .u64 ((x11:Nat):Int)]] m (fun v m'=>∃x:Option Addr × Nat,v = .tuple #[.slice x.1 x.2 x.2,.int .i64 r.2]∧Hp m m' [.sl x.1 1 x.2 (r.1.map (eI .i64))]):=by
 unfold xK at hF;refine ax (m0:=m) (ps:=[.rd a0 c0 2 l1.length (l1.map (eP (eI .i64) (eI .i64)))]) (N:=64) (rs:=[.tmp 6,.tmp 7]) rfl Tryd.func10 rfl rfl rfl ((Hp.start m).dz rfl h9)<|Wk.seq<|Wk.region<|Wo.x (bY rfl) gn rfl fun b2=>?_;refine Wo.x (bY rfl) gn rfl fun b3=>?_;refine Wo.x (bY rfl) gn rfl fun b13=>?_;refine Wo.od (ak rfl) rfl<|Wo.od (ak rfl) rfl<|Wo.nil<|At.tn<|Wk.seq<|Wk.seq<|Wk.region<|Wo.od (au (k:=2) e7 rfl rfl rfl) rfl<|Wo.od (au (k:=1) cu rfl rfl rfl) rfl ?_;obtain⟨r9,h10,hF⟩:=J hF;refine Wo.x (cc rfl rfl (fun m hm=>xy n x1 l1 x3 a0 c0 _ h10 m (hm.rd (k:=3) rfl (.rd _ _ _ _ _))) fun _=>rfl) gn rfl ?_;rintro⟨⟩;refine Wo.od (ak rfl) rfl<|Wo.nil<|At.tn<|Wk.seq<|Wk.region<|Wo.od (aa rfl) rfl<|Wo.od (al rfl rfl (dt _ _)) rfl<|Wo.nil<|At.tn ?_;rcases ai hF with⟨h3,hF⟩|⟨h3,hF⟩
 ·refine Wk.aA rfl h3<|Wk.seq<|Wk.region<|Wo.od (aa rfl) rfl<|Wo.od (ak rfl) rfl<|Wo.od (ak rfl) rfl<|Wo.nil<|At.tn<|Wk.ret<|At.tr ?_;cases hF;exact At.ret (.tmp rfl (.tmp rfl .nil)) fun m' hm=>⟨(none,0),rfl,(ah.trans (ah.nil 1 rfl) (ah.ae [0] rfl rfl)) m' hm⟩
 ·refine Wk.az rfl h3<|Wk.skip<|At.tn<|Wk.seq<|Wk.region<|Wo.od (au (k:=0) e9 rfl rfl rfl) rfl ?_;obtain⟨⟨r1,l2⟩,h11,hF⟩:=J hF;refine Wo.x (eF (N:=(fun x:Option Addr × Nat × Nat=>[.rd x.1 x.2.1 1 x.2.2 (l2.map (eN .u64))])) rfl rfl (fun m hm=>DS n x4 x5 x6 x7 x8 x9 x10 x11  _ h11 m hm.aO) fun _=>rfl) gn rfl ?_;rintro⟨a2,c2,n0⟩;refine Wo.cP (k:=0) (xs:=l2) rfl ?_;rintro rfl;refine Wo.x (bT z84 rfl) gn rfl fun b4=>?_;refine Wo.o0 (bC (k:=0) aY rfl rfl rfl rfl rfl)<|Wo.nil<|At.tn<|Wk.seq<|Wk.seq ?_;obtain⟨v2,h12,hF⟩:=J hF;refine Wk.cut (G:=(fun(r:Bool) (g:Unit)=>match r,g with|v2,_=>⟨.normal,[(3,ptr b2 0),(4,ptr b3 0),(9,ptr b4 0),(33,.bool v2)],[.obj b2 (.cells [.int .i64 x1,.slice a0 l1.length c0] .own),.rd a0 c0 2 l1.length (l1.map (eP (eI .i64) (eI .i64))),.obj b3 (.cells [.int .u64 ((x3:Nat):Int)] .own),.obj b4 (.cells [.bool r1,.slice a2 l2.length c2] .own),.rd a2 c2 1 l2.length (l2.map (eN .u64))]⟩) v2) ?_ ?_
  ·clear hF;revert v2;intro r hF;refine Wk.du (prs:=[(4,7)]) (by kernel_rfl)<|Wn.od (au (k:=0) aY rfl rfl rfl) rfl ?_
   obtain⟨r10,h13,hF⟩:=J hF;refine Wn.c (fb rfl rfl (fun m hm=>yz n r1 l2 a2 c2 _ h13 m (hm.rd (k:=1) rfl (.rd _ _ _ _ _))) fun _=>rfl) gn rfl ?_;rintro⟨⟩;refine Wn.od (al rfl rfl (aK _ _ _)) rfl<|Wn.od (aa rfl) rfl ?_;rcases ai hF with⟨h0,hF⟩|⟨h0,hF⟩
   ·refine Wn.s (gg rfl rfl (cO h0)) rfl<|Wn.s (gg rfl rfl (cO h0)) rfl<|Wn.s (gg rfl rfl (cO h0)) rfl<|Wn.s (gg rfl rfl (cO h0)) rfl<|Wn.s (gg rfl rfl (cO h0)) rfl<|Wn.s (gg rfl rfl (cO h0)) rfl<|Wn.od (cj rfl h0 rfl) rfl<|Wn.nil (fun m hm=>bM.all rfl) ?_;cases hF;exact At.en () rfl (sc rfl (sc rfl (sc rfl (sc rfl sn)))) (ah.ae [4,5,3,0,1] rfl rfl)
   ·refine Wn.og (au (k:=0) aY rfl rfl rfl) (gg rfl rfl (cC h0)) rfl<|Wn.og (au (k:=4) e7 rfl rfl rfl) (gg rfl rfl (cC h0)) rfl<|Wn.og (au (k:=3) cu rfl rfl rfl) (gg rfl rfl (cC h0)) rfl ?_;obtain⟨⟨r8,l21⟩,h14,hF⟩:=J hF;refine Wn.c (ef (N:=(fun x:Option Addr × Nat × Nat=>[.rd x.1 x.2.1 1 x.2.2 (l21.map (eN .u64))])) rfl rfl (fun m hm=>tT n x1 l1 x3 [] [] a0 c0 none none _ h14 m hm.aO (hG.ext hm.ext) (hm.rd (k:=5) rfl (.rd _ _ _ _ _)) (hm.bL (k:=5) rfl) A7.nil A7.nil) fun _=>rfl) (gg rfl rfl (cC h0)) rfl ?_;rintro⟨a13,c8,n1⟩;refine Wn.cP (k:=0) (xs:=l21) rfl ?_;rintro rfl;obtain⟨r11,h15,hF⟩:=J hF;refine Wn.c (fb rfl rfl (fun m hm=>CR n r1 l2 r8 l21 a2 c2 a13 c8 _ h15 m (hm.rd (k:=2) rfl (.rd _ _ _ _ _)) (hm.rd (k:=0) rfl (.rd _ _ _ _ _))) fun _=>rfl) (gg rfl rfl (cC h0)) rfl ?_;rintro⟨⟩;refine Wn.og (al rfl rfl (dN _ _ _)) (gg rfl rfl (cC h0)) rfl<|Wn.od (bX rfl h0 rfl) rfl<|Wn.nil (fun m hm=>bM.all rfl) ?_;cases hF;exact At.en () rfl (sc rfl (sc rfl (sc rfl (sc rfl sn)))) (ah.ae [5,6,4,1,2] rfl rfl)
  ·clear h12;rintro⟨⟩;refine At.tn ?_;rcases ai hF with⟨h4,hF⟩|⟨h4,hF⟩
   ·refine Wk.aA rfl h4<|Wk.seq<|Wk.region<|Wo.od (ak rfl) rfl<|Wo.od (ak rfl) rfl<|Wo.nil<|At.tn<|Wk.ret<|At.tr ?_;cases hF;exact At.ret (.tmp rfl (.tmp rfl .nil)) fun m' hm=>⟨(none,0),rfl,(ah.trans (ah.nil 1 rfl) (ah.ae [0] rfl rfl)) m' hm⟩
   ·refine Wk.az rfl h4<|Wk.skip<|At.tn<|Wk.seq<|Wk.region<|Wo.x Co gn rfl fun b0=>?_;refine Wo.x Co gn rfl fun b1=>?_;refine Wo.x (bT KZ rfl) gn rfl fun b7=>?_;refine Wo.x (bT KZ rfl) gn rfl fun b8=>?_;refine Wo.o0 (bC (k:=1) j5 rfl rfl rfl rfl rfl)<|Wo.o0 (bC (k:=0) j5 rfl rfl rfl rfl rfl)<|Wo.nil<|At.tn<|Wk.seq<|Wk.region<|Wo.x (bT LA rfl) gn rfl fun b9=>?_;refine Wo.nil<|At.tn<|Wk.seq<|Wk.seq<|Wk.region<|Wo.od (au (k:=5) e7 rfl rfl rfl) rfl<|Wo.od (au (k:=7) cu rfl rfl rfl) rfl ?_;obtain⟨r2,h16,hF⟩:=J hF;refine Wo.x (e6 (α:=Nat × Nat) (V:=fun g=>(fun(r:List (Int × Bool) × List (Int × Bool)) (g:Nat × Nat)=>match r,g with | (l13,l14),(b10,b5)=>(.func (.func 80) #[] #[ptr b10 0,ptr b5 0]:Value)) r2 g) (N:=fun g=>(fun(r:List (Int × Bool) × List (Int × Bool)) (g:Nat × Nat)=>match r,g with | (l13,l14),(b10,b5)=>([.obj b10 (.cells [.int .i64 x1,.slice a0 l1.length c0] .own),.rd a0 c0 2 l1.length (l1.map (eP (eI .i64) (eI .i64))),.obj b5 (.cells [.int .u64 ((x3:Nat):Int)] .own),.obj b2 (.cells [.int .i64 x1,.slice a0 l1.length c0] .own),.obj b3 (.cells [.int .u64 ((x3:Nat):Int)] .own),.obj b4 (.cells [.bool r1,.slice a2 l2.length c2] .own),.rd a2 c2 1 l2.length (l2.map (eN .u64)),.obj b7 (.cells [.map (some b0)] .own),.obj b0 (.map (l13.map (eM (fun n:Int=>.int .i64 n) (fun b:Bool=>.bool b)))),.obj b8 (.cells [.map (some b1)] .own),.obj b1 (.map (l14.map (eM (fun n:Int=>.int .i64 n) (fun b:Bool=>.bool b)))),.obj b9 (.cells [.slice none 0 0] .own)]:List Pc)) r2 g) rfl rfl (fun m hm=>?_)) gn rfl ?_
    ·clear hF;revert r2;intro r hF;refine ax (N:=6) (rs:=[.tmp 4]) rfl Tryd.func44 rfl rfl rfl hm<|Wk.seq<|Wk.region<|Wo.x (bY rfl) gn rfl fun b11=>?_;refine Wo.x (bY rfl) gn rfl fun b12=>?_;refine Wo.od (ak rfl) rfl<|Wo.nil<|At.tn<|Wk.seq<|Wk.region<|Wo.od (oC rfl rfl) rfl<|Wo.od (ak rfl) rfl<|Wo.nil<|At.tn<|Wk.ret ?_;cases hF;exact At.ret (.tmp rfl .nil) fun m' hm=>⟨(b11,b12),rfl,(ah.ae [1,8,0,7,9,10,11,4,6,3,5,2] rfl rfl) m' hm⟩
    ·clear h16;obtain⟨l13,l14⟩:=r2;rintro⟨b10,b5⟩;refine Wo.nil<|At.tn<|Wk.block ?_;obtain⟨r3,h17,hF⟩:=J hF;refine Wk.range (N:=25) (rs:=[]) (γ:=Option Addr × Nat × Option Addr) (X:=fun g=>(fun(r:Bool × List (Nat) × List (Int × Bool) × List (Int × Bool) × List (Int)) (g:Option Addr × Nat × Option Addr)=>(match r,g with | (v4,l15,l22,l23,l9),(a11,c6,a6)=>⟨.ready,none,[.obj b2 (.cells [.int .i64 x1,.slice a0 l1.length c0] .own),.rd a0 c0 2 l1.length (l1.map (eP (eI .i64) (eI .i64))),.obj b3 (.cells [.int .u64 ((x3:Nat):Int)] .own),.obj b4 (.cells [.bool v4,.slice a11 l15.length c6] .own),.rd a11 c6 1 l15.length (l15.map (eN .u64)),.obj b7 (.cells [.map (some b0)] .own),.obj b0 (.map (l22.map (eM (fun n:Int=>.int .i64 n) (fun b:Bool=>.bool b)))),.obj b8 (.cells [.map (some b1)] .own),.obj b1 (.map (l23.map (eM (fun n:Int=>.int .i64 n) (fun b:Bool=>.bool b)))),.obj b9 (.cells [.slice a6 l9.length l9.length] .own),.sl a6 1 l9.length (l9.map (eI .i64))]⟩:Rn)) r3 g) rfl rfl Tryd.func80 rfl rfl rfl ?_ (fun y=>by intro e; cases e) ?_
     ·clear hF;revert r3;intro r hF;intro t0 l3 r0 h18 h19;refine Wk.seq<|Wk.region<|Wo.od (bH (r:=ptr b10 1) rfl (gz _ _)) rfl<|Wo.od (au (k:=1) qq rfl rfl rfl) rfl<|Wo.od (cw (k:=2) GZ rfl rfl (.inl rfl)) rfl<|Wo.od (aa rfl) rfl<|Wo.nil<|At.tn<|Wk.block ?_;obtain⟨r6,h5,hF⟩:=J hF;refine Wk.cut (G:=(fun(r:Bool × List (Nat) × List (Int × Bool) × List (Int × Bool) × List (Int)) (g:Option Addr × Nat × Option Addr)=>match r,g with | (v3,l7,l16,l17,l4),(a4,c3,a5)=>⟨(.exit 0),[],[.obj l3 (r0 .ready none),.obj b2 (.cells [.int .i64 x1,.slice a0 l1.length c0] .own),.rd a0 c0 2 l1.length (l1.map (eP (eI .i64) (eI .i64))),.obj b3 (.cells [.int .u64 ((x3:Nat):Int)] .own),.obj b4 (.cells [.bool v3,.slice a4 l7.length c3] .own),.rd a4 c3 1 l7.length (l7.map (eN .u64)),.obj b7 (.cells [.map (some b0)] .own),.obj b0 (.map (l16.map (eM (fun n:Int=>.int .i64 n) (fun b:Bool=>.bool b)))),.obj b8 (.cells [.map (some b1)] .own),.obj b1 (.map (l17.map (eM (fun n:Int=>.int .i64 n) (fun b:Bool=>.bool b)))),.obj b9 (.cells [.slice a5 l4.length l4.length] .own),.sl a5 1 l4.length (l4.map (eI .i64))]⟩) r6) ?_ ?_
      ·refine Wk.dG (fs':=[(0,.func (.yield l3) #[] #[]),(2,ptr b5 0),(7,.slice a0 l1.length c0),(8,.int .i64 (l1.length:Int)),(9,.int .i64 0)]) (ps':=[.obj l3 (r0 .ready none),.obj b5 (.cells [.int .u64 ((x3:Nat):Int)] .own),.rd a0 c0 2 l1.length (l1.map (eP (eI .i64) (eI .i64))),.obj b2 (.cells [.int .i64 x1,.slice a0 l1.length c0] .own),.obj b3 (.cells [.int .u64 ((x3:Nat):Int)] .own),.obj b4 (.cells [.bool r1,.slice a2 l2.length c2] .own),.rd a2 c2 1 l2.length (l2.map (eN .u64)),.obj b7 (.cells [.map (some b0)] .own),.obj b0 (.map (l13.map (eM (fun n:Int=>.int .i64 n) (fun b:Bool=>.bool b)))),.obj b8 (.cells [.map (some b1)] .own),.obj b1 (.map (l14.map (eM (fun n:Int=>.int .i64 n) (fun b:Bool=>.bool b)))),.obj b9 (.cells [.slice none ([]:List (Int)).length ([]:List (Int)).length] .own),.sl none 1 ([]:List (Int)).length (([]:List (Int)).map (eI .i64))]) (sc rfl (sc rfl (sc rfl (sc rfl (sc rfl sn))))) (ah.trans (ah.nil 1 rfl) (ah.ae [1,4,3,5,6,7,8,9,10,11,12,13,0] rfl rfl)) ?_;refine Wk.loop (σ:=Int × Bool × List (Nat) × List (Int × Bool) × List (Int × Bool) × List (Int)) (ρ:=Bool × List (Nat) × List (Int × Bool) × List (Int × Bool) × List (Int)) (γ:=Option Addr × Nat × Option Addr) (δ:=fun _=>Option Addr × Nat × Option Addr) _ (fun(s:Int × Bool × List (Nat) × List (Int × Bool) × List (Int × Bool) × List (Int)) (g:Option Addr × Nat × Option Addr)=>match s,g with | (v0,v1,l6,l8,l10,l5),(a1,c1,a3)=>⟨.normal,[(0,.func (.yield l3) #[] #[]),(2,ptr b5 0),(7,.slice a0 l1.length c0),(8,.int .i64 (l1.length:Int)),(9,.int .i64 v0)],[.obj l3 (r0 .ready none),.obj b5 (.cells [.int .u64 ((x3:Nat):Int)] .own),.rd a0 c0 2 l1.length (l1.map (eP (eI .i64) (eI .i64))),.obj b2 (.cells [.int .i64 x1,.slice a0 l1.length c0] .own),.obj b3 (.cells [.int .u64 ((x3:Nat):Int)] .own),.obj b4 (.cells [.bool v1,.slice a1 l6.length c1] .own),.rd a1 c1 1 l6.length (l6.map (eN .u64)),.obj b7 (.cells [.map (some b0)] .own),.obj b0 (.map (l8.map (eM (fun n:Int=>.int .i64 n) (fun b:Bool=>.bool b)))),.obj b8 (.cells [.map (some b1)] .own),.obj b1 (.map (l10.map (eM (fun n:Int=>.int .i64 n) (fun b:Bool=>.bool b)))),.obj b9 (.cells [.slice a3 l5.length l5.length] .own),.sl a3 1 l5.length (l5.map (eI .i64))]⟩) (fun(r:Bool × List (Nat) × List (Int × Bool) × List (Int × Bool) × List (Int)) (g:Option Addr × Nat × Option Addr)=>match r,g with | (v3,l7,l16,l17,l4),(a4,c3,a5)=>⟨(.exit 0),[],[.obj l3 (r0 .ready none),.obj b2 (.cells [.int .i64 x1,.slice a0 l1.length c0] .own),.rd a0 c0 2 l1.length (l1.map (eP (eI .i64) (eI .i64))),.obj b3 (.cells [.int .u64 ((x3:Nat):Int)] .own),.obj b4 (.cells [.bool v3,.slice a4 l7.length c3] .own),.rd a4 c3 1 l7.length (l7.map (eN .u64)),.obj b7 (.cells [.map (some b0)] .own),.obj b0 (.map (l16.map (eM (fun n:Int=>.int .i64 n) (fun b:Bool=>.bool b)))),.obj b8 (.cells [.map (some b1)] .own),.obj b1 (.map (l17.map (eM (fun n:Int=>.int .i64 n) (fun b:Bool=>.bool b)))),.obj b9 (.cells [.slice a5 l4.length l4.length] .own),.sl a5 1 l4.length (l4.map (eI .i64))]⟩) ?_ (fun _ _=>rfl) (fun r d=>by intro e; cases e) _ _ _ h5 (a2,c2,none)
       clear hF h5;rintro⟨v0,v1,l6,l8,l10,l5⟩ ⟨a1,c1,a3⟩ r hF;unfold nQ at hF;refine Wk.seq<|Wk.region<|Wo.od (al rfl rfl (aK _ _ _)) rfl<|Wo.nil<|At.tn<|Wk.seq ?_;rcases ai hF with⟨h6,hF⟩|⟨h6,hF⟩
       ·refine Wk.aA rfl h6<|Wk.skip<|At.tn<|Wk.seq<|Wk.block<|Wk.seq<|Wk.region<|Wo.od (aa rfl) rfl ?_;obtain⟨h2,hF⟩:=aj hF;replace h2:=an h2;refine Wo.dJ (k:=2) rfl (bG h2) ?_;rintro b6 o1 rfl;refine Wo.og (cG Ez rfl rfl h2) gn rfl ?_;obtain⟨⟨x12,x13⟩,h20,hF⟩:=J hF;refine Wo.od (cS (k:=0) fA rfl rfl (aS h20) rfl rfl) rfl<|Wo.x (bT B0 rfl) gn rfl fun b14=>?_;refine Wo.od (ak rfl) rfl<|Wo.o0 (bC (k:=0) fA rfl rfl rfl rfl rfl)<|Wo.nil<|At.tn<|Wk.seq ?_;obtain⟨r4,h21,hF⟩:=J hF;refine Wk.cut (G:=(fun(r:Bool × List (Nat) × List (Int × Bool) × List (Int × Bool) × List (Int)) (g:Option Addr × Nat × Option Addr)=>match r,g with | (v5,l18,l24,l25,l11),(a7,c4,a8)=>⟨.normal,[(0,.func (.yield l3) #[] #[]),(2,ptr b5 0),(7,.slice (some ⟨b6,o1,none⟩) l1.length c0),(8,.int .i64 (l1.length:Int)),(9,.int .i64 v0),(23,.bool false)],[.obj l3 (r0 .ready none),.obj b5 (.cells [.int .u64 ((x3:Nat):Int)] .own),.ro b6 o1 2 l1.length (l1.map (eP (eI .i64) (eI .i64))),.rd (some ⟨b6,o1,none⟩) c0 2 l1.length (l1.map (eP (eI .i64) (eI .i64))),.obj b2 (.cells [.int .i64 x1,.slice (some ⟨b6,o1,none⟩) l1.length c0] .own),.obj b3 (.cells [.int .u64 ((x3:Nat):Int)] .own),.obj b4 (.cells [.bool v5,.slice a7 l18.length c4] .own),.rd a7 c4 1 l18.length (l18.map (eN .u64)),.obj b7 (.cells [.map (some b0)] .own),.obj b0 (.map (l24.map (eM (fun n:Int=>.int .i64 n) (fun b:Bool=>.bool b)))),.obj b8 (.cells [.map (some b1)] .own),.obj b1 (.map (l25.map (eM (fun n:Int=>.int .i64 n) (fun b:Bool=>.bool b)))),.obj b9 (.cells [.slice a8 l11.length l11.length] .own),.sl a8 1 l11.length (l11.map (eI .i64))]⟩) r4) ?_ ?_
        ·clear hF;revert r4;intro r hF;refine Wk.region<|Wo.od (au (k:=3) cu rfl rfl rfl) rfl<|Wo.od (au (k:=0) fA rfl rfl rfl) rfl ?_;obtain⟨r12,h22,hF⟩:=J hF;refine Wo.x (cc rfl rfl (fun m hm=>qh n x3 x12 x13  _ h22 m) fun _=>rfl) gn rfl ?_;rintro⟨⟩;refine Wo.od (aa rfl) rfl ?_;rcases ai hF with⟨h1,hF⟩|⟨h1,hF⟩
         ·refine Wo.og (aa rfl) (gg rfl rfl (bK h1)) rfl<|Wo.og (aa rfl) (gg rfl rfl (bK h1)) rfl<|Wo.og (au (k:=0) fA rfl rfl rfl) (gg rfl rfl (bK h1)) rfl ?_;obtain⟨r5,h8,hF⟩:=J hF;refine Wo.x (Gw (k:=2) (k1:=0) (γA:=Unit) (GA:=(fun g:Unit=>(match g with|_=>⟨.normal,[(3,ptr b2 0),(4,ptr b3 0),(9,ptr b4 0),(10,ptr b7 0),(11,ptr b8 0),(12,ptr b9 0),(13,.int .i64 v0)],[.obj l3 (r0 .ready none),.obj b2 (.cells [.int .i64 x1,.slice (some ⟨b6,o1,none⟩) l1.length c0] .own),.ro b6 o1 2 l1.length (l1.map (eP (eI .i64) (eI .i64))),.rd (some ⟨b6,o1,none⟩) c0 2 l1.length (l1.map (eP (eI .i64) (eI .i64))),.obj b3 (.cells [.int .u64 ((x3:Nat):Int)] .own),.obj b4 (.cells [.bool v1,.slice a1 l6.length c1] .own),.rd a1 c1 1 l6.length (l6.map (eN .u64)),.obj b7 (.cells [.map (some b0)] .own),.obj b0 (.map (l8.map (eM (fun n:Int=>.int .i64 n) (fun b:Bool=>.bool b)))),.obj b8 (.cells [.map (some b1)] .own),.obj b1 (.map (l10.map (eM (fun n:Int=>.int .i64 n) (fun b:Bool=>.bool b)))),.obj b9 (.cells [.slice a3 l5.length l5.length] .own),.sl a3 1 l5.length (l5.map (eI .i64)),.obj b5 (.cells [.int .u64 ((x3:Nat):Int)] .own)]⟩:En))) (γ:=Option Addr × Nat × Option Addr) (G:=fun g=>(fun(r:Bool × List (Nat) × List (Int × Bool) × List (Int × Bool) × List (Int)) (g:Option Addr × Nat × Option Addr)=>(match r,g with | (v6,l19,l26,l27,l12),(a9,c5,a10)=>⟨.normal,[],[.obj l3 (r0 .busy none),.obj b2 (.cells [.int .i64 x1,.slice (some ⟨b6,o1,none⟩) l1.length c0] .own),.ro b6 o1 2 l1.length (l1.map (eP (eI .i64) (eI .i64))),.rd (some ⟨b6,o1,none⟩) c0 2 l1.length (l1.map (eP (eI .i64) (eI .i64))),.obj b3 (.cells [.int .u64 ((x3:Nat):Int)] .own),.obj b4 (.cells [.bool v6,.slice a9 l19.length c5] .own),.rd a9 c5 1 l19.length (l19.map (eN .u64)),.obj b7 (.cells [.map (some b0)] .own),.obj b0 (.map (l26.map (eM (fun n:Int=>.int .i64 n) (fun b:Bool=>.bool b)))),.obj b8 (.cells [.map (some b1)] .own),.obj b1 (.map (l27.map (eM (fun n:Int=>.int .i64 n) (fun b:Bool=>.bool b)))),.obj b9 (.cells [.slice a10 l12.length l12.length] .own),.sl a10 1 l12.length (l12.map (eI .i64)),.obj b5 (.cells [.int .u64 ((x3:Nat):Int)] .own)]⟩:En)) r5 g) rfl rfl rfl h19 h18 rfl ?_ (fun _=>rfl) (fun _=>rfl) ?_ (fun y=>rfl)) (gg rfl rfl (bK h1)) rfl ?_
          ·clear hF h8;refine Wk.region<|Wo.od (ak rfl) rfl<|Wo.nil ?_;exact At.en () rfl (sc rfl (sc rfl (sc rfl (sc rfl (sc rfl (sc rfl (sc rfl sn))))))) (ah.ae [2,5,1,4,6,7,8,9,10,11,12,13,14,3] rfl rfl)
          ·clear hF;revert r5;intro r hF;rintro⟨⟩;refine Wk.block<|Wk.seq<|Wk.region<|Wo.od (au (k:=7) j5 rfl rfl rfl) rfl<|Wo.od (aa rfl) rfl<|Wo.o0 (Ax (q:=8) (xs:=l8) (k:=v0) (v:=true) (vE:=(fun b:Bool=>.bool b)) Gu (jH u3) rfl rfl rfl rfl)<|Wo.nil<|At.tn<|Wk.seq<|Wk.region<|Wo.od (au (k:=1) e7 rfl rfl rfl) rfl<|Wo.od (au (k:=4) cu rfl rfl rfl) rfl<|Wo.od (au (k:=7) j5 rfl rfl rfl) rfl<|Wo.od (au (k:=9) j5 rfl rfl rfl) rfl ?_;obtain⟨⟨r7,l20⟩,h23,hF⟩:=J hF;refine Wo.x (eF (N:=(fun x:Option Addr × Nat × Nat=>[.rd x.1 x.2.1 1 x.2.2 (l20.map (eN .u64))])) rfl rfl (fun m hm=>tT n x1 l1 x3 (cL l8 v0 true) l10 (some ⟨b6,o1,none⟩) c0 (some b0) (some b1) _ h23 m hm.aO (hG.ext hm.ext) (hm.rd (k:=3) rfl (.rd _ _ _ _ _)) (hm.bL (k:=3) rfl) (hm.K0 (k:=8) (xs:=(cL l8 v0 true)) rfl) (hm.K0 (k:=10) (xs:=l10) rfl)) fun _=>rfl) gn rfl ?_;rintro⟨a12,c7,n2⟩;refine Wo.cP (k:=0) (xs:=l20) rfl ?_;rintro rfl;refine Wo.x (bT z84 rfl) gn rfl fun b15=>?_;refine Wo.o0 (bC (k:=0) aY rfl rfl rfl rfl rfl)<|Wo.nil<|At.tn<|Wk.seq<|Wk.seq<|Wk.region<|Wo.od (au (k:=7) aY rfl rfl rfl) rfl<|Wo.od (au (k:=0) aY rfl rfl rfl) rfl ?_;obtain⟨r13,h24,hF⟩:=J hF;refine Wo.x (cc rfl rfl (fun m hm=>CR n v1 l6 r7 l20 a1 c1 a12 c7 _ h24 m (hm.rd (k:=8) rfl (.rd _ _ _ _ _)) (hm.rd (k:=1) rfl (.rd _ _ _ _ _))) fun _=>rfl) gn rfl ?_;rintro⟨⟩;refine Wo.od (al rfl rfl (aK _ _ _)) rfl<|Wo.nil<|At.tn ?_;rcases ai hF with⟨h7,hF⟩|⟨h7,hF⟩
           ·refine Wk.aA rfl h7<|Wk.seq<|Wk.region<|Wo.od (au (k:=13) uO rfl rfl rfl) rfl<|Wo.od (aa rfl) rfl<|Wo.x (AI (es:=([v0]:List (Int)).map (eI .i64)) Dg rfl (Aw Dg z3 rfl rfl) rfl rfl) gn rfl fun b16=>?_;obtain⟨h25,hF⟩:=aj hF;refine Wo.x (CL (k:=15) (k2:=0) (xs:=(l5:List (Int))) (ys:=([v0]:List (Int))) (Jh .i64) Dg ⟨_,An⟩ rfl rfl rfl (.arr _ _ _ _ _) h25) gn rfl fun a14=>?_;refine Wo.o0 (bC (k:=14) uO rfl rfl rfl rfl rfl)<|Wo.nil<|At.tn<|Wk.exit<|At.te<|At.be ?_;cases hF;exact At.en (a1,c1,a14) rfl sn (ah.ae [3,4,5,6,7,8,9,10,11,12,13,14,15,16] rfl rfl)
           ·refine Wk.az rfl h7<|Wk.skip<|At.tn<|Wk.seq<|Wk.region<|Wo.od (au (k:=7) aY rfl rfl rfl) rfl<|Wo.od (au (k:=0) aY rfl rfl rfl) rfl ?_;obtain⟨⟨r14,l28⟩,h26,hF⟩:=J hF;refine Wo.x (eF (N:=(fun x:Option Addr × Nat × Nat=>[.rd x.1 x.2.1 1 x.2.2 (l28.map (eN .u64))])) rfl rfl (fun m hm=>xa n v1 l6 r7 l20 a1 c1 a12 c7 _ h26 m hm.aO (hm.rd (k:=8) rfl (.rd _ _ _ _ _)) (hm.bL (k:=8) rfl) (hm.rd (k:=1) rfl (.rd _ _ _ _ _)) (hm.bL (k:=1) rfl)) fun _=>rfl) gn rfl ?_;rintro⟨a15,c9,n3⟩;refine Wo.cP (k:=0) (xs:=l28) rfl ?_;rintro rfl;refine Wo.o0 (bC (k:=8) aY rfl rfl rfl rfl rfl)<|Wo.nil<|At.tn<|Wk.seq<|Wk.region<|Wo.od (au (k:=10) j5 rfl rfl rfl) rfl<|Wo.od (aa rfl) rfl<|Wo.o0 (JG (q:=11) (xs:=(cL l8 v0 true)) (k:=v0) (vE:=(fun b:Bool=>.bool b)) Gu (jH u3) rfl rfl)<|Wo.nil<|At.tn<|Wk.region<|Wo.od (au (k:=12) j5 rfl rfl rfl) rfl<|Wo.od (aa rfl) rfl<|Wo.o0 (Ax (q:=13) (xs:=l10) (k:=v0) (v:=true) (vE:=(fun b:Bool=>.bool b)) Gu (jH u3) rfl rfl rfl rfl)<|Wo.nil<|At.bn ?_;cases hF;exact At.en (a15,c9,a3) rfl sn (ah.ae [3,4,5,6,7,8,0,10,11,12,13,14,15,16] rfl rfl)
          ·clear h8;obtain⟨v6,l19,l26,l27,l12⟩:=r5;rintro⟨a9,c5,a10⟩;refine Wo.og (lb rfl rfl) (gg rfl rfl (bK h1)) rfl<|Wo.od (cj rfl h1 rfl) rfl<|Wo.nil ?_;cases hF;exact At.en (a9,c5,a10) rfl (sc rfl (sc rfl (sc rfl (sc rfl (sc rfl (sc rfl sn)))))) (ah.ae [0,13,2,3,1,4,5,6,7,8,9,10,11,12] rfl rfl)
         ·refine Wo.s (gg rfl rfl (bN h1)) rfl<|Wo.s (gg rfl rfl (bN h1)) rfl<|Wo.s (gg rfl rfl (bN h1)) rfl<|Wo.s (gg rfl rfl (bN h1)) rfl<|Wo.s (gg rfl rfl (bN h1)) rfl<|Wo.od (bX rfl h1 rfl) rfl<|Wo.nil ?_;cases hF;exact At.en (a1,c1,a3) rfl (sc rfl (sc rfl (sc rfl (sc rfl (sc rfl (sc rfl sn)))))) (ah.ae [2,3,1,4,5,6,7,8,9,10,11,12,13,14] rfl rfl)
        ·clear h21;obtain⟨v5,l18,l24,l25,l11⟩:=r4;rintro⟨a7,c4,a8⟩;refine At.tn<|Wk.az rfl rfl<|Wk.skip<|At.bn<|At.tn<|Wk.region<|Wo.od (al rfl rfl (aH _ _ _)) rfl<|Wo.od (aa rfl) rfl<|Wo.nil ?_;cases hF;exact At.en (a7,c4,a8) rfl (sc rfl (sc rfl (sc rfl (sc rfl (sc rfl sn))))) (ah.ae [0,1,3,4,5,6,7,8,9,10,11,12,13] rfl rfl)
       ·refine Wk.az rfl h6<|Wk.exit<|At.te ?_;cases hF;exact At.en (a1,c1,a3) rfl sn (ah.ae [0,3,2,4,5,6,7,8,9,10,11,12] rfl rfl)
      ·clear h5;obtain⟨v3,l7,l16,l17,l4⟩:=r6;rintro⟨a4,c3,a5⟩;refine At.be ?_;cases hF;exact At.fin .nil fun m' hm=>⟨(a4,c3,a5),(ah.ae [0,1,2,3,4,5,6,7,8,9,10,11] rfl rfl) m' hm⟩
     ·clear h17;obtain⟨v4,l15,l22,l23,l9⟩:=r3;rintro⟨a11,c6,a6⟩
      change At _ .normal _ _ _
      refine At.bn<|At.tn<|Wk.seq<|Wk.region<|Wo.od (au (k:=9) uO rfl rfl rfl) rfl<|Wo.od (ak rfl) rfl<|Wo.od (ak rfl) rfl<|Wo.nil<|At.tn<|Wk.ret ?_;cases hF;exact At.ret (.tmp rfl (.tmp rfl .nil)) fun m' hm=>⟨(a6,l9.length),rfl,(ah.ae [10] rfl rfl) m' hm⟩
theorem Ic (n:Nat) (x1:Nat) (x2:Nat) (x3:Nat) (x4:Nat) (x5:Nat) (x6:Nat) (x7:Nat) (x8:Nat) (x9:Nat) (x10:Nat) (x11:Nat) (x12:Nat) (x13:Nat) (x14:Nat) (x15:Nat) (x16:Nat)  (r:Int) (hF:Lp n x1 x2 x3 x4 x5 x6 x7 x8 x9 x10 x11 x12 x13 x14 x15 x16=some r) (m:AMem)  :
  aF aD 96 [.agg #[.int .u64 ((x1:Nat):Int),.int .u64 ((x2:Nat):Int),.int .u64 ((x3:Nat):Int),.int .u64 ((x4:Nat):Int),.int .u64 ((x5:Nat):Int),.int .u64 ((x6:Nat):Int),.int .u64 ((x7:Nat):Int),.int .u64 ((x8:Nat):Int)],.agg #[.int .u64 ((x9:Nat):Int),.int .u64 ((x10:Nat):Int),.int .u64 ((x11:Nat):Int),.int .u64 ((x12:Nat):Int),.int .u64 ((x13:Nat):Int),.int .u64 ((x14:Nat):Int),.int .u64 ((x15:Nat):Int),.int .u64 ((x16:Nat):Int)]] m (fun v m'=>∃x:Unit,v = .int .i64 r∧Hp m m' []):=by
 unfold Lp at hF;refine ax (m0:=m) (ps:=[]) (N:=24) (rs:=[.tmp 4]) rfl Tryd.func96 rfl rfl rfl (Hp.start m)<|Wk.seq<|Wk.region<|Wo.x (bY rfl) gn rfl fun b17=>?_;refine Wo.x (bY rfl) gn rfl fun b18=>?_;refine Wo.od (ak rfl) rfl<|Wo.nil<|At.tn<|Wk.seq<|Wk.seq<|Wk.region<|Wo.od (ak rfl) rfl<|Wo.nil<|At.tn<|Wk.block ?_;obtain⟨r62,h61,hF⟩:=J hF;refine Wk.cut (G:=(fun(r:(Int) ⊕ (Unit)) (g:Unit)=>match r,g with | .inl v49,_=>⟨.ret,[(4,.int .i64 v49)],[]⟩ | .inr _,_=>⟨(.exit 0),[],[]⟩) r62) ?_ ?_
 ·refine Wk.dG (fs':=[(2,ptr b17 0),(3,ptr b18 0),(5,.int .i64 7)]) (ps':=[.arr b17 1 8 (([x1,x2,x3,x4,x5,x6,x7,x8]:List (Nat)).map (eN .u64)) .own,.arr b18 1 8 (([x9,x10,x11,x12,x13,x14,x15,x16]:List (Nat)).map (eN .u64)) .own]) (sc rfl (sc rfl (sc rfl sn))) (ah.trans (ah.rm (k:=1) (xs:=([x1,x2,x3,x4,x5,x6,x7,x8]:List (Nat))) (f:=eN .u64) (l:=8) (w:=1) rfl rfl rfl (Fl .u64) rfl) (ah.trans (ah.rm (k:=0) (xs:=([x9,x10,x11,x12,x13,x14,x15,x16]:List (Nat))) (f:=eN .u64) (l:=8) (w:=1) rfl rfl rfl (Fl .u64) rfl) (ah.ae [1,0] rfl rfl))) ?_;refine Wk.loop (σ:=List (Nat) × List (Nat) × Int) (ρ:=(Int) ⊕ (Unit)) (γ:=Unit) (δ:=fun _=>Unit) _ (fun(s:List (Nat) × List (Nat) × Int) (g:Unit)=>match s,g with | (l32,l33,v34),_=>⟨.normal,[(2,ptr b17 0),(3,ptr b18 0),(5,.int .i64 v34)],[.arr b17 1 8 (l32.map (eN .u64)) .own,.arr b18 1 8 (l33.map (eN .u64)) .own]⟩) (fun(r:(Int) ⊕ (Unit)) (g:Unit)=>match r,g with | .inl v49,_=>⟨.ret,[(4,.int .i64 v49)],[]⟩ | .inr _,_=>⟨(.exit 0),[],[]⟩) ?_ (fun _ _=>rfl) (fun r d=>by rcases r with _|_<;>(intro e; cases e)) _ _ _ h61 ()
  clear hF h61;rintro⟨l32,l33,v34⟩ ⟨⟩ r hF;unfold GL at hF;refine Wk.seq<|Wk.seq<|Wk.region<|Wo.od (aa rfl) rfl<|Wo.od (al rfl rfl (dN _ _ _)) rfl<|Wo.nil<|At.tn ?_;rcases ai hF with⟨h50,hF⟩|⟨h50,hF⟩
  ·refine Wk.aA rfl h50<|Wk.skip<|At.tn<|Wk.seq<|Wk.block<|Wk.seq<|Wk.draw (by kernel_rfl)<|Wo.od (aa rfl) rfl ?_
   obtain⟨h51,hF⟩:=aj hF;replace h51:=an h51;refine Wo.og (oi lY rfl rfl h51) gn rfl ?_;obtain⟨x52,h53,hF⟩:=J hF;refine Wo.od (e8 (k:=0) cu rfl rfl (aS h53) rfl rfl) rfl<|Wo.od (aa rfl) rfl ?_;obtain⟨h54,hF⟩:=aj hF;replace h54:=an h54;refine Wo.og (oi lY rfl rfl h54) gn rfl ?_;obtain⟨x55,h56,hF⟩:=J hF;refine Wo.od (e8 (k:=1) cu rfl rfl (aS h56) rfl rfl) rfl<|Wo.od (al rfl rfl (Ip _ _)) rfl<|Wo.nil<|At.tn ?_;rcases ai hF with⟨h57,hF⟩|⟨h57,hF⟩
   ·refine Wk.aA rfl h57<|Wk.seq<|Wk.seq<|Wk.draw (by kernel_rfl)<|Wo.od (aa rfl) rfl ?_
    obtain⟨h58,hF⟩:=aj hF;replace h58:=an h58;refine Wo.og (oi lY rfl rfl h58) gn rfl<|Wo.od (e8 (k:=0) cu rfl rfl (aS h53) rfl rfl) rfl<|Wo.od (aa rfl) rfl ?_;obtain⟨h59,hF⟩:=aj hF;replace h59:=an h59;refine Wo.og (oi lY rfl rfl h59) gn rfl<|Wo.od (e8 (k:=1) cu rfl rfl (aS h56) rfl rfl) rfl<|Wo.od (al rfl rfl (C9 _ _)) rfl<|Wo.nil<|At.tn ?_;rcases ai hF with⟨h60,hF⟩|⟨h60,hF⟩
    ·refine Wk.aA rfl h60<|Wk.seq<|Wk.region<|Wo.od (ak rfl) rfl<|Wo.nil<|At.tn<|Wk.ret<|At.tr<|At.br<|At.tr ?_;cases hF;exact At.en () rfl (sc rfl sn) (ah.ae [] rfl rfl)
    ·refine Wk.az rfl h60<|Wk.skip<|At.tn<|Wk.seq<|Wk.region<|Wo.od (ak rfl) rfl<|Wo.nil<|At.tn<|Wk.ret<|At.br<|At.tr ?_;cases hF;exact At.en () rfl (sc rfl sn) (ah.ae [] rfl rfl)
   ·refine Wk.az rfl h57<|Wk.skip<|At.bn<|At.tn<|Wk.region<|Wo.od (aa rfl) rfl<|Wo.od (al rfl rfl (cX _ _ _)) rfl<|Wo.od (ak rfl) rfl<|Wo.nil ?_;cases hF;exact At.en () rfl (sc rfl (sc rfl (sc rfl sn))) (ah.ae [0,1] rfl rfl)
  ·refine Wk.az rfl h50<|Wk.exit<|At.te ?_;cases hF;exact At.en () rfl sn (ah.ae [] rfl rfl)
 ·clear h61;rcases r62 with v49|_
  ·rintro⟨⟩;refine At.br<|At.tr ?_;have hr:=Option.some.inj hF;subst r;exact At.ret (.tmp rfl .nil) fun m' hm=>⟨(),rfl,(ah.ae [] rfl rfl) m' hm⟩
  ·rintro⟨⟩;refine At.be<|At.tn<|Wk.seq<|Wk.region<|Wo.od (ak rfl) rfl<|Wo.nil<|At.tn<|Wk.ret ?_;cases hF;exact At.ret (.tmp rfl .nil) fun m' hm=>⟨(),rfl,(ah.ae [] rfl rfl) m' hm⟩
theorem IS (n:Nat) (x1:Bool) (x2:Nat) (x3:Nat) (x4:Nat) (x5:Nat) (x6:Nat) (x7:Nat) (x8:Nat) (x9:Nat)  (r:Nat × Nat × Nat × Nat × Nat × Nat × Nat × Nat × Int) (hF:Ls n x1 x2 x3 x4 x5 x6 x7 x8 x9=some r) (m:AMem)  :
  aF aD 82 [.agg #[.bool x1,.int .u64 ((x2:Nat):Int),.int .u64 ((x3:Nat):Int),.int .u64 ((x4:Nat):Int),.int .u64 ((x5:Nat):Int),.int .u64 ((x6:Nat):Int),.int .u64 ((x7:Nat):Int),.int .u64 ((x8:Nat):Int),.int .u64 ((x9:Nat):Int)]] m (fun v m'=>∃x:Unit,v = .tuple #[.agg #[.int .u64 ((r.1:Nat):Int),.int .u64 ((r.2.1:Nat):Int),.int .u64 ((r.2.2.1:Nat):Int),.int .u64 ((r.2.2.2.1:Nat):Int),.int .u64 ((r.2.2.2.2.1:Nat):Int),.int .u64 ((r.2.2.2.2.2.1:Nat):Int),.int .u64 ((r.2.2.2.2.2.2.1:Nat):Int),.int .u64 ((r.2.2.2.2.2.2.2.1:Nat):Int)],.int .i64 r.2.2.2.2.2.2.2.2]∧Hp m m' []):=by
 unfold Ls at hF;refine ax (m0:=m) (ps:=[]) (N:=35) (rs:=[.cell 2 41,.tmp 3]) rfl Tryd.func82 rfl rfl rfl (Hp.start m)<|Wk.seq<|Wk.region<|Wo.x (bY rfl) gn rfl fun b10=>?_;refine Wo.x (bT By rfl) gn rfl fun b11=>?_;refine Wo.od (ak rfl) rfl<|Wo.nil<|At.tn<|Wk.seq<|Wk.region<|Wo.od (jF rfl Dq rfl (jJ B7 rfl rfl rfl)) rfl<|Wo.x (bT Dq rfl) gn rfl fun b12=>?_;refine Wo.o0 (bC (k:=0) j7 rfl rfl rfl rfl rfl)<|Wo.nil<|At.tn<|Wk.seq<|Wk.seq<|Wk.region<|Wo.od (bH (r:=ptr b10 1) rfl (gU _ _)) rfl<|Wo.od (au (k:=2) j7 rfl rfl rfl) rfl<|Wo.od (au (k:=0) j7 rfl rfl rfl) rfl ?_;obtain⟨r24,h23,hF⟩:=J hF;refine Wo.x (cc rfl rfl (fun m hm=>Ic n x2 x3 x4 x5 x6 x7 x8 x9 0 0 0 0 0 0 0 9223372036854775808  _ h23 m) fun _=>rfl) gn rfl ?_;rintro⟨⟩;refine Wo.od (ak rfl) rfl<|Wo.nil<|At.tn<|Wk.seq ?_;obtain⟨v27,h30,hF⟩:=J hF;refine Wk.cut (G:=(fun(r:Bool) (g:Unit)=>match r,g with|v27,_=>⟨.normal,[(1,ptr b10 0),(2,ptr b11 0),(21,.bool v27)],[.obj b10 (.cells [.bool x1,.int .u64 ((x2:Nat):Int),.int .u64 ((x3:Nat):Int),.int .u64 ((x4:Nat):Int),.int .u64 ((x5:Nat):Int),.int .u64 ((x6:Nat):Int),.int .u64 ((x7:Nat):Int),.int .u64 ((x8:Nat):Int),.int .u64 ((x9:Nat):Int)] .own),.obj b11 (.cells [.int .u64 ((0:Nat):Int),.int .u64 ((0:Nat):Int),.int .u64 ((0:Nat):Int),.int .u64 ((0:Nat):Int),.int .u64 ((0:Nat):Int),.int .u64 ((0:Nat):Int),.int .u64 ((0:Nat):Int),.int .u64 ((0:Nat):Int)] .own)]⟩) v27) ?_ ?_
 ·clear hF;revert v27;intro r hF;refine Wk.region<|Wo.od (aa rfl) rfl<|Wo.od (al rfl rfl (eW _ _ _)) rfl<|Wo.od (aa rfl) rfl ?_;rcases ai hF with⟨h28,hF⟩|⟨h28,hF⟩
  ·refine Wo.s (gg rfl rfl (cO h28)) rfl<|Wo.s (gg rfl rfl (cO h28)) rfl<|Wo.s (gg rfl rfl (cO h28)) rfl<|Wo.s (gu rfl rfl) rfl<|Wo.s (gu rfl rfl) rfl<|Wo.s (gu rfl rfl) rfl<|Wo.s (gg rfl rfl (cO h28)) rfl<|Wo.od (cj rfl h28 rfl) rfl<|Wo.nil ?_;cases hF;exact At.en () rfl (sc rfl (sc rfl (sc rfl sn))) (ah.ae [2,1] rfl rfl)
  ·refine Wo.og (aa rfl) (gg rfl rfl (cC h28)) rfl<|Wo.og (al rfl rfl (bu _ _ _)) (gg rfl rfl (cC h28)) rfl<|Wo.og (aa rfl) (gg rfl rfl (cC h28)) rfl ?_;rcases ai hF with⟨h29,hF⟩|⟨h29,hF⟩
   ·refine Wo.og (bH (r:=ptr b10 0) rfl (oK _ _)) (gg rfl rfl (bK h29)) rfl<|Wo.og (au (k:=2) uE rfl rfl rfl) (gg rfl rfl (bK h29)) rfl<|Wo.og (lb rfl rfl) (gg rfl rfl (bK h29)) rfl<|Wo.og (cj rfl h29 rfl) (gg rfl rfl (cC h28)) rfl<|Wo.od (bX rfl h28 rfl) rfl<|Wo.nil ?_;cases hF;exact At.en () rfl (sc rfl (sc rfl (sc rfl sn))) (ah.ae [2,1] rfl rfl)
   ·refine Wo.s (gg rfl rfl (bN h29)) rfl<|Wo.s (gg rfl rfl (bN h29)) rfl<|Wo.s (gg rfl rfl (bN h29)) rfl<|Wo.og (bX rfl h29 rfl) (gg rfl rfl (cC h28)) rfl<|Wo.od (bX rfl h28 rfl) rfl<|Wo.nil ?_;cases hF;exact At.en () rfl (sc rfl (sc rfl (sc rfl sn))) (ah.ae [2,1] rfl rfl)
 ·clear h30;rintro⟨⟩;refine At.tn ?_;rcases ai hF with⟨h32,hF⟩|⟨h32,hF⟩
  ·refine Wk.aA rfl h32<|Wk.seq<|Wk.region<|Wo.od (jF rfl By rfl (jJ Cw rfl rfl rfl)) rfl<|Wo.o0 (bC (k:=1) e9 rfl rfl rfl rfl rfl)<|Wo.od (ak rfl) rfl<|Wo.nil<|At.tn<|Wk.ret<|At.tr ?_;cases hF;exact At.ret (.cell (k:=1) e9 rfl rfl rfl (.tmp rfl .nil)) fun m' hm=>⟨(),rfl,(ah.ae [] rfl rfl) m' hm⟩
  ·refine Wk.az rfl h32<|Wk.skip<|At.tn<|Wk.seq ?_;obtain⟨r64,h63,hF⟩:=J hF;refine Wk.cut (G:=(fun(r:Nat × Nat × Nat × Nat × Nat × Nat × Nat × Nat) (g:Unit)=>match r,g with | (v44,v45,v46,v47,v48,v49,v50,v51),_=>⟨.normal,[(1,ptr b10 0),(2,ptr b11 0)],[.obj b10 (.cells [.bool x1,.int .u64 ((v44:Nat):Int),.int .u64 ((v45:Nat):Int),.int .u64 ((v46:Nat):Int),.int .u64 ((v47:Nat):Int),.int .u64 ((v48:Nat):Int),.int .u64 ((v49:Nat):Int),.int .u64 ((v50:Nat):Int),.int .u64 ((v51:Nat):Int)] .own),.obj b11 (.cells [.int .u64 ((0:Nat):Int),.int .u64 ((0:Nat):Int),.int .u64 ((0:Nat):Int),.int .u64 ((0:Nat):Int),.int .u64 ((0:Nat):Int),.int .u64 ((0:Nat):Int),.int .u64 ((0:Nat):Int),.int .u64 ((0:Nat):Int)] .own)]⟩) r64) ?_ ?_
   ·clear hF;revert r64;intro r hF;refine Wk.seq<|Wk.region<|Wo.od (bH (r:=ptr b10 0) rfl (oK _ _)) rfl<|Wo.od (au (k:=0) uE rfl rfl rfl) rfl<|Wo.nil<|At.tn ?_;rcases ai hF with⟨h52,hF⟩|⟨h52,hF⟩
    ·refine Wk.aA rfl h52<|Wk.region<|Wo.od (jF rfl Dq rfl (jJ B7 rfl rfl rfl)) rfl<|Wo.od (bH (r:=ptr b10 1) rfl (gU _ _)) rfl<|Wo.od (au (k:=0) j7 rfl rfl rfl) rfl ?_;obtain⟨⟨r54,r55,r56,r57,r58,r59,r60,r61,r62⟩,h53,hF⟩:=J hF;refine Wo.x (cc rfl rfl (fun m hm=>BB n 0 0 0 0 0 0 0 0 x2 x3 x4 x5 x6 x7 x8 x9  _ h53 m) fun _=>rfl) gn rfl ?_;rintro⟨⟩;refine Wo.od (aa rfl) rfl<|Wo.od (bR rfl rfl) rfl<|Wo.od (bR rfl rfl) rfl<|Wo.od (bH (r:=ptr b10 1) rfl (gU _ _)) rfl<|Wo.o0 (bC (k:=0) j7 rfl rfl rfl rfl rfl)<|Wo.nil ?_;cases hF;exact At.en () rfl (sc rfl (sc rfl sn)) (ah.ae [0,1] rfl rfl)
    ·refine Wk.az rfl h52<|Wk.skip ?_;cases hF;exact At.en () rfl (sc rfl (sc rfl sn)) (ah.ae [0,1] rfl rfl)
   ·clear h63;obtain⟨v44,v45,v46,v47,v48,v49,v50,v51⟩:=r64;rintro⟨⟩;refine At.tn<|Wk.seq<|Wk.region<|Wo.od (bH (r:=ptr b10 1) rfl (gU _ _)) rfl<|Wo.od (au (k:=0) j7 rfl rfl rfl) rfl<|Wo.o0 (bC (k:=1) e9 rfl rfl rfl rfl rfl)<|Wo.od (ak rfl) rfl<|Wo.nil<|At.tn<|Wk.ret ?_;cases hF;exact At.ret (.cell (k:=1) e9 rfl rfl rfl (.tmp rfl .nil)) fun m' hm=>⟨(),rfl,(ah.ae [] rfl rfl) m' hm⟩
theorem C2 (n:Nat) (x1:Bool) (l2:List (Nat)) (a3:Option Addr) (c4:Nat) (r:Nat × Nat × Nat × Nat × Nat × Nat × Nat × Nat × Int) (hF:Iq n x1 l2=some r) (m:AMem) (h5:Rd m a3 c4 1 l2.length (l2.map (eN .u64))) :
  aF aD 46 [.agg #[.bool x1,.slice a3 l2.length c4]] m (fun v m'=>∃x:Unit,v = .tuple #[.agg #[.int .u64 ((r.1:Nat):Int),.int .u64 ((r.2.1:Nat):Int),.int .u64 ((r.2.2.1:Nat):Int),.int .u64 ((r.2.2.2.1:Nat):Int),.int .u64 ((r.2.2.2.2.1:Nat):Int),.int .u64 ((r.2.2.2.2.2.1:Nat):Int),.int .u64 ((r.2.2.2.2.2.2.1:Nat):Int),.int .u64 ((r.2.2.2.2.2.2.2.1:Nat):Int)],.int .i64 r.2.2.2.2.2.2.2.2]∧Hp m m' []):=by
 unfold Iq at hF;refine ax (m0:=m) (ps:=[.rd a3 c4 1 l2.length (l2.map (eN .u64))]) (N:=22) (rs:=[.cell 2 41,.tmp 3]) rfl Tryd.func46 rfl rfl rfl ((Hp.start m).dz rfl h5)<|Wk.seq<|Wk.region<|Wo.x (bY rfl) gn rfl fun b6=>?_;refine Wo.x (bT By rfl) gn rfl fun b7=>?_;refine Wo.od (ak rfl) rfl<|Wo.nil<|At.tn<|Wk.seq<|Wk.seq<|Wk.region<|Wo.od (bH (r:=ptr b6 1) rfl (ey _ _)) rfl<|Wo.od (au (k:=1) jI rfl rfl rfl) rfl<|Wo.od (cw (k:=2) lu rfl rfl (.inl rfl)) rfl<|Wo.od (al rfl rfl (eW _ _ _)) rfl<|Wo.nil<|At.tn ?_;rcases ai hF with⟨h8,hF⟩|⟨h8,hF⟩
 ·refine Wk.aA rfl h8<|Wk.seq<|Wk.region<|Wo.od (jF rfl By rfl (jJ Cw rfl rfl rfl)) rfl<|Wo.o0 (bC (k:=0) e9 rfl rfl rfl rfl rfl)<|Wo.od (ak rfl) rfl<|Wo.nil<|At.tn<|Wk.ret<|At.tr ?_;cases hF;exact At.ret (.cell (k:=0) e9 rfl rfl rfl (.tmp rfl .nil)) fun m' hm=>⟨(),rfl,(ah.ae [] rfl rfl) m' hm⟩
 ·refine Wk.az rfl h8<|Wk.skip<|At.tn<|Wk.seq<|Wk.region<|Wo.od (bH (r:=ptr b6 0) rfl (eX _ _)) rfl<|Wo.od (au (k:=1) uE rfl rfl rfl) rfl<|Wo.od (jF rfl AG rfl (jJ Gz rfl rfl rfl)) rfl<|Wo.x (bT AG rfl) gn rfl fun b9=>?_;refine Wo.o0 (bC (k:=0) pP rfl rfl rfl rfl rfl)<|Wo.nil<|At.tn<|Wk.seq<|Wk.draw (by kernel_rfl)<|Wo.od (bH (r:=ptr b9 1) rfl (gU _ _)) rfl<|Wo.og (FT (k:=0) lY rfl rfl rfl rfl) gn rfl<|Wo.od (bH (r:=ptr b6 1) rfl (ey _ _)) rfl<|Wo.od (au (k:=2) jI rfl rfl rfl) rfl ?_
  obtain⟨h10,hF⟩:=aj hF;obtain⟨⟨x12,x13,x14,x15,x16,x17,x18,x19⟩,h11,hF⟩:=J hF;refine Wo.od (JD (k:=0) (ys:=(l2:List (Nat))) (cs':=[.bool x1,.int .u64 ((x12:Nat):Int),.int .u64 ((x13:Nat):Int),.int .u64 ((x14:Nat):Int),.int .u64 ((x15:Nat):Int),.int .u64 ((x16:Nat):Int),.int .u64 ((x17:Nat):Int),.int .u64 ((x18:Nat):Int),.int .u64 ((x19:Nat):Int)]) (Fl .u64) im rfl rfl (fun m hm=>hm.rd (k:=3) rfl (.rd _ _ _ _ _)) h10 rfl (JT (f:=eN .u64) (v:=fun x=>.int .u64 ((x:Nat):Int)) (fun _=>rfl) (pC h11) (of_decide_eq_true h10))) rfl<|Wo.nil<|At.tn<|Wk.seq<|Wk.region<|Wo.od (au (k:=0) pP rfl rfl rfl) rfl ?_;obtain⟨⟨r21,r22,r23,r24,r25,r26,r27,r28,r29⟩,h20,hF⟩:=J hF;refine Wo.x (cc rfl rfl (fun m hm=>IS n x1 x12 x13 x14 x15 x16 x17 x18 x19  _ h20 m) fun _=>rfl) gn rfl ?_;rintro⟨⟩;refine Wo.od (bR rfl rfl) rfl<|Wo.od (bR rfl rfl) rfl<|Wo.o0 (bC (k:=1) e9 rfl rfl rfl rfl rfl)<|Wo.od (ak rfl) rfl<|Wo.nil<|At.tn<|Wk.ret ?_;cases hF;exact At.ret (.cell (k:=1) e9 rfl rfl rfl (.tmp rfl .nil)) fun m' hm=>⟨(),rfl,(ah.ae [] rfl rfl) m' hm⟩
theorem Hu (n:Nat) (x1:Int) (l2:List (Int × Int)) (x6:Nat) (a3:Option Addr) (c4:Nat) (r:Nat × Nat × Nat × Nat × Nat × Nat × Nat × Nat × Int) (hF:KP n x1 l2 x6=some r) (m:AMem) (hG:Gl m) (h5:Rd m a3 c4 2 l2.length (l2.map (eP (eI .i64) (eI .i64)))) :
  aF aD 12 [.agg #[.int .i64 x1,.slice a3 l2.length c4],.int .u64 ((x6:Nat):Int)] m (fun v m'=>∃x:Unit,v = .tuple #[.agg #[.int .u64 ((r.1:Nat):Int),.int .u64 ((r.2.1:Nat):Int),.int .u64 ((r.2.2.1:Nat):Int),.int .u64 ((r.2.2.2.1:Nat):Int),.int .u64 ((r.2.2.2.2.1:Nat):Int),.int .u64 ((r.2.2.2.2.2.1:Nat):Int),.int .u64 ((r.2.2.2.2.2.2.1:Nat):Int),.int .u64 ((r.2.2.2.2.2.2.2.1:Nat):Int)],.int .i64 r.2.2.2.2.2.2.2.2]∧Hp m m' []):=by
 unfold KP at hF;refine ax (m0:=m) (ps:=[.rd a3 c4 2 l2.length (l2.map (eP (eI .i64) (eI .i64)))]) (N:=20) (rs:=[.cell 4 41,.tmp 5]) rfl Tryd.func12 rfl rfl rfl ((Hp.start m).dz rfl h5)<|Wk.seq<|Wk.region<|Wo.x (bY rfl) gn rfl fun b7=>?_;refine Wo.x (bT By rfl) gn rfl fun b8=>?_;refine Wo.od (ak rfl) rfl<|Wo.nil<|At.tn<|Wk.seq<|Wk.seq<|Wk.region<|Wo.od (au (k:=1) e7 rfl rfl rfl) rfl<|Wo.od (aa rfl) rfl ?_;obtain⟨r10,h9,hF⟩:=J hF;refine Wo.x (cc rfl rfl (fun m hm=>xy n x1 l2 x6 a3 c4 _ h9 m (hm.rd (k:=2) rfl (.rd _ _ _ _ _))) fun _=>rfl) gn rfl ?_;rintro⟨⟩;refine Wo.od (ak rfl) rfl<|Wo.nil<|At.tn<|Wk.seq<|Wk.region<|Wo.od (aa rfl) rfl<|Wo.od (al rfl rfl (dt _ _)) rfl<|Wo.nil<|At.tn ?_;rcases ai hF with⟨h11,hF⟩|⟨h11,hF⟩
 ·refine Wk.aA rfl h11<|Wk.seq<|Wk.region<|Wo.od (jF rfl By rfl (jJ Cw rfl rfl rfl)) rfl<|Wo.od (aa rfl) rfl<|Wo.o0 (bC (k:=0) e9 rfl rfl rfl rfl rfl)<|Wo.od (ak rfl) rfl<|Wo.nil<|At.tn<|Wk.ret<|At.tr ?_;cases hF;exact At.ret (.cell (k:=0) e9 rfl rfl rfl (.tmp rfl .nil)) fun m' hm=>⟨(),rfl,(ah.ae [] rfl rfl) m' hm⟩
 ·refine Wk.az rfl h11<|Wk.skip<|At.tn<|Wk.seq<|Wk.region<|Wo.od (au (k:=1) e7 rfl rfl rfl) rfl<|Wo.od (aa rfl) rfl ?_;obtain⟨⟨r13,l14⟩,h12,hF⟩:=J hF;refine Wo.x (eF (N:=(fun x:Option Addr × Nat × Nat=>[.rd x.1 x.2.1 1 x.2.2 (l14.map (eN .u64))])) rfl rfl (fun m hm=>tT n x1 l2 x6 [] [] a3 c4 none none _ h12 m hm.aO (hG.ext hm.ext) (hm.rd (k:=2) rfl (.rd _ _ _ _ _)) (hm.bL (k:=2) rfl) A7.nil A7.nil) fun _=>rfl) gn rfl ?_;rintro⟨a15,c16,n17⟩;refine Wo.cP (k:=0) (xs:=l14) rfl ?_;rintro rfl;obtain⟨⟨r19,r20,r21,r22,r23,r24,r25,r26,r27⟩,h18,hF⟩:=J hF;refine Wo.x (cc rfl rfl (fun m hm=>C2 n r13 l14 a15 c16 _ h18 m (hm.rd (k:=0) rfl (.rd _ _ _ _ _))) fun _=>rfl) gn rfl ?_;rintro⟨⟩;refine Wo.od (bR rfl rfl) rfl<|Wo.od (bR rfl rfl) rfl<|Wo.o0 (bC (k:=1) e9 rfl rfl rfl rfl rfl)<|Wo.od (ak rfl) rfl<|Wo.nil<|At.tn<|Wk.ret ?_;cases hF;exact At.ret (.cell (k:=1) e9 rfl rfl rfl (.tmp rfl .nil)) fun m' hm=>⟨(),rfl,(ah.ae [] rfl rfl) m' hm⟩
theorem H7 (n:Nat) (x1:Nat) (x2:Nat) (x3:Nat) (x4:Nat) (x5:Nat) (x6:Nat) (x7:Nat) (x8:Nat)  (r:Int × Int) (hF:J7 n x1 x2 x3 x4 x5 x6 x7 x8=some r) (m:AMem)  :
  aF aD 13 [.agg #[.int .u64 ((x1:Nat):Int),.int .u64 ((x2:Nat):Int),.int .u64 ((x3:Nat):Int),.int .u64 ((x4:Nat):Int),.int .u64 ((x5:Nat):Int),.int .u64 ((x6:Nat):Int),.int .u64 ((x7:Nat):Int),.int .u64 ((x8:Nat):Int)]] m (fun v m'=>∃x:Unit,v = .tuple #[.int .i64 r.1,.int .i64 r.2]∧Hp m m' []):=by
 unfold J7 at hF;refine ax (m0:=m) (ps:=[]) (N:=13) (rs:=[.tmp 2,.tmp 3]) rfl Tryd.func13 rfl rfl rfl (Hp.start m)<|Wk.seq<|Wk.region<|Wo.x (bY rfl) gn rfl fun b9=>?_;refine Wo.od (ak rfl) rfl<|Wo.od (ak rfl) rfl<|Wo.nil<|At.tn<|Wk.seq<|Wk.region<|Wo.od (jE (r:=ptr b9 0) rfl rfl (jV Hn (i:=0) (by decide))) rfl<|Wo.od (au (k:=0) cu rfl rfl rfl) rfl<|Wo.od (lI rfl (qW (by rw[KE]; rfl) u3)) rfl<|Wo.od (ak rfl) rfl<|Wo.nil<|At.tn<|Wk.seq<|Wk.seq<|Wk.du (prs:=[(1,2)]) (by kernel_rfl)<|Wn.od (aa rfl) rfl ?_
 obtain⟨⟨r11,r12,r13,r14,r15,r16,r17,r18⟩,h10,hF⟩:=J hF;refine Wn.c (fb rfl rfl (fun m hm=>iV n (IntKind.wrap .i64 ((x1:Nat):Int))  _ h10 m) fun _=>rfl) gn rfl ?_;rintro⟨⟩;refine Wn.od (au (k:=0) e9 rfl rfl rfl) rfl<|Wn.od (al rfl rfl (JM Kl (J0 _ _ _ _ _ _ _ _ _ _ _ _ _ _ _ _))) rfl<|Wn.nil (fun m hm=>bM.all rfl)<|At.tn ?_;rcases ai hF with⟨h19,hF⟩|⟨h19,hF⟩
 ·refine Wk.aA rfl h19<|Wk.seq<|Wk.region<|Wo.od (ak rfl) rfl<|Wo.od (ak rfl) rfl<|Wo.nil<|At.tn<|Wk.ret<|At.tr ?_;cases hF;exact At.ret (.tmp rfl (.tmp rfl .nil)) fun m' hm=>⟨(),rfl,(ah.ae [] rfl rfl) m' hm⟩
 ·refine Wk.az rfl h19<|Wk.skip<|At.tn<|Wk.seq<|Wk.region<|Wo.od (aa rfl) rfl<|Wo.od (ak rfl) rfl<|Wo.od (ak rfl) rfl<|Wo.nil<|At.tn<|Wk.ret ?_;cases hF;exact At.ret (.tmp rfl (.tmp rfl .nil)) fun m' hm=>⟨(),rfl,(ah.ae [] rfl rfl) m' hm⟩
theorem HD (n:Nat) (x1:Nat)  (r:Int) (hF:JF n x1=some r) (m:AMem)  :
  aF aD 51 [.int .u64 ((x1:Nat):Int)] m (fun v m'=>∃x:Unit,v = .int .i64 r∧Hp m m' []):=by
 unfold JF at hF;refine ax (m0:=m) (ps:=[]) (N:=35) (rs:=[.tmp 2]) rfl Tryd.func51 rfl rfl rfl (Hp.start m)<|Wk.seq<|Wk.region<|Wo.od (ak rfl) rfl<|Wo.nil<|At.tn<|Wk.seq<|Wk.region<|Wo.od (aa rfl) rfl<|Wo.od (al rfl rfl (cr _ _ rfl)) rfl<|Wo.od (al rfl rfl (eE rfl _ _)) rfl<|Wo.od (aa rfl) rfl<|Wo.od (al rfl rfl (eE rfl _ _)) rfl ?_;obtain⟨y2,h3,hF⟩:=J hF;refine Wo.od (al rfl rfl ((dD rfl _ _).trans (cN h3))) rfl<|Wo.od (ak rfl) rfl<|Wo.nil<|At.tn<|Wk.seq<|Wk.region<|Wo.od (aa rfl) rfl<|Wo.od (al rfl rfl (cr _ _ rfl)) rfl<|Wo.od (al rfl rfl (eE rfl _ _)) rfl<|Wo.od (aa rfl) rfl<|Wo.od (al rfl rfl (eE rfl _ _)) rfl ?_;obtain⟨y4,h5,hF⟩:=J hF;refine Wo.od (al rfl rfl ((dD rfl _ _).trans (cN h5))) rfl<|Wo.od (ak rfl) rfl<|Wo.nil<|At.tn<|Wk.seq<|Wk.region<|Wo.od (aa rfl) rfl<|Wo.od (al rfl rfl (cr _ _ rfl)) rfl<|Wo.od (aa rfl) rfl<|Wo.od (al rfl rfl (dD rfl _ _)) rfl ?_;obtain⟨y6,h7,hF⟩:=J hF;refine Wo.od (al rfl rfl ((eE rfl _ _).trans (cN h7))) rfl<|Wo.od (ak rfl) rfl<|Wo.nil<|At.tn<|Wk.seq<|Wk.region<|Wo.od (aa rfl) rfl<|Wo.od (aa rfl) rfl<|Wo.od (al rfl rfl (cr _ _ rfl)) rfl<|Wo.od (al rfl rfl (dD rfl _ _)) rfl<|Wo.od (ak rfl) rfl<|Wo.nil<|At.tn<|Wk.seq<|Wk.region<|Wo.od (aa rfl) rfl<|Wo.od (aa rfl) rfl<|Wo.od (al rfl rfl (cr _ _ rfl)) rfl ?_;obtain⟨y8,h9,hF⟩:=J hF;refine Wo.od (al rfl rfl ((dD rfl _ _).trans (cN h9))) rfl<|Wo.od (ak rfl) rfl<|Wo.nil<|At.tn<|Wk.seq<|Wk.region<|Wo.od (aa rfl) rfl<|Wo.od (aa rfl) rfl<|Wo.od (al rfl rfl (cr _ _ rfl)) rfl<|Wo.od (al rfl rfl (dD rfl _ _)) rfl<|Wo.od (ak rfl) rfl<|Wo.nil<|At.tn<|Wk.seq<|Wk.region<|Wo.od (aa rfl) rfl<|Wo.od (lI rfl (qW (by rw[KE]; rfl) u3)) rfl ?_
 obtain⟨y10,h11,hF⟩:=J hF;refine Wo.od (al rfl rfl ((IB _ _).trans (cI h11))) rfl<|Wo.od (ak rfl) rfl<|Wo.nil<|At.tn<|Wk.ret ?_;have hr:=Option.some.inj hF;subst r;exact At.ret (.tmp rfl .nil) fun m' hm=>⟨(),rfl,(ah.ae [] rfl rfl) m' hm⟩
theorem DO (n:Nat) (x1:Int) (l2:List (Int × Int)) (x3:Nat) (l1:List (Int)) (a2:Option Addr) (c1:Nat) (a0:Option Addr) (c0:Nat) (r:Int) (hF:GB n x1 l2 x3 l1=some r) (m:AMem) (h13:Rd m a2 c1 2 l2.length (l2.map (eP (eI .i64) (eI .i64)))) (h14:Rd m a0 c0 1 l1.length (l1.map (eI .i64))) :
  aF aD 15 [.agg #[.int .i64 x1,.slice a2 l2.length c1],.int .u64 ((x3:Nat):Int),.slice a0 l1.length c0] m (fun v m'=>∃x:Unit,v = .int .i64 r∧Hp m m' []):=by
 unfold GB at hF;refine ax (m0:=m) (ps:=[.rd a0 c0 1 l1.length (l1.map (eI .i64)),.rd a2 c1 2 l2.length (l2.map (eP (eI .i64) (eI .i64)))]) (N:=63) (rs:=[.tmp 6]) rfl Tryd.func15 rfl rfl rfl (((Hp.start m).dz rfl h13).dz rfl h14)<|Wk.seq<|Wk.region<|Wo.x (bY rfl) gn rfl fun b0=>?_;refine Wo.od (ak rfl) rfl<|Wo.nil<|At.tn<|Wk.seq<|Wk.seq<|Wk.region<|Wo.od (au (k:=0) e7 rfl rfl rfl) rfl<|Wo.od (aa rfl) rfl ?_;obtain⟨r5,h15,hF⟩:=J hF;refine Wo.x (cc rfl rfl (fun m hm=>xy n x1 l2 x3 a2 c1 _ h15 m (hm.rd (k:=2) rfl (.rd _ _ _ _ _))) fun _=>rfl) gn rfl ?_;rintro⟨⟩;refine Wo.od (ak rfl) rfl<|Wo.nil<|At.tn<|Wk.seq<|Wk.region<|Wo.od (aa rfl) rfl<|Wo.od (al rfl rfl (dt _ _)) rfl<|Wo.nil<|At.tn ?_;rcases ai hF with⟨h6,hF⟩|⟨h6,hF⟩
 ·refine Wk.aA rfl h6<|Wk.seq<|Wk.region<|Wo.od (aa rfl) rfl<|Wo.od (ak rfl) rfl<|Wo.nil<|At.tn<|Wk.ret<|At.tr ?_;have hr:=Option.some.inj hF;subst r;exact At.ret (.tmp rfl .nil) fun m' hm=>⟨(),rfl,(ah.ae [] rfl rfl) m' hm⟩
 ·refine Wk.az rfl h6<|Wk.skip<|At.tn<|Wk.seq<|Wk.region ?_;obtain⟨l4,h16,hF⟩:=J hF;refine Wo.x (cc rfl rfl (fun m hm=>DQ n   _ h16 m) fun _=>rfl) gn rfl ?_;rintro⟨a4,n2⟩;refine Wo.len (k:=0) (xs:=l4) rfl ?_;rintro rfl;refine Wo.x (bT KS rfl) gn rfl fun b1=>?_;refine Wo.o0 (bC (k:=0) AB rfl rfl rfl rfl rfl)<|Wo.nil<|At.tn<|Wk.seq<|Wk.region<|Wo.od (ak rfl) rfl<|Wo.nil<|At.tn<|Wk.seq<|Wk.seq<|Wk.region<|Wo.od (aa rfl) rfl<|Wo.od (cw (k:=3) An rfl rfl (.inl rfl)) rfl<|Wo.od (aa rfl) rfl<|Wo.nil<|At.tn<|Wk.block ?_;obtain⟨r2,h7,hF⟩:=J hF;refine Wk.cut (G:=(fun(r:(Unit) ⊕ (Unit)) (g:Unit)=>match r,g with | .inl _,_=>⟨.ret,[(6,.int .i64 300)],[]⟩ | .inr _,_=>⟨(.exit 0),[(1,.int .u64 ((x3:Nat):Int)),(2,.slice a0 l1.length c0)],[.rd a0 c0 1 l1.length (l1.map (eI .i64))]⟩) r2) ?_ ?_
  ·refine Wk.dG (fs':=[(1,.int .u64 ((x3:Nat):Int)),(2,.slice a0 l1.length c0),(3,ptr b0 0),(8,ptr b1 0),(9,.int .i64 (-1)),(19,.slice a0 l1.length c0),(20,.int .i64 (l1.length:Int)),(21,.int .i64 0)]) (ps':=[.rd a0 c0 1 l1.length (l1.map (eI .i64)),.obj b0 (.cells [.int .i64 x1,.slice a2 l2.length c1] .own),.rd a2 c1 2 l2.length (l2.map (eP (eI .i64) (eI .i64))),.obj b1 (.cells [.slice a4 l4.length l4.length] .own),.sl a4 1 l4.length (l4.map (eI .i64))]) (sc rfl (sc rfl (sc rfl (sc rfl (sc rfl (sc rfl (sc rfl (sc rfl sn)))))))) (ah.ae [3,2,4,0,1] rfl rfl) ?_;refine Wk.loop (σ:=List (Int) × Nat × Int × Int) (ρ:=(Unit) ⊕ (Unit)) (γ:=Option Addr) (δ:=fun _=>Unit) _ (fun(s:List (Int) × Nat × Int × Int) (g:Option Addr)=>match s,g with | (l3,n0,v2,v0),a1=>⟨.normal,[(1,.int .u64 ((x3:Nat):Int)),(2,.slice a0 l1.length c0),(3,ptr b0 0),(8,ptr b1 0),(9,.int .i64 v2),(19,.slice a0 l1.length c0),(20,.int .i64 (l1.length:Int)),(21,.int .i64 v0)],[.rd a0 c0 1 l1.length (l1.map (eI .i64)),.obj b0 (.cells [.int .i64 x1,.slice a2 l2.length c1] .own),.rd a2 c1 2 l2.length (l2.map (eP (eI .i64) (eI .i64))),.obj b1 (.cells [.slice a1 n0 n0] .own),.sl a1 1 n0 (l3.map (eI .i64))]⟩) (fun(r:(Unit) ⊕ (Unit)) (g:Unit)=>match r,g with | .inl _,_=>⟨.ret,[(6,.int .i64 300)],[]⟩ | .inr _,_=>⟨(.exit 0),[(1,.int .u64 ((x3:Nat):Int)),(2,.slice a0 l1.length c0)],[.rd a0 c0 1 l1.length (l1.map (eI .i64))]⟩) ?_ (fun _ _=>rfl) (fun r d=>by rcases r with _|_<;>(intro e; cases e)) _ _ _ h7 a4
   clear hF h7;rintro⟨l3,n0,v2,v0⟩ a1 r hF;unfold kZ at hF;refine Wk.seq<|Wk.region<|Wo.od (al rfl rfl (aK _ _ _)) rfl<|Wo.nil<|At.tn<|Wk.seq ?_;rcases ai hF with⟨h8,hF⟩|⟨h8,hF⟩
   ·refine Wk.aA rfl h8<|Wk.skip<|At.tn<|Wk.seq<|Wk.block<|Wk.seq<|Wk.region ?_;obtain⟨h3,hF⟩:=aj hF;replace h3:=an h3;refine Wo.dJ (k:=0) rfl (bG h3) ?_;rintro b2 o1 rfl;refine Wo.og (cG Dg rfl rfl h3) gn rfl ?_;obtain⟨x6,h17,hF⟩:=J hF;refine Wo.od (cS (k:=0) iK rfl rfl (aS h17) rfl rfl) rfl<|Wo.od (ak rfl) rfl<|Wo.nil<|At.tn<|Wk.seq<|Wk.seq ?_;obtain⟨r1,h18,hF⟩:=J hF;refine Wk.cut (G:=(fun(r:List (Int) × Nat × Bool) (g:Option Addr)=>match r,g with | (l6,n1,v3),a3=>⟨.normal,[(1,.int .u64 ((x3:Nat):Int)),(2,.slice (some ⟨b2,o1,none⟩) l1.length c0),(3,ptr b0 0),(8,ptr b1 0),(11,.int .i64 x6),(19,.slice (some ⟨b2,o1,none⟩) l1.length c0),(20,.int .i64 (l1.length:Int)),(21,.int .i64 v0),(54,.bool v3)],[.ro b2 o1 1 l1.length (l1.map (eI .i64)),.rd (some ⟨b2,o1,none⟩) c0 1 l1.length (l1.map (eI .i64)),.obj b0 (.cells [.int .i64 x1,.slice a2 l2.length c1] .own),.rd a2 c1 2 l2.length (l2.map (eP (eI .i64) (eI .i64))),.obj b1 (.cells [.slice a3 n1 n1] .own),.sl a3 1 n1 (l6.map (eI .i64))]⟩) r1) ?_ ?_
    ·clear hF;revert r1;intro r hF;refine Wk.draw (by kernel_rfl)<|Wo.od (aa rfl) rfl<|Wo.od (aa rfl) rfl<|Wo.od (al rfl rfl (tu _ _ _)) rfl<|Wo.od (aa rfl) rfl ?_
     rcases ai hF with⟨h2,hF⟩|⟨h2,hF⟩
     ·refine Wo.s (gg rfl rfl (cO h2)) rfl<|Wo.s (gg rfl rfl (cO h2)) rfl<|Wo.s (gg rfl rfl (cO h2)) rfl<|Wo.s (gg rfl rfl (cO h2)) rfl<|Wo.s (gg rfl rfl (cO h2)) rfl<|Wo.od (cj rfl h2 rfl) rfl<|Wo.od (aa rfl) rfl<|Wo.s (gg rfl rfl rfl) rfl<|Wo.s (gg rfl rfl rfl) rfl<|Wo.s (gg rfl rfl rfl) rfl ?_;refine Wo.s (gg rfl rfl rfl) rfl<|Wo.s (gg rfl rfl rfl) rfl<|Wo.s (gg rfl rfl rfl) rfl<|Wo.s (gg rfl rfl rfl) rfl<|Wo.s (gg rfl rfl rfl) rfl<|Wo.od (sG rfl rfl) rfl<|Wo.od (aa rfl) rfl<|Wo.s (gg rfl rfl rfl) rfl<|Wo.s (gg rfl rfl rfl) rfl<|Wo.s (gg rfl rfl rfl) rfl ?_;refine Wo.s (gg rfl rfl rfl) rfl<|Wo.s (gg rfl rfl rfl) rfl<|Wo.s (gg rfl rfl rfl) rfl<|Wo.s (gg rfl rfl rfl) rfl<|Wo.s (gg rfl rfl rfl) rfl<|Wo.od (sG rfl rfl) rfl<|Wo.nil ?_;cases hF;exact At.en a1 rfl (sc rfl (sc rfl (sc rfl (sc rfl (sc rfl (sc rfl (sc rfl (sc rfl (sc rfl sn))))))))) (ah.ae [0,1,2,3,4,5] rfl rfl)
     ·refine Wo.og (aa rfl) (gg rfl rfl (cC h2)) rfl<|Wo.og (bH (r:=ptr b0 1) rfl (gz _ _)) (gg rfl rfl (cC h2)) rfl<|Wo.og (au (k:=2) qq rfl rfl rfl) (gg rfl rfl (cC h2)) rfl<|Wo.og (cw (k:=3) GZ rfl rfl (.inl rfl)) (gg rfl rfl (cC h2)) rfl<|Wo.og (al rfl rfl (dN _ _ _)) (gg rfl rfl (cC h2)) rfl<|Wo.od (bX rfl h2 rfl) rfl<|Wo.od (aa rfl) rfl ?_;rcases ai hF with⟨h0,hF⟩|⟨h0,hF⟩
      ·refine Wo.s (gg rfl rfl (cO h0)) rfl<|Wo.s (gg rfl rfl (cO h0)) rfl<|Wo.s (gg rfl rfl (cO h0)) rfl<|Wo.s (gg rfl rfl (cO h0)) rfl<|Wo.s (gg rfl rfl (cO h0)) rfl<|Wo.s (gg rfl rfl (cO h0)) rfl<|Wo.s (gg rfl rfl (cO h0)) rfl<|Wo.s (gg rfl rfl (cO h0)) rfl<|Wo.od (cj rfl h0 rfl) rfl<|Wo.od (aa rfl) rfl ?_;refine Wo.s (gg rfl rfl rfl) rfl<|Wo.s (gg rfl rfl rfl) rfl<|Wo.s (gg rfl rfl rfl) rfl<|Wo.s (gg rfl rfl rfl) rfl<|Wo.s (gg rfl rfl rfl) rfl<|Wo.s (gg rfl rfl rfl) rfl<|Wo.s (gg rfl rfl rfl) rfl<|Wo.s (gg rfl rfl rfl) rfl<|Wo.od (sG rfl rfl) rfl<|Wo.nil ?_;cases hF;exact At.en a1 rfl (sc rfl (sc rfl (sc rfl (sc rfl (sc rfl (sc rfl (sc rfl (sc rfl (sc rfl sn))))))))) (ah.ae [0,1,2,3,4,5] rfl rfl)
      ·refine Wo.og (aa rfl) (gg rfl rfl (cC h0)) rfl<|Wo.og (bH (r:=ptr b0 1) rfl (gz _ _)) (gg rfl rfl (cC h0)) rfl<|Wo.og (au (k:=2) qq rfl rfl rfl) (gg rfl rfl (cC h0)) rfl<|Wo.og (aa rfl) (gg rfl rfl (cC h0)) rfl ?_;obtain⟨h4,hF⟩:=aj hF;replace h4:=an h4;refine Wo.dJ (k:=3) rfl (bG h4) ?_;rintro b3 o2 rfl;refine Wo.og (cG Ez rfl rfl h4) (gg rfl rfl (cC h0)) rfl ?_;obtain⟨⟨x4,x5⟩,h12,hF⟩:=J hF;refine Wo.og (cS (k:=0) fA rfl rfl (aS h12) rfl rfl) (gg rfl rfl (cC h0)) rfl ?_;obtain⟨r6,h19,hF⟩:=J hF;refine Wo.x (cc rfl rfl (fun m hm=>qh n x3 x4 x5  _ h19 m) fun _=>rfl) (gg rfl rfl (cC h0)) rfl ?_;rintro⟨⟩;refine Wo.og (lb rfl rfl) (gg rfl rfl (cC h0)) rfl<|Wo.od (bX rfl h0 rfl) rfl<|Wo.od (aa rfl) rfl ?_;rcases ai hF with⟨h1,hF⟩|⟨h1,hF⟩
       ·refine Wo.s (gg rfl rfl (cO h1)) rfl<|Wo.s (gg rfl rfl (cO h1)) rfl<|Wo.s (gg rfl rfl (cO h1)) rfl<|Wo.s (gg rfl rfl (cO h1)) rfl<|Wo.s (gg rfl rfl (cO h1)) rfl<|Wo.s (gg rfl rfl (cO h1)) rfl<|Wo.s (gg rfl rfl (cO h1)) rfl<|Wo.s (gg rfl rfl (cO h1)) rfl<|Wo.od (cj rfl h1 rfl) rfl<|Wo.nil ?_;cases hF;exact At.en a1 rfl (sc rfl (sc rfl (sc rfl (sc rfl (sc rfl (sc rfl (sc rfl (sc rfl (sc rfl sn))))))))) (ah.ae [1,2,3,4,5,6] rfl rfl)
       ·refine Wo.og (au (k:=5) AB rfl rfl rfl) (gg rfl rfl (cC h1)) rfl<|Wo.og (bH (r:=ptr b0 1) rfl (gz _ _)) (gg rfl rfl (cC h1)) rfl<|Wo.og (au (k:=3) qq rfl rfl rfl) (gg rfl rfl (cC h1)) rfl<|Wo.og (aa rfl) (gg rfl rfl (cC h1)) rfl ?_;obtain⟨h9,hF⟩:=aj hF;replace h9:=an h9;refine Wo.og (cG Ez rfl rfl h9) (gg rfl rfl (cC h1)) rfl<|Wo.og (cS (k:=0) fA rfl rfl (aS h12) rfl rfl) (gg rfl rfl (cC h1)) rfl ?_;obtain⟨r0,h20,hF⟩:=J hF;refine Wo.x (e6 (α:=Unit) (V:=fun g=>(fun(r:Bool × List (Int)) (g:Unit)=>match r,g with | (v1,l5),_=>(.bool v1:Value)) r0 g) (N:=fun g=>(fun(r:Bool × List (Int)) (g:Unit)=>match r,g with | (v1,l5),_=>([.ro b2 o1 1 l1.length (l1.map (eI .i64)),.rd (some ⟨b2,o1,none⟩) c0 1 l1.length (l1.map (eI .i64)),.obj b0 (.cells [.int .i64 x1,.slice (some ⟨b3,o2,none⟩) l2.length c1] .own),.ro b3 o2 2 l2.length (l2.map (eP (eI .i64) (eI .i64))),.rd (some ⟨b3,o2,none⟩) c1 2 l2.length (l2.map (eP (eI .i64) (eI .i64))),.obj b1 (.cells [.slice a1 l3.length l3.length] .own),.sl a1 1 l3.length (l5.map (eI .i64))]:List Pc)) r0 g) rfl rfl (fun m hm=>?_)) (gg rfl rfl (cC h1)) rfl ?_
        ·clear hF;revert r0;intro r hF;refine ax (N:=29) (rs:=[.tmp 4]) rfl Tryd.func50 rfl rfl rfl hm<|Wk.seq<|Wk.region<|Wo.x (bY rfl) gn rfl fun b4=>?_;refine Wo.x (bY rfl) gn rfl fun b5=>?_;refine Wo.od (ak rfl) rfl<|Wo.nil<|At.tn<|Wk.seq<|Wk.du (prs:=[(4,6),(4,8)]) (by kernel_rfl)<|Wn.od (bH (r:=ptr b4 0) rfl (lB _ _)) rfl<|Wn.od (au (k:=1) yl rfl rfl rfl) rfl<|Wn.od (jE (r:=ptr b5 0) rfl rfl (jV mM (i:=0) (by decide))) rfl<|Wn.od (au (k:=0) iK rfl rfl rfl) rfl ?_
         obtain⟨r3,h21,hF⟩:=J hF;have hFx:=hF;refine Wn.len (k:=8) (xs:=(l3:List (Int))) rfl ?_;rintro rfl;replace hF:=hFx;clear hFx;refine Wn.c (fb rfl rfl (fun m hm=>tF n l3 x4 a1 l3.length _ h21 m (hm.rd (k:=8) rfl (.sl _ _ _ _))) fun _=>rfl) gn rfl ?_;rintro⟨⟩;refine Wn.od (bH (r:=ptr b4 0) rfl (lB _ _)) rfl<|Wn.od (au (k:=1) yl rfl rfl rfl) rfl<|Wn.od (jE (r:=ptr b5 1) rfl rfl (jV mM (i:=1) (by decide))) rfl<|Wn.od (au (k:=0) iK rfl rfl rfl) rfl ?_
         obtain⟨r4,h22,hF⟩:=J hF;refine Wn.c (fb rfl rfl (fun m hm=>tF n l3 x5 a1 l3.length _ h22 m (hm.rd (k:=8) rfl (.sl _ _ _ _))) fun _=>rfl) gn rfl ?_;rintro⟨⟩;refine Wn.od (ak rfl) rfl<|Wn.od (ak rfl) rfl<|Wn.nil (fun m hm=>bM.all rfl)<|At.tn<|Wk.seq<|Wk.region<|Wo.od (bH (r:=ptr b4 0) rfl (lB _ _)) rfl<|Wo.od (au (k:=1) yl rfl rfl rfl) rfl<|Wo.od (aa rfl) rfl<|Wo.od (aa rfl) rfl<|Wo.od (Gn rfl rfl (G8 _ _)) rfl<|Wo.od (aa rfl) rfl<|Wo.od (aa rfl) rfl ?_;refine Wo.od (Gn rfl rfl (GO _ _)) rfl ?_;obtain⟨h5,hF⟩:=aj hF;replace h5:=an h5;refine Wo.open (k:=8) rfl (bG h5) ?_;rintro b6 t0 rfl h25;refine Wo.og (bA zh rfl rfl h5) gn rfl ?_;obtain⟨x7,h23,hF⟩:=J hF;refine Wo.o0 (hY (k:=8) (x1:=x7) (x2:=mi r3 r4) iK rfl rfl rfl h23 rfl)<|Wo.nil<|At.tn<|Wk.seq<|Wk.region<|Wo.od (aa rfl) rfl<|Wo.od (aa rfl) rfl<|Wo.od (al rfl rfl (dt _ _)) rfl<|Wo.od (ak rfl) rfl<|Wo.nil<|At.tn<|Wk.ret ?_;cases hF;exact At.ret (.tmp rfl .nil) fun m' hm=>⟨(),rfl,(ah.trans (ah.close (k:=8) rfl) (ah.ae [3,4,5,2,6,7,8] rfl rfl)) m' hm⟩
        ·clear h20;obtain⟨v1,l5⟩:=r0;rintro⟨⟩;refine Wo.og (lb rfl rfl) (gg rfl rfl (cC h1)) rfl<|Wo.od (bX rfl h1 rfl) rfl<|Wo.nil ?_;cases hF;exact At.en a1 rfl (sc rfl (sc rfl (sc rfl (sc rfl (sc rfl (sc rfl (sc rfl (sc rfl (sc rfl sn))))))))) (ah.ae [0,1,2,4,5,6] rfl rfl)
    ·clear h18;obtain⟨l6,n1,v3⟩:=r1;rintro a3;refine At.tn ?_;rcases ai hF with⟨h10,hF⟩|⟨h10,hF⟩
     ·refine Wk.aA rfl h10<|Wk.seq<|Wk.region<|Wo.od (ak rfl) rfl<|Wo.nil<|At.tn<|Wk.ret<|At.tr<|At.br<|At.tr ?_;cases hF;exact At.en () rfl (sc rfl sn) (ah.ae [] rfl rfl)
     ·refine Wk.az rfl h10<|Wk.skip<|At.tn<|Wk.region<|Wo.od (aa rfl) rfl<|Wo.od (ak rfl) rfl<|Wo.nil<|At.bn<|At.tn<|Wk.region<|Wo.od (al rfl rfl (aH _ _ _)) rfl<|Wo.od (aa rfl) rfl<|Wo.nil ?_;cases hF;exact At.en a3 rfl (sc rfl (sc rfl (sc rfl (sc rfl (sc rfl (sc rfl (sc rfl (sc rfl sn)))))))) (ah.ae [1,2,3,4,5] rfl rfl)
   ·refine Wk.az rfl h8<|Wk.exit<|At.te ?_;cases hF;exact At.en () rfl (sc rfl (sc rfl sn)) (ah.ae [0] rfl rfl)
  ·clear h7;rcases r2 with _|_
   ·rintro⟨⟩;refine At.br<|At.tr ?_;cases hF;exact At.ret (.tmp rfl .nil) fun m' hm=>⟨(),rfl,(ah.ae [] rfl rfl) m' hm⟩
   ·rintro⟨⟩;refine At.be<|At.tn<|Wk.seq<|Wk.seq<|Wk.region<|Wo.od (aa rfl) rfl<|Wo.od (cw (k:=0) An rfl rfl (.inl rfl)) rfl<|Wo.od (aa rfl) rfl ?_;obtain⟨r7,h24,hF⟩:=J hF;refine Wo.x (cc rfl rfl (fun m hm=>HD n x3  _ h24 m) fun _=>rfl) gn rfl ?_;rintro⟨⟩;refine Wo.od (al rfl rfl (cX _ _ _)) rfl<|Wo.od (al rfl rfl (dt _ _)) rfl<|Wo.nil<|At.tn ?_;rcases ai hF with⟨h11,hF⟩|⟨h11,hF⟩
    ·refine Wk.aA rfl h11<|Wk.seq<|Wk.region<|Wo.od (ak rfl) rfl<|Wo.nil<|At.tn<|Wk.ret<|At.tr ?_;cases hF;exact At.ret (.tmp rfl .nil) fun m' hm=>⟨(),rfl,(ah.ae [] rfl rfl) m' hm⟩
    ·refine Wk.az rfl h11<|Wk.skip<|At.tn<|Wk.seq<|Wk.region<|Wo.od (ak rfl) rfl<|Wo.nil<|At.tn<|Wk.ret ?_;cases hF;exact At.ret (.tmp rfl .nil) fun m' hm=>⟨(),rfl,(ah.ae [] rfl rfl) m' hm⟩
theorem IM (n:Nat) (l1:List (Int)) (x5:Int) (a2:Option Addr) (c3:Nat) (r:Int) (hF:KV n l1 x5=some r) (m:AMem) (h4:Rd m a2 c3 1 l1.length (l1.map (eI .i64))) :
  aF aD 84 [.slice a2 l1.length c3,.int .i64 x5] m (fun v m'=>∃x:Unit,v = .int .i64 r∧Hp m m' []):=by
 unfold KV at hF;refine ax (m0:=m) (ps:=[.rd a2 c3 1 l1.length (l1.map (eI .i64))]) (N:=19) (rs:=[.tmp 4]) rfl Tryd.func84 rfl rfl rfl ((Hp.start m).dz rfl h4)<|Wk.seq<|Wk.region<|Wo.od (ak rfl) rfl<|Wo.nil<|At.tn<|Wk.seq<|Wk.seq<|Wk.region<|Wo.od (aa rfl) rfl<|Wo.od (cw (k:=0) An rfl rfl (.inl rfl)) rfl<|Wo.od (aa rfl) rfl<|Wo.nil<|At.tn<|Wk.block ?_;obtain⟨r25,h24,hF⟩:=J hF;refine Wk.cut (G:=(fun(r:(Int) ⊕ (Unit)) (g:Unit)=>match r,g with | .inl v16,_=>⟨.ret,[(4,.int .i64 v16)],[]⟩ | .inr _,_=>⟨(.exit 0),[],[]⟩) r25) ?_ ?_
 ·refine Wk.dG (fs':=[(0,.slice a2 l1.length c3),(1,.int .i64 x5),(7,.int .i64 (l1.length:Int)),(8,.int .i64 0)]) (ps':=[.rd a2 c3 1 l1.length (l1.map (eI .i64))]) (sc rfl (sc rfl (sc rfl (sc rfl sn)))) (ah.ae [0] rfl rfl) ?_;refine Wk.loop (σ:=Int) (ρ:=(Int) ⊕ (Unit)) (γ:=Unit) (δ:=fun _=>Unit) _ (fun(s:Int) (g:Unit)=>match s,g with|v7,_=>⟨.normal,[(0,.slice a2 l1.length c3),(1,.int .i64 x5),(7,.int .i64 (l1.length:Int)),(8,.int .i64 v7)],[.rd a2 c3 1 l1.length (l1.map (eI .i64))]⟩) (fun(r:(Int) ⊕ (Unit)) (g:Unit)=>match r,g with | .inl v16,_=>⟨.ret,[(4,.int .i64 v16)],[]⟩ | .inr _,_=>⟨(.exit 0),[],[]⟩) ?_ (fun _ _=>rfl) (fun r d=>by rcases r with _|_<;>(intro e; cases e)) _ _ _ h24 ()
  clear hF h24;rintro v7 ⟨⟩ r hF;unfold qB at hF;refine Wk.seq<|Wk.region<|Wo.od (al rfl rfl (aK _ _ _)) rfl<|Wo.nil<|At.tn<|Wk.seq ?_;rcases ai hF with⟨h17,hF⟩|⟨h17,hF⟩
  ·refine Wk.aA rfl h17<|Wk.skip<|At.tn<|Wk.seq<|Wk.block<|Wk.seq<|Wk.region<|Wo.od (aa rfl) rfl<|Wo.od (ak rfl) rfl<|Wo.nil<|At.tn<|Wk.seq<|Wk.region<|Wo.od (aa rfl) rfl<|Wo.od (aa rfl) rfl<|Wo.od (aa rfl) rfl ?_;obtain⟨h18,hF⟩:=aj hF;replace h18:=an h18;refine Wo.dJ (k:=0) rfl (bG h18) ?_;rintro b19 o20 rfl;refine Wo.og (cG Dg rfl rfl h18) gn rfl ?_;obtain⟨x21,h22,hF⟩:=J hF;refine Wo.od (cS (k:=0) iK rfl rfl (aS h22) rfl rfl) rfl<|Wo.od (al rfl rfl (bu _ _ _)) rfl<|Wo.nil<|At.tn ?_;rcases ai hF with⟨h23,hF⟩|⟨h23,hF⟩
   ·refine Wk.aA rfl h23<|Wk.seq<|Wk.region<|Wo.od (aa rfl) rfl<|Wo.od (ak rfl) rfl<|Wo.nil<|At.tn<|Wk.ret<|At.br<|At.tr ?_;cases hF;exact At.en () rfl (sc rfl sn) (ah.ae [] rfl rfl)
   ·refine Wk.az rfl h23<|Wk.skip<|At.bn<|At.tn<|Wk.region<|Wo.od (al rfl rfl (aH _ _ _)) rfl<|Wo.od (aa rfl) rfl<|Wo.nil ?_;cases hF;exact At.en () rfl (sc rfl (sc rfl (sc rfl (sc rfl sn)))) (ah.ae [1] rfl rfl)
  ·refine Wk.az rfl h17<|Wk.exit<|At.te ?_;cases hF;exact At.en () rfl sn (ah.ae [] rfl rfl)
 ·clear h24;rcases r25 with v16|_
  ·rintro⟨⟩;refine At.br<|At.tr ?_;have hr:=Option.some.inj hF;subst r;exact At.ret (.tmp rfl .nil) fun m' hm=>⟨(),rfl,(ah.ae [] rfl rfl) m' hm⟩
  ·rintro⟨⟩;refine At.be<|At.tn<|Wk.seq<|Wk.region<|Wo.od (ak rfl) rfl<|Wo.nil<|At.tn<|Wk.ret ?_;cases hF;exact At.ret (.tmp rfl .nil) fun m' hm=>⟨(),rfl,(ah.ae [] rfl rfl) m' hm⟩
theorem Ib (n:Nat) (l1:List (Int)) (x5:Int) (a2:Option Addr) (c3:Nat) (r:Bool) (hF:Jz n l1 x5=some r) (m:AMem) (h4:Rd m a2 c3 1 l1.length (l1.map (eI .i64))) :
  aF aD 55 [.slice a2 l1.length c3,.int .i64 x5] m (fun v m'=>∃x:Unit,v = .bool r∧Hp m m' []):=by
 unfold Jz at hF;refine ax (m0:=m) (ps:=[.rd a2 c3 1 l1.length (l1.map (eI .i64))]) (N:=9) (rs:=[.tmp 4]) rfl Tryd.func55 rfl rfl rfl ((Hp.start m).dz rfl h4)<|Wk.seq<|Wk.region<|Wo.od (ak rfl) rfl<|Wo.nil<|At.tn<|Wk.seq<|Wk.region<|Wo.od (aa rfl) rfl<|Wo.od (aa rfl) rfl ?_;obtain⟨r7,h6,hF⟩:=J hF;refine Wo.x (cc rfl rfl (fun m hm=>IM n l1 x5 a2 c3 _ h6 m (hm.rd (k:=0) rfl (.rd _ _ _ _ _))) fun _=>rfl) gn rfl ?_;rintro⟨⟩;refine Wo.od (al rfl rfl (dN _ _ _)) rfl<|Wo.od (ak rfl) rfl<|Wo.nil<|At.tn<|Wk.ret ?_;cases hF;exact At.ret (.tmp rfl .nil) fun m' hm=>⟨(),rfl,(ah.ae [] rfl rfl) m' hm⟩
theorem IH (n:Nat) (x1:Int) (l1:List (Int × Int)) (x3:Nat) (l2:List (Int)) (a1:Option Addr) (c0:Nat) (a0:Option Addr) (c1:Nat) (r:Nat × Nat × Nat × Nat × Nat × Nat × Nat × Nat × Int) (hF:JY n x1 l1 x3 l2=some r) (m:AMem) (hG:Gl m) (h10:Rd m a1 c0 2 l1.length (l1.map (eP (eI .i64) (eI .i64)))) (h11:Rd m a0 c1 1 l2.length (l2.map (eI .i64))) :
  aF aD 17 [.agg #[.int .i64 x1,.slice a1 l1.length c0],.int .u64 ((x3:Nat):Int),.slice a0 l2.length c1] m (fun v m'=>∃x:Unit,v = .tuple #[.agg #[.int .u64 ((r.1:Nat):Int),.int .u64 ((r.2.1:Nat):Int),.int .u64 ((r.2.2.1:Nat):Int),.int .u64 ((r.2.2.2.1:Nat):Int),.int .u64 ((r.2.2.2.2.1:Nat):Int),.int .u64 ((r.2.2.2.2.2.1:Nat):Int),.int .u64 ((r.2.2.2.2.2.2.1:Nat):Int),.int .u64 ((r.2.2.2.2.2.2.2.1:Nat):Int)],.int .i64 r.2.2.2.2.2.2.2.2]∧Hp m m' []):=by
 unfold JY at hF;refine ax (m0:=m) (ps:=[.rd a0 c1 1 l2.length (l2.map (eI .i64)),.rd a1 c0 2 l1.length (l1.map (eP (eI .i64) (eI .i64)))]) (N:=40) (rs:=[.cell 6 41,.tmp 7]) rfl Tryd.func17 rfl rfl rfl (((Hp.start m).dz rfl h10).dz rfl h11)<|Wk.seq<|Wk.region<|Wo.x (bY rfl) gn rfl fun b1=>?_;refine Wo.x (bY rfl) gn rfl fun b2=>?_;refine Wo.x (bY rfl) gn rfl fun b3=>?_;refine Wo.x (bT By rfl) gn rfl fun b0=>?_;refine Wo.od (ak rfl) rfl<|Wo.nil<|At.tn<|Wk.seq<|Wk.seq<|Wk.region<|Wo.od (au (k:=3) e7 rfl rfl rfl) rfl<|Wo.od (au (k:=2) cu rfl rfl rfl) rfl<|Wo.od (au (k:=1) uO rfl rfl rfl) rfl ?_;obtain⟨r6,h12,hF⟩:=J hF;refine Wo.x (cc rfl rfl (fun m hm=>DO n x1 l1 x3 l2 a1 c0 a0 c1 _ h12 m (hm.rd (k:=5) rfl (.rd _ _ _ _ _)) (hm.rd (k:=4) rfl (.rd _ _ _ _ _))) fun _=>rfl) gn rfl ?_;rintro⟨⟩;refine Wo.od (ak rfl) rfl<|Wo.nil<|At.tn<|Wk.seq<|Wk.region<|Wo.od (aa rfl) rfl<|Wo.od (al rfl rfl (dt _ _)) rfl<|Wo.nil<|At.tn ?_;rcases ai hF with⟨h3,hF⟩|⟨h3,hF⟩
 ·refine Wk.aA rfl h3<|Wk.seq<|Wk.region<|Wo.od (jF rfl By rfl (jJ Cw rfl rfl rfl)) rfl<|Wo.od (aa rfl) rfl<|Wo.o0 (bC (k:=0) e9 rfl rfl rfl rfl rfl)<|Wo.od (ak rfl) rfl<|Wo.nil<|At.tn<|Wk.ret<|At.tr ?_;cases hF;exact At.ret (.cell (k:=0) e9 rfl rfl rfl (.tmp rfl .nil)) fun m' hm=>⟨(),rfl,(ah.ae [] rfl rfl) m' hm⟩
 ·refine Wk.az rfl h3<|Wk.skip<|At.tn<|Wk.seq<|Wk.region<|Wo.x (bT LA rfl) gn rfl fun b5=>?_;refine Wo.nil<|At.tn<|Wk.seq<|Wk.seq<|Wk.region<|Wo.od (au (k:=4) e7 rfl rfl rfl) rfl<|Wo.od (au (k:=3) cu rfl rfl rfl) rfl ?_;obtain⟨r3,h13,hF⟩:=J hF;refine Wo.x (e6 (α:=Nat × Nat) (V:=fun g=>(fun(r:Unit) (g:Nat × Nat)=>match r,g with|_,(b11,b4)=>(.func (.func 80) #[] #[ptr b11 0,ptr b4 0]:Value)) r3 g) (N:=fun g=>(fun(r:Unit) (g:Nat × Nat)=>match r,g with|_,(b11,b4)=>([.obj b11 (.cells [.int .i64 x1,.slice a1 l1.length c0] .own),.rd a1 c0 2 l1.length (l1.map (eP (eI .i64) (eI .i64))),.obj b4 (.cells [.int .u64 ((x3:Nat):Int)] .own),.obj b1 (.cells [.int .i64 x1,.slice a1 l1.length c0] .own),.obj b2 (.cells [.int .u64 ((x3:Nat):Int)] .own),.obj b3 (.cells [.slice a0 l2.length c1] .own),.rd a0 c1 1 l2.length (l2.map (eI .i64)),.obj b0 (.cells [.int .u64 ((0:Nat):Int),.int .u64 ((0:Nat):Int),.int .u64 ((0:Nat):Int),.int .u64 ((0:Nat):Int),.int .u64 ((0:Nat):Int),.int .u64 ((0:Nat):Int),.int .u64 ((0:Nat):Int),.int .u64 ((0:Nat):Int)] .own),.obj b5 (.cells [.slice none 0 0] .own)]:List Pc)) r3 g) rfl rfl (fun m hm=>?_)) gn rfl ?_
  ·clear hF;revert r3;intro r hF;refine ax (N:=6) (rs:=[.tmp 4]) rfl Tryd.func44 rfl rfl rfl hm<|Wk.seq<|Wk.region<|Wo.x (bY rfl) gn rfl fun b14=>?_;refine Wo.x (bY rfl) gn rfl fun b15=>?_;refine Wo.od (ak rfl) rfl<|Wo.nil<|At.tn<|Wk.seq<|Wk.region<|Wo.od (oC rfl rfl) rfl<|Wo.od (ak rfl) rfl<|Wo.nil<|At.tn<|Wk.ret ?_;cases hF;exact At.ret (.tmp rfl .nil) fun m' hm=>⟨(b14,b15),rfl,(ah.ae [1,8,0,6,5,4,7,3,2] rfl rfl) m' hm⟩
  ·clear h13;rintro⟨b11,b4⟩;refine Wo.nil<|At.tn<|Wk.block ?_;obtain⟨l3,h14,hF⟩:=J hF;refine Wk.range (N:=25) (rs:=[]) (γ:=Option Addr) (X:=fun g=>(fun(r:List (Int)) (g:Option Addr)=>(match r,g with|l3,a2=>⟨.ready,none,[.obj b1 (.cells [.int .i64 x1,.slice a1 l1.length c0] .own),.rd a1 c0 2 l1.length (l1.map (eP (eI .i64) (eI .i64))),.obj b2 (.cells [.int .u64 ((x3:Nat):Int)] .own),.obj b3 (.cells [.slice a0 l2.length c1] .own),.rd a0 c1 1 l2.length (l2.map (eI .i64)),.obj b0 (.cells [.int .u64 ((0:Nat):Int),.int .u64 ((0:Nat):Int),.int .u64 ((0:Nat):Int),.int .u64 ((0:Nat):Int),.int .u64 ((0:Nat):Int),.int .u64 ((0:Nat):Int),.int .u64 ((0:Nat):Int),.int .u64 ((0:Nat):Int)] .own),.obj b5 (.cells [.slice a2 l3.length l3.length] .own),.sl a2 1 l3.length (l3.map (eI .i64))]⟩:Rn)) l3 g) rfl rfl Tryd.func80 rfl rfl rfl ?_ (fun y=>by intro e; cases e) ?_
   ·clear hF;revert l3;intro r hF;intro t1 l5 r0 h15 h16;refine Wk.seq<|Wk.region<|Wo.od (bH (r:=ptr b11 1) rfl (gz _ _)) rfl<|Wo.od (au (k:=1) qq rfl rfl rfl) rfl<|Wo.od (cw (k:=2) GZ rfl rfl (.inl rfl)) rfl<|Wo.od (aa rfl) rfl<|Wo.nil<|At.tn<|Wk.block ?_;obtain⟨l4,h4,hF⟩:=J hF;refine Wk.cut (G:=(fun(r:List (Int)) (g:Option Addr)=>match r,g with|l4,a3=>⟨(.exit 0),[],[.obj l5 (r0 .ready none),.obj b1 (.cells [.int .i64 x1,.slice a1 l1.length c0] .own),.rd a1 c0 2 l1.length (l1.map (eP (eI .i64) (eI .i64))),.obj b2 (.cells [.int .u64 ((x3:Nat):Int)] .own),.obj b3 (.cells [.slice a0 l2.length c1] .own),.rd a0 c1 1 l2.length (l2.map (eI .i64)),.obj b0 (.cells [.int .u64 ((0:Nat):Int),.int .u64 ((0:Nat):Int),.int .u64 ((0:Nat):Int),.int .u64 ((0:Nat):Int),.int .u64 ((0:Nat):Int),.int .u64 ((0:Nat):Int),.int .u64 ((0:Nat):Int),.int .u64 ((0:Nat):Int)] .own),.obj b5 (.cells [.slice a3 l4.length l4.length] .own),.sl a3 1 l4.length (l4.map (eI .i64))]⟩) l4) ?_ ?_
    ·refine Wk.dG (fs':=[(0,.func (.yield l5) #[] #[]),(2,ptr b4 0),(7,.slice a1 l1.length c0),(8,.int .i64 (l1.length:Int)),(9,.int .i64 0)]) (ps':=[.obj l5 (r0 .ready none),.obj b4 (.cells [.int .u64 ((x3:Nat):Int)] .own),.rd a1 c0 2 l1.length (l1.map (eP (eI .i64) (eI .i64))),.obj b1 (.cells [.int .i64 x1,.slice a1 l1.length c0] .own),.obj b2 (.cells [.int .u64 ((x3:Nat):Int)] .own),.obj b3 (.cells [.slice a0 l2.length c1] .own),.rd a0 c1 1 l2.length (l2.map (eI .i64)),.obj b0 (.cells [.int .u64 ((0:Nat):Int),.int .u64 ((0:Nat):Int),.int .u64 ((0:Nat):Int),.int .u64 ((0:Nat):Int),.int .u64 ((0:Nat):Int),.int .u64 ((0:Nat):Int),.int .u64 ((0:Nat):Int),.int .u64 ((0:Nat):Int)] .own),.obj b5 (.cells [.slice none ([]:List (Int)).length ([]:List (Int)).length] .own),.sl none 1 ([]:List (Int)).length (([]:List (Int)).map (eI .i64))]) (sc rfl (sc rfl (sc rfl (sc rfl (sc rfl sn))))) (ah.trans (ah.nil 1 rfl) (ah.ae [1,4,3,5,6,7,8,9,10,0] rfl rfl)) ?_;refine Wk.loop (σ:=Int × List (Int)) (ρ:=List (Int)) (γ:=Option Addr) (δ:=fun _=>Option Addr) _ (fun(s:Int × List (Int)) (g:Option Addr)=>match s,g with | (v0,l6),a4=>⟨.normal,[(0,.func (.yield l5) #[] #[]),(2,ptr b4 0),(7,.slice a1 l1.length c0),(8,.int .i64 (l1.length:Int)),(9,.int .i64 v0)],[.obj l5 (r0 .ready none),.obj b4 (.cells [.int .u64 ((x3:Nat):Int)] .own),.rd a1 c0 2 l1.length (l1.map (eP (eI .i64) (eI .i64))),.obj b1 (.cells [.int .i64 x1,.slice a1 l1.length c0] .own),.obj b2 (.cells [.int .u64 ((x3:Nat):Int)] .own),.obj b3 (.cells [.slice a0 l2.length c1] .own),.rd a0 c1 1 l2.length (l2.map (eI .i64)),.obj b0 (.cells [.int .u64 ((0:Nat):Int),.int .u64 ((0:Nat):Int),.int .u64 ((0:Nat):Int),.int .u64 ((0:Nat):Int),.int .u64 ((0:Nat):Int),.int .u64 ((0:Nat):Int),.int .u64 ((0:Nat):Int),.int .u64 ((0:Nat):Int)] .own),.obj b5 (.cells [.slice a4 l6.length l6.length] .own),.sl a4 1 l6.length (l6.map (eI .i64))]⟩) (fun(r:List (Int)) (g:Option Addr)=>match r,g with|l4,a3=>⟨(.exit 0),[],[.obj l5 (r0 .ready none),.obj b1 (.cells [.int .i64 x1,.slice a1 l1.length c0] .own),.rd a1 c0 2 l1.length (l1.map (eP (eI .i64) (eI .i64))),.obj b2 (.cells [.int .u64 ((x3:Nat):Int)] .own),.obj b3 (.cells [.slice a0 l2.length c1] .own),.rd a0 c1 1 l2.length (l2.map (eI .i64)),.obj b0 (.cells [.int .u64 ((0:Nat):Int),.int .u64 ((0:Nat):Int),.int .u64 ((0:Nat):Int),.int .u64 ((0:Nat):Int),.int .u64 ((0:Nat):Int),.int .u64 ((0:Nat):Int),.int .u64 ((0:Nat):Int),.int .u64 ((0:Nat):Int)] .own),.obj b5 (.cells [.slice a3 l4.length l4.length] .own),.sl a3 1 l4.length (l4.map (eI .i64))]⟩) ?_ (fun _ _=>rfl) (fun r d=>by intro e; cases e) _ _ _ h4 none
     clear hF h4;rintro⟨v0,l6⟩ a4 r hF;unfold rT at hF;refine Wk.seq<|Wk.region<|Wo.od (al rfl rfl (aK _ _ _)) rfl<|Wo.nil<|At.tn<|Wk.seq ?_;rcases ai hF with⟨h5,hF⟩|⟨h5,hF⟩
     ·refine Wk.aA rfl h5<|Wk.skip<|At.tn<|Wk.seq<|Wk.block<|Wk.seq<|Wk.region<|Wo.od (aa rfl) rfl ?_;obtain⟨h1,hF⟩:=aj hF;replace h1:=an h1;refine Wo.dJ (k:=2) rfl (bG h1) ?_;rintro b6 o1 rfl;refine Wo.og (cG Ez rfl rfl h1) gn rfl ?_;obtain⟨⟨x5,x6⟩,h17,hF⟩:=J hF;refine Wo.od (cS (k:=0) fA rfl rfl (aS h17) rfl rfl) rfl<|Wo.x (bT B0 rfl) gn rfl fun b17=>?_;refine Wo.od (ak rfl) rfl<|Wo.o0 (bC (k:=0) fA rfl rfl rfl rfl rfl)<|Wo.nil<|At.tn<|Wk.seq ?_;obtain⟨l9,h18,hF⟩:=J hF;refine Wk.cut (G:=(fun(r:List (Int)) (g:Option Addr)=>match r,g with|l9,a9=>⟨.normal,[(0,.func (.yield l5) #[] #[]),(2,ptr b4 0),(7,.slice (some ⟨b6,o1,none⟩) l1.length c0),(8,.int .i64 (l1.length:Int)),(9,.int .i64 v0),(23,.bool false)],[.obj l5 (r0 .ready none),.obj b4 (.cells [.int .u64 ((x3:Nat):Int)] .own),.ro b6 o1 2 l1.length (l1.map (eP (eI .i64) (eI .i64))),.rd (some ⟨b6,o1,none⟩) c0 2 l1.length (l1.map (eP (eI .i64) (eI .i64))),.obj b1 (.cells [.int .i64 x1,.slice (some ⟨b6,o1,none⟩) l1.length c0] .own),.obj b2 (.cells [.int .u64 ((x3:Nat):Int)] .own),.obj b3 (.cells [.slice a0 l2.length c1] .own),.rd a0 c1 1 l2.length (l2.map (eI .i64)),.obj b0 (.cells [.int .u64 ((0:Nat):Int),.int .u64 ((0:Nat):Int),.int .u64 ((0:Nat):Int),.int .u64 ((0:Nat):Int),.int .u64 ((0:Nat):Int),.int .u64 ((0:Nat):Int),.int .u64 ((0:Nat):Int),.int .u64 ((0:Nat):Int)] .own),.obj b5 (.cells [.slice a9 l9.length l9.length] .own),.sl a9 1 l9.length (l9.map (eI .i64))]⟩) l9) ?_ ?_
      ·clear hF;revert l9;intro r hF;refine Wk.region<|Wo.od (au (k:=3) cu rfl rfl rfl) rfl<|Wo.od (au (k:=0) fA rfl rfl rfl) rfl ?_;obtain⟨r7,h19,hF⟩:=J hF;refine Wo.x (cc rfl rfl (fun m hm=>qh n x3 x5 x6  _ h19 m) fun _=>rfl) gn rfl ?_;rintro⟨⟩;refine Wo.od (aa rfl) rfl ?_;rcases ai hF with⟨h0,hF⟩|⟨h0,hF⟩
       ·refine Wo.og (aa rfl) (gg rfl rfl (bK h0)) rfl<|Wo.og (aa rfl) (gg rfl rfl (bK h0)) rfl<|Wo.og (au (k:=0) fA rfl rfl rfl) (gg rfl rfl (bK h0)) rfl ?_;obtain⟨l10,h9,hF⟩:=J hF;refine Wo.x (Gw (k:=2) (k1:=0) (γA:=Unit) (GA:=(fun g:Unit=>(match g with|_=>⟨.normal,[(9,ptr b5 0),(10,.int .i64 v0)],[.obj l5 (r0 .ready none),.obj b5 (.cells [.slice a4 l6.length l6.length] .own),.sl a4 1 l6.length (l6.map (eI .i64)),.obj b1 (.cells [.int .i64 x1,.slice (some ⟨b6,o1,none⟩) l1.length c0] .own),.ro b6 o1 2 l1.length (l1.map (eP (eI .i64) (eI .i64))),.rd (some ⟨b6,o1,none⟩) c0 2 l1.length (l1.map (eP (eI .i64) (eI .i64))),.obj b2 (.cells [.int .u64 ((x3:Nat):Int)] .own),.obj b3 (.cells [.slice a0 l2.length c1] .own),.rd a0 c1 1 l2.length (l2.map (eI .i64)),.obj b0 (.cells [.int .u64 ((0:Nat):Int),.int .u64 ((0:Nat):Int),.int .u64 ((0:Nat):Int),.int .u64 ((0:Nat):Int),.int .u64 ((0:Nat):Int),.int .u64 ((0:Nat):Int),.int .u64 ((0:Nat):Int),.int .u64 ((0:Nat):Int)] .own),.obj b4 (.cells [.int .u64 ((x3:Nat):Int)] .own)]⟩:En))) (γ:=Option Addr) (G:=fun g=>(fun(r:List (Int)) (g:Option Addr)=>(match r,g with|l10,a10=>⟨.normal,[],[.obj l5 (r0 .busy none),.obj b1 (.cells [.int .i64 x1,.slice (some ⟨b6,o1,none⟩) l1.length c0] .own),.ro b6 o1 2 l1.length (l1.map (eP (eI .i64) (eI .i64))),.rd (some ⟨b6,o1,none⟩) c0 2 l1.length (l1.map (eP (eI .i64) (eI .i64))),.obj b2 (.cells [.int .u64 ((x3:Nat):Int)] .own),.obj b3 (.cells [.slice a0 l2.length c1] .own),.rd a0 c1 1 l2.length (l2.map (eI .i64)),.obj b0 (.cells [.int .u64 ((0:Nat):Int),.int .u64 ((0:Nat):Int),.int .u64 ((0:Nat):Int),.int .u64 ((0:Nat):Int),.int .u64 ((0:Nat):Int),.int .u64 ((0:Nat):Int),.int .u64 ((0:Nat):Int),.int .u64 ((0:Nat):Int)] .own),.obj b5 (.cells [.slice a10 l10.length l10.length] .own),.sl a10 1 l10.length (l10.map (eI .i64)),.obj b4 (.cells [.int .u64 ((x3:Nat):Int)] .own)]⟩:En)) l10 g) rfl rfl rfl h16 h15 rfl ?_ (fun _=>rfl) (fun _=>rfl) ?_ (fun y=>rfl)) (gg rfl rfl (bK h0)) rfl ?_
        ·clear hF h9;refine Wk.region<|Wo.od (ak rfl) rfl<|Wo.nil ?_;exact At.en () rfl (sc rfl (sc rfl sn)) (ah.ae [2,10,11,5,1,4,6,7,8,9,3] rfl rfl)
        ·clear hF;revert l10;intro r hF;rintro⟨⟩;refine Wk.block<|Wk.region<|Wo.od (au (k:=1) uO rfl rfl rfl) rfl<|Wo.od (aa rfl) rfl<|Wo.x (AI (es:=([v0]:List (Int)).map (eI .i64)) Dg rfl (Aw Dg z3 rfl rfl) rfl rfl) gn rfl fun b18=>?_;obtain⟨h20,hF⟩:=aj hF;refine Wo.x (CL (k:=3) (k2:=0) (xs:=(l6:List (Int))) (ys:=([v0]:List (Int))) (Jh .i64) Dg ⟨_,An⟩ rfl rfl rfl (.arr _ _ _ _ _) h20) gn rfl fun a12=>?_;refine Wo.o0 (bC (k:=2) uO rfl rfl rfl rfl rfl)<|Wo.nil<|At.bn ?_;cases hF;exact At.en a12 rfl sn (ah.ae [1,4,5,6,7,8,9,10,2,3,11] rfl rfl)
        ·clear h9;rintro a10;refine Wo.og (lb rfl rfl) (gg rfl rfl (bK h0)) rfl<|Wo.od (cj rfl h0 rfl) rfl<|Wo.nil ?_;have hr:=Option.some.inj hF;subst r;exact At.en a10 rfl (sc rfl (sc rfl (sc rfl (sc rfl (sc rfl (sc rfl sn)))))) (ah.ae [0,10,2,3,1,4,5,6,7,8,9] rfl rfl)
       ·refine Wo.s (gg rfl rfl (bN h0)) rfl<|Wo.s (gg rfl rfl (bN h0)) rfl<|Wo.s (gg rfl rfl (bN h0)) rfl<|Wo.s (gg rfl rfl (bN h0)) rfl<|Wo.s (gg rfl rfl (bN h0)) rfl<|Wo.od (bX rfl h0 rfl) rfl<|Wo.nil ?_;have hr:=Option.some.inj hF;subst r;exact At.en a4 rfl (sc rfl (sc rfl (sc rfl (sc rfl (sc rfl (sc rfl sn)))))) (ah.ae [2,3,1,4,5,6,7,8,9,10,11] rfl rfl)
      ·clear h18;rintro a9;refine At.tn<|Wk.az rfl rfl<|Wk.skip<|At.bn<|At.tn<|Wk.region<|Wo.od (al rfl rfl (aH _ _ _)) rfl<|Wo.od (aa rfl) rfl<|Wo.nil ?_;cases hF;exact At.en a9 rfl (sc rfl (sc rfl (sc rfl (sc rfl (sc rfl sn))))) (ah.ae [0,1,3,4,5,6,7,8,9,10] rfl rfl)
     ·refine Wk.az rfl h5<|Wk.exit<|At.te ?_;cases hF;exact At.en a4 rfl sn (ah.ae [0,3,2,4,5,6,7,8,9] rfl rfl)
    ·clear h4;rintro a3;refine At.be ?_;have hr:=Option.some.inj hF;subst r;exact At.fin .nil fun m' hm=>⟨a3,(ah.ae [0,1,2,3,4,5,6,7,8] rfl rfl) m' hm⟩
   ·clear h14;rintro a2
    change At _ .normal _ _ _
    refine At.bn<|At.tn<|Wk.seq<|Wk.region<|Wo.x Co gn rfl fun b9=>?_;refine Wo.x Co gn rfl fun b10=>?_;refine Wo.x (bT KZ rfl) gn rfl fun b12=>?_;refine Wo.x (bT KZ rfl) gn rfl fun b13=>?_;refine Wo.o0 (bC (k:=1) j5 rfl rfl rfl rfl rfl)<|Wo.o0 (bC (k:=0) j5 rfl rfl rfl rfl rfl)<|Wo.nil<|At.tn<|Wk.seq<|Wk.region<|Wo.od (au (k:=10) uO rfl rfl rfl) rfl<|Wo.od (oC rfl rfl) rfl ?_;obtain⟨r1,h21,hF⟩:=J hF;refine Wo.x (e6 (α:=Option Addr × Nat) (V:=fun g=>(fun(r:Bool × List (Nat)) (g:Option Addr × Nat)=>match r,g with | (v1,l12),(a7,c4)=>(.agg #[.bool v1,.slice a7 l12.length c4]:Value)) r1 g) (N:=fun g=>(fun(r:Bool × List (Nat)) (g:Option Addr × Nat)=>match r,g with | (v1,l12),(a7,c4)=>([.rd a7 c4 1 l12.length (l12.map (eN .u64)),.obj b0 (.cells [.int .u64 ((0:Nat):Int),.int .u64 ((0:Nat):Int),.int .u64 ((0:Nat):Int),.int .u64 ((0:Nat):Int),.int .u64 ((0:Nat):Int),.int .u64 ((0:Nat):Int),.int .u64 ((0:Nat):Int),.int .u64 ((0:Nat):Int)] .own)]:List Pc)) r1 g) rfl rfl (fun m hm=>?_)) gn rfl ?_
    ·clear hF;revert r1;intro r hF;refine ax (N:=22) (rs:=[.cell 4 84]) rfl Tryd.func53 rfl rfl rfl hm<|Wk.seq<|Wk.region<|Wo.x (bT z84 rfl) gn rfl fun b8=>?_;refine Wo.nil<|At.tn<|Wk.seq<|Wk.region ?_;obtain⟨⟨r5,l14⟩,h22,hF⟩:=J hF;refine Wo.x (eF (N:=(fun x:Option Addr × Nat × Nat=>[.rd x.1 x.2.1 1 x.2.2 (l14.map (eN .u64))])) rfl rfl (fun m hm=>iW n 0  _ h22 m hm.aO) fun _=>rfl) gn rfl ?_;rintro⟨a11,c6,n0⟩;refine Wo.cP (k:=0) (xs:=l14) rfl ?_;rintro rfl;refine Wo.x (bT z84 rfl) gn rfl fun b7=>?_;refine Wo.o0 (bC (k:=0) aY rfl rfl rfl rfl rfl)<|Wo.nil<|At.tn<|Wk.seq<|Wk.seq<|Wk.region<|Wo.od (aa rfl) rfl<|Wo.od (cw (k:=14) An rfl rfl (.inl rfl)) rfl<|Wo.od (aa rfl) rfl<|Wo.nil<|At.tn<|Wk.block ?_;obtain⟨r4,h6,hF⟩:=J hF;refine Wk.cut (G:=(fun(r:Bool × List (Nat)) (g:Option Addr × Nat)=>match r,g with | (v2,l7),(a5,c2)=>⟨(.exit 0),[(4,ptr b8 0),(5,ptr b7 0)],[.obj b8 (.cells [.bool false,.slice none 0 0] .own),.obj b7 (.cells [.bool v2,.slice a5 l7.length c2] .own),.rd a5 c2 1 l7.length (l7.map (eN .u64)),.obj b0 (.cells [.int .u64 ((0:Nat):Int),.int .u64 ((0:Nat):Int),.int .u64 ((0:Nat):Int),.int .u64 ((0:Nat):Int),.int .u64 ((0:Nat):Int),.int .u64 ((0:Nat):Int),.int .u64 ((0:Nat):Int),.int .u64 ((0:Nat):Int)] .own)]⟩) r4) ?_ ?_
     ·refine Wk.dG (fs':=[(1,.func (.func 54) #[] #[ptr b3 0,ptr b12 0,ptr b1 0,ptr b2 0,ptr b13 0]),(4,ptr b8 0),(5,ptr b7 0),(9,.slice a2 l3.length l3.length),(10,.int .i64 (l3.length:Int)),(11,.int .i64 0)]) (ps':=[.obj b3 (.cells [.slice a0 l2.length c1] .own),.rd a0 c1 1 l2.length (l2.map (eI .i64)),.obj b12 (.cells [.map (some b9)] .own),.obj b9 (.map (([]:List (Int × Bool)).map (eM (fun n:Int=>.int .i64 n) (fun b:Bool=>.bool b)))),.obj b1 (.cells [.int .i64 x1,.slice a1 l1.length c0] .own),.rd a1 c0 2 l1.length (l1.map (eP (eI .i64) (eI .i64))),.obj b2 (.cells [.int .u64 ((x3:Nat):Int)] .own),.obj b13 (.cells [.map (some b10)] .own),.obj b10 (.map (([]:List (Int × Bool)).map (eM (fun n:Int=>.int .i64 n) (fun b:Bool=>.bool b)))),.obj b8 (.cells [.bool false,.slice none 0 0] .own),.obj b7 (.cells [.bool r5,.slice a11 l14.length c6] .own),.rd a11 c6 1 l14.length (l14.map (eN .u64)),.sl a2 1 l3.length (l3.map (eI .i64)),.obj b0 (.cells [.int .u64 ((0:Nat):Int),.int .u64 ((0:Nat):Int),.int .u64 ((0:Nat):Int),.int .u64 ((0:Nat):Int),.int .u64 ((0:Nat):Int),.int .u64 ((0:Nat):Int),.int .u64 ((0:Nat):Int),.int .u64 ((0:Nat):Int)] .own)]) (sc rfl (sc rfl (sc rfl (sc rfl (sc rfl (sc rfl sn)))))) (ah.ae [10,11,4,6,7,8,9,3,5,2,0,1,14,12] rfl rfl) ?_;refine Wk.loop (σ:=List (Int × Bool) × List (Int × Bool) × Bool × List (Nat) × Int) (ρ:=Bool × List (Nat)) (γ:=Option Addr × Nat) (δ:=fun _=>Option Addr × Nat) _ (fun(s:List (Int × Bool) × List (Int × Bool) × Bool × List (Nat) × Int) (g:Option Addr × Nat)=>match s,g with | (l11,l15,v3,l8,v5),(a6,c3)=>⟨.normal,[(1,.func (.func 54) #[] #[ptr b3 0,ptr b12 0,ptr b1 0,ptr b2 0,ptr b13 0]),(4,ptr b8 0),(5,ptr b7 0),(9,.slice a2 l3.length l3.length),(10,.int .i64 (l3.length:Int)),(11,.int .i64 v5)],[.obj b3 (.cells [.slice a0 l2.length c1] .own),.rd a0 c1 1 l2.length (l2.map (eI .i64)),.obj b12 (.cells [.map (some b9)] .own),.obj b9 (.map (l11.map (eM (fun n:Int=>.int .i64 n) (fun b:Bool=>.bool b)))),.obj b1 (.cells [.int .i64 x1,.slice a1 l1.length c0] .own),.rd a1 c0 2 l1.length (l1.map (eP (eI .i64) (eI .i64))),.obj b2 (.cells [.int .u64 ((x3:Nat):Int)] .own),.obj b13 (.cells [.map (some b10)] .own),.obj b10 (.map (l15.map (eM (fun n:Int=>.int .i64 n) (fun b:Bool=>.bool b)))),.obj b8 (.cells [.bool false,.slice none 0 0] .own),.obj b7 (.cells [.bool v3,.slice a6 l8.length c3] .own),.rd a6 c3 1 l8.length (l8.map (eN .u64)),.sl a2 1 l3.length (l3.map (eI .i64)),.obj b0 (.cells [.int .u64 ((0:Nat):Int),.int .u64 ((0:Nat):Int),.int .u64 ((0:Nat):Int),.int .u64 ((0:Nat):Int),.int .u64 ((0:Nat):Int),.int .u64 ((0:Nat):Int),.int .u64 ((0:Nat):Int),.int .u64 ((0:Nat):Int)] .own)]⟩) (fun(r:Bool × List (Nat)) (g:Option Addr × Nat)=>match r,g with | (v2,l7),(a5,c2)=>⟨(.exit 0),[(4,ptr b8 0),(5,ptr b7 0)],[.obj b8 (.cells [.bool false,.slice none 0 0] .own),.obj b7 (.cells [.bool v2,.slice a5 l7.length c2] .own),.rd a5 c2 1 l7.length (l7.map (eN .u64)),.obj b0 (.cells [.int .u64 ((0:Nat):Int),.int .u64 ((0:Nat):Int),.int .u64 ((0:Nat):Int),.int .u64 ((0:Nat):Int),.int .u64 ((0:Nat):Int),.int .u64 ((0:Nat):Int),.int .u64 ((0:Nat):Int),.int .u64 ((0:Nat):Int)] .own)]⟩) ?_ (fun _ _=>rfl) (fun r d=>by intro e; cases e) _ _ _ h6 (a11,c6)
      clear hF h6;rintro⟨l11,l15,v3,l8,v5⟩ ⟨a6,c3⟩ r hF;unfold mH at hF;refine Wk.seq<|Wk.region<|Wo.od (al rfl rfl (aK _ _ _)) rfl<|Wo.nil<|At.tn<|Wk.seq ?_;rcases ai hF with⟨h7,hF⟩|⟨h7,hF⟩
      ·refine Wk.aA rfl h7<|Wk.skip<|At.tn<|Wk.seq<|Wk.block<|Wk.seq<|Wk.region ?_;obtain⟨h2,hF⟩:=aj hF;replace h2:=an h2;refine Wo.open (k:=12) rfl (bG h2) ?_;rintro b16 t0 rfl h30;refine Wo.og (bA Dg rfl rfl h2) gn rfl ?_;obtain⟨x4,h23,hF⟩:=J hF;refine Wo.od (e8 (k:=12) iK rfl rfl (aS h23) rfl rfl) rfl<|Wo.od (ak rfl) rfl<|Wo.nil<|At.tn<|Wk.du (prs:=[(0,3)]) (by kernel_rfl)<|Wn.IE rfl (au (k:=10) aY rfl rfl rfl) rfl<|Wn.od (aa rfl) rfl<|Wn.od (aa rfl) rfl ?_
       obtain⟨r2,h24,hF⟩:=J hF;refine Wn.xk (l:=[b7]) (e6 (α:=Option Addr × Nat) (V:=fun g=>(fun(r:Bool × List (Nat) × List (Int × Bool) × List (Int × Bool)) (g:Option Addr × Nat)=>match r,g with | (v4,l13,l16,l17),(a8,c5)=>(.agg #[.bool v4,.slice a8 l13.length c5]:Value)) r2 g) (N:=fun g=>(fun(r:Bool × List (Nat) × List (Int × Bool) × List (Int × Bool)) (g:Option Addr × Nat)=>match r,g with | (v4,l13,l16,l17),(a8,c5)=>([.rd a8 c5 1 l13.length (l13.map (eN .u64)),.obj b0 (.cells [.int .u64 ((0:Nat):Int),.int .u64 ((0:Nat):Int),.int .u64 ((0:Nat):Int),.int .u64 ((0:Nat):Int),.int .u64 ((0:Nat):Int),.int .u64 ((0:Nat):Int),.int .u64 ((0:Nat):Int),.int .u64 ((0:Nat):Int)] .own),.obj b3 (.cells [.slice a0 l2.length c1] .own),.rd a0 c1 1 l2.length (l2.map (eI .i64)),.obj b12 (.cells [.map (some b9)] .own),.obj b9 (.map (l16.map (eM (fun n:Int=>.int .i64 n) (fun b:Bool=>.bool b)))),.obj b1 (.cells [.int .i64 x1,.slice a1 l1.length c0] .own),.rd a1 c0 2 l1.length (l1.map (eP (eI .i64) (eI .i64))),.obj b2 (.cells [.int .u64 ((x3:Nat):Int)] .own),.obj b13 (.cells [.map (some b10)] .own),.obj b10 (.map (l17.map (eM (fun n:Int=>.int .i64 n) (fun b:Bool=>.bool b)))),.obj b8 (.cells [.bool false,.slice none 0 0] .own),.obj b7 (.cells [.bool v3,.slice a6 l8.length c3] .own),.rd a6 c3 1 l8.length (l8.map (eN .u64)),.arr b16 1 l3.length (l3.map (eI .i64)) t0]:List Pc)) r2 g) rfl rfl (fun m hm=>?_)) ⟨⟨_,10,rfl,rfl,fun _=>⟨12,rfl⟩⟩,trivial⟩ gn rfl ?_
       ·clear hF;revert r2;intro r hF;refine ax (N:=27) (rs:=[.cell 7 84]) rfl Tryd.func54 rfl rfl rfl hm<|Wk.seq<|Wk.region<|Wo.x (bT z84 rfl) gn rfl fun b19=>?_;refine Wo.nil<|At.tn<|Wk.seq<|Wk.seq<|Wk.region<|Wo.od (au (k:=1) uO rfl rfl rfl) rfl<|Wo.od (aa rfl) rfl ?_;obtain⟨r8,h25,hF⟩:=J hF;refine Wo.x (cc rfl rfl (fun m hm=>Ib n l2 x4 a0 c1 _ h25 m (hm.rd (k:=2) rfl (.rd _ _ _ _ _))) fun _=>rfl) gn rfl ?_;rintro⟨⟩;refine Wo.nil<|At.tn ?_;rcases ai hF with⟨h8,hF⟩|⟨h8,hF⟩
        ·refine Wk.aA rfl h8<|Wk.seq<|Wk.region<|Wo.od (au (k:=3) j5 rfl rfl rfl) rfl<|Wo.od (aa rfl) rfl<|Wo.o0 (Ax (q:=4) (xs:=l11) (k:=x4) (v:=true) (vE:=(fun b:Bool=>.bool b)) Gu (jH u3) rfl rfl rfl rfl)<|Wo.nil<|At.tn<|Wk.seq<|Wk.region ?_;obtain⟨⟨r9,l18⟩,h26,hF⟩:=J hF;refine Wo.x (eF (N:=(fun x:Option Addr × Nat × Nat=>[.rd x.1 x.2.1 1 x.2.2 (l18.map (eN .u64))])) rfl rfl (fun m hm=>iW n 0  _ h26 m hm.aO) fun _=>rfl) gn rfl ?_;rintro⟨a13,c7,n1⟩;refine Wo.cP (k:=0) (xs:=l18) rfl ?_;rintro rfl;refine Wo.o0 (bC (k:=1) aY rfl rfl rfl rfl rfl)<|Wo.nil<|At.tn<|Wk.ret<|At.tr ?_;cases hF;exact At.ret (.cell (k:=1) aY rfl rfl rfl .nil) fun m' hm=>⟨(a13,c7),rfl,(ah.ae [0,15,2,3,4,5,6,7,8,9,10,11,12,13,14] rfl rfl) m' hm⟩
        ·refine Wk.az rfl h8<|Wk.skip<|At.tn<|Wk.seq<|Wk.region<|Wo.od (au (k:=3) j5 rfl rfl rfl) rfl<|Wo.od (aa rfl) rfl<|Wo.o0 (Ax (q:=4) (xs:=l11) (k:=x4) (v:=true) (vE:=(fun b:Bool=>.bool b)) Gu (jH u3) rfl rfl rfl rfl)<|Wo.nil<|At.tn<|Wk.seq<|Wk.region<|Wo.od (au (k:=5) e7 rfl rfl rfl) rfl<|Wo.od (au (k:=7) cu rfl rfl rfl) rfl<|Wo.od (au (k:=3) j5 rfl rfl rfl) rfl<|Wo.od (au (k:=8) j5 rfl rfl rfl) rfl ?_;obtain⟨⟨r10,l19⟩,h27,hF⟩:=J hF;refine Wo.x (eF (N:=(fun x:Option Addr × Nat × Nat=>[.rd x.1 x.2.1 1 x.2.2 (l19.map (eN .u64))])) rfl rfl (fun m hm=>tT n x1 l1 x3 (cL l11 x4 true) l15 a1 c0 (some b9) (some b10) _ h27 m hm.aO (hG.ext hm.ext) (hm.rd (k:=6) rfl (.rd _ _ _ _ _)) (hm.bL (k:=6) rfl) (hm.K0 (k:=4) (xs:=(cL l11 x4 true)) rfl) (hm.K0 (k:=9) (xs:=l15) rfl)) fun _=>rfl) gn rfl ?_;rintro⟨a14,c8,n2⟩;refine Wo.cP (k:=0) (xs:=l19) rfl ?_;rintro rfl;refine Wo.x (bT z84 rfl) gn rfl fun b20=>?_;refine Wo.o0 (bC (k:=0) aY rfl rfl rfl rfl rfl)<|Wo.nil<|At.tn<|Wk.seq<|Wk.region<|Wo.od (au (k:=5) j5 rfl rfl rfl) rfl<|Wo.od (aa rfl) rfl<|Wo.o0 (JG (q:=6) (xs:=(cL l11 x4 true)) (k:=x4) (vE:=(fun b:Bool=>.bool b)) Gu (jH u3) rfl rfl)<|Wo.nil<|At.tn<|Wk.seq<|Wk.region<|Wo.od (au (k:=10) j5 rfl rfl rfl) rfl<|Wo.od (aa rfl) rfl<|Wo.o0 (Ax (q:=11) (xs:=l15) (k:=x4) (v:=true) (vE:=(fun b:Bool=>.bool b)) Gu (jH u3) rfl rfl rfl rfl)<|Wo.nil<|At.tn<|Wk.seq<|Wk.region<|Wo.od (au (k:=0) aY rfl rfl rfl) rfl<|Wo.o0 (bC (k:=2) aY rfl rfl rfl rfl rfl)<|Wo.nil<|At.tn<|Wk.ret ?_;cases hF;exact At.ret (.cell (k:=2) aY rfl rfl rfl .nil) fun m' hm=>⟨(a14,c8),rfl,(ah.ae [1,16,3,4,5,6,7,8,9,10,11,12,13,14,15] rfl rfl) m' hm⟩
       ·clear h24;obtain⟨v4,l13,l16,l17⟩:=r2;rintro⟨a8,c5⟩;obtain⟨⟨r11,l20⟩,h28,hF⟩:=J hF;refine Wn.c (ef (N:=(fun x:Option Addr × Nat × Nat=>[.rd x.1 x.2.1 1 x.2.2 (l20.map (eN .u64))])) rfl rfl (fun m hm=>jS n v3 l8 v4 l13 a6 c3 a8 c5 _ h28 m hm.aO (hm.rd (k:=13) rfl (.rd _ _ _ _ _)) (hm.bL (k:=13) rfl) (hm.rd (k:=0) rfl (.rd _ _ _ _ _)) (hm.bL (k:=0) rfl)) fun _=>rfl) gn rfl ?_;rintro⟨a15,c9,n3⟩;refine Wn.cP (k:=0) (xs:=l20) rfl ?_;rintro rfl;refine Wn.o0 (bC (k:=13) aY rfl rfl rfl rfl rfl) ?_;refine Wn.nil (fun m hm=>(by(first|refine bM.rk rfl rfl rfl (by simp) ?_|refine bM.step rfl ?_); exact bM.nil)) ?_
        refine At.bn<|At.tn<|Wk.region<|Wo.od (al rfl rfl (aH _ _ _)) rfl<|Wo.od (aa rfl) rfl<|Wo.nil ?_;cases hF;exact At.en (a15,c9) rfl (sc rfl (sc rfl (sc rfl (sc rfl (sc rfl (sc rfl sn)))))) (ah.trans (ah.close (k:=15) rfl) (ah.ae [3,4,5,6,7,8,9,10,11,12,13,0,15,2] rfl rfl))
      ·refine Wk.az rfl h7<|Wk.exit<|At.te ?_;cases hF;exact At.en (a6,c3) rfl (sc rfl (sc rfl sn)) (ah.ae [9,10,11,13] rfl rfl)
     ·clear h6;obtain⟨v2,l7⟩:=r4;rintro⟨a5,c2⟩;refine At.be<|At.tn<|Wk.seq<|Wk.region<|Wo.od (au (k:=1) aY rfl rfl rfl) rfl<|Wo.o0 (bC (k:=0) aY rfl rfl rfl rfl rfl)<|Wo.nil<|At.tn<|Wk.ret ?_;cases hF;exact At.ret (.cell (k:=0) aY rfl rfl rfl .nil) fun m' hm=>⟨(a5,c2),rfl,(ah.ae [2,3] rfl rfl) m' hm⟩
    ·clear h21;obtain⟨v1,l12⟩:=r1;rintro⟨a7,c4⟩;refine Wo.x (bT z84 rfl) gn rfl fun b21=>?_;refine Wo.o0 (bC (k:=0) aY rfl rfl rfl rfl rfl)<|Wo.nil<|At.tn<|Wk.seq<|Wk.region<|Wo.od (au (k:=0) aY rfl rfl rfl) rfl ?_;obtain⟨⟨r12,r13,r14,r15,r16,r17,r18,r19,r20⟩,h29,hF⟩:=J hF;refine Wo.x (cc rfl rfl (fun m hm=>C2 n v1 l12 a7 c4 _ h29 m (hm.rd (k:=1) rfl (.rd _ _ _ _ _))) fun _=>rfl) gn rfl ?_;rintro⟨⟩;refine Wo.od (bR rfl rfl) rfl<|Wo.od (bR rfl rfl) rfl<|Wo.o0 (bC (k:=2) e9 rfl rfl rfl rfl rfl)<|Wo.od (ak rfl) rfl<|Wo.nil<|At.tn<|Wk.ret ?_;cases hF;exact At.ret (.cell (k:=2) e9 rfl rfl rfl (.tmp rfl .nil)) fun m' hm=>⟨(),rfl,(ah.ae [] rfl rfl) m' hm⟩
theorem Jq (n:Nat) (x1:Nat) (x2:Nat) (x5:Nat) (l3:List (Nat × Nat)) (x6:Nat) (x3:Nat) (x4:Nat) (a1:Option Addr) (c0:Nat) (r:Bool) (hF:F3 n x1 x2 x5 l3 x6 x3 x4=some r) (m:AMem) (hG:Gl m) (h17:Rd m a1 c0 2 l3.length (l3.map (eP (eN .u8) (eN .u8)))) :
  aF aD 3 [.agg #[.int .u8 ((x1:Nat):Int),.int .u8 ((x2:Nat):Int),.int .u16 ((x5:Nat):Int),.slice a1 l3.length c0],.int .u64 ((x6:Nat):Int),.int .u32 ((x3:Nat):Int),.int .u32 ((x4:Nat):Int)] m (fun v m'=>∃x:Unit,v = .bool r∧Hp m m' []):=by
 unfold F3 at hF;refine ax (m0:=m) (ps:=[.rd a1 c0 2 l3.length (l3.map (eP (eN .u8) (eN .u8)))]) (N:=151) (rs:=[.tmp 8]) rfl Tryd.func3 rfl rfl rfl ((Hp.start m).dz rfl h17)<|Wk.seq<|Wk.region<|Wo.x (bY rfl) gn rfl fun b11=>?_;refine Wo.od (ak rfl) rfl<|Wo.nil<|At.tn<|Wk.seq<|Wk.seq<|Wk.region ?_;obtain⟨r64,h18,hF⟩:=J hF;refine Wo.x (cc rfl rfl (fun m hm=>Ke n   _ h18 m (hG.ext hm.ext)) fun _=>rfl) gn rfl ?_;rintro⟨⟩;refine Wo.od (lb rfl rfl) rfl<|Wo.nil<|At.tn ?_;rcases ai hF with⟨h13,hF⟩|⟨h13,hF⟩
 ·refine Wk.aA rfl h13<|Wk.seq<|Wk.region<|Wo.od (ak rfl) rfl<|Wo.nil<|At.tn<|Wk.ret<|At.tr ?_;cases hF;exact At.ret (.tmp rfl .nil) fun m' hm=>⟨(),rfl,(ah.ae [] rfl rfl) m' hm⟩
 ·refine Wk.az rfl h13<|Wk.skip<|At.tn<|Wk.seq<|Wk.region<|Wo.od (au (k:=0) Lt rfl rfl rfl) rfl ?_;obtain⟨⟨r0,l1⟩,h19,hF⟩:=J hF;refine Wo.x (cc rfl rfl (fun m hm=>Ku n x1 x2 x5 l3 a1 c0 _ h19 m (hm.rd (k:=1) rfl (.rd _ _ _ _ _))) fun _=>rfl) gn rfl ?_;rintro⟨a0,n0⟩;refine Wo.len (k:=0) (xs:=l1) rfl ?_;rintro rfl;refine Wo.x (bT KU rfl) gn rfl fun b0=>?_;refine Wo.o0 (bC (k:=0) e7 rfl rfl rfl rfl rfl)<|Wo.nil<|At.tn<|Wk.seq<|Wk.region<|Wo.od (au (k:=0) e7 rfl rfl rfl) rfl<|Wo.od (aa rfl) rfl ?_;obtain⟨r1,h20,hF⟩:=J hF;refine Wo.x (cc rfl rfl (fun m hm=>Ky n r0 l1 x6 a0 l1.length _ h20 m (hm.rd (k:=1) rfl (.sl _ _ _ _))) fun _=>rfl) gn rfl ?_;rintro⟨⟩;refine Wo.od (ak rfl) rfl<|Wo.nil<|At.tn<|Wk.seq<|Wk.seq<|Wk.region<|Wo.od (aa rfl) rfl<|Wo.od (al rfl rfl (gq _ _)) rfl<|Wo.nil<|At.tn ?_;rcases ai hF with⟨h14,hF⟩|⟨h14,hF⟩
  ·refine Wk.aA rfl h14<|Wk.seq<|Wk.du (prs:=[(0,1),(1,3)]) (by kernel_rfl) ?_
   obtain⟨r3,h21,hF⟩:=J hF;refine Wn.xk (l:=[b0]) (e6 (α:=Nat) (V:=fun g=>(fun(r:Unit) (g:Nat)=>match r,g with|_,b1=>(.func (.func 38) #[] #[ptr b1 0]:Value)) r3 g) (N:=fun g=>(fun(r:Unit) (g:Nat)=>match r,g with|_,b1=>([.obj b1 (.cells [.int .i64 2] .own),.obj b0 (.cells [.int .i64 r0,.slice a0 l1.length l1.length] .own),.sl a0 2 l1.length (l1.map (eP (eI .i64) (eI .i64)))]:List Pc)) r3 g) rfl rfl (fun m hm=>?_)) ⟨⟨_,0,rfl,rfl,fun _=>⟨1,rfl⟩⟩,trivial⟩ gn rfl ?_
   ·clear hF;revert r3;intro r hF;refine ax (N:=4) (rs:=[.tmp 2]) rfl Tryd.func9 rfl rfl rfl hm<|Wk.seq<|Wk.region<|Wo.x (bY rfl) gn rfl fun b6=>?_;refine Wo.od (ak rfl) rfl<|Wo.nil<|At.tn<|Wk.seq<|Wk.region<|Wo.od (oC rfl rfl) rfl<|Wo.od (ak rfl) rfl<|Wo.nil<|At.tn<|Wk.ret ?_;cases hF;exact At.ret (.tmp rfl .nil) fun m' hm=>⟨b6,rfl,(ah.ae [0,1,2] rfl rfl) m' hm⟩
   ·clear h21;rintro b1;refine Wn.IE rfl (au (k:=1) e7 rfl rfl rfl) rfl<|Wn.od (aa rfl) rfl ?_;obtain⟨⟨r8,r9,r10,r11,r12,r13,r14,r15⟩,h22,hF⟩:=J hF;refine Wn.c (fb rfl rfl (fun m hm=>iV n 0  _ h22 m) fun _=>rfl) gn rfl ?_;rintro⟨⟩;obtain⟨⟨l5,r65⟩,h23,hF⟩:=J hF;refine Wn.c (fb rfl rfl (fun m hm=>m5 n r0 l1 r1 r8 r9 r10 r11 r12 r13 r14 r15 a0 l1.length _ h23 m (hG.ext hm.ext) (hm.rd (k:=2) rfl (.sl _ _ _ _))) fun _=>rfl) gn rfl ?_;rintro⟨a4,n1⟩;refine Wn.len (k:=0) (xs:=l5) rfl ?_;rintro rfl;refine Wn.od (bR rfl rfl) rfl<|Wn.od (bR rfl rfl) rfl ?_;obtain⟨v0,h24,hF⟩:=J hF;refine Wn.x (e6 (α:=Unit) (V:=fun g=>(fun(r:Bool) (g:Unit)=>match r,g with|v0,_=>(.bool v0:Value)) v0 g) (N:=fun g=>(fun(r:Bool) (g:Unit)=>match r,g with|v0,_=>([]:List Pc)) v0 g) rfl rfl (fun m hm=>?_)) gn rfl ?_
    ·clear hF;revert v0;intro r hF;refine ax (N:=14) (rs:=[.tmp 5]) rfl Tryd.func38 rfl rfl rfl hm<|Wk.seq<|Wk.region<|Wo.od (ak rfl) rfl<|Wo.nil<|At.tn<|Wk.seq<|Wk.region<|Wo.od (aa rfl) rfl<|Wo.od (cw (k:=0) An rfl rfl (.inl rfl)) rfl<|Wo.od (al rfl rfl (bu _ _ _)) rfl<|Wo.od (aa rfl) rfl ?_;rcases ai hF with⟨h6,hF⟩|⟨h6,hF⟩
     ·refine Wo.og (aa rfl) (gg rfl rfl (bK h6)) rfl<|Wo.og (au (k:=1) EM rfl rfl rfl) (gg rfl rfl (bK h6)) rfl<|Wo.og (al rfl rfl (bu _ _ _)) (gg rfl rfl (bK h6)) rfl<|Wo.od (cj rfl h6 rfl) rfl<|Wo.od (ak rfl) rfl<|Wo.nil<|At.tn<|Wk.ret ?_;cases hF;exact At.ret (.tmp rfl .nil) fun m' hm=>⟨(),rfl,(ah.ae [] rfl rfl) m' hm⟩
     ·refine Wo.s (gg rfl rfl (bN h6)) rfl<|Wo.s (gg rfl rfl (bN h6)) rfl<|Wo.s (gg rfl rfl (bN h6)) rfl<|Wo.od (bX rfl h6 rfl) rfl<|Wo.od (ak rfl) rfl<|Wo.nil<|At.tn<|Wk.ret ?_;cases hF;exact At.ret (.tmp rfl .nil) fun m' hm=>⟨(),rfl,(ah.ae [] rfl rfl) m' hm⟩
    ·clear h24;rintro⟨⟩;refine Wn.od (ak rfl) rfl ?_;refine Wn.nil (fun m hm=>(by(first|refine bM.kr rfl rfl rfl (by simp) ?_|refine bM.step rfl ?_); exact(bM.step rfl bM.nil))) ?_
     refine At.tn<|Wk.ret<|At.tr ?_;have hr:=Option.some.inj hF;subst r;exact At.ret (.tmp rfl .nil) fun m' hm=>⟨(),rfl,(ah.ae [] rfl rfl) m' hm⟩
  ·refine Wk.az rfl h14<|Wk.skip<|At.tn<|Wk.seq<|Wk.region<|Wo.od (au (k:=0) e7 rfl rfl rfl) rfl<|Wo.od (aa rfl) rfl ?_;obtain⟨⟨r16,r17,r18,r19,r20,r21,r22,r23,r66⟩,h25,hF⟩:=J hF;refine Wo.x (cc rfl rfl (fun m hm=>Hu n r0 l1 r1 a0 l1.length _ h25 m (hG.ext hm.ext) (hm.rd (k:=1) rfl (.sl _ _ _ _))) fun _=>rfl) gn rfl ?_;rintro⟨⟩;refine Wo.od (aa rfl) rfl<|Wo.od (bR rfl rfl) rfl<|Wo.od (bR rfl rfl) rfl<|Wo.x (bT By rfl) gn rfl fun b12=>?_;refine Wo.o0 (bC (k:=0) e9 rfl rfl rfl rfl rfl)<|Wo.od (ak rfl) rfl<|Wo.nil<|At.tn<|Wk.seq<|Wk.region<|Wo.od (au (k:=0) e9 rfl rfl rfl) rfl ?_;obtain⟨⟨r2,r67⟩,h26,hF⟩:=J hF;refine Wo.x (cc rfl rfl (fun m hm=>H7 n r16 r17 r18 r19 r20 r21 r22 r23  _ h26 m) fun _=>rfl) gn rfl ?_;rintro⟨⟩;refine Wo.od (aa rfl) rfl<|Wo.od (bR rfl rfl) rfl<|Wo.od (bR rfl rfl) rfl<|Wo.od (ak rfl) rfl<|Wo.od (ak rfl) rfl<|Wo.nil<|At.tn<|Wk.seq<|Wk.seq ?_;obtain⟨v5,h27,hF⟩:=J hF;refine Wk.cut (G:=(fun(r:Bool) (g:Unit)=>match r,g with|v5,_=>⟨.normal,[(1,.int .u64 ((r1:Nat):Int)),(2,.int .u32 ((x3:Nat):Int)),(3,.int .u32 ((x4:Nat):Int)),(9,ptr b0 0),(12,.int .i64 r2),(52,.bool v5)],[.obj b0 (.cells [.int .i64 r0,.slice a0 l1.length l1.length] .own),.sl a0 2 l1.length (l1.map (eP (eI .i64) (eI .i64)))]⟩) v5) ?_ ?_
   ·clear hF;revert v5;intro r hF;refine Wk.region<|Wo.od (aa rfl) rfl<|Wo.od (al rfl rfl (dt _ _)) rfl<|Wo.od (aa rfl) rfl ?_;rcases ai hF with⟨h10,hF⟩|⟨h10,hF⟩
    ·refine Wo.s (gg rfl rfl (cO h10)) rfl<|Wo.s (gg rfl rfl (cO h10)) rfl<|Wo.od (cj rfl h10 rfl) rfl<|Wo.nil ?_;cases hF;exact At.en () rfl (sc rfl (sc rfl (sc rfl (sc rfl (sc rfl (sc rfl sn)))))) (ah.ae [1,2] rfl rfl)
    ·refine Wo.og (aa rfl) (gg rfl rfl (cC h10)) rfl<|Wo.og (al rfl rfl (dt _ _)) (gg rfl rfl (cC h10)) rfl<|Wo.od (bX rfl h10 rfl) rfl<|Wo.nil ?_;cases hF;exact At.en () rfl (sc rfl (sc rfl (sc rfl (sc rfl (sc rfl (sc rfl sn)))))) (ah.ae [1,2] rfl rfl)
   ·clear h27;rintro⟨⟩;refine At.tn ?_;rcases ai hF with⟨h15,hF⟩|⟨h15,hF⟩
    ·refine Wk.aA rfl h15<|Wk.seq<|Wk.region<|Wo.od (ak rfl) rfl<|Wo.nil<|At.tn<|Wk.ret<|At.tr ?_;cases hF;exact At.ret (.tmp rfl .nil) fun m' hm=>⟨(),rfl,(ah.ae [] rfl rfl) m' hm⟩
    ·refine Wk.az rfl h15<|Wk.skip<|At.tn<|Wk.seq<|Wk.seq<|Wk.region<|Wo.od (aa rfl) rfl<|Wo.od (al rfl rfl (bu _ _ _)) rfl<|Wo.nil<|At.tn ?_;rcases ai hF with⟨h16,hF⟩|⟨h16,hF⟩
     ·refine Wk.aA rfl h16<|Wk.seq<|Wk.du (prs:=[(0,1),(1,3)]) (by kernel_rfl) ?_
      obtain⟨r4,h28,hF⟩:=J hF;refine Wn.xk (l:=[b0]) (e6 (α:=Nat) (V:=fun g=>(fun(r:Unit) (g:Nat)=>match r,g with|_,b2=>(.func (.func 38) #[] #[ptr b2 0]:Value)) r4 g) (N:=fun g=>(fun(r:Unit) (g:Nat)=>match r,g with|_,b2=>([.obj b2 (.cells [.int .i64 2] .own),.obj b0 (.cells [.int .i64 r0,.slice a0 l1.length l1.length] .own),.sl a0 2 l1.length (l1.map (eP (eI .i64) (eI .i64)))]:List Pc)) r4 g) rfl rfl (fun m hm=>?_)) ⟨⟨_,0,rfl,rfl,fun _=>⟨1,rfl⟩⟩,trivial⟩ gn rfl ?_
      ·clear hF;revert r4;intro r hF;refine ax (N:=4) (rs:=[.tmp 2]) rfl Tryd.func9 rfl rfl rfl hm<|Wk.seq<|Wk.region<|Wo.x (bY rfl) gn rfl fun b7=>?_;refine Wo.od (ak rfl) rfl<|Wo.nil<|At.tn<|Wk.seq<|Wk.region<|Wo.od (oC rfl rfl) rfl<|Wo.od (ak rfl) rfl<|Wo.nil<|At.tn<|Wk.ret ?_;cases hF;exact At.ret (.tmp rfl .nil) fun m' hm=>⟨b7,rfl,(ah.ae [0,1,2] rfl rfl) m' hm⟩
      ·clear h28;rintro b2;refine Wn.IE rfl (au (k:=1) e7 rfl rfl rfl) rfl<|Wn.od (aa rfl) rfl ?_;obtain⟨⟨r24,r25,r26,r27,r28,r29,r30,r31⟩,h29,hF⟩:=J hF;refine Wn.c (fb rfl rfl (fun m hm=>iV n 0  _ h29 m) fun _=>rfl) gn rfl ?_;rintro⟨⟩;obtain⟨⟨l6,r68⟩,h30,hF⟩:=J hF;refine Wn.c (fb rfl rfl (fun m hm=>m5 n r0 l1 r1 r24 r25 r26 r27 r28 r29 r30 r31 a0 l1.length _ h30 m (hG.ext hm.ext) (hm.rd (k:=2) rfl (.sl _ _ _ _))) fun _=>rfl) gn rfl ?_;rintro⟨a5,n2⟩;refine Wn.len (k:=0) (xs:=l6) rfl ?_;rintro rfl;refine Wn.od (bR rfl rfl) rfl<|Wn.od (bR rfl rfl) rfl ?_;obtain⟨v1,h31,hF⟩:=J hF;refine Wn.x (e6 (α:=Unit) (V:=fun g=>(fun(r:Bool) (g:Unit)=>match r,g with|v1,_=>(.bool v1:Value)) v1 g) (N:=fun g=>(fun(r:Bool) (g:Unit)=>match r,g with|v1,_=>([]:List Pc)) v1 g) rfl rfl (fun m hm=>?_)) gn rfl ?_
       ·clear hF;revert v1;intro r hF;refine ax (N:=14) (rs:=[.tmp 5]) rfl Tryd.func38 rfl rfl rfl hm<|Wk.seq<|Wk.region<|Wo.od (ak rfl) rfl<|Wo.nil<|At.tn<|Wk.seq<|Wk.region<|Wo.od (aa rfl) rfl<|Wo.od (cw (k:=0) An rfl rfl (.inl rfl)) rfl<|Wo.od (al rfl rfl (bu _ _ _)) rfl<|Wo.od (aa rfl) rfl ?_;rcases ai hF with⟨h7,hF⟩|⟨h7,hF⟩
        ·refine Wo.og (aa rfl) (gg rfl rfl (bK h7)) rfl<|Wo.og (au (k:=1) EM rfl rfl rfl) (gg rfl rfl (bK h7)) rfl<|Wo.og (al rfl rfl (bu _ _ _)) (gg rfl rfl (bK h7)) rfl<|Wo.od (cj rfl h7 rfl) rfl<|Wo.od (ak rfl) rfl<|Wo.nil<|At.tn<|Wk.ret ?_;cases hF;exact At.ret (.tmp rfl .nil) fun m' hm=>⟨(),rfl,(ah.ae [] rfl rfl) m' hm⟩
        ·refine Wo.s (gg rfl rfl (bN h7)) rfl<|Wo.s (gg rfl rfl (bN h7)) rfl<|Wo.s (gg rfl rfl (bN h7)) rfl<|Wo.od (bX rfl h7 rfl) rfl<|Wo.od (ak rfl) rfl<|Wo.nil<|At.tn<|Wk.ret ?_;cases hF;exact At.ret (.tmp rfl .nil) fun m' hm=>⟨(),rfl,(ah.ae [] rfl rfl) m' hm⟩
       ·clear h31;rintro⟨⟩;refine Wn.od (ak rfl) rfl ?_;refine Wn.nil (fun m hm=>(by(first|refine bM.kr rfl rfl rfl (by simp) ?_|refine bM.step rfl ?_); exact(bM.step rfl bM.nil))) ?_
        refine At.tn<|Wk.ret<|At.tr ?_;have hr:=Option.some.inj hF;subst r;exact At.ret (.tmp rfl .nil) fun m' hm=>⟨(),rfl,(ah.ae [] rfl rfl) m' hm⟩
     ·refine Wk.az rfl h16<|Wk.skip<|At.tn<|Wk.seq<|Wk.draw (by kernel_rfl)<|Wo.od (aa rfl) rfl<|Wo.od (lI rfl (qW (by rw[LM]; rfl) u3)) rfl<|Wo.od (aa rfl) rfl ?_
      obtain⟨h32,hF⟩:=aj hF;refine Wo.od (al rfl rfl (gy _ _ h32)) rfl<|Wo.od (aa rfl) rfl<|Wo.od (lI rfl (qW (by rw[LM]; rfl) u3)) rfl<|Wo.od (aa rfl) rfl ?_
      obtain⟨h33,hF⟩:=aj hF;refine Wo.od (al rfl rfl (gy _ _ h33)) rfl<|Wo.od (ak rfl) rfl<|Wo.od (ak rfl) rfl<|Wo.nil<|At.tn<|Wk.seq<|Wk.du (prs:=[(0,3)]) (by kernel_rfl)<|Wn.od (au (k:=0) e7 rfl rfl rfl) rfl<|Wn.od (aa rfl) rfl<|Wn.od (aa rfl) rfl ?_
      obtain⟨⟨r32,r33,r34,r35,r36,r37,r38,r39⟩,h34,hF⟩:=J hF;refine Wn.c (fb rfl rfl (fun m hm=>iV n (Int.tmod (IntKind.wrap .i64 ((x3:Nat):Int)) r2)  _ h34 m) fun _=>rfl) gn rfl ?_;rintro⟨⟩;obtain⟨⟨l2,r69⟩,h35,hF⟩:=J hF;refine Wn.c (fb rfl rfl (fun m hm=>m5 n r0 l1 r1 r32 r33 r34 r35 r36 r37 r38 r39 a0 l1.length _ h35 m (hG.ext hm.ext) (hm.rd (k:=1) rfl (.sl _ _ _ _))) fun _=>rfl) gn rfl ?_;rintro⟨a2,n3⟩;refine Wn.len (k:=0) (xs:=l2) rfl ?_;rintro rfl;refine Wn.od (aa rfl) rfl<|Wn.od (bR rfl rfl) rfl<|Wn.od (bR rfl rfl) rfl<|Wn.od (ak rfl) rfl<|Wn.od (ak rfl) rfl<|Wn.nil (fun m hm=>bM.all rfl)<|At.tn<|Wk.seq<|Wk.du (prs:=[(0,3)]) (by kernel_rfl)<|Wn.od (au (k:=1) e7 rfl rfl rfl) rfl<|Wn.od (aa rfl) rfl<|Wn.od (aa rfl) rfl ?_
      obtain⟨⟨r40,r41,r42,r43,r44,r45,r46,r47⟩,h36,hF⟩:=J hF;refine Wn.c (fb rfl rfl (fun m hm=>iV n (Int.tmod (IntKind.wrap .i64 ((x4:Nat):Int)) r2)  _ h36 m) fun _=>rfl) gn rfl ?_;rintro⟨⟩;obtain⟨⟨l4,r70⟩,h37,hF⟩:=J hF;refine Wn.c (fb rfl rfl (fun m hm=>m5 n r0 l1 r1 r40 r41 r42 r43 r44 r45 r46 r47 a0 l1.length _ h37 m (hG.ext hm.ext) (hm.rd (k:=2) rfl (.sl _ _ _ _))) fun _=>rfl) gn rfl ?_;rintro⟨a3,n4⟩;refine Wn.len (k:=0) (xs:=l4) rfl ?_;rintro rfl;refine Wn.od (aa rfl) rfl<|Wn.od (bR rfl rfl) rfl<|Wn.od (bR rfl rfl) rfl<|Wn.od (ak rfl) rfl<|Wn.od (ak rfl) rfl<|Wn.nil (fun m hm=>bM.all rfl)<|At.tn<|Wk.seq<|Wk.region<|Wo.od (aa rfl) rfl<|Wo.od (aa rfl) rfl ?_;obtain⟨r71,h38,hF⟩:=J hF;refine Wo.x (cc rfl rfl (fun m hm=>Eh n l2 l4 a2 l2.length a3 l4.length _ h38 m (hm.rd (k:=1) rfl (.sl _ _ _ _)) (hm.rd (k:=0) rfl (.sl _ _ _ _))) fun _=>rfl) gn rfl ?_;rintro⟨⟩;refine Wo.od (ak rfl) rfl<|Wo.nil<|At.tn<|Wk.seq<|Wk.du (prs:=[(15,16),(41,42),(42,45),(52,53),(53,55)]) (by kernel_rfl)<|Wn.od (aa rfl) rfl<|Wn.od (al rfl rfl (bu _ _ _)) rfl<|Wn.od (aa rfl) rfl ?_
      rcases ai hF with⟨h11,hF⟩|⟨h11,hF⟩
      ·refine Wn.og (aa rfl) (gg rfl rfl (bK h11)) rfl<|Wn.og (al rfl rfl (bu _ _ _)) (gg rfl rfl (bK h11)) rfl<|Wn.od (cj rfl h11 rfl) rfl<|Wn.od (aa rfl) rfl ?_;rcases ai hF with⟨h5,hF⟩|⟨h5,hF⟩
       ·refine Wn.og (au (k:=2) e7 rfl rfl rfl) (gg rfl rfl (bK h5)) rfl<|Wn.og (aa rfl) (gg rfl rfl (bK h5)) rfl<|Wn.og (aa rfl) (gg rfl rfl (bK h5)) rfl ?_;obtain⟨r72,h39,hF⟩:=J hF;refine Wn.c (fb rfl rfl (fun m hm=>DO n r0 l1 r1 l2 a0 l1.length a2 l2.length _ h39 m (hm.rd (k:=3) rfl (.sl _ _ _ _)) (hm.rd (k:=1) rfl (.sl _ _ _ _))) fun _=>rfl) (gg rfl rfl (bK h5)) rfl ?_;rintro⟨⟩;refine Wn.og (al rfl rfl (bu _ _ _)) (gg rfl rfl (bK h5)) rfl<|Wn.od (cj rfl h5 rfl) rfl<|Wn.od (aa rfl) rfl ?_;rcases ai hF with⟨h0,hF⟩|⟨h0,hF⟩
        ·refine Wn.og (aa rfl) (gg rfl rfl (bK h0)) rfl ?_;obtain⟨r5,h40,hF⟩:=J hF;refine Wn.xk (l:=[b0]) (e6 (α:=Nat) (V:=fun g=>(fun(r:Unit) (g:Nat)=>match r,g with|_,b3=>(.func (.func 52) #[] #[ptr b3 0]:Value)) r5 g) (N:=fun g=>(fun(r:Unit) (g:Nat)=>match r,g with|_,b3=>([.obj b3 (.cells [.int .i64 (Int.tmod (IntKind.wrap .i64 ((x3:Nat):Int)) r2)] .own),.obj b0 (.cells [.int .i64 r0,.slice a0 l1.length l1.length] .own),.sl a0 2 l1.length (l1.map (eP (eI .i64) (eI .i64))),.sl a2 1 l2.length (l2.map (eI .i64))]:List Pc)) r5 g) rfl rfl (fun m hm=>?_)) ⟨⟨_,2,rfl,rfl,fun _=>⟨1,rfl⟩⟩,trivial⟩ (gg rfl rfl (bK h0)) rfl ?_
         ·clear hF;revert r5;intro r hF;refine ax (N:=4) (rs:=[.tmp 2]) rfl Tryd.func16 rfl rfl rfl hm<|Wk.seq<|Wk.region<|Wo.x (bY rfl) gn rfl fun b8=>?_;refine Wo.od (ak rfl) rfl<|Wo.nil<|At.tn<|Wk.seq<|Wk.region<|Wo.od (oC rfl rfl) rfl<|Wo.od (ak rfl) rfl<|Wo.nil<|At.tn<|Wk.ret ?_;cases hF;exact At.ret (.tmp rfl .nil) fun m' hm=>⟨b8,rfl,(ah.ae [0,3,4,2] rfl rfl) m' hm⟩
         ·clear h40;rintro b3;refine Wn.K1 rfl (au (k:=1) e7 rfl rfl rfl) (gg rfl rfl (bK h0)) rfl<|Wn.og (aa rfl) (gg rfl rfl (bK h0)) rfl<|Wn.og (aa rfl) (gg rfl rfl (bK h0)) rfl ?_;obtain⟨⟨r73,r74,r75,r76,r77,r78,r79,r80,r81⟩,h41,hF⟩:=J hF;refine Wn.c (fb rfl rfl (fun m hm=>IH n r0 l1 r1 l2 a0 l1.length a2 l2.length _ h41 m (hG.ext hm.ext) (hm.rd (k:=2) rfl (.sl _ _ _ _)) (hm.rd (k:=3) rfl (.sl _ _ _ _))) fun _=>rfl) (gg rfl rfl (bK h0)) rfl ?_;rintro⟨⟩;refine Wn.og (bR rfl rfl) (gg rfl rfl (bK h0)) rfl<|Wn.og (bR rfl rfl) (gg rfl rfl (bK h0)) rfl ?_;obtain⟨v2,h42,hF⟩:=J hF;refine Wn.x (e6 (α:=Unit) (V:=fun g=>(fun(r:Bool) (g:Unit)=>match r,g with|v2,_=>(.bool v2:Value)) v2 g) (N:=fun g=>(fun(r:Bool) (g:Unit)=>match r,g with|v2,_=>([.obj b0 (.cells [.int .i64 r0,.slice a0 l1.length l1.length] .own),.sl a0 2 l1.length (l1.map (eP (eI .i64) (eI .i64)))]:List Pc)) v2 g) rfl rfl (fun m hm=>?_)) (gg rfl rfl (bK h0)) rfl ?_
          ·clear hF;revert v2;intro r hF;refine ax (N:=14) (rs:=[.tmp 5]) rfl Tryd.func52 rfl rfl rfl hm<|Wk.seq<|Wk.region<|Wo.x (bY rfl) gn rfl fun b13=>?_;refine Wo.od (ak rfl) rfl<|Wo.nil<|At.tn<|Wk.seq<|Wk.du (prs:=[(0,2)]) (by kernel_rfl)<|Wn.od (au (k:=0) e9 rfl rfl rfl) rfl<|Wn.od (au (k:=1) iK rfl rfl rfl) rfl ?_
           obtain⟨⟨r82,r83,r84,r85,r86,r87,r88,r89⟩,h43,hF⟩:=J hF;refine Wn.c (fb rfl rfl (fun m hm=>iV n (Int.tmod (IntKind.wrap .i64 ((x3:Nat):Int)) r2)  _ h43 m) fun _=>rfl) gn rfl ?_;rintro⟨⟩;refine Wn.od (al rfl rfl (JX Kl (J0 _ _ _ _ _ _ _ _ _ _ _ _ _ _ _ _))) rfl<|Wn.od (aa rfl) rfl ?_;rcases ai hF with⟨h12,hF⟩|⟨h12,hF⟩
           ·refine Wn.og (aa rfl) (gg rfl rfl (bK h12)) rfl<|Wn.og (al rfl rfl (bu _ _ _)) (gg rfl rfl (bK h12)) rfl<|Wn.od (cj rfl h12 rfl) rfl<|Wn.od (ak rfl) rfl<|Wn.nil (fun m hm=>bM.all rfl)<|At.tn<|Wk.ret ?_;cases hF;exact At.ret (.tmp rfl .nil) fun m' hm=>⟨(),rfl,(ah.ae [2,3] rfl rfl) m' hm⟩
           ·refine Wn.s (gg rfl rfl (bN h12)) rfl<|Wn.s (gg rfl rfl (bN h12)) rfl<|Wn.od (bX rfl h12 rfl) rfl<|Wn.od (ak rfl) rfl<|Wn.nil (fun m hm=>bM.all rfl)<|At.tn<|Wk.ret ?_;cases hF;exact At.ret (.tmp rfl .nil) fun m' hm=>⟨(),rfl,(ah.ae [2,3] rfl rfl) m' hm⟩
          ·clear h42;rintro⟨⟩;refine Wn.od (cj rfl h0 rfl) rfl<|Wn.od (aa rfl) rfl ?_;rcases ai hF with⟨h3,hF⟩|⟨h3,hF⟩
           ·refine Wn.og (aa rfl) (gg rfl rfl (bK h3)) rfl<|Wn.og (al rfl rfl (aK _ _ _)) (gg rfl rfl (bK h3)) rfl<|Wn.og (aa rfl) (gg rfl rfl (bK h3)) rfl<|Wn.og (aa rfl) (gg rfl rfl (bK h3)) rfl<|Wn.og (al rfl rfl (aK _ _ _)) (gg rfl rfl (bK h3)) rfl<|Wn.og (al rfl rfl (C4 u4)) (gg rfl rfl (bK h3)) rfl<|Wn.od (cj rfl h3 rfl) rfl<|Wn.od (aa rfl) rfl ?_;rcases ai hF with⟨h4,hF⟩|⟨h4,hF⟩
            ·refine Wn.og (aa rfl) (gg rfl rfl (bK h4)) rfl<|Wn.og (al rfl rfl (bu _ _ _)) (gg rfl rfl (bK h4)) rfl<|Wn.og (aa rfl) (gg rfl rfl (bK h4)) rfl<|Wn.og (aa rfl) (gg rfl rfl (bK h4)) rfl<|Wn.og (al rfl rfl (bu _ _ _)) (gg rfl rfl (bK h4)) rfl<|Wn.og (al rfl rfl (C4 u4)) (gg rfl rfl (bK h4)) rfl<|Wn.od (cj rfl h4 rfl) rfl<|Wn.od (aa rfl) rfl ?_;rcases ai hF with⟨h1,hF⟩|⟨h1,hF⟩
             ·obtain⟨r6,h44,hF⟩:=J hF;refine Wn.xk (l:=[b0]) (e6 (α:=Nat) (V:=fun g=>(fun(r:Unit) (g:Nat)=>match r,g with|_,b4=>(.func (.func 38) #[] #[ptr b4 0]:Value)) r6 g) (N:=fun g=>(fun(r:Unit) (g:Nat)=>match r,g with|_,b4=>([.obj b4 (.cells [.int .i64 2] .own),.obj b0 (.cells [.int .i64 r0,.slice a0 l1.length l1.length] .own),.sl a0 2 l1.length (l1.map (eP (eI .i64) (eI .i64)))]:List Pc)) r6 g) rfl rfl (fun m hm=>?_)) ⟨⟨_,0,rfl,rfl,fun _=>⟨1,rfl⟩⟩,trivial⟩ (gg rfl rfl (bK h1)) rfl ?_
              ·clear hF;revert r6;intro r hF;refine ax (N:=4) (rs:=[.tmp 2]) rfl Tryd.func9 rfl rfl rfl hm<|Wk.seq<|Wk.region<|Wo.x (bY rfl) gn rfl fun b9=>?_;refine Wo.od (ak rfl) rfl<|Wo.nil<|At.tn<|Wk.seq<|Wk.region<|Wo.od (oC rfl rfl) rfl<|Wo.od (ak rfl) rfl<|Wo.nil<|At.tn<|Wk.ret ?_;cases hF;exact At.ret (.tmp rfl .nil) fun m' hm=>⟨b9,rfl,(ah.ae [0,1,2] rfl rfl) m' hm⟩
              ·clear h44;rintro b4;refine Wn.K1 rfl (au (k:=1) e7 rfl rfl rfl) (gg rfl rfl (bK h1)) rfl<|Wn.og (aa rfl) (gg rfl rfl (bK h1)) rfl<|Wn.og (aa rfl) (gg rfl rfl (bK h1)) rfl ?_;obtain⟨⟨r48,r49,r50,r51,r52,r53,r54,r55⟩,h45,hF⟩:=J hF;refine Wn.c (fb rfl rfl (fun m hm=>iV n r2  _ h45 m) fun _=>rfl) (gg rfl rfl (bK h1)) rfl ?_;rintro⟨⟩;obtain⟨⟨l7,r90⟩,h46,hF⟩:=J hF;refine Wn.c (fb rfl rfl (fun m hm=>m5 n r0 l1 r1 r48 r49 r50 r51 r52 r53 r54 r55 a0 l1.length _ h46 m (hG.ext hm.ext) (hm.rd (k:=2) rfl (.sl _ _ _ _))) fun _=>rfl) (gg rfl rfl (bK h1)) rfl ?_;rintro⟨a6,n5⟩;refine Wn.len (k:=0) (xs:=l7) rfl ?_;rintro rfl;refine Wn.og (bR rfl rfl) (gg rfl rfl (bK h1)) rfl<|Wn.og (bR rfl rfl) (gg rfl rfl (bK h1)) rfl ?_;obtain⟨v3,h47,hF⟩:=J hF;refine Wn.x (e6 (α:=Unit) (V:=fun g=>(fun(r:Bool) (g:Unit)=>match r,g with|v3,_=>(.bool v3:Value)) v3 g) (N:=fun g=>(fun(r:Bool) (g:Unit)=>match r,g with|v3,_=>([.obj b0 (.cells [.int .i64 r0,.slice a0 l1.length l1.length] .own),.sl a0 2 l1.length (l1.map (eP (eI .i64) (eI .i64)))]:List Pc)) v3 g) rfl rfl (fun m hm=>?_)) (gg rfl rfl (bK h1)) rfl ?_
               ·clear hF;revert v3;intro r hF;refine ax (N:=14) (rs:=[.tmp 5]) rfl Tryd.func38 rfl rfl rfl hm<|Wk.seq<|Wk.region<|Wo.od (ak rfl) rfl<|Wo.nil<|At.tn<|Wk.seq<|Wk.region<|Wo.od (aa rfl) rfl<|Wo.od (cw (k:=0) An rfl rfl (.inl rfl)) rfl<|Wo.od (al rfl rfl (bu _ _ _)) rfl<|Wo.od (aa rfl) rfl ?_;rcases ai hF with⟨h8,hF⟩|⟨h8,hF⟩
                ·refine Wo.og (aa rfl) (gg rfl rfl (bK h8)) rfl<|Wo.og (au (k:=1) EM rfl rfl rfl) (gg rfl rfl (bK h8)) rfl<|Wo.og (al rfl rfl (bu _ _ _)) (gg rfl rfl (bK h8)) rfl<|Wo.od (cj rfl h8 rfl) rfl<|Wo.od (ak rfl) rfl<|Wo.nil<|At.tn<|Wk.ret ?_;cases hF;exact At.ret (.tmp rfl .nil) fun m' hm=>⟨(),rfl,(ah.ae [2,3] rfl rfl) m' hm⟩
                ·refine Wo.s (gg rfl rfl (bN h8)) rfl<|Wo.s (gg rfl rfl (bN h8)) rfl<|Wo.s (gg rfl rfl (bN h8)) rfl<|Wo.od (bX rfl h8 rfl) rfl<|Wo.od (ak rfl) rfl<|Wo.nil<|At.tn<|Wk.ret ?_;cases hF;exact At.ret (.tmp rfl .nil) fun m' hm=>⟨(),rfl,(ah.ae [2,3] rfl rfl) m' hm⟩
               ·clear h47;rintro⟨⟩;refine Wn.od (cj rfl h1 rfl) rfl<|Wn.od (aa rfl) rfl ?_;rcases ai hF with⟨h2,hF⟩|⟨h2,hF⟩
                ·obtain⟨r7,h48,hF⟩:=J hF;refine Wn.xk (l:=[b0]) (e6 (α:=Nat) (V:=fun g=>(fun(r:Unit) (g:Nat)=>match r,g with|_,b5=>(.func (.func 38) #[] #[ptr b5 0]:Value)) r7 g) (N:=fun g=>(fun(r:Unit) (g:Nat)=>match r,g with|_,b5=>([.obj b5 (.cells [.int .i64 2] .own),.obj b0 (.cells [.int .i64 r0,.slice a0 l1.length l1.length] .own),.sl a0 2 l1.length (l1.map (eP (eI .i64) (eI .i64)))]:List Pc)) r7 g) rfl rfl (fun m hm=>?_)) ⟨⟨_,0,rfl,rfl,fun _=>⟨1,rfl⟩⟩,trivial⟩ (gg rfl rfl (bK h2)) rfl ?_
                 ·clear hF;revert r7;intro r hF;refine ax (N:=4) (rs:=[.tmp 2]) rfl Tryd.func9 rfl rfl rfl hm<|Wk.seq<|Wk.region<|Wo.x (bY rfl) gn rfl fun b10=>?_;refine Wo.od (ak rfl) rfl<|Wo.nil<|At.tn<|Wk.seq<|Wk.region<|Wo.od (oC rfl rfl) rfl<|Wo.od (ak rfl) rfl<|Wo.nil<|At.tn<|Wk.ret ?_;cases hF;exact At.ret (.tmp rfl .nil) fun m' hm=>⟨b10,rfl,(ah.ae [0,1,2] rfl rfl) m' hm⟩
                 ·clear h48;rintro b5;refine Wn.K1 rfl (au (k:=1) e7 rfl rfl rfl) (gg rfl rfl (bK h2)) rfl<|Wn.og (aa rfl) (gg rfl rfl (bK h2)) rfl ?_;obtain⟨⟨r56,r57,r58,r59,r60,r61,r62,r63⟩,h49,hF⟩:=J hF;refine Wn.c (fb rfl rfl (fun m hm=>iV n (-1)  _ h49 m) fun _=>rfl) (gg rfl rfl (bK h2)) rfl ?_;rintro⟨⟩;obtain⟨⟨l8,r91⟩,h50,hF⟩:=J hF;refine Wn.c (fb rfl rfl (fun m hm=>m5 n r0 l1 r1 r56 r57 r58 r59 r60 r61 r62 r63 a0 l1.length _ h50 m (hG.ext hm.ext) (hm.rd (k:=2) rfl (.sl _ _ _ _))) fun _=>rfl) (gg rfl rfl (bK h2)) rfl ?_;rintro⟨a7,n6⟩;refine Wn.len (k:=0) (xs:=l8) rfl ?_;rintro rfl;refine Wn.og (bR rfl rfl) (gg rfl rfl (bK h2)) rfl<|Wn.og (bR rfl rfl) (gg rfl rfl (bK h2)) rfl ?_;obtain⟨v4,h51,hF⟩:=J hF;refine Wn.x (e6 (α:=Unit) (V:=fun g=>(fun(r:Bool) (g:Unit)=>match r,g with|v4,_=>(.bool v4:Value)) v4 g) (N:=fun g=>(fun(r:Bool) (g:Unit)=>match r,g with|v4,_=>([]:List Pc)) v4 g) rfl rfl (fun m hm=>?_)) (gg rfl rfl (bK h2)) rfl ?_
                  ·clear hF;revert v4;intro r hF;refine ax (N:=14) (rs:=[.tmp 5]) rfl Tryd.func38 rfl rfl rfl hm<|Wk.seq<|Wk.region<|Wo.od (ak rfl) rfl<|Wo.nil<|At.tn<|Wk.seq<|Wk.region<|Wo.od (aa rfl) rfl<|Wo.od (cw (k:=0) An rfl rfl (.inl rfl)) rfl<|Wo.od (al rfl rfl (bu _ _ _)) rfl<|Wo.od (aa rfl) rfl ?_;rcases ai hF with⟨h9,hF⟩|⟨h9,hF⟩
                   ·refine Wo.og (aa rfl) (gg rfl rfl (bK h9)) rfl<|Wo.og (au (k:=1) EM rfl rfl rfl) (gg rfl rfl (bK h9)) rfl<|Wo.og (al rfl rfl (bu _ _ _)) (gg rfl rfl (bK h9)) rfl<|Wo.od (cj rfl h9 rfl) rfl<|Wo.od (ak rfl) rfl<|Wo.nil<|At.tn<|Wk.ret ?_;cases hF;exact At.ret (.tmp rfl .nil) fun m' hm=>⟨(),rfl,(ah.ae [] rfl rfl) m' hm⟩
                   ·refine Wo.s (gg rfl rfl (bN h9)) rfl<|Wo.s (gg rfl rfl (bN h9)) rfl<|Wo.s (gg rfl rfl (bN h9)) rfl<|Wo.od (bX rfl h9 rfl) rfl<|Wo.od (ak rfl) rfl<|Wo.nil<|At.tn<|Wk.ret ?_;cases hF;exact At.ret (.tmp rfl .nil) fun m' hm=>⟨(),rfl,(ah.ae [] rfl rfl) m' hm⟩
                  ·clear h51;rintro⟨⟩;refine Wn.od (cj rfl h2 rfl) rfl<|Wn.od (ak rfl) rfl ?_;refine Wn.nil (fun m hm=>(by(first|refine bM.kr rfl rfl rfl (by simp) ?_|refine bM.step rfl ?_); exact(by(first|refine bM.kr rfl rfl rfl (by simp) ?_|refine bM.step rfl ?_); exact(bM.step rfl (by(first|refine bM.kr rfl rfl rfl (by simp) ?_|refine bM.step rfl ?_); exact(bM.step rfl bM.nil)))))) ?_
                   refine At.tn<|Wk.ret ?_;have hr:=Option.some.inj hF;subst r;exact At.ret (.tmp rfl .nil) fun m' hm=>⟨(),rfl,(ah.ae [] rfl rfl) m' hm⟩
                ·refine Wn.s (gg rfl rfl (bN h2)) rfl<|Wn.s (gg rfl rfl (bN h2)) rfl<|Wn.s (gg rfl rfl (bN h2)) rfl<|Wn.s (gg rfl rfl (bN h2)) rfl<|Wn.s (gg rfl rfl (bN h2)) rfl<|Wn.s (gg rfl rfl (bN h2)) rfl<|Wn.s (gg rfl rfl (bN h2)) rfl<|Wn.s (gg rfl rfl (bN h2)) rfl<|Wn.od (bX rfl h2 rfl) rfl<|Wn.od (ak rfl) rfl ?_;refine Wn.nil (fun m hm=>(by(first|refine bM.kr rfl rfl rfl (by simp) ?_|refine bM.step rfl ?_); exact(by(first|refine bM.kr rfl rfl rfl (by simp) ?_|refine bM.step rfl ?_); exact(bM.step rfl (by(first|refine bM.kr rfl rfl rfl (by simp) ?_|refine bM.step rfl ?_); exact(bM.step rfl bM.nil)))))) ?_
                 refine At.tn<|Wk.ret ?_;cases hF;exact At.ret (.tmp rfl .nil) fun m' hm=>⟨(),rfl,(ah.ae [] rfl rfl) m' hm⟩
             ·refine Wn.s (gg rfl rfl (bN h1)) rfl<|Wn.s (gg rfl rfl (bN h1)) rfl<|Wn.s (gg rfl rfl (bN h1)) rfl<|Wn.s (gg rfl rfl (bN h1)) rfl<|Wn.s (gg rfl rfl (bN h1)) rfl<|Wn.s (gg rfl rfl (bN h1)) rfl<|Wn.s (gg rfl rfl (bN h1)) rfl<|Wn.s (gg rfl rfl (bN h1)) rfl<|Wn.s (gg rfl rfl (bN h1)) rfl<|Wn.od (bX rfl h1 rfl) rfl ?_;refine Wn.od (aa rfl) rfl<|Wn.s (gg rfl rfl rfl) rfl<|Wn.s (gg rfl rfl rfl) rfl<|Wn.s (gg rfl rfl rfl) rfl<|Wn.s (gg rfl rfl rfl) rfl<|Wn.s (gg rfl rfl rfl) rfl<|Wn.s (gg rfl rfl rfl) rfl<|Wn.s (gg rfl rfl rfl) rfl<|Wn.s (gg rfl rfl rfl) rfl<|Wn.od (fI rfl rfl) rfl ?_;refine Wn.od (ak rfl) rfl ?_;refine Wn.nil (fun m hm=>(by(first|refine bM.kr rfl rfl rfl (by simp) ?_|refine bM.step rfl ?_); exact(by(first|refine bM.kr rfl rfl rfl (by simp) ?_|refine bM.step rfl ?_); exact(bM.step rfl (by(first|refine bM.kr rfl rfl rfl (by simp) ?_|refine bM.step rfl ?_); exact(bM.step rfl bM.nil)))))) ?_
              refine At.tn<|Wk.ret ?_;cases hF;exact At.ret (.tmp rfl .nil) fun m' hm=>⟨(),rfl,(ah.ae [] rfl rfl) m' hm⟩
            ·refine Wn.s (gg rfl rfl (bN h4)) rfl<|Wn.s (gg rfl rfl (bN h4)) rfl<|Wn.s (gg rfl rfl (bN h4)) rfl<|Wn.s (gg rfl rfl (bN h4)) rfl<|Wn.s (gg rfl rfl (bN h4)) rfl<|Wn.s (gg rfl rfl (bN h4)) rfl<|Wn.od (bX rfl h4 rfl) rfl<|Wn.od (aa rfl) rfl<|Wn.s (gg rfl rfl rfl) rfl<|Wn.s (gg rfl rfl rfl) rfl ?_;refine Wn.s (gg rfl rfl rfl) rfl<|Wn.s (gg rfl rfl rfl) rfl<|Wn.s (gg rfl rfl rfl) rfl<|Wn.s (gg rfl rfl rfl) rfl<|Wn.s (gg rfl rfl rfl) rfl<|Wn.s (gg rfl rfl rfl) rfl<|Wn.s (gg rfl rfl rfl) rfl<|Wn.od (fI rfl rfl) rfl<|Wn.od (aa rfl) rfl<|Wn.s (gg rfl rfl rfl) rfl ?_;refine Wn.s (gg rfl rfl rfl) rfl<|Wn.s (gg rfl rfl rfl) rfl<|Wn.s (gg rfl rfl rfl) rfl<|Wn.s (gg rfl rfl rfl) rfl<|Wn.s (gg rfl rfl rfl) rfl<|Wn.s (gg rfl rfl rfl) rfl<|Wn.s (gg rfl rfl rfl) rfl<|Wn.od (fI rfl rfl) rfl<|Wn.od (ak rfl) rfl ?_;refine Wn.nil (fun m hm=>(by(first|refine bM.kr rfl rfl rfl (by simp) ?_|refine bM.step rfl ?_); exact(by(first|refine bM.kr rfl rfl rfl (by simp) ?_|refine bM.step rfl ?_); exact(bM.step rfl (by(first|refine bM.kr rfl rfl rfl (by simp) ?_|refine bM.step rfl ?_); exact(bM.step rfl bM.nil)))))) ?_
             refine At.tn<|Wk.ret ?_;cases hF;exact At.ret (.tmp rfl .nil) fun m' hm=>⟨(),rfl,(ah.ae [] rfl rfl) m' hm⟩
           ·refine Wn.s (gg rfl rfl (bN h3)) rfl<|Wn.s (gg rfl rfl (bN h3)) rfl<|Wn.s (gg rfl rfl (bN h3)) rfl<|Wn.s (gg rfl rfl (bN h3)) rfl<|Wn.s (gg rfl rfl (bN h3)) rfl<|Wn.s (gg rfl rfl (bN h3)) rfl<|Wn.od (bX rfl h3 rfl) rfl<|Wn.od (aa rfl) rfl<|Wn.s (gg rfl rfl rfl) rfl<|Wn.s (gg rfl rfl rfl) rfl ?_;refine Wn.s (gg rfl rfl rfl) rfl<|Wn.s (gg rfl rfl rfl) rfl<|Wn.s (gg rfl rfl rfl) rfl<|Wn.s (gg rfl rfl rfl) rfl<|Wn.od (fI rfl rfl) rfl<|Wn.od (aa rfl) rfl<|Wn.s (gg rfl rfl rfl) rfl<|Wn.s (gg rfl rfl rfl) rfl<|Wn.s (gg rfl rfl rfl) rfl<|Wn.s (gg rfl rfl rfl) rfl ?_;refine Wn.s (gg rfl rfl rfl) rfl<|Wn.s (gg rfl rfl rfl) rfl<|Wn.s (gg rfl rfl rfl) rfl<|Wn.s (gg rfl rfl rfl) rfl<|Wn.s (gg rfl rfl rfl) rfl<|Wn.od (fI rfl rfl) rfl<|Wn.od (aa rfl) rfl<|Wn.s (gg rfl rfl rfl) rfl<|Wn.s (gg rfl rfl rfl) rfl<|Wn.s (gg rfl rfl rfl) rfl ?_;refine Wn.s (gg rfl rfl rfl) rfl<|Wn.s (gg rfl rfl rfl) rfl<|Wn.s (gg rfl rfl rfl) rfl<|Wn.s (gg rfl rfl rfl) rfl<|Wn.s (gg rfl rfl rfl) rfl<|Wn.od (fI rfl rfl) rfl<|Wn.od (ak rfl) rfl ?_;refine Wn.nil (fun m hm=>(by(first|refine bM.kr rfl rfl rfl (by simp) ?_|refine bM.step rfl ?_); exact(by(first|refine bM.kr rfl rfl rfl (by simp) ?_|refine bM.step rfl ?_); exact(bM.step rfl (by(first|refine bM.kr rfl rfl rfl (by simp) ?_|refine bM.step rfl ?_); exact(bM.step rfl bM.nil)))))) ?_
            refine At.tn<|Wk.ret ?_;cases hF;exact At.ret (.tmp rfl .nil) fun m' hm=>⟨(),rfl,(ah.ae [] rfl rfl) m' hm⟩
        ·refine Wn.s (gg rfl rfl (bN h0)) rfl<|Wn.s (gg rfl rfl (bN h0)) rfl<|Wn.s (gg rfl rfl (bN h0)) rfl<|Wn.s (gg rfl rfl (bN h0)) rfl<|Wn.s (gg rfl rfl (bN h0)) rfl<|Wn.s (gg rfl rfl (bN h0)) rfl<|Wn.s (gg rfl rfl (bN h0)) rfl<|Wn.s (gg rfl rfl (bN h0)) rfl<|Wn.s (gg rfl rfl (bN h0)) rfl<|Wn.od (bX rfl h0 rfl) rfl ?_;refine Wn.od (aa rfl) rfl<|Wn.s (gg rfl rfl rfl) rfl<|Wn.s (gg rfl rfl rfl) rfl<|Wn.s (gg rfl rfl rfl) rfl<|Wn.s (gg rfl rfl rfl) rfl<|Wn.s (gg rfl rfl rfl) rfl<|Wn.s (gg rfl rfl rfl) rfl<|Wn.od (fI rfl rfl) rfl<|Wn.od (aa rfl) rfl<|Wn.s (gg rfl rfl rfl) rfl ?_;refine Wn.s (gg rfl rfl rfl) rfl<|Wn.s (gg rfl rfl rfl) rfl<|Wn.s (gg rfl rfl rfl) rfl<|Wn.s (gg rfl rfl rfl) rfl<|Wn.s (gg rfl rfl rfl) rfl<|Wn.od (fI rfl rfl) rfl<|Wn.od (aa rfl) rfl<|Wn.s (gg rfl rfl rfl) rfl<|Wn.s (gg rfl rfl rfl) rfl<|Wn.s (gg rfl rfl rfl) rfl ?_;refine Wn.s (gg rfl rfl rfl) rfl<|Wn.s (gg rfl rfl rfl) rfl<|Wn.s (gg rfl rfl rfl) rfl<|Wn.s (gg rfl rfl rfl) rfl<|Wn.s (gg rfl rfl rfl) rfl<|Wn.s (gg rfl rfl rfl) rfl<|Wn.od (fI rfl rfl) rfl<|Wn.od (aa rfl) rfl<|Wn.s (gg rfl rfl rfl) rfl<|Wn.s (gg rfl rfl rfl) rfl ?_;refine Wn.s (gg rfl rfl rfl) rfl<|Wn.s (gg rfl rfl rfl) rfl<|Wn.s (gg rfl rfl rfl) rfl<|Wn.s (gg rfl rfl rfl) rfl<|Wn.s (gg rfl rfl rfl) rfl<|Wn.s (gg rfl rfl rfl) rfl<|Wn.od (fI rfl rfl) rfl<|Wn.od (ak rfl) rfl ?_;refine Wn.nil (fun m hm=>(by(first|refine bM.kr rfl rfl rfl (by simp) ?_|refine bM.step rfl ?_); exact(by(first|refine bM.kr rfl rfl rfl (by simp) ?_|refine bM.step rfl ?_); exact(bM.step rfl (by(first|refine bM.kr rfl rfl rfl (by simp) ?_|refine bM.step rfl ?_); exact(bM.step rfl bM.nil)))))) ?_
         refine At.tn<|Wk.ret ?_;cases hF;exact At.ret (.tmp rfl .nil) fun m' hm=>⟨(),rfl,(ah.ae [] rfl rfl) m' hm⟩
       ·refine Wn.s (gg rfl rfl (bN h5)) rfl<|Wn.s (gg rfl rfl (bN h5)) rfl<|Wn.s (gg rfl rfl (bN h5)) rfl<|Wn.s (gg rfl rfl (bN h5)) rfl<|Wn.s (gg rfl rfl (bN h5)) rfl<|Wn.od (bX rfl h5 rfl) rfl<|Wn.od (aa rfl) rfl<|Wn.s (gg rfl rfl rfl) rfl<|Wn.s (gg rfl rfl rfl) rfl<|Wn.s (gg rfl rfl rfl) rfl ?_;refine Wn.s (gg rfl rfl rfl) rfl<|Wn.s (gg rfl rfl rfl) rfl<|Wn.s (gg rfl rfl rfl) rfl<|Wn.s (gg rfl rfl rfl) rfl<|Wn.s (gg rfl rfl rfl) rfl<|Wn.s (gg rfl rfl rfl) rfl<|Wn.od (fI rfl rfl) rfl<|Wn.od (aa rfl) rfl<|Wn.s (gg rfl rfl rfl) rfl<|Wn.s (gg rfl rfl rfl) rfl ?_;refine Wn.s (gg rfl rfl rfl) rfl<|Wn.s (gg rfl rfl rfl) rfl<|Wn.s (gg rfl rfl rfl) rfl<|Wn.s (gg rfl rfl rfl) rfl<|Wn.od (fI rfl rfl) rfl<|Wn.od (aa rfl) rfl<|Wn.s (gg rfl rfl rfl) rfl<|Wn.s (gg rfl rfl rfl) rfl<|Wn.s (gg rfl rfl rfl) rfl<|Wn.s (gg rfl rfl rfl) rfl ?_;refine Wn.s (gg rfl rfl rfl) rfl<|Wn.s (gg rfl rfl rfl) rfl<|Wn.od (fI rfl rfl) rfl<|Wn.od (aa rfl) rfl<|Wn.s (gg rfl rfl rfl) rfl<|Wn.s (gg rfl rfl rfl) rfl<|Wn.s (gg rfl rfl rfl) rfl<|Wn.s (gg rfl rfl rfl) rfl<|Wn.s (gg rfl rfl rfl) rfl<|Wn.s (gg rfl rfl rfl) rfl ?_;refine Wn.s (gg rfl rfl rfl) rfl<|Wn.s (gg rfl rfl rfl) rfl<|Wn.s (gg rfl rfl rfl) rfl<|Wn.od (fI rfl rfl) rfl<|Wn.od (aa rfl) rfl<|Wn.s (gg rfl rfl rfl) rfl<|Wn.s (gg rfl rfl rfl) rfl<|Wn.s (gg rfl rfl rfl) rfl<|Wn.s (gg rfl rfl rfl) rfl<|Wn.s (gg rfl rfl rfl) rfl ?_;refine Wn.s (gg rfl rfl rfl) rfl<|Wn.s (gg rfl rfl rfl) rfl<|Wn.s (gg rfl rfl rfl) rfl<|Wn.od (fI rfl rfl) rfl<|Wn.od (ak rfl) rfl ?_;refine Wn.nil (fun m hm=>(by(first|refine bM.kr rfl rfl rfl (by simp) ?_|refine bM.step rfl ?_); exact(by(first|refine bM.kr rfl rfl rfl (by simp) ?_|refine bM.step rfl ?_); exact(bM.step rfl (by(first|refine bM.kr rfl rfl rfl (by simp) ?_|refine bM.step rfl ?_); exact(bM.step rfl bM.nil)))))) ?_
        refine At.tn<|Wk.ret ?_;cases hF;exact At.ret (.tmp rfl .nil) fun m' hm=>⟨(),rfl,(ah.ae [] rfl rfl) m' hm⟩
      ·refine Wn.s (gg rfl rfl (bN h11)) rfl<|Wn.s (gg rfl rfl (bN h11)) rfl<|Wn.od (bX rfl h11 rfl) rfl<|Wn.od (aa rfl) rfl<|Wn.s (gg rfl rfl rfl) rfl<|Wn.s (gg rfl rfl rfl) rfl<|Wn.s (gg rfl rfl rfl) rfl<|Wn.s (gg rfl rfl rfl) rfl<|Wn.s (gg rfl rfl rfl) rfl<|Wn.od (fI rfl rfl) rfl ?_;refine Wn.od (aa rfl) rfl<|Wn.s (gg rfl rfl rfl) rfl<|Wn.s (gg rfl rfl rfl) rfl<|Wn.s (gg rfl rfl rfl) rfl<|Wn.s (gg rfl rfl rfl) rfl<|Wn.s (gg rfl rfl rfl) rfl<|Wn.s (gg rfl rfl rfl) rfl<|Wn.s (gg rfl rfl rfl) rfl<|Wn.s (gg rfl rfl rfl) rfl<|Wn.s (gg rfl rfl rfl) rfl ?_;refine Wn.od (fI rfl rfl) rfl<|Wn.od (aa rfl) rfl<|Wn.s (gg rfl rfl rfl) rfl<|Wn.s (gg rfl rfl rfl) rfl<|Wn.s (gg rfl rfl rfl) rfl<|Wn.s (gg rfl rfl rfl) rfl<|Wn.s (gg rfl rfl rfl) rfl<|Wn.s (gg rfl rfl rfl) rfl<|Wn.od (fI rfl rfl) rfl<|Wn.od (aa rfl) rfl ?_;refine Wn.s (gg rfl rfl rfl) rfl<|Wn.s (gg rfl rfl rfl) rfl<|Wn.s (gg rfl rfl rfl) rfl<|Wn.s (gg rfl rfl rfl) rfl<|Wn.s (gg rfl rfl rfl) rfl<|Wn.s (gg rfl rfl rfl) rfl<|Wn.od (fI rfl rfl) rfl<|Wn.od (aa rfl) rfl<|Wn.s (gg rfl rfl rfl) rfl<|Wn.s (gg rfl rfl rfl) rfl ?_;refine Wn.s (gg rfl rfl rfl) rfl<|Wn.s (gg rfl rfl rfl) rfl<|Wn.s (gg rfl rfl rfl) rfl<|Wn.s (gg rfl rfl rfl) rfl<|Wn.s (gg rfl rfl rfl) rfl<|Wn.s (gg rfl rfl rfl) rfl<|Wn.s (gg rfl rfl rfl) rfl<|Wn.od (fI rfl rfl) rfl<|Wn.od (aa rfl) rfl<|Wn.s (gg rfl rfl rfl) rfl ?_;refine Wn.s (gg rfl rfl rfl) rfl<|Wn.s (gg rfl rfl rfl) rfl<|Wn.s (gg rfl rfl rfl) rfl<|Wn.s (gg rfl rfl rfl) rfl<|Wn.s (gg rfl rfl rfl) rfl<|Wn.s (gg rfl rfl rfl) rfl<|Wn.s (gg rfl rfl rfl) rfl<|Wn.od (fI rfl rfl) rfl<|Wn.od (ak rfl) rfl ?_;refine Wn.nil (fun m hm=>(by(first|refine bM.kr rfl rfl rfl (by simp) ?_|refine bM.step rfl ?_); exact(by(first|refine bM.kr rfl rfl rfl (by simp) ?_|refine bM.step rfl ?_); exact(bM.step rfl (by(first|refine bM.kr rfl rfl rfl (by simp) ?_|refine bM.step rfl ?_); exact(bM.step rfl bM.nil)))))) ?_
       refine At.tn<|Wk.ret ?_;cases hF;exact At.ret (.tmp rfl .nil) fun m' hm=>⟨(),rfl,(ah.ae [] rfl rfl) m' hm⟩
end Go.Proofs.YtookeaakpiefjaaDoor
end

section
namespace Go.Ab.T30
def sm:Nat→(Nat→Int)→Int
 | 0,_=>0
 | n+1,f=>sm n f+f n
theorem gj:∀{n:Nat} {f g:Nat→Int},(∀i,i<n→f i=g i)→sm n f=sm n g
 | 0,_,_,_=>rfl
 | n+1,f,g,h=>by
  simp only[sm];rw[gj fun i hi=>h i (by omega),h n (by omega)]
theorem sK:∀{n:Nat} {f:Nat→Int},(∀i,i<n→f i=0)→sm n f=0
 | 0,_,_=>rfl
 | n+1,f,h=>by
  simp only[sm];rw[sK fun i hi=>h i (by omega),h n (by omega)]; rfl
theorem tK (a b:Int):∀(n:Nat) (f g:Nat→Int),sm n (fun i=>a*f i+b*g i)=a*sm n f+b*sm n g
 | 0,_,_=>by simp[sm]
 | n+1,f,g=>by
  simp only[sm];rw[tK a b n f g,Int.mul_add,Int.mul_add]; omega
theorem Ig {n k:Nat} {f:Nat→Int} (hk:k<n) (h:∀i,i<n→i≠k→f i=0):sm n f=f k:=by
 induction n with
 | zero=>cases hk
 | succ n ih =>
  simp only[sm]
  by_cases e:k=n
  ·subst e;rw[sK fun i hi=>h i (by omega) (by omega),Int.zero_add]
  ·rw[ih (by omega) fun i hi=>h i (by omega),h n (by omega) (fun g=>e g.symm),Int.add_zero]
theorem Ih {n k:Nat} {f:Nat→Int} (hk:k+1<n) (h:∀i,i<n→i≠k→i≠k+1→f i=0):sm n f=f k+f (k+1):=by
 induction n with
 | zero=>cases hk
 | succ n ih =>
  simp only[sm]
  by_cases e:k+1=n
  ·rw[Ig (k:=k) (by omega) fun i hi hne=>h i (by omega) hne (by omega),e]
  ·rw[ih (by omega) fun i hi=>h i (by omega),h n (by omega) (by omega) (fun g=>e g.symm),Int.add_zero]
def sg (i:Nat):Int:=if i%2=0 then 1 else -1
theorem EO (i:Nat):sg (i+1) = - sg i:=by
 unfold sg;have:i%2=0∨i%2=1:=by omega
 rcases this with h|h
 ·rw[if_pos h,if_neg (show ¬(i+1)%2=0 by omega)]
 ·rw[if_neg (show ¬i%2=0 by omega),if_pos (show(i+1)%2=0 by omega)]; rfl
def DR (i r:Nat):Nat:=if r<i then r else r+1
abbrev Mt:=Nat→Nat→Int
def nz (A:Mt) (i:Nat):Mt:=fun r c=>A (DR i r) (c+1)
def cy:Nat→Mt→Int
 | 0,_=>1
 | n+1,A=>sm (n+1) fun i=>sg i*A i 0*cy n (nz A i)
theorem yC {i r n:Nat} (hr:r<n):DR i r<n+1:=by unfold DR; split<;>omega
theorem Ia {i r:Nat}:DR i r≠i:=by unfold DR; split<;>omega
theorem bF:∀{n:Nat} {A B:Mt},(∀r c,r<n→c<n→A r c=B r c)→cy n A=cy n B
 | 0,_,_,_=>rfl
 | n+1,A,B,h=>by
  simp only[cy];refine gj fun i hi=>?_;have hm:cy n (nz A i)=cy n (nz B i):=bF fun r c hr hc=>h _ _ (yC hr) (by omega)
  rw[h i 0 hi (by omega),hm]
def upd (A:Mt) (k:Nat) (v:Nat→Int):Mt:=fun r c=>if r=k then v c else A r c
def pos (i k:Nat):Nat:=if k<i then k else k-1
theorem Fk {i r k:Nat} (h:i≠k):DR i r=k↔r=pos i k:=by unfold DR pos; split<;>split<;>omega
theorem sI {A:Mt} {i k:Nat} {v:Nat→Int} (h:i≠k):nz (upd A k v) i=upd (nz A i) (pos i k) fun c=>v (c+1):=by
 funext r c
 simp only[nz,upd,Fk h]
theorem jw {A:Mt} {k:Nat} {v:Nat→Int}:nz (upd A k v) k=nz A k:=by
 funext r c
 simp only[nz,upd,if_neg Ia]
theorem Ix {i k n:Nat} (hk:k<n+1) (h:i≠k) (hi:i<n+1):pos i k<n:=by unfold pos; split<;>omega
theorem jl (a b:Int) (u w:Nat→Int):∀{n:Nat} {A:Mt} {k:Nat},k<n→cy n (upd A k fun c=>a*u c+b*w c)=a*cy n (upd A k u)+b*cy n (upd A k w):=by
 intro n
 induction n generalizing u w with
 | zero=>intro A k h; cases h
 | succ n ih =>
  intro A k hk;simp only[cy];rw[←tK];refine gj fun i hi=>?_
  by_cases h:i=k
  ·subst h;rw[jw,jw,jw];simp only[upd,if_true];generalize cy n (nz A i)=D;rw[Int.mul_add,Int.add_mul]
   congr 1
   ·rw[Int.mul_left_comm (sg i) a,Int.mul_assoc a]
   ·rw[Int.mul_left_comm (sg i) b,Int.mul_assoc b]
  ·rw[sI h,sI h,sI h,ih (fun c=>u (c+1)) (fun c=>w (c+1)) (Ix hk h hi)];simp only[upd,if_neg h];generalize sg i*A i 0=s;rw[Int.mul_add,Int.mul_left_comm s a,Int.mul_left_comm s b]
theorem ml (A:Mt) (k:Nat):upd A k (A k)=A:=by
 funext r c
 unfold upd
 split
 ·rename_i h; rw[h]
 ·rfl
theorem Al:∀{n:Nat} {A:Mt} {k:Nat},k+1<n→(∀c,c<n→A k c=A (k+1) c)→cy n A=0:=by
 intro n
 induction n with
 | zero=>intro A k h; cases h
 | succ n ih =>
  intro A k hk he;simp only[cy];rw[Ih (k:=k) hk]
  ·have hm:cy n (nz A k)=cy n (nz A (k+1)):=bF fun r c hr hc=>by
    simp only[nz,DR]
    by_cases h1:r<k
    ·rw[if_pos h1,if_pos (by omega)]
    ·by_cases h2:r=k
     ·subst h2;rw[if_neg (by omega),if_pos (by omega)]
      exact(he (c+1) (by omega)).symm
     ·rw[if_neg h1,if_neg (by omega)]
   rw[hm,he 0 (by omega),EO,Int.neg_mul,Int.neg_mul]
   omega
  ·intro i hi h1 h2;have:cy n (nz A i)=0:=by
    by_cases h:i<k
    ·exact ih (k:=k-1) (by omega) fun c hc=>by
      simp only[nz,DR];rw[if_neg (by omega),if_neg (by omega)]
      have:=he (c+1) (by omega)
      rw[show k-1+1=k by omega]
      exact this
    ·exact ih (k:=k) (by omega) fun c hc=>by
      simp only[nz,DR];rw[if_pos (by omega),if_pos (by omega)]
      exact he (c+1) (by omega)
   rw[this,Int.mul_zero]
def KO (A:Mt) (j:Nat):Mt:=fun r c=>if r=j then A (j+1) c else if r=j+1 then A j c else A r c
theorem Gf {n j:Nat} {A:Mt} (hj:j+1<n):cy n (KO A j) = - cy n A:=by
 let D:=fun(u w:Nat→Int)=>cy n (upd (upd A j u) (j+1) w)
 have hl:∀u u' w,D (fun c=>u c+u' c) w=D u w+D u' w:=fun u u' w=>by
  have e:∀v,upd (upd A j v) (j+1) w=upd (upd A (j+1) w) j v:=fun v=>by
   funext r c
   simp only[upd]
   by_cases h1:r=j+1
   ·rw[if_pos h1,if_neg (by omega),if_pos h1]
   ·rw[if_neg h1,if_neg h1]
  show cy n (upd (upd A j _) (j+1) w)=cy n (upd (upd A j u) (j+1) w)+cy n (upd (upd A j u') (j+1) w)
  rw[e,e,e];have:=jl 1 1 u u' (n:=n) (A:=upd A (j+1) w) (k:=j) (by omega)
  simp only[Int.one_mul] at this;exact this
 have hr:∀u w w',D u (fun c=>w c+w' c)=D u w+D u w':=fun u w w'=>by
  have:=jl 1 1 w w' (n:=n) (A:=upd A j u) (k:=j+1) hj;simp only[Int.one_mul] at this;exact this
 have hz:∀u,D u u=0:=fun u=>Al hj fun c _=>by
  simp only[upd];rw[if_neg (by omega),if_pos trivial,if_pos trivial]
 have h0:=hz (fun c=>A j c+A (j+1) c);rw[hl,hr,hr,hz,hz] at h0;have e1:D (A j) (A (j+1))=cy n A:=by
  show cy n (upd (upd A j (A j)) (j+1) (A (j+1)))=_
  rw[ml,ml]
 have e2:D (A (j+1)) (A j)=cy n (KO A j):=by
  show cy n (upd (upd A j (A (j+1))) (j+1) (A j))=_
  refine bF fun r c _ _=>?_;simp only[upd,KO]
  by_cases h1:r=j+1
  ·rw[if_pos h1,if_neg (by omega),if_pos h1]
  ·rw[if_neg h1,if_neg h1]
 rw[e1,e2] at h0;omega
theorem rJ {n:Nat}:∀{d j:Nat} {A:Mt},j+d+1<n→(∀c,c<n→A j c=A (j+d+1) c)→cy n A=0:=by
 intro d
 induction d with
 | zero=>intro j A hk he; exact Al hk he
 | succ d ih =>
  intro j A hk he;have h1:=Gf (n:=n) (j:=j+d+1) (A:=A) (by omega)
  have h2:=ih (j:=j) (A:=KO A (j+d+1)) (by omega) fun c hc=>by
   simp only[KO];rw[if_neg (by omega),if_neg (by omega),if_pos trivial]
   exact he c hc
  omega
theorem qg {n j k:Nat} {A:Mt} (hj:j<n) (hk:k<n) (hne:j≠k) (he:∀c,c<n→A j c=A k c):cy n A=0:=by
 rcases Nat.lt_or_ge j k with h|h
 ·exact rJ (d:=k-j-1) (j:=j) (by omega) fun c hc=>by rw[show j+(k-j-1)+1=k by omega]; exact he c hc
 ·exact rJ (d:=j-k-1) (j:=k) (by omega) fun c hc=>by rw[show k+(j-k-1)+1=j by omega]; exact(he c hc).symm
theorem sQ {n r k:Nat} {A:Mt} (t:Int) (hr:r<n) (hk:k<n) (hne:r≠k):cy n (upd A r fun c=>A r c+t*A k c)=cy n A:=by
 have h:=jl 1 t (A r) (A k) (n:=n) (A:=A) (k:=r) hr;simp only[Int.one_mul] at h;rw[h,ml,qg (A:=upd A r (A k)) hr hk hne fun c _=>by simp only[upd]; rw[if_pos trivial,if_neg (fun e=>hne e.symm)],Int.mul_zero,Int.add_zero]
theorem rq {n r:Nat} {A:Mt} (t:Int) (v:Nat→Int) (hr:r<n):cy n (upd A r fun c=>t*v c)=t*cy n (upd A r v):=by
 have h:=jl t 0 v v (n:=n) (A:=A) (k:=r) hr;simp only[Int.zero_mul,Int.add_zero] at h;exact h
theorem BK {n r:Nat} {A:Mt} (hr:r<n) (q:Int) (γ:Nat→Int) (v:Nat→Int):∀k,k≤n→(∀i,i<k→i≠r)→cy n (upd A r fun c=>q*v c+sm k fun i=>γ i*A i c)=q*cy n (upd A r v):=by
 intro k
 induction k with
 | zero =>
  intro _ _;simp only[sm,Int.add_zero];exact rq q v hr
 | succ k ih =>
  intro hk hne;have e:(upd A r fun c=>q*v c+sm (k+1) fun i=>γ i*A i c)=upd A r fun c=>1*(q*v c+sm k fun i=>γ i*A i c)+γ k*A k c:=by
   funext r' c
   simp only[upd,sm]
   split<;>omega
  rw[e,jl 1 (γ k) _ _ hr,Int.one_mul,ih (by omega) fun i hi=>hne i (by omega),qg (A:=upd A r (A k)) hr (show k<n by omega) (fun e=>hne k (by omega) e.symm) fun c _=>by
   simp only[upd]; rw[if_pos trivial,if_neg (hne k (by omega))],Int.mul_zero,Int.add_zero]
theorem AH {n u:Nat} {A:Mt} (hu:u<n) (t:Nat→Int):cy n (fun i c=>if i=u then A u c else A i c+t i*A u c)=cy n A:=by
 have key:∀m,m≤n→cy n (fun i c=>if i=u∨m≤i then A i c else A i c+t i*A u c)=cy n A:=by
  intro m
  induction m with
  | zero =>
   intro _;refine bF fun r c _ _=>?_;rw[if_pos (.inr (Nat.zero_le _))]
  | succ m ih =>
   intro hm;rw[←ih (by omega)]
   by_cases h:m=u
   ·refine bF fun r c _ _=>?_
    by_cases h1:r=u
    ·rw[if_pos (.inl h1),if_pos (.inl h1)]
    ·by_cases h2:m≤r
     ·rw[if_pos (.inr (by omega)),if_pos (.inr h2)]
     ·rw[if_neg (by omega),if_neg (by omega)]
   ·have:=sQ (n:=n) (r:=m) (k:=u) (A:=fun i c=>if i=u∨m≤i then A i c else A i c+t i*A u c) (t m) (by omega) hu h
    rw[←this];refine bF fun r c _ _=>?_;simp only[upd]
    by_cases h1:r=m
    ·subst h1;rw[if_neg (show ¬(r=u∨r+1≤r) by omega),if_pos rfl,if_pos (.inr (Nat.le_refl _)),if_pos (.inl trivial)]
    ·rw[if_neg h1]
     by_cases h2:r=u∨m+1≤r
     ·rw[if_pos h2,if_pos (by omega)]
     ·rw[if_neg h2,if_neg (by omega)]
 have:=key n (Nat.le_refl _);rw[←this];refine bF fun r c hr _=>?_
 by_cases h:r=u
 ·rw[if_pos h,if_pos (.inl h),h]
 ·rw[if_neg h,if_neg (by omega)]
theorem CO:∀{n:Nat} {A:Mt} {c:Nat},c<n→(∀r,r<n→A r c=0)→cy n A=0:=by
 intro n
 induction n with
 | zero=>intro A c h; cases h
 | succ n ih =>
  intro A c hc h;simp only[cy];refine sK fun i hi=>?_;cases c with
  | zero=>rw[h i hi,Int.mul_zero,Int.zero_mul]
  | succ c=>rw[ih (c:=c) (by omega) fun r hr=>h _ (yC hr),Int.mul_zero]
theorem Ch {n r:Nat} {A:Mt} (hr:r<n) (h:∀c,c<n→A r c=0):cy n A=0:=by
 have:=rq (n:=n) (r:=r) (A:=A) 0 (A r) hr;rw[Int.zero_mul] at this;rw[←this];refine bF fun i c _ hc=>?_;simp only[upd,Int.zero_mul]
 split
 ·rename_i e; rw[e,h c hc]
 ·rfl
theorem vJ:∀{n:Nat} {A:Mt},(∀c,c<n→A n c=0)→cy (n+1) A=cy n A*A n n:=by
 intro n
 induction n with
 | zero=>intro A _; simp[cy,sm,sg]
 | succ n ih =>
  intro A h;have e:cy (n+2) A=sm (n+2) fun i=>sg i*A i 0*cy (n+1) (nz A i):=rfl;have e2:cy (n+1) A=sm (n+1) fun i=>sg i*A i 0*cy n (nz A i):=rfl;rw[e,e2];simp only[sm];rw[h 0 (by omega),Int.mul_zero,Int.zero_mul,Int.add_zero]
  have hs:sm (n+1) (fun i=>sg i*A i 0*cy (n+1) (nz A i))=A (n+1) (n+1)*sm (n+1) (fun i=>sg i*A i 0*cy n (nz A i)):=by
   have:=tK (A (n+1) (n+1)) 0 (n+1) (fun i=>sg i*A i 0*cy n (nz A i)) (fun _=>0);simp only[Int.mul_zero,Int.zero_mul,Int.add_zero] at this;rw[←this];refine gj fun i hi=>?_;have hm:∀c,nz A i n c=A (n+1) (c+1):=fun c=>by
    simp only[nz,DR];rw[if_neg (by omega)]
   rw[ih (A:=nz A i) fun c hc=>by rw[hm]; exact h (c+1) (by omega),hm]
   generalize sg i*A i 0=s;generalize cy n (nz A i)=d;generalize A (n+1) (n+1)=z;rw[Int.mul_comm z,Int.mul_assoc]
  simp only[sm] at hs;rw[hs,Int.mul_comm]
theorem vi:∀{n:Nat} {A:Mt},(∀r c,r<n→c<n→A r c=if r=c then 1 else 0)→cy n A=1
 | 0,_,_=>rfl
 | n+1,A,h=>by
  rw[vJ fun c hc=>by rw[h n c (by omega) (by omega),if_neg (by omega)],vi fun r c hr hc=>h r c (by omega) (by omega),h n n (by omega) (by omega),if_pos rfl]; rfl
def dl (ρ:Nat→Nat) (e:Nat × Nat) (i:Nat):Int:=(if i=ρ e.1 then 1 else 0)-(if i=ρ e.2 then 1 else 0)
def ir (ρ:Nat→Nat):List (Nat × Nat)→Mt
 | [],_,_=>0
 | e::E,i,j=>dl ρ e i*dl ρ e j+ir ρ E i j
def se (ρ:Nat→Nat):Mt:=fun i j=>if ρ i=i then 0 else if i=j then 1 else 0
def jK (ρ:Nat→Nat) (E:List (Nat × Nat)):Mt:=fun i j=>se ρ i j+ir ρ E i j
def mg (ρ:Nat→Nat) (u v:Nat):Nat→Nat:=fun i=>if ρ i=u then v else ρ i
def pb (s:Nat):(Nat→Nat)→List (Nat × Nat)→Nat
 | ρ,[]=>if (List.range s).all (fun i=>ρ i != i) then 1 else 0
 | ρ,(a,b)::E=>pb s ρ E+if ρ a=ρ b then 0 else pb s (if ρ a=s then mg ρ (ρ b) (ρ a) else mg ρ (ρ a) (ρ b)) E
def wv (u v:Nat):Nat→Int:=fun c=>(if c=u then 1 else 0)-(if c=v then 1 else 0)
section
variable {s : Nat} {ρ : Nat → Nat} {E : List (Nat × Nat)} {u v : Nat}
theorem yS (hi:∀i,ρ (ρ i)=ρ i) (hv:ρ v=v) (huv:u≠v) (i:Nat):mg ρ u v (mg ρ u v i)=mg ρ u v i:=by
 unfold mg
 by_cases h:ρ i=u
 ·rw[if_pos h,hv,if_neg (fun e=>huv e.symm)]
 ·rw[if_neg h,hi,if_neg h]
theorem vu (hr:∃i,i<s∧ρ i=i):cy s (jK ρ [])=0:=by
 obtain⟨i,h1,h2⟩:=hr;refine Ch h1 fun c _=>?_;simp only[jK,ir,se];rw[if_pos h2]; rfl
theorem uX (hr:∀i,i<s→ρ i≠i):cy s (jK ρ [])=1:=by
 refine vi fun r c h1 _=>?_;simp only[jK,ir,se];rw[if_neg (hr r h1),Int.add_zero]
theorem Jx (i:Nat) (hiu:i≠u) (hiv:ρ v=v) (huv:u≠v) (a:Nat):(if i=mg ρ u v a then(1:Int) else 0)=(if i=ρ a then 1 else 0)+(if i=v then(if u=ρ a then 1 else 0) else 0):=by
 unfold mg
 by_cases h:ρ a=u
 ·rw[if_pos h,h,if_neg hiu,if_pos rfl,Int.zero_add]
 ·rw[if_neg h];have:¬u=ρ a:=fun e=>h e.symm;rw[if_neg this]
  split<;>split<;>rfl
theorem Kd (huv:u≠v) (a:Nat):(if u=mg ρ u v a then(1:Int) else 0)=0:=by
 unfold mg
 by_cases h:ρ a=u
 ·rw[if_pos h,if_neg huv]
 ·rw[if_neg h,if_neg (fun e=>h e.symm)]
theorem GU (hiv:ρ v=v) (huv:u≠v) {i:Nat} (hiu:i≠u) (e:Nat × Nat):dl (mg ρ u v) e i=dl ρ e i+(if i=v then dl ρ e u else 0):=by
 unfold dl;rw[Jx i hiu hiv huv,Jx i hiu hiv huv]
 split<;>omega
theorem zC (huv:u≠v) (e:Nat × Nat):dl (mg ρ u v) e u=0:=by
 unfold dl;rw[Kd huv,Kd huv]; rfl
theorem Ek (huv:u≠v) (i:Nat):∀E,ir (mg ρ u v) E i u=0
 | []=>rfl
 | e::E=>by
  simp only[ir];rw[zC huv,Int.mul_zero,Ek huv i E]; rfl
theorem DZ (huv:u≠v) (i:Nat):∀E,ir (mg ρ u v) E u i=0
 | []=>rfl
 | e::E=>by
  simp only[ir];rw[zC huv,Int.zero_mul,DZ huv i E]; rfl
theorem Dk (hiv:ρ v=v) (huv:u≠v) {i c:Nat} (hiu:i≠u) (hcu:c≠u):∀E,ir (mg ρ u v) E i c=ir ρ E i c+(if i=v then ir ρ E u c else 0)+(if c=v then ir ρ E i u+(if i=v then ir ρ E u u else 0) else 0)
 | []=>by simp only[ir]; split<;>split<;>rfl
 | e::E=>by
  simp only[ir];rw[Dk hiv huv hiu hcu E,GU hiv huv hiu,GU hiv huv hcu];generalize dl ρ e i=p;generalize dl ρ e c=q;generalize dl ρ e u=r
  by_cases h1:i=v<;>by_cases h2:c=v
  ·simp only[if_pos h1,if_pos h2];rw[Int.mul_add,Int.add_mul,Int.add_mul]; omega
  ·simp only[if_pos h1,if_neg h2,Int.add_zero];rw[Int.add_mul]; omega
  ·simp only[if_neg h1,if_pos h2,Int.add_zero];rw[Int.mul_add]; omega
  ·simp only[if_neg h1,if_neg h2,Int.add_zero]
theorem xu (hi:∀i,ρ (ρ i)=ρ i) (hiv:ρ v=v) (huv:u≠v) {i c:Nat} (hiu:i≠u):se (mg ρ u v) i c=se ρ i c:=by
 unfold se mg
 by_cases h:ρ i=i
 ·rw[if_pos h,h,if_neg hiu,if_pos rfl]
 ·rw[if_neg h]
  by_cases h2:ρ i=u
  ·rw[if_pos h2];have:¬v=i:=fun e=>h (by rw[←e]; exact hiv)
   rw[if_neg this]
  ·rw[if_neg h2,if_neg h]
theorem Dd (hi:∀i,ρ (ρ i)=ρ i) (hus:u<s) (hu:ρ u=u) (hv:ρ v=v) (huv:u≠v) (hvs:v≤s) :
  cy s (fun i j=>jK ρ E i j+wv u v i*wv u v j)=cy s (jK ρ E)+cy s (jK (mg ρ u v) E):=by
 have hwu:wv u v u=1:=by simp only[wv]; rw[if_pos trivial,if_neg huv]; rfl
 have hwi:∀i,i≠u→i≠v→wv u v i=0:=fun i h1 h2=>by simp only[wv]; rw[if_neg h1,if_neg h2]; rfl
 have hwv:wv u v v = -1:=by simp only[wv]; rw[if_neg (fun e=>huv e.symm),if_pos trivial]; rfl
 let R:Mt:=fun i c=>if i=v then jK ρ E v c+1*jK ρ E u c else jK ρ E i c
 have hRu:∀c,R u c=jK ρ E u c:=fun c=>if_neg huv;have hR:cy s R=cy s (jK ρ E):=by
  by_cases h:v<s
  ·have:=sQ (n:=s) (A:=jK ρ E) (r:=v) (k:=u) 1 h hus (fun e=>huv e.symm);rw[←this];refine bF fun r c _ _=>?_
   show(if r=v then _ else _)=upd (jK ρ E) v _ r c
   rfl
  ·refine bF fun r c hr _=>?_;exact if_neg (by omega)
 have hB:cy s (fun i j=>jK ρ E i j+wv u v i*wv u v j)=cy s (upd R u fun c=>1*jK ρ E u c+1*wv u v c):=by
  by_cases h:v<s
  ·have:=sQ (n:=s) (A:=fun i j=>jK ρ E i j+wv u v i*wv u v j) (r:=v) (k:=u) 1 h hus (fun e=>huv e.symm);rw[←this];refine bF fun r c _ _=>?_;simp only[upd,R]
   by_cases h1:r=v
   ·rw[if_pos h1,if_neg (by omega),if_pos h1,hwu,hwv]; omega
   ·rw[if_neg h1]
    by_cases h2:r=u
    ·subst h2; rw[if_pos rfl,hwu]; omega
    ·rw[if_neg h2,if_neg h1,hwi r h2 h1,Int.zero_mul,Int.add_zero]
  ·refine bF fun r c hr _=>?_;simp only[upd,R]
   by_cases h2:r=u
   ·subst h2; rw[if_pos rfl,hwu]; omega
   ·rw[if_neg h2,if_neg (by omega),hwi r h2 (by omega),Int.zero_mul,Int.add_zero]
 have hL:cy s (upd R u (jK ρ E u))=cy s (jK ρ E):=by
  rw[←hR];refine bF fun r c _ _=>?_;simp only[upd]
  split
  ·rename_i h; rw[h]; exact(hRu c).symm
  ·rfl
 rw[hB,jl 1 1 _ _ hus,Int.one_mul,Int.one_mul,hL]
 congr 1
 have h1:=AH (n:=s) (u:=u) (A:=upd R u (wv u v)) hus fun i=>- R i u;rw[←h1];have hC:cy s (fun i c=>if i=u then upd R u (wv u v) u c else upd R u (wv u v) i c + - R i u*upd R u (wv u v) u c)=cy s (upd (jK (mg ρ u v) E) u fun c=>1*(if c=u then 1 else 0)+(-1)*(if c=v then 1 else 0)):=by
  refine bF fun r c hr hc=>?_;simp only[upd]
  by_cases h2:r=u
  ·rw[if_pos h2,if_pos trivial,if_pos h2];simp only[wv]; omega
  ·rw[if_neg h2,if_neg h2,if_pos trivial,if_neg h2]
   by_cases h3:c=u
   ·subst h3;rw[hwu];have:jK (mg ρ c v) E r c=0:=by
     simp only[jK];rw[Ek huv,xu hi hv huv h2];unfold se;rw[if_neg h2]; split<;>rfl
    rw[this]; omega
   ·have e1:wv u v c = - (if c=v then 1 else 0):=by simp only[wv]; rw[if_neg h3]; omega
    rw[e1];simp only[jK];rw[Dk hv huv h2 h3,xu hi hv huv h2];have d1:se ρ u c=0:=by unfold se; rw[if_pos hu]
    have d2:se ρ r u=0:=by unfold se; rw[if_neg h2]; split<;>rfl
    have d3:se ρ u u=0:=by unfold se; rw[if_pos hu]
    have d4:se ρ v u=0:=by unfold se; rw[if_pos hv]
    simp only[R,jK]
    by_cases h4:r=v<;>by_cases h5:c=v
    ·simp only[if_pos h4,if_pos h5];rw[d1,d3,d4,h4]; omega
    ·simp only[if_pos h4,if_neg h5];rw[d1,d3,d4,h4]; omega
    ·simp only[if_neg h4,if_pos h5];rw[d2]; omega
    ·simp only[if_neg h4,if_neg h5];omega
 rw[hC,jl 1 (-1) _ _ hus,CO (c:=u) (A:=upd (jK (mg ρ u v) E) u fun c=>if c=v then 1 else 0) hus fun r hr=>?_,Int.one_mul,Int.mul_zero,Int.add_zero]
 ·refine bF fun r c hr _=>?_;simp only[upd]
  split
  ·rename_i h;subst h;have:mg ρ r v r=v:=by unfold mg; rw[if_pos hu]
   have hd:se (mg ρ r v) r c=if r=c then 1 else 0:=by unfold se; rw[this,if_neg (fun e=>huv e.symm)]
   simp only[jK];rw[DZ huv,hd,Int.add_zero]
   by_cases h2:c=r
   ·rw[if_pos h2,if_pos h2.symm]
   ·rw[if_neg h2,if_neg (fun e=>h2 e.symm)]
  ·rfl
 ·simp only[upd]
  by_cases h2:r=u
  ·rw[if_pos h2,if_neg huv]
  ·rw[if_neg h2];simp only[jK];rw[Ek huv,xu hi hv huv h2];unfold se;rw[if_neg h2]; split<;>rfl
theorem oW:∀(E:List (Nat × Nat)) (ρ:Nat→Nat),(∀i,ρ (ρ i)=ρ i)→ρ s=s→(∀e ∈ E,ρ e.1≤s∧ρ e.2≤s)→cy s (jK ρ E)=(pb s ρ E:Int)
 | [],ρ,_,_,_=>by
  unfold pb
  by_cases h:∃i,i<s∧ρ i=i
  ·rw[vu h,if_neg]
   ·rfl
   ·rw[List.all_eq_true];intro g;obtain⟨i,h1,h2⟩:=h;have:=g i (List.mem_range.2 h1);simp[h2] at this
  ·rw[uX fun i h1 h2=>h ⟨i,h1,h2⟩,if_pos]
   ·rfl
   ·rw[List.all_eq_true];intro i hi;simp only[bne_iff_ne,ne_eq];exact fun e=>h ⟨i,List.mem_range.1 hi,e⟩
 | (a,b)::E,ρ,hi,hs,hE=>by
  have hab:=hE (a,b) (by simp)
  have hE':∀e ∈ E,ρ e.1≤s∧ρ e.2≤s:=fun e he=>hE e (by simp[he])
  have ih:=oW E ρ hi hs hE';unfold pb
  by_cases h:ρ a=ρ b
  ·rw[if_pos h,Nat.add_zero,←ih];refine bF fun i j _ _=>?_;simp only[jK,ir,dl];rw[h,Int.sub_self,Int.zero_mul,Int.zero_add]
  ·rw[if_neg h];have go:∀u v,u≤s→v≤s→u≠s→u≠v→ρ u=u→ρ v=v→(∀i j,dl ρ (a,b) i*dl ρ (a,b) j=wv u v i*wv u v j)→cy s (jK ρ ((a,b)::E))=((pb s ρ E+pb s (mg ρ u v) E:Nat):Int):=fun u v h1 h2 h3 h4 h5 h6 h7=>by
    have e1:cy s (jK ρ ((a,b)::E))=cy s (fun i j=>jK ρ E i j+wv u v i*wv u v j):=bF fun i j _ _=>by
     simp only[jK,ir];rw[h7]; omega
    have hus:u<s:=by omega
    have ih2:=oW E (mg ρ u v) (yS hi h6 h4) (by unfold mg; rw[hs,if_neg (fun e=>h3 e.symm)]) fun e he=>by
     have:=hE' e he;unfold mg;refine⟨?_,?_⟩
     ·split
      ·exact h2
      ·exact this.1
     ·split
      ·exact h2
      ·exact this.2
    rw[e1,Dd hi hus h5 h6 h4 h2,ih,ih2];omega
   by_cases h8:ρ a=s
   ·rw[if_pos h8];refine go (ρ b) (ρ a) hab.2 hab.1 (fun e=>h (by rw[h8,e])) (fun e=>h e.symm) (hi b) (hi a) fun i j=>?_
    simp only[dl,wv];generalize (if i=ρ a then(1:Int) else 0)=p
    generalize (if i=ρ b then(1:Int) else 0)=q
    generalize (if j=ρ a then(1:Int) else 0)=p'
    generalize (if j=ρ b then(1:Int) else 0)=q'
    rw[show p-q = -(q-p) by omega,show p'-q' = -(q'-p') by omega,Int.neg_mul_neg]
   ·rw[if_neg h8];exact go (ρ a) (ρ b) hab.1 hab.2 h8 h (hi a) (hi b) fun i j=>rfl
end
def jG (A:Mt) (k r c:Nat):Mt:=fun i j=>A (if i<k then i else r) (if j<k then j else c)
theorem Bz (A:Mt) (k:Nat):cy (k+1) (jG A k k k)=cy (k+1) A:=bF fun i j hi hj=>by
 simp only[jG];have h1:(if i<k then i else k)=i:=by split<;>omega
 have h2:(if j<k then j else k)=j:=by split<;>omega
 rw[h1,h2]
def KW (A:Mt) (s k r:Nat) (m:Int) (Y:Nat→Int):Prop:=∃(Q:Int) (γ:Nat→Int),Q≠0∧∀c,c<s→Q*(if c<k then 0 else Y c)=(Q*m)*A r c+sm k fun i=>γ i*A i c
theorem KW.minor {A:Mt} {s k r c:Nat} {m:Int} {Y:Nat→Int} (h:KW A s k r m Y) (hk:k≤c) (hc:c<s):m*cy (k+1) (jG A k r c)=cy k A*Y c:=by
 obtain⟨Q,γ,hQ,h⟩:=h;have h1:=BK (n:=k+1) (r:=k) (A:=jG A k r c) (by omega) (Q*m) γ (jG A k r c k) k (by omega) (fun i hi=>by omega)
 rw[ml] at h1;have hrow:∀j,j<k+1→(Q*m)*jG A k r c k j+sm k (fun i=>γ i*jG A k r c i j)=Q*(if j<k then 0 else Y c):=fun j hj=>by
  have e:sm k (fun i=>γ i*jG A k r c i j)=sm k fun i=>γ i*A i (if j<k then j else c):=gj fun i hi=>by
   simp only[jG]; rw[if_pos hi]
  rw[e];have:=h (if j<k then j else c) (by split<;>omega)
  simp only[jG];rw[if_neg (show ¬k<k by omega),←this]
  by_cases hj2:j<k
  ·simp only[if_pos hj2]
  ·simp only[if_neg hj2];rw[if_neg (by omega)]
 rw[vJ (n:=k) (fun j hj=>by
  simp only[upd];rw[if_pos trivial,hrow j (by omega),if_pos hj,Int.mul_zero])] at h1
 have h2:cy k (upd (jG A k r c) k fun j=>(Q*m)*jG A k r c k j+sm k fun i=>γ i*jG A k r c i j)=cy k A:=bF fun i j hi hj=>by
  simp only[upd,jG];rw[if_neg (by omega),if_pos hi,if_pos hj]
 have h3:(upd (jG A k r c) k fun j=>(Q*m)*jG A k r c k j+sm k fun i=>γ i*jG A k r c i j) k k=Q*Y c:=by
  simp only[upd];rw[if_pos trivial,hrow k (by omega),if_neg (by omega)]
 rw[h2,h3,Int.mul_assoc] at h1;have:Q*(cy k A*Y c)=Q*(m*cy (k+1) (jG A k r c)):=by rw[←h1,Int.mul_left_comm]
 exact(Int.eq_of_mul_eq_mul_left hQ this).symm
def AY (M:Mt) (k:Nat) (p:Int):Mt:=fun r c=>if k<r∧k≤c then(M r c*M k k-M r k*M k c)/p else M r c
structure Bar (A:Mt) (s k:Nat) (M:Mt) (p:Int):Prop where
 p0:p≠0
 pe:p=cy k A
 row:∀r,k≤r→r<s→KW A s k r p (M r)
theorem Bar.start (A:Mt) (s:Nat):Bar A s 0 A 1:=⟨by decide,rfl,fun r _ _=>⟨1,fun _=>0,by decide,fun c _=>by simp[sm]⟩⟩
theorem Bar.minor {A:Mt} {s k:Nat} {M:Mt} {p:Int} (h:Bar A s k M p) {r c:Nat} (hr:k≤r) (hrs:r<s) (hc:k≤c) (hcs:c<s):M r c=cy (k+1) (jG A k r c):=by
 have h1:=(h.row r hr hrs).minor hc hcs;rw[←h.pe] at h1;exact(Int.eq_of_mul_eq_mul_left h.p0 h1).symm
theorem Bar.BW {A:Mt} {s k:Nat} {M:Mt} {p:Int} (h:Bar A s k M p) (hk:k<s):M k k=cy (k+1) A:=by
 rw[h.minor (Nat.le_refl k) hk (Nat.le_refl k) hk,Bz]
theorem Bar.LF {A:Mt} {s k:Nat} {M:Mt} {p:Int} (h:Bar A s k M p) (hk:k<s) {r:Nat} (hr:k<r) (hrs:r<s):KW A s (k+1) r (p*M k k) fun c=>M r c*M k k-M r k*M k c:=by
 obtain⟨Q1,γ1,hQ1,h1⟩:=h.row r (by omega) hrs
 obtain⟨Q2,γ2,hQ2,h2⟩:=h.row k (Nat.le_refl k) hk;refine⟨Q1*Q2,fun i=>if i<k then(M k k*Q2)*γ1 i+(-(M r k*Q1))*γ2 i else -(M r k*Q1*Q2*p),fun e=>by rcases Int.mul_eq_zero.1 e with e|e; exact hQ1 e; exact hQ2 e,fun c hc=>?_⟩
 have g1:=h1 c hc;have g2:=h2 c hc;have e1:sm (k+1) (fun i=>(if i<k then(M k k*Q2)*γ1 i+(-(M r k*Q1))*γ2 i else -(M r k*Q1*Q2*p))*A i c)=(M k k*Q2)*sm k (fun i=>γ1 i*A i c)+(-(M r k*Q1))*sm k (fun i=>γ2 i*A i c) + -(M r k*Q1*Q2*p)*A k c:=by
  simp only[sm];rw[if_neg (by omega),←tK]
  congr 1
  refine gj fun i hi=>?_;rw[if_pos hi,Int.add_mul,Int.mul_assoc,Int.mul_assoc (-(M r k*Q1))]
 rw[e1];have e2:(if c<k+1 then(0:Int) else M r c*M k k-M r k*M k c)=M k k*(if c<k then 0 else M r c)-M r k*(if c<k then 0 else M k c):=by
  by_cases h3:c<k
  ·rw[if_pos (by omega),if_pos h3,if_pos h3]; simp
  ·rw[if_neg h3,if_neg h3]
   by_cases h4:c=k
   ·subst h4;rw[if_pos (by omega),Int.mul_comm]; omega
   ·rw[if_neg (by omega),Int.mul_comm (M r c)]
 rw[e2];generalize (if c<k then(0:Int) else M r c)=x at g1
 generalize (if c<k then(0:Int) else M k c)=y at g2
 generalize sm k (fun i=>γ1 i*A i c)=S1 at g1;generalize sm k (fun i=>γ2 i*A i c)=S2 at g2;have k1:S1=Q1*x-Q1*p*A r c:=by omega
 have k2:S2=Q2*y-Q2*p*A k c:=by omega
 rw[k1,k2];generalize A r c=a;generalize A k c=b;generalize M k k=q;generalize M r k=t;clear g1 g2 k1 k2 e1 e2 h1 h2
 grind
theorem Bar.exact {A:Mt} {s k:Nat} {M:Mt} {p:Int} (h:Bar A s k M p) (hk:k<s) (hp:M k k≠0) {r c:Nat} (hr:k<r) (hrs:r<s) (hc:k≤c) (hcs:c<s):M r c*M k k-M r k*M k c=p*AY M k p r c:=by
 simp only[AY];rw[if_pos ⟨hr,hc⟩];have hd:p∣M r c*M k k-M r k*M k c:=by
  by_cases e:c=k
  ·subst e;rw[Int.mul_comm];exact⟨0,by omega⟩
  ·have h1:=(h.LF hk hr hrs).minor (c:=c) (by omega) hcs
   rw[←h.BW hk] at h1;refine⟨cy (k+1+1) (jG A (k+1) r c),?_⟩;have:M k k*(M r c*M k k-M r k*M k c)=M k k*(p*cy (k+1+1) (jG A (k+1) r c)):=by
    rw[←h1];generalize cy (k+1+1) (jG A (k+1) r c)=d;rw[Int.mul_comm p,Int.mul_assoc]
   exact Int.eq_of_mul_eq_mul_left hp this
 exact(Int.mul_ediv_cancel' hd).symm
theorem Bar.step {A:Mt} {s k:Nat} {M:Mt} {p:Int} (h:Bar A s k M p) (hk:k<s) (hp:M k k≠0):Bar A s (k+1) (AY M k p) (M k k):=by
 refine⟨hp,h.BW hk,fun r hr hrs=>?_⟩;obtain⟨Q,γ,hQ,h1⟩:=h.LF hk (show k<r by omega) hrs
 refine⟨Q*p,γ,fun e=>by rcases Int.mul_eq_zero.1 e with e|e; exact hQ e; exact h.p0 e,fun c hc=>?_⟩
 have h2:=h1 c hc;rw[Int.mul_assoc Q p (M k k),←h2,Int.mul_assoc Q p]
 by_cases h3:c<k+1
 ·rw[if_pos h3,if_pos h3,Int.mul_zero,Int.mul_zero]
 ·rw[if_neg h3,if_neg h3,←h.exact hk hp (show k<r by omega) hrs (by omega) hc]
def G9:Nat→Nat→Mt→Int→Int
 | 0,_,_,p=>p
 | j+1,k,M,p=>if M k k=0 then 0 else G9 j (k+1) (AY M k p) (M k k)
theorem zo {A:Mt} {s:Nat} (hA:∀k,k<s→cy (k+1) A=0→cy s A=0):∀(j k:Nat) (M:Mt) (p:Int),j+k=s→Bar A s k M p→G9 j k M p=cy s A
 | 0,k,M,p,hj,h=>by
  have:k=s:=by omega
  subst this;exact h.pe
 | j+1,k,M,p,hj,h=>by
  simp only[G9];have hk:k<s:=by omega
  by_cases h0:M k k=0
  ·rw[if_pos h0];have:=h.BW hk;rw[h0] at this;exact(hA k hk this.symm).symm
  ·rw[if_neg h0];exact zo hA j (k+1) _ _ (by omega) (h.step hk h0)
def Eb (s:Nat) (ρ:Nat→Nat) (E:List (Nat × Nat)):Prop :=
 ∀f:Nat→Bool,(∀i,f i=f (ρ i))→(∀e ∈ E,f e.1=f e.2)→∀i,i≤s→f i=f s
structure Rho (s:Nat) (ρ:Nat→Nat):Prop where
 idem:∀i,ρ (ρ i)=ρ i
 top:ρ s=s
 le:∀i,i≤s→ρ i≤s
theorem Rho.id (s:Nat):Rho s fun i=>i:=⟨fun _=>rfl,rfl,fun _ h=>h⟩
theorem Rho.step {s:Nat} {ρ:Nat→Nat} (h:Rho s ρ) {a b:Nat} (ha:a≤s) (hb:b≤s) (hab:ρ a≠ρ b):Rho s (if ρ a=s then mg ρ (ρ b) (ρ a) else mg ρ (ρ a) (ρ b)):=by
 have key:∀u v,ρ u=u→ρ v=v→u≠v→u≠s→v≤s→Rho s (mg ρ u v):=fun u v hu hv huv hus hvs=>by
  refine⟨yS h.idem hv huv,?_,fun i hi=>?_⟩
  ·unfold T30.mg; rw[h.top,if_neg (fun e=>hus e.symm)]
  ·unfold T30.mg
   split
   ·exact hvs
   ·exact h.le i hi
 by_cases hs:ρ a=s
 ·rw[if_pos hs];exact key _ _ (h.idem b) (h.idem a) (fun e=>hab e.symm) (fun e=>hab (by rw[hs,e])) (h.le a ha)
 ·rw[if_neg hs];exact key _ _ (h.idem a) (h.idem b) hab hs (h.le b hb)
theorem vr {ρ:Nat→Nat} {u v:Nat} (hu:ρ u=u) (hv:ρ v=v) (f:Nat→Bool):(∀i,f i=f (mg ρ u v i))↔(∀i,f i=f (ρ i))∧f u=f v:=by
 constructor
 ·intro h;have huv:f u=f v:=by have:=h u; unfold mg at this; rwa[if_pos hu] at this
  refine⟨fun i=>?_,huv⟩;have:=h i;unfold mg at this
  by_cases hi:ρ i=u
  ·rw[if_pos hi] at this; rw[this,hi,huv]
  ·rwa[if_neg hi] at this
 ·rintro⟨h,huv⟩ i;unfold mg
  by_cases hi:ρ i=u
  ·rw[if_pos hi,h i,hi,huv]
  ·rw[if_neg hi]; exact h i
theorem oQ (s:Nat):∀(E:List (Nat × Nat)) (ρ:Nat→Nat),Rho s ρ→(∀e ∈ E,e.1≤s∧e.2≤s)→(0<pb s ρ E↔Eb s ρ E)
 | [],ρ,h,_=>by
  simp only[pb];constructor
  ·intro h0;have hall:∀i,i<s→ρ i≠i:=fun i hi=>by
    by_cases hc:(List.range s).all (fun i=>ρ i != i)=true
    ·simpa using List.all_eq_true.1 hc i (List.mem_range.2 hi)
    ·rw[if_neg hc] at h0; omega
   intro f hf _ i hi;have h1:=h.le i hi;have h2:ρ i=s:=by
    by_cases h3:ρ i<s
    ·exact absurd (h.idem i) (hall _ h3)
    ·omega
   rw[hf i,h2]
  ·intro hu;have:(List.range s).all (fun i=>ρ i != i)=true:=by
    refine List.all_eq_true.2 fun i hi=>?_;have hi:=List.mem_range.1 hi
    by_cases hr:ρ i=i
    ·have h1:=hu (fun j=>ρ j == i) (fun j=>by simp[h.idem]) (fun e he=>nomatch he) i (Nat.le_of_lt hi)
     simp only[hr,h.top,beq_self_eq_true] at h1;have:s=i:=by simpa using h1.symm
     omega
    ·simpa using hr
   rw[if_pos this]; exact Nat.one_pos
 | (a,b)::E,ρ,h,hE=>by
  have ha:a≤s:=(hE (a,b) List.mem_cons_self).1;have hb:b≤s:=(hE (a,b) List.mem_cons_self).2;have hE':∀e ∈ E,e.1≤s∧e.2≤s:=fun e he=>hE e (List.mem_cons_of_mem _ he);have ih:=oQ s E ρ h hE';simp only[pb]
  by_cases hab:ρ a=ρ b
  ·rw[if_pos hab,Nat.add_zero,ih];refine⟨fun hu f hf he i hi=>hu f hf (fun e h1=>he e (List.mem_cons_of_mem _ h1)) i hi,fun hu f hf he i hi=>hu f hf (fun e h1=>?_) i hi⟩;rcases List.mem_cons.1 h1 with rfl|h1
   ·show f a=f b
    rw[hf a,hf b,hab]
   ·exact he e h1
  ·rw[if_neg hab];have hR:=h.step ha hb hab;have ih2:=oQ s E _ hR hE';have conn:∀f:Nat→Bool,(∀i,f i=f ((if ρ a=s then mg ρ (ρ b) (ρ a) else mg ρ (ρ a) (ρ b)) i))↔(∀i,f i=f (ρ i))∧f a=f b:=fun f=>by
    by_cases hs:ρ a=s
    ·simp only[if_pos hs];rw[vr (h.idem b) (h.idem a)];refine⟨fun g=>⟨g.1,by rw[g.1 a,g.1 b,g.2]⟩,fun g=>⟨g.1,by rw[←g.1 a,←g.1 b,g.2]⟩⟩
    ·simp only[if_neg hs];rw[vr (h.idem a) (h.idem b)];refine⟨fun g=>⟨g.1,by rw[g.1 a,g.1 b,g.2]⟩,fun g=>⟨g.1,by rw[←g.1 a,←g.1 b,g.2]⟩⟩
   have e2:Eb s (if ρ a=s then mg ρ (ρ b) (ρ a) else mg ρ (ρ a) (ρ b)) E↔Eb s ρ ((a,b)::E):=by
    refine⟨fun hu f hf he i hi=>hu f ((conn f).2 ⟨hf,he (a,b) List.mem_cons_self⟩) (fun e h1=>he e (List.mem_cons_of_mem _ h1)) i hi,fun hu f hf he i hi=>?_⟩;obtain⟨g1,g2⟩:=(conn f).1 hf;refine hu f g1 (fun e h1=>?_) i hi;rcases List.mem_cons.1 h1 with rfl|h1
    ·exact g2
    ·exact he e h1
   rw[←e2,←ih2];constructor
   ·intro h0
    by_cases h1:0<pb s ρ E
    ·refine ih2.2 (e2.2 fun f hf he i hi=>ih.1 h1 f hf (fun e h2=>he e (List.mem_cons_of_mem _ h2)) i hi)
    ·omega
   ·intro h0; omega
theorem xA (s:Nat):∀(E:List (Nat × Nat)) (ρ:Nat→Nat),pb s ρ E≤2 ^ E.length
 | [],ρ=>by simp only[pb,List.length_nil]; split<;>simp
 | (a,b)::E,ρ=>by
  simp only[pb,List.length_cons,Nat.pow_succ];have h1:=xA s E ρ
  split
  ·omega
  ·have h2:=xA s E (if ρ a=s then mg ρ (ρ b) (ρ a) else mg ρ (ρ a) (ρ b))
   omega
def uF (k i:Nat):Nat:=if i<k then i else k
def iN (φ:Nat→Nat) (E:List (Nat × Nat)):List (Nat × Nat):=E.map fun e=>(φ e.1,φ e.2)
theorem tj (φ:Nat→Nat) (i j:Nat):∀E,ir φ E i j=jK (fun i=>i) (iN φ E) i j
 | []=>by simp[ir,jK,se,iN]
 | e::E=>by
  have:=tj φ i j E;simp only[jK,se,iN,List.map_cons,ir,dl,if_true] at this ⊢;omega
theorem zc (φ:Nat→Nat) {k i j:Nat} (hi:i<k) (hj:j<k):∀E,ir φ E i j=ir (fun v=>uF k (φ v)) E i j
 | []=>rfl
 | e::E=>by
  have key:∀i,i<k→dl φ e i=dl (fun v=>uF k (φ v)) e i:=fun i hi=>by
   have h1:∀v,(i=uF k (φ v))=(i=φ v):=fun v=>propext (by unfold uF; split<;>omega)
   unfold dl;simp only[h1]
  simp only[ir];rw[zc φ hi hj E,key i hi,key j hj]
theorem uf (k i:Nat):uF k i≤k:=by unfold uF; split<;>omega
theorem qG (φ:Nat→Nat) (E:List (Nat × Nat)) (k:Nat):cy k (ir φ E)=(pb k (fun i=>i) (iN (fun v=>uF k (φ v)) E):Int):=by
 rw[←oW (iN (fun v=>uF k (φ v)) E) (fun i=>i) (fun _=>rfl) rfl fun e he=>?_]
 ·refine bF fun r c hr hc=>?_;rw[zc φ hr hc,tj]
 ·unfold iN at he;obtain⟨e',_,rfl⟩:=List.mem_map.1 he;exact⟨uf _ _,uf _ _⟩
theorem Bp (φ:Nat→Nat) (E:List (Nat × Nat)) (k:Nat):(cy k (ir φ E)).natAbs≤2 ^ E.length:=by
 rw[qG];have:=xA k (iN (fun v=>uF k (φ v)) E) fun i=>i;unfold iN at this;rw[List.length_map] at this;exact this
theorem zK (φ:Nat→Nat) (E:List (Nat × Nat)) (s:Nat) (h:∀e ∈ E,φ e.1≤s∧φ e.2≤s):cy s (ir φ E)=(pb s (fun i=>i) (iN φ E):Int):=by
 rw[←oW (iN φ E) (fun i=>i) (fun _=>rfl) rfl fun e he=>?_]
 ·exact bF fun r c _ _=>tj _ _ _ _
 ·unfold iN at he;obtain⟨e',h1,rfl⟩:=List.mem_map.1 he;exact h e' h1
theorem wg (φ:Nat→Nat) (E:List (Nat × Nat)) (s:Nat) (h:∀e ∈ E,φ e.1≤s∧φ e.2≤s) {k:Nat} (hk:k<s) (h0:cy (k+1) (ir φ E)=0):cy s (ir φ E)=0:=by
 rw[zK φ E s h];rw[qG] at h0;refine Int.natCast_eq_zero.2 (Nat.eq_zero_of_not_pos fun hp=>?_);have hs:∀e ∈ iN φ E,e.1≤s∧e.2≤s:=fun e he=>by
  obtain⟨e',h1,rfl⟩:=List.mem_map.1 he;exact h e' h1
 have hk':∀e ∈ iN (fun v=>uF (k+1) (φ v)) E,e.1≤k+1∧e.2≤k+1:=fun e he=>by
  obtain⟨e',_,rfl⟩:=List.mem_map.1 he;exact⟨uf _ _,uf _ _⟩
 have hu:=(oQ s _ _ (Rho.id s) hs).1 hp;have hz:0<pb (k+1) (fun i=>i) (iN (fun v=>uF (k+1) (φ v)) E):=by
  refine(oQ (k+1) _ _ (Rho.id _) hk').2 fun f hf he i hi=>?_;have h1:=fun j hj=>hu (fun j=>f (uF (k+1) j)) (fun _=>rfl) (fun e h2=>?_) j hj
  ·have c1:uF (k+1) s=k+1:=by unfold uF; rw[if_neg (by omega)]
   have h2:=h1 i (by omega)
   rw[c1] at h2
   by_cases hik:i=k+1
   ·rw[hik]
   ·have c2:uF (k+1) i=i:=by unfold uF; rw[if_pos (by omega)]
    rwa[c2] at h2
  ·obtain⟨e',h3,rfl⟩:=List.mem_map.1 h2;exact he (uF (k+1) (φ e'.1),uF (k+1) (φ e'.2)) (List.mem_map.2 ⟨e',h3,rfl⟩)
 omega
theorem FH (φ:Nat→Nat) (E:List (Nat × Nat)) (s:Nat) (h:∀e ∈ E,φ e.1≤s∧φ e.2≤s):G9 s 0 (ir φ E) 1=(pb s (fun i=>i) (iN φ E):Int):=by
 rw[←zK φ E s h];exact zo (fun k hk h0=>wg φ E s h hk h0) s 0 _ 1 (Nat.add_zero _) (Bar.start _ _)
def Nb (E:List (Nat × Nat)) (x y:Nat):Prop:=(x,y) ∈ E∨(y,x) ∈ E
inductive Cn (E:List (Nat × Nat)) (i:Nat):Nat→Prop
 | refl:Cn E i i
 | step {j k:Nat}:Cn E i j→Nb E j k→Cn E i k
section
variable {E E' : List (Nat × Nat)} {i j k x y : Nat}
theorem Nb.symm (h:Nb E x y):Nb E y x:=h.elim .inr .inl
theorem Cn.trans (h:Cn E i j) (h':Cn E j k):Cn E i k:=by
 induction h' with
 | refl=>exact h
 | step _ a ih=>exact .step ih a
theorem Cn.one (h:Nb E x y):Cn E x y:=.step .refl h
theorem Cn.symm (h:Cn E i j):Cn E j i:=by
 induction h with
 | refl=>exact .refl
 | step _ a ih=>exact(Cn.one a.symm).trans ih
theorem Nb.mono (hs:∀e ∈ E,e ∈ E') (h:Nb E x y):Nb E' x y:=h.elim (fun h=>.inl (hs _ h)) fun h=>.inr (hs _ h)
theorem Cn.mono (hs:∀e ∈ E,e ∈ E') (h:Cn E i j):Cn E' i j:=by
 induction h with
 | refl=>exact .refl
 | step _ a ih=>exact .step ih (a.mono hs)
theorem Cn.closed {Q:Nat→Prop} (h:Cn E i j) (hi:Q i) (hc:∀x y,Q x→Nb E x y→Q y):Q j:=by
 induction h with
 | refl=>exact hi
 | step _ a ih=>exact hc _ _ ih a
theorem IC:Cn [] i j↔i=j:=⟨fun h=>h.closed (Q:=fun j=>i=j) rfl fun _ _ _ h=>by rcases h with h|h<;>simp at h,fun h=>h ▸ .refl⟩
theorem EU {a b:Nat}:Cn ((a,b)::E) i j↔Cn E i j∨(Cn E i a∧Cn E b j)∨(Cn E i b∧Cn E a j):=by
 constructor
 ·intro h;refine h.closed (Q:=fun j=>Cn E i j∨(Cn E i a∧Cn E b j)∨(Cn E i b∧Cn E a j)) (.inl .refl) fun x y hx hn=>?_;have old:Nb E x y→Cn E i y∨(Cn E i a∧Cn E b y)∨(Cn E i b∧Cn E a y):=fun hn=>by
   rcases hx with h|⟨h1,h2⟩|⟨h1,h2⟩
   ·exact .inl (.step h hn)
   ·exact .inr (.inl ⟨h1,.step h2 hn⟩)
   ·exact .inr (.inr ⟨h1,.step h2 hn⟩)
  rcases hn with hn|hn
  ·rcases List.mem_cons.1 hn with e|hn
   ·cases e;rcases hx with h|⟨h1,h2⟩|⟨h1,h2⟩
    ·exact .inr (.inl ⟨h,.refl⟩)
    ·exact .inr (.inl ⟨h1,.refl⟩)
    ·exact .inl h1
   ·exact old (.inl hn)
  ·rcases List.mem_cons.1 hn with e|hn
   ·cases e;rcases hx with h|⟨h1,h2⟩|⟨h1,h2⟩
    ·exact .inr (.inr ⟨h,.refl⟩)
    ·exact .inl h1
    ·exact .inr (.inr ⟨h1,.refl⟩)
   ·exact old (.inr hn)
 ·have up:∀{x y},Cn E x y→Cn ((a,b)::E) x y:=fun h=>h.mono fun e he=>by simp[he]
  have ab:Cn ((a,b)::E) a b:=.one (.inl (by simp))
  rintro(h|⟨h1,h2⟩|⟨h1,h2⟩)
  ·exact up h
  ·exact((up h1).trans ab).trans (up h2)
  ·exact((up h1).trans ab.symm).trans (up h2)
theorem F5 (h:∀e,e ∈ E↔e ∈ E'):Cn E i j↔Cn E' i j:=⟨fun g=>g.mono fun e he=>(h e).1 he,fun g=>g.mono fun e he=>(h e).2 he⟩
def bP (r:Nat→Nat) (e:Nat × Nat):Nat→Nat:=fun x=>if r x=max (r e.1) (r e.2) then min (r e.1) (r e.2) else r x
structure Rt (r:Nat→Nat) (E:List (Nat × Nat)):Prop where
 le:∀x,r x≤x
 rr:∀x,r (r x)=r x
 cn:∀x y,r x=r y↔Cn E x y
theorem Rt.id:Rt (fun x=>x) []:=⟨fun _=>Nat.le_refl _,fun _=>rfl,fun _ _=>IC.symm⟩
theorem ld {r:Nat→Nat} {e:Nat × Nat} (h:r e.1=r e.2):bP r e=r:=by
 funext x
 simp only[bP,h,Nat.max_self,Nat.min_self]
 split
 ·rename_i h; exact h.symm
 ·rfl
theorem Rt.join {r:Nat→Nat} (h:Rt r E) (e:Nat × Nat):Rt (bP r e) (e::E):=by
 obtain⟨a,b⟩:=e;have hmin:∀x,bP r (a,b) x≤r x:=fun x=>by
  simp only[bP]; split<;>omega
 have hm1:r (min (r a) (r b))=min (r a) (r b):=by
  rcases Nat.le_total (r a) (r b) with h1|h1
  ·rw[Nat.min_eq_left h1,h.rr]
  ·rw[Nat.min_eq_right h1,h.rr]
 refine⟨fun x=>Nat.le_trans (hmin x) (h.le x),fun x=>?_,fun x y=>?_⟩
 ·simp only[bP]
  by_cases h1:r x=max (r a) (r b)
  ·rw[if_pos h1,hm1]
   split<;>omega
  ·rw[if_neg h1,h.rr,if_neg h1]
 ·rw[EU,←h.cn,←h.cn,←h.cn,←h.cn,←h.cn];simp only[bP];have h2:max (r a) (r b)=r a∧min (r a) (r b)=r b∨max (r a) (r b)=r b∧min (r a) (r b)=r a:=by omega
  split<;>split<;>omega
theorem Rt.KM:∀{T E:List (Nat × Nat)} {r:Nat→Nat},Rt r E→Rt (T.foldl bP r) (T.reverse++E):=by
 intro T
 induction T with
 | nil=>intro E r h; exact h
 | cons e T ih =>
  intro E r h;have:=ih (h.join e);rwa[List.foldl_cons,List.reverse_cons,List.append_assoc]
def rep (T:List (Nat × Nat)):Nat→Nat:=T.foldl bP (fun x=>x)
theorem tC (T:List (Nat × Nat)):Rt (rep T) T.reverse:=by
 have:=Rt.KM (T:=T) Rt.id;rwa[List.append_nil] at this
theorem xC {T:List (Nat × Nat)}:rep T x=rep T y↔Cn T x y:=((tC T).cn x y).trans (F5 fun e=>List.mem_reverse)
def iI (V:List Nat) (r:Nat→Nat):Nat:=(V.filter fun v=>r v == v).length
theorem j8 {p q:Nat→Bool} {a:Nat}:∀{V:List Nat},V.Nodup→a ∈ V→p a=true→(∀v,q v=true↔p v=true∧v≠a)→(V.filter p).length=(V.filter q).length+1:=by
 intro V
 induction V with
 | nil=>intro _ h; cases h
 | cons v V ih =>
  intro hn ha hp hq;rw[List.nodup_cons] at hn
  by_cases e:v=a
  ·subst e;have hqa:q v=false:=by
    cases h:q v with
    | false=>rfl
    | true=>exact absurd rfl ((hq v).1 h).2
   rw[List.filter_cons_of_pos hp,List.filter_cons_of_neg (by simp[hqa]),List.length_cons]
   congr 2
   refine List.filter_congr fun x hx=>?_;have hne:x≠v:=fun e=>hn.1 (e ▸ hx);have:=hq x;cases h1:p x<;>cases h2:q x<;>simp_all
  ·have ha':a ∈ V:=by rcases List.mem_cons.1 ha with h|h; exact absurd h.symm e; exact h
   have:=ih hn.2 ha' hp hq;have hv:q v=p v:=by
    have:=hq v;cases h1:p v<;>cases h2:q v<;>simp_all
   by_cases h1:p v=true
   ·rw[List.filter_cons_of_pos h1,List.filter_cons_of_pos (by rw[hv]; exact h1),List.length_cons,List.length_cons,this]
   ·rw[List.filter_cons_of_neg h1,List.filter_cons_of_neg (by rw[hv]; exact h1),this]
theorem xS {V:List Nat} {r:Nat→Nat} {e:Nat × Nat} (hV:V.Nodup) (hr:∀x,r (r x)=r x) (h1:r e.1 ∈ V) (h2:r e.2 ∈ V) (hne:r e.1≠r e.2):iI V r=iI V (bP r e)+1:=by
 have hm:max (r e.1) (r e.2) ∈ V:=by
  rcases Nat.le_total (r e.1) (r e.2) with h|h
  ·rwa[Nat.max_eq_right h]
  ·rwa[Nat.max_eq_left h]
 have hrm:r (max (r e.1) (r e.2))=max (r e.1) (r e.2):=by
  rcases Nat.le_total (r e.1) (r e.2) with h|h
  ·rw[Nat.max_eq_right h,hr]
  ·rw[Nat.max_eq_left h,hr]
 refine j8 (a:=max (r e.1) (r e.2)) hV hm (by simp only[beq_iff_eq]; exact hrm) fun v=>?_
 simp only[beq_iff_eq,bP];constructor
 ·intro h
  split at h
  ·rename_i h3;exfalso;have h4:r v=v:=by rw[←h] at h3 ⊢; rcases Nat.le_total (r e.1) (r e.2) with h|h<;>simp only[Nat.min_eq_left h,Nat.min_eq_right h,hr]
   omega
  ·rename_i h3; exact⟨h,fun e=>h3 (by rw[e,hrm])⟩
 ·rintro⟨h,h3⟩;rw[if_neg (by rw[h]; exact h3)]; exact h
def mh (r:Nat→Nat):List (Nat × Nat)→Nat
 | []=>0
 | e::T=>(if r e.1=r e.2 then 0 else 1)+mh (bP r e) T
def aU (r:Nat→Nat):List (Nat × Nat)→Bool
 | []=>true
 | e::T=>!(r e.1 == r e.2) && aU (bP r e) T
theorem qF:∀(T:List (Nat × Nat)) (r:Nat→Nat),mh r T≤T.length
 | [],_=>Nat.le_refl _
 | e::T,r=>by
  have:=qF T (bP r e);simp only[mh,List.length_cons]
  split<;>omega
theorem nM:∀(T:List (Nat × Nat)) (r:Nat→Nat),mh r T=T.length↔aU r T=true
 | [],_=>by simp[mh,aU]
 | e::T,r=>by
  have h1:=qF T (bP r e);have h2:=nM T (bP r e);simp only[mh,List.length_cons,aU,Bool.and_eq_true,Bool.not_eq_true',beq_eq_false_iff_ne,ne_eq]
  by_cases h:r e.1=r e.2
  ·rw[if_pos h]; simp[h]; omega
  ·rw[if_neg h,←h2]; simp[h]; omega
theorem nO {V:List Nat} (hV:V.Nodup):∀(T:List (Nat × Nat)) {E:List (Nat × Nat)} {r:Nat→Nat},Rt r E→(∀x ∈ V,r x ∈ V)→(∀e ∈ T,e.1 ∈ V∧e.2 ∈ V)→iI V r=iI V (T.foldl bP r)+mh r T∧∀x ∈ V,T.foldl bP r x ∈ V
 | [],_,_,_,hv,_=>⟨rfl,hv⟩
 | e::T,E,r,h,hv,ht=>by
  have he:=ht e (by simp)
  have hv':∀x ∈ V,bP r e x ∈ V:=fun x hx=>by
   simp only[bP]
   split
   ·rcases Nat.le_total (r e.1) (r e.2) with h|h
    ·rw[Nat.min_eq_left h]; exact hv _ he.1
    ·rw[Nat.min_eq_right h]; exact hv _ he.2
   ·exact hv x hx
  have ih:=nO hV T (h.join e) hv' fun e he=>ht e (by simp[he])
  refine⟨?_,ih.2⟩;rw[List.foldl_cons];simp only[mh]
  by_cases hne:r e.1=r e.2
  ·rw[if_pos hne,Nat.zero_add,←ih.1,ld hne]
  ·rw[if_neg hne,xS hV h.rr (hv _ he.1) (hv _ he.2) hne,ih.1]; omega
theorem Cy (V:List Nat):iI V (fun x=>x)=V.length:=by simp[iI]
theorem iB {V:List Nat} (hV:V.Nodup) {T:List (Nat × Nat)} (ht:∀e ∈ T,e.1 ∈ V∧e.2 ∈ V):V.length=iI V (rep T)+mh (fun x=>x) T∧∀x ∈ V,rep T x ∈ V:=by
 have:=nO hV T Rt.id (fun x h=>h) ht;rwa[Cy] at this
theorem qY {p:Nat→Bool}:∀{V:List Nat},V.Nodup→(∀i j,i ∈ V→j ∈ V→p i=true→p j=true→i=j)→(V.filter p).length≤1:=by
 intro V
 induction V with
 | nil=>intro _ _; exact Nat.zero_le _
 | cons v V ih =>
  intro hn h;rw[List.nodup_cons] at hn
  by_cases hp:p v=true
  ·rw[List.filter_cons_of_pos hp];have:V.filter p = []:=List.filter_eq_nil_iff.2 fun x hx hpx=>hn.1 ((h v x (by simp) (by simp[hx]) hp hpx) ▸ hx)
   rw[this]; exact Nat.le_refl _
  ·rw[List.filter_cons_of_neg hp];exact ih hn.2 fun i j hi hj=>h i j (by simp[hi]) (by simp[hj])
theorem Ar {V:List Nat} (hV:V.Nodup) {T:List (Nat × Nat)} (ht:∀e ∈ T,e.1 ∈ V∧e.2 ∈ V):iI V (rep T)≤1↔∀x ∈ V,∀y ∈ V,Cn T x y:=by
 have hr:=tC T;have hv:=(iB hV ht).2;constructor
 ·intro h x hx y hy;rw[←xC];have hmem:∀z ∈ V,rep T z ∈ V.filter fun v=>rep T v == v:=fun z hz=>List.mem_filter.2 ⟨hv z hz,by simp only[beq_iff_eq]; exact hr.rr z⟩
  have one:∀{l:List Nat} {a b:Nat},l.length≤1→a ∈ l→b ∈ l→a=b:=by
   intro l a b hl ha hb
   match l with
   | []=>cases ha
   | [c]=>rw[List.mem_singleton.1 ha,List.mem_singleton.1 hb]
   | _::_::_=>simp at hl
  exact one h (hmem x hx) (hmem y hy)
 ·intro h;refine qY hV fun i j hi hj h1 h2=>?_;have:=xC.2 (h i hi j hj);rw[←eq_of_beq h1,←eq_of_beq h2,this]
theorem AN {V:List Nat} (hV:V.Nodup) {T:List (Nat × Nat)} (ht:∀e ∈ T,e.1 ∈ V∧e.2 ∈ V) {x:Nat} (hx:x ∈ V):0<iI V (rep T) :=
 List.length_pos_of_mem (List.mem_filter.2 ⟨(iB hV ht).2 x hx,by simp only[beq_iff_eq]; exact(tC T).rr x⟩)
theorem DG {V:List Nat} (hV:V.Nodup) {T:List (Nat × Nat)} (ht:∀e ∈ T,e.1 ∈ V∧e.2 ∈ V) {x:Nat} (hx:x ∈ V) (hl:T.length+1=V.length):aU (fun x=>x) T=true↔∀y ∈ V,Cn T x y:=by
 have h1:=(iB hV ht).1;have h2:=qF T fun x=>x;have h3:=AN hV ht hx;rw[←nM];have:iI V (rep T)≤1↔∀y ∈ V,Cn T x y:=(Ar hV ht).trans ⟨fun h y hy=>h x hx y hy,fun h y hy z hz=>(h y hy).symm.trans (h z hz)⟩;rw[←this];omega
end
end Go.Ab.T30
end

section
namespace Go.Ab.W
open Go Go.Ab
theorem Lq:uM .u64=2 ^ 64:=rfl
theorem gC {a:Nat} (h:a<2 ^ 64):uw .u64 a=a:=Nat.mod_eq_of_lt h
theorem vV {a:Nat} (h:a<2 ^ 64) {i:Nat} (hi:a.testBit i=true):i<64:=by
 rcases Nat.lt_or_ge i 64 with h1|h1
 ·exact h1
 ·have:a<2 ^ i:=Nat.lt_of_lt_of_le h (Nat.pow_le_pow_right (by decide) h1)
  rw[Nat.testBit_lt_two_pow this] at hi; cases hi
theorem wK {a b:Nat} (ha:a<2 ^ 64) (hb:b<2 ^ 64):uw .u64 (uw .u64 a &&& uw .u64 b)=a &&& b:=by
 rw[gC ha,gC hb,gC (Nat.lt_of_le_of_lt Nat.and_le_left ha)]
theorem zJ {a b:Nat} (ha:a<2 ^ 64) (hb:b<2 ^ 64):uw .u64 (uw .u64 a ||| uw .u64 b)=a ||| b:=by
 rw[gC ha,gC hb,gC (Nat.or_lt_two_pow ha hb)]
theorem Gc {a b:Nat} (ha:a<2 ^ 64):a &&& b<2 ^ 64:=Nat.lt_of_le_of_lt Nat.and_le_left ha
theorem DK {k:Nat} (h:k<64):fc .u64 1 k=2 ^ k:=by
 unfold fc;rw[Nat.min_eq_left (Nat.le_of_lt (show k<IntKind.bits .u64 from h)),Nat.one_mul]
 exact gC (Nat.pow_lt_pow_right (by decide) h)
theorem HF {k:Nat} (h:k<64):2 ^ k<2 ^ 64:=Nat.pow_lt_pow_right (by decide) h
theorem Cu (k i:Nat):(2 ^ k).testBit i=decide (i=k):=by
 rw[Nat.testBit_two_pow]
 by_cases h:k=i
 ·simp[h]
 ·simp[h,Ne.symm h]
theorem G2 {k:Int} (h0:0≤k) (h1:k<64):ui .u64 k=k.toNat:=by
 unfold ui;rw[Int.emod_eq_of_lt h0 (by rw[Lq]; omega)]
theorem fx {a k:Nat} (h:k≤64):bI .u64 a k=a >>> k:=by
 unfold bI;rw[Nat.min_eq_left (show k≤IntKind.bits .u64 from h),Nat.shiftRight_eq_div_pow]
theorem uC {a k:Nat} (ha:a<2 ^ 64) (h:k≤64):decide (uw .u64 (uw .u64 (bI .u64 a k) &&& uw .u64 1)=1)=a.testBit k:=by
 have hs:a >>> k<2 ^ 64:=Nat.lt_of_le_of_lt (by rw[Nat.shiftRight_eq_div_pow]; exact Nat.div_le_self _ _) ha
 rw[fx h,wK hs (by decide),Nat.testBit]
 rw[Nat.and_comm];have h2:1 &&& a >>> k=(a >>> k)%2:=by rw[Nat.and_comm,Nat.and_one_is_mod]
 rw[h2];rcases Nat.mod_two_eq_zero_or_one (a >>> k) with h3|h3<;>rw[h3]<;>rfl
theorem sP {x:Nat} (h0:0<x) (h1:x<2 ^ 64):x.testBit (tz x)=true∧∀i,i<tz x→x.testBit i=false:=by
 obtain⟨h2,_,q,hq⟩:=pH h0 h1;have key:∀i,x.testBit i=(decide (tz x≤i) && (2*q+1).testBit (i-tz x)):=fun i=>by
  conv=>lhs; rw[hq]
  rw[Nat.testBit_two_pow_mul]
 refine⟨?_,fun i hi=>?_⟩
 ·rw[key,Nat.sub_self];simp[Nat.testBit_zero]
 ·rw[key,decide_eq_false (by omega)]; rfl
section
variable {σ ρ τ : Type}
end
end Go.Ab.W
end

section
namespace Go.Proofs.YtookeaakpiefjaaDoor
open Go Go.Ab Go.Ab.W
section
variable {α β σ ρ : Type}
theorem dc (a b:Option β):br true a b=a:=rfl
theorem dO (a b:Option β):br false a b=b:=rfl
theorem aV (a:Option β):gd true a=a:=rfl
theorem aq (x:α) (f:α→Option β):ob (some x) f=f x:=rfl
theorem bm {p:Prop} [Decidable p] (h:p) (a b:Option β):br (decide p) a b=a:=by rw[decide_eq_true h]; rfl
theorem aX {p:Prop} [Decidable p] (h:¬p) (a b:Option β):br (decide p) a b=b:=by rw[decide_eq_false h]; rfl
theorem tw (c:Bool) (a b:Option β):br c a b=if c then a else b:=by cases c<;>rfl
theorem cQ {p:Prop} [Decidable p] (h:p) (a:Option β):gd (decide p) a=a:=by rw[decide_eq_true h]; rfl
theorem aC {i n:Nat} (h:i<n):bZ (i:Int) n=true:=decide_eq_true ⟨Int.natCast_nonneg i,by simpa using h⟩
theorem bt {x:Int} (h1 : -9223372036854775808≤x) (h2:x<9223372036854775808):IntKind.wrap .i64 x=x:=wrap_i64 x h1 (by omega)
theorem bE {i:Nat} (h:i<4611686018427387904):IntKind.wrap .i64 ((i:Int)+1)=((i+1:Nat):Int):=by rw[bt (by omega) (by omega)]; rfl
theorem aR {body:σ→Option (σ ⊕ ρ)} {n:Nat} {s s':σ} (h:body s=some (.inl s')):cx body (n+1) s=cx body n s':=by simp only[cx,h]
theorem bB {body:σ→Option (σ ⊕ ρ)} {n:Nat} {s:σ} {r:ρ} (h:body s=some (.inr r)):cx body (n+1) s=some r:=by simp only[cx,h]
end
def mw (N:Int):Int × Int→List (Int × Int)→Bool
 | _,[]=>true
 | p,e::es=>decide (0≤e.1∧e.1<e.2∧e.2<N) && decide (p.1<e.1∨p.1=e.1∧p.2<e.2) && mw N e es
def ra (N:Int) (es:List (Int × Int)):Bool:=decide (1≤N∧N≤64∧es.length≤200) && mw N (-1,-1) es
def Jd (N:Int) (es:List (Int × Int)):Int:=if ra N es then 0 else 180
theorem HT (n:Nat) (x:Int):Ha n x=some false:=by unfold Ha; simp
theorem C6 (n:Nat) (x y:Int):IP n x y=some (if x<y then -1 else if y<x then 1 else 0):=by
 unfold IP;simp only[HT,aq,dO];rw[tw,tw]
 by_cases h:x<y
 ·simp[h]
 ·by_cases h':y<x<;>simp[h,h']
theorem IA (n:Nat) (a b c d:Int) (hn:2<n):G1 n [a,b] [c,d]=some (if a<c then -1 else if c<a then 1 else if b<d then -1 else if d<b then 1 else 0):=by
 obtain⟨n,rfl⟩:∃n',n=n'+3:=⟨n-3,by omega⟩
 have L0:jy (n+3) [a,b] [c,d] 0=if a<c then some (.inr (.inl (-1))) else if c<a then some (.inr (.inl 1)) else some (.inl 1):=by
  unfold jy;simp only[List.length_cons,List.length_nil];rw[bm (by decide),show bZ 0 (0+1+1)=true by decide,aV]
  simp only[Int.toNat_zero,List.getElem?_cons_zero,aq];rw[aX (by decide),aV]
  simp only[C6,aq]
  by_cases h:a<c
  ·simp[h,dc]
  ·by_cases h':c<a
   ·simp[h,h',dc]
   ·simp only[h,h',if_false,decide_true,Bool.not_true,dO];rw[bt (by decide) (by decide)]; rfl
 have L1:jy (n+3) [a,b] [c,d] 1=if b<d then some (.inr (.inl (-1))) else if d<b then some (.inr (.inl 1)) else some (.inl 2):=by
  unfold jy;simp only[List.length_cons,List.length_nil];rw[bm (by decide),show bZ 1 (0+1+1)=true by decide,aV]
  simp only[show(1:Int).toNat=1 from rfl,List.getElem?_cons_succ,List.getElem?_cons_zero,aq]
  rw[aX (by decide),aV]
  simp only[C6,aq]
  by_cases h:b<d
  ·simp[h,dc]
  ·by_cases h':d<b
   ·simp[h,h',dc]
   ·simp only[h,h',if_false,decide_true,Bool.not_true,dO];rw[bt (by decide) (by decide)]; rfl
 have L2:jy (n+3) [a,b] [c,d] 2=some (.inr (.inr ())):=by
  unfold jy;simp only[List.length_cons,List.length_nil];rw[aX (by decide)]
 unfold G1
 by_cases h1:a<c
 ·rw[if_pos h1] at L0 ⊢;rw[bB L0]; rfl
 ·rw[if_neg h1] at L0 ⊢
  by_cases h2:c<a
  ·rw[if_pos h2] at L0 ⊢;rw[bB L0]; rfl
  ·rw[if_neg h2] at L0 ⊢;rw[aR L0]
   by_cases h3:b<d
   ·rw[if_pos h3] at L1 ⊢;rw[bB L1]; rfl
   ·rw[if_neg h3] at L1 ⊢
    by_cases h4:d<b
    ·rw[if_pos h4] at L1 ⊢;rw[bB L1]; rfl
    ·rw[if_neg h4] at L1 ⊢;rw[aR L1,bB L2,aq];simp only[List.length_cons,List.length_nil]
     rfl
def df (N:Int) (p e:Int × Int):Bool:=decide (0≤e.1∧e.1<e.2∧e.2<N) && decide (p.1<e.1∨p.1=e.1∧p.2<e.2)
theorem iy (N:Int) (p e:Int × Int) (es:List (Int × Int)):mw N p (e::es)=(df N p e && mw N e es):=rfl
theorem B2 (n:Nat) (l2:List (Int × Int)) (N:Int) (p:Int × Int) (i:Nat) (e:Int × Int) (hn:2<n) (hi:l2[i]? = some e) (hb:i<4611686018427387904) :
  pt n l2 N (p.1,p.2,(i:Int))=if df N p e then some (.inl (e.1,e.2,((i+1:Nat):Int))) else some (.inr (.inl ())):=by
 obtain⟨p1,p2⟩:=p;obtain⟨a,b⟩:=e;have a1:i<l2.length:=(List.getElem?_eq_some_iff.1 hi).1;have e1:l2[((i:Nat):Int).toNat]? = some (a,b):=by simpa using hi
 have c1:decide (((i:Nat):Int)<(l2.length:Int))=true:=decide_eq_true (by omega)
 simp only[pt,c1,dc,aC a1,aV,e1,aq,IA n _ _ _ _ hn,bE hb]
 by_cases h1:a<0
 ·have:df N (p1,p2) (a,b)=false:=by simp[df]; omega
  rw[this,bm h1,aq,dc]; rfl
 ·rw[aX h1]
  by_cases h2:b≤a
  ·have:df N (p1,p2) (a,b)=false:=by simp[df]; omega
   rw[this,bm h2,aq,dc]; rfl
  ·rw[aX h2]
   by_cases h3:N≤b
   ·have:df N (p1,p2) (a,b)=false:=by simp[df]; omega
    rw[this,bm h3,aq,dc]; rfl
   ·rw[aX h3,aq]
    by_cases h4:p1<a∨p1=a∧p2<b
    ·have:df N (p1,p2) (a,b)=true:=by simp[df]; omega
     have h5:¬(0≤(if p1<a then(-1:Int) else if a<p1 then 1 else if p2<b then -1 else if b<p2 then 1 else 0)):=by
      rcases h4 with h4|⟨h4,h5⟩
      ·rw[if_pos h4]; decide
      ·rw[if_neg (by omega),if_neg (by omega),if_pos h5]; decide
     rw[this,aX h5]; rfl
    ·have:df N (p1,p2) (a,b)=false:=by simp[df]; omega
     have h5:0≤(if p1<a then(-1:Int) else if a<p1 then 1 else if p2<b then -1 else if b<p2 then 1 else 0):=by
      rw[if_neg (by omega)]
      by_cases h6:a<p1
      ·rw[if_pos h6]; decide
      ·rw[if_neg h6,if_neg (by omega)]; split<;>decide
     rw[this,bm h5]; rfl
theorem IJ (n0:Nat) (l2:List (Int × Int)) (N:Int) (hn:2<n0) (hl:l2.length<4611686018427387904):∀k i p n,i+k=l2.length→k<n→cx (pt n0 l2 N) n (p.1,p.2,(i:Int))=some (if mw N p (l2.drop i) then .inr () else .inl ()):=by
 intro k
 induction k with
 | zero =>
  intro i p n hi hk;obtain⟨n,rfl⟩:∃n',n=n'+1:=⟨n-1,by omega⟩
  rw[List.drop_of_length_le (by omega)]
  exact bB (by simp only[pt]; rw[aX (by omega)]; rfl)
 | succ k ih =>
  intro i p n hi hk;obtain⟨n,rfl⟩:∃n',n=n'+1:=⟨n-1,by omega⟩
  have a1:i<l2.length:=by omega
  have hs:=B2 n0 l2 N p i l2[i] hn (by simp[a1]) (by omega)
  rw[List.drop_eq_getElem_cons a1,iy]
  by_cases h:df N p l2[i]=true
  ·rw[if_pos h] at hs;rw[aR hs,ih (i+1) l2[i] n (by omega) (by omega),h,Bool.true_and]
  ·rw[if_neg h] at hs;rw[bB hs];simp only[Bool.not_eq_true] at h;rw[h]; rfl
theorem head_eq (N:Int) (len:Nat):(br (decide (N<1)) (some true) (br (decide (64<N)) (some true) (some (decide (200<(len:Int))))))=some (!decide (1≤N∧N≤64∧len≤200)):=by
 rw[tw,tw]
 by_cases h1:N<1
 ·have:¬(1≤N∧N≤64∧len≤200):=by omega
  simp[h1,this]
 ·by_cases h2:64<N
  ·have:¬(1≤N∧N≤64∧len≤200):=by omega
   simp[h1,h2,this]
  ·by_cases h3:200<(len:Int)
   ·have:¬(1≤N∧N≤64∧len≤200):=by omega
    simp only[h1,h2,h3,this,decide_true,decide_false,Bool.false_eq_true,if_false,Bool.not_false]
   ·have:(1≤N∧N≤64∧len≤200):=by omega
    simp only[h1,h2,h3,this,decide_true,decide_false,Bool.false_eq_true,if_false,Bool.not_true,and_self]
theorem D9 (n:Nat) (N:Int) (es:List (Int × Int)) (hn:2<n) (hl:es.length<4611686018427387904) (hk:es.length<n):Jr n N es=some (Jd N es):=by
 unfold Jr;rw[head_eq,aq];unfold Jd ra
 by_cases h:1≤N∧N≤64∧es.length≤200
 ·rw[decide_eq_true h,Bool.not_true,dO,Bool.true_and];have:=IJ n es N hn hl es.length 0 (-1,-1) n (by omega) hk
  rw[List.drop_zero] at this;rw[show cx (pt n es N) n (-1,-1,0)=_ from this,aq]
  by_cases h2:mw N (-1,-1) es=true
  ·rw[if_pos h2,if_pos h2]
  ·rw[if_neg h2,if_neg h2]
 ·rw[decide_eq_false h,Bool.not_false,dc,Bool.false_and]; rfl
theorem uc {σ ρ:Type} {body:σ→Option (σ ⊕ ρ)} {R:ρ→Prop} (I:Nat→σ→Prop) (h:∀k s,I k s→(∃s',body s=some (.inl s')∧∃k',k'<k∧I k' s')∨∃r,body s=some (.inr r)∧R r):∀k s n,I k s→k<n→∃r,cx body n s=some r∧R r:=by
 intro k
 induction k using Nat.strongRecOn with
 | _ k ih =>
  intro s n hI hk;obtain⟨n,rfl⟩:∃n',n=n'+1:=⟨n-1,by omega⟩
  rcases h k s hI with⟨s',h1,k',h2,h3⟩|⟨r,h1,h2⟩
  ·obtain⟨r,h4,h5⟩:=ih k' h2 s' n h3 (by omega)
   exact⟨r,by rw[aR h1]; exact h4,h5⟩
  ·exact⟨r,bB h1,h2⟩
theorem fS {c:Bool} {a b:Option Bool} (ha:c=true→∃x,a=some x) (hb:c=false→∃x,b=some x):∃x,br c a b=some x:=by
 cases c with
 | true=>exact ha rfl
 | false=>exact hb rfl
theorem fK (x:Bool):∃y,some x=some y:=⟨x,rfl⟩
theorem ja {n:Nat} (h:n≤1073741824):oD n=true:=Nat.ble_eq_true_of_le h
theorem Ew (n0:Nat) (l4:List (Nat × Nat)) (N a b:Int) (hN:N≠0) (v:Bool) (n:Nat) (hn:3<n):∃r,cx (Ea n0 l4 N a b) n (v,0)=some r:=by
 obtain⟨r,h,_⟩:=uc (body:=Ea n0 l4 N a b) (R:=fun _=>True) (fun k s=>0≤s.2∧s.2+k=3) (fun k s hI=>by
  obtain⟨v,i⟩:=s;obtain⟨h1,h2⟩:=hI;simp only at h1 h2;simp only[Ea]
  by_cases c1:i<(l4.length:Int)
  ·rw[bm c1,aq]
   by_cases c2:i<3
   ·rw[decide_eq_true c2,dc];have hb:bZ i l4.length=true:=decide_eq_true ⟨h1,by omega⟩
    have hlt:i.toNat<l4.length:=by omega
    have he:l4[i.toNat]? = some l4[i.toNat]:=by simp[hlt]
    rw[hb,aV,he,aq];generalize l4[i.toNat]=e;obtain⟨x,y⟩:=e;simp only[aV];rw[cQ hN,cQ hN];have:∃z,br v (some true) (br (decide (Int.tmod (IntKind.wrap .i64 ((x:Nat):Int)) N=a)) (br (decide (Int.tmod (IntKind.wrap .i64 ((y:Nat):Int)) N=b)) (some true) (br (decide (Int.tmod (IntKind.wrap .i64 ((x:Nat):Int)) N=b)) (some (decide (Int.tmod (IntKind.wrap .i64 ((y:Nat):Int)) N=a))) (some false))) (br (decide (Int.tmod (IntKind.wrap .i64 ((x:Nat):Int)) N=b)) (some (decide (Int.tmod (IntKind.wrap .i64 ((y:Nat):Int)) N=a))) (some false)))=some z :=
     fS (fun _=>fK _) fun _=>fS (fun _=>fS (fun _=>fK _) fun _=>fS (fun _=>fK _) fun _=>fK _) fun _=>fS (fun _=>fK _) fun _=>fK _
    obtain⟨z,hz⟩:=this;refine .inl ⟨(z,i+1),?_,k-1,by omega,by simp only; omega,by simp only; omega⟩
    rw[hz,aq,bt (by omega) (by omega)]
   ·rw[decide_eq_false c2,dO]; exact .inr ⟨v,rfl,trivial⟩
  ·rw[aX c1,aq,dO]; exact .inr ⟨v,rfl,trivial⟩) 3 (v,0) n ⟨by simp,by simp⟩ hn
 exact⟨r,h⟩
def Le (es:List (Int × Int)) (i j:Nat):Prop:=((i:Int),(j:Int)) ∈ es∨((j:Int),(i:Int)) ∈ es
theorem Ag {N:Int}:∀{es:List (Int × Int)} {p:Int × Int},mw N p es=true→∀e ∈ es,0≤e.1∧e.1<e.2∧e.2<N
 | [],_,_,e,he=>by cases he
 | x::es,p,h,e,he=>by
  rw[iy,Bool.and_eq_true] at h;rcases List.mem_cons.1 he with rfl|he
  ·simp only[df,Bool.and_eq_true,decide_eq_true_eq] at h;exact h.1.1
  ·exact Ag h.2 e he
structure Okay (N:Nat) (es:List (Int × Int)):Prop where
 pos:1≤N
 le:N≤64
 len:es.length≤200
 mem:∀e ∈ es,∃a b:Nat,e=((a:Int),(b:Int))∧a<b∧b<N
theorem ue {N:Int} {es:List (Int × Int)} (h:ra N es=true):∃M:Nat,N=(M:Int)∧Okay M es:=by
 simp only[ra,Bool.and_eq_true,decide_eq_true_eq] at h;obtain⟨⟨h1,h2,h3⟩,h4⟩:=h;obtain⟨M,rfl⟩:=Int.eq_ofNat_of_zero_le (show 0≤N by omega)
 refine⟨M,rfl,by omega,by omega,h3,fun e he=>?_⟩
 obtain⟨g1,g2,g3⟩:=Ag h4 e he;obtain⟨a,b⟩:=e;obtain⟨a,rfl⟩:=Int.eq_ofNat_of_zero_le (show 0≤a from g1)
 obtain⟨b,rfl⟩:=Int.eq_ofNat_of_zero_le (show 0≤b by simp only at g1 g2; omega)
 exact⟨a,b,rfl,by simp only at g2; omega,by simp only at g3; omega⟩
theorem Okay.Le {N:Nat} {es:List (Int × Int)} (h:Okay N es) {i j:Nat} (ha:Le es i j):i<N∧j<N∧i≠j:=by
 rcases ha with ha|ha
 ·obtain⟨a,b,e,h1,h2⟩:=h.mem _ ha;simp only[Prod.mk.injEq,Int.natCast_inj] at e;omega
 ·obtain⟨a,b,e,h1,h2⟩:=h.mem _ ha;simp only[Prod.mk.injEq,Int.natCast_inj] at e;omega
def bl (x:Nat):Nat:=if x=0 then 0 else Nat.log2 x+1
theorem j9 {x k:Nat}:k<bl x↔2 ^ k≤x:=by
 unfold bl
 by_cases h:x=0
 ·subst h;rw[if_pos rfl];have:=Nat.two_pow_pos k;omega
 ·rw[if_neg h,Nat.lt_succ_iff,Nat.le_log2 h]
theorem Ap {x m:Nat} (h:∀k,k<m↔2 ^ k≤x):m=bl x:=by
 rcases Nat.lt_trichotomy m (bl x) with h1|h1|h1
 ·have:=(h m).2 (j9.1 h1); omega
 ·exact h1
 ·have:=j9.2 ((h (bl x)).1 h1); omega
theorem Ca {x s:Nat} (h:2 ^ s≤x):bl (x >>> s)+s=bl x:=by
 refine Ap fun k=>?_;rw[Nat.shiftRight_eq_div_pow]
 by_cases hk:k<s
 ·have:2 ^ k≤2 ^ s:=Nat.pow_le_pow_right (by decide) (by omega)
  constructor
  ·intro _; omega
  ·intro _; omega
 ·obtain⟨d,rfl⟩:∃d,k=d+s:=⟨k-s,by omega⟩
  have h1:=j9 (x:=x/2 ^ s) (k:=d);have h2:2 ^ (d+s)≤x↔2 ^ d≤x/2 ^ s:=by rw[Nat.pow_add,Nat.le_div_iff_mul_le (Nat.two_pow_pos s)]
  rw[h2,←h1]; omega
theorem Hx:∀y:Fin 256,fo[y.val]? = some (bl y.val):=by decide +kernel
theorem GG {x s:Nat} (h:x<2 ^ s):bl x≤s:=by
 rcases Nat.lt_or_ge s (bl x) with h1|h1
 ·have:=j9.1 h1; omega
 ·exact h1
theorem p6 (s y m:Nat) (hs:s≤32) (hy:y<2 ^ (2*s)) (hm:m≤64):∃y' m':Nat,br (decide (2 ^ s≤y)) (some (bI .u64 y s,IntKind.wrap .i64 ((m:Int)+(s:Int)))) (some (y,(m:Int)))=some (y',(m':Int))∧y'<2 ^ s∧bl y'+m'=bl y+m∧m'≤m+s:=by
 by_cases h:2 ^ s≤y
 ·refine⟨y >>> s,m+s,?_,?_,?_,Nat.le_refl _⟩
  ·rw[bm h,fx (by omega),bt (by omega) (by omega)]; rfl
  ·rw[Nat.shiftRight_eq_div_pow,Nat.div_lt_iff_lt_mul (Nat.two_pow_pos s),←Nat.pow_add];rw[Nat.two_mul] at hy; exact hy
  ·have:=Ca h; omega
 ·exact⟨y,m,aX h _ _,by omega,rfl,by omega⟩
theorem xJ (n x:Nat) (hx:x<2 ^ 64):Ji n x=some ((bl x:Nat):Int):=by
 unfold Ji;obtain⟨y1,m1,e1,h1,b1,g1⟩:=p6 32 x 0 (by omega) hx (by omega)
 have e1':br (decide (4294967296≤x)) (some (bI .u64 x 32,(32:Int))) (some (x,0))=some (y1,(m1:Int)):=e1;rw[e1',aq];obtain⟨y2,m2,e2,h2,b2,g2⟩:=p6 16 y1 m1 (by omega) h1 (by omega)
 have e2':br (decide (65536≤y1)) (some (bI .u64 y1 16,IntKind.wrap .i64 ((m1:Int)+16))) (some (y1,(m1:Int)))=some (y2,(m2:Int)):=e2;simp only[e2',aq];obtain⟨y3,m3,e3,h3,b3,g3⟩:=p6 8 y2 m2 (by omega) h2 (by omega)
 have e3':br (decide (256≤y2)) (some (bI .u64 y2 8,IntKind.wrap .i64 ((m2:Int)+8))) (some (y2,(m2:Int)))=some (y3,(m3:Int)):=e3;simp only[e3',aq];have h3:y3<256:=h3;have e:uw .u8 y3=y3:=Nat.mod_eq_of_lt h3;have h8:bl y3≤8:=GG h3;have ht:fo[y3]? = some (bl y3):=Hx ⟨y3,h3⟩;have w1:IntKind.wrap .i64 ((bl y3:Nat):Int)=((bl y3:Nat):Int):=bt (by omega) (by omega)
 rw[e,aC h3,aV,Int.toNat_natCast,ht,aq,w1,bt (by omega) (by omega)]
 simp only[Option.some.injEq]; omega
theorem Dy (n x i:Nat) (hx:x<2 ^ 64) (hi:i<64):I9 n x ((i:Nat):Int)=some (x.testBit i):=by
 unfold I9;rw[G2 (by omega) (by omega),Int.toNat_natCast,uC hx (by omega)]
theorem Hv (n i:Nat) (hi:i<64):KC n ((i:Nat):Int)=some (2 ^ i):=by
 unfold KC;rw[G2 (by omega) (by omega),Int.toNat_natCast,DK hi]
inductive Rch (es:List (Int × Int)) (S:Nat) (i:Nat):Nat→Prop
 | refl:Rch es S i i
 | step {j k:Nat} (h:Rch es S i j) (ha:Le es j k) (hk:S.testBit k=true):Rch es S i k
theorem Rch.mem {es:List (Int × Int)} {S i j:Nat} (h:Rch es S i j) (hi:S.testBit i=true):S.testBit j=true:=by
 cases h with
 | refl=>exact hi
 | step _ _ hk=>exact hk
theorem Rch.trans {es:List (Int × Int)} {S i j k:Nat} (h:Rch es S i j) (h':Rch es S j k):Rch es S i k:=by
 induction h' with
 | refl=>exact h
 | step _ ha hk ih=>exact .step ih ha hk
def Lu (es:List (Int × Int)) (S i w:Nat):Prop:=w<2 ^ 64∧∀j,w.testBit j=true↔Rch es S i j
inductive Cs (es:List (Int × Int)) (S:Nat):Nat→List Nat→Prop
 | nil:Cs es S 0 []
 | cons {r w:Nat} {L:List Nat} (h0:0<r) (hr:r<2 ^ 64) (hw:Lu es S (tz r) w) (t:Cs es S (Kq .u64 r w) L):Cs es S r (w::L)
def ec (x t:Nat):List Nat:=(List.range t).filter fun i=>x.testBit i
def rk (x v:Nat):Nat:=(ec x v).length
theorem oZ (x t:Nat):(ec x t).length≤t:=Nat.le_trans (List.length_filter_le _ _) (by simp)
theorem mN (x t:Nat):ec x (t+1)=ec x t++(if x.testBit t then[t] else[]):=by
 unfold ec;rw[List.range_succ,List.filter_append]
 by_cases h:x.testBit t<;>simp[h]
theorem dM {x t v:Nat}:v ∈ ec x t↔v<t∧x.testBit v=true:=by simp[ec]
theorem DJ {σ ρ τ:Type} {body:τ→Option (τ ⊕ ρ)} (N:Nat) (mk:σ→Int→τ) (fin:σ→ρ) (I:Nat→σ→Prop)
  (hs:∀s i,i<N→I i s→∃s',body (mk s (i:Int))=some (.inl (mk s' ((i+1:Nat):Int)))∧I (i+1) s') (he:∀s,I N s→body (mk s (N:Int))=some (.inr (fin s))) :
  ∀(k i n:Nat) (s:σ),i+k=N→I i s→k<n→∃s',cx body n (mk s (i:Int))=some (fin s')∧I N s':=by
 intro k
 induction k with
 | zero =>
  intro i n s hi hI hn;obtain⟨n,rfl⟩:∃n',n=n'+1:=⟨n-1,by omega⟩
  have:i=N:=by omega
  subst this;exact⟨s,by simp only[cx,he s hI],hI⟩
 | succ k ih =>
  intro i n s hi hI hn;obtain⟨n,rfl⟩:∃n',n=n'+1:=⟨n-1,by omega⟩
  obtain⟨s',h1,h2⟩:=hs s i (by omega) hI
  simp only[cx,h1];exact ih (i+1) n s' (by omega) h2 (by omega)
theorem iJ {σ ρ τ:Type} {body:τ→Option (τ ⊕ ρ)} (N:Nat) (mk:σ→Int→τ) (fin:σ→ρ) (I:Nat→σ→Prop)
  (hs:∀s i,i<N→I i s→∃s',body (mk s (i:Int))=some (.inl (mk s' ((i+1:Nat):Int)))∧I (i+1) s') (he:∀s,I N s→body (mk s (N:Int))=some (.inr (fin s)))
  {n:Nat} {s:σ} (hI:I 0 s) (hn:N<n):∃s',cx body n (mk s 0)=some (fin s')∧I N s' :=
 DJ N mk fin I hs he N 0 n s (by omega) hI hn
theorem HS (n x:Nat) (hx:x<2 ^ 64) (hn:64<n):JS n x=some ((rk x 64:Nat):Int):=by
 have:=iJ (body:=uQ n x) 64 (fun(s:Int) (v:Int)=>(s,v)) id (fun i s=>s=((rk x i:Nat):Int)) (fun s i hi hI=>?_) (fun s _=>?_) (n:=n) (s:=0) rfl hn
 ·obtain⟨s,h1,h2⟩:=this;unfold JS;simp only[h1,aq,id,h2]
 ·subst hI;have hle:rk x i≤i:=oZ _ _;refine⟨((rk x (i+1):Nat):Int),?_,rfl⟩;unfold uQ;simp only[decide_eq_true (show((i:Nat):Int)<64 by omega),dc,Dy n x i hx hi,aq,bE (show i<4611686018427387904 by omega)]
  have e:rk x (i+1)=rk x i+(if x.testBit i then 1 else 0):=by
   unfold rk; rw[mN,List.length_append]; split<;>simp
  rw[e]
  by_cases hb:x.testBit i
  ·rw[hb,dc,bE (by omega),aq,if_pos rfl]
  ·rw[Bool.not_eq_true] at hb;rw[hb,dO,aq]; simp
 ·unfold uQ;simp[br]
def lexLt (p q:Int × Int):Prop:=p.1<q.1∨p.1=q.1∧p.2<q.2
section
variable {n0 M : Nat} {l6 : List Int} {es : List (Int × Int)}
end
def val (w:Nat):List Nat→Nat
 | []=>0
 | d::ds=>d+2 ^ w*val w ds
theorem nj {k a b c d:Nat} (ha:a<2 ^ k) (hc:c<2 ^ k):(a+2 ^ k*b) &&& (c+2 ^ k*d)=(a &&& c)+2 ^ k*(b &&& d):=by
 have hac:a &&& c<2 ^ k:=Nat.lt_of_le_of_lt Nat.and_le_left ha;refine Nat.eq_of_testBit_eq fun i=>?_;rw[Nat.testBit_and,Nat.add_comm a,Nat.add_comm c,Nat.add_comm (a &&& c),Nat.testBit_two_pow_mul_add _ ha,Nat.testBit_two_pow_mul_add _ hc,Nat.testBit_two_pow_mul_add _ hac]
 split<;>rw[Nat.testBit_and]
def DE (w:Nat):Nat→Nat
 | 0=>0
 | n+1=>(2 ^ w-1)+2 ^ (2*w)*DE w n
def pairUp:List Nat→List Nat
 | a::b::r=>(a+b)::pairUp r
 | [a]=>[a]
 | []=>[]
theorem FB (w:Nat):2 ^ (2*w)=2 ^ w*2 ^ w:=by rw[←Nat.pow_add]; congr 1; omega
theorem rB (w a b:Nat) (r:List Nat):val w (a::b::r)=(a+2 ^ w*b)+2 ^ (2*w)*val w r:=by
 simp only[val,FB,Nat.mul_add,Nat.mul_assoc]; omega
theorem C0 {w a b:Nat} (ha:a<2 ^ w) (hb:b<2 ^ w):a+2 ^ w*b<2 ^ (2*w):=by
 have h2:2 ^ w*(b+1)≤2 ^ w*2 ^ w:=Nat.mul_le_mul_left _ hb;rw[FB];rw[Nat.mul_add,Nat.mul_one] at h2;omega
theorem uz {w a b:Nat} (ha:a<2 ^ w):(a+2 ^ w*b) &&& (2 ^ w-1)=a:=by
 rw[Nat.and_two_pow_sub_one_eq_mod,Nat.add_mul_mod_self_left,Nat.mod_eq_of_lt ha]
theorem uu (w:Nat):2 ^ w-1<2 ^ (2*w):=by
 have:=Nat.two_pow_pos w;have:2 ^ w≤2 ^ (2*w):=Nat.pow_le_pow_right (by decide) (by omega)
 omega
theorem nV (w a b V:Nat) (ha:a<2 ^ w):((a+2 ^ w*b)+2 ^ (2*w)*V) >>> w=(b+2 ^ w*(V%2 ^ w))+2 ^ (2*w)*(V >>> w):=by
 have h1:(a+2 ^ w*b)+2 ^ (2*w)*V=a+2 ^ w*(b+2 ^ w*V):=by
  rw[FB,Nat.mul_add,Nat.mul_assoc]; omega
 rw[h1,Nat.shiftRight_eq_div_pow,Nat.add_mul_div_left _ _ (Nat.two_pow_pos w),Nat.div_eq_of_lt ha,Nat.zero_add,Nat.shiftRight_eq_div_pow,FB];have h2:=Nat.mod_add_div V (2 ^ w);rw[Nat.mul_assoc,Nat.add_assoc,←Nat.mul_add,h2]
theorem pS (w:Nat):∀(n:Nat) (ds:List Nat),ds.length=2*n→(∀d ∈ ds,d<2 ^ w)→((val w ds >>> w) &&& DE w n)+(val w ds &&& DE w n)=val (2*w) (pairUp ds)
 | 0,ds,h,_=>by
  have:ds = []:=List.eq_nil_of_length_eq_zero (by omega)
  subst this;simp[val,DE,pairUp]
 | n+1,a::b::r,h,hd=>by
  have ha:=hd a (by simp)
  have hb:=hd b (by simp)
  have ih:=pS w n r (by simp at h; omega) fun d hd'=>hd d (by simp[hd'])
  have hm:val w r%2 ^ w<2 ^ w:=Nat.mod_lt _ (Nat.two_pow_pos w);rw[rB,nV w a b _ ha];simp only[DE,pairUp];rw[nj (C0 hb hm) (uu w),nj (C0 ha hb) (uu w),uz hb,uz ha]
  show _=(a+b)+2 ^ (2*w)*val (2*w) (pairUp r)
  rw[←ih,Nat.mul_add];omega
 | n+1,[],h,_=>by simp at h
 | n+1,[_],h,_=>by simp at h; omega
theorem val_mod {w B:Nat} (hB:B≤2 ^ w) (h0:0<B):∀(ds:List Nat),(∀d ∈ ds,d<B)→val w ds%2 ^ w<B
 | [],_=>by simpa [val] using h0
 | d::ds,h=>by
  have:=h d (by simp)
  simp only[val];rw[Nat.add_mul_mod_self_left,Nat.mod_eq_of_lt (by omega)]; exact this
theorem rF (w B:Nat) (hB:2*B≤2 ^ w) (h0:0<B):∀(n:Nat) (ds:List Nat),ds.length=2*n→(∀d ∈ ds,d<B)→((val w ds >>> w)+val w ds) &&& DE w n=val (2*w) (pairUp ds)
 | 0,ds,h,_=>by
  have:ds = []:=List.eq_nil_of_length_eq_zero (by omega)
  subst this;simp[val,DE,pairUp]
 | n+1,a::b::r,h,hd=>by
  have ha:=hd a (by simp)
  have hb:=hd b (by simp)
  have ih:=rF w B hB h0 n r (by simp at h; omega) fun d hd'=>hd d (by simp[hd'])
  have hm:val w r%2 ^ w<B:=val_mod (by omega) h0 r fun d hd'=>hd d (by simp[hd'])
  rw[rB,nV w a b _ (by omega)]
  have e:(b+2 ^ w*(val w r%2 ^ w))+2 ^ (2*w)*(val w r >>> w)+((a+2 ^ w*b)+2 ^ (2*w)*val w r)=((a+b)+2 ^ w*(val w r%2 ^ w+b))+2 ^ (2*w)*((val w r >>> w)+val w r):=by
   simp only[Nat.mul_add]; omega
  rw[e];simp only[DE,pairUp];rw[nj (C0 (by omega) (by omega)) (uu w),uz (by omega),ih]
  rfl
 | n+1,[],h,_=>by simp at h
 | n+1,[_],h,_=>by simp at h; omega
theorem je:∀ds:List Nat,(pairUp ds).sum=ds.sum
 | []=>rfl
 | [_]=>rfl
 | a::b::r=>by simp only[pairUp,List.sum_cons,je r]; omega
theorem iM:∀(n:Nat) (ds:List Nat),ds.length=2*n→(pairUp ds).length=n
 | 0,ds,h=>by
  have:ds = []:=List.eq_nil_of_length_eq_zero (by omega)
  subst this; rfl
 | n+1,a::b::r,h=>by simp only[pairUp,List.length_cons]; rw[iM n r (by simp at h; omega)]
 | n+1,[],h=>by simp at h
 | n+1,[_],h=>by simp at h; omega
theorem kF {B:Nat}:∀(ds:List Nat),(∀d ∈ ds,d≤B)→∀d ∈ pairUp ds,d≤2*B
 | [],_,d,hd=>by simp[pairUp] at hd
 | [a],h,d,hd=>by simp[pairUp] at hd; subst hd; have:=h d (by simp); omega
 | a::b::r,h,d,hd=>by
  simp only[pairUp,List.mem_cons] at hd;have h1:=h a (by simp)
  have h2:=h b (by simp)
  rcases hd with rfl|hd
  ·omega
  ·exact kF r (fun x hx=>h x (by simp[hx])) d hd
theorem xl {w:Nat}:∀(ds:List Nat),(∀d ∈ ds,d<2 ^ w)→val w ds<2 ^ (w*ds.length)
 | [],_=>by simp[val]
 | d::ds,h=>by
  have h1:=h d (by simp)
  have ih:=xl ds fun x hx=>h x (by simp[hx])
  simp only[val,List.length_cons];rw[Nat.mul_add,Nat.mul_one,Nat.add_comm (w*ds.length) w,Nat.pow_add];have h2:2 ^ w*(val w ds+1)≤2 ^ w*2 ^ (w*ds.length):=Nat.mul_le_mul_left _ ih;rw[Nat.mul_add,Nat.mul_one] at h2;omega
def pX (x:Nat):Nat→List Nat
 | 0=>[]
 | n+1=>x%2::pX (x/2) n
theorem wx:∀(n x:Nat),x<2 ^ n→val 1 (pX x n)=x
 | 0,x,h=>by simp at h; subst h; rfl
 | n+1,x,h=>by
  simp only[pX,val,Nat.pow_one];rw[wx n (x/2) (by rw[Nat.pow_succ] at h; omega)]
  omega
theorem wz:∀(n x:Nat),(pX x n).length=n
 | 0,_=>rfl
 | n+1,x=>by simp only[pX,List.length_cons,wz n]
theorem zQ:∀(n x:Nat),∀d ∈ pX x n,d≤1
 | 0,_,d,h=>by simp[pX] at h
 | n+1,x,d,h=>by
  simp only[pX,List.mem_cons] at h;rcases h with rfl|h
  ·omega
  ·exact zQ n _ d h
theorem rU (x:Nat):∀n,(ec x (n+1)).length=x%2+(ec (x/2) n).length
 | 0=>by
  rw[mN];have:x.testBit 0=decide (x%2=1):=Nat.testBit_zero x;rw[this]
  by_cases h:x%2=1
  ·simp[h,ec]
  ·have:x%2=0:=by omega
   simp[this,ec]
 | n+1=>by
  rw[mN,List.length_append,rU x n,mN (x/2) n,List.length_append];have:x.testBit (n+1)=(x/2).testBit n:=Nat.testBit_succ x n;rw[this]
  split<;>simp<;>omega
theorem uP:∀(n x:Nat),(pX x n).sum=(ec x n).length
 | 0,x=>rfl
 | n+1,x=>by simp only[pX,List.sum_cons,uP n,rU]
theorem Ds {w B:Nat}:∀(ds:List Nat),(∀d ∈ ds,d≤B)→val w ds*(2 ^ w-1)+B≤B*2 ^ (w*ds.length)
 | [],_=>by simp[val]
 | d::ds,h=>by
  have h1:=h d (by simp)
  have ih:=Ds (w:=w) ds fun x hx=>h x (by simp[hx])
  have hp:=Nat.two_pow_pos w;simp only[val,List.length_cons];rw[Nat.mul_add,Nat.mul_one,Nat.add_comm (w*ds.length) w,Nat.pow_add];have h2:2 ^ w*(val w ds*(2 ^ w-1)+B)≤2 ^ w*(B*2 ^ (w*ds.length)):=Nat.mul_le_mul_left _ ih;have h3:d*(2 ^ w-1)≤B*(2 ^ w-1):=Nat.mul_le_mul_right _ h1;have h4:B*(2 ^ w-1)+B=2 ^ w*B:=by
   rw[Nat.mul_sub,Nat.mul_one,Nat.sub_add_cancel (Nat.le_mul_of_pos_right _ hp),Nat.mul_comm]
  have h5:B*(2 ^ w*2 ^ (w*ds.length))=2 ^ w*(B*2 ^ (w*ds.length)):=by rw[Nat.mul_left_comm]
  rw[Nat.mul_add,←Nat.mul_assoc] at h2;rw[Nat.add_mul,h5];omega
theorem DH {a k b:Nat} (hk:k≤64) (h:a/2 ^ k=b):bI .u64 a k=b:=by rw[fx hk,Nat.shiftRight_eq_div_pow,h]
theorem A1 (c0 c1 c2 c3 c4 c5 c6 c7:Nat) (g0:c0≤8) (g1:c1≤8) (g2:c2≤8) (g3:c3≤8) (g4:c4≤8) (g5:c5≤8) (g6:c6≤8) (g7:c7≤8) (y:Nat) (hy:y=c0+256*(c1+256*(c2+256*(c3+256*(c4+256*(c5+256*(c6+256*c7))))))) :
  ∃z u K,uw .u64 (y+bI .u64 y 8)=z∧uw .u64 (z+bI .u64 z 16)=u∧uw .u64 (u+bI .u64 u 32)=(c0+c1+c2+c3+c4+c5+c6+c7)+256*K∧K<2 ^ 54:=by
 obtain⟨a1,ha1⟩:∃a,a=c1+256*(c2+256*(c3+256*(c4+256*(c5+256*(c6+256*c7))))):=⟨_,rfl⟩;have e1:bI .u64 y 8=a1:=DH (by decide) (by rw[hy,←ha1]; omega)
 have hz:uw .u64 (y+bI .u64 y 8)=y+a1:=by rw[e1]; exact gC (by omega)
 obtain⟨b,hb⟩:∃b,b=(c2+c3)+256*((c3+c4)+256*((c4+c5)+256*((c5+c6)+256*((c6+c7)+256*c7)))):=⟨_,rfl⟩;have hzb:y+a1=((c0+c1)+256*(c1+c2))+65536*b:=by omega
 have e2:bI .u64 (y+a1) 16=b:=DH (by decide) (by rw[hzb]; omega)
 have hu:uw .u64 ((y+a1)+bI .u64 (y+a1) 16)=(y+a1)+b:=by rw[e2]; exact gC (by omega)
 obtain⟨d,hd⟩:∃d,d=(c4+c5+c6+c7)+256*((c5+c6+c7)+256*((c6+c7)+256*c7)):=⟨_,rfl⟩;have hud:(y+a1)+b=((c0+c1+c2+c3)+256*((c1+c2+c3+c4)+256*((c2+c3+c4+c5)+256*(c3+c4+c5+c6))))+4294967296*d:=by omega
 have e3:bI .u64 ((y+a1)+b) 32=d:=DH (by decide) (by rw[hud]; omega)
 have hw:uw .u64 (((y+a1)+b)+bI .u64 ((y+a1)+b) 32)=((y+a1)+b)+d:=by rw[e3]; exact gC (by omega)
 refine⟨_,_,((c1+c2+c3+c4)+256*((c2+c3+c4+c5)+256*(c3+c4+c5+c6)))+16777216*d+((c5+c6+c7)+256*((c6+c7)+256*c7)),hz,hu,?_,?_⟩
 ·rw[hw]; omega
 ·omega
theorem Ik (n x:Nat) (hx:x<2 ^ 64):JF n x=some ((rk x 64:Nat):Int):=by
 obtain⟨d0,hd0⟩:∃d,d=pX x 64:=⟨_,rfl⟩;have l0:d0.length=64:=by rw[hd0]; exact wz 64 x
 have b0:∀d ∈ d0,d≤1:=by rw[hd0]; exact zQ 64 x
 have v0:val 1 d0=x:=by rw[hd0]; exact wx 64 x hx
 have s0:d0.sum=rk x 64:=by rw[hd0]; exact uP 64 x
 have e1:=pS 1 32 d0 (by omega) fun d hd=>by have:=b0 d hd; omega
 have l1:=iM 32 d0 (by omega)
 have b1:=kF d0 b0;have e2:=pS 2 16 (pairUp d0) (by omega) fun d hd=>by have:=b1 d hd; omega
 have l2:=iM 16 (pairUp d0) (by omega)
 have b2:=kF _ b1;have e3:=rF 4 5 (by decide) (by decide) 8 (pairUp (pairUp d0)) (by omega) fun d hd=>by have:=b2 d hd; omega
 have l3:=iM 8 (pairUp (pairUp d0)) (by omega)
 have b3:=kF _ b2;have s3:(pairUp (pairUp (pairUp d0))).sum=rk x 64:=by rw[je,je,je,s0]
 have m1:DE 1 32=6148914691236517205:=by decide
 have m2:DE 2 16=3689348814741910323:=by decide
 have m3:DE 4 8=1085102592571150095:=by decide
 rw[v0,m1] at e1;rw[m2] at e2;rw[m3] at e3;have q1:val 2 (pairUp d0)<2 ^ 64:=by
  have:=xl (w:=2) (pairUp d0) fun d hd=>by have:=b1 d hd; omega
  rwa[l1] at this
 have q2:val 4 (pairUp (pairUp d0))<2 ^ 64:=by
  have:=xl (w:=4) (pairUp (pairUp d0)) fun d hd=>by have:=b2 d hd; omega
  rwa[l2] at this
 have hS:∀a b:Nat,a<2 ^ 64→uw .u64 (uw .u64 a &&& uw .u64 b)=a &&& uw .u64 b:=fun a b ha=>by
  rw[gC ha,gC (Gc ha)]
 have sh:∀k:Nat,k≤64→∀a:Nat,a<2 ^ 64→bI .u64 a k<2 ^ 64:=fun k hk a ha=>by
  rw[fx hk,Nat.shiftRight_eq_div_pow]; exact Nat.lt_of_le_of_lt (Nat.div_le_self _ _) ha
 have i1:uw .u64 6148914691236517205=6148914691236517205:=by decide
 have i2:uw .u64 3689348814741910323=3689348814741910323:=by decide
 have i3:uw .u64 1085102592571150095=1085102592571150095:=by decide
 have y2:uw .u64 ((uw .u64 (uw .u64 (bI .u64 x 1) &&& uw .u64 6148914691236517205))+(uw .u64 (uw .u64 x &&& uw .u64 6148914691236517205)))=val 2 (pairUp d0):=by
  rw[hS _ _ (sh 1 (by decide) x hx),hS _ _ hx,i1,fx (by decide),e1,gC q1]
 have y4:uw .u64 ((uw .u64 (uw .u64 (bI .u64 (val 2 (pairUp d0)) 2) &&& uw .u64 3689348814741910323))+(uw .u64 (uw .u64 (val 2 (pairUp d0)) &&& uw .u64 3689348814741910323)))=val 4 (pairUp (pairUp d0)):=by
  rw[hS _ _ (sh 2 (by decide) _ q1),hS _ _ q1,i2,fx (by decide),e2,gC q2]
 obtain⟨d3,hd3⟩:∃d,d=pairUp (pairUp (pairUp d0)):=⟨_,rfl⟩;rw[←hd3] at e3 l3 b3 s3;have q3:val 4 (pairUp (pairUp d0))<6*2 ^ 60:=by
  have:=Ds (w:=4) (B:=4) (pairUp (pairUp d0)) b2;rw[l2] at this;omega
 have y6:uw .u64 (uw .u64 (uw .u64 ((bI .u64 (val 4 (pairUp (pairUp d0))) 4)+val 4 (pairUp (pairUp d0)))) &&& uw .u64 1085102592571150095)=val 8 d3:=by
  have hle:bI .u64 (val 4 (pairUp (pairUp d0))) 4+val 4 (pairUp (pairUp d0))<2 ^ 64:=by
   rw[fx (by decide),Nat.shiftRight_eq_div_pow]; omega
  rw[gC hle,hS _ _ hle,i3,fx (by decide),e3]
 unfold JF;rw[y2,aq,y4,aq,y6,aq]
 match d3,l3,b3,s3 with
 | [c0,c1,c2,c3,c4,c5,c6,c7],_,b3,s3 =>
  have hv:val 8 [c0,c1,c2,c3,c4,c5,c6,c7]=c0+256*(c1+256*(c2+256*(c3+256*(c4+256*(c5+256*(c6+256*c7)))))):=by simp[val]
  obtain⟨z,u,K,t1,t2,t3,hK⟩:=A1 c0 c1 c2 c3 c4 c5 c6 c7 (b3 c0 (by simp)) (b3 c1 (by simp)) (b3 c2 (by simp)) (b3 c3 (by simp)) (b3 c4 (by simp)) (b3 c5 (by simp)) (b3 c6 (by simp)) (b3 c7 (by simp)) _ hv
  have hs:c0+c1+c2+c3+c4+c5+c6+c7=rk x 64:=by
   rw[←s3]; simp only[List.sum_cons,List.sum_nil]; omega
  rw[t1,t2,aq,t3,hs];have hr:rk x 64≤64:=oZ _ _;rw[bt (by omega) (by omega)]
  have hand:Dc .i64 ((rk x 64+256*K:Nat):Int) 127=((rk x 64:Nat):Int):=by
   unfold Dc;have h1:(BitVec.ofInt IntKind.i64.bits ((rk x 64+256*K:Nat):Int) &&& BitVec.ofInt IntKind.i64.bits 127).toNat=rk x 64:=by
    rw[BitVec.toNat_and,BitVec.toNat_ofInt,BitVec.toNat_ofInt];have a1:(((rk x 64+256*K:Nat):Int)%((2 ^ IntKind.i64.bits:Nat):Int)).toNat=rk x 64+256*K:=by
     show(((rk x 64+256*K:Nat):Int)%(18446744073709551616:Int)).toNat=_
     omega
    have a2:((127:Int)%((2 ^ IntKind.i64.bits:Nat):Int)).toNat=2 ^ 7-1:=by decide
    rw[a1,a2,Nat.and_two_pow_sub_one_eq_mod];omega
   rw[h1,bt (by omega) (by omega)]
  rw[hand,aq]
def pE (p:Int × Int) (l:List (Int × Int)):Int × Int:=(l.getLast?).getD p
theorem vT {N:Int} (e:Int × Int):∀(l:List (Int × Int)) (p:Int × Int),mw N p (l++[e])=(mw N p l && df N (pE p l) e)
 | [],p=>by rw[List.nil_append,iy]; simp[mw,pE]
 | x::l,p=>by
  rw[List.cons_append,iy,iy,vT e l x,Bool.and_assoc]
  congr 2
  unfold pE;cases l with
  | nil=>rfl
  | cons y l =>
   rw[List.getLast?_cons_cons];have:∃z,(y::l).getLast? = some z:=⟨_,List.getLast?_eq_some_getLast (by simp)⟩
   obtain⟨z,hz⟩:=this;rw[hz]; rfl
def mC (N:Int) (l:List (Int × Int)) (a b:Int):Prop:=mw N (-1,-1) l=true∧((pE (-1,-1) l).1<a∨(pE (-1,-1) l).1=a∧(pE (-1,-1) l).2<b)
theorem mC.add {N:Int} {l:List (Int × Int)} {a b:Int} (h:mC N l a b) (ha:0≤a) (hab:a<b) (hb:b<N):mC N (l++[(a,b)]) a (b+1):=by
 refine⟨?_,.inr ?_⟩
 ·rw[vT,h.1,Bool.true_and];simp only[df,Bool.and_eq_true,decide_eq_true_eq];exact⟨⟨ha,hab,hb⟩,h.2⟩
 ·unfold pE;rw[List.getLast?_append];simp only[List.getLast?_singleton,Option.some_or,Option.getD_some];exact⟨trivial,by omega⟩
theorem mC.next {N:Int} {l:List (Int × Int)} {a b:Int} (h:mC N l a b):mC N l a (b+1):=⟨h.1,by rcases h.2 with h|h; exact .inl h; exact .inr (by omega)⟩
theorem mC.row {N:Int} {l:List (Int × Int)} {a b c:Int} (h:mC N l a b):mC N l (a+1) c:=⟨h.1,.inl (by rcases h.2 with h|h<;>omega)⟩
theorem ET (n0:Nat) (N a w:Int) (x3:Nat) (l1:List (Nat × Nat)) (hN:1≤N∧N≤12) (hw:w≠0) (l:List (Int × Int)) (c b:Int) (M:Nat) (hl:l.length≤M) (hM:M≤1000) (hb:0≤b∧b≤N) (ha:0≤a∧a<b) (hu:mC N l a b) (n:Nat) (hn:12<n) (h2:3<n0) :
  ∃r,cx (CQ n0 N a w x3 l1) n (l,c,b)=some r∧r.1.length≤M+12∧mC N r.1 a N:=by
 refine uc (body:=CQ n0 N a w x3 l1) (R:=fun r=>r.1.length≤M+12∧mC N r.1 a N) (fun k s=>0≤s.2.2∧s.2.2+k=N∧s.1.length+k≤M+12∧a<s.2.2∧mC N s.1 a s.2.2) (fun k s hI=>?_) (N-b).toNat (l,c,b) n ⟨hb.1,by simp only; omega,by simp only; omega,ha.2,hu⟩ (by omega)
 obtain⟨l,c,b⟩:=s;obtain⟨h3,h4,h5,h1,h0⟩:=hI;simp only at h3 h4 h5 h1 h0;simp only[CQ]
 by_cases c0:b<N
 ·rw[bm c0];have e0:∃z,br (decide (b=IntKind.wrap .i64 (a+w))) (some true) (br (decide (b=IntKind.wrap .i64 (a+1))) (gd (decide (w≠0)) (some (!decide (Int.tmod b w=0)))) (some false))=some z :=
   fS (fun _=>fK _) fun _=>fS (fun _=>⟨_,cQ hw _⟩) fun _=>fK _
  obtain⟨z,hz⟩:=e0;rw[hz,aq];have e1:∃c' z',br z (ob (ob (br (decide (Int.tmod c 2=1)) (ob (some (bI .u16 x3 (ui .u64 (Int.tmod (IntKind.wrap .i64 (Int.tdiv c 2)) 16)))) fun y2=>some (decide (uw .u16 (uw .u16 y2 &&& uw .u16 1)=1))) (some false)) fun v0=>br v0 (some false) (some z)) fun v1=>some (IntKind.wrap .i64 (c+1),v1)) (some (c,z))=some (c',z'):=by
   cases z with
   | false=>exact⟨c,false,rfl⟩
   | true =>
    rw[dc];have:∃q,(ob (br (decide (Int.tmod c 2=1)) (ob (some (bI .u16 x3 (ui .u64 (Int.tmod (IntKind.wrap .i64 (Int.tdiv c 2)) 16)))) fun y2=>some (decide (uw .u16 (uw .u16 y2 &&& uw .u16 1)=1))) (some false)) fun v0=>br v0 (some false) (some true))=some q:=by
     by_cases h:Int.tmod c 2=1
     ·rw[bm h,aq,aq]; exact fS (fun _=>fK _) fun _=>fK _
     ·rw[aX h,aq]; exact fS (fun _=>fK _) fun _=>fK _
    obtain⟨q,hq⟩:=this;exact⟨_,q,by rw[hq,aq]⟩
  obtain⟨c',z',hz'⟩:=e1;rw[hz',aq];obtain⟨q,hq⟩:=Ew n0 l1 N a b (by omega) z' n0 h2
  simp only[hq,aq];cases q with
  | false =>
   refine .inl ⟨(l,c',b+1),?_,k-1,by omega,by simp only; omega,by simp only; omega,by simp only; omega,by simp only; omega,h0.next⟩
   rw[dO,aq,bt (by omega) (by omega)]
  | true =>
   refine .inl ⟨(l++[(a,b)],c',b+1),?_,k-1,by omega,by simp only; omega,by simp only; omega,by simp; omega,by simp only; omega,h0.add ha.1 h1 c0⟩
   rw[dc,ja (by simp; omega),aV,aq,bt (by omega) (by omega)]
 ·rw[aX c0]; exact .inr ⟨(l,c),rfl,by simp only; omega,(show b=N by omega) ▸ h0⟩
theorem Fa (n0:Nat) (N w:Int) (x3:Nat) (l4:List (Nat × Nat)) (hN:1≤N∧N≤12) (hw:w≠0) (n:Nat) (hn:12<n) (hn0:12<n0) :
  ∃r,cx (Dp n0 N x3 l4) n (w,[],0,0)=some r∧r.length≤200∧mw N (-1,-1) r=true:=by
 refine uc (body:=Dp n0 N x3 l4) (R:=fun r=>r.length≤200∧mw N (-1,-1) r=true) (fun k s=>s.1=w∧0≤s.2.2.2∧s.2.2.2+k=N∧s.2.1.length+12*k≤144∧mC N s.2.1 s.2.2.2 0) (fun k s hI=>?_) N.toNat (w,[],0,0) n ⟨rfl,by simp,by simp only; omega,by simp; omega,⟨rfl,.inl (by show(-1:Int)<0; decide)⟩⟩ (by omega)
 obtain⟨w',l,c,a⟩:=s;obtain⟨rfl,h1,h2,h3,h4⟩:=hI;simp only at h1 h2 h3 h4 hw;simp only[Dp]
 by_cases c1:a<N
 ·rw[bm c1];obtain⟨r,hr,hrl,hru⟩:=ET n0 N a w' x3 l4 hN hw l c (IntKind.wrap .i64 (a+1)) l.length (Nat.le_refl _) (by omega) (by rw[bt (by omega) (by omega)]; omega) (by rw[bt (by omega) (by omega)]; omega) (by rw[bt (by omega) (by omega)]; exact⟨h4.1,h4.2.imp id fun h=>⟨h.1,by omega⟩⟩) n0 hn0 (by omega)
  obtain⟨l',c'⟩:=r;simp only[hr,aq];exact .inl ⟨(w',l',c',a+1),by rw[bt (by omega) (by omega)],k-1,by omega,rfl,by simp only; omega,by simp only; omega,by simp only at hrl ⊢; omega,hru.row⟩
 ·rw[aX c1]; exact .inr ⟨l,rfl,by omega,h4.1⟩
theorem KG (n x1 x2 x3:Nat) (l4:List (Nat × Nat)) (hn:12<n):∃N es,F7 n x1 x2 x3 l4=some (N,es)∧ra N es=true:=by
 unfold F7;have w1:IntKind.wrap .i64 ((x1%4:Nat):Int)=((x1%4:Nat):Int):=bt (by omega) (by omega)
 have w2:IntKind.wrap .i64 ((x2%3:Nat):Int)=((x2%3:Nat):Int):=bt (by omega) (by omega)
 have w3:IntKind.wrap .i64 (1+((x1%4:Nat):Int))=1+((x1%4:Nat):Int):=bt (by omega) (by omega)
 have w4:IntKind.wrap .i64 (1+((x2%3:Nat):Int))=1+((x2%3:Nat):Int):=bt (by omega) (by omega)
 rw[w1,w2,w3,w4,aq];have hN:∀a b:Nat,a<4→b<3→1≤(1+(a:Int))*(1+(b:Int))∧(1+(a:Int))*(1+(b:Int))≤12:=by
  intro a b ha hb;have h1:a=0∨a=1∨a=2∨a=3:=by omega
  have h2:b=0∨b=1∨b=2:=by omega
  rcases h1 with rfl|rfl|rfl|rfl<;>rcases h2 with rfl|rfl|rfl<;>decide
 have hN':=hN (x1%4) (x2%3) (Nat.mod_lt _ (by omega)) (Nat.mod_lt _ (by omega))
 rw[bt (by omega) (by omega)]
 obtain⟨r,hr,hl,hu⟩:=Fa n ((1+((x1%4:Nat):Int))*(1+((x2%3:Nat):Int))) (1+((x1%4:Nat):Int)) x3 l4 hN' (by omega) n hn hn
 refine⟨_,r,by rw[hr,aq],?_⟩
 simp only[ra,Bool.and_eq_true,decide_eq_true_eq];exact⟨⟨hN'.1,by omega,hl⟩,hu⟩
theorem vc {a b c:Int × Int} (h:lexLt a b) (g:lexLt b c):lexLt a c:=by unfold lexLt at *; omega
theorem zj {N:Int}:∀{es:List (Int × Int)} {p:Int × Int},mw N p es=true→(p::es).Pairwise lexLt
 | [],p,_=>by simp
 | e::es,p,h=>by
  rw[iy,Bool.and_eq_true] at h;have ih:=zj h.2;have hpe:lexLt p e:=by
   have:=h.1;simp only[df,Bool.and_eq_true,decide_eq_true_eq] at this;exact this.2
  refine List.pairwise_cons.2 ⟨fun q hq=>?_,ih⟩;rcases List.mem_cons.1 hq with rfl|hq
  ·exact hpe
  ·exact vc hpe ((List.pairwise_cons.1 ih).1 q hq)
theorem EE {N:Int} {es:List (Int × Int)} (h:ra N es=true):es.Pairwise lexLt:=by
 simp only[ra,Bool.and_eq_true] at h;exact(List.pairwise_cons.1 (zj h.2)).2
theorem zm (S M:Nat):(ec S M).Pairwise (· < ·):=List.Pairwise.filter _ List.pairwise_lt_range
end Go.Proofs.YtookeaakpiefjaaDoor
end

section
namespace Go.Proofs.YtookeaakpiefjaaDoor
open Go Go.Ab Go.Ab.W Go.Ab.T30
theorem Hm {a x:Nat} (h:a.testBit x=true) (hx:x<64):1≤rk a 64:=List.length_pos_of_mem (dM.2 ⟨hx,h⟩)
def eg (es:List (Int × Int)) (k:Int):Nat × Nat:=match es[k.toNat]? with
 | some e=>(e.1.toNat,e.2.toNat)
 | none=>(0,0)
def Vl (es:List (Int × Int)) (k:Int):Prop:=0≤k∧k<(es.length:Int)
theorem lh {N:Nat} {es:List (Int × Int)} {k:Int} (h:Okay N es) (hk:Vl es k):∃a b:Nat,es[k.toNat]? = some ((a:Int),(b:Int))∧eg es k=(a,b)∧a<b∧b<64∧b<N∧bZ k es.length=true:=by
 obtain⟨i,rfl⟩:=Int.eq_ofNat_of_zero_le hk.1;have hi:i<es.length:=by have:=hk.2; omega
 obtain⟨a,b,e,h1,h2⟩:=h.mem _ (List.getElem_mem hi);have h3:es[((i:Nat):Int).toNat]? = some ((a:Int),(b:Int)):=by rw[Int.toNat_natCast,List.getElem?_eq_getElem hi,e]
 have:=h.le;exact⟨a,b,h3,by unfold eg; rw[h3]; simp,h1,by omega,h2,aC hi⟩
theorem I1 (n0:Nat) (l:List Int) (x:Int) (hb:l.length<4611686018427387904):∀k i n,i+k=l.length→k<n→∃r,cx (qB n0 l x) n ((i:Nat):Int)=some r∧((∃v,r = .inl v∧0≤v∧x ∈ l.drop i)∨(r = .inr ()∧x ∉ l.drop i)):=by
 intro k
 induction k with
 | zero =>
  intro i n hi hk;obtain⟨n,rfl⟩:∃n',n=n'+1:=⟨n-1,by omega⟩
  exact⟨_,bB (by unfold qB; rw[aX (by omega)]),.inr ⟨rfl,by rw[List.drop_of_length_le (by omega)]; simp⟩⟩
 | succ k ih =>
  intro i n hi hk;obtain⟨n,rfl⟩:∃n',n=n'+1:=⟨n-1,by omega⟩
  have a1:i<l.length:=by omega
  have e1:l[((i:Nat):Int).toNat]? = some l[i]:=by simp[a1]
  rw[List.drop_eq_getElem_cons a1]
  by_cases h:x=l[i]
  ·exact⟨_,bB (r:=.inl ((i:Nat):Int)) (by unfold qB; simp only[decide_eq_true (show((i:Nat):Int)<(l.length:Int) by omega),dc,aC a1,aV,e1,aq,decide_eq_true h]),.inl ⟨_,rfl,Int.natCast_nonneg _,by rw[←h]; simp⟩⟩
  ·rw[aR (s':=((i+1:Nat):Int)) (by unfold qB; simp only[decide_eq_true (show((i:Nat):Int)<(l.length:Int) by omega),dc,aC a1,aV,e1,aq,decide_eq_false h,dO,bE (show i<4611686018427387904 by omega)])]
   obtain⟨r,h1,h2⟩:=ih (i+1) n (by omega) (by omega)
   refine⟨r,h1,?_⟩;rcases h2 with⟨v,h2,h3,h4⟩|⟨h2,h3⟩
   ·exact .inl ⟨v,h2,h3,List.mem_cons_of_mem _ h4⟩
   ·exact .inr ⟨h2,fun hm=>by rcases List.mem_cons.1 hm with hm|hm; exact h hm; exact h3 hm⟩
theorem Ec (n:Nat) (l:List Int) (x:Int) (hb:l.length<4611686018427387904) (hn:l.length<n):Jz n l x=some (decide (x ∈ l)):=by
 obtain⟨r,h1,h2⟩:=I1 n l x hb l.length 0 n (by omega) hn
 rw[List.drop_zero] at h2;unfold Jz KV;rw[show cx (qB n l x) n 0=some r from h1]
 rcases h2 with⟨v,rfl,h3,h4⟩|⟨rfl,h3⟩
 ·simp only[aq,decide_eq_true h3,decide_eq_true h4]
 ·simp only[aq,decide_eq_false h3]; rfl
def gw (es:List (Int × Int)):List Int→Nat→(Nat→Nat)→List (List Int)
 | _,0,_=>[[]]
 | [],_+1,_=>[]
 | k::L,d+1,r=>(if r (eg es k).1=r (eg es k).2 then[] else(gw es L d (bP r (eg es k))).map (k::·))++gw es L (d+1) r
def Ce (p q y:Nat):Nat:=if y=p then q else y
theorem sY {p q y z:Nat} (h:p≠q):Ce p q y=Ce p q z↔y=z∨((y=p∨y=q)∧(z=p∨z=q)):=by
 unfold Ce
 split<;>split<;>omega
theorem pI (r:Nat→Nat) (e:Nat × Nat) (v:Nat):bP r e v=Ce (max (r e.1) (r e.2)) (min (r e.1) (r e.2)) (r v):=rfl
theorem nA {r:Nat→Nat} {e:Nat × Nat} (h:r e.1≠r e.2) (v w:Nat):bP r e v=bP r e w↔r v=r w∨((r v=r e.1∨r v=r e.2)∧(r w=r e.1∨r w=r e.2)):=by
 rw[pI,pI,sY (by omega)]
 omega
theorem oR (ρ:Nat→Nat) (u v i:Nat):mg ρ u v i=Ce u v (ρ i):=rfl
theorem D8 {ρ:Nat→Nat} {s a b:Nat} (h:ρ a≠ρ b) (i j:Nat):(if ρ a=s then mg ρ (ρ b) (ρ a) else mg ρ (ρ a) (ρ b)) i=(if ρ a=s then mg ρ (ρ b) (ρ a) else mg ρ (ρ a) (ρ b)) j↔ρ i=ρ j∨((ρ i=ρ a∨ρ i=ρ b)∧(ρ j=ρ a∨ρ j=ρ b)):=by
 by_cases hs:ρ a=s
 ·simp only[if_pos hs];rw[oR,oR,sY (fun e=>h e.symm)];omega
 ·simp only[if_neg hs];rw[oR,oR,sY h]
def dg (s:Nat) (ρ:Nat→Nat):Nat:=((List.range s).filter fun i=>ρ i == i).length
theorem Fo {s:Nat} {ρ:Nat→Nat} (h:Rho s ρ) {a b:Nat} (ha:a≤s) (hb:b≤s) (hab:ρ a≠ρ b):dg s ρ=dg s (if ρ a=s then mg ρ (ρ b) (ρ a) else mg ρ (ρ a) (ρ b))+1:=by
 have key:∀u v,ρ u=u→ρ v=v→u≠v→u<s→dg s ρ=dg s (mg ρ u v)+1:=fun u v hu hv huv hus=>by
  refine j8 List.nodup_range (List.mem_range.2 hus) (by simpa using hu) fun i=>?_
  simp only[beq_iff_eq];unfold mg;constructor
  ·intro h1
   by_cases hi:ρ i=u
   ·rw[if_pos hi] at h1;rw[←h1,hv] at hi;exact absurd hi.symm huv
   ·rw[if_neg hi] at h1;exact⟨h1,fun e=>hi (by rw[h1,e])⟩
  ·rintro⟨h1,h2⟩;rw[if_neg (fun e=>h2 (by rw[←h1,e])),h1]
 by_cases hs:ρ a=s
 ·rw[if_pos hs];have h1:=h.le b hb;exact key _ _ (h.idem b) (h.idem a) (fun e=>hab e.symm) (by omega)
 ·rw[if_neg hs];have h1:=h.le a ha;exact key _ _ (h.idem a) (h.idem b) hab (by omega)
theorem o5 {s:Nat} {ρ:Nat→Nat}:dg s ρ=0↔(List.range s).all (fun i=>ρ i != i)=true:=by
 unfold dg;rw[List.length_eq_zero_iff,List.filter_eq_nil_iff,List.all_eq_true];simp
theorem mb {s:Nat} {ρ:Nat→Nat} (h:Rho s ρ) (h0:dg s ρ=0) {i:Nat} (hi:i≤s):ρ i=s:=by
 have h1:=List.all_eq_true.1 (o5.1 h0);have h2:=h.le i hi
 by_cases h3:ρ i<s
 ·have h4:=h1 (ρ i) (List.mem_range.2 h3);rw[h.idem] at h4;simp at h4
 ·omega
theorem uN {s:Nat} {ρ:Nat→Nat} (h:Rho s ρ) (h0:dg s ρ=0):∀E:List (Nat × Nat),(∀e ∈ E,e.1≤s∧e.2≤s)→pb s ρ E=1
 | [],_=>by simp only[pb]; rw[if_pos (o5.1 h0)]
 | (a,b)::E,hE=>by
  have ha:a≤s:=(hE (a,b) List.mem_cons_self).1;have hb:b≤s:=(hE (a,b) List.mem_cons_self).2;simp only[pb];rw[if_pos (by rw[mb h h0 ha,mb h h0 hb]),uN h h0 E fun e he=>hE e (List.mem_cons_of_mem _ he)]
theorem yG {es:List (Int × Int)} {V:Nat→Prop} {s:Nat} {ψ:Nat→Nat} (hψ:∀v,V v→ψ v≤s) :
  ∀(L:List Int) (r ρ:Nat→Nat),Rho s ρ→(∀v w,V v→V w→(r v=r w↔ρ (ψ v)=ρ (ψ w)))→(∀k ∈ L,V (eg es k).1∧V (eg es k).2) →
   (gw es L (dg s ρ) r).length=pb s ρ (iN ψ (L.map (eg es)))
 | [],r,ρ,h,hr,_=>by
  simp only[List.map_nil,iN,pb]
  by_cases h0:dg s ρ=0
  ·rw[if_pos (o5.1 h0),h0]; rfl
  ·rw[if_neg (fun e=>h0 (o5.2 e))];obtain⟨d,hd⟩:∃d,dg s ρ=d+1:=⟨dg s ρ-1,by omega⟩
   rw[hd]; rfl
 | k::L,r,ρ,h,hr,hL=>by
  obtain⟨va,vb⟩:=hL k List.mem_cons_self;have hL':=fun k' hk'=>hL k' (List.mem_cons_of_mem _ hk');have ha:=hψ _ va;have hb:=hψ _ vb
  by_cases h0:dg s ρ=0
  ·rw[uN h h0 _ (fun e he=>by
    obtain⟨e',h1,rfl⟩:=List.mem_map.1 he;obtain⟨k',h2,rfl⟩:=List.mem_map.1 h1;exact⟨hψ _ (hL k' h2).1,hψ _ (hL k' h2).2⟩),h0]
   rfl
  ·have ih:=yG (es:=es) hψ L r ρ h hr hL';have hc:iN ψ ((k::L).map (eg es))=(ψ (eg es k).1,ψ (eg es k).2)::iN ψ (L.map (eg es)):=rfl;rw[hc];simp only[pb]
   by_cases hab:ρ (ψ (eg es k).1)=ρ (ψ (eg es k).2)
   ·rw[if_pos hab,Nat.add_zero,←ih];obtain⟨d,hd⟩:∃d,dg s ρ=d+1:=⟨dg s ρ-1,by omega⟩
    rw[hd];simp only[gw];rw[if_pos ((hr _ _ va vb).2 hab),List.nil_append]
   ·rw[if_neg hab,←ih];have hra:r (eg es k).1≠r (eg es k).2:=fun e=>hab ((hr _ _ va vb).1 e);have ih2:=yG (es:=es) hψ L (bP r (eg es k)) _ (h.step ha hb hab) (fun v w hv hw=>by
     rw[nA hra,D8 hab,hr v w hv hw,hr v _ hv va,hr v _ hv vb,hr w _ hw va,hr w _ hw vb]) hL'
    have hd:=Fo h ha hb hab;rw[hd];simp only[gw];rw[if_neg hra,List.length_append,List.length_map,ih2];omega
end Go.Proofs.YtookeaakpiefjaaDoor
end
