/- A part of the proof. -/
import Derived.Test.YthmekkhpddehjaaGreatRk6
section
namespace Go.Proofs.YthmekkhpddehjaaGreat
open Go Go.Ab Go.Ab.W
set_option maxRecDepth 10000
set_option maxHeartbeats 4000000
attribute [local irreducible] Tm.at Trie.set Trie.get AMem.get AMem.set AMem.alloc AMem.ww AMem.kill
theorem Cs (n:Nat) (l1:List (Int × Int)) (l2:List (Int × Int)) (a0:Option Addr) (c0:Nat) (a1:Option Addr) (c1:Nat) (r:List (Int × Int) × Int) (hF:FJ n l1 l2=some r) (m:AMem) (h15:Rd m a0 c0 2 l1.length (l1.map (eP (eI .i64) (eI .i64)))) (h16:Rd m a1 c1 2 l2.length (l2.map (eP (eI .i64) (eI .i64)))) :
  aC aE 66 [.slice a0 l1.length c0,.slice a1 l2.length c1] m (fun v m'=>∃x:Option Addr × Nat,v = .tuple #[.slice x.1 x.2 x.2,.int .i64 r.2]∧Hp m m' [.sl x.1 2 x.2 (r.1.map (eP (eI .i64) (eI .i64)))]):=by
 unfold FJ at hF;refine av (m0:=m) (ps:=[.rd a1 c1 2 l2.length (l2.map (eP (eI .i64) (eI .i64))),.rd a0 c0 2 l1.length (l1.map (eP (eI .i64) (eI .i64)))]) (N:=21) (rs:=[.tmp 4,.tmp 5]) rfl Tryz.func66 rfl rfl rfl (((Hp.start m).kT rfl h15).kT rfl h16)<|Wk.seq<|Wk.region<|Wo.od (ah rfl) rfl<|Wo.od (ah rfl) rfl<|Wo.nil<|At.tn<|Wk.seq<|Wk.seq ?_;obtain⟨v0,h17,hF⟩:=J hF;refine Wk.cut (G:=(fun(r:Bool) (g:Unit)=>match r,g with|v0,_=>⟨.normal,[(0,.slice a0 l1.length c0),(1,.slice a1 l2.length c1),(13,.bool v0)],[.rd a0 c0 2 l1.length (l1.map (eP (eI .i64) (eI .i64))),.rd a1 c1 2 l2.length (l2.map (eP (eI .i64) (eI .i64)))]⟩) v0) ?_ ?_
 ·clear hF;revert v0;intro r hF;refine Wk.region<|Wo.od (U rfl) rfl ?_;obtain⟨r0,h18,hF⟩:=J hF;refine Wo.x (aM rfl rfl (fun m hm=>xV n l1 a0 c0 _ h18 m (hm.rd (k:=1) rfl (.rd _ _ _ _ _))) fun _=>rfl) gn rfl ?_;rintro⟨⟩;refine Wo.od (aj rfl rfl (dm _ _)) rfl<|Wo.od (U rfl) rfl ?_;rcases ae hF with⟨h0,hF⟩|⟨h0,hF⟩
  ·refine Wo.s (gg rfl rfl (ec h0)) rfl<|Wo.s (gg rfl rfl (ec h0)) rfl<|Wo.s (gg rfl rfl (ec h0)) rfl<|Wo.od (bm rfl h0 rfl) rfl<|Wo.nil ?_;cases hF;exact At.en () rfl (sc rfl (sc rfl (sc rfl sn))) (ab.aa [1,0] rfl rfl)
  ·refine Wo.og (U rfl) (gg rfl rfl (dZ h0)) rfl ?_;obtain⟨r1,h19,hF⟩:=J hF;refine Wo.x (aM rfl rfl (fun m hm=>xV n l2 a1 c1 _ h19 m (hm.rd (k:=0) rfl (.rd _ _ _ _ _))) fun _=>rfl) (gg rfl rfl (dZ h0)) rfl ?_;rintro⟨⟩;refine Wo.og (aj rfl rfl (dm _ _)) (gg rfl rfl (dZ h0)) rfl<|Wo.od (bj rfl h0 rfl) rfl<|Wo.nil ?_;cases hF;exact At.en () rfl (sc rfl (sc rfl (sc rfl sn))) (ab.aa [1,0] rfl rfl)
 ·clear h17;rintro⟨⟩;refine At.tn ?_;rcases ae hF with⟨h7,hF⟩|⟨h7,hF⟩
  ·refine Wk.ar rfl h7<|Wk.seq<|Wk.region<|Wo.od (ah rfl) rfl<|Wo.od (ah rfl) rfl<|Wo.nil<|At.tn<|Wk.ret<|At.tr ?_;cases hF;exact At.ret (.tmp rfl (.tmp rfl .nil)) fun m' hm=>⟨(none,0),rfl,(ab.trans (ab.nil 2 rfl) (ab.aa [0] rfl rfl)) m' hm⟩
  ·refine Wk.au rfl h7<|Wk.skip<|At.tn<|Wk.seq<|Wk.region<|Wo.od (U rfl) rfl<|Wo.od (U rfl) rfl<|Wo.x (EF (es:=[[.slice a0 l1.length c0],[.slice a1 l2.length c1]]) vK rfl (fa vK z63 rfl rfl) rfl rfl) gn rfl fun b0=>?_;obtain⟨l4,h20,hF⟩:=J hF;refine Wo.x (fS (α:=Option Addr × Nat) (V:=fun g=>(fun(r:List (Int × Int)) (g:Option Addr × Nat)=>match r,g with|l4,(a2,c2)=>(.slice a2 l4.length c2:Value)) l4 g) (N:=fun g=>(fun(r:List (Int × Int)) (g:Option Addr × Nat)=>match r,g with|l4,(a2,c2)=>([.gen (cH a2 c2 2 l4.length (l4.map (eP (eI .i64) (eI .i64))))]:List Pc)) l4 g) rfl rfl (fun m hm=>?_)) gn rfl ?_
   ·clear hF;revert l4;intro r hF;refine av (N:=36) (rs:=[.tmp 2]) rfl Tryz.func89 rfl rfl rfl hm<|Wk.seq<|Wk.region<|Wo.od (ah rfl) rfl<|Wo.nil<|At.tn<|Wk.seq<|Wk.region<|Wo.od (ah rfl) rfl<|Wo.nil<|At.tn<|Wk.seq<|Wk.seq<|Wk.region<|Wo.od (U rfl) rfl<|Wo.od (bE (k:=0) Ei rfl rfl (.inl rfl)) rfl<|Wo.od (U rfl) rfl<|Wo.nil<|At.tn<|Wk.block<|Wk.Bp<|Wl.round<|Wk.seq<|Wk.region<|Wo.od (aj (r:=.bool true) rfl rfl ((aA _ _ _).trans rfl)) rfl<|Wo.nil<|At.tn<|Wk.seq<|Wk.ar rfl rfl ?_;refine Wk.skip<|At.tn<|Wk.seq<|Wk.block<|Wk.seq<|Wk.region ?_;obtain⟨h5,hF⟩:=ai hF;replace h5:=ak h5;refine Wo.eF (ab.GH (k:=0) (es:=[[.slice a0 l1.length c0],[.slice a1 l2.length c1]]) (w:=1) (n:=2) rfl rfl rfl rfl rfl)<|Wo.open (k:=0) rfl (bp h5) ?_;rintro _ t0 ⟨⟩ h30;refine Wo.og (du vK rfl rfl h5) gn rfl ?_;obtain⟨l7,h1,hF⟩:=J hF;refine Wo.x (mL (β:=Option Addr × Nat) (V:=fun g=>match g with | (a3,c3)=>.slice a3 l7.length c3) (N:=fun g=>match g with | (a3,c3)=>[.rd a3 c3 2 l7.length (l7.map (eP (eI .i64) (eI .i64)))]++[.arr b0 1 2 [[.slice a0 l1.length c0],[.slice a1 l2.length c1]] t0,.rd a0 c0 2 l1.length (l1.map (eP (eI .i64) (eI .i64))),.rd a1 c1 2 l2.length (l2.map (eP (eI .i64) (eI .i64)))]) rfl (fun m hm=>Pc.eh (hm.get (k:=0) rfl) (.inl rfl)) (fun m hm=>?_)) gn rfl ?_
    ·clear hF;generalize (0:Int).toNat=j at h1 ⊢
     match j,h1 with
     | 0,h1=>cases h1; exact⟨(a0,c0),rf (k:=0) (j:=0) hm iD rfl rfl rfl rfl,(Hp.dup hm (k:=1) rfl)⟩
     | 1,h1=>cases h1; exact⟨(a1,c1),rf (k:=0) (j:=1) hm iD rfl rfl rfl rfl,(Hp.dup hm (k:=2) rfl)⟩
     | _+2,h1=>cases h1
    rintro⟨a3,c3⟩;refine Wo.od (ah rfl) rfl<|Wo.nil<|At.tn<|Wk.seq<|Wk.region<|Wo.od (U rfl) rfl<|Wo.od (U rfl) rfl<|Wo.od (bE (k:=0) uV rfl rfl (.inl rfl)) rfl<|Wo.od (aj rfl rfl (ay _ _ _)) rfl<|Wo.od (ah rfl) rfl<|Wo.nil<|At.tn<|Wk.seq<|Wk.region<|Wo.od (U rfl) rfl<|Wo.od (aj rfl rfl (aA _ _ _)) rfl<|Wo.nil<|At.tn ?_;rcases ae hF with⟨h8,hF⟩|⟨h8,hF⟩
    ·refine Wk.ar rfl h8 ?_;cases hF
    ·refine Wk.au rfl h8<|Wk.skip<|At.bn<|At.tn<|Wk.region<|Wo.od (aj (r:=.int .i64 1) rfl rfl ((ay _ _ _).trans rfl)) rfl<|Wo.od (U rfl) rfl<|Wo.nil<|At.tl<|Wl.round<|Wk.seq<|Wk.region<|Wo.od (aj (r:=.bool true) rfl rfl ((aA _ _ _).trans rfl)) rfl<|Wo.nil<|At.tn<|Wk.seq<|Wk.ar rfl rfl<|Wk.skip<|At.tn<|Wk.seq<|Wk.block<|Wk.seq<|Wk.region ?_;obtain⟨h9,hF⟩:=ai hF;replace h9:=ak h9;refine Wo.og (du vK rfl rfl h9) gn rfl ?_;obtain⟨l9,h2,hF⟩:=J hF;refine Wo.x (mL (β:=Option Addr × Nat) (V:=fun g=>match g with | (a6,c6)=>.slice a6 l9.length c6) (N:=fun g=>match g with | (a6,c6)=>[.rd a6 c6 2 l9.length (l9.map (eP (eI .i64) (eI .i64)))]++[.rd a3 c3 2 l7.length (l7.map (eP (eI .i64) (eI .i64))),.arr b0 1 2 [[.slice a0 l1.length c0],[.slice a1 l2.length c1]] t0,.rd a0 c0 2 l1.length (l1.map (eP (eI .i64) (eI .i64))),.rd a1 c1 2 l2.length (l2.map (eP (eI .i64) (eI .i64)))]) rfl (fun m hm=>Pc.eh (hm.get (k:=1) rfl) (.inl rfl)) (fun m hm=>?_)) gn rfl ?_
     ·clear hF;generalize (1:Int).toNat=j at h2 ⊢
      match j,h2 with
      | 0,h2=>cases h2; exact⟨(a0,c0),rf (k:=1) (j:=0) hm iD rfl rfl rfl rfl,(Hp.dup hm (k:=2) rfl)⟩
      | 1,h2=>cases h2; exact⟨(a1,c1),rf (k:=1) (j:=1) hm iD rfl rfl rfl rfl,(Hp.dup hm (k:=3) rfl)⟩
      | _+2,h2=>cases h2
     rintro⟨a6,c6⟩;refine Wo.od (ah rfl) rfl<|Wo.nil<|At.tn<|Wk.seq<|Wk.region<|Wo.od (U rfl) rfl<|Wo.od (U rfl) rfl<|Wo.od (bE (k:=0) uV rfl rfl (.inl rfl)) rfl ?_;obtain⟨y0,h21,hF⟩:=J hF;refine Wo.od (aj rfl rfl ((ay _ _ _).trans (cI h21))) rfl<|Wo.od (ah rfl) rfl<|Wo.nil<|At.tn<|Wk.seq<|Wk.region<|Wo.od (U rfl) rfl<|Wo.od (aj rfl rfl (aA _ _ _)) rfl<|Wo.nil<|At.tn ?_;rcases ae hF with⟨h6,hF⟩|⟨h6,hF⟩
     ·refine Wk.ar rfl h6 ?_;cases hF
     ·refine Wk.au rfl h6<|Wk.skip<|At.bn<|At.tn<|Wk.region<|Wo.od (aj (r:=.int .i64 2) rfl rfl ((ay _ _ _).trans rfl)) rfl<|Wo.od (U rfl) rfl<|Wo.nil<|At.tl<|Wl.round<|Wk.seq<|Wk.region<|Wo.od (aj (r:=.bool false) rfl rfl ((aA _ _ _).trans rfl)) rfl<|Wo.nil<|At.tn<|Wk.seq<|Wk.au rfl rfl<|Wk.exit<|At.te<|At.te<|At.be<|At.tn<|Wk.seq<|Wk.region<|Wo.od (U rfl) rfl ?_;obtain⟨l3,h22,hF⟩:=J hF;refine Wo.x (fS (α:=Option Addr × Nat) (V:=fun g=>(fun(r:List (Int × Int)) (g:Option Addr × Nat)=>match r,g with|l3,(a4,c4)=>(.slice a4 l3.length c4:Value)) l3 g) (N:=fun g=>(fun(r:List (Int × Int)) (g:Option Addr × Nat)=>match r,g with|l3,(a4,c4)=>([.gen (cH a4 c4 2 l3.length (l3.map (eP (eI .i64) (eI .i64)))),.arr b0 1 2 [[.slice a0 l1.length c0],[.slice a1 l2.length c1]] t0,.rd a0 c0 2 l1.length (l1.map (eP (eI .i64) (eI .i64))),.rd a1 c1 2 l2.length (l2.map (eP (eI .i64) (eI .i64)))]:List Pc)) l3 g) rfl rfl (fun m hm=>?_)) gn rfl ?_
      ·clear hF;revert l3;intro r hF;refine av (N:=27) (rs:=[.tmp 4]) rfl Tryz.func114 rfl rfl rfl hm<|Wk.seq<|Wk.region<|Wo.od (ah rfl) rfl<|Wo.nil<|At.tn<|Wk.seq<|Wk.seq<|Wk.region<|Wo.od (U rfl) rfl<|Wo.od (aj rfl rfl (aA _ _ _)) rfl<|Wo.nil<|At.tn<|Wk.au rfl h6<|Wk.skip<|At.tn<|Wk.seq ?_;obtain⟨l6,h23,hF⟩:=J hF;refine Wk.cut (G:=(fun(r:List (Int × Int)) (g:Option Addr × Nat)=>match r,g with|l6,(a7,c7)=>⟨.normal,[(0,.slice a7 l6.length c7)],[.gen (cH a7 c7 2 l6.length (l6.map (eP (eI .i64) (eI .i64)))),.arr b0 1 2 [[.slice a0 l1.length c0],[.slice a1 l2.length c1]] t0,.rd a0 c0 2 l1.length (l1.map (eP (eI .i64) (eI .i64))),.rd a1 c1 2 l2.length (l2.map (eP (eI .i64) (eI .i64)))]⟩) l6) ?_ ?_
       ·clear hF;revert l6;intro r hF;refine Wk.seq<|Wk.region<|Wo.od (U rfl) rfl<|Wo.od (U rfl) rfl<|Wo.od (Bk uV rfl) rfl<|Wo.od (U rfl) rfl<|Wo.od (bE (k:=0) uV rfl rfl (.inr rfl)) rfl<|Wo.od (aj (r:=.int .i64 0) rfl rfl ((aT _ _ _).trans rfl)) rfl<|Wo.od (aj rfl rfl (aT _ _ _)) rfl<|Wo.od (ah rfl) rfl<|Wo.nil<|At.tn<|Wk.seq<|Wk.region<|Wo.od (U rfl) rfl<|Wo.od (aj rfl rfl (bo _ _ _)) rfl ?_;refine Wo.nil<|At.tn ?_;rcases ae hF with⟨h10,hF⟩|⟨h10,hF⟩
        ·refine Wk.ar rfl h10<|Wk.region<|Wo.od (U rfl) rfl<|Wo.od (U rfl) rfl<|Wo.od (Bk uV rfl) rfl<|Wo.od (DV zd rfl rfl (.inr ⟨_,rfl⟩)) rfl<|Wo.od (U rfl) rfl ?_;obtain⟨h24,hF⟩:=ai hF;obtain⟨h25,hF⟩:=ai hF;refine Wo.x (Cb (g:=eP (eI .i64) (eI .i64)) (z0:=((0,0):Int × Int)) zd u3 rfl h24 h25 z79 rfl rfl) gn rfl fun b1=>?_;refine Wo.od (U rfl) rfl<|Wo.od (bE (k:=0) uV rfl rfl (.inr rfl)) rfl ?_;obtain⟨h26,hF⟩:=ai hF;obtain⟨h11,hF⟩:=ai hF;replace h11:=of_decide_eq_true h11;obtain⟨l11,h12,hF⟩:=J hF;replace h12:=Option.some.inj h12;refine Wo.eF (ab.close (k:=0) rfl)<|Wo.eF (ab.BQ (k:=0) rfl)<|Wo.og (pF (k:=0) (hi:=0) zd rfl rfl rfl h26 h11 h12) gn rfl<|Wo.od (ah rfl) rfl<|Wo.nil ?_;have hr:=Option.some.inj hF;subst r;exact At.en ((some ⟨b1,0,none⟩),(IntKind.wrap .i64 (y0-0)).toNat) rfl (sc rfl sn) (ab.aa [0,3,4,5] rfl rfl)
        ·refine Wk.au rfl h10<|Wk.skip ?_;cases hF;exact At.en (none,0) rfl (sc rfl sn) (ab.trans (ab.nil 2 rfl) (ab.trans (ab.BQ (k:=0) rfl) (ab.aa [0,3,4,5] rfl rfl)))
       ·clear h23;rintro⟨a7,c7⟩;refine At.tn<|Wk.seq<|Wk.region<|Wo.od (U rfl) rfl<|Wo.od (ah rfl) rfl<|Wo.nil<|At.tn<|Wk.ret ?_;have hr:=Option.some.inj hF;subst r;exact At.ret (.tmp rfl .nil) fun m' hm=>⟨(a7,c7),rfl,(ab.aa [0,1,2,3] rfl rfl) m' hm⟩
      ·clear h22;rintro⟨a4,c4⟩;refine Wo.od (ah rfl) rfl<|Wo.nil<|At.tn<|Wk.seq<|Wk.seq<|Wk.region<|Wo.od (U rfl) rfl<|Wo.od (bE (k:=1) Ei rfl rfl (.inl rfl)) rfl<|Wo.od (U rfl) rfl<|Wo.nil<|At.tn<|Wk.block<|Wk.Bp<|Wl.round<|Wk.seq<|Wk.region<|Wo.od (aj (r:=.bool true) rfl rfl ((aA _ _ _).trans rfl)) rfl<|Wo.nil<|At.tn<|Wk.seq<|Wk.ar rfl rfl<|Wk.skip<|At.tn<|Wk.seq<|Wk.block<|Wk.seq<|Wk.region ?_;obtain⟨h13,hF⟩:=ai hF;replace h13:=ak h13;refine Wo.og (du vK rfl rfl h13) gn rfl ?_;obtain⟨l5,h3,hF⟩:=J hF;refine Wo.x (mL (β:=Option Addr × Nat) (V:=fun g=>match g with | (a5,c5)=>.slice a5 l5.length c5) (N:=fun g=>match g with | (a5,c5)=>[.rd a5 c5 2 l5.length (l5.map (eP (eI .i64) (eI .i64)))]++[.gen (cH a4 c4 2 l3.length (l3.map (eP (eI .i64) (eI .i64)))),.arr b0 1 2 [[.slice a0 l1.length c0],[.slice a1 l2.length c1]] t0,.rd a0 c0 2 l1.length (l1.map (eP (eI .i64) (eI .i64))),.rd a1 c1 2 l2.length (l2.map (eP (eI .i64) (eI .i64)))]) rfl (fun m hm=>Pc.eh (hm.get (k:=1) rfl) (.inl rfl)) (fun m hm=>?_)) gn rfl ?_
       ·clear hF;generalize (0:Int).toNat=j at h3 ⊢
        match j,h3 with
        | 0,h3=>cases h3; exact⟨(a0,c0),rf (k:=1) (j:=0) hm iD rfl rfl rfl rfl,(Hp.dup hm (k:=2) rfl)⟩
        | 1,h3=>cases h3; exact⟨(a1,c1),rf (k:=1) (j:=1) hm iD rfl rfl rfl rfl,(Hp.dup hm (k:=3) rfl)⟩
        | _+2,h3=>cases h3
       rintro⟨a5,c5⟩;refine Wo.od (ah rfl) rfl<|Wo.nil<|At.tn<|Wk.region<|Wo.od (U rfl) rfl<|Wo.od (U rfl) rfl ?_;obtain⟨h27,hF⟩:=ai hF;refine Wo.x (rm (k:=1) (xs:=(l3:List (Int × Int))) (ys:=(l5:List (Int × Int))) (vu (mq .i64) (mq .i64)) zd ⟨_,uV⟩ rfl rfl (fun m hm=>hm.rd (k:=0) rfl (.rd _ _ _ _ _)) h27) gn rfl ?_;rintro⟨a9,c9⟩;refine Wo.od (ah rfl) rfl<|Wo.nil<|At.bn<|At.tn<|Wk.region<|Wo.od (aj (r:=.int .i64 1) rfl rfl ((ay _ _ _).trans rfl)) rfl<|Wo.od (U rfl) rfl<|Wo.nil<|At.tl<|Wl.round<|Wk.seq<|Wk.region<|Wo.od (aj (r:=.bool true) rfl rfl ((aA _ _ _).trans rfl)) rfl<|Wo.nil<|At.tn<|Wk.seq<|Wk.ar rfl rfl<|Wk.skip<|At.tn<|Wk.seq<|Wk.block<|Wk.seq<|Wk.region ?_;obtain⟨h14,hF⟩:=ai hF;replace h14:=ak h14;refine Wo.og (du vK rfl rfl h14) gn rfl ?_;obtain⟨l8,h4,hF⟩:=J hF;refine Wo.x (mL (β:=Option Addr × Nat) (V:=fun g=>match g with | (a8,c8)=>.slice a8 l8.length c8) (N:=fun g=>match g with | (a8,c8)=>[.rd a8 c8 2 l8.length (l8.map (eP (eI .i64) (eI .i64)))]++[.rd a5 c5 2 l5.length (l5.map (eP (eI .i64) (eI .i64))),.gen (cH a9 c9 2 ((l3++l5).length) ((l3++l5).map (eP (eI .i64) (eI .i64)))),.arr b0 1 2 [[.slice a0 l1.length c0],[.slice a1 l2.length c1]] t0,.rd a0 c0 2 l1.length (l1.map (eP (eI .i64) (eI .i64))),.rd a1 c1 2 l2.length (l2.map (eP (eI .i64) (eI .i64)))]) rfl (fun m hm=>Pc.eh (hm.get (k:=2) rfl) (.inl rfl)) (fun m hm=>?_)) gn rfl ?_
       ·clear hF;generalize (1:Int).toNat=j at h4 ⊢
        match j,h4 with
        | 0,h4=>cases h4; exact⟨(a0,c0),rf (k:=2) (j:=0) hm iD rfl rfl rfl rfl,(Hp.dup hm (k:=3) rfl)⟩
        | 1,h4=>cases h4; exact⟨(a1,c1),rf (k:=2) (j:=1) hm iD rfl rfl rfl rfl,(Hp.dup hm (k:=4) rfl)⟩
        | _+2,h4=>cases h4
       rintro⟨a8,c8⟩;refine Wo.od (ah rfl) rfl<|Wo.nil<|At.tn<|Wk.region<|Wo.od (U rfl) rfl<|Wo.od (U rfl) rfl ?_;obtain⟨h28,hF⟩:=ai hF;refine Wo.x (rm (k:=2) (xs:=((l3++l5):List (Int × Int))) (ys:=(l8:List (Int × Int))) (vu (mq .i64) (mq .i64)) zd ⟨_,uV⟩ rfl rfl (fun m hm=>hm.rd (k:=0) rfl (.rd _ _ _ _ _)) h28) gn rfl ?_;rintro⟨a10,c10⟩;refine Wo.od (ah rfl) rfl<|Wo.nil<|At.bn<|At.tn<|Wk.region<|Wo.od (aj (r:=.int .i64 2) rfl rfl ((ay _ _ _).trans rfl)) rfl<|Wo.od (U rfl) rfl<|Wo.nil<|At.tl<|Wl.round<|Wk.seq<|Wk.region<|Wo.od (aj (r:=.bool false) rfl rfl ((aA _ _ _).trans rfl)) rfl<|Wo.nil<|At.tn<|Wk.seq<|Wk.au rfl rfl<|Wk.exit<|At.te<|At.te<|At.be<|At.tn<|Wk.seq<|Wk.region<|Wo.od (U rfl) rfl<|Wo.od (ah rfl) rfl ?_;refine Wo.nil<|At.tn<|Wk.ret ?_;cases hF;exact At.ret (.tmp rfl .nil) fun m' hm=>⟨(a10,c10),rfl,(ab.aa [2] rfl rfl) m' hm⟩
   ·clear h20;rintro⟨a2,c2⟩;obtain⟨⟨l10,r2⟩,h29,hF⟩:=J hF;refine Wo.eF (ab.BL (k:=0) rfl)<|Wo.x (aM rfl rfl (fun m hm=>yA n l4 a2 c2 _ h29 m (hm.rd (k:=0) rfl (.rd _ _ _ _ _))) fun _=>rfl) gn rfl ?_;rintro⟨a11,n0⟩;refine Wo.len (k:=0) (xs:=l10) rfl ?_;rintro rfl;refine Wo.od (bt rfl rfl) rfl<|Wo.od (bt rfl rfl) rfl<|Wo.od (ah rfl) rfl<|Wo.od (ah rfl) rfl<|Wo.nil<|At.tn<|Wk.ret ?_;cases hF;exact At.ret (.tmp rfl (.tmp rfl .nil)) fun m' hm=>⟨(a11,l10.length),rfl,(ab.aa [0] rfl rfl) m' hm⟩
theorem yT (n:Nat) (l1:List (Int × Int)) (a0:Option Addr) (c0:Nat) (r:List (Int × Int) × Int) (hF:Dn n l1=some r) (m:AMem) (h8:Rd m a0 c0 2 l1.length (l1.map (eP (eI .i64) (eI .i64)))) :
  aC aE 30 [.slice a0 l1.length c0] m (fun v m'=>∃x:Option Addr × Nat,v = .tuple #[.slice x.1 x.2 x.2,.int .i64 r.2]∧Hp m m' [.sl x.1 2 x.2 (r.1.map (eP (eI .i64) (eI .i64)))]):=by
 unfold Dn at hF;refine av (m0:=m) (ps:=[.rd a0 c0 2 l1.length (l1.map (eP (eI .i64) (eI .i64)))]) (N:=37) (rs:=[.cell 2 63,.cell 3 37]) rfl Tryz.func30 rfl rfl rfl ((Hp.start m).kT rfl h8)<|Wk.seq<|Wk.region<|Wo.x (cb z63 rfl) gn rfl fun b0=>?_;refine Wo.x (cb z37 rfl) gn rfl fun b1=>?_;refine Wo.nil<|At.tn<|Wk.seq<|Wk.seq<|Wk.region<|Wo.od (U rfl) rfl ?_;obtain⟨r5,h9,hF⟩:=J hF;refine Wo.x (aM rfl rfl (fun m hm=>qN n l1 a0 c0 _ h9 m (hm.rd (k:=2) rfl (.rd _ _ _ _ _))) fun _=>rfl) gn rfl ?_;rintro⟨⟩;refine Wo.od (ah rfl) rfl<|Wo.nil<|At.tn<|Wk.seq<|Wk.region<|Wo.od (U rfl) rfl<|Wo.od (aj rfl rfl (dm _ _)) rfl<|Wo.nil<|At.tn ?_;rcases ae hF with⟨h1,hF⟩|⟨h1,hF⟩
 ·refine Wk.ar rfl h1<|Wk.seq<|Wk.region<|Wo.od (U rfl) rfl<|Wo.o0 (ba (k:=1) iD rfl rfl rfl rfl rfl)<|Wo.o0 (ba (k:=0) iX rfl rfl rfl rfl rfl)<|Wo.nil<|At.tn<|Wk.ret<|At.tr ?_;cases hF;exact At.ret (.cell (k:=1) iD rfl rfl rfl (.cell (k:=0) iX rfl rfl rfl .nil)) fun m' hm=>⟨(none,0),rfl,(ab.trans (ab.nil 2 rfl) (ab.aa [0] rfl rfl)) m' hm⟩
 ·refine Wk.au rfl h1<|Wk.skip<|At.tn<|Wk.seq<|Wk.seq<|Wk.region<|Wo.od (U rfl) rfl ?_;obtain⟨r3,h10,hF⟩:=J hF;refine Wo.x (fS (α:=Nat) (V:=fun g=>(fun(r:Unit) (g:Nat)=>match r,g with|_,b2=>(.func (.func 86) #[] #[ptr b2 0]:Value)) r3 g) (N:=fun g=>(fun(r:Unit) (g:Nat)=>match r,g with|_,b2=>([.obj b2 (.cells [.slice a0 l1.length c0] .own),.rd a0 c0 2 l1.length (l1.map (eP (eI .i64) (eI .i64))),.obj b0 (.cells [.slice none 0 0] .own),.obj b1 (.cells [.int .i64 0] .own)]:List Pc)) r3 g) rfl rfl (fun m hm=>?_)) gn rfl ?_
  ·clear hF;revert r3;intro r hF;refine av (N:=4) (rs:=[.tmp 2]) rfl Tryz.func63 rfl rfl rfl hm<|Wk.seq<|Wk.region<|Wo.x (cy rfl) gn rfl fun b5=>?_;refine Wo.od (ah rfl) rfl<|Wo.nil<|At.tn<|Wk.seq<|Wk.region<|Wo.od (sr rfl rfl) rfl<|Wo.od (ah rfl) rfl<|Wo.nil<|At.tn<|Wk.ret ?_;cases hF;exact At.ret (.tmp rfl .nil) fun m' hm=>⟨b5,rfl,(ab.aa [0,3,2,1] rfl rfl) m' hm⟩
  ·clear h10;rintro b2;refine Wo.nil<|At.tn<|Wk.block ?_;obtain⟨r1,h11,hF⟩:=J hF;refine Wk.range (N:=27) (rs:=[]) (γ:=Option Addr) (X:=fun g=>(fun(r:(Int) ⊕ (List (Int × Int))) (g:Option Addr)=>(match r,g with | .inl v2,_=>⟨.done,(some .ret),[.obj b0 (.cells [.slice none 0 0] .own),.obj b1 (.cells [.int .i64 v2] .own)]⟩ | .inr l5,a3=>⟨.ready,none,[.obj b0 (.cells [.slice a3 l5.length l5.length] .own),.sl a3 2 l5.length (l5.map (eP (eI .i64) (eI .i64))),.obj b1 (.cells [.int .i64 0] .own)]⟩:Rn)) r1 g) rfl rfl Tryz.func86 rfl rfl rfl ?_ (fun y=>by rcases r1 with _|_<;>(intro e; cases e)) ?_
   ·clear hF;revert r1;intro r hF;intro t0 l2 r0 h12 h13;refine Wk.seq<|Wk.region<|Wo.od (al (k:=1) da rfl rfl rfl) rfl<|Wo.od (bE (k:=2) lK rfl rfl (.inl rfl)) rfl<|Wo.od (U rfl) rfl<|Wo.nil<|At.tn<|Wk.block ?_;obtain⟨r4,h2,hF⟩:=J hF;refine Wk.cut (G:=(fun(r:(Int) ⊕ (List (Int × Int))) (g:Option Addr)=>match r,g with | .inl v0,_=>⟨.ret,[],[.obj l2 (r0 .done (some .ret)),.obj b0 (.cells [.slice none 0 0] .own),.obj b1 (.cells [.int .i64 v0] .own)]⟩ | .inr l4,a1=>⟨(.exit 0),[],[.obj l2 (r0 .ready none),.obj b0 (.cells [.slice a1 l4.length l4.length] .own),.sl a1 2 l4.length (l4.map (eP (eI .i64) (eI .i64))),.obj b1 (.cells [.int .i64 0] .own)]⟩) r4) ?_ ?_
    ·refine Wk.db (fs':=[(0,.func (.yield l2) #[] #[]),(1,ptr b2 0),(5,.slice a0 l1.length c0),(6,.int .i64 (l1.length:Int)),(7,.int .i64 0)]) (ps':=[.obj l2 (r0 .ready none),.obj b2 (.cells [.slice a0 l1.length c0] .own),.rd a0 c0 2 l1.length (l1.map (eP (eI .i64) (eI .i64))),.obj b0 (.cells [.slice none ([]:List (Int × Int)).length ([]:List (Int × Int)).length] .own),.sl none 2 ([]:List (Int × Int)).length (([]:List (Int × Int)).map (eP (eI .i64) (eI .i64))),.obj b1 (.cells [.int .i64 0] .own)]) (sc rfl (sc rfl (sc rfl (sc rfl (sc rfl sn))))) (ab.trans (ab.nil 2 rfl) (ab.aa [1,2,3,4,0,5] rfl rfl)) ?_;refine Wk.loop (σ:=Int × List (Int × Int)) (ρ:=(Int) ⊕ (List (Int × Int))) (γ:=Option Addr) (δ:=fun _=>Option Addr) _ (fun(s:Int × List (Int × Int)) (g:Option Addr)=>match s,g with | (v1,l3),a2=>⟨.normal,[(0,.func (.yield l2) #[] #[]),(1,ptr b2 0),(5,.slice a0 l1.length c0),(6,.int .i64 (l1.length:Int)),(7,.int .i64 v1)],[.obj l2 (r0 .ready none),.obj b2 (.cells [.slice a0 l1.length c0] .own),.rd a0 c0 2 l1.length (l1.map (eP (eI .i64) (eI .i64))),.obj b0 (.cells [.slice a2 l3.length l3.length] .own),.sl a2 2 l3.length (l3.map (eP (eI .i64) (eI .i64))),.obj b1 (.cells [.int .i64 0] .own)]⟩) (fun(r:(Int) ⊕ (List (Int × Int))) (g:Option Addr)=>match r,g with | .inl v0,_=>⟨.ret,[],[.obj l2 (r0 .done (some .ret)),.obj b0 (.cells [.slice none 0 0] .own),.obj b1 (.cells [.int .i64 v0] .own)]⟩ | .inr l4,a1=>⟨(.exit 0),[],[.obj l2 (r0 .ready none),.obj b0 (.cells [.slice a1 l4.length l4.length] .own),.sl a1 2 l4.length (l4.map (eP (eI .i64) (eI .i64))),.obj b1 (.cells [.int .i64 0] .own)]⟩) ?_ (fun _ _=>rfl) (fun r d=>by rcases r with _|_<;>(intro e; cases e)) _ _ _ h2 none
     clear hF h2;rintro⟨v1,l3⟩ a2 r hF;unfold A6 at hF;refine Wk.seq<|Wk.region<|Wo.od (aj rfl rfl (aA _ _ _)) rfl<|Wo.nil<|At.tn<|Wk.seq ?_;rcases ae hF with⟨h3,hF⟩|⟨h3,hF⟩
     ·refine Wk.ar rfl h3<|Wk.skip<|At.tn<|Wk.seq<|Wk.block<|Wk.seq<|Wk.region<|Wo.od (U rfl) rfl ?_;obtain⟨h0,hF⟩:=ai hF;replace h0:=ak h0;refine Wo.dy (k:=2) rfl (bp h0) ?_;rintro b3 o1 rfl;refine Wo.og (bB iB rfl rfl h0) gn rfl ?_;obtain⟨⟨x3,x4⟩,h14,hF⟩:=J hF;refine Wo.od (bG (k:=0) aI rfl rfl (aH h14) rfl rfl) rfl<|Wo.x (cb z33 rfl) gn rfl fun b7=>?_;refine Wo.od (ah rfl) rfl<|Wo.o0 (ba (k:=0) aI rfl rfl rfl rfl rfl)<|Wo.nil<|At.tn<|Wk.seq<|Wk.draw (by kernel_rfl)<|Wo.od (U rfl) rfl<|Wo.od (U rfl) rfl<|Wo.od (al (k:=0) aI rfl rfl rfl) rfl<|Wo.od (al (k:=3) da rfl rfl rfl) rfl<|Wo.od (U rfl) rfl<|Wo.od (aj rfl rfl (ay _ _ _)) rfl<|Wo.od (al (k:=3) da rfl rfl rfl) rfl ?_
      refine Wo.od (bE (k:=1) lK rfl rfl (.inl rfl)) rfl ?_;obtain⟨h15,hF⟩:=ai hF;refine Wo.od (aj rfl rfl (fy _ _ h15)) rfl ?_;obtain⟨h4,hF⟩:=ai hF;replace h4:=ak h4;refine Wo.og (bB iB rfl rfl h4) gn rfl ?_;obtain⟨⟨x10,x11⟩,h16,hF⟩:=J hF;refine Wo.od (bG (k:=1) aI rfl rfl (aH h16) rfl rfl) rfl<|Wo.od (cr rfl qS rfl (cm o9 rfl rfl rfl)) rfl ?_;obtain⟨r2,h7,hF⟩:=J hF;refine Wo.x (qZ (k:=2) (k1:=0) (γA:=Nat) (GA:=(fun g:Nat=>(match g with|b4=>⟨.normal,[(2,ptr b0 0),(3,ptr b1 0),(5,ptr b4 0)],[.obj l2 (r0 .ready none),.obj b0 (.cells [.slice a2 l3.length l3.length] .own),.sl a2 2 l3.length (l3.map (eP (eI .i64) (eI .i64))),.obj b1 (.cells [.int .i64 0] .own),.obj b4 (.cells [.int .i64 v1,.int .i64 x3,.int .i64 x4,.int .i64 x10,.int .i64 x11] .own),.obj b2 (.cells [.slice (some ⟨b3,o1,none⟩) l1.length c0] .own),.ro b3 o1 2 l1.length (l1.map (eP (eI .i64) (eI .i64))),.rd (some ⟨b3,o1,none⟩) c0 2 l1.length (l1.map (eP (eI .i64) (eI .i64)))]⟩:En))) (γ:=Option Addr) (G:=fun g=>(fun(r:(Int) ⊕ (List (Int × Int))) (g:Option Addr)=>(match r,g with | .inl v3,_=>⟨.ret,[],[.obj l2 (r0 .busy none),.obj b0 (.cells [.slice none 0 0] .own),.obj b1 (.cells [.int .i64 v3] .own),.obj b2 (.cells [.slice (some ⟨b3,o1,none⟩) l1.length c0] .own),.ro b3 o1 2 l1.length (l1.map (eP (eI .i64) (eI .i64))),.rd (some ⟨b3,o1,none⟩) c0 2 l1.length (l1.map (eP (eI .i64) (eI .i64)))]⟩ | .inr l6,a4=>⟨.normal,[],[.obj l2 (r0 .busy none),.obj b0 (.cells [.slice a4 l6.length l6.length] .own),.sl a4 2 l6.length (l6.map (eP (eI .i64) (eI .i64))),.obj b1 (.cells [.int .i64 0] .own),.obj b2 (.cells [.slice (some ⟨b3,o1,none⟩) l1.length c0] .own),.ro b3 o1 2 l1.length (l1.map (eP (eI .i64) (eI .i64))),.rd (some ⟨b3,o1,none⟩) c0 2 l1.length (l1.map (eP (eI .i64) (eI .i64)))]⟩:En)) r2 g) rfl rfl rfl h13 h12 rfl ?_ (fun _=>rfl) (fun _=>rfl) ?_ (fun y=>by rcases r2 with _|_<;>rfl)) gn rfl ?_
      ·clear hF h7;refine Wk.region<|Wo.x (cb qS rfl) gn rfl fun b6=>?_;refine Wo.o0 (ba (k:=0) lH rfl rfl rfl rfl rfl)<|Wo.nil ?_;exact At.en b6 rfl (sc rfl (sc rfl (sc rfl sn))) (ab.aa [3,6,7,8,0,4,2,5] rfl rfl)
      ·clear hF;revert r2;intro r hF;rintro b4;refine Wk.block<|Wk.seq<|Wk.region<|Wo.od (aB (r:=ptr b4 1) rfl (cq _ _)) rfl<|Wo.od (al (k:=4) aI rfl rfl rfl) rfl<|Wo.od (aB (r:=ptr b4 3) rfl (cR _ _)) rfl<|Wo.od (al (k:=4) aI rfl rfl rfl) rfl ?_;obtain⟨⟨l7,r6⟩,h17,hF⟩:=J hF;refine Wo.x (aM rfl rfl (fun m hm=>BX n x3 x4 x10 x11  _ h17 m) fun _=>rfl) gn rfl ?_;rintro⟨a5,n0⟩;refine Wo.len (k:=0) (xs:=l7) rfl ?_;rintro rfl;refine Wo.od (U rfl) rfl<|Wo.od (bt rfl rfl) rfl<|Wo.od (bt rfl rfl) rfl<|Wo.od (ah rfl) rfl<|Wo.od (ah rfl) rfl<|Wo.nil<|At.tn<|Wk.seq<|Wk.seq<|Wk.region<|Wo.od (U rfl) rfl<|Wo.od (aj rfl rfl (dm _ _)) rfl<|Wo.nil<|At.tn ?_;rcases ae hF with⟨h5,hF⟩|⟨h5,hF⟩
       ·refine Wk.ar rfl h5<|Wk.seq<|Wk.region<|Wo.od (U rfl) rfl<|Wo.o0 (ba (k:=2) iD rfl rfl rfl rfl rfl)<|Wo.o0 (ba (k:=4) iX rfl rfl rfl rfl rfl)<|Wo.nil<|At.tn<|Wk.ret<|At.tr<|At.br ?_;cases hF;exact At.en none rfl sn (ab.aa [1,2,4,6,7,8] rfl rfl)
       ·refine Wk.au rfl h5<|Wk.skip<|At.tn<|Wk.seq<|Wk.region<|Wo.od (al (k:=2) iD rfl rfl rfl) rfl<|Wo.od (U rfl) rfl ?_;obtain⟨⟨l8,r7⟩,h18,hF⟩:=J hF;refine Wo.x (aM rfl rfl (fun m hm=>Cs n l3 l7 a2 l3.length a5 l7.length _ h18 m (hm.rd (k:=3) rfl (.sl _ _ _ _)) (hm.rd (k:=0) rfl (.sl _ _ _ _))) fun _=>rfl) gn rfl ?_;rintro⟨a6,n1⟩;refine Wo.len (k:=0) (xs:=l8) rfl ?_;rintro rfl;refine Wo.od (U rfl) rfl<|Wo.od (bt rfl rfl) rfl<|Wo.od (bt rfl rfl) rfl<|Wo.o0 (ba (k:=3) iD rfl rfl rfl rfl rfl)<|Wo.od (ah rfl) rfl<|Wo.nil<|At.tn<|Wk.seq<|Wk.region<|Wo.od (U rfl) rfl<|Wo.od (aj rfl rfl (dm _ _)) rfl<|Wo.nil<|At.tn ?_;rcases ae hF with⟨h6,hF⟩|⟨h6,hF⟩
        ·refine Wk.ar rfl h6<|Wk.seq<|Wk.region<|Wo.od (U rfl) rfl<|Wo.o0 (ba (k:=3) iD rfl rfl rfl rfl rfl)<|Wo.o0 (ba (k:=5) iX rfl rfl rfl rfl rfl)<|Wo.nil<|At.tn<|Wk.ret<|At.br ?_;cases hF;exact At.en none rfl sn (ab.aa [2,3,5,7,8,9] rfl rfl)
        ·refine Wk.au rfl h6<|Wk.skip<|At.bn ?_;cases hF;exact At.en a6 rfl sn (ab.aa [2,3,0,5,7,8,9] rfl rfl)
      ·clear h7;rcases r2 with v3|l6
       ·rintro g0;refine Wo.od (fb rfl rfl) rfl<|Wo.nil<|At.tn<|Wk.ar rfl rfl<|Wk.ret<|At.br<|At.tr ?_;cases hF;exact At.en none rfl sn (ab.aa [0,1,2] rfl rfl)
       ·rintro a4;refine Wo.od (fb rfl rfl) rfl<|Wo.nil<|At.tn<|Wk.au rfl rfl<|Wk.skip<|At.bn<|At.tn<|Wk.region<|Wo.od (aj rfl rfl (ay _ _ _)) rfl<|Wo.od (U rfl) rfl<|Wo.nil ?_;cases hF;exact At.en a4 rfl (sc rfl (sc rfl (sc rfl (sc rfl (sc rfl sn))))) (ab.aa [0,4,6,1,2,3] rfl rfl)
     ·refine Wk.au rfl h3<|Wk.exit<|At.te ?_;cases hF;exact At.en a2 rfl sn (ab.aa [0,3,4,5] rfl rfl)
    ·clear h2;rcases r4 with v0|l4
     ·rintro g1;refine At.br ?_;cases hF;exact At.ret .nil fun m' hm=>⟨none,(ab.aa [0,1,2] rfl rfl) m' hm⟩
     ·rintro a1;refine At.be ?_;cases hF;exact At.fin .nil fun m' hm=>⟨a1,(ab.aa [0,1,2,3] rfl rfl) m' hm⟩
   ·clear h11;rcases r1 with v2|l5
    ·rintro g2
     change Wk _ _ _ _ .ret _ _ _ _
     refine Wk.ret<|At.br<|At.tr ?_;cases hF;exact At.ret (.cell (k:=0) iD rfl rfl rfl (.cell (k:=1) iX rfl rfl rfl .nil)) fun m' hm=>⟨(none,0),rfl,(ab.trans (ab.nil 2 rfl) (ab.aa [0] rfl rfl)) m' hm⟩
    ·rintro a3
     change At _ .normal _ _ _
     refine At.bn<|At.tn<|Wk.seq<|Wk.region<|Wo.od (al (k:=0) iD rfl rfl rfl) rfl<|Wo.o0 (ba (k:=0) iD rfl rfl rfl rfl rfl)<|Wo.o0 (ba (k:=2) iX rfl rfl rfl rfl rfl)<|Wo.nil<|At.tn<|Wk.ret ?_;cases hF;exact At.ret (.cell (k:=0) iD rfl rfl rfl (.cell (k:=2) iX rfl rfl rfl .nil)) fun m' hm=>⟨(a3,l5.length),rfl,(ab.aa [1] rfl rfl) m' hm⟩
theorem sR (n:Nat) (l1:List (Int × Int)) (x5:Int) (x6:Int) (a0:Option Addr) (c0:Nat) (r:Bool) (hF:BJ n l1 x5 x6=some r) (m:AMem) (h3:Rd m a0 c0 2 l1.length (l1.map (eP (eI .i64) (eI .i64)))) :
  aC aE 28 [.slice a0 l1.length c0,.int .i64 x5,.int .i64 x6] m (fun v m'=>∃_:Unit,v = .bool r∧Hp m m' []):=by
 unfold BJ at hF;refine av (m0:=m) (ps:=[.rd a0 c0 2 l1.length (l1.map (eP (eI .i64) (eI .i64)))]) (N:=30) (rs:=[.tmp 6]) rfl Tryz.func28 rfl rfl rfl ((Hp.start m).kT rfl h3)<|Wk.seq<|Wk.region<|Wo.od (ah rfl) rfl<|Wo.nil<|At.tn<|Wk.seq<|Wk.region<|Wo.od (U rfl) rfl ?_;obtain⟨⟨l2,r0⟩,h4,hF⟩:=J hF;refine Wo.x (aM rfl rfl (fun m hm=>yT n l1 a0 c0 _ h4 m (hm.rd (k:=0) rfl (.rd _ _ _ _ _))) fun _=>rfl) gn rfl ?_;rintro⟨a1,n0⟩;refine Wo.len (k:=0) (xs:=l2) rfl ?_;rintro rfl;refine Wo.od (U rfl) rfl<|Wo.od (bt rfl rfl) rfl<|Wo.od (bt rfl rfl) rfl<|Wo.od (ah rfl) rfl<|Wo.od (ah rfl) rfl<|Wo.nil<|At.tn<|Wk.seq<|Wk.region<|Wo.od (U rfl) rfl<|Wo.od (aj rfl rfl (aZ _ _ _)) rfl<|Wo.od (U rfl) rfl ?_;rcases ae hF with⟨h1,hF⟩|⟨h1,hF⟩
 ·refine Wo.og (U rfl) (gg rfl rfl (aR h1)) rfl<|Wo.og (bE (k:=0) uV rfl rfl (.inl rfl)) (gg rfl rfl (aR h1)) rfl<|Wo.og (aj rfl rfl (aZ _ _ _)) (gg rfl rfl (aR h1)) rfl<|Wo.od (bm rfl h1 rfl) rfl<|Wo.od (U rfl) rfl ?_;rcases ae hF with⟨h0,hF⟩|⟨h0,hF⟩
  ·refine Wo.og (U rfl) (gg rfl rfl (aR h0)) rfl ?_;obtain⟨h2,hF⟩:=ai hF;replace h2:=ak h2;refine Wo.open (k:=0) rfl (bp h2) ?_;rintro b0 t0 rfl h6;refine Wo.og (du zd rfl rfl h2) (gg rfl rfl (aR h0)) rfl ?_;obtain⟨⟨x3,x4⟩,h5,hF⟩:=J hF;refine Wo.og (gr (k:=0) vP rfl rfl (aH h5) rfl rfl) (gg rfl rfl (aR h0)) rfl<|Wo.og (U rfl) (gg rfl rfl (aR h0)) rfl<|Wo.og (U rfl) (gg rfl rfl (aR h0)) rfl<|Wo.og (cr rfl z79 rfl (cm BW rfl rfl rfl)) (gg rfl rfl (aR h0)) rfl<|Wo.og (aj rfl rfl (q7 FK (E8 _ _ _ _))) (gg rfl rfl (aR h0)) rfl<|Wo.od (bm rfl h0 rfl) rfl<|Wo.od (ah rfl) rfl<|Wo.nil<|At.tn<|Wk.ret ?_;cases hF;exact At.ret (.tmp rfl .nil) fun m' hm=>⟨(),rfl,(ab.aa [] rfl rfl) m' hm⟩
  ·refine Wo.s (gg rfl rfl (aQ h0)) rfl<|Wo.s (gg rfl rfl (aQ h0)) rfl<|Wo.s (gg rfl rfl (aQ h0)) rfl<|Wo.s (gg rfl rfl (aQ h0)) rfl<|Wo.s (gg rfl rfl (aQ h0)) rfl<|Wo.s (gg rfl rfl (aQ h0)) rfl<|Wo.s (gg rfl rfl (aQ h0)) rfl<|Wo.od (bj rfl h0 rfl) rfl<|Wo.od (ah rfl) rfl<|Wo.nil<|At.tn<|Wk.ret ?_;cases hF;exact At.ret (.tmp rfl .nil) fun m' hm=>⟨(),rfl,(ab.aa [] rfl rfl) m' hm⟩
 ·refine Wo.s (gg rfl rfl (aQ h1)) rfl<|Wo.s (gg rfl rfl (aQ h1)) rfl<|Wo.s (gg rfl rfl (aQ h1)) rfl<|Wo.od (bj rfl h1 rfl) rfl<|Wo.od (U rfl) rfl<|Wo.s (gg rfl rfl rfl) rfl<|Wo.s (gg rfl rfl rfl) rfl<|Wo.s (gg rfl rfl rfl) rfl<|Wo.s (gg rfl rfl rfl) rfl<|Wo.s (gg rfl rfl rfl) rfl ?_;refine Wo.s (gg rfl rfl rfl) rfl<|Wo.s (gg rfl rfl rfl) rfl<|Wo.od (ax rfl rfl) rfl<|Wo.od (ah rfl) rfl<|Wo.nil<|At.tn<|Wk.ret ?_;cases hF;exact At.ret (.tmp rfl .nil) fun m' hm=>⟨(),rfl,(ab.aa [] rfl rfl) m' hm⟩
theorem tQ (n:Nat) (l1:List (Int × Int)) (x5:Int) (x6:Int) (a0:Option Addr) (c0:Nat) (r:Int × Int) (hF:BH n l1 x5 x6=some r) (m:AMem) (h15:Rd m a0 c0 2 l1.length (l1.map (eP (eI .i64) (eI .i64)))) :
  aC aE 20 [.slice a0 l1.length c0,.agg #[.int .i64 x5,.int .i64 x6]] m (fun v m'=>∃_:Unit,v = .tuple #[.int .i64 r.1,.int .i64 r.2]∧Hp m m' []):=by
 unfold BH at hF;refine av (m0:=m) (ps:=[.rd a0 c0 2 l1.length (l1.map (eP (eI .i64) (eI .i64)))]) (N:=73) (rs:=[.cell 4 3,.cell 5 37]) rfl Tryz.func20 rfl rfl rfl ((Hp.start m).kT rfl h15)<|Wk.seq<|Wk.region<|Wo.x (cy rfl) gn rfl fun b0=>?_;refine Wo.x (cb z3 rfl) gn rfl fun b1=>?_;refine Wo.x (cb z37 rfl) gn rfl fun b2=>?_;refine Wo.nil<|At.tn<|Wk.seq<|Wk.seq<|Wk.region<|Wo.od (U rfl) rfl ?_;obtain⟨r6,h16,hF⟩:=J hF;refine Wo.x (aM rfl rfl (fun m hm=>qN n l1 a0 c0 _ h16 m (hm.rd (k:=3) rfl (.rd _ _ _ _ _))) fun _=>rfl) gn rfl ?_;rintro⟨⟩;refine Wo.od (ah rfl) rfl<|Wo.nil<|At.tn<|Wk.seq<|Wk.region<|Wo.od (U rfl) rfl<|Wo.od (aj rfl rfl (dm _ _)) rfl<|Wo.nil<|At.tn ?_;rcases ae hF with⟨h5,hF⟩|⟨h5,hF⟩
 ·refine Wk.ar rfl h5<|Wk.seq<|Wk.region<|Wo.od (U rfl) rfl<|Wo.o0 (ba (k:=1) bz rfl rfl rfl rfl rfl)<|Wo.o0 (ba (k:=0) iX rfl rfl rfl rfl rfl)<|Wo.nil<|At.tn<|Wk.ret<|At.tr ?_;cases hF;exact At.ret (.cell (k:=1) bz rfl rfl rfl (.cell (k:=0) iX rfl rfl rfl .nil)) fun m' hm=>⟨(),rfl,(ab.aa [] rfl rfl) m' hm⟩
 ·refine Wk.au rfl h5<|Wk.skip<|At.tn<|Wk.seq<|Wk.seq<|Wk.region<|Wo.od (al (k:=2) aI rfl rfl rfl) rfl ?_;obtain⟨r7,h17,hF⟩:=J hF;refine Wo.x (aM rfl rfl (fun m hm=>jQ n x5 x6  _ h17 m) fun _=>rfl) gn rfl ?_;rintro⟨⟩;refine Wo.nil<|At.tn ?_;rcases ae hF with⟨h6,hF⟩|⟨h6,hF⟩
  ·refine Wk.ar rfl h6<|Wk.seq<|Wk.region<|Wo.o0 (ba (k:=1) bz rfl rfl rfl rfl rfl)<|Wo.o0 (ba (k:=0) iX rfl rfl rfl rfl rfl)<|Wo.nil<|At.tn<|Wk.ret<|At.tr ?_;cases hF;exact At.ret (.cell (k:=1) bz rfl rfl rfl (.cell (k:=0) iX rfl rfl rfl .nil)) fun m' hm=>⟨(),rfl,(ab.aa [] rfl rfl) m' hm⟩
  ·refine Wk.au rfl h6<|Wk.skip<|At.tn<|Wk.seq<|Wk.region<|Wo.x (cb z3 rfl) gn rfl fun b3=>?_;refine Wo.o0 (ba (k:=0) bz rfl rfl rfl rfl rfl)<|Wo.nil<|At.tn<|Wk.seq<|Wk.seq<|Wk.region<|Wo.od (U rfl) rfl ?_;obtain⟨r3,h18,hF⟩:=J hF;refine Wo.x (fS (α:=Nat) (V:=fun g=>(fun(r:Unit) (g:Nat)=>match r,g with|_,b6=>(.func (.func 86) #[] #[ptr b6 0]:Value)) r3 g) (N:=fun g=>(fun(r:Unit) (g:Nat)=>match r,g with|_,b6=>([.obj b6 (.cells [.slice a0 l1.length c0] .own),.rd a0 c0 2 l1.length (l1.map (eP (eI .i64) (eI .i64))),.obj b0 (.cells [.int .i64 x5,.int .i64 x6] .own),.obj b1 (.cells [.int .i64 0] .own),.obj b2 (.cells [.int .i64 0] .own),.obj b3 (.cells [.int .i64 0] .own)]:List Pc)) r3 g) rfl rfl (fun m hm=>?_)) gn rfl ?_
   ·clear hF;revert r3;intro r hF;refine av (N:=4) (rs:=[.tmp 2]) rfl Tryz.func63 rfl rfl rfl hm<|Wk.seq<|Wk.region<|Wo.x (cy rfl) gn rfl fun b7=>?_;refine Wo.od (ah rfl) rfl<|Wo.nil<|At.tn<|Wk.seq<|Wk.region<|Wo.od (sr rfl rfl) rfl<|Wo.od (ah rfl) rfl<|Wo.nil<|At.tn<|Wk.ret ?_;cases hF;exact At.ret (.tmp rfl .nil) fun m' hm=>⟨b7,rfl,(ab.aa [0,5,4,3,2,1] rfl rfl) m' hm⟩
   ·clear h18;rintro b6;refine Wo.nil<|At.tn<|Wk.block ?_;obtain⟨r1,h19,hF⟩:=J hF;refine Wk.range (N:=27) (rs:=[]) (γ:=Unit) (X:=fun g=>(fun(r:(Int) ⊕ (Int)) (g:Unit)=>(match r,g with | .inl v6,_=>⟨.done,(some .ret),[.obj b0 (.cells [.int .i64 x5,.int .i64 x6] .own),.obj b1 (.cells [.int .i64 1] .own),.obj b2 (.cells [.int .i64 0] .own),.obj b3 (.cells [.int .i64 v6] .own)]⟩ | .inr v7,_=>⟨.ready,none,[.obj b0 (.cells [.int .i64 x5,.int .i64 x6] .own),.obj b1 (.cells [.int .i64 0] .own),.obj b2 (.cells [.int .i64 0] .own),.obj b3 (.cells [.int .i64 v7] .own)]⟩:Rn)) r1 g) rfl rfl Tryz.func86 rfl rfl rfl ?_ (fun y=>by rcases r1 with _|_<;>(intro e; cases e)) ?_
    ·clear hF;revert r1;intro r hF;intro t0 l2 r0 h20 h21;refine Wk.seq<|Wk.region<|Wo.od (al (k:=1) da rfl rfl rfl) rfl<|Wo.od (bE (k:=2) lK rfl rfl (.inl rfl)) rfl<|Wo.od (U rfl) rfl<|Wo.nil<|At.tn<|Wk.block ?_;obtain⟨r4,h7,hF⟩:=J hF;refine Wk.cut (G:=(fun(r:(Int) ⊕ (Int)) (g:Unit)=>match r,g with | .inl v2,_=>⟨.ret,[],[.obj l2 (r0 .done (some .ret)),.obj b0 (.cells [.int .i64 x5,.int .i64 x6] .own),.obj b1 (.cells [.int .i64 1] .own),.obj b2 (.cells [.int .i64 0] .own),.obj b3 (.cells [.int .i64 v2] .own)]⟩ | .inr v3,_=>⟨(.exit 0),[],[.obj l2 (r0 .ready none),.obj b0 (.cells [.int .i64 x5,.int .i64 x6] .own),.obj b1 (.cells [.int .i64 0] .own),.obj b2 (.cells [.int .i64 0] .own),.obj b3 (.cells [.int .i64 v3] .own)]⟩) r4) ?_ ?_
     ·refine Wk.db (fs':=[(0,.func (.yield l2) #[] #[]),(1,ptr b6 0),(5,.slice a0 l1.length c0),(6,.int .i64 (l1.length:Int)),(7,.int .i64 0)]) (ps':=[.obj l2 (r0 .ready none),.obj b6 (.cells [.slice a0 l1.length c0] .own),.rd a0 c0 2 l1.length (l1.map (eP (eI .i64) (eI .i64))),.obj b0 (.cells [.int .i64 x5,.int .i64 x6] .own),.obj b1 (.cells [.int .i64 0] .own),.obj b2 (.cells [.int .i64 0] .own),.obj b3 (.cells [.int .i64 0] .own)]) (sc rfl (sc rfl (sc rfl (sc rfl (sc rfl sn))))) (ab.aa [0,1,2,3,4,5,6] rfl rfl) ?_;refine Wk.loop (σ:=Int × Int) (ρ:=(Int) ⊕ (Int)) (γ:=Unit) (δ:=fun _=>Unit) _ (fun(s:Int × Int) (g:Unit)=>match s,g with | (v0,v1),_=>⟨.normal,[(0,.func (.yield l2) #[] #[]),(1,ptr b6 0),(5,.slice a0 l1.length c0),(6,.int .i64 (l1.length:Int)),(7,.int .i64 v0)],[.obj l2 (r0 .ready none),.obj b6 (.cells [.slice a0 l1.length c0] .own),.rd a0 c0 2 l1.length (l1.map (eP (eI .i64) (eI .i64))),.obj b0 (.cells [.int .i64 x5,.int .i64 x6] .own),.obj b1 (.cells [.int .i64 0] .own),.obj b2 (.cells [.int .i64 0] .own),.obj b3 (.cells [.int .i64 v1] .own)]⟩) (fun(r:(Int) ⊕ (Int)) (g:Unit)=>match r,g with | .inl v2,_=>⟨.ret,[],[.obj l2 (r0 .done (some .ret)),.obj b0 (.cells [.int .i64 x5,.int .i64 x6] .own),.obj b1 (.cells [.int .i64 1] .own),.obj b2 (.cells [.int .i64 0] .own),.obj b3 (.cells [.int .i64 v2] .own)]⟩ | .inr v3,_=>⟨(.exit 0),[],[.obj l2 (r0 .ready none),.obj b0 (.cells [.int .i64 x5,.int .i64 x6] .own),.obj b1 (.cells [.int .i64 0] .own),.obj b2 (.cells [.int .i64 0] .own),.obj b3 (.cells [.int .i64 v3] .own)]⟩) ?_ (fun _ _=>rfl) (fun r d=>by rcases r with _|_<;>(intro e; cases e)) _ _ _ h7 ()
      clear hF h7;rintro⟨v0,v1⟩ ⟨⟩ r hF;unfold Bm at hF;refine Wk.seq<|Wk.region<|Wo.od (aj rfl rfl (aA _ _ _)) rfl<|Wo.nil<|At.tn<|Wk.seq ?_;rcases ae hF with⟨h8,hF⟩|⟨h8,hF⟩
      ·refine Wk.ar rfl h8<|Wk.skip<|At.tn<|Wk.seq<|Wk.block<|Wk.seq<|Wk.region<|Wo.od (U rfl) rfl ?_;obtain⟨h4,hF⟩:=ai hF;replace h4:=ak h4;refine Wo.dy (k:=2) rfl (bp h4) ?_;rintro b5 o1 rfl;refine Wo.og (bB iB rfl rfl h4) gn rfl ?_;obtain⟨⟨x3,x4⟩,h22,hF⟩:=J hF;refine Wo.od (bG (k:=0) aI rfl rfl (aH h22) rfl rfl) rfl<|Wo.x (cb z33 rfl) gn rfl fun b9=>?_;refine Wo.od (ah rfl) rfl<|Wo.o0 (ba (k:=0) aI rfl rfl rfl rfl rfl)<|Wo.nil<|At.tn<|Wk.seq<|Wk.draw (by kernel_rfl)<|Wo.od (U rfl) rfl<|Wo.od (U rfl) rfl<|Wo.od (al (k:=0) aI rfl rfl rfl) rfl<|Wo.od (al (k:=3) da rfl rfl rfl) rfl<|Wo.od (U rfl) rfl<|Wo.od (aj rfl rfl (ay _ _ _)) rfl<|Wo.od (al (k:=3) da rfl rfl rfl) rfl ?_
       refine Wo.od (bE (k:=1) lK rfl rfl (.inl rfl)) rfl ?_;obtain⟨h23,hF⟩:=ai hF;refine Wo.od (aj rfl rfl (fy _ _ h23)) rfl ?_;obtain⟨h9,hF⟩:=ai hF;replace h9:=ak h9;refine Wo.og (bB iB rfl rfl h9) gn rfl ?_;obtain⟨⟨x10,x11⟩,h24,hF⟩:=J hF;refine Wo.od (bG (k:=1) aI rfl rfl (aH h24) rfl rfl) rfl<|Wo.od (cr rfl qS rfl (cm o9 rfl rfl rfl)) rfl ?_;obtain⟨r2,h14,hF⟩:=J hF;refine Wo.x (qZ (k:=2) (k1:=0) (γA:=Nat) (GA:=(fun g:Nat=>(match g with|b4=>⟨.normal,[(3,ptr b0 0),(4,ptr b1 0),(5,ptr b2 0),(7,ptr b3 0),(8,ptr b4 0)],[.obj l2 (r0 .ready none),.obj b0 (.cells [.int .i64 x5,.int .i64 x6] .own),.obj b1 (.cells [.int .i64 0] .own),.obj b2 (.cells [.int .i64 0] .own),.obj b3 (.cells [.int .i64 v1] .own),.obj b4 (.cells [.int .i64 v0,.int .i64 x3,.int .i64 x4,.int .i64 x10,.int .i64 x11] .own),.obj b6 (.cells [.slice (some ⟨b5,o1,none⟩) l1.length c0] .own),.ro b5 o1 2 l1.length (l1.map (eP (eI .i64) (eI .i64))),.rd (some ⟨b5,o1,none⟩) c0 2 l1.length (l1.map (eP (eI .i64) (eI .i64)))]⟩:En))) (γ:=Unit) (G:=fun g=>(fun(r:(Unit) ⊕ (Int)) (g:Unit)=>(match r,g with | .inl _,_=>⟨.ret,[],[.obj l2 (r0 .busy none),.obj b0 (.cells [.int .i64 x5,.int .i64 x6] .own),.obj b1 (.cells [.int .i64 1] .own),.obj b2 (.cells [.int .i64 0] .own),.obj b3 (.cells [.int .i64 v1] .own),.obj b6 (.cells [.slice (some ⟨b5,o1,none⟩) l1.length c0] .own),.ro b5 o1 2 l1.length (l1.map (eP (eI .i64) (eI .i64))),.rd (some ⟨b5,o1,none⟩) c0 2 l1.length (l1.map (eP (eI .i64) (eI .i64)))]⟩ | .inr v8,_=>⟨.normal,[],[.obj l2 (r0 .busy none),.obj b0 (.cells [.int .i64 x5,.int .i64 x6] .own),.obj b1 (.cells [.int .i64 0] .own),.obj b2 (.cells [.int .i64 0] .own),.obj b3 (.cells [.int .i64 v8] .own),.obj b6 (.cells [.slice (some ⟨b5,o1,none⟩) l1.length c0] .own),.ro b5 o1 2 l1.length (l1.map (eP (eI .i64) (eI .i64))),.rd (some ⟨b5,o1,none⟩) c0 2 l1.length (l1.map (eP (eI .i64) (eI .i64)))]⟩:En)) r2 g) rfl rfl rfl h21 h20 rfl ?_ (fun _=>rfl) (fun _=>rfl) ?_ (fun y=>by rcases r2 with _|_<;>rfl)) gn rfl ?_
       ·clear hF h14;refine Wk.region<|Wo.x (cb qS rfl) gn rfl fun b8=>?_;refine Wo.o0 (ba (k:=0) lH rfl rfl rfl rfl rfl)<|Wo.nil ?_;exact At.en b8 rfl (sc rfl (sc rfl (sc rfl (sc rfl (sc rfl sn))))) (ab.aa [3,6,7,8,9,0,4,2,5] rfl rfl)
       ·clear hF;revert r2;intro r hF;rintro b4;refine Wk.block<|Wk.seq<|Wk.seq<|Wk.region<|Wo.od (al (k:=5) lH rfl rfl rfl) rfl<|Wo.od (al (k:=1) aI rfl rfl rfl) rfl ?_;obtain⟨r8,h25,hF⟩:=J hF;refine Wo.x (aM rfl rfl (fun m hm=>sO n v0 x3 x4 x10 x11 x5 x6  _ h25 m) fun _=>rfl) gn rfl ?_;rintro⟨⟩;refine Wo.nil<|At.tn ?_;rcases ae hF with⟨h10,hF⟩|⟨h10,hF⟩
        ·refine Wk.ar rfl h10<|Wk.seq<|Wk.region<|Wo.o0 (ba (k:=2) bz rfl rfl rfl rfl rfl)<|Wo.o0 (ba (k:=3) iX rfl rfl rfl rfl rfl)<|Wo.nil<|At.tn<|Wk.ret<|At.tr<|At.br ?_;cases hF;exact At.en () rfl sn (ab.aa [0,1,2,3,4,6,7,8] rfl rfl)
        ·refine Wk.au rfl h10<|Wk.skip<|At.tn<|Wk.seq<|Wk.region<|Wo.od (aB (r:=ptr b4 1) rfl (cq _ _)) rfl<|Wo.od (al (k:=5) aI rfl rfl rfl) rfl<|Wo.od (aB (r:=ptr b4 3) rfl (cR _ _)) rfl<|Wo.od (al (k:=5) aI rfl rfl rfl) rfl<|Wo.od (al (k:=1) aI rfl rfl rfl) rfl ?_;obtain⟨r5,h26,hF⟩:=J hF;refine Wo.x (aM rfl rfl (fun m hm=>gG n x3 x4 x10 x11 x5 x6  _ h26 m) fun _=>rfl) gn rfl ?_;rintro⟨⟩;refine Wo.od (ah rfl) rfl<|Wo.nil<|At.tn<|Wk.block<|Wk.seq ?_;obtain⟨v4,h27,hF⟩:=J hF;refine Wk.cut (G:=(fun(r:Bool) (g:Unit)=>match r,g with|v4,_=>⟨.normal,[(3,ptr b0 0),(4,ptr b1 0),(5,ptr b2 0),(7,ptr b3 0),(8,ptr b4 0),(9,.int .i64 r5),(29,.bool v4)],[.obj l2 (r0 .busy none),.obj b0 (.cells [.int .i64 x5,.int .i64 x6] .own),.obj b1 (.cells [.int .i64 0] .own),.obj b2 (.cells [.int .i64 0] .own),.obj b3 (.cells [.int .i64 v1] .own),.obj b4 (.cells [.int .i64 v0,.int .i64 x3,.int .i64 x4,.int .i64 x10,.int .i64 x11] .own),.obj b6 (.cells [.slice (some ⟨b5,o1,none⟩) l1.length c0] .own),.ro b5 o1 2 l1.length (l1.map (eP (eI .i64) (eI .i64))),.rd (some ⟨b5,o1,none⟩) c0 2 l1.length (l1.map (eP (eI .i64) (eI .i64)))]⟩) v4) ?_ ?_
         ·clear hF;revert v4;intro r hF;refine Wk.region<|Wo.od (aB (r:=ptr b4 1) rfl (cq _ _)) rfl<|Wo.od (aB (r:=ptr b4 2) rfl (bC _ _)) rfl<|Wo.od (al (k:=5) bz rfl rfl rfl) rfl<|Wo.od (aB (r:=ptr b0 1) rfl (bC _ _)) rfl<|Wo.od (al (k:=1) bz rfl rfl rfl) rfl<|Wo.od (aj rfl rfl (eg _ _ _)) rfl<|Wo.od (U rfl) rfl ?_;rcases ae hF with⟨h0,hF⟩|⟨h0,hF⟩
          ·refine Wo.og (aB (r:=ptr b4 3) rfl (cR _ _)) (gg rfl rfl (aR h0)) rfl<|Wo.og (aB (r:=ptr b4 4) rfl (bC _ _)) (gg rfl rfl (aR h0)) rfl<|Wo.og (al (k:=5) bz rfl rfl rfl) (gg rfl rfl (aR h0)) rfl<|Wo.og (aB (r:=ptr b0 1) rfl (bC _ _)) (gg rfl rfl (aR h0)) rfl<|Wo.og (al (k:=1) bz rfl rfl rfl) (gg rfl rfl (aR h0)) rfl<|Wo.og (aj rfl rfl (bo _ _ _)) (gg rfl rfl (aR h0)) rfl<|Wo.od (bm rfl h0 rfl) rfl<|Wo.od (U rfl) rfl ?_;rcases ae hF with⟨h2,hF⟩|⟨h2,hF⟩
           ·refine Wo.og (U rfl) (gg rfl rfl (aR h2)) rfl<|Wo.og (aj rfl rfl (bo _ _ _)) (gg rfl rfl (aR h2)) rfl<|Wo.od (bm rfl h2 rfl) rfl<|Wo.od (ah rfl) rfl<|Wo.nil ?_;cases hF;exact At.en () rfl (sc rfl (sc rfl (sc rfl (sc rfl (sc rfl (sc rfl (sc rfl sn))))))) (ab.aa [0,1,2,3,4,5,6,7,8] rfl rfl)
           ·refine Wo.s (gg rfl rfl (aQ h2)) rfl<|Wo.s (gg rfl rfl (aQ h2)) rfl<|Wo.od (bj rfl h2 rfl) rfl<|Wo.od (ah rfl) rfl<|Wo.nil ?_;cases hF;exact At.en () rfl (sc rfl (sc rfl (sc rfl (sc rfl (sc rfl (sc rfl (sc rfl sn))))))) (ab.aa [0,1,2,3,4,5,6,7,8] rfl rfl)
          ·refine Wo.s (gg rfl rfl (aQ h0)) rfl<|Wo.s (gg rfl rfl (aQ h0)) rfl<|Wo.s (gg rfl rfl (aQ h0)) rfl<|Wo.s (gg rfl rfl (aQ h0)) rfl<|Wo.s (gg rfl rfl (aQ h0)) rfl<|Wo.s (gg rfl rfl (aQ h0)) rfl<|Wo.od (bj rfl h0 rfl) rfl<|Wo.od (U rfl) rfl<|Wo.s (gg rfl rfl rfl) rfl<|Wo.s (gg rfl rfl rfl) rfl ?_;refine Wo.od (ax rfl rfl) rfl<|Wo.od (ah rfl) rfl<|Wo.nil ?_;cases hF;exact At.en () rfl (sc rfl (sc rfl (sc rfl (sc rfl (sc rfl (sc rfl (sc rfl sn))))))) (ab.aa [0,1,2,3,4,5,6,7,8] rfl rfl)
         ·clear h27;rintro⟨⟩;refine At.tn ?_;rcases ae hF with⟨h11,hF⟩|⟨h11,hF⟩
          ·refine Wk.ar rfl h11<|Wk.region<|Wo.od (al (k:=4) bz rfl rfl rfl) rfl<|Wo.od (aj rfl rfl (ay _ _ _)) rfl<|Wo.o0 (ba (k:=4) bz rfl rfl rfl rfl rfl)<|Wo.nil<|At.bn<|At.bn ?_;cases hF;exact At.en () rfl sn (ab.aa [0,1,2,3,4,6,7,8] rfl rfl)
          ·refine Wk.au rfl h11<|Wk.seq ?_;obtain⟨v5,h28,hF⟩:=J hF;refine Wk.cut (G:=(fun(r:Bool) (g:Unit)=>match r,g with|v5,_=>⟨.normal,[(3,ptr b0 0),(4,ptr b1 0),(5,ptr b2 0),(7,ptr b3 0),(8,ptr b4 0),(50,.bool v5)],[.obj l2 (r0 .busy none),.obj b0 (.cells [.int .i64 x5,.int .i64 x6] .own),.obj b1 (.cells [.int .i64 0] .own),.obj b2 (.cells [.int .i64 0] .own),.obj b3 (.cells [.int .i64 v1] .own),.obj b4 (.cells [.int .i64 v0,.int .i64 x3,.int .i64 x4,.int .i64 x10,.int .i64 x11] .own),.obj b6 (.cells [.slice (some ⟨b5,o1,none⟩) l1.length c0] .own),.ro b5 o1 2 l1.length (l1.map (eP (eI .i64) (eI .i64))),.rd (some ⟨b5,o1,none⟩) c0 2 l1.length (l1.map (eP (eI .i64) (eI .i64)))]⟩) v5) ?_ ?_
           ·clear hF;revert v5;intro r hF;refine Wk.region<|Wo.od (aB (r:=ptr b4 1) rfl (cq _ _)) rfl<|Wo.od (aB (r:=ptr b4 2) rfl (bC _ _)) rfl<|Wo.od (al (k:=5) bz rfl rfl rfl) rfl<|Wo.od (aB (r:=ptr b0 1) rfl (bC _ _)) rfl<|Wo.od (al (k:=1) bz rfl rfl rfl) rfl<|Wo.od (aj rfl rfl (bo _ _ _)) rfl<|Wo.od (U rfl) rfl ?_;rcases ae hF with⟨h1,hF⟩|⟨h1,hF⟩
            ·refine Wo.og (aB (r:=ptr b4 3) rfl (cR _ _)) (gg rfl rfl (aR h1)) rfl<|Wo.og (aB (r:=ptr b4 4) rfl (bC _ _)) (gg rfl rfl (aR h1)) rfl<|Wo.og (al (k:=5) bz rfl rfl rfl) (gg rfl rfl (aR h1)) rfl<|Wo.og (aB (r:=ptr b0 1) rfl (bC _ _)) (gg rfl rfl (aR h1)) rfl<|Wo.og (al (k:=1) bz rfl rfl rfl) (gg rfl rfl (aR h1)) rfl<|Wo.og (aj rfl rfl (eg _ _ _)) (gg rfl rfl (aR h1)) rfl<|Wo.od (bm rfl h1 rfl) rfl<|Wo.od (U rfl) rfl ?_;rcases ae hF with⟨h3,hF⟩|⟨h3,hF⟩
             ·refine Wo.og (U rfl) (gg rfl rfl (aR h3)) rfl<|Wo.og (aj rfl rfl (aA _ _ _)) (gg rfl rfl (aR h3)) rfl<|Wo.od (bm rfl h3 rfl) rfl<|Wo.od (ah rfl) rfl<|Wo.nil ?_;cases hF;exact At.en () rfl (sc rfl (sc rfl (sc rfl (sc rfl (sc rfl (sc rfl sn)))))) (ab.aa [0,1,2,3,4,5,6,7,8] rfl rfl)
             ·refine Wo.s (gg rfl rfl (aQ h3)) rfl<|Wo.s (gg rfl rfl (aQ h3)) rfl<|Wo.od (bj rfl h3 rfl) rfl<|Wo.od (ah rfl) rfl<|Wo.nil ?_;cases hF;exact At.en () rfl (sc rfl (sc rfl (sc rfl (sc rfl (sc rfl (sc rfl sn)))))) (ab.aa [0,1,2,3,4,5,6,7,8] rfl rfl)
            ·refine Wo.s (gg rfl rfl (aQ h1)) rfl<|Wo.s (gg rfl rfl (aQ h1)) rfl<|Wo.s (gg rfl rfl (aQ h1)) rfl<|Wo.s (gg rfl rfl (aQ h1)) rfl<|Wo.s (gg rfl rfl (aQ h1)) rfl<|Wo.s (gg rfl rfl (aQ h1)) rfl<|Wo.od (bj rfl h1 rfl) rfl<|Wo.od (U rfl) rfl<|Wo.s (gg rfl rfl rfl) rfl<|Wo.s (gg rfl rfl rfl) rfl ?_;refine Wo.od (ax rfl rfl) rfl<|Wo.od (ah rfl) rfl<|Wo.nil ?_;cases hF;exact At.en () rfl (sc rfl (sc rfl (sc rfl (sc rfl (sc rfl (sc rfl sn)))))) (ab.aa [0,1,2,3,4,5,6,7,8] rfl rfl)
           ·clear h28;rintro⟨⟩;refine At.tn ?_;rcases ae hF with⟨h12,hF⟩|⟨h12,hF⟩
            ·refine Wk.ar rfl h12<|Wk.region<|Wo.od (al (k:=4) bz rfl rfl rfl) rfl<|Wo.od (aj rfl rfl (aT _ _ _)) rfl<|Wo.o0 (ba (k:=4) bz rfl rfl rfl rfl rfl)<|Wo.nil<|At.bn<|At.bn ?_;cases hF;exact At.en () rfl sn (ab.aa [0,1,2,3,4,6,7,8] rfl rfl)
            ·refine Wk.au rfl h12<|Wk.skip<|At.bn<|At.bn ?_;cases hF;exact At.en () rfl sn (ab.aa [0,1,2,3,4,6,7,8] rfl rfl)
       ·clear h14;rcases r2 with _|v8
        ·rintro⟨⟩;refine Wo.od (fb rfl rfl) rfl<|Wo.nil<|At.tn<|Wk.ar rfl rfl<|Wk.ret<|At.br<|At.tr ?_;cases hF;exact At.en () rfl sn (ab.aa [0,1,2,3,4] rfl rfl)
        ·rintro⟨⟩;refine Wo.od (fb rfl rfl) rfl<|Wo.nil<|At.tn<|Wk.au rfl rfl<|Wk.skip<|At.bn<|At.tn<|Wk.region<|Wo.od (aj rfl rfl (ay _ _ _)) rfl<|Wo.od (U rfl) rfl<|Wo.nil ?_;cases hF;exact At.en () rfl (sc rfl (sc rfl (sc rfl (sc rfl (sc rfl sn))))) (ab.aa [0,5,7,1,2,3,4] rfl rfl)
      ·refine Wk.au rfl h8<|Wk.exit<|At.te ?_;cases hF;exact At.en () rfl sn (ab.aa [0,3,4,5,6] rfl rfl)
     ·clear h7;rcases r4 with v2|v3
      ·rintro⟨⟩;refine At.br ?_;cases hF;exact At.ret .nil fun m' hm=>⟨(),(ab.aa [0,1,2,3,4] rfl rfl) m' hm⟩
      ·rintro⟨⟩;refine At.be ?_;cases hF;exact At.fin .nil fun m' hm=>⟨(),(ab.aa [0,1,2,3,4] rfl rfl) m' hm⟩
    ·clear h19;rcases r1 with v6|v7
     ·rintro⟨⟩
      change Wk _ _ _ _ .ret _ _ _ _
      refine Wk.ret<|At.br<|At.tr ?_;cases hF;exact At.ret (.cell (k:=1) bz rfl rfl rfl (.cell (k:=2) iX rfl rfl rfl .nil)) fun m' hm=>⟨(),rfl,(ab.aa [] rfl rfl) m' hm⟩
     ·rintro⟨⟩
      change At _ .normal _ _ _
      refine At.bn<|At.tn<|Wk.seq<|Wk.seq<|Wk.region<|Wo.od (al (k:=3) bz rfl rfl rfl) rfl<|Wo.od (aj rfl rfl (dm _ _)) rfl<|Wo.nil<|At.tn ?_;rcases ae hF with⟨h13,hF⟩|⟨h13,hF⟩
      ·refine Wk.ar rfl h13<|Wk.seq<|Wk.region<|Wo.o0 (ba (k:=1) bz rfl rfl rfl rfl rfl)<|Wo.o0 (ba (k:=2) iX rfl rfl rfl rfl rfl)<|Wo.nil<|At.tn<|Wk.ret<|At.tr ?_;cases hF;exact At.ret (.cell (k:=1) bz rfl rfl rfl (.cell (k:=2) iX rfl rfl rfl .nil)) fun m' hm=>⟨(),rfl,(ab.aa [] rfl rfl) m' hm⟩
      ·refine Wk.au rfl h13<|Wk.skip<|At.tn<|Wk.seq<|Wk.region<|Wo.o0 (ba (k:=1) bz rfl rfl rfl rfl rfl)<|Wo.o0 (ba (k:=2) iX rfl rfl rfl rfl rfl)<|Wo.nil<|At.tn<|Wk.ret ?_;cases hF;exact At.ret (.cell (k:=1) bz rfl rfl rfl (.cell (k:=2) iX rfl rfl rfl .nil)) fun m' hm=>⟨(),rfl,(ab.aa [] rfl rfl) m' hm⟩
theorem nU (n:Nat) (l1:List (Int × Int)) (x5:Int) (x6:Int) (x7:Int) (a2:Option Addr) (c3:Nat) (r:Bool) (hF:wA n l1 x5 x6 x7=some r) (m:AMem) (h4:Rd m a2 c3 2 l1.length (l1.map (eP (eI .i64) (eI .i64)))) :
  aC aE 29 [.slice a2 l1.length c3,.int .i64 x5,.int .i64 x6,.int .i64 x7] m (fun v m'=>∃_:Unit,v = .bool r∧Hp m m' []):=by
 unfold wA at hF;refine av (m0:=m) (ps:=[.rd a2 c3 2 l1.length (l1.map (eP (eI .i64) (eI .i64)))]) (N:=26) (rs:=[.tmp 8]) rfl Tryz.func29 rfl rfl rfl ((Hp.start m).kT rfl h4)<|Wk.seq<|Wk.region<|Wo.od (ah rfl) rfl<|Wo.nil<|At.tn<|Wk.seq<|Wk.region<|Wo.od (U rfl) rfl<|Wo.od (U rfl) rfl<|Wo.od (U rfl) rfl<|Wo.od (cr rfl z33 rfl (cm gC rfl rfl rfl)) rfl ?_;obtain⟨⟨r9,r10⟩,h8,hF⟩:=J hF;refine Wo.x (aM rfl rfl (fun m hm=>tQ n l1 x5 x6 a2 c3 _ h8 m (hm.rd (k:=0) rfl (.rd _ _ _ _ _))) fun _=>rfl) gn rfl ?_;rintro⟨⟩;refine Wo.od (U rfl) rfl<|Wo.od (bt rfl rfl) rfl<|Wo.od (bt rfl rfl) rfl<|Wo.od (ah rfl) rfl<|Wo.od (ah rfl) rfl<|Wo.nil<|At.tn<|Wk.seq<|Wk.region<|Wo.od (U rfl) rfl<|Wo.od (U rfl) rfl<|Wo.od (aj rfl rfl (aZ _ _ _)) rfl<|Wo.od (U rfl) rfl ?_;rcases ae hF with⟨h11,hF⟩|⟨h11,hF⟩
 ·refine Wo.og (U rfl) (gg rfl rfl (aR h11)) rfl<|Wo.og (aj rfl rfl (aZ _ _ _)) (gg rfl rfl (aR h11)) rfl<|Wo.od (bm rfl h11 rfl) rfl<|Wo.od (ah rfl) rfl<|Wo.nil<|At.tn<|Wk.ret ?_;cases hF;exact At.ret (.tmp rfl .nil) fun m' hm=>⟨(),rfl,(ab.aa [] rfl rfl) m' hm⟩
 ·refine Wo.s (gg rfl rfl (aQ h11)) rfl<|Wo.s (gg rfl rfl (aQ h11)) rfl<|Wo.od (bj rfl h11 rfl) rfl<|Wo.od (ah rfl) rfl<|Wo.nil<|At.tn<|Wk.ret ?_;cases hF;exact At.ret (.tmp rfl .nil) fun m' hm=>⟨(),rfl,(ab.aa [] rfl rfl) m' hm⟩
theorem lI (n:Nat) (l3:List (Int × Int)) (a2:Option Addr) (c2:Nat) (r:List (Int × Int) × Int) (hF:rZ n l3=some r) (m:AMem) {H:Nat→Prop} (hH:∀b,H b→b<m.next) (h58:Rd m a2 c2 2 l3.length (l3.map (eP (eI .i64) (eI .i64)))) (h59:∀b,iE a2=some b→¬H b) :
  aC aE 13 [.slice a2 l3.length c2] m (fun v m'=>∃x:Option Addr × Nat × Nat,v = .tuple #[.slice x.1 x.2.2 x.2.1,.int .i64 r.2]∧Hp m m' [.rd x.1 x.2.1 2 x.2.2 (r.1.map (eP (eI .i64) (eI .i64))),.gen (bu H)]):=by
 unfold rZ at hF;refine av (m0:=m) (ps:=[.rd a2 c2 2 l3.length (l3.map (eP (eI .i64) (eI .i64))),.gen (bu H)]) (N:=54) (rs:=[.tmp 2,.tmp 3]) rfl Tryz.func13 rfl rfl rfl (Hp.vh (l0:=[]) (Hp.kV m hH) rfl h58 h59)<|Wk.seq<|Wk.region<|Wo.od (ah rfl) rfl<|Wo.od (ah rfl) rfl<|Wo.nil<|At.tn<|Wk.seq<|Wk.seq<|Wk.region<|Wo.od (U rfl) rfl<|Wo.od (bE (k:=0) mz rfl rfl (.inl rfl)) rfl<|Wo.od (aj rfl rfl (bo _ _ _)) rfl<|Wo.nil<|At.tn ?_;rcases ae hF with⟨h11,hF⟩|⟨h11,hF⟩
 ·refine Wk.ar rfl h11<|Wk.seq<|Wk.region<|Wo.od (ah rfl) rfl<|Wo.od (ah rfl) rfl<|Wo.nil<|At.tn<|Wk.ret<|At.tr ?_;cases hF;exact At.ret (.tmp rfl (.tmp rfl .nil)) fun m' hm=>⟨(none,0,0),rfl,(ab.trans (ab.An 2) (ab.aa [0,2] rfl rfl)) m' hm⟩
 ·refine Wk.au rfl h11<|Wk.skip<|At.tn<|Wk.seq<|Wk.seq<|Wk.region<|Wo.od (U rfl) rfl ?_;obtain⟨v3,h60,hF⟩:=J hF;refine Wo.x (fS (α:=Unit) (V:=fun g=>(fun(r:Bool) (g:Unit)=>match r,g with|v3,_=>(.bool v3:Value)) v3 g) (N:=fun g=>(fun(r:Bool) (g:Unit)=>match r,g with|v3,_=>([.rd a2 c2 2 l3.length (l3.map (eP (eI .i64) (eI .i64))),.gen (bu H)]:List Pc)) v3 g) rfl rfl (fun m hm=>?_)) gn rfl ?_
  ·clear hF;revert v3;intro r hF;refine av (N:=9) (rs:=[.tmp 4]) rfl Tryz.func47 rfl rfl rfl hm<|Wk.seq<|Wk.region<|Wo.od (ah rfl) rfl<|Wo.nil<|At.tn<|Wk.seq<|Wk.region<|Wo.od (U rfl) rfl<|Wo.od (U rfl) rfl ?_;obtain⟨v4,h61,hF⟩:=J hF;refine Wo.x (fS (α:=Unit) (V:=fun g=>(fun(r:Int) (g:Unit)=>match r,g with|v4,_=>(.int .i64 v4:Value)) v4 g) (N:=fun g=>(fun(r:Int) (g:Unit)=>match r,g with|v4,_=>([.rd a2 c2 2 l3.length (l3.map (eP (eI .i64) (eI .i64))),.gen (bu H)]:List Pc)) v4 g) rfl rfl (fun m hm=>?_)) gn rfl ?_
   ·clear hF;revert v4;intro r hF;refine av (N:=19) (rs:=[.tmp 4]) rfl Tryz.func79 rfl rfl rfl hm<|Wk.seq<|Wk.region<|Wo.od (ah rfl) rfl<|Wo.nil<|At.tn<|Wk.seq<|Wk.seq<|Wk.region<|Wo.od (U rfl) rfl<|Wo.od (bE (k:=0) mz rfl rfl (.inl rfl)) rfl<|Wo.od (U rfl) rfl<|Wo.nil<|At.tn<|Wk.block ?_;obtain⟨r2,h12,hF⟩:=J hF;refine Wk.cut (G:=(fun(r:(Int) ⊕ (Unit)) (g:Unit)=>match r,g with | .inl v6,_=>⟨.ret,[(4,.int .i64 v6)],[.rd a2 c2 2 l3.length (l3.map (eP (eI .i64) (eI .i64))),.gen (bu H)]⟩ | .inr _,_=>⟨(.exit 0),[],[.rd a2 c2 2 l3.length (l3.map (eP (eI .i64) (eI .i64))),.gen (bu H)]⟩) r2) ?_ ?_
    ·refine Wk.db (fs':=[(0,.slice a2 l3.length c2),(1,.func (.func 48) #[] #[]),(7,.int .i64 (l3.length:Int)),(8,.int .i64 0)]) (ps':=[.rd a2 c2 2 l3.length (l3.map (eP (eI .i64) (eI .i64))),.gen (bu H)]) (sc rfl (sc rfl (sc rfl (sc rfl sn)))) (ab.aa [0,1] rfl rfl) ?_;refine Wk.loop (σ:=Int) (ρ:=(Int) ⊕ (Unit)) (γ:=Unit) (δ:=fun _=>Unit) _ (fun(s:Int) (g:Unit)=>match s,g with|v11,_=>⟨.normal,[(0,.slice a2 l3.length c2),(1,.func (.func 48) #[] #[]),(7,.int .i64 (l3.length:Int)),(8,.int .i64 v11)],[.rd a2 c2 2 l3.length (l3.map (eP (eI .i64) (eI .i64))),.gen (bu H)]⟩) (fun(r:(Int) ⊕ (Unit)) (g:Unit)=>match r,g with | .inl v6,_=>⟨.ret,[(4,.int .i64 v6)],[.rd a2 c2 2 l3.length (l3.map (eP (eI .i64) (eI .i64))),.gen (bu H)]⟩ | .inr _,_=>⟨(.exit 0),[],[.rd a2 c2 2 l3.length (l3.map (eP (eI .i64) (eI .i64))),.gen (bu H)]⟩) ?_ (fun _ _=>rfl) (fun r d=>by rcases r with _|_<;>(intro e; cases e)) _ _ _ h12 ()
     clear hF h12;rintro v11 ⟨⟩ r hF;unfold sK at hF;refine Wk.seq<|Wk.region<|Wo.od (aj rfl rfl (aA _ _ _)) rfl<|Wo.nil<|At.tn<|Wk.seq ?_;rcases ae hF with⟨h13,hF⟩|⟨h13,hF⟩
     ·refine Wk.ar rfl h13<|Wk.skip<|At.tn<|Wk.seq<|Wk.block<|Wk.seq<|Wk.region<|Wo.od (U rfl) rfl<|Wo.od (ah rfl) rfl<|Wo.nil<|At.tn<|Wk.seq<|Wk.region<|Wo.od (U rfl) rfl<|Wo.od (U rfl) rfl<|Wo.od (U rfl) rfl ?_;obtain⟨h3,hF⟩:=ai hF;replace h3:=ak h3;refine Wo.dy (k:=0) rfl (bp h3) ?_;rintro b5 o1 rfl;refine Wo.og (bB ij rfl rfl h3) gn rfl ?_;obtain⟨⟨x14,x15⟩,h62,hF⟩:=J hF;refine Wo.od (bG (k:=0) aI rfl rfl (aH h62) rfl rfl) rfl ?_;obtain⟨r5,h63,hF⟩:=J hF;refine Wo.x (aM rfl rfl (fun m hm=>jQ n x14 x15  _ h63 m) fun _=>rfl) gn rfl ?_;rintro⟨⟩;refine Wo.nil<|At.tn ?_;rcases ae hF with⟨h14,hF⟩|⟨h14,hF⟩
      ·refine Wk.ar rfl h14<|Wk.seq<|Wk.region<|Wo.od (U rfl) rfl<|Wo.od (ah rfl) rfl<|Wo.nil<|At.tn<|Wk.ret<|At.br<|At.tr ?_;cases hF;exact At.en () rfl (sc rfl sn) (ab.aa [1,2] rfl rfl)
      ·refine Wk.au rfl h14<|Wk.skip<|At.bn<|At.tn<|Wk.region<|Wo.od (aj rfl rfl (ay _ _ _)) rfl<|Wo.od (U rfl) rfl<|Wo.nil ?_;cases hF;exact At.en () rfl (sc rfl (sc rfl (sc rfl (sc rfl sn)))) (ab.aa [1,2] rfl rfl)
     ·refine Wk.au rfl h13<|Wk.exit<|At.te ?_;cases hF;exact At.en () rfl sn (ab.aa [0,1] rfl rfl)
    ·clear h12;rcases r2 with v6|_
     ·rintro⟨⟩;refine At.br<|At.tr ?_;have hr:=Option.some.inj hF;subst r;exact At.ret (.tmp rfl .nil) fun m' hm=>⟨(),rfl,(ab.aa [0,1] rfl rfl) m' hm⟩
     ·rintro⟨⟩;refine At.be<|At.tn<|Wk.seq<|Wk.region<|Wo.od (ah rfl) rfl<|Wo.nil<|At.tn<|Wk.ret ?_;cases hF;exact At.ret (.tmp rfl .nil) fun m' hm=>⟨(),rfl,(ab.aa [0,1] rfl rfl) m' hm⟩
   ·clear h61;rintro⟨⟩;refine Wo.od (aj rfl rfl (gm _ _ _)) rfl<|Wo.od (ah rfl) rfl<|Wo.nil<|At.tn<|Wk.ret ?_;cases hF;exact At.ret (.tmp rfl .nil) fun m' hm=>⟨(),rfl,(ab.aa [0,1] rfl rfl) m' hm⟩
  ·clear h60;rintro⟨⟩;refine Wo.nil<|At.tn ?_;rcases ae hF with⟨h15,hF⟩|⟨h15,hF⟩
   ·refine Wk.ar rfl h15<|Wk.seq<|Wk.region<|Wo.od (ah rfl) rfl<|Wo.od (ah rfl) rfl<|Wo.nil<|At.tn<|Wk.ret<|At.tr ?_;cases hF;exact At.ret (.tmp rfl (.tmp rfl .nil)) fun m' hm=>⟨(none,0,0),rfl,(ab.trans (ab.An 2) (ab.aa [0,2] rfl rfl)) m' hm⟩
   ·refine Wk.au rfl h15<|Wk.skip<|At.tn<|Wk.seq<|Wk.region<|Wo.od (U rfl) rfl ?_;obtain⟨l2,h64,hF⟩:=J hF;refine Wo.x (aM rfl rfl (fun m hm=>C0 n l3 a2 c2 _ h64 m (hm.rd (k:=0) rfl (.rd _ _ _ _ _))) fun _=>rfl) gn rfl ?_;rintro⟨a3,n1⟩;refine Wo.len (k:=0) (xs:=l2) rfl ?_;rintro rfl;refine Wo.od (ah rfl) rfl<|Wo.nil<|At.tn<|Wk.seq<|Wk.region<|Wo.od (U rfl) rfl ?_;obtain⟨l16,h65,hF⟩:=J hF;refine Wo.x (fS (α:=Unit) (V:=fun _=>.tuple #[]) (N:=(fun _:Unit=>bH [.sl a3 2 l2.length (l2.map (eP (eI .i64) (eI .i64))),.rd a2 c2 2 l3.length (l3.map (eP (eI .i64) (eI .i64))),.gen (bu H)] 0 (.sl a3 2 l2.length (l16.map (eP (eI .i64) (eI .i64)))))) rfl rfl (fun m hm=>zS n hm (k:=0) rfl h65)) gn rfl fun _=>?_;refine Wo.nil<|At.tn<|Wk.seq<|Wk.region<|Wo.od (U rfl) rfl ?_;obtain⟨r0,h66,hF⟩:=J hF;refine Wo.x (fS (α:=Option Addr × Nat) (V:=fun g=>(fun(r:List (Int × Int) × Nat) (g:Option Addr × Nat)=>match r,g with | (l4,n0),(a0,c0)=>(.slice a0 n0 c0:Value)) r0 g) (N:=fun g=>(fun(r:List (Int × Int) × Nat) (g:Option Addr × Nat)=>match r,g with | (l4,n0),(a0,c0)=>([.gen (cH a0 c0 2 n0 (l4.map (eP (eI .i64) (eI .i64)))),.gen (bu H)]:List Pc)) r0 g) rfl rfl (fun m hm=>?_)) gn rfl ?_
    ·clear hF;revert r0;intro r hF;refine av (N:=61) (rs:=[.tmp 2]) rfl Tryz.func53 rfl rfl rfl hm<|Wk.seq<|Wk.region<|Wo.od (ah rfl) rfl<|Wo.nil<|At.tn<|Wk.seq<|Wk.seq<|Wk.region<|Wo.od (U rfl) rfl<|Wo.od (bE (k:=0) mz rfl rfl (.inl rfl)) rfl<|Wo.od (aj rfl rfl (aA _ _ _)) rfl<|Wo.nil<|At.tn ?_;rcases ae hF with⟨h16,hF⟩|⟨h16,hF⟩
     ·refine Wk.ar rfl h16<|Wk.seq<|Wk.region<|Wo.od (U rfl) rfl<|Wo.od (ah rfl) rfl<|Wo.nil<|At.tn<|Wk.ret<|At.tr ?_;cases hF;exact At.ret (.tmp rfl .nil) fun m' hm=>⟨(a3,l2.length),rfl,(ab.trans (ab.BQ (k:=0) rfl) (ab.aa [0,2] rfl rfl)) m' hm⟩
     ·refine Wk.au rfl h16<|Wk.skip<|At.tn<|Wk.seq<|Wk.seq<|Wk.region<|Wo.od (ah rfl) rfl<|Wo.nil<|At.tn<|Wk.block ?_;obtain⟨r3,h17,hF⟩:=J hF;refine Wk.cut (G:=(fun(r:(List (Int × Int)) ⊕ (Unit)) (g:Option Addr × Nat)=>match r,g with | .inl l11,(a4,c3)=>⟨.ret,[(2,.slice a4 l11.length c3)],[.gen (cH a4 c3 2 l11.length (l11.map (eP (eI .i64) (eI .i64)))),.gen (bu H)]⟩ | .inr _,(_,_)=>⟨(.exit 0),[(0,.slice a3 l2.length l2.length)],[.sl a3 2 l2.length (l16.map (eP (eI .i64) (eI .i64))),.gen (bu H)]⟩) r3) ?_ ?_
      ·refine Wk.db (fs':=[(0,.slice a3 l2.length l2.length),(3,.int .i64 1)]) (ps':=[.sl a3 2 l2.length (l16.map (eP (eI .i64) (eI .i64))),.gen (bu H)]) (sc rfl (sc rfl sn)) (ab.aa [0,2] rfl rfl) ?_;refine Wk.loop (σ:=Int) (ρ:=(List (Int × Int)) ⊕ (Unit)) (γ:=Unit) (δ:=fun _=>Option Addr × Nat) _ (fun(s:Int) (g:Unit)=>match s,g with|v0,_=>⟨.normal,[(0,.slice a3 l2.length l2.length),(3,.int .i64 v0)],[.sl a3 2 l2.length (l16.map (eP (eI .i64) (eI .i64))),.gen (bu H)]⟩) (fun(r:(List (Int × Int)) ⊕ (Unit)) (g:Option Addr × Nat)=>match r,g with | .inl l11,(a4,c3)=>⟨.ret,[(2,.slice a4 l11.length c3)],[.gen (cH a4 c3 2 l11.length (l11.map (eP (eI .i64) (eI .i64)))),.gen (bu H)]⟩ | .inr _,(_,_)=>⟨(.exit 0),[(0,.slice a3 l2.length l2.length)],[.sl a3 2 l2.length (l16.map (eP (eI .i64) (eI .i64))),.gen (bu H)]⟩) ?_ (fun _ _=>rfl) (fun r d=>by rcases r with _|_<;>(intro e; cases e)) _ _ _ h17 ()
       clear hF h17;rintro v0 ⟨⟩ r hF;unfold ko at hF;refine Wk.seq<|Wk.seq<|Wk.region<|Wo.od (U rfl) rfl<|Wo.od (U rfl) rfl<|Wo.od (bE (k:=0) mz rfl rfl (.inl rfl)) rfl<|Wo.od (aj rfl rfl (aA _ _ _)) rfl<|Wo.nil<|At.tn ?_;rcases ae hF with⟨h18,hF⟩|⟨h18,hF⟩
       ·refine Wk.ar rfl h18<|Wk.skip<|At.tn<|Wk.seq<|Wk.block<|Wk.seq<|Wk.draw (by kernel_rfl)<|Wo.od (U rfl) rfl<|Wo.od (U rfl) rfl ?_
        obtain⟨h4,hF⟩:=ai hF;replace h4:=ak h4;refine Wo.open (k:=0) rfl (bp h4) ?_;rintro b0 t0 rfl h96;refine Wo.og (du ij rfl rfl h4) gn rfl ?_;obtain⟨⟨x32,x33⟩,h67,hF⟩:=J hF;refine Wo.od (gr (k:=0) aI rfl rfl (aH h67) rfl rfl) rfl<|Wo.od (U rfl) rfl<|Wo.od (U rfl) rfl<|Wo.od (aj rfl rfl (aT _ _ _)) rfl ?_;obtain⟨h19,hF⟩:=ai hF;replace h19:=ak h19;refine Wo.og (du ij rfl rfl h19) gn rfl ?_;obtain⟨⟨x34,x35⟩,h68,hF⟩:=J hF;refine Wo.od (gr (k:=0) aI rfl rfl (aH h68) rfl rfl) rfl<|Wo.od (aj rfl rfl (q7 xm (xj _ _ _ _))) rfl<|Wo.nil<|At.tn ?_;rcases ae hF with⟨h20,hF⟩|⟨h20,hF⟩
        ·refine Wk.ar rfl h20<|Wk.seq<|Wk.region<|Wo.od (U rfl) rfl<|Wo.od (U rfl) rfl ?_;obtain⟨h21,hF⟩:=ai hF;replace h21:=ak h21;refine Wo.og (yy (k:=0) ij rfl rfl rfl h21) gn rfl<|Wo.od (ah rfl) rfl<|Wo.nil<|At.tn<|Wk.seq<|Wk.seq<|Wk.region<|Wo.od (ah rfl) rfl<|Wo.nil<|At.tn<|Wk.block ?_;obtain⟨r4,h22,hF⟩:=J hF;refine Wk.cut (G:=(fun(r:List (Int × Int) × Int) (g:Unit)=>match r,g with | (l18,v5),_=>⟨(.exit 2),[(0,.slice (some ⟨b0,0,none⟩) l2.length l2.length),(3,.int .i64 v5)],[.arr b0 2 l2.length (l18.map (eP (eI .i64) (eI .i64))) t0,.gen (bu H)]⟩) r4) ?_ ?_
         ·refine Wk.db (fs':=[(0,.slice (some ⟨b0,0,none⟩) l2.length l2.length),(3,.int .i64 v0),(4,.slice (some ⟨b0,v0.toNat*2,none⟩) (l2.length-v0.toNat:Nat) (l2.length-v0.toNat:Nat)),(5,.int .i64 1)]) (ps':=[.arr b0 2 l2.length (l16.map (eP (eI .i64) (eI .i64))) t0,.gen (bu H)]) (sc rfl (sc rfl (sc rfl (sc rfl sn)))) (ab.aa [0,1] rfl rfl) ?_;refine Wk.loop (σ:=List (Int × Int) × Int × Int) (ρ:=List (Int × Int) × Int) (γ:=Unit) (δ:=fun _=>Unit) _ (fun(s:List (Int × Int) × Int × Int) (g:Unit)=>match s,g with | (l19,v12,v10),_=>⟨.normal,[(0,.slice (some ⟨b0,0,none⟩) l2.length l2.length),(3,.int .i64 v12),(4,.slice (some ⟨b0,v0.toNat*2,none⟩) (l2.length-v0.toNat:Nat) (l2.length-v0.toNat:Nat)),(5,.int .i64 v10)],[.arr b0 2 l2.length (l19.map (eP (eI .i64) (eI .i64))) t0,.gen (bu H)]⟩) (fun(r:List (Int × Int) × Int) (g:Unit)=>match r,g with | (l18,v5),_=>⟨(.exit 2),[(0,.slice (some ⟨b0,0,none⟩) l2.length l2.length),(3,.int .i64 v5)],[.arr b0 2 l2.length (l18.map (eP (eI .i64) (eI .i64))) t0,.gen (bu H)]⟩) ?_ (fun _ _=>rfl) (fun r d=>by intro e; cases e) _ _ _ h22 ()
          clear hF h22;rintro⟨l19,v12,v10⟩ ⟨⟩ r hF;unfold nY at hF;refine Wk.seq<|Wk.seq<|Wk.region<|Wo.od (U rfl) rfl<|Wo.od (U rfl) rfl<|Wo.od (bE (k:=0) mz rfl rfl (.inl rfl)) rfl<|Wo.od (aj rfl rfl (aA _ _ _)) rfl<|Wo.nil<|At.tn ?_;rcases ae hF with⟨h23,hF⟩|⟨h23,hF⟩
          ·refine Wk.ar rfl h23<|Wk.skip<|At.tn<|Wk.seq ?_;obtain⟨r1,h69,hF⟩:=J hF;refine Wk.cut (G:=(fun(r:List (Int × Int) × Int) (g:Unit)=>match r,g with | (l20,v13),_=>⟨.normal,[(0,.slice (some ⟨b0,0,none⟩) l2.length l2.length),(3,.int .i64 v13),(4,.slice (some ⟨b0,v0.toNat*2,none⟩) (l2.length-v0.toNat:Nat) (l2.length-v0.toNat:Nat)),(5,.int .i64 v10)],[.arr b0 2 l2.length (l20.map (eP (eI .i64) (eI .i64))) t0,.gen (bu H)]⟩) r1) ?_ ?_
           ·clear hF;revert r1;intro r hF;refine Wk.block<|Wk.seq<|Wk.draw (by kernel_rfl)<|Wo.od (U rfl) rfl<|Wo.od (U rfl) rfl ?_
            obtain⟨h24,hF⟩:=ai hF;replace h24:=ak h24;refine Wo.og (wO (L:=v0.toNat) ij rfl rfl rfl h24) gn rfl ?_;obtain⟨⟨x16,x17⟩,h56,hF⟩:=J hF;refine Wo.od (gr (k:=0) aI rfl rfl (aH h56) rfl rfl) rfl<|Wo.od (U rfl) rfl<|Wo.od (U rfl) rfl<|Wo.od (aj rfl rfl (aT _ _ _)) rfl ?_;obtain⟨h25,hF⟩:=ai hF;replace h25:=ak h25;refine Wo.og (wO (L:=v0.toNat) ij rfl rfl rfl h25) gn rfl ?_;obtain⟨⟨x36,x37⟩,h70,hF⟩:=J hF;refine Wo.od (gr (k:=0) aI rfl rfl (aH h70) rfl rfl) rfl<|Wo.od (aj rfl rfl (BC xm (xj _ _ _ _))) rfl<|Wo.nil<|At.tn ?_;rcases ae hF with⟨h26,hF⟩|⟨h26,hF⟩
            ·refine Wk.ar rfl h26<|Wk.seq<|Wk.region<|Wo.od (U rfl) rfl<|Wo.od (U rfl) rfl<|Wo.od (U rfl) rfl<|Wo.od (U rfl) rfl ?_;obtain⟨h27,hF⟩:=ai hF;replace h27:=ak h27;refine Wo.og (wO (L:=v0.toNat) ij rfl rfl rfl h27) gn rfl<|Wo.od (gr (k:=0) aI rfl rfl (aH h56) rfl rfl) rfl ?_;obtain⟨h28,hF⟩:=ai hF;replace h28:=ak h28;refine Wo.og (du ij rfl rfl h28) gn rfl ?_;obtain⟨⟨x18,x19⟩,h71,hF⟩:=J hF;refine Wo.o0 (km (k:=0) (x1:=(x18,x19)) (x2:=(x16,x17)) aI rfl rfl rfl h71 rfl)<|Wo.nil<|At.tn<|Wk.region<|Wo.od (U rfl) rfl<|Wo.od (aj rfl rfl (ay _ _ _)) rfl<|Wo.od (ah rfl) rfl<|Wo.nil<|At.bn ?_;cases hF;exact At.en () rfl (sc rfl (sc rfl (sc rfl (sc rfl sn)))) (ab.aa [0,1] rfl rfl)
            ·refine Wk.au rfl h26<|Wk.skip<|At.bn ?_;cases hF;exact At.en () rfl (sc rfl (sc rfl (sc rfl (sc rfl sn)))) (ab.aa [0,1] rfl rfl)
           ·clear h69;obtain⟨l20,v13⟩:=r1;rintro⟨⟩;refine At.tn<|Wk.region<|Wo.od (U rfl) rfl<|Wo.od (aj rfl rfl (ay _ _ _)) rfl<|Wo.od (ah rfl) rfl<|Wo.nil ?_;cases hF;exact At.en () rfl (sc rfl (sc rfl (sc rfl (sc rfl sn)))) (ab.aa [0,1] rfl rfl)
          ·refine Wk.au rfl h23<|Wk.exit<|At.te ?_;cases hF;exact At.en () rfl (sc rfl (sc rfl sn)) (ab.aa [0,1] rfl rfl)
         ·clear h22;obtain⟨l18,v5⟩:=r4;rintro⟨⟩;refine At.be<|At.tn<|Wk.seq<|Wk.region<|Wo.od (U rfl) rfl<|Wo.od (U rfl) rfl ?_;obtain⟨h5,hF⟩:=ai hF;replace h5:=ak h5;refine Wo.og (yy (k:=0) ij rfl rfl rfl h5) gn rfl<|Wo.o0 (CP (k:=0) (lo:=v5) (z0:=(0,0)) ij rfl rfl rfl h5 z33 rfl rfl rfl)<|Wo.nil<|At.tn<|Wk.seq<|Wk.region<|Wo.od (U rfl) rfl<|Wo.od (U rfl) rfl ?_;obtain⟨h72,hF⟩:=ai hF;obtain⟨h29,hF⟩:=ai hF;replace h29:=of_decide_eq_true h29;obtain⟨l24,h30,hF⟩:=J hF;replace h30:=Option.some.inj h30;refine Wo.eF (ab.close (k:=0) rfl)<|Wo.eF (ab.BQ (k:=0) rfl)<|Wo.og (pF (k:=0) (hi:=v5) ij rfl rfl rfl h72 h29 h30) gn rfl<|Wo.od (ah rfl) rfl<|Wo.nil<|At.tn<|Wk.ret<|At.br<|At.tr ?_;cases hF;exact At.en ((some ⟨b0,0,none⟩),l2.length) rfl (sc rfl sn) (ab.aa [0,1] rfl rfl)
        ·refine Wk.au rfl h20<|Wk.skip<|At.bn<|At.tn<|Wk.region<|Wo.od (U rfl) rfl<|Wo.od (aj rfl rfl (ay _ _ _)) rfl<|Wo.od (ah rfl) rfl<|Wo.nil ?_;cases hF;exact At.en () rfl (sc rfl (sc rfl sn)) (ab.trans (ab.close (k:=0) rfl) (ab.aa [0,1] rfl rfl))
       ·refine Wk.au rfl h18<|Wk.exit<|At.te ?_;cases hF;exact At.en (none,0) rfl (sc rfl sn) (ab.aa [0,1] rfl rfl)
      ·clear h17;rcases r3 with l11|_
       ·rintro⟨a4,c3⟩;refine At.br<|At.tr ?_;cases hF;exact At.ret (.tmp rfl .nil) fun m' hm=>⟨(a4,c3),rfl,(ab.aa [0,1] rfl rfl) m' hm⟩
       ·rintro⟨g0,g1⟩;refine At.be<|At.tn<|Wk.seq<|Wk.region<|Wo.od (U rfl) rfl<|Wo.od (ah rfl) rfl<|Wo.nil<|At.tn<|Wk.ret ?_;cases hF;exact At.ret (.tmp rfl .nil) fun m' hm=>⟨(a3,l2.length),rfl,(ab.trans (ab.BQ (k:=0) rfl) (ab.aa [0,1] rfl rfl)) m' hm⟩
    ·clear h66;obtain⟨l4,n0⟩:=r0;rintro⟨a0,c0⟩;refine Wo.od (ah rfl) rfl<|Wo.nil<|At.tn<|Wk.seq<|Wk.region<|Wo.od (ah rfl) rfl<|Wo.nil<|At.tn<|Wk.seq<|Wk.region<|Wo.od (U rfl) rfl<|Wo.od (U rfl) rfl ?_;obtain⟨l1,h73,hF⟩:=J hF;refine Wo.x (fS (α:=Option Addr × Nat) (V:=fun g=>(fun(r:List (Int × Int)) (g:Option Addr × Nat)=>match r,g with|l1,(a1,c1)=>(.slice a1 l1.length c1:Value)) l1 g) (N:=fun g=>(fun(r:List (Int × Int)) (g:Option Addr × Nat)=>match r,g with|l1,(a1,c1)=>([.gen (cH a1 c1 2 l1.length (l1.map (eP (eI .i64) (eI .i64)))),.gen (cH a0 c0 2 n0 (l4.map (eP (eI .i64) (eI .i64)))),.gen (bu H)]:List Pc)) l1 g) rfl rfl (fun m hm=>?_)) gn rfl ?_
     ·clear hF;revert l1;intro r hF;refine av (N:=43) (rs:=[.tmp 2]) rfl Tryz.func54 rfl rfl rfl hm<|Wk.seq<|Wk.region<|Wo.od (ah rfl) rfl<|Wo.nil<|At.tn<|Wk.seq<|Wk.region<|Wo.od (ah rfl) rfl<|Wo.nil<|At.tn<|Wk.seq<|Wk.seq<|Wk.region<|Wo.od (U rfl) rfl<|Wo.od (eU (k:=0) mz rfl rfl) rfl<|Wo.od (U rfl) rfl<|Wo.nil<|At.tn<|Wk.block ?_;obtain⟨l9,h31,hF⟩:=J hF;refine Wk.cut (G:=(fun(r:List (Int × Int)) (g:Option Addr × Nat)=>match r,g with|l9,(a5,c4)=>⟨(.exit 0),[(3,.slice a5 l9.length c4)],[.gen (cH a5 c4 2 l9.length (l9.map (eP (eI .i64) (eI .i64)))),.gen (cH a0 c0 2 n0 (l4.map (eP (eI .i64) (eI .i64)))),.gen (bu H)]⟩) l9) ?_ ?_
      ·refine Wk.db (fs':=[(3,.slice none ([]:List (Int × Int)).length 0),(6,.slice a0 n0 c0),(7,.int .i64 (n0:Int)),(8,.int .i64 0)]) (ps':=[.gen (cH none 0 2 ([]:List (Int × Int)).length (([]:List (Int × Int)).map (eP (eI .i64) (eI .i64)))),.gen (cH a0 c0 2 n0 (l4.map (eP (eI .i64) (eI .i64)))),.gen (bu H)]) (sc rfl (sc rfl (sc rfl (sc rfl sn)))) (ab.trans (ab.nil 2 rfl) (ab.trans (ab.BQ (k:=0) rfl) (ab.aa [0,1,2] rfl rfl))) ?_;refine Wk.loop (σ:=List (Int × Int) × Int) (ρ:=List (Int × Int)) (γ:=Option Addr × Nat) (δ:=fun _=>Option Addr × Nat) _ (fun(s:List (Int × Int) × Int) (g:Option Addr × Nat)=>match s,g with | (l14,v1),(a6,c5)=>⟨.normal,[(3,.slice a6 l14.length c5),(6,.slice a0 n0 c0),(7,.int .i64 (n0:Int)),(8,.int .i64 v1)],[.gen (cH a6 c5 2 l14.length (l14.map (eP (eI .i64) (eI .i64)))),.gen (cH a0 c0 2 n0 (l4.map (eP (eI .i64) (eI .i64)))),.gen (bu H)]⟩) (fun(r:List (Int × Int)) (g:Option Addr × Nat)=>match r,g with|l9,(a5,c4)=>⟨(.exit 0),[(3,.slice a5 l9.length c4)],[.gen (cH a5 c4 2 l9.length (l9.map (eP (eI .i64) (eI .i64)))),.gen (cH a0 c0 2 n0 (l4.map (eP (eI .i64) (eI .i64)))),.gen (bu H)]⟩) ?_ (fun _ _=>rfl) (fun r d=>by intro e; cases e) _ _ _ h31 (none,0)
       clear hF h31;rintro⟨l14,v1⟩ ⟨a6,c5⟩ r hF;unfold pq at hF;refine Wk.seq<|Wk.region<|Wo.od (aj rfl rfl (aA _ _ _)) rfl<|Wo.nil<|At.tn<|Wk.seq ?_;rcases ae hF with⟨h32,hF⟩|⟨h32,hF⟩
       ·refine Wk.ar rfl h32<|Wk.skip<|At.tn<|Wk.seq<|Wk.block<|Wk.seq<|Wk.region ?_;obtain⟨h6,hF⟩:=ai hF;replace h6:=ak h6;refine Wo.rA (k:=1) rfl (bp h6) ?_;rintro b1 rfl;refine Wo.og (du ij rfl rfl h6) gn rfl ?_;obtain⟨⟨x3,x4⟩,h74,hF⟩:=J hF;refine Wo.od (mj (k:=1) aI rfl rfl (aH h74) rfl rfl) rfl<|Wo.x (cb z33 rfl) gn rfl fun b2=>?_;refine Wo.o0 (ba (k:=0) aI rfl rfl rfl rfl rfl)<|Wo.nil<|At.tn<|Wk.seq<|Wk.block ?_;obtain⟨l7,h33,hF⟩:=J hF;refine Wk.cut (G:=(fun(r:List (Int × Int)) (g:Option Addr × Nat)=>match r,g with|l7,(a11,c10)=>⟨(.exit 2),[(3,.slice a11 l7.length c10),(5,ptr b2 0),(6,.slice (some ⟨b1,0,none⟩) n0 c0),(7,.int .i64 (n0:Int)),(8,.int .i64 v1)],[.gen (cH a11 c10 2 l7.length (l7.map (eP (eI .i64) (eI .i64)))),.obj b2 (.cells [.int .i64 x3,.int .i64 x4] .own),.gen (cH (some ⟨b1,0,none⟩) c0 2 n0 (l4.map (eP (eI .i64) (eI .i64)))),.gen (bu H)]⟩) l7) ?_ ?_
        ·refine Wk.db (fs':=[(3,.slice a6 l14.length c5),(5,ptr b2 0),(6,.slice (some ⟨b1,0,none⟩) n0 c0),(7,.int .i64 (n0:Int)),(8,.int .i64 v1)]) (ps':=[.gen (cH a6 c5 2 l14.length (l14.map (eP (eI .i64) (eI .i64)))),.obj b2 (.cells [.int .i64 x3,.int .i64 x4] .own),.gen (cH (some ⟨b1,0,none⟩) c0 2 n0 (l4.map (eP (eI .i64) (eI .i64)))),.gen (bu H)]) (sc rfl (sc rfl (sc rfl (sc rfl (sc rfl sn))))) (ab.aa [1,0,2,3] rfl rfl) ?_;refine Wk.loop (σ:=List (Int × Int)) (ρ:=List (Int × Int)) (γ:=Option Addr × Nat) (δ:=fun _=>Option Addr × Nat) _ (fun(s:List (Int × Int)) (g:Option Addr × Nat)=>match s,g with|l12,(a7,c6)=>⟨.normal,[(3,.slice a7 l12.length c6),(5,ptr b2 0),(6,.slice (some ⟨b1,0,none⟩) n0 c0),(7,.int .i64 (n0:Int)),(8,.int .i64 v1)],[.gen (cH a7 c6 2 l12.length (l12.map (eP (eI .i64) (eI .i64)))),.obj b2 (.cells [.int .i64 x3,.int .i64 x4] .own),.gen (cH (some ⟨b1,0,none⟩) c0 2 n0 (l4.map (eP (eI .i64) (eI .i64)))),.gen (bu H)]⟩) (fun(r:List (Int × Int)) (g:Option Addr × Nat)=>match r,g with|l7,(a11,c10)=>⟨(.exit 2),[(3,.slice a11 l7.length c10),(5,ptr b2 0),(6,.slice (some ⟨b1,0,none⟩) n0 c0),(7,.int .i64 (n0:Int)),(8,.int .i64 v1)],[.gen (cH a11 c10 2 l7.length (l7.map (eP (eI .i64) (eI .i64)))),.obj b2 (.cells [.int .i64 x3,.int .i64 x4] .own),.gen (cH (some ⟨b1,0,none⟩) c0 2 n0 (l4.map (eP (eI .i64) (eI .i64)))),.gen (bu H)]⟩) ?_ (fun _ _=>rfl) (fun r d=>by intro e; cases e) _ _ _ h33 (a6,c5)
         clear hF h33;rintro l12 ⟨a7,c6⟩ r hF;unfold lS at hF;refine Wk.seq<|Wk.seq ?_;obtain⟨v7,h75,hF⟩:=J hF;refine Wk.cut (G:=(fun(r:Bool) (g:Unit)=>match r,g with|v7,_=>⟨.normal,[(3,.slice a7 l12.length c6),(5,ptr b2 0),(6,.slice (some ⟨b1,0,none⟩) n0 c0),(7,.int .i64 (n0:Int)),(8,.int .i64 v1),(31,.bool v7)],[.gen (cH a7 c6 2 l12.length (l12.map (eP (eI .i64) (eI .i64)))),.obj b2 (.cells [.int .i64 x3,.int .i64 x4] .own),.gen (cH (some ⟨b1,0,none⟩) c0 2 n0 (l4.map (eP (eI .i64) (eI .i64)))),.gen (bu H)]⟩) v7) ?_ ?_
         ·clear hF;revert v7;intro r hF;refine Wk.draw (by kernel_rfl)<|Wo.od (U rfl) rfl<|Wo.od (eU (k:=0) mz rfl rfl) rfl<|Wo.od (aj rfl rfl (bo _ _ _)) rfl<|Wo.od (U rfl) rfl ?_
          rcases ae hF with⟨h0,hF⟩|⟨h0,hF⟩
          ·refine Wo.og (U rfl) (gg rfl rfl (aR h0)) rfl<|Wo.og (U rfl) (gg rfl rfl (aR h0)) rfl<|Wo.og (eU (k:=0) mz rfl rfl) (gg rfl rfl (aR h0)) rfl<|Wo.og (aj rfl rfl (aT _ _ _)) (gg rfl rfl (aR h0)) rfl ?_;obtain⟨h7,hF⟩:=ai hF;replace h7:=ak h7;refine Wo.rA (k:=0) rfl (bp h7) ?_;rintro b6 rfl;refine Wo.og (du ij rfl rfl h7) (gg rfl rfl (aR h0)) rfl ?_;obtain⟨⟨x20,x21⟩,h76,hF⟩:=J hF;refine Wo.og (mj (k:=0) aI rfl rfl (aH h76) rfl rfl) (gg rfl rfl (aR h0)) rfl<|Wo.og (U rfl) (gg rfl rfl (aR h0)) rfl<|Wo.og (U rfl) (gg rfl rfl (aR h0)) rfl<|Wo.og (eU (k:=0) mz rfl rfl) (gg rfl rfl (aR h0)) rfl<|Wo.og (aj rfl rfl (aT _ _ _)) (gg rfl rfl (aR h0)) rfl ?_;obtain⟨h34,hF⟩:=ai hF;replace h34:=ak h34;refine Wo.og (du ij rfl rfl h34) (gg rfl rfl (aR h0)) rfl ?_;obtain⟨⟨x22,x23⟩,h77,hF⟩:=J hF;refine Wo.og (mj (k:=0) aI rfl rfl (aH h77) rfl rfl) (gg rfl rfl (aR h0)) rfl<|Wo.og (al (k:=1) aI rfl rfl rfl) (gg rfl rfl (aR h0)) rfl ?_;obtain⟨r6,h78,hF⟩:=J hF;refine Wo.x (aM rfl rfl (fun m hm=>gG n x20 x21 x22 x23 x3 x4  _ h78 m) fun _=>rfl) (gg rfl rfl (aR h0)) rfl ?_;rintro⟨⟩;refine Wo.og (aj rfl rfl (eg _ _ _)) (gg rfl rfl (aR h0)) rfl<|Wo.od (bm rfl h0 rfl) rfl<|Wo.nil ?_;cases hF;exact At.en () rfl (sc rfl (sc rfl (sc rfl (sc rfl (sc rfl (sc rfl sn)))))) (ab.aa [0,1,2,3] rfl rfl)
          ·refine Wo.s (gg rfl rfl (aQ h0)) rfl<|Wo.s (gg rfl rfl (aQ h0)) rfl<|Wo.s (gg rfl rfl (aQ h0)) rfl<|Wo.s (gg rfl rfl (aQ h0)) rfl<|Wo.s (gg rfl rfl (aQ h0)) rfl<|Wo.s (gg rfl rfl (aQ h0)) rfl<|Wo.s (gg rfl rfl (aQ h0)) rfl<|Wo.s (gg rfl rfl (aQ h0)) rfl<|Wo.s (gg rfl rfl (aQ h0)) rfl<|Wo.s (gg rfl rfl (aQ h0)) rfl ?_;refine Wo.s (gg rfl rfl (aQ h0)) rfl<|Wo.s (gg rfl rfl (aQ h0)) rfl<|Wo.s (gg rfl rfl (aQ h0)) rfl<|Wo.s (gg rfl rfl (aQ h0)) rfl<|Wo.s (gg rfl rfl (aQ h0)) rfl<|Wo.od (bj rfl h0 rfl) rfl<|Wo.nil ?_;cases hF;exact At.en () rfl (sc rfl (sc rfl (sc rfl (sc rfl (sc rfl (sc rfl sn)))))) (ab.aa [0,1,2,3] rfl rfl)
         ·clear h75;rintro⟨⟩;refine At.tn ?_;rcases ae hF with⟨h35,hF⟩|⟨h35,hF⟩
          ·refine Wk.ar rfl h35<|Wk.skip<|At.tn<|Wk.block<|Wk.region<|Wo.od (U rfl) rfl<|Wo.od (U rfl) rfl<|Wo.od (eU (k:=0) mz rfl rfl) rfl<|Wo.od (aj rfl rfl (aT _ _ _)) rfl ?_;obtain⟨h79,hF⟩:=ai hF;obtain⟨h36,hF⟩:=ai hF;replace h36:=of_decide_eq_true h36;obtain⟨l25,h37,hF⟩:=J hF;replace h37:=Option.some.inj h37;refine Wo.og (pF (k:=0) (hi:=IntKind.wrap .i64 ((l12.length:Int)-1)) ij rfl rfl rfl h79 h36 h37) gn rfl<|Wo.od (ah rfl) rfl<|Wo.nil<|At.bn ?_;cases hF;exact At.en (a7,c6) rfl (sc rfl (sc rfl (sc rfl (sc rfl (sc rfl sn))))) (ab.aa [0,1,2,3] rfl rfl)
          ·refine Wk.au rfl h35<|Wk.exit<|At.te ?_;cases hF;exact At.en (a7,c6) rfl (sc rfl (sc rfl (sc rfl (sc rfl (sc rfl sn))))) (ab.aa [0,1,2,3] rfl rfl)
        ·clear h33;rintro⟨a11,c10⟩;refine At.be<|At.tn<|Wk.region<|Wo.od (U rfl) rfl<|Wo.od (al (k:=1) aI rfl rfl rfl) rfl<|Wo.x (e6 (es:=([(x3,x4)]:List (Int × Int)).map (eP (eI .i64) (eI .i64))) ij rfl (fa ij z33 rfl rfl) rfl rfl) gn rfl fun b7=>?_;obtain⟨h80,hF⟩:=ai hF;refine Wo.x (rm (k:=1) (xs:=(l7:List (Int × Int))) (ys:=([(x3,x4)]:List (Int × Int))) (vu (mq .i64) (mq .i64)) ij ⟨_,mz⟩ rfl rfl (fun m hm=>hm.rd (k:=0) rfl (.arr _ _ _ _ _)) h80) gn rfl ?_;rintro⟨a14,c13⟩;refine Wo.od (ah rfl) rfl<|Wo.nil<|At.bn<|At.tn<|Wk.region<|Wo.od (aj rfl rfl (ay _ _ _)) rfl<|Wo.od (U rfl) rfl<|Wo.nil ?_;cases hF;exact At.en (a14,c13) rfl (sc rfl (sc rfl (sc rfl (sc rfl sn)))) (ab.aa [1,3,4] rfl rfl)
       ·refine Wk.au rfl h32<|Wk.exit<|At.te ?_;cases hF;exact At.en (a6,c5) rfl (sc rfl sn) (ab.aa [0,1,2] rfl rfl)
      ·clear h31;rintro⟨a5,c4⟩;refine At.be<|At.tn<|Wk.seq<|Wk.region<|Wo.od (U rfl) rfl<|Wo.od (ah rfl) rfl<|Wo.nil<|At.tn<|Wk.ret ?_;have hr:=Option.some.inj hF;subst r;exact At.ret (.tmp rfl .nil) fun m' hm=>⟨(a5,c4),rfl,(ab.aa [0,1,2] rfl rfl) m' hm⟩
     ·clear h73;rintro⟨a1,c1⟩;refine Wo.od (ah rfl) rfl<|Wo.nil<|At.tn<|Wk.seq<|Wk.region<|Wo.od (U rfl) rfl ?_;obtain⟨l5,h81,hF⟩:=J hF;refine Wo.x (fS (α:=Unit) (V:=fun g=>(fun(r:List (Int × Int)) (g:Unit)=>match r,g with|l5,_=>(.tuple #[]:Value)) l5 g) (N:=fun g=>(fun(r:List (Int × Int)) (g:Unit)=>match r,g with|l5,_=>([.gen (cH a0 c0 2 n0 (l5.map (eP (eI .i64) (eI .i64)))),.gen (cH a1 c1 2 l1.length (l1.map (eP (eI .i64) (eI .i64)))),.gen (bu H)]:List Pc)) l5 g) rfl rfl (fun m hm=>?_)) gn rfl ?_
      ·clear hF;revert l5;intro r hF;refine av (N:=28) (rs:=[]) rfl Tryz.func56 rfl rfl rfl hm<|Wk.seq<|Wk.region<|Wo.od (U rfl) rfl<|Wo.od (eU (k:=1) mz rfl rfl) rfl<|Wo.od (aj rfl rfl (aT _ _ _)) rfl<|Wo.od (ah rfl) rfl<|Wo.od (ah rfl) rfl<|Wo.nil<|At.tn<|Wk.block ?_;obtain⟨l17,h38,hF⟩:=J hF;refine Wk.cut (G:=(fun(r:List (Int × Int)) (g:Unit)=>match r,g with|l17,_=>⟨(.exit 0),[],[.gen (cH a0 c0 2 n0 (l17.map (eP (eI .i64) (eI .i64)))),.gen (cH a1 c1 2 l1.length (l1.map (eP (eI .i64) (eI .i64)))),.gen (bu H)]⟩) l17) ?_ ?_
       ·refine Wk.db (fs':=[(0,.slice a0 n0 c0),(2,.int .i64 0),(3,.int .i64 (IntKind.wrap .i64 ((n0:Int)-1)))]) (ps':=[.gen (cH a0 c0 2 n0 (l4.map (eP (eI .i64) (eI .i64)))),.gen (cH a1 c1 2 l1.length (l1.map (eP (eI .i64) (eI .i64)))),.gen (bu H)]) (sc rfl (sc rfl (sc rfl sn))) (ab.aa [1,0,2] rfl rfl) ?_;refine Wk.loop (σ:=List (Int × Int) × Int × Int) (ρ:=List (Int × Int)) (γ:=Unit) (δ:=fun _=>Unit) _ (fun(s:List (Int × Int) × Int × Int) (g:Unit)=>match s,g with | (l21,v14,v15),_=>⟨.normal,[(0,.slice a0 n0 c0),(2,.int .i64 v14),(3,.int .i64 v15)],[.gen (cH a0 c0 2 n0 (l21.map (eP (eI .i64) (eI .i64)))),.gen (cH a1 c1 2 l1.length (l1.map (eP (eI .i64) (eI .i64)))),.gen (bu H)]⟩) (fun(r:List (Int × Int)) (g:Unit)=>match r,g with|l17,_=>⟨(.exit 0),[],[.gen (cH a0 c0 2 n0 (l17.map (eP (eI .i64) (eI .i64)))),.gen (cH a1 c1 2 l1.length (l1.map (eP (eI .i64) (eI .i64)))),.gen (bu H)]⟩) ?_ (fun _ _=>rfl) (fun r d=>by intro e; cases e) _ _ _ h38 ()
        clear hF h38;rintro⟨l21,v14,v15⟩ ⟨⟩ r hF;unfold pw at hF;refine Wk.seq<|Wk.seq<|Wk.region<|Wo.od (U rfl) rfl<|Wo.od (U rfl) rfl<|Wo.od (aj rfl rfl (aA _ _ _)) rfl<|Wo.nil<|At.tn ?_;rcases ae hF with⟨h39,hF⟩|⟨h39,hF⟩
        ·refine Wk.ar rfl h39<|Wk.skip<|At.tn<|Wk.seq<|Wk.block<|Wk.draw (by kernel_rfl)<|Wo.od (U rfl) rfl<|Wo.od (U rfl) rfl<|Wo.od (U rfl) rfl<|Wo.od (U rfl) rfl<|Wo.od (U rfl) rfl<|Wo.od (U rfl) rfl ?_
         obtain⟨h8,hF⟩:=ai hF;replace h8:=ak h8;refine Wo.rA (k:=0) rfl (bp h8) ?_;rintro b8 rfl;refine Wo.og (du ij rfl rfl h8) gn rfl ?_;obtain⟨⟨x24,x25⟩,h82,hF⟩:=J hF;refine Wo.od (mj (k:=0) aI rfl rfl (aH h82) rfl rfl) rfl<|Wo.od (U rfl) rfl<|Wo.od (U rfl) rfl ?_;obtain⟨h40,hF⟩:=ai hF;replace h40:=ak h40;refine Wo.og (du ij rfl rfl h40) gn rfl ?_;obtain⟨⟨x12,x13⟩,h57,hF⟩:=J hF;refine Wo.od (mj (k:=0) aI rfl rfl (aH h57) rfl rfl) rfl ?_;obtain⟨h41,hF⟩:=ai hF;replace h41:=ak h41;refine Wo.og (du ij rfl rfl h41) gn rfl<|Wo.o0 (xh (k:=0) (x1:=(x12,x13)) (x2:=(x24,x25)) aI rfl rfl rfl h57 rfl) ?_;obtain⟨h42,hF⟩:=ai hF;replace h42:=ak h42;refine Wo.og (du ij rfl rfl h42) gn rfl ?_;obtain⟨⟨x26,x27⟩,h83,hF⟩:=J hF;refine Wo.o0 (xh (k:=0) (x1:=(x26,x27)) (x2:=(x12,x13)) aI rfl rfl rfl h83 rfl)<|Wo.nil<|At.bn<|At.tn<|Wk.region<|Wo.od (U rfl) rfl<|Wo.od (aj rfl rfl (ay _ _ _)) rfl<|Wo.od (U rfl) rfl<|Wo.od (aj rfl rfl (aT _ _ _)) rfl<|Wo.od (ah rfl) rfl<|Wo.od (ah rfl) rfl<|Wo.nil ?_;cases hF;exact At.en () rfl (sc rfl (sc rfl (sc rfl sn))) (ab.aa [0,1,2] rfl rfl)
        ·refine Wk.au rfl h39<|Wk.exit<|At.te ?_;cases hF;exact At.en () rfl sn (ab.aa [0,1,2] rfl rfl)
       ·clear h38;rintro⟨⟩;refine At.be ?_;have hr:=Option.some.inj hF;subst r;exact At.fin .nil fun m' hm=>⟨(),rfl,(ab.aa [0,1,2] rfl rfl) m' hm⟩
      ·clear h81;rintro⟨⟩;refine Wo.nil<|At.tn<|Wk.seq<|Wk.region<|Wo.od (U rfl) rfl<|Wo.od (U rfl) rfl ?_;obtain⟨l6,h84,hF⟩:=J hF;refine Wo.x (fS (α:=Option Addr × Nat) (V:=fun g=>(fun(r:List (Int × Int)) (g:Option Addr × Nat)=>match r,g with|l6,(a12,c11)=>(.slice a12 l6.length c11:Value)) l6 g) (N:=fun g=>(fun(r:List (Int × Int)) (g:Option Addr × Nat)=>match r,g with|l6,(a12,c11)=>([.gen (cH a12 c11 2 l6.length (l6.map (eP (eI .i64) (eI .i64)))),.gen (cH a1 c1 2 l1.length (l1.map (eP (eI .i64) (eI .i64)))),.gen (bu H)]:List Pc)) l6 g) rfl rfl (fun m hm=>?_)) gn rfl ?_
       ·clear hF;revert l6;intro r hF;refine av (N:=43) (rs:=[.tmp 2]) rfl Tryz.func54 rfl rfl rfl hm<|Wk.seq<|Wk.region<|Wo.od (ah rfl) rfl<|Wo.nil<|At.tn<|Wk.seq<|Wk.region<|Wo.od (ah rfl) rfl<|Wo.nil<|At.tn<|Wk.seq<|Wk.seq<|Wk.region<|Wo.od (U rfl) rfl<|Wo.od (eU (k:=0) mz rfl rfl) rfl<|Wo.od (U rfl) rfl<|Wo.nil<|At.tn<|Wk.block ?_;obtain⟨l10,h43,hF⟩:=J hF;refine Wk.cut (G:=(fun(r:List (Int × Int)) (g:Option Addr × Nat)=>match r,g with|l10,(a8,c7)=>⟨(.exit 0),[(3,.slice a8 l10.length c7)],[.gen (cH a8 c7 2 l10.length (l10.map (eP (eI .i64) (eI .i64)))),.gen (cH a1 c1 2 l1.length (l1.map (eP (eI .i64) (eI .i64)))),.gen (bu H)]⟩) l10) ?_ ?_
        ·refine Wk.db (fs':=[(3,.slice none ([]:List (Int × Int)).length 0),(6,.slice a0 n0 c0),(7,.int .i64 (n0:Int)),(8,.int .i64 0)]) (ps':=[.gen (cH none 0 2 ([]:List (Int × Int)).length (([]:List (Int × Int)).map (eP (eI .i64) (eI .i64)))),.gen (cH a0 c0 2 n0 (l5.map (eP (eI .i64) (eI .i64)))),.gen (cH a1 c1 2 l1.length (l1.map (eP (eI .i64) (eI .i64)))),.gen (bu H)]) (sc rfl (sc rfl (sc rfl (sc rfl sn)))) (ab.trans (ab.nil 2 rfl) (ab.trans (ab.BQ (k:=0) rfl) (ab.aa [0,1,2,3] rfl rfl))) ?_;refine Wk.loop (σ:=List (Int × Int) × Int) (ρ:=List (Int × Int)) (γ:=Option Addr × Nat) (δ:=fun _=>Option Addr × Nat) _ (fun(s:List (Int × Int) × Int) (g:Option Addr × Nat)=>match s,g with | (l15,v2),(a9,c8)=>⟨.normal,[(3,.slice a9 l15.length c8),(6,.slice a0 n0 c0),(7,.int .i64 (n0:Int)),(8,.int .i64 v2)],[.gen (cH a9 c8 2 l15.length (l15.map (eP (eI .i64) (eI .i64)))),.gen (cH a0 c0 2 n0 (l5.map (eP (eI .i64) (eI .i64)))),.gen (cH a1 c1 2 l1.length (l1.map (eP (eI .i64) (eI .i64)))),.gen (bu H)]⟩) (fun(r:List (Int × Int)) (g:Option Addr × Nat)=>match r,g with|l10,(a8,c7)=>⟨(.exit 0),[(3,.slice a8 l10.length c7)],[.gen (cH a8 c7 2 l10.length (l10.map (eP (eI .i64) (eI .i64)))),.gen (cH a1 c1 2 l1.length (l1.map (eP (eI .i64) (eI .i64)))),.gen (bu H)]⟩) ?_ (fun _ _=>rfl) (fun r d=>by intro e; cases e) _ _ _ h43 (none,0)
         clear hF h43;rintro⟨l15,v2⟩ ⟨a9,c8⟩ r hF;unfold pc at hF;refine Wk.seq<|Wk.region<|Wo.od (aj rfl rfl (aA _ _ _)) rfl<|Wo.nil<|At.tn<|Wk.seq ?_;rcases ae hF with⟨h44,hF⟩|⟨h44,hF⟩
         ·refine Wk.ar rfl h44<|Wk.skip<|At.tn<|Wk.seq<|Wk.block<|Wk.seq<|Wk.region ?_;obtain⟨h9,hF⟩:=ai hF;replace h9:=ak h9;refine Wo.rA (k:=1) rfl (bp h9) ?_;rintro b3 rfl;refine Wo.og (du ij rfl rfl h9) gn rfl ?_;obtain⟨⟨x10,x11⟩,h85,hF⟩:=J hF;refine Wo.od (mj (k:=1) aI rfl rfl (aH h85) rfl rfl) rfl<|Wo.x (cb z33 rfl) gn rfl fun b4=>?_;refine Wo.o0 (ba (k:=0) aI rfl rfl rfl rfl rfl)<|Wo.nil<|At.tn<|Wk.seq<|Wk.block ?_;obtain⟨l8,h45,hF⟩:=J hF;refine Wk.cut (G:=(fun(r:List (Int × Int)) (g:Option Addr × Nat)=>match r,g with|l8,(a13,c12)=>⟨(.exit 2),[(3,.slice a13 l8.length c12),(5,ptr b4 0),(6,.slice (some ⟨b3,0,none⟩) n0 c0),(7,.int .i64 (n0:Int)),(8,.int .i64 v2)],[.gen (cH a13 c12 2 l8.length (l8.map (eP (eI .i64) (eI .i64)))),.obj b4 (.cells [.int .i64 x10,.int .i64 x11] .own),.gen (cH (some ⟨b3,0,none⟩) c0 2 n0 (l5.map (eP (eI .i64) (eI .i64)))),.gen (cH a1 c1 2 l1.length (l1.map (eP (eI .i64) (eI .i64)))),.gen (bu H)]⟩) l8) ?_ ?_
          ·refine Wk.db (fs':=[(3,.slice a9 l15.length c8),(5,ptr b4 0),(6,.slice (some ⟨b3,0,none⟩) n0 c0),(7,.int .i64 (n0:Int)),(8,.int .i64 v2)]) (ps':=[.gen (cH a9 c8 2 l15.length (l15.map (eP (eI .i64) (eI .i64)))),.obj b4 (.cells [.int .i64 x10,.int .i64 x11] .own),.gen (cH (some ⟨b3,0,none⟩) c0 2 n0 (l5.map (eP (eI .i64) (eI .i64)))),.gen (cH a1 c1 2 l1.length (l1.map (eP (eI .i64) (eI .i64)))),.gen (bu H)]) (sc rfl (sc rfl (sc rfl (sc rfl (sc rfl sn))))) (ab.aa [1,0,2,3,4] rfl rfl) ?_;refine Wk.loop (σ:=List (Int × Int)) (ρ:=List (Int × Int)) (γ:=Option Addr × Nat) (δ:=fun _=>Option Addr × Nat) _ (fun(s:List (Int × Int)) (g:Option Addr × Nat)=>match s,g with|l13,(a10,c9)=>⟨.normal,[(3,.slice a10 l13.length c9),(5,ptr b4 0),(6,.slice (some ⟨b3,0,none⟩) n0 c0),(7,.int .i64 (n0:Int)),(8,.int .i64 v2)],[.gen (cH a10 c9 2 l13.length (l13.map (eP (eI .i64) (eI .i64)))),.obj b4 (.cells [.int .i64 x10,.int .i64 x11] .own),.gen (cH (some ⟨b3,0,none⟩) c0 2 n0 (l5.map (eP (eI .i64) (eI .i64)))),.gen (cH a1 c1 2 l1.length (l1.map (eP (eI .i64) (eI .i64)))),.gen (bu H)]⟩) (fun(r:List (Int × Int)) (g:Option Addr × Nat)=>match r,g with|l8,(a13,c12)=>⟨(.exit 2),[(3,.slice a13 l8.length c12),(5,ptr b4 0),(6,.slice (some ⟨b3,0,none⟩) n0 c0),(7,.int .i64 (n0:Int)),(8,.int .i64 v2)],[.gen (cH a13 c12 2 l8.length (l8.map (eP (eI .i64) (eI .i64)))),.obj b4 (.cells [.int .i64 x10,.int .i64 x11] .own),.gen (cH (some ⟨b3,0,none⟩) c0 2 n0 (l5.map (eP (eI .i64) (eI .i64)))),.gen (cH a1 c1 2 l1.length (l1.map (eP (eI .i64) (eI .i64)))),.gen (bu H)]⟩) ?_ (fun _ _=>rfl) (fun r d=>by intro e; cases e) _ _ _ h45 (a9,c8)
           clear hF h45;rintro l13 ⟨a10,c9⟩ r hF;unfold Bo at hF;refine Wk.seq<|Wk.seq ?_;obtain⟨v8,h86,hF⟩:=J hF;refine Wk.cut (G:=(fun(r:Bool) (g:Unit)=>match r,g with|v8,_=>⟨.normal,[(3,.slice a10 l13.length c9),(5,ptr b4 0),(6,.slice (some ⟨b3,0,none⟩) n0 c0),(7,.int .i64 (n0:Int)),(8,.int .i64 v2),(31,.bool v8)],[.gen (cH a10 c9 2 l13.length (l13.map (eP (eI .i64) (eI .i64)))),.obj b4 (.cells [.int .i64 x10,.int .i64 x11] .own),.gen (cH (some ⟨b3,0,none⟩) c0 2 n0 (l5.map (eP (eI .i64) (eI .i64)))),.gen (cH a1 c1 2 l1.length (l1.map (eP (eI .i64) (eI .i64)))),.gen (bu H)]⟩) v8) ?_ ?_
           ·clear hF;revert v8;intro r hF;refine Wk.draw (by kernel_rfl)<|Wo.od (U rfl) rfl<|Wo.od (eU (k:=0) mz rfl rfl) rfl<|Wo.od (aj rfl rfl (bo _ _ _)) rfl<|Wo.od (U rfl) rfl ?_
            rcases ae hF with⟨h1,hF⟩|⟨h1,hF⟩
            ·refine Wo.og (U rfl) (gg rfl rfl (aR h1)) rfl<|Wo.og (U rfl) (gg rfl rfl (aR h1)) rfl<|Wo.og (eU (k:=0) mz rfl rfl) (gg rfl rfl (aR h1)) rfl<|Wo.og (aj rfl rfl (aT _ _ _)) (gg rfl rfl (aR h1)) rfl ?_;obtain⟨h10,hF⟩:=ai hF;replace h10:=ak h10;refine Wo.rA (k:=0) rfl (bp h10) ?_;rintro b9 rfl;refine Wo.og (du ij rfl rfl h10) (gg rfl rfl (aR h1)) rfl ?_;obtain⟨⟨x28,x29⟩,h87,hF⟩:=J hF;refine Wo.og (mj (k:=0) aI rfl rfl (aH h87) rfl rfl) (gg rfl rfl (aR h1)) rfl<|Wo.og (U rfl) (gg rfl rfl (aR h1)) rfl<|Wo.og (U rfl) (gg rfl rfl (aR h1)) rfl<|Wo.og (eU (k:=0) mz rfl rfl) (gg rfl rfl (aR h1)) rfl<|Wo.og (aj rfl rfl (aT _ _ _)) (gg rfl rfl (aR h1)) rfl ?_;obtain⟨h46,hF⟩:=ai hF;replace h46:=ak h46;refine Wo.og (du ij rfl rfl h46) (gg rfl rfl (aR h1)) rfl ?_;obtain⟨⟨x30,x31⟩,h88,hF⟩:=J hF;refine Wo.og (mj (k:=0) aI rfl rfl (aH h88) rfl rfl) (gg rfl rfl (aR h1)) rfl<|Wo.og (al (k:=1) aI rfl rfl rfl) (gg rfl rfl (aR h1)) rfl ?_;obtain⟨r7,h89,hF⟩:=J hF;refine Wo.x (aM rfl rfl (fun m hm=>gG n x28 x29 x30 x31 x10 x11  _ h89 m) fun _=>rfl) (gg rfl rfl (aR h1)) rfl ?_;rintro⟨⟩;refine Wo.og (aj rfl rfl (eg _ _ _)) (gg rfl rfl (aR h1)) rfl<|Wo.od (bm rfl h1 rfl) rfl<|Wo.nil ?_;cases hF;exact At.en () rfl (sc rfl (sc rfl (sc rfl (sc rfl (sc rfl (sc rfl sn)))))) (ab.aa [0,1,2,3,4] rfl rfl)
            ·refine Wo.s (gg rfl rfl (aQ h1)) rfl<|Wo.s (gg rfl rfl (aQ h1)) rfl<|Wo.s (gg rfl rfl (aQ h1)) rfl<|Wo.s (gg rfl rfl (aQ h1)) rfl<|Wo.s (gg rfl rfl (aQ h1)) rfl<|Wo.s (gg rfl rfl (aQ h1)) rfl<|Wo.s (gg rfl rfl (aQ h1)) rfl<|Wo.s (gg rfl rfl (aQ h1)) rfl<|Wo.s (gg rfl rfl (aQ h1)) rfl<|Wo.s (gg rfl rfl (aQ h1)) rfl ?_;refine Wo.s (gg rfl rfl (aQ h1)) rfl<|Wo.s (gg rfl rfl (aQ h1)) rfl<|Wo.s (gg rfl rfl (aQ h1)) rfl<|Wo.s (gg rfl rfl (aQ h1)) rfl<|Wo.s (gg rfl rfl (aQ h1)) rfl<|Wo.od (bj rfl h1 rfl) rfl<|Wo.nil ?_;cases hF;exact At.en () rfl (sc rfl (sc rfl (sc rfl (sc rfl (sc rfl (sc rfl sn)))))) (ab.aa [0,1,2,3,4] rfl rfl)
           ·clear h86;rintro⟨⟩;refine At.tn ?_;rcases ae hF with⟨h47,hF⟩|⟨h47,hF⟩
            ·refine Wk.ar rfl h47<|Wk.skip<|At.tn<|Wk.block<|Wk.region<|Wo.od (U rfl) rfl<|Wo.od (U rfl) rfl<|Wo.od (eU (k:=0) mz rfl rfl) rfl<|Wo.od (aj rfl rfl (aT _ _ _)) rfl ?_;obtain⟨h90,hF⟩:=ai hF;obtain⟨h48,hF⟩:=ai hF;replace h48:=of_decide_eq_true h48;obtain⟨l26,h49,hF⟩:=J hF;replace h49:=Option.some.inj h49;refine Wo.og (pF (k:=0) (hi:=IntKind.wrap .i64 ((l13.length:Int)-1)) ij rfl rfl rfl h90 h48 h49) gn rfl<|Wo.od (ah rfl) rfl<|Wo.nil<|At.bn ?_;cases hF;exact At.en (a10,c9) rfl (sc rfl (sc rfl (sc rfl (sc rfl (sc rfl sn))))) (ab.aa [0,1,2,3,4] rfl rfl)
            ·refine Wk.au rfl h47<|Wk.exit<|At.te ?_;cases hF;exact At.en (a10,c9) rfl (sc rfl (sc rfl (sc rfl (sc rfl (sc rfl sn))))) (ab.aa [0,1,2,3,4] rfl rfl)
          ·clear h45;rintro⟨a13,c12⟩;refine At.be<|At.tn<|Wk.region<|Wo.od (U rfl) rfl<|Wo.od (al (k:=1) aI rfl rfl rfl) rfl<|Wo.x (e6 (es:=([(x10,x11)]:List (Int × Int)).map (eP (eI .i64) (eI .i64))) ij rfl (fa ij z33 rfl rfl) rfl rfl) gn rfl fun b10=>?_;obtain⟨h91,hF⟩:=ai hF;refine Wo.x (rm (k:=1) (xs:=(l8:List (Int × Int))) (ys:=([(x10,x11)]:List (Int × Int))) (vu (mq .i64) (mq .i64)) ij ⟨_,mz⟩ rfl rfl (fun m hm=>hm.rd (k:=0) rfl (.arr _ _ _ _ _)) h91) gn rfl ?_;rintro⟨a15,c14⟩;refine Wo.od (ah rfl) rfl<|Wo.nil<|At.bn<|At.tn<|Wk.region<|Wo.od (aj rfl rfl (ay _ _ _)) rfl<|Wo.od (U rfl) rfl<|Wo.nil ?_;cases hF;exact At.en (a15,c14) rfl (sc rfl (sc rfl (sc rfl (sc rfl sn)))) (ab.aa [1,3,4,5] rfl rfl)
         ·refine Wk.au rfl h44<|Wk.exit<|At.te ?_;cases hF;exact At.en (a9,c8) rfl (sc rfl sn) (ab.aa [0,2,3] rfl rfl)
        ·clear h43;rintro⟨a8,c7⟩;refine At.be<|At.tn<|Wk.seq<|Wk.region<|Wo.od (U rfl) rfl<|Wo.od (ah rfl) rfl<|Wo.nil<|At.tn<|Wk.ret ?_;have hr:=Option.some.inj hF;subst r;exact At.ret (.tmp rfl .nil) fun m' hm=>⟨(a8,c7),rfl,(ab.aa [0,1,2] rfl rfl) m' hm⟩
       ·clear h84;rintro⟨a12,c11⟩;refine Wo.od (ah rfl) rfl<|Wo.nil<|At.tn<|Wk.seq<|Wk.seq ?_;obtain⟨v9,h92,hF⟩:=J hF;refine Wk.cut (G:=(fun(r:Bool) (g:Unit)=>match r,g with|v9,_=>⟨.normal,[(6,.slice a1 l1.length c1),(7,.slice a12 l6.length c11),(38,.bool v9)],[.gen (cH a1 c1 2 l1.length (l1.map (eP (eI .i64) (eI .i64)))),.gen (cH a12 c11 2 l6.length (l6.map (eP (eI .i64) (eI .i64)))),.gen (bu H)]⟩) v9) ?_ ?_
        ·clear hF;revert v9;intro r hF;refine Wk.region<|Wo.od (U rfl) rfl<|Wo.od (eU (k:=1) mz rfl rfl) rfl<|Wo.od (aj rfl rfl (aA _ _ _)) rfl<|Wo.od (U rfl) rfl ?_;rcases ae hF with⟨h2,hF⟩|⟨h2,hF⟩
         ·refine Wo.s (gg rfl rfl (ec h2)) rfl<|Wo.s (gg rfl rfl (ec h2)) rfl<|Wo.s (gg rfl rfl (ec h2)) rfl<|Wo.s (gg rfl rfl (ec h2)) rfl<|Wo.s (gg rfl rfl (ec h2)) rfl<|Wo.s (gg rfl rfl (ec h2)) rfl<|Wo.od (bm rfl h2 rfl) rfl<|Wo.nil ?_;cases hF;exact At.en () rfl (sc rfl (sc rfl (sc rfl sn))) (ab.aa [1,0,2] rfl rfl)
         ·refine Wo.og (U rfl) (gg rfl rfl (dZ h2)) rfl<|Wo.og (eU (k:=1) mz rfl rfl) (gg rfl rfl (dZ h2)) rfl<|Wo.og (U rfl) (gg rfl rfl (dZ h2)) rfl<|Wo.og (eU (k:=0) mz rfl rfl) (gg rfl rfl (dZ h2)) rfl<|Wo.og (aj rfl rfl (ay _ _ _)) (gg rfl rfl (dZ h2)) rfl<|Wo.og (aj rfl rfl (aA _ _ _)) (gg rfl rfl (dZ h2)) rfl<|Wo.od (bj rfl h2 rfl) rfl<|Wo.nil ?_;cases hF;exact At.en () rfl (sc rfl (sc rfl (sc rfl sn))) (ab.aa [1,0,2] rfl rfl)
        ·clear h92;rintro⟨⟩;refine At.tn ?_;rcases ae hF with⟨h50,hF⟩|⟨h50,hF⟩
         ·refine Wk.ar rfl h50<|Wk.seq<|Wk.region<|Wo.od (ah rfl) rfl<|Wo.od (ah rfl) rfl<|Wo.nil<|At.tn<|Wk.ret<|At.tr ?_;cases hF;exact At.ret (.tmp rfl (.tmp rfl .nil)) fun m' hm=>⟨(none,0,0),rfl,(ab.trans (ab.An 2) (ab.aa [0,3] rfl rfl)) m' hm⟩
         ·refine Wk.au rfl h50<|Wk.skip<|At.tn<|Wk.seq<|Wk.draw (by kernel_rfl)<|Wo.od (U rfl) rfl<|Wo.od (U rfl) rfl<|Wo.od (eU (k:=0) mz rfl rfl) rfl<|Wo.od (aj rfl rfl (aT _ _ _)) rfl ?_
          obtain⟨h93,hF⟩:=ai hF;obtain⟨h51,hF⟩:=ai hF;replace h51:=of_decide_eq_true h51;obtain⟨l22,h52,hF⟩:=J hF;replace h52:=Option.some.inj h52;refine Wo.og (pF (k:=0) (hi:=IntKind.wrap .i64 ((l1.length:Int)-1)) ij rfl rfl rfl h93 h51 h52) gn rfl<|Wo.od (U rfl) rfl<|Wo.od (U rfl) rfl<|Wo.od (eU (k:=1) mz rfl rfl) rfl<|Wo.od (aj rfl rfl (aT _ _ _)) rfl ?_;obtain⟨h94,hF⟩:=ai hF;obtain⟨h53,hF⟩:=ai hF;replace h53:=of_decide_eq_true h53;obtain⟨l23,h54,hF⟩:=J hF;replace h54:=Option.some.inj h54;refine Wo.og (pF (k:=1) (hi:=IntKind.wrap .i64 ((l6.length:Int)-1)) ij rfl rfl rfl h94 h53 h54) gn rfl ?_;obtain⟨h95,hF⟩:=ai hF;refine Wo.eF (ab.BL (k:=1) rfl)<|Wo.x (rm (k:=0) (xs:=(l22:List (Int × Int))) (ys:=(l23:List (Int × Int))) (vu (mq .i64) (mq .i64)) ij ⟨_,mz⟩ rfl rfl (fun m hm=>hm.rd (k:=1) rfl (.rd _ _ _ _ _)) h95) gn rfl ?_;rintro⟨a16,c15⟩;refine Wo.od (ah rfl) rfl<|Wo.nil<|At.tn<|Wk.seq<|Wk.seq<|Wk.region<|Wo.od (U rfl) rfl<|Wo.od (eU (k:=0) lK rfl rfl) rfl<|Wo.od (aj rfl rfl (bo _ _ _)) rfl<|Wo.nil<|At.tn ?_;rcases ae hF with⟨h55,hF⟩|⟨h55,hF⟩
          ·refine Wk.ar rfl h55<|Wk.seq<|Wk.region<|Wo.od (ah rfl) rfl<|Wo.od (ah rfl) rfl<|Wo.nil<|At.tn<|Wk.ret<|At.tr ?_;cases hF;exact At.ret (.tmp rfl (.tmp rfl .nil)) fun m' hm=>⟨(none,0,0),rfl,(ab.trans (ab.An 2) (ab.aa [0,3] rfl rfl)) m' hm⟩
          ·refine Wk.au rfl h55<|Wk.skip<|At.tn<|Wk.seq<|Wk.region<|Wo.od (U rfl) rfl<|Wo.od (ah rfl) rfl<|Wo.od (ah rfl) rfl<|Wo.nil<|At.tn<|Wk.ret ?_;cases hF;exact At.ret (.tmp rfl (.tmp rfl .nil)) fun m' hm=>⟨(a16,c15,((l22++l23).length)),rfl,(ab.trans (ab.BL (k:=0) rfl) (ab.aa [0,2] rfl rfl)) m' hm⟩
theorem tU (n:Nat) (x1:Int) (x2:Int) (x3:Int) (x4:Int) (x5:Int) (x6:Int) (x7:Int) (x8:Int)  (r:Int × Int) (hF:CK n x1 x2 x3 x4 x5 x6 x7 x8=some r) (m:AMem)  :
  aC aE 16 [.agg #[.int .i64 x1,.int .i64 x2],.agg #[.int .i64 x3,.int .i64 x4],.agg #[.int .i64 x5,.int .i64 x6],.agg #[.int .i64 x7,.int .i64 x8]] m (fun v m'=>∃_:Unit,v = .tuple #[.int .i64 r.1,.int .i64 r.2]∧Hp m m' []):=by
 unfold CK at hF;refine av (m0:=m) (ps:=[]) (N:=41) (rs:=[.tmp 8,.tmp 9]) rfl Tryz.func16 rfl rfl rfl (Hp.start m)<|Wk.seq<|Wk.region<|Wo.x (cy rfl) gn rfl fun b9=>?_;refine Wo.x (cy rfl) gn rfl fun b10=>?_;refine Wo.x (cy rfl) gn rfl fun b11=>?_;refine Wo.x (cy rfl) gn rfl fun b12=>?_;refine Wo.od (ah rfl) rfl<|Wo.od (ah rfl) rfl<|Wo.nil<|At.tn<|Wk.seq<|Wk.seq ?_;obtain⟨v56,h70,hF⟩:=J hF;refine Wk.cut (G:=(fun(r:Bool) (g:Unit)=>match r,g with|v56,_=>⟨.normal,[(4,ptr b9 0),(5,ptr b10 0),(6,ptr b11 0),(7,ptr b12 0),(33,.bool v56)],[.obj b9 (.cells [.int .i64 x1,.int .i64 x2] .own),.obj b10 (.cells [.int .i64 x3,.int .i64 x4] .own),.obj b11 (.cells [.int .i64 x5,.int .i64 x6] .own),.obj b12 (.cells [.int .i64 x7,.int .i64 x8] .own)]⟩) v56) ?_ ?_
 ·clear hF;revert v56;intro r hF;refine Wk.region<|Wo.od (al (k:=3) aI rfl rfl rfl) rfl ?_;obtain⟨r58,h57,hF⟩:=J hF;refine Wo.x (aM rfl rfl (fun m hm=>jQ n x1 x2  _ h57 m) fun _=>rfl) gn rfl ?_;rintro⟨⟩;refine Wo.od (U rfl) rfl ?_;rcases ae hF with⟨h59,hF⟩|⟨h59,hF⟩
  ·refine Wo.s (gg rfl rfl (ec h59)) rfl<|Wo.s (gg rfl rfl (ec h59)) rfl<|Wo.od (bm rfl h59 rfl) rfl<|Wo.od (U rfl) rfl<|Wo.s (gg rfl rfl rfl) rfl<|Wo.s (gg rfl rfl rfl) rfl<|Wo.od (iF rfl rfl) rfl<|Wo.od (U rfl) rfl<|Wo.s (gg rfl rfl rfl) rfl<|Wo.s (gg rfl rfl rfl) rfl ?_;refine Wo.od (iF rfl rfl) rfl<|Wo.od (U rfl) rfl<|Wo.s (gg rfl rfl rfl) rfl<|Wo.s (gg rfl rfl rfl) rfl<|Wo.s (gg rfl rfl rfl) rfl<|Wo.od (iF rfl rfl) rfl<|Wo.od (U rfl) rfl<|Wo.s (gg rfl rfl rfl) rfl<|Wo.s (gg rfl rfl rfl) rfl<|Wo.s (gg rfl rfl rfl) rfl ?_;refine Wo.od (iF rfl rfl) rfl<|Wo.nil ?_;cases hF;exact At.en () rfl (sc rfl (sc rfl (sc rfl (sc rfl (sc rfl sn))))) (ab.aa [3,2,1,0] rfl rfl)
  ·refine Wo.og (al (k:=2) aI rfl rfl rfl) (gg rfl rfl (dZ h59)) rfl ?_;obtain⟨r61,h60,hF⟩:=J hF;refine Wo.x (aM rfl rfl (fun m hm=>jQ n x3 x4  _ h60 m) fun _=>rfl) (gg rfl rfl (dZ h59)) rfl ?_;rintro⟨⟩;refine Wo.od (bj rfl h59 rfl) rfl<|Wo.od (U rfl) rfl ?_;rcases ae hF with⟨h62,hF⟩|⟨h62,hF⟩
   ·refine Wo.s (gg rfl rfl (ec h62)) rfl<|Wo.s (gg rfl rfl (ec h62)) rfl<|Wo.od (bm rfl h62 rfl) rfl<|Wo.od (U rfl) rfl<|Wo.s (gg rfl rfl rfl) rfl<|Wo.s (gg rfl rfl rfl) rfl<|Wo.od (iF rfl rfl) rfl<|Wo.od (U rfl) rfl<|Wo.s (gg rfl rfl rfl) rfl<|Wo.s (gg rfl rfl rfl) rfl ?_;refine Wo.s (gg rfl rfl rfl) rfl<|Wo.od (iF rfl rfl) rfl<|Wo.od (U rfl) rfl<|Wo.s (gg rfl rfl rfl) rfl<|Wo.s (gg rfl rfl rfl) rfl<|Wo.s (gg rfl rfl rfl) rfl<|Wo.od (iF rfl rfl) rfl<|Wo.nil ?_;cases hF;exact At.en () rfl (sc rfl (sc rfl (sc rfl (sc rfl (sc rfl sn))))) (ab.aa [3,2,1,0] rfl rfl)
   ·refine Wo.og (al (k:=1) aI rfl rfl rfl) (gg rfl rfl (dZ h62)) rfl ?_;obtain⟨r64,h63,hF⟩:=J hF;refine Wo.x (aM rfl rfl (fun m hm=>jQ n x5 x6  _ h63 m) fun _=>rfl) (gg rfl rfl (dZ h62)) rfl ?_;rintro⟨⟩;refine Wo.od (bj rfl h62 rfl) rfl<|Wo.od (U rfl) rfl ?_;rcases ae hF with⟨h65,hF⟩|⟨h65,hF⟩
    ·refine Wo.s (gg rfl rfl (ec h65)) rfl<|Wo.s (gg rfl rfl (ec h65)) rfl<|Wo.od (bm rfl h65 rfl) rfl<|Wo.od (U rfl) rfl<|Wo.s (gg rfl rfl rfl) rfl<|Wo.s (gg rfl rfl rfl) rfl<|Wo.s (gg rfl rfl rfl) rfl<|Wo.od (iF rfl rfl) rfl<|Wo.od (U rfl) rfl<|Wo.s (gg rfl rfl rfl) rfl ?_;refine Wo.s (gg rfl rfl rfl) rfl<|Wo.s (gg rfl rfl rfl) rfl<|Wo.od (iF rfl rfl) rfl<|Wo.nil ?_;cases hF;exact At.en () rfl (sc rfl (sc rfl (sc rfl (sc rfl (sc rfl sn))))) (ab.aa [3,2,1,0] rfl rfl)
    ·refine Wo.og (al (k:=0) aI rfl rfl rfl) (gg rfl rfl (dZ h65)) rfl ?_;obtain⟨r67,h66,hF⟩:=J hF;refine Wo.x (aM rfl rfl (fun m hm=>jQ n x7 x8  _ h66 m) fun _=>rfl) (gg rfl rfl (dZ h65)) rfl ?_;rintro⟨⟩;refine Wo.od (bj rfl h65 rfl) rfl<|Wo.od (U rfl) rfl ?_;rcases ae hF with⟨h68,hF⟩|⟨h68,hF⟩
     ·refine Wo.s (gg rfl rfl (ec h68)) rfl<|Wo.s (gg rfl rfl (ec h68)) rfl<|Wo.s (gg rfl rfl (ec h68)) rfl<|Wo.od (bm rfl h68 rfl) rfl<|Wo.od (U rfl) rfl<|Wo.s (gg rfl rfl rfl) rfl<|Wo.s (gg rfl rfl rfl) rfl<|Wo.s (gg rfl rfl rfl) rfl<|Wo.od (iF rfl rfl) rfl<|Wo.nil ?_;cases hF;exact At.en () rfl (sc rfl (sc rfl (sc rfl (sc rfl (sc rfl sn))))) (ab.aa [3,2,1,0] rfl rfl)
     ·refine Wo.og (al (k:=3) aI rfl rfl rfl) (gg rfl rfl (dZ h68)) rfl<|Wo.og (al (k:=2) aI rfl rfl rfl) (gg rfl rfl (dZ h68)) rfl<|Wo.og (aj rfl rfl (q7 xm (xj _ _ _ _))) (gg rfl rfl (dZ h68)) rfl<|Wo.od (bj rfl h68 rfl) rfl<|Wo.od (U rfl) rfl ?_;rcases ae hF with⟨h69,hF⟩|⟨h69,hF⟩
      ·refine Wo.s (gg rfl rfl (ec h69)) rfl<|Wo.s (gg rfl rfl (ec h69)) rfl<|Wo.s (gg rfl rfl (ec h69)) rfl<|Wo.od (bm rfl h69 rfl) rfl<|Wo.nil ?_;cases hF;exact At.en () rfl (sc rfl (sc rfl (sc rfl (sc rfl (sc rfl sn))))) (ab.aa [3,2,1,0] rfl rfl)
      ·refine Wo.og (al (k:=1) aI rfl rfl rfl) (gg rfl rfl (dZ h69)) rfl<|Wo.og (al (k:=0) aI rfl rfl rfl) (gg rfl rfl (dZ h69)) rfl<|Wo.og (aj rfl rfl (q7 xm (xj _ _ _ _))) (gg rfl rfl (dZ h69)) rfl<|Wo.od (bj rfl h69 rfl) rfl<|Wo.nil ?_;cases hF;exact At.en () rfl (sc rfl (sc rfl (sc rfl (sc rfl (sc rfl sn))))) (ab.aa [3,2,1,0] rfl rfl)
 ·clear h70;rintro⟨⟩;refine At.tn ?_;rcases ae hF with⟨h72,hF⟩|⟨h72,hF⟩
  ·refine Wk.ar rfl h72<|Wk.seq<|Wk.region<|Wo.od (ah rfl) rfl<|Wo.od (ah rfl) rfl<|Wo.nil<|At.tn<|Wk.ret<|At.tr ?_;cases hF;exact At.ret (.tmp rfl (.tmp rfl .nil)) fun m' hm=>⟨(),rfl,(ab.aa [] rfl rfl) m' hm⟩
  ·refine Wk.au rfl h72<|Wk.skip<|At.tn<|Wk.seq<|Wk.region<|Wo.od (al (k:=0) aI rfl rfl rfl) rfl<|Wo.od (al (k:=1) aI rfl rfl rfl) rfl<|Wo.od (cr rfl qS rfl (cm o9 rfl rfl rfl)) rfl<|Wo.od (al (k:=2) aI rfl rfl rfl) rfl<|Wo.od (al (k:=3) aI rfl rfl rfl) rfl<|Wo.od (cr rfl qS rfl (cm o9 rfl rfl rfl)) rfl ?_;obtain⟨r74,h73,hF⟩:=J hF;refine Wo.x (aM rfl rfl (fun m hm=>yh n 0 x1 x2 x3 x4 0 x5 x6 x7 x8  _ h73 m) fun _=>rfl) gn rfl ?_;rintro⟨⟩;refine Wo.od (ah rfl) rfl<|Wo.od (ah rfl) rfl<|Wo.nil<|At.tn<|Wk.ret ?_;cases hF;exact At.ret (.tmp rfl (.tmp rfl .nil)) fun m' hm=>⟨(),rfl,(ab.aa [] rfl rfl) m' hm⟩
theorem lr (n:Nat) (x1:Int) (x2:Int) (x3:Int) (x4:Int) (x5:Int)  (r:Bool) (hF:Bc n x1 x2 x3 x4 x5=some r) (m:AMem)  :
  aC aE 31 [.int .i64 x1,.int .i64 x2,.int .i64 x3,.int .i64 x4,.int .i64 x5] m (fun v m'=>∃_:Unit,v = .bool r∧Hp m m' []):=by
 unfold Bc at hF;refine av (m0:=m) (ps:=[]) (N:=32) (rs:=[.tmp 10]) rfl Tryz.func31 rfl rfl rfl (Hp.start m)<|Wk.seq<|Wk.region<|Wo.od (ah rfl) rfl<|Wo.nil<|At.tn<|Wk.seq<|Wk.region<|Wo.od (cr rfl z33 rfl (cm gC rfl rfl rfl)) rfl<|Wo.od (cr rfl z33 rfl (cm gC rfl rfl rfl)) rfl<|Wo.od (U rfl) rfl<|Wo.od (U rfl) rfl<|Wo.od (cr rfl z33 rfl (cm gC rfl rfl rfl)) rfl<|Wo.od (U rfl) rfl<|Wo.od (U rfl) rfl<|Wo.od (cr rfl z33 rfl (cm gC rfl rfl rfl)) rfl ?_;obtain⟨⟨r7,r8⟩,h6,hF⟩:=J hF;refine Wo.x (aM rfl rfl (fun m hm=>tU n 0 0 4 0 x1 x2 x3 x4  _ h6 m) fun _=>rfl) gn rfl ?_;rintro⟨⟩;refine Wo.od (U rfl) rfl<|Wo.od (bt rfl rfl) rfl<|Wo.od (bt rfl rfl) rfl<|Wo.od (ah rfl) rfl<|Wo.od (ah rfl) rfl<|Wo.nil<|At.tn<|Wk.seq<|Wk.region<|Wo.od (U rfl) rfl<|Wo.od (U rfl) rfl<|Wo.od (aj rfl rfl (aZ _ _ _)) rfl<|Wo.od (U rfl) rfl ?_;rcases ae hF with⟨h9,hF⟩|⟨h9,hF⟩
 ·refine Wo.og (U rfl) (gg rfl rfl (aR h9)) rfl<|Wo.og (aj rfl rfl (aZ _ _ _)) (gg rfl rfl (aR h9)) rfl<|Wo.od (bm rfl h9 rfl) rfl<|Wo.od (ah rfl) rfl<|Wo.nil<|At.tn<|Wk.ret ?_;cases hF;exact At.ret (.tmp rfl .nil) fun m' hm=>⟨(),rfl,(ab.aa [] rfl rfl) m' hm⟩
 ·refine Wo.s (gg rfl rfl (aQ h9)) rfl<|Wo.s (gg rfl rfl (aQ h9)) rfl<|Wo.od (bj rfl h9 rfl) rfl<|Wo.od (ah rfl) rfl<|Wo.nil<|At.tn<|Wk.ret ?_;cases hF;exact At.ret (.tmp rfl .nil) fun m' hm=>⟨(),rfl,(ab.aa [] rfl rfl) m' hm⟩
theorem Dz (n:Nat)   (r:Bool) (hF:F7 n=some r) (m:AMem)  :
  aC aE 7 [] m (fun v m'=>∃_:Unit,v = .bool r∧Hp m m' []):=by
 unfold F7 at hF;refine av (m0:=m) (ps:=[]) (N:=306) (rs:=[.tmp 0]) rfl Tryz.func7 rfl rfl rfl (Hp.start m)<|Wk.seq<|Wk.region<|Wo.od (ah rfl) rfl<|Wo.nil<|At.tn<|Wk.seq<|Wk.seq<|Wk.region ?_;obtain⟨r6,h44,hF⟩:=J hF;refine Wo.x (aM rfl rfl (fun m hm=>Cc n   _ h44 m) fun _=>rfl) gn rfl ?_;rintro⟨⟩;refine Wo.od (fb rfl rfl) rfl<|Wo.od (U rfl) rfl<|Wo.od (Fj rfl rfl rfl) rfl<|Wo.nil<|At.tn ?_;rcases ae hF with⟨h39,hF⟩|⟨h39,hF⟩
 ·refine Wk.ar rfl h39<|Wk.seq<|Wk.region<|Wo.od (ah rfl) rfl<|Wo.nil<|At.tn<|Wk.ret<|At.tr ?_;cases hF;exact At.ret (.tmp rfl .nil) fun m' hm=>⟨(),rfl,(ab.aa [] rfl rfl) m' hm⟩
 ·refine Wk.au rfl h39<|Wk.skip<|At.tn<|Wk.seq<|Wk.region<|Wo.x (e6 (es:=([0,0,2,0,4,0,4,3,0,3]:List (Int)).map (eI .i64)) dY rfl (fa dY z3 rfl rfl) rfl rfl) gn rfl fun b0=>?_;obtain⟨l2,h45,hF⟩:=J hF;refine Wo.x (aM rfl rfl (fun m hm=>gF n ([0,0,2,0,4,0,4,3,0,3]) (some ⟨b0,0,none⟩) 10 _ h45 m (hm.rd (k:=0) rfl (.arr _ _ _ _ _))) fun _=>rfl) gn rfl ?_;rintro⟨a0,n0⟩;refine Wo.len (k:=0) (xs:=l2) rfl ?_;rintro rfl;refine Wo.od (ah rfl) rfl<|Wo.nil<|At.tn<|Wk.seq<|Wk.region<|Wo.od (ah rfl) rfl<|Wo.od (ah rfl) rfl<|Wo.nil<|At.tn<|Wk.seq<|Wk.seq<|Wk.region<|Wo.od (U rfl) rfl<|Wo.nil<|At.tn<|Wk.block ?_;obtain⟨l1,h40,hF⟩:=J hF;refine Wk.cut (G:=(fun(r:List (Int × Int)) (g:Option Addr)=>match r,g with|l1,a3=>⟨(.exit 0),[(1,.slice a0 l2.length l2.length),(2,.slice a3 l1.length l1.length),(3,.slice none 0 0)],[.sl a0 2 l2.length (l2.map (eP (eI .i64) (eI .i64))),.sl a3 2 l1.length (l1.map (eP (eI .i64) (eI .i64)))]⟩) l1) ?_ ?_
  ·refine Wk.db (fs':=[(1,.slice a0 l2.length l2.length),(2,.slice none ([]:List (Int × Int)).length ([]:List (Int × Int)).length),(3,.slice none 0 0),(40,.int .i64 0)]) (ps':=[.sl a0 2 l2.length (l2.map (eP (eI .i64) (eI .i64))),.sl none 2 ([]:List (Int × Int)).length (([]:List (Int × Int)).map (eP (eI .i64) (eI .i64)))]) (sc rfl (sc rfl (sc rfl (sc rfl sn)))) (ab.trans (ab.nil 2 rfl) (ab.aa [1,0] rfl rfl)) ?_;refine Wk.loop (σ:=List (Int × Int) × Int) (ρ:=List (Int × Int)) (γ:=Option Addr) (δ:=fun _=>Option Addr) _ (fun(s:List (Int × Int) × Int) (g:Option Addr)=>match s,g with | (l6,v2),a6=>⟨.normal,[(1,.slice a0 l2.length l2.length),(2,.slice a6 l6.length l6.length),(3,.slice none 0 0),(40,.int .i64 v2)],[.sl a0 2 l2.length (l2.map (eP (eI .i64) (eI .i64))),.sl a6 2 l6.length (l6.map (eP (eI .i64) (eI .i64)))]⟩) (fun(r:List (Int × Int)) (g:Option Addr)=>match r,g with|l1,a3=>⟨(.exit 0),[(1,.slice a0 l2.length l2.length),(2,.slice a3 l1.length l1.length),(3,.slice none 0 0)],[.sl a0 2 l2.length (l2.map (eP (eI .i64) (eI .i64))),.sl a3 2 l1.length (l1.map (eP (eI .i64) (eI .i64)))]⟩) ?_ (fun _ _=>rfl) (fun r d=>by intro e; cases e) _ _ _ h40 none
   clear hF h40;rintro⟨l6,v2⟩ a6 r hF;unfold Cy at hF;refine Wk.seq<|Wk.region<|Wo.od (aj rfl rfl (aA _ _ _)) rfl<|Wo.nil<|At.tn<|Wk.seq ?_;rcases ae hF with⟨h41,hF⟩|⟨h41,hF⟩
   ·refine Wk.ar rfl h41<|Wk.skip<|At.tn<|Wk.seq<|Wk.block<|Wk.seq<|Wk.region<|Wo.od (U rfl) rfl<|Wo.od (ah rfl) rfl<|Wo.nil<|At.tn<|Wk.region<|Wo.od (U rfl) rfl<|Wo.od (U rfl) rfl<|Wo.od (U rfl) rfl<|Wo.od (U rfl) rfl<|Wo.od (aj rfl rfl (bW _ _ _)) rfl<|Wo.od (cr rfl z33 rfl (cm gC rfl rfl rfl)) rfl<|Wo.x (e6 (es:=([(v2,IntKind.wrap .i64 (v2*v2))]:List (Int × Int)).map (eP (eI .i64) (eI .i64))) iB rfl (fa iB z33 rfl rfl) rfl rfl) gn rfl fun b12=>?_;obtain⟨h46,hF⟩:=ai hF;refine Wo.x (lU (k:=2) (k2:=0) (xs:=(l6:List (Int × Int))) (ys:=([(v2,IntKind.wrap .i64 (v2*v2))]:List (Int × Int))) (vu (mq .i64) (mq .i64)) iB ⟨_,lK⟩ rfl rfl rfl (.arr _ _ _ _ _) h46) gn rfl fun a8=>?_;refine Wo.od (ah rfl) rfl<|Wo.nil<|At.bn<|At.tn<|Wk.region<|Wo.od (aj rfl rfl (ay _ _ _)) rfl<|Wo.od (U rfl) rfl<|Wo.nil ?_;cases hF;exact At.en a8 rfl (sc rfl (sc rfl (sc rfl (sc rfl sn)))) (ab.aa [1,2] rfl rfl)
   ·refine Wk.au rfl h41<|Wk.exit<|At.te ?_;cases hF;exact At.en a6 rfl (sc rfl (sc rfl (sc rfl sn))) (ab.aa [0,1] rfl rfl)
  ·clear h40;rintro a3;refine At.be<|At.tn<|Wk.seq<|Wk.region<|Wo.od (U rfl) rfl<|Wo.od (cr rfl z33 rfl (cm gC rfl rfl rfl)) rfl<|Wo.x (e6 (es:=([(0,2000)]:List (Int × Int)).map (eP (eI .i64) (eI .i64))) iB rfl (fa iB z33 rfl rfl) rfl rfl) gn rfl fun b13=>?_;obtain⟨h47,hF⟩:=ai hF;refine Wo.x (lU (k:=2) (k2:=0) (xs:=(l1:List (Int × Int))) (ys:=([(0,2000)]:List (Int × Int))) (vu (mq .i64) (mq .i64)) iB ⟨_,lK⟩ rfl rfl rfl (.arr _ _ _ _ _) h47) gn rfl fun a1=>?_;refine Wo.od (ah rfl) rfl<|Wo.nil<|At.tn<|Wk.seq<|Wk.region<|Wo.od (U rfl) rfl<|Wo.od (U rfl) rfl ?_;obtain⟨h48,hF⟩:=ai hF;refine Wo.eF (ab.nil (ps:=_) 2 rfl)<|Wo.x (lU (k:=0) (k2:=3) (xs:=([]:List (Int × Int))) (ys:=((l1++[(0,2000)]):List (Int × Int))) (vu (mq .i64) (mq .i64)) iB ⟨_,lK⟩ rfl rfl rfl (.sl _ _ _ _) h48) gn rfl fun a20=>?_;refine Wo.od (cr rfl z33 rfl (cm gC rfl rfl rfl)) rfl<|Wo.x (e6 (es:=([(-1,1000)]:List (Int × Int)).map (eP (eI .i64) (eI .i64))) iB rfl (fa iB z33 rfl rfl) rfl rfl) gn rfl fun b14=>?_;obtain⟨h49,hF⟩:=ai hF;refine Wo.x (lU (k:=1) (k2:=0) (xs:=((([]:List (Int × Int))++(l1++[(0,2000)])):List (Int × Int))) (ys:=([(-1,1000)]:List (Int × Int))) (vu (mq .i64) (mq .i64)) iB ⟨_,lK⟩ rfl rfl rfl (.arr _ _ _ _ _) h49) gn rfl fun a9=>?_;refine Wo.od (ah rfl) rfl<|Wo.nil<|At.tn<|Wk.seq<|Wk.region<|Wo.x (e6 (es:=([0,0,1000001,0,1000001,0]:List (Int)).map (eI .i64)) dY rfl (fa dY z3 rfl rfl) rfl rfl) gn rfl fun b1=>?_;obtain⟨l4,h50,hF⟩:=J hF;refine Wo.x (aM rfl rfl (fun m hm=>gF n ([0,0,1000001,0,1000001,0]) (some ⟨b1,0,none⟩) 6 _ h50 m (hm.rd (k:=0) rfl (.arr _ _ _ _ _))) fun _=>rfl) gn rfl ?_;rintro⟨a4,n1⟩;refine Wo.len (k:=0) (xs:=l4) rfl ?_;rintro rfl;refine Wo.od (ah rfl) rfl<|Wo.nil<|At.tn<|Wk.seq<|Wk.region<|Wo.x (e6 (es:=([-1000000,-1000000,1000000,-1000000,1000000,1000000,-1000000,1000000]:List (Int)).map (eI .i64)) dY rfl (fa dY z3 rfl rfl) rfl rfl) gn rfl fun b2=>?_;obtain⟨l5,h51,hF⟩:=J hF;refine Wo.x (aM rfl rfl (fun m hm=>gF n ([-1000000,-1000000,1000000,-1000000,1000000,1000000,-1000000,1000000]) (some ⟨b2,0,none⟩) 8 _ h51 m (hm.rd (k:=0) rfl (.arr _ _ _ _ _))) fun _=>rfl) gn rfl ?_;rintro⟨a5,n2⟩;refine Wo.len (k:=0) (xs:=l5) rfl ?_;rintro rfl;refine Wo.od (ah rfl) rfl<|Wo.nil<|At.tn<|Wk.seq ?_;obtain⟨v0,h52,hF⟩:=J hF;refine Wk.cut (G:=(fun(r:Bool) (g:Unit)=>match r,g with|v0,_=>⟨.normal,[(1,.slice a0 l2.length l2.length),(2,.slice a1 ((l1++[(0,2000)]).length) ((l1++[(0,2000)]).length)),(5,.slice a4 l4.length l4.length),(6,.slice a5 l5.length l5.length),(7,.bool v0)],[.sl a0 2 l2.length (l2.map (eP (eI .i64) (eI .i64))),.sl a1 2 ((l1++[(0,2000)]).length) ((l1++[(0,2000)]).map (eP (eI .i64) (eI .i64))),.sl a4 2 l4.length (l4.map (eP (eI .i64) (eI .i64))),.sl a5 2 l5.length (l5.map (eP (eI .i64) (eI .i64)))]⟩) v0) ?_ ?_
   ·clear hF;revert v0;intro r hF;refine Wk.region ?_;obtain⟨r7,h53,hF⟩:=J hF;refine Wo.x (aM rfl rfl (fun m hm=>gE n [] 1 0 none 0 _ h53 m (Rd.nil _ _)) fun _=>rfl) gn rfl ?_;rintro⟨⟩;refine Wo.od (U rfl) rfl ?_;rcases ae hF with⟨h0,hF⟩|⟨h0,hF⟩
    ·refine Wo.x (e6 (es:=([0,0,1,1]:List (Int)).map (eI .i64)) dY rfl (fa dY z3 rfl rfl) rfl rfl) (gg rfl rfl (aR h0)) rfl fun b3=>?_;obtain⟨l8,h54,hF⟩:=J hF;refine Wo.x (aM rfl rfl (fun m hm=>gF n ([0,0,1,1]) (some ⟨b3,0,none⟩) 4 _ h54 m (hm.rd (k:=0) rfl (.arr _ _ _ _ _))) fun _=>rfl) (gg rfl rfl (aR h0)) rfl ?_;rintro⟨a10,n3⟩;refine Wo.len (k:=0) (xs:=l8) rfl ?_;rintro rfl;obtain⟨r8,h55,hF⟩:=J hF;refine Wo.x (aM rfl rfl (fun m hm=>gE n l8 1 0 a10 l8.length _ h55 m (hm.rd (k:=0) rfl (.sl _ _ _ _))) fun _=>rfl) (gg rfl rfl (aR h0)) rfl ?_;rintro⟨⟩;refine Wo.od (bm rfl h0 rfl) rfl<|Wo.od (U rfl) rfl ?_;rcases ae hF with⟨h8,hF⟩|⟨h8,hF⟩
     ·refine Wo.og (U rfl) (gg rfl rfl (aR h8)) rfl ?_;obtain⟨r9,h56,hF⟩:=J hF;refine Wo.x (aM rfl rfl (fun m hm=>gE n (l1++[(0,2000)]) 0 0 a1 ((l1++[(0,2000)]).length) _ h56 m (hm.rd (k:=10) rfl (.sl _ _ _ _))) fun _=>rfl) (gg rfl rfl (aR h8)) rfl ?_;rintro⟨⟩;refine Wo.od (bm rfl h8 rfl) rfl<|Wo.od (U rfl) rfl ?_;rcases ae hF with⟨h9,hF⟩|⟨h9,hF⟩
      ·refine Wo.og (U rfl) (gg rfl rfl (aR h9)) rfl ?_;obtain⟨r10,h57,hF⟩:=J hF;refine Wo.x (aM rfl rfl (fun m hm=>gE n ((([]:List (Int × Int))++(l1++[(0,2000)]))++[(-1,1000)]) 1 0 a9 (((([]:List (Int × Int))++(l1++[(0,2000)]))++[(-1,1000)]).length) _ h57 m (hm.rd (k:=7) rfl (.sl _ _ _ _))) fun _=>rfl) (gg rfl rfl (aR h9)) rfl ?_;rintro⟨⟩;refine Wo.od (bm rfl h9 rfl) rfl<|Wo.od (U rfl) rfl ?_;rcases ae hF with⟨h10,hF⟩|⟨h10,hF⟩
       ·refine Wo.og (U rfl) (gg rfl rfl (aR h10)) rfl ?_;obtain⟨r11,h58,hF⟩:=J hF;refine Wo.x (aM rfl rfl (fun m hm=>gE n l4 2 1 a4 l4.length _ h58 m (hm.rd (k:=4) rfl (.sl _ _ _ _))) fun _=>rfl) (gg rfl rfl (aR h10)) rfl ?_;rintro⟨⟩;refine Wo.od (bm rfl h10 rfl) rfl<|Wo.od (U rfl) rfl ?_;rcases ae hF with⟨h11,hF⟩|⟨h11,hF⟩
        ·refine Wo.og (U rfl) (gg rfl rfl (aR h11)) rfl ?_;obtain⟨r12,h59,hF⟩:=J hF;refine Wo.x (aM rfl rfl (fun m hm=>gE n l2 0 0 a0 l2.length _ h59 m (hm.rd (k:=9) rfl (.sl _ _ _ _))) fun _=>rfl) (gg rfl rfl (aR h11)) rfl ?_;rintro⟨⟩;refine Wo.od (bm rfl h11 rfl) rfl<|Wo.od (U rfl) rfl ?_;rcases ae hF with⟨h1,hF⟩|⟨h1,hF⟩
         ·refine Wo.x (e6 (es:=([0,0,4,0,4,4,2,0,1,3]:List (Int)).map (eI .i64)) dY rfl (fa dY z3 rfl rfl) rfl rfl) (gg rfl rfl (aR h1)) rfl fun b4=>?_;obtain⟨l9,h60,hF⟩:=J hF;refine Wo.x (aM rfl rfl (fun m hm=>gF n ([0,0,4,0,4,4,2,0,1,3]) (some ⟨b4,0,none⟩) 10 _ h60 m (hm.rd (k:=0) rfl (.arr _ _ _ _ _))) fun _=>rfl) (gg rfl rfl (aR h1)) rfl ?_;rintro⟨a11,n4⟩;refine Wo.len (k:=0) (xs:=l9) rfl ?_;rintro rfl;obtain⟨r13,h61,hF⟩:=J hF;refine Wo.x (aM rfl rfl (fun m hm=>gE n l9 5 2 a11 l9.length _ h61 m (hm.rd (k:=0) rfl (.sl _ _ _ _))) fun _=>rfl) (gg rfl rfl (aR h1)) rfl ?_;rintro⟨⟩;refine Wo.od (bm rfl h1 rfl) rfl<|Wo.od (U rfl) rfl ?_;rcases ae hF with⟨h2,hF⟩|⟨h2,hF⟩
          ·refine Wo.x (e6 (es:=([0,0,4,0,4,4,4,2,0,4]:List (Int)).map (eI .i64)) dY rfl (fa dY z3 rfl rfl) rfl rfl) (gg rfl rfl (aR h2)) rfl fun b5=>?_;obtain⟨l10,h62,hF⟩:=J hF;refine Wo.x (aM rfl rfl (fun m hm=>gF n ([0,0,4,0,4,4,4,2,0,4]) (some ⟨b5,0,none⟩) 10 _ h62 m (hm.rd (k:=0) rfl (.arr _ _ _ _ _))) fun _=>rfl) (gg rfl rfl (aR h2)) rfl ?_;rintro⟨a12,n8⟩;refine Wo.len (k:=0) (xs:=l10) rfl ?_;rintro rfl;obtain⟨r14,h63,hF⟩:=J hF;refine Wo.x (aM rfl rfl (fun m hm=>gE n l10 4 2 a12 l10.length _ h63 m (hm.rd (k:=0) rfl (.sl _ _ _ _))) fun _=>rfl) (gg rfl rfl (aR h2)) rfl ?_;rintro⟨⟩;refine Wo.od (bm rfl h2 rfl) rfl<|Wo.od (U rfl) rfl ?_;rcases ae hF with⟨h3,hF⟩|⟨h3,hF⟩
           ·refine Wo.x (e6 (es:=([0,0,3,0,3,3,0,0]:List (Int)).map (eI .i64)) dY rfl (fa dY z3 rfl rfl) rfl rfl) (gg rfl rfl (aR h3)) rfl fun b6=>?_;obtain⟨l11,h64,hF⟩:=J hF;refine Wo.x (aM rfl rfl (fun m hm=>gF n ([0,0,3,0,3,3,0,0]) (some ⟨b6,0,none⟩) 8 _ h64 m (hm.rd (k:=0) rfl (.arr _ _ _ _ _))) fun _=>rfl) (gg rfl rfl (aR h3)) rfl ?_;rintro⟨a13,n9⟩;refine Wo.len (k:=0) (xs:=l11) rfl ?_;rintro rfl;obtain⟨r15,h65,hF⟩:=J hF;refine Wo.x (aM rfl rfl (fun m hm=>gE n l11 3 3 a13 l11.length _ h65 m (hm.rd (k:=0) rfl (.sl _ _ _ _))) fun _=>rfl) (gg rfl rfl (aR h3)) rfl ?_;rintro⟨⟩;refine Wo.od (bm rfl h3 rfl) rfl<|Wo.od (U rfl) rfl ?_;rcases ae hF with⟨h4,hF⟩|⟨h4,hF⟩
            ·refine Wo.x (e6 (es:=([0,0,4,0,2,2,4,4,0,4,2,2]:List (Int)).map (eI .i64)) dY rfl (fa dY z3 rfl rfl) rfl rfl) (gg rfl rfl (aR h4)) rfl fun b7=>?_;obtain⟨l12,h66,hF⟩:=J hF;refine Wo.x (aM rfl rfl (fun m hm=>gF n ([0,0,4,0,2,2,4,4,0,4,2,2]) (some ⟨b7,0,none⟩) 12 _ h66 m (hm.rd (k:=0) rfl (.arr _ _ _ _ _))) fun _=>rfl) (gg rfl rfl (aR h4)) rfl ?_;rintro⟨a14,n10⟩;refine Wo.len (k:=0) (xs:=l12) rfl ?_;rintro rfl;obtain⟨r16,h67,hF⟩:=J hF;refine Wo.x (aM rfl rfl (fun m hm=>gE n l12 5 4 a14 l12.length _ h67 m (hm.rd (k:=0) rfl (.sl _ _ _ _))) fun _=>rfl) (gg rfl rfl (aR h4)) rfl ?_;rintro⟨⟩;refine Wo.od (bm rfl h4 rfl) rfl<|Wo.od (ah rfl) rfl<|Wo.nil ?_;have hr:=Option.some.inj hF;subst r;exact At.en () rfl (sc rfl (sc rfl (sc rfl (sc rfl (sc rfl sn))))) (ab.aa [17,18,12,10] rfl rfl)
            ·refine Wo.s (gg rfl rfl (aQ h4)) rfl<|Wo.s (gg rfl rfl (aQ h4)) rfl<|Wo.s (gg rfl rfl (aQ h4)) rfl<|Wo.od (bj rfl h4 rfl) rfl<|Wo.od (ah rfl) rfl<|Wo.nil ?_;cases hF;exact At.en () rfl (sc rfl (sc rfl (sc rfl (sc rfl (sc rfl sn))))) (ab.aa [15,16,10,8] rfl rfl)
           ·refine Wo.s (gg rfl rfl (aQ h3)) rfl<|Wo.s (gg rfl rfl (aQ h3)) rfl<|Wo.s (gg rfl rfl (aQ h3)) rfl<|Wo.od (bj rfl h3 rfl) rfl<|Wo.od (U rfl) rfl<|Wo.s (gg rfl rfl rfl) rfl<|Wo.s (gg rfl rfl rfl) rfl<|Wo.s (gg rfl rfl rfl) rfl<|Wo.od (ax rfl rfl) rfl<|Wo.od (ah rfl) rfl ?_;refine Wo.nil ?_;cases hF;exact At.en () rfl (sc rfl (sc rfl (sc rfl (sc rfl (sc rfl sn))))) (ab.aa [13,14,8,6] rfl rfl)
          ·refine Wo.s (gg rfl rfl (aQ h2)) rfl<|Wo.s (gg rfl rfl (aQ h2)) rfl<|Wo.s (gg rfl rfl (aQ h2)) rfl<|Wo.od (bj rfl h2 rfl) rfl<|Wo.od (U rfl) rfl<|Wo.s (gg rfl rfl rfl) rfl<|Wo.s (gg rfl rfl rfl) rfl<|Wo.s (gg rfl rfl rfl) rfl<|Wo.od (ax rfl rfl) rfl<|Wo.od (U rfl) rfl ?_;refine Wo.s (gg rfl rfl rfl) rfl<|Wo.s (gg rfl rfl rfl) rfl<|Wo.s (gg rfl rfl rfl) rfl<|Wo.od (ax rfl rfl) rfl<|Wo.od (ah rfl) rfl<|Wo.nil ?_;cases hF;exact At.en () rfl (sc rfl (sc rfl (sc rfl (sc rfl (sc rfl sn))))) (ab.aa [11,12,6,4] rfl rfl)
         ·refine Wo.s (gg rfl rfl (aQ h1)) rfl<|Wo.s (gg rfl rfl (aQ h1)) rfl<|Wo.s (gg rfl rfl (aQ h1)) rfl<|Wo.od (bj rfl h1 rfl) rfl<|Wo.od (U rfl) rfl<|Wo.s (gg rfl rfl rfl) rfl<|Wo.s (gg rfl rfl rfl) rfl<|Wo.s (gg rfl rfl rfl) rfl<|Wo.od (ax rfl rfl) rfl<|Wo.od (U rfl) rfl ?_;refine Wo.s (gg rfl rfl rfl) rfl<|Wo.s (gg rfl rfl rfl) rfl<|Wo.s (gg rfl rfl rfl) rfl<|Wo.od (ax rfl rfl) rfl<|Wo.od (U rfl) rfl<|Wo.s (gg rfl rfl rfl) rfl<|Wo.s (gg rfl rfl rfl) rfl<|Wo.s (gg rfl rfl rfl) rfl<|Wo.od (ax rfl rfl) rfl<|Wo.od (ah rfl) rfl ?_;refine Wo.nil ?_;cases hF;exact At.en () rfl (sc rfl (sc rfl (sc rfl (sc rfl (sc rfl sn))))) (ab.aa [9,10,4,2] rfl rfl)
        ·refine Wo.s (gg rfl rfl (aQ h11)) rfl<|Wo.s (gg rfl rfl (aQ h11)) rfl<|Wo.od (bj rfl h11 rfl) rfl<|Wo.od (U rfl) rfl<|Wo.s (gg rfl rfl rfl) rfl<|Wo.s (gg rfl rfl rfl) rfl<|Wo.s (gg rfl rfl rfl) rfl<|Wo.od (ax rfl rfl) rfl<|Wo.od (U rfl) rfl<|Wo.s (gg rfl rfl rfl) rfl ?_;refine Wo.s (gg rfl rfl rfl) rfl<|Wo.s (gg rfl rfl rfl) rfl<|Wo.od (ax rfl rfl) rfl<|Wo.od (U rfl) rfl<|Wo.s (gg rfl rfl rfl) rfl<|Wo.s (gg rfl rfl rfl) rfl<|Wo.s (gg rfl rfl rfl) rfl<|Wo.od (ax rfl rfl) rfl<|Wo.od (U rfl) rfl<|Wo.s (gg rfl rfl rfl) rfl ?_;refine Wo.s (gg rfl rfl rfl) rfl<|Wo.s (gg rfl rfl rfl) rfl<|Wo.od (ax rfl rfl) rfl<|Wo.od (ah rfl) rfl<|Wo.nil ?_;cases hF;exact At.en () rfl (sc rfl (sc rfl (sc rfl (sc rfl (sc rfl sn))))) (ab.aa [9,10,4,2] rfl rfl)
       ·refine Wo.s (gg rfl rfl (aQ h10)) rfl<|Wo.s (gg rfl rfl (aQ h10)) rfl<|Wo.od (bj rfl h10 rfl) rfl<|Wo.od (U rfl) rfl<|Wo.s (gg rfl rfl rfl) rfl<|Wo.s (gg rfl rfl rfl) rfl<|Wo.od (ax rfl rfl) rfl<|Wo.od (U rfl) rfl<|Wo.s (gg rfl rfl rfl) rfl<|Wo.s (gg rfl rfl rfl) rfl ?_;refine Wo.s (gg rfl rfl rfl) rfl<|Wo.od (ax rfl rfl) rfl<|Wo.od (U rfl) rfl<|Wo.s (gg rfl rfl rfl) rfl<|Wo.s (gg rfl rfl rfl) rfl<|Wo.s (gg rfl rfl rfl) rfl<|Wo.od (ax rfl rfl) rfl<|Wo.od (U rfl) rfl<|Wo.s (gg rfl rfl rfl) rfl<|Wo.s (gg rfl rfl rfl) rfl ?_;refine Wo.s (gg rfl rfl rfl) rfl<|Wo.od (ax rfl rfl) rfl<|Wo.od (U rfl) rfl<|Wo.s (gg rfl rfl rfl) rfl<|Wo.s (gg rfl rfl rfl) rfl<|Wo.s (gg rfl rfl rfl) rfl<|Wo.od (ax rfl rfl) rfl<|Wo.od (ah rfl) rfl<|Wo.nil ?_;cases hF;exact At.en () rfl (sc rfl (sc rfl (sc rfl (sc rfl (sc rfl sn))))) (ab.aa [9,10,4,2] rfl rfl)
      ·refine Wo.s (gg rfl rfl (aQ h9)) rfl<|Wo.s (gg rfl rfl (aQ h9)) rfl<|Wo.od (bj rfl h9 rfl) rfl<|Wo.od (U rfl) rfl<|Wo.s (gg rfl rfl rfl) rfl<|Wo.s (gg rfl rfl rfl) rfl<|Wo.od (ax rfl rfl) rfl<|Wo.od (U rfl) rfl<|Wo.s (gg rfl rfl rfl) rfl<|Wo.s (gg rfl rfl rfl) rfl ?_;refine Wo.od (ax rfl rfl) rfl<|Wo.od (U rfl) rfl<|Wo.s (gg rfl rfl rfl) rfl<|Wo.s (gg rfl rfl rfl) rfl<|Wo.s (gg rfl rfl rfl) rfl<|Wo.od (ax rfl rfl) rfl<|Wo.od (U rfl) rfl<|Wo.s (gg rfl rfl rfl) rfl<|Wo.s (gg rfl rfl rfl) rfl<|Wo.s (gg rfl rfl rfl) rfl ?_;refine Wo.od (ax rfl rfl) rfl<|Wo.od (U rfl) rfl<|Wo.s (gg rfl rfl rfl) rfl<|Wo.s (gg rfl rfl rfl) rfl<|Wo.s (gg rfl rfl rfl) rfl<|Wo.od (ax rfl rfl) rfl<|Wo.od (U rfl) rfl<|Wo.s (gg rfl rfl rfl) rfl<|Wo.s (gg rfl rfl rfl) rfl<|Wo.s (gg rfl rfl rfl) rfl ?_;refine Wo.od (ax rfl rfl) rfl<|Wo.od (ah rfl) rfl<|Wo.nil ?_;cases hF;exact At.en () rfl (sc rfl (sc rfl (sc rfl (sc rfl (sc rfl sn))))) (ab.aa [9,10,4,2] rfl rfl)
     ·refine Wo.s (gg rfl rfl (aQ h8)) rfl<|Wo.s (gg rfl rfl (aQ h8)) rfl<|Wo.od (bj rfl h8 rfl) rfl<|Wo.od (U rfl) rfl<|Wo.s (gg rfl rfl rfl) rfl<|Wo.s (gg rfl rfl rfl) rfl<|Wo.od (ax rfl rfl) rfl<|Wo.od (U rfl) rfl<|Wo.s (gg rfl rfl rfl) rfl<|Wo.s (gg rfl rfl rfl) rfl ?_;refine Wo.od (ax rfl rfl) rfl<|Wo.od (U rfl) rfl<|Wo.s (gg rfl rfl rfl) rfl<|Wo.s (gg rfl rfl rfl) rfl<|Wo.od (ax rfl rfl) rfl<|Wo.od (U rfl) rfl<|Wo.s (gg rfl rfl rfl) rfl<|Wo.s (gg rfl rfl rfl) rfl<|Wo.s (gg rfl rfl rfl) rfl<|Wo.od (ax rfl rfl) rfl ?_;refine Wo.od (U rfl) rfl<|Wo.s (gg rfl rfl rfl) rfl<|Wo.s (gg rfl rfl rfl) rfl<|Wo.s (gg rfl rfl rfl) rfl<|Wo.od (ax rfl rfl) rfl<|Wo.od (U rfl) rfl<|Wo.s (gg rfl rfl rfl) rfl<|Wo.s (gg rfl rfl rfl) rfl<|Wo.s (gg rfl rfl rfl) rfl<|Wo.od (ax rfl rfl) rfl ?_;refine Wo.od (U rfl) rfl<|Wo.s (gg rfl rfl rfl) rfl<|Wo.s (gg rfl rfl rfl) rfl<|Wo.s (gg rfl rfl rfl) rfl<|Wo.od (ax rfl rfl) rfl<|Wo.od (ah rfl) rfl<|Wo.nil ?_;cases hF;exact At.en () rfl (sc rfl (sc rfl (sc rfl (sc rfl (sc rfl sn))))) (ab.aa [9,10,4,2] rfl rfl)
    ·refine Wo.s (gg rfl rfl (aQ h0)) rfl<|Wo.s (gg rfl rfl (aQ h0)) rfl<|Wo.s (gg rfl rfl (aQ h0)) rfl<|Wo.od (bj rfl h0 rfl) rfl<|Wo.od (U rfl) rfl<|Wo.s (gg rfl rfl rfl) rfl<|Wo.s (gg rfl rfl rfl) rfl<|Wo.od (ax rfl rfl) rfl<|Wo.od (U rfl) rfl<|Wo.s (gg rfl rfl rfl) rfl ?_;refine Wo.s (gg rfl rfl rfl) rfl<|Wo.od (ax rfl rfl) rfl<|Wo.od (U rfl) rfl<|Wo.s (gg rfl rfl rfl) rfl<|Wo.s (gg rfl rfl rfl) rfl<|Wo.od (ax rfl rfl) rfl<|Wo.od (U rfl) rfl<|Wo.s (gg rfl rfl rfl) rfl<|Wo.s (gg rfl rfl rfl) rfl<|Wo.od (ax rfl rfl) rfl ?_;refine Wo.od (U rfl) rfl<|Wo.s (gg rfl rfl rfl) rfl<|Wo.s (gg rfl rfl rfl) rfl<|Wo.s (gg rfl rfl rfl) rfl<|Wo.od (ax rfl rfl) rfl<|Wo.od (U rfl) rfl<|Wo.s (gg rfl rfl rfl) rfl<|Wo.s (gg rfl rfl rfl) rfl<|Wo.s (gg rfl rfl rfl) rfl<|Wo.od (ax rfl rfl) rfl ?_;refine Wo.od (U rfl) rfl<|Wo.s (gg rfl rfl rfl) rfl<|Wo.s (gg rfl rfl rfl) rfl<|Wo.s (gg rfl rfl rfl) rfl<|Wo.od (ax rfl rfl) rfl<|Wo.od (U rfl) rfl<|Wo.s (gg rfl rfl rfl) rfl<|Wo.s (gg rfl rfl rfl) rfl<|Wo.s (gg rfl rfl rfl) rfl<|Wo.od (ax rfl rfl) rfl ?_;refine Wo.od (ah rfl) rfl<|Wo.nil ?_;cases hF;exact At.en () rfl (sc rfl (sc rfl (sc rfl (sc rfl (sc rfl sn))))) (ab.aa [7,8,2,0] rfl rfl)
   ·clear h52;rintro⟨⟩;refine At.tn<|Wk.seq ?_;obtain⟨v1,h68,hF⟩:=J hF;refine Wk.cut (G:=(fun(r:Bool) (g:Unit)=>match r,g with|v1,_=>⟨.normal,[(1,.slice a0 l2.length l2.length),(2,.slice a1 ((l1++[(0,2000)]).length) ((l1++[(0,2000)]).length)),(5,.slice a4 l4.length l4.length),(7,.bool v0),(8,.bool v1)],[.sl a0 2 l2.length (l2.map (eP (eI .i64) (eI .i64))),.sl a1 2 ((l1++[(0,2000)]).length) ((l1++[(0,2000)]).map (eP (eI .i64) (eI .i64))),.sl a4 2 l4.length (l4.map (eP (eI .i64) (eI .i64)))]⟩) v1) ?_ ?_
    ·clear hF;revert v1;intro r hF;refine Wk.region<|Wo.od (U rfl) rfl ?_;obtain⟨r17,h69,hF⟩:=J hF;refine Wo.x (aM rfl rfl (fun m hm=>Ce n l2 a0 l2.length _ h69 m (hm.rd (k:=0) rfl (.sl _ _ _ _))) fun _=>rfl) gn rfl ?_;rintro⟨⟩;refine Wo.od (U rfl) rfl ?_;rcases ae hF with⟨h12,hF⟩|⟨h12,hF⟩
     ·refine Wo.og (U rfl) (gg rfl rfl (aR h12)) rfl ?_;obtain⟨r18,h70,hF⟩:=J hF;refine Wo.x (aM rfl rfl (fun m hm=>yU n l2 24 a0 l2.length _ h70 m (hm.rd (k:=0) rfl (.sl _ _ _ _))) fun _=>rfl) (gg rfl rfl (aR h12)) rfl ?_;rintro⟨⟩;refine Wo.od (bm rfl h12 rfl) rfl<|Wo.od (U rfl) rfl ?_;rcases ae hF with⟨h13,hF⟩|⟨h13,hF⟩
      ·refine Wo.og (U rfl) (gg rfl rfl (aR h13)) rfl ?_;obtain⟨r19,h71,hF⟩:=J hF;refine Wo.x (aM rfl rfl (fun m hm=>sR n l2 14 1 a0 l2.length _ h71 m (hm.rd (k:=0) rfl (.sl _ _ _ _))) fun _=>rfl) (gg rfl rfl (aR h13)) rfl ?_;rintro⟨⟩;refine Wo.od (bm rfl h13 rfl) rfl<|Wo.od (U rfl) rfl ?_;rcases ae hF with⟨h14,hF⟩|⟨h14,hF⟩
       ·refine Wo.og (U rfl) (gg rfl rfl (aR h14)) rfl ?_;obtain⟨r20,h72,hF⟩:=J hF;refine Wo.x (aM rfl rfl (fun m hm=>yU n l5 8000000000000 a5 l5.length _ h72 m (hm.rd (k:=3) rfl (.sl _ _ _ _))) fun _=>rfl) (gg rfl rfl (aR h14)) rfl ?_;rintro⟨⟩;refine Wo.od (bm rfl h14 rfl) rfl<|Wo.od (U rfl) rfl ?_;rcases ae hF with⟨h15,hF⟩|⟨h15,hF⟩
        ·refine Wo.og (U rfl) (gg rfl rfl (aR h15)) rfl ?_;obtain⟨r21,h73,hF⟩:=J hF;refine Wo.x (aM rfl rfl (fun m hm=>sR n l5 8000000 1 a5 l5.length _ h73 m (hm.rd (k:=3) rfl (.sl _ _ _ _))) fun _=>rfl) (gg rfl rfl (aR h15)) rfl ?_;rintro⟨⟩;refine Wo.od (bm rfl h15 rfl) rfl<|Wo.od (U rfl) rfl ?_;rcases ae hF with⟨h5,hF⟩|⟨h5,hF⟩
         ·refine Wo.x (e6 (es:=([0,0,3,3,0,6,-3,3]:List (Int)).map (eI .i64)) dY rfl (fa dY z3 rfl rfl) rfl rfl) (gg rfl rfl (aR h5)) rfl fun b8=>?_;obtain⟨l13,h74,hF⟩:=J hF;refine Wo.x (aM rfl rfl (fun m hm=>gF n ([0,0,3,3,0,6,-3,3]) (some ⟨b8,0,none⟩) 8 _ h74 m (hm.rd (k:=0) rfl (.arr _ _ _ _ _))) fun _=>rfl) (gg rfl rfl (aR h5)) rfl ?_;rintro⟨a15,n11⟩;refine Wo.len (k:=0) (xs:=l13) rfl ?_;rintro rfl;obtain⟨r22,h75,hF⟩:=J hF;refine Wo.x (aM rfl rfl (fun m hm=>sR n l13 12 2 a15 l13.length _ h75 m (hm.rd (k:=0) rfl (.sl _ _ _ _))) fun _=>rfl) (gg rfl rfl (aR h5)) rfl ?_;rintro⟨⟩;refine Wo.od (bm rfl h5 rfl) rfl<|Wo.od (U rfl) rfl ?_;rcases ae hF with⟨h16,hF⟩|⟨h16,hF⟩
          ·refine Wo.og (U rfl) (gg rfl rfl (aR h16)) rfl ?_;obtain⟨r23,h76,hF⟩:=J hF;refine Wo.x (aM rfl rfl (fun m hm=>nU n l5 1000000 1000000 1 a5 l5.length _ h76 m (hm.rd (k:=5) rfl (.sl _ _ _ _))) fun _=>rfl) (gg rfl rfl (aR h16)) rfl ?_;rintro⟨⟩;refine Wo.od (bm rfl h16 rfl) rfl<|Wo.od (U rfl) rfl ?_;rcases ae hF with⟨h17,hF⟩|⟨h17,hF⟩
           ·refine Wo.og (U rfl) (gg rfl rfl (aR h17)) rfl ?_;obtain⟨r24,h77,hF⟩:=J hF;refine Wo.x (aM rfl rfl (fun m hm=>nU n l5 0 999999 2 a5 l5.length _ h77 m (hm.rd (k:=5) rfl (.sl _ _ _ _))) fun _=>rfl) (gg rfl rfl (aR h17)) rfl ?_;rintro⟨⟩;refine Wo.od (bm rfl h17 rfl) rfl<|Wo.od (U rfl) rfl ?_;rcases ae hF with⟨h18,hF⟩|⟨h18,hF⟩
            ·refine Wo.og (U rfl) (gg rfl rfl (aR h18)) rfl ?_;obtain⟨r25,h78,hF⟩:=J hF;refine Wo.x (aM rfl rfl (fun m hm=>nU n l2 2 0 1 a0 l2.length _ h78 m (hm.rd (k:=2) rfl (.sl _ _ _ _))) fun _=>rfl) (gg rfl rfl (aR h18)) rfl ?_;rintro⟨⟩;refine Wo.od (bm rfl h18 rfl) rfl<|Wo.od (U rfl) rfl ?_;rcases ae hF with⟨h19,hF⟩|⟨h19,hF⟩
             ·refine Wo.og (U rfl) (gg rfl rfl (aR h19)) rfl ?_;obtain⟨r26,h79,hF⟩:=J hF;refine Wo.x (aM rfl rfl (fun m hm=>nU n l2 (-1) 0 0 a0 l2.length _ h79 m (hm.rd (k:=2) rfl (.sl _ _ _ _))) fun _=>rfl) (gg rfl rfl (aR h19)) rfl ?_;rintro⟨⟩;refine Wo.od (bm rfl h19 rfl) rfl<|Wo.od (U rfl) rfl ?_;rcases ae hF with⟨h20,hF⟩|⟨h20,hF⟩
              ·refine Wo.og (U rfl) (gg rfl rfl (aR h20)) rfl ?_;obtain⟨r27,h80,hF⟩:=J hF;refine Wo.x (aM rfl rfl (fun m hm=>nU n l2 9 3 0 a0 l2.length _ h80 m (hm.rd (k:=2) rfl (.sl _ _ _ _))) fun _=>rfl) (gg rfl rfl (aR h20)) rfl ?_;rintro⟨⟩;refine Wo.od (bm rfl h20 rfl) rfl<|Wo.od (ah rfl) rfl<|Wo.nil ?_;have hr:=Option.some.inj hF;subst r;exact At.en () rfl (sc rfl (sc rfl (sc rfl (sc rfl (sc rfl sn))))) (ab.aa [2,3,4] rfl rfl)
              ·refine Wo.s (gg rfl rfl (aQ h20)) rfl<|Wo.s (gg rfl rfl (aQ h20)) rfl<|Wo.od (bj rfl h20 rfl) rfl<|Wo.od (ah rfl) rfl<|Wo.nil ?_;cases hF;exact At.en () rfl (sc rfl (sc rfl (sc rfl (sc rfl (sc rfl sn))))) (ab.aa [2,3,4] rfl rfl)
             ·refine Wo.s (gg rfl rfl (aQ h19)) rfl<|Wo.s (gg rfl rfl (aQ h19)) rfl<|Wo.od (bj rfl h19 rfl) rfl<|Wo.od (U rfl) rfl<|Wo.s (gg rfl rfl rfl) rfl<|Wo.s (gg rfl rfl rfl) rfl<|Wo.od (ax rfl rfl) rfl<|Wo.od (ah rfl) rfl<|Wo.nil ?_;cases hF;exact At.en () rfl (sc rfl (sc rfl (sc rfl (sc rfl (sc rfl sn))))) (ab.aa [2,3,4] rfl rfl)
            ·refine Wo.s (gg rfl rfl (aQ h18)) rfl<|Wo.s (gg rfl rfl (aQ h18)) rfl<|Wo.od (bj rfl h18 rfl) rfl<|Wo.od (U rfl) rfl<|Wo.s (gg rfl rfl rfl) rfl<|Wo.s (gg rfl rfl rfl) rfl<|Wo.od (ax rfl rfl) rfl<|Wo.od (U rfl) rfl<|Wo.s (gg rfl rfl rfl) rfl<|Wo.s (gg rfl rfl rfl) rfl ?_;refine Wo.od (ax rfl rfl) rfl<|Wo.od (ah rfl) rfl<|Wo.nil ?_;cases hF;exact At.en () rfl (sc rfl (sc rfl (sc rfl (sc rfl (sc rfl sn))))) (ab.aa [2,3,4] rfl rfl)
           ·refine Wo.s (gg rfl rfl (aQ h17)) rfl<|Wo.s (gg rfl rfl (aQ h17)) rfl<|Wo.od (bj rfl h17 rfl) rfl<|Wo.od (U rfl) rfl<|Wo.s (gg rfl rfl rfl) rfl<|Wo.s (gg rfl rfl rfl) rfl<|Wo.od (ax rfl rfl) rfl<|Wo.od (U rfl) rfl<|Wo.s (gg rfl rfl rfl) rfl<|Wo.s (gg rfl rfl rfl) rfl ?_;refine Wo.od (ax rfl rfl) rfl<|Wo.od (U rfl) rfl<|Wo.s (gg rfl rfl rfl) rfl<|Wo.s (gg rfl rfl rfl) rfl<|Wo.od (ax rfl rfl) rfl<|Wo.od (ah rfl) rfl<|Wo.nil ?_;cases hF;exact At.en () rfl (sc rfl (sc rfl (sc rfl (sc rfl (sc rfl sn))))) (ab.aa [2,3,4] rfl rfl)
          ·refine Wo.s (gg rfl rfl (aQ h16)) rfl<|Wo.s (gg rfl rfl (aQ h16)) rfl<|Wo.od (bj rfl h16 rfl) rfl<|Wo.od (U rfl) rfl<|Wo.s (gg rfl rfl rfl) rfl<|Wo.s (gg rfl rfl rfl) rfl<|Wo.od (ax rfl rfl) rfl<|Wo.od (U rfl) rfl<|Wo.s (gg rfl rfl rfl) rfl<|Wo.s (gg rfl rfl rfl) rfl ?_;refine Wo.od (ax rfl rfl) rfl<|Wo.od (U rfl) rfl<|Wo.s (gg rfl rfl rfl) rfl<|Wo.s (gg rfl rfl rfl) rfl<|Wo.od (ax rfl rfl) rfl<|Wo.od (U rfl) rfl<|Wo.s (gg rfl rfl rfl) rfl<|Wo.s (gg rfl rfl rfl) rfl<|Wo.od (ax rfl rfl) rfl<|Wo.od (ah rfl) rfl ?_;refine Wo.nil ?_;cases hF;exact At.en () rfl (sc rfl (sc rfl (sc rfl (sc rfl (sc rfl sn))))) (ab.aa [2,3,4] rfl rfl)
         ·refine Wo.s (gg rfl rfl (aQ h5)) rfl<|Wo.s (gg rfl rfl (aQ h5)) rfl<|Wo.s (gg rfl rfl (aQ h5)) rfl<|Wo.od (bj rfl h5 rfl) rfl<|Wo.od (U rfl) rfl<|Wo.s (gg rfl rfl rfl) rfl<|Wo.s (gg rfl rfl rfl) rfl<|Wo.od (ax rfl rfl) rfl<|Wo.od (U rfl) rfl<|Wo.s (gg rfl rfl rfl) rfl ?_;refine Wo.s (gg rfl rfl rfl) rfl<|Wo.od (ax rfl rfl) rfl<|Wo.od (U rfl) rfl<|Wo.s (gg rfl rfl rfl) rfl<|Wo.s (gg rfl rfl rfl) rfl<|Wo.od (ax rfl rfl) rfl<|Wo.od (U rfl) rfl<|Wo.s (gg rfl rfl rfl) rfl<|Wo.s (gg rfl rfl rfl) rfl<|Wo.od (ax rfl rfl) rfl ?_;refine Wo.od (U rfl) rfl<|Wo.s (gg rfl rfl rfl) rfl<|Wo.s (gg rfl rfl rfl) rfl<|Wo.od (ax rfl rfl) rfl<|Wo.od (ah rfl) rfl<|Wo.nil ?_;cases hF;exact At.en () rfl (sc rfl (sc rfl (sc rfl (sc rfl (sc rfl sn))))) (ab.aa [0,1,2] rfl rfl)
        ·refine Wo.s (gg rfl rfl (aQ h15)) rfl<|Wo.s (gg rfl rfl (aQ h15)) rfl<|Wo.od (bj rfl h15 rfl) rfl<|Wo.od (U rfl) rfl<|Wo.s (gg rfl rfl rfl) rfl<|Wo.s (gg rfl rfl rfl) rfl<|Wo.s (gg rfl rfl rfl) rfl<|Wo.od (ax rfl rfl) rfl<|Wo.od (U rfl) rfl<|Wo.s (gg rfl rfl rfl) rfl ?_;refine Wo.s (gg rfl rfl rfl) rfl<|Wo.od (ax rfl rfl) rfl<|Wo.od (U rfl) rfl<|Wo.s (gg rfl rfl rfl) rfl<|Wo.s (gg rfl rfl rfl) rfl<|Wo.od (ax rfl rfl) rfl<|Wo.od (U rfl) rfl<|Wo.s (gg rfl rfl rfl) rfl<|Wo.s (gg rfl rfl rfl) rfl<|Wo.od (ax rfl rfl) rfl ?_;refine Wo.od (U rfl) rfl<|Wo.s (gg rfl rfl rfl) rfl<|Wo.s (gg rfl rfl rfl) rfl<|Wo.od (ax rfl rfl) rfl<|Wo.od (U rfl) rfl<|Wo.s (gg rfl rfl rfl) rfl<|Wo.s (gg rfl rfl rfl) rfl<|Wo.od (ax rfl rfl) rfl<|Wo.od (ah rfl) rfl<|Wo.nil ?_;cases hF;exact At.en () rfl (sc rfl (sc rfl (sc rfl (sc rfl (sc rfl sn))))) (ab.aa [0,1,2] rfl rfl)
       ·refine Wo.s (gg rfl rfl (aQ h14)) rfl<|Wo.s (gg rfl rfl (aQ h14)) rfl<|Wo.od (bj rfl h14 rfl) rfl<|Wo.od (U rfl) rfl<|Wo.s (gg rfl rfl rfl) rfl<|Wo.s (gg rfl rfl rfl) rfl<|Wo.od (ax rfl rfl) rfl<|Wo.od (U rfl) rfl<|Wo.s (gg rfl rfl rfl) rfl<|Wo.s (gg rfl rfl rfl) rfl ?_;refine Wo.s (gg rfl rfl rfl) rfl<|Wo.od (ax rfl rfl) rfl<|Wo.od (U rfl) rfl<|Wo.s (gg rfl rfl rfl) rfl<|Wo.s (gg rfl rfl rfl) rfl<|Wo.od (ax rfl rfl) rfl<|Wo.od (U rfl) rfl<|Wo.s (gg rfl rfl rfl) rfl<|Wo.s (gg rfl rfl rfl) rfl<|Wo.od (ax rfl rfl) rfl ?_;refine Wo.od (U rfl) rfl<|Wo.s (gg rfl rfl rfl) rfl<|Wo.s (gg rfl rfl rfl) rfl<|Wo.od (ax rfl rfl) rfl<|Wo.od (U rfl) rfl<|Wo.s (gg rfl rfl rfl) rfl<|Wo.s (gg rfl rfl rfl) rfl<|Wo.od (ax rfl rfl) rfl<|Wo.od (U rfl) rfl<|Wo.s (gg rfl rfl rfl) rfl ?_;refine Wo.s (gg rfl rfl rfl) rfl<|Wo.od (ax rfl rfl) rfl<|Wo.od (ah rfl) rfl<|Wo.nil ?_;cases hF;exact At.en () rfl (sc rfl (sc rfl (sc rfl (sc rfl (sc rfl sn))))) (ab.aa [0,1,2] rfl rfl)
      ·refine Wo.s (gg rfl rfl (aQ h13)) rfl<|Wo.s (gg rfl rfl (aQ h13)) rfl<|Wo.od (bj rfl h13 rfl) rfl<|Wo.od (U rfl) rfl<|Wo.s (gg rfl rfl rfl) rfl<|Wo.s (gg rfl rfl rfl) rfl<|Wo.od (ax rfl rfl) rfl<|Wo.od (U rfl) rfl<|Wo.s (gg rfl rfl rfl) rfl<|Wo.s (gg rfl rfl rfl) rfl ?_;refine Wo.od (ax rfl rfl) rfl<|Wo.od (U rfl) rfl<|Wo.s (gg rfl rfl rfl) rfl<|Wo.s (gg rfl rfl rfl) rfl<|Wo.s (gg rfl rfl rfl) rfl<|Wo.od (ax rfl rfl) rfl<|Wo.od (U rfl) rfl<|Wo.s (gg rfl rfl rfl) rfl<|Wo.s (gg rfl rfl rfl) rfl<|Wo.od (ax rfl rfl) rfl ?_;refine Wo.od (U rfl) rfl<|Wo.s (gg rfl rfl rfl) rfl<|Wo.s (gg rfl rfl rfl) rfl<|Wo.od (ax rfl rfl) rfl<|Wo.od (U rfl) rfl<|Wo.s (gg rfl rfl rfl) rfl<|Wo.s (gg rfl rfl rfl) rfl<|Wo.od (ax rfl rfl) rfl<|Wo.od (U rfl) rfl<|Wo.s (gg rfl rfl rfl) rfl ?_;refine Wo.s (gg rfl rfl rfl) rfl<|Wo.od (ax rfl rfl) rfl<|Wo.od (U rfl) rfl<|Wo.s (gg rfl rfl rfl) rfl<|Wo.s (gg rfl rfl rfl) rfl<|Wo.od (ax rfl rfl) rfl<|Wo.od (ah rfl) rfl<|Wo.nil ?_;cases hF;exact At.en () rfl (sc rfl (sc rfl (sc rfl (sc rfl (sc rfl sn))))) (ab.aa [0,1,2] rfl rfl)
     ·refine Wo.s (gg rfl rfl (aQ h12)) rfl<|Wo.s (gg rfl rfl (aQ h12)) rfl<|Wo.od (bj rfl h12 rfl) rfl<|Wo.od (U rfl) rfl<|Wo.s (gg rfl rfl rfl) rfl<|Wo.s (gg rfl rfl rfl) rfl<|Wo.od (ax rfl rfl) rfl<|Wo.od (U rfl) rfl<|Wo.s (gg rfl rfl rfl) rfl<|Wo.s (gg rfl rfl rfl) rfl ?_;refine Wo.od (ax rfl rfl) rfl<|Wo.od (U rfl) rfl<|Wo.s (gg rfl rfl rfl) rfl<|Wo.s (gg rfl rfl rfl) rfl<|Wo.od (ax rfl rfl) rfl<|Wo.od (U rfl) rfl<|Wo.s (gg rfl rfl rfl) rfl<|Wo.s (gg rfl rfl rfl) rfl<|Wo.s (gg rfl rfl rfl) rfl<|Wo.od (ax rfl rfl) rfl ?_;refine Wo.od (U rfl) rfl<|Wo.s (gg rfl rfl rfl) rfl<|Wo.s (gg rfl rfl rfl) rfl<|Wo.od (ax rfl rfl) rfl<|Wo.od (U rfl) rfl<|Wo.s (gg rfl rfl rfl) rfl<|Wo.s (gg rfl rfl rfl) rfl<|Wo.od (ax rfl rfl) rfl<|Wo.od (U rfl) rfl<|Wo.s (gg rfl rfl rfl) rfl ?_;refine Wo.s (gg rfl rfl rfl) rfl<|Wo.od (ax rfl rfl) rfl<|Wo.od (U rfl) rfl<|Wo.s (gg rfl rfl rfl) rfl<|Wo.s (gg rfl rfl rfl) rfl<|Wo.od (ax rfl rfl) rfl<|Wo.od (U rfl) rfl<|Wo.s (gg rfl rfl rfl) rfl<|Wo.s (gg rfl rfl rfl) rfl<|Wo.od (ax rfl rfl) rfl ?_;refine Wo.od (ah rfl) rfl<|Wo.nil ?_;cases hF;exact At.en () rfl (sc rfl (sc rfl (sc rfl (sc rfl (sc rfl sn))))) (ab.aa [0,1,2] rfl rfl)
    ·clear h68;rintro⟨⟩;refine At.tn<|Wk.seq<|Wk.region<|Wo.od (U rfl) rfl<|Wo.od (cr rfl z33 rfl (cm gC rfl rfl rfl)) rfl ?_;obtain⟨⟨r28,r0⟩,h81,hF⟩:=J hF;refine Wo.x (aM rfl rfl (fun m hm=>tQ n l2 1000001 0 a0 l2.length _ h81 m (hm.rd (k:=0) rfl (.sl _ _ _ _))) fun _=>rfl) gn rfl ?_;rintro⟨⟩;refine Wo.od (U rfl) rfl<|Wo.od (bt rfl rfl) rfl<|Wo.od (bt rfl rfl) rfl<|Wo.od (ah rfl) rfl<|Wo.od (ah rfl) rfl<|Wo.nil<|At.tn<|Wk.seq<|Wk.region<|Wo.od (U rfl) rfl<|Wo.od (cr rfl z33 rfl (cm gC rfl rfl rfl)) rfl ?_;obtain⟨⟨r29,r1⟩,h82,hF⟩:=J hF;refine Wo.x (aM rfl rfl (fun m hm=>tQ n l4 1000001 0 a4 l4.length _ h82 m (hm.rd (k:=2) rfl (.sl _ _ _ _))) fun _=>rfl) gn rfl ?_;rintro⟨⟩;refine Wo.od (U rfl) rfl<|Wo.od (bt rfl rfl) rfl<|Wo.od (bt rfl rfl) rfl<|Wo.od (ah rfl) rfl<|Wo.od (ah rfl) rfl<|Wo.nil<|At.tn<|Wk.seq<|Wk.region ?_;obtain⟨h83,hF⟩:=ai hF;obtain⟨h84,hF⟩:=ai hF;refine Wo.x (uI (f:=eP (eI .i64) (eI .i64)) (z0:=((0,0):Int × Int)) ij rfl h83 h84 z33 rfl rfl) gn rfl fun b9=>?_;obtain⟨⟨l15,r2⟩,h85,hF⟩:=J hF;refine Wo.eF (ab.close (k:=0) rfl)<|Wo.eF (ab.freeze (k:=0) rfl)<|Wo.x (ov (N:=(fun x:Option Addr × Nat × Nat=>[.rd x.1 x.2.1 2 x.2.2 (l15.map (eP (eI .i64) (eI .i64)))])) rfl rfl (fun m hm=>lI n (List.replicate (201:Int).toNat ((0,0):Int × Int)) (some ⟨b9,0,none⟩) ((201:Int).toNat) _ h85 m hm.dh (hm.rd (k:=0) rfl (.rd _ _ _ _ _)) (hm.gS (k:=0) rfl)) fun _=>rfl) gn rfl ?_;rintro⟨a21,c2,n12⟩;refine Wo.jv (k:=0) (xs:=l15) rfl ?_;rintro rfl;refine Wo.od (U rfl) rfl<|Wo.od (bt rfl rfl) rfl<|Wo.od (bt rfl rfl) rfl<|Wo.od (ah rfl) rfl<|Wo.od (ah rfl) rfl<|Wo.nil<|At.tn<|Wk.seq<|Wk.region<|Wo.od (cr rfl z33 rfl (cm gC rfl rfl rfl)) rfl<|Wo.x (e6 (es:=([(1000001,0)]:List (Int × Int)).map (eP (eI .i64) (eI .i64))) ij rfl (fa ij z33 rfl rfl) rfl rfl) gn rfl fun b10=>?_;obtain⟨⟨l16,r3⟩,h86,hF⟩:=J hF;refine Wo.eF (ab.close (k:=0) rfl)<|Wo.eF (ab.freeze (k:=0) rfl)<|Wo.x (ov (N:=(fun x:Option Addr × Nat × Nat=>[.rd x.1 x.2.1 2 x.2.2 (l16.map (eP (eI .i64) (eI .i64)))])) rfl rfl (fun m hm=>lI n ([(1000001,0)]) (some ⟨b10,0,none⟩) 1 _ h86 m hm.dh (hm.rd (k:=0) rfl (.rd _ _ _ _ _)) (hm.gS (k:=0) rfl)) fun _=>rfl) gn rfl ?_;rintro⟨a22,c3,n13⟩;refine Wo.jv (k:=0) (xs:=l16) rfl ?_;rintro rfl;refine Wo.od (U rfl) rfl<|Wo.od (bt rfl rfl) rfl<|Wo.od (bt rfl rfl) rfl<|Wo.od (ah rfl) rfl<|Wo.od (ah rfl) rfl<|Wo.nil<|At.tn<|Wk.seq<|Wk.region<|Wo.x (e6 (es:=([0,0,1,1,3,3,2,2]:List (Int)).map (eI .i64)) dY rfl (fa dY z3 rfl rfl) rfl rfl) gn rfl fun b11=>?_;obtain⟨l14,h87,hF⟩:=J hF;refine Wo.x (aM rfl rfl (fun m hm=>gF n ([0,0,1,1,3,3,2,2]) (some ⟨b11,0,none⟩) 8 _ h87 m (hm.rd (k:=0) rfl (.arr _ _ _ _ _))) fun _=>rfl) gn rfl ?_;rintro⟨a16,n14⟩;refine Wo.len (k:=0) (xs:=l14) rfl ?_;rintro rfl;obtain⟨⟨l17,r4⟩,h88,hF⟩:=J hF;refine Wo.eF (ab.freeze (k:=0) rfl)<|Wo.x (ov (N:=(fun x:Option Addr × Nat × Nat=>[.rd x.1 x.2.1 2 x.2.2 (l17.map (eP (eI .i64) (eI .i64)))])) rfl rfl (fun m hm=>lI n l14 a16 l14.length _ h88 m hm.dh (hm.rd (k:=0) rfl (.rd _ _ _ _ _)) (hm.gS (k:=0) rfl)) fun _=>rfl) gn rfl ?_;rintro⟨a23,c4,n15⟩;refine Wo.jv (k:=0) (xs:=l17) rfl ?_;rintro rfl;refine Wo.od (U rfl) rfl<|Wo.od (bt rfl rfl) rfl<|Wo.od (bt rfl rfl) rfl<|Wo.od (ah rfl) rfl<|Wo.od (ah rfl) rfl<|Wo.nil<|At.tn<|Wk.seq<|Wk.region ?_;obtain⟨⟨l18,r5⟩,h89,hF⟩:=J hF;refine Wo.x (ov (N:=(fun x:Option Addr × Nat × Nat=>[.rd x.1 x.2.1 2 x.2.2 (l18.map (eP (eI .i64) (eI .i64)))])) rfl rfl (fun m hm=>lI n [] none 0 _ h89 m hm.dh (Rd.nil _ _) wb) fun _=>rfl) gn rfl ?_;rintro⟨a24,c5,n16⟩;refine Wo.jv (k:=0) (xs:=l18) rfl ?_;rintro rfl;refine Wo.od (U rfl) rfl<|Wo.od (bt rfl rfl) rfl<|Wo.od (bt rfl rfl) rfl<|Wo.od (ah rfl) rfl<|Wo.od (ah rfl) rfl<|Wo.nil<|At.tn<|Wk.seq<|Wk.region<|Wo.od (ah rfl) rfl<|Wo.nil<|At.tn<|Wk.seq<|Wk.seq<|Wk.region<|Wo.od (U rfl) rfl<|Wo.nil<|At.tn<|Wk.block ?_;obtain⟨l3,h42,hF⟩:=J hF;refine Wk.cut (G:=(fun(r:List (Int × Int)) (g:Option Addr)=>match r,g with|l3,a2=>⟨(.exit 2),[(2,.slice a1 ((l1++[(0,2000)]).length) ((l1++[(0,2000)]).length)),(7,.bool v0),(8,.bool v1),(10,.int .i64 r0),(12,.int .i64 r1),(14,.int .i64 r2),(16,.int .i64 r3),(18,.int .i64 r4),(20,.int .i64 r5),(21,.slice a2 l3.length l3.length)],[.sl a1 2 ((l1++[(0,2000)]).length) ((l1++[(0,2000)]).map (eP (eI .i64) (eI .i64))),.sl a2 2 l3.length (l3.map (eP (eI .i64) (eI .i64)))]⟩) l3) ?_ ?_
     ·refine Wk.db (fs':=[(2,.slice a1 ((l1++[(0,2000)]).length) ((l1++[(0,2000)]).length)),(7,.bool v0),(8,.bool v1),(10,.int .i64 r0),(12,.int .i64 r1),(14,.int .i64 r2),(16,.int .i64 r3),(18,.int .i64 r4),(20,.int .i64 r5),(21,.slice none ([]:List (Int × Int)).length ([]:List (Int × Int)).length),(184,.int .i64 0)]) (ps':=[.sl a1 2 ((l1++[(0,2000)]).length) ((l1++[(0,2000)]).map (eP (eI .i64) (eI .i64))),.sl none 2 ([]:List (Int × Int)).length (([]:List (Int × Int)).map (eP (eI .i64) (eI .i64)))]) (sc rfl (sc rfl (sc rfl (sc rfl (sc rfl (sc rfl (sc rfl (sc rfl (sc rfl (sc rfl (sc rfl sn))))))))))) (ab.trans (ab.nil 2 rfl) (ab.aa [10,0] rfl rfl)) ?_;refine Wk.loop (σ:=List (Int × Int) × Int) (ρ:=List (Int × Int)) (γ:=Option Addr) (δ:=fun _=>Option Addr) _ (fun(s:List (Int × Int) × Int) (g:Option Addr)=>match s,g with | (l7,v3),a7=>⟨.normal,[(2,.slice a1 ((l1++[(0,2000)]).length) ((l1++[(0,2000)]).length)),(7,.bool v0),(8,.bool v1),(10,.int .i64 r0),(12,.int .i64 r1),(14,.int .i64 r2),(16,.int .i64 r3),(18,.int .i64 r4),(20,.int .i64 r5),(21,.slice a7 l7.length l7.length),(184,.int .i64 v3)],[.sl a1 2 ((l1++[(0,2000)]).length) ((l1++[(0,2000)]).map (eP (eI .i64) (eI .i64))),.sl a7 2 l7.length (l7.map (eP (eI .i64) (eI .i64)))]⟩) (fun(r:List (Int × Int)) (g:Option Addr)=>match r,g with|l3,a2=>⟨(.exit 2),[(2,.slice a1 ((l1++[(0,2000)]).length) ((l1++[(0,2000)]).length)),(7,.bool v0),(8,.bool v1),(10,.int .i64 r0),(12,.int .i64 r1),(14,.int .i64 r2),(16,.int .i64 r3),(18,.int .i64 r4),(20,.int .i64 r5),(21,.slice a2 l3.length l3.length)],[.sl a1 2 ((l1++[(0,2000)]).length) ((l1++[(0,2000)]).map (eP (eI .i64) (eI .i64))),.sl a2 2 l3.length (l3.map (eP (eI .i64) (eI .i64)))]⟩) ?_ (fun _ _=>rfl) (fun r d=>by intro e; cases e) _ _ _ h42 none
      clear hF h42;rintro⟨l7,v3⟩ a7 r hF;unfold BU at hF;refine Wk.seq<|Wk.region<|Wo.od (aj rfl rfl (aA _ _ _)) rfl<|Wo.nil<|At.tn<|Wk.seq ?_;rcases ae hF with⟨h43,hF⟩|⟨h43,hF⟩
      ·refine Wk.ar rfl h43<|Wk.skip<|At.tn<|Wk.seq<|Wk.block<|Wk.seq<|Wk.region<|Wo.od (U rfl) rfl<|Wo.od (ah rfl) rfl<|Wo.nil<|At.tn<|Wk.region<|Wo.od (U rfl) rfl<|Wo.od (U rfl) rfl<|Wo.od (U rfl) rfl<|Wo.od (U rfl) rfl<|Wo.od (aj rfl rfl (bW _ _ _)) rfl<|Wo.od (cr rfl z33 rfl (cm gC rfl rfl rfl)) rfl<|Wo.x (e6 (es:=([(v3,IntKind.wrap .i64 (v3*v3))]:List (Int × Int)).map (eP (eI .i64) (eI .i64))) ij rfl (fa ij z33 rfl rfl) rfl rfl) gn rfl fun b15=>?_;obtain⟨h90,hF⟩:=ai hF;refine Wo.x (lU (k:=2) (k2:=0) (xs:=(l7:List (Int × Int))) (ys:=([(v3,IntKind.wrap .i64 (v3*v3))]:List (Int × Int))) (vu (mq .i64) (mq .i64)) ij ⟨_,mz⟩ rfl rfl rfl (.arr _ _ _ _ _) h90) gn rfl fun a17=>?_;refine Wo.od (ah rfl) rfl<|Wo.nil<|At.bn<|At.tn<|Wk.region<|Wo.od (aj rfl rfl (ay _ _ _)) rfl<|Wo.od (U rfl) rfl<|Wo.nil ?_;cases hF;exact At.en a17 rfl (sc rfl (sc rfl (sc rfl (sc rfl (sc rfl (sc rfl (sc rfl (sc rfl (sc rfl (sc rfl (sc rfl sn))))))))))) (ab.aa [1,2] rfl rfl)
      ·refine Wk.au rfl h43<|Wk.exit<|At.te ?_;cases hF;exact At.en a7 rfl (sc rfl (sc rfl (sc rfl (sc rfl (sc rfl (sc rfl (sc rfl (sc rfl (sc rfl (sc rfl sn)))))))))) (ab.aa [0,1] rfl rfl)
     ·clear h42;rintro a2;refine At.be<|At.tn<|Wk.seq<|Wk.region<|Wo.od (U rfl) rfl ?_;obtain⟨⟨l19,r30⟩,h91,hF⟩:=J hF;refine Wo.eF (ab.freeze (k:=1) rfl)<|Wo.x (ov (N:=(fun x:Option Addr × Nat × Nat=>[.rd x.1 x.2.1 2 x.2.2 (l19.map (eP (eI .i64) (eI .i64)))])) rfl rfl (fun m hm=>lI n l3 a2 l3.length _ h91 m hm.dh (hm.rd (k:=1) rfl (.rd _ _ _ _ _)) (hm.gS (k:=1) rfl)) fun _=>rfl) gn rfl ?_;rintro⟨a25,c6,n17⟩;refine Wo.jv (k:=0) (xs:=l19) rfl ?_;rintro rfl;refine Wo.od (U rfl) rfl<|Wo.od (bt rfl rfl) rfl<|Wo.od (bt rfl rfl) rfl<|Wo.od (ah rfl) rfl<|Wo.od (ah rfl) rfl<|Wo.nil<|At.tn<|Wk.seq<|Wk.region<|Wo.od (U rfl) rfl ?_;obtain⟨h92,hF⟩:=ai hF;refine Wo.x (uY (k:=2) (lo:=0) (hi:=40) ij rfl rfl rfl rfl h92 (.inl ⟨rfl,rfl⟩) (.inr ⟨_,rfl⟩)) gn rfl ?_;rintro⟨a18,c0⟩;obtain⟨⟨l20,r31⟩,h93,hF⟩:=J hF;refine Wo.x (ov (N:=(fun x:Option Addr × Nat × Nat=>[.rd x.1 x.2.1 2 x.2.2 (l20.map (eP (eI .i64) (eI .i64)))])) rfl rfl (fun m hm=>lI n ((l3.drop (0:Int).toNat).take ((40:Int).toNat-(0:Int).toNat)) a18 c0 _ h93 m hm.dh (hm.rd (k:=0) rfl (.rd _ _ _ _ _)) (hm.gS (k:=0) rfl)) fun _=>rfl) gn rfl ?_;rintro⟨a26,c7,n18⟩;refine Wo.jv (k:=0) (xs:=l20) rfl ?_;rintro rfl;refine Wo.od (U rfl) rfl<|Wo.od (bt rfl rfl) rfl<|Wo.od (bt rfl rfl) rfl<|Wo.od (ah rfl) rfl<|Wo.od (ah rfl) rfl<|Wo.nil<|At.tn<|Wk.seq<|Wk.region<|Wo.od (cr rfl z33 rfl (cm gC rfl rfl rfl)) rfl<|Wo.od (cr rfl z33 rfl (cm gC rfl rfl rfl)) rfl<|Wo.od (cr rfl z33 rfl (cm gC rfl rfl rfl)) rfl<|Wo.od (cr rfl z33 rfl (cm gC rfl rfl rfl)) rfl ?_;obtain⟨⟨r32,r33⟩,h94,hF⟩:=J hF;refine Wo.x (aM rfl rfl (fun m hm=>tU n 0 0 0 0 0 0 1 0  _ h94 m) fun _=>rfl) gn rfl ?_;rintro⟨⟩;refine Wo.od (U rfl) rfl<|Wo.od (bt rfl rfl) rfl<|Wo.od (bt rfl rfl) rfl<|Wo.od (ah rfl) rfl<|Wo.od (ah rfl) rfl<|Wo.nil<|At.tn<|Wk.seq<|Wk.region<|Wo.od (cr rfl z33 rfl (cm gC rfl rfl rfl)) rfl<|Wo.od (cr rfl z33 rfl (cm gC rfl rfl rfl)) rfl<|Wo.od (cr rfl z33 rfl (cm gC rfl rfl rfl)) rfl<|Wo.od (cr rfl z33 rfl (cm gC rfl rfl rfl)) rfl ?_;obtain⟨⟨r34,r35⟩,h95,hF⟩:=J hF;refine Wo.x (aM rfl rfl (fun m hm=>tU n 0 0 1 0 0 1000001 0 0  _ h95 m) fun _=>rfl) gn rfl ?_;rintro⟨⟩;refine Wo.od (U rfl) rfl<|Wo.od (bt rfl rfl) rfl<|Wo.od (bt rfl rfl) rfl<|Wo.od (ah rfl) rfl<|Wo.od (ah rfl) rfl<|Wo.nil<|At.tn<|Wk.seq<|Wk.region<|Wo.od (U rfl) rfl ?_;obtain⟨h96,hF⟩:=ai hF;refine Wo.eF (ab.freeze (k:=3) rfl)<|Wo.x (uY (k:=3) (lo:=0) (hi:=2) iB rfl rfl rfl rfl h96 (.inl ⟨rfl,rfl⟩) (.inr ⟨_,rfl⟩)) gn rfl ?_;rintro⟨a19,c1⟩;obtain⟨⟨l21,r36⟩,h97,hF⟩:=J hF;refine Wo.x (aM rfl rfl (fun m hm=>yT n (((l1++[(0,2000)]).drop (0:Int).toNat).take ((2:Int).toNat-(0:Int).toNat)) a19 c1 _ h97 m (hm.rd (k:=0) rfl (.rd _ _ _ _ _))) fun _=>rfl) gn rfl ?_;rintro⟨a27,n19⟩;refine Wo.len (k:=0) (xs:=l21) rfl ?_;rintro rfl;refine Wo.od (U rfl) rfl<|Wo.od (bt rfl rfl) rfl<|Wo.od (bt rfl rfl) rfl<|Wo.od (ah rfl) rfl<|Wo.od (ah rfl) rfl<|Wo.nil<|At.tn<|Wk.seq ?_;obtain⟨v4,h98,hF⟩:=J hF;refine Wk.cut (G:=(fun(r:Bool) (g:Unit)=>match r,g with|v4,_=>⟨.normal,[(7,.bool v0),(8,.bool v1),(33,.bool v4)],[]⟩) v4) ?_ ?_
      ·clear hF;revert v4;intro r hF;refine Wk.region<|Wo.od (U rfl) rfl<|Wo.od (aj rfl rfl (aZ _ _ _)) rfl<|Wo.od (U rfl) rfl ?_;rcases ae hF with⟨h21,hF⟩|⟨h21,hF⟩
       ·refine Wo.og (U rfl) (gg rfl rfl (aR h21)) rfl<|Wo.og (aj rfl rfl (aZ _ _ _)) (gg rfl rfl (aR h21)) rfl<|Wo.od (bm rfl h21 rfl) rfl<|Wo.od (U rfl) rfl ?_;rcases ae hF with⟨h22,hF⟩|⟨h22,hF⟩
        ·refine Wo.og (U rfl) (gg rfl rfl (aR h22)) rfl<|Wo.og (aj rfl rfl (aZ _ _ _)) (gg rfl rfl (aR h22)) rfl<|Wo.od (bm rfl h22 rfl) rfl<|Wo.od (U rfl) rfl ?_;rcases ae hF with⟨h23,hF⟩|⟨h23,hF⟩
         ·refine Wo.og (U rfl) (gg rfl rfl (aR h23)) rfl<|Wo.og (aj rfl rfl (aZ _ _ _)) (gg rfl rfl (aR h23)) rfl<|Wo.od (bm rfl h23 rfl) rfl<|Wo.od (U rfl) rfl ?_;rcases ae hF with⟨h24,hF⟩|⟨h24,hF⟩
          ·refine Wo.og (U rfl) (gg rfl rfl (aR h24)) rfl<|Wo.og (aj rfl rfl (aZ _ _ _)) (gg rfl rfl (aR h24)) rfl<|Wo.od (bm rfl h24 rfl) rfl<|Wo.od (U rfl) rfl ?_;rcases ae hF with⟨h25,hF⟩|⟨h25,hF⟩
           ·refine Wo.og (U rfl) (gg rfl rfl (aR h25)) rfl<|Wo.og (aj rfl rfl (aZ _ _ _)) (gg rfl rfl (aR h25)) rfl<|Wo.od (bm rfl h25 rfl) rfl<|Wo.od (U rfl) rfl ?_;rcases ae hF with⟨h26,hF⟩|⟨h26,hF⟩
            ·refine Wo.og (U rfl) (gg rfl rfl (aR h26)) rfl<|Wo.og (aj rfl rfl (aZ _ _ _)) (gg rfl rfl (aR h26)) rfl<|Wo.od (bm rfl h26 rfl) rfl<|Wo.od (U rfl) rfl ?_;rcases ae hF with⟨h27,hF⟩|⟨h27,hF⟩
             ·refine Wo.og (U rfl) (gg rfl rfl (aR h27)) rfl<|Wo.og (aj rfl rfl (aZ _ _ _)) (gg rfl rfl (aR h27)) rfl<|Wo.od (bm rfl h27 rfl) rfl<|Wo.od (U rfl) rfl ?_;rcases ae hF with⟨h6,hF⟩|⟨h6,hF⟩
              ·refine Wo.og (U rfl) (gg rfl rfl (aR h6)) rfl<|Wo.og (bE (k:=2) lK rfl rfl (.inl rfl)) (gg rfl rfl (aR h6)) rfl<|Wo.og (aj rfl rfl (aZ _ _ _)) (gg rfl rfl (aR h6)) rfl<|Wo.od (bm rfl h6 rfl) rfl<|Wo.od (U rfl) rfl ?_;rcases ae hF with⟨h28,hF⟩|⟨h28,hF⟩
               ·refine Wo.og (U rfl) (gg rfl rfl (aR h28)) rfl<|Wo.og (aj rfl rfl (aZ _ _ _)) (gg rfl rfl (aR h28)) rfl<|Wo.od (bm rfl h28 rfl) rfl<|Wo.od (U rfl) rfl ?_;rcases ae hF with⟨h29,hF⟩|⟨h29,hF⟩
                ·refine Wo.og (U rfl) (gg rfl rfl (aR h29)) rfl<|Wo.og (aj rfl rfl (aZ _ _ _)) (gg rfl rfl (aR h29)) rfl<|Wo.od (bm rfl h29 rfl) rfl<|Wo.od (U rfl) rfl ?_;rcases ae hF with⟨h7,hF⟩|⟨h7,hF⟩
                 ·refine Wo.og (U rfl) (gg rfl rfl (aR h7)) rfl<|Wo.og (bE (k:=0) uV rfl rfl (.inl rfl)) (gg rfl rfl (aR h7)) rfl<|Wo.og (aj rfl rfl (aZ _ _ _)) (gg rfl rfl (aR h7)) rfl<|Wo.od (bm rfl h7 rfl) rfl<|Wo.od (U rfl) rfl ?_;rcases ae hF with⟨h30,hF⟩|⟨h30,hF⟩
                  ·refine Wo.og (U rfl) (gg rfl rfl (aR h30)) rfl<|Wo.og (aj rfl rfl (aZ _ _ _)) (gg rfl rfl (aR h30)) rfl<|Wo.od (bm rfl h30 rfl) rfl<|Wo.od (ah rfl) rfl<|Wo.nil ?_;cases hF;exact At.en () rfl (sc rfl (sc rfl (sc rfl sn))) (ab.aa [] rfl rfl)
                  ·refine Wo.s (gg rfl rfl (aQ h30)) rfl<|Wo.s (gg rfl rfl (aQ h30)) rfl<|Wo.od (bj rfl h30 rfl) rfl<|Wo.od (ah rfl) rfl<|Wo.nil ?_;cases hF;exact At.en () rfl (sc rfl (sc rfl (sc rfl sn))) (ab.aa [] rfl rfl)
                 ·refine Wo.s (gg rfl rfl (aQ h7)) rfl<|Wo.s (gg rfl rfl (aQ h7)) rfl<|Wo.s (gg rfl rfl (aQ h7)) rfl<|Wo.od (bj rfl h7 rfl) rfl<|Wo.od (U rfl) rfl<|Wo.s (gg rfl rfl rfl) rfl<|Wo.s (gg rfl rfl rfl) rfl<|Wo.od (ax rfl rfl) rfl<|Wo.od (ah rfl) rfl<|Wo.nil ?_;cases hF;exact At.en () rfl (sc rfl (sc rfl (sc rfl sn))) (ab.aa [] rfl rfl)
                ·refine Wo.s (gg rfl rfl (aQ h29)) rfl<|Wo.s (gg rfl rfl (aQ h29)) rfl<|Wo.od (bj rfl h29 rfl) rfl<|Wo.od (U rfl) rfl<|Wo.s (gg rfl rfl rfl) rfl<|Wo.s (gg rfl rfl rfl) rfl<|Wo.s (gg rfl rfl rfl) rfl<|Wo.od (ax rfl rfl) rfl<|Wo.od (U rfl) rfl<|Wo.s (gg rfl rfl rfl) rfl ?_;refine Wo.s (gg rfl rfl rfl) rfl<|Wo.od (ax rfl rfl) rfl<|Wo.od (ah rfl) rfl<|Wo.nil ?_;cases hF;exact At.en () rfl (sc rfl (sc rfl (sc rfl sn))) (ab.aa [] rfl rfl)
               ·refine Wo.s (gg rfl rfl (aQ h28)) rfl<|Wo.s (gg rfl rfl (aQ h28)) rfl<|Wo.od (bj rfl h28 rfl) rfl<|Wo.od (U rfl) rfl<|Wo.s (gg rfl rfl rfl) rfl<|Wo.s (gg rfl rfl rfl) rfl<|Wo.od (ax rfl rfl) rfl<|Wo.od (U rfl) rfl<|Wo.s (gg rfl rfl rfl) rfl<|Wo.s (gg rfl rfl rfl) rfl ?_;refine Wo.s (gg rfl rfl rfl) rfl<|Wo.od (ax rfl rfl) rfl<|Wo.od (U rfl) rfl<|Wo.s (gg rfl rfl rfl) rfl<|Wo.s (gg rfl rfl rfl) rfl<|Wo.od (ax rfl rfl) rfl<|Wo.od (ah rfl) rfl<|Wo.nil ?_;cases hF;exact At.en () rfl (sc rfl (sc rfl (sc rfl sn))) (ab.aa [] rfl rfl)
              ·refine Wo.s (gg rfl rfl (aQ h6)) rfl<|Wo.s (gg rfl rfl (aQ h6)) rfl<|Wo.s (gg rfl rfl (aQ h6)) rfl<|Wo.od (bj rfl h6 rfl) rfl<|Wo.od (U rfl) rfl<|Wo.s (gg rfl rfl rfl) rfl<|Wo.s (gg rfl rfl rfl) rfl<|Wo.od (ax rfl rfl) rfl<|Wo.od (U rfl) rfl<|Wo.s (gg rfl rfl rfl) rfl ?_;refine Wo.s (gg rfl rfl rfl) rfl<|Wo.od (ax rfl rfl) rfl<|Wo.od (U rfl) rfl<|Wo.s (gg rfl rfl rfl) rfl<|Wo.s (gg rfl rfl rfl) rfl<|Wo.s (gg rfl rfl rfl) rfl<|Wo.od (ax rfl rfl) rfl<|Wo.od (U rfl) rfl<|Wo.s (gg rfl rfl rfl) rfl<|Wo.s (gg rfl rfl rfl) rfl ?_;refine Wo.od (ax rfl rfl) rfl<|Wo.od (ah rfl) rfl<|Wo.nil ?_;cases hF;exact At.en () rfl (sc rfl (sc rfl (sc rfl sn))) (ab.aa [] rfl rfl)
             ·refine Wo.s (gg rfl rfl (aQ h27)) rfl<|Wo.s (gg rfl rfl (aQ h27)) rfl<|Wo.od (bj rfl h27 rfl) rfl<|Wo.od (U rfl) rfl<|Wo.s (gg rfl rfl rfl) rfl<|Wo.s (gg rfl rfl rfl) rfl<|Wo.s (gg rfl rfl rfl) rfl<|Wo.od (ax rfl rfl) rfl<|Wo.od (U rfl) rfl<|Wo.s (gg rfl rfl rfl) rfl ?_;refine Wo.s (gg rfl rfl rfl) rfl<|Wo.od (ax rfl rfl) rfl<|Wo.od (U rfl) rfl<|Wo.s (gg rfl rfl rfl) rfl<|Wo.s (gg rfl rfl rfl) rfl<|Wo.od (ax rfl rfl) rfl<|Wo.od (U rfl) rfl<|Wo.s (gg rfl rfl rfl) rfl<|Wo.s (gg rfl rfl rfl) rfl<|Wo.s (gg rfl rfl rfl) rfl ?_;refine Wo.od (ax rfl rfl) rfl<|Wo.od (U rfl) rfl<|Wo.s (gg rfl rfl rfl) rfl<|Wo.s (gg rfl rfl rfl) rfl<|Wo.od (ax rfl rfl) rfl<|Wo.od (ah rfl) rfl<|Wo.nil ?_;cases hF;exact At.en () rfl (sc rfl (sc rfl (sc rfl sn))) (ab.aa [] rfl rfl)
            ·refine Wo.s (gg rfl rfl (aQ h26)) rfl<|Wo.s (gg rfl rfl (aQ h26)) rfl<|Wo.od (bj rfl h26 rfl) rfl<|Wo.od (U rfl) rfl<|Wo.s (gg rfl rfl rfl) rfl<|Wo.s (gg rfl rfl rfl) rfl<|Wo.od (ax rfl rfl) rfl<|Wo.od (U rfl) rfl<|Wo.s (gg rfl rfl rfl) rfl<|Wo.s (gg rfl rfl rfl) rfl ?_;refine Wo.s (gg rfl rfl rfl) rfl<|Wo.od (ax rfl rfl) rfl<|Wo.od (U rfl) rfl<|Wo.s (gg rfl rfl rfl) rfl<|Wo.s (gg rfl rfl rfl) rfl<|Wo.od (ax rfl rfl) rfl<|Wo.od (U rfl) rfl<|Wo.s (gg rfl rfl rfl) rfl<|Wo.s (gg rfl rfl rfl) rfl<|Wo.od (ax rfl rfl) rfl ?_;refine Wo.od (U rfl) rfl<|Wo.s (gg rfl rfl rfl) rfl<|Wo.s (gg rfl rfl rfl) rfl<|Wo.s (gg rfl rfl rfl) rfl<|Wo.od (ax rfl rfl) rfl<|Wo.od (U rfl) rfl<|Wo.s (gg rfl rfl rfl) rfl<|Wo.s (gg rfl rfl rfl) rfl<|Wo.od (ax rfl rfl) rfl<|Wo.od (ah rfl) rfl ?_;refine Wo.nil ?_;cases hF;exact At.en () rfl (sc rfl (sc rfl (sc rfl sn))) (ab.aa [] rfl rfl)
           ·refine Wo.s (gg rfl rfl (aQ h25)) rfl<|Wo.s (gg rfl rfl (aQ h25)) rfl<|Wo.od (bj rfl h25 rfl) rfl<|Wo.od (U rfl) rfl<|Wo.s (gg rfl rfl rfl) rfl<|Wo.s (gg rfl rfl rfl) rfl<|Wo.od (ax rfl rfl) rfl<|Wo.od (U rfl) rfl<|Wo.s (gg rfl rfl rfl) rfl<|Wo.s (gg rfl rfl rfl) rfl ?_;refine Wo.od (ax rfl rfl) rfl<|Wo.od (U rfl) rfl<|Wo.s (gg rfl rfl rfl) rfl<|Wo.s (gg rfl rfl rfl) rfl<|Wo.s (gg rfl rfl rfl) rfl<|Wo.od (ax rfl rfl) rfl<|Wo.od (U rfl) rfl<|Wo.s (gg rfl rfl rfl) rfl<|Wo.s (gg rfl rfl rfl) rfl<|Wo.od (ax rfl rfl) rfl ?_;refine Wo.od (U rfl) rfl<|Wo.s (gg rfl rfl rfl) rfl<|Wo.s (gg rfl rfl rfl) rfl<|Wo.od (ax rfl rfl) rfl<|Wo.od (U rfl) rfl<|Wo.s (gg rfl rfl rfl) rfl<|Wo.s (gg rfl rfl rfl) rfl<|Wo.s (gg rfl rfl rfl) rfl<|Wo.od (ax rfl rfl) rfl<|Wo.od (U rfl) rfl ?_;refine Wo.s (gg rfl rfl rfl) rfl<|Wo.s (gg rfl rfl rfl) rfl<|Wo.od (ax rfl rfl) rfl<|Wo.od (ah rfl) rfl<|Wo.nil ?_;cases hF;exact At.en () rfl (sc rfl (sc rfl (sc rfl sn))) (ab.aa [] rfl rfl)
          ·refine Wo.s (gg rfl rfl (aQ h24)) rfl<|Wo.s (gg rfl rfl (aQ h24)) rfl<|Wo.od (bj rfl h24 rfl) rfl<|Wo.od (U rfl) rfl<|Wo.s (gg rfl rfl rfl) rfl<|Wo.s (gg rfl rfl rfl) rfl<|Wo.od (ax rfl rfl) rfl<|Wo.od (U rfl) rfl<|Wo.s (gg rfl rfl rfl) rfl<|Wo.s (gg rfl rfl rfl) rfl ?_;refine Wo.od (ax rfl rfl) rfl<|Wo.od (U rfl) rfl<|Wo.s (gg rfl rfl rfl) rfl<|Wo.s (gg rfl rfl rfl) rfl<|Wo.od (ax rfl rfl) rfl<|Wo.od (U rfl) rfl<|Wo.s (gg rfl rfl rfl) rfl<|Wo.s (gg rfl rfl rfl) rfl<|Wo.s (gg rfl rfl rfl) rfl<|Wo.od (ax rfl rfl) rfl ?_;refine Wo.od (U rfl) rfl<|Wo.s (gg rfl rfl rfl) rfl<|Wo.s (gg rfl rfl rfl) rfl<|Wo.od (ax rfl rfl) rfl<|Wo.od (U rfl) rfl<|Wo.s (gg rfl rfl rfl) rfl<|Wo.s (gg rfl rfl rfl) rfl<|Wo.od (ax rfl rfl) rfl<|Wo.od (U rfl) rfl<|Wo.s (gg rfl rfl rfl) rfl ?_;refine Wo.s (gg rfl rfl rfl) rfl<|Wo.s (gg rfl rfl rfl) rfl<|Wo.od (ax rfl rfl) rfl<|Wo.od (U rfl) rfl<|Wo.s (gg rfl rfl rfl) rfl<|Wo.s (gg rfl rfl rfl) rfl<|Wo.od (ax rfl rfl) rfl<|Wo.od (ah rfl) rfl<|Wo.nil ?_;cases hF;exact At.en () rfl (sc rfl (sc rfl (sc rfl sn))) (ab.aa [] rfl rfl)
         ·refine Wo.s (gg rfl rfl (aQ h23)) rfl<|Wo.s (gg rfl rfl (aQ h23)) rfl<|Wo.od (bj rfl h23 rfl) rfl<|Wo.od (U rfl) rfl<|Wo.s (gg rfl rfl rfl) rfl<|Wo.s (gg rfl rfl rfl) rfl<|Wo.od (ax rfl rfl) rfl<|Wo.od (U rfl) rfl<|Wo.s (gg rfl rfl rfl) rfl<|Wo.s (gg rfl rfl rfl) rfl ?_;refine Wo.od (ax rfl rfl) rfl<|Wo.od (U rfl) rfl<|Wo.s (gg rfl rfl rfl) rfl<|Wo.s (gg rfl rfl rfl) rfl<|Wo.od (ax rfl rfl) rfl<|Wo.od (U rfl) rfl<|Wo.s (gg rfl rfl rfl) rfl<|Wo.s (gg rfl rfl rfl) rfl<|Wo.od (ax rfl rfl) rfl<|Wo.od (U rfl) rfl ?_;refine Wo.s (gg rfl rfl rfl) rfl<|Wo.s (gg rfl rfl rfl) rfl<|Wo.s (gg rfl rfl rfl) rfl<|Wo.od (ax rfl rfl) rfl<|Wo.od (U rfl) rfl<|Wo.s (gg rfl rfl rfl) rfl<|Wo.s (gg rfl rfl rfl) rfl<|Wo.od (ax rfl rfl) rfl<|Wo.od (U rfl) rfl<|Wo.s (gg rfl rfl rfl) rfl ?_;refine Wo.s (gg rfl rfl rfl) rfl<|Wo.od (ax rfl rfl) rfl<|Wo.od (U rfl) rfl<|Wo.s (gg rfl rfl rfl) rfl<|Wo.s (gg rfl rfl rfl) rfl<|Wo.s (gg rfl rfl rfl) rfl<|Wo.od (ax rfl rfl) rfl<|Wo.od (U rfl) rfl<|Wo.s (gg rfl rfl rfl) rfl<|Wo.s (gg rfl rfl rfl) rfl ?_;refine Wo.od (ax rfl rfl) rfl<|Wo.od (ah rfl) rfl<|Wo.nil ?_;cases hF;exact At.en () rfl (sc rfl (sc rfl (sc rfl sn))) (ab.aa [] rfl rfl)
        ·refine Wo.s (gg rfl rfl (aQ h22)) rfl<|Wo.s (gg rfl rfl (aQ h22)) rfl<|Wo.od (bj rfl h22 rfl) rfl<|Wo.od (U rfl) rfl<|Wo.s (gg rfl rfl rfl) rfl<|Wo.s (gg rfl rfl rfl) rfl<|Wo.od (ax rfl rfl) rfl<|Wo.od (U rfl) rfl<|Wo.s (gg rfl rfl rfl) rfl<|Wo.s (gg rfl rfl rfl) rfl ?_;refine Wo.od (ax rfl rfl) rfl<|Wo.od (U rfl) rfl<|Wo.s (gg rfl rfl rfl) rfl<|Wo.s (gg rfl rfl rfl) rfl<|Wo.od (ax rfl rfl) rfl<|Wo.od (U rfl) rfl<|Wo.s (gg rfl rfl rfl) rfl<|Wo.s (gg rfl rfl rfl) rfl<|Wo.od (ax rfl rfl) rfl<|Wo.od (U rfl) rfl ?_;refine Wo.s (gg rfl rfl rfl) rfl<|Wo.s (gg rfl rfl rfl) rfl<|Wo.od (ax rfl rfl) rfl<|Wo.od (U rfl) rfl<|Wo.s (gg rfl rfl rfl) rfl<|Wo.s (gg rfl rfl rfl) rfl<|Wo.s (gg rfl rfl rfl) rfl<|Wo.od (ax rfl rfl) rfl<|Wo.od (U rfl) rfl<|Wo.s (gg rfl rfl rfl) rfl ?_;refine Wo.s (gg rfl rfl rfl) rfl<|Wo.od (ax rfl rfl) rfl<|Wo.od (U rfl) rfl<|Wo.s (gg rfl rfl rfl) rfl<|Wo.s (gg rfl rfl rfl) rfl<|Wo.od (ax rfl rfl) rfl<|Wo.od (U rfl) rfl<|Wo.s (gg rfl rfl rfl) rfl<|Wo.s (gg rfl rfl rfl) rfl<|Wo.s (gg rfl rfl rfl) rfl ?_;refine Wo.od (ax rfl rfl) rfl<|Wo.od (U rfl) rfl<|Wo.s (gg rfl rfl rfl) rfl<|Wo.s (gg rfl rfl rfl) rfl<|Wo.od (ax rfl rfl) rfl<|Wo.od (ah rfl) rfl<|Wo.nil ?_;cases hF;exact At.en () rfl (sc rfl (sc rfl (sc rfl sn))) (ab.aa [] rfl rfl)
       ·refine Wo.s (gg rfl rfl (aQ h21)) rfl<|Wo.s (gg rfl rfl (aQ h21)) rfl<|Wo.od (bj rfl h21 rfl) rfl<|Wo.od (U rfl) rfl<|Wo.s (gg rfl rfl rfl) rfl<|Wo.s (gg rfl rfl rfl) rfl<|Wo.od (ax rfl rfl) rfl<|Wo.od (U rfl) rfl<|Wo.s (gg rfl rfl rfl) rfl<|Wo.s (gg rfl rfl rfl) rfl ?_;refine Wo.od (ax rfl rfl) rfl<|Wo.od (U rfl) rfl<|Wo.s (gg rfl rfl rfl) rfl<|Wo.s (gg rfl rfl rfl) rfl<|Wo.od (ax rfl rfl) rfl<|Wo.od (U rfl) rfl<|Wo.s (gg rfl rfl rfl) rfl<|Wo.s (gg rfl rfl rfl) rfl<|Wo.od (ax rfl rfl) rfl<|Wo.od (U rfl) rfl ?_;refine Wo.s (gg rfl rfl rfl) rfl<|Wo.s (gg rfl rfl rfl) rfl<|Wo.od (ax rfl rfl) rfl<|Wo.od (U rfl) rfl<|Wo.s (gg rfl rfl rfl) rfl<|Wo.s (gg rfl rfl rfl) rfl<|Wo.od (ax rfl rfl) rfl<|Wo.od (U rfl) rfl<|Wo.s (gg rfl rfl rfl) rfl<|Wo.s (gg rfl rfl rfl) rfl ?_;refine Wo.s (gg rfl rfl rfl) rfl<|Wo.od (ax rfl rfl) rfl<|Wo.od (U rfl) rfl<|Wo.s (gg rfl rfl rfl) rfl<|Wo.s (gg rfl rfl rfl) rfl<|Wo.od (ax rfl rfl) rfl<|Wo.od (U rfl) rfl<|Wo.s (gg rfl rfl rfl) rfl<|Wo.s (gg rfl rfl rfl) rfl<|Wo.od (ax rfl rfl) rfl ?_;refine Wo.od (U rfl) rfl<|Wo.s (gg rfl rfl rfl) rfl<|Wo.s (gg rfl rfl rfl) rfl<|Wo.s (gg rfl rfl rfl) rfl<|Wo.od (ax rfl rfl) rfl<|Wo.od (U rfl) rfl<|Wo.s (gg rfl rfl rfl) rfl<|Wo.s (gg rfl rfl rfl) rfl<|Wo.od (ax rfl rfl) rfl<|Wo.od (ah rfl) rfl ?_;refine Wo.nil ?_;cases hF;exact At.en () rfl (sc rfl (sc rfl (sc rfl sn))) (ab.aa [] rfl rfl)
      ·clear h98;rintro⟨⟩;refine At.tn<|Wk.seq<|Wk.region<|Wo.od (U rfl) rfl<|Wo.od (U rfl) rfl ?_;rcases ae hF with⟨h31,hF⟩|⟨h31,hF⟩
       ·refine Wo.og (U rfl) (gg rfl rfl (aR h31)) rfl<|Wo.od (bm rfl h31 rfl) rfl<|Wo.od (U rfl) rfl ?_;rcases ae hF with⟨h32,hF⟩|⟨h32,hF⟩
        ·refine Wo.og (U rfl) (gg rfl rfl (aR h32)) rfl<|Wo.od (bm rfl h32 rfl) rfl<|Wo.od (U rfl) rfl ?_;rcases ae hF with⟨h33,hF⟩|⟨h33,hF⟩
         ·obtain⟨r37,h99,hF⟩:=J hF;refine Wo.x (aM rfl rfl (fun m hm=>lr n 0 0 (-3) 5 1  _ h99 m) fun _=>rfl) (gg rfl rfl (aR h33)) rfl ?_;rintro⟨⟩;refine Wo.od (bm rfl h33 rfl) rfl<|Wo.od (U rfl) rfl ?_;rcases ae hF with⟨h34,hF⟩|⟨h34,hF⟩
          ·obtain⟨r38,h100,hF⟩:=J hF;refine Wo.x (aM rfl rfl (fun m hm=>lr n 4 0 9 0 1  _ h100 m) fun _=>rfl) (gg rfl rfl (aR h34)) rfl ?_;rintro⟨⟩;refine Wo.od (bm rfl h34 rfl) rfl<|Wo.od (U rfl) rfl ?_;rcases ae hF with⟨h35,hF⟩|⟨h35,hF⟩
           ·obtain⟨r39,h101,hF⟩:=J hF;refine Wo.x (aM rfl rfl (fun m hm=>lr n (-5) 0 9 0 3  _ h101 m) fun _=>rfl) (gg rfl rfl (aR h35)) rfl ?_;rintro⟨⟩;refine Wo.od (bm rfl h35 rfl) rfl<|Wo.od (U rfl) rfl ?_;rcases ae hF with⟨h36,hF⟩|⟨h36,hF⟩
            ·obtain⟨r40,h102,hF⟩:=J hF;refine Wo.x (aM rfl rfl (fun m hm=>lr n 1 1 3 1 0  _ h102 m) fun _=>rfl) (gg rfl rfl (aR h36)) rfl ?_;rintro⟨⟩;refine Wo.od (bm rfl h36 rfl) rfl<|Wo.od (U rfl) rfl ?_;rcases ae hF with⟨h37,hF⟩|⟨h37,hF⟩
             ·obtain⟨r41,h103,hF⟩:=J hF;refine Wo.x (aM rfl rfl (fun m hm=>lr n 4 1 4 (-1) 1  _ h103 m) fun _=>rfl) (gg rfl rfl (aR h37)) rfl ?_;rintro⟨⟩;refine Wo.od (bm rfl h37 rfl) rfl<|Wo.od (U rfl) rfl ?_;rcases ae hF with⟨h38,hF⟩|⟨h38,hF⟩
              ·obtain⟨r42,h104,hF⟩:=J hF;refine Wo.x (aM rfl rfl (fun m hm=>lr n 3 1 6 (-5) 2  _ h104 m) fun _=>rfl) (gg rfl rfl (aR h38)) rfl ?_;rintro⟨⟩;refine Wo.od (bm rfl h38 rfl) rfl<|Wo.od (ah rfl) rfl<|Wo.nil<|At.tn<|Wk.ret ?_;have hr:=Option.some.inj hF;subst r;exact At.ret (.tmp rfl .nil) fun m' hm=>⟨(),rfl,(ab.aa [] rfl rfl) m' hm⟩
              ·refine Wo.s (gg rfl rfl (aQ h38)) rfl<|Wo.od (bj rfl h38 rfl) rfl<|Wo.od (ah rfl) rfl<|Wo.nil<|At.tn<|Wk.ret ?_;cases hF;exact At.ret (.tmp rfl .nil) fun m' hm=>⟨(),rfl,(ab.aa [] rfl rfl) m' hm⟩
             ·refine Wo.s (gg rfl rfl (aQ h37)) rfl<|Wo.od (bj rfl h37 rfl) rfl<|Wo.od (U rfl) rfl<|Wo.s (gg rfl rfl rfl) rfl<|Wo.od (ax rfl rfl) rfl<|Wo.od (ah rfl) rfl<|Wo.nil<|At.tn<|Wk.ret ?_;cases hF;exact At.ret (.tmp rfl .nil) fun m' hm=>⟨(),rfl,(ab.aa [] rfl rfl) m' hm⟩
            ·refine Wo.s (gg rfl rfl (aQ h36)) rfl<|Wo.od (bj rfl h36 rfl) rfl<|Wo.od (U rfl) rfl<|Wo.s (gg rfl rfl rfl) rfl<|Wo.od (ax rfl rfl) rfl<|Wo.od (U rfl) rfl<|Wo.s (gg rfl rfl rfl) rfl<|Wo.od (ax rfl rfl) rfl<|Wo.od (ah rfl) rfl<|Wo.nil<|At.tn<|Wk.ret ?_;cases hF;exact At.ret (.tmp rfl .nil) fun m' hm=>⟨(),rfl,(ab.aa [] rfl rfl) m' hm⟩
           ·refine Wo.s (gg rfl rfl (aQ h35)) rfl<|Wo.od (bj rfl h35 rfl) rfl<|Wo.od (U rfl) rfl<|Wo.s (gg rfl rfl rfl) rfl<|Wo.od (ax rfl rfl) rfl<|Wo.od (U rfl) rfl<|Wo.s (gg rfl rfl rfl) rfl<|Wo.od (ax rfl rfl) rfl<|Wo.od (U rfl) rfl<|Wo.s (gg rfl rfl rfl) rfl ?_;refine Wo.od (ax rfl rfl) rfl<|Wo.od (ah rfl) rfl<|Wo.nil<|At.tn<|Wk.ret ?_;cases hF;exact At.ret (.tmp rfl .nil) fun m' hm=>⟨(),rfl,(ab.aa [] rfl rfl) m' hm⟩
          ·refine Wo.s (gg rfl rfl (aQ h34)) rfl<|Wo.od (bj rfl h34 rfl) rfl<|Wo.od (U rfl) rfl<|Wo.s (gg rfl rfl rfl) rfl<|Wo.od (ax rfl rfl) rfl<|Wo.od (U rfl) rfl<|Wo.s (gg rfl rfl rfl) rfl<|Wo.od (ax rfl rfl) rfl<|Wo.od (U rfl) rfl<|Wo.s (gg rfl rfl rfl) rfl ?_;refine Wo.od (ax rfl rfl) rfl<|Wo.od (U rfl) rfl<|Wo.s (gg rfl rfl rfl) rfl<|Wo.od (ax rfl rfl) rfl<|Wo.od (ah rfl) rfl<|Wo.nil<|At.tn<|Wk.ret ?_;cases hF;exact At.ret (.tmp rfl .nil) fun m' hm=>⟨(),rfl,(ab.aa [] rfl rfl) m' hm⟩
         ·refine Wo.s (gg rfl rfl (aQ h33)) rfl<|Wo.od (bj rfl h33 rfl) rfl<|Wo.od (U rfl) rfl<|Wo.s (gg rfl rfl rfl) rfl<|Wo.od (ax rfl rfl) rfl<|Wo.od (U rfl) rfl<|Wo.s (gg rfl rfl rfl) rfl<|Wo.od (ax rfl rfl) rfl<|Wo.od (U rfl) rfl<|Wo.s (gg rfl rfl rfl) rfl ?_;refine Wo.od (ax rfl rfl) rfl<|Wo.od (U rfl) rfl<|Wo.s (gg rfl rfl rfl) rfl<|Wo.od (ax rfl rfl) rfl<|Wo.od (U rfl) rfl<|Wo.s (gg rfl rfl rfl) rfl<|Wo.od (ax rfl rfl) rfl<|Wo.od (ah rfl) rfl<|Wo.nil<|At.tn<|Wk.ret ?_;cases hF;exact At.ret (.tmp rfl .nil) fun m' hm=>⟨(),rfl,(ab.aa [] rfl rfl) m' hm⟩
        ·refine Wo.s (gg rfl rfl (aQ h32)) rfl<|Wo.od (bj rfl h32 rfl) rfl<|Wo.od (U rfl) rfl<|Wo.s (gg rfl rfl rfl) rfl<|Wo.od (ax rfl rfl) rfl<|Wo.od (U rfl) rfl<|Wo.s (gg rfl rfl rfl) rfl<|Wo.od (ax rfl rfl) rfl<|Wo.od (U rfl) rfl<|Wo.s (gg rfl rfl rfl) rfl ?_;refine Wo.od (ax rfl rfl) rfl<|Wo.od (U rfl) rfl<|Wo.s (gg rfl rfl rfl) rfl<|Wo.od (ax rfl rfl) rfl<|Wo.od (U rfl) rfl<|Wo.s (gg rfl rfl rfl) rfl<|Wo.od (ax rfl rfl) rfl<|Wo.od (U rfl) rfl<|Wo.s (gg rfl rfl rfl) rfl<|Wo.od (ax rfl rfl) rfl ?_;refine Wo.od (ah rfl) rfl<|Wo.nil<|At.tn<|Wk.ret ?_;cases hF;exact At.ret (.tmp rfl .nil) fun m' hm=>⟨(),rfl,(ab.aa [] rfl rfl) m' hm⟩
       ·refine Wo.s (gg rfl rfl (aQ h31)) rfl<|Wo.od (bj rfl h31 rfl) rfl<|Wo.od (U rfl) rfl<|Wo.s (gg rfl rfl rfl) rfl<|Wo.od (ax rfl rfl) rfl<|Wo.od (U rfl) rfl<|Wo.s (gg rfl rfl rfl) rfl<|Wo.od (ax rfl rfl) rfl<|Wo.od (U rfl) rfl<|Wo.s (gg rfl rfl rfl) rfl ?_;refine Wo.od (ax rfl rfl) rfl<|Wo.od (U rfl) rfl<|Wo.s (gg rfl rfl rfl) rfl<|Wo.od (ax rfl rfl) rfl<|Wo.od (U rfl) rfl<|Wo.s (gg rfl rfl rfl) rfl<|Wo.od (ax rfl rfl) rfl<|Wo.od (U rfl) rfl<|Wo.s (gg rfl rfl rfl) rfl<|Wo.od (ax rfl rfl) rfl ?_;refine Wo.od (U rfl) rfl<|Wo.s (gg rfl rfl rfl) rfl<|Wo.od (ax rfl rfl) rfl<|Wo.od (ah rfl) rfl<|Wo.nil<|At.tn<|Wk.ret ?_;cases hF;exact At.ret (.tmp rfl .nil) fun m' hm=>⟨(),rfl,(ab.aa [] rfl rfl) m' hm⟩
end Go.Proofs.YthmekkhpddehjaaGreat
end

section
namespace Go.Proofs.YthmekkhpddehjaaGreat
open Go Go.Ab Go.Ab.W Go.Ab.B Jd
theorem Eo {l:List I2} {i:Nat} (h:i<l.length):l[((i:Nat):Int).toNat]? = some ((nx l i).1,(nx l i).2):=by
 rw[Int.toNat_natCast,List.getElem?_eq_getElem h];unfold nx;rw[Nat.mod_eq_of_lt h,List.getD_eq_getElem?_getD,List.getElem?_eq_getElem h]; rfl
section
variable {l : List I2} (n : Nat)
theorem mY (p q:I2):(decide (p.1=q.1) && decide (p.2=q.2))=decide (p=q):=by
 rw[←Bool.decide_and,decide_eq_decide]; exact⟨fun h=>Prod.ext h.1 h.2,fun h=>by subst h; exact⟨rfl,rfl⟩⟩
end
section
variable {l : List I2} (n : Nat)
end
end Go.Proofs.YthmekkhpddehjaaGreat
end

section
namespace Jd
structure Chg (f:I2→I2) (k d:Int):Prop where
 inj:∀{a b},f a=f b→a=b
 ti:∀a b c,ti (f a) (f b) (f c)=k*ti a b c
 di:∀a b c,di (f a) (f b) (f c)=d*di a b c
 kp:k≠0
 dp:0<d
 btw:∀{a b c},Bn (f a) (f b) (f c)↔Bn a b c
section
variable {f : I2 → I2} {k d : Int}
end
def wy (k:Nat):I2:=[(2,0),(2,1),(1,2),(0,2),(-1,2),(-2,1),(-2,0),(-2,-1),(-1,-2),(0,-2),(1,-2),(2,-1)].getD (k%12) (0,0)
def GM (m:Int) (a:I2):I2:=(a.1*m,a.2*m)
structure Star (r:List I2):Prop where
 n3:2<r.length
 dir:∃δ:Nat→Nat,(∀i,δ i < δ (i+1)∧δ (i+1)≤δ i+3)∧(∀i,δ (i+r.length)=δ i+12)∧∀i,∃m:Int,0<m∧nx r i=GM m (wy (δ i))
section
variable {h : Nat → Int} (hp : ∀ i, 1 ≤ h i)
include hp
end
end Jd
end

section
namespace Go.Proofs.YthmekkhpddehjaaGreat
open Go Go.Ab Go.Ab.W Go.Ab.B Jd
structure Ok (l:List I2):Prop where
 len:l.length≤40
 nr:∀i,Nr (nx l i)
 vr:VR l
def num (l:List Nat) (i:Nat):Nat:=if l.length=0 then i%3 else l.getD (i%l.length) 0
section
variable (n : Nat) {l : List Nat} (hb : ∀ x ∈ l, x < 256) (x5 x6 : Int) (x7 : Nat) (x8 x9 : Bool)
include hb
def kp (l:List Nat) (i:Nat):Bool:=!(decide (num l i%6=0) && !decide (i%3=0))
end
end Go.Proofs.YthmekkhpddehjaaGreat
end

section
namespace Jd
def Lt (a b:I2):Prop:=a.1<b.1∨a.1=b.1∧a.2<b.2
instance (a b:I2):Decidable (Lt a b):=by unfold Lt; infer_instance
def pop (p:I2):List I2→List I2
 | b::a::st=>if ti a b p≤0 then pop p (a::st) else b::a::st
 | st=>st
def push (st:List I2) (p:I2):List I2:=p::pop p st
def Edge (Q:I2→Prop) (a b:I2):Prop:=Lt a b∧∀q,Q q→0≤ti a b q∧(ti a b q=0→¬Lt q a∧¬Lt b q)
inductive Stk (Q:I2→Prop):List I2→Prop
 | one {a}:(∀q,Q q→¬Lt q a)→Q a→Stk Q [a]
 | more {a b st}:Edge Q a b→Q b→Stk Q (a::st)→Stk Q (b::a::st)
def Good (S:I2→Prop) (x y:I2):Prop:=x≠y∧S y∧∀q,S q→0<ti x y q∨q=x∨q=y∨(ti x y q=0∧0<di x q y)
inductive Way (S:I2→Prop):List I2→Prop
 | one (a):Way S [a]
 | more {a b l}:Good S a b→Way S (b::l)→Way S (a::b::l)
def chain (l:List I2):List I2:=(l.foldl push []).reverse
structure Hul (S:I2→Prop) (r:List I2):Prop where
 n3:2<r.length
 good:∀i,Good S (nx r i) (nx r (i+1))
 nodup:∀i j,i<j→j<r.length→nx r i≠nx r j
section
variable {S : I2 → Prop} {r : List I2}
end
theorem xP {r:List I2} (h:r≠[]) (i:Nat):nx r i ∈ r:=by
 have hl:=List.length_pos_iff.2 h;have hi:=Nat.mod_lt i hl;unfold nx;rw[List.getD_eq_getElem?_getD,List.getElem?_eq_getElem hi];exact List.getElem_mem hi
end Jd
end

section
namespace Go.Proofs.YthmekkhpddehjaaGreat
open Go Go.Ab Go.Ab.W Go.Ab.B Jd
section
variable {l : List Nat}
end
structure Dr (l:List Nat) (x5 x6:Int) (x7:Nat):Prop where
 b:∀x ∈ l,x<256
 x : -32768≤x5∧x5≤32767
 y : -32768≤x6∧x6≤32767
 s:x7<256
def DL (l:List I2):Prop:=∀q ∈ l,td q.1∧td q.2
structure Bd (x2 x3:Nat) (x4 x5:Int):Prop where
 at_:x2<256
 to:x3<256
 x:td x4
 y:td x5
theorem xY {σ τ ρ:Type} {B:τ→Option (τ ⊕ ρ)} {len:Nat} (st:Nat→σ→τ) (inv:Nat→σ→Prop) (Post:ρ→Prop)
  (hB:∀i s,i<len→inv i s→(∃s',B (st i s)=some (.inl (st (i+1) s'))∧inv (i+1) s')∨∃r,B (st i s)=some (.inr r)∧Post r)
  (hE:∀s,inv len s→∃r,B (st len s)=some (.inr r)∧Post r):∀(k i:Nat) (s:σ) (n:Nat),i+k=len→k<n→inv i s→∃r,cY B n (st i s)=some r∧Post r
 | 0,i,s,n+1,h,_,hi=>by
  rw[Nat.add_zero] at h; subst h;obtain⟨r,h1,h2⟩:=hE s hi;exact⟨r,eJ h1,h2⟩
 | k+1,i,s,n+1,h,hn,hi=>by
  rcases hB i s (by omega) hi with⟨s',h1,h2⟩|⟨r,h1,h2⟩
  ·rw[fp h1]; exact xY st inv Post hB hE k (i+1) s' n (by omega) (by omega) h2
  ·exact⟨r,eJ h1,h2⟩
section
variable {l : List I2} (n : Nat)
end
theorem oC:td 0:=by unfold td; omega
def qU (acc:List I2) (x:I2):List I2:=if acc.getLast? = some x then acc else acc++[x]
def dd (l:List I2):List I2:=l.foldl qU []
theorem As (l:List I2) (x:I2):dd (l++[x])=qU (dd l) x:=by unfold dd; rw[List.foldl_append]; rfl
theorem ry (acc:List I2) (x:I2):(qU acc x).getLast? = some x:=by
 unfold qU
 split
 ·assumption
 ·simp
theorem Eg {a b:I2} (h:Lx a b) (hne:a≠b):Lt a b:=by
 unfold Lx at h; unfold Jd.Lt;rcases h with h|⟨h1,h2⟩
 ·exact .inl h
 ·refine .inr ⟨h1,?_⟩;rcases Int.lt_or_eq_of_le h2 with h|h
  ·exact h
  ·exact absurd (Prod.ext h1 h) hne
theorem A7:∀(l acc done:List I2),(done++l).Pairwise Lx→acc.Pairwise Lt→(∀q,q ∈ acc↔q ∈ done)→acc.getLast? = done.getLast? →
  (l.foldl qU acc).Pairwise Lt∧∀q,q ∈ l.foldl qU acc↔q ∈ done++l
 | [],acc,done,_,h2,h3,_=>⟨h2,fun q=>by rw[List.append_nil]; exact h3 q⟩
 | x::l,acc,done,h1,h2,h3,h4=>by
  have e:done++x::l=(done++[x])++l:=by simp
  rw[List.foldl_cons,e];refine A7 l (qU acc x) (done++[x]) (by rw[←e]; exact h1) ?_ (fun q=>?_) (by rw[ry]; simp)
  ·unfold qU
   split
   ·exact h2
   ·rename_i hx;refine List.pairwise_append.2 ⟨h2,by simp,fun a ha b hb=>?_⟩
    rw[List.mem_singleton] at hb; subst hb;have hax:Lx a b:=(List.pairwise_append.1 h1).2.2 a ((h3 a).1 ha) b List.mem_cons_self;refine Eg hax fun hab=>?_;subst hab;obtain⟨y,hy⟩:∃y,acc.getLast? = some y:=by
     cases hc:acc.getLast? with
     | none=>rw[List.getLast?_eq_none_iff] at hc; rw[hc] at ha; cases ha
     | some y=>exact⟨y,rfl⟩
    obtain⟨m,hm⟩:=List.getLast?_eq_some_iff.1 hy;rw[hm] at ha;rcases List.mem_append.1 ha with g|g
    ·have l1:Lt a y:=by rw[hm] at h2; exact(List.pairwise_append.1 h2).2.2 a g y (by simp)
     have l2:Lx y a:=(List.pairwise_append.1 h1).2.2 y ((h3 y).1 (by rw[hm]; simp)) a List.mem_cons_self
     unfold Jd.Lt at l1; unfold Lx at l2; omega
    ·rw[List.mem_singleton] at g; subst g; exact hx hy
  ·unfold qU
   split
   ·rename_i hx;rw[h3];have hxm:x ∈ acc:=List.mem_of_getLast? hx;constructor
    ·intro h; exact List.mem_append_left _ h
    ·intro h;rcases List.mem_append.1 h with h|h
     ·exact h
     ·rw[List.mem_singleton] at h; subst h; exact(h3 _).1 hxm
   ·rw[List.mem_append,List.mem_append,h3]
theorem jr (x y:I2):cz x y=true↔Lx x y:=by unfold cz Lx; rw[decide_eq_true_eq]
theorem uJ (l:List I2):(l.mergeSort cz).Pairwise Lx :=
 (List.pairwise_mergeSort (le:=cz) (fun a b c h1 h2=>by rw[jr] at *; unfold Lx at *; omega) (fun a b=>by rw[Bool.or_eq_true,jr,jr]; unfold Lx; omega) l).imp fun h=>(jr _ _).1 h
def jw (l:List I2):List I2:=dd (l.mergeSort cz)
theorem zW (l:List I2) (q:I2):q ∈ jw l↔q ∈ l:=by
 have:=(A7 (l.mergeSort cz) [] [] (uJ l) List.Pairwise.nil (fun q=>by simp) rfl).2 q
 unfold jw dd;rw[this,List.nil_append,List.mem_mergeSort]
theorem fm {S:List I2} {m:Nat} (hm:m<S.length):dd (S.take (m+1))=qU (dd (S.take m)) (S[m]'hm):=by
 rw[List.take_succ_eq_append_getElem hm,As]
theorem uZ {S:List I2} {m:Nat} (hm:m<S.length):(dd (S.take (m+1))).getLast? = some (S[m]'hm):=by rw[fm hm,ry]
theorem jU (n:Nat) {S0 S:List I2} {k0:Nat} (hS0:S0.length=S.length) (hk0:0<k0) (hN:S.length<1000):∀(d m j k:Nat) (L:List I2),k0+j+d=S.length→0<j→k<k0+j→L.length=S.length→(∀i,k≤i→L[i]? = S[i]?)→L.take k=dd (S.take (k0+j))→d<m →
  ∃(L':List I2) (k':Nat),cY (nY n S0 (k0:Int)) m (L,(k:Int),(j:Int))=some (L',(k':Int))∧L'.length=S.length∧k'≤k+d∧k'<S.length∧L'.take k'=dd S
 | 0,m+1,j,k,L,hd,hj,hk,hl,hi,ht,_=>by
  refine⟨L,k,eJ ?_,hl,Nat.le_refl _,by omega,by rw[ht,show k0+j=S.length by omega,List.take_length]⟩
  unfold nY
  try dsimp only
  rw[Int.toNat_natCast,eC (by rw[hS0]; omega)]
 | d+1,m+1,j,k,L,hd,hj,hk,hl,hi,ht,hm=>by
  have hx:k0+j<S.length:=by omega
  have hy:k0+(j-1)<S.length:=by omega
  have gx:L[k0+j]? = some (S[k0+j]'hx):=by rw[hi _ (by omega),List.getElem?_eq_getElem hx]
  have gy:L[k0+(j-1)]? = some (S[k0+(j-1)]'hy):=by rw[hi _ (by omega),List.getElem?_eq_getElem hy]
  have hlast:(dd (S.take (k0+j))).getLast? = some (S[k0+(j-1)]'hy):=by
   have:=uZ hy;rwa[show k0+(j-1)+1=k0+j by omega] at this
  have hsucc:dd (S.take (k0+(j+1)))=if S[k0+(j-1)]'hy=S[k0+j]'hx then L.take k else L.take k++[S[k0+j]'hx]:=by
   rw[show k0+(j+1)=k0+j+1 by omega,fm hx,ht]
   unfold qU;rw[hlast]
   by_cases h:S[k0+(j-1)]'hy=S[k0+j]'hx
   ·rw[if_pos (by rw[h]),if_pos h]
   ·rw[if_neg (fun e=>h (Option.some.inj e)),if_neg h]
  have body:∀(L2:List I2) (k2:Nat),(if S[k0+(j-1)]'hy=S[k0+j]'hx then(L,(k:Int)) else(L.set k (S[k0+j]'hx),((k+1:Nat):Int)))=(L2,(k2:Int))→nY n S0 (k0:Int) (L,(k:Int),(j:Int))=some (.inl (L2,(k2:Int),((j+1:Nat):Int))):=fun L2 k2 he=>by
   have hkL:k<L.length:=by omega
   unfold nY
   try dsimp only
   rw[Int.toNat_natCast,Int.toNat_natCast,ey (by rw[hS0]; omega),df (by rw[hS0]; omega),dz,gx,aP]
   try dsimp only
   have ew:IntKind.wrap .i64 ((j:Int)-1)=((j-1:Nat):Int):=by rw[cF (by omega) (by omega)]; omega
   rw[ew,df (by rw[hS0]; omega),dz,Int.toNat_natCast,gy,aP]
   try dsimp only
   rw[mY,dz,df (by rw[hS0]; omega),dz,Int.toNat_natCast,List.getElem?_eq_getElem hkL,aP]
   try dsimp only
   rw[eE (by omega),eE (by omega)]
   by_cases h:S[k0+(j-1)]'hy=S[k0+j]'hx
   ·rw[if_pos h] at he;cases he;rw[decide_eq_true h.symm,Bool.not_true,sZ,aP]
   ·rw[if_neg h] at he;rw[decide_eq_false (fun e=>h e.symm),Bool.not_false,fD,aP];have e1:=congrArg Prod.fst he;have e2:=congrArg Prod.snd he
    dsimp only at e1 e2 ⊢
    rw[←e1,←e2]
  by_cases h:S[k0+(j-1)]'hy=S[k0+j]'hx
  ·rw[fp (body L k (by rw[if_pos h]))]
   rw[if_pos h] at hsucc;obtain⟨L',k',r1,r2,r3,r4,r5⟩:=jU n hS0 hk0 hN d m (j+1) k L (by omega) (by omega) (by omega) hl hi hsucc.symm (by omega)
   exact⟨L',k',r1,r2,by omega,r4,r5⟩
  ·rw[fp (body (L.set k (S[k0+j]'hx)) (k+1) (by rw[if_neg h]))]
   rw[if_neg h] at hsucc;obtain⟨L',k',r1,r2,r3,r4,r5⟩:=jU n hS0 hk0 hN d m (j+1) (k+1) (L.set k (S[k0+j]'hx)) (by omega) (by omega) (by omega) (by rw[List.length_set]; exact hl) (fun i hi'=>by rw[List.getElem?_set_ne (by omega)]; exact hi i (by omega)) (by
    rw[hsucc,List.take_succ_eq_append_getElem (by rw[List.length_set]; omega),List.getElem_set_self]
    congr 1
    rw[List.take_set_of_le (Nat.le_refl _)]) (by omega)
   exact⟨L',k',r1,r2,by omega,r4,r5⟩
theorem oH (n:Nat) {S0 S:List I2} (hS0:S0.length=S.length) (hN:S.length<1000) (hn:S.length+2<n):∀(d m k:Nat),k+d=S.length→0<k→dd (S.take k)=S.take k→d<m →
  ∃r,cY (ko n S0 S) m (k:Int)=some r∧(match r with | .inl l=>l=dd S | .inr _=>S=dd S)
 | 0,m+1,k,hd,hk,hdd,_=>by
  refine⟨.inr (),eJ ?_,?_⟩
  ·unfold ko
   try dsimp only
   rw[eC (by rw[hS0]; omega)]
  ·dsimp only
   rw[show k=S.length by omega,List.take_length] at hdd
   exact hdd.symm
 | d+1,m+1,k,hd,hk,hdd,hm=>by
  have hx:k<S.length:=by omega
  have hy:k-1<S.length:=by omega
  have hlast:(dd (S.take k)).getLast? = some (S[k-1]'hy):=by
   have:=uZ hy;rwa[show k-1+1=k by omega] at this
  have ew:IntKind.wrap .i64 ((k:Int)-1)=((k-1:Nat):Int):=by rw[cF (by omega) (by omega)]; omega
  by_cases h:S[k]'hx=S[k-1]'hy
  ·have ht:S.take k=dd (S.take (k+1)):=by
    rw[fm hx,hdd];unfold qU;rw[hdd] at hlast;rw[if_pos (by rw[hlast,h])]
   obtain⟨L',k',r1,r2,r3,r4,r5⟩:=jU n hS0 hk hN d n 1 k S (by omega) (by omega) (by omega) rfl (fun i _=>rfl) ht (by omega)
   refine⟨.inl (dd S),eJ ?_,rfl⟩;unfold ko
   try dsimp only
   rw[ey (by rw[hS0]; omega),df (by rw[hS0]; exact hx),dz,Int.toNat_natCast,List.getElem?_eq_getElem hx,aP]
   try dsimp only
   rw[ew,df (by rw[hS0]; exact hy),dz,Int.toNat_natCast,List.getElem?_eq_getElem hy,aP]
   try dsimp only
   rw[mY,ey h,dz];have r1':cY (nY n S0 (k:Int)) n (S,(k:Int),1)=some (L',(k':Int)):=r1;rw[r1',aP]
   try dsimp only
   rw[df (by rw[hS0]; exact r4),dz,show okB 0 (k':Int) S0.length=true from decide_eq_true (by rw[hS0]; omega),dz,u0 (by rw[hS0]; omega),aP,Int.toNat_natCast]
   rw[List.take_append_of_le_length (by rw[List.length_take,r2]; omega),List.take_take,Nat.min_self,r5]
  ·have hdd':dd (S.take (k+1))=S.take (k+1):=by
    rw[fm hx,hdd];unfold qU;rw[hdd] at hlast;rw[if_neg (by rw[hlast]; exact fun e=>h (Option.some.inj e).symm),List.take_succ_eq_append_getElem hx]
   obtain⟨r,r1,r2⟩:=oH n hS0 hN hn d m (k+1) (by omega) (by omega) hdd' (by omega)
   refine⟨r,?_,r2⟩;rw[fp (s':=((k+1:Nat):Int)),r1];unfold ko
   try dsimp only
   rw[ey (by rw[hS0]; omega),df (by rw[hS0]; exact hx),dz,Int.toNat_natCast,List.getElem?_eq_getElem hx,aP]
   try dsimp only
   rw[ew,df (by rw[hS0]; exact hy),dz,Int.toNat_natCast,List.getElem?_eq_getElem hy,aP]
   try dsimp only
   rw[mY,eC h,eE (by omega)]
theorem Ar {a b p:I2} {st:List I2} (h:ti a b p≤0):pop p (b::a::st)=pop p (a::st):=by rw[pop,if_pos h]
theorem zG {a b p:I2} {st:List I2} (h:¬ti a b p≤0):pop p (b::a::st)=b::a::st:=by rw[pop,if_neg h]
def vj (p:I2):List I2→Option (List I2 ⊕ List I2)
 | b::a::st=>if ti a b p≤0 then some (.inl (a::st).reverse) else some (.inr (b::a::st).reverse)
 | st=>some (.inr st.reverse)
section
variable (n : Nat)
theorem rE {p:I2} (f:List I2→Option (List I2 ⊕ List I2)) (hf:∀st:List I2,st.length<1000→(∀q ∈ st,Nr q)→f st.reverse=vj p st):∀(st:List I2) (m:Nat),st.length<1000→(∀q ∈ st,Nr q)→st.length<m→cY f m st.reverse=some (pop p st).reverse
 | [],m+1,h1,h2,_=>by rw[eJ (hf [] h1 h2)]; rfl
 | [b],m+1,h1,h2,_=>by rw[eJ (hf [b] h1 h2)]; rfl
 | b::a::st,m+1,h1,h2,hm=>by
  have e:=hf (b::a::st) h1 h2
  by_cases h:ti a b p≤0
  ·rw[show vj p (b::a::st)=some (.inl (a::st).reverse) from if_pos h] at e
   rw[fp e,rE f hf (a::st) m (by simp at h1 ⊢; omega) (fun q hq=>h2 q (List.mem_cons_of_mem _ hq)) (by simp at hm ⊢; omega),Ar h]
  ·rw[show vj p (b::a::st)=some (.inr (b::a::st).reverse) from if_neg h] at e
   rw[eJ e,zG h]
theorem yE {p:I2} (hp:Nr p) (st:List I2) (hl:st.length<1000) (hst:∀q ∈ st,Nr q):lS n p.1 p.2 st.reverse=vj p st:=by
 match st,hl,hst with
 | [],_,_ =>
  unfold lS
  try dsimp only
  rw[eC (by simp),aP,sZ]
  rfl
 | [b],_,_ =>
  unfold lS
  try dsimp only
  rw[eC (by simp),aP,sZ]
  rfl
 | b::a::st,hl,hst =>
  simp only[List.length_cons] at hl;have hlen:((b::a::st).reverse).length=st.length+2:=by simp
  have ew2:IntKind.wrap .i64 (((st.length+2:Nat):Int)-2)=((st.length:Nat):Int):=by rw[cF (by omega) (by omega)]; omega
  have ew1:IntKind.wrap .i64 (((st.length+2:Nat):Int)-1)=((st.length+1:Nat):Int):=by rw[cF (by omega) (by omega)]; omega
  have ga:((b::a::st).reverse)[st.length]? = some a:=by
   rw[List.getElem?_reverse (by simp; omega)]; simp
  have gb:((b::a::st).reverse)[st.length+1]? = some b:=by
   rw[List.getElem?_reverse (by simp)]; simp
  have ht:((b::a::st).reverse).take (st.length+1)=(a::st).reverse:=by
   rw[List.reverse_cons,List.take_append_of_le_length (by simp),List.take_of_length_le (by simp)]
  unfold lS
  try dsimp only
  rw[hlen,ey (by omega),ew2,ew1,df (by omega),dz,Int.toNat_natCast,ga,aP]
  try dsimp only
  rw[df (by omega),dz,Int.toNat_natCast,gb,aP]
  try dsimp only
  rw[C6 n (hst a (by simp)) (hst b (by simp)) hp,aP,aP]
  by_cases h:ti a b p≤0
  ·rw[show vj p (b::a::st)=some (.inl (a::st).reverse) from if_pos h,ey (by have:=xC (z:=ti a b p); omega),show okB 0 ((st.length+1:Nat):Int) (st.length+2)=true from decide_eq_true (by omega),dz,u0 (by omega),aP,ht]
  ·rw[show vj p (b::a::st)=some (.inr (b::a::st).reverse) from if_neg h,eC (by have:=xC (z:=ti a b p); omega)]
theorem nG (p:I2):∀st:List I2,(pop p st).length≤st.length
 | []=>by simp[pop]
 | [b]=>by simp[pop]
 | b::a::st=>by
  unfold pop
  split
  ·have:=nG p (a::st); simp at this ⊢; omega
  ·simp
theorem uF (p:I2):∀st:List I2,∀q ∈ pop p st,q ∈ st
 | [],q,h=>by simp[pop] at h
 | [b],q,h=>by simpa [pop] using h
 | b::a::st,q,h=>by
  unfold pop at h
  split at h
  ·exact List.mem_cons_of_mem _ (uF p (a::st) q h)
  ·exact h
theorem jY (hn:500<n) {l:List I2} (hl:l.length≤200) (hnr:∀q ∈ l,Nr q) (f:(List I2 × Int)→Option ((List I2 × Int) ⊕ List I2))
  (hf:∀(i:Nat) (o:List I2),i<l.length→f (o,(i:Int))=ob (l[i]?) fun(x,y)=>ob (cY (lS n x y) n o) fun o'=>gd (lim (o'++[(x,y)]).length) (some (.inl (o'++[(x,y)],((i+1:Nat):Int)))))
  (he:∀o,f (o,(l.length:Int))=some (.inr o)):∀(rest done st:List I2) (m:Nat),done++rest=l→st.length≤done.length→(∀q ∈ st,Nr q)→rest.length<m→cY f m (st.reverse,(done.length:Int))=some (rest.foldl push st).reverse
 | [],done,st,m+1,h,h1,h2,_=>by
  rw[List.append_nil] at h; subst h;rw[eJ (he _)]; rfl
 | p::rest,done,st,m+1,h,h1,h2,hm=>by
  have hi:done.length<l.length:=by rw[←h]; simp
  have hp:l[done.length]? = some p:=by rw[←h,List.getElem?_append_right (Nat.le_refl _),Nat.sub_self]; rfl
  have hpn:=hnr p (List.mem_of_getElem? hp);have hlp:=rE (lS n p.1 p.2) (fun st' a b=>yE n hpn st' a b) st n (by omega) h2 (by omega)
  have hpl:=nG p st;have e1:f (st.reverse,(done.length:Int))=some (.inl ((push st p).reverse,((done.length+1:Nat):Int))):=by
   rw[hf _ _ hi,hp,aP]
   try dsimp only
   rw[hlp,aP,show lim ((pop p st).reverse++[(p.1,p.2)]).length=true from Nat.ble_eq_true_of_le (by simp; omega),dz]
   unfold push;rw[List.reverse_cons]
  rw[fp e1];have:=jY hn hl hnr f hf he rest (done++[p]) (push st p) m (by rw[←h]; simp) (by unfold push; simp; omega) (fun q hq=>by
   unfold push at hq;rcases List.mem_cons.1 hq with rfl|hq
   ·exact hpn
   ·exact h2 q (uF p st q hq)) (by simp at hm; omega)
  rw[List.length_append,List.length_singleton] at this;rw[this]; rfl
theorem vS (hn:500<n) {l:List I2} (hl:l.length≤200) (hnr:∀q ∈ l,Nr q):cY (pq n l.length l) n ([],0)=some (chain l):=by
 have:=jY n hn hl hnr (pq n l.length l) (fun i o hi=>by
  unfold pq
  try dsimp only
  rw[ey (by omega),df hi,dz,Int.toNat_natCast,eE (by omega)]) (fun o=>by
  unfold pq
  try dsimp only
  rw[eC (by omega)]) l [] [] n (by simp) (Nat.le_refl _) (fun q hq=>by cases hq) (by omega)
 exact this
theorem yw (hn:500<n) {l:List I2} (hl:l.length≤200) (hnr:∀q ∈ l,Nr q):cY (pc n l.length l) n ([],0)=some (chain l):=by
 have:=jY n hn hl hnr (pc n l.length l) (fun i o hi=>by
  unfold pc
  try dsimp only
  rw[ey (by omega),df hi,dz,Int.toNat_natCast,eE (by omega)]
  rfl) (fun o=>by
  unfold pc
  try dsimp only
  rw[eC (by omega)]) l [] [] n (by simp) (Nat.le_refl _) (fun q hq=>by cases hq) (by omega)
 exact this
theorem po (t:List I2) (ht:t.length<1000):∀(d m i:Nat) (c:List I2) (q:Int),t.length≤2*i+d→q=(t.length:Int)-1-(i:Int)→c.length=t.length →
  (∀j,j<t.length→c[j]? = if j<i∨t.length-1-j<i then t[t.length-1-j]? else t[j]?)→d<m→i≤t.length →
   cY (pw n t.length) m (c,(i:Int),q)=some t.reverse
 | d,m+1,i,c,q,hd,hq,hc,hj,hm,hi=>by
  by_cases hlt:(i:Int)<q
  ·match d with
   | 0=>omega
   | d+1 =>
    obtain⟨k,hk⟩:∃k:Nat,q=(k:Int):=⟨t.length-1-i,by omega⟩
    subst hk;have hkt:k<t.length:=by omega
    have hit:i<t.length:=by omega
    have gk:c[k]? = some (t[k]'hkt):=by rw[hj k hkt,if_neg (by omega),List.getElem?_eq_getElem]
    have gi:c[i]? = some (t[i]'hit):=by rw[hj i hit,if_neg (by omega),List.getElem?_eq_getElem]
    have gk2:(c.set i ((t[k]'hkt).1,(t[k]'hkt).2))[k]? = some (t[k]'hkt):=by rw[List.getElem?_set_ne (by omega),gk]
    rw[fp (s':=((c.set i (t[k]'hkt)).set k (t[i]'hit),((i+1:Nat):Int),(k:Int)-1))]
    ·refine po t ht (d-1) m (i+1) _ _ (by omega) (by omega) (by rw[List.length_set,List.length_set]; exact hc) (fun j hjt=>?_) (by omega) (by omega)
     by_cases e1:j=k
     ·subst e1;rw[List.getElem?_set_self (by rw[List.length_set]; omega),if_pos (by omega),show t.length-1-j=i by omega,List.getElem?_eq_getElem]
     ·rw[List.getElem?_set_ne (by omega)]
      by_cases e2:j=i
      ·subst e2;rw[List.getElem?_set_self (by omega),if_pos (by omega),show t.length-1-j=k by omega,List.getElem?_eq_getElem]
      ·rw[List.getElem?_set_ne (by omega),hj j hjt]
       by_cases e3:j<i∨t.length-1-j<i
       ·rw[if_pos e3,if_pos (by omega)]
       ·rw[if_neg e3,if_neg (by omega)]
    ·unfold pw
     try dsimp only
     rw[ey hlt,df hkt,dz,Int.toNat_natCast,Int.toNat_natCast,gk,aP]
     try dsimp only
     rw[df hit,dz,gi,aP]
     try dsimp only
     rw[dz,dz,gk2,aP]
     try dsimp only
     rw[eE (by omega),cF (by omega) (by omega)]
  ·rw[eJ (r:=c)]
   ·congr 1
    refine List.ext_getElem? fun j=>?_
    by_cases hjt:j<t.length
    ·rw[hj j hjt,List.getElem?_reverse hjt]
     split
     ·rfl
     ·congr 1; omega
    ·rw[List.getElem?_eq_none (by omega),List.getElem?_eq_none (by rw[List.length_reverse]; omega)]
   ·unfold pw
    try dsimp only
    rw[eC hlt]
theorem E6 (t:List I2) (ht:t.length<1000) (hn:t.length<n):cY (pw n t.length) n (t,0,IntKind.wrap .i64 ((t.length:Int)-1))=some t.reverse:=by
 have:=po n t ht t.length n 0 t ((t.length:Int)-1) (by omega) (by omega) rfl (fun j hj=>by rw[if_neg (by omega)]) hn (Nat.zero_le _)
 rw[cF (by omega) (by omega)]
 exact this
end
def wS (l:List I2):List I2 × Int :=
 if (chain (jw l)).length<2∨(chain (jw l)).length+(chain (jw l).reverse).length<5 then([],4)
 else if 40<((chain (jw l)).dropLast++(chain (jw l).reverse).dropLast).length then([],3)
 else((chain (jw l)).dropLast++(chain (jw l).reverse).dropLast,0)
theorem ym {l:List I2} (f:Int→Option (Int ⊕ (Int ⊕ Unit))) (hB:∀i:Nat,i<l.length→f (i:Int)=if Fa (nx l i) then some (.inr (.inl (i:Int))) else some (.inl ((i+1:Nat):Int))) (hE:f (l.length:Int)=some (.inr (.inr ()))) {n:Nat} (hn:l.length<n) :
  ∃r,cY f n 0=some r∧match r with | .inl v=>0≤v∧∃q ∈ l,Fa q | .inr _=>∀q ∈ l,¬Fa q:=by
 have L:∃r,cY f n ((0:Nat):Int)=some r∧match r with | .inl v=>0≤v∧∃q ∈ l,Fa q | .inr _=>∀q ∈ l,¬Fa q:=by
  refine xY (len:=l.length) (fun i (_:Unit)=>(i:Int)) (fun i _=>∀j,j<i→¬Fa (nx l j)) _ (fun i s hi hs=>?_) (fun s hs=>?_) l.length 0 () n (by omega) hn (fun j hj=>absurd hj (Nat.not_lt_zero _))
  ·by_cases h:Fa (nx l i)
   ·refine .inr ⟨.inl (i:Int),by rw[hB i hi,if_pos h],Int.natCast_nonneg i,nx l i,xP (fun e=>by rw[e] at hi; cases hi) i,h⟩
   ·refine .inl ⟨(),by rw[hB i hi,if_neg h],fun j hj=>?_⟩
    by_cases e:j=i
    ·rw[e]; exact h
    ·exact hs j (by omega)
  ·refine⟨.inr (),hE,fun q hq=>?_⟩;obtain⟨j,hj,e⟩:=List.mem_iff_getElem.1 hq;have:=hs j hj;unfold nx at this;rwa[Nat.mod_eq_of_lt hj,List.getD_eq_getElem?_getD,List.getElem?_eq_getElem hj,Option.getD_some,e] at this
 exact L
theorem pP (l:List I2):(chain l).length≤l.length:=by
 unfold chain;rw[List.length_reverse];have:∀(l st:List I2),(l.foldl push st).length≤st.length+l.length:=fun l=>by
  induction l with
  | nil=>intro st; simp
  | cons p l ih =>
   intro st;have:=ih (push st p);have h2:=nG p st;rw[List.foldl_cons];unfold push at this ⊢;simp at this ⊢; omega
 simpa using this l []
theorem wR:∀(l acc:List I2),(l.foldl qU acc).length≤acc.length+l.length
 | [],acc=>by simp
 | x::l,acc=>by
  have:=wR l (qU acc x);have h2:(qU acc x).length≤acc.length+1:=by unfold qU; split<;>simp
  rw[List.foldl_cons];simp at this ⊢; omega
theorem zQ (l:List I2):(jw l).length≤l.length:=by
 have:=wR (l.mergeSort cz) [];unfold jw dd;rw[List.length_mergeSort] at this
 simpa using this
open Classical in
theorem ta (n:Nat) {l:List I2} (h1:DL l) (hn:500<n):rZ n l=some (if 200<l.length then([],3) else if ∃q ∈ l,Fa q then([],2) else wS l):=by
 unfold rZ
 by_cases h:200<l.length
 ·rw[ey (by omega),if_pos h]
 ·rw[eC (by omega),if_neg h]
  obtain⟨r,h2,h0⟩:=ym (l:=l) (sK n l) (fun i hi=>by
   have hq:td (nx l i).1∧td (nx l i).2:=h1 _ (xP (fun e=>by rw[e] at hi; cases hi) i)
   unfold sK
   try dsimp only
   rw[ey (by omega),df hi,dz,Eo hi,aP]
   try dsimp only
   rw[CH n hq.1 hq.2,aP,eE (by omega),C7]
   by_cases g:Fa (nx l i)
   ·rw[if_pos (decide_eq_true g),if_pos g]
   ·rw[if_neg (by simpa using g),if_neg g]) (by
   unfold sK
   try dsimp only
   rw[eC (by omega)]) (n:=n) (by omega)
  rw[h2,aP];cases r with
  | inl v =>
   dsimp only at h0 ⊢
   rw[aP,aP,decide_eq_true h0.1,fD,if_pos h0.2]
  | inr _ =>
   dsimp only at h0 ⊢
   rw[aP,aP,eC (show ¬(0:Int)≤-1 by decide),if_neg (fun⟨q,a,b⟩=>h0 q a b)]
   have hnr:∀q ∈ l,Nr q:=fun q hq=>D9.1 (h0 q hq);unfold EJ EV;have hlim:lim l.length=true:=Nat.ble_eq_true_of_le (by omega)
   rw[hlim,dz,aP,hlim,dz,aP];have hsl:(l.mergeSort cz).length=l.length:=List.length_mergeSort _;have C:(ob (br (decide ((l.length:Int)<2)) (some (l.mergeSort cz,l.length)) (
     ob (α:=(List (Int × Int)) ⊕ (Unit)) (cY (ko n l (l.mergeSort cz)) n 1) fun r0=>match r0 with
     | .inl l1=>some (l1,l1.length)
     | .inr _=>some (l.mergeSort cz,l.length))) fun x=>some x)=some (jw l,(jw l).length):=by
    by_cases h0:(l.length:Int)<2
    ·rw[ey h0,aP];have:jw l=l.mergeSort cz:=by
      unfold jw;generalize hs:l.mergeSort cz=S at *
      match S,hsl with
      | [],_=>rfl
      | [a],_=>rfl
      | _::_::_,e=>simp at e; omega
     rw[this,hsl]
    ·rw[eC h0];have h3:dd ((l.mergeSort cz).take 1)=(l.mergeSort cz).take 1:=by
      generalize hs:l.mergeSort cz=S at *
      match S,hsl with
      | [],e=>simp at e; omega
      | a::t,_=>rfl
     obtain⟨r,g1,g0⟩:=oH n (S0:=l) (S:=l.mergeSort cz) hsl.symm (by omega) (by omega) (l.length-1) n 1 (by omega) (by omega) h3 (by omega)
     have g1':cY (ko n l (l.mergeSort cz)) n 1=some r:=g1;rw[g1',aP];cases r with
     | inl l'=>dsimp only at g0 ⊢; rw[aP,g0]; rfl
     | inr _ =>
      dsimp only at g0 ⊢
      rw[aP];have e:jw l=l.mergeSort cz:=g0.symm;rw[e,hsl]
   have C':∀(β:Type) (K:List I2 × Nat→Option β),ob (br (decide ((l.length:Int)<2)) (some (l.mergeSort cz,l.length)) (
     ob (α:=(List (Int × Int)) ⊕ (Unit)) (cY (ko n l (l.mergeSort cz)) n 1) fun r0=>match r0 with
     | .inl l1=>some (l1,l1.length)
     | .inr _=>some (l.mergeSort cz,l.length))) K=K (jw l,(jw l).length):=fun β K=>by
    generalize br (decide ((l.length:Int)<2)) _ _=X at *;cases X with
    | none=>cases C
    | some x=>have:some x=some (jw l,(jw l).length):=C; rw[Option.some.inj this]; rfl
   refine Eq.trans (C' _ _) ?_
   try dsimp only
   have hpl:=zQ l;have hpn:∀q ∈ jw l,Nr q:=fun q hq=>hnr q ((zW l q).1 hq);have hrl:(jw l).reverse.length=(jw l).length:=List.length_reverse;have cl:=vS n hn (l:=jw l) (by omega) hpn
   have cu:=yw n hn (l:=(jw l).reverse) (by omega) (fun q hq=>hpn q (List.mem_reverse.1 hq))
   rw[hrl] at cu;have h4:=pP (jw l);have h5:=pP (jw l).reverse;rw[cl,aP,aP,E6 n (jw l) (by omega) (by omega),aP,aP,cu,aP,aP]
   unfold wS;generalize hlo:chain (jw l)=lo at *;generalize hup:chain (jw l).reverse=up at *;rw[cF (x:=(lo.length:Int)+(up.length:Int)) (by omega) (by omega),BD,aP,←Bool.decide_or]
   by_cases hs:lo.length<2∨lo.length+up.length<5
   ·rw[ey (by omega),if_pos hs]
   ·rw[eC (by omega),if_neg hs]
    have e0:IntKind.wrap .i64 ((lo.length:Int)-1)=((lo.length-1:Nat):Int):=by rw[cF (by omega) (by omega)]; omega
    have hupl:0<up.length:=by
     rw[←hup];have hne:jw l≠[]:=fun e=>by rw[e] at hlo; rw[←hlo] at hs; simp[chain] at hs
     unfold chain;rw[List.length_reverse];have:∀(l st:List I2),(0<l.length∨0<st.length)→0<(l.foldl push st).length:=fun l=>by
      induction l with
      | nil=>intro st h; simpa using h
      | cons p l ih=>intro st _; exact ih _ (.inr (by unfold push; simp))
     exact this _ _ (.inl (by rw[List.length_reverse]; exact List.length_pos_iff.2 hne))
    have e1:IntKind.wrap .i64 ((up.length:Int)-1)=((up.length-1:Nat):Int):=by rw[cF (by omega) (by omega)]; omega
    rw[e0,e1,show okB 0 ((lo.length-1:Nat):Int) lo.length=true from decide_eq_true (by omega),dz,u0 (show 0<lo.length by omega),aP,show okB 0 ((up.length-1:Nat):Int) up.length=true from decide_eq_true (by omega),dz,u0 hupl,aP,Int.toNat_natCast,Int.toNat_natCast,←List.dropLast_eq_take,←List.dropLast_eq_take,
     show lim (lo.dropLast++up.dropLast).length=true from Nat.ble_eq_true_of_le (by simp; omega),dz]
    by_cases hb:40<(lo.dropLast++up.dropLast).length
    ·rw[ey (by omega),if_pos hb]
    ·rw[eC (by omega),if_neg hb]
section
variable (n : Nat)
end
section
variable {S : I2 → Prop} {r l : List I2}
theorem AH {a b:I2} (h1:Lx a b) (h2:Lx b a):a=b:=by unfold Lx at *; exact Prod.ext (by omega) (by omega)
end
end Go.Proofs.YthmekkhpddehjaaGreat
end

section
namespace Go.Proofs.YthmekkhpddehjaaGreat
open Go Go.Ab Go.Ab.W Go.Ab.B Jd
set_option maxRecDepth 100000
abbrev kn:Nat:=30000
abbrev mn:List I2:=[(0,0),(1,1),(2,4),(3,9),(4,16),(5,25),(6,36),(7,49),(8,64),(9,81),(10,100),(11,121),(12,144),(13,169),(14,196),(15,225),(16,256),(17,289),(18,324),(19,361),(20,400),(21,441),(22,484),(23,529),(24,576),(25,625),(26,676),(27,729),(28,784),(29,841),(30,900),(31,961),(32,1024),(33,1089),(34,1156),(35,1225),(36,1296),(37,1369),(38,1444)]
abbrev gD:List I2:=[(0,0),(1,1),(2,4),(3,9),(4,16),(5,25),(6,36),(7,49),(8,64),(9,81),(10,100),(11,121),(12,144),(13,169),(14,196),(15,225),(16,256),(17,289),(18,324),(19,361),(20,400),(21,441),(22,484),(23,529),(24,576),(25,625),(26,676),(27,729),(28,784),(29,841),(30,900),(31,961),(32,1024),(33,1089),(34,1156),(35,1225),(36,1296),(37,1369),(38,1444),(39,1521),(40,1600)]
abbrev Ai:List I2:=[(0,0),(2,0),(4,0),(4,3),(0,3)]
abbrev Cd:List I2:=[(0,0),(1000001,0),(1000001,0)]
abbrev rQ:List I2:=[(-1000000,-1000000),(1000000,-1000000),(1000000,1000000),(-1000000,1000000)]
theorem GC:cY (Cy kn) kn (([]:List I2),0)=some mn:=by kernel_rfl
theorem GW:cY (BU kn) kn (([]:List I2),0)=some gD:=by kernel_rfl
theorem F3:oN kn [0,0,2,0,4,0,4,3,0,3]=some Ai:=by kernel_rfl
theorem Ga:oN kn [0,0,1000001,0,1000001,0]=some Cd:=by kernel_rfl
theorem FN:oN kn [-1000000,-1000000,1000000,-1000000,1000000,1000000,-1000000,1000000]=some rQ:=by kernel_rfl
theorem Fh:oN kn [0,0,1,1]=some [(0,0),(1,1)]:=by kernel_rfl
theorem FO:oN kn [0,0,4,0,4,4,2,0,1,3]=some [(0,0),(4,0),(4,4),(2,0),(1,3)]:=by kernel_rfl
theorem FQ:oN kn [0,0,4,0,4,4,4,2,0,4]=some [(0,0),(4,0),(4,4),(4,2),(0,4)]:=by kernel_rfl
theorem E9:oN kn [0,0,3,0,3,3,0,0]=some [(0,0),(3,0),(3,3),(0,0)]:=by kernel_rfl
theorem Fu:oN kn [0,0,4,0,2,2,4,4,0,4,2,2]=some [(0,0),(4,0),(2,2),(4,4),(0,4),(2,2)]:=by kernel_rfl
theorem Gc:oN kn [0,0,3,3,0,6,-3,3]=some [(0,0),(3,3),(0,6),(-3,3)]:=by kernel_rfl
theorem Fc:oN kn [0,0,1,1,3,3,2,2]=some [(0,0),(1,1),(3,3),(2,2)]:=by kernel_rfl
theorem Fi:oM kn [] 1 0=some true:=by kernel_rfl
theorem Fz:oM kn [(0,0),(1,1)] 1 0=some true:=by kernel_rfl
theorem Fg:oM kn (mn++[(0,2000)]) 0 0=some true:=by kernel_rfl
theorem Fw:oM kn ((([]:List I2)++(mn++[(0,2000)]))++[(-1,1000)]) 1 0=some true:=by kernel_rfl
theorem Fy:oM kn Cd 2 1=some true:=by kernel_rfl
theorem FC:oM kn Ai 0 0=some true:=by kernel_rfl
theorem FX:oM kn [(0,0),(4,0),(4,4),(2,0),(1,3)] 5 2=some true:=by kernel_rfl
theorem FB:oM kn [(0,0),(4,0),(4,4),(4,2),(0,4)] 4 2=some true:=by kernel_rfl
theorem Fb:oM kn [(0,0),(3,0),(3,3),(0,0)] 3 3=some true:=by kernel_rfl
theorem FY:oM kn [(0,0),(4,0),(2,2),(4,4),(0,4),(2,2)] 5 4=some true:=by kernel_rfl
theorem GG:EO kn Ai=some true:=by kernel_rfl
theorem Gd:Dg kn Ai 24=some true:=by kernel_rfl
theorem FA:Dg kn rQ 8000000000000=some true:=by kernel_rfl
theorem Gh:BJ kn Ai 14 1=some true:=by kernel_rfl
theorem Gi:BJ kn rQ 8000000 1=some true:=by kernel_rfl
theorem F4:BJ kn [(0,0),(3,3),(0,6),(-3,3)] 12 2=some true:=by kernel_rfl
theorem Fo:wA kn rQ 1000000 1000000 1=some true:=by kernel_rfl
theorem Ge:wA kn rQ 0 999999 2=some true:=by kernel_rfl
theorem FD:wA kn Ai 2 0 1=some true:=by kernel_rfl
theorem FT:wA kn Ai (-1) 0 0=some true:=by kernel_rfl
theorem Fv:wA kn Ai 9 3 0=some true:=by kernel_rfl
theorem E3:BH kn Ai 1000001 0=some (0,2):=by kernel_rfl
theorem Ff:BH kn Cd 1000001 0=some (0,140):=by kernel_rfl
theorem F0:CK kn 0 0 0 0 0 0 1 0=some (0,2):=by kernel_rfl
theorem FW:CK kn 0 0 1 0 0 1000001 0 0=some (0,2):=by kernel_rfl
theorem Gs:Dn kn (((mn++[(0,2000)]).drop (0:Int).toNat).take ((2:Int).toNat-(0:Int).toNat))=some ([],140):=by kernel_rfl
theorem zI {l s:List I2} (hp:s.Perm l) (hs:s.Pairwise Lx):l.mergeSort cz=s :=
 List.Perm.eq_of_pairwise (le:=Lx) (fun _ _ _ _ h1 h2=>AH h1 h2) (uJ l) hs ((List.mergeSort_perm l cz).trans hp.symm)
theorem tK {s:List I2} (h:(s.zip s.tail).all (fun p=>decide (p.1.1<p.2.1))=true):s.Pairwise Lx:=by
 have key:∀s:List I2,(s.zip s.tail).all (fun p=>decide (p.1.1<p.2.1))=true→s.Pairwise (fun a b=>a.1<b.1):=by
  intro s
  induction s with
  | nil=>intro _; exact List.Pairwise.nil
  | cons a t ih =>
   intro h
   match t,h,ih with
   | [],_,_=>exact List.pairwise_singleton _ _
   | b::u,h,ih =>
    simp only[List.tail_cons,List.zip_cons_cons,List.all_cons,Bool.and_eq_true,decide_eq_true_eq] at h ih;have hbu:=ih h.2;refine List.pairwise_cons.2 ⟨fun x hx=>?_,hbu⟩;rcases List.mem_cons.1 hx with rfl|hx
    ·exact h.1
    ·have:=(List.pairwise_cons.1 hbu).1 x hx;omega
 exact(key s h).imp fun h=>by unfold Lx; omega
theorem eS {l s:List I2} (hp:s.Perm l) (hs:s.Pairwise Lx) {X:List I2 × Int} (e:(if (chain (dd s)).length<2∨(chain (dd s)).length+(chain (dd s).reverse).length<5 then(([]:List I2),(4:Int))
 else if 40<((chain (dd s)).dropLast++(chain (dd s).reverse).dropLast).length then([],3)
 else((chain (dd s)).dropLast++(chain (dd s).reverse).dropLast,0))=X):wS l=X:=by
 have:jw l=dd s:=by unfold jw; rw[zI hp hs]
 unfold wS;rw[this]; exact e
theorem Fp:rZ kn (List.replicate (201:Int).toNat ((0,0):Int × Int))=some ([],3):=by
 rw[ta kn (fun q hq=>by rw[List.eq_of_mem_replicate hq]; exact⟨oC,oC⟩) (by decide),if_pos (by rw[List.length_replicate]; decide)]
theorem Fq:rZ kn [(1000001,0)]=some ([],2):=by
 rw[ta kn (fun q hq=>by rw[List.mem_singleton.1 hq]; exact⟨by unfold td; omega,oC⟩) (by decide),if_neg (by decide),if_pos ⟨(1000001,0),by simp,by unfold Fa; decide⟩]
theorem xA {l:List I2} (h:l.all (fun q=>decide (-1000000≤q.1) && decide (q.1≤1000000) && decide (-1000000≤q.2) && decide (q.2≤1000000))=true):DL l∧¬∃q ∈ l,Fa q:=by
 rw[List.all_eq_true] at h;constructor
 ·intro q hq;have:=h q hq;simp only[Bool.and_eq_true,decide_eq_true_eq] at this;unfold td; omega
 ·rintro⟨q,hq,hf⟩;have:=h q hq;simp only[Bool.and_eq_true,decide_eq_true_eq] at this;unfold Fa at hf; omega
theorem jn {l:List I2} (h:l.all (fun q=>decide (-1000000≤q.1) && decide (q.1≤1000000) && decide (-1000000≤q.2) && decide (q.2≤1000000))=true) (hl:l.length≤200):rZ kn l=some (wS l):=by
 obtain⟨h1,h2⟩:=xA h;rw[ta kn h1 (by decide),if_neg (by omega),if_neg h2]
theorem Gf:rZ kn [(0,0),(1,1),(3,3),(2,2)]=some ([],4):=by
 rw[jn (by decide) (by decide),eS (s:=[(0,0),(1,1),(2,2),(3,3)]) (X:=([],4)) (by decide) (tK (by decide)) (by decide)]
theorem Gg:rZ kn []=some ([],4):=by
 rw[jn (by decide) (by decide),eS (s:=[]) (X:=([],4)) (by decide) List.Pairwise.nil (by decide)]
theorem FU:rZ kn gD=some ([],3):=by
 rw[jn (by kernel_rfl) (by decide),eS (s:=gD) (X:=([],3)) (List.Perm.refl _) (tK (by kernel_rfl)) (by decide +kernel)]
theorem F2:∃h:List I2,rZ kn ((gD.drop (0:Int).toNat).take ((40:Int).toNat-(0:Int).toNat))=some (h,0)∧h.length=40:=by
 have e:(gD.drop (0:Int).toNat).take ((40:Int).toNat-(0:Int).toNat)=gD.take 40:=rfl;rw[e];refine⟨((chain (dd (gD.take 40))).dropLast++(chain (dd (gD.take 40)).reverse).dropLast),?_,by decide +kernel⟩
 rw[jn (by kernel_rfl) (by decide),eS (s:=gD.take 40) (X:=(_,0)) (List.Perm.refl _) (tK (by kernel_rfl)) (by rw[if_neg (by decide +kernel),if_neg (by decide +kernel)])]
theorem zF:F7 kn=some true:=by
 obtain⟨h,h1,h2⟩:=F2;unfold F7;rw[show EY kn=some true from rfl,aP,Bool.not_true,sZ,F3,aP,GC,aP]
 have l1:lim (List.length (mn++[((0:Int),(2000:Int))]))=true:=rfl;have l2:lim (List.length (([]:List I2)++(mn++[((0:Int),(2000:Int))])))=true:=rfl;have l3:lim (List.length ((([]:List I2)++(mn++[((0:Int),(2000:Int))]))++[((-1:Int),(1000:Int))]))=true:=rfl;rw[l1,dz,l2,dz,l3,dz,Ga,aP,FN,aP];rw[Fi,aP,fD,Fh,aP,Fz,aP,fD,Fg,aP,fD,Fw,aP,fD,Fy,aP,fD,FC,aP,fD,FO,aP,FX,aP,fD,FQ,aP,FB,aP,fD,E9,aP,Fb,aP,fD,Fu,aP,FY,aP,aP];rw[GG,aP,fD,Gd,aP,fD,Gh,aP,fD,FA,aP,fD,Gi,aP,fD,Gc,aP,F4,aP,fD,Fo,aP,fD,Ge,aP,fD,FD,aP,fD,FT,aP,fD,Fv,aP,aP];rw[E3,aP]
 dsimp only
 rw[Ff,aP]
 dsimp only
 rw[show decide ((0:Int)≤201)=true from rfl,dz,show lim ((201:Int).toNat)=true from rfl,dz,Fp,aP]
 dsimp only
 rw[Fq,aP]
 dsimp only
 rw[Fc,aP,Gf,aP]
 dsimp only
 rw[Gg,aP]
 dsimp only
 rw[GW,aP,FU,aP]
 dsimp only
 rw[show okB 0 40 gD.length=true from rfl,dz,h1,aP]
 dsimp only
 rw[F0,aP]
 dsimp only
 rw[FW,aP]
 dsimp only
 have l4:okB 0 2 (List.length (mn++[((0:Int),(2000:Int))]))=true:=rfl;rw[l4,dz,Gs,aP]
 dsimp only
 rw[h2]
 rfl
end Go.Proofs.YthmekkhpddehjaaGreat
end
