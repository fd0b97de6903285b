/- A part of the proof. -/
import Derived.Test.YtookeaakpiefjaaGreatDoorTf5
section
namespace Go.Proofs.YtookeaakpiefjaaGreatDoor
open Go Go.Ab Go.Ab.W
set_option maxRecDepth 10000
set_option maxHeartbeats 4000000
attribute [local irreducible] Wo Wk At Wn Od Ox aZ aY
attribute [local irreducible] Tm.at Trie.set Trie.get AMem.get AMem.set AMem.alloc AMem.ww AMem.kill
theorem C8 (n x1 l2 a3 c4 r) (hF:E5 n x1 l2=some r) (m) (h5:p8 m a3 c4 l2):
  aB an 132 [tH x1 a3 l2 c4] m (fun v m'=>∃x:Option Addr × Nat,v = .slice x.1 x.2 x.2∧Hp m m' [.sl x.1 1 x.2 (r.map (eN .u64))]):=by
 unfold E5 at hF;refine cw Tryz.func132 ((Hp.start m).i h5) ?_;refine wz ?_;refine wb fun b6=>?_;refine aq ?_;refine Wo.od (ai (k:=0) dU rfl rfl rfl) rfl ?_;obtain⟨h7,hF⟩:=ax hF;obtain⟨h8,hF⟩:=ax hF;refine Wo.x (sF (f:=eN .u64) (z0:=(0:Nat)) uC rfl h7 h8 E9 rfl rfl) gn rfl fun b9=>?_;refine aq ?_;refine Wo.od (ai (k:=1) q7 rfl rfl rfl) rfl ?_;refine wz ?_;refine Wk.block ?_;obtain⟨l56,h77,hF⟩:=J hF;refine ct (fun l56 (_:Unit)=>⟨(.exit 0),[(3,.slice (some ⟨b9,0,none⟩) x1.toNat x1.toNat)],[.arr b9 1 x1.toNat (l56.map (eN .u64)) .own]⟩) l56 ?_ ?_
 ·refine lo h77 () [0,2] (fun(l32,v33) _=>⟨.normal,[(3,.slice (some ⟨b9,0,none⟩) x1.toNat x1.toNat),(10,bG a3 l2 c4),(11,fG l2),(12,aX v33)],[.arr b9 1 x1.toNat (l32.map (eN .u64)) .own,ku a3 c4 l2]⟩) ?_;clear hF h77;rintro⟨l32,v33⟩ ⟨⟩ r hF;unfold sx at hF;refine wz ?_;refine Wk.seq ?_;rcases aa hF with⟨h57,hF⟩|⟨h57,hF⟩
  ·refine aq ?_;obtain⟨h58,hF⟩:=cQ hF;refine Wo.dK (k:=1) rfl (bK h58) ?_;rintro b59 o60 rfl;refine wz ?_;obtain⟨⟨x61,x62⟩,h63,hF⟩:=J hF;refine Wo.od (de (k:=0) fp rfl rfl (aR h63) rfl rfl) rfl<|wa Ct fun b64=>?_;refine Wo.o0 (aM (k:=0) fp rfl rfl rfl rfl rfl) ?_;refine aq ?_;refine Wo.od (ai (k:=0) dU rfl rfl rfl) rfl ?_;obtain⟨h65,hF⟩:=cQ hF;refine wz ?_;obtain⟨x66,h67,hF⟩:=J hF;refine Wo.od (eA (k:=2) bI rfl rfl (aR h67) rfl rfl) rfl ?_;refine wz ?_;refine Wo.od (ai (k:=0) dU rfl rfl rfl) rfl ?_;obtain⟨h68,hF⟩:=ax hF;refine Wo.od (aN rfl rfl (js rfl _ _ h68)) rfl ?_;refine wz ?_;obtain⟨h69,hF⟩:=cQ hF;refine wz ?_;refine Wo.o0 (iA (k:=2) (x1:=x66) (x2:=uw .u64 (uw .u64 x66 ||| uw .u64 (bY .u64 1 x62.toNat))) bI rfl rfl rfl h67 rfl) ?_;refine aq ?_;refine Wo.od (ai (k:=0) dU rfl rfl rfl) rfl ?_;obtain⟨h71,hF⟩:=cQ hF;refine wz ?_;obtain⟨x72,h73,hF⟩:=J hF;refine Wo.od (eA (k:=2) bI rfl rfl (aR h73) rfl rfl) rfl ?_;refine wz ?_;refine Wo.od (ai (k:=0) dU rfl rfl rfl) rfl ?_;obtain⟨h74,hF⟩:=ax hF;refine Wo.od (aN rfl rfl (js rfl _ _ h74)) rfl ?_;refine wz ?_;obtain⟨h75,hF⟩:=cQ hF;refine wz ?_;refine Wo.o0 (iA (k:=2) (x1:=x72) (x2:=uw .u64 (uw .u64 x72 ||| uw .u64 (bY .u64 1 x61.toNat))) bI rfl rfl rfl h73 rfl) ?_;refine aq ?_;cases hF;exact ae () [2,3]
  ·refine wz ?_;cases hF;exact ae () [0]
 ·clear h77;rintro⟨⟩;refine gG ?_;obtain rfl:=Option.some.inj hF;exact At.ret (.tmp rfl .nil) fun m' hm=>⟨((some ⟨b9,0,none⟩),x1.toNat),rfl,(ak.trans (ak.close (k:=0) rfl) (ak.az [0] rfl rfl)) m' hm⟩
theorem LU (n x1 l5 x3 a3 c1 r) (hF:PN n x1 l5 x3=some r) (m) (hG:Gl m) (h4:p8 m a3 c1 l5):
  aB an 91 [tH x1 a3 l5 c1,aU x3] m (fun v m'=>∃x:Option Addr × Nat,v = .slice x.1 x.2 x.2∧Hp m m' [.sl x.1 1 x.2 (r.map (eN .u64))]):=by
 unfold PN at hF;refine cw Tryz.func91 ((Hp.start m).i h4) ?_;refine wz ?_;refine wb fun b5=>?_;refine wb fun b0=>?_;refine aq ?_;refine Wo.od (ai (k:=1) gN rfl rfl rfl) rfl ?_;obtain⟨l1,h5,hF⟩:=J hF;refine wc gn (fun m hm=>C8 n x1 l5 a3 c1 _ h5 m (hm.q 2)) ?_;rintro⟨a0,n1⟩;refine Wo.len (k:=0) (xs:=l1) rfl ?_;rintro rfl;refine wa z76 fun b1=>?_;refine Wo.o0 (aM (k:=0) gY rfl rfl rfl rfl rfl) ?_;refine gG ?_;refine Wo.od (ai (k:=2) bI rfl rfl rfl) rfl ?_;refine wz ?_;refine Wk.block ?_;obtain⟨l3,h0,hF⟩:=J hF;refine ct (fun l3 (a2:Option Addr)=>⟨(.exit 0),[(6,rC a2 l3)],[fE a2 l3]⟩) l3 ?_ ?_
 ·refine Wk.qa (fs':=[(3,ptr b0 0),(5,ptr b1 0),(6,.slice none ([]:List (Nat)).length ([]:List (Nat)).length),(7,aU x3)]) (ps':=[ez b0 x3,jY b1 a0 l1,fE a0 l1,.sl none 1 ([]:List (Nat)).length (([]:List (Nat)).map (eN .u64))]) (sc rfl (sc rfl (sc rfl (sc rfl sn)))) (ak.trans (ak.nil 1 rfl) (ak.az [3,1,2,0] rfl rfl))<|Wk.loop (σ:=List (Nat) × Nat) (ρ:=List (Nat)) (γ:=Option Addr) (δ:=fun _=>Option Addr) _ (fun(s:List (Nat) × Nat) (g:Option Addr)=>match s,g with | (l2,v2),a1=>⟨.normal,[(3,ptr b0 0),(5,ptr b1 0),(6,rC a1 l2),(7,aU v2)],[ez b0 x3,jY b1 a0 l1,fE a0 l1,fE a1 l2]⟩) (fun(r:List (Nat)) (g:Option Addr)=>match r,g with|l3,a2=>⟨(.exit 0),[(6,rC a2 l3)],[fE a2 l3]⟩) ?_ (fun _ _=>rfl) (fun r d=>by intro e; cases e) _ _ _ h0 none
  clear hF h0;rintro⟨l2,v2⟩ a1 r hF;unfold yZ at hF;refine wz ?_;rcases aa hF with⟨h6,hF⟩|⟨h6,hF⟩
  ·refine aq ?_;refine Wo.od (II rfl (Mn rfl _)) rfl ?_;refine wz ?_;refine Wk.seq<|Wk.block ?_;obtain⟨v0,h1,hF⟩:=J hF;refine ct (fun v0 (_:Unit)=>⟨(.exit 2),[(3,ptr b0 0),(5,ptr b1 0),(6,rC a1 l2),(7,aU v2),(8,aU v0)],[ez b0 x3,jY b1 a0 l1,fE a0 l1,fE a1 l2]⟩) v0 ?_ ?_
   ·refine lo h1 () [0,1,2,3] (fun v3 _=>⟨.normal,[(3,ptr b0 0),(5,ptr b1 0),(6,rC a1 l2),(7,aU v2),(8,aU v3)],[ez b0 x3,jY b1 a0 l1,fE a0 l1,fE a1 l2]⟩) ?_;clear hF h1;rintro v3 ⟨⟩ r hF;unfold yb at hF;refine wz ?_;refine wa E9 fun b3=>?_;refine Wo.o0 (aM (k:=0) bI rfl rfl rfl rfl rfl) ?_;refine aq ?_;obtain⟨r1,h7,hF⟩:=J hF;refine Wo.x (fH (α:=Nat) (V:=fun g=>(fun(r:Unit) (g:Nat)=>match r,g with|_,b2=>(.func (.func 152) #[] #[ptr b2 0]:Value)) r1 g) (N:=fun g=>(fun(r:Unit) (g:Nat)=>match r,g with|_,b2=>([ez b2 v3,ez b0 x3,jY b1 a0 l1,fE a0 l1,fE a1 l2,ez b3 v3]:List Pc)) r1 g) rfl rfl (fun m hm=>?_)) gn rfl ?_
    ·clear hF;revert r1;intro r hF;refine bN (N:=4) (rs:=[.tmp 2]) rfl Tryz.func133 rfl rfl rfl hm ?_;refine wz ?_;refine wb fun b4=>?_;refine aq ?_;refine Wo.od (ta rfl rfl) rfl ?_;refine aq ?_;cases hF;exact ar b4 [0,2,3,4,5,1]
    ·clear h7;rintro b2;refine wz ?_;refine Wk.block ?_;obtain⟨v4,h8,hF⟩:=J hF;refine Wk.range (N:=14) (rs:=[]) (γ:=Unit) (X:=fun g=>(fun(r:Nat) (g:Unit)=>(match r,g with|v4,_=>⟨.ready,none,[ez b0 x3,jY b1 a0 l1,fE a0 l1,fE a1 l2,ez b3 v4]⟩:Rn)) v4 g) rfl rfl Tryz.func152 rfl rfl rfl ?_ (fun y=>by intro e; cases e) ?_
     ·clear hF;revert v4;intro r hF;intro t0 l4 r0 h9 h10;refine Wk.block ?_;obtain⟨v6,h2,hF⟩:=J hF;refine ct (fun v6 (_:Unit)=>⟨(.exit 0),[],[.obj l4 (r0 .ready none),ez b0 x3,jY b1 a0 l1,fE a0 l1,fE a1 l2,ez b3 v6]⟩) v6 ?_ ?_
      ·refine lo h2 () [0,1,2,3,4,5,6] (fun(v1,v7) _=>⟨.normal,[(0,.func (.yield l4) #[] #[]),(1,ptr b2 0)],[.obj l4 (r0 .ready none),ez b2 v1,ez b0 x3,jY b1 a0 l1,fE a0 l1,fE a1 l2,ez b3 v7]⟩) ?_;clear hF h2;rintro⟨v1,v7⟩ ⟨⟩ r hF;unfold tP at hF;refine wz ?_;refine Wo.od (ai (k:=1) bI rfl rfl rfl) rfl ?_;refine wz ?_;rcases aa hF with⟨h11,hF⟩|⟨h11,hF⟩
       ·refine aq ?_;refine Wo.od (ai (k:=1) bI rfl rfl rfl) rfl ?_;obtain⟨r2,h12,hF⟩:=J hF;refine wc gn (fun m hm=>vU n v1  _ h12 m (hG.ext hm.ext)) ?_;rintro⟨⟩;obtain⟨v5,h3,hF⟩:=J hF;refine Wo.x (FJ (k:=0) (k1:=0) (γA:=Unit) (GA:=(fun g:Unit=>(match g with|_=>⟨.normal,[(3,ptr b0 0),(5,ptr b1 0),(9,ptr b3 0),(10,aX r2)],[.obj l4 (r0 .ready none),ez b0 x3,jY b1 a0 l1,fE a0 l1,ez b3 v7,fE a1 l2,ez b2 v1]⟩:En))) (γ:=Unit) (G:=fun g=>(fun(r:Nat) (g:Unit)=>(match r,g with|v5,_=>⟨.normal,[],[.obj l4 (r0 .busy none),ez b0 x3,jY b1 a0 l1,fE a0 l1,fE a1 l2,ez b3 v5,ez b2 v1]⟩:En)) v5 g) rfl rfl rfl h10 h9 rfl ?_ (fun _=>rfl) (fun _=>rfl) ?_ (fun y=>rfl)) gn rfl ?_
        ·clear hF h3;refine wz ?_;exact ae () [0,2,3,4,6,5,1]
        ·clear hF;revert v5;intro r hF;rintro⟨⟩;refine wz ?_;refine Wo.od (ai (k:=4) bI rfl rfl rfl) rfl<|Wo.od (ai (k:=2) gY rfl rfl rfl) rfl ?_;refine wz ?_;obtain⟨h13,hF⟩:=cQ hF;refine Wo.open (k:=3) rfl (bK h13) ?_;rintro b6 t1 rfl h18;refine wz ?_;obtain⟨x4,h14,hF⟩:=J hF;refine Wo.od (eA (k:=3) bI rfl rfl (aR h14) rfl rfl) rfl<|Wo.od (ai (k:=1) bI rfl rfl rfl) rfl<|Wo.od (aN rfl rfl (lC rfl _ _)) rfl ?_;obtain⟨y2,h15,hF⟩:=J hF;refine Wo.od (aN rfl rfl ((zg rfl _ _).trans (cN h15))) rfl<|Wo.o0 (aM (k:=4) bI rfl rfl rfl rfl rfl) ?_;refine wz ?_;obtain rfl:=Option.some.inj hF;exact At.en () rfl sn (ak.trans (ak.close (k:=3) rfl) (ak.az [0,1,2,3,5,4,6] rfl rfl))
        ·clear h3;rintro⟨⟩;refine gG ?_;refine Wo.od (ai (k:=6) bI rfl rfl rfl) rfl<|Wo.od (ai (k:=6) bI rfl rfl rfl) rfl ?_;refine wz ?_;refine Wo.o0 (aM (k:=6) bI rfl rfl rfl rfl rfl)<|Wo.nil ?_;cases hF;exact ae () [0,6,1,2,3,4,5]
       ·refine wz ?_;cases hF;exact ae () [0,2,3,4,5,6]
      ·clear h2;rintro⟨⟩;refine At.be ?_;obtain rfl:=Option.some.inj hF;exact At.fin .nil fun m' hm=>⟨(),(ak.az [0,1,2,3,4,5] rfl rfl) m' hm⟩
     ·clear h8;rintro⟨⟩
      change At _ .normal _ _ _
      refine aq ?_;refine Wo.od (ai (k:=4) bI rfl rfl rfl) rfl ?_;refine wz ?_;rcases aa hF with⟨h16,hF⟩|⟨h16,hF⟩
      ·refine wz ?_;cases hF;exact ae () [0,1,2,3]
      ·refine aq ?_;refine Wo.od (ai (k:=4) bI rfl rfl rfl) rfl ?_;refine wz ?_;cases hF;exact ae () [0,1,2,3]
   ·clear h1;rintro⟨⟩;refine aq ?_;refine Wo.x (Ae (es:=([v0]:List (Nat)).map (eN .u64)) uC rfl (za uC E9 rfl rfl) rfl rfl) gn rfl fun b7=>?_;obtain⟨h17,hF⟩:=ax hF;refine Wo.x (CN (k:=4) (k2:=0) (xs:=(l2:List (Nat))) (ys:=([v0]:List (Nat))) (pM .u64) uC ⟨_,QM⟩ rfl rfl rfl (.arr _ _ _ _ _) h17) gn rfl fun a4=>?_;refine aq ?_;cases hF;exact ae a4 [1,2,3,4]
  ·refine wz ?_;cases hF;exact ae a1 [3]
 ·clear h0;rintro a2;refine gG ?_;obtain rfl:=Option.some.inj hF;exact ar (a2,l3.length) [0]
theorem NT (n x1 l2 x6 a3 c4 r) (hF:Qb n x1 l2 x6=some r) (m) (hG:Gl m) (h5:p8 m a3 c4 l2):
  aB an 38 [tH x1 a3 l2 c4,aU x6] m (fun v m'=>∃_:Unit,v = .tuple #[.bool r.1,.int .i64 r.2]∧Hp m m' []):=by
 unfold Qb at hF;refine cw Tryz.func38 ((Hp.start m).i h5) ?_;refine wz ?_;refine wb fun b7=>?_;refine aq ?_;refine Wo.od (ai (k:=0) gN rfl rfl rfl) rfl ?_;refine wz ?_;obtain⟨r9,h8,hF⟩:=J hF;refine wc gn (fun m hm=>Iz n x1 l2 x6 a3 c4 _ h8 m (hm.q 1)) ?_;rintro⟨⟩;refine aq ?_;rcases aa hF with⟨h10,hF⟩|⟨h10,hF⟩
 ·refine aq ?_;cases hF;exact ar () []
 ·refine aq ?_;refine Wo.od (ai (k:=0) gN rfl rfl rfl) rfl ?_;refine wz ?_;obtain⟨l12,h11,hF⟩:=J hF;refine wc gn (fun m hm=>LU n x1 l2 x6 a3 c4 _ h11 m (hG.ext hm.ext) (hm.q 1)) ?_;rintro⟨a13,n14⟩;refine Wo.len (k:=0) (xs:=l12) rfl ?_;rintro rfl;refine aq ?_;cases hF;exact ar () []
theorem Np (n x1 x2 x3 x4 x5 x6 x7 x8 r) (hF:Qe n x1 x2 x3 x4 x5 x6 x7 x8=some r) (m):
  aB an 32 [JT x1 x2 x3 x4 x5 x6 x7 x8] m (fun v m'=>∃_:Unit,v = .int .i64 r∧Hp m m' []):=by
 unfold Qe at hF;refine cw Tryz.func32 (Hp.start m) ?_;refine wz ?_;refine wb fun b9=>?_;refine aq ?_;refine Wo.od (ai (k:=0) eO rfl rfl rfl) rfl ?_;obtain⟨⟨r11,r12,r13,r14,r15,r16,r17,r18,r19⟩,h10,hF⟩:=J hF;refine wc gn (fun m hm=>Hh n x1 x2 x3 x4 x5 x6 x7 x8  _ h10 m) ?_;rintro⟨⟩;refine Wo.od (KD rfl ((Jn _).trans (w9 tW rfl))) rfl ?_;refine wz ?_;rcases aa hF with⟨h20,hF⟩|⟨h20,hF⟩
 ·refine aq ?_;cases hF;exact ar () []
 ·refine wz ?_;refine Wo.od (ai (k:=0) eO rfl rfl rfl) rfl<|Wo.od (eB rfl z38 rfl (eE BG rfl rfl rfl)) rfl<|Wo.od (aN rfl rfl (ue NP (MT _ _ _ _ _ _ _ _ _ _ _ _ _ _ _ _))) rfl ?_;refine wz ?_;rcases aa hF with⟨h21,hF⟩|⟨h21,hF⟩
  ·refine aq ?_;cases hF;exact ar () []
  ·refine gG ?_;cases hF;exact ar () []
theorem Jf (n l1 x4 b1 b7 b2 b8 b5 a0 b6 b3 b4 b0 b9) {m0:AMem} (hG:Gl m0): ∀(k:Nat) (l3:List (Int × Int)) (l5:List (Int × Int)) (l7:List ((Int × Int) × Bool)) (v1:Nat) (x3:Int) (x5:Int) (l12:List (Int × Int)) (l13:List (Int × Int)) (l14:List ((Int × Int) × Bool)) (v3:Nat),zy n l1 x4 k (l3,l5,l7,v1) (x3,x5)=some (l12,l13,l14,v3)→∀(rest:List Pc) (m:AMem),Hp m0 m (.obj b1 (.cells [da b7] .own)::.obj b7 (.map (l3.map (eM (fun n:Int=>.int .i64 n) (fun n:Int=>.int .i64 n))))::.obj b2 (.cells [da b8] .own)::.obj b8 (.map (l5.map (eM (fun n:Int=>.int .i64 n) (fun n:Int=>.int .i64 n))))::.obj b5 (.cells [rC a0 l1] .own)::.sl a0 1 l1.length (l1.map (eN .u64))::.obj b6 (.cells [aU x4] .own)::.obj b3 (.cells [.func (.func 134) #[] #[ptr b1 0,ptr b2 0,ptr b5 0,ptr b6 0,ptr b3 0,ptr b4 0,ptr b0 0]] .own)::.obj b4 (.cells [da b9] .own)::.obj b9 (.map (l7.map (eM (fun p:Int × Int=>.agg #[.int .i64 p.1,.int .i64 p.2]) (fun b:Bool=>.bool b))))::.obj b0 (.cells [aU v1] .own)::rest) →
  aB an 134 [aX x3,aX x5,ptr b1 0,ptr b2 0,ptr b5 0,ptr b6 0,ptr b3 0,ptr b4 0,ptr b0 0] m (fun v m'=>∃_:Unit,v = .tuple #[]∧Hp m0 m' (.obj b1 (.cells [da b7] .own)::.obj b7 (.map (l12.map (eM (fun n:Int=>.int .i64 n) (fun n:Int=>.int .i64 n))))::.obj b2 (.cells [da b8] .own)::.obj b8 (.map (l13.map (eM (fun n:Int=>.int .i64 n) (fun n:Int=>.int .i64 n))))::.obj b5 (.cells [rC a0 l1] .own)::.sl a0 1 l1.length (l1.map (eN .u64))::.obj b6 (.cells [aU x4] .own)::.obj b3 (.cells [.func (.func 134) #[] #[ptr b1 0,ptr b2 0,ptr b5 0,ptr b6 0,ptr b3 0,ptr b4 0,ptr b0 0]] .own)::.obj b4 (.cells [da b9] .own)::.obj b9 (.map (l14.map (eM (fun p:Int × Int=>.agg #[.int .i64 p.1,.int .i64 p.2]) (fun b:Bool=>.bool b))))::.obj b0 (.cells [aU v3] .own)::rest)):=by
 intro k
 induction k with
 | zero=>intro l3 l5 l7 v1 x3 x5 l12 l13 l14 v3 hF; cases hF
 | succ k ih =>
  intro l3 l5 l7 v1 x3 x5 l12 l13 l14 v3 hF rest m hm;replace hF:xM n (zy n l1 x4 k) l1 x4 (l3,l5,l7,v1) (x3,x5)=_:=hF;unfold xM at hF;refine bN (N:=102) (rs:=[]) rfl Tryz.func134 rfl rfl rfl hm ?_;clear hm;refine wz ?_;refine wb fun b11=>?_;refine wb fun b12=>?_;refine aq ?_;refine Wo.od (ai (k:=2) cT rfl rfl rfl) rfl<|Wo.od (ai (k:=1) dU rfl rfl rfl) rfl<|Wo.od (ai (k:=2) cT rfl rfl rfl) rfl ?_;obtain⟨y4,h1,hF⟩:=J hF;replace h1:=Option.some.inj h1;refine Wo.od (vO (q:=3) (xs:=l3) fF rfl rfl h1) rfl ?_;refine wz ?_;refine Wo.o0 (DU (q:=3) (xs:=l3) (k:=x3) (v:=IntKind.wrap .i64 ((y4:Int)+1)) (vE:=(fun n:Int=>.int .i64 n)) fF (fK u3) rfl rfl rfl rfl) ?_;refine aq ?_;refine Wo.od (ai (k:=4) cT rfl rfl rfl) rfl<|Wo.od (ai (k:=1) dU rfl rfl rfl) rfl<|Wo.od (ai (k:=2) cT rfl rfl rfl) rfl<|Wo.od (ai (k:=1) dU rfl rfl rfl) rfl ?_;obtain⟨y5,h5,hF⟩:=J hF;refine Wo.od (kB (q:=3) (xs:=(bR l3 x3 (IntKind.wrap .i64 ((y4:Int)+1)))) (k:=x3) (vE:=(fun n:Int=>.int .i64 n)) (z0:=(0:Int)) fF (fK u3) z3 rfl rfl rfl rfl h5) rfl<|Wo.o0 (DU (q:=5) (xs:=l5) (k:=x3) (v:=y5) (vE:=(fun n:Int=>.int .i64 n)) fF (fK u3) rfl rfl rfl rfl) ?_;refine aq ?_;refine wa z3 fun b13=>?_;refine Wo.o0 (aM (k:=0) dU rfl rfl rfl rfl rfl) ?_;refine aq ?_;refine Wo.od (ai (k:=7) gY rfl rfl rfl) rfl<|Wo.od (ai (k:=2) dU rfl rfl rfl) rfl ?_;obtain⟨h6,hF⟩:=cQ hF;refine Wo.open (k:=8) rfl (bK h6) ?_;rintro b10 t0 rfl h34;refine wz ?_;obtain⟨x6,h7,hF⟩:=J hF;refine Wo.od (eA (k:=8) bI rfl rfl (aR h7) rfl rfl) rfl<|Wo.od (ai (k:=9) bI rfl rfl rfl) rfl ?_;refine wz ?_;obtain⟨r2,h8,hF⟩:=J hF;refine Wo.x (fH (α:=Nat) (V:=fun g=>(fun(r:Unit) (g:Nat)=>match r,g with|_,b14=>(.func (.func 152) #[] #[ptr b14 0]:Value)) r2 g) (N:=fun g=>(fun(r:Unit) (g:Nat)=>match r,g with|_,b14=>((.obj b14 (.cells [.int .u64 ((uw .u64 (uw .u64 x6 &&& uw .u64 x4):Nat):Int)] .own)::.obj b1 (.cells [da b7] .own)::.obj b7 (.map ((bR l3 x3 (IntKind.wrap .i64 ((y4:Int)+1))).map (eM (fun n:Int=>.int .i64 n) (fun n:Int=>.int .i64 n))))::.obj b2 (.cells [da b8] .own)::.obj b8 (.map ((bR l5 x3 y5).map (eM (fun n:Int=>.int .i64 n) (fun n:Int=>.int .i64 n))))::.obj b5 (.cells [qd b10 l1] .own)::.arr b10 1 l1.length (l1.map (eN .u64)) t0::.obj b6 (.cells [aU x4] .own)::.obj b3 (.cells [.func (.func 134) #[] #[ptr b1 0,ptr b2 0,ptr b5 0,ptr b6 0,ptr b3 0,ptr b4 0,ptr b0 0]] .own)::.obj b4 (.cells [da b9] .own)::.obj b9 (.map (l7.map (eM (fun p:Int × Int=>.agg #[.int .i64 p.1,.int .i64 p.2]) (fun b:Bool=>.bool b))))::.obj b0 (.cells [aU v1] .own)::.obj b11 (.cells [aX x3] .own)::.obj b12 (.cells [aX x5] .own)::.obj b13 (.cells [.int .i64 0] .own)::rest):List Pc)) r2 g) rfl rfl (fun m hm=>?_)) gn rfl ?_
  ·clear hF;revert r2;intro r hF;refine bN (N:=4) (rs:=[.tmp 2]) rfl Tryz.func133 rfl rfl rfl hm ?_;refine wz ?_;refine wb fun b15=>?_;refine aq ?_;refine Wo.od (ta rfl rfl) rfl ?_;refine aq ?_;cases hF;exact At.ret (.tmp rfl .nil) fun m' hm=>⟨b15,rfl,(ak.dj 15 [0,4,5,6,7,8,9,10,11,12,13,14,3,2,1] rfl rfl rfl) m' hm⟩
  ·clear h8;rintro b14;refine wz ?_;refine Wk.block ?_;obtain⟨r3,h9,hF⟩:=J hF;refine Wk.range (N:=14) (rs:=[]) (γ:=Unit) (X:=fun g=>(fun(r:List (Int × Int) × List (Int × Int) × List ((Int × Int) × Bool) × Nat × Int) (g:Unit)=>(match r,g with | (l19,l20,l21,v10,v11),_=>⟨.ready,none,(.obj b1 (.cells [da b7] .own)::.obj b7 (.map (l19.map (eM (fun n:Int=>.int .i64 n) (fun n:Int=>.int .i64 n))))::.obj b2 (.cells [da b8] .own)::.obj b8 (.map (l20.map (eM (fun n:Int=>.int .i64 n) (fun n:Int=>.int .i64 n))))::.obj b5 (.cells [qd b10 l1] .own)::.sl (some ⟨b10,0,none⟩) 1 l1.length (l1.map (eN .u64))::.obj b6 (.cells [aU x4] .own)::.obj b3 (.cells [.func (.func 134) #[] #[ptr b1 0,ptr b2 0,ptr b5 0,ptr b6 0,ptr b3 0,ptr b4 0,ptr b0 0]] .own)::.obj b4 (.cells [da b9] .own)::.obj b9 (.map (l21.map (eM (fun p:Int × Int=>.agg #[.int .i64 p.1,.int .i64 p.2]) (fun b:Bool=>.bool b))))::.obj b0 (.cells [aU v10] .own)::.obj b11 (.cells [aX x3] .own)::.obj b12 (.cells [aX x5] .own)::.obj b13 (.cells [aX v11] .own)::rest)⟩:Rn)) r3 g) rfl rfl Tryz.func152 rfl rfl rfl ?_ (fun y=>by intro e; cases e) ?_
   ·clear hF;revert r3;intro r hF;intro t1 l2 r1 h10 h11;refine Wk.block ?_;obtain⟨r5,h2,hF⟩:=J hF;refine ct (fun(l15,l16,l17,v4,v5) (_:Unit)=>⟨(.exit 0),[],(.obj l2 (r1 .ready none)::.obj b1 (.cells [da b7] .own)::.obj b7 (.map (l15.map (eM (fun n:Int=>.int .i64 n) (fun n:Int=>.int .i64 n))))::.obj b2 (.cells [da b8] .own)::.obj b8 (.map (l16.map (eM (fun n:Int=>.int .i64 n) (fun n:Int=>.int .i64 n))))::.obj b5 (.cells [qd b10 l1] .own)::.sl (some ⟨b10,0,none⟩) 1 l1.length (l1.map (eN .u64))::.obj b6 (.cells [aU x4] .own)::.obj b3 (.cells [.func (.func 134) #[] #[ptr b1 0,ptr b2 0,ptr b5 0,ptr b6 0,ptr b3 0,ptr b4 0,ptr b0 0]] .own)::.obj b4 (.cells [da b9] .own)::.obj b9 (.map (l17.map (eM (fun p:Int × Int=>.agg #[.int .i64 p.1,.int .i64 p.2]) (fun b:Bool=>.bool b))))::.obj b0 (.cells [aU v4] .own)::.obj b11 (.cells [aX x3] .own)::.obj b12 (.cells [aX x5] .own)::.obj b13 (.cells [aX v5] .own)::rest)⟩) r5 ?_ ?_
    ·refine Wk.qa (fs':=[(0,.func (.yield l2) #[] #[]),(1,ptr b14 0)]) (ps':=(.obj l2 (r1 .ready none)::.obj b14 (.cells [.int .u64 (((uw .u64 (uw .u64 x6 &&& uw .u64 x4)):Nat):Int)] .own)::.obj b1 (.cells [da b7] .own)::.obj b7 (.map ((bR l3 x3 (IntKind.wrap .i64 ((y4:Int)+1))).map (eM (fun n:Int=>.int .i64 n) (fun n:Int=>.int .i64 n))))::.obj b2 (.cells [da b8] .own)::.obj b8 (.map ((bR l5 x3 y5).map (eM (fun n:Int=>.int .i64 n) (fun n:Int=>.int .i64 n))))::.obj b5 (.cells [qd b10 l1] .own)::.sl (some ⟨b10,0,none⟩) 1 l1.length (l1.map (eN .u64))::.obj b6 (.cells [aU x4] .own)::.obj b3 (.cells [.func (.func 134) #[] #[ptr b1 0,ptr b2 0,ptr b5 0,ptr b6 0,ptr b3 0,ptr b4 0,ptr b0 0]] .own)::.obj b4 (.cells [da b9] .own)::.obj b9 (.map (l7.map (eM (fun p:Int × Int=>.agg #[.int .i64 p.1,.int .i64 p.2]) (fun b:Bool=>.bool b))))::.obj b0 (.cells [aU v1] .own)::.obj b11 (.cells [aX x3] .own)::.obj b12 (.cells [aX x5] .own)::.obj b13 (.cells [.int .i64 0] .own)::rest)) (sc rfl (sc rfl sn)) (ak.trans (ak.close (k:=7) rfl) (ak.dj 16 [0,1,2,3,4,5,6,7,8,9,10,11,12,13,14,15] rfl rfl rfl))<|Wk.loop (σ:=Nat × List (Int × Int) × List (Int × Int) × List ((Int × Int) × Bool) × Nat × Int) (ρ:=List (Int × Int) × List (Int × Int) × List ((Int × Int) × Bool) × Nat × Int) (γ:=Unit) (δ:=fun _=>Unit) _ (fun(s:Nat × List (Int × Int) × List (Int × Int) × List ((Int × Int) × Bool) × Nat × Int) (g:Unit)=>match s,g with | (v0,l8,l9,l18,v6,v2),_=>⟨.normal,[(0,.func (.yield l2) #[] #[]),(1,ptr b14 0)],(.obj l2 (r1 .ready none)::.obj b14 (.cells [aU v0] .own)::.obj b1 (.cells [da b7] .own)::.obj b7 (.map (l8.map (eM (fun n:Int=>.int .i64 n) (fun n:Int=>.int .i64 n))))::.obj b2 (.cells [da b8] .own)::.obj b8 (.map (l9.map (eM (fun n:Int=>.int .i64 n) (fun n:Int=>.int .i64 n))))::.obj b5 (.cells [qd b10 l1] .own)::.sl (some ⟨b10,0,none⟩) 1 l1.length (l1.map (eN .u64))::.obj b6 (.cells [aU x4] .own)::.obj b3 (.cells [.func (.func 134) #[] #[ptr b1 0,ptr b2 0,ptr b5 0,ptr b6 0,ptr b3 0,ptr b4 0,ptr b0 0]] .own)::.obj b4 (.cells [da b9] .own)::.obj b9 (.map (l18.map (eM (fun p:Int × Int=>.agg #[.int .i64 p.1,.int .i64 p.2]) (fun b:Bool=>.bool b))))::.obj b0 (.cells [aU v6] .own)::.obj b11 (.cells [aX x3] .own)::.obj b12 (.cells [aX x5] .own)::.obj b13 (.cells [aX v2] .own)::rest)⟩) (fun(r:List (Int × Int) × List (Int × Int) × List ((Int × Int) × Bool) × Nat × Int) (g:Unit)=>match r,g with | (l15,l16,l17,v4,v5),_=>⟨(.exit 0),[],(.obj l2 (r1 .ready none)::.obj b1 (.cells [da b7] .own)::.obj b7 (.map (l15.map (eM (fun n:Int=>.int .i64 n) (fun n:Int=>.int .i64 n))))::.obj b2 (.cells [da b8] .own)::.obj b8 (.map (l16.map (eM (fun n:Int=>.int .i64 n) (fun n:Int=>.int .i64 n))))::.obj b5 (.cells [qd b10 l1] .own)::.sl (some ⟨b10,0,none⟩) 1 l1.length (l1.map (eN .u64))::.obj b6 (.cells [aU x4] .own)::.obj b3 (.cells [.func (.func 134) #[] #[ptr b1 0,ptr b2 0,ptr b5 0,ptr b6 0,ptr b3 0,ptr b4 0,ptr b0 0]] .own)::.obj b4 (.cells [da b9] .own)::.obj b9 (.map (l17.map (eM (fun p:Int × Int=>.agg #[.int .i64 p.1,.int .i64 p.2]) (fun b:Bool=>.bool b))))::.obj b0 (.cells [aU v4] .own)::.obj b11 (.cells [aX x3] .own)::.obj b12 (.cells [aX x5] .own)::.obj b13 (.cells [aX v5] .own)::rest)⟩) ?_ (fun _ _=>rfl) (fun r d=>by intro e; cases e) _ _ _ h2 ()
     clear hF h2;rintro⟨v0,l8,l9,l18,v6,v2⟩ ⟨⟩ r hF;unfold oJ at hF;refine wz ?_;refine Wo.od (ai (k:=1) bI rfl rfl rfl) rfl ?_;refine wz ?_;rcases aa hF with⟨h12,hF⟩|⟨h12,hF⟩
     ·refine aq ?_;refine Wo.od (ai (k:=1) bI rfl rfl rfl) rfl ?_;obtain⟨r0,h13,hF⟩:=J hF;refine wc gn (fun m hm=>vU n v0  _ h13 m (hG.ext hm.ext)) ?_;rintro⟨⟩;obtain⟨r4,h3,hF⟩:=J hF;refine Wo.x (FJ (k:=0) (k1:=0) (γA:=Unit) (GA:=(fun g:Unit=>(match g with|_=>⟨.normal,[(2,ptr b1 0),(3,ptr b2 0),(6,ptr b3 0),(7,ptr b4 0),(8,ptr b0 0),(9,ptr b11 0),(10,ptr b12 0),(11,ptr b13 0),(12,aX r0)],(.obj l2 (r1 .ready none)::.obj b1 (.cells [da b7] .own)::.obj b7 (.map (l8.map (eM (fun n:Int=>.int .i64 n) (fun n:Int=>.int .i64 n))))::.obj b2 (.cells [da b8] .own)::.obj b8 (.map (l9.map (eM (fun n:Int=>.int .i64 n) (fun n:Int=>.int .i64 n))))::.obj b3 (.cells [.func (.func 134) #[] #[ptr b1 0,ptr b2 0,ptr b5 0,ptr b6 0,ptr b3 0,ptr b4 0,ptr b0 0]] .own)::.obj b5 (.cells [qd b10 l1] .own)::.sl (some ⟨b10,0,none⟩) 1 l1.length (l1.map (eN .u64))::.obj b6 (.cells [aU x4] .own)::.obj b4 (.cells [da b9] .own)::.obj b9 (.map (l18.map (eM (fun p:Int × Int=>.agg #[.int .i64 p.1,.int .i64 p.2]) (fun b:Bool=>.bool b))))::.obj b0 (.cells [aU v6] .own)::.obj b11 (.cells [aX x3] .own)::.obj b12 (.cells [aX x5] .own)::.obj b13 (.cells [aX v2] .own)::.obj b14 (.cells [aU v0] .own)::rest)⟩:En))) (γ:=Unit) (G:=fun g=>(fun(r:List (Int × Int) × List (Int × Int) × List ((Int × Int) × Bool) × Nat × Int) (g:Unit)=>(match r,g with | (l23,l24,l25,v12,v13),_=>⟨.normal,[],(.obj l2 (r1 .busy none)::.obj b1 (.cells [da b7] .own)::.obj b7 (.map (l23.map (eM (fun n:Int=>.int .i64 n) (fun n:Int=>.int .i64 n))))::.obj b2 (.cells [da b8] .own)::.obj b8 (.map (l24.map (eM (fun n:Int=>.int .i64 n) (fun n:Int=>.int .i64 n))))::.obj b5 (.cells [qd b10 l1] .own)::.sl (some ⟨b10,0,none⟩) 1 l1.length (l1.map (eN .u64))::.obj b6 (.cells [aU x4] .own)::.obj b3 (.cells [.func (.func 134) #[] #[ptr b1 0,ptr b2 0,ptr b5 0,ptr b6 0,ptr b3 0,ptr b4 0,ptr b0 0]] .own)::.obj b4 (.cells [da b9] .own)::.obj b9 (.map (l25.map (eM (fun p:Int × Int=>.agg #[.int .i64 p.1,.int .i64 p.2]) (fun b:Bool=>.bool b))))::.obj b0 (.cells [aU v12] .own)::.obj b11 (.cells [aX x3] .own)::.obj b12 (.cells [aX x5] .own)::.obj b13 (.cells [aX v13] .own)::.obj b14 (.cells [aU v0] .own)::rest)⟩:En)) r4 g) rfl rfl rfl h11 h10 rfl ?_ (fun _=>rfl) (fun _=>rfl) ?_ (fun y=>rfl)) gn rfl ?_
      ·clear hF h3;refine wz ?_;exact At.en () rfl (sc rfl (sc rfl (sc rfl (sc rfl (sc rfl (sc rfl (sc rfl (sc rfl (sc rfl sn))))))))) (ak.dj 16 [0,2,3,4,5,9,6,7,8,10,11,12,13,14,15,1] rfl rfl rfl)
      ·clear hF;revert r4;intro r hF;rintro⟨⟩;refine wz ?_;refine Wo.od (ai (k:=13) dU rfl rfl rfl) rfl ?_;refine wz ?_;rcases aa hF with⟨h14,hF⟩|⟨h14,hF⟩
       ·refine wz ?_;cases hF;exact At.en () rfl sn (ak.dj 16 [0,1,2,3,4,6,7,8,5,9,10,11,12,13,14,15] rfl rfl rfl)
       ·refine aq ?_;refine Wo.od (ai (k:=1) cT rfl rfl rfl) rfl ?_;refine wz ?_;obtain⟨y8,h15,hF⟩:=J hF;refine Wo.od (kB (q:=2) (xs:=l8) (k:=r0) (vE:=(fun n:Int=>.int .i64 n)) (z0:=(0:Int)) fF (fK u3) z3 rfl rfl rfl rfl h15) rfl ?_;refine wz ?_;rcases aa hF with⟨h16,hF⟩|⟨h16,hF⟩
        ·refine wz ?_;refine Wo.od (ai (k:=3) cT rfl rfl rfl) rfl<|Wo.od (ai (k:=12) dU rfl rfl rfl) rfl<|Wo.od (ai (k:=3) cT rfl rfl rfl) rfl<|Wo.od (ai (k:=12) dU rfl rfl rfl) rfl ?_;obtain⟨y6,h17,hF⟩:=J hF;refine Wo.od (kB (q:=4) (xs:=l9) (k:=x3) (vE:=(fun n:Int=>.int .i64 n)) (z0:=(0:Int)) fF (fK u3) z3 rfl rfl rfl rfl h17) rfl<|Wo.od (ai (k:=1) cT rfl rfl rfl) rfl ?_;refine wz ?_;obtain⟨y7,h18,hF⟩:=J hF;refine Wo.od (kB (q:=2) (xs:=l8) (k:=r0) (vE:=(fun n:Int=>.int .i64 n)) (z0:=(0:Int)) fF (fK u3) z3 rfl rfl rfl rfl h18) rfl<|Wo.od (EA rfl rfl (Dq _ _)) rfl<|Wo.o0 (DU (q:=4) (xs:=l9) (k:=x3) (v:=mi y6 y7) (vE:=(fun n:Int=>.int .i64 n)) fF (fK u3) rfl rfl rfl rfl) ?_;refine aq ?_;cases hF;exact At.en () rfl sn (ak.dj 16 [0,1,2,3,4,6,7,8,5,9,10,11,12,13,14,15] rfl rfl rfl)
        ·refine aq ?_;refine Wo.od (ai (k:=14) dU rfl rfl rfl) rfl ?_;refine wz ?_;refine Wo.o0 (aM (k:=14) dU rfl rfl rfl rfl rfl) ?_;refine aq ?_;refine Wo.od (ai (k:=5) Fq rfl rfl rfl) rfl ?_;refine wz ?_;refine Wo.od (ai (k:=12) dU rfl rfl rfl) rfl ?_;obtain⟨⟨l10,l4,l22,v7⟩,h19,hF⟩:=J hF;refine Wo.md (ak.dj 16 [1,2,3,4,6,7,8,5,9,10,11,0,12,13,14,15] rfl rfl rfl)<|Wo.x (fH (α:=Unit) (V:=fun _=>.tuple #[]) (N:=fun _=>(.obj b1 (.cells [da b7] .own)::.obj b7 (.map (l10.map (eM (fun n:Int=>.int .i64 n) (fun n:Int=>.int .i64 n))))::.obj b2 (.cells [da b8] .own)::.obj b8 (.map (l4.map (eM (fun n:Int=>.int .i64 n) (fun n:Int=>.int .i64 n))))::.obj b5 (.cells [qd b10 l1] .own)::.sl (some ⟨b10,0,none⟩) 1 l1.length (l1.map (eN .u64))::.obj b6 (.cells [aU x4] .own)::.obj b3 (.cells [.func (.func 134) #[] #[ptr b1 0,ptr b2 0,ptr b5 0,ptr b6 0,ptr b3 0,ptr b4 0,ptr b0 0]] .own)::.obj b4 (.cells [da b9] .own)::.obj b9 (.map (l22.map (eM (fun p:Int × Int=>.agg #[.int .i64 p.1,.int .i64 p.2]) (fun b:Bool=>.bool b))))::.obj b0 (.cells [aU v7] .own)::.obj l2 (r1 .busy none)::.obj b11 (.cells [aX x3] .own)::.obj b12 (.cells [aX x5] .own)::.obj b13 (.cells [JZ v2] .own)::.obj b14 (.cells [aU v0] .own)::rest)) rfl rfl (fun m hm=>ih l8 l9 l18 v6 r0 x3 l10 l4 l22 v7 h19 (.obj l2 (r1 .busy none)::.obj b11 (.cells [aX x3] .own)::.obj b12 (.cells [aX x5] .own)::.obj b13 (.cells [JZ v2] .own)::.obj b14 (.cells [aU v0] .own)::rest) m hm)) gn rfl fun _=>?_;refine aq ?_;refine Wo.od (ai (k:=2) cT rfl rfl rfl) rfl<|Wo.od (ai (k:=12) dU rfl rfl rfl) rfl<|Wo.od (ai (k:=2) cT rfl rfl rfl) rfl<|Wo.od (ai (k:=12) dU rfl rfl rfl) rfl ?_;obtain⟨y2,h20,hF⟩:=J hF;refine Wo.od (kB (q:=3) (xs:=l4) (k:=x3) (vE:=(fun n:Int=>.int .i64 n)) (z0:=(0:Int)) fF (fK u3) z3 rfl rfl rfl rfl h20) rfl<|Wo.od (ai (k:=2) cT rfl rfl rfl) rfl ?_;refine wz ?_;obtain⟨y3,h21,hF⟩:=J hF;refine Wo.od (kB (q:=3) (xs:=l4) (k:=r0) (vE:=(fun n:Int=>.int .i64 n)) (z0:=(0:Int)) fF (fK u3) z3 rfl rfl rfl rfl h21) rfl<|Wo.od (EA rfl rfl (Dq _ _)) rfl<|Wo.o0 (DU (q:=3) (xs:=l4) (k:=x3) (v:=mi y2 y3) (vE:=(fun n:Int=>.int .i64 n)) fF (fK u3) rfl rfl rfl rfl) ?_;refine wz ?_;refine Wk.seq ?_;obtain⟨l11,h22,hF⟩:=J hF;refine ct (fun l11 (_:Unit)=>⟨.normal,[(2,ptr b1 0),(3,ptr b2 0),(6,ptr b3 0),(7,ptr b4 0),(8,ptr b0 0),(9,ptr b11 0),(10,ptr b12 0),(11,ptr b13 0),(12,aX r0)],(.obj l2 (r1 .busy none)::.obj b1 (.cells [da b7] .own)::.obj b7 (.map (l10.map (eM (fun n:Int=>.int .i64 n) (fun n:Int=>.int .i64 n))))::.obj b2 (.cells [da b8] .own)::.obj b8 (.map ((bR l4 x3 (mi y2 y3)).map (eM (fun n:Int=>.int .i64 n) (fun n:Int=>.int .i64 n))))::.obj b3 (.cells [.func (.func 134) #[] #[ptr b1 0,ptr b2 0,ptr b5 0,ptr b6 0,ptr b3 0,ptr b4 0,ptr b0 0]] .own)::.obj b5 (.cells [qd b10 l1] .own)::.sl (some ⟨b10,0,none⟩) 1 l1.length (l1.map (eN .u64))::.obj b6 (.cells [aU x4] .own)::.obj b4 (.cells [da b9] .own)::.obj b9 (.map (l11.map (eM (fun p:Int × Int=>.agg #[.int .i64 p.1,.int .i64 p.2]) (fun b:Bool=>.bool b))))::.obj b0 (.cells [aU v7] .own)::.obj b11 (.cells [aX x3] .own)::.obj b12 (.cells [aX x5] .own)::.obj b13 (.cells [JZ v2] .own)::.obj b14 (.cells [aU v0] .own)::rest)⟩) l11 ?_ ?_
         ·clear hF;revert l11;intro r hF;refine wz ?_;refine Wo.od (ai (k:=2) cT rfl rfl rfl) rfl ?_;refine wz ?_;obtain⟨y9,h23,hF⟩:=J hF;refine Wo.od (kB (q:=3) (xs:=(bR l4 x3 (mi y2 y3))) (k:=r0) (vE:=(fun n:Int=>.int .i64 n)) (z0:=(0:Int)) fF (fK u3) z3 rfl rfl rfl rfl h23) rfl<|Wo.od (ai (k:=0) cT rfl rfl rfl) rfl<|Wo.od (ai (k:=12) dU rfl rfl rfl) rfl ?_;obtain⟨y10,h24,hF⟩:=J hF;refine Wo.od (kB (q:=1) (xs:=l10) (k:=x3) (vE:=(fun n:Int=>.int .i64 n)) (z0:=(0:Int)) fF (fK u3) z3 rfl rfl rfl rfl h24) rfl ?_;refine wz ?_;rcases aa hF with⟨h25,hF⟩|⟨h25,hF⟩
          ·refine wz ?_;refine Wo.od (ai (k:=8) zz rfl rfl rfl) rfl<|Wo.od (ai (k:=12) dU rfl rfl rfl) rfl ?_;refine wz ?_;refine Wo.od (EA rfl rfl (Dq _ _)) rfl<|Wo.od (ai (k:=12) dU rfl rfl rfl) rfl ?_;refine wz ?_;refine Wo.od (EA rfl rfl (Lr _ _)) rfl<|Wo.od (eB rfl Ct rfl (eE NJ rfl rfl rfl)) rfl<|Wo.o0 (DU (q:=9) (xs:=l22) (k:=(mi x3 r0,ma x3 r0)) (v:=true) (vE:=(fun b:Bool=>.bool b)) OK (Pv Q9 dU.known dU.size dU.agg u3) rfl rfl rfl rfl)<|Wo.nil ?_;cases hF;exact At.en () rfl (sc rfl (sc rfl (sc rfl (sc rfl (sc rfl (sc rfl (sc rfl (sc rfl (sc rfl sn))))))))) (ak.dj 16 [11,0,1,2,3,7,4,5,6,8,9,10,12,13,14,15] rfl rfl rfl)
          ·refine wz ?_;obtain rfl:=Option.some.inj hF;exact At.en () rfl (sc rfl (sc rfl (sc rfl (sc rfl (sc rfl (sc rfl (sc rfl (sc rfl (sc rfl sn))))))))) (ak.dj 16 [11,0,1,2,3,7,4,5,6,8,9,10,12,13,14,15] rfl rfl rfl)
         ·clear h22;rintro⟨⟩;refine At.tn<|Wk.seq ?_;obtain⟨v8,h26,hF⟩:=J hF;refine ct (fun v8 (_:Unit)=>⟨.normal,[(2,ptr b1 0),(3,ptr b2 0),(6,ptr b3 0),(7,ptr b4 0),(8,ptr b0 0),(9,ptr b11 0),(10,ptr b12 0),(11,ptr b13 0),(12,aX r0),(87,.bool v8)],(.obj l2 (r1 .busy none)::.obj b1 (.cells [da b7] .own)::.obj b7 (.map (l10.map (eM (fun n:Int=>.int .i64 n) (fun n:Int=>.int .i64 n))))::.obj b2 (.cells [da b8] .own)::.obj b8 (.map ((bR l4 x3 (mi y2 y3)).map (eM (fun n:Int=>.int .i64 n) (fun n:Int=>.int .i64 n))))::.obj b3 (.cells [.func (.func 134) #[] #[ptr b1 0,ptr b2 0,ptr b5 0,ptr b6 0,ptr b3 0,ptr b4 0,ptr b0 0]] .own)::.obj b5 (.cells [qd b10 l1] .own)::.sl (some ⟨b10,0,none⟩) 1 l1.length (l1.map (eN .u64))::.obj b6 (.cells [aU x4] .own)::.obj b4 (.cells [da b9] .own)::.obj b9 (.map (l11.map (eM (fun p:Int × Int=>.agg #[.int .i64 p.1,.int .i64 p.2]) (fun b:Bool=>.bool b))))::.obj b0 (.cells [aU v7] .own)::.obj b11 (.cells [aX x3] .own)::.obj b12 (.cells [aX x5] .own)::.obj b13 (.cells [JZ v2] .own)::.obj b14 (.cells [aU v0] .own)::rest)⟩) v8 ?_ ?_
          ·clear hF;revert v8;intro r hF;refine Wk.region<|Wo.od (ai (k:=13) dU rfl rfl rfl) rfl ?_;refine wz ?_;rcases aa hF with⟨h0,hF⟩|⟨h0,hF⟩
           ·refine Wo.og (ai (k:=3) cT rfl rfl rfl) (gg rfl rfl (oQ h0)) rfl ?_;refine wz ?_;obtain⟨y11,h27,hF⟩:=J hF;refine Wo.og (kB (q:=4) (xs:=(bR l4 x3 (mi y2 y3))) (k:=r0) (vE:=(fun n:Int=>.int .i64 n)) (z0:=(0:Int)) fF (fK u3) z3 rfl rfl rfl rfl h27) (gg rfl rfl (oQ h0)) rfl<|Wo.og (ai (k:=1) cT rfl rfl rfl) (gg rfl rfl (oQ h0)) rfl<|Wo.og (ai (k:=12) dU rfl rfl rfl) (gg rfl rfl (oQ h0)) rfl ?_;obtain⟨y12,h28,hF⟩:=J hF;refine Wo.og (kB (q:=2) (xs:=l10) (k:=x3) (vE:=(fun n:Int=>.int .i64 n)) (z0:=(0:Int)) fF (fK u3) z3 rfl rfl rfl rfl h28) (gg rfl rfl (oQ h0)) rfl ?_;refine wz ?_;cases hF;exact At.en () rfl (sc rfl (sc rfl (sc rfl (sc rfl (sc rfl (sc rfl (sc rfl (sc rfl (sc rfl (sc rfl sn)))))))))) (ak.dj 16 [0,1,2,3,4,5,6,7,8,9,10,11,12,13,14,15] rfl rfl rfl)
           ·refine wz ?_;cases hF;exact At.en () rfl (sc rfl (sc rfl (sc rfl (sc rfl (sc rfl (sc rfl (sc rfl (sc rfl (sc rfl (sc rfl sn)))))))))) (ak.dj 16 [0,1,2,3,4,5,6,7,8,9,10,11,12,13,14,15] rfl rfl rfl)
          ·clear h26;rintro⟨⟩;refine At.tn ?_;rcases aa hF with⟨h29,hF⟩|⟨h29,hF⟩
           ·refine wz ?_;refine Wo.od (ai (k:=11) bI rfl rfl rfl) rfl<|Wo.od (ai (k:=12) dU rfl rfl rfl) rfl ?_;obtain⟨h30,hF⟩:=ax hF;refine Wo.od (aN rfl rfl (js rfl _ _ h30)) rfl ?_;refine wz ?_;refine Wo.o0 (aM (k:=11) bI rfl rfl rfl rfl rfl) ?_;refine wz ?_;cases hF;exact At.en () rfl sn (ak.dj 16 [0,1,2,3,4,6,7,8,5,9,10,11,12,13,14,15] rfl rfl rfl)
           ·refine wz ?_;cases hF;exact At.en () rfl sn (ak.dj 16 [0,1,2,3,4,6,7,8,5,9,10,11,12,13,14,15] rfl rfl rfl)
      ·clear h3;obtain⟨l23,l24,l25,v12,v13⟩:=r4;rintro⟨⟩;refine gG ?_;refine Wo.od (ai (k:=15) bI rfl rfl rfl) rfl<|Wo.od (ai (k:=15) bI rfl rfl rfl) rfl ?_;refine wz ?_;refine Wo.o0 (aM (k:=15) bI rfl rfl rfl rfl rfl)<|Wo.nil ?_;cases hF;exact At.en () rfl (sc rfl (sc rfl sn)) (ak.dj 16 [0,15,1,2,3,4,5,6,7,8,9,10,11,12,13,14] rfl rfl rfl)
     ·refine wz ?_;cases hF;exact At.en () rfl sn (ak.dj 16 [0,2,3,4,5,6,7,8,9,10,11,12,13,14,15] rfl rfl rfl)
    ·clear h2;obtain⟨l15,l16,l17,v4,v5⟩:=r5;rintro⟨⟩;refine At.be ?_;cases hF;exact At.fin .nil fun m' hm=>⟨(),(ak.dj 15 [0,1,2,3,4,5,6,7,8,9,10,11,12,13,14] rfl rfl rfl) m' hm⟩
   ·clear h9;obtain⟨l19,l20,l21,v10,v11⟩:=r3;rintro⟨⟩
    change At _ .normal _ _ _
    refine wz ?_;refine Wk.seq ?_;obtain⟨v9,h31,hF⟩:=J hF;refine ct (fun v9 (_:Unit)=>⟨.normal,[(8,ptr b0 0),(9,ptr b11 0),(97,.bool v9)],(.obj b0 (.cells [aU v10] .own)::.obj b11 (.cells [aX x3] .own)::.obj b1 (.cells [da b7] .own)::.obj b7 (.map (l19.map (eM (fun n:Int=>.int .i64 n) (fun n:Int=>.int .i64 n))))::.obj b2 (.cells [da b8] .own)::.obj b8 (.map (l20.map (eM (fun n:Int=>.int .i64 n) (fun n:Int=>.int .i64 n))))::.obj b5 (.cells [qd b10 l1] .own)::.sl (some ⟨b10,0,none⟩) 1 l1.length (l1.map (eN .u64))::.obj b6 (.cells [aU x4] .own)::.obj b3 (.cells [.func (.func 134) #[] #[ptr b1 0,ptr b2 0,ptr b5 0,ptr b6 0,ptr b3 0,ptr b4 0,ptr b0 0]] .own)::.obj b4 (.cells [da b9] .own)::.obj b9 (.map (l21.map (eM (fun p:Int × Int=>.agg #[.int .i64 p.1,.int .i64 p.2]) (fun b:Bool=>.bool b))))::rest)⟩) v9 ?_ ?_
    ·clear hF;revert v9;intro r hF;refine Wk.region<|Wo.od (ai (k:=12) dU rfl rfl rfl) rfl ?_;refine wz ?_;rcases aa hF with⟨h4,hF⟩|⟨h4,hF⟩
     ·refine Wo.og (ai (k:=13) dU rfl rfl rfl) (gg rfl rfl (oQ h4)) rfl ?_;refine wz ?_;cases hF;exact At.en () rfl (sc rfl (sc rfl (sc rfl sn))) (ak.dj 14 [10,11,0,1,2,3,4,5,6,7,8,9] rfl rfl rfl)
     ·refine wz ?_;cases hF;exact At.en () rfl (sc rfl (sc rfl (sc rfl sn))) (ak.dj 14 [10,11,0,1,2,3,4,5,6,7,8,9] rfl rfl rfl)
    ·clear h31;rintro⟨⟩;refine At.tn ?_;rcases aa hF with⟨h32,hF⟩|⟨h32,hF⟩
     ·refine wz ?_;refine Wo.od (ai (k:=0) bI rfl rfl rfl) rfl<|Wo.od (ai (k:=1) dU rfl rfl rfl) rfl ?_;obtain⟨h33,hF⟩:=ax hF;refine Wo.od (aN rfl rfl (js rfl _ _ h33)) rfl ?_;refine wz ?_;refine Wo.o0 (aM (k:=0) bI rfl rfl rfl rfl rfl)<|Wo.nil ?_;cases hF;exact At.fin .nil fun m' hm=>⟨(),rfl,(ak.dj 12 [2,3,4,5,6,7,8,9,10,11,0] rfl rfl rfl) m' hm⟩
     ·refine wz ?_;cases hF;exact At.fin .nil fun m' hm=>⟨(),rfl,(ak.dj 12 [2,3,4,5,6,7,8,9,10,11,0] rfl rfl rfl) m' hm⟩
theorem NF (n x1 l1 x3 a0 c1 r) (hF:Pu n x1 l1 x3=some r) (m) (hG:Gl m) (h3:p8 m a0 c1 l1):
  aB an 39 [tH x1 a0 l1 c1,aU x3] m (fun v m'=>∃x:Option Addr × Nat,v = .tuple #[.slice x.1 x.2 x.2,.int .i64 r.2]∧Hp m m' [.sl x.1 2 x.2 (r.1.map (eP (eI .i64) (eI .i64)))]):=by
 unfold Pu at hF;refine cw Tryz.func39 ((Hp.start m).i h3) ?_;refine wz ?_;refine wb fun b12=>?_;refine aq ?_;refine Wo.od (ai (k:=0) gN rfl rfl rfl) rfl ?_;refine wz ?_;obtain⟨r7,h4,hF⟩:=J hF;refine wc gn (fun m hm=>Iz n x1 l1 x3 a0 c1 _ h4 m (hm.q 1)) ?_;rintro⟨⟩;refine aq ?_;rcases aa hF with⟨h5,hF⟩|⟨h5,hF⟩
 ·refine aq ?_;cases hF;exact At.ret (.tmp rfl (.tmp rfl .nil)) fun m' hm=>⟨(none,0),rfl,(ak.trans (ak.nil 2 rfl) (ak.az [0] rfl rfl)) m' hm⟩
 ·refine aq ?_;refine Wo.od (ai (k:=0) gN rfl rfl rfl) rfl ?_;refine wz ?_;obtain⟨r1,h6,hF⟩:=J hF;refine Wo.x (fH (α:=Nat) (V:=fun g=>(fun(r:List ((Int × Int) × Bool) × Nat) (g:Nat)=>match r,g with | (l4,v2),b10=>(.tuple #[da b10,aU v2]:Value)) r1 g) (N:=fun g=>(fun(r:List ((Int × Int) × Bool) × Nat) (g:Nat)=>match r,g with | (l4,v2),b10=>([.obj b10 (.map (l4.map (eM (fun p:Int × Int=>.agg #[.int .i64 p.1,.int .i64 p.2]) (fun b:Bool=>.bool b)))),eH b12 x1 a0 l1 c1,ku a0 c1 l1]:List Pc)) r1 g) rfl rfl (fun m hm=>?_)) gn rfl ?_
  ·clear hF;revert r1;intro r hF;refine bN (N:=29) (rs:=[.cell 4 148,.cell 5 26]) rfl Tryz.func93 rfl rfl rfl hm ?_;refine wz ?_;refine wb fun b14=>?_;refine wb fun b3=>?_;refine wa Q6 fun b4=>?_;refine wa E9 fun b5=>?_;refine aq ?_;refine Wo.od (ai (k:=3) gN rfl rfl rfl) rfl ?_;obtain⟨l2,h7,hF⟩:=J hF;refine wc gn (fun m hm=>C8 n x1 l1 a0 c1 _ h7 m (hm.q 5)) ?_;rintro⟨a1,n1⟩;refine Wo.len (k:=0) (xs:=l2) rfl ?_;rintro rfl;refine wa z76 fun b6=>?_;refine Wo.o0 (aM (k:=0) gY rfl rfl rfl rfl rfl) ?_;refine aq ?_;refine Wo.x IE gn rfl fun b0=>?_;refine Wo.o0 (aM (k:=4) zz rfl rfl rfl rfl rfl) ?_;refine aq ?_;refine Wo.x IE gn rfl fun b7=>?_;refine Wo.x IE gn rfl fun b8=>?_;refine wa MS fun b1=>?_;refine wa MS fun b9=>?_;refine Wo.o0 (aM (k:=1) cT rfl rfl rfl rfl rfl)<|Wo.o0 (aM (k:=0) cT rfl rfl rfl rfl rfl) ?_;refine aq ?_;refine wa Qv fun b2=>?_;refine aq ?_;refine Wo.od (ta rfl rfl) rfl<|Wo.o0 (aM (k:=0) Fq rfl rfl rfl rfl rfl) ?_;refine aq ?_;refine Wo.od (ai (k:=10) bI rfl rfl rfl) rfl ?_;obtain⟨r2,h8,hF⟩:=J hF;refine Wo.x (fH (α:=Nat) (V:=fun g=>(fun(r:List ((Int × Int) × Bool) × List (Int × Int) × List (Int × Int)) (g:Nat)=>match r,g with | (l12,l13,l14),b11=>(.func (.func 152) #[] #[ptr b11 0]:Value)) r2 g) (N:=fun g=>(fun(r:List ((Int × Int) × Bool) × List (Int × Int) × List (Int × Int)) (g:Nat)=>match r,g with | (l12,l13,l14),b11=>([ez b11 x3,eH b12 x1 a0 l1 c1,ku a0 c1 l1,cx b4 b0,.obj b0 (.map (l12.map (eM (fun p:Int × Int=>.agg #[.int .i64 p.1,.int .i64 p.2]) (fun b:Bool=>.bool b)))),.obj b5 (.cells [.int .u64 ((0:Nat):Int)] .own),cx b1 b7,ia b7 l13,.obj b2 (.cells [.func (.func 134) #[] #[ptr b1 0,ptr b9 0,ptr b6 0,ptr b3 0,ptr b2 0,ptr b4 0,ptr b5 0]] .own),cx b9 b8,ia b8 l14,jY b6 a1 l2,fE a1 l2,ez b3 x3]:List Pc)) r2 g) rfl rfl (fun m hm=>?_)) gn rfl ?_
   ·clear hF;revert r2;intro r hF;refine bN (N:=4) (rs:=[.tmp 2]) rfl Tryz.func133 rfl rfl rfl hm ?_;refine wz ?_;refine wb fun b13=>?_;refine aq ?_;refine Wo.od (ta rfl rfl) rfl ?_;refine aq ?_;cases hF;exact ar b13 [0,13,14,10,6,9,3,5,1,2,4,7,8,11]
   ·clear h8;obtain⟨l12,l13,l14⟩:=r2;rintro b11;refine wz ?_;refine Wk.block ?_;obtain⟨r3,h9,hF⟩:=J hF;refine Wk.range (N:=14) (rs:=[]) (γ:=Unit) (X:=fun g=>(fun(r:List ((Int × Int) × Bool) × Nat × List (Int × Int) × List (Int × Int)) (g:Unit)=>(match r,g with | (l15,v4,l16,l17),_=>⟨.ready,none,[eH b12 x1 a0 l1 c1,ku a0 c1 l1,cx b4 b0,.obj b0 (.map (l15.map (eM (fun p:Int × Int=>.agg #[.int .i64 p.1,.int .i64 p.2]) (fun b:Bool=>.bool b)))),ez b5 v4,cx b1 b7,ia b7 l16,.obj b2 (.cells [.func (.func 134) #[] #[ptr b1 0,ptr b9 0,ptr b6 0,ptr b3 0,ptr b2 0,ptr b4 0,ptr b5 0]] .own),cx b9 b8,ia b8 l17,jY b6 a1 l2,fE a1 l2,ez b3 x3]⟩:Rn)) r3 g) rfl rfl Tryz.func152 rfl rfl rfl ?_ (fun y=>by intro e; cases e) ?_
    ·clear hF;revert r3;intro r hF;intro t0 l5 r0 h10 h11;refine Wk.block ?_;obtain⟨r6,h0,hF⟩:=J hF;refine ct (fun(l18,v5,l19,l20) (_:Unit)=>⟨(.exit 0),[],[.obj l5 (r0 .ready none),eH b12 x1 a0 l1 c1,ku a0 c1 l1,cx b4 b0,.obj b0 (.map (l18.map (eM (fun p:Int × Int=>.agg #[.int .i64 p.1,.int .i64 p.2]) (fun b:Bool=>.bool b)))),ez b5 v5,cx b1 b7,ia b7 l19,.obj b2 (.cells [.func (.func 134) #[] #[ptr b1 0,ptr b9 0,ptr b6 0,ptr b3 0,ptr b2 0,ptr b4 0,ptr b5 0]] .own),cx b9 b8,ia b8 l20,jY b6 a1 l2,fE a1 l2,ez b3 x3]⟩) r6 ?_ ?_
     ·refine lo h0 () [0,1,2,3,4,5,6,7,8,9,10,11,12,13,14] (fun(v0,l9,v1,l7,l10) _=>⟨.normal,[(0,.func (.yield l5) #[] #[]),(1,ptr b11 0)],[.obj l5 (r0 .ready none),ez b11 v0,eH b12 x1 a0 l1 c1,ku a0 c1 l1,cx b4 b0,.obj b0 (.map (l9.map (eM (fun p:Int × Int=>.agg #[.int .i64 p.1,.int .i64 p.2]) (fun b:Bool=>.bool b)))),ez b5 v1,cx b1 b7,ia b7 l7,.obj b2 (.cells [.func (.func 134) #[] #[ptr b1 0,ptr b9 0,ptr b6 0,ptr b3 0,ptr b2 0,ptr b4 0,ptr b5 0]] .own),cx b9 b8,ia b8 l10,jY b6 a1 l2,fE a1 l2,ez b3 x3]⟩) ?_;clear hF h0;rintro⟨v0,l9,v1,l7,l10⟩ ⟨⟩ r hF;unfold uT at hF;refine wz ?_;refine Wo.od (ai (k:=1) bI rfl rfl rfl) rfl ?_;refine wz ?_;rcases aa hF with⟨h12,hF⟩|⟨h12,hF⟩
      ·refine aq ?_;refine Wo.od (ai (k:=1) bI rfl rfl rfl) rfl ?_;obtain⟨r4,h13,hF⟩:=J hF;refine wc gn (fun m hm=>vU n v0  _ h13 m (hG.ext hm.ext)) ?_;rintro⟨⟩;obtain⟨r5,h2,hF⟩:=J hF;refine Wo.x (FJ (k:=0) (k1:=0) (γA:=Unit) (GA:=(fun g:Unit=>(match g with|_=>⟨.normal,[(7,ptr b1 0),(9,ptr b2 0),(10,aX r4)],[.obj l5 (r0 .ready none),cx b1 b7,ia b7 l7,.obj b2 (.cells [.func (.func 134) #[] #[ptr b1 0,ptr b9 0,ptr b6 0,ptr b3 0,ptr b2 0,ptr b4 0,ptr b5 0]] .own),cx b9 b8,ia b8 l10,jY b6 a1 l2,fE a1 l2,ez b3 x3,cx b4 b0,.obj b0 (.map (l9.map (eM (fun p:Int × Int=>.agg #[.int .i64 p.1,.int .i64 p.2]) (fun b:Bool=>.bool b)))),ez b5 v1,eH b12 x1 a0 l1 c1,ku a0 c1 l1,ez b11 v0]⟩:En))) (γ:=Unit) (G:=fun g=>(fun(r:List ((Int × Int) × Bool) × Nat × List (Int × Int) × List (Int × Int)) (g:Unit)=>(match r,g with | (l21,v6,l22,l23),_=>⟨.normal,[],[.obj l5 (r0 .busy none),eH b12 x1 a0 l1 c1,ku a0 c1 l1,cx b4 b0,.obj b0 (.map (l21.map (eM (fun p:Int × Int=>.agg #[.int .i64 p.1,.int .i64 p.2]) (fun b:Bool=>.bool b)))),ez b5 v6,cx b1 b7,ia b7 l22,.obj b2 (.cells [.func (.func 134) #[] #[ptr b1 0,ptr b9 0,ptr b6 0,ptr b3 0,ptr b2 0,ptr b4 0,ptr b5 0]] .own),cx b9 b8,ia b8 l23,jY b6 a1 l2,fE a1 l2,ez b3 x3,ez b11 v0]⟩:En)) r5 g) rfl rfl rfl h11 h10 rfl ?_ (fun _=>rfl) (fun _=>rfl) ?_ (fun y=>rfl)) gn rfl ?_
       ·clear hF h2;refine wz ?_;exact ae () [0,7,8,9,10,11,12,13,14,4,5,6,2,3,1]
       ·clear hF;revert r5;intro r hF;rintro⟨⟩;refine wz ?_;refine Wo.od (ai (k:=1) cT rfl rfl rfl) rfl ?_;refine wz ?_;obtain⟨y2,h14,hF⟩:=J hF;refine Wo.od (kB (q:=2) (xs:=l7) (k:=r4) (vE:=(fun n:Int=>.int .i64 n)) (z0:=(0:Int)) fF (fK u3) z3 rfl rfl rfl rfl h14) rfl ?_;refine wz ?_;rcases aa hF with⟨h15,hF⟩|⟨h15,hF⟩
        ·refine wz ?_;refine Wo.od (ai (k:=3) Fq rfl rfl rfl) rfl ?_;refine wz ?_;obtain⟨⟨l24,l25,l26,v7⟩,h16,hF⟩:=J hF;refine Wo.md (ak.az [1,2,4,5,6,7,8,3,9,10,11,0,12,13,14] rfl rfl)<|Wo.x (fH (α:=Unit) (V:=fun _=>.tuple #[]) (N:=fun _=>[cx b1 b7,ia b7 l24,cx b9 b8,ia b8 l25,jY b6 a1 l2,fE a1 l2,ez b3 x3,.obj b2 (.cells [.func (.func 134) #[] #[ptr b1 0,ptr b9 0,ptr b6 0,ptr b3 0,ptr b2 0,ptr b4 0,ptr b5 0]] .own),cx b4 b0,.obj b0 (.map (l26.map (eM (fun p:Int × Int=>.agg #[.int .i64 p.1,.int .i64 p.2]) (fun b:Bool=>.bool b)))),ez b5 v7,.obj l5 (r0 .busy none),eH b12 x1 a0 l1 c1,ku a0 c1 l1,ez b11 v0]) rfl rfl (fun m hm=>Jf n l2 x3 b1 b7 b9 b8 b6 a1 b3 b2 b4 b5 b0 hG n l7 l10 l9 v1 r4 (-1) l24 l25 l26 v7 h16 ([.obj l5 (r0 .busy none),eH b12 x1 a0 l1 c1,ku a0 c1 l1,ez b11 v0]) m hm)) gn rfl fun _=>?_;refine wz ?_;cases hF;exact ae () [11,12,13,8,9,10,0,1,7,2,3,4,5,6,14]
        ·refine wz ?_;cases hF;exact ae () [0,12,13,9,10,11,1,2,3,4,5,6,7,8,14]
       ·clear h2;obtain⟨l21,v6,l22,l23⟩:=r5;rintro⟨⟩;refine gG ?_;refine Wo.od (ai (k:=14) bI rfl rfl rfl) rfl<|Wo.od (ai (k:=14) bI rfl rfl rfl) rfl ?_;refine wz ?_;refine Wo.o0 (aM (k:=14) bI rfl rfl rfl rfl rfl)<|Wo.nil ?_;cases hF;exact ae () [0,14,1,2,3,4,5,6,7,8,9,10,11,12,13]
      ·refine wz ?_;cases hF;exact ae () [0,2,3,4,5,6,7,8,9,10,11,12,13,14]
     ·clear h0;obtain⟨l18,v5,l19,l20⟩:=r6;rintro⟨⟩;refine At.be ?_;cases hF;exact At.fin .nil fun m' hm=>⟨(),(ak.az [0,1,2,3,4,5,6,7,8,9,10,11,12,13] rfl rfl) m' hm⟩
    ·clear h9;obtain⟨l15,v4,l16,l17⟩:=r3;rintro⟨⟩
     change At _ .normal _ _ _
     refine wz ?_;refine Wk.seq<|Wk.db (prs:=[(1,2)]) (by kernel_rfl)<|Wn.od (ai (k:=2) zz rfl rfl rfl) rfl<|Wn.Lc rfl (ai (k:=4) bI rfl rfl rfl) rfl<|Wn.Rp rfl (aM (k:=2) zz rfl rfl rfl rfl rfl)<|Wn.o0 (aM (k:=4) bI rfl rfl rfl rfl rfl)<|Wn.nil (fun m hm=>(cP.rw rfl rfl rfl (hm.ne (i:=4) (j:=2) rfl rfl rfl rfl (by decide) rfl) cP.nil)) ?_
     refine aq ?_;cases hF;exact At.ret (.cell (k:=2) zz rfl rfl rfl (.cell (k:=4) bI rfl rfl rfl .nil)) fun m' hm=>⟨b0,rfl,(ak.az [3,0,1] rfl rfl) m' hm⟩
  ·clear h6;obtain⟨l4,v2⟩:=r1;rintro b10;refine gG ?_;refine Wo.od (ai (k:=1) q7 rfl rfl rfl) rfl ?_;refine wz ?_;refine Wk.block ?_;obtain⟨l3,h1,hF⟩:=J hF;refine ct (fun l3 (a2:Option Addr)=>⟨(.exit 0),[(9,rC a2 l3)],[kJ a2 l3]⟩) l3 ?_ ?_
   ·refine Wk.qa (fs':=[(7,da b10),(9,.slice none ([]:List (Int × Int)).length ([]:List (Int × Int)).length),(25,bG a0 l1 c1),(26,fG l1),(27,.int .i64 0)]) (ps':=[.obj b10 (.map (l4.map (eM (fun p:Int × Int=>.agg #[.int .i64 p.1,.int .i64 p.2]) (fun b:Bool=>.bool b)))),.sl none 2 ([]:List (Int × Int)).length (([]:List (Int × Int)).map (eP (eI .i64) (eI .i64))),ku a0 c1 l1]) (sc rfl (sc rfl (sc rfl (sc rfl (sc rfl sn))))) (ak.trans (ak.nil 2 rfl) (ak.az [1,0,3] rfl rfl))<|Wk.loop (σ:=List (Int × Int) × Int) (ρ:=List (Int × Int)) (γ:=Option Addr) (δ:=fun _=>Option Addr) _ (fun(s:List (Int × Int) × Int) (g:Option Addr)=>match s,g with | (l11,v3),a3=>⟨.normal,[(7,da b10),(9,rC a3 l11),(25,bG a0 l1 c1),(26,fG l1),(27,aX v3)],[.obj b10 (.map (l4.map (eM (fun p:Int × Int=>.agg #[.int .i64 p.1,.int .i64 p.2]) (fun b:Bool=>.bool b)))),kJ a3 l11,ku a0 c1 l1]⟩) (fun(r:List (Int × Int)) (g:Option Addr)=>match r,g with|l3,a2=>⟨(.exit 0),[(9,rC a2 l3)],[kJ a2 l3]⟩) ?_ (fun _ _=>rfl) (fun r d=>by intro e; cases e) _ _ _ h1 none
    clear hF h1;rintro⟨l11,v3⟩ a3 r hF;unfold zt at hF;refine wz ?_;refine Wk.seq ?_;rcases aa hF with⟨h17,hF⟩|⟨h17,hF⟩
    ·refine wz ?_;refine Wk.seq ?_;obtain⟨l8,h18,hF⟩:=J hF;refine ct (fun l8 (a4:Option Addr)=>⟨.normal,[(7,da b10),(9,rC a4 l8),(25,bG a0 l1 c1),(26,fG l1),(27,aX v3)],[.obj b10 (.map (l4.map (eM (fun p:Int × Int=>.agg #[.int .i64 p.1,.int .i64 p.2]) (fun b:Bool=>.bool b)))),kJ a4 l8,ku a0 c1 l1]⟩) l8 ?_ ?_
     ·clear hF;revert l8;intro r hF;refine wz ?_;obtain⟨h19,hF⟩:=cQ hF;refine Wo.dK (k:=2) rfl (bK h19) ?_;rintro b15 o1 rfl;refine wz ?_;obtain⟨⟨x4,x5⟩,h20,hF⟩:=J hF;refine Wo.od (de (k:=0) fp rfl rfl (aR h20) rfl rfl) rfl<|wa Ct fun b16=>?_;refine Wo.o0 (aM (k:=0) fp rfl rfl rfl rfl rfl) ?_;refine aq ?_;refine Wo.od (ai (k:=0) fp rfl rfl rfl) rfl ?_;obtain⟨y3,h21,hF⟩:=J hF;refine Wo.od (kB (q:=2) (xs:=l4) (k:=(x4,x5)) (vE:=(fun b:Bool=>.bool b)) (z0:=false) OK (Pv Q9 dU.known dU.size dU.agg u3) z4 rfl rfl rfl rfl h21) rfl ?_;refine wz ?_;rcases aa hF with⟨h22,hF⟩|⟨h22,hF⟩
      ·refine wz ?_;refine Wo.od (ai (k:=0) fp rfl rfl rfl) rfl<|Wo.x (Ae (es:=([(x4,x5)]:List (Int × Int)).map (eP (eI .i64) (eI .i64))) ML rfl (za ML Ct rfl rfl) rfl rfl) gn rfl fun b17=>?_;obtain⟨h23,hF⟩:=ax hF;refine Wo.x (CN (k:=4) (k2:=0) (xs:=(l11:List (Int × Int))) (ys:=([(x4,x5)]:List (Int × Int))) (xI (Oi .i64) (Oi .i64)) ML ⟨_,u32⟩ rfl rfl rfl (.arr _ _ _ _ _) h23) gn rfl fun a5=>?_;refine wz ?_;cases hF;exact ae a5 [3,4,5]
      ·refine wz ?_;obtain rfl:=Option.some.inj hF;exact ae a3 [2,3,4]
     ·clear h18;rintro a4;refine aq ?_;cases hF;exact ae a4 [0,1,2]
    ·refine wz ?_;cases hF;exact ae a3 [1]
   ·clear h1;rintro a2;refine gG ?_;cases hF;exact ar (a2,l3.length) [0]
theorem B1 (n x1 l2 x7 l8 a3 c4 a9 c10 r) (hF:Bi n x1 l2 x7 l8=some r) (m) {H:Nat→Prop} (hH:∀b,H b→b<m.next) (h5:dD m a3 c4 l2) (h6:∀b,gE a3=some b→¬H b) (h11:dD m a9 c10 l8) (h12:∀b,gE a9=some b→¬H b):
  aB an 116 [kH x1 a3 l2 c4,kH x7 a9 l8 c10] m (fun v m'=>∃x:Option Addr × Nat × Nat,v = .agg #[.bool r.1,.slice x.1 x.2.2 x.2.1]∧Hp m m' [.rd x.1 x.2.1 1 x.2.2 (r.2.map (eN .u64)),dY H]):=by
 unfold Bi at hF;refine cw Tryz.func116 (Hp.ie (l0:=[dT a3 c4 l2]) (Hp.ie (l0:=[]) (Hp.dZ m hH) rfl h5 h6) rfl h11 h12) ?_;refine wz ?_;refine wb fun b13=>?_;refine wb fun b14=>?_;refine wa fk fun b15=>?_;refine aq ?_;refine Wo.od (ai (k:=2) gY rfl rfl rfl) rfl ?_;refine wz ?_;refine Wo.od (ai (k:=1) gY rfl rfl rfl) rfl ?_;refine wz ?_;refine Wk.seq<|Wk.block ?_;obtain⟨l48,h61,hF⟩:=J hF;refine ct (fun l48 ((a49,c50):Option Addr × Nat)=>⟨(.exit 0),[(4,ptr b15 0),(5,bG a49 l48 c50)],[eV b15,dT a49 c50 l48,dY H]⟩) l48 ?_ ?_
 ·refine lo h61 (a3,c4,a9,c10) [0,4,3,5] (fun(l26,l29) ((a27,c28,a30,c31):Option Addr × Nat × Option Addr × Nat)=>⟨.normal,[(4,ptr b15 0),(5,bG a27 l26 c28),(6,bG a30 l29 c31)],[eV b15,dT a27 c28 l26,dT a30 c31 l29,dY H]⟩) ?_;clear hF h61;rintro⟨l26,l29⟩ ⟨a27,c28,a30,c31⟩ r hF;unfold jG at hF;refine wz ?_;rcases aa hF with⟨h51,hF⟩|⟨h51,hF⟩
  ·refine aq ?_;obtain⟨⟨l53,l57⟩,h52,hF⟩:=J hF;refine Wo.x (pT (N:=(fun x:Option Addr × Nat × Nat × Option Addr × Nat × Nat=>[.rd x.1 x.2.1 1 x.2.2.1 (l53.map (eN .u64)),.rd x.2.2.2.1 x.2.2.2.2.1 1 x.2.2.2.2.2 (l57.map (eN .u64))])) rfl rfl (fun m hm=>Ds n l26 l29 a27 c28 a30 c31 _ h52 m hm.aC (hm.q 1) (hm.no 1) (hm.q 2) (hm.no 2)) fun _=>rfl) gn rfl ?_;rintro⟨a54,c55,n56,a58,c59,n60⟩;refine Wo.bJ (k:=0) rfl ?_;rintro rfl;refine Wo.bJ (k:=1) rfl ?_;rintro rfl;refine aq ?_;cases hF;exact ae (a30,c31,a58,c59) [2,4,1,5]
  ·refine wz ?_;cases hF;exact ae (a27,c28) [0,1,3]
 ·clear h61;rintro⟨a49,c50⟩;refine aq ?_;refine Wo.od (eB rfl fk rfl (eE xT rfl rfl rfl)) rfl<|Wo.o0 (aM (k:=0) aA rfl rfl rfl rfl rfl) ?_;refine aq ?_;cases hF;exact At.ret (.cell (k:=0) aA rfl rfl rfl .nil) fun m' hm=>⟨(a49,c50,l48.length),rfl,(ak.az [1,2] rfl rfl) m' hm⟩
theorem AP (n x1 l2 x7 l8 a3 c4 a9 c10 r) (hF:KL n x1 l2 x7 l8=some r) (m) {H:Nat→Prop} (hH:∀b,H b→b<m.next) (h5:dD m a3 c4 l2) (h6:∀b,gE a3=some b→¬H b) (h11:dD m a9 c10 l8) (h12:∀b,gE a9=some b→¬H b):
  aB an 61 [kH x1 a3 l2 c4,kH x7 a9 l8 c10] m (fun v m'=>∃x:Option Addr × Nat × Nat × Option Addr × Nat × Nat,v = .agg #[.bool r.1,.slice x.1 x.2.2.1 x.2.1,.bool r.2.2.1,.slice x.2.2.2.1 x.2.2.2.2.2 x.2.2.2.2.1]∧Hp m m' [.rd x.1 x.2.1 1 x.2.2.1 (r.2.1.map (eN .u64)),.rd x.2.2.2.1 x.2.2.2.2.1 1 x.2.2.2.2.2 (r.2.2.2.map (eN .u64)),dY H]):=by
 unfold KL at hF;refine cw Tryz.func61 (Hp.ie (l0:=[dT a3 c4 l2]) (Hp.ie (l0:=[]) (Hp.dZ m hH) rfl h5 h6) rfl h11 h12) ?_;refine wz ?_;refine wb fun b13=>?_;refine wb fun b14=>?_;refine wa tE fun b15=>?_;refine aq ?_;refine Wo.od (ai (k:=2) aA rfl rfl rfl) rfl<|Wo.od (ai (k:=1) aA rfl rfl rfl) rfl ?_;obtain⟨⟨r17,l18⟩,h16,hF⟩:=J hF;refine wv gn (fun m hm=>B1 n x1 l2 x7 l8 a3 c4 a9 c10 _ h16 m hm.aC (hm.q 4) (hm.no 4) (hm.q 3) (hm.no 3)) ?_;rintro⟨a19,c20,n21⟩;refine Wo.bJ (k:=0) rfl ?_;rintro rfl;refine wa fk fun b22=>?_;refine Wo.o0 (aM (k:=0) aA rfl rfl rfl rfl rfl) ?_;refine aq ?_;refine Wo.od (ai (k:=4) aA rfl rfl rfl) rfl<|Wo.od (ai (k:=0) aA rfl rfl rfl) rfl ?_;obtain⟨⟨r24,l25,r29,l30⟩,h23,hF⟩:=J hF;refine Wo.x (pT (N:=(fun x:Option Addr × Nat × Nat × Option Addr × Nat × Nat=>[.rd x.1 x.2.1 1 x.2.2.1 (l25.map (eN .u64)),.rd x.2.2.2.1 x.2.2.2.2.1 1 x.2.2.2.2.2 (l30.map (eN .u64))])) rfl rfl (fun m hm=>xu n x1 l2 r17 l18 a3 c4 a19 c20 _ h23 m hm.aC (hm.q 6) (hm.no 6) (hm.q 1) (hm.no 1)) fun _=>rfl) gn rfl ?_;rintro⟨a26,c27,n28,a31,c32,n33⟩;refine Wo.bJ (k:=0) rfl ?_;rintro rfl;refine Wo.bJ (k:=1) rfl ?_;rintro rfl;refine wz ?_;refine wa fk fun b34=>?_;refine wa fk fun b35=>?_;refine Wo.o0 (aM (k:=1) aA rfl rfl rfl rfl rfl)<|Wo.o0 (aM (k:=0) aA rfl rfl rfl rfl rfl) ?_;refine aq ?_;refine Wo.od (ai (k:=7) aA rfl rfl rfl) rfl<|Wo.od (ai (k:=4) aA rfl rfl rfl) rfl ?_;obtain⟨⟨r37,l38,r42,l43⟩,h36,hF⟩:=J hF;refine Wo.x (pT (N:=(fun x:Option Addr × Nat × Nat × Option Addr × Nat × Nat=>[.rd x.1 x.2.1 1 x.2.2.1 (l38.map (eN .u64)),.rd x.2.2.2.1 x.2.2.2.2.1 1 x.2.2.2.2.2 (l43.map (eN .u64))])) rfl rfl (fun m hm=>xu n x7 l8 r17 l18 a9 c10 a19 c20 _ h36 m hm.aC (hm.q 9) (hm.no 9) (hm.q 5) (hm.no 5)) fun _=>rfl) gn rfl ?_;rintro⟨a39,c40,n41,a44,c45,n46⟩;refine Wo.bJ (k:=0) rfl ?_;rintro rfl;refine Wo.bJ (k:=1) rfl ?_;rintro rfl;refine wz ?_;refine wa fk fun b47=>?_;refine wa fk fun b48=>?_;refine Wo.o0 (aM (k:=1) aA rfl rfl rfl rfl rfl)<|Wo.o0 (aM (k:=0) aA rfl rfl rfl rfl rfl) ?_;refine wz ?_;refine Wk.seq ?_;obtain⟨r84,h83,hF⟩:=J hF;refine ct (fun(v62,l63,v66,l67) ((a64,c65,a68,c69):Option Addr × Nat × Option Addr × Nat)=>⟨.normal,[(4,ptr b15 0),(6,ptr b34 0),(8,ptr b47 0)],[.obj b15 (.cells [.bool false,.slice none 0 0,.bool false,.slice none 0 0] .own),kL b34 v62 a64 l63 c65,dT a64 c65 l63,kL b47 v66 a68 l67 c69,dT a68 c69 l67,dY H]⟩) r84 ?_ ?_
 ·clear hF;revert r84;intro r hF;refine wz ?_;refine Wo.od (ai (k:=1) tW rfl rfl rfl) rfl ?_;refine wz ?_;rcases aa hF with⟨h70,hF⟩|⟨h70,hF⟩
  ·refine Wk.kX rfl h70<|Wk.db (prs:=[(1,2)]) (by kernel_rfl)<|Wn.od (ai (k:=5) aA rfl rfl rfl) rfl ?_
   obtain⟨⟨r72,l73⟩,h71,hF⟩:=J hF;refine nv gn (fun m hm=>wo n r24 l25 a26 c27 _ h71 m hm.aC (hm.q 6) (hm.no 6)) ?_;rintro⟨a74,c75,n76⟩;refine Wn.bJ (k:=0) rfl ?_;rintro rfl;refine Wn.od (ai (k:=2) aA rfl rfl rfl) rfl ?_;obtain⟨⟨r78,l79⟩,h77,hF⟩:=J hF;refine nv gn (fun m hm=>wo n r37 l38 a39 c40 _ h77 m hm.aC (hm.q 3) (hm.no 3)) ?_;rintro⟨a80,c81,n82⟩;refine Wn.bJ (k:=0) rfl ?_;rintro rfl;refine Wn.o0 (aM (k:=7) aA rfl rfl rfl rfl rfl)<|Wn.o0 (aM (k:=3) aA rfl rfl rfl rfl rfl)<|Wn.nil (fun m hm=>cP.all rfl) ?_;cases hF;exact ae (a74,c75,a80,c81) [12,7,1,3,0,17]
  ·refine wz ?_;cases hF;exact ae (a26,c27,a39,c40) [10,5,6,1,2,15]
 ·clear h83;obtain⟨v62,l63,v66,l67⟩:=r84;rintro⟨a64,c65,a68,c69⟩;refine aq ?_;refine Wo.od (ai (k:=1) aA rfl rfl rfl) rfl<|Wo.od (ai (k:=3) aA rfl rfl rfl) rfl<|Wo.od (eB rfl tE rfl (eE FB rfl rfl rfl)) rfl<|Wo.o0 (aM (k:=0) im rfl rfl rfl rfl rfl) ?_;refine aq ?_;cases hF;exact At.ret (.cell (k:=0) im rfl rfl rfl .nil) fun m' hm=>⟨(a64,c65,l63.length,a68,c69,l67.length),rfl,(ak.az [2,4,5] rfl rfl) m' hm⟩
theorem AA (n x1 l2 x6 l7 a3 c4 a8 c9 r) (hF:Lq n x1 l2 x6 l7=some r) (m) (h5:dD m a3 c4 l2) (h10:dD m a8 c9 l7):
  aB an 62 [H6 x1 a3 l2 c4 x6 a8 l7 c9] m (fun v m'=>∃_:Unit,v = .tuple #[.agg #[.int .u64 ((r.1:Nat):Int),.int .u64 ((r.2.1:Nat):Int),.int .u64 ((r.2.2.1:Nat):Int),.int .u64 ((r.2.2.2.1:Nat):Int),.int .u64 ((r.2.2.2.2.1:Nat):Int),.int .u64 ((r.2.2.2.2.2.1:Nat):Int),.int .u64 ((r.2.2.2.2.2.2.1:Nat):Int),.int .u64 ((r.2.2.2.2.2.2.2.1:Nat):Int),.int .u64 ((r.2.2.2.2.2.2.2.2.1:Nat):Int),.int .u64 ((r.2.2.2.2.2.2.2.2.2.1:Nat):Int),.int .u64 ((r.2.2.2.2.2.2.2.2.2.2.1:Nat):Int),.int .u64 ((r.2.2.2.2.2.2.2.2.2.2.2.1:Nat):Int),.int .u64 ((r.2.2.2.2.2.2.2.2.2.2.2.2.1:Nat):Int),.int .u64 ((r.2.2.2.2.2.2.2.2.2.2.2.2.2.1:Nat):Int),.int .u64 ((r.2.2.2.2.2.2.2.2.2.2.2.2.2.2.1:Nat):Int),.int .u64 ((r.2.2.2.2.2.2.2.2.2.2.2.2.2.2.2.1:Nat):Int)],.int .i64 r.2.2.2.2.2.2.2.2.2.2.2.2.2.2.2.2]∧Hp m m' []):=by
 unfold Lq at hF;refine cw Tryz.func62 (((Hp.start m).i h5).i h10) ?_;refine wz ?_;refine wb fun b11=>?_;refine wa uy fun b12=>?_;refine aq ?_;refine Wo.od (ai (k:=1) aA rfl rfl rfl) rfl ?_;obtain⟨⟨r14,r15,r16,r17,r18,r19,r20,r21,r22⟩,h13,hF⟩:=J hF;refine wc gn (fun m hm=>Bm n x1 l2 a3 c4 _ h13 m (hm.q 3)) ?_;rintro⟨⟩;refine wz ?_;refine wa z38 fun b23=>?_;refine Wo.o0 (aM (k:=0) eO rfl rfl rfl rfl rfl) ?_;refine aq ?_;refine Wo.od (ai (k:=2) aA rfl rfl rfl) rfl ?_;obtain⟨⟨r25,r26,r27,r28,r29,r30,r31,r32,r33⟩,h24,hF⟩:=J hF;refine wc gn (fun m hm=>Bm n x6 l7 a8 c9 _ h24 m (hm.q 3)) ?_;rintro⟨⟩;refine wz ?_;refine wa z38 fun b34=>?_;refine Wo.o0 (aM (k:=0) eO rfl rfl rfl rfl rfl) ?_;refine wz ?_;refine Wk.seq<|Wk.seq ?_;obtain⟨v42,h44,hF⟩:=J hF;refine ct (fun v42 (_:Unit)=>⟨.normal,[(2,ptr b12 0),(4,ptr b23 0),(6,ptr b34 0),(25,.bool v42)],[IW b12,O7 b23 r14 r15 r16 r17 r18 r19 r20 r21,O7 b34 r25 r26 r27 r28 r29 r30 r31 r32]⟩) v42 ?_ ?_
 ·clear hF;revert v42;intro r hF;refine wz ?_;rcases aa hF with⟨h43,hF⟩|⟨h43,hF⟩
  ·refine wz ?_;cases hF;exact ae () [2,1,0]
  ·refine wz ?_;cases hF;exact ae () [2,1,0]
 ·clear h44;rintro⟨⟩;refine At.tn ?_;rcases aa hF with⟨h46,hF⟩|⟨h46,hF⟩
  ·refine wz ?_;refine Wo.od (eB rfl uy rfl (eE yC rfl rfl rfl)) rfl<|Wo.o0 (aM (k:=0) cR rfl rfl rfl rfl rfl) ?_;refine aq ?_;cases hF;exact At.ret (.cell (k:=0) cR rfl rfl rfl (.tmp rfl .nil)) fun m' hm=>⟨(),rfl,(ak.az [] rfl rfl) m' hm⟩
  ·refine aq ?_;refine Wo.od (ai (k:=1) eO rfl rfl rfl) rfl<|Wo.od (ai (k:=2) eO rfl rfl rfl) rfl<|Wo.od (eB rfl uy rfl (eE yC rfl rfl rfl)) rfl<|Wo.o0 (aM (k:=0) cR rfl rfl rfl rfl rfl) ?_;refine aq ?_;cases hF;exact At.ret (.cell (k:=0) cR rfl rfl rfl (.tmp rfl .nil)) fun m' hm=>⟨(),rfl,(ak.az [] rfl rfl) m' hm⟩
theorem M3 (n x1 l1 x3 x4 a0 c1 r) (hF:Og n x1 l1 x3 x4=some r) (m) (hG:Gl m) (h2:p8 m a0 c1 l1):
  aB an 12 [tH x1 a0 l1 c1,aU x3,aX x4] m (fun v m'=>∃_:Unit,v = .tuple #[.agg #[.int .u64 ((r.1:Nat):Int),.int .u64 ((r.2.1:Nat):Int),.int .u64 ((r.2.2.1:Nat):Int),.int .u64 ((r.2.2.2.1:Nat):Int),.int .u64 ((r.2.2.2.2.1:Nat):Int),.int .u64 ((r.2.2.2.2.2.1:Nat):Int),.int .u64 ((r.2.2.2.2.2.2.1:Nat):Int),.int .u64 ((r.2.2.2.2.2.2.2.1:Nat):Int),.int .u64 ((r.2.2.2.2.2.2.2.2.1:Nat):Int),.int .u64 ((r.2.2.2.2.2.2.2.2.2.1:Nat):Int),.int .u64 ((r.2.2.2.2.2.2.2.2.2.2.1:Nat):Int),.int .u64 ((r.2.2.2.2.2.2.2.2.2.2.2.1:Nat):Int),.int .u64 ((r.2.2.2.2.2.2.2.2.2.2.2.2.1:Nat):Int),.int .u64 ((r.2.2.2.2.2.2.2.2.2.2.2.2.2.1:Nat):Int),.int .u64 ((r.2.2.2.2.2.2.2.2.2.2.2.2.2.2.1:Nat):Int),.int .u64 ((r.2.2.2.2.2.2.2.2.2.2.2.2.2.2.2.1:Nat):Int)],.int .i64 r.2.2.2.2.2.2.2.2.2.2.2.2.2.2.2.2]∧Hp m m' []):=by
 unfold Og at hF;refine cw Tryz.func12 ((Hp.start m).i h2) ?_;refine wz ?_;refine wb fun b0=>?_;refine wa uy fun b1=>?_;refine aq ?_;refine Wo.od (ai (k:=1) gN rfl rfl rfl) rfl ?_;refine wz ?_;obtain⟨r4,h3,hF⟩:=J hF;refine wc gn (fun m hm=>HR n x1 l1 x3 a0 c1 _ h3 m (hm.q 2)) ?_;rintro⟨⟩;refine aq ?_;rcases aa hF with⟨h4,hF⟩|⟨h4,hF⟩
 ·refine wz ?_;refine Wo.od (eB rfl uy rfl (eE yC rfl rfl rfl)) rfl ?_;refine wz ?_;refine Wo.o0 (aM (k:=0) cR rfl rfl rfl rfl rfl) ?_;refine aq ?_;cases hF;exact At.ret (.cell (k:=0) cR rfl rfl rfl (.tmp rfl .nil)) fun m' hm=>⟨(),rfl,(ak.az [] rfl rfl) m' hm⟩
 ·refine wz ?_;refine Wk.seq<|Wk.seq ?_;obtain⟨v0,h5,hF⟩:=J hF;refine ct (fun v0 (_:Unit)=>⟨.normal,[(1,aU x3),(2,aX x4),(3,ptr b0 0),(6,ptr b1 0),(35,.bool v0)],[eH b0 x1 a0 l1 c1,ku a0 c1 l1,IW b1]⟩) v0 ?_ ?_
  ·clear hF;revert v0;intro r hF;refine wz ?_;rcases aa hF with⟨h1,hF⟩|⟨h1,hF⟩
   ·refine wz ?_;cases hF;exact ae () [1,2,0]
   ·refine wz ?_;refine Wo.og (ai (k:=1) q7 rfl rfl rfl) (gg rfl rfl (gH h1)) rfl ?_;refine wz ?_;rcases aa hF with⟨h0,hF⟩|⟨h0,hF⟩
    ·refine wz ?_;cases hF;exact ae () [1,2,0]
    ·refine wz ?_;refine Wo.og (ai (k:=1) q7 rfl rfl rfl) (gg rfl rfl (gH h0)) rfl ?_;refine wz ?_;obtain⟨h6,hF⟩:=cQ hF;refine Wo.dK (k:=2) rfl (bK h6) ?_;rintro b4 o1 rfl;refine wz ?_;obtain⟨⟨x5,x6⟩,h7,hF⟩:=J hF;refine Wo.og (de (k:=0) fp rfl rfl (aR h7) rfl rfl) (gg rfl rfl (gH h0)) rfl ?_;obtain⟨r5,h8,hF⟩:=J hF;refine wc (gg rfl rfl (gH h0)) (fun m hm=>Bl n x3 x5 x6  _ h8 m) ?_;rintro⟨⟩;refine wz ?_;cases hF;exact ae () [2,3,1]
  ·clear h5;rintro⟨⟩;refine At.tn ?_;rcases aa hF with⟨h9,hF⟩|⟨h9,hF⟩
   ·refine wz ?_;refine Wo.od (eB rfl uy rfl (eE yC rfl rfl rfl)) rfl<|Wo.o0 (aM (k:=2) cR rfl rfl rfl rfl rfl) ?_;refine aq ?_;cases hF;exact At.ret (.cell (k:=2) cR rfl rfl rfl (.tmp rfl .nil)) fun m' hm=>⟨(),rfl,(ak.az [] rfl rfl) m' hm⟩
   ·refine aq ?_;refine Wo.od (ai (k:=0) gN rfl rfl rfl) rfl ?_;refine wz ?_;obtain⟨⟨r0,l2⟩,h10,hF⟩:=J hF;refine wv gn (fun m hm=>AU n x1 l1 x3 [] [] a0 c1 none none _ h10 m hm.aC (hG.ext hm.ext) (hm.q 1) (hm.no 1) B0.nil B0.nil) ?_;rintro⟨a1,c2,n1⟩;refine Wo.bJ (k:=0) rfl ?_;rintro rfl;refine wa fk fun b2=>?_;refine Wo.o0 (aM (k:=0) aA rfl rfl rfl rfl rfl) ?_;refine aq ?_;refine Wo.od (ai (k:=0) aA rfl rfl rfl) rfl ?_;obtain⟨r6,h11,hF⟩:=J hF;refine wc gn (fun m hm=>sV n r0 l2 a1 c2 _ h11 m (hm.q 1)) ?_;rintro⟨⟩;refine wz ?_;rcases aa hF with⟨h12,hF⟩|⟨h12,hF⟩
    ·refine wz ?_;refine Wo.od (eB rfl uy rfl (eE yC rfl rfl rfl)) rfl<|Wo.o0 (aM (k:=4) cR rfl rfl rfl rfl rfl) ?_;refine aq ?_;cases hF;exact At.ret (.cell (k:=4) cR rfl rfl rfl (.tmp rfl .nil)) fun m' hm=>⟨(),rfl,(ak.az [] rfl rfl) m' hm⟩
    ·refine wz ?_;refine Wk.seq<|Wk.db (prs:=[(0,4),(4,7),(6,7)]) (by kernel_rfl)<|Wn.Lc rfl (ai (k:=2) gN rfl rfl rfl) rfl<|Wn.od (bC rfl) rfl<|Wn.x IE gn rfl fun b3=>?_
     refine Wn.od (bC rfl) rfl<|Wn.RU (l:=[b0,b2]) (Od.x (Qq (q:=0) (xs:=([]:List (Int × Bool))) (k:=x4) (v:=true) (vE:=(fun b:Bool=>.bool b)) L9 (fK u3) rfl rfl rfl rfl)) ⟨⟨_,3,rfl,rfl,fun _=>⟨3,rfl⟩⟩,⟨⟨_,1,rfl,rfl,fun _=>⟨1,rfl⟩⟩,trivial⟩⟩ gn fun _=>?_;refine Wn.od (bC rfl) rfl ?_;obtain⟨⟨r1,l5⟩,h13,hF⟩:=J hF;refine nv gn (fun m hm=>AU n x1 l1 x3 (bR ([]:List (Int × Bool)) x4 true) [] a0 c1 (some b3) none _ h13 m hm.aC (hG.ext hm.ext) (hm.q 4) (hm.no 4) (hm.RS (k:=0) (xs:=(bR ([]:List (Int × Bool)) x4 true)) rfl) B0.nil) ?_;rintro⟨a2,c3,n2⟩;refine Wn.bJ (k:=0) rfl ?_;rintro rfl;refine Wn.Lc rfl (ai (k:=2) aA rfl rfl rfl) rfl ?_;obtain⟨⟨r2,l3,r3,l4⟩,h14,hF⟩:=J hF;refine Wn.c (nF (N:=(fun x:Option Addr × Nat × Nat × Option Addr × Nat × Nat=>[.rd x.1 x.2.1 1 x.2.2.1 (l3.map (eN .u64)),.rd x.2.2.2.1 x.2.2.2.2.1 1 x.2.2.2.2.2 (l4.map (eN .u64))])) rfl rfl (fun m hm=>AP n r1 l5 r0 l2 a2 c3 a1 c2 _ h14 m hm.aC (hm.q 0) (hm.no 0) (hm.q 3) (hm.no 3)) fun _=>rfl) gn rfl ?_;rintro⟨a3,c4,n3,a4,c5,n4⟩;refine Wn.bJ (k:=0) rfl ?_;rintro rfl;refine Wn.bJ (k:=1) rfl ?_;rintro rfl;obtain⟨⟨r7,r8,r9,r10,r11,r12,r13,r14,r15,r16,r17,r18,r19,r20,r21,r22,r23⟩,h15,hF⟩:=J hF;refine nc gn (fun m hm=>AA n r2 l3 r3 l4 a3 c4 a4 c5 _ h15 m (hm.q 0) (hm.q 1)) ?_;rintro⟨⟩;refine Wn.od (wj rfl rfl) rfl<|Wn.od (wj rfl rfl) rfl<|Wn.o0 (aM (k:=8) cR rfl rfl rfl rfl rfl)<|Wn.od (nr rfl) rfl ?_;refine Wn.nil (fun m hm=>(by(first|refine cP.rk rfl rfl rfl (by simp) ?_|refine cP.step rfl ?_); exact(by(first|refine cP.kr rfl rfl rfl (by simp) ?_|refine cP.step rfl ?_); exact(cP.step rfl cP.nil)))) ?_
     refine aq ?_;cases hF;exact At.ret (.cell (k:=8) cR rfl rfl rfl (.tmp rfl .nil)) fun m' hm=>⟨(),rfl,(ak.az [] rfl rfl) m' hm⟩
theorem qq (n x1 x2 x3 x4 x5 x6 x7 x8 x9 x10 x11 x12 x13 x14 x15 x16 r) (hF:vw n x1 x2 x3 x4 x5 x6 x7 x8 x9 x10 x11 x12 x13 x14 x15 x16=some r) (m) {H:Nat→Prop} (hH:∀b,H b→b<m.next):
  aB an 102 [JN x1 x2 x3 x4 x5 x6 x7 x8 x9 x10 x11 x12 x13 x14 x15 x16] m (fun v m'=>∃x:Option Addr × Nat × Nat × Option Addr × Nat × Nat,v = .agg #[.bool r.1,.slice x.1 x.2.2.1 x.2.1,.bool r.2.2.1,.slice x.2.2.2.1 x.2.2.2.2.2 x.2.2.2.2.1]∧Hp m m' [.rd x.1 x.2.1 1 x.2.2.1 (r.2.1.map (eN .u64)),.rd x.2.2.2.1 x.2.2.2.2.1 1 x.2.2.2.2.2 (r.2.2.2.map (eN .u64)),dY H]):=by
 unfold vw at hF;refine cw Tryz.func102 (Hp.dZ m hH) ?_;refine wz ?_;refine wb fun b17=>?_;refine wa tE fun b18=>?_;refine wz ?_;refine Wk.seq<|Wk.db (prs:=[(2,4)]) (by kernel_rfl)<|Wn.od (fa (r:=ptr b17 0) rfl (Gr _ _)) rfl<|Wn.od (ai (k:=1) eO rfl rfl rfl) rfl ?_
 obtain⟨⟨r20,l21⟩,h19,hF⟩:=J hF;refine nv gn (fun m hm=>rn n x1 x2 x3 x4 x5 x6 x7 x8  _ h19 m hm.aC) ?_;rintro⟨a22,c23,n24⟩;refine Wn.bJ (k:=0) rfl ?_;rintro rfl;refine Wn.od (fa (r:=ptr b17 8) rfl (Fm _ _)) rfl<|Wn.od (ai (k:=2) eO rfl rfl rfl) rfl ?_;obtain⟨⟨r26,l27⟩,h25,hF⟩:=J hF;refine nv gn (fun m hm=>rn n x9 x10 x11 x12 x13 x14 x15 x16  _ h25 m hm.aC) ?_;rintro⟨a28,c29,n30⟩;refine Wn.bJ (k:=0) rfl ?_;rintro rfl;refine Wn.od (eB rfl tE rfl (eE FB rfl rfl rfl)) rfl<|Wn.o0 (aM (k:=2) im rfl rfl rfl rfl rfl)<|Wn.nil (fun m hm=>cP.all rfl) ?_;refine aq ?_;cases hF;exact At.ret (.cell (k:=2) im rfl rfl rfl .nil) fun m' hm=>⟨(a22,c23,l21.length,a28,c29,l27.length),rfl,(ak.az [1,0,4] rfl rfl) m' hm⟩
theorem Nx (n x1 l2 x6 l7 a3 c4 a8 c9 r) (hF:Pd n x1 l2 x6 l7=some r) (m) (h5:dD m a3 c4 l2) (h10:dD m a8 c9 l7):
  aB an 68 [kH x1 a3 l2 c4,kH x6 a8 l7 c9] m (fun v m'=>∃_:Unit,v = .int .i64 r∧Hp m m' []):=by
 unfold Pd at hF;refine cw Tryz.func68 (((Hp.start m).i h5).i h10) ?_;refine wz ?_;refine wb fun b11=>?_;refine wb fun b12=>?_;refine aq ?_;refine Wo.od (ai (k:=1) aA rfl rfl rfl) rfl<|Wo.od (ai (k:=0) aA rfl rfl rfl) rfl ?_;obtain⟨⟨r14,l15⟩,h13,hF⟩:=J hF;refine wv gn (fun m hm=>GF n x1 l2 x6 l7 a3 c4 a8 c9 _ h13 m hm.aC (hm.q 3) (hm.no 3) (hm.q 2) (hm.no 2)) ?_;rintro⟨a16,c17,n18⟩;refine Wo.bJ (k:=0) rfl ?_;rintro rfl;obtain⟨r20,h19,hF⟩:=J hF;refine wc gn (fun m hm=>sV n r14 l15 a16 c17 _ h19 m (hm.q 0)) ?_;rintro⟨⟩;refine aq ?_;obtain rfl:=Option.some.inj hF;exact ar () []
theorem J1 (n x1 x2 x3 x4 x5 x6 x7 x8 x9 x10 x11 x12 x13 x14 x15 x16 r) (hF:G3 n x1 x2 x3 x4 x5 x6 x7 x8 x9 x10 x11 x12 x13 x14 x15 x16=some r) (m):
  aB an 136 [JN x1 x2 x3 x4 x5 x6 x7 x8 x9 x10 x11 x12 x13 x14 x15 x16] m (fun v m'=>∃_:Unit,v = .int .i64 r∧Hp m m' []):=by
 unfold G3 at hF;refine cw Tryz.func136 (Hp.start m) ?_;refine wz ?_;refine wb fun b17=>?_;refine aq ?_;obtain⟨⟨r19,l20⟩,h18,hF⟩:=J hF;refine wv gn (fun m hm=>jn n 1  _ h18 m hm.aC) ?_;rintro⟨a21,c22,n23⟩;refine Wo.bJ (k:=0) rfl ?_;rintro rfl;refine wa fk fun b24=>?_;refine Wo.o0 (aM (k:=0) aA rfl rfl rfl rfl rfl) ?_;refine aq ?_;refine Wo.od (ai (k:=2) cR rfl rfl rfl) rfl ?_;obtain⟨⟨r26,l27,r31,l32⟩,h25,hF⟩:=J hF;refine Wo.x (pT (N:=(fun x:Option Addr × Nat × Nat × Option Addr × Nat × Nat=>[.rd x.1 x.2.1 1 x.2.2.1 (l27.map (eN .u64)),.rd x.2.2.2.1 x.2.2.2.2.1 1 x.2.2.2.2.2 (l32.map (eN .u64))])) rfl rfl (fun m hm=>qq n x1 x2 x3 x4 x5 x6 x7 x8 x9 x10 x11 x12 x13 x14 x15 x16  _ h25 m hm.aC) fun _=>rfl) gn rfl ?_;rintro⟨a28,c29,n30,a33,c34,n35⟩;refine Wo.bJ (k:=0) rfl ?_;rintro rfl;refine Wo.bJ (k:=1) rfl ?_;rintro rfl;refine wa tE fun b36=>?_;refine Wo.o0 (aM (k:=0) im rfl rfl rfl rfl rfl) ?_;refine wz ?_;refine Wk.seq<|Wk.seq ?_;obtain⟨v74,h86,hF⟩:=J hF;refine ct (fun v74 (_:Unit)=>⟨.normal,[(21,.bool v74)],[]⟩) v74 ?_ ?_
 ·clear hF;revert v74;intro r hF;refine Wk.db (prs:=[(9,10)]) (by kernel_rfl)<|Wn.od (fa (r:=ptr b36 2) rfl (jF _ _)) rfl<|Wn.od (ai (k:=0) aA rfl rfl rfl) rfl ?_
  obtain⟨r76,h75,hF⟩:=J hF;refine nc gn (fun m hm=>sV n r31 l32 a33 c34 _ h75 m (hm.q 2)) ?_;rintro⟨⟩;refine Wn.od (aN rfl rfl (wg _ _ _)) rfl<|Wn.od (bC rfl) rfl ?_;rcases aa hF with⟨h77,hF⟩|⟨h77,hF⟩
  ·refine Wn.s (gg rfl rfl (pR h77)) rfl<|Wn.s (gg rfl rfl (pR h77)) rfl<|Wn.s (gg rfl rfl (pR h77)) rfl<|Wn.s (gg rfl rfl (pR h77)) rfl<|Wn.s (gg rfl rfl (pR h77)) rfl<|Wn.s (gg rfl rfl (pR h77)) rfl<|Wn.s (gg rfl rfl (pR h77)) rfl<|Wn.s (gg rfl rfl (pR h77)) rfl<|Wn.od (Eo rfl h77 rfl) rfl<|Wn.nil (fun m hm=>cP.all rfl) ?_;cases hF;exact ae () []
  ·refine Wn.og (fa (r:=ptr b36 0) rfl (qE _ _)) (gg rfl rfl (gH h77)) rfl<|Wn.og (ai (k:=0) aA rfl rfl rfl) (gg rfl rfl (gH h77)) rfl<|Wn.og (fa (r:=ptr b36 2) rfl (jF _ _)) (gg rfl rfl (gH h77)) rfl<|Wn.og (ai (k:=0) aA rfl rfl rfl) (gg rfl rfl (gH h77)) rfl ?_;obtain⟨⟨r79,l80⟩,h78,hF⟩:=J hF;refine nv (gg rfl rfl (gH h77)) (fun m hm=>B1 n r26 l27 r31 l32 a28 c29 a33 c34 _ h78 m hm.aC (hm.q 1) (hm.no 1) (hm.q 2) (hm.no 2)) ?_;rintro⟨a81,c82,n83⟩;refine Wn.bJ (k:=0) rfl ?_;rintro rfl;refine Wn.og (ai (k:=4) aA rfl rfl rfl) (gg rfl rfl (gH h77)) rfl ?_;obtain⟨r85,h84,hF⟩:=J hF;refine nc (gg rfl rfl (gH h77)) (fun m hm=>Nx n r79 l80 r19 l20 a81 c82 a21 c22 _ h84 m (hm.q 0) (hm.q 5)) ?_;rintro⟨⟩;refine Wn.og (aN rfl rfl (sC _ _)) (gg rfl rfl (gH h77)) rfl<|Wn.od (Eu rfl h77 rfl) rfl<|Wn.nil (fun m hm=>cP.all rfl) ?_;cases hF;exact ae () []
 ·clear h86;rintro⟨⟩;refine At.tn ?_;rcases aa hF with⟨h88,hF⟩|⟨h88,hF⟩
  ·refine aq ?_;cases hF;exact ar () []
  ·refine gG ?_;cases hF;exact ar () []
theorem KT (n x1 x2 x3 x4 x5 x6 x7 x8 x9 x10 x11 x12 x13 x14 x15 x16 r) (hF:E2 n x1 x2 x3 x4 x5 x6 x7 x8 x9 x10 x11 x12 x13 x14 x15 x16=some r) (m):
  aB an 135 [JN x1 x2 x3 x4 x5 x6 x7 x8 x9 x10 x11 x12 x13 x14 x15 x16] m (fun v m'=>∃_:Unit,v = .bool r∧Hp m m' []):=by
 unfold E2 at hF;refine cw Tryz.func135 (Hp.start m) ?_;refine wz ?_;refine wb fun b17=>?_;refine aq ?_;refine Wo.od (ai (k:=0) cR rfl rfl rfl) rfl ?_;obtain⟨r19,h18,hF⟩:=J hF;refine wc gn (fun m hm=>J1 n x1 x2 x3 x4 x5 x6 x7 x8 x9 x10 x11 x12 x13 x14 x15 x16  _ h18 m) ?_;rintro⟨⟩;refine aq ?_;cases hF;exact ar () []
theorem G6 (n l1 a0 c1 r) (hF:K7 n l1=some r) (m) (h1:Pt m a0 c1 l1):
  aB an 99 [bG a0 l1 c1] m (fun v m'=>∃_:Unit,v = .bool r∧Hp m m' []):=by
 unfold K7 at hF;refine cw Tryz.func99 ((Hp.start m).i h1) ?_;refine gG ?_;obtain⟨v0,h2,hF⟩:=J hF;refine Wo.x (fH (α:=Unit) (V:=fun g=>(fun(r:Bool) (g:Unit)=>match r,g with|v0,_=>(.bool v0:Value)) v0 g) (N:=fun g=>(fun(r:Bool) (g:Unit)=>match r,g with|v0,_=>([]:List Pc)) v0 g) rfl rfl (fun m hm=>?_)) gn rfl ?_
 ·clear hF;revert v0;intro r hF;refine bN (N:=18) (rs:=[.tmp 4]) rfl Tryz.func137 rfl rfl rfl hm ?_;refine aq ?_;refine Wk.block ?_;obtain⟨r0,h0,hF⟩:=J hF;refine ct (fun(r:(Unit) ⊕ (Unit)) (g:Unit)=>match r,g with | .inl _,_=>⟨.ret,[(4,.bool false)],[]⟩ | .inr _,_=>⟨(.exit 0),[],[]⟩) r0 ?_ ?_
  ·refine lo h0 () [0] (fun v1 _=>⟨.normal,[(0,.func (.func 135) #[] #[]),(7,bG a0 l1 c1),(8,fG l1),(9,aX v1)],[P9 a0 c1 l1]⟩) ?_;clear hF h0;rintro v1 ⟨⟩ r hF;unfold uV at hF;refine wz ?_;refine Wk.seq ?_;rcases aa hF with⟨h3,hF⟩|⟨h3,hF⟩
   ·refine aq ?_;obtain⟨h4,hF⟩:=cQ hF;refine Wo.dK (k:=0) rfl (bK h4) ?_;rintro b0 o1 rfl;refine wz ?_;obtain⟨⟨x3,x4,x5,x6,x7,x8,x9,x10,x11,x12,x13,x14,x15,x16,x17,x18⟩,h5,hF⟩:=J hF;refine Wo.od (de (k:=0) cR rfl rfl (aR h5) rfl rfl) rfl<|wa uy fun b1=>?_;refine Wo.o0 (aM (k:=0) cR rfl rfl rfl rfl rfl) ?_;refine aq ?_;refine Wo.od (ai (k:=0) cR rfl rfl rfl) rfl ?_;obtain⟨r1,h6,hF⟩:=J hF;refine wc gn (fun m hm=>KT n x3 x4 x5 x6 x7 x8 x9 x10 x11 x12 x13 x14 x15 x16 x17 x18  _ h6 m) ?_;rintro⟨⟩;refine wz ?_;rcases aa hF with⟨h7,hF⟩|⟨h7,hF⟩
    ·refine aq ?_;cases hF;exact ae () []
    ·refine aq ?_;cases hF;exact ae () [2]
   ·refine wz ?_;cases hF;exact ae () []
  ·clear h0;rcases r0 with _|_
   ·rintro⟨⟩;refine wz ?_;cases hF;exact ar () []
   ·rintro⟨⟩;refine gG ?_;cases hF;exact ar () []
 ·clear h2;rintro⟨⟩;refine aq ?_;obtain rfl:=Option.some.inj hF;exact ar () []
theorem Ma (n x1 l2 x6 l7 x11 l12 x16 l17 a3 c4 a8 c9 a13 c14 a18 c19 r) (hF:Qi n x1 l2 x6 l7 x11 l12 x16 l17=some r) (m) (h5:dD m a3 c4 l2) (h10:dD m a8 c9 l7) (h15:dD m a13 c14 l12) (h20:dD m a18 c19 l17):
  aB an 95 [H6 x1 a3 l2 c4 x6 a8 l7 c9,H6 x11 a13 l12 c14 x16 a18 l17 c19] m (fun v m'=>∃_:Unit,v = .int .i64 r∧Hp m m' []):=by
 unfold Qi at hF;refine cw Tryz.func95 (((((Hp.start m).i h5).i h10).i h15).i h20) ?_;refine wz ?_;refine wb fun b21=>?_;refine wb fun b22=>?_;refine aq ?_;refine Wo.od (ai (k:=1) aA rfl rfl rfl) rfl ?_;obtain⟨r24,h23,hF⟩:=J hF;refine wc gn (fun m hm=>sV n x1 l2 a3 c4 _ h23 m (hm.q 5)) ?_;rintro⟨⟩;refine aq ?_;obtain rfl:=Option.some.inj hF;exact ar () []
theorem Nq (n x1 x2 x3 x4 x5 x6 x7 x8 x9 x10 x11 x12 x13 x14 x15 x16 r) (hF:OC n x1 x2 x3 x4 x5 x6 x7 x8 x9 x10 x11 x12 x13 x14 x15 x16=some r) (m):
  aB an 40 [JN x1 x2 x3 x4 x5 x6 x7 x8 x9 x10 x11 x12 x13 x14 x15 x16] m (fun v m'=>∃_:Unit,v = .tuple #[.int .i64 r.1,.int .i64 r.2]∧Hp m m' []):=by
 unfold OC at hF;refine cw Tryz.func40 (Hp.start m) ?_;refine wz ?_;refine wb fun b17=>?_;refine aq ?_;refine Wo.od (ai (k:=0) cR rfl rfl rfl) rfl<|Wo.od (ai (k:=0) cR rfl rfl rfl) rfl ?_;obtain⟨r80,h81,hF⟩:=J hF;refine Wo.x (fH (α:=Unit) (V:=fun g=>(fun(r:Int × Int) (g:Unit)=>match r,g with | (v48,v49),_=>(.tuple #[aX v48,aX v49]:Value)) r80 g) (N:=fun g=>(fun(r:Int × Int) (g:Unit)=>match r,g with | (v48,v49),_=>([]:List Pc)) r80 g) rfl rfl (fun m hm=>?_)) gn rfl ?_
 ·clear hF;revert r80;intro r hF;refine bN (N:=21) (rs:=[.tmp 6,.tmp 7]) rfl Tryz.func94 rfl rfl rfl hm ?_;refine wz ?_;refine wb fun b50=>?_;refine wb fun b51=>?_;refine aq ?_;refine Wo.od (ai (k:=1) cR rfl rfl rfl) rfl<|Wo.od (ai (k:=0) cR rfl rfl rfl) rfl<|Wo.x (Ae (es:=([(x1,x2,x3,x4,x5,x6,x7,x8,x9,x10,x11,x12,x13,x14,x15,x16),(x1,x2,x3,x4,x5,x6,x7,x8,x9,x10,x11,x12,x13,x14,x15,x16)]:List (Nat × Nat × Nat × Nat × Nat × Nat × Nat × Nat × Nat × Nat × Nat × Nat × Nat × Nat × Nat × Nat)).map (eP (eN .u64) (eP (eN .u64) (eP (eN .u64) (eP (eN .u64) (eP (eN .u64) (eP (eN .u64) (eP (eN .u64) (eP (eN .u64) (eP (eN .u64) (eP (eN .u64) (eP (eN .u64) (eP (eN .u64) (eP (eN .u64) (eP (eN .u64) (eP (eN .u64) (eN .u64))))))))))))))))) Oh rfl (za Oh uy rfl rfl) rfl rfl) gn rfl fun b52=>?_;obtain⟨r54,h53,hF⟩:=J hF;refine wc gn (fun m hm=>G6 n ([(x1,x2,x3,x4,x5,x6,x7,x8,x9,x10,x11,x12,x13,x14,x15,x16),(x1,x2,x3,x4,x5,x6,x7,x8,x9,x10,x11,x12,x13,x14,x15,x16)]) (some ⟨b52,0,none⟩) 2 _ h53 m (hm.q 0)) ?_;rintro⟨⟩;refine wz ?_;rcases aa hF with⟨h55,hF⟩|⟨h55,hF⟩
  ·refine gG ?_;cases hF;exact ar () []
  ·refine wz ?_;refine Wk.seq<|Wk.db (prs:=[(2,3)]) (by kernel_rfl)<|Wn.od (bC rfl) rfl<|Wn.od (ai (k:=2) cR rfl rfl rfl) rfl ?_
   obtain⟨⟨r57,l58,r62,l63⟩,h56,hF⟩:=J hF;refine Wn.c (nF (N:=(fun x:Option Addr × Nat × Nat × Option Addr × Nat × Nat=>[.rd x.1 x.2.1 1 x.2.2.1 (l58.map (eN .u64)),.rd x.2.2.2.1 x.2.2.2.2.1 1 x.2.2.2.2.2 (l63.map (eN .u64))])) rfl rfl (fun m hm=>qq n x1 x2 x3 x4 x5 x6 x7 x8 x9 x10 x11 x12 x13 x14 x15 x16  _ h56 m hm.aC) fun _=>rfl) gn rfl ?_;rintro⟨a59,c60,n61,a64,c65,n66⟩;refine Wn.bJ (k:=0) rfl ?_;rintro rfl;refine Wn.bJ (k:=1) rfl ?_;rintro rfl;refine Wn.od (ai (k:=3) cR rfl rfl rfl) rfl ?_;obtain⟨⟨r68,l69,r73,l74⟩,h67,hF⟩:=J hF;refine Wn.c (nF (N:=(fun x:Option Addr × Nat × Nat × Option Addr × Nat × Nat=>[.rd x.1 x.2.1 1 x.2.2.1 (l69.map (eN .u64)),.rd x.2.2.2.1 x.2.2.2.2.1 1 x.2.2.2.2.2 (l74.map (eN .u64))])) rfl rfl (fun m hm=>qq n x1 x2 x3 x4 x5 x6 x7 x8 x9 x10 x11 x12 x13 x14 x15 x16  _ h67 m hm.aC) fun _=>rfl) gn rfl ?_;rintro⟨a70,c71,n72,a75,c76,n77⟩;refine Wn.bJ (k:=0) rfl ?_;rintro rfl;refine Wn.bJ (k:=1) rfl ?_;rintro rfl;obtain⟨r79,h78,hF⟩:=J hF;refine nc gn (fun m hm=>Ma n r57 l58 r62 l63 r68 l69 r73 l74 a59 c60 a64 c65 a70 c71 a75 c76 _ h78 m (hm.q 2) (hm.q 3) (hm.q 0) (hm.q 1)) ?_;rintro⟨⟩;refine Wn.od (nr rfl) rfl<|Wn.od (nr rfl) rfl<|Wn.nil (fun m hm=>cP.all rfl) ?_;refine aq ?_;cases hF;exact ar () []
 ·clear h81;obtain⟨v48,v49⟩:=r80;rintro⟨⟩;refine aq ?_;cases hF;exact ar () []
theorem M0 (n x1 x2 x3 x4 x5 x6 x7 x8 x9 x10 x11 x12 x13 x14 x15 x16 r) (hF:PW n x1 x2 x3 x4 x5 x6 x7 x8 x9 x10 x11 x12 x13 x14 x15 x16=some r) (m):
  aB an 34 [JT x1 x2 x3 x4 x5 x6 x7 x8,JT x9 x10 x11 x12 x13 x14 x15 x16] m (fun v m'=>∃_:Unit,v = .tuple #[.agg #[.int .u64 ((r.1:Nat):Int),.int .u64 ((r.2.1:Nat):Int),.int .u64 ((r.2.2.1:Nat):Int),.int .u64 ((r.2.2.2.1:Nat):Int),.int .u64 ((r.2.2.2.2.1:Nat):Int),.int .u64 ((r.2.2.2.2.2.1:Nat):Int),.int .u64 ((r.2.2.2.2.2.2.1:Nat):Int),.int .u64 ((r.2.2.2.2.2.2.2.1:Nat):Int),.int .u64 ((r.2.2.2.2.2.2.2.2.1:Nat):Int),.int .u64 ((r.2.2.2.2.2.2.2.2.2.1:Nat):Int),.int .u64 ((r.2.2.2.2.2.2.2.2.2.2.1:Nat):Int),.int .u64 ((r.2.2.2.2.2.2.2.2.2.2.2.1:Nat):Int),.int .u64 ((r.2.2.2.2.2.2.2.2.2.2.2.2.1:Nat):Int),.int .u64 ((r.2.2.2.2.2.2.2.2.2.2.2.2.2.1:Nat):Int),.int .u64 ((r.2.2.2.2.2.2.2.2.2.2.2.2.2.2.1:Nat):Int),.int .u64 ((r.2.2.2.2.2.2.2.2.2.2.2.2.2.2.2.1:Nat):Int)],.int .i64 r.2.2.2.2.2.2.2.2.2.2.2.2.2.2.2.2]∧Hp m m' []):=by
 unfold PW at hF;refine cw Tryz.func34 (Hp.start m) ?_;refine wz ?_;refine wb fun b17=>?_;refine wb fun b18=>?_;refine wa uy fun b19=>?_;refine aq ?_;refine Wo.od (ai (k:=1) eO rfl rfl rfl) rfl<|Wo.od (eB rfl z38 rfl (eE BG rfl rfl rfl)) rfl<|Wo.od (aN rfl rfl (ue NP (MT _ _ _ _ _ _ _ _ _ _ _ _ _ _ _ _))) rfl ?_;refine wz ?_;rcases aa hF with⟨h20,hF⟩|⟨h20,hF⟩
 ·refine wz ?_;refine Wo.od (eB rfl uy rfl (eE yC rfl rfl rfl)) rfl<|Wo.o0 (aM (k:=0) cR rfl rfl rfl rfl rfl) ?_;refine aq ?_;cases hF;exact At.ret (.cell (k:=0) cR rfl rfl rfl (.tmp rfl .nil)) fun m' hm=>⟨(),rfl,(ak.az [] rfl rfl) m' hm⟩
 ·refine wz ?_;refine Wk.seq<|Wk.db (prs:=[(1,2)]) (by kernel_rfl)<|Wn.od (ai (k:=2) eO rfl rfl rfl) rfl ?_
  obtain⟨⟨r22,l23⟩,h21,hF⟩:=J hF;refine nv gn (fun m hm=>rn n x1 x2 x3 x4 x5 x6 x7 x8  _ h21 m hm.aC) ?_;rintro⟨a24,c25,n26⟩;refine Wn.bJ (k:=0) rfl ?_;rintro rfl;refine Wn.od (ai (k:=2) eO rfl rfl rfl) rfl ?_;obtain⟨⟨r28,l29⟩,h27,hF⟩:=J hF;refine nv gn (fun m hm=>rn n x9 x10 x11 x12 x13 x14 x15 x16  _ h27 m hm.aC) ?_;rintro⟨a30,c31,n32⟩;refine Wn.bJ (k:=0) rfl ?_;rintro rfl;obtain⟨⟨r34,l35,r39,l40⟩,h33,hF⟩:=J hF;refine Wn.c (nF (N:=(fun x:Option Addr × Nat × Nat × Option Addr × Nat × Nat=>[.rd x.1 x.2.1 1 x.2.2.1 (l35.map (eN .u64)),.rd x.2.2.2.1 x.2.2.2.2.1 1 x.2.2.2.2.2 (l40.map (eN .u64))])) rfl rfl (fun m hm=>AP n r22 l23 r28 l29 a24 c25 a30 c31 _ h33 m hm.aC (hm.q 1) (hm.no 1) (hm.q 0) (hm.no 0)) fun _=>rfl) gn rfl ?_;rintro⟨a36,c37,n38,a41,c42,n43⟩;refine Wn.bJ (k:=0) rfl ?_;rintro rfl;refine Wn.bJ (k:=1) rfl ?_;rintro rfl;obtain⟨⟨r45,r46,r47,r48,r49,r50,r51,r52,r53,r54,r55,r56,r57,r58,r59,r60,r61⟩,h44,hF⟩:=J hF;refine nc gn (fun m hm=>AA n r34 l35 r39 l40 a36 c37 a41 c42 _ h44 m (hm.q 0) (hm.q 1)) ?_;rintro⟨⟩;refine Wn.od (wj rfl rfl) rfl<|Wn.od (wj rfl rfl) rfl<|Wn.o0 (aM (k:=4) cR rfl rfl rfl rfl rfl)<|Wn.od (nr rfl) rfl<|Wn.nil (fun m hm=>cP.all rfl) ?_;refine aq ?_;cases hF;exact At.ret (.cell (k:=4) cR rfl rfl rfl (.tmp rfl .nil)) fun m' hm=>⟨(),rfl,(ak.az [] rfl rfl) m' hm⟩
theorem H9 (n x1 x2 r) (hF:NA n x1 x2=some r) (m):
  aB an 96 [aX x1,aX x2] m (fun v m'=>∃_:Unit,v = .tuple #[.agg #[.int .u64 ((r.1:Nat):Int),.int .u64 ((r.2.1:Nat):Int),.int .u64 ((r.2.2.1:Nat):Int),.int .u64 ((r.2.2.2.1:Nat):Int),.int .u64 ((r.2.2.2.2.1:Nat):Int),.int .u64 ((r.2.2.2.2.2.1:Nat):Int),.int .u64 ((r.2.2.2.2.2.2.1:Nat):Int),.int .u64 ((r.2.2.2.2.2.2.2.1:Nat):Int),.int .u64 ((r.2.2.2.2.2.2.2.2.1:Nat):Int),.int .u64 ((r.2.2.2.2.2.2.2.2.2.1:Nat):Int),.int .u64 ((r.2.2.2.2.2.2.2.2.2.2.1:Nat):Int),.int .u64 ((r.2.2.2.2.2.2.2.2.2.2.2.1:Nat):Int),.int .u64 ((r.2.2.2.2.2.2.2.2.2.2.2.2.1:Nat):Int),.int .u64 ((r.2.2.2.2.2.2.2.2.2.2.2.2.2.1:Nat):Int),.int .u64 ((r.2.2.2.2.2.2.2.2.2.2.2.2.2.2.1:Nat):Int),.int .u64 ((r.2.2.2.2.2.2.2.2.2.2.2.2.2.2.2.1:Nat):Int)],.int .i64 r.2.2.2.2.2.2.2.2.2.2.2.2.2.2.2.2]∧Hp m m' []):=by
 unfold NA at hF;refine cw Tryz.func96 (Hp.start m) ?_;refine wz ?_;refine wa uy fun b3=>?_;refine aq ?_;obtain⟨⟨r5,r6,r7,r8,r9,r10,r11,r12⟩,h4,hF⟩:=J hF;refine wc gn (fun m hm=>AX n x1  _ h4 m) ?_;rintro⟨⟩;refine wz ?_;obtain⟨⟨r14,r15,r16,r17,r18,r19,r20,r21⟩,h13,hF⟩:=J hF;refine wc gn (fun m hm=>AX n x2  _ h13 m) ?_;rintro⟨⟩;obtain⟨⟨r23,r24,r25,r26,r27,r28,r29,r30,r31,r32,r33,r34,r35,r36,r37,r38,r39⟩,h22,hF⟩:=J hF;refine wc gn (fun m hm=>M0 n r5 r6 r7 r8 r9 r10 r11 r12 r14 r15 r16 r17 r18 r19 r20 r21  _ h22 m) ?_;rintro⟨⟩;refine wz ?_;refine Wo.o0 (aM (k:=0) cR rfl rfl rfl rfl rfl) ?_;refine aq ?_;cases hF;exact At.ret (.cell (k:=0) cR rfl rfl rfl (.tmp rfl .nil)) fun m' hm=>⟨(),rfl,(ak.az [] rfl rfl) m' hm⟩
theorem NK (n l1 x5 x6 a2 c3 r) (hF:ON n l1 x5 x6=some r) (m) (h4:p8 m a2 c3 l1):
  aB an 98 [bG a2 l1 c3,.agg #[aX x5,aX x6]] m (fun v m'=>∃_:Unit,v = .int .i64 r∧Hp m m' []):=by
 unfold ON at hF;refine cw Tryz.func98 ((Hp.start m).i h4) ?_;refine wz ?_;refine wb fun b7=>?_;refine aq ?_;refine Wk.block ?_;obtain⟨r29,h28,hF⟩:=J hF;refine ct (fun(r:(Int) ⊕ (Unit)) (g:Unit)=>match r,g with | .inl v19,_=>⟨.ret,[(4,aX v19)],[]⟩ | .inr _,_=>⟨(.exit 0),[],[]⟩) r29 ?_ ?_
 ·refine lo h28 () [1,0] (fun v9 _=>⟨.normal,[(0,bG a2 l1 c3),(3,ptr b7 0),(7,fG l1),(8,aX v9)],[ku a2 c3 l1,iM b7 x5 x6]⟩) ?_;clear hF h28;rintro v9 ⟨⟩ r hF;unfold lG at hF;refine wz ?_;refine Wk.seq ?_;rcases aa hF with⟨h20,hF⟩|⟨h20,hF⟩
  ·refine gG ?_;refine Wo.od (ai (k:=1) fp rfl rfl rfl) rfl ?_;refine wz ?_;obtain⟨h21,hF⟩:=cQ hF;refine Wo.dK (k:=0) rfl (bK h21) ?_;rintro b22 o23 rfl;refine wz ?_;obtain⟨⟨x24,x25⟩,h26,hF⟩:=J hF;refine Wo.od (de (k:=0) fp rfl rfl (aR h26) rfl rfl) rfl<|Wo.od (aN rfl rfl (ue QL (QZ _ _ _ _))) rfl ?_;refine wz ?_;rcases aa hF with⟨h27,hF⟩|⟨h27,hF⟩
   ·refine aq ?_;cases hF;exact ae () []
   ·refine aq ?_;cases hF;exact ae () [1,2]
  ·refine wz ?_;cases hF;exact ae () []
 ·clear h28;rcases r29 with v19|_
  ·rintro⟨⟩;refine wz ?_;obtain rfl:=Option.some.inj hF;exact ar () []
  ·rintro⟨⟩;refine gG ?_;cases hF;exact ar () []
theorem Nn (n l1 x5 x6 a2 c3 r) (hF:LO n l1 x5 x6=some r) (m) (h4:p8 m a2 c3 l1):
  aB an 42 [bG a2 l1 c3,.agg #[aX x5,aX x6]] m (fun v m'=>∃_:Unit,v = .bool r∧Hp m m' []):=by
 unfold LO at hF;refine cw Tryz.func42 ((Hp.start m).i h4) ?_;refine wz ?_;refine wb fun b7=>?_;refine aq ?_;refine Wo.od (ai (k:=0) fp rfl rfl rfl) rfl ?_;obtain⟨r9,h8,hF⟩:=J hF;refine wc gn (fun m hm=>NK n l1 x5 x6 a2 c3 _ h8 m (hm.q 1)) ?_;rintro⟨⟩;refine aq ?_;cases hF;exact ar () []
theorem Mv (n x1 r) (hF:P3 n x1=some r) (m):
  aB an 43 [aU x1] m (fun v m'=>∃_:Unit,v = .int .i64 r∧Hp m m' []):=by
 unfold P3 at hF;refine cw Tryz.func43 (Hp.start m) ?_;refine aq ?_;refine Wo.od (aN rfl rfl (cC _ _ rfl)) rfl<|Wo.od (aN rfl rfl (lC rfl _ _)) rfl<|Wo.od (bC rfl) rfl<|Wo.od (aN rfl rfl (lC rfl _ _)) rfl ?_;obtain⟨y2,h3,hF⟩:=J hF;refine Wo.od (aN rfl rfl ((oK rfl _ _).trans (cN h3))) rfl ?_;refine aq ?_;refine Wo.od (aN rfl rfl (cC _ _ rfl)) rfl<|Wo.od (aN rfl rfl (lC rfl _ _)) rfl<|Wo.od (bC rfl) rfl<|Wo.od (aN rfl rfl (lC rfl _ _)) rfl ?_;obtain⟨y4,h5,hF⟩:=J hF;refine Wo.od (aN rfl rfl ((oK rfl _ _).trans (cN h5))) rfl ?_;refine aq ?_;refine Wo.od (aN rfl rfl (cC _ _ rfl)) rfl<|Wo.od (bC rfl) rfl<|Wo.od (aN rfl rfl (oK rfl _ _)) rfl ?_;obtain⟨y6,h7,hF⟩:=J hF;refine Wo.od (aN rfl rfl ((lC rfl _ _).trans (cN h7))) rfl ?_;refine aq ?_;refine Wo.od (aN rfl rfl (cC _ _ rfl)) rfl ?_;refine aq ?_;refine Wo.od (aN rfl rfl (cC _ _ rfl)) rfl ?_;obtain⟨y8,h9,hF⟩:=J hF;refine Wo.od (aN rfl rfl ((oK rfl _ _).trans (cN h9))) rfl ?_;refine aq ?_;refine Wo.od (aN rfl rfl (cC _ _ rfl)) rfl ?_;refine aq ?_;refine Wo.od (tB rfl (BJ (by rw[PQ]; rfl) u3)) rfl ?_
 obtain⟨y10,h11,hF⟩:=J hF;refine Wo.od (aN rfl rfl ((M8 _ _).trans (cI h11))) rfl ?_;refine aq ?_;obtain rfl:=Option.some.inj hF;exact ar () []
theorem IU (n x1 l2 a3 c4 r) (hF:Ju n x1 l2=some r) (m) {H:Nat→Prop} (hH:∀b,H b→b<m.next) (h5:dD m a3 c4 l2) (h6:∀b,gE a3=some b→¬H b):
  aB an 138 [kH x1 a3 l2 c4] m (fun v m'=>∃x:Option Addr × Nat × Nat × Option Addr × Nat × Nat,v = .agg #[.bool r.1,.slice x.1 x.2.2.1 x.2.1,.bool r.2.2.1,.slice x.2.2.2.1 x.2.2.2.2.2 x.2.2.2.2.1]∧Hp m m' [.rd x.1 x.2.1 1 x.2.2.1 (r.2.1.map (eN .u64)),.rd x.2.2.2.1 x.2.2.2.2.1 1 x.2.2.2.2.2 (r.2.2.2.map (eN .u64)),dY H]):=by
 unfold Ju at hF;refine cw Tryz.func138 (Hp.ie (l0:=[]) (Hp.dZ m hH) rfl h5 h6) ?_;refine wz ?_;refine wb fun b7=>?_;refine wa tE fun b8=>?_;refine wz ?_;refine Wk.seq<|Wk.db (prs:=[(0,1)]) (by kernel_rfl)<|Wn.od (ai (k:=1) aA rfl rfl rfl) rfl ?_
 obtain⟨⟨r10,l11⟩,h9,hF⟩:=J hF;refine nv gn (fun m hm=>jn n 1  _ h9 m hm.aC) ?_;rintro⟨a12,c13,n14⟩;refine Wn.bJ (k:=0) rfl ?_;rintro rfl;refine Wn.od (eB rfl tE rfl (eE FB rfl rfl rfl)) rfl<|Wn.o0 (aM (k:=1) im rfl rfl rfl rfl rfl)<|Wn.nil (fun m hm=>cP.all rfl) ?_;refine aq ?_;cases hF;exact At.ret (.cell (k:=1) im rfl rfl rfl .nil) fun m' hm=>⟨(a3,c4,l2.length,a12,c13,l11.length),rfl,(ak.az [3,0,4] rfl rfl) m' hm⟩
theorem K2 (n x1 r) (hF:Ix n x1=some r) (m) {H:Nat→Prop} (hH:∀b,H b→b<m.next):
  aB an 100 [aX x1] m (fun v m'=>∃x:Option Addr × Nat × Nat × Option Addr × Nat × Nat,v = .agg #[.bool r.1,.slice x.1 x.2.2.1 x.2.1,.bool r.2.2.1,.slice x.2.2.2.1 x.2.2.2.2.2 x.2.2.2.2.1]∧Hp m m' [.rd x.1 x.2.1 1 x.2.2.1 (r.2.1.map (eN .u64)),.rd x.2.2.2.1 x.2.2.2.2.1 1 x.2.2.2.2.2 (r.2.2.2.map (eN .u64)),dY H]):=by
 unfold Ix at hF;refine cw Tryz.func100 (Hp.dZ m hH) ?_;refine wz ?_;refine wa tE fun b2=>?_;refine aq ?_;obtain⟨⟨r4,l5⟩,h3,hF⟩:=J hF;refine wv gn (fun m hm=>jn n x1  _ h3 m hm.aC) ?_;rintro⟨a6,c7,n8⟩;refine Wo.bJ (k:=0) rfl ?_;rintro rfl;obtain⟨⟨r10,l11,r15,l16⟩,h9,hF⟩:=J hF;refine Wo.x (pT (N:=(fun x:Option Addr × Nat × Nat × Option Addr × Nat × Nat=>[.rd x.1 x.2.1 1 x.2.2.1 (l11.map (eN .u64)),.rd x.2.2.2.1 x.2.2.2.2.1 1 x.2.2.2.2.2 (l16.map (eN .u64))])) rfl rfl (fun m hm=>IU n r4 l5 a6 c7 _ h9 m hm.aC (hm.q 0) (hm.no 0)) fun _=>rfl) gn rfl ?_;rintro⟨a12,c13,n14,a17,c18,n19⟩;refine Wo.bJ (k:=0) rfl ?_;rintro rfl;refine Wo.bJ (k:=1) rfl ?_;rintro rfl;refine Wo.o0 (aM (k:=3) im rfl rfl rfl rfl rfl) ?_;refine aq ?_;cases hF;exact At.ret (.cell (k:=3) im rfl rfl rfl .nil) fun m' hm=>⟨(a12,c13,l11.length,a17,c18,l16.length),rfl,(ak.az [0,1,4] rfl rfl) m' hm⟩
theorem Jm (n x1 l2 x7 l8 x13 l14 x19 l20 a3 c4 a9 c10 a15 c16 a21 c22 r) (hF:HF n x1 l2 x7 l8 x13 l14 x19 l20=some r) (m) {H:Nat→Prop} (hH:∀b,H b→b<m.next) (h5:dD m a3 c4 l2) (h6:∀b,gE a3=some b→¬H b) (h11:dD m a9 c10 l8) (h12:∀b,gE a9=some b→¬H b) (h17:dD m a15 c16 l14) (h18:∀b,gE a15=some b→¬H b) (h23:dD m a21 c22 l20) (h24:∀b,gE a21=some b→¬H b):
  aB an 101 [H6 x1 a3 l2 c4 x7 a9 l8 c10,H6 x13 a15 l14 c16 x19 a21 l20 c22] m (fun v m'=>∃x:Option Addr × Nat × Nat × Option Addr × Nat × Nat,v = .agg #[.bool r.1,.slice x.1 x.2.2.1 x.2.1,.bool r.2.2.1,.slice x.2.2.2.1 x.2.2.2.2.2 x.2.2.2.2.1]∧Hp m m' [.rd x.1 x.2.1 1 x.2.2.1 (r.2.1.map (eN .u64)),.rd x.2.2.2.1 x.2.2.2.2.1 1 x.2.2.2.2.2 (r.2.2.2.map (eN .u64)),dY H]):=by
 unfold HF at hF;refine cw Tryz.func101 (Hp.ie (l0:=[dT a15 c16 l14,dT a9 c10 l8,dT a3 c4 l2]) (Hp.ie (l0:=[dT a9 c10 l8,dT a3 c4 l2]) (Hp.ie (l0:=[dT a3 c4 l2]) (Hp.ie (l0:=[]) (Hp.dZ m hH) rfl h5 h6) rfl h11 h12) rfl h17 h18) rfl h23 h24) ?_;refine wz ?_;refine wb fun b25=>?_;refine wb fun b26=>?_;refine wa tE fun b27=>?_;refine wz ?_;refine Wk.seq<|Wk.db (prs:=[(4,6),(4,8),(4,12),(9,12),(10,12),(4,14),(9,14),(10,14)]) (by kernel_rfl)<|Wn.od (fa (r:=ptr b25 0) rfl (qE _ _)) rfl<|Wn.od (ai (k:=2) aA rfl rfl rfl) rfl<|Wn.od (fa (r:=ptr b26 2) rfl (jF _ _)) rfl<|Wn.od (ai (k:=1) aA rfl rfl rfl) rfl ?_
 obtain⟨⟨r29,l30⟩,h28,hF⟩:=J hF;refine nv gn (fun m hm=>oA n x1 l2 x19 l20 a3 c4 a21 c22 _ h28 m hm.aC (hm.q 6) (hm.no 6) (hm.q 3) (hm.no 3)) ?_;rintro⟨a31,c32,n33⟩;refine Wn.bJ (k:=0) rfl ?_;rintro rfl;refine Wn.od (fa (r:=ptr b26 0) rfl (qE _ _)) rfl<|Wn.od (ai (k:=2) aA rfl rfl rfl) rfl<|Wn.od (fa (r:=ptr b25 2) rfl (jF _ _)) rfl<|Wn.od (ai (k:=3) aA rfl rfl rfl) rfl ?_;obtain⟨⟨r35,l36⟩,h34,hF⟩:=J hF;refine nv gn (fun m hm=>oA n x13 l14 x7 l8 a15 c16 a9 c10 _ h34 m hm.aC (hm.q 5) (hm.no 5) (hm.q 6) (hm.no 6)) ?_;rintro⟨a37,c38,n39⟩;refine Wn.bJ (k:=0) rfl ?_;rintro rfl;obtain⟨⟨r41,l42⟩,h40,hF⟩:=J hF;refine nv gn (fun m hm=>iQ n r29 l30 r35 l36 a31 c32 a37 c38 _ h40 m hm.aC (hm.q 1) (hm.no 1) (hm.q 0) (hm.no 0)) ?_;rintro⟨a43,c44,n45⟩;refine Wn.bJ (k:=0) rfl ?_;rintro rfl;refine Wn.od (fa (r:=ptr b25 2) rfl (jF _ _)) rfl<|Wn.od (ai (k:=5) aA rfl rfl rfl) rfl<|Wn.od (fa (r:=ptr b26 2) rfl (jF _ _)) rfl<|Wn.od (ai (k:=4) aA rfl rfl rfl) rfl ?_;obtain⟨⟨r47,l48⟩,h46,hF⟩:=J hF;refine nv gn (fun m hm=>oA n x7 l8 x19 l20 a9 c10 a21 c22 _ h46 m hm.aC (hm.q 8) (hm.no 8) (hm.q 6) (hm.no 6)) ?_;rintro⟨a49,c50,n51⟩;refine Wn.bJ (k:=0) rfl ?_;rintro rfl;obtain⟨⟨r53,l54,r58,l59⟩,h52,hF⟩:=J hF;refine Wn.c (nF (N:=(fun x:Option Addr × Nat × Nat × Option Addr × Nat × Nat=>[.rd x.1 x.2.1 1 x.2.2.1 (l54.map (eN .u64)),.rd x.2.2.2.1 x.2.2.2.2.1 1 x.2.2.2.2.2 (l59.map (eN .u64))])) rfl rfl (fun m hm=>AP n r41 l42 r47 l48 a43 c44 a49 c50 _ h52 m hm.aC (hm.q 1) (hm.no 1) (hm.q 0) (hm.no 0)) fun _=>rfl) gn rfl ?_;rintro⟨a55,c56,n57,a60,c61,n62⟩;refine Wn.bJ (k:=0) rfl ?_;rintro rfl;refine Wn.bJ (k:=1) rfl ?_;rintro rfl;refine Wn.o0 (aM (k:=6) im rfl rfl rfl rfl rfl)<|Wn.nil (fun m hm=>cP.all rfl) ?_;refine aq ?_;cases hF;exact At.ret (.cell (k:=6) im rfl rfl rfl .nil) fun m' hm=>⟨(a55,c56,l54.length,a60,c61,l59.length),rfl,(ak.az [0,1,13] rfl rfl) m' hm⟩
theorem MC (n l1 a0 c1 r) (hF:Pq n l1=some r) (m) (h1:Pt m a0 c1 l1):
  aB an 44 [bG a0 l1 c1] m (fun v m'=>∃_:Unit,v = .tuple #[.agg #[.int .u64 ((r.1:Nat):Int),.int .u64 ((r.2.1:Nat):Int),.int .u64 ((r.2.2.1:Nat):Int),.int .u64 ((r.2.2.2.1:Nat):Int),.int .u64 ((r.2.2.2.2.1:Nat):Int),.int .u64 ((r.2.2.2.2.2.1:Nat):Int),.int .u64 ((r.2.2.2.2.2.2.1:Nat):Int),.int .u64 ((r.2.2.2.2.2.2.2.1:Nat):Int),.int .u64 ((r.2.2.2.2.2.2.2.2.1:Nat):Int),.int .u64 ((r.2.2.2.2.2.2.2.2.2.1:Nat):Int),.int .u64 ((r.2.2.2.2.2.2.2.2.2.2.1:Nat):Int),.int .u64 ((r.2.2.2.2.2.2.2.2.2.2.2.1:Nat):Int),.int .u64 ((r.2.2.2.2.2.2.2.2.2.2.2.2.1:Nat):Int),.int .u64 ((r.2.2.2.2.2.2.2.2.2.2.2.2.2.1:Nat):Int),.int .u64 ((r.2.2.2.2.2.2.2.2.2.2.2.2.2.2.1:Nat):Int),.int .u64 ((r.2.2.2.2.2.2.2.2.2.2.2.2.2.2.2.1:Nat):Int)],.int .i64 r.2.2.2.2.2.2.2.2.2.2.2.2.2.2.2.2]∧Hp m m' []):=by
 unfold Pq at hF;refine cw Tryz.func44 ((Hp.start m).i h1) ?_;refine wz ?_;refine wa uy fun b0=>?_;refine aq ?_;rcases aa hF with⟨h2,hF⟩|⟨h2,hF⟩
 ·refine wz ?_;refine Wo.od (eB rfl uy rfl (eE yC rfl rfl rfl)) rfl<|Wo.o0 (aM (k:=0) cR rfl rfl rfl rfl rfl) ?_;refine aq ?_;cases hF;exact At.ret (.cell (k:=0) cR rfl rfl rfl (.tmp rfl .nil)) fun m' hm=>⟨(),rfl,(ak.az [] rfl rfl) m' hm⟩
 ·refine aq ?_;obtain⟨r3,h3,hF⟩:=J hF;refine wc gn (fun m hm=>G6 n l1 a0 c1 _ h3 m (hm.q 1)) ?_;rintro⟨⟩;refine wz ?_;rcases aa hF with⟨h4,hF⟩|⟨h4,hF⟩
  ·refine wz ?_;refine Wo.od (eB rfl uy rfl (eE yC rfl rfl rfl)) rfl<|Wo.o0 (aM (k:=0) cR rfl rfl rfl rfl rfl) ?_;refine aq ?_;cases hF;exact At.ret (.cell (k:=0) cR rfl rfl rfl (.tmp rfl .nil)) fun m' hm=>⟨(),rfl,(ak.az [] rfl rfl) m' hm⟩
  ·refine aq ?_;obtain⟨⟨r4,l9,r5,l10⟩,h5,hF⟩:=J hF;refine Wo.x (pT (N:=(fun x:Option Addr × Nat × Nat × Option Addr × Nat × Nat=>[.rd x.1 x.2.1 1 x.2.2.1 (l9.map (eN .u64)),.rd x.2.2.2.1 x.2.2.2.2.1 1 x.2.2.2.2.2 (l10.map (eN .u64))])) rfl rfl (fun m hm=>K2 n 0  _ h5 m hm.aC) fun _=>rfl) gn rfl ?_;rintro⟨a5,c6,n1,a6,c7,n2⟩;refine Wo.bJ (k:=0) rfl ?_;rintro rfl;refine Wo.bJ (k:=1) rfl ?_;rintro rfl;refine wa tE fun b1=>?_;refine Wo.o0 (aM (k:=0) im rfl rfl rfl rfl rfl) ?_;refine aq ?_;refine Wk.block ?_;obtain⟨r0,h0,hF⟩:=J hF;refine ct (fun(v0,l2,v1,l3) ((a3,c4,a4,c5):Option Addr × Nat × Option Addr × Nat)=>⟨(.exit 0),[(2,ptr b0 0),(4,ptr b1 0)],[IW b0,.obj b1 (.cells [.bool v0,bG a3 l2 c4,.bool v1,bG a4 l3 c5] .own),dT a3 c4 l2,dT a4 c5 l3]⟩) r0 ?_ ?_
   ·refine lo h0 (a5,c6,a6,c7) [3,0,1,2,4] (fun(v2,l4,v3,l5,v4) ((a1,c2,a2,c3):Option Addr × Nat × Option Addr × Nat)=>⟨.normal,[(2,ptr b0 0),(4,ptr b1 0),(16,bG a0 l1 c1),(17,fG l1),(18,aX v4)],[IW b0,.obj b1 (.cells [.bool v2,bG a1 l4 c2,.bool v3,bG a2 l5 c3] .own),dT a1 c2 l4,dT a2 c3 l5,P9 a0 c1 l1]⟩) ?_;clear hF h0;rintro⟨v2,l4,v3,l5,v4⟩ ⟨a1,c2,a2,c3⟩ r hF;unfold uD at hF;refine wz ?_;refine Wk.seq ?_;rcases aa hF with⟨h6,hF⟩|⟨h6,hF⟩
    ·refine aq ?_;obtain⟨h7,hF⟩:=cQ hF;refine Wo.dK (k:=4) rfl (bK h7) ?_;rintro b2 o1 rfl;refine wz ?_;obtain⟨⟨x3,x4,x5,x6,x7,x8,x9,x10,x11,x12,x13,x14,x15,x16,x17,x18⟩,h8,hF⟩:=J hF;refine Wo.od (de (k:=0) cR rfl rfl (aR h8) rfl rfl) rfl<|wa uy fun b3=>?_;refine Wo.o0 (aM (k:=0) cR rfl rfl rfl rfl rfl) ?_;refine wz ?_;refine Wk.db (prs:=[(0,2)]) (by kernel_rfl)<|Wn.od (ai (k:=3) im rfl rfl rfl) rfl<|Wn.od (ai (k:=0) cR rfl rfl rfl) rfl ?_
     obtain⟨⟨r1,l7,r2,l8⟩,h9,hF⟩:=J hF;refine Wn.c (nF (N:=(fun x:Option Addr × Nat × Nat × Option Addr × Nat × Nat=>[.rd x.1 x.2.1 1 x.2.2.1 (l7.map (eN .u64)),.rd x.2.2.2.1 x.2.2.2.2.1 1 x.2.2.2.2.2 (l8.map (eN .u64))])) rfl rfl (fun m hm=>qq n x3 x4 x5 x6 x7 x8 x9 x10 x11 x12 x13 x14 x15 x16 x17 x18  _ h9 m hm.aC) fun _=>rfl) gn rfl ?_;rintro⟨a7,c8,n3,a8,c9,n4⟩;refine Wn.bJ (k:=0) rfl ?_;rintro rfl;refine Wn.bJ (k:=1) rfl ?_;rintro rfl;obtain⟨⟨r6,l11,r7,l12⟩,h10,hF⟩:=J hF;refine Wn.c (nF (N:=(fun x:Option Addr × Nat × Nat × Option Addr × Nat × Nat=>[.rd x.1 x.2.1 1 x.2.2.1 (l11.map (eN .u64)),.rd x.2.2.2.1 x.2.2.2.2.1 1 x.2.2.2.2.2 (l12.map (eN .u64))])) rfl rfl (fun m hm=>Jm n v2 l4 v3 l5 r1 l7 r2 l8 a1 c2 a2 c3 a7 c8 a8 c9 _ h10 m hm.aC (hm.q 6) (hm.no 6) (hm.q 7) (hm.no 7) (hm.q 0) (hm.no 0) (hm.q 1) (hm.no 1)) fun _=>rfl) gn rfl ?_;rintro⟨a9,c10,n5,a10,c11,n6⟩;refine Wn.bJ (k:=0) rfl ?_;rintro rfl;refine Wn.bJ (k:=1) rfl ?_;rintro rfl;refine Wn.o0 (aM (k:=7) im rfl rfl rfl rfl rfl)<|Wn.nil (fun m hm=>cP.all rfl) ?_;refine aq ?_;cases hF;exact ae (a9,c10,a10,c11) [6,7,0,1,10]
    ·refine wz ?_;cases hF;exact ae (a1,c2,a2,c3) [0,1,2,3]
   ·clear h0;obtain⟨v0,l2,v1,l3⟩:=r0;rintro⟨a3,c4,a4,c5⟩;refine aq ?_;refine Wo.od (ai (k:=1) im rfl rfl rfl) rfl ?_;obtain⟨⟨r8,r9,r10,r11,r12,r13,r14,r15,r16,r17,r18,r19,r20,r21,r22,r23,r24⟩,h11,hF⟩:=J hF;refine wc gn (fun m hm=>AA n v0 l2 v1 l3 a3 c4 a4 c5 _ h11 m (hm.q 2) (hm.q 3)) ?_;rintro⟨⟩;refine wz ?_;refine Wo.o0 (aM (k:=0) cR rfl rfl rfl rfl rfl) ?_;refine aq ?_;cases hF;exact At.ret (.cell (k:=0) cR rfl rfl rfl (.tmp rfl .nil)) fun m' hm=>⟨(),rfl,(ak.az [] rfl rfl) m' hm⟩
theorem OI (n x1 x2 x6 l5 x3 a5 c1 r) (hF:F7 n x1 x2 x6 l5 x3=some r) (m) (hG:Gl m) (h9:Rd m a5 c1 2 l5.length (l5.map (eP (eN .u8) (eN .u8)))):
  aB an 7 [.agg #[.int .u8 ((x1:Nat):Int),.int .u8 ((x2:Nat):Int),.int .u16 ((x6:Nat):Int),.slice a5 l5.length c1],.int .u64 ((x3:Nat):Int)] m (fun v m'=>∃_:Unit,v = .bool r∧Hp m m' []):=by
 unfold F7 at hF;refine cw Tryz.func7 ((Hp.start m).i h9) ?_;refine wz ?_;refine wb fun b10=>?_;refine aq ?_;obtain⟨r33,h10,hF⟩:=J hF;refine wc gn (fun m hm=>Qc n   _ h10 m (hG.ext hm.ext)) ?_;rintro⟨⟩;refine wz ?_;rcases aa hF with⟨h11,hF⟩|⟨h11,hF⟩
 ·refine aq ?_;cases hF;exact ar () []
 ·refine aq ?_;refine Wo.od (ai (k:=0) Q8 rfl rfl rfl) rfl ?_;obtain⟨⟨r0,l1⟩,h12,hF⟩:=J hF;refine wc gn (fun m hm=>NN n x1 x2 x6 l5 a5 c1 _ h12 m (hm.q 1)) ?_;rintro⟨a0,n1⟩;refine Wo.len (k:=0) (xs:=l1) rfl ?_;rintro rfl;refine wa Qj fun b0=>?_;refine Wo.o0 (aM (k:=0) gN rfl rfl rfl rfl rfl) ?_;refine aq ?_;refine Wo.od (ai (k:=0) dU rfl rfl rfl) rfl ?_;obtain⟨h13,hF⟩:=ax hF;refine Wo.od (aN rfl rfl (js rfl _ _ h13)) rfl ?_;refine aq ?_;rcases aa hF with⟨h7,hF⟩|⟨h7,hF⟩
  ·refine Wk.kX rfl h7<|Wk.seq<|Wk.db (prs:=[(0,1)]) (by kernel_rfl) ?_
   obtain⟨r21,h14,hF⟩:=J hF;refine Wn.xk (l:=[b0]) (fH (α:=Nat) (V:=fun g=>(fun(r:Unit) (g:Nat)=>match r,g with|_,b4=>(.func (.func 92) #[] #[ptr b4 0]:Value)) r21 g) (N:=fun g=>(fun(r:Unit) (g:Nat)=>match r,g with|_,b4=>([.obj b4 (.cells [.int .i64 2] .own),.obj b0 (.cells [.int .i64 r0,.slice a0 l1.length l1.length] .own),.sl a0 2 l1.length (l1.map (eP (eI .i64) (eI .i64)))]:List Pc)) r21 g) rfl rfl (fun m hm=>?_)) ⟨⟨_,0,rfl,rfl,fun _=>⟨1,rfl⟩⟩,trivial⟩ gn rfl ?_
   ·clear hF;revert r21;intro r hF;refine bN (N:=4) (rs:=[.tmp 2]) rfl Tryz.func37 rfl rfl rfl hm ?_;refine wz ?_;refine wb fun b7=>?_;refine aq ?_;refine Wo.od (ta rfl rfl) rfl ?_;refine aq ?_;cases hF;exact ar b7 [0,1,2]
   ·clear h14;rintro b4;refine Wn.Lc rfl (ai (k:=1) gN rfl rfl rfl) rfl<|Wn.od (bC rfl) rfl ?_;obtain⟨⟨r34,r35,r36,r37,r38,r39,r40,r41,r42⟩,h15,hF⟩:=J hF;refine nc gn (fun m hm=>Ib n r0 l1 (uw .u64 (uw .u64 x3 &&& uw .u64 (cA .u64 (bY .u64 1 r0.toNat) 1))) a0 l1.length _ h15 m (hG.ext hm.ext) (hm.rd (k:=2) rfl (.sl _ _ _ _))) ?_;rintro⟨⟩;refine Wn.od (wj rfl rfl) rfl<|Wn.od (wj rfl rfl) rfl ?_;obtain⟨v1,h16,hF⟩:=J hF;refine Wn.x (fH (α:=Unit) (V:=fun g=>(fun(r:Bool) (g:Unit)=>match r,g with|v1,_=>(.bool v1:Value)) v1 g) (N:=fun g=>(fun(r:Bool) (g:Unit)=>match r,g with|v1,_=>([]:List Pc)) v1 g) rfl rfl (fun m hm=>?_)) gn rfl ?_
    ·clear hF;revert v1;intro r hF;refine bN (N:=14) (rs:=[.tmp 5]) rfl Tryz.func92 rfl rfl rfl hm ?_;refine wz ?_;refine wb fun b11=>?_;refine aq ?_;refine Wo.od (ai (k:=0) eO rfl rfl rfl) rfl<|Wo.od (eB rfl z38 rfl (eE BG rfl rfl rfl)) rfl<|Wo.od (aN rfl rfl (ue NP (MT _ _ _ _ _ _ _ _ _ _ _ _ _ _ _ _))) rfl ?_;refine wz ?_;rcases aa hF with⟨h8,hF⟩|⟨h8,hF⟩
     ·refine wz ?_;refine Wo.og (ai (k:=1) QQ rfl rfl rfl) (gg rfl rfl (oQ h8)) rfl ?_;refine aq ?_;cases hF;exact ar () []
     ·refine aq ?_;cases hF;exact ar () []
    ·clear h16;rintro⟨⟩;refine Wn.od (nr rfl) rfl ?_;refine Wn.nil (fun m hm=>(by(first|refine cP.kr rfl rfl rfl (by simp) ?_|refine cP.step rfl ?_); exact cP.nil)) ?_
     refine aq ?_;obtain rfl:=Option.some.inj hF;exact ar () []
  ·refine aq ?_;refine Wo.od (ai (k:=0) gN rfl rfl rfl) rfl ?_;refine wz ?_;obtain⟨⟨r1,r43⟩,h17,hF⟩:=J hF;refine wc gn (fun m hm=>NT n r0 l1 (uw .u64 (uw .u64 x3 &&& uw .u64 (cA .u64 (bY .u64 1 r0.toNat) 1))) a0 l1.length _ h17 m (hG.ext hm.ext) (hm.rd (k:=1) rfl (.sl _ _ _ _))) ?_;rintro⟨⟩;refine aq ?_;refine Wo.od (ai (k:=0) gN rfl rfl rfl) rfl ?_;refine wz ?_;obtain⟨⟨r24,r25,r26,r27,r28,r29,r30,r31,r44⟩,h18,hF⟩:=J hF;refine wc gn (fun m hm=>Ib n r0 l1 (uw .u64 (uw .u64 x3 &&& uw .u64 (cA .u64 (bY .u64 1 r0.toNat) 1))) a0 l1.length _ h18 m (hG.ext hm.ext) (hm.rd (k:=1) rfl (.sl _ _ _ _))) ?_;rintro⟨⟩;refine wz ?_;refine wa z38 fun b12=>?_;refine Wo.o0 (aM (k:=0) eO rfl rfl rfl rfl rfl) ?_;refine wz ?_;refine Wk.seq<|Wk.seq ?_;obtain⟨v4,h19,hF⟩:=J hF;refine ct (fun v4 (_:Unit)=>⟨.normal,[(1,.int .u64 ((uw .u64 (uw .u64 x3 &&& uw .u64 (cA .u64 (bY .u64 1 r0.toNat) 1)):Nat):Int)),(5,ptr b0 0),(6,.bool r1),(61,.bool v4)],[.obj b0 (.cells [.int .i64 r0,.slice a0 l1.length l1.length] .own),.sl a0 2 l1.length (l1.map (eP (eI .i64) (eI .i64)))]⟩) v4 ?_ ?_
   ·clear hF;revert v4;intro r hF;refine wz ?_;rcases aa hF with⟨h20,hF⟩|⟨h20,hF⟩
    ·refine wz ?_;cases hF;exact ae () [1,2]
    ·refine wz ?_;rcases aa hF with⟨h4,hF⟩|⟨h4,hF⟩
     ·refine wz ?_;cases hF;exact ae () [1,2]
     ·refine wz ?_;refine Wo.og (ai (k:=0) eO rfl rfl rfl) (gg rfl rfl (gH h4)) rfl ?_;obtain⟨r45,h21,hF⟩:=J hF;refine wc (gg rfl rfl (gH h4)) (fun m hm=>Np n r24 r25 r26 r27 r28 r29 r30 r31  _ h21 m) ?_;rintro⟨⟩;refine wz ?_;refine Wo.og (aN rfl rfl (Dk u4)) (gg rfl rfl (gH h4)) rfl ?_;refine wz ?_;cases hF;exact ae () [1,2]
   ·clear h19;rintro⟨⟩;refine At.tn ?_;rcases aa hF with⟨h22,hF⟩|⟨h22,hF⟩
    ·refine aq ?_;cases hF;exact ar () []
    ·refine aq ?_;refine Wo.od (ai (k:=0) gN rfl rfl rfl) rfl ?_;refine wz ?_;obtain⟨⟨l2,r2⟩,h23,hF⟩:=J hF;refine wc gn (fun m hm=>NF n r0 l1 (uw .u64 (uw .u64 x3 &&& uw .u64 (cA .u64 (bY .u64 1 r0.toNat) 1))) a0 l1.length _ h23 m (hG.ext hm.ext) (hm.rd (k:=1) rfl (.sl _ _ _ _))) ?_;rintro⟨a1,n2⟩;refine Wo.len (k:=0) (xs:=l2) rfl ?_;rintro rfl;refine gG ?_;refine Wo.od (ai (k:=1) q7 rfl rfl rfl) rfl ?_;refine wz ?_;refine Wk.block ?_;obtain⟨r23,h5,hF⟩:=J hF;refine ct (fun(r:(Unit) ⊕ (List (Nat × Nat × Nat × Nat × Nat × Nat × Nat × Nat × Nat × Nat × Nat × Nat × Nat × Nat × Nat × Nat))) (g:Option Addr)=>match r,g with | .inl _,_=>⟨.ret,[(4,.bool false)],[]⟩ | .inr l4,a3=>⟨(.exit 0),[(1,.int .u64 ((uw .u64 (uw .u64 x3 &&& uw .u64 (cA .u64 (bY .u64 1 r0.toNat) 1)):Nat):Int)),(6,.bool r1),(7,.int .i64 r2),(11,.slice a3 l4.length l4.length)],[.sl a3 16 l4.length (l4.map (eP (eN .u64) (eP (eN .u64) (eP (eN .u64) (eP (eN .u64) (eP (eN .u64) (eP (eN .u64) (eP (eN .u64) (eP (eN .u64) (eP (eN .u64) (eP (eN .u64) (eP (eN .u64) (eP (eN .u64) (eP (eN .u64) (eP (eN .u64) (eP (eN .u64) (eN .u64)))))))))))))))))]⟩) r23 ?_ ?_
     ·refine Wk.qa (fs':=[(1,.int .u64 ((uw .u64 (uw .u64 x3 &&& uw .u64 (cA .u64 (bY .u64 1 r0.toNat) 1)):Nat):Int)),(5,ptr b0 0),(6,.bool r1),(7,.int .i64 r2),(10,.slice a1 l2.length l2.length),(11,.slice none ([]:List (Nat × Nat × Nat × Nat × Nat × Nat × Nat × Nat × Nat × Nat × Nat × Nat × Nat × Nat × Nat × Nat)).length ([]:List (Nat × Nat × Nat × Nat × Nat × Nat × Nat × Nat × Nat × Nat × Nat × Nat × Nat × Nat × Nat × Nat)).length),(69,.slice a0 l1.length l1.length),(70,.int .i64 (l1.length:Int)),(71,.int .i64 0)]) (ps':=[.obj b0 (.cells [.int .i64 r0,.slice a0 l1.length l1.length] .own),.sl a0 2 l1.length (l1.map (eP (eI .i64) (eI .i64))),.sl a1 2 l2.length (l2.map (eP (eI .i64) (eI .i64))),.sl none 16 ([]:List (Nat × Nat × Nat × Nat × Nat × Nat × Nat × Nat × Nat × Nat × Nat × Nat × Nat × Nat × Nat × Nat)).length (([]:List (Nat × Nat × Nat × Nat × Nat × Nat × Nat × Nat × Nat × Nat × Nat × Nat × Nat × Nat × Nat × Nat)).map (eP (eN .u64) (eP (eN .u64) (eP (eN .u64) (eP (eN .u64) (eP (eN .u64) (eP (eN .u64) (eP (eN .u64) (eP (eN .u64) (eP (eN .u64) (eP (eN .u64) (eP (eN .u64) (eP (eN .u64) (eP (eN .u64) (eP (eN .u64) (eP (eN .u64) (eN .u64)))))))))))))))))]) (sc rfl (sc rfl (sc rfl (sc rfl (sc rfl (sc rfl (sc rfl (sc rfl (sc rfl sn))))))))) (ak.trans (ak.nil 16 rfl) (ak.az [2,3,1,0] rfl rfl))<|Wk.loop (σ:=List (Nat × Nat × Nat × Nat × Nat × Nat × Nat × Nat × Nat × Nat × Nat × Nat × Nat × Nat × Nat × Nat) × Int) (ρ:=(Unit) ⊕ (List (Nat × Nat × Nat × Nat × Nat × Nat × Nat × Nat × Nat × Nat × Nat × Nat × Nat × Nat × Nat × Nat))) (γ:=Option Addr) (δ:=fun _=>Option Addr) _ (fun(s:List (Nat × Nat × Nat × Nat × Nat × Nat × Nat × Nat × Nat × Nat × Nat × Nat × Nat × Nat × Nat × Nat) × Int) (g:Option Addr)=>match s,g with | (l3,v0),a2=>⟨.normal,[(1,.int .u64 ((uw .u64 (uw .u64 x3 &&& uw .u64 (cA .u64 (bY .u64 1 r0.toNat) 1)):Nat):Int)),(5,ptr b0 0),(6,.bool r1),(7,.int .i64 r2),(10,.slice a1 l2.length l2.length),(11,.slice a2 l3.length l3.length),(69,.slice a0 l1.length l1.length),(70,.int .i64 (l1.length:Int)),(71,.int .i64 v0)],[.obj b0 (.cells [.int .i64 r0,.slice a0 l1.length l1.length] .own),.sl a0 2 l1.length (l1.map (eP (eI .i64) (eI .i64))),.sl a1 2 l2.length (l2.map (eP (eI .i64) (eI .i64))),.sl a2 16 l3.length (l3.map (eP (eN .u64) (eP (eN .u64) (eP (eN .u64) (eP (eN .u64) (eP (eN .u64) (eP (eN .u64) (eP (eN .u64) (eP (eN .u64) (eP (eN .u64) (eP (eN .u64) (eP (eN .u64) (eP (eN .u64) (eP (eN .u64) (eP (eN .u64) (eP (eN .u64) (eN .u64)))))))))))))))))]⟩) (fun(r:(Unit) ⊕ (List (Nat × Nat × Nat × Nat × Nat × Nat × Nat × Nat × Nat × Nat × Nat × Nat × Nat × Nat × Nat × Nat))) (g:Option Addr)=>match r,g with | .inl _,_=>⟨.ret,[(4,.bool false)],[]⟩ | .inr l4,a3=>⟨(.exit 0),[(1,.int .u64 ((uw .u64 (uw .u64 x3 &&& uw .u64 (cA .u64 (bY .u64 1 r0.toNat) 1)):Nat):Int)),(6,.bool r1),(7,.int .i64 r2),(11,.slice a3 l4.length l4.length)],[.sl a3 16 l4.length (l4.map (eP (eN .u64) (eP (eN .u64) (eP (eN .u64) (eP (eN .u64) (eP (eN .u64) (eP (eN .u64) (eP (eN .u64) (eP (eN .u64) (eP (eN .u64) (eP (eN .u64) (eP (eN .u64) (eP (eN .u64) (eP (eN .u64) (eP (eN .u64) (eP (eN .u64) (eN .u64)))))))))))))))))]⟩) ?_ (fun _ _=>rfl) (fun r d=>by rcases r with _|_<;>(intro e; cases e)) _ _ _ h5 none
      clear hF h5;rintro⟨l3,v0⟩ a2 r hF;unfold Ec at hF;refine wz ?_;refine Wk.seq ?_;rcases aa hF with⟨h24,hF⟩|⟨h24,hF⟩
      ·refine wz ?_;refine Wk.seq ?_;obtain⟨r22,h25,hF⟩:=J hF;refine ct (fun(r:(List (Nat × Nat × Nat × Nat × Nat × Nat × Nat × Nat × Nat × Nat × Nat × Nat × Nat × Nat × Nat × Nat)) ⊕ (Unit)) (g:Option Addr)=>match r,g with | .inl l7,a4=>⟨.normal,[(1,.int .u64 ((uw .u64 (uw .u64 x3 &&& uw .u64 (cA .u64 (bY .u64 1 r0.toNat) 1)):Nat):Int)),(5,ptr b0 0),(6,.bool r1),(7,.int .i64 r2),(10,.slice a1 l2.length l2.length),(11,.slice a4 l7.length l7.length),(69,.slice a0 l1.length l1.length),(70,.int .i64 (l1.length:Int)),(71,.int .i64 v0)],[.obj b0 (.cells [.int .i64 r0,.slice a0 l1.length l1.length] .own),.sl a0 2 l1.length (l1.map (eP (eI .i64) (eI .i64))),.sl a1 2 l2.length (l2.map (eP (eI .i64) (eI .i64))),.sl a4 16 l7.length (l7.map (eP (eN .u64) (eP (eN .u64) (eP (eN .u64) (eP (eN .u64) (eP (eN .u64) (eP (eN .u64) (eP (eN .u64) (eP (eN .u64) (eP (eN .u64) (eP (eN .u64) (eP (eN .u64) (eP (eN .u64) (eP (eN .u64) (eP (eN .u64) (eP (eN .u64) (eN .u64)))))))))))))))))]⟩ | .inr _,_=>⟨.ret,[(4,.bool false)],[]⟩) r22 ?_ ?_
       ·clear hF;revert r22;intro r hF;refine wz ?_;obtain⟨h26,hF⟩:=cQ hF;refine Wo.open (k:=1) rfl (bK h26) ?_;rintro b1 t0 rfl h53;refine wz ?_;obtain⟨⟨x4,x5⟩,h27,hF⟩:=J hF;refine Wo.od (eA (k:=1) fp rfl rfl (aR h27) rfl rfl) rfl<|wa Ct fun b2=>?_;refine wz ?_;refine Wo.o0 (aM (k:=0) fp rfl rfl rfl rfl rfl) ?_;refine wz ?_;refine Wk.seq<|Wk.seq ?_;obtain⟨v5,h28,hF⟩:=J hF;refine ct (fun v5 (_:Unit)=>⟨.normal,[(1,.int .u64 ((uw .u64 (uw .u64 x3 &&& uw .u64 (cA .u64 (bY .u64 1 r0.toNat) 1)):Nat):Int)),(5,ptr b0 0),(6,.bool r1),(7,.int .i64 r2),(10,.slice a1 l2.length l2.length),(11,.slice a2 l3.length l3.length),(12,.int .i64 v0),(13,ptr b2 0),(69,.slice (some ⟨b1,0,none⟩) l1.length l1.length),(70,.int .i64 (l1.length:Int)),(71,.int .i64 v0),(89,.bool v5)],[.obj b0 (.cells [.int .i64 r0,.slice (some ⟨b1,0,none⟩) l1.length l1.length] .own),.arr b1 2 l1.length (l1.map (eP (eI .i64) (eI .i64))) t0,.sl a1 2 l2.length (l2.map (eP (eI .i64) (eI .i64))),.sl a2 16 l3.length (l3.map (eP (eN .u64) (eP (eN .u64) (eP (eN .u64) (eP (eN .u64) (eP (eN .u64) (eP (eN .u64) (eP (eN .u64) (eP (eN .u64) (eP (eN .u64) (eP (eN .u64) (eP (eN .u64) (eP (eN .u64) (eP (eN .u64) (eP (eN .u64) (eP (eN .u64) (eN .u64))))))))))))))))),.obj b2 (.cells [.int .i64 x4,.int .i64 x5] .own)]⟩) v5 ?_ ?_
        ·clear hF;revert v5;intro r hF;refine wz ?_;refine Wo.od (ai (k:=0) dU rfl rfl rfl) rfl ?_;obtain⟨h29,hF⟩:=ax hF;obtain⟨y2,h30,hF⟩:=J hF;refine Wo.od (aN rfl rfl ((cC _ _ h29).trans (cN h30))) rfl ?_;refine wz ?_;rcases aa hF with⟨h6,hF⟩|⟨h6,hF⟩
         ·refine wz ?_;cases hF;exact ae () [1,2,3,4,0]
         ·refine wz ?_;refine Wo.og (ai (k:=0) dU rfl rfl rfl) (gg rfl rfl (gH h6)) rfl ?_;obtain⟨h31,hF⟩:=ax hF;obtain⟨y3,h32,hF⟩:=J hF;refine Wo.og (aN rfl rfl ((cC _ _ h31).trans (cN h32))) (gg rfl rfl (gH h6)) rfl ?_;refine wz ?_;cases hF;exact ae () [1,2,3,4,0]
        ·clear h28;rintro⟨⟩;refine At.tn ?_;rcases aa hF with⟨h33,hF⟩|⟨h33,hF⟩
         ·refine wz ?_;cases hF;exact At.en a2 rfl (sc rfl (sc rfl (sc rfl (sc rfl (sc rfl (sc rfl (sc rfl (sc rfl (sc rfl sn))))))))) (ak.trans (ak.close (k:=1) rfl) (ak.az [0,1,2,3] rfl rfl))
         ·refine aq ?_;refine Wo.od (ai (k:=0) gN rfl rfl rfl) rfl ?_;refine wz ?_;obtain⟨⟨r3,r4,r5,r6,r7,r8,r9,r10,r11,r12,r13,r14,r15,r16,r17,r18,r46⟩,h34,hF⟩:=J hF;refine wc gn (fun m hm=>M3 n r0 l1 (uw .u64 (uw .u64 x3 &&& uw .u64 (cA .u64 (bY .u64 1 r0.toNat) 1))) v0 (some ⟨b1,0,none⟩) l1.length _ h34 m (hG.ext hm.ext) (hm.q 1)) ?_;rintro⟨⟩;refine wz ?_;refine wa uy fun b3=>?_;refine Wo.o0 (aM (k:=0) cR rfl rfl rfl rfl rfl) ?_;refine aq ?_;rcases aa hF with⟨h35,hF⟩|⟨h35,hF⟩
          ·refine wz ?_;rcases aa hF with⟨h36,hF⟩|⟨h36,hF⟩
           ·refine aq ?_;cases hF;exact ae none []
           ·refine aq ?_;cases hF;exact At.en a2 rfl (sc rfl (sc rfl (sc rfl (sc rfl (sc rfl (sc rfl (sc rfl (sc rfl (sc rfl sn))))))))) (ak.trans (ak.close (k:=2) rfl) (ak.az [1,2,3,4] rfl rfl))
          ·refine aq ?_;refine Wo.od (ai (k:=0) cR rfl rfl rfl) rfl ?_;obtain⟨⟨r47,r48⟩,h37,hF⟩:=J hF;refine wc gn (fun m hm=>Nq n r3 r4 r5 r6 r7 r8 r9 r10 r11 r12 r13 r14 r15 r16 r17 r18  _ h37 m) ?_;rintro⟨⟩;refine wz ?_;refine Wk.seq<|Wk.seq ?_;obtain⟨v6,h38,hF⟩:=J hF;refine ct (fun v6 (_:Unit)=>⟨.normal,[(1,.int .u64 ((uw .u64 (uw .u64 x3 &&& uw .u64 (cA .u64 (bY .u64 1 r0.toNat) 1)):Nat):Int)),(5,ptr b0 0),(6,.bool r1),(7,.int .i64 r2),(10,.slice a1 l2.length l2.length),(11,.slice a2 l3.length l3.length),(14,ptr b3 0),(69,.slice (some ⟨b1,0,none⟩) l1.length l1.length),(70,.int .i64 (l1.length:Int)),(71,.int .i64 v0),(125,.bool v6)],[.obj b0 (.cells [.int .i64 r0,.slice (some ⟨b1,0,none⟩) l1.length l1.length] .own),.arr b1 2 l1.length (l1.map (eP (eI .i64) (eI .i64))) t0,.sl a1 2 l2.length (l2.map (eP (eI .i64) (eI .i64))),.sl a2 16 l3.length (l3.map (eP (eN .u64) (eP (eN .u64) (eP (eN .u64) (eP (eN .u64) (eP (eN .u64) (eP (eN .u64) (eP (eN .u64) (eP (eN .u64) (eP (eN .u64) (eP (eN .u64) (eP (eN .u64) (eP (eN .u64) (eP (eN .u64) (eP (eN .u64) (eP (eN .u64) (eN .u64))))))))))))))))),.obj b3 (.cells [.int .u64 ((r3:Nat):Int),.int .u64 ((r4:Nat):Int),.int .u64 ((r5:Nat):Int),.int .u64 ((r6:Nat):Int),.int .u64 ((r7:Nat):Int),.int .u64 ((r8:Nat):Int),.int .u64 ((r9:Nat):Int),.int .u64 ((r10:Nat):Int),.int .u64 ((r11:Nat):Int),.int .u64 ((r12:Nat):Int),.int .u64 ((r13:Nat):Int),.int .u64 ((r14:Nat):Int),.int .u64 ((r15:Nat):Int),.int .u64 ((r16:Nat):Int),.int .u64 ((r17:Nat):Int),.int .u64 ((r18:Nat):Int)] .own)]⟩) v6 ?_ ?_
           ·clear hF;revert v6;intro r hF;refine Wk.db (prs:=[(11,12),(11,16),(14,16)]) (by kernel_rfl)<|Wn.od (bC rfl) rfl<|Wn.od (aN rfl rfl (sC _ _)) rfl<|Wn.od (bC rfl) rfl ?_
            rcases aa hF with⟨h1,hF⟩|⟨h1,hF⟩
            ·refine Wn.s (gg rfl rfl (pR h1)) rfl<|Wn.s (gg rfl rfl (pR h1)) rfl<|Wn.od (Eo rfl h1 rfl) rfl<|Wn.od (bC rfl) rfl<|Wn.s (gg rfl rfl rfl) rfl<|Wn.s (gg rfl rfl rfl) rfl<|Wn.od (HK rfl rfl) rfl<|Wn.od (bC rfl) rfl<|Wn.s (gg rfl rfl rfl) rfl<|Wn.s (gg rfl rfl rfl) rfl ?_;refine Wn.s (gg rfl rfl rfl) rfl<|Wn.s (gg rfl rfl rfl) rfl<|Wn.s (gg rfl rfl rfl) rfl<|Wn.s (gg rfl rfl rfl) rfl<|Wn.s (gg rfl rfl rfl) rfl<|Wn.s (gg rfl rfl rfl) rfl<|Wn.od (HK rfl rfl) rfl ?_;refine Wn.nil (fun m hm=>(by(first|refine cP.kr rfl rfl rfl (by simp) ?_|refine cP.step rfl ?_); exact(by(first|refine cP.kr rfl rfl rfl (by simp) ?_|refine cP.step rfl ?_); exact(by(first|refine cP.kr rfl rfl rfl (by simp) ?_|refine cP.step rfl ?_); exact cP.nil)))) ?_
             cases hF;exact ae () [1,2,3,4,0]
            ·refine Wn.og (bC rfl) (gg rfl rfl (gH h1)) rfl<|Wn.og (aN rfl rfl (sC _ _)) (gg rfl rfl (gH h1)) rfl<|Wn.od (Eu rfl h1 rfl) rfl<|Wn.od (bC rfl) rfl ?_;rcases aa hF with⟨h2,hF⟩|⟨h2,hF⟩
             ·refine Wn.s (gg rfl rfl (pR h2)) rfl<|Wn.s (gg rfl rfl (pR h2)) rfl<|Wn.od (Eo rfl h2 rfl) rfl<|Wn.od (bC rfl) rfl<|Wn.s (gg rfl rfl rfl) rfl<|Wn.s (gg rfl rfl rfl) rfl<|Wn.s (gg rfl rfl rfl) rfl<|Wn.s (gg rfl rfl rfl) rfl<|Wn.s (gg rfl rfl rfl) rfl<|Wn.s (gg rfl rfl rfl) rfl ?_;refine Wn.s (gg rfl rfl rfl) rfl<|Wn.s (gg rfl rfl rfl) rfl<|Wn.od (HK rfl rfl) rfl ?_;refine Wn.nil (fun m hm=>(by(first|refine cP.kr rfl rfl rfl (by simp) ?_|refine cP.step rfl ?_); exact(by(first|refine cP.kr rfl rfl rfl (by simp) ?_|refine cP.step rfl ?_); exact(by(first|refine cP.kr rfl rfl rfl (by simp) ?_|refine cP.step rfl ?_); exact cP.nil)))) ?_
              cases hF;exact ae () [1,2,3,4,0]
             ·refine Wn.og (bC rfl) (gg rfl rfl (gH h2)) rfl<|Wn.og (aN rfl rfl (sC _ _)) (gg rfl rfl (gH h2)) rfl<|Wn.od (Eu rfl h2 rfl) rfl<|Wn.od (bC rfl) rfl ?_;rcases aa hF with⟨h0,hF⟩|⟨h0,hF⟩
              ·refine Wn.s (gg rfl rfl (pR h0)) rfl<|Wn.s (gg rfl rfl (pR h0)) rfl<|Wn.s (gg rfl rfl (pR h0)) rfl<|Wn.s (gg rfl rfl (pR h0)) rfl<|Wn.s (gg rfl rfl (pR h0)) rfl<|Wn.s (gg rfl rfl (pR h0)) rfl<|Wn.s (gg rfl rfl (pR h0)) rfl<|Wn.s (gg rfl rfl (pR h0)) rfl<|Wn.od (Eo rfl h0 rfl) rfl ?_;refine Wn.nil (fun m hm=>(by(first|refine cP.kr rfl rfl rfl (by simp) ?_|refine cP.step rfl ?_); exact(by(first|refine cP.kr rfl rfl rfl (by simp) ?_|refine cP.step rfl ?_); exact(by(first|refine cP.kr rfl rfl rfl (by simp) ?_|refine cP.step rfl ?_); exact cP.nil)))) ?_
               cases hF;exact ae () [1,2,3,4,0]
              ·obtain⟨r19,h39,hF⟩:=J hF;refine Wn.xk (l:=[b3,b2]) (fH (α:=Nat) (V:=fun g=>(fun(r:Nat × Nat × Nat × Nat × Nat × Nat × Nat × Nat × Nat × Nat × Nat × Nat × Nat × Nat × Nat × Nat) (g:Nat)=>match r,g with | (v7,v8,v9,v10,v11,v12,v13,v14,v15,v16,v17,v18,v19,v20,v21,v22),b5=>(.func (.func 97) #[] #[ptr b5 0]:Value)) r19 g) (N:=fun g=>(fun(r:Nat × Nat × Nat × Nat × Nat × Nat × Nat × Nat × Nat × Nat × Nat × Nat × Nat × Nat × Nat × Nat) (g:Nat)=>match r,g with | (v7,v8,v9,v10,v11,v12,v13,v14,v15,v16,v17,v18,v19,v20,v21,v22),b5=>([.obj b5 (.cells [.int .u64 ((v7:Nat):Int),.int .u64 ((v8:Nat):Int),.int .u64 ((v9:Nat):Int),.int .u64 ((v10:Nat):Int),.int .u64 ((v11:Nat):Int),.int .u64 ((v12:Nat):Int),.int .u64 ((v13:Nat):Int),.int .u64 ((v14:Nat):Int),.int .u64 ((v15:Nat):Int),.int .u64 ((v16:Nat):Int),.int .u64 ((v17:Nat):Int),.int .u64 ((v18:Nat):Int),.int .u64 ((v19:Nat):Int),.int .u64 ((v20:Nat):Int),.int .u64 ((v21:Nat):Int),.int .u64 ((v22:Nat):Int)] .own),.obj b0 (.cells [.int .i64 r0,.slice (some ⟨b1,0,none⟩) l1.length l1.length] .own),.arr b1 2 l1.length (l1.map (eP (eI .i64) (eI .i64))) t0,.sl a1 2 l2.length (l2.map (eP (eI .i64) (eI .i64))),.sl a2 16 l3.length (l3.map (eP (eN .u64) (eP (eN .u64) (eP (eN .u64) (eP (eN .u64) (eP (eN .u64) (eP (eN .u64) (eP (eN .u64) (eP (eN .u64) (eP (eN .u64) (eP (eN .u64) (eP (eN .u64) (eP (eN .u64) (eP (eN .u64) (eP (eN .u64) (eP (eN .u64) (eN .u64))))))))))))))))),.obj b2 (.cells [.int .i64 x4,.int .i64 x5] .own),.obj b3 (.cells [.int .u64 ((r3:Nat):Int),.int .u64 ((r4:Nat):Int),.int .u64 ((r5:Nat):Int),.int .u64 ((r6:Nat):Int),.int .u64 ((r7:Nat):Int),.int .u64 ((r8:Nat):Int),.int .u64 ((r9:Nat):Int),.int .u64 ((r10:Nat):Int),.int .u64 ((r11:Nat):Int),.int .u64 ((r12:Nat):Int),.int .u64 ((r13:Nat):Int),.int .u64 ((r14:Nat):Int),.int .u64 ((r15:Nat):Int),.int .u64 ((r16:Nat):Int),.int .u64 ((r17:Nat):Int),.int .u64 ((r18:Nat):Int)] .own)]:List Pc)) r19 g) rfl rfl (fun m hm=>?_)) ⟨⟨_,0,rfl,rfl,fun _=>⟨6,rfl⟩⟩,⟨⟨_,5,rfl,rfl,fun _=>⟨5,rfl⟩⟩,trivial⟩⟩ (gg rfl rfl (gH h0)) rfl ?_
               ·clear hF;revert r19;intro r hF;refine bN (N:=14) (rs:=[.tmp 4]) rfl Tryz.func41 rfl rfl rfl hm ?_;refine aq ?_;obtain⟨⟨r49,r50,r51,r52,r53,r54,r55,r56,r57,r58,r59,r60,r61,r62,r63,r64,r65⟩,h40,hF⟩:=J hF;refine wc gn (fun m hm=>H9 n 1 1  _ h40 m) ?_;rintro⟨⟩;refine wz ?_;refine wa uy fun b8=>?_;refine Wo.o0 (aM (k:=0) cR rfl rfl rfl rfl rfl) ?_;refine aq ?_;refine Wo.od (ta rfl rfl) rfl ?_;refine aq ?_;cases hF;exact ar b8 [0,2,3,4,5,6,1]
               ·clear h39;obtain⟨v7,v8,v9,v10,v11,v12,v13,v14,v15,v16,v17,v18,v19,v20,v21,v22⟩:=r19;rintro b5;refine Wn.Qz rfl (ai (k:=6) cR rfl rfl rfl) (gg rfl rfl (gH h0)) rfl<|Wn.og (bC rfl) (gg rfl rfl (gH h0)) rfl ?_;obtain⟨v2,h41,hF⟩:=J hF;refine Wn.xk (l:=[b2]) (fH (α:=Unit) (V:=fun g=>(fun(r:Bool) (g:Unit)=>match r,g with|v2,_=>(.bool v2:Value)) v2 g) (N:=fun g=>(fun(r:Bool) (g:Unit)=>match r,g with|v2,_=>([.obj b0 (.cells [.int .i64 r0,.slice (some ⟨b1,0,none⟩) l1.length l1.length] .own),.arr b1 2 l1.length (l1.map (eP (eI .i64) (eI .i64))) t0,.sl a1 2 l2.length (l2.map (eP (eI .i64) (eI .i64))),.sl a2 16 l3.length (l3.map (eP (eN .u64) (eP (eN .u64) (eP (eN .u64) (eP (eN .u64) (eP (eN .u64) (eP (eN .u64) (eP (eN .u64) (eP (eN .u64) (eP (eN .u64) (eP (eN .u64) (eP (eN .u64) (eP (eN .u64) (eP (eN .u64) (eP (eN .u64) (eP (eN .u64) (eN .u64))))))))))))))))),.obj b2 (.cells [.int .i64 x4,.int .i64 x5] .own),.obj b3 (.cells [.int .u64 ((r3:Nat):Int),.int .u64 ((r4:Nat):Int),.int .u64 ((r5:Nat):Int),.int .u64 ((r6:Nat):Int),.int .u64 ((r7:Nat):Int),.int .u64 ((r8:Nat):Int),.int .u64 ((r9:Nat):Int),.int .u64 ((r10:Nat):Int),.int .u64 ((r11:Nat):Int),.int .u64 ((r12:Nat):Int),.int .u64 ((r13:Nat):Int),.int .u64 ((r14:Nat):Int),.int .u64 ((r15:Nat):Int),.int .u64 ((r16:Nat):Int),.int .u64 ((r17:Nat):Int),.int .u64 ((r18:Nat):Int)] .own)]:List Pc)) v2 g) rfl rfl (fun m hm=>?_)) ⟨⟨_,5,rfl,rfl,fun _=>⟨4,rfl⟩⟩,trivial⟩ (gg rfl rfl (gH h0)) rfl ?_
                ·clear hF;revert v2;intro r hF;refine bN (N:=13) (rs:=[.tmp 5]) rfl Tryz.func97 rfl rfl rfl hm ?_;refine wz ?_;refine wb fun b13=>?_;refine aq ?_;refine Wo.od (ai (k:=0) cR rfl rfl rfl) rfl<|Wo.od (ai (k:=1) cR rfl rfl rfl) rfl<|Wo.od (aN rfl rfl (ue O6 (Oq _ _ _ _ _ _ _ _ _ _ _ _ _ _ _ _ _ _ _ _ _ _ _ _ _ _ _ _ _ _ _ _))) rfl ?_;refine wz ?_;rcases aa hF with⟨h42,hF⟩|⟨h42,hF⟩
                 ·refine aq ?_;cases hF;exact ar () [2,3,4,5,6,7]
                 ·refine aq ?_;cases hF;exact ar () [2,3,4,5,6,7]
                ·clear h41;rintro⟨⟩;refine Wn.og (bC rfl) (gg rfl rfl (gH h0)) rfl<|Wn.Qz rfl (ai (k:=4) fp rfl rfl rfl) (gg rfl rfl (gH h0)) rfl ?_;obtain⟨r66,h43,hF⟩:=J hF;refine nc (gg rfl rfl (gH h0)) (fun m hm=>Nn n l2 x4 x5 a1 l2.length _ h43 m (hm.rd (k:=2) rfl (.sl _ _ _ _))) ?_;rintro⟨⟩;refine Wn.og (aN rfl rfl (Dk u4)) (gg rfl rfl (gH h0)) rfl<|Wn.od (Eu rfl h0 rfl) rfl ?_;refine Wn.nil (fun m hm=>(by(first|refine cP.kr rfl rfl rfl (by simp) ?_|refine cP.step rfl ?_); exact(by(first|refine cP.kr rfl rfl rfl (by simp) ?_|refine cP.step rfl ?_); exact(by(first|refine cP.kr rfl rfl rfl (by simp) ?_|refine cP.step rfl ?_); exact cP.nil)))) ?_
                 cases hF;exact ae () [0,1,2,3,5]
           ·clear h38;rintro⟨⟩;refine At.tn ?_;rcases aa hF with⟨h44,hF⟩|⟨h44,hF⟩
            ·refine aq ?_;cases hF;exact ae none []
            ·refine aq ?_;refine Wo.od (ai (k:=4) cR rfl rfl rfl) rfl<|Wo.x (Ae (es:=([(r3,r4,r5,r6,r7,r8,r9,r10,r11,r12,r13,r14,r15,r16,r17,r18)]:List (Nat × Nat × Nat × Nat × Nat × Nat × Nat × Nat × Nat × Nat × Nat × Nat × Nat × Nat × Nat × Nat)).map (eP (eN .u64) (eP (eN .u64) (eP (eN .u64) (eP (eN .u64) (eP (eN .u64) (eP (eN .u64) (eP (eN .u64) (eP (eN .u64) (eP (eN .u64) (eP (eN .u64) (eP (eN .u64) (eP (eN .u64) (eP (eN .u64) (eP (eN .u64) (eP (eN .u64) (eN .u64))))))))))))))))) Oh rfl (za Oh uy rfl rfl) rfl rfl) gn rfl fun b14=>?_;obtain⟨h45,hF⟩:=ax hF;refine Wo.x (CN (k:=4) (k2:=0) (xs:=(l3:List (Nat × Nat × Nat × Nat × Nat × Nat × Nat × Nat × Nat × Nat × Nat × Nat × Nat × Nat × Nat × Nat))) (ys:=([(r3,r4,r5,r6,r7,r8,r9,r10,r11,r12,r13,r14,r15,r16,r17,r18)]:List (Nat × Nat × Nat × Nat × Nat × Nat × Nat × Nat × Nat × Nat × Nat × Nat × Nat × Nat × Nat × Nat))) (xI (pM .u64) (xI (pM .u64) (xI (pM .u64) (xI (pM .u64) (xI (pM .u64) (xI (pM .u64) (xI (pM .u64) (xI (pM .u64) (xI (pM .u64) (xI (pM .u64) (xI (pM .u64) (xI (pM .u64) (xI (pM .u64) (xI (pM .u64) (xI (pM .u64) (pM .u64)))))))))))))))) Oh ⟨_,Rc⟩ rfl rfl rfl (.arr _ _ _ _ _) h45) gn rfl fun a6=>?_;refine wz ?_;cases hF;exact At.en a6 rfl (sc rfl (sc rfl (sc rfl (sc rfl (sc rfl (sc rfl (sc rfl (sc rfl (sc rfl sn))))))))) (ak.trans (ak.close (k:=2) rfl) (ak.az [1,2,3,4] rfl rfl))
       ·clear h25;rcases r22 with l7|_
        ·rintro a4;refine aq ?_;cases hF;exact ae a4 [0,1,2,3]
        ·rintro g0;refine At.tr ?_;cases hF;exact ae none []
      ·refine wz ?_;cases hF;exact ae a2 [3]
     ·clear h5;rcases r23 with _|l4
      ·rintro g1;refine wz ?_;cases hF;exact ar () []
      ·rintro a3;refine aq ?_;rcases aa hF with⟨h46,hF⟩|⟨h46,hF⟩
       ·refine wz ?_;rcases aa hF with⟨h3,hF⟩|⟨h3,hF⟩
        ·refine aq ?_;cases hF;exact ar () []
        ·refine wz ?_;obtain⟨r32,h47,hF⟩:=J hF;refine wc (gg rfl rfl (gH h3)) (fun m hm=>Mv n (uw .u64 (uw .u64 x3 &&& uw .u64 (cA .u64 (bY .u64 1 r0.toNat) 1)))  _ h47 m) ?_;rintro⟨⟩;refine wz ?_;obtain⟨r20,h48,hF⟩:=J hF;refine Wo.x (fH (α:=Nat) (V:=fun g=>(fun(r:Nat × Nat × Nat × Nat × Nat × Nat × Nat × Nat × Nat × Nat × Nat × Nat × Nat × Nat × Nat × Nat) (g:Nat)=>match r,g with | (v23,v24,v25,v26,v27,v28,v29,v30,v31,v32,v33,v34,v35,v36,v37,v38),b6=>(.func (.func 97) #[] #[ptr b6 0]:Value)) r20 g) (N:=fun g=>(fun(r:Nat × Nat × Nat × Nat × Nat × Nat × Nat × Nat × Nat × Nat × Nat × Nat × Nat × Nat × Nat × Nat) (g:Nat)=>match r,g with | (v23,v24,v25,v26,v27,v28,v29,v30,v31,v32,v33,v34,v35,v36,v37,v38),b6=>([.obj b6 (.cells [.int .u64 ((v23:Nat):Int),.int .u64 ((v24:Nat):Int),.int .u64 ((v25:Nat):Int),.int .u64 ((v26:Nat):Int),.int .u64 ((v27:Nat):Int),.int .u64 ((v28:Nat):Int),.int .u64 ((v29:Nat):Int),.int .u64 ((v30:Nat):Int),.int .u64 ((v31:Nat):Int),.int .u64 ((v32:Nat):Int),.int .u64 ((v33:Nat):Int),.int .u64 ((v34:Nat):Int),.int .u64 ((v35:Nat):Int),.int .u64 ((v36:Nat):Int),.int .u64 ((v37:Nat):Int),.int .u64 ((v38:Nat):Int)] .own),.sl a3 16 l4.length (l4.map (eP (eN .u64) (eP (eN .u64) (eP (eN .u64) (eP (eN .u64) (eP (eN .u64) (eP (eN .u64) (eP (eN .u64) (eP (eN .u64) (eP (eN .u64) (eP (eN .u64) (eP (eN .u64) (eP (eN .u64) (eP (eN .u64) (eP (eN .u64) (eP (eN .u64) (eN .u64)))))))))))))))))]:List Pc)) r20 g) rfl rfl (fun m hm=>?_)) (gg rfl rfl (gH h3)) rfl ?_
         ·clear hF;revert r20;intro r hF;refine bN (N:=14) (rs:=[.tmp 4]) rfl Tryz.func41 rfl rfl rfl hm ?_;refine aq ?_;obtain⟨⟨r67,r68,r69,r70,r71,r72,r73,r74,r75,r76,r77,r78,r79,r80,r81,r82,r83⟩,h49,hF⟩:=J hF;refine wc gn (fun m hm=>H9 n (IntKind.wrap .i64 (r32-1)) 1  _ h49 m) ?_;rintro⟨⟩;refine wz ?_;refine wa uy fun b9=>?_;refine Wo.o0 (aM (k:=0) cR rfl rfl rfl rfl rfl) ?_;refine aq ?_;refine Wo.od (ta rfl rfl) rfl ?_;refine aq ?_;cases hF;exact ar b9 [0,1]
         ·clear h48;obtain⟨v23,v24,v25,v26,v27,v28,v29,v30,v31,v32,v33,v34,v35,v36,v37,v38⟩:=r20;rintro b6;refine wz ?_;obtain⟨⟨r84,r85,r86,r87,r88,r89,r90,r91,r92,r93,r94,r95,r96,r97,r98,r99,r100⟩,h50,hF⟩:=J hF;refine wc (gg rfl rfl (gH h3)) (fun m hm=>MC n l4 a3 l4.length _ h50 m (hm.rd (k:=1) rfl (.sl _ _ _ _))) ?_;rintro⟨⟩;refine wz ?_;obtain⟨v3,h51,hF⟩:=J hF;refine Wo.x (fH (α:=Unit) (V:=fun g=>(fun(r:Bool) (g:Unit)=>match r,g with|v3,_=>(.bool v3:Value)) v3 g) (N:=fun g=>(fun(r:Bool) (g:Unit)=>match r,g with|v3,_=>([]:List Pc)) v3 g) rfl rfl (fun m hm=>?_)) (gg rfl rfl (gH h3)) rfl ?_
          ·clear hF;revert v3;intro r hF;refine bN (N:=13) (rs:=[.tmp 5]) rfl Tryz.func97 rfl rfl rfl hm ?_;refine wz ?_;refine wb fun b15=>?_;refine aq ?_;refine Wo.od (ai (k:=0) cR rfl rfl rfl) rfl<|Wo.od (ai (k:=1) cR rfl rfl rfl) rfl<|Wo.od (aN rfl rfl (ue O6 (Oq _ _ _ _ _ _ _ _ _ _ _ _ _ _ _ _ _ _ _ _ _ _ _ _ _ _ _ _ _ _ _ _))) rfl ?_;refine wz ?_;rcases aa hF with⟨h52,hF⟩|⟨h52,hF⟩
           ·refine aq ?_;cases hF;exact ar () []
           ·refine aq ?_;cases hF;exact ar () []
          ·clear h51;rintro⟨⟩;refine aq ?_;obtain rfl:=Option.some.inj hF;exact ar () []
       ·refine aq ?_;cases hF;exact ar () []
end Go.Proofs.YtookeaakpiefjaaGreatDoor
end

section
namespace Go.Ab.T30
def sm:Nat→(Nat→Int)→Int
 | 0,_=>0
 | n+1,f=>sm n f+f n
theorem iC:∀{n:Nat} {f g:Nat→Int},(∀i,i<n→f i=g i)→sm n f=sm n g
 | 0,_,_,_=>rfl
 | n+1,f,g,h=>by
  simp only[sm];rw[iC fun i hi=>h i (by omega),h n (by omega)]
theorem wx:∀{n:Nat} {f:Nat→Int},(∀i,i<n→f i=0)→sm n f=0
 | 0,_,_=>rfl
 | n+1,f,h=>by
  simp only[sm];rw[wx fun i hi=>h i (by omega),h n (by omega)]; rfl
theorem wC (a b:Int):∀(n:Nat) (f g:Nat→Int),sm n (fun i=>a*f i+b*g i)=a*sm n f+b*sm n g
 | 0,_,_=>by simp[sm]
 | n+1,f,g=>by
  simp only[sm];rw[wC a b n f g,Int.mul_add,Int.mul_add]; omega
theorem MB {n k:Nat} {f:Nat→Int} (hk:k<n) (h:∀i,i<n→i≠k→f i=0):sm n f=f k:=by
 induction n with
 | zero=>cases hk
 | succ n ih =>
  simp only[sm]
  by_cases e:k=n
  ·subst e;rw[wx fun i hi=>h i (by omega) (by omega),Int.zero_add]
  ·rw[ih (by omega) fun i hi=>h i (by omega),h n (by omega) (fun g=>e g.symm),Int.add_zero]
theorem MN {n k:Nat} {f:Nat→Int} (hk:k+1<n) (h:∀i,i<n→i≠k→i≠k+1→f i=0):sm n f=f k+f (k+1):=by
 induction n with
 | zero=>cases hk
 | succ n ih =>
  simp only[sm]
  by_cases e:k+1=n
  ·rw[MB (k:=k) (by omega) fun i hi hne=>h i (by omega) hne (by omega),e]
  ·rw[ih (by omega) fun i hi=>h i (by omega),h n (by omega) (by omega) (fun g=>e g.symm),Int.add_zero]
def sg (i:Nat):Int:=if i%2=0 then 1 else -1
theorem I3 (i:Nat):sg (i+1) = - sg i:=by
 unfold sg;have:i%2=0∨i%2=1:=by omega
 rcases this with h|h
 ·rw[if_pos h,if_neg (show ¬(i+1)%2=0 by omega)]
 ·rw[if_neg (show ¬i%2=0 by omega),if_pos (show(i+1)%2=0 by omega)]; rfl
def Gz (i r:Nat):Nat:=if r<i then r else r+1
abbrev Mt:=Nat→Nat→Int
def pq (A:Mt) (i:Nat):Mt:=fun r c=>A (Gz i r) (c+1)
def cK:Nat→Mt→Int
 | 0,_=>1
 | n+1,A=>sm (n+1) fun i=>sg i*A i 0*cK n (pq A i)
theorem Bs {i r n:Nat} (hr:r<n):Gz i r<n+1:=by unfold Gz; split<;>omega
theorem NU {i r:Nat}:Gz i r≠i:=by unfold Gz; split<;>omega
theorem bM:∀{n:Nat} {A B:Mt},(∀r c,r<n→c<n→A r c=B r c)→cK n A=cK n B
 | 0,_,_,_=>rfl
 | n+1,A,B,h=>by
  simp only[cK];refine iC fun i hi=>?_;have hm:cK n (pq A i)=cK n (pq B i):=bM fun r c hr hc=>h _ _ (Bs hr) (by omega)
  rw[h i 0 hi (by omega),hm]
def upd (A:Mt) (k:Nat) (v:Nat→Int):Mt:=fun r c=>if r=k then v c else A r c
def pos (i k:Nat):Nat:=if k<i then k else k-1
theorem Jl {i r k:Nat} (h:i≠k):Gz i r=k↔r=pos i k:=by unfold Gz pos; split<;>split<;>omega
theorem w7 {A:Mt} {i k:Nat} {v:Nat→Int} (h:i≠k):pq (upd A k v) i=upd (pq A i) (pos i k) fun c=>v (c+1):=by
 funext r c
 simp only[pq,upd,Jl h]
theorem jV {A:Mt} {k:Nat} {v:Nat→Int}:pq (upd A k v) k=pq A k:=by
 funext r c
 simp only[pq,upd,if_neg NU]
theorem NL {i k n:Nat} (hk:k<n+1) (h:i≠k) (hi:i<n+1):pos i k<n:=by unfold pos; split<;>omega
theorem jZ (a b:Int) (u w:Nat→Int):∀{n:Nat} {A:Mt} {k:Nat},k<n→cK n (upd A k fun c=>a*u c+b*w c)=a*cK n (upd A k u)+b*cK n (upd A k w):=by
 intro n
 induction n generalizing u w with
 | zero=>intro A k h; cases h
 | succ n ih =>
  intro A k hk;simp only[cK];rw[←wC];refine iC fun i hi=>?_
  by_cases h:i=k
  ·subst h;rw[jV,jV,jV];simp only[upd,if_true];generalize cK n (pq A i)=D;rw[Int.mul_add,Int.add_mul]
   congr 1
   ·rw[Int.mul_left_comm (sg i) a,Int.mul_assoc a]
   ·rw[Int.mul_left_comm (sg i) b,Int.mul_assoc b]
  ·rw[w7 h,w7 h,w7 h,ih (fun c=>u (c+1)) (fun c=>w (c+1)) (NL hk h hi)];simp only[upd,if_neg h];generalize sg i*A i 0=s;rw[Int.mul_add,Int.mul_left_comm s a,Int.mul_left_comm s b]
theorem oj (A:Mt) (k:Nat):upd A k (A k)=A:=by
 funext r c
 unfold upd
 split
 ·rename_i h; rw[h]
 ·rfl
theorem Ci:∀{n:Nat} {A:Mt} {k:Nat},k+1<n→(∀c,c<n→A k c=A (k+1) c)→cK n A=0:=by
 intro n
 induction n with
 | zero=>intro A k h; cases h
 | succ n ih =>
  intro A k hk he;simp only[cK];rw[MN (k:=k) hk]
  ·have hm:cK n (pq A k)=cK n (pq A (k+1)):=bM fun r c hr hc=>by
    simp only[pq,Gz]
    by_cases h1:r<k
    ·rw[if_pos h1,if_pos (by omega)]
    ·by_cases h2:r=k
     ·subst h2;rw[if_neg (by omega),if_pos (by omega)]
      exact(he (c+1) (by omega)).symm
     ·rw[if_neg h1,if_neg (by omega)]
   rw[hm,he 0 (by omega),I3,Int.neg_mul,Int.neg_mul]
   omega
  ·intro i hi h1 h2;have:cK n (pq A i)=0:=by
    by_cases h:i<k
    ·exact ih (k:=k-1) (by omega) fun c hc=>by
      simp only[pq,Gz];rw[if_neg (by omega),if_neg (by omega)]
      have:=he (c+1) (by omega)
      rw[show k-1+1=k by omega]
      exact this
    ·exact ih (k:=k) (by omega) fun c hc=>by
      simp only[pq,Gz];rw[if_pos (by omega),if_pos (by omega)]
      exact he (c+1) (by omega)
   rw[this,Int.mul_zero]
def Qf (A:Mt) (j:Nat):Mt:=fun r c=>if r=j then A (j+1) c else if r=j+1 then A j c else A r c
theorem KH {n j:Nat} {A:Mt} (hj:j+1<n):cK n (Qf A j) = - cK n A:=by
 let D:=fun(u w:Nat→Int)=>cK n (upd (upd A j u) (j+1) w)
 have hl:∀u u' w,D (fun c=>u c+u' c) w=D u w+D u' w:=fun u u' w=>by
  have e:∀v,upd (upd A j v) (j+1) w=upd (upd A (j+1) w) j v:=fun v=>by
   funext r c
   simp only[upd]
   by_cases h1:r=j+1
   ·rw[if_pos h1,if_neg (by omega),if_pos h1]
   ·rw[if_neg h1,if_neg h1]
  show cK n (upd (upd A j _) (j+1) w)=cK n (upd (upd A j u) (j+1) w)+cK n (upd (upd A j u') (j+1) w)
  rw[e,e,e];have:=jZ 1 1 u u' (n:=n) (A:=upd A (j+1) w) (k:=j) (by omega)
  simp only[Int.one_mul] at this;exact this
 have hr:∀u w w',D u (fun c=>w c+w' c)=D u w+D u w':=fun u w w'=>by
  have:=jZ 1 1 w w' (n:=n) (A:=upd A j u) (k:=j+1) hj;simp only[Int.one_mul] at this;exact this
 have hz:∀u,D u u=0:=fun u=>Ci hj fun c _=>by
  simp only[upd];rw[if_neg (by omega),if_pos trivial,if_pos trivial]
 have h0:=hz (fun c=>A j c+A (j+1) c);rw[hl,hr,hr,hz,hz] at h0;have e1:D (A j) (A (j+1))=cK n A:=by
  show cK n (upd (upd A j (A j)) (j+1) (A (j+1)))=_
  rw[oj,oj]
 have e2:D (A (j+1)) (A j)=cK n (Qf A j):=by
  show cK n (upd (upd A j (A (j+1))) (j+1) (A j))=_
  refine bM fun r c _ _=>?_;simp only[upd,Qf]
  by_cases h1:r=j+1
  ·rw[if_pos h1,if_neg (by omega),if_pos h1]
  ·rw[if_neg h1,if_neg h1]
 rw[e1,e2] at h0;omega
theorem ux {n:Nat}:∀{d j:Nat} {A:Mt},j+d+1<n→(∀c,c<n→A j c=A (j+d+1) c)→cK n A=0:=by
 intro d
 induction d with
 | zero=>intro j A hk he; exact Ci hk he
 | succ d ih =>
  intro j A hk he;have h1:=KH (n:=n) (j:=j+d+1) (A:=A) (by omega)
  have h2:=ih (j:=j) (A:=Qf A (j+d+1)) (by omega) fun c hc=>by
   simp only[Qf];rw[if_neg (by omega),if_neg (by omega),if_pos trivial]
   exact he c hc
  omega
theorem sN {n j k:Nat} {A:Mt} (hj:j<n) (hk:k<n) (hne:j≠k) (he:∀c,c<n→A j c=A k c):cK n A=0:=by
 rcases Nat.lt_or_ge j k with h|h
 ·exact ux (d:=k-j-1) (j:=j) (by omega) fun c hc=>by rw[show j+(k-j-1)+1=k by omega]; exact he c hc
 ·exact ux (d:=j-k-1) (j:=k) (by omega) fun c hc=>by rw[show k+(j-k-1)+1=j by omega]; exact(he c hc).symm
theorem wE {n r k:Nat} {A:Mt} (t:Int) (hr:r<n) (hk:k<n) (hne:r≠k):cK n (upd A r fun c=>A r c+t*A k c)=cK n A:=by
 have h:=jZ 1 t (A r) (A k) (n:=n) (A:=A) (k:=r) hr;simp only[Int.one_mul] at h;rw[h,oj,sN (A:=upd A r (A k)) hr hk hne fun c _=>by simp only[upd]; rw[if_pos trivial,if_neg (fun e=>hne e.symm)],Int.mul_zero,Int.add_zero]
theorem uO {n r:Nat} {A:Mt} (t:Int) (v:Nat→Int) (hr:r<n):cK n (upd A r fun c=>t*v c)=t*cK n (upd A r v):=by
 have h:=jZ t 0 v v (n:=n) (A:=A) (k:=r) hr;simp only[Int.zero_mul,Int.add_zero] at h;exact h
theorem F4 {n r:Nat} {A:Mt} (hr:r<n) (q:Int) (γ:Nat→Int) (v:Nat→Int):∀k,k≤n→(∀i,i<k→i≠r)→cK n (upd A r fun c=>q*v c+sm k fun i=>γ i*A i c)=q*cK n (upd A r v):=by
 intro k
 induction k with
 | zero =>
  intro _ _;simp only[sm,Int.add_zero];exact uO q v hr
 | succ k ih =>
  intro hk hne;have e:(upd A r fun c=>q*v c+sm (k+1) fun i=>γ i*A i c)=upd A r fun c=>1*(q*v c+sm k fun i=>γ i*A i c)+γ k*A k c:=by
   funext r' c
   simp only[upd,sm]
   split<;>omega
  rw[e,jZ 1 (γ k) _ _ hr,Int.one_mul,ih (by omega) fun i hi=>hne i (by omega),sN (A:=upd A r (A k)) hr (show k<n by omega) (fun e=>hne k (by omega) e.symm) fun c _=>by
   simp only[upd]; rw[if_pos trivial,if_neg (hne k (by omega))],Int.mul_zero,Int.add_zero]
theorem EB {n u:Nat} {A:Mt} (hu:u<n) (t:Nat→Int):cK n (fun i c=>if i=u then A u c else A i c+t i*A u c)=cK n A:=by
 have key:∀m,m≤n→cK n (fun i c=>if i=u∨m≤i then A i c else A i c+t i*A u c)=cK n A:=by
  intro m
  induction m with
  | zero =>
   intro _;refine bM fun r c _ _=>?_;rw[if_pos (.inr (Nat.zero_le _))]
  | succ m ih =>
   intro hm;rw[←ih (by omega)]
   by_cases h:m=u
   ·refine bM fun r c _ _=>?_
    by_cases h1:r=u
    ·rw[if_pos (.inl h1),if_pos (.inl h1)]
    ·by_cases h2:m≤r
     ·rw[if_pos (.inr (by omega)),if_pos (.inr h2)]
     ·rw[if_neg (by omega),if_neg (by omega)]
   ·have:=wE (n:=n) (r:=m) (k:=u) (A:=fun i c=>if i=u∨m≤i then A i c else A i c+t i*A u c) (t m) (by omega) hu h
    rw[←this];refine bM fun r c _ _=>?_;simp only[upd]
    by_cases h1:r=m
    ·subst h1;rw[if_neg (show ¬(r=u∨r+1≤r) by omega),if_pos rfl,if_pos (.inr (Nat.le_refl _)),if_pos (.inl trivial)]
    ·rw[if_neg h1]
     by_cases h2:r=u∨m+1≤r
     ·rw[if_pos h2,if_pos (by omega)]
     ·rw[if_neg h2,if_neg (by omega)]
 have:=key n (Nat.le_refl _);rw[←this];refine bM fun r c hr _=>?_
 by_cases h:r=u
 ·rw[if_pos h,if_pos (.inl h),h]
 ·rw[if_neg h,if_neg (by omega)]
theorem Iy:∀{n:Nat} {A:Mt} {c:Nat},c<n→(∀r,r<n→A r c=0)→cK n A=0:=by
 intro n
 induction n with
 | zero=>intro A c h; cases h
 | succ n ih =>
  intro A c hc h;simp only[cK];refine wx fun i hi=>?_;cases c with
  | zero=>rw[h i hi,Int.mul_zero,Int.zero_mul]
  | succ c=>rw[ih (c:=c) (by omega) fun r hr=>h _ (Bs hr),Int.mul_zero]
theorem FK {n r:Nat} {A:Mt} (hr:r<n) (h:∀c,c<n→A r c=0):cK n A=0:=by
 have:=uO (n:=n) (r:=r) (A:=A) 0 (A r) hr;rw[Int.zero_mul] at this;rw[←this];refine bM fun i c _ hc=>?_;simp only[upd,Int.zero_mul]
 split
 ·rename_i e; rw[e,h c hc]
 ·rfl
theorem xY:∀{n:Nat} {A:Mt},(∀c,c<n→A n c=0)→cK (n+1) A=cK n A*A n n:=by
 intro n
 induction n with
 | zero=>intro A _; simp[cK,sm,sg]
 | succ n ih =>
  intro A h;have e:cK (n+2) A=sm (n+2) fun i=>sg i*A i 0*cK (n+1) (pq A i):=rfl;have e2:cK (n+1) A=sm (n+1) fun i=>sg i*A i 0*cK n (pq A i):=rfl;rw[e,e2];simp only[sm];rw[h 0 (by omega),Int.mul_zero,Int.zero_mul,Int.add_zero]
  have hs:sm (n+1) (fun i=>sg i*A i 0*cK (n+1) (pq A i))=A (n+1) (n+1)*sm (n+1) (fun i=>sg i*A i 0*cK n (pq A i)):=by
   have:=wC (A (n+1) (n+1)) 0 (n+1) (fun i=>sg i*A i 0*cK n (pq A i)) (fun _=>0);simp only[Int.mul_zero,Int.zero_mul,Int.add_zero] at this;rw[←this];refine iC fun i hi=>?_;have hm:∀c,pq A i n c=A (n+1) (c+1):=fun c=>by
    simp only[pq,Gz];rw[if_neg (by omega)]
   rw[ih (A:=pq A i) fun c hc=>by rw[hm]; exact h (c+1) (by omega),hm]
   generalize sg i*A i 0=s;generalize cK n (pq A i)=d;generalize A (n+1) (n+1)=z;rw[Int.mul_comm z,Int.mul_assoc]
  simp only[sm] at hs;rw[hs,Int.mul_comm]
theorem yg:∀{n:Nat} {A:Mt},(∀r c,r<n→c<n→A r c=if r=c then 1 else 0)→cK n A=1
 | 0,_,_=>rfl
 | n+1,A,h=>by
  rw[xY fun c hc=>by rw[h n c (by omega) (by omega),if_neg (by omega)],yg fun r c hr hc=>h r c (by omega) (by omega),h n n (by omega) (by omega),if_pos rfl]; rfl
def dl (ρ:Nat→Nat) (e:Nat × Nat) (i:Nat):Int:=(if i=ρ e.1 then 1 else 0)-(if i=ρ e.2 then 1 else 0)
def jt (ρ:Nat→Nat):List (Nat × Nat)→Mt
 | [],_,_=>0
 | e::E,i,j=>dl ρ e i*dl ρ e j+jt ρ E i j
def uu (ρ:Nat→Nat):Mt:=fun i j=>if ρ i=i then 0 else if i=j then 1 else 0
def kM (ρ:Nat→Nat) (E:List (Nat × Nat)):Mt:=fun i j=>uu ρ i j+jt ρ E i j
def mg (ρ:Nat→Nat) (u v:Nat):Nat→Nat:=fun i=>if ρ i=u then v else ρ i
def qJ (s:Nat):(Nat→Nat)→List (Nat × Nat)→Nat
 | ρ,[]=>if (List.range s).all (fun i=>ρ i != i) then 1 else 0
 | ρ,(a,b)::E=>qJ s ρ E+if ρ a=ρ b then 0 else qJ s (if ρ a=s then mg ρ (ρ b) (ρ a) else mg ρ (ρ a) (ρ b)) E
def wv (u v:Nat):Nat→Int:=fun c=>(if c=u then 1 else 0)-(if c=v then 1 else 0)
section
variable {s : Nat} {ρ : Nat → Nat} {E : List (Nat × Nat)} {u v : Nat}
theorem C4 (hi:∀i,ρ (ρ i)=ρ i) (hv:ρ v=v) (huv:u≠v) (i:Nat):mg ρ u v (mg ρ u v i)=mg ρ u v i:=by
 unfold mg
 by_cases h:ρ i=u
 ·rw[if_pos h,hv,if_neg (fun e=>huv e.symm)]
 ·rw[if_neg h,hi,if_neg h]
theorem zj (hr:∃i,i<s∧ρ i=i):cK s (kM ρ [])=0:=by
 obtain⟨i,h1,h2⟩:=hr;refine FK h1 fun c _=>?_;simp only[kM,jt,uu];rw[if_pos h2]; rfl
theorem zK (hr:∀i,i<s→ρ i≠i):cK s (kM ρ [])=1:=by
 refine yg fun r c h1 _=>?_;simp only[kM,jt,uu];rw[if_neg (hr r h1),Int.add_zero]
theorem Po (i:Nat) (hiu:i≠u) (_:ρ v=v) (_:u≠v) (a:Nat):(if i=mg ρ u v a then(1:Int) else 0)=(if i=ρ a then 1 else 0)+(if i=v then(if u=ρ a then 1 else 0) else 0):=by
 unfold mg
 by_cases h:ρ a=u
 ·rw[if_pos h,h,if_neg hiu,if_pos rfl,Int.zero_add]
 ·rw[if_neg h];have:¬u=ρ a:=fun e=>h e.symm;rw[if_neg this]
  split<;>split<;>rfl
theorem Pe (huv:u≠v) (a:Nat):(if u=mg ρ u v a then(1:Int) else 0)=0:=by
 unfold mg
 by_cases h:ρ a=u
 ·rw[if_pos h,if_neg huv]
 ·rw[if_neg h,if_neg (fun e=>h e.symm)]
theorem Lt (hiv:ρ v=v) (huv:u≠v) {i:Nat} (hiu:i≠u) (e:Nat × Nat):dl (mg ρ u v) e i=dl ρ e i+(if i=v then dl ρ e u else 0):=by
 unfold dl;rw[Po i hiu hiv huv,Po i hiu hiv huv]
 split<;>omega
theorem CX (huv:u≠v) (e:Nat × Nat):dl (mg ρ u v) e u=0:=by
 unfold dl;rw[Pe huv,Pe huv]; rfl
theorem Iv (huv:u≠v) (i:Nat):∀E,jt (mg ρ u v) E i u=0
 | []=>rfl
 | e::E=>by
  simp only[jt];rw[CX huv,Int.mul_zero,Iv huv i E]; rfl
theorem Gd (huv:u≠v) (i:Nat):∀E,jt (mg ρ u v) E u i=0
 | []=>rfl
 | e::E=>by
  simp only[jt];rw[CX huv,Int.zero_mul,Gd huv i E]; rfl
theorem Gx (hiv:ρ v=v) (huv:u≠v) {i c:Nat} (hiu:i≠u) (hcu:c≠u):∀E,jt (mg ρ u v) E i c=jt ρ E i c+(if i=v then jt ρ E u c else 0)+(if c=v then jt ρ E i u+(if i=v then jt ρ E u u else 0) else 0)
 | []=>by simp only[jt]; split<;>split<;>rfl
 | e::E=>by
  simp only[jt];rw[Gx hiv huv hiu hcu E,Lt hiv huv hiu,Lt hiv huv hcu];generalize dl ρ e i=p;generalize dl ρ e c=q;generalize dl ρ e u=r
  by_cases h1:i=v<;>by_cases h2:c=v
  ·simp only[if_pos h1,if_pos h2];rw[Int.mul_add,Int.add_mul,Int.add_mul]; omega
  ·simp only[if_pos h1,if_neg h2,Int.add_zero];rw[Int.add_mul]; omega
  ·simp only[if_neg h1,if_pos h2,Int.add_zero];rw[Int.mul_add]; omega
  ·simp only[if_neg h1,if_neg h2,Int.add_zero]
theorem BH (_:∀i,ρ (ρ i)=ρ i) (hiv:ρ v=v) (_:u≠v) {i c:Nat} (hiu:i≠u):uu (mg ρ u v) i c=uu ρ i c:=by
 unfold uu mg
 by_cases h:ρ i=i
 ·rw[if_pos h,h,if_neg hiu,if_pos rfl]
 ·rw[if_neg h]
  by_cases h2:ρ i=u
  ·rw[if_pos h2];have:¬v=i:=fun e=>h (by rw[←e]; exact hiv)
   rw[if_neg this]
  ·rw[if_neg h2,if_neg h]
theorem Hv (hi:∀i,ρ (ρ i)=ρ i) (hus:u<s) (hu:ρ u=u) (hv:ρ v=v) (huv:u≠v) (hvs:v≤s) :
  cK s (fun i j=>kM ρ E i j+wv u v i*wv u v j)=cK s (kM ρ E)+cK s (kM (mg ρ u v) E):=by
 have hwu:wv u v u=1:=by simp only[wv]; rw[if_pos trivial,if_neg huv]; rfl
 have hwi:∀i,i≠u→i≠v→wv u v i=0:=fun i h1 h2=>by simp only[wv]; rw[if_neg h1,if_neg h2]; rfl
 have hwv:wv u v v = -1:=by simp only[wv]; rw[if_neg (fun e=>huv e.symm),if_pos trivial]; rfl
 let R:Mt:=fun i c=>if i=v then kM ρ E v c+1*kM ρ E u c else kM ρ E i c
 have hRu:∀c,R u c=kM ρ E u c:=fun c=>if_neg huv;have hR:cK s R=cK s (kM ρ E):=by
  by_cases h:v<s
  ·have:=wE (n:=s) (A:=kM ρ E) (r:=v) (k:=u) 1 h hus (fun e=>huv e.symm);rw[←this];refine bM fun r c _ _=>?_
   show(if r=v then _ else _)=upd (kM ρ E) v _ r c
   rfl
  ·refine bM fun r c hr _=>?_;exact if_neg (by omega)
 have hB:cK s (fun i j=>kM ρ E i j+wv u v i*wv u v j)=cK s (upd R u fun c=>1*kM ρ E u c+1*wv u v c):=by
  by_cases h:v<s
  ·have:=wE (n:=s) (A:=fun i j=>kM ρ E i j+wv u v i*wv u v j) (r:=v) (k:=u) 1 h hus (fun e=>huv e.symm);rw[←this];refine bM fun r c _ _=>?_;simp only[upd,R]
   by_cases h1:r=v
   ·rw[if_pos h1,if_neg (by omega),if_pos h1,hwu,hwv]; omega
   ·rw[if_neg h1]
    by_cases h2:r=u
    ·subst h2; rw[if_pos rfl,hwu]; omega
    ·rw[if_neg h2,if_neg h1,hwi r h2 h1,Int.zero_mul,Int.add_zero]
  ·refine bM fun r c hr _=>?_;simp only[upd,R]
   by_cases h2:r=u
   ·subst h2; rw[if_pos rfl,hwu]; omega
   ·rw[if_neg h2,if_neg (by omega),hwi r h2 (by omega),Int.zero_mul,Int.add_zero]
 have hL:cK s (upd R u (kM ρ E u))=cK s (kM ρ E):=by
  rw[←hR];refine bM fun r c _ _=>?_;simp only[upd]
  split
  ·rename_i h; rw[h]; exact(hRu c).symm
  ·rfl
 rw[hB,jZ 1 1 _ _ hus,Int.one_mul,Int.one_mul,hL]
 congr 1
 have h1:=EB (n:=s) (u:=u) (A:=upd R u (wv u v)) hus fun i=>- R i u;rw[←h1];have hC:cK s (fun i c=>if i=u then upd R u (wv u v) u c else upd R u (wv u v) i c + - R i u*upd R u (wv u v) u c)=cK s (upd (kM (mg ρ u v) E) u fun c=>1*(if c=u then 1 else 0)+(-1)*(if c=v then 1 else 0)):=by
  refine bM fun r c hr hc=>?_;simp only[upd]
  by_cases h2:r=u
  ·rw[if_pos h2,if_pos trivial,if_pos h2];simp only[wv]; omega
  ·rw[if_neg h2,if_neg h2,if_pos trivial,if_neg h2]
   by_cases h3:c=u
   ·subst h3;rw[hwu];have:kM (mg ρ c v) E r c=0:=by
     simp only[kM];rw[Iv huv,BH hi hv huv h2];unfold uu;rw[if_neg h2]; split<;>rfl
    rw[this]; omega
   ·have e1:wv u v c = - (if c=v then 1 else 0):=by simp only[wv]; rw[if_neg h3]; omega
    rw[e1];simp only[kM];rw[Gx hv huv h2 h3,BH hi hv huv h2];have d1:uu ρ u c=0:=by unfold uu; rw[if_pos hu]
    have d2:uu ρ r u=0:=by unfold uu; rw[if_neg h2]; split<;>rfl
    have d3:uu ρ u u=0:=by unfold uu; rw[if_pos hu]
    have d4:uu ρ v u=0:=by unfold uu; rw[if_pos hv]
    simp only[R,kM]
    by_cases h4:r=v<;>by_cases h5:c=v
    ·simp only[if_pos h4,if_pos h5];rw[d1,d3,d4,h4]; omega
    ·simp only[if_pos h4,if_neg h5];rw[d1,d3,d4,h4]; omega
    ·simp only[if_neg h4,if_pos h5];rw[d2]; omega
    ·simp only[if_neg h4,if_neg h5];omega
 rw[hC,jZ 1 (-1) _ _ hus,Iy (c:=u) (A:=upd (kM (mg ρ u v) E) u fun c=>if c=v then 1 else 0) hus fun r hr=>?_,Int.one_mul,Int.mul_zero,Int.add_zero]
 ·refine bM fun r c hr _=>?_;simp only[upd]
  split
  ·rename_i h;subst h;have:mg ρ r v r=v:=by unfold mg; rw[if_pos hu]
   have hd:uu (mg ρ r v) r c=if r=c then 1 else 0:=by unfold uu; rw[this,if_neg (fun e=>huv e.symm)]
   simp only[kM];rw[Gd huv,hd,Int.add_zero]
   by_cases h2:c=r
   ·rw[if_pos h2,if_pos h2.symm]
   ·rw[if_neg h2,if_neg (fun e=>h2 e.symm)]
  ·rfl
 ·simp only[upd]
  by_cases h2:r=u
  ·rw[if_pos h2,if_neg huv]
  ·rw[if_neg h2];simp only[kM];rw[Iv huv,BH hi hv huv h2];unfold uu;rw[if_neg h2]; split<;>rfl
theorem qm:∀(E:List (Nat × Nat)) (ρ:Nat→Nat),(∀i,ρ (ρ i)=ρ i)→ρ s=s→(∀e ∈ E,ρ e.1≤s∧ρ e.2≤s)→cK s (kM ρ E)=(qJ s ρ E:Int)
 | [],ρ,_,_,_=>by
  unfold qJ
  by_cases h:∃i,i<s∧ρ i=i
  ·rw[zj h,if_neg]
   ·rfl
   ·rw[List.all_eq_true];intro g;obtain⟨i,h1,h2⟩:=h;have:=g i (List.mem_range.2 h1);simp[h2] at this
  ·rw[zK fun i h1 h2=>h ⟨i,h1,h2⟩,if_pos]
   ·rfl
   ·rw[List.all_eq_true];intro i hi;simp only[bne_iff_ne,ne_eq];exact fun e=>h ⟨i,List.mem_range.1 hi,e⟩
 | (a,b)::E,ρ,hi,hs,hE=>by
  have hab:=hE (a,b) (by simp)
  have hE':∀e ∈ E,ρ e.1≤s∧ρ e.2≤s:=fun e he=>hE e (by simp[he])
  have ih:=qm E ρ hi hs hE';unfold qJ
  by_cases h:ρ a=ρ b
  ·rw[if_pos h,Nat.add_zero,←ih];refine bM fun i j _ _=>?_;simp only[kM,jt,dl];rw[h,Int.sub_self,Int.zero_mul,Int.zero_add]
  ·rw[if_neg h];have go:∀u v,u≤s→v≤s→u≠s→u≠v→ρ u=u→ρ v=v→(∀i j,dl ρ (a,b) i*dl ρ (a,b) j=wv u v i*wv u v j)→cK s (kM ρ ((a,b)::E))=((qJ s ρ E+qJ s (mg ρ u v) E:Nat):Int):=fun u v h1 h2 h3 h4 h5 h6 h7=>by
    have e1:cK s (kM ρ ((a,b)::E))=cK s (fun i j=>kM ρ E i j+wv u v i*wv u v j):=bM fun i j _ _=>by
     simp only[kM,jt];rw[h7]; omega
    have hus:u<s:=by omega
    have ih2:=qm E (mg ρ u v) (C4 hi h6 h4) (by unfold mg; rw[hs,if_neg (fun e=>h3 e.symm)]) fun e he=>by
     have:=hE' e he;unfold mg;refine⟨?_,?_⟩
     ·split
      ·exact h2
      ·exact this.1
     ·split
      ·exact h2
      ·exact this.2
    rw[e1,Hv hi hus h5 h6 h4 h2,ih,ih2];omega
   by_cases h8:ρ a=s
   ·rw[if_pos h8];refine go (ρ b) (ρ a) hab.2 hab.1 (fun e=>h (by rw[h8,e])) (fun e=>h e.symm) (hi b) (hi a) fun i j=>?_
    simp only[dl,wv];generalize (if i=ρ a then(1:Int) else 0)=p
    generalize (if i=ρ b then(1:Int) else 0)=q
    generalize (if j=ρ a then(1:Int) else 0)=p'
    generalize (if j=ρ b then(1:Int) else 0)=q'
    rw[show p-q = -(q-p) by omega,show p'-q' = -(q'-p') by omega,Int.neg_mul_neg]
   ·rw[if_neg h8];exact go (ρ a) (ρ b) hab.1 hab.2 h8 h (hi a) (hi b) fun i j=>rfl
end
def kK (A:Mt) (k r c:Nat):Mt:=fun i j=>A (if i<k then i else r) (if j<k then j else c)
theorem GJ (A:Mt) (k:Nat):cK (k+1) (kK A k k k)=cK (k+1) A:=bM fun i j hi hj=>by
 simp only[kK];have h1:(if i<k then i else k)=i:=by split<;>omega
 have h2:(if j<k then j else k)=j:=by split<;>omega
 rw[h1,h2]
def Qp (A:Mt) (s k r:Nat) (m:Int) (Y:Nat→Int):Prop:=∃(Q:Int) (γ:Nat→Int),Q≠0∧∀c,c<s→Q*(if c<k then 0 else Y c)=(Q*m)*A r c+sm k fun i=>γ i*A i c
theorem Qp.minor {A:Mt} {s k r c:Nat} {m:Int} {Y:Nat→Int} (h:Qp A s k r m Y) (hk:k≤c) (hc:c<s):m*cK (k+1) (kK A k r c)=cK k A*Y c:=by
 obtain⟨Q,γ,hQ,h⟩:=h;have h1:=F4 (n:=k+1) (r:=k) (A:=kK A k r c) (by omega) (Q*m) γ (kK A k r c k) k (by omega) (fun i hi=>by omega)
 rw[oj] at h1;have hrow:∀j,j<k+1→(Q*m)*kK A k r c k j+sm k (fun i=>γ i*kK A k r c i j)=Q*(if j<k then 0 else Y c):=fun j hj=>by
  have e:sm k (fun i=>γ i*kK A k r c i j)=sm k fun i=>γ i*A i (if j<k then j else c):=iC fun i hi=>by
   simp only[kK]; rw[if_pos hi]
  rw[e];have:=h (if j<k then j else c) (by split<;>omega)
  simp only[kK];rw[if_neg (show ¬k<k by omega),←this]
  by_cases hj2:j<k
  ·simp only[if_pos hj2]
  ·simp only[if_neg hj2];rw[if_neg (by omega)]
 rw[xY (n:=k) (fun j hj=>by
  simp only[upd];rw[if_pos trivial,hrow j (by omega),if_pos hj,Int.mul_zero])] at h1
 have h2:cK k (upd (kK A k r c) k fun j=>(Q*m)*kK A k r c k j+sm k fun i=>γ i*kK A k r c i j)=cK k A:=bM fun i j hi hj=>by
  simp only[upd,kK];rw[if_neg (by omega),if_pos hi,if_pos hj]
 have h3:(upd (kK A k r c) k fun j=>(Q*m)*kK A k r c k j+sm k fun i=>γ i*kK A k r c i j) k k=Q*Y c:=by
  simp only[upd];rw[if_pos trivial,hrow k (by omega),if_neg (by omega)]
 rw[h2,h3,Int.mul_assoc] at h1;have:Q*(cK k A*Y c)=Q*(m*cK (k+1) (kK A k r c)):=by rw[←h1,Int.mul_left_comm]
 exact(Int.eq_of_mul_eq_mul_left hQ this).symm
def DT (M:Mt) (k:Nat) (p:Int):Mt:=fun r c=>if k<r∧k≤c then(M r c*M k k-M r k*M k c)/p else M r c
structure Bar (A:Mt) (s k:Nat) (M:Mt) (p:Int):Prop where
 p0:p≠0
 pe:p=cK k A
 row:∀r,k≤r→r<s→Qp A s k r p (M r)
theorem Bar.start (A:Mt) (s:Nat):Bar A s 0 A 1:=⟨by decide,rfl,fun r _ _=>⟨1,fun _=>0,by decide,fun c _=>by simp[sm]⟩⟩
theorem Bar.minor {A:Mt} {s k:Nat} {M:Mt} {p:Int} (h:Bar A s k M p) {r c:Nat} (hr:k≤r) (hrs:r<s) (hc:k≤c) (hcs:c<s):M r c=cK (k+1) (kK A k r c):=by
 have h1:=(h.row r hr hrs).minor hc hcs;rw[←h.pe] at h1;exact(Int.eq_of_mul_eq_mul_left h.p0 h1).symm
theorem Bar.FG {A:Mt} {s k:Nat} {M:Mt} {p:Int} (h:Bar A s k M p) (hk:k<s):M k k=cK (k+1) A:=by
 rw[h.minor (Nat.le_refl k) hk (Nat.le_refl k) hk,GJ]
theorem Bar.xC {A:Mt} {s k:Nat} {M:Mt} {p:Int} (h:Bar A s k M p) (hk:k<s) {r:Nat} (hr:k<r) (hrs:r<s):Qp A s (k+1) r (p*M k k) fun c=>M r c*M k k-M r k*M k c:=by
 obtain⟨Q1,γ1,hQ1,h1⟩:=h.row r (by omega) hrs
 obtain⟨Q2,γ2,hQ2,h2⟩:=h.row k (Nat.le_refl k) hk;refine⟨Q1*Q2,fun i=>if i<k then(M k k*Q2)*γ1 i+(-(M r k*Q1))*γ2 i else -(M r k*Q1*Q2*p),fun e=>by rcases Int.mul_eq_zero.1 e with e|e; exact hQ1 e; exact hQ2 e,fun c hc=>?_⟩
 have g1:=h1 c hc;have g2:=h2 c hc;have e1:sm (k+1) (fun i=>(if i<k then(M k k*Q2)*γ1 i+(-(M r k*Q1))*γ2 i else -(M r k*Q1*Q2*p))*A i c)=(M k k*Q2)*sm k (fun i=>γ1 i*A i c)+(-(M r k*Q1))*sm k (fun i=>γ2 i*A i c) + -(M r k*Q1*Q2*p)*A k c:=by
  simp only[sm];rw[if_neg (by omega),←wC]
  congr 1
  refine iC fun i hi=>?_;rw[if_pos hi,Int.add_mul,Int.mul_assoc,Int.mul_assoc (-(M r k*Q1))]
 rw[e1];have e2:(if c<k+1 then(0:Int) else M r c*M k k-M r k*M k c)=M k k*(if c<k then 0 else M r c)-M r k*(if c<k then 0 else M k c):=by
  by_cases h3:c<k
  ·rw[if_pos (by omega),if_pos h3,if_pos h3]; simp
  ·rw[if_neg h3,if_neg h3]
   by_cases h4:c=k
   ·subst h4;rw[if_pos (by omega),Int.mul_comm]; omega
   ·rw[if_neg (by omega),Int.mul_comm (M r c)]
 rw[e2];generalize (if c<k then(0:Int) else M r c)=x at g1
 generalize (if c<k then(0:Int) else M k c)=y at g2
 generalize sm k (fun i=>γ1 i*A i c)=S1 at g1;generalize sm k (fun i=>γ2 i*A i c)=S2 at g2;have k1:S1=Q1*x-Q1*p*A r c:=by omega
 have k2:S2=Q2*y-Q2*p*A k c:=by omega
 rw[k1,k2];generalize A r c=a;generalize A k c=b;generalize M k k=q;generalize M r k=t;clear g1 g2 k1 k2 e1 e2 h1 h2
 grind
theorem Bar.exact {A:Mt} {s k:Nat} {M:Mt} {p:Int} (h:Bar A s k M p) (hk:k<s) (hp:M k k≠0) {r c:Nat} (hr:k<r) (hrs:r<s) (hc:k≤c) (hcs:c<s):M r c*M k k-M r k*M k c=p*DT M k p r c:=by
 simp only[DT];rw[if_pos ⟨hr,hc⟩];have hd:p∣M r c*M k k-M r k*M k c:=by
  by_cases e:c=k
  ·subst e;rw[Int.mul_comm];exact⟨0,by omega⟩
  ·have h1:=(h.xC hk hr hrs).minor (c:=c) (by omega) hcs
   rw[←h.FG hk] at h1;refine⟨cK (k+1+1) (kK A (k+1) r c),?_⟩;have:M k k*(M r c*M k k-M r k*M k c)=M k k*(p*cK (k+1+1) (kK A (k+1) r c)):=by
    rw[←h1];generalize cK (k+1+1) (kK A (k+1) r c)=d;rw[Int.mul_comm p,Int.mul_assoc]
   exact Int.eq_of_mul_eq_mul_left hp this
 exact(Int.mul_ediv_cancel' hd).symm
theorem Bar.step {A:Mt} {s k:Nat} {M:Mt} {p:Int} (h:Bar A s k M p) (hk:k<s) (hp:M k k≠0):Bar A s (k+1) (DT M k p) (M k k):=by
 refine⟨hp,h.FG hk,fun r hr hrs=>?_⟩;obtain⟨Q,γ,hQ,h1⟩:=h.xC hk (show k<r by omega) hrs
 refine⟨Q*p,γ,fun e=>by rcases Int.mul_eq_zero.1 e with e|e; exact hQ e; exact h.p0 e,fun c hc=>?_⟩
 have h2:=h1 c hc;rw[Int.mul_assoc Q p (M k k),←h2,Int.mul_assoc Q p]
 by_cases h3:c<k+1
 ·rw[if_pos h3,if_pos h3,Int.mul_zero,Int.mul_zero]
 ·rw[if_neg h3,if_neg h3,←h.exact hk hp (show k<r by omega) hrs (by omega) hc]
def Lj:Nat→Nat→Mt→Int→Int
 | 0,_,_,p=>p
 | j+1,k,M,p=>if M k k=0 then 0 else Lj j (k+1) (DT M k p) (M k k)
theorem Cc {A:Mt} {s:Nat} (hA:∀k,k<s→cK (k+1) A=0→cK s A=0):∀(j k:Nat) (M:Mt) (p:Int),j+k=s→Bar A s k M p→Lj j k M p=cK s A
 | 0,k,M,p,hj,h=>by
  have:k=s:=by omega
  subst this;exact h.pe
 | j+1,k,M,p,hj,h=>by
  simp only[Lj];have hk:k<s:=by omega
  by_cases h0:M k k=0
  ·rw[if_pos h0];have:=h.FG hk;rw[h0] at this;exact(hA k hk this.symm).symm
  ·rw[if_neg h0];exact Cc hA j (k+1) _ _ (by omega) (h.step hk h0)
def GN (s:Nat) (ρ:Nat→Nat) (E:List (Nat × Nat)):Prop :=
 ∀f:Nat→Bool,(∀i,f i=f (ρ i))→(∀e ∈ E,f e.1=f e.2)→∀i,i≤s→f i=f s
structure Rho (s:Nat) (ρ:Nat→Nat):Prop where
 idem:∀i,ρ (ρ i)=ρ i
 top:ρ s=s
 le:∀i,i≤s→ρ i≤s
theorem Rho.id (s:Nat):Rho s fun i=>i:=⟨fun _=>rfl,rfl,fun _ h=>h⟩
theorem Rho.step {s:Nat} {ρ:Nat→Nat} (h:Rho s ρ) {a b:Nat} (ha:a≤s) (hb:b≤s) (hab:ρ a≠ρ b):Rho s (if ρ a=s then mg ρ (ρ b) (ρ a) else mg ρ (ρ a) (ρ b)):=by
 have key:∀u v,ρ u=u→ρ v=v→u≠v→u≠s→v≤s→Rho s (mg ρ u v):=fun u v hu hv huv hus hvs=>by
  refine⟨C4 h.idem hv huv,?_,fun i hi=>?_⟩
  ·unfold T30.mg; rw[h.top,if_neg (fun e=>hus e.symm)]
  ·unfold T30.mg
   split
   ·exact hvs
   ·exact h.le i hi
 by_cases hs:ρ a=s
 ·rw[if_pos hs];exact key _ _ (h.idem b) (h.idem a) (fun e=>hab e.symm) (fun e=>hab (by rw[hs,e])) (h.le a ha)
 ·rw[if_neg hs];exact key _ _ (h.idem a) (h.idem b) hab hs (h.le b hb)
theorem Ai {ρ:Nat→Nat} {u v:Nat} (hu:ρ u=u) (_:ρ v=v) (f:Nat→Bool):(∀i,f i=f (mg ρ u v i))↔(∀i,f i=f (ρ i))∧f u=f v:=by
 constructor
 ·intro h;have huv:f u=f v:=by have:=h u; unfold mg at this; rwa[if_pos hu] at this
  refine⟨fun i=>?_,huv⟩;have:=h i;unfold mg at this
  by_cases hi:ρ i=u
  ·rw[if_pos hi] at this; rw[this,hi,huv]
  ·rwa[if_neg hi] at this
 ·rintro⟨h,huv⟩ i;unfold mg
  by_cases hi:ρ i=u
  ·rw[if_pos hi,h i,hi,huv]
  ·rw[if_neg hi]; exact h i
theorem qO (s:Nat):∀(E:List (Nat × Nat)) (ρ:Nat→Nat),Rho s ρ→(∀e ∈ E,e.1≤s∧e.2≤s)→(0<qJ s ρ E↔GN s ρ E)
 | [],ρ,h,_=>by
  simp only[qJ];constructor
  ·intro h0;have hall:∀i,i<s→ρ i≠i:=fun i hi=>by
    by_cases hc:(List.range s).all (fun i=>ρ i != i)=true
    ·simpa using List.all_eq_true.1 hc i (List.mem_range.2 hi)
    ·rw[if_neg hc] at h0; omega
   intro f hf _ i hi;have h1:=h.le i hi;have h2:ρ i=s:=by
    by_cases h3:ρ i<s
    ·exact absurd (h.idem i) (hall _ h3)
    ·omega
   rw[hf i,h2]
  ·intro hu;have:(List.range s).all (fun i=>ρ i != i)=true:=by
    refine List.all_eq_true.2 fun i hi=>?_;have hi:=List.mem_range.1 hi
    by_cases hr:ρ i=i
    ·have h1:=hu (fun j=>ρ j == i) (fun j=>by simp[h.idem]) (fun e he=>nomatch he) i (Nat.le_of_lt hi)
     simp only[hr,h.top,beq_self_eq_true] at h1;have:s=i:=by simpa using h1.symm
     omega
    ·simpa using hr
   rw[if_pos this]; exact Nat.one_pos
 | (a,b)::E,ρ,h,hE=>by
  have ha:a≤s:=(hE (a,b) List.mem_cons_self).1;have hb:b≤s:=(hE (a,b) List.mem_cons_self).2;have hE':∀e ∈ E,e.1≤s∧e.2≤s:=fun e he=>hE e (List.mem_cons_of_mem _ he);have ih:=qO s E ρ h hE';simp only[qJ]
  by_cases hab:ρ a=ρ b
  ·rw[if_pos hab,Nat.add_zero,ih];refine⟨fun hu f hf he i hi=>hu f hf (fun e h1=>he e (List.mem_cons_of_mem _ h1)) i hi,fun hu f hf he i hi=>hu f hf (fun e h1=>?_) i hi⟩;rcases List.mem_cons.1 h1 with rfl|h1
   ·show f a=f b
    rw[hf a,hf b,hab]
   ·exact he e h1
  ·rw[if_neg hab];have hR:=h.step ha hb hab;have ih2:=qO s E _ hR hE';have conn:∀f:Nat→Bool,(∀i,f i=f ((if ρ a=s then mg ρ (ρ b) (ρ a) else mg ρ (ρ a) (ρ b)) i))↔(∀i,f i=f (ρ i))∧f a=f b:=fun f=>by
    by_cases hs:ρ a=s
    ·simp only[if_pos hs];rw[Ai (h.idem b) (h.idem a)];refine⟨fun g=>⟨g.1,by rw[g.1 a,g.1 b,g.2]⟩,fun g=>⟨g.1,by rw[←g.1 a,←g.1 b,g.2]⟩⟩
    ·simp only[if_neg hs];rw[Ai (h.idem a) (h.idem b)];refine⟨fun g=>⟨g.1,by rw[g.1 a,g.1 b,g.2]⟩,fun g=>⟨g.1,by rw[←g.1 a,←g.1 b,g.2]⟩⟩
   have e2:GN s (if ρ a=s then mg ρ (ρ b) (ρ a) else mg ρ (ρ a) (ρ b)) E↔GN s ρ ((a,b)::E):=by
    refine⟨fun hu f hf he i hi=>hu f ((conn f).2 ⟨hf,he (a,b) List.mem_cons_self⟩) (fun e h1=>he e (List.mem_cons_of_mem _ h1)) i hi,fun hu f hf he i hi=>?_⟩;obtain⟨g1,g2⟩:=(conn f).1 hf;refine hu f g1 (fun e h1=>?_) i hi;rcases List.mem_cons.1 h1 with rfl|h1
    ·exact g2
    ·exact he e h1
   rw[←e2,←ih2];constructor
   ·intro h0
    by_cases h1:0<qJ s ρ E
    ·refine ih2.2 (e2.2 fun f hf he i hi=>ih.1 h1 f hf (fun e h2=>he e (List.mem_cons_of_mem _ h2)) i hi)
    ·omega
   ·intro h0; omega
def xD (k i:Nat):Nat:=if i<k then i else k
def jD (φ:Nat→Nat) (E:List (Nat × Nat)):List (Nat × Nat):=E.map fun e=>(φ e.1,φ e.2)
theorem vS (φ:Nat→Nat) (i j:Nat):∀E,jt φ E i j=kM (fun i=>i) (jD φ E) i j
 | []=>by simp[jt,kM,uu,jD]
 | e::E=>by
  have:=vS φ i j E;simp only[kM,uu,jD,List.map_cons,jt,dl,if_true] at this ⊢;omega
theorem Cl (φ:Nat→Nat) {k i j:Nat} (hi:i<k) (hj:j<k):∀E,jt φ E i j=jt (fun v=>xD k (φ v)) E i j
 | []=>rfl
 | e::E=>by
  have key:∀i,i<k→dl φ e i=dl (fun v=>xD k (φ v)) e i:=fun i hi=>by
   have h1:∀v,(i=xD k (φ v))=(i=φ v):=fun v=>propext (by unfold xD; split<;>omega)
   unfold dl;simp only[h1]
  simp only[jt];rw[Cl φ hi hj E,key i hi,key j hj]
theorem oW (k i:Nat):xD k i≤k:=by unfold xD; split<;>omega
theorem rP (φ:Nat→Nat) (E:List (Nat × Nat)) (k:Nat):cK k (jt φ E)=(qJ k (fun i=>i) (jD (fun v=>xD k (φ v)) E):Int):=by
 rw[←qm (jD (fun v=>xD k (φ v)) E) (fun i=>i) (fun _=>rfl) rfl fun e he=>?_]
 ·refine bM fun r c hr hc=>?_;rw[Cl φ hr hc,vS]
 ·unfold jD at he;obtain⟨e',_,rfl⟩:=List.mem_map.1 he;exact⟨oW _ _,oW _ _⟩
theorem Ce (φ:Nat→Nat) (E:List (Nat × Nat)) (s:Nat) (h:∀e ∈ E,φ e.1≤s∧φ e.2≤s):cK s (jt φ E)=(qJ s (fun i=>i) (jD φ E):Int):=by
 rw[←qm (jD φ E) (fun i=>i) (fun _=>rfl) rfl fun e he=>?_]
 ·exact bM fun r c _ _=>vS _ _ _ _
 ·unfold jD at he;obtain⟨e',h1,rfl⟩:=List.mem_map.1 he;exact h e' h1
theorem xQ (φ:Nat→Nat) (E:List (Nat × Nat)) (s:Nat) (h:∀e ∈ E,φ e.1≤s∧φ e.2≤s) {k:Nat} (hk:k<s) (h0:cK (k+1) (jt φ E)=0):cK s (jt φ E)=0:=by
 rw[Ce φ E s h];rw[rP] at h0;refine Int.natCast_eq_zero.2 (Nat.eq_zero_of_not_pos fun hp=>?_);have hs:∀e ∈ jD φ E,e.1≤s∧e.2≤s:=fun e he=>by
  obtain⟨e',h1,rfl⟩:=List.mem_map.1 he;exact h e' h1
 have hk':∀e ∈ jD (fun v=>xD (k+1) (φ v)) E,e.1≤k+1∧e.2≤k+1:=fun e he=>by
  obtain⟨e',_,rfl⟩:=List.mem_map.1 he;exact⟨oW _ _,oW _ _⟩
 have hu:=(qO s _ _ (Rho.id s) hs).1 hp;have hz:0<qJ (k+1) (fun i=>i) (jD (fun v=>xD (k+1) (φ v)) E):=by
  refine(qO (k+1) _ _ (Rho.id _) hk').2 fun f hf he i hi=>?_;have h1:=fun j hj=>hu (fun j=>f (xD (k+1) j)) (fun _=>rfl) (fun e h2=>?_) j hj
  ·have c1:xD (k+1) s=k+1:=by unfold xD; rw[if_neg (by omega)]
   have h2:=h1 i (by omega)
   rw[c1] at h2
   by_cases hik:i=k+1
   ·rw[hik]
   ·have c2:xD (k+1) i=i:=by unfold xD; rw[if_pos (by omega)]
    rwa[c2] at h2
  ·obtain⟨e',h3,rfl⟩:=List.mem_map.1 h2;exact he (xD (k+1) (φ e'.1),xD (k+1) (φ e'.2)) (List.mem_map.2 ⟨e',h3,rfl⟩)
 omega
theorem KU (φ:Nat→Nat) (E:List (Nat × Nat)) (s:Nat) (h:∀e ∈ E,φ e.1≤s∧φ e.2≤s):Lj s 0 (jt φ E) 1=(qJ s (fun i=>i) (jD φ E):Int):=by
 rw[←Ce φ E s h];exact Cc (fun k hk h0=>xQ φ E s h hk h0) s 0 _ 1 (Nat.add_zero _) (Bar.start _ _)
def Nb (E:List (Nat × Nat)) (x y:Nat):Prop:=(x,y) ∈ E∨(y,x) ∈ E
inductive Cn (E:List (Nat × Nat)) (i:Nat):Nat→Prop
 | refl:Cn E i i
 | step {j k:Nat}:Cn E i j→Nb E j k→Cn E i k
section
variable {E E' : List (Nat × Nat)} {i j k x y : Nat}
theorem Nb.symm (h:Nb E x y):Nb E y x:=h.elim .inr .inl
theorem Cn.trans (h:Cn E i j) (h':Cn E j k):Cn E i k:=by
 induction h' with
 | refl=>exact h
 | step _ a ih=>exact .step ih a
theorem Cn.one (h:Nb E x y):Cn E x y:=.step .refl h
theorem Cn.symm (h:Cn E i j):Cn E j i:=by
 induction h with
 | refl=>exact .refl
 | step _ a ih=>exact(Cn.one a.symm).trans ih
theorem Nb.mono (hs:∀e ∈ E,e ∈ E') (h:Nb E x y):Nb E' x y:=h.elim (fun h=>.inl (hs _ h)) fun h=>.inr (hs _ h)
theorem Cn.mono (hs:∀e ∈ E,e ∈ E') (h:Cn E i j):Cn E' i j:=by
 induction h with
 | refl=>exact .refl
 | step _ a ih=>exact .step ih (a.mono hs)
theorem Cn.closed {Q:Nat→Prop} (h:Cn E i j) (hi:Q i) (hc:∀x y,Q x→Nb E x y→Q y):Q j:=by
 induction h with
 | refl=>exact hi
 | step _ a ih=>exact hc _ _ ih a
theorem LQ:Cn [] i j↔i=j:=⟨fun h=>h.closed (Q:=fun j=>i=j) rfl fun _ _ _ h=>by rcases h with h|h<;>simp at h,fun h=>h ▸ .refl⟩
theorem Km {a b:Nat}:Cn ((a,b)::E) i j↔Cn E i j∨(Cn E i a∧Cn E b j)∨(Cn E i b∧Cn E a j):=by
 constructor
 ·intro h;refine h.closed (Q:=fun j=>Cn E i j∨(Cn E i a∧Cn E b j)∨(Cn E i b∧Cn E a j)) (.inl .refl) fun x y hx hn=>?_;have old:Nb E x y→Cn E i y∨(Cn E i a∧Cn E b y)∨(Cn E i b∧Cn E a y):=fun hn=>by
   rcases hx with h|⟨h1,h2⟩|⟨h1,h2⟩
   ·exact .inl (.step h hn)
   ·exact .inr (.inl ⟨h1,.step h2 hn⟩)
   ·exact .inr (.inr ⟨h1,.step h2 hn⟩)
  rcases hn with hn|hn
  ·rcases List.mem_cons.1 hn with e|hn
   ·cases e;rcases hx with h|⟨h1,h2⟩|⟨h1,h2⟩
    ·exact .inr (.inl ⟨h,.refl⟩)
    ·exact .inr (.inl ⟨h1,.refl⟩)
    ·exact .inl h1
   ·exact old (.inl hn)
  ·rcases List.mem_cons.1 hn with e|hn
   ·cases e;rcases hx with h|⟨h1,h2⟩|⟨h1,h2⟩
    ·exact .inr (.inr ⟨h,.refl⟩)
    ·exact .inl h1
    ·exact .inr (.inr ⟨h1,.refl⟩)
   ·exact old (.inr hn)
 ·have up:∀{x y},Cn E x y→Cn ((a,b)::E) x y:=fun h=>h.mono fun e he=>by simp[he]
  have ab:Cn ((a,b)::E) a b:=.one (.inl (by simp))
  rintro(h|⟨h1,h2⟩|⟨h1,h2⟩)
  ·exact up h
  ·exact((up h1).trans ab).trans (up h2)
  ·exact((up h1).trans ab.symm).trans (up h2)
theorem KW (h:∀e,e ∈ E↔e ∈ E'):Cn E i j↔Cn E' i j:=⟨fun g=>g.mono fun e he=>(h e).1 he,fun g=>g.mono fun e he=>(h e).2 he⟩
def bh (r:Nat→Nat) (e:Nat × Nat):Nat→Nat:=fun x=>if r x=max (r e.1) (r e.2) then min (r e.1) (r e.2) else r x
structure Rt (r:Nat→Nat) (E:List (Nat × Nat)):Prop where
 le:∀x,r x≤x
 rr:∀x,r (r x)=r x
 cn:∀x y,r x=r y↔Cn E x y
theorem Rt.id:Rt (fun x=>x) []:=⟨fun _=>Nat.le_refl _,fun _=>rfl,fun _ _=>LQ.symm⟩
theorem e6 {r:Nat→Nat} {e:Nat × Nat} (h:r e.1=r e.2):bh r e=r:=by
 funext x
 simp only[bh,h,Nat.max_self,Nat.min_self]
 split
 ·rename_i h; exact h.symm
 ·rfl
theorem Rt.join {r:Nat→Nat} (h:Rt r E) (e:Nat × Nat):Rt (bh r e) (e::E):=by
 obtain⟨a,b⟩:=e;have hmin:∀x,bh r (a,b) x≤r x:=fun x=>by
  simp only[bh]; split<;>omega
 have hm1:r (min (r a) (r b))=min (r a) (r b):=by
  rcases Nat.le_total (r a) (r b) with h1|h1
  ·rw[Nat.min_eq_left h1,h.rr]
  ·rw[Nat.min_eq_right h1,h.rr]
 refine⟨fun x=>Nat.le_trans (hmin x) (h.le x),fun x=>?_,fun x y=>?_⟩
 ·simp only[bh]
  by_cases h1:r x=max (r a) (r b)
  ·rw[if_pos h1,hm1]
   split<;>omega
  ·rw[if_neg h1,h.rr,if_neg h1]
 ·rw[Km,←h.cn,←h.cn,←h.cn,←h.cn,←h.cn];simp only[bh];have h2:max (r a) (r b)=r a∧min (r a) (r b)=r b∨max (r a) (r b)=r b∧min (r a) (r b)=r a:=by omega
  split<;>split<;>omega
theorem Rt.PS:∀{T E:List (Nat × Nat)} {r:Nat→Nat},Rt r E→Rt (T.foldl bh r) (T.reverse++E):=by
 intro T
 induction T with
 | nil=>intro E r h; exact h
 | cons e T ih =>
  intro E r h;have:=ih (h.join e);rwa[List.foldl_cons,List.reverse_cons,List.append_assoc]
def rep (T:List (Nat × Nat)):Nat→Nat:=T.foldl bh (fun x=>x)
theorem vK (T:List (Nat × Nat)):Rt (rep T) T.reverse:=by
 have:=Rt.PS (T:=T) Rt.id;rwa[List.append_nil] at this
theorem FC {T:List (Nat × Nat)}:rep T x=rep T y↔Cn T x y:=((vK T).cn x y).trans (KW fun _=>List.mem_reverse)
def jv (V:List Nat) (r:Nat→Nat):Nat:=(V.filter fun v=>r v == v).length
theorem fe {p q:Nat→Bool} {a:Nat}:∀{V:List Nat},V.Nodup→a ∈ V→p a=true→(∀v,q v=true↔p v=true∧v≠a)→(V.filter p).length=(V.filter q).length+1:=by
 intro V
 induction V with
 | nil=>intro _ h; cases h
 | cons v V ih =>
  intro hn ha hp hq;rw[List.nodup_cons] at hn
  by_cases e:v=a
  ·subst e;have hqa:q v=false:=by
    cases h:q v with
    | false=>rfl
    | true=>exact absurd rfl ((hq v).1 h).2
   rw[List.filter_cons_of_pos hp,List.filter_cons_of_neg (by simp[hqa]),List.length_cons]
   congr 2
   refine List.filter_congr fun x hx=>?_;have hne:x≠v:=fun e=>hn.1 (e ▸ hx);have:=hq x;cases h1:p x<;>cases h2:q x<;>simp_all
  ·have ha':a ∈ V:=by rcases List.mem_cons.1 ha with h|h; exact absurd h.symm e; exact h
   have:=ih hn.2 ha' hp hq;have hv:q v=p v:=by
    have:=hq v;cases h1:p v<;>cases h2:q v<;>simp_all
   by_cases h1:p v=true
   ·rw[List.filter_cons_of_pos h1,List.filter_cons_of_pos (by rw[hv]; exact h1),List.length_cons,List.length_cons,this]
   ·rw[List.filter_cons_of_neg h1,List.filter_cons_of_neg (by rw[hv]; exact h1),this]
theorem A7 {V:List Nat} {r:Nat→Nat} {e:Nat × Nat} (hV:V.Nodup) (hr:∀x,r (r x)=r x) (h1:r e.1 ∈ V) (h2:r e.2 ∈ V) (hne:r e.1≠r e.2):jv V r=jv V (bh r e)+1:=by
 have hm:max (r e.1) (r e.2) ∈ V:=by
  rcases Nat.le_total (r e.1) (r e.2) with h|h
  ·rwa[Nat.max_eq_right h]
  ·rwa[Nat.max_eq_left h]
 have hrm:r (max (r e.1) (r e.2))=max (r e.1) (r e.2):=by
  rcases Nat.le_total (r e.1) (r e.2) with h|h
  ·rw[Nat.max_eq_right h,hr]
  ·rw[Nat.max_eq_left h,hr]
 refine fe (a:=max (r e.1) (r e.2)) hV hm (by simp only[beq_iff_eq]; exact hrm) fun v=>?_
 simp only[beq_iff_eq,bh];constructor
 ·intro h
  split at h
  ·rename_i h3;exfalso;have h4:r v=v:=by rw[←h] at h3 ⊢; rcases Nat.le_total (r e.1) (r e.2) with h|h<;>simp only[Nat.min_eq_left h,Nat.min_eq_right h,hr]
   omega
  ·rename_i h3; exact⟨h,fun e=>h3 (by rw[e,hrm])⟩
 ·rintro⟨h,h3⟩;rw[if_neg (by rw[h]; exact h3)]; exact h
def iI (r:Nat→Nat):List (Nat × Nat)→Nat
 | []=>0
 | e::T=>(if r e.1=r e.2 then 0 else 1)+iI (bh r e) T
def bX (r:Nat→Nat):List (Nat × Nat)→Bool
 | []=>true
 | e::T=>!(r e.1 == r e.2) && bX (bh r e) T
theorem oq:∀(T:List (Nat × Nat)) (r:Nat→Nat),iI r T≤T.length
 | [],_=>Nat.le_refl _
 | e::T,r=>by
  have:=oq T (bh r e);simp only[iI,List.length_cons]
  split<;>omega
theorem py:∀(T:List (Nat × Nat)) (r:Nat→Nat),iI r T=T.length↔bX r T=true
 | [],_=>by simp[iI,bX]
 | e::T,r=>by
  have h1:=oq T (bh r e);have h2:=py T (bh r e);simp only[iI,List.length_cons,bX,Bool.and_eq_true,Bool.not_eq_true',beq_eq_false_iff_ne,ne_eq]
  by_cases h:r e.1=r e.2
  ·rw[if_pos h]; simp[h]; omega
  ·rw[if_neg h,←h2]; simp[h]; omega
theorem pJ {V:List Nat} (hV:V.Nodup):∀(T:List (Nat × Nat)) {E:List (Nat × Nat)} {r:Nat→Nat},Rt r E→(∀x ∈ V,r x ∈ V)→(∀e ∈ T,e.1 ∈ V∧e.2 ∈ V)→jv V r=jv V (T.foldl bh r)+iI r T∧∀x ∈ V,T.foldl bh r x ∈ V
 | [],_,_,_,hv,_=>⟨rfl,hv⟩
 | e::T,E,r,h,hv,ht=>by
  have he:=ht e (by simp)
  have hv':∀x ∈ V,bh r e x ∈ V:=fun x hx=>by
   simp only[bh]
   split
   ·rcases Nat.le_total (r e.1) (r e.2) with h|h
    ·rw[Nat.min_eq_left h]; exact hv _ he.1
    ·rw[Nat.min_eq_right h]; exact hv _ he.2
   ·exact hv x hx
  have ih:=pJ hV T (h.join e) hv' fun e he=>ht e (by simp[he])
  refine⟨?_,ih.2⟩;rw[List.foldl_cons];simp only[iI]
  by_cases hne:r e.1=r e.2
  ·rw[if_pos hne,Nat.zero_add,←ih.1,e6 hne]
  ·rw[if_neg hne,A7 hV h.rr (hv _ he.1) (hv _ he.2) hne,ih.1]; omega
theorem F5 (V:List Nat):jv V (fun x=>x)=V.length:=by simp[jv]
theorem fj {V:List Nat} (hV:V.Nodup) {T:List (Nat × Nat)} (ht:∀e ∈ T,e.1 ∈ V∧e.2 ∈ V):V.length=jv V (rep T)+iI (fun x=>x) T∧∀x ∈ V,rep T x ∈ V:=by
 have:=pJ hV T Rt.id (fun x h=>h) ht;rwa[F5] at this
theorem tI {p:Nat→Bool}:∀{V:List Nat},V.Nodup→(∀i j,i ∈ V→j ∈ V→p i=true→p j=true→i=j)→(V.filter p).length≤1:=by
 intro V
 induction V with
 | nil=>intro _ _; exact Nat.zero_le _
 | cons v V ih =>
  intro hn h;rw[List.nodup_cons] at hn
  by_cases hp:p v=true
  ·rw[List.filter_cons_of_pos hp];have:V.filter p = []:=List.filter_eq_nil_iff.2 fun x hx hpx=>hn.1 ((h v x (by simp) (by simp[hx]) hp hpx) ▸ hx)
   rw[this]; exact Nat.le_refl _
  ·rw[List.filter_cons_of_neg hp];exact ih hn.2 fun i j hi hj=>h i j (by simp[hi]) (by simp[hj])
theorem mc {V:List Nat} (hV:V.Nodup) {T:List (Nat × Nat)} (ht:∀e ∈ T,e.1 ∈ V∧e.2 ∈ V):jv V (rep T)≤1↔∀x ∈ V,∀y ∈ V,Cn T x y:=by
 have hr:=vK T;have hv:=(fj hV ht).2;constructor
 ·intro h x hx y hy;rw[←FC];have hmem:∀z ∈ V,rep T z ∈ V.filter fun v=>rep T v == v:=fun z hz=>List.mem_filter.2 ⟨hv z hz,by simp only[beq_iff_eq]; exact hr.rr z⟩
  have one:∀{l:List Nat} {a b:Nat},l.length≤1→a ∈ l→b ∈ l→a=b:=by
   intro l a b hl ha hb
   match l with
   | []=>cases ha
   | [c]=>rw[List.mem_singleton.1 ha,List.mem_singleton.1 hb]
   | _::_::_=>simp at hl
  exact one h (hmem x hx) (hmem y hy)
 ·intro h;refine tI hV fun i j hi hj h1 h2=>?_;have:=FC.2 (h i hi j hj);rw[←eq_of_beq h1,←eq_of_beq h2,this]
theorem D8 {V:List Nat} (hV:V.Nodup) {T:List (Nat × Nat)} (ht:∀e ∈ T,e.1 ∈ V∧e.2 ∈ V) {x:Nat} (hx:x ∈ V):0<jv V (rep T) :=
 List.length_pos_of_mem (List.mem_filter.2 ⟨(fj hV ht).2 x hx,by simp only[beq_iff_eq]; exact(vK T).rr x⟩)
theorem Gs {V:List Nat} (hV:V.Nodup) {T:List (Nat × Nat)} (ht:∀e ∈ T,e.1 ∈ V∧e.2 ∈ V) {x:Nat} (hx:x ∈ V) (hl:T.length+1=V.length):bX (fun x=>x) T=true↔∀y ∈ V,Cn T x y:=by
 have h1:=(fj hV ht).1;have h2:=oq T fun x=>x;have h3:=D8 hV ht hx;rw[←py];have:jv V (rep T)≤1↔∀y ∈ V,Cn T x y:=(mc hV ht).trans ⟨fun h y hy=>h x hx y hy,fun h y hy z hz=>(h y hy).symm.trans (h z hz)⟩;rw[←this];omega
end
end Go.Ab.T30
end

section
namespace Go.Ab.W
open Go Go.Ab
theorem MV:uM .u64=2 ^ 64:=rfl
theorem eQ {a:Nat} (h:a<2 ^ 64):uw .u64 a=a:=Nat.mod_eq_of_lt h
theorem mu {a:Nat} (h:a<2 ^ 64) {i:Nat} (hi:a.testBit i=true):i<64:=by
 rcases Nat.lt_or_ge i 64 with h1|h1
 ·exact h1
 ·have:a<2 ^ i:=Nat.lt_of_lt_of_le h (Nat.pow_le_pow_right (by decide) h1)
  rw[Nat.testBit_lt_two_pow this] at hi; cases hi
theorem ik {a b:Nat} (ha:a<2 ^ 64) (hb:b<2 ^ 64):uw .u64 (uw .u64 a &&& uw .u64 b)=a &&& b:=by
 rw[eQ ha,eQ hb,eQ (Nat.lt_of_le_of_lt Nat.and_le_left ha)]
theorem lY {a b:Nat} (ha:a<2 ^ 64) (hb:b<2 ^ 64):uw .u64 (uw .u64 a ||| uw .u64 b)=a ||| b:=by
 rw[eQ ha,eQ hb,eQ (Nat.or_lt_two_pow ha hb)]
theorem iO {a b:Nat} (ha:a<2 ^ 64):a &&& b<2 ^ 64:=Nat.lt_of_le_of_lt Nat.and_le_left ha
theorem oN {a b:Nat} (ha:a<2 ^ 64) (hb:b<2 ^ 64):a ||| b<2 ^ 64:=Nat.or_lt_two_pow ha hb
theorem uG {a b:Nat} (ha:a<2 ^ 64) (hb:b<2 ^ 64):iJ .u64 a b=a ^^^ (a &&& b):=by
 unfold iJ;rw[eQ ha,eQ hb,eQ (Nat.xor_lt_two_pow ha (iO ha))]
theorem oa {a b:Nat} (ha:a<2 ^ 64) (hb:b<2 ^ 64) (i:Nat):(iJ .u64 a b).testBit i=(a.testBit i && !b.testBit i):=by
 rw[uG ha hb,Nat.testBit_xor,Nat.testBit_and];cases a.testBit i<;>cases b.testBit i<;>rfl
theorem JU {a b:Nat} (ha:a<2 ^ 64) (hb:b<2 ^ 64):iJ .u64 a b<2 ^ 64:=by
 rw[uG ha hb]; exact Nat.xor_lt_two_pow ha (iO ha)
theorem kW {k:Nat} (h:k<64):bY .u64 1 k=2 ^ k:=by
 unfold bY;rw[Nat.min_eq_left (Nat.le_of_lt (show k<IntKind.bits .u64 from h)),Nat.one_mul]
 exact eQ (Nat.pow_lt_pow_right (by decide) h)
theorem lj {k:Nat} (h:k<64):2 ^ k<2 ^ 64:=Nat.pow_lt_pow_right (by decide) h
theorem pb (k i:Nat):(2 ^ k).testBit i=decide (i=k):=by
 rw[Nat.testBit_two_pow]
 by_cases h:k=i
 ·simp[h]
 ·simp[h,Ne.symm h]
theorem gm {a k:Nat} (h:k≤64):bL .u64 a k=a >>> k:=by
 unfold bL;rw[Nat.min_eq_left (show k≤IntKind.bits .u64 from h),Nat.shiftRight_eq_div_pow]
theorem vN {a k:Nat} (ha:a<2 ^ 64) (h:k≤64):decide (uw .u64 (uw .u64 (bL .u64 a k) &&& uw .u64 1)=1)=a.testBit k:=by
 have hs:a >>> k<2 ^ 64:=Nat.lt_of_le_of_lt (by rw[Nat.shiftRight_eq_div_pow]; exact Nat.div_le_self _ _) ha
 rw[gm h,ik hs (by decide),Nat.testBit]
 rw[Nat.and_comm];have h2:1 &&& a >>> k=(a >>> k)%2:=by rw[Nat.and_comm,Nat.and_one_is_mod]
 rw[h2];rcases Nat.mod_two_eq_zero_or_one (a >>> k) with h3|h3<;>rw[h3]<;>rfl
theorem zh {a b:Nat} (h:∀i,a.testBit i=true↔b.testBit i=true):a=b:=Nat.eq_of_testBit_eq fun i=>by
 have:=h i;cases ha:a.testBit i<;>cases hb:b.testBit i<;>simp_all
theorem DV {a:Nat}:a=0↔∀i,a.testBit i=false:=⟨fun h=>by subst h; exact fun i=>Nat.zero_testBit i,fun h=>Nat.eq_of_testBit_eq fun i=>by rw[h,Nat.zero_testBit]⟩
theorem fQ {x:Nat} (h0:0<x) (h1:x<2 ^ 64):x.testBit (tz x)=true∧∀i,i<tz x→x.testBit i=false:=by
 obtain⟨h2,_,q,hq⟩:=kQ h0 h1;have key:∀i,x.testBit i=(decide (tz x≤i) && (2*q+1).testBit (i-tz x)):=fun i=>by
  conv=>lhs; rw[hq]
  rw[Nat.testBit_two_pow_mul]
 refine⟨?_,fun i hi=>?_⟩
 ·rw[key,Nat.sub_self];simp[Nat.testBit_zero]
 ·rw[key,decide_eq_false (by omega)]; rfl
theorem IA {x:Nat} (h0:0<x) (h1:x<2 ^ 64):uw .u64 (uw .u64 x &&& uw .u64 (AE .u64 x))=2 ^ tz x:=by
 obtain⟨h2,h3,_⟩:=kQ h0 h1;have hn:AE .u64 x=2 ^ 64-x:=by
  unfold AE;rw[eQ h1,MV,eQ (by omega)]
 rw[hn,ik h1 (by omega),h3]
def xC (x:Nat):Nat:=uw .u64 (uw .u64 x &&& uw .u64 (cA .u64 x 1))
theorem Fa {x:Nat} (h0:0<x) (h1:x<2 ^ 64):xC x=x &&& (x-1):=by
 have:cA .u64 x 1=x-1:=by
  unfold cA;rw[MV,eQ (show(1:Nat)<2 ^ 64 by decide)]
  show(x+(2 ^ 64-1))%2 ^ 64=x-1
  omega
 unfold xC;rw[this,ik h1 (by omega)]
theorem Ii (t q i:Nat):(2 ^ t*(2*q+1)-1).testBit i=if i<t then true else if i=t then false else(2 ^ t*(2*q+1)).testBit i:=by
 have e:2 ^ t*(2*q+1)-1=2 ^ t*(2*q)+(2 ^ t-1):=by
  rw[Nat.mul_add,Nat.mul_one];have:=Nat.two_pow_pos t;omega
 rw[e,Nat.testBit_two_pow_mul_add _ (by have:=Nat.two_pow_pos t; omega)]
 by_cases h:i<t
 ·rw[if_pos h,if_pos h,Nat.testBit_two_pow_sub_one]; simp[h]
 ·rw[if_neg h,if_neg h]
  by_cases h':i=t
  ·subst h'; simp[Nat.testBit_zero]
  ·rw[if_neg h',Nat.testBit_two_pow_mul];obtain⟨d,hd⟩:∃d,i-t=d+1:=⟨i-t-1,by omega⟩
   rw[hd,Nat.testBit_succ,Nat.testBit_succ];have:(2*q+1)/2=2*q/2:=by omega
   rw[this];simp; omega
theorem j4 {x:Nat} (h0:0<x) (h1:x<2 ^ 64) (i:Nat):(xC x).testBit i=(x.testBit i && !decide (i=tz x)):=by
 rw[Fa h0 h1,Nat.testBit_and];obtain⟨_,_,q,hq⟩:=kQ h0 h1;obtain⟨hb,hl⟩:=fQ h0 h1;have:=Ii (tz x) q i;rw[←hq] at this;rw[this]
 by_cases h:i<tz x
 ·rw[hl i h]; rfl
 ·rw[if_neg h]
  by_cases h':i=tz x
  ·simp[h']
  ·simp[h']
theorem Fz {x:Nat} (h0:0<x) (h1:x<2 ^ 64):xC x<2 ^ 64:=by rw[Fa h0 h1]; exact iO h1
def bitsOf (x:Nat):List Nat:=(List.range 64).filter fun i=>x.testBit i
theorem ti {x i:Nat} (h:x<2 ^ 64):i ∈ bitsOf x↔x.testBit i=true:=by
 unfold bitsOf;rw[List.mem_filter,List.mem_range];exact⟨fun h=>h.2,fun hi=>⟨mu h hi,hi⟩⟩
theorem iw (x:Nat):(bitsOf x).length≤64:=by
 unfold bitsOf;exact Nat.le_trans (List.length_filter_le _ _) (by simp)
theorem xL:bitsOf 0 = []:=by
 unfold bitsOf;simp
theorem iT (p q:Nat→Bool) (t:Nat):∀(n s:Nat),s≤t→t<s+n→p t=true→(∀i,s≤i→i<t→p i=false)→(∀i,t<i→p i=q i)→(∀i,s≤i→i≤t→q i=false) →
  (List.range' s n).filter p=t::(List.range' s n).filter q
 | 0,s,h1,h2,_,_,_,_=>by omega
 | n+1,s,h1,h2,hp,hl,hg,hq=>by
  rw[List.range'_succ]
  by_cases h:s=t
  ·subst h;rw[List.filter_cons_of_pos hp,List.filter_cons_of_neg (by rw[hq s (Nat.le_refl _) (Nat.le_refl _)]; decide)]
   congr 1
   apply List.filter_congr;intro i hi;rw[List.mem_range'_1] at hi;exact hg i (by omega)
  ·rw[List.filter_cons_of_neg (by rw[hl s (Nat.le_refl _) (by omega)]; decide),List.filter_cons_of_neg (by rw[hq s (Nat.le_refl _) (by omega)]; decide)]
   exact iT p q t n (s+1) (by omega) (by omega) hp (fun i a b=>hl i (by omega) b) hg (fun i a b=>hq i (by omega) b)
theorem k6 {x:Nat} (h0:0<x) (h1:x<2 ^ 64):bitsOf x=tz x::bitsOf (xC x):=by
 obtain⟨hb,hl⟩:=fQ h0 h1;unfold bitsOf;rw[List.range_eq_range'];refine iT _ _ (tz x) 64 0 (Nat.zero_le _) (by have:=(kQ h0 h1).1; omega) hb (fun i _ h=>hl i h) (fun i h=>?_) (fun i _ h=>?_)
 ·show x.testBit i=(xC x).testBit i
  rw[j4 h0 h1];have:i≠tz x:=by omega
  simp[this]
 ·show(xC x).testBit i=false
  rw[j4 h0 h1]
  by_cases e:i=tz x
  ·simp[e]
  ·rw[hl i (by omega)]; rfl
section
variable {σ ρ τ : Type}
theorem IZ {body:τ→Option (τ ⊕ ρ)} (mk:Nat→σ→τ) (step:σ→Nat→σ) (fin:σ→ρ) (I:σ→Prop) (x0:Nat)
  (hs:∀r s,0<r→r<2 ^ 64→x0.testBit (tz r)=true→I s→body (mk r s)=some (.inl (mk (xC r) (step s (tz r))))∧I (step s (tz r))) (he:∀s,I s→body (mk 0 s)=some (.inr (fin s))) :
  ∀(n:Nat) (r:Nat) (s:σ),r<2 ^ 64→(∀i,r.testBit i=true→x0.testBit i=true)→I s→(bitsOf r).length<n→bV body n (mk r s)=some (fin ((bitsOf r).foldl step s)):=by
 intro n
 induction n with
 | zero=>intro r s _ _ _ h; exact absurd h (Nat.not_lt_zero _)
 | succ n ih =>
  intro r s hr hx hI hn;rcases Nat.eq_zero_or_pos r with h0|h0
  ·subst h0;rw[xL];simp only[bV,he s hI,List.foldl_nil]
  ·obtain⟨h1,h2⟩:=hs r s h0 hr (hx _ (fQ h0 hr).1) hI;rw[k6 h0 hr,List.foldl_cons];simp only[bV,h1];refine ih _ _ (Fz h0 hr) (fun i hi=>hx i ?_) h2 (by rw[k6 h0 hr] at hn; simpa using hn)
   rw[j4 h0 hr] at hi;simp only[Bool.and_eq_true] at hi;exact hi.1
theorem JR {α:Type} {body:τ→Option (τ ⊕ ρ)} (l:List α) (mk:σ→Int→τ) (step:σ→α→σ) (fin:σ→ρ) (I:Nat→σ→Prop)
  (hs:∀s i x,l[i]? = some x→I i s→body (mk s (i:Int))=some (.inl (mk (step s x) ((i+1:Nat):Int)))∧I (i+1) (step s x)) (he:∀s,I l.length s→body (mk s (l.length:Int))=some (.inr (fin s))) :
  ∀(k i n:Nat) (s:σ),i+k=l.length→I i s→k<n→bV body n (mk s (i:Int))=some (fin ((l.drop i).foldl step s))∧I l.length ((l.drop i).foldl step s):=by
 intro k
 induction k with
 | zero =>
  intro i n s hi hI hn;obtain⟨n,rfl⟩:∃n',n=n'+1:=⟨n-1,by omega⟩
  have:i=l.length:=by omega
  subst this;rw[List.drop_length];exact⟨by simp only[bV,he s hI,List.foldl_nil],hI⟩
 | succ k ih =>
  intro i n s hi hI hn;obtain⟨n,rfl⟩:∃n',n=n'+1:=⟨n-1,by omega⟩
  have hlt:i<l.length:=by omega
  obtain⟨h1,h2⟩:=hs s i l[i] (List.getElem?_eq_getElem hlt) hI;rw[List.drop_eq_getElem_cons hlt,List.foldl_cons];simp only[bV,h1];exact ih (i+1) n _ (by omega) h2 (by omega)
theorem zE {α:Type} {body:τ→Option (τ ⊕ ρ)} (l:List α) (mk:σ→Int→τ) (step:σ→α→σ) (fin:σ→ρ) (I:Nat→σ→Prop)
  (hs:∀s i x,l[i]? = some x→I i s→body (mk s (i:Int))=some (.inl (mk (step s x) ((i+1:Nat):Int)))∧I (i+1) (step s x)) (he:∀s,I l.length s→body (mk s (l.length:Int))=some (.inr (fin s)))
  {n:Nat} {s:σ} (hI:I 0 s) (hn:l.length<n):bV body n (mk s 0)=some (fin (l.foldl step s))∧I l.length (l.foldl step s):=by
 have:=JR l mk step fin I hs he l.length 0 n s (by omega) hI hn
 simpa using this
end
theorem yI (f:Nat→Nat):∀(l:List Nat) (s i:Nat),(l.foldl (fun s k=>s ||| f k) s).testBit i=true↔s.testBit i=true∨∃k ∈ l,(f k).testBit i=true
 | [],s,i=>by simp
 | x::l,s,i=>by
  rw[List.foldl_cons,yI f l,Nat.testBit_or,Bool.or_eq_true];simp only[List.mem_cons];constructor
  ·rintro((h|h) | ⟨k,hk,h⟩)
   ·exact .inl h
   ·exact .inr ⟨x,.inl rfl,h⟩
   ·exact .inr ⟨k,.inr hk,h⟩
  ·rintro(h|⟨k,rfl|hk,h⟩)
   ·exact .inl (.inl h)
   ·exact .inl (.inr h)
   ·exact .inr ⟨k,hk,h⟩
theorem pL (f:Nat→Nat):∀(l:List Nat) (s:Nat),s<2 ^ 64→(∀k ∈ l,f k<2 ^ 64)→l.foldl (fun s k=>s ||| f k) s<2 ^ 64
 | [],s,h,_=>h
 | x::l,s,h,hf=>pL f l _ (oN h (hf x (by simp))) fun k hk=>hf k (by simp[hk])
end Go.Ab.W
end

section
namespace Go.Proofs.YtookeaakpiefjaaGreatDoor
open Go Go.Ab Go.Ab.W
section
variable {α β σ ρ : Type}
theorem dI (a b:Option β):br true a b=a:=rfl
theorem dt (a b:Option β):br false a b=b:=rfl
theorem aS (a:Option β):gd true a=a:=rfl
theorem ah (x:α) (f:α→Option β):ob (some x) f=f x:=rfl
theorem aV {p:Prop} [Decidable p] (h:p) (a b:Option β):br (decide p) a b=a:=by rw[decide_eq_true h]; rfl
theorem aO {p:Prop} [Decidable p] (h:¬p) (a b:Option β):br (decide p) a b=b:=by rw[decide_eq_false h]; rfl
theorem vz (c:Bool) (a b:Option β):br c a b=if c then a else b:=by cases c<;>rfl
theorem cq {p:Prop} [Decidable p] (h:p) (a:Option β):gd (decide p) a=a:=by rw[decide_eq_true h]; rfl
theorem aD {i n:Nat} (h:i<n):cg (i:Int) n=true:=decide_eq_true ⟨Int.natCast_nonneg i,by simpa using h⟩
theorem aK {x:Int} (h1 : -9223372036854775808≤x) (h2:x<9223372036854775808):IntKind.wrap .i64 x=x:=wrap_i64 x h1 (by omega)
theorem bt {i:Nat} (h:i<4611686018427387904):IntKind.wrap .i64 ((i:Int)+1)=((i+1:Nat):Int):=by rw[aK (by omega) (by omega)]; rfl
theorem bm {body:σ→Option (σ ⊕ ρ)} {n:Nat} {s s':σ} (h:body s=some (.inl s')):bV body (n+1) s=bV body n s':=by simp only[bV,h]
theorem bH {body:σ→Option (σ ⊕ ρ)} {n:Nat} {s:σ} {r:ρ} (h:body s=some (.inr r)):bV body (n+1) s=some r:=by simp only[bV,h]
end
def lr (N:Int):Int × Int→List (Int × Int)→Bool
 | _,[]=>true
 | p,e::es=>decide (0≤e.1∧e.1<e.2∧e.2<N) && decide (p.1<e.1∨p.1=e.1∧p.2<e.2) && lr N e es
def qU (N:Int) (es:List (Int × Int)):Bool:=decide (1≤N∧N≤64∧es.length≤200) && lr N (-1,-1) es
def PC (N:Int) (es:List (Int × Int)):Int:=if qU N es then 0 else 180
theorem KN (n:Nat) (x:Int):Ee n x=some false:=by unfold Ee; simp
theorem Dy (n:Nat) (x y:Int):FO n x y=some (if x<y then -1 else if y<x then 1 else 0):=by
 unfold FO;simp only[KN,ah,dt];rw[vz,vz]
 by_cases h:x<y
 ·simp[h]
 ·by_cases h':y<x<;>simp[h,h']
theorem KC (n:Nat) (a b c d:Int) (hn:2<n):HY n [a,b] [c,d]=some (if a<c then -1 else if c<a then 1 else if b<d then -1 else if d<b then 1 else 0):=by
 obtain⟨n,rfl⟩:∃n',n=n'+3:=⟨n-3,by omega⟩
 have L0:ly (n+3) [a,b] [c,d] 0=if a<c then some (.inr (.inl (-1))) else if c<a then some (.inr (.inl 1)) else some (.inl 1):=by
  unfold ly;simp only[List.length_cons,List.length_nil];rw[aV (by decide),show cg 0 (0+1+1)=true by decide,aS]
  simp only[Int.toNat_zero,List.getElem?_cons_zero,ah];rw[aO (by decide),aS]
  simp only[Dy,ah]
  by_cases h:a<c
  ·simp[h,dI]
  ·by_cases h':c<a
   ·simp[h,h',dI]
   ·simp only[h,h',if_false,decide_true,Bool.not_true,dt];rw[aK (by decide) (by decide)]; rfl
 have L1:ly (n+3) [a,b] [c,d] 1=if b<d then some (.inr (.inl (-1))) else if d<b then some (.inr (.inl 1)) else some (.inl 2):=by
  unfold ly;simp only[List.length_cons,List.length_nil];rw[aV (by decide),show cg 1 (0+1+1)=true by decide,aS]
  simp only[show(1:Int).toNat=1 from rfl,List.getElem?_cons_succ,List.getElem?_cons_zero,ah]
  rw[aO (by decide),aS]
  simp only[Dy,ah]
  by_cases h:b<d
  ·simp[h,dI]
  ·by_cases h':d<b
   ·simp[h,h',dI]
   ·simp only[h,h',if_false,decide_true,Bool.not_true,dt];rw[aK (by decide) (by decide)]; rfl
 have L2:ly (n+3) [a,b] [c,d] 2=some (.inr (.inr ())):=by
  unfold ly;simp only[List.length_cons,List.length_nil];rw[aO (by decide)]
 unfold HY
 by_cases h1:a<c
 ·rw[if_pos h1] at L0 ⊢;rw[bH L0]; rfl
 ·rw[if_neg h1] at L0 ⊢
  by_cases h2:c<a
  ·rw[if_pos h2] at L0 ⊢;rw[bH L0]; rfl
  ·rw[if_neg h2] at L0 ⊢;rw[bm L0]
   by_cases h3:b<d
   ·rw[if_pos h3] at L1 ⊢;rw[bH L1]; rfl
   ·rw[if_neg h3] at L1 ⊢
    by_cases h4:d<b
    ·rw[if_pos h4] at L1 ⊢;rw[bH L1]; rfl
    ·rw[if_neg h4] at L1 ⊢;rw[bm L1,bH L2,ah];simp only[List.length_cons,List.length_nil]
     rfl
def df (N:Int) (p e:Int × Int):Bool:=decide (0≤e.1∧e.1<e.2∧e.2<N) && decide (p.1<e.1∨p.1=e.1∧p.2<e.2)
theorem ek (N:Int) (p e:Int × Int) (es:List (Int × Int)):lr N p (e::es)=(df N p e && lr N e es):=rfl
theorem Ez (n:Nat) (l2:List (Int × Int)) (N:Int) (p:Int × Int) (i:Nat) (e:Int × Int) (hn:2<n) (hi:l2[i]? = some e) (hb:i<4611686018427387904) :
  nq n l2 N (p.1,p.2,(i:Int))=if df N p e then some (.inl (e.1,e.2,((i+1:Nat):Int))) else some (.inr (.inl ())):=by
 obtain⟨p1,p2⟩:=p;obtain⟨a,b⟩:=e;have a1:i<l2.length:=(List.getElem?_eq_some_iff.1 hi).1;have e1:l2[((i:Nat):Int).toNat]? = some (a,b):=by simpa using hi
 have c1:decide (((i:Nat):Int)<(l2.length:Int))=true:=decide_eq_true (by omega)
 simp only[nq,c1,dI,aD a1,aS,e1,ah,KC n _ _ _ _ hn,bt hb]
 by_cases h1:a<0
 ·have:df N (p1,p2) (a,b)=false:=by simp[df]; omega
  rw[this,aV h1,ah,dI]; rfl
 ·rw[aO h1]
  by_cases h2:b≤a
  ·have:df N (p1,p2) (a,b)=false:=by simp[df]; omega
   rw[this,aV h2,ah,dI]; rfl
  ·rw[aO h2]
   by_cases h3:N≤b
   ·have:df N (p1,p2) (a,b)=false:=by simp[df]; omega
    rw[this,aV h3,ah,dI]; rfl
   ·rw[aO h3,ah]
    by_cases h4:p1<a∨p1=a∧p2<b
    ·have:df N (p1,p2) (a,b)=true:=by simp[df]; omega
     have h5:¬(0≤(if p1<a then(-1:Int) else if a<p1 then 1 else if p2<b then -1 else if b<p2 then 1 else 0)):=by
      rcases h4 with h4|⟨h4,h5⟩
      ·rw[if_pos h4]; decide
      ·rw[if_neg (by omega),if_neg (by omega),if_pos h5]; decide
     rw[this,aO h5]; rfl
    ·have:df N (p1,p2) (a,b)=false:=by simp[df]; omega
     have h5:0≤(if p1<a then(-1:Int) else if a<p1 then 1 else if p2<b then -1 else if b<p2 then 1 else 0):=by
      rw[if_neg (by omega)]
      by_cases h6:a<p1
      ·rw[if_pos h6]; decide
      ·rw[if_neg h6,if_neg (by omega)]; split<;>decide
     rw[this,aV h5]; rfl
theorem I2 (n0:Nat) (l2:List (Int × Int)) (N:Int) (hn:2<n0) (hl:l2.length<4611686018427387904):∀k i p n,i+k=l2.length→k<n→bV (nq n0 l2 N) n (p.1,p.2,(i:Int))=some (if lr N p (l2.drop i) then .inr () else .inl ()):=by
 intro k
 induction k with
 | zero =>
  intro i p n hi hk;obtain⟨n,rfl⟩:∃n',n=n'+1:=⟨n-1,by omega⟩
  rw[List.drop_of_length_le (by omega)]
  exact bH (by simp only[nq]; rw[aO (by omega)]; rfl)
 | succ k ih =>
  intro i p n hi hk;obtain⟨n,rfl⟩:∃n',n=n'+1:=⟨n-1,by omega⟩
  have a1:i<l2.length:=by omega
  have hs:=Ez n0 l2 N p i l2[i] hn (by simp[a1]) (by omega)
  rw[List.drop_eq_getElem_cons a1,ek]
  by_cases h:df N p l2[i]=true
  ·rw[if_pos h] at hs;rw[bm hs,ih (i+1) l2[i] n (by omega) (by omega),h,Bool.true_and]
  ·rw[if_neg h] at hs;rw[bH hs];simp only[Bool.not_eq_true] at h;rw[h]; rfl
theorem head_eq (N:Int) (len:Nat):(br (decide (N<1)) (some true) (br (decide (64<N)) (some true) (some (decide (200<(len:Int))))))=some (!decide (1≤N∧N≤64∧len≤200)):=by
 rw[vz,vz]
 by_cases h1:N<1
 ·have:¬(1≤N∧N≤64∧len≤200):=by omega
  simp[h1,this]
 ·by_cases h2:64<N
  ·have:¬(1≤N∧N≤64∧len≤200):=by omega
   simp[h1,h2,this]
  ·by_cases h3:200<(len:Int)
   ·have:¬(1≤N∧N≤64∧len≤200):=by omega
    simp only[h1,h2,h3,this,decide_true,decide_false,Bool.false_eq_true,if_false,Bool.not_false]
   ·have:(1≤N∧N≤64∧len≤200):=by omega
    simp only[h1,h2,h3,this,decide_true,decide_false,Bool.false_eq_true,if_false,Bool.not_true,and_self]
theorem CE (n:Nat) (N:Int) (es:List (Int × Int)) (hn:2<n) (hl:es.length<4611686018427387904) (hk:es.length<n):DS n N es=some (PC N es):=by
 unfold DS;rw[head_eq,ah];unfold PC qU
 by_cases h:1≤N∧N≤64∧es.length≤200
 ·rw[decide_eq_true h,Bool.not_true,dt,Bool.true_and];have:=I2 n es N hn hl es.length 0 (-1,-1) n (by omega) hk
  rw[List.drop_zero] at this;rw[show bV (nq n es N) n (-1,-1,0)=_ from this,ah]
  by_cases h2:lr N (-1,-1) es=true
  ·rw[if_pos h2,if_pos h2]
  ·rw[if_neg h2,if_neg h2]
 ·rw[decide_eq_false h,Bool.not_false,dI,Bool.false_and]; rfl
theorem Bj {σ ρ:Type} {body:σ→Option (σ ⊕ ρ)} {R:ρ→Prop} (I:Nat→σ→Prop) (h:∀k s,I k s→(∃s',body s=some (.inl s')∧∃k',k'<k∧I k' s')∨∃r,body s=some (.inr r)∧R r):∀k s n,I k s→k<n→∃r,bV body n s=some r∧R r:=by
 intro k
 induction k using Nat.strongRecOn with
 | _ k ih =>
  intro s n hI hk;obtain⟨n,rfl⟩:∃n',n=n'+1:=⟨n-1,by omega⟩
  rcases h k s hI with⟨s',h1,k',h2,h3⟩|⟨r,h1,h2⟩
  ·obtain⟨r,h4,h5⟩:=ih k' h2 s' n h3 (by omega)
   exact⟨r,by rw[bm h1]; exact h4,h5⟩
  ·exact⟨r,bH h1,h2⟩
theorem hJ {c:Bool} {a b:Option Bool} (ha:c=true→∃x,a=some x) (hb:c=false→∃x,b=some x):∃x,br c a b=some x:=by
 cases c with
 | true=>exact ha rfl
 | false=>exact hb rfl
theorem gK (x:Bool):∃y,some x=some y:=⟨x,rfl⟩
theorem fR {n:Nat} (h:n≤1073741824):mj n=true:=Nat.ble_eq_true_of_le h
theorem Ev (n0:Nat) (l4:List (Nat × Nat)) (N a b:Int) (hN:N≠0) (v:Bool) (n:Nat) (hn:3<n):∃r,bV (xS n0 l4 N a b) n (v,0)=some r:=by
 obtain⟨r,h,_⟩:=Bj (body:=xS n0 l4 N a b) (R:=fun _=>True) (fun k s=>0≤s.2∧s.2+k=3) (fun k s hI=>by
  obtain⟨v,i⟩:=s;obtain⟨h1,h2⟩:=hI;simp only at h1 h2;simp only[xS]
  by_cases c1:i<(l4.length:Int)
  ·rw[aV c1,ah]
   by_cases c2:i<3
   ·rw[decide_eq_true c2,dI];have hb:cg i l4.length=true:=decide_eq_true ⟨h1,by omega⟩
    have hlt:i.toNat<l4.length:=by omega
    have he:l4[i.toNat]? = some l4[i.toNat]:=by simp[hlt]
    rw[hb,aS,he,ah];generalize l4[i.toNat]=e;obtain⟨x,y⟩:=e;simp only[aS];rw[cq hN,cq hN];have:∃z,br v (some true) (br (decide (Int.tmod (IntKind.wrap .i64 ((x:Nat):Int)) N=a)) (br (decide (Int.tmod (IntKind.wrap .i64 ((y:Nat):Int)) N=b)) (some true) (br (decide (Int.tmod (IntKind.wrap .i64 ((x:Nat):Int)) N=b)) (some (decide (Int.tmod (IntKind.wrap .i64 ((y:Nat):Int)) N=a))) (some false))) (br (decide (Int.tmod (IntKind.wrap .i64 ((x:Nat):Int)) N=b)) (some (decide (Int.tmod (IntKind.wrap .i64 ((y:Nat):Int)) N=a))) (some false)))=some z :=
     hJ (fun _=>gK _) fun _=>hJ (fun _=>hJ (fun _=>gK _) fun _=>hJ (fun _=>gK _) fun _=>gK _) fun _=>hJ (fun _=>gK _) fun _=>gK _
    obtain⟨z,hz⟩:=this;refine .inl ⟨(z,i+1),?_,k-1,by omega,by simp only; omega,by simp only; omega⟩
    rw[hz,ah,aK (by omega) (by omega)]
   ·rw[decide_eq_false c2,dt]; exact .inr ⟨v,rfl,trivial⟩
  ·rw[aO c1,ah,dt]; exact .inr ⟨v,rfl,trivial⟩) 3 (v,0) n ⟨by simp,by simp⟩ hn
 exact⟨r,h⟩
def so (es:List (Int × Int)) (i j:Nat):Prop:=((i:Int),(j:Int)) ∈ es∨((j:Int),(i:Int)) ∈ es
theorem Cg {N:Int}:∀{es:List (Int × Int)} {p:Int × Int},lr N p es=true→∀e ∈ es,0≤e.1∧e.1<e.2∧e.2<N
 | [],_,_,e,he=>by cases he
 | x::es,p,h,e,he=>by
  rw[ek,Bool.and_eq_true] at h;rcases List.mem_cons.1 he with rfl|he
  ·simp only[df,Bool.and_eq_true,decide_eq_true_eq] at h;exact h.1.1
  ·exact Cg h.2 e he
structure Okay (N:Nat) (es:List (Int × Int)):Prop where
 pos:1≤N
 le:N≤64
 len:es.length≤200
 mem:∀e ∈ es,∃a b:Nat,e=((a:Int),(b:Int))∧a<b∧b<N
theorem qR {N:Int} {es:List (Int × Int)} (h:qU N es=true):∃M:Nat,N=(M:Int)∧Okay M es:=by
 simp only[qU,Bool.and_eq_true,decide_eq_true_eq] at h;obtain⟨⟨h1,h2,h3⟩,h4⟩:=h;obtain⟨M,rfl⟩:=Int.eq_ofNat_of_zero_le (show 0≤N by omega)
 refine⟨M,rfl,by omega,by omega,h3,fun e he=>?_⟩
 obtain⟨g1,g2,g3⟩:=Cg h4 e he;obtain⟨a,b⟩:=e;obtain⟨a,rfl⟩:=Int.eq_ofNat_of_zero_le (show 0≤a from g1)
 obtain⟨b,rfl⟩:=Int.eq_ofNat_of_zero_le (show 0≤b by simp only at g1 g2; omega)
 exact⟨a,b,rfl,by simp only at g2; omega,by simp only at g3; omega⟩
theorem Okay.so {N:Nat} {es:List (Int × Int)} (h:Okay N es) {i j:Nat} (ha:so es i j):i<N∧j<N∧i≠j:=by
 rcases ha with ha|ha
 ·obtain⟨a,b,e,h1,h2⟩:=h.mem _ ha;simp only[Prod.mk.injEq,Int.natCast_inj] at e;omega
 ·obtain⟨a,b,e,h1,h2⟩:=h.mem _ ha;simp only[Prod.mk.injEq,Int.natCast_inj] at e;omega
def bl (x:Nat):Nat:=if x=0 then 0 else Nat.log2 x+1
theorem lh {x k:Nat}:k<bl x↔2 ^ k≤x:=by
 unfold bl
 by_cases h:x=0
 ·subst h;rw[if_pos rfl];have:=Nat.two_pow_pos k;omega
 ·rw[if_neg h,Nat.lt_succ_iff,Nat.le_log2 h]
theorem D7 {x m:Nat} (h:∀k,k<m↔2 ^ k≤x):m=bl x:=by
 rcases Nat.lt_trichotomy m (bl x) with h1|h1|h1
 ·have:=(h m).2 (lh.1 h1); omega
 ·exact h1
 ·have:=lh.2 ((h (bl x)).1 h1); omega
theorem Ij {x s:Nat} (h:2 ^ s≤x):bl (x >>> s)+s=bl x:=by
 refine D7 fun k=>?_;rw[Nat.shiftRight_eq_div_pow]
 by_cases hk:k<s
 ·have:2 ^ k≤2 ^ s:=Nat.pow_le_pow_right (by decide) (by omega)
  constructor
  ·intro _; omega
  ·intro _; omega
 ·obtain⟨d,rfl⟩:∃d,k=d+s:=⟨k-s,by omega⟩
  have h1:=lh (x:=x/2 ^ s) (k:=d);have h2:2 ^ (d+s)≤x↔2 ^ d≤x/2 ^ s:=by rw[Nat.pow_add,Nat.le_div_iff_mul_le (Nat.two_pow_pos s)]
  rw[h2,←h1]; omega
theorem LP:∀y:Fin 256,fW[y.val]? = some (bl y.val):=by decide +kernel
theorem Ht {x s:Nat} (h:x<2 ^ s):bl x≤s:=by
 rcases Nat.lt_or_ge s (bl x) with h1|h1
 ·have:=lh.1 h1; omega
 ·exact h1
theorem rf (s y m:Nat) (hs:s≤32) (hy:y<2 ^ (2*s)) (hm:m≤64):∃y' m':Nat,br (decide (2 ^ s≤y)) (some (bL .u64 y s,IntKind.wrap .i64 ((m:Int)+(s:Int)))) (some (y,(m:Int)))=some (y',(m':Int))∧y'<2 ^ s∧bl y'+m'=bl y+m∧m'≤m+s:=by
 by_cases h:2 ^ s≤y
 ·refine⟨y >>> s,m+s,?_,?_,?_,Nat.le_refl _⟩
  ·rw[aV h,gm (by omega),aK (by omega) (by omega)]; rfl
  ·rw[Nat.shiftRight_eq_div_pow,Nat.div_lt_iff_lt_mul (Nat.two_pow_pos s),←Nat.pow_add];rw[Nat.two_mul] at hy; exact hy
  ·have:=Ij h; omega
 ·exact⟨y,m,aO h _ _,by omega,rfl,by omega⟩
theorem qk (n x:Nat) (hx:x<2 ^ 64):Bp n x=some ((bl x:Nat):Int):=by
 unfold Bp;obtain⟨y1,m1,e1,h1,b1,g1⟩:=rf 32 x 0 (by omega) hx (by omega)
 have e1':br (decide (4294967296≤x)) (some (bL .u64 x 32,(32:Int))) (some (x,0))=some (y1,(m1:Int)):=e1;rw[e1',ah];obtain⟨y2,m2,e2,h2,b2,g2⟩:=rf 16 y1 m1 (by omega) h1 (by omega)
 have e2':br (decide (65536≤y1)) (some (bL .u64 y1 16,IntKind.wrap .i64 ((m1:Int)+16))) (some (y1,(m1:Int)))=some (y2,(m2:Int)):=e2;simp only[e2',ah];obtain⟨y3,m3,e3,h3,b3,g3⟩:=rf 8 y2 m2 (by omega) h2 (by omega)
 have e3':br (decide (256≤y2)) (some (bL .u64 y2 8,IntKind.wrap .i64 ((m2:Int)+8))) (some (y2,(m2:Int)))=some (y3,(m3:Int)):=e3;simp only[e3',ah];have h3:y3<256:=h3;have e:uw .u8 y3=y3:=Nat.mod_eq_of_lt h3;have h8:bl y3≤8:=Ht h3;have ht:fW[y3]? = some (bl y3):=LP ⟨y3,h3⟩;have w1:IntKind.wrap .i64 ((bl y3:Nat):Int)=((bl y3:Nat):Int):=aK (by omega) (by omega)
 rw[e,aD h3,aS,Int.toNat_natCast,ht,ah,w1,aK (by omega) (by omega)]
 simp only[Option.some.injEq]; omega
def Oo (N:Int) (es:List (Int × Int)) (x:Nat):Int:=if qU N es then(if 2 ^ N.toNat≤x then 2 else 0) else 180
inductive Rch (es:List (Int × Int)) (S:Nat) (i:Nat):Nat→Prop
 | refl:Rch es S i i
 | step {j k:Nat} (h:Rch es S i j) (ha:so es j k) (hk:S.testBit k=true):Rch es S i k
theorem Rch.mem {es:List (Int × Int)} {S i j:Nat} (h:Rch es S i j) (hi:S.testBit i=true):S.testBit j=true:=by
 cases h with
 | refl=>exact hi
 | step _ _ hk=>exact hk
theorem Rch.trans {es:List (Int × Int)} {S i j k:Nat} (h:Rch es S i j) (h':Rch es S j k):Rch es S i k:=by
 induction h' with
 | refl=>exact h
 | step _ ha hk ih=>exact .step ih ha hk
def Hb (es:List (Int × Int)) (S i w:Nat):Prop:=w<2 ^ 64∧∀j,w.testBit j=true↔Rch es S i j
inductive Cs (es:List (Int × Int)) (S:Nat):Nat→List Nat→Prop
 | nil:Cs es S 0 []
 | cons {r w:Nat} {L:List Nat} (h0:0<r) (hr:r<2 ^ 64) (hw:Hb es S (tz r) w) (t:Cs es S (iJ .u64 r w) L):Cs es S r (w::L)
def dH (x t:Nat):List Nat:=(List.range t).filter fun i=>x.testBit i
def rk (x v:Nat):Nat:=(dH x v).length
theorem JV (x t:Nat):(dH x t).length≤t:=Nat.le_trans (List.length_filter_le _ _) (by simp)
theorem se (x t:Nat):dH x (t+1)=dH x t++(if x.testBit t then[t] else[]):=by
 unfold dH;rw[List.range_succ,List.filter_append]
 by_cases h:x.testBit t<;>simp[h]
theorem cp {x t v:Nat}:v ∈ dH x t↔v<t∧x.testBit v=true:=by simp[dH]
theorem HV {σ ρ τ:Type} {body:τ→Option (τ ⊕ ρ)} (N:Nat) (mk:σ→Int→τ) (fin:σ→ρ) (I:Nat→σ→Prop)
  (hs:∀s i,i<N→I i s→∃s',body (mk s (i:Int))=some (.inl (mk s' ((i+1:Nat):Int)))∧I (i+1) s') (he:∀s,I N s→body (mk s (N:Int))=some (.inr (fin s))) :
  ∀(k i n:Nat) (s:σ),i+k=N→I i s→k<n→∃s',bV body n (mk s (i:Int))=some (fin s')∧I N s':=by
 intro k
 induction k with
 | zero =>
  intro i n s hi hI hn;obtain⟨n,rfl⟩:∃n',n=n'+1:=⟨n-1,by omega⟩
  have:i=N:=by omega
  subst this;exact⟨s,by simp only[bV,he s hI],hI⟩
 | succ k ih =>
  intro i n s hi hI hn;obtain⟨n,rfl⟩:∃n',n=n'+1:=⟨n-1,by omega⟩
  obtain⟨s',h1,h2⟩:=hs s i (by omega) hI
  simp only[bV,h1];exact ih (i+1) n s' (by omega) h2 (by omega)
theorem oD {σ ρ τ:Type} {body:τ→Option (τ ⊕ ρ)} (N:Nat) (mk:σ→Int→τ) (fin:σ→ρ) (I:Nat→σ→Prop)
  (hs:∀s i,i<N→I i s→∃s',body (mk s (i:Int))=some (.inl (mk s' ((i+1:Nat):Int)))∧I (i+1) s') (he:∀s,I N s→body (mk s (N:Int))=some (.inr (fin s)))
  {n:Nat} {s:σ} (hI:I 0 s) (hn:N<n):∃s',bV body n (mk s 0)=some (fin s')∧I N s' :=
 HV N mk fin I hs he N 0 n s (by omega) hI hn
section
variable {n0 M : Nat} {l6 : List Int} {es : List (Int × Int)}
end
def val (w:Nat):List Nat→Nat
 | []=>0
 | d::ds=>d+2 ^ w*val w ds
theorem ph {k a b c d:Nat} (ha:a<2 ^ k) (hc:c<2 ^ k):(a+2 ^ k*b) &&& (c+2 ^ k*d)=(a &&& c)+2 ^ k*(b &&& d):=by
 have hac:a &&& c<2 ^ k:=Nat.lt_of_le_of_lt Nat.and_le_left ha;refine Nat.eq_of_testBit_eq fun i=>?_;rw[Nat.testBit_and,Nat.add_comm a,Nat.add_comm c,Nat.add_comm (a &&& c),Nat.testBit_two_pow_mul_add _ ha,Nat.testBit_two_pow_mul_add _ hc,Nat.testBit_two_pow_mul_add _ hac]
 split<;>rw[Nat.testBit_and]
def GI (w:Nat):Nat→Nat
 | 0=>0
 | n+1=>(2 ^ w-1)+2 ^ (2*w)*GI w n
def pairUp:List Nat→List Nat
 | a::b::r=>(a+b)::pairUp r
 | [a]=>[a]
 | []=>[]
theorem Jp (w:Nat):2 ^ (2*w)=2 ^ w*2 ^ w:=by rw[←Nat.pow_add]; congr 1; omega
theorem uc (w a b:Nat) (r:List Nat):val w (a::b::r)=(a+2 ^ w*b)+2 ^ (2*w)*val w r:=by
 simp only[val,Jp,Nat.mul_add,Nat.mul_assoc]; omega
theorem Il {w a b:Nat} (ha:a<2 ^ w) (hb:b<2 ^ w):a+2 ^ w*b<2 ^ (2*w):=by
 have h2:2 ^ w*(b+1)≤2 ^ w*2 ^ w:=Nat.mul_le_mul_left _ hb;rw[Jp];rw[Nat.mul_add,Nat.mul_one] at h2;omega
theorem we {w a b:Nat} (ha:a<2 ^ w):(a+2 ^ w*b) &&& (2 ^ w-1)=a:=by
 rw[Nat.and_two_pow_sub_one_eq_mod,Nat.add_mul_mod_self_left,Nat.mod_eq_of_lt ha]
theorem wy (w:Nat):2 ^ w-1<2 ^ (2*w):=by
 have:=Nat.two_pow_pos w;have:2 ^ w≤2 ^ (2*w):=Nat.pow_le_pow_right (by decide) (by omega)
 omega
theorem pF (w a b V:Nat) (ha:a<2 ^ w):((a+2 ^ w*b)+2 ^ (2*w)*V) >>> w=(b+2 ^ w*(V%2 ^ w))+2 ^ (2*w)*(V >>> w):=by
 have h1:(a+2 ^ w*b)+2 ^ (2*w)*V=a+2 ^ w*(b+2 ^ w*V):=by
  rw[Jp,Nat.mul_add,Nat.mul_assoc]; omega
 rw[h1,Nat.shiftRight_eq_div_pow,Nat.add_mul_div_left _ _ (Nat.two_pow_pos w),Nat.div_eq_of_lt ha,Nat.zero_add,Nat.shiftRight_eq_div_pow,Jp];have h2:=Nat.mod_add_div V (2 ^ w);rw[Nat.mul_assoc,Nat.add_assoc,←Nat.mul_add,h2]
theorem qY (w:Nat):∀(n:Nat) (ds:List Nat),ds.length=2*n→(∀d ∈ ds,d<2 ^ w)→((val w ds >>> w) &&& GI w n)+(val w ds &&& GI w n)=val (2*w) (pairUp ds)
 | 0,ds,h,_=>by
  have:ds = []:=List.eq_nil_of_length_eq_zero (by omega)
  subst this;simp[val,GI,pairUp]
 | n+1,a::b::r,h,hd=>by
  have ha:=hd a (by simp)
  have hb:=hd b (by simp)
  have ih:=qY w n r (by simp at h; omega) fun d hd'=>hd d (by simp[hd'])
  have hm:val w r%2 ^ w<2 ^ w:=Nat.mod_lt _ (Nat.two_pow_pos w);rw[uc,pF w a b _ ha];simp only[GI,pairUp];rw[ph (Il hb hm) (wy w),ph (Il ha hb) (wy w),we hb,we ha]
  show _=(a+b)+2 ^ (2*w)*val (2*w) (pairUp r)
  rw[←ih,Nat.mul_add];omega
 | n+1,[],h,_=>by simp at h
 | n+1,[_],h,_=>by simp at h; omega
theorem val_mod {w B:Nat} (hB:B≤2 ^ w) (h0:0<B):∀(ds:List Nat),(∀d ∈ ds,d<B)→val w ds%2 ^ w<B
 | [],_=>by simpa [val] using h0
 | d::ds,h=>by
  have:=h d (by simp)
  simp only[val];rw[Nat.add_mul_mod_self_left,Nat.mod_eq_of_lt (by omega)]; exact this
theorem tT (w B:Nat) (hB:2*B≤2 ^ w) (h0:0<B):∀(n:Nat) (ds:List Nat),ds.length=2*n→(∀d ∈ ds,d<B)→((val w ds >>> w)+val w ds) &&& GI w n=val (2*w) (pairUp ds)
 | 0,ds,h,_=>by
  have:ds = []:=List.eq_nil_of_length_eq_zero (by omega)
  subst this;simp[val,GI,pairUp]
 | n+1,a::b::r,h,hd=>by
  have ha:=hd a (by simp)
  have hb:=hd b (by simp)
  have ih:=tT w B hB h0 n r (by simp at h; omega) fun d hd'=>hd d (by simp[hd'])
  have hm:val w r%2 ^ w<B:=val_mod (by omega) h0 r fun d hd'=>hd d (by simp[hd'])
  rw[uc,pF w a b _ (by omega)]
  have e:(b+2 ^ w*(val w r%2 ^ w))+2 ^ (2*w)*(val w r >>> w)+((a+2 ^ w*b)+2 ^ (2*w)*val w r)=((a+b)+2 ^ w*(val w r%2 ^ w+b))+2 ^ (2*w)*((val w r >>> w)+val w r):=by
   simp only[Nat.mul_add]; omega
  rw[e];simp only[GI,pairUp];rw[ph (Il (by omega) (by omega)) (wy w),we (by omega),ih]
  rfl
 | n+1,[],h,_=>by simp at h
 | n+1,[_],h,_=>by simp at h; omega
theorem j7:∀ds:List Nat,(pairUp ds).sum=ds.sum
 | []=>rfl
 | [_]=>rfl
 | a::b::r=>by simp only[pairUp,List.sum_cons,j7 r]; omega
theorem kg:∀(n:Nat) (ds:List Nat),ds.length=2*n→(pairUp ds).length=n
 | 0,ds,h=>by
  have:ds = []:=List.eq_nil_of_length_eq_zero (by omega)
  subst this; rfl
 | n+1,a::b::r,h=>by simp only[pairUp,List.length_cons]; rw[kg n r (by simp at h; omega)]
 | n+1,[],h=>by simp at h
 | n+1,[_],h=>by simp at h; omega
theorem mb {B:Nat}:∀(ds:List Nat),(∀d ∈ ds,d≤B)→∀d ∈ pairUp ds,d≤2*B
 | [],_,d,hd=>by simp[pairUp] at hd
 | [a],h,d,hd=>by simp[pairUp] at hd; subst hd; have:=h d (by simp); omega
 | a::b::r,h,d,hd=>by
  simp only[pairUp,List.mem_cons] at hd;have h1:=h a (by simp)
  have h2:=h b (by simp)
  rcases hd with rfl|hd
  ·omega
  ·exact mb r (fun x hx=>h x (by simp[hx])) d hd
theorem BS {w:Nat}:∀(ds:List Nat),(∀d ∈ ds,d<2 ^ w)→val w ds<2 ^ (w*ds.length)
 | [],_=>by simp[val]
 | d::ds,h=>by
  have h1:=h d (by simp)
  have ih:=BS ds fun x hx=>h x (by simp[hx])
  simp only[val,List.length_cons];rw[Nat.mul_add,Nat.mul_one,Nat.add_comm (w*ds.length) w,Nat.pow_add];have h2:2 ^ w*(val w ds+1)≤2 ^ w*2 ^ (w*ds.length):=Nat.mul_le_mul_left _ ih;rw[Nat.mul_add,Nat.mul_one] at h2;omega
def rF (x:Nat):Nat→List Nat
 | 0=>[]
 | n+1=>x%2::rF (x/2) n
theorem yy:∀(n x:Nat),x<2 ^ n→val 1 (rF x n)=x
 | 0,x,h=>by simp at h; subst h; rfl
 | n+1,x,h=>by
  simp only[rF,val,Nat.pow_one];rw[yy n (x/2) (by rw[Nat.pow_succ] at h; omega)]
  omega
theorem zb:∀(n x:Nat),(rF x n).length=n
 | 0,_=>rfl
 | n+1,x=>by simp only[rF,List.length_cons,zb n]
theorem DH:∀(n x:Nat),∀d ∈ rF x n,d≤1
 | 0,_,d,h=>by simp[rF] at h
 | n+1,x,d,h=>by
  simp only[rF,List.mem_cons] at h;rcases h with rfl|h
  ·omega
  ·exact DH n _ d h
theorem u6 (x:Nat):∀n,(dH x (n+1)).length=x%2+(dH (x/2) n).length
 | 0=>by
  rw[se];have:x.testBit 0=decide (x%2=1):=Nat.testBit_zero x;rw[this]
  by_cases h:x%2=1
  ·simp[h,dH]
  ·have:x%2=0:=by omega
   simp[this,dH]
 | n+1=>by
  rw[se,List.length_append,u6 x n,se (x/2) n,List.length_append];have:x.testBit (n+1)=(x/2).testBit n:=Nat.testBit_succ x n;rw[this]
  split<;>simp<;>omega
theorem yz:∀(n x:Nat),(rF x n).sum=(dH x n).length
 | 0,x=>rfl
 | n+1,x=>by simp only[rF,List.sum_cons,yz n,u6]
theorem Fu {w B:Nat}:∀(ds:List Nat),(∀d ∈ ds,d≤B)→val w ds*(2 ^ w-1)+B≤B*2 ^ (w*ds.length)
 | [],_=>by simp[val]
 | d::ds,h=>by
  have h1:=h d (by simp)
  have ih:=Fu (w:=w) ds fun x hx=>h x (by simp[hx])
  have hp:=Nat.two_pow_pos w;simp only[val,List.length_cons];rw[Nat.mul_add,Nat.mul_one,Nat.add_comm (w*ds.length) w,Nat.pow_add];have h2:2 ^ w*(val w ds*(2 ^ w-1)+B)≤2 ^ w*(B*2 ^ (w*ds.length)):=Nat.mul_le_mul_left _ ih;have h3:d*(2 ^ w-1)≤B*(2 ^ w-1):=Nat.mul_le_mul_right _ h1;have h4:B*(2 ^ w-1)+B=2 ^ w*B:=by
   rw[Nat.mul_sub,Nat.mul_one,Nat.sub_add_cancel (Nat.le_mul_of_pos_right _ hp),Nat.mul_comm]
  have h5:B*(2 ^ w*2 ^ (w*ds.length))=2 ^ w*(B*2 ^ (w*ds.length)):=by rw[Nat.mul_left_comm]
  rw[Nat.mul_add,←Nat.mul_assoc] at h2;rw[Nat.add_mul,h5];omega
theorem Fe {a k b:Nat} (hk:k≤64) (h:a/2 ^ k=b):bL .u64 a k=b:=by rw[gm hk,Nat.shiftRight_eq_div_pow,h]
theorem EY (c0 c1 c2 c3 c4 c5 c6 c7:Nat) (g0:c0≤8) (g1:c1≤8) (g2:c2≤8) (g3:c3≤8) (g4:c4≤8) (g5:c5≤8) (g6:c6≤8) (g7:c7≤8) (y:Nat) (hy:y=c0+256*(c1+256*(c2+256*(c3+256*(c4+256*(c5+256*(c6+256*c7))))))) :
  ∃z u K,uw .u64 (y+bL .u64 y 8)=z∧uw .u64 (z+bL .u64 z 16)=u∧uw .u64 (u+bL .u64 u 32)=(c0+c1+c2+c3+c4+c5+c6+c7)+256*K∧K<2 ^ 54:=by
 obtain⟨a1,ha1⟩:∃a,a=c1+256*(c2+256*(c3+256*(c4+256*(c5+256*(c6+256*c7))))):=⟨_,rfl⟩;have e1:bL .u64 y 8=a1:=Fe (by decide) (by rw[hy,←ha1]; omega)
 have hz:uw .u64 (y+bL .u64 y 8)=y+a1:=by rw[e1]; exact eQ (by omega)
 obtain⟨b,hb⟩:∃b,b=(c2+c3)+256*((c3+c4)+256*((c4+c5)+256*((c5+c6)+256*((c6+c7)+256*c7)))):=⟨_,rfl⟩;have hzb:y+a1=((c0+c1)+256*(c1+c2))+65536*b:=by omega
 have e2:bL .u64 (y+a1) 16=b:=Fe (by decide) (by rw[hzb]; omega)
 have hu:uw .u64 ((y+a1)+bL .u64 (y+a1) 16)=(y+a1)+b:=by rw[e2]; exact eQ (by omega)
 obtain⟨d,hd⟩:∃d,d=(c4+c5+c6+c7)+256*((c5+c6+c7)+256*((c6+c7)+256*c7)):=⟨_,rfl⟩;have hud:(y+a1)+b=((c0+c1+c2+c3)+256*((c1+c2+c3+c4)+256*((c2+c3+c4+c5)+256*(c3+c4+c5+c6))))+4294967296*d:=by omega
 have e3:bL .u64 ((y+a1)+b) 32=d:=Fe (by decide) (by rw[hud]; omega)
 have hw:uw .u64 (((y+a1)+b)+bL .u64 ((y+a1)+b) 32)=((y+a1)+b)+d:=by rw[e3]; exact eQ (by omega)
 refine⟨_,_,((c1+c2+c3+c4)+256*((c2+c3+c4+c5)+256*(c3+c4+c5+c6)))+16777216*d+((c5+c6+c7)+256*((c6+c7)+256*c7)),hz,hu,?_,?_⟩
 ·rw[hw]; omega
 ·omega
theorem Nm (n x:Nat) (hx:x<2 ^ 64):P3 n x=some ((rk x 64:Nat):Int):=by
 obtain⟨d0,hd0⟩:∃d,d=rF x 64:=⟨_,rfl⟩;have l0:d0.length=64:=by rw[hd0]; exact zb 64 x
 have b0:∀d ∈ d0,d≤1:=by rw[hd0]; exact DH 64 x
 have v0:val 1 d0=x:=by rw[hd0]; exact yy 64 x hx
 have s0:d0.sum=rk x 64:=by rw[hd0]; exact yz 64 x
 have e1:=qY 1 32 d0 (by omega) fun d hd=>by have:=b0 d hd; omega
 have l1:=kg 32 d0 (by omega)
 have b1:=mb d0 b0;have e2:=qY 2 16 (pairUp d0) (by omega) fun d hd=>by have:=b1 d hd; omega
 have l2:=kg 16 (pairUp d0) (by omega)
 have b2:=mb _ b1;have e3:=tT 4 5 (by decide) (by decide) 8 (pairUp (pairUp d0)) (by omega) fun d hd=>by have:=b2 d hd; omega
 have l3:=kg 8 (pairUp (pairUp d0)) (by omega)
 have b3:=mb _ b2;have s3:(pairUp (pairUp (pairUp d0))).sum=rk x 64:=by rw[j7,j7,j7,s0]
 have m1:GI 1 32=6148914691236517205:=by decide
 have m2:GI 2 16=3689348814741910323:=by decide
 have m3:GI 4 8=1085102592571150095:=by decide
 rw[v0,m1] at e1;rw[m2] at e2;rw[m3] at e3;have q1:val 2 (pairUp d0)<2 ^ 64:=by
  have:=BS (w:=2) (pairUp d0) fun d hd=>by have:=b1 d hd; omega
  rwa[l1] at this
 have q2:val 4 (pairUp (pairUp d0))<2 ^ 64:=by
  have:=BS (w:=4) (pairUp (pairUp d0)) fun d hd=>by have:=b2 d hd; omega
  rwa[l2] at this
 have hS:∀a b:Nat,a<2 ^ 64→uw .u64 (uw .u64 a &&& uw .u64 b)=a &&& uw .u64 b:=fun a b ha=>by
  rw[eQ ha,eQ (iO ha)]
 have sh:∀k:Nat,k≤64→∀a:Nat,a<2 ^ 64→bL .u64 a k<2 ^ 64:=fun k hk a ha=>by
  rw[gm hk,Nat.shiftRight_eq_div_pow]; exact Nat.lt_of_le_of_lt (Nat.div_le_self _ _) ha
 have i1:uw .u64 6148914691236517205=6148914691236517205:=by decide
 have i2:uw .u64 3689348814741910323=3689348814741910323:=by decide
 have i3:uw .u64 1085102592571150095=1085102592571150095:=by decide
 have y2:uw .u64 ((uw .u64 (uw .u64 (bL .u64 x 1) &&& uw .u64 6148914691236517205))+(uw .u64 (uw .u64 x &&& uw .u64 6148914691236517205)))=val 2 (pairUp d0):=by
  rw[hS _ _ (sh 1 (by decide) x hx),hS _ _ hx,i1,gm (by decide),e1,eQ q1]
 have y4:uw .u64 ((uw .u64 (uw .u64 (bL .u64 (val 2 (pairUp d0)) 2) &&& uw .u64 3689348814741910323))+(uw .u64 (uw .u64 (val 2 (pairUp d0)) &&& uw .u64 3689348814741910323)))=val 4 (pairUp (pairUp d0)):=by
  rw[hS _ _ (sh 2 (by decide) _ q1),hS _ _ q1,i2,gm (by decide),e2,eQ q2]
 obtain⟨d3,hd3⟩:∃d,d=pairUp (pairUp (pairUp d0)):=⟨_,rfl⟩;rw[←hd3] at e3 l3 b3 s3;have q3:val 4 (pairUp (pairUp d0))<6*2 ^ 60:=by
  have:=Fu (w:=4) (B:=4) (pairUp (pairUp d0)) b2;rw[l2] at this;omega
 have y6:uw .u64 (uw .u64 (uw .u64 ((bL .u64 (val 4 (pairUp (pairUp d0))) 4)+val 4 (pairUp (pairUp d0)))) &&& uw .u64 1085102592571150095)=val 8 d3:=by
  have hle:bL .u64 (val 4 (pairUp (pairUp d0))) 4+val 4 (pairUp (pairUp d0))<2 ^ 64:=by
   rw[gm (by decide),Nat.shiftRight_eq_div_pow]; omega
  rw[eQ hle,hS _ _ hle,i3,gm (by decide),e3]
 unfold P3;rw[y2,ah,y4,ah,y6,ah]
 match d3,l3,b3,s3 with
 | [c0,c1,c2,c3,c4,c5,c6,c7],_,b3,s3 =>
  have hv:val 8 [c0,c1,c2,c3,c4,c5,c6,c7]=c0+256*(c1+256*(c2+256*(c3+256*(c4+256*(c5+256*(c6+256*c7)))))):=by simp[val]
  obtain⟨z,u,K,t1,t2,t3,hK⟩:=EY c0 c1 c2 c3 c4 c5 c6 c7 (b3 c0 (by simp)) (b3 c1 (by simp)) (b3 c2 (by simp)) (b3 c3 (by simp)) (b3 c4 (by simp)) (b3 c5 (by simp)) (b3 c6 (by simp)) (b3 c7 (by simp)) _ hv
  have hs:c0+c1+c2+c3+c4+c5+c6+c7=rk x 64:=by
   rw[←s3]; simp only[List.sum_cons,List.sum_nil]; omega
  rw[t1,t2,ah,t3,hs];have hr:rk x 64≤64:=JV _ _;rw[aK (by omega) (by omega)]
  have hand:FX .i64 ((rk x 64+256*K:Nat):Int) 127=((rk x 64:Nat):Int):=by
   unfold FX;have h1:(BitVec.ofInt IntKind.i64.bits ((rk x 64+256*K:Nat):Int) &&& BitVec.ofInt IntKind.i64.bits 127).toNat=rk x 64:=by
    rw[BitVec.toNat_and,BitVec.toNat_ofInt,BitVec.toNat_ofInt];have a1:(((rk x 64+256*K:Nat):Int)%((2 ^ IntKind.i64.bits:Nat):Int)).toNat=rk x 64+256*K:=by
     show(((rk x 64+256*K:Nat):Int)%(18446744073709551616:Int)).toNat=_
     omega
    have a2:((127:Int)%((2 ^ IntKind.i64.bits:Nat):Int)).toNat=2 ^ 7-1:=by decide
    rw[a1,a2,Nat.and_two_pow_sub_one_eq_mod];omega
   rw[h1,aK (by omega) (by omega)]
  rw[hand,ah]
def rE (p:Int × Int) (l:List (Int × Int)):Int × Int:=(l.getLast?).getD p
theorem zl {N:Int} (e:Int × Int):∀(l:List (Int × Int)) (p:Int × Int),lr N p (l++[e])=(lr N p l && df N (rE p l) e)
 | [],p=>by rw[List.nil_append,ek]; simp[lr,rE]
 | x::l,p=>by
  rw[List.cons_append,ek,ek,zl e l x,Bool.and_assoc]
  congr 2
  unfold rE;cases l with
  | nil=>rfl
  | cons y l =>
   rw[List.getLast?_cons_cons];have:∃z,(y::l).getLast? = some z:=⟨_,List.getLast?_eq_some_getLast (by simp)⟩
   obtain⟨z,hz⟩:=this;rw[hz]; rfl
def nR (N:Int) (l:List (Int × Int)) (a b:Int):Prop:=lr N (-1,-1) l=true∧((rE (-1,-1) l).1<a∨(rE (-1,-1) l).1=a∧(rE (-1,-1) l).2<b)
theorem nR.add {N:Int} {l:List (Int × Int)} {a b:Int} (h:nR N l a b) (ha:0≤a) (hab:a<b) (hb:b<N):nR N (l++[(a,b)]) a (b+1):=by
 refine⟨?_,.inr ?_⟩
 ·rw[zl,h.1,Bool.true_and];simp only[df,Bool.and_eq_true,decide_eq_true_eq];exact⟨⟨ha,hab,hb⟩,h.2⟩
 ·unfold rE;rw[List.getLast?_append];simp only[List.getLast?_singleton,Option.some_or,Option.getD_some];exact⟨trivial,by omega⟩
theorem nR.next {N:Int} {l:List (Int × Int)} {a b:Int} (h:nR N l a b):nR N l a (b+1):=⟨h.1,by rcases h.2 with h|h; exact .inl h; exact .inr (by omega)⟩
theorem nR.row {N:Int} {l:List (Int × Int)} {a b c:Int} (h:nR N l a b):nR N l (a+1) c:=⟨h.1,.inl (by rcases h.2 with h|h<;>omega)⟩
theorem Io (n0:Nat) (N a w:Int) (x3:Nat) (l1:List (Nat × Nat)) (hN:1≤N∧N≤12) (hw:w≠0) (l:List (Int × Int)) (c b:Int) (M:Nat) (hl:l.length≤M) (hM:M≤1000) (hb:0≤b∧b≤N) (ha:0≤a∧a<b) (hu:nR N l a b) (n:Nat) (hn:12<n) (h2:3<n0) :
  ∃r,bV (yY n0 N a w x3 l1) n (l,c,b)=some r∧r.1.length≤M+12∧nR N r.1 a N:=by
 refine Bj (body:=yY n0 N a w x3 l1) (R:=fun r=>r.1.length≤M+12∧nR N r.1 a N) (fun k s=>0≤s.2.2∧s.2.2+k=N∧s.1.length+k≤M+12∧a<s.2.2∧nR N s.1 a s.2.2) (fun k s hI=>?_) (N-b).toNat (l,c,b) n ⟨hb.1,by simp only; omega,by simp only; omega,ha.2,hu⟩ (by omega)
 obtain⟨l,c,b⟩:=s;obtain⟨h3,h4,h5,h1,h0⟩:=hI;simp only at h3 h4 h5 h1 h0;simp only[yY]
 by_cases c1:b<N
 ·rw[aV c1];have e0:∃z,br (decide (b=IntKind.wrap .i64 (a+w))) (some true) (br (decide (b=IntKind.wrap .i64 (a+1))) (gd (decide (w≠0)) (some (!decide (Int.tmod b w=0)))) (some false))=some z :=
   hJ (fun _=>gK _) fun _=>hJ (fun _=>⟨_,cq hw _⟩) fun _=>gK _
  obtain⟨z,hz⟩:=e0;rw[hz,ah];have e1:∃c' z',br z (ob (ob (br (decide (Int.tmod c 2=1)) (ob (some (bL .u16 x3 (ui .u64 (Int.tmod (IntKind.wrap .i64 (Int.tdiv c 2)) 16)))) fun y2=>some (decide (uw .u16 (uw .u16 y2 &&& uw .u16 1)=1))) (some false)) fun v0=>br v0 (some false) (some z)) fun v1=>some (IntKind.wrap .i64 (c+1),v1)) (some (c,z))=some (c',z'):=by
   cases z with
   | false=>exact⟨c,false,rfl⟩
   | true =>
    rw[dI];have:∃q,(ob (br (decide (Int.tmod c 2=1)) (ob (some (bL .u16 x3 (ui .u64 (Int.tmod (IntKind.wrap .i64 (Int.tdiv c 2)) 16)))) fun y2=>some (decide (uw .u16 (uw .u16 y2 &&& uw .u16 1)=1))) (some false)) fun v0=>br v0 (some false) (some true))=some q:=by
     by_cases h:Int.tmod c 2=1
     ·rw[aV h,ah,ah]; exact hJ (fun _=>gK _) fun _=>gK _
     ·rw[aO h,ah]; exact hJ (fun _=>gK _) fun _=>gK _
    obtain⟨q,hq⟩:=this;exact⟨_,q,by rw[hq,ah]⟩
  obtain⟨c',z',hz'⟩:=e1;rw[hz',ah];obtain⟨q,hq⟩:=Ev n0 l1 N a b (by omega) z' n0 h2
  simp only[hq,ah];cases q with
  | false =>
   refine .inl ⟨(l,c',b+1),?_,k-1,by omega,by simp only; omega,by simp only; omega,by simp only; omega,by simp only; omega,h0.next⟩
   rw[dt,ah,aK (by omega) (by omega)]
  | true =>
   refine .inl ⟨(l++[(a,b)],c',b+1),?_,k-1,by omega,by simp only; omega,by simp only; omega,by simp; omega,by simp only; omega,h0.add ha.1 h1 c1⟩
   rw[dI,fR (by simp; omega),aS,ah,aK (by omega) (by omega)]
 ·rw[aO c1]; exact .inr ⟨(l,c),rfl,by simp only; omega,(show b=N by omega) ▸ h0⟩
theorem Gp (n0:Nat) (N w:Int) (x3:Nat) (l4:List (Nat × Nat)) (hN:1≤N∧N≤12) (hw:w≠0) (n:Nat) (hn:12<n) (hn0:12<n0) :
  ∃r,bV (zI n0 N x3 l4) n (w,[],0,0)=some r∧r.length≤200∧lr N (-1,-1) r=true:=by
 refine Bj (body:=zI n0 N x3 l4) (R:=fun r=>r.length≤200∧lr N (-1,-1) r=true) (fun k s=>s.1=w∧0≤s.2.2.2∧s.2.2.2+k=N∧s.2.1.length+12*k≤144∧nR N s.2.1 s.2.2.2 0) (fun k s hI=>?_) N.toNat (w,[],0,0) n ⟨rfl,by simp,by simp only; omega,by simp; omega,⟨rfl,.inl (by show(-1:Int)<0; decide)⟩⟩ (by omega)
 obtain⟨w',l,c,a⟩:=s;obtain⟨rfl,h1,h2,h3,h4⟩:=hI;simp only at h1 h2 h3 h4 hw;simp only[zI]
 by_cases c1:a<N
 ·rw[aV c1];obtain⟨r,hr,hrl,hru⟩:=Io n0 N a w' x3 l4 hN hw l c (IntKind.wrap .i64 (a+1)) l.length (Nat.le_refl _) (by omega) (by rw[aK (by omega) (by omega)]; omega) (by rw[aK (by omega) (by omega)]; omega) (by rw[aK (by omega) (by omega)]; exact⟨h4.1,h4.2.imp id fun h=>⟨h.1,by omega⟩⟩) n0 hn0 (by omega)
  obtain⟨l',c'⟩:=r;simp only[hr,ah];exact .inl ⟨(w',l',c',a+1),by rw[aK (by omega) (by omega)],k-1,by omega,rfl,by simp only; omega,by simp only; omega,by simp only at hrl ⊢; omega,hru.row⟩
 ·rw[aO c1]; exact .inr ⟨l,rfl,by omega,h4.1⟩
theorem JP (S M:Nat):(dH S M).Pairwise (· < ·):=List.Pairwise.filter _ List.pairwise_lt_range
end Go.Proofs.YtookeaakpiefjaaGreatDoor
end

section
namespace Go.Proofs.YtookeaakpiefjaaGreatDoor
open Go Go.Ab Go.Ab.W Go.Ab.T30
def QS (T:List (Nat × Nat)) (x w:Nat):Prop:=w<2 ^ 64∧∀j,w.testBit j=true↔Cn T x j
theorem QS.uniq {T:List (Nat × Nat)} {x w w':Nat} (h:QS T x w) (h':QS T x w'):w=w':=zh fun i=>(h.2 i).trans (h'.2 i).symm
theorem ME {a x:Nat} (h:a.testBit x=true) (hx:x<64):1≤rk a 64:=List.length_pos_of_mem (cp.2 ⟨hx,h⟩)
def eg (es:List (Int × Int)) (k:Int):Nat × Nat:=match es[k.toNat]? with
 | some e=>(e.1.toNat,e.2.toNat)
 | none=>(0,0)
def Vl (es:List (Int × Int)) (k:Int):Prop:=0≤k∧k<(es.length:Int)
theorem jr {N:Nat} {es:List (Int × Int)} {k:Int} (h:Okay N es) (hk:Vl es k):∃a b:Nat,es[k.toNat]? = some ((a:Int),(b:Int))∧eg es k=(a,b)∧a<b∧b<64∧b<N∧cg k es.length=true:=by
 obtain⟨i,rfl⟩:=Int.eq_ofNat_of_zero_le hk.1;have hi:i<es.length:=by have:=hk.2; omega
 obtain⟨a,b,e,h1,h2⟩:=h.mem _ (List.getElem_mem hi);have h3:es[((i:Nat):Int).toNat]? = some ((a:Int),(b:Int)):=by rw[Int.toNat_natCast,List.getElem?_eq_getElem hi,e]
 have:=h.le;exact⟨a,b,h3,by unfold eg; rw[h3]; simp,h1,by omega,h2,aD hi⟩
def gw (es:List (Int × Int)):List Int→Nat→(Nat→Nat)→List (List Int)
 | _,0,_=>[[]]
 | [],_+1,_=>[]
 | k::L,d+1,r=>(if r (eg es k).1=r (eg es k).2 then[] else(gw es L d (bh r (eg es k))).map (k::·))++gw es L (d+1) r
def HE (p q y:Nat):Nat:=if y=p then q else y
theorem wX {p q y z:Nat} (_:p≠q):HE p q y=HE p q z↔y=z∨((y=p∨y=q)∧(z=p∨z=q)):=by
 unfold HE
 split<;>split<;>omega
theorem sq (r:Nat→Nat) (e:Nat × Nat) (v:Nat):bh r e v=HE (max (r e.1) (r e.2)) (min (r e.1) (r e.2)) (r v):=rfl
theorem bT {r:Nat→Nat} {e:Nat × Nat} (h:r e.1≠r e.2) (v w:Nat):bh r e v=bh r e w↔r v=r w∨((r v=r e.1∨r v=r e.2)∧(r w=r e.1∨r w=r e.2)):=by
 rw[sq,sq,wX (by omega)]
 omega
theorem ql (ρ:Nat→Nat) (u v i:Nat):mg ρ u v i=HE u v (ρ i):=rfl
theorem Ih {ρ:Nat→Nat} {s a b:Nat} (h:ρ a≠ρ b) (i j:Nat):(if ρ a=s then mg ρ (ρ b) (ρ a) else mg ρ (ρ a) (ρ b)) i=(if ρ a=s then mg ρ (ρ b) (ρ a) else mg ρ (ρ a) (ρ b)) j↔ρ i=ρ j∨((ρ i=ρ a∨ρ i=ρ b)∧(ρ j=ρ a∨ρ j=ρ b)):=by
 by_cases hs:ρ a=s
 ·simp only[if_pos hs];rw[ql,ql,wX (fun e=>h e.symm)];omega
 ·simp only[if_neg hs];rw[ql,ql,wX h]
def dg (s:Nat) (ρ:Nat→Nat):Nat:=((List.range s).filter fun i=>ρ i == i).length
theorem DE {s:Nat} {ρ:Nat→Nat} (h:Rho s ρ) {a b:Nat} (ha:a≤s) (hb:b≤s) (hab:ρ a≠ρ b):dg s ρ=dg s (if ρ a=s then mg ρ (ρ b) (ρ a) else mg ρ (ρ a) (ρ b))+1:=by
 have key:∀u v,ρ u=u→ρ v=v→u≠v→u<s→dg s ρ=dg s (mg ρ u v)+1:=fun u v hu hv huv hus=>by
  refine fe List.nodup_range (List.mem_range.2 hus) (by simpa using hu) fun i=>?_
  simp only[beq_iff_eq];unfold mg;constructor
  ·intro h1
   by_cases hi:ρ i=u
   ·rw[if_pos hi] at h1;rw[←h1,hv] at hi;exact absurd hi.symm huv
   ·rw[if_neg hi] at h1;exact⟨h1,fun e=>hi (by rw[h1,e])⟩
  ·rintro⟨h1,h2⟩;rw[if_neg (fun e=>h2 (by rw[←h1,e])),h1]
 by_cases hs:ρ a=s
 ·rw[if_pos hs];have h1:=h.le b hb;exact key _ _ (h.idem b) (h.idem a) (fun e=>hab e.symm) (by omega)
 ·rw[if_neg hs];have h1:=h.le a ha;exact key _ _ (h.idem a) (h.idem b) hab (by omega)
theorem lL {s:Nat} {ρ:Nat→Nat}:dg s ρ=0↔(List.range s).all (fun i=>ρ i != i)=true:=by
 unfold dg;rw[List.length_eq_zero_iff,List.filter_eq_nil_iff,List.all_eq_true];simp
theorem oe {s:Nat} {ρ:Nat→Nat} (h:Rho s ρ) (h0:dg s ρ=0) {i:Nat} (hi:i≤s):ρ i=s:=by
 have h1:=List.all_eq_true.1 (lL.1 h0);have h2:=h.le i hi
 by_cases h3:ρ i<s
 ·have h4:=h1 (ρ i) (List.mem_range.2 h3);rw[h.idem] at h4;simp at h4
 ·omega
theorem zO {s:Nat} {ρ:Nat→Nat} (h:Rho s ρ) (h0:dg s ρ=0):∀E:List (Nat × Nat),(∀e ∈ E,e.1≤s∧e.2≤s)→qJ s ρ E=1
 | [],_=>by simp only[qJ]; rw[if_pos (lL.1 h0)]
 | (a,b)::E,hE=>by
  have ha:a≤s:=(hE (a,b) List.mem_cons_self).1;have hb:b≤s:=(hE (a,b) List.mem_cons_self).2;simp only[qJ];rw[if_pos (by rw[oe h h0 ha,oe h h0 hb]),zO h h0 E fun e he=>hE e (List.mem_cons_of_mem _ he)]
theorem BB {es:List (Int × Int)} {V:Nat→Prop} {s:Nat} {ψ:Nat→Nat} (hψ:∀v,V v→ψ v≤s) :
  ∀(L:List Int) (r ρ:Nat→Nat),Rho s ρ→(∀v w,V v→V w→(r v=r w↔ρ (ψ v)=ρ (ψ w)))→(∀k ∈ L,V (eg es k).1∧V (eg es k).2) →
   (gw es L (dg s ρ) r).length=qJ s ρ (jD ψ (L.map (eg es)))
 | [],r,ρ,h,hr,_=>by
  simp only[List.map_nil,jD,qJ]
  by_cases h0:dg s ρ=0
  ·rw[if_pos (lL.1 h0),h0]; rfl
  ·rw[if_neg (fun e=>h0 (lL.2 e))];obtain⟨d,hd⟩:∃d,dg s ρ=d+1:=⟨dg s ρ-1,by omega⟩
   rw[hd]; rfl
 | k::L,r,ρ,h,hr,hL=>by
  obtain⟨va,vb⟩:=hL k List.mem_cons_self;have hL':=fun k' hk'=>hL k' (List.mem_cons_of_mem _ hk');have ha:=hψ _ va;have hb:=hψ _ vb
  by_cases h0:dg s ρ=0
  ·rw[zO h h0 _ (fun e he=>by
    obtain⟨e',h1,rfl⟩:=List.mem_map.1 he;obtain⟨k',h2,rfl⟩:=List.mem_map.1 h1;exact⟨hψ _ (hL k' h2).1,hψ _ (hL k' h2).2⟩),h0]
   rfl
  ·have ih:=BB (es:=es) hψ L r ρ h hr hL';have hc:jD ψ ((k::L).map (eg es))=(ψ (eg es k).1,ψ (eg es k).2)::jD ψ (L.map (eg es)):=rfl;rw[hc];simp only[qJ]
   by_cases hab:ρ (ψ (eg es k).1)=ρ (ψ (eg es k).2)
   ·rw[if_pos hab,Nat.add_zero,←ih];obtain⟨d,hd⟩:∃d,dg s ρ=d+1:=⟨dg s ρ-1,by omega⟩
    rw[hd];simp only[gw];rw[if_pos ((hr _ _ va vb).2 hab),List.nil_append]
   ·rw[if_neg hab,←ih];have hra:r (eg es k).1≠r (eg es k).2:=fun e=>hab ((hr _ _ va vb).1 e);have ih2:=BB (es:=es) hψ L (bh r (eg es k)) _ (h.step ha hb hab) (fun v w hv hw=>by
     rw[bT hra,Ih hab,hr v w hv hw,hr v _ hv va,hr v _ hv vb,hr w _ hw va,hr w _ hw vb]) hL'
    have hd:=DE h ha hb hab;rw[hd];simp only[gw];rw[if_neg hra,List.length_append,List.length_map,ih2];omega
end Go.Proofs.YtookeaakpiefjaaGreatDoor
end
