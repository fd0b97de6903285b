/- A part of the proof. -/
import Derived.Test.YtookeaakpiefjaaGreatDoorTd5
section
namespace Go.Proofs.YtookeaakpiefjaaGreatDoor
open Go Go.Ab Go.Ab.W
set_option maxRecDepth 10000
set_option maxHeartbeats 4000000
attribute [local irreducible] Wo Wk At Wn Od Ox aT aR
attribute [local irreducible] Tm.at Trie.set Trie.get AMem.get AMem.set AMem.alloc AMem.ww AMem.kill
theorem F4 (n x1 l2 x7 l8 a3 c4 a9 c10 r) (hF:K6 n x1 l2 x7 l8=some r) (m) {H:Nat→Prop} (hH:∀b,H b→b<m.next) (h5:Rd m a3 c4 1 l2.length (l2.map (eN .u64))) (h6:∀b,fS a3=some b→¬H b) (h11:Rd m a9 c10 1 l8.length (l8.map (eN .u64))) (h12:∀b,fS a9=some b→¬H b):
  aB an 61 [.agg #[.bool x1,.slice a3 l2.length c4],.agg #[.bool x7,.slice a9 l8.length c10]] m (fun v m'=>∃x:Option Addr × Nat × Nat × Option Addr × Nat × Nat,v = .agg #[.bool r.1,.slice x.1 x.2.2.1 x.2.1,.bool r.2.2.1,.slice x.2.2.2.1 x.2.2.2.2.2 x.2.2.2.2.1]∧Hp m m' [.rd x.1 x.2.1 1 x.2.2.1 (r.2.1.map (eN .u64)),.rd x.2.2.2.1 x.2.2.2.2.1 1 x.2.2.2.2.2 (r.2.2.2.map (eN .u64)),.gen (cS H)]):=by
 unfold K6 at hF;refine cw Tryz.func61 (Hp.jH (l0:=[.rd a3 c4 1 l2.length (l2.map (eN .u64))]) (Hp.jH (l0:=[]) (Hp.fe m hH) rfl h5 h6) rfl h11 h12) ?_;refine wz ?_;refine wb fun b13=>?_;refine wb fun b14=>?_;refine wa LC fun b15=>?_;refine ay ?_;refine Wo.od (ah (k:=2) aD rfl rfl rfl) rfl<|Wo.od (ah (k:=1) aD rfl rfl rfl) rfl ?_;obtain⟨⟨r17,l18⟩,h16,hF⟩:=J hF;refine wv gn (fun m hm=>Gu n x1 l2 x7 l8 a3 c4 a9 c10 _ h16 m hm.aN (hm.q 4) (hm.no 4) (hm.q 3) (hm.no 3)) ?_;rintro⟨a19,c20,n21⟩;refine Wo.ca (k:=0) rfl ?_;rintro rfl;refine wa eT fun b22=>?_;refine Wo.o0 (aL (k:=0) aD rfl rfl rfl rfl rfl) ?_;refine ay ?_;refine Wo.od (ah (k:=4) aD rfl rfl rfl) rfl<|Wo.od (ah (k:=0) aD rfl rfl rfl) rfl ?_;obtain⟨⟨r24,l25,r29,l30⟩,h23,hF⟩:=J hF;refine Wo.x (wU (N:=(fun x:Option Addr × Nat × Nat × Option Addr × Nat × Nat=>[.rd x.1 x.2.1 1 x.2.2.1 (l25.map (eN .u64)),.rd x.2.2.2.1 x.2.2.2.2.1 1 x.2.2.2.2.2 (l30.map (eN .u64))])) rfl rfl (fun m hm=>vp n x1 l2 r17 l18 a3 c4 a19 c20 _ h23 m hm.aN (hm.q 6) (hm.no 6) (hm.q 1) (hm.no 1)) fun _=>rfl) gn rfl ?_;rintro⟨a26,c27,n28,a31,c32,n33⟩;refine Wo.ca (k:=0) rfl ?_;rintro rfl;refine Wo.ca (k:=1) rfl ?_;rintro rfl;refine wz ?_;refine wa eT fun b34=>?_;refine wa eT fun b35=>?_;refine Wo.o0 (aL (k:=1) aD rfl rfl rfl rfl rfl)<|Wo.o0 (aL (k:=0) aD rfl rfl rfl rfl rfl) ?_;refine ay ?_;refine Wo.od (ah (k:=7) aD rfl rfl rfl) rfl<|Wo.od (ah (k:=4) aD rfl rfl rfl) rfl ?_;obtain⟨⟨r37,l38,r42,l43⟩,h36,hF⟩:=J hF;refine Wo.x (wU (N:=(fun x:Option Addr × Nat × Nat × Option Addr × Nat × Nat=>[.rd x.1 x.2.1 1 x.2.2.1 (l38.map (eN .u64)),.rd x.2.2.2.1 x.2.2.2.2.1 1 x.2.2.2.2.2 (l43.map (eN .u64))])) rfl rfl (fun m hm=>vp n x7 l8 r17 l18 a9 c10 a19 c20 _ h36 m hm.aN (hm.q 9) (hm.no 9) (hm.q 5) (hm.no 5)) fun _=>rfl) gn rfl ?_;rintro⟨a39,c40,n41,a44,c45,n46⟩;refine Wo.ca (k:=0) rfl ?_;rintro rfl;refine Wo.ca (k:=1) rfl ?_;rintro rfl;refine wz ?_;refine wa eT fun b47=>?_;refine wa eT fun b48=>?_;refine Wo.o0 (aL (k:=1) aD rfl rfl rfl rfl rfl)<|Wo.o0 (aL (k:=0) aD rfl rfl rfl rfl rfl) ?_;refine wz ?_;refine Wk.seq ?_;obtain⟨r84,h83,hF⟩:=J hF;refine ct (fun(v62,l63,v66,l67) ((a64,c65,a68,c69):Option Addr × Nat × Option Addr × Nat)=>⟨.normal,[(4,ptr b15 0),(6,ptr b34 0),(8,ptr b47 0)],[.obj b15 (.cells [.bool false,.slice none 0 0,.bool false,.slice none 0 0] .own),.obj b34 (.cells [.bool v62,.slice a64 l63.length c65] .own),.rd a64 c65 1 l63.length (l63.map (eN .u64)),.obj b47 (.cells [.bool v66,.slice a68 l67.length c69] .own),.rd a68 c69 1 l67.length (l67.map (eN .u64)),.gen (cS H)]⟩) r84 ?_ ?_
 ·clear hF;revert r84;intro r hF;refine wz ?_;refine Wo.od (ah (k:=1) nz rfl rfl rfl) rfl ?_;refine wz ?_;rcases aa hF with⟨h70,hF⟩|⟨h70,hF⟩
  ·refine Wk.jF rfl h70<|Wk.dc (prs:=[(1,2)]) (by kernel_rfl)<|Wn.od (ah (k:=5) aD rfl rfl rfl) rfl ?_
   obtain⟨⟨r72,l73⟩,h71,hF⟩:=J hF;refine nv gn (fun m hm=>vr n r24 l25 a26 c27 _ h71 m hm.aN (hm.q 6) (hm.no 6)) ?_;rintro⟨a74,c75,n76⟩;refine Wn.ca (k:=0) rfl ?_;rintro rfl;refine Wn.od (ah (k:=2) aD rfl rfl rfl) rfl ?_;obtain⟨⟨r78,l79⟩,h77,hF⟩:=J hF;refine nv gn (fun m hm=>vr n r37 l38 a39 c40 _ h77 m hm.aN (hm.q 3) (hm.no 3)) ?_;rintro⟨a80,c81,n82⟩;refine Wn.ca (k:=0) rfl ?_;rintro rfl;refine Wn.o0 (aL (k:=7) aD rfl rfl rfl rfl rfl)<|Wn.o0 (aL (k:=3) aD rfl rfl rfl rfl rfl)<|Wn.nil (fun m hm=>cD.all rfl) ?_;cases hF;exact ae (a74,c75,a80,c81) [12,7,1,3,0,17]
  ·refine wz ?_;cases hF;exact ae (a26,c27,a39,c40) [10,5,6,1,2,15]
 ·clear h83;obtain⟨v62,l63,v66,l67⟩:=r84;rintro⟨a64,c65,a68,c69⟩;refine ay ?_;refine Wo.od (ah (k:=1) aD rfl rfl rfl) rfl<|Wo.od (ah (k:=3) aD rfl rfl rfl) rfl<|Wo.od (dZ rfl LC rfl (ee My rfl rfl rfl)) rfl<|Wo.o0 (aL (k:=0) IL rfl rfl rfl rfl rfl) ?_;refine ay ?_;cases hF;exact At.ret (.cell (k:=0) IL rfl rfl rfl .nil) fun m' hm=>⟨(a64,c65,l63.length,a68,c69,l67.length),rfl,(ak.aA [2,4,5] rfl rfl) m' hm⟩
theorem FH (n x1 l2 x6 l7 a3 c4 a8 c9 r) (hF:K7 n x1 l2 x6 l7=some r) (m) (h5:Rd m a3 c4 1 l2.length (l2.map (eN .u64))) (h10:Rd m a8 c9 1 l7.length (l7.map (eN .u64))):
  aB an 62 [.agg #[.bool x1,.slice a3 l2.length c4,.bool x6,.slice a8 l7.length c9]] m (fun v m'=>∃x:Unit,v = .tuple #[.agg #[.int .u64 ((r.1:Nat):Int),.int .u64 ((r.2.1:Nat):Int),.int .u64 ((r.2.2.1:Nat):Int),.int .u64 ((r.2.2.2.1:Nat):Int),.int .u64 ((r.2.2.2.2.1:Nat):Int),.int .u64 ((r.2.2.2.2.2.1:Nat):Int),.int .u64 ((r.2.2.2.2.2.2.1:Nat):Int),.int .u64 ((r.2.2.2.2.2.2.2.1:Nat):Int),.int .u64 ((r.2.2.2.2.2.2.2.2.1:Nat):Int),.int .u64 ((r.2.2.2.2.2.2.2.2.2.1:Nat):Int),.int .u64 ((r.2.2.2.2.2.2.2.2.2.2.1:Nat):Int),.int .u64 ((r.2.2.2.2.2.2.2.2.2.2.2.1:Nat):Int),.int .u64 ((r.2.2.2.2.2.2.2.2.2.2.2.2.1:Nat):Int),.int .u64 ((r.2.2.2.2.2.2.2.2.2.2.2.2.2.1:Nat):Int),.int .u64 ((r.2.2.2.2.2.2.2.2.2.2.2.2.2.2.1:Nat):Int),.int .u64 ((r.2.2.2.2.2.2.2.2.2.2.2.2.2.2.2.1:Nat):Int)],.int .i64 r.2.2.2.2.2.2.2.2.2.2.2.2.2.2.2.2]∧Hp m m' []):=by
 unfold K7 at hF;refine cw Tryz.func62 (((Hp.start m).i h5).i h10) ?_;refine wz ?_;refine wb fun b11=>?_;refine wa DP fun b12=>?_;refine ay ?_;refine Wo.od (ah (k:=1) aD rfl rfl rfl) rfl ?_;obtain⟨⟨r14,r15,r16,r17,r18,r19,r20,r21,r22⟩,h13,hF⟩:=J hF;refine wc gn (fun m hm=>zE n x1 l2 a3 c4 _ h13 m (hm.q 3)) ?_;rintro⟨⟩;refine wz ?_;refine wa z38 fun b23=>?_;refine Wo.o0 (aL (k:=0) bH rfl rfl rfl rfl rfl) ?_;refine ay ?_;refine Wo.od (ah (k:=2) aD rfl rfl rfl) rfl ?_;obtain⟨⟨r25,r26,r27,r28,r29,r30,r31,r32,r33⟩,h24,hF⟩:=J hF;refine wc gn (fun m hm=>zE n x6 l7 a8 c9 _ h24 m (hm.q 3)) ?_;rintro⟨⟩;refine wz ?_;refine wa z38 fun b34=>?_;refine Wo.o0 (aL (k:=0) bH rfl rfl rfl rfl rfl) ?_;refine wz ?_;refine Wk.seq<|Wk.seq ?_;obtain⟨v42,h44,hF⟩:=J hF;refine ct (fun v42 (_:Unit)=>⟨.normal,[(2,ptr b12 0),(4,ptr b23 0),(6,ptr b34 0),(25,.bool v42)],[.obj b12 (.cells [.int .u64 ((0:Nat):Int),.int .u64 ((0:Nat):Int),.int .u64 ((0:Nat):Int),.int .u64 ((0:Nat):Int),.int .u64 ((0:Nat):Int),.int .u64 ((0:Nat):Int),.int .u64 ((0:Nat):Int),.int .u64 ((0:Nat):Int),.int .u64 ((0:Nat):Int),.int .u64 ((0:Nat):Int),.int .u64 ((0:Nat):Int),.int .u64 ((0:Nat):Int),.int .u64 ((0:Nat):Int),.int .u64 ((0:Nat):Int),.int .u64 ((0:Nat):Int),.int .u64 ((0:Nat):Int)] .own),.obj b23 (.cells [.int .u64 ((r14:Nat):Int),.int .u64 ((r15:Nat):Int),.int .u64 ((r16:Nat):Int),.int .u64 ((r17:Nat):Int),.int .u64 ((r18:Nat):Int),.int .u64 ((r19:Nat):Int),.int .u64 ((r20:Nat):Int),.int .u64 ((r21:Nat):Int)] .own),.obj b34 (.cells [.int .u64 ((r25:Nat):Int),.int .u64 ((r26:Nat):Int),.int .u64 ((r27:Nat):Int),.int .u64 ((r28:Nat):Int),.int .u64 ((r29:Nat):Int),.int .u64 ((r30:Nat):Int),.int .u64 ((r31:Nat):Int),.int .u64 ((r32:Nat):Int)] .own)]⟩) v42 ?_ ?_
 ·clear hF;revert v42;intro r hF;refine wz ?_;rcases aa hF with⟨h43,hF⟩|⟨h43,hF⟩
  ·refine wz ?_;cases hF;exact ae () [2,1,0]
  ·refine wz ?_;cases hF;exact ae () [2,1,0]
 ·clear h44;rintro⟨⟩;refine At.tn ?_;rcases aa hF with⟨h46,hF⟩|⟨h46,hF⟩
  ·refine wz ?_;refine Wo.od (dZ rfl DP rfl (ee CA rfl rfl rfl)) rfl<|Wo.o0 (aL (k:=0) iT rfl rfl rfl rfl rfl) ?_;refine ay ?_;cases hF;exact At.ret (.cell (k:=0) iT rfl rfl rfl (.tmp rfl .nil)) fun m' hm=>⟨(),rfl,(ak.aA [] rfl rfl) m' hm⟩
  ·refine ay ?_;refine Wo.od (ah (k:=1) bH rfl rfl rfl) rfl<|Wo.od (ah (k:=2) bH rfl rfl rfl) rfl<|Wo.od (dZ rfl DP rfl (ee CA rfl rfl rfl)) rfl<|Wo.o0 (aL (k:=0) iT rfl rfl rfl rfl rfl) ?_;refine ay ?_;cases hF;exact At.ret (.cell (k:=0) iT rfl rfl rfl (.tmp rfl .nil)) fun m' hm=>⟨(),rfl,(ak.aA [] rfl rfl) m' hm⟩
theorem Jh (n x1 l1 x3 x4 a0 c0 r) (hF:K9 n x1 l1 x3 x4=some r) (m) (hG:Gl m) (h2:Rd m a0 c0 2 l1.length (l1.map (eP (eI .i64) (eI .i64)))):
  aB an 12 [.agg #[.int .i64 x1,.slice a0 l1.length c0],.int .u64 ((x3:Nat):Int),.int .i64 x4] m (fun v m'=>∃x:Unit,v = .tuple #[.agg #[.int .u64 ((r.1:Nat):Int),.int .u64 ((r.2.1:Nat):Int),.int .u64 ((r.2.2.1:Nat):Int),.int .u64 ((r.2.2.2.1:Nat):Int),.int .u64 ((r.2.2.2.2.1:Nat):Int),.int .u64 ((r.2.2.2.2.2.1:Nat):Int),.int .u64 ((r.2.2.2.2.2.2.1:Nat):Int),.int .u64 ((r.2.2.2.2.2.2.2.1:Nat):Int),.int .u64 ((r.2.2.2.2.2.2.2.2.1:Nat):Int),.int .u64 ((r.2.2.2.2.2.2.2.2.2.1:Nat):Int),.int .u64 ((r.2.2.2.2.2.2.2.2.2.2.1:Nat):Int),.int .u64 ((r.2.2.2.2.2.2.2.2.2.2.2.1:Nat):Int),.int .u64 ((r.2.2.2.2.2.2.2.2.2.2.2.2.1:Nat):Int),.int .u64 ((r.2.2.2.2.2.2.2.2.2.2.2.2.2.1:Nat):Int),.int .u64 ((r.2.2.2.2.2.2.2.2.2.2.2.2.2.2.1:Nat):Int),.int .u64 ((r.2.2.2.2.2.2.2.2.2.2.2.2.2.2.2.1:Nat):Int)],.int .i64 r.2.2.2.2.2.2.2.2.2.2.2.2.2.2.2.2]∧Hp m m' []):=by
 unfold K9 at hF;refine cw Tryz.func12 ((Hp.start m).i h2) ?_;refine wz ?_;refine wb fun b0=>?_;refine wa DP fun b1=>?_;refine ay ?_;refine Wo.od (ah (k:=1) fO rfl rfl rfl) rfl ?_;refine wz ?_;obtain⟨r4,h3,hF⟩:=J hF;refine wc gn (fun m hm=>Et n x1 l1 x3 a0 c0 _ h3 m (hm.q 2)) ?_;rintro⟨⟩;refine ay ?_;rcases aa hF with⟨h4,hF⟩|⟨h4,hF⟩
 ·refine wz ?_;refine Wo.od (dZ rfl DP rfl (ee CA rfl rfl rfl)) rfl ?_;refine wz ?_;refine Wo.o0 (aL (k:=0) iT rfl rfl rfl rfl rfl) ?_;refine ay ?_;cases hF;exact At.ret (.cell (k:=0) iT rfl rfl rfl (.tmp rfl .nil)) fun m' hm=>⟨(),rfl,(ak.aA [] rfl rfl) m' hm⟩
 ·refine wz ?_;refine Wk.seq<|Wk.seq ?_;obtain⟨v0,h5,hF⟩:=J hF;refine ct (fun v0 (_:Unit)=>⟨.normal,[(1,.int .u64 ((x3:Nat):Int)),(2,.int .i64 x4),(3,ptr b0 0),(6,ptr b1 0),(35,.bool v0)],[.obj b0 (.cells [.int .i64 x1,.slice a0 l1.length c0] .own),.rd a0 c0 2 l1.length (l1.map (eP (eI .i64) (eI .i64))),.obj b1 (.cells [.int .u64 ((0:Nat):Int),.int .u64 ((0:Nat):Int),.int .u64 ((0:Nat):Int),.int .u64 ((0:Nat):Int),.int .u64 ((0:Nat):Int),.int .u64 ((0:Nat):Int),.int .u64 ((0:Nat):Int),.int .u64 ((0:Nat):Int),.int .u64 ((0:Nat):Int),.int .u64 ((0:Nat):Int),.int .u64 ((0:Nat):Int),.int .u64 ((0:Nat):Int),.int .u64 ((0:Nat):Int),.int .u64 ((0:Nat):Int),.int .u64 ((0:Nat):Int),.int .u64 ((0:Nat):Int)] .own)]⟩) v0 ?_ ?_
  ·clear hF;revert v0;intro r hF;refine wz ?_;rcases aa hF with⟨h1,hF⟩|⟨h1,hF⟩
   ·refine wz ?_;cases hF;exact ae () [1,2,0]
   ·refine wz ?_;refine Wo.og (ah (k:=1) o5 rfl rfl rfl) (gg rfl rfl (oC h1)) rfl ?_;refine wz ?_;rcases aa hF with⟨h0,hF⟩|⟨h0,hF⟩
    ·refine wz ?_;cases hF;exact ae () [1,2,0]
    ·refine wz ?_;refine Wo.og (ah (k:=1) o5 rfl rfl rfl) (gg rfl rfl (oC h0)) rfl ?_;refine wz ?_;obtain⟨h6,hF⟩:=cm hF;refine Wo.dY (k:=2) rfl (bE h6) ?_;rintro b4 o1 rfl;refine wz ?_;obtain⟨⟨x5,x6⟩,h7,hF⟩:=J hF;refine Wo.og (dv (k:=0) jt rfl rfl (aO h7) rfl rfl) (gg rfl rfl (oC h0)) rfl ?_;obtain⟨r5,h8,hF⟩:=J hF;refine wc (gg rfl rfl (oC h0)) (fun m hm=>zh n x3 x5 x6  _ h8 m) ?_;rintro⟨⟩;refine wz ?_;cases hF;exact ae () [2,3,1]
  ·clear h5;rintro⟨⟩;refine At.tn ?_;rcases aa hF with⟨h9,hF⟩|⟨h9,hF⟩
   ·refine wz ?_;refine Wo.od (dZ rfl DP rfl (ee CA rfl rfl rfl)) rfl<|Wo.o0 (aL (k:=2) iT rfl rfl rfl rfl rfl) ?_;refine ay ?_;cases hF;exact At.ret (.cell (k:=2) iT rfl rfl rfl (.tmp rfl .nil)) fun m' hm=>⟨(),rfl,(ak.aA [] rfl rfl) m' hm⟩
   ·refine ay ?_;refine Wo.od (ah (k:=0) fO rfl rfl rfl) rfl ?_;refine wz ?_;obtain⟨⟨r0,l2⟩,h10,hF⟩:=J hF;refine wv gn (fun m hm=>zQ n x1 l1 x3 [] [] a0 c0 none none _ h10 m hm.aN (hG.ext hm.ext) (hm.q 1) (hm.no 1) Az.nil Az.nil) ?_;rintro⟨a1,c1,n1⟩;refine Wo.ca (k:=0) rfl ?_;rintro rfl;refine wa eT fun b2=>?_;refine Wo.o0 (aL (k:=0) aD rfl rfl rfl rfl rfl) ?_;refine ay ?_;refine Wo.od (ah (k:=0) aD rfl rfl rfl) rfl ?_;obtain⟨r6,h11,hF⟩:=J hF;refine wc gn (fun m hm=>Du n r0 l2 a1 c1 _ h11 m (hm.q 1)) ?_;rintro⟨⟩;refine wz ?_;rcases aa hF with⟨h12,hF⟩|⟨h12,hF⟩
    ·refine wz ?_;refine Wo.od (dZ rfl DP rfl (ee CA rfl rfl rfl)) rfl<|Wo.o0 (aL (k:=4) iT rfl rfl rfl rfl rfl) ?_;refine ay ?_;cases hF;exact At.ret (.cell (k:=4) iT rfl rfl rfl (.tmp rfl .nil)) fun m' hm=>⟨(),rfl,(ak.aA [] rfl rfl) m' hm⟩
    ·refine wz ?_;refine Wk.seq<|Wk.dc (prs:=[(0,4),(4,7),(6,7)]) (by kernel_rfl)<|Wn.B9 rfl (ah (k:=2) fO rfl rfl rfl) rfl<|Wn.od (aZ rfl) rfl<|Wn.x GH gn rfl fun b3=>?_
     refine Wn.od (aZ rfl) rfl<|Wn.Oz (l:=[b0,b2]) (Od.x (ze (q:=0) (xs:=([]:List (Int × Bool))) (k:=x4) (v:=true) (vE:=(fun b:Bool=>.bool b)) JP (iM u3) rfl rfl rfl rfl)) ⟨⟨_,3,rfl,rfl,fun _=>⟨3,rfl⟩⟩,⟨⟨_,1,rfl,rfl,fun _=>⟨1,rfl⟩⟩,trivial⟩⟩ gn fun _=>?_;refine Wn.od (aZ rfl) rfl ?_;obtain⟨⟨r1,l5⟩,h13,hF⟩:=J hF;refine nv gn (fun m hm=>zQ n x1 l1 x3 (fE ([]:List (Int × Bool)) x4 true) [] a0 c0 (some b3) none _ h13 m hm.aN (hG.ext hm.ext) (hm.q 4) (hm.no 4) (hm.Ov (k:=0) (xs:=(fE ([]:List (Int × Bool)) x4 true)) rfl) Az.nil) ?_;rintro⟨a2,c2,n2⟩;refine Wn.ca (k:=0) rfl ?_;rintro rfl;refine Wn.B9 rfl (ah (k:=2) aD rfl rfl rfl) rfl ?_;obtain⟨⟨r2,l3,r3,l4⟩,h14,hF⟩:=J hF;refine Wn.c (A7 (N:=(fun x:Option Addr × Nat × Nat × Option Addr × Nat × Nat=>[.rd x.1 x.2.1 1 x.2.2.1 (l3.map (eN .u64)),.rd x.2.2.2.1 x.2.2.2.2.1 1 x.2.2.2.2.2 (l4.map (eN .u64))])) rfl rfl (fun m hm=>F4 n r1 l5 r0 l2 a2 c2 a1 c1 _ h14 m hm.aN (hm.q 0) (hm.no 0) (hm.q 3) (hm.no 3)) fun _=>rfl) gn rfl ?_;rintro⟨a3,c3,n3,a4,c4,n4⟩;refine Wn.ca (k:=0) rfl ?_;rintro rfl;refine Wn.ca (k:=1) rfl ?_;rintro rfl;obtain⟨⟨r7,r8,r9,r10,r11,r12,r13,r14,r15,r16,r17,r18,r19,r20,r21,r22,r23⟩,h15,hF⟩:=J hF;refine nc gn (fun m hm=>FH n r2 l3 r3 l4 a3 c3 a4 c4 _ h15 m (hm.q 0) (hm.q 1)) ?_;rintro⟨⟩;refine Wn.od (lW rfl rfl) rfl<|Wn.od (lW rfl rfl) rfl<|Wn.o0 (aL (k:=8) iT rfl rfl rfl rfl rfl)<|Wn.od (gT rfl) rfl ?_;refine Wn.nil (fun m hm=>(by(first|refine cD.rk rfl rfl rfl (by simp) ?_|refine cD.step rfl ?_); exact(by(first|refine cD.kr rfl rfl rfl (by simp) ?_|refine cD.step rfl ?_); exact(cD.step rfl cD.nil)))) ?_
     refine ay ?_;cases hF;exact At.ret (.cell (k:=8) iT rfl rfl rfl (.tmp rfl .nil)) fun m' hm=>⟨(),rfl,(ak.aA [] rfl rfl) m' hm⟩
theorem K3 (n x1 x2 x3 x4 x5 x6 x7 x8 r) (hF:MH n x1 x2 x3 x4 x5 x6 x7 x8=some r) (m):
  aB an 32 [.agg #[.int .u64 ((x1:Nat):Int),.int .u64 ((x2:Nat):Int),.int .u64 ((x3:Nat):Int),.int .u64 ((x4:Nat):Int),.int .u64 ((x5:Nat):Int),.int .u64 ((x6:Nat):Int),.int .u64 ((x7:Nat):Int),.int .u64 ((x8:Nat):Int)]] m (fun v m'=>∃x:Unit,v = .int .i64 r∧Hp m m' []):=by
 unfold MH at hF;refine cw Tryz.func32 (Hp.start m) ?_;refine wz ?_;refine wb fun b9=>?_;refine ay ?_;refine Wo.od (ah (k:=0) bH rfl rfl rfl) rfl ?_;obtain⟨⟨r11,r12,r13,r14,r15,r16,r17,r18,r19⟩,h10,hF⟩:=J hF;refine wc gn (fun m hm=>oj n x1 x2 x3 x4 x5 x6 x7 x8  _ h10 m) ?_;rintro⟨⟩;refine Wo.od (GS rfl ((HK _).trans (dp nz rfl))) rfl ?_;refine wz ?_;rcases aa hF with⟨h20,hF⟩|⟨h20,hF⟩
 ·refine ay ?_;cases hF;exact ar () []
 ·refine wz ?_;refine Wo.od (ah (k:=0) bH rfl rfl rfl) rfl<|Wo.od (dZ rfl z38 rfl (ee xz rfl rfl rfl)) rfl<|Wo.od (aI rfl rfl (su Ea (Fu _ _ _ _ _ _ _ _ _ _ _ _ _ _ _ _))) rfl ?_;refine wz ?_;rcases aa hF with⟨h21,hF⟩|⟨h21,hF⟩
  ·refine ay ?_;cases hF;exact ar () []
  ·refine fa ?_;cases hF;exact ar () []
theorem Gi (n x1 x2 x3 x4 x5 x6 x7 x8 r) (hF:KK n x1 x2 x3 x4 x5 x6 x7 x8=some r) (m):
  aB an 172 [.agg #[.int .u64 ((x1:Nat):Int),.int .u64 ((x2:Nat):Int),.int .u64 ((x3:Nat):Int),.int .u64 ((x4:Nat):Int),.int .u64 ((x5:Nat):Int),.int .u64 ((x6:Nat):Int),.int .u64 ((x7:Nat):Int),.int .u64 ((x8:Nat):Int)]] m (fun v m'=>∃x:Unit,v = .bool r∧Hp m m' []):=by
 unfold KK at hF;refine cw Tryz.func172 (Hp.start m) ?_;refine wz ?_;refine wb fun b9=>?_;refine ay ?_;refine Wo.od (ah (k:=0) bK rfl rfl rfl) rfl<|Wo.od (dZ rfl o9 rfl (ee BC rfl rfl rfl)) rfl<|Wo.od (aI rfl rfl (su MS (Mq _ _ _ _ _ _ _ _ _ _ _ _ _ _ _ _))) rfl ?_;refine ay ?_;cases hF;exact ar () []
theorem m8 (n x1 x2 x3 x4 x5 x6 x7 x8 x9 r) (hF:td n x1 x2 x3 x4 x5 x6 x7 x8 x9=some r) (m):
  aB an 164 [.bool x1,.agg #[.int .u64 ((x2:Nat):Int),.int .u64 ((x3:Nat):Int),.int .u64 ((x4:Nat):Int),.int .u64 ((x5:Nat):Int),.int .u64 ((x6:Nat):Int),.int .u64 ((x7:Nat):Int),.int .u64 ((x8:Nat):Int),.int .u64 ((x9:Nat):Int)]] m (fun v m'=>∃x:Unit,v = .agg #[.bool r.1,.int .u64 ((r.2.1:Nat):Int),.int .u64 ((r.2.2.1:Nat):Int),.int .u64 ((r.2.2.2.1:Nat):Int),.int .u64 ((r.2.2.2.2.1:Nat):Int),.int .u64 ((r.2.2.2.2.2.1:Nat):Int),.int .u64 ((r.2.2.2.2.2.2.1:Nat):Int),.int .u64 ((r.2.2.2.2.2.2.2.1:Nat):Int),.int .u64 ((r.2.2.2.2.2.2.2.2:Nat):Int)]∧Hp m m' []):=by
 unfold td at hF;refine cw Tryz.func164 (Hp.start m) ?_;refine wz ?_;refine wb fun b10=>?_;refine wa lK fun b11=>?_;refine wz ?_;refine Wk.seq<|Wk.dc (prs:=[(3,6)]) (by kernel_rfl)<|Wn.od (aZ rfl) rfl<|Wn.od (aZ rfl) rfl ?_
 rcases aa hF with⟨h12,hF⟩|⟨h12,hF⟩
 ·refine Wn.og (ah (k:=1) bK rfl rfl rfl) (gg rfl rfl (lN h12)) rfl ?_;obtain⟨r14,h13,hF⟩:=J hF;refine nc (gg rfl rfl (lN h12)) (fun m hm=>Gi n x2 x3 x4 x5 x6 x7 x8 x9  _ h13 m) ?_;rintro⟨⟩;refine Wn.og (CB rfl rfl) (gg rfl rfl (lN h12)) rfl<|Wn.od (HD rfl h12 rfl) rfl<|Wn.od (ah (k:=1) bK rfl rfl rfl) rfl<|Wn.od (dZ rfl lK rfl (ee BG rfl rfl rfl)) rfl<|Wn.o0 (aL (k:=0) cT rfl rfl rfl rfl rfl)<|Wn.nil (fun m hm=>cD.all rfl) ?_;refine ay ?_;cases hF;exact At.ret (.cell (k:=0) cT rfl rfl rfl .nil) fun m' hm=>⟨(),rfl,(ak.aA [] rfl rfl) m' hm⟩
 ·refine Wn.s (gg rfl rfl (Ld h12)) rfl<|Wn.s (gg rfl rfl (Ld h12)) rfl<|Wn.s (gg rfl rfl (Ld h12)) rfl<|Wn.od (HG rfl h12 rfl) rfl<|Wn.od (ah (k:=1) bK rfl rfl rfl) rfl<|Wn.od (dZ rfl lK rfl (ee BG rfl rfl rfl)) rfl<|Wn.o0 (aL (k:=0) cT rfl rfl rfl rfl rfl)<|Wn.nil (fun m hm=>cD.all rfl) ?_;refine ay ?_;cases hF;exact At.ret (.cell (k:=0) cT rfl rfl rfl .nil) fun m' hm=>⟨(),rfl,(ak.aA [] rfl rfl) m' hm⟩
theorem Ia (n x1 x2 x3 x4 x5 x6 x7 x8 x9 r) (hF:Ic n x1 x2 x3 x4 x5 x6 x7 x8 x9=some r) (m):
  aB an 165 [.agg #[.bool x1,.int .u64 ((x2:Nat):Int),.int .u64 ((x3:Nat):Int),.int .u64 ((x4:Nat):Int),.int .u64 ((x5:Nat):Int),.int .u64 ((x6:Nat):Int),.int .u64 ((x7:Nat):Int),.int .u64 ((x8:Nat):Int),.int .u64 ((x9:Nat):Int)]] m (fun v m'=>∃x:Unit,v = .agg #[.bool r.1,.int .u64 ((r.2.1:Nat):Int),.int .u64 ((r.2.2.1:Nat):Int),.int .u64 ((r.2.2.2.1:Nat):Int),.int .u64 ((r.2.2.2.2.1:Nat):Int),.int .u64 ((r.2.2.2.2.2.1:Nat):Int),.int .u64 ((r.2.2.2.2.2.2.1:Nat):Int),.int .u64 ((r.2.2.2.2.2.2.2.1:Nat):Int),.int .u64 ((r.2.2.2.2.2.2.2.2:Nat):Int)]∧Hp m m' []):=by
 unfold Ic at hF;refine cw Tryz.func165 (Hp.start m) ?_;refine wz ?_;refine wb fun b10=>?_;refine wa lK fun b11=>?_;refine ay ?_;refine Wo.od (ah (k:=1) nz rfl rfl rfl) rfl ?_;refine wz ?_;refine Wo.od (ah (k:=1) bK rfl rfl rfl) rfl ?_;obtain⟨⟨r13,r14,r15,r16,r17,r18,r19,r20,r21⟩,h12,hF⟩:=J hF;refine wc gn (fun m hm=>m8 n (!x1) x2 x3 x4 x5 x6 x7 x8 x9  _ h12 m) ?_;rintro⟨⟩;refine Wo.o0 (aL (k:=0) cT rfl rfl rfl rfl rfl) ?_;refine ay ?_;cases hF;exact At.ret (.cell (k:=0) cT rfl rfl rfl .nil) fun m' hm=>⟨(),rfl,(ak.aA [] rfl rfl) m' hm⟩
theorem Hu (n x1 x2 x3 x4 x5 x6 x7 x8 x9 x10 x11 x12 x13 x14 x15 x16 r) (hF:C5 n x1 x2 x3 x4 x5 x6 x7 x8 x9 x10 x11 x12 x13 x14 x15 x16=some r) (m):
  aB an 163 [.agg #[.int .u64 ((x1:Nat):Int),.int .u64 ((x2:Nat):Int),.int .u64 ((x3:Nat):Int),.int .u64 ((x4:Nat):Int),.int .u64 ((x5:Nat):Int),.int .u64 ((x6:Nat):Int),.int .u64 ((x7:Nat):Int),.int .u64 ((x8:Nat):Int)],.agg #[.int .u64 ((x9:Nat):Int),.int .u64 ((x10:Nat):Int),.int .u64 ((x11:Nat):Int),.int .u64 ((x12:Nat):Int),.int .u64 ((x13:Nat):Int),.int .u64 ((x14:Nat):Int),.int .u64 ((x15:Nat):Int),.int .u64 ((x16:Nat):Int)]] m (fun v m'=>∃x:Unit,v = .tuple #[.agg #[.int .u64 ((r.1:Nat):Int),.int .u64 ((r.2.1:Nat):Int),.int .u64 ((r.2.2.1:Nat):Int),.int .u64 ((r.2.2.2.1:Nat):Int),.int .u64 ((r.2.2.2.2.1:Nat):Int),.int .u64 ((r.2.2.2.2.2.1:Nat):Int),.int .u64 ((r.2.2.2.2.2.2.1:Nat):Int),.int .u64 ((r.2.2.2.2.2.2.2.1:Nat):Int)],.int .u64 ((r.2.2.2.2.2.2.2.2:Nat):Int)]∧Hp m m' []):=by
 unfold C5 at hF;refine cw Tryz.func163 (Hp.start m) ?_;refine wz ?_;refine wb fun b17=>?_;refine wb fun b18=>?_;refine wa o9 fun b19=>?_;refine fa ?_;refine Wk.block ?_;obtain⟨r71,h70,hF⟩:=J hF;refine ct (fun(l56,v57) (_:Unit)=>⟨(.exit 0),[(2,ptr b17 0),(4,ptr b19 0),(6,.int .u64 ((v57:Nat):Int))],[.arr b17 1 8 (l56.map (eN .u64)) .own,.obj b19 (.cells [.int .u64 ((0:Nat):Int),.int .u64 ((0:Nat):Int),.int .u64 ((0:Nat):Int),.int .u64 ((0:Nat):Int),.int .u64 ((0:Nat):Int),.int .u64 ((0:Nat):Int),.int .u64 ((0:Nat):Int),.int .u64 ((0:Nat):Int)] .own)]⟩) r71 ?_ ?_
 ·refine Wk.rf (fs':=[(2,ptr b17 0),(3,ptr b18 0),(4,ptr b19 0),(6,.int .u64 ((0:Nat):Int)),(8,.int .i64 0)]) (ps':=[.arr b17 1 8 (([x1,x2,x3,x4,x5,x6,x7,x8]:List (Nat)).map (eN .u64)) .own,.arr b18 1 8 (([x9,x10,x11,x12,x13,x14,x15,x16]:List (Nat)).map (eN .u64)) .own,.obj b19 (.cells [.int .u64 ((0:Nat):Int),.int .u64 ((0:Nat):Int),.int .u64 ((0:Nat):Int),.int .u64 ((0:Nat):Int),.int .u64 ((0:Nat):Int),.int .u64 ((0:Nat):Int),.int .u64 ((0:Nat):Int),.int .u64 ((0:Nat):Int)] .own)]) (sc rfl (sc rfl (sc rfl (sc rfl (sc rfl sn))))) (ak.trans (ak.mR (k:=2) (xs:=([x1,x2,x3,x4,x5,x6,x7,x8]:List (Nat))) (f:=eN .u64) (l:=8) (w:=1) rfl rfl rfl (Cr .u64) rfl) (ak.trans (ak.mR (k:=1) (xs:=([x9,x10,x11,x12,x13,x14,x15,x16]:List (Nat))) (f:=eN .u64) (l:=8) (w:=1) rfl rfl rfl (Cr .u64) rfl) (ak.aA [2,1,0] rfl rfl)))<|Wk.loop (σ:=List (Nat) × List (Nat) × Nat × Int) (ρ:=List (Nat) × Nat) (γ:=Unit) (δ:=fun _=>Unit) _ (fun(s:List (Nat) × List (Nat) × Nat × Int) (g:Unit)=>match s,g with | (l36,l37,v38,v39),_=>⟨.normal,[(2,ptr b17 0),(3,ptr b18 0),(4,ptr b19 0),(6,.int .u64 ((v38:Nat):Int)),(8,.int .i64 v39)],[.arr b17 1 8 (l36.map (eN .u64)) .own,.arr b18 1 8 (l37.map (eN .u64)) .own,.obj b19 (.cells [.int .u64 ((0:Nat):Int),.int .u64 ((0:Nat):Int),.int .u64 ((0:Nat):Int),.int .u64 ((0:Nat):Int),.int .u64 ((0:Nat):Int),.int .u64 ((0:Nat):Int),.int .u64 ((0:Nat):Int),.int .u64 ((0:Nat):Int)] .own)]⟩) (fun(r:List (Nat) × Nat) (g:Unit)=>match r,g with | (l56,v57),_=>⟨(.exit 0),[(2,ptr b17 0),(4,ptr b19 0),(6,.int .u64 ((v57:Nat):Int))],[.arr b17 1 8 (l56.map (eN .u64)) .own,.obj b19 (.cells [.int .u64 ((0:Nat):Int),.int .u64 ((0:Nat):Int),.int .u64 ((0:Nat):Int),.int .u64 ((0:Nat):Int),.int .u64 ((0:Nat):Int),.int .u64 ((0:Nat):Int),.int .u64 ((0:Nat):Int),.int .u64 ((0:Nat):Int)] .own)]⟩) ?_ (fun _ _=>rfl) (fun r d=>by intro e; cases e) _ _ _ h70 ()
  clear hF h70;rintro⟨l36,l37,v38,v39⟩ ⟨⟩ r hF;unfold fJ at hF;refine wz ?_;refine Wk.seq ?_;rcases aa hF with⟨h58,hF⟩|⟨h58,hF⟩
  ·refine fa ?_;obtain⟨h59,hF⟩:=cm hF;refine Wo.og (fG cV rfl rfl h59) gn rfl ?_;obtain⟨x60,h61,hF⟩:=J hF;refine Wo.od (dt (k:=0) aV rfl rfl (aO h61) rfl rfl) rfl ?_;refine wz ?_;obtain⟨h62,hF⟩:=cm hF;refine Wo.og (fG cV rfl rfl h62) gn rfl ?_;obtain⟨x63,h64,hF⟩:=J hF;refine Wo.od (dt (k:=1) aV rfl rfl (aO h64) rfl rfl) rfl ?_;refine wz ?_;obtain⟨⟨r66,r67⟩,h65,hF⟩:=J hF;refine wc gn (fun m hm=>jd n x60 x63 v38  _ h65 m) ?_;rintro⟨⟩;refine wz ?_;obtain⟨h68,hF⟩:=cm hF;refine Wo.og (fG cV rfl rfl h68) gn rfl<|Wo.o0 (eL (k:=0) (x1:=x60) (x2:=r66) aV rfl rfl rfl h61 rfl) ?_;refine ay ?_;cases hF;exact ae () [0,1,2]
  ·refine wz ?_;cases hF;exact ae () [0,2]
 ·clear h70;obtain⟨l56,v57⟩:=r71;rintro⟨⟩;refine ay ?_;obtain⟨⟨x72,x73,x74,x75,x76,x77,x78,x79⟩,h80,hF⟩:=J hF;refine Wo.ku (ak.ph (k:=0) (ys:=[x72,x73,x74,x75,x76,x77,x78,x79]) (cs:=[.int .u64 ((x72:Nat):Int),.int .u64 ((x73:Nat):Int),.int .u64 ((x74:Nat):Int),.int .u64 ((x75:Nat):Int),.int .u64 ((x76:Nat):Int),.int .u64 ((x77:Nat):Int),.int .u64 ((x78:Nat):Int),.int .u64 ((x79:Nat):Int)]) rfl (mV h80) rfl)<|Wo.od (ah (k:=0) bK rfl rfl rfl) rfl ?_;refine wz ?_;refine Wo.o0 (aL (k:=1) bK rfl rfl rfl rfl rfl) ?_;refine ay ?_;cases hF;exact At.ret (.cell (k:=1) bK rfl rfl rfl (.tmp rfl .nil)) fun m' hm=>⟨(),rfl,(ak.aA [] rfl rfl) m' hm⟩
theorem GR (n x1 x2 x3 x4 x5 x6 x7 x8 x9 x10 x11 x12 x13 x14 x15 x16 x17 x18 r) (hF:zd n x1 x2 x3 x4 x5 x6 x7 x8 x9 x10 x11 x12 x13 x14 x15 x16 x17 x18=some r) (m):
  aB an 149 [.agg #[.bool x1,.int .u64 ((x2:Nat):Int),.int .u64 ((x3:Nat):Int),.int .u64 ((x4:Nat):Int),.int .u64 ((x5:Nat):Int),.int .u64 ((x6:Nat):Int),.int .u64 ((x7:Nat):Int),.int .u64 ((x8:Nat):Int),.int .u64 ((x9:Nat):Int)],.agg #[.bool x10,.int .u64 ((x11:Nat):Int),.int .u64 ((x12:Nat):Int),.int .u64 ((x13:Nat):Int),.int .u64 ((x14:Nat):Int),.int .u64 ((x15:Nat):Int),.int .u64 ((x16:Nat):Int),.int .u64 ((x17:Nat):Int),.int .u64 ((x18:Nat):Int)]] m (fun v m'=>∃x:Unit,v = .tuple #[.agg #[.bool r.1,.int .u64 ((r.2.1:Nat):Int),.int .u64 ((r.2.2.1:Nat):Int),.int .u64 ((r.2.2.2.1:Nat):Int),.int .u64 ((r.2.2.2.2.1:Nat):Int),.int .u64 ((r.2.2.2.2.2.1:Nat):Int),.int .u64 ((r.2.2.2.2.2.2.1:Nat):Int),.int .u64 ((r.2.2.2.2.2.2.2.1:Nat):Int),.int .u64 ((r.2.2.2.2.2.2.2.2.1:Nat):Int)],.bool r.2.2.2.2.2.2.2.2.2]∧Hp m m' []):=by
 unfold zd at hF;refine cw Tryz.func149 (Hp.start m) ?_;refine wz ?_;refine wb fun b19=>?_;refine wb fun b20=>?_;refine wa lK fun b21=>?_;refine ay ?_;refine Wo.od (ah (k:=2) nz rfl rfl rfl) rfl ?_;refine wz ?_;refine Wo.od (ah (k:=1) nz rfl rfl rfl) rfl<|Wo.od (aI rfl rfl (D4 u4)) rfl ?_;refine wz ?_;rcases aa hF with⟨h22,hF⟩|⟨h22,hF⟩
 ·refine wz ?_;refine Wo.od (ah (k:=2) bK rfl rfl rfl) rfl ?_;refine wz ?_;refine Wo.od (ah (k:=1) bK rfl rfl rfl) rfl ?_;obtain⟨⟨r24,r25,r26,r27,r28,r29,r30,r31,r32⟩,h23,hF⟩:=J hF;refine wc gn (fun m hm=>Hu n x2 x3 x4 x5 x6 x7 x8 x9 x11 x12 x13 x14 x15 x16 x17 x18  _ h23 m) ?_;rintro⟨⟩;refine wz ?_;refine wa o9 fun b33=>?_;refine Wo.o0 (aL (k:=0) bK rfl rfl rfl rfl rfl) ?_;refine ay ?_;refine Wo.od (ah (k:=3) nz rfl rfl rfl) rfl<|Wo.od (ah (k:=0) bK rfl rfl rfl) rfl ?_;obtain⟨⟨r35,r36,r37,r38,r39,r40,r41,r42,r43⟩,h34,hF⟩:=J hF;refine wc gn (fun m hm=>m8 n x1 r24 r25 r26 r27 r28 r29 r30 r31  _ h34 m) ?_;rintro⟨⟩;refine wz ?_;refine Wo.o0 (aL (k:=1) cT rfl rfl rfl rfl rfl) ?_;refine ay ?_;cases hF;exact At.ret (.cell (k:=1) cT rfl rfl rfl (.tmp rfl .nil)) fun m' hm=>⟨(),rfl,(ak.aA [] rfl rfl) m' hm⟩
 ·refine ay ?_;refine Wo.od (ah (k:=2) bK rfl rfl rfl) rfl ?_;refine wz ?_;refine Wo.od (ah (k:=1) bK rfl rfl rfl) rfl ?_;obtain⟨r45,h44,hF⟩:=J hF;refine wc gn (fun m hm=>Bv n x2 x3 x4 x5 x6 x7 x8 x9 x11 x12 x13 x14 x15 x16 x17 x18  _ h44 m) ?_;rintro⟨⟩;refine wz ?_;rcases aa hF with⟨h46,hF⟩|⟨h46,hF⟩
  ·refine wz ?_;refine Wo.od (ah (k:=2) bK rfl rfl rfl) rfl ?_;refine wz ?_;refine Wo.od (ah (k:=1) bK rfl rfl rfl) rfl ?_;obtain⟨⟨r48,r49,r50,r51,r52,r53,r54,r55,r56⟩,h47,hF⟩:=J hF;refine wc gn (fun m hm=>pO n x2 x3 x4 x5 x6 x7 x8 x9 x11 x12 x13 x14 x15 x16 x17 x18  _ h47 m) ?_;rintro⟨⟩;refine wz ?_;refine wa o9 fun b57=>?_;refine Wo.o0 (aL (k:=0) bK rfl rfl rfl rfl rfl) ?_;refine ay ?_;refine Wo.od (ah (k:=3) nz rfl rfl rfl) rfl<|Wo.od (ah (k:=0) bK rfl rfl rfl) rfl ?_;obtain⟨⟨r59,r60,r61,r62,r63,r64,r65,r66,r67⟩,h58,hF⟩:=J hF;refine wc gn (fun m hm=>m8 n x1 r48 r49 r50 r51 r52 r53 r54 r55  _ h58 m) ?_;rintro⟨⟩;refine Wo.o0 (aL (k:=1) cT rfl rfl rfl rfl rfl) ?_;refine ay ?_;cases hF;exact At.ret (.cell (k:=1) cT rfl rfl rfl (.tmp rfl .nil)) fun m' hm=>⟨(),rfl,(ak.aA [] rfl rfl) m' hm⟩
  ·refine ay ?_;refine Wo.od (ah (k:=1) bK rfl rfl rfl) rfl ?_;refine wz ?_;refine Wo.od (ah (k:=2) bK rfl rfl rfl) rfl ?_;obtain⟨⟨r69,r70,r71,r72,r73,r74,r75,r76,r77⟩,h68,hF⟩:=J hF;refine wc gn (fun m hm=>pO n x11 x12 x13 x14 x15 x16 x17 x18 x2 x3 x4 x5 x6 x7 x8 x9  _ h68 m) ?_;rintro⟨⟩;refine wz ?_;refine wa o9 fun b78=>?_;refine Wo.o0 (aL (k:=0) bK rfl rfl rfl rfl rfl) ?_;refine ay ?_;refine Wo.od (ah (k:=2) nz rfl rfl rfl) rfl<|Wo.od (ah (k:=0) bK rfl rfl rfl) rfl ?_;obtain⟨⟨r80,r81,r82,r83,r84,r85,r86,r87,r88⟩,h79,hF⟩:=J hF;refine wc gn (fun m hm=>m8 n x10 r69 r70 r71 r72 r73 r74 r75 r76  _ h79 m) ?_;rintro⟨⟩;refine Wo.o0 (aL (k:=1) cT rfl rfl rfl rfl rfl) ?_;refine ay ?_;cases hF;exact At.ret (.cell (k:=1) cT rfl rfl rfl (.tmp rfl .nil)) fun m' hm=>⟨(),rfl,(ak.aA [] rfl rfl) m' hm⟩
theorem H5 (n x1 x2 x3 x4 x5 x6 x7 x8 x9 x10 x11 x12 x13 x14 x15 x16 x17 x18 r) (hF:Dv n x1 x2 x3 x4 x5 x6 x7 x8 x9 x10 x11 x12 x13 x14 x15 x16 x17 x18=some r) (m):
  aB an 150 [.agg #[.bool x1,.int .u64 ((x2:Nat):Int),.int .u64 ((x3:Nat):Int),.int .u64 ((x4:Nat):Int),.int .u64 ((x5:Nat):Int),.int .u64 ((x6:Nat):Int),.int .u64 ((x7:Nat):Int),.int .u64 ((x8:Nat):Int),.int .u64 ((x9:Nat):Int)],.agg #[.bool x10,.int .u64 ((x11:Nat):Int),.int .u64 ((x12:Nat):Int),.int .u64 ((x13:Nat):Int),.int .u64 ((x14:Nat):Int),.int .u64 ((x15:Nat):Int),.int .u64 ((x16:Nat):Int),.int .u64 ((x17:Nat):Int),.int .u64 ((x18:Nat):Int)]] m (fun v m'=>∃x:Unit,v = .tuple #[.agg #[.bool r.1,.int .u64 ((r.2.1:Nat):Int),.int .u64 ((r.2.2.1:Nat):Int),.int .u64 ((r.2.2.2.1:Nat):Int),.int .u64 ((r.2.2.2.2.1:Nat):Int),.int .u64 ((r.2.2.2.2.2.1:Nat):Int),.int .u64 ((r.2.2.2.2.2.2.1:Nat):Int),.int .u64 ((r.2.2.2.2.2.2.2.1:Nat):Int),.int .u64 ((r.2.2.2.2.2.2.2.2.1:Nat):Int)],.bool r.2.2.2.2.2.2.2.2.2]∧Hp m m' []):=by
 unfold Dv at hF;refine cw Tryz.func150 (Hp.start m) ?_;refine wz ?_;refine wb fun b19=>?_;refine wb fun b20=>?_;refine wa lK fun b21=>?_;refine wz ?_;refine Wk.seq<|Wk.dc (prs:=[(0,2)]) (by kernel_rfl)<|Wn.od (ah (k:=2) cT rfl rfl rfl) rfl<|Wn.od (ah (k:=1) cT rfl rfl rfl) rfl ?_
 obtain⟨⟨r23,r24,r25,r26,r27,r28,r29,r30,r31⟩,h22,hF⟩:=J hF;refine nc gn (fun m hm=>Ia n x10 x11 x12 x13 x14 x15 x16 x17 x18  _ h22 m) ?_;rintro⟨⟩;obtain⟨⟨r33,r34,r35,r36,r37,r38,r39,r40,r41,r42⟩,h32,hF⟩:=J hF;refine nc gn (fun m hm=>GR n x1 x2 x3 x4 x5 x6 x7 x8 x9 r23 r24 r25 r26 r27 r28 r29 r30 r31  _ h32 m) ?_;rintro⟨⟩;refine Wn.od (lW rfl rfl) rfl<|Wn.od (lW rfl rfl) rfl<|Wn.o0 (aL (k:=0) cT rfl rfl rfl rfl rfl)<|Wn.od (gT rfl) rfl<|Wn.nil (fun m hm=>cD.all rfl) ?_;refine ay ?_;cases hF;exact At.ret (.cell (k:=0) cT rfl rfl rfl (.tmp rfl .nil)) fun m' hm=>⟨(),rfl,(ak.aA [] rfl rfl) m' hm⟩
theorem JX (n x1 x2 x3 x4 x5 x6 x7 x8 x9 x10 x11 x12 x13 x14 x15 x16 r) (hF:Me n x1 x2 x3 x4 x5 x6 x7 x8 x9 x10 x11 x12 x13 x14 x15 x16=some r) (m):
  aB an 33 [.agg #[.int .u64 ((x1:Nat):Int),.int .u64 ((x2:Nat):Int),.int .u64 ((x3:Nat):Int),.int .u64 ((x4:Nat):Int),.int .u64 ((x5:Nat):Int),.int .u64 ((x6:Nat):Int),.int .u64 ((x7:Nat):Int),.int .u64 ((x8:Nat):Int)],.agg #[.int .u64 ((x9:Nat):Int),.int .u64 ((x10:Nat):Int),.int .u64 ((x11:Nat):Int),.int .u64 ((x12:Nat):Int),.int .u64 ((x13:Nat):Int),.int .u64 ((x14:Nat):Int),.int .u64 ((x15:Nat):Int),.int .u64 ((x16:Nat):Int)]] m (fun v m'=>∃x:Unit,v = .tuple #[.agg #[.int .u64 ((r.1:Nat):Int),.int .u64 ((r.2.1:Nat):Int),.int .u64 ((r.2.2.1:Nat):Int),.int .u64 ((r.2.2.2.1:Nat):Int),.int .u64 ((r.2.2.2.2.1:Nat):Int),.int .u64 ((r.2.2.2.2.2.1:Nat):Int),.int .u64 ((r.2.2.2.2.2.2.1:Nat):Int),.int .u64 ((r.2.2.2.2.2.2.2.1:Nat):Int)],.int .i64 r.2.2.2.2.2.2.2.2]∧Hp m m' []):=by
 unfold Me at hF;refine cw Tryz.func33 (Hp.start m) ?_;refine wz ?_;refine wb fun b6=>?_;refine wb fun b7=>?_;refine wa z38 fun b1=>?_;refine ay ?_;refine Wo.od (ah (k:=2) bH rfl rfl rfl) rfl<|Wo.od (ah (k:=1) bH rfl rfl rfl) rfl ?_;obtain⟨r0,h0,hF⟩:=J hF;refine Wo.x (gU (α:=Unit) (V:=fun g=>(fun(r:Nat × Nat × Nat × Nat × Nat × Nat × Nat × Nat × Int) (g:Unit)=>match r,g with | (v0,v1,v2,v3,v4,v5,v6,v7,v8),_=>(.tuple #[.agg #[.int .u64 ((v0:Nat):Int),.int .u64 ((v1:Nat):Int),.int .u64 ((v2:Nat):Int),.int .u64 ((v3:Nat):Int),.int .u64 ((v4:Nat):Int),.int .u64 ((v5:Nat):Int),.int .u64 ((v6:Nat):Int),.int .u64 ((v7:Nat):Int)],.int .i64 v8]:Value)) r0 g) (N:=fun g=>(fun(r:Nat × Nat × Nat × Nat × Nat × Nat × Nat × Nat × Int) (g:Unit)=>match r,g with | (v0,v1,v2,v3,v4,v5,v6,v7,v8),_=>([.obj b1 (.cells [.int .u64 ((0:Nat):Int),.int .u64 ((0:Nat):Int),.int .u64 ((0:Nat):Int),.int .u64 ((0:Nat):Int),.int .u64 ((0:Nat):Int),.int .u64 ((0:Nat):Int),.int .u64 ((0:Nat):Int),.int .u64 ((0:Nat):Int)] .own)]:List Pc)) r0 g) rfl rfl (fun m hm=>?_)) gn rfl ?_
 ·clear hF;revert r0;intro r hF;refine bI (N:=27) (rs:=[.cell 6 38,.tmp 7]) rfl Tryz.func89 rfl rfl rfl hm ?_;refine wz ?_;refine wb fun b2=>?_;refine wb fun b3=>?_;refine wa z38 fun b4=>?_;refine wz ?_;refine Wk.seq<|Wk.dc (prs:=[(0,3),(2,4),(0,5),(4,5),(2,6)]) (by kernel_rfl) ?_
  obtain⟨r1,h1,hF⟩:=J hF;refine Wn.xk (l:=[b2,b3]) (gU (α:=Nat) (V:=fun g=>(fun(r:Unit) (g:Nat)=>match r,g with|_,b0=>(.map (some b0):Value)) r1 g) (N:=fun g=>(fun(r:Unit) (g:Nat)=>match r,g with|_,b0=>([.obj b0 (.map (([(43,some 149),(45,some 150),(42,some 151)]:List (Int × Option Nat)).map (eM (fun n:Int=>.int .u8 n) Gf))),.obj b1 (.cells [.int .u64 ((0:Nat):Int),.int .u64 ((0:Nat):Int),.int .u64 ((0:Nat):Int),.int .u64 ((0:Nat):Int),.int .u64 ((0:Nat):Int),.int .u64 ((0:Nat):Int),.int .u64 ((0:Nat):Int),.int .u64 ((0:Nat):Int)] .own),.obj b2 (.cells [.int .u64 ((x1:Nat):Int),.int .u64 ((x2:Nat):Int),.int .u64 ((x3:Nat):Int),.int .u64 ((x4:Nat):Int),.int .u64 ((x5:Nat):Int),.int .u64 ((x6:Nat):Int),.int .u64 ((x7:Nat):Int),.int .u64 ((x8:Nat):Int)] .own),.obj b3 (.cells [.int .u64 ((x9:Nat):Int),.int .u64 ((x10:Nat):Int),.int .u64 ((x11:Nat):Int),.int .u64 ((x12:Nat):Int),.int .u64 ((x13:Nat):Int),.int .u64 ((x14:Nat):Int),.int .u64 ((x15:Nat):Int),.int .u64 ((x16:Nat):Int)] .own),.obj b4 (.cells [.int .u64 ((0:Nat):Int),.int .u64 ((0:Nat):Int),.int .u64 ((0:Nat):Int),.int .u64 ((0:Nat):Int),.int .u64 ((0:Nat):Int),.int .u64 ((0:Nat):Int),.int .u64 ((0:Nat):Int),.int .u64 ((0:Nat):Int)] .own)]:List Pc)) r1 g) rfl rfl (fun m hm=>?_)) ⟨⟨_,2,rfl,rfl,fun _=>⟨2,rfl⟩⟩,⟨⟨_,1,rfl,rfl,fun _=>⟨3,rfl⟩⟩,trivial⟩⟩ gn rfl ?_
  ·clear hF;revert r1;intro r hF;refine bI (N:=3) (rs:=[.tmp 0]) rfl Tryz.func131 rfl rfl rfl hm ?_;refine ay ?_;refine Wo.x GH gn rfl fun b5=>?_;refine Wo.o0 (ze (q:=0) (xs:=([]:List (Int × (Option Nat)))) (k:=(43:Int)) (v:=some 149) (vE:=Gf) xG (iM u5) rfl rfl rfl rfl)<|Wo.o0 (ze (q:=0) (xs:=([(43,some 149)]:List (Int × Option Nat))) (k:=(45:Int)) (v:=some 150) (vE:=Gf) xG (iM u5) rfl rfl rfl rfl)<|Wo.o0 (ze (q:=0) (xs:=([(43,some 149),(45,some 150)]:List (Int × Option Nat))) (k:=(42:Int)) (v:=some 151) (vE:=Gf) xG (iM u5) rfl rfl rfl rfl) ?_;refine ay ?_;cases hF;exact ar b5 [0,4,3,2,1]
  ·clear h1;rintro b0;refine Wn.od (aZ rfl) rfl<|Wn.od (IV (q:=0) (xs:=([(43,some 149),(45,some 150),(42,some 151)]:List (Int × Option Nat))) (k:=(45:Int)) (vE:=Gf) (z0:=none) (v:=some 150) xG (iM u5) LU rfl rfl rfl rfl rfl) rfl<|Wn.B9 rfl (ah (k:=2) bH rfl rfl rfl) rfl ?_;obtain⟨⟨r2,r3,r4,r5,r6,r7,r8,r9,r10⟩,h2,hF⟩:=J hF;refine nc gn (fun m hm=>oj n x1 x2 x3 x4 x5 x6 x7 x8  _ h2 m) ?_;rintro⟨⟩;refine Wn.B9 rfl (ah (k:=3) bH rfl rfl rfl) rfl ?_;obtain⟨⟨r11,r12,r13,r14,r15,r16,r17,r18,r19⟩,h3,hF⟩:=J hF;refine nc gn (fun m hm=>oj n x9 x10 x11 x12 x13 x14 x15 x16  _ h3 m) ?_;rintro⟨⟩;obtain⟨⟨r20,r21,r22,r23,r24,r25,r26,r27,r28,r29⟩,h4,hF⟩:=J hF;refine nc gn (fun m hm=>H5 n r2 r3 r4 r5 r6 r7 r8 r9 r10 r11 r12 r13 r14 r15 r16 r17 r18 r19  _ h4 m) ?_;rintro⟨⟩;refine Wn.od (aZ rfl) rfl<|Wn.od (lW rfl rfl) rfl<|Wn.od (lW rfl rfl) rfl<|Wn.x (DR lK rfl) gn rfl fun b8=>?_;refine Wn.o0 (aL (k:=0) cT rfl rfl rfl rfl rfl)<|Wn.od (gT rfl) rfl ?_;refine Wn.nil (fun m hm=>(by(first|refine cD.kr rfl rfl rfl (by simp) ?_|refine cD.step rfl ?_); exact(cD.step rfl (by(first|refine cD.kr rfl rfl rfl (by simp) ?_|refine cD.step rfl ?_); exact(cD.step rfl (cD.step rfl cD.nil)))))) ?_
   refine ay ?_;rcases aa hF with⟨h5,hF⟩|⟨h5,hF⟩
   ·refine wz ?_;refine Wo.od (dZ rfl z38 rfl (ee xz rfl rfl rfl)) rfl<|Wo.o0 (aL (k:=5) bH rfl rfl rfl rfl rfl) ?_;refine ay ?_;cases hF;exact At.ret (.cell (k:=5) bH rfl rfl rfl (.tmp rfl .nil)) fun m' hm=>⟨(),rfl,(ak.aA [2] rfl rfl) m' hm⟩
   ·refine ay ?_;refine Wo.od (ah (k:=0) cT rfl rfl rfl) rfl ?_;obtain⟨⟨r30,r31,r32,r33,r34,r35,r36,r37,r38⟩,h6,hF⟩:=J hF;refine wc gn (fun m hm=>u7 n r20 r21 r22 r23 r24 r25 r26 r27 r28  _ h6 m) ?_;rintro⟨⟩;refine wz ?_;refine Wo.o0 (aL (k:=5) bH rfl rfl rfl rfl rfl) ?_;refine ay ?_;cases hF;exact At.ret (.cell (k:=5) bH rfl rfl rfl (.tmp rfl .nil)) fun m' hm=>⟨(),rfl,(ak.aA [2] rfl rfl) m' hm⟩
 ·clear h0;obtain⟨v0,v1,v2,v3,v4,v5,v6,v7,v8⟩:=r0;rintro⟨⟩;refine wz ?_;refine Wo.o0 (aL (k:=0) bH rfl rfl rfl rfl rfl) ?_;refine ay ?_;cases hF;exact At.ret (.cell (k:=0) bH rfl rfl rfl (.tmp rfl .nil)) fun m' hm=>⟨(),rfl,(ak.aA [] rfl rfl) m' hm⟩
theorem Kp (n x1 x2 x3 x4 x5 x6 x7 x8 x9 x10 x11 x12 x13 x14 x15 x16 r) (hF:M7 n x1 x2 x3 x4 x5 x6 x7 x8 x9 x10 x11 x12 x13 x14 x15 x16=some r) (m):
  aB an 34 [.agg #[.int .u64 ((x1:Nat):Int),.int .u64 ((x2:Nat):Int),.int .u64 ((x3:Nat):Int),.int .u64 ((x4:Nat):Int),.int .u64 ((x5:Nat):Int),.int .u64 ((x6:Nat):Int),.int .u64 ((x7:Nat):Int),.int .u64 ((x8:Nat):Int)],.agg #[.int .u64 ((x9:Nat):Int),.int .u64 ((x10:Nat):Int),.int .u64 ((x11:Nat):Int),.int .u64 ((x12:Nat):Int),.int .u64 ((x13:Nat):Int),.int .u64 ((x14:Nat):Int),.int .u64 ((x15:Nat):Int),.int .u64 ((x16:Nat):Int)]] m (fun v m'=>∃x:Unit,v = .tuple #[.agg #[.int .u64 ((r.1:Nat):Int),.int .u64 ((r.2.1:Nat):Int),.int .u64 ((r.2.2.1:Nat):Int),.int .u64 ((r.2.2.2.1:Nat):Int),.int .u64 ((r.2.2.2.2.1:Nat):Int),.int .u64 ((r.2.2.2.2.2.1:Nat):Int),.int .u64 ((r.2.2.2.2.2.2.1:Nat):Int),.int .u64 ((r.2.2.2.2.2.2.2.1:Nat):Int),.int .u64 ((r.2.2.2.2.2.2.2.2.1:Nat):Int),.int .u64 ((r.2.2.2.2.2.2.2.2.2.1:Nat):Int),.int .u64 ((r.2.2.2.2.2.2.2.2.2.2.1:Nat):Int),.int .u64 ((r.2.2.2.2.2.2.2.2.2.2.2.1:Nat):Int),.int .u64 ((r.2.2.2.2.2.2.2.2.2.2.2.2.1:Nat):Int),.int .u64 ((r.2.2.2.2.2.2.2.2.2.2.2.2.2.1:Nat):Int),.int .u64 ((r.2.2.2.2.2.2.2.2.2.2.2.2.2.2.1:Nat):Int),.int .u64 ((r.2.2.2.2.2.2.2.2.2.2.2.2.2.2.2.1:Nat):Int)],.int .i64 r.2.2.2.2.2.2.2.2.2.2.2.2.2.2.2.2]∧Hp m m' []):=by
 unfold M7 at hF;refine cw Tryz.func34 (Hp.start m) ?_;refine wz ?_;refine wb fun b17=>?_;refine wb fun b18=>?_;refine wa DP fun b19=>?_;refine ay ?_;refine Wo.od (ah (k:=1) bH rfl rfl rfl) rfl<|Wo.od (dZ rfl z38 rfl (ee xz rfl rfl rfl)) rfl<|Wo.od (aI rfl rfl (su Ea (Fu _ _ _ _ _ _ _ _ _ _ _ _ _ _ _ _))) rfl ?_;refine wz ?_;rcases aa hF with⟨h20,hF⟩|⟨h20,hF⟩
 ·refine wz ?_;refine Wo.od (dZ rfl DP rfl (ee CA rfl rfl rfl)) rfl<|Wo.o0 (aL (k:=0) iT rfl rfl rfl rfl rfl) ?_;refine ay ?_;cases hF;exact At.ret (.cell (k:=0) iT rfl rfl rfl (.tmp rfl .nil)) fun m' hm=>⟨(),rfl,(ak.aA [] rfl rfl) m' hm⟩
 ·refine wz ?_;refine Wk.seq<|Wk.dc (prs:=[(1,2)]) (by kernel_rfl)<|Wn.od (ah (k:=2) bH rfl rfl rfl) rfl ?_
  obtain⟨⟨r22,l23⟩,h21,hF⟩:=J hF;refine nv gn (fun m hm=>yq n x1 x2 x3 x4 x5 x6 x7 x8  _ h21 m hm.aN) ?_;rintro⟨a24,c25,n26⟩;refine Wn.ca (k:=0) rfl ?_;rintro rfl;refine Wn.od (ah (k:=2) bH rfl rfl rfl) rfl ?_;obtain⟨⟨r28,l29⟩,h27,hF⟩:=J hF;refine nv gn (fun m hm=>yq n x9 x10 x11 x12 x13 x14 x15 x16  _ h27 m hm.aN) ?_;rintro⟨a30,c31,n32⟩;refine Wn.ca (k:=0) rfl ?_;rintro rfl;obtain⟨⟨r34,l35,r39,l40⟩,h33,hF⟩:=J hF;refine Wn.c (A7 (N:=(fun x:Option Addr × Nat × Nat × Option Addr × Nat × Nat=>[.rd x.1 x.2.1 1 x.2.2.1 (l35.map (eN .u64)),.rd x.2.2.2.1 x.2.2.2.2.1 1 x.2.2.2.2.2 (l40.map (eN .u64))])) rfl rfl (fun m hm=>F4 n r22 l23 r28 l29 a24 c25 a30 c31 _ h33 m hm.aN (hm.q 1) (hm.no 1) (hm.q 0) (hm.no 0)) fun _=>rfl) gn rfl ?_;rintro⟨a36,c37,n38,a41,c42,n43⟩;refine Wn.ca (k:=0) rfl ?_;rintro rfl;refine Wn.ca (k:=1) rfl ?_;rintro rfl;obtain⟨⟨r45,r46,r47,r48,r49,r50,r51,r52,r53,r54,r55,r56,r57,r58,r59,r60,r61⟩,h44,hF⟩:=J hF;refine nc gn (fun m hm=>FH n r34 l35 r39 l40 a36 c37 a41 c42 _ h44 m (hm.q 0) (hm.q 1)) ?_;rintro⟨⟩;refine Wn.od (lW rfl rfl) rfl<|Wn.od (lW rfl rfl) rfl<|Wn.o0 (aL (k:=4) iT rfl rfl rfl rfl rfl)<|Wn.od (gT rfl) rfl<|Wn.nil (fun m hm=>cD.all rfl) ?_;refine ay ?_;cases hF;exact At.ret (.cell (k:=4) iT rfl rfl rfl (.tmp rfl .nil)) fun m' hm=>⟨(),rfl,(ak.aA [] rfl rfl) m' hm⟩
theorem KG (n x1 l2 x6 a3 c4 r) (hF:Lw n x1 l2 x6=some r) (m) (h5:Rd m a3 c4 2 l2.length (l2.map (eP (eI .i64) (eI .i64)))):
  aB an 90 [.agg #[.int .i64 x1,.slice a3 l2.length c4],.int .u64 ((x6:Nat):Int)] m (fun v m'=>∃x:Unit,v = .int .i64 r∧Hp m m' []):=by
 unfold Lw at hF;refine cw Tryz.func90 ((Hp.start m).i h5) ?_;refine wz ?_;refine wb fun b7=>?_;refine ay ?_;refine Wo.od (ah (k:=0) fO rfl rfl rfl) rfl ?_;obtain⟨r9,h8,hF⟩:=J hF;refine wc gn (fun m hm=>Bo n x1 l2 a3 c4 _ h8 m (hm.q 1)) ?_;rintro⟨⟩;refine ay ?_;rcases aa hF with⟨h10,hF⟩|⟨h10,hF⟩
 ·refine ay ?_;obtain rfl:=Option.some.inj hF;exact ar () []
 ·refine wz ?_;refine Wk.seq<|Wk.seq<|Wk.dc (prs:=[(1,3)]) (by kernel_rfl)<|Wn.od (aZ rfl) rfl ?_
  obtain⟨r12,h11,hF⟩:=J hF;refine nc gn (fun m hm=>tZ n x6  _ h11 m) ?_;rintro⟨⟩;refine Wn.od (gP (r:=ptr b7 0) rfl (q7 _ _)) rfl<|Wn.od (ah (k:=0) iF rfl rfl rfl) rfl<|Wn.od (aI rfl rfl (kH _ _ _)) rfl<|Wn.nil (fun m hm=>cD.all rfl)<|At.tn ?_;rcases aa hF with⟨h13,hF⟩|⟨h13,hF⟩
  ·refine ay ?_;cases hF;exact ar () []
  ·refine fa ?_;cases hF;exact ar () []
theorem GO (n x1 l2 a3 c4 r) (hF:EV n x1 l2=some r) (m) (h5:Rd m a3 c4 2 l2.length (l2.map (eP (eI .i64) (eI .i64)))):
  aB an 132 [.agg #[.int .i64 x1,.slice a3 l2.length c4]] m (fun v m'=>∃x:Option Addr × Nat,v = .slice x.1 x.2 x.2∧Hp m m' [.sl x.1 1 x.2 (r.map (eN .u64))]):=by
 unfold EV at hF;refine cw Tryz.func132 ((Hp.start m).i h5) ?_;refine wz ?_;refine wb fun b6=>?_;refine ay ?_;refine Wo.od (ah (k:=0) iF rfl rfl rfl) rfl ?_;obtain⟨h7,hF⟩:=ax hF;obtain⟨h8,hF⟩:=ax hF;refine Wo.x (qb (f:=eN .u64) (z0:=(0:Nat)) nw rfl h7 h8 EU rfl rfl) gn rfl fun b9=>?_;refine ay ?_;refine Wo.od (ah (k:=1) o5 rfl rfl rfl) rfl ?_;refine wz ?_;refine Wk.block ?_;obtain⟨l56,h77,hF⟩:=J hF;refine ct (fun l56 (_:Unit)=>⟨(.exit 0),[(3,.slice (some ⟨b9,0,none⟩) x1.toNat x1.toNat)],[.arr b9 1 x1.toNat (l56.map (eN .u64)) .own]⟩) l56 ?_ ?_
 ·refine lo h77 () [0,2] (fun(l32,v33) _=>⟨.normal,[(3,.slice (some ⟨b9,0,none⟩) x1.toNat x1.toNat),(10,.slice a3 l2.length c4),(11,.int .i64 (l2.length:Int)),(12,.int .i64 v33)],[.arr b9 1 x1.toNat (l32.map (eN .u64)) .own,.rd a3 c4 2 l2.length (l2.map (eP (eI .i64) (eI .i64)))]⟩) ?_;clear hF h77;rintro⟨l32,v33⟩ ⟨⟩ r hF;unfold qU at hF;refine wz ?_;refine Wk.seq ?_;rcases aa hF with⟨h57,hF⟩|⟨h57,hF⟩
  ·refine ay ?_;obtain⟨h58,hF⟩:=cm hF;refine Wo.dY (k:=1) rfl (bE h58) ?_;rintro b59 o60 rfl;refine wz ?_;obtain⟨⟨x61,x62⟩,h63,hF⟩:=J hF;refine Wo.od (dv (k:=0) jt rfl rfl (aO h63) rfl rfl) rfl<|wa Ge fun b64=>?_;refine Wo.o0 (aL (k:=0) jt rfl rfl rfl rfl rfl) ?_;refine ay ?_;refine Wo.od (ah (k:=0) iF rfl rfl rfl) rfl ?_;obtain⟨h65,hF⟩:=cm hF;refine wz ?_;obtain⟨x66,h67,hF⟩:=J hF;refine Wo.od (dt (k:=2) aV rfl rfl (aO h67) rfl rfl) rfl ?_;refine wz ?_;refine Wo.od (ah (k:=0) iF rfl rfl rfl) rfl ?_;obtain⟨h68,hF⟩:=ax hF;refine Wo.od (aI rfl rfl (jS rfl _ _ h68)) rfl ?_;refine wz ?_;obtain⟨h69,hF⟩:=cm hF;refine wz ?_;refine Wo.o0 (eL (k:=2) (x1:=x66) (x2:=uw .u64 (uw .u64 x66 ||| uw .u64 (dH .u64 1 x62.toNat))) aV rfl rfl rfl h67 rfl) ?_;refine ay ?_;refine Wo.od (ah (k:=0) iF rfl rfl rfl) rfl ?_;obtain⟨h71,hF⟩:=cm hF;refine wz ?_;obtain⟨x72,h73,hF⟩:=J hF;refine Wo.od (dt (k:=2) aV rfl rfl (aO h73) rfl rfl) rfl ?_;refine wz ?_;refine Wo.od (ah (k:=0) iF rfl rfl rfl) rfl ?_;obtain⟨h74,hF⟩:=ax hF;refine Wo.od (aI rfl rfl (jS rfl _ _ h74)) rfl ?_;refine wz ?_;obtain⟨h75,hF⟩:=cm hF;refine wz ?_;refine Wo.o0 (eL (k:=2) (x1:=x72) (x2:=uw .u64 (uw .u64 x72 ||| uw .u64 (dH .u64 1 x61.toNat))) aV rfl rfl rfl h73 rfl) ?_;refine ay ?_;cases hF;exact ae () [2,3]
  ·refine wz ?_;cases hF;exact ae () [0]
 ·clear h77;rintro⟨⟩;refine fa ?_;obtain rfl:=Option.some.inj hF;exact At.ret (.tmp rfl .nil) fun m' hm=>⟨((some ⟨b9,0,none⟩),x1.toNat),rfl,(ak.trans (ak.close (k:=0) rfl) (ak.aA [0] rfl rfl)) m' hm⟩
theorem Jx (n x1 l4 x3 a3 c0 r) (hF:Mk n x1 l4 x3=some r) (m) (hG:Gl m) (h4:Rd m a3 c0 2 l4.length (l4.map (eP (eI .i64) (eI .i64)))):
  aB an 91 [.agg #[.int .i64 x1,.slice a3 l4.length c0],.int .u64 ((x3:Nat):Int)] m (fun v m'=>∃x:Option Addr × Nat,v = .slice x.1 x.2 x.2∧Hp m m' [.sl x.1 1 x.2 (r.map (eN .u64))]):=by
 unfold Mk at hF;refine cw Tryz.func91 ((Hp.start m).i h4) ?_;refine wz ?_;refine wb fun b5=>?_;refine wb fun b0=>?_;refine ay ?_;refine Wo.od (ah (k:=1) fO rfl rfl rfl) rfl ?_;obtain⟨l1,h5,hF⟩:=J hF;refine wc gn (fun m hm=>GO n x1 l4 a3 c0 _ h5 m (hm.q 2)) ?_;rintro⟨a0,n1⟩;refine Wo.len (k:=0) (xs:=l1) rfl ?_;rintro rfl;refine wa z76 fun b1=>?_;refine Wo.o0 (aL (k:=0) gV rfl rfl rfl rfl rfl) ?_;refine fa ?_;refine Wo.od (ah (k:=2) aV rfl rfl rfl) rfl ?_;refine wz ?_;refine Wk.block ?_;obtain⟨l3,h0,hF⟩:=J hF;refine ct (fun l3 (a2:Option Addr)=>⟨(.exit 0),[(6,.slice a2 l3.length l3.length)],[.sl a2 1 l3.length (l3.map (eN .u64))]⟩) l3 ?_ ?_
 ·refine Wk.rf (fs':=[(3,ptr b0 0),(5,ptr b1 0),(6,.slice none ([]:List (Nat)).length ([]:List (Nat)).length),(7,.int .u64 ((x3:Nat):Int))]) (ps':=[.obj b0 (.cells [.int .u64 ((x3:Nat):Int)] .own),.obj b1 (.cells [.slice a0 l1.length l1.length] .own),.sl a0 1 l1.length (l1.map (eN .u64)),.sl none 1 ([]:List (Nat)).length (([]:List (Nat)).map (eN .u64))]) (sc rfl (sc rfl (sc rfl (sc rfl sn)))) (ak.trans (ak.nil 1 rfl) (ak.aA [3,1,2,0] rfl rfl))<|Wk.loop (σ:=List (Nat) × Nat) (ρ:=List (Nat)) (γ:=Option Addr) (δ:=fun _=>Option Addr) _ (fun(s:List (Nat) × Nat) (g:Option Addr)=>match s,g with | (l2,v2),a1=>⟨.normal,[(3,ptr b0 0),(5,ptr b1 0),(6,.slice a1 l2.length l2.length),(7,.int .u64 ((v2:Nat):Int))],[.obj b0 (.cells [.int .u64 ((x3:Nat):Int)] .own),.obj b1 (.cells [.slice a0 l1.length l1.length] .own),.sl a0 1 l1.length (l1.map (eN .u64)),.sl a1 1 l2.length (l2.map (eN .u64))]⟩) (fun(r:List (Nat)) (g:Option Addr)=>match r,g with|l3,a2=>⟨(.exit 0),[(6,.slice a2 l3.length l3.length)],[.sl a2 1 l3.length (l3.map (eN .u64))]⟩) ?_ (fun _ _=>rfl) (fun r d=>by intro e; cases e) _ _ _ h0 none
  clear hF h0;rintro⟨l2,v2⟩ a1 r hF;unfold xE at hF;refine wz ?_;rcases aa hF with⟨h6,hF⟩|⟨h6,hF⟩
  ·refine ay ?_;refine Wo.od (CB rfl (JT rfl _)) rfl ?_;refine wz ?_;refine Wk.seq<|Wk.block ?_;obtain⟨v0,h1,hF⟩:=J hF;refine ct (fun v0 (_:Unit)=>⟨(.exit 2),[(3,ptr b0 0),(5,ptr b1 0),(6,.slice a1 l2.length l2.length),(7,.int .u64 ((v2:Nat):Int)),(8,.int .u64 ((v0:Nat):Int))],[.obj b0 (.cells [.int .u64 ((x3:Nat):Int)] .own),.obj b1 (.cells [.slice a0 l1.length l1.length] .own),.sl a0 1 l1.length (l1.map (eN .u64)),.sl a1 1 l2.length (l2.map (eN .u64))]⟩) v0 ?_ ?_
   ·refine lo h1 () [0,1,2,3] (fun v3 _=>⟨.normal,[(3,ptr b0 0),(5,ptr b1 0),(6,.slice a1 l2.length l2.length),(7,.int .u64 ((v2:Nat):Int)),(8,.int .u64 ((v3:Nat):Int))],[.obj b0 (.cells [.int .u64 ((x3:Nat):Int)] .own),.obj b1 (.cells [.slice a0 l1.length l1.length] .own),.sl a0 1 l1.length (l1.map (eN .u64)),.sl a1 1 l2.length (l2.map (eN .u64))]⟩) ?_;clear hF h1;rintro v3 ⟨⟩ r hF;unfold wY at hF;refine wz ?_;refine wa EU fun b3=>?_;refine Wo.o0 (aL (k:=0) aV rfl rfl rfl rfl rfl) ?_;refine ay ?_;obtain⟨r1,h7,hF⟩:=J hF;refine Wo.x (gU (α:=Nat) (V:=fun g=>(fun(r:Unit) (g:Nat)=>match r,g with|_,b2=>(.func (.func 152) #[] #[ptr b2 0]:Value)) r1 g) (N:=fun g=>(fun(r:Unit) (g:Nat)=>match r,g with|_,b2=>([.obj b2 (.cells [.int .u64 ((v3:Nat):Int)] .own),.obj b0 (.cells [.int .u64 ((x3:Nat):Int)] .own),.obj b1 (.cells [.slice a0 l1.length l1.length] .own),.sl a0 1 l1.length (l1.map (eN .u64)),.sl a1 1 l2.length (l2.map (eN .u64)),.obj b3 (.cells [.int .u64 ((v3:Nat):Int)] .own)]:List Pc)) r1 g) rfl rfl (fun m hm=>?_)) gn rfl ?_
    ·clear hF;revert r1;intro r hF;refine bI (N:=4) (rs:=[.tmp 2]) rfl Tryz.func133 rfl rfl rfl hm ?_;refine wz ?_;refine wb fun b4=>?_;refine ay ?_;refine Wo.od (zB rfl rfl) rfl ?_;refine ay ?_;cases hF;exact ar b4 [0,2,3,4,5,1]
    ·clear h7;rintro b2;refine wz ?_;refine Wk.block ?_;obtain⟨v4,h8,hF⟩:=J hF;refine Wk.range (N:=14) (rs:=[]) (γ:=Unit) (X:=fun g=>(fun(r:Nat) (g:Unit)=>(match r,g with|v4,_=>⟨.ready,none,[.obj b0 (.cells [.int .u64 ((x3:Nat):Int)] .own),.obj b1 (.cells [.slice a0 l1.length l1.length] .own),.sl a0 1 l1.length (l1.map (eN .u64)),.sl a1 1 l2.length (l2.map (eN .u64)),.obj b3 (.cells [.int .u64 ((v4:Nat):Int)] .own)]⟩:Rn)) v4 g) rfl rfl Tryz.func152 rfl rfl rfl ?_ (fun y=>by intro e; cases e) ?_
     ·clear hF;revert v4;intro r hF;intro t0 l5 r0 h9 h10;refine Wk.block ?_;obtain⟨v6,h2,hF⟩:=J hF;refine ct (fun v6 (_:Unit)=>⟨(.exit 0),[],[.obj l5 (r0 .ready none),.obj b0 (.cells [.int .u64 ((x3:Nat):Int)] .own),.obj b1 (.cells [.slice a0 l1.length l1.length] .own),.sl a0 1 l1.length (l1.map (eN .u64)),.sl a1 1 l2.length (l2.map (eN .u64)),.obj b3 (.cells [.int .u64 ((v6:Nat):Int)] .own)]⟩) v6 ?_ ?_
      ·refine lo h2 () [0,1,2,3,4,5,6] (fun(v1,v7) _=>⟨.normal,[(0,.func (.yield l5) #[] #[]),(1,ptr b2 0)],[.obj l5 (r0 .ready none),.obj b2 (.cells [.int .u64 ((v1:Nat):Int)] .own),.obj b0 (.cells [.int .u64 ((x3:Nat):Int)] .own),.obj b1 (.cells [.slice a0 l1.length l1.length] .own),.sl a0 1 l1.length (l1.map (eN .u64)),.sl a1 1 l2.length (l2.map (eN .u64)),.obj b3 (.cells [.int .u64 ((v7:Nat):Int)] .own)]⟩) ?_;clear hF h2;rintro⟨v1,v7⟩ ⟨⟩ r hF;unfold rX at hF;refine wz ?_;refine Wo.od (ah (k:=1) aV rfl rfl rfl) rfl ?_;refine wz ?_;rcases aa hF with⟨h11,hF⟩|⟨h11,hF⟩
       ·refine ay ?_;refine Wo.od (ah (k:=1) aV rfl rfl rfl) rfl ?_;obtain⟨r2,h12,hF⟩:=J hF;refine wc gn (fun m hm=>ED n v1  _ h12 m (hG.ext hm.ext)) ?_;rintro⟨⟩;obtain⟨v5,h3,hF⟩:=J hF;refine Wo.x (KF (k:=0) (k1:=0) (γA:=Unit) (GA:=(fun g:Unit=>(match g with|_=>⟨.normal,[(3,ptr b0 0),(5,ptr b1 0),(9,ptr b3 0),(10,.int .i64 r2)],[.obj l5 (r0 .ready none),.obj b0 (.cells [.int .u64 ((x3:Nat):Int)] .own),.obj b1 (.cells [.slice a0 l1.length l1.length] .own),.sl a0 1 l1.length (l1.map (eN .u64)),.obj b3 (.cells [.int .u64 ((v7:Nat):Int)] .own),.sl a1 1 l2.length (l2.map (eN .u64)),.obj b2 (.cells [.int .u64 ((v1:Nat):Int)] .own)]⟩:En))) (γ:=Unit) (G:=fun g=>(fun(r:Nat) (g:Unit)=>(match r,g with|v5,_=>⟨.normal,[],[.obj l5 (r0 .busy none),.obj b0 (.cells [.int .u64 ((x3:Nat):Int)] .own),.obj b1 (.cells [.slice a0 l1.length l1.length] .own),.sl a0 1 l1.length (l1.map (eN .u64)),.sl a1 1 l2.length (l2.map (eN .u64)),.obj b3 (.cells [.int .u64 ((v5:Nat):Int)] .own),.obj b2 (.cells [.int .u64 ((v1:Nat):Int)] .own)]⟩:En)) v5 g) rfl rfl rfl h10 h9 rfl ?_ (fun _=>rfl) (fun _=>rfl) ?_ (fun y=>rfl)) gn rfl ?_
        ·clear hF h3;refine wz ?_;exact ae () [0,2,3,4,6,5,1]
        ·clear hF;revert v5;intro r hF;rintro⟨⟩;refine wz ?_;refine Wo.od (ah (k:=4) aV rfl rfl rfl) rfl<|Wo.od (ah (k:=2) gV rfl rfl rfl) rfl ?_;refine wz ?_;obtain⟨h13,hF⟩:=cm hF;refine Wo.open (k:=3) rfl (bE h13) ?_;rintro b6 t1 rfl h18;refine wz ?_;obtain⟨x4,h14,hF⟩:=J hF;refine Wo.od (dt (k:=3) aV rfl rfl (aO h14) rfl rfl) rfl<|Wo.od (ah (k:=1) aV rfl rfl rfl) rfl<|Wo.od (aI rfl rfl (zW rfl _ _)) rfl ?_;obtain⟨y2,h15,hF⟩:=J hF;refine Wo.od (aI rfl rfl ((nj rfl _ _).trans (cN h15))) rfl<|Wo.o0 (aL (k:=4) aV rfl rfl rfl rfl rfl) ?_;refine wz ?_;obtain rfl:=Option.some.inj hF;exact At.en () rfl sn (ak.trans (ak.close (k:=3) rfl) (ak.aA [0,1,2,3,5,4,6] rfl rfl))
        ·clear h3;rintro⟨⟩;refine fa ?_;refine Wo.od (ah (k:=6) aV rfl rfl rfl) rfl<|Wo.od (ah (k:=6) aV rfl rfl rfl) rfl ?_;refine wz ?_;refine Wo.o0 (aL (k:=6) aV rfl rfl rfl rfl rfl)<|Wo.nil ?_;cases hF;exact ae () [0,6,1,2,3,4,5]
       ·refine wz ?_;cases hF;exact ae () [0,2,3,4,5,6]
      ·clear h2;rintro⟨⟩;refine At.be ?_;obtain rfl:=Option.some.inj hF;exact At.fin .nil fun m' hm=>⟨(),(ak.aA [0,1,2,3,4,5] rfl rfl) m' hm⟩
     ·clear h8;rintro⟨⟩
      change At _ .normal _ _ _
      refine ay ?_;refine Wo.od (ah (k:=4) aV rfl rfl rfl) rfl ?_;refine wz ?_;rcases aa hF with⟨h16,hF⟩|⟨h16,hF⟩
      ·refine wz ?_;cases hF;exact ae () [0,1,2,3]
      ·refine ay ?_;refine Wo.od (ah (k:=4) aV rfl rfl rfl) rfl ?_;refine wz ?_;cases hF;exact ae () [0,1,2,3]
   ·clear h1;rintro⟨⟩;refine ay ?_;refine Wo.x (Cm (es:=([v0]:List (Nat)).map (eN .u64)) nw rfl (CV nw EU rfl rfl) rfl rfl) gn rfl fun b7=>?_;obtain⟨h17,hF⟩:=ax hF;refine Wo.x (Dt (k:=4) (k2:=0) (xs:=(l2:List (Nat))) (ys:=([v0]:List (Nat))) (Cr .u64) nw ⟨_,Nv⟩ rfl rfl rfl (.arr _ _ _ _ _) h17) gn rfl fun a4=>?_;refine ay ?_;cases hF;exact ae a4 [1,2,3,4]
  ·refine wz ?_;cases hF;exact ae a1 [3]
 ·clear h0;rintro a2;refine fa ?_;obtain rfl:=Option.some.inj hF;exact ar (a2,l3.length) [0]
theorem Km (n x1 l2 x6 a3 c4 r) (hF:Li n x1 l2 x6=some r) (m) (hG:Gl m) (h5:Rd m a3 c4 2 l2.length (l2.map (eP (eI .i64) (eI .i64)))):
  aB an 35 [.agg #[.int .i64 x1,.slice a3 l2.length c4],.int .u64 ((x6:Nat):Int)] m (fun v m'=>∃x:Option Addr × Nat,v = .tuple #[.slice x.1 x.2 x.2,.int .i64 r.2]∧Hp m m' [.sl x.1 1 x.2 (r.1.map (eN .u64))]):=by
 unfold Li at hF;refine cw Tryz.func35 ((Hp.start m).i h5) ?_;refine wz ?_;refine wb fun b7=>?_;refine ay ?_;refine Wo.od (ah (k:=0) fO rfl rfl rfl) rfl ?_;refine wz ?_;obtain⟨r9,h8,hF⟩:=J hF;refine wc gn (fun m hm=>KG n x1 l2 x6 a3 c4 _ h8 m (hm.q 1)) ?_;rintro⟨⟩;refine ay ?_;rcases aa hF with⟨h10,hF⟩|⟨h10,hF⟩
 ·refine ay ?_;cases hF;exact At.ret (.tmp rfl (.tmp rfl .nil)) fun m' hm=>⟨(none,0),rfl,(ak.trans (ak.nil 1 rfl) (ak.aA [0] rfl rfl)) m' hm⟩
 ·refine ay ?_;refine Wo.od (ah (k:=0) fO rfl rfl rfl) rfl ?_;refine wz ?_;obtain⟨l12,h11,hF⟩:=J hF;refine wc gn (fun m hm=>Jx n x1 l2 x6 a3 c4 _ h11 m (hG.ext hm.ext) (hm.q 1)) ?_;rintro⟨a13,n14⟩;refine Wo.len (k:=0) (xs:=l12) rfl ?_;rintro rfl;refine ay ?_;cases hF;exact ar (a13,l12.length) [0]
theorem Ib (n x1 x2 x11 x12 x13 x14 x15 x16 x3 x4 x5 x6 x7 x8 x9 x10 r) (hF:D9 n x1 x2 x11 x12 x13 x14 x15 x16 x3 x4 x5 x6 x7 x8 x9 x10=some r) (m):
  aB an 166 [.agg #[.int .u64 ((x1:Nat):Int),.int .u64 ((x2:Nat):Int),.int .u64 ((x11:Nat):Int),.int .u64 ((x12:Nat):Int),.int .u64 ((x13:Nat):Int),.int .u64 ((x14:Nat):Int),.int .u64 ((x15:Nat):Int),.int .u64 ((x16:Nat):Int)],.agg #[.int .u64 ((x3:Nat):Int),.int .u64 ((x4:Nat):Int),.int .u64 ((x5:Nat):Int),.int .u64 ((x6:Nat):Int),.int .u64 ((x7:Nat):Int),.int .u64 ((x8:Nat):Int),.int .u64 ((x9:Nat):Int),.int .u64 ((x10:Nat):Int)]] m (fun v m'=>∃x:Unit,v = .tuple #[.agg #[.int .u64 ((r.1:Nat):Int),.int .u64 ((r.2.1:Nat):Int),.int .u64 ((r.2.2.1:Nat):Int),.int .u64 ((r.2.2.2.1:Nat):Int),.int .u64 ((r.2.2.2.2.1:Nat):Int),.int .u64 ((r.2.2.2.2.2.1:Nat):Int),.int .u64 ((r.2.2.2.2.2.2.1:Nat):Int),.int .u64 ((r.2.2.2.2.2.2.2.1:Nat):Int)],.int .u64 ((r.2.2.2.2.2.2.2.2:Nat):Int)]∧Hp m m' []):=by
 unfold D9 at hF;refine cw Tryz.func166 (Hp.start m) ?_;refine wz ?_;refine wb fun b3=>?_;refine wb fun b2=>?_;refine wa o9 fun b1=>?_;refine ay ?_;refine wa Ns fun b0=>?_;refine ay ?_;refine Wo.od (zB rfl rfl) rfl ?_;refine ay ?_;refine Wo.od (ah (k:=3) bK rfl rfl rfl) rfl ?_;refine wz ?_;refine Wk.block ?_;obtain⟨l2,h3,hF⟩:=J hF;refine ct (fun l2 (_:Unit)=>⟨(.exit 0),[(4,ptr b1 0),(6,ptr b0 0)],[.obj b1 (.cells [.int .u64 ((0:Nat):Int),.int .u64 ((0:Nat):Int),.int .u64 ((0:Nat):Int),.int .u64 ((0:Nat):Int),.int .u64 ((0:Nat):Int),.int .u64 ((0:Nat):Int),.int .u64 ((0:Nat):Int),.int .u64 ((0:Nat):Int)] .own),.arr b0 1 16 (l2.map (eN .u64)) .own]⟩) l2 ?_ ?_
 ·refine Wk.rf (fs':=[(3,ptr b2 0),(4,ptr b1 0),(6,ptr b0 0),(7,.func (.func 173) #[] #[ptr b0 0]),(16,.agg #[.int .u64 ((x1:Nat):Int),.int .u64 ((x2:Nat):Int),.int .u64 ((x11:Nat):Int),.int .u64 ((x12:Nat):Int),.int .u64 ((x13:Nat):Int),.int .u64 ((x14:Nat):Int),.int .u64 ((x15:Nat):Int),.int .u64 ((x16:Nat):Int)]),(17,.int .i64 0)]) (ps':=[.obj b2 (.cells [.int .u64 ((x3:Nat):Int),.int .u64 ((x4:Nat):Int),.int .u64 ((x5:Nat):Int),.int .u64 ((x6:Nat):Int),.int .u64 ((x7:Nat):Int),.int .u64 ((x8:Nat):Int),.int .u64 ((x9:Nat):Int),.int .u64 ((x10:Nat):Int)] .own),.obj b1 (.cells [.int .u64 ((0:Nat):Int),.int .u64 ((0:Nat):Int),.int .u64 ((0:Nat):Int),.int .u64 ((0:Nat):Int),.int .u64 ((0:Nat):Int),.int .u64 ((0:Nat):Int),.int .u64 ((0:Nat):Int),.int .u64 ((0:Nat):Int)] .own),.arr b0 1 16 (([0,0,0,0,0,0,0,0,0,0,0,0,0,0,0,0]:List (Nat)).map (eN .u64)) .own]) (sc rfl (sc rfl (sc rfl (sc rfl (sc rfl (sc rfl sn)))))) (ak.trans (ak.mR (k:=0) (xs:=([0,0,0,0,0,0,0,0,0,0,0,0,0,0,0,0]:List (Nat))) (f:=eN .u64) (l:=16) (w:=1) rfl rfl rfl (Cr .u64) rfl) (ak.aA [2,1,0] rfl rfl))<|Wk.loop (σ:=List (Nat) × Int) (ρ:=List (Nat)) (γ:=Unit) (δ:=fun _=>Unit) _ (fun(s:List (Nat) × Int) (g:Unit)=>match s,g with | (l5,v0),_=>⟨.normal,[(3,ptr b2 0),(4,ptr b1 0),(6,ptr b0 0),(7,.func (.func 173) #[] #[ptr b0 0]),(16,.agg #[.int .u64 ((x1:Nat):Int),.int .u64 ((x2:Nat):Int),.int .u64 ((x11:Nat):Int),.int .u64 ((x12:Nat):Int),.int .u64 ((x13:Nat):Int),.int .u64 ((x14:Nat):Int),.int .u64 ((x15:Nat):Int),.int .u64 ((x16:Nat):Int)]),(17,.int .i64 v0)],[.obj b2 (.cells [.int .u64 ((x3:Nat):Int),.int .u64 ((x4:Nat):Int),.int .u64 ((x5:Nat):Int),.int .u64 ((x6:Nat):Int),.int .u64 ((x7:Nat):Int),.int .u64 ((x8:Nat):Int),.int .u64 ((x9:Nat):Int),.int .u64 ((x10:Nat):Int)] .own),.obj b1 (.cells [.int .u64 ((0:Nat):Int),.int .u64 ((0:Nat):Int),.int .u64 ((0:Nat):Int),.int .u64 ((0:Nat):Int),.int .u64 ((0:Nat):Int),.int .u64 ((0:Nat):Int),.int .u64 ((0:Nat):Int),.int .u64 ((0:Nat):Int)] .own),.arr b0 1 16 (l5.map (eN .u64)) .own]⟩) (fun(r:List (Nat)) (g:Unit)=>match r,g with|l2,_=>⟨(.exit 0),[(4,ptr b1 0),(6,ptr b0 0)],[.obj b1 (.cells [.int .u64 ((0:Nat):Int),.int .u64 ((0:Nat):Int),.int .u64 ((0:Nat):Int),.int .u64 ((0:Nat):Int),.int .u64 ((0:Nat):Int),.int .u64 ((0:Nat):Int),.int .u64 ((0:Nat):Int),.int .u64 ((0:Nat):Int)] .own),.arr b0 1 16 (l2.map (eN .u64)) .own]⟩) ?_ (fun _ _=>rfl) (fun r d=>by intro e; cases e) _ _ _ h3 ()
  clear hF h3;rintro⟨l5,v0⟩ ⟨⟩ r hF;unfold nJ at hF;refine wz ?_;refine Wk.seq ?_;rcases aa hF with⟨h9,hF⟩|⟨h9,hF⟩
  ·refine ay ?_;obtain⟨h10,hF⟩:=ax hF;obtain⟨x17,h0,hF⟩:=J hF;refine Wo.x (IN (α:=Unit) (V:=fun g=>match g with|_=>.int .u64 ((x17:Nat):Int)) (N:=fun g=>match g with|_=>[]++[.obj b2 (.cells [.int .u64 ((x3:Nat):Int),.int .u64 ((x4:Nat):Int),.int .u64 ((x5:Nat):Int),.int .u64 ((x6:Nat):Int),.int .u64 ((x7:Nat):Int),.int .u64 ((x8:Nat):Int),.int .u64 ((x9:Nat):Int),.int .u64 ((x10:Nat):Int)] .own),.obj b1 (.cells [.int .u64 ((0:Nat):Int),.int .u64 ((0:Nat):Int),.int .u64 ((0:Nat):Int),.int .u64 ((0:Nat):Int),.int .u64 ((0:Nat):Int),.int .u64 ((0:Nat):Int),.int .u64 ((0:Nat):Int),.int .u64 ((0:Nat):Int)] .own),.arr b0 1 16 (l5.map (eN .u64)) .own]) rfl rfl (fun m hm=>?_)) gn rfl ?_
   ·have hj:=mG h10;obtain⟨j,h2⟩:∃j:Nat,(v0:Int)=j:=⟨_,(Int.toNat_of_nonneg hj.1).symm⟩;rw[h2] at h0 hj ⊢;rw[Int.toNat_natCast] at h0 hj;replace hj:=hj.2;clear hF h2
    match j,hj,h0 with
    | 0,_,h0=>cases h0; exact⟨(),k7 cV (i:=0) (by decide) (dp aV rfl),hm⟩
    | 1,_,h0=>cases h0; exact⟨(),k7 cV (i:=1) (by decide) (dp aV rfl),hm⟩
    | 2,_,h0=>cases h0; exact⟨(),k7 cV (i:=2) (by decide) (dp aV rfl),hm⟩
    | 3,_,h0=>cases h0; exact⟨(),k7 cV (i:=3) (by decide) (dp aV rfl),hm⟩
    | 4,_,h0=>cases h0; exact⟨(),k7 cV (i:=4) (by decide) (dp aV rfl),hm⟩
    | 5,_,h0=>cases h0; exact⟨(),k7 cV (i:=5) (by decide) (dp aV rfl),hm⟩
    | 6,_,h0=>cases h0; exact⟨(),k7 cV (i:=6) (by decide) (dp aV rfl),hm⟩
    | 7,_,h0=>cases h0; exact⟨(),k7 cV (i:=7) (by decide) (dp aV rfl),hm⟩
    | _+8,hj,_=>exact absurd hj (by omega)
   rintro⟨⟩;refine ay ?_;refine Wo.od (ah (k:=0) bK rfl rfl rfl) rfl ?_;refine wz ?_;refine Wk.block ?_;obtain⟨l7,h4,hF⟩:=J hF;refine ct (fun l7 (_:Unit)=>⟨(.exit 2),[(3,ptr b2 0),(4,ptr b1 0),(6,ptr b0 0),(7,.func (.func 173) #[] #[ptr b0 0]),(16,.agg #[.int .u64 ((x1:Nat):Int),.int .u64 ((x2:Nat):Int),.int .u64 ((x11:Nat):Int),.int .u64 ((x12:Nat):Int),.int .u64 ((x13:Nat):Int),.int .u64 ((x14:Nat):Int),.int .u64 ((x15:Nat):Int),.int .u64 ((x16:Nat):Int)]),(17,.int .i64 v0)],[.obj b2 (.cells [.int .u64 ((x3:Nat):Int),.int .u64 ((x4:Nat):Int),.int .u64 ((x5:Nat):Int),.int .u64 ((x6:Nat):Int),.int .u64 ((x7:Nat):Int),.int .u64 ((x8:Nat):Int),.int .u64 ((x9:Nat):Int),.int .u64 ((x10:Nat):Int)] .own),.obj b1 (.cells [.int .u64 ((0:Nat):Int),.int .u64 ((0:Nat):Int),.int .u64 ((0:Nat):Int),.int .u64 ((0:Nat):Int),.int .u64 ((0:Nat):Int),.int .u64 ((0:Nat):Int),.int .u64 ((0:Nat):Int),.int .u64 ((0:Nat):Int)] .own),.arr b0 1 16 (l7.map (eN .u64)) .own]⟩) l7 ?_ ?_
   ·refine lo h4 () [0,1,2] (fun(l3,v1) _=>⟨.normal,[(3,ptr b2 0),(4,ptr b1 0),(6,ptr b0 0),(7,.func (.func 173) #[] #[ptr b0 0]),(8,.int .i64 v0),(9,.int .u64 ((x17:Nat):Int)),(16,.agg #[.int .u64 ((x1:Nat):Int),.int .u64 ((x2:Nat):Int),.int .u64 ((x11:Nat):Int),.int .u64 ((x12:Nat):Int),.int .u64 ((x13:Nat):Int),.int .u64 ((x14:Nat):Int),.int .u64 ((x15:Nat):Int),.int .u64 ((x16:Nat):Int)]),(17,.int .i64 v0),(21,.agg #[.int .u64 ((x3:Nat):Int),.int .u64 ((x4:Nat):Int),.int .u64 ((x5:Nat):Int),.int .u64 ((x6:Nat):Int),.int .u64 ((x7:Nat):Int),.int .u64 ((x8:Nat):Int),.int .u64 ((x9:Nat):Int),.int .u64 ((x10:Nat):Int)]),(22,.int .i64 v1)],[.obj b2 (.cells [.int .u64 ((x3:Nat):Int),.int .u64 ((x4:Nat):Int),.int .u64 ((x5:Nat):Int),.int .u64 ((x6:Nat):Int),.int .u64 ((x7:Nat):Int),.int .u64 ((x8:Nat):Int),.int .u64 ((x9:Nat):Int),.int .u64 ((x10:Nat):Int)] .own),.obj b1 (.cells [.int .u64 ((0:Nat):Int),.int .u64 ((0:Nat):Int),.int .u64 ((0:Nat):Int),.int .u64 ((0:Nat):Int),.int .u64 ((0:Nat):Int),.int .u64 ((0:Nat):Int),.int .u64 ((0:Nat):Int),.int .u64 ((0:Nat):Int)] .own),.arr b0 1 16 (l3.map (eN .u64)) .own]⟩) ?_;clear hF h4;rintro⟨l3,v1⟩ ⟨⟩ r hF;unfold lY at hF;refine wz ?_;refine Wk.seq ?_;rcases aa hF with⟨h11,hF⟩|⟨h11,hF⟩
    ·refine wz ?_;refine Wk.seq ?_;obtain⟨l4,h12,hF⟩:=J hF;refine ct (fun l4 (_:Unit)=>⟨.normal,[(3,ptr b2 0),(4,ptr b1 0),(6,ptr b0 0),(7,.func (.func 173) #[] #[ptr b0 0]),(8,.int .i64 v0),(9,.int .u64 ((x17:Nat):Int)),(16,.agg #[.int .u64 ((x1:Nat):Int),.int .u64 ((x2:Nat):Int),.int .u64 ((x11:Nat):Int),.int .u64 ((x12:Nat):Int),.int .u64 ((x13:Nat):Int),.int .u64 ((x14:Nat):Int),.int .u64 ((x15:Nat):Int),.int .u64 ((x16:Nat):Int)]),(17,.int .i64 v0),(21,.agg #[.int .u64 ((x3:Nat):Int),.int .u64 ((x4:Nat):Int),.int .u64 ((x5:Nat):Int),.int .u64 ((x6:Nat):Int),.int .u64 ((x7:Nat):Int),.int .u64 ((x8:Nat):Int),.int .u64 ((x9:Nat):Int),.int .u64 ((x10:Nat):Int)]),(22,.int .i64 v1)],[.obj b2 (.cells [.int .u64 ((x3:Nat):Int),.int .u64 ((x4:Nat):Int),.int .u64 ((x5:Nat):Int),.int .u64 ((x6:Nat):Int),.int .u64 ((x7:Nat):Int),.int .u64 ((x8:Nat):Int),.int .u64 ((x9:Nat):Int),.int .u64 ((x10:Nat):Int)] .own),.obj b1 (.cells [.int .u64 ((0:Nat):Int),.int .u64 ((0:Nat):Int),.int .u64 ((0:Nat):Int),.int .u64 ((0:Nat):Int),.int .u64 ((0:Nat):Int),.int .u64 ((0:Nat):Int),.int .u64 ((0:Nat):Int),.int .u64 ((0:Nat):Int)] .own),.arr b0 1 16 (l4.map (eN .u64)) .own]⟩) l4 ?_ ?_
     ·clear hF;revert l4;intro r hF;refine wz ?_;obtain⟨h13,hF⟩:=ax hF;obtain⟨x18,h1,hF⟩:=J hF;refine Wo.x (IN (α:=Unit) (V:=fun g=>match g with|_=>.int .u64 ((x18:Nat):Int)) (N:=fun g=>match g with|_=>[]++[.obj b2 (.cells [.int .u64 ((x3:Nat):Int),.int .u64 ((x4:Nat):Int),.int .u64 ((x5:Nat):Int),.int .u64 ((x6:Nat):Int),.int .u64 ((x7:Nat):Int),.int .u64 ((x8:Nat):Int),.int .u64 ((x9:Nat):Int),.int .u64 ((x10:Nat):Int)] .own),.obj b1 (.cells [.int .u64 ((0:Nat):Int),.int .u64 ((0:Nat):Int),.int .u64 ((0:Nat):Int),.int .u64 ((0:Nat):Int),.int .u64 ((0:Nat):Int),.int .u64 ((0:Nat):Int),.int .u64 ((0:Nat):Int),.int .u64 ((0:Nat):Int)] .own),.arr b0 1 16 (l3.map (eN .u64)) .own]) rfl rfl (fun m hm=>?_)) gn rfl ?_
      ·have hj:=mG h13;obtain⟨j,h2⟩:∃j:Nat,(v1:Int)=j:=⟨_,(Int.toNat_of_nonneg hj.1).symm⟩;rw[h2] at h1 hj ⊢;rw[Int.toNat_natCast] at h1 hj;replace hj:=hj.2;clear hF h2
       match j,hj,h1 with
       | 0,_,h1=>cases h1; exact⟨(),k7 cV (i:=0) (by decide) (dp aV rfl),hm⟩
       | 1,_,h1=>cases h1; exact⟨(),k7 cV (i:=1) (by decide) (dp aV rfl),hm⟩
       | 2,_,h1=>cases h1; exact⟨(),k7 cV (i:=2) (by decide) (dp aV rfl),hm⟩
       | 3,_,h1=>cases h1; exact⟨(),k7 cV (i:=3) (by decide) (dp aV rfl),hm⟩
       | 4,_,h1=>cases h1; exact⟨(),k7 cV (i:=4) (by decide) (dp aV rfl),hm⟩
       | 5,_,h1=>cases h1; exact⟨(),k7 cV (i:=5) (by decide) (dp aV rfl),hm⟩
       | 6,_,h1=>cases h1; exact⟨(),k7 cV (i:=6) (by decide) (dp aV rfl),hm⟩
       | 7,_,h1=>cases h1; exact⟨(),k7 cV (i:=7) (by decide) (dp aV rfl),hm⟩
       | _+8,hj,_=>exact absurd hj (by omega)
      rintro⟨⟩;refine wz ?_;refine Wk.seq ?_;obtain⟨v2,h14,hF⟩:=J hF;refine ct (fun v2 (_:Unit)=>⟨.normal,[(3,ptr b2 0),(4,ptr b1 0),(6,ptr b0 0),(7,.func (.func 173) #[] #[ptr b0 0]),(8,.int .i64 v0),(9,.int .u64 ((x17:Nat):Int)),(10,.int .i64 v1),(11,.int .u64 ((x18:Nat):Int)),(16,.agg #[.int .u64 ((x1:Nat):Int),.int .u64 ((x2:Nat):Int),.int .u64 ((x11:Nat):Int),.int .u64 ((x12:Nat):Int),.int .u64 ((x13:Nat):Int),.int .u64 ((x14:Nat):Int),.int .u64 ((x15:Nat):Int),.int .u64 ((x16:Nat):Int)]),(17,.int .i64 v0),(21,.agg #[.int .u64 ((x3:Nat):Int),.int .u64 ((x4:Nat):Int),.int .u64 ((x5:Nat):Int),.int .u64 ((x6:Nat):Int),.int .u64 ((x7:Nat):Int),.int .u64 ((x8:Nat):Int),.int .u64 ((x9:Nat):Int),.int .u64 ((x10:Nat):Int)]),(22,.int .i64 v1),(31,.bool v2)],[.obj b2 (.cells [.int .u64 ((x3:Nat):Int),.int .u64 ((x4:Nat):Int),.int .u64 ((x5:Nat):Int),.int .u64 ((x6:Nat):Int),.int .u64 ((x7:Nat):Int),.int .u64 ((x8:Nat):Int),.int .u64 ((x9:Nat):Int),.int .u64 ((x10:Nat):Int)] .own),.obj b1 (.cells [.int .u64 ((0:Nat):Int),.int .u64 ((0:Nat):Int),.int .u64 ((0:Nat):Int),.int .u64 ((0:Nat):Int),.int .u64 ((0:Nat):Int),.int .u64 ((0:Nat):Int),.int .u64 ((0:Nat):Int),.int .u64 ((0:Nat):Int)] .own),.arr b0 1 16 (l3.map (eN .u64)) .own]⟩) v2 ?_ ?_
      ·clear hF;revert v2;intro r hF;refine wz ?_;rcases aa hF with⟨h15,hF⟩|⟨h15,hF⟩
       ·refine wz ?_;cases hF;exact ae () [0,1,2]
       ·refine wz ?_;cases hF;exact ae () [0,1,2]
      ·clear h14;rintro⟨⟩;refine At.tn ?_;rcases aa hF with⟨h16,hF⟩|⟨h16,hF⟩
       ·refine wz ?_;obtain⟨l1,h17,hF⟩:=J hF;refine Wo.x (gU (α:=Unit) (V:=fun g=>(fun(r:List (Nat)) (g:Unit)=>match r,g with|l1,_=>(.tuple #[]:Value)) l1 g) (N:=fun g=>(fun(r:List (Nat)) (g:Unit)=>match r,g with|l1,_=>([.obj b2 (.cells [.int .u64 ((x3:Nat):Int),.int .u64 ((x4:Nat):Int),.int .u64 ((x5:Nat):Int),.int .u64 ((x6:Nat):Int),.int .u64 ((x7:Nat):Int),.int .u64 ((x8:Nat):Int),.int .u64 ((x9:Nat):Int),.int .u64 ((x10:Nat):Int)] .own),.obj b1 (.cells [.int .u64 ((0:Nat):Int),.int .u64 ((0:Nat):Int),.int .u64 ((0:Nat):Int),.int .u64 ((0:Nat):Int),.int .u64 ((0:Nat):Int),.int .u64 ((0:Nat):Int),.int .u64 ((0:Nat):Int),.int .u64 ((0:Nat):Int)] .own),.arr b0 1 16 (l1.map (eN .u64)) .own]:List Pc)) l1 g) rfl rfl (fun m hm=>?_)) gn rfl ?_
        ·clear hF;revert l1;intro r hF;refine bI (N:=60) (rs:=[]) rfl Tryz.func173 rfl rfl rfl hm<|Wk.scope ?_;refine wz ?_;obtain⟨⟨r0,r1⟩,h18,hF⟩:=J hF;refine wc gn (fun m hm=>AM n x17 x18  _ h18 m) ?_;rintro⟨⟩;refine ay ?_;obtain⟨h19,hF⟩:=cm hF;refine Wo.og (fG m5 rfl rfl h19) gn rfl ?_;obtain⟨x19,h6,hF⟩:=J hF;refine Wo.od (dt (k:=2) aV rfl rfl (aO h6) rfl rfl) rfl ?_;refine wz ?_;obtain⟨⟨r2,r3⟩,h20,hF⟩:=J hF;refine wc gn (fun m hm=>jd n x19 r1 0  _ h20 m) ?_;rintro⟨⟩;refine ay ?_;obtain⟨h21,hF⟩:=cm hF;refine Wo.og (fG m5 rfl rfl h21) gn rfl<|Wo.o0 (eL (k:=2) (x1:=x19) (x2:=r2) aV rfl rfl rfl h6 rfl) ?_;refine ay ?_;obtain⟨h22,hF⟩:=cm hF;refine Wo.og (fG m5 rfl rfl h22) gn rfl ?_;obtain⟨x20,h7,hF⟩:=J hF;refine Wo.od (dt (k:=2) aV rfl rfl (aO h7) rfl rfl) rfl ?_;refine wz ?_;obtain⟨⟨r4,r6⟩,h23,hF⟩:=J hF;refine wc gn (fun m hm=>jd n x20 r0 r3  _ h23 m) ?_;rintro⟨⟩;refine wz ?_;obtain⟨h24,hF⟩:=cm hF;refine Wo.og (fG m5 rfl rfl h24) gn rfl<|Wo.o0 (eL (k:=2) (x1:=x20) (x2:=r4) aV rfl rfl rfl h7 rfl) ?_;refine wz ?_;refine Wk.seq<|Wk.label ?_;refine ay ?_;refine Wk.block ?_;obtain⟨l8,h5,hF⟩:=J hF;refine ct (fun l8 (_:Unit)=>⟨(.exit 0),[],[.obj b2 (.cells [.int .u64 ((x3:Nat):Int),.int .u64 ((x4:Nat):Int),.int .u64 ((x5:Nat):Int),.int .u64 ((x6:Nat):Int),.int .u64 ((x7:Nat):Int),.int .u64 ((x8:Nat):Int),.int .u64 ((x9:Nat):Int),.int .u64 ((x10:Nat):Int)] .own),.obj b1 (.cells [.int .u64 ((0:Nat):Int),.int .u64 ((0:Nat):Int),.int .u64 ((0:Nat):Int),.int .u64 ((0:Nat):Int),.int .u64 ((0:Nat):Int),.int .u64 ((0:Nat):Int),.int .u64 ((0:Nat):Int),.int .u64 ((0:Nat):Int)] .own),.arr b0 1 16 (l8.map (eN .u64)) .own]⟩) l8 ?_ ?_
         ·refine lo h5 () [2,0,1] (fun(l9,v3,v4) _=>⟨.normal,[(3,ptr b0 0),(10,.int .u64 ((v3:Nat):Int)),(11,.int .i64 v4)],[.arr b0 1 16 (l9.map (eN .u64)) .own,.obj b2 (.cells [.int .u64 ((x3:Nat):Int),.int .u64 ((x4:Nat):Int),.int .u64 ((x5:Nat):Int),.int .u64 ((x6:Nat):Int),.int .u64 ((x7:Nat):Int),.int .u64 ((x8:Nat):Int),.int .u64 ((x9:Nat):Int),.int .u64 ((x10:Nat):Int)] .own),.obj b1 (.cells [.int .u64 ((0:Nat):Int),.int .u64 ((0:Nat):Int),.int .u64 ((0:Nat):Int),.int .u64 ((0:Nat):Int),.int .u64 ((0:Nat):Int),.int .u64 ((0:Nat):Int),.int .u64 ((0:Nat):Int),.int .u64 ((0:Nat):Int)] .own)]⟩) ?_;clear hF h5;rintro⟨l9,v3,v4⟩ ⟨⟩ r hF;unfold zf at hF;refine wz ?_;rcases aa hF with⟨h25,hF⟩|⟨h25,hF⟩
          ·refine ay ?_;rcases aa hF with⟨h26,hF⟩|⟨h26,hF⟩
           ·refine wz ?_;cases hF;exact ae () [1,2,0]
           ·refine ay ?_;obtain⟨h27,hF⟩:=cm hF;refine Wo.og (fG m5 rfl rfl h27) gn rfl ?_;obtain⟨x21,h8,hF⟩:=J hF;refine Wo.od (dt (k:=0) aV rfl rfl (aO h8) rfl rfl) rfl ?_;refine wz ?_;obtain⟨⟨r5,r7⟩,h28,hF⟩:=J hF;refine wc gn (fun m hm=>jd n x21 0 v3  _ h28 m) ?_;rintro⟨⟩;refine wz ?_;obtain⟨h29,hF⟩:=cm hF;refine Wo.og (fG m5 rfl rfl h29) gn rfl<|Wo.o0 (eL (k:=0) (x1:=x21) (x2:=r5) aV rfl rfl rfl h8 rfl) ?_;refine ay ?_;cases hF;exact ae () [0,1,2]
          ·refine wz ?_;cases hF;exact ae () [1,2,0]
         ·clear h5;rintro⟨⟩;refine At.be ?_;obtain rfl:=Option.some.inj hF;exact At.fin .nil fun m' hm=>⟨(),rfl,(ak.aA [0,1,2] rfl rfl) m' hm⟩
        ·clear h17;rintro⟨⟩;refine wz ?_;obtain rfl:=Option.some.inj hF;exact ae () [0,1,2]
       ·refine wz ?_;obtain rfl:=Option.some.inj hF;exact ae () [0,1,2]
     ·clear h12;rintro⟨⟩;refine ay ?_;cases hF;exact ae () [0,1,2]
    ·refine wz ?_;cases hF;exact ae () [0,1,2]
   ·clear h4;rintro⟨⟩;refine ay ?_;cases hF;exact ae () [0,1,2]
  ·refine wz ?_;cases hF;exact ae () [1,2]
 ·clear h3;rintro⟨⟩;refine fa ?_;obtain⟨⟨x22,x23,x24,x25,x26,x27,x28,x29,x30,x31,x32,x33,x34,x35,x36,x37⟩,h30,hF⟩:=J hF;refine Wo.ku (ak.ph (k:=1) (ys:=[x22,x23,x24,x25,x26,x27,x28,x29,x30,x31,x32,x33,x34,x35,x36,x37]) (cs:=[.int .u64 ((x22:Nat):Int),.int .u64 ((x23:Nat):Int),.int .u64 ((x24:Nat):Int),.int .u64 ((x25:Nat):Int),.int .u64 ((x26:Nat):Int),.int .u64 ((x27:Nat):Int),.int .u64 ((x28:Nat):Int),.int .u64 ((x29:Nat):Int),.int .u64 ((x30:Nat):Int),.int .u64 ((x31:Nat):Int),.int .u64 ((x32:Nat):Int),.int .u64 ((x33:Nat):Int),.int .u64 ((x34:Nat):Int),.int .u64 ((x35:Nat):Int),.int .u64 ((x36:Nat):Int),.int .u64 ((x37:Nat):Int)]) rfl (Cl h30) rfl)<|Wo.og (I9 (k:=1) (lo:=8) (hi:=16) m5 rfl rfl rfl rfl rfl (.inr ⟨_,rfl⟩) (.inl ⟨rfl,rfl⟩) rfl rfl rfl rfl) gn rfl ?_;refine wz ?_;refine Wk.block<|Wk.MT<|Wl.round<|Wk.seq<|Wk.region<|Wo.od (aI (r:=.bool true) rfl rfl ((er _ _ _).trans rfl)) rfl ?_;refine fa ?_;refine Wo.og (lB nw rfl rfl (show(0:Int)≤0∧(0:Int).toNat<8 by decide)) gn rfl<|Wo.od (ah (k:=1) aV rfl rfl rfl) rfl ?_
  refine ay ?_;refine Wk.region<|Wo.od (aI (r:=.int .i64 1) rfl rfl ((dA _ _ _).trans rfl)) rfl ?_;refine wz ?_;refine At.tl<|Wl.round<|Wk.seq<|Wk.region<|Wo.od (aI (r:=.bool true) rfl rfl ((er _ _ _).trans rfl)) rfl ?_;refine fa ?_;refine Wo.og (lB nw rfl rfl (show(0:Int)≤1∧(1:Int).toNat<8 by decide)) gn rfl<|Wo.od (ah (k:=1) aV rfl rfl rfl) rfl ?_
  refine wz ?_;refine Wk.region<|Wo.od (aZ rfl) rfl<|Wo.od (aZ rfl) rfl ?_;obtain⟨y2,h31,hF⟩:=J hF;refine Wo.od (aI rfl rfl ((nj rfl _ _).trans (cN h31))) rfl ?_;refine wz ?_;refine Wk.region<|Wo.od (aI (r:=.int .i64 2) rfl rfl ((dA _ _ _).trans rfl)) rfl ?_;refine wz ?_;refine At.tl<|Wl.round<|Wk.seq<|Wk.region<|Wo.od (aI (r:=.bool true) rfl rfl ((er _ _ _).trans rfl)) rfl ?_;refine fa ?_;refine Wo.og (lB nw rfl rfl (show(0:Int)≤2∧(2:Int).toNat<8 by decide)) gn rfl<|Wo.od (ah (k:=1) aV rfl rfl rfl) rfl ?_
  refine ay ?_;refine Wk.region<|Wo.od (aI (r:=.int .i64 3) rfl rfl ((dA _ _ _).trans rfl)) rfl ?_;refine wz ?_;refine At.tl<|Wl.round<|Wk.seq<|Wk.region<|Wo.od (aI (r:=.bool true) rfl rfl ((er _ _ _).trans rfl)) rfl ?_;refine fa ?_;refine Wo.og (lB nw rfl rfl (show(0:Int)≤3∧(3:Int).toNat<8 by decide)) gn rfl<|Wo.od (ah (k:=1) aV rfl rfl rfl) rfl ?_
  refine wz ?_;refine Wk.region<|Wo.od (aZ rfl) rfl<|Wo.od (aZ rfl) rfl ?_;obtain⟨y3,h32,hF⟩:=J hF;refine Wo.od (aI rfl rfl ((nj rfl _ _).trans (cN h32))) rfl ?_;refine wz ?_;refine Wk.region<|Wo.od (aI (r:=.int .i64 4) rfl rfl ((dA _ _ _).trans rfl)) rfl ?_;refine wz ?_;refine At.tl<|Wl.round<|Wk.seq<|Wk.region<|Wo.od (aI (r:=.bool true) rfl rfl ((er _ _ _).trans rfl)) rfl ?_;refine fa ?_;refine Wo.og (lB nw rfl rfl (show(0:Int)≤4∧(4:Int).toNat<8 by decide)) gn rfl<|Wo.od (ah (k:=1) aV rfl rfl rfl) rfl ?_
  refine ay ?_;refine Wk.region<|Wo.od (aI (r:=.int .i64 5) rfl rfl ((dA _ _ _).trans rfl)) rfl ?_;refine wz ?_;refine At.tl<|Wl.round<|Wk.seq<|Wk.region<|Wo.od (aI (r:=.bool true) rfl rfl ((er _ _ _).trans rfl)) rfl ?_;refine fa ?_;refine Wo.og (lB nw rfl rfl (show(0:Int)≤5∧(5:Int).toNat<8 by decide)) gn rfl<|Wo.od (ah (k:=1) aV rfl rfl rfl) rfl ?_
  refine wz ?_;refine Wk.region<|Wo.od (aZ rfl) rfl<|Wo.od (aZ rfl) rfl ?_;obtain⟨y4,h33,hF⟩:=J hF;refine Wo.od (aI rfl rfl ((nj rfl _ _).trans (cN h33))) rfl ?_;refine wz ?_;refine Wk.region<|Wo.od (aI (r:=.int .i64 6) rfl rfl ((dA _ _ _).trans rfl)) rfl ?_;refine wz ?_;refine At.tl<|Wl.round<|Wk.seq<|Wk.region<|Wo.od (aI (r:=.bool true) rfl rfl ((er _ _ _).trans rfl)) rfl ?_;refine fa ?_;refine Wo.og (lB nw rfl rfl (show(0:Int)≤6∧(6:Int).toNat<8 by decide)) gn rfl<|Wo.od (ah (k:=1) aV rfl rfl rfl) rfl ?_
  refine ay ?_;refine Wk.region<|Wo.od (aI (r:=.int .i64 7) rfl rfl ((dA _ _ _).trans rfl)) rfl ?_;refine wz ?_;refine At.tl<|Wl.round<|Wk.seq<|Wk.region<|Wo.od (aI (r:=.bool true) rfl rfl ((er _ _ _).trans rfl)) rfl ?_;refine fa ?_;refine Wo.og (lB nw rfl rfl (show(0:Int)≤7∧(7:Int).toNat<8 by decide)) gn rfl<|Wo.od (ah (k:=1) aV rfl rfl rfl) rfl ?_
  refine wz ?_;refine Wk.region<|Wo.od (aZ rfl) rfl<|Wo.od (aZ rfl) rfl ?_;obtain⟨y5,h34,hF⟩:=J hF;refine Wo.od (aI rfl rfl ((nj rfl _ _).trans (cN h34))) rfl ?_;refine wz ?_;refine Wk.region<|Wo.od (aI (r:=.int .i64 8) rfl rfl ((dA _ _ _).trans rfl)) rfl ?_;refine wz ?_;refine At.tl<|Wl.round<|Wk.seq<|Wk.region<|Wo.od (aI (r:=.bool false) rfl rfl ((er _ _ _).trans rfl)) rfl ?_;refine fa ?_;refine Wo.og (I9 (k:=1) (lo:=0) (hi:=8) m5 rfl rfl rfl rfl rfl (.inl ⟨rfl,rfl⟩) (.inr ⟨_,rfl⟩) rfl rfl rfl rfl) gn rfl<|Wo.od (Ko MM rfl rfl) rfl<|Wo.od (ah (k:=1) bK rfl rfl rfl) rfl ?_;refine wz ?_;refine Wo.o0 (aL (k:=0) bK rfl rfl rfl rfl rfl) ?_;refine ay ?_;cases hF;exact At.ret (.cell (k:=0) bK rfl rfl rfl (.tmp rfl .nil)) fun m' hm=>⟨(),rfl,(ak.aA [] rfl rfl) m' hm⟩
theorem GQ (n x1 x2 x3 x4 x5 x6 x7 x8 x9 x10 x11 x12 x13 x14 x15 x16 x17 x18 r) (hF:HX n x1 x2 x3 x4 x5 x6 x7 x8 x9 x10 x11 x12 x13 x14 x15 x16 x17 x18=some r) (m):
  aB an 151 [.agg #[.bool x1,.int .u64 ((x2:Nat):Int),.int .u64 ((x3:Nat):Int),.int .u64 ((x4:Nat):Int),.int .u64 ((x5:Nat):Int),.int .u64 ((x6:Nat):Int),.int .u64 ((x7:Nat):Int),.int .u64 ((x8:Nat):Int),.int .u64 ((x9:Nat):Int)],.agg #[.bool x10,.int .u64 ((x11:Nat):Int),.int .u64 ((x12:Nat):Int),.int .u64 ((x13:Nat):Int),.int .u64 ((x14:Nat):Int),.int .u64 ((x15:Nat):Int),.int .u64 ((x16:Nat):Int),.int .u64 ((x17:Nat):Int),.int .u64 ((x18:Nat):Int)]] m (fun v m'=>∃x:Unit,v = .tuple #[.agg #[.bool r.1,.int .u64 ((r.2.1:Nat):Int),.int .u64 ((r.2.2.1:Nat):Int),.int .u64 ((r.2.2.2.1:Nat):Int),.int .u64 ((r.2.2.2.2.1:Nat):Int),.int .u64 ((r.2.2.2.2.2.1:Nat):Int),.int .u64 ((r.2.2.2.2.2.2.1:Nat):Int),.int .u64 ((r.2.2.2.2.2.2.2.1:Nat):Int),.int .u64 ((r.2.2.2.2.2.2.2.2.1:Nat):Int)],.bool r.2.2.2.2.2.2.2.2.2]∧Hp m m' []):=by
 unfold HX at hF;refine cw Tryz.func151 (Hp.start m) ?_;refine wz ?_;refine wb fun b19=>?_;refine wb fun b20=>?_;refine wa lK fun b21=>?_;refine ay ?_;refine Wo.od (ah (k:=2) bK rfl rfl rfl) rfl ?_;refine wz ?_;refine Wo.od (ah (k:=1) bK rfl rfl rfl) rfl ?_;obtain⟨⟨r23,r24,r25,r26,r27,r28,r29,r30,r31⟩,h22,hF⟩:=J hF;refine wc gn (fun m hm=>Ib n x2 x3 x4 x5 x6 x7 x8 x9 x11 x12 x13 x14 x15 x16 x17 x18  _ h22 m) ?_;rintro⟨⟩;refine wz ?_;refine wa o9 fun b32=>?_;refine Wo.o0 (aL (k:=0) bK rfl rfl rfl rfl rfl) ?_;refine ay ?_;refine Wo.od (ah (k:=3) nz rfl rfl rfl) rfl ?_;refine wz ?_;refine Wo.od (ah (k:=2) nz rfl rfl rfl) rfl<|Wo.od (aI rfl rfl (F3 u4)) rfl<|Wo.od (ah (k:=0) bK rfl rfl rfl) rfl ?_;obtain⟨⟨r34,r35,r36,r37,r38,r39,r40,r41,r42⟩,h33,hF⟩:=J hF;refine wc gn (fun m hm=>m8 n (!(x1 == x10)) r23 r24 r25 r26 r27 r28 r29 r30  _ h33 m) ?_;rintro⟨⟩;refine wz ?_;refine Wo.o0 (aL (k:=1) cT rfl rfl rfl rfl rfl) ?_;refine ay ?_;cases hF;exact At.ret (.cell (k:=1) cT rfl rfl rfl (.tmp rfl .nil)) fun m' hm=>⟨(),rfl,(ak.aA [] rfl rfl) m' hm⟩
theorem Jp (n x1 x2 x3 x4 x5 x6 x7 x8 x9 x10 x11 x12 x13 x14 x15 x16 r) (hF:Lu n x1 x2 x3 x4 x5 x6 x7 x8 x9 x10 x11 x12 x13 x14 x15 x16=some r) (m):
  aB an 36 [.agg #[.int .u64 ((x1:Nat):Int),.int .u64 ((x2:Nat):Int),.int .u64 ((x3:Nat):Int),.int .u64 ((x4:Nat):Int),.int .u64 ((x5:Nat):Int),.int .u64 ((x6:Nat):Int),.int .u64 ((x7:Nat):Int),.int .u64 ((x8:Nat):Int)],.agg #[.int .u64 ((x9:Nat):Int),.int .u64 ((x10:Nat):Int),.int .u64 ((x11:Nat):Int),.int .u64 ((x12:Nat):Int),.int .u64 ((x13:Nat):Int),.int .u64 ((x14:Nat):Int),.int .u64 ((x15:Nat):Int),.int .u64 ((x16:Nat):Int)]] m (fun v m'=>∃x:Unit,v = .tuple #[.agg #[.int .u64 ((r.1:Nat):Int),.int .u64 ((r.2.1:Nat):Int),.int .u64 ((r.2.2.1:Nat):Int),.int .u64 ((r.2.2.2.1:Nat):Int),.int .u64 ((r.2.2.2.2.1:Nat):Int),.int .u64 ((r.2.2.2.2.2.1:Nat):Int),.int .u64 ((r.2.2.2.2.2.2.1:Nat):Int),.int .u64 ((r.2.2.2.2.2.2.2.1:Nat):Int)],.int .i64 r.2.2.2.2.2.2.2.2]∧Hp m m' []):=by
 unfold Lu at hF;refine cw Tryz.func36 (Hp.start m) ?_;refine wz ?_;refine wb fun b6=>?_;refine wb fun b7=>?_;refine wa z38 fun b1=>?_;refine ay ?_;refine Wo.od (ah (k:=2) bH rfl rfl rfl) rfl<|Wo.od (ah (k:=1) bH rfl rfl rfl) rfl ?_;obtain⟨r0,h0,hF⟩:=J hF;refine Wo.x (gU (α:=Unit) (V:=fun g=>(fun(r:Nat × Nat × Nat × Nat × Nat × Nat × Nat × Nat × Int) (g:Unit)=>match r,g with | (v0,v1,v2,v3,v4,v5,v6,v7,v8),_=>(.tuple #[.agg #[.int .u64 ((v0:Nat):Int),.int .u64 ((v1:Nat):Int),.int .u64 ((v2:Nat):Int),.int .u64 ((v3:Nat):Int),.int .u64 ((v4:Nat):Int),.int .u64 ((v5:Nat):Int),.int .u64 ((v6:Nat):Int),.int .u64 ((v7:Nat):Int)],.int .i64 v8]:Value)) r0 g) (N:=fun g=>(fun(r:Nat × Nat × Nat × Nat × Nat × Nat × Nat × Nat × Int) (g:Unit)=>match r,g with | (v0,v1,v2,v3,v4,v5,v6,v7,v8),_=>([.obj b1 (.cells [.int .u64 ((0:Nat):Int),.int .u64 ((0:Nat):Int),.int .u64 ((0:Nat):Int),.int .u64 ((0:Nat):Int),.int .u64 ((0:Nat):Int),.int .u64 ((0:Nat):Int),.int .u64 ((0:Nat):Int),.int .u64 ((0:Nat):Int)] .own)]:List Pc)) r0 g) rfl rfl (fun m hm=>?_)) gn rfl ?_
 ·clear hF;revert r0;intro r hF;refine bI (N:=27) (rs:=[.cell 6 38,.tmp 7]) rfl Tryz.func89 rfl rfl rfl hm ?_;refine wz ?_;refine wb fun b2=>?_;refine wb fun b3=>?_;refine wa z38 fun b4=>?_;refine wz ?_;refine Wk.seq<|Wk.dc (prs:=[(0,3),(2,4),(0,5),(4,5),(2,6)]) (by kernel_rfl) ?_
  obtain⟨r1,h1,hF⟩:=J hF;refine Wn.xk (l:=[b2,b3]) (gU (α:=Nat) (V:=fun g=>(fun(r:Unit) (g:Nat)=>match r,g with|_,b0=>(.map (some b0):Value)) r1 g) (N:=fun g=>(fun(r:Unit) (g:Nat)=>match r,g with|_,b0=>([.obj b0 (.map (([(43,some 149),(45,some 150),(42,some 151)]:List (Int × Option Nat)).map (eM (fun n:Int=>.int .u8 n) Gf))),.obj b1 (.cells [.int .u64 ((0:Nat):Int),.int .u64 ((0:Nat):Int),.int .u64 ((0:Nat):Int),.int .u64 ((0:Nat):Int),.int .u64 ((0:Nat):Int),.int .u64 ((0:Nat):Int),.int .u64 ((0:Nat):Int),.int .u64 ((0:Nat):Int)] .own),.obj b2 (.cells [.int .u64 ((x1:Nat):Int),.int .u64 ((x2:Nat):Int),.int .u64 ((x3:Nat):Int),.int .u64 ((x4:Nat):Int),.int .u64 ((x5:Nat):Int),.int .u64 ((x6:Nat):Int),.int .u64 ((x7:Nat):Int),.int .u64 ((x8:Nat):Int)] .own),.obj b3 (.cells [.int .u64 ((x9:Nat):Int),.int .u64 ((x10:Nat):Int),.int .u64 ((x11:Nat):Int),.int .u64 ((x12:Nat):Int),.int .u64 ((x13:Nat):Int),.int .u64 ((x14:Nat):Int),.int .u64 ((x15:Nat):Int),.int .u64 ((x16:Nat):Int)] .own),.obj b4 (.cells [.int .u64 ((0:Nat):Int),.int .u64 ((0:Nat):Int),.int .u64 ((0:Nat):Int),.int .u64 ((0:Nat):Int),.int .u64 ((0:Nat):Int),.int .u64 ((0:Nat):Int),.int .u64 ((0:Nat):Int),.int .u64 ((0:Nat):Int)] .own)]:List Pc)) r1 g) rfl rfl (fun m hm=>?_)) ⟨⟨_,2,rfl,rfl,fun _=>⟨2,rfl⟩⟩,⟨⟨_,1,rfl,rfl,fun _=>⟨3,rfl⟩⟩,trivial⟩⟩ gn rfl ?_
  ·clear hF;revert r1;intro r hF;refine bI (N:=3) (rs:=[.tmp 0]) rfl Tryz.func131 rfl rfl rfl hm ?_;refine ay ?_;refine Wo.x GH gn rfl fun b5=>?_;refine Wo.o0 (ze (q:=0) (xs:=([]:List (Int × (Option Nat)))) (k:=(43:Int)) (v:=some 149) (vE:=Gf) xG (iM u5) rfl rfl rfl rfl)<|Wo.o0 (ze (q:=0) (xs:=([(43,some 149)]:List (Int × Option Nat))) (k:=(45:Int)) (v:=some 150) (vE:=Gf) xG (iM u5) rfl rfl rfl rfl)<|Wo.o0 (ze (q:=0) (xs:=([(43,some 149),(45,some 150)]:List (Int × Option Nat))) (k:=(42:Int)) (v:=some 151) (vE:=Gf) xG (iM u5) rfl rfl rfl rfl) ?_;refine ay ?_;cases hF;exact ar b5 [0,4,3,2,1]
  ·clear h1;rintro b0;refine Wn.od (aZ rfl) rfl<|Wn.od (IV (q:=0) (xs:=([(43,some 149),(45,some 150),(42,some 151)]:List (Int × Option Nat))) (k:=(42:Int)) (vE:=Gf) (z0:=none) (v:=some 151) xG (iM u5) LU rfl rfl rfl rfl rfl) rfl<|Wn.B9 rfl (ah (k:=2) bH rfl rfl rfl) rfl ?_;obtain⟨⟨r2,r3,r4,r5,r6,r7,r8,r9,r10⟩,h2,hF⟩:=J hF;refine nc gn (fun m hm=>oj n x1 x2 x3 x4 x5 x6 x7 x8  _ h2 m) ?_;rintro⟨⟩;refine Wn.B9 rfl (ah (k:=3) bH rfl rfl rfl) rfl ?_;obtain⟨⟨r11,r12,r13,r14,r15,r16,r17,r18,r19⟩,h3,hF⟩:=J hF;refine nc gn (fun m hm=>oj n x9 x10 x11 x12 x13 x14 x15 x16  _ h3 m) ?_;rintro⟨⟩;obtain⟨⟨r20,r21,r22,r23,r24,r25,r26,r27,r28,r29⟩,h4,hF⟩:=J hF;refine nc gn (fun m hm=>GQ n r2 r3 r4 r5 r6 r7 r8 r9 r10 r11 r12 r13 r14 r15 r16 r17 r18 r19  _ h4 m) ?_;rintro⟨⟩;refine Wn.od (aZ rfl) rfl<|Wn.od (lW rfl rfl) rfl<|Wn.od (lW rfl rfl) rfl<|Wn.x (DR lK rfl) gn rfl fun b8=>?_;refine Wn.o0 (aL (k:=0) cT rfl rfl rfl rfl rfl)<|Wn.od (gT rfl) rfl ?_;refine Wn.nil (fun m hm=>(by(first|refine cD.kr rfl rfl rfl (by simp) ?_|refine cD.step rfl ?_); exact(cD.step rfl (by(first|refine cD.kr rfl rfl rfl (by simp) ?_|refine cD.step rfl ?_); exact(cD.step rfl (cD.step rfl cD.nil)))))) ?_
   refine ay ?_;rcases aa hF with⟨h5,hF⟩|⟨h5,hF⟩
   ·refine wz ?_;refine Wo.od (dZ rfl z38 rfl (ee xz rfl rfl rfl)) rfl<|Wo.o0 (aL (k:=5) bH rfl rfl rfl rfl rfl) ?_;refine ay ?_;cases hF;exact At.ret (.cell (k:=5) bH rfl rfl rfl (.tmp rfl .nil)) fun m' hm=>⟨(),rfl,(ak.aA [2] rfl rfl) m' hm⟩
   ·refine ay ?_;refine Wo.od (ah (k:=0) cT rfl rfl rfl) rfl ?_;obtain⟨⟨r30,r31,r32,r33,r34,r35,r36,r37,r38⟩,h6,hF⟩:=J hF;refine wc gn (fun m hm=>u7 n r20 r21 r22 r23 r24 r25 r26 r27 r28  _ h6 m) ?_;rintro⟨⟩;refine wz ?_;refine Wo.o0 (aL (k:=5) bH rfl rfl rfl rfl rfl) ?_;refine ay ?_;cases hF;exact At.ret (.cell (k:=5) bH rfl rfl rfl (.tmp rfl .nil)) fun m' hm=>⟨(),rfl,(ak.aA [2] rfl rfl) m' hm⟩
 ·clear h0;obtain⟨v0,v1,v2,v3,v4,v5,v6,v7,v8⟩:=r0;rintro⟨⟩;refine wz ?_;refine Wo.o0 (aL (k:=0) bH rfl rfl rfl rfl rfl) ?_;refine ay ?_;cases hF;exact At.ret (.cell (k:=0) bH rfl rfl rfl (.tmp rfl .nil)) fun m' hm=>⟨(),rfl,(ak.aA [] rfl rfl) m' hm⟩
theorem L7 (n x1 x2 x3 l3 x4 a2 c0 r) (hF:F6 n x1 x2 x3 l3 x4=some r) (m) (hG:Gl m) (h5:Rd m a2 c0 2 l3.length (l3.map (eP (eN .u8) (eN .u8)))):
  aB an 6 [.agg #[.int .u8 ((x1:Nat):Int),.int .u8 ((x2:Nat):Int),.int .u16 ((x3:Nat):Int),.slice a2 l3.length c0],.int .u8 ((x4:Nat):Int)] m (fun v m'=>∃x:Unit,v = .bool r∧Hp m m' []):=by
 unfold F6 at hF;refine cw Tryz.func6 ((Hp.start m).i h5) ?_;refine wz ?_;refine wb fun b6=>?_;refine ay ?_;obtain⟨r59,h6,hF⟩:=J hF;refine wc gn (fun m hm=>MZ n   _ h6 m (hG.ext hm.ext)) ?_;rintro⟨⟩;refine wz ?_;rcases aa hF with⟨h7,hF⟩|⟨h7,hF⟩
 ·refine ay ?_;cases hF;exact ar () []
 ·refine ay ?_;refine Wo.od (ah (k:=0) N0 rfl rfl rfl) rfl ?_;obtain⟨⟨r0,l1⟩,h8,hF⟩:=J hF;refine wc gn (fun m hm=>Kf n x1 x2 x3 l3 a2 c0 _ h8 m (hm.q 1)) ?_;rintro⟨a0,n1⟩;refine Wo.len (k:=0) (xs:=l1) rfl ?_;rintro rfl;refine wa Le fun b0=>?_;refine Wo.o0 (aL (k:=0) fO rfl rfl rfl rfl rfl) ?_;refine ay ?_;refine Wo.od (ah (k:=0) iF rfl rfl rfl) rfl ?_;obtain⟨h9,hF⟩:=ax hF;refine Wo.od (aI rfl rfl (jS rfl _ _ h9)) rfl ?_;refine ay ?_;refine Wo.od (ah (k:=0) o5 rfl rfl rfl) rfl ?_;refine wz ?_;rcases aa hF with⟨h4,hF⟩|⟨h4,hF⟩
  ·refine Wk.jF rfl h4<|Wk.seq<|Wk.dc (prs:=[(0,1),(0,8),(3,8),(6,8)]) (by kernel_rfl) ?_
   obtain⟨r9,h10,hF⟩:=J hF;refine Wn.xk (l:=[b0]) (gU (α:=Nat) (V:=fun g=>(fun(r:Unit) (g:Nat)=>match r,g with|_,b2=>(.func (.func 87) #[] #[ptr b2 0]:Value)) r9 g) (N:=fun g=>(fun(r:Unit) (g:Nat)=>match r,g with|_,b2=>([.obj b2 (.cells [.int .i64 0] .own),.obj b0 (.cells [.int .i64 r0,.slice a0 l1.length l1.length] .own),.sl a0 2 l1.length (l1.map (eP (eI .i64) (eI .i64)))]:List Pc)) r9 g) rfl rfl (fun m hm=>?_)) ⟨⟨_,0,rfl,rfl,fun _=>⟨1,rfl⟩⟩,trivial⟩ gn rfl ?_
   ·clear hF;revert r9;intro r hF;refine bI (N:=4) (rs:=[.tmp 2]) rfl Tryz.func29 rfl rfl rfl hm ?_;refine wz ?_;refine wb fun b7=>?_;refine ay ?_;refine Wo.od (zB rfl rfl) rfl ?_;refine ay ?_;cases hF;exact ar b7 [0,1,2]
   ·clear h10;rintro b2;refine Wn.B9 rfl (ah (k:=1) fO rfl rfl rfl) rfl<|Wn.od (aZ rfl) rfl ?_;obtain⟨⟨r60,r61,r62,r63,r64,r65,r66,r67,r68⟩,h11,hF⟩:=J hF;refine nc gn (fun m hm=>qt n r0 l1 (dw .u64 (dH .u64 1 r0.toNat) 1) a0 l1.length _ h11 m (hG.ext hm.ext) (hm.rd (k:=2) rfl (.sl _ _ _ _))) ?_;rintro⟨⟩;refine Wn.od (lW rfl rfl) rfl<|Wn.od (lW rfl rfl) rfl ?_;obtain⟨v0,h12,hF⟩:=J hF;refine Wn.xk (l:=[b0]) (gU (α:=Unit) (V:=fun g=>(fun(r:Bool) (g:Unit)=>match r,g with|v0,_=>(.bool v0:Value)) v0 g) (N:=fun g=>(fun(r:Bool) (g:Unit)=>match r,g with|v0,_=>([.obj b0 (.cells [.int .i64 r0,.slice a0 l1.length l1.length] .own),.sl a0 2 l1.length (l1.map (eP (eI .i64) (eI .i64)))]:List Pc)) v0 g) rfl rfl (fun m hm=>?_)) ⟨⟨_,1,rfl,rfl,fun _=>⟨0,rfl⟩⟩,trivial⟩ gn rfl ?_
    ·clear hF;revert v0;intro r hF;refine bI (N:=14) (rs:=[.tmp 5]) rfl Tryz.func87 rfl rfl rfl hm ?_;refine wz ?_;refine wb fun b8=>?_;refine wz ?_;refine Wk.seq<|Wk.dc (prs:=[(0,2)]) (by kernel_rfl)<|Wn.od (ah (k:=0) bH rfl rfl rfl) rfl<|Wn.od (ah (k:=1) iF rfl rfl rfl) rfl ?_
     obtain⟨⟨r69,r70,r71,r72,r73,r74,r75,r76⟩,h13,hF⟩:=J hF;refine nc gn (fun m hm=>C7 n 0  _ h13 m) ?_;rintro⟨⟩;refine Wn.od (aI rfl rfl (su Ea (Fu _ _ _ _ _ _ _ _ _ _ _ _ _ _ _ _))) rfl<|Wn.od (aZ rfl) rfl ?_;rcases aa hF with⟨h0,hF⟩|⟨h0,hF⟩
     ·refine Wn.og (aZ rfl) (gg rfl rfl (lN h0)) rfl<|Wn.og (aI rfl rfl (pK _ _ _)) (gg rfl rfl (lN h0)) rfl<|Wn.od (HD rfl h0 rfl) rfl<|Wn.od (gT rfl) rfl<|Wn.nil (fun m hm=>cD.all rfl) ?_;refine ay ?_;cases hF;exact ar () [2,3]
     ·refine Wn.s (gg rfl rfl (Ld h0)) rfl<|Wn.s (gg rfl rfl (Ld h0)) rfl<|Wn.od (HG rfl h0 rfl) rfl<|Wn.od (gT rfl) rfl<|Wn.nil (fun m hm=>cD.all rfl) ?_;refine ay ?_;cases hF;exact ar () [2,3]
    ·clear h12;rintro⟨⟩;refine Wn.od (gP (r:=ptr b0 0) rfl (q7 _ _)) rfl<|Wn.B9 rfl (ah (k:=0) iF rfl rfl rfl) rfl<|Wn.od (aI rfl rfl (kH _ _ _)) rfl<|Wn.od (aI rfl rfl (D4 u4)) rfl<|Wn.od (gT rfl) rfl ?_;refine Wn.nil (fun m hm=>(by(first|refine cD.kr rfl rfl rfl (by simp) ?_|refine cD.step rfl ?_); exact(by(first|refine cD.kr rfl rfl rfl (by simp) ?_|refine cD.step rfl ?_); exact(cD.step rfl (by(first|refine cD.kr rfl rfl rfl (by simp) ?_|refine cD.step rfl ?_); exact cD.nil))))) ?_
     refine ay ?_;cases hF;exact ar () []
  ·refine ay ?_;refine Wo.od (rJ rfl (yI (by rw[u5]; rfl) u3)) rfl ?_
   refine wz ?_;refine Wo.od (ah (k:=0) o5 rfl rfl rfl) rfl ?_;refine wz ?_;obtain⟨h14,hF⟩:=ax hF;refine Wo.od (aI rfl rfl (iy _ _ h14)) rfl ?_;refine wz ?_;refine Wk.seq<|Wk.dc (prs:=[(1,4),(1,8)]) (by kernel_rfl)<|Wn.od (gP (r:=ptr b0 0) rfl (q7 _ _)) rfl<|Wn.B9 rfl (ah (k:=0) iF rfl rfl rfl) rfl<|Wn.od (gP (r:=ptr b0 1) rfl (C9 _ _)) rfl<|Wn.od (ah (k:=0) o5 rfl rfl rfl) rfl ?_
   obtain⟨l5,h15,hF⟩:=J hF;refine Wn.c (NG (q:=b0) (j:=0) rfl rfl rfl rfl (fun m hm=>Jj n l1 a0 l1.length _ h15 m (hm.rd (k:=1) rfl (.sl _ _ _ _)))) gn rfl ?_;rintro⟨⟨a4,n2⟩,hlow⟩;refine Wn.len (k:=0) (xs:=l5) rfl ?_;rintro rfl;refine Wn.od (aZ rfl) rfl<|Wn.od (aZ rfl) rfl ?_;obtain⟨y2,h16,hF⟩:=J hF;refine Wn.od (aI rfl rfl ((dA _ _ _).trans (cI h16))) rfl ?_;obtain⟨l2,h17,hF⟩:=J hF;refine Wn.ul (q:=b0) (j:=1) (α:=Option Addr × Nat) (V:=fun y=>.slice y.1 y.2 y.2) (N:=fun y=>cc [.sl a4 2 l5.length (l5.map (eP (eI .i64) (eI .i64))),.obj b0 (.cells [.int .i64 r0,.slice a0 l1.length l1.length] .own),.sl a0 2 l1.length (l1.map (eP (eI .i64) (eI .i64))),.obj b6 (.cells [.int .u8 ((x1:Nat):Int),.int .u8 ((x2:Nat):Int),.int .u16 ((x3:Nat):Int),.slice a2 l3.length c0] .own),.rd a2 c0 2 l3.length (l3.map (eP (eN .u8) (eN .u8)))] 0 (.sl y.1 2 y.2 (l2.map (eP (eI .i64) (eI .i64))))) rfl rfl rfl rfl (fun m hm=>H8 n hm (k:=0) rfl h17 hlow) rfl ?_;rintro⟨a1,n3⟩;refine Wn.len (k:=0) (xs:=l2) rfl ?_;rintro rfl;refine Wn.od (dZ rfl Le rfl (ee LF rfl rfl rfl)) rfl<|Wn.x (DR Le rfl) gn rfl fun b3=>?_;refine Wn.o0 (aL (k:=0) fO rfl rfl rfl rfl rfl)<|Wn.nil (fun m hm=>cD.rc rfl rfl rfl (cD.rl rfl rfl rfl (Nat.le_refl _) cD.nil)) ?_;refine ay ?_;refine Wo.od (ah (k:=2) fO rfl rfl rfl) rfl ?_;refine wz ?_;obtain⟨⟨r1,r2,r3,r4,r5,r6,r7,r8,r77⟩,h18,hF⟩:=J hF;refine wc gn (fun m hm=>qt n r0 l1 (dw .u64 (dH .u64 1 r0.toNat) 1) a0 l1.length _ h18 m (hG.ext hm.ext) (hm.rd (k:=3) rfl (.sl _ _ _ _))) ?_;rintro⟨⟩;refine wz ?_;refine wa z38 fun b1=>?_;refine Wo.o0 (aL (k:=0) bH rfl rfl rfl rfl rfl) ?_;refine ay ?_;refine Wo.od (ah (k:=1) fO rfl rfl rfl) rfl ?_;refine wz ?_;obtain⟨⟨r10,r11,r12,r13,r14,r15,r16,r17,r78⟩,h19,hF⟩:=J hF;refine wc gn (fun m hm=>qt n r0 l2 (dw .u64 (dH .u64 1 r0.toNat) 1) a1 l2.length _ h19 m (hG.ext hm.ext) (hm.rd (k:=2) rfl (.sl _ _ _ _))) ?_;rintro⟨⟩;refine wz ?_;refine wa z38 fun b4=>?_;refine Wo.o0 (aL (k:=0) bH rfl rfl rfl rfl rfl) ?_;refine ay ?_;refine Wo.od (ah (k:=4) fO rfl rfl rfl) rfl ?_;refine wz ?_;obtain⟨⟨r18,r19,r20,r21,r22,r23,r24,r25,r26,r27,r28,r29,r30,r31,r32,r33,r34⟩,h20,hF⟩:=J hF;refine wc gn (fun m hm=>Jh n r0 l1 (dw .u64 (dH .u64 1 r0.toNat) 1) (Int.tmod (IntKind.wrap .i64 ((x4:Nat):Int)) (l1.length:Int)) a0 l1.length _ h20 m (hG.ext hm.ext) (hm.rd (k:=5) rfl (.sl _ _ _ _))) ?_;rintro⟨⟩;refine wz ?_;refine wa DP fun b5=>?_;refine Wo.o0 (aL (k:=0) iT rfl rfl rfl rfl rfl) ?_;refine wz ?_;refine Wk.seq<|Wk.seq ?_;obtain⟨v1,h21,hF⟩:=J hF;refine ct (fun v1 (_:Unit)=>⟨.normal,[(5,ptr b0 0),(6,.int .u64 ((dw .u64 (dH .u64 1 r0.toNat) 1:Nat):Int)),(8,ptr b3 0),(9,ptr b1 0),(11,ptr b4 0),(13,ptr b5 0),(14,.int .i64 r34),(90,.bool v1)],[.obj b0 (.cells [.int .i64 r0,.slice a0 l1.length l1.length] .own),.sl a0 2 l1.length (l1.map (eP (eI .i64) (eI .i64))),.obj b3 (.cells [.int .i64 r0,.slice a1 l2.length l2.length] .own),.sl a1 2 l2.length (l2.map (eP (eI .i64) (eI .i64))),.obj b1 (.cells [.int .u64 ((r1:Nat):Int),.int .u64 ((r2:Nat):Int),.int .u64 ((r3:Nat):Int),.int .u64 ((r4:Nat):Int),.int .u64 ((r5:Nat):Int),.int .u64 ((r6:Nat):Int),.int .u64 ((r7:Nat):Int),.int .u64 ((r8:Nat):Int)] .own),.obj b4 (.cells [.int .u64 ((r10:Nat):Int),.int .u64 ((r11:Nat):Int),.int .u64 ((r12:Nat):Int),.int .u64 ((r13:Nat):Int),.int .u64 ((r14:Nat):Int),.int .u64 ((r15:Nat):Int),.int .u64 ((r16:Nat):Int),.int .u64 ((r17:Nat):Int)] .own),.obj b5 (.cells [.int .u64 ((r18:Nat):Int),.int .u64 ((r19:Nat):Int),.int .u64 ((r20:Nat):Int),.int .u64 ((r21:Nat):Int),.int .u64 ((r22:Nat):Int),.int .u64 ((r23:Nat):Int),.int .u64 ((r24:Nat):Int),.int .u64 ((r25:Nat):Int),.int .u64 ((r26:Nat):Int),.int .u64 ((r27:Nat):Int),.int .u64 ((r28:Nat):Int),.int .u64 ((r29:Nat):Int),.int .u64 ((r30:Nat):Int),.int .u64 ((r31:Nat):Int),.int .u64 ((r32:Nat):Int),.int .u64 ((r33:Nat):Int)] .own)]⟩) v1 ?_ ?_
   ·clear hF;revert v1;intro r hF;refine wz ?_;rcases aa hF with⟨h22,hF⟩|⟨h22,hF⟩
    ·refine wz ?_;cases hF;exact ae () [5,6,3,4,2,1,0]
    ·refine wz ?_;cases hF;exact ae () [5,6,3,4,2,1,0]
   ·clear h21;rintro⟨⟩;refine At.tn ?_;rcases aa hF with⟨h23,hF⟩|⟨h23,hF⟩
    ·refine ay ?_;cases hF;exact ar () []
    ·refine ay ?_;refine Wo.od (ah (k:=4) bH rfl rfl rfl) rfl ?_;obtain⟨r79,h24,hF⟩:=J hF;refine wc gn (fun m hm=>K3 n r1 r2 r3 r4 r5 r6 r7 r8  _ h24 m) ?_;rintro⟨⟩;refine wz ?_;rcases aa hF with⟨h25,hF⟩|⟨h25,hF⟩
     ·refine wz ?_;rcases aa hF with⟨h1,hF⟩|⟨h1,hF⟩
      ·refine Wo.og (ah (k:=5) bH rfl rfl rfl) (gg rfl rfl (lN h1)) rfl<|Wo.og (ah (k:=4) bH rfl rfl rfl) (gg rfl rfl (lN h1)) rfl<|Wo.og (aI rfl rfl (su Ea (Fu _ _ _ _ _ _ _ _ _ _ _ _ _ _ _ _))) (gg rfl rfl (lN h1)) rfl ?_;refine ay ?_;cases hF;exact ar () []
      ·refine ay ?_;cases hF;exact ar () []
     ·refine ay ?_;refine Wo.od (ah (k:=4) bH rfl rfl rfl) rfl<|Wo.od (ah (k:=5) bH rfl rfl rfl) rfl ?_;obtain⟨⟨r35,r36,r37,r38,r39,r40,r41,r42,r80⟩,h26,hF⟩:=J hF;refine wc gn (fun m hm=>JX n r1 r2 r3 r4 r5 r6 r7 r8 r10 r11 r12 r13 r14 r15 r16 r17  _ h26 m) ?_;rintro⟨⟩;refine wz ?_;refine wa z38 fun b9=>?_;refine Wo.o0 (aL (k:=0) bH rfl rfl rfl rfl rfl) ?_;refine ay ?_;refine Wo.od (ah (k:=0) bH rfl rfl rfl) rfl<|Wo.od (ah (k:=5) bH rfl rfl rfl) rfl ?_;obtain⟨⟨r81,r82,r83,r84,r85,r86,r87,r88,r89,r90,r91,r92,r93,r94,r95,r96,r97⟩,h27,hF⟩:=J hF;refine wc gn (fun m hm=>Kp n r35 r36 r37 r38 r39 r40 r41 r42 r1 r2 r3 r4 r5 r6 r7 r8  _ h27 m) ?_;rintro⟨⟩;refine wz ?_;refine wa DP fun b10=>?_;refine Wo.o0 (aL (k:=0) iT rfl rfl rfl rfl rfl) ?_;refine wz ?_;refine Wk.seq<|Wk.seq ?_;obtain⟨v2,h28,hF⟩:=J hF;refine ct (fun v2 (_:Unit)=>⟨.normal,[(5,ptr b0 0),(6,.int .u64 ((dw .u64 (dH .u64 1 r0.toNat) 1:Nat):Int)),(8,ptr b3 0),(9,ptr b1 0),(127,.bool v2)],[.obj b0 (.cells [.int .i64 r0,.slice a0 l1.length l1.length] .own),.sl a0 2 l1.length (l1.map (eP (eI .i64) (eI .i64))),.obj b3 (.cells [.int .i64 r0,.slice a1 l2.length l2.length] .own),.sl a1 2 l2.length (l2.map (eP (eI .i64) (eI .i64))),.obj b1 (.cells [.int .u64 ((r1:Nat):Int),.int .u64 ((r2:Nat):Int),.int .u64 ((r3:Nat):Int),.int .u64 ((r4:Nat):Int),.int .u64 ((r5:Nat):Int),.int .u64 ((r6:Nat):Int),.int .u64 ((r7:Nat):Int),.int .u64 ((r8:Nat):Int)] .own)]⟩) v2 ?_ ?_
      ·clear hF;revert v2;intro r hF;refine wz ?_;rcases aa hF with⟨h29,hF⟩|⟨h29,hF⟩
       ·refine wz ?_;cases hF;exact ae () [2,3,4,5,6]
       ·refine wz ?_;rcases aa hF with⟨h30,hF⟩|⟨h30,hF⟩
        ·refine wz ?_;cases hF;exact ae () [2,3,4,5,6]
        ·refine wz ?_;rcases aa hF with⟨h2,hF⟩|⟨h2,hF⟩
         ·refine wz ?_;cases hF;exact ae () [2,3,4,5,6]
         ·refine Wo.og (ah (k:=8) iT rfl rfl rfl) (gg rfl rfl (oC h2)) rfl<|Wo.og (ah (k:=0) iT rfl rfl rfl) (gg rfl rfl (oC h2)) rfl<|Wo.og (aI rfl rfl (LB NW (N5 _ _ _ _ _ _ _ _ _ _ _ _ _ _ _ _ _ _ _ _ _ _ _ _ _ _ _ _ _ _ _ _))) (gg rfl rfl (oC h2)) rfl ?_;refine wz ?_;cases hF;exact ae () [2,3,4,5,6]
      ·clear h28;rintro⟨⟩;refine At.tn ?_;rcases aa hF with⟨h31,hF⟩|⟨h31,hF⟩
       ·refine ay ?_;cases hF;exact ar () []
       ·refine ay ?_;refine Wo.od (ah (k:=2) fO rfl rfl rfl) rfl ?_;refine wz ?_;obtain⟨⟨l4,r98⟩,h32,hF⟩:=J hF;refine wc gn (fun m hm=>Km n r0 l2 (dw .u64 (dH .u64 1 r0.toNat) 1) a1 l2.length _ h32 m (hG.ext hm.ext) (hm.rd (k:=3) rfl (.sl _ _ _ _))) ?_;rintro⟨a3,n4⟩;refine Wo.len (k:=0) (xs:=l4) rfl ?_;rintro rfl;refine wz ?_;refine Wk.seq<|Wk.seq ?_;obtain⟨v3,h33,hF⟩:=J hF;refine ct (fun v3 (_:Unit)=>⟨.normal,[(5,ptr b0 0),(9,ptr b1 0),(19,.slice a3 l4.length l4.length),(140,.bool v3)],[.obj b0 (.cells [.int .i64 r0,.slice a0 l1.length l1.length] .own),.sl a0 2 l1.length (l1.map (eP (eI .i64) (eI .i64))),.obj b1 (.cells [.int .u64 ((r1:Nat):Int),.int .u64 ((r2:Nat):Int),.int .u64 ((r3:Nat):Int),.int .u64 ((r4:Nat):Int),.int .u64 ((r5:Nat):Int),.int .u64 ((r6:Nat):Int),.int .u64 ((r7:Nat):Int),.int .u64 ((r8:Nat):Int)] .own),.sl a3 1 l4.length (l4.map (eN .u64))]⟩) v3 ?_ ?_
        ·clear hF;revert v3;intro r hF;refine wz ?_;rcases aa hF with⟨h34,hF⟩|⟨h34,hF⟩
         ·refine wz ?_;cases hF;exact ae () [1,2,5,0]
         ·refine wz ?_;cases hF;exact ae () [1,2,5,0]
        ·clear h33;rintro⟨⟩;refine At.tn ?_;rcases aa hF with⟨h35,hF⟩|⟨h35,hF⟩
         ·refine ay ?_;cases hF;exact ar () []
         ·refine ay ?_;rcases aa hF with⟨h36,hF⟩|⟨h36,hF⟩
          ·refine wz ?_;refine Wo.od (ah (k:=0) fO rfl rfl rfl) rfl ?_;refine wz ?_;obtain⟨h37,hF⟩:=cm hF;refine Wo.open (k:=3) rfl (bE h37) ?_;rintro b11 t0 rfl h45;refine wz ?_;obtain⟨x5,h38,hF⟩:=J hF;refine Wo.od (dt (k:=3) aV rfl rfl (aO h38) rfl rfl) rfl ?_;obtain⟨⟨r43,r44,r45,r46,r47,r48,r49,r50,r99⟩,h39,hF⟩:=J hF;refine wc gn (fun m hm=>qt n r0 l1 x5 a0 l1.length _ h39 m (hG.ext hm.ext) (hm.rd (k:=1) rfl (.sl _ _ _ _))) ?_;rintro⟨⟩;refine wz ?_;refine wa z38 fun b12=>?_;refine Wo.o0 (aL (k:=0) bH rfl rfl rfl rfl rfl) ?_;refine ay ?_;refine Wo.od (ah (k:=1) fO rfl rfl rfl) rfl ?_;refine wz ?_;obtain⟨h46,hF⟩:=cm hF;refine wz ?_;obtain⟨x6,h40,hF⟩:=J hF;refine Wo.od (dt (k:=4) aV rfl rfl (aO h40) rfl rfl) rfl ?_;obtain⟨⟨r51,r52,r53,r54,r55,r56,r57,r58,r100⟩,h41,hF⟩:=J hF;refine wc gn (fun m hm=>qt n r0 l1 x6 a0 l1.length _ h41 m (hG.ext hm.ext) (hm.rd (k:=2) rfl (.sl _ _ _ _))) ?_;rintro⟨⟩;refine wz ?_;refine wa z38 fun b13=>?_;refine Wo.o0 (aL (k:=0) bH rfl rfl rfl rfl rfl) ?_;refine ay ?_;refine Wo.od (ah (k:=1) bH rfl rfl rfl) rfl<|Wo.od (ah (k:=0) bH rfl rfl rfl) rfl ?_;obtain⟨⟨r101,r102,r103,r104,r105,r106,r107,r108,r109⟩,h42,hF⟩:=J hF;refine wc gn (fun m hm=>Jp n r43 r44 r45 r46 r47 r48 r49 r50 r51 r52 r53 r54 r55 r56 r57 r58  _ h42 m) ?_;rintro⟨⟩;refine wz ?_;refine wa z38 fun b14=>?_;refine Wo.o0 (aL (k:=0) bH rfl rfl rfl rfl rfl) ?_;refine ay ?_;rcases aa hF with⟨h43,hF⟩|⟨h43,hF⟩
           ·refine wz ?_;rcases aa hF with⟨h44,hF⟩|⟨h44,hF⟩
            ·refine wz ?_;rcases aa hF with⟨h3,hF⟩|⟨h3,hF⟩
             ·refine Wo.og (ah (k:=0) bH rfl rfl rfl) (gg rfl rfl (lN h3)) rfl<|Wo.og (ah (k:=5) bH rfl rfl rfl) (gg rfl rfl (lN h3)) rfl<|Wo.og (aI rfl rfl (su Ea (Fu _ _ _ _ _ _ _ _ _ _ _ _ _ _ _ _))) (gg rfl rfl (lN h3)) rfl ?_;refine ay ?_;cases hF;exact ar () []
             ·refine ay ?_;cases hF;exact ar () []
            ·refine ay ?_;cases hF;exact ar () []
           ·refine ay ?_;cases hF;exact ar () []
          ·refine fa ?_;cases hF;exact ar () []
end Go.Proofs.YtookeaakpiefjaaGreatDoor
end

section
namespace Go.Ab.W
open Go Go.Ab
theorem LO:uM .u64=2 ^ 64:=rfl
theorem iJ {a:Nat} (h:a<2 ^ 64):uw .u64 a=a:=Nat.mod_eq_of_lt h
theorem qq {a:Nat} (h:a<2 ^ 64) {i:Nat} (hi:a.testBit i=true):i<64:=by
 rcases Nat.lt_or_ge i 64 with h1|h1
 ·exact h1
 ·have:a<2 ^ i:=Nat.lt_of_lt_of_le h (Nat.pow_le_pow_right (by decide) h1)
  rw[Nat.testBit_lt_two_pow this] at hi; cases hi
theorem j9 {a b:Nat} (ha:a<2 ^ 64) (hb:b<2 ^ 64):uw .u64 (uw .u64 a &&& uw .u64 b)=a &&& b:=by
 rw[iJ ha,iJ hb,iJ (Nat.lt_of_le_of_lt Nat.and_le_left ha)]
theorem po {a b:Nat} (ha:a<2 ^ 64) (hb:b<2 ^ 64):uw .u64 (uw .u64 a ||| uw .u64 b)=a ||| b:=by
 rw[iJ ha,iJ hb,iJ (Nat.or_lt_two_pow ha hb)]
theorem kD {a b:Nat} (ha:a<2 ^ 64):a &&& b<2 ^ 64:=Nat.lt_of_le_of_lt Nat.and_le_left ha
theorem tw {a b:Nat} (ha:a<2 ^ 64) (hb:b<2 ^ 64):a ||| b<2 ^ 64:=Nat.or_lt_two_pow ha hb
theorem sX {a b:Nat} (ha:a<2 ^ 64) (hb:b<2 ^ 64):iI .u64 a b=a ^^^ (a &&& b):=by
 unfold iI;rw[iJ ha,iJ hb,iJ (Nat.xor_lt_two_pow ha (kD ha))]
theorem np {a b:Nat} (ha:a<2 ^ 64) (hb:b<2 ^ 64) (i:Nat):(iI .u64 a b).testBit i=(a.testBit i && !b.testBit i):=by
 rw[sX ha hb,Nat.testBit_xor,Nat.testBit_and];cases a.testBit i<;>cases b.testBit i<;>rfl
theorem HW {a b:Nat} (ha:a<2 ^ 64) (hb:b<2 ^ 64):iI .u64 a b<2 ^ 64:=by
 rw[sX ha hb]; exact Nat.xor_lt_two_pow ha (kD ha)
theorem qL {k:Nat} (h:k<64):dH .u64 1 k=2 ^ k:=by
 unfold dH;rw[Nat.min_eq_left (Nat.le_of_lt (show k<IntKind.bits .u64 from h)),Nat.one_mul]
 exact iJ (Nat.pow_lt_pow_right (by decide) h)
theorem ta {k:Nat} (h:k<64):2 ^ k<2 ^ 64:=Nat.pow_lt_pow_right (by decide) h
theorem vu (k i:Nat):(2 ^ k).testBit i=decide (i=k):=by
 rw[Nat.testBit_two_pow]
 by_cases h:k=i
 ·simp[h]
 ·simp[h,Ne.symm h]
theorem xU {a k:Nat} (h:k≤64):cO .u64 a k=a >>> k:=by
 unfold cO;rw[Nat.min_eq_left (show k≤IntKind.bits .u64 from h),Nat.shiftRight_eq_div_pow]
theorem yA {a k:Nat} (ha:a<2 ^ 64) (h:k≤64):decide (uw .u64 (uw .u64 (cO .u64 a k) &&& uw .u64 1)=1)=a.testBit k:=by
 have hs:a >>> k<2 ^ 64:=Nat.lt_of_le_of_lt (by rw[Nat.shiftRight_eq_div_pow]; exact Nat.div_le_self _ _) ha
 rw[xU h,j9 hs (by decide),Nat.testBit]
 rw[Nat.and_comm];have h2:1 &&& a >>> k=(a >>> k)%2:=by rw[Nat.and_comm,Nat.and_one_is_mod]
 rw[h2];rcases Nat.mod_two_eq_zero_or_one (a >>> k) with h3|h3<;>rw[h3]<;>rfl
theorem wD {a b:Nat} (h:∀i,a.testBit i=true↔b.testBit i=true):a=b:=Nat.eq_of_testBit_eq fun i=>by
 have:=h i;cases ha:a.testBit i<;>cases hb:b.testBit i<;>simp_all
theorem C1 {a:Nat}:a=0↔∀i,a.testBit i=false:=⟨fun h=>by subst h; exact fun i=>Nat.zero_testBit i,fun h=>Nat.eq_of_testBit_eq fun i=>by rw[h,Nat.zero_testBit]⟩
theorem fL {x:Nat} (h0:0<x) (h1:x<2 ^ 64):x.testBit (tz x)=true∧∀i,i<tz x→x.testBit i=false:=by
 obtain⟨h2,_,q,hq⟩:=jY h0 h1;have key:∀i,x.testBit i=(decide (tz x≤i) && (2*q+1).testBit (i-tz x)):=fun i=>by
  conv=>lhs; rw[hq]
  rw[Nat.testBit_two_pow_mul]
 refine⟨?_,fun i hi=>?_⟩
 ·rw[key,Nat.sub_self];simp[Nat.testBit_zero]
 ·rw[key,decide_eq_false (by omega)]; rfl
theorem DY {x:Nat} (h0:0<x) (h1:x<2 ^ 64):uw .u64 (uw .u64 x &&& uw .u64 (yz .u64 x))=2 ^ tz x:=by
 obtain⟨h2,h3,_⟩:=jY h0 h1;have hn:yz .u64 x=2 ^ 64-x:=by
  unfold yz;rw[iJ h1,LO,iJ (by omega)]
 rw[hn,j9 h1 (by omega),h3]
def EI (x:Nat):Nat:=uw .u64 (uw .u64 x &&& uw .u64 (dw .u64 x 1))
theorem DX {x:Nat} (h0:0<x) (h1:x<2 ^ 64):EI x=x &&& (x-1):=by
 have:dw .u64 x 1=x-1:=by
  unfold dw;rw[LO,iJ (show(1:Nat)<2 ^ 64 by decide)]
  show(x+(2 ^ 64-1))%2 ^ 64=x-1
  omega
 unfold EI;rw[this,j9 h1 (by omega)]
theorem FI (t q i:Nat):(2 ^ t*(2*q+1)-1).testBit i=if i<t then true else if i=t then false else(2 ^ t*(2*q+1)).testBit i:=by
 have e:2 ^ t*(2*q+1)-1=2 ^ t*(2*q)+(2 ^ t-1):=by
  rw[Nat.mul_add,Nat.mul_one];have:=Nat.two_pow_pos t;omega
 rw[e,Nat.testBit_two_pow_mul_add _ (by have:=Nat.two_pow_pos t; omega)]
 by_cases h:i<t
 ·rw[if_pos h,if_pos h,Nat.testBit_two_pow_sub_one]; simp[h]
 ·rw[if_neg h,if_neg h]
  by_cases h':i=t
  ·subst h'; simp[Nat.testBit_zero]
  ·rw[if_neg h',Nat.testBit_two_pow_mul];obtain⟨d,hd⟩:∃d,i-t=d+1:=⟨i-t-1,by omega⟩
   rw[hd,Nat.testBit_succ,Nat.testBit_succ];have:(2*q+1)/2=2*q/2:=by omega
   rw[this];simp; omega
theorem tA {x:Nat} (h0:0<x) (h1:x<2 ^ 64) (i:Nat):(EI x).testBit i=(x.testBit i && !decide (i=tz x)):=by
 rw[DX h0 h1,Nat.testBit_and];obtain⟨_,_,q,hq⟩:=jY h0 h1;obtain⟨hb,hl⟩:=fL h0 h1;have:=FI (tz x) q i;rw[←hq] at this;rw[this]
 by_cases h:i<tz x
 ·rw[hl i h]; rfl
 ·rw[if_neg h]
  by_cases h':i=tz x
  ·simp[h']
  ·simp[h']
theorem KD {x:Nat} (h0:0<x) (h1:x<2 ^ 64):EI x<2 ^ 64:=by rw[DX h0 h1]; exact kD h1
def bitsOf (x:Nat):List Nat:=(List.range 64).filter fun i=>x.testBit i
theorem qH {x i:Nat} (h:x<2 ^ 64):i ∈ bitsOf x↔x.testBit i=true:=by
 unfold bitsOf;rw[List.mem_filter,List.mem_range];exact⟨fun h=>h.2,fun hi=>⟨qq h hi,hi⟩⟩
theorem lM (x:Nat):(bitsOf x).length≤64:=by
 unfold bitsOf;exact Nat.le_trans (List.length_filter_le _ _) (by simp)
theorem xS:bitsOf 0 = []:=by
 unfold bitsOf;simp
theorem ic (p q:Nat→Bool) (t:Nat):∀(n s:Nat),s≤t→t<s+n→p t=true→(∀i,s≤i→i<t→p i=false)→(∀i,t<i→p i=q i)→(∀i,s≤i→i≤t→q i=false) →
  (List.range' s n).filter p=t::(List.range' s n).filter q
 | 0,s,h1,h2,_,_,_,_=>by omega
 | n+1,s,h1,h2,hp,hl,hg,hq=>by
  rw[List.range'_succ]
  by_cases h:s=t
  ·subst h;rw[List.filter_cons_of_pos hp,List.filter_cons_of_neg (by rw[hq s (Nat.le_refl _) (Nat.le_refl _)]; decide)]
   congr 1
   apply List.filter_congr;intro i hi;rw[List.mem_range'_1] at hi;exact hg i (by omega)
  ·rw[List.filter_cons_of_neg (by rw[hl s (Nat.le_refl _) (by omega)]; decide),List.filter_cons_of_neg (by rw[hq s (Nat.le_refl _) (by omega)]; decide)]
   exact ic p q t n (s+1) (by omega) (by omega) hp (fun i a b=>hl i (by omega) b) hg (fun i a b=>hq i (by omega) b)
theorem oS {x:Nat} (h0:0<x) (h1:x<2 ^ 64):bitsOf x=tz x::bitsOf (EI x):=by
 obtain⟨hb,hl⟩:=fL h0 h1;unfold bitsOf;rw[List.range_eq_range'];refine ic _ _ (tz x) 64 0 (Nat.zero_le _) (by have:=(jY h0 h1).1; omega) hb (fun i _ h=>hl i h) (fun i h=>?_) (fun i _ h=>?_)
 ·show x.testBit i=(EI x).testBit i
  rw[tA h0 h1];have:i≠tz x:=by omega
  simp[this]
 ·show(EI x).testBit i=false
  rw[tA h0 h1]
  by_cases e:i=tz x
  ·simp[e]
  ·rw[hl i (by omega)]; rfl
section
variable {σ ρ τ : Type}
theorem HS {body:τ→Option (τ ⊕ ρ)} (mk:Nat→σ→τ) (step:σ→Nat→σ) (fin:σ→ρ) (I:σ→Prop) (x0:Nat)
  (hs:∀r s,0<r→r<2 ^ 64→x0.testBit (tz r)=true→I s→body (mk r s)=some (.inl (mk (EI r) (step s (tz r))))∧I (step s (tz r))) (he:∀s,I s→body (mk 0 s)=some (.inr (fin s))) :
  ∀(n:Nat) (r:Nat) (s:σ),r<2 ^ 64→(∀i,r.testBit i=true→x0.testBit i=true)→I s→(bitsOf r).length<n→bX body n (mk r s)=some (fin ((bitsOf r).foldl step s)):=by
 intro n
 induction n with
 | zero=>intro r s _ _ _ h; exact absurd h (Nat.not_lt_zero _)
 | succ n ih =>
  intro r s hr hx hI hn;rcases Nat.eq_zero_or_pos r with h0|h0
  ·subst h0;rw[xS];simp only[bX,he s hI,List.foldl_nil]
  ·obtain⟨h1,h2⟩:=hs r s h0 hr (hx _ (fL h0 hr).1) hI;rw[oS h0 hr,List.foldl_cons];simp only[bX,h1];refine ih _ _ (KD h0 hr) (fun i hi=>hx i ?_) h2 (by rw[oS h0 hr] at hn; simpa using hn)
   rw[tA h0 hr] at hi;simp only[Bool.and_eq_true] at hi;exact hi.1
theorem HO {α:Type} {body:τ→Option (τ ⊕ ρ)} (l:List α) (mk:σ→Int→τ) (step:σ→α→σ) (fin:σ→ρ) (I:Nat→σ→Prop)
  (hs:∀s i x,l[i]? = some x→I i s→body (mk s (i:Int))=some (.inl (mk (step s x) ((i+1:Nat):Int)))∧I (i+1) (step s x)) (he:∀s,I l.length s→body (mk s (l.length:Int))=some (.inr (fin s))) :
  ∀(k i n:Nat) (s:σ),i+k=l.length→I i s→k<n→bX body n (mk s (i:Int))=some (fin ((l.drop i).foldl step s))∧I l.length ((l.drop i).foldl step s):=by
 intro k
 induction k with
 | zero =>
  intro i n s hi hI hn;obtain⟨n,rfl⟩:∃n',n=n'+1:=⟨n-1,by omega⟩
  have:i=l.length:=by omega
  subst this;rw[List.drop_length];exact⟨by simp only[bX,he s hI,List.foldl_nil],hI⟩
 | succ k ih =>
  intro i n s hi hI hn;obtain⟨n,rfl⟩:∃n',n=n'+1:=⟨n-1,by omega⟩
  have hlt:i<l.length:=by omega
  obtain⟨h1,h2⟩:=hs s i l[i] (List.getElem?_eq_getElem hlt) hI;rw[List.drop_eq_getElem_cons hlt,List.foldl_cons];simp only[bX,h1];exact ih (i+1) n _ (by omega) h2 (by omega)
theorem EG {α:Type} {body:τ→Option (τ ⊕ ρ)} (l:List α) (mk:σ→Int→τ) (step:σ→α→σ) (fin:σ→ρ) (I:Nat→σ→Prop)
  (hs:∀s i x,l[i]? = some x→I i s→body (mk s (i:Int))=some (.inl (mk (step s x) ((i+1:Nat):Int)))∧I (i+1) (step s x)) (he:∀s,I l.length s→body (mk s (l.length:Int))=some (.inr (fin s)))
  {n:Nat} {s:σ} (hI:I 0 s) (hn:l.length<n):bX body n (mk s 0)=some (fin (l.foldl step s))∧I l.length (l.foldl step s):=by
 have:=HO l mk step fin I hs he l.length 0 n s (by omega) hI hn
 simpa using this
end
theorem xw (f:Nat→Nat):∀(l:List Nat) (s i:Nat),(l.foldl (fun s k=>s ||| f k) s).testBit i=true↔s.testBit i=true∨∃k ∈ l,(f k).testBit i=true
 | [],s,i=>by simp
 | x::l,s,i=>by
  rw[List.foldl_cons,xw f l,Nat.testBit_or,Bool.or_eq_true];simp only[List.mem_cons];constructor
  ·rintro((h|h) | ⟨k,hk,h⟩)
   ·exact .inl h
   ·exact .inr ⟨x,.inl rfl,h⟩
   ·exact .inr ⟨k,.inr hk,h⟩
  ·rintro(h|⟨k,rfl|hk,h⟩)
   ·exact .inl (.inl h)
   ·exact .inl (.inr h)
   ·exact .inr ⟨k,hk,h⟩
theorem oF (f:Nat→Nat):∀(l:List Nat) (s:Nat),s<2 ^ 64→(∀k ∈ l,f k<2 ^ 64)→l.foldl (fun s k=>s ||| f k) s<2 ^ 64
 | [],s,h,_=>h
 | x::l,s,h,hf=>oF f l _ (tw h (hf x (by simp))) fun k hk=>hf k (by simp[hk])
end Go.Ab.W
end

section
namespace Go.Proofs.YtookeaakpiefjaaGreatDoor
open Go Go.Ab Go.Ab.W
section
variable {α β σ ρ : Type}
theorem dJ (a b:Option β):br true a b=a:=rfl
theorem dX (a b:Option β):br false a b=b:=rfl
theorem aW (a:Option β):gd true a=a:=rfl
theorem ai (x:α) (f:α→Option β):ob (some x) f=f x:=rfl
theorem bC {p:Prop} [Decidable p] (h:p) (a b:Option β):br (decide p) a b=a:=by rw[decide_eq_true h]; rfl
theorem bt {p:Prop} [Decidable p] (h:¬p) (a b:Option β):br (decide p) a b=b:=by rw[decide_eq_false h]; rfl
theorem vo (c:Bool) (a b:Option β):br c a b=if c then a else b:=by cases c<;>rfl
theorem cK {p:Prop} [Decidable p] (h:p) (a:Option β):gd (decide p) a=a:=by rw[decide_eq_true h]; rfl
theorem aG {i n:Nat} (h:i<n):bL (i:Int) n=true:=decide_eq_true ⟨Int.natCast_nonneg i,by simpa using h⟩
theorem bz {x:Int} (h1 : -9223372036854775808≤x) (h2:x<9223372036854775808):IntKind.wrap .i64 x=x:=wrap_i64 x h1 (by omega)
theorem bY {i:Nat} (h:i<4611686018427387904):IntKind.wrap .i64 ((i:Int)+1)=((i+1:Nat):Int):=by rw[bz (by omega) (by omega)]; rfl
theorem az {body:σ→Option (σ ⊕ ρ)} {n:Nat} {s s':σ} (h:body s=some (.inl s')):bX body (n+1) s=bX body n s':=by simp only[bX,h]
theorem bu {body:σ→Option (σ ⊕ ρ)} {n:Nat} {s:σ} {r:ρ} (h:body s=some (.inr r)):bX body (n+1) s=some r:=by simp only[bX,h]
end
def mh (N:Int):Int × Int→List (Int × Int)→Bool
 | _,[]=>true
 | p,e::es=>decide (0≤e.1∧e.1<e.2∧e.2<N) && decide (p.1<e.1∨p.1=e.1∧p.2<e.2) && mh N e es
def wT (N:Int) (es:List (Int × Int)):Bool:=decide (1≤N∧N≤64∧es.length≤200) && mh N (-1,-1) es
def Mf (N:Int) (es:List (Int × Int)):Int:=if wT N es then 0 else 180
theorem Ij (n:Nat) (x:Int):B3 n x=some false:=by unfold B3; simp
theorem AP (n:Nat) (x y:Int):Fp n x y=some (if x<y then -1 else if y<x then 1 else 0):=by
 unfold Fp;simp only[Ij,ai,dX];rw[vo,vo]
 by_cases h:x<y
 ·simp[h]
 ·by_cases h':y<x<;>simp[h,h']
theorem GL (n:Nat) (a b c d:Int) (hn:2<n):DC n [a,b] [c,d]=some (if a<c then -1 else if c<a then 1 else if b<d then -1 else if d<b then 1 else 0):=by
 obtain⟨n,rfl⟩:∃n',n=n'+3:=⟨n-3,by omega⟩
 have L0:kz (n+3) [a,b] [c,d] 0=if a<c then some (.inr (.inl (-1))) else if c<a then some (.inr (.inl 1)) else some (.inl 1):=by
  unfold kz;simp only[List.length_cons,List.length_nil];rw[bC (by decide),show bL 0 (0+1+1)=true by decide,aW]
  simp only[Int.toNat_zero,List.getElem?_cons_zero,ai];rw[bt (by decide),aW]
  simp only[AP,ai]
  by_cases h:a<c
  ·simp[h,dJ]
  ·by_cases h':c<a
   ·simp[h,h',dJ]
   ·simp only[h,h',if_false,decide_true,Bool.not_true,dX];rw[bz (by decide) (by decide)]; rfl
 have L1:kz (n+3) [a,b] [c,d] 1=if b<d then some (.inr (.inl (-1))) else if d<b then some (.inr (.inl 1)) else some (.inl 2):=by
  unfold kz;simp only[List.length_cons,List.length_nil];rw[bC (by decide),show bL 1 (0+1+1)=true by decide,aW]
  simp only[show(1:Int).toNat=1 from rfl,List.getElem?_cons_succ,List.getElem?_cons_zero,ai]
  rw[bt (by decide),aW]
  simp only[AP,ai]
  by_cases h:b<d
  ·simp[h,dJ]
  ·by_cases h':d<b
   ·simp[h,h',dJ]
   ·simp only[h,h',if_false,decide_true,Bool.not_true,dX];rw[bz (by decide) (by decide)]; rfl
 have L2:kz (n+3) [a,b] [c,d] 2=some (.inr (.inr ())):=by
  unfold kz;simp only[List.length_cons,List.length_nil];rw[bt (by decide)]
 unfold DC
 by_cases h1:a<c
 ·rw[if_pos h1] at L0 ⊢;rw[bu L0]; rfl
 ·rw[if_neg h1] at L0 ⊢
  by_cases h2:c<a
  ·rw[if_pos h2] at L0 ⊢;rw[bu L0]; rfl
  ·rw[if_neg h2] at L0 ⊢;rw[az L0]
   by_cases h3:b<d
   ·rw[if_pos h3] at L1 ⊢;rw[bu L1]; rfl
   ·rw[if_neg h3] at L1 ⊢
    by_cases h4:d<b
    ·rw[if_pos h4] at L1 ⊢;rw[bu L1]; rfl
    ·rw[if_neg h4] at L1 ⊢;rw[az L1,bu L2,ai];simp only[List.length_cons,List.length_nil]
     rfl
def cZ (N:Int) (p e:Int × Int):Bool:=decide (0≤e.1∧e.1<e.2∧e.2<N) && decide (p.1<e.1∨p.1=e.1∧p.2<e.2)
theorem eO (N:Int) (p e:Int × Int) (es:List (Int × Int)):mh N p (e::es)=(cZ N p e && mh N e es):=rfl
theorem Cx (n:Nat) (l2:List (Int × Int)) (N:Int) (p:Int × Int) (i:Nat) (e:Int × Int) (hn:2<n) (hi:l2[i]? = some e) (hb:i<4611686018427387904) :
  lX n l2 N (p.1,p.2,(i:Int))=if cZ N p e then some (.inl (e.1,e.2,((i+1:Nat):Int))) else some (.inr (.inl ())):=by
 obtain⟨p1,p2⟩:=p;obtain⟨a,b⟩:=e;have a1:i<l2.length:=(List.getElem?_eq_some_iff.1 hi).1;have e1:l2[((i:Nat):Int).toNat]? = some (a,b):=by simpa using hi
 have c1:decide (((i:Nat):Int)<(l2.length:Int))=true:=decide_eq_true (by omega)
 simp only[lX,c1,dJ,aG a1,aW,e1,ai,GL n _ _ _ _ hn,bY hb]
 by_cases h1:a<0
 ·have:cZ N (p1,p2) (a,b)=false:=by simp[cZ]; omega
  rw[this,bC h1,ai,dJ]; rfl
 ·rw[bt h1]
  by_cases h2:b≤a
  ·have:cZ N (p1,p2) (a,b)=false:=by simp[cZ]; omega
   rw[this,bC h2,ai,dJ]; rfl
  ·rw[bt h2]
   by_cases h3:N≤b
   ·have:cZ N (p1,p2) (a,b)=false:=by simp[cZ]; omega
    rw[this,bC h3,ai,dJ]; rfl
   ·rw[bt h3,ai]
    by_cases h4:p1<a∨p1=a∧p2<b
    ·have:cZ N (p1,p2) (a,b)=true:=by simp[cZ]; omega
     have h5:¬(0≤(if p1<a then(-1:Int) else if a<p1 then 1 else if p2<b then -1 else if b<p2 then 1 else 0)):=by
      rcases h4 with h4|⟨h4,h5⟩
      ·rw[if_pos h4]; decide
      ·rw[if_neg (by omega),if_neg (by omega),if_pos h5]; decide
     rw[this,bt h5]; rfl
    ·have:cZ N (p1,p2) (a,b)=false:=by simp[cZ]; omega
     have h5:0≤(if p1<a then(-1:Int) else if a<p1 then 1 else if p2<b then -1 else if b<p2 then 1 else 0):=by
      rw[if_neg (by omega)]
      by_cases h6:a<p1
      ·rw[if_pos h6]; decide
      ·rw[if_neg h6,if_neg (by omega)]; split<;>decide
     rw[this,bC h5]; rfl
theorem GB (n0:Nat) (l2:List (Int × Int)) (N:Int) (hn:2<n0) (hl:l2.length<4611686018427387904):∀k i p n,i+k=l2.length→k<n→bX (lX n0 l2 N) n (p.1,p.2,(i:Int))=some (if mh N p (l2.drop i) then .inr () else .inl ()):=by
 intro k
 induction k with
 | zero =>
  intro i p n hi hk;obtain⟨n,rfl⟩:∃n',n=n'+1:=⟨n-1,by omega⟩
  rw[List.drop_of_length_le (by omega)]
  exact bu (by simp only[lX]; rw[bt (by omega)]; rfl)
 | succ k ih =>
  intro i p n hi hk;obtain⟨n,rfl⟩:∃n',n=n'+1:=⟨n-1,by omega⟩
  have a1:i<l2.length:=by omega
  have hs:=Cx n0 l2 N p i l2[i] hn (by simp[a1]) (by omega)
  rw[List.drop_eq_getElem_cons a1,eO]
  by_cases h:cZ N p l2[i]=true
  ·rw[if_pos h] at hs;rw[az hs,ih (i+1) l2[i] n (by omega) (by omega),h,Bool.true_and]
  ·rw[if_neg h] at hs;rw[bu hs];simp only[Bool.not_eq_true] at h;rw[h]; rfl
theorem head_eq (N:Int) (len:Nat):(br (decide (N<1)) (some true) (br (decide (64<N)) (some true) (some (decide (200<(len:Int))))))=some (!decide (1≤N∧N≤64∧len≤200)):=by
 rw[vo,vo]
 by_cases h1:N<1
 ·have:¬(1≤N∧N≤64∧len≤200):=by omega
  simp[h1,this]
 ·by_cases h2:64<N
  ·have:¬(1≤N∧N≤64∧len≤200):=by omega
   simp[h1,h2,this]
  ·by_cases h3:200<(len:Int)
   ·have:¬(1≤N∧N≤64∧len≤200):=by omega
    simp only[h1,h2,h3,this,decide_true,decide_false,Bool.false_eq_true,if_false,Bool.not_false]
   ·have:(1≤N∧N≤64∧len≤200):=by omega
    simp only[h1,h2,h3,this,decide_true,decide_false,Bool.false_eq_true,if_false,Bool.not_true,and_self]
theorem Ao (n:Nat) (N:Int) (es:List (Int × Int)) (hn:2<n) (hl:es.length<4611686018427387904) (hk:es.length<n):C3 n N es=some (Mf N es):=by
 unfold C3;rw[head_eq,ai];unfold Mf wT
 by_cases h:1≤N∧N≤64∧es.length≤200
 ·rw[decide_eq_true h,Bool.not_true,dX,Bool.true_and];have:=GB n es N hn hl es.length 0 (-1,-1) n (by omega) hk
  rw[List.drop_zero] at this;rw[show bX (lX n es N) n (-1,-1,0)=_ from this,ai]
  by_cases h2:mh N (-1,-1) es=true
  ·rw[if_pos h2,if_pos h2]
  ·rw[if_neg h2,if_neg h2]
 ·rw[decide_eq_false h,Bool.not_false,dJ,Bool.false_and]; rfl
theorem zH {σ ρ:Type} {body:σ→Option (σ ⊕ ρ)} {R:ρ→Prop} (I:Nat→σ→Prop) (h:∀k s,I k s→(∃s',body s=some (.inl s')∧∃k',k'<k∧I k' s')∨∃r,body s=some (.inr r)∧R r):∀k s n,I k s→k<n→∃r,bX body n s=some r∧R r:=by
 intro k
 induction k using Nat.strongRecOn with
 | _ k ih =>
  intro s n hI hk;obtain⟨n,rfl⟩:∃n',n=n'+1:=⟨n-1,by omega⟩
  rcases h k s hI with⟨s',h1,k',h2,h3⟩|⟨r,h1,h2⟩
  ·obtain⟨r,h4,h5⟩:=ih k' h2 s' n h3 (by omega)
   exact⟨r,by rw[az h1]; exact h4,h5⟩
  ·exact⟨r,bu h1,h2⟩
theorem gb {c:Bool} {a b:Option Bool} (ha:c=true→∃x,a=some x) (hb:c=false→∃x,b=some x):∃x,br c a b=some x:=by
 cases c with
 | true=>exact ha rfl
 | false=>exact hb rfl
theorem fQ (x:Bool):∃y,some x=some y:=⟨x,rfl⟩
theorem gD {n:Nat} (h:n≤1073741824):kZ n=true:=Nat.ble_eq_true_of_le h
theorem BM (n0:Nat) (l4:List (Nat × Nat)) (N a b:Int) (hN:N≠0) (v:Bool) (n:Nat) (hn:3<n):∃r,bX (vX n0 l4 N a b) n (v,0)=some r:=by
 obtain⟨r,h,_⟩:=zH (body:=vX n0 l4 N a b) (R:=fun _=>True) (fun k s=>0≤s.2∧s.2+k=3) (fun k s hI=>by
  obtain⟨v,i⟩:=s;obtain⟨h1,h2⟩:=hI;simp only at h1 h2;simp only[vX]
  by_cases c1:i<(l4.length:Int)
  ·rw[bC c1,ai]
   by_cases c2:i<3
   ·rw[decide_eq_true c2,dJ];have hb:bL i l4.length=true:=decide_eq_true ⟨h1,by omega⟩
    have hlt:i.toNat<l4.length:=by omega
    have he:l4[i.toNat]? = some l4[i.toNat]:=by simp[hlt]
    rw[hb,aW,he,ai];generalize l4[i.toNat]=e;obtain⟨x,y⟩:=e;simp only[aW];rw[cK hN,cK hN];have:∃z,br v (some true) (br (decide (Int.tmod (IntKind.wrap .i64 ((x:Nat):Int)) N=a)) (br (decide (Int.tmod (IntKind.wrap .i64 ((y:Nat):Int)) N=b)) (some true) (br (decide (Int.tmod (IntKind.wrap .i64 ((x:Nat):Int)) N=b)) (some (decide (Int.tmod (IntKind.wrap .i64 ((y:Nat):Int)) N=a))) (some false))) (br (decide (Int.tmod (IntKind.wrap .i64 ((x:Nat):Int)) N=b)) (some (decide (Int.tmod (IntKind.wrap .i64 ((y:Nat):Int)) N=a))) (some false)))=some z :=
     gb (fun _=>fQ _) fun _=>gb (fun _=>gb (fun _=>fQ _) fun _=>gb (fun _=>fQ _) fun _=>fQ _) fun _=>gb (fun _=>fQ _) fun _=>fQ _
    obtain⟨z,hz⟩:=this;refine .inl ⟨(z,i+1),?_,k-1,by omega,by simp only; omega,by simp only; omega⟩
    rw[hz,ai,bz (by omega) (by omega)]
   ·rw[decide_eq_false c2,dX]; exact .inr ⟨v,rfl,trivial⟩
  ·rw[bt c1,ai,dX]; exact .inr ⟨v,rfl,trivial⟩) 3 (v,0) n ⟨by simp,by simp⟩ hn
 exact⟨r,h⟩
def yp (es:List (Int × Int)) (i j:Nat):Prop:=((i:Int),(j:Int)) ∈ es∨((j:Int),(i:Int)) ∈ es
theorem Bt {N:Int}:∀{es:List (Int × Int)} {p:Int × Int},mh N p es=true→∀e ∈ es,0≤e.1∧e.1<e.2∧e.2<N
 | [],_,_,e,he=>by cases he
 | x::es,p,h,e,he=>by
  rw[eO,Bool.and_eq_true] at h;rcases List.mem_cons.1 he with rfl|he
  ·simp only[cZ,Bool.and_eq_true,decide_eq_true_eq] at h;exact h.1.1
  ·exact Bt h.2 e he
structure Okay (N:Nat) (es:List (Int × Int)):Prop where
 pos:1≤N
 le:N≤64
 len:es.length≤200
 mem:∀e ∈ es,∃a b:Nat,e=((a:Int),(b:Int))∧a<b∧b<N
theorem pM {N:Int} {es:List (Int × Int)} (h:wT N es=true):∃M:Nat,N=(M:Int)∧Okay M es:=by
 simp only[wT,Bool.and_eq_true,decide_eq_true_eq] at h;obtain⟨⟨h1,h2,h3⟩,h4⟩:=h;obtain⟨M,rfl⟩:=Int.eq_ofNat_of_zero_le (show 0≤N by omega)
 refine⟨M,rfl,by omega,by omega,h3,fun e he=>?_⟩
 obtain⟨g1,g2,g3⟩:=Bt h4 e he;obtain⟨a,b⟩:=e;obtain⟨a,rfl⟩:=Int.eq_ofNat_of_zero_le (show 0≤a from g1)
 obtain⟨b,rfl⟩:=Int.eq_ofNat_of_zero_le (show 0≤b by simp only at g1 g2; omega)
 exact⟨a,b,rfl,by simp only at g2; omega,by simp only at g3; omega⟩
theorem Okay.yp {N:Nat} {es:List (Int × Int)} (h:Okay N es) {i j:Nat} (ha:yp es i j):i<N∧j<N∧i≠j:=by
 rcases ha with ha|ha
 ·obtain⟨a,b,e,h1,h2⟩:=h.mem _ ha;simp only[Prod.mk.injEq,Int.natCast_inj] at e;omega
 ·obtain⟨a,b,e,h1,h2⟩:=h.mem _ ha;simp only[Prod.mk.injEq,Int.natCast_inj] at e;omega
def bl (x:Nat):Nat:=if x=0 then 0 else Nat.log2 x+1
theorem jO {x k:Nat}:k<bl x↔2 ^ k≤x:=by
 unfold bl
 by_cases h:x=0
 ·subst h;rw[if_pos rfl];have:=Nat.two_pow_pos k;omega
 ·rw[if_neg h,Nat.lt_succ_iff,Nat.le_log2 h]
theorem B6 {x m:Nat} (h:∀k,k<m↔2 ^ k≤x):m=bl x:=by
 rcases Nat.lt_trichotomy m (bl x) with h1|h1|h1
 ·have:=(h m).2 (jO.1 h1); omega
 ·exact h1
 ·have:=jO.2 ((h (bl x)).1 h1); omega
theorem F7 {x s:Nat} (h:2 ^ s≤x):bl (x >>> s)+s=bl x:=by
 refine B6 fun k=>?_;rw[Nat.shiftRight_eq_div_pow]
 by_cases hk:k<s
 ·have:2 ^ k≤2 ^ s:=Nat.pow_le_pow_right (by decide) (by omega)
  constructor
  ·intro _; omega
  ·intro _; omega
 ·obtain⟨d,rfl⟩:∃d,k=d+s:=⟨k-s,by omega⟩
  have h1:=jO (x:=x/2 ^ s) (k:=d);have h2:2 ^ (d+s)≤x↔2 ^ d≤x/2 ^ s:=by rw[Nat.pow_add,Nat.le_div_iff_mul_le (Nat.two_pow_pos s)]
  rw[h2,←h1]; omega
theorem KE:∀y:Fin 256,fj[y.val]? = some (bl y.val):=by decide +kernel
theorem IH {x s:Nat} (h:x<2 ^ s):bl x≤s:=by
 rcases Nat.lt_or_ge s (bl x) with h1|h1
 ·have:=jO.1 h1; omega
 ·exact h1
theorem rp (s y m:Nat) (hs:s≤32) (hy:y<2 ^ (2*s)) (hm:m≤64):∃y' m':Nat,br (decide (2 ^ s≤y)) (some (cO .u64 y s,IntKind.wrap .i64 ((m:Int)+(s:Int)))) (some (y,(m:Int)))=some (y',(m':Int))∧y'<2 ^ s∧bl y'+m'=bl y+m∧m'≤m+s:=by
 by_cases h:2 ^ s≤y
 ·refine⟨y >>> s,m+s,?_,?_,?_,Nat.le_refl _⟩
  ·rw[bC h,xU (by omega),bz (by omega) (by omega)]; rfl
  ·rw[Nat.shiftRight_eq_div_pow,Nat.div_lt_iff_lt_mul (Nat.two_pow_pos s),←Nat.pow_add];rw[Nat.two_mul] at hy; exact hy
  ·have:=F7 h; omega
 ·exact⟨y,m,bt h _ _,by omega,rfl,by omega⟩
theorem uk (n x:Nat) (hx:x<2 ^ 64):yU n x=some ((bl x:Nat):Int):=by
 unfold yU;obtain⟨y1,m1,e1,h1,b1,g1⟩:=rp 32 x 0 (by omega) hx (by omega)
 have e1':br (decide (4294967296≤x)) (some (cO .u64 x 32,(32:Int))) (some (x,0))=some (y1,(m1:Int)):=e1;rw[e1',ai];obtain⟨y2,m2,e2,h2,b2,g2⟩:=rp 16 y1 m1 (by omega) h1 (by omega)
 have e2':br (decide (65536≤y1)) (some (cO .u64 y1 16,IntKind.wrap .i64 ((m1:Int)+16))) (some (y1,(m1:Int)))=some (y2,(m2:Int)):=e2;simp only[e2',ai];obtain⟨y3,m3,e3,h3,b3,g3⟩:=rp 8 y2 m2 (by omega) h2 (by omega)
 have e3':br (decide (256≤y2)) (some (cO .u64 y2 8,IntKind.wrap .i64 ((m2:Int)+8))) (some (y2,(m2:Int)))=some (y3,(m3:Int)):=e3;simp only[e3',ai];have h3:y3<256:=h3;have e:uw .u8 y3=y3:=Nat.mod_eq_of_lt h3;have h8:bl y3≤8:=IH h3;have ht:fj[y3]? = some (bl y3):=KE ⟨y3,h3⟩;have w1:IntKind.wrap .i64 ((bl y3:Nat):Int)=((bl y3:Nat):Int):=bz (by omega) (by omega)
 rw[e,aG h3,aW,Int.toNat_natCast,ht,ai,w1,bz (by omega) (by omega)]
 simp only[Option.some.injEq]; omega
def Nc (N:Int) (es:List (Int × Int)) (x:Nat):Int:=if wT N es then(if 2 ^ N.toNat≤x then 2 else 0) else 180
inductive Rch (es:List (Int × Int)) (S:Nat) (i:Nat):Nat→Prop
 | refl:Rch es S i i
 | step {j k:Nat} (h:Rch es S i j) (ha:yp es j k) (hk:S.testBit k=true):Rch es S i k
theorem Rch.mem {es:List (Int × Int)} {S i j:Nat} (h:Rch es S i j) (hi:S.testBit i=true):S.testBit j=true:=by
 cases h with
 | refl=>exact hi
 | step _ _ hk=>exact hk
theorem Rch.trans {es:List (Int × Int)} {S i j k:Nat} (h:Rch es S i j) (h':Rch es S j k):Rch es S i k:=by
 induction h' with
 | refl=>exact h
 | step _ ha hk ih=>exact .step ih ha hk
def FX (es:List (Int × Int)) (S i w:Nat):Prop:=w<2 ^ 64∧∀j,w.testBit j=true↔Rch es S i j
inductive Cs (es:List (Int × Int)) (S:Nat):Nat→List Nat→Prop
 | nil:Cs es S 0 []
 | cons {r w:Nat} {L:List Nat} (h0:0<r) (hr:r<2 ^ 64) (hw:FX es S (tz r) w) (t:Cs es S (iI .u64 r w) L):Cs es S r (w::L)
theorem zD {p:Nat→Bool} {t:Nat}:∀{k:Nat},t≤k→(∀i,t≤i→i<k→p i=false)→(List.range k).filter p=(List.range t).filter p:=by
 intro k hk
 induction hk with
 | refl=>intro _; rfl
 | @step k hk ih =>
  intro h;rw[List.range_succ,List.filter_append,ih fun i h1 h2=>h i h1 (by omega)]
  simp[h k hk (by omega)]
def fy (x t:Nat):List Nat:=(List.range t).filter fun i=>x.testBit i
def rk (x v:Nat):Nat:=(fy x v).length
theorem dW {x t v:Nat}:v ∈ fy x t↔v<t∧x.testBit v=true:=by simp[fy]
theorem Fh {σ ρ τ:Type} {body:τ→Option (τ ⊕ ρ)} (N:Nat) (mk:σ→Int→τ) (fin:σ→ρ) (I:Nat→σ→Prop)
  (hs:∀s i,i<N→I i s→∃s',body (mk s (i:Int))=some (.inl (mk s' ((i+1:Nat):Int)))∧I (i+1) s') (he:∀s,I N s→body (mk s (N:Int))=some (.inr (fin s))) :
  ∀(k i n:Nat) (s:σ),i+k=N→I i s→k<n→∃s',bX body n (mk s (i:Int))=some (fin s')∧I N s':=by
 intro k
 induction k with
 | zero =>
  intro i n s hi hI hn;obtain⟨n,rfl⟩:∃n',n=n'+1:=⟨n-1,by omega⟩
  have:i=N:=by omega
  subst this;exact⟨s,by simp only[bX,he s hI],hI⟩
 | succ k ih =>
  intro i n s hi hI hn;obtain⟨n,rfl⟩:∃n',n=n'+1:=⟨n-1,by omega⟩
  obtain⟨s',h1,h2⟩:=hs s i (by omega) hI
  simp only[bX,h1];exact ih (i+1) n s' (by omega) h2 (by omega)
theorem mw {σ ρ τ:Type} {body:τ→Option (τ ⊕ ρ)} (N:Nat) (mk:σ→Int→τ) (fin:σ→ρ) (I:Nat→σ→Prop)
  (hs:∀s i,i<N→I i s→∃s',body (mk s (i:Int))=some (.inl (mk s' ((i+1:Nat):Int)))∧I (i+1) s') (he:∀s,I N s→body (mk s (N:Int))=some (.inr (fin s)))
  {n:Nat} {s:σ} (hI:I 0 s) (hn:N<n):∃s',bX body n (mk s 0)=some (fin s')∧I N s' :=
 Fh N mk fin I hs he N 0 n s (by omega) hI hn
section
variable {n0 M : Nat} {l6 : List Int} {es : List (Int × Int)}
end
def val (w:Nat):List Nat→Nat
 | []=>0
 | d::ds=>d+2 ^ w*val w ds
def rj (p:Int × Int) (l:List (Int × Int)):Int × Int:=(l.getLast?).getD p
theorem xJ {N:Int} (e:Int × Int):∀(l:List (Int × Int)) (p:Int × Int),mh N p (l++[e])=(mh N p l && cZ N (rj p l) e)
 | [],p=>by rw[List.nil_append,eO]; simp[mh,rj]
 | x::l,p=>by
  rw[List.cons_append,eO,eO,xJ e l x,Bool.and_assoc]
  congr 2
  unfold rj;cases l with
  | nil=>rfl
  | cons y l =>
   rw[List.getLast?_cons_cons];have:∃z,(y::l).getLast? = some z:=⟨_,List.getLast?_eq_some_getLast (by simp)⟩
   obtain⟨z,hz⟩:=this;rw[hz]; rfl
def mQ (N:Int) (l:List (Int × Int)) (a b:Int):Prop:=mh N (-1,-1) l=true∧((rj (-1,-1) l).1<a∨(rj (-1,-1) l).1=a∧(rj (-1,-1) l).2<b)
theorem mQ.add {N:Int} {l:List (Int × Int)} {a b:Int} (h:mQ N l a b) (ha:0≤a) (hab:a<b) (hb:b<N):mQ N (l++[(a,b)]) a (b+1):=by
 refine⟨?_,.inr ?_⟩
 ·rw[xJ,h.1,Bool.true_and];simp only[cZ,Bool.and_eq_true,decide_eq_true_eq];exact⟨⟨ha,hab,hb⟩,h.2⟩
 ·unfold rj;rw[List.getLast?_append];simp only[List.getLast?_singleton,Option.some_or,Option.getD_some];exact⟨trivial,by omega⟩
theorem mQ.next {N:Int} {l:List (Int × Int)} {a b:Int} (h:mQ N l a b):mQ N l a (b+1):=⟨h.1,by rcases h.2 with h|h; exact .inl h; exact .inr (by omega)⟩
theorem mQ.row {N:Int} {l:List (Int × Int)} {a b c:Int} (h:mQ N l a b):mQ N l (a+1) c:=⟨h.1,.inl (by rcases h.2 with h|h<;>omega)⟩
theorem E8 (n0:Nat) (N a w:Int) (x3:Nat) (l1:List (Nat × Nat)) (hN:1≤N∧N≤12) (hw:w≠0) (l:List (Int × Int)) (c b:Int) (M:Nat) (hl:l.length≤M) (hM:M≤1000) (hb:0≤b∧b≤N) (ha:0≤a∧a<b) (hu:mQ N l a b) (n:Nat) (hn:12<n) (h2:3<n0) :
  ∃r,bX (xW n0 N a w x3 l1) n (l,c,b)=some r∧r.1.length≤M+12∧mQ N r.1 a N:=by
 refine zH (body:=xW n0 N a w x3 l1) (R:=fun r=>r.1.length≤M+12∧mQ N r.1 a N) (fun k s=>0≤s.2.2∧s.2.2+k=N∧s.1.length+k≤M+12∧a<s.2.2∧mQ N s.1 a s.2.2) (fun k s hI=>?_) (N-b).toNat (l,c,b) n ⟨hb.1,by simp only; omega,by simp only; omega,ha.2,hu⟩ (by omega)
 obtain⟨l,c,b⟩:=s;obtain⟨h3,h4,h5,h1,h0⟩:=hI;simp only at h3 h4 h5 h1 h0;simp only[xW]
 by_cases c0:b<N
 ·rw[bC c0];have e0:∃z,br (decide (b=IntKind.wrap .i64 (a+w))) (some true) (br (decide (b=IntKind.wrap .i64 (a+1))) (gd (decide (w≠0)) (some (!decide (Int.tmod b w=0)))) (some false))=some z :=
   gb (fun _=>fQ _) fun _=>gb (fun _=>⟨_,cK hw _⟩) fun _=>fQ _
  obtain⟨z,hz⟩:=e0;rw[hz,ai];have e1:∃c' z',br z (ob (ob (br (decide (Int.tmod c 2=1)) (ob (some (cO .u16 x3 (ui .u64 (Int.tmod (IntKind.wrap .i64 (Int.tdiv c 2)) 16)))) fun y2=>some (decide (uw .u16 (uw .u16 y2 &&& uw .u16 1)=1))) (some false)) fun v0=>br v0 (some false) (some z)) fun v1=>some (IntKind.wrap .i64 (c+1),v1)) (some (c,z))=some (c',z'):=by
   cases z with
   | false=>exact⟨c,false,rfl⟩
   | true =>
    rw[dJ];have:∃q,(ob (br (decide (Int.tmod c 2=1)) (ob (some (cO .u16 x3 (ui .u64 (Int.tmod (IntKind.wrap .i64 (Int.tdiv c 2)) 16)))) fun y2=>some (decide (uw .u16 (uw .u16 y2 &&& uw .u16 1)=1))) (some false)) fun v0=>br v0 (some false) (some true))=some q:=by
     by_cases h:Int.tmod c 2=1
     ·rw[bC h,ai,ai]; exact gb (fun _=>fQ _) fun _=>fQ _
     ·rw[bt h,ai]; exact gb (fun _=>fQ _) fun _=>fQ _
    obtain⟨q,hq⟩:=this;exact⟨_,q,by rw[hq,ai]⟩
  obtain⟨c',z',hz'⟩:=e1;rw[hz',ai];obtain⟨q,hq⟩:=BM n0 l1 N a b (by omega) z' n0 h2
  simp only[hq,ai];cases q with
  | false =>
   refine .inl ⟨(l,c',b+1),?_,k-1,by omega,by simp only; omega,by simp only; omega,by simp only; omega,by simp only; omega,h0.next⟩
   rw[dX,ai,bz (by omega) (by omega)]
  | true =>
   refine .inl ⟨(l++[(a,b)],c',b+1),?_,k-1,by omega,by simp only; omega,by simp only; omega,by simp; omega,by simp only; omega,h0.add ha.1 h1 c0⟩
   rw[dJ,gD (by simp; omega),aW,ai,bz (by omega) (by omega)]
 ·rw[bt c0]; exact .inr ⟨(l,c),rfl,by simp only; omega,(show b=N by omega) ▸ h0⟩
theorem E0 (n0:Nat) (N w:Int) (x3:Nat) (l4:List (Nat × Nat)) (hN:1≤N∧N≤12) (hw:w≠0) (n:Nat) (hn:12<n) (hn0:12<n0) :
  ∃r,bX (vT n0 N x3 l4) n (w,[],0,0)=some r∧r.length≤200∧mh N (-1,-1) r=true:=by
 refine zH (body:=vT n0 N x3 l4) (R:=fun r=>r.length≤200∧mh N (-1,-1) r=true) (fun k s=>s.1=w∧0≤s.2.2.2∧s.2.2.2+k=N∧s.2.1.length+12*k≤144∧mQ N s.2.1 s.2.2.2 0) (fun k s hI=>?_) N.toNat (w,[],0,0) n ⟨rfl,by simp,by simp only; omega,by simp; omega,⟨rfl,.inl (by show(-1:Int)<0; decide)⟩⟩ (by omega)
 obtain⟨w',l,c,a⟩:=s;obtain⟨rfl,h1,h2,h3,h4⟩:=hI;simp only at h1 h2 h3 h4 hw;simp only[vT]
 by_cases c1:a<N
 ·rw[bC c1];obtain⟨r,hr,hrl,hru⟩:=E8 n0 N a w' x3 l4 hN hw l c (IntKind.wrap .i64 (a+1)) l.length (Nat.le_refl _) (by omega) (by rw[bz (by omega) (by omega)]; omega) (by rw[bz (by omega) (by omega)]; omega) (by rw[bz (by omega) (by omega)]; exact⟨h4.1,h4.2.imp id fun h=>⟨h.1,by omega⟩⟩) n0 hn0 (by omega)
  obtain⟨l',c'⟩:=r;simp only[hr,ai];exact .inl ⟨(w',l',c',a+1),by rw[bz (by omega) (by omega)],k-1,by omega,rfl,by simp only; omega,by simp only; omega,by simp only at hrl ⊢; omega,hru.row⟩
 ·rw[bt c1]; exact .inr ⟨l,rfl,by omega,h4.1⟩
theorem Jk {S M:Nat} (hS:S<2 ^ M) (hM:M≤64):rk S 64=rk S M:=by
 unfold rk fy;rw[zD hM fun i hi _=>Nat.testBit_lt_two_pow (Nat.lt_of_lt_of_le hS (Nat.pow_le_pow_right (by decide) hi))]
theorem Gv (S M:Nat):(fy S M).Pairwise (· < ·):=List.Pairwise.filter _ List.pairwise_lt_range
section
variable {α β σ ρ : Type}
end
theorem DZ {es:List (Int × Int)} {i j:Nat} (h:yp es i j):yp es j i:=h.symm
theorem J2 {n x:Nat} (h:x<2 ^ 64):I8 n x=some ((tz x:Nat):Int):=by unfold I8; rw[decide_eq_true h,aW]
theorem J8 (n:Nat) (N:Int) (es:List (Int × Int)) (x:Nat) (hx:x<2 ^ 64) (hn:2<n) (hl:es.length<4611686018427387904) (hk:es.length<n):Lw n N es x=some (Nc N es x):=by
 unfold Lw Nc;rw[Ao n N es hn hl hk,ai];unfold Mf
 by_cases h:wT N es=true
 ·obtain⟨M,rfl,hM⟩:=pM h;rw[if_pos h,if_pos h];simp only[decide_true,Bool.not_true,dX,uk n x hx,ai,Int.toNat_natCast]
  by_cases h2:2 ^ M≤x
  ·have:=jO.2 h2;rw[if_pos h2,bC (by omega)]
  ·have:¬M<bl x:=fun h=>h2 (jO.1 h);rw[if_neg h2,bt (by omega)]
 ·rw[if_neg h,if_neg h]; rfl
theorem wK {x N:Nat} (h:x<2 ^ N) (hN:N≤64):x<2 ^ 64:=Nat.lt_of_lt_of_le h (Nat.pow_le_pow_right (by decide) hN)
theorem uo {x N i:Nat} (h:x<2 ^ N) (hi:x.testBit i=true):i<N:=by
 rcases Nat.lt_or_ge i N with h1|h1
 ·exact h1
 ·rw[Nat.testBit_lt_two_pow (Nat.lt_of_lt_of_le h (Nat.pow_le_pow_right (by decide) h1))] at hi; cases hi
def HL (L:List Nat) (e:Int × Int):List Nat :=
 let L1:=L.set e.1.toNat (L.getD e.1.toNat 0 ||| 2 ^ e.2.toNat)
 L1.set e.2.toNat (L1.getD e.2.toNat 0 ||| 2 ^ e.1.toNat)
def gE (N:Nat) (es:List (Int × Int)) (L:List Nat):Prop:=L.length=N∧∀k,k<N→∃w,L[k]? = some w∧w<2 ^ 64∧∀i,w.testBit i=true↔yp es k i
theorem qk {es:List (Int × Int)} {a b k i:Nat}:yp (es++[((a:Int),(b:Int))]) k i↔yp es k i∨(k=a∧i=b)∨(k=b∧i=a):=by
 unfold yp;simp only[List.mem_append,List.mem_singleton,Prod.mk.injEq,Int.natCast_inj];constructor
 ·rintro((h|h) | (h|h))
  ·exact .inl (.inl h)
  ·exact .inr (.inl h)
  ·exact .inl (.inr h)
  ·exact .inr (.inr ⟨h.2,h.1⟩)
 ·rintro((h|h) | (h|h))
  ·exact .inl (.inl h)
  ·exact .inr (.inl h)
  ·exact .inl (.inr h)
  ·exact .inr (.inr ⟨h.2,h.1⟩)
theorem xV {N:Nat} {es:List (Int × Int)} {L:List Nat} (h:gE N es L) {a b:Nat} (hab:a<b) (hb:b<N) (hN:N≤64):gE N (es++[((a:Int),(b:Int))]) (HL L ((a:Int),(b:Int))):=by
 obtain⟨hl,hw⟩:=h;obtain⟨wa,ha1,ha2,ha3⟩:=hw a (by omega)
 obtain⟨wb,hb1,hb2,hb3⟩:=hw b hb;have e1:L.getD a 0=wa:=by simp[List.getD,ha1]
 have hset:(L.set a (wa ||| 2 ^ b))[b]? = some wb:=by rw[List.getElem?_set_ne (by omega)]; exact hb1
 have e2:(L.set a (wa ||| 2 ^ b)).getD b 0=wb:=by simp only[List.getD,hset]; rfl
 unfold HL;simp only[Int.toNat_natCast,e1,e2];refine⟨by simp[hl],fun k hk=>?_⟩
 by_cases hkb:k=b
 ·subst hkb;refine⟨wb ||| 2 ^ a,by rw[List.getElem?_set_self (by simp[hl]; exact hk)],tw hb2 (ta (by omega)),fun i=>?_⟩
  rw[Nat.testBit_or,Bool.or_eq_true,hb3,vu,decide_eq_true_eq,qk];constructor
  ·rintro(h|h)
   ·exact .inl h
   ·exact .inr (.inr ⟨rfl,h⟩)
  ·rintro(h|⟨h,_⟩|⟨_,h⟩)
   ·exact .inl h
   ·omega
   ·exact .inr h
 ·by_cases hka:k=a
  ·subst hka;refine⟨wa ||| 2 ^ b,by rw[List.getElem?_set_ne (by omega),List.getElem?_set_self (by simp[hl]; exact hk)],tw ha2 (ta (by omega)),fun i=>?_⟩
   rw[Nat.testBit_or,Bool.or_eq_true,ha3,vu,decide_eq_true_eq,qk];constructor
   ·rintro(h|h)
    ·exact .inl h
    ·exact .inr (.inl ⟨rfl,h⟩)
   ·rintro(h|⟨_,h⟩|⟨h,_⟩)
    ·exact .inl h
    ·exact .inr h
    ·omega
  ·obtain⟨w,h1,h2,h3⟩:=hw k hk;refine⟨w,by rw[List.getElem?_set_ne (by omega),List.getElem?_set_ne (by omega)]; exact h1,h2,fun i=>?_⟩
   rw[h3,qk];constructor
   ·exact .inl
   ·rintro(h|⟨h,_⟩|⟨h,_⟩)
    ·exact h
    ·omega
    ·omega
theorem GJ (n N:Nat) (es:List (Int × Int)) (h:Okay N es) (hn:200<n):∃L,EV n (N:Int) es=some L∧gE N es L:=by
 have hN:=h.le;have hlen:=h.len;unfold EV;rw[decide_eq_true (show(0:Int)≤(N:Int) by omega),aW,Int.toNat_natCast,gD (by omega),aW]
 have:=EG (body:=qU n es (N:Int)) es (fun(L:List Nat) (v:Int)=>(L,v)) HL id (fun i L=>gE N (es.take i) L) (fun L i x hx hI=>?_) (fun L _=>?_) (n:=n) (s:=List.replicate N 0) ⟨by simp,fun k hk=>⟨0,by simp[hk],by decide,fun i=>by simp[yp]⟩⟩ (by omega)
 ·obtain⟨h1,h2⟩:=this;rw[h1,ai];rw[List.take_length] at h2;exact⟨_,rfl,h2⟩
 ·have hi:i<es.length:=(List.getElem?_eq_some_iff.1 hx).1;obtain⟨a,b,rfl,hab,hbN⟩:=h.mem x (List.mem_of_getElem? hx);have hstep:=xV hI hab hbN hN;have htk:es.take (i+1)=es.take i++[((a:Int),(b:Int))]:=by rw[List.take_add_one,hx]; rfl
  obtain⟨hl,hw⟩:=hI;obtain⟨wa,ha1,ha2,ha3⟩:=hw a (by omega)
  obtain⟨wb,hb1,hb2,hb3⟩:=hw b hbN;have e1:L.getD a 0=wa:=by simp[List.getD,ha1]
  have hset:(L.set a (wa ||| 2 ^ b))[b]? = some wb:=by rw[List.getElem?_set_ne (by omega)]; exact hb1
  have e2:(L.set a (wa ||| 2 ^ b)).getD b 0=wb:=by simp only[List.getD,hset]; rfl
  refine⟨?_,by rw[htk]; exact hstep⟩
  simp only[qU,Int.toNat_natCast,hx,ai,ha1,qL (show b<64 by omega),qL (show a<64 by omega),aG hi,aG (show a<N by omega),aG hbN,aW,po ha2 (ta (show b<64 by omega)),hset,po hb2 (ta (show a<64 by omega)),bY (show i<4611686018427387904 by omega),HL,e1,e2]
  rw[bC (by omega),decide_eq_true (show(0:Int)≤(b:Int) by omega),aW,decide_eq_true (show(0:Int)≤(a:Int) by omega),aW]
 ·simp only[qU];rw[bt (by omega)]; rfl
theorem Rch.symm {es:List (Int × Int)} {S i j:Nat} (h:Rch es S i j) (hi:S.testBit i=true):Rch es S j i:=by
 induction h with
 | refl=>exact .refl
 | step h' ha _ ih=>exact Rch.trans (.step .refl (DZ ha) (h'.mem hi)) ih
theorem FX.of {es:List (Int × Int)} {S i w:Nat} (hw:w<2 ^ 64) (hi:w.testBit i=true) (hr:∀j,w.testBit j=true→Rch es S i j) (hc:∀j k,w.testBit j=true→yp es j k→S.testBit k=true→w.testBit k=true):FX es S i w:=by
 refine⟨hw,fun j=>⟨hr j,fun h=>?_⟩⟩
 induction h with
 | refl=>exact hi
 | step _ ha hk ih=>exact hc _ _ ih ha hk
def cnt (x:Nat):Nat:=(bitsOf x).length
theorem filter_le {p q:Nat→Bool}:∀{l:List Nat},(∀i ∈ l,p i=true→q i=true)→(l.filter p).length≤(l.filter q).length
 | [],_=>Nat.le_refl _
 | x::l,h=>by
  have ih:=filter_le (p:=p) (q:=q) (l:=l) fun i hi=>h i (by simp[hi])
  by_cases hp:p x=true
  ·rw[List.filter_cons_of_pos hp,List.filter_cons_of_pos (h x (by simp) hp)]
   simp only[List.length_cons]; omega
  ·rw[List.filter_cons_of_neg hp]
   by_cases hq:q x=true
   ·rw[List.filter_cons_of_pos hq,List.length_cons]; omega
   ·rw[List.filter_cons_of_neg hq]; exact ih
theorem filter_lt {p q:Nat→Bool} {a:Nat}:∀{l:List Nat},a ∈ l→(∀i ∈ l,p i=true→q i=true)→p a=false→q a=true→(l.filter p).length<(l.filter q).length
 | x::l,ha,h,h1,h2=>by
  by_cases hx:x=a
  ·subst hx;rw[List.filter_cons_of_neg (by rw[h1]; decide),List.filter_cons_of_pos h2,List.length_cons]
   have:=filter_le (p:=p) (q:=q) (l:=l) fun i hi=>h i (by simp[hi])
   omega
  ·have ha':a ∈ l:=by
    rcases List.mem_cons.1 ha with e|e
    ·exact absurd e.symm hx
    ·exact e
   have ih:=filter_lt ha' (fun i hi=>h i (by simp[hi])) h1 h2
   by_cases hp:p x=true
   ·rw[List.filter_cons_of_pos hp,List.filter_cons_of_pos (h x (by simp) hp)]
    simp only[List.length_cons]; omega
   ·rw[List.filter_cons_of_neg hp]
    by_cases hq:q x=true
    ·rw[List.filter_cons_of_pos hq,List.length_cons]; omega
    ·rw[List.filter_cons_of_neg hq]; exact ih
theorem cnt_lt {a b i:Nat} (hb:b<2 ^ 64) (h:∀i,a.testBit i=true→b.testBit i=true) (h1:a.testBit i=false) (h2:b.testBit i=true):cnt a<cnt b :=
 filter_lt (by have:=qq hb h2; simpa using this) (fun i _ h'=>h i h') h1 h2
theorem ET (n N:Nat) (es:List (Int × Int)) (L:List Nat) (S p:Nat) (hL:gE N es L) (hS:S<2 ^ 64) (hp:p<2 ^ N) (hN:N≤64) (hn:64<n) :
  ∃q,bX (rX n L S) n (p,p)=some q∧q<2 ^ 64∧∀i,q.testBit i=true↔p.testBit i=true∨∃k,p.testBit k=true∧yp es k i∧S.testBit i=true:=by
 have h3:=wK hp hN;have hat:∀k,p.testBit k=true→∃w,L[k]? = some w∧L.getD k 0=w∧w<2 ^ 64∧∀i,w.testBit i=true↔yp es k i:=fun k hk=>by
  obtain⟨w,h2,h1,h0⟩:=hL.2 k (uo hp hk);exact⟨w,h2,by simp[List.getD,h2],h1,h0⟩
 have:=HS (body:=rX n L S) (fun(r s:Nat)=>(r,s)) (fun s k=>s ||| (L.getD k 0 &&& S)) id (fun s=>s<2 ^ 64) p (fun r s h4 hr hb hs=>?_) (fun s _=>?_) n p p h3 (fun i hi=>hi) h3 (by have:=lM p; omega)
 ·refine⟨_,this,oF _ _ _ h3 fun k hk=>?_,fun i=>?_⟩
  ·obtain⟨w,_,h1,h0,_⟩:=hat k ((qH h3).1 hk);rw[h1]; exact kD h0
  ·rw[id_eq,xw];simp only[qH h3,Nat.testBit_and,Bool.and_eq_true];constructor
   ·rintro(h|⟨k,hk,h2,h1⟩)
    ·exact .inl h
    ·obtain⟨w,_,e,_,h0⟩:=hat k hk;rw[e] at h2;exact .inr ⟨k,hk,(h0 i).1 h2,h1⟩
   ·rintro(h|⟨k,hk,h2,h1⟩)
    ·exact .inl h
    ·obtain⟨w,_,e,_,h0⟩:=hat k hk;exact .inr ⟨k,hk,by rw[e]; exact(h0 i).2 h2,h1⟩
 ·obtain⟨w,h2,h1,h0,h5⟩:=hat _ hb;have hkN:=uo hp hb;refine⟨?_,by rw[h1]; exact tw hs (kD h0)⟩
  have hlen:=hL.1;simp only[rX,J2 hr,ai,Int.toNat_natCast,h2,h1,j9 h0 hS,po hs (kD (b:=S) h0)];rw[show(!decide (r=0))=true by simp; omega,dJ,aG (by omega),aW]
  rfl
 ·simp only[rX]
  rfl
theorem EH (n N:Nat) (es:List (Int × Int)) (L:List Nat) (S i:Nat) (hok:Okay N es) (hL:gE N es L) (hS:S<2 ^ N) (hi:S.testBit i=true) (hn:64<n) :
  ∀(m p k:Nat),p<2 ^ N→p.testBit i=true→(∀j,p.testBit j=true→Rch es S i j)→64-cnt p<m→k=m→∃w,bX (wY n L S) k p=some w∧FX es S i w:=by
 intro m;have hN:=hok.le;have hS64:=wK hS hN
 induction m with
 | zero=>intro p k _ _ _ h; exact absurd h (Nat.not_lt_zero _)
 | succ m ih =>
  rintro p k hp hpi hr hm rfl;have h1:=wK hp hN;obtain⟨q,h2,h3,h0⟩:=ET n N es L S p hL hS64 hp hN hn;have hbody:wY n L S p=br (decide (q=p)) (some (.inr p)) (some (.inl q)):=by
   unfold wY;rw[ai,h2,ai,ai]
  by_cases hq:q=p
  ·rw[hq,decide_eq_true rfl,dJ] at hbody;rw[hq] at h0;exact⟨p,bu hbody,FX.of h1 hpi hr fun j k hj ha hk=>(h0 k).2 (.inr ⟨j,hj,ha,hk⟩)⟩
  ·rw[bt hq] at hbody;rw[az hbody];have hsub:∀j,p.testBit j=true→q.testBit j=true:=fun j hj=>(h0 j).2 (.inl hj);have hqr:∀j,q.testBit j=true→Rch es S i j:=fun j hj=>by
    rcases(h0 j).1 hj with h|⟨k,hk,ha,hs⟩
    ·exact hr j h
    ·exact .step (hr k hk) ha hs
   have hqN:q<2 ^ N:=by
    have:∀j,q.testBit j=true→S.testBit j=true:=fun j hj=>(hqr j hj).mem hi;refine Nat.lt_pow_two_of_testBit q fun j hj=>?_;cases e:q.testBit j with
    | false=>rfl
    | true=>have:=uo hS (this j e); omega
   obtain⟨j,h4,h5⟩:∃j,p.testBit j=false∧q.testBit j=true:=by
    apply Classical.byContradiction;intro hno;refine hq (wD fun j=>⟨fun hj=>?_,hsub j⟩);cases e:p.testBit j with
    | true=>rfl
    | false=>exact absurd ⟨j,e,hj⟩ hno
   have hc:=cnt_lt h3 hsub h4 h5;have hcl:cnt q≤64:=lM q;exact ih q m hqN (hsub i hpi) hqr (by omega) rfl
theorem Fx (n N:Nat) (es:List (Int × Int)) (L:List Nat) (S:Nat) (hok:Okay N es) (hL:gE N es L) (hS:S<2 ^ N) (hn:65<n) :
  ∀(m r k:Nat) (acc:List Nat),(∀i,r.testBit i=true→S.testBit i=true)→r<2 ^ 64→cnt r<m→m≤k→acc.length+cnt r≤64→∃l,bX (xE n L S) k (acc,r)=some (acc++l)∧Cs es S r l∧l.length≤cnt r:=by
 intro m;have hN:=hok.le
 induction m with
 | zero=>intro r k acc _ _ h; exact absurd h (Nat.not_lt_zero _)
 | succ m ih =>
  intro r k acc hsub hr hm hk hacc;obtain⟨k,rfl⟩:∃k',k=k'+1:=⟨k-1,by omega⟩
  rcases Nat.eq_zero_or_pos r with h0|h0
  ·subst h0;refine⟨[],?_,.nil,Nat.zero_le _⟩;rw[List.append_nil];exact bu (by simp only[xE]; rfl)
  ·obtain⟨hb,_⟩:=fL h0 hr;have hSi:=hsub _ hb;have hiN:=uo hS hSi;obtain⟨w,h1,hw⟩:=EH n N es L S (tz r) hok hL hS hSi (by omega) n (2 ^ tz r) n (Nat.pow_lt_pow_right (by decide) hiN) (by rw[vu]; simp) (fun j hj=>by
    rw[vu,decide_eq_true_eq] at hj; subst hj; exact .refl) (by omega) rfl
   have hwi:w.testBit (tz r)=true:=(hw.2 _).2 .refl;have hlt:cnt (iI .u64 r w)<cnt r:=cnt_lt (i:=tz r) hr (fun i hi=>by
    rw[np hr hw.1,Bool.and_eq_true] at hi; exact hi.1) (by rw[np hr hw.1,hwi]; simp) hb
   obtain⟨l,h2,h3,h4⟩:=ih (iI .u64 r w) k (acc++[w]) (fun i hi=>by
    rw[np hr hw.1,Bool.and_eq_true] at hi; exact hsub i hi.1) (HW hr hw.1) (by omega) (by omega) (by simp; omega)
   refine⟨w::l,?_,.cons h0 hr hw h3,by simp; omega⟩
   rw[az (s':=(acc++[w],iI .u64 r w)) ?_,h2,List.append_assoc]; rfl;simp only[xE];rw[show(!decide (r=0))=true by simp; omega,dJ,DY h0 hr,h1,ai,gD (by simp; omega),aW]
theorem Jl (n N:Nat) (es:List (Int × Int)) (S:Nat) (hok:Okay N es) (hS:S<2 ^ N) (hn:200<n):∃l,Mk n (N:Int) es S=some l∧Cs es S S l∧l.length≤64:=by
 obtain⟨L,hL,hA⟩:=GJ n N es hok hn;have hS64:=wK hS hok.le;have hc:cnt S≤64:=lM S;obtain⟨l,h1,h2,h3⟩:=Fx n N es L S hok hA hS (by omega) (cnt S+1) S n [] (fun i h=>h) hS64 (by omega) (by omega) (by simpa using hc)
 refine⟨l,?_,h2,by omega⟩
 unfold Mk;rw[hL,ai,h1,ai]; rfl
section
variable {M S : Nat} {es : List (Int × Int)}
theorem vz {N:Int} (f:Int × Int):∀{l1 l2:List (Int × Int)} {p:Int × Int},mh N p (l1++f::l2)=true→mh N p (l1++l2)=true
 | [],l2,p,h=>by
  rw[List.nil_append,eO,Bool.and_eq_true] at h;rw[List.nil_append];cases l2 with
  | nil=>rfl
  | cons g l2 =>
   rw[eO,Bool.and_eq_true] at h ⊢;refine⟨?_,h.2.2⟩;have h1:=h.1;have h2:=h.2.1;unfold cZ at h1 h2 ⊢;simp only[Bool.and_eq_true,decide_eq_true_eq] at h1 h2 ⊢;omega
 | g::l1,l2,p,h=>by
  rw[List.cons_append,eO,Bool.and_eq_true] at h;rw[List.cons_append,eO,Bool.and_eq_true];exact⟨h.1,vz f h.2⟩
theorem Ff {k:Nat} {e:Int × Int} (h:es[k]? = some e):es=es.take k++e::es.drop (k+1):=by
 obtain⟨hk,he⟩:=List.getElem?_eq_some_iff.1 h;have:=List.take_append_drop k es;rw[List.drop_eq_getElem_cons hk,he] at this;exact this.symm
theorem DL {k:Nat} {e:Int × Int} (hg:wT (M:Int) es=true) (h:es[k]? = some e):wT (M:Int) (es.take k++es.drop (k+1))=true:=by
 have hs:=Ff h;unfold wT at hg ⊢;rw[Bool.and_eq_true,decide_eq_true_eq] at hg ⊢;have hl:(es.take k++es.drop (k+1)).length≤es.length:=by
  have:=congrArg List.length hs;simp only[List.length_append,List.length_cons] at this ⊢;omega
 refine⟨⟨hg.1.1,hg.1.2.1,by omega⟩,vz e (hs ▸ hg.2)⟩
end
end Go.Proofs.YtookeaakpiefjaaGreatDoor
end

section
namespace Go.Ab.T30
def sm:Nat→(Nat→Int)→Int
 | 0,_=>0
 | n+1,f=>sm n f+f n
theorem gR:∀{n:Nat} {f g:Nat→Int},(∀i,i<n→f i=g i)→sm n f=sm n g
 | 0,_,_,_=>rfl
 | n+1,f,g,h=>by
  simp only[sm];rw[gR fun i hi=>h i (by omega),h n (by omega)]
theorem uG:∀{n:Nat} {f:Nat→Int},(∀i,i<n→f i=0)→sm n f=0
 | 0,_,_=>rfl
 | n+1,f,h=>by
  simp only[sm];rw[uG fun i hi=>h i (by omega),h n (by omega)]; rfl
theorem uj (a b:Int):∀(n:Nat) (f g:Nat→Int),sm n (fun i=>a*f i+b*g i)=a*sm n f+b*sm n g
 | 0,_,_=>by simp[sm]
 | n+1,f,g=>by
  simp only[sm];rw[uj a b n f g,Int.mul_add,Int.mul_add]; omega
theorem KN {n k:Nat} {f:Nat→Int} (hk:k<n) (h:∀i,i<n→i≠k→f i=0):sm n f=f k:=by
 induction n with
 | zero=>cases hk
 | succ n ih =>
  simp only[sm]
  by_cases e:k=n
  ·subst e;rw[uG fun i hi=>h i (by omega) (by omega),Int.zero_add]
  ·rw[ih (by omega) fun i hi=>h i (by omega),h n (by omega) (fun g=>e g.symm),Int.add_zero]
theorem KA {n k:Nat} {f:Nat→Int} (hk:k+1<n) (h:∀i,i<n→i≠k→i≠k+1→f i=0):sm n f=f k+f (k+1):=by
 induction n with
 | zero=>cases hk
 | succ n ih =>
  simp only[sm]
  by_cases e:k+1=n
  ·rw[KN (k:=k) (by omega) fun i hi hne=>h i (by omega) hne (by omega),e]
  ·rw[ih (by omega) fun i hi=>h i (by omega),h n (by omega) (by omega) (fun g=>e g.symm),Int.add_zero]
def sg (i:Nat):Int:=if i%2=0 then 1 else -1
theorem Gz (i:Nat):sg (i+1) = - sg i:=by
 unfold sg;have:i%2=0∨i%2=1:=by omega
 rcases this with h|h
 ·rw[if_pos h,if_neg (show ¬(i+1)%2=0 by omega)]
 ·rw[if_neg (show ¬i%2=0 by omega),if_pos (show(i+1)%2=0 by omega)]; rfl
def De (i r:Nat):Nat:=if r<i then r else r+1
abbrev Mt:=Nat→Nat→Int
def nR (A:Mt) (i:Nat):Mt:=fun r c=>A (De i r) (c+1)
def cr:Nat→Mt→Int
 | 0,_=>1
 | n+1,A=>sm (n+1) fun i=>sg i*A i 0*cr n (nR A i)
theorem zj {i r n:Nat} (hr:r<n):De i r<n+1:=by unfold De; split<;>omega
theorem JS {i r:Nat}:De i r≠i:=by unfold De; split<;>omega
theorem bB:∀{n:Nat} {A B:Mt},(∀r c,r<n→c<n→A r c=B r c)→cr n A=cr n B
 | 0,_,_,_=>rfl
 | n+1,A,B,h=>by
  simp only[cr];refine gR fun i hi=>?_;have hm:cr n (nR A i)=cr n (nR B i):=bB fun r c hr hc=>h _ _ (zj hr) (by omega)
  rw[h i 0 hi (by omega),hm]
def upd (A:Mt) (k:Nat) (v:Nat→Int):Mt:=fun r c=>if r=k then v c else A r c
def pos (i k:Nat):Nat:=if k<i then k else k-1
theorem Gm {i r k:Nat} (h:i≠k):De i r=k↔r=pos i k:=by unfold De pos; split<;>split<;>omega
theorem tu {A:Mt} {i k:Nat} {v:Nat→Int} (h:i≠k):nR (upd A k v) i=upd (nR A i) (pos i k) fun c=>v (c+1):=by
 funext r c
 simp only[nR,upd,Gm h]
theorem jA {A:Mt} {k:Nat} {v:Nat→Int}:nR (upd A k v) k=nR A k:=by
 funext r c
 simp only[nR,upd,if_neg JS]
theorem Jn {i k n:Nat} (hk:k<n+1) (h:i≠k) (hi:i<n+1):pos i k<n:=by unfold pos; split<;>omega
theorem jf (a b:Int) (u w:Nat→Int):∀{n:Nat} {A:Mt} {k:Nat},k<n→cr n (upd A k fun c=>a*u c+b*w c)=a*cr n (upd A k u)+b*cr n (upd A k w):=by
 intro n
 induction n generalizing u w with
 | zero=>intro A k h; cases h
 | succ n ih =>
  intro A k hk;simp only[cr];rw[←uj];refine gR fun i hi=>?_
  by_cases h:i=k
  ·subst h;rw[jA,jA,jA];simp only[upd,if_true];generalize cr n (nR A i)=D;rw[Int.mul_add,Int.add_mul]
   congr 1
   ·rw[Int.mul_left_comm (sg i) a,Int.mul_assoc a]
   ·rw[Int.mul_left_comm (sg i) b,Int.mul_assoc b]
  ·rw[tu h,tu h,tu h,ih (fun c=>u (c+1)) (fun c=>w (c+1)) (Jn hk h hi)];simp only[upd,if_neg h];generalize sg i*A i 0=s;rw[Int.mul_add,Int.mul_left_comm s a,Int.mul_left_comm s b]
theorem nu (A:Mt) (k:Nat):upd A k (A k)=A:=by
 funext r c
 unfold upd
 split
 ·rename_i h; rw[h]
 ·rfl
theorem Bl:∀{n:Nat} {A:Mt} {k:Nat},k+1<n→(∀c,c<n→A k c=A (k+1) c)→cr n A=0:=by
 intro n
 induction n with
 | zero=>intro A k h; cases h
 | succ n ih =>
  intro A k hk he;simp only[cr];rw[KA (k:=k) hk]
  ·have hm:cr n (nR A k)=cr n (nR A (k+1)):=bB fun r c hr hc=>by
    simp only[nR,De]
    by_cases h1:r<k
    ·rw[if_pos h1,if_pos (by omega)]
    ·by_cases h2:r=k
     ·subst h2;rw[if_neg (by omega),if_pos (by omega)]
      exact(he (c+1) (by omega)).symm
     ·rw[if_neg h1,if_neg (by omega)]
   rw[hm,he 0 (by omega),Gz,Int.neg_mul,Int.neg_mul]
   omega
  ·intro i hi h1 h2;have:cr n (nR A i)=0:=by
    by_cases h:i<k
    ·exact ih (k:=k-1) (by omega) fun c hc=>by
      simp only[nR,De];rw[if_neg (by omega),if_neg (by omega)]
      have:=he (c+1) (by omega)
      rw[show k-1+1=k by omega]
      exact this
    ·exact ih (k:=k) (by omega) fun c hc=>by
      simp only[nR,De];rw[if_pos (by omega),if_pos (by omega)]
      exact he (c+1) (by omega)
   rw[this,Int.mul_zero]
def LZ (A:Mt) (j:Nat):Mt:=fun r c=>if r=j then A (j+1) c else if r=j+1 then A j c else A r c
theorem Hy {n j:Nat} {A:Mt} (hj:j+1<n):cr n (LZ A j) = - cr n A:=by
 let D:=fun(u w:Nat→Int)=>cr n (upd (upd A j u) (j+1) w)
 have hl:∀u u' w,D (fun c=>u c+u' c) w=D u w+D u' w:=fun u u' w=>by
  have e:∀v,upd (upd A j v) (j+1) w=upd (upd A (j+1) w) j v:=fun v=>by
   funext r c
   simp only[upd]
   by_cases h1:r=j+1
   ·rw[if_pos h1,if_neg (by omega),if_pos h1]
   ·rw[if_neg h1,if_neg h1]
  show cr n (upd (upd A j _) (j+1) w)=cr n (upd (upd A j u) (j+1) w)+cr n (upd (upd A j u') (j+1) w)
  rw[e,e,e];have:=jf 1 1 u u' (n:=n) (A:=upd A (j+1) w) (k:=j) (by omega)
  simp only[Int.one_mul] at this;exact this
 have hr:∀u w w',D u (fun c=>w c+w' c)=D u w+D u w':=fun u w w'=>by
  have:=jf 1 1 w w' (n:=n) (A:=upd A j u) (k:=j+1) hj;simp only[Int.one_mul] at this;exact this
 have hz:∀u,D u u=0:=fun u=>Bl hj fun c _=>by
  simp only[upd];rw[if_neg (by omega),if_pos trivial,if_pos trivial]
 have h0:=hz (fun c=>A j c+A (j+1) c);rw[hl,hr,hr,hz,hz] at h0;have e1:D (A j) (A (j+1))=cr n A:=by
  show cr n (upd (upd A j (A j)) (j+1) (A (j+1)))=_
  rw[nu,nu]
 have e2:D (A (j+1)) (A j)=cr n (LZ A j):=by
  show cr n (upd (upd A j (A (j+1))) (j+1) (A j))=_
  refine bB fun r c _ _=>?_;simp only[upd,LZ]
  by_cases h1:r=j+1
  ·rw[if_pos h1,if_neg (by omega),if_pos h1]
  ·rw[if_neg h1,if_neg h1]
 rw[e1,e2] at h0;omega
theorem sV {n:Nat}:∀{d j:Nat} {A:Mt},j+d+1<n→(∀c,c<n→A j c=A (j+d+1) c)→cr n A=0:=by
 intro d
 induction d with
 | zero=>intro j A hk he; exact Bl hk he
 | succ d ih =>
  intro j A hk he;have h1:=Hy (n:=n) (j:=j+d+1) (A:=A) (by omega)
  have h2:=ih (j:=j) (A:=LZ A (j+d+1)) (by omega) fun c hc=>by
   simp only[LZ];rw[if_neg (by omega),if_neg (by omega),if_pos trivial]
   exact he c hc
  omega
theorem qd {n j k:Nat} {A:Mt} (hj:j<n) (hk:k<n) (hne:j≠k) (he:∀c,c<n→A j c=A k c):cr n A=0:=by
 rcases Nat.lt_or_ge j k with h|h
 ·exact sV (d:=k-j-1) (j:=j) (by omega) fun c hc=>by rw[show j+(k-j-1)+1=k by omega]; exact he c hc
 ·exact sV (d:=j-k-1) (j:=k) (by omega) fun c hc=>by rw[show k+(j-k-1)+1=j by omega]; exact(he c hc).symm
theorem tJ {n r k:Nat} {A:Mt} (t:Int) (hr:r<n) (hk:k<n) (hne:r≠k):cr n (upd A r fun c=>A r c+t*A k c)=cr n A:=by
 have h:=jf 1 t (A r) (A k) (n:=n) (A:=A) (k:=r) hr;simp only[Int.one_mul] at h;rw[h,nu,qd (A:=upd A r (A k)) hr hk hne fun c _=>by simp only[upd]; rw[if_pos trivial,if_neg (fun e=>hne e.symm)],Int.mul_zero,Int.add_zero]
theorem sY {n r:Nat} {A:Mt} (t:Int) (v:Nat→Int) (hr:r<n):cr n (upd A r fun c=>t*v c)=t*cr n (upd A r v):=by
 have h:=jf t 0 v v (n:=n) (A:=A) (k:=r) hr;simp only[Int.zero_mul,Int.add_zero] at h;exact h
theorem F1 {n r:Nat} {A:Mt} (hr:r<n) (q:Int) (γ:Nat→Int) (v:Nat→Int):∀k,k≤n→(∀i,i<k→i≠r)→cr n (upd A r fun c=>q*v c+sm k fun i=>γ i*A i c)=q*cr n (upd A r v):=by
 intro k
 induction k with
 | zero =>
  intro _ _;simp only[sm,Int.add_zero];exact sY q v hr
 | succ k ih =>
  intro hk hne;have e:(upd A r fun c=>q*v c+sm (k+1) fun i=>γ i*A i c)=upd A r fun c=>1*(q*v c+sm k fun i=>γ i*A i c)+γ k*A k c:=by
   funext r' c
   simp only[upd,sm]
   split<;>omega
  rw[e,jf 1 (γ k) _ _ hr,Int.one_mul,ih (by omega) fun i hi=>hne i (by omega),qd (A:=upd A r (A k)) hr (show k<n by omega) (fun e=>hne k (by omega) e.symm) fun c _=>by
   simp only[upd]; rw[if_pos trivial,if_neg (hne k (by omega))],Int.mul_zero,Int.add_zero]
theorem Cc {n u:Nat} {A:Mt} (hu:u<n) (t:Nat→Int):cr n (fun i c=>if i=u then A u c else A i c+t i*A u c)=cr n A:=by
 have key:∀m,m≤n→cr n (fun i c=>if i=u∨m≤i then A i c else A i c+t i*A u c)=cr n A:=by
  intro m
  induction m with
  | zero =>
   intro _;refine bB fun r c _ _=>?_;rw[if_pos (.inr (Nat.zero_le _))]
  | succ m ih =>
   intro hm;rw[←ih (by omega)]
   by_cases h:m=u
   ·refine bB fun r c _ _=>?_
    by_cases h1:r=u
    ·rw[if_pos (.inl h1),if_pos (.inl h1)]
    ·by_cases h2:m≤r
     ·rw[if_pos (.inr (by omega)),if_pos (.inr h2)]
     ·rw[if_neg (by omega),if_neg (by omega)]
   ·have:=tJ (n:=n) (r:=m) (k:=u) (A:=fun i c=>if i=u∨m≤i then A i c else A i c+t i*A u c) (t m) (by omega) hu h
    rw[←this];refine bB fun r c _ _=>?_;simp only[upd]
    by_cases h1:r=m
    ·subst h1;rw[if_neg (show ¬(r=u∨r+1≤r) by omega),if_pos rfl,if_pos (.inr (Nat.le_refl _)),if_pos (.inl trivial)]
    ·rw[if_neg h1]
     by_cases h2:r=u∨m+1≤r
     ·rw[if_pos h2,if_pos (by omega)]
     ·rw[if_neg h2,if_neg (by omega)]
 have:=key n (Nat.le_refl _);rw[←this];refine bB fun r c hr _=>?_
 by_cases h:r=u
 ·rw[if_pos h,if_pos (.inl h),h]
 ·rw[if_neg h,if_neg (by omega)]
theorem Dp:∀{n:Nat} {A:Mt} {c:Nat},c<n→(∀r,r<n→A r c=0)→cr n A=0:=by
 intro n
 induction n with
 | zero=>intro A c h; cases h
 | succ n ih =>
  intro A c hc h;simp only[cr];refine uG fun i hi=>?_;cases c with
  | zero=>rw[h i hi,Int.mul_zero,Int.zero_mul]
  | succ c=>rw[ih (c:=c) (by omega) fun r hr=>h _ (zj hr),Int.mul_zero]
theorem FO {n r:Nat} {A:Mt} (hr:r<n) (h:∀c,c<n→A r c=0):cr n A=0:=by
 have:=sY (n:=n) (r:=r) (A:=A) 0 (A r) hr;rw[Int.zero_mul] at this;rw[←this];refine bB fun i c _ hc=>?_;simp only[upd,Int.zero_mul]
 split
 ·rename_i e; rw[e,h c hc]
 ·rfl
theorem wu:∀{n:Nat} {A:Mt},(∀c,c<n→A n c=0)→cr (n+1) A=cr n A*A n n:=by
 intro n
 induction n with
 | zero=>intro A _; simp[cr,sm,sg]
 | succ n ih =>
  intro A h;have e:cr (n+2) A=sm (n+2) fun i=>sg i*A i 0*cr (n+1) (nR A i):=rfl;have e2:cr (n+1) A=sm (n+1) fun i=>sg i*A i 0*cr n (nR A i):=rfl;rw[e,e2];simp only[sm];rw[h 0 (by omega),Int.mul_zero,Int.zero_mul,Int.add_zero]
  have hs:sm (n+1) (fun i=>sg i*A i 0*cr (n+1) (nR A i))=A (n+1) (n+1)*sm (n+1) (fun i=>sg i*A i 0*cr n (nR A i)):=by
   have:=uj (A (n+1) (n+1)) 0 (n+1) (fun i=>sg i*A i 0*cr n (nR A i)) (fun _=>0);simp only[Int.mul_zero,Int.zero_mul,Int.add_zero] at this;rw[←this];refine gR fun i hi=>?_;have hm:∀c,nR A i n c=A (n+1) (c+1):=fun c=>by
    simp only[nR,De];rw[if_neg (by omega)]
   rw[ih (A:=nR A i) fun c hc=>by rw[hm]; exact h (c+1) (by omega),hm]
   generalize sg i*A i 0=s;generalize cr n (nR A i)=d;generalize A (n+1) (n+1)=z;rw[Int.mul_comm z,Int.mul_assoc]
  simp only[sm] at hs;rw[hs,Int.mul_comm]
theorem vD:∀{n:Nat} {A:Mt},(∀r c,r<n→c<n→A r c=if r=c then 1 else 0)→cr n A=1
 | 0,_,_=>rfl
 | n+1,A,h=>by
  rw[wu fun c hc=>by rw[h n c (by omega) (by omega),if_neg (by omega)],vD fun r c hr hc=>h r c (by omega) (by omega),h n n (by omega) (by omega),if_pos rfl]; rfl
def dl (ρ:Nat→Nat) (e:Nat × Nat) (i:Nat):Int:=(if i=ρ e.1 then 1 else 0)-(if i=ρ e.2 then 1 else 0)
def iH (ρ:Nat→Nat):List (Nat × Nat)→Mt
 | [],_,_=>0
 | e::E,i,j=>dl ρ e i*dl ρ e j+iH ρ E i j
def sU (ρ:Nat→Nat):Mt:=fun i j=>if ρ i=i then 0 else if i=j then 1 else 0
def jK (ρ:Nat→Nat) (E:List (Nat × Nat)):Mt:=fun i j=>sU ρ i j+iH ρ E i j
def mg (ρ:Nat→Nat) (u v:Nat):Nat→Nat:=fun i=>if ρ i=u then v else ρ i
def pE (s:Nat):(Nat→Nat)→List (Nat × Nat)→Nat
 | ρ,[]=>if (List.range s).all (fun i=>ρ i != i) then 1 else 0
 | ρ,(a,b)::E=>pE s ρ E+if ρ a=ρ b then 0 else pE s (if ρ a=s then mg ρ (ρ b) (ρ a) else mg ρ (ρ a) (ρ b)) E
def wv (u v:Nat):Nat→Int:=fun c=>(if c=u then 1 else 0)-(if c=v then 1 else 0)
section
variable {s : Nat} {ρ : Nat → Nat} {E : List (Nat × Nat)} {u v : Nat}
theorem BH (hi:∀i,ρ (ρ i)=ρ i) (hv:ρ v=v) (huv:u≠v) (i:Nat):mg ρ u v (mg ρ u v i)=mg ρ u v i:=by
 unfold mg
 by_cases h:ρ i=u
 ·rw[if_pos h,hv,if_neg (fun e=>huv e.symm)]
 ·rw[if_neg h,hi,if_neg h]
theorem wC (hr:∃i,i<s∧ρ i=i):cr s (jK ρ [])=0:=by
 obtain⟨i,h1,h2⟩:=hr;refine FO h1 fun c _=>?_;simp only[jK,iH,sU];rw[if_pos h2]; rfl
theorem wB (hr:∀i,i<s→ρ i≠i):cr s (jK ρ [])=1:=by
 refine vD fun r c h1 _=>?_;simp only[jK,iH,sU];rw[if_neg (hr r h1),Int.add_zero]
theorem Mg (i:Nat) (hiu:i≠u) (hiv:ρ v=v) (huv:u≠v) (a:Nat):(if i=mg ρ u v a then(1:Int) else 0)=(if i=ρ a then 1 else 0)+(if i=v then(if u=ρ a then 1 else 0) else 0):=by
 unfold mg
 by_cases h:ρ a=u
 ·rw[if_pos h,h,if_neg hiu,if_pos rfl,Int.zero_add]
 ·rw[if_neg h];have:¬u=ρ a:=fun e=>h e.symm;rw[if_neg this]
  split<;>split<;>rfl
theorem Ll (huv:u≠v) (a:Nat):(if u=mg ρ u v a then(1:Int) else 0)=0:=by
 unfold mg
 by_cases h:ρ a=u
 ·rw[if_pos h,if_neg huv]
 ·rw[if_neg h,if_neg (fun e=>h e.symm)]
theorem IQ (hiv:ρ v=v) (huv:u≠v) {i:Nat} (hiu:i≠u) (e:Nat × Nat):dl (mg ρ u v) e i=dl ρ e i+(if i=v then dl ρ e u else 0):=by
 unfold dl;rw[Mg i hiu hiv huv,Mg i hiu hiv huv]
 split<;>omega
theorem AB (huv:u≠v) (e:Nat × Nat):dl (mg ρ u v) e u=0:=by
 unfold dl;rw[Ll huv,Ll huv]; rfl
theorem Ft (huv:u≠v) (i:Nat):∀E,iH (mg ρ u v) E i u=0
 | []=>rfl
 | e::E=>by
  simp only[iH];rw[AB huv,Int.mul_zero,Ft huv i E]; rfl
theorem Ef (huv:u≠v) (i:Nat):∀E,iH (mg ρ u v) E u i=0
 | []=>rfl
 | e::E=>by
  simp only[iH];rw[AB huv,Int.zero_mul,Ef huv i E]; rfl
theorem FP (hiv:ρ v=v) (huv:u≠v) {i c:Nat} (hiu:i≠u) (hcu:c≠u):∀E,iH (mg ρ u v) E i c=iH ρ E i c+(if i=v then iH ρ E u c else 0)+(if c=v then iH ρ E i u+(if i=v then iH ρ E u u else 0) else 0)
 | []=>by simp only[iH]; split<;>split<;>rfl
 | e::E=>by
  simp only[iH];rw[FP hiv huv hiu hcu E,IQ hiv huv hiu,IQ hiv huv hcu];generalize dl ρ e i=p;generalize dl ρ e c=q;generalize dl ρ e u=r
  by_cases h1:i=v<;>by_cases h2:c=v
  ·simp only[if_pos h1,if_pos h2];rw[Int.mul_add,Int.add_mul,Int.add_mul]; omega
  ·simp only[if_pos h1,if_neg h2,Int.add_zero];rw[Int.add_mul]; omega
  ·simp only[if_neg h1,if_pos h2,Int.add_zero];rw[Int.mul_add]; omega
  ·simp only[if_neg h1,if_neg h2,Int.add_zero]
theorem yu (hi:∀i,ρ (ρ i)=ρ i) (hiv:ρ v=v) (huv:u≠v) {i c:Nat} (hiu:i≠u):sU (mg ρ u v) i c=sU ρ i c:=by
 unfold sU mg
 by_cases h:ρ i=i
 ·rw[if_pos h,h,if_neg hiu,if_pos rfl]
 ·rw[if_neg h]
  by_cases h2:ρ i=u
  ·rw[if_pos h2];have:¬v=i:=fun e=>h (by rw[←e]; exact hiv)
   rw[if_neg this]
  ·rw[if_neg h2,if_neg h]
theorem EY (hi:∀i,ρ (ρ i)=ρ i) (hus:u<s) (hu:ρ u=u) (hv:ρ v=v) (huv:u≠v) (hvs:v≤s) :
  cr s (fun i j=>jK ρ E i j+wv u v i*wv u v j)=cr s (jK ρ E)+cr s (jK (mg ρ u v) E):=by
 have hwu:wv u v u=1:=by simp only[wv]; rw[if_pos trivial,if_neg huv]; rfl
 have hwi:∀i,i≠u→i≠v→wv u v i=0:=fun i h1 h2=>by simp only[wv]; rw[if_neg h1,if_neg h2]; rfl
 have hwv:wv u v v = -1:=by simp only[wv]; rw[if_neg (fun e=>huv e.symm),if_pos trivial]; rfl
 let R:Mt:=fun i c=>if i=v then jK ρ E v c+1*jK ρ E u c else jK ρ E i c
 have hRu:∀c,R u c=jK ρ E u c:=fun c=>if_neg huv;have hR:cr s R=cr s (jK ρ E):=by
  by_cases h:v<s
  ·have:=tJ (n:=s) (A:=jK ρ E) (r:=v) (k:=u) 1 h hus (fun e=>huv e.symm);rw[←this];refine bB fun r c _ _=>?_
   show(if r=v then _ else _)=upd (jK ρ E) v _ r c
   rfl
  ·refine bB fun r c hr _=>?_;exact if_neg (by omega)
 have hB:cr s (fun i j=>jK ρ E i j+wv u v i*wv u v j)=cr s (upd R u fun c=>1*jK ρ E u c+1*wv u v c):=by
  by_cases h:v<s
  ·have:=tJ (n:=s) (A:=fun i j=>jK ρ E i j+wv u v i*wv u v j) (r:=v) (k:=u) 1 h hus (fun e=>huv e.symm);rw[←this];refine bB fun r c _ _=>?_;simp only[upd,R]
   by_cases h1:r=v
   ·rw[if_pos h1,if_neg (by omega),if_pos h1,hwu,hwv]; omega
   ·rw[if_neg h1]
    by_cases h2:r=u
    ·subst h2; rw[if_pos rfl,hwu]; omega
    ·rw[if_neg h2,if_neg h1,hwi r h2 h1,Int.zero_mul,Int.add_zero]
  ·refine bB fun r c hr _=>?_;simp only[upd,R]
   by_cases h2:r=u
   ·subst h2; rw[if_pos rfl,hwu]; omega
   ·rw[if_neg h2,if_neg (by omega),hwi r h2 (by omega),Int.zero_mul,Int.add_zero]
 have hL:cr s (upd R u (jK ρ E u))=cr s (jK ρ E):=by
  rw[←hR];refine bB fun r c _ _=>?_;simp only[upd]
  split
  ·rename_i h; rw[h]; exact(hRu c).symm
  ·rfl
 rw[hB,jf 1 1 _ _ hus,Int.one_mul,Int.one_mul,hL]
 congr 1
 have h1:=Cc (n:=s) (u:=u) (A:=upd R u (wv u v)) hus fun i=>- R i u;rw[←h1];have hC:cr s (fun i c=>if i=u then upd R u (wv u v) u c else upd R u (wv u v) i c + - R i u*upd R u (wv u v) u c)=cr s (upd (jK (mg ρ u v) E) u fun c=>1*(if c=u then 1 else 0)+(-1)*(if c=v then 1 else 0)):=by
  refine bB fun r c hr hc=>?_;simp only[upd]
  by_cases h2:r=u
  ·rw[if_pos h2,if_pos trivial,if_pos h2];simp only[wv]; omega
  ·rw[if_neg h2,if_neg h2,if_pos trivial,if_neg h2]
   by_cases h3:c=u
   ·subst h3;rw[hwu];have:jK (mg ρ c v) E r c=0:=by
     simp only[jK];rw[Ft huv,yu hi hv huv h2];unfold sU;rw[if_neg h2]; split<;>rfl
    rw[this]; omega
   ·have e1:wv u v c = - (if c=v then 1 else 0):=by simp only[wv]; rw[if_neg h3]; omega
    rw[e1];simp only[jK];rw[FP hv huv h2 h3,yu hi hv huv h2];have d1:sU ρ u c=0:=by unfold sU; rw[if_pos hu]
    have d2:sU ρ r u=0:=by unfold sU; rw[if_neg h2]; split<;>rfl
    have d3:sU ρ u u=0:=by unfold sU; rw[if_pos hu]
    have d4:sU ρ v u=0:=by unfold sU; rw[if_pos hv]
    simp only[R,jK]
    by_cases h4:r=v<;>by_cases h5:c=v
    ·simp only[if_pos h4,if_pos h5];rw[d1,d3,d4,h4]; omega
    ·simp only[if_pos h4,if_neg h5];rw[d1,d3,d4,h4]; omega
    ·simp only[if_neg h4,if_pos h5];rw[d2]; omega
    ·simp only[if_neg h4,if_neg h5];omega
 rw[hC,jf 1 (-1) _ _ hus,Dp (c:=u) (A:=upd (jK (mg ρ u v) E) u fun c=>if c=v then 1 else 0) hus fun r hr=>?_,Int.one_mul,Int.mul_zero,Int.add_zero]
 ·refine bB fun r c hr _=>?_;simp only[upd]
  split
  ·rename_i h;subst h;have:mg ρ r v r=v:=by unfold mg; rw[if_pos hu]
   have hd:sU (mg ρ r v) r c=if r=c then 1 else 0:=by unfold sU; rw[this,if_neg (fun e=>huv e.symm)]
   simp only[jK];rw[Ef huv,hd,Int.add_zero]
   by_cases h2:c=r
   ·rw[if_pos h2,if_pos h2.symm]
   ·rw[if_neg h2,if_neg (fun e=>h2 e.symm)]
  ·rfl
 ·simp only[upd]
  by_cases h2:r=u
  ·rw[if_pos h2,if_neg huv]
  ·rw[if_neg h2];simp only[jK];rw[Ft huv,yu hi hv huv h2];unfold sU;rw[if_neg h2]; split<;>rfl
theorem pC:∀(E:List (Nat × Nat)) (ρ:Nat→Nat),(∀i,ρ (ρ i)=ρ i)→ρ s=s→(∀e ∈ E,ρ e.1≤s∧ρ e.2≤s)→cr s (jK ρ E)=(pE s ρ E:Int)
 | [],ρ,_,_,_=>by
  unfold pE
  by_cases h:∃i,i<s∧ρ i=i
  ·rw[wC h,if_neg]
   ·rfl
   ·rw[List.all_eq_true];intro g;obtain⟨i,h1,h2⟩:=h;have:=g i (List.mem_range.2 h1);simp[h2] at this
  ·rw[wB fun i h1 h2=>h ⟨i,h1,h2⟩,if_pos]
   ·rfl
   ·rw[List.all_eq_true];intro i hi;simp only[bne_iff_ne,ne_eq];exact fun e=>h ⟨i,List.mem_range.1 hi,e⟩
 | (a,b)::E,ρ,hi,hs,hE=>by
  have hab:=hE (a,b) (by simp)
  have hE':∀e ∈ E,ρ e.1≤s∧ρ e.2≤s:=fun e he=>hE e (by simp[he])
  have ih:=pC E ρ hi hs hE';unfold pE
  by_cases h:ρ a=ρ b
  ·rw[if_pos h,Nat.add_zero,←ih];refine bB fun i j _ _=>?_;simp only[jK,iH,dl];rw[h,Int.sub_self,Int.zero_mul,Int.zero_add]
  ·rw[if_neg h];have go:∀u v,u≤s→v≤s→u≠s→u≠v→ρ u=u→ρ v=v→(∀i j,dl ρ (a,b) i*dl ρ (a,b) j=wv u v i*wv u v j)→cr s (jK ρ ((a,b)::E))=((pE s ρ E+pE s (mg ρ u v) E:Nat):Int):=fun u v h1 h2 h3 h4 h5 h6 h7=>by
    have e1:cr s (jK ρ ((a,b)::E))=cr s (fun i j=>jK ρ E i j+wv u v i*wv u v j):=bB fun i j _ _=>by
     simp only[jK,iH];rw[h7]; omega
    have hus:u<s:=by omega
    have ih2:=pC E (mg ρ u v) (BH hi h6 h4) (by unfold mg; rw[hs,if_neg (fun e=>h3 e.symm)]) fun e he=>by
     have:=hE' e he;unfold mg;refine⟨?_,?_⟩
     ·split
      ·exact h2
      ·exact this.1
     ·split
      ·exact h2
      ·exact this.2
    rw[e1,EY hi hus h5 h6 h4 h2,ih,ih2];omega
   by_cases h8:ρ a=s
   ·rw[if_pos h8];refine go (ρ b) (ρ a) hab.2 hab.1 (fun e=>h (by rw[h8,e])) (fun e=>h e.symm) (hi b) (hi a) fun i j=>?_
    simp only[dl,wv];generalize (if i=ρ a then(1:Int) else 0)=p
    generalize (if i=ρ b then(1:Int) else 0)=q
    generalize (if j=ρ a then(1:Int) else 0)=p'
    generalize (if j=ρ b then(1:Int) else 0)=q'
    rw[show p-q = -(q-p) by omega,show p'-q' = -(q'-p') by omega,Int.neg_mul_neg]
   ·rw[if_neg h8];exact go (ρ a) (ρ b) hab.1 hab.2 h8 h (hi a) (hi b) fun i j=>rfl
end
def jJ (A:Mt) (k r c:Nat):Mt:=fun i j=>A (if i<k then i else r) (if j<k then j else c)
theorem FW (A:Mt) (k:Nat):cr (k+1) (jJ A k k k)=cr (k+1) A:=bB fun i j hi hj=>by
 simp only[jJ];have h1:(if i<k then i else k)=i:=by split<;>omega
 have h2:(if j<k then j else k)=j:=by split<;>omega
 rw[h1,h2]
def Nh (A:Mt) (s k r:Nat) (m:Int) (Y:Nat→Int):Prop:=∃(Q:Int) (γ:Nat→Int),Q≠0∧∀c,c<s→Q*(if c<k then 0 else Y c)=(Q*m)*A r c+sm k fun i=>γ i*A i c
theorem Nh.minor {A:Mt} {s k r c:Nat} {m:Int} {Y:Nat→Int} (h:Nh A s k r m Y) (hk:k≤c) (hc:c<s):m*cr (k+1) (jJ A k r c)=cr k A*Y c:=by
 obtain⟨Q,γ,hQ,h⟩:=h;have h1:=F1 (n:=k+1) (r:=k) (A:=jJ A k r c) (by omega) (Q*m) γ (jJ A k r c k) k (by omega) (fun i hi=>by omega)
 rw[nu] at h1;have hrow:∀j,j<k+1→(Q*m)*jJ A k r c k j+sm k (fun i=>γ i*jJ A k r c i j)=Q*(if j<k then 0 else Y c):=fun j hj=>by
  have e:sm k (fun i=>γ i*jJ A k r c i j)=sm k fun i=>γ i*A i (if j<k then j else c):=gR fun i hi=>by
   simp only[jJ]; rw[if_pos hi]
  rw[e];have:=h (if j<k then j else c) (by split<;>omega)
  simp only[jJ];rw[if_neg (show ¬k<k by omega),←this]
  by_cases hj2:j<k
  ·simp only[if_pos hj2]
  ·simp only[if_neg hj2];rw[if_neg (by omega)]
 rw[wu (n:=k) (fun j hj=>by
  simp only[upd];rw[if_pos trivial,hrow j (by omega),if_pos hj,Int.mul_zero])] at h1
 have h2:cr k (upd (jJ A k r c) k fun j=>(Q*m)*jJ A k r c k j+sm k fun i=>γ i*jJ A k r c i j)=cr k A:=bB fun i j hi hj=>by
  simp only[upd,jJ];rw[if_neg (by omega),if_pos hi,if_pos hj]
 have h3:(upd (jJ A k r c) k fun j=>(Q*m)*jJ A k r c k j+sm k fun i=>γ i*jJ A k r c i j) k k=Q*Y c:=by
  simp only[upd];rw[if_pos trivial,hrow k (by omega),if_neg (by omega)]
 rw[h2,h3,Int.mul_assoc] at h1;have:Q*(cr k A*Y c)=Q*(m*cr (k+1) (jJ A k r c)):=by rw[←h1,Int.mul_left_comm]
 exact(Int.eq_of_mul_eq_mul_left hQ this).symm
def BQ (M:Mt) (k:Nat) (p:Int):Mt:=fun r c=>if k<r∧k≤c then(M r c*M k k-M r k*M k c)/p else M r c
structure Bar (A:Mt) (s k:Nat) (M:Mt) (p:Int):Prop where
 p0:p≠0
 pe:p=cr k A
 row:∀r,k≤r→r<s→Nh A s k r p (M r)
theorem Bar.start (A:Mt) (s:Nat):Bar A s 0 A 1:=⟨by decide,rfl,fun r _ _=>⟨1,fun _=>0,by decide,fun c _=>by simp[sm]⟩⟩
theorem Bar.minor {A:Mt} {s k:Nat} {M:Mt} {p:Int} (h:Bar A s k M p) {r c:Nat} (hr:k≤r) (hrs:r<s) (hc:k≤c) (hcs:c<s):M r c=cr (k+1) (jJ A k r c):=by
 have h1:=(h.row r hr hrs).minor hc hcs;rw[←h.pe] at h1;exact(Int.eq_of_mul_eq_mul_left h.p0 h1).symm
theorem Bar.Ga {A:Mt} {s k:Nat} {M:Mt} {p:Int} (h:Bar A s k M p) (hk:k<s):M k k=cr (k+1) A:=by
 rw[h.minor (Nat.le_refl k) hk (Nat.le_refl k) hk,FW]
theorem Bar.EI {A:Mt} {s k:Nat} {M:Mt} {p:Int} (h:Bar A s k M p) (hk:k<s) {r:Nat} (hr:k<r) (hrs:r<s):Nh A s (k+1) r (p*M k k) fun c=>M r c*M k k-M r k*M k c:=by
 obtain⟨Q1,γ1,hQ1,h1⟩:=h.row r (by omega) hrs
 obtain⟨Q2,γ2,hQ2,h2⟩:=h.row k (Nat.le_refl k) hk;refine⟨Q1*Q2,fun i=>if i<k then(M k k*Q2)*γ1 i+(-(M r k*Q1))*γ2 i else -(M r k*Q1*Q2*p),fun e=>by rcases Int.mul_eq_zero.1 e with e|e; exact hQ1 e; exact hQ2 e,fun c hc=>?_⟩
 have g1:=h1 c hc;have g2:=h2 c hc;have e1:sm (k+1) (fun i=>(if i<k then(M k k*Q2)*γ1 i+(-(M r k*Q1))*γ2 i else -(M r k*Q1*Q2*p))*A i c)=(M k k*Q2)*sm k (fun i=>γ1 i*A i c)+(-(M r k*Q1))*sm k (fun i=>γ2 i*A i c) + -(M r k*Q1*Q2*p)*A k c:=by
  simp only[sm];rw[if_neg (by omega),←uj]
  congr 1
  refine gR fun i hi=>?_;rw[if_pos hi,Int.add_mul,Int.mul_assoc,Int.mul_assoc (-(M r k*Q1))]
 rw[e1];have e2:(if c<k+1 then(0:Int) else M r c*M k k-M r k*M k c)=M k k*(if c<k then 0 else M r c)-M r k*(if c<k then 0 else M k c):=by
  by_cases h3:c<k
  ·rw[if_pos (by omega),if_pos h3,if_pos h3]; simp
  ·rw[if_neg h3,if_neg h3]
   by_cases h4:c=k
   ·subst h4;rw[if_pos (by omega),Int.mul_comm]; omega
   ·rw[if_neg (by omega),Int.mul_comm (M r c)]
 rw[e2];generalize (if c<k then(0:Int) else M r c)=x at g1
 generalize (if c<k then(0:Int) else M k c)=y at g2
 generalize sm k (fun i=>γ1 i*A i c)=S1 at g1;generalize sm k (fun i=>γ2 i*A i c)=S2 at g2;have k1:S1=Q1*x-Q1*p*A r c:=by omega
 have k2:S2=Q2*y-Q2*p*A k c:=by omega
 rw[k1,k2];generalize A r c=a;generalize A k c=b;generalize M k k=q;generalize M r k=t;clear g1 g2 k1 k2 e1 e2 h1 h2
 grind
theorem Bar.exact {A:Mt} {s k:Nat} {M:Mt} {p:Int} (h:Bar A s k M p) (hk:k<s) (hp:M k k≠0) {r c:Nat} (hr:k<r) (hrs:r<s) (hc:k≤c) (hcs:c<s):M r c*M k k-M r k*M k c=p*BQ M k p r c:=by
 simp only[BQ];rw[if_pos ⟨hr,hc⟩];have hd:p∣M r c*M k k-M r k*M k c:=by
  by_cases e:c=k
  ·subst e;rw[Int.mul_comm];exact⟨0,by omega⟩
  ·have h1:=(h.EI hk hr hrs).minor (c:=c) (by omega) hcs
   rw[←h.Ga hk] at h1;refine⟨cr (k+1+1) (jJ A (k+1) r c),?_⟩;have:M k k*(M r c*M k k-M r k*M k c)=M k k*(p*cr (k+1+1) (jJ A (k+1) r c)):=by
    rw[←h1];generalize cr (k+1+1) (jJ A (k+1) r c)=d;rw[Int.mul_comm p,Int.mul_assoc]
   exact Int.eq_of_mul_eq_mul_left hp this
 exact(Int.mul_ediv_cancel' hd).symm
theorem Bar.step {A:Mt} {s k:Nat} {M:Mt} {p:Int} (h:Bar A s k M p) (hk:k<s) (hp:M k k≠0):Bar A s (k+1) (BQ M k p) (M k k):=by
 refine⟨hp,h.Ga hk,fun r hr hrs=>?_⟩;obtain⟨Q,γ,hQ,h1⟩:=h.EI hk (show k<r by omega) hrs
 refine⟨Q*p,γ,fun e=>by rcases Int.mul_eq_zero.1 e with e|e; exact hQ e; exact h.p0 e,fun c hc=>?_⟩
 have h2:=h1 c hc;rw[Int.mul_assoc Q p (M k k),←h2,Int.mul_assoc Q p]
 by_cases h3:c<k+1
 ·rw[if_pos h3,if_pos h3,Int.mul_zero,Int.mul_zero]
 ·rw[if_neg h3,if_neg h3,←h.exact hk hp (show k<r by omega) hrs (by omega) hc]
def Ja:Nat→Nat→Mt→Int→Int
 | 0,_,_,p=>p
 | j+1,k,M,p=>if M k k=0 then 0 else Ja j (k+1) (BQ M k p) (M k k)
theorem Ax {A:Mt} {s:Nat} (hA:∀k,k<s→cr (k+1) A=0→cr s A=0):∀(j k:Nat) (M:Mt) (p:Int),j+k=s→Bar A s k M p→Ja j k M p=cr s A
 | 0,k,M,p,hj,h=>by
  have:k=s:=by omega
  subst this;exact h.pe
 | j+1,k,M,p,hj,h=>by
  simp only[Ja];have hk:k<s:=by omega
  by_cases h0:M k k=0
  ·rw[if_pos h0];have:=h.Ga hk;rw[h0] at this;exact(hA k hk this.symm).symm
  ·rw[if_neg h0];exact Ax hA j (k+1) _ _ (by omega) (h.step hk h0)
def DQ (s:Nat) (ρ:Nat→Nat) (E:List (Nat × Nat)):Prop :=
 ∀f:Nat→Bool,(∀i,f i=f (ρ i))→(∀e ∈ E,f e.1=f e.2)→∀i,i≤s→f i=f s
structure Rho (s:Nat) (ρ:Nat→Nat):Prop where
 idem:∀i,ρ (ρ i)=ρ i
 top:ρ s=s
 le:∀i,i≤s→ρ i≤s
theorem Rho.id (s:Nat):Rho s fun i=>i:=⟨fun _=>rfl,rfl,fun _ h=>h⟩
theorem Rho.step {s:Nat} {ρ:Nat→Nat} (h:Rho s ρ) {a b:Nat} (ha:a≤s) (hb:b≤s) (hab:ρ a≠ρ b):Rho s (if ρ a=s then mg ρ (ρ b) (ρ a) else mg ρ (ρ a) (ρ b)):=by
 have key:∀u v,ρ u=u→ρ v=v→u≠v→u≠s→v≤s→Rho s (mg ρ u v):=fun u v hu hv huv hus hvs=>by
  refine⟨BH h.idem hv huv,?_,fun i hi=>?_⟩
  ·unfold T30.mg; rw[h.top,if_neg (fun e=>hus e.symm)]
  ·unfold T30.mg
   split
   ·exact hvs
   ·exact h.le i hi
 by_cases hs:ρ a=s
 ·rw[if_pos hs];exact key _ _ (h.idem b) (h.idem a) (fun e=>hab e.symm) (fun e=>hab (by rw[hs,e])) (h.le a ha)
 ·rw[if_neg hs];exact key _ _ (h.idem a) (h.idem b) hab hs (h.le b hb)
theorem wZ {ρ:Nat→Nat} {u v:Nat} (hu:ρ u=u) (hv:ρ v=v) (f:Nat→Bool):(∀i,f i=f (mg ρ u v i))↔(∀i,f i=f (ρ i))∧f u=f v:=by
 constructor
 ·intro h;have huv:f u=f v:=by have:=h u; unfold mg at this; rwa[if_pos hu] at this
  refine⟨fun i=>?_,huv⟩;have:=h i;unfold mg at this
  by_cases hi:ρ i=u
  ·rw[if_pos hi] at this; rw[this,hi,huv]
  ·rwa[if_neg hi] at this
 ·rintro⟨h,huv⟩ i;unfold mg
  by_cases hi:ρ i=u
  ·rw[if_pos hi,h i,hi,huv]
  ·rw[if_neg hi]; exact h i
theorem pf (s:Nat):∀(E:List (Nat × Nat)) (ρ:Nat→Nat),Rho s ρ→(∀e ∈ E,e.1≤s∧e.2≤s)→(0<pE s ρ E↔DQ s ρ E)
 | [],ρ,h,_=>by
  simp only[pE];constructor
  ·intro h0;have hall:∀i,i<s→ρ i≠i:=fun i hi=>by
    by_cases hc:(List.range s).all (fun i=>ρ i != i)=true
    ·simpa using List.all_eq_true.1 hc i (List.mem_range.2 hi)
    ·rw[if_neg hc] at h0; omega
   intro f hf _ i hi;have h1:=h.le i hi;have h2:ρ i=s:=by
    by_cases h3:ρ i<s
    ·exact absurd (h.idem i) (hall _ h3)
    ·omega
   rw[hf i,h2]
  ·intro hu;have:(List.range s).all (fun i=>ρ i != i)=true:=by
    refine List.all_eq_true.2 fun i hi=>?_;have hi:=List.mem_range.1 hi
    by_cases hr:ρ i=i
    ·have h1:=hu (fun j=>ρ j == i) (fun j=>by simp[h.idem]) (fun e he=>nomatch he) i (Nat.le_of_lt hi)
     simp only[hr,h.top,beq_self_eq_true] at h1;have:s=i:=by simpa using h1.symm
     omega
    ·simpa using hr
   rw[if_pos this]; exact Nat.one_pos
 | (a,b)::E,ρ,h,hE=>by
  have ha:a≤s:=(hE (a,b) List.mem_cons_self).1;have hb:b≤s:=(hE (a,b) List.mem_cons_self).2;have hE':∀e ∈ E,e.1≤s∧e.2≤s:=fun e he=>hE e (List.mem_cons_of_mem _ he);have ih:=pf s E ρ h hE';simp only[pE]
  by_cases hab:ρ a=ρ b
  ·rw[if_pos hab,Nat.add_zero,ih];refine⟨fun hu f hf he i hi=>hu f hf (fun e h1=>he e (List.mem_cons_of_mem _ h1)) i hi,fun hu f hf he i hi=>hu f hf (fun e h1=>?_) i hi⟩;rcases List.mem_cons.1 h1 with rfl|h1
   ·show f a=f b
    rw[hf a,hf b,hab]
   ·exact he e h1
  ·rw[if_neg hab];have hR:=h.step ha hb hab;have ih2:=pf s E _ hR hE';have conn:∀f:Nat→Bool,(∀i,f i=f ((if ρ a=s then mg ρ (ρ b) (ρ a) else mg ρ (ρ a) (ρ b)) i))↔(∀i,f i=f (ρ i))∧f a=f b:=fun f=>by
    by_cases hs:ρ a=s
    ·simp only[if_pos hs];rw[wZ (h.idem b) (h.idem a)];refine⟨fun g=>⟨g.1,by rw[g.1 a,g.1 b,g.2]⟩,fun g=>⟨g.1,by rw[←g.1 a,←g.1 b,g.2]⟩⟩
    ·simp only[if_neg hs];rw[wZ (h.idem a) (h.idem b)];refine⟨fun g=>⟨g.1,by rw[g.1 a,g.1 b,g.2]⟩,fun g=>⟨g.1,by rw[←g.1 a,←g.1 b,g.2]⟩⟩
   have e2:DQ s (if ρ a=s then mg ρ (ρ b) (ρ a) else mg ρ (ρ a) (ρ b)) E↔DQ s ρ ((a,b)::E):=by
    refine⟨fun hu f hf he i hi=>hu f ((conn f).2 ⟨hf,he (a,b) List.mem_cons_self⟩) (fun e h1=>he e (List.mem_cons_of_mem _ h1)) i hi,fun hu f hf he i hi=>?_⟩;obtain⟨g1,g2⟩:=(conn f).1 hf;refine hu f g1 (fun e h1=>?_) i hi;rcases List.mem_cons.1 h1 with rfl|h1
    ·exact g2
    ·exact he e h1
   rw[←e2,←ih2];constructor
   ·intro h0
    by_cases h1:0<pE s ρ E
    ·refine ih2.2 (e2.2 fun f hf he i hi=>ih.1 h1 f hf (fun e h2=>he e (List.mem_cons_of_mem _ h2)) i hi)
    ·omega
   ·intro h0; omega
def vv (k i:Nat):Nat:=if i<k then i else k
def iL (φ:Nat→Nat) (E:List (Nat × Nat)):List (Nat × Nat):=E.map fun e=>(φ e.1,φ e.2)
theorem ug (φ:Nat→Nat) (i j:Nat):∀E,iH φ E i j=jK (fun i=>i) (iL φ E) i j
 | []=>by simp[iH,jK,sU,iL]
 | e::E=>by
  have:=ug φ i j E;simp only[jK,sU,iL,List.map_cons,iH,dl,if_true] at this ⊢;omega
theorem Bs (φ:Nat→Nat) {k i j:Nat} (hi:i<k) (hj:j<k):∀E,iH φ E i j=iH (fun v=>vv k (φ v)) E i j
 | []=>rfl
 | e::E=>by
  have key:∀i,i<k→dl φ e i=dl (fun v=>vv k (φ v)) e i:=fun i hi=>by
   have h1:∀v,(i=vv k (φ v))=(i=φ v):=fun v=>propext (by unfold vv; split<;>omega)
   unfold dl;simp only[h1]
  simp only[iH];rw[Bs φ hi hj E,key i hi,key j hj]
theorem nT (k i:Nat):vv k i≤k:=by unfold vv; split<;>omega
theorem qv (φ:Nat→Nat) (E:List (Nat × Nat)) (k:Nat):cr k (iH φ E)=(pE k (fun i=>i) (iL (fun v=>vv k (φ v)) E):Int):=by
 rw[←pC (iL (fun v=>vv k (φ v)) E) (fun i=>i) (fun _=>rfl) rfl fun e he=>?_]
 ·refine bB fun r c hr hc=>?_;rw[Bs φ hr hc,ug]
 ·unfold iL at he;obtain⟨e',_,rfl⟩:=List.mem_map.1 he;exact⟨nT _ _,nT _ _⟩
theorem Av (φ:Nat→Nat) (E:List (Nat × Nat)) (s:Nat) (h:∀e ∈ E,φ e.1≤s∧φ e.2≤s):cr s (iH φ E)=(pE s (fun i=>i) (iL φ E):Int):=by
 rw[←pC (iL φ E) (fun i=>i) (fun _=>rfl) rfl fun e he=>?_]
 ·exact bB fun r c _ _=>ug _ _ _ _
 ·unfold iL at he;obtain⟨e',h1,rfl⟩:=List.mem_map.1 he;exact h e' h1
theorem vQ (φ:Nat→Nat) (E:List (Nat × Nat)) (s:Nat) (h:∀e ∈ E,φ e.1≤s∧φ e.2≤s) {k:Nat} (hk:k<s) (h0:cr (k+1) (iH φ E)=0):cr s (iH φ E)=0:=by
 rw[Av φ E s h];rw[qv] at h0;refine Int.natCast_eq_zero.2 (Nat.eq_zero_of_not_pos fun hp=>?_);have hs:∀e ∈ iL φ E,e.1≤s∧e.2≤s:=fun e he=>by
  obtain⟨e',h1,rfl⟩:=List.mem_map.1 he;exact h e' h1
 have hk':∀e ∈ iL (fun v=>vv (k+1) (φ v)) E,e.1≤k+1∧e.2≤k+1:=fun e he=>by
  obtain⟨e',_,rfl⟩:=List.mem_map.1 he;exact⟨nT _ _,nT _ _⟩
 have hu:=(pf s _ _ (Rho.id s) hs).1 hp;have hz:0<pE (k+1) (fun i=>i) (iL (fun v=>vv (k+1) (φ v)) E):=by
  refine(pf (k+1) _ _ (Rho.id _) hk').2 fun f hf he i hi=>?_;have h1:=fun j hj=>hu (fun j=>f (vv (k+1) j)) (fun _=>rfl) (fun e h2=>?_) j hj
  ·have c1:vv (k+1) s=k+1:=by unfold vv; rw[if_neg (by omega)]
   have h2:=h1 i (by omega)
   rw[c1] at h2
   by_cases hik:i=k+1
   ·rw[hik]
   ·have c2:vv (k+1) i=i:=by unfold vv; rw[if_pos (by omega)]
    rwa[c2] at h2
  ·obtain⟨e',h3,rfl⟩:=List.mem_map.1 h2;exact he (vv (k+1) (φ e'.1),vv (k+1) (φ e'.2)) (List.mem_map.2 ⟨e',h3,rfl⟩)
 omega
theorem H9 (φ:Nat→Nat) (E:List (Nat × Nat)) (s:Nat) (h:∀e ∈ E,φ e.1≤s∧φ e.2≤s):Ja s 0 (iH φ E) 1=(pE s (fun i=>i) (iL φ E):Int):=by
 rw[←Av φ E s h];exact Ax (fun k hk h0=>vQ φ E s h hk h0) s 0 _ 1 (Nat.add_zero _) (Bar.start _ _)
def Nb (E:List (Nat × Nat)) (x y:Nat):Prop:=(x,y) ∈ E∨(y,x) ∈ E
inductive Cn (E:List (Nat × Nat)) (i:Nat):Nat→Prop
 | refl:Cn E i i
 | step {j k:Nat}:Cn E i j→Nb E j k→Cn E i k
section
variable {E E' : List (Nat × Nat)} {i j k x y : Nat}
theorem Nb.symm (h:Nb E x y):Nb E y x:=h.elim .inr .inl
theorem Cn.trans (h:Cn E i j) (h':Cn E j k):Cn E i k:=by
 induction h' with
 | refl=>exact h
 | step _ a ih=>exact .step ih a
theorem Cn.one (h:Nb E x y):Cn E x y:=.step .refl h
theorem Cn.symm (h:Cn E i j):Cn E j i:=by
 induction h with
 | refl=>exact .refl
 | step _ a ih=>exact(Cn.one a.symm).trans ih
theorem Nb.mono (hs:∀e ∈ E,e ∈ E') (h:Nb E x y):Nb E' x y:=h.elim (fun h=>.inl (hs _ h)) fun h=>.inr (hs _ h)
theorem Cn.mono (hs:∀e ∈ E,e ∈ E') (h:Cn E i j):Cn E' i j:=by
 induction h with
 | refl=>exact .refl
 | step _ a ih=>exact .step ih (a.mono hs)
theorem Cn.closed {Q:Nat→Prop} (h:Cn E i j) (hi:Q i) (hc:∀x y,Q x→Nb E x y→Q y):Q j:=by
 induction h with
 | refl=>exact hi
 | step _ a ih=>exact hc _ _ ih a
theorem Jy:Cn [] i j↔i=j:=⟨fun h=>h.closed (Q:=fun j=>i=j) rfl fun _ _ _ h=>by rcases h with h|h<;>simp at h,fun h=>h ▸ .refl⟩
theorem Ik {a b:Nat}:Cn ((a,b)::E) i j↔Cn E i j∨(Cn E i a∧Cn E b j)∨(Cn E i b∧Cn E a j):=by
 constructor
 ·intro h;refine h.closed (Q:=fun j=>Cn E i j∨(Cn E i a∧Cn E b j)∨(Cn E i b∧Cn E a j)) (.inl .refl) fun x y hx hn=>?_;have old:Nb E x y→Cn E i y∨(Cn E i a∧Cn E b y)∨(Cn E i b∧Cn E a y):=fun hn=>by
   rcases hx with h|⟨h1,h2⟩|⟨h1,h2⟩
   ·exact .inl (.step h hn)
   ·exact .inr (.inl ⟨h1,.step h2 hn⟩)
   ·exact .inr (.inr ⟨h1,.step h2 hn⟩)
  rcases hn with hn|hn
  ·rcases List.mem_cons.1 hn with e|hn
   ·cases e;rcases hx with h|⟨h1,h2⟩|⟨h1,h2⟩
    ·exact .inr (.inl ⟨h,.refl⟩)
    ·exact .inr (.inl ⟨h1,.refl⟩)
    ·exact .inl h1
   ·exact old (.inl hn)
  ·rcases List.mem_cons.1 hn with e|hn
   ·cases e;rcases hx with h|⟨h1,h2⟩|⟨h1,h2⟩
    ·exact .inr (.inr ⟨h,.refl⟩)
    ·exact .inl h1
    ·exact .inr (.inr ⟨h1,.refl⟩)
   ·exact old (.inr hn)
 ·have up:∀{x y},Cn E x y→Cn ((a,b)::E) x y:=fun h=>h.mono fun e he=>by simp[he]
  have ab:Cn ((a,b)::E) a b:=.one (.inl (by simp))
  rintro(h|⟨h1,h2⟩|⟨h1,h2⟩)
  ·exact up h
  ·exact((up h1).trans ab).trans (up h2)
  ·exact((up h1).trans ab.symm).trans (up h2)
theorem GD (h:∀e,e ∈ E↔e ∈ E'):Cn E i j↔Cn E' i j:=⟨fun g=>g.mono fun e he=>(h e).1 he,fun g=>g.mono fun e he=>(h e).2 he⟩
def bf (r:Nat→Nat) (e:Nat × Nat):Nat→Nat:=fun x=>if r x=max (r e.1) (r e.2) then min (r e.1) (r e.2) else r x
structure Rt (r:Nat→Nat) (E:List (Nat × Nat)):Prop where
 le:∀x,r x≤x
 rr:∀x,r (r x)=r x
 cn:∀x y,r x=r y↔Cn E x y
theorem Rt.id:Rt (fun x=>x) []:=⟨fun _=>Nat.le_refl _,fun _=>rfl,fun _ _=>Jy.symm⟩
theorem fc {r:Nat→Nat} {e:Nat × Nat} (h:r e.1=r e.2):bf r e=r:=by
 funext x
 simp only[bf,h,Nat.max_self,Nat.min_self]
 split
 ·rename_i h; exact h.symm
 ·rfl
theorem Rt.join {r:Nat→Nat} (h:Rt r E) (e:Nat × Nat):Rt (bf r e) (e::E):=by
 obtain⟨a,b⟩:=e;have hmin:∀x,bf r (a,b) x≤r x:=fun x=>by
  simp only[bf]; split<;>omega
 have hm1:r (min (r a) (r b))=min (r a) (r b):=by
  rcases Nat.le_total (r a) (r b) with h1|h1
  ·rw[Nat.min_eq_left h1,h.rr]
  ·rw[Nat.min_eq_right h1,h.rr]
 refine⟨fun x=>Nat.le_trans (hmin x) (h.le x),fun x=>?_,fun x y=>?_⟩
 ·simp only[bf]
  by_cases h1:r x=max (r a) (r b)
  ·rw[if_pos h1,hm1]
   split<;>omega
  ·rw[if_neg h1,h.rr,if_neg h1]
 ·rw[Ik,←h.cn,←h.cn,←h.cn,←h.cn,←h.cn];simp only[bf];have h2:max (r a) (r b)=r a∧min (r a) (r b)=r b∨max (r a) (r b)=r b∧min (r a) (r b)=r a:=by omega
  split<;>split<;>omega
theorem Rt.Mw:∀{T E:List (Nat × Nat)} {r:Nat→Nat},Rt r E→Rt (T.foldl bf r) (T.reverse++E):=by
 intro T
 induction T with
 | nil=>intro E r h; exact h
 | cons e T ih =>
  intro E r h;have:=ih (h.join e);rwa[List.foldl_cons,List.reverse_cons,List.append_assoc]
def rep (T:List (Nat × Nat)):Nat→Nat:=T.foldl bf (fun x=>x)
theorem tD (T:List (Nat × Nat)):Rt (rep T) T.reverse:=by
 have:=Rt.Mw (T:=T) Rt.id;rwa[List.append_nil] at this
theorem Em {T:List (Nat × Nat)}:rep T x=rep T y↔Cn T x y:=((tD T).cn x y).trans (GD fun e=>List.mem_reverse)
def iU (V:List Nat) (r:Nat→Nat):Nat:=(V.filter fun v=>r v == v).length
theorem j5 {p q:Nat→Bool} {a:Nat}:∀{V:List Nat},V.Nodup→a ∈ V→p a=true→(∀v,q v=true↔p v=true∧v≠a)→(V.filter p).length=(V.filter q).length+1:=by
 intro V
 induction V with
 | nil=>intro _ h; cases h
 | cons v V ih =>
  intro hn ha hp hq;rw[List.nodup_cons] at hn
  by_cases e:v=a
  ·subst e;have hqa:q v=false:=by
    cases h:q v with
    | false=>rfl
    | true=>exact absurd rfl ((hq v).1 h).2
   rw[List.filter_cons_of_pos hp,List.filter_cons_of_neg (by simp[hqa]),List.length_cons]
   congr 2
   refine List.filter_congr fun x hx=>?_;have hne:x≠v:=fun e=>hn.1 (e ▸ hx);have:=hq x;cases h1:p x<;>cases h2:q x<;>simp_all
  ·have ha':a ∈ V:=by rcases List.mem_cons.1 ha with h|h; exact absurd h.symm e; exact h
   have:=ih hn.2 ha' hp hq;have hv:q v=p v:=by
    have:=hq v;cases h1:p v<;>cases h2:q v<;>simp_all
   by_cases h1:p v=true
   ·rw[List.filter_cons_of_pos h1,List.filter_cons_of_pos (by rw[hv]; exact h1),List.length_cons,List.length_cons,this]
   ·rw[List.filter_cons_of_neg h1,List.filter_cons_of_neg (by rw[hv]; exact h1),this]
theorem zv {V:List Nat} {r:Nat→Nat} {e:Nat × Nat} (hV:V.Nodup) (hr:∀x,r (r x)=r x) (h1:r e.1 ∈ V) (h2:r e.2 ∈ V) (hne:r e.1≠r e.2):iU V r=iU V (bf r e)+1:=by
 have hm:max (r e.1) (r e.2) ∈ V:=by
  rcases Nat.le_total (r e.1) (r e.2) with h|h
  ·rwa[Nat.max_eq_right h]
  ·rwa[Nat.max_eq_left h]
 have hrm:r (max (r e.1) (r e.2))=max (r e.1) (r e.2):=by
  rcases Nat.le_total (r e.1) (r e.2) with h|h
  ·rw[Nat.max_eq_right h,hr]
  ·rw[Nat.max_eq_left h,hr]
 refine j5 (a:=max (r e.1) (r e.2)) hV hm (by simp only[beq_iff_eq]; exact hrm) fun v=>?_
 simp only[beq_iff_eq,bf];constructor
 ·intro h
  split at h
  ·rename_i h3;exfalso;have h4:r v=v:=by rw[←h] at h3 ⊢; rcases Nat.le_total (r e.1) (r e.2) with h|h<;>simp only[Nat.min_eq_left h,Nat.min_eq_right h,hr]
   omega
  ·rename_i h3; exact⟨h,fun e=>h3 (by rw[e,hrm])⟩
 ·rintro⟨h,h3⟩;rw[if_neg (by rw[h]; exact h3)]; exact h
def m6 (r:Nat→Nat):List (Nat × Nat)→Nat
 | []=>0
 | e::T=>(if r e.1=r e.2 then 0 else 1)+m6 (bf r e) T
def bG (r:Nat→Nat):List (Nat × Nat)→Bool
 | []=>true
 | e::T=>!(r e.1 == r e.2) && bG (bf r e) T
theorem mF:∀(T:List (Nat × Nat)) (r:Nat→Nat),m6 r T≤T.length
 | [],_=>Nat.le_refl _
 | e::T,r=>by
  have:=mF T (bf r e);simp only[m6,List.length_cons]
  split<;>omega
theorem ot:∀(T:List (Nat × Nat)) (r:Nat→Nat),m6 r T=T.length↔bG r T=true
 | [],_=>by simp[m6,bG]
 | e::T,r=>by
  have h1:=mF T (bf r e);have h2:=ot T (bf r e);simp only[m6,List.length_cons,bG,Bool.and_eq_true,Bool.not_eq_true',beq_eq_false_iff_ne,ne_eq]
  by_cases h:r e.1=r e.2
  ·rw[if_pos h]; simp[h]; omega
  ·rw[if_neg h,←h2]; simp[h]; omega
theorem oH {V:List Nat} (hV:V.Nodup):∀(T:List (Nat × Nat)) {E:List (Nat × Nat)} {r:Nat→Nat},Rt r E→(∀x ∈ V,r x ∈ V)→(∀e ∈ T,e.1 ∈ V∧e.2 ∈ V)→iU V r=iU V (T.foldl bf r)+m6 r T∧∀x ∈ V,T.foldl bf r x ∈ V
 | [],_,_,_,hv,_=>⟨rfl,hv⟩
 | e::T,E,r,h,hv,ht=>by
  have he:=ht e (by simp)
  have hv':∀x ∈ V,bf r e x ∈ V:=fun x hx=>by
   simp only[bf]
   split
   ·rcases Nat.le_total (r e.1) (r e.2) with h|h
    ·rw[Nat.min_eq_left h]; exact hv _ he.1
    ·rw[Nat.min_eq_right h]; exact hv _ he.2
   ·exact hv x hx
  have ih:=oH hV T (h.join e) hv' fun e he=>ht e (by simp[he])
  refine⟨?_,ih.2⟩;rw[List.foldl_cons];simp only[m6]
  by_cases hne:r e.1=r e.2
  ·rw[if_pos hne,Nat.zero_add,←ih.1,fc hne]
  ·rw[if_neg hne,zv hV h.rr (hv _ he.1) (hv _ he.2) hne,ih.1]; omega
theorem Fz (V:List Nat):iU V (fun x=>x)=V.length:=by simp[iU]
theorem gm {V:List Nat} (hV:V.Nodup) {T:List (Nat × Nat)} (ht:∀e ∈ T,e.1 ∈ V∧e.2 ∈ V):V.length=iU V (rep T)+m6 (fun x=>x) T∧∀x ∈ V,rep T x ∈ V:=by
 have:=oH hV T Rt.id (fun x h=>h) ht;rwa[Fz] at this
theorem rC {p:Nat→Bool}:∀{V:List Nat},V.Nodup→(∀i j,i ∈ V→j ∈ V→p i=true→p j=true→i=j)→(V.filter p).length≤1:=by
 intro V
 induction V with
 | nil=>intro _ _; exact Nat.zero_le _
 | cons v V ih =>
  intro hn h;rw[List.nodup_cons] at hn
  by_cases hp:p v=true
  ·rw[List.filter_cons_of_pos hp];have:V.filter p = []:=List.filter_eq_nil_iff.2 fun x hx hpx=>hn.1 ((h v x (by simp) (by simp[hx]) hp hpx) ▸ hx)
   rw[this]; exact Nat.le_refl _
  ·rw[List.filter_cons_of_neg hp];exact ih hn.2 fun i j hi hj=>h i j (by simp[hi]) (by simp[hj])
theorem sv {V:List Nat} (hV:V.Nodup) {T:List (Nat × Nat)} (ht:∀e ∈ T,e.1 ∈ V∧e.2 ∈ V):iU V (rep T)≤1↔∀x ∈ V,∀y ∈ V,Cn T x y:=by
 have hr:=tD T;have hv:=(gm hV ht).2;constructor
 ·intro h x hx y hy;rw[←Em];have hmem:∀z ∈ V,rep T z ∈ V.filter fun v=>rep T v == v:=fun z hz=>List.mem_filter.2 ⟨hv z hz,by simp only[beq_iff_eq]; exact hr.rr z⟩
  have one:∀{l:List Nat} {a b:Nat},l.length≤1→a ∈ l→b ∈ l→a=b:=by
   intro l a b hl ha hb
   match l with
   | []=>cases ha
   | [c]=>rw[List.mem_singleton.1 ha,List.mem_singleton.1 hb]
   | _::_::_=>simp at hl
  exact one h (hmem x hx) (hmem y hy)
 ·intro h;refine rC hV fun i j hi hj h1 h2=>?_;have:=Em.2 (h i hi j hj);rw[←eq_of_beq h1,←eq_of_beq h2,this]
theorem CP {V:List Nat} (hV:V.Nodup) {T:List (Nat × Nat)} (ht:∀e ∈ T,e.1 ∈ V∧e.2 ∈ V) {x:Nat} (hx:x ∈ V):0<iU V (rep T) :=
 List.length_pos_of_mem (List.mem_filter.2 ⟨(gm hV ht).2 x hx,by simp only[beq_iff_eq]; exact(tD T).rr x⟩)
theorem DH {V:List Nat} (hV:V.Nodup) {T:List (Nat × Nat)} (ht:∀e ∈ T,e.1 ∈ V∧e.2 ∈ V) {x:Nat} (hx:x ∈ V) (hl:T.length+1=V.length):bG (fun x=>x) T=true↔∀y ∈ V,Cn T x y:=by
 have h1:=(gm hV ht).1;have h2:=mF T fun x=>x;have h3:=CP hV ht hx;rw[←ot];have:iU V (rep T)≤1↔∀y ∈ V,Cn T x y:=(sv hV ht).trans ⟨fun h y hy=>h x hx y hy,fun h y hy z hz=>(h y hy).symm.trans (h z hz)⟩;rw[←this];omega
end
end Go.Ab.T30
end

section
namespace Go.Proofs.YtookeaakpiefjaaGreatDoor
open Go Go.Ab Go.Ab.W Go.Ab.T30
def NC (T:List (Nat × Nat)) (x w:Nat):Prop:=w<2 ^ 64∧∀j,w.testBit j=true↔Cn T x j
theorem NC.uniq {T:List (Nat × Nat)} {x w w':Nat} (h:NC T x w) (h':NC T x w'):w=w':=wD fun i=>(h.2 i).trans (h'.2 i).symm
theorem KI {a x:Nat} (h:a.testBit x=true) (hx:x<64):1≤rk a 64:=List.length_pos_of_mem (dW.2 ⟨hx,h⟩)
def eg (es:List (Int × Int)) (k:Int):Nat × Nat:=match es[k.toNat]? with
 | some e=>(e.1.toNat,e.2.toNat)
 | none=>(0,0)
def Vl (es:List (Int × Int)) (k:Int):Prop:=0≤k∧k<(es.length:Int)
theorem jR {N:Nat} {es:List (Int × Int)} {k:Int} (h:Okay N es) (hk:Vl es k):∃a b:Nat,es[k.toNat]? = some ((a:Int),(b:Int))∧eg es k=(a,b)∧a<b∧b<64∧b<N∧bL k es.length=true:=by
 obtain⟨i,rfl⟩:=Int.eq_ofNat_of_zero_le hk.1;have hi:i<es.length:=by have:=hk.2; omega
 obtain⟨a,b,e,h1,h2⟩:=h.mem _ (List.getElem_mem hi);have h3:es[((i:Nat):Int).toNat]? = some ((a:Int),(b:Int)):=by rw[Int.toNat_natCast,List.getElem?_eq_getElem hi,e]
 have:=h.le;exact⟨a,b,h3,by unfold eg; rw[h3]; simp,h1,by omega,h2,aG hi⟩
def gw (es:List (Int × Int)):List Int→Nat→(Nat→Nat)→List (List Int)
 | _,0,_=>[[]]
 | [],_+1,_=>[]
 | k::L,d+1,r=>(if r (eg es k).1=r (eg es k).2 then[] else(gw es L d (bf r (eg es k))).map (k::·))++gw es L (d+1) r
def Ey (p q y:Nat):Nat:=if y=p then q else y
theorem vf {p q y z:Nat} (h:p≠q):Ey p q y=Ey p q z↔y=z∨((y=p∨y=q)∧(z=p∨z=q)):=by
 unfold Ey
 split<;>split<;>omega
theorem qj (r:Nat→Nat) (e:Nat × Nat) (v:Nat):bf r e v=Ey (max (r e.1) (r e.2)) (min (r e.1) (r e.2)) (r v):=rfl
theorem bP {r:Nat→Nat} {e:Nat × Nat} (h:r e.1≠r e.2) (v w:Nat):bf r e v=bf r e w↔r v=r w∨((r v=r e.1∨r v=r e.2)∧(r w=r e.1∨r w=r e.2)):=by
 rw[qj,qj,vf (by omega)]
 omega
theorem pj (ρ:Nat→Nat) (u v i:Nat):mg ρ u v i=Ey u v (ρ i):=rfl
theorem FG {ρ:Nat→Nat} {s a b:Nat} (h:ρ a≠ρ b) (i j:Nat):(if ρ a=s then mg ρ (ρ b) (ρ a) else mg ρ (ρ a) (ρ b)) i=(if ρ a=s then mg ρ (ρ b) (ρ a) else mg ρ (ρ a) (ρ b)) j↔ρ i=ρ j∨((ρ i=ρ a∨ρ i=ρ b)∧(ρ j=ρ a∨ρ j=ρ b)):=by
 by_cases hs:ρ a=s
 ·simp only[if_pos hs];rw[pj,pj,vf (fun e=>h e.symm)];omega
 ·simp only[if_neg hs];rw[pj,pj,vf h]
def dg (s:Nat) (ρ:Nat→Nat):Nat:=((List.range s).filter fun i=>ρ i == i).length
theorem AW {s:Nat} {ρ:Nat→Nat} (h:Rho s ρ) {a b:Nat} (ha:a≤s) (hb:b≤s) (hab:ρ a≠ρ b):dg s ρ=dg s (if ρ a=s then mg ρ (ρ b) (ρ a) else mg ρ (ρ a) (ρ b))+1:=by
 have key:∀u v,ρ u=u→ρ v=v→u≠v→u<s→dg s ρ=dg s (mg ρ u v)+1:=fun u v hu hv huv hus=>by
  refine j5 List.nodup_range (List.mem_range.2 hus) (by simpa using hu) fun i=>?_
  simp only[beq_iff_eq];unfold mg;constructor
  ·intro h1
   by_cases hi:ρ i=u
   ·rw[if_pos hi] at h1;rw[←h1,hv] at hi;exact absurd hi.symm huv
   ·rw[if_neg hi] at h1;exact⟨h1,fun e=>hi (by rw[h1,e])⟩
  ·rintro⟨h1,h2⟩;rw[if_neg (fun e=>h2 (by rw[←h1,e])),h1]
 by_cases hs:ρ a=s
 ·rw[if_pos hs];have h1:=h.le b hb;exact key _ _ (h.idem b) (h.idem a) (fun e=>hab e.symm) (by omega)
 ·rw[if_neg hs];have h1:=h.le a ha;exact key _ _ (h.idem a) (h.idem b) hab (by omega)
theorem kS {s:Nat} {ρ:Nat→Nat}:dg s ρ=0↔(List.range s).all (fun i=>ρ i != i)=true:=by
 unfold dg;rw[List.length_eq_zero_iff,List.filter_eq_nil_iff,List.all_eq_true];simp
theorem m7 {s:Nat} {ρ:Nat→Nat} (h:Rho s ρ) (h0:dg s ρ=0) {i:Nat} (hi:i≤s):ρ i=s:=by
 have h1:=List.all_eq_true.1 (kS.1 h0);have h2:=h.le i hi
 by_cases h3:ρ i<s
 ·have h4:=h1 (ρ i) (List.mem_range.2 h3);rw[h.idem] at h4;simp at h4
 ·omega
theorem xx {s:Nat} {ρ:Nat→Nat} (h:Rho s ρ) (h0:dg s ρ=0):∀E:List (Nat × Nat),(∀e ∈ E,e.1≤s∧e.2≤s)→pE s ρ E=1
 | [],_=>by simp only[pE]; rw[if_pos (kS.1 h0)]
 | (a,b)::E,hE=>by
  have ha:a≤s:=(hE (a,b) List.mem_cons_self).1;have hb:b≤s:=(hE (a,b) List.mem_cons_self).2;simp only[pE];rw[if_pos (by rw[m7 h h0 ha,m7 h h0 hb]),xx h h0 E fun e he=>hE e (List.mem_cons_of_mem _ he)]
theorem yh {es:List (Int × Int)} {V:Nat→Prop} {s:Nat} {ψ:Nat→Nat} (hψ:∀v,V v→ψ v≤s) :
  ∀(L:List Int) (r ρ:Nat→Nat),Rho s ρ→(∀v w,V v→V w→(r v=r w↔ρ (ψ v)=ρ (ψ w)))→(∀k ∈ L,V (eg es k).1∧V (eg es k).2) →
   (gw es L (dg s ρ) r).length=pE s ρ (iL ψ (L.map (eg es)))
 | [],r,ρ,h,hr,_=>by
  simp only[List.map_nil,iL,pE]
  by_cases h0:dg s ρ=0
  ·rw[if_pos (kS.1 h0),h0]; rfl
  ·rw[if_neg (fun e=>h0 (kS.2 e))];obtain⟨d,hd⟩:∃d,dg s ρ=d+1:=⟨dg s ρ-1,by omega⟩
   rw[hd]; rfl
 | k::L,r,ρ,h,hr,hL=>by
  obtain⟨va,vb⟩:=hL k List.mem_cons_self;have hL':=fun k' hk'=>hL k' (List.mem_cons_of_mem _ hk');have ha:=hψ _ va;have hb:=hψ _ vb
  by_cases h0:dg s ρ=0
  ·rw[xx h h0 _ (fun e he=>by
    obtain⟨e',h1,rfl⟩:=List.mem_map.1 he;obtain⟨k',h2,rfl⟩:=List.mem_map.1 h1;exact⟨hψ _ (hL k' h2).1,hψ _ (hL k' h2).2⟩),h0]
   rfl
  ·have ih:=yh (es:=es) hψ L r ρ h hr hL';have hc:iL ψ ((k::L).map (eg es))=(ψ (eg es k).1,ψ (eg es k).2)::iL ψ (L.map (eg es)):=rfl;rw[hc];simp only[pE]
   by_cases hab:ρ (ψ (eg es k).1)=ρ (ψ (eg es k).2)
   ·rw[if_pos hab,Nat.add_zero,←ih];obtain⟨d,hd⟩:∃d,dg s ρ=d+1:=⟨dg s ρ-1,by omega⟩
    rw[hd];simp only[gw];rw[if_pos ((hr _ _ va vb).2 hab),List.nil_append]
   ·rw[if_neg hab,←ih];have hra:r (eg es k).1≠r (eg es k).2:=fun e=>hab ((hr _ _ va vb).1 e);have ih2:=yh (es:=es) hψ L (bf r (eg es k)) _ (h.step ha hb hab) (fun v w hv hw=>by
     rw[bP hra,FG hab,hr v w hv hw,hr v _ hv va,hr v _ hv vb,hr w _ hw va,hr w _ hw vb]) hL'
    have hd:=AW h ha hb hab;rw[hd];simp only[gw];rw[if_neg hra,List.length_append,List.length_map,ih2];omega
def cC (es:List (Int × Int)) (x:Nat) (k:Int):Bool:=decide (0≤k∧k<(es.length:Int)) && x.testBit (eg es k).1 && x.testBit (eg es k).2
theorem da {es:List (Int × Int)} {x:Nat} {k:Int} (h:cC es x k=true):Vl es k∧x.testBit (eg es k).1=true∧x.testBit (eg es k).2=true:=by
 simp only[cC,Bool.and_eq_true,decide_eq_true_eq] at h;exact⟨h.1.1,h.1.2,h.2⟩
theorem pV (n x a b:Nat) (hx:x<2 ^ 64) (ha:a<64) (hb:b<64):G5 n x (a:Int) (b:Int)=some (x.testBit a && x.testBit b):=by
 unfold G5;rw[decide_eq_true (Int.natCast_nonneg a),decide_eq_true (Int.natCast_nonneg b),aW,aW,Int.toNat_natCast,Int.toNat_natCast,yA hx (by omega),yA hx (by omega)]
 cases x.testBit a<;>rfl
def IK (es:List (Int × Int)) (x:Nat):Int→List Int→Bool
 | _,[]=>true
 | p,k::l=>cC es x k && decide (p<k) && IK es x k l
theorem tH {es:List (Int × Int)} {x:Nat}:∀{l:List Int} {p:Int},IK es x p l=true→∀k ∈ l,cC es x k=true∧p<k
 | [],_,_,k,hk=>by cases hk
 | a::l,p,h,k,hk=>by
  simp only[IK,Bool.and_eq_true,decide_eq_true_eq] at h;rcases List.mem_cons.1 hk with rfl|hk
  ·exact h.1
  ·have:=tH h.2 k hk;exact⟨this.1,by omega⟩
theorem AX {es:List (Int × Int)} {x:Nat}:∀{l:List Int} {p:Int},IK es x p l=true→l.Pairwise (· < ·)
 | [],_,_=>.nil
 | a::l,p,h=>by
  simp only[IK,Bool.and_eq_true,decide_eq_true_eq] at h;exact List.pairwise_cons.2 ⟨fun k hk=>(tH h.2 k hk).2,AX h.2⟩
structure Fst (p:List Int) (r:Nat→Nat):Prop where
 len:p.length=64
 at_:∀v,v<64→∃y:Nat,p[v]? = some (y:Int)∧y≤v∧(y=v→r v=v)∧(y≠v→r v=r y)
theorem Fst.root {p:List Int} {r:Nat→Nat} (h:Fst p r) (n0:Nat):∀(v n:Nat),v<64→v<n→bX (fI n0 p) n (v:Int)=some ((r v:Nat):Int):=by
 intro v
 induction v using Nat.strongRecOn with
 | _ v ih =>
  intro n hv hn;obtain⟨n,rfl⟩:∃n',n=n'+1:=⟨n-1,by omega⟩
  obtain⟨y,h1,h2,h3,h4⟩:=h.at_ v hv;have hb:bL (v:Int) p.length=true:=aG (by rw[h.len]; exact hv)
  by_cases hy:y=v
  ·rw[h3 hy];exact bu (by unfold fI; simp[hb,h1,hy,gd,ob,br])
  ·rw[h4 hy,az (s':=(y:Int)) (by unfold fI; simp only[hb,aW,Int.toNat_natCast,h1,ai]; rw[decide_eq_false (by omega)]; rfl)]
   exact ih y (by omega) n (by omega) (by omega)
theorem Be {p:List Int} {r:Nat→Nat} (h:Fst p r) (n v:Nat) (hv:v<64) (hn:64<n):BZ n p (v:Int)=some ((r v:Nat):Int):=by
 unfold BZ;rw[h.root n v n hv (by omega),ai]
theorem Fst.join {p:List Int} {r:Nat→Nat} {E:List (Nat × Nat)} (h:Fst p r) (hr:Rt r E) {e:Nat × Nat} (h1:e.1<64) (h2:e.2<64):Fst (p.set (max (r e.1) (r e.2)) ((min (r e.1) (r e.2):Nat):Int)) (bf r e):=by
 have l1:=hr.le e.1;have l2:=hr.le e.2;have hM:max (r e.1) (r e.2)<64:=by omega
 have hrM:r (max (r e.1) (r e.2))=max (r e.1) (r e.2):=by
  rcases Nat.le_total (r e.1) (r e.2) with g|g
  ·rw[Nat.max_eq_right g,hr.rr]
  ·rw[Nat.max_eq_left g,hr.rr]
 have hrm:r (min (r e.1) (r e.2))=min (r e.1) (r e.2):=by
  rcases Nat.le_total (r e.1) (r e.2) with g|g
  ·rw[Nat.min_eq_left g,hr.rr]
  ·rw[Nat.min_eq_right g,hr.rr]
 refine⟨by rw[List.length_set,h.len],fun v hv=>?_⟩
 simp only[bf]
 by_cases hvM:v=max (r e.1) (r e.2)
 ·subst hvM;refine⟨min (r e.1) (r e.2),by rw[List.getElem?_set_self (by rw[h.len]; exact hM)],by omega,fun hy=>?_,fun hy=>?_⟩
  ·rw[if_pos hrM]; exact hy
  ·rw[if_pos hrM,hrm,if_neg hy]
 ·obtain⟨y,g1,g2,g3,g4⟩:=h.at_ v hv;refine⟨y,by rw[List.getElem?_set_ne (fun e=>hvM e.symm)]; exact g1,g2,fun hy=>?_,fun hy=>?_⟩
  ·rw[g3 hy,if_neg hvM]
  ·rw[g4 hy]
theorem It (n:Nat) (hn:64<n):∃p,MF n=some p∧Fst p (fun x=>x):=by
 have:=mw (body:=w5 n) 64 (fun(s:List Int) (v:Int)=>(s,v)) id (fun i s=>s.length=64∧∀v,v<i→s[v]? = some (v:Int)) (fun s i hi hI=>?_) (fun s _=>?_) (n:=n) (s:=List.replicate 64 (0:Int)) ⟨by simp,fun v hv=>absurd hv (Nat.not_lt_zero _)⟩ hn
 ·obtain⟨p,h1,h2,h3⟩:=this;refine⟨p,?_,h2,fun v hv=>⟨v,h3 v hv,Nat.le_refl _,fun _=>rfl,fun h=>absurd rfl h⟩⟩;unfold MF;have e:(List.replicate (64:Int).toNat (0:Int))=List.replicate 64 0:=rfl;rw[e,decide_eq_true (by decide),aW,show kZ ((64:Int).toNat)=true from rfl,aW,h1]; rfl
 ·refine⟨s.set i (i:Int),?_,by rw[List.length_set]; exact hI.1,fun v hv=>?_⟩
  ·unfold w5;have e:((64:Int).toNat)=64:=rfl;have hs:s[i]? = some (s[i]'(by rw[hI.1]; exact hi)):=List.getElem?_eq_getElem _
   simp only[e,decide_eq_true (show((i:Nat):Int)<((64:Nat):Int) by omega),dJ,aG hi,aW,Int.toNat_natCast,hs,ai,bY (show i<4611686018427387904 by omega)]
  ·by_cases hvi:v=i
   ·subst hvi; rw[List.getElem?_set_self (by rw[hI.1]; exact hi)]
   ·rw[List.getElem?_set_ne (fun e=>hvi e.symm)]; exact hI.2 v (by omega)
 ·unfold w5;simp[br]
def Gg (es:List (Int × Int)) (x:Nat) (l:List Int):Bool:=IK es x (-1) l && decide (l.length+1=rk x 64) && bG (fun v=>v) (l.map (eg es))
theorem Gr {x:Nat} (hx:x<2 ^ 64) (h0:x≠0):1≤rk x 64:=by
 have:=fL (Nat.pos_of_ne_zero h0) hx;exact KI this.1 (qq hx this.1)
theorem kJ (x:Nat):(fy x 64).Nodup:=(Gv x 64).imp fun h=>Nat.ne_of_lt h
theorem xA {N:Nat} {es:List (Int × Int)} (h:Okay N es) {x:Nat} {l:List Int} (hl:∀k ∈ l,cC es x k=true):∀e ∈ l.map (eg es),e.1 ∈ fy x 64∧e.2 ∈ fy x 64:=fun e he=>by
 obtain⟨k,hk,rfl⟩:=List.mem_map.1 he;obtain⟨h1,h2,h3⟩:=da (hl k hk);obtain⟨a,b,_,g2,g3,g4,_⟩:=jR h h1;rw[g2] at h2 h3 ⊢;exact⟨dW.2 ⟨Nat.lt_trans g3 g4,h2⟩,dW.2 ⟨g4,h3⟩⟩
theorem qz {N:Nat} {es:List (Int × Int)} (h:Okay N es) {x v:Nat} {l:List Int} (hx:x<2 ^ 64) (hl:∀k ∈ l,cC es x k=true) (hlen:l.length+1=rk x 64) (hv:x.testBit v=true):bG (fun v=>v) (l.map (eg es))=true↔∀j,x.testBit j=true→Cn (l.map (eg es)) v j:=by
 have h0:=qq hx hv;rw[DH (kJ x) (xA h hl) (dW.2 ⟨h0,hv⟩) (by rw[List.length_map]; exact hlen)]
 exact⟨fun g j hj=>g j (dW.2 ⟨qq hx hj,hj⟩),fun g j hj=>g j (dW.1 hj).2⟩
theorem BE {es:List (Int × Int)} {x:Nat} {l:List Int} (h:Gg es x l=true):(∀k ∈ l,cC es x k=true)∧l.length+1=rk x 64∧bG (fun v=>v) (l.map (eg es))=true∧l.Pairwise (· < ·):=by
 simp only[Gg,Bool.and_eq_true,decide_eq_true_eq] at h;exact⟨fun k hk=>(tH h.1.1 k hk).1,h.1.2,h.2,AX h.1.1⟩
structure Tr (N:Nat) (es:List (Int × Int)) (x:Nat) (l:List Int):Prop where
 ok:Okay N es
 hx:x<2 ^ 64
 h0:x≠0
 cC:∀k ∈ l,cC es x k=true
 len:l.length+1=rk x 64
 all:bG (fun v=>v) (l.map (eg es))=true
 asc:l.Pairwise (· < ·)
section
variable {N : Nat} {es : List (Int × Int)} {x : Nat} {l : List Int} {at_ to : Nat} {k : Int}
theorem Tr.vl (h:Tr N es x l):∀k ∈ l,Vl es k:=fun k hk=>(da (h.cC k hk)).1
theorem Tr.cn (h:Tr N es x l) {a b:Nat} (ha:x.testBit a=true) (hb:x.testBit b=true):Cn (l.map (eg es)) a b:=(qz h.ok h.hx h.cC h.len ha).1 h.all b hb
end
section
variable {N : Nat} {es : List (Int × Int)} {x : Nat} {l : List Int} {at_ to : Nat}
end
def cb:Nat→Nat→Nat
 | _,0=>1
 | 0,_+1=>0
 | e+1,d+1=>cb e d+cb e (d+1)
theorem nr (e:Nat):cb e 0=1:=by cases e<;>rfl
theorem pt (e d:Nat):cb (e+1) (d+1)=cb e d+cb e (d+1):=rfl
theorem AN {e e':Nat} (h:e≤e') (d:Nat):cb e d≤cb e' d:=by
 induction h with
 | refl=>exact Nat.le_refl _
 | step _ ih =>
  cases d with
  | zero=>rw[nr,nr]; exact Nat.le_refl _
  | succ d=>rw[pt]; omega
theorem gi {α:Type} [DecidableEq α]:∀{l m:List α},l.Nodup→(∀a ∈ l,a ∈ m)→l.length≤m.length
 | [],_,_,_=>Nat.zero_le _
 | a::l,m,hn,h=>by
  rw[List.nodup_cons] at hn;have ha:=h a (by simp)
  have:=gi (l:=l) (m:=m.erase a) hn.2 fun b hb=>(List.mem_erase_of_ne (fun e=>hn.1 (by rw[←e]; exact hb))).2 (h b (by simp[hb]))
  rw[List.length_erase_of_mem ha] at this;have:0<m.length:=List.length_pos_of_mem ha;rw[List.length_cons]; omega
def prs:List Nat→List (Int × Int)
 | []=>[]
 | v::V=>(V.map fun w=>(((v:Nat):Int),((w:Nat):Int)))++prs V
def Na (N:Int) (es:List (Int × Int)) (x:Nat):Int:=if wT N es then(if x=0∨2 ^ N.toNat≤x then 2 else 0) else 180
def il (es:List (Int × Int)) (x i j:Nat):List Int:=((List.range' i j).filter fun(k:Nat)=>cC es x (k:Int)).map fun(k:Nat)=>(k:Int)
theorem Bn (es:List (Int × Int)) (x i j:Nat):il es x i (j+1)=if cC es x (i:Int) then(i:Int)::il es x (i+1) j else il es x (i+1) j:=by
 unfold il;rw[List.range'_succ,List.filter_cons]
 split<;>rfl
theorem Kk {es:List (Int × Int)} {x i j:Nat} {k:Int} (h:k ∈ il es x i j):cC es x k=true:=by
 obtain⟨m,h1,rfl⟩:=List.mem_map.1 h;exact(List.mem_filter.1 h1).2
theorem El (es:List (Int × Int)):∀(L:List Int) (d:Nat) (r:Nat→Nat),(gw es L d r).length≤cb L.length d
 | L,0,r=>by cases L<;>simp[gw,nr]
 | [],d+1,r=>Nat.zero_le _
 | k::L,d+1,r=>by
  have h1:=El es L (d+1) r;simp only[gw,List.length_append,List.length_cons,pt]
  split
  ·simp only[List.length_nil]; omega
  ·have h2:=El es L d (bf r (eg es k));rw[List.length_map]; omega
end Go.Proofs.YtookeaakpiefjaaGreatDoor
end

section
namespace Go.Proofs.YtookeaakpiefjaaGreatDoor
open Go Go.Ab Go.Ab.W
def vl:List Nat→Nat
 | []=>0
 | d::l=>d+18446744073709551616*vl l
def Wd (l:List Nat):Prop:=∀d ∈ l,d<18446744073709551616
def wp (k:Nat):Nat:=18446744073709551616 ^ k
theorem He:wp 0=1:=rfl
theorem gY (k:Nat):wp (k+1)=18446744073709551616*wp k:=by unfold wp; rw[Nat.pow_succ,Nat.mul_comm]
theorem Ky (a b:Nat):wp (a+b)=wp a*wp b:=Nat.pow_add _ _ _
theorem Ez (k:Nat):0<wp k:=Nat.pow_pos (by decide)
theorem kv:vl []=0:=rfl
theorem fo (d:Nat) (l:List Nat):vl (d::l)=d+18446744073709551616*vl l:=rfl
theorem yv (a b:List Nat):vl (a++b)=vl a+wp a.length*vl b:=by
 induction a with
 | nil=>simp[vl,wp]
 | cons d a ih=>rw[List.cons_append,fo,fo,ih,List.length_cons,gY,Nat.mul_add,Nat.mul_assoc,Nat.add_assoc]
theorem sD {l:List Nat} (h:Wd l):vl l<wp l.length:=by
 induction l with
 | nil=>exact Nat.one_pos
 | cons d l ih =>
  have h1:=h d List.mem_cons_self;have h2:=ih fun e he=>h e (List.mem_cons_of_mem _ he);rw[fo,List.length_cons,gY];omega
theorem Ek (k:Nat):vl (List.replicate k 0)=0:=by
 induction k with
 | zero=>rfl
 | succ k ih=>rw[List.replicate_succ,fo,ih]
theorem Wd.nil:Wd []:=fun _ h=>nomatch h
theorem Wd.zeros (k:Nat):Wd (List.replicate k 0):=fun d hd=>by rw[List.eq_of_mem_replicate hd]; decide
theorem Wd.app {a b:List Nat} (ha:Wd a) (hb:Wd b):Wd (a++b):=fun d hd=>(List.mem_append.1 hd).elim (ha d) (hb d)
theorem Wd.one {d:Nat} (h:d<18446744073709551616):Wd [d]:=fun e he=>by rw[List.mem_singleton.1 he]; exact h
theorem Wd.at {l:List Nat} (h:Wd l) {i d:Nat} (hi:l[i]? = some d):d<18446744073709551616:=h d (List.mem_of_getElem? hi)
theorem Wd.set {l:List Nat} (h:Wd l) {i d:Nat} (hd:d<18446744073709551616):Wd (l.set i d):=fun e he=>by
 rcases List.mem_or_eq_of_mem_set he with h1|rfl
 ·exact h e h1
 ·exact hd
theorem Wd.take {l:List Nat} (h:Wd l) (k:Nat):Wd (l.take k):=fun d hd=>h d (List.mem_of_mem_take hd)
theorem Wd.drop {l:List Nat} (h:Wd l) (k:Nat):Wd (l.drop k):=fun d hd=>h d (List.mem_of_mem_drop hd)
theorem eY (l:List Nat) (i:Nat) (hi:i≤l.length):vl l=vl (l.take i)+wp i*vl (l.drop i):=by
 have:=yv (l.take i) (l.drop i);rwa[List.take_append_drop,List.length_take,Nat.min_eq_left hi] at this
theorem k9 {l:List Nat} {i d:Nat} (hi:l[i]? = some d):vl (l.drop i)=d+18446744073709551616*vl (l.drop (i+1)):=by
 obtain⟨h1,h2⟩:=List.getElem?_eq_some_iff.1 hi;rw[List.drop_eq_getElem_cons h1,fo,h2]
theorem EL {l:List Nat} {i d:Nat} (e:Nat) (hi:l[i]? = some d):vl (l.set i e)+wp i*d=vl l+wp i*e:=by
 obtain⟨h1,h2⟩:=List.getElem?_eq_some_iff.1 hi;have a:=eY l i (Nat.le_of_lt h1);have b:=eY (l.set i e) i (by rw[List.length_set]; exact Nat.le_of_lt h1)
 have c:(l.set i e)[i]? = some e:=by rw[List.getElem?_set_self h1]
 rw[k9 hi] at a;rw[k9 c,List.take_set_of_le (Nat.le_refl i),List.drop_set_of_lt (show i<i+1 from Nat.lt_succ_self i)] at b
 rw[a,b,Nat.mul_add,Nat.mul_add];omega
structure Lg (z:Int) (s:Bool) (l:List Nat):Prop where
 wd:Wd l
 last:∀d,l.getLast? = some d→d≠0
 val:z=if s then -(vl l:Int) else(vl l:Int)
 sign:s=true→l≠[]
theorem ue {l:List Nat} (h:∀d,l.getLast? = some d→d≠0) (hl:l≠[]):wp (l.length-1)≤vl l:=by
 obtain⟨a,d,rfl⟩:∃a d,l=a++[d]:=⟨l.dropLast,l.getLast hl,(List.dropLast_concat_getLast hl).symm⟩;have h1:=h d (by simp)
 rw[yv,List.length_append,List.length_singleton,Nat.add_sub_cancel,fo,kv];have:wp a.length*1≤wp a.length*(d+18446744073709551616*0):=Nat.mul_le_mul_left _ (by omega)
 omega
theorem jx {l:List Nat} (h:∀d,l.getLast? = some d→d≠0):vl l=0↔l = []:=by
 refine⟨fun h1=>?_,fun h1=>by rw[h1]; rfl⟩
 by_cases hl:l = []
 ·exact hl
 ·have:=ue h hl;have:=Ez (l.length-1);omega
theorem sK {d:Nat} {l:List Nat} (h:∀e,(d::l).getLast? = some e→e≠0):∀e,l.getLast? = some e→e≠0:=by
 intro e he;cases l with
 | nil=>cases he
 | cons a l=>exact h e (by rw[List.getLast?_cons_cons]; exact he)
theorem Fb:∀{l k:List Nat},Wd l→Wd k→(∀d,l.getLast? = some d→d≠0)→(∀d,k.getLast? = some d→d≠0)→vl l=vl k→l=k:=by
 intro l
 induction l with
 | nil=>intro k _ _ _ hk h; exact((jx hk).1 h.symm).symm
 | cons d l ih =>
  intro k wl wk hl hk h;cases k with
  | nil=>exact absurd ((jx hl).1 h) (by simp)
  | cons e k =>
   have h1:=wl d List.mem_cons_self;have h2:=wk e List.mem_cons_self;rw[fo,fo] at h;have h3:d=e:=by omega
   have h4:vl l=vl k:=by omega
   rw[h3,ih (fun x hx=>wl x (List.mem_cons_of_mem _ hx)) (fun x hx=>wk x (List.mem_cons_of_mem _ hx)) (sK hl) (sK hk) h4]
theorem Lg.inj {z:Int} {s t:Bool} {l k:List Nat} (h:Lg z s l) (h':Lg z t k):s=t∧l=k:=by
 have a:=h.val;have b:=h'.val;have hz:=jx h.last;have hz':=jx h'.last;have e:vl l=vl k:=by
  cases s<;>cases t<;>simp only[Bool.false_eq_true,if_false,if_true] at a b<;>omega
 have e':=Fb h.wd h'.wd h.last h'.last e;refine⟨?_,e'⟩;subst e';cases s<;>cases t<;>simp only[Bool.false_eq_true,if_false,if_true] at a b
 ·rfl
 ·exact absurd (hz.1 (by omega)) (h'.sign rfl)
 ·exact absurd (hz.1 (by omega)) (h.sign rfl)
 ·rfl
def wQ (s:Bool) (x:Nat):Int:=if s then -(x:Int) else(x:Int)
theorem Lg.zero:Lg 0 false []:={ wd:=Wd.nil,last:=fun _ h=>(nomatch h),val:=rfl,sign:=fun h=>(nomatch h)}
theorem Lg.small {x:Nat} (h0:x≠0) (h:x<18446744073709551616) (s:Bool):Lg (wQ s x) s [x]:=⟨Wd.one h,fun d hd=>by simp at hd; omega,by simp[wQ,vl],fun _=>by simp⟩
theorem Lg.BS {z:Int} {s:Bool} {l:List Nat} (h:Lg z s l):s=decide (z<0):=by
 have a:=h.val;have hz:=jx h.last;cases s with
 | false=>simp only[Bool.false_eq_true,if_false] at a; rw[decide_eq_false (by omega)]
 | true =>
  simp only[if_true] at a;have:vl l≠0:=fun e=>h.sign rfl (hz.1 e);rw[decide_eq_true (by omega)]
theorem Lg.abs {z:Int} {s:Bool} {l:List Nat} (h:Lg z s l):vl l=z.natAbs:=by
 have a:=h.val;cases s<;>simp only[Bool.false_eq_true,if_false,if_true] at a<;>omega
theorem Lg.NT {z:Int} {s:Bool} {l:List Nat} (h:Lg z s l):l = []↔z=0:=by
 rw[←jx h.last,h.abs]; omega
theorem Lg.MP {z:Int} {s:Bool} {l:List Nat} (h:Lg z s l) (hz:z≠0) (hb:z.natAbs<18446744073709551616):l = [z.natAbs]:=by
 have hl:l≠[]:=fun e=>hz (h.NT.1 e);exact Fb h.wd (Wd.one hb) h.last (fun d hd=>by simp at hd; omega) (by rw[h.abs]; simp[vl])
theorem iq {n:Nat} (s:Bool) {l:List Nat} (hl:Wd l) (hb:l.length<4611686018427387904) (hn:l.length<n) :
  ∃t k,kg n s l=some (t,k)∧Lg (wQ s (vl l)) t k:=by
 have hL:∀i m,i≤l.length→i<m→vl (l.drop i)=0→∃j,bX (ez n l) m ((i:Nat):Int)=some ((j:Nat):Int)∧j≤l.length∧vl (l.drop j)=0∧∀d,(l.take j).getLast? = some d→d≠0:=by
  intro i
  induction i with
  | zero =>
   intro m _ hm h0;obtain⟨m,rfl⟩:∃m',m=m'+1:=⟨m-1,by omega⟩
   refine⟨0,bu ?_,Nat.zero_le _,h0,fun d hd=>by simp at hd⟩
   unfold ez;rw[bt (by decide)]; rfl
  | succ i ih =>
   intro m hi hm h0;obtain⟨m,rfl⟩:∃m',m=m'+1:=⟨m-1,by omega⟩
   have hi':i<l.length:=hi;have e0:IntKind.wrap .i64 (((i+1:Nat):Int)-1)=((i:Nat):Int):=by rw[bz (by omega) (by omega)]; omega
   have e1:l[((i:Nat):Int).toNat]? = some l[i]:=by simp[hi']
   have e2:l[i]? = some l[i]:=by simp[hi']
   by_cases hz:l[i]=0
   ·have:ez n l ((i+1:Nat):Int)=some (.inl ((i:Nat):Int)):=by
     unfold ez;rw[bC (by omega),e0,aG hi',aW,e1,ai,ai,bC hz]
    rw[az this];exact ih m (Nat.le_of_lt hi') (by omega) (by rw[k9 e2,hz,h0])
   ·refine⟨i+1,bu ?_,hi,h0,fun d hd=>?_⟩
    ·unfold ez;rw[bC (by omega),e0,aG hi',aW,e1,ai,ai,bt hz]
    ·rw[List.getLast?_eq_getElem?,List.length_take,Nat.min_eq_left hi,Nat.add_sub_cancel,List.getElem?_take_of_lt (Nat.lt_succ_self i),e2] at hd;cases hd;exact hz
 obtain⟨j,h1,h2,h3,h4⟩:=hL l.length n (Nat.le_refl _) hn (by rw[List.drop_length]; rfl)
 have hv:vl l=vl (l.take j):=by rw[eY l j h2,h3]; omega
 have hk:okB 0 ((j:Nat):Int) l.length=true:=decide_eq_true ⟨by omega,by omega,by omega⟩
 have ht:(l.drop (0:Int).toNat).take (((j:Nat):Int).toNat-(0:Int).toNat)=l.take j:=by simp
 have hz:=jx h4;unfold kg;rw[h1,ai];cases s with
 | false =>
  refine⟨false,l.take j,?_,hl.take j,h4,?_,fun h=>nomatch h⟩
  ·rw[dX,hk,aW,ht]
  ·rw[hv]; rfl
 | true =>
  refine⟨decide (0<((j:Nat):Int)),l.take j,?_,hl.take j,h4,?_,fun h e=>?_⟩
  ·rw[dJ,hk,aW,ht]
  ·rw[hv]
   by_cases hj:0<((j:Nat):Int)
   ·rw[decide_eq_true hj]; rfl
   ·have:j=0:=by omega
    subst this
    rfl
  ·have h5:=of_decide_eq_true h;have:=congrArg List.length e;rw[List.length_take,Nat.min_eq_left h2] at this;simp at this;omega
theorem sG (l:List Nat) (i:Nat):∃y,vl (l.drop i)=y+18446744073709551616*vl (l.drop (i+1))∧(Wd l→y<18446744073709551616) ∧
  (br (decide (((i:Nat):Int)<(l.length:Int))) (gd (bL ((i:Nat):Int) l.length) (ob (l[((i:Nat):Int).toNat]?) fun x=>some x)) (some 0))=some y:=by
 by_cases h:i<l.length
 ·have e2:l[i]? = some l[i]:=by simp[h]
  exact⟨l[i],k9 e2,fun w=>w.at e2,by rw[bC (by omega),aG h,aW,Int.toNat_natCast,e2]; rfl⟩
 ·refine⟨0,?_,fun _=>by decide,by rw[bt (by omega)]⟩
  rw[List.drop_eq_nil_of_le (by omega),List.drop_eq_nil_of_le (by omega)]; rfl
theorem wX {a:List Nat} {k e d:Nat}:(a++e::List.replicate k 0).set a.length d=(a++[d])++List.replicate k 0:=by
 rw[List.set_append_right _ _ (Nat.le_refl _),Nat.sub_self,List.set_cons_zero,List.append_assoc]; rfl
theorem pc (a:List Nat) (d:Nat):vl (a++[d])=vl a+wp a.length*d:=by rw[yv,fo,kv]; rfl
theorem HU {n:Nat} {l k:List Nat} (hl:Wd l) (hk:Wd k) (hb:l.length<1073741824) (hb':k.length<1073741824) (hn:l.length<n) (hn':k.length<n) :
  ∃r,Df n l k=some r∧Wd r∧vl r=vl l+vl k∧r.length≤l.length+k.length+1:=by
 have key:∀a b:List Nat,Wd a→Wd b→a.length<1073741824→b.length≤a.length→a.length<n→∃r,(gd (decide (0≤IntKind.wrap .i64 ((a.length:Int)+1))) (gd (kZ ((IntKind.wrap .i64 ((a.length:Int)+1)).toNat)) (
   ob (bX (lL n a b) n ((List.replicate (IntKind.wrap .i64 ((a.length:Int)+1)).toNat (0:Nat)),(IntKind.wrap .i64 ((a.length:Int)+1)).toNat,0,0)) fun(l1,n1,v0) =>
   gd (bL (a.length:Int) n1) (ob (l1[(a.length:Int).toNat]?) fun x3=>some (l1.set ((a.length:Int).toNat) v0)))))=some r∧Wd r∧vl r=vl a+vl b∧r.length=a.length+1:=by
  intro a b ha h4 hba hab hna;have w1:IntKind.wrap .i64 ((a.length:Int)+1)=((a.length+1:Nat):Int):=by rw[bz (by omega) (by omega)]; rfl
  have hL:∀j i m p c,i+j=a.length→j<m→p.length=i→Wd p→c≤1→vl p+wp i*(c+vl (a.drop i)+vl (b.drop i))=vl a+vl b →
    ∃q c',bX (lL n a b) m (p++List.replicate (j+1) 0,a.length+1,c,((i:Nat):Int))=some (q++[0],a.length+1,c')∧q.length=a.length∧Wd q∧c'≤1∧vl q+wp a.length*c'=vl a+vl b:=by
   intro j
   induction j with
   | zero =>
    intro i m p c hij hm hp wp' hc hv;obtain⟨m,rfl⟩:∃m',m=m'+1:=⟨m-1,by omega⟩
    have hi:i=a.length:=by omega
    refine⟨p,c,bu ?_,by omega,wp',hc,?_⟩
    ·unfold lL
     dsimp only
     rw[bt (by omega)]; rfl
    ·subst hi;rw[List.drop_length,List.drop_eq_nil_of_le (by omega),kv] at hv
     simpa using hv
   | succ j ih =>
    intro i m p c hij hm hp wp' hc hv;obtain⟨m,rfl⟩:∃m',m=m'+1:=⟨m-1,by omega⟩
    have hi:i<a.length:=by omega
    obtain⟨x,e0⟩:∃x,a[i]? = some x:=⟨a[i],by simp[hi]⟩
    have hx:=ha.at e0;obtain⟨y,y1,y2,y3⟩:=sG b i;have y2:=y2 h4;have e1:(p++List.replicate (j+1+1) 0)[((i:Nat):Int).toNat]? = some 0:=by
     rw[Int.toNat_natCast,List.getElem?_append_right (by omega),List.getElem?_replicate]; simp; omega
    have st:lL n a b (p++List.replicate (j+1+1) 0,a.length+1,c,((i:Nat):Int))=some (.inl ((p++[(x+y+c)%18446744073709551616])++List.replicate (j+1) 0,a.length+1,(x+y+c)/18446744073709551616,((i+1:Nat):Int))):=by
     unfold lL
     dsimp only
     rw[bC (by omega),aG hi,aW,Int.toNat_natCast,e0,ai]
     rw[Int.toNat_natCast] at y3 e1;rw[y3,ai];unfold mN;rw[cK hc,ai]
     dsimp only
     rw[aG (show i<a.length+1 by omega),aW,e1,ai,bY (by omega),←hp,List.replicate_succ,wX]
    rw[az st];refine ih (i+1) m _ _ (by omega) (by omega) (by rw[List.length_append,hp]; rfl) (wp'.app (Wd.one (Nat.mod_lt _ (by decide)))) (by omega) ?_
    rw[←hv,pc,hp,gY,k9 e0,y1];have h1:∀s:Nat,s=s%18446744073709551616+18446744073709551616*(s/18446744073709551616):=fun s=>(Nat.mod_add_div s _).symm;have h0:=h1 (x+y+c);generalize (x+y+c)%18446744073709551616=lo at h0 ⊢;generalize (x+y+c)/18446744073709551616=hi' at h0 ⊢;have h2:c+(x+18446744073709551616*vl (a.drop (i+1)))+(y+18446744073709551616*vl (b.drop (i+1)))=lo+18446744073709551616*(hi'+vl (a.drop (i+1))+vl (b.drop (i+1))):=by omega
    rw[h2,Nat.mul_add (wp i),Nat.mul_left_comm (wp i),←Nat.mul_assoc,Nat.add_assoc,Nat.add_assoc]
  obtain⟨q,c',h1,h0,h2,h3,h5⟩:=hL a.length 0 n [] 0 (by omega) hna rfl Wd.nil (by omega) (by simp[vl,wp])
  refine⟨q++[c'],?_,h2.app (Wd.one (by omega)),by rw[pc,h0,h5],by rw[List.length_append,h0]; rfl⟩
  rw[w1,cK (by omega)]
  have hlim:kZ ((a.length+1:Nat):Int).toNat=true:=gD (by omega)
  rw[hlim,aW,Int.toNat_natCast];rw[show(List.replicate (a.length+1) (0:Nat),a.length+1,(0:Nat),(0:Int))=(([]:List Nat)++List.replicate (a.length+1) 0,a.length+1,0,((0:Nat):Int)) from rfl,h1,ai]
  dsimp only
  rw[aG (Nat.lt_succ_self _),aW,Int.toNat_natCast,←h0,List.getElem?_append_right (Nat.le_refl _),Nat.sub_self];rw[show([0]:List Nat)[0]? = some 0 from rfl,ai,List.set_append_right _ _ (Nat.le_refl _),Nat.sub_self]
  rfl
 unfold Df
 by_cases h:l.length<k.length
 ·rw[bC (by omega),ai]
  obtain⟨r,h1,h0,h2,h3⟩:=key k l hk hl hb' (Nat.le_of_lt h) hn';exact⟨r,h1,h0,by omega,by omega⟩
 ·rw[bt (by omega),ai]
  obtain⟨r,h1,h0,h2,h3⟩:=key l k hl hk hb (by omega) hn
  exact⟨r,h1,h0,h2,by omega⟩
end Go.Proofs.YtookeaakpiefjaaGreatDoor
end
