/- A part of the proof. -/
import Derived.Test.YtpkadoocdgdcfaaGreatDoorKa6
import Derived.Test.YtpkadoocdgdcfaaGreatDoorRows
import Derived.Test.YtpkadoocdgdcfaaGreatDoorTie
import Derived.Test.YtpkadoocdgdcfaaGreatDoorCards
import Derived.Stop.Joined
import Derived.SevenTiedAt
set_option linter.all false
namespace Go.Proofs.YtpkadoocdgdcfaaGreatDoor
section
open Go Go.Ab Go.Ab.W
set_option maxRecDepth 10000
set_option maxHeartbeats 4000000
attribute [local irreducible] Wo Wk At Wn Od Ox bt bf
attribute [local irreducible] Tm.at Trie.set Trie.get V7.get V7.set V7.alloc V7.ww V7.kill
def C1{n x1 l2 x6 l7 a3 c4 a8 c9 r}(hF:Eu n x1 l2 x6 l7=some r)(m)(h5:cV m a3 c4 l2)(h10:cV m a8 c9 l7):
 aB al 186 [eA x1 a3 l2 c4,eA x6 a8 l7 c9] m (V6 m (.int .i64 r)):=by
 unfold Eu at hF;refine cw Tryz.func186 (VO (VO (VG m) bS h5) (dw bS) h10) ?_;refine wz ?_;refine wb fun b11=>?_;refine wb fun b12=>?_;refine az ?_;obtain⟨⟨r14,l15⟩,h13,hF⟩:=aa hF;refine wv gn (fun m hm=>CI h13 m hm.aj (hm.q 3) (hm.no 3) (hm.q 2) (hm.no 2)) ?_;rintro⟨a16,c17,n18⟩;refine VJ (k:=0) rfl ?_;rintro rfl;refine wa gI fun b19=>?_;refine az ?_;rcases ah hF with⟨h20,hF⟩|⟨h20,hF⟩;refine az ?_;cases hF;exact ar () [];refine az ?_;rcases ah hF with⟨h21,hF⟩|⟨h21,hF⟩;refine az ?_;cases hF;exact ar () [];refine fA ?_;cases hF;exact ar () []
def J5{n x1 l2 x6 l7 x11 l12 x16 l17 a3 c4 a8 c9 a13 B5 a18 c19 r}(hF:IZ n x1 l2 x6 l7 x11 l12 x16 l17=some r)(m)(h5:cV m a3 c4 l2)(h10:cV m a8 c9 l7)(h15:cV m a13 B5 l12)(h20:cV m a18 c19 l17):
 aB al 108 [oz x1 a3 l2 c4 x6 a8 l7 c9,oz x11 a13 l12 B5 x16 a18 l17 c19] m (V6 m (.int .i64 r)):=by
 unfold IZ at hF;refine cw Tryz.func108 (VO (VO (VO (VO (VG m) bS h5) (dw bS) h10) (dw (dw bS)) h15) (dw (dw (dw bS))) h20) ?_;refine wz ?_;refine wb fun b21=>?_;refine wb fun b22=>?_;refine wz ?_;refine VC<|VW (prs:=[(4,6),(4,8)]) (by kernel_rfl)<|VD (bN (r:=ptr b21 0) rfl (kB _ _)) rfl<|VD (bh (k:=1) bM rfl rfl rfl) rfl<|VD (bN (r:=ptr b22 2) rfl (gV _ _)) rfl<|VD (bh (k:=0) bM rfl rfl rfl) rfl ?_
 obtain⟨⟨r24,l25⟩,h23,hF⟩:=aa hF;refine nv gn (fun m hm=>nE h23 m hm.aj (hm.q 5) (hm.no 5) (hm.q 2) (hm.no 2)) ?_;rintro⟨a26,c27,n28⟩;refine VK (k:=0) rfl ?_;rintro rfl;refine VD (bN (r:=ptr b22 0) rfl (kB _ _)) rfl<|VD (bh (k:=1) bM rfl rfl rfl) rfl<|VD (bN (r:=ptr b21 2) rfl (gV _ _)) rfl<|VD (bh (k:=2) bM rfl rfl rfl) rfl ?_;obtain⟨⟨r30,l31⟩,h29,hF⟩:=aa hF;refine nv gn (fun m hm=>nE h29 m hm.aj (hm.q 4) (hm.no 4) (hm.q 5) (hm.no 5)) ?_;rintro⟨a32,c33,n34⟩;refine VK (k:=0) rfl ?_;rintro rfl;obtain⟨r36,h35,hF⟩:=aa hF;refine nc gn (fun m hm=>C1 h35 m (hm.q 1) (hm.q 0)) ?_;rintro⟨⟩;refine VD (cZ rfl) rfl<|VS (fun m hm=>gi.all rfl) ?_;refine az ?_;obtain rfl:=S3 hF;exact ar () []
def Eh{n l1 a0 c0 r}(hF:tY n l1=some r)(m)(h4:zP m a0 c0 l1):
 aB al 130 [aZ a0 l1 c0] m (V6 m (.bool r)):=by
 unfold tY at hF;refine cw Tryz.func130 (VO (VG m) bS h4) ?_;refine az ?_;obtain⟨⟨r1,l8,r3,l9⟩,h5,hF⟩:=aa hF;refine qa gn (fun m hm=>Ef h5 m hm.aj) ?_;rintro⟨a5,c5,n2,a6,B5,n3⟩;refine VJ (k:=0) rfl ?_;rintro rfl;refine VJ (k:=1) rfl ?_;rintro rfl;refine wa qf fun b0=>?_;refine az ?_;refine VF ?_;obtain⟨r0,h0,hF⟩:=aa hF;refine ct (fun(r:WC ⊕(Bool×WB (Int)×Bool×WB (Int))) (g:Vq×Nat×Vq×Nat)=>match r,g with|.inl _,(_,_,_,_)=>⟨.ret,[(2,.bool false)],[]⟩|.inr (v0,l2,v1,l3),(a3,c3,a4,c4)=>⟨(.exit 0),[(3,ptr b0 0)],[tW b0 v0 a3 l2 c3 v1 a4 l3 c4,dT a3 c3 l2,dT a4 c4 l3]⟩) r0 ?_ ?_
 refine lo h0 (a5,c5,a6,B5) [3,0,1,2] (fun(v2,l4,v3,l7,v4) ((a1,c1,a2,c2):Vq×Nat×Vq×Nat)=>⟨.normal,[(0,aZ a0 l1 c0),(3,ptr b0 0),(4,aQ v4)],[jL a0 c0 l1,tW b0 v2 a1 l4 c1 v3 a2 l7 c2,dT a1 c1 l4,dT a2 c2 l7]⟩) ?_;clear hF h0;rintro⟨v2,l4,v3,l7,v4⟩ ⟨a1,c1,a2,c2⟩ r hF;unfold lu at hF;refine wz ?_;rcases ah hF with⟨h6,hF⟩|⟨h6,hF⟩;refine az ?_;obtain⟨h7,hF⟩:=bU hF;refine VP (k:=0) rfl (aG h7) ?_;rintro b1 o3 rfl;refine wz ?_;obtain⟨⟨x3,x4,x5,x6,x7,x8,x9,x10,x11,x12,x14,x15,x16,x17,x18,x19⟩,h13,hF⟩:=aa hF;refine wz ?_;obtain⟨⟨r4,l10,r5,l11⟩,h8,hF⟩:=aa hF;refine qa gn (fun m hm=>yd h8 m hm.aj) ?_;rintro⟨a9,c8,n5,a10,c9,n7⟩;refine VJ (k:=0) rfl ?_;rintro rfl;refine VJ (k:=1) rfl ?_;rintro rfl;refine wa qf fun b2=>?_;refine az ?_;rcases ah hF with⟨h9,hF⟩|⟨h9,hF⟩;refine az ?_;cases hF;exact ae (none,0,none,0) [];refine az ?_;obtain⟨⟨r6,l12,r7,l13⟩,h10,hF⟩:=aa hF;refine qa gn (fun m hm=>DA h10 m hm.aj (hm.q 6) (hm.no 6) (hm.q 7) (hm.no 7) (hm.q 1) (hm.no 1) (hm.q 2) (hm.no 2)) ?_;rintro⟨a7,c6,n8,a8,c7,n9⟩;refine VJ (k:=0) rfl ?_;rintro rfl;refine VJ (k:=1) rfl ?_;rintro rfl;refine az ?_;cases hF;exact ae (a7,c6,a8,c7) [6,7,0,1];refine wz ?_;cases hF;exact ae (a1,c1,a2,c2) [1,2,3];rcases r0 with _|⟨v0,l2,v1,l3⟩;rintro⟨g0,g1,g2,g3⟩;refine wz ?_;cases hF;exact ar () [];rintro⟨a3,c3,a4,c4⟩;refine wz ?_;refine VC<|VW (prs:=[(0,1)]) (by kernel_rfl)<|VD (bh (k:=0) jq rfl rfl rfl) rfl ?_
 obtain⟨⟨r8,l14,r9,l15⟩,h11,hF⟩:=aa hF;refine FU gn (fun m hm=>wQ h11 m hm.aj) ?_;rintro⟨a11,c10,n10,a12,c11,n11⟩;refine VK (k:=0) rfl ?_;rintro rfl;refine VK (k:=1) rfl ?_;rintro rfl;obtain⟨r10,h12,hF⟩:=aa hF;refine nc gn (fun m hm=>J5 h12 m (hm.q 3) (hm.q 4) (hm.q 0) (hm.q 1)) ?_;rintro⟨⟩;refine VD (aN rfl rfl (oV _ _ _)) rfl<|VD (cZ rfl) rfl<|VS (fun m hm=>gi.all rfl) ?_;refine az ?_;cases hF;exact ar () []
def GV{n l1 a0 c0}{r0:Vr}{e0:Vp}{r}(hF:Mm n l1=some r)(m)(h8:s8 m a0 c0 l1 e0)(h9:(ef aK r0 l1 e0).P m):
 aB al 40 [aZ a0 l1 c0] m (V6 m (.bool r)):=by
 unfold Mm at hF;refine cw Tryz.func40 (Hp.ub (VO (VG m) bS h8) (dw bS) h9) ?_;refine wz ?_;refine VC<|VC ?_;obtain⟨v1,h10,hF⟩:=aa hF;refine ct (fun v1 (_:WC)=>⟨.normal,[(0,aZ a0 l1 c0),(11,bY v1)],(dP a0 c0 l1 e0 aK r0 [])⟩) v1 ?_ ?_;clear hF;revert v1;intro r hF;refine wz ?_;rcases ah hF with⟨h11,hF⟩|⟨h11,hF⟩;refine wz ?_;cases hF;exact ae () [1,0];refine wz ?_;cases hF;exact ae () [1,0];rintro⟨⟩;refine VI ?_;rcases ah hF with⟨h12,hF⟩|⟨h12,hF⟩;refine az ?_;cases hF;exact ar () [];refine az ?_;refine VF ?_;obtain⟨r1,h0,hF⟩:=aa hF;refine ct (fun(r:WC⊕WC) (g:WC)=>match r,g with|.inl _,_=>⟨.ret,[(2,.bool false)],[]⟩|.inr _,_=>⟨(.exit 0),[],[]⟩) r1 ?_ ?_
 refine lo h0 () [0,1] (fun v0 _=>⟨.normal,[(0,aZ a0 l1 c0),(3,aQ v0)],(dP a0 c0 l1 e0 aK r0 [])⟩) ?_;clear hF h0;rintro v0 ⟨⟩ r hF;unfold kR at hF;refine wz ?_;rcases ah hF with⟨h13,hF⟩|⟨h13,hF⟩;refine wz ?_;refine VC<|VF<|VC ?_;obtain⟨v2,h14,hF⟩:=aa hF;refine ct (fun v2 (_:WC)=>⟨.normal,[(0,aZ a0 l1 c0),(3,aQ v0),(41,bY v2)],(dP a0 c0 l1 e0 aK r0 [])⟩) v2 ?_ ?_;clear hF;revert v2;intro r hF;refine wz ?_;obtain⟨h15,hF⟩:=bU hF;refine VP (k:=0) rfl (aG h15) ?_;rintro b0 o3 rfl;refine wz ?_;obtain⟨l2,h5,hF⟩:=aa hF;refine wl 1 0 2 0 h5 ?_;rintro⟨a1,c1⟩;refine wz ?_;rcases ah hF with⟨h6,hF⟩|⟨h6,hF⟩;refine wz ?_;cases hF;exact ae () [2,3];refine wz ?_;obtain⟨h19,hF⟩:=bU hF;refine wz ?_;refine VN (LQ (w:=1) (j:=v0.toNat) (c:=0) (q:=3) pv rfl rfl (uK (k:=1) rfl) rfl h5 (fun _=>rfl) rfl (fun _=>rfl)) (gg rfl rfl (sj h6)) rfl ?_;rintro⟨a2,c2⟩;obtain⟨r3,h16,hF⟩:=aa hF;refine wc (gg rfl rfl (sj h6)) (fun m hm=>D0 h16 m (hm.q 0)) ?_;rintro⟨⟩;refine wz ?_;rcases ah hF with⟨h7,hF⟩|⟨h7,hF⟩;refine wz ?_;cases hF;exact ae () [3,4];refine wz ?_;obtain⟨h20,hF⟩:=bU hF;refine wz ?_;refine VN (LQ (w:=1) (j:=v0.toNat) (c:=0) (q:=4) pv rfl rfl (uK (k:=2) rfl) rfl h5 (fun _=>rfl) rfl (fun _=>rfl)) (gg rfl rfl (sj h7)) rfl ?_;rintro⟨a3,c3⟩;obtain⟨r4,h17,hF⟩:=aa hF;refine wc (gg rfl rfl (sj h7)) (fun m hm=>Eh h17 m (hm.q 0)) ?_;rintro⟨⟩;refine wz ?_;cases hF;exact ae () [4,5];rintro⟨⟩;refine VI ?_;rcases ah hF with⟨h18,hF⟩|⟨h18,hF⟩;refine az ?_;cases hF;exact ae () [];refine az ?_;cases hF;exact ae () [0,1];refine wz ?_;cases hF;exact ae () [];rcases r1 with _|_;rintro⟨⟩;refine wz ?_;cases hF;exact ar () [];rintro⟨⟩;refine fA ?_;cases hF;exact ar () []
def KJ{n x1 x2 x3 x4 x5 x6 x7 x8 r}(hF:G8 n x1 x2 x3 x4 x5 x6 x7 x8=some r)(m):
 aB al 191 [yh x1 x2 x3 x4 x5 x6 x7 x8] m (V6 m (.int .i64 r)):=by
 unfold G8 at hF;refine cw Tryz.func191 (VG m) ?_;refine wz ?_;refine wb fun b9=>?_;refine az ?_;obtain⟨⟨r11,l12⟩,h10,hF⟩:=aa hF;refine wv gn (fun m hm=>tu h10 m hm.aj) ?_;rintro⟨a13,B5,n15⟩;refine VJ (k:=0) rfl ?_;rintro rfl;refine VB (eY rfl gI rfl (eX yD rfl rfl rfl)) rfl ?_;obtain⟨r17,h16,hF⟩:=aa hF;refine wc gn (fun m hm=>C1 h16 m (hm.q 0) (Rd.nil _ _)) ?_;rintro⟨⟩;refine az ?_;obtain rfl:=S3 hF;exact ar () []
def Dm{n l1 x4 x3 a0 c0}{r0:Vr}{e0:Vp}{r}(hF:EZ n l1 x4 x3=some r)(m)(h8:s8 m a0 c0 l1 e0)(h9:(ef aK r0 l1 e0).P m):
 aB al 124 [aZ a0 l1 c0,aQ x4,aQ x3] m (V6 m (.bool r)):=by
 unfold EZ at hF;refine cw Tryz.func124 (Hp.ub (VO (VG m) bS h8) (dw bS) h9) ?_;refine az ?_;obtain⟨h10,hF⟩:=ax hF;obtain⟨h11,hF⟩:=ax hF;refine VN (jb (f:=eB) (z0:=(false:Bool)) P3 rfl h10 h11 z4 rfl rfl) gn rfl fun b0=>?_;refine az ?_;obtain⟨h24,hF⟩:=bU hF;refine wz ?_;obtain⟨x5,h12,hF⟩:=aa hF;refine VV (cX (k:=0) (x1:=x5) (x2:=true) xH rfl rfl rfl h12 rfl) ?_;refine az ?_;refine VF ?_;obtain⟨l3,h0,hF⟩:=aa hF;refine ct (fun l3 (_:WC)=>⟨(.exit 0),[(2,aQ x3),(7,kO b0 l1)],[Ak b0 l1 l3]⟩) l3 ?_ ?_;refine lo h0 () [2,1,0] (fun(l9,v0) _=>⟨.normal,(Og a0 l1 c0 x3 b0 v0 []),(dP a0 c0 l1 e0 aK r0 [Ak b0 l1 l9])⟩) ?_;clear hF h0;rintro⟨l9,v0⟩ ⟨⟩ r hF;unfold pH at hF;refine wz ?_;rcases ah hF with⟨h13,hF⟩|⟨h13,hF⟩;refine az ?_;refine VF ?_;obtain⟨l4,h5,hF⟩:=aa hF;refine ct (fun l4 (_:WC)=>⟨(.exit 2),(Og a0 l1 c0 x3 b0 v0 []),(dP a0 c0 l1 e0 aK r0 [Ak b0 l1 l4])⟩) l4 ?_ ?_;refine lo h5 () [0,1,2] (fun(l10,v1) _=>⟨.normal,(Og a0 l1 c0 x3 b0 v0 [(9,aQ v1)]),(dP a0 c0 l1 e0 aK r0 [Ak b0 l1 l10])⟩) ?_;clear hF h5;rintro⟨l10,v1⟩ ⟨⟩ r hF;unfold pj at hF;refine wz ?_;rcases ah hF with⟨h14,hF⟩|⟨h14,hF⟩;refine az ?_;refine VF ?_;obtain⟨l7,h6,hF⟩:=aa hF;refine ct (fun l7 (_:WC)=>⟨(.exit 4),(Og a0 l1 c0 x3 b0 v0 [(9,aQ v1)]),(dP a0 c0 l1 e0 aK r0 [Ak b0 l1 l7])⟩) l7 ?_ ?_;refine lo h6 () [0,1,2] (fun(l8,v2) _=>⟨.normal,(Og a0 l1 c0 x3 b0 v0 [(9,aQ v1),(10,aQ v2)]),(dP a0 c0 l1 e0 aK r0 [Ak b0 l1 l8])⟩) ?_;clear hF h6;rintro⟨l8,v2⟩ ⟨⟩ r hF;unfold nG at hF;refine wz ?_;rcases ah hF with⟨h15,hF⟩|⟨h15,hF⟩;refine wz ?_;refine VC ?_;obtain⟨l2,h16,hF⟩:=aa hF;refine ct (fun l2 (_:WC)=>⟨.normal,(Og a0 l1 c0 x3 b0 v0 [(9,aQ v1),(10,aQ v2)]),(dP a0 c0 l1 e0 aK r0 [Ak b0 l1 l2])⟩) l2 ?_ ?_;clear hF;revert l2;intro r hF;refine VF<|VC ?_;obtain⟨v3,h17,hF⟩:=aa hF;refine ct (fun v3 (_:WC)=>⟨.normal,(Og a0 l1 c0 x3 b0 v0 [(9,aQ v1),(10,aQ v2),(50,bY v3)]),(dP a0 c0 l1 e0 aK r0 [Ak b0 l1 l8])⟩) v3 ?_ ?_;clear hF;revert v3;intro r hF;refine wz ?_;obtain⟨h25,hF⟩:=bU hF;refine wz ?_;obtain⟨x7,h26,hF⟩:=aa hF;refine wz ?_;rcases ah hF with⟨h7,hF⟩|⟨h7,hF⟩;refine wz ?_;obtain⟨h18,hF⟩:=bU hF;refine VP (k:=0) rfl (aG h18) ?_;rintro b1 o3 rfl;refine wz ?_;obtain⟨l11,h19,hF⟩:=aa hF;refine VN (LQ (w:=1) (j:=v1.toNat) (c:=0) (q:=2) pv rfl rfl (uK (k:=0) rfl) rfl h19 (fun _=>rfl) rfl (fun _=>rfl)) (gg rfl rfl (Lq h7)) rfl ?_;rintro⟨a1,c1⟩;refine wz ?_;obtain⟨h20,hF⟩:=bU hF;refine VP (k:=0) rfl (aG h20) ?_;rintro b2 o4 rfl;refine wz ?_;obtain⟨⟨x8,x9,x10,x11,x12,x14,x15,x16,x17,x18,x19,x20,x21,x22,x23,x24⟩,h27,hF⟩:=aa hF;refine wz ?_;obtain⟨r1,h21,hF⟩:=aa hF;refine wc (gg rfl rfl (Lq h7)) (fun m hm=>KJ h21 m) ?_;rintro⟨⟩;refine wz ?_;cases hF;exact ae () [3,4,5];refine wz ?_;cases hF;exact ae () [0,1,2];rintro⟨⟩;refine VI ?_;rcases ah hF with⟨h22,hF⟩|⟨h22,hF⟩;refine wz ?_;obtain⟨h28,hF⟩:=bU hF;refine wz ?_;obtain⟨x6,h23,hF⟩:=aa hF;refine VV (cX (k:=2) (x1:=x6) (x2:=true) xH rfl rfl rfl h23 rfl) ?_;refine wz ?_;cases hF;exact ae () [0,1,2];refine wz ?_;obtain rfl:=S3 hF;exact ae () [0,1,2];rintro⟨⟩;refine az ?_;cases hF;exact ae () [0,1,2];refine wz ?_;cases hF;exact ae () [0,1,2];rintro⟨⟩;refine az ?_;cases hF;exact ae () [0,1,2];refine wz ?_;cases hF;exact ae () [0,1,2];rintro⟨⟩;refine az ?_;cases hF;exact ae () [0,1,2];refine wz ?_;cases hF;exact ae () [2];rintro⟨⟩;refine az ?_;obtain⟨h29,hF⟩:=bU hF;refine wz ?_;obtain⟨x25,h30,hF⟩:=aa hF;refine az ?_;obtain rfl:=S3 hF;exact ar () []
def Nw{n l1 a0 c0}{r0:Vr}{e0:Vp}{r}(hF:Oz n l1=some r)(m)(h8:s8 m a0 c0 l1 e0)(h9:(ef aK r0 l1 e0).P m):
 aB al 36 [aZ a0 l1 c0] m (fun v m'=>∃x:Vq×Nat,v=.tuple #[.slice x.1 x.2 x.2,.int .i64 r.2]/\Hp m m' [.sl x.1 1 x.2 (r.1.map (eI .i64))]):=by
 unfold Oz at hF;refine cw Tryz.func36 (Hp.ub (VO (VG m) bS h8) (dw bS) h9) ?_;refine az ?_;obtain⟨r3,h10,hF⟩:=aa hF;refine wc gn (fun m hm=>GV h10 m (hm.q 1) (hm.dp (q:=0) rfl)) ?_;rintro⟨⟩;refine wz ?_;rcases ah hF with⟨h11,hF⟩|⟨h11,hF⟩;refine az ?_;cases hF;exact VH (.tmp rfl (.tmp rfl .nil)) fun m' hm=>⟨(none,0),rfl,(ai.trans (ai.nil 1 rfl) (ai.au [0] rfl rfl)) m' hm⟩;refine QB ?_;refine VF ?_;obtain⟨l3,h0,hF⟩:=aa hF;refine ct (fun l3 (a2:Vq)=>⟨(.exit 0),[(4,cq a2 l3)],[ik a2 l3]⟩) l3 ?_ ?_;refine lw h0 none (fun(l2,v1,v0) a1=>⟨.normal,[(0,aZ a0 l1 c0),(4,cq a1 l2),(5,aQ v1),(6,aQ v0)],(dP a0 c0 l1 e0 aK r0 [ik a1 l2])⟩) (ai.trans (ai.nil 1 rfl) (ai.au [2,1,0] rfl rfl)) ?_;clear hF h0;rintro⟨l2,v1,v0⟩ a1 r hF;unfold s9 at hF;refine wz ?_;rcases ah hF with⟨h12,hF⟩|⟨h12,hF⟩;refine fA ?_;refine VF ?_;obtain⟨v6,h5,hF⟩:=aa hF;refine ct (fun v6 (_:WC)=>⟨(.exit 2),[(0,aZ a0 l1 c0),(4,cq a1 l2),(5,aQ v1),(6,aQ v0),(7,aQ v6)],(dP a0 c0 l1 e0 aK r0 [ik a1 l2])⟩) v6 ?_ ?_;refine lo h5 () [0,1,2] (fun(v7,v2) _=>⟨.normal,[(0,aZ a0 l1 c0),(4,cq a1 l2),(5,aQ v1),(6,aQ v0),(7,aQ v7),(8,aQ v2)],(dP a0 c0 l1 e0 aK r0 [ik a1 l2])⟩) ?_;clear hF h5;rintro⟨v7,v2⟩ ⟨⟩ r hF;unfold ph at hF;refine wz ?_;rcases ah hF with⟨h13,hF⟩|⟨h13,hF⟩;refine wz ?_;refine VC ?_;obtain⟨v3,h14,hF⟩:=aa hF;refine ct (fun v3 (_:WC)=>⟨.normal,[(0,aZ a0 l1 c0),(4,cq a1 l2),(5,aQ v1),(6,aQ v0),(7,aQ v3),(8,aQ v2)],(dP a0 c0 l1 e0 aK r0 [ik a1 l2])⟩) v3 ?_ ?_;clear hF;revert v3;intro r hF;refine VF<|VC ?_;obtain⟨v4,h15,hF⟩:=aa hF;refine ct (fun v4 (_:WC)=>⟨.normal,[(0,aZ a0 l1 c0),(4,cq a1 l2),(5,aQ v1),(6,aQ v0),(7,aQ v7),(8,aQ v2),(36,bY v4)],(dP a0 c0 l1 e0 aK r0 [ik a1 l2])⟩) v4 ?_ ?_;clear hF;revert v4;intro r hF;refine wz ?_;rcases ah hF with⟨h6,hF⟩|⟨h6,hF⟩;refine wz ?_;obtain⟨r4,h16,hF⟩:=aa hF;refine wc (gg rfl rfl (Lq h6)) (fun m hm=>Dm h16 m (hm.q 0) (hm.dp (q:=1) rfl)) ?_;rintro⟨⟩;refine wz ?_;rcases ah hF with⟨h7,hF⟩|⟨h7,hF⟩;refine wz ?_;obtain⟨r5,h17,hF⟩:=aa hF;refine wc (gg rfl rfl (Lq h7)) (fun m hm=>Dm h17 m (hm.q 0) (hm.dp (q:=1) rfl)) ?_;rintro⟨⟩;refine wz ?_;obtain rfl:=S3 hF;exact ae () [0,1,2];refine wz ?_;cases hF;exact ae () [0,1,2];refine wz ?_;cases hF;exact ae () [0,1,2];rintro⟨⟩;refine VI ?_;rcases ah hF with⟨h18,hF⟩|⟨h18,hF⟩;refine wz ?_;obtain⟨h19,hF⟩:=bU hF;refine VZ (k:=2) rfl (aG h19) ?_;rintro b0 t0 rfl h23;refine wz ?_;obtain⟨x3,h24,hF⟩:=aa hF;refine wz ?_;obtain rfl:=S3 hF;exact aT () (ai.trans (ai.close (k:=2) rfl) (ai.au [0,1,2] rfl rfl));refine wz ?_;obtain rfl:=S3 hF;exact ae () [0,1,2];rintro⟨⟩;refine az ?_;cases hF;exact ae () [0,1,2];refine wz ?_;cases hF;exact ae () [0,1,2];rintro⟨⟩;refine wz ?_;refine VC ?_;obtain⟨r1,h20,hF⟩:=aa hF;refine ct (fun(v8,v5) (_:WC)=>⟨.normal,[(0,aZ a0 l1 c0),(4,cq a1 l2),(5,aQ v8),(6,aQ v0),(7,aQ v5)],(dP a0 c0 l1 e0 aK r0 [ik a1 l2])⟩) r1 ?_ ?_;clear hF;revert r1;intro r hF;refine wz ?_;rcases ah hF with⟨h21,hF⟩|⟨h21,hF⟩;refine az ?_;cases hF;exact ae () [0,1,2];refine wz ?_;cases hF;exact ae () [0,1,2];clear h20;obtain⟨v8,v5⟩:=r1;rintro⟨⟩;refine az ?_;refine VN (gy (es:=([v5]:WB (Int)).map (eI .i64)) jz rfl (gB jz z3 rfl rfl) rfl rfl) gn rfl fun b1=>?_;obtain⟨h22,hF⟩:=ax hF;refine VN (jI (k:=3) (k2:=0) (xs:=(l2:WB (Int))) (ys:=([v5]:WB (Int))) (K8 .i64) jz ⟨_,FI⟩ rfl rfl rfl (.arr _ _ _ _ _) h22) gn rfl fun a3=>?_;refine az ?_;cases hF;exact ae a3 [1,2,3];refine wz ?_;cases hF;exact ae a1 [2];rintro a2;refine fA ?_;cases hF;exact ar (a2,l3.length) [0]
def Np{n l1 l5 a2 c3 a6 c7 r}(hF:Qf n l1 l5=some r)(m)(h4:cV m a2 c3 l1)(h8:cV m a6 c7 l5):
 aB al 37 [aZ a2 l1 c3,aZ a6 l5 c7] m (V6 m (.bool r)):=by
 unfold Qf at hF;refine cw Tryz.func37 (VO (VO (VG m) bS h4) (dw bS) h8) ?_;refine az ?_;rcases ah hF with⟨h9,hF⟩|⟨h9,hF⟩;refine az ?_;cases hF;exact ar () [];refine az ?_;refine VF ?_;obtain⟨r38,h37,hF⟩:=aa hF;refine ct (fun(r:WC⊕WC) (g:WC)=>match r,g with|.inl _,_=>⟨.ret,[(4,.bool false)],[]⟩|.inr _,_=>⟨(.exit 0),[],[]⟩) r38 ?_ ?_
 refine lo h37 () [1,0] (fun v11 _=>⟨.normal,(qJ a2 l1 c3 a6 l5 c7 [(12,dn l1),(13,aQ v11)]),[dT a2 c3 l1,dT a6 c7 l5]⟩) ?_;clear hF h37;rintro v11 ⟨⟩ r hF;unfold yU at hF;refine wz ?_;refine VC ?_;rcases ah hF with⟨h25,hF⟩|⟨h25,hF⟩;refine fA ?_;obtain⟨h26,hF⟩:=bU hF;refine VP (k:=0) rfl (aG h26) ?_;rintro b27 o28 rfl;refine wz ?_;obtain⟨x29,h30,hF⟩:=aa hF;refine wz ?_;obtain⟨h31,hF⟩:=bU hF;refine VP (k:=2) rfl (aG h31) ?_;rintro b32 o33 rfl;refine wz ?_;obtain⟨x34,h35,hF⟩:=aa hF;refine wz ?_;rcases ah hF with⟨h36,hF⟩|⟨h36,hF⟩;refine az ?_;cases hF;exact ae () [];refine az ?_;cases hF;exact ae () [2,3];refine wz ?_;cases hF;exact ae () [];rcases r38 with _|_;rintro⟨⟩;refine wz ?_;cases hF;exact ar () [];rintro⟨⟩;refine fA ?_;cases hF;exact ar () []
def Ld{n x1 x2 x3 x4 x5 x6 x7 x8 x9 x10 x11 x12 x13 x14 x15 x16 r}(hF:GZ n x1 x2 x3 x4 x5 x6 x7 x8 x9 x10 x11 x12 x13 x14 x15 x16=some r)(m):
 aB al 126 [Pf x1 x2 x3 x4 x5 x6 x7 x8 x9 x10 x11 x12 x13 x14 x15 x16] m (V6 m (.bool r)):=by
 unfold GZ at hF;refine cw Tryz.func126 (VG m) ?_;refine wz ?_;refine wb fun b17=>?_;refine az ?_;obtain⟨r19,h18,hF⟩:=aa hF;refine wc gn (fun m hm=>DF h18 m) ?_;rintro⟨⟩;refine az ?_;cases hF;exact ar () []
def Kk{n x1 l2 x7 l8 x13 l14 x19 l20 a3 c4 a9 c10 a15 c16 a21 yp r}(hF:H3 n x1 l2 x7 l8 x13 l14 x19 l20=some r)(m){H:Vr}(hH:∀b,H b->b<m.next)(h5:cY m a3 c4 l2)(h6:∀b,dx a3=some b->¬H b)(h11:cY m a9 c10 l8)(h12:∀b,dx a9=some b->¬H b)(h17:cY m a15 c16 l14)(h18:∀b,dx a15=some b->¬H b)(h23:cY m a21 yp l20)(h24:∀b,dx a21=some b->¬H b):
 aB al 104 [oz x1 a3 l2 c4 x7 a9 l8 c10,oz x13 a15 l14 c16 x19 a21 l20 yp] m (fun v m'=>∃x:Vq×Nat×Nat×Vq×Nat×Nat,v=.agg #[.bool r.1,.slice x.1 x.2.2.1 x.2.1,.bool r.2.2.1,.slice x.2.2.2.1 x.2.2.2.2.2 x.2.2.2.2.1]/\Hp m m' [.rd x.1 x.2.1 1 x.2.2.1 (r.2.1.map WK),.rd x.2.2.2.1 x.2.2.2.2.1 1 x.2.2.2.2.2 (r.2.2.2.map WK),aX H]):=by
 unfold H3 at hF;refine cw Tryz.func104 (VM (l0:=[dX a15 c16 l14,dX a9 c10 l8,dX a3 c4 l2]) (VM (l0:=[dX a9 c10 l8,dX a3 c4 l2]) (VM (l0:=[dX a3 c4 l2]) (VM (l0:=[]) (VT m hH) bS h5 h6) (dw bS) h11 h12) (dw (dw bS)) h17 h18) (dw (dw (dw bS))) h23 h24) ?_;refine wz ?_;refine wb fun b25=>?_;refine wb fun b26=>?_;refine wa lh fun b27=>?_;refine wz ?_;refine VC<|VW (prs:=[(4,6),(4,8)]) (by kernel_rfl)<|VD (bN (r:=ptr b25 0) rfl (jr _ _)) rfl<|VD (bh (k:=2) bD rfl rfl rfl) rfl<|VD (bN (r:=ptr b26 0) rfl (jr _ _)) rfl<|VD (bh (k:=1) bD rfl rfl rfl) rfl ?_
 obtain⟨⟨r29,l30⟩,h28,hF⟩:=aa hF;refine nv gn (fun m hm=>nK h28 m hm.aj (hm.q 6) (hm.no 6) (hm.q 4) (hm.no 4)) ?_;rintro⟨a31,c32,n33⟩;refine VK (k:=0) rfl ?_;rintro rfl;refine VD (bN (r:=ptr b25 2) rfl (fC _ _)) rfl<|VD (bh (k:=3) bD rfl rfl rfl) rfl<|VD (bN (r:=ptr b26 2) rfl (fC _ _)) rfl<|VD (bh (k:=2) bD rfl rfl rfl) rfl ?_;obtain⟨⟨r35,l36⟩,h34,hF⟩:=aa hF;refine nv gn (fun m hm=>nK h34 m hm.aj (hm.q 6) (hm.no 6) (hm.q 4) (hm.no 4)) ?_;rintro⟨a37,KF,n39⟩;refine VK (k:=0) rfl ?_;rintro rfl;obtain⟨⟨r41,l42,r46,l47⟩,h40,hF⟩:=aa hF;refine FU gn (fun m hm=>C8 h40 m hm.aj (hm.q 1) (hm.no 1) (hm.q 0) (hm.no 0)) ?_;rintro⟨a43,c44,n45,a48,c49,n50⟩;refine VK (k:=0) rfl ?_;rintro rfl;refine VK (k:=1) rfl ?_;rintro rfl;refine VX (eo (k:=4) fo rfl rfl rfl rfl rfl)<|VS (fun m hm=>gi.all rfl) ?_;refine az ?_;cases hF;exact VH (.cell (k:=4) fo rfl rfl rfl .nil) fun m' hm=>⟨(a43,c44,l42.length,a48,c49,l47.length),rfl,(ai.au [0,1,11] rfl rfl) m' hm⟩
def JW{n x1 x2 x3 x4 x5 x6 x7 x8 x9 x10 x11 x12 x13 x14 x15 x16 r}(hF:HU n x1 x2 x3 x4 x5 x6 x7 x8 x9 x10 x11 x12 x13 x14 x15 x16=some r)(m):
 aB al 235 [yh x1 x2 x3 x4 x5 x6 x7 x8,yh x9 x10 x11 x12 x13 x14 x15 x16] m (V6 m (.int .i64 r)):=by
 unfold HU at hF;refine cw Tryz.func235 (VG m) ?_;refine wz ?_;refine wb fun b17=>?_;refine wb fun b18=>?_;refine az ?_;refine VF ?_;obtain⟨r62,h61,hF⟩:=aa hF;refine ct (fun(r:Int⊕WC) (g:WC)=>match r,g with|.inl v49,_=>⟨.ret,[(4,aQ v49)],[]⟩|.inr _,_=>⟨(.exit 0),[],[]⟩) r62 ?_ ?_
 refine lw h61 () (fun(l32,l33,v34) _=>⟨.normal,[(2,ptr b17 0),(3,ptr b18 0),(5,aQ v34)],[rR b17 l32,rR b18 l33]⟩) (ai.trans (ai.qA (k:=1) (xs:=([x1,x2,x3,x4,x5,x6,x7,x8]:WB (Nat))) (f:=eN .u64) (l:=8) (w:=1) rfl rfl rfl (cz .u64) rfl) (ai.trans (ai.qA (k:=0) (xs:=([x9,x10,x11,x12,x13,x14,x15,x16]:WB (Nat))) (f:=eN .u64) (l:=8) (w:=1) rfl rfl rfl (cz .u64) rfl) (ai.au [1,0] rfl rfl))) ?_;clear hF h61;rintro⟨l32,l33,v34⟩ ⟨⟩ r hF;unfold gJ at hF;refine wz ?_;rcases ah hF with⟨h50,hF⟩|⟨h50,hF⟩;refine az ?_;obtain⟨h51,hF⟩:=bU hF;refine VY (kU mS rfl rfl h51) gn rfl ?_;obtain⟨x52,h53,hF⟩:=aa hF;refine wz ?_;obtain⟨h54,hF⟩:=bU hF;refine VY (kU mS rfl rfl h54) gn rfl ?_;obtain⟨x55,h56,hF⟩:=aa hF;refine wz ?_;rcases ah hF with⟨h57,hF⟩|⟨h57,hF⟩;refine wz ?_;obtain⟨h58,hF⟩:=bU hF;refine VY (kU mS rfl rfl h58) gn rfl ?_;refine wz ?_;obtain⟨h59,hF⟩:=bU hF;refine VY (kU mS rfl rfl h59) gn rfl ?_;refine wz ?_;rcases ah hF with⟨h60,hF⟩|⟨h60,hF⟩;refine az ?_;cases hF;exact ae () [];refine fA ?_;cases hF;exact ae () [];refine az ?_;cases hF;exact ae () [0,1];refine wz ?_;cases hF;exact ae () [];rcases r62 with v49|_;rintro⟨⟩;refine wz ?_;obtain rfl:=S3 hF;exact ar () [];rintro⟨⟩;refine fA ?_;cases hF;exact ar () []
def Lp{n x1 x2 x3 x4 x5 x6 x7 x8 x9 r}(hF:HR n x1 x2 x3 x4 x5 x6 x7 x8 x9=some r)(m):
 aB al 168 [.agg #[bY x1,bI x2,bI x3,bI x4,bI x5,bI x6,bI x7,bI x8,bI x9]] m (V6 m (.tuple #[.agg #[WO r.1,WO r.2.1,WO r.2.2.1,WO r.2.2.2.1,WO r.2.2.2.2.1,WO r.2.2.2.2.2.1,WO r.2.2.2.2.2.2.1,WO r.2.2.2.2.2.2.2.1],.int .i64 r.2.2.2.2.2.2.2.2])):=by
 unfold HR at hF;refine cw Tryz.func168 (VG m) ?_;refine wz ?_;refine wb fun b10=>?_;refine wa Dz fun b11=>?_;refine az ?_;refine VB (eY rfl Hk rfl (eX Hv rfl rfl rfl)) rfl<|wa Hk fun b12=>?_;refine az ?_;obtain⟨r24,h23,hF⟩:=aa hF;refine wc gn (fun m hm=>JW h23 m) ?_;rintro⟨⟩;refine wz ?_;refine VC ?_;obtain⟨v27,h30,hF⟩:=aa hF;refine ct (fun v27 (_:WC)=>⟨.normal,[(1,ptr b10 0),(2,ptr b11 0),(21,bY v27)],[MK b10 x1 x2 x3 x4 x5 x6 x7 x8 x9,rp b11]⟩) v27 ?_ ?_;clear hF;revert v27;intro r hF;refine wz ?_;rcases ah hF with⟨h28,hF⟩|⟨h28,hF⟩;refine wz ?_;cases hF;exact ae () [2,1];refine wz ?_;rcases ah hF with⟨h29,hF⟩|⟨h29,hF⟩;refine wz ?_;cases hF;exact ae () [2,1];refine wz ?_;cases hF;exact ae () [2,1];rintro⟨⟩;refine VI ?_;rcases ah hF with⟨h32,hF⟩|⟨h32,hF⟩;refine wz ?_;refine VB (eY rfl Dz rfl (eX Ki rfl rfl rfl)) rfl ?_;refine az ?_;cases hF;exact VH (.cell (k:=1) oM rfl rfl rfl (.tmp rfl .nil)) fun m' hm=>⟨(),rfl,(ai.au [] rfl rfl) m' hm⟩;refine wz ?_;refine VC ?_;obtain⟨r64,h63,hF⟩:=aa hF;refine ct (fun(v44,v45,v46,v47,v48,v49,v50,v51) (_:WC)=>⟨.normal,[(1,ptr b10 0),(2,ptr b11 0)],[MK b10 x1 v44 v45 v46 v47 v48 v49 v50 v51,rp b11]⟩) r64 ?_ ?_;clear hF;revert r64;intro r hF;refine wz ?_;rcases ah hF with⟨h52,hF⟩|⟨h52,hF⟩;refine wz ?_;refine VB (eY rfl Hk rfl (eX Hv rfl rfl rfl)) rfl ?_;refine wz ?_;obtain⟨⟨r54,r55,r56,r57,r58,r59,r60,r61,r62⟩,h53,hF⟩:=aa hF;refine wc gn (fun m hm=>CO h53 m) ?_;rintro⟨⟩;refine wz ?_;cases hF;exact ae () [0,1];refine wz ?_;cases hF;exact ae () [0,1];clear h63;obtain⟨v44,v45,v46,v47,v48,v49,v50,v51⟩:=r64;rintro⟨⟩;refine fA ?_;cases hF;exact VH (.cell (k:=1) oM rfl rfl rfl (.tmp rfl .nil)) fun m' hm=>⟨(),rfl,(ai.au [] rfl rfl) m' hm⟩
def IT{n x1 l2 a3 c4 r}(hF:Pl n x1 l2=some r)(m)(h5:cY m a3 c4 l2):
 aB al 89 [eA x1 a3 l2 c4] m (V6 m (.tuple #[.agg #[WO r.1,WO r.2.1,WO r.2.2.1,WO r.2.2.2.1,WO r.2.2.2.2.1,WO r.2.2.2.2.2.1,WO r.2.2.2.2.2.2.1,WO r.2.2.2.2.2.2.2.1],.int .i64 r.2.2.2.2.2.2.2.2])):=by
 unfold Pl at hF;refine cw Tryz.func89 (VO (VG m) bS h5) ?_;refine wz ?_;refine wb fun b6=>?_;refine wa Dz fun b7=>?_;refine az ?_;rcases ah hF with⟨h8,hF⟩|⟨h8,hF⟩;refine wz ?_;refine VB (eY rfl Dz rfl (eX Ki rfl rfl rfl)) rfl ?_;refine az ?_;cases hF;exact VH (.cell (k:=0) oM rfl rfl rfl (.tmp rfl .nil)) fun m' hm=>⟨(),rfl,(ai.au [] rfl rfl) m' hm⟩;refine az ?_;refine VB (eY rfl EK rfl (eX Mp rfl rfl rfl)) rfl<|wa EK fun b9=>?_;refine az ?_;refine VY (PX (k:=0) mS rfl rfl rfl rfl) gn rfl ?_;refine wz ?_;obtain⟨h10,hF⟩:=ax hF;obtain⟨⟨x12,x13,x14,x15,x16,x17,x18,x19⟩,h11,hF⟩:=aa hF;refine VB (QE (k:=0) (ys:=(l2:WB (Nat))) (cs':=[bY x1,bI x12,bI x13,bI x14,bI x15,bI x16,bI x17,bI x18,bI x19]) (cz .u64) kW rfl rfl (fun m hm=>hm.q 3) h10 rfl (Qo (f:=eN .u64) (v:=fun x=>WO x) (fun _=>rfl) (ov h11) (of_decide_eq_true h10))) rfl ?_;refine az ?_;obtain⟨⟨r21,r22,r23,r24,r25,r26,r27,r28,r29⟩,h20,hF⟩:=aa hF;refine wc gn (fun m hm=>Lp h20 m) ?_;rintro⟨⟩;refine az ?_;cases hF;exact VH (.cell (k:=1) oM rfl rfl rfl (.tmp rfl .nil)) fun m' hm=>⟨(),rfl,(ai.au [] rfl rfl) m' hm⟩
def Kn{n x1 l2 x6 l7 a3 c4 a8 c9 r}(hF:Cc n x1 l2 x6 l7=some r)(m)(h5:cY m a3 c4 l2)(h10:cY m a8 c9 l7):
 aB al 139 [oz x1 a3 l2 c4 x6 a8 l7 c9] m (V6 m (.tuple #[.agg #[WO r.1,WO r.2.1,WO r.2.2.1,WO r.2.2.2.1,WO r.2.2.2.2.1,WO r.2.2.2.2.2.1,WO r.2.2.2.2.2.2.1,WO r.2.2.2.2.2.2.2.1,WO r.2.2.2.2.2.2.2.2.1,WO r.2.2.2.2.2.2.2.2.2.1,WO r.2.2.2.2.2.2.2.2.2.2.1,WO r.2.2.2.2.2.2.2.2.2.2.2.1,WO r.2.2.2.2.2.2.2.2.2.2.2.2.1,WO r.2.2.2.2.2.2.2.2.2.2.2.2.2.1,WO r.2.2.2.2.2.2.2.2.2.2.2.2.2.2.1,WO r.2.2.2.2.2.2.2.2.2.2.2.2.2.2.2.1],.int .i64 r.2.2.2.2.2.2.2.2.2.2.2.2.2.2.2.2])):=by
 unfold Cc at hF;refine cw Tryz.func139 (VO (VO (VG m) bS h5) (dw bS) h10) ?_;refine wz ?_;refine wb fun b11=>?_;refine wa z68 fun b12=>?_;refine az ?_;obtain⟨⟨r14,r15,r16,r17,r18,r19,r20,r21,r22⟩,h13,hF⟩:=aa hF;refine wc gn (fun m hm=>IT h13 m (hm.q 3)) ?_;rintro⟨⟩;refine wz ?_;refine wa Dz fun b23=>?_;refine az ?_;obtain⟨⟨r25,r26,r27,r28,r29,r30,r31,r32,r33⟩,h24,hF⟩:=aa hF;refine wc gn (fun m hm=>IT h24 m (hm.q 3)) ?_;rintro⟨⟩;refine wz ?_;refine wa Dz fun b34=>?_;refine wz ?_;refine VC<|VC ?_;obtain⟨v42,h44,hF⟩:=aa hF;refine ct (fun v42 (_:WC)=>⟨.normal,[(2,ptr b12 0),(4,ptr b23 0),(6,ptr b34 0),(25,bY v42)],[Qn b12,Ke b23 r14 r15 r16 r17 r18 r19 r20 r21,Ke b34 r25 r26 r27 r28 r29 r30 r31 r32]⟩) v42 ?_ ?_;clear hF;revert v42;intro r hF;refine wz ?_;rcases ah hF with⟨h43,hF⟩|⟨h43,hF⟩;refine wz ?_;cases hF;exact ae () [2,1,0];refine wz ?_;cases hF;exact ae () [2,1,0];rintro⟨⟩;refine VI ?_;rcases ah hF with⟨h46,hF⟩|⟨h46,hF⟩;refine wz ?_;refine VB (eY rfl z68 rfl (eX GF rfl rfl rfl)) rfl ?_;refine az ?_;cases hF;exact VH (.cell (k:=0) nZ rfl rfl rfl (.tmp rfl .nil)) fun m' hm=>⟨(),rfl,(ai.au [] rfl rfl) m' hm⟩;refine az ?_;refine VB (eY rfl z68 rfl (eX GF rfl rfl rfl)) rfl ?_;refine az ?_;cases hF;exact VH (.cell (k:=0) nZ rfl rfl rfl (.tmp rfl .nil)) fun m' hm=>⟨(),rfl,(ai.au [] rfl rfl) m' hm⟩
def K9{n l1 a0 c0}{r0:Vr}{e0:Vp}{r}(hF:GA n l1=some r)(m)(h5:Rd m a0 c0 4 l1.length e0)(h6:(ef cS r0 l1 e0).P m):
 aB al 114 [aZ a0 l1 c0] m (fun v m'=>∃x:Vq×Nat,v=.tuple #[.slice x.1 x.2 x.2,.int .i64 r.2]/\Hp m m' [.sl x.1 16 x.2 (r.1.map WN)]):=by
 unfold GA at hF;refine cw Tryz.func114 (Hp.ub (VO (VG m) bS h5) (dw bS) h6) ?_;refine fA ?_;refine VF ?_;obtain⟨r1,h0,hF⟩:=aa hF;refine ct (fun(r:Int ⊕(WB WQ)) (g:Vq)=>match r,g with|.inl v0,_=>⟨.ret,[(2,.slice none 0 0),(3,aQ v0)],[]⟩|.inr l2,a1=>⟨(.exit 0),[(4,cq a1 l2)],[EN a1 l2]⟩) r1 ?_ ?_
 refine lw h0 none (fun(l3,v1) a2=>⟨.normal,[(4,cq a2 l3),(9,aZ a0 l1 c0),(10,dn l1),(11,aQ v1)],[EN a2 l3,.rd a0 c0 4 l1.length e0,iO cS r0 l1 e0]⟩) (ai.trans (ai.nil 16 rfl) (ai.au [0,2,1] rfl rfl)) ?_;clear hF h0;rintro⟨l3,v1⟩ a2 r hF;unfold pU at hF;refine wz ?_;refine VC ?_;rcases ah hF with⟨h7,hF⟩|⟨h7,hF⟩;refine az ?_;obtain⟨h8,hF⟩:=bU hF;refine VP (k:=1) rfl (aG h8) ?_;rintro b0 o3 rfl;refine wz ?_;obtain⟨⟨x3,l4,x4,l7⟩,h9,hF⟩:=aa hF;refine wl 4 0 3 0 h9 ?_;rintro⟨_,⟨a4,c1⟩,_,⟨a5,c2⟩⟩;refine wa lh fun b1=>?_;refine az ?_;obtain⟨⟨r3,r4,r5,r6,r7,r8,r9,r10,r11,r12,r13,r14,r15,r16,r17,r18,r19⟩,h10,hF⟩:=aa hF;refine wc gn (fun m hm=>Kn h10 m (hm.q 1) (hm.q 2)) ?_;rintro⟨⟩;refine wz ?_;refine wa z68 fun b2=>?_;refine az ?_;rcases ah hF with⟨h11,hF⟩|⟨h11,hF⟩;refine az ?_;cases hF;exact ae none [];refine az ?_;refine VN (gy (es:=([(r3,r4,r5,r6,r7,r8,r9,r10,r11,r12,r13,r14,r15,r16,r17,r18)]:WB WQ).map WN) yo rfl (gB yo z68 rfl rfl) rfl rfl) gn rfl fun b3=>?_;obtain⟨h12,hF⟩:=ax hF;refine VN (jI (k:=6) (k2:=0) (xs:=(l3:WB WQ)) (ys:=([(r3,r4,r5,r6,r7,r8,r9,r10,r11,r12,r13,r14,r15,r16,r17,r18)]:WB WQ)) (dc (cz .u64) (dc (cz .u64) (dc (cz .u64) (dc (cz .u64) (dc (cz .u64) (dc (cz .u64) (dc (cz .u64) (dc (cz .u64) (dc (cz .u64) (dc (cz .u64) (dc (cz .u64) (dc (cz .u64) (dc (cz .u64) (dc (cz .u64) (dc (cz .u64) (cz .u64)))))))))))))))) yo ⟨_,Po⟩ rfl rfl rfl (.arr _ _ _ _ _) h12) gn rfl fun a3=>?_;refine az ?_;cases hF;exact ae a3 [6,7,8];refine wz ?_;cases hF;exact ae a2 [0];rcases r1 with v0|l2;rintro g0;refine wz ?_;cases hF;exact VH (.tmp rfl (.tmp rfl .nil)) fun m' hm=>⟨(none,0),rfl,(ai.trans (ai.nil 16 rfl) (ai.au [0] rfl rfl)) m' hm⟩;rintro a1;refine fA ?_;cases hF;exact ar (a1,l2.length) [0]
def Nb{n l1 l2 x3 a0 c0}{r0:Vr}{e0:Vp}{a2 c1 r}(hF:JC n l1 l2 x3=some r)(m)(h13:s8 m a0 c0 l1 e0)(h14:(ef aK r0 l1 e0).P m)(h15:zP m a2 c1 l2):
 aB al 38 [aZ a0 l1 c0,aZ a2 l2 c1,aQ x3] m (fun v m'=>∃x:Vq×Nat,v=.tuple #[.slice x.1 x.2 x.2,.int .i64 r.2]/\Hp m m' [.sl x.1 16 x.2 (r.1.map WN)]):=by
 unfold JC at hF;refine cw Tryz.func38 (VO (Hp.ub (VO (VG m) bS h13) (dw bS) h14) (Pg (dw bS)) h15) ?_;refine az ?_;obtain⟨r25,h16,hF⟩:=aa hF;refine wc gn (fun m hm=>IS h16 m (hm.q 2) (hm.dp (q:=1) rfl)) ?_;rintro⟨⟩;refine az ?_;rcases ah hF with⟨h17,hF⟩|⟨h17,hF⟩;refine az ?_;cases hF;exact VH (.tmp rfl (.tmp rfl .nil)) fun m' hm=>⟨(none,0),rfl,(ai.trans (ai.nil 16 rfl) (ai.au [0] rfl rfl)) m' hm⟩;refine az ?_;obtain⟨v3,h18,hF⟩:=aa hF;refine wq (fun v3 (_:WC)=>(.bool v3,(dP a0 c0 l1 e0 aK r0 [jL a2 c1 l2]))) v3 (fun m hm=>?_) ?_;clear hF;revert v3;intro r hF;refine hJ (N:=9) (rs:=[.tmp 4]) rfl Tryz.func125 rfl rfl rfl hm ?_;refine az ?_;obtain⟨v4,h19,hF⟩:=aa hF;refine wq (fun v4 (_:WC)=>(.int .i64 v4,(dP a0 c0 l1 e0 aK r0 [jL a2 c1 l2]))) v4 (fun m hm=>?_) ?_;clear hF;revert v4;intro r hF;refine hJ (N:=19) (rs:=[.tmp 4]) rfl Tryz.func192 rfl rfl rfl hm ?_;refine az ?_;refine VF ?_;obtain⟨r16,h0,hF⟩:=aa hF;refine ct (fun(r:Int⊕WC) (g:WC)=>match r,g with|.inl v7,_=>⟨.ret,[(4,aQ v7)],(dP a0 c0 l1 e0 aK r0 [jL a2 c1 l2])⟩|.inr _,_=>⟨(.exit 0),[],(dP a0 c0 l1 e0 aK r0 [jL a2 c1 l2])⟩) r16 ?_ ?_
 refine lo h0 () [0,2,1] (fun v8 _=>⟨.normal,[(0,aZ a2 l2 c1),(1,.func (.func 126) #[] #[]),(7,dn l2),(8,aQ v8)],(jL a2 c1 l2::dP a0 c0 l1 e0 aK r0 [])⟩) ?_;clear hF h0;rintro v8 ⟨⟩ r hF;unfold sL at hF;refine wz ?_;refine VC ?_;rcases ah hF with⟨h20,hF⟩|⟨h20,hF⟩;refine fA ?_;obtain⟨h21,hF⟩:=bU hF;refine VP (k:=0) rfl (aG h21) ?_;rintro b5 o4 rfl;refine wz ?_;obtain⟨⟨x10,x11,x12,x14,x15,x16,x17,x18,x19,x20,x21,x22,x23,x24,x25,x26⟩,h58,hF⟩:=aa hF;refine wz ?_;obtain⟨r26,h22,hF⟩:=aa hF;refine wc gn (fun m hm=>Ld h22 m) ?_;rintro⟨⟩;refine wz ?_;rcases ah hF with⟨h23,hF⟩|⟨h23,hF⟩;refine az ?_;cases hF;exact ae () [2,3,1];refine az ?_;cases hF;exact ae () [1,2,3];refine wz ?_;cases hF;exact ae () [1,2,0];rcases r16 with v7|_;rintro⟨⟩;refine wz ?_;obtain rfl:=S3 hF;exact ar () [0,1,2];rintro⟨⟩;refine fA ?_;cases hF;exact ar () [0,1,2];rintro⟨⟩;refine az ?_;cases hF;exact ar () [0,1,2];rintro⟨⟩;refine wz ?_;rcases ah hF with⟨h24,hF⟩|⟨h24,hF⟩;refine az ?_;cases hF;exact VH (.tmp rfl (.tmp rfl .nil)) fun m' hm=>⟨(none,0),rfl,(ai.trans (ai.nil 16 rfl) (ai.au [0] rfl rfl)) m' hm⟩;refine wz ?_;refine VC<|VC ?_;obtain⟨v5,h25,hF⟩:=aa hF;refine ct (fun v5 (_:WC)=>⟨.normal,(qJ a0 l1 c0 a2 l2 c1 [(2,aQ x3),(41,bY v5)]),(dP a0 c0 l1 e0 aK r0 [jL a2 c1 l2])⟩) v5 ?_ ?_;clear hF;revert v5;intro r hF;refine wz ?_;rcases ah hF with⟨h9,hF⟩|⟨h9,hF⟩;refine wz ?_;cases hF;exact ae () [0,1,2];refine wz ?_;obtain⟨r27,h26,hF⟩:=aa hF;refine wc (gg rfl rfl (sj h9)) (fun m hm=>C3 h26 m (hm.q 2)) ?_;rintro⟨⟩;refine wz ?_;rcases ah hF with⟨h27,hF⟩|⟨h27,hF⟩;refine wz ?_;cases hF;exact ae () [0,1,2];refine wz ?_;rcases ah hF with⟨h28,hF⟩|⟨h28,hF⟩;refine wz ?_;cases hF;exact ae () [0,1,2];refine wz ?_;cases hF;exact ae () [0,1,2];rintro⟨⟩;refine VI ?_;rcases ah hF with⟨h29,hF⟩|⟨h29,hF⟩;refine az ?_;cases hF;exact VH (.tmp rfl (.tmp rfl .nil)) fun m' hm=>⟨(none,0),rfl,(ai.trans (ai.nil 16 rfl) (ai.au [0] rfl rfl)) m' hm⟩;refine fA ?_;refine VF ?_;obtain⟨l8,h5,hF⟩:=aa hF;refine ct (fun l8 ((a3,e7,r7):Vq×Vp ×(Nat->Prop))=>⟨(.exit 0),[(0,aZ a0 l1 c0),(2,aQ x3),(9,cq a3 l8)],(dP a0 c0 l1 e0 aK r0 [.sl a3 4 l8.length e7,iO cS r7 l8 e7])⟩) l8 ?_ ?_;refine lw h5 ((none,[],(fun _=>False)):Vq×Vp ×(Nat->Prop)) (fun(l9,v9) ((a4,e6,r8):Vq×Vp ×(Nat->Prop))=>⟨.normal,[(0,aZ a0 l1 c0),(2,aQ x3),(9,cq a4 l9),(42,aZ a2 l2 c1),(43,dn l2),(44,aQ v9)],(dP a0 c0 l1 e0 aK r0 [.sl a4 4 l9.length e6,iO cS r8 l9 e6,jL a2 c1 l2])⟩) (ai.trans (ai.nil 4 rfl) (ai.trans (ai.zI (r:=cS)) (ai.au [2,3,1,0,4] rfl rfl))) ?_;clear hF h5;rintro⟨l9,v9⟩ ⟨a4,e6,r8⟩ r hF;unfold vv at hF;refine wz ?_;refine VC ?_;rcases ah hF with⟨h30,hF⟩|⟨h30,hF⟩;refine az ?_;obtain⟨h31,hF⟩:=bU hF;refine VP (k:=4) rfl (aG h31) ?_;rintro b6 o5 rfl;refine wz ?_;obtain⟨⟨x27,x28,x29,x30,x31,x32,x33,x34,x35,x36,x37,x38,x39,x40,x41,x42⟩,h59,hF⟩:=aa hF;refine wz ?_;refine wa z68 fun b7=>?_;refine az ?_;obtain⟨⟨r3,l4,r4,l7⟩,h32,hF⟩:=aa hF;refine qa gn (fun m hm=>p7 h32 m hm.aj) ?_;rintro⟨a5,c2,n5,a6,c3,n7⟩;refine VJ (k:=0) rfl ?_;rintro rfl;refine VJ (k:=1) rfl ?_;rintro rfl;refine VN (gy (es:=[[bY r3,aZ a5 l4 c2,bY r4,aZ a6 l7 c3]]) AL rfl (gB AL lh rfl rfl) rfl rfl) gn rfl fun b8=>?_;refine Wo.dp (r:=cS) (L:=([(r3,l4,r4,l7)]:WB WT)) (es:=[[bY r3,aZ a5 l4 c2,bY r4,aZ a6 l7 c3]]) (qv.cons (r:=cS) (z:=(r3,l4,r4,l7)) (g:=((),(a5,c2),(),(a6,c3))) (Lf.p (Lf.f (AF) _) (Lf.p (Lf.s (k:=1) rfl) (Lf.p (Lf.f (AF) _) (Lf.s (k:=2) rfl)))) qv.nil) ?_;intro r28;obtain⟨h33,hF⟩:=ax hF;refine VN (vI (r:=cS) (k:=8) (q:=9) (k2:=1) (q2:=0) (L:=l9) (L':=([(r3,l4,r4,l7)]:WB WT)) AL ⟨_,P6⟩ rfl rfl rfl rfl (.arr _ _ _ _ _) rfl rfl h33) gn rfl ?_;rintro⟨a16,r21⟩;refine az ?_;cases hF;exact ae (a16,(e6++([[bY r3,aZ a5 l4 c2,bY r4,aZ a6 l7 c3]]:Vp)),r21) [6,7,8,9,10];refine wz ?_;cases hF;exact ae (a4,e6,r8) [0,1,2,3];rintro⟨a3,e7,r7⟩;refine az ?_;refine VF ?_;obtain⟨r17,h6,hF⟩:=aa hF;refine ct (fun(n3,l24) ((a15,e11,r18):Vq×Vp ×(Nat->Prop))=>⟨(.exit 2),[(9,iU a15 n3)],[.sl a15 4 n3 e11,iO cS r18 l24 e11]⟩) r17 ?_ ?_;refine lo h6 (a3,e7,r7) [0,1,2,3] (fun(n2,l3,v1) ((a1,e3,r1):Vq×Vp ×(Nat->Prop))=>⟨.normal,[(0,aZ a0 l1 c0),(9,iU a1 n2),(54,aQ x3),(55,aQ v1)],(dP a0 c0 l1 e0 aK r0 [.sl a1 4 n2 e3,iO cS r1 l3 e3])⟩) ?_;clear hF h6;rintro⟨n2,l3,v1⟩ ⟨a1,e3,r1⟩ r hF;unfold vB at hF;refine wz ?_;refine VC ?_;rcases ah hF with⟨h34,hF⟩|⟨h34,hF⟩;refine az ?_;obtain⟨h35,hF⟩:=ax hF;obtain⟨h36,hF⟩:=ax hF;refine VN (Qc (es:=(List.replicate (l1.length:Int).toNat [.bool false,.slice none 0 0,.bool false,.slice none 0 0])) AL rfl h35 h36 lh rfl rfl) gn rfl fun b0=>?_;refine Wo.dp (r:=cS) (L:=((List.replicate (l1.length:Int).toNat ((false,[],false,[]):WT)):WB WT)) (es:=(List.replicate (l1.length:Int).toNat [.bool false,.slice none 0 0,.bool false,.slice none 0 0])) (qv.RK (r:=cS) (z:=(false,[],false,[])) (g:=((),(none,0),(),(none,0))) (Lf.p (Lf.f (AF) _) (Lf.p Lf.s0 (Lf.p (Lf.f (AF) _) Lf.s0))) _) ?_;intro r22;refine az ?_;refine VF ?_;obtain⟨l25,h7,hF⟩:=aa hF;refine ct (fun l25 ((e8,r9):Vp ×(Nat->Prop))=>⟨(.exit 4),[(0,aZ a0 l1 c0),(12,kO b0 l1),(54,aQ x3),(55,aQ v1)],(dP a0 c0 l1 e0 aK r0 [zb b0 l1 e8,iO cS r9 l25 e8])⟩) l25 ?_ ?_;refine lo h7 ((List.replicate (l1.length:Int).toNat [.bool false,.slice none 0 0,.bool false,.slice none 0 0]),r22) [2,3,4,5,1,0] (fun(l26,v0) ((e5,r6):Vp ×(Nat->Prop))=>⟨.normal,[(0,aZ a0 l1 c0),(9,iU a1 n2),(12,kO b0 l1),(54,aQ x3),(55,aQ v1),(61,dn l1),(62,aQ v0)],(dP a0 c0 l1 e0 aK r0 [.sl a1 4 n2 e3,iO cS r1 l3 e3,zb b0 l1 e5,iO cS r6 l26 e5])⟩) ?_;clear hF h7;rintro⟨l26,v0⟩ ⟨e5,r6⟩ r hF;unfold uO at hF;refine wz ?_;refine VC ?_;rcases ah hF with⟨h37,hF⟩|⟨h37,hF⟩;refine fA ?_;obtain⟨⟨r10,l12,r11,l13⟩,h38,hF⟩:=aa hF;refine qa gn (fun m hm=>vR h38 m hm.aj) ?_;rintro⟨a7,c4,n8,a8,c5,n9⟩;refine VJ (k:=0) rfl ?_;rintro rfl;refine VJ (k:=1) rfl ?_;rintro rfl;obtain⟨h60,hF⟩:=bU hF;refine wz ?_;obtain⟨⟨x4,l14,x5,l15⟩,h39,hF⟩:=aa hF;refine Wo.tD (r:=cS) (q:=7) (j:=v0.toNat) (z:=(x4,l14,x5,l15)) (N:=fun g=>(.rd g.2.1.1 g.2.1.2 1 l14.length (l14.map WK)::.rd g.2.2.2.1 g.2.2.2.2 1 l15.length (l15.map WK)::dX a7 c4 l12::dX a8 c5 l13::dP a0 c0 l1 e0 aK r0 [.sl a1 4 n2 e3,iO cS r1 l3 e3,zb b0 l1 e5,iO cS r6 l26 e5])) rfl h39 (fun _=>rfl) ?_;rintro⟨_,⟨a17,c12⟩,_,⟨a18,c13⟩⟩ h40;refine VV (CJ (k:=8) (j:=v0.toNat) (c:=0) (e:=[bY x4,aZ a17 l14 c12,bY x5,aZ a18 l15 c13]) (e':=[bY r10,aZ a7 l12 c4,bY r11,aZ a8 l13 c5]) fo rfl rfl rfl h40 rfl)<|Wo.u6 (r:=cS) (q:=9) (j:=v0.toNat) (z:=(r10,l12,r11,l13)) (g:=((),(a7,c4),(),(a8,c5))) rfl (Lf.p (Lf.f (AF) _) (Lf.p (Lf.s (k:=2) rfl) (Lf.p (Lf.f (AF) _) (Lf.s (k:=3) rfl)))) ?_;intro r23;refine az ?_;refine VF ?_;obtain⟨l27,h8,hF⟩:=aa hF;refine ct (fun l27 ((e9,r12):Vp ×(Nat->Prop))=>⟨(.exit 6),[(0,aZ a0 l1 c0),(9,iU a1 n2),(12,kO b0 l1),(54,aQ x3),(55,aQ v1),(61,dn l1),(62,aQ v0)],(dP a0 c0 l1 e0 aK r0 [.sl a1 4 n2 e3,iO cS r1 l3 e3,zb b0 l1 e9,iO cS r12 l27 e9])⟩) l27 ?_ ?_;refine lo h8 ((e5.set v0.toNat [bY r10,aZ a7 l12 c4,bY r11,aZ a8 l13 c5]),r23) [4,5,6,7,8,9] (fun(l16,v2) ((e4,r5):Vp ×(Nat->Prop))=>⟨.normal,[(0,aZ a0 l1 c0),(9,iU a1 n2),(12,kO b0 l1),(13,aQ v0),(54,aQ x3),(55,aQ v1),(61,dn l1),(62,aQ v0),(69,iU a1 n2),(70,.int .i64 (n2:Int)),(71,aQ v2)],(dP a0 c0 l1 e0 aK r0 [.sl a1 4 n2 e3,iO cS r1 l3 e3,zb b0 l1 e4,iO cS r5 l16 e4])⟩) ?_;clear hF h8;rintro⟨l16,v2⟩ ⟨e4,r5⟩ r hF;unfold ry at hF;refine wz ?_;refine VC ?_;rcases ah hF with⟨h41,hF⟩|⟨h41,hF⟩;refine wz ?_;refine VC ?_;obtain⟨l17,h42,hF⟩:=aa hF;refine ct (fun l17 ((e10,r13):Vp ×(Nat->Prop))=>⟨.normal,[(0,aZ a0 l1 c0),(9,iU a1 n2),(12,kO b0 l1),(13,aQ v0),(54,aQ x3),(55,aQ v1),(61,dn l1),(62,aQ v0),(69,iU a1 n2),(70,.int .i64 (n2:Int)),(71,aQ v2)],(dP a0 c0 l1 e0 aK r0 [.sl a1 4 n2 e3,iO cS r1 l3 e3,zb b0 l1 e10,iO cS r13 l17 e10])⟩) l17 ?_ ?_;clear hF;revert l17;intro r hF;refine wz ?_;obtain⟨h43,hF⟩:=bU hF;refine VZ (k:=2) rfl (aG h43) ?_;rintro b1 t0 rfl h61;refine wz ?_;obtain⟨⟨x6,l18,x7,l19⟩,h44,hF⟩:=aa hF;refine VN (LQ (w:=4) (j:=v2.toNat) (c:=0) (q:=3) fo rfl (Ni _ _) (Bg (k:=2) rfl) rfl h44 (fun _=>rfl) rfl (fun _=>rfl)) gn rfl ?_;rintro⟨_,⟨a9,c6⟩,_,⟨a10,c7⟩⟩;refine wa lh fun b2=>?_;refine az ?_;obtain⟨h45,hF⟩:=bU hF;refine VP (k:=3) rfl (aG h45) ?_;rintro b3 o3 rfl;refine wz ?_;obtain⟨l31,h46,hF⟩:=aa hF;refine wl 1 0 5 0 h46 ?_;rintro⟨a26,c23⟩;refine wz ?_;obtain⟨h47,hF⟩:=bU hF;refine VP (k:=0) rfl (aG h47) ?_;rintro b9 o6 rfl;refine wz ?_;obtain⟨⟨x43,x44,x45,x46,x47,x48,x49,x50,x51,x52,x53,x54,x55,x56,x57,x58⟩,h62,hF⟩:=aa hF;refine wz ?_;obtain⟨⟨r19,l20,r20,l21⟩,h48,hF⟩:=aa hF;refine qa gn (fun m hm=>p7 h48 m hm.aj) ?_;rintro⟨a11,c8,n10,a12,c9,n11⟩;refine VJ (k:=0) rfl ?_;rintro rfl;refine VJ (k:=1) rfl ?_;rintro rfl;refine wa lh fun b4=>?_;refine wz ?_;refine VC ?_;obtain⟨v6,h49,hF⟩:=aa hF;refine ct (fun v6 (_:WC)=>⟨.normal,[(0,jv b3 o3 l1 c0),(9,.slice (some ⟨b1,0,none⟩) n2 n2),(12,kO b0 l1),(13,aQ v0),(15,ptr b2 0),(16,ptr b4 0),(54,aQ x3),(55,aQ v1),(61,dn l1),(62,aQ v0),(69,.slice (some ⟨b1,0,none⟩) n2 n2),(70,.int .i64 (n2:Int)),(71,aQ v2),(93,bY v6)],(E1 b3 o3 l1 e0 aK r0 c0 [.arr b1 4 n2 e3 t0,iO cS r1 l3 e3,zb b0 l1 e4,iO cS r5 l16 e4,tW b2 x6 a9 l18 c6 x7 a10 l19 c7,dX a9 c6 l18,dX a10 c7 l19,tW b4 r19 a11 l20 c8 r20 a12 l21 c9,dX a11 c8 l20,dX a12 c9 l21])⟩) v6 ?_ ?_;clear hF;revert v6;intro r hF;refine wz ?_;obtain⟨r29,h50,hF⟩:=aa hF;refine wc gn (fun m hm=>pN h50 m (hm.q 1)) ?_;rintro⟨⟩;refine wz ?_;rcases ah hF with⟨h10,hF⟩|⟨h10,hF⟩;refine wz ?_;obtain⟨r30,h51,hF⟩:=aa hF;refine wc (gg rfl rfl (Lq h10)) (fun m hm=>pN h51 m (hm.q 7)) ?_;rintro⟨⟩;refine wz ?_;cases hF;exact ae () [5,10,9,11,12,13,14,6,7,8,0,1,2];refine wz ?_;cases hF;exact ae () [5,10,9,11,12,13,14,6,7,8,0,1,2];rintro⟨⟩;refine VI ?_;rcases ah hF with⟨h11,hF⟩|⟨h11,hF⟩;refine V0 rfl h11<|VW (prs:=[(5,8)]) (by kernel_rfl)<|VD (aW rfl) rfl<|VD (aW rfl) rfl<|VD (aW rfl) rfl<|VD (aW rfl) rfl ?_
 obtain⟨h52,hF⟩:=bU hF;refine Wn.og (pd AL rfl rfl h52) gn rfl ?_;obtain⟨⟨x8,l10,x9,l11⟩,h12,hF⟩:=aa hF;refine Wn.x (LQ (w:=4) (j:=v0.toNat) (c:=0) (q:=6) fo rfl (Ni _ _) (Bg (k:=5) rfl) rfl h12 (fun _=>rfl) rfl (fun _=>rfl)) gn rfl ?_;rintro⟨_,⟨a19,c15⟩,_,⟨a20,c16⟩⟩;refine VD (bh (k:=9) fo rfl rfl rfl) rfl<|VD (bh (k:=12) fo rfl rfl rfl) rfl ?_;obtain⟨⟨r31,l29,r32,l30⟩,h53,hF⟩:=aa hF;refine FU gn (fun m hm=>Kk h53 m hm.aj (hm.q 10) (hm.no 10) (hm.q 11) (hm.no 11) (hm.q 13) (hm.no 13) (hm.q 14) (hm.no 14)) ?_;rintro⟨a21,c17,n12,a22,c19,n13⟩;refine VK (k:=0) rfl ?_;rintro rfl;refine VK (k:=1) rfl ?_;rintro rfl;obtain⟨⟨r14,l22,r15,l23⟩,h54,hF⟩:=aa hF;refine FU gn (fun m hm=>Ep h54 m hm.aj (hm.q 2) (hm.no 2) (hm.q 3) (hm.no 3) (hm.q 0) (hm.no 0) (hm.q 1) (hm.no 1)) ?_;rintro⟨a13,c10,n14,a14,c11,n15⟩;refine VK (k:=0) rfl ?_;rintro rfl;refine VK (k:=1) rfl ?_;rintro rfl;obtain⟨h55,hF⟩:=bU hF;refine Wn.og (pd AL rfl rfl h55) gn rfl ?_;refine Wn.tD (r:=cS) (q:=12) (j:=v0.toNat) (z:=(x8,l10,x9,l11)) (N:=fun g=>(.rd g.2.1.1 g.2.1.2 1 l10.length (l10.map WK)::.rd g.2.2.2.1 g.2.2.2.2 1 l11.length (l11.map WK)::dX a13 c10 l22::dX a14 c11 l23::dX a21 c17 l29::dX a22 c19 l30::dX a19 c15 l10::dX a20 c16 l11::E1 b3 o3 l1 e0 aK r0 c0 [.arr b1 4 n2 e3 t0,iO cS r1 l3 e3,zb b0 l1 e4,iO cS r5 l16 e4,tW b2 x6 a9 l18 c6 x7 a10 l19 c7,dX a9 c6 l18,dX a10 c7 l19,tW b4 r19 a11 l20 c8 r20 a12 l21 c9,dX a11 c8 l20,dX a12 c9 l21])) rfl h12 (fun _=>rfl) ?_;rintro⟨_,⟨a23,c20⟩,_,⟨a24,c21⟩⟩ h56;refine VX (CJ (k:=13) (j:=v0.toNat) (c:=0) (e:=[bY x8,aZ a23 l10 c20,bY x9,aZ a24 l11 c21]) (e':=[bY r14,aZ a13 l22 c10,bY r15,aZ a14 l23 c11]) fo rfl rfl rfl h56 rfl)<|Wn.u6 (r:=cS) (q:=14) (j:=v0.toNat) (z:=(r14,l22,r15,l23)) (g:=((),(a13,c10),(),(a14,c11))) rfl (Lf.p (Lf.f (AF) _) (Lf.p (Lf.s (k:=2) rfl) (Lf.p (Lf.f (AF) _) (Lf.s (k:=3) rfl)))) ?_;intro r24;refine VS (fun m hm=>gi.all rfl)<|At.bn ?_;cases hF;exact aT ((e4.set v0.toNat [bY r14,aZ a13 l22 c10,bY r15,aZ a14 l23 c11]),r24) (ai.trans (ai.close (k:=11) rfl) (ai.au [10,9,11,12,13,14] rfl rfl));refine wz ?_;obtain rfl:=S3 hF;exact aT (e4,r5) (ai.trans (ai.close (k:=3) rfl) (ai.au [2,1,3,4,5,6] rfl rfl));rintro⟨e10,r13⟩;refine az ?_;cases hF;exact ae (e10,r13) (V1 0 6);refine wz ?_;cases hF;exact ae (e4,r5) (V1 0 6);rintro⟨e9,r12⟩;refine az ?_;cases hF;exact ae (e9,r12) (V1 0 6);refine wz ?_;cases hF;exact ae (e5,r6) [0,1,4,5];rintro⟨e8,r9⟩;refine fA ?_;cases hF;exact aT ((some ⟨b0,0,none⟩),e8,r9) (ai.trans (ai.close (k:=2) rfl) (ai.au [0,1,2,3] rfl rfl));refine wz ?_;cases hF;exact ae (a1,e3,r1) [2,3];clear h6;obtain⟨n3,l24⟩:=r17;rintro⟨a15,e11,r18⟩;refine az ?_;obtain⟨⟨l28,r33⟩,h57,hF⟩:=aa hF;have hFx:=hF;refine Wo.Ev (k:=0) (q:=1) (L:=l24) rfl (.inl rfl) rfl ?_;rintro rfl;replace hF:=hFx;clear hFx;refine wc gn (fun m hm=>K9 h57 m (hm.rd (k:=0) rfl (.sl _ _ _ _)) (hm.dp (q:=1) rfl)) ?_;rintro⟨a25,n16⟩;refine Wo.len (k:=0) (xs:=l28) rfl ?_;rintro rfl;refine az ?_;cases hF;exact ar (a25,l28.length) [0]
def KZ{n x1 l2 x7 l8 x13 l14 x19 l20 a3 c4 a9 c10 a15 c16 a21 yp r}(hF:Hl n x1 l2 x7 l8 x13 l14 x19 l20=some r)(m){H:Vr}(hH:∀b,H b->b<m.next)(h5:cV m a3 c4 l2)(h6:∀b,dx a3=some b->¬H b)(h11:cV m a9 c10 l8)(h12:∀b,dx a9=some b->¬H b)(h17:cV m a15 c16 l14)(h18:∀b,dx a15=some b->¬H b)(h23:cV m a21 yp l20)(h24:∀b,dx a21=some b->¬H b):
 aB al 109 [oz x1 a3 l2 c4 x7 a9 l8 c10,oz x13 a15 l14 c16 x19 a21 l20 yp] m (fun v m'=>∃x:Vq×Nat×Nat×Vq×Nat×Nat,v=.agg #[.bool r.1,.slice x.1 x.2.2.1 x.2.1,.bool r.2.2.1,.slice x.2.2.2.1 x.2.2.2.2.2 x.2.2.2.2.1]/\Hp m m' [.rd x.1 x.2.1 1 x.2.2.1 (r.2.1.map (eI .i64)),.rd x.2.2.2.1 x.2.2.2.2.1 1 x.2.2.2.2.2 (r.2.2.2.map (eI .i64)),aX H]):=by
 unfold Hl at hF;refine cw Tryz.func109 (VM (l0:=[dT a15 c16 l14,dT a9 c10 l8,dT a3 c4 l2]) (VM (l0:=[dT a9 c10 l8,dT a3 c4 l2]) (VM (l0:=[dT a3 c4 l2]) (VM (l0:=[]) (VT m hH) bS h5 h6) (dw bS) h11 h12) (dw (dw bS)) h17 h18) (dw (dw (dw bS))) h23 h24) ?_;refine wz ?_;refine wb fun b25=>?_;refine wb fun b26=>?_;refine wa qf fun b27=>?_;refine wz ?_;refine VC<|VW (prs:=[(4,6),(4,8)]) (by kernel_rfl)<|VD (bN (r:=ptr b25 0) rfl (kB _ _)) rfl<|VD (bh (k:=2) bM rfl rfl rfl) rfl<|VD (bN (r:=ptr b26 0) rfl (kB _ _)) rfl<|VD (bh (k:=1) bM rfl rfl rfl) rfl ?_
 obtain⟨⟨r29,l30⟩,h28,hF⟩:=aa hF;refine nv gn (fun m hm=>nE h28 m hm.aj (hm.q 6) (hm.no 6) (hm.q 4) (hm.no 4)) ?_;rintro⟨a31,c32,n33⟩;refine VK (k:=0) rfl ?_;rintro rfl;refine VD (bN (r:=ptr b25 2) rfl (gV _ _)) rfl<|VD (bh (k:=3) bM rfl rfl rfl) rfl<|VD (bN (r:=ptr b26 2) rfl (gV _ _)) rfl<|VD (bh (k:=2) bM rfl rfl rfl) rfl ?_;obtain⟨⟨r35,l36⟩,h34,hF⟩:=aa hF;refine nv gn (fun m hm=>nE h34 m hm.aj (hm.q 6) (hm.no 6) (hm.q 4) (hm.no 4)) ?_;rintro⟨a37,KF,n39⟩;refine VK (k:=0) rfl ?_;rintro rfl;obtain⟨⟨r41,l42,r46,l47⟩,h40,hF⟩:=aa hF;refine FU gn (fun m hm=>xV h40 m hm.aj (hm.q 1) (hm.no 1) (hm.q 0) (hm.no 0)) ?_;rintro⟨a43,c44,n45,a48,c49,n50⟩;refine VK (k:=0) rfl ?_;rintro rfl;refine VK (k:=1) rfl ?_;rintro rfl;refine VX (eo (k:=4) jq rfl rfl rfl rfl rfl)<|VS (fun m hm=>gi.all rfl) ?_;refine az ?_;cases hF;exact VH (.cell (k:=4) jq rfl rfl rfl .nil) fun m' hm=>⟨(a43,c44,l42.length,a48,c49,l47.length),rfl,(ai.au [0,1,11] rfl rfl) m' hm⟩
def KP{n l1 l2 a0 c0}{r0:Vr}{e0:Vp}{a1 c1}{r1:Vr}{e3:Vp}{r}(hF:H7 n l1 l2=some r)(m){H:Vr}(hH:∀b,H b->b<m.next)(h9:s8 m a0 c0 l1 e0)(h10:∀b,dx a0=some b->¬H b)(h11:(ef aK r0 l1 e0).P m)(h12:∀b,r0 b->¬H b)(h13:Rd m a1 c1 4 l2.length e3)(h14:∀b,dx a1=some b->¬H b)(h15:(ef eC r1 l2 e3).P m)(h16:∀b,r1 b->¬H b):
 aB al 131 [aZ a0 l1 c0,aZ a1 l2 c1] m (fun v m'=>∃x:Vq×Nat×Nat×Vp ×(Nat->Prop),v=.slice x.1 x.2.2.1 x.2.1/\Hp m m' [.rd x.1 x.2.1 4 x.2.2.1 x.2.2.2.1,.gen (ef eC x.2.2.2.2 r x.2.2.2.1),aX H]):=by
 unfold H7 at hF;refine cw Tryz.func131 (Hp.D7 (l0:=[.rd a1 c1 4 l2.length e3,iO aK r0 l1 e0,E4 a0 c0 l1 e0]) (VM (l0:=[iO aK r0 l1 e0,E4 a0 c0 l1 e0]) (Hp.D7 (l0:=[E4 a0 c0 l1 e0]) (VM (l0:=[]) (VT m hH) bS h9 h10) (dw bS) h11 h12) (Pg (dw bS)) h13 h14) (dw (Pg (dw bS))) h15 h16) ?_;refine fA ?_;refine VF ?_;obtain⟨l8,h0,hF⟩:=aa hF;refine ct (fun l8 ((a5,e5,r4):Vq×Vp ×(Nat->Prop))=>⟨(.exit 0),[(5,cq a5 l8)],[.sl a5 4 l8.length e5,iO eC r4 l8 e5,aX H]⟩) l8 ?_ ?_;refine lw h0 ((none,[],(fun _=>False)):Vq×Vp ×(Nat->Prop)) (fun(l3,v2) ((a2,e4,r3):Vq×Vp ×(Nat->Prop))=>⟨.normal,(qJ a0 l1 c0 a1 l2 c1 [(5,cq a2 l3),(6,aQ v2)]),(dP a0 c0 l1 e0 aK r0 [.rd a1 c1 4 l2.length e3,iO eC r1 l2 e3,.sl a2 4 l3.length e4,iO eC r3 l3 e4,aX H])⟩) (ai.trans (ai.nil 4 rfl) (ai.trans (ai.zI (r:=eC)) (ai.au [5,4,3,2,1,0,6] rfl rfl))) ?_;clear hF h0;rintro⟨l3,v2⟩ ⟨a2,e4,r3⟩ r hF;unfold qe at hF;refine wz ?_;rcases ah hF with⟨h17,hF⟩|⟨h17,hF⟩;refine az ?_;obtain⟨⟨r7,l11,r8,l12⟩,h18,hF⟩:=aa hF;refine qa gn (fun m hm=>Ef h18 m hm.aj) ?_;rintro⟨a8,c6,n2,a9,c7,n3⟩;refine VJ (k:=0) rfl ?_;rintro rfl;refine VJ (k:=1) rfl ?_;rintro rfl;refine wa qf fun b0=>?_;refine az ?_;refine VF ?_;obtain⟨r5,h5,hF⟩:=aa hF;refine ct (fun(v0,l4,v1,l7) ((a3,c2,a4,c3):Vq×Nat×Vq×Nat)=>⟨(.exit 2),(qJ a0 l1 c0 a1 l2 c1 [(5,cq a2 l3),(6,aQ v2),(7,ptr b0 0)]),(dP a0 c0 l1 e0 aK r0 [.rd a1 c1 4 l2.length e3,iO eC r1 l2 e3,.sl a2 4 l3.length e4,iO eC r3 l3 e4,tW b0 v0 a3 l4 c2 v1 a4 l7 c3,dT a3 c2 l4,dT a4 c3 l7,aX H])⟩) r5 ?_ ?_;refine lo h5 (a8,c6,a9,c7) [3,4,5,6,7,8,0,1,2,9] (fun(v4,l9,v5,l10,v3) ((a6,c4,a7,c5):Vq×Nat×Vq×Nat)=>⟨.normal,(qJ a0 l1 c0 a1 l2 c1 [(5,cq a2 l3),(6,aQ v2),(7,ptr b0 0),(8,aQ v3)]),(dP a0 c0 l1 e0 aK r0 [.rd a1 c1 4 l2.length e3,iO eC r1 l2 e3,.sl a2 4 l3.length e4,iO eC r3 l3 e4,tW b0 v4 a6 l9 c4 v5 a7 l10 c5,dT a6 c4 l9,dT a7 c5 l10,aX H])⟩) ?_;clear hF h5;rintro⟨v4,l9,v5,l10,v3⟩ ⟨a6,c4,a7,c5⟩ r hF;unfold pK at hF;refine wz ?_;rcases ah hF with⟨h19,hF⟩|⟨h19,hF⟩;refine wz ?_;refine VC<|VF<|VW (prs:=[(0,12),(4,12),(0,13)]) (by kernel_rfl)<|VD (bh (k:=6) jq rfl rfl rfl) rfl<|VD (aW rfl) rfl<|VD (aW rfl) rfl ?_
 obtain⟨h6,hF⟩:=bU hF;refine Wn.bA (k:=2) rfl (aG h6) ?_;rintro b1 o3 rfl;refine Wn.og (oa yy rfl rfl h6) gn rfl ?_;obtain⟨⟨x3,l13,x4,l14⟩,h20,hF⟩:=aa hF;refine Wn.x (LQ (w:=4) (j:=v3.toNat) (c:=0) (q:=4) jq rfl rfl (uK (k:=0) rfl) rfl h20 (fun _=>rfl) rfl (fun _=>rfl)) gn rfl ?_;rintro⟨_,⟨a13,c10⟩,_,⟨a14,c11⟩⟩;refine VD (aW rfl) rfl<|VD (aW rfl) rfl ?_;obtain⟨h7,hF⟩:=bU hF;refine Wn.bA (k:=3) rfl (aG h7) ?_;rintro b2 o4 rfl;refine Wn.og (oa yq rfl rfl h7) gn rfl ?_;obtain⟨l15,h21,hF⟩:=aa hF;refine Wn.x (LQ (w:=1) (j:=v3.toNat) (c:=0) (q:=5) pv rfl rfl (uK (k:=0) rfl) rfl h21 (fun _=>rfl) rfl (fun _=>rfl)) gn rfl ?_;rintro⟨a15,c12⟩;refine VD (aW rfl) rfl ?_;obtain⟨h8,hF⟩:=bU hF;refine Wn.bA (k:=0) rfl (aG h8) ?_;rintro b3 o5 rfl;refine Wn.og (oa yo rfl rfl h8) gn rfl ?_;obtain⟨⟨x5,x6,x7,x8,x9,x10,x11,x12,x14,x15,x16,x17,x18,x19,x20,x21⟩,h22,hF⟩:=aa hF;refine VD (vK (k:=0) nZ rfl rfl (gK h22) rfl rfl) rfl ?_;obtain⟨⟨r9,l16,r10,l17⟩,h23,hF⟩:=aa hF;refine FU gn (fun m hm=>yd h23 m hm.aj) ?_;rintro⟨a16,c13,n5,a17,c15,n7⟩;refine VK (k:=0) rfl ?_;rintro rfl;refine VK (k:=1) rfl ?_;rintro rfl;obtain⟨⟨r11,l18,r12,l19⟩,h24,hF⟩:=aa hF;refine FU gn (fun m hm=>KZ h24 m hm.aj (hm.q 5) (hm.no 5) (hm.q 6) (hm.no 6) (hm.q 0) (hm.no 0) (hm.q 1) (hm.no 1)) ?_;rintro⟨a18,c16,n8,a19,c17,n9⟩;refine VK (k:=0) rfl ?_;rintro rfl;refine VK (k:=1) rfl ?_;rintro rfl;obtain⟨⟨r13,l20,r14,l21⟩,h25,hF⟩:=aa hF;refine FU gn (fun m hm=>DA h25 m hm.aj (hm.q 17) (hm.no 17) (hm.q 18) (hm.no 18) (hm.q 0) (hm.no 0) (hm.q 1) (hm.no 1)) ?_;rintro⟨a10,c8,n10,a11,c9,n11⟩;refine VK (k:=0) rfl ?_;rintro rfl;refine VK (k:=1) rfl ?_;rintro rfl;refine VX (eo (k:=18) jq rfl rfl rfl rfl rfl)<|VS (fun m hm=>gi.all rfl) ?_;refine az ?_;cases hF;exact ae (a10,c8,a11,c9) [12,13,14,15,16,17,18,0,1,21];refine wz ?_;cases hF;exact ae (a6,c4,a7,c5) (V1 0 10);clear h5;obtain⟨v0,l4,v1,l7⟩:=r5;rintro⟨a3,c2,a4,c3⟩;refine az ?_;refine VN (gy (es:=[[bY v0,aZ a3 l4 c2,bY v1,aZ a4 l7 c3]]) yy rfl (gB yy qf rfl rfl) rfl rfl) gn rfl fun b4=>?_;refine Wo.dp (r:=eC) (L:=([(v0,l4,v1,l7)]:WB (Bool×WB Int×Bool×WB Int))) (es:=[[bY v0,aZ a3 l4 c2,bY v1,aZ a4 l7 c3]]) (qv.cons (r:=eC) (z:=(v0,l4,v1,l7)) (g:=((),(a3,c2),(),(a4,c3))) (Lf.p (Lf.f (AF) _) (Lf.p (Lf.s (k:=8) rfl) (Lf.p (Lf.f (AF) _) (Lf.s (k:=9) rfl)))) qv.nil) ?_;intro r15;obtain⟨h26,hF⟩:=ax hF;refine VN (vI (r:=eC) (k:=6) (q:=7) (k2:=1) (q2:=0) (L:=l3) (L':=([(v0,l4,v1,l7)]:WB (Bool×WB Int×Bool×WB Int))) yy ⟨_,MX⟩ rfl rfl rfl rfl (.arr _ _ _ _ _) rfl rfl h26) gn rfl ?_;rintro⟨a12,r6⟩;refine az ?_;cases hF;exact ae (a12,(e4++([[bY v0,aZ a3 l4 c2,bY v1,aZ a4 l7 c3]]:Vp)),r6) [2,3,4,5,6,7,11];refine wz ?_;cases hF;exact ae (a2,e4,r3) [4,5,6];rintro⟨a5,e5,r4⟩;refine fA ?_;obtain rfl:=S3 hF;exact VH (.tmp rfl .nil) fun m' hm=>⟨(a5,l8.length,l8.length,e5,r4),rfl,(ai.trans (ai.freeze (k:=0) rfl) (ai.au [0,1,2] rfl rfl)) m' hm⟩
def LA{n l1 a0 c0}{r0:Vr}{e0:Vp}{r}(hF:Jd n l1=some r)(m)(h5:Rd m a0 c0 4 l1.length e0)(h6:(ef eC r0 l1 e0).P m):
 aB al 120 [aZ a0 l1 c0] m (fun v m'=>∃x:Vq×Nat,v=.tuple #[.slice x.1 x.2 x.2,.int .i64 r.2]/\Hp m m' [.sl x.1 16 x.2 (r.1.map WN)]):=by
 unfold Jd at hF;refine cw Tryz.func120 (Hp.ub (VO (VG m) bS h5) (dw bS) h6) ?_;refine fA ?_;refine VF ?_;obtain⟨r1,h0,hF⟩:=aa hF;refine ct (fun(r:Int ⊕(WB WQ)) (g:Vq)=>match r,g with|.inl v0,_=>⟨.ret,[(2,.slice none 0 0),(3,aQ v0)],[]⟩|.inr l2,a1=>⟨(.exit 0),[(4,cq a1 l2)],[EN a1 l2]⟩) r1 ?_ ?_
 refine lw h0 none (fun(l3,v1) a2=>⟨.normal,[(0,aZ a0 l1 c0),(4,cq a2 l3),(5,aQ v1)],[.rd a0 c0 4 l1.length e0,iO eC r0 l1 e0,EN a2 l3]⟩) (ai.trans (ai.nil 16 rfl) (ai.au [2,1,0] rfl rfl)) ?_;clear hF h0;rintro⟨l3,v1⟩ a2 r hF;unfold pC at hF;refine wz ?_;rcases ah hF with⟨h7,hF⟩|⟨h7,hF⟩;refine az ?_;obtain⟨h8,hF⟩:=bU hF;refine VP (k:=0) rfl (aG h8) ?_;rintro b0 o3 rfl;refine wz ?_;obtain⟨⟨x3,l4,x4,l7⟩,h9,hF⟩:=aa hF;refine wl 4 0 2 0 h9 ?_;rintro⟨_,⟨a4,c1⟩,_,⟨a5,c2⟩⟩;obtain⟨⟨r3,r4,r5,r6,r7,r8,r9,r10,r11,r12,r13,r14,r15,r16,r17,r18,r19⟩,h10,hF⟩:=aa hF;refine wc gn (fun m hm=>CR h10 m (hm.q 0) (hm.q 1)) ?_;rintro⟨⟩;refine wz ?_;refine wa z68 fun b1=>?_;refine az ?_;rcases ah hF with⟨h11,hF⟩|⟨h11,hF⟩;refine az ?_;cases hF;exact ae none [];refine az ?_;refine VN (gy (es:=([(r3,r4,r5,r6,r7,r8,r9,r10,r11,r12,r13,r14,r15,r16,r17,r18)]:WB WQ).map WN) yo rfl (gB yo z68 rfl rfl) rfl rfl) gn rfl fun b2=>?_;obtain⟨h12,hF⟩:=ax hF;refine VN (jI (k:=7) (k2:=0) (xs:=(l3:WB WQ)) (ys:=([(r3,r4,r5,r6,r7,r8,r9,r10,r11,r12,r13,r14,r15,r16,r17,r18)]:WB WQ)) (dc (cz .u64) (dc (cz .u64) (dc (cz .u64) (dc (cz .u64) (dc (cz .u64) (dc (cz .u64) (dc (cz .u64) (dc (cz .u64) (dc (cz .u64) (dc (cz .u64) (dc (cz .u64) (dc (cz .u64) (dc (cz .u64) (dc (cz .u64) (dc (cz .u64) (cz .u64)))))))))))))))) yo ⟨_,Po⟩ rfl rfl rfl (.arr _ _ _ _ _) h12) gn rfl fun a3=>?_;refine az ?_;cases hF;exact ae a3 [5,6,7];refine wz ?_;cases hF;exact ae a2 [2];rcases r1 with v0|l2;rintro g0;refine wz ?_;cases hF;exact VH (.tmp rfl (.tmp rfl .nil)) fun m' hm=>⟨(none,0),rfl,(ai.trans (ai.nil 16 rfl) (ai.au [0] rfl rfl)) m' hm⟩;rintro a1;refine fA ?_;cases hF;exact ar (a1,l2.length) [0]
def Ol{n l1 l2 x3 a0 c0}{r3:Vr}{e0:Vp}{a1 c1 r}(hF:JE n l1 l2 x3=some r)(m)(h7:s8 m a0 c0 l1 e0)(h8:(ef aK r3 l1 e0).P m)(h9:zP m a1 c1 l2):
 aB al 39 [aZ a0 l1 c0,aZ a1 l2 c1,aQ x3] m (fun v m'=>∃x:Vq×Nat,v=.tuple #[.slice x.1 x.2 x.2,.int .i64 r.2]/\Hp m m' [.sl x.1 16 x.2 (r.1.map WN)]):=by
 unfold JE at hF;refine cw Tryz.func39 (VO (Hp.ub (VO (VG m) bS h7) (dw bS) h8) (Pg (dw bS)) h9) ?_;refine az ?_;obtain⟨r10,h10,hF⟩:=aa hF;refine wc gn (fun m hm=>GV h10 m (hm.q 2) (hm.dp (q:=1) rfl)) ?_;rintro⟨⟩;refine wz ?_;rcases ah hF with⟨h11,hF⟩|⟨h11,hF⟩;refine az ?_;cases hF;exact VH (.tmp rfl (.tmp rfl .nil)) fun m' hm=>⟨(none,0),rfl,(ai.trans (ai.nil 16 rfl) (ai.au [0] rfl rfl)) m' hm⟩;refine az ?_;obtain⟨r11,h12,hF⟩:=aa hF;refine wc gn (fun m hm=>D0 h12 m (hm.q 0)) ?_;rintro⟨⟩;refine wz ?_;rcases ah hF with⟨h13,hF⟩|⟨h13,hF⟩;refine az ?_;cases hF;exact VH (.tmp rfl (.tmp rfl .nil)) fun m' hm=>⟨(none,0),rfl,(ai.trans (ai.nil 16 rfl) (ai.au [0] rfl rfl)) m' hm⟩;refine wz ?_;refine VC<|VC ?_;obtain⟨v0,h14,hF⟩:=aa hF;refine ct (fun v0 (_:WC)=>⟨.normal,(qJ a0 l1 c0 a1 l2 c1 [(2,aQ x3),(34,bY v0)]),(dP a0 c0 l1 e0 aK r3 [jL a1 c1 l2])⟩) v0 ?_ ?_;clear hF;revert v0;intro r hF;refine wz ?_;rcases ah hF with⟨h6,hF⟩|⟨h6,hF⟩;refine wz ?_;cases hF;exact ae () [2,1,0];refine wz ?_;obtain⟨r12,h15,hF⟩:=aa hF;refine wc (gg rfl rfl (sj h6)) (fun m hm=>Eh h15 m (hm.q 0)) ?_;rintro⟨⟩;refine wz ?_;rcases ah hF with⟨h16,hF⟩|⟨h16,hF⟩;refine wz ?_;cases hF;exact ae () [2,1,0];refine wz ?_;rcases ah hF with⟨h17,hF⟩|⟨h17,hF⟩;refine wz ?_;cases hF;exact ae () [2,1,0];refine wz ?_;cases hF;exact ae () [2,1,0];rintro⟨⟩;refine VI ?_;rcases ah hF with⟨h18,hF⟩|⟨h18,hF⟩;refine az ?_;cases hF;exact VH (.tmp rfl (.tmp rfl .nil)) fun m' hm=>⟨(none,0),rfl,(ai.trans (ai.nil 16 rfl) (ai.au [0] rfl rfl)) m' hm⟩;refine fA ?_;refine VF ?_;obtain⟨l3,h0,hF⟩:=aa hF;refine ct (fun l3 ((a2,e4,r4):Vq×Vp ×(Nat->Prop))=>⟨(.exit 0),[(0,aZ a0 l1 c0),(2,aQ x3),(8,cq a2 l3)],(dP a0 c0 l1 e0 aK r3 [.sl a2 4 l3.length e4,iO eC r4 l3 e4])⟩) l3 ?_ ?_;refine lw h0 ((none,[],(fun _=>False)):Vq×Vp ×(Nat->Prop)) (fun(l8,v1) ((a3,e3,r5):Vq×Vp ×(Nat->Prop))=>⟨.normal,(qJ a0 l1 c0 a1 l2 c1 [(2,aQ x3),(8,cq a3 l8),(9,aQ v1)]),(dP a0 c0 l1 e0 aK r3 [jL a1 c1 l2,.sl a3 4 l8.length e3,iO eC r5 l8 e3])⟩) (ai.trans (ai.nil 4 rfl) (ai.trans (ai.zI (r:=eC)) (ai.au [2,3,4,1,0] rfl rfl))) ?_;clear hF h0;rintro⟨l8,v1⟩ ⟨a3,e3,r5⟩ r hF;unfold uN at hF;refine wz ?_;rcases ah hF with⟨h19,hF⟩|⟨h19,hF⟩;refine az ?_;obtain⟨h20,hF⟩:=bU hF;refine VP (k:=2) rfl (aG h20) ?_;rintro b0 o3 rfl;refine wz ?_;obtain⟨⟨x4,x5,x6,x7,x8,x9,x10,x11,x12,x14,x15,x16,x17,x18,x19,x20⟩,h26,hF⟩:=aa hF;refine wz ?_;obtain⟨⟨r0,l4,r1,l7⟩,h21,hF⟩:=aa hF;refine qa gn (fun m hm=>yd h21 m hm.aj) ?_;rintro⟨a4,c2,n2,a5,c3,n3⟩;refine VJ (k:=0) rfl ?_;rintro rfl;refine VJ (k:=1) rfl ?_;rintro rfl;refine VN (gy (es:=[[bY r0,aZ a4 l4 c2,bY r1,aZ a5 l7 c3]]) yy rfl (gB yy qf rfl rfl) rfl rfl) gn rfl fun b1=>?_;refine Wo.dp (r:=eC) (L:=([(r0,l4,r1,l7)]:WB (Bool×WB Int×Bool×WB Int))) (es:=[[bY r0,aZ a4 l4 c2,bY r1,aZ a5 l7 c3]]) (qv.cons (r:=eC) (z:=(r0,l4,r1,l7)) (g:=((),(a4,c2),(),(a5,c3))) (Lf.p (Lf.f (AF) _) (Lf.p (Lf.s (k:=1) rfl) (Lf.p (Lf.f (AF) _) (Lf.s (k:=2) rfl)))) qv.nil) ?_;intro r13;obtain⟨h22,hF⟩:=ax hF;refine VN (vI (r:=eC) (k:=8) (q:=9) (k2:=1) (q2:=0) (L:=l8) (L':=([(r0,l4,r1,l7)]:WB (Bool×WB Int×Bool×WB Int))) yy ⟨_,MX⟩ rfl rfl rfl rfl (.arr _ _ _ _ _) rfl rfl h22) gn rfl ?_;rintro⟨a8,r8⟩;refine az ?_;cases hF;exact ae (a8,(e3++([[bY r0,aZ a4 l4 c2,bY r1,aZ a5 l7 c3]]:Vp)),r8) [5,6,7,8,9];refine wz ?_;cases hF;exact ae (a3,e3,r5) [0,1,3,4];rintro⟨a2,e4,r4⟩;refine az ?_;refine VF ?_;obtain⟨l9,h5,hF⟩:=aa hF;refine ct (fun l9 ((a7,c5,e6,r7):Vq×Nat×Vp ×(Nat->Prop))=>⟨(.exit 2),[(8,aZ a7 l9 c5)],[.rd a7 c5 4 l9.length e6,iO eC r7 l9 e6]⟩) l9 ?_ ?_;refine lw h5 (a2,l3.length,e4,r4) (fun(l10,v2) ((a6,c4,e5,r6):Vq×Nat×Vp ×(Nat->Prop))=>⟨.normal,[(0,aZ a0 l1 c0),(2,aQ x3),(8,aZ a6 l10 c4),(10,aQ v2)],(dP a0 c0 l1 e0 aK r3 [.rd a6 c4 4 l10.length e5,iO eC r6 l10 e5])⟩) (ai.trans (ai.freeze (k:=2) rfl) (ai.au [0,1,2,3] rfl rfl)) ?_;clear hF h5;rintro⟨l10,v2⟩ ⟨a6,c4,e5,r6⟩ r hF;unfold vd at hF;refine wz ?_;rcases ah hF with⟨h23,hF⟩|⟨h23,hF⟩;refine az ?_;obtain⟨l12,h24,hF⟩:=aa hF;refine qa gn (fun m hm=>KP h24 m hm.aj (hm.q 0) (hm.no 0) (hm.dp (q:=1) rfl) (hm.wy (q:=1) rfl) (hm.q 2) (hm.no 2) (hm.dp (q:=3) rfl) (hm.wy (q:=3) rfl)) ?_;rintro⟨a9,c6,n5,e7,r9⟩;refine Wo.Ev (k:=0) (q:=1) (L:=l12) rfl (.inr (.inl ⟨_,rfl⟩)) rfl ?_;rintro rfl;refine az ?_;cases hF;exact ae (a9,c6,e7,r9) [2,3,0,1];refine wz ?_;cases hF;exact ae (a6,c4,e5,r6) [2,3];rintro⟨a7,c5,e6,r7⟩;refine az ?_;obtain⟨⟨l11,r14⟩,h25,hF⟩:=aa hF;refine wc gn (fun m hm=>LA h25 m (hm.q 0) (hm.dp (q:=1) rfl)) ?_;rintro⟨a10,n7⟩;refine Wo.len (k:=0) (xs:=l11) rfl ?_;rintro rfl;refine az ?_;cases hF;exact ar (a10,l11.length) [0]
def Mw{n l1 l5 a2 c3 a6 c7 r}(hF:Qi n l1 l5=some r)(m)(h4:zP m a2 c3 l1)(h8:zP m a6 c7 l5):
 aB al 35 [aZ a2 l1 c3,aZ a6 l5 c7] m (V6 m (.bool r)):=by
 unfold Qi at hF;refine cw Tryz.func35 (VO (VO (VG m) bS h4) (dw bS) h8) ?_;refine az ?_;rcases ah hF with⟨h9,hF⟩|⟨h9,hF⟩;refine az ?_;cases hF;exact ar () [];refine az ?_;refine VF ?_;obtain⟨r98,h97,hF⟩:=aa hF;refine ct (fun(r:WC⊕WC) (g:WC)=>match r,g with|.inl _,_=>⟨.ret,[(4,.bool false)],[]⟩|.inr _,_=>⟨(.exit 0),[],[]⟩) r98 ?_ ?_
 refine lo h97 () [1,0] (fun v11 _=>⟨.normal,(qJ a2 l1 c3 a6 l5 c7 [(12,dn l1),(13,aQ v11)]),[jL a2 c3 l1,jL a6 c7 l5]⟩) ?_;clear hF h97;rintro v11 ⟨⟩ r hF;unfold yI at hF;refine wz ?_;refine VC ?_;rcases ah hF with⟨h55,hF⟩|⟨h55,hF⟩;refine fA ?_;obtain⟨h56,hF⟩:=bU hF;refine VP (k:=0) rfl (aG h56) ?_;rintro b57 o58 rfl;refine wz ?_;obtain⟨⟨x59,x60,x61,x62,x63,x64,x65,x66,x67,x68,x69,x70,x71,x72,x73,x74⟩,h75,hF⟩:=aa hF;refine wz ?_;obtain⟨h76,hF⟩:=bU hF;refine VP (k:=2) rfl (aG h76) ?_;rintro b77 o78 rfl;refine wz ?_;obtain⟨⟨x79,x80,x81,x82,x83,x84,x85,x86,x87,x88,x89,x90,x91,x92,x93,x94⟩,h95,hF⟩:=aa hF;refine wz ?_;refine VB (aN rfl rfl (QC RD (RO _ _ _ _ _ _ _ _ _ _ _ _ _ _ _ _ _ _ _ _ _ _ _ _ _ _ _ _ _ _ _ _))) rfl ?_;refine wz ?_;rcases ah hF with⟨h96,hF⟩|⟨h96,hF⟩;refine az ?_;cases hF;exact ae () [];refine az ?_;cases hF;exact ae () [2,3];refine wz ?_;cases hF;exact ae () [];rcases r98 with _|_;rintro⟨⟩;refine wz ?_;cases hF;exact ar () [];rintro⟨⟩;refine fA ?_;cases hF;exact ar () []
def QX(n l1 x22 l11 x13 x20 x3 x4 x5 x6 x7 x8 x9 x10 x11 x12 x14 x15 x16 x17 x18 x19 l2 x21 a8 c8)(r8:Vr)(e6:Vp)(a9 c9 a0 c1 r)(hF:F6 n l1 x22 l11 x13 x20 x3 x4 x5 x6 x7 x8 x9 x10 x11 x12 x14 x15 x16 x17 x18 x19 l2 x21=some r)(m)(hG:Gl m)(h11:s8 m a8 c8 l1 e6)(h12:(ef aK r8 l1 e6).P m)(h13:Rd m a9 c9 1 l11.length (l11.map (eN .u8)))(h14:zP m a0 c1 l2):
 aB al 6 [aZ a8 l1 c8,.agg #[.int .u8 ((x22:Nat):Int),aZ a9 l11 c9],Pv x13 x20 x3 x4 x5 x6 x7 x8 x9 x10 x11 x12 x14 x15 x16 x17 x18 x19,aZ a0 l2 c1,aQ x21] m (V6 m (.bool r)):=by
 unfold F6 at hF;refine cw Tryz.func6 (VO (VO (Hp.ub (VO (VG m) bS h11) (dw bS) h12) (Pg (dw bS)) h13) (dw (Pg (dw bS))) h14) ?_;refine wz ?_;refine wb fun b3=>?_;refine wb fun b0=>?_;refine az ?_;obtain⟨r9,h15,hF⟩:=aa hF;refine wc gn (fun m hm=>M9 n   _ h15 m (hG.ext hm.ext)) ?_;rintro⟨⟩;refine wz ?_;rcases ah hF with⟨h16,hF⟩|⟨h16,hF⟩;refine az ?_;cases hF;exact ar () [];refine az ?_;obtain⟨l3,h17,hF⟩:=aa hF;refine qa gn (fun m hm=>O0 h17 m hm.aj (hm.q 3) (hm.no 3)) ?_;rintro⟨a7,c0,n2,e0,r0⟩;refine Wo.Ev (k:=0) (q:=1) (L:=l3) rfl (.inr (.inl ⟨_,rfl⟩)) rfl ?_;rintro rfl;refine wz ?_;refine VC<|VC<|VW (prs:=[(2,3)]) (by kernel_rfl)<|VD (aW rfl) rfl<|VD (aW rfl) rfl ?_
 obtain⟨l4,h18,hF⟩:=aa hF;refine FU gn (fun m hm=>MV h18 m hm.aj (hm.q 7) (hm.no 7) (hm.dp (q:=6) rfl) (hm.wy (q:=6) rfl)) ?_;rintro⟨a1,c2,n3,e3,r1⟩;refine Wn.Ev (k:=0) (q:=1) (L:=l4) rfl (.inr (.inl ⟨_,rfl⟩)) rfl ?_;rintro rfl;refine VD (bh (k:=4) Ql rfl rfl rfl) rfl<|VD (aW rfl) rfl ?_;obtain⟨l7,h19,hF⟩:=aa hF;refine FU gn (fun m hm=>NX h19 m hm.aj (hm.q 2) (hm.no 2) (hm.dp (q:=3) rfl) (hm.wy (q:=3) rfl)) ?_;rintro⟨a2,c3,n5,e4,r3⟩;refine Wn.Ev (k:=0) (q:=1) (L:=l7) rfl (.inr (.inl ⟨_,rfl⟩)) rfl ?_;rintro rfl;refine VD (eY rfl z87 rfl (eX Rg rfl rfl rfl)) rfl<|VD (aW rfl) rfl<|VS (fun m hm=>gi.all rfl)<|VI<|VF ?_;obtain⟨r5,h8,hF⟩:=aa hF;refine ct (fun(r:WC⊕WC) (g:WC)=>match r,g with|.inl _,_=>⟨.ret,[(10,.bool false)],[]⟩|.inr _,_=>⟨(.exit 0),[],[]⟩) r5 ?_ ?_
 refine lo h8 () [8,6,4,5,2,3,0,1] (fun v0 _=>⟨.normal,[(3,aZ a0 l2 c1),(4,aQ x21),(7,ptr b0 0),(11,aZ a7 l3 c0),(36,.agg #[aZ a7 l3 c0,aZ a1 l4 c2,aZ a2 l7 c3]),(37,aQ v0)],(jL a0 c1 l2::Bw b0 x13 x20 x3 x4 x5 x6 x7 x8 x9 x10 x11 x12 x14 x15 x16 x17 x18 x19::dP a7 c0 l3 e0 aK r0 (dP a1 c2 l4 e3 aK r1 (dP a2 c3 l7 e4 aK r3 [])))⟩) ?_;clear hF h8;rintro v0 ⟨⟩ r hF;unfold Hh at hF;refine wz ?_;refine VC ?_;rcases ah hF with⟨h20,hF⟩|⟨h20,hF⟩;refine az ?_;obtain⟨h21,hF⟩:=ax hF;obtain⟨l8,h0,hF⟩:=aa hF;refine VN (IN (α:=Vq×Nat×Vp ×(Nat->Prop)) (V:=fun g=>match g with |(a3,c4,e5,r4)=>.slice a3 l8.length c4) (N:=fun g=>match g with |(a3,c4,e5,r4)=>(dP a3 c4 l8 e5 aK r4 [])++(jL a0 c1 l2::Bw b0 x13 x20 x3 x4 x5 x6 x7 x8 x9 x10 x11 x12 x14 x15 x16 x17 x18 x19::dP a7 c0 l3 e0 aK r0 (dP a1 c2 l4 e3 aK r1 (dP a2 c3 l7 e4 aK r3 [])))) rfl rfl (fun m hm=>?_)) gn rfl ?_
 have hj:=iF h21;obtain⟨j,h6⟩:∃j:Nat,(v0:Int)=j:=⟨_,(Ua hj.1).symm⟩;rw[h6] at h0 hj ⊢;rw[SS] at h0 hj;replace hj:=hj.2;clear hF h6
 match j,hj,h0 with
 | 0,_,h0=>cases h0; exact⟨(a7,c0,e0,r0),yY Kc (i:=0) (by decide) (im LC rfl),(Hp.dup (ai.H8 (q:=3) rfl _ hm) (k:=3) rfl)⟩
 | 1,_,h0=>cases h0; exact⟨(a1,c2,e3,r1),yY Kc (i:=1) (by decide) (im LC rfl),(Hp.dup (ai.H8 (q:=5) rfl _ hm) (k:=5) rfl)⟩
 | 2,_,h0=>cases h0; exact⟨(a2,c3,e4,r3),yY Kc (i:=2) (by decide) (im LC rfl),(Hp.dup (ai.H8 (q:=7) rfl _ hm) (k:=7) rfl)⟩
 | _+3,hj,_=>exact Tl hj (by omega)
 rintro⟨a3,c4,e5,r4⟩;refine az ?_;obtain⟨⟨l12,r10⟩,h22,hF⟩:=aa hF;refine wc gn (fun m hm=>NZ h22 m (hm.q 0) (hm.dp (q:=1) rfl)) ?_;rintro⟨a10,n7⟩;refine Wo.len (k:=0) (xs:=l12) rfl ?_;rintro rfl;refine az ?_;obtain⟨⟨l13,r11⟩,h23,hF⟩:=aa hF;refine wc gn (fun m hm=>Nw h23 m (hm.q 1) (hm.dp (q:=2) rfl)) ?_;rintro⟨a11,n8⟩;refine Wo.len (k:=0) (xs:=l13) rfl ?_;rintro rfl;refine wz ?_;refine VC<|VC ?_;obtain⟨v2,h24,hF⟩:=aa hF;refine ct (fun v2 (_:WC)=>⟨.normal,[(3,aZ a0 l2 c1),(4,aQ x21),(7,ptr b0 0),(11,aZ a7 l3 c0),(13,aZ a3 l8 c4),(36,.agg #[aZ a7 l3 c0,aZ a1 l4 c2,aZ a2 l7 c3]),(37,aQ v0),(58,bY v2)],(jL a0 c1 l2::Bw b0 x13 x20 x3 x4 x5 x6 x7 x8 x9 x10 x11 x12 x14 x15 x16 x17 x18 x19::dP a7 c0 l3 e0 aK r0 (dP a3 c4 l8 e5 aK r4 (dP a1 c2 l4 e3 aK r1 (dP a2 c3 l7 e4 aK r3 []))))⟩) v2 ?_ ?_;clear hF;revert v2;intro r hF;refine wz ?_;obtain⟨r12,h25,hF⟩:=aa hF;refine wc gn (fun m hm=>Np h25 m (hm.rd (k:=1) rfl (.sl _ _ _ _)) (hm.rd (k:=0) rfl (.sl _ _ _ _))) ?_;rintro⟨⟩;refine wz ?_;rcases ah hF with⟨h26,hF⟩|⟨h26,hF⟩;refine wz ?_;cases hF;exact ae () [4,5,6,7,2,3,8,9,10,11];refine wz ?_;cases hF;exact ae () [4,5,6,7,2,3,8,9,10,11];rintro⟨⟩;refine VI ?_;rcases ah hF with⟨h27,hF⟩|⟨h27,hF⟩;refine az ?_;cases hF;exact ae () [];refine az ?_;refine VB (Oj rfl rfl (Gh _ _)) rfl ?_;obtain⟨h28,hF⟩:=ax hF;refine VN (uY (k:=0) (lo:=0) (hi:=mi (l2.length:Int) (4:Int)) yo rfl rfl rfl rfl h28 (.inl ⟨rfl,rfl⟩) (.inr ⟨_,rfl⟩)) gn rfl ?_;rintro⟨a4,c5⟩;refine wz ?_;obtain⟨h29,hF⟩:=bU hF;refine VP (k:=3) rfl (aG h29) ?_;rintro b1 o3 rfl;refine wz ?_;obtain⟨l9,h30,hF⟩:=aa hF;refine wl 1 0 5 0 h30 ?_;rintro⟨a5,c6⟩;refine wz ?_;refine VN (gy (es:=([(x3,x4,x5,x6,x7,x8,x9,x10,x11,x12,x14,x15,x16,x17,x18,x19)]:WB WQ).map WN) yo rfl (gB yo z68 rfl rfl) rfl rfl) gn rfl fun b2=>?_;refine VB (eY rfl Sy rfl (eX R6 rfl rfl rfl)) rfl ?_;refine wz ?_;refine VF ?_;obtain⟨r6,h9,hF⟩:=aa hF;refine ct (fun(r:WC⊕WC) (g:WC)=>match r,g with|.inl _,_=>⟨.ret,[(10,.bool false)],[]⟩|.inr _,_=>⟨(.exit 2),[(3,aZ a0 l2 c1),(4,aQ x21),(7,ptr b0 0),(11,jv b1 o3 l3 c0),(36,GN b1 o3 l3 c0 a1 l4 c2 a2 l7 c3),(37,aQ v0)],(jL a0 c1 l2::Bw b0 x13 x20 x3 x4 x5 x6 x7 x8 x9 x10 x11 x12 x14 x15 x16 x17 x18 x19::E1 b1 o3 l3 e0 aK r0 c0 (dP a1 c2 l4 e3 aK r1 (dP a2 c3 l7 e4 aK r3 [])))⟩) r6 ?_ ?_
 refine lw h9 () (fun v1 _=>⟨.normal,[(3,aZ a0 l2 c1),(4,aQ x21),(7,ptr b0 0),(11,jv b1 o3 l3 c0),(13,aZ a3 l8 c4),(36,GN b1 o3 l3 c0 a1 l4 c2 a2 l7 c3),(37,aQ v0),(73,.agg #[.slice a4 ((V2 l2 4).length) c5,aZ a5 l9 c6,.slice (some ⟨b2,0,none⟩) 1 1]),(74,aQ v1)],(jL a0 c1 l2::Bw b0 x13 x20 x3 x4 x5 x6 x7 x8 x9 x10 x11 x12 x14 x15 x16 x17 x18 x19::E1 b1 o3 l3 e0 aK r0 c0 (dP a3 c4 l8 e5 aK r4 (dP a1 c2 l4 e3 aK r1 (dP a2 c3 l7 e4 aK r3 [.rd a4 c5 16 ((V2 l2 4).length) ((V2 l2 4).map WN),jL a5 c6 l9,Fx b2 x3 x4 x5 x6 x7 x8 x9 x10 x11 x12 x14 x15 x16 x17 x18 x19]))))⟩) (ai.trans (ai.close (k:=0) rfl) (ai.trans (ai.freeze (k:=0) rfl) (ai.au [4,5,2,7,6,8,9,10,11,12,13,3,1,0] rfl rfl))) ?_;clear hF h9;rintro v1 ⟨⟩ r hF;unfold G2 at hF;refine wz ?_;refine VC ?_;rcases ah hF with⟨h31,hF⟩|⟨h31,hF⟩;refine az ?_;obtain⟨h32,hF⟩:=ax hF;obtain⟨l10,h5,hF⟩:=aa hF;refine VN (IN (α:=Vq×Nat) (V:=fun g=>match g with |(a6,c7)=>.slice a6 l10.length c7) (N:=fun g=>match g with |(a6,c7)=>[jL a6 c7 l10]++(jL a0 c1 l2::Bw b0 x13 x20 x3 x4 x5 x6 x7 x8 x9 x10 x11 x12 x14 x15 x16 x17 x18 x19::E1 b1 o3 l3 e0 aK r0 c0 (dP a3 c4 l8 e5 aK r4 (dP a1 c2 l4 e3 aK r1 (dP a2 c3 l7 e4 aK r3 [.rd a4 c5 16 ((V2 l2 4).length) ((V2 l2 4).map WN),jL a5 c6 l9,Fx b2 x3 x4 x5 x6 x7 x8 x9 x10 x11 x12 x14 x15 x16 x17 x18 x19]))))) rfl rfl (fun m hm=>?_)) gn rfl ?_
 have hj:=iF h32;obtain⟨j,h6⟩:∃j:Nat,(v1:Int)=j:=⟨_,(Ua hj.1).symm⟩;rw[h6] at h5 hj ⊢;rw[SS] at h5 hj;replace hj:=hj.2;clear hF h6
 match j,hj,h5 with
 | 0,_,h5=>cases h5; exact⟨(a4,c5),yY J1 (i:=0) (by decide) (im pv rfl),(Hp.dup hm (k:=11) rfl)⟩
 | 1,_,h5=>cases h5; exact⟨(a5,c6),yY J1 (i:=1) (by decide) (im pv rfl),(Hp.dup hm (k:=12) rfl)⟩
 | 2,_,h5=>cases h5; exact⟨((some ⟨b2,0,none⟩),1),yY J1 (i:=2) (by decide) (im pv rfl),Hp.dup hm (k:=13) rfl⟩
 | _+3,hj,_=>exact Tl hj (by omega)
 rintro⟨a6,c7⟩;refine az ?_;refine VB (iT rfl (uq (by rw[u3]; rfl) Ru rfl)) rfl<|VB (aN rfl rfl (lV _ _ (by decide))) rfl<|VB (iT rfl (pM (by rw[Ru]; rfl) u3)) rfl<|VB (eY rfl Sr rfl (eX RM rfl rfl rfl)) rfl ?_
 refine wz ?_;refine VF ?_;obtain⟨r7,h10,hF⟩:=aa hF;refine ct (fun(r:WC⊕WC) (g:WC)=>match r,g with|.inl _,_=>⟨.ret,[(10,.bool false)],[]⟩|.inr _,_=>⟨(.exit 4),[(3,aZ a0 l2 c1),(4,aQ x21),(7,ptr b0 0),(11,jv b1 o3 l3 c0),(13,aZ a3 l8 c4),(36,GN b1 o3 l3 c0 a1 l4 c2 a2 l7 c3),(37,aQ v0),(73,.agg #[.slice a4 ((V2 l2 4).length) c5,aZ a5 l9 c6,.slice (some ⟨b2,0,none⟩) 1 1]),(74,aQ v1)],(jL a0 c1 l2::Bw b0 x13 x20 x3 x4 x5 x6 x7 x8 x9 x10 x11 x12 x14 x15 x16 x17 x18 x19::E1 b1 o3 l3 e0 aK r0 c0 (dP a3 c4 l8 e5 aK r4 (dP a1 c2 l4 e3 aK r1 (dP a2 c3 l7 e4 aK r3 [.rd a4 c5 16 ((V2 l2 4).length) ((V2 l2 4).map WN),jL a5 c6 l9,Fx b2 x3 x4 x5 x6 x7 x8 x9 x10 x11 x12 x14 x15 x16 x17 x18 x19]))))⟩) r7 ?_ ?_
 refine lo h10 () [1,2,3,4,5,6,7,0,8,9,10,11,12,13,14] (fun v3 _=>⟨.normal,[(3,aZ a0 l2 c1),(4,aQ x21),(7,ptr b0 0),(11,jv b1 o3 l3 c0),(13,aZ a3 l8 c4),(19,aZ a6 l10 c7),(36,GN b1 o3 l3 c0 a1 l4 c2 a2 l7 c3),(37,aQ v0),(73,.agg #[.slice a4 ((V2 l2 4).length) c5,aZ a5 l9 c6,.slice (some ⟨b2,0,none⟩) 1 1]),(74,aQ v1),(82,PA x21),(83,aQ v3)],(jL a0 c1 l2::Bw b0 x13 x20 x3 x4 x5 x6 x7 x8 x9 x10 x11 x12 x14 x15 x16 x17 x18 x19::E1 b1 o3 l3 e0 aK r0 c0 (dP a3 c4 l8 e5 aK r4 (jL a6 c7 l10::dP a1 c2 l4 e3 aK r1 (dP a2 c3 l7 e4 aK r3 [.rd a4 c5 16 ((V2 l2 4).length) ((V2 l2 4).map WN),jL a5 c6 l9,Fx b2 x3 x4 x5 x6 x7 x8 x9 x10 x11 x12 x14 x15 x16 x17 x18 x19]))))⟩) ?_;clear hF h10;rintro v3 ⟨⟩ r hF;unfold GO at hF;refine wz ?_;refine VC ?_;rcases ah hF with⟨h33,hF⟩|⟨h33,hF⟩;refine az ?_;obtain⟨h34,hF⟩:=ax hF;obtain⟨x23,h7,hF⟩:=aa hF;refine VN (IN (α:=WC) (V:=fun g=>match g with|_=>.int .i64 x23) (N:=fun g=>match g with|_=>[]++(jL a0 c1 l2::Bw b0 x13 x20 x3 x4 x5 x6 x7 x8 x9 x10 x11 x12 x14 x15 x16 x17 x18 x19::E1 b1 o3 l3 e0 aK r0 c0 (dP a3 c4 l8 e5 aK r4 (jL a6 c7 l10::dP a1 c2 l4 e3 aK r1 (dP a2 c3 l7 e4 aK r3 [.rd a4 c5 16 ((V2 l2 4).length) ((V2 l2 4).map WN),jL a5 c6 l9,Fx b2 x3 x4 x5 x6 x7 x8 x9 x10 x11 x12 x14 x15 x16 x17 x18 x19]))))) rfl rfl (fun m hm=>?_)) gn rfl ?_
 have hj:=iF h34;obtain⟨j,h6⟩:∃j:Nat,(v3:Int)=j:=⟨_,(Ua hj.1).symm⟩;rw[h6] at h7 hj ⊢;rw[SS] at h7 hj;replace hj:=hj.2;clear hF h6
 match j,hj,h7 with
 | 0,_,h7=>cases h7; exact⟨(),yY Ow (i:=0) (by decide) (im AG rfl),hm⟩
 | 1,_,h7=>cases h7; exact⟨(),yY Ow (i:=1) (by decide) (im AG rfl),hm⟩
 | _+2,hj,_=>exact Tl hj (by omega)
 rintro⟨⟩;refine az ?_;obtain⟨⟨l14,r13⟩,h35,hF⟩:=aa hF;refine wc gn (fun m hm=>Nb h35 m (hm.q 5) (hm.dp (q:=6) rfl) (hm.q 7)) ?_;rintro⟨a12,n9⟩;refine Wo.len (k:=0) (xs:=l14) rfl ?_;rintro rfl;refine az ?_;obtain⟨⟨l15,r14⟩,h36,hF⟩:=aa hF;refine wc gn (fun m hm=>Ol h36 m (hm.q 6) (hm.dp (q:=7) rfl) (hm.q 8)) ?_;rintro⟨a13,n10⟩;refine Wo.len (k:=0) (xs:=l15) rfl ?_;rintro rfl;refine wz ?_;refine VC ?_;obtain⟨v4,h37,hF⟩:=aa hF;refine ct (fun v4 (_:WC)=>⟨.normal,[(3,aZ a0 l2 c1),(4,aQ x21),(7,ptr b0 0),(11,jv b1 o3 l3 c0),(13,aZ a3 l8 c4),(19,aZ a6 l10 c7),(36,GN b1 o3 l3 c0 a1 l4 c2 a2 l7 c3),(37,aQ v0),(73,.agg #[.slice a4 ((V2 l2 4).length) c5,aZ a5 l9 c6,.slice (some ⟨b2,0,none⟩) 1 1]),(74,aQ v1),(82,PA x21),(83,aQ v3),(108,bY v4)],(jL a0 c1 l2::Bw b0 x13 x20 x3 x4 x5 x6 x7 x8 x9 x10 x11 x12 x14 x15 x16 x17 x18 x19::E1 b1 o3 l3 e0 aK r0 c0 (dP a3 c4 l8 e5 aK r4 (jL a6 c7 l10::dP a1 c2 l4 e3 aK r1 (dP a2 c3 l7 e4 aK r3 [.rd a4 c5 16 ((V2 l2 4).length) ((V2 l2 4).map WN),jL a5 c6 l9,Fx b2 x3 x4 x5 x6 x7 x8 x9 x10 x11 x12 x14 x15 x16 x17 x18 x19]))))⟩) v4 ?_ ?_;clear hF;revert v4;intro r hF;refine wz ?_;obtain⟨r15,h38,hF⟩:=aa hF;refine wc gn (fun m hm=>Mw h38 m (hm.rd (k:=1) rfl (.sl _ _ _ _)) (hm.rd (k:=0) rfl (.sl _ _ _ _))) ?_;rintro⟨⟩;refine wz ?_;rcases ah hF with⟨h39,hF⟩|⟨h39,hF⟩;refine wz ?_;cases hF;exact ae () (V1 2 15);refine wz ?_;cases hF;exact ae () (V1 2 15);rintro⟨⟩;refine VI ?_;rcases ah hF with⟨h40,hF⟩|⟨h40,hF⟩;refine az ?_;cases hF;exact ae () [];refine az ?_;cases hF;exact ae () (V1 0 15);refine wz ?_;cases hF;exact ae () (0::1::2::3::4::5::6::V1 8 7);rcases r7 with _|_;rintro⟨⟩;refine wz ?_;cases hF;exact ae () [];rintro⟨⟩;refine az ?_;cases hF;exact ae () (V1 0 14);refine wz ?_;cases hF;exact ae () [0,1,2,3,4,7,8,9,10];rcases r6 with _|_;rintro⟨⟩;refine wz ?_;cases hF;exact ae () [];rintro⟨⟩;refine az ?_;cases hF;exact ae () [0,1,4,3,5,6,7,8];refine wz ?_;cases hF;exact ae () [];rcases r5 with _|_;rintro⟨⟩;refine wz ?_;cases hF;exact ar () [];rintro⟨⟩;refine fA ?_;cases hF;exact ar () []
end
section
open Go Go.Ab Go.Ab.W
set_option exponentiation.threshold 3000
section
variable{n B:Nat}
def tC{T U a b:Nat}(hT:T≠0)(hU:U≠0)(h:a*U=b*T):dA T a=dA U b:=by
 obtain⟨h1,h2⟩:=AI (a:=a) (b:=T) (c:=b) (d:=U) hT hU h;exact Prod.ext h1 h2
structure Q(l k:WB Nat)(a T:Nat):Prop where
 num:Lg (((dA T a).1:Nat):Int) false l
 den:Lg (((dA T a).2:Nat):Int) false k
def Q.same{l k:WB Nat}{a T b U:Nat}(h:Q l k a T)(hT:T≠0)(hU:U≠0)(e:a*U=b*T):Q l k b U:=by
 have:=tC hT hU e;exact⟨by rw[<-this]; exact h.num,by rw[<-this]; exact h.den⟩
def Q.zero{T:Nat}(hT:T≠0):Q [] [1] 0 T:=⟨by rw[k9 hT]; exact Lg.zero,by rw[k9 hT]; exact yj⟩
def eH{T a:Nat}(hT:T≠0):(dA T a).1<=a/\(dA T a).2<=T/\(dA T a).2≠0:=⟨(nb hT).1,(nb hT).2.1,(nb hT).2.2.1⟩
def rD{T U a b:Nat}(hT:T≠0)(hU:U≠0):dA ((dA T a).2*(dA U b).2) ((dA T a).1*(dA U b).2+(dA U b).1*(dA T a).2)=dA (T*U) (a*U+b*T):=by
 have e1:=(nb (h:=a) hT).2.2.2.2;have e2:=(nb (h:=b) hU).2.2.2.2;refine tC (TU (eH hT).2.2 (eH hU).2.2) (TU hT hU) ?_;generalize(dA T a).1=p at *;generalize(dA T a).2=q at *;generalize(dA U b).1=r at *;generalize(dA U b).2=s at *;have h1:(p*s+r*q)*(T*U)=(p*T)*(s*U)+(r*U)*(q*T):=by
  rw[TI]; simp only[Ty,Tj,Ts]
 rw[h1,e1,e2,TI];simp only[Ty,Tj,Ts]
def p8{T U a b:Nat}(hT:T≠0)(hU:U≠0):dA ((dA T a).2*(dA U b).2) ((dA T a).1*(dA U b).1)=dA (T*U) (a*b):=by
 have e1:=(nb (h:=a) hT).2.2.2.2;have e2:=(nb (h:=b) hU).2.2.2.2;refine tC (TU (eH hT).2.2 (eH hU).2.2) (TU hT hU) ?_;generalize(dA T a).1=p at *;generalize(dA T a).2=q at *;generalize(dA U b).1=r at *;generalize(dA U b).2=s at *;have h1:p*r*(T*U)=(p*T)*(r*U):=by simp only[Ty,Tj,Ts]
 rw[h1,e1,e2];simp only[Ty,Tj,Ts]
def Bd.len(hB:Bd B n){v:Nat}{l:WB Nat}(h:Lg (v:Int) false l)(hv:v<=B*B*2):l.length<=7900:=h.nV (by rw[TJ]; exact TT hv hB.wq)
def Q.len{l k:WB Nat}{a T:Nat}(h:Q l k a T)(hB:Bd B n)(hT:T≠0)(hTb:T<=B)(ha:a<=B):l.length<=7900/\k.length<=7900:=by
 obtain⟨h1,h2,_⟩:=eH (a:=a) hT;have:=hB.sq;exact⟨hB.len h.num (by omega),hB.len h.den (by omega)⟩
def nP(hn:10000000<n){a b:Nat}{l k:WB Nat}(h:Lg (a:Int) false l)(h':Lg (b:Int) false k)(hl:l.length<=7900)(hk:k.length<=7900):∃m,FW n false l false k=some (false,m)/\Lg ((a*b:Nat):Int) false m:=by
 obtain⟨u,m,h1,h2⟩:=OP (n:=n) h h' (by omega) (by omega) (by omega)
 rw[<-U1] at h2;have:=h2.un;subst this;exact⟨m,h1,h2⟩
def OG(hn:10000000<n){a b:Nat}{l k:WB Nat}(h:Lg (a:Int) false l)(h':Lg (b:Int) false k)(hl:l.length<=7900)(hk:k.length<=7900):∃m,wU n false l false k=some (false,m)/\Lg ((a+b:Nat):Int) false m:=by
 obtain⟨u,m,h1,h2⟩:=CM (n:=n) h h' (by omega) (by omega) (by omega)
 rw[<-Int.natCast_add] at h2;have:=h2.un;subst this;exact⟨m,h1,h2⟩
def Q.plus(hB:Bd B n){l k l' k':WB Nat}{a T b U:Nat}(h:Q l k a T)(h':Q l' k' b U)(hT:T≠0)(hU:U≠0)(hTb:T<=B)(hUb:U<=B)(ha:a<=B)(hb:b<=B) :
  ∃m p,E9 n false l false k false l' false k'=some (false,m,false,p)/\Q m p (a*U+b*T) (T*U):=by
 have hn:=hB.ns;have hnq:=hB.nq;obtain⟨l1,k1⟩:=h.len hB hT hTb ha;obtain⟨l2,k2⟩:=h'.len hB hU hUb hb;obtain⟨p1,q1,q01⟩:=eH (a:=a) hT;obtain⟨p2,q2,q02⟩:=eH (a:=b) hU;obtain⟨m1,f1,g1⟩:=nP hn h.num h'.den l1 k2;obtain⟨m2,f2,g2⟩:=nP hn h'.num h.den l2 k1;obtain⟨m3,f3,g3⟩:=nP hn h.den h'.den k1 k2;have x1:=hB.mul (Tb p1 ha) (Tb q2 hUb);have x2:=hB.mul (Tb p2 hb) (Tb q1 hTb);have x3:=hB.mul (Tb q1 hTb) (Tb q2 hUb);have y1:=hB.len g1 (by omega)
 have y2:=hB.len g2 (by omega)
 have y3:=hB.len g3 (by omega)
 obtain⟨m4,f4,g4⟩:=OG hn g1 g2 y1 y2;have y4:=hB.len g4 (by omega)
 obtain⟨m,p,f5,g5,g6⟩:=yB (n:=n) hn (by omega) (TU q01 q02) g4 g3 (by omega) (by omega)
 refine⟨m,p,?_,⟨by rw[<-rD hT hU]; exact g5,by rw[<-rD hT hU]; exact g6⟩⟩
 unfold E9;rw[f1,ab]
 dsimp only
 rw[f2,ab]
 dsimp only
 rw[f4,ab]
 dsimp only
 rw[f3,ab]
 dsimp only
 rw[f5,ab]
def Q.times(hB:Bd B n){l k l' k':WB Nat}{a T b U:Nat}(h:Q l k a T)(h':Q l' k' b U)(hT:T≠0)(hU:U≠0)(hTb:T<=B)(hUb:U<=B)(ha:a<=B)(hb:b<=B) :
  ∃m p,H3 n false l false k false l' false k'=some (false,m,false,p)/\Q m p (a*b) (T*U):=by
 have hn:=hB.ns;have hnq:=hB.nq;obtain⟨l1,k1⟩:=h.len hB hT hTb ha;obtain⟨l2,k2⟩:=h'.len hB hU hUb hb;obtain⟨p1,q1,q01⟩:=eH (a:=a) hT;obtain⟨p2,q2,q02⟩:=eH (a:=b) hU;obtain⟨m1,f1,g1⟩:=nP hn h.num h'.num l1 l2;obtain⟨m3,f3,g3⟩:=nP hn h.den h'.den k1 k2;have x1:=hB.mul (Tb p1 ha) (Tb p2 hb);have x3:=hB.mul (Tb q1 hTb) (Tb q2 hUb);have y1:=hB.len g1 (by omega)
 have y3:=hB.len g3 (by omega)
 obtain⟨m,p,f5,g5,g6⟩:=yB (n:=n) hn (by omega) (TU q01 q02) g1 g3 (by omega) (by omega)
 refine⟨m,p,?_,⟨by rw[<-p8 hT hU]; exact g5,by rw[<-p8 hT hU]; exact g6⟩⟩
 unfold H3;rw[f1,ab]
 dsimp only
 rw[f3,ab]
 dsimp only
 rw[f5,ab]
def Q.RB(hB:Bd B n){l k:WB Nat}{a T:Nat}(h:Q l k a T)(hT:T≠0)(hTb:T<=B)(ha:a<=B):∃r,Jh n false l false k false [1] false [1]=some r/\(r=0↔a=T):=by
 have hn:=hB.ns;obtain⟨l1,k1⟩:=h.len hB hT hTb ha;obtain⟨m1,f1,g1⟩:=nP hn h.num (show Lg ((1:Nat):Int) false [1] from yj) l1 (by decide)
 obtain⟨m2,f2,g2⟩:=nP hn (show Lg ((1:Nat):Int) false [1] from yj) h.den (by decide) k1
 obtain⟨p1,q1,q0⟩:=eH (a:=a) hT;have hs:=hB.sq;have y1:=hB.len g1 (by omega)
 have y2:=hB.len g2 (by omega)
 obtain⟨u,z,z1,z2⟩:=DC (n:=n) g1 g2 (by omega) (by omega) (by omega)
 obtain⟨v,v1,v2,v3⟩:=nA (n:=n) z2;refine⟨v,?_,?_⟩
 unfold Jh;rw[f1,ab]
 dsimp only
 rw[f2,ab]
 dsimp only
 unfold FE;rw[z1,ab]
 dsimp only
 rw[v1,ab,ab]
 have e:=(nb (h:=a) hT).2.2.2.2;rw[v3];constructor
 intro g;have:(dA T a).1=(dA T a).2:=by omega
 rw[this,Tj] at e;exact(Nat.eq_of_mul_eq_mul_right (Tg q0) e).symm
 rintro rfl;rw[tF hT]; decide
def RL(a T:Nat):Bool×WB Int×Bool×WB Int:=(false,Dg (dA T a).1,false,Dg (dA T a).2)
def D1{a T b U:Nat}(hT:T≠0)(hU:U≠0)(e:a*U=b*T):RL a T=RL b U:=by unfold RL; rw[tC hT hU e]
def Cy(hB:Bd B n){a T b U:Nat}(hT:T≠0)(hU:U≠0)(hTb:T<=B)(hUb:U<=B)(ha:a<=B)(hb:b<=B) :
  BT n false (Dg (dA T a).1) false (Dg (dA T a).2) false (Dg (dA U b).1) false (Dg (dA U b).2)=some (RL (a*U+b*T) (T*U)):=by
 obtain⟨p1,q1,q01⟩:=eH (a:=a) hT;obtain⟨p2,q2,q02⟩:=eH (a:=b) hU;rw[Lc hB (by omega) (by omega) (by omega) (by omega) q01 q02,rD hT hU]
 rfl
def LJ(hn:1000000<n){b:Nat}(hb:b<DM):Ft n false (Dg b)=some (decide (b≠0),Dg b):=by
 unfold Ft
 by_cases h:b=0
 subst h;have:=BK n (v:=0) (by rw[fW]; decide) hn
 unfold kv;rw[this,ab,To,bZ,fW]
 rfl
 rw[To,sw n hb h hn,ab,S4 h]
def D5(hn:1000000<n){a b:Nat}(ha:a<DM)(hb:b<DM):∃r:Int,Eu n false (Dg a) false (Dg b)=some r/\(r=0↔a=b)/\(r<0↔a<b):=by
 have L:∀v:Nat,0<(Dg v).length↔v≠0:=fun v=>⟨fun h c=>(by subst c; rw[fW] at h; cases h),fun h=>US.2 fun c=>h (nU.1 c)⟩
 unfold Eu HW;rw[LJ hn hb,ab]
 dsimp only
 unfold vU
 by_cases h:b=0
 subst h;rw[show decide ((0:Nat)≠0)=false from rfl,show((false==false))=true from rfl,bZ,De n (by omega) hn,ab,TP,mc n ha hn,ab]
 dsimp only
 rw[ab]
 dsimp only
 rw[ab]
 dsimp only
 rw[bB];have:=L a
 by_cases c:a=0
 rw[V4]; exact⟨0,rfl,by omega,by omega⟩
 rw[V3]; exact⟨1,rfl,by omega,by omega⟩
 rw[S4 h,show((false==true))=false from rfl,bB]
 obtain⟨r,f1,f2,f3⟩:=wY n ha hb hn;rw[f1,ab]
 by_cases c:b<=a
 have:=L (a-b);rw[V3,q9 n c ha hn,ab,mc n (by omega) hn,ab]
 dsimp only
 rw[ab]
 dsimp only
 rw[ab]
 dsimp only
 rw[bB]
 by_cases c':a=b
 rw[V4]; exact⟨0,rfl,by omega,by omega⟩
 rw[V3]; exact⟨1,rfl,by omega,by omega⟩
 rw[V4,q9 n (by omega) hb hn,ab,sw n (by omega) (by omega) hn,ab]
 dsimp only
 rw[ab]
 dsimp only
 rw[ab]
 dsimp only
 rw[bZ];exact⟨-1,rfl,by omega,by omega⟩
def H5(hn:2000000<n){a:Nat}(ha:a<=1):zD n (a:Int) 1=some (false,Dg a,false,Dg 1):=by
 have hd:=zf;have h1:(1:Nat)<2 ^ 512:=by decide +kernel
 unfold zD;rw[Ho n (by omega) (by omega),ab]
 dsimp only
 rw[show(1:Int)=((1:Nat):Int) from rfl,Ho n (v:=1) (by decide) (by omega),ab]
 dsimp only
 rw[xU hn (by omega) (by decide) (by omega) (by omega),ab]
 match a,ha with
 | 0,_=>rw[k9 (by decide)]
 | 1,_=>rw[tF (by decide)]
def KO(hB:Bd B n){a T:Nat}(hT:T≠0)(hTb:T<=B)(ha:a<=B):∃r,IZ n false (Dg (dA T a).1) false (Dg (dA T a).2) false (Dg 1) false (Dg 1)=some r/\(r=0↔a=T):=by
 obtain⟨p1,q1,q0⟩:=eH (a:=a) hT;have hs:=hB.sq;have hd:=hB.dq;have hn:=hB.ns;have h1:=hB.one;obtain⟨r,r1,r2,_⟩:=D5 (n:=n) (by omega) (a:=(dA T a).1*1) (b:=1*(dA T a).2) (by omega) (by omega)
 refine⟨r,?_,?_⟩
 unfold IZ;rw[nC (by omega) (by omega) (by omega) (by omega),ab]
 dsimp only
 rw[nC (by omega) (by omega) (by omega) (by omega),ab]
 dsimp only
 rw[r1,ab]
 have e:=(nb (h:=a) hT).2.2.2.2;rw[r2];constructor
 intro g;have:(dA T a).1=(dA T a).2:=by omega
 rw[this,Tj] at e;exact(Nat.eq_of_mul_eq_mul_right (Tg q0) e).symm
 rintro rfl;rw[tF hT]
end
end
section
open Go Go.Ab Go.Ab.W
set_option exponentiation.threshold 3000
@[irreducible] def Mx:Nat:=2 ^ 511
def yW:Mx=2 ^ 511:=by unfold Mx; rfl
def kF:0<Mx:=by rw[yW]; exact Vi (by decide)
def RS:5<=Mx:=by rw[yW]; decide +kernel
def sm(f:Nat->Nat):Nat->Nat
 | 0=>0
 | k+1=>sm f k+f k
def ze{f g:Nat->Nat}:∀{k:Nat},(∀i,i<k->f i=g i)->sm f k=sm g k
 | 0,_=>rfl
 | k+1,h=>by rw[sm,sm,ze fun i hi=>h i (by omega),h k (by omega)]
def zY{f:Nat->Nat}:∀{k N:Nat},k<=N->sm f k<=sm f N
 | k,0,h=>by rw[show k=0 by omega]; exact SX _
 | k,N+1,h=>by
  by_cases e:k=N+1
  rw[e]; exact SX _
  have:=zY (f:=f) (k:=k) (N:=N) (by omega)
  rw[sm]; omega
def qp{f:Nat->Nat}{i N:Nat}(h:i<N):f i<=sm f N:=by
 have:=zY (f:=f) (k:=i+1) (N:=N) h;rw[sm] at this; omega
def Gy{f:Nat->Nat}{c:Nat}:∀{k:Nat},(∀i,i<k->f i<=c)->sm f k<=k*c
 | 0,_=>Uw _
 | k+1,h=>by rw[sm,UL]; exact Nat.add_le_add (Gy fun i hi=>h i (by omega)) (h k (by omega))
def rG{f:Nat->Nat}{c:Nat}:∀{k:Nat},sm (fun i=>f i*c) k=sm f k*c
 | 0=>by simp[sm]
 | k+1=>by rw[sm,sm,rG,TI]
structure ShQ(x:Sh)(a T:Nat):Prop where
 ws:WS x
 num:zv (nW x)=(((dA T a).1:Nat):Int)
 den:zv (dW x)=(((dA T a).2:Nat):Int)
def ShQ.same{x:Sh}{a T b U:Nat}(h:ShQ x a T)(hT:T≠0)(hU:U≠0)(e:a*U=b*T):ShQ x b U:=by
 have:=tC hT hU e;exact⟨h.ws,by rw[<-this]; exact h.num,by rw[<-this]; exact h.den⟩
def rr(x:Sh):Bool:=BA x&&decide (0<=zv (nW x))
attribute [local irreducible] zv
def OJ{x:Sh}(hw:WS x)(h:rr x=true):∃p q,ShQ x p q/\q≠0/\p<=Mx/\q<=Mx:=by
 have h1:=Bool.and_eq_true_iff.1 h;have h2:=Bool.and_eq_true_iff.1 h1.1;have p0:=of_decide_eq_true h1.2;have q0:=of_decide_eq_true h2.1;have g:=of_decide_eq_true h2.2;have hl:(nW x).length=8/\(dW x).length=8:=⟨rfl,rfl⟩;have a1:=nh hw.1 hl.1;have a2:=nh hw.2 hl.2;rw[<-yW] at a1 a2;have e:dA (zv (dW x)).natAbs (zv (nW x)).natAbs=((zv (nW x)).natAbs,(zv (dW x)).natAbs):=by
  unfold dA;rw[g,Nat.div_one,Nat.div_one]
 refine⟨(zv (nW x)).natAbs,(zv (dW x)).natAbs,⟨hw,?_,?_⟩,by omega,a1,a2⟩
 exact(Int.natAbs_of_nonneg p0).symm.trans (Up (fun z:Nat×Nat=>(z.1:Int)) e.symm)
 exact(Int.natAbs_of_nonneg (Int.le_of_lt q0)).symm.trans (Up (fun z:Nat×Nat=>(z.2:Int)) e.symm)
structure VQ(L:WB Sh)(v:Nat->Nat)(T N:Nat):Prop where
 len:L.length=N
 at_:∀i,i<N->∃x,L[i]? = some x/\ShQ x (v i) T
def BV{L:WB Sh}:∀k,k<=L.length->(∀i,i<k->∃x,L[i]? = some x/\WS x/\rr x=true)->∃(v:Nat->Nat) (T:Nat),(∀i,i<k->∃x,L[i]? = some x/\ShQ x (v i) T/\v i<=Mx*T)/\T≠0/\T<=Mx ^ k
 | 0,_,_=>⟨fun _=>0,1,fun i hi=>Tl hi (by omega),by decide,by rw[UB]; exact SX _⟩
 | k+1,h,hx=>by
  obtain⟨v,T,h1,h2,h3⟩:=BV k (by omega) fun i hi=>hx i (by omega)
  obtain⟨x,e,hw,hp⟩:=hx k (by omega)
  obtain⟨p,q,g1,g2,g3,g4⟩:=OJ hw hp;have hTq:T*q≠0:=TU h2 g2;refine⟨fun i=>if i<k then v i*q else p*T,T*q,fun i hi=>?_,hTq,by rw[TE]; exact T0 h3 g4⟩
  by_cases c:i<k
  obtain⟨y,e1,e2,e3⟩:=h1 i c;refine⟨y,e1,?_,?_⟩
  show ShQ y (if i<k then v i*q else p*T) (T*q)
  rw[S7 c];exact e2.same h2 hTq (by simp only[Tj,Ts])
  show(if i<k then v i*q else p*T)<=Mx*(T*q)
  rw[S7 c,<-Ty];exact T2 _ e3
  have:i=k:=by omega
  subst this;refine⟨x,e,?_,?_⟩
  show ShQ x (if i<i then v i*q else p*T) (T*q)
  rw[S8 c];exact g1.same g2 hTq (by simp only[Tj,Ts])
  show(if i<i then v i*q else p*T)<=Mx*(T*q)
  rw[S8 c];exact T0 g3 (Nat.le_mul_of_pos_right T (Tg g2))
def u7(p:Nat->Bool):∀N,(∀i,i<N->p i=true)\/∃j,j<N/\p j=false/\∀i,i<j->p i=true
 | 0=>.inl fun i hi=>Tl hi (by omega)
 | N+1=>by
  rcases u7 p N with h|⟨j,h1,h2,h3⟩
  ·cases hN:p N with
   | true=>exact .inl fun i hi=>if c:i=N then c▸hN else h i (by omega)
   | false=>exact .inr ⟨N,by omega,hN,h⟩
  exact .inr ⟨j,by omega,h2,h3⟩
section
variable{n B:Nat}
def Da(hn:1000<n){a b c d e f g i a' b' c' d' e' f' g' i' v T:Nat}(h:ShQ (a,b,c,d,e,f,g,i,a',b',c',d',e',f',g',i') v T):∃l k,Im n a b c d e f g i a' b' c' d' e' f' g' i'=some (false,l,false,k)/\Q l k v T:=by
 obtain⟨s,l,t,k,f1,f2,f3⟩:=ye hn h.ws;have e1:=h.num;have e2:=h.den
 change zv [a,b,c,d,e,f,g,i]=_ at e1
 change zv [a',b',c',d',e',f',g',i']=_ at e2
 rw[e1] at f2;rw[e2] at f3;have:=f2.un;subst this;have:=f3.un;subst this;exact⟨l,k,f1,f2,f3⟩
def AO(hn:2000000<n){a b c d e f g i a' b' c' d' e' f' g' i' v T:Nat}(h:ShQ (a,b,c,d,e,f,g,i,a',b',c',d',e',f',g',i') v T):zq n a b c d e f g i a' b' c' d' e' f' g' i'=some (RL v T):=by
 have e1:=h.num;have e2:=h.den
 change zv [a,b,c,d,e,f,g,i]=_ at e1
 change zv [a',b',c',d',e',f',g',i']=_ at e2
 unfold zq RL;rw[kM hn h.ws.1,ab]
 dsimp only
 rw[kM hn h.ws.2,ab]
 dsimp only
 rw[e1,e2,Ta (by omega),Ta (by omega),TJ,TJ]
def Je(hn:2 ^ 600<n){a b c d e f g i a' b' c' d' e' f' g' i':Nat}(h:WS (a,b,c,d,e,f,g,i,a',b',c',d',e',f',g',i')) :
  GD n a b c d e f g i a' b' c' d' e' f' g' i'=some (!rr (a,b,c,d,e,f,g,i,a',b',c',d',e',f',g',i')):=by
 unfold GD rr;rw[yG hn h,ab];cases hk:BA (a,b,c,d,e,f,g,i,a',b',c',d',e',f',g',i') with
 | false=>rfl
 | true =>
  obtain⟨s,l,t,k,f1,f2,f3⟩:=ye (n:=n) (by omega) h
  obtain⟨r,r1,r2,r3⟩:=nA (n:=n) f2;rw[S7 rfl,S4 rfl,S9,bB,f1,ab]
  dsimp only
  rw[r1,ab,Bool.true_and]
  show _=some (!decide (0<=zv [a,b,c,d,e,f,g,i]))
  by_cases c0:r<0
  rw[S4 c0,Ta (by omega)]; rfl
  rw[Ta c0,S4 (by omega)]; rfl
def Ix(hn:2 ^ 600<n){a b c d e f g i a' b' c' d' e' f' g' i':Nat}(h:WS (a,b,c,d,e,f,g,i,a',b',c',d',e',f',g',i')) :
  GZ n a b c d e f g i a' b' c' d' e' f' g' i'=some (!BA (a,b,c,d,e,f,g,i,a',b',c',d',e',f',g',i')):=by
 unfold GZ;rw[yG hn h,ab];cases BA (a,b,c,d,e,f,g,i,a',b',c',d',e',f',g',i')<;>rfl
def D3(p:Sh->Bool)(L:WB Sh)(i:Nat):Bool:=match L[i]? with
 | some x=>p x
 | none=>true
def tA{p:Sh->Bool}{L:WB Sh}{i:Nat}{x:Sh}(h:L[i]? = some x):D3 p L i=p x:=by unfold D3; rw[h]
def WL(L:WB Sh):Prop:=∀x,x∈L->WS x
def WL.at_{L:WB Sh}(h:WL L){i:Nat}(hi:i<L.length):∃x,L[i]? = some x/\WS x:=⟨L[i],SU hi,h _ (UW hi)⟩
def scan{L:WB Sh}{ρ:Type}(p:Sh->Bool)(hN:L.length<n){body:Int->WA (Int⊕ρ)}(stop:Nat->ρ)(done:ρ)
  (hs:∀i x,i<L.length->L[i]? = some x->body (i:Int)=if p x then some (.inl ((i+1:Nat):Int)) else some (.inr (stop i))) (he:body (L.length:Int)=some (.inr done)) :
  ((∀i,i<L.length->D3 p L i=true)/\bH body n 0=some done)\/∃j,j<L.length/\D3 p L j=false/\(∀i,i<j->D3 p L i=true)/\bH body n 0=some (stop j):=by
 have one:∀i,i<L.length->D3 p L i=true->body (i:Int)=some (.inl ((i+1:Nat):Int)):=fun i hi h=>by
  rw[hs i L[i] hi (SU hi),S7 (by rw[tA (SU hi)] at h; exact h)]
 rcases u7 (D3 p L) L.length with h|⟨j,h1,h2,h3⟩
 obtain⟨_,g,_⟩:=aR (body:=body) L.length (fun(_:WC) (v:Int)=>v) (fun _=>done) (fun _ _=>True) (fun s i hi _=>⟨(),one i hi (h i hi),trivial⟩) (fun s _=>he) (n:=n) (s:=()) trivial hN;exact .inl ⟨h,g⟩
 obtain⟨_,g,_⟩:=aR (body:=body) j (fun(_:WC) (v:Int)=>v) (fun _=>stop j) (fun _ _=>True) (fun s i hi _=>⟨(),one i (by omega) (h3 i hi),trivial⟩) (fun s _=>by
  rw[hs j L[j] h1 (SU h1),S8 (by rw[tA (SU h1)] at h2; rw[h2]; decide)]) (n:=n) (s:=()) trivial (by omega)
 exact .inr ⟨j,h1,h2,h3,g⟩
def FJ{L:WB Sh}{i:Nat}(h:D3 rr L i=true):D3 BA L i=true:=by
 unfold D3 at *;cases hL:L[i]? with
 | none=>rfl
 | some x=>rw[hL] at h; exact(Bool.and_eq_true_iff.1 h).1
def w7(hn:2 ^ 600<n){L:WB Sh}(hL:WL L)(hN:L.length<=1000):((∀i,i<L.length->D3 BA L i=true)/\bH (sL n L) n 0=some (.inr ())/\rN n L=some true)\/((∃i,i<L.length/\D3 BA L i=false)/\(∃j:Nat,bH (sL n L) n 0=some (.inl (j:Int)))/\rN n L=some false):=by
 have h1:=scan (n:=n) (L:=L) BA (by omega) (body:=sL n L) (fun j=>.inl (j:Int)) (.inr ()) (fun i x hi e0=>by
  have hw:=hL x (Ti e0);obtain⟨a,b,c,d,e,f,g,i,a',b',c',d',e',f',g',i'⟩:=x;unfold sL;rw[V3,ak hi,aw,SS,e0,ab]
  dsimp only
  rw[Ix hn hw,ab,V5]
  cases BA (a,b,c,d,e,f,g,i,a',b',c',d',e',f',g',i')<;>rfl) (by
  unfold sL;rw[V4])
 have h2:=scan (n:=n) (L:=L) BA (by omega) (body:=rz n L) (fun _=>.inl ()) (.inr ()) (fun i x hi e0=>by
  have hw:=hL x (Ti e0);obtain⟨a,b,c,d,e,f,g,i,a',b',c',d',e',f',g',i'⟩:=x;unfold rz;rw[V3,ak hi,aw,SS,e0,ab]
  dsimp only
  rw[Ig hn hw,ab,V5]
  cases BA (a,b,c,d,e,f,g,i,a',b',c',d',e',f',g',i')<;>rfl) (by
  unfold rz;rw[V4])
 rcases h1 with⟨a1,a2⟩|⟨j,a1,a2,a3,a4⟩<;>rcases h2 with⟨b1,b2⟩|⟨k,b1,b2,b3,b4⟩
 exact .inl ⟨a1,a2,by unfold rN; rw[b2]; rfl⟩
 rw[a1 k b1] at b2; cases b2
 rw[b1 j a1] at a2; cases a2
 exact .inr ⟨⟨j,a1,a2⟩,⟨j,a4⟩,by unfold rN; rw[b4]; rfl⟩
def Bd.n6(hB:Bd B n)(hb:Mx ^ 8<=B):2 ^ 600<n:=by
 have h1:=hB.nq;have h2:=hB.sq;have h3:Mx ^ 2<=Mx ^ 8:=Td kF (by decide)
 have:(2:Nat) ^ 600<Mx ^ 2:=by rw[yW]; decide +kernel
 omega
def Gx(hB:Bd B n){L:WB Sh}{v:Nat->Nat}{T k:Nat}(hk:k<=L.length)(hN:L.length<=1000)(h:∀i,i<k->∃x,L[i]? = some x/\ShQ x (v i) T)(hT:T≠0)(hTb:T<=B)(hs:sm v k<=B)(hkL:k=L.length) :
  ∃l p,bH (pq n L) n (false,[],false,[1],0)=some (false,l,false,p)/\Q l p (sm v k) T:=by
 have hn:=hB.ns;have h2:=aR (body:=pq n L) k (fun(s:WB Nat×WB Nat) (v:Int)=>(false,s.1,false,s.2,v)) (fun s=>(false,s.1,false,s.2)) (fun i s=>Q s.1 s.2 (sm v i) T) (fun s i hi hq=>by
  obtain⟨x,e0,q⟩:=h i hi;obtain⟨a,b,c,d,e,f,g,j,a',b',c',d',e',f',g',j'⟩:=x;obtain⟨l,p,f1,q⟩:=Da (n:=n) (by omega) q
  have l1:=qp (f:=v) hi;have l2:=zY (f:=v) (UQ hi);obtain⟨m,p',f3,f4⟩:=hq.plus hB q hT hT hTb hTb (by omega) (by omega)
  refine⟨(m,p'),?_,f4.same (TU hT hT) hT (by rw[sm,<-TI,Ty])⟩
  unfold pq
  dsimp only
  rw[V3,ak (by omega),aw,SS,e0,ab]
  dsimp only
  rw[f1,ab]
  dsimp only
  rw[f3,ab]
  dsimp only
  rw[V5]) (fun s _=>by
  unfold pq
  dsimp only
  rw[V4]) (n:=n) (s:=([],[1])) (Q.zero hT) (by omega)
 obtain⟨s,h2,g⟩:=h2;exact⟨s.1,s.2,h2,g⟩
def Ae(hB:Bd B n){L:WB Sh}{v:Nat->Nat}{T k:Nat}(hk:k<=L.length)(hN:L.length<=1000)(h:∀i,i<k->∃x,L[i]? = some x/\ShQ x (v i) T)(hT:T≠0)(hTb:T<=B)(hs:sm v k<=B){ρ:WC ⊕(Bool×WB Int×Bool×WB Int)}
  (he:lu n L (false,Dg (dA T (sm v k)).1,false,Dg (dA T (sm v k)).2,(k:Int))=some (.inr ρ)):bH (lu n L) n (false,Dg 0,false,Dg 1,0)=some ρ:=by
 have hn:=hB.ns;have h2:=aR (body:=lu n L) k (fun(s:Nat×Nat) (v:Int)=>(false,Dg s.1,false,Dg s.2,v)) (fun _=>ρ) (fun i s=>s=dA T (sm v i)) (fun s i hi hq=>by
  subst hq;obtain⟨x,e0,q⟩:=h i hi;obtain⟨a,b,c,d,e,f,g,j,a',b',c',d',e',f',g',j'⟩:=x;have l1:=qp (f:=v) hi;have l2:=zY (f:=v) (UQ hi);refine⟨dA T (sm v (i+1)),?_,rfl⟩;have hp:=Cy hB (a:=sm v i) (b:=v i) hT hT hTb hTb (by omega) (by omega)
  rw[D1 (a:=sm v i*T+v i*T) (T:=T*T) (b:=sm v (i+1)) (U:=T) (TU hT hT) hT (by rw[sm,<-TI,Ty])] at hp
  unfold lu
  dsimp only
  rw[V3,ak (by omega),aw,SS,e0,ab]
  dsimp only
  rw[AO (by omega) q,ab]
  unfold RL at hp ⊢
  dsimp only
  rw[bB,hp,ab]
  dsimp only
  rw[V5]) (fun s hs=>by subst hs; exact he) (n:=n) (s:=(0,1)) (by rw[sm,k9 hT]) (by omega)
 obtain⟨s,h2,_⟩:=h2;exact h2
def xR(hn:2000000<n):FN n=some (false,Dg 0,false,Dg 1):=by
 unfold FN;rw[show(0:Int)=((0:Nat):Int) from rfl,H5 hn (a:=0) (by decide),ab]
def zR(hB:Bd B n)(hb:Mx ^ 8<=B){L:WB Sh}(hL:WL L)(hN:L.length<=5) :
  (∃v T,VQ L v T L.length/\T≠0/\T<=Mx ^ L.length/\rV n L=some (decide (sm v L.length=T))/\tY n L=some (decide (sm v L.length=T))/\rN n L=some true) \/
  (rV n L=some false/\(rN n L=some true->tY n L=some false)/\((∀i,i<L.length->D3 BA L i=true)\/rN n L=some false)):=by
 have hn:=hB.ns;have h0:=hB.n6 hb;have hbd:∀(v:Nat->Nat) (T k:Nat),k<=5->(∀i,i<k->v i<=Mx*T)->T<=Mx ^ k->sm v k<=B/\T<=B:=fun v T k hk h1 h2=>by
  have e1:Mx ^ k<=Mx ^ 5:=Td kF hk;have e2:=Gy h1;have e3:k*(Mx*T)<=Mx*(Mx*Mx ^ 5):=T0 (Tb hk RS) (T6 _ (Tb h2 e1));have e4:Mx*(Mx*Mx ^ 5)=Mx ^ 7:=by rw[TE Mx 6,TE Mx 5]; simp only[Tj,Ts]
  have e5:Mx ^ 5<=Mx ^ 8:=Td kF (by decide)
  have e6:Mx ^ 7<=Mx ^ 8:=Td kF (by decide)
  exact⟨by omega,by omega⟩
 have h1:=scan (n:=n) (L:=L) rr (by omega) (body:=sU n L) (fun j=>.inl (j:Int)) (.inr ()) (fun i x hi e0=>by
  have hw:=hL x (Ti e0);obtain⟨a,b,c,d,e,f,g,i,a',b',c',d',e',f',g',i'⟩:=x;unfold sU;rw[V3,ak hi,aw,SS,e0,ab]
  dsimp only
  rw[Je h0 hw,ab,V5]
  cases rr (a,b,c,d,e,f,g,i,a',b',c',d',e',f',g',i')<;>rfl) (by
  unfold sU;rw[V4])
 have pos:∀k,k<=L.length->(∀i,i<k->D3 rr L i=true)->∀i,i<k->∃x,L[i]? = some x/\WS x/\rr x=true:=fun k hk h i hi=>by
  obtain⟨x,e1,e2⟩:=hL.at_ (i:=i) (by omega)
  exact⟨x,e1,e2,by rw[<-tA (p:=rr) e1]; exact h i hi⟩
 rcases w7 h0 hL (by omega) with⟨o1,_,o2⟩|⟨⟨j,j1,j2⟩,_,o2⟩
 rcases h1 with⟨a0,a1⟩|⟨j,a0,a1,a3,a2⟩
 
 left
 obtain⟨v,T,g1,g0,g2⟩:=BV L.length (SX _) (pos _ (SX _) a0);have g1':∀i,i<L.length->∃x,L[i]? = some x/\ShQ x (v i) T:=fun i hi=>by obtain⟨x,e1,e2,_⟩:=g1 i hi; exact⟨x,e1,e2⟩
 obtain⟨b0,b1⟩:=hbd v T L.length hN (fun i hi=>by obtain⟨x,_,_,e⟩:=g1 i hi; exact e) g2
 obtain⟨l,p,q0,q2⟩:=Gx hB (SX _) (by omega) g1' g0 b1 b0 rfl
 obtain⟨r,r1,r2⟩:=q2.RB hB g0 b1 b0;obtain⟨r',r3,r0⟩:=KO hB (a:=sm v L.length) g0 b1 b0;refine⟨v,T,⟨rfl,g1'⟩,g0,g2,?_,?_,o2⟩
 unfold rV;rw[a1]
 show ob (ob (some (-1:Int)) fun v0=>some (decide (0<=v0))) _=_
 rw[ab,ab,show decide ((0:Int)<=-1)=false from rfl,bB,I9 (by omega),ab]
 dsimp only
 rw[q0,ab]
 dsimp only
 rw[ab]
 dsimp only
 rw[NI (by omega),ab]
 dsimp only
 rw[r1,ab]
 by_cases c:sm v L.length=T
 rw[S4 c,S4 (r2.2 c)]
 rw[Ta c,Ta fun h=>c (r2.1 h)]
 have e:=Ae hB (SX _) (by omega) g1' g0 b1 b0 (ρ:=.inr (false,Dg (dA T (sm v L.length)).1,false,Dg (dA T (sm v L.length)).2)) (by
  unfold lu
  dsimp only
  rw[V4])
 unfold tY;rw[xR (by omega),ab]
 dsimp only
 rw[e]
 show ob (zD n ((1:Nat):Int) 1) _=_
 rw[H5 (by omega) (a:=1) (by decide),ab]
 dsimp only
 rw[r3,ab]
 by_cases c:sm v L.length=T
 rw[S4 c,S4 (r0.2 c)]
 rw[Ta c,Ta fun h=>c (r0.1 h)]
 
 right
 refine⟨?_,fun _=>?_,.inl o1⟩
 unfold rV;rw[a2]
 show ob (ob (some (j:Int)) fun v0=>some (decide (0<=v0))) _=_
 rw[ab,ab,S4 (by omega),bZ]
 obtain⟨v,T,g1,g0,g2⟩:=BV j (by omega) (pos _ (by omega) a3)
 have g1':∀i,i<j->∃x,L[i]? = some x/\ShQ x (v i) T:=fun i hi=>by obtain⟨x,e1,e2,_⟩:=g1 i hi; exact⟨x,e1,e2⟩
 obtain⟨b0,b1⟩:=hbd v T j (by omega) (fun i hi=>by obtain⟨x,_,_,e⟩:=g1 i hi; exact e) g2
 have e:=Ae hB (by omega) (by omega) g1' g0 b1 b0 (ρ:=.inl ()) (by
  obtain⟨x,e1,e2⟩:=hL.at_ a0;rw[tA e1] at a1;have o3:=o1 j a0;rw[tA e1] at o3;unfold rr at a1;rw[o3,Bool.true_and] at a1;have hneg:=of_decide_eq_false a1;obtain⟨a,b,c,d,e,f,g,i,a',b',c',d',e',f',g',i'⟩:=x
  change ¬0<=zv [a,b,c,d,e,f,g,i] at hneg
  unfold lu
  dsimp only
  rw[V3,ak a0,aw,SS,e1,ab]
  dsimp only
  unfold zq;rw[kM (by omega) e2.1,ab]
  dsimp only
  rw[kM (by omega) e2.2,ab]
  dsimp only
  rw[ab]
  dsimp only
  rw[S4 (by omega),bZ])
 unfold tY;rw[xR (by omega),ab]
 dsimp only
 rw[e]; rfl
 right
 rcases h1 with⟨a0,a1⟩|⟨j,a0,a1,a3,a2⟩
 rw[FJ (a0 j j1)] at j2; cases j2
 refine⟨?_,fun h=>?_,.inr o2⟩
 unfold rV;rw[a2]
 show ob (ob (some (j:Int)) fun v0=>some (decide (0<=v0))) _=_
 rw[ab,ab,S4 (by omega),bZ]
 rw[o2] at h; cases h
end
end
section
open Go Go.Ab Go.Ab.W
set_option exponentiation.threshold 3000
section
variable{n:Nat}
abbrev T9:=Nat×Nat×Nat×Nat×Nat×Nat×Nat×Nat×Int
def PC(v:Nat)(t:T9):Prop:=(v<2 ^ 511/\∃a b c d e f g i,t=(a,b,c,d,e,f,g,i,0)/\Wd [a,b,c,d,e,f,g,i]/\vl [a,b,c,d,e,f,g,i]=v)\/(¬v<2 ^ 511/\t=(0,0,0,0,0,0,0,0,6))
def DQ:∀{a b:WB Nat},Wd a->Wd b->a.length=b.length->vl a=vl b->a=b
 | [],[],_,_,_,_=>rfl
 | x::a,y::b,ha,hb,hl,hv=>by
  have h1:=ha x (by simp)
  have h2:=hb y (by simp)
  rw[dz,dz] at hv;have e1:x=y:=by omega
  have e2:vl a=vl b:=by omega
  rw[e1,DQ (fun z hz=>ha z (by simp[hz])) (fun z hz=>hb z (by simp[hz])) (by simpa using hl) e2]
def Eg{v:Nat}{s t:T9}(h:PC v s)(k:PC v t):s=t:=by
 rcases h with⟨h1,a,b,c,d,e,f,g,i,rfl,h2,h3⟩|⟨h1,rfl⟩<;>rcases k with⟨k1,a',b',c',d',e',f',g',i',rfl,k2,k3⟩|⟨k1,rfl⟩
 have:=DQ h2 k2 rfl (h3.trans k3.symm);simp only[List.cons.injEq,and_true] at this;obtain⟨rfl,rfl,rfl,rfl,rfl,rfl,rfl,rfl⟩:=this
 rfl
 exact Tl h1 k1
 exact Tl k1 h1
 rfl
def zi(n:Nat)(w:WB Nat)(hw:w.length=8):∀(i m:Nat),i<=7->i<m->bH (gJ n) m (w,[0,0,0,0,0,0,0,9223372036854775808],(i:Int)-1)=some (.inl 1)\/bH (gJ n) m (w,[0,0,0,0,0,0,0,9223372036854775808],(i:Int)-1)=some (.inr ())
 | 0,m+1,_,_=>by
  right
  refine bL ?_;unfold gJ
  dsimp only
  rw[V4]
 | i+1,m+1,h1,h2=>by
  have ez:([0,0,0,0,0,0,0,9223372036854775808]:WB Nat)[i]? = some 0:=by
   match i,h1 with
   | 0,_|1,_|2,_|3,_|4,_|5,_|6,_=>rfl
  obtain⟨x,e⟩:∃x,w[i]? = some x:=⟨_,SU (by omega)⟩
  have h8:bG ((i:Nat):Int) 8=true:=ak (by omega)
  by_cases c:x=0
  have st:gJ n (w,[0,0,0,0,0,0,0,9223372036854775808],((i+1:Nat):Int)-1)=some (.inl (w,[0,0,0,0,0,0,0,9223372036854775808],(i:Int)-1)):=by
   unfold gJ
   dsimp only
   rw[show((i+1:Nat):Int)-1=(i:Int) by omega,V3,h8,aw,SS,e,ab,aw,ez,ab,S4 c,S9,bB,aC (by omega) (by omega)]
  rw[bO st];exact zi n w hw i m (by omega) (by omega)
  left
  refine bL ?_;unfold gJ
  dsimp only
  rw[show((i+1:Nat):Int)-1=(i:Int) by omega,V3,h8,aw,SS,e,ab,aw,ez,ab,Ta c,To,bZ,aw,aw,V4]
def KC(hn:20<n){a b c d e f g i:Nat}(hw:Wd [a,b,c,d,e,f,g,i]):∃t,HR n false a b c d e f g i=some t/\PC (vl [a,b,c,d,e,f,g,i]) t:=by
 obtain⟨hb,hi⟩:=wR hw;obtain⟨m,rfl⟩:∃m,n=m+1:=⟨n-1,by omega⟩
 have key:∃r:Int,HU (m+1) a b c d e f g i 0 0 0 0 0 0 0 9223372036854775808=some r/\(r = -1/\i<9223372036854775808\/(r=0\/r=1)/\¬i<9223372036854775808):=by
  unfold HU;have h8:bG 7 8=true:=rfl;have e1:([a,b,c,d,e,f,g,i]:WB Nat)[(7:Int).toNat]? = some i:=rfl;have e2:([0,0,0,0,0,0,0,9223372036854775808]:WB Nat)[(7:Int).toNat]? = some 9223372036854775808:=rfl
  by_cases c1:i=9223372036854775808
  have st:gJ (m+1) ([a,b,c,d,e,f,g,i],[0,0,0,0,0,0,0,9223372036854775808],7)=some (.inl ([a,b,c,d,e,f,g,i],[0,0,0,0,0,0,0,9223372036854775808],((7:Nat):Int)-1)):=by
   unfold gJ
   dsimp only
   rw[ay (by decide),h8,aw,e1,ab,aw,e2,ab,S4 c1,S9,bB]
   rfl
  rw[bO st];rcases zi (m+1) [a,b,c,d,e,f,g,i] rfl 7 m (by decide) (by omega) with h|h
  rw[h]; exact⟨1,rfl,.inr ⟨.inr rfl,by omega⟩⟩
  rw[h]; exact⟨0,rfl,.inr ⟨.inl rfl,by omega⟩⟩
  by_cases c2:i<9223372036854775808
  rw[bL (r:=.inl (-1))]
  exact⟨-1,rfl,.inl ⟨rfl,c2⟩⟩
  unfold gJ
  dsimp only
  rw[ay (by decide),h8,aw,e1,ab,aw,e2,ab,Ta c1,To,bZ,aw,aw,ay c2]
  rw[bL (r:=.inl 1)]
  exact⟨1,rfl,.inr ⟨.inr rfl,c2⟩⟩
  unfold gJ
  dsimp only
  rw[ay (by decide),h8,aw,e1,ab,aw,e2,ab,Ta c1,To,bZ,aw,aw,aD c2]
 obtain⟨r,r1,r2⟩:=key;unfold HR;rw[r1,ab];rcases r2 with⟨rfl,h⟩|⟨rfl|rfl,h⟩
 exact⟨_,rfl,.inl ⟨hb.2 h,a,b,c,d,e,f,g,i,rfl,hw,rfl⟩⟩
 exact⟨_,rfl,.inr ⟨fun k=>h (hb.1 k),rfl⟩⟩
 exact⟨_,rfl,.inr ⟨fun k=>h (hb.1 k),rfl⟩⟩
def Rm:(2:Nat) ^ 511<=wp 8:=by rw[Q6]; decide +kernel
def Dc(hn:20<n){v:Nat}{l:WB Nat}(h:Lg (v:Int) false l):∃t,Pl n false l=some t/\PC v t:=by
 unfold Pl
 by_cases c:8<l.length
 rw[V3]
 refine⟨_,rfl,.inr ⟨fun k=>?_,rfl⟩⟩;have h1:=ju h.last (fun e=>by rw[e] at c; cases c)
 have h2:wp 8<=wp (l.length-1):=Td (by decide) (by omega)
 have h3:=Rm;rw[h.Q9] at h1;omega
 have e1:l++([0,0,0,0,0,0,0,0]:WB Nat).drop l.length=l++List.replicate (8-l.length) 0:=by
  rw[show([0,0,0,0,0,0,0,0]:WB Nat)=List.replicate 8 0 from rfl,List.drop_replicate]
 rw[V4,cg (by omega),e1]
 have h8:(l++List.replicate (8-l.length) 0).length=8:=by rw[S5,List.length_replicate]; omega
 have hwd:Wd (l++List.replicate (8-l.length) 0):=h.wd.app (Wd.zeros _);have hv:vl (l++List.replicate (8-l.length) 0)=v:=by rw[lZ,jB,Nat.mul_zero,TP,h.Q9]
 obtain⟨a,b,c,d,e,f,g,i,q⟩:=Of h8;rw[q] at hwd hv ⊢;obtain⟨t,t1,t2⟩:=KC hn hwd;rw[hv] at t2;refine⟨t,?_,t2⟩;rw[show KV [a,b,c,d,e,f,g,i]=some (a,b,c,d,e,f,g,i) from rfl,ab]
 dsimp only
 rw[t1,ab]
def K5:(List.replicate (16:Int).toNat (0:Int)).set ((15:Int).toNat) 2147483648=Dg (2 ^ 511):=by
 have b1:(2:Nat) ^ 511<4294967296 ^ 16:=by decide +kernel
 have b2:(4294967296:Nat) ^ 15<=2 ^ 511:=by decide +kernel
 have h1:=qi 16 (2 ^ 511) b1;have h2:¬(Dg (2 ^ 511)).length<=15:=fun c=>by
  have:=SY (iL (2 ^ 511)) (Td (n:=4294967296) (by decide) c)
  omega
 rw[show 16-(Dg (2 ^ 511)).length=0 by omega,List.replicate_zero,T8] at h1
 exact Eq.trans (by decide +kernel) h1
def C9{i:Nat}:wp (i/2)*2 ^ (32*(i%2))=4294967296 ^ i:=by
 unfold wp;have e1:(18446744073709551616:Nat)=4294967296 ^ 2:=by decide
 have e2:(2:Nat) ^ (32*(i%2))=4294967296 ^ (i%2):=by rw[U8]
 rw[e1,e2,<-U8,<-Ut,Ur]
def M6(hn:1000<n){v:Nat}(hv:v<2 ^ 511):∃w,bH (uD n (Dg v)) n (([0,0,0,0,0,0,0,0]:WB Nat),0)=some w/\w.length=8/\Wd w/\vl w=v:=by
 have hl:(Dg v).length<=16:=uH (SY hv (by decide +kernel))
 have h:=aR (body:=uD n (Dg v)) (Dg v).length (fun(s:WB Nat) (v:Int)=>(s,v)) id (fun i s=>s.length=8/\Wd s/\vl s=v%4294967296 ^ i) (fun s i hi hq=>by
  obtain⟨q1,q2,q3⟩:=hq;have hj:i/2<8:=by omega
  obtain⟨x,e⟩:∃x,s[i/2]? = some x:=⟨_,SU (by omega)⟩
  have hd:=TN (v/4294967296 ^ i) (show 0<4294967296 by decide)
  have ed:=sE i v hi;generalize hD:v/4294967296 ^ i%4294967296=D at hd ed;have hx:x<2 ^ (32*(i%2)):=by
   have h1:=sH (l:=s) 0 e;have h2:=TN v (Vi (n:=i) (show 0<4294967296 by decide))
   rw[<-q3,<-C9] at h2;refine Nat.lt_of_mul_lt_mul_left (a:=wp (i/2)) ?_;omega
  have hy:D*2 ^ (32*(i%2))+x<18446744073709551616:=by
   rcases Nat.mod_two_eq_zero_or_one i with m|m
   rw[m] at hx ⊢;simp at hx ⊢;omega
   rw[m] at hx ⊢;simp at hx ⊢;omega
  have hsh:eT .u64 (ui .u64 (D:Int)) (Vx (32*(Int.tmod (i:Int) 2))).toNat=D*2 ^ (32*(i%2)):=by
   have e0:Int.tmod (i:Int) 2=((i%2:Nat):Int):=rfl;rw[e0,aC (by omega) (by omega),show((32:Int)*((i%2:Nat):Int)).toNat=32*(i%2) by omega,PF (by omega),pa (by omega),iw (by omega)]
  have et:Vx (Int.tdiv (i:Int) 2)=((i/2:Nat):Int):=by
   rw[show Int.tdiv (i:Int) 2=((i/2:Nat):Int) from rfl,aC (by omega) (by omega)]
  refine⟨s.set (i/2) (x+D*2 ^ (32*(i%2))),?_,by rw[TQ]; exact q1,q2.set (by omega),?_⟩
  have h8:bG ((i/2:Nat):Int) 8=true:=ak hj;have e0:Int.tmod (i:Int) 2=((i%2:Nat):Int):=rfl;unfold uD
  dsimp only
  rw[V3,et,h8,aw,SS,e,ab,ak hi,aw,SS,ed,ab,cg (by rw[e0,aC (by omega) (by omega)]; omega),hsh,ab,aw,iw (by omega),V5]
  have h1:=sH (l:=s) (x+D*2 ^ (32*(i%2))) e;have h2:wp (i/2)*(x+D*2 ^ (32*(i%2)))=wp (i/2)*x+4294967296 ^ i*D:=by
   rw[Uf,<-C9]; simp only[Ty,Tj,Ts]
  rw[TE,Nat.mod_mul,hD];omega) (fun s hq=>by
  unfold uD
  dsimp only
  rw[V4]; rfl) (n:=n) (s:=[0,0,0,0,0,0,0,0]) ⟨rfl,fun x hx=>by simp at hx; omega,by rw[UB,Nat.mod_one]; rfl⟩ (by omega)
 obtain⟨w,h1,h2,h3,h4⟩:=h;exact⟨w,h1,h2,h3,by rw[h4,TA (iL v)]⟩
def CX(hn:2000000<n){v:Nat}(hv:v<DM):∃t,O7 n false (Dg v)=some t/\PC v t:=by
 have hd:=zf;have b1:(2:Nat) ^ 511<2 ^ 512:=by decide +kernel
 obtain⟨r,r1,r2,r3⟩:=wY n hv (b:=2 ^ 511) (by omega) (by omega)
 unfold O7;rw[cg (by decide),jH (by decide),aw,show bG 15 ((16:Int).toNat)=true from rfl,aw,show(List.replicate (16:Int).toNat (0:Int))[(15:Int).toNat]? = some 0 from rfl,ab,K5,r1,ab]
 by_cases c:v<2 ^ 511
 have c1:=r3.2 c;obtain⟨w,w1,w2,w3,w4⟩:=M6 (n:=n) (by omega) c
 obtain⟨a,b,c',d,e,f,g,i,rfl⟩:=Of w2;rw[V4,V4,ab,bB,bB,ab,w1,ab,show KV [a,b,c',d,e,f,g,i]=some (a,b,c',d,e,f,g,i) from rfl,ab]
 exact⟨_,rfl,.inl ⟨c,a,b,c',d,e,f,g,i,rfl,w3,w4⟩⟩
 refine⟨(0,0,0,0,0,0,0,0,6),?_,.inr ⟨c,rfl⟩⟩;have:¬r<0:=fun k=>c (r3.1 k)
 by_cases c2:0<r
 rw[ay c2,ab,bZ]
 rw[aD c2,ay (show r=0 by omega),ab,To,bZ]
def EI(hn:2000000<n){p q:Nat}{l k:WB Nat}(hl:Lg (p:Int) false l)(hk:Lg (q:Int) false k)(hp:p<DM)(hq:q<DM):∃t,Cc n false l false k=some t/\AR n false (Dg p) false (Dg q)=some t:=by
 obtain⟨t1,f1,g1⟩:=Dc (n:=n) (by omega) hl
 obtain⟨t2,f2,g2⟩:=Dc (n:=n) (by omega) hk
 obtain⟨t3,f3,g3⟩:=CX hn hp;obtain⟨t4,f4,g4⟩:=CX hn hq;have e1:=Eg g1 g3;have e2:=Eg g2 g4;subst e1;subst e2;have:Cc n false l false k=AR n false (Dg p) false (Dg q):=by
  unfold Cc AR;rw[f1,f2,f3,f4]
 rw[<-this];obtain⟨a,b,c,d,e,f,g,i,j⟩:=t1;obtain⟨a',b',c',d',e',f',g',i',j'⟩:=t2;unfold Cc;rw[f1,ab]
 dsimp only
 rw[f2,ab]
 dsimp only
 cases decide (j=0)<;>cases decide (j'=0)<;>exact⟨_,rfl,rfl⟩
end
def th(P:Vr):∀N,(∀i,i<N->P i)\/∃j,j<N/\¬P j/\∀i,i<j->P i
 | 0=>.inl fun i hi=>Tl hi (by omega)
 | N+1=>by
  rcases th P N with h|⟨j,h1,h2,h3⟩
  rcases Classical.em (P N) with hN|hN
  exact .inl fun i hi=>if c:i=N then c▸hN else h i (by omega)
  exact .inr ⟨N,by omega,hN,h⟩
  exact .inr ⟨j,by omega,h2,h3⟩
structure KQ(K:WB (WB Sh))(W:Nat->Nat->Nat)(P N:Nat):Prop where
 len:K.length=N
 at_:∀i,i<N->∃row,K[i]? = some row/\VQ row (W i) P N
 sum:∀i,i<N->sm (W i) N=P
 pos:P≠0
 n1:N<=1000
def VQ.scale{L:WB Sh}{v:Nat->Nat}{T N c:Nat}(h:VQ L v T N)(hT:T≠0)(hc:c≠0):VQ L (fun i=>v i*c) (T*c) N :=
 ⟨h.len,fun i hi=>by
  obtain⟨x,e,q⟩:=h.at_ i hi;exact⟨x,e,q.same hT (TU hT hc) (by simp only[Tj,Ts])⟩⟩
def OH(row:WB Sh)(N M:Nat):Prop:=∃v T,VQ row v T N/\T≠0/\T<=M/\sm v N=T
def Ee{K:WB (WB Sh)}{N M:Nat}:∀k,(∀i,i<k->∃row,K[i]? = some row/\OH row N M)->∃(W:Nat->Nat->Nat) (P:Nat),(∀i,i<k->∃row,K[i]? = some row/\VQ row (W i) P N/\sm (W i) N=P)/\P≠0/\P<=M ^ k
 | 0,_=>⟨fun _ _=>0,1,fun i hi=>Tl hi (by omega),by decide,by rw[UB]; exact SX _⟩
 | k+1,h=>by
  obtain⟨W,P,h1,h2,h3⟩:=Ee k fun i hi=>h i (by omega)
  obtain⟨row,e,v,T,g1,g2,g3,g4⟩:=h k (by omega)
  refine⟨fun i j=>if i<k then W i j*T else v j*P,P*T,fun i hi=>?_,TU h2 g2,by rw[TE]; exact T0 h3 g3⟩
  by_cases c:i<k
  obtain⟨r,e1,e2,e3⟩:=h1 i c;have:(fun j=>if i<k then W i j*T else v j*P)=fun j=>W i j*T:=by funext j; rw[S7 c]
  refine⟨r,e1,?_,?_⟩
  show VQ r (fun j=>if i<k then W i j*T else v j*P) (P*T) N
  rw[this];exact e2.scale h2 g2
  show sm (fun j=>if i<k then W i j*T else v j*P) N=P*T
  rw[this,rG,e3]
  have hik:i=k:=by omega
  subst hik;have:(fun j=>if i<i then W i j*T else v j*P)=fun j=>v j*P:=by funext j; rw[S8 c]
  refine⟨row,e,?_,?_⟩
  show VQ row (fun j=>if i<i then W i j*T else v j*P) (P*T) N
  rw[this,Tj P T];exact g1.scale g2 h2
  show sm (fun j=>if i<i then W i j*T else v j*P) N=P*T
  rw[this,rG,g4,Tj]
def kT(W:Nat->Nat->Nat)(N:Nat)(v:Nat->Nat)(j:Nat):Nat:=sm (fun i=>v i*W i j) N
def N9(W:Nat->Nat->Nat)(N:Nat):Nat->(Nat->Nat)->Nat->Nat
 | 0,v=>v
 | k+1,v=>kT W N (N9 W N k v)
def Jr{f g:Nat->Nat}:∀{k:Nat},sm (fun i=>f i+g i) k=sm f k+sm g k
 | 0=>rfl
 | k+1=>by rw[sm,sm,sm,Jr]; omega
def Ea:∀{k:Nat},sm (fun _=>0) k=0
 | 0=>rfl
 | k+1=>by rw[sm,Ea]
def D9{f:Nat->Nat->Nat}{M:Nat}:∀{N:Nat},sm (fun i=>sm (fun j=>f i j) M) N=sm (fun j=>sm (fun i=>f i j) N) M
 | 0=>by rw[sm]; exact(Ea).symm
 | N+1=>by
  rw[sm,D9,<-Jr]
  rfl
def Dn{f:Nat->Nat}{c:Nat}:∀{k:Nat},sm (fun i=>c*f i) k=c*sm f k
 | 0=>by simp[sm]
 | k+1=>by rw[sm,sm,Dn,Uf]
def IV{K:WB (WB Sh)}{W:Nat->Nat->Nat}{P N:Nat}(hK:KQ K W P N)(v:Nat->Nat):sm (kT W N v) N=sm v N*P:=by
 have e:sm (kT W N v) N=sm (fun i=>sm (fun j=>v i*W i j) N) N:=(D9 (f:=fun i j=>v i*W i j)).symm;rw[e,ze (g:=fun i=>v i*P) fun i hi=>by rw[Dn,hK.sum i hi],rG]
def xc{K:WB (WB Sh)}{W:Nat->Nat->Nat}{P N:Nat}(hK:KQ K W P N)(v:Nat->Nat):∀k,sm (N9 W N k v) N=sm v N*P ^ k
 | 0=>by rw[UB,U9]; rfl
 | k+1=>by
  show sm (kT W N (N9 W N k v)) N=_
  rw[IV hK,xc hK v k,TE,Ty]
def Q3{T h:Nat}(hT:T≠0):(dA T h).1≠0↔h≠0:=by
 obtain⟨h1,_,h3,_,h5⟩:=nb (h:=h) hT;constructor
 intro e e0; subst e0; omega
 intro e e0;rw[e0,UA] at h5;rcases Nat.mul_eq_zero.1 h5.symm with h|h
 exact e h
 exact h3 h
abbrev Rt:=WT
abbrev Rr:=Bool×WB Int×Bool×WB Int
structure RQ(L:WB Rt)(v:Nat->Nat)(T N:Nat):Prop where
 len:L.length=N
 at_:∀i,i<N->∃l k,L[i]? = some (false,l,false,k)/\Q l k (v i) T
structure RR(L:WB Rr)(v:Nat->Nat)(T N:Nat):Prop where
 len:L.length=N
 at_:∀i,i<N->L[i]? = some (RL (v i) T)
section
variable{n B:Nat}
def MD(hB:Bd B n)(hb:Mx ^ 8<=B){K:WB (WB Sh)}(hN:K.length<=5){i:Nat}{row:WB Sh}(e:K[i]? = some row)(hw:WL row)(hr:row.length<=5) :
  (kQ n K (i:Int)=some (.inl ((i+1:Nat):Int))/\kR n K (i:Int)=some (.inl ((i+1:Nat):Int))/\OH row K.length (Mx ^ K.length))\/(kQ n K (i:Int)=some (.inr (.inl ()))/\kR n K (i:Int)=some (.inr (.inl ()))):=by
 have hi:i<K.length:=(Tc.1 e).1
 by_cases hl:row.length=K.length
 rcases zR hB hb hw hr with⟨v,T,g1,g2,g3,g4,g5,g6⟩|⟨g1,g2,g3⟩
 rw[hl] at g1 g3 g4 g5
 by_cases c:sm v K.length=T
 refine .inl ⟨?_,?_,v,T,g1,g2,g3,c⟩
 unfold kQ;rw[V3,ak hi,aw,SS,e,ab,hl,S4 rfl,S9,bB,g4,ab,S4 c,S9,ab,bB,V5]
 unfold kR;rw[V3,ak hi,aw,SS,e,ab,hl,S4 rfl,S9,bB,aw,g6,ab,S9,bB,aw,g5,ab,S4 c,S9,ab,bB,V5]
 refine .inr ⟨?_,?_⟩
 unfold kQ;rw[V3,ak hi,aw,SS,e,ab,hl,S4 rfl,S9,bB,g4,ab,Ta c,To,ab,bZ]
 unfold kR;rw[V3,ak hi,aw,SS,e,ab,hl,S4 rfl,S9,bB,aw,g6,ab,S9,bB,aw,g5,ab,Ta c,To,ab,bZ]
 refine .inr ⟨?_,?_⟩
 unfold kQ;rw[V3,ak hi,aw,SS,e,ab,hl,S4 rfl,S9,bB,g1,ab,To,ab,bZ]
 unfold kR;rw[V3,ak hi,aw,SS,e,ab,hl,S4 rfl,S9,bB,aw]
 rcases w7 (n:=n) (hB.n6 hb) hw (by omega) with⟨_,_,o⟩|⟨_,_,o⟩
 rw[o,ab,S9,bB,aw,g2 o,ab,To,ab,bZ]
 rw[o,ab,To,bZ,ab,bZ]
 refine .inr ⟨?_,?_⟩
 unfold kQ;rw[V3,ak hi,aw,SS,e,ab,Ta (by omega),To,bZ,ab,bZ]
 unfold kR;rw[V3,ak hi,aw,SS,e,ab,Ta (by omega),To,bZ,ab,bZ]
def rC(hB:Bd B n)(hb:Mx ^ 8<=B){K:WB (WB Sh)}(hK:∀row,row∈K->WL row/\row.length<=5)(hN:K.length<=5) :
  (Me n K=some 330/\Mm n K=some false)\/(Me n K=some 0/\Mm n K=some true/\1<=K.length/\(∀row,row∈K->row.length=K.length)/\∃W P,KQ K W P K.length/\P<=(Mx ^ K.length) ^ K.length):=by
 have hn:=hB.ns;unfold Me Mm
 by_cases h0:K.length<1
 rw[V3]; exact .inl ⟨rfl,rfl⟩
 rw[V4,Ta (by omega),ab,ab,bB,bB]
 rcases th (fun i=>kQ n K (i:Int)=some (.inl ((i+1:Nat):Int))/\kR n K (i:Int)=some (.inl ((i+1:Nat):Int))/\∃row,K[i]? = some row/\OH row K.length (Mx ^ K.length)) K.length with h|⟨j,h1,h2,h3⟩
 obtain⟨_,g1,_⟩:=aR (body:=kQ n K) K.length (fun(_:WC) (v:Int)=>v) (fun _=>(.inr ():WC⊕WC)) (fun _ _=>True) (fun s i hi _=>⟨(),(h i hi).1,trivial⟩) (fun s _=>by
  unfold kQ;rw[V4]) (n:=n) (s:=()) trivial (by omega)
 obtain⟨_,g2,_⟩:=aR (body:=kR n K) K.length (fun(_:WC) (v:Int)=>v) (fun _=>(.inr ():WC⊕WC)) (fun _ _=>True) (fun s i hi _=>⟨(),(h i hi).2.1,trivial⟩) (fun s _=>by
  unfold kR;rw[V4]) (n:=n) (s:=()) trivial (by omega)
 rw[g1,g2];obtain⟨W,P,q1,q2,q3⟩:=Ee (K:=K) (N:=K.length) (M:=Mx ^ K.length) K.length fun i hi=>(h i hi).2.2;refine .inr ⟨rfl,rfl,by omega,fun row hr=>?_,W,P,⟨rfl,fun i hi=>?_,fun i hi=>?_,q2,by omega⟩,q3⟩
 obtain⟨i,hi,rfl⟩:=List.mem_iff_getElem.1 hr;obtain⟨r,e1,e2,_⟩:=q1 i hi;rw[SU hi] at e1;cases e1;exact e2.len
 obtain⟨r,e1,e2,_⟩:=q1 i hi; exact⟨r,e1,e2⟩
 obtain⟨r,_,_,e3⟩:=q1 i hi; exact e3
 have hj:K[j]? = some K[j]:=SU h1;obtain⟨w1,w2⟩:=hK _ (UW h1);rcases MD hB hb hN hj w1 w2 with⟨a1,a2,a3⟩|⟨a1,a2⟩
 exact Tl ⟨a1,a2,_,hj,a3⟩ h2
 obtain⟨_,g1,_⟩:=aR (body:=kQ n K) j (fun(_:WC) (v:Int)=>v) (fun _=>(.inl ():WC⊕WC)) (fun _ _=>True) (fun s i hi _=>⟨(),(h3 i hi).1,trivial⟩) (fun s _=>a1) (n:=n) (s:=()) trivial (by omega)
 obtain⟨_,g2,_⟩:=aR (body:=kR n K) j (fun(_:WC) (v:Int)=>v) (fun _=>(.inl ():WC⊕WC)) (fun _ _=>True) (fun s i hi _=>⟨(),(h3 i hi).2.1,trivial⟩) (fun s _=>a2) (n:=n) (s:=()) trivial (by omega)
 rw[g1,g2];exact .inl ⟨rfl,rfl⟩
def BM(hB:Bd B n){L:WB Rt}{R:WB Rr}{v:Nat->Nat}{T N:Nat}(h:RQ L v T N)(h':RR R v T N)(hT:T≠0)(hTb:T<=B)(hv:∀i,i<N->v i<=B)(hN:N<=1000):∃l e,GA n L=some (l,e)/\Jd n R=some (l,e)/\l.length<=N:=by
 have hn:=hB.ns;have hd:=hB.dq;have hsq:=hB.sq;have lp:∀(k i m:Nat) (acc:WB Sh),i+k=N->acc.length<=i->k<m->∃r,bH (pU n L) m (acc,(i:Int))=some r/\bH (pC n R) m (acc,(i:Int))=some r/\∀l,r=.inr l->l.length<=N:=by
  intro k
  induction k with
  | zero =>
   intro i m acc h1 h2 h3;obtain⟨m,rfl⟩:∃m',m=m'+1:=⟨m-1,by omega⟩
   refine⟨.inr acc,bL ?_,bL ?_,fun l hl=>by cases hl; omega⟩
   unfold pU
   dsimp only
   rw[h.len,V4]
   unfold pC
   dsimp only
   rw[h'.len,V4]
  | succ k ih =>
   intro i m acc h1 h2 h3;obtain⟨m,rfl⟩:∃m',m=m'+1:=⟨m-1,by omega⟩
   have hi:i<N:=by omega
   obtain⟨l,p,e1,q⟩:=h.at_ i hi;have e2:=h'.at_ i hi;obtain⟨b1,b2,_⟩:=eH (a:=v i) hT;have:=hv i hi;obtain⟨t,t1,t2⟩:=EI (n:=n) (by omega) q.num q.den (by omega) (by omega)
   obtain⟨x1,x2,x3,x4,x5,x6,x7,x8,y1,y2,y3,y4,y5,y6,y7,y8,z⟩:=t
   by_cases c:z=0
   have hlim:lim (acc++([(x1,x2,x3,x4,x5,x6,x7,x8,y1,y2,y3,y4,y5,y6,y7,y8)]:WB Sh)).length=true:=jH (by rw[S5,TC]; omega)
   obtain⟨r,r1,r2,r3⟩:=ih (i+1) m (acc++[(x1,x2,x3,x4,x5,x6,x7,x8,y1,y2,y3,y4,y5,y6,y7,y8)]) (by omega) (by rw[S5,TC]; omega) (by omega)
   refine⟨r,?_,?_,r3⟩
   rw[bO (s':=(acc++[(x1,x2,x3,x4,x5,x6,x7,x8,y1,y2,y3,y4,y5,y6,y7,y8)],((i+1:Nat):Int)))]
   exact r1
   unfold pU
   dsimp only
   rw[h.len,V3,ak hi,aw,SS,e1,ab]
   dsimp only
   rw[t1,ab]
   dsimp only
   rw[S4 c,S9,bB,hlim,aw,V5]
   rw[bO (s':=(acc++[(x1,x2,x3,x4,x5,x6,x7,x8,y1,y2,y3,y4,y5,y6,y7,y8)],((i+1:Nat):Int)))]
   exact r2
   unfold pC
   dsimp only
   rw[h'.len,V3,ak hi,aw,SS,e2,ab]
   unfold RL
   dsimp only
   rw[t2,ab]
   dsimp only
   rw[S4 c,S9,bB,hlim,aw,V5]
   refine⟨.inl z,bL ?_,bL ?_,fun l hl=>by cases hl⟩
   unfold pU
   dsimp only
   rw[h.len,V3,ak hi,aw,SS,e1,ab]
   dsimp only
   rw[t1,ab]
   dsimp only
   rw[Ta c,To,bZ]
   unfold pC
   dsimp only
   rw[h'.len,V3,ak hi,aw,SS,e2,ab]
   unfold RL
   dsimp only
   rw[t2,ab]
   dsimp only
   rw[Ta c,To,bZ]
 obtain⟨r,r1,r2,r3⟩:=lp N 0 n [] (by omega) (by decide) (by omega)
 unfold GA Jd;rw[show(0:Int)=((0:Nat):Int) from rfl,r1,r2]
 cases r with
 | inl z=>exact⟨[],z,rfl,rfl,Uw _⟩
 | inr l=>exact⟨l,0,rfl,rfl,r3 l rfl⟩
end
section
variable{n B:Nat}{K:WB (WB Sh)}{W:Nat->Nat->Nat}{P N:Nat}
def zn(hK:KQ K W P N){v:Nat->Nat}{T:Nat}(hv:sm v N=T){j:Nat}(hj:j<N):∀i,i<=N->sm (fun i=>v i*W i j) i<=T*P:=fun i hi=>by
 have hW:∀i,i<N->W i j<=P:=fun i hi=>hK.sum i hi▸qp hj;refine Tb (zY hi) ?_;rw[<-hv,<-rG];have:∀k,k<=N->sm (fun i=>v i*W i j) k<=sm (fun i=>v i*P) k:=by
  intro k
  induction k with
  | zero=>intro _; exact SX _
  | succ k ih=>intro hk; rw[sm,sm]; exact Nat.add_le_add (ih (by omega)) (T6 _ (hW k (by omega)))
 exact this N (SX _)
def Hy(hB:Bd B n)(hK:KQ K W P N){x:WB Rt}{v:Nat->Nat}{T:Nat}(hx:RQ x v T N)(hT:T≠0)(hTP:T*P<=B)(hv:sm v N=T){j:Nat}(hj:j<N){base:WB Rt}(hb:base.length=N) :
  ∃l k,bH (ry n N x K (j:Int)) n (base.set j (false,[],false,[1]),0)=some (base.set j (false,l,false,k))/\Q l k (kT W N v j) (T*P):=by
 have hs:=hB.ns;have hP:=hK.pos;have hN:=hK.n1;have hTP0:T*P≠0:=TU hT hP;have hTle:T<=T*P:=Nat.le_mul_of_pos_right T (Tg hP);have hPle:P<=T*P:=Nat.le_mul_of_pos_left P (Tg hT);have hW:∀i,i<N->W i j<=P:=fun i hi=>hK.sum i hi▸qp hj;have hvi:∀i,i<N->v i<=T:=fun i hi=>hv▸qp hi;have hpre:=zn hK hv hj;have h:=aR (body:=ry n N x K (j:Int)) N (fun(s:WB Nat×WB Nat) (v:Int)=>(base.set j (false,s.1,false,s.2),v)) (fun s=>base.set j (false,s.1,false,s.2)) (fun i s=>Q s.1 s.2 (sm (fun i=>v i*W i j) i) (T*P)) (fun s i hi hq=>?_) (fun s _=>?_) (n:=n) (s:=([],[1])) (Q.zero hTP0) (by omega)
 obtain⟨s,h1,h2⟩:=h;exact⟨s.1,s.2,h1,h2⟩
 ·obtain⟨l,k,e1,q0⟩:=hx.at_ i hi;obtain⟨row,e2,hr⟩:=hK.at_ i hi;obtain⟨y,e0,q2⟩:=hr.at_ j hj;obtain⟨a,b,c,d,e,f,g,i1,a',b',c',d',e',f',g',i'⟩:=y;obtain⟨l',k',fq,q2⟩:=Da (n:=n) (by omega) q2
  have b0:=hvi i hi;have b1:=hW i hi;have ej:(base.set j (false,s.1,false,s.2))[j]? = some (false,s.1,false,s.2):=Ub (by omega)
  obtain⟨r0,g0,_,g1⟩:=nA (n:=n) q2.num;obtain⟨r2,g2,_,g3⟩:=nA (n:=n) q0.num;have z1:=Q3 (h:=W i j) hP;have z2:=Q3 (h:=v i) hT
  by_cases c0:W i j=0\/v i=0
  refine⟨s,?_,?_⟩
  have hd:(ob (CE n false l') fun r1=>br (!decide (r1=0)) (ob (CE n false l) fun r3=>some (!decide (r3=0))) (some false))=some false:=by
   rw[g0,ab];rcases c0 with c0|c0
   have:r0=0:=g1.2 (by have:=(not_congr z1).2 (by simp[c0]); omega)
   rw[this]; rfl
   have e3:r2=0:=g3.2 (by have:=(not_congr z2).2 (by simp[c0]); omega)
   rw[g2,ab,e3]
   by_cases c:r0=0
   rw[S4 c]; rfl
   rw[Ta c]; rfl
  unfold ry
  dsimp only
  rw[V3,ak hi,aw,SS,e1,ab]
  dsimp only
  rw[hK.len,ak hi,aw,e2,ab,hr.len,ak hj,aw,SS,e0,ab]
  dsimp only
  rw[fq,ab]
  dsimp only
  rw[hd,ab,bB,ab,V5]
  have:v i*W i j=0:=by rcases c0 with c|c<;>simp[c]
  rw[sm,this,TP]; exact hq
  ·have c1:W i j≠0:=fun h=>c0 (.inl h);have c2:v i≠0:=fun h=>c0 (.inr h);obtain⟨m1,p1,f1,t0⟩:=q0.times hB q2 hT hP (by omega) (by omega) (by omega) (by omega)
   have b2:v i*W i j<=T*P:=T0 b0 b1;have b3:=hpre i (by omega)
   obtain⟨m2,p0,f0,t1⟩:=hq.plus hB t0 hTP0 hTP0 (by omega) (by omega) (by omega) (by omega)
   refine⟨(m2,p0),?_,t1.same (TU hTP0 hTP0) hTP0 (by rw[sm,<-TI,Ty])⟩
   have hd:(ob (CE n false l') fun r1=>br (!decide (r1=0)) (ob (CE n false l) fun r3=>some (!decide (r3=0))) (some false))=some true:=by
    have n1:r0≠0:=fun e=>(z1.2 c1) (by have:=g1.1 e; omega)
    have n2:r2≠0:=fun e=>(z2.2 c2) (by have:=g3.1 e; omega)
    rw[g0,ab,Ta n1,To,bZ,g2,ab,Ta n2]; rfl
   unfold ry
   dsimp only
   rw[V3,ak hi,aw,SS,e1,ab]
   dsimp only
   rw[hK.len,ak hi,aw,e2,ab,hr.len,ak hj,aw,SS,e0,ab]
   dsimp only
   rw[fq,ab]
   dsimp only
   rw[hd,ab,bZ,SS,ak hj,aw,ej,ab]
   try dsimp only
   rw[f1,ab]
   try dsimp only
   rw[f0,ab]
   try dsimp only
   rw[aw,List.set_set,ab,V5]
 unfold ry
 dsimp only
 rw[V4]
def II(hB:Bd B n)(hK:KQ K W P N){x:WB Rt}{v:Nat->Nat}{T:Nat}(hx:RQ x v T N)(hT:T≠0)(hTP:T*P<=B)(hv:sm v N=T) :
  ∃x',bH (uO n K N x) n (List.replicate N ((false,[],false,[]):Rt),0)=some x'/\RQ x' (kT W N v) (T*P) N:=by
 have hs:=hB.ns;have hN:=hK.n1;have h:=aR (body:=uO n K N x) N (fun(s:WB Rt) (v:Int)=>(s,v)) id (fun i s=>s.length=N/\∀j,j<i->∃l k,s[j]? = some (false,l,false,k)/\Q l k (kT W N v j) (T*P)) (fun s j hj hq=>?_) (fun s _=>?_) (n:=n) (s:=List.replicate N (false,[],false,[])) ⟨by simp,fun j hj=>Tl hj (by omega)⟩ (by omega)
 obtain⟨s,h1,h2,h3⟩:=h;exact⟨s,h1,h2,h3⟩
 ·obtain⟨l,k,g1,g2⟩:=Hy hB hK hx hT hTP hv hj hq.1;refine⟨s.set j (false,l,false,k),?_,by rw[TQ]; exact hq.1,fun i hi=>?_⟩
  ·have ej:s[j]? = some (s[j]'(by rw[hq.1]; exact hj)):=SU _
   unfold uO
   dsimp only
   rw[hK.len,V3,I9 (by omega),ab]
   dsimp only
   rw[SS,ak hj,aw,SS,ej,ab]
   try dsimp only
   rw[g1,ab,V5]
  by_cases c:i=j
  subst c;exact⟨l,k,Ub (by rw[hq.1]; exact hj),g2⟩
  obtain⟨l',k',e1,e2⟩:=hq.2 i (by omega)
  exact⟨l',k',by rw[Uc (Ne.symm c)]; exact e1,e2⟩
 unfold uO
 dsimp only
 rw[hK.len,V4]; rfl
def zl{T P t k:Nat}(hP:P≠0)(ht:t<k):T*P ^ t*P<=T*P ^ k:=by
 rw[Ty,<-TE];exact T6 _ (Td (Tg hP) ht)
def IF(hB:Bd B n)(hK:KQ K W P N){x:WB Rt}{v:Nat->Nat}{T:Nat}(hx:RQ x v T N)(hT:T≠0){k:Nat}(hk:k<=30)(hTP:T*P ^ k<=B)(hv:sm v N=T) :
  ∃x',bH (vB n (k:Int) K) n (N,x,0)=some (N,x')/\RQ x' (N9 W N k v) (T*P ^ k) N:=by
 have hs:=hB.ns;have hN:=hK.n1;have hP:=hK.pos;have h:=aR (body:=vB n (k:Int) K) k (fun(s:WB Rt) (t:Int)=>(N,s,t)) (fun s=>(N,s)) (fun t s=>RQ s (N9 W N t v) (T*P ^ t) N) (fun s t ht hq=>?_) (fun s _=>?_) (n:=n) (s:=x) (by rw[UB,U9]; exact hx) (by omega)
 exact h
 have hle:=zl (T:=T) hP ht;have h0:T*P ^ t≠0:=TU hT (Nat.pos_iff_ne_zero.1 (Vi (Tg hP)));obtain⟨x',g1,g2⟩:=II hB hK hq h0 (by omega) (by rw[xc hK,hv])
 refine⟨x',?_,by rw[TE,<-Ty]; exact g2⟩
 have hlim:lim N=true:=TK (by omega)
 unfold vB
 dsimp only
 rw[hK.len,V3,cg (by omega),SS,hlim,aw,g1,ab,V5]
 unfold vB
 dsimp only
 rw[V4]
def Ja(hB:Bd B n){a T b U:Nat}(hT:T≠0)(hU:U≠0)(hTb:T<=B)(hUb:U<=B)(ha:a<=B)(hb:b<=B) :
  Hl n false (Dg (dA T a).1) false (Dg (dA T a).2) false (Dg (dA U b).1) false (Dg (dA U b).2)=some (RL (a*b) (T*U)):=by
 obtain⟨p1,q1,q01⟩:=eH (a:=a) hT;obtain⟨p2,q2,q02⟩:=eH (a:=b) hU;have h1:=hB.mul (Tb p1 ha) (Tb p2 hb);have h3:=hB.mul (Tb q1 hTb) (Tb q2 hUb);have h4:=hB.sq;have h5:=hB.dq;have h6:=hB.nq;have h7:=hB.ns;unfold Hl;rw[nC (by omega) (by omega) (by omega) (by omega),ab]
 dsimp only
 rw[nC (by omega) (by omega) (by omega) (by omega),ab]
 dsimp only
 rw[xU (by omega) (by omega) (TU q01 q02) (by omega) (by omega),ab,p8 hT hU]
 rfl
def EY(hB:Bd B n)(hK:KQ K W P N){x:WB Rr}{v:Nat->Nat}{T:Nat}(hx:RR x v T N)(hT:T≠0)(hTP:T*P<=B)(hv:sm v N=T){j:Nat}(hj:j<N) :
  bH (pK n K x (j:Int)) n (false,Dg 0,false,Dg 1,0)=some (RL (kT W N v j) (T*P)):=by
 have hs:=hB.ns;have hP:=hK.pos;have hN:=hK.n1;have hTP0:T*P≠0:=TU hT hP;have hTle:T<=T*P:=Nat.le_mul_of_pos_right T (Tg hP);have hPle:P<=T*P:=Nat.le_mul_of_pos_left P (Tg hT);have hpre:=zn hK hv hj;obtain⟨s,h1,h2⟩:=aR (body:=pK n K x (j:Int)) N (fun(s:Nat×Nat) (v:Int)=>(false,Dg s.1,false,Dg s.2,v)) (fun s=>(false,Dg s.1,false,Dg s.2)) (fun i s=>s=dA (T*P) (sm (fun i=>v i*W i j) i)) (fun s i hi hq=>by
  subst hq;have e1:=hx.at_ i hi;obtain⟨row,e2,hr⟩:=hK.at_ i hi;obtain⟨y,e3,q2⟩:=hr.at_ j hj;obtain⟨a,b,c,d,e,f,g,i1,a',b',c',d',e',f',g',i'⟩:=y;have b1:v i<=T:=hv▸qp hi;have b2:W i j<=P:=hK.sum i hi▸qp hj;have b3:v i*W i j<=T*P:=T0 b1 b2;have b4:=hpre i (by omega)
  have t1:=Ja hB (a:=v i) (b:=W i j) hT hP (by omega) (by omega) (by omega) (by omega)
  have t2:=Cy hB (a:=sm (fun i=>v i*W i j) i) (b:=v i*W i j) hTP0 hTP0 (by omega) (by omega) (by omega) (by omega)
  rw[D1 (b:=sm (fun i=>v i*W i j) (i+1)) (U:=T*P) (TU hTP0 hTP0) hTP0 (by rw[sm,<-TI,Ty])] at t2
  refine⟨_,?_,rfl⟩;unfold pK
  dsimp only
  rw[hK.len,V3,hx.len,ak hi,aw,SS,e1,ab]
  unfold RL at t1 t2 ⊢
  dsimp only
  rw[aw,e2,ab,hr.len,ak hj,aw,SS,e3,ab]
  dsimp only
  rw[AO (by omega) q2,ab]
  unfold RL
  dsimp only
  rw[t1,ab]
  dsimp only
  rw[t2,ab]
  dsimp only
  rw[V5]) (fun s _=>by
  unfold pK
  dsimp only
  rw[hK.len,V4]) (n:=n) (s:=(0,1)) (by rw[sm,k9 hTP0]) (by omega)
 subst h2;exact h1
def KT(hB:Bd B n)(hK:KQ K W P N){x:WB Rr}{v:Nat->Nat}{T:Nat}(hx:RR x v T N)(hT:T≠0)(hTP:T*P<=B)(hv:sm v N=T) :
  ∃x',H7 n K x=some x'/\RR x' (kT W N v) (T*P) N:=by
 have hs:=hB.ns;have hN:=hK.n1;obtain⟨s,h1,h2⟩:=aR (body:=qe n K x) N (fun(s:WB Rr) (v:Int)=>(s,v)) id (fun i s=>RR s (kT W N v) (T*P) i) (fun s j hj hq=>by
  refine⟨s++[RL (kT W N v j) (T*P)],?_,⟨by rw[S5,hq.len]; rfl,fun i hi=>?_⟩⟩
  have hlim:lim (s++([RL (kT W N v j) (T*P)]:WB Rr)).length=true:=jH (by rw[S5,hq.len,TC]; omega)
  unfold qe
  dsimp only
  rw[hK.len,V3,xR (by omega),ab]
  dsimp only
  rw[EY hB hK hx hT hTP hv hj,ab];unfold RL at hlim ⊢
  dsimp only
  rw[hlim,aw,V5]
  by_cases c:i=j
  subst c;rw[Tu (by rw[hq.len]; exact SX _),hq.len,UE]; rfl
  rw[TH (by rw[hq.len]; omega)]; exact hq.at_ i (by omega)) (fun s _=>by
  unfold qe
  dsimp only
  rw[hK.len,V4]; rfl) (n:=n) (s:=[]) ⟨rfl,fun i hi=>Tl hi (by omega)⟩ (by omega)
 refine⟨s,?_,h2⟩;unfold H7;rw[show bH (qe n K x) n (([]:WB Rr),0)=_ from h1,ab]; rfl
def Hf(hB:Bd B n)(hK:KQ K W P N){x:WB Rr}{v:Nat->Nat}{T:Nat}(hx:RR x v T N)(hT:T≠0){k:Nat}(hk:k<=30)(hTP:T*P ^ k<=B)(hv:sm v N=T) :
  ∃x',bH (vd n (k:Int) K) n (x,0)=some x'/\RR x' (N9 W N k v) (T*P ^ k) N:=by
 have hs:=hB.ns;have hP:=hK.pos;exact aR (body:=vd n (k:Int) K) k (fun(s:WB Rr) (t:Int)=>(s,t)) id (fun t s=>RR s (N9 W N t v) (T*P ^ t) N) (fun s t ht hq=>by
  have hle:=zl (T:=T) hP ht;have h0:T*P ^ t≠0:=TU hT (Nat.pos_iff_ne_zero.1 (Vi (Tg hP)));obtain⟨x',g1,g2⟩:=KT hB hK hq h0 (by omega) (by rw[xc hK,hv])
  refine⟨x',?_,by rw[TE,<-Ty]; exact g2⟩
  unfold vd
  dsimp only
  rw[V3,g1,ab,V5]) (fun s _=>by
  unfold vd
  dsimp only
  rw[V4]; rfl) (n:=n) (s:=x) (by rw[UB,U9]; exact hx) (by omega)
def Bq (hB:Bd B n) (hb:Mx ^ 490<=B) {K:WB (WB Sh)} (hK:∀row,row ∈ K->WL row/\row.length<=5) (hN:K.length<=5) (h4:(∀row,row ∈ K->row.length=K.length)->K.length<=4) {L:WB Sh} (hL:WL L) (hL5:L.length<=5) (s:Int) :
  ∃l e,JC n K L s=some (l,e)/\JE n K L s=some (l,e)/\l.length<=5:=by
 have hn:=hB.ns;have h0:Mx ^ 8<=B:=Tb (Td kF (by decide)) hb
 rcases rC hB h0 hK hN with⟨c0,c1⟩|⟨c0,c1,c3,c2,W,P,hQ,hP⟩
 refine⟨[],330,?_,?_,by decide⟩
 unfold JC; rw[c0,ab]; rfl
 unfold JE; rw[c1,ab]; rfl
 ·have hK4:=h4 c2;rcases w7 (n:=n) (hB.n6 h0) hL (by omega) with⟨_,o1,o2⟩|⟨_,⟨j,o1⟩,o2⟩
  ·by_cases hl:L.length=K.length
   ·have bad:(rV n L=some false/\tY n L=some false)\/(s<0\/30<s)/\(∃b,rV n L=some b/\tY n L=some b)->∃l e,JC n K L s=some (l,e)/\JE n K L s=some (l,e)/\l.length<=5:=by
     intro h;refine⟨[],2,?_,?_,by decide⟩
     ·unfold JC;rw[c0,ab,S4 rfl,S9,bB,o1]
      show ob (ob (ob (some (-1:Int)) fun v0=>some (decide (0<=v0))) _) _=_
      rw[ab,ab,show decide ((0:Int)<=-1)=false from rfl,ab,bB,hl,S4 rfl,S9,bB]
      rcases h with⟨h,_⟩|⟨h,b,h5,_⟩
      rw[h,ab,To,bZ,ab,bZ]
      ·rw[h5,ab];cases b with
       | false=>rfl
       | true =>
        rw[S9,bB]
        by_cases c:s<0
        rw[ay c]; rfl
        rw[aD c,S4 (h.resolve_left c)]; rfl
     ·unfold JE;rw[c1,ab,S9,bB,o2,ab,S9,bB,hl,S4 rfl,S9,bB];rcases h with⟨_,h⟩|⟨h,b,_,h5⟩
      rw[h,ab,To,bZ,ab,bZ]
      ·rw[h5,ab];cases b with
       | false=>rfl
       | true =>
        rw[S9,bB]
        by_cases c:s<0
        rw[ay c]; rfl
        rw[aD c,S4 (h.resolve_left c)]; rfl
    rcases zR hB h0 hL hL5 with⟨v,T,g0,g1,g4,g2,g3,g5⟩|⟨g0,g1,_⟩
    by_cases hs:s<0\/30<s
    exact bad (.inr ⟨hs,_,g2,g3⟩)
    by_cases hT:sm v L.length=T
    
    obtain⟨k,rfl⟩:∃k:Nat,s=k:=⟨s.toNat,by omega⟩
    rw[S4 hT] at g2 g3;rw[hl] at g0 g4 hT;have hPk:0<P ^ k:=Vi (Tg hQ.pos);have hTP:T*P ^ k<=B:=by
     have e1:T<=Mx ^ 4:=Tb g4 (Td kF hK4);have e2:P<=Mx ^ 16:=by
      refine Tb hP ?_;rw[<-U8];exact Td kF (T0 hK4 hK4)
     have e0:P ^ k<=Mx ^ (16*k):=by rw[U8]; exact Nat.pow_le_pow_left e2 k
     refine Tb (Tb (T0 e1 e0) ?_) hb;rw[<-Ut];exact Td kF (by omega)
    have hTb:T<=B:=Tb (Nat.le_mul_of_pos_right T hPk) hTP;have h2:=aR (body:=vv n L) K.length (fun(s:WB Rt) (v:Int)=>(s,v)) id (fun i s=>RQ s v T i) (fun s i hi hq=>by
     obtain⟨x,e,q⟩:=g0.at_ i hi;obtain⟨a,b,c,d,e1,f,g,i1,a',b',c',d',e',f',g',i'⟩:=x;obtain⟨l,k,fq,q⟩:=Da (n:=n) (by omega) q
     refine⟨s++[(false,l,false,k)],?_,⟨by rw[S5,hq.len]; rfl,fun j hj=>?_⟩⟩
     have hlim:lim (s++([(false,l,false,k)]:WB Rt)).length=true:=TK (by rw[S5,hq.len,TC]; omega)
     unfold vv
     dsimp only
     rw[hl,V3,ak hi,aw,SS,e,ab]
     dsimp only
     rw[fq,ab]
     dsimp only
     rw[hlim,aw,V5]
     by_cases c:j=i
     subst c;exact⟨l,k,by rw[Tu (by rw[hq.len]; exact SX _),hq.len,UE]; rfl,q⟩
     obtain⟨l',k',e1,e2⟩:=hq.at_ j (by omega)
     exact⟨l',k',by rw[TH (by rw[hq.len]; omega)]; exact e1,e2⟩) (fun s hq=>by
     unfold vv
     dsimp only
     rw[hl,V4]; rfl) (n:=n) (s:=[]) ⟨rfl,fun i hi=>Tl hi (by omega)⟩ (by omega)
    obtain⟨x,h2,hq⟩:=h2;have h3:=aR (body:=uN n L) K.length (fun(s:WB Rr) (v:Int)=>(s,v)) id (fun i s=>RR s v T i) (fun s i hi hq=>by
     obtain⟨x,e,q⟩:=g0.at_ i hi;obtain⟨a,b,c,d,e1,f,g,i1,a',b',c',d',e',f',g',i'⟩:=x;refine⟨s++[RL (v i) T],?_,⟨by rw[S5,hq.len]; rfl,fun j hj=>?_⟩⟩
     have hlim:lim (s++([RL (v i) T]:WB Rr)).length=true:=TK (by rw[S5,hq.len,TC]; omega)
     unfold uN
     dsimp only
     rw[hl,V3,ak hi,aw,SS,e,ab]
     dsimp only
     rw[AO (by omega) q,ab]
     unfold RL at hlim ⊢
     dsimp only
     rw[hlim,aw,V5]
     by_cases c:j=i
     subst c;rw[Tu (by rw[hq.len]; exact SX _),hq.len,UE]; rfl
     rw[TH (by rw[hq.len]; omega)]; exact hq.at_ j (by omega)) (fun s hq=>by
     unfold uN
     dsimp only
     rw[hl,V4]; rfl) (n:=n) (s:=[]) ⟨rfl,fun i hi=>Tl hi (by omega)⟩ (by omega)
    obtain⟨y,h3,hr⟩:=h3;obtain⟨x',q0,q2⟩:=IF hB hQ hq g1 (by omega) hTP hT
    obtain⟨y',r0,r2⟩:=Hf hB hQ hr g1 (by omega) hTP hT
    obtain⟨l,e,t0,t1,t2⟩:=BM hB q2 r2 (TU g1 (Nat.pos_iff_ne_zero.1 hPk)) hTP (fun i hi=>Tb (qp hi) (Tb (Nat.le_of_eq (by rw[xc hQ,hT])) hTP)) hQ.n1
    refine⟨l,e,?_,?_,by omega⟩
    unfold JC;rw[c0,ab,S4 rfl,S9,bB,o1]
    show ob (ob (ob (some (-1:Int)) fun v0=>some (decide (0<=v0))) _) _=_
    rw[ab,ab,show decide ((0:Int)<=-1)=false from rfl,ab,bB,hl,S4 rfl,S9,bB,g2,ab,S9,bB,V4,Ta (by omega),ab,bB,show bH (vv n L) n (([]:WB Rt),0)=_ from h2,ab,id,hq.len,q0,ab]
    dsimp only
    rw[t0,ab]
    unfold JE;rw[c1,ab,S9,bB,o2,ab,S9,bB,hl,S4 rfl,S9,bB,g3,ab,S9,bB,V4,Ta (by omega),ab,bB,show bH (uN n L) n (([]:WB Rr),0)=_ from h3,ab,id,r0,ab,t1,ab]
    rw[Ta hT] at g2 g3;exact bad (.inl ⟨g2,g3⟩)
    exact bad (.inl ⟨g0,g1 o2⟩)
   refine⟨[],2,?_,?_,by decide⟩
   unfold JC;rw[c0,ab,S4 rfl,S9,bB,o1]
   show ob (ob (ob (some (-1:Int)) fun v0=>some (decide (0<=v0))) _) _=_
   rw[ab,ab,show decide ((0:Int)<=-1)=false from rfl,ab,bB,Ta (by omega),To,bZ,ab,bZ]
   unfold JE;rw[c1,ab,S9,bB,o2,ab,S9,bB,Ta (by omega),To,bZ,ab,bZ]
  refine⟨[],20,?_,?_,by decide⟩
  unfold JC;rw[c0,ab,S4 rfl,S9,bB,o1]
  show ob (ob (ob (some (j:Int)) fun v0=>some (decide (0<=v0))) _) _=_
  rw[ab,ab,S4 (by omega),ab,bZ]
  unfold JE;rw[c1,ab,S9,bB,o2,ab,To,bZ]
end
end
section
open Go Go.Ab Go.Ab.W
inductive RT(E:Nat->Nat->Prop)(a:Nat):Nat->Prop
 | refl:RT E a a
 | step {b c:Nat} (h:RT E a b) (e:E b c):RT E a c
def RT.trans{E:Nat->Nat->Prop}{a b c:Nat}(h:RT E a b)(k:RT E b c):RT E a c:=by
 induction k with
 | refl=>exact h
 | step _ e ih=>exact .step ih e
def Ed(W:Nat->Nat->Nat)(N i j:Nat):Prop:=i<N/\j<N/\W i j≠0
def yE(row:Nat->Nat)(i:Nat):Nat->Nat
 | 0=>2 ^ i
 | j+1=>if row j≠0 then yE row i j ||| 2 ^ j else yE row i j
def BX(row:Nat->Nat){i:Nat}(hi:i<60):∀j,j<=60->yE row i j<2 ^ 60
 | 0,_=>UD (by decide) hi
 | j+1,h=>by
  have:=BX row hi j (by omega)
  rw[yE]
  split
  exact Nat.or_lt_two_pow this (UD (by decide) (by omega))
  exact this
def qR(row:Nat->Nat)(i b:Nat):∀j,(yE row i j).testBit b=true↔b=i\/(b<j/\row b≠0)
 | 0=>by
  rw[yE,Nat.testBit_two_pow];simp only[Tv,Ve,false_and,or_false];exact⟨fun h=>h.symm,fun h=>h.symm⟩
 | j+1=>by
  have ih:=qR row i b j;rw[yE]
  split
  rename_i h;rw[Nat.testBit_or,Ul,ih,Nat.testBit_two_pow,Tv];constructor
  rintro((h1|⟨h1,h2⟩)|rfl)
  exact .inl h1
  exact .inr ⟨by omega,h2⟩
  exact .inr ⟨by omega,h⟩
  rintro(h1|⟨h1,h2⟩)
  exact .inl (.inl h1)
  by_cases e:j=b
  exact .inr e
  exact .inl (.inr ⟨by omega,h2⟩)
  rename_i h;rw[ih];constructor
  rintro(h1|⟨h1,h2⟩)
  exact .inl h1
  exact .inr ⟨by omega,h2⟩
  rintro(h1|⟨h1,h2⟩)
  exact .inl h1
  refine .inr ⟨?_,h2⟩
  by_cases e:b=j
  subst e; exact Tl h2 h
  omega
def OX{j:Nat}(hj:j<60):2 ^ j<18446744073709551616:=SY (UD (by decide) (show j<64 by omega)) (by decide)
def Mu{j:Nat}(hj:j<60):eT .u64 1 j=2 ^ j:=by
 rw[pa (by omega),Nat.one_mul,nF (OX hj)]
def HN{x:Nat}(h:x<2 ^ 60):x<18446744073709551616:=SY h (by decide)
def Sf{x y:Nat}(hx:x<2 ^ 60)(hy:y<2 ^ 60):uw .u64 (uw .u64 x ||| uw .u64 y)=x ||| y:=by
 rw[nF (HN hx),nF (HN hy),nF (HN (Nat.or_lt_two_pow hx hy))]
def EG{x k:Nat}(hx:x<2 ^ 60)(hk:k<60):decide (uw .u64 (uw .u64 (cG .u64 x k) &&& uw .u64 1)=1)=x.testBit k:=by
 have h1:x/2 ^ k<2 ^ 60:=TT (Nat.div_le_self _ _) hx;rw[yc (by omega),nF (HN h1),nF (show(1:Nat)<18446744073709551616 by decide),nF (HN (TT (Nat.and_le_left) h1)),Nat.and_one_is_mod,Nat.testBit_eq_decide_div_mod_eq]
section
variable{n N P:Nat}{K:WB (WB Sh)}{W:Nat->Nat->Nat}
def Ge(hn:1000000<n)(hM:KQ K W P N)(h60:N<=60){i:Nat}(hi:i<N){row:WB Sh}(hr:VQ row (W i) P N){base:WB Nat}(hb:base.length=N) :
  bH (vi n row (i:Int) K) n (base.set i (2 ^ i),0)=some (base.set i (yE (W i) i N)):=by
 have h:=aR (body:=vi n row (i:Int) K) N (fun(s:Nat) (v:Int)=>(base.set i (yE (W i) i s),v)) (fun s=>base.set i (yE (W i) i s)) (fun j s=>s=j) (fun s j hj hs=>?_) (fun s hs=>?_) (n:=n) (s:=0) rfl (by omega)
 obtain⟨s,h1,rfl⟩:=h;exact h1
 subst hs;refine⟨s+1,?_,rfl⟩;obtain⟨x,e1,q⟩:=hr.at_ s hj;obtain⟨a,b,c,d,e,f,g,i1,a',b',c',d',e',f',g',i'⟩:=x;obtain⟨l,k,fq,q⟩:=Da (n:=n) (by omega) q
 obtain⟨r,q1,q2,q3⟩:=nA (n:=n) q.num;have hz:=Q3 (h:=W i s) hM.pos;have e2:(base.set i (yE (W i) i s))[i]? = some (yE (W i) i s):=by rw[Ub (by omega)]
 unfold vi
 dsimp only
 rw[hr.len,V3,ak hj,aw,SS,e1,ab]
 dsimp only
 rw[fq,ab]
 dsimp only
 rw[q1,ab]
 by_cases c:W i s≠0
 have:=hz.2 c;have hr0:¬r<0:=fun h=>by have:=q2.1 h; omega
 have hr1:¬r=0:=fun h=>by have:=q3.1 h; omega
 rw[V3,hM.len,SS,ak hi,aw,SS,e2,ab,cg (by omega),aw,Mu (by omega),Sf (BX (W i) (by omega) s (by omega)) (UD (by decide) (by omega)),List.set_set,ab,V5,yE,S7 c]
 have h0:(dA P (W i s)).1=0:=Ug fun h=>c (hz.1 h);have:r=0:=q3.2 (by rw[h0]; rfl)
 rw[V4,ab,V5,yE,S8 c]
 subst hs;unfold vi
 dsimp only
 rw[hr.len,V4]
def gH(W:Nat->Nat->Nat)(N i:Nat):WB Nat:=(List.range N).map fun a=>if a<i then yE (W a) a N else 0
def ig(i:Nat):(gH W N i).length=N:=by unfold gH; simp
def EM{i:Nat}(hi:i<N):(gH W N i).set i (yE (W i) i N)=gH W N (i+1):=by
 refine Uy fun a=>?_
 by_cases ha:a<N
 by_cases e:i=a
 subst e;rw[Ub (by rw[ig]; exact hi)]
 unfold gH;rw[Tn,List.getElem?_range hi,SZ,VA]
 rw[Uc e];unfold gH;rw[Tn,Tn,List.getElem?_range ha,SZ,SZ]
 by_cases c:a<i
 rw[S7 c,VA]
 rw[S8 c,Vz]
 rw[TL (by rw[TQ,ig]; omega),TL (by rw[ig]; omega)]
def BR:gH W N 0=List.replicate N 0:=by
 unfold gH;refine Uy fun a=>?_
 by_cases ha:a<N
 rw[Tn,List.getElem?_range ha,SZ,TX,S7 ha,Vz]
 rw[TL (by simp; omega),TL (by simp; omega)]
def I2(hn:1000000<n)(hM:KQ K W P N)(h60:N<=60):bH (vj n K) n (List.replicate N 0,0)=some (gH W N N):=by
 have h:=aR (body:=vj n K) N (fun(s:Nat) (v:Int)=>(gH W N s,v)) (fun s=>gH W N s) (fun i s=>s=i) (fun s i hi hs=>?_) (fun s hs=>?_) (n:=n) (s:=0) rfl (by omega)
 obtain⟨s,h1,rfl⟩:=h;rw[<-BR]; exact h1
 subst hs;refine⟨s+1,?_,rfl⟩;obtain⟨row,er,hr⟩:=hM.at_ s hi;have e2:(gH W N s)[s]? = some ((gH W N s)[s]'(by rw[ig]; exact hi)):=SU _
 unfold vj
 dsimp only
 rw[hM.len,V3,ak hi,aw,SS,er,ab,cg (by omega),SS,ak hi,aw,e2,ab,Mu (by omega),Ge hn hM h60 hi hr (ig s),ab,EM hi,V5]
 subst hs;unfold vj
 dsimp only
 rw[hM.len,V4]
def Bt(l:WB Nat)(i j:Nat):Prop:=(l.getD i 0).testBit j=true
structure Wl(N:Nat)(l:WB Nat):Prop where
 len:l.length=N
 lt:∀i,i<N->l.getD i 0<2 ^ 60
def dI{l:WB Nat}{i r v:Nat}(hi:i<l.length):(l.set i v).getD r 0=if r=i then v else l.getD r 0:=by
 rw[Th,Th]
 by_cases e:r=i
 subst e; rw[Ub hi,S7 rfl]; rfl
 rw[Uc (Ne.symm e),S8 e]
def IA(hn:1000000<n)(hM:KQ K W P N)(h60:N<=60){k:Nat}(hk:k<N){l:WB Nat}(hl:Wl N l):∃l',bH (sx n K (k:Int)) n (l,0)=some l'/\Wl N l'/\∀r,r<N->∀b,Bt l' r b↔Bt l r b\/(Bt l r k/\Bt l k b):=by
 have h:=aR (body:=sx n K (k:Int)) N (fun(s:WB Nat) (v:Int)=>(s,v)) id (fun i s=>Wl N s/\∀r,r<N->∀b,Bt s r b↔if r<i then Bt l r b\/(Bt l r k/\Bt l k b) else Bt l r b) (fun s i hi hs=>?_) (fun s hs=>?_) (n:=n) (s:=l) ⟨hl,fun r _ b=>by rw[Vz]⟩ (by omega)
 obtain⟨s,h1,h2,h3⟩:=h;exact⟨s,h1,h2,fun r hr b=>by rw[h3 r hr b,S7 hr]⟩
 obtain⟨hw,hB⟩:=hs;have ei:s[i]? = some (s.getD i 0):=by rw[Th,SU (by rw[hw.len]; exact hi)]; rfl
 have ek:s[k]? = some (s.getD k 0):=by rw[Th,SU (by rw[hw.len]; exact hk)]; rfl
 have hBk:∀b,Bt s k b↔Bt l k b:=fun b=>by
  rw[hB k hk b]
  split
  exact⟨fun h=>h.elim id fun h=>h.2,.inl⟩
  exact Iff.rfl
 have hik:Bt s i k↔Bt l i k:=by rw[hB i hi k,Vz]
 by_cases c:(s.getD i 0).testBit k=true
 refine⟨s.set i (s.getD i 0 ||| s.getD k 0),?_,⟨by rw[TQ,hw.len],fun r hr=>?_⟩,fun r hr b=>?_⟩
 unfold sx
 dsimp only
 rw[hM.len,V3,SS,ak hi,aw,SS,ei,ab,cg (by omega),SS,EG (hw.lt i hi) (by omega),c,bZ,aw,ak hk,aw,ek,ab,aw,Sf (hw.lt i hi) (hw.lt k hk),ab,V5]
 rw[dI (by rw[hw.len]; exact hi)]
 split
 exact Nat.or_lt_two_pow (hw.lt i hi) (hw.lt k hk)
 exact hw.lt r hr
 unfold Bt at *;rw[dI (by rw[hw.len]; exact hi)]
 by_cases e:r=i
 subst e;rw[S7 rfl,VA,Nat.testBit_or,Ul,hB r hi b,Vz,hBk b]
 exact⟨fun h=>h.elim .inl fun h=>.inr ⟨hik.1 c,h⟩,fun h=>h.elim .inl fun h=>.inr h.2⟩
 rw[S8 e,hB r hr b]
 by_cases c2:r<i
 rw[S7 c2,VA]
 rw[S8 c2,Vz]
 refine⟨s,?_,hw,fun r hr b=>?_⟩
 unfold sx
 dsimp only
 rw[Bool.not_eq_true] at c;rw[hM.len,V3,SS,ak hi,aw,SS,ei,ab,cg (by omega),SS,EG (hw.lt i hi) (by omega),c,bB,ab,V5]
 rw[hB r hr b]
 by_cases e:r=i
 subst e;rw[Vz,VA]
 exact⟨.inl,fun h=>h.elim id fun h=>Tl (hik.2 h.1) c⟩
 by_cases c2:r<i
 rw[S7 c2,VA]
 rw[S8 c2,Vz]
 unfold sx
 dsimp only
 rw[hM.len,V4]; rfl
def IG(hn:1000000<n)(hM:KQ K W P N)(h60:N<=60):∃l',bH (vy n K) n (gH W N N,0)=some l'/\Wl N l'/\∀r,r<N->∀b,Bt l' r b↔RT (Ed W N) r b:=by
 have hm:∀i,i<N->(gH W N N).getD i 0=yE (W i) i N:=fun i hi=>by
  unfold gH;rw[Th,Tn,List.getElem?_range hi,SZ,S7 hi]; rfl
 have h:=aR (body:=vy n K) N (fun(s:WB Nat) (v:Int)=>(s,v)) id (fun k s=>Wl N s/\(∀i,i<N->∀b,Bt s i b->RT (Ed W N) i b/\b<N)/\(∀i,i<N->Bt s i i)/\(∀i b,Ed W N i b->Bt s i b)/\∀m,m<k->∀i,i<N->∀j,Bt s i m->Bt s m j->Bt s i j) (fun s k hk hs=>?_) (fun s hs=>?_) (n:=n) (s:=gH W N N) ⟨⟨ig _,fun i hi=>by rw[hm i hi]; exact BX _ (by omega) _ h60⟩,fun i hi b hb=>?_,fun i hi=>?_,fun i b hb=>?_,fun m hm=>Tl hm (by omega)⟩ (by omega)
 ·obtain⟨s,h1,h2,h3,h4,h5,h6⟩:=h;refine⟨s,h1,h2,fun r hr b=>⟨fun h=>(h3 r hr b h).1,fun h=>?_⟩⟩
  induction h with
  | refl=>exact h4 r hr
  | step _ e ih=>exact h6 _ e.1 r hr _ ih (h5 _ _ e)
 obtain⟨hw,h3,h4,h5,h6⟩:=hs;obtain⟨s',q1,q2,q3⟩:=IA hn hM h60 hk hw;refine⟨s',?_,q2,fun i hi b hb=>?_,fun i hi=>(q3 i hi i).2 (.inl (h4 i hi)),fun i b hb=>(q3 i hb.1 b).2 (.inl (h5 i b hb)),fun m hm i hi j a c=>?_⟩
 unfold vy
 dsimp only
 rw[hM.len,V3,q1,ab,V5]
 rcases(q3 i hi b).1 hb with h|⟨ha,hb⟩
 exact h3 i hi b h
 exact⟨(h3 i hi k ha).1.trans (h3 k hk b hb).1,(h3 k hk b hb).2⟩
 have hmM:m<N:=by omega
 by_cases e:m=k
 subst e;have a':Bt s i m:=((q3 i hi m).1 a).elim id fun h=>h.1;have c':Bt s m j:=((q3 m hmM j).1 c).elim id fun h=>h.2;exact(q3 i hi j).2 (.inr ⟨a',c'⟩)
 have hmk:m<k:=by omega
 rcases(q3 i hi m).1 a with a1|⟨a1,a2⟩<;>rcases(q3 m hmM j).1 c with c1|⟨c1,c2⟩
 exact(q3 i hi j).2 (.inl (h6 m hmk i hi j a1 c1))
 exact(q3 i hi j).2 (.inr ⟨h6 m hmk i hi k a1 c1,c2⟩)
 exact(q3 i hi j).2 (.inr ⟨a1,h6 m hmk k hk j a2 c1⟩)
 exact(q3 i hi j).2 (.inr ⟨a1,c2⟩)
 unfold vy
 dsimp only
 rw[hM.len,V4]; rfl
 unfold Bt at hb;rw[hm i hi,qR] at hb;rcases hb with rfl|⟨h1,h2⟩
 exact⟨.refl,hi⟩
 exact⟨.step .refl ⟨hi,h1,h2⟩,h1⟩
 unfold Bt;rw[hm i hi,qR]; exact .inl rfl
 unfold Bt;rw[hm i hb.1,qR]; exact .inr ⟨hb.2.1,hb.2.2⟩
end
def qN(W:Nat->Nat->Nat)(N:Nat)(a b:Nat):Prop:=RT (Ed W N) a b/\RT (Ed W N) b a
def qN.symm{W:Nat->Nat->Nat}{N:Nat}{a b:Nat}(h:qN W N a b):qN W N b a:=⟨h.2,h.1⟩
def qN.trans{W:Nat->Nat->Nat}{N:Nat}{a b c:Nat}(h:qN W N a b)(k:qN W N b c):qN W N a c:=⟨h.1.trans k.1,k.2.trans h.2⟩
def qN.refl{W:Nat->Nat->Nat}{N:Nat}(a:Nat):qN W N a a:=⟨.refl,.refl⟩
def ld{c:WB Nat}{i:Nat}(hi:i<c.length):(ints c)[i]? = some ((c.getD i 0:Nat):Int):=by
 unfold ints;rw[Tn,Th,SU hi]; rfl
def ints_set(c:WB Nat)(i v:Nat):(ints c).set i (v:Int)=ints (c.set i v):=by unfold ints; rw[List.map_set]
def rX(c:WB Nat):(ints c).length=c.length:=by unfold ints; rw[Tw]
section
variable{n N P:Nat}{K:WB (WB Sh)}{W:Nat->Nat->Nat}
def F3(hn:1000000<n)(hM:KQ K W P N)(h60:N<=60){l:WB Nat}(hl:Wl N l)(hB:∀r,r<N->∀b,Bt l r b↔RT (Ed W N) r b){i:Nat}(hi:i<N){c:WB Nat}(hc:c.length=N) :
  ∃v,bH (rJ n (i:Int) K l) n (ints c,0)=some (ints (c.set i v))/\(((∀b,b<i->¬qN W N i b)/\v=c.getD i 0)\/∃b,b<i/\qN W N i b/\v=c.getD b 0):=by
 have hset:c.set i (c.getD i 0)=c:=by
  refine Uy fun a=>?_
  by_cases e:i=a
  subst e;rw[Ub (by omega),Th,SU (by omega)]; rfl
  rw[Uc e]
 have h:=aR (body:=rJ n (i:Int) K l) i (fun(v:Nat) (j:Int)=>(ints (c.set i v),j)) (fun v=>ints (c.set i v)) (fun j v=>((∀b,b<j->¬qN W N i b)/\v=c.getD i 0)\/∃b,b<j/\qN W N i b/\v=c.getD b 0) (fun v j hj hv=>?_) (fun v _=>?_) (n:=n) (s:=c.getD i 0) (.inl ⟨fun b hb=>Tl hb (by omega),rfl⟩) (by omega)
 obtain⟨v,h1,h2⟩:=h;rw[hset] at h1;exact⟨v,h1,h2⟩
 ·have hj':j<N:=by omega
  have ei:l[i]? = some (l.getD i 0):=by rw[Th,SU (by rw[hl.len]; exact hi)]; rfl
  have ej:l[j]? = some (l.getD j 0):=by rw[Th,SU (by rw[hl.len]; exact hj')]; rfl
  have cj:(ints (c.set i v))[j]? = some ((c.getD j 0:Nat):Int):=by
   rw[ld (by rw[TQ]; omega),dI (by omega),Vz]
  have ci:(ints (c.set i v))[i]? = some ((v:Nat):Int):=by
   rw[ld (by rw[TQ]; omega),dI (by omega),S7 rfl]
  have hm:((l.getD i 0).testBit j &&(l.getD j 0).testBit i)=true↔qN W N i j:=by
   rw[SW];exact and_congr (hB i hi j) (hB j hj' i)
  by_cases cm:qN W N i j
  have hm':=hm.2 cm;rw[SW] at hm';refine⟨c.getD j 0,?_,.inr ⟨j,by omega,cm,rfl⟩⟩
  unfold rJ
  dsimp only
  rw[V3,hM.len,SS,ak hi,aw,SS,ei,ab,cg (by omega),SS,EG (hl.lt i hi) (by omega),hm'.1,bZ,ak hj',aw,ej,ab,cg (by omega),EG (hl.lt j hj') (by omega),hm'.2,ab,bZ,aw,cj,ab,aw,ci,ab,ints_set,List.set_set,ab,V5]
  ·have hv':((∀b,b<j+1->¬qN W N i b)/\v=c.getD i 0)\/∃b,b<j+1/\qN W N i b/\v=c.getD b 0:=by
    rcases hv with⟨h1,h2⟩|⟨b,h1,h2,h3⟩
    refine .inl ⟨fun b hb=>?_,h2⟩
    by_cases e:b=j
    subst e; exact cm
    exact h1 b (by omega)
    exact .inr ⟨b,by omega,h2,h3⟩
   refine⟨v,?_,hv'⟩;unfold rJ
   dsimp only
   rw[V3,hM.len,SS,ak hi,aw,SS,ei,ab,cg (by omega),SS,EG (hl.lt i hi) (by omega)]
   cases c1:(l.getD i 0).testBit j with
   | false=>rw[bB,ab,bB,ab,V5]
   | true =>
    have c2:(l.getD j 0).testBit i=false:=by
     cases c2:(l.getD j 0).testBit i with
     | false=>rfl
     | true=>exact Tl (hm.1 (by rw[c1,c2]; rfl)) cm
    rw[bZ,ak hj',aw,ej,ab,cg (by omega),EG (hl.lt j hj') (by omega),c2,ab,bB,ab,V5]
 unfold rJ
 dsimp only
 rw[V4]
end
set_option exponentiation.threshold 3000
structure Cls(W:Nat->Nat->Nat)(N i:Nat)(f:Nat->Nat)(nx:Nat):Prop where
 lt:∀a,a<i->f a<nx
 eq:∀a,a<i->∀b,b<i->(f a=f b↔qN W N a b)
 all:∀v,v<nx->∃a,a<i/\f a=v
 new:∀a,a<i->f a=0\/∃b,b<a/\f b+1=f a
 nx:nx<=i
section
variable{W:Nat->Nat->Nat}{N i nx:Nat}{f f':Nat->Nat}
def Cls.fresh(hs:Cls W N i f nx)(hf:∀a,a<i->f' a=f a)(hi:f' i=nx)(hno:∀b,b<i->¬qN W N i b):Cls W N (i+1) f' (nx+1):=by
 have hnx:=hs.nx;refine⟨fun a ha=>?_,fun a ha b hb=>?_,fun u hu=>?_,fun a ha=>?_,by omega⟩
 by_cases e:a=i
 subst e; omega
 rw[hf a (by omega)]; have:=hs.lt a (by omega); omega
 by_cases e:a=i<;>by_cases g:b=i
 subst e; subst g; exact⟨fun _=>.refl _,fun _=>rfl⟩
 subst e;rw[hi,hf b (by omega)]
 have:=hs.lt b (by omega)
 exact⟨fun h=>Tl h (by omega),fun h=>Tl h (hno b (by omega))⟩
 subst g;rw[hi,hf a (by omega)]
 have:=hs.lt a (by omega)
 exact⟨fun h=>Tl h (by omega),fun h=>Tl h.symm (hno a (by omega))⟩
 rw[hf a (by omega),hf b (by omega)]
 exact hs.eq a (by omega) b (by omega)
 by_cases e:u=nx
 exact⟨i,by omega,by rw[hi,e]⟩
 obtain⟨a,h1,h2⟩:=hs.all u (by omega)
 exact⟨a,by omega,by rw[hf a h1,h2]⟩
 by_cases e:a=i
 subst e;rw[hi]
 by_cases e0:nx=0
 exact .inl e0
 obtain⟨b,h1,h2⟩:=hs.all (nx-1) (by omega)
 exact .inr ⟨b,h1,by rw[hf b h1]; omega⟩
 rw[hf a (by omega)]
 rcases hs.new a (by omega) with h|⟨b,h1,h2⟩
 exact .inl h
 exact .inr ⟨b,h1,by rw[hf b (by omega),h2]⟩
def Cls.old(hs:Cls W N i f nx)(hf:∀a,a<i->f' a=f a){b:Nat}(b1:b<i)(b2:qN W N i b)(hi:f' i=f b):Cls W N (i+1) f' nx:=by
 have hnx:=hs.nx;have hb:=hs.lt b b1;refine⟨fun a ha=>?_,fun a ha d hd=>?_,fun u hu=>?_,fun a ha=>?_,by omega⟩
 by_cases e:a=i
 subst e; omega
 rw[hf a (by omega)]; exact hs.lt a (by omega)
 by_cases e:a=i<;>by_cases g:d=i
 subst e; subst g; exact⟨fun _=>.refl _,fun _=>rfl⟩
 subst e;rw[hi,hf d (by omega),hs.eq b b1 d (by omega)]
 exact⟨fun h=>b2.trans h,fun h=>b2.symm.trans h⟩
 subst g;rw[hi,hf a (by omega),hs.eq a (by omega) b b1]
 exact⟨fun h=>h.trans b2.symm,fun h=>h.trans b2⟩
 rw[hf a (by omega),hf d (by omega)]
 exact hs.eq a (by omega) d (by omega)
 obtain⟨a,h1,h2⟩:=hs.all u hu;exact⟨a,by omega,by rw[hf a h1,h2]⟩
 by_cases e:a=i
 subst e;rw[hi];rcases hs.new b b1 with h|⟨d,h1,h2⟩
 exact .inl h
 exact .inr ⟨d,by omega,by rw[hf d (by omega),h2]⟩
 rw[hf a (by omega)]
 rcases hs.new a (by omega) with h|⟨d,h1,h2⟩
 exact .inl h
 exact .inr ⟨d,h1,by rw[hf d (by omega),h2]⟩
def Cls.down(hs:Cls W N i f nx):∀(a v:Nat),a<i->v<=f a->∃b,b<=a/\f b=v:=fun a=>by
 induction a using Nat.strongRecOn with
 | ind a ih =>
  intro v ha hv
  by_cases e:v=f a
  exact⟨a,SX _,e.symm⟩
  rcases hs.new a ha with h|⟨b,h1,h2⟩
  omega
  obtain⟨c,c1,c2⟩:=ih b h1 v (by omega) (by omega)
  exact⟨c,by omega,c2⟩
def Cls.one{g:Nat->Nat}{ny:Nat}(h:Cls W N i f nx)(k:Cls W N i g ny):∀a,a<i->f a=g a:=fun a=>by
 induction a using Nat.strongRecOn with
 | ind a ih =>
  intro ha
  by_cases c:∃b,b<a/\qN W N a b
  obtain⟨b,b1,b2⟩:=c;rw[(h.eq a ha b (by omega)).2 b2,(k.eq a ha b (by omega)).2 b2,ih b b1 (by omega)]
  have key:∀{p q:Nat->Nat} {x y:Nat},Cls W N i p x->Cls W N i q y->(∀b,b<a->p b=q b)->¬p a<q a:=fun{p q x y} hp hq hpq hlt=>by
   rcases hq.new a ha with e|⟨b,b1,b2⟩
   omega
   obtain⟨d,d1,d2⟩:=hp.down b (p a) (by omega) (by rw[hpq b b1]; omega)
   exact c ⟨d,by omega,(hp.eq a ha d (by omega)).1 d2.symm⟩
  have h1:=key h k fun b hb=>ih b hb (by omega)
  have h2:=key k h fun b hb=>(ih b hb (by omega)).symm
  omega
end
section
variable{n N P:Nat}{K:WB (WB Sh)}{W:Nat->Nat->Nat}
def Be(hn:1000000<n)(hM:KQ K W P N)(h60:N<=60)(hC:Me n K=some 0):∃c nx,NG n K=some (ints c,0)/\c.length=N/\Cls W N N (fun a=>c.getD a 0) nx:=by
 obtain⟨l,q1,q2,q3⟩:=IG hn hM h60;have h:=aR (body:=qy n K l) N (fun(s:WB Nat×Nat) (v:Int)=>(ints s.1,((s.2:Nat):Int),v)) (fun s=>ints s.1) (fun i s=>s.1.length=N/\Cls W N i (fun a=>s.1.getD a 0) s.2) (fun s i hi hs=>?_) (fun s _=>?_) (n:=n) (s:=(List.replicate N 0,0)) ⟨by simp,fun a ha=>Tl ha (by omega),fun a ha=>Tl ha (by omega),fun v hv=>Tl hv (by omega),fun a ha=>Tl ha (by omega),by simp⟩ (by omega)
 obtain⟨s,h1,h2,h3⟩:=h;refine⟨s.1,s.2,?_,h2,h3⟩;have e0:ints (List.replicate N 0)=List.replicate N (0:Int):=by unfold ints; rw[List.map_replicate]; rfl
 rw[e0] at h1;unfold NG;have hlim:lim N=true:=TK (by omega)
 rw[hC,ab,S4 rfl,S9,bB,hM.len,cg (by omega),SS,hlim,aw,I2 hn hM h60,ab,q1,ab,cg (by omega),aw]
 show ob (bH (qy n K l) n (List.replicate N (0:Int),0,0)) _=_
 have h1':bH (qy n K l) n (List.replicate N (0:Int),0,0)=some (ints s.1):=h1;rw[h1']; rfl
 obtain⟨c,nx⟩:=s;obtain⟨hlen,hs⟩:=hs
 dsimp only at hs hlen ⊢
 have hnx:=hs.nx;obtain⟨v,g1,g2⟩:=F3 hn hM h60 q2 q3 hi (c:=c.set i nx) (by rw[TQ,hlen])
 rw[List.set_set] at g1;have hil:i<c.length:=by rw[hlen]; exact hi
 have ci:(ints c)[i]? = some ((c.getD i 0:Nat):Int):=ld hil;have cv:(ints (c.set i v))[i]? = some ((v:Nat):Int):=by rw[ld (by rw[TQ]; omega),dI hil,S7 rfl]
 have hget:∀a,a<i->(c.set i v).getD a 0=c.getD a 0:=fun a ha=>by rw[dI hil,Vz]
 have hgi:(c.set i v).getD i 0=v:=by rw[dI hil,S7 rfl]
 have body:∀(x:Nat),(if v=nx then nx+1 else nx)=x->qy n K l (ints c,(nx:Int),(i:Int))=some (.inl (ints (c.set i v),(x:Int),((i+1:Nat):Int))):=fun x hx=>by
  unfold qy
  dsimp only
  rw[hM.len,V3,SS,ak hi,aw,SS,ci,ab,ints_set,g1,ab,aw,cv,ab]
  by_cases e:v=nx
  rw[V3,ab]
  dsimp only
  rw[V5,V5,<-hx,S7 e]
  rw[V4,ab]
  dsimp only
  rw[V5,<-hx,S8 e]
 rcases g2 with⟨g2,g3⟩|⟨b,b1,b2,b3⟩
 rw[dI hil,S7 rfl] at g3;exact⟨(c.set i v,nx+1),body _ (by rw[S7 g3]),by rw[TQ,hlen],hs.fresh hget (hgi.trans g3) g2⟩
 rw[dI hil,Vz] at b3
 have hb:=hs.lt b b1;exact⟨(c.set i v,nx),body _ (by rw[Vz]),by rw[TQ,hlen],hs.old hget b1 b2 (hgi.trans b3)⟩
 unfold qy
 dsimp only
 rw[hM.len,V4]
def Tr(s:WB Bool)(x:Nat):Prop:=s.getD x false=true
def Jc{s:WB Bool}{i x:Nat}(hi:i<s.length):Tr (s.set i true) x↔x=i\/Tr s x:=by
 unfold Tr;rw[Th,Th]
 by_cases e:x=i
 subst e; rw[Ub hi]; exact⟨fun _=>.inl rfl,fun _=>rfl⟩
 rw[Uc (Ne.symm e)]; exact⟨.inr,fun h=>h.resolve_left e⟩
def Bi{s:WB Bool}{i:Nat}(hi:i<s.length):s[i]? = some (s.getD i false):=by rw[Th,SU hi]; rfl
def NM(hn:2000000<n){a b c d e f g i a' b' c' d' e' f' g' i' v T:Nat}(hT:T≠0)(h:ShQ (a,b,c,d,e,f,g,i,a',b',c',d',e',f',g',i') v T):∃r,G8 n a b c d e f g i=some r/\(0<r↔v≠0):=by
 have e1:=h.num
 change zv [a,b,c,d,e,f,g,i]=_ at e1
 have hv:=nh h.ws.1 rfl
 change(zv [a,b,c,d,e,f,g,i]).natAbs<=_ at hv
 rw[e1,TJ] at hv;have hd:=zf;have b1:(2:Nat) ^ 511<2 ^ 512:=by decide +kernel
 obtain⟨r,r1,r2,r3⟩:=D5 (n:=n) (by omega) (a:=(dA T v).1) (b:=0) (by omega) (by omega)
 rw[fW] at r1;refine⟨r,?_,?_⟩
 unfold G8;rw[kM hn h.ws.1,ab]
 dsimp only
 rw[e1,Ta (by omega),TJ,r1,ab]
 rw[<-Q3 hT];omega
def FG(hn:2000000<n)(hM:KQ K W P N){i:Nat}(hi:i<N){s:WB Bool}(hs:s.length=N) :
  ∃s',bH (nG n K (i:Int)) n (s,0)=some s'/\s'.length=N/\∀x,Tr s' x↔Tr s x\/(Tr s i/\Ed W N i x):=by
 have hN:=hM.n1;obtain⟨s',h1,h2,h3⟩:=aR (body:=nG n K (i:Int)) N (fun(s:WB Bool) (v:Int)=>(s,v)) id (fun j t=>t.length=N/\∀x,Tr t x↔Tr s x\/(Tr s i/\x<j/\Ed W N i x)) (fun t j hj ht=>by
  obtain⟨t1,t2⟩:=ht;have ti:Tr t i↔Tr s i:=(t2 i).trans ⟨fun h=>h.elim id fun h=>h.1,.inl⟩;obtain⟨row,e2,hr⟩:=hM.at_ i hi;obtain⟨y,e3,q⟩:=hr.at_ j hj;obtain⟨a,b,c,d,e,f,g,i1,a',b',c',d',e',f',g',i'⟩:=y;obtain⟨r,r1,r2⟩:=NM hn hM.pos q;have ei:=Bi (s:=t) (i:=i) (by omega)
  have ej:=Bi (s:=t) (i:=j) (by omega)
  by_cases c1:Tr t i/\W i j≠0
  refine⟨t.set j true,?_,by rw[TQ]; exact t1,fun x=>?_⟩
  have ct:t.getD i false=true:=c1.1;rw[ct] at ei;unfold nG
  dsimp only
  rw[hM.len,V3,SS,ak hi,aw,SS,ei,ab,bZ,aw,e2,ab,hr.len,ak hj,aw,SS,e3,ab]
  dsimp only
  rw[r1,ab,S4 (r2.2 c1.2),ab,bZ,aw,ej,ab,ab,V5]
  rw[Jc (by omega),t2 x]
  constructor
  rintro(rfl|h|⟨h1,h2,h3⟩)
  exact .inr ⟨ti.1 c1.1,by omega,hi,hj,c1.2⟩
  exact .inl h
  exact .inr ⟨h1,by omega,h3⟩
  rintro(h|⟨h1,h2,h3⟩)
  exact .inr (.inl h)
  by_cases e:x=j
  exact .inl e
  exact .inr (.inr ⟨h1,by omega,h3⟩)
  ·refine⟨t,?_,t1,fun x=>?_⟩
   ·unfold nG
    dsimp only
    rw[hM.len,V3,SS,ak hi,aw,SS,ei,ab]
    cases ct:t.getD i false with
    | false=>rw[bB,ab,bB,ab,V5]
    | true =>
     have:¬0<r:=fun h=>c1 ⟨ct,r2.1 h⟩;rw[bZ,aw,e2,ab,hr.len,ak hj,aw,SS,e3,ab]
     dsimp only
     rw[r1,ab,Ta this,ab,bB,ab,V5]
   rw[t2 x];constructor
   rintro(h|⟨h1,h2,h3⟩)
   exact .inl h
   exact .inr ⟨h1,by omega,h3⟩
   rintro(h|⟨h1,h2,h3⟩)
   exact .inl h
   by_cases e:x=j
   subst e; exact Tl ⟨ti.2 h1,h3.2.2⟩ c1
   exact .inr ⟨h1,by omega,h3⟩) (fun t _=>by
  unfold nG
  dsimp only
  rw[hM.len,V4]; rfl) (n:=n) (s:=s) ⟨hs,fun x=>⟨.inl,fun h=>h.elim id fun h=>Tl h.2.1 (by omega)⟩⟩ (by omega)
 exact⟨s',h1,h2,fun x=>(h3 x).trans (or_congr Iff.rfl (and_congr Iff.rfl ⟨fun h=>h.2,fun h=>⟨h.2.1,h⟩⟩))⟩
def EP(hn:2000000<n)(hM:KQ K W P N){s:WB Bool}(hs:s.length=N) :
  ∃s',bH (pj n K) n (s,0)=some s'/\s'.length=N/\(∀C:Nat->Prop,(∀i x,C i->Ed W N i x->C x)->(∀x,Tr s x->C x)->∀x,Tr s' x->C x)/\(∀x,Tr s x->Tr s' x)/\∀i x,Tr s i->Ed W N i x->Tr s' x:=by
 have hN:=hM.n1;obtain⟨s',h1,h2,h3,h4,h5⟩:=aR (body:=pj n K) N (fun(s:WB Bool) (v:Int)=>(s,v)) id (fun j t=>t.length=N/\(∀C:Nat->Prop,(∀i x,C i->Ed W N i x->C x)->(∀x,Tr s x->C x)->∀x,Tr t x->C x)/\(∀x,Tr s x->Tr t x)/\∀i x,i<j->Tr s i->Ed W N i x->Tr t x) (fun t i hi ht=>by
  obtain⟨t1,t2,t3,t4⟩:=ht;obtain⟨u,u1,u2,u3⟩:=FG hn hM hi t1;refine⟨u,?_,u2,fun C hC h0 x hx=>?_,fun x hx=>(u3 x).2 (.inl (t3 x hx)),fun k x hk hx he=>?_⟩
  unfold pj
  dsimp only
  rw[hM.len,V3,u1,ab,V5]
  rcases(u3 x).1 hx with h|⟨h,e⟩
  exact t2 C hC h0 x h
  exact hC i x (t2 C hC h0 i h) e
  by_cases e:k=i
  subst e; exact(u3 x).2 (.inr ⟨t3 k hx,he⟩)
  exact(u3 x).2 (.inl (t4 k x (by omega) hx he))) (fun t _=>by
  unfold pj
  dsimp only
  rw[hM.len,V4]; rfl) (n:=n) (s:=s) ⟨hs,fun C _ h=>h,fun x h=>h,fun i x hi=>Tl hi (by omega)⟩ (by omega)
 exact⟨s',h1,h2,h3,h4,fun i x hx he=>h5 i x he.1 hx he⟩
def filter_lt{p q:Nat->Bool}:∀{l:WB Nat},(∀x∈l,p x=true->q x=true)->(l.filter p).length<=(l.filter q).length/\((∃x∈l,p x=false/\q x=true)->(l.filter p).length<(l.filter q).length)
 | [],_=>⟨SX _,fun⟨_,h,_⟩=>by cases h⟩
 | a::l,h=>by
  obtain⟨h1,h2⟩:=filter_lt (l:=l) fun x hx=>h x (TB _ hx);have h0:=h a (T5 ..);rw[List.filter_cons,List.filter_cons];cases hp:p a<;>cases hq:q a
  refine⟨h1,?_⟩;rintro⟨x,hx,a1,a2⟩;rcases Tt.1 hx with rfl|hx
  rw[hq] at a2; cases a2
  exact h2 ⟨x,hx,a1,a2⟩
  simp only[if_true,Tf,if_false,Tz];exact⟨by omega,fun _=>by omega⟩
  rw[h0 hp] at hq; cases hq
  simp only[if_true,Tz];refine⟨by omega,?_⟩
  rintro⟨x,hx,a1,a2⟩;rcases Tt.1 hx with rfl|hx
  rw[hp] at a1; cases a1
  have:=h2 ⟨x,hx,a1,a2⟩; omega
def DE(N:Nat)(l:WB Bool):Nat:=((List.range N).filter fun x:Nat=>l.getD x false).length
open Classical in
def zK(hn:2000000<n)(hM:KQ K W P N){a b:Nat}(ha:a<N)(hb:b<N):EZ n K (a:Int) (b:Int)=some (decide (RT (Ed W N) a b)):=by
 have hN:=hM.n1;have h0:∀x,Tr ((List.replicate N false).set a true) x↔x=a:=fun x=>by
  rw[Jc (by simpa using ha)]
  refine⟨fun h=>h.elim id fun h=>?_,.inl⟩;unfold Tr at h;rw[Th,TX] at h
  split at h<;>cases h
 obtain⟨s,h1,h2,h3,h4,h5⟩:=aR (body:=pH n K) N (fun(s:WB Bool) (v:Int)=>(s,v)) id (fun r s=>s.length=N/\(∀x,Tr s x->RT (Ed W N) a x)/\Tr s a/\((∀x,RT (Ed W N) a x->Tr s x)\/r+1<=DE N s)) (fun s r hr hs=>by
  obtain⟨hl,hs1,hs2,hs3⟩:=hs;obtain⟨s',g1,g2,g3,g4,g5⟩:=EP hn hM hl;refine⟨s',?_,g2,g3 (RT (Ed W N) a) (fun i x h e=>.step h e) hs1,g4 a hs2,?_⟩
  unfold pH
  dsimp only
  rw[hM.len,V3,g1,ab,V5]
  ·rcases hs3 with h|h
   exact .inl fun x hx=>g4 x (h x hx)
   ·by_cases hc:∀i x,Tr s i->Ed W N i x->Tr s x
    ·left
     intro x hx;refine g4 x ?_
     induction hx with
     | refl=>exact hs2
     | step _ e ih=>exact hc _ _ ih e
    right
    have:∃i x,Tr s i/\Ed W N i x/\¬Tr s x:=by
     refine Classical.byContradiction fun hn=>hc fun i x h1 h2=>Classical.byContradiction fun h3=>hn ⟨i,x,h1,h2,h3⟩
    obtain⟨i,x,h1,h2,h3⟩:=this;have:=(filter_lt (p:=fun x:Nat=>s.getD x false) (q:=fun x:Nat=>s'.getD x false) (l:=List.range N) fun x _ hx=>g4 x hx).2 ⟨x,UK.2 h2.2.1,by unfold Tr at h3; rwa[Bool.not_eq_true] at h3,g5 i x h1 h2⟩
    unfold DE at *;omega) (fun s _=>by
  unfold pH
  dsimp only
  rw[hM.len,V4]; rfl) (n:=n) (s:=(List.replicate N false).set a true) ⟨by simp,fun x hx=>by rw[(h0 x).1 hx]; exact .refl,(h0 a).2 rfl,.inr (by
  have:=(filter_lt (p:=fun _=>false) (q:=fun x:Nat=>((List.replicate N false).set a true).getD x false) (l:=List.range N) fun x _ hx=>by cases hx).2 ⟨a,UK.2 ha,rfl,(h0 a).2 rfl⟩
  unfold DE;omega)⟩ (by omega)
 have hall:∀x,RT (Ed W N) a x->Tr s x:=by
  rcases h5 with h|h
  exact h
  have:DE N s<=N:=Tb (List.length_filter_le _ _) (by simp)
  omega
 unfold EZ;rw[hM.len,cg (by omega),SS,jH (by omega),aw,ak ha,aw,SS,TX,S7 ha,ab,show bH (pH n K) n ((List.replicate N false).set a true,0)=_ from h1,ab,ak hb,aw,SS,id,Bi (by omega),ab]
 refine Up some ?_;rw[Vg,Tv];exact⟨h3 b,hall b⟩
open Classical in
def F5(hn:2000000<n)(hM:KQ K W P N){i:Nat}(hi:i<N){c:WB Nat}(hc:c.length=i) :
  ∃v,bH (ph n (i:Int) K (ints c)) n (-1,0)=some v/\((v = -1/\∀b,b<i->¬qN W N i b)\/∃b,b<i/\qN W N i b/\v=((c.getD b 0:Nat):Int)):=by
 have hN:=hM.n1;exact aR (body:=ph n (i:Int) K (ints c)) i (fun(v:Int) (j:Int)=>(v,j)) id (fun j v=>(v = -1/\∀b,b<j->¬qN W N i b)\/∃b,b<i/\qN W N i b/\v=((c.getD b 0:Nat):Int)) (fun v j hj hv=>by
  have hr1:=zK hn hM (a:=i) (b:=j) hi (by omega)
  have hr2:=zK hn hM (a:=j) (b:=i) (by omega) hi
  have cj:(ints c)[j]? = some ((c.getD j 0:Nat):Int):=ld (by omega)
  rcases hv with⟨rfl,hv⟩|⟨b,b1,b2,b3⟩
  by_cases m1:RT (Ed W N) i j
  by_cases m2:RT (Ed W N) j i
  refine⟨((c.getD j 0:Nat):Int),?_,.inr ⟨j,hj,⟨m1,m2⟩,rfl⟩⟩;unfold ph
  dsimp only
  rw[V3,ay (by decide),hr1,ab,S4 m1,bZ,hr2,ab,S4 m2,ab,bZ,rX,hc,ak hj,aw,SS,cj,ab,ab,V5]
  refine⟨-1,?_,.inl ⟨rfl,fun b hb=>?_⟩⟩
  unfold ph
  dsimp only
  rw[V3,ay (by decide),hr1,ab,S4 m1,bZ,hr2,ab,Ta m2,ab,bB,ab,V5]
  by_cases e:b=j
  subst e; exact fun h=>m2 h.2
  exact hv b (by omega)
  refine⟨-1,?_,.inl ⟨rfl,fun b hb=>?_⟩⟩
  unfold ph
  dsimp only
  rw[V3,ay (by decide),hr1,ab,Ta m1,bB,ab,bB,ab,V5]
  by_cases e:b=j
  subst e; exact fun h=>m1 h.1
  exact hv b (by omega)
  refine⟨v,?_,.inr ⟨b,b1,b2,b3⟩⟩;unfold ph
  dsimp only
  rw[V3,V4,ab,bB,ab,V5]) (fun v _=>by
  unfold ph
  dsimp only
  rw[V4]; rfl) (n:=n) (s:=-1) (.inl ⟨rfl,fun b hb=>Tl hb (by omega)⟩) (by omega)
def HG(hn:2000000<n)(hM:KQ K W P N)(hC:Mm n K=some true):∃c nx,Oz n K=some (ints c,0)/\c.length=N/\Cls W N N (fun a=>c.getD a 0) nx:=by
 have hN:=hM.n1;have h:=aR (body:=s9 n K) N (fun(s:WB Nat×Nat) (v:Int)=>(ints s.1,((s.2:Nat):Int),v)) (fun s=>ints s.1) (fun i s=>s.1.length=i/\Cls W N i (fun a=>s.1.getD a 0) s.2) (fun s i hi hs=>by
  obtain⟨c,nx⟩:=s;obtain⟨hlen,hs⟩:=hs
  dsimp only at hs hlen ⊢
  have hnx:=hs.nx;obtain⟨v,g1,g2⟩:=F5 hn hM hi hlen;have happ:∀w:Nat,ints c++[(w:Int)]=ints (c++[w]):=fun w=>by unfold ints; rw[List.map_append]; rfl
  have hlim:∀w:Nat,lim (ints c++[(w:Int)]).length=true:=fun w=>jH (by rw[S5,rX,hlen,TC]; omega)
  have hget:∀w a:Nat,a<i->(c++[w]).getD a 0=c.getD a 0:=fun w a ha=>by rw[Th,Th,TH (by omega)]
  have hgi:∀w:Nat,(c++[w]).getD i 0=w:=fun w=>by rw[Th,Tu (by omega),hlen,UE]; rfl
  rcases g2 with⟨rfl,g2⟩|⟨b,b1,b2,rfl⟩
  refine⟨(c++[nx],nx+1),?_,by rw[S5,hlen]; rfl,hs.fresh (hget nx) (hgi nx) g2⟩
  unfold s9
  dsimp only
  rw[hM.len,V3,g1,ab,ay (by decide),ab]
  dsimp only
  rw[hlim,aw,happ,V5,V5]
  refine⟨(c++[c.getD b 0],nx),?_,by rw[S5,hlen]; rfl,hs.old (hget _) b1 b2 (hgi _)⟩
  unfold s9
  dsimp only
  rw[hM.len,V3,g1,ab,V4,ab]
  dsimp only
  rw[hlim,aw,happ,V5]) (fun s _=>by
  unfold s9
  dsimp only
  rw[hM.len,V4]) (n:=n) (s:=([],0)) ⟨rfl,fun a ha=>Tl ha (by omega),fun a ha=>Tl ha (by omega),fun v hv=>Tl hv (by omega),fun a ha=>Tl ha (by omega),by simp⟩ (by omega)
 obtain⟨s,h1,h2,h3⟩:=h;refine⟨s.1,s.2,?_,h2,h3⟩;unfold Oz;rw[hC,ab,S9,bB,show bH (s9 n K) n (([]:WB Int),0,0)=_ from h1,ab]
def xK{B:Nat}(hB:Bd B n)(hb:Mx ^ 8<=B){K:WB (WB Sh)}(hK:∀row,row∈K->WL row/\row.length<=5)(hN:K.length<=5):∃c e,NG n K=some (c,e)/\Oz n K=some (c,e)/\c.length<=5:=by
 have hn:=hB.ns;rcases rC hB hb hK hN with⟨c1,c2⟩|⟨c1,c2,c3,c4,W,P,hQ,hP⟩
 refine⟨[],330,?_,?_,by decide⟩
 unfold NG; rw[c1,ab]; rfl
 unfold Oz; rw[c2,ab]; rfl
 obtain⟨c,nx,f1,f2,f3⟩:=Be (n:=n) (by omega) hQ (by omega) c1
 obtain⟨d,ny,g1,g2,g3⟩:=HG (n:=n) (by omega) hQ c2
 have:c=d:=by
  refine Uy fun a=>?_
  by_cases ha:a<K.length
  have:=f3.one g3 a ha;rw[SU (by omega),SU (by omega)]
  rw[Th,Th,SU (by omega),SU (by omega)] at this
  exact Up some this
  rw[TL (by omega),TL (by omega)]
 subst this;exact⟨ints c,0,f1,g1,by rw[rX]; omega⟩
end
end
section
open Go Go.Ab Go.Ab.W
set_option exponentiation.threshold 700000
structure GoodK(K:WB (WB Sh)):Prop where
 row:∀row,row∈K->WL row/\row.length<=5
 len:K.length<=5
 h4:(∀row,row∈K->row.length=K.length)->K.length<=4
structure DK(K:WB (WB Sh))(N:Nat):Prop where
 row:∀row,row∈K->WL row/\row.length=N
 len:K.length=N
 n1:1<=N
 n4:N<=4
def DK.Gm{K:WB (WB Sh)}{N:Nat}(h:DK K N):GoodK K:=by
 have h1:=h.len;have h4:=h.n4;exact⟨fun r hr=>⟨(h.row r hr).1,by have:=(h.row r hr).2; omega⟩,by omega,fun _=>by omega⟩
def QS{p q:Nat}(hp:p<18446744073709551616)(hq:q<18446744073709551616):WS (sh (p,q)):=by
 refine⟨fun x hx=>?_,fun x hx=>?_⟩
 change x∈[p,0,0,0,0,0,0,0] at hx
 simp at hx; omega
 change x∈[q,0,0,0,0,0,0,0] at hx
 simp at hx; omega
def Qv(l:WB Nat){N:Nat}(h1:1<=N)(h4:N<=4):DK (dM l N) N:=by
 refine⟨fun row hr=>?_,by unfold dM; simp,h1,h4⟩
 unfold dM at hr;obtain⟨i,hi,rfl⟩:=UZ.1 hr;obtain⟨d1,d2,d3,d4⟩:=DP l h4 (UK.1 hi);refine⟨fun x hx=>?_,by unfold zh; rw[Tw,d1]⟩
 unfold zh at hx;obtain⟨h,hh,rfl⟩:=UZ.1 hx;obtain⟨a1,a2,_⟩:=eH (a:=h) d3;have:=d2 h hh;exact QS (p:=(dA (iW l N i).sum h).1) (q:=(dA (iW l N i).sum h).2) (by omega) (by omega)
section
variable{n:Nat}
def Sa(k:Nat):mi (k:Int) (4:Int)=((min k 4:Nat):Int):=by
 unfold mi
 split<;>omega
def My(k:Nat):okB 0 (mi (k:Int) (4:Int)) k=true:=by
 rw[Sa];exact NS (by omega)
def Ei{α:Type}(l:WB α):(V2 l 4)=l.take 4:=by
 show(l.drop Vy).take ((mi (l.length:Int) 4).toNat-Vy)=l.take 4;rw[Sa,SS,show Vy=0 from rfl,Vd,U4]
 by_cases h:l.length<=4
 rw[UG (by omega),UG h]
 rw[show min l.length 4=4 by omega]
def Ov(hn:1000000<n){K:WB (WB Sh)}(hK:∀row,row∈K->WL row):∃C,Qq n K=some C/\GoodK C:=by
 have hl:(K.take 4).length<=4:=by rw[TW]; omega
 obtain⟨C,h1,h2,h3⟩:=aR (body:=vP n K) (K.take 4).length (fun(s:WB (WB Sh)) (v:Int)=>(s,v)) id (fun i s=>s.length=i/\∀row,row∈s->WL row/\row.length<=4) (fun s i hi hs=>by
  obtain⟨row,e⟩:∃row,(K.take 4)[i]? = some row:=⟨_,SU hi⟩;have hrow:=hK row (List.mem_of_mem_take (Ti e));refine⟨s++[row.take 4],?_,by rw[S5,hs.1]; rfl,fun r hr=>?_⟩
  unfold vP
  dsimp only
  rw[Ei,V3,ak hi,aw,SS,e,ab,My,aw,Ei,jH (by rw[S5,hs.1,TC]; omega),aw,V5]
  rcases T7.1 hr with h|h
  exact hs.2 r h
  obtain rfl:=TG.1 h;exact⟨fun x hx=>hrow x (List.mem_of_mem_take hx),by rw[TW]; omega⟩) (fun s _=>by
  unfold vP
  dsimp only
  rw[Ei,V4]; rfl) (n:=n) (s:=[]) ⟨rfl,fun r hr=>by cases hr⟩ (by omega)
 refine⟨C,?_,fun r hr=>⟨(h3 r hr).1,by have:=(h3 r hr).2; omega⟩,by omega,fun _=>by omega⟩
 unfold Qq;rw[My,aw,show bH (vP n K) n (([]:WB (WB Sh)),0)=_ from h1,ab]; rfl
def Ou(hn:10<n){row:WB Sh}(hw:WL row)(h1:1<=row.length)(h4:row.length<=4):∃r,bH (HS n row) n (row,0,Vx ((row.length:Int)-1))=some r/\WL r/\r.length=row.length:=by
 obtain⟨m,rfl⟩:∃m,n=m+10:=⟨n-10,by omega⟩
 match row,h1,h4 with
 | [a],_,_=>exact⟨[a],by kernel_rfl,hw,rfl⟩
 | [a,b],_,_=>exact⟨[b,a],by kernel_rfl,fun x hx=>hw x (List.mem_reverse.1 hx),rfl⟩
 | [a,b,c],_,_=>exact⟨[c,b,a],by kernel_rfl,fun x hx=>hw x (List.mem_reverse.1 hx),rfl⟩
 | [a,b,c,d],_,_=>exact⟨[d,c,b,a],by kernel_rfl,fun x hx=>hw x (List.mem_reverse.1 hx),rfl⟩
def sy{K:WB (WB Sh)}{N i:Nat}(h:DK K N){row:WB Sh}(hw:WL row)(hr:row.length<=5):GoodK (K.set i row):=by
 have h1:=h.len;have h4:=h.n4;refine⟨fun r hr'=>?_,by rw[TQ]; omega,fun _=>by rw[TQ]; omega⟩
 rcases UH hr' with g|g
 exact h.Gm.row r g
 rw[g]; exact⟨hw,hr⟩
def Dx{x N:Nat}(hx:x<256):Int.tmod (Vx ((x:Nat):Int)) (N:Int)=((x%N:Nat):Int):=by rw[aC (by omega) (by omega)]; rfl
def Om(hn:1000000<n){K:WB (WB Sh)}{N:Nat}(h:DK K N){w t:Nat}(ht:t<256){a b c d e f g i a' b' c' d' e' f' g' i':Nat}(hA:WS (a,b,c,d,e,f,g,i,a',b',c',d',e',f',g',i')) :
  ∃C,PY n w t a b c d e f g i a' b' c' d' e' f' g' i' K=some C/\GoodK C:=by
 have hN:=h.len;have hn1:=h.n1;have hn4:=h.n4;have hcl:bH (vp n K) n (([]:WB (WB Sh)),0)=some K:=by
  obtain⟨s,h1,h2⟩:=aR (body:=vp n K) N (fun(s:WB (WB Sh)) (v:Int)=>(s,v)) id (fun i s=>s=K.take i) (fun s i hi hs=>by
   obtain⟨row,e0⟩:∃row,K[i]? = some row:=⟨_,SU (by omega)⟩
   have hrow:=h.row row (Ti e0);refine⟨s++[row],?_,?_⟩
   unfold vp
   dsimp only
   rw[hN,V3,ak hi,aw,SS,e0,ab]
   unfold RJ;rw[jH (by omega),aw,ab,jH (by rw[S5,hs,TW,TC]; omega),aw,V5]
   rw[List.take_add_one,e0,hs]; rfl) (fun s hs=>by
   unfold vp
   dsimp only
   rw[hN,V4]; rfl) (n:=n) (s:=[]) (by simp) (by omega)
  subst h2;rw[UG (by omega)] at h1
  exact h1
 have hm:t%N<N:=TN _ (by omega)
 obtain⟨row,er⟩:∃row,K[t%N]? = some row:=⟨_,SU (by omega)⟩
 obtain⟨hw,hr⟩:=h.row row (Ti er);have hx:WL (row++[(a,b,c,d,e,f,g,i,a',b',c',d',e',f',g',i')]):=fun x hx=>by
  rcases T7.1 hx with q|q
  exact hw x q
  rw[TG.1 q]; exact hA
 unfold PY;rw[hcl,ab,hN,cg (by omega),Dx ht,ak hm,aw,SS,er,ab,aw,aw,ab,ab]
 by_cases c0:w%5=0
 have h8:t/8%N<N:=TN _ (by omega)
 obtain⟨⟨x1,x2,x3,x4,x5,x6,x7,x8,y1,y2,y3,y4,y5,y6,y7,y8⟩,ex⟩:∃x,row[t/8%N]? = some x:=⟨_,SU (by omega)⟩
 refine⟨_,?_,sy h (row:=row.set (t/8%N) (a,b,c,d,e,f,g,i,a',b',c',d',e',f',g',i')) (i:=t%N) (fun x hx=>?_) (by rw[TQ]; omega)⟩
 rw[ay c0,cg (by omega),show uw .u8 (t/8)=t/8 from TA (show t/8<256 by omega),Dx (by omega),hr,ak h8,aw,SS,ex,ab,ab]
 rcases UH hx with q|q
 exact hw x q
 rw[q]; exact hA
 rw[aD c0]
 by_cases c1:w%5=1
 refine⟨_,?_,sy h (i:=t%N) hx (by rw[S5,TC]; omega)⟩
 rw[ay c1,jH (by rw[S5,TC]; omega),aw,aw,ab]
 rw[aD c1]
 by_cases c2:w%5=2
 obtain⟨r0,e0⟩:∃r0,K[0]? = some r0:=⟨_,SU (by omega)⟩
 refine⟨K++[r0],?_,fun r q=>?_,by rw[S5,TC]; omega,fun q=>?_⟩
 rw[ay c2,show bG 0 N=true from ak (i:=0) (by omega),aw,show Vy=0 from rfl,e0,ab,jH (by rw[S5,TC]; omega),aw,ab]
 rcases T7.1 q with q|q
 exact h.Gm.row r q
 rw[TG.1 q]; exact h.Gm.row _ (Ti e0)
 have q1:=q r0 (by simp)
 have q2:=(h.row r0 (Ti e0)).2;rw[S5,TC] at q1;omega
 rw[aD c2]
 by_cases c3:w%5=3
 obtain⟨r,r1,r2,r3⟩:=Ou (n:=n) (by omega) hw (by omega) (by omega)
 refine⟨_,?_,sy h (i:=t%N) r2 (by omega)⟩
 rw[ay c3,ab,r1,ab,ab,ab]
 rw[aD c3,ab];exact⟨K,rfl,h.Gm⟩
def BW(L:WB Sh)(hL:L.length<1000000)(hn:1000000<n):Qi n L L=some true:=by
 have h1:=aR (body:=yI n L L) L.length (fun(_:WC) (v:Int)=>v) (fun _=>(.inr ():WC⊕WC)) (fun _ _=>True) (fun s i hi _=>by
  have e:L[i]? = some L[i]:=SU hi;generalize L[i]=x at e;obtain⟨x1,x2,x3,x4,x5,x6,x7,x8,x9,x10,x11,x12,x13,x14,x15,x16⟩:=x;refine⟨(),?_,trivial⟩;unfold yI;rw[V3,ak hi,aw,SS,e,ab]
  dsimp only
  rw[aw,ab]
  dsimp only
  simp only[decide_true,Ud,S9,bB];rw[V5]) (fun s _=>by
  unfold yI;rw[V4]) (n:=n) (s:=()) trivial (by omega)
 obtain⟨_,h1,_⟩:=h1;unfold Qi;rw[S4 rfl,S9,bB,h1]; rfl
def Fl(L:WB Int)(hL:L.length<1000000)(hn:1000000<n):Qf n L L=some true:=by
 obtain⟨_,h1,_⟩:=aR (body:=yU n L L) L.length (fun(_:WC) (v:Int)=>v) (fun _=>(.inr ():WC⊕WC)) (fun _ _=>True) (fun s i hi _=>by
  have e:L[i]? = some L[i]:=SU hi;refine⟨(),?_,trivial⟩;unfold yU;rw[V3,ak hi,aw,SS,e,ab,aw,ab,S4 rfl,S9,bB,V5]) (fun s _=>by
  unfold yU;rw[V4]) (n:=n) (s:=()) trivial (by omega)
 unfold Qf;rw[S4 rfl,S9,bB,h1]; rfl
def R5{ρ:Type}{body:Int->WA (Int⊕ρ)}{N:Nat}{r:ρ}(hs:∀i:Nat,i<N->body (i:Int)=some (.inl ((i+1:Nat):Int)))(he:body (N:Int)=some (.inr r))(hn:N<n):bH body n 0=some r:=by
 obtain⟨_,h1,_⟩:=aR (body:=body) N (fun(_:WC) (v:Int)=>v) (fun _=>r) (fun _ _=>True) (fun s i hi _=>⟨(),hs i hi,trivial⟩) (fun s _=>he) (n:=n) (s:=()) trivial hn;exact h1
@[irreducible] def fu6:Nat:=2 ^ 600000
@[irreducible] def BB:Nat:=2 ^ 250390
def SJ:Bd BB fu6/\Mx ^ 490<=BB:=by
 have e1:BB=2 ^ 250390:=by unfold BB; rfl
 have e2:fu6=2 ^ 600000:=by unfold fu6; rfl
 have e3:BB*BB=2 ^ 500780:=by rw[e1,<-Ut]
 have lt:∀{a b:Nat},a<b->2 ^ a<2 ^ b:=fun h=>UD (by decide) h
 refine⟨⟨?_,?_,?_,?_,?_⟩,?_⟩
 rw[e3,zQ,show(4294967296:Nat)=2 ^ 32 by decide,<-U8,show(4:Nat)=2 ^ 2 by decide,<-Ut]
 exact lt (by decide)
 unfold wp;rw[e3,show(18446744073709551616:Nat)=2 ^ 64 by decide,<-U8,<-TE]
 exact lt (by decide)
 rw[e3,e2,<-TE];exact lt (by decide)
 rw[e2];exact Nat.lt_trans (show 10000000<2 ^ 64 by decide) (lt (by decide))
 rw[e1];exact TT (show 18446744073709551616<=2 ^ 64 by decide) (lt (by decide))
 rw[yW,e1,<-U8];exact SX _
def Lw(l1:WB (WB Sh))(x8:Nat)(l9:WB Nat){x13 x14:Nat}{a b c d e f g i a' b' c' d' e' f' g' i':Nat}(l31:WB Sh)(x35:Int)(h1:∀row,row∈l1->WL row)(ht:x14<256)(hA:WS (a,b,c,d,e,f,g,i,a',b',c',d',e',f',g',i'))(h31:WL l31) :
  F6 fu6 l1 x8 l9 x13 x14 a b c d e f g i a' b' c' d' e' f' g' i' l31 x35=some true:=by
 obtain⟨hB,hM⟩:=SJ;have hM8:Mx ^ 8<=BB:=Tb (Td kF (by decide)) hM
 have hn:=hB.ns;generalize fu6=n at *;have hx:x8%4<4:=TN _ (by decide)
 have hD:=Qv l9 (N:=1+x8%4) (by omega) (by omega)
 generalize hm:dM l9 (1+x8%4)=m at hD;obtain⟨C,c1,c2⟩:=Ov (n:=n) (by omega) h1
 obtain⟨E,e1,e2⟩:=Om (n:=n) (by omega) hD (w:=x13) ht hA
 have h31':WL (l31.take 4):=fun x hx=>h31 x (List.mem_of_mem_take hx);have hlen:=hD.len;obtain⟨last,el⟩:∃last,m[1+x8%4-1]? = some last:=⟨_,SU (by omega)⟩
 obtain⟨hl1,hl2⟩:=hD.row last (Ti el);have step:∀(K:WB (WB Sh)),GoodK K->∀(L:WB Sh),WL L->L.length<=5->bH (GO n x35 K L) n 0=some (.inr ()):=fun K hK L hL hL5=>by
  refine R5 (N:=2) (fun j hj=>?_) ?_ (by omega)
  obtain⟨s,hs⟩:∃s,[x35,Vx (((ui .u64 x35)%5:Nat):Int)][j]? = some s:=⟨_,SU (by simpa using hj)⟩
  obtain⟨l,er,f1,f2,f3⟩:=Bq hB hM hK.row hK.len hK.h4 hL hL5 s;unfold GO;rw[V3,show bG ((j:Nat):Int) 2=true from ak hj,aw,SS,hs,ab,f1,ab]
  dsimp only
  rw[f2,ab]
  dsimp only
  rw[BW l (by omega) (by omega),ab,S9,bB,S4 rfl,S9,ab,bB,V5]
  unfold GO;rw[aD (by decide)]
 have step2:∀(K:WB (WB Sh)),GoodK K->bH (G2 n l31 last a b c d e f g i a' b' c' d' e' f' g' i' x35 K) n 0=some (.inr ()):=fun K hK=>by
  refine R5 (N:=3) (fun j hj=>?_) ?_ (by omega)
  ·have:∃L,[l31.take 4,last,[(a,b,c,d,e,f,g,i,a',b',c',d',e',f',g',i')]][j]? = some L/\WL L/\L.length<=5:=by
    match j,hj with
    | 0,_=>exact⟨_,rfl,h31',by rw[TW]; omega⟩
    | 1,_=>exact⟨_,rfl,hl1,by omega⟩
    | 2,_=>exact⟨_,rfl,fun x hx=>by rw[TG.1 hx]; exact hA,by simp⟩
   obtain⟨L,q1,q2,q3⟩:=this;unfold G2;rw[Ei,V3,show bG ((j:Nat):Int) 3=true from ak hj,aw,SS,q1,ab,step K hK L q2 q3]
   show(some (.inl (Vx ((j:Int)+1))):WA (Int⊕WC⊕WC))=_
   rw[V5]
  unfold G2;rw[aD (by decide)]
 have step3:bH (Hh n m C E l31 a b c d e f g i a' b' c' d' e' f' g' i' x35) n 0=some (.inr ()):=by
  refine R5 (N:=3) (fun j hj=>?_) ?_ (by omega)
  ·have:∃K,[m,C,E][j]? = some K/\GoodK K:=by
    match j,hj with
    | 0,_=>exact⟨_,rfl,hD.Gm⟩
    | 1,_=>exact⟨_,rfl,c2⟩
    | 2,_=>exact⟨_,rfl,e2⟩
   obtain⟨K,q1,q2⟩:=this;obtain⟨cl,er,f1,f2,f3⟩:=xK hB hM8 q2.row q2.len;have ew:Vx (((1+x8%4:Nat):Int)-1)=((1+x8%4-1:Nat):Int):=by rw[aC (by omega) (by omega)]; omega
   unfold Hh;rw[V3,show bG ((j:Nat):Int) 3=true from ak hj,aw,SS,q1,ab,f1,ab]
   dsimp only
   rw[f2,ab]
   dsimp only
   rw[Fl cl (by omega) (by omega),ab,S9,bB,S4 rfl,S9,ab,bB,My,aw,hlen,ew,ak (by omega),aw,SS,el,ab,step2 K q2]
   show(some (.inl (Vx ((j:Int)+1))):WA (Int⊕WC⊕WC))=_
   rw[V5]
  unfold Hh;rw[aD (by decide)]
 unfold F6;rw[show RP n=some true from rfl,ab,S9,bB,NW n x8 l9 (by omega),ab,hm,c1,ab,e1,ab,step3]
 rfl
end
end
section
set_option maxRecDepth 100000
open Go
def MA:(Rows.kernelAftersRow.inPlace==Tryz.checked.prog.inPlace 6)=true:=by kernel_rfl
def ME:(Rows.kernelAftersRow.unfollowed==Tryz.checked.prog.unfollowed 6)=true:=by kernel_rfl
def OQ:(Rows.kernelAftersRow.recurses==Tryz.checked.prog.recurses 6)=true:=by kernel_rfl
def OF:(Rows.kernelAftersRow.named==Tryz.checked.prog.varsNamed 6)=true:=by kernel_rfl
def JU:joinedFacts Tryz.checked.prog 6 Tryz.f6 Rows.kernelAftersSpec Rows.kernelAftersRow=true:=by
 unfold joinedFacts;rw[MA,ME,OQ,OF]
 kernel_rfl
def Nj:false=Tryz.checked.prog.looks []:=by kernel_rfl
def Ob:false=Rows.kernelAftersRow.goesBy Tryz.checked.prog:=by kernel_rfl
end
end Go.Proofs.YtpkadoocdgdcfaaGreatDoor
