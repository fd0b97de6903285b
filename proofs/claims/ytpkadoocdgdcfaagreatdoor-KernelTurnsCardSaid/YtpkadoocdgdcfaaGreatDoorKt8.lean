/- A part of the proof. -/
import Derived.Test.YtpkadoocdgdcfaaGreatDoorKt7
import Derived.Test.YtpkadoocdgdcfaaGreatDoorRows
import Derived.Test.YtpkadoocdgdcfaaGreatDoorTie
import Derived.Test.YtpkadoocdgdcfaaGreatDoorCards
import Derived.Stop.Joined
import Derived.SevenTiedAt
set_option linter.all false
namespace Go.Proofs.YtpkadoocdgdcfaaGreatDoor
section
open Go Go.Ab Go.Ab.W
set_option exponentiation.threshold 3000
structure Wt(t r:Nat->Nat)(R N:Nat):Prop where
 pos:∀i,i<N->1<=t i/\t i<=Mx
 mul:∀i,i<N->t i*r i=R
 rpos:R≠0
 rle:R<=Mx ^ N
def pd(t:Nat->Nat):Nat->Nat
 | 0=>1
 | k+1=>pd t k*t k
def M7{t:Nat->Nat}:∀(N:Nat),(∀i,i<N->1<=t i/\t i<=Mx)->pd t N≠0/\pd t N<=Mx ^ N/\∀i,i<N->t i∣pd t N
 | 0,_=>⟨Nat.one_ne_zero,by rw[VV]; exact Ua _,fun i hi=>Uy hi (by omega)⟩
 | N+1,h=>by
  obtain⟨h1,h2,h3⟩:=M7 N fun i hi=>h i (by omega)
  obtain⟨g1,g2⟩:=h N (by omega)
  refine⟨UD h1 (by omega),by rw[UW]; exact UO h2 g2,fun i hi=>?_⟩
  by_cases c:i=N
  subst c; exact Nat.dvd_mul_left _ _
  exact Nat.dvd_trans (h3 i (by omega)) (Nat.dvd_mul_right _ _)
def Qw{t:Nat->Nat}{N:Nat}(h:∀i,i<N->1<=t i/\t i<=Mx):Wt t (fun i=>pd t N/t i) (pd t N) N:=by
 obtain⟨h1,h2,h3⟩:=M7 N h;exact⟨h,fun i hi=>Nat.mul_div_cancel' (h3 i hi),h1,h2⟩
def vr(W:Nat->Nat->Nat)(t r:Nat->Nat)(R:Nat)(i j:Nat):Nat:=min (W i j*R) (W j i*t j*r i)
def gone(W:Nat->Nat->Nat)(t r:Nat->Nat)(R:Nat)(i k:Nat):Nat:=sm (fun j=>if i=j then 0 else vr W t r R i j) k
def JZ(W:Nat->Nat->Nat)(t r:Nat->Nat)(R P N:Nat)(i j:Nat):Nat:=if i=j then P*R-gone W t r R i N else vr W t r R i j
section
variable{n B:Nat}{K:XB (XB Sh)}{W:Nat->Nat->Nat}{P N:Nat}{t r:Nat->Nat}{R:Nat}
def Dp(i j:Nat):vr W t r R i j<=W i j*R:=Nat.min_le_left _ _
def rT(hK:KQ K W P N){i:Nat}(hi:i<N):gone W t r R i N+W i i*R<=P*R:=by
 have h:∀k,gone W t r R i k+(if i<k then W i i*R else 0)<=sm (W i) k*R:=by
  intro k
  induction k with
  | zero=>simp[gone,sm]
  | succ k ih =>
   unfold gone at *;rw[sm,sm,UR]
   by_cases e:i=k
   subst e;rw[Ui rfl,WV]
   rw[WU] at ih
   omega
   rw[Uk e];have:=Dp (W:=W) (t:=t) (r:=r) (R:=R) i k
   by_cases c:i<k
   rw[Ui c] at ih; rw[WV]; omega
   rw[Uk c] at ih; rw[WU]; omega
 have:=h N;rw[Ui hi,hK.sum i hi] at this;exact this
def vD{i k:Nat}(h:k<=N):gone W t r R i k<=gone W t r R i N:=Bb h
def Ml(hK:KQ K W P N){i:Nat}(hi:i<N):sm (JZ W t r R P N i) N=P*R:=by
 have hle:=rT (t:=t) (r:=r) (R:=R) hK hi;have h:∀k,k<=N->sm (JZ W t r R P N i) k=gone W t r R i k+if i<k then P*R-gone W t r R i N else 0:=by
  intro k
  induction k with
  | zero=>intro _; simp[gone,sm]
  | succ k ih =>
   intro hk;have ih:=ih (by omega)
   unfold gone at *;rw[sm,sm,ih];unfold JZ gone
   by_cases e:i=k
   ·subst e;rw[Ui rfl,Ui rfl,WU,WV]
    try omega
   rw[Uk e,Uk e]
   by_cases c:i<k
   rw[Ui c,WV]; omega
   rw[Uk c,WU]; omega
 rw[h N (Ua _),Ui hi];omega
def He(hB:Bd B n)(hK:KQ K W P N)(hPB:P*R*Mx<=B)(hw:Wt t r R N){L:XB Rt}(hL:RQ L t 1 N){i:Nat}(hi:i<N) :
  ∃row l k,bN (wy n K (i:Int) L) n (List.replicate N ((false,[],false,[]):Rt),false,[1],false,[1],0)=some (row,false,l,false,k)/\RQ row (vr W t r R i) (P*R) N/\Q l k (P*R-gone W t r R i N) (P*R):=by
 have hs:=hB.ns;have hP:=hK.pos;have hN:=hK.n1;have hR:=hw.rpos;have hPR:P*R≠0:=UD hP hR;have hMx:=ei;have hPRb:P*R<=B:=Ub (U8 _ hMx) hPB;have hPMx:P*Mx<=B:=Ub (UF _ (U8 P (Us hR))) hPB;have hPb:P<=B:=Ub (U8 P hMx) hPMx;have hMb:Mx<=B:=Ub (V3 Mx (Us hP)) hPMx;have hone:=hB.one;have hW:∀a b,a<N->b<N->W a b<=P:=fun a b ha hb=>hK.sum a ha▸tK hb;have hgle:=rT (t:=t) (r:=r) (R:=R) hK hi;have hgm:∀k,k<=N->gone W t r R i k<=P*R:=fun k hk=>by
  have:=vD (W:=W) (t:=t) (r:=r) (R:=R) (i:=i) hk; omega
 have h:=aS (body:=wy n K (i:Int) L) N (fun(s:XB Rt×XB Nat×XB Nat) (v:Int)=>(s.1,false,s.2.1,false,s.2.2,v)) (fun s=>(s.1,false,s.2.1,false,s.2.2)) (fun j s=>s.1.length=N/\(∀a,a<j->∃l k,s.1[a]? = some (false,l,false,k)/\Q l k (vr W t r R i a) (P*R))/\Q s.2.1 s.2.2 (P*R-gone W t r R i j) (P*R)) (fun s j hj hq=>?_) (fun s _=>?_) (n:=n) (s:=(List.replicate N (false,[],false,[]),[1],[1])) ⟨by simp,fun a ha=>Uy ha (by omega),by rw[show gone W t r R i 0=0 from rfl,V8]; exact Q.one hPR⟩ (by omega)
 obtain⟨s,h1,h2,h3,h4⟩:=h;exact⟨s.1,s.2.1,s.2.2,h1,⟨h2,h3⟩,h4⟩
 ·obtain⟨s,sl,sk⟩:=s
  dsimp only at hq ⊢
  obtain⟨q1,q2,q0⟩:=hq;obtain⟨ri,e1,hri⟩:=hK.at_ i hi;obtain⟨x,e2,qx⟩:=hri.at_ j hj;obtain⟨x1,x2,x5,x6,x7,x8,x9,x10,x11,x12,x14,x15,x13,x16,x17,x18⟩:=x;obtain⟨lx,kx,fx,qx⟩:=AU (n:=n) (by omega) qx
  obtain⟨rj,e0,hrj⟩:=hK.at_ j hj;obtain⟨y,e3,qy⟩:=hrj.at_ i hi;obtain⟨y1,y2,y3,y4,y5,y6,y7,y8,y9,y10,y11,y12,y13,y14,y15,y16⟩:=y;obtain⟨ly,ky,fy,qy⟩:=AU (n:=n) (by omega) qy
  obtain⟨lt,kt,e4,qt⟩:=hL.at_ j hj;obtain⟨lu,ku,e5,qu⟩:=hL.at_ i hi;obtain⟨t1,t0⟩:=hw.pos j hj;obtain⟨u0,u9⟩:=hw.pos i hi;have w1:=hW i j hi hj;have w2:=hW j i hj hi;obtain⟨m1,p2,f1,g1⟩:=qy.times hB qt hP (by decide) (by omega) (by omega) (by omega) (by omega)
  have hwt:W j i*t j<=P*Mx:=UO (by omega) t0
  obtain⟨m2,p0,f0,g0⟩:=g1.over hB qu (by rw[Vo]; exact hP) (by decide) (by omega) (by rw[Vo]; omega) (by omega) (by omega) (by omega)
  rw[Vo,Vo] at g0;have hPt:P*t i≠0:=UD hP (by omega)
  have hPtb:P*t i<=P*Mx:=UO (Ua _) u9;obtain⟨cr,f2,h3,_⟩:=g0.cmp hB qx hPt hP (by omega) (by omega) (by omega) (by omega)
  have em:=hw.mul i hi;have hlt:W j i*t j*P<W i j*(P*t i)↔W j i*t j*r i<W i j*R:=by
   have h0:0<r i:=Us fun e=>hR (by rw[<-em,e,Wz])
   have hP0:0<P:=Us hP;have a1:W j i*t j*P*r i=W j i*t j*r i*P:=by simp only[Uv,Uo,Un]
   have a2:W i j*(P*t i)*r i=W i j*R*P:=by rw[<-em]; simp only[Uv,Uo,Un]
   rw[<-Wc (a0:=h0),a1,a2,Wc (a0:=hP0)]
  have hsj:s[j]? = some (s[j]'(by omega)):=T6 _
  obtain⟨le,ke,he,qe⟩:∃le ke,(br (decide (cr<0)) (gd (bB (j:Int) N) (ob ((s.set j (false,lx,false,kx))[j]?) fun _=>some ((s.set j (false,lx,false,kx)).set j (false,m2,false,p0)))) (some (s.set j (false,lx,false,kx))))=some (s.set j (false,le,false,ke))/\Q le ke (vr W t r R i j) (P*R):=by
   by_cases c:cr<0
   refine⟨m2,p0,?_,?_⟩
   rw[az c,ak hj,ay,Ve (by omega),ab,List.set_set]
   have hlt':=hlt.1 (h3.1 c);have ef:vr W t r R i j=W j i*t j*r i:=Nat.min_eq_right (VN hlt');rw[ef];refine g0.same hPt hPR ?_;rw[<-em]; simp only[Uv,Uo,Un]
   refine⟨lx,kx,by rw[aC c],?_⟩
   have hlt':¬W j i*t j*r i<W i j*R:=fun h=>c (h3.2 (hlt.2 h));have ef:vr W t r R i j=W i j*R:=US (by omega)
   rw[ef];refine qx.same hP hPR ?_;simp only[Uv,Uo,Un]
  have hfle:vr W t r R i j<=P*R:=Ub (Dp i j) (UF _ w1);have hgj:=hgm j (by omega)
  have h5:=hgm (j+1) (by omega)
  have hgs:gone W t r R i (j+1)=gone W t r R i j+if i=j then 0 else vr W t r R i j:=by unfold gone; rw[sm]
  obtain⟨ls,ks,hst,qs⟩:∃ls ks,(br (!decide ((i:Int)=(j:Int))) (gd (bB (j:Int) N) (ob ((s.set j (false,le,false,ke))[j]?) fun(x3,l2,x4,l3)=>ob (Gd n false sl false sk x3 l2 x4 l3) fun(r0,l4,r1,l7)=>some (s.set j (false,le,false,ke),r0,l4,r1,l7))) (some (s.set j (false,le,false,ke),false,sl,false,sk)))=some (s.set j (false,le,false,ke),false,ls,false,ks)/\Q ls ks (P*R-gone W t r R i (j+1)) (P*R):=by
   by_cases c:i=j
   refine⟨sl,sk,by rw[Ud (by omega),Uj,bK],?_⟩
   rw[hgs,Ui c,UZ]; exact q0
   rw[Uk c] at hgs;obtain⟨m3,p1,f3,g2⟩:=q0.minus hB qe hPR hPR (by omega) (by omega) (by omega) (by omega) (UF _ (by omega))
   refine⟨m3,p1,?_,g2.same (UD hPR hPR) hPR ?_⟩
   rw[Um (by omega),Uw,cx,ak hj,ay,Ve (by omega),ab]
   dsimp only
   rw[f3,ab]
   rw[hgs,<-Nat.sub_mul,Uv,Nat.sub_sub]
  refine⟨(s.set j (false,le,false,ke),ls,ks),?_,by rw[Vh]; exact q1,fun a ha=>?_,qs⟩
  ·unfold wy
   dsimp only
   simp only[T5,hK.len,hL.len];rw[Xm]
   simp only[ak hi,ak hj,ay];rw[e1,ab,hri.len,ak hj,ay,e2,ab]
   dsimp only
   rw[fx,ab]
   dsimp only
   rw[e0,ab,hrj.len,ak hi,ay,e3,ab]
   dsimp only
   rw[fy,ab]
   dsimp only
   rw[hsj,ab]
   try dsimp only
   rw[e4,ab]
   dsimp only
   rw[f1,ab]
   dsimp only
   rw[e5,ab]
   dsimp only
   rw[f0,ab]
   dsimp only
   rw[f2,ab];have he':=he;simp only[ak hj,ay] at he';rw[he',ab];have hst':=hst;simp only[ak hj,ay] at hst';rw[hst',ab]
   dsimp only
   rw[Xo]
  by_cases c:a=j
  subst c;exact⟨le,ke,Ve (by omega),qe⟩
  obtain⟨l',k',a1,a2⟩:=q2 a (by omega)
  exact⟨l',k',by dsimp only; rw[U3 (Ne.symm c)]; exact a1,a2⟩
 unfold wy
 dsimp only
 rw[hK.len,Xn]
def Hw(hB:Bd B n)(hK:KQ K W P N)(hPB:P*R*Mx<=B)(hw:Wt t r R N){L:XB Rr}(hL:RR L t 1 N){i:Nat}(hi:i<N) :
  ∃row,bN (wB n K (i:Int) L) n (([]:XB Rr),false,Dg 0,false,Dg 1,0)=some (row,RL (gone W t r R i N) (P*R))/\row.length=N/\∀a,a<N->row[a]? = some (RL (if i=a then 0 else vr W t r R i a) (P*R)):=by
 have hs:=hB.ns;have hP:=hK.pos;have hN:=hK.n1;have hR:=hw.rpos;have hPR:P*R≠0:=UD hP hR;have hMx:=ei;have hPRb:P*R<=B:=Ub (U8 _ hMx) hPB;have hPMx:P*Mx<=B:=Ub (UF _ (U8 P (Us hR))) hPB;have hPb:P<=B:=Ub (U8 P hMx) hPMx;have hMb:Mx<=B:=Ub (V3 Mx (Us hP)) hPMx;have hone:=hB.one;have hW:∀a b,a<N->b<N->W a b<=P:=fun a b ha hb=>hK.sum a ha▸tK hb;have hgle:=rT (t:=t) (r:=r) (R:=R) hK hi;have hgm:∀k,k<=N->gone W t r R i k<=P*R:=fun k hk=>by
  have:=vD (W:=W) (t:=t) (r:=r) (R:=R) (i:=i) hk; omega
 obtain⟨s,h1,h2,h3⟩:=aS (body:=wB n K (i:Int) L) N (fun(s:XB Rr×Nat) (v:Int)=>(s.1,false,Dg (bo (P*R) s.2).1,false,Dg (bo (P*R) s.2).2,v)) (fun s=>(s.1,RL s.2 (P*R))) (fun j s=>s.2=gone W t r R i j/\s.1.length=j/\∀a,a<j->s.1[a]? = some (RL (if i=a then 0 else vr W t r R i a) (P*R))) (fun s j hj hq=>by
  obtain⟨s,g⟩:=s;obtain⟨q1,q0,q2⟩:=hq
  dsimp only at q1 q0 q2 ⊢
  subst q1;obtain⟨ri,e1,hri⟩:=hK.at_ i hi;obtain⟨x,e2,qx⟩:=hri.at_ j hj;obtain⟨x1,x2,x3,x4,x5,x6,x7,x8,x9,x10,x11,x12,x13,x14,x15,x16⟩:=x;obtain⟨rj,e4,hrj⟩:=hK.at_ j hj;obtain⟨y,e5,qy⟩:=hrj.at_ i hi;obtain⟨y1,y2,y3,y4,y5,y6,y7,y8,y9,y10,y11,y12,y13,y14,y15,y16⟩:=y;have e0:=hL.at_ j hj;have e3:=hL.at_ i hi;obtain⟨t1,t0⟩:=hw.pos j hj;obtain⟨u0,u9⟩:=hw.pos i hi;have w1:=hW i j hi hj;have w2:=hW j i hj hi;have f1:=ug hB (a:=W j i) (b:=t j) (U:=1) hP (by decide) (by omega) (by omega) (by omega) (by omega)
  rw[Vo] at f1;have hwt:W j i*t j<=P*Mx:=UO (by omega) t0
  have f0:=DE hB (a:=W j i*t j) (T:=P) (b:=t i) (U:=1) hP (by decide) (by omega) (by omega) (by omega) (by omega) (by omega)
  rw[Vo] at f0;have hPt:P*t i≠0:=UD hP (by omega)
  have hPtb:P*t i<=P*Mx:=UO (Ua _) u9;obtain⟨cr,f3,h3,_⟩:=It hB (a:=W j i*t j) (T:=P*t i) (b:=W i j) (U:=P) hPt hP (by omega) (by omega) (by omega) (by omega)
  have em:=hw.mul i hi;have hlt:W j i*t j*P<W i j*(P*t i)↔W j i*t j*r i<W i j*R:=by
   have h0:0<r i:=Us fun e=>hR (by rw[<-em,e,Wz])
   have hP0:0<P:=Us hP;have a1:W j i*t j*P*r i=W j i*t j*r i*P:=by simp only[Uv,Uo,Un]
   have a2:W i j*(P*t i)*r i=W i j*R*P:=by rw[<-em]; simp only[Uv,Uo,Un]
   rw[<-Wc (a0:=h0),a1,a2,Wc (a0:=hP0)]
  have hp:(br (decide (cr<0)) (some (RL (W j i*t j) (P*t i))) (some (RL (W i j) P)))=some (RL (vr W t r R i j) (P*R)):=by
   by_cases c:cr<0
   have hlt':=hlt.1 (h3.1 c);have ef:vr W t r R i j=W j i*t j*r i:=Nat.min_eq_right (VN hlt');rw[az c,ef,sC hPt hPR];rw[<-em]; simp only[Uv,Uo,Un]
   have hlt':¬W j i*t j*r i<W i j*R:=fun h=>c (h3.2 (hlt.2 h));have ef:vr W t r R i j=W i j*R:=US (by omega)
   rw[aC c,ef,sC hP hPR];simp only[Uv,Uo,Un]
  have hfle:vr W t r R i j<=P*R:=Ub (Dp i j) (UF _ w1);have hd:(br (decide ((i:Int)=(j:Int))) (ob (zy n) fun(r0,l2,r1,l3)=>some (r0,l2,r1,l3)) (some (RL (vr W t r R i j) (P*R))))=some (RL (if i=j then 0 else vr W t r R i j) (P*R)):=by
   by_cases c:i=j
   rw[Xm,pN (by omega),ab,Ui c]
   unfold RL;rw[j7 hPR]
   rw[Xn,Uk c]
  have hgj:=hgm j (by omega)
  have hvle:(if i=j then 0 else vr W t r R i j)<=P*R:=by split<;>omega
  have f2:=yg hB (a:=gone W t r R i j) (b:=if i=j then 0 else vr W t r R i j) hPR hPR hPRb hPRb (by omega) (by omega)
  rw[sC (b:=gone W t r R i (j+1)) (U:=P*R) (UD hPR hPR) hPR (by unfold gone; rw[sm,<-UR,Uv])] at f2
  generalize hvv:(if i=j then 0 else vr W t r R i j)=vv at *
  have hlim:lim (s++([RL vv (P*R)]:XB Rr)).length=true:=gW (by rw[Uf,q0,UB]; omega)
  refine⟨(s++[RL vv (P*R)],gone W t r R i (j+1)),?_,rfl,by rw[Uf,q0]; rfl,fun a ha=>?_⟩
  unfold wB
  dsimp only
  rw[hK.len,Xm,ak hi,ay,T5,e1,ab,hri.len,ak hj,ay,T5,e2,ab]
  dsimp only
  rw[uz (by omega) qx,ab]
  unfold RL at hp hd hlim f1 f0 f2 e0 e3 ⊢
  dsimp only
  rw[ay,e4,ab,hrj.len,ak hi,ay,e5,ab]
  dsimp only
  rw[uz (by omega) qy,ab]
  unfold RL
  dsimp only
  rw[hL.len,ak hj,ay,e0,ab]
  dsimp only
  rw[f1,ab]
  dsimp only
  rw[ak hi,ay,e3,ab]
  dsimp only
  rw[f0,ab]
  dsimp only
  rw[f3,ab,hp,ab]
  dsimp only
  rw[hd,ab]
  dsimp only
  rw[f2,ab]
  dsimp only
  rw[hlim,ay,Xo]
  by_cases c:a=j
  subst c
  dsimp only
  rw[UJ (by rw[q0]; exact Ua _),q0,V2,hvv]; rfl
  dsimp only
  rw[U1 (by rw[q0]; omega)]; exact q2 a (by omega)) (fun s _=>by
  unfold wB
  dsimp only
  rw[hK.len,Xn]; rfl) (n:=n) (s:=([],0)) ⟨rfl,rfl,fun a ha=>Uy ha (by omega)⟩ (by omega)
 obtain⟨s,g⟩:=s
 dsimp only at h1 h2 h3
 subst h2;rw[j7 hPR] at h1;exact⟨s,h1,h3⟩
def FI(hB:Bd B n)(hK:KQ K W P N)(hPB:P*R*Mx<=B)(hw:Wt t r R N){L:XB Rt}(hL:RQ L t 1 N){M:XB Rr}(hM:RR M t 1 N) :
  ∃z,bN (ud n K L) n (([]:XB (XB Sh)),0)=some z/\bN (uR n K M) n (([]:XB (XB Sh)),0)=some z/\∀G,z=.inr G->G.length<=N/\∀row,row∈G->row.length<=N:=by
 have hs:=hB.ns;have hP:=hK.pos;have hN:=hK.n1;have hPR:P*R≠0:=UD hP hw.rpos;have hPRb:P*R<=B:=Ub (U8 _ ei) hPB;have hlimN:lim N=true:=U9 (by omega)
 have hone:=hB.one;have lp:∀(k i m:Nat) (acc:XB (XB Sh)),i+k=N->acc.length<=i->(∀row,row∈acc->row.length<=N)->k<m->∃z,bN (ud n K L) m (acc,(i:Int))=some z/\bN (uR n K M) m (acc,(i:Int))=some z/\∀G,z=.inr G->G.length<=N/\∀row,row∈G->row.length<=N:=by
  intro k
  induction k with
  | zero =>
   intro i m acc h1 h2 h2' h3;obtain⟨m,rfl⟩:∃m',m=m'+1:=⟨m-1,by omega⟩
   refine⟨.inr acc,bI ?_,bI ?_,fun G hG=>by cases hG; exact⟨by omega,h2'⟩⟩
   unfold ud
   dsimp only
   rw[hK.len,Xn]
   unfold uR
   dsimp only
   rw[hK.len,Xn]
  | succ k ih =>
   intro i m acc h1 h2 h2' h3;obtain⟨m,rfl⟩:∃m',m=m'+1:=⟨m-1,by omega⟩
   have hi:i<N:=by omega
   obtain⟨row,l,k',f1,q1,q2⟩:=He hB hK hPB hw hL hi;obtain⟨row',f2,q3,q4⟩:=Hw hB hK hPB hw hM hi;have hset:RQ (row.set i (false,l,false,k')) (JZ W t r R P N i) (P*R) N:=⟨by rw[Vh,q1.len],fun j hj=>by
    by_cases e:i=j
    subst e;exact⟨l,k',Ve (by rw[q1.len]; exact hj),by unfold JZ; rw[Ui rfl]; exact q2⟩
    obtain⟨l',k',e1,e2⟩:=q1.at_ j hj;exact⟨l',k',by rw[U3 e]; exact e1,by unfold JZ; rw[Uk e]; exact e2⟩⟩
   have hset':RR (row'.set i (RL (P*R-gone W t r R i N) (P*R))) (JZ W t r R P N i) (P*R) N:=⟨by rw[Vh,q3],fun j hj=>by
    by_cases e:i=j
    subst e;rw[Ve (by rw[q3]; exact hj)]
    unfold JZ; rw[Ui rfl]
    rw[U3 e,q4 j hj];unfold JZ; rw[Uk e,Uk e]⟩
   have hgle:=rT (t:=t) (r:=r) (R:=R) hK hi;have hv:∀j,j<N->JZ W t r R P N i j<=B:=fun j hj=>by
    have:JZ W t r R P N i j<=P*R:=Ml (t:=t) (r:=r) (R:=R) hK hi▸tK hj;omega
   obtain⟨G,e,t1,t2,t3⟩:=tV hB hset hset' hPR hPRb hv hN;obtain⟨l0,k0,e0,_⟩:=q1.at_ i hi;have e0':=q4 i hi;have hm:=JA hB (a:=1) (T:=1) (b:=gone W t r R i N) (U:=P*R) (by decide) hPR (by omega) hPRb (by omega) (by omega) (by omega)
   simp only[Wb,Vo,jT (show(1:Nat)≠0 by decide)] at hm
   have st1:ud n K L (acc,(i:Int))=br (!decide (e=0)) (some (.inr (.inl e))) (gd (lim (acc++([G]:XB (XB Sh))).length) (some (.inl (acc++[G],WQ ((i:Int)+1))))):=by
    unfold ud
    dsimp only
    rw[hK.len,Xm,dI (by omega),T5,hlimN,ay,Ib (by omega),ab]
    dsimp only
    rw[f1,ab]
    dsimp only
    rw[ak hi,ay,T5,e0,ab]
    try dsimp only
    rw[t1,ab]
   have st2:uR n K M (acc,(i:Int))=br (!decide (e=0)) (some (.inr (.inl e))) (gd (lim (acc++([G]:XB (XB Sh))).length) (some (.inl (acc++[G],WQ ((i:Int)+1))))):=by
    unfold uR
    dsimp only
    rw[hK.len,Xm,pN (by omega),ab]
    dsimp only
    rw[f2,ab];unfold RL at hm t2 e0' ⊢
    dsimp only
    rw[show(1:Int)=((1:Nat):Int) from rfl,show vj n ((1:Nat):Int) ((1:Nat):Int)=some (false,Dg 1,false,Dg 1) from CW (by omega) (a:=1) (by decide),ab]
    dsimp only
    rw[hm,ab]
    dsimp only
    rw[q3,ak hi,ay,T5,e0',ab]
    try dsimp only
    rw[t2,ab]
   by_cases c:e=0
   have hlim:lim (acc++([G]:XB (XB Sh))).length=true:=gW (by rw[Uf,UB]; omega)
   obtain⟨z,z1,z2,z3⟩:=ih (i+1) m (acc++[G]) (by omega) (by rw[Uf,UB]; omega) (fun x hx=>by
    rcases UT.1 hx with h|h
    exact h2' x h
    rw[UI.1 h]; exact t3) (by omega)
   rw[Ud c,Uj,bK,hlim,ay,Xo] at st1 st2
   exact⟨z,by rw[bO st1]; exact z1,by rw[bO st2]; exact z2,z3⟩
   rw[Um c,Uw,cx] at st1 st2;exact⟨.inl e,bI st1,bI st2,fun G hG=>by cases hG⟩
 exact lp N 0 n [] (by omega) (by decide) (fun row hr=>by cases hr) (by omega)
end
section
variable{n B:Nat}{K:XB (XB Sh)}{W:Nat->Nat->Nat}{P N:Nat}
def FE(v:Nat->Nat)(W:Nat->Nat->Nat)(i j:Nat):Prop:=v i*W i j=v j*W j i
def xw(hB:Bd B n)(hK:KQ K W P N)(hPM:P*Mx<=B){L:XB Rt}{v:Nat->Nat}(hL:RQ L v 1 N)(hv:∀i,i<N->v i<=Mx){i:Nat}(hi:i<N) :
  ((∀j,j<i->FE v W i j)/\bN (nr n (i:Int) L K) n (true,0)=some (.inr true))\/((∃j,j<i/\¬FE v W i j)/\bN (nr n (i:Int) L K) n (true,0)=some (.inl ())):=by
 have hs:=hB.ns;have hP:=hK.pos;have hN:=hK.n1;have hPb:P<=B:=Ub (U8 P ei) hPM;have hMb:Mx<=B:=Ub (V3 Mx (Us hP)) hPM;have hone:=hB.one;have hW:∀a b,a<N->b<N->W a b<=P:=fun a b ha hb=>hK.sum a ha▸tK hb;have one:∀j,j<i->∃r:Int,nr n (i:Int) L K (true,(j:Int))=br (!decide (r=0)) (some (.inr (.inl ()))) (some (.inl (true,((j+1:Nat):Int))))/\(r=0↔FE v W i j):=fun j hj=>by
  have hj':j<N:=by omega
  obtain⟨ri,e1,hri⟩:=hK.at_ i hi;obtain⟨x,e2,qx⟩:=hri.at_ j hj';obtain⟨x1,x2,x3,x4,x5,x6,x7,x8,x9,x10,x11,x12,x13,x14,x15,x16⟩:=x;obtain⟨lx,kx,fx,qx⟩:=AU (n:=n) (by omega) qx
  obtain⟨rj,e3,hrj⟩:=hK.at_ j hj';obtain⟨y,e4,qy⟩:=hrj.at_ i hi;obtain⟨y1,y2,y3,y4,y5,y6,y7,y8,y9,y10,y11,y12,y13,y14,y15,y16⟩:=y;obtain⟨ly,ky,fy,qy⟩:=AU (n:=n) (by omega) qy
  obtain⟨lt,kt,e5,qt⟩:=hL.at_ i hi;obtain⟨lu,ku,e6,qu⟩:=hL.at_ j hj';have w1:=hW i j hi hj';have w2:=hW j i hj' hi;have v1:=hv i hi;have v2:=hv j hj';obtain⟨m1,p1,f1,g1⟩:=qt.times hB qx (by decide) hP (by omega) (by omega) (by omega) (by omega)
  obtain⟨m2,p2,f2,g2⟩:=qu.times hB qy (by decide) hP (by omega) (by omega) (by omega) (by omega)
  rw[Wb] at g1 g2;have b1:v i*W i j<=Mx*P:=UO v1 w1;have b2:v j*W j i<=Mx*P:=UO v2 w2;rw[Uo Mx P] at b1 b2;obtain⟨r,f3,_,h3⟩:=g1.cmp hB g2 hP hP hPb hPb (by omega) (by omega)
  refine⟨r,?_,h3.trans ⟨fun h=>VI (Us hP) h,fun h=>by rw[show v i*W i j=v j*W j i from h]⟩⟩
  unfold nr
  dsimp only
  rw[Xm,hL.len,ak hi,ay,T5,e5,ab]
  dsimp only
  rw[hK.len,ak hi,ay,e1,ab,hri.len,ak hj',ay,T5,e2,ab]
  dsimp only
  rw[fx,ab]
  dsimp only
  rw[f1,ab]
  dsimp only
  rw[ay,e6,ab]
  dsimp only
  rw[ay,e3,ab,hrj.len,ak hi,ay,e4,ab]
  dsimp only
  rw[fy,ab]
  dsimp only
  rw[f2,ab]
  dsimp only
  rw[f3,ab,Xo]
 have yes:∀j,j<i->FE v W i j->nr n (i:Int) L K (true,(j:Int))=some (.inl (true,((j+1:Nat):Int))):=fun j hj h=>by
  obtain⟨r,a1,a2⟩:=one j hj;rw[a1,Ud (a2.2 h),Uj,bK]
 rcases ft (FE v W i) i with h|⟨j,h1,h2,h3⟩
 obtain⟨_,g,_⟩:=aS (body:=nr n (i:Int) L K) i (fun(_:XC) (v:Int)=>(true,v)) (fun _=>(.inr true:XC⊕Bool)) (fun _ _=>True) (fun s j hj _=>⟨(),yes j hj (h j hj),trivial⟩) (fun s _=>by
  unfold nr
  dsimp only
  rw[Xn]) (n:=n) (s:=()) trivial (by omega)
 exact .inl ⟨h,g⟩
 obtain⟨_,g,_⟩:=aS (body:=nr n (i:Int) L K) j (fun(_:XC) (v:Int)=>(true,v)) (fun _=>(.inl ():XC⊕Bool)) (fun _ _=>True) (fun s k hk _=>⟨(),yes k (by omega) (h3 k hk),trivial⟩) (fun s _=>by
  obtain⟨r,a1,a2⟩:=one j h1;rw[a1,Um fun e=>h2 (a2.1 e),Uw,cx]) (n:=n) (s:=()) trivial (by omega)
 exact .inr ⟨⟨j,h1,h2⟩,g⟩
def yi(hB:Bd B n)(hK:KQ K W P N)(hPM:P*Mx<=B){L:XB Rr}{v:Nat->Nat}(hL:RR L v 1 N)(hv:∀i,i<N->v i<=Mx){i:Nat}(hi:i<N) :
  ((∀j,j<N->FE v W i j)/\bN (nT n K (i:Int) L) n 0=some (.inr ()))\/((∃j,j<N/\¬FE v W i j)/\bN (nT n K (i:Int) L) n 0=some (.inl ())):=by
 have hs:=hB.ns;have hP:=hK.pos;have hN:=hK.n1;have hPb:P<=B:=Ub (U8 P ei) hPM;have hMb:Mx<=B:=Ub (V3 Mx (Us hP)) hPM;have hone:=hB.one;have hW:∀a b,a<N->b<N->W a b<=P:=fun a b ha hb=>hK.sum a ha▸tK hb;have one:∀j,j<N->∃r:Int,nT n K (i:Int) L (j:Int)=br (!decide (r=0)) (some (.inr (.inl ()))) (some (.inl ((j+1:Nat):Int)))/\(r=0↔FE v W i j):=fun j hj=>by
  obtain⟨ri,e1,hri⟩:=hK.at_ i hi;obtain⟨x,e2,qx⟩:=hri.at_ j hj;obtain⟨x1,x2,x3,x4,x5,x6,x7,x8,x9,x10,x11,x12,x13,x14,x15,x16⟩:=x;obtain⟨rj,e3,hrj⟩:=hK.at_ j hj;obtain⟨y,e4,qy⟩:=hrj.at_ i hi;obtain⟨y1,y2,y3,y4,y5,y6,y7,y8,y9,y10,y11,y12,y13,y14,y15,y16⟩:=y;have e5:=hL.at_ i hi;have e6:=hL.at_ j hj;have w1:=hW i j hi hj;have w2:=hW j i hj hi;have v1:=hv i hi;have v2:=hv j hj;have f1:=ug hB (a:=v i) (T:=1) (b:=W i j) (by decide) hP (by omega) (by omega) (by omega) (by omega)
  have f2:=ug hB (a:=v j) (T:=1) (b:=W j i) (by decide) hP (by omega) (by omega) (by omega) (by omega)
  rw[Wb] at f1 f2;have b1:v i*W i j<=Mx*P:=UO v1 w1;have b2:v j*W j i<=Mx*P:=UO v2 w2;rw[Uo Mx P] at b1 b2;obtain⟨r,f3,_,h3⟩:=It hB (a:=v i*W i j) (b:=v j*W j i) hP hP hPb hPb (by omega) (by omega)
  refine⟨r,?_,h3.trans ⟨fun h=>VI (Us hP) h,fun h=>by rw[show v i*W i j=v j*W j i from h]⟩⟩
  unfold RL at f1 f2 e5 e6;unfold nT;rw[hK.len,Xm,hL.len,ak hi,ay,T5,e5,ab]
  dsimp only
  rw[ay,e1,ab,hri.len,ak hj,ay,T5,e2,ab]
  dsimp only
  rw[uz (by omega) qx,ab]
  unfold RL
  dsimp only
  rw[f1,ab]
  dsimp only
  rw[ay,e6,ab]
  dsimp only
  rw[ay,e3,ab,hrj.len,ak hi,ay,e4,ab]
  dsimp only
  rw[uz (by omega) qy,ab]
  unfold RL
  dsimp only
  rw[f2,ab]
  dsimp only
  rw[f3,ab,Xo]
 have yes:∀j,j<N->FE v W i j->nT n K (i:Int) L (j:Int)=some (.inl ((j+1:Nat):Int)):=fun j hj h=>by
  obtain⟨r,a1,a2⟩:=one j hj;rw[a1,Ud (a2.2 h),Uj,bK]
 rcases ft (FE v W i) N with h|⟨j,h1,h2,h3⟩
 obtain⟨_,g,_⟩:=aS (body:=nT n K (i:Int) L) N (fun(_:XC) (v:Int)=>v) (fun _=>(.inr ():XC⊕XC)) (fun _ _=>True) (fun s j hj _=>⟨(),yes j hj (h j hj),trivial⟩) (fun s _=>by
  unfold nT;rw[hK.len,Xn]) (n:=n) (s:=()) trivial (by omega)
 exact .inl ⟨h,g⟩
 obtain⟨_,g,_⟩:=aS (body:=nT n K (i:Int) L) j (fun(_:XC) (v:Int)=>v) (fun _=>(.inl ():XC⊕XC)) (fun _ _=>True) (fun s k hk _=>⟨(),yes k (by omega) (h3 k hk),trivial⟩) (fun s _=>by
  obtain⟨r,a1,a2⟩:=one j h1;rw[a1,Um fun e=>h2 (a2.1 e),Uw,cx]) (n:=n) (s:=()) trivial (by omega)
 exact .inr ⟨⟨j,h1,h2⟩,g⟩
def D2{K:XB (XB Sh)}(h4:K.length<=4){P:Nat}(hP:P<=(Mx ^ K.length) ^ K.length)(hb:Mx ^ 490<=B):P*Mx ^ K.length*Mx<=B:=by
 have e2:P<=Mx ^ 16:=by
  refine Ub hP ?_;rw[<-Wy];exact Up ei (UO h4 h4)
 have e3:P*Mx ^ K.length*Mx<=Mx ^ 16*Mx ^ 4*Mx ^ 1:=by
  rw[Nat.pow_one];exact UF _ (UO e2 (Up ei h4))
 refine Ub e3 (Ub ?_ hb);rw[<-Vs,<-Vs];exact Up ei (by decide)
def HL(hB:Bd B n)(hb:Mx ^ 490<=B){K:XB (XB Sh)}(hK:∀row,row∈K->WL row/\row.length<=5)(hN:K.length<=5)(h4:(∀row,row∈K->row.length=K.length)->K.length<=4){L:XB T8}(hL:WT L):∃b e,M5 n K L=some (b,e)/\Nl n K L=some (b,e):=by
 have hn:=hB.ns;have hb8:Mx ^ 8<=B:=Ub (Up ei (by decide)) hb
 rcases ot hB hb8 hK hN with⟨c1,c2⟩|⟨c1,c2,c3,c4,W,P,hQ,hP⟩
 refine⟨false,330,?_,?_⟩
 unfold M5; rw[c1,ab]; rfl
 unfold Nl; rw[c2,ab]; rfl
 have hK4:=h4 c4
 by_cases hl:L.length=K.length
 rcases uv (n:=n) (by omega) hL (by omega) (k:=0) (by decide) with⟨g,f1,f2⟩|⟨g,f1,f2⟩
 obtain⟨v,R,S,v1,v2,v3,v4,_,v6⟩:=lK (n:=n) (by omega) hL (by omega) g
 rw[hl] at v3 v4 v6;have hPM:P*Mx<=B:=by
  have:=D2 hK4 hP hb;refine Ub (UF _ (U8 P (Nat.pow_pos ei))) this
 have fin:∃b:Bool,bN (oU n K R) n (true,0)=some b/\bN (pa n K S) n 0=some (if b then .inr () else .inl ()):=by
  rcases Classical.em (∀i,i<K.length->∀j,j<K.length->FE v W i j) with h|h
  refine⟨true,?_,?_⟩
  obtain⟨_,g1,_⟩:=aS (body:=oU n K R) K.length (fun(_:XC) (v:Int)=>(true,v)) (fun _=>true) (fun _ _=>True) (fun s i hi _=>by
   refine⟨(),?_,trivial⟩;rcases xw hB hQ hPM v3 v6 hi with⟨_,g1⟩|⟨⟨j,j1,j2⟩,_⟩
   unfold oU
   dsimp only
   rw[Xm,g1]
   show some (.inl (true,WQ ((i:Int)+1)):(Bool×Int)⊕Bool)=_
   rw[Xo]
   exact Uy (h i hi j (by omega)) j2) (fun s _=>by
   unfold oU
   dsimp only
   rw[Xn]) (n:=n) (s:=()) trivial (by omega)
  exact g1
  obtain⟨_,g1,_⟩:=aS (body:=pa n K S) K.length (fun(_:XC) (v:Int)=>v) (fun _=>(.inr ():XC⊕XC)) (fun _ _=>True) (fun s i hi _=>by
   refine⟨(),?_,trivial⟩;rcases yi hB hQ hPM v4 v6 hi with⟨_,g1⟩|⟨⟨j,j1,j2⟩,_⟩
   unfold pa;rw[Xm,g1]
   show some (.inl (WQ ((i:Int)+1)):Int⊕XC⊕XC)=_
   rw[Xo]
   exact Uy (h i hi j j1) j2) (fun s _=>by
   unfold pa;rw[Xn]) (n:=n) (s:=()) trivial (by omega)
  exact g1
  refine⟨false,?_,?_⟩
  rcases ft (fun i=>∀j,j<i->FE v W i j) K.length with q|⟨i,i1,i2,i3⟩
  exact Uy (fun i hi j hj=>by
   rcases Nat.lt_trichotomy i j with c|c|c
   exact(q j hj i c).symm
   subst c; exact rfl
   exact q i hi j c) h
  obtain⟨_,g1,_⟩:=aS (body:=oU n K R) i (fun(_:XC) (v:Int)=>(true,v)) (fun _=>false) (fun _ _=>True) (fun s k hk _=>by
   refine⟨(),?_,trivial⟩;rcases xw hB hQ hPM v3 v6 (show k<K.length by omega) with⟨_,g1⟩|⟨⟨j,j1,j2⟩,_⟩
   unfold oU
   dsimp only
   rw[Xm,g1]
   show some (.inl (true,WQ ((k:Int)+1)):(Bool×Int)⊕Bool)=_
   rw[Xo]
   exact Uy (i3 k hk j j1) j2) (fun s _=>by
   rcases xw hB hQ hPM v3 v6 i1 with⟨g0,_⟩|⟨_,g1⟩
   exact Uy g0 i2
   unfold oU
   dsimp only
   rw[Xm,g1]
   rfl) (n:=n) (s:=()) trivial (by omega)
  exact g1
  rcases ft (fun i=>∀j,j<K.length->FE v W i j) K.length with q|⟨i,i1,i2,i3⟩
  exact Uy q h
  obtain⟨_,g1,_⟩:=aS (body:=pa n K S) i (fun(_:XC) (v:Int)=>v) (fun _=>(.inl ():XC⊕XC)) (fun _ _=>True) (fun s k hk _=>by
   refine⟨(),?_,trivial⟩;rcases yi hB hQ hPM v4 v6 (show k<K.length by omega) with⟨_,g1⟩|⟨⟨j,j1,j2⟩,_⟩
   unfold pa;rw[Xm,g1]
   show some (.inl (WQ ((k:Int)+1)):Int⊕XC⊕XC)=_
   rw[Xo]
   exact Uy (i3 k hk j j1) j2) (fun s _=>by
   rcases yi hB hQ hPM v4 v6 i1 with⟨g0,_⟩|⟨_,g1⟩
   exact Uy g0 i2
   unfold pa;rw[Xm,g1]
   rfl) (n:=n) (s:=()) trivial (by omega)
  exact g1
 obtain⟨b,b1,b2⟩:=fin;refine⟨b,0,?_,?_⟩
 unfold M5;rw[c1,ab,Ud rfl,Uj,bK,hl,Ud rfl,Uj,bK,show(0:Int)=((0:Nat):Int) from rfl,f1,ab,ab,bK,v1,ab,show((0:Nat):Int)=0 from rfl,b1,ab]
 unfold Nl;rw[c2,ab,Uj,bK,hl,Ud rfl,Uj,bK,show(0:Int)=((0:Nat):Int) from rfl,f2,ab,ab,bK,v2,ab,show((0:Nat):Int)=0 from rfl,b2]
 cases b<;>rfl
 refine⟨false,2,?_,?_⟩
 unfold M5;rw[c1,ab,Ud rfl,Uj,bK,hl,Ud rfl,Uj,bK,show(0:Int)=((0:Nat):Int) from rfl,f1,ab,ab,cx]
 unfold Nl;rw[c2,ab,Uj,bK,hl,Ud rfl,Uj,bK,show(0:Int)=((0:Nat):Int) from rfl,f2,ab,ab,cx]
 refine⟨false,2,?_,?_⟩
 unfold M5;rw[c1,ab,Ud rfl,Uj,bK,Um (by omega),Uw,cx,ab,cx]
 unfold Nl;rw[c2,ab,Uj,bK,Um (by omega),Uw,cx,ab,cx]
def Tk(z:Int⊕XB (XB Sh)):XA (XB (XB Sh)×Int):=match z with
 | .inl e=>some ([],e)
 | .inr G=>some (G,0)
def zD(hB:Bd B n)(hb:Mx ^ 490<=B){K:XB (XB Sh)}(hK:∀row,row∈K->WL row/\row.length<=5)(hN:K.length<=5)(h4:(∀row,row∈K->row.length=K.length)->K.length<=4){L:XB T8}(hL:WT L):∃G e,KS n K L=some (G,e)/\Mo n K L=some (G,e)/\G.length<=5/\∀row,row∈G->row.length<=5:=by
 have hn:=hB.ns;have hb8:Mx ^ 8<=B:=Ub (Up ei (by decide)) hb
 have nil:([]:XB (XB Sh)).length<=5/\∀row,row ∈([]:XB (XB Sh))->row.length<=5:=⟨by decide,fun row h=>by cases h⟩
 rcases ot hB hb8 hK hN with⟨c1,c2⟩|⟨c1,c2,c3,c4,W,P,hQ,hP⟩
 refine⟨[],330,?_,?_,nil⟩
 unfold KS; rw[c1,ab]; rfl
 unfold Mo; rw[c2,ab]; rfl
 ·have hK4:=h4 c4
  by_cases hl:L.length=K.length
  ·rcases uv (n:=n) (by omega) hL (by omega) (k:=1) (by decide) with⟨g,f1,f2⟩|⟨g,f1,f2⟩
   ·obtain⟨v,R,S,v1,v2,v3,v4,v5,v6⟩:=lK (n:=n) (by omega) hL (by omega) (fun i hi=>by obtain⟨x,x1,x2⟩:=g i hi; exact⟨x,x1,by omega⟩)
    have v7:∀i,i<K.length->1<=v i/\v i<=Mx:=fun i hi=>by
     obtain⟨x,x1,x2⟩:=g i (by omega)
     have:=v5 i x x1;exact⟨by omega,v6 i (by omega)⟩
    rw[hl] at v3 v4;have hw:=Qw v7;have hPB:P*pd v K.length*Mx<=B:=Ub (UF _ (Vb _ hw.rle)) (D2 hK4 hP hb);obtain⟨z,z1,z2,z3⟩:=FI hB hQ hPB hw v3 v4;have F:KS n K L=Tk z/\Mo n K L=Tk z:=by
     constructor
     unfold KS;rw[c1,ab,Ud rfl,Uj,bK,hl,Ud rfl,Uj,bK,show(1:Int)=((1:Nat):Int) from rfl,f1,ab,ab,bK,v1,ab,z1]
     rfl
     unfold Mo;rw[c2,ab,Uj,bK,hl,Ud rfl,Uj,bK,show(1:Int)=((1:Nat):Int) from rfl,f2,ab,ab,bK,v2,ab,z2]
     rfl
    cases z with
    | inl e=>exact⟨[],e,F.1,F.2,nil⟩
    | inr G =>
     obtain⟨a1,a2⟩:=z3 G rfl;exact⟨G,0,F.1,F.2,by omega,fun row hr=>by have:=a2 row hr; omega⟩
   refine⟨[],2,?_,?_,nil⟩
   unfold KS;rw[c1,ab,Ud rfl,Uj,bK,hl,Ud rfl,Uj,bK,show(1:Int)=((1:Nat):Int) from rfl,f1,ab,ab,cx]
   unfold Mo;rw[c2,ab,Uj,bK,hl,Ud rfl,Uj,bK,show(1:Int)=((1:Nat):Int) from rfl,f2,ab,ab,cx]
  refine⟨[],2,?_,?_,nil⟩
  unfold KS;rw[c1,ab,Ud rfl,Uj,bK,Um (by omega),Uw,cx,ab,cx]
  unfold Mo;rw[c2,ab,Uj,bK,Um (by omega),Uw,cx,ab,cx]
def Gc(hB:Bd B n)(hb:Mx ^ 490<=B){L:XB T8}(hL:WT L)(hN:L.length<=1000):∃G e,M3 n L=some (G,e)/\M1 n L=some (G,e)/\G.length<=60:=by
 have hn:=hB.ns
 by_cases h6:60<L.length
 refine⟨[],3,?_,?_,by decide⟩
 unfold M3; rw[Xm]
 unfold M1; rw[Xm]
 rcases uv (n:=n) (by omega) hL hN (k:=0) (by decide) with⟨g,f1,f3⟩|⟨g,f1,f3⟩
 obtain⟨v,R,S,v3,v4,v0,v1,_,v2⟩:=lK (n:=n) (by omega) hL hN g
 have hMx:Mx*Mx<=B:=by
  refine Ub ?_ hb;rw[<-Nat.pow_two];exact Up ei (by decide)
 have h7:64<=Mx:=by rw[uP]; decide +kernel
 have hMb:Mx<=B:=Ub (V3 Mx ei) hMx;have hsum:∀k,k<=L.length->sm v k<=B:=fun k hk=>by
  have:=BK (f:=v) (c:=Mx) (k:=k) fun i hi=>v2 i (by omega)
  have h2:k*Mx<=Mx*Mx:=UF _ (by omega)
  omega
 have hone:=hB.one;obtain⟨s,s2,s1⟩:=aS (body:=vS n R) L.length (fun(s:XB Nat×XB Nat) (v:Int)=>(false,s.1,false,s.2,v)) (fun s=>(false,s.1,false,s.2)) (fun i s=>Q s.1 s.2 (sm v i) 1) (fun s i hi hq=>by
  obtain⟨l,k,e,q⟩:=v0.at_ i hi;obtain⟨m,p,f0,f2⟩:=hq.plus hB q (by decide) (by decide) (by omega) (by omega) (hsum i (by omega)) (by have:=v2 i hi; omega)
  rw[Vo,Vo,Wb] at f2;refine⟨(m,p),?_,f2⟩;unfold vS
  dsimp only
  rw[v0.len,Xm,ak hi,ay,T5,e,ab]
  dsimp only
  unfold KM;rw[ab]
  dsimp only
  rw[f0,ab]
  dsimp only
  rw[Xo]) (fun s _=>by
  unfold vS
  dsimp only
  rw[v0.len,Xn]) (n:=n) (s:=([],[1])) (Q.zero (by decide)) (by omega)
 obtain⟨t,t0,t1⟩:=aS (body:=w7 n S) L.length (fun(s:Nat×Nat) (v:Int)=>(false,Dg s.1,false,Dg s.2,v)) (fun s=>(false,Dg s.1,false,Dg s.2)) (fun i s=>s=bo 1 (sm v i)) (fun s i hi hq=>by
  subst hq;have e:=v1.at_ i hi;have f0:=yg hB (a:=sm v i) (b:=v i) (T:=1) (U:=1) (by decide) (by decide) (by omega) (by omega) (hsum i (by omega)) (by have:=v2 i hi; omega)
  rw[Vo,Vo,Wb] at f0;refine⟨_,?_,rfl⟩;unfold RL at e f0;unfold w7
  dsimp only
  rw[v1.len,Xm,ak hi,ay,T5,e,ab]
  dsimp only
  rw[f0,ab]
  dsimp only
  rw[Xo]
  rfl) (fun s _=>by
  unfold w7
  dsimp only
  rw[v1.len,Xn]) (n:=n) (s:=(0,1)) (by rw[sm,mP]) (by omega)
 subst t1;have hS:=hsum L.length (Ua _);generalize hSS:sm v L.length=Z at *;have t1':bN (w7 n S) n (false,Dg 0,false,Dg 1,0)=some (false,Dg (bo 1 Z).1,false,Dg (bo 1 Z).2):=t0;have s1':bN (vS n R) n (false,[],false,[1],0)=some (false,s.1,false,s.2):=s2;obtain⟨r,r1,_,r0⟩:=qz (n:=n) s1.num;rw[mP] at r0;have hdl:(Dg (bo 1 Z).1).length=0↔Z=0:=by
  rw[mP,Vt];exact lT
 have head:∀(X:XA (XB Sh×Int)),(Z=0->X=some ([],7))->(Z≠0->X=(ob (bN (s8 n R false s.1 false s.2) n (R,0)) fun l2=>ob (BQ n l2) fun(l3,r3)=>some (l3,r3)))->M3 n L=X:=fun X h1 h2=>by
  unfold M3;rw[Xn,show(0:Int)=((0:Nat):Int) from rfl,f1,ab,bK,v3,ab,show((0:Nat):Int)=0 from rfl,JL (by omega),ab]
  dsimp only
  rw[s1',ab]
  dsimp only
  rw[ab]
  dsimp only
  rw[r1,ab]
  by_cases c:Z=0
  rw[az (r0.2 (by omega)),h1 c]
  rw[aC (fun h=>c (by have:=r0.1 h; omega)),h2 c]
 have head':∀(X:XA (XB Sh×Int)),(Z=0->X=some ([],7))->(Z≠0->X=(ob (bN (uK n S false (Dg (bo 1 Z).1) false (Dg (bo 1 Z).2)) n (S,0)) fun l4=>ob (Ch n l4) fun(l7,r4)=>some (l7,r4)))->M1 n L=X:=fun X h1 h2=>by
  unfold M1;rw[Xn,show(0:Int)=((0:Nat):Int) from rfl,f3,ab,bK,v4,ab,show((0:Nat):Int)=0 from rfl,pN (by omega),ab]
  dsimp only
  rw[t1',ab]
  dsimp only
  unfold Kq;rw[ab]
  by_cases c:Z=0
  rw[az (show((Dg (bo 1 Z).1).length:Int)=0 by have:=hdl.2 c; omega),h1 c]
  rw[aC (show ¬((Dg (bo 1 Z).1).length:Int)=0 from fun h=>c (hdl.1 (by omega))),h2 c]
 by_cases c:Z=0
 exact⟨[],7,head _ (fun _=>rfl) (fun h=>Uy c h),head' _ (fun _=>rfl) (fun h=>Uy c h),by decide⟩
 obtain⟨R2,u0,u1,u3,u4⟩:=aS (body:=s8 n R false s.1 false s.2) L.length (fun(x:XB Rt) (v:Int)=>(x,v)) id (fun i x=>x.length=L.length/\(∀j,j<i->∃l k,x[j]? = some (false,l,false,k)/\Q l k (v j) Z)/\∀j,i<=j->j<L.length->∃l k,x[j]? = some (false,l,false,k)/\Q l k (v j) 1) (fun x i hi hq=>by
  obtain⟨q1,q2,q0⟩:=hq;obtain⟨l,k,e,q⟩:=q0 i (Ua _) hi;obtain⟨m,p,f0,f2⟩:=q.over hB s1 (by decide) (by decide) c (by omega) (by omega) (by have:=v2 i hi; omega) hS
  rw[Vo,Wb] at f2;refine⟨x.set i (false,m,false,p),?_,by rw[Vh]; exact q1,fun j hj=>?_,fun j h5 h0=>?_⟩
  unfold s8
  dsimp only
  rw[v0.len,Xm,ak hi,ay,T5,e,ab]
  dsimp only
  rw[f0,ab]
  dsimp only
  rw[ay,Xo]
  by_cases cj:j=i
  subst cj; exact⟨m,p,Ve (by omega),f2⟩
  rw[U3 (Ne.symm cj)]; exact q2 j (by omega)
  rw[U3 (by omega)]; exact q0 j (by omega) h0) (fun x _=>by
  unfold s8
  dsimp only
  rw[v0.len,Xn]; rfl) (n:=n) (s:=R) ⟨v0.len,fun j hj=>Uy hj (by omega),fun j _ hj=>v0.at_ j hj⟩ (by omega)
 obtain⟨S2,w1,w2,w3,w4⟩:=aS (body:=uK n S false (Dg (bo 1 Z).1) false (Dg (bo 1 Z).2)) L.length (fun(x:XB Rr) (v:Int)=>(x,v)) id (fun i x=>x.length=L.length/\(∀j,j<i->x[j]? = some (RL (v j) Z))/\∀j,i<=j->j<L.length->x[j]? = some (RL (v j) 1)) (fun x i hi hq=>by
  obtain⟨q1,q2,q0⟩:=hq;have e:=q0 i (Ua _) hi;have f0:=DE hB (a:=v i) (T:=1) (b:=Z) (U:=1) (by decide) (by decide) c (by omega) (by omega) (by have:=v2 i hi; omega) hS
  rw[Vo,Wb] at f0;refine⟨x.set i (RL (v i) Z),?_,by rw[Vh]; exact q1,fun j hj=>?_,fun j h5 h0=>?_⟩
  unfold RL at e f0 ⊢;unfold uK
  dsimp only
  rw[v1.len,Xm,ak hi,ay,T5,e,ab]
  dsimp only
  rw[f0,ab]
  dsimp only
  rw[ay,Xo]
  by_cases cj:j=i
  subst cj; exact Ve (by omega)
  rw[U3 (Ne.symm cj)]; exact q2 j (by omega)
  rw[U3 (by omega)]; exact q0 j (by omega) h0) (fun x _=>by
  unfold uK
  dsimp only
  rw[v1.len,Xn]; rfl) (n:=n) (s:=S) ⟨v1.len,fun j hj=>Uy hj (by omega),fun j _ hj=>v1.at_ j hj⟩ (by omega)
 obtain⟨G,e,g0,g1,g2⟩:=tV hB (L:=R2) (R:=S2) (v:=v) (T:=Z) (N:=L.length) ⟨u1,u3⟩ ⟨w2,w3⟩ c hS (fun i hi=>by have:=v2 i hi; omega) hN
 refine⟨G,e,head _ (fun h=>Uy h c) (fun _=>?_),head' _ (fun h=>Uy h c) (fun _=>?_),by omega⟩
 rw[show bN (s8 n R false s.1 false s.2) n (R,0)=_ from u0,ab,id,g0,ab]
 rw[show bN (uK n S false (Dg (bo 1 Z).1) false (Dg (bo 1 Z).2)) n (S,0)=_ from w1,ab,id,g1,ab]
 refine⟨[],2,?_,?_,by decide⟩
 unfold M3;rw[Xn,show(0:Int)=((0:Nat):Int) from rfl,f1,ab,cx]
 unfold M1;rw[Xn,show(0:Int)=((0:Nat):Int) from rfl,f3,ab,cx]
end
end
section
open Go Go.Ab Go.Ab.W
inductive RT(E:Nat->Nat->Prop)(a:Nat):Nat->Prop
 | refl:RT E a a
 | step {b c:Nat} (h:RT E a b) (e:E b c):RT E a c
def Ed(W:Nat->Nat->Nat)(N i j:Nat):Prop:=i<N/\j<N/\W i j≠0
section
variable{n N P:Nat}{K:XB (XB Sh)}{W:Nat->Nat->Nat}
structure Wl(N:Nat)(l:XB Nat):Prop where
 len:l.length=N
 lt:∀i,i<N->l.getD i 0<2 ^ 60
end
def TU(W:Nat->Nat->Nat)(N:Nat)(a b:Nat):Prop:=RT (Ed W N) a b/\RT (Ed W N) b a
set_option exponentiation.threshold 3000
structure Cls(W:Nat->Nat->Nat)(N i:Nat)(f:Nat->Nat)(nx:Nat):Prop where
 lt:∀a,a<i->f a<nx
 eq:∀a,a<i->∀b,b<i->(f a=f b↔TU W N a b)
 all:∀v,v<nx->∃a,a<i/\f a=v
 new:∀a,a<i->f a=0\/∃b,b<a/\f b+1=f a
 nx:nx<=i
section
variable{n N P:Nat}{K:XB (XB Sh)}{W:Nat->Nat->Nat}
def Tr(s:XB Bool)(x:Nat):Prop:=s.getD x false=true
end
end
section
open Go Go.Ab Go.Ab.W
set_option exponentiation.threshold 700000
structure GoodK(K:XB (XB Sh)):Prop where
 row:∀row,row∈K->WL row/\row.length<=5
 len:K.length<=5
 h4:(∀row,row∈K->row.length=K.length)->K.length<=4
structure DK(K:XB (XB Sh))(N:Nat):Prop where
 row:∀row,row∈K->WL row/\row.length=N
 len:K.length=N
 n1:1<=N
 n4:N<=4
def DK.Gz{K:XB (XB Sh)}{N:Nat}(h:DK K N):GoodK K:=by
 have h1:=h.len;have h4:=h.n4;exact⟨fun r hr=>⟨(h.row r hr).1,by have:=(h.row r hr).2; omega⟩,by omega,fun _=>by omega⟩
def RA{p q:Nat}(hp:p<18446744073709551616)(hq:q<18446744073709551616):WS (sh (p,q)):=by
 refine⟨fun x hx=>?_,fun x hx=>?_⟩
 change x∈[p,0,0,0,0,0,0,0] at hx
 simp at hx; omega
 change x∈[q,0,0,0,0,0,0,0] at hx
 simp at hx; omega
def QO(l:XB Nat){N:Nat}(h1:1<=N)(h4:N<=4):DK (dM l N) N:=by
 refine⟨fun row hr=>?_,by unfold dM; simp,h1,h4⟩
 unfold dM at hr;obtain⟨i,hi,rfl⟩:=Wa.1 hr;obtain⟨d1,d2,d3,d4⟩:=EM l h4 (We.1 hi);refine⟨fun x hx=>?_,by unfold An; rw[UH,d1]⟩
 unfold An at hx;obtain⟨h,hh,rfl⟩:=Wa.1 hx;obtain⟨a1,a2,_⟩:=bV (a:=h) d3;have:=d2 h hh;exact RA (p:=(bo (jg l N i).sum h).1) (q:=(bo (jg l N i).sum h).2) (by omega) (by omega)
section
variable{n:Nat}
def Tt(k:Nat):mi (k:Int) (4:Int)=((min k 4:Nat):Int):=by
 unfold mi
 split<;>omega
def Ps(k:Nat):okB 0 (mi (k:Int) (4:Int)) k=true:=by
 rw[Tt];exact PL (by omega)
def AG{α:Type}(l:XB α):(Xl l 4)=l.take 4:=by
 show(l.drop WR).take ((mi (l.length:Int) 4).toNat-WR)=l.take 4;rw[Tt,T5,show WR=0 from rfl,Wu,V8]
 by_cases h:l.length<=4
 rw[VO (by omega),VO h]
 rw[show min l.length 4=4 by omega]
def NY(hn:1000000<n){K:XB (XB Sh)}(hK:∀row,row∈K->WL row):∃C,Qn n K=some C/\GoodK C:=by
 have hl:(K.take 4).length<=4:=by rw[U0]; omega
 obtain⟨C,h1,h2,h3⟩:=aS (body:=wE n K) (K.take 4).length (fun(s:XB (XB Sh)) (v:Int)=>(s,v)) id (fun i s=>s.length=i/\∀row,row∈s->WL row/\row.length<=4) (fun s i hi hs=>by
  obtain⟨row,e⟩:∃row,(K.take 4)[i]? = some row:=⟨_,T6 hi⟩;have hrow:=hK row (List.mem_of_mem_take (Ur e));refine⟨s++[row.take 4],?_,by rw[Uf,hs.1]; rfl,fun r hr=>?_⟩
  unfold wE
  dsimp only
  rw[AG,Xm,ak hi,ay,T5,e,ab,Ps,ay,AG,gW (by rw[Uf,hs.1,UB]; omega),ay,Xo]
  rcases UT.1 hr with h|h
  exact hs.2 r h
  obtain rfl:=UI.1 h;exact⟨fun x hx=>hrow x (List.mem_of_mem_take hx),by rw[U0]; omega⟩) (fun s _=>by
  unfold wE
  dsimp only
  rw[AG,Xn]; rfl) (n:=n) (s:=[]) ⟨rfl,fun r hr=>by cases hr⟩ (by omega)
 refine⟨C,?_,fun r hr=>⟨(h3 r hr).1,by have:=(h3 r hr).2; omega⟩,by omega,fun _=>by omega⟩
 unfold Qn;rw[Ps,ay,show bN (wE n K) n (([]:XB (XB Sh)),0)=_ from h1,ab]; rfl
def Pq(hn:10<n){row:XB Sh}(hw:WL row)(h1:1<=row.length)(h4:row.length<=4):∃r,bN (Hu n row) n (row,0,WQ ((row.length:Int)-1))=some r/\WL r/\r.length=row.length:=by
 obtain⟨m,rfl⟩:∃m,n=m+10:=⟨n-10,by omega⟩
 match row,h1,h4 with
 | [a],_,_=>exact⟨[a],by kernel_rfl,hw,rfl⟩
 | [a,b],_,_=>exact⟨[b,a],by kernel_rfl,fun x hx=>hw x (List.mem_reverse.1 hx),rfl⟩
 | [a,b,c],_,_=>exact⟨[c,b,a],by kernel_rfl,fun x hx=>hw x (List.mem_reverse.1 hx),rfl⟩
 | [a,b,c,d],_,_=>exact⟨[d,c,b,a],by kernel_rfl,fun x hx=>hw x (List.mem_reverse.1 hx),rfl⟩
def s7{K:XB (XB Sh)}{N i:Nat}(h:DK K N){row:XB Sh}(hw:WL row)(hr:row.length<=5):GoodK (K.set i row):=by
 have h1:=h.len;have h4:=h.n4;refine⟨fun r hr'=>?_,by rw[Vh]; omega,fun _=>by rw[Vh]; omega⟩
 rcases VP hr' with g|g
 exact h.Gz.row r g
 rw[g]; exact⟨hw,hr⟩
def DY{x N:Nat}(hx:x<256):Int.tmod (WQ ((x:Nat):Int)) (N:Int)=((x%N:Nat):Int):=by rw[aA (by omega) (by omega)]; rfl
def Pd(hn:1000000<n){K:XB (XB Sh)}{N:Nat}(h:DK K N){w t:Nat}(ht:t<256){a b c d e f g i a' b' c' d' e' f' g' i':Nat}(hA:WS (a,b,c,d,e,f,g,i,a',b',c',d',e',f',g',i')) :
  ∃C,Qi n w t a b c d e f g i a' b' c' d' e' f' g' i' K=some C/\GoodK C:=by
 have hN:=h.len;have hn1:=h.n1;have hn4:=h.n4;have hcl:bN (wR n K) n (([]:XB (XB Sh)),0)=some K:=by
  obtain⟨s,h1,h2⟩:=aS (body:=wR n K) N (fun(s:XB (XB Sh)) (v:Int)=>(s,v)) id (fun i s=>s=K.take i) (fun s i hi hs=>by
   obtain⟨row,e0⟩:∃row,K[i]? = some row:=⟨_,T6 (by omega)⟩
   have hrow:=h.row row (Ur e0);refine⟨s++[row],?_,?_⟩
   unfold wR
   dsimp only
   rw[hN,Xm,ak hi,ay,T5,e0,ab]
   unfold SE;rw[gW (by omega),ay,ab,gW (by rw[Uf,hs,U0,UB]; omega),ay,Xo]
   rw[List.take_add_one,e0,hs]; rfl) (fun s hs=>by
   unfold wR
   dsimp only
   rw[hN,Xn]; rfl) (n:=n) (s:=[]) (by simp) (by omega)
  subst h2;rw[VO (by omega)] at h1
  exact h1
 have hm:t%N<N:=UX _ (by omega)
 obtain⟨row,er⟩:∃row,K[t%N]? = some row:=⟨_,T6 (by omega)⟩
 obtain⟨hw,hr⟩:=h.row row (Ur er);have hx:WL (row++[(a,b,c,d,e,f,g,i,a',b',c',d',e',f',g',i')]):=fun x hx=>by
  rcases UT.1 hx with q|q
  exact hw x q
  rw[UI.1 q]; exact hA
 unfold Qi;rw[hcl,ab,hN,dI (by omega),DY ht,ak hm,ay,T5,er,ab,ay,ay,ab,ab]
 by_cases c0:w%5=0
 have h8:t/8%N<N:=UX _ (by omega)
 obtain⟨⟨x1,x2,x3,x4,x5,x6,x7,x8,y1,y2,y3,y4,y5,y6,y7,y8⟩,ex⟩:∃x,row[t/8%N]? = some x:=⟨_,T6 (by omega)⟩
 refine⟨_,?_,s7 h (row:=row.set (t/8%N) (a,b,c,d,e,f,g,i,a',b',c',d',e',f',g',i')) (i:=t%N) (fun x hx=>?_) (by rw[Vh]; omega)⟩
 rw[az c0,dI (by omega),show uw .u8 (t/8)=t/8 from UG (show t/8<256 by omega),DY (by omega),hr,ak h8,ay,T5,ex,ab,ab]
 rcases VP hx with q|q
 exact hw x q
 rw[q]; exact hA
 rw[aC c0]
 by_cases c1:w%5=1
 refine⟨_,?_,s7 h (i:=t%N) hx (by rw[Uf,UB]; omega)⟩
 rw[az c1,gW (by rw[Uf,UB]; omega),ay,ay,ab]
 rw[aC c1]
 by_cases c2:w%5=2
 obtain⟨r0,e0⟩:∃r0,K[0]? = some r0:=⟨_,T6 (by omega)⟩
 refine⟨K++[r0],?_,fun r q=>?_,by rw[Uf,UB]; omega,fun q=>?_⟩
 rw[az c2,show bB 0 N=true from ak (i:=0) (by omega),ay,show WR=0 from rfl,e0,ab,gW (by rw[Uf,UB]; omega),ay,ab]
 rcases UT.1 q with q|q
 exact h.Gz.row r q
 rw[UI.1 q]; exact h.Gz.row _ (Ur e0)
 have q1:=q r0 (by simp)
 have q2:=(h.row r0 (Ur e0)).2;rw[Uf,UB] at q1;omega
 rw[aC c2]
 by_cases c3:w%5=3
 obtain⟨r,r1,r2,r3⟩:=Pq (n:=n) (by omega) hw (by omega) (by omega)
 refine⟨_,?_,s7 h (i:=t%N) r2 (by omega)⟩
 rw[az c3,ab,r1,ab,ab,ab]
 rw[aC c3,ab];exact⟨K,rfl,h.Gz⟩
def CF(L:XB Sh)(hL:L.length<1000000)(hn:1000000<n):QN n L L=some true:=by
 have h1:=aS (body:=Ac n L L) L.length (fun(_:XC) (v:Int)=>v) (fun _=>(.inr ():XC⊕XC)) (fun _ _=>True) (fun s i hi _=>by
  have e:L[i]? = some L[i]:=T6 hi;generalize L[i]=x at e;obtain⟨x1,x2,x3,x4,x5,x6,x7,x8,x9,x10,x11,x12,x13,x14,x15,x16⟩:=x;refine⟨(),?_,trivial⟩;unfold Ac;rw[Xm,ak hi,ay,T5,e,ab]
  dsimp only
  rw[ay,ab]
  dsimp only
  simp only[decide_true,Vf,Uj,bK];rw[Xo]) (fun s _=>by
  unfold Ac;rw[Xn]) (n:=n) (s:=()) trivial (by omega)
 obtain⟨_,h1,_⟩:=h1;unfold QN;rw[Ud rfl,Uj,bK,h1]; rfl
def SG{ρ:Type}{body:Int->XA (Int⊕ρ)}{N:Nat}{r:ρ}(hs:∀i:Nat,i<N->body (i:Int)=some (.inl ((i+1:Nat):Int)))(he:body (N:Int)=some (.inr r))(hn:N<n):bN body n 0=some r:=by
 obtain⟨_,h1,_⟩:=aS (body:=body) N (fun(_:XC) (v:Int)=>v) (fun _=>r) (fun _ _=>True) (fun s i hi _=>⟨(),hs i hi,trivial⟩) (fun s _=>he) (n:=n) (s:=()) trivial hn;exact h1
@[irreducible] def fu6:Nat:=2 ^ 600000
@[irreducible] def BB:Nat:=2 ^ 250390
def TF:Bd BB fu6/\Mx ^ 490<=BB:=by
 have e1:BB=2 ^ 250390:=by unfold BB; rfl
 have e2:fu6=2 ^ 600000:=by unfold fu6; rfl
 have e3:BB*BB=2 ^ 500780:=by rw[e1,<-Vs]
 have lt:∀{a b:Nat},a<b->2 ^ a<2 ^ b:=fun h=>Nat.pow_lt_pow_right (by decide) h
 refine⟨⟨?_,?_,?_,?_,?_⟩,?_⟩
 rw[e3,vZ,show(4294967296:Nat)=2 ^ 32 by decide,<-Wy,show(4:Nat)=2 ^ 2 by decide,<-Vs]
 exact lt (by decide)
 unfold wp;rw[e3,show(18446744073709551616:Nat)=2 ^ 64 by decide,<-Wy,<-UW]
 exact lt (by decide)
 rw[e3,e2,<-UW];exact lt (by decide)
 rw[e2];exact Nat.lt_trans (show 10000000<2 ^ 64 by decide) (lt (by decide))
 rw[e1];exact U6 (show 18446744073709551616<=2 ^ 64 by decide) (lt (by decide))
 rw[uP,e1,<-Wy];exact Ua _
end
end
section
open Go Go.Ab Go.Ab.W
set_option exponentiation.threshold 3000
section
variable{n:Nat}
def C9(hn:2000000<n){v:Nat}(hv:v<1000):∃a b c d e f g i,BY n (v:Int)=some (a,b,c,d,e,f,g,i)/\Wd [a,b,c,d,e,f,g,i]:=by
 obtain⟨t,t0,t1⟩:=rW hn (v:=v) (uH (by omega))
 have b0:(1000:Nat)<2 ^ 511:=by decide +kernel
 rcases t1 with⟨_,a,b,c,d,e,f,g,i,rfl,q0,_⟩|⟨q,_⟩
 refine⟨a,b,c,d,e,f,g,i,?_,q0⟩;unfold BY;rw[ue n (v:=v) (by omega) (by omega),ab]
 dsimp only
 rw[t0,ab]
 exact Uy (show v<2 ^ 511 by omega) q
def Hh(hn:2000000<n)(x:Nat){l:XB Nat}{k:Nat}(hk:k<=100):∃w,Qc n x l (k:Int)=some w/\WT w/\w.length=k:=by
 obtain⟨w,h1,h2,h3⟩:=aS (body:=wS n (k:Int) l) k (fun(s:XB T8) (v:Int)=>(s,v)) id (fun i s=>s.length=i/\WT s) (fun s i hi hs=>by
  obtain⟨v,v0,v1⟩:∃v:Nat,(br (decide ((i:Int)<(l.length:Int))) (gd (bB (i:Int) l.length) (ob (l[(i:Int).toNat]?) fun x3=>some (WQ (1+(WQ ((x3%9:Nat):Int)))))) (some 1))=some ((v:Nat):Int)/\v<1000:=by
   by_cases c:i<l.length
   refine⟨1+l[i]%9,?_,by omega⟩
   rw[Xm,ak c,ay,T5,T6 c,ab,aA (x:=((l[i]%9:Nat):Int)) (by omega) (by omega),aA (by omega) (by omega)]
   congr 1
   exact⟨1,by rw[Xn]; rfl,by decide⟩
  obtain⟨a,b,c,d,e,f,g,j,w1,w2⟩:=C9 hn v1;refine⟨s++[(a,b,c,d,e,f,g,j)],?_,by rw[Uf,hs.1]; rfl,fun y hy=>?_⟩
  unfold wS
  dsimp only
  rw[Xm,v0,ab,w1,ab]
  dsimp only
  rw[gW (by rw[Uf,hs.1,UB]; omega),ay,Xo]
  rcases UT.1 hy with h|h
  exact hs.2 y h
  rw[UI.1 h]; exact w2) (fun s _=>by
  unfold wS
  dsimp only
  rw[Xn]; rfl) (n:=n) (s:=[]) ⟨rfl,fun y hy=>by cases hy⟩ (by omega)
 refine⟨w,?_,h3,h2⟩;unfold Qc;rw[show bN (wS n (k:Int) l) n (([]:XB T8),0)=_ from h1,ab]; rfl
def Hf(hn:1000000<n){K:XB (XB Sh)}(h1:K.length<1000)(h2:∀r∈K,r.length<1000):Q2 n K K=some true:=by
 have hin:∀i (hi:i<K.length) (row:XB Sh),K[i]? = some row->row.length<1000->bN (vO n (i:Int) K row K row) n 0=some (.inr ()):=fun i hi row hr hlr=>by
  have h:=aS (body:=vO n (i:Int) K row K row) row.length (fun(_:XC) (v:Int)=>v) (fun _=>(.inr ():XC⊕XC)) (fun _ _=>True) (fun s j hj _=>by
   have e:row[j]? = some row[j]:=T6 hj;generalize row[j]=x at e;obtain⟨x1,x2,x3,x4,x5,x6,x7,x8,x9,x10,x11,x12,x13,x14,x15,x16⟩:=x;refine⟨(),?_,trivial⟩;unfold vO;simp only[ak hi,ak hj,ay,T5];rw[Xm,e,ab]
   dsimp only
   rw[ab]
   dsimp only
   simp only[decide_true,Vf,Uj,bK];rw[Xo]) (fun s _=>by
   unfold vO;simp only[ak hi,ay];rw[Xn]) (n:=n) (s:=()) trivial (by omega)
  obtain⟨_,h1,_⟩:=h;exact h1
 have h:=aS (body:=zJ n K K) K.length (fun(_:XC) (v:Int)=>v) (fun _=>(.inr ():XC⊕XC)) (fun _ _=>True) (fun s i hi _=>by
  have e:K[i]? = some K[i]:=T6 hi;have hr:=h2 _ (V0 hi);generalize K[i]=row at e hr;refine⟨(),?_,trivial⟩;unfold zJ;rw[Xm,ak hi,ay,T5,e,ab,ay,ab,Ud rfl,Uj,bK,hin i hi row e hr,ab]
  dsimp only
  rw[Xo]) (fun s _=>by
  unfold zJ;rw[Xn]) (n:=n) (s:=()) trivial (by omega)
 obtain⟨_,h1,_⟩:=h;unfold Q2;rw[Ud rfl,Uj,bK,h1]
 rfl
def Lb(l1:XB (XB Sh))(x8:Nat)(l9:XB Nat){x13 x14:Nat}{a b c d e f g i a' b' c' d' e' f' g' i':Nat}(l31:XB T8){x35:Nat}(h1:∀row,row∈l1->WL row)(ht:x14<256)(hA:WS (a,b,c,d,e,f,g,i,a',b',c',d',e',f',g',i'))(h31:WT l31)(h35:x35<65536) :
  F5 fu6 l1 x8 l9 x13 x14 a b c d e f g i a' b' c' d' e' f' g' i' l31 x35=some true:=by
 obtain⟨hB,hM⟩:=TF;have hM8:Mx ^ 8<=BB:=Ub (Up ei (by decide)) hM
 have hn:=hB.ns;generalize fu6=n at *;have hx:x8%4<4:=UX _ (by decide)
 have hD:=QO l9 (N:=1+x8%4) (by omega) (by omega)
 generalize hm:dM l9 (1+x8%4)=m at hD;generalize hN:1+x8%4=N at hD;have hn1:=hD.n1;have hn4:=hD.n4;have hlen:=hD.len;obtain⟨C,c1,c2⟩:=NY (n:=n) (by omega) h1
 obtain⟨E,e1,e2⟩:=Pd (n:=n) (by omega) hD (w:=x13) ht hA
 have h31':WT (l31.take 4):=fun x hx=>h31 x (List.mem_of_mem_take hx);obtain⟨r0,er⟩:∃r0,m[0]? = some r0:=⟨_,T6 (by omega)⟩
 obtain⟨hr1,hr2⟩:=hD.row r0 (Ur er);obtain⟨S,s1,s2,s3⟩:=aS (body:=Fv n m) N (fun(s:XB (XB Sh)) (v:Int)=>(s,v)) id (fun i s=>s.length=i/\∀row,row∈s->row=r0) (fun s i hi hs=>by
  refine⟨s++[r0],?_,by rw[Uf,hs.1]; rfl,fun row hrow=>?_⟩
  unfold Fv
  dsimp only
  rw[hlen,Xm,show bB 0 N=true from ak (i:=0) (by omega),ay,show WR=0 from rfl,er,ab,gW (by rw[Uf,hs.1,UB]; omega),ay,Xo]
  rcases UT.1 hrow with h|h
  exact hs.2 row h
  exact UI.1 h) (fun s _=>by
  unfold Fv
  dsimp only
  rw[hlen,Xn]; rfl) (n:=n) (s:=[]) ⟨rfl,fun row h=>by cases h⟩ (by omega)
 have hS:DK S N:=⟨fun row hrow=>by rw[s3 row hrow]; exact⟨hr1,hr2⟩,s2,hn1,hn4⟩
 obtain⟨ev,v1,v2,v3⟩:=aS (body:=FG n r0) N (fun(s:XB T8) (v:Int)=>(s,s.length,v)) (fun s=>(s,s.length)) (fun i s=>s.length=i/\WT s) (fun s i hi hs=>by
  obtain⟨x,ex⟩:∃x,r0[i]? = some x:=⟨_,T6 (by omega)⟩
  have hx:=hr1 x (Ur ex);obtain⟨x1,x2,x3,x4,x5,x6,x7,x8,y1,y2,y3,y4,y5,y6,y7,y8⟩:=x;refine⟨s++[(x1,x2,x3,x4,x5,x6,x7,x8)],?_,by rw[Uf,hs.1]; rfl,fun y hy=>?_⟩
  unfold FG
  dsimp only
  rw[hr2,Xm,ak hi,ay,T5,ex,ab]
  dsimp only
  rw[gW (by rw[Uf,hs.1,UB]; omega),ay,Xo]
  rcases UT.1 hy with h|h
  exact hs.2 y h
  rw[UI.1 h]; exact hx.1) (fun s _=>by
  unfold FG
  dsimp only
  rw[hr2,Xn]) (n:=n) (s:=[]) ⟨rfl,fun y h=>by cases h⟩ (by omega)
 have step:∀(K:XB (XB Sh)),GoodK K->∀D:XB T8,WT D->bN (GZ n l31 D ev K) n 0=some (.inr ()):=fun K hK D hDw=>by
  refine SG (N:=3) (fun j hj=>?_) ?_ (by omega)
  ·have:∃L,[l31.take 4,D,ev][j]? = some L/\WT L:=by
    match j,hj with
    | 0,_=>exact⟨_,rfl,h31'⟩
    | 1,_=>exact⟨_,rfl,hDw⟩
    | 2,_=>exact⟨_,rfl,v3⟩
   obtain⟨L,q1,q2⟩:=this;obtain⟨bb,eb,f1,f2⟩:=HL hB hM hK.row hK.len hK.h4 q2;obtain⟨G,eg,f3,f4,f5,f6⟩:=zD hB hM hK.row hK.len hK.h4 q2;unfold GZ;rw[AG,Xm,show bB ((j:Nat):Int) 3=true from ak hj,ay,T5,q1,ab,f1,ab]
   dsimp only
   rw[f2,ab]
   dsimp only
   rw[f3,ab]
   dsimp only
   rw[f4,ab]
   dsimp only
   rw[show(!(bb==bb))=false by cases bb<;>rfl,bK,Ud rfl,Uj,bK,Hf (n:=n) (by omega) (by omega) (fun r hr=>by have:=f6 r hr; omega),ab,Uj,bK,Ud rfl,Uj,ab,bK,Xo]
  unfold GZ;rw[aC (by decide)]
 have step2:bN (IG n m C E S x8 l9 l31 ev) n 0=some (.inr ()):=by
  refine SG (N:=4) (fun j hj=>?_) ?_ (by omega)
  ·have:∃K,[m,C,E,S][j]? = some K/\GoodK K:=by
    match j,hj with
    | 0,_=>exact⟨_,rfl,hD.Gz⟩
    | 1,_=>exact⟨_,rfl,c2⟩
    | 2,_=>exact⟨_,rfl,e2⟩
    | 3,_=>exact⟨_,rfl,hS.Gz⟩
   obtain⟨K,q1,q2⟩:=this;have hl5:=q2.len;obtain⟨D,d1,d2,_⟩:=Hh (n:=n) (by omega) x8 (l:=l9) (k:=K.length) (by omega)
   obtain⟨z,z1,z2⟩:∃z:Int,Lo n K=some z/\P2 n K=some z:=by
    rcases ot hB hM8 q2.row q2.len with⟨k1,k2⟩|⟨k1,k2,_⟩
    exact⟨330,k1,by unfold P2; rw[k2]; rfl⟩
    exact⟨0,k1,by unfold P2; rw[k2]; rfl⟩
   unfold IG;rw[Xm,show bB ((j:Nat):Int) 4=true from ak hj,ay,T5,q1,ab,z1,ab,z2,ab,Ud rfl,Uj,bK,d1,ab,step K q2 D d2]
   show(some (.inl (WQ ((j:Int)+1))):XA (Int⊕XC⊕XC))=_
   rw[Xo]
  unfold IG;rw[aC (by decide)]
 have step3:∀X:XB (XB T8),X.length<=3->(∀L,L∈X->WT L/\L.length<=100)->bN (Jf n X) n 0=some (.inr ()):=fun X hX hL=>by
  refine SG (N:=X.length) (fun j hj=>?_) ?_ (by omega)
  obtain⟨L,q1⟩:∃L,X[j]? = some L:=⟨_,T6 hj⟩;obtain⟨q2,q3⟩:=hL L (Ur q1);obtain⟨G,eg,f1,f2,f3⟩:=Gc hB hM q2 (by omega)
  unfold Jf;rw[Xm,ak hj,ay,T5,q1,ab,f1,ab]
  dsimp only
  rw[f2,ab]
  dsimp only
  rw[CF G (by omega) (by omega),ab,Uj,bK,Ud rfl,Uj,ab,bK,Xo]
  unfold Jf;rw[Xn]
 have two:∀L,L∈[l31.take 4,ev]->WT L/\L.length<=100:=fun L hL=>by
  rcases UC.1 hL with rfl|hL
  exact⟨h31',by rw[U0]; omega⟩
  rw[UI.1 hL]; exact⟨v3,by omega⟩
 have hk:WQ (50+(Int.tmod (WQ ((uw .u16 (x35/32):Nat):Int)) 20))=((50+x35/32%20:Nat):Int):=by
  rw[show uw .u16 (x35/32)=x35/32 from UG (show x35/32<65536 by omega),aA (x:=((x35/32:Nat):Int)) (by omega) (by omega),show Int.tmod ((x35/32:Nat):Int) 20=((x35/32%20:Nat):Int) from rfl,aA (by omega) (by omega)]
  omega
 obtain⟨w,w1,w2,w3⟩:=Hh (n:=n) (by omega) x8 (l:=l9) (k:=50+x35/32%20) (by omega)
 unfold F5;rw[show SD n=some true from rfl,ab,Uj,bK,N2 n x8 l9 (by omega),ab,hm,Ps,ay,show bN (Fv n m) n (([]:XB (XB Sh)),0)=_ from s1,ab,hlen,show bB 0 N=true from ak (i:=0) (by omega),ay,show WR=0 from rfl,er,ab]
 rw[show bN (FG n r0) n (([]:XB T8),0,0)=_ from v1,ab]
 dsimp only[id]
 rw[c1,ab,e1,ab,step2]
 show ob (br (decide (x35%32=0)) _ _) _=_
 have t4:=AG l31
 rw[t4]
 by_cases c0:x35%32=0
 rw[az c0,ab,hk,w1,ab,gW (by simp),ay,ab,step3 ([l31.take 4,ev]++[w]) (by simp) (fun L hL=>by
  rcases UT.1 hL with h|h
  exact two L h
  rw[UI.1 h]; exact⟨w2,by omega⟩)]
 rfl
 rw[aC c0,ab,step3 [l31.take 4,ev] (by simp) two]
 rfl
end
end
section
set_option maxRecDepth 100000
open Go
def Pb:(Rows.kernelTurnsRow.inPlace==Tryz.checked.prog.inPlace 5)=true:=by kernel_rfl
def NZ:(Rows.kernelTurnsRow.unfollowed==Tryz.checked.prog.unfollowed 5)=true:=by kernel_rfl
def Nv:(Rows.kernelTurnsRow.recurses==Tryz.checked.prog.recurses 5)=true:=by kernel_rfl
def PM:(Rows.kernelTurnsRow.named==Tryz.checked.prog.varsNamed 5)=true:=by kernel_rfl
def LV:joinedFacts Tryz.checked.prog 5 Tryz.f5 Rows.kernelTurnsSpec Rows.kernelTurnsRow=true:=by
 unfold joinedFacts;rw[Pb,NZ,Nv,PM]
 kernel_rfl
def Ol:false=Tryz.checked.prog.looks []:=by kernel_rfl
def Ny:false=Rows.kernelTurnsRow.goesBy Tryz.checked.prog:=by kernel_rfl
end
end Go.Proofs.YtpkadoocdgdcfaaGreatDoor
