/- A part of the proof. -/
import Derived.Test.YtmndpgfbkicndaaGreatCf7
set_option linter.all false
namespace Jd
section
variable{n:Nat}{v:Nat->P2}
def Simple.JZ(S:Simple n v){L:Int}(hL:∀i,i<n->HS n v 1 i L/\HS n v (-1) i (L-1)){p:P2}(hp:∀i,i<n->(v i).2≠p.2):W n v p=0\/W n v p=2*L-1/\(L=0\/L=1):=by
 have hn3:=S.n3;have hp':∀i,i<n->(v (i+1)).2≠p.2:=fun i hi=>by
  by_cases e:i+1=n
  rw[e,S.cl]; exact hp 0 (by omega)
  exact hp (i+1) (by omega)
 have hX:∀i,∃X:Rat,i<n->(∀q:P2,q.2=p.2->we (v i) (v (i+1)) q=if q.1<X then dd (v i) (v (i+1)) p.2 else 0)/\(dd (v i) (v (i+1)) p.2≠0->∃t,0<t/\t<1/\cv (v i) (v (i+1)) t=(X,p.2)):=fun i=>by
  by_cases hi:i<n
  obtain⟨X,h⟩:=yl (hp i hi) (hp' i hi);exact⟨X,fun _=>h⟩
  exact⟨0,fun h=>Ss h hi⟩
 obtain⟨X,hX⟩:=Classical.axiomOfChoice hX;have hW:∀q:P2,q.2=p.2->W n v q=bD n fun i=>if q.1<X i then dd (v i) (v (i+1)) p.2 else 0:=fun q hq=>aX fun i hi=>(hX i hi).1 q hq
 by_cases hE:∃i,i<n/\(dd (v i) (v (i+1)) p.2≠0/\p.1<X i)
 obtain⟨i,i1,⟨i2,i3⟩,i4⟩:=jt (X:=X) hE;obtain⟨k,k1,⟨k2,k3⟩,k4⟩:=jt (X:=fun i=>-X i) hE;have hl:W n v p=L\/W n v p=L-1:=by
  obtain⟨t,t0,t1,t2⟩:=(hX i i1).2 i2;have key:∀σ M,0 < σ*cr (v i) (v (i+1)) (-1,0)->HS n v σ i M->W n v p=M:=by
   intro σ M hσ hM;obtain⟨e,e0,he⟩:=hM t (-1,0) t0 t1 hσ;obtain⟨x,x0,xe,xp⟩:=fC e0 (show 0<X i-p.1 by grind)
   rw[<-he x x0 (by grind),t2,hW p rfl,hW (sm (X i,p.2) (-1,0) x) (by unfold sm; grind)]
   refine aX fun j hj=>?_
   by_cases hd:dd (v j) (v (j+1)) p.2=0
   rw[hd,ite_self,ite_self]
   by_cases hx:p.1<X j
   have:=i4 j hj ⟨hd,hx⟩;rw[R7 hx,R7 (by unfold sm; grind)]
   rw[R6 hx,R6 (by unfold sm; grind)]
  by_cases h1:(v i).2<p.2/\p.2<(v (i+1)).2
  exact .inl (key 1 L (by unfold cr; grind) (hL i i1).1)
  have h2:(v (i+1)).2<p.2/\p.2<(v i).2:=by
   unfold dd at i2;rw[R6 h1] at i2;exact R8 fun h=>i2 (R6 h)
  exact .inr (key (-1) (L-1) (by unfold cr; grind) (hL i i1).2)
 have hr:L=0\/L=1:=by
  obtain⟨t,t0,t1,t2⟩:=(hX k k1).2 k2;have key:∀σ M,0 < σ*cr (v k) (v (k+1)) (1,0)->HS n v σ k M->M=0:=by
   intro σ M hσ hM;obtain⟨e,e0,he⟩:=hM t (1,0) t0 t1 hσ;rw[<-he e e0 (by grind),t2,hW (sm (X k,p.2) (1,0) e) (by unfold sm; grind)]
   refine cC fun j hj=>?_
   by_cases hd:dd (v j) (v (j+1)) p.2=0
   rw[hd,ite_self]
   refine R6 fun hx=>?_;have hx':X k+e<X j:=by unfold sm at hx; grind
   have:=k4 j hj ⟨hd,by grind⟩
   grind
  by_cases h1:(v k).2<p.2/\p.2<(v (k+1)).2
  have:=key (-1) (L-1) (by unfold cr; grind) (hL k k1).2
  exact .inr (by omega)
  have h2:(v (k+1)).2<p.2/\p.2<(v k).2:=by
   unfold dd at k2;rw[R6 h1] at k2;exact R8 fun h=>k2 (R6 h)
  exact .inl (key 1 L (by unfold cr; grind) (hL k k1).1)
 omega
 left
 rw[hW p rfl];refine cC fun j hj=>?_
 by_cases hd:dd (v j) (v (j+1)) p.2=0
 rw[hd,ite_self]
 exact R6 fun hx=>hE ⟨j,hj,hd,hx⟩
def Simple.EF(S:Simple n v){L:Int}(hL:∀i,i<n->HS n v 1 i L/\HS n v (-1) i (L-1)){p:P2}(hp:∀i,i<n->((v i).2<=p.2/\p.2<(v (i+1)).2)\/((v (i+1)).2<=p.2/\p.2<(v i).2)->tn (v i) (v (i+1)) p≠0) :
  W n v p=0\/W n v p=2*L-1/\(L=0\/L=1):=by
 have hn3:=S.n3;have h1:Ev fun x _=>∀i,i<n->(v i).2<=p.2\/p.2+x<(v i).2:=Ev.all (P:=fun i x _=>(v i).2<=p.2\/p.2+x<(v i).2) fun i _=>by
  by_cases h:(v i).2<=p.2
  exact Ev.of fun _ _ _ _=>.inl h
  exact⟨((v i).2-p.2)/2,by grind,fun x y x0 x1 _ _=>.inr (by grind)⟩
 have h2:Ev fun x _=>∀i,i<n->(tn (v i) (v (i+1)) p<0->tn (v i) (v (i+1)) (p.1,p.2+x)<0)/\(0<tn (v i) (v (i+1)) p->0<tn (v i) (v (i+1)) (p.1,p.2+x)) :=
  Ev.all (P:=fun i x _=>(tn (v i) (v (i+1)) p<0->tn (v i) (v (i+1)) (p.1,p.2+x)<0)/\(0<tn (v i) (v (i+1)) p->0<tn (v i) (v (i+1)) (p.1,p.2+x))) fun i _=>by
   have e:∀x,tn (v i) (v (i+1)) (p.1,p.2+x)=tn (v i) (v (i+1)) p+x*((v (i+1)).1-(v i).1):=fun x=>by unfold tn; grind
   by_cases hm:tn (v i) (v (i+1)) p<0
   obtain⟨a,a0,ha⟩:=pT hm ((v (i+1)).1-(v i).1);exact⟨a,a0,fun x y x0 x1 _ _=>⟨fun _=>by rw[e]; exact ha x x0 x1,fun h=>by grind⟩⟩
   by_cases hq:0<tn (v i) (v (i+1)) p
   obtain⟨a,a0,ha⟩:=pT (A:=-tn (v i) (v (i+1)) p) (by grind) (-((v (i+1)).1-(v i).1))
   exact⟨a,a0,fun x y x0 x1 _ _=>⟨fun h=>Ss h hm,fun _=>by rw[e]; have:=ha x x0 x1; grind⟩⟩
   exact Ev.of fun _ _ _ _=>⟨fun h=>Ss h hm,fun h=>Ss h hq⟩
 obtain⟨x,x0,hx⟩:=h1.and h2;obtain⟨g1,g2⟩:=hx x x x0 (by grind) x0 (by grind)
 have g1':∀i,i<n->(v (i+1)).2<=p.2\/p.2+x<(v (i+1)).2:=fun i hi=>by
  by_cases e:i+1=n
  rw[e,S.cl]; exact g1 0 (by omega)
  exact g1 (i+1) (by omega)
 have e:W n v p=W n v (p.1,p.2+x):=aX fun i hi=>by
  have a:=g1 i hi;have b:=g1' i hi;obtain⟨c1,c2⟩:=g2 i hi;have hc:=hp i hi
  by_cases k1:(v i).2<=p.2/\p.2<(v (i+1)).2
  rw[gy k1.1 k1.2,gy (by grind) (by grind)]
  exact jH ⟨c2,fun h=>by have:=hc (.inl k1); grind⟩
  by_cases k2:(v (i+1)).2<=p.2/\p.2<(v i).2
  rw[iJ (v (i+1)) (v i),iJ (v (i+1)) (v i),gy k2.1 k2.2,gy (by grind) (by grind),gT (v i),gT (v i)]
  rw[jH (d:=0 < -tn (v i) (v (i+1)) (p.1,p.2+x)) ⟨fun h=>by have:=c1 (by grind); grind,fun h=>by have:=hc (.inr k2); grind⟩]
  rw[ei k1 k2,ei (by grind) (by grind)]
 rw[e];exact S.JZ hL fun i hi=>by have:=g1 i hi; grind
def Simple.sign(S:Simple n v):∃s:Int,(s=1\/s = -1)/\∀p:P2,(∀i,i<n->((v i).2<=p.2/\p.2<(v (i+1)).2)\/((v (i+1)).2<=p.2/\p.2<(v i).2)->tn (v i) (v (i+1)) p≠0)->W n v p=0\/W n v p=s:=by
 obtain⟨L,hL⟩:=S.along
 by_cases h:L=0\/L=1
 exact⟨2*L-1,by omega,fun p hp=>(S.EF hL hp).imp_right And.left⟩
 exact⟨1,.inl rfl,fun p hp=>.inl ((S.EF hL hp).resolve_right fun g=>h g.2)⟩
end
def pY(a:I2):I2:=(-a.1,-a.2)
def wj(a b p:I2):Int:=if a.2<p.2/\p.2<=b.2/\ti a b p<0 then -1 else if b.2<p.2/\p.2<=a.2/\0<ti a b p then 1 else 0
def up(p v:I2):Int:=if p.2<v.2\/(v.2=p.2/\v.1<p.1) then 1 else 0
def oc(r:List I2)(p:I2):Int:=bD r.length fun i=>wj (nx r i) (nx r (i+1)) p
def sB{a b p:I2}(h:a.2=p.2):ti a b p=(b.2-a.2)*(a.1-p.1):=by unfold ti; grind
def uT{a b p:I2}(h:b.2=p.2):ti a b p=(b.2-a.2)*(b.1-p.1):=by unfold ti; grind
def jr{k x:Int}(h:0<k):(0<k*x↔0<x)/\(k*x<0↔x<0):=⟨lb h,gC h⟩
def tM{k x:Int}(h:k<0):(0<k*x↔x<0)/\(k*x<0↔0<x):=by
 have e:k*x = -((-k)*x):=by grind
 have:=jr (x:=x) (show 0 < -k by omega)
 rw[e]; omega
def xC{a b p:I2}(h:ti a b p=0):wi a b p=0:=by unfold wi; rw[UF,UF]
def CI{a b p:I2}(h:ti a b p=0):wj a b p=0:=by unfold wj; rw[UF,UF]
def Q2{a b p:I2}(h:¬cF a b p):wi a b p-wj a b p=up p b-up p a:=by
 by_cases ha:a.2=p.2
 by_cases hb:b.2=p.2
 have h0:ti a b p=0:=by rw[sB ha,hb,ha]; simp
 rw[xC h0,CI h0];have:¬(min a.1 b.1<=p.1/\p.1<=max a.1 b.1):=fun g=>h ⟨h0,g.1,g.2,by omega,by omega⟩
 unfold up
 by_cases g:a.1<p.1
 rw[R7 (.inr ⟨hb,by omega⟩),R7 (.inr ⟨ha,g⟩)]<;>rfl
 rw[UF,UF]<;>rfl
 have ht:=sB (b:=b) ha;have hne:a.1≠p.1:=fun e=>h (by rw[show p=a from S5 e.symm ha.symm]; exact vg a b)
 by_cases hb':p.2<b.2
 have s:=jr (k:=b.2-a.2) (x:=a.1-p.1) (by omega)
 rw[<-ht] at s;unfold wi wj up
 by_cases g:a.1<p.1
 rw[UF,UF,UF,UF,UG,UG]<;>rfl
 rw[UG,UF,UF,UG,UF]<;>rfl
 have s:=tM (k:=b.2-a.2) (x:=a.1-p.1) (by omega)
 rw[<-ht] at s;unfold wi wj up
 by_cases g:a.1<p.1
 rw[UF,UF,UF,UG,UF,UG]<;>rfl
 rw[UF,UF,UF,UF,UF,UF]<;>rfl
 by_cases hb:b.2=p.2
 have ht:=uT (a:=a) hb;have hne:b.1≠p.1:=fun e=>h (by rw[show p=b from S5 e.symm hb.symm]; exact vh a b)
 by_cases ha':p.2<a.2
 have s:=tM (k:=b.2-a.2) (x:=b.1-p.1) (by omega)
 rw[<-ht] at s;unfold wi wj up
 by_cases g:b.1<p.1
 rw[UF,UF,UF,UF,UG,UG]<;>rfl
 rw[UF,UG,UF,UF,UF,UG]<;>rfl
 have s:=jr (k:=b.2-a.2) (x:=b.1-p.1) (by omega)
 rw[<-ht] at s;unfold wi wj up
 by_cases g:b.1<p.1
 rw[UF,UF,UG,UG,UF]<;>rfl
 rw[UF,UF,UF,UF,UF,UF]<;>rfl
 by_cases ha':p.2<a.2
 by_cases hb':p.2<b.2
 unfold wi wj up;rw[UF,UF,UF,UF,UG,UG]<;>rfl
 have h0:ti a b p≠0:=fun h0=>h (gz (.inr ⟨by omega,by omega⟩) h0)
 unfold wi wj up
 by_cases g:ti a b p<0
 rw[UF,UG,UF,UF,UF,UG]<;>rfl
 rw[UF,UF,UF,UG,UF,UG]<;>rfl
 by_cases hb':p.2<b.2
 have h0:ti a b p≠0:=fun h0=>h (gz (.inl ⟨by omega,by omega⟩) h0)
 unfold wi wj up
 by_cases g:ti a b p<0
 rw[UF,UF,UG,UG,UF]<;>rfl
 rw[UG,UF,UF,UG,UF]<;>rfl
 unfold wi wj up;rw[UF,UF,UF,UF,UF,UF]<;>rfl
instance(a b p:I2):Decidable (cF a b p):=by unfold cF; infer_instance
def Mm(a b p:I2):Int:=if cF a b p then up p b-up p a else 0
def FO(a b p:I2):wi a b p-wj a b p+Mm a b p=up p b-up p a:=by
 unfold Mm
 by_cases h:cF a b p
 rw[R7 h,xC h.1,CI h.1]; omega
 rw[R6 h,<-Q2 h]; omega
def CQ(r:List I2)(p:I2):fJ r p-oc r p+bD r.length (fun i=>Mm (nx r i) (nx r (i+1)) p)=0:=by
 have h1:=sO r.length fun i=>up p (nx r i);rw[wW,Int.sub_self] at h1;have h2:=jm r.length (fun i=>wi (nx r i) (nx r (i+1)) p-wj (nx r i) (nx r (i+1)) p) fun i=>Mm (nx r i) (nx r (i+1)) p;rw[j9] at h2;unfold fJ oc;rw[<-h2,<-h1];exact aX fun i _=>FO _ _ _
def F1{r:List I2}{p:I2}(hp:∀i,i<r.length->¬cF (nx r i) (nx r (i+1)) p):oc r p=fJ r p:=by
 have h:=CQ r p;rw[cC (fun i hi=>by unfold Mm; rw[R6 (hp i hi)])] at h
 omega
def Bi(a b p:I2):ti (pY a) (pY b) (pY p)=ti a b p:=by unfold ti pY; grind
def AM(a b p:I2):wi (pY a) (pY b) (pY p)=wj a b p:=by
 unfold wi wj;rw[Bi];unfold pY
 dsimp only
 by_cases h1:a.2<p.2/\p.2<=b.2/\ti a b p<0
 rw[UF,UG,R7 h1]
 rw[R6 h1]
 by_cases h2:b.2<p.2/\p.2<=a.2/\0<ti a b p
 rw[UG,R7 h2]
 rw[UF,UF,R6 h2]
def zm{r:List I2}(h:r≠[])(p:I2):fJ (r.map pY) (pY p)=oc r p:=by
 unfold fJ oc;rw[Sz];exact aX fun i _=>by rw[dI _ h,dI _ h,AM]
def Cb{a b c:I2}:cF (pY a) (pY b) (pY c)↔cF a b c:=by
 unfold cF;rw[Bi];unfold pY
 dsimp only
 omega
def nC{N:Int}{t:Rat}(hN:0<N)(ht:(N:Rat)*t=1)(a q:Int):((a:Rat)<=(q:Rat)*t↔a*N<=q)/\((q:Rat)*t<(a:Rat)↔q<a*N):=by
 have hN':(0:Rat)<(N:Rat):=gS.2 hN;have t0:0<t:=by
  refine R8 fun h=>?_;have:=dm (show 0<=(N:Rat) by grind) (show t<=0 by grind)
  grind
 have key:(a:Rat)<=(q:Rat)*t↔a*N<=q:=by
  rw[<-oA,TS];constructor
  intro h;have:=cn (show 0<=(q:Rat)*t-a by grind) (show 0<=(N:Rat) by grind)
  rw[show((q:Rat)*t-a)*N=q*(N*t)-a*N by grind,ht,Rat.mul_one] at this
  grind
  intro h;have:=cn (show 0<=(q:Rat)-a*N by grind) (show 0<=t by grind)
  rw[show((q:Rat)-a*N)*t=q*t-a*(N*t) by grind,ht,Rat.mul_one] at this
  grind
 refine⟨key,?_⟩;constructor
 intro h;have:=mt key.2 (by grind)
 omega
 intro h;have:=mt key.1 (by omega)
 grind
def zX{N:Int}{t:Rat}(ht:(N:Rat)*t=1)(a b q:I2):tn (ca a) (ca b) ((q.1:Rat)*t,(q.2:Rat)*t)=((ti (dE N a) (dE N b) q:Int):Rat)*(t*t):=by
 rw[<-lp];unfold tn ca dE;simp only[TS]
 grind
def VR.sign{r:List I2}(h:VR r):∃s:Int,(s=1\/s = -1)/\∀N:Int,0<N->∀q:I2,(∀i,i<r.length->¬cF (dE N (nx r i)) (dE N (nx r (i+1))) q)->Jd.fJ (r.map (dE N)) q=0\/Jd.fJ (r.map (dE N)) q=s:=by
 have hr:r≠[]:=fun e=>by have:=h.n3; rw[e] at this; simp at this
 obtain⟨s,hs,hm⟩:=h.simple.sign;refine⟨s,hs,fun N hN q hq=>?_⟩;have hN':(0:Rat)<(N:Rat):=gS.2 hN;have ht:(N:Rat)*(N:Rat)⁻¹=1:=Rat.mul_inv_cancel _ (by grind)
 have t0:0<(N:Rat)⁻¹:=by
  refine R8 fun h=>?_;have:=dm (show 0<=(N:Rat) by grind) (show(N:Rat)⁻¹<=0 by grind)
  grind
 generalize(N:Rat)⁻¹=t at ht t0;have tt:=bB t0 t0;have sp:∀x:Int,(0<(x:Rat)*(t*t)↔0<x)/\((x:Rat)*(t*t)<0↔x<0):=fun x=>by
  have p1:∀y:Int,0<y->0<(y:Rat)*(t*t):=fun y hy=>bB (gS.2 hy) tt;have p2:∀y:Int,y<0->(y:Rat)*(t*t)<0:=fun y hy=>by
   have:=bB (show(0:Rat) < -(y:Rat) by have:=nu.2 hy; grind) tt
   grind
  rcases Int.lt_trichotomy x 0 with g|g|g
  have:=p2 x g;constructor<;>constructor<;>intro k<;>first|omega|grind
  subst g;simp
  have:=p1 x g;constructor<;>constructor<;>intro k<;>first|omega|grind
 have e:W r.length (fun i=>ca (nx r i)) ((q.1:Rat)*t,(q.2:Rat)*t)=Jd.fJ (r.map (dE N)) q:=by
  unfold Jd.fJ W;rw[Sz];refine aX fun i _=>?_;rw[dI _ hr,dI _ hr]
  show we (ca (nx r i)) (ca (nx r (i+1))) _=_
  generalize nx r i=a;generalize nx r (i+1)=b;unfold we wi;rw[zX ht];unfold ca
  dsimp only
  simp only[(nC hN ht _ _).1,(nC hN ht _ _).2,(sp _).1,(sp _).2]
  rfl
 rw[<-e];refine hm _ fun i hi hl=>?_
 show tn (ca (nx r i)) (ca (nx r (i+1))) _≠0
 rw[zX ht];intro h0;have hz:=sp (ti (dE N (nx r i)) (dE N (nx r (i+1))) q);have h0':ti (dE N (nx r i)) (dE N (nx r (i+1))) q=0:=by
  have a1:=mt hz.1.2 (by rw[h0]; grind)
  have a2:=mt hz.2.2 (by rw[h0]; grind)
  omega
 refine hq i hi (gz ?_ h0');unfold ca at hl
 dsimp only at hl
 simp only[(nC hN ht _ _).1,(nC hN ht _ _).2] at hl;exact hl
def Ca{u w:Int}(h:(0<=w/\w<=u)\/(u<=w/\w<=0)):0<=u*w/\(w≠0->0<u*w):=by
 rcases h with h|h
 exact⟨TI (by omega) h.1,fun h0=>Ui (by omega) (by omega)⟩
 exact⟨TV (by omega) h.2,fun h0=>Int.mul_pos_of_neg_of_neg (by omega) (by omega)⟩
def CE{a v p:I2}(h:cF a v p)(hne:p≠v):(a.1-v.1)*(p.2-v.2)=(a.2-v.2)*(p.1-v.1)/\0<(a.1-v.1)*(p.1-v.1)+(a.2-v.2)*(p.2-v.2):=by
 obtain⟨h0,h1,h2,h3,h4⟩:=h;have e1:=Ca (u:=a.1-v.1) (w:=p.1-v.1) (by omega)
 have e2:=Ca (u:=a.2-v.2) (w:=p.2-v.2) (by omega)
 refine⟨by unfold ti at h0; grind,?_⟩
 by_cases g:p.1-v.1=0
 have g2:p.2-v.2≠0:=fun g2=>hne (S5 (by omega) (by omega))
 have:=e2.2 g2;omega
 have:=e1.2 g;omega
def Iz{a v b p:I2}(h1:cF a v p)(h2:cF v b p)(hne:p≠v):ti a v b=0/\di a v b<0:=by
 obtain⟨e1,d1⟩:=CE h1 hne;obtain⟨e2,d2⟩:=CE h2.swap hne;have hd:=IT (u:=(a.1-v.1,a.2-v.2)) (v:=(b.1-v.1,b.2-v.2)) (w:=(p.1-v.1,p.2-v.2)) e1 e2 d1 d2
 dsimp only at hd
 refine⟨?_,by unfold di; grind⟩
 have hw:¬(p.1-v.1=0/\p.2-v.2=0):=fun g=>hne (S5 (by omega) (by omega))
 have hx:(p.1-v.1)*ti a v b=0:=by unfold ti; grind
 have hy:(p.2-v.2)*ti a v b=0:=by unfold ti; grind
 rcases S7.1 hx with g|g
 rcases S7.1 hy with k|k
 exact Ss ⟨g,k⟩ hw
 exact k
 exact g
def BW{x a b:Int}(h:min a b<=x/\x<=max a b):0<=(b-x)*(b-a)/\0<=(x-a)*(b-a):=by
 rcases Int.le_total a b with g|g
 exact⟨TI (by omega) (by omega),TI (by omega) (by omega)⟩
 exact⟨TV (by omega) (by omega),TV (by omega) (by omega)⟩
def KU{a b p:I2}(hab:a≠b)(h:cF a b p):∃w1 w2 D:Int,0<=w1/\0<=w2/\w1+w2=D/\0<D/\D*p.1=w1*a.1+w2*b.1/\D*p.2=w1*a.2+w2*b.2:=by
 obtain⟨h0,h1,h2,h3,h4⟩:=h;have e1:=BW ⟨h1,h2⟩;have e2:=BW ⟨h3,h4⟩;refine⟨(b.1-p.1)*(b.1-a.1)+(b.2-p.2)*(b.2-a.2),(p.1-a.1)*(b.1-a.1)+(p.2-a.2)*(b.2-a.2),(b.1-a.1)*(b.1-a.1)+(b.2-a.2)*(b.2-a.2),by omega,by omega,by grind,?_,?_,?_⟩
 have s1:=@Oa (b.1-a.1);have s2:=@Oa (b.2-a.2);refine R8 fun k=>hab ?_;have g1:=KK (show(b.1-a.1)*(b.1-a.1)=0 by omega)
 have g2:=KK (show(b.2-a.2)*(b.2-a.2)=0 by omega)
 exact S5 (by omega) (by omega)
 unfold ti at h0; grind
 unfold ti at h0; grind
def B0{a b p:I2}(hab:a≠b)(h:cF a b p){α β γ:Rat}(ha:0<af α β γ (ca a))(hb:0<af α β γ (ca b)):0<af α β γ (ca p):=by
 obtain⟨w1,w2,D,h1,h2,h3,h4,h5,h6⟩:=KU hab h;have c5:(D:Rat)*(p.1:Rat)=(w1:Rat)*a.1+(w2:Rat)*b.1:=by rw[<-TS,h5,Rat.intCast_add,TS,TS]
 have c6:(D:Rat)*(p.2:Rat)=(w1:Rat)*a.2+(w2:Rat)*b.2:=by rw[<-TS,h6,Rat.intCast_add,TS,TS]
 have c3:(w1:Rat)+(w2:Rat)=D:=by rw[<-Rat.intCast_add,h3]
 have d0:(0:Rat)<D:=gS.2 h4;have n1:(0:Rat)<=w1:=by have:=(oA (x:=0) (y:=w1)).2 h1; simpa using this
 have n2:(0:Rat)<=w2:=by have:=(oA (x:=0) (y:=w2)).2 h2; simpa using this
 have e:(D:Rat)*af α β γ (ca p)=w1*af α β γ (ca a)+w2*af α β γ (ca b):=by
  unfold af ca
  dsimp only
  grind
 have q1:=cn n1 (show 0<=af α β γ (ca a) by grind)
 have q2:=cn n2 (show 0<=af α β γ (ca b) by grind)
 have q:0<(D:Rat)*af α β γ (ca p):=by
  rw[e]
  by_cases k:(w1:Rat)=0
  have:0<(w2:Rat):=by grind
  have:=bB this hb
  grind
  have:=bB (show 0<(w1:Rat) by grind) ha
  grind
 refine R8 fun k=>?_;have:=dm (show 0<=(D:Rat) by grind) (show af α β γ (ca p)<=0 by grind)
 grind
def IV{a b c d p:I2}(hab:a≠b)(hcd:c≠d)(h:NM a b c d)(h1:cF a b p)(h2:cF c d p):False:=by
 obtain⟨α,β,γ,g1,g2,g3,g4⟩:=tE hab hcd h.1 h.2;have k1:=B0 hab h1 g1 g2;have k2:=B0 (α:=-α) (β:=-β) (γ:=-γ) hcd h2 (by unfold af at *; grind) (by unfold af at *; grind)
 unfold af at k1 k2; grind
section
variable{r:List I2}
def VR.GC(h:VR r){i j:Nat}(hij:i<j)(hj:j<r.length){p:I2}(hi:cF (nx r i) (nx r (i+1)) p)(hp:cF (nx r j) (nx r (j+1)) p):(j=i+1/\p=nx r j)\/(i=0/\j+1=r.length/\p=nx r 0):=by
 by_cases h1:j=i+1
 subst h1;refine .inl ⟨rfl,R8 fun hne=>h.spike i (Iz hi hp hne)⟩
 by_cases h2:i=0/\j+1=r.length
 obtain⟨rfl,h2⟩:=h2;refine .inr ⟨rfl,h2,R8 fun hne=>?_⟩;have e1:nx r (j+1)=nx r 0:=by rw[h2,wW]
 have e2:nx r (j+2)=nx r 1:=by
  rw[show j+2=1+r.length by omega]
  exact om r (Nat.add_mod_right 1 r.length)
 have:=h.spike j;rw[e1,e2] at this;rw[e1] at hp;exact this (Iz hp hi hne)
 exact(IV (h.still i) (h.still j) (h.meet i j (by omega) hj h2) hi hp).elim
def pv(r:List I2)(m:Nat):Nat:=if m=0 then r.length-1 else m-1
def OM{m:Nat}(hm:m<r.length):pv r m<r.length:=by unfold pv; split<;>omega
def LG{m:Nat}(hm:m<r.length):nx r (pv r m+1)=nx r m:=by
 unfold pv
 by_cases h:m=0
 subst h; rw[R7 rfl,show r.length-1+1=r.length by omega,wW]
 rw[R6 h,show m-1+1=m by omega]
def VR.wx(h:VR r){m i:Nat}(hm:m<r.length)(hi:i<r.length)(hb:cF (nx r i) (nx r (i+1)) (nx r m)):i=m\/i=pv r m:=by
 by_cases e:i=m
 exact .inl e
 refine .inr ?_;have hself:cF (nx r m) (nx r (m+1)) (nx r m):=vg _ _;have hn3:=h.n3;rcases Nat.lt_or_gt_of_ne e with g|g
 rcases h.GC g hm hb hself with⟨k,_⟩|⟨k1,k2,k3⟩
 unfold pv; rw[UF]; omega
 exfalso;subst k1;have hp:pv r m<r.length:=OM hm;have hs:cF (nx r (pv r m)) (nx r (pv r m+1)) (nx r m):=by rw[LG hm]; exact vh _ _
 have e2:pv r m=m-1:=by unfold pv; rw[UF]
 have hlt:0<pv r m:=by rw[e2]; omega
 rcases h.GC hlt hp hb hs with⟨k,k'⟩|⟨_,k,_⟩
 rw[e2] at k k';have:=h.still 0;have e3:nx r (m-1)=nx r 1:=by rw[k]
 rw[e3] at k';exact this (by rw[<-k3,k'])
 omega
 rcases h.GC g hi hself hb with⟨k,k'⟩|⟨k1,k2,k3⟩
 subst k; exact Ss k' (h.still m)
 unfold pv; rw[R7 k1]; omega
def VR.AV(h:VR r){i j:Nat}(hi:i<r.length)(hj:j<r.length){p:I2}(hp:∀k,p≠nx r k)(h1:cF (nx r i) (nx r (i+1)) p)(h2:cF (nx r j) (nx r (j+1)) p):i=j:=by
 refine R8 fun hne=>?_;rcases Nat.lt_or_gt_of_ne hne with g|g
 rcases h.GC g hj h1 h2 with⟨_,k⟩|⟨_,_,k⟩<;>exact hp _ k
 rcases h.GC g hi h2 h1 with⟨_,k⟩|⟨_,_,k⟩<;>exact hp _ k
end
def Lg(P:Int->Prop):Prop:=∃k,∀N,k<=N->P N
def Lg.ge(k:Int):Lg (k<=·):=⟨k,fun _ h=>h⟩
def Lg.and{P Q:Int->Prop}(h:Lg P)(g:Lg Q):Lg fun N=>P N/\Q N:=by
 obtain⟨a,ha⟩:=h;obtain⟨b,hb⟩:=g;exact⟨max a b,fun N hN=>⟨ha N (by omega),hb N (by omega)⟩⟩
def Lg.imp{P Q:Int->Prop}(h:Lg P)(g:∀N,P N->Q N):Lg Q:=by
 obtain⟨a,ha⟩:=h;exact⟨a,fun N hN=>g N (ha N hN)⟩
def Lg.all{P:Nat->Int->Prop}{n:Nat}(h:∀i,i<n->Lg (P i)):Lg fun N=>∀i,i<n->P i N:=by
 induction n with
 | zero=>exact⟨0,fun _ _ i hi=>by omega⟩
 | succ n ih =>
  refine((ih fun i hi=>h i (by omega)).and (h n (by omega))).imp fun N g i hi=>?_
  by_cases e:i=n
  rw[e]; exact g.2
  exact g.1 i (by omega)
def Lg.get{P:Int->Prop}(h:Lg P):∃N,0<N/\P N:=by
 obtain⟨k,hk⟩:=h;exact⟨max k 1,by omega,hk _ (by omega)⟩
def Fo{T:Int}(h:0<T)(C:Int):Lg fun N=>0<N*T+C:=⟨max 0 (1-C),fun N hN=>by
 have:=TA (show 1<=T by omega) (show 0<=N by omega)
 omega⟩
def Mw{T:Int}(h:T<0)(C:Int):Lg fun N=>N*T+C<0:=(Fo (show 0 < -T by omega) (-C)).imp fun N g=>by
 rw[Int.mul_neg] at g; omega
def Qn{x y d N:Int}(d0:0<=d)(hN:d<N):(x*N<=y*N+d↔x<=y)/\(y*N+d<x*N↔y<x):=by
 have:x*N<=y*N+d↔x<=y:=by
  constructor
  intro h;refine R8 fun g=>?_;have:=Tk (show y+1<=x by omega) (show 0<=N by omega)
  rw[Int.add_mul] at this;omega
  intro h;have:=Tk h (show 0<=N by omega)
  omega
 exact⟨this,by omega⟩
def mB{x y d N:Int}(hN:d<N)(n0:0<=N)(h:x<y):x*N+d<y*N:=by
 have:=Tk (show x+1<=y by omega) n0
 rw[Int.add_mul] at this;omega
def wA(N:Int)(a b p δ:I2):ti (dE N a) (dE N b) (ud δ (dE N p))=N*(N*ti a b p+((b.1-a.1)*δ.2-(b.2-a.2)*δ.1)):=by unfold ti dE ud; grind
def F4{a b p δ:I2}(h:¬cF a b p)(hd:0<=δ.2):Lg fun N=>wi (dE N a) (dE N b) (ud δ (dE N p))=wi a b p/\¬cF (dE N a) (dE N b) (ud δ (dE N p)):=by
 have hl:∀N:Int,max 1 (δ.2+1)<=N->((dE N a).2<=(ud δ (dE N p)).2↔a.2<=p.2)/\((ud δ (dE N p)).2<(dE N a).2↔p.2<a.2)/\((dE N b).2<=(ud δ (dE N p)).2↔b.2<=p.2)/\((ud δ (dE N p)).2<(dE N b).2↔p.2<b.2):=fun N hN=>by
  have h1:=Qn (x:=a.2) (y:=p.2) hd (show δ.2<N by omega)
  have h2:=Qn (x:=b.2) (y:=p.2) hd (show δ.2<N by omega)
  exact⟨h1.1,h1.2,h2.1,h2.2⟩
 rcases Int.lt_trichotomy (ti a b p) 0 with g|g|g
 refine((Lg.ge (max 1 (δ.2+1))).and (Mw g ((b.1-a.1)*δ.2-(b.2-a.2)*δ.1))).imp fun N ⟨h1,h2⟩=>?_;have hs:=(jr (x:=N*ti a b p+((b.1-a.1)*δ.2-(b.2-a.2)*δ.1)) (show 0<N by omega)).2.2 h2
 rw[<-wA] at hs;refine⟨?_,fun hb=>by have:=hb.1; omega⟩
 unfold wi;obtain⟨l1,l2,l3,l4⟩:=hl N h1
 by_cases k:b.2<=p.2/\p.2<a.2/\ti a b p<0
 rw[UF,UG,UF,R7 k]
 rw[UF,UF,UF,R6 k]
 refine(Lg.ge (max (max 1 (δ.2+1)) (max (δ.1+1) (1-δ.1)))).imp fun N h1=>?_;obtain⟨l1,l2,l3,l4⟩:=hl N (by omega)
 have hn:¬((a.2<=p.2/\p.2<b.2)\/(b.2<=p.2/\p.2<a.2)):=fun k=>h (gz k g);refine⟨?_,fun hb=>?_⟩
 unfold wi;rw[UF,UF,UF,UF]
 obtain⟨_,b1,b2,b3,b4⟩:=hb;refine h ⟨g,?_,?_,?_,?_⟩
 refine R8 fun k=>?_;have k1:=mB (x:=p.1) (y:=a.1) (show δ.1<N by omega) (by omega) (by omega)
 have k2:=mB (x:=p.1) (y:=b.1) (show δ.1<N by omega) (by omega) (by omega)
 unfold ud dE at b1; dsimp only at b1; omega
 refine R8 fun k=>?_;have k1:=mB (x:=a.1) (y:=p.1) (show -δ.1<N by omega) (by omega) (by omega)
 have k2:=mB (x:=b.1) (y:=p.1) (show -δ.1<N by omega) (by omega) (by omega)
 unfold ud dE at b2; dsimp only at b2; omega
 refine R8 fun k=>?_;have k1:=mB (x:=p.2) (y:=a.2) (show δ.2<N by omega) (by omega) (by omega)
 have k2:=mB (x:=p.2) (y:=b.2) (show δ.2<N by omega) (by omega) (by omega)
 unfold ud dE at b3; dsimp only at b3; omega
 refine R8 fun k=>?_;have k1:=mB (x:=a.2) (y:=p.2) (show -δ.2<N by omega) (by omega) (by omega)
 have k2:=mB (x:=b.2) (y:=p.2) (show -δ.2<N by omega) (by omega) (by omega)
 unfold ud dE at b4; dsimp only at b4; omega
 refine((Lg.ge (max 1 (δ.2+1))).and (Fo g ((b.1-a.1)*δ.2-(b.2-a.2)*δ.1))).imp fun N ⟨h1,h2⟩=>?_;have hs:=(jr (x:=N*ti a b p+((b.1-a.1)*δ.2-(b.2-a.2)*δ.1)) (show 0<N by omega)).1.2 h2
 rw[<-wA] at hs;refine⟨?_,fun hb=>by have:=hb.1; omega⟩
 unfold wi;obtain⟨l1,l2,l3,l4⟩:=hl N h1
 by_cases k:a.2<=p.2/\p.2<b.2/\0<ti a b p
 rw[UG,R7 k]
 rw[UF,UF,R6 k,UF]
def Jc{a b p:I2}{K:Int}(hab:a≠b)(h:cF a b p)(hK:b.1-a.1<K/\a.1-b.1<K):Lg fun N=>wi (dE N a) (dE N b) (ud (K,1) (dE N p))=wi a b p/\¬cF (dE N a) (dE N b) (ud (K,1) (dE N p)):=by
 refine(Lg.ge 2).imp fun N hN=>?_;have e:=wA N a b p (K,1);rw[h.1] at e
 dsimp only at e
 have e':ti (dE N a) (dE N b) (ud (K,1) (dE N p))=N*((b.1-a.1)-(b.2-a.2)*K):=by rw[e]; grind
 rw[xC h.1];have hl1:=Qn (x:=a.2) (y:=p.2) (show(0:Int)<=1 by omega) (show 1<N by omega)
 have hl2:=Qn (x:=b.2) (y:=p.2) (show(0:Int)<=1 by omega) (show 1<N by omega)
 have s:=jr (x:=(b.1-a.1)-(b.2-a.2)*K) (show 0<N by omega)
 rw[<-e'] at s;rcases Int.lt_trichotomy (b.2-a.2) 0 with g|g|g
 have:(b.2-a.2)*K<=-1*K:=Tk (by omega) (by omega)
 refine⟨?_,fun hb=>by have:=hb.1; omega⟩
 unfold wi;rw[R6 (by unfold dE ud; dsimp only; omega),UF]
 rw[g,Int.zero_mul] at s;have hne:b.1-a.1≠0:=fun k=>hab (S5 (by omega) (by omega))
 refine⟨?_,fun hb=>by have:=hb.1; omega⟩
 unfold wi;rw[R6 (by unfold dE ud; dsimp only; omega),R6 (by unfold dE ud; dsimp only; omega)]
 have:1*K<=(b.2-a.2)*K:=Tk (by omega) (by omega)
 refine⟨?_,fun hb=>by have:=hb.1; omega⟩
 unfold wi;rw[UF,R6 (by unfold dE ud; dsimp only; omega)]
def Sg(r:List I2)(s:Int):Prop:=∀N:Int,0<N->∀q:I2,(∀i,i<r.length->¬cF (dE N (nx r i)) (dE N (nx r (i+1))) q)->fJ (r.map (dE N)) q=0\/fJ (r.map (dE N)) q=s
section
variable{r:List I2}{s:Int}
def VR.ne_nil(h:VR r):r≠[]:=fun e=>by have:=h.n3; rw[e] at this; simp at this
def Sg.MZ(h:VR r)(g:Sg r s)(p:I2):fJ r p=0\/fJ r p=s:=by
 obtain⟨K,_,hK⟩:=(Lg.all (n:=r.length) (P:=fun i K=>(nx r (i+1)).1-(nx r i).1<K/\(nx r i).1-(nx r (i+1)).1<K) fun i _ =>
  (Lg.ge (max ((nx r (i+1)).1-(nx r i).1) ((nx r i).1-(nx r (i+1)).1)+1)).imp fun K h=>by omega).get
 obtain⟨N,hN,hP⟩:=(Lg.all (n:=r.length) (P:=fun i N=>wi (dE N (nx r i)) (dE N (nx r (i+1))) (ud (K,1) (dE N p))=wi (nx r i) (nx r (i+1)) p/\¬cF (dE N (nx r i)) (dE N (nx r (i+1))) (ud (K,1) (dE N p))) fun i hi=>by
  by_cases hb:cF (nx r i) (nx r (i+1)) p
  exact Jc (h.still i) hb (hK i hi)
  exact F4 hb (show(0:Int)<=1 by decide)).get
 have e:fJ (r.map (dE N)) (ud (K,1) (dE N p))=fJ r p:=by
  unfold fJ;rw[Sz];exact aX fun i hi=>by rw[dI _ h.ne_nil,dI _ h.ne_nil]; exact(hP i hi).1
 rw[<-e];exact g N hN _ fun i hi=>(hP i hi).2
def Qe(p v:I2):up p v=0\/up p v=1:=by unfold up; split<;>simp
def KQ:Chg pY 1 1 where
 inj h:=by unfold pY at h; have h1:=SK Prod.fst h; have h2:=SK Prod.snd h; dsimp only at h1 h2; exact S5 (by omega) (by omega)
 ti a b c:=by rw[Bi]; omega
 di a b c:=by unfold di pY; grind
 kp:=by decide
 dp:=by decide
 btw:=Cb
def CV(p:I2):pY (pY p)=p:=by unfold pY; simp
def vL(N:Int)(p:I2):dE N (pY p)=pY (dE N p):=by unfold dE pY; simp[Int.neg_mul]
def Sg.refl(h:r≠[])(g:Sg r s):Sg (r.map Jd.pY) s:=by
 intro N hN q hq;rw[Sz] at hq;have hne:r.map (dE N)≠[]:=by simpa using h
 have e:(r.map Jd.pY).map (dE N)=(r.map (dE N)).map Jd.pY:=by
  rw[List.map_map,List.map_map];exact List.map_congr_left fun p _=>vL N p
 have hq':∀i,i<r.length->¬cF (dE N (nx r i)) (dE N (nx r (i+1))) (Jd.pY q):=fun i hi hb=>by
  have:=hq i hi;rw[dI _ h,dI _ h,vL,vL,<-CV q] at this;exact this (Cb.2 hb)
 rw[e,<-CV q,zm hne,F1 (fun i hi=>by
  rw[Sz] at hi;rw[dI _ h,dI _ h]; exact hq' i hi)]
 exact g N hN _ hq'
def Sg.K7(h:VR r)(g:Sg r s)(p:I2):oc r p=0\/oc r p=s:=by
 rw[<-zm h.ne_nil];exact(g.refl h.ne_nil).MZ (KQ.vr h) _
end
def pZ(n m:Nat)(f:Nat->Nat->Int):bD n (fun i=>bD m fun j=>f i j)=bD m fun j=>bD n fun i=>f i j:=by
 induction n with
 | zero=>simp only[bD]; exact(cC fun _ _=>rfl).symm
 | succ n ih=>simp only[bD]; rw[jm,ih]
def zl(n m:Nat)(f:Nat->Int):bD (n+m) f=bD n f+bD m fun i=>f (n+i):=by
 induction m with
 | zero=>simp[bD]
 | succ m ih=>rw[<-Nat.add_assoc]; simp only[bD]; rw[ih]; omega
def oI(n:Nat)(c:Int):bD n (fun _=>c)=n*c:=by
 induction n with
 | zero=>simp[bD]
 | succ n ih=>simp only[bD]; rw[ih]; grind
def tJ(n:Nat)(f:Nat->Int):bD n (fun i=>-f i) = -bD n f:=by
 have:=j9 n (fun _=>0) f;rw[cC (f:=fun _=>(0:Int)) fun _ _=>rfl] at this;rw[<-Int.zero_sub (bD n f),<-this];exact aX fun i _=>by omega
def jK{B lo hi:Int}{H:Nat}(F:Int->Int)(h1:B<=lo)(h2:lo<=hi)(h3:hi<=B+H) :
  bD H (fun j=>if lo<=B+j/\B+j<hi then F (B+j) else 0)=bD (hi-lo).toNat fun k=>F (lo+k):=by
 obtain⟨n,hn⟩:∃n:Nat,lo=B+n:=⟨(lo-B).toNat,by omega⟩
 obtain⟨m,hm⟩:∃m:Nat,hi=lo+m:=⟨(hi-lo).toNat,by omega⟩
 obtain⟨k,hk⟩:∃k:Nat,H=n+m+k:=⟨H-n-m,by omega⟩
 subst hk;rw[zl,zl,cC (n:=n) fun i hi=>UF,cC (n:=k) fun i hi=>UF,show(hi-lo).toNat=m by omega,Int.zero_add,Int.add_zero]
 exact aX fun i hi=>by rw[UG]; congr 1; omega
def count_le{L q:Int}{W:Nat}(h1:L-1<=q)(h2:q<L+W):bD W (fun i=>if L+i<=q then 1 else 0)=q-L+1:=by
 have:=jK (B:=L) (lo:=L) (hi:=q+1) (H:=W) (fun _=>1) (by omega) (by omega) (by omega)
 rw[oI] at this;rw[aX (g:=fun j=>if L<=L+j/\L+j<q+1 then(1:Int) else 0) fun i _=>?_,this]
 omega
 by_cases h:L+(i:Int)<=q
 rw[R7 h,UG]
 rw[R6 h,UF]
def Ff{L q:Int}{W:Nat}(h1:L<=q)(h2:q<=L+W):bD W (fun i=>if q<=L+i then 1 else 0)=L+W-q:=by
 have:=jK (B:=L) (lo:=q) (hi:=L+W) (H:=W) (fun _=>1) (by omega) (by omega) (by omega)
 rw[oI] at this;rw[aX (g:=fun j=>if q<=L+j/\L+j<L+W then(1:Int) else 0) fun i _=>?_,this]
 omega
 by_cases h:q<=L+(i:Int)
 rw[R7 h,UG]
 rw[R6 h,UF]
def bx(L B:Int)(W H:Nat)(f:I2->Int):Int:=bD W fun i=>bD H fun j=>f (L+i,B+j)
structure Inb(L B:Int)(W H:Nat)(p:I2):Prop where
 x1:L<=p.1
 x2:p.1<L+W
 y1:B<=p.2
 y2:p.2<B+H
section
variable{L B:Int}{W H:Nat}
def zQ{f g:I2->Int}(h:∀p,Inb L B W H p->f p=g p):bx L B W H f=bx L B W H g :=
 aX fun i hi=>aX fun j hj=>h _ ⟨by dsimp only; omega,by dsimp only; omega,by dsimp only; omega,by dsimp only; omega⟩
def Nf(f g:I2->Int):bx L B W H (fun p=>f p+g p)=bx L B W H f+bx L B W H g:=by
 unfold bx;rw[<-jm];exact aX fun i _=>jm _ _ _
def Gk(f:I2->Int):bx L B W H (fun p=>-f p) = -bx L B W H f:=by
 unfold bx;rw[<-tJ];exact aX fun i _=>tJ _ _
def MP(c:Int)(f:I2->Int):bx L B W H (fun p=>c*f p)=c*bx L B W H f:=by
 unfold bx;rw[<-rT];exact aX fun i _=>rT _ _ _
def Mv(n:Nat)(f:Nat->I2->Int):bx L B W H (fun p=>bD n fun k=>f k p)=bD n fun k=>bx L B W H (f k):=by
 unfold bx;rw[pZ n W];exact aX fun i _=>pZ _ _ _
def Ny{v:I2}(h:Inb L B W H v):bx L B W H (fun p=>if p=v then 1 else 0)=1:=by
 obtain⟨a,b,c,d⟩:=h;unfold bx;rw[pB (k:=(v.1-L).toNat) (by omega) fun i hi hne=>cC fun j hj=>R6 fun e=>hne (by have:=SK Prod.fst e; dsimp only at this; omega)]
 rw[pB (k:=(v.2-B).toNat) (by omega) fun j hj hne=>R6 fun e=>hne (by have:=SK Prod.snd e; dsimp only at this; omega)]
 exact R7 (S5 (by dsimp only; omega) (by dsimp only; omega))
def NC{D c:Int}(hD:0<D):∃q:Int,D*q<c/\c<=D*(q+1):=by
 refine⟨(c-1)/D,?_,?_⟩
 have:=Int.mul_ediv_self_le (x:=c-1) (k:=D) (by omega)
 omega
 have:=Int.lt_mul_ediv_self_add (x:=c-1) (k:=D) hD;rw[Int.mul_add];omega
def vG{D x y:Int}(hD:0<D):D*x<D*y↔x<y:=⟨fun h=>Int.lt_of_mul_lt_mul_left h (Int.le_of_lt hD),fun h=>Int.mul_lt_mul_of_pos_left h hD⟩
def iN{D x y:Int}(hD:0<D):D*x<=D*y↔x<=y:=⟨fun h=>Int.le_of_mul_le_mul_left h hD,fun h=>TA h (Int.le_of_lt hD)⟩
def B6{a b:I2}(ha:Inb L B W H a)(hb:Inb L B W H b)(h:a.2<b.2):bx L B W H (fun p=>wi a b p+wj a b p)=(b.2-a.2)*(a.1+b.1-(2*L+W-1)):=by
 obtain⟨ax1,ax2,ay1,ay2⟩:=ha;obtain⟨bx1,bx2,by1,by2⟩:=hb;have hD:0<b.2-a.2:=by omega
 let c:Int->Int:=fun y=>(b.1-a.1)*(y-a.2)+(b.2-a.2)*a.1
 have hti:∀x y:Int,ti a b (x,y)=c y-(b.2-a.2)*x:=fun x y=>by show _=(b.1-a.1)*(y-a.2)+(b.2-a.2)*a.1-(b.2-a.2)*x; unfold ti; grind
 have hcr:∀y,c y+c (a.2+b.2-y)=(b.2-a.2)*(a.1+b.1):=fun y=>by show(b.1-a.1)*(y-a.2)+(b.2-a.2)*a.1+((b.1-a.1)*(a.2+b.2-y-a.2)+(b.2-a.2)*a.1)=_; grind
 have hlo:∀y,a.2<=y->y<=b.2->(b.2-a.2)*L<=c y:=fun y h1 h2=>by
  have e:c y=(b.2-y)*a.1+(y-a.2)*b.1:=by show(b.1-a.1)*(y-a.2)+(b.2-a.2)*a.1=_; grind
  have e1:=TA ax1 (show 0<=b.2-y by omega)
  have e2:=TA bx1 (show 0<=y-a.2 by omega)
  have e3:(b.2-a.2)*L=(b.2-y)*L+(y-a.2)*L:=by grind
  omega
 have hhi:∀y,a.2<=y->y<=b.2->c y<=(b.2-a.2)*(L+W-1):=fun y h1 h2=>by
  have e:c y=(b.2-y)*a.1+(y-a.2)*b.1:=by show(b.1-a.1)*(y-a.2)+(b.2-a.2)*a.1=_; grind
  have e1:=TA (show a.1<=L+W-1 by omega) (show 0<=b.2-y by omega)
  have e2:=TA (show b.1<=L+W-1 by omega) (show 0<=y-a.2 by omega)
  have e3:(b.2-a.2)*(L+W-1)=(b.2-y)*(L+W-1)+(y-a.2)*(L+W-1):=by grind
  omega
 have hS:a.1+b.1=a.1+b.1:=rfl
 let F:Int->Int:=fun y=>bD W fun i=>if 0<ti a b (L+i,y) then 1 else 0
 let G:Int->Int:=fun y=>bD W fun i=>if ti a b (L+i,y)<0 then 1 else 0
 have hFG:∀y,a.2<=y->y<b.2->F y-G (a.2+b.2-y)=a.1+b.1-(2*L+W-1):=fun y h1 h2=>by
  obtain⟨q,q1,q2⟩:=NC (c:=c y) hD;have l1:=hlo y h1 (by omega)
  have l2:=hhi y h1 (by omega)
  have l3:=hlo (a.2+b.2-y) (by omega) (by omega)
  have l4:=hhi (a.2+b.2-y) (by omega) (by omega)
  have hc:=hcr y;have g1:L<=q+1:=(iN hD).1 (Int.le_trans l1 q2);have g2:q<L+W-1:=(vG hD).1 (Int.lt_of_lt_of_le q1 l2);have d1:(b.2-a.2)*(a.1+b.1-q)=(b.2-a.2)*(a.1+b.1)-(b.2-a.2)*q:=by grind
  have d2:(b.2-a.2)*(a.1+b.1-(q+1))=(b.2-a.2)*(a.1+b.1)-(b.2-a.2)*(q+1):=by grind
  have g3:L<a.1+b.1-q:=(vG hD).1 (by omega)
  have g4:a.1+b.1-(q+1)<=L+W-1:=(iN hD).1 (by omega)
  have eF:F y=q-L+1:=by
   rw[<-count_le (L:=L) (q:=q) (W:=W) (by omega) (by omega)]
   refine aX fun i _=>?_;rw[hti]
   by_cases k:L+(i:Int)<=q
   have:=(iN hD).2 k;rw[R7 k,UG]
   have:=(iN hD).2 (show q+1<=L+(i:Int) by omega)
   rw[R6 k,UF]
  have eG:G (a.2+b.2-y)=L+W-(a.1+b.1-q):=by
   rw[<-Ff (L:=L) (q:=a.1+b.1-q) (W:=W) (by omega) (by omega)]
   refine aX fun i _=>?_;rw[hti]
   by_cases k:a.1+b.1-q<=L+(i:Int)
   have:=(iN hD).2 k;rw[R7 k,UG]
   have:=(iN hD).2 (show L+(i:Int)<=a.1+b.1-(q+1) by omega)
   rw[R6 k,UF]
  rw[eF,eG]; omega
 have e:bx L B W H (fun p=>wi a b p+wj a b p)=bD H (fun j=>if a.2<=B+j/\B+j<b.2 then F (B+j) else 0)-bD H (fun j=>if a.2+1<=B+j/\B+j<b.2+1 then G (B+j) else 0):=by
  unfold bx;rw[pZ,<-j9];refine aX fun j _=>?_;rw[jm];have e1:bD W (fun i=>wi a b (L+i,B+j))=if a.2<=B+j/\B+j<b.2 then F (B+j) else 0:=by
   by_cases k:a.2<=B+(j:Int)/\B+(j:Int)<b.2
   rw[R7 k];refine aX fun i _=>?_;unfold wi
   dsimp only
   by_cases k2:0<ti a b (L+i,B+j)
   rw[UG,R7 k2]
   rw[UF,UF,R6 k2]
   rw[R6 k];refine cC fun i _=>?_;unfold wi
   dsimp only
   rw[UF,UF]
  have e2:bD W (fun i=>wj a b (L+i,B+j)) = -(if a.2+1<=B+j/\B+j<b.2+1 then G (B+j) else 0):=by
   by_cases k:a.2+1<=B+(j:Int)/\B+(j:Int)<b.2+1
   rw[R7 k]
   show _ = -bD W fun i=>if ti a b (L+i,B+j)<0 then 1 else 0
   rw[<-tJ];refine aX fun i _=>?_;unfold wj
   dsimp only
   by_cases k2:ti a b (L+i,B+j)<0
   rw[UG,R7 k2]
   rw[UF,UF,R6 k2]; rfl
   rw[R6 k];refine cC fun i _=>?_;unfold wj
   dsimp only
   rw[UF,UF]
  rw[e1,e2]; omega
 rw[e,jK F ay1 (by omega) (by omega),jK G (by omega) (by omega) (by omega),show b.2+1-(a.2+1)=b.2-a.2 by omega]
 obtain⟨D,hDn⟩:∃D:Nat,b.2=a.2+D:=⟨(b.2-a.2).toNat,by omega⟩
 rw[show(b.2-a.2).toNat=D by omega,<-EE D fun k=>G (a.2+1+k),<-j9]
 rw[aX (g:=fun _=>a.1+b.1-(2*L+W-1)) fun k hk=>?_,oI]
 rw[show b.2-a.2=(D:Int) by omega]
 have:=hFG (a.2+k) (by omega) (by omega)
 rw[<-this]
 congr 2
 omega
def Kt(a b p:I2):wj b a p = -wj a b p:=by rw[<-AM,<-AM,Cu]
def Io{a b:I2}(ha:Inb L B W H a)(hb:Inb L B W H b):bx L B W H (fun p=>wi a b p+wj a b p)=(b.2-a.2)*(a.1+b.1-(2*L+W-1)):=by
 rcases Int.lt_trichotomy a.2 b.2 with h|h|h
 exact B6 ha hb h
 rw[h,Int.sub_self,Int.zero_mul];refine cC fun i _=>cC fun j _=>?_;unfold wi wj
 dsimp only
 rw[UF,UF,UF,UF]; rfl
 have:=B6 hb ha h;have e:bx L B W H (fun p=>wi a b p+wj a b p) = -bx L B W H (fun p=>wi b a p+wj b a p):=by
  rw[<-Gk];exact zQ fun p _=>by rw[Cu a b,Kt a b]; omega
 rw[e,this]; grind
def GQ{r:List I2}(h:∀i,Inb L B W H (nx r i)):bx L B W H (fun p=>fJ r p+oc r p)=qE r:=by
 have e:bx L B W H (fun p=>fJ r p+oc r p)=bD r.length fun i=>bx L B W H fun p=>wi (nx r i) (nx r (i+1)) p+wj (nx r i) (nx r (i+1)) p:=by
  rw[<-Mv];exact zQ fun p _=>(jm _ _ _).symm
 rw[e,aX fun i _=>Io (h i) (h (i+1))];have t:=sO r.length fun i=>(nx r i).1*(nx r i).2-(2*L+W-1)*(nx r i).2;rw[wW,Int.sub_self] at t;have t2:=jm r.length (fun i=>(nx r i).1*(nx r (i+1)).2-(nx r i).2*(nx r (i+1)).1) fun i=>((nx r (i+1)).1*(nx r (i+1)).2-(2*L+W-1)*(nx r (i+1)).2)-((nx r i).1*(nx r i).2-(2*L+W-1)*(nx r i).2);rw[t,Int.add_zero] at t2;unfold qE;rw[<-t2];exact aX fun i _=>by grind
end
structure Steps(a b:I2)(g:Nat)(u w s t:Int):Prop where
 g0:0<g
 x:b.1-a.1=g*u
 y:b.2-a.2=g*w
 one:s*u+t*w=1
section
variable{a b:I2}{g:Nat}{u w s t:Int}
end
section
variable{L B:Int}{W H:Nat}
def Inb.Ad{a b p:I2}(ha:Inb L B W H a)(hb:Inb L B W H b)(h:cF a b p):Inb L B W H p:=by
 obtain⟨_,h1,h2,h3,h4⟩:=h;obtain⟨a1,a2,a3,a4⟩:=ha;obtain⟨b1,b2,b3,b4⟩:=hb;exact⟨by omega,by omega,by omega,by omega⟩
end
def Ng{a b p:I2}(h:cF a b p)(ha:p≠a)(hb:p≠b):up p a+up p b=1:=by
 obtain⟨h0,h1,h2,h3,h4⟩:=h;have ha':¬(p.1=a.1/\p.2=a.2):=fun k=>ha (S5 k.1 k.2);have hb':¬(p.1=b.1/\p.2=b.2):=fun k=>hb (S5 k.1 k.2)
 by_cases e1:a.2=p.2
 by_cases e2:b.2=p.2
 unfold up
 by_cases k:a.1<p.1
 rw[UG,UF]; rfl
 rw[UF,UG]; rfl
 rw[sB e1] at h0;rcases S7.1 h0 with k|k<;>omega
 by_cases e2:b.2=p.2
 rw[uT e2] at h0;rcases S7.1 h0 with k|k<;>omega
 unfold up
 by_cases k:p.2<a.2
 rw[UG,UF]; rfl
 rw[UF,UG]; rfl
section
variable{r:List I2}
def CU{n:Nat}{f:Nat->Int}(h:∀i,i<n->f i<=0):bD n f<=0:=by
 induction n with
 | zero=>simp[bD]
 | succ n ih =>
  have h1:=ih fun i hi=>h i (by omega)
  have h2:=h n (by omega)
  simp only[bD]; omega
end
def VR.ND{r:List I2}(h:VR r):qE r≠0:=by
 intro h0;have hne:r≠[]:=h.ne_nil;have h2:VR (r.map (dE 2)):=(CJ (s:=2) (by decide)).vr h
 have hl:(r.map (dE 2)).length=r.length:=Sz _;obtain⟨s,hs,g⟩:=h2.sign;have g:Sg (r.map (dE 2)) s:=g;have ea:∀i,nx (r.map (dE 2)) i=dE 2 (nx r i):=dI _ hne;have har:qE (r.map (dE 2))=0:=by
  unfold qE at h0 ⊢;rw[hl,aX (g:=fun i=>4*((nx r i).1*(nx r (i+1)).2-(nx r i).2*(nx r (i+1)).1)) fun i _=>by rw[ea,ea]; unfold dE; grind]
  rw[rT,h0,Int.mul_zero]
 generalize hr2:r.map (dE 2)=r2 at *;obtain⟨p,hp,hpa,hpb⟩:∃p,cF (nx r2 0) (nx r2 (0+1)) p/\p≠nx r2 0/\p≠nx r2 (0+1):=by
  refine⟨((nx r 0).1+(nx r (0+1)).1,(nx r 0).2+(nx r (0+1)).2),?_,?_,?_⟩
  rw[ea,ea];unfold cF ti dE;refine⟨by grind,?_⟩
  dsimp only
  omega
  rw[ea];intro e;have e1:=SK Prod.fst e;have e2:=SK Prod.snd e;unfold dE at e1 e2
  dsimp only at e1 e2
  exact h.still 0 (S5 (by omega) (by omega))
  rw[ea];intro e;have e1:=SK Prod.fst e;have e2:=SK Prod.snd e;unfold dE at e1 e2
  dsimp only at e1 e2
  exact h.still 0 (S5 (by omega) (by omega))
 have h3:=h2.n3;have hk:∀k,p≠nx r2 k:=by
  intro k e;have hm:k%r2.length<r2.length:=S6 _ (by omega)
  have e':p=nx r2 (k%r2.length):=by rw[e]; exact om r2 (Nat.mod_mod _ _).symm
  rw[e'] at hp hpa hpb;rcases h2.wx hm (by omega) hp with c|c
  exact hpa (by rw[<-c])
  have:=LG hm;rw[<-c] at this;exact hpb this.symm
 have hd:=CQ r2 p;rw[pB (k:=0) (by omega) fun j hj hne=>by unfold Mm; exact R6 fun c=>hne (h2.AV hj (by omega) hk c hp)] at hd
 unfold Mm at hd;rw[R7 hp] at hd;have hu:=Ng hp (hk _) (hk _);have a1:=Qe p (nx r2 0);have w1:=g.MZ h2 p;have w2:=g.K7 h2 p;obtain⟨K,K0,hK⟩:=(Lg.all (n:=r2.length) (P:=fun i K=>-K<(nx r2 i).1/\(nx r2 i).1<K/\-K<(nx r2 i).2/\(nx r2 i).2<K) fun i _ =>
  (Lg.ge (max (max (nx r2 i).1 (-(nx r2 i).1)) (max (nx r2 i).2 (-(nx r2 i).2))+1)).imp fun K h=>by omega).get
 have hb:∀i,Inb (-K) (-K) (2*K).toNat (2*K).toNat (nx r2 i):=fun i=>by
  have:=hK (i%r2.length) (S6 _ (by omega))
  rw[om r2 (Nat.mod_mod i r2.length)] at this;exact⟨by omega,by omega,by omega,by omega⟩
 have e:=GQ hb;rw[har] at e;have hle:bx (-K) (-K) (2*K).toNat (2*K).toNat (fun q=>(if q=p then 1 else 0) + -(s*(Jd.fJ r2 q+oc r2 q)))<=0:=CU fun i _=>CU fun j _=>by
  have a:=g.MZ h2 (-K+i,-K+j);have b:=g.K7 h2 (-K+i,-K+j)
  dsimp only
  split
  rename_i c;rw[c];rcases hs with rfl|rfl<;>omega
  rcases hs with rfl|rfl<;>omega
 rw[Nf (fun q=>if q=p then 1 else 0),Ny ((hb 0).Ad (hb (0+1)) hp),Gk,MP,e] at hle
 omega
end Jd
namespace Go.Proofs.YtmndpgfbkicndaaGreat
section
open Go Go.Ab Go.Ab.W Go.Ab.B Jd
structure Fcs(pts:List I2)(F:List Fc):Prop where
 len:3<=pts.length/\pts.length<=120
 flen:1<=F.length/\F.length<=64
 near:df pts
 one:∀i,i<pts.length->nx pts i∉pts.take i
 ok:Oj pts F
 va:∀f∈F,Mu pts f=true
 tu:∀f∈F,N6 pts f=true
def oz{p:Fc->Bool}{F:List Fc}(h:bt (fw p F) (.inr ()) F.length 0=.inr ()):∀f∈F,p f=true:=by
 intro f hf;obtain⟨j,hj,e⟩:=SG.1 hf;have:=jZ (f:=fw p F) (fun j r hr=>by
  unfold fw at hr
  split at hr
  split at hr
  cases hr
  cases hr; intro c; cases c
  cases hr) h j hj
 unfold fw at this;rw[R5 hj,e] at this
 dsimp only at this
 refine R8 fun hc=>?_;rw[R6 hc] at this; cases this
def FW{f:Nat->Option (Int⊕Unit)}(hf:∀j r,f j=some (.inl r)->0<=r){k:Nat}{v:Int}(h:bt f (.inr ()) k 0=.inl v):0<=v:=by
 rcases bW (f:=f) (e:=.inr ()) k 0 with⟨h1,h2⟩|⟨j,_,h2,h3⟩
 rw[h2] at h; cases h
 rw[h] at h3; exact hf j v h3
def pV{p:Fc->Bool}{F:List Fc}{v:Int}(h:bt (fw p F) (.inr ()) F.length 0=.inl v):0<=v:=FW (fun j r hr=>by
 unfold fw at hr
 split at hr
 split at hr
 cases hr
 have:=R9 hr;have:=Sum.inl.inj this;omega
 cases hr) h
def KR{pts:List I2}(h0:0<pts.length)(h:bt (jD pts) (.inr ()) pts.length 0=.inr ()):df pts:=by
 intro q hq;obtain⟨j,hj,e⟩:=SG.1 hq;have:=wS h0 h j;unfold nx at this;rw[TL hj,Sb,R5 hj,e] at this;exact this
def Pm{pts:List I2}{f:Fc}(h:Mu pts f=true):∀r∈f.1::f.2,qE (db pts r 1)≠0:=fun r hr =>
 VR.ND (rh.1 (of_decide_eq_true (Si.1 h r hr))).vr
def K2{pts:List I2}(h:bt (lP pts) (.inr ()) pts.length 0=.inr ()):∀i,i<pts.length->nx pts i∉pts.take i:=fun i hi hc=>by
 have:=jZ (f:=lP pts) (fun j r hr=>by
  unfold lP at hr
  split at hr
  cases hr; intro c; cases c
  cases hr) h i hi
 unfold lP at this;rw[R7 hc] at this; cases this
abbrev Ed:=Us
def acc{α:Type}(g:Nat->List α):Nat->List α
 | 0=>[]
 | k+1=>acc g k++g k
def fI{α:Type}{g:Nat->List α}{b:Nat}:∀{k:Nat},(∀i,i<k->(g i).length<=b)->(acc g k).length<=k*b
 | 0,_=>by simp[acc]
 | k+1,h=>by
  have h1:=fI (k:=k) fun i hi=>h i (by omega)
  have h2:=h k (by omega)
  rw[acc,Sk,TJ]; omega
def wh{α ρ:Type}{B:(List α×Int)->Option ((List α×Int)⊕ρ)}{len:Nat}{g:Nat->List α}{out:List α->ρ}{d:List α}
  (hB:∀i,i<len->B (d++acc g i,(i:Int))=some (.inl (d++acc g i++g i,((i+1:Nat):Int)))) (hE:B (d++acc g len,(len:Int))=some (.inr (out (d++acc g len)))) :
  ∀(k i n:Nat),i+k=len->k<n->bh B n (d++acc g i,(i:Int))=some (out (d++acc g len))
 | 0,i,n+1,h,_=>by
  rw[Tn] at h; subst h;exact eE hE
 | k+1,i,n+1,h,hn=>by
  rw[eO (hB i (by omega)),SZ]
  exact wh hB hE k (i+1) n (by omega) (by omega)
def gh(l:List Int)(f r i:Nat):Ed:=(l.getD i 0,l.getD ((i+1)%l.length) 0,(f:Int),(r:Int))
def rE(l:List Int)(f r:Nat):List Ed:=acc (fun i=>[gh l f r i]) l.length
def fE(rs:Uu)(f:Nat):List Ed:=acc (fun r=>rE (rs.getD r []) f r) rs.length
def ak(F:List Fc)(f:Nat):Uu:=(F.getD f ([],[])).1::(F.getD f ([],[])).2
def sE(F:List Fc):List Ed:=acc (fun f=>fE (ak F f) f) F.length
def tZ{l:List Int}{f r:Nat}:(rE l f r).length<=l.length:=by
 have:=fI (g:=fun i=>[gh l f r i]) (b:=1) (k:=l.length) fun i _=>by simp
 unfold rE; omega
section
variable{pts:List I2}{F:List Fc}(n:Nat)
def DE{rs:Uu}{f r:Nat}(hr:r<rs.length){d:List Ed}(hd:d.length<=100000)(h40:(rs.getD r []).length<=40)(hn:1000<n) :
  bh (qh n (r:Int) rs (f:Int)) n (d,0)=some (d++rE (rs.getD r []) f r):=by
 have hx:rs[r]? = some (rs.getD r []):=by rw[Sb,R5 hr]; rfl
 generalize rs.getD r []=l at *;have:=wh (B:=qh n (r:Int) rs (f:Int)) (len:=l.length) (g:=fun i=>[gh l f r i]) (out:=id) (d:=d) (fun i hi=>by
  have hi2:(i+1)%l.length<l.length:=S6 _ (by omega)
  have ha:=fI (g:=fun i=>[gh l f r i]) (b:=1) (k:=i) fun i _=>by simp
  have e1:l[((i:Nat):Int).toNat]? = some (l.getD i 0):=by rw[Sv,Sb,R5 hi]; rfl
  have e2:l[(((i+1)%l.length:Nat):Int).toNat]? = some (l.getD ((i+1)%l.length) 0):=by rw[Sv,Sb,R5 hi2]; rfl
  unfold qh
  try dsimp only
  simp only[al hr,aJ,aN hx,ah];rw[Vj]
  simp only[al hi,aJ,e1,ah,aj (show i<4611686018427387904 by omega)]
  rw[fj (by omega)]
  simp only[jn,al hi2,aJ,e2,ah];rw[bz (by simp; omega),aJ]
  rfl) (by
  unfold qh
  try dsimp only
  simp only[al hr,aJ,aN hx,ah];rw[Vl]; rfl) l.length 0 n (by omega) (by omega)
 rw[show acc (fun i=>[gh l f r i]) 0=[] from rfl,SP] at this
 exact this
def D0{rs:Uu}{f:Nat}(h9:rs.length<=9){d:List Ed}(hd:d.length<=90000)(h40:∀r,(rs.getD r []).length<=40)(hn:1000<n) :
  bh (qf n rs (f:Int)) n (d,0)=some (d++fE rs f):=by
 have:=wh (B:=qf n rs (f:Int)) (len:=rs.length) (g:=fun r=>rE (rs.getD r []) f r) (out:=id) (d:=d) (fun i hi=>by
  have ha:=fI (g:=fun r=>rE (rs.getD r []) f r) (b:=40) (k:=i) fun i _=>SC tZ (h40 i);unfold qf
  try dsimp only
  rw[Vj,DE n hi (by rw[Sk]; omega) (h40 i) hn,ah,Vm]) (by
  unfold qf
  try dsimp only
  rw[Vl]; rfl) rs.length 0 n (by omega) (by omega)
 rw[show acc (fun r=>rE (rs.getD r []) f r) 0=[] from rfl,SP] at this
 exact this
def KW(hv:Fcs pts F)(hn:1000<n):HM n pts F=some (sE F):=by
 have hf:=hv.flen;have hk:∀i,(ak F i).length<=9/\∀r,((ak F i).getD r []).length<=40:=fun i=>by
  unfold ak
  by_cases hi:i<F.length
  obtain⟨h8,h9⟩:=jJ (hv.ok _ (SB hi));have e:F.getD i ([],[])=F[i]:=by rw[Sb,R5 hi]; rfl
  rw[e];refine⟨by simp; omega,fun r=>?_⟩
  by_cases hr:r<(F[i].1::F[i].2).length
  have:=(dC rfl (h9 _ (SB hr))).2.2;rw[Sb,R5 hr]; exact this
  rw[Sb,SU (by omega)]; simp
  rw[Sb,SU (by omega)]
  refine⟨by simp,fun r=>?_⟩
  cases r<;>simp
 have:=wh (B:=tI n F) (len:=F.length) (g:=fun f=>fE (ak F f) f) (out:=id) (d:=[]) (fun i hi=>by
  have ha:=fI (g:=fun f=>fE (ak F f) f) (b:=360) (k:=i) fun i _=>by
   have h1:=fI (g:=fun r=>rE ((ak F i).getD r []) i r) (b:=40) (k:=(ak F i).length) fun r _=>SC tZ ((hk i).2 r);have h2:=(hk i).1;unfold fE; omega
  have e:F[i]? = some (F.getD i ([],[])):=by rw[Sb,R5 hi]; rfl
  have h3:=(hk i).1;unfold tI
  try dsimp only
  rw[Vj,al hi,aJ,aN e,ah]
  try dsimp only
  rw[mz n _ _ (by unfold ak at h3; rw[SJ] at h3; omega),ah,show((F.getD i ([],[])).1::(F.getD i ([],[])).2)=ak F i from rfl,D0 n (hk i).1 (by rw[Tw]; omega) (hk i).2 hn,ah,Vm]) (by
  unfold tI
  try dsimp only
  rw[Vl]; rfl) F.length 0 n (by omega) (by omega)
 rw[show acc (fun f=>fE (ak F f) f) 0=[] from rfl,SP] at this
 unfold HM;rw[show(([]:List Ed),(0:Int))=([],((0:Nat):Int)) from rfl,this,ah]
 rfl
end
def xi(pts:List I2)(e:Ed):Prop:=(0<=e.1/\e.1<pts.length)/\(0<=e.2.1/\e.2.1<pts.length)/\iF pts e.1≠iF pts e.2.1
def Aq(e f:Ed):Bool:=(decide (e.1=f.1)&&decide (e.2.1=f.2.1)) ||(decide (e.1=f.2.1)&&decide (e.2.1=f.1))
noncomputable def ju (pts:List I2) (e f:Ed):Bool :=
 if Aq e f then false
 else if uv (iF pts e.1) (iF pts e.2.1) (iF pts f.1) (iF pts f.2.1)=1 then !decide (e.1=f.1) &&(!decide (e.1=f.2.1) &&(!decide (e.2.1=f.1) && !decide (e.2.1=f.2.1)))
 else !decide (uv (iF pts e.1) (iF pts e.2.1) (iF pts f.1) (iF pts f.2.1)=0)
def B4(e f:Ed):(br (decide (e.1=f.1)) (br (decide (e.2.1=f.2.1)) (some true) (br (decide (e.1=f.2.1)) (some (decide (e.2.1=f.1))) (some false))) (br (decide (e.1=f.2.1)) (some (decide (e.2.1=f.1))) (some false)))=some (Aq e f):=by
 unfold Aq;cases decide (e.1=f.1)<;>cases decide (e.2.1=f.2.1)<;>cases decide (e.1=f.2.1)<;>cases decide (e.2.1=f.1)<;>rfl
def pf{pts:List I2}{i:Int}(h:0<=i/\i<pts.length):bw i pts.length=true:=Sd ⟨h.1,by omega⟩
def BX(e f:Ed):(br (!decide (e.1=f.1)) (br (!decide (e.1=f.2.1)) (br (!decide (e.2.1=f.1)) (some (!decide (e.2.1=f.2.1))) (some false)) (some false)) (some false))=some (!decide (e.1=f.1) &&(!decide (e.1=f.2.1) &&(!decide (e.2.1=f.1) && !decide (e.2.1=f.2.1)))):=by
 cases decide (e.1=f.1)<;>cases decide (e.1=f.2.1)<;>cases decide (e.2.1=f.1)<;>rfl
section
variable{pts:List I2}{F:List Fc}(n:Nat)
def JO(hb:df pts){e f:Ed}(he:xi pts e)(hf:xi pts f):Fl n pts F e.1 e.2.1 e.2.2.1 e.2.2.2 f.1 f.2.1 f.2.2.1 f.2.2.2=some (ju pts e f):=by
 obtain⟨a1,a2,a3⟩:=he;obtain⟨b1,b2,b3⟩:=hf;unfold Fl ju;rw[B4,ah];cases Aq e f
 ·rw[ek,pf a1,aJ,gX a1,ah]
  try dsimp only
  rw[pf a2,aJ,gX a2,ah]
  try dsimp only
  rw[pf b1,aJ,gX b1,ah]
  try dsimp only
  rw[pf b2,aJ,gX b2,ah]
  try dsimp only
  rw[Ct n (gk hb a1) (gk hb a2) (gk hb b1) (gk hb b2) a3 b3,ah,BX,R6 (by decide)]
  by_cases h:uv (iF pts e.1) (iF pts e.2.1) (iF pts f.1) (iF pts f.2.1)=1
  rw[au h,R7 h]
  rw[aq h,R6 h]
 rfl
def JF(hb:df pts){e f:Ed}(he:xi pts e)(hf:xi pts f)(hn:1000<n):E5 n pts F e.1 e.2.1 e.2.2.1 e.2.2.2 f.1 f.2.1 f.2.2.1 f.2.2.2=some (ju pts e f):=by
 obtain⟨a1,a2,a3⟩:=he;obtain⟨b1,b2,b3⟩:=hf;have i6:∀{p:I2},Nr p->pd p.1/\pd p.2:=fun{p} h=>by
  unfold Nr at h; unfold pd; omega
 have nf:∀{p:I2},Nr p->¬Fa p:=fun{p} h=>by
  unfold Nr at h; unfold Fa; omega
 have c1:=gk hb a1;have c2:=gk hb a2;have c3:=gk hb b1;have c4:=gk hb b2;unfold E5 ju;rw[B4,ah];cases Aq e f
 ·rw[ek,pf a1,aJ,gX a1,ah]
  try dsimp only
  rw[pf a2,aJ,gX a2,ah]
  try dsimp only
  rw[pf b1,aJ,gX b1,ah]
  try dsimp only
  rw[pf b2,aJ,gX b2,ah]
  try dsimp only
  rw[Kc n (i6 c1) (i6 c2) (i6 c3) (i6 c4) (by omega),R6 (by
   rintro(h|h|h|h|h|h)
   exact nf c1 h
   exact nf c2 h
   exact nf c3 h
   exact nf c4 h
   exact a3 h
   exact b3 h),ah]
  try dsimp only
  rw[BX,R6 (by decide)]
  by_cases h:uv (iF pts e.1) (iF pts e.2.1) (iF pts f.1) (iF pts f.2.1)=0
  rw[au h,UF,h]; rfl
  rw[aq h]
  by_cases g:uv (iF pts e.1) (iF pts e.2.1) (iF pts f.1) (iF pts f.2.1)=1
  rw[au g,R7 g]
  rw[aq g,R6 g,Se h]; rfl
 rfl
end
def bY(P:List Ed->Ed->Bool):List Ed->List Ed->Option Int
 | _,[]=>none
 | d,e::es=>if P d e then some e.2.2.1 else bY P (d++[e]) es
def E4:Option Int->Int⊕Unit
 | some v=>.inl v
 | none=>.inr ()
def ki{P:List Ed->Ed->Bool}:∀(a b d:List Ed),bY P d (a++b)=match bY P d a with|some v=>some v|none=>bY P (d++a) b
 | [],b,d=>by simp[bY]
 | e::a,b,d=>by
  rw[Uj,bY,bY]
  by_cases h:P d e=true
  rw[R7 h,R7 h]
  rw[R6 h,R6 h,ki a b (d++[e]),SZ]; rfl
def lS{P:List Ed->Ed->Bool}{E:List Ed}{f:Nat->Option (Int⊕Unit)}(hf:∀i e,E[i]? = some e->f i=if P (E.take i) e then some (.inl e.2.2.1) else none) :
  ∀(k i:Nat),i+k=E.length->bt f (.inr ()) k i=E4 (bY P (E.take i) (E.drop i))
 | 0,i,h=>by
  rw[List.drop_of_length_le (by omega)]; rfl
 | k+1,i,h=>by
  have hi:i<E.length:=by omega
  have hx:=R5 hi;rw[T2 hi,bY];unfold bt;rw[hf i _ hx]
  by_cases g:P (E.take i) E[i]=true
  rw[R7 g,R7 g]; rfl
  rw[R6 g,R6 g];have:=lS hf k (i+1) (by omega)
  rw[this,Ub,hx]; rfl
def zr{α:Type}{r:Int⊕Unit}{E:List α}{i:Nat}(hi:i<=E.length)(q:α->Bool)(f:Nat->Option (Int⊕Unit))(hf:∀j x,j<i->E[j]? = some x->f j=if q x then some r else none) :
  bt f (.inr ()) i 0=if(E.take i).any q then r else .inr ():=by
 rcases bW (f:=f) (e:=.inr ()) i 0 with⟨h1,h2⟩|⟨j,_,h2,h3⟩
 rw[h2,R6];intro h;obtain⟨x,hx,hq⟩:=TX.1 h;obtain⟨j,hj,e⟩:=SG.1 hx;rw[Sm] at hj;rw[List.getElem_take] at e;have:=h1 j (by omega) (by omega)
 rw[hf j x (by omega) (by rw[R5 (by omega),e]),R7 hq] at this
 cases this
 have hj:j<E.length:=by omega
 rw[hf j _ (by omega) (R5 hj)] at h3
 by_cases g:q E[j]=true
 rw[R7 g] at h3;rw[R7 (TX.2 ⟨E[j],SG.2 ⟨j,by rw[Sm]; omega,by rw[List.getElem_take]⟩,g⟩)]
 exact(R9 h3).symm
 rw[R6 g] at h3; cases h3
def uI(d:List Ed)(e:Ed):Bool:=d.any fun x=>decide (e.1=x.1)&&decide (e.2.1=x.2.1)
noncomputable def uc (pts:List I2) (d:List Ed) (e:Ed):Bool:=d.any fun x=>ju pts e x
section
variable{pts:List I2}{F:List Fc}(n:Nat)
def HQ{E:List Ed}(hE:E.length<50000)(hn:99999<n):bh (yB n E) n 0=some (E4 (bY uI [] E)):=by
 have:=lS (P:=uI) (E:=E) (f:=fun i=>match E[i]? with|some e=>if uI (E.take i) e then some (.inl e.2.2.1) else none|none=>none) (fun i e he=>by simp only[he]) E.length 0 (by omega)
 rw[List.take_zero,TC] at this;rw[<-this];refine aY (len:=E.length) (fun i hi=>?_) ?_ E.length 0 n (by omega) (by omega)
 ·have hx:=R5 hi;generalize E[i]=e at hx;have hin:bh (yn n (i:Int) E) n 0=some (if uI (E.take i) e then .inl e.2.2.1 else .inr ()):=by
   unfold uI;rw[<-zr (E:=E) (r:=.inl e.2.2.1) (by omega) _ (fun j=>match E[j]? with|some x=>if(decide (e.1=x.1)&&decide (e.2.1=x.2.1))=true then some (.inl e.2.2.1) else none|none=>none) (fun j x _ hj=>by simp only[hj])]
   refine aY (len:=i) (fun j hj=>?_) ?_ i 0 n (by omega) (by omega)
   ·have hy:=R5 (show j<E.length by omega)
    generalize E[j]=x at hy;unfold yn
    try dsimp only
    rw[Vj]
    simp only[al hi,al (show j<E.length by omega),aJ,aN hx,aN hy,ah,hy,cU,aj (show j<4611686018427387904 by omega)]
    cases(decide (e.1=x.1)&&decide (e.2.1=x.2.1))<;>rfl
   ·unfold yn
    try dsimp only
    rw[Vl]
  unfold yB
  try dsimp only
  rw[Vj,hin,ah,Vm,hx]
  try dsimp only
  cases uI (E.take i) e<;>rfl
 ·unfold yB
  try dsimp only
  rw[Vl]
def Hh(hb:df pts){E:List Ed}(hS:∀e∈E,xi pts e)(hE:E.length<50000)(hn:99999<n):bh (yD n E pts F) n 0=some (E4 (bY (uc pts) [] E)):=by
 have:=lS (P:=uc pts) (E:=E) (f:=fun i=>match E[i]? with|some e=>if uc pts (E.take i) e then some (.inl e.2.2.1) else none|none=>none) (fun i e he=>by simp only[he]) E.length 0 (by omega)
 rw[List.take_zero,TC] at this;rw[<-this];refine aY (len:=E.length) (fun i hi=>?_) ?_ E.length 0 n (by omega) (by omega)
 ·have hx:=R5 hi;generalize E[i]=e at hx;have hin:bh (yC n (i:Int) E pts F) n 0=some (if uc pts (E.take i) e then .inl e.2.2.1 else .inr ()):=by
   unfold uc;rw[<-zr (E:=E) (r:=.inl e.2.2.1) (by omega) _ (fun j=>match E[j]? with|some x=>if ju pts e x=true then some (.inl e.2.2.1) else none|none=>none) (fun j x _ hj=>by simp only[hj])]
   refine aY (len:=i) (fun j hj=>?_) ?_ i 0 n (by omega) (by omega)
   ·have hy:=R5 (show j<E.length by omega)
    generalize E[j]=x at hy;unfold yC
    try dsimp only
    rw[Vj]
    simp only[al hi,al (show j<E.length by omega),aJ,aN hx,aN hy,ah,hy,aj (show j<4611686018427387904 by omega)]
    rw[JO n hb (hS e (Sf hx)) (hS x (Sf hy)),ah];cases ju pts e x<;>rfl
   ·unfold yC
    try dsimp only
    rw[Vl]
  unfold yD
  try dsimp only
  rw[Vj,hin,ah,Vm,hx]
  try dsimp only
  cases uc pts (E.take i) e<;>rfl
 ·unfold yD
  try dsimp only
  rw[Vl]
end
def vQ{P:List Ed->Ed->Bool}{g:Nat->List Ed}{d:List Ed}{v:Int}{i:Nat}(h:bY P d (acc g i)=some v):∀k,bY P d (acc g (i+k))=some v
 | 0=>h
 | k+1=>by
  rw[<-Nat.add_assoc,acc,ki,vQ h k]
def oO{σ τ:Type}{B:(Int×σ)->Option ((Int×σ) ⊕(τ⊕σ))}{len:Nat}{P:List Ed->Ed->Bool}{g:Nat->List Ed}{d:List Ed}(R:List Ed->σ->Prop)(Q:τ->Int->Prop)
  (hB:∀i s,i<len->R (d++acc g i) s->(∃v t,bY P (d++acc g i) (g i)=some v/\B ((i:Int),s)=some (.inr (.inl t))/\Q t v) \/
   (bY P (d++acc g i) (g i)=none/\∃s',B ((i:Int),s)=some (.inl (((i+1:Nat):Int),s'))/\R (d++acc g i++g i) s'))
  (hE:∀s,R (d++acc g len) s->B ((len:Int),s)=some (.inr (.inr s))) :
  ∀(k i n:Nat) (s:σ),i+k=len->k<n->bY P d (acc g i)=none->R (d++acc g i) s ->
   (∃v t,bY P d (acc g len)=some v/\bh B n ((i:Int),s)=some (.inl t)/\Q t v)\/(bY P d (acc g len)=none/\∃s',bh B n ((i:Int),s)=some (.inr s')/\R (d++acc g len) s')
 | 0,i,n+1,s,h,_,h0,hr=>by
  rw[Tn] at h; subst h;exact .inr ⟨h0,s,eE (hE s hr),hr⟩
 | k+1,i,n+1,s,h,hn,h0,hr=>by
  rcases hB i s (by omega) hr with⟨v,t,h1,h2,h3⟩|⟨h1,s',h2,h3⟩
  refine .inl ⟨v,t,?_,eE h2,h3⟩;have:bY P d (acc g (i+1))=some v:=by rw[acc,ki,h0]; exact h1
  have:=vQ this k;rw[show i+1+k=len by omega] at this
  exact this
  rw[eO h2];exact oO R Q hB hE k (i+1) n s' (by omega) (by omega) (by rw[acc,ki,h0]; exact h1) (by rw[acc,<-SZ]; exact h3)
def rm{l:List Int}{i:Nat}(hi:i<l.length):l[((i:Nat):Int).toNat]? = some (l.getD i 0)/\l[(((i+1)%l.length:Nat):Int).toNat]? = some (l.getD ((i+1)%l.length) 0):=by
 have hi2:(i+1)%l.length<l.length:=S6 _ (by omega)
 exact⟨by rw[Sv,Sb,R5 hi]; rfl,by rw[Sv,Sb,R5 hi2]; rfl⟩
def nR(d:List Ed)(m:List ((Int×Int)×Bool)):Prop:=∀p:Int×Int,(fX m p).getD false=d.any fun x=>decide (p.1=x.1)&&decide (p.2=x.2.1)
def DL{d:List Ed}{m:List ((Int×Int)×Bool)}(h:nR d m)(e:Ed):nR (d++[e]) (jP m (e.1,e.2.1) true):=by
 intro p;rw[vi,List.any_append]
 by_cases hp:p=(e.1,e.2.1)
 rw[R7 hp,hp]; simp
 rw[R6 hp,h p];have:(decide (p.1=e.1)&&decide (p.2=e.2.1))=false:=by
  rw[<-SI,Se];exact fun c=>hp (S5 c.1 c.2)
 simp only[List.any_cons,List.any_nil,Bool.or_false,this]
section
variable{pts:List I2}{F:List Fc}(n:Nat)
def E7{l:List Int}{f r:Nat}{d:List Ed}{m:List ((Int×Int)×Bool)}(hm:nR d m)(hl:l.length<=40)(hn:1000<n) :
  (∃v t,bY uI d (rE l f r)=some v/\bh (qI n l) n (0,m)=some (.inl t)/\v=(f:Int))\/(bY uI d (rE l f r)=none/\∃s',bh (qI n l) n (0,m)=some (.inr s')/\nR (d++rE l f r) s'):=by
 refine oO (B:=qI n l) (len:=l.length) (P:=uI) (g:=fun i=>[gh l f r i]) (d:=d) nR (fun _ v=>v=(f:Int)) (fun i s hi hs=>?_) (fun s hs=>?_) l.length 0 n m (by omega) (by omega) rfl (by rw[acc,SP]; exact hm)
 ·obtain⟨e1,e2⟩:=rm hi;have hi2:(i+1)%l.length<l.length:=S6 _ (by omega)
  have hk:=hs (l.getD i 0,l.getD ((i+1)%l.length) 0);have hB:qI n l ((i:Int),s)=if uI (d++acc (fun i=>[gh l f r i]) i) (gh l f r i) then some (.inr (.inl s)) else some (.inl (((i+1:Nat):Int),jP s (l.getD i 0,l.getD ((i+1)%l.length) 0) true)):=by
   unfold qI
   try dsimp only
   rw[Vj]
   simp only[al hi,aJ,e1,ah,aj (show i<4611686018427387904 by omega)]
   rw[fj (by omega)]
   simp only[jn,al hi2,aJ,e2,ah];rw[hk]
   show ob (br (uI (d++acc (fun i=>[gh l f r i]) i) (gh l f r i)) _ _) _=_
   cases uI (d++acc (fun i=>[gh l f r i]) i) (gh l f r i)<;>rfl
  by_cases c:uI (d++acc (fun i=>[gh l f r i]) i) (gh l f r i)=true
  rw[R7 c] at hB;exact .inl ⟨(f:Int),s,by rw[bY,R7 c]; rfl,hB,rfl⟩
  rw[R6 c] at hB;exact .inr ⟨by rw[bY,R6 c,bY],_,hB,DL hs (gh l f r i)⟩
 ·unfold qI
  try dsimp only
  rw[Vl]
end
section
variable{pts:List I2}{F:List Fc}(n:Nat)
def G6{rs:Uu}{f:Nat}{d:List Ed}{m:List ((Int×Int)×Bool)}(hm:nR d m)(h9:rs.length<=9)(h40:∀r,(rs.getD r []).length<=40)(hn:1000<n) :
  (∃v t,bY uI d (fE rs f)=some v/\bh (qx n rs) n (0,m)=some (.inl t)/\v=(f:Int))\/(bY uI d (fE rs f)=none/\∃s',bh (qx n rs) n (0,m)=some (.inr s')/\nR (d++fE rs f) s'):=by
 refine oO (B:=qx n rs) (len:=rs.length) (P:=uI) (g:=fun r=>rE (rs.getD r []) f r) (d:=d) nR (fun _ v=>v=(f:Int)) (fun i s hi hs=>?_) (fun s hs=>?_) rs.length 0 n m (by omega) (by omega) rfl (by rw[acc,SP]; exact hm)
 ·have hx:rs[i]? = some (rs.getD i []):=by rw[Sb,R5 hi]; rfl
  rcases E7 n (l:=rs.getD i []) (f:=f) (r:=i) hs (h40 i) hn with⟨v,t,h1,h2,h3⟩|⟨h1,s',h2,h3⟩
  ·refine .inl ⟨v,t,h1,?_,h3⟩;unfold qx
   try dsimp only
   rw[Vj,al hi,aJ,aN hx,ah,h2,ah]
  ·refine .inr ⟨h1,s',?_,h3⟩;unfold qx
   try dsimp only
   rw[Vj,al hi,aJ,aN hx,ah,h2,ah,Vm]
 ·unfold qx
  try dsimp only
  rw[Vl]
def da(hv:Fcs pts F)(i:Nat):(ak F i).length<=9/\∀r,((ak F i).getD r []).length<=40:=by
 unfold ak
 by_cases hi:i<F.length
 obtain⟨h8,h9⟩:=jJ (hv.ok _ (SB hi));have e:F.getD i ([],[])=F[i]:=by rw[Sb,R5 hi]; rfl
 rw[e];refine⟨by simp; omega,fun r=>?_⟩
 by_cases hr:r<(F[i].1::F[i].2).length
 have:=(dC rfl (h9 _ (SB hr))).2.2;rw[Sb,R5 hr]; exact this
 rw[Sb,SU (by omega)]; simp
 rw[Sb,SU (by omega)]
 refine⟨by simp,fun r=>?_⟩
 cases r<;>simp
def dz{i:Nat}(hi:i<F.length):F[i]? = some (F.getD i ([],[])):=by rw[Sb,R5 hi]; rfl
def jz(hv:Fcs pts F){i:Nat}(hn:1000<n):As n (F.getD i ([],[])).1 (F.getD i ([],[])).2=some (ak F i):=by
 have h3:=(da hv i).1;unfold ak at h3;rw[SJ] at h3;exact vX n _ _ (by omega) hn
def Ft(hv:Fcs pts F)(hn:1000<n) :
  (∃v t,bY uI [] (sE F)=some v/\bh (qJ n F) n (0,[])=some (.inl t)/\v=t.1)\/(bY uI [] (sE F)=none/\∃s',bh (qJ n F) n (0,[])=some (.inr s')/\nR ([]++sE F) s'):=by
 have hf:=hv.flen;refine oO (B:=qJ n F) (len:=F.length) (P:=uI) (g:=fun f=>fE (ak F f) f) (d:=[]) nR (fun t v=>v=t.1) (fun i s hi hs=>?_) (fun s hs=>?_) F.length 0 n [] (by omega) (by omega) rfl (by rw[acc,SP]; intro p; simp[fX,dh])
 ·obtain⟨h9,h40⟩:=da hv i;rcases G6 n (rs:=ak F i) (f:=i) hs h9 h40 hn with⟨v,t,h1,h2,h3⟩|⟨h1,s',h2,h3⟩
  ·refine .inl ⟨v,((i:Int),t),h1,?_,h3⟩;unfold qJ
   try dsimp only
   rw[Vj,al hi,aJ,aN (dz hi),ah]
   try dsimp only
   rw[jz n hv hn,ah,h2,ah]
  ·refine .inr ⟨h1,s',?_,h3⟩;unfold qJ
   try dsimp only
   rw[Vj,al hi,aJ,aN (dz hi),ah]
   try dsimp only
   rw[jz n hv hn,ah,h2,ah,Vm]
 ·unfold qJ
  try dsimp only
  rw[Vl]
end
section
variable{pts:List I2}{F:List Fc}(n:Nat)
def FJ(hb:df pts){e:Ed}(he:xi pts e){d:List Ed}(hS:∀x∈d,xi pts x)(hd:d.length<=50000)(hn:99999<n) :
  ∃w,bh (rO n d pts F e.1 e.2.1 e.2.2.1 e.2.2.2) n 0=some w/\(if uc pts d e then ∃j:Nat,w=.inl (j:Int) else w=.inr ()):=by
 have h1:bh (rO n d pts F e.1 e.2.1 e.2.2.1 e.2.2.2) n 0=some (bt (fun j=>match d[j]? with|some x=>if ju pts e x=true then some (.inl (j:Int)) else none|none=>none) (.inr ()) d.length 0):=by
  refine aY (len:=d.length) (fun j hj=>?_) ?_ d.length 0 n (by omega) (by omega)
  ·have hy:=R5 hj;generalize d[j]=x at hy;unfold rO
   try dsimp only
   rw[Vj]
   simp only[al hj,aJ,aN hy,ah,hy,aj (show j<4611686018427387904 by omega)]
   rw[JF n hb he (hS x (Sf hy)) (by omega),ah,ah]
   cases ju pts e x<;>rfl
  ·unfold rO
   try dsimp only
   rw[Vl]
 refine⟨_,h1,?_⟩;rcases bW (f:=fun j=>match d[j]? with|some x=>if ju pts e x=true then some (.inl (j:Int)) else none|none=>none) (e:=(.inr ():Int⊕Unit)) d.length 0 with⟨g1,g2⟩|⟨j,_,g2,g3⟩
 ·rw[g2,R6];intro h;obtain⟨x,hx,hq⟩:=TX.1 h;obtain⟨j,hj,ej⟩:=SG.1 hx;have:=g1 j (by omega) (by omega)
  try dsimp only at this
  rw[R5 hj,ej] at this
  try dsimp only at this
  rw[R7 hq] at this;cases this
 ·try dsimp only at g3
  rw[R5 (show j<d.length by omega)] at g3
  try dsimp only at g3
  by_cases g:ju pts e d[j]=true
  rw[R7 g] at g3;have hc:uc pts d e=true:=TX.2 ⟨_,SB _,g⟩;rw[R7 hc];exact⟨j,(R9 g3).symm⟩
  rw[R6 g] at g3; cases g3
def HU(hb:df pts){l:List Int}{f r:Nat}{d:List Ed}(hS:∀x∈d,xi pts x)(hS2:∀i,i<l.length->xi pts (gh l f r i))(hd:d.length<=45000)(hl:l.length<=40)(hn:99999<n) :
  (∃v t,bY (uc pts) d (rE l f r)=some v/\bh (qM n l pts F (f:Int) (r:Int)) n (0,d)=some (.inl t)/\v=(f:Int))\/(bY (uc pts) d (rE l f r)=none/\∃s',bh (qM n l pts F (f:Int) (r:Int)) n (0,d)=some (.inr s')/\s'=d++rE l f r):=by
 refine oO (B:=qM n l pts F (f:Int) (r:Int)) (len:=l.length) (P:=uc pts) (g:=fun i=>[gh l f r i]) (d:=d) (fun d s=>s=d) (fun _ v=>v=(f:Int)) (fun i s hi hs=>?_) (fun s hs=>?_) l.length 0 n d (by omega) (by omega) rfl (by rw[acc,SP])
 ·subst hs;obtain⟨e1,e2⟩:=rm hi;have hi2:(i+1)%l.length<l.length:=S6 _ (by omega)
  have ha:=fI (g:=fun i=>[gh l f r i]) (b:=1) (k:=i) fun i _=>by simp
  have hlen:(d++acc (fun i=>[gh l f r i]) i).length<=50000:=by rw[Sk]; omega
  have hS3:∀x∈d++acc (fun i=>[gh l f r i]) i,xi pts x:=fun x hx=>by
   rcases Su.1 hx with h|h
   exact hS x h
   ·have:∀k,k<=i->x∈acc (fun i=>[gh l f r i]) k->xi pts x:=fun k=>by
     induction k with
     | zero=>intro _ h; cases h
     | succ k ih =>
      intro hk h;rw[acc,Su,Sp] at h;rcases h with h|h
      exact ih (by omega) h
      rw[h]; exact hS2 k (by omega)
    exact this i (Sc _) h
  generalize hD:d++acc (fun i=>[gh l f r i]) i=D at *;obtain⟨w,h1,h2⟩:=FJ (F:=F) n hb (hS2 i hi) hS3 hlen hn;have h1':bh (rO n D pts F (l.getD i 0) (l.getD ((i+1)%l.length) 0) (f:Int) (r:Int)) n 0=some w:=h1;have hB:qM n l pts F (f:Int) (r:Int) ((i:Int),D)=if uc pts D (gh l f r i) then some (.inr (.inl D)) else some (.inl (((i+1:Nat):Int),D++[gh l f r i])):=by
   unfold qM
   try dsimp only
   rw[Vj]
   simp only[al hi,aJ,e1,ah,aj (show i<4611686018427387904 by omega)]
   rw[fj (by omega)]
   simp only[jn,al hi2,aJ,e2,ah];rw[h1',ah]
   by_cases c:uc pts D (gh l f r i)=true
   rw[R7 c] at h2 ⊢;obtain⟨j,rfl⟩:=h2;simp only[ah,au (show(0:Int)<=(j:Int) by omega)]
   rw[R6 c] at h2 ⊢;subst h2;simp only[ah,aq (show ¬(0:Int)<=-1 by decide)]
   rw[bz (by rw[Sk]; simp; omega),aJ]
   rfl
  by_cases c:uc pts D (gh l f r i)=true
  rw[R7 c] at hB;exact .inl ⟨(f:Int),D,by rw[bY,R7 c]; rfl,hB,rfl⟩
  rw[R6 c] at hB;exact .inr ⟨by rw[bY,R6 c,bY],_,hB,rfl⟩
 ·unfold qM
  try dsimp only
  rw[Vl]
end
def kV{α:Type}{g:Nat->List α}{x:α}:∀{k:Nat},x∈acc g k->∃i,i<k/\x∈g i
 | 0,h=>by cases h
 | k+1,h=>by
  rw[acc,Su] at h;rcases h with h|h
  obtain⟨i,hi,hx⟩:=kV h;exact⟨i,by omega,hx⟩
  exact⟨k,by omega,h⟩
section
variable{pts:List I2}{F:List Fc}(n:Nat)
def rz(hv:Fcs pts F){f r:Nat}(hf:f<F.length)(hr:r<(ak F f).length):ku pts.length ((ak F f).getD r [])=true/\mQ (db pts ((ak F f).getD r []) 1):=by
 have e:F.getD f ([],[])=F[f]:=by rw[Sb,R5 hf]; rfl
 unfold ak at hr ⊢;rw[e] at hr ⊢;have e2:(F[f].1::F[f].2).getD r []=(F[f].1::F[f].2)[r]:=by rw[Sb,R5 hr]; rfl
 rw[e2];exact⟨(jJ (hv.ok _ (SB hf))).2 _ (SB hr),of_decide_eq_true (Si.1 (hv.va _ (SB hf)) _ (SB hr))⟩
def EX{l:List Int}{i:Nat}(hi:i<l.length):nx (db pts l 1) i=iF pts (l.getD i 0):=by
 unfold nx db;rw[Sz,TL hi,Sb,SX,Sb,R5 hi];simp
def tO(hv:Fcs pts F){f r i:Nat}(hf:f<F.length)(hr:r<(ak F f).length)(hi:i<((ak F f).getD r []).length):xi pts (gh ((ak F f).getD r []) f r i):=by
 obtain⟨h1,h2⟩:=rz hv hf hr;generalize(ak F f).getD r []=l at *;obtain⟨hx,h3,h4⟩:=dC rfl h1;have hi2:(i+1)%l.length<l.length:=S6 _ (by omega)
 have gm:∀k,k<l.length->l.getD k 0∈l:=fun k hk=>by
  rw[Sb,R5 hk]; exact SB _
 refine⟨hx _ (gm i hi),hx _ (gm _ hi2),?_⟩;have hs:=(rh.1 h2).vr.still i;rw[EX hi] at hs;have:nx (db pts l 1) (i+1)=iF pts (l.getD ((i+1)%l.length) 0):=by
  rw[<-EX hi2];exact om _ (by rw[cD,Nat.mod_mod])
 rw[this] at hs;exact hs
def HK(hv:Fcs pts F){f:Nat}(hf:f<F.length){k:Nat}(hk:k<=(ak F f).length):∀x∈acc (fun r=>rE ((ak F f).getD r []) f r) k,xi pts x:=fun x hx=>by
 obtain⟨r,hr,h⟩:=kV hx;obtain⟨i,hi,h⟩:=kV h;rw[Sp] at h;rw[h];exact tO hv hf (by omega) hi
def A2(hv:Fcs pts F){k:Nat}(hk:k<=F.length):∀x∈acc (fun f=>fE (ak F f) f) k,xi pts x:=fun x hx=>by
 obtain⟨f,hf,h⟩:=kV hx;exact HK hv (by omega) (Sc _) x h
def E3(hv:Fcs pts F){f:Nat}(hf:f<F.length){d:List Ed}(hS:∀x∈d,xi pts x)(hd:d.length<=40000)(hn:99999<n) :
  (∃v t,bY (uc pts) d (fE (ak F f) f)=some v/\bh (qu n (ak F f) pts F (f:Int)) n (0,d)=some (.inl t)/\v=(f:Int))\/(bY (uc pts) d (fE (ak F f) f)=none/\∃s',bh (qu n (ak F f) pts F (f:Int)) n (0,d)=some (.inr s')/\s'=d++fE (ak F f) f):=by
 obtain⟨h9,h40⟩:=da hv f;refine oO (B:=qu n (ak F f) pts F (f:Int)) (len:=(ak F f).length) (P:=uc pts) (g:=fun r=>rE ((ak F f).getD r []) f r) (d:=d) (fun d s=>s=d) (fun _ v=>v=(f:Int)) (fun i s hi hs=>?_) (fun s hs=>?_) (ak F f).length 0 n d (by omega) (by omega) rfl (by rw[acc,SP])
 ·subst hs;have hx:(ak F f)[i]? = some ((ak F f).getD i []):=by rw[Sb,R5 hi]; rfl
  have ha:=fI (g:=fun r=>rE ((ak F f).getD r []) f r) (b:=40) (k:=i) fun r _=>SC tZ (h40 r);rcases HU (F:=F) n hv.near (l:=(ak F f).getD i []) (f:=f) (r:=i) (d:=d++acc (fun r=>rE ((ak F f).getD r []) f r) i) (fun x hx=>(Su.1 hx).elim (hS x) (HK hv hf (by omega) x)) (fun j hj=>tO hv hf hi hj) (by rw[Sk]; omega) (h40 i) hn with⟨v,t,h1,h2,h3⟩|⟨h1,s',h2,h3⟩
  ·refine .inl ⟨v,t,h1,?_,h3⟩;unfold qu
   try dsimp only
   rw[Vj,al hi,aJ,aN hx,ah,h2,ah]
  ·refine .inr ⟨h1,s',?_,h3⟩;unfold qu
   try dsimp only
   rw[Vj,al hi,aJ,aN hx,ah,h2,ah,Vm]
 ·unfold qu
  try dsimp only
  rw[Vl]
def H8(hv:Fcs pts F)(hn:99999<n) :
  (∃v t,bY (uc pts) [] (sE F)=some v/\bh (qT n F pts) n (0,[])=some (.inl t)/\v=t.1)\/(bY (uc pts) [] (sE F)=none/\∃s',bh (qT n F pts) n (0,[])=some (.inr s')/\s'=[]++sE F):=by
 have hfl:=hv.flen;refine oO (B:=qT n F pts) (len:=F.length) (P:=uc pts) (g:=fun f=>fE (ak F f) f) (d:=[]) (fun d s=>s=d) (fun t v=>v=t.1) (fun i s hi hs=>?_) (fun s hs=>?_) F.length 0 n [] (by omega) (by omega) rfl (by rw[acc,SP])
 ·subst hs;have ha:=fI (g:=fun f=>fE (ak F f) f) (b:=360) (k:=i) fun j _=>by
   have h1:=fI (g:=fun r=>rE ((ak F j).getD r []) j r) (b:=40) (k:=(ak F j).length) fun r _=>SC tZ ((da hv j).2 r);have h2:=(da hv j).1;unfold fE; omega
  rcases E3 n hv hi (d:=[]++acc (fun f=>fE (ak F f) f) i) (fun x hx=>A2 hv (k:=i) (by omega) x (by rwa[Tw] at hx)) (by rw[Tw]; omega) hn with⟨v,t,h1,h2,h3⟩|⟨h1,s',h2,h3⟩
  ·refine .inl ⟨v,((i:Int),t),h1,?_,h3⟩;unfold qT
   try dsimp only
   rw[Vj,al hi,aJ,aN (dz hi),ah]
   try dsimp only
   rw[jz n hv (by omega),ah,h2,ah]
  ·refine .inr ⟨h1,s',?_,h3⟩;unfold qT
   try dsimp only
   rw[Vj,al hi,aJ,aN (dz hi),ah]
   try dsimp only
   rw[jz n hv (by omega),ah,h2,ah,Vm]
 ·unfold qT
  try dsimp only
  rw[Vl]
end
def CZ(pts:List I2)(l:List Int):db pts l 2=(db pts l 1).map (dE 2):=by
 unfold db;rw[List.map_map];refine List.map_congr_left fun i _=>S5 ?_ ?_
 show 2*_=1*_*2; omega
 show 2*_=1*_*2; omega
section
variable{pts:List I2}{F:List Fc}(n:Nat)
def Ni{l:List Int}(h:mQ (db pts l 1)):VR (db pts l 2):=by
 rw[CZ];exact(CJ (s:=2) (by decide)).vr (rh.1 h).vr
def GJ(hb:df pts){l:List Int}(hx:Ix pts l)(h3:3<=l.length)(i:Nat):Nw (nx (db pts l 2) i):=by
 have hne:db pts l 1≠[]:=fun e=>by have:=cD pts l 1; rw[e] at this; simp at this; omega
 rw[CZ,dI _ hne];have:=ov hb hx h3 i;unfold Nr at this;unfold Nw dE
 dsimp only
 omega
def Ad(pts:List I2)(e:Ed):I2:=((iF pts e.1).1+(iF pts e.2.1).1,(iF pts e.1).2+(iF pts e.2.1).2)
def xK(hb:df pts){e:Ed}(he:xi pts e):Nw (Ad pts e):=by
 have h1:=gk hb he.1;have h2:=gk hb he.2.1;unfold Nr at h1 h2;unfold Nw Ad
 dsimp only
 omega
def Cv(hb:df pts){l:List Int}(h:ku pts.length l=true){p:I2}(hp:Nw p)(hn:1000<n):I0 n (db pts l 2) p.1 p.2=some (side (db pts l 2) p):=by
 obtain⟨hx,h3,h4⟩:=dC rfl h;exact yP n (fun i=>GJ hb hx h3 i) hp (by rw[cD]; omega) (by rw[cD]; omega)
def za(hb:df pts){l:List Int}(h:ku pts.length l=true)(hc:mQ (db pts l 1)){p:I2}(hp:Nw p)(hn:1000<n):uh n (db pts l 2) p.1 p.2=some (side (db pts l 2) p):=by
 obtain⟨hx,h3,h4⟩:=dC rfl h;exact uO n (Ni hc) (fun i=>GJ hb hx h3 i) hp (by rw[cD]; omega) (by rw[cD]; omega)
def CS(hb:df pts){e:Ed}(he:xi pts e):yW n pts F e.1 e.2.1 e.2.2.1 e.2.2.2=some (Ad pts e):=by
 have h1:=gk hb he.1;have h2:=gk hb he.2.1;unfold Nr at h1 h2;unfold yW Ad;rw[pf he.1,aJ,gX he.1,ah]
 try dsimp only
 rw[pf he.2.1,aJ,gX he.2.1,ah]
 try dsimp only
 rw[aB (by omega) (by omega),aB (by omega) (by omega)]
end
noncomputable def u0 (pts:List I2) (o:List Int) (h:Uu) (p:I2):Bool:=decide (side (db pts o 2) p=2)&&h.all fun l=>decide (side (db pts l 2) p=0)
section
variable{pts:List I2}{F:List Fc}(n:Nat)
def Gx(hb:df pts){o:List Int}{h:Uu}(ho:ku pts.length o=true)(hh:∀l∈h,ku pts.length l=true)(h8:h.length<=8){p:I2}(hp:Nw p)(hn:1000<n):FZ n pts F o h p.1 p.2 2=some (u0 pts o h p):=by
 obtain⟨hx,h3,h4⟩:=dC rfl ho;unfold FZ u0;rw[kZ n hb hx (.inr rfl) (by omega) (by omega),ah,Cv n hb ho hp hn,ah]
 by_cases c:side (db pts o 2) p=2
 ·rw[au c,Sd c,Ty];have hl:bh (qO n h pts F 2 p.1 p.2) n 0=some (bt (fun i=>match h[i]? with|some l=>if decide (side (db pts l 2) p=0)=true then none else some (.inl (i:Int))|none=>none) (.inr ()) h.length 0):=by
   refine aY (len:=h.length) (fun i hi=>?_) ?_ h.length 0 n (by omega) (by omega)
   ·have hy:=R5 hi;generalize h[i]=l at hy;obtain⟨gx,g3,g4⟩:=dC rfl (hh l (Sf hy));unfold qO
    try dsimp only
    rw[Vj,al hi,aJ,aN hy,ah,kZ n hb gx (.inr rfl) (by omega) (by omega),ah,Cv n hb (hh l (Sf hy)) hp hn,ah,ah,Vm,hy]
    try dsimp only
    cases decide (side (db pts l 2) p=0)<;>rfl
   ·unfold qO
    try dsimp only
    rw[Vl]
  rw[hl,ah];rcases bW (f:=fun i=>match h[i]? with|some l=>if decide (side (db pts l 2) p=0)=true then none else some (.inl (i:Int))|none=>none) (e:=(.inr ():Int⊕Unit)) h.length 0 with⟨g1,g2⟩|⟨j,_,g2,g3⟩
  ·rw[g2];have:(h.all fun l=>decide (side (db pts l 2) p=0))=true:=Si.2 fun l hl=>by
    obtain⟨j,hj,ej⟩:=SG.1 hl;have:=g1 j (by omega) (by omega)
    try dsimp only at this
    rw[R5 hj,ej] at this
    try dsimp only at this
    refine R8 fun hc=>?_;rw[R6 hc] at this; cases this
   rw[this]; rfl
  ·have hj:j<h.length:=by omega
   try dsimp only at g3
   rw[R5 hj] at g3
   try dsimp only at g3
   by_cases g:decide (side (db pts h[j] 2) p=0)=true
   rw[R7 g] at g3; cases g3
   rw[R6 g] at g3;have e:=(R9 g3).symm;rw[e];have:(h.all fun l=>decide (side (db pts l 2) p=0))=false:=by
    cases ha:h.all fun l=>decide (side (db pts l 2) p=0)
    rfl
    exact Ss (Si.1 ha _ (SB hj)) g
   rw[this,ah,Se (by omega)]
 rw[aq c,Se c]; rfl
end
section
variable{pts:List I2}{F:List Fc}(n:Nat)
noncomputable def uz (pts:List I2) (rs:Uu) (p:I2) (i:Nat):Option (Unit⊕Unit):=match rs[i]? with|some l=>if i=0 then(if side (db pts l 2) p=2 then none else some (.inl ())) else(if side (db pts l 2) p=0 then none else some (.inl ()))|none=>none
def De(hb:df pts){rs:Uu}(h9:rs.length<=9)(ho:∀l∈rs,ku pts.length l=true/\mQ (db pts l 1)){p:I2}(hp:Nw p)(hn:1000<n):bh (lY n rs pts F 2 p.1 p.2) n 0=some (bt (uz pts rs p) (.inr ()) rs.length 0):=by
 refine aY (len:=rs.length) (fun i hi=>?_) ?_ rs.length 0 n (by omega) (by omega)
 ·have hy:=R5 hi;generalize rs[i]=l at hy;obtain⟨h1,h2⟩:=ho l (Sf hy);obtain⟨gx,g3,g4⟩:=dC rfl h1;unfold lY uz
  try dsimp only
  rw[Vj,al hi,aJ,aN hy,ah,lO n hb gx (.inr rfl) (by omega) (by omega),ah,za n hb h1 h2 hp hn,ah,Vm,hy]
  try dsimp only
  by_cases g:i=0
  subst g;rw[Vj]
  by_cases c:side (db pts l 2) p=2
  rw[Sd c,show(!true)=false from rfl,ek,Vl,ah,ek,R7 rfl,R7 c]
  rw[Se c,show(!false)=true from rfl,eT,ah,eT,R7 rfl,R6 c]
  rw[Vl,Vj,ah,R6 g]
  by_cases c:side (db pts l 2) p=0
  rw[Sd c,R7 c]; rfl
  rw[Se c,R6 c]; rfl
 ·unfold lY
  try dsimp only
  rw[Vl]
end
def I9(pts:List I2)(o:List Int)(h:Uu)(p:I2):bt (uz pts (o::h) p) (.inr ()) (o::h).length 0=if u0 pts o h p then .inr () else .inl ():=by
 have key:∀j r,uz pts (o::h) p j=some r->r=.inl ():=fun j r hr=>by
  unfold uz at hr
  split at hr
  split at hr
  split at hr
  cases hr
  exact(R9 hr).symm
  split at hr
  cases hr
  exact(R9 hr).symm
  cases hr
 have all:(∀j,j<(o::h).length->uz pts (o::h) p j=none)↔u0 pts o h p=true:=by
  unfold u0;rw[Sa,decide_eq_true_iff,Si];constructor
  intro g;refine⟨R8 fun c=>?_,fun l hl=>?_⟩
  have:=g 0 (by simp)
  unfold uz at this;simp[c] at this
  obtain⟨j,hj,e⟩:=SG.1 hl;have:=g (j+1) (by simp; omega)
  unfold uz at this;rw[SH,R5 hj,e] at this;refine Sd (R8 fun c=>?_);simp[c] at this
  ·rintro⟨g1,g2⟩ j hj;unfold uz;cases j with
   | zero=>simp[g1]
   | succ j =>
    have hj:j<h.length:=by simp at hj; omega
    rw[SH,R5 hj];have:=of_decide_eq_true (g2 _ (SB hj));simp[this]
 rcases bW (f:=uz pts (o::h) p) (e:=.inr ()) (o::h).length 0 with⟨h1,h2⟩|⟨j,_,h2,h3⟩
 rw[h2,R7 (all.1 fun j hj=>h1 j (by omega) (by omega))]
 rw[R6 fun c=>by rw[all.2 c j (by omega)] at h3; cases h3]
 exact key j _ h3
def K1{pts:List I2}{F:List Fc}(n:Nat)(hv:Fcs pts F){f:Nat}(hf:f<F.length){p:I2}(hp:Nw p)(hn:1000<n):wP n pts F (f:Int) p.1 p.2 2=some (u0 pts (F.getD f ([],[])).1 (F.getD f ([],[])).2 p):=by
 have h9:=(da hv f).1;have ho:∀l∈ak F f,ku pts.length l=true/\mQ (db pts l 1):=fun l hl=>by
  obtain⟨r,hr,e⟩:=SG.1 hl;have:=rz hv hf hr;rw[Sb,R5 hr] at this;rw[<-e]; exact this
 unfold wP;rw[al hf,aJ,aN (dz hf),ah]
 try dsimp only
 rw[mz n _ _ (by unfold ak at h9; rw[SJ] at h9; omega),ah]
 have h1:=De (F:=F) n hv.near h9 ho hp hn;unfold ak at h1;rw[h1,I9,ah];cases u0 pts (F.getD f ([],[])).1 (F.getD f ([],[])).2 p<;>rfl
def k5{τ:Type}{B:Int->Option (Int ⊕(τ⊕Unit))}{len:Nat}{P:List Ed->Ed->Bool}{g:Nat->List Ed}{d:List Ed}(Q:τ->Int->Prop)
  (hB:∀i:Nat,i<len->(∃v t,bY P (d++acc g i) (g i)=some v/\B (i:Int)=some (.inr (.inl t))/\Q t v)\/(bY P (d++acc g i) (g i)=none/\B (i:Int)=some (.inl ((i+1:Nat):Int))))
  (hE:B (len:Int)=some (.inr (.inr ()))) :
  ∀(k i n:Nat),i+k=len->k<n->bY P d (acc g i)=none ->
   (∃v t,bY P d (acc g len)=some v/\bh B n (i:Int)=some (.inl t)/\Q t v)\/(bY P d (acc g len)=none/\bh B n (i:Int)=some (.inr ()))
 | 0,i,n+1,h,_,h0=>by
  rw[Tn] at h; subst h;exact .inr ⟨h0,eE hE⟩
 | k+1,i,n+1,h,hn,h0=>by
  rcases hB i (by omega) with⟨v,t,h1,h2,h3⟩|⟨h1,h2⟩
  refine .inl ⟨v,t,?_,eE h2,h3⟩;have:bY P d (acc g (i+1))=some v:=by rw[acc,ki,h0]; exact h1
  have:=vQ this k;rw[show i+1+k=len by omega] at this
  exact this
  rw[eO h2];exact k5 Q hB hE k (i+1) n (by omega) (by omega) (by rw[acc,ki,h0]; exact h1)
noncomputable def ua (pts:List I2) (F:List Fc) (_:List Ed) (e:Ed):Bool:=!decide (e.2.2.2=0) && !u0 pts (F.getD e.2.2.1.toNat ([],[])).1 ((F.getD e.2.2.1.toNat ([],[])).2.take (e.2.2.2-1).toNat++(F.getD e.2.2.1.toNat ([],[])).2.drop e.2.2.2.toNat) (Ad pts e)
section
variable{pts:List I2}{F:List Fc}(n:Nat)
def JW{h:Uu}{r:Nat}(h0:r≠0)(h1:r<=h.length)(h8:h.length<=8):Hw n h (UD ((r:Int)-1)) (r:Int)=some (h.take ((r:Int)-1).toNat++h.drop ((r:Nat):Int).toNat):=by
 rw[aB (by omega) (by omega)]
 unfold Hw;rw[Sd (show 0<h.length by omega),Sd (show(0:Int)<=(r:Int)-1 by omega),Sd (show(r:Int)-1<=(r:Int) by omega),Sd (show(r:Int)<=(h.length:Int) by omega),bz (by omega)]
 rfl
def vY(hv:Fcs pts F){f:Nat}(hf:f<F.length):ku pts.length (F.getD f ([],[])).1=true/\(F.getD f ([],[])).2.length<=8/\∀l ∈(F.getD f ([],[])).2,ku pts.length l=true:=by
 have e:F.getD f ([],[])=F[f]:=by rw[Sb,R5 hf]; rfl
 rw[e];obtain⟨h8,h9⟩:=jJ (hv.ok _ (SB hf));exact⟨h9 _ (SV ..),h8,fun l hl=>h9 l (SE _ hl)⟩
def GF(hv:Fcs pts F){f r:Nat}(hf:f<F.length)(hr:r<(ak F f).length){d:List Ed}(hn:99999<n) :
  (∃v t,bY (ua pts F) d (rE ((ak F f).getD r []) f r)=some v/\bh (qN n ((ak F f).getD r []) (r:Int) (f:Int) F (F.getD f ([],[])).2 pts (F.getD f ([],[])).1) n 0=some (.inl t)/\v=(f:Int)) \/
  (bY (ua pts F) d (rE ((ak F f).getD r []) f r)=none/\bh (qN n ((ak F f).getD r []) (r:Int) (f:Int) F (F.getD f ([],[])).2 pts (F.getD f ([],[])).1) n 0=some (.inr ())):=by
 have h40:=(da hv f).2 r;have hs:=fun i=>tO (i:=i) hv hf hr;obtain⟨ho,h8,hh⟩:=vY hv hf;have hrl:r<=(F.getD f ([],[])).2.length:=by unfold ak at hr; rw[SJ] at hr; omega
 generalize(ak F f).getD r []=l at *;refine k5 (B:=qN n l (r:Int) (f:Int) F (F.getD f ([],[])).2 pts (F.getD f ([],[])).1) (len:=l.length) (P:=ua pts F) (g:=fun i=>[gh l f r i]) (d:=d) (fun _ v=>v=(f:Int)) (fun i hi=>?_) ?_ l.length 0 n (by omega) (by omega) rfl
 ·obtain⟨e1,e2⟩:=rm hi;have hi2:(i+1)%l.length<l.length:=S6 _ (by omega)
  have hS:=hs i hi;have hB:qN n l (r:Int) (f:Int) F (F.getD f ([],[])).2 pts (F.getD f ([],[])).1 (i:Int)=if ua pts F (d++acc (fun i=>[gh l f r i]) i) (gh l f r i) then some (.inr (.inl ())) else some (.inl ((i+1:Nat):Int)):=by
   have hx:(gh l f r i).1=l.getD i 0:=rfl;have hy:(gh l f r i).2.1=l.getD ((i+1)%l.length) 0:=rfl;unfold qN
   try dsimp only
   rw[Vj]
   simp only[al hi,aJ,e1,ah,aj (show i<4611686018427387904 by omega)]
   rw[fj (by omega)]
   simp only[jn,al hi2,aJ,e2,ah];rw[<-hx,<-hy]
   by_cases r0:r=0
   subst r0;rw[Vj,ah]
   have:ua pts F (d++acc (fun i=>[gh l f 0 i]) i) (gh l f 0 i)=false:=by unfold ua gh; rfl
   rw[this]; rfl
   ·have hP:ua pts F (d++acc (fun i=>[gh l f r i]) i) (gh l f r i) = !u0 pts (F.getD f ([],[])).1 ((F.getD f ([],[])).2.take ((r:Int)-1).toNat++(F.getD f ([],[])).2.drop ((r:Nat):Int).toNat) (Ad pts (gh l f r i)):=by
     unfold ua
     show(!decide ((r:Int)=0)&&_)=_
     rw[Se (by omega)]; rfl
    rw[Vl,al hf,aJ,show K4 n (F.getD f ([],[])).2=some (F.getD f ([],[])).2 by unfold K4; rw[bz (by omega)]; rfl,ah,JW n r0 hrl h8,ah,pf hS.1,aJ,gX hS.1,ah]
    try dsimp only
    rw[pf hS.2.1,aJ,gX hS.2.1,ah]
    try dsimp only
    have h1:=gk hv.near hS.1;have h2:=gk hv.near hS.2.1;unfold Nr at h1 h2;rw[aB (by omega) (by omega),aB (by omega) (by omega),ah]
    try dsimp only
    have h59:FZ n pts F (F.getD f ([],[])).1 ((F.getD f ([],[])).2.take ((r:Int)-1).toNat++(F.getD f ([],[])).2.drop ((r:Nat):Int).toNat) ((iF pts (gh l f r i).1).1+(iF pts (gh l f r i).2.1).1) ((iF pts (gh l f r i).1).2+(iF pts (gh l f r i).2.1).2) 2=some _ :=
     Gx (F:=F) (p:=Ad pts (gh l f r i)) n hv.near ho (fun l hl=>(Su.1 hl).elim (fun h=>hh l (TG h)) (fun h=>hh l (TH h))) (by rw[Sk,Sm,SR]; omega) (xK hv.near hS) (by omega)
    rw[h59,ah,hP];cases u0 pts (F.getD f ([],[])).1 ((F.getD f ([],[])).2.take ((r:Int)-1).toNat++(F.getD f ([],[])).2.drop ((r:Nat):Int).toNat) (Ad pts (gh l f r i))<;>rfl
  by_cases c:ua pts F (d++acc (fun i=>[gh l f r i]) i) (gh l f r i)=true
  rw[R7 c] at hB;exact .inl ⟨(f:Int),(),by rw[bY,R7 c]; rfl,hB,rfl⟩
  rw[R6 c] at hB;exact .inr ⟨by rw[bY,R6 c,bY],hB⟩
 ·unfold qN
  try dsimp only
  rw[Vl]
def FP(hv:Fcs pts F){f:Nat}(hf:f<F.length){d:List Ed}(hn:99999<n) :
  (∃v t,bY (ua pts F) d (fE (ak F f) f)=some v/\bh (qL n (ak F f) (f:Int) F (F.getD f ([],[])).2 pts (F.getD f ([],[])).1) n 0=some (.inl t)/\v=(f:Int)) \/
  (bY (ua pts F) d (fE (ak F f) f)=none/\bh (qL n (ak F f) (f:Int) F (F.getD f ([],[])).2 pts (F.getD f ([],[])).1) n 0=some (.inr ())):=by
 obtain⟨h9,h40⟩:=da hv f;refine k5 (B:=qL n (ak F f) (f:Int) F (F.getD f ([],[])).2 pts (F.getD f ([],[])).1) (len:=(ak F f).length) (P:=ua pts F) (g:=fun r=>rE ((ak F f).getD r []) f r) (d:=d) (fun _ v=>v=(f:Int)) (fun i hi=>?_) ?_ (ak F f).length 0 n (by omega) (by omega) rfl
 ·have hx:(ak F f)[i]? = some ((ak F f).getD i []):=by rw[Sb,R5 hi]; rfl
  rcases GF n hv hf hi (d:=d++acc (fun r=>rE ((ak F f).getD r []) f r) i) hn with⟨v,t,h1,h2,h3⟩|⟨h1,h2⟩
  ·refine .inl ⟨v,(),h1,?_,h3⟩;unfold qL
   try dsimp only
   rw[Vj,al hi,aJ,aN hx,ah,h2,ah]
  ·refine .inr ⟨h1,?_⟩;unfold qL
   try dsimp only
   rw[Vj,al hi,aJ,aN hx,ah,h2,ah,Vm]
 ·unfold qL
  try dsimp only
  rw[Vl]
def C3(hv:Fcs pts F)(hn:99999<n) :
  (∃v t,bY (ua pts F) [] (sE F)=some v/\bh (mA n F pts) n 0=some (.inl t)/\v=t)\/(bY (ua pts F) [] (sE F)=none/\bh (mA n F pts) n 0=some (.inr ())):=by
 have hfl:=hv.flen;refine k5 (B:=mA n F pts) (len:=F.length) (P:=ua pts F) (g:=fun f=>fE (ak F f) f) (d:=[]) (fun t v=>v=t) (fun i hi=>?_) ?_ F.length 0 n (by omega) (by omega) rfl
 ·rcases FP n hv hi (d:=[]++acc (fun f=>fE (ak F f) f) i) hn with⟨v,t,h1,h2,h3⟩|⟨h1,h2⟩
  ·refine .inl ⟨v,(i:Int),h1,?_,h3⟩;unfold mA
   try dsimp only
   rw[Vj,al hi,aJ,aN (dz hi),ah]
   try dsimp only
   rw[jz n hv (by omega),ah,h2,ah]
  ·refine .inr ⟨h1,?_⟩;unfold mA
   try dsimp only
   rw[Vj,al hi,aJ,aN (dz hi),ah]
   try dsimp only
   rw[jz n hv (by omega),ah,h2,ah,Vm]
 ·unfold mA
  try dsimp only
  rw[Vl]
end
def pE{ρ:Type}{r:ρ⊕Unit}{q:Nat->Bool}{f:Nat->Option (ρ⊕Unit)}{len:Nat}(hf:∀i,i<len->f i=if q i then some r else none):bt f (.inr ()) len 0=if(List.range len).any q then r else .inr ():=by
 rcases bW (f:=f) (e:=.inr ()) len 0 with⟨h1,h2⟩|⟨j,_,h2,h3⟩
 rw[h2,R6];intro h;obtain⟨i,hi,hq⟩:=TX.1 h;rw[TF] at hi;have:=h1 i (by omega) (by omega)
 rw[hf i hi,R7 hq] at this; cases this
 have hj:j<len:=by omega
 rw[hf j hj] at h3
 by_cases g:q j=true
 rw[R7 g] at h3;rw[R7 (TX.2 ⟨j,TF.2 hj,g⟩)];exact(R9 h3).symm
 rw[R6 g] at h3; cases h3
noncomputable def Hg (pts:List I2) (F:List Fc) (e:Ed) (i:Nat):Bool:=!decide ((i:Int)=e.2.2.1)&&u0 pts (F.getD i ([],[])).1 (F.getD i ([],[])).2 (Ad pts e)
noncomputable def xO (pts:List I2) (F:List Fc) (_:List Ed) (e:Ed):Bool:=(List.range F.length).any (Hg pts F e)
section
variable{pts:List I2}{F:List Fc}(n:Nat)
def Ek(hv:Fcs pts F){e:Ed}(hS:xi pts e)(hn:99999<n):bh (rN n F e.2.2.1 e.1 pts e.2.1) n 0=some (if(List.range F.length).any (Hg pts F e) then .inl () else .inr ()):=by
 have hfl:=hv.flen;rw[<-pE (r:=(.inl ():Unit⊕Unit)) (q:=Hg pts F e) (f:=fun i=>if Hg pts F e i then some (.inl ()) else none) (len:=F.length) (fun i _=>rfl)]
 refine aY (len:=F.length) (fun i hi=>?_) ?_ F.length 0 n (by omega) (by omega)
 ·obtain⟨ho,h8,hh⟩:=vY hv hi;unfold rN
  try dsimp only
  rw[Vj,al hi,aJ,aN (dz hi),ah]
  try dsimp only
  unfold Hg
  by_cases c:(i:Int)=e.2.2.1
  rw[Sd c];simp only[SM,ek,ah,Bool.false_and,Sw,if_false];rw[Vm]
  ·rw[Se c];rw[SL,eT,pf hS.1,aJ,gX hS.1,ah]
   try dsimp only
   rw[pf hS.2.1,aJ,gX hS.2.1,ah]
   try dsimp only
   have h1:=gk hv.near hS.1;have h2:=gk hv.near hS.2.1;unfold Nr at h1 h2;rw[aB (x:=(iF pts e.1).1+(iF pts e.2.1).1) (by omega) (by omega),aB (x:=(iF pts e.1).2+(iF pts e.2.1).2) (by omega) (by omega),ah]
   try dsimp only
   have h59:FZ n pts F (F.getD i ([],[])).1 (F.getD i ([],[])).2 ((iF pts e.1).1+(iF pts e.2.1).1) ((iF pts e.1).2+(iF pts e.2.1).2) 2=some _:=Gx (F:=F) (p:=Ad pts e) n hv.near ho hh h8 (xK hv.near hS) (by omega)
   rw[h59,ah,ah,Vm,Ty]
   cases u0 pts (F.getD i ([],[])).1 (F.getD i ([],[])).2 (Ad pts e)<;>rfl
 ·unfold rN
  try dsimp only
  rw[Vl]
def D3(hv:Fcs pts F){f r:Nat}(hf:f<F.length)(hr:r<(ak F f).length){d:List Ed}(hn:99999<n) :
  (∃v t,bY (xO pts F) d (rE ((ak F f).getD r []) f r)=some v/\bh (lE n ((ak F f).getD r []) F (f:Int) pts) n 0=some (.inl t)/\v=(f:Int)) \/
  (bY (xO pts F) d (rE ((ak F f).getD r []) f r)=none/\bh (lE n ((ak F f).getD r []) F (f:Int) pts) n 0=some (.inr ())):=by
 have h40:=(da hv f).2 r;have hs:=fun i=>tO (i:=i) hv hf hr;generalize(ak F f).getD r []=l at *;refine k5 (B:=lE n l F (f:Int) pts) (len:=l.length) (P:=xO pts F) (g:=fun i=>[gh l f r i]) (d:=d) (fun _ v=>v=(f:Int)) (fun i hi=>?_) ?_ l.length 0 n (by omega) (by omega) rfl
 ·obtain⟨e1,e2⟩:=rm hi;have hi2:(i+1)%l.length<l.length:=S6 _ (by omega)
  have hS:=hs i hi;have h11:=Ek n hv hS hn;have hB:lE n l F (f:Int) pts (i:Int)=if xO pts F (d++acc (fun i=>[gh l f r i]) i) (gh l f r i) then some (.inr (.inl ())) else some (.inl ((i+1:Nat):Int)):=by
   unfold lE
   try dsimp only
   rw[Vj]
   simp only[al hi,aJ,e1,ah,aj (show i<4611686018427387904 by omega)]
   rw[fj (by omega)]
   simp only[jn,al hi2,aJ,e2,ah];unfold xO;unfold gh at h11 ⊢
   dsimp only at h11
   rw[h11];cases(List.range F.length).any (Hg pts F (l.getD i 0,l.getD ((i+1)%l.length) 0,(f:Int),(r:Int)))<;>rfl
  by_cases c:xO pts F (d++acc (fun i=>[gh l f r i]) i) (gh l f r i)=true
  rw[R7 c] at hB;exact .inl ⟨(f:Int),(),by rw[bY,R7 c]; rfl,hB,rfl⟩
  rw[R6 c] at hB;exact .inr ⟨by rw[bY,R6 c,bY],hB⟩
 ·unfold lE
  try dsimp only
  rw[Vl]
def DX(hv:Fcs pts F){f:Nat}(hf:f<F.length){d:List Ed}(hn:99999<n) :
  (∃v t,bY (xO pts F) d (fE (ak F f) f)=some v/\bh (lD n (ak F f) F (f:Int) pts) n 0=some (.inl t)/\v=(f:Int)) \/
  (bY (xO pts F) d (fE (ak F f) f)=none/\bh (lD n (ak F f) F (f:Int) pts) n 0=some (.inr ())):=by
 obtain⟨h9,h40⟩:=da hv f;refine k5 (B:=lD n (ak F f) F (f:Int) pts) (len:=(ak F f).length) (P:=xO pts F) (g:=fun r=>rE ((ak F f).getD r []) f r) (d:=d) (fun _ v=>v=(f:Int)) (fun i hi=>?_) ?_ (ak F f).length 0 n (by omega) (by omega) rfl
 ·have hx:(ak F f)[i]? = some ((ak F f).getD i []):=by rw[Sb,R5 hi]; rfl
  rcases D3 n hv hf hi (d:=d++acc (fun r=>rE ((ak F f).getD r []) f r) i) hn with⟨v,t,h1,h2,h3⟩|⟨h1,h2⟩
  ·refine .inl ⟨v,(),h1,?_,h3⟩;unfold lD
   try dsimp only
   rw[Vj,al hi,aJ,aN hx,ah,h2,ah]
  ·refine .inr ⟨h1,?_⟩;unfold lD
   try dsimp only
   rw[Vj,al hi,aJ,aN hx,ah,h2,ah,Vm]
 ·unfold lD
  try dsimp only
  rw[Vl]
def C7(hv:Fcs pts F)(hn:99999<n) :
  (∃v t,bY (xO pts F) [] (sE F)=some v/\bh (lU n F pts) n 0=some (.inl t)/\v=t)\/(bY (xO pts F) [] (sE F)=none/\bh (lU n F pts) n 0=some (.inr ())):=by
 have hfl:=hv.flen;refine k5 (B:=lU n F pts) (len:=F.length) (P:=xO pts F) (g:=fun f=>fE (ak F f) f) (d:=[]) (fun t v=>v=t) (fun i hi=>?_) ?_ F.length 0 n (by omega) (by omega) rfl
 ·rcases DX n hv hi (d:=[]++acc (fun f=>fE (ak F f) f) i) hn with⟨v,t,h1,h2,h3⟩|⟨h1,h2⟩
  ·refine .inl ⟨v,(i:Int),h1,?_,h3⟩;unfold lU
   try dsimp only
   rw[Vj,al hi,aJ,aN (dz hi),ah]
   try dsimp only
   rw[jz n hv (by omega),ah,h2,ah]
  ·refine .inr ⟨h1,?_⟩;unfold lU
   try dsimp only
   rw[Vj,al hi,aJ,aN (dz hi),ah]
   try dsimp only
   rw[jz n hv (by omega),ah,h2,ah,Vm]
 ·unfold lU
  try dsimp only
  rw[Vl]
end
noncomputable def HW (pts:List I2) (rs:Uu) (r:Nat) (p:I2) (j:Nat):Bool:=if j=0 then !decide (side (db pts (rs.getD j []) 2) p=2) else !decide ((j:Int)=(r:Int)) && !decide (side (db pts (rs.getD j []) 2) p=0)
def JV{pts:List I2}{o:List Int}{h:Uu}{r:Nat}(h0:r≠0)(p:I2):(List.range (o::h).length).any (HW pts (o::h) r p) = !u0 pts o (h.take ((r:Int)-1).toNat++h.drop ((r:Nat):Int).toNat) p:=by
 have e1:((r:Int)-1).toNat=r-1:=by omega
 have e2:((r:Nat):Int).toNat=r:=by omega
 rw[e1,e2];have key:(∀j,j<h.length+1->HW pts (o::h) r p j=false)↔u0 pts o (h.take (r-1)++h.drop r) p=true:=by
  unfold u0;rw[Sa,decide_eq_true_iff,Si];have at1:∀j,(hj:j<h.length)->(HW pts (o::h) r p (j+1)=false↔j+1=r\/side (db pts h[j] 2) p=0):=fun j hj=>by
   unfold HW;rw[UF,List.getD_cons_succ,Sb,R5 hj,Option.getD_some]
   by_cases c:j+1=r
   rw[Sd (show((j+1:Nat):Int)=(r:Int) by omega)]; simp[c]
   rw[Se (show ¬((j+1:Nat):Int)=(r:Int) by omega)]; simp[c]
  constructor
  intro g;refine⟨?_,fun l hl=>Sd ?_⟩
  have:=g 0 (by omega)
  unfold HW at this
  simpa using this
  rcases Su.1 hl with hl|hl
  obtain⟨j,hj,e⟩:=SG.1 hl;rw[Sm] at hj;rw[List.getElem_take] at e;have:=(at1 j (by omega)).1 (g (j+1) (by omega))
  rw[e] at this;rcases this with h|h
  omega
  exact h
  obtain⟨j,hj,e⟩:=SG.1 hl;rw[SR] at hj;rw[List.getElem_drop] at e;have:=(at1 (r+j) (by omega)).1 (g (r+j+1) (by omega))
  rw[e] at this;rcases this with h|h
  omega
  exact h
  ·rintro⟨g1,g2⟩ j hj;cases j with
   | zero=>unfold HW; simp[g1]
   | succ j =>
    rw[at1 j (by omega)]
    by_cases c:j+1=r
    exact .inl c
    refine .inr (of_decide_eq_true (g2 _ ?_));rw[Su]
    by_cases c2:j+1<r
    exact .inl (SG.2 ⟨j,by rw[Sm]; omega,by rw[List.getElem_take]⟩)
    refine .inr (SG.2 ⟨j-r,by rw[SR]; omega,?_⟩)
    rw[List.getElem_drop];have:r+(j-r)=j:=by omega
    simp only[this]
 rw[SJ];cases hI:u0 pts o (h.take (r-1)++h.drop r) p
 rw[SL,TX];refine R8 fun hc=>?_;have:u0 pts o (h.take (r-1)++h.drop r) p=true:=key.1 fun j hj=>by
  cases hq:HW pts (o::h) r p j
  rfl
  exact Ss ⟨j,TF.2 hj,hq⟩ hc
 rw[hI] at this; cases this
 rw[SM,List.any_eq_false];intro j hj;rw[key.2 hI j (TF.1 hj)];decide
section
variable{pts:List I2}{F:List Fc}(n:Nat)
def EJ(hb:df pts){rs:Uu}(h4:rs.length<=9)(ho:∀l∈rs,ku pts.length l=true/\mQ (db pts l 1)){E:List Ed}{i r:Nat}{x1 x2 x3 p0 p1:Int}(hi:i<E.length)(h1:yW n pts F x1 x2 x3 (r:Int)=some (p0,p1))(hp:Nw (p0,p1))(hn:99999<n) :
  bh (zK n rs pts F (i:Int) E x1 x2 x3 (r:Int)) n 0=some (if(List.range rs.length).any (HW pts rs r (p0,p1)) then .inl () else .inr ()):=by
 rw[<-pE (r:=(.inl ():Unit⊕Unit)) (q:=HW pts rs r (p0,p1)) (f:=fun j=>if HW pts rs r (p0,p1) j then some (.inl ()) else none) (len:=rs.length) (fun j _=>rfl)]
 refine aY (len:=rs.length) (fun j hj=>?_) ?_ rs.length 0 n (by omega) (by omega)
 ·have hy:=R5 hj;have eg:rs.getD j []=rs[j]:=by rw[Sb,hy]; rfl
  unfold zK HW;rw[eg];generalize rs[j]=l at hy;obtain⟨h0,h2⟩:=ho l (Sf hy);obtain⟨gx,g0,g1⟩:=dC rfl h0;have h3:uh n (db pts l 2) p0 p1=some (side (db pts l 2) (p0,p1)):=za (p:=(p0,p1)) n hb h0 h2 hp (by omega)
  try dsimp only
  rw[Vj]
  simp only[al hj,aJ,aN hy,ah];rw[lO n hb gx (.inr rfl) (by omega) (by omega),ah]
  simp only[al hi,aJ];rw[h1,ah]
  try dsimp only
  rw[h3,ah,Vm]
  by_cases c:j=0
  subst c;rw[Vj,R7 rfl]
  by_cases s:side (db pts l 2) (p0,p1)=2
  rw[Sd s,SM,ek,Vl,ah]; rfl
  rw[Se s,SL,eT,ah]; rfl
  rw[Vl,Vj,R6 c]
  cases decide ((j:Int)=(r:Int))<;>cases decide (side (db pts l 2) (p0,p1)=0)<;>rfl
 ·unfold zK
  try dsimp only
  rw[Vl]
def Rt(F:List Fc)(e:Ed):Prop:=∃f r k:Nat,f<F.length/\r<(ak F f).length/\k<((ak F f).getD r []).length/\e=gh ((ak F f).getD r []) f r k
def LV{k:Nat}(hk:k<=F.length):∀x∈acc (fun f=>fE (ak F f) f) k,Rt F x:=fun x hx=>by
 obtain⟨f,hf,h⟩:=kV hx;obtain⟨r,hr,h⟩:=kV h;obtain⟨i,hi,h⟩:=kV h;exact⟨f,r,i,by omega,hr,hi,by simpa using h⟩
def lG(hv:Fcs pts F){f:Nat}(hf:f<F.length):∀l∈ak F f,ku pts.length l=true/\mQ (db pts l 1):=fun l hl=>by
 obtain⟨r,hr,e⟩:=SG.1 hl;have:=rz hv hf hr;rw[Sb,R5 hr] at this;rw[<-e]; exact this
def H9(hv:Fcs pts F){E:List Ed}(hS:∀e∈E,Rt F e)(hE:E.length<50000)(hn:99999<n):bh (yd n E F pts) n 0=some (E4 (bY (ua pts F) [] E)):=by
 have:=lS (P:=ua pts F) (E:=E) (f:=fun i=>match E[i]? with|some e=>if ua pts F (E.take i) e then some (.inl e.2.2.1) else none|none=>none) (fun i e he=>by simp only[he]) E.length 0 (by omega)
 rw[List.take_zero,TC] at this;rw[<-this];refine aY (len:=E.length) (fun i hi=>?_) ?_ E.length 0 n (by omega) (by omega)
 ·have hx:=R5 hi;obtain⟨f,r,k,hf,hr,hk,he⟩:=hS _ (SB hi);rw[he] at hx;have hT:=tO hv hf hr hk;have h0:=(da hv f).1;have ho:=lG hv hf;generalize(ak F f).getD r []=l at *;have h1:=CS (F:=F) n hv.near hT;have hnw:=xK hv.near hT;have hP:ua pts F (E.take i) (gh l f r k)=(!decide ((r:Int)=0) && !u0 pts (F.getD f ([],[])).1 ((F.getD f ([],[])).2.take ((r:Int)-1).toNat++(F.getD f ([],[])).2.drop ((r:Nat):Int).toNat) (Ad pts (gh l f r k))):=by
   unfold ua; rfl
  unfold yd
  try dsimp only
  rw[hx]
  try dsimp only
  rw[hP,show(gh l f r k).2.2.1=(f:Int) from rfl]
  have h121':yW n pts F (l.getD k 0) (l.getD ((k+1)%l.length) 0) (f:Int) (r:Int)=some (Ad pts (gh l f r k)):=h1;generalize Ad pts (gh l f r k)=p at *;obtain⟨p0,p1⟩:=p;unfold gh at hx;rw[Vj]
  simp only[al hi,aJ,aN hx,ah]
  by_cases r0:r=0
  ·subst r0;rw[Vj,ah]
   try dsimp only
   rw[Vm]; rfl
  rw[Vl,Se (show ¬((r:Int)=0) by omega),SL,Ty]
  simp only[al hf,aJ,aN (dz hf),ah];rw[mz n _ _ (by unfold ak at h0; rw[SJ] at h0; omega),ah,show((F.getD f ([],[])).1::(F.getD f ([],[])).2)=ak F f from rfl,EJ n hv.near h0 ho hi h121' hnw hn,ah]
  have:=JV (pts:=pts) (o:=(F.getD f ([],[])).1) (h:=(F.getD f ([],[])).2) r0 (p0,p1);rw[show((F.getD f ([],[])).1::(F.getD f ([],[])).2)=ak F f from rfl] at this
  rw[this,Vm]
  cases u0 pts (F.getD f ([],[])).1 ((F.getD f ([],[])).2.take ((r:Int)-1).toNat++(F.getD f ([],[])).2.drop ((r:Nat):Int).toNat) (p0,p1)<;>rfl
 ·unfold yd
  try dsimp only
  rw[Vl]
def Fy(hv:Fcs pts F){E:List Ed}(hS:∀e∈E,xi pts e)(hE:E.length<50000)(hn:99999<n):bh (zd n E F pts) n 0=some (E4 (bY (xO pts F) [] E)):=by
 have hfl:=hv.flen;have:=lS (P:=xO pts F) (E:=E) (f:=fun i=>match E[i]? with|some e=>if xO pts F (E.take i) e then some (.inl e.2.2.1) else none|none=>none) (fun i e he=>by simp only[he]) E.length 0 (by omega)
 rw[List.take_zero,TC] at this;rw[<-this];refine aY (len:=E.length) (fun i hi=>?_) ?_ E.length 0 n (by omega) (by omega)
 ·have hx:=R5 hi;have hT:=hS _ (SB hi);generalize E[i]=e at *;have h0:=CS (F:=F) n hv.near hT;have hnw:=xK hv.near hT;have hin:bh (zW n F (i:Int) E pts) n 0=some (if(List.range F.length).any (Hg pts F e) then .inl e.2.2.1 else .inr ()):=by
   rw[<-pE (r:=(.inl e.2.2.1:Int⊕Unit)) (q:=Hg pts F e) (f:=fun i=>if Hg pts F e i then some (.inl e.2.2.1) else none) (len:=F.length) (fun i _=>rfl)]
   refine aY (len:=F.length) (fun j hj=>?_) ?_ F.length 0 n (by omega) (by omega)
   ·have h1:=K1 n hv hj hnw (by omega)
    unfold zW Hg
    try dsimp only
    generalize Ad pts e=p at *;obtain⟨p0,p1⟩:=p;obtain⟨x1,x2,x3,x4⟩:=e
    dsimp only at h1 h0 ⊢
    rw[Vj]
    simp only[al hi,aJ,aN hx,ah]
    by_cases c:(j:Int)=x3
    rw[Sd c];simp only[SM,ek,ah,Bool.false_and,Sw,if_false];rw[Vm]
    ·rw[Se c,SL,eT,h0,ah]
     try dsimp only
     rw[h1,ah,ah,Vm,Ty]
     cases u0 pts (F.getD j ([],[])).1 (F.getD j ([],[])).2 (p0,p1)<;>rfl
   ·unfold zW
    try dsimp only
    rw[Vl]
  unfold zd
  try dsimp only
  rw[Vj,hin,ah,Vm,hx]
  try dsimp only
  unfold xO;cases(List.range F.length).any (Hg pts F e)<;>rfl
 ·unfold zd
  try dsimp only
  rw[Vl]
noncomputable def Lo (pts:List I2) (F:List Fc):Int×Int:=match bY uI [] (sE F) with
 | some v=>(7,v)
 | none=>match bY (uc pts) [] (sE F) with
  | some v=>(8,v)
  | none=>match bY (ua pts F) [] (sE F) with
   | some v=>(9,v)
   | none=>match bY (xO pts F) [] (sE F) with
    | some v=>(10,v)
    | none=>(0,0)
def xD(hv:Fcs pts F):(sE F).length<50000:=by
 have hfl:=hv.flen;have ha:=fI (g:=fun f=>fE (ak F f) f) (b:=360) (k:=F.length) fun j _=>by
  have h1:=fI (g:=fun r=>rE ((ak F j).getD r []) j r) (b:=40) (k:=(ak F j).length) fun r _=>SC tZ ((da hv j).2 r);have h2:=(da hv j).1;unfold fE; omega
 unfold sE; omega
def LU(hv:Fcs pts F)(hn:99999<n):OE n pts F=some (Lo pts F):=by
 have h1:=HQ n (xD hv) hn;have h2:=Hh (F:=F) n hv.near (A2 hv (Sc _)) (xD hv) hn;have h3:=H9 n hv (LV (Sc _)) (xD hv) hn;have h4:=Fy n hv (A2 hv (Sc _)) (xD hv) hn;unfold sE at h2 h3 h4;unfold OE Lo;rw[KW n hv (by omega),ah,h1,ah]
 cases bY uI [] (sE F) with
 | some v=>rfl
 | none =>
 show ob _ _=_
 unfold sE;rw[h2,ah];cases bY (uc pts) [] _ with
 | some v=>rfl
 | none =>
 show ob _ _=_
 rw[h3,ah];cases bY (ua pts F) [] _ with
 | some v=>rfl
 | none =>
 show ob _ _=_
 rw[h4,ah];cases bY (xO pts F) [] _ with
 | some v=>rfl
 | none=>rfl
def M5(hv:Fcs pts F)(hn:99999<n):Qg n pts F=some (Lo pts F):=by
 unfold Qg Lo;rw[ah];rcases Ft n hv (by omega) with⟨v,t,a1,a2,a3⟩|⟨a1,s,a2,a3⟩
 rw[a2,a1,a3]; rfl
 rw[a2,a1,ah];simp only[ah];rcases H8 n hv hn with⟨v,t,b1,b2,b3⟩|⟨b1,s,b2,b3⟩
 rw[b2,b1,b3]; rfl
 rw[b2,b1,ah];simp only[ah];rcases C3 n hv hn with⟨v,t,c1,c2,c3⟩|⟨c1,c2⟩
 rw[c2,c1,c3]; rfl
 rw[c2,c1,ah];simp only[ah];rcases C7 n hv hn with⟨v,t,d1,d2,d3⟩|⟨d1,d2⟩
 rw[d2,d1,d3]; rfl
 rw[d2,d1]; rfl
end
def K3{α:Type}[DecidableEq α]{B:Int->Option (Int ⊕(Unit⊕Unit))}{l l':List α}{n:Nat}(h:l.length=l'.length)
  (hB:∀(i:Nat) (hi:i<l.length) (hi':i<l'.length),B (i:Int)=some (if l[i]=l'[i] then .inl ((i+1:Nat):Int) else .inr (.inl ())))
  (hE:B (l.length:Int)=some (.inr (.inr ()))) (hn:l.length<n):bh B n 0=some (if l=l' then .inr () else .inl ()):=by
 have h1:bh B n 0=some (bt (fun i=>if l[i]? = l'[i]? then none else some (.inl ())) (.inr ()) l.length 0):=by
  refine aY (len:=l.length) (fun i hi=>?_) hE l.length 0 n (by omega) hn
  rw[hB i hi (by omega),R5 hi,R5 (show i<l'.length by omega)]
  by_cases c:l[i]=l'[i]
  rw[R7 c,R7 (by rw[c])]
  rw[R6 c,R6 (fun e=>c (R9 e))]
 rw[h1];rcases bW (f:=fun i=>if l[i]? = l'[i]? then none else some (.inl ())) (e:=(.inr ():Unit⊕Unit)) l.length 0 with⟨g1,g2⟩|⟨j,_,g2,g3⟩
 rw[g2,R7];refine List.ext_getElem h fun i hi hi'=>?_;have:=g1 i (by omega) (by omega)
 rw[R5 hi,R5 hi'] at this;refine R8 fun c=>?_;rw[R6 (fun e=>c (R9 e))] at this;cases this
 by_cases c:l[j]? = l'[j]?
 rw[R7 c] at g3; cases g3
 rw[R6 c] at g3;rw[<-R9 g3,R6 (fun e=>c (by rw[e]))]
section
variable(n:Nat)
def MW{p q:List I2}(hl:p.length<=1000)(hn:1000<n):Ru n p q=some (decide (p=q)):=by
 unfold Ru
 by_cases h:p.length=q.length
 ·rw[Sd (show(p.length:Int)=(q.length:Int) by omega),SM,ek,K3 (l:=p) (l':=q) h (fun i hi hi'=>?hB) ?hE (by omega),ah]
  by_cases e:p=q
  rw[R7 e,Sd e]
  rw[R6 e,Se e]
  case hB =>
   have e1:=R5 hi;have e2:=R5 hi';generalize p[i]=x at *;generalize q[i]=y at *;obtain⟨x1,x2⟩:=x;obtain⟨y1,y2⟩:=y;unfold Gi;rw[Vj,al hi,aJ,aN e1,ah]
   try dsimp only
   rw[al hi',aJ,aN e2,ah]
   try dsimp only
   rw[Vm]
   by_cases c:x1=y1/\x2=y2
   obtain⟨rfl,rfl⟩:=c;simp[br]
   have:(decide (x1=y1)&&decide (x2=y2))=false:=by rw[<-SI,Se c]
   rw[this,R6 (fun e=>c ⟨SK Prod.fst e,SK Prod.snd e⟩)]
   rfl
  case hE =>
   unfold Gi;rw[Vl]
 rw[Se (show ¬(p.length:Int)=(q.length:Int) by omega),SL,eT,Se (fun e=>h (by rw[e]))]
def IW{p q:List I2}(hl:p.length<=1000)(hn:1000<n):Qr n p q=some (decide (p=q)):=MW n hl hn
def Qb(f:Fc):Prop:=f.1.length<=1000/\f.2.length<=1000/\∀h∈f.2,h.length<=1000
def IL(c:List I2×List Fc):Prop:=c.1.length<=1000/\c.2.length<=1000/\∀f∈c.2,Qb f
end
def mR{α:Type}(l:List α)(k:Nat):(Vi l k)=l.take k:=by
 show l.take ((mi (l.length:Int) (k:Int)).toNat-0)=_
 rw[gA,TK];rcases Nat.le_total l.length k with g|g
 rw[TB (by omega),TB g]
 rw[show(min (l.length:Int) (k:Int)).toNat=k by omega]
def rH{α:Type}(l:List α)(k:Nat):okB 0 (mi (l.length:Int) (k:Int)) l.length=true:=Sd (by rw[gA]; omega)
section
variable{α β:Type}
def OH(l:List α):(Vi l 10)=l.take 10:=mR l 10
def PE(l:List α):(Vi l 42)=l.take 42:=mR l 42
def P3(l:List α):(Vi l 66)=l.take 66:=mR l 66
def OB(l:List α):(Vi l 125)=l.take 125:=mR l 125
def QP(l:List α):okB 0 (mi (l.length:Int) (10:Int)) l.length=true:=rH l 10
def O8(l:List α):okB 0 (mi (l.length:Int) (42:Int)) l.length=true:=rH l 42
def Q4(l:List α):okB 0 (mi (l.length:Int) (66:Int)) l.length=true:=rH l 66
def Ql(l:List α):okB 0 (mi (l.length:Int) (125:Int)) l.length=true:=rH l 125
def vF{o:Option α}{K:α->Option β}{R:β->Prop}(Q:α->Prop)(h:∃q,o=some q/\Q q)(hK:∀q,Q q->∃c,K q=some c/\R c):∃c,ob o K=some c/\R c:=by
 obtain⟨q,rfl,h2⟩:=h;exact hK q h2
def fF{c:Bool}{A B:Option α}{Q:α->Prop}(h1:c=true->∃q,A=some q/\Q q)(h2:c=false->∃q,B=some q/\Q q):∃q,br c A B=some q/\Q q:=by
 cases c
 exact h2 rfl
 exact h1 rfl
def hZ{c:Bool}{A:Option α}{Q:α->Prop}(hc:c=true)(h:∃q,A=some q/\Q q):∃q,gd c A=some q/\Q q:=by
 subst hc; exact h
def qy{l:List α}{i:Nat}(hi:i<l.length){K:α->Option β}{R:β->Prop}(h:∀x∈l,l[((i:Nat):Int).toNat]? = some x->∃c,K x=some c/\R c):∃c,ob (l[((i:Nat):Int).toNat]?) K=some c/\R c:=by
 have e:=aN (R5 hi);rw[e,ah];exact h _ (SB hi) e
end
def LF(f:Fc):Fc:=(f.1.take 42,(f.2.take 10).map fun h=>h.take 42)
def Qv(c:List I2×List Fc):Prop:=c.1.length<=125/\c.2.length<=66/\∀f∈c.2,f.1.length<=42/\f.2.length<=10/\∀h∈f.2,h.length<=42
def Om(c:List I2×List Fc):List I2×List Fc:=(c.1.take 125,(c.2.take 66).map LF)
def FE(f:Fc):(LF f).1.length<=42/\(LF f).2.length<=10/\∀h ∈(LF f).2,h.length<=42:=by
 unfold LF;refine⟨by rw[Sm]; omega,by rw[Sz,Sm]; omega,fun h hh=>?_⟩
 obtain⟨x,_,rfl⟩:=Ts.1 hh;rw[Sm]; omega
def Ms(c:List I2×List Fc):Qv (Om c):=by
 unfold Om;refine⟨by rw[Sm]; omega,by rw[Sz,Sm]; omega,fun f hf=>?_⟩
 obtain⟨x,_,rfl⟩:=Ts.1 hf;exact FE x
def sC(n:Nat){l:List Int}(h:l.length<=1000):zB n l=some l:=by
 unfold zB; rw[bz (by omega)]; rfl
def EZ(n:Nat)(h:Uu)(hn:1000<n):bh (vC n h) n ([],0)=some ((h.take 10).map fun x=>x.take 42):=by
 refine xa (B:=vC n h) (l:=h.take 10) (fun x=>x.take 42) id (fun i x hx hi=>?_) ?_ (by rw[Sm]; omega)
 have h10:(h.take 10).length<=10:=by rw[Sm]; omega
 unfold vC;simp only[OH,PE,O8];rw[Vj,al hi,aJ,aN hx,ah,aJ,sC n (by rw[Sm]; omega),ah,bz (by simp; omega),aJ,Vm]
 unfold vC;simp only[OH];rw[Vl]; rfl
def Ig(n:Nat)(p:List I2)(F:List Fc)(hn:1000<n):N5 n p F=some (Om (p,F)):=by
 unfold N5 Om;simp only[OB,Ql,Q4,aJ];rw[show Kj n (p.take 125)=some (p.take 125) by unfold Kj; rw[bz (by rw[Sm]; omega)]; rfl,ah]
 have:bh (uW n F) n ([],0)=some ((F.take 66).map LF):=by
  refine xa (B:=uW n F) (l:=F.take 66) LF id (fun i x hx hi=>?_) ?_ (by rw[Sm]; omega)
  ·have h66:(F.take 66).length<=66:=by rw[Sm]; omega
   obtain⟨o,h⟩:=x;unfold uW;simp only[P3,PE,O8,QP];rw[Vj,al hi,aJ,aN hx,ah]
   try dsimp only
   rw[aJ,sC n (by rw[Sm]; omega),ah,aJ,EZ n h hn,ah,bz (by simp; omega),aJ,Vm]
   rfl
  unfold uW;simp only[P3];rw[Vl]; rfl
 rw[this]; rfl
def Fp{B:List Int×Int×Int->Option ((List Int×Int×Int)⊕List Int)}{N:Nat}(hN:N<=1000)
  (hB:∀(l:List Int) (a b:Nat),l.length=N->b<N->a<b->∃l',B (l,(a:Int),(b:Int))=some (.inl (l',((a+1:Nat):Int),((b-1:Nat):Int)))/\l'.length=N)
  (hE:∀(l:List Int) (a b:Int),¬a<b->B (l,a,b)=some (.inr l)) :
  ∀(k n:Nat) (l:List Int) (a b:Nat),l.length=N->b<N->b<=a+k->k<n->∃r,bh B n (l,(a:Int),(b:Int))=some r/\r.length=N
 | 0,n+1,l,a,b,hl,_,hk,_=>⟨l,eE (hE l _ _ (by omega)),hl⟩
 | k+1,n+1,l,a,b,hl,hb,hk,hn=>by
  by_cases c:a<b
  obtain⟨l',h1,h2⟩:=hB l a b hl hb c;rw[eO h1];exact Fp hN hB hE k n l' (a+1) (b-1) h2 (by omega) (by omega) (by omega)
  exact⟨l,eE (hE l _ _ (by omega)),hl⟩
def zN(n:Nat){l:List Int}(hl:l.length<=1000)(hn:2000<n):∃r,bh (sP n l) n (l,0,UD ((l.length:Int)-1))=some r/\r.length=l.length:=by
 by_cases h0:l.length=0
 ·refine⟨l,?_,rfl⟩;obtain⟨n,rfl⟩:∃k,n=k+1:=⟨n-1,by omega⟩
  refine eE ?_;rw[aB (by omega) (by omega)]
  unfold sP
  try dsimp only
  rw[Vl]
 rw[aB (by omega) (by omega),show((l.length:Int)-1)=((l.length-1:Nat):Int) by omega]
 refine Fp (B:=sP n l) (N:=l.length) hl (fun l' a b hl' hb hab=>?_) (fun l' a b hab=>?_) (l.length-1) n l 0 (l.length-1) rfl (by omega) (by omega) (by omega)
 ·have e1:l'[((b:Nat):Int).toNat]? = some (l'.getD b 0):=by rw[Sv,Sb,R5 (by omega)]; rfl
  have e2:l'[((a:Nat):Int).toNat]? = some (l'.getD a 0):=by rw[Sv,Sb,R5 (by omega)]; rfl
  have hs:∀x,(l'.set ((a:Nat):Int).toNat x)[((b:Nat):Int).toNat]? = some (l'.getD b 0):=fun x=>by
   rw[Sv,List.getElem?_set_ne (by rw[Sv]; omega),<-e1,Sv]
  refine⟨(l'.set ((a:Nat):Int).toNat (l'.getD b 0)).set ((b:Nat):Int).toNat (l'.getD a 0),?_,?_⟩
  ·unfold sP
   try dsimp only
   rw[Vj,al hb,aJ,e1,ah,al (show a<l.length by omega),aJ,e2,ah,aJ,aJ,hs,ah,Vm,aB (x:=(b:Int)-1) (by omega) (by omega),show((b:Int)-1)=((b-1:Nat):Int) by omega]
  rw[Ud,Ud]; exact hl'
 ·unfold sP
  try dsimp only
  rw[aq hab]
def Fh(n:Nat){l:List Int}(hl:l.length<=1000)(hn:2000<n):∃r,bh (E6 n l) n (l,0,UD ((l.length:Int)-1))=some r/\r.length=l.length:=zN n hl hn
def yF(n:Nat)(x3:Nat){l:List Int}(hl:l.length<=1000)(hn:2000<n):∀(k m:Nat) (s:Uu),10<=s.length+k->k<m->s.length<=20->(∀h∈s,h.length<=1000)->∃r,bh (tN n x3 l) m s=some r/\r.length<=20/\∀h∈r,h.length<=1000
 | 0,m+1,s,hs,_,h20,hh=>by
  have hw:UD ((x3%2:Nat):Int)=((x3%2:Nat):Int):=aB (by omega) (by omega)
  refine⟨s,eE ?_,h20,hh⟩;unfold tN;rw[hw,aB (by omega) (by omega),Vl]
 | k+1,m+1,s,hs,hm,h20,hh=>by
  have hw:UD ((x3%2:Nat):Int)=((x3%2:Nat):Int):=aB (by omega) (by omega)
  by_cases c:(s.length:Int)<8+((x3%2:Nat):Int)
  have hB:tN n x3 l s=some (.inl (s++[l])):=by
   unfold tN;rw[hw,aB (by omega) (by omega),au c,sC n hl,ah,bz (by simp; omega),aJ]
  rw[eO hB];exact yF n x3 hl hn k m (s++[l]) (by simp; omega) (by omega) (by simp; omega) (fun h hh'=>by
   rcases Su.1 hh' with g|g
   exact hh h g
   rw[Sp.1 g]; exact hl)
  refine⟨s,eE ?_,h20,hh⟩;unfold tN;rw[hw,aB (by omega) (by omega),aq c]
def lK{P:List I2}{G:List Fc}(hc:Qv (P,G)){y:Fc}(hy:Qb y)(j:Nat):IL (P,G.set j y):=by
 refine⟨SC hc.1 (by decide),?_,fun f hf=>?_⟩
 show(G.set j y).length<=1000
 rw[Ud]; exact SC hc.2.1 (by decide)
 rcases List.mem_or_eq_of_mem_set hf with h|h
 have:=hc.2.2 f h;exact⟨by omega,by omega,fun h hh=>by have:=this.2.2 h hh; omega⟩
 rw[h]; exact hy
def jI{P:List I2}{G:List Fc}(hc:Qv (P,G)){a:List Int}{b:Uu}(ha:a.length<=1000)(hb:b.length<=1000)(hx:∀x∈b,x.length<=1000)(j:Nat):IL (P,G.set j (a,b)):=lK hc (y:=(a,b)) ⟨ha,hb,hx⟩ j
def vZ{c:List I2×List Fc}(h:Qv c):IL c:=⟨by have:=h.1; omega,by have:=h.2.1; omega,fun f hf=>by
 have:=h.2.2 f hf;exact⟨by omega,by omega,fun x hx=>by have:=this.2.2 x hx; omega⟩⟩
def IA(n:Nat)(x1 x2 x3:Nat)(x4 x5 x6:Int)(p:List I2)(F:List Fc)(h2:x2<256)(h3:x3<256)(hn:10000<n):∃c,Ex n x1 x2 x3 x4 x5 x6 p F=some c/\IL c:=by
 unfold Ex;rw[Ig n p F (by omega),ah]
 have hb:=Ms (p,F);generalize Om (p,F)=c at *;obtain⟨P,G⟩:=c
 try dsimp only
 have hP:P.length<=125:=hb.1;have hG:G.length<=66:=hb.2.1;have w2:UD ((x2:Nat):Int)=(x2:Int):=aB (by omega) (by omega)
 have w3:UD ((x3:Nat):Int)=(x3:Int):=aB (by omega) (by omega)
 by_cases e1:(P.length:Int)=0
 rw[au e1,ah,eT]; exact⟨_,rfl,vZ hb⟩
 rw[aq e1,ah]
 by_cases e2:(G.length:Int)=0
 rw[au e2]; exact⟨_,rfl,vZ hb⟩
 rw[aq e2,fj e1,fj e2];simp only[w2,w3,jn];have hj:x2%G.length<G.length:=S6 _ (by omega)
 have hi:x2%P.length<P.length:=S6 _ (by omega)
 have hi3:x3%P.length<P.length:=S6 _ (by omega)
 have hj3:x3%G.length<G.length:=S6 _ (by omega)
 rw[al hj,aJ];refine qy hj fun y hy _=>?_;obtain⟨o,h⟩:=y;have hy':=hb.2.2 _ hy;have ho:o.length<=42:=hy'.1;have hh:h.length<=10:=hy'.2.1;have hhh:∀x∈h,x.length<=42:=hy'.2.2;have hyF:Qb (o,h):=⟨by show o.length<=1000; omega,by show h.length<=1000; omega,fun x hx=>by have:=hhh x hx; omega⟩
 try dsimp only
 refine vF (fun q=>IL (q.1,q.2.2.2)) ?_ (fun q hq=>?_)
 rotate_left
 obtain⟨a,b,c,d⟩:=q; exact⟨(a,d),rfl,hq⟩
 refine fF (fun _=>?_) (fun _=>?_)
 
 rw[al hi,aJ];refine qy hi fun y _ _=>?_;obtain⟨y1,y2⟩:=y;refine⟨_,rfl,?_⟩;have:=lK hb hyF (x2%G.length);exact⟨by show(List.set ..).length<=_; rw[Ud]; omega,this.2⟩
 refine fF (fun _=>?_) (fun _=>?_)
 ·rw[fj e1,al hi3,aJ];refine qy hi3 fun y _ _=>?_;obtain⟨y1,y2⟩:=y
  try dsimp only
  rw[al hi,aJ];refine qy hi fun z _ _=>?_;obtain⟨z1,z2⟩:=z;refine⟨_,rfl,?_⟩;have:=lK hb hyF (x2%G.length);exact⟨by show(List.set ..).length<=_; rw[Ud]; omega,this.2⟩
 refine fF (fun _=>?_) (fun _=>?_)
 refine hZ (bz (by simp; omega)) ⟨_,rfl,?_⟩
 have:=lK hb hyF (x2%G.length);exact⟨by show List.length (_++_)<=_; simp; omega,this.2⟩
 refine fF (fun _=>?_) (fun _=>?_)
 refine hZ (Sd ⟨by omega,by omega,by omega⟩) (hZ (Sd (by omega)) ⟨_,rfl,?_⟩)
 have:=lK hb hyF (x2%G.length);exact⟨by show(List.take ..).length<=_; rw[Sm]; omega,this.2⟩
 refine fF (fun _=>?_) (fun _=>?_)
 ·rw[Ig n P G (by omega),ah]
  unfold Om
  try dsimp only
  have hl:((G.take 66).map LF).length=G.length:=by rw[Sz,Sm]; omega
  rw[fj e2,al (by omega),aJ]
  refine qy (by omega) fun z hz _=>?_
  obtain⟨z1,z2⟩:=z;refine hZ (bz (by simp; omega)) ⟨_,rfl,?_⟩
  have h0:=vZ hb;refine⟨h0.1,by show List.length (_++_)<=_; simp; omega,fun f hf=>?_⟩
  rcases Su.1 hf with g|g
  exact h0.2.2 f g
  rw[Sp.1 g];obtain⟨w,_,hw⟩:=Ts.1 hz;have:=FE w;rw[hw] at this;exact⟨by show z1.length<=1000; have:=this.1; dsimp only at this; omega,by show z2.length<=1000; have:=this.2.1; dsimp only at this; omega,fun x hx=>by have:=this.2.2 x hx; omega⟩
 refine fF (fun _=>?_) (fun _=>?_)
 rw[fj e2,fj e2,ah,Vm]
 refine vF (fun q=>q.length<=66/\∀f∈q,f∈G) ?_ (fun q hq=>⟨_,rfl,?_⟩)
 unfold QT;refine hZ ?_ ⟨_,rfl,?_,fun f hf=>?_⟩
 rw[Sd (show 0<G.length by omega),Sd (show(0:Int)<=((x2%G.length:Nat):Int) by omega),Sd (show((x2%G.length:Nat):Int)<((x2%G.length+1:Nat):Int) by omega),Sd (show((x2%G.length+1:Nat):Int)<=(G.length:Int) by omega),bz (by omega)]; rfl
 rw[Sk,Sm,SR]; omega
 exact(Su.1 hf).elim TG TH
 have h0:=vZ hb;exact⟨h0.1,by show q.length<=1000; omega,fun f hf=>h0.2.2 f (hq.2 f hf)⟩
 refine fF (fun _=>?_) (fun _=>?_)
 refine fF (fun c=>?_) (fun _=>⟨_,rfl,lK hb hyF _⟩);have c:=of_decide_eq_true c;have hk:x3%o.length<o.length:=S6 _ (by omega)
 rw[fj (by omega),al hk,aJ]
 refine qy hk fun z _ _=>⟨_,rfl,jI hb ?_ hyF.2.1 hyF.2.2 _⟩;rw[Ud]; omega
 refine fF (fun _=>?_) (fun _=>?_)
 obtain⟨r,hr,hl⟩:=zN n (l:=o) (by omega) (by omega)
 rw[hr,ah,ah];exact⟨_,rfl,jI hb (show r.length<=1000 by omega) hyF.2.1 hyF.2.2 _⟩
 refine fF (fun _=>?_) (fun _=>?_)
 exact⟨_,rfl,jI hb hyF.1 (b:=[]) (Th _) (fun _ hx=>by cases hx) _⟩
 refine fF (fun _=>?_) (fun _=>?_)
 ·rw[fj e2,al hj3,aJ];refine qy hj3 fun z hz _=>?_;obtain⟨z1,z2⟩:=z;have hz1:z1.length<=42:=(hb.2.2 _ hz).1
  try dsimp only
  rw[sC n (by omega),ah,bz (by simp; omega),aJ,ah]
  have hw:UD (((h++[z1]).length:Int)-1)=(h.length:Int):=by
   rw[Sk,List.length_singleton,aB (by omega) (by omega)]; omega
  rw[hw,al (by simp),aJ,show(h++[z1])[((h.length:Nat):Int).toNat]? = some z1 by simp,ah]
  obtain⟨r,hr,hl⟩:=Fh n (l:=z1) (by omega) (by omega)
  rw[hr,ah,ah];refine⟨_,rfl,jI hb hyF.1 (by rw[Ud,Sk]; simp; omega) (fun x hx=>?_) _⟩
  rcases List.mem_or_eq_of_mem_set hx with g|g
  rcases Su.1 g with g|g
  exact hyF.2.2 x g
  rw[Sp.1 g]; omega
  rw[g]; omega
 refine fF (fun _=>?_) (fun _=>?_)
 refine fF (fun c=>?_) (fun _=>⟨_,rfl,lK hb hyF _⟩);have c:=of_decide_eq_true c;have hk:x3%o.length<o.length:=S6 _ (by omega)
 rw[fj (by omega),fj (by omega),ah,Vm]
 refine vF (fun q=>q.length<=42) ?_ (fun q hq=>⟨_,rfl,jI hb (show q.length<=1000 by omega) hyF.2.1 hyF.2.2 _⟩)
 unfold MA;refine hZ ?_ ⟨_,rfl,?_⟩
 rw[Sd (show 0<o.length by omega),Sd (show(0:Int)<=((x3%o.length:Nat):Int) by omega),Sd (show((x3%o.length:Nat):Int)<=((x3%o.length+1:Nat):Int) by omega),Sd (show((x3%o.length+1:Nat):Int)<=(o.length:Int) by omega),bz (by omega)]; rfl
 rw[Sk,Sm,SR]; omega
 refine fF (fun _=>?_) (fun _=>?_)
 have hk:x3%(o.length+1)<o.length+1:=S6 _ (by omega)
 rw[Vm,fj (by omega),ah,fj e1]
 simp only[jn];refine vF (fun q=>q.length<=43) ?_ (fun q hq=>⟨_,rfl,jI hb (show q.length<=1000 by omega) hyF.2.1 hyF.2.2 _⟩)
 unfold MB;refine hZ ?_ ⟨_,rfl,?_⟩
 rw[Sd (show(0:Int)<=((x3%(o.length+1):Nat):Int) by omega),Sd (show((x3%(o.length+1):Nat):Int)<=(o.length:Int) by omega),bz (by omega)]; rfl
 rw[Sk,Sk,Sm,SR]; simp; omega
 refine fF (fun _=>?_) (fun _=>?_)
 refine fF (fun c=>?_) (fun _=>⟨_,rfl,lK hb hyF _⟩);have c:=of_decide_eq_true c;have hk:x3%o.length<o.length:=S6 _ (by omega)
 refine hZ (Sd (by omega)) (hZ (Sd ⟨by omega,by omega,by omega⟩) ?_)
 rw[sC n (by rw[Sm,SR]; omega),ah]
 refine hZ (Sd (by omega)) (hZ (Sd ⟨by omega,by omega,by omega⟩) (hZ (bz ?_) ⟨_,rfl,jI hb ?_ hyF.2.1 hyF.2.2 _⟩))
 rw[Sk,Sm,SR,Sm,SR]; omega
 rw[Sk,Sm,SR,Sm,SR]; omega
 obtain⟨r,hr,hl,hx⟩:=yF n x3 (l:=o) (by omega) (by omega) 10 n h (by omega) (by omega) (by omega) (fun x hx=>hyF.2.2 x hx)
 rw[hr,ah];exact⟨_,rfl,jI hb hyF.1 (show r.length<=1000 by omega) hx _⟩
def wV(n:Nat)(l:List Nat)(k:Nat):∃r,IQ n l (k:Int)=some r/\True:=by
 unfold IQ;refine fF (fun _=>⟨_,rfl,trivial⟩) (fun c=>?_);have c:=of_decide_eq_false c;have hk:k%l.length<l.length:=S6 _ (by omega)
 rw[fj c,jn,al hk,aJ];exact qy hk fun x _ _=>⟨_,rfl,trivial⟩
def GN(n:Nat){w:Nat}(hw:w<=5)(y:Int)(l8:List Nat){l0:List I2}(h0:l0.length<=1000)(hn:1000<n):∃r,bh (vA n (w:Int) y l8) n (l0,0,0)=some r/\r.length=l0.length+(w+1):=by
 refine im (B:=vA n (w:Int) y l8) (len:=w+1) (fun i (s:List I2×Int)=>(s.1,s.2,(i:Int))) (fun i s=>s.1.length=l0.length+i) (fun r=>r.length=l0.length+(w+1)) (fun i s hi hs=>.inl ?_) (fun s hs=>?_) (w+1) 0 (l0,0) n (by omega) (by omega) rfl
 ·obtain⟨l,x⟩:=s
  try dsimp only at hs ⊢
  obtain⟨r,hr,_⟩:=wV n l8 i;refine⟨(l++[(x,y)],UD ((UD (x+1))+(Int.tmod r 5))),?_,by simp; omega⟩
  unfold vA
  try dsimp only
  rw[Vj,bz (by simp; omega),aJ,hr,ah,Vm]
 ·obtain⟨l,x⟩:=s;refine⟨l,?_,hs⟩;unfold vA
  try dsimp only
  rw[Vl]
def GK(n:Nat){w h:Nat}(hw:w<=5)(hh:h<=5)(l8:List Nat)(hn:1000<n):∃r,bh (vk n (h:Int) (w:Int) l8) n ([],0,0)=some r/\r.length=(h+1)*(w+1):=by
 refine im (B:=vk n (h:Int) (w:Int) l8) (len:=h+1) (fun i (s:List I2×Int)=>(s.1,s.2,(i:Int))) (fun i s=>s.1.length=i*(w+1)) (fun r=>r.length=(h+1)*(w+1)) (fun i s hi hs=>.inl ?_) (fun s hs=>?_) (h+1) 0 ([],0) n (by omega) (by omega) (by simp)
 ·obtain⟨l,y⟩:=s
  try dsimp only at hs ⊢
  have hb:i*(w+1)<=5*(w+1):=Tj _ (by omega)
  obtain⟨r,hr,hl⟩:=GN n hw y l8 (l0:=l) (by omega) hn
  obtain⟨r',hr',_⟩:=wV n l8 (7+i);refine⟨(r,UD ((UD (y+1))+(Int.tmod r' 5))),?_,by rw[TJ]; dsimp only; omega⟩
  unfold vk
  try dsimp only
  rw[Vj,hr,ah,aB (x:=7+(i:Int)) (by omega) (by omega),show(7+(i:Int))=((7+i:Nat):Int) by omega,hr',ah,Vm]
 ·obtain⟨l,y⟩:=s;refine⟨l,?_,hs⟩;unfold vk
  try dsimp only
  rw[Vl]
def ub(k:Nat)(l:List Fc):Prop:=l.length<=k/\∀f∈l,Qb f
def kz{k j:Nat}{l m:List Fc}(h:ub k l)(hm:ub j m):ub (k+j) (l++m):=⟨by rw[Sk]; have:=h.1; have:=hm.1; omega,fun f hf=>(Su.1 hf).elim (h.2 f) (hm.2 f)⟩
def ub.le{k j:Nat}{l:List Fc}(h:ub k l)(hk:k<=j):ub j l:=⟨by have:=h.1; omega,h.2⟩
def EL{o:List Int}(h:o.length<=1000):Qb (o,[]):=⟨h,by simp,fun _ hx=>by cases hx⟩
def xX{o:List Int}(h:o.length<=1000):ub 2 [(o,[])]:=⟨by simp,fun f hf=>by rw[Sp.1 hf]; exact EL h⟩
def Lk{o o':List Int}(h:o.length<=1000)(h':o'.length<=1000):ub 2 [(o,[]),(o',[])]:=⟨by simp,fun f hf=>by
 rcases Sx.1 hf with e|hf
 rw[e]; exact EL h
 rw[Sp.1 hf]; exact EL h'⟩
def A6{k:Nat}{l:List Fc}(h:ub k l)(hk:k<=1000):lim l.length=true:=bz (by have:=h.1; omega)
def G3(n:Nat){w v:Nat}(hw:w<=5)(hv:v<=5)(l3:List Nat){k:Nat}(hk:k<=500){l0:List Fc}(h0:ub k l0)(hn:1000<n):∃r,bh (sv n (w:Int) (v:Int) l3) n (l0,0)=some r/\ub (k+10) r:=by
 refine im (B:=sv n (w:Int) (v:Int) l3) (len:=w) (fun i (s:List Fc)=>(s,(i:Int))) (fun i s=>ub (k+2*i) s) (fun r=>ub (k+10) r) (fun i s hi hs=>.inl ?_) (fun s hs=>⟨s,?_,hs.le (by omega)⟩) w 0 l0 n (by omega) (by omega) h0
 ·have hvw:v*w<=5*5:=Uk hv hw;obtain⟨q,hq,_⟩:=wV n l3 (v*w+i);have hx:UD ((UD ((v:Int)*(w:Int)))+(i:Int))=((v*w+i:Nat):Int):=by
   rw[show((v:Int)*(w:Int))=((v*w:Nat):Int) from(Int.natCast_mul v w).symm,aB (x:=((v*w:Nat):Int)) (by omega) (by omega),aB (by omega) (by omega)]; omega
  have key:∀(s':List Fc),ub (k+2*i+2) s'->ub (k+2*(i+1)) s':=fun s' h=>h.le (by omega)
  suffices hg:∃c,sv n (w:Int) (v:Int) l3 (s,(i:Int))=some c/\∃s',c=.inl (s',((i+1:Nat):Int))/\ub (k+2*i+2) s' by
   obtain⟨c,h1,s',h2,h3⟩:=hg;exact⟨s',by rw[h1,h2],key s' h3⟩
  unfold sv
  try dsimp only
  rw[Vj]
  refine vF (fun s'=>ub (k+2*i+2) s') ?_ (fun s' hs'=>⟨_,rfl,s',by rw[Vm],hs'⟩)
  rw[ah,hx,hq,ah];refine fF (fun _=>?_) (fun _=>fF (fun _=>fF (fun _=>?_) (fun _=>?_)) (fun _=>?_))
  rw[ah,ah];exact hZ (A6 (kz hs (Lk (by simp) (by simp))) (by omega)) ⟨_,rfl,kz hs (Lk (by simp) (by simp))⟩
  exact⟨_,rfl,hs.le (by omega)⟩
  rw[ah];exact hZ (A6 (kz hs (xX (by simp))) (by omega)) ⟨_,rfl,kz hs (xX (by simp))⟩
  rw[ah];exact hZ (A6 (kz hs (xX (by simp))) (by omega)) ⟨_,rfl,kz hs (xX (by simp))⟩
 ·unfold sv
  try dsimp only
  rw[Vl]
def EP(n:Nat){w h:Nat}(hw:w<=5)(hh:h<=5)(l3:List Nat)(hn:1000<n):∃r,bh (uY n (h:Int) (w:Int) l3) n ([],0)=some r/\ub 50 r:=by
 refine im (B:=uY n (h:Int) (w:Int) l3) (len:=h) (fun i (s:List Fc)=>(s,(i:Int))) (fun i s=>ub (10*i) s) (fun r=>ub 50 r) (fun i s hi hs=>.inl ?_) (fun s hs=>⟨s,?_,hs.le (by omega)⟩) h 0 [] n (by omega) (by omega) ⟨by simp,fun _ hx=>by cases hx⟩
 ·obtain⟨r,hr,hb⟩:=G3 n hw (v:=i) (by omega) l3 (k:=10*i) (by omega) hs hn
  refine⟨r,?_,hb.le (by omega)⟩
  unfold uY
  try dsimp only
  rw[Vj,hr,ah,Vm]
 ·unfold uY
  try dsimp only
  rw[Vl]
def Nx(n:Nat)(x1 x2:Nat)(l3 l8:List Nat)(b:Bool)(hn:1000<n):∃c,N7 n x1 x2 l3 l8 b=some c/\IL c:=by
 have hwh:∃w h:Nat,w<=5/\h<=5/\(br b (some ((3:Int),(3:Int))) (some (UD (1+(UD ((x1%4:Nat):Int))),UD (1+(UD ((x2%3:Nat):Int))))))=some ((w:Int),(h:Int)):=by
  cases b
  refine⟨1+x1%4,1+x2%3,by omega,by omega,?_⟩
  rw[ek,aB (x:=((x1%4:Nat):Int)) (by omega) (by omega),aB (x:=((x2%3:Nat):Int)) (by omega) (by omega),aB (by omega) (by omega),aB (by omega) (by omega)]
  rfl
  exact⟨3,3,by omega,by omega,rfl⟩
 obtain⟨w,h,hw,hh,e⟩:=hwh;unfold N7;rw[e,ah]
 try dsimp only
 obtain⟨P,hP,hPl⟩:=GK n hw hh l8 hn;have hPb:P.length<=1000:=by
  have:(h+1)*(w+1)<=6*6:=Uk (by omega) (by omega)
  omega
 rw[hP,ah];cases b
 rw[ek];obtain⟨r,hr,hb⟩:=EP n hw hh l3 hn;rw[hr,ah];exact⟨_,rfl,hPb,by have:=hb.1; show r.length<=1000; omega,hb.2⟩
 rw[eT];have h1:ub 1 ([([0,1,2,3,7,11,15,14,13,12,8,4],[[5,9,10,6]])]:List Fc):=⟨by simp,fun f hf=>by
  rw[Sp.1 hf];exact⟨by simp,by simp,fun x hx=>by rw[Sp.1 hx]; simp⟩⟩
 refine hZ (bz (by simp)) (vF (fun l=>ub 5 l) ?_ (fun l hl=>⟨_,rfl,hPb,by have:=hl.1; show l.length<=1000; omega,hl.2⟩))
 obtain⟨q,hq,_⟩:=wV n l3 0;rw[show IQ n l3 0=some q from hq,ah]
 refine fF (fun _=>hZ (bz (by simp)) ⟨_,rfl,?_⟩) (fun _=>⟨_,rfl,h1.le (by omega)⟩)
 exact(kz h1 (xX (o:=[5,6,10,9]) (by simp))).le (by omega)
def Mj(n:Nat)(x1 x2:Nat)(l3 l8:List Nat)(b:Bool)(x14 x15 x16:Nat)(x17 x18 x19:Int)(x20 x21 x22:Nat)(x23 x24 x25:Int)(h15:x15<256)(h16:x16<256)(h21:x21<256)(h22:x22<256)(hn:10000<n) :
  ∃c d e,Pt n x1 x2 l3 l8 b x14 x15 x16 x17 x18 x19 x20 x21 x22 x23 x24 x25=some (c.1,c.2,d.1,d.2,e.1,e.2)/\IL c/\IL d/\IL e/\N7 n x1 x2 l3 l8 b=some c:=by
 obtain⟨c,h1,b1⟩:=Nx n x1 x2 l3 l8 b (by omega)
 obtain⟨d,h2,b2⟩:=IA n x14 x15 x16 x17 x18 x19 c.1 c.2 h15 h16 hn;obtain⟨e,h3,b3⟩:=IA n x20 x21 x22 x23 x24 x25 d.1 d.2 h21 h22 hn;refine⟨c,d,e,?_,b1,b2,b3,h1⟩;unfold Pt;rw[h1,ah]
 try dsimp only
 rw[h2,ah]
 try dsimp only
 rw[h3,ah]
def J3(n:Nat)(pts:List I2)(F:List Fc)(hn:99999<n):∃r,Oe n pts F=some r/\PY n pts F=some r/\(r.1<=0->Fcs pts F/\Lo pts F=r):=by
 have no:∀(k v:Int),0<k->((k,v).1<=0->Fcs pts F/\Lo pts F=(k,v)):=fun k v h e=>by dsimp only at e; omega
 unfold Oe PY Qs Qu
 by_cases g1:(pts.length:Int)<3
 simp only[au g1,ah,eT]; exact⟨_,rfl,rfl,no _ _ (by decide)⟩
 by_cases g2:120<(pts.length:Int)
 simp only[aq g1,au g2,ah,eT]; exact⟨_,rfl,rfl,no _ _ (by decide)⟩
 by_cases g3:(F.length:Int)<1
 simp only[aq g1,aq g2,au g3,ah,eT]; exact⟨_,rfl,rfl,no _ _ (by decide)⟩
 by_cases g4:64<(F.length:Int)
 simp only[aq g1,aq g2,aq g3,Sd g4,ah,eT]; exact⟨_,rfl,rfl,no _ _ (by decide)⟩
 simp only[aq g1,aq g2,aq g3,Se g4,ah,ek];rw[GH n (by omega) (by omega),GV n (by omega) (by omega)]
 cases hf:bt (jD pts) (.inr ()) pts.length 0 with
 | inl v =>
  have:=Ck v hf;simp only[ah,au this]; exact⟨_,rfl,rfl,no _ _ (by decide)⟩
 | inr u =>
 simp only[ah,aq (show ¬(0:Int)<=-1 by decide)]
 rw[Hn n (by omega) (by omega),Gd n (by omega) (by omega)]
 cases ht:bt (lP pts) (.inr ()) pts.length 0 with
 | inl v=>simp only[ah]; exact⟨_,rfl,rfl,no _ _ (by decide)⟩
 | inr u =>
 simp only[ah];have hb:=KR (by omega) hf
 rw[EY n (by omega) (by omega),HG n (by omega) (by omega)]
 cases h4:bt (fw (okF pts.length) F) (.inr ()) F.length 0 with
 | inl v =>
  have:=pV h4;simp only[ah,au this]; exact⟨_,rfl,rfl,no _ _ (by decide)⟩
 | inr u =>
 have ho:Oj pts F:=oz h4;simp only[ah,aq (show ¬(0:Int)<=-1 by decide)]
 rw[GZ n hb ho (by omega) (by omega),G9 n hb ho (by omega) (by omega)]
 cases h5:bt (fw (Mu pts) F) (.inr ()) F.length 0 with
 | inl v =>
  have:=pV h5;simp only[ah,au this]; exact⟨_,rfl,rfl,no _ _ (by decide)⟩
 | inr u =>
 have hva:=oz h5;have ha:=fun f hf=>Pm (hva f hf);simp only[ah,aq (show ¬(0:Int)<=-1 by decide)]
 rw[Hb n hb ho ha (by omega) (by omega),FX n hb ho ha (by omega) (by omega)]
 cases h6:bt (fw (N6 pts) F) (.inr ()) F.length 0 with
 | inl v =>
  have:=pV h6;simp only[ah,au this]; exact⟨_,rfl,rfl,no _ _ (by decide)⟩
 | inr u =>
 have htu:=oz h6;have hc:Fcs pts F:=⟨⟨by omega,by omega⟩,⟨by omega,by omega⟩,hb,K2 ht,ho,hva,htu⟩
 simp only[ah,aq (show ¬(0:Int)<=-1 by decide)]
 rw[M5 n hc hn,LU n hc hn];exact⟨Lo pts F,rfl,rfl,fun _=>⟨hc,rfl⟩⟩
section
variable{pts:List I2}{F:List Fc}(n:Nat)
def Ly{p:I2}(h:Nr p):Nw p:=by unfold Nr at h; unfold Nw; omega
def wM(hb:df pts){l:List Int}(h:ku pts.length l=true){p:I2}(hp:Nw p)(hn:1000<n):I0 n (db pts l 1) p.1 p.2=some (side (db pts l 1) p):=by
 obtain⟨hx,h3,h4⟩:=dC rfl h;exact yP n (fun i=>Ly (ov hb hx h3 i)) hp (by rw[cD]; omega) (by rw[cD]; omega)
def zO(hb:df pts){l:List Int}(h:ku pts.length l=true)(hc:mQ (db pts l 1)){p:I2}(hp:Nw p)(hn:1000<n):uh n (db pts l 1) p.1 p.2=some (side (db pts l 1) p):=by
 obtain⟨hx,h3,h4⟩:=dC rfl h;exact uO n (rh.1 hc).vr (fun i=>Ly (ov hb hx h3 i)) hp (by rw[cD]; omega) (by rw[cD]; omega)
end
noncomputable def Kw (pts:List I2) (o:List Int) (h:Uu) (p:I2):Bool:=decide (side (db pts o 1) p=2)&&h.all fun l=>decide (side (db pts l 1) p=0)
section
variable{pts:List I2}{F:List Fc}(n:Nat)
def KY(hb:df pts){o:List Int}{h:Uu}(ho:ku pts.length o=true)(hh:∀l∈h,ku pts.length l=true)(h8:h.length<=8){p:I2}(hp:Nw p)(hn:1000<n):FZ n pts F o h p.1 p.2 1=some (Kw pts o h p):=by
 obtain⟨hx,h3,h4⟩:=dC rfl ho;unfold FZ Kw;rw[kZ n hb hx (.inl rfl) (by omega) (by omega),ah,wM n hb ho hp hn,ah]
 by_cases c:side (db pts o 1) p=2
 ·rw[au c,Sd c,Ty];have hl:bh (qO n h pts F 1 p.1 p.2) n 0=some (bt (fun i=>match h[i]? with|some l=>if decide (side (db pts l 1) p=0)=true then none else some (.inl (i:Int))|none=>none) (.inr ()) h.length 0):=by
   refine aY (len:=h.length) (fun i hi=>?_) ?_ h.length 0 n (by omega) (by omega)
   ·have hy:=R5 hi;generalize h[i]=l at hy;obtain⟨gx,g3,g4⟩:=dC rfl (hh l (Sf hy));unfold qO
    try dsimp only
    rw[Vj,al hi,aJ,aN hy,ah,kZ n hb gx (.inl rfl) (by omega) (by omega),ah,wM n hb (hh l (Sf hy)) hp hn,ah,ah,Vm,hy]
    try dsimp only
    cases decide (side (db pts l 1) p=0)<;>rfl
   ·unfold qO
    try dsimp only
    rw[Vl]
  rw[hl,ah];rcases bW (f:=fun i=>match h[i]? with|some l=>if decide (side (db pts l 1) p=0)=true then none else some (.inl (i:Int))|none=>none) (e:=(.inr ():Int⊕Unit)) h.length 0 with⟨g1,g2⟩|⟨j,_,g2,g3⟩
  ·rw[g2];have:(h.all fun l=>decide (side (db pts l 1) p=0))=true:=Si.2 fun l hl=>by
    obtain⟨j,hj,ej⟩:=SG.1 hl;have:=g1 j (by omega) (by omega)
    try dsimp only at this
    rw[R5 hj,ej] at this
    try dsimp only at this
    refine R8 fun hc=>?_;rw[R6 hc] at this; cases this
   rw[this]; rfl
  ·have hj:j<h.length:=by omega
   try dsimp only at g3
   rw[R5 hj] at g3
   try dsimp only at g3
   by_cases g:decide (side (db pts h[j] 1) p=0)=true
   rw[R7 g] at g3; cases g3
   rw[R6 g] at g3;have e:=(R9 g3).symm;rw[e];have:(h.all fun l=>decide (side (db pts l 1) p=0))=false:=by
    cases ha:h.all fun l=>decide (side (db pts l 1) p=0)
    rfl
    exact Ss (Si.1 ha _ (SB hj)) g
   rw[this,ah,Se (by omega)]
 rw[aq c,Se c]; rfl
end
section
variable{pts:List I2}{F:List Fc}(n:Nat)
noncomputable def uJ (pts:List I2) (rs:Uu) (p:I2) (i:Nat):Option (Unit⊕Unit):=match rs[i]? with|some l=>if i=0 then(if side (db pts l 1) p=2 then none else some (.inl ())) else(if side (db pts l 1) p=0 then none else some (.inl ()))|none=>none
def BK(hb:df pts){rs:Uu}(h9:rs.length<=9)(ho:∀l∈rs,ku pts.length l=true/\mQ (db pts l 1)){p:I2}(hp:Nw p)(hn:1000<n):bh (lY n rs pts F 1 p.1 p.2) n 0=some (bt (uJ pts rs p) (.inr ()) rs.length 0):=by
 refine aY (len:=rs.length) (fun i hi=>?_) ?_ rs.length 0 n (by omega) (by omega)
 ·have hy:=R5 hi;generalize rs[i]=l at hy;obtain⟨h1,h2⟩:=ho l (Sf hy);obtain⟨gx,g3,g4⟩:=dC rfl h1;unfold lY uJ
  try dsimp only
  rw[Vj,al hi,aJ,aN hy,ah,lO n hb gx (.inl rfl) (by omega) (by omega),ah,zO n hb h1 h2 hp hn,ah,Vm,hy]
  try dsimp only
  by_cases g:i=0
  subst g;rw[Vj]
  by_cases c:side (db pts l 1) p=2
  rw[Sd c,show(!true)=false from rfl,ek,Vl,ah,ek,R7 rfl,R7 c]
  rw[Se c,show(!false)=true from rfl,eT,ah,eT,R7 rfl,R6 c]
  rw[Vl,Vj,ah,R6 g]
  by_cases c:side (db pts l 1) p=0
  rw[Sd c,R7 c]; rfl
  rw[Se c,R6 c]; rfl
 ·unfold lY
  try dsimp only
  rw[Vl]
end
def JL(pts:List I2)(o:List Int)(h:Uu)(p:I2):bt (uJ pts (o::h) p) (.inr ()) (o::h).length 0=if Kw pts o h p then .inr () else .inl ():=by
 have key:∀j r,uJ pts (o::h) p j=some r->r=.inl ():=fun j r hr=>by
  unfold uJ at hr
  split at hr
  split at hr
  split at hr
  cases hr
  exact(R9 hr).symm
  split at hr
  cases hr
  exact(R9 hr).symm
  cases hr
 have all:(∀j,j<(o::h).length->uJ pts (o::h) p j=none)↔Kw pts o h p=true:=by
  unfold Kw;rw[Sa,decide_eq_true_iff,Si];constructor
  intro g;refine⟨R8 fun c=>?_,fun l hl=>?_⟩
  have:=g 0 (by simp)
  unfold uJ at this;simp[c] at this
  obtain⟨j,hj,e⟩:=SG.1 hl;have:=g (j+1) (by simp; omega)
  unfold uJ at this;rw[SH,R5 hj,e] at this;refine Sd (R8 fun c=>?_);simp[c] at this
  ·rintro⟨g1,g2⟩ j hj;unfold uJ;cases j with
   | zero=>simp[g1]
   | succ j =>
    have hj:j<h.length:=by simp at hj; omega
    rw[SH,R5 hj];have:=of_decide_eq_true (g2 _ (SB hj));simp[this]
 rcases bW (f:=uJ pts (o::h) p) (e:=.inr ()) (o::h).length 0 with⟨h1,h2⟩|⟨j,_,h2,h3⟩
 rw[h2,R7 (all.1 fun j hj=>h1 j (by omega) (by omega))]
 rw[R6 fun c=>by rw[all.2 c j (by omega)] at h3; cases h3]
 exact key j _ h3
def Gq{pts:List I2}{F:List Fc}(n:Nat)(hv:Fcs pts F){f:Nat}(hf:f<F.length){p:I2}(hp:Nw p)(hn:1000<n):wP n pts F (f:Int) p.1 p.2 1=some (Kw pts (F.getD f ([],[])).1 (F.getD f ([],[])).2 p):=by
 have h9:=(da hv f).1;have ho:∀l∈ak F f,ku pts.length l=true/\mQ (db pts l 1):=fun l hl=>by
  obtain⟨r,hr,e⟩:=SG.1 hl;have:=rz hv hf hr;rw[Sb,R5 hr] at this;rw[<-e]; exact this
 unfold wP;rw[al hf,aJ,aN (dz hf),ah]
 try dsimp only
 rw[mz n _ _ (by unfold ak at h9; rw[SJ] at h9; omega),ah]
 have h1:=BK (F:=F) n hv.near h9 ho hp hn;unfold ak at h1;rw[h1,JL,ah];cases Kw pts (F.getD f ([],[])).1 (F.getD f ([],[])).2 p<;>rfl
def qm(n:Nat)(pts:List I2)(F:List Fc)(hn:99999<n):∃r,Jv n pts F=some r/\NO n pts F=some r/\(r=0->Fcs pts F/\(Lo pts F).1<=0):=by
 obtain⟨r,h1,h2,h3⟩:=J3 n pts F hn;obtain⟨k,v⟩:=r;unfold Jv NO;rw[h1,h2,ah]
 by_cases c:0<k
 exact⟨150,by dsimp only; rw[au c],by dsimp only; rw[au c],fun h=>by omega⟩
 refine⟨0,by dsimp only; rw[aq c],by dsimp only; rw[aq c],fun _=>?_⟩
 obtain⟨g1,g2⟩:=h3 (by dsimp only; omega)
 exact⟨g1,by rw[g2]; dsimp only; omega⟩
def Fi{σ:Type}{B C:(σ×Int)->Option ((σ×Int)⊕σ)}{len:Nat}(hB:∀(s:σ) (i:Nat),i<len->∃s',B (s,(i:Int))=some (.inl (s',((i+1:Nat):Int)))/\C (s,(i:Int))=some (.inl (s',((i+1:Nat):Int))))
  (hE:∀s,B (s,(len:Int))=some (.inr s)/\C (s,(len:Int))=some (.inr s)):∀(k i n:Nat) (s:σ),i+k=len->k<n->∃v,bh B n (s,(i:Int))=some v/\bh C n (s,(i:Int))=some v
 | 0,i,n+1,s,h,_=>by
  rw[Tn] at h; subst h;exact⟨s,eE (hE s).1,eE (hE s).2⟩
 | k+1,i,n+1,s,h,hn=>by
  obtain⟨s',h1,h2⟩:=hB s i (by omega)
  rw[eO h1,eO h2];exact Fi hB hE k (i+1) n s' (by omega) (by omega)
def CM{q:Nat->Bool}{len:Nat}:(∃j:Nat,bt (fun i=>if q i then some (.inl (i:Int)) else none) (.inr ():Int⊕Unit) len 0=.inl (j:Int)/\(List.range len).any q=true)\/(bt (fun i=>if q i then some (.inl (i:Int)) else none) (.inr ():Int⊕Unit) len 0=.inr ()/\(List.range len).any q=false):=by
 rcases bW (f:=fun i=>if q i then some (.inl (i:Int)) else none) (e:=(.inr ():Int⊕Unit)) len 0 with⟨h1,h2⟩|⟨j,_,h2,h3⟩
 refine .inr ⟨h2,?_⟩;rw[List.any_eq_false];intro i hi c;have:=h1 i (by omega) (by have:=TF.1 hi; omega)
 rw[R7 c] at this; cases this
 by_cases g:q j=true
 rw[R7 g] at h3;exact .inl ⟨j,(R9 h3).symm,TX.2 ⟨j,TF.2 (by omega),g⟩⟩
 rw[R6 g] at h3; cases h3
section
variable{pts:List I2}{F:List Fc}(n:Nat)
def Bs(hv:Fcs pts F){i:Nat}:CD n (F.getD i ([],[])).1 (F.getD i ([],[])).2=some (ak F i):=by
 have h3:=(da hv i).1;unfold ak at h3;rw[SJ] at h3;exact mz n _ _ (by omega)
def JJ(pts:List I2)(F:List Fc)(x y:Int)(hn:99999<n):∃r,OJ n pts F x y=some r/\PZ n pts F x y=some r/\r.1.length<=1000:=by
 obtain⟨r,h1,h2,h3⟩:=qm n pts F hn;unfold OJ PZ;rw[h1,h2,ah,ah]
 by_cases c:r=0
 ·obtain⟨hv,_⟩:=h3 c;rw[Sd c,SM,ek,ek];have hcond:∃b,(br (decide (x<0)) (some true) (br (decide ((F.length:Int)<=x)) (some true) (br (decide (y < -1)) (some true) (gd (bw x F.length) (ob (F[x.toNat]?) fun(_,l72)=>some (decide ((l72.length:Int)<=y)))))))=some b/\(b=false->∃i:Nat,x=(i:Int)/\i<F.length/\∃j:Nat,y+1=(j:Int)/\j<(ak F i).length):=by
   by_cases c1:x<0
   exact⟨true,by rw[au c1],fun h=>by cases h⟩
   by_cases c2:(F.length:Int)<=x
   exact⟨true,by rw[aq c1,au c2],fun h=>by cases h⟩
   by_cases c3:y < -1
   exact⟨true,by rw[aq c1,aq c2,au c3],fun h=>by cases h⟩
   obtain⟨i,rfl⟩:∃i:Nat,x=(i:Int):=⟨x.toNat,by omega⟩
   have hi:i<F.length:=by omega
   refine⟨decide (((F.getD i ([],[])).2.length:Int)<=y),by rw[aq c1,aq c2,aq c3,al hi,aJ,aN (dz hi),ah],fun h=>⟨i,rfl,hi,(y+1).toNat,by omega,?_⟩⟩
   have:=of_decide_eq_false h;unfold ak;rw[SJ]; omega
  obtain⟨b,e,hb⟩:=hcond;rw[e,ah,ah];cases b
  ·obtain⟨i,rfl,hi,j,hy,hj⟩:=hb rfl;have hy2:=(da hv i).1;have hl:=(lG hv hi _ (SB hj)).1;obtain⟨hx,g3,g4⟩:=dC rfl hl;have hat:(ak F i)[(((j:Nat):Int)).toNat]? = some (ak F i)[j]:=aN (R5 hj);rw[ek,ek,al hi,aJ,aN (dz hi),ah];refine⟨(db pts (ak F i)[j] 1,0),?_,?_,by show(db ..).length<=_; rw[cD]; omega⟩
   ·try dsimp only
    rw[jz n hv (by omega),ah,hy,aB (by omega) (by omega),al hj,aJ,hat,ah,kZ n hv.near hx (.inl rfl) (by omega) (by omega),ah]
   ·rw[aJ,ah]
    try dsimp only
    rw[Bs n hv,ah,hy,aB (by omega) (by omega),al hj,aJ,hat,ah,lO n hv.near hx (.inl rfl) (by omega) (by omega),ah]
  exact⟨([],2),rfl,rfl,by simp⟩
 rw[Se c,SL,eT,eT];exact⟨([],r),rfl,rfl,by simp⟩
def Js(pts:List I2)(F:List Fc)(x:Int)(hn:99999<n):∃r,N8 n pts F x=some r/\Ow n pts F x=some r:=by
 obtain⟨r,h1,h2,h3⟩:=qm n pts F hn;unfold N8 Ow;rw[h1,h2,ah,ah]
 by_cases c:r=0
 ·obtain⟨hv,_⟩:=h3 c;rw[Sd c,SM,ek,ek]
  by_cases c1:x<0
  rw[au c1,ah,ah]; exact⟨_,rfl,rfl⟩
  rw[aq c1,ah,ah]
  by_cases c2:(F.length:Int)<=x
  rw[au c2,au c2]; exact⟨_,rfl,rfl⟩
  rw[aq c2,aq c2];obtain⟨i,rfl⟩:∃i:Nat,x=(i:Int):=⟨x.toNat,by omega⟩
  have hi:i<F.length:=by omega
  have h9:=(da hv i).1;have ho:=lG hv hi;obtain⟨v,g1,g2⟩:=Fi (B:=uU n (ak F i) pts F) (C:=vp n (ak F i) pts F) (len:=(ak F i).length) (fun s j hj=>by
   have hy:=R5 hj;generalize(ak F i)[j]=l at hy;obtain⟨e1,e2⟩:=ho l (Sf hy);obtain⟨hx,g3,g4⟩:=dC rfl e1;have hne:db pts l 1≠[]:=fun e=>by have:=cD pts l 1; rw[e] at this; simp at this; omega
   refine⟨UD (s+qE (db pts l 1)),?_,?_⟩
   ·unfold uU
    try dsimp only
    rw[Vj,al hj,aJ,aN hy,ah,kZ n hv.near hx (.inl rfl) (by omega) (by omega),ah,FQ n (ov hv.near hx g3) (by rw[cD]; omega) (by rw[cD]; omega),ah,Vm]
   ·unfold vp
    try dsimp only
    rw[Vj,al hj,aJ,aN hy,ah,lO n hv.near hx (.inl rfl) (by omega) (by omega),ah,yJ n (ov hv.near hx g3) hne (by rw[cD]; omega) (by rw[cD]; omega),ah,Vm]) (fun s=>⟨by
   unfold uU
   try dsimp only
   rw[Vl],by
   unfold vp
   try dsimp only
   rw[Vl]⟩) (ak F i).length 0 n 0 (by omega) (by omega)
  refine⟨(v,0),?_,?_⟩
  ·rw[al hi,aJ,aN (dz hi),ah]
   try dsimp only
   rw[jz n hv (by omega),ah,show bh (uU n (ak F i) pts F) n (0,0)=some v from g1,ah]
  ·unfold Qt;rw[al hi,aJ,aN (dz hi),ah]
   try dsimp only
   rw[Bs n hv,ah,show bh (vp n (ak F i) pts F) n (0,0)=some v from g2,ah,ah]
 rw[Se c,SL,eT,eT];exact⟨_,rfl,rfl⟩
noncomputable def KG (pts:List I2) (rs:Uu) (p:I2) (i:Nat):Bool:=decide (side (db pts (rs.getD i []) 1) p=1)
noncomputable def toQ (pts:List I2) (F:List Fc) (p:I2) (i:Nat):Bool:=Kw pts (F.getD i ([],[])).1 (F.getD i ([],[])).2 p ||(List.range (ak F i).length).any (KG pts (ak F i) p)
def ET(hv:Fcs pts F){rs:Uu}(h9:rs.length<=9)(ho:∀l∈rs,ku pts.length l=true/\mQ (db pts l 1)){p:I2}(hp:Nw p)(hn:1000<n):bh (ym n rs pts F p.1 p.2) n 0=some (bt (fun i=>if KG pts rs p i then some (.inl (i:Int)) else none) (.inr ()) rs.length 0):=by
 refine aY (len:=rs.length) (fun i hi=>?_) ?_ rs.length 0 n (by omega) (by omega)
 ·have hy:=R5 hi;have eg:rs.getD i []=rs[i]:=by rw[Sb,hy]; rfl
  unfold ym KG;rw[eg];generalize rs[i]=l at hy;obtain⟨h1,h2⟩:=ho l (Sf hy);obtain⟨gx,g3,g4⟩:=dC rfl h1
  try dsimp only
  rw[Vj,al hi,aJ,aN hy,ah,kZ n hv.near gx (.inl rfl) (by omega) (by omega),ah,wM n hv.near h1 hp hn,ah,ah,Vm]
  cases decide (side (db pts l 1) p=1)<;>rfl
 ·unfold ym
  try dsimp only
  rw[Vl]
def Fz(hv:Fcs pts F){rs:Uu}(h9:rs.length<=9)(ho:∀l∈rs,ku pts.length l=true/\mQ (db pts l 1)){p:I2}(hp:Nw p)(hn:1000<n):bh (yb n rs pts F p.1 p.2) n 0=some (if(List.range rs.length).any (KG pts rs p) then .inl () else .inr ()):=by
 rw[<-pE (r:=(.inl ():Unit⊕Unit)) (q:=KG pts rs p) (f:=fun j=>if KG pts rs p j then some (.inl ()) else none) (len:=rs.length) (fun j _=>rfl)]
 refine aY (len:=rs.length) (fun i hi=>?_) ?_ rs.length 0 n (by omega) (by omega)
 ·have hy:=R5 hi;have eg:rs.getD i []=rs[i]:=by rw[Sb,hy]; rfl
  unfold yb KG;rw[eg];generalize rs[i]=l at hy;obtain⟨h1,h2⟩:=ho l (Sf hy);obtain⟨gx,g3,g4⟩:=dC rfl h1
  try dsimp only
  rw[Vj,al hi,aJ,aN hy,ah,lO n hv.near gx (.inl rfl) (by omega) (by omega),ah,zO n hv.near h1 h2 hp hn,ah,Vm]
  cases decide (side (db pts l 1) p=1)<;>rfl
 ·unfold yb
  try dsimp only
  rw[Vl]
def DM(pts:List I2)(F:List Fc)(p:I2)(hn:99999<n):∃r,Og n pts F p.1 p.2=some r/\Pg n pts F p.1 p.2=some r:=by
 obtain⟨r,h1,h2,h3⟩:=qm n pts F hn;unfold Og Pg;rw[h1,h2,ah,ah]
 by_cases c:r=0
 ·obtain⟨hv,_⟩:=h3 c;have hfl:=hv.flen;rw[Sd c,SM,ek,ek,F0,AP,ah,ah]
  by_cases hf:Fa p
  rw[au hf,au hf]; exact⟨_,rfl,rfl⟩
  rw[aq hf,aq hf];have hp:Nw p:=by unfold Fa at hf; unfold Nw; omega
  have e1:bh (y7 n F pts p.1 p.2) n 0=some (bt (fun i=>if toQ pts F p i then some (.inl (i:Int)) else none) (.inr ()) F.length 0):=by
   refine aY (len:=F.length) (fun i hi=>?_) ?_ F.length 0 n (by omega) (by omega)
   ·obtain⟨ho,h8,hh⟩:=vY hv hi;unfold y7 toQ
    try dsimp only
    rw[Vj,al hi,aJ,aN (dz hi),ah]
    try dsimp only
    rw[KY n hv.near ho hh h8 hp (by omega),ah]
    cases Kw pts (F.getD i ([],[])).1 (F.getD i ([],[])).2 p
    rw[ek,jz n hv (by omega),ah,ET n hv (da hv i).1 (lG hv hi) hp (by omega),ah,Bool.false_or,Vm]
    rcases CM (q:=KG pts (ak F i) p) (len:=(ak F i).length) with⟨j,g1,g2⟩|⟨g1,g2⟩
    rw[g1,g2];simp only[ah];rw[Sd (by omega)]; rfl
    rw[g1,g2]; rfl
    rw[eT,ah,eT,T6]; rfl
   ·unfold y7
    try dsimp only
    rw[Vl]
  have e2:bh (zt n F pts p.1 p.2) n 0=some (bt (fun i=>if toQ pts F p i then some (.inl (i:Int)) else none) (.inr ()) F.length 0):=by
   refine aY (len:=F.length) (fun i hi=>?_) ?_ F.length 0 n (by omega) (by omega)
   ·have hF72:P7 n pts F (i:Int) p.1 p.2=some (toQ pts F p i):=by
     unfold P7 toQ;rw[al hi,aJ,aN (dz hi),ah]
     try dsimp only
     rw[Bs n hv,ah,Fz n hv (da hv i).1 (lG hv hi) hp (by omega),ah]
     cases(List.range (ak F i).length).any (KG pts (ak F i) p)
     rw[Bool.or_false]
     show ob (wP n pts F (i:Int) p.1 p.2 1) _=_
     rw[Gq n hv hi hp (by omega),ah]
     rw[T7]; rfl
    unfold zt
    try dsimp only
    rw[Vj,hF72,ah,Vm]
    cases toQ pts F p i<;>rfl
   ·unfold zt
    try dsimp only
    rw[Vl]
  rw[e1,e2,ah,ah];rcases CM (q:=toQ pts F p) (len:=F.length) with⟨j,g1,g2⟩|⟨g1,g2⟩
  rw[g1]; exact⟨_,rfl,rfl⟩
  rw[g1]; exact⟨_,rfl,rfl⟩
 rw[Se c,SL,eT,eT];exact⟨_,rfl,rfl⟩
end
def Ji (n:Nat) (x1 x2:Nat) (l3 l7:List Nat) (x11:Bool) (x12 x13 x14:Nat) (x15 x16 x17:Int) (x18 x19 x20:Nat) (x21 x22 x23 x24 x25:Int) (x26 x27:Nat) (x28 x29:Int) (h13:x13<256) (h14:x14<256) (h19:x19<256) (h20:x20<256) (hn:99999<n) (hw:F7 n=some true) :
  F5 n x1 x2 l3 l7 x11 x12 x13 x14 x15 x16 x17 x18 x19 x20 x21 x22 x23 x24 x25 x26 x27 x28 x29=some true:=by
 unfold F5;obtain⟨c,d,e,h35,bc,bd,be,_⟩:=Mj n x1 x2 l3 l7 x11 x12 x13 x14 x15 x16 x17 x18 x19 x20 x21 x22 x23 h13 h14 h19 h20 (by omega)
 rw[h35,ah]
 try dsimp only
 have hall:∀x∈[(c.1,c.2),(d.1,d.2),(e.1,e.2)],IL x:=fun x hx=>by
  simp only[Sx,List.not_mem_nil,or_false] at hx;rcases hx with rfl|rfl|rfl
  exact bc
  exact bd
  exact be
 have hO:bh (D6 n c.1 c.2 d.1 d.2 e.1 e.2 x26 x24 x25 x27 x28 x29) n 0=some (.inr ()):=by
  have h1:bh (D6 n c.1 c.2 d.1 d.2 e.1 e.2 x26 x24 x25 x27 x28 x29) n 0=some (bt (fun _=>none) (.inr ()) 3 0):=by
   refine aY (len:=3) (fun i hi=>?_) ?_ 3 0 n (by omega) (by omega)
   ·have hi':i < [(c.1,c.2),(d.1,d.2),(e.1,e.2)].length:=hi;have hx:=R5 hi';have hb:=hall _ (SB hi');generalize [(c.1,c.2),(d.1,d.2),(e.1,e.2)][i]=x at hx hb;obtain⟨p,G⟩:=x;have hG:G.length<=1000:=hb.2.1;have hI:∀y z,bh (El n x24 x25 y z x27 p G) n 0=some (.inr ()):=fun y z=>by
     have h1:bh (El n x24 x25 y z x27 p G) n 0=some (bt (fun _=>none) (.inr ()) 4 0):=by
      refine aY (len:=4) (fun j hj=>?_) ?_ 4 0 n (by omega) (by omega)
      ·have hj':j < [(x24,x25),(y,-1),(z,UD ((x27%2:Nat):Int)),(x24,-1)].length:=hj;have hy:=R5 hj';generalize [(x24,x25),(y,-1),(z,UD ((x27%2:Nat):Int)),(x24,-1)][j]=u at hy;obtain⟨u1,u2⟩:=u;obtain⟨r,a1,a2,a3⟩:=JJ n p G u1 u2 hn;obtain⟨s,b1,b2⟩:=Js n p G u1 hn;obtain⟨r1,r2⟩:=r;obtain⟨s1,s2⟩:=s;unfold El;rw[Vj,al hj,aJ,aN hy,ah]
       try dsimp only
       rw[a1,ah,a2,ah]
       try dsimp only
       rw[b1,ah,b2,ah]
       try dsimp only
       simp only[decide_true,SM,ek];rw[IW n a3 (by omega),ah]
       simp only[decide_true,SM,ek,ah];rw[Vm]
      unfold El;rw[aq (by decide)]
     rw[h1]; rfl
    have hJ:bh (D2 n x28 x29 x26 x27 p G) n 0=some (.inr ()):=by
     have h1:bh (D2 n x28 x29 x26 x27 p G) n 0=some (bt (fun _=>none) (.inr ()) 2 0):=by
      refine aY (len:=2) (fun j hj=>?_) ?_ 2 0 n (by omega) (by omega)
      ·have hj':j < [(x28,x29),(UD ((x26%22:Nat):Int),UD ((x27%18:Nat):Int))].length:=hj;have hy:=R5 hj';generalize [(x28,x29),(UD ((x26%22:Nat):Int),UD ((x27%18:Nat):Int))][j]=u at hy;obtain⟨u1,u2⟩:=u;obtain⟨s,b1,b2⟩:=DM n p G (u1,u2) hn;obtain⟨s1,s2⟩:=s;unfold D2;rw[Vj,al hj,aJ,aN hy,ah]
       try dsimp only at b1 b2 ⊢
       rw[b1,ah,b2,ah]
       try dsimp only
       simp only[decide_true,SM,ek,ah];rw[Vm]
      unfold D2;rw[aq (by decide)]
     rw[h1]; rfl
    unfold D6;rw[Vj,al hi,aJ,aN hx,ah]
    try dsimp only
    rw[Vm,fj (by omega),ah,fj (by omega),ah,hI,ah]
    try dsimp only
    rw[hJ,ah,Vm]
   unfold D6;rw[aq (by decide)]
  rw[h1]; rfl
 rw[hO,ah]
 try dsimp only
 rw[hw,ah]
end
section
open Go Go.Ab Go.Ab.W
set_option maxRecDepth 100000
def Kb:F7 200000=some true:=by kernel_rfl
end
end Go.Proofs.YtmndpgfbkicndaaGreat
