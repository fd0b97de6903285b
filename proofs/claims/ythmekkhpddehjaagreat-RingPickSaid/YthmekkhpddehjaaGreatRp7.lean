/- A part of the proof. -/
import Derived.Test.YthmekkhpddehjaaGreatRp6
section
namespace Jd
section
variable {n : Nat} {v : Nat → P2}
theorem Simple.DQ (S:Simple n v) {L:Int} (hL:∀i,i<n→HS n v 1 i L∧HS n v (-1) i (L-1)) {p:P2} (hp:∀i,i<n→(v i).2≠p.2):W n v p=0∨W n v p=2*L-1∧(L=0∨L=1):=by
 have hn3:=S.n3;have hp':∀i,i<n→(v (i+1)).2≠p.2:=fun i hi=>by
  by_cases e:i+1=n
  ·rw[e,S.cl]; exact hp 0 (by omega)
  ·exact hp (i+1) (by omega)
 have hX:∀i,∃X:Rat,i<n→(∀q:P2,q.2=p.2→we (v i) (v (i+1)) q=if q.1<X then dd (v i) (v (i+1)) p.2 else 0)∧(dd (v i) (v (i+1)) p.2≠0→∃t,0<t∧t<1∧cv (v i) (v (i+1)) t=(X,p.2)):=fun i=>by
  by_cases hi:i<n
  ·obtain⟨X,h⟩:=Be (hp i hi) (hp' i hi);exact⟨X,fun _=>h⟩
  ·exact⟨0,fun h=>absurd h hi⟩
 obtain⟨X,hX⟩:=Classical.axiomOfChoice hX;have hW:∀q:P2,q.2=p.2→W n v q=aD n fun i=>if q.1<X i then dd (v i) (v (i+1)) p.2 else 0:=fun q hq=>ar fun i hi=>(hX i hi).1 q hq
 by_cases hE:∃i,i<n∧(dd (v i) (v (i+1)) p.2≠0∧p.1<X i)
 ·obtain⟨i,i1,⟨i2,i3⟩,i4⟩:=kX (X:=X) hE;obtain⟨k,k1,⟨k2,k3⟩,k4⟩:=kX (X:=fun i=>-X i) hE;have hl:W n v p=L∨W n v p=L-1:=by
   obtain⟨t,t0,t1,t2⟩:=(hX i i1).2 i2;have key:∀σ M,0 < σ*cr (v i) (v (i+1)) (-1,0)→HS n v σ i M→W n v p=M:=by
    intro σ M hσ hM;obtain⟨e,e0,he⟩:=hM t (-1,0) t0 t1 hσ;obtain⟨x,x0,xe,xp⟩:=dJ e0 (show 0<X i-p.1 by grind)
    rw[←he x x0 (by grind),t2,hW p rfl,hW (sm (X i,p.2) (-1,0) x) (by unfold sm; grind)]
    refine ar fun j hj=>?_
    by_cases hd:dd (v j) (v (j+1)) p.2=0
    ·rw[hd,ite_self,ite_self]
    ·by_cases hx:p.1<X j
     ·have:=i4 j hj ⟨hd,hx⟩;rw[if_pos hx,if_pos (by unfold sm; grind)]
     ·rw[if_neg hx,if_neg (by unfold sm; grind)]
   by_cases h1:(v i).2<p.2∧p.2<(v (i+1)).2
   ·exact .inl (key 1 L (by unfold cr; grind) (hL i i1).1)
   ·have h2:(v (i+1)).2<p.2∧p.2<(v i).2:=by
     unfold dd at i2;rw[if_neg h1] at i2;exact Decidable.byContradiction fun h=>i2 (if_neg h)
    exact .inr (key (-1) (L-1) (by unfold cr; grind) (hL i i1).2)
  have hr:L=0∨L=1:=by
   obtain⟨t,t0,t1,t2⟩:=(hX k k1).2 k2;have key:∀σ M,0 < σ*cr (v k) (v (k+1)) (1,0)→HS n v σ k M→M=0:=by
    intro σ M hσ hM;obtain⟨e,e0,he⟩:=hM t (1,0) t0 t1 hσ;rw[←he e e0 (by grind),t2,hW (sm (X k,p.2) (1,0) e) (by unfold sm; grind)]
    refine bj fun j hj=>?_
    by_cases hd:dd (v j) (v (j+1)) p.2=0
    ·rw[hd,ite_self]
    ·refine if_neg fun hx=>?_;have hx':X k+e<X j:=by unfold sm at hx; grind
     have:=k4 j hj ⟨hd,by grind⟩
     grind
   by_cases h1:(v k).2<p.2∧p.2<(v (k+1)).2
   ·have:=key (-1) (L-1) (by unfold cr; grind) (hL k k1).2
    exact .inr (by omega)
   ·have h2:(v (k+1)).2<p.2∧p.2<(v k).2:=by
     unfold dd at k2;rw[if_neg h1] at k2;exact Decidable.byContradiction fun h=>k2 (if_neg h)
    exact .inl (key 1 L (by unfold cr; grind) (hL k k1).1)
  omega
 ·left
  rw[hW p rfl];refine bj fun j hj=>?_
  by_cases hd:dd (v j) (v (j+1)) p.2=0
  ·rw[hd,ite_self]
  ·exact if_neg fun hx=>hE ⟨j,hj,hd,hx⟩
theorem Simple.Bm (S:Simple n v) {L:Int} (hL:∀i,i<n→HS n v 1 i L∧HS n v (-1) i (L-1)) {p:P2} (hp:∀i,i<n→((v i).2≤p.2∧p.2<(v (i+1)).2)∨((v (i+1)).2≤p.2∧p.2<(v i).2)→tn (v i) (v (i+1)) p≠0) :
  W n v p=0∨W n v p=2*L-1∧(L=0∨L=1):=by
 have hn3:=S.n3;have h1:Ev fun x _=>∀i,i<n→(v i).2≤p.2∨p.2+x<(v i).2:=Ev.all (P:=fun i x _=>(v i).2≤p.2∨p.2+x<(v i).2) fun i _=>by
  by_cases h:(v i).2≤p.2
  ·exact Ev.of fun _ _ _ _=>.inl h
  ·exact⟨((v i).2-p.2)/2,by grind,fun x y x0 x1 _ _=>.inr (by grind)⟩
 have h2:Ev fun x _=>∀i,i<n→(tn (v i) (v (i+1)) p<0→tn (v i) (v (i+1)) (p.1,p.2+x)<0)∧(0<tn (v i) (v (i+1)) p→0<tn (v i) (v (i+1)) (p.1,p.2+x)) :=
  Ev.all (P:=fun i x _=>(tn (v i) (v (i+1)) p<0→tn (v i) (v (i+1)) (p.1,p.2+x)<0)∧(0<tn (v i) (v (i+1)) p→0<tn (v i) (v (i+1)) (p.1,p.2+x))) fun i _=>by
   have e:∀x,tn (v i) (v (i+1)) (p.1,p.2+x)=tn (v i) (v (i+1)) p+x*((v (i+1)).1-(v i).1):=fun x=>by unfold tn; grind
   by_cases hm:tn (v i) (v (i+1)) p<0
   ·obtain⟨a,a0,ha⟩:=sO hm ((v (i+1)).1-(v i).1);exact⟨a,a0,fun x y x0 x1 _ _=>⟨fun _=>by rw[e]; exact ha x x0 x1,fun h=>by grind⟩⟩
   ·by_cases hq:0<tn (v i) (v (i+1)) p
    ·obtain⟨a,a0,ha⟩:=sO (A:=-tn (v i) (v (i+1)) p) (by grind) (-((v (i+1)).1-(v i).1))
     exact⟨a,a0,fun x y x0 x1 _ _=>⟨fun h=>absurd h hm,fun _=>by rw[e]; have:=ha x x0 x1; grind⟩⟩
    ·exact Ev.of fun _ _ _ _=>⟨fun h=>absurd h hm,fun h=>absurd h hq⟩
 obtain⟨x,x0,hx⟩:=h1.and h2;obtain⟨g1,g2⟩:=hx x x x0 (by grind) x0 (by grind)
 have g1':∀i,i<n→(v (i+1)).2≤p.2∨p.2+x<(v (i+1)).2:=fun i hi=>by
  by_cases e:i+1=n
  ·rw[e,S.cl]; exact g1 0 (by omega)
  ·exact g1 (i+1) (by omega)
 have e:W n v p=W n v (p.1,p.2+x):=ar fun i hi=>by
  have a:=g1 i hi;have b:=g1' i hi;obtain⟨c1,c2⟩:=g2 i hi;have hc:=hp i hi
  by_cases k1:(v i).2≤p.2∧p.2<(v (i+1)).2
  ·rw[gF k1.1 k1.2,gF (by grind) (by grind)]
   exact jR ⟨c2,fun h=>by have:=hc (.inl k1); grind⟩
  ·by_cases k2:(v (i+1)).2≤p.2∧p.2<(v i).2
   ·rw[iI (v (i+1)) (v i),iI (v (i+1)) (v i),gF k2.1 k2.2,gF (by grind) (by grind),gG (v i),gG (v i)]
    rw[jR (d:=0 < -tn (v i) (v (i+1)) (p.1,p.2+x)) ⟨fun h=>by have:=c1 (by grind); grind,fun h=>by have:=hc (.inr k2); grind⟩]
   ·rw[dF k1 k2,dF (by grind) (by grind)]
 rw[e];exact S.DQ hL fun i hi=>by have:=g1 i hi; grind
theorem Simple.sign (S:Simple n v):∃s:Int,(s=1∨s = -1)∧∀p:P2,(∀i,i<n→((v i).2≤p.2∧p.2<(v (i+1)).2)∨((v (i+1)).2≤p.2∧p.2<(v i).2)→tn (v i) (v (i+1)) p≠0)→W n v p=0∨W n v p=s:=by
 obtain⟨L,hL⟩:=S.along
 by_cases h:L=0∨L=1
 ·exact⟨2*L-1,by omega,fun p hp=>(S.Bm hL hp).imp_right And.left⟩
 ·exact⟨1,.inl rfl,fun p hp=>.inl ((S.Bm hL hp).resolve_right fun g=>h g.2)⟩
end
def jb (a:I2):I2:=(-a.1,-a.2)
def wj (a b p:I2):Int:=if a.2<p.2∧p.2≤b.2∧ti a b p<0 then -1 else if b.2<p.2∧p.2≤a.2∧0<ti a b p then 1 else 0
def up (p v:I2):Int:=if p.2<v.2∨(v.2=p.2∧v.1<p.1) then 1 else 0
def gU (r:List I2) (p:I2):Int:=aD r.length fun i=>wj (nx r i) (nx r (i+1)) p
theorem o5 {a b p:I2} (h:a.2=p.2):ti a b p=(b.2-a.2)*(a.1-p.1):=by unfold ti; grind
theorem qD {a b p:I2} (h:b.2=p.2):ti a b p=(b.2-a.2)*(b.1-p.1):=by unfold ti; grind
theorem eR {k x:Int} (h:0<k):(0<k*x↔0<x)∧(k*x<0↔x<0):=⟨eY h,dU h⟩
theorem jw {k x:Int} (h:k<0):(0<k*x↔x<0)∧(k*x<0↔0<x):=by
 have e:k*x = -((-k)*x):=by grind
 have:=eR (x:=x) (show 0 < -k by omega)
 rw[e]; omega
theorem lq {a b p:I2} (h:ti a b p=0):wi a b p=0:=by unfold wi; rw[if_neg (by omega),if_neg (by omega)]
theorem xX {a b p:I2} (h:ti a b p=0):wj a b p=0:=by unfold wj; rw[if_neg (by omega),if_neg (by omega)]
theorem I8 {a b p:I2} (h:¬bE a b p):wi a b p-wj a b p=up p b-up p a:=by
 by_cases ha:a.2=p.2
 ·by_cases hb:b.2=p.2
  ·have h0:ti a b p=0:=by rw[o5 ha,hb,ha]; simp
   rw[lq h0,xX h0];have:¬(min a.1 b.1≤p.1∧p.1≤max a.1 b.1):=fun g=>h ⟨h0,g.1,g.2,by omega,by omega⟩
   unfold up
   by_cases g:a.1<p.1
   ·rw[if_pos (.inr ⟨hb,by omega⟩),if_pos (.inr ⟨ha,g⟩)]<;>rfl
   ·rw[if_neg (by omega),if_neg (by omega)]<;>rfl
  ·have ht:=o5 (b:=b) ha;have hne:a.1≠p.1:=fun e=>h (by rw[show p=a from Prod.ext e.symm ha.symm]; exact j7 a b)
   by_cases hb':p.2<b.2
   ·have s:=eR (k:=b.2-a.2) (x:=a.1-p.1) (by omega)
    rw[←ht] at s;unfold wi wj up
    by_cases g:a.1<p.1
    ·rw[if_neg (by omega),if_neg (by omega),if_neg (by omega),if_neg (by omega),if_pos (by omega),if_pos (by omega)]<;>rfl
    ·rw[if_pos (by omega),if_neg (by omega),if_neg (by omega),if_pos (by omega),if_neg (by omega)]<;>rfl
   ·have s:=jw (k:=b.2-a.2) (x:=a.1-p.1) (by omega)
    rw[←ht] at s;unfold wi wj up
    by_cases g:a.1<p.1
    ·rw[if_neg (by omega),if_neg (by omega),if_neg (by omega),if_pos (by omega),if_neg (by omega),if_pos (by omega)]<;>rfl
    ·rw[if_neg (by omega),if_neg (by omega),if_neg (by omega),if_neg (by omega),if_neg (by omega),if_neg (by omega)]<;>rfl
 ·by_cases hb:b.2=p.2
  ·have ht:=qD (a:=a) hb;have hne:b.1≠p.1:=fun e=>h (by rw[show p=b from Prod.ext e.symm hb.symm]; exact pE a b)
   by_cases ha':p.2<a.2
   ·have s:=jw (k:=b.2-a.2) (x:=b.1-p.1) (by omega)
    rw[←ht] at s;unfold wi wj up
    by_cases g:b.1<p.1
    ·rw[if_neg (by omega),if_neg (by omega),if_neg (by omega),if_neg (by omega),if_pos (by omega),if_pos (by omega)]<;>rfl
    ·rw[if_neg (by omega),if_pos (by omega),if_neg (by omega),if_neg (by omega),if_neg (by omega),if_pos (by omega)]<;>rfl
   ·have s:=eR (k:=b.2-a.2) (x:=b.1-p.1) (by omega)
    rw[←ht] at s;unfold wi wj up
    by_cases g:b.1<p.1
    ·rw[if_neg (by omega),if_neg (by omega),if_pos (by omega),if_pos (by omega),if_neg (by omega)]<;>rfl
    ·rw[if_neg (by omega),if_neg (by omega),if_neg (by omega),if_neg (by omega),if_neg (by omega),if_neg (by omega)]<;>rfl
  ·by_cases ha':p.2<a.2
   ·by_cases hb':p.2<b.2
    ·unfold wi wj up;rw[if_neg (by omega),if_neg (by omega),if_neg (by omega),if_neg (by omega),if_pos (by omega),if_pos (by omega)]<;>rfl
    ·have h0:ti a b p≠0:=fun h0=>h (jH (.inr ⟨by omega,by omega⟩) h0)
     unfold wi wj up
     by_cases g:ti a b p<0
     ·rw[if_neg (by omega),if_pos (by omega),if_neg (by omega),if_neg (by omega),if_neg (by omega),if_pos (by omega)]<;>rfl
     ·rw[if_neg (by omega),if_neg (by omega),if_neg (by omega),if_pos (by omega),if_neg (by omega),if_pos (by omega)]<;>rfl
   ·by_cases hb':p.2<b.2
    ·have h0:ti a b p≠0:=fun h0=>h (jH (.inl ⟨by omega,by omega⟩) h0)
     unfold wi wj up
     by_cases g:ti a b p<0
     ·rw[if_neg (by omega),if_neg (by omega),if_pos (by omega),if_pos (by omega),if_neg (by omega)]<;>rfl
     ·rw[if_pos (by omega),if_neg (by omega),if_neg (by omega),if_pos (by omega),if_neg (by omega)]<;>rfl
    ·unfold wi wj up;rw[if_neg (by omega),if_neg (by omega),if_neg (by omega),if_neg (by omega),if_neg (by omega),if_neg (by omega)]<;>rfl
instance (a b p:I2):Decidable (bE a b p):=by unfold bE; infer_instance
def Eu (a b p:I2):Int:=if bE a b p then up p b-up p a else 0
theorem A3 (a b p:I2):wi a b p-wj a b p+Eu a b p=up p b-up p a:=by
 unfold Eu
 by_cases h:bE a b p
 ·rw[if_pos h,lq h.1,xX h.1]; omega
 ·rw[if_neg h,←I8 h]; omega
theorem yv (r:List I2) (p:I2):dh r p-gU r p+aD r.length (fun i=>Eu (nx r i) (nx r (i+1)) p)=0:=by
 have h1:=hJ r.length fun i=>up p (nx r i);rw[kU,Int.sub_self] at h1;have h2:=eu r.length (fun i=>wi (nx r i) (nx r (i+1)) p-wj (nx r i) (nx r (i+1)) p) fun i=>Eu (nx r i) (nx r (i+1)) p;rw[dI] at h2;unfold dh gU;rw[←h2,←h1];exact ar fun i _=>A3 _ _ _
theorem oA {r:List I2} {p:I2} (hp:∀i,i<r.length→¬bE (nx r i) (nx r (i+1)) p):gU r p=dh r p:=by
 have h:=yv r p;rw[bj (fun i hi=>by unfold Eu; rw[if_neg (hp i hi)])] at h
 omega
theorem sR (a b p:I2):ti (jb a) (jb b) (jb p)=ti a b p:=by unfold ti jb; grind
theorem xi (a b p:I2):wi (jb a) (jb b) (jb p)=wj a b p:=by
 unfold wi wj;rw[sR];unfold jb
 dsimp only
 by_cases h1:a.2<p.2∧p.2≤b.2∧ti a b p<0
 ·rw[if_neg (by omega),if_pos (by omega),if_pos h1]
 ·rw[if_neg h1]
  by_cases h2:b.2<p.2∧p.2≤a.2∧0<ti a b p
  ·rw[if_pos (by omega),if_pos h2]
  ·rw[if_neg (by omega),if_neg (by omega),if_neg h2]
theorem pN {r:List I2} (h:r≠[]) (p:I2):dh (r.map jb) (jb p)=gU r p:=by
 unfold dh gU;rw[List.length_map];exact ar fun i _=>by rw[bt _ h,bt _ h,xi]
theorem zk {a b c:I2}:bE (jb a) (jb b) (jb c)↔bE a b c:=by
 unfold bE;rw[sR];unfold jb
 dsimp only
 omega
theorem jW {N:Int} {t:Rat} (hN:0<N) (ht:(N:Rat)*t=1) (a q:Int):((a:Rat)≤(q:Rat)*t↔a*N≤q)∧((q:Rat)*t<(a:Rat)↔q<a*N):=by
 have hN':(0:Rat)<(N:Rat):=fL.2 hN;have t0:0<t:=by
  refine Decidable.byContradiction fun h=>?_;have:=cd (show 0≤(N:Rat) by grind) (show t≤0 by grind)
  grind
 have key:(a:Rat)≤(q:Rat)*t↔a*N≤q:=by
  rw[←xu,Rat.intCast_mul];constructor
  ·intro h;have:=bC (show 0≤(q:Rat)*t-a by grind) (show 0≤(N:Rat) by grind)
   rw[show((q:Rat)*t-a)*N=q*(N*t)-a*N by grind,ht,Rat.mul_one] at this
   grind
  ·intro h;have:=bC (show 0≤(q:Rat)-a*N by grind) (show 0≤t by grind)
   rw[show((q:Rat)-a*N)*t=q*t-a*(N*t) by grind,ht,Rat.mul_one] at this
   grind
 refine⟨key,?_⟩;constructor
 ·intro h;have:=mt key.2 (by grind)
  omega
 ·intro h;have:=mt key.1 (by omega)
  grind
theorem uv {N:Int} {t:Rat} (ht:(N:Rat)*t=1) (a b q:I2):tn (ca a) (ca b) ((q.1:Rat)*t,(q.2:Rat)*t)=((ti (bA N a) (bA N b) q:Int):Rat)*(t*t):=by
 rw[←ki];unfold tn ca bA;simp only[Rat.intCast_mul]
 grind
theorem VR.sign {r:List I2} (h:VR r):∃s:Int,(s=1∨s = -1)∧∀N:Int,0<N→∀q:I2,(∀i,i<r.length→¬bE (bA N (nx r i)) (bA N (nx r (i+1))) q)→Jd.dh (r.map (bA N)) q=0∨Jd.dh (r.map (bA N)) q=s:=by
 have hr:r≠[]:=fun e=>by have:=h.n3; rw[e] at this; simp at this
 obtain⟨s,hs,hm⟩:=h.simple.sign;refine⟨s,hs,fun N hN q hq=>?_⟩;have hN':(0:Rat)<(N:Rat):=fL.2 hN;have ht:(N:Rat)*(N:Rat)⁻¹=1:=Rat.mul_inv_cancel _ (by grind)
 have t0:0<(N:Rat)⁻¹:=by
  refine Decidable.byContradiction fun h=>?_;have:=cd (show 0≤(N:Rat) by grind) (show(N:Rat)⁻¹≤0 by grind)
  grind
 generalize (N:Rat)⁻¹=t at ht t0;have tt:=aT t0 t0;have sp:∀x:Int,(0<(x:Rat)*(t*t)↔0<x)∧((x:Rat)*(t*t)<0↔x<0):=fun x=>by
  have p1:∀y:Int,0<y→0<(y:Rat)*(t*t):=fun y hy=>aT (fL.2 hy) tt;have p2:∀y:Int,y<0→(y:Rat)*(t*t)<0:=fun y hy=>by
   have:=aT (show(0:Rat) < -(y:Rat) by have:=lz.2 hy; grind) tt
   grind
  rcases Int.lt_trichotomy x 0 with g|g|g
  ·have:=p2 x g;constructor<;>constructor<;>intro k<;>first|omega|grind
  ·subst g;simp
  ·have:=p1 x g;constructor<;>constructor<;>intro k<;>first|omega|grind
 have e:W r.length (fun i=>ca (nx r i)) ((q.1:Rat)*t,(q.2:Rat)*t)=Jd.dh (r.map (bA N)) q:=by
  unfold Jd.dh W;rw[List.length_map];refine ar fun i _=>?_;rw[bt _ hr,bt _ hr]
  show we (ca (nx r i)) (ca (nx r (i+1))) _=_
  generalize nx r i=a;generalize nx r (i+1)=b;unfold we wi;rw[uv ht];unfold ca
  dsimp only
  simp only[(jW hN ht _ _).1,(jW hN ht _ _).2,(sp _).1,(sp _).2]
  rfl
 rw[←e];refine hm _ fun i hi hl=>?_
 show tn (ca (nx r i)) (ca (nx r (i+1))) _≠0
 rw[uv ht];intro h0;have hz:=sp (ti (bA N (nx r i)) (bA N (nx r (i+1))) q);have h0':ti (bA N (nx r i)) (bA N (nx r (i+1))) q=0:=by
  have a1:=mt hz.1.2 (by rw[h0]; grind)
  have a2:=mt hz.2.2 (by rw[h0]; grind)
  omega
 refine hq i hi (jH ?_ h0');unfold ca at hl
 dsimp only at hl
 simp only[(jW hN ht _ _).1,(jW hN ht _ _).2] at hl;exact hl
theorem xN {u w:Int} (h:(0≤w∧w≤u)∨(u≤w∧w≤0)):0≤u*w∧(w≠0→0<u*w):=by
 rcases h with h|h
 ·exact⟨Int.mul_nonneg (by omega) h.1,fun h0=>Int.mul_pos (by omega) (by omega)⟩
 ·exact⟨Int.mul_nonneg_of_nonpos_of_nonpos (by omega) h.2,fun h0=>Int.mul_pos_of_neg_of_neg (by omega) (by omega)⟩
theorem zi {a v p:I2} (h:bE a v p) (hne:p≠v):(a.1-v.1)*(p.2-v.2)=(a.2-v.2)*(p.1-v.1)∧0<(a.1-v.1)*(p.1-v.1)+(a.2-v.2)*(p.2-v.2):=by
 obtain⟨h0,h1,h2,h3,h4⟩:=h;have e1:=xN (u:=a.1-v.1) (w:=p.1-v.1) (by omega)
 have e2:=xN (u:=a.2-v.2) (w:=p.2-v.2) (by omega)
 refine⟨by unfold ti at h0; grind,?_⟩
 by_cases g:p.1-v.1=0
 ·have g2:p.2-v.2≠0:=fun g2=>hne (Prod.ext (by omega) (by omega))
  have:=e2.2 g2;omega
 ·have:=e1.2 g;omega
theorem Bb {a v b p:I2} (h1:bE a v p) (h2:bE v b p) (hne:p≠v):ti a v b=0∧di a v b<0:=by
 obtain⟨e1,d1⟩:=zi h1 hne;obtain⟨e2,d2⟩:=zi h2.swap hne;have hd:=za (u:=(a.1-v.1,a.2-v.2)) (v:=(b.1-v.1,b.2-v.2)) (w:=(p.1-v.1,p.2-v.2)) e1 e2 d1 d2
 dsimp only at hd
 refine⟨?_,by unfold di; grind⟩
 have hw:¬(p.1-v.1=0∧p.2-v.2=0):=fun g=>hne (Prod.ext (by omega) (by omega))
 have hx:(p.1-v.1)*ti a v b=0:=by unfold ti; grind
 have hy:(p.2-v.2)*ti a v b=0:=by unfold ti; grind
 rcases Int.mul_eq_zero.1 hx with g|g
 ·rcases Int.mul_eq_zero.1 hy with k|k
  ·exact absurd ⟨g,k⟩ hw
  ·exact k
 ·exact g
theorem xS {x a b:Int} (h:min a b≤x∧x≤max a b):0≤(b-x)*(b-a)∧0≤(x-a)*(b-a):=by
 rcases Int.le_total a b with g|g
 ·exact⟨Int.mul_nonneg (by omega) (by omega),Int.mul_nonneg (by omega) (by omega)⟩
 ·exact⟨Int.mul_nonneg_of_nonpos_of_nonpos (by omega) (by omega),Int.mul_nonneg_of_nonpos_of_nonpos (by omega) (by omega)⟩
theorem DI {a b p:I2} (hab:a≠b) (h:bE a b p):∃w1 w2 D:Int,0≤w1∧0≤w2∧w1+w2=D∧0<D∧D*p.1=w1*a.1+w2*b.1∧D*p.2=w1*a.2+w2*b.2:=by
 obtain⟨h0,h1,h2,h3,h4⟩:=h;have e1:=xS ⟨h1,h2⟩;have e2:=xS ⟨h3,h4⟩;refine⟨(b.1-p.1)*(b.1-a.1)+(b.2-p.2)*(b.2-a.2),(p.1-a.1)*(b.1-a.1)+(p.2-a.2)*(b.2-a.2),(b.1-a.1)*(b.1-a.1)+(b.2-a.2)*(b.2-a.2),by omega,by omega,by grind,?_,?_,?_⟩
 ·have s1:=@qc (b.1-a.1);have s2:=@qc (b.2-a.2);refine Decidable.byContradiction fun k=>hab ?_;have g1:=z6 (show(b.1-a.1)*(b.1-a.1)=0 by omega)
  have g2:=z6 (show(b.2-a.2)*(b.2-a.2)=0 by omega)
  exact Prod.ext (by omega) (by omega)
 ·unfold ti at h0; grind
 ·unfold ti at h0; grind
theorem yF {a b p:I2} (hab:a≠b) (h:bE a b p) {α β γ:Rat} (ha:0<af α β γ (ca a)) (hb:0<af α β γ (ca b)):0<af α β γ (ca p):=by
 obtain⟨w1,w2,D,h1,h2,h3,h4,h5,h6⟩:=DI hab h;have c5:(D:Rat)*(p.1:Rat)=(w1:Rat)*a.1+(w2:Rat)*b.1:=by rw[←Rat.intCast_mul,h5,Rat.intCast_add,Rat.intCast_mul,Rat.intCast_mul]
 have c6:(D:Rat)*(p.2:Rat)=(w1:Rat)*a.2+(w2:Rat)*b.2:=by rw[←Rat.intCast_mul,h6,Rat.intCast_add,Rat.intCast_mul,Rat.intCast_mul]
 have c3:(w1:Rat)+(w2:Rat)=D:=by rw[←Rat.intCast_add,h3]
 have d0:(0:Rat)<D:=fL.2 h4;have n1:(0:Rat)≤w1:=by have:=(xu (x:=0) (y:=w1)).2 h1; simpa using this
 have n2:(0:Rat)≤w2:=by have:=(xu (x:=0) (y:=w2)).2 h2; simpa using this
 have e:(D:Rat)*af α β γ (ca p)=w1*af α β γ (ca a)+w2*af α β γ (ca b):=by
  unfold af ca
  dsimp only
  grind
 have q1:=bC n1 (show 0≤af α β γ (ca a) by grind)
 have q2:=bC n2 (show 0≤af α β γ (ca b) by grind)
 have q:0<(D:Rat)*af α β γ (ca p):=by
  rw[e]
  by_cases k:(w1:Rat)=0
  ·have:0<(w2:Rat):=by grind
   have:=aT this hb
   grind
  ·have:=aT (show 0<(w1:Rat) by grind) ha
   grind
 refine Decidable.byContradiction fun k=>?_;have:=cd (show 0≤(D:Rat) by grind) (show af α β γ (ca p)≤0 by grind)
 grind
theorem Dn {a b c d p:I2} (hab:a≠b) (hcd:c≠d) (h:NM a b c d) (h1:bE a b p) (h2:bE c d p):False:=by
 obtain⟨α,β,γ,g1,g2,g3,g4⟩:=pj hab hcd h.1 h.2;have k1:=yF hab h1 g1 g2;have k2:=yF (α:=-α) (β:=-β) (γ:=-γ) hcd h2 (by unfold af at *; grind) (by unfold af at *; grind)
 unfold af at k1 k2; grind
section
variable {r : List I2}
theorem VR.Bu (h:VR r) {i j:Nat} (hij:i<j) (hj:j<r.length) {p:I2} (hi:bE (nx r i) (nx r (i+1)) p) (hp:bE (nx r j) (nx r (j+1)) p):(j=i+1∧p=nx r j)∨(i=0∧j+1=r.length∧p=nx r 0):=by
 by_cases h1:j=i+1
 ·subst h1;refine .inl ⟨rfl,Decidable.byContradiction fun hne=>h.kg i (Bb hi hp hne)⟩
 ·by_cases h2:i=0∧j+1=r.length
  ·obtain⟨rfl,h2⟩:=h2;refine .inr ⟨rfl,h2,Decidable.byContradiction fun hne=>?_⟩;have e1:nx r (j+1)=nx r 0:=by rw[h2,kU]
   have e2:nx r (j+2)=nx r 1:=by
    rw[show j+2=1+r.length by omega]
    exact dQ r (Nat.add_mod_right 1 r.length)
   have:=h.kg j;rw[e1,e2] at this;rw[e1] at hp;exact this (Bb hp hi hne)
  ·exact(Dn (h.still i) (h.still j) (h.meet i j (by omega) hj h2) hi hp).elim
def pv (r:List I2) (m:Nat):Nat:=if m=0 then r.length-1 else m-1
theorem CC {m:Nat} (hm:m<r.length):pv r m<r.length:=by unfold pv; split<;>omega
theorem lS {m:Nat} (hm:m<r.length):nx r (pv r m+1)=nx r m:=by
 unfold pv
 by_cases h:m=0
 ·subst h; rw[if_pos rfl,show r.length-1+1=r.length by omega,kU]
 ·rw[if_neg h,show m-1+1=m by omega]
theorem EY {m:Nat} (h3:2<r.length):pv r m≠m:=by unfold pv; split<;>omega
theorem vu {n k l:Nat} {f:Nat→Int} (hkl:k<l) (hl:l<n) (h:∀i,i<n→i≠k→i≠l→f i=0):aD n f=f k+f l:=by
 have h1:=dI n f fun i=>if i=k then f k else 0
 have h2:=dL (n:=n) (k:=k) (f:=fun i=>if i=k then f k else 0) (by omega) fun i _ hne=>if_neg hne
 have h3:=dL (n:=n) (k:=l) (f:=fun i=>f i-if i=k then f k else 0) hl fun i hi hne=>by
  by_cases e:i=k
  ·rw[if_pos e,e]; omega
  ·rw[if_neg e,h i hi e hne]; rfl
 rw[if_pos rfl] at h2;rw[if_neg (by omega)] at h3
 omega
theorem VR.fI (h:VR r) {m i:Nat} (hm:m<r.length) (hi:i<r.length) (hb:bE (nx r i) (nx r (i+1)) (nx r m)):i=m∨i=pv r m:=by
 by_cases e:i=m
 ·exact .inl e
 refine .inr ?_;have hself:bE (nx r m) (nx r (m+1)) (nx r m):=j7 _ _;have hn3:=h.n3;rcases Nat.lt_or_gt_of_ne e with g|g
 ·rcases h.Bu g hm hb hself with⟨k,_⟩|⟨k1,k2,k3⟩
  ·unfold pv; rw[if_neg (by omega)]; omega
  ·exfalso;subst k1;have hp:pv r m<r.length:=CC hm;have hs:bE (nx r (pv r m)) (nx r (pv r m+1)) (nx r m):=by rw[lS hm]; exact pE _ _
   have e2:pv r m=m-1:=by unfold pv; rw[if_neg (by omega)]
   have hlt:0<pv r m:=by rw[e2]; omega
   rcases h.Bu hlt hp hb hs with⟨k,k'⟩|⟨_,k,_⟩
   ·rw[e2] at k k';have:=h.still 0;have e3:nx r (m-1)=nx r 1:=by rw[k]
    rw[e3] at k';exact this (by rw[←k3,k'])
   ·omega
 ·rcases h.Bu g hi hself hb with⟨k,k'⟩|⟨k1,k2,k3⟩
  ·subst k; exact absurd k' (h.still m)
  ·unfold pv; rw[if_pos k1]; omega
theorem VR.pA (h:VR r) {m:Nat} (hm:m<r.length) {f:Nat→Int} (hf:∀i,i<r.length→¬bE (nx r i) (nx r (i+1)) (nx r m)→f i=0):aD r.length f=f (pv r m)+f m:=by
 have hn3:=h.n3;have key:∀i,i<r.length→i≠m→i≠pv r m→f i=0:=fun i hi h1 h2=>hf i hi fun hb=>by
  rcases h.fI hm hi hb with g|g
  ·exact h1 g
  ·exact h2 g
 have hp:=CC hm;rcases Nat.lt_or_gt_of_ne (EY (r:=r) (m:=m) hn3) with g|g
 ·exact vu g hm fun i hi h1 h2=>key i hi h2 h1
 ·rw[vu g hp fun i hi h1 h2=>key i hi h1 h2]; omega
theorem VR.inj (h:VR r) {i j:Nat} (hi:i<r.length) (hj:j<r.length) (e:nx r i=nx r j):i=j:=by
 have hn3:=h.n3;rcases h.fI hj hi (by rw[←e]; exact j7 _ _) with g|g
 ·exact g
 ·exfalso;subst g;have:=h.still (pv r j);rw[lS hj] at this;exact this e
theorem VR.o8 (h:VR r) {i j:Nat} (hi:i<r.length) (hj:j<r.length) {p:I2} (hp:∀k,p≠nx r k) (h1:bE (nx r i) (nx r (i+1)) p) (h2:bE (nx r j) (nx r (j+1)) p):i=j:=by
 refine Decidable.byContradiction fun hne=>?_;rcases Nat.lt_or_gt_of_ne hne with g|g
 ·rcases h.Bu g hj h1 h2 with⟨_,k⟩|⟨_,_,k⟩<;>exact hp _ k
 ·rcases h.Bu g hi h2 h1 with⟨_,k⟩|⟨_,_,k⟩<;>exact hp _ k
end
def Lg (P:Int→Prop):Prop:=∃k,∀N,k≤N→P N
theorem Lg.ge (k:Int):Lg (k≤·):=⟨k,fun _ h=>h⟩
theorem Lg.and {P Q:Int→Prop} (h:Lg P) (g:Lg Q):Lg fun N=>P N∧Q N:=by
 obtain⟨a,ha⟩:=h;obtain⟨b,hb⟩:=g;exact⟨max a b,fun N hN=>⟨ha N (by omega),hb N (by omega)⟩⟩
theorem Lg.imp {P Q:Int→Prop} (h:Lg P) (g:∀N,P N→Q N):Lg Q:=by
 obtain⟨a,ha⟩:=h;exact⟨a,fun N hN=>g N (ha N hN)⟩
theorem Lg.all {P:Nat→Int→Prop} {n:Nat} (h:∀i,i<n→Lg (P i)):Lg fun N=>∀i,i<n→P i N:=by
 induction n with
 | zero=>exact⟨0,fun _ _ i hi=>by omega⟩
 | succ n ih =>
  refine((ih fun i hi=>h i (by omega)).and (h n (by omega))).imp fun N g i hi=>?_
  by_cases e:i=n
  ·rw[e]; exact g.2
  ·exact g.1 i (by omega)
theorem Lg.get {P:Int→Prop} (h:Lg P):∃N,0<N∧P N:=by
 obtain⟨k,hk⟩:=h;exact⟨max k 1,by omega,hk _ (by omega)⟩
theorem A7 {T:Int} (h:0<T) (C:Int):Lg fun N=>0<N*T+C:=⟨max 0 (1-C),fun N hN=>by
 have:=Int.mul_le_mul_of_nonneg_left (show 1≤T by omega) (show 0≤N by omega)
 omega⟩
theorem Fi {T:Int} (h:T<0) (C:Int):Lg fun N=>N*T+C<0:=(A7 (show 0 < -T by omega) (-C)).imp fun N g=>by
 rw[Int.mul_neg] at g; omega
theorem Hf {x y d N:Int} (d0:0≤d) (hN:d<N):(x*N≤y*N+d↔x≤y)∧(y*N+d<x*N↔y<x):=by
 have:x*N≤y*N+d↔x≤y:=by
  constructor
  ·intro h;refine Decidable.byContradiction fun g=>?_;have:=Int.mul_le_mul_of_nonneg_right (show y+1≤x by omega) (show 0≤N by omega)
   rw[Int.add_mul] at this;omega
  ·intro h;have:=Int.mul_le_mul_of_nonneg_right h (show 0≤N by omega)
   omega
 exact⟨this,by omega⟩
theorem je {x y d N:Int} (hN:d<N) (n0:0≤N) (h:x<y):x*N+d<y*N:=by
 have:=Int.mul_le_mul_of_nonneg_right (show x+1≤y by omega) n0
 rw[Int.add_mul] at this;omega
theorem mc (N:Int) (a b p δ:I2):ti (bA N a) (bA N b) (dA δ (bA N p))=N*(N*ti a b p+((b.1-a.1)*δ.2-(b.2-a.2)*δ.1)):=by unfold ti bA dA; grind
theorem uz {a b p δ:I2} (h:¬bE a b p) (hd:0≤δ.2):Lg fun N=>wi (bA N a) (bA N b) (dA δ (bA N p))=wi a b p∧¬bE (bA N a) (bA N b) (dA δ (bA N p)):=by
 have hl:∀N:Int,max 1 (δ.2+1)≤N→((bA N a).2≤(dA δ (bA N p)).2↔a.2≤p.2)∧((dA δ (bA N p)).2<(bA N a).2↔p.2<a.2)∧((bA N b).2≤(dA δ (bA N p)).2↔b.2≤p.2)∧((dA δ (bA N p)).2<(bA N b).2↔p.2<b.2):=fun N hN=>by
  have h1:=Hf (x:=a.2) (y:=p.2) hd (show δ.2<N by omega)
  have h2:=Hf (x:=b.2) (y:=p.2) hd (show δ.2<N by omega)
  exact⟨h1.1,h1.2,h2.1,h2.2⟩
 rcases Int.lt_trichotomy (ti a b p) 0 with g|g|g
 ·refine((Lg.ge (max 1 (δ.2+1))).and (Fi g ((b.1-a.1)*δ.2-(b.2-a.2)*δ.1))).imp fun N ⟨h1,h2⟩=>?_;have hs:=(eR (x:=N*ti a b p+((b.1-a.1)*δ.2-(b.2-a.2)*δ.1)) (show 0<N by omega)).2.2 h2
  rw[←mc] at hs;refine⟨?_,fun hb=>by have:=hb.1; omega⟩
  unfold wi;obtain⟨l1,l2,l3,l4⟩:=hl N h1
  by_cases k:b.2≤p.2∧p.2<a.2∧ti a b p<0
  ·rw[if_neg (by omega),if_pos (by omega),if_neg (by omega),if_pos k]
  ·rw[if_neg (by omega),if_neg (by omega),if_neg (by omega),if_neg k]
 ·refine(Lg.ge (max (max 1 (δ.2+1)) (max (δ.1+1) (1-δ.1)))).imp fun N h1=>?_;obtain⟨l1,l2,l3,l4⟩:=hl N (by omega)
  have hn:¬((a.2≤p.2∧p.2<b.2)∨(b.2≤p.2∧p.2<a.2)):=fun k=>h (jH k g);refine⟨?_,fun hb=>?_⟩
  ·unfold wi;rw[if_neg (by omega),if_neg (by omega),if_neg (by omega),if_neg (by omega)]
  ·obtain⟨_,b1,b2,b3,b4⟩:=hb;refine h ⟨g,?_,?_,?_,?_⟩
   ·refine Decidable.byContradiction fun k=>?_;have k1:=je (x:=p.1) (y:=a.1) (show δ.1<N by omega) (by omega) (by omega)
    have k2:=je (x:=p.1) (y:=b.1) (show δ.1<N by omega) (by omega) (by omega)
    unfold dA bA at b1; dsimp only at b1; omega
   ·refine Decidable.byContradiction fun k=>?_;have k1:=je (x:=a.1) (y:=p.1) (show -δ.1<N by omega) (by omega) (by omega)
    have k2:=je (x:=b.1) (y:=p.1) (show -δ.1<N by omega) (by omega) (by omega)
    unfold dA bA at b2; dsimp only at b2; omega
   ·refine Decidable.byContradiction fun k=>?_;have k1:=je (x:=p.2) (y:=a.2) (show δ.2<N by omega) (by omega) (by omega)
    have k2:=je (x:=p.2) (y:=b.2) (show δ.2<N by omega) (by omega) (by omega)
    unfold dA bA at b3; dsimp only at b3; omega
   ·refine Decidable.byContradiction fun k=>?_;have k1:=je (x:=a.2) (y:=p.2) (show -δ.2<N by omega) (by omega) (by omega)
    have k2:=je (x:=b.2) (y:=p.2) (show -δ.2<N by omega) (by omega) (by omega)
    unfold dA bA at b4; dsimp only at b4; omega
 ·refine((Lg.ge (max 1 (δ.2+1))).and (A7 g ((b.1-a.1)*δ.2-(b.2-a.2)*δ.1))).imp fun N ⟨h1,h2⟩=>?_;have hs:=(eR (x:=N*ti a b p+((b.1-a.1)*δ.2-(b.2-a.2)*δ.1)) (show 0<N by omega)).1.2 h2
  rw[←mc] at hs;refine⟨?_,fun hb=>by have:=hb.1; omega⟩
  unfold wi;obtain⟨l1,l2,l3,l4⟩:=hl N h1
  by_cases k:a.2≤p.2∧p.2<b.2∧0<ti a b p
  ·rw[if_pos (by omega),if_pos k]
  ·rw[if_neg (by omega),if_neg (by omega),if_neg k,if_neg (by omega)]
theorem Ez {a b p:I2} {K:Int} (hab:a≠b) (h:bE a b p) (hK:b.1-a.1<K∧a.1-b.1<K):Lg fun N=>wi (bA N a) (bA N b) (dA (K,1) (bA N p))=wi a b p∧¬bE (bA N a) (bA N b) (dA (K,1) (bA N p)):=by
 refine(Lg.ge 2).imp fun N hN=>?_;have e:=mc N a b p (K,1);rw[h.1] at e
 dsimp only at e
 have e':ti (bA N a) (bA N b) (dA (K,1) (bA N p))=N*((b.1-a.1)-(b.2-a.2)*K):=by rw[e]; grind
 rw[lq h.1];have hl1:=Hf (x:=a.2) (y:=p.2) (show(0:Int)≤1 by omega) (show 1<N by omega)
 have hl2:=Hf (x:=b.2) (y:=p.2) (show(0:Int)≤1 by omega) (show 1<N by omega)
 have s:=eR (x:=(b.1-a.1)-(b.2-a.2)*K) (show 0<N by omega)
 rw[←e'] at s;rcases Int.lt_trichotomy (b.2-a.2) 0 with g|g|g
 ·have:(b.2-a.2)*K≤-1*K:=Int.mul_le_mul_of_nonneg_right (by omega) (by omega)
  refine⟨?_,fun hb=>by have:=hb.1; omega⟩
  unfold wi;rw[if_neg (by unfold bA dA; dsimp only; omega),if_neg (by omega)]
 ·rw[g,Int.zero_mul] at s;have hne:b.1-a.1≠0:=fun k=>hab (Prod.ext (by omega) (by omega))
  refine⟨?_,fun hb=>by have:=hb.1; omega⟩
  unfold wi;rw[if_neg (by unfold bA dA; dsimp only; omega),if_neg (by unfold bA dA; dsimp only; omega)]
 ·have:1*K≤(b.2-a.2)*K:=Int.mul_le_mul_of_nonneg_right (by omega) (by omega)
  refine⟨?_,fun hb=>by have:=hb.1; omega⟩
  unfold wi;rw[if_neg (by omega),if_neg (by unfold bA dA; dsimp only; omega)]
def Sg (r:List I2) (s:Int):Prop:=∀N:Int,0<N→∀q:I2,(∀i,i<r.length→¬bE (bA N (nx r i)) (bA N (nx r (i+1))) q)→dh (r.map (bA N)) q=0∨dh (r.map (bA N)) q=s
section
variable {r : List I2} {s : Int}
theorem VR.ne_nil (h:VR r):r≠[]:=fun e=>by have:=h.n3; rw[e] at this; simp at this
theorem Sg.Gp (h:VR r) (g:Sg r s) (p:I2):dh r p=0∨dh r p=s:=by
 obtain⟨K,_,hK⟩:=(Lg.all (n:=r.length) (P:=fun i K=>(nx r (i+1)).1-(nx r i).1<K∧(nx r i).1-(nx r (i+1)).1<K) fun i _ =>
  (Lg.ge (max ((nx r (i+1)).1-(nx r i).1) ((nx r i).1-(nx r (i+1)).1)+1)).imp fun K h=>by omega).get
 obtain⟨N,hN,hP⟩:=(Lg.all (n:=r.length) (P:=fun i N=>wi (bA N (nx r i)) (bA N (nx r (i+1))) (dA (K,1) (bA N p))=wi (nx r i) (nx r (i+1)) p∧¬bE (bA N (nx r i)) (bA N (nx r (i+1))) (dA (K,1) (bA N p))) fun i hi=>by
  by_cases hb:bE (nx r i) (nx r (i+1)) p
  ·exact Ez (h.still i) hb (hK i hi)
  ·exact uz hb (show(0:Int)≤1 by decide)).get
 have e:dh (r.map (bA N)) (dA (K,1) (bA N p))=dh r p:=by
  unfold dh;rw[List.length_map];exact ar fun i hi=>by rw[bt _ h.ne_nil,bt _ h.ne_nil]; exact(hP i hi).1
 rw[←e];exact g N hN _ fun i hi=>(hP i hi).2
theorem AQ {p v:I2}:up p v=1↔p.2<v.2∨(v.2=p.2∧v.1<p.1):=by
 unfold up
 by_cases h:p.2<v.2∨(v.2=p.2∧v.1<p.1)
 ·rw[if_pos h]; exact⟨fun _=>h,fun _=>rfl⟩
 ·rw[if_neg h]; exact⟨fun k=>absurd k (by decide),fun k=>absurd k h⟩
theorem Cc (p v:I2):up p v=0∨up p v=1:=by unfold up; split<;>simp
theorem gS {a v b:I2}:ti a v b=(a.2-v.2)*(b.1-v.1)-(a.1-v.1)*(b.2-v.2):=by unfold ti; grind
theorem vy (h:VR r) {m:Nat} (hm:m<r.length) (ha:up (nx r m) (nx r (pv r m))=1) (hb:up (nx r m) (nx r (m+1))=1):ti (nx r (pv r m)) (nx r m) (nx r (m+1))≠0:=by
 intro h0;have e1:=lS hm;have e2:nx r (pv r m+2)=nx r (m+1):=by
  unfold pv
  by_cases k:m=0
  ·subst k;rw[if_pos rfl,show r.length-1+2=0+1+r.length by omega]
   exact dQ r (Nat.add_mod_right _ _)
  ·rw[if_neg k,show m-1+2=m+1 by omega]
 have hs:=h.kg (pv r m);rw[e1,e2] at hs;have hd:=Cs (by have:=h.still (pv r m); rwa[e1] at this) (h.still m) h0 (fun k=>hs ⟨h0,k⟩)
 generalize nx r (pv r m)=a at *;generalize nx r m=v at *;generalize nx r (m+1)=b at *;rw[AQ] at ha hb;rw[gS] at h0;have hd':(a.1-v.1)*(b.1-v.1)+(a.2-v.2)*(b.2-v.2)<0:=by unfold di at hd; grind
 generalize hx1:a.1-v.1=x1 at *;generalize hy1:a.2-v.2=y1 at *;generalize hx2:b.1-v.1=x2 at *;generalize hy2:b.2-v.2=y2 at *;have ha':0<y1∨(y1=0∧x1<0):=by omega
 have hb':0<y2∨(y2=0∧x2<0):=by omega
 rcases ha' with k1|⟨k1,k2⟩
 ·rcases hb' with k3|⟨k3,k4⟩
  ·have p1:=Int.mul_pos k1 k3;have p2:0≤(x1*x2)*(y1*y2):=by
    have:(x1*x2)*(y1*y2)=(x1*y2)*(x1*y2):=by
     have e:y1*x2=x1*y2:=by omega
     calc (x1*x2)*(y1*y2)=(x1*y2)*(y1*x2):=by grind
      _=_:=by rw[e]
    rw[this]; exact qc
   have p3:0≤x1*x2:=by
    refine Decidable.byContradiction fun k=>?_;have:=Int.mul_neg_of_neg_of_pos (show x1*x2<0 by omega) p1
    omega
   omega
  ·subst k3;have:=Int.mul_neg_of_pos_of_neg k1 k4;simp at h0;omega
 ·subst k1;rcases hb' with k3|⟨k3,k4⟩
  ·have:=Int.mul_neg_of_neg_of_pos k2 k3;simp at h0;omega
  ·subst k3;have:=Int.mul_pos_of_neg_of_neg k2 k4;omega
theorem Sg.E3 (h:VR r) (g:Sg r s) {m:Nat} (hm:m<r.length) (ha:up (nx r m) (nx r (pv r m))=1) (hb:up (nx r m) (nx r (m+1))=1) :
  dh r (nx r m)+(if 0<ti (nx r (pv r m)) (nx r m) (nx r (m+1)) then 1 else -1)=0∨dh r (nx r m)+(if 0<ti (nx r (pv r m)) (nx r m) (nx r (m+1)) then 1 else -1)=s:=by
 have hT:=vy h hm ha hb;have e1:=lS hm;have hpm:=CC hm;have hpn:=EY (r:=r) (m:=m) h.n3;generalize hv:nx r m=v at *;generalize hA:nx r (pv r m)=a at *;generalize hB:nx r (m+1)=b at *;rw[AQ] at ha hb
 let δ:I2:=(a.1+b.1-2*v.1,a.2+b.2-2*v.2)
 have hδ:0 < δ.2:=by
  show 0<a.2+b.2-2*v.2
  refine Decidable.byContradiction fun k=>hT ?_;rw[gS,show a.2-v.2=0 by omega,show b.2-v.2=0 by omega]; simp
 have c1:∀N:Int,ti (bA N a) (bA N v) (dA δ (bA N v))=N*ti a v b:=fun N=>by
  rw[mc,kM];have:(v.1-a.1)*δ.2-(v.2-a.2)*δ.1=ti a v b:=by show(v.1-a.1)*(a.2+b.2-2*v.2)-(v.2-a.2)*(a.1+b.1-2*v.1)=_; unfold ti; grind
  rw[this]; simp
 have c2:∀N:Int,ti (bA N v) (bA N b) (dA δ (bA N v))=N*ti a v b:=fun N=>by
  rw[mc,kD];have:(b.1-v.1)*δ.2-(b.2-v.2)*δ.1=ti a v b:=by show(b.1-v.1)*(a.2+b.2-2*v.2)-(b.2-v.2)*(a.1+b.1-2*v.1)=_; unfold ti; grind
  rw[this]; simp
 have hT1:0<ti a v b→v.2<b.2:=fun k=>by
  refine Decidable.byContradiction fun k2=>?_;rw[gS,show b.2-v.2=0 by omega] at k
  have:=Int.mul_nonneg (show 0≤a.2-v.2 by omega) (show 0≤-(b.1-v.1) by omega)
  rw[Int.mul_neg] at this;simp at k;omega
 have hT2:ti a v b<0→v.2<a.2:=fun k=>by
  refine Decidable.byContradiction fun k2=>?_;rw[gS,show a.2-v.2=0 by omega] at k
  have:=Int.mul_nonneg (show 0≤-(a.1-v.1) by omega) (show 0≤b.2-v.2 by omega)
  rw[Int.neg_mul] at this;simp at k;omega
 have near:∀i,i<r.length→Lg fun N=>(¬bE (nx r i) (nx r (i+1)) v→wi (bA N (nx r i)) (bA N (nx r (i+1))) (dA δ (bA N v))=wi (nx r i) (nx r (i+1)) v)∧¬bE (bA N (nx r i)) (bA N (nx r (i+1))) (dA δ (bA N v)):=fun i hi=>by
  by_cases hb:bE (nx r i) (nx r (i+1)) v
  ·refine(Lg.ge 1).imp fun N hN=>⟨fun k=>absurd hb k,fun k=>?_⟩;have hne:N*ti a v b≠0:=fun k=>by
    rcases Int.mul_eq_zero.1 k with k|k
    ·omega
    ·exact hT k
   rcases h.fI hm hi (by rw[hv]; exact hb) with e|e
   ·subst e;rw[hv,hB] at k;exact hne (by rw[←c2]; exact k.1)
   ·subst e;rw[hA,e1] at k;exact hne (by rw[←c1]; exact k.1)
  ·exact(uz hb (Int.le_of_lt hδ)).imp fun N k=>⟨fun _=>k.1,k.2⟩
 obtain⟨N,hN,hP,hN2⟩:=((Lg.all near).and (Lg.ge (δ.2+1))).get;have hoff:=g N hN (dA δ (bA N v)) fun i hi=>(hP i hi).2;have e:dh (r.map (bA N)) (dA δ (bA N v))-dh r v=(if 0<ti a v b then 1 else -1):=by
  have hs:=dI r.length (fun i=>wi (bA N (nx r i)) (bA N (nx r (i+1))) (dA δ (bA N v))) fun i=>wi (nx r i) (nx r (i+1)) v;have e0:dh (r.map (bA N)) (dA δ (bA N v))=aD r.length fun i=>wi (bA N (nx r i)) (bA N (nx r (i+1))) (dA δ (bA N v)):=by
   unfold dh;rw[List.length_map];exact ar fun i hi=>by rw[bt _ h.ne_nil,bt _ h.ne_nil]
  have e2:dh r v=aD r.length fun i=>wi (nx r i) (nx r (i+1)) v:=rfl;rw[e0,e2,←hs,h.pA hm (f:=fun i=>wi (bA N (nx r i)) (bA N (nx r (i+1))) (dA δ (bA N v))-wi (nx r i) (nx r (i+1)) v) (fun i hi hb=>by
   rw[(hP i hi).1 (by rw[←hv]; exact hb)]; omega)]
  rw[hA,e1,hB,hv,lq (kM a v),lq (kD v b)];have l1:=Hf (x:=a.2) (y:=v.2) (Int.le_of_lt hδ) (show δ.2<N by omega)
  have l2:=Hf (x:=b.2) (y:=v.2) (Int.le_of_lt hδ) (show δ.2<N by omega)
  have s1:=eR (x:=ti a v b) hN;have k1:=c1 N;have k2:=c2 N;unfold wi
  by_cases hp:0<ti a v b
  ·have:=hT1 hp;rw[if_pos hp,if_neg (by rw[k1]; unfold bA dA; dsimp only; omega),if_neg (by rw[k1]; omega),if_pos (by rw[k2]; unfold bA dA; dsimp only; omega)]; rfl
  ·have:=hT2 (by omega)
   rw[if_neg hp,if_neg (by rw[k1]; omega),if_pos (by rw[k1]; unfold bA dA; dsimp only; omega),if_neg (by rw[k2]; omega),if_neg (by unfold bA dA; dsimp only; omega)]; rfl
 rw[←e];rw[show dh r v+(dh (r.map (bA N)) (dA δ (bA N v))-dh r v)=dh (r.map (bA N)) (dA δ (bA N v)) by omega]
 exact hoff
theorem yj:Chg jb 1 1 where
 inj h:=by unfold jb at h; have h1:=congrArg Prod.fst h; have h2:=congrArg Prod.snd h; dsimp only at h1 h2; exact Prod.ext (by omega) (by omega)
 ti a b c:=by rw[sR]; omega
 di a b c:=by unfold di jb; grind
 kp:=by decide
 dp:=by decide
 Hh:=zk
theorem yH (p:I2):jb (jb p)=p:=by unfold jb; simp
theorem rI (N:Int) (p:I2):bA N (jb p)=jb (bA N p):=by unfold bA jb; simp[Int.neg_mul]
theorem Sg.refl (h:r≠[]) (g:Sg r s):Sg (r.map Jd.jb) s:=by
 intro N hN q hq;rw[List.length_map] at hq;have hne:r.map (bA N)≠[]:=by simpa using h
 have e:(r.map Jd.jb).map (bA N)=(r.map (bA N)).map Jd.jb:=by
  rw[List.map_map,List.map_map];exact List.map_congr_left fun p _=>rI N p
 have hq':∀i,i<r.length→¬bE (bA N (nx r i)) (bA N (nx r (i+1))) (Jd.jb q):=fun i hi hb=>by
  have:=hq i hi;rw[bt _ h,bt _ h,rI,rI,←yH q] at this;exact this (zk.2 hb)
 rw[e,←yH q,pN hne,oA (fun i hi=>by
  rw[List.length_map] at hi;rw[bt _ h,bt _ h]; exact hq' i hi)]
 exact g N hN _ hq'
theorem Bl {p v:I2} (h:v≠p):up (jb p) (jb v)=1-up p v:=by
 have hne:¬(v.1=p.1∧v.2=p.2):=fun k=>h (Prod.ext k.1 k.2);unfold up jb
 dsimp only
 by_cases k:p.2<v.2∨(v.2=p.2∧v.1<p.1)
 ·rw[if_pos k,if_neg (by omega)]; rfl
 ·rw[if_neg k,if_pos (by omega)]; rfl
theorem Sg.EZ (h:VR r) (g:Sg r s) (p:I2):gU r p=0∨gU r p=s:=by
 rw[←pN h.ne_nil];exact(g.refl h.ne_nil).Gp (yj.vr h) _
theorem tv (f:I2→I2) (m:Nat):pv (r.map f) m=pv r m:=by unfold pv; rw[List.length_map]
theorem Sg.GV (h:VR r) (g:Sg r s) {m:Nat} (hm:m<r.length) (ha:up (nx r m) (nx r (pv r m))=0) (hb:up (nx r m) (nx r (m+1))=0) :
  ti (nx r (pv r m)) (nx r m) (nx r (m+1))≠0∧(gU r (nx r m)+(if 0<ti (nx r (pv r m)) (nx r m) (nx r (m+1)) then 1 else -1)=0∨gU r (nx r m)+(if 0<ti (nx r (pv r m)) (nx r m) (nx r (m+1)) then 1 else -1)=s):=by
 have hv:=yj.vr h;have hm':m<(r.map jb).length:=by rw[List.length_map]; exact hm
 have n1:nx r (pv r m)≠nx r m:=by have:=h.still (pv r m); rwa[lS hm] at this
 have n2:nx r (m+1)≠nx r m:=(h.still m).symm;have u1:up (nx (r.map jb) m) (nx (r.map jb) (pv (r.map jb) m))=1:=by rw[tv,bt _ h.ne_nil,bt _ h.ne_nil,Bl n1,ha]; rfl
 have u2:up (nx (r.map jb) m) (nx (r.map jb) (m+1))=1:=by rw[bt _ h.ne_nil,bt _ h.ne_nil,Bl n2,hb]; rfl
 have k1:=vy hv hm' u1 u2;have k2:=(g.refl h.ne_nil).E3 hv hm' u1 u2;rw[tv,bt _ h.ne_nil,bt _ h.ne_nil,bt _ h.ne_nil,sR] at k1 k2;rw[pN h.ne_nil] at k2;exact⟨k1,k2⟩
end
theorem mP (n m:Nat) (f:Nat→Nat→Int):aD n (fun i=>aD m fun j=>f i j)=aD m fun j=>aD n fun i=>f i j:=by
 induction n with
 | zero=>simp only[aD]; exact(bj fun _ _=>rfl).symm
 | succ n ih=>simp only[aD]; rw[eu,ih]
theorem tY (n m:Nat) (f:Nat→Int):aD (n+m) f=aD n f+aD m fun i=>f (n+i):=by
 induction m with
 | zero=>simp[aD]
 | succ m ih=>rw[←Nat.add_assoc]; simp only[aD]; rw[ih]; omega
theorem iK (n:Nat) (c:Int):aD n (fun _=>c)=n*c:=by
 induction n with
 | zero=>simp[aD]
 | succ n ih=>simp only[aD]; rw[ih]; grind
theorem pK (n:Nat) (f:Nat→Int):aD n (fun i=>-f i) = -aD n f:=by
 have:=dI n (fun _=>0) f;rw[bj (f:=fun _=>(0:Int)) fun _ _=>rfl] at this;rw[←Int.zero_sub (aD n f),←this];exact ar fun i _=>by omega
theorem gN {B lo hi:Int} {H:Nat} (F:Int→Int) (h1:B≤lo) (h2:lo≤hi) (h3:hi≤B+H) :
  aD H (fun j=>if lo≤B+j∧B+j<hi then F (B+j) else 0)=aD (hi-lo).toNat fun k=>F (lo+k):=by
 obtain⟨n,hn⟩:∃n:Nat,lo=B+n:=⟨(lo-B).toNat,by omega⟩
 obtain⟨m,hm⟩:∃m:Nat,hi=lo+m:=⟨(hi-lo).toNat,by omega⟩
 obtain⟨k,hk⟩:∃k:Nat,H=n+m+k:=⟨H-n-m,by omega⟩
 subst hk;rw[tY,tY,bj (n:=n) fun i hi=>if_neg (by omega),bj (n:=k) fun i hi=>if_neg (by omega),show(hi-lo).toNat=m by omega,Int.zero_add,Int.add_zero]
 exact ar fun i hi=>by rw[if_pos (by omega)]; congr 1; omega
theorem count_le {L q:Int} {W:Nat} (h1:L-1≤q) (h2:q<L+W):aD W (fun i=>if L+i≤q then 1 else 0)=q-L+1:=by
 have:=gN (B:=L) (lo:=L) (hi:=q+1) (H:=W) (fun _=>1) (by omega) (by omega) (by omega)
 rw[iK] at this;rw[ar (g:=fun j=>if L≤L+j∧L+j<q+1 then(1:Int) else 0) fun i _=>?_,this]
 ·omega
 ·by_cases h:L+(i:Int)≤q
  ·rw[if_pos h,if_pos (by omega)]
  ·rw[if_neg h,if_neg (by omega)]
theorem CT {L q:Int} {W:Nat} (h1:L≤q) (h2:q≤L+W):aD W (fun i=>if q≤L+i then 1 else 0)=L+W-q:=by
 have:=gN (B:=L) (lo:=q) (hi:=L+W) (H:=W) (fun _=>1) (by omega) (by omega) (by omega)
 rw[iK] at this;rw[ar (g:=fun j=>if q≤L+j∧L+j<L+W then(1:Int) else 0) fun i _=>?_,this]
 ·omega
 ·by_cases h:q≤L+(i:Int)
  ·rw[if_pos h,if_pos (by omega)]
  ·rw[if_neg h,if_neg (by omega)]
def bx (L B:Int) (W H:Nat) (f:I2→Int):Int:=aD W fun i=>aD H fun j=>f (L+i,B+j)
structure Inb (L B:Int) (W H:Nat) (p:I2):Prop where
 x1:L≤p.1
 x2:p.1<L+W
 y1:B≤p.2
 y2:p.2<B+H
section
variable {L B : Int} {W H : Nat}
theorem jm {f g:I2→Int} (h:∀p,Inb L B W H p→f p=g p):bx L B W H f=bx L B W H g :=
 ar fun i hi=>ar fun j hj=>h _ ⟨by dsimp only; omega,by dsimp only; omega,by dsimp only; omega,by dsimp only; omega⟩
theorem Ct (f g:I2→Int):bx L B W H (fun p=>f p+g p)=bx L B W H f+bx L B W H g:=by
 unfold bx;rw[←eu];exact ar fun i _=>eu _ _ _
theorem Cr (f:I2→Int):bx L B W H (fun p=>-f p) = -bx L B W H f:=by
 unfold bx;rw[←pK];exact ar fun i _=>pK _ _
theorem CA (c:Int) (f:I2→Int):bx L B W H (fun p=>c*f p)=c*bx L B W H f:=by
 unfold bx;rw[←hU];exact ar fun i _=>hU _ _ _
theorem rV (n:Nat) (f:Nat→I2→Int):bx L B W H (fun p=>aD n fun k=>f k p)=aD n fun k=>bx L B W H (f k):=by
 unfold bx;rw[mP n W];exact ar fun i _=>mP _ _ _
theorem CS {v:I2} (h:Inb L B W H v):bx L B W H (fun p=>if p=v then 1 else 0)=1:=by
 obtain⟨a,b,c,d⟩:=h;unfold bx;rw[dL (k:=(v.1-L).toNat) (by omega) fun i hi hne=>bj fun j hj=>if_neg fun e=>hne (by have:=congrArg Prod.fst e; dsimp only at this; omega)]
 rw[dL (k:=(v.2-B).toNat) (by omega) fun j hj hne=>if_neg fun e=>hne (by have:=congrArg Prod.snd e; dsimp only at this; omega)]
 exact if_pos (Prod.ext (by dsimp only; omega) (by dsimp only; omega))
theorem FC {D c:Int} (hD:0<D):∃q:Int,D*q<c∧c≤D*(q+1):=by
 refine⟨(c-1)/D,?_,?_⟩
 ·have:=Int.mul_ediv_self_le (x:=c-1) (k:=D) (by omega)
  omega
 ·have:=Int.lt_mul_ediv_self_add (x:=c-1) (k:=D) hD;rw[Int.mul_add];omega
theorem qW {D x y:Int} (hD:0<D):D*x<D*y↔x<y:=⟨fun h=>Int.lt_of_mul_lt_mul_left h (Int.le_of_lt hD),fun h=>Int.mul_lt_mul_of_pos_left h hD⟩
theorem fU {D x y:Int} (hD:0<D):D*x≤D*y↔x≤y:=⟨fun h=>Int.le_of_mul_le_mul_left h hD,fun h=>Int.mul_le_mul_of_nonneg_left h (Int.le_of_lt hD)⟩
theorem yh {a b:I2} (ha:Inb L B W H a) (hb:Inb L B W H b) (h:a.2<b.2):bx L B W H (fun p=>wi a b p+wj a b p)=(b.2-a.2)*(a.1+b.1-(2*L+W-1)):=by
 obtain⟨ax1,ax2,ay1,ay2⟩:=ha;obtain⟨bx1,bx2,by1,by2⟩:=hb;have hD:0<b.2-a.2:=by omega
 let c:Int→Int:=fun y=>(b.1-a.1)*(y-a.2)+(b.2-a.2)*a.1
 have hti:∀x y:Int,ti a b (x,y)=c y-(b.2-a.2)*x:=fun x y=>by show _=(b.1-a.1)*(y-a.2)+(b.2-a.2)*a.1-(b.2-a.2)*x; unfold ti; grind
 have hcr:∀y,c y+c (a.2+b.2-y)=(b.2-a.2)*(a.1+b.1):=fun y=>by show(b.1-a.1)*(y-a.2)+(b.2-a.2)*a.1+((b.1-a.1)*(a.2+b.2-y-a.2)+(b.2-a.2)*a.1)=_; grind
 have hlo:∀y,a.2≤y→y≤b.2→(b.2-a.2)*L≤c y:=fun y h1 h2=>by
  have e:c y=(b.2-y)*a.1+(y-a.2)*b.1:=by show(b.1-a.1)*(y-a.2)+(b.2-a.2)*a.1=_; grind
  have e1:=Int.mul_le_mul_of_nonneg_left ax1 (show 0≤b.2-y by omega)
  have e2:=Int.mul_le_mul_of_nonneg_left bx1 (show 0≤y-a.2 by omega)
  have e3:(b.2-a.2)*L=(b.2-y)*L+(y-a.2)*L:=by grind
  omega
 have hhi:∀y,a.2≤y→y≤b.2→c y≤(b.2-a.2)*(L+W-1):=fun y h1 h2=>by
  have e:c y=(b.2-y)*a.1+(y-a.2)*b.1:=by show(b.1-a.1)*(y-a.2)+(b.2-a.2)*a.1=_; grind
  have e1:=Int.mul_le_mul_of_nonneg_left (show a.1≤L+W-1 by omega) (show 0≤b.2-y by omega)
  have e2:=Int.mul_le_mul_of_nonneg_left (show b.1≤L+W-1 by omega) (show 0≤y-a.2 by omega)
  have e3:(b.2-a.2)*(L+W-1)=(b.2-y)*(L+W-1)+(y-a.2)*(L+W-1):=by grind
  omega
 have hS:a.1+b.1=a.1+b.1:=rfl
 let F:Int→Int:=fun y=>aD W fun i=>if 0<ti a b (L+i,y) then 1 else 0
 let G:Int→Int:=fun y=>aD W fun i=>if ti a b (L+i,y)<0 then 1 else 0
 have hFG:∀y,a.2≤y→y<b.2→F y-G (a.2+b.2-y)=a.1+b.1-(2*L+W-1):=fun y h1 h2=>by
  obtain⟨q,q1,q2⟩:=FC (c:=c y) hD;have l1:=hlo y h1 (by omega)
  have l2:=hhi y h1 (by omega)
  have l3:=hlo (a.2+b.2-y) (by omega) (by omega)
  have l4:=hhi (a.2+b.2-y) (by omega) (by omega)
  have hc:=hcr y;have g1:L≤q+1:=(fU hD).1 (Int.le_trans l1 q2);have g2:q<L+W-1:=(qW hD).1 (Int.lt_of_lt_of_le q1 l2);have d1:(b.2-a.2)*(a.1+b.1-q)=(b.2-a.2)*(a.1+b.1)-(b.2-a.2)*q:=by grind
  have d2:(b.2-a.2)*(a.1+b.1-(q+1))=(b.2-a.2)*(a.1+b.1)-(b.2-a.2)*(q+1):=by grind
  have g3:L<a.1+b.1-q:=(qW hD).1 (by omega)
  have g4:a.1+b.1-(q+1)≤L+W-1:=(fU hD).1 (by omega)
  have eF:F y=q-L+1:=by
   rw[←count_le (L:=L) (q:=q) (W:=W) (by omega) (by omega)]
   refine ar fun i _=>?_;rw[hti]
   by_cases k:L+(i:Int)≤q
   ·have:=(fU hD).2 k;rw[if_pos k,if_pos (by omega)]
   ·have:=(fU hD).2 (show q+1≤L+(i:Int) by omega)
    rw[if_neg k,if_neg (by omega)]
  have eG:G (a.2+b.2-y)=L+W-(a.1+b.1-q):=by
   rw[←CT (L:=L) (q:=a.1+b.1-q) (W:=W) (by omega) (by omega)]
   refine ar fun i _=>?_;rw[hti]
   by_cases k:a.1+b.1-q≤L+(i:Int)
   ·have:=(fU hD).2 k;rw[if_pos k,if_pos (by omega)]
   ·have:=(fU hD).2 (show L+(i:Int)≤a.1+b.1-(q+1) by omega)
    rw[if_neg k,if_neg (by omega)]
  rw[eF,eG]; omega
 have e:bx L B W H (fun p=>wi a b p+wj a b p)=aD H (fun j=>if a.2≤B+j∧B+j<b.2 then F (B+j) else 0)-aD H (fun j=>if a.2+1≤B+j∧B+j<b.2+1 then G (B+j) else 0):=by
  unfold bx;rw[mP,←dI];refine ar fun j _=>?_;rw[eu];have e1:aD W (fun i=>wi a b (L+i,B+j))=if a.2≤B+j∧B+j<b.2 then F (B+j) else 0:=by
   by_cases k:a.2≤B+(j:Int)∧B+(j:Int)<b.2
   ·rw[if_pos k];refine ar fun i _=>?_;unfold wi
    dsimp only
    by_cases k2:0<ti a b (L+i,B+j)
    ·rw[if_pos (by omega),if_pos k2]
    ·rw[if_neg (by omega),if_neg (by omega),if_neg k2]
   ·rw[if_neg k];refine bj fun i _=>?_;unfold wi
    dsimp only
    rw[if_neg (by omega),if_neg (by omega)]
  have e2:aD W (fun i=>wj a b (L+i,B+j)) = -(if a.2+1≤B+j∧B+j<b.2+1 then G (B+j) else 0):=by
   by_cases k:a.2+1≤B+(j:Int)∧B+(j:Int)<b.2+1
   ·rw[if_pos k]
    show _ = -aD W fun i=>if ti a b (L+i,B+j)<0 then 1 else 0
    rw[←pK];refine ar fun i _=>?_;unfold wj
    dsimp only
    by_cases k2:ti a b (L+i,B+j)<0
    ·rw[if_pos (by omega),if_pos k2]
    ·rw[if_neg (by omega),if_neg (by omega),if_neg k2]; rfl
   ·rw[if_neg k];refine bj fun i _=>?_;unfold wj
    dsimp only
    rw[if_neg (by omega),if_neg (by omega)]
  rw[e1,e2]; omega
 rw[e,gN F ay1 (by omega) (by omega),gN G (by omega) (by omega) (by omega),show b.2+1-(a.2+1)=b.2-a.2 by omega]
 obtain⟨D,hDn⟩:∃D:Nat,b.2=a.2+D:=⟨(b.2-a.2).toNat,by omega⟩
 rw[show(b.2-a.2).toNat=D by omega,←tR D fun k=>G (a.2+1+k),←dI]
 rw[ar (g:=fun _=>a.1+b.1-(2*L+W-1)) fun k hk=>?_,iK]
 ·rw[show b.2-a.2=(D:Int) by omega]
 ·have:=hFG (a.2+k) (by omega) (by omega)
  rw[←this]
  congr 2
  omega
theorem Eh (a b p:I2):wj b a p = -wj a b p:=by rw[←xi,←xi,yJ]
theorem Bi {a b:I2} (ha:Inb L B W H a) (hb:Inb L B W H b):bx L B W H (fun p=>wi a b p+wj a b p)=(b.2-a.2)*(a.1+b.1-(2*L+W-1)):=by
 rcases Int.lt_trichotomy a.2 b.2 with h|h|h
 ·exact yh ha hb h
 ·rw[h,Int.sub_self,Int.zero_mul];refine bj fun i _=>bj fun j _=>?_;unfold wi wj
  dsimp only
  rw[if_neg (by omega),if_neg (by omega),if_neg (by omega),if_neg (by omega)]; rfl
 ·have:=yh hb ha h;have e:bx L B W H (fun p=>wi a b p+wj a b p) = -bx L B W H (fun p=>wi b a p+wj b a p):=by
   rw[←Cr];exact jm fun p _=>by rw[yJ a b,Eh a b]; omega
  rw[e,this]; grind
theorem uE {r:List I2} (h:∀i,Inb L B W H (nx r i)):bx L B W H (fun p=>dh r p+gU r p)=kz r:=by
 have e:bx L B W H (fun p=>dh r p+gU r p)=aD r.length fun i=>bx L B W H fun p=>wi (nx r i) (nx r (i+1)) p+wj (nx r i) (nx r (i+1)) p:=by
  rw[←rV];exact jm fun p _=>(eu _ _ _).symm
 rw[e,ar fun i _=>Bi (h i) (h (i+1))];have t:=hJ r.length fun i=>(nx r i).1*(nx r i).2-(2*L+W-1)*(nx r i).2;rw[kU,Int.sub_self] at t;have t2:=eu r.length (fun i=>(nx r i).1*(nx r (i+1)).2-(nx r i).2*(nx r (i+1)).1) fun i=>((nx r (i+1)).1*(nx r (i+1)).2-(2*L+W-1)*(nx r (i+1)).2)-((nx r i).1*(nx r i).2-(2*L+W-1)*(nx r i).2);rw[t,Int.add_zero] at t2;unfold kz;rw[←t2];exact ar fun i _=>by grind
end
theorem JJ (x y:Nat):∃s t:Int,s*x+t*y=(Nat.gcd x y:Nat):=by
 induction x,y using Nat.gcd.induction with
 | H0 y=>exact⟨0,1,by simp⟩
 | H1 x y hx ih =>
  obtain⟨s,t,e⟩:=ih;rw[←Nat.gcd_rec] at e;refine⟨t-s*(y/x:Nat),s,?_⟩;rw[←e];have hm:(y:Int)=(x:Int)*(y/x:Nat)+(y%x:Nat):=by
   have:=Nat.div_add_mod y x
   exact_mod_cast this.symm
  generalize ((y/x:Nat):Int)=q at *;generalize ((y%x:Nat):Int)=z at *;rw[hm]; grind
theorem IW (x y:Int):∃s t:Int,s*x+t*y=(Int.gcd x y:Nat):=by
 obtain⟨s,t,e⟩:=JJ x.natAbs y.natAbs;have hx:((x.natAbs:Nat):Int)=x∨((x.natAbs:Nat):Int) = -x:=by omega
 have hy:((y.natAbs:Nat):Int)=y∨((y.natAbs:Nat):Int) = -y:=by omega
 show ∃s t:Int,s*x+t*y=((Nat.gcd x.natAbs y.natAbs:Nat):Int)
 rw[←e];rcases hx with hx|hx<;>rcases hy with hy|hy<;>rw[hx,hy]
 ·exact⟨s,t,rfl⟩
 ·exact⟨s,-t,by grind⟩
 ·exact⟨-s,t,by grind⟩
 ·exact⟨-s,-t,by grind⟩
structure Steps (a b:I2) (g:Nat) (u w s t:Int):Prop where
 g0:0<g
 x:b.1-a.1=g*u
 y:b.2-a.2=g*w
 one:s*u+t*w=1
theorem steps {a b:I2} (hab:a≠b):∃u w s t,Steps a b (Int.gcd (b.1-a.1) (b.2-a.2)) u w s t:=by
 obtain⟨s,t,e⟩:=IW (b.1-a.1) (b.2-a.2);have g0:0<Int.gcd (b.1-a.1) (b.2-a.2):=by
  refine Nat.pos_of_ne_zero fun h=>hab ?_;have:=Int.gcd_eq_zero_iff.1 h;exact Prod.ext (by omega) (by omega)
 obtain⟨u,hu⟩:=Int.gcd_dvd_left (a:=b.1-a.1) (b:=b.2-a.2);obtain⟨w,hw⟩:=Int.gcd_dvd_right (a:=b.1-a.1) (b:=b.2-a.2);refine⟨u,w,s,t,g0,hu,hw,?_⟩;generalize Int.gcd (b.1-a.1) (b.2-a.2)=g at *;have:(g:Int)*(s*u+t*w-1)=0:=by rw[hu,hw] at e; grind
 rcases Int.mul_eq_zero.1 this with k|k
 ·omega
 ·omega
theorem xO {k g u:Int} (h0:0≤k) (h1:k≤g):(0≤u→0≤k*u∧k*u≤g*u)∧(u≤0→g*u≤k*u∧k*u≤0) :=
 ⟨fun h=>⟨Int.mul_nonneg h0 h,Int.mul_le_mul_of_nonneg_right h1 h⟩,fun h=>⟨Int.mul_le_mul_of_nonpos_right h1 h,Int.mul_nonpos_of_nonneg_of_nonpos h0 h⟩⟩
theorem yZ {k g u:Int} (hu:u≠0) (h:min 0 (g*u)≤k*u∧k*u≤max 0 (g*u)) (hg:0≤g):0≤k∧k≤g:=by
 rcases Int.lt_or_gt_of_ne hu with g1|g1
 ·have p1:=Int.mul_nonpos_of_nonneg_of_nonpos hg (Int.le_of_lt g1);constructor
  ·refine Decidable.byContradiction fun c=>?_;have:=Int.mul_pos_of_neg_of_neg (show k<0 by omega) g1
   omega
  ·refine Decidable.byContradiction fun c=>?_;have:=Int.mul_neg_of_pos_of_neg (show 0<k-g by omega) g1
   rw[Int.sub_mul] at this;omega
 ·have p1:=Int.mul_nonneg hg (Int.le_of_lt g1);constructor
  ·refine Decidable.byContradiction fun c=>?_;have:=Int.mul_neg_of_neg_of_pos (show k<0 by omega) g1
   omega
  ·refine Decidable.byContradiction fun c=>?_;have:=Int.mul_pos (show 0<k-g by omega) g1
   rw[Int.sub_mul] at this;omega
section
variable {a b : I2} {g : Nat} {u w s t : Int}
theorem Steps.Hh (h:Steps a b g u w s t) {k:Int} (h0:0≤k) (h1:k≤g):bE a b (a.1+k*u,a.2+k*w):=by
 have m1:=xO (u:=u) h0 h1;have m2:=xO (u:=w) h0 h1;have hx:=h.x;have hy:=h.y;refine⟨?_,?_,?_,?_,?_⟩
 ·unfold ti; dsimp only; rw[hx,hy]; grind
 all_goals dsimp only; omega
theorem Steps.inj (h:Steps a b g u w s t) {k l:Int} (e:((a.1+k*u,a.2+k*w):I2)=(a.1+l*u,a.2+l*w)):k=l:=by
 have e1:=congrArg Prod.fst e;have e2:=congrArg Prod.snd e
 dsimp only at e1 e2
 have h1:=h.one;have:k*(s*u+t*w)=l*(s*u+t*w):=by
  have d1:k*u=l*u:=by omega
  have d2:k*w=l*w:=by omega
  calc k*(s*u+t*w)=s*(k*u)+t*(k*w):=by grind
   _=s*(l*u)+t*(l*w):=by rw[d1,d2]
   _=_:=by grind
 rw[h1] at this;omega
theorem Steps.end_ (h:Steps a b g u w s t):b=(a.1+g*u,a.2+g*w):=Prod.ext (by have:=h.x; dsimp only; omega) (by have:=h.y; dsimp only; omega)
theorem Steps.of (h:Steps a b g u w s t) {p:I2} (hp:bE a b p):∃k:Int,0≤k∧k≤g∧p=(a.1+k*u,a.2+k*w):=by
 obtain⟨h0,h1,h2,h3,h4⟩:=hp;have hx:=h.x;have hy:=h.y;have ho:=h.one;have hg:(g:Int)≠0:=by have:=h.g0; omega
 have hc:u*(p.2-a.2)=w*(p.1-a.1):=by
  unfold ti at h0;rw[hx,hy] at h0;have:(g:Int)*(u*(p.2-a.2)-w*(p.1-a.1))=0:=by grind
  rcases Int.mul_eq_zero.1 this with k|k
  ·exact absurd k hg
  ·omega
 have e1:p.1-a.1=(s*(p.1-a.1)+t*(p.2-a.2))*u:=by
  have:(s*(p.1-a.1)+t*(p.2-a.2))*u=s*u*(p.1-a.1)+t*(u*(p.2-a.2)):=by grind
  rw[this,hc];have:s*u*(p.1-a.1)+t*(w*(p.1-a.1))=(s*u+t*w)*(p.1-a.1):=by grind
  rw[this,ho]; omega
 have e2:p.2-a.2=(s*(p.1-a.1)+t*(p.2-a.2))*w:=by
  have:(s*(p.1-a.1)+t*(p.2-a.2))*w=s*(w*(p.1-a.1))+t*w*(p.2-a.2):=by grind
  rw[this,←hc];have:s*(u*(p.2-a.2))+t*w*(p.2-a.2)=(s*u+t*w)*(p.2-a.2):=by grind
  rw[this,ho]; omega
 generalize s*(p.1-a.1)+t*(p.2-a.2)=k at e1 e2;have hr:0≤k∧k≤g:=by
  by_cases hu:u=0
  ·have hw:w≠0:=fun hw=>by rw[hu,hw] at ho; simp at ho
   exact yZ hw (by omega) (by omega)
  ·exact yZ hu (by omega) (by omega)
 exact⟨k,hr.1,hr.2,Prod.ext (by dsimp only; omega) (by dsimp only; omega)⟩
end
section
variable {L B : Int} {W H : Nat}
theorem Inb.Jx {a b p:I2} (ha:Inb L B W H a) (hb:Inb L B W H b) (h:bE a b p):Inb L B W H p:=by
 obtain⟨_,h1,h2,h3,h4⟩:=h;obtain⟨a1,a2,a3,a4⟩:=ha;obtain⟨b1,b2,b3,b4⟩:=hb;exact⟨by omega,by omega,by omega,by omega⟩
theorem vG {a b:I2} (hab:a≠b) (ha:Inb L B W H a) (hb:Inb L B W H b):bx L B W H (fun p=>if bE a b p∧p≠b then 1 else 0)=(Int.gcd (b.1-a.1) (b.2-a.2):Nat):=by
 obtain⟨u,w,s,t,h⟩:=steps hab;generalize Int.gcd (b.1-a.1) (b.2-a.2)=g at *;have e:bx L B W H (fun p=>if bE a b p∧p≠b then 1 else 0)=bx L B W H fun p=>aD g fun k=>if p=(a.1+k*u,a.2+k*w) then 1 else 0:=jm fun p _=>by
  by_cases hp:bE a b p∧p≠b
  ·obtain⟨k,k0,k1,ek⟩:=h.of hp.1;have hk:k≠g:=fun c=>hp.2 (by rw[ek,c]; exact h.end_.symm)
   obtain⟨n,rfl⟩:∃n:Nat,k=n:=⟨k.toNat,by omega⟩
   rw[if_pos hp,dL (k:=n) (by omega) fun i hi hne=>if_neg fun c=>hne ?_,if_pos ek]
   have:=h.inj (k:=i) (l:=n) (by rw[←c,ek])
   omega
  ·rw[if_neg hp,bj fun i hi=>if_neg fun c=>hp ?_];refine⟨by rw[c]; exact h.Hh (by omega) (by omega),fun c2=>?_⟩
   have:=h.inj (k:=i) (l:=g) (by rw[←c,c2]; exact h.end_)
   omega
 rw[e,rV,ar (g:=fun _=>1) fun k hk=>CS (ha.Jx hb (h.Hh (by omega) (by omega))),iK]
 omega
end
open Classical in
noncomputable def qX (r:List I2) (p:I2):Int:=if ∃i,i<r.length∧bE (nx r i) (nx r (i+1)) p then 1 else 0
open Classical in
noncomputable def tj (r:List I2) (p:I2):Int:=if ∃i,i<r.length∧bE (nx r i) (nx r (i+1)) p then 0 else if dh r p=0 then 0 else 1
def mix (r:List I2) (m:Nat):Int:=if up (nx r m) (nx r (pv r m))=up (nx r m) (nx r (m+1)) then if 0<ti (nx r (pv r m)) (nx r m) (nx r (m+1)) then 1 else -1 else 0
theorem Da (p:I2):up p p=0:=by unfold up; rw[if_neg (by omega)]
theorem GC {a b p:I2} (h:bE a b p) (ha:p≠a) (hb:p≠b):up p a+up p b=1:=by
 obtain⟨h0,h1,h2,h3,h4⟩:=h;have ha':¬(p.1=a.1∧p.2=a.2):=fun k=>ha (Prod.ext k.1 k.2);have hb':¬(p.1=b.1∧p.2=b.2):=fun k=>hb (Prod.ext k.1 k.2)
 by_cases e1:a.2=p.2
 ·by_cases e2:b.2=p.2
  ·unfold up
   by_cases k:a.1<p.1
   ·rw[if_pos (by omega),if_neg (by omega)]; rfl
   ·rw[if_neg (by omega),if_pos (by omega)]; rfl
  ·rw[o5 e1] at h0;rcases Int.mul_eq_zero.1 h0 with k|k<;>omega
 ·by_cases e2:b.2=p.2
  ·rw[qD e2] at h0;rcases Int.mul_eq_zero.1 h0 with k|k<;>omega
  ·unfold up
   by_cases k:p.2<a.2
   ·rw[if_pos (by omega),if_neg (by omega)]; rfl
   ·rw[if_neg (by omega),if_pos (by omega)]; rfl
section
variable {r : List I2}
theorem VR.G5 (h:VR r) (p:I2):qX r p=aD r.length fun i=>if bE (nx r i) (nx r (i+1)) p∧p≠nx r (i+1) then 1 else 0:=by
 unfold qX
 by_cases ho:∃i,i<r.length∧bE (nx r i) (nx r (i+1)) p
 ·rw[if_pos ho];obtain⟨i,hi,hb⟩:=ho
  by_cases hc:∃m,m<r.length∧p=nx r m
  ·obtain⟨m,hm,rfl⟩:=hc;rw[dL hm fun j hj hne=>if_neg fun c=>?_,if_pos ⟨j7 _ _,h.still m⟩];rcases h.fI hm hj c.1 with e|e
   ·exact hne e
   ·exact c.2 (by rw[e,lS hm])
  ·have hk:∀k,p≠nx r k:=fun k e=>hc ⟨k%r.length,Nat.mod_lt _ (by have:=h.n3; omega),by rw[e]; exact dQ r (Nat.mod_mod _ _).symm⟩
   rw[dL hi fun j hj hne=>if_neg fun c=>hne (h.o8 hj hi hk c.1 hb),if_pos ⟨hb,hk _⟩]
 ·rw[if_neg ho,bj fun i hi=>if_neg fun c=>ho ⟨i,hi,c.1⟩]
theorem VR.DE (h:VR r) (g:Sg r 1) (p:I2):Jd.dh r p+gU r p=2*tj r p+qX r p-aD r.length fun m=>mix r m*(if p=nx r m then 1 else 0):=by
 have hw:=g.Gp h p;have hl:=g.EZ h p;have hd:=yv r p;unfold tj qX
 by_cases ho:∃i,i<r.length∧bE (nx r i) (nx r (i+1)) p
 ·rw[if_pos ho,if_pos ho];obtain⟨i,hi,hb⟩:=ho
  by_cases hc:∃m,m<r.length∧p=nx r m
  ·obtain⟨m,hm,rfl⟩:=hc;rw[dL hm fun j hj hne=>by rw[if_neg fun e=>hne (h.inj hm hj e).symm]; simp]
   rw[if_pos rfl,Int.mul_one];rw[h.pA hm fun j _ hn=>by unfold Eu; rw[if_neg hn]] at hd
   unfold Eu at hd;rw[if_pos (by rw[lS hm]; exact pE _ _),if_pos (j7 _ _),lS hm,Da] at hd
   have a1:=Cc (nx r m) (nx r (pv r m));have a2:=Cc (nx r m) (nx r (m+1));unfold mix
   by_cases e:up (nx r m) (nx r (pv r m))=up (nx r m) (nx r (m+1))
   ·rw[if_pos e];rcases a1 with k|k
    ·have:=(g.GV h hm k (by omega)).2
     split at this
     ·rename_i t; rw[if_pos t]; omega
     ·rename_i t; rw[if_neg t]; omega
    ·have:=g.E3 h hm k (by omega)
     split at this
     ·rename_i t; rw[if_pos t]; omega
     ·rename_i t; rw[if_neg t]; omega
   ·rw[if_neg e]; omega
  ·have hk:∀k,p≠nx r k:=fun k e=>hc ⟨k%r.length,Nat.mod_lt _ (by have:=h.n3; omega),by rw[e]; exact dQ r (Nat.mod_mod _ _).symm⟩
   rw[bj fun m _=>by rw[if_neg (hk m)]; simp]
   rw[dL hi fun j hj hne=>by unfold Eu; exact if_neg fun c=>hne (h.o8 hj hi hk c hb)] at hd
   unfold Eu at hd;rw[if_pos hb] at hd;have:=GC hb (hk _) (hk _);have a1:=Cc p (nx r i);omega
 ·rw[if_neg ho,if_neg ho,bj fun m hm=>by rw[if_neg fun e=>ho ⟨m,hm,by rw[e]; exact j7 _ _⟩]; simp]
  have:=oA (r:=r) (p:=p) fun i hi hb=>ho ⟨i,hi,hb⟩
  split<;>omega
theorem yi {n:Nat} {f:Nat→Int} (h:∀i,i<n→f i≤0):aD n f≤0:=by
 induction n with
 | zero=>simp[aD]
 | succ n ih =>
  have h1:=ih fun i hi=>h i (by omega)
  have h2:=h n (by omega)
  simp only[aD]; omega
theorem VR.Gj (h:VR r) (ha:0<kz r):Sg r 1:=by
 obtain⟨s,hs,g⟩:=h.sign;have g:Sg r s:=g;rcases hs with rfl|rfl
 ·exact g
 ·exfalso;obtain⟨K,K0,hK⟩:=(Lg.all (n:=r.length) (P:=fun i K=>-K<(nx r i).1∧(nx r i).1<K∧-K<(nx r i).2∧(nx r i).2<K) fun i _ =>
   (Lg.ge (max (max (nx r i).1 (-(nx r i).1)) (max (nx r i).2 (-(nx r i).2))+1)).imp fun K h=>by omega).get
  have hb:∀i,Inb (-K) (-K) (2*K).toNat (2*K).toNat (nx r i):=fun i=>by
   have:=hK (i%r.length) (Nat.mod_lt _ (by have:=h.n3; omega))
   rw[dQ r (Nat.mod_mod i r.length)] at this;exact⟨by omega,by omega,by omega,by omega⟩
  have e:=uE hb;have:bx (-K) (-K) (2*K).toNat (2*K).toNat (fun p=>Jd.dh r p+gU r p)≤0:=yi fun i _=>yi fun j _=>by
   have a:=g.Gp h (-K+i,-K+j);have b:=g.EZ h (-K+i,-K+j)
   dsimp only
   omega
  omega
theorem VR.pick (h:VR r) (ha:0<kz r) (ht:aD r.length (mix r)=2) {L B:Int} {W H:Nat} (hb:∀i,Inb L B W H (nx r i)):kz r=2*bx L B W H (tj r)+bx L B W H (qX r)-2:=by
 have g:=h.Gj ha;rw[←uE hb];have e:bx L B W H (fun p=>Jd.dh r p+gU r p)=bx L B W H fun p=>(2*tj r p+qX r p) + -aD r.length fun m=>mix r m*(if p=nx r m then 1 else 0):=jm fun p _=>by rw[h.DE g p]; omega
 rw[e,Ct,Ct,CA,Cr,rV,ar (g:=mix r) fun m _=>by rw[CA,CS (hb m),Int.mul_one],ht]
 omega
theorem VR.CJ (h:VR r) {L B:Int} {W H:Nat} (hb:∀i,Inb L B W H (nx r i)):bx L B W H (qX r)=aD r.length fun i=>(Int.gcd ((nx r (i+1)).1-(nx r i).1) ((nx r (i+1)).2-(nx r i).2):Nat):=by
 rw[jm fun p _=>h.G5 p,rV];exact ar fun i _=>vG (h.still i) (hb i) (hb (i+1))
end
def Up (x:I2):Prop:=0<x.2∨(x.2=0∧x.1<0)
instance (x:I2):Decidable (Up x):=by unfold Up; infer_instance
def sb (a b:I2):I2:=(b.1-a.1,b.2-a.2)
def FQ (a:I2):I2:=(-a.1,-a.2)
theorem q4 (p v:I2):up p v=if Up (sb p v) then 1 else 0:=by
 have iu:Up (sb p v)↔(p.2<v.2∨(v.2=p.2∧v.1<p.1)):=by unfold Up sb; dsimp only; omega
 unfold up
 by_cases h:p.2<v.2∨(v.2=p.2∧v.1<p.1)
 ·rw[if_pos h,if_pos (iu.2 h)]
 ·rw[if_neg h,if_neg (fun k=>h (iu.1 k))]
theorem Di {a v:I2} (h:a≠v):up v a=1-up a v:=by
 have:¬(a.1=v.1∧a.2=v.2):=fun k=>h (Prod.ext k.1 k.2);unfold up
 by_cases k:v.2<a.2∨(a.2=v.2∧a.1<v.1)
 ·rw[if_pos k,if_neg (by omega)]; rfl
 ·rw[if_neg k,if_pos (by omega)]; rfl
theorem fQ (a b:I2):ft (FQ a) b = -ft a b:=by unfold ft FQ; grind
theorem fS (a b:I2):ft a (FQ b) = -ft a b:=by unfold ft FQ; grind
theorem ik (a b:I2):ft b a = -ft a b:=by unfold ft; grind
theorem wE {x:I2} (h:x≠(0,0)):Up (FQ x)↔¬Up x:=by
 have:¬(x.1=0∧x.2=0):=fun k=>h (Prod.ext k.1 k.2);unfold Up FQ
 dsimp only
 omega
theorem lU {x y z:I2} (hx:Up x) (hy:Up y) (hz:Up z) (h1:0<ft x y) (h2:0<ft y z):0<ft x z:=by
 unfold Up at *;unfold ft at *;have e:y.2*(x.1*z.2-x.2*z.1)=z.2*(x.1*y.2-x.2*y.1)+x.2*(y.1*z.2-y.2*z.1):=by grind
 have x0:0<x.2:=by
  refine Decidable.byContradiction fun c=>?_;have c0:x.2=0:=by omega
  rw[c0,Int.zero_mul,Int.sub_zero] at h1;have:x.1*y.2≤0:=Int.mul_nonpos_of_nonpos_of_nonneg (by omega) (by omega)
  omega
 have y0:0<y.2:=by
  refine Decidable.byContradiction fun c=>?_;have c0:y.2=0:=by omega
  rw[c0,Int.zero_mul,Int.sub_zero] at h2;have:y.1*z.2≤0:=Int.mul_nonpos_of_nonpos_of_nonneg (by omega) (by omega)
  omega
 have p1:=Int.mul_nonneg (show 0≤z.2 by omega) (Int.le_of_lt h1)
 have p2:=Int.mul_pos x0 h2;have p3:0<y.2*(x.1*z.2-x.2*z.1):=by omega
 exact(eY y0).1 p3
theorem oO (b:I2):ft (0,0) b=0:=by unfold ft; simp
theorem kO (b:I2):ft b (0,0)=0:=by unfold ft; simp
theorem qI {v e1 e2:I2} (h1:0<ft v e1) (h2:0<ft v e2) (hne:¬(Up e1↔Up e2)):0<ft e1 e2↔(Up e1↔Up v):=by
 have v0:v≠(0,0):=fun k=>by rw[k,oO] at h1; omega
 have a0:e1≠(0,0):=fun k=>by rw[k,kO] at h1; omega
 have b0:e2≠(0,0):=fun k=>by rw[k,kO] at h2; omega
 have nv:=wE v0;have na:=wE a0;have nb:=wE b0
 by_cases hv:Up v
 ·by_cases ha:Up e1
  ·have hb:Up (FQ e2):=nb.2 fun k=>hne ⟨fun _=>k,fun _=>ha⟩;have:=lU hb hv ha (by rw[fQ,ik]; omega) h1
   rw[fQ,ik] at this;exact⟨fun _=>⟨fun _=>hv,fun _=>ha⟩,fun _=>by omega⟩
  ·have hb:Up e2:=Decidable.byContradiction fun k=>hne ⟨fun g=>absurd g ha,fun g=>absurd g k⟩;have:=lU (na.2 ha) hv hb (by rw[fQ,ik]; omega) h2
   rw[fQ] at this;exact⟨fun k=>by omega,fun k=>absurd (k.2 hv) ha⟩
 ·by_cases ha:Up e1
  ·have hb:¬Up e2:=fun k=>hne ⟨fun _=>k,fun _=>ha⟩;have:=lU ha (nv.2 hv) (nb.2 hb) (by rw[fS,ik]; omega) (by rw[fQ,fS]; omega)
   rw[fS] at this;exact⟨fun k=>by omega,fun k=>absurd (k.1 ha) hv⟩
  ·have hb:Up e2:=Decidable.byContradiction fun k=>hne ⟨fun g=>absurd g ha,fun g=>absurd g k⟩;have:=lU hb (nv.2 hv) (na.2 ha) (by rw[fS,ik]; omega) (by rw[fQ,fS]; omega)
   rw[fS,ik] at this;exact⟨fun _=>⟨fun g=>absurd g ha,fun g=>absurd g hv⟩,fun _=>by omega⟩
theorem Ed {r:List I2} (F:Nat→Int):aD r.length (fun m=>F (pv r m))=aD r.length F:=by
 cases h:r.length with
 | zero=>rfl
 | succ n =>
  rw[eV]
  show _=aD n F+F n
  have e0:pv r 0=n:=by unfold pv; rw[if_pos rfl,h]; rfl
  rw[e0,ar (g:=F) fun i _=>by unfold pv; rw[if_neg (by omega)]; rfl]
  omega
section
variable {r : List I2}
theorem vU (hl:∀i,0<ft (nx r i) (nx r (i+1))) (h:VR r):aD r.length (mix r)=aD r.length fun i=>if up (0,0) (nx r i)=up (0,0) (nx r (i+1)) then 0 else 1:=by
 let F:Nat→Int:=fun i=>if up (nx r i) (nx r (i+1))=up (0,0) (nx r i) then 0 else 1
 let G:Nat→Int:=fun i=>if up (nx r i) (nx r (i+1))=up (0,0) (nx r (i+1)) then 0 else 1
 have key:∀m,m<r.length→mix r m=F m-G (pv r m):=fun m hm=>by
  have e1:=lS hm;have a1:=hl (pv r m);have a2:=hl m;have n1:=h.still (pv r m)
  show mix r m=(if up (nx r m) (nx r (m+1))=up (0,0) (nx r m) then 0 else 1)-(if up (nx r (pv r m)) (nx r (pv r m+1))=up (0,0) (nx r (pv r m+1)) then 0 else 1)
  rw[e1] at a1 n1 ⊢;unfold mix;rw[Di n1];generalize nx r (pv r m)=a at *;generalize nx r m=v at *;generalize nx r (m+1)=b at *;have c1:0<ft v (sb a v):=by unfold ft sb at *; dsimp only; grind
  have c2:0<ft v (sb v b):=by unfold ft sb at *; dsimp only; grind
  have c3:ti a v b=ft (sb a v) (sb v b):=by unfold ti ft sb; dsimp only; grind
  have ev:up (0,0) v=if Up v then 1 else 0:=by rw[q4]; simp[sb]
  rw[c3,ev,q4 a v,q4 v b]
  by_cases k1:Up (sb a v)
  ·rw[if_pos k1]
   by_cases k2:Up (sb v b)
   ·rw[if_pos k2]
    by_cases k3:Up v
    ·rw[if_pos k3]; simp
    ·rw[if_neg k3]; simp
   ·have t:=qI c1 c2 (fun g=>k2 (g.1 k1));rw[if_neg k2]
    by_cases k3:Up v
    ·rw[if_pos k3,if_pos (t.2 ⟨fun _=>k3,fun _=>k1⟩)]; decide
    ·rw[if_neg k3,if_neg (fun g=>k3 ((t.1 g).1 k1))]; decide
  ·rw[if_neg k1]
   by_cases k2:Up (sb v b)
   ·have t:=qI c1 c2 (fun g=>k1 (g.2 k2));rw[if_pos k2]
    by_cases k3:Up v
    ·rw[if_pos k3,if_neg (fun g=>k1 ((t.1 g).2 k3))]; decide
    ·rw[if_neg k3,if_pos (t.2 ⟨fun g=>absurd g k1,fun g=>absurd g k3⟩)]; decide
   ·rw[if_neg k2]
    by_cases k3:Up v
    ·rw[if_pos k3]; simp
    ·rw[if_neg k3]; simp
 rw[ar key,dI,Ed G,←dI];refine ar fun i _=>?_
 show(if up (nx r i) (nx r (i+1))=up (0,0) (nx r i) then 0 else 1)-(if up (nx r i) (nx r (i+1))=up (0,0) (nx r (i+1)) then 0 else 1)=(if up (0,0) (nx r i)=up (0,0) (nx r (i+1)) then(0:Int) else 1)
 have hi:=hl i;generalize nx r i=v at *;generalize nx r (i+1)=b at *;have ev:up (0,0) v=if Up v then 1 else 0:=by rw[q4]; simp[sb]
 have eb:up (0,0) b=if Up b then 1 else 0:=by rw[q4]; simp[sb]
 rw[ev,eb,q4];have hb0:¬(b.1=0∧b.2=0):=fun k=>by rw[show b=(0,0) from Prod.ext k.1 k.2,kO] at hi; omega
 have hv0:¬(v.1=0∧v.2=0):=fun k=>by rw[show v=(0,0) from Prod.ext k.1 k.2,oO] at hi; omega
 by_cases k1:Up v
 ·by_cases k2:Up b
  ·rw[if_pos k1,if_pos k2]; split<;>decide
  ·rw[if_pos k1,if_neg k2,if_neg (show ¬Up (sb v b) by unfold Up sb at *; dsimp only; omega)]; decide
 ·by_cases k2:Up b
  ·rw[if_neg k1,if_pos k2,if_pos (show Up (sb v b) by unfold Up sb at *; dsimp only; omega)]; decide
  ·rw[if_neg k1,if_neg k2]; split<;>decide
end
def H9 (D:List Nat):Int:=aD D.length fun i=>if up (0,0) (wy (D.getD i 0))=up (0,0) (wy (D.getD ((i+1)%D.length) 0)) then 0 else 1
theorem Bn:∀b1 b2 b4 b5 b7 b8 b10 b11:Bool,H9 (zo b1 b2 b4 b5 b7 b8 b10 b11)=2:=by decide +kernel
theorem Gq {c:Int} (hc:0<c) (v:I2):up (0,0) (q6 c v)=up (0,0) v:=by
 unfold up q6
 dsimp only
 have e1:0<v.2*c↔0<v.2:=by rw[Int.mul_comm]; exact eY hc
 have e2:v.1*c<0↔v.1<0:=by rw[Int.mul_comm]; exact dU hc
 have e3:v.2*c=0↔v.2=0:=⟨fun h=>by rcases Int.mul_eq_zero.1 h with k|k<;>omega,fun h=>by rw[h]; simp⟩
 by_cases h:0<v.2∨(v.2=0∧v.1<0)
 ·rw[if_pos h,if_pos (by omega)]
 ·rw[if_neg h,if_neg (by omega)]
theorem wA {p:Nat→Bool} (h0:p 0=true) (h3:p 3=true) (h6:p 6=true) (h9:p 9=true) {m:Nat→Int} (hm:∀i,0<m i) :
  aD ((((List.range 12).filter p).map fun i=>q6 (m i) (wy i))).length (mix (((List.range 12).filter p).map fun i=>q6 (m i) (wy i)))=2:=by
 have st:=yT h0 h3 h6 h9 hm;rw[vU st.left st.vr];have hd:=zh h0 h3 h6 h9;rw[hd];have hc:=Bn (p 1) (p 2) (p 4) (p 5) (p 7) (p 8) (p 10) (p 11);have hok:=zj (p 1) (p 2) (p 4) (p 5) (p 7) (p 8) (p 10) (p 11);generalize zo (p 1) (p 2) (p 4) (p 5) (p 7) (p 8) (p 10) (p 11)=D at *;have hl:2<D.length:=by
  unfold IY at hok;have:=(Bool.and_eq_true _ _ ▸ hok).1;exact of_decide_eq_true this
 have en:∀i,up (0,0) (nx (D.map fun i=>q6 (m i) (wy i)) i)=up (0,0) (wy (D.getD (i%D.length) 0)):=fun i=>by
  have hi:i%D.length<D.length:=Nat.mod_lt _ (by omega)
  unfold nx;rw[List.length_map,List.getD_eq_getElem?_getD,List.getElem?_map,List.getElem?_eq_getElem hi,List.getD_eq_getElem?_getD,List.getElem?_eq_getElem hi];exact Gq (hm _) _
 rw[←hc,List.length_map];unfold H9;exact ar fun i hi=>by rw[en,en,Nat.mod_eq_of_lt hi]
def sX (a v b:I2):Int:=if up v a=up v b then if 0<ti a v b then 1 else -1 else 0
def ph (a b:I2):Int:=if up a b=1 then 1 else 2
def IN:List I2→Prop
 | a::b::c::t=>sX a b c=ph b c-ph a b∧IN (b::c::t)
 | _=>True
theorem AL:∀(L:List I2) (i:Nat),IN L→i+2<L.length→sX (L.getD i (0,0)) (L.getD (i+1) (0,0)) (L.getD (i+2) (0,0))=ph (L.getD (i+1) (0,0)) (L.getD (i+2) (0,0))-ph (L.getD i (0,0)) (L.getD (i+1) (0,0))
 | a::b::c::t,0,h,_=>h.1
 | a::b::c::t,i+1,h,hi=>AL (b::c::t) i h.2 (by simp at hi ⊢; omega)
 | [],i,_,hi=>by simp at hi
 | [_],i,_,hi=>by simp at hi
 | [_,_],i,_,hi=>by simp only[List.length_cons,List.length_nil] at hi; omega
theorem gw {p v:I2} (h:p.2<v.2∨(v.2=p.2∧v.1<p.1)):up p v=1:=if_pos h
theorem oB {p v:I2} (h:¬(p.2<v.2∨(v.2=p.2∧v.1<p.1))):up p v=0:=if_neg h
section
variable {x y z : Int}
theorem Ji:sX (x+1,y) (x,y) (x-1,y)=ph (x,y) (x-1,y)-ph (x+1,y) (x,y):=by
 unfold sX ph;rw[oB (p:=(x,y)) (v:=(x+1,y)) (by dsimp only; omega),gw (p:=(x,y)) (v:=(x-1,y)) (by dsimp only; omega),gw (p:=(x+1,y)) (v:=(x,y)) (by dsimp only; omega)]; rfl
theorem HR (h:z≠y):sX (x+1,y) (x,y) (x,z)=ph (x,y) (x,z)-ph (x+1,y) (x,y):=by
 unfold sX ph;rw[oB (p:=(x,y)) (v:=(x+1,y)) (by dsimp only; omega),gw (p:=(x+1,y)) (v:=(x,y)) (by dsimp only; omega)]
 by_cases k:y<z
 ·rw[gw (p:=(x,y)) (v:=(x,z)) (by dsimp only; omega)]; rfl
 ·rw[oB (p:=(x,y)) (v:=(x,z)) (by dsimp only; omega),if_pos rfl,if_pos (by unfold ti; dsimp only; simp; omega)]; rfl
theorem Ix (h:z≠y):sX (x,z) (x,y) (x-1,y)=ph (x,y) (x-1,y)-ph (x,z) (x,y):=by
 unfold sX ph;rw[gw (p:=(x,y)) (v:=(x-1,y)) (by dsimp only; omega)]
 by_cases k:y<z
 ·rw[gw (p:=(x,y)) (v:=(x,z)) (by dsimp only; omega),oB (p:=(x,z)) (v:=(x,y)) (by dsimp only; omega),if_pos rfl,if_neg (by unfold ti; dsimp only; rw[show x-1-x = -1 by omega]; simp; omega)]; rfl
 ·rw[oB (p:=(x,y)) (v:=(x,z)) (by dsimp only; omega),gw (p:=(x,z)) (v:=(x,y)) (by dsimp only; omega)]; rfl
end
section
variable {h : Nat → Int} (hp : ∀ i, 1 ≤ h i)
include hp
theorem pf:∀(k:Nat) (p:Int),1≤p→IN ((((k:Int)+1,p):I2)::((k:Int),p)::down h k p)
 | 0,p,h1=>by
  rw[jO];exact⟨HR (by omega),trivial⟩
 | k+1,p,h1=>by
  have e:((k+1:Nat):Int)-1=(k:Int):=by omega
  have e2:((k+1:Nat):Int)=(k:Int)+1:=by omega
  by_cases c:h k=p
  ·rw[jS c,c];refine⟨by rw[←e]; exact Ji,?_⟩
   rw[e2];exact pf k p h1
  ·rw[ij c];refine⟨HR c,?_⟩;refine⟨by rw[←e]; exact Ix (fun g=>c g.symm),?_⟩
   rw[e2];exact pf k (h k) (hp k)
theorem Au {c:Nat} (hc:0<c):aD (bT h c).length (mix (bT h c))=2:=by
 obtain⟨k,rfl⟩:∃k,c=k+1:=⟨c-1,by omega⟩
 have hn0:h k≠0:=by have:=hp k; omega
 have ed:=ij hn0;have eL:bT h (k+1)++[(0,0)]=(0,0)::(((k+1:Nat):Int),0)::down h (k+1) 0:=by unfold bT down; simp
 have hlast:=mK (h:=h) (k+1) 0 (by omega)
 have hlen:4≤(bT h (k+1)).length:=by
  have:=congrArg List.length eL;rw[ed] at this;have hd:1≤(down h k (h k)).length:=by unfold down; simp
  simp at this ⊢;omega
 have hnx:∀i,i≤(bT h (k+1)).length→nx (bT h (k+1)) i=(bT h (k+1)++[(0,0)]).getD i (0,0):=fun i hi=>by
  by_cases e:i=(bT h (k+1)).length
  ·rw[e,kU,List.getD_eq_getElem?_getD,List.getElem?_append_right (Nat.le_refl _),Nat.sub_self];unfold nx bT; simp
  ·unfold nx;rw[Nat.mod_eq_of_lt (by omega),List.getD_eq_getElem?_getD,List.getD_eq_getElem?_getD,List.getElem?_append_left (by omega)]
 have II:IN ((((k+1:Nat):Int),0)::down h (k+1) 0):=by
  rw[ed];refine⟨by rw[show(k:Int)=((k+1:Nat):Int)-1 by omega]; exact Ix (fun g=>hn0 g.symm),?_⟩
  rw[show((k+1:Nat):Int)=(k:Int)+1 by omega]
  exact pf hp k (h k) (hp k)
 have e0:nx (bT h (k+1)) 0=(0,0):=by rw[hnx 0 (by omega),eL]; rfl
 have e1:nx (bT h (k+1)) 1=(((k+1:Nat):Int),0):=by rw[hnx 1 (by omega),eL]; rfl
 have e2:nx (bT h (k+1)) 2=(((k+1:Nat):Int),h k):=by rw[hnx 2 (by omega),eL,ed]; rfl
 have eN:nx (bT h (k+1)) ((bT h (k+1)).length-1)=(0,h 0):=by
  unfold nx;rw[Nat.mod_eq_of_lt (by omega),List.getD_eq_getElem?_getD,←List.getLast?_eq_getElem?]
  unfold bT;rw[List.getLast?_cons,List.getLast?_cons,hlast]; rfl
 have key:∀i,i+2<(bT h (k+1)).length→mix (bT h (k+1)) (i+2)=ph (nx (bT h (k+1)) (i+2)) (nx (bT h (k+1)) (i+3))-ph (nx (bT h (k+1)) (i+1)) (nx (bT h (k+1)) (i+2)):=fun i hi=>by
  have:=AL _ i II (by
   have:=congrArg List.length eL;simp at this ⊢;omega)
  have g:∀j,j+1≤(bT h (k+1)).length→((((k+1:Nat):Int),0)::down h (k+1) 0).getD j (0,0)=nx (bT h (k+1)) (j+1):=fun j hj=>by rw[hnx (j+1) hj,eL]; rfl
  rw[g i (by omega),g (i+1) (by omega),g (i+2) (by omega)] at this
  rw[←this];have pe:pv (bT h (k+1)) (i+2)=i+1:=by unfold pv; rw[if_neg (by omega)]; rfl
  unfold mix sX;rw[pe]
 obtain⟨n,hn⟩:∃n,(bT h (k+1)).length=n+2:=⟨(bT h (k+1)).length-2,by omega⟩
 have m0:mix (bT h (k+1)) 0=0:=by
  have pe:pv (bT h (k+1)) 0=(bT h (k+1)).length-1:=by unfold pv; rw[if_pos rfl]
  unfold mix;rw[pe,eN,e0,e1,gw (by dsimp only; have:=hp 0; omega),oB (by dsimp only; omega)]; rfl
 have m1:mix (bT h (k+1)) 1=1:=by
  have pe:pv (bT h (k+1)) 1=0:=by unfold pv; rw[if_neg (by decide)]
  unfold mix;rw[pe,show 1+1=2 from rfl,e0,e1,e2,gw (p:=(((k+1:Nat):Int),0)) (v:=(0,0)) (by dsimp only; omega),gw (by dsimp only; have:=hp k; omega),if_pos rfl,if_pos]
  unfold ti; dsimp only;have:=Int.mul_pos (show(0:Int)<((k+1:Nat):Int) by omega) (show 0<h k by have:=hp k; omega)
  simp only[Int.sub_zero,Int.sub_self,Int.zero_mul]; omega
 have tel:=hJ n fun i=>ph (nx (bT h (k+1)) (i+1)) (nx (bT h (k+1)) (i+2));rw[hn,eV,eV,m0,m1,ar (g:=fun i=>ph (nx (bT h (k+1)) (i+1+1)) (nx (bT h (k+1)) (i+1+2))-ph (nx (bT h (k+1)) (i+1)) (nx (bT h (k+1)) (i+2))) fun i hi=>key i (by omega),tel]
 have f1:ph (nx (bT h (k+1)) (n+1)) (nx (bT h (k+1)) (n+2))=2:=by
  rw[show n+1=(bT h (k+1)).length-1 by omega,eN,←hn,kU,e0]
  unfold ph;rw[oB (by dsimp only; have:=hp 0; omega)]; rfl
 have f2:ph (nx (bT h (k+1)) (0+1)) (nx (bT h (k+1)) (0+2))=1:=by
  rw[show 0+1=1 from rfl,show 0+2=2 from rfl,e1,e2]
  unfold ph;rw[gw (by dsimp only; have:=hp k; omega)]; rfl
 rw[f1,f2]; rfl
end
theorem Dd {r:List I2} (h:r≠[]) (v:I2) (m:Nat):mix (r.map (dA v)) m=mix r m:=by
 have e:∀p q:I2,up (dA v p) (dA v q)=up p q:=fun p q=>by
  unfold up dA
  dsimp only
  by_cases k:p.2<q.2∨(q.2=p.2∧q.1<p.1)
  ·rw[if_pos k,if_pos (by omega)]
  ·rw[if_neg k,if_neg (by omega)]
 unfold mix;rw[tv,bt _ h,bt _ h,bt _ h,e,e,w8]
theorem DA {r:List I2} (h:r≠[]) {s:Int} (hs:0<s) (m:Nat):mix (r.map (bA s)) m=mix r m:=by
 have l1:∀x y:Int,x*s<y*s↔x<y:=fun x y=>⟨fun h=>Int.lt_of_mul_lt_mul_right h (Int.le_of_lt hs),fun h=>Int.mul_lt_mul_of_pos_right h hs⟩;have l2:∀x y:Int,x*s=y*s↔x=y:=fun x y=>⟨fun h=>Int.eq_of_mul_eq_mul_right (by omega) h,fun h=>by rw[h]⟩
 have e:∀p q:I2,up (bA s p) (bA s q)=up p q:=fun p q=>by
  have a1:=l1 p.2 q.2;have a2:=l2 q.2 p.2;have a3:=l1 q.1 p.1;unfold up bA
  dsimp only
  by_cases k:p.2<q.2∨(q.2=p.2∧q.1<p.1)
  ·rw[if_pos k,if_pos (by omega)]
  ·rw[if_neg k,if_neg (by omega)]
 have hk:∀x:Int,0<s*s*x↔0<x:=fun x=>eY (Int.mul_pos hs hs);unfold mix;rw[tv,bt _ h,bt _ h,bt _ h,e,e,xh];have k:=hk (ti (nx r (pv r m)) (nx r m) (nx r (m+1)))
 by_cases g:0<ti (nx r (pv r m)) (nx r m) (nx r (m+1))
 ·rw[if_pos (k.2 g),if_pos g]
 ·rw[if_neg (fun c=>g (k.1 c)),if_neg g]
end Jd
end

section
namespace Go.Proofs.YthmekkhpddehjaaGreat
open Go Go.Ab Go.Ab.W Go.Ab.B Jd
theorem wu {l:List Nat} (row:Bool):aD (du l row).length (mix (du l row))=2:=by
 unfold du;cases row with
 | true =>
  have hc:=sD (l:=l);rw[if_pos rfl];exact Au (fun i=>rW (l:=l) i) (by omega)
 | false =>
  rw[if_neg (by decide)]
  exact wA (p:=kp l) (by unfold kp; simp) (by unfold kp; simp) (by unfold kp; simp) (by unfold kp; simp) (m:=fun i=>cm l i) fun i=>by have:=rM (l:=l) i; omega
theorem zL {l:List Nat} (row:Bool) {s:Int} (hs:0<s) (v:I2):aD (nT s v (du l row)).length (mix (nT s v (du l row)))=2:=by
 have hne:du l row≠[]:=(nZ row).1.ne_nil;have h0:(du l row).map (bA s)≠[]:=by simpa using hne
 rw[vL,List.length_map,List.length_map,←wu (l:=l) row];exact ar fun i _=>by rw[Dd h0,DA hne hs]
theorem BE {l:List Nat} (row:Bool) {x:Nat} (hx:x<2) (v:I2) (i:Nat):v.1-20≤(nx (nT (1+x) v (du l row)) i).1∧(nx (nT (1+x) v (du l row)) i).1≤v.1+20∧v.2-20≤(nx (nT (1+x) v (du l row)) i).2∧(nx (nT (1+x) v (du l row)) i).2≤v.2+20:=by
 have hne:du l row≠[]:=(nZ row).1.ne_nil;have hm:=wB (r:=nT (1+x) v (du l row)) (fun e=>by unfold nT at e; rw[List.map_eq_nil_iff] at e; exact hne e) i
 generalize nx (nT (1+x) v (du l row)) i=z at *;unfold nT at hm;obtain⟨q,hq,e⟩:=List.mem_map.1 hm;have b:=wU row q hq;have hx':x=0∨x=1:=by omega
 subst e;unfold dA bA
 dsimp only
 rcases hx' with rfl|rfl<;>omega
theorem tV (n:Nat):∀(k:Nat) (a b m:Nat),b≤k→b<m→dx (uV n) m ((a:Int),(b:Int))=some ((Nat.gcd a b:Nat):Int)
 | k,a,0,m+1,_,_=>by
  rw[eg (r:=(a:Int))]
  ·simp
  ·unfold uV
   dsimp only
   rw[aX (by omega)]
 | k+1,a,b+1,m+1,hk,hm=>by
  have hlt:a%(b+1)<b+1:=Nat.mod_lt _ (by omega)
  rw[cC (s':=(((b+1:Nat):Int),((a%(b+1):Nat):Int)))]
  ·rw[tV n k (b+1) (a%(b+1)) m (by omega) (by omega),Nat.gcd_comm a,Nat.gcd_rec (b+1) a,Nat.gcd_comm]
  ·unfold uV
   dsimp only
   rw[aY (by omega),decide_eq_true (show((b+1:Nat):Int)≠0 by omega),cw]; rfl
 | 0,a,b+1,m,hk,_=>by omega
theorem G6 (n:Nat) {x y:Int} (hx : -1000<x∧x<1000) (hy : -500<y∧y<500) (hn:500<n):HY n x y=some ((Int.gcd x y:Nat):Int):=by
 unfold HY;have e:∀z:Int,-1000<z∧z<1000→ma z (IntKind.wrap .i64 (0-z))=((z.natAbs:Nat):Int):=fun z hz=>by
  rw[aq (by omega) (by omega),iV]; omega
 rw[e x hx,e y (by omega),tV n y.natAbs x.natAbs y.natAbs n (Nat.le_refl _) (by omega),av]; rfl
theorem qS {x y:Int} (hx : -100≤x∧x≤100) (hy : -100≤y∧y≤100):(Int.gcd x y:Nat)≤100:=by
 show Nat.gcd x.natAbs y.natAbs≤100
 by_cases h:x.natAbs=0
 ·rw[h,Nat.gcd_zero_left]; omega
 ·have:=Nat.gcd_le_left y.natAbs (show 0<x.natAbs by omega)
  omega
theorem Ar {r:List I2} {p:I2} (h:tj r p=1) {x1 y1 x2 y2:Int} (hb:∀i,x1≤(nx r i).1∧(nx r i).1≤x2∧y1≤(nx r i).2∧(nx r i).2≤y2):x1<p.1∧p.1<x2∧y1<p.2∧p.2<y2:=by
 unfold tj at h
 split at h
 ·cases h
 rename_i hoff
 split at h
 ·cases h
 rename_i hw;have hl:=oA (r:=r) (p:=p) fun i hi hb=>hoff ⟨i,hi,hb⟩;have ei:∀a b:I2,ti a b p = -((b.2-p.2)*(p.1-a.1)+(p.2-a.2)*(p.1-b.1)):=fun a b=>by unfold ti; grind
 refine⟨?_,?_,?_,?_⟩
 ·refine Decidable.byContradiction fun c=>hw ?_;rw[←hl];refine bj fun i _=>?_;have ha:=hb i;have hb':=hb (i+1);have e:=ei (nx r i) (nx r (i+1));generalize nx r i=a at *;generalize nx r (i+1)=b at *;unfold wj;rw[if_neg,if_neg]
  ·rintro⟨k1,k2,k3⟩;have m1:=Int.mul_nonneg (show 0≤-(b.2-p.2) by omega) (show 0≤-(p.1-a.1) by omega)
   have m2:=Int.mul_nonneg (show 0≤-(p.2-a.2) by omega) (show 0≤-(p.1-b.1) by omega)
   rw[Int.neg_mul_neg] at m1 m2;omega
  ·rintro⟨k1,k2,k3⟩;have m1:=Int.mul_nonneg (show 0≤b.2-p.2 by omega) (show 0≤-(p.1-a.1) by omega)
   have m2:=Int.mul_nonneg (show 0≤p.2-a.2 by omega) (show 0≤-(p.1-b.1) by omega)
   rw[Int.mul_neg] at m1 m2;omega
 ·refine Decidable.byContradiction fun c=>hw ?_;refine bj fun i _=>?_;have ha:=hb i;have hb':=hb (i+1);have e:=ei (nx r i) (nx r (i+1));generalize nx r i=a at *;generalize nx r (i+1)=b at *;unfold wi;rw[if_neg,if_neg]
  ·rintro⟨k1,k2,k3⟩;have m1:=Int.mul_nonneg (show 0≤-(b.2-p.2) by omega) (show 0≤p.1-a.1 by omega)
   have m2:=Int.mul_nonneg (show 0≤-(p.2-a.2) by omega) (show 0≤p.1-b.1 by omega)
   rw[Int.neg_mul] at m1 m2;omega
  ·rintro⟨k1,k2,k3⟩;have m1:=Int.mul_nonneg (show 0≤b.2-p.2 by omega) (show 0≤p.1-a.1 by omega)
   have m2:=Int.mul_nonneg (show 0≤p.2-a.2 by omega) (show 0≤p.1-b.1 by omega)
   omega
 ·refine Decidable.byContradiction fun c=>hw ?_;rw[←hl];refine bj fun i _=>?_;have ha:=hb i;have hb':=hb (i+1);unfold wj;rw[if_neg (by omega),if_neg (by omega)]
 ·refine Decidable.byContradiction fun c=>hw ?_;refine bj fun i _=>?_;have ha:=hb i;have hb':=hb (i+1);unfold wi;rw[if_neg (by omega),if_neg (by omega)]
theorem jE (r:List I2) (p:I2):(side r p=1∧qX r p=1∧tj r p=0)∨(side r p=2∧qX r p=0∧tj r p=1)∨(side r p=0∧qX r p=0∧tj r p=0):=by
 unfold side qX tj
 by_cases h:∃i,i<r.length∧bE (nx r i) (nx r (i+1)) p
 ·rw[if_pos h,if_pos h,if_pos h]; exact .inl ⟨rfl,rfl,rfl⟩
 ·rw[if_neg h,if_neg h,if_neg h]
  by_cases k:dh r p=0
  ·rw[if_pos k,if_pos k]; exact .inr (.inr ⟨rfl,rfl,rfl⟩)
  ·rw[if_neg k,if_neg k]; exact .inr (.inl ⟨rfl,rfl,rfl⟩)
theorem kR {B:Int × Int × Int→Option ((Int × Int × Int) ⊕ (Unit ⊕ (Int × Int)))} {f g:Nat→Int} {N:Nat} {y0 M:Int} (hM:0≤M) (hf:∀k,k<N→(0≤f k∧f k≤M)∧(0≤g k∧g k≤M))
  (hB:∀(k:Nat) (u v:Int),k<N→(0≤u∧u+M≤1000000)→(0≤v∧v+M≤1000000)→B (u,v,y0+k)=some (.inl (u+f k,v+g k,y0+(k+1:Nat))))
  (hE:∀u v,B (u,v,y0+N)=some (.inr (.inr (u,v)))):∀(d k m:Nat) (u v:Int),k+d=N→d<m→0≤u→0≤v→u+M*d≤1000000→v+M*d≤1000000 →
   dx B m (u,v,y0+k)=some (.inr (u+aD d fun i=>f (k+i),v+aD d fun i=>g (k+i)))
 | 0,k,m+1,u,v,h,_,_,_,_,_=>by
  rw[Nat.add_zero] at h; subst h;rw[eg (hE u v)]; simp[aD]
 | d+1,k,m+1,u,v,h,hm,hu,hv,bu,bv=>by
  have hk:=hf k (by omega)
  have e:M*((d+1:Nat):Int)=M*d+M:=by grind
  have n0:0≤M*(d:Int):=Int.mul_nonneg hM (by omega)
  rw[cC (hB k u v (by omega) (by omega) (by omega)),kR hM hf hB hE d (k+1) m (u+f k) (v+g k) (by omega) (by omega) (by omega) (by omega) (by omega) (by omega),eV,eV]
  have e1:∀F:Nat→Int,(aD d fun i=>F (k+1+i))=aD d fun i=>F (k+(i+1)):=fun F=>ar fun i _=>by rw[show k+1+i=k+(i+1) by omega]
  rw[e1 f,e1 g,Int.add_assoc,Int.add_assoc]; rfl
theorem ji {n:Nat} {f:Nat→Int} {M:Int} (h:∀i,i<n→0≤f i∧f i≤M):0≤aD n f∧aD n f≤M*n:=by
 induction n with
 | zero=>simp[aD]
 | succ n ih =>
  have h1:=ih fun i hi=>h i (by omega)
  have h2:=h n (by omega)
  have e:M*((n+1:Nat):Int)=M*n+M:=by grind
  simp only[aD]; omega
structure Bnd (r:List I2) (v:I2) (i:Nat) (s:Int × Int × Int × Int × Int):Prop where
 all:∀j,j<i→s.1≤(nx r j).1∧(nx r j).1≤s.2.2.1∧s.2.1≤(nx r j).2∧(nx r j).2≤s.2.2.2.1
 x1:v.1-20≤s.1
 x2:s.2.2.1≤v.1+20
 y1:v.2-20≤s.2.1
 y2:s.2.2.2.1≤v.2+20
 xx:s.1≤s.2.2.1
 yy:s.2.1≤s.2.2.2.1
 sum:s.2.2.2.2=aD i fun i=>(Int.gcd ((nx r (i+1)).1-(nx r i).1) ((nx r (i+1)).2-(nx r i).2):Nat)
theorem FA (n:Nat) {r:List I2} {v:I2} (_ : -40000≤v.1∧v.1≤40000∧-40000≤v.2∧v.2≤40000) (hl:2<r.length∧r.length≤40) (hr:∀i,v.1-20≤(nx r i).1∧(nx r i).1≤v.1+20∧v.2-20≤(nx r i).2∧(nx r i).2≤v.2+20) (hn:500<n) :
  ∃s,dx (Cp n r) n ((nx r 0).1,(nx r 0).2,(nx r 0).1,(nx r 0).2,0,0)=some s∧Bnd r v r.length s:=by
 refine sY (σ:=Int × Int × Int × Int × Int) (len:=r.length) (fun i s=>(s.1,s.2.1,s.2.2.1,s.2.2.2.1,s.2.2.2.2,(i:Int))) (Bnd r v) (Bnd r v r.length) (fun i s hi hb=>?_) (fun s hb=>?_) r.length 0 ((nx r 0).1,(nx r 0).2,(nx r 0).1,(nx r 0).2,0) n (by omega) (by omega) ?_
 ·left
  obtain⟨a,b,c,d,e⟩:=s;obtain⟨h1,h2,h3,h4,h5,h6,h7,h8⟩:=hb
  dsimp only at h1 h2 h3 h4 h5 h6 h7 h8 ⊢
  have hi1:=hr i;have hi2:=hr (i+1);have hg:=ji (n:=i) (M:=100) (f:=fun i=>((Int.gcd ((nx r (i+1)).1-(nx r i).1) ((nx r (i+1)).2-(nx r i).2):Nat):Int)) fun j _=>by
   have k1:=hr j;have k2:=hr (j+1);have:=qS (x:=(nx r (j+1)).1-(nx r j).1) (y:=(nx r (j+1)).2-(nx r j).2) (by omega) (by omega)
   omega
  have hg1:=qS (x:=(nx r (i+1)).1-(nx r i).1) (y:=(nx r (i+1)).2-(nx r i).2) (by omega) (by omega)
  refine⟨(min a (nx r i).1,min b (nx r i).2,max c (nx r i).1,max d (nx r i).2,e+(Int.gcd ((nx r (i+1)).1-(nx r i).1) ((nx r (i+1)).2-(nx r i).2):Nat)),?_,⟨fun j hj=>?_,by dsimp only; omega,by dsimp only; omega,by dsimp only; omega,by dsimp only; omega,by dsimp only; omega,by dsimp only; omega,?_⟩⟩
  ·have hm:(i+1)%r.length<r.length:=Nat.mod_lt _ (by omega)
   unfold Cp
   dsimp only
   rw[aY (by omega),bD hi,cw,dY hi,av]
   dsimp only
   rw[bw (by omega),decide_eq_true (show((r.length:Nat):Int)≠0 by omega),cw,pP,bD hm,cw,dY hm,av,oT]
   dsimp only
   rw[aq (x:=(nx r (i+1)).1-(nx r i).1) (by omega) (by omega),aq (x:=(nx r (i+1)).2-(nx r i).2) (by omega) (by omega),G6 n (by omega) (by omega) hn,av,mD,mD,iV,iV,aq (by omega) (by omega)]
  ·dsimp only
   by_cases e:j=i
   ·subst e; omega
   ·have:=h1 j (by omega); omega
  ·dsimp only
   rw[h8]; rfl
 ·refine⟨s,?_,hb⟩;unfold Cp
  dsimp only
  rw[aX (by omega)]
 ·have:=hr 0;exact⟨fun j hj=>by omega,by dsimp only; omega,by dsimp only; omega,by dsimp only; omega,by dsimp only; omega,by dsimp only; omega,by dsimp only; omega,rfl⟩
section
variable (n : Nat) {r : List I2} {x1 y1 x2 y2 : Int} (ok : Ok r) (hb : ∀ i, x1 ≤ (nx r i).1 ∧ (nx r i).1 ≤ x2 ∧ y1 ≤ (nx r i).2 ∧ (nx r i).2 ≤ y2) (hw : -50000 ≤ x1 ∧ x2 ≤ 50000 ∧ -50000 ≤ y1 ∧ y2 ≤ 50000) (hx : x1 ≤ x2 ∧ x2 ≤ x1 + 40) (hy : y1 ≤ y2 ∧ y2 ≤ y1 + 40) (hn : 500 < n)
include ok hb hw hx hy hn
omit hx in
theorem G2 {x:Int} (hx' : -60000≤x∧x≤60000) {u v:Int} (hu:0≤u∧u≤999900) (hv:0≤v∧v≤999900) :
  dx (zT n y2 r x x1 x2 y1) n (u,v,IntKind.wrap .i64 (y1-1))=some (.inr (u+aD (y2-y1+3).toNat fun j=>tj r (x,y1-1+j),v+aD (y2-y1+3).toNat fun j=>qX r (x,y1-1+j))):=by
 have hL:=ok.len;have key:=kR (B:=zT n y2 r x x1 x2 y1) (f:=fun j=>tj r (x,y1-1+j)) (g:=fun j=>qX r (x,y1-1+j)) (N:=(y2-y1+3).toNat) (y0:=y1-1) (M:=1) (by decide) (fun k _=>by
  rcases jE r (x,y1-1+k) with⟨_,h2,h3⟩|⟨_,h2,h3⟩|⟨_,h2,h3⟩<;>rw[h2,h3]<;>decide) (fun k u v hk hu hv=>?_) (fun u v=>?_) (y2-y1+3).toNat 0 n u v (by omega) (by omega) (by omega) (by omega) (by omega) (by omega)
 ·rw[aq (by omega) (by omega)]
  rw[show y1-1+((0:Nat):Int)=y1-1 by omega] at key
  rw[key]
  congr 3
  ·exact congrArg (u + ·) (ar fun i _=>by rw[Nat.zero_add])
  ·exact congrArg (v + ·) (ar fun i _=>by rw[Nat.zero_add])
 ·unfold zT
  dsimp only
  have hf:¬Fa ((x,y1-1+k):I2):=by unfold Fa; dsimp only; omega
  rw[aq (x:=y2+1) (by omega) (by omega),aY (by omega),Hb n ok.pt (p:=(x,y1-1+k)) (by unfold nQ; dsimp only; omega) (by omega) (by omega),av,if_pos ok.rk,if_neg hf]
  dsimp only
  rw[show(!decide ((0:Int)=0))=false from rfl,gC,show IntKind.wrap .i64 (y1-1+(k:Int)+1)=y1-1+((k+1:Nat):Int) by rw[aq (by omega) (by omega)]; omega]
  rcases jE r (x,y1-1+k) with⟨h1,h2,h3⟩|⟨h1,h2,h3⟩|⟨h1,h2,h3⟩
  ·rw[h1,h2,h3,aX (by decide),av,gC,aX (by decide),aY (by decide),av]
   dsimp only
   rw[aq (by omega) (by omega),Int.add_zero]
  ·have st:=Ar h3 hb
   dsimp only at st
   rw[h1,h2,h3,aY (by decide),aX (by omega),aX (by omega),aX (by omega),decide_eq_false (by omega),av,gC,aY (by decide),av]
   dsimp only
   rw[aq (by omega) (by omega),Int.add_zero]
  ·rw[h1,h2,h3,aX (by decide),av,gC,aX (by decide),aX (by decide),av]
   dsimp only
   rw[Int.add_zero,Int.add_zero]
 ·unfold zT
  dsimp only
  rw[aq (x:=y2+1) (by omega) (by omega),aX (by omega)]
theorem G3:dx (zG n x2 y2 r x1 y1) n (0,0,IntKind.wrap .i64 (x1-1))=some (.inr (bx (x1-1) (y1-1) (x2-x1+3).toNat (y2-y1+3).toNat (tj r),bx (x1-1) (y1-1) (x2-x1+3).toNat (y2-y1+3).toNat (qX r))):=by
 have hrng:∀x:Int,(0≤(aD (y2-y1+3).toNat fun j=>tj r (x,y1-1+j))∧(aD (y2-y1+3).toNat fun j=>tj r (x,y1-1+j))≤100)∧(0≤(aD (y2-y1+3).toNat fun j=>qX r (x,y1-1+j))∧(aD (y2-y1+3).toNat fun j=>qX r (x,y1-1+j))≤100):=fun x=>by
  have a1:=ji (n:=(y2-y1+3).toNat) (M:=1) (f:=fun j=>tj r (x,y1-1+j)) fun j _=>by
   rcases jE r (x,y1-1+j) with⟨_,h2,h3⟩|⟨_,h2,h3⟩|⟨_,h2,h3⟩<;>rw[h3]<;>decide
  have a2:=ji (n:=(y2-y1+3).toNat) (M:=1) (f:=fun j=>qX r (x,y1-1+j)) fun j _=>by
   rcases jE r (x,y1-1+j) with⟨_,h2,h3⟩|⟨_,h2,h3⟩|⟨_,h2,h3⟩<;>rw[h2]<;>decide
  omega
 have key:=kR (B:=zG n x2 y2 r x1 y1) (f:=fun i=>aD (y2-y1+3).toNat fun j=>tj r (x1-1+i,y1-1+j)) (g:=fun i=>aD (y2-y1+3).toNat fun j=>qX r (x1-1+i,y1-1+j)) (N:=(x2-x1+3).toNat) (y0:=x1-1) (M:=100) (by decide) (fun k _=>hrng _) (fun k u v hk hu hv=>?_) (fun u v=>?_) (x2-x1+3).toNat 0 n 0 0 (by omega) (by omega) (by omega) (by omega) (by omega) (by omega)
 ·rw[aq (by omega) (by omega)]
  rw[show x1-1+((0:Nat):Int)=x1-1 by omega] at key
  rw[key];unfold bx
  congr 3
  ·rw[Int.zero_add]; exact ar fun i _=>by rw[Nat.zero_add]
  ·rw[Int.zero_add]; exact ar fun i _=>by rw[Nat.zero_add]
 ·unfold zG
  dsimp only
  rw[aq (x:=x2+1) (by omega) (by omega),aY (by omega),show IntKind.wrap .i64 (x1-1+(k:Int)+1)=x1-1+((k+1:Nat):Int) by rw[aq (by omega) (by omega)]; omega]
  rw[G2 n ok hb hw hy hn (x:=x1-1+(k:Int)) (by omega) (by omega) (by omega),av]
 ·unfold zG
  dsimp only
  rw[aq (x:=x2+1) (by omega) (by omega),aX (by omega)]
end
theorem EE (n:Nat) {l:List Nat} {x5 x6:Int} {x7:Nat} (d:Dr l x5 x6 x7) (row turned:Bool) (hn:500<n):F4 n l x5 x6 x7 row turned=some true:=by
 have hm:x7%2<2:=Nat.mod_lt _ (by decide)
 have d':Dr l x5 x6 (x7%2):=⟨d.b,d.x,d.y,by omega⟩
 have hok:=CF d' row false;have har:0<kz (gx l x5 x6 (x7%2) row false):=z7 d' row false;unfold F4;rw[show IK n=some true from rfl,av,Bool.not_true,gC,GZ n d' row false (by omega),av]
 have ht:aD (gx l x5 x6 (x7%2) row false).length (mix (gx l x5 x6 (x7%2) row false))=2:=zL (l:=l) row (s:=1+((x7%2:Nat):Int)) (by omega) (x5,x6)
 have hnr:∀i,x5-20≤(nx (gx l x5 x6 (x7%2) row false) i).1∧(nx (gx l x5 x6 (x7%2) row false) i).1≤x5+20∧x6-20≤(nx (gx l x5 x6 (x7%2) row false) i).2∧(nx (gx l x5 x6 (x7%2) row false) i).2≤x6+20:=BE (l:=l) row hm (x5,x6);generalize gx l x5 x6 (x7%2) row false=r at *;have hvr:=hok.vr;have hn3:=hvr.n3;have hdx:=d.x;have hdy:=d.y;obtain⟨⟨x1,y1,x2,y2,e⟩,hs,hbd⟩:=FA n (r:=r) (v:=(x5,x6)) (by dsimp only; omega) ⟨hn3,hok.len⟩ hnr hn
 obtain⟨h1,h2,h3,h4,h5,h6,h7,h8⟩:=hbd
 dsimp only at h1 h2 h3 h4 h5 h6 h7 h8
 have hb:∀i,x1≤(nx r i).1∧(nx r i).1≤x2∧y1≤(nx r i).2∧(nx r i).2≤y2:=fun i=>by
  have:=h1 (i%r.length) (Nat.mod_lt _ (by omega))
  rwa[dQ r (Nat.mod_mod i r.length)] at this
 rw[yq (by omega),cw,yK (by omega),av]
 dsimp only
 rw[cw,hs,av]
 dsimp only
 rw[G3 n hok hb (by omega) (by omega) (by omega) hn,av]
 dsimp only
 have hin:∀i,Inb (x1-1) (y1-1) (x2-x1+3).toNat (y2-y1+3).toNat (nx r i):=fun i=>by
  have:=hb i;exact⟨by omega,by omega,by omega,by omega⟩
 have hc:=hvr.CJ hin;have hp:=hvr.pick har ht hin;rw[←h8] at hc;have hbx:∀f:I2→Int,(∀p,0≤f p∧f p≤1)→0≤bx (x1-1) (y1-1) (x2-x1+3).toNat (y2-y1+3).toNat f∧bx (x1-1) (y1-1) (x2-x1+3).toNat (y2-y1+3).toNat f≤100*(x2-x1+3).toNat:=fun f hf=>by
  unfold bx;refine ji fun i _=>?_;have:=ji (n:=(y2-y1+3).toNat) (M:=1) (f:=fun j=>f (x1-1+i,y1-1+j)) fun j _=>hf _;omega
 have b1:=hbx (tj r) fun p=>by rcases jE r p with⟨_,h2,h3⟩|⟨_,h2,h3⟩|⟨_,h2,h3⟩<;>rw[h3]<;>decide
 have b2:=hbx (qX r) fun p=>by rcases jE r p with⟨_,h2,h3⟩|⟨_,h2,h3⟩|⟨_,h2,h3⟩<;>rw[h2]<;>decide
 generalize bx (x1-1) (y1-1) (x2-x1+3).toNat (y2-y1+3).toNat (tj r)=I at *;generalize bx (x1-1) (y1-1) (x2-x1+3).toNat (y2-y1+3).toNat (qX r)=O at *;rw[aY hc,av];have ew:IntKind.wrap .i64 (IntKind.wrap .i64 (IntKind.wrap .i64 (2*I)+O)-2)=kz r:=by
  rw[aq (x:=2*I) (by omega) (by omega),aq (x:=2*I+O) (by omega) (by omega),aq (by omega) (by omega)]; omega
 rw[ew];have hF:Ie n r (kz r)=some true:=by
  unfold Ie;rw[GY n hok.pt (by have:=hok.len; omega) (by omega),if_pos hok.rk,av]
  dsimp only
  rw[aY rfl,decide_eq_true rfl]
 rw[hF,av]
end Go.Proofs.YthmekkhpddehjaaGreat
end
