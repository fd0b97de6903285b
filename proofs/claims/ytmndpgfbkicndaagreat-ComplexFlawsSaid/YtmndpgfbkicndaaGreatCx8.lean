/- A part of the proof. -/
import Derived.Test.YtmndpgfbkicndaaGreatCx7
set_option linter.defProp false
namespace Go.Proofs.YtmndpgfbkicndaaGreat
open Go Go.Ab Go.Ab.W Go.Ab.B Jd
abbrev Fc:=List Int × Um
def fq (p:Fc->Bool) (F:List Fc) (i:Nat):Option (Int ⊕ Unit):=match F[i]? with|some x=>if p x then none else some (.inl (i:Int)) | none=>none
def okF (m:Nat) (f:Fc):Bool:=decide (f.2.length<=8) && (f.1::f.2).all (nW m)
noncomputable instance (l:List I2):Decidable (pj l):=by unfold pj; infer_instance
noncomputable def MC (pts:List I2) (f:Fc):Bool:=(f.1::f.2).all fun r=>decide (pj (eY pts r 1))
section
variable {pts : List I2} {F : List Fc} (n : Nat)
def Ja (f:Fc) (hn:1000<n):Ia n pts F f.1 f.2=some (okF pts.length f):=by
 unfold Ia okF
 by_cases h:8<(f.2.length:Int)
 rw[au h,R6 (by omega)]; rfl
 rw[av h,R3 (by omega),mz n _ _ (by omega),ah,CV n (by simp; omega) hn,ah,Tv]
 cases(f.1::f.2).all (nW pts.length)<;>rfl
def Ff (hF:F.length<1000) (hn:1000<n):bg (yq n F pts) n 0=some (bK (fq (okF pts.length) F) (.inr ()) F.length 0):=by
 refine bj (len:=F.length) (fun i hi=>?_) ?_ F.length 0 n (by omega) (by omega)
 ·have hx:=RY hi;generalize F[i]=f at hx;unfold yq fq;rw[hx]
  try dsimp only
  rw[Vf,al hi,aJ,aR hx,ah]
  try dsimp only
  rw[Ja n f hn,ah,Vh]
  cases okF pts.length f<;>rfl
 ·unfold yq
  try dsimp only
  rw[Vg]
def GX (hF:F.length<1000) (hn:1000<n):bg (zN n F pts) n 0=some (bK (fq (okF pts.length) F) (.inr ()) F.length 0):=by
 refine bj (len:=F.length) (fun i hi=>?_) ?_ F.length 0 n (by omega) (by omega)
 ·have hx:=RY hi;generalize F[i]=f at hx;obtain⟨o,h⟩:=f;unfold zN fq okF;rw[hx]
  try dsimp only
  rw[Vf,al hi,aJ,aR hx,ah]
  try dsimp only
  by_cases g:8<(h.length:Int)
  rw[au g,ah,fk,R6 (by omega)]; rfl
  rw[av g,R3 (by omega),pZ n _ _ (by omega) hn,ah,EI n (by simp; omega) hn,ah,Tv,Vh]
  cases(o::h).all (nW pts.length)<;>rfl
 ·unfold zN
  try dsimp only
  rw[Vg]
def NY (pts:List I2) (F:List Fc):Prop:=∀f ∈ F,okF pts.length f=true
def gF {m:Nat} {pts:List I2} (e:m=pts.length) {r:List Int} (h:nW m r=true):Ix pts r/\3<=r.length/\r.length<=40:=by
 have:=of_decide_eq_true h;subst e;exact⟨this.2.2,this.1,this.2.1⟩
def FL (hb:dH pts) {r:List Int} (hx:Ix pts r):∀q ∈ eY pts r 1,Nr q:=by
 intro q hq;obtain⟨i,hi,rfl⟩:=Te.1 hq;have:=gp hb (hx i hi)
 simpa using this
def C0 (hb:dH pts) {rs:Um} (hr:rs.length<1000) (ho:∀r ∈ rs,nW pts.length r=true) (hn:1000<n):bg (tZ n rs pts F) n 0=some (if rs.all (fun r=>decide (pj (eY pts r 1))) then .inr () else .inl ()):=by
 rw[<-mM];refine bj (len:=rs.length) (fun i hi=>?_) ?_ rs.length 0 n (by omega) (by omega)
 ·have hx:=RY hi;generalize rs[i]=r at hx;obtain⟨hix,h3,h4⟩:=gF rfl (ho r (Sa hx));unfold tZ bad;rw[hx]
  try dsimp only
  rw[Vf,al hi,aJ,aR hx,ah,w6 n hb hix (.inl rfl) (by omega) (by omega),ah,JF n (by rw[eE]; omega) (by omega),ah,Vh]
  by_cases g:pj (eY pts r 1)
  simp only[R0 g,decide_true,SC,fc,if_true,R3 g]
  simp only[RZ g,R6 g]; rfl
 ·unfold tZ
  try dsimp only
  rw[Vg]
def E1 (hb:dH pts) {rs:Um} (hr:rs.length<1000) (ho:∀r ∈ rs,nW pts.length r=true) (hn:1000<n):bg (zf n rs pts F) n 0=some (if rs.all (fun r=>decide (pj (eY pts r 1))) then .inr () else .inl ()):=by
 rw[<-mM];refine bj (len:=rs.length) (fun i hi=>?_) ?_ rs.length 0 n (by omega) (by omega)
 ·have hx:=RY hi;generalize rs[i]=r at hx;obtain⟨hix,h3,h4⟩:=gF rfl (ho r (Sa hx));unfold zf bad;rw[hx]
  try dsimp only
  rw[Vf,al hi,aJ,aR hx,ah,xf n hb hix (.inl rfl) (by omega) (by omega),ah,Mk n (fun x hx=>by
   have:=FL hb hix x hx;unfold Nr at this; unfold pf; omega) (by rw[eE]; omega) (by omega),ah,Vh]
  by_cases g:pj (eY pts r 1)
  simp only[R0 g,decide_true,SC,ah,fc,if_true,R3 g]
  simp only[RZ g,R6 g]; rfl
 ·unfold zf
  try dsimp only
  rw[Vg]
def jK {f:Fc} (h:okF pts.length f=true):f.2.length<=8/\∀r ∈ f.1::f.2,nW pts.length r=true:=by
 unfold okF at h;rw[R4] at h;exact⟨of_decide_eq_true h.1,Sb.1 h.2⟩
def Ez (hb:dH pts) (ho:NY pts F) (hF:F.length<1000) (hn:1000<n):bg (zd n F pts) n 0=some (bK (fq (MC pts) F) (.inr ()) F.length 0):=by
 refine bj (len:=F.length) (fun i hi=>?_) ?_ F.length 0 n (by omega) (by omega)
 ·have hx:=RY hi;generalize F[i]=f at hx;obtain⟨h8,h9⟩:=jK (ho f (Sa hx));unfold zd fq Jm MC;rw[hx]
  try dsimp only
  rw[Vf,al hi,aJ,aR hx,ah]
  try dsimp only
  rw[mz n _ _ (by omega),ah,C0 n hb (by simp; omega) h9 hn,Vh]
  cases(f.1::f.2).all (fun r=>decide (pj (eY pts r 1)))<;>rfl
 ·unfold zd
  try dsimp only
  rw[Vg]
def Hl (hb:dH pts) (ho:NY pts F) (hF:F.length<1000) (hn:1000<n):bg (zO n F pts) n 0=some (bK (fq (MC pts) F) (.inr ()) F.length 0):=by
 refine bj (len:=F.length) (fun i hi=>?_) ?_ F.length 0 n (by omega) (by omega)
 ·have hx:=RY hi;generalize F[i]=f at hx;obtain⟨h8,h9⟩:=jK (ho f (Sa hx));obtain⟨o,h⟩:=f;replace h8:h.length<=8:=h8;unfold zO fq MC;rw[hx]
  try dsimp only
  rw[Vf,al hi,aJ,aR hx,ah]
  try dsimp only
  rw[pZ n _ _ (by omega) hn,ah,E1 n hb (by simp; omega) h9 hn,Vh]
  cases(o::h).all (fun r=>decide (pj (eY pts r 1)))<;>rfl
 ·unfold zO
  try dsimp only
  rw[Vg]
end
def sK (pts:List I2) (rs:Um) (i:Nat):Option (Unit ⊕ Unit):=match rs[i]? with|some r=>if decide (i=0) == decide (0<qR (eY pts r 1)) then none else some (.inl ()) | none=>none
def N1 (pts:List I2) (f:Fc):Bool:=match bK (sK pts (f.1::f.2)) (.inr ()) (f.1::f.2).length 0 with | .inl _=>false | .inr _=>true
section
variable {pts : List I2} {F : List Fc} (n : Nat)
def Bl (hb:dH pts) {r:List Int} (hx:Ix pts r) (h3:3<=r.length) (i:Nat):Nr (nx (eY pts r 1) i) :=
 Be (P:=Nr) (by rw[eE]; omega) (fun i hi=>by
  refine FL hb hx _ ?_;unfold nx;rw[TC hi,R7,RY hi];exact Sn _) i
def CY (hb:dH pts) {rs:Um} (hr:rs.length<1000) (ho:∀r ∈ rs,nW pts.length r=true) (ha:∀r ∈ rs,qR (eY pts r 1)≠0) (hn:1000<n):bg (th n rs pts F) n 0=some (bK (sK pts rs) (.inr ()) rs.length 0):=by
 refine bj (len:=rs.length) (fun i hi=>?_) ?_ rs.length 0 n (by omega) (by omega)
 ·have hx:=RY hi;generalize rs[i]=r at hx;obtain⟨hix,h3,h4⟩:=gF rfl (ho r (Sa hx));have hne:=ha r (Sa hx);unfold th sK;rw[hx]
  try dsimp only
  rw[Vf,al hi,aJ,aR hx,ah,w6 n hb hix (.inl rfl) (by omega) (by omega),ah,Fb n (Bl hb hix h3) (fun e=>by have:=eE pts r 1; rw[e] at this; simp at this; omega) (by rw[eE]; omega) (by rw[eE]; omega),ah,Vh]
  by_cases g:i=0
  subst g;rw[Vf]
  by_cases h:qR (eY pts r 1)<0
  rw[au h,ah,fk,R6 (show ¬0<qR (eY pts r 1) by omega)]; rfl
  rw[av h,Vg,ah,fc,R3 (show 0<qR (eY pts r 1) by omega)]; rfl
  rw[Vg,Vf,ah,R6 g]
  by_cases h:0<qR (eY pts r 1)
  rw[au h,R3 h]; rfl
  rw[av h,R6 h]; rfl
 ·unfold th
  try dsimp only
  rw[Vg]
def GR (hb:dH pts) {rs:Um} (hr:rs.length<1000) (ho:∀r ∈ rs,nW pts.length r=true) (ha:∀r ∈ rs,qR (eY pts r 1)≠0) (hn:1000<n):bg (yo n rs pts F) n 0=some (bK (sK pts rs) (.inr ()) rs.length 0):=by
 refine bj (len:=rs.length) (fun i hi=>?_) ?_ rs.length 0 n (by omega) (by omega)
 ·have hx:=RY hi;generalize rs[i]=r at hx;obtain⟨hix,h3,h4⟩:=gF rfl (ho r (Sa hx));have hne:=ha r (Sa hx);unfold yo sK;rw[hx]
  try dsimp only
  rw[Vf,al hi,aJ,aR hx,ah,xf n hb hix (.inl rfl) (by omega) (by omega),ah,LC n (Bl hb hix h3) (by rw[eE]; omega) (by rw[eE]; omega),ah,ah,Vh]
  by_cases g:i=0
  subst g
  by_cases h:qR (eY pts r 1)<0
  rw[R3 h,R6 (show ¬0<qR (eY pts r 1) by omega)]; rfl
  rw[R6 h,R3 (show 0<qR (eY pts r 1) by omega)]; rfl
  rw[R6 g,R6 (show ¬(i:Int)=0 by omega)]
  by_cases h:qR (eY pts r 1)<0
  rw[R3 h,R6 (show ¬0<qR (eY pts r 1) by omega)]; rfl
  rw[R6 h,R3 (show 0<qR (eY pts r 1) by omega)]; rfl
 ·unfold yo
  try dsimp only
  rw[Vg]
def Gs (hb:dH pts) (ho:NY pts F) (ha:∀f ∈ F,∀r ∈ f.1::f.2,qR (eY pts r 1)≠0) (hF:F.length<1000) (hn:1000<n):bg (zH n F pts) n 0=some (bK (fq (N1 pts) F) (.inr ()) F.length 0):=by
 refine bj (len:=F.length) (fun i hi=>?_) ?_ F.length 0 n (by omega) (by omega)
 ·have hx:=RY hi;generalize F[i]=f at hx;obtain⟨h8,h9⟩:=jK (ho f (Sa hx));unfold zH fq Jv N1;rw[hx]
  try dsimp only
  rw[Vf,al hi,aJ,aR hx,ah]
  try dsimp only
  rw[mz n _ _ (by omega),ah,CY n hb (by simp; omega) h9 (ha f (Sa hx)) hn,Vh]
  cases bK (sK pts (f.1::f.2)) (.inr ()) (f.1::f.2).length 0<;>rfl
 ·unfold zH
  try dsimp only
  rw[Vg]
def Hm (hb:dH pts) (ho:NY pts F) (ha:∀f ∈ F,∀r ∈ f.1::f.2,qR (eY pts r 1)≠0) (hF:F.length<1000) (hn:1000<n):bg (zB n F pts) n 0=some (bK (fq (N1 pts) F) (.inr ()) F.length 0):=by
 refine bj (len:=F.length) (fun i hi=>?_) ?_ F.length 0 n (by omega) (by omega)
 ·have hx:=RY hi;generalize F[i]=f at hx;obtain⟨h8,h9⟩:=jK (ho f (Sa hx));have h10:=ha f (Sa hx);obtain⟨o,h⟩:=f;replace h8:h.length<=8:=h8;unfold zB fq N1;rw[hx]
  try dsimp only
  rw[Vf,al hi,aJ,aR hx,ah]
  try dsimp only
  rw[pZ n _ _ (by omega) hn,ah,GR n hb (by simp; omega) h9 h10 hn,Vh]
  cases bK (sK pts (o::h)) (.inr ()) (o::h).length 0<;>rfl
 ·unfold zB
  try dsimp only
  rw[Vg]
end
end Go.Proofs.YtmndpgfbkicndaaGreat
namespace Jd
section
variable {n : Nat} {v : Nat -> P2}
def Simple.J8 (S:Simple n v) {L:Int} (hL:∀i,i<n->HS n v 1 i L/\HS n v (-1) i (L-1)) {p:P2} (hp:∀i,i<n->(v i).2≠p.2):W n v p=0\/W n v p=2*L-1/\(L=0\/L=1):=by
 have hn3:=S.n3;have hp':∀i,i<n->(v (i+1)).2≠p.2:=fun i hi=>by
  by_cases e:i+1=n
  rw[e,S.cl]; exact hp 0 (by omega)
  exact hp (i+1) (by omega)
 have hX:∀i,∃X:Rat,i<n->(∀q:P2,q.2=p.2->we (v i) (v (i+1)) q=if q.1<X then dd (v i) (v (i+1)) p.2 else 0)/\(dd (v i) (v (i+1)) p.2≠0->∃t,0<t/\t<1/\cv (v i) (v (i+1)) t=(X,p.2)):=fun i=>by
  by_cases hi:i<n
  obtain⟨X,h⟩:=yn (hp i hi) (hp' i hi);exact⟨X,fun _=>h⟩
  exact⟨0,fun h=>Sl h hi⟩
 obtain⟨X,hX⟩:=Classical.axiomOfChoice hX;have hW:∀q:P2,q.2=p.2->W n v q=bE n fun i=>if q.1<X i then dd (v i) (v (i+1)) p.2 else 0:=fun q hq=>aX fun i hi=>(hX i hi).1 q hq
 by_cases hE:∃i,i<n/\(dd (v i) (v (i+1)) p.2≠0/\p.1<X i)
 obtain⟨i,i1,⟨i2,i3⟩,i4⟩:=jq (X:=X) hE;obtain⟨k,k1,⟨k2,k3⟩,k4⟩:=jq (X:=fun i=>-X i) hE;have hl:W n v p=L\/W n v p=L-1:=by
  obtain⟨t,t0,t1,t2⟩:=(hX i i1).2 i2;have key:∀σ M,0 < σ*cr (v i) (v (i+1)) (-1,0)->HS n v σ i M->W n v p=M:=by
   intro σ M hσ hM;obtain⟨e,e0,he⟩:=hM t (-1,0) t0 t1 hσ;obtain⟨x,x0,xe,xp⟩:=fu e0 (show 0<X i-p.1 by grind)
   rw[<-he x x0 (by grind),t2,hW p rfl,hW (sm (X i,p.2) (-1,0) x) (by unfold sm; grind)]
   refine aX fun j hj=>?_
   by_cases hd:dd (v j) (v (j+1)) p.2=0
   rw[hd,ite_self,ite_self]
   by_cases hx:p.1<X j
   have:=i4 j hj ⟨hd,hx⟩;rw[R0 hx,R0 (by unfold sm; grind)]
   rw[RZ hx,RZ (by unfold sm; grind)]
  by_cases h1:(v i).2<p.2/\p.2<(v (i+1)).2
  exact .inl (key 1 L (by unfold cr; grind) (hL i i1).1)
  have h2:(v (i+1)).2<p.2/\p.2<(v i).2:=by
   unfold dd at i2;rw[RZ h1] at i2;exact R1 fun h=>i2 (RZ h)
  exact .inr (key (-1) (L-1) (by unfold cr; grind) (hL i i1).2)
 have hr:L=0\/L=1:=by
  obtain⟨t,t0,t1,t2⟩:=(hX k k1).2 k2;have key:∀σ M,0 < σ*cr (v k) (v (k+1)) (1,0)->HS n v σ k M->M=0:=by
   intro σ M hσ hM;obtain⟨e,e0,he⟩:=hM t (1,0) t0 t1 hσ;rw[<-he e e0 (by grind),t2,hW (sm (X k,p.2) (1,0) e) (by unfold sm; grind)]
   refine cA fun j hj=>?_
   by_cases hd:dd (v j) (v (j+1)) p.2=0
   rw[hd,ite_self]
   refine RZ fun hx=>?_;have hx':X k+e<X j:=by unfold sm at hx; grind
   have:=k4 j hj ⟨hd,by grind⟩
   grind
  by_cases h1:(v k).2<p.2/\p.2<(v (k+1)).2
  have:=key (-1) (L-1) (by unfold cr; grind) (hL k k1).2
  exact .inr (by omega)
  have h2:(v (k+1)).2<p.2/\p.2<(v k).2:=by
   unfold dd at k2;rw[RZ h1] at k2;exact R1 fun h=>k2 (RZ h)
  exact .inl (key 1 L (by unfold cr; grind) (hL k k1).1)
 omega
 left
 rw[hW p rfl];refine cA fun j hj=>?_
 by_cases hd:dd (v j) (v (j+1)) p.2=0
 rw[hd,ite_self]
 exact RZ fun hx=>hE ⟨j,hj,hd,hx⟩
def Simple.Fw (S:Simple n v) {L:Int} (hL:∀i,i<n->HS n v 1 i L/\HS n v (-1) i (L-1)) {p:P2} (hp:∀i,i<n->((v i).2<=p.2/\p.2<(v (i+1)).2)\/((v (i+1)).2<=p.2/\p.2<(v i).2)->tn (v i) (v (i+1)) p≠0) :
  W n v p=0\/W n v p=2*L-1/\(L=0\/L=1):=by
 have hn3:=S.n3;have h1:Ev fun x _=>∀i,i<n->(v i).2<=p.2\/p.2+x<(v i).2:=Ev.all (P:=fun i x _=>(v i).2<=p.2\/p.2+x<(v i).2) fun i _=>by
  by_cases h:(v i).2<=p.2
  exact Ev.of fun _ _ _ _=>.inl h
  exact⟨((v i).2-p.2)/2,by grind,fun x y x0 x1 _ _=>.inr (by grind)⟩
 have h2:Ev fun x _=>∀i,i<n->(tn (v i) (v (i+1)) p<0->tn (v i) (v (i+1)) (p.1,p.2+x)<0)/\(0<tn (v i) (v (i+1)) p->0<tn (v i) (v (i+1)) (p.1,p.2+x)) :=
  Ev.all (P:=fun i x _=>(tn (v i) (v (i+1)) p<0->tn (v i) (v (i+1)) (p.1,p.2+x)<0)/\(0<tn (v i) (v (i+1)) p->0<tn (v i) (v (i+1)) (p.1,p.2+x))) fun i _=>by
   have e:∀x,tn (v i) (v (i+1)) (p.1,p.2+x)=tn (v i) (v (i+1)) p+x*((v (i+1)).1-(v i).1):=fun x=>by unfold tn; grind
   by_cases hm:tn (v i) (v (i+1)) p<0
   obtain⟨a,a0,ha⟩:=qj hm ((v (i+1)).1-(v i).1);exact⟨a,a0,fun x y x0 x1 _ _=>⟨fun _=>by rw[e]; exact ha x x0 x1,fun h=>by grind⟩⟩
   by_cases hq:0<tn (v i) (v (i+1)) p
   obtain⟨a,a0,ha⟩:=qj (A:=-tn (v i) (v (i+1)) p) (by grind) (-((v (i+1)).1-(v i).1))
   exact⟨a,a0,fun x y x0 x1 _ _=>⟨fun h=>Sl h hm,fun _=>by rw[e]; have:=ha x x0 x1; grind⟩⟩
   exact Ev.of fun _ _ _ _=>⟨fun h=>Sl h hm,fun h=>Sl h hq⟩
 obtain⟨x,x0,hx⟩:=h1.and h2;obtain⟨g1,g2⟩:=hx x x x0 (by grind) x0 (by grind)
 have g1':∀i,i<n->(v (i+1)).2<=p.2\/p.2+x<(v (i+1)).2:=fun i hi=>by
  by_cases e:i+1=n
  rw[e,S.cl]; exact g1 0 (by omega)
  exact g1 (i+1) (by omega)
 have e:W n v p=W n v (p.1,p.2+x):=aX fun i hi=>by
  have a:=g1 i hi;have b:=g1' i hi;obtain⟨c1,c2⟩:=g2 i hi;have hc:=hp i hi
  by_cases k1:(v i).2<=p.2/\p.2<(v (i+1)).2
  rw[gz k1.1 k1.2,gz (by grind) (by grind)]
  exact jH ⟨c2,fun h=>by have:=hc (.inl k1); grind⟩
  by_cases k2:(v (i+1)).2<=p.2/\p.2<(v i).2
  rw[iJ (v (i+1)) (v i),iJ (v (i+1)) (v i),gz k2.1 k2.2,gz (by grind) (by grind),gR (v i),gR (v i)]
  rw[jH (d:=0 < -tn (v i) (v (i+1)) (p.1,p.2+x)) ⟨fun h=>by have:=c1 (by grind); grind,fun h=>by have:=hc (.inr k2); grind⟩]
  rw[ed k1 k2,ed (by grind) (by grind)]
 rw[e];exact S.J8 hL fun i hi=>by have:=g1 i hi; grind
def Simple.sign (S:Simple n v):∃s:Int,(s=1\/s = -1)/\∀p:P2,(∀i,i<n->((v i).2<=p.2/\p.2<(v (i+1)).2)\/((v (i+1)).2<=p.2/\p.2<(v i).2)->tn (v i) (v (i+1)) p≠0)->W n v p=0\/W n v p=s:=by
 obtain⟨L,hL⟩:=S.along
 by_cases h:L=0\/L=1
 exact⟨2*L-1,by omega,fun p hp=>(S.Fw hL hp).imp_right And.left⟩
 exact⟨1,.inl rfl,fun p hp=>.inl ((S.Fw hL hp).resolve_right fun g=>h g.2)⟩
end
def qe (a:I2):I2:=(-a.1,-a.2)
def wj (a b p:I2):Int:=if a.2<p.2/\p.2<=b.2/\ti a b p<0 then -1 else if b.2<p.2/\p.2<=a.2/\0<ti a b p then 1 else 0
def up (p v:I2):Int:=if p.2<v.2\/(v.2=p.2/\v.1<p.1) then 1 else 0
def oa (r:List I2) (p:I2):Int:=bE r.length fun i=>wj (nx r i) (nx r (i+1)) p
def rU {a b p:I2} (h:a.2=p.2):ti a b p=(b.2-a.2)*(a.1-p.1):=by unfold ti; grind
def uU {a b p:I2} (h:b.2=p.2):ti a b p=(b.2-a.2)*(b.1-p.1):=by unfold ti; grind
def jy {k x:Int} (h:0<k):(0<k*x↔0<x)/\(k*x<0↔x<0):=⟨kC h,gJ h⟩
def sA {k x:Int} (h:k<0):(0<k*x↔x<0)/\(k*x<0↔0<x):=by
 have e:k*x = -((-k)*x):=by grind
 have:=jy (x:=x) (show 0 < -k by omega)
 rw[e]; omega
def wK {a b p:I2} (h:ti a b p=0):wi a b p=0:=by unfold wi; rw[Uz,Uz]
def B0 {a b p:I2} (h:ti a b p=0):wj a b p=0:=by unfold wj; rw[Uz,Uz]
def Qv {a b p:I2} (h:¬cC a b p):wi a b p-wj a b p=up p b-up p a:=by
 by_cases ha:a.2=p.2
 by_cases hb:b.2=p.2
 have h0:ti a b p=0:=by rw[rU ha,hb,ha]; simp
 rw[wK h0,B0 h0];have:¬(min a.1 b.1<=p.1/\p.1<=max a.1 b.1):=fun g=>h ⟨h0,g.1,g.2,by omega,by omega⟩
 unfold up
 by_cases g:a.1<p.1
 rw[R0 (.inr ⟨hb,by omega⟩),R0 (.inr ⟨ha,g⟩)]<;>rfl
 rw[Uz,Uz]<;>rfl
 have ht:=rU (b:=b) ha;have hne:a.1≠p.1:=fun e=>h (by rw[show p=a from SO e.symm ha.symm]; exact vk a b)
 by_cases hb':p.2<b.2
 have s:=jy (k:=b.2-a.2) (x:=a.1-p.1) (by omega)
 rw[<-ht] at s;unfold wi wj up
 by_cases g:a.1<p.1
 rw[Uz,Uz,Uz,Uz,UA,UA]<;>rfl
 rw[UA,Uz,Uz,UA,Uz]<;>rfl
 have s:=sA (k:=b.2-a.2) (x:=a.1-p.1) (by omega)
 rw[<-ht] at s;unfold wi wj up
 by_cases g:a.1<p.1
 rw[Uz,Uz,Uz,UA,Uz,UA]<;>rfl
 rw[Uz,Uz,Uz,Uz,Uz,Uz]<;>rfl
 by_cases hb:b.2=p.2
 have ht:=uU (a:=a) hb;have hne:b.1≠p.1:=fun e=>h (by rw[show p=b from SO e.symm hb.symm]; exact vi a b)
 by_cases ha':p.2<a.2
 have s:=sA (k:=b.2-a.2) (x:=b.1-p.1) (by omega)
 rw[<-ht] at s;unfold wi wj up
 by_cases g:b.1<p.1
 rw[Uz,Uz,Uz,Uz,UA,UA]<;>rfl
 rw[Uz,UA,Uz,Uz,Uz,UA]<;>rfl
 have s:=jy (k:=b.2-a.2) (x:=b.1-p.1) (by omega)
 rw[<-ht] at s;unfold wi wj up
 by_cases g:b.1<p.1
 rw[Uz,Uz,UA,UA,Uz]<;>rfl
 rw[Uz,Uz,Uz,Uz,Uz,Uz]<;>rfl
 by_cases ha':p.2<a.2
 by_cases hb':p.2<b.2
 unfold wi wj up;rw[Uz,Uz,Uz,Uz,UA,UA]<;>rfl
 have h0:ti a b p≠0:=fun h0=>h (gK (.inr ⟨by omega,by omega⟩) h0)
 unfold wi wj up
 by_cases g:ti a b p<0
 rw[Uz,UA,Uz,Uz,Uz,UA]<;>rfl
 rw[Uz,Uz,Uz,UA,Uz,UA]<;>rfl
 by_cases hb':p.2<b.2
 have h0:ti a b p≠0:=fun h0=>h (gK (.inl ⟨by omega,by omega⟩) h0)
 unfold wi wj up
 by_cases g:ti a b p<0
 rw[Uz,Uz,UA,UA,Uz]<;>rfl
 rw[UA,Uz,Uz,UA,Uz]<;>rfl
 unfold wi wj up;rw[Uz,Uz,Uz,Uz,Uz,Uz]<;>rfl
instance (a b p:I2):Decidable (cC a b p):=by unfold cC; infer_instance
def NH (a b p:I2):Int:=if cC a b p then up p b-up p a else 0
def Gf (a b p:I2):wi a b p-wj a b p+NH a b p=up p b-up p a:=by
 unfold NH
 by_cases h:cC a b p
 rw[R0 h,wK h.1,B0 h.1]; omega
 rw[RZ h,<-Qv h]; omega
def CI (r:List I2) (p:I2):fN r p-oa r p+bE r.length (fun i=>NH (nx r i) (nx r (i+1)) p)=0:=by
 have h1:=rI r.length fun i=>up p (nx r i);rw[wG,Int.sub_self] at h1;have h2:=jr r.length (fun i=>wi (nx r i) (nx r (i+1)) p-wj (nx r i) (nx r (i+1)) p) fun i=>NH (nx r i) (nx r (i+1)) p;rw[kj] at h2;unfold fN oa;rw[<-h2,<-h1];exact aX fun i _=>Gf _ _ _
def H4 {r:List I2} {p:I2} (hp:∀i,i<r.length->¬cC (nx r i) (nx r (i+1)) p):oa r p=fN r p:=by
 have h:=CI r p;rw[cA (fun i hi=>by unfold NH; rw[RZ (hp i hi)])] at h
 omega
def AL (a b p:I2):ti (qe a) (qe b) (qe p)=ti a b p:=by unfold ti qe; grind
def AG (a b p:I2):wi (qe a) (qe b) (qe p)=wj a b p:=by
 unfold wi wj;rw[AL];unfold qe
 dsimp only
 by_cases h1:a.2<p.2/\p.2<=b.2/\ti a b p<0
 rw[Uz,UA,R0 h1]
 rw[RZ h1]
 by_cases h2:b.2<p.2/\p.2<=a.2/\0<ti a b p
 rw[UA,R0 h2]
 rw[Uz,Uz,RZ h2]
def ye {r:List I2} (h:r≠[]) (p:I2):fN (r.map qe) (qe p)=oa r p:=by
 unfold fN oa;rw[Sj];exact aX fun i _=>by rw[dE _ h,dE _ h,AG]
def Ct {a b c:I2}:cC (qe a) (qe b) (qe c)↔cC a b c:=by
 unfold cC;rw[AL];unfold qe
 dsimp only
 omega
def nq {N:Int} {t:Rat} (hN:0<N) (ht:(N:Rat)*t=1) (a q:Int):((a:Rat)<=(q:Rat)*t↔a*N<=q)/\((q:Rat)*t<(a:Rat)↔q<a*N):=by
 have hN':(0:Rat)<(N:Rat):=gT.2 hN;have t0:0<t:=by
  refine R1 fun h=>?_;have:=df (show 0<=(N:Rat) by grind) (show t<=0 by grind)
  grind
 have key:(a:Rat)<=(q:Rat)*t↔a*N<=q:=by
  rw[<-oI,TJ];constructor
  intro h;have:=cp (show 0<=(q:Rat)*t-a by grind) (show 0<=(N:Rat) by grind)
  rw[show((q:Rat)*t-a)*N=q*(N*t)-a*N by grind,ht,Rat.mul_one] at this
  grind
  intro h;have:=cp (show 0<=(q:Rat)-a*N by grind) (show 0<=t by grind)
  rw[show((q:Rat)-a*N)*t=q*t-a*(N*t) by grind,ht,Rat.mul_one] at this
  grind
 refine⟨key,?_⟩;constructor
 intro h;have:=mt key.2 (by grind)
 omega
 intro h;have:=mt key.1 (by omega)
 grind
def ze {N:Int} {t:Rat} (ht:(N:Rat)*t=1) (a b q:I2):tn (ca a) (ca b) ((q.1:Rat)*t,(q.2:Rat)*t)=((ti (dy N a) (dy N b) q:Int):Rat)*(t*t):=by
 rw[<-lb];unfold tn ca dy;simp only[TJ]
 grind
def VR.sign {r:List I2} (h:VR r):∃s:Int,(s=1\/s = -1)/\∀N:Int,0<N->∀q:I2,(∀i,i<r.length->¬cC (dy N (nx r i)) (dy N (nx r (i+1))) q)->Jd.fN (r.map (dy N)) q=0\/Jd.fN (r.map (dy N)) q=s:=by
 have hr:r≠[]:=fun e=>by have:=h.n3; rw[e] at this; simp at this
 obtain⟨s,hs,hm⟩:=h.simple.sign;refine⟨s,hs,fun N hN q hq=>?_⟩;have hN':(0:Rat)<(N:Rat):=gT.2 hN;have ht:(N:Rat)*(N:Rat)⁻¹=1:=Rat.mul_inv_cancel _ (by grind)
 have t0:0<(N:Rat)⁻¹:=by
  refine R1 fun h=>?_;have:=df (show 0<=(N:Rat) by grind) (show(N:Rat)⁻¹<=0 by grind)
  grind
 generalize (N:Rat)⁻¹=t at ht t0;have tt:=bB t0 t0;have sp:∀x:Int,(0<(x:Rat)*(t*t)↔0<x)/\((x:Rat)*(t*t)<0↔x<0):=fun x=>by
  have p1:∀y:Int,0<y->0<(y:Rat)*(t*t):=fun y hy=>bB (gT.2 hy) tt;have p2:∀y:Int,y<0->(y:Rat)*(t*t)<0:=fun y hy=>by
   have:=bB (show(0:Rat) < -(y:Rat) by have:=mY.2 hy; grind) tt
   grind
  rcases Int.lt_trichotomy x 0 with g|g|g
  have:=p2 x g;constructor<;>constructor<;>intro k<;>first|omega|grind
  subst g;simp
  have:=p1 x g;constructor<;>constructor<;>intro k<;>first|omega|grind
 have e:W r.length (fun i=>ca (nx r i)) ((q.1:Rat)*t,(q.2:Rat)*t)=Jd.fN (r.map (dy N)) q:=by
  unfold Jd.fN W;rw[Sj];refine aX fun i _=>?_;rw[dE _ hr,dE _ hr]
  show we (ca (nx r i)) (ca (nx r (i+1))) _=_
  generalize nx r i=a;generalize nx r (i+1)=b;unfold we wi;rw[ze ht];unfold ca
  dsimp only
  simp only[(nq hN ht _ _).1,(nq hN ht _ _).2,(sp _).1,(sp _).2]
  rfl
 rw[<-e];refine hm _ fun i hi hl=>?_
 show tn (ca (nx r i)) (ca (nx r (i+1))) _≠0
 rw[ze ht];intro h0;have hz:=sp (ti (dy N (nx r i)) (dy N (nx r (i+1))) q);have h0':ti (dy N (nx r i)) (dy N (nx r (i+1))) q=0:=by
  have a1:=mt hz.1.2 (by rw[h0]; grind)
  have a2:=mt hz.2.2 (by rw[h0]; grind)
  omega
 refine hq i hi (gK ?_ h0');unfold ca at hl
 dsimp only at hl
 simp only[(nq hN ht _ _).1,(nq hN ht _ _).2] at hl;exact hl
def CK {u w:Int} (h:(0<=w/\w<=u)\/(u<=w/\w<=0)):0<=u*w/\(w≠0->0<u*w):=by
 rcases h with h|h
 exact⟨Tz (by omega) h.1,fun h0=>Ub (by omega) (by omega)⟩
 exact⟨TM (by omega) h.2,fun h0=>Int.mul_pos_of_neg_of_neg (by omega) (by omega)⟩
def Cl {a v p:I2} (h:cC a v p) (hne:p≠v):(a.1-v.1)*(p.2-v.2)=(a.2-v.2)*(p.1-v.1)/\0<(a.1-v.1)*(p.1-v.1)+(a.2-v.2)*(p.2-v.2):=by
 obtain⟨h0,h1,h2,h3,h4⟩:=h;have e1:=CK (u:=a.1-v.1) (w:=p.1-v.1) (by omega)
 have e2:=CK (u:=a.2-v.2) (w:=p.2-v.2) (by omega)
 refine⟨by unfold ti at h0; grind,?_⟩
 by_cases g:p.1-v.1=0
 have g2:p.2-v.2≠0:=fun g2=>hne (SO (by omega) (by omega))
 have:=e2.2 g2;omega
 have:=e1.2 g;omega
def Gk {a v b p:I2} (h1:cC a v p) (h2:cC v b p) (hne:p≠v):ti a v b=0/\di a v b<0:=by
 obtain⟨e1,d1⟩:=Cl h1 hne;obtain⟨e2,d2⟩:=Cl h2.swap hne;have hd:=Jc (u:=(a.1-v.1,a.2-v.2)) (v:=(b.1-v.1,b.2-v.2)) (w:=(p.1-v.1,p.2-v.2)) e1 e2 d1 d2
 dsimp only at hd
 refine⟨?_,by unfold di; grind⟩
 have hw:¬(p.1-v.1=0/\p.2-v.2=0):=fun g=>hne (SO (by omega) (by omega))
 have hx:(p.1-v.1)*ti a v b=0:=by unfold ti; grind
 have hy:(p.2-v.2)*ti a v b=0:=by unfold ti; grind
 rcases SV.1 hx with g|g
 rcases SV.1 hy with k|k
 exact Sl ⟨g,k⟩ hw
 exact k
 exact g
def Cj {x a b:Int} (h:min a b<=x/\x<=max a b):0<=(b-x)*(b-a)/\0<=(x-a)*(b-a):=by
 rcases Int.le_total a b with g|g
 exact⟨Tz (by omega) (by omega),Tz (by omega) (by omega)⟩
 exact⟨TM (by omega) (by omega),TM (by omega) (by omega)⟩
def Je {a b p:I2} (hab:a≠b) (h:cC a b p):∃w1 w2 D:Int,0<=w1/\0<=w2/\w1+w2=D/\0<D/\D*p.1=w1*a.1+w2*b.1/\D*p.2=w1*a.2+w2*b.2:=by
 obtain⟨h0,h1,h2,h3,h4⟩:=h;have e1:=Cj ⟨h1,h2⟩;have e2:=Cj ⟨h3,h4⟩;refine⟨(b.1-p.1)*(b.1-a.1)+(b.2-p.2)*(b.2-a.2),(p.1-a.1)*(b.1-a.1)+(p.2-a.2)*(b.2-a.2),(b.1-a.1)*(b.1-a.1)+(b.2-a.2)*(b.2-a.2),by omega,by omega,by grind,?_,?_,?_⟩
 have s1:=@N6 (b.1-a.1);have s2:=@N6 (b.2-a.2);refine R1 fun k=>hab ?_;have g1:=Km (show(b.1-a.1)*(b.1-a.1)=0 by omega)
 have g2:=Km (show(b.2-a.2)*(b.2-a.2)=0 by omega)
 exact SO (by omega) (by omega)
 unfold ti at h0; grind
 unfold ti at h0; grind
def Ca {a b p:I2} (hab:a≠b) (h:cC a b p) {α β γ:Rat} (ha:0<af α β γ (ca a)) (hb:0<af α β γ (ca b)):0<af α β γ (ca p):=by
 obtain⟨w1,w2,D,h1,h2,h3,h4,h5,h6⟩:=Je hab h;have c5:(D:Rat)*(p.1:Rat)=(w1:Rat)*a.1+(w2:Rat)*b.1:=by rw[<-TJ,h5,Rat.intCast_add,TJ,TJ]
 have c6:(D:Rat)*(p.2:Rat)=(w1:Rat)*a.2+(w2:Rat)*b.2:=by rw[<-TJ,h6,Rat.intCast_add,TJ,TJ]
 have c3:(w1:Rat)+(w2:Rat)=D:=by rw[<-Rat.intCast_add,h3]
 have d0:(0:Rat)<D:=gT.2 h4;have n1:(0:Rat)<=w1:=by have:=(oI (x:=0) (y:=w1)).2 h1; simpa using this
 have n2:(0:Rat)<=w2:=by have:=(oI (x:=0) (y:=w2)).2 h2; simpa using this
 have e:(D:Rat)*af α β γ (ca p)=w1*af α β γ (ca a)+w2*af α β γ (ca b):=by
  unfold af ca
  dsimp only
  grind
 have q1:=cp n1 (show 0<=af α β γ (ca a) by grind)
 have q2:=cp n2 (show 0<=af α β γ (ca b) by grind)
 have q:0<(D:Rat)*af α β γ (ca p):=by
  rw[e]
  by_cases k:(w1:Rat)=0
  have:0<(w2:Rat):=by grind
  have:=bB this hb
  grind
  have:=bB (show 0<(w1:Rat) by grind) ha
  grind
 refine R1 fun k=>?_;have:=df (show 0<=(D:Rat) by grind) (show af α β γ (ca p)<=0 by grind)
 grind
def Jk {a b c d p:I2} (hab:a≠b) (hcd:c≠d) (h:NM a b c d) (h1:cC a b p) (h2:cC c d p):False:=by
 obtain⟨α,β,γ,g1,g2,g3,g4⟩:=sL hab hcd h.1 h.2;have k1:=Ca hab h1 g1 g2;have k2:=Ca (α:=-α) (β:=-β) (γ:=-γ) hcd h2 (by unfold af at *; grind) (by unfold af at *; grind)
 unfold af at k1 k2; grind
section
variable {r : List I2}
def VR.FG (h:VR r) {i j:Nat} (hij:i<j) (hj:j<r.length) {p:I2} (hi:cC (nx r i) (nx r (i+1)) p) (hp:cC (nx r j) (nx r (j+1)) p):(j=i+1/\p=nx r j)\/(i=0/\j+1=r.length/\p=nx r 0):=by
 by_cases h1:j=i+1
 subst h1;refine .inl ⟨rfl,R1 fun hne=>h.spike i (Gk hi hp hne)⟩
 by_cases h2:i=0/\j+1=r.length
 obtain⟨rfl,h2⟩:=h2;refine .inr ⟨rfl,h2,R1 fun hne=>?_⟩;have e1:nx r (j+1)=nx r 0:=by rw[h2,wG]
 have e2:nx r (j+2)=nx r 1:=by
  rw[show j+2=1+r.length by omega]
  exact oG r (Nat.add_mod_right 1 r.length)
 have:=h.spike j;rw[e1,e2] at this;rw[e1] at hp;exact this (Gk hp hi hne)
 exact(Jk (h.still i) (h.still j) (h.meet i j (by omega) hj h2) hi hp).elim
def pv (r:List I2) (m:Nat):Nat:=if m=0 then r.length-1 else m-1
def Ow {m:Nat} (hm:m<r.length):pv r m<r.length:=by unfold pv; split<;>omega
def KL {m:Nat} (hm:m<r.length):nx r (pv r m+1)=nx r m:=by
 unfold pv
 by_cases h:m=0
 subst h; rw[R0 rfl,show r.length-1+1=r.length by omega,wG]
 rw[RZ h,show m-1+1=m by omega]
def VR.vL (h:VR r) {m i:Nat} (hm:m<r.length) (hi:i<r.length) (hb:cC (nx r i) (nx r (i+1)) (nx r m)):i=m\/i=pv r m:=by
 by_cases e:i=m
 exact .inl e
 refine .inr ?_;have hself:cC (nx r m) (nx r (m+1)) (nx r m):=vk _ _;have hn3:=h.n3;rcases Nat.lt_or_gt_of_ne e with g|g
 rcases h.FG g hm hb hself with⟨k,_⟩|⟨k1,k2,k3⟩
 unfold pv; rw[Uz]; omega
 exfalso;subst k1;have hp:pv r m<r.length:=Ow hm;have hs:cC (nx r (pv r m)) (nx r (pv r m+1)) (nx r m):=by rw[KL hm]; exact vi _ _
 have e2:pv r m=m-1:=by unfold pv; rw[Uz]
 have hlt:0<pv r m:=by rw[e2]; omega
 rcases h.FG hlt hp hb hs with⟨k,k'⟩|⟨_,k,_⟩
 rw[e2] at k k';have:=h.still 0;have e3:nx r (m-1)=nx r 1:=by rw[k]
 rw[e3] at k';exact this (by rw[<-k3,k'])
 omega
 rcases h.FG g hi hself hb with⟨k,k'⟩|⟨k1,k2,k3⟩
 subst k; exact Sl k' (h.still m)
 unfold pv; rw[R0 k1]; omega
def VR.AS (h:VR r) {i j:Nat} (hi:i<r.length) (hj:j<r.length) {p:I2} (hp:∀k,p≠nx r k) (h1:cC (nx r i) (nx r (i+1)) p) (h2:cC (nx r j) (nx r (j+1)) p):i=j:=by
 refine R1 fun hne=>?_;rcases Nat.lt_or_gt_of_ne hne with g|g
 rcases h.FG g hj h1 h2 with⟨_,k⟩|⟨_,_,k⟩<;>exact hp _ k
 rcases h.FG g hi h2 h1 with⟨_,k⟩|⟨_,_,k⟩<;>exact hp _ k
end
def Lg (P:Int->Prop):Prop:=∃k,∀N,k<=N->P N
def Lg.ge (k:Int):Lg (k<=·):=⟨k,fun _ h=>h⟩
def Lg.and {P Q:Int->Prop} (h:Lg P) (g:Lg Q):Lg fun N=>P N/\Q N:=by
 obtain⟨a,ha⟩:=h;obtain⟨b,hb⟩:=g;exact⟨max a b,fun N hN=>⟨ha N (by omega),hb N (by omega)⟩⟩
def Lg.imp {P Q:Int->Prop} (h:Lg P) (g:∀N,P N->Q N):Lg Q:=by
 obtain⟨a,ha⟩:=h;exact⟨a,fun N hN=>g N (ha N hN)⟩
def Lg.all {P:Nat->Int->Prop} {n:Nat} (h:∀i,i<n->Lg (P i)):Lg fun N=>∀i,i<n->P i N:=by
 induction n with
 | zero=>exact⟨0,fun _ _ i hi=>by omega⟩
 | succ n ih =>
  refine((ih fun i hi=>h i (by omega)).and (h n (by omega))).imp fun N g i hi=>?_
  by_cases e:i=n
  rw[e]; exact g.2
  exact g.1 i (by omega)
def Lg.get {P:Int->Prop} (h:Lg P):∃N,0<N/\P N:=by
 obtain⟨k,hk⟩:=h;exact⟨max k 1,by omega,hk _ (by omega)⟩
def E9 {T:Int} (h:0<T) (C:Int):Lg fun N=>0<N*T+C:=⟨max 0 (1-C),fun N hN=>by
 have:=Ts (show 1<=T by omega) (show 0<=N by omega)
 omega⟩
def NG {T:Int} (h:T<0) (C:Int):Lg fun N=>N*T+C<0:=(E9 (show 0 < -T by omega) (-C)).imp fun N g=>by
 rw[Int.mul_neg] at g; omega
def Qa {x y d N:Int} (d0:0<=d) (hN:d<N):(x*N<=y*N+d↔x<=y)/\(y*N+d<x*N↔y<x):=by
 have:x*N<=y*N+d↔x<=y:=by
  constructor
  intro h;refine R1 fun g=>?_;have:=Tc (show y+1<=x by omega) (show 0<=N by omega)
  rw[Int.add_mul] at this;omega
  intro h;have:=Tc h (show 0<=N by omega)
  omega
 exact⟨this,by omega⟩
def mD {x y d N:Int} (hN:d<N) (n0:0<=N) (h:x<y):x*N+d<y*N:=by
 have:=Tc (show x+1<=y by omega) n0
 rw[Int.add_mul] at this;omega
def wA (N:Int) (a b p δ:I2):ti (dy N a) (dy N b) (ud δ (dy N p))=N*(N*ti a b p+((b.1-a.1)*δ.2-(b.2-a.2)*δ.1)):=by unfold ti dy ud; grind
def Gd {a b p δ:I2} (h:¬cC a b p) (hd:0<=δ.2):Lg fun N=>wi (dy N a) (dy N b) (ud δ (dy N p))=wi a b p/\¬cC (dy N a) (dy N b) (ud δ (dy N p)):=by
 have hl:∀N:Int,max 1 (δ.2+1)<=N->((dy N a).2<=(ud δ (dy N p)).2↔a.2<=p.2)/\((ud δ (dy N p)).2<(dy N a).2↔p.2<a.2)/\((dy N b).2<=(ud δ (dy N p)).2↔b.2<=p.2)/\((ud δ (dy N p)).2<(dy N b).2↔p.2<b.2):=fun N hN=>by
  have h1:=Qa (x:=a.2) (y:=p.2) hd (show δ.2<N by omega)
  have h2:=Qa (x:=b.2) (y:=p.2) hd (show δ.2<N by omega)
  exact⟨h1.1,h1.2,h2.1,h2.2⟩
 rcases Int.lt_trichotomy (ti a b p) 0 with g|g|g
 refine((Lg.ge (max 1 (δ.2+1))).and (NG g ((b.1-a.1)*δ.2-(b.2-a.2)*δ.1))).imp fun N ⟨h1,h2⟩=>?_;have hs:=(jy (x:=N*ti a b p+((b.1-a.1)*δ.2-(b.2-a.2)*δ.1)) (show 0<N by omega)).2.2 h2
 rw[<-wA] at hs;refine⟨?_,fun hb=>by have:=hb.1; omega⟩
 unfold wi;obtain⟨l1,l2,l3,l4⟩:=hl N h1
 by_cases k:b.2<=p.2/\p.2<a.2/\ti a b p<0
 rw[Uz,UA,Uz,R0 k]
 rw[Uz,Uz,Uz,RZ k]
 refine(Lg.ge (max (max 1 (δ.2+1)) (max (δ.1+1) (1-δ.1)))).imp fun N h1=>?_;obtain⟨l1,l2,l3,l4⟩:=hl N (by omega)
 have hn:¬((a.2<=p.2/\p.2<b.2)\/(b.2<=p.2/\p.2<a.2)):=fun k=>h (gK k g);refine⟨?_,fun hb=>?_⟩
 unfold wi;rw[Uz,Uz,Uz,Uz]
 obtain⟨_,b1,b2,b3,b4⟩:=hb;refine h ⟨g,?_,?_,?_,?_⟩
 refine R1 fun k=>?_;have k1:=mD (x:=p.1) (y:=a.1) (show δ.1<N by omega) (by omega) (by omega)
 have k2:=mD (x:=p.1) (y:=b.1) (show δ.1<N by omega) (by omega) (by omega)
 unfold ud dy at b1; dsimp only at b1; omega
 refine R1 fun k=>?_;have k1:=mD (x:=a.1) (y:=p.1) (show -δ.1<N by omega) (by omega) (by omega)
 have k2:=mD (x:=b.1) (y:=p.1) (show -δ.1<N by omega) (by omega) (by omega)
 unfold ud dy at b2; dsimp only at b2; omega
 refine R1 fun k=>?_;have k1:=mD (x:=p.2) (y:=a.2) (show δ.2<N by omega) (by omega) (by omega)
 have k2:=mD (x:=p.2) (y:=b.2) (show δ.2<N by omega) (by omega) (by omega)
 unfold ud dy at b3; dsimp only at b3; omega
 refine R1 fun k=>?_;have k1:=mD (x:=a.2) (y:=p.2) (show -δ.2<N by omega) (by omega) (by omega)
 have k2:=mD (x:=b.2) (y:=p.2) (show -δ.2<N by omega) (by omega) (by omega)
 unfold ud dy at b4; dsimp only at b4; omega
 refine((Lg.ge (max 1 (δ.2+1))).and (E9 g ((b.1-a.1)*δ.2-(b.2-a.2)*δ.1))).imp fun N ⟨h1,h2⟩=>?_;have hs:=(jy (x:=N*ti a b p+((b.1-a.1)*δ.2-(b.2-a.2)*δ.1)) (show 0<N by omega)).1.2 h2
 rw[<-wA] at hs;refine⟨?_,fun hb=>by have:=hb.1; omega⟩
 unfold wi;obtain⟨l1,l2,l3,l4⟩:=hl N h1
 by_cases k:a.2<=p.2/\p.2<b.2/\0<ti a b p
 rw[UA,R0 k]
 rw[Uz,Uz,RZ k,Uz]
def IJ {a b p:I2} {K:Int} (hab:a≠b) (h:cC a b p) (hK:b.1-a.1<K/\a.1-b.1<K):Lg fun N=>wi (dy N a) (dy N b) (ud (K,1) (dy N p))=wi a b p/\¬cC (dy N a) (dy N b) (ud (K,1) (dy N p)):=by
 refine(Lg.ge 2).imp fun N hN=>?_;have e:=wA N a b p (K,1);rw[h.1] at e
 dsimp only at e
 have e':ti (dy N a) (dy N b) (ud (K,1) (dy N p))=N*((b.1-a.1)-(b.2-a.2)*K):=by rw[e]; grind
 rw[wK h.1];have hl1:=Qa (x:=a.2) (y:=p.2) (show(0:Int)<=1 by omega) (show 1<N by omega)
 have hl2:=Qa (x:=b.2) (y:=p.2) (show(0:Int)<=1 by omega) (show 1<N by omega)
 have s:=jy (x:=(b.1-a.1)-(b.2-a.2)*K) (show 0<N by omega)
 rw[<-e'] at s;rcases Int.lt_trichotomy (b.2-a.2) 0 with g|g|g
 have:(b.2-a.2)*K<=-1*K:=Tc (by omega) (by omega)
 refine⟨?_,fun hb=>by have:=hb.1; omega⟩
 unfold wi;rw[RZ (by unfold dy ud; dsimp only; omega),Uz]
 rw[g,Int.zero_mul] at s;have hne:b.1-a.1≠0:=fun k=>hab (SO (by omega) (by omega))
 refine⟨?_,fun hb=>by have:=hb.1; omega⟩
 unfold wi;rw[RZ (by unfold dy ud; dsimp only; omega),RZ (by unfold dy ud; dsimp only; omega)]
 have:1*K<=(b.2-a.2)*K:=Tc (by omega) (by omega)
 refine⟨?_,fun hb=>by have:=hb.1; omega⟩
 unfold wi;rw[Uz,RZ (by unfold dy ud; dsimp only; omega)]
def Sg (r:List I2) (s:Int):Prop:=∀N:Int,0<N->∀q:I2,(∀i,i<r.length->¬cC (dy N (nx r i)) (dy N (nx r (i+1))) q)->fN (r.map (dy N)) q=0\/fN (r.map (dy N)) q=s
section
variable {r : List I2} {s : Int}
def VR.ne_nil (h:VR r):r≠[]:=fun e=>by have:=h.n3; rw[e] at this; simp at this
def Sg.Mf (h:VR r) (g:Sg r s) (p:I2):fN r p=0\/fN r p=s:=by
 obtain⟨K,_,hK⟩:=(Lg.all (n:=r.length) (P:=fun i K=>(nx r (i+1)).1-(nx r i).1<K/\(nx r i).1-(nx r (i+1)).1<K) fun i _ =>
  (Lg.ge (max ((nx r (i+1)).1-(nx r i).1) ((nx r i).1-(nx r (i+1)).1)+1)).imp fun K h=>by omega).get
 obtain⟨N,hN,hP⟩:=(Lg.all (n:=r.length) (P:=fun i N=>wi (dy N (nx r i)) (dy N (nx r (i+1))) (ud (K,1) (dy N p))=wi (nx r i) (nx r (i+1)) p/\¬cC (dy N (nx r i)) (dy N (nx r (i+1))) (ud (K,1) (dy N p))) fun i hi=>by
  by_cases hb:cC (nx r i) (nx r (i+1)) p
  exact IJ (h.still i) hb (hK i hi)
  exact Gd hb (show(0:Int)<=1 by decide)).get
 have e:fN (r.map (dy N)) (ud (K,1) (dy N p))=fN r p:=by
  unfold fN;rw[Sj];exact aX fun i hi=>by rw[dE _ h.ne_nil,dE _ h.ne_nil]; exact(hP i hi).1
 rw[<-e];exact g N hN _ fun i hi=>(hP i hi).2
def Px (p v:I2):up p v=0\/up p v=1:=by unfold up; split<;>simp
def J7:Chg qe 1 1 where
 inj h:=by unfold qe at h; have h1:=SD Prod.fst h; have h2:=SD Prod.snd h; dsimp only at h1 h2; exact SO (by omega) (by omega)
 ti a b c:=by rw[AL]; omega
 di a b c:=by unfold di qe; grind
 kp:=by decide
 dp:=by decide
 btw:=Ct
def BM (p:I2):qe (qe p)=p:=by unfold qe; simp
def wk (N:Int) (p:I2):dy N (qe p)=qe (dy N p):=by unfold dy qe; simp[Int.neg_mul]
def Sg.refl (h:r≠[]) (g:Sg r s):Sg (r.map Jd.qe) s:=by
 intro N hN q hq;rw[Sj] at hq;have hne:r.map (dy N)≠[]:=by simpa using h
 have e:(r.map Jd.qe).map (dy N)=(r.map (dy N)).map Jd.qe:=by
  rw[List.map_map,List.map_map];exact List.map_congr_left fun p _=>wk N p
 have hq':∀i,i<r.length->¬cC (dy N (nx r i)) (dy N (nx r (i+1))) (Jd.qe q):=fun i hi hb=>by
  have:=hq i hi;rw[dE _ h,dE _ h,wk,wk,<-BM q] at this;exact this (Ct.2 hb)
 rw[e,<-BM q,ye hne,H4 (fun i hi=>by
  rw[Sj] at hi;rw[dE _ h,dE _ h]; exact hq' i hi)]
 exact g N hN _ hq'
def Sg.KE (h:VR r) (g:Sg r s) (p:I2):oa r p=0\/oa r p=s:=by
 rw[<-ye h.ne_nil];exact(g.refl h.ne_nil).Mf (J7.vr h) _
end
def pL (n m:Nat) (f:Nat->Nat->Int):bE n (fun i=>bE m fun j=>f i j)=bE m fun j=>bE n fun i=>f i j:=by
 induction n with
 | zero=>simp only[bE]; exact(cA fun _ _=>rfl).symm
 | succ n ih=>simp only[bE]; rw[jr,ih]
def y5 (n m:Nat) (f:Nat->Int):bE (n+m) f=bE n f+bE m fun i=>f (n+i):=by
 induction m with
 | zero=>simp[bE]
 | succ m ih=>rw[<-Nat.add_assoc]; simp only[bE]; rw[ih]; omega
def oj (n:Nat) (c:Int):bE n (fun _=>c)=n*c:=by
 induction n with
 | zero=>simp[bE]
 | succ n ih=>simp only[bE]; rw[ih]; grind
def tR (n:Nat) (f:Nat->Int):bE n (fun i=>-f i) = -bE n f:=by
 have:=kj n (fun _=>0) f;rw[cA (f:=fun _=>(0:Int)) fun _ _=>rfl] at this;rw[<-Int.zero_sub (bE n f),<-this];exact aX fun i _=>by omega
def jI {B lo hi:Int} {H:Nat} (F:Int->Int) (h1:B<=lo) (h2:lo<=hi) (h3:hi<=B+H) :
  bE H (fun j=>if lo<=B+j/\B+j<hi then F (B+j) else 0)=bE (hi-lo).toNat fun k=>F (lo+k):=by
 obtain⟨n,hn⟩:∃n:Nat,lo=B+n:=⟨(lo-B).toNat,by omega⟩
 obtain⟨m,hm⟩:∃m:Nat,hi=lo+m:=⟨(hi-lo).toNat,by omega⟩
 obtain⟨k,hk⟩:∃k:Nat,H=n+m+k:=⟨H-n-m,by omega⟩
 subst hk;rw[y5,y5,cA (n:=n) fun i hi=>Uz,cA (n:=k) fun i hi=>Uz,show(hi-lo).toNat=m by omega,Int.zero_add,Int.add_zero]
 exact aX fun i hi=>by rw[UA]; congr 1; omega
def count_le {L q:Int} {W:Nat} (h1:L-1<=q) (h2:q<L+W):bE W (fun i=>if L+i<=q then 1 else 0)=q-L+1:=by
 have:=jI (B:=L) (lo:=L) (hi:=q+1) (H:=W) (fun _=>1) (by omega) (by omega) (by omega)
 rw[oj] at this;rw[aX (g:=fun j=>if L<=L+j/\L+j<q+1 then(1:Int) else 0) fun i _=>?_,this]
 omega
 by_cases h:L+(i:Int)<=q
 rw[R0 h,UA]
 rw[RZ h,Uz]
def Hk {L q:Int} {W:Nat} (h1:L<=q) (h2:q<=L+W):bE W (fun i=>if q<=L+i then 1 else 0)=L+W-q:=by
 have:=jI (B:=L) (lo:=q) (hi:=L+W) (H:=W) (fun _=>1) (by omega) (by omega) (by omega)
 rw[oj] at this;rw[aX (g:=fun j=>if q<=L+j/\L+j<L+W then(1:Int) else 0) fun i _=>?_,this]
 omega
 by_cases h:q<=L+(i:Int)
 rw[R0 h,UA]
 rw[RZ h,Uz]
def bx (L B:Int) (W H:Nat) (f:I2->Int):Int:=bE W fun i=>bE H fun j=>f (L+i,B+j)
structure Inb (L B:Int) (W H:Nat) (p:I2):Prop where
 x1:L<=p.1
 x2:p.1<L+W
 y1:B<=p.2
 y2:p.2<B+H
section
variable {L B : Int} {W H : Nat}
def zD {f g:I2->Int} (h:∀p,Inb L B W H p->f p=g p):bx L B W H f=bx L B W H g :=
 aX fun i hi=>aX fun j hj=>h _ ⟨by dsimp only; omega,by dsimp only; omega,by dsimp only; omega,by dsimp only; omega⟩
def LW (f g:I2->Int):bx L B W H (fun p=>f p+g p)=bx L B W H f+bx L B W H g:=by
 unfold bx;rw[<-jr];exact aX fun i _=>jr _ _ _
def EK (f:I2->Int):bx L B W H (fun p=>-f p) = -bx L B W H f:=by
 unfold bx;rw[<-tR];exact aX fun i _=>tR _ _
def ME (c:Int) (f:I2->Int):bx L B W H (fun p=>c*f p)=c*bx L B W H f:=by
 unfold bx;rw[<-rW];exact aX fun i _=>rW _ _ _
def Na (n:Nat) (f:Nat->I2->Int):bx L B W H (fun p=>bE n fun k=>f k p)=bE n fun k=>bx L B W H (f k):=by
 unfold bx;rw[pL n W];exact aX fun i _=>pL _ _ _
def LF {v:I2} (h:Inb L B W H v):bx L B W H (fun p=>if p=v then 1 else 0)=1:=by
 obtain⟨a,b,c,d⟩:=h;unfold bx;rw[px (k:=(v.1-L).toNat) (by omega) fun i hi hne=>cA fun j hj=>RZ fun e=>hne (by have:=SD Prod.fst e; dsimp only at this; omega)]
 rw[px (k:=(v.2-B).toNat) (by omega) fun j hj hne=>RZ fun e=>hne (by have:=SD Prod.snd e; dsimp only at this; omega)]
 exact R0 (SO (by dsimp only; omega) (by dsimp only; omega))
def LB {D c:Int} (hD:0<D):∃q:Int,D*q<c/\c<=D*(q+1):=by
 refine⟨(c-1)/D,?_,?_⟩
 have:=Int.mul_ediv_self_le (x:=c-1) (k:=D) (by omega)
 omega
 have:=Int.lt_mul_ediv_self_add (x:=c-1) (k:=D) hD;rw[Int.mul_add];omega
def uV {D x y:Int} (hD:0<D):D*x<D*y↔x<y:=⟨fun h=>Int.lt_of_mul_lt_mul_left h (Int.le_of_lt hD),fun h=>Int.mul_lt_mul_of_pos_left h hD⟩
def iR {D x y:Int} (hD:0<D):D*x<=D*y↔x<=y:=⟨fun h=>Int.le_of_mul_le_mul_left h hD,fun h=>Ts h (Int.le_of_lt hD)⟩
def CJ {a b:I2} (ha:Inb L B W H a) (hb:Inb L B W H b) (h:a.2<b.2):bx L B W H (fun p=>wi a b p+wj a b p)=(b.2-a.2)*(a.1+b.1-(2*L+W-1)):=by
 obtain⟨ax1,ax2,ay1,ay2⟩:=ha;obtain⟨bx1,bx2,by1,by2⟩:=hb;have hD:0<b.2-a.2:=by omega
 let c:Int->Int:=fun y=>(b.1-a.1)*(y-a.2)+(b.2-a.2)*a.1
 have hti:∀x y:Int,ti a b (x,y)=c y-(b.2-a.2)*x:=fun x y=>by show _=(b.1-a.1)*(y-a.2)+(b.2-a.2)*a.1-(b.2-a.2)*x; unfold ti; grind
 have hcr:∀y,c y+c (a.2+b.2-y)=(b.2-a.2)*(a.1+b.1):=fun y=>by show(b.1-a.1)*(y-a.2)+(b.2-a.2)*a.1+((b.1-a.1)*(a.2+b.2-y-a.2)+(b.2-a.2)*a.1)=_; grind
 have hlo:∀y,a.2<=y->y<=b.2->(b.2-a.2)*L<=c y:=fun y h1 h2=>by
  have e:c y=(b.2-y)*a.1+(y-a.2)*b.1:=by show(b.1-a.1)*(y-a.2)+(b.2-a.2)*a.1=_; grind
  have e1:=Ts ax1 (show 0<=b.2-y by omega)
  have e2:=Ts bx1 (show 0<=y-a.2 by omega)
  have e3:(b.2-a.2)*L=(b.2-y)*L+(y-a.2)*L:=by grind
  omega
 have hhi:∀y,a.2<=y->y<=b.2->c y<=(b.2-a.2)*(L+W-1):=fun y h1 h2=>by
  have e:c y=(b.2-y)*a.1+(y-a.2)*b.1:=by show(b.1-a.1)*(y-a.2)+(b.2-a.2)*a.1=_; grind
  have e1:=Ts (show a.1<=L+W-1 by omega) (show 0<=b.2-y by omega)
  have e2:=Ts (show b.1<=L+W-1 by omega) (show 0<=y-a.2 by omega)
  have e3:(b.2-a.2)*(L+W-1)=(b.2-y)*(L+W-1)+(y-a.2)*(L+W-1):=by grind
  omega
 have hS:a.1+b.1=a.1+b.1:=rfl
 let F:Int->Int:=fun y=>bE W fun i=>if 0<ti a b (L+i,y) then 1 else 0
 let G:Int->Int:=fun y=>bE W fun i=>if ti a b (L+i,y)<0 then 1 else 0
 have hFG:∀y,a.2<=y->y<b.2->F y-G (a.2+b.2-y)=a.1+b.1-(2*L+W-1):=fun y h1 h2=>by
  obtain⟨q,q1,q2⟩:=LB (c:=c y) hD;have l1:=hlo y h1 (by omega)
  have l2:=hhi y h1 (by omega)
  have l3:=hlo (a.2+b.2-y) (by omega) (by omega)
  have l4:=hhi (a.2+b.2-y) (by omega) (by omega)
  have hc:=hcr y;have g1:L<=q+1:=(iR hD).1 (Int.le_trans l1 q2);have g2:q<L+W-1:=(uV hD).1 (Int.lt_of_lt_of_le q1 l2);have d1:(b.2-a.2)*(a.1+b.1-q)=(b.2-a.2)*(a.1+b.1)-(b.2-a.2)*q:=by grind
  have d2:(b.2-a.2)*(a.1+b.1-(q+1))=(b.2-a.2)*(a.1+b.1)-(b.2-a.2)*(q+1):=by grind
  have g3:L<a.1+b.1-q:=(uV hD).1 (by omega)
  have g4:a.1+b.1-(q+1)<=L+W-1:=(iR hD).1 (by omega)
  have eF:F y=q-L+1:=by
   rw[<-count_le (L:=L) (q:=q) (W:=W) (by omega) (by omega)]
   refine aX fun i _=>?_;rw[hti]
   by_cases k:L+(i:Int)<=q
   have:=(iR hD).2 k;rw[R0 k,UA]
   have:=(iR hD).2 (show q+1<=L+(i:Int) by omega)
   rw[RZ k,Uz]
  have eG:G (a.2+b.2-y)=L+W-(a.1+b.1-q):=by
   rw[<-Hk (L:=L) (q:=a.1+b.1-q) (W:=W) (by omega) (by omega)]
   refine aX fun i _=>?_;rw[hti]
   by_cases k:a.1+b.1-q<=L+(i:Int)
   have:=(iR hD).2 k;rw[R0 k,UA]
   have:=(iR hD).2 (show L+(i:Int)<=a.1+b.1-(q+1) by omega)
   rw[RZ k,Uz]
  rw[eF,eG]; omega
 have e:bx L B W H (fun p=>wi a b p+wj a b p)=bE H (fun j=>if a.2<=B+j/\B+j<b.2 then F (B+j) else 0)-bE H (fun j=>if a.2+1<=B+j/\B+j<b.2+1 then G (B+j) else 0):=by
  unfold bx;rw[pL,<-kj];refine aX fun j _=>?_;rw[jr];have e1:bE W (fun i=>wi a b (L+i,B+j))=if a.2<=B+j/\B+j<b.2 then F (B+j) else 0:=by
   by_cases k:a.2<=B+(j:Int)/\B+(j:Int)<b.2
   rw[R0 k];refine aX fun i _=>?_;unfold wi
   dsimp only
   by_cases k2:0<ti a b (L+i,B+j)
   rw[UA,R0 k2]
   rw[Uz,Uz,RZ k2]
   rw[RZ k];refine cA fun i _=>?_;unfold wi
   dsimp only
   rw[Uz,Uz]
  have e2:bE W (fun i=>wj a b (L+i,B+j)) = -(if a.2+1<=B+j/\B+j<b.2+1 then G (B+j) else 0):=by
   by_cases k:a.2+1<=B+(j:Int)/\B+(j:Int)<b.2+1
   rw[R0 k]
   show _ = -bE W fun i=>if ti a b (L+i,B+j)<0 then 1 else 0
   rw[<-tR];refine aX fun i _=>?_;unfold wj
   dsimp only
   by_cases k2:ti a b (L+i,B+j)<0
   rw[UA,R0 k2]
   rw[Uz,Uz,RZ k2]; rfl
   rw[RZ k];refine cA fun i _=>?_;unfold wj
   dsimp only
   rw[Uz,Uz]
  rw[e1,e2]; omega
 rw[e,jI F ay1 (by omega) (by omega),jI G (by omega) (by omega) (by omega),show b.2+1-(a.2+1)=b.2-a.2 by omega]
 obtain⟨D,hDn⟩:∃D:Nat,b.2=a.2+D:=⟨(b.2-a.2).toNat,by omega⟩
 rw[show(b.2-a.2).toNat=D by omega,<-H0 D fun k=>G (a.2+1+k),<-kj]
 rw[aX (g:=fun _=>a.1+b.1-(2*L+W-1)) fun k hk=>?_,oj]
 rw[show b.2-a.2=(D:Int) by omega]
 have:=hFG (a.2+k) (by omega) (by omega)
 rw[<-this]
 congr 2
 omega
def JV (a b p:I2):wj b a p = -wj a b p:=by rw[<-AG,<-AG,Co]
def FJ {a b:I2} (ha:Inb L B W H a) (hb:Inb L B W H b):bx L B W H (fun p=>wi a b p+wj a b p)=(b.2-a.2)*(a.1+b.1-(2*L+W-1)):=by
 rcases Int.lt_trichotomy a.2 b.2 with h|h|h
 exact CJ ha hb h
 rw[h,Int.sub_self,Int.zero_mul];refine cA fun i _=>cA fun j _=>?_;unfold wi wj
 dsimp only
 rw[Uz,Uz,Uz,Uz]; rfl
 have:=CJ hb ha h;have e:bx L B W H (fun p=>wi a b p+wj a b p) = -bx L B W H (fun p=>wi b a p+wj b a p):=by
  rw[<-EK];exact zD fun p _=>by rw[Co a b,JV a b]; omega
 rw[e,this]; grind
def EX {r:List I2} (h:∀i,Inb L B W H (nx r i)):bx L B W H (fun p=>fN r p+oa r p)=qR r:=by
 have e:bx L B W H (fun p=>fN r p+oa r p)=bE r.length fun i=>bx L B W H fun p=>wi (nx r i) (nx r (i+1)) p+wj (nx r i) (nx r (i+1)) p:=by
  rw[<-Na];exact zD fun p _=>(jr _ _ _).symm
 rw[e,aX fun i _=>FJ (h i) (h (i+1))];have t:=rI r.length fun i=>(nx r i).1*(nx r i).2-(2*L+W-1)*(nx r i).2;rw[wG,Int.sub_self] at t;have t2:=jr r.length (fun i=>(nx r i).1*(nx r (i+1)).2-(nx r i).2*(nx r (i+1)).1) fun i=>((nx r (i+1)).1*(nx r (i+1)).2-(2*L+W-1)*(nx r (i+1)).2)-((nx r i).1*(nx r i).2-(2*L+W-1)*(nx r i).2);rw[t,Int.add_zero] at t2;unfold qR;rw[<-t2];exact aX fun i _=>by grind
end
structure Steps (a b:I2) (g:Nat) (u w s t:Int):Prop where
 g0:0<g
 x:b.1-a.1=g*u
 y:b.2-a.2=g*w
 one:s*u+t*w=1
section
variable {a b : I2} {g : Nat} {u w s t : Int}
end
section
variable {L B : Int} {W H : Nat}
def Inb.zE {a b p:I2} (ha:Inb L B W H a) (hb:Inb L B W H b) (h:cC a b p):Inb L B W H p:=by
 obtain⟨_,h1,h2,h3,h4⟩:=h;obtain⟨a1,a2,a3,a4⟩:=ha;obtain⟨b1,b2,b3,b4⟩:=hb;exact⟨by omega,by omega,by omega,by omega⟩
end
def M7 {a b p:I2} (h:cC a b p) (ha:p≠a) (hb:p≠b):up p a+up p b=1:=by
 obtain⟨h0,h1,h2,h3,h4⟩:=h;have ha':¬(p.1=a.1/\p.2=a.2):=fun k=>ha (SO k.1 k.2);have hb':¬(p.1=b.1/\p.2=b.2):=fun k=>hb (SO k.1 k.2)
 by_cases e1:a.2=p.2
 by_cases e2:b.2=p.2
 unfold up
 by_cases k:a.1<p.1
 rw[UA,Uz]; rfl
 rw[Uz,UA]; rfl
 rw[rU e1] at h0;rcases SV.1 h0 with k|k<;>omega
 by_cases e2:b.2=p.2
 rw[uU e2] at h0;rcases SV.1 h0 with k|k<;>omega
 unfold up
 by_cases k:p.2<a.2
 rw[UA,Uz]; rfl
 rw[Uz,UA]; rfl
section
variable {r : List I2}
def BT {n:Nat} {f:Nat->Int} (h:∀i,i<n->f i<=0):bE n f<=0:=by
 induction n with
 | zero=>simp[bE]
 | succ n ih =>
  have h1:=ih fun i hi=>h i (by omega)
  have h2:=h n (by omega)
  simp only[bE]; omega
end
def VR.Nu {r:List I2} (h:VR r):qR r≠0:=by
 intro h0;have hne:r≠[]:=h.ne_nil;have h2:VR (r.map (dy 2)):=(Ce (s:=2) (by decide)).vr h
 have hl:(r.map (dy 2)).length=r.length:=Sj _;obtain⟨s,hs,g⟩:=h2.sign;have g:Sg (r.map (dy 2)) s:=g;have ea:∀i,nx (r.map (dy 2)) i=dy 2 (nx r i):=dE _ hne;have har:qR (r.map (dy 2))=0:=by
  unfold qR at h0 ⊢;rw[hl,aX (g:=fun i=>4*((nx r i).1*(nx r (i+1)).2-(nx r i).2*(nx r (i+1)).1)) fun i _=>by rw[ea,ea]; unfold dy; grind]
  rw[rW,h0,Int.mul_zero]
 generalize hr2:r.map (dy 2)=r2 at *;obtain⟨p,hp,hpa,hpb⟩:∃p,cC (nx r2 0) (nx r2 (0+1)) p/\p≠nx r2 0/\p≠nx r2 (0+1):=by
  refine⟨((nx r 0).1+(nx r (0+1)).1,(nx r 0).2+(nx r (0+1)).2),?_,?_,?_⟩
  rw[ea,ea];unfold cC ti dy;refine⟨by grind,?_⟩
  dsimp only
  omega
  rw[ea];intro e;have e1:=SD Prod.fst e;have e2:=SD Prod.snd e;unfold dy at e1 e2
  dsimp only at e1 e2
  exact h.still 0 (SO (by omega) (by omega))
  rw[ea];intro e;have e1:=SD Prod.fst e;have e2:=SD Prod.snd e;unfold dy at e1 e2
  dsimp only at e1 e2
  exact h.still 0 (SO (by omega) (by omega))
 have h3:=h2.n3;have hk:∀k,p≠nx r2 k:=by
  intro k e;have hm:k%r2.length<r2.length:=SU _ (by omega)
  have e':p=nx r2 (k%r2.length):=by rw[e]; exact oG r2 (Nat.mod_mod _ _).symm
  rw[e'] at hp hpa hpb;rcases h2.vL hm (by omega) hp with c|c
  exact hpa (by rw[<-c])
  have:=KL hm;rw[<-c] at this;exact hpb this.symm
 have hd:=CI r2 p;rw[px (k:=0) (by omega) fun j hj hne=>by unfold NH; exact RZ fun c=>hne (h2.AS hj (by omega) hk c hp)] at hd
 unfold NH at hd;rw[R0 hp] at hd;have hu:=M7 hp (hk _) (hk _);have a1:=Px p (nx r2 0);have w1:=g.Mf h2 p;have w2:=g.KE h2 p;obtain⟨K,K0,hK⟩:=(Lg.all (n:=r2.length) (P:=fun i K=>-K<(nx r2 i).1/\(nx r2 i).1<K/\-K<(nx r2 i).2/\(nx r2 i).2<K) fun i _ =>
  (Lg.ge (max (max (nx r2 i).1 (-(nx r2 i).1)) (max (nx r2 i).2 (-(nx r2 i).2))+1)).imp fun K h=>by omega).get
 have hb:∀i,Inb (-K) (-K) (2*K).toNat (2*K).toNat (nx r2 i):=fun i=>by
  have:=hK (i%r2.length) (SU _ (by omega))
  rw[oG r2 (Nat.mod_mod i r2.length)] at this;exact⟨by omega,by omega,by omega,by omega⟩
 have e:=EX hb;rw[har] at e;have hle:bx (-K) (-K) (2*K).toNat (2*K).toNat (fun q=>(if q=p then 1 else 0) + -(s*(Jd.fN r2 q+oa r2 q)))<=0:=BT fun i _=>BT fun j _=>by
  have a:=g.Mf h2 (-K+i,-K+j);have b:=g.KE h2 (-K+i,-K+j)
  dsimp only
  split
  rename_i c;rw[c];rcases hs with rfl|rfl<;>omega
  rcases hs with rfl|rfl<;>omega
 rw[LW (fun q=>if q=p then 1 else 0),LF ((hb 0).zE (hb (0+1)) hp),EK,ME,e] at hle
 omega
end Jd
namespace Go.Proofs.YtmndpgfbkicndaaGreat
section
open Go Go.Ab Go.Ab.W Go.Ab.B Jd
structure Fcs (pts:List I2) (F:List Fc):Prop where
 len:3<=pts.length/\pts.length<=120
 flen:1<=F.length/\F.length<=64
 near:dH pts
 one:∀i,i<pts.length->nx pts i ∉ pts.take i
 ok:NY pts F
 va:∀f ∈ F,MC pts f=true
 tu:∀f ∈ F,N1 pts f=true
def oq {p:Fc->Bool} {F:List Fc} (h:bK (fq p F) (.inr ()) F.length 0 = .inr ()):∀f ∈ F,p f=true:=by
 intro f hf;obtain⟨j,hj,e⟩:=SF.1 hf;have:=kh (f:=fq p F) (fun j r hr=>by
  unfold fq at hr
  split at hr
  split at hr
  cases hr
  cases hr; intro c; cases c
  cases hr) h j hj
 unfold fq at this;rw[RY hj,e] at this
 dsimp only at this
 refine R1 fun hc=>?_;rw[RZ hc] at this; cases this
def Fu {f:Nat->Option (Int ⊕ Unit)} (hf:∀j r,f j=some (.inl r)->0<=r) {k:Nat} {v:Int} (h:bK f (.inr ()) k 0 = .inl v):0<=v:=by
 rcases cG (f:=f) (e:=.inr ()) k 0 with⟨h1,h2⟩|⟨j,_,h2,h3⟩
 rw[h2] at h; cases h
 rw[h] at h3; exact hf j v h3
def p9 {p:Fc->Bool} {F:List Fc} {v:Int} (h:bK (fq p F) (.inr ()) F.length 0 = .inl v):0<=v:=Fu (fun j r hr=>by
 unfold fq at hr
 split at hr
 split at hr
 cases hr
 have:=R2 hr;have:=Sum.inl.inj this;omega
 cases hr) h
def IN {pts:List I2} (h0:0<pts.length) (h:bK (jE pts) (.inr ()) pts.length 0 = .inr ()):dH pts:=by
 intro q hq;obtain⟨j,hj,e⟩:=SF.1 hq;have:=vV h0 h j;unfold nx at this;rw[TC hj,R7,RY hj,e] at this;exact this
def Pg {pts:List I2} {f:Fc} (h:MC pts f=true):∀r ∈ f.1::f.2,qR (eY pts r 1)≠0:=fun r hr =>
 VR.Nu (vw.1 (of_decide_eq_true (Sb.1 h r hr))).vr
def Jf {pts:List I2} (h:bK (mL pts) (.inr ()) pts.length 0 = .inr ()):∀i,i<pts.length->nx pts i ∉ pts.take i:=fun i hi hc=>by
 have:=kh (f:=mL pts) (fun j r hr=>by
  unfold mL at hr
  split at hr
  cases hr; intro c; cases c
  cases hr) h i hi
 unfold mL at this;rw[R0 hc] at this; cases this
abbrev Ed:=Uk
def acc {α:Type} (g:Nat->List α):Nat->List α
 | 0=>[]
 | k+1=>acc g k++g k
def fG {α:Type} {g:Nat->List α} {b:Nat}:∀{k:Nat},(∀i,i<k->(g i).length<=b)->(acc g k).length<=k*b
 | 0,_=>by simp[acc]
 | k+1,h=>by
  have h1:=fG (k:=k) fun i hi=>h i (by omega)
  have h2:=h k (by omega)
  rw[acc,Sd,TA]; omega
def vZ {α ρ:Type} {B:(List α × Int)->Option ((List α × Int) ⊕ ρ)} {len:Nat} {g:Nat->List α} {out:List α->ρ} {d:List α}
  (hB:∀i,i<len->B (d++acc g i,(i:Int))=some (.inl (d++acc g i++g i,((i+1:Nat):Int)))) (hE:B (d++acc g len,(len:Int))=some (.inr (out (d++acc g len)))) :
  ∀(k i n:Nat),i+k=len->k<n->bg B n (d++acc g i,(i:Int))=some (out (d++acc g len))
 | 0,i,n+1,h,_=>by
  rw[Tj] at h; subst h;exact fg hE
 | k+1,i,n+1,h,hn=>by
  rw[fF (hB i (by omega)),SR]
  exact vZ hB hE k (i+1) n (by omega) (by omega)
def fY (l:List Int) (f r i:Nat):Ed:=(l.getD i 0,l.getD ((i+1)%l.length) 0,(f:Int),(r:Int))
def rE (l:List Int) (f r:Nat):List Ed:=acc (fun i=>[fY l f r i]) l.length
def fE (rs:Um) (f:Nat):List Ed:=acc (fun r=>rE (rs.getD r []) f r) rs.length
def aq (F:List Fc) (f:Nat):Um:=(F.getD f ([],[])).1::(F.getD f ([],[])).2
def sE (F:List Fc):List Ed:=acc (fun f=>fE (aq F f) f) F.length
def tx {l:List Int} {f r:Nat}:(rE l f r).length<=l.length:=by
 have:=fG (g:=fun i=>[fY l f r i]) (b:=1) (k:=l.length) fun i _=>by simp
 unfold rE; omega
section
variable {pts : List I2} {F : List Fc} (n : Nat)
def CM {rs:Um} {f r:Nat} (hr:r<rs.length) {d:List Ed} (hd:d.length<=100000) (h40:(rs.getD r []).length<=40) (hn:1000<n) :
  bg (pT n (r:Int) rs (f:Int)) n (d,0)=some (d++rE (rs.getD r []) f r):=by
 have hx:rs[r]? = some (rs.getD r []):=by rw[R7,RY hr]; rfl
 generalize rs.getD r []=l at *;have:=vZ (B:=pT n (r:Int) rs (f:Int)) (len:=l.length) (g:=fun i=>[fY l f r i]) (out:=id) (d:=d) (fun i hi=>by
  have hi2:(i+1)%l.length<l.length:=SU _ (by omega)
  have ha:=fG (g:=fun i=>[fY l f r i]) (b:=1) (k:=i) fun i _=>by simp
  have e1:l[((i:Nat):Int).toNat]? = some (l.getD i 0):=by rw[Ss,R7,RY hi]; rfl
  have e2:l[(((i+1)%l.length:Nat):Int).toNat]? = some (l.getD ((i+1)%l.length) 0):=by rw[Ss,R7,RY hi2]; rfl
  unfold pT
  try dsimp only
  simp only[al hr,aJ,aR hx,ah];rw[Vf]
  simp only[al hi,aJ,e1,ah,aj (show i<4611686018427387904 by omega)]
  rw[fT (by omega)]
  simp only[iT,al hi2,aJ,e2,ah];rw[bt (by simp; omega),aJ]
  rfl) (by
  unfold pT
  try dsimp only
  simp only[al hr,aJ,aR hx,ah];rw[Vg]; rfl) l.length 0 n (by omega) (by omega)
 rw[show acc (fun i=>[fY l f r i]) 0 = [] from rfl,SI] at this
 exact this
def D5 {rs:Um} {f:Nat} (h9:rs.length<=9) {d:List Ed} (hd:d.length<=90000) (h40:∀r,(rs.getD r []).length<=40) (hn:1000<n) :
  bg (pP n rs (f:Int)) n (d,0)=some (d++fE rs f):=by
 have:=vZ (B:=pP n rs (f:Int)) (len:=rs.length) (g:=fun r=>rE (rs.getD r []) f r) (out:=id) (d:=d) (fun i hi=>by
  have ha:=fG (g:=fun r=>rE (rs.getD r []) f r) (b:=40) (k:=i) fun i _=>Sv tx (h40 i);unfold pP
  try dsimp only
  rw[Vf,CM n hi (by rw[Sd]; omega) (h40 i) hn,ah,Vh]) (by
  unfold pP
  try dsimp only
  rw[Vg]; rfl) rs.length 0 n (by omega) (by omega)
 rw[show acc (fun r=>rE (rs.getD r []) f r) 0 = [] from rfl,SI] at this
 exact this
def IW (hv:Fcs pts F) (hn:1000<n):Gp n pts F=some (sE F):=by
 have hf:=hv.flen;have hk:∀i,(aq F i).length<=9/\∀r,((aq F i).getD r []).length<=40:=fun i=>by
  unfold aq
  by_cases hi:i<F.length
  obtain⟨h8,h9⟩:=jK (hv.ok _ (Sn hi));have e:F.getD i ([],[])=F[i]:=by rw[R7,RY hi]; rfl
  rw[e];refine⟨by simp; omega,fun r=>?_⟩
  by_cases hr:r<(F[i].1::F[i].2).length
  have:=(gF rfl (h9 _ (Sn hr))).2.2;rw[R7,RY hr]; exact this
  rw[R7,SN (by omega)]; simp
  rw[R7,SN (by omega)]
  refine⟨by simp,fun r=>?_⟩
  cases r<;>simp
 have:=vZ (B:=sT n F) (len:=F.length) (g:=fun f=>fE (aq F f) f) (out:=id) (d:=[]) (fun i hi=>by
  have ha:=fG (g:=fun f=>fE (aq F f) f) (b:=360) (k:=i) fun i _=>by
   have h1:=fG (g:=fun r=>rE ((aq F i).getD r []) i r) (b:=40) (k:=(aq F i).length) fun r _=>Sv tx ((hk i).2 r);have h2:=(hk i).1;unfold fE; omega
  have e:F[i]? = some (F.getD i ([],[])):=by rw[R7,RY hi]; rfl
  have h3:=(hk i).1;unfold sT
  try dsimp only
  rw[Vf,al hi,aJ,aR e,ah]
  try dsimp only
  rw[mz n _ _ (by unfold aq at h3; rw[SA] at h3; omega),ah,show((F.getD i ([],[])).1::(F.getD i ([],[])).2)=aq F i from rfl,D5 n (hk i).1 (by rw[To]; omega) (hk i).2 hn,ah,Vh]) (by
  unfold sT
  try dsimp only
  rw[Vg]; rfl) F.length 0 n (by omega) (by omega)
 rw[show acc (fun f=>fE (aq F f) f) 0 = [] from rfl,SI] at this
 unfold Gp;rw[show(([]:List Ed),(0:Int))=([],((0:Nat):Int)) from rfl,this,ah]
 rfl
end
def vC (pts:List I2) (e:Ed):Prop:=(0<=e.1/\e.1<pts.length)/\(0<=e.2.1/\e.2.1<pts.length)/\iK pts e.1≠iK pts e.2.1
def zw (e f:Ed):Bool:=(decide (e.1=f.1) && decide (e.2.1=f.2.1)) || (decide (e.1=f.2.1) && decide (e.2.1=f.1))
noncomputable def jl (pts:List I2) (e f:Ed):Bool :=
 if zw e f then false
 else if ui (iK pts e.1) (iK pts e.2.1) (iK pts f.1) (iK pts f.2.1)=1 then !decide (e.1=f.1) && (!decide (e.1=f.2.1) && (!decide (e.2.1=f.1) && !decide (e.2.1=f.2.1)))
 else !decide (ui (iK pts e.1) (iK pts e.2.1) (iK pts f.1) (iK pts f.2.1)=0)
def BD (e f:Ed):(br (decide (e.1=f.1)) (br (decide (e.2.1=f.2.1)) (some true) (br (decide (e.1=f.2.1)) (some (decide (e.2.1=f.1))) (some false))) (br (decide (e.1=f.2.1)) (some (decide (e.2.1=f.1))) (some false)))=some (zw e f):=by
 unfold zw;cases decide (e.1=f.1)<;>cases decide (e.2.1=f.2.1)<;>cases decide (e.1=f.2.1)<;>cases decide (e.2.1=f.1)<;>rfl
def pE {pts:List I2} {i:Int} (h:0<=i/\i<pts.length):bw i pts.length=true:=R3 ⟨h.1,by omega⟩
def By (e f:Ed):(br (!decide (e.1=f.1)) (br (!decide (e.1=f.2.1)) (br (!decide (e.2.1=f.1)) (some (!decide (e.2.1=f.2.1))) (some false)) (some false)) (some false))=some (!decide (e.1=f.1) && (!decide (e.1=f.2.1) && (!decide (e.2.1=f.1) && !decide (e.2.1=f.2.1)))):=by
 cases decide (e.1=f.1)<;>cases decide (e.1=f.2.1)<;>cases decide (e.2.1=f.1)<;>rfl
section
variable {pts : List I2} {F : List Fc} (n : Nat)
def Jw (hb:dH pts) {e f:Ed} (he:vC pts e) (hf:vC pts f):Gt n pts F e.1 e.2.1 e.2.2.1 e.2.2.2 f.1 f.2.1 f.2.2.1 f.2.2.2=some (jl pts e f):=by
 obtain⟨a1,a2,a3⟩:=he;obtain⟨b1,b2,b3⟩:=hf;unfold Gt jl;rw[BD,ah];cases zw e f
 ·rw[fc,pE a1,aJ,hY a1,ah]
  try dsimp only
  rw[pE a2,aJ,hY a2,ah]
  try dsimp only
  rw[pE b1,aJ,hY b1,ah]
  try dsimp only
  rw[pE b2,aJ,hY b2,ah]
  try dsimp only
  rw[B8 n (gp hb a1) (gp hb a2) (gp hb b1) (gp hb b2) a3 b3,ah,By,RZ (by decide)]
  by_cases h:ui (iK pts e.1) (iK pts e.2.1) (iK pts f.1) (iK pts f.2.1)=1
  rw[au h,R0 h]
  rw[av h,RZ h]
 rfl
def JR (hb:dH pts) {e f:Ed} (he:vC pts e) (hf:vC pts f) (hn:1000<n):GH n pts F e.1 e.2.1 e.2.2.1 e.2.2.2 f.1 f.2.1 f.2.2.1 f.2.2.2=some (jl pts e f):=by
 obtain⟨a1,a2,a3⟩:=he;obtain⟨b1,b2,b3⟩:=hf;have i6:∀{p:I2},Nr p->pf p.1/\pf p.2:=fun {p} h=>by
  unfold Nr at h; unfold pf; omega
 have nf:∀{p:I2},Nr p->¬Fa p:=fun {p} h=>by
  unfold Nr at h; unfold Fa; omega
 have c1:=gp hb a1;have c2:=gp hb a2;have c3:=gp hb b1;have c4:=gp hb b2;unfold GH jl;rw[BD,ah];cases zw e f
 ·rw[fc,pE a1,aJ,hY a1,ah]
  try dsimp only
  rw[pE a2,aJ,hY a2,ah]
  try dsimp only
  rw[pE b1,aJ,hY b1,ah]
  try dsimp only
  rw[pE b2,aJ,hY b2,ah]
  try dsimp only
  rw[IZ n (i6 c1) (i6 c2) (i6 c3) (i6 c4) (by omega),RZ (by
   rintro(h|h|h|h|h|h)
   exact nf c1 h
   exact nf c2 h
   exact nf c3 h
   exact nf c4 h
   exact a3 h
   exact b3 h),ah]
  try dsimp only
  rw[By,RZ (by decide)]
  by_cases h:ui (iK pts e.1) (iK pts e.2.1) (iK pts f.1) (iK pts f.2.1)=0
  rw[au h,Uz,h]; rfl
  rw[av h]
  by_cases g:ui (iK pts e.1) (iK pts e.2.1) (iK pts f.1) (iK pts f.2.1)=1
  rw[au g,R0 g]
  rw[av g,RZ g,R6 h]; rfl
 rfl
end
def bW (P:List Ed->Ed->Bool):List Ed->List Ed->Option Int
 | _,[]=>none
 | d,e::es=>if P d e then some e.2.2.1 else bW P (d++[e]) es
def HU:Option Int->Int ⊕ Unit
 | some v=>.inl v
 | none=>.inr ()
def kq {P:List Ed->Ed->Bool}:∀(a b d:List Ed),bW P d (a++b)=match bW P d a with|some v=>some v|none=>bW P (d++a) b
 | [],b,d=>by simp[bW]
 | e::a,b,d=>by
  rw[Uc,bW,bW]
  by_cases h:P d e=true
  rw[R0 h,R0 h]
  rw[RZ h,RZ h,kq a b (d++[e]),SR]; rfl
def lQ {P:List Ed->Ed->Bool} {E:List Ed} {f:Nat->Option (Int ⊕ Unit)} (hf:∀i e,E[i]? = some e->f i=if P (E.take i) e then some (.inl e.2.2.1) else none) :
  ∀(k i:Nat),i+k=E.length->bK f (.inr ()) k i=HU (bW P (E.take i) (E.drop i))
 | 0,i,h=>by
  rw[List.drop_of_length_le (by omega)]; rfl
 | k+1,i,h=>by
  have hi:i<E.length:=by omega
  have hx:=RY hi;rw[TU hi,bW];unfold bK;rw[hf i _ hx]
  by_cases g:P (E.take i) E[i]=true
  rw[R0 g,R0 g]; rfl
  rw[RZ g,RZ g];have:=lQ hf k (i+1) (by omega)
  rw[this,T2,hx]; rfl
def xG {α:Type} {r:Int ⊕ Unit} {E:List α} {i:Nat} (hi:i<=E.length) (q:α->Bool) (f:Nat->Option (Int ⊕ Unit)) (hf:∀j x,j<i->E[j]? = some x->f j=if q x then some r else none) :
  bK f (.inr ()) i 0=if (E.take i).any q then r else .inr ():=by
 rcases cG (f:=f) (e:=.inr ()) i 0 with⟨h1,h2⟩|⟨j,_,h2,h3⟩
 rw[h2,RZ];intro h;obtain⟨x,hx,hq⟩:=TW.1 h;obtain⟨j,hj,e⟩:=SF.1 hx;rw[R8] at hj;rw[List.getElem_take] at e;have:=h1 j (by omega) (by omega)
 rw[hf j x (by omega) (by rw[RY (by omega),e]),R0 hq] at this
 cases this
 have hj:j<E.length:=by omega
 rw[hf j _ (by omega) (RY hj)] at h3
 by_cases g:q E[j]=true
 rw[R0 g] at h3;rw[R0 (TW.2 ⟨E[j],SF.2 ⟨j,by rw[R8]; omega,by rw[List.getElem_take]⟩,g⟩)]
 exact(R2 h3).symm
 rw[RZ g] at h3; cases h3
def ur (d:List Ed) (e:Ed):Bool:=d.any fun x=>decide (e.1=x.1) && decide (e.2.1=x.2.1)
noncomputable def ub (pts:List I2) (d:List Ed) (e:Ed):Bool:=d.any fun x=>jl pts e x
section
variable {pts : List I2} {F : List Fc} (n : Nat)
def GZ {E:List Ed} (hE:E.length<50000) (hn:99999<n):bg (xS n E) n 0=some (HU (bW ur [] E)):=by
 have:=lQ (P:=ur) (E:=E) (f:=fun i=>match E[i]? with|some e=>if ur (E.take i) e then some (.inl e.2.2.1) else none|none=>none) (fun i e he=>by simp only[he]) E.length 0 (by omega)
 rw[List.take_zero,Tu] at this;rw[<-this];refine bj (len:=E.length) (fun i hi=>?_) ?_ E.length 0 n (by omega) (by omega)
 ·have hx:=RY hi;generalize E[i]=e at hx;have hin:bg (yu n (i:Int) E) n 0=some (if ur (E.take i) e then .inl e.2.2.1 else .inr ()):=by
   unfold ur;rw[<-xG (E:=E) (r:=.inl e.2.2.1) (by omega) _ (fun j=>match E[j]? with|some x=>if (decide (e.1=x.1) && decide (e.2.1=x.2.1))=true then some (.inl e.2.2.1) else none|none=>none) (fun j x _ hj=>by simp only[hj])]
   refine bj (len:=i) (fun j hj=>?_) ?_ i 0 n (by omega) (by omega)
   ·have hy:=RY (show j<E.length by omega)
    generalize E[j]=x at hy;unfold yu
    try dsimp only
    rw[Vf]
    simp only[al hi,al (show j<E.length by omega),aJ,aR hx,aR hy,ah,hy,cS,aj (show j<4611686018427387904 by omega)]
    cases(decide (e.1=x.1) && decide (e.2.1=x.2.1))<;>rfl
   ·unfold yu
    try dsimp only
    rw[Vg]
  unfold xS
  try dsimp only
  rw[Vf,hin,ah,Vh,hx]
  try dsimp only
  cases ur (E.take i) e<;>rfl
 ·unfold xS
  try dsimp only
  rw[Vg]
def HE (hb:dH pts) {E:List Ed} (hS:∀e ∈ E,vC pts e) (hE:E.length<50000) (hn:99999<n):bg (yb n E pts F) n 0=some (HU (bW (ub pts) [] E)):=by
 have:=lQ (P:=ub pts) (E:=E) (f:=fun i=>match E[i]? with|some e=>if ub pts (E.take i) e then some (.inl e.2.2.1) else none|none=>none) (fun i e he=>by simp only[he]) E.length 0 (by omega)
 rw[List.take_zero,Tu] at this;rw[<-this];refine bj (len:=E.length) (fun i hi=>?_) ?_ E.length 0 n (by omega) (by omega)
 ·have hx:=RY hi;generalize E[i]=e at hx;have hin:bg (yO n (i:Int) E pts F) n 0=some (if ub pts (E.take i) e then .inl e.2.2.1 else .inr ()):=by
   unfold ub;rw[<-xG (E:=E) (r:=.inl e.2.2.1) (by omega) _ (fun j=>match E[j]? with|some x=>if jl pts e x=true then some (.inl e.2.2.1) else none|none=>none) (fun j x _ hj=>by simp only[hj])]
   refine bj (len:=i) (fun j hj=>?_) ?_ i 0 n (by omega) (by omega)
   ·have hy:=RY (show j<E.length by omega)
    generalize E[j]=x at hy;unfold yO
    try dsimp only
    rw[Vf]
    simp only[al hi,al (show j<E.length by omega),aJ,aR hx,aR hy,ah,hy,aj (show j<4611686018427387904 by omega)]
    rw[Jw n hb (hS e (Sa hx)) (hS x (Sa hy)),ah];cases jl pts e x<;>rfl
   ·unfold yO
    try dsimp only
    rw[Vg]
  unfold yb
  try dsimp only
  rw[Vf,hin,ah,Vh,hx]
  try dsimp only
  cases ub pts (E.take i) e<;>rfl
 ·unfold yb
  try dsimp only
  rw[Vg]
end
def w5 {P:List Ed->Ed->Bool} {g:Nat->List Ed} {d:List Ed} {v:Int} {i:Nat} (h:bW P d (acc g i)=some v):∀k,bW P d (acc g (i+k))=some v
 | 0=>h
 | k+1=>by
  rw[<-Nat.add_assoc,acc,kq,w5 h k]
def oK {σ τ:Type} {B:(Int × σ)->Option ((Int × σ) ⊕ (τ ⊕ σ))} {len:Nat} {P:List Ed->Ed->Bool} {g:Nat->List Ed} {d:List Ed} (R:List Ed->σ->Prop) (Q:τ->Int->Prop)
  (hB:∀i s,i<len->R (d++acc g i) s->(∃v t,bW P (d++acc g i) (g i)=some v/\B ((i:Int),s)=some (.inr (.inl t))/\Q t v) \/
   (bW P (d++acc g i) (g i)=none/\∃s',B ((i:Int),s)=some (.inl (((i+1:Nat):Int),s'))/\R (d++acc g i++g i) s'))
  (hE:∀s,R (d++acc g len) s->B ((len:Int),s)=some (.inr (.inr s))) :
  ∀(k i n:Nat) (s:σ),i+k=len->k<n->bW P d (acc g i)=none->R (d++acc g i) s ->
   (∃v t,bW P d (acc g len)=some v/\bg B n ((i:Int),s)=some (.inl t)/\Q t v)\/(bW P d (acc g len)=none/\∃s',bg B n ((i:Int),s)=some (.inr s')/\R (d++acc g len) s')
 | 0,i,n+1,s,h,_,h0,hr=>by
  rw[Tj] at h; subst h;exact .inr ⟨h0,s,fg (hE s hr),hr⟩
 | k+1,i,n+1,s,h,hn,h0,hr=>by
  rcases hB i s (by omega) hr with⟨v,t,h1,h2,h3⟩|⟨h1,s',h2,h3⟩
  refine .inl ⟨v,t,?_,fg h2,h3⟩;have:bW P d (acc g (i+1))=some v:=by rw[acc,kq,h0]; exact h1
  have:=w5 this k;rw[show i+1+k=len by omega] at this
  exact this
  rw[fF h2];exact oK R Q hB hE k (i+1) n s' (by omega) (by omega) (by rw[acc,kq,h0]; exact h1) (by rw[acc,<-SR]; exact h3)
def rA {l:List Int} {i:Nat} (hi:i<l.length):l[((i:Nat):Int).toNat]? = some (l.getD i 0)/\l[(((i+1)%l.length:Nat):Int).toNat]? = some (l.getD ((i+1)%l.length) 0):=by
 have hi2:(i+1)%l.length<l.length:=SU _ (by omega)
 exact⟨by rw[Ss,R7,RY hi]; rfl,by rw[Ss,R7,RY hi2]; rfl⟩
def nR (d:List Ed) (m:List ((Int × Int) × Bool)):Prop:=∀p:Int × Int,(fX m p).getD false=d.any fun x=>decide (p.1=x.1) && decide (p.2=x.2.1)
def Dq {d:List Ed} {m:List ((Int × Int) × Bool)} (h:nR d m) (e:Ed):nR (d++[e]) (jU m (e.1,e.2.1) true):=by
 intro p;rw[vh,List.any_append]
 by_cases hp:p=(e.1,e.2.1)
 rw[R0 hp,hp]; simp
 rw[RZ hp,h p];have:(decide (p.1=e.1) && decide (p.2=e.2.1))=false:=by
  rw[<-SB,R6];exact fun c=>hp (SO c.1 c.2)
 simp only[List.any_cons,List.any_nil,Bool.or_false,this]
section
variable {pts : List I2} {F : List Fc} (n : Nat)
def Io {l:List Int} {f r:Nat} {d:List Ed} {m:List ((Int × Int) × Bool)} (hm:nR d m) (hl:l.length<=40) (hn:1000<n) :
  (∃v t,bW ur d (rE l f r)=some v/\bg (qP n l) n (0,m)=some (.inl t)/\v=(f:Int))\/(bW ur d (rE l f r)=none/\∃s',bg (qP n l) n (0,m)=some (.inr s')/\nR (d++rE l f r) s'):=by
 refine oK (B:=qP n l) (len:=l.length) (P:=ur) (g:=fun i=>[fY l f r i]) (d:=d) nR (fun _ v=>v=(f:Int)) (fun i s hi hs=>?_) (fun s hs=>?_) l.length 0 n m (by omega) (by omega) rfl (by rw[acc,SI]; exact hm)
 ·obtain⟨e1,e2⟩:=rA hi;have hi2:(i+1)%l.length<l.length:=SU _ (by omega)
  have hk:=hs (l.getD i 0,l.getD ((i+1)%l.length) 0);have hB:qP n l ((i:Int),s)=if ur (d++acc (fun i=>[fY l f r i]) i) (fY l f r i) then some (.inr (.inl s)) else some (.inl (((i+1:Nat):Int),jU s (l.getD i 0,l.getD ((i+1)%l.length) 0) true)):=by
   unfold qP
   try dsimp only
   rw[Vf]
   simp only[al hi,aJ,e1,ah,aj (show i<4611686018427387904 by omega)]
   rw[fT (by omega)]
   simp only[iT,al hi2,aJ,e2,ah];rw[hk]
   show ob (br (ur (d++acc (fun i=>[fY l f r i]) i) (fY l f r i)) _ _) _=_
   cases ur (d++acc (fun i=>[fY l f r i]) i) (fY l f r i)<;>rfl
  by_cases c:ur (d++acc (fun i=>[fY l f r i]) i) (fY l f r i)=true
  rw[R0 c] at hB;exact .inl ⟨(f:Int),s,by rw[bW,R0 c]; rfl,hB,rfl⟩
  rw[RZ c] at hB;exact .inr ⟨by rw[bW,RZ c,bW],_,hB,Dq hs (fY l f r i)⟩
 ·unfold qP
  try dsimp only
  rw[Vg]
end
section
variable {pts : List I2} {F : List Fc} (n : Nat)
def EN {rs:Um} {f:Nat} {d:List Ed} {m:List ((Int × Int) × Bool)} (hm:nR d m) (h9:rs.length<=9) (h40:∀r,(rs.getD r []).length<=40) (hn:1000<n) :
  (∃v t,bW ur d (fE rs f)=some v/\bg (qG n rs) n (0,m)=some (.inl t)/\v=(f:Int))\/(bW ur d (fE rs f)=none/\∃s',bg (qG n rs) n (0,m)=some (.inr s')/\nR (d++fE rs f) s'):=by
 refine oK (B:=qG n rs) (len:=rs.length) (P:=ur) (g:=fun r=>rE (rs.getD r []) f r) (d:=d) nR (fun _ v=>v=(f:Int)) (fun i s hi hs=>?_) (fun s hs=>?_) rs.length 0 n m (by omega) (by omega) rfl (by rw[acc,SI]; exact hm)
 ·have hx:rs[i]? = some (rs.getD i []):=by rw[R7,RY hi]; rfl
  rcases Io n (l:=rs.getD i []) (f:=f) (r:=i) hs (h40 i) hn with⟨v,t,h1,h2,h3⟩|⟨h1,s',h2,h3⟩
  ·refine .inl ⟨v,t,h1,?_,h3⟩;unfold qG
   try dsimp only
   rw[Vf,al hi,aJ,aR hx,ah,h2,ah]
  ·refine .inr ⟨h1,s',?_,h3⟩;unfold qG
   try dsimp only
   rw[Vf,al hi,aJ,aR hx,ah,h2,ah,Vh]
 ·unfold qG
  try dsimp only
  rw[Vg]
def fa (hv:Fcs pts F) (i:Nat):(aq F i).length<=9/\∀r,((aq F i).getD r []).length<=40:=by
 unfold aq
 by_cases hi:i<F.length
 obtain⟨h8,h9⟩:=jK (hv.ok _ (Sn hi));have e:F.getD i ([],[])=F[i]:=by rw[R7,RY hi]; rfl
 rw[e];refine⟨by simp; omega,fun r=>?_⟩
 by_cases hr:r<(F[i].1::F[i].2).length
 have:=(gF rfl (h9 _ (Sn hr))).2.2;rw[R7,RY hr]; exact this
 rw[R7,SN (by omega)]; simp
 rw[R7,SN (by omega)]
 refine⟨by simp,fun r=>?_⟩
 cases r<;>simp
def fZ {i:Nat} (hi:i<F.length):F[i]? = some (F.getD i ([],[])):=by rw[R7,RY hi]; rfl
def mI (hv:Fcs pts F) {i:Nat} (hn:1000<n):yc n (F.getD i ([],[])).1 (F.getD i ([],[])).2=some (aq F i):=by
 have h3:=(fa hv i).1;unfold aq at h3;rw[SA] at h3;exact pZ n _ _ (by omega) hn
def Im (hv:Fcs pts F) (hn:1000<n) :
  (∃v t,bW ur [] (sE F)=some v/\bg (qK n F) n (0,[])=some (.inl t)/\v=t.1)\/(bW ur [] (sE F)=none/\∃s',bg (qK n F) n (0,[])=some (.inr s')/\nR ([]++sE F) s'):=by
 have hf:=hv.flen;refine oK (B:=qK n F) (len:=F.length) (P:=ur) (g:=fun f=>fE (aq F f) f) (d:=[]) nR (fun t v=>v=t.1) (fun i s hi hs=>?_) (fun s hs=>?_) F.length 0 n [] (by omega) (by omega) rfl (by rw[acc,SI]; intro p; simp[fX,da])
 ·obtain⟨h9,h40⟩:=fa hv i;rcases EN n (rs:=aq F i) (f:=i) hs h9 h40 hn with⟨v,t,h1,h2,h3⟩|⟨h1,s',h2,h3⟩
  ·refine .inl ⟨v,((i:Int),t),h1,?_,h3⟩;unfold qK
   try dsimp only
   rw[Vf,al hi,aJ,aR (fZ hi),ah]
   try dsimp only
   rw[mI n hv hn,ah,h2,ah]
  ·refine .inr ⟨h1,s',?_,h3⟩;unfold qK
   try dsimp only
   rw[Vf,al hi,aJ,aR (fZ hi),ah]
   try dsimp only
   rw[mI n hv hn,ah,h2,ah,Vh]
 ·unfold qK
  try dsimp only
  rw[Vg]
end
section
variable {pts : List I2} {F : List Fc} (n : Nat)
def Gb (hb:dH pts) {e:Ed} (he:vC pts e) {d:List Ed} (hS:∀x ∈ d,vC pts x) (hd:d.length<=50000) (hn:99999<n) :
  ∃w,bg (sZ n d pts F e.1 e.2.1 e.2.2.1 e.2.2.2) n 0=some w/\(if ub pts d e then ∃j:Nat,w = .inl (j:Int) else w = .inr ()):=by
 have h1:bg (sZ n d pts F e.1 e.2.1 e.2.2.1 e.2.2.2) n 0=some (bK (fun j=>match d[j]? with|some x=>if jl pts e x=true then some (.inl (j:Int)) else none|none=>none) (.inr ()) d.length 0):=by
  refine bj (len:=d.length) (fun j hj=>?_) ?_ d.length 0 n (by omega) (by omega)
  ·have hy:=RY hj;generalize d[j]=x at hy;unfold sZ
   try dsimp only
   rw[Vf]
   simp only[al hj,aJ,aR hy,ah,hy,aj (show j<4611686018427387904 by omega)]
   rw[JR n hb he (hS x (Sa hy)) (by omega),ah,ah]
   cases jl pts e x<;>rfl
  ·unfold sZ
   try dsimp only
   rw[Vg]
 refine⟨_,h1,?_⟩;rcases cG (f:=fun j=>match d[j]? with|some x=>if jl pts e x=true then some (.inl (j:Int)) else none|none=>none) (e:=(.inr ():Int ⊕ Unit)) d.length 0 with⟨g1,g2⟩|⟨j,_,g2,g3⟩
 ·rw[g2,RZ];intro h;obtain⟨x,hx,hq⟩:=TW.1 h;obtain⟨j,hj,ej⟩:=SF.1 hx;have:=g1 j (by omega) (by omega)
  try dsimp only at this
  rw[RY hj,ej] at this
  try dsimp only at this
  rw[R0 hq] at this;cases this
 ·try dsimp only at g3
  rw[RY (show j<d.length by omega)] at g3
  try dsimp only at g3
  by_cases g:jl pts e d[j]=true
  rw[R0 g] at g3;have hc:ub pts d e=true:=TW.2 ⟨_,Sn _,g⟩;rw[R0 hc];exact⟨j,(R2 g3).symm⟩
  rw[RZ g] at g3; cases g3
def F3 (hb:dH pts) {l:List Int} {f r:Nat} {d:List Ed} (hS:∀x ∈ d,vC pts x) (hS2:∀i,i<l.length->vC pts (fY l f r i)) (hd:d.length<=45000) (hl:l.length<=40) (hn:99999<n) :
  (∃v t,bW (ub pts) d (rE l f r)=some v/\bg (qu n l pts F (f:Int) (r:Int)) n (0,d)=some (.inl t)/\v=(f:Int))\/(bW (ub pts) d (rE l f r)=none/\∃s',bg (qu n l pts F (f:Int) (r:Int)) n (0,d)=some (.inr s')/\s'=d++rE l f r):=by
 refine oK (B:=qu n l pts F (f:Int) (r:Int)) (len:=l.length) (P:=ub pts) (g:=fun i=>[fY l f r i]) (d:=d) (fun d s=>s=d) (fun _ v=>v=(f:Int)) (fun i s hi hs=>?_) (fun s hs=>?_) l.length 0 n d (by omega) (by omega) rfl (by rw[acc,SI])
 ·subst hs;obtain⟨e1,e2⟩:=rA hi;have hi2:(i+1)%l.length<l.length:=SU _ (by omega)
  have ha:=fG (g:=fun i=>[fY l f r i]) (b:=1) (k:=i) fun i _=>by simp
  have hlen:(d++acc (fun i=>[fY l f r i]) i).length<=50000:=by rw[Sd]; omega
  have hS3:∀x ∈ d++acc (fun i=>[fY l f r i]) i,vC pts x:=fun x hx=>by
   rcases Sm.1 hx with h|h
   exact hS x h
   ·have:∀k,k<=i->x ∈ acc (fun i=>[fY l f r i]) k->vC pts x:=fun k=>by
     induction k with
     | zero=>intro _ h; cases h
     | succ k ih =>
      intro hk h;rw[acc,Sm,Sh] at h;rcases h with h|h
      exact ih (by omega) h
      rw[h]; exact hS2 k (by omega)
    exact this i (R5 _) h
  generalize hD:d++acc (fun i=>[fY l f r i]) i=D at *;obtain⟨w,h1,h2⟩:=Gb (F:=F) n hb (hS2 i hi) hS3 hlen hn;have h1':bg (sZ n D pts F (l.getD i 0) (l.getD ((i+1)%l.length) 0) (f:Int) (r:Int)) n 0=some w:=h1;have hB:qu n l pts F (f:Int) (r:Int) ((i:Int),D)=if ub pts D (fY l f r i) then some (.inr (.inl D)) else some (.inl (((i+1:Nat):Int),D++[fY l f r i])):=by
   unfold qu
   try dsimp only
   rw[Vf]
   simp only[al hi,aJ,e1,ah,aj (show i<4611686018427387904 by omega)]
   rw[fT (by omega)]
   simp only[iT,al hi2,aJ,e2,ah];rw[h1',ah]
   by_cases c:ub pts D (fY l f r i)=true
   rw[R0 c] at h2 ⊢;obtain⟨j,rfl⟩:=h2;simp only[ah,au (show(0:Int)<=(j:Int) by omega)]
   rw[RZ c] at h2 ⊢;subst h2;simp only[ah,av (show ¬(0:Int)<=-1 by decide)]
   rw[bt (by rw[Sd]; simp; omega),aJ]
   rfl
  by_cases c:ub pts D (fY l f r i)=true
  rw[R0 c] at hB;exact .inl ⟨(f:Int),D,by rw[bW,R0 c]; rfl,hB,rfl⟩
  rw[RZ c] at hB;exact .inr ⟨by rw[bW,RZ c,bW],_,hB,rfl⟩
 ·unfold qu
  try dsimp only
  rw[Vg]
end
def k7 {α:Type} {g:Nat->List α} {x:α}:∀{k:Nat},x ∈ acc g k->∃i,i<k/\x ∈ g i
 | 0,h=>by cases h
 | k+1,h=>by
  rw[acc,Sm] at h;rcases h with h|h
  obtain⟨i,hi,hx⟩:=k7 h;exact⟨i,by omega,hx⟩
  exact⟨k,by omega,h⟩
section
variable {pts : List I2} {F : List Fc} (n : Nat)
def vQ (hv:Fcs pts F) {f r:Nat} (hf:f<F.length) (hr:r<(aq F f).length):nW pts.length ((aq F f).getD r [])=true/\pj (eY pts ((aq F f).getD r []) 1):=by
 have e:F.getD f ([],[])=F[f]:=by rw[R7,RY hf]; rfl
 unfold aq at hr ⊢;rw[e] at hr ⊢;have e2:(F[f].1::F[f].2).getD r []=(F[f].1::F[f].2)[r]:=by rw[R7,RY hr]; rfl
 rw[e2];exact⟨(jK (hv.ok _ (Sn hf))).2 _ (Sn hr),of_decide_eq_true (Sb.1 (hv.va _ (Sn hf)) _ (Sn hr))⟩
def FX {l:List Int} {i:Nat} (hi:i<l.length):nx (eY pts l 1) i=iK pts (l.getD i 0):=by
 unfold nx eY;rw[Sj,TC hi,R7,SM,R7,RY hi];simp
def tO (hv:Fcs pts F) {f r i:Nat} (hf:f<F.length) (hr:r<(aq F f).length) (hi:i<((aq F f).getD r []).length):vC pts (fY ((aq F f).getD r []) f r i):=by
 obtain⟨h1,h2⟩:=vQ hv hf hr;generalize (aq F f).getD r []=l at *;obtain⟨hx,h3,h4⟩:=gF rfl h1;have hi2:(i+1)%l.length<l.length:=SU _ (by omega)
 have gm:∀k,k<l.length->l.getD k 0 ∈ l:=fun k hk=>by
  rw[R7,RY hk]; exact Sn _
 refine⟨hx _ (gm i hi),hx _ (gm _ hi2),?_⟩;have hs:=(vw.1 h2).vr.still i;rw[FX hi] at hs;have:nx (eY pts l 1) (i+1)=iK pts (l.getD ((i+1)%l.length) 0):=by
  rw[<-FX hi2];exact oG _ (by rw[eE,Nat.mod_mod])
 rw[this] at hs;exact hs
def Ik (hv:Fcs pts F) {f:Nat} (hf:f<F.length) {k:Nat} (hk:k<=(aq F f).length):∀x ∈ acc (fun r=>rE ((aq F f).getD r []) f r) k,vC pts x:=fun x hx=>by
 obtain⟨r,hr,h⟩:=k7 hx;obtain⟨i,hi,h⟩:=k7 h;rw[Sh] at h;rw[h];exact tO hv hf (by omega) hi
def Av (hv:Fcs pts F) {k:Nat} (hk:k<=F.length):∀x ∈ acc (fun f=>fE (aq F f) f) k,vC pts x:=fun x hx=>by
 obtain⟨f,hf,h⟩:=k7 hx;exact Ik hv (by omega) (R5 _) x h
def Fy (hv:Fcs pts F) {f:Nat} (hf:f<F.length) {d:List Ed} (hS:∀x ∈ d,vC pts x) (hd:d.length<=40000) (hn:99999<n) :
  (∃v t,bW (ub pts) d (fE (aq F f) f)=some v/\bg (qA n (aq F f) pts F (f:Int)) n (0,d)=some (.inl t)/\v=(f:Int))\/(bW (ub pts) d (fE (aq F f) f)=none/\∃s',bg (qA n (aq F f) pts F (f:Int)) n (0,d)=some (.inr s')/\s'=d++fE (aq F f) f):=by
 obtain⟨h9,h40⟩:=fa hv f;refine oK (B:=qA n (aq F f) pts F (f:Int)) (len:=(aq F f).length) (P:=ub pts) (g:=fun r=>rE ((aq F f).getD r []) f r) (d:=d) (fun d s=>s=d) (fun _ v=>v=(f:Int)) (fun i s hi hs=>?_) (fun s hs=>?_) (aq F f).length 0 n d (by omega) (by omega) rfl (by rw[acc,SI])
 ·subst hs;have hx:(aq F f)[i]? = some ((aq F f).getD i []):=by rw[R7,RY hi]; rfl
  have ha:=fG (g:=fun r=>rE ((aq F f).getD r []) f r) (b:=40) (k:=i) fun r _=>Sv tx (h40 r);rcases F3 (F:=F) n hv.near (l:=(aq F f).getD i []) (f:=f) (r:=i) (d:=d++acc (fun r=>rE ((aq F f).getD r []) f r) i) (fun x hx=>(Sm.1 hx).elim (hS x) (Ik hv hf (by omega) x)) (fun j hj=>tO hv hf hi hj) (by rw[Sd]; omega) (h40 i) hn with⟨v,t,h1,h2,h3⟩|⟨h1,s',h2,h3⟩
  ·refine .inl ⟨v,t,h1,?_,h3⟩;unfold qA
   try dsimp only
   rw[Vf,al hi,aJ,aR hx,ah,h2,ah]
  ·refine .inr ⟨h1,s',?_,h3⟩;unfold qA
   try dsimp only
   rw[Vf,al hi,aJ,aR hx,ah,h2,ah,Vh]
 ·unfold qA
  try dsimp only
  rw[Vg]
def FW (hv:Fcs pts F) (hn:99999<n) :
  (∃v t,bW (ub pts) [] (sE F)=some v/\bg (qN n F pts) n (0,[])=some (.inl t)/\v=t.1)\/(bW (ub pts) [] (sE F)=none/\∃s',bg (qN n F pts) n (0,[])=some (.inr s')/\s' = []++sE F):=by
 have hfl:=hv.flen;refine oK (B:=qN n F pts) (len:=F.length) (P:=ub pts) (g:=fun f=>fE (aq F f) f) (d:=[]) (fun d s=>s=d) (fun t v=>v=t.1) (fun i s hi hs=>?_) (fun s hs=>?_) F.length 0 n [] (by omega) (by omega) rfl (by rw[acc,SI])
 ·subst hs;have ha:=fG (g:=fun f=>fE (aq F f) f) (b:=360) (k:=i) fun j _=>by
   have h1:=fG (g:=fun r=>rE ((aq F j).getD r []) j r) (b:=40) (k:=(aq F j).length) fun r _=>Sv tx ((fa hv j).2 r);have h2:=(fa hv j).1;unfold fE; omega
  rcases Fy n hv hi (d:=[]++acc (fun f=>fE (aq F f) f) i) (fun x hx=>Av hv (k:=i) (by omega) x (by rwa[To] at hx)) (by rw[To]; omega) hn with⟨v,t,h1,h2,h3⟩|⟨h1,s',h2,h3⟩
  ·refine .inl ⟨v,((i:Int),t),h1,?_,h3⟩;unfold qN
   try dsimp only
   rw[Vf,al hi,aJ,aR (fZ hi),ah]
   try dsimp only
   rw[mI n hv (by omega),ah,h2,ah]
  ·refine .inr ⟨h1,s',?_,h3⟩;unfold qN
   try dsimp only
   rw[Vf,al hi,aJ,aR (fZ hi),ah]
   try dsimp only
   rw[mI n hv (by omega),ah,h2,ah,Vh]
 ·unfold qN
  try dsimp only
  rw[Vg]
end
def Ck (pts:List I2) (l:List Int):eY pts l 2=(eY pts l 1).map (dy 2):=by
 unfold eY;rw[List.map_map];refine List.map_congr_left fun i _=>SO ?_ ?_
 show 2*_=1*_*2; omega
 show 2*_=1*_*2; omega
section
variable {pts : List I2} {F : List Fc} (n : Nat)
def MX {l:List Int} (h:pj (eY pts l 1)):VR (eY pts l 2):=by
 rw[Ck];exact(Ce (s:=2) (by decide)).vr (vw.1 h).vr
def Fg (hb:dH pts) {l:List Int} (hx:Ix pts l) (h3:3<=l.length) (i:Nat):Nw (nx (eY pts l 2) i):=by
 have hne:eY pts l 1≠[]:=fun e=>by have:=eE pts l 1; rw[e] at this; simp at this; omega
 rw[Ck,dE _ hne];have:=Bl hb hx h3 i;unfold Nr at this;unfold Nw dy
 dsimp only
 omega
def zE (pts:List I2) (e:Ed):I2:=((iK pts e.1).1+(iK pts e.2.1).1,(iK pts e.1).2+(iK pts e.2.1).2)
def vU (hb:dH pts) {e:Ed} (he:vC pts e):Nw (zE pts e):=by
 have h1:=gp hb he.1;have h2:=gp hb he.2.1;unfold Nr at h1 h2;unfold Nw zE
 dsimp only
 omega
def BQ (hb:dH pts) {l:List Int} (h:nW pts.length l=true) {p:I2} (hp:Nw p) (hn:1000<n):Lj n (eY pts l 2) p.1 p.2=some (side (eY pts l 2) p):=by
 obtain⟨hx,h3,h4⟩:=gF rfl h;exact G9 n (fun i=>Fg hb hx h3 i) hp (by rw[eE]; omega) (by rw[eE]; omega)
def yS (hb:dH pts) {l:List Int} (h:nW pts.length l=true) (hc:pj (eY pts l 1)) {p:I2} (hp:Nw p) (hn:1000<n):yr n (eY pts l 2) p.1 p.2=some (side (eY pts l 2) p):=by
 obtain⟨hx,h3,h4⟩:=gF rfl h;exact DD n (MX hc) (fun i=>Fg hb hx h3 i) hp (by rw[eE]; omega) (by rw[eE]; omega)
def B4 (hb:dH pts) {e:Ed} (he:vC pts e):yU n pts F e.1 e.2.1 e.2.2.1 e.2.2.2=some (zE pts e):=by
 have h1:=gp hb he.1;have h2:=gp hb he.2.1;unfold Nr at h1 h2;unfold yU zE;rw[pE he.1,aJ,hY he.1,ah]
 try dsimp only
 rw[pE he.2.1,aJ,hY he.2.1,ah]
 try dsimp only
 rw[aB (by omega) (by omega),aB (by omega) (by omega)]
end
noncomputable def vf (pts:List I2) (o:List Int) (h:Um) (p:I2):Bool:=decide (side (eY pts o 2) p=2) && h.all fun l=>decide (side (eY pts l 2) p=0)
section
variable {pts : List I2} {F : List Fc} (n : Nat)
def Ht (hb:dH pts) {o:List Int} {h:Um} (ho:nW pts.length o=true) (hh:∀l ∈ h,nW pts.length l=true) (h8:h.length<=8) {p:I2} (hp:Nw p) (hn:1000<n):IF n pts F o h p.1 p.2 2=some (vf pts o h p):=by
 obtain⟨hx,h3,h4⟩:=gF rfl ho;unfold IF vf;rw[xf n hb hx (.inr rfl) (by omega) (by omega),ah,BQ n hb ho hp hn,ah]
 by_cases c:side (eY pts o 2) p=2
 ·rw[au c,R3 c,Tv];have hl:bg (xI n h pts F 2 p.1 p.2) n 0=some (bK (fun i=>match h[i]? with|some l=>if decide (side (eY pts l 2) p=0)=true then none else some (.inl (i:Int)) | none=>none) (.inr ()) h.length 0):=by
   refine bj (len:=h.length) (fun i hi=>?_) ?_ h.length 0 n (by omega) (by omega)
   ·have hy:=RY hi;generalize h[i]=l at hy;obtain⟨gx,g3,g4⟩:=gF rfl (hh l (Sa hy));unfold xI
    try dsimp only
    rw[Vf,al hi,aJ,aR hy,ah,xf n hb gx (.inr rfl) (by omega) (by omega),ah,BQ n hb (hh l (Sa hy)) hp hn,ah,ah,Vh,hy]
    try dsimp only
    cases decide (side (eY pts l 2) p=0)<;>rfl
   ·unfold xI
    try dsimp only
    rw[Vg]
  rw[hl,ah];rcases cG (f:=fun i=>match h[i]? with|some l=>if decide (side (eY pts l 2) p=0)=true then none else some (.inl (i:Int)) | none=>none) (e:=(.inr ():Int ⊕ Unit)) h.length 0 with⟨g1,g2⟩|⟨j,_,g2,g3⟩
  ·rw[g2];have:(h.all fun l=>decide (side (eY pts l 2) p=0))=true:=Sb.2 fun l hl=>by
    obtain⟨j,hj,ej⟩:=SF.1 hl;have:=g1 j (by omega) (by omega)
    try dsimp only at this
    rw[RY hj,ej] at this
    try dsimp only at this
    refine R1 fun hc=>?_;rw[RZ hc] at this; cases this
   rw[this]; rfl
  ·have hj:j<h.length:=by omega
   try dsimp only at g3
   rw[RY hj] at g3
   try dsimp only at g3
   by_cases g:decide (side (eY pts h[j] 2) p=0)=true
   rw[R0 g] at g3; cases g3
   rw[RZ g] at g3;have e:=(R2 g3).symm;rw[e];have:(h.all fun l=>decide (side (eY pts l 2) p=0))=false:=by
    cases ha:h.all fun l=>decide (side (eY pts l 2) p=0)
    rfl
    exact Sl (Sb.1 ha _ (Sn hj)) g
   rw[this,ah,R6 (by omega)]
 rw[av c,R6 c]; rfl
end
section
variable {pts : List I2} {F : List Fc} (n : Nat)
noncomputable def uv (pts:List I2) (rs:Um) (p:I2) (i:Nat):Option (Unit ⊕ Unit):=match rs[i]? with|some l=>if i=0 then(if side (eY pts l 2) p=2 then none else some (.inl ())) else(if side (eY pts l 2) p=0 then none else some (.inl ())) | none=>none
def Dm (hb:dH pts) {rs:Um} (h9:rs.length<=9) (ho:∀l ∈ rs,nW pts.length l=true/\pj (eY pts l 1)) {p:I2} (hp:Nw p) (hn:1000<n):bg (sU n rs pts F 2 p.1 p.2) n 0=some (bK (uv pts rs p) (.inr ()) rs.length 0):=by
 refine bj (len:=rs.length) (fun i hi=>?_) ?_ rs.length 0 n (by omega) (by omega)
 ·have hy:=RY hi;generalize rs[i]=l at hy;obtain⟨h1,h2⟩:=ho l (Sa hy);obtain⟨gx,g3,g4⟩:=gF rfl h1;unfold sU uv
  try dsimp only
  rw[Vf,al hi,aJ,aR hy,ah,w6 n hb gx (.inr rfl) (by omega) (by omega),ah,yS n hb h1 h2 hp hn,ah,Vh,hy]
  try dsimp only
  by_cases g:i=0
  subst g;rw[Vf]
  by_cases c:side (eY pts l 2) p=2
  rw[R3 c,show(!true)=false from rfl,fc,Vg,ah,fc,R0 rfl,R0 c]
  rw[R6 c,show(!false)=true from rfl,fk,ah,fk,R0 rfl,RZ c]
  rw[Vg,Vf,ah,RZ g]
  by_cases c:side (eY pts l 2) p=0
  rw[R3 c,R0 c]; rfl
  rw[R6 c,RZ c]; rfl
 ·unfold sU
  try dsimp only
  rw[Vg]
end
def JH (pts:List I2) (o:List Int) (h:Um) (p:I2):bK (uv pts (o::h) p) (.inr ()) (o::h).length 0=if vf pts o h p then .inr () else .inl ():=by
 have key:∀j r,uv pts (o::h) p j=some r->r = .inl ():=fun j r hr=>by
  unfold uv at hr
  split at hr
  split at hr
  split at hr
  cases hr
  exact(R2 hr).symm
  split at hr
  cases hr
  exact(R2 hr).symm
  cases hr
 have all:(∀j,j<(o::h).length->uv pts (o::h) p j=none)↔vf pts o h p=true:=by
  unfold vf;rw[R4,decide_eq_true_iff,Sb];constructor
  intro g;refine⟨R1 fun c=>?_,fun l hl=>?_⟩
  have:=g 0 (by simp)
  unfold uv at this;simp[c] at this
  obtain⟨j,hj,e⟩:=SF.1 hl;have:=g (j+1) (by simp; omega)
  unfold uv at this;rw[SE,RY hj,e] at this;refine R3 (R1 fun c=>?_);simp[c] at this
  ·rintro⟨g1,g2⟩ j hj;unfold uv;cases j with
   | zero=>simp[g1]
   | succ j =>
    have hj:j<h.length:=by simp at hj; omega
    rw[SE,RY hj];have:=of_decide_eq_true (g2 _ (Sn hj));simp[this]
 rcases cG (f:=uv pts (o::h) p) (e:=.inr ()) (o::h).length 0 with⟨h1,h2⟩|⟨j,_,h2,h3⟩
 rw[h2,R0 (all.1 fun j hj=>h1 j (by omega) (by omega))]
 rw[RZ fun c=>by rw[all.2 c j (by omega)] at h3; cases h3]
 exact key j _ h3
def Kc {pts:List I2} {F:List Fc} (n:Nat) (hv:Fcs pts F) {f:Nat} (hf:f<F.length) {p:I2} (hp:Nw p) (hn:1000<n):Hj n pts F (f:Int) p.1 p.2 2=some (vf pts (F.getD f ([],[])).1 (F.getD f ([],[])).2 p):=by
 have h9:=(fa hv f).1;have ho:∀l ∈ aq F f,nW pts.length l=true/\pj (eY pts l 1):=fun l hl=>by
  obtain⟨r,hr,e⟩:=SF.1 hl;have:=vQ hv hf hr;rw[R7,RY hr] at this;rw[<-e]; exact this
 unfold Hj;rw[al hf,aJ,aR (fZ hf),ah]
 try dsimp only
 rw[mz n _ _ (by unfold aq at h9; rw[SA] at h9; omega),ah]
 have h1:=Dm (F:=F) n hv.near h9 ho hp hn;unfold aq at h1;rw[h1,JH,ah];cases vf pts (F.getD f ([],[])).1 (F.getD f ([],[])).2 p<;>rfl
def kP {τ:Type} {B:Int->Option (Int ⊕ (τ ⊕ Unit))} {len:Nat} {P:List Ed->Ed->Bool} {g:Nat->List Ed} {d:List Ed} (Q:τ->Int->Prop)
  (hB:∀i:Nat,i<len->(∃v t,bW P (d++acc g i) (g i)=some v/\B (i:Int)=some (.inr (.inl t))/\Q t v)\/(bW P (d++acc g i) (g i)=none/\B (i:Int)=some (.inl ((i+1:Nat):Int))))
  (hE:B (len:Int)=some (.inr (.inr ()))) :
  ∀(k i n:Nat),i+k=len->k<n->bW P d (acc g i)=none ->
   (∃v t,bW P d (acc g len)=some v/\bg B n (i:Int)=some (.inl t)/\Q t v)\/(bW P d (acc g len)=none/\bg B n (i:Int)=some (.inr ()))
 | 0,i,n+1,h,_,h0=>by
  rw[Tj] at h; subst h;exact .inr ⟨h0,fg hE⟩
 | k+1,i,n+1,h,hn,h0=>by
  rcases hB i (by omega) with⟨v,t,h1,h2,h3⟩|⟨h1,h2⟩
  refine .inl ⟨v,t,?_,fg h2,h3⟩;have:bW P d (acc g (i+1))=some v:=by rw[acc,kq,h0]; exact h1
  have:=w5 this k;rw[show i+1+k=len by omega] at this
  exact this
  rw[fF h2];exact kP Q hB hE k (i+1) n (by omega) (by omega) (by rw[acc,kq,h0]; exact h1)
noncomputable def uc (pts:List I2) (F:List Fc) (_:List Ed) (e:Ed):Bool:=!decide (e.2.2.2=0) && !vf pts (F.getD e.2.2.1.toNat ([],[])).1 ((F.getD e.2.2.1.toNat ([],[])).2.take (e.2.2.2-1).toNat++(F.getD e.2.2.1.toNat ([],[])).2.drop e.2.2.2.toNat) (zE pts e)
section
variable {pts : List I2} {F : List Fc} (n : Nat)
def Kq {h:Um} {r:Nat} (h0:r≠0) (h1:r<=h.length) (h8:h.length<=8):ED n h (Ux ((r:Int)-1)) (r:Int)=some (h.take ((r:Int)-1).toNat++h.drop ((r:Nat):Int).toNat):=by
 rw[aB (by omega) (by omega)]
 unfold ED;rw[R3 (show 0<h.length by omega),R3 (show(0:Int)<=(r:Int)-1 by omega),R3 (show(r:Int)-1<=(r:Int) by omega),R3 (show(r:Int)<=(h.length:Int) by omega),bt (by omega)]
 rfl
def BC (hv:Fcs pts F) {f:Nat} (hf:f<F.length):nW pts.length (F.getD f ([],[])).1=true/\(F.getD f ([],[])).2.length<=8/\∀l ∈ (F.getD f ([],[])).2,nW pts.length l=true:=by
 have e:F.getD f ([],[])=F[f]:=by rw[R7,RY hf]; rfl
 rw[e];obtain⟨h8,h9⟩:=jK (hv.ok _ (Sn hf));exact⟨h9 _ (SP ..),h8,fun l hl=>h9 l (Sx _ hl)⟩
def E5 (hv:Fcs pts F) {f r:Nat} (hf:f<F.length) (hr:r<(aq F f).length) {d:List Ed} (hn:99999<n) :
  (∃v t,bW (uc pts F) d (rE ((aq F f).getD r []) f r)=some v/\bg (qC n ((aq F f).getD r []) (r:Int) (f:Int) F (F.getD f ([],[])).2 pts (F.getD f ([],[])).1) n 0=some (.inl t)/\v=(f:Int)) \/
  (bW (uc pts F) d (rE ((aq F f).getD r []) f r)=none/\bg (qC n ((aq F f).getD r []) (r:Int) (f:Int) F (F.getD f ([],[])).2 pts (F.getD f ([],[])).1) n 0=some (.inr ())):=by
 have h40:=(fa hv f).2 r;have hs:=fun i=>tO (i:=i) hv hf hr;obtain⟨ho,h8,hh⟩:=BC hv hf;have hrl:r<=(F.getD f ([],[])).2.length:=by unfold aq at hr; rw[SA] at hr; omega
 generalize (aq F f).getD r []=l at *;refine kP (B:=qC n l (r:Int) (f:Int) F (F.getD f ([],[])).2 pts (F.getD f ([],[])).1) (len:=l.length) (P:=uc pts F) (g:=fun i=>[fY l f r i]) (d:=d) (fun _ v=>v=(f:Int)) (fun i hi=>?_) ?_ l.length 0 n (by omega) (by omega) rfl
 ·obtain⟨e1,e2⟩:=rA hi;have hi2:(i+1)%l.length<l.length:=SU _ (by omega)
  have hS:=hs i hi;have hB:qC n l (r:Int) (f:Int) F (F.getD f ([],[])).2 pts (F.getD f ([],[])).1 (i:Int)=if uc pts F (d++acc (fun i=>[fY l f r i]) i) (fY l f r i) then some (.inr (.inl ())) else some (.inl ((i+1:Nat):Int)):=by
   have hx:(fY l f r i).1=l.getD i 0:=rfl;have hy:(fY l f r i).2.1=l.getD ((i+1)%l.length) 0:=rfl;unfold qC
   try dsimp only
   rw[Vf]
   simp only[al hi,aJ,e1,ah,aj (show i<4611686018427387904 by omega)]
   rw[fT (by omega)]
   simp only[iT,al hi2,aJ,e2,ah];rw[<-hx,<-hy]
   by_cases r0:r=0
   subst r0;rw[Vf,ah]
   have:uc pts F (d++acc (fun i=>[fY l f 0 i]) i) (fY l f 0 i)=false:=by unfold uc fY; rfl
   rw[this]; rfl
   ·have hP:uc pts F (d++acc (fun i=>[fY l f r i]) i) (fY l f r i) = !vf pts (F.getD f ([],[])).1 ((F.getD f ([],[])).2.take ((r:Int)-1).toNat++(F.getD f ([],[])).2.drop ((r:Nat):Int).toNat) (zE pts (fY l f r i)):=by
     unfold uc
     show(!decide ((r:Int)=0) && _)=_
     rw[R6 (by omega)]; rfl
    rw[Vg,al hf,aJ,show Jt n (F.getD f ([],[])).2=some (F.getD f ([],[])).2 by unfold Jt; rw[bt (by omega)]; rfl,ah,Kq n r0 hrl h8,ah,pE hS.1,aJ,hY hS.1,ah]
    try dsimp only
    rw[pE hS.2.1,aJ,hY hS.2.1,ah]
    try dsimp only
    have h1:=gp hv.near hS.1;have h2:=gp hv.near hS.2.1;unfold Nr at h1 h2;rw[aB (by omega) (by omega),aB (by omega) (by omega),ah]
    try dsimp only
    have h59:IF n pts F (F.getD f ([],[])).1 ((F.getD f ([],[])).2.take ((r:Int)-1).toNat++(F.getD f ([],[])).2.drop ((r:Nat):Int).toNat) ((iK pts (fY l f r i).1).1+(iK pts (fY l f r i).2.1).1) ((iK pts (fY l f r i).1).2+(iK pts (fY l f r i).2.1).2) 2=some _ :=
     Ht (F:=F) (p:=zE pts (fY l f r i)) n hv.near ho (fun l hl=>(Sm.1 hl).elim (fun h=>hh l (Tx h)) (fun h=>hh l (Ty h))) (by rw[Sd,R8,SK]; omega) (vU hv.near hS) (by omega)
    rw[h59,ah,hP];cases vf pts (F.getD f ([],[])).1 ((F.getD f ([],[])).2.take ((r:Int)-1).toNat++(F.getD f ([],[])).2.drop ((r:Nat):Int).toNat) (zE pts (fY l f r i))<;>rfl
  by_cases c:uc pts F (d++acc (fun i=>[fY l f r i]) i) (fY l f r i)=true
  rw[R0 c] at hB;exact .inl ⟨(f:Int),(),by rw[bW,R0 c]; rfl,hB,rfl⟩
  rw[RZ c] at hB;exact .inr ⟨by rw[bW,RZ c,bW],hB⟩
 ·unfold qC
  try dsimp only
  rw[Vg]
def ES (hv:Fcs pts F) {f:Nat} (hf:f<F.length) {d:List Ed} (hn:99999<n) :
  (∃v t,bW (uc pts F) d (fE (aq F f) f)=some v/\bg (qH n (aq F f) (f:Int) F (F.getD f ([],[])).2 pts (F.getD f ([],[])).1) n 0=some (.inl t)/\v=(f:Int)) \/
  (bW (uc pts F) d (fE (aq F f) f)=none/\bg (qH n (aq F f) (f:Int) F (F.getD f ([],[])).2 pts (F.getD f ([],[])).1) n 0=some (.inr ())):=by
 obtain⟨h9,h40⟩:=fa hv f;refine kP (B:=qH n (aq F f) (f:Int) F (F.getD f ([],[])).2 pts (F.getD f ([],[])).1) (len:=(aq F f).length) (P:=uc pts F) (g:=fun r=>rE ((aq F f).getD r []) f r) (d:=d) (fun _ v=>v=(f:Int)) (fun i hi=>?_) ?_ (aq F f).length 0 n (by omega) (by omega) rfl
 ·have hx:(aq F f)[i]? = some ((aq F f).getD i []):=by rw[R7,RY hi]; rfl
  rcases E5 n hv hf hi (d:=d++acc (fun r=>rE ((aq F f).getD r []) f r) i) hn with⟨v,t,h1,h2,h3⟩|⟨h1,h2⟩
  ·refine .inl ⟨v,(),h1,?_,h3⟩;unfold qH
   try dsimp only
   rw[Vf,al hi,aJ,aR hx,ah,h2,ah]
  ·refine .inr ⟨h1,?_⟩;unfold qH
   try dsimp only
   rw[Vf,al hi,aJ,aR hx,ah,h2,ah,Vh]
 ·unfold qH
  try dsimp only
  rw[Vg]
def Dn (hv:Fcs pts F) (hn:99999<n) :
  (∃v t,bW (uc pts F) [] (sE F)=some v/\bg (lF n F pts) n 0=some (.inl t)/\v=t)\/(bW (uc pts F) [] (sE F)=none/\bg (lF n F pts) n 0=some (.inr ())):=by
 have hfl:=hv.flen;refine kP (B:=lF n F pts) (len:=F.length) (P:=uc pts F) (g:=fun f=>fE (aq F f) f) (d:=[]) (fun t v=>v=t) (fun i hi=>?_) ?_ F.length 0 n (by omega) (by omega) rfl
 ·rcases ES n hv hi (d:=[]++acc (fun f=>fE (aq F f) f) i) hn with⟨v,t,h1,h2,h3⟩|⟨h1,h2⟩
  ·refine .inl ⟨v,(i:Int),h1,?_,h3⟩;unfold lF
   try dsimp only
   rw[Vf,al hi,aJ,aR (fZ hi),ah]
   try dsimp only
   rw[mI n hv (by omega),ah,h2,ah]
  ·refine .inr ⟨h1,?_⟩;unfold lF
   try dsimp only
   rw[Vf,al hi,aJ,aR (fZ hi),ah]
   try dsimp only
   rw[mI n hv (by omega),ah,h2,ah,Vh]
 ·unfold lF
  try dsimp only
  rw[Vg]
end
def td {ρ:Type} {r:ρ ⊕ Unit} {q:Nat->Bool} {f:Nat->Option (ρ ⊕ Unit)} {len:Nat} (hf:∀i,i<len->f i=if q i then some r else none):bK f (.inr ()) len 0=if (List.range len).any q then r else .inr ():=by
 rcases cG (f:=f) (e:=.inr ()) len 0 with⟨h1,h2⟩|⟨j,_,h2,h3⟩
 rw[h2,RZ];intro h;obtain⟨i,hi,hq⟩:=TW.1 h;rw[TS] at hi;have:=h1 i (by omega) (by omega)
 rw[hf i hi,R0 hq] at this; cases this
 have hj:j<len:=by omega
 rw[hf j hj] at h3
 by_cases g:q j=true
 rw[R0 g] at h3;rw[R0 (TW.2 ⟨j,TS.2 hj,g⟩)];exact(R2 h3).symm
 rw[RZ g] at h3; cases h3
noncomputable def Hu (pts:List I2) (F:List Fc) (e:Ed) (i:Nat):Bool:=!decide ((i:Int)=e.2.2.1) && vf pts (F.getD i ([],[])).1 (F.getD i ([],[])).2 (zE pts e)
noncomputable def xz (pts:List I2) (F:List Fc) (_:List Ed) (e:Ed):Bool:=(List.range F.length).any (Hu pts F e)
section
variable {pts : List I2} {F : List Fc} (n : Nat)
def C5 (hv:Fcs pts F) {e:Ed} (hS:vC pts e) (hn:99999<n):bg (sD n F e.2.2.1 e.1 pts e.2.1) n 0=some (if (List.range F.length).any (Hu pts F e) then .inl () else .inr ()):=by
 have hfl:=hv.flen;rw[<-td (r:=(.inl ():Unit ⊕ Unit)) (q:=Hu pts F e) (f:=fun i=>if Hu pts F e i then some (.inl ()) else none) (len:=F.length) (fun i _=>rfl)]
 refine bj (len:=F.length) (fun i hi=>?_) ?_ F.length 0 n (by omega) (by omega)
 ·obtain⟨ho,h8,hh⟩:=BC hv hi;unfold sD
  try dsimp only
  rw[Vf,al hi,aJ,aR (fZ hi),ah]
  try dsimp only
  unfold Hu
  by_cases c:(i:Int)=e.2.2.1
  rw[R3 c];simp only[SC,fc,ah,Bool.false_and,Sq,if_false];rw[Vh]
  ·rw[R6 c];rw[Sz,fk,pE hS.1,aJ,hY hS.1,ah]
   try dsimp only
   rw[pE hS.2.1,aJ,hY hS.2.1,ah]
   try dsimp only
   have h1:=gp hv.near hS.1;have h2:=gp hv.near hS.2.1;unfold Nr at h1 h2;rw[aB (x:=(iK pts e.1).1+(iK pts e.2.1).1) (by omega) (by omega),aB (x:=(iK pts e.1).2+(iK pts e.2.1).2) (by omega) (by omega),ah]
   try dsimp only
   have h59:IF n pts F (F.getD i ([],[])).1 (F.getD i ([],[])).2 ((iK pts e.1).1+(iK pts e.2.1).1) ((iK pts e.1).2+(iK pts e.2.1).2) 2=some _:=Ht (F:=F) (p:=zE pts e) n hv.near ho hh h8 (vU hv.near hS) (by omega)
   rw[h59,ah,ah,Vh,Tv]
   cases vf pts (F.getD i ([],[])).1 (F.getD i ([],[])).2 (zE pts e)<;>rfl
 ·unfold sD
  try dsimp only
  rw[Vg]
def C9 (hv:Fcs pts F) {f r:Nat} (hf:f<F.length) (hr:r<(aq F f).length) {d:List Ed} (hn:99999<n) :
  (∃v t,bW (xz pts F) d (rE ((aq F f).getD r []) f r)=some v/\bg (mK n ((aq F f).getD r []) F (f:Int) pts) n 0=some (.inl t)/\v=(f:Int)) \/
  (bW (xz pts F) d (rE ((aq F f).getD r []) f r)=none/\bg (mK n ((aq F f).getD r []) F (f:Int) pts) n 0=some (.inr ())):=by
 have h40:=(fa hv f).2 r;have hs:=fun i=>tO (i:=i) hv hf hr;generalize (aq F f).getD r []=l at *;refine kP (B:=mK n l F (f:Int) pts) (len:=l.length) (P:=xz pts F) (g:=fun i=>[fY l f r i]) (d:=d) (fun _ v=>v=(f:Int)) (fun i hi=>?_) ?_ l.length 0 n (by omega) (by omega) rfl
 ·obtain⟨e1,e2⟩:=rA hi;have hi2:(i+1)%l.length<l.length:=SU _ (by omega)
  have hS:=hs i hi;have h11:=C5 n hv hS hn;have hB:mK n l F (f:Int) pts (i:Int)=if xz pts F (d++acc (fun i=>[fY l f r i]) i) (fY l f r i) then some (.inr (.inl ())) else some (.inl ((i+1:Nat):Int)):=by
   unfold mK
   try dsimp only
   rw[Vf]
   simp only[al hi,aJ,e1,ah,aj (show i<4611686018427387904 by omega)]
   rw[fT (by omega)]
   simp only[iT,al hi2,aJ,e2,ah];unfold xz;unfold fY at h11 ⊢
   dsimp only at h11
   rw[h11];cases(List.range F.length).any (Hu pts F (l.getD i 0,l.getD ((i+1)%l.length) 0,(f:Int),(r:Int)))<;>rfl
  by_cases c:xz pts F (d++acc (fun i=>[fY l f r i]) i) (fY l f r i)=true
  rw[R0 c] at hB;exact .inl ⟨(f:Int),(),by rw[bW,R0 c]; rfl,hB,rfl⟩
  rw[RZ c] at hB;exact .inr ⟨by rw[bW,RZ c,bW],hB⟩
 ·unfold mK
  try dsimp only
  rw[Vg]
def DU (hv:Fcs pts F) {f:Nat} (hf:f<F.length) {d:List Ed} (hn:99999<n) :
  (∃v t,bW (xz pts F) d (fE (aq F f) f)=some v/\bg (mC n (aq F f) F (f:Int) pts) n 0=some (.inl t)/\v=(f:Int)) \/
  (bW (xz pts F) d (fE (aq F f) f)=none/\bg (mC n (aq F f) F (f:Int) pts) n 0=some (.inr ())):=by
 obtain⟨h9,h40⟩:=fa hv f;refine kP (B:=mC n (aq F f) F (f:Int) pts) (len:=(aq F f).length) (P:=xz pts F) (g:=fun r=>rE ((aq F f).getD r []) f r) (d:=d) (fun _ v=>v=(f:Int)) (fun i hi=>?_) ?_ (aq F f).length 0 n (by omega) (by omega) rfl
 ·have hx:(aq F f)[i]? = some ((aq F f).getD i []):=by rw[R7,RY hi]; rfl
  rcases C9 n hv hf hi (d:=d++acc (fun r=>rE ((aq F f).getD r []) f r) i) hn with⟨v,t,h1,h2,h3⟩|⟨h1,h2⟩
  ·refine .inl ⟨v,(),h1,?_,h3⟩;unfold mC
   try dsimp only
   rw[Vf,al hi,aJ,aR hx,ah,h2,ah]
  ·refine .inr ⟨h1,?_⟩;unfold mC
   try dsimp only
   rw[Vf,al hi,aJ,aR hx,ah,h2,ah,Vh]
 ·unfold mC
  try dsimp only
  rw[Vg]
def Dt (hv:Fcs pts F) (hn:99999<n) :
  (∃v t,bW (xz pts F) [] (sE F)=some v/\bg (lN n F pts) n 0=some (.inl t)/\v=t)\/(bW (xz pts F) [] (sE F)=none/\bg (lN n F pts) n 0=some (.inr ())):=by
 have hfl:=hv.flen;refine kP (B:=lN n F pts) (len:=F.length) (P:=xz pts F) (g:=fun f=>fE (aq F f) f) (d:=[]) (fun t v=>v=t) (fun i hi=>?_) ?_ F.length 0 n (by omega) (by omega) rfl
 ·rcases DU n hv hi (d:=[]++acc (fun f=>fE (aq F f) f) i) hn with⟨v,t,h1,h2,h3⟩|⟨h1,h2⟩
  ·refine .inl ⟨v,(i:Int),h1,?_,h3⟩;unfold lN
   try dsimp only
   rw[Vf,al hi,aJ,aR (fZ hi),ah]
   try dsimp only
   rw[mI n hv (by omega),ah,h2,ah]
  ·refine .inr ⟨h1,?_⟩;unfold lN
   try dsimp only
   rw[Vf,al hi,aJ,aR (fZ hi),ah]
   try dsimp only
   rw[mI n hv (by omega),ah,h2,ah,Vh]
 ·unfold lN
  try dsimp only
  rw[Vg]
end
noncomputable def Gu (pts:List I2) (rs:Um) (r:Nat) (p:I2) (j:Nat):Bool:=if j=0 then !decide (side (eY pts (rs.getD j []) 2) p=2) else !decide ((j:Int)=(r:Int)) && !decide (side (eY pts (rs.getD j []) 2) p=0)
def Ke {pts:List I2} {o:List Int} {h:Um} {r:Nat} (_:r≠0) (p:I2):(List.range (o::h).length).any (Gu pts (o::h) r p) = !vf pts o (h.take ((r:Int)-1).toNat++h.drop ((r:Nat):Int).toNat) p:=by
 have e1:((r:Int)-1).toNat=r-1:=by omega
 have e2:((r:Nat):Int).toNat=r:=by omega
 rw[e1,e2];have key:(∀j,j<h.length+1->Gu pts (o::h) r p j=false)↔vf pts o (h.take (r-1)++h.drop r) p=true:=by
  unfold vf;rw[R4,decide_eq_true_iff,Sb];have at1:∀j,(hj:j<h.length)->(Gu pts (o::h) r p (j+1)=false↔j+1=r\/side (eY pts h[j] 2) p=0):=fun j hj=>by
   unfold Gu;rw[Uz,List.getD_cons_succ,R7,RY hj,Option.getD_some]
   by_cases c:j+1=r
   rw[R3 (show((j+1:Nat):Int)=(r:Int) by omega)]; simp[c]
   rw[R6 (show ¬((j+1:Nat):Int)=(r:Int) by omega)]; simp[c]
  constructor
  intro g;refine⟨?_,fun l hl=>R3 ?_⟩
  have:=g 0 (by omega)
  unfold Gu at this
  simpa using this
  rcases Sm.1 hl with hl|hl
  obtain⟨j,hj,e⟩:=SF.1 hl;rw[R8] at hj;rw[List.getElem_take] at e;have:=(at1 j (by omega)).1 (g (j+1) (by omega))
  rw[e] at this;rcases this with h|h
  omega
  exact h
  obtain⟨j,hj,e⟩:=SF.1 hl;rw[SK] at hj;rw[List.getElem_drop] at e;have:=(at1 (r+j) (by omega)).1 (g (r+j+1) (by omega))
  rw[e] at this;rcases this with h|h
  omega
  exact h
  ·rintro⟨g1,g2⟩ j hj;cases j with
   | zero=>unfold Gu; simp[g1]
   | succ j =>
    rw[at1 j (by omega)]
    by_cases c:j+1=r
    exact .inl c
    refine .inr (of_decide_eq_true (g2 _ ?_));rw[Sm]
    by_cases c2:j+1<r
    exact .inl (SF.2 ⟨j,by rw[R8]; omega,by rw[List.getElem_take]⟩)
    refine .inr (SF.2 ⟨j-r,by rw[SK]; omega,?_⟩)
    rw[List.getElem_drop];have:r+(j-r)=j:=by omega
    simp only[this]
 rw[SA];cases hI:vf pts o (h.take (r-1)++h.drop r) p
 rw[Sz,TW];refine R1 fun hc=>?_;have:vf pts o (h.take (r-1)++h.drop r) p=true:=key.1 fun j hj=>by
  cases hq:Gu pts (o::h) r p j
  rfl
  exact Sl ⟨j,TS.2 hj,hq⟩ hc
 rw[hI] at this; cases this
 rw[SC,List.any_eq_false];intro j hj;rw[key.2 hI j (TS.1 hj)];decide
section
variable {pts : List I2} {F : List Fc} (n : Nat)
def HZ (hb:dH pts) {rs:Um} (h4:rs.length<=9) (ho:∀l ∈ rs,nW pts.length l=true/\pj (eY pts l 1)) {E:List Ed} {i r:Nat} {x1 x2 x3 p0 p1:Int} (hi:i<E.length) (h1:yU n pts F x1 x2 x3 (r:Int)=some (p0,p1)) (hp:Nw (p0,p1)) (hn:99999<n) :
  bg (xQ n rs pts F (i:Int) E x1 x2 x3 (r:Int)) n 0=some (if (List.range rs.length).any (Gu pts rs r (p0,p1)) then .inl () else .inr ()):=by
 rw[<-td (r:=(.inl ():Unit ⊕ Unit)) (q:=Gu pts rs r (p0,p1)) (f:=fun j=>if Gu pts rs r (p0,p1) j then some (.inl ()) else none) (len:=rs.length) (fun j _=>rfl)]
 refine bj (len:=rs.length) (fun j hj=>?_) ?_ rs.length 0 n (by omega) (by omega)
 ·have hy:=RY hj;have eg:rs.getD j []=rs[j]:=by rw[R7,hy]; rfl
  unfold xQ Gu;rw[eg];generalize rs[j]=l at hy;obtain⟨h0,h2⟩:=ho l (Sa hy);obtain⟨gx,g0,g1⟩:=gF rfl h0;have h3:yr n (eY pts l 2) p0 p1=some (side (eY pts l 2) (p0,p1)):=yS (p:=(p0,p1)) n hb h0 h2 hp (by omega)
  try dsimp only
  rw[Vf]
  simp only[al hj,aJ,aR hy,ah];rw[w6 n hb gx (.inr rfl) (by omega) (by omega),ah]
  simp only[al hi,aJ];rw[h1,ah]
  try dsimp only
  rw[h3,ah,Vh]
  by_cases c:j=0
  subst c;rw[Vf,R0 rfl]
  by_cases s:side (eY pts l 2) (p0,p1)=2
  rw[R3 s,SC,fc,Vg,ah]; rfl
  rw[R6 s,Sz,fk,ah]; rfl
  rw[Vg,Vf,RZ c]
  cases decide ((j:Int)=(r:Int))<;>cases decide (side (eY pts l 2) (p0,p1)=0)<;>rfl
 ·unfold xQ
  try dsimp only
  rw[Vg]
def Rp (F:List Fc) (e:Ed):Prop:=∃f r k:Nat,f<F.length/\r<(aq F f).length/\k<((aq F f).getD r []).length/\e=fY ((aq F f).getD r []) f r k
def Lp {k:Nat} (hk:k<=F.length):∀x ∈ acc (fun f=>fE (aq F f) f) k,Rp F x:=fun x hx=>by
 obtain⟨f,hf,h⟩:=k7 hx;obtain⟨r,hr,h⟩:=k7 h;obtain⟨i,hi,h⟩:=k7 h;exact⟨f,r,i,by omega,hr,hi,by simpa using h⟩
def Er (hv:Fcs pts F) {f:Nat} (hf:f<F.length):∀l ∈ aq F f,nW pts.length l=true/\pj (eY pts l 1):=fun l hl=>by
 obtain⟨r,hr,e⟩:=SF.1 hl;have:=vQ hv hf hr;rw[R7,RY hr] at this;rw[<-e]; exact this
def FQ (hv:Fcs pts F) {E:List Ed} (hS:∀e ∈ E,Rp F e) (hE:E.length<50000) (hn:99999<n):bg (yI n E F pts) n 0=some (HU (bW (uc pts F) [] E)):=by
 have:=lQ (P:=uc pts F) (E:=E) (f:=fun i=>match E[i]? with|some e=>if uc pts F (E.take i) e then some (.inl e.2.2.1) else none|none=>none) (fun i e he=>by simp only[he]) E.length 0 (by omega)
 rw[List.take_zero,Tu] at this;rw[<-this];refine bj (len:=E.length) (fun i hi=>?_) ?_ E.length 0 n (by omega) (by omega)
 ·have hx:=RY hi;obtain⟨f,r,k,hf,hr,hk,he⟩:=hS _ (Sn hi);rw[he] at hx;have hT:=tO hv hf hr hk;have h0:=(fa hv f).1;have ho:=Er hv hf;generalize (aq F f).getD r []=l at *;have h1:=B4 (F:=F) n hv.near hT;have hnw:=vU hv.near hT;have hP:uc pts F (E.take i) (fY l f r k)=(!decide ((r:Int)=0) && !vf pts (F.getD f ([],[])).1 ((F.getD f ([],[])).2.take ((r:Int)-1).toNat++(F.getD f ([],[])).2.drop ((r:Nat):Int).toNat) (zE pts (fY l f r k))):=by
   unfold uc; rfl
  unfold yI
  try dsimp only
  rw[hx]
  try dsimp only
  rw[hP,show(fY l f r k).2.2.1=(f:Int) from rfl]
  have h121':yU n pts F (l.getD k 0) (l.getD ((k+1)%l.length) 0) (f:Int) (r:Int)=some (zE pts (fY l f r k)):=h1;generalize zE pts (fY l f r k)=p at *;obtain⟨p0,p1⟩:=p;unfold fY at hx;rw[Vf]
  simp only[al hi,aJ,aR hx,ah]
  by_cases r0:r=0
  ·subst r0;rw[Vf,ah]
   try dsimp only
   rw[Vh]; rfl
  rw[Vg,R6 (show ¬((r:Int)=0) by omega),Sz,Tv]
  simp only[al hf,aJ,aR (fZ hf),ah];rw[mz n _ _ (by unfold aq at h0; rw[SA] at h0; omega),ah,show((F.getD f ([],[])).1::(F.getD f ([],[])).2)=aq F f from rfl,HZ n hv.near h0 ho hi h121' hnw hn,ah]
  have:=Ke (pts:=pts) (o:=(F.getD f ([],[])).1) (h:=(F.getD f ([],[])).2) r0 (p0,p1);rw[show((F.getD f ([],[])).1::(F.getD f ([],[])).2)=aq F f from rfl] at this
  rw[this,Vh]
  cases vf pts (F.getD f ([],[])).1 ((F.getD f ([],[])).2.take ((r:Int)-1).toNat++(F.getD f ([],[])).2.drop ((r:Nat):Int).toNat) (p0,p1)<;>rfl
 ·unfold yI
  try dsimp only
  rw[Vg]
def HV (hv:Fcs pts F) {E:List Ed} (hS:∀e ∈ E,vC pts e) (hE:E.length<50000) (hn:99999<n):bg (zL n E F pts) n 0=some (HU (bW (xz pts F) [] E)):=by
 have hfl:=hv.flen;have:=lQ (P:=xz pts F) (E:=E) (f:=fun i=>match E[i]? with|some e=>if xz pts F (E.take i) e then some (.inl e.2.2.1) else none|none=>none) (fun i e he=>by simp only[he]) E.length 0 (by omega)
 rw[List.take_zero,Tu] at this;rw[<-this];refine bj (len:=E.length) (fun i hi=>?_) ?_ E.length 0 n (by omega) (by omega)
 ·have hx:=RY hi;have hT:=hS _ (Sn hi);generalize E[i]=e at *;have h0:=B4 (F:=F) n hv.near hT;have hnw:=vU hv.near hT;have hin:bg (y6 n F (i:Int) E pts) n 0=some (if (List.range F.length).any (Hu pts F e) then .inl e.2.2.1 else .inr ()):=by
   rw[<-td (r:=(.inl e.2.2.1:Int ⊕ Unit)) (q:=Hu pts F e) (f:=fun i=>if Hu pts F e i then some (.inl e.2.2.1) else none) (len:=F.length) (fun i _=>rfl)]
   refine bj (len:=F.length) (fun j hj=>?_) ?_ F.length 0 n (by omega) (by omega)
   ·have h1:=Kc n hv hj hnw (by omega)
    unfold y6 Hu
    try dsimp only
    generalize zE pts e=p at *;obtain⟨p0,p1⟩:=p;obtain⟨x1,x2,x3,x4⟩:=e
    dsimp only at h1 h0 ⊢
    rw[Vf]
    simp only[al hi,aJ,aR hx,ah]
    by_cases c:(j:Int)=x3
    rw[R3 c];simp only[SC,fc,ah,Bool.false_and,Sq,if_false];rw[Vh]
    ·rw[R6 c,Sz,fk,h0,ah]
     try dsimp only
     rw[h1,ah,ah,Vh,Tv]
     cases vf pts (F.getD j ([],[])).1 (F.getD j ([],[])).2 (p0,p1)<;>rfl
   ·unfold y6
    try dsimp only
    rw[Vg]
  unfold zL
  try dsimp only
  rw[Vf,hin,ah,Vh,hx]
  try dsimp only
  unfold xz;cases(List.range F.length).any (Hu pts F e)<;>rfl
 ·unfold zL
  try dsimp only
  rw[Vg]
noncomputable def Ni (pts:List I2) (F:List Fc):Int × Int:=match bW ur [] (sE F) with
 | some v=>(7,v)
 | none=>match bW (ub pts) [] (sE F) with
  | some v=>(8,v)
  | none=>match bW (uc pts F) [] (sE F) with
   | some v=>(9,v)
   | none=>match bW (xz pts F) [] (sE F) with
    | some v=>(10,v)
    | none=>(0,0)
def w9 (hv:Fcs pts F):(sE F).length<50000:=by
 have hfl:=hv.flen;have ha:=fG (g:=fun f=>fE (aq F f) f) (b:=360) (k:=F.length) fun j _=>by
  have h1:=fG (g:=fun r=>rE ((aq F j).getD r []) j r) (b:=40) (k:=(aq F j).length) fun r _=>Sv tx ((fa hv j).2 r);have h2:=(fa hv j).1;unfold fE; omega
 unfold sE; omega
def NC (hv:Fcs pts F) (hn:99999<n):Oq n pts F=some (Ni pts F):=by
 have h1:=GZ n (w9 hv) hn;have h2:=HE (F:=F) n hv.near (Av hv (R5 _)) (w9 hv) hn;have h3:=FQ n hv (Lp (R5 _)) (w9 hv) hn;have h4:=HV n hv (Av hv (R5 _)) (w9 hv) hn;unfold sE at h2 h3 h4;unfold Oq Ni;rw[IW n hv (by omega),ah,h1,ah]
 cases bW ur [] (sE F) with
 | some v=>rfl
 | none =>
 show ob _ _=_
 unfold sE;rw[h2,ah];cases bW (ub pts) [] _ with
 | some v=>rfl
 | none =>
 show ob _ _=_
 rw[h3,ah];cases bW (uc pts F) [] _ with
 | some v=>rfl
 | none =>
 show ob _ _=_
 rw[h4,ah];cases bW (xz pts F) [] _ with
 | some v=>rfl
 | none=>rfl
def Nl (hv:Fcs pts F) (hn:99999<n):OC n pts F=some (Ni pts F):=by
 unfold OC Ni;rw[ah];rcases Im n hv (by omega) with⟨v,t,a1,a2,a3⟩|⟨a1,s,a2,a3⟩
 rw[a2,a1,a3]; rfl
 rw[a2,a1,ah];simp only[ah];rcases FW n hv hn with⟨v,t,b1,b2,b3⟩|⟨b1,s,b2,b3⟩
 rw[b2,b1,b3]; rfl
 rw[b2,b1,ah];simp only[ah];rcases Dn n hv hn with⟨v,t,c1,c2,c3⟩|⟨c1,c2⟩
 rw[c2,c1,c3]; rfl
 rw[c2,c1,ah];simp only[ah];rcases Dt n hv hn with⟨v,t,d1,d2,d3⟩|⟨d1,d2⟩
 rw[d2,d1,d3]; rfl
 rw[d2,d1]; rfl
end
def np {α:Type} [DecidableEq α] {B:Int->Option (Int ⊕ (Unit ⊕ Unit))} {l l':List α} {n:Nat} (h:l.length=l'.length)
  (hB:∀(i:Nat) (hi:i<l.length) (hi':i<l'.length),B (i:Int)=some (if l[i]=l'[i] then .inl ((i+1:Nat):Int) else .inr (.inl ())))
  (hE:B (l.length:Int)=some (.inr (.inr ()))) (hn:l.length<n):bg B n 0=some (if l=l' then .inr () else .inl ()):=by
 have h1:bg B n 0=some (bK (fun i=>if l[i]? = l'[i]? then none else some (.inl ())) (.inr ()) l.length 0):=by
  refine bj (len:=l.length) (fun i hi=>?_) hE l.length 0 n (by omega) hn
  rw[hB i hi (by omega),RY hi,RY (show i<l'.length by omega)]
  by_cases c:l[i]=l'[i]
  rw[R0 c,R0 (by rw[c])]
  rw[RZ c,RZ (fun e=>c (R2 e))]
 rw[h1];rcases cG (f:=fun i=>if l[i]? = l'[i]? then none else some (.inl ())) (e:=(.inr ():Unit ⊕ Unit)) l.length 0 with⟨g1,g2⟩|⟨j,_,g2,g3⟩
 rw[g2,R0];refine List.ext_getElem h fun i hi hi'=>?_;have:=g1 i (by omega) (by omega)
 rw[RY hi,RY hi'] at this;refine R1 fun c=>?_;rw[RZ (fun e=>c (R2 e))] at this;cases this
 by_cases c:l[j]? = l'[j]?
 rw[R0 c] at g3; cases g3
 rw[RZ c] at g3;rw[<-R2 g3,RZ (fun e=>c (by rw[e]))]
section
variable (n : Nat)
def Ig {p q:List I2} (hl:p.length<=1000) (hn:1000<n):PV n p q=some (decide (p=q)):=by
 unfold PV
 by_cases h:p.length=q.length
 ·rw[R3 (show(p.length:Int)=(q.length:Int) by omega),SC,fc,np (l:=p) (l':=q) h (fun i hi hi'=>?hB) ?hE (by omega),ah]
  by_cases e:p=q
  rw[R0 e,R3 e]
  rw[RZ e,R6 e]
  case hB =>
   have e1:=RY hi;have e2:=RY hi';generalize p[i]=x at *;generalize q[i]=y at *;obtain⟨x1,x2⟩:=x;obtain⟨y1,y2⟩:=y;unfold CE;rw[Vf,al hi,aJ,aR e1,ah]
   try dsimp only
   rw[al hi',aJ,aR e2,ah]
   try dsimp only
   rw[Vh]
   by_cases c:x1=y1/\x2=y2
   obtain⟨rfl,rfl⟩:=c;simp[br]
   have:(decide (x1=y1) && decide (x2=y2))=false:=by rw[<-SB,R6 c]
   rw[this,RZ (fun e=>c ⟨SD Prod.fst e,SD Prod.snd e⟩)]
   rfl
  case hE =>
   unfold CE;rw[Vg]
 rw[R6 (show ¬(p.length:Int)=(q.length:Int) by omega),Sz,fk,R6 (fun e=>h (by rw[e]))]
def Jy {p q:List I2} (hl:p.length<=1000) (hn:1000<n):Qf n p q=some (decide (p=q)):=Ig n hl hn
def Hy {p q:List Int} (hl:p.length<=1000) (hn:1000<n):OS n p q=some (decide (p=q)):=by
 unfold OS
 by_cases h:p.length=q.length
 ·rw[R3 (show(p.length:Int)=(q.length:Int) by omega),SC,fc,np (l:=p) (l':=q) h (fun i hi hi'=>?hB) ?hE (by omega),ah]
  by_cases e:p=q
  rw[R0 e,R3 e]
  rw[RZ e,R6 e]
  case hB =>
   have e1:=RY hi;have e2:=RY hi';generalize p[i]=x at *;generalize q[i]=y at *;unfold Ch;rw[Vf,al hi,aJ,aR e1,ah,al hi',aJ,aR e2,ah,Vh]
   by_cases c:x=y
   rw[R0 c,R3 c]; rfl
   rw[RZ c,R6 c]; rfl
  case hE =>
   unfold Ch;rw[Vg]
 rw[R6 (show ¬(p.length:Int)=(q.length:Int) by omega),Sz,fk,R6 (fun e=>h (by rw[e]))]
def Mc {p q:List Int} (hl:p.length<=1000) (hn:1000<n):Qc n p q=some (decide (p=q)):=Hy n hl hn
def KM (f:Fc):Prop:=f.1.length<=1000/\f.2.length<=1000/\∀h ∈ f.2,h.length<=1000
def Aa (c:List I2 × List Fc):Prop:=c.1.length<=1000/\c.2.length<=1000/\∀f ∈ c.2,KM f
def Fj {f:Fc} (h:KM f) {i:Nat} (hi:i<(f.1::f.2).length):(f.1::f.2)[i].length<=1000:=by
 rcases Sp.1 (Sn hi) with e|e
 rw[e]; exact h.1
 exact h.2.2 _ e
def Nc {f g:Fc} (hf:KM f) (hg:KM g) (hn:10000<n):Po n f.1 f.2 g.1 g.2=some (decide (f=g)):=by
 unfold Po;rw[pZ n _ _ hf.2.1 (by omega),ah,pZ n _ _ hg.2.1 (by omega),ah]
 have h1:=hf.2.1;have hfe:f=g↔f.1::f.2=g.1::g.2:=⟨fun e=>by rw[e],fun e=>SO (List.cons.inj e).1 (List.cons.inj e).2⟩
 by_cases h:(f.1::f.2).length=(g.1::g.2).length
 ·rw[R3 (show((f.1::f.2).length:Int)=((g.1::g.2).length:Int) by omega),SC,fc,np (l:=f.1::f.2) (l':=g.1::g.2) h (fun i hi hi'=>?hB) ?hE (by rw[SA]; omega),ah]
  by_cases e:f=g
  rw[R0 (hfe.1 e),R3 e]; rfl
  rw[RZ (fun c=>e (hfe.2 c)),R6 e]; rfl
  case hB =>
   have e1:=RY hi;have e2:=RY hi';have b1:=Fj hf hi;have hi3:i<2000:=by rw[SA] at hi; omega
   generalize (f.1::f.2)[i]=x at *;generalize (g.1::g.2)[i]=y at *;unfold Cs;rw[Vf,al hi,aJ,aR e1,ah,al hi',aJ,aR e2,ah,Hy n b1 (by omega),ah,Vh]
   by_cases c:x=y
   rw[R0 c,R3 c]; rfl
   rw[RZ c,R6 c]; rfl
  case hE =>
   unfold Cs;rw[Vg]
 rw[R6 (show ¬((f.1::f.2).length:Int)=((g.1::g.2).length:Int) by omega),Sz,fk,R6 (fun e=>h (by rw[e])),ah]
def Ms {c d:List I2 × List Fc} (hc:Aa c) (hd:Aa d) (hn:10000<n):OB n c.1 c.2 d.1 d.2=some (decide (c=d)):=by
 unfold OB;rw[Ig n hc.1 (by omega),ah]
 have hce:c=d↔c.1=d.1/\c.2=d.2:=⟨fun e=>by rw[e]; exact⟨rfl,rfl⟩,fun e=>SO e.1 e.2⟩
 have h2:=hc.2.1
 by_cases p:c.1=d.1
 ·rw[au p]
  by_cases h:c.2.length=d.2.length
  ·rw[R3 (show(c.2.length:Int)=(d.2.length:Int) by omega),SC,fc,np (l:=c.2) (l':=d.2) h (fun i hi hi'=>?hB) ?hE (by omega),ah]
   by_cases e:c.2=d.2
   rw[R0 e,R3 (hce.2 ⟨p,e⟩)]; rfl
   rw[RZ e,R6 (fun e'=>e (hce.1 e').2)]; rfl
   case hB =>
    have e1:=RY hi;have e2:=RY hi';have b1:=hc.2.2 _ (Sn hi);have b2:=hd.2.2 _ (Sn hi');generalize c.2[i]=x at *;generalize d.2[i]=y at *;obtain⟨x1,x2⟩:=x;obtain⟨y1,y2⟩:=y;have h90:=Nc n b1 b2 hn;unfold Bq;rw[Vf,al hi,aJ,aR e1,ah]
    try dsimp only at h90 ⊢
    rw[al hi',aJ,aR e2,ah]
    try dsimp only
    rw[h90,ah,Vh]
    by_cases c:(x1,x2)=(y1,y2)
    rw[R0 c,R3 c]; rfl
    rw[RZ c,R6 c]; rfl
   case hE =>
    unfold Bq;rw[Vg]
  rw[R6 (show ¬(c.2.length:Int)=(d.2.length:Int) by omega),Sz,fk,R6 (fun e=>h (by rw[e])),ah]
 rw[av p,R6 (fun e=>p (hce.1 e).1)]
def MZ {c d:List I2 × List Fc} (hc:Aa c) (hd:Aa d) (hn:10000<n):O2 n c.1 c.2 d.1 d.2=some (decide (c=d)):=by
 unfold O2;rw[Jy n hc.1 (by omega),ah]
 have hce:c=d↔c.1=d.1/\c.2=d.2:=⟨fun e=>by rw[e]; exact⟨rfl,rfl⟩,fun e=>SO e.1 e.2⟩
 have h2:=hc.2.1
 by_cases p:c.1=d.1
 ·rw[R3 p,SC,fc,ah]
  by_cases h:c.2.length=d.2.length
  ·rw[R3 (show(c.2.length:Int)=(d.2.length:Int) by omega),SC,fc,np (l:=c.2) (l':=d.2) h (fun i hi hi'=>?hB) ?hE (by omega),ah]
   by_cases e:c.2=d.2
   rw[R0 e,R3 (hce.2 ⟨p,e⟩)]
   rw[RZ e,R6 (fun e'=>e (hce.1 e').2)]
   case hB =>
    have e1:=RY hi;have e2:=RY hi';have b1:=hc.2.2 _ (Sn hi);have b2:=hd.2.2 _ (Sn hi');generalize c.2[i]=f at *;generalize d.2[i]=g at *;have hfe:f=g↔f.1::f.2=g.1::g.2:=⟨fun e=>by rw[e],fun e=>SO (List.cons.inj e).1 (List.cons.inj e).2⟩
    obtain⟨x1,x2⟩:=f;obtain⟨y1,y2⟩:=g;have h3:=b1.2.1;have h4:=b2.2.1;unfold Cq;rw[Vf,al hi,aJ,aR e1,ah]
    try dsimp only at hfe h3 h4 ⊢
    rw[mz n _ _ h3,ah,al hi',aJ,aR e2,ah]
    try dsimp only
    rw[mz n _ _ h4,ah,Vh]
    by_cases g:(x1::x2).length=(y1::y2).length
    ·rw[R3 (show((x1::x2).length:Int)=((y1::y2).length:Int) by omega),SC,fc,np (l:=x1::x2) (l':=y1::y2) g (fun j hj hj'=>?iB) ?iE (by rw[SA]; omega),ah]
     by_cases e:(x1,x2)=(y1,y2)
     rw[R0 (hfe.1 e),R0 e]
     rw[RZ (fun c=>e (hfe.2 c)),RZ e]
     case iB =>
      have e1:=RY hj;have e2:=RY hj';have b3:(x1::x2)[j].length<=1000:=Fj (f:=(x1,x2)) b1 hj;have hj3:j<2000:=by rw[SA] at hj; omega
      generalize (x1::x2)[j]=x at *;generalize (y1::y2)[j]=y at *;unfold BP;rw[Vf,al hj,aJ,aR e1,ah,al hj',aJ,aR e2,ah,Mc n b3 (by omega),ah,Vh]
      by_cases c:x=y
      rw[R0 c,R3 c]; rfl
      rw[RZ c,R6 c]; rfl
     case iE =>
      unfold BP;rw[Vg]
    rw[R6 (show ¬((x1::x2).length:Int)=((y1::y2).length:Int) by omega),Sz,fk,RZ (fun e=>g (by rw[hfe.1 e]))]
   case hE =>
    unfold Cq;rw[Vg]
  rw[R6 (show ¬(c.2.length:Int)=(d.2.length:Int) by omega),Sz,fk,R6 (fun e=>h (by rw[e]))]
 rw[R6 p,Sz,fk,ah,fk,R6 (fun e=>p (hce.1 e).1)]
end
def iQ {α:Type} (l:List α) (k:Nat):(Ve l k)=l.take k:=by
 show l.take ((mi (l.length:Int) (k:Int)).toNat-0)=_
 rw[gB,TB];rcases Nat.le_total l.length k with g|g
 rw[Tt (by omega),Tt g]
 rw[show(min (l.length:Int) (k:Int)).toNat=k by omega]
def mW {α:Type} (l:List α) (k:Nat):okB 0 (mi (l.length:Int) (k:Int)) l.length=true:=R3 (by rw[gB]; omega)
section
variable {α β : Type}
def Rm (l:List α):(Ve l 4)=l.take 4:=iQ l 4
def Qb (l:List α):(Ve l 8)=l.take 8:=iQ l 8
def PH (l:List α):(Ve l 10)=l.take 10:=iQ l 10
def Pv (l:List α):(Ve l 42)=l.take 42:=iQ l 42
def Pn (l:List α):(Ve l 66)=l.take 66:=iQ l 66
def P1 (l:List α):(Ve l 125)=l.take 125:=iQ l 125
def Rr (l:List α):okB 0 (mi (l.length:Int) (4:Int)) l.length=true:=mW l 4
def Rg (l:List α):okB 0 (mi (l.length:Int) (8:Int)) l.length=true:=mW l 8
def Q6 (l:List α):okB 0 (mi (l.length:Int) (10:Int)) l.length=true:=mW l 10
def Pt (l:List α):okB 0 (mi (l.length:Int) (42:Int)) l.length=true:=mW l 42
def QV (l:List α):okB 0 (mi (l.length:Int) (66:Int)) l.length=true:=mW l 66
def PZ (l:List α):okB 0 (mi (l.length:Int) (125:Int)) l.length=true:=mW l 125
def uK {o:Option α} {K:α->Option β} {R:β->Prop} (Q:α->Prop) (h:∃q,o=some q/\Q q) (hK:∀q,Q q->∃c,K q=some c/\R c):∃c,ob o K=some c/\R c:=by
 obtain⟨q,rfl,h2⟩:=h;exact hK q h2
def fC {c:Bool} {A B:Option α} {Q:α->Prop} (h1:c=true->∃q,A=some q/\Q q) (h2:c=false->∃q,B=some q/\Q q):∃q,br c A B=some q/\Q q:=by
 cases c
 exact h2 rfl
 exact h1 rfl
def hJ {c:Bool} {A:Option α} {Q:α->Prop} (hc:c=true) (h:∃q,A=some q/\Q q):∃q,gd c A=some q/\Q q:=by
 subst hc; exact h
def qO {l:List α} {i:Nat} (hi:i<l.length) {K:α->Option β} {R:β->Prop} (h:∀x ∈ l,l[((i:Nat):Int).toNat]? = some x->∃c,K x=some c/\R c):∃c,ob (l[((i:Nat):Int).toNat]?) K=some c/\R c:=by
 have e:=aR (RY hi);rw[e,ah];exact h _ (Sn hi) e
end
def KU (f:Fc):Fc:=(f.1.take 42,(f.2.take 10).map fun h=>h.take 42)
def P6 (c:List I2 × List Fc):Prop:=c.1.length<=125/\c.2.length<=66/\∀f ∈ c.2,f.1.length<=42/\f.2.length<=10/\∀h ∈ f.2,h.length<=42
def NT (c:List I2 × List Fc):List I2 × List Fc:=(c.1.take 125,(c.2.take 66).map KU)
def EL (f:Fc):(KU f).1.length<=42/\(KU f).2.length<=10/\∀h ∈ (KU f).2,h.length<=42:=by
 unfold KU;refine⟨by rw[R8]; omega,by rw[Sj,R8]; omega,fun h hh=>?_⟩
 obtain⟨x,_,rfl⟩:=Te.1 hh;rw[R8]; omega
def M6 (c:List I2 × List Fc):P6 (NT c):=by
 unfold NT;refine⟨by rw[R8]; omega,by rw[Sj,R8]; omega,fun f hf=>?_⟩
 obtain⟨x,_,rfl⟩:=Te.1 hf;exact EL x
def tD (n:Nat) {l:List Int} (h:l.length<=1000):zV n l=some l:=by
 unfold zV; rw[bt (by omega)]; rfl
def Fz (n:Nat) (h:Um) (hn:1000<n):bg (uN n h) n ([],0)=some ((h.take 10).map fun x=>x.take 42):=by
 refine ql (B:=uN n h) (l:=h.take 10) (fun x=>x.take 42) id (fun i x hx hi=>?_) ?_ (by rw[R8]; omega)
 have h10:(h.take 10).length<=10:=by rw[R8]; omega
 unfold uN;simp only[PH,Pv,Pt];rw[Vf,al hi,aJ,aR hx,ah,aJ,tD n (by rw[R8]; omega),ah,bt (by simp; omega),aJ,Vh]
 unfold uN;simp only[PH];rw[Vg]; rfl
def Gw (n:Nat) (p:List I2) (F:List Fc) (hn:1000<n):NO n p F=some (NT (p,F)):=by
 unfold NO NT;simp only[P1,PZ,QV,aJ];rw[show KB n (p.take 125)=some (p.take 125) by unfold KB; rw[bt (by rw[R8]; omega)]; rfl,ah]
 have:bg (uX n F) n ([],0)=some ((F.take 66).map KU):=by
  refine ql (B:=uX n F) (l:=F.take 66) KU id (fun i x hx hi=>?_) ?_ (by rw[R8]; omega)
  ·have h66:(F.take 66).length<=66:=by rw[R8]; omega
   obtain⟨o,h⟩:=x;unfold uX;simp only[Pn,Pv,Pt,Q6];rw[Vf,al hi,aJ,aR hx,ah]
   try dsimp only
   rw[aJ,tD n (by rw[R8]; omega),ah,aJ,Fz n h hn,ah,bt (by simp; omega),aJ,Vh]
   rfl
  unfold uX;simp only[Pn];rw[Vg]; rfl
 rw[this]; rfl
def HL {B:List Int × Int × Int->Option ((List Int × Int × Int) ⊕ List Int)} {N:Nat} (hN:N<=1000)
  (hB:∀(l:List Int) (a b:Nat),l.length=N->b<N->a<b->∃l',B (l,(a:Int),(b:Int))=some (.inl (l',((a+1:Nat):Int),((b-1:Nat):Int)))/\l'.length=N)
  (hE:∀(l:List Int) (a b:Int),¬a<b->B (l,a,b)=some (.inr l)) :
  ∀(k n:Nat) (l:List Int) (a b:Nat),l.length=N->b<N->b<=a+k->k<n->∃r,bg B n (l,(a:Int),(b:Int))=some r/\r.length=N
 | 0,n+1,l,a,b,hl,_,hk,_=>⟨l,fg (hE l _ _ (by omega)),hl⟩
 | k+1,n+1,l,a,b,hl,hb,hk,hn=>by
  by_cases c:a<b
  obtain⟨l',h1,h2⟩:=hB l a b hl hb c;rw[fF h1];exact HL hN hB hE k n l' (a+1) (b-1) h2 (by omega) (by omega) (by omega)
  exact⟨l,fg (hE l _ _ (by omega)),hl⟩
def zr (n:Nat) {l:List Int} (hl:l.length<=1000) (hn:2000<n):∃r,bg (rM n l) n (l,0,Ux ((l.length:Int)-1))=some r/\r.length=l.length:=by
 by_cases h0:l.length=0
 ·refine⟨l,?_,rfl⟩;obtain⟨n,rfl⟩:∃k,n=k+1:=⟨n-1,by omega⟩
  refine fg ?_;rw[aB (by omega) (by omega)]
  unfold rM
  try dsimp only
  rw[Vg]
 rw[aB (by omega) (by omega),show((l.length:Int)-1)=((l.length-1:Nat):Int) by omega]
 refine HL (B:=rM n l) (N:=l.length) hl (fun l' a b hl' hb hab=>?_) (fun l' a b hab=>?_) (l.length-1) n l 0 (l.length-1) rfl (by omega) (by omega) (by omega)
 ·have e1:l'[((b:Nat):Int).toNat]? = some (l'.getD b 0):=by rw[Ss,R7,RY (by omega)]; rfl
  have e2:l'[((a:Nat):Int).toNat]? = some (l'.getD a 0):=by rw[Ss,R7,RY (by omega)]; rfl
  have hs:∀x,(l'.set ((a:Nat):Int).toNat x)[((b:Nat):Int).toNat]? = some (l'.getD b 0):=fun x=>by
   rw[Ss,List.getElem?_set_ne (by rw[Ss]; omega),<-e1,Ss]
  refine⟨(l'.set ((a:Nat):Int).toNat (l'.getD b 0)).set ((b:Nat):Int).toNat (l'.getD a 0),?_,?_⟩
  ·unfold rM
   try dsimp only
   rw[Vf,al hb,aJ,e1,ah,al (show a<l.length by omega),aJ,e2,ah,aJ,aJ,hs,ah,Vh,aB (x:=(b:Int)-1) (by omega) (by omega),show((b:Int)-1)=((b-1:Nat):Int) by omega]
  rw[T4,T4]; exact hl'
 ·unfold rM
  try dsimp only
  rw[av hab]
def G8 (n:Nat) {l:List Int} (hl:l.length<=1000) (hn:2000<n):∃r,bg (HJ n l) n (l,0,Ux ((l.length:Int)-1))=some r/\r.length=l.length:=zr n hl hn
def yv (n:Nat) (x3:Nat) {l:List Int} (hl:l.length<=1000) (hn:2000<n):∀(k m:Nat) (s:Um),10<=s.length+k->k<m->s.length<=20->(∀h ∈ s,h.length<=1000)->∃r,bg (sv n x3 l) m s=some r/\r.length<=20/\∀h ∈ r,h.length<=1000
 | 0,m+1,s,hs,_,h20,hh=>by
  have hw:Ux ((x3%2:Nat):Int)=((x3%2:Nat):Int):=aB (by omega) (by omega)
  refine⟨s,fg ?_,h20,hh⟩;unfold sv;rw[hw,aB (by omega) (by omega),Vg]
 | k+1,m+1,s,hs,hm,h20,hh=>by
  have hw:Ux ((x3%2:Nat):Int)=((x3%2:Nat):Int):=aB (by omega) (by omega)
  by_cases c:(s.length:Int)<8+((x3%2:Nat):Int)
  have hB:sv n x3 l s=some (.inl (s++[l])):=by
   unfold sv;rw[hw,aB (by omega) (by omega),au c,tD n hl,ah,bt (by simp; omega),aJ]
  rw[fF hB];exact yv n x3 hl hn k m (s++[l]) (by simp; omega) (by omega) (by simp; omega) (fun h hh'=>by
   rcases Sm.1 hh' with g|g
   exact hh h g
   rw[Sh.1 g]; exact hl)
  refine⟨s,fg ?_,h20,hh⟩;unfold sv;rw[hw,aB (by omega) (by omega),av c]
def ml {P:List I2} {G:List Fc} (hc:P6 (P,G)) {y:Fc} (hy:KM y) (j:Nat):Aa (P,G.set j y):=by
 refine⟨Sv hc.1 (by decide),?_,fun f hf=>?_⟩
 show(G.set j y).length<=1000
 rw[T4]; exact Sv hc.2.1 (by decide)
 rcases List.mem_or_eq_of_mem_set hf with h|h
 have:=hc.2.2 f h;exact⟨by omega,by omega,fun h hh=>by have:=this.2.2 h hh; omega⟩
 rw[h]; exact hy
def jJ {P:List I2} {G:List Fc} (hc:P6 (P,G)) {a:List Int} {b:Um} (ha:a.length<=1000) (hb:b.length<=1000) (hx:∀x ∈ b,x.length<=1000) (j:Nat):Aa (P,G.set j (a,b)):=ml hc (y:=(a,b)) ⟨ha,hb,hx⟩ j
def wB {c:List I2 × List Fc} (h:P6 c):Aa c:=⟨by have:=h.1; omega,by have:=h.2.1; omega,fun f hf=>by
 have:=h.2.2 f hf;exact⟨by omega,by omega,fun x hx=>by have:=this.2.2 x hx; omega⟩⟩
def Hb (n:Nat) (x1 x2 x3:Nat) (x4 x5 x6:Int) (p:List I2) (F:List Fc) (h2:x2<256) (h3:x3<256) (hn:10000<n):∃c,C3 n x1 x2 x3 x4 x5 x6 p F=some c/\Aa c:=by
 unfold C3;rw[Gw n p F (by omega),ah]
 have hb:=M6 (p,F);generalize NT (p,F)=c at *;obtain⟨P,G⟩:=c
 try dsimp only
 have hP:P.length<=125:=hb.1;have hG:G.length<=66:=hb.2.1;have w2:Ux ((x2:Nat):Int)=(x2:Int):=aB (by omega) (by omega)
 have w3:Ux ((x3:Nat):Int)=(x3:Int):=aB (by omega) (by omega)
 by_cases e1:(P.length:Int)=0
 rw[au e1,ah,fk]; exact⟨_,rfl,wB hb⟩
 rw[av e1,ah]
 by_cases e2:(G.length:Int)=0
 rw[au e2]; exact⟨_,rfl,wB hb⟩
 rw[av e2,fT e1,fT e2];simp only[w2,w3,iT];have hj:x2%G.length<G.length:=SU _ (by omega)
 have hi:x2%P.length<P.length:=SU _ (by omega)
 have hi3:x3%P.length<P.length:=SU _ (by omega)
 have hj3:x3%G.length<G.length:=SU _ (by omega)
 rw[al hj,aJ];refine qO hj fun y hy _=>?_;obtain⟨o,h⟩:=y;have hy':=hb.2.2 _ hy;have ho:o.length<=42:=hy'.1;have hh:h.length<=10:=hy'.2.1;have hhh:∀x ∈ h,x.length<=42:=hy'.2.2;have hyF:KM (o,h):=⟨by show o.length<=1000; omega,by show h.length<=1000; omega,fun x hx=>by have:=hhh x hx; omega⟩
 try dsimp only
 refine uK (fun q=>Aa (q.1,q.2.2.2)) ?_ (fun q hq=>?_)
 rotate_left
 obtain⟨a,b,c,d⟩:=q; exact⟨(a,d),rfl,hq⟩
 refine fC (fun _=>?_) (fun _=>?_)
 
 rw[al hi,aJ];refine qO hi fun y _ _=>?_;obtain⟨y1,y2⟩:=y;refine⟨_,rfl,?_⟩;have:=ml hb hyF (x2%G.length);exact⟨by show(List.set ..).length<=_; rw[T4]; omega,this.2⟩
 refine fC (fun _=>?_) (fun _=>?_)
 ·rw[fT e1,al hi3,aJ];refine qO hi3 fun y _ _=>?_;obtain⟨y1,y2⟩:=y
  try dsimp only
  rw[al hi,aJ];refine qO hi fun z _ _=>?_;obtain⟨z1,z2⟩:=z;refine⟨_,rfl,?_⟩;have:=ml hb hyF (x2%G.length);exact⟨by show(List.set ..).length<=_; rw[T4]; omega,this.2⟩
 refine fC (fun _=>?_) (fun _=>?_)
 refine hJ (bt (by simp; omega)) ⟨_,rfl,?_⟩
 have:=ml hb hyF (x2%G.length);exact⟨by show List.length (_++_)<=_; simp; omega,this.2⟩
 refine fC (fun _=>?_) (fun _=>?_)
 refine hJ (R3 ⟨by omega,by omega,by omega⟩) (hJ (R3 (by omega)) ⟨_,rfl,?_⟩)
 have:=ml hb hyF (x2%G.length);exact⟨by show(List.take ..).length<=_; rw[R8]; omega,this.2⟩
 refine fC (fun _=>?_) (fun _=>?_)
 ·rw[Gw n P G (by omega),ah]
  unfold NT
  try dsimp only
  have hl:((G.take 66).map KU).length=G.length:=by rw[Sj,R8]; omega
  rw[fT e2,al (by omega),aJ]
  refine qO (by omega) fun z hz _=>?_
  obtain⟨z1,z2⟩:=z;refine hJ (bt (by simp; omega)) ⟨_,rfl,?_⟩
  have h0:=wB hb;refine⟨h0.1,by show List.length (_++_)<=_; simp; omega,fun f hf=>?_⟩
  rcases Sm.1 hf with g|g
  exact h0.2.2 f g
  rw[Sh.1 g];obtain⟨w,_,hw⟩:=Te.1 hz;have:=EL w;rw[hw] at this;exact⟨by show z1.length<=1000; have:=this.1; dsimp only at this; omega,by show z2.length<=1000; have:=this.2.1; dsimp only at this; omega,fun x hx=>by have:=this.2.2 x hx; omega⟩
 refine fC (fun _=>?_) (fun _=>?_)
 rw[fT e2,fT e2,ah,Vh]
 refine uK (fun q=>q.length<=66/\∀f ∈ q,f ∈ G) ?_ (fun q hq=>⟨_,rfl,?_⟩)
 unfold Q2;refine hJ ?_ ⟨_,rfl,?_,fun f hf=>?_⟩
 rw[R3 (show 0<G.length by omega),R3 (show(0:Int)<=((x2%G.length:Nat):Int) by omega),R3 (show((x2%G.length:Nat):Int)<((x2%G.length+1:Nat):Int) by omega),R3 (show((x2%G.length+1:Nat):Int)<=(G.length:Int) by omega),bt (by omega)]; rfl
 rw[Sd,R8,SK]; omega
 exact(Sm.1 hf).elim Tx Ty
 have h0:=wB hb;exact⟨h0.1,by show q.length<=1000; omega,fun f hf=>h0.2.2 f (hq.2 f hf)⟩
 refine fC (fun _=>?_) (fun _=>?_)
 refine fC (fun c=>?_) (fun _=>⟨_,rfl,ml hb hyF _⟩);have c:=of_decide_eq_true c;have hk:x3%o.length<o.length:=SU _ (by omega)
 rw[fT (by omega),al hk,aJ]
 refine qO hk fun z _ _=>⟨_,rfl,jJ hb ?_ hyF.2.1 hyF.2.2 _⟩;rw[T4]; omega
 refine fC (fun _=>?_) (fun _=>?_)
 obtain⟨r,hr,hl⟩:=zr n (l:=o) (by omega) (by omega)
 rw[hr,ah,ah];exact⟨_,rfl,jJ hb (show r.length<=1000 by omega) hyF.2.1 hyF.2.2 _⟩
 refine fC (fun _=>?_) (fun _=>?_)
 exact⟨_,rfl,jJ hb hyF.1 (b:=[]) (S8 _) (fun _ hx=>by cases hx) _⟩
 refine fC (fun _=>?_) (fun _=>?_)
 ·rw[fT e2,al hj3,aJ];refine qO hj3 fun z hz _=>?_;obtain⟨z1,z2⟩:=z;have hz1:z1.length<=42:=(hb.2.2 _ hz).1
  try dsimp only
  rw[tD n (by omega),ah,bt (by simp; omega),aJ,ah]
  have hw:Ux (((h++[z1]).length:Int)-1)=(h.length:Int):=by
   rw[Sd,List.length_singleton,aB (by omega) (by omega)]; omega
  rw[hw,al (by simp),aJ,show(h++[z1])[((h.length:Nat):Int).toNat]? = some z1 by simp,ah]
  obtain⟨r,hr,hl⟩:=G8 n (l:=z1) (by omega) (by omega)
  rw[hr,ah,ah];refine⟨_,rfl,jJ hb hyF.1 (by rw[T4,Sd]; simp; omega) (fun x hx=>?_) _⟩
  rcases List.mem_or_eq_of_mem_set hx with g|g
  rcases Sm.1 g with g|g
  exact hyF.2.2 x g
  rw[Sh.1 g]; omega
  rw[g]; omega
 refine fC (fun _=>?_) (fun _=>?_)
 refine fC (fun c=>?_) (fun _=>⟨_,rfl,ml hb hyF _⟩);have c:=of_decide_eq_true c;have hk:x3%o.length<o.length:=SU _ (by omega)
 rw[fT (by omega),fT (by omega),ah,Vh]
 refine uK (fun q=>q.length<=42) ?_ (fun q hq=>⟨_,rfl,jJ hb (show q.length<=1000 by omega) hyF.2.1 hyF.2.2 _⟩)
 unfold NK;refine hJ ?_ ⟨_,rfl,?_⟩
 rw[R3 (show 0<o.length by omega),R3 (show(0:Int)<=((x3%o.length:Nat):Int) by omega),R3 (show((x3%o.length:Nat):Int)<=((x3%o.length+1:Nat):Int) by omega),R3 (show((x3%o.length+1:Nat):Int)<=(o.length:Int) by omega),bt (by omega)]; rfl
 rw[Sd,R8,SK]; omega
 refine fC (fun _=>?_) (fun _=>?_)
 have hk:x3%(o.length+1)<o.length+1:=SU _ (by omega)
 rw[Vh,fT (by omega),ah,fT e1]
 simp only[iT];refine uK (fun q=>q.length<=43) ?_ (fun q hq=>⟨_,rfl,jJ hb (show q.length<=1000 by omega) hyF.2.1 hyF.2.2 _⟩)
 unfold MS;refine hJ ?_ ⟨_,rfl,?_⟩
 rw[R3 (show(0:Int)<=((x3%(o.length+1):Nat):Int) by omega),R3 (show((x3%(o.length+1):Nat):Int)<=(o.length:Int) by omega),bt (by omega)]; rfl
 rw[Sd,Sd,R8,SK]; simp; omega
 refine fC (fun _=>?_) (fun _=>?_)
 refine fC (fun c=>?_) (fun _=>⟨_,rfl,ml hb hyF _⟩);have c:=of_decide_eq_true c;have hk:x3%o.length<o.length:=SU _ (by omega)
 refine hJ (R3 (by omega)) (hJ (R3 ⟨by omega,by omega,by omega⟩) ?_)
 rw[tD n (by rw[R8,SK]; omega),ah]
 refine hJ (R3 (by omega)) (hJ (R3 ⟨by omega,by omega,by omega⟩) (hJ (bt ?_) ⟨_,rfl,jJ hb ?_ hyF.2.1 hyF.2.2 _⟩))
 rw[Sd,R8,SK,R8,SK]; omega
 rw[Sd,R8,SK,R8,SK]; omega
 obtain⟨r,hr,hl,hx⟩:=yv n x3 (l:=o) (by omega) (by omega) 10 n h (by omega) (by omega) (by omega) (fun x hx=>hyF.2.2 x hx)
 rw[hr,ah];exact⟨_,rfl,jJ hb hyF.1 (show r.length<=1000 by omega) hx _⟩
def wE (n:Nat) (l:List Nat) (k:Nat):∃r,JK n l (k:Int)=some r/\True:=by
 unfold JK;refine fC (fun _=>⟨_,rfl,trivial⟩) (fun c=>?_);have c:=of_decide_eq_false c;have hk:k%l.length<l.length:=SU _ (by omega)
 rw[fT c,iT,al hk,aJ];exact qO hk fun x _ _=>⟨_,rfl,trivial⟩
def Ge (n:Nat) {w:Nat} (hw:w<=5) (y:Int) (l8:List Nat) {l0:List I2} (h0:l0.length<=1000) (hn:1000<n):∃r,bg (vp n (w:Int) y l8) n (l0,0,0)=some r/\r.length=l0.length+(w+1):=by
 refine iu (B:=vp n (w:Int) y l8) (len:=w+1) (fun i (s:List I2 × Int)=>(s.1,s.2,(i:Int))) (fun i s=>s.1.length=l0.length+i) (fun r=>r.length=l0.length+(w+1)) (fun i s hi hs=>.inl ?_) (fun s hs=>?_) (w+1) 0 (l0,0) n (by omega) (by omega) rfl
 ·obtain⟨l,x⟩:=s
  try dsimp only at hs ⊢
  obtain⟨r,hr,_⟩:=wE n l8 i;refine⟨(l++[(x,y)],Ux ((Ux (x+1))+(Int.tmod r 5))),?_,by simp; omega⟩
  unfold vp
  try dsimp only
  rw[Vf,bt (by simp; omega),aJ,hr,ah,Vh]
 ·obtain⟨l,x⟩:=s;refine⟨l,?_,hs⟩;unfold vp
  try dsimp only
  rw[Vg]
def Gz (n:Nat) {w h:Nat} (hw:w<=5) (hh:h<=5) (l8:List Nat) (hn:1000<n):∃r,bg (u0 n (h:Int) (w:Int) l8) n ([],0,0)=some r/\r.length=(h+1)*(w+1):=by
 refine iu (B:=u0 n (h:Int) (w:Int) l8) (len:=h+1) (fun i (s:List I2 × Int)=>(s.1,s.2,(i:Int))) (fun i s=>s.1.length=i*(w+1)) (fun r=>r.length=(h+1)*(w+1)) (fun i s hi hs=>.inl ?_) (fun s hs=>?_) (h+1) 0 ([],0) n (by omega) (by omega) (by simp)
 ·obtain⟨l,y⟩:=s
  try dsimp only at hs ⊢
  have hb:i*(w+1)<=5*(w+1):=S9 _ (by omega)
  obtain⟨r,hr,hl⟩:=Ge n hw y l8 (l0:=l) (by omega) hn
  obtain⟨r',hr',_⟩:=wE n l8 (7+i);refine⟨(r,Ux ((Ux (y+1))+(Int.tmod r' 5))),?_,by rw[TA]; dsimp only; omega⟩
  unfold u0
  try dsimp only
  rw[Vf,hr,ah,aB (x:=7+(i:Int)) (by omega) (by omega),show(7+(i:Int))=((7+i:Nat):Int) by omega,hr',ah,Vh]
 ·obtain⟨l,y⟩:=s;refine⟨l,?_,hs⟩;unfold u0
  try dsimp only
  rw[Vg]
def ua (k:Nat) (l:List Fc):Prop:=l.length<=k/\∀f ∈ l,KM f
def k5 {k j:Nat} {l m:List Fc} (h:ua k l) (hm:ua j m):ua (k+j) (l++m):=⟨by rw[Sd]; have:=h.1; have:=hm.1; omega,fun f hf=>(Sm.1 hf).elim (h.2 f) (hm.2 f)⟩
def ua.le {k j:Nat} {l:List Fc} (h:ua k l) (hk:k<=j):ua j l:=⟨by have:=h.1; omega,h.2⟩
def Cf {o:List Int} (h:o.length<=1000):KM (o,[]):=⟨h,by simp,fun _ hx=>by cases hx⟩
def xN {o:List Int} (h:o.length<=1000):ua 2 [(o,[])]:=⟨by simp,fun f hf=>by rw[Sh.1 hf]; exact Cf h⟩
def K7 {o o':List Int} (h:o.length<=1000) (h':o'.length<=1000):ua 2 [(o,[]),(o',[])]:=⟨by simp,fun f hf=>by
 rcases Sp.1 hf with e|hf
 rw[e]; exact Cf h
 rw[Sh.1 hf]; exact Cf h'⟩
def Bi {k:Nat} {l:List Fc} (h:ua k l) (hk:k<=1000):lim l.length=true:=bt (by have:=h.1; omega)
def Gr (n:Nat) {w v:Nat} (hw:w<=5) (hv:v<=5) (l3:List Nat) {k:Nat} (hk:k<=500) {l0:List Fc} (h0:ua k l0) (hn:1000<n):∃r,bg (sY n (w:Int) (v:Int) l3) n (l0,0)=some r/\ua (k+10) r:=by
 refine iu (B:=sY n (w:Int) (v:Int) l3) (len:=w) (fun i (s:List Fc)=>(s,(i:Int))) (fun i s=>ua (k+2*i) s) (fun r=>ua (k+10) r) (fun i s hi hs=>.inl ?_) (fun s hs=>⟨s,?_,hs.le (by omega)⟩) w 0 l0 n (by omega) (by omega) h0
 ·have hvw:v*w<=5*5:=Ud hv hw;obtain⟨q,hq,_⟩:=wE n l3 (v*w+i);have hx:Ux ((Ux ((v:Int)*(w:Int)))+(i:Int))=((v*w+i:Nat):Int):=by
   rw[show((v:Int)*(w:Int))=((v*w:Nat):Int) from(Int.natCast_mul v w).symm,aB (x:=((v*w:Nat):Int)) (by omega) (by omega),aB (by omega) (by omega)]; omega
  have key:∀(s':List Fc),ua (k+2*i+2) s'->ua (k+2*(i+1)) s':=fun s' h=>h.le (by omega)
  suffices hg:∃c,sY n (w:Int) (v:Int) l3 (s,(i:Int))=some c/\∃s',c = .inl (s',((i+1:Nat):Int))/\ua (k+2*i+2) s' by
   obtain⟨c,h1,s',h2,h3⟩:=hg;exact⟨s',by rw[h1,h2],key s' h3⟩
  unfold sY
  try dsimp only
  rw[Vf]
  refine uK (fun s'=>ua (k+2*i+2) s') ?_ (fun s' hs'=>⟨_,rfl,s',by rw[Vh],hs'⟩)
  rw[ah,hx,hq,ah];refine fC (fun _=>?_) (fun _=>fC (fun _=>fC (fun _=>?_) (fun _=>?_)) (fun _=>?_))
  rw[ah,ah];exact hJ (Bi (k5 hs (K7 (by simp) (by simp))) (by omega)) ⟨_,rfl,k5 hs (K7 (by simp) (by simp))⟩
  exact⟨_,rfl,hs.le (by omega)⟩
  rw[ah];exact hJ (Bi (k5 hs (xN (by simp))) (by omega)) ⟨_,rfl,k5 hs (xN (by simp))⟩
  rw[ah];exact hJ (Bi (k5 hs (xN (by simp))) (by omega)) ⟨_,rfl,k5 hs (xN (by simp))⟩
 ·unfold sY
  try dsimp only
  rw[Vg]
def ET (n:Nat) {w h:Nat} (hw:w<=5) (hh:h<=5) (l3:List Nat) (hn:1000<n):∃r,bg (uP n (h:Int) (w:Int) l3) n ([],0)=some r/\ua 50 r:=by
 refine iu (B:=uP n (h:Int) (w:Int) l3) (len:=h) (fun i (s:List Fc)=>(s,(i:Int))) (fun i s=>ua (10*i) s) (fun r=>ua 50 r) (fun i s hi hs=>.inl ?_) (fun s hs=>⟨s,?_,hs.le (by omega)⟩) h 0 [] n (by omega) (by omega) ⟨by simp,fun _ hx=>by cases hx⟩
 ·obtain⟨r,hr,hb⟩:=Gr n hw (v:=i) (by omega) l3 (k:=10*i) (by omega) hs hn
  refine⟨r,?_,hb.le (by omega)⟩
  unfold uP
  try dsimp only
  rw[Vf,hr,ah,Vh]
 ·unfold uP
  try dsimp only
  rw[Vg]
def NF (n:Nat) (x1 x2:Nat) (l3 l8:List Nat) (b:Bool) (hn:1000<n):∃c,N3 n x1 x2 l3 l8 b=some c/\Aa c:=by
 have hwh:∃w h:Nat,w<=5/\h<=5/\(br b (some ((3:Int),(3:Int))) (some (Ux (1+(Ux ((x1%4:Nat):Int))),Ux (1+(Ux ((x2%3:Nat):Int))))))=some ((w:Int),(h:Int)):=by
  cases b
  refine⟨1+x1%4,1+x2%3,by omega,by omega,?_⟩
  rw[fc,aB (x:=((x1%4:Nat):Int)) (by omega) (by omega),aB (x:=((x2%3:Nat):Int)) (by omega) (by omega),aB (by omega) (by omega),aB (by omega) (by omega)]
  rfl
  exact⟨3,3,by omega,by omega,rfl⟩
 obtain⟨w,h,hw,hh,e⟩:=hwh;unfold N3;rw[e,ah]
 try dsimp only
 obtain⟨P,hP,hPl⟩:=Gz n hw hh l8 hn;have hPb:P.length<=1000:=by
  have:(h+1)*(w+1)<=6*6:=Ud (by omega) (by omega)
  omega
 rw[hP,ah];cases b
 rw[fc];obtain⟨r,hr,hb⟩:=ET n hw hh l3 hn;rw[hr,ah];exact⟨_,rfl,hPb,by have:=hb.1; show r.length<=1000; omega,hb.2⟩
 rw[fk];have h1:ua 1 ([([0,1,2,3,7,11,15,14,13,12,8,4],[[5,9,10,6]])]:List Fc):=⟨by simp,fun f hf=>by
  rw[Sh.1 hf];exact⟨by simp,by simp,fun x hx=>by rw[Sh.1 hx]; simp⟩⟩
 refine hJ (bt (by simp)) (uK (fun l=>ua 5 l) ?_ (fun l hl=>⟨_,rfl,hPb,by have:=hl.1; show l.length<=1000; omega,hl.2⟩))
 obtain⟨q,hq,_⟩:=wE n l3 0;rw[show JK n l3 0=some q from hq,ah]
 refine fC (fun _=>hJ (bt (by simp)) ⟨_,rfl,?_⟩) (fun _=>⟨_,rfl,h1.le (by omega)⟩)
 exact(k5 h1 (xN (o:=[5,6,10,9]) (by simp))).le (by omega)
def MK (n:Nat) (x1 x2:Nat) (l3 l8:List Nat) (b:Bool) (x14 x15 x16:Nat) (x17 x18 x19:Int) (x20 x21 x22:Nat) (x23 x24 x25:Int) (h15:x15<256) (h16:x16<256) (h21:x21<256) (h22:x22<256) (hn:10000<n) :
  ∃c d e,PM n x1 x2 l3 l8 b x14 x15 x16 x17 x18 x19 x20 x21 x22 x23 x24 x25=some (c.1,c.2,d.1,d.2,e.1,e.2)/\Aa c/\Aa d/\Aa e/\N3 n x1 x2 l3 l8 b=some c:=by
 obtain⟨c,h1,b1⟩:=NF n x1 x2 l3 l8 b (by omega)
 obtain⟨d,h2,b2⟩:=Hb n x14 x15 x16 x17 x18 x19 c.1 c.2 h15 h16 hn;obtain⟨e,h3,b3⟩:=Hb n x20 x21 x22 x23 x24 x25 d.1 d.2 h21 h22 hn;refine⟨c,d,e,?_,b1,b2,b3,h1⟩;unfold PM;rw[h1,ah]
 try dsimp only
 rw[h2,ah]
 try dsimp only
 rw[h3,ah]
def Bw (n:Nat) (pts:List I2) (F:List Fc) (hn:99999<n):∃r,Ly n pts F=some r/\N2 n pts F=some r/\(r.1<=0->Fcs pts F/\Ni pts F=r):=by
 have no:∀(k v:Int),0<k->((k,v).1<=0->Fcs pts F/\Ni pts F=(k,v)):=fun k v h e=>by dsimp only at e; omega
 unfold Ly N2 P4 P9
 by_cases g1:(pts.length:Int)<3
 simp only[au g1,ah,fk]; exact⟨_,rfl,rfl,no _ _ (by decide)⟩
 by_cases g2:120<(pts.length:Int)
 simp only[av g1,au g2,ah,fk]; exact⟨_,rfl,rfl,no _ _ (by decide)⟩
 by_cases g3:(F.length:Int)<1
 simp only[av g1,av g2,au g3,ah,fk]; exact⟨_,rfl,rfl,no _ _ (by decide)⟩
 by_cases g4:64<(F.length:Int)
 simp only[av g1,av g2,av g3,R3 g4,ah,fk]; exact⟨_,rfl,rfl,no _ _ (by decide)⟩
 simp only[av g1,av g2,av g3,R6 g4,ah,fc];rw[EA n (by omega) (by omega),Gh n (by omega) (by omega)]
 cases hf:bK (jE pts) (.inr ()) pts.length 0 with
 | inl v =>
  have:=Cp v hf;simp only[ah,au this]; exact⟨_,rfl,rfl,no _ _ (by decide)⟩
 | inr u =>
 simp only[ah,av (show ¬(0:Int)<=-1 by decide)]
 rw[Fo n (by omega) (by omega),FO n (by omega) (by omega)]
 cases ht:bK (mL pts) (.inr ()) pts.length 0 with
 | inl v=>simp only[ah]; exact⟨_,rfl,rfl,no _ _ (by decide)⟩
 | inr u =>
 simp only[ah];have hb:=IN (by omega) hf
 rw[GX n (by omega) (by omega),Ff n (by omega) (by omega)]
 cases h4:bK (fq (okF pts.length) F) (.inr ()) F.length 0 with
 | inl v =>
  have:=p9 h4;simp only[ah,au this]; exact⟨_,rfl,rfl,no _ _ (by decide)⟩
 | inr u =>
 have ho:NY pts F:=oq h4;simp only[ah,av (show ¬(0:Int)<=-1 by decide)]
 rw[Hl n hb ho (by omega) (by omega),Ez n hb ho (by omega) (by omega)]
 cases h5:bK (fq (MC pts) F) (.inr ()) F.length 0 with
 | inl v =>
  have:=p9 h5;simp only[ah,au this]; exact⟨_,rfl,rfl,no _ _ (by decide)⟩
 | inr u =>
 have hva:=oq h5;have ha:=fun f hf=>Pg (hva f hf);simp only[ah,av (show ¬(0:Int)<=-1 by decide)]
 rw[Hm n hb ho ha (by omega) (by omega),Gs n hb ho ha (by omega) (by omega)]
 cases h6:bK (fq (N1 pts) F) (.inr ()) F.length 0 with
 | inl v =>
  have:=p9 h6;simp only[ah,au this]; exact⟨_,rfl,rfl,no _ _ (by decide)⟩
 | inr u =>
 have htu:=oq h6;have hc:Fcs pts F:=⟨⟨by omega,by omega⟩,⟨by omega,by omega⟩,hb,Jf ht,ho,hva,htu⟩
 simp only[ah,av (show ¬(0:Int)<=-1 by decide)]
 rw[Nl n hc hn,NC n hc hn];exact⟨Ni pts F,rfl,rfl,fun _=>⟨hc,rfl⟩⟩
end
section
open Go Go.Ab Go.Ab.W
set_option maxRecDepth 100000
def Iw:F7 200000=some true:=by kernel_rfl
end
section
open Go Go.Ab Go.Ab.W Go.Ab.B Jd
def Hz (n:Nat) (pts:List I2) (F:List Fc) (hn:99999<n):∃r,II n pts F=some r/\PX n pts F=some r:=by
 obtain⟨r,h1,h2,_⟩:=Bw n pts F hn;obtain⟨k,v⟩:=r;unfold II PX;rw[h1,h2,ah]
 by_cases c:0<k
 exact⟨150,by dsimp only; rw[au c],by dsimp only; rw[au c]⟩
 exact⟨0,by dsimp only; rw[av c],by dsimp only; rw[av c]⟩
def I9 (n:Nat) (x1 x2:Nat) (l3 l7:List Nat) (x11:Bool) (x12 x13 x14:Nat) (x15 x16 x17:Int) (x18 x19 x20:Nat) (x21 x22 x23:Int) (l24:List I2) (l28:Um) (h13:x13<256) (h14:x14<256) (h19:x19<256) (h20:x20<256) (hn:99999<n) (hw:F7 n=some true) :
  F6 n x1 x2 l3 l7 x11 x12 x13 x14 x15 x16 x17 x18 x19 x20 x21 x22 x23 l24 l28=some true:=by
 unfold F6;simp only[Rg,Rr,aJ];have hL:bg (CQ n l28) n ([],0)=some ((l28.take 4).map fun l=>(((l.take 8).map fun x=>Ux x),[])):=by
  refine ql (B:=CQ n l28) (l:=l28.take 4) (fun l=>(((l.take 8).map fun x=>Ux x),[])) id (fun i x hx hi=>?_) ?_ (by rw[R8]; omega)
  ·have h4:(l28.take 4).length<=4:=by rw[R8]; omega
   have hI:bg (CR n x) n ([],0)=some ((x.take 8).map fun x=>Ux x):=by
    refine ql (B:=CR n x) (l:=x.take 8) (fun x=>Ux x) id (fun i y hy hi=>?_) ?_ (by rw[R8]; omega)
    have h8:(x.take 8).length<=8:=by rw[R8]; omega
    unfold CR;simp only[Qb];rw[Vf,al hi,aJ,aR hy,ah,bt (by simp; omega),aJ,Vh]
    unfold CR;simp only[Qb];rw[Vg]; rfl
   unfold CQ;simp only[Rm,Rg,aJ];rw[Vf,al hi,aJ,aR hx,ah]
   try dsimp only
   rw[hI,ah,bt (by simp; omega),aJ,Vh]
  unfold CQ;simp only[Rm];rw[Vg]; rfl
 rw[hL,ah];obtain⟨c,d,e,h35,bc,bd,be,_⟩:=MK n x1 x2 l3 l7 x11 x12 x13 x14 x15 x16 x17 x18 x19 x20 x21 x22 x23 h13 h14 h19 h20 (by omega)
 rw[h35,ah]
 try dsimp only
 generalize hG:((l28.take 4).map fun l=>(((l.take 8).map fun x=>Ux x),([]:Um)))=G;have bo:Aa (l24.take 8,G):=by
  rw[<-hG];refine⟨by show(List.take ..).length<=_; rw[R8]; omega,by show(List.map ..).length<=_; rw[Sj,R8]; omega,fun f hf=>?_⟩
  obtain⟨l,_,rfl⟩:=Te.1 hf;exact Cf (by rw[Sj,R8]; omega)
 have hall:∀x ∈ [(c.1,c.2),(d.1,d.2),(e.1,e.2),(l24.take 8,G)],Aa x:=fun x hx=>by
  simp only[Sp,List.not_mem_nil,or_false] at hx;rcases hx with rfl|rfl|rfl|rfl
  exact bc
  exact bd
  exact be
  exact bo
 have hI:∀p q,Aa (p,q)->bg (D1 n c.1 c.2 d.1 d.2 e.1 e.2 l24 G p q) n 0=some (.inr ()):=fun p q hpq=>by
  have h1:bg (D1 n c.1 c.2 d.1 d.2 e.1 e.2 l24 G p q) n 0=some (bK (fun _=>none) (.inr ()) 4 0):=by
   refine bj (len:=4) (fun i hi=>?_) ?_ 4 0 n (by omega) (by omega)
   ·have hi':i < [(c.1,c.2),(d.1,d.2),(e.1,e.2),(l24.take 8,G)].length:=hi;have hx:=RY hi';have hb:=hall _ (Sn hi');generalize [(c.1,c.2),(d.1,d.2),(e.1,e.2),(l24.take 8,G)][i]=x at hx hb;obtain⟨x1,x2⟩:=x;have e1:=Ms n hpq hb (by omega)
    have e2:=MZ n hpq hb (by omega)
    dsimp only at e1 e2
    unfold D1;simp only[Qb];rw[Vf,al hi,aJ,aR hx,ah]
    try dsimp only
    rw[e1,ah,e2,ah,beq_self_eq_true,SC,fc,Vh]
   unfold D1;rw[av (by decide)]
  rw[h1]; rfl
 have hO:bg (DZ n c.1 c.2 d.1 d.2 e.1 e.2 l24 G) n 0=some (.inr ()):=by
  have h1:bg (DZ n c.1 c.2 d.1 d.2 e.1 e.2 l24 G) n 0=some (bK (fun _=>none) (.inr ()) 4 0):=by
   refine bj (len:=4) (fun i hi=>?_) ?_ 4 0 n (by omega) (by omega)
   ·have hi':i < [(c.1,c.2),(d.1,d.2),(e.1,e.2),(l24.take 8,G)].length:=hi;have hx:=RY hi';have hb:=hall _ (Sn hi');generalize [(c.1,c.2),(d.1,d.2),(e.1,e.2),(l24.take 8,G)][i]=x at hx hb;obtain⟨x1,x2⟩:=x;obtain⟨r,f1,f2,_⟩:=Bw n x1 x2 hn;obtain⟨k,v⟩:=r;obtain⟨r,g1,g2⟩:=Hz n x1 x2 hn;unfold DZ;simp only[Qb];rw[Vf,al hi,aJ,aR hx,ah]
    try dsimp only
    rw[f1,ah,f2,ah]
    try dsimp only
    simp only[decide_true,SC,fc];rw[g1,ah,g2,ah];simp only[decide_true,SC,ah,fc];rw[hI _ _ hb,ah,Vh]
   unfold DZ;rw[av (by decide)]
  rw[h1]; rfl
 rw[hO,ah]
 try dsimp only
 rw[hw,ah]
end
end Go.Proofs.YtmndpgfbkicndaaGreat
