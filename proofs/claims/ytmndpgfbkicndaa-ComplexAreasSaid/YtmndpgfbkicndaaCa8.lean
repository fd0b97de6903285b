/- A part of the proof. -/
import Derived.Test.YtmndpgfbkicndaaCa7
set_option linter.all false
section
namespace Jd
def ab(a:I2)(y:Rat):Int:=if y<(ca a).2 then 1 else 0
def Hu{e:Eg}{y:Rat}(h1:(ca e.1).2≠y)(h2:(ca e.2).2≠y):de e y=ab e.2 y-ab e.1 y:=by
 unfold de dd ab
 by_cases c1:y<(ca e.2).2<;>by_cases c2:y<(ca e.1).2
 rw[R5 (by grind),R5 (by grind),R7 c1,R7 c2]; rfl
 rw[R7 ⟨by grind,c1⟩,R7 c1,R5 c2]; rfl
 rw[R5 (by grind),R7 ⟨by grind,c2⟩,R5 c1,R7 c2]; rfl
 rw[R5 (by grind),R5 (by grind),R5 c1,R5 c2]; rfl
def xm(f:Eg->Int)(r:VB I2):cD f (cq r)=aZ r.length fun i=>f (nx r i,nx r (i+1)):=by
 unfold cq;rw[gw,fY]
def jK{r:VB I2}{i:Nat}(hi:i<r.length):(nx r i,nx r (i+1))∈cq r:=Sy.2 ⟨i,SM.2 hi,rfl⟩
def Jl{r:VB I2}{y:Rat}(g:q7 (cq r) y):cD (fun e=>de e y) (cq r)=0:=by
 have e:∀i,i<r.length->de (nx r i,nx r (i+1)) y=ab (nx r (i+1)) y-ab (nx r i) y:=fun i hi=>by
  have k:=g _ (jK hi);exact Hu (e:=(nx r i,nx r (i+1))) k.1 k.2
 have t:=kH r.length fun i=>ab (nx r i) y;rw[xm,aE e,t,lC];omega
def Hh(E:VB Eg)(y:Rat):∃x,∀e∈E,x<xc e y:=by
 by_cases h:∃e,e∈E/\True
 obtain⟨a,_,_,h3⟩:=hZ (X:=fun e=>xc e y) h;exact⟨xc a y-1,fun e he=>by have:=h3 e he trivial; grind⟩
 exact⟨0,fun e he=>Sw ⟨e,he,trivial⟩ h⟩
def Mt.sep{g e:Eg}(h:Mt g e)(hg:g.1≠g.2)(he:e.1≠e.2){t s:Rat}(t0:0<t)(t1:t<1)(s0:0<s)(s1:s<1):Sep (ca g.1) (ca g.2) (cv (ca e.1) (ca e.2) t) (cv (ca e.1) (ca e.2) s) :=
 FZ hg he h t0 t1 s0 s1
def Mt.KS{g e:Eg}(h:Mt g e)(hg:g.1≠g.2)(he:e.1≠e.2){y:Rat}(e1:(ca e.1).2≠y)(e2:(ca e.2).2≠y)(g1:(ca g.1).2≠y)(g2:(ca g.2).2≠y)(de0:de e y≠0)(dg0:de g y≠0):xc e y≠xc g y:=by
 intro hx;obtain⟨t,t0,t1,ht⟩:=(rf e1 e2).2 de0;obtain⟨s,s0,s1,hs⟩:=(rf g1 g2).2 dg0;have:=h.sep hg he t0 t1 t0 t1;rw[ht] at this;exact Fe this (by rw[hs,hx]) (by grind) (by grind)
def gA{r:VB I2}(v:VR r){e:Eg}(he:e.1≠e.2)(h:∀g∈cq r,Mt g e):jG r e/\∀{y:Rat},(ca e.1).2≠y->(ca e.2).2≠y->de e y≠0->wr (cq r) (xc e y,y)=wM r e:=by
 have hh:(0:Rat)<1/2/\(1:Rat)/2<1:=by constructor<;>grind
 refine⟨fun g hg=>JM (je v hg) ((h g hg).sep (je v hg) he hh.1 hh.2 hh.1 hh.2),fun{y} e1 e2 hd=>?_⟩;obtain⟨t,t0,t1,ht⟩:=(rf e1 e2).2 hd;rw[<-ht];exact Kj v fun g hg=>(h g hg).sep (je v hg) he t0 t1 hh.1 hh.2
def Fg{r:VB I2}(v:VR r){e:Eg}(h:jG r e):(0<eE r->wM r e=0\/wM r e=1)/\(eE r<0->wM r e=0\/wM r e = -1):=by
 obtain⟨s,_,h1,h2,hg,_⟩:=s5 v;have:=hg 2 (by decide) (lM e) fun i hi=>h _ (jK hi)
 rw[rm v.ne_nil];exact⟨fun a=>by rw[h1 a] at this; exact this,fun a=>by rw[h2 a] at this; exact this⟩
section
variable{o h:VB I2}
def Pr.gI(p:Pr o h):(∀e∈cq o,e.1≠e.2)/\∀e∈cq h,e.1≠e.2:=⟨fun _ he=>je p.vo he,fun _ he=>je p.vh he⟩
def Pr.one(p:Pr o h){e:Eg}(he:e∈cq h):wM o e=1:=by
 obtain⟨a,b⟩:=p.inn e he;have:=(Fg p.vo a).1 p.ao;omega
def Pr.off(p:Pr o h){e:Eg}(he:e∈cq o):jG h e:=(gA p.vh (p.gI.1 e he) fun g hg=>(p.mt g hg e he).symm).1
def Pr.prod(p:Pr o h){y:Rat}(go:q7 (cq o) y)(gh:q7 (cq h) y)(x:Rat) :
  wr (cq o) (x,y)*wr (cq h) (x,y)=cD (fun e=>if x<xc e y then de e y*wM h e else 0) (cq o)+wr (cq h) (x,y):=by
 rw[HQ (fun e he g hg d1 d2=>(p.mt g hg e he).symm.KS (p.gI.2 g hg) (p.gI.1 e he) (go e he).1 (go e he).2 (gh g hg).1 (gh g hg).2 d1 d2) go gh x]
 congr 1
 refine bt fun e he=>?_
 by_cases hd:de e y=0
 rw[hd]; simp
 rw[(gA p.vh (p.gI.1 e he) fun g hg=>(p.mt g hg e he).symm).2 (go e he).1 (go e he).2 hd]
 rw[gJ gh rfl];refine bt fun e he=>?_
 by_cases hd:de e y=0
 rw[hd]; simp
 rw[(gA p.vo (p.gI.2 e he) fun g hg=>p.mt e he g hg).2 (gh e he).1 (gh e he).2 hd,p.one he,Int.mul_one]
def Pr.level(p:Pr o h){y:Rat}(go:q7 (cq o) y)(gh:q7 (cq h) y):cD (fun e=>de e y*wM h e) (cq o)=0:=by
 obtain⟨x,hx⟩:=Hh (cq o++cq h) y;have zero:∀{r:VB I2},(∀e∈cq r,x<xc e y)->q7 (cq r) y->wr (cq r) (x,y)=0:=fun{r} hx g=>by
  rw[gJ g rfl,<-Jl g];exact bt fun e he=>R7 (hx e he)
 have:=p.prod go gh x;rw[zero (fun e he=>hx e (SJ _ he)) gh,Int.mul_zero] at this;rw[bt (g:=fun e=>if x<xc e y then de e y*wM h e else 0) fun e he=>(R7 (hx e (Sx _ he))).symm]
 omega
def Dl(r:VB I2):Prop:=∀i j,(nx r i).2=(nx r j).2->nx r i=nx r j
def LA(L:VB Rat)(V:Rat):∃y,V<y/\∀z∈L,V<z->y<z:=by
 by_cases hc:∃z,z∈L/\V<z
 obtain⟨a,h1,h2,h3⟩:=hZ (X:=fun z=>z) hc;exact⟨(V+a)/2,by grind,fun z hz hv=>by have:=h3 z hz hv; grind⟩
 exact⟨V+1,by grind,fun z hz hv=>Sw ⟨z,hz,hv⟩ hc⟩
def below(L:VB Rat)(V:Rat):∃y,y<V/\∀z∈L,z<V->z<y:=by
 by_cases hc:∃z,z∈L/\z<V
 obtain⟨a,h1,h2,h3⟩:=hZ (X:=fun z=>-z) hc;exact⟨(V+a)/2,by grind,fun z hz hv=>by have:=h3 z hz hv; grind⟩
 exact⟨V-1,by grind,fun z hz hv=>Sw ⟨z,hz,hv⟩ hc⟩
def Pr.next(p:Pr o h)(d:Dl o){i:Nat}(h1:1<=i)(hi:i<o.length):wM h (nx o i,nx o (i+1))=wM h (nx o (i-1),nx o (i-1+1)):=by
 let L:VB Rat:=(cq o++cq h).flatMap fun e=>[(ca e.1).2,(ca e.2).2]
 have inL:∀e,e∈cq o++cq h->(ca e.1).2∈L/\(ca e.2).2∈L:=fun e he=>⟨SR.2 ⟨e,he,by simp⟩,SR.2 ⟨e,he,by simp⟩⟩
 let V:Rat:=(ca (nx o i)).2
 obtain⟨y2,a1,a2⟩:=LA L V;obtain⟨y1,b1,b2⟩:=below L V;have gen:∀e,e∈cq o++cq h->((ca e.1).2≠y1/\(ca e.2).2≠y1)/\((ca e.1).2≠y2/\(ca e.2).2≠y2):=fun e he=>by
  obtain⟨m1,m2⟩:=inL e he;have key:∀z∈L,z≠y1/\z≠y2:=fun z hz=>by
   have:=a2 z hz;have:=b2 z hz;constructor<;>intro k<;>grind
  exact⟨⟨(key _ m1).1,(key _ m2).1⟩,(key _ m1).2,(key _ m2).2⟩
 have e1:=p.level (y:=y1) (fun e he=>(gen e (Sx _ he)).1) (fun e he=>(gen e (SJ _ he)).1);have e2:=p.level (y:=y2) (fun e he=>(gen e (Sx _ he)).2) (fun e he=>(gen e (SJ _ he)).2);have dab:∀k,k<=o.length->ab (nx o k) y2-ab (nx o k) y1 = -(if nx o k=nx o i then 1 else 0):=fun k hk=>by
  have hm:(ca (nx o k)).2∈L:=by
   have h3:=p.vo.n3;have:=(inL (nx o (k%o.length),nx o (k%o.length+1)) (Sx _ (jK (SY _ (by omega))))).1
   rwa[jh o (Nat.mod_mod k o.length)] at this
  have c1:=a2 _ hm;have c2:=b2 _ hm;unfold ab
  by_cases e:nx o k=nx o i
  rw[R7 e,e,R5 (show ¬y2<V by grind),R7 (show y1<V by grind)]; rfl
  have hne:(ca (nx o k)).2≠V:=fun g=>e (d k i (Rat.intCast_inj.1 g));rw[R5 e]
  by_cases g:V<(ca (nx o k)).2
  rw[R7 (c1 g),R7 (by grind)]; rfl
  rw[R5 (by grind),R5 (by have:=c2 (by grind); grind)]; rfl
 rw[xm] at e1 e2;have e3:=fU o.length (fun j=>de (nx o j,nx o (j+1)) y2*wM h (nx o j,nx o (j+1))) fun j=>de (nx o j,nx o (j+1)) y1*wM h (nx o j,nx o (j+1));rw[e1,e2] at e3;have e4:∀j,j<o.length->de (nx o j,nx o (j+1)) y2*wM h (nx o j,nx o (j+1))-de (nx o j,nx o (j+1)) y1*wM h (nx o j,nx o (j+1)) =
   ((if nx o j=nx o i then 1 else 0)-(if nx o (j+1)=nx o i then 1 else 0))*wM h (nx o j,nx o (j+1)):=fun j hj=>by
  have g:=gen _ (Sx _ (jK hj));have k1:=Hu g.1.1 g.1.2;have k2:=Hu g.2.1 g.2.2;have k3:=dab j (by omega)
  have k4:=dab (j+1) (by omega)
  rw[<-Int.sub_mul]
  congr 1
  dsimp only at k1 k2
  omega
 rw[aE e4,ID (k:=i-1) (l:=i) (by omega) hi fun j hj n1 n2=>?_] at e3
 rw[show i-1+1=i by omega,R7 rfl,R5 (fun g=>by have:=p.vo.inj (by omega) hi g; omega),R5 (Ne.symm (p.vo.still i))] at e3
 rw[show i-1+1=i by omega]
 omega
 rw[R5 (fun g=>n2 (p.vo.inj hj hi g)),R5]
 simp
 intro g
 by_cases hl:j+1=o.length
 rw[hl,lC] at g;have:=p.vo.inj (by omega) hi g
 omega
 have:=p.vo.inj (by omega) hi g
 omega
def Km(L:VB Rat){a b:Rat}(hab:a<b):∃y,a<y/\y<b/\∀z∈L,z≠y:=by
 obtain⟨y,h1,h2⟩:=LA (b::L) a;have:=h2 b Sv hab;refine⟨y,h1,this,fun z hz e=>?_⟩;subst e;have:=h2 z (Sf _ hz) h1
 grind
def sF(E:VB Eg){e:Eg}(h:e.1.2≠e.2.2):∃y,q7 E y/\(ca e.1).2≠y/\(ca e.2).2≠y/\de e y≠0:=by
 have key:∀{u w:I2},u.2<w.2->∃y,(∀z ∈(e::E).flatMap fun e=>[(ca e.1).2,(ca e.2).2],z≠y)/\(ca u).2<y/\y<(ca w).2:=fun{u w} h=>by
  obtain⟨y,a,b,c⟩:=Km ((e::E).flatMap fun e=>[(ca e.1).2,(ca e.2).2]) (dX.2 h:(ca u).2<(ca w).2);exact⟨y,c,a,b⟩
 have fin:∀y,(∀z ∈(e::E).flatMap fun e=>[(ca e.1).2,(ca e.2).2],z≠y)->q7 E y/\(ca e.1).2≠y/\(ca e.2).2≠y:=fun y hy =>
  ⟨fun g hg=>⟨hy _ (SR.2 ⟨g,Sf _ hg,by simp⟩),hy _ (SR.2 ⟨g,Sf _ hg,by simp⟩)⟩,
   hy _ (SR.2 ⟨e,Sv,by simp⟩),hy _ (SR.2 ⟨e,Sv,by simp⟩)⟩
 rcases Int.lt_or_gt_of_ne h with g|g
 obtain⟨y,a,b,c⟩:=key g;obtain⟨k1,k2,k3⟩:=fin y a;refine⟨y,k1,k2,k3,?_⟩;unfold de dd;rw[R7 ⟨b,c⟩]; decide
 obtain⟨y,a,b,c⟩:=key g;obtain⟨k1,k2,k3⟩:=fin y a;refine⟨y,k1,k2,k3,?_⟩;unfold de dd;rw[R5 (by grind),R7 ⟨b,c⟩]; decide
def Pr.Hv(p:Pr o h)(d:Dl o)(dh:Dl h):∀e∈cq o,wM h e=0:=by
 have all:∀i,i<o.length->wM h (nx o i,nx o (i+1))=wM h (nx o 0,nx o (0+1)):=by
  intro i
  induction i with
  | zero=>intro _; rfl
  | succ i ih=>intro hi; rw[p.next d (by omega) hi,Nat.add_sub_cancel]; exact ih (by omega)
 have h3:=p.vo.n3;have n3:=p.vh.n3;have v0:=(Fg p.vh (p.off (jK (i:=0) (by omega)))).2 p.ah
 have c0:wM h (nx o 0,nx o (0+1))=0:=by
  refine v0.resolve_right fun c=>?_;have g0:(nx h 0,nx h (0+1))∈cq h:=jK (by omega)
  obtain⟨y,gen,g1,g2,hd⟩:=sF (cq o++cq h) (e:=(nx h 0,nx h (0+1))) fun e=>p.vh.still 0 (dh _ _ e);have go:q7 (cq o) y:=fun e he=>gen e (Sx _ he);have gh:q7 (cq h) y:=fun e he=>gen e (SJ _ he);have e1:=p.prod go gh (xc (nx h 0,nx h (0+1)) y);have e2:=(gA p.vo (p.gI.2 _ g0) fun g hg=>p.mt _ g0 g hg).2 g1 g2 hd;rw[p.one g0] at e2;have e3:cD (fun e=>if xc (nx h 0,nx h (0+1)) y<xc e y then de e y*wM h e else 0) (cq o) = -wr (cq o) (xc (nx h 0,nx h (0+1)) y,y):=by
   rw[gJ go rfl,<-CV];refine bt fun e he=>?_;obtain⟨i,hi,rfl⟩:=Sy.1 he;rw[all i (SM.1 hi),c]
   dsimp only
   by_cases k:xc (nx h 0,nx h (0+1)) y<xc (nx o i,nx o (i+1)) y
   rw[R7 k,R7 k]; omega
   rw[R5 k,R5 k]; rfl
  rw[e3,e2] at e1;omega
 intro e he;obtain⟨i,hi,rfl⟩:=Sy.1 he;rw[all i (SM.1 hi),c0]
def La(r:VB I2)(h0:r≠[]):Lg fun K=>Dl (r.map (sh K)):=by
 obtain⟨M,M0,hM⟩:=(Lg.all (n:=r.length) (P:=fun i M=>-M<(nx r i).2/\(nx r i).2<M) fun i _ =>
  (Lg.ge (max (nx r i).2 (-(nx r i).2)+1)).imp fun M h=>by omega).get
 have hM':∀i,-M<(nx r i).2/\(nx r i).2<M:=fun i=>by
  have:=hM (i%r.length) (SY _ (List.length_pos_iff.2 h0));rwa[jh r (Nat.mod_mod i r.length)] at this
 refine(Lg.ge (2*M)).imp fun K hK i j e=>?_;rw[bf _ h0,bf _ h0] at e ⊢;have a:=hM' i;have b:=hM' j;generalize nx r i=u at *;generalize nx r j=v at *
 congr 1
 unfold sh at e
 dsimp only at e
 have e':K*(v.1-u.1)=u.2-v.2:=by rw[Int.mul_sub]; omega
 rcases Int.lt_trichotomy (v.1-u.1) 0 with g|g|g
 have:=Tf (show v.1-u.1<=-1 by omega) (show 0<=K by omega)
 omega
 rw[g,Int.mul_zero] at e';exact SO (by omega) (by omega)
 have:=Tf (show 1<=v.1-u.1 by omega) (show 0<=K by omega)
 omega
def Pr.clear(p:Pr o h):∀e∈cq o,wM h e=0:=by
 obtain⟨K,hK,d1,d2⟩:=((La o p.vo.ne_nil).and (La h p.vh.ne_nil)).get;have M:=PQ hK;intro e he;rw[<-M.rm p.vh (p.off he)];exact(p.map M).Hv d1 d2 _ (by rw[jJ _ p.vo.ne_nil]; exact List.mem_map_of_mem he)
def Pr.inside(p:Pr o h){q:P2}(go:q7 (cq o) q.2)(gh:q7 (cq h) q.2)(hq:wr (cq h) q≠0):wr (cq o) q≠0:=by
 intro h0;have hE:∃e,e∈cq o++cq h/\(de e q.2≠0/\q.1<xc e q.2):=by
  obtain⟨e,h1,h2⟩:=tl gh hq;exact⟨e,SJ _ h1,h2⟩
 obtain⟨e0,m0,⟨d0,p0⟩,hmin⟩:=hZ (X:=fun e=>xc e q.2) hE;have w1:=pO go p0 fun e he hd hx=>hmin e (Sx _ he) ⟨hd,hx⟩;have w2:=pO gh p0 fun e he hd hx=>hmin e (SJ _ he) ⟨hd,hx⟩;have no:∀e∈cq o,∀g∈cq h,de e q.2≠0->de g q.2≠0->xc e q.2≠xc g q.2:=fun e he g hg d1 d2 =>
  (p.mt g hg e he).symm.KS (p.gI.2 g hg) (p.gI.1 e he) (go e he).1 (go e he).2 (gh g hg).1 (gh g hg).2 d1 d2
 have zero:∀{E:VB Eg} {X:Rat},(∀e∈E,de e q.2≠0->xc e q.2≠X)->cD (fun e=>if xc e q.2=X then de e q.2 else 0) E=0:=fun hn=>dz fun e he=>by
  by_cases hd:de e q.2=0
  rw[hd]; simp
  exact R5 (hn e he hd)
 rcases St.1 m0 with m|m
 rw[zero fun g hg hd k=>no e0 m g hg d0 hd k.symm] at w2;have:=(gA p.vh (p.gI.1 _ m) fun g hg=>(p.mt g hg _ m).symm).2 (go _ m).1 (go _ m).2 d0;rw[p.clear _ m] at this;omega
 rw[zero fun g hg hd k=>no g hg e0 m hd d0 k] at w1;have:=(gA p.vo (p.gI.2 _ m) fun g hg=>p.mt _ m g hg).2 (gh _ m).1 (gh _ m).2 d0;rw[p.one m] at this;omega
end
structure uC(o:VB I2)(hs:VB (VB I2)):Prop where
 vo:VR o
 ao:0<eE o
 pr:∀h∈hs,Pr o h
 mt:∀k j (hk:k<hs.length) (hj:j<hs.length),j≠k->∀e∈cq hs[k],∀g∈cq hs[j],Mt g e
 dis:∀k j (hk:k<hs.length) (hj:j<hs.length),j≠k->∀e∈cq hs[k],jG hs[j] e/\wM hs[j] e=0
def CxOk.RE{fs:VB Fce}(h:CxOk fs){f:Fce}(hf:f∈fs):uC f.o f.hs:=by
 have mt:∀{r r':VB I2},(r=f.o\/r∈f.hs)->(r'=f.o\/r'∈f.hs)->∀e∈cq r,jG r' e->∀g∈cq r',Mt g e:=fun{r r'} hr hr' e he ho g hg =>
  h.zY e (Cl hf (Fj hr he)) g (Cl hf (Fj hr' hg)) (fun k=>ho.pU.1 (k▸hg)) (fun k=>ho.pU.2 (k▸hg))
 refine⟨(h.ro f hf).1,(h.ro f hf).2,fun r hr=>?_,fun k j hk hj hn e he g hg=>?_,fun k j hk hj hn e he=>?_⟩
 obtain⟨k,hk,rfl⟩:=SF.1 hr;exact⟨(h.ro f hf).1,(h.ro f hf).2,(h.rh f hf _ hr).1,(h.rh f hf _ hr).2,fun e he g hg=>mt (.inr hr) (.inl rfl) e he (h.hole f hf k hk e he).1.1 g hg,fun e he=>(h.hole f hf k hk e he).1⟩
 exact mt (.inr (Su hk)) (.inr (Su hj)) e he ((h.hole f hf k hk e he).2 j hj hn).1 g hg
 exact(h.hole f hf k hk e he).2 j hj hn
def uC.map{φ:I2->I2}(M:Mp φ){o:VB I2}{hs:VB (VB I2)}(f:uC o hs):uC (o.map φ) (hs.map (List.map φ)):=by
 obtain⟨c,c0,hc⟩:=M.ar;have hl:(hs.map (List.map φ)).length=hs.length:=Si _;have ne:∀k (hk:k<hs.length),hs[k]≠[]:=fun k hk=>(f.pr _ (Su hk)).vh.ne_nil;refine⟨M.vr f.vo,by rw[hc _ f.vo.ne_nil]; exact TJ c0 f.ao,fun h hh=>?_,fun k j hk hj hn e he g hg=>?_,fun k j hk hj hn e he=>?_⟩
 obtain⟨h',hh',rfl⟩:=Sy.1 hh;exact(f.pr h' hh').map M
 rw[hl] at hk hj;rw[List.getElem_map,jJ _ (ne k hk)] at he;rw[List.getElem_map,jJ _ (ne j hj)] at hg;obtain⟨e',he',rfl⟩:=Sy.1 he;obtain⟨g',hg',rfl⟩:=Sy.1 hg;exact M.mt (f.mt k j hk hj hn e' he' g' hg')
 rw[hl] at hk hj;rw[List.getElem_map,jJ _ (ne k hk)] at he;obtain⟨e',he',rfl⟩:=Sy.1 he;have:=f.dis k j hk hj hn e' he';rw[List.getElem_map];exact⟨M.P6 (ne j hj) this.1,by rw[M.rm (f.pr _ (Su hj)).vh this.1]; exact this.2⟩
def Cw{E:VB Eg}{X y:Rat}(hn:∀e∈E,de e y≠0->xc e y≠X):cD (fun e=>if xc e y=X then de e y else 0) E=0:=dz fun e he=>by
 by_cases hd:de e y=0
 rw[hd]; simp
 exact R5 (hn e he hd)
section
variable{o:VB I2}{hs:VB (VB I2)}
theorem uC.QT(f:uC o hs){k j:Nat}(hk:k<hs.length)(hj:j<hs.length)(hn:j≠k){q:P2}(gk:q7 (cq hs[k]) q.2)(gj:q7 (cq hs[j]) q.2)(h1:wr (cq hs[k]) q≠0)(h2:wr (cq hs[j]) q≠0):False:=by
 have vk:=(f.pr _ (Su hk)).vh;have vj:=(f.pr _ (Su hj)).vh;have hE:∃e,e∈cq hs[k]++cq hs[j]/\(de e q.2≠0/\q.1<xc e q.2):=by
  obtain⟨e,h1,h2⟩:=tl gk h1;exact⟨e,Sx _ h1,h2⟩
 obtain⟨e0,m0,⟨d0,p0⟩,hmin⟩:=hZ (X:=fun e=>xc e q.2) hE;have w1:=pO gk p0 fun e he hd hx=>hmin e (Sx _ he) ⟨hd,hx⟩;have w2:=pO gj p0 fun e he hd hx=>hmin e (SJ _ he) ⟨hd,hx⟩;have no:∀e∈cq hs[k],∀g∈cq hs[j],de e q.2≠0->de g q.2≠0->xc e q.2≠xc g q.2:=fun e he g hg d1 d2 =>
  (f.mt k j hk hj hn e he g hg).KS (je vj hg) (je vk he) (gk e he).1 (gk e he).2 (gj g hg).1 (gj g hg).2 d1 d2
 rcases St.1 m0 with m|m
 rw[Cw fun g hg hd k=>no e0 m g hg d0 hd k.symm] at w2;have:=(gA vj (je vk m) fun g hg=>f.mt k j hk hj hn _ m g hg).2 (gk _ m).1 (gk _ m).2 d0;rw[(f.dis k j hk hj hn _ m).2] at this;omega
 rw[Cw fun g hg hd k=>no g hg e0 m hd d0 k] at w1;have:=(gA vk (je vj m) fun g hg=>f.mt j k hj hk (Ne.symm hn) _ m g hg).2 (gj _ m).1 (gj _ m).2 d0;rw[(f.dis j k hj hk (Ne.symm hn) _ m).2] at this;omega
theorem Ax{α:Type}{f:α->Int}:∀{l:VB α},(∀a∈l,f a=0\/f a = -1)->(∀k j (hk:k<l.length) (hj:j<l.length),j≠k->f l[k]≠0->f l[j]≠0->False)->-1<=cD f l
 | [],_,_=>by show(-1:Int)<=0; decide
 | a::l,h,hd=>by
  rw[cD];rcases h a Sv with e|e
  have:=Ax (fun b hb=>h b (Sf _ hb)) fun k j hk hj hn=>hd (k+1) (j+1) (by simpa using hk) (by simpa using hj) (by omega)
  omega
  rw[dz fun b hb=>?_]
  omega
  obtain⟨j,hj,rfl⟩:=SF.1 hb;refine R8 fun hc=>hd 0 (j+1) (by simp) (by simpa using hj) (by omega) ?_ hc
  show f a≠0
  omega
def EF(o:VB I2)(hs:VB (VB I2)):VB Eg:=(o::hs).flatMap cq
theorem eY{r:VB I2}(hr:r=o\/r∈hs){e:Eg}(he:e∈cq r):e∈EF o hs:=SR.2 ⟨r,by rcases hr with rfl|hr<;>simp[*],he⟩
theorem uC.BW(f:uC o hs){q:P2}(g:q7 (EF o hs) q.2)(ho:OV (EF o hs) q):(wr (cq o) q=0\/wr (cq o) q=1)/\∀h∈hs,wr (cq h) q=0\/wr (cq h) q = -1:=by
 constructor
 obtain⟨s,_,h1,_,_,h2⟩:=s5 f.vo;have:=h2 q (fun e he=>g e (eY (.inl rfl) he)) (fun e he=>ho e (eY (.inl rfl) he));rw[h1 f.ao] at this; exact this
 intro r hr;obtain⟨s,_,_,h1,_,h2⟩:=s5 (f.pr r hr).vh;have:=h2 q (fun e he=>g e (eY (.inr hr) he)) (fun e he=>ho e (eY (.inr hr) he));rw[h1 (f.pr r hr).ah] at this; exact this
theorem uC.nn(f:uC o hs){q:P2}(g:q7 (EF o hs) q.2)(ho:OV (EF o hs) q):0<=wr (cq o) q+cD (fun r=>wr (cq r) q) hs:=by
 obtain⟨h1,h2⟩:=f.BW g ho;have gr:∀{r},(r=o\/r∈hs)->q7 (cq r) q.2:=fun hr e he=>g e (eY hr he);rcases h1 with h1|h1
 rw[dz fun r hr=>?_]
 omega
 exact R8 fun hc=>(f.pr r hr).inside (gr (.inl rfl)) (gr (.inr hr)) hc h1
 have:=Ax (f:=fun r=>wr (cq r) q) h2 fun k j hk hj hn a b=>f.QT hk hj hn (gr (.inr (Su hk))) (gr (.inr (Su hj))) a b;omega
theorem IH{N:Int}{t:Rat}(hN:0<N)(ht:(N:Rat)*t=1){e:Eg}{Q:I2}(hb:¬cC (bE N e.1) (bE N e.2) Q)(g1:(ca e.1).2≠(Q.2:Rat)*t)(g2:(ca e.2).2≠(Q.2:Rat)*t)(hd:de e ((Q.2:Rat)*t)≠0):(Q.1:Rat)*t≠xc e ((Q.2:Rat)*t):=by
 intro hx;obtain⟨s,_,_,hs⟩:=(rf g1 g2).2 hd;have h0:=Iw (q:=((Q.1:Rat)*t,(Q.2:Rat)*t)) hs rfl;rw[sT ht] at h0
 dsimp only at h0
 have sp:=qn hN ht (ti (bE N e.1) (bE N e.2) Q);have hz:((ca e.2).2-(ca e.1).2)*(xc e ((Q.2:Rat)*t)-(Q.1:Rat)*t)=0:=by rw[hx]; grind
 rw[hz] at h0;have h0':ti (bE N e.1) (bE N e.2) Q=0:=by
  have a1:=mt sp.1.2 (by rw[h0]; grind)
  have a2:=mt sp.2.2 (by rw[h0]; grind)
  omega
 refine hb (gP ?_ h0');have r1:=kC hN ht;unfold de dd ca at hd
 dsimp only at hd
 have k:((e.1.2:Rat)<(Q.2:Rat)*t/\(Q.2:Rat)*t<(e.2.2:Rat))\/((e.2.2:Rat)<(Q.2:Rat)*t/\(Q.2:Rat)*t<(e.1.2:Rat)):=by
  by_cases c1:(e.1.2:Rat)<(Q.2:Rat)*t/\(Q.2:Rat)*t<(e.2.2:Rat)
  exact .inl c1
  rw[R5 c1] at hd;exact .inr (R8 fun c2=>hd (R5 c2))
 unfold bE
 dsimp only
 rcases k with⟨a,b⟩|⟨a,b⟩
 exact .inl ⟨(r1 _ _).1.1 (by grind),(r1 _ _).2.1 b⟩
 exact .inr ⟨(r1 _ _).1.1 (by grind),(r1 _ _).2.1 b⟩
theorem E2(E:VB Eg)(hE:∀e∈E,e.1≠e.2)(p:I2):∃q:P2,q7 E q.2/\OV E q/\∀e∈E,we (ca e.1) (ca e.2) q=wi e.1 e.2 p:=by
 obtain⟨K,_,hK⟩:=(Lg.all (n:=E.length) (P:=fun i K=>∀e,E[i]? = some e->e.2.1-e.1.1<K/\e.1.1-e.2.1<K) fun i hi =>
  (Lg.ge (max (E[i].2.1-E[i].1.1) (E[i].1.1-E[i].2.1)+1)).imp fun K h e he=>by rw[R6 hi] at he; cases he; omega).get
 obtain⟨N,hN,h2,hP⟩:=((Lg.ge 2).and (Lg.all (n:=E.length) (P:=fun i N=>∀e,E[i]? = some e->wi (bE N e.1) (bE N e.2) (oa (K,1) (bE N p))=wi e.1 e.2 p/\¬cC (bE N e.1) (bE N e.2) (oa (K,1) (bE N p))) fun i hi=>by
  have k:Lg fun N=>wi (bE N E[i].1) (bE N E[i].2) (oa (K,1) (bE N p))=wi E[i].1 E[i].2 p/\¬cC (bE N E[i].1) (bE N E[i].2) (oa (K,1) (bE N p)):=by
   by_cases hb:cC E[i].1 E[i].2 p
   exact C6 (hE _ (Su hi)) hb (hK i hi _ (R6 hi))
   exact Af hb (show(0:Int)<=1 by decide)
  exact k.imp fun N g e he=>by rw[R6 hi] at he; cases he; exact g)).get
 have hN':(0:Rat)<(N:Rat):=eB.2 hN;have ht:(N:Rat)*(N:Rat)⁻¹=1:=Uj _ (by grind)
 generalize(N:Rat)⁻¹=t at ht;have gen:∀a:I2,(ca a).2≠((oa (K,1) (bE N p)).2:Rat)*t:=fun a k=>by
  have:((a.2*N:Int):Rat)=((oa (K,1) (bE N p)).2:Rat):=by
   unfold ca at k
   dsimp only at k
   rw[Tx,k]
   grind
  have:=Rat.intCast_inj.1 this;unfold oa bE at this
  dsimp only at this
  have:(a.2-p.2)*N=1:=by grind
  have h3:N∣1:=⟨a.2-p.2,by rw[Int.mul_comm]; omega⟩
  have:=Int.le_of_dvd (by decide) h3
  omega
 have at_:∀e∈E,wi (bE N e.1) (bE N e.2) (oa (K,1) (bE N p))=wi e.1 e.2 p/\¬cC (bE N e.1) (bE N e.2) (oa (K,1) (bE N p)):=fun e he=>by
  obtain⟨i,hi,rfl⟩:=SF.1 he;exact hP i hi _ (R6 hi)
 exact⟨(((oa (K,1) (bE N p)).1:Rat)*t,((oa (K,1) (bE N p)).2:Rat)*t),fun e he=>⟨gen _,gen _⟩,fun e he hd=>IH hN ht (at_ e he).2 (gen _) (gen _) hd,fun e he=>by rw[rX hN ht]; exact(at_ e he).1⟩
theorem uC.ne(f:uC o hs):∀e∈EF o hs,e.1≠e.2:=fun e he=>by
 obtain⟨r,h1,h2⟩:=SR.1 he;rcases Sr.1 h1 with rfl|h1
 exact je f.vo h2
 exact je (f.pr r h1).vh h2
theorem uC.Rt(f:uC o hs)(p:I2):0<=cL o p+cD (fun r=>cL r p) hs:=by
 obtain⟨q,g,ho,hq⟩:=E2 (EF o hs) f.ne p;have e1:∀r,(r=o\/r∈hs)->wr (cq r) q=cL r p:=fun r hr=>by
  rw[HL];exact bt fun e hm=>hq e (eY hr hm)
 have:=f.nn g ho;rw[e1 _ (.inl rfl),bt fun r hr=>e1 r (.inr hr)] at this;exact this
theorem uC.RK(f:uC o hs)(p:I2):0<=eK o p+cD (fun r=>eK r p) hs:=by
 have:=(f.map MT).Rt (om p);rw[mn f.vo.ne_nil,gw,bt (g:=fun r=>eK r p) fun r hr=>mn (f.pr r hr).vh.ne_nil p] at this;exact this
theorem Ig{α:Type}{L B:Int}{W H:Nat}(f:α->I2->Int):∀(l:VB α),bx L B W H (fun p=>cD (fun a=>f a p) l)=cD (fun a=>bx L B W H (f a)) l
 | []=>by
  show bx L B W H (fun _=>0)=0
  unfold bx;exact bR fun i _=>bR fun j _=>rfl
 | a::l=>by
  show bx L B W H (fun p=>f a p+cD (fun a=>f a p) l)=_
  rw[xQ,Ig f l]; rfl
theorem M8{r:VB I2}(v:VR r){e g:Eg}(he:e∈cq r)(hg:g∈cq r){y:Rat}(G:q7 (cq r) y)(d1:de e y≠0)(d2:de g y≠0)(hx:xc e y=xc g y):e=g:=by
 obtain⟨t,t0,t1,ht⟩:=(rf (G e he).1 (G e he).2).2 d1;obtain⟨s,s0,s1,hs⟩:=(rf (G g hg).1 (G g hg).2).2 d2;obtain⟨i,hi,rfl⟩:=Sy.1 he;obtain⟨j,hj,rfl⟩:=Sy.1 hg;refine R8 fun hc=>?_;have hij:i≠j:=fun k=>hc (by rw[k])
 have:=v.simple.off (SM.1 hi) (SM.1 hj) hij (t:=t) (s:=t) (by grind) (by grind) (by grind) (by grind) (fun _=>⟨t1,t1⟩) (fun _=>⟨t0,t0⟩)
 dsimp only at ht hs this
 rw[ht] at this;exact Fe this (by rw[hs,hx]) (by grind) (by grind)
theorem DE{r:VB I2}(v:VR r):(cq r).Nodup:=by
 unfold cq;exact List.pairwise_map.2 (List.Pairwise.imp_of_mem (fun{a b} ha hb hn e=>hn (v.inj (SM.1 ha) (SM.1 hb) (SH Prod.fst e))) (List.nodup_range (n:=r.length)))
theorem PZ{r:VB I2}(v:VR r)(ha:0<eE r):∃i,i<r.length/\(nx r i).2≠(nx r (i+1)).2:=by
 refine R8 fun hc=>?_;have eq:∀i,i<r.length->(nx r i).2=(nx r (i+1)).2:=fun i hi=>R8 fun k=>hc ⟨i,hi,k⟩;have all:∀i,i<=r.length->(nx r i).2=(nx r 0).2:=by
  intro i
  induction i with
  | zero=>intro _; rfl
  | succ i ih=>intro hi; rw[<-eq i (by omega)]; exact ih (by omega)
 have t:=kH r.length fun i=>(nx r i).1;rw[lC] at t;have:eE r=aZ r.length fun i=>(-(nx r 0).2)*((nx r (i+1)).1-(nx r i).1):=by
  unfold eE;refine aE fun i hi=>?_;rw[all i (by omega),all (i+1) (by omega)]
  grind
 rw[lU,t] at this;rw[this] at ha;simp at ha
theorem KN(E:VB Eg)(X y:Rat):∃x,x<X/\∀e∈E,xc e y<X->xc e y<x:=by
 by_cases h:∃e,e∈E/\xc e y<X
 obtain⟨a,h1,h2,h3⟩:=hZ (X:=fun e=>-xc e y) h;exact⟨(X+xc a y)/2,by grind,fun e he hx=>by have:=h3 e he hx; grind⟩
 exact⟨X-1,by grind,fun e he hx=>Sw ⟨e,he,hx⟩ h⟩
theorem uC.EH(f:uC o hs):∃q:P2,wr (cq o) q=1/\∀r∈hs,wr (cq r) q=0:=by
 obtain⟨i,hi,hne⟩:=PZ f.vo f.ao;obtain⟨y,g,g1,g2,hd⟩:=sF (EF o hs) (e:=(nx o i,nx o (i+1))) hne;have go:∀{r},(r=o\/r∈hs)->q7 (cq r) y:=fun hr e he=>g e (eY hr he);obtain⟨a,m,da,hmax⟩:=hZ (X:=fun e=>-xc e y) (P:=fun e=>de e y≠0) (l:=EF o hs) ⟨_,eY (.inl rfl) (jK hi),hd⟩;have le:∀e∈EF o hs,de e y≠0->xc e y<=xc a y:=fun e he hd=>by have:=hmax e he hd; grind
 have ao:a∈cq o:=by
  obtain⟨r,h1,h2⟩:=SR.1 m;rcases Sr.1 h1 with rfl|h1
  exact h2
  exfalso;have p:=f.pr r h1;have e2:=(gA p.vo (p.gI.2 _ h2) fun g hg=>p.mt _ h2 g hg).2 (go (.inr h1) a h2).1 (go (.inr h1) a h2).2 da;rw[p.one h2,gJ (go (.inl rfl)) rfl,dz fun e he=>?_] at e2
  exact Sw e2 (by decide)
  by_cases h0:de e y=0
  rw[h0]; simp
  exact R5 (by have:=le e (eY (.inl rfl) he) h0; dsimp only; grind)
 obtain⟨x,hx,hl⟩:=KN (EF o hs) (xc a y) y;have off:OV (EF o hs) (x,y):=fun e he hd k=>by
  dsimp only at hd k
  have:=hl e he (by grind)
  grind
 have zero:∀r∈hs,wr (cq r) (x,y)=0:=fun r hr=>by
  rw[gJ (go (.inr hr)) rfl];refine dz fun e he=>?_
  by_cases h0:de e y=0
  rw[h0]; simp
  refine R5 ?_;have p:=f.pr r hr;have:=(p.mt e he a ao).KS (p.gI.1 a ao) (p.gI.2 e he) (go (.inr hr) e he).1 (go (.inr hr) e he).2 (go (.inl rfl) a ao).1 (go (.inl rfl) a ao).2 h0 da;have:=le e (eY (.inr hr) he) h0;have:=hl e (eY (.inr hr) he) (by grind)
  dsimp only
  grind
 refine⟨(x,y),?_,zero⟩;have e1:wr (cq o) (x,y)=de a y:=by
  rw[gJ (go (.inl rfl)) rfl,C7 (DE f.vo) ao fun b hb hn=>?_]
  exact R7 hx
  by_cases h0:de b y=0
  rw[h0]; simp
  refine R5 ?_;have h1:xc b y≠xc a y:=fun k=>hn (M8 f.vo hb ao (go (.inl rfl)) h0 da k);have:=le b (eY (.inl rfl) hb) h0;have:=hl b (eY (.inl rfl) hb) (by grind)
  dsimp only
  grind
 have:=(f.BW (q:=(x,y)) g off).1;rw[e1] at this ⊢;omega
theorem Ki(q:P2):∃N:Int,0<N/\∃Q:I2,∀t:Rat,(N:Rat)*t=1->q=((Q.1:Rat)*t,(Q.2:Rat)*t):=by
 have pos:∀r:Rat,0<(r.den:Int):=fun r=>by have:=r.den_pos; omega
 have one:∀r:Rat,(((r.den:Int)):Rat)*r=(r.num:Rat):=fun r=>by
  have h:=Rat.num_divInt_den r;rw[Rat.divInt_eq_div,Rat.div_def] at h;have hp:(0:Rat)<((r.den:Int):Rat):=eB.2 (pos r);have hi:=Uj ((r.den:Int):Rat) (by grind)
  generalize(((r.den:Int)):Rat)⁻¹=u at h hi;generalize((r.den:Int):Rat)=d at h hi ⊢;generalize(r.num:Rat)=n at h ⊢;rw[<-h]; grind
 refine⟨(q.1.den:Int)*(q.2.den:Int),TJ (pos _) (pos _),(q.1.num*(q.2.den:Int),q.2.num*(q.1.den:Int)),fun t ht=>?_⟩;have h1:=one q.1;have h2:=one q.2;simp only[Tx] at ht ⊢;generalize(((q.1.den:Int)):Rat)=d1 at *;generalize(((q.2.den:Int)):Rat)=d2 at *;refine SO ?_ ?_
 dsimp only
 rw[<-h1]; grind
 dsimp only
 rw[<-h2]; grind
theorem uC.Nv(f:uC o hs):0<eE o+cD eE hs:=by
 obtain⟨q,q1,q2⟩:=f.EH;obtain⟨N,hN,Q,hq⟩:=Ki q;have hN':(0:Rat)<(N:Rat):=eB.2 hN;have ht:(N:Rat)*(N:Rat)⁻¹=1:=Uj _ (by grind)
 have hq:=hq _ ht;generalize(N:Rat)⁻¹=t at ht hq;have fr:∀{r:VB I2},r≠[]->cL (r.map (bE N)) Q=wr (cq r) q:=fun{r} hr=>by
  rw[hq,tw];unfold cL W;rw[Si];refine aE fun i _=>?_;rw[bf _ hr,bf _ hr];exact(rX hN ht _ _ _).symm
 have F:=f.map (LZ hN);have ne:∀r∈hs,r≠[]:=fun r hr=>(f.pr r hr).vh.ne_nil;have one:cL (o.map (bE N)) Q+cD (fun r=>cL r Q) (hs.map (List.map (bE N)))=1:=by
  rw[fr f.vo.ne_nil,q1,gw,dz fun r hr=>by rw[fr (ne r hr)]; exact q2 r hr]; rfl
 have ars:eE (o.map (bE N))+cD eE (hs.map (List.map (bE N)))=N*N*(eE o+cD eE hs):=by
  rw[wS N f.vo.ne_nil,gw,bt (g:=fun r=>N*N*eE r) fun r hr=>wS N (ne r hr),lz,Ui]
 generalize o.map (bE N)=o' at *;generalize hs.map (List.map (bE N))=hs' at *;have nxm:∀{r:VB I2},r≠[]->∀i,nx r i∈r:=fun{r} hr i=>by
  have hl:i%r.length<r.length:=SY _ (List.length_pos_iff.2 hr);unfold nx;rw[Sc,R6 hl];exact Su hl
 let V:VB I2:=Q::(o'::hs').flatMap id
 obtain⟨K,K0,hK⟩:=(Lg.all (n:=V.length) (P:=fun i K=>∀v,V[i]? = some v->-K<v.1/\v.1<K/\-K<v.2/\v.2<K) fun i hi =>
  (Lg.ge (max (max V[i].1 (-V[i].1)) (max V[i].2 (-V[i].2))+1)).imp fun K h v hv=>by rw[R6 hi] at hv; cases hv; omega).get
 have hV:∀v∈V,Inb (-K) (-K) (2*K).toNat (2*K).toNat v:=fun v hv=>by
  obtain⟨i,hi,rfl⟩:=SF.1 hv;have:=hK i hi _ (R6 hi);exact⟨by omega,by omega,by omega,by omega⟩
 have hb:∀r,(r=o'\/r∈hs')->∀i,Inb (-K) (-K) (2*K).toNat (2*K).toNat (nx r i):=fun r hr i=>by
  have hne:r≠[]:=by
   rcases hr with rfl|hr
   exact F.vo.ne_nil
   exact(F.pr r hr).vh.ne_nil
  refine hV _ (Sf _ (SR.2 ⟨r,?_,nxm hne i⟩));rcases hr with rfl|hr
  exact Sv
  exact Sf _ hr
 have tot:bx (-K) (-K) (2*K).toNat (2*K).toNat (fun p=>(cL o' p+eK o' p)+cD (fun r=>cL r p+eK r p) hs')=eE o'+cD eE hs':=by
  rw[xQ (fun p=>cL o' p+eK o' p),pV (hb o' (.inl rfl)),Ig (fun r p=>cL r p+eK r p),bt fun r hr=>pV (hb r (.inr hr))]
 have hle:bx (-K) (-K) (2*K).toNat (2*K).toNat (fun p=>(if p=Q then 1 else 0) + -((cL o' p+eK o' p)+cD (fun r=>cL r p+eK r p) hs'))<=0:=jN fun i _=>jN fun j _=>by
  have a:=F.Rt (-K+i,-K+j);have b:=F.RK (-K+i,-K+j)
  dsimp only
  rw[k9]
  split
  rename_i c;rw[c] at a b ⊢;omega
  omega
 rw[xQ (fun p=>if p=Q then 1 else 0),Fk (hV Q Sv),yr,tot,ars] at hle
 refine R8 fun hc=>?_;have:=SN (Int.le_of_lt (TJ hN hN)) (show 0<=-(eE o+cD eE hs) by omega)
 rw[Int.mul_neg] at this;omega
end
def CxOk.Nv{fs:VB Fce}(h:CxOk fs){f:Fce}(hf:f∈fs):0<eE f.o+cD eE f.hs:=(h.RE hf).Nv
end Jd
end
section
namespace Go.Proofs.Ytmndpgfbkicndaa
open Go Go.Ab Go.Ab.W Go.Ab.B Jd
def LY(n:Nat)(pts:VB I2)(F:VB Fc)(hn:99999<n):∃r,N4 n pts F=some r/\(r.1<=0->Fcs pts F/\Lk pts F=r):=by
 have no:∀(k v:Int),0<k->((k,v).1<=0->Fcs pts F/\Lk pts F=(k,v)):=fun k v h e=>by dsimp only at e; omega
 unfold N4
 by_cases g1:(pts.length:Int)<3
 simp only[aH g1,ai,lN]; exact⟨_,rfl,no _ _ (by decide)⟩
 by_cases g2:120<(pts.length:Int)
 simp only[aD g1,aH g2,ai,lN]; exact⟨_,rfl,no _ _ (by decide)⟩
 by_cases g3:(F.length:Int)<1
 simp only[aD g1,aD g2,aH g3,ai,lN]; exact⟨_,rfl,no _ _ (by decide)⟩
 by_cases g4:64<(F.length:Int)
 simp only[aD g1,aD g2,aD g3,Sd g4,ai,lN]; exact⟨_,rfl,no _ _ (by decide)⟩
 simp only[aD g1,aD g2,aD g3,Sm g4,ai,jl];rw[F4 n (by omega) (by omega)]
 cases hf:cj (mq pts) (.inr ()) pts.length 0 with
 | inl v =>
  have:=CP v hf;simp only[ai,aH this]; exact⟨_,rfl,no _ _ (by decide)⟩
 | inr u =>
 simp only[ai,aD (show ¬(0:Int)<=-1 by decide)]
 rw[GM n (by omega) (by omega)]
 cases ht:cj (pX pts) (.inr ()) pts.length 0 with
 | inl v=>simp only[ai]; exact⟨_,rfl,no _ _ (by decide)⟩
 | inr u =>
 simp only[ai];have hb:=JT (by omega) hf
 rw[Hc n (by omega) (by omega)]
 cases h4:cj (jv (okF pts.length) F) (.inr ()) F.length 0 with
 | inl v =>
  have:=qI h4;simp only[ai,aH this]; exact⟨_,rfl,no _ _ (by decide)⟩
 | inr u =>
 have ho:Qq pts F:=oV h4;simp only[ai,aD (show ¬(0:Int)<=-1 by decide)]
 rw[Hk n hb ho (by omega) (by omega)]
 cases h5:cj (jv (PM pts) F) (.inr ()) F.length 0 with
 | inl v =>
  have:=qI h5;simp only[ai,aH this]; exact⟨_,rfl,no _ _ (by decide)⟩
 | inr u =>
 have hva:=oV h5;have ha:=fun f hf=>K5 (hva f hf);simp only[ai,aD (show ¬(0:Int)<=-1 by decide)]
 rw[GO n hb ho ha (by omega) (by omega)]
 cases h6:cj (jv (N9 pts) F) (.inr ()) F.length 0 with
 | inl v =>
  have:=qI h6;simp only[ai,aH this]; exact⟨_,rfl,no _ _ (by decide)⟩
 | inr u =>
 have htu:=oV h6;have hc:Fcs pts F:=⟨⟨by omega,by omega⟩,⟨by omega,by omega⟩,hb,KH ht,ho,hva,htu⟩
 simp only[ai,aD (show ¬(0:Int)<=-1 by decide)]
 rw[NU n hc hn];exact⟨Lk pts F,rfl,fun _=>⟨hc,rfl⟩⟩
structure NoF(pts:VB I2)(F:VB Fc):Prop where
 vf:Fcs pts F
 ed:(Lk pts F).1<=0
def Jk(n:Nat)(pts:VB I2)(F:VB Fc)(hn:99999<n):∃r,EP n pts F=some r/\(r=0->NoF pts F):=by
 obtain⟨r,h1,h3⟩:=LY n pts F hn;obtain⟨k,v⟩:=r;unfold EP;rw[h1,ai]
 by_cases c:0<k
 exact⟨150,by dsimp only; rw[aH c],fun h=>by omega⟩
 refine⟨0,by dsimp only; rw[aD c],fun _=>?_⟩
 obtain⟨g1,g2⟩:=h3 (by dsimp only; omega)
 exact⟨g1,by rw[g2]; dsimp only; omega⟩
section
variable{pts:VB I2}{F:VB Fc}(n:Nat)
def Kr(pts:VB I2)(F:VB Fc)(hn:99999<n):∃r,EP n pts F=some r/\F8 n pts F=some (if r=0 then AV (sE F) pts.length else[],r)/\(r=0->NoF pts F):=by
 obtain⟨r,h1,h3⟩:=Jk n pts F hn;refine⟨r,h1,?_,h3⟩;unfold F8;rw[h1,ai]
 by_cases c:r=0
 rw[Sd c,S0,jl,Nc n (h3 c).vf,ai,R7 c,c]
 rw[Sm c,SV,lN,R5 c]
def AO(pts:VB I2)(F:VB Fc)(i:Nat):Int:=cD (fun l=>eE (dG pts l 1)) (ak F i)
def Mb{l:VB I2}(hb:∀i,Nr (nx l i))(h:l.length<=40) : -400000000000000<=eE l/\eE l<=400000000000000:=by
 have key:∀m,m<=40->-(m*10000000000000:Nat)<=aZ m (fun i=>(nx l i).1*(nx l (i+1)).2-(nx l i).2*(nx l (i+1)).1)/\aZ m (fun i=>(nx l i).1*(nx l (i+1)).2-(nx l i).2*(nx l (i+1)).1)<=(m*10000000000000:Nat):=by
  intro m
  induction m with
  | zero=>intro _; simp[aZ]
  | succ m ih =>
   intro hm;obtain⟨a,b⟩:=ih (by omega)
   have p:=hb m;have q:=hb (m+1);unfold Nr at p q;have e1:∀x y:Int,-1000000<=x->x<=1000000->-1000000<=y->y<=1000000->-1000000000000<=x*y/\x*y<=1000000000000:=fun x y h1 h2 h3 h4=>by
    have a1:=SN (show 0<=1000000-x by omega) (show 0<=1000000-y by omega)
    have a2:=SN (show 0<=1000000+x by omega) (show 0<=1000000+y by omega)
    have a3:=SN (show 0<=1000000-x by omega) (show 0<=1000000+y by omega)
    have a4:=SN (show 0<=1000000+x by omega) (show 0<=1000000-y by omega)
    constructor<;>grind
   have m1:=e1 (nx l m).1 (nx l (m+1)).2 (by omega) (by omega) (by omega) (by omega)
   have m2:=e1 (nx l m).2 (nx l (m+1)).1 (by omega) (by omega) (by omega) (by omega)
   unfold aZ
   dsimp only
   omega
 have:=key l.length h;unfold eE;omega
def yo{α:Type}{f:α->Int}:∀{l:VB α},(∀a∈l,-400000000000000<=f a/\f a<=400000000000000)->-((l.length:Int)*400000000000000)<=cD f l/\cD f l<=(l.length:Int)*400000000000000
 | [],_=>by simp[cD]
 | a::l,h=>by
  have h1:=h a Sv;have h2:=yo fun b hb=>h b (Sf _ hb);rw[cD,SS];omega
def vY(h:Fcs pts F){i:Nat}(hi:i<F.length):∀l∈ak F i,-400000000000000<=eE (dG pts l 1)/\eE (dG pts l 1)<=400000000000000:=fun l hl=>by
 obtain⟨e1,e2⟩:=pC h hi l hl;obtain⟨hx,g3,g4⟩:=kh rfl e1;exact Mb (xX h.near hx g3) (by rw[dZ]; omega)
def HO(h:Fcs pts F){i:Nat}(hi:i<F.length) : -3600000000000000<=AO pts F i/\AO pts F i<=3600000000000000:=by
 have h9:=(fA h i).1;have:=yo (vY h hi);unfold AO;omega
def yJ{α:Type}(f:α->Int){l:VB α}{j:Nat}(hj:j<l.length):cD f (l.take (j+1))=cD f (l.take j)+f l[j]:=by
 rw[T9,R6 hj,nA];simp[cD]
def Mh(h:NoF pts F){i:Nat}(hi:i<F.length)(hc:EP n pts F=some 0)(hn:99999<n):F9 n pts F (i:Int)=some (AO pts F i,0):=by
 have hv:=h.vf;have h9:=(fA hv i).1;have ho:=pC hv hi;unfold F9;rw[hc,ai,Sd rfl,S0,jl,aD (by omega),ai,aD (by omega),aA hi,bc,bM (fX hi),ai]
 try dsimp only
 rw[j4 n hv (by omega),ai]
 have key:=ga (B:=DZ n (ak F i) pts F) (len:=(ak F i).length) (fun j (s:Int)=>(s,(j:Int))) (fun j s=>s=cD (fun l=>eE (dG pts l 1)) ((ak F i).take j)) (fun r=>r=AO pts F i) (fun j s hj hs=>.inl ?_) (fun s hs=>⟨s,?_,by rw[hs,List.take_length]; rfl⟩) (ak F i).length 0 0 n (by omega) (by omega) rfl
 obtain⟨r,h1,h2⟩:=key;rw[show bK (DZ n (ak F i) pts F) n (0,0)=some r from h1,ai,h2]
 ·have hy:=R6 hj;have ht:=yJ (fun l=>eE (dG pts l 1)) hj;have hbd:=yo (l:=(ak F i).take j) fun l hl=>vY hv hi l (Tq hl);have hb2:=vY hv hi _ (Su hj);have hlen:((ak F i).take j).length<=9:=by rw[Sq]; omega
  generalize(ak F i)[j]=l at hy ht hb2;obtain⟨e1,e2⟩:=ho l (SA hy);obtain⟨hx,g3,g4⟩:=kh rfl e1;refine⟨s+eE (dG pts l 1),?_,by rw[hs,ht]⟩
  unfold DZ
  try dsimp only
  rw[aH (by omega),aA hj,bc,bM hy,ai,ug n hv.near hx (.inl rfl) (by omega) (by omega),ai,FC n (xX hv.near hx g3) (by rw[dZ]; omega) (by rw[dZ]; omega),ai,av (by omega),aF (by omega) (by omega)]
 ·unfold DZ
  try dsimp only
  rw[aD (by omega)]
end
def qd{P:VB Ed->Ed->Bool}:∀{E d:VB Ed},bO P d E=none->∀a e b,E=a++e::b->P (d++a) e=false
 | [],_,_,a,e,b,h=>by cases a<;>cases h
 | x::E,d,h0,a,e,b,h=>by
  rw[bO] at h0
  by_cases c:P d x=true
  rw[R7 c] at h0; cases h0
  ·rw[R5 c] at h0;cases a with
   | nil =>
    rw[Ty] at h;cases h;rw[SX];exact Bool.eq_false_iff.2 c
   | cons y a =>
    rw[TX] at h;cases h;have:=qd h0 a e b rfl;rwa[S7] at this
def qM{q:Ed->Ed->Bool}{P:VB Ed->Ed->Bool}(hP:∀d e,P d e=d.any (q e)){E:VB Ed}(h:bO P [] E=none):E.Pairwise fun x e=>q e x=false:=by
 rw[List.pairwise_iff_forall_sublist];intro x e hs;obtain⟨a,b,c,rfl⟩:∃a b c:VB Ed,E=a++x::b++e::c:=by
  have key:∀{E:VB Ed},[x,e].Sublist E->∃a b c:VB Ed,E=a++x::b++e::c:=by
   intro E
   induction E with
   | nil=>intro h; cases h
   | cons y E ih =>
    intro h;cases h with
    | cons _ h =>
     obtain⟨a,b,c,rfl⟩:=ih h;exact⟨y::a,b,c,rfl⟩
    | cons_cons _ h =>
     have hm:e∈E:=List.singleton_sublist.1 h;obtain⟨b,c,rfl⟩:=List.append_of_mem hm;exact⟨[],b,c,rfl⟩
  exact key hs
 have:=qd h (a++x::b) e c rfl;rw[Ty,hP,List.any_eq_false] at this;exact Bool.eq_false_iff.2 (this x (by simp))
def y5{q:Ed->Bool}{P:VB Ed->Ed->Bool}(hP:∀d e,P d e=q e){E:VB Ed}(h:bO P [] E=none):∀e∈E,q e=false:=fun e he=>by
 obtain⟨a,b,rfl⟩:=List.append_of_mem he;rw[<-hP _ e];exact qd h a e b rfl
def Ar{pts:VB I2}{F:VB Fc}(h:(Lk pts F).1<=0):bO AP [] (sE F)=none/\bO (zk pts) [] (sE F)=none/\bO (uV pts F) [] (sE F)=none/\bO (zM pts F) [] (sE F)=none:=by
 unfold Lk at h;cases h1:bO AP [] (sE F) with
 | some v=>rw[h1] at h; dsimp only at h; omega
 | none =>
 rw[h1] at h;cases h2:bO (zk pts) [] (sE F) with
 | some v=>rw[h2] at h; dsimp only at h; omega
 | none =>
 rw[h2] at h;cases h3:bO (uV pts F) [] (sE F) with
 | some v=>rw[h3] at h; dsimp only at h; omega
 | none =>
 rw[h3] at h;cases h4:bO (zM pts F) [] (sE F) with
 | some v=>rw[h4] at h; dsimp only at h; omega
 | none=>exact⟨rfl,rfl,rfl,rfl⟩
def ib{α:Type}(g:Nat->VB α):∀k,acc g k=(List.range k).flatMap g
 | 0=>rfl
 | k+1=>by rw[acc,ib g k,List.range_succ,List.flatMap_append]; simp
def uo{α β:Type}(g:α->VB β)(d:α)(l:VB α):((List.range l.length).flatMap fun i=>g (l.getD i d))=l.flatMap g:=by
 have:l=(List.range l.length).map fun i=>l.getD i d:=by
  apply List.ext_getElem
  simp
  intro i h1 h2; simp[h1]
 conv=>rhs; rw[this]
 rw[List.flatMap_map]
def kK{α β:Type}{f g:α->VB β}:∀{l:VB α},(∀a∈l,f a=g a)->l.flatMap f=l.flatMap g
 | [],_=>rfl
 | a::l,h=>by rw[List.flatMap_cons,List.flatMap_cons,h a Sv,kK fun b hb=>h b (Sf _ hb)]
def gE(pts:VB I2)(e:Ed):Eg:=(eO pts e.1,eO pts e.2.1)
def zI(pts:VB I2)(f:Fc):Fce:=⟨dG pts f.1 1,f.2.map fun l=>dG pts l 1⟩
section
variable{pts:VB I2}{F:VB Fc}
def KE{l:VB Int}(h0:l≠[])(i:Nat):nx (dG pts l 1) (i+1)=eO pts (l.getD ((i+1)%l.length) 0):=by
 rw[<-yn (SY _ (List.length_pos_iff.2 h0))];exact jh _ (by rw[dZ,Nat.mod_mod])
def BI{l:VB Int}{f r:Nat}:(rE l f r).map (gE pts)=cq (dG pts l 1):=by
 unfold rE cq;rw[ib,List.map_flatMap,dZ,List.map_eq_flatMap]
 by_cases h0:l=[]
 subst h0; rfl
 refine kK fun i hi=>?_;rw[KE h0,yn (SM.1 hi)]
 rfl
def Nz(rs:Uv)(f:Nat):(fE rs f).map (gE pts)=rs.flatMap fun l=>cq (dG pts l 1):=by
 unfold fE;rw[ib,List.map_flatMap,<-uo (fun l=>cq (dG pts l 1)) [] rs];exact kK fun r _=>BI
def wg(f:Fc):(zI pts f).es=(f.1::f.2).flatMap fun l=>cq (dG pts l 1):=by
 unfold Fce.es zI
 dsimp only
 rw[List.flatMap_cons,List.flatMap_cons,List.flatMap_map]
def G2:(sE F).map (gE pts)=(F.map (zI pts)).flatMap Fce.es:=by
 unfold sE;rw[ib,List.map_flatMap,List.flatMap_map,<-uo (fun f=>(zI pts f).es) ([],[]) F];exact kK fun f _=>by rw[Nz,wg]; rfl
def Hg(hv:Fcs pts F){a b:Int}(ha:0<=a/\a<pts.length)(hb:0<=b/\b<pts.length)(e:eO pts a=eO pts b):a=b:=by
 have key:∀{i j:Nat},i<j->j<pts.length->nx pts i≠nx pts j:=fun{i j} hij hj e=>hv.one j hj (by
  rw[<-e];unfold nx;rw[TO (by omega),Sc,R6 (by omega)]
  exact SF.2 ⟨i,by rw[Sq]; omega,by rw[List.getElem_take]; rfl⟩)
 have pn:∀{a:Int},0<=a/\a<pts.length->eO pts a=nx pts a.toNat:=fun{a} ha=>by
  unfold eO nx;rw[TO (by omega)]
 rw[pn ha,pn hb] at e;rcases Nat.lt_trichotomy a.toNat b.toNat with g|g|g
 exact Sw e (key g (by omega))
 omega
 exact Sw e.symm (key g (by omega))
def JX{l:VB Int}(h0:l≠[])(e:Ed):(∃i,i<(dG pts l 2).length/\cC (nx (dG pts l 2) i) (nx (dG pts l 2) (i+1)) (rC pts e))↔¬jG (dG pts l 1) (gE pts e):=by
 have hne:dG pts l 1≠[]:=fun e=>h0 (SL.1 (by have:=dZ pts l 1; rw[e] at this; exact this.symm))
 have hm:rC pts e=lM (gE pts e):=rfl;unfold jG;rw[hm,yl];constructor
 rintro⟨i,hi,hb⟩ ho;rw[Si] at hi;rw[bf _ hne,bf _ hne] at hb;exact ho _ (jK hi) hb
 intro hn;refine R8 fun hc=>hn fun g hg hb=>hc ?_;obtain⟨i,hi,rfl⟩:=Sy.1 hg;exact⟨i,by rw[Si]; exact SM.1 hi,by rw[bf _ hne,bf _ hne]; exact hb⟩
def s9{l:VB Int}(h0:l≠[])(e:Ed):(side (dG pts l 2) (rC pts e)=2↔jG (dG pts l 1) (gE pts e)/\wM (dG pts l 1) (gE pts e)≠0)/\(side (dG pts l 2) (rC pts e)=0↔jG (dG pts l 1) (gE pts e)/\wM (dG pts l 1) (gE pts e)=0):=by
 have hne:dG pts l 1≠[]:=fun e=>h0 (SL.1 (by have:=dZ pts l 1; rw[e] at this; exact this.symm))
 have hw:cL (dG pts l 2) (rC pts e)=wM (dG pts l 1) (gE pts e):=by rw[rm hne,yl]; rfl
 have ho:=JX (pts:=pts) h0 e;unfold side;rw[hw]
 by_cases c:jG (dG pts l 1) (gE pts e)
 rw[R5 (fun k=>ho.1 k c)]
 by_cases w:wM (dG pts l 1) (gE pts e)=0
 rw[R7 w]; exact⟨⟨fun k=>Sw k (by decide),fun k=>Sw w k.2⟩,⟨fun _=>⟨c,w⟩,fun _=>rfl⟩⟩
 rw[R5 w]; exact⟨⟨fun _=>⟨c,w⟩,fun _=>rfl⟩,⟨fun k=>Sw k (by decide),fun k=>Sw k.2 w⟩⟩
 rw[R7 (ho.2 c)];exact⟨⟨fun k=>Sw k (by decide),fun k=>Sw k.1 c⟩,⟨fun k=>Sw k (by decide),fun k=>Sw k.1 c⟩⟩
def Cy{o:VB Int}{h:Uv}(h0:o≠[])(h1:∀l∈h,l≠[])(e:Ed):Fl pts o h (rC pts e)=true↔(jG (dG pts o 1) (gE pts e)/\wM (dG pts o 1) (gE pts e)≠0)/\∀l∈h,jG (dG pts l 1) (gE pts e)/\wM (dG pts l 1) (gE pts e)=0:=by
 unfold Fl;rw[R9,Sj,(s9 h0 e).1,Sp];refine and_congr_right fun _=>⟨fun k l hl=>(s9 (h1 l hl) e).2.1 (of_decide_eq_true (k l hl)),fun k l hl=>Sd ((s9 (h1 l hl) e).2.2 (k l hl))⟩
def su(hv:Fcs pts F){f:Nat}(hf:f<F.length):∀l∈ak F f,l≠[]:=fun l hl e=>by
 obtain⟨e1,_⟩:=pC hv hf l hl;obtain⟨_,g3,_⟩:=kh rfl e1;rw[e] at g3; simp at g3
def Je{f:Fc}(h:N9 pts f=true)(ha:∀r∈f.1::f.2,eE (dG pts r 1)≠0):0<eE (dG pts f.1 1)/\∀l∈f.2,eE (dG pts l 1)<0:=by
 unfold N9 at h;have hn:∀i,i<(f.1::f.2).length->py pts (f.1::f.2) i=none:=by
  rcases db (f:=py pts (f.1::f.2)) (e:=.inr ()) (f.1::f.2).length 0 with⟨h1,h2⟩|⟨j,_,h2,h3⟩
  exact fun i hi=>h1 i (by omega) (by omega)
  ·exfalso;cases hs:cj (py pts (f.1::f.2)) (.inr ()) (f.1::f.2).length 0 with
   | inl u=>rw[hs] at h; cases h
   | inr u =>
    rw[hs] at h3;unfold py at h3
    split at h3
    split at h3<;>cases h3
    cases h3
 have at_:∀i (hi:i<(f.1::f.2).length),(decide (i=0)==decide (0<eE (dG pts (f.1::f.2)[i] 1)))=true:=fun i hi=>by
  have:=hn i hi;unfold py at this;rw[R6 hi] at this
  dsimp only at this
  refine R8 fun hc=>?_;rw[R5 hc] at this; cases this
 constructor
 have:=at_ 0 (by simp)
 rw[Sd rfl] at this;exact of_decide_eq_true (by simpa using this)
 intro l hl;obtain⟨j,hj,rfl⟩:=SF.1 hl;have:=at_ (j+1) (by simpa using hj)
 rw[Sm (by omega)] at this
 have h1:¬0<eE (dG pts f.2[j] 1):=by
  have:decide (0<eE (dG pts f.2[j] 1))=false:=by simpa using this
  exact of_decide_eq_false this
 have:=ha f.2[j] (Sf _ (Su hj));omega
def yI{x y:Ed}(h:iI pts x y=false)(hs:qa x y=false):Mt (gE pts x) (gE pts y):=by
 unfold iI at h;rw[hs,R5 (by decide)] at h
 unfold Mt gE
 dsimp only
 by_cases c:nj (eO pts x.1) (eO pts x.2.1) (eO pts y.1) (eO pts y.2.1)=1
 rw[R7 c] at h;refine .inr ⟨c,?_⟩;refine R8 fun hc=>?_;have n1:x.1≠y.1:=fun e=>hc (.inl (by rw[e]))
 have n2:x.1≠y.2.1:=fun e=>hc (.inr (.inl (by rw[e])))
 have n3:x.2.1≠y.1:=fun e=>hc (.inr (.inr (.inl (by rw[e]))))
 have n4:x.2.1≠y.2.1:=fun e=>hc (.inr (.inr (.inr (by rw[e]))))
 rw[Sm n1,Sm n2,Sm n3,Sm n4] at h;cases h
 rw[R5 c] at h;exact .inl (of_decide_eq_true (by simpa using h))
def uU{f r:Nat}(hf:f<F.length)(hr:r<(ak F f).length)(h0:(ak F f)[r]≠[]){e:Eg}(he:e∈cq (dG pts (ak F f)[r] 1)):∃x∈sE F,gE pts x=e/\x.2.2.1=(f:Int)/\x.2.2.2=(r:Int):=by
 rw[<-BI (f:=f) (r:=r)] at he;obtain⟨x,hx,rfl⟩:=Sy.1 he;refine⟨x,?_,rfl,?_⟩
 unfold sE fE;rw[ib];refine SR.2 ⟨f,SM.2 hf,?_⟩;rw[ib];refine SR.2 ⟨r,SM.2 hr,?_⟩;rw[Sc,R6 hr];exact hx
 unfold rE at hx;rw[ib] at hx;obtain⟨i,_,hi⟩:=SR.1 hx;rw[Se.1 hi];exact⟨rfl,rfl⟩
def NoF.cx(h:NoF pts F):CxOk (F.map (zI pts)):=by
 have hv:=h.vf;obtain⟨t1,t2,t3,t4⟩:=Ar h.ed;have hS:∀x∈sE F,Bi pts x:=Bb hv (Sa _);have rof:∀f∈F,∃i,i<F.length/\ak F i=f.1::f.2:=fun f hf=>by
  obtain⟨i,hi,rfl⟩:=SF.1 hf;refine⟨i,hi,?_⟩;unfold ak;rw[Sc,R6 hi]; rfl
 have vr:∀f∈F,∀l∈f.1::f.2,VR (dG pts l 1):=fun f hf l hl=>by
  obtain⟨i,hi,e⟩:=rof f hf;exact(xT.1 (pC hv hi l (by rw[e]; exact hl)).2).vr
 have tu:∀f∈F,0<eE (dG pts f.1 1)/\∀l∈f.2,eE (dG pts l 1)<0:=fun f hf=>Je (hv.tu f hf) (K5 (hv.va f hf));have p1:=qM (q:=fun e x=>decide (e.1=x.1)&&decide (e.2.1=x.2.1)) (fun d e=>rfl) t1;have p2:=qM (q:=fun e x=>iI pts e x) (fun d e=>rfl) t2;have p3:=y5 (q:=fun e=>uV pts F [] e) (fun d e=>rfl) t3;have p4:=y5 (q:=fun e=>zM pts F [] e) (fun d e=>rfl) t4;have allE:(F.map (zI pts)).flatMap Fce.es=(sE F).map (gE pts):=G2.symm;have gne:∀x∈sE F,∀y∈sE F,gE pts x=gE pts y->x.1=y.1/\x.2.1=y.2.1:=fun x hx y hy e=>by
  have a:=hS x hx;have b:=hS y hy;unfold gE at e;exact⟨Hg hv a.1 b.1 (SH Prod.fst e),Hg hv a.2.1 b.2.1 (SH Prod.snd e)⟩
 refine⟨fun f hf=>?_,fun f hf l hl=>?_,?_,fun e he g hg h1 h2=>?_,fun f hf k hk e he=>?_,fun i j hi hj hij e he hw=>?_⟩
 obtain⟨f,hf',rfl⟩:=Sy.1 hf;exact⟨vr f hf' _ Sv,(tu f hf').1⟩
 obtain⟨f,hf',rfl⟩:=Sy.1 hf;unfold zI at hl;obtain⟨l',hl',rfl⟩:=Sy.1 hl;exact⟨vr f hf' _ (Sf _ hl'),(tu f hf').2 l' hl'⟩
 rw[allE];refine List.pairwise_map.2 (List.Pairwise.imp_of_mem (fun{x y} hx hy hn e=>?_) p1);obtain⟨a,b⟩:=gne x hx y hy e;rw[Sd a.symm,Sd b.symm] at hn;cases hn
 rw[allE] at he hg;obtain⟨x,hx,rfl⟩:=Sy.1 he;obtain⟨y,hy,rfl⟩:=Sy.1 hg;have ns:∀{x y:Ed},gE pts y≠gE pts x->gE pts y≠((gE pts x).2,(gE pts x).1)->qa x y=false/\qa y x=false:=fun{x y} h1 h2=>by
  have key:∀{x y:Ed},gE pts y≠gE pts x->gE pts y≠((gE pts x).2,(gE pts x).1)->qa x y=false:=fun{x y} h1 h2=>by
   refine Bool.eq_false_iff.2 fun k=>?_;unfold qa at k;rw[Tv,R9,R9] at k;rcases k with⟨a,b⟩|⟨a,b⟩
   exact h1 (by unfold gE; rw[of_decide_eq_true a,of_decide_eq_true b])
   exact h2 (by unfold gE; dsimp only; rw[of_decide_eq_true a,of_decide_eq_true b])
  refine⟨key h1 h2,key (Ne.symm h1) fun k=>h2 ?_⟩;rw[k]
 obtain⟨s1,s2⟩:=ns h1 h2;have hne:x≠y:=fun k=>h1 (by rw[k])
 have:iI pts y x=false\/iI pts x y=false:=by
  obtain⟨i,hi,rfl⟩:=SF.1 hx;obtain⟨j,hj,rfl⟩:=SF.1 hy;rcases Nat.lt_trichotomy i j with k|k|k
  exact .inl (List.pairwise_iff_getElem.1 p2 i j hi hj k)
  subst k; exact Sw rfl hne
  exact .inr (List.pairwise_iff_getElem.1 p2 j i hj hi k)
 rcases this with k|k
 exact yI k s2
 exact(yI k s1).symm
 obtain⟨f,hf',rfl⟩:=Sy.1 hf;obtain⟨i,hi,ei⟩:=rof f hf';have hlen:(zI pts f).hs.length=f.2.length:=by unfold zI; exact Si _
 have hk':k<f.2.length:=by omega
 have hr:k+1<(ak F i).length:=by rw[ei]; simpa using hk'
 have hat:(ak F i)[k+1]=f.2[k]:=by simp[ei]
 have ring:∀j (hj:j<(zI pts f).hs.length),(zI pts f).hs[j]=dG pts (f.2[j]'(by omega)) 1:=fun j hj=>List.getElem_map _
 rw[ring] at he;obtain⟨x,hx,rfl,x1,x2⟩:=uU hi hr (su hv hi _ (Su hr)) (e:=e) (by rw[hat]; exact he)
 have:=p3 x hx;have ne:∀l∈f.1::f.2,l≠[]:=fun l hl=>su hv hi l (by rw[ei]; exact hl)
 unfold uV at this;rw[x1,x2,Sm (by omega),SV,TL] at this
 have hF:F.getD ((i:Int)).toNat ([],[])=f:=by
  rw[SG];unfold ak at ei;have a:=(List.cons.inj ei).1;have b:=(List.cons.inj ei).2;exact SO a b
 rw[hF] at this;have e1:(((k+1:Nat):Int)-1).toNat=k:=by omega
 have e2:((k+1:Nat):Int).toNat=k+1:=by omega
 rw[e1,e2] at this;have this:Fl pts f.1 (f.2.take k++f.2.drop (k+1)) (rC pts x)=true:=by
  cases hc:Fl pts f.1 (f.2.take k++f.2.drop (k+1)) (rC pts x)
  rw[hc] at this; cases this
  rfl
 have:=(Cy (ne _ Sv) (fun l hl=>ne l (Sf _ (by
  rcases St.1 hl with q|q
  exact Tq q
  exact TF q))) x).1 this
 refine⟨this.1,fun j hj hjk=>?_⟩;rw[ring];refine this.2 _ (St.2 ?_);have hj':j<f.2.length:=by omega
 rcases Nat.lt_or_gt_of_ne hjk with q|q
 exact .inl (SF.2 ⟨j,by rw[Sq]; omega,by rw[List.getElem_take]⟩)
 exact .inr (SF.2 ⟨j-(k+1),by rw[SZ]; omega,by rw[List.getElem_drop]; congr 1; omega⟩)
 rw[Si] at hi hj;rw[List.getElem_map] at he hw;have ri:ak F i=F[i].1::F[i].2:=by
  unfold ak;rw[Sc,R6 hi]; rfl
 have rj:F.getD j ([],[])=F[j]:=by rw[Sc,R6 hj]; rfl
 rw[wg] at he;obtain⟨l,hl,hel⟩:=SR.1 he;rw[<-ri] at hl;obtain⟨r,hr,rfl⟩:=SF.1 hl;obtain⟨x,hx,rfl,x1,x2⟩:=uU hi hr (su hv hi _ hl) hel;have:=p4 x hx;unfold zM at this;rw[List.any_eq_false] at this;refine this j (SM.2 hj) ?_;unfold NN;rw[x1,Sm (by omega),SV,TL,rj]
 have rj':ak F j=F[j].1::F[j].2:=by unfold ak; rw[rj]
 have ne:∀l∈F[j].1::F[j].2,l≠[]:=fun l hl=>su hv hj l (by rw[rj']; exact hl)
 refine(Cy (ne _ Sv) (fun l hl=>ne l (Sf _ hl)) x).2 ⟨hw.1,fun l hl=>hw.2 _ ?_⟩;unfold zI;exact Sy.2 ⟨l,hl,rfl⟩
end
end Go.Proofs.Ytmndpgfbkicndaa
end
section
namespace Jd
def VR.ym{r:VB I2}(v:VR r){e:Eg}(h1:e∈cq r)(h2:(e.2,e.1)∈cq r):False:=by
 obtain⟨i,hi,rfl⟩:=Sy.1 h1;obtain⟨j,hj,e⟩:=Sy.1 h2;have hi:=SM.1 hi;have hj:=SM.1 hj;have e1:=SH Prod.fst e;have e2:=SH Prod.snd e
 dsimp only at e1 e2
 have n3:=v.n3;have w:∀k,k<r.length->∃m,m<r.length/\nx r (k+1)=nx r m/\(m=k+1\/m=0/\k+1=r.length):=fun k hk=>by
  by_cases c:k+1<r.length
  exact⟨k+1,c,rfl,.inl rfl⟩
  exact⟨0,by omega,by rw[show k+1=r.length by omega,lC],.inr ⟨rfl,by omega⟩⟩
 obtain⟨a,a1,a2,a3⟩:=w i hi;obtain⟨b,b1,b2,b3⟩:=w j hj;rw[a2] at e1;rw[b2] at e2;have:=v.inj hj a1 e1;have:=v.inj b1 hi e2;omega
def CxOk.ym{fs:VB Fce}(h:CxOk fs){f:Fce}(hf:f∈fs){e:Eg}(h1:e∈f.es)(h2:(e.2,e.1)∈f.es):False:=by
 obtain⟨r,r1,r2⟩:=Hj h1;obtain⟨s,s1,s2⟩:=Hj h2;rcases r1 with rfl|r1
 rcases s1 with rfl|s1
 exact(h.ro f hf).1.ym r2 s2
 obtain⟨k,hk,rfl⟩:=SF.1 s1;exact(h.hole f hf k hk _ s2).1.1.pU.2 r2
 obtain⟨k,hk,rfl⟩:=SF.1 r1;rcases s1 with rfl|s1
 exact(h.hole f hf k hk _ r2).1.1.pU.2 s2
 obtain⟨j,hj,rfl⟩:=SF.1 s1
 by_cases c:j=k
 subst c; exact(h.rh f hf _ r1).1.ym r2 s2
 exact((h.hole f hf k hk _ r2).2 j hj c).1.pU.2 s2
def Bm(e:Eg):Int:=e.1.1*e.2.2-e.1.2*e.2.1
def JZ(r:VB I2):eE r=cD Bm (cq r):=by rw[xm]; rfl
end Jd
namespace Go.Proofs.Ytmndpgfbkicndaa
open Go Go.Ab Go.Ab.W Go.Ab.B Jd
def xd{α:Type}(f:α->Int)(g:Nat->VB α):∀k,cD f (acc g k)=aZ k fun i=>cD f (g i)
 | 0=>rfl
 | k+1=>by rw[acc,nA,aZ,xd f g k]
def cnt(E:VB Ed)(a b:Int):Int:=cD (fun e=>if e.1=a/\e.2.1=b then 1 else 0) E
def Qt(E:VB Ed):Prop:=E.Pairwise fun x e=>¬(e.1=x.1/\e.2.1=x.2.1)
def E4(a b:Int):∀E:VB Ed,Qt E->(∀e∈E,0<=e.2.2.1)->(cnt E a b=if 0<=fc E a b then 1 else 0)/\(fc E a b<0->∀e∈E,¬(e.1=a/\e.2.1=b)):=by
 refine rW (fun _ _=>⟨rfl,fun _ e he=>by cases he⟩) fun E e ih hd h0=>?_
 obtain⟨d1,_,d3⟩:=Tp.1 hd;obtain⟨i1,i2⟩:=ih d1 fun x hx=>h0 x (Sx _ hx);have e0:=h0 e (SJ _ (Se.2 rfl));have ec:cnt (E++[e]) a b=cnt E a b+if e.1=a/\e.2.1=b then 1 else 0:=by unfold cnt; rw[nA]; simp[cD]
 rw[ec,tH]
 by_cases c:e.1=a/\e.2.1=b
 rw[R7 c,R7 c,R7 e0];have:cnt E a b=0:=dz fun x hx=>R5 fun k=>d3 x hx e (Se.2 rfl) ⟨by rw[c.1,k.1],by rw[c.2,k.2]⟩
 exact⟨by omega,fun h=>by omega⟩
 rw[R5 c,R5 c,Int.add_zero];refine⟨i1,fun h x hx=>?_⟩;rcases St.1 hx with hx|hx
 exact i2 h x hx
 rw[Se.1 hx]; exact c
def rN(a b:Int):∀E:VB Ed,fc E a b = -1\/∃e∈E,e.1=a/\e.2.1=b/\e.2.2.1=fc E a b:=by
 refine rW (.inl rfl) fun E e ih=>?_;rw[tH]
 by_cases c:e.1=a/\e.2.1=b
 rw[R7 c];exact .inr ⟨e,SJ _ (Se.2 rfl),c.1,c.2,rfl⟩
 rw[R5 c];rcases ih with h|⟨x,h1,h2⟩
 exact .inl h
 exact .inr ⟨x,Sx _ h1,h2⟩
def K7(E:VB Ed)(h:∀e∈E,0<=e.2.2.1)(a b:Int) : -1<=fc E a b:=by
 rcases rN a b E with k|⟨e,he,_,_,k⟩
 omega
 have:=h e he; omega
section
variable(pts:VB I2)
def cr(a b:Int):Int:=(eO pts a).1*(eO pts b).2-(eO pts a).2*(eO pts b).1
def wv(x:dS):Int:=(if x.2.2.2 = -1 then cr pts x.1 x.2.1 else 0)-(if x.2.2.1 = -1 then cr pts x.1 x.2.1 else 0)
def JK(a b:Int):cr pts b a = -cr pts a b:=by unfold cr; grind
def Kb{E:VB Ed}(h0:∀e∈E,0<=e.2.2.1)(hd:Qt E)(i k:Nat):cD (wv pts) (uG E i k)=(cnt E i k-cnt E k i)*cr pts i k:=by
 have g1:=K7 E h0 i k;have g2:=K7 E h0 k i;rw[(E4 i k E hd h0).1,(E4 k i E hd h0).1];unfold uG
 by_cases c1:0<=fc E i k<;>by_cases c2:0<=fc E k i
 rw[R7 (.inl c1),R7 c1,R7 c2];simp only[cD,wv];rw[UG,UG]; omega
 rw[R7 (.inl c1),R7 c1,R5 c2];simp only[cD,wv];rw[UH,UG]; omega
 rw[R7 (.inr c2),R5 c1,R7 c2];simp only[cD,wv];rw[UG,UH]; omega
 rw[UG,R5 c1,R5 c2]
 simp[cD]
def Du{E:VB Ed}{N:Nat}(hE:∀e∈E,Qj N e)(hd:Qt E):cD (wv pts) (AV E N)=cD (fun e=>cr pts e.1 e.2.1) E:=by
 have h0:∀e∈E,0<=e.2.2.1:=fun e he=>(hE e he).2.2.2.1;unfold AV;rw[xd,aE (g:=fun i=>aZ (N-(i+1)) fun j=>cD (fun e=>((if e.1=(i:Int)/\e.2.1=((i+1+j:Nat):Int) then 1 else 0)-(if e.1=((i+1+j:Nat):Int)/\e.2.1=(i:Int) then 1 else 0))*cr pts (i:Int) ((i+1+j:Nat):Int)) E) fun i hi=>by
  rw[xd];refine aE fun j _=>?_;rw[Kb pts h0 hd];unfold cnt;rw[Ad]
  congr 1
  have:=k9 (fun e:Ed=>if e.1=(i:Int)/\e.2.1=((i+1+j:Nat):Int) then(1:Int) else 0) (fun e:Ed=>-(if e.1=((i+1+j:Nat):Int)/\e.2.1=(i:Int) then(1:Int) else 0)) E
  rw[CV] at this;rw[bt (g:=fun e:Ed=>(if e.1=(i:Int)/\e.2.1=((i+1+j:Nat):Int) then(1:Int) else 0) + -(if e.1=((i+1+j:Nat):Int)/\e.2.1=(i:Int) then(1:Int) else 0)) fun e _=>Int.sub_eq_add_neg,this]
  omega]
 rw[aE (g:=fun i=>cD (fun e=>aZ (N-(i+1)) fun j=>((if e.1=(i:Int)/\e.2.1=((i+1+j:Nat):Int) then 1 else 0)-(if e.1=((i+1+j:Nat):Int)/\e.2.1=(i:Int) then 1 else 0))*cr pts (i:Int) ((i+1+j:Nat):Int)) E) fun i _=>by
  rw[fY,px];exact bt fun e _=>(fY _ _).symm]
 rw[fY,px];refine bt fun e he=>?_;rw[<-fY (fun i=>aZ (N-(i+1)) fun j=>((if e.1=(i:Int)/\e.2.1=((i+1+j:Nat):Int) then 1 else 0)-(if e.1=((i+1+j:Nat):Int)/\e.2.1=(i:Int) then 1 else 0))*cr pts (i:Int) ((i+1+j:Nat):Int)) N]
 obtain⟨⟨a0,aN⟩,⟨b0,bN⟩,ne,_⟩:=hE e he;obtain⟨a,ha⟩:∃a:Nat,e.1=(a:Int):=⟨e.1.toNat,by omega⟩
 obtain⟨b,hb⟩:∃b:Nat,e.2.1=(b:Int):=⟨e.2.1.toNat,by omega⟩
 rw[ha,hb]
 by_cases c:a<b
 rw[fp (k:=a) (by omega) fun i hi hn=>bR fun j hj=>by rw[UG,UG]; simp,fp (k:=b-(a+1)) (by omega) fun j hj hn=>by rw[UG,UG]; simp]
 rw[R7 ⟨rfl,by omega⟩,UG,show a+1+(b-(a+1))=b by omega]; omega
 rw[fp (k:=b) (by omega) fun i hi hn=>bR fun j hj=>by rw[UG,UG]; simp,fp (k:=a-(b+1)) (by omega) fun j hj hn=>by rw[UG,UG]; simp]
 rw[UG,R7 ⟨by omega,rfl⟩,show b+1+(a-(b+1))=a by omega,JK]; omega
end
section
variable{pts:VB I2}{F:VB Fc}
def NoF.dst(h:NoF pts F):Qt (sE F):=by
 have:=qM (q:=fun e x=>decide (e.1=x.1)&&decide (e.2.1=x.2.1)) (fun d e=>rfl) (Ar h.ed).1;refine this.imp fun{x e} hn ⟨a,b⟩=>?_;rw[Sd a,Sd b] at hn;cases hn
def Hl{i:Nat}(hi:i<F.length):AO pts F i=cD Bm (zI pts (F[i])).es/\AO pts F i=eE (zI pts (F[i])).o+cD eE (zI pts (F[i])).hs:=by
 have ri:ak F i=F[i].1::F[i].2:=by
  unfold ak;rw[Sc,R6 hi]; rfl
 constructor
 rw[wg,tQ];unfold AO;rw[ri];exact bt fun l _=>JZ _
 unfold AO zI;rw[ri,cD,gw]
def D1:aZ F.length (AO pts F)=cD (fun e=>cr pts e.1 e.2.1) (sE F):=by
 have e1:cD (fun e=>cr pts e.1 e.2.1) (sE F)=cD Bm ((sE F).map (gE pts)):=by rw[gw]; rfl
 rw[e1,G2,tQ,gw,fY];have:F=(List.range F.length).map fun i=>F.getD i ([],[]):=by
  apply List.ext_getElem
  simp
  intro i h1 h2; simp[h1]
 conv=>rhs; rw[this]
 rw[gw];refine bt fun i hi=>?_;have hi:=SM.1 hi;rw[(Hl hi).1,Sc,R6 hi]; rfl
def NoF.Iu(h:NoF pts F){i:Nat}(hi:i<F.length):0<AO pts F i:=by
 rw[(Hl hi).2];exact h.cx.Nv (Sy.2 ⟨F[i],Su hi,rfl⟩)
def NoF.Q9(h:NoF pts F):aZ F.length (AO pts F)=cD (wv pts) (AV (sE F) pts.length):=by
 rw[D1,Du pts (HT h.vf) h.dst]
def NoF.wall(h:NoF pts F){x:dS}(hx:x∈AV (sE F) pts.length):(0<=x.1/\x.1<x.2.1/\x.2.1<pts.length)/\x.2.2.1≠x.2.2.2/\(-1<=x.2.2.1/\x.2.2.1<F.length)/\(-1<=x.2.2.2/\x.2.2.2<F.length):=by
 obtain⟨i,k,hik,hk,hor,rfl⟩:=xE.1 hx;have h0:∀e∈sE F,0<=e.2.2.1/\e.2.2.1<F.length:=fun e he=>by
  obtain⟨f,r,k,hf,_,_,rfl⟩:=xJ (Sa _) e he;unfold gV; dsimp only; omega
 have b:∀a b,-1<=fc (sE F) a b/\fc (sE F) a b<F.length:=fun a b=>by
  rcases rN a b (sE F) with k|⟨e,he,_,_,k⟩
  omega
  have:=h0 e he; omega
 have b1:=b i k;have b2:=b k i;refine⟨by dsimp only; omega,?_,b1,b2⟩
 dsimp only
 intro e;rcases rN (i:Int) (k:Int) (sE F) with k1|⟨x,hx,x1,x2,x3⟩
 omega
 rcases rN (k:Int) (i:Int) (sE F) with k1|⟨y,hy,y1,y2,y3⟩
 omega
 obtain⟨f,r,j,hf,hr,hj,ex⟩:=xJ (Sa _) x hx;obtain⟨f',r',j',hf',hr',hj',ey⟩:=xJ (Sa _) y hy;have ff:f=f':=by
  rw[ex] at x3;rw[ey] at y3;unfold gV at x3 y3
  dsimp only at x3 y3
  omega
 subst ff;have mem:∀{r j:Nat} {x:Ed},r<(ak F f).length->j<((ak F f).getD r []).length->x=gV ((ak F f).getD r []) f r j->gE pts x ∈(zI pts F[f]).es:=fun{r j x} hr hj ex=>by
  rw[wg];have ri:ak F f=F[f].1::F[f].2:=by
   unfold ak;rw[Sc,R6 hf]; rfl
  rw[<-ri];refine SR.2 ⟨(ak F f).getD r [],?_,?_⟩
  rw[Sc,R6 hr]; exact Su hr
  rw[<-BI (f:=f) (r:=r)];refine Sy.2 ⟨x,?_,rfl⟩;unfold rE;rw[ib];exact SR.2 ⟨j,SM.2 hj,Se.2 ex⟩
 refine h.cx.ym (Sy.2 ⟨F[f],Su hf,rfl⟩) (mem hr hj ex) ?_;have:=mem hr' hj' ey;unfold gE at this ⊢
 dsimp only
 rw[y1,y2] at this;rw[x1,x2];exact this
end
end Go.Proofs.Ytmndpgfbkicndaa
end
section
namespace Go.Proofs.Ytmndpgfbkicndaa
open Go Go.Ab Go.Ab.W
def KG:F6 200000=some true:=by kernel_rfl
end Go.Proofs.Ytmndpgfbkicndaa
end
section
namespace Go.Proofs.Ytmndpgfbkicndaa
open Go Go.Ab Go.Ab.W Go.Ab.B Jd
section
variable{pts:VB I2}{F:VB Fc}(n:Nat)
def Da{f:Nat->Int}:∀{k:Nat},(∀i,i<k->-3600000000000000<=f i/\f i<=3600000000000000)->-((k:Int)*3600000000000000)<=aZ k f/\aZ k f<=(k:Int)*3600000000000000
 | 0,_=>by simp[aZ]
 | k+1,h=>by
  have h1:=Da (k:=k) fun i hi=>h i (by omega)
  have h2:=h k (by omega)
  rw[aZ];omega
def Jm(h:NoF pts F)(hc:EP n pts F=some 0)(hn:99999<n):bK (Ef n F pts) n (0,0)=some (.inr (aZ F.length (AO pts F))):=by
 have hfl:=h.vf.flen;have key:=ga (B:=Ef n F pts) (len:=F.length) (fun i (s:Int)=>(s,(i:Int))) (fun i s=>s=aZ i (AO pts F)) (fun r=>r=.inr (aZ F.length (AO pts F))) (fun i s hi hs=>.inl ?_) (fun s hs=>⟨_,?_,rfl⟩) F.length 0 0 n (by omega) (by omega) rfl
 obtain⟨r,h1,h2⟩:=key; rw[<-h2]; exact h1
 ·have hp:=h.Iu hi;have b1:=HO h.vf hi;have b2:=Da (k:=i) fun j hj=>HO h.vf (i:=j) (by omega)
  refine⟨aZ (i+1) (AO pts F),?_,rfl⟩;unfold Ef
  try dsimp only
  rw[aH (by omega),Mh n h hi hc hn,ai]
  try dsimp only
  rw[Sd rfl,S0,jl,Sm (by omega),ai,jl,av (by omega),hs,aF (by omega) (by omega)]
  rfl
 ·unfold Ef
  try dsimp only
  rw[aD (by omega),hs]
def Lp(hv:Fcs pts F){a:Int}(ha:0<=a/\a<pts.length):∃p,pts[a.toNat]? = some p/\p=eO pts a/\Nr p:=by
 refine⟨eO pts a,?_,rfl,ja hv.near ha⟩;unfold eO;rw[Sc,R6 (by omega)]; rfl
def H4{x y:Int}(h1 : -1000000<=x)(h2:x<=1000000)(h3 : -1000000<=y)(h4:y<=1000000) : -1000000000000<=x*y/\x*y<=1000000000000:=by
 have a1:=SN (show 0<=1000000-x by omega) (show 0<=1000000-y by omega)
 have a2:=SN (show 0<=1000000+x by omega) (show 0<=1000000+y by omega)
 have a3:=SN (show 0<=1000000-x by omega) (show 0<=1000000+y by omega)
 have a4:=SN (show 0<=1000000+x by omega) (show 0<=1000000-y by omega)
 constructor<;>grind
def Ls{a b:Int}(ha:Nr (eO pts a))(hb:Nr (eO pts b)):(-1000000000000<=(eO pts a).1*(eO pts b).2/\(eO pts a).1*(eO pts b).2<=1000000000000)/\(-1000000000000<=(eO pts a).2*(eO pts b).1/\(eO pts a).2*(eO pts b).1<=1000000000000):=by
 unfold Nr at ha hb;exact⟨H4 (by omega) (by omega) (by omega) (by omega),H4 (by omega) (by omega) (by omega) (by omega)⟩
def Kw(h:NoF pts F){W:VB dS}(hW:W=AV (sE F) pts.length)(hn:99999<n):bK (D6 n W pts F) n (0,0)=some (.inr (cD (wv pts) W)):=by
 have hlen:W.length<=14400:=by rw[hW]; exact Dj _ h.vf.len.2
 have wb:∀x∈W,(0<=x.1/\x.1<x.2.1/\x.2.1<pts.length)/\x.2.2.1≠x.2.2.2/\(-1<=x.2.2.1/\x.2.2.1<F.length)/\(-1<=x.2.2.2/\x.2.2.2<F.length):=fun x hx=>h.wall (by rw[<-hW]; exact hx)
 have wvb:∀x∈W,-400000000000000<=wv pts x/\wv pts x<=400000000000000:=fun x hx=>by
  obtain⟨g,_⟩:=wb x hx;have c:=Ls (pts:=pts) (ja h.vf.near (show 0<=x.1/\x.1<pts.length by omega)) (ja h.vf.near (show 0<=x.2.1/\x.2.1<pts.length by omega))
  unfold wv cr
  split<;>split<;>omega
 have key:=ga (B:=D6 n W pts F) (len:=W.length) (fun i (s:Int)=>(s,(i:Int))) (fun i s=>s=cD (wv pts) (W.take i)) (fun r=>r=.inr (cD (wv pts) W)) (fun i s hi hs=>.inl ?_) (fun s hs=>⟨_,?_,rfl⟩) W.length 0 0 n (by omega) (by omega) rfl
 obtain⟨r,h1,h2⟩:=key; rw[<-h2]; exact h1
 ·have hx:=R6 hi;have hm:=Su hi;have ht:=yJ (wv pts) hi;have b2:=yo (l:=W.take i) fun x hx=>wvb x (Tq hx);have hl2:(W.take i).length<=14400:=by rw[Sq]; omega
  generalize W[i]=x at *;have b1:=wvb x hm;obtain⟨g1,g2,g3,g4⟩:=wb x hm;obtain⟨p,p1,p2,p3⟩:=Lp h.vf (show 0<=x.1/\x.1<pts.length by omega)
  obtain⟨q,q1,q2,q3⟩:=Lp h.vf (show 0<=x.2.1/\x.2.1<pts.length by omega)
  have cb:=Ls (pts:=pts) (a:=x.1) (b:=x.2.1) (by rw[<-p2]; exact p3) (by rw[<-q2]; exact q3)
  have ewv:wv pts x=(if x.2.2.2 = -1 then p.1*q.2-p.2*q.1 else 0)-(if x.2.2.1 = -1 then p.1*q.2-p.2*q.1 else 0):=by unfold wv cr; rw[p2,q2]
  rw[<-p2,<-q2] at cb;obtain⟨a,b,L,R⟩:=x
  dsimp only at g1 g2 g3 g4 p1 q1 ewv
  obtain⟨p1',p2'⟩:=p;obtain⟨q1',q2'⟩:=q
  dsimp only at cb ewv
  refine⟨s+wv pts (a,b,L,R),?_,by rw[hs,ht]⟩
  have mL:¬mi L R < -1:=by rw[iE]; omega
  have mR:¬(F.length:Int)<=ma L R:=by unfold ma; split<;>omega
  unfold D6
  try dsimp only
  rw[aH (by omega),aA hi,bc,bM hx,ai]
  try dsimp only
  rw[aD (by omega),aD (by omega),aD (by omega),aD g2,aD mL,Sm mR,ai,jl,show cz a pts.length=true from Sd ⟨g1.1,by omega⟩,bc,p1,ai]
  try dsimp only
  rw[show cz b pts.length=true from Sd ⟨by omega,by omega⟩,bc,q1,ai]
  try dsimp only
  have w1:UE (p1'*q2')=p1'*q2':=aF (by omega) (by omega)
  have w2:UE (p2'*q1')=p2'*q1':=aF (by omega) (by omega)
  have w3:UE (p1'*q2'-p2'*q1')=p1'*q2'-p2'*q1':=aF (by omega) (by omega)
  simp only[ai];rw[w1,w2,w3]
  by_cases c1:R = -1<;>by_cases c2:L = -1
  omega
  ·rw[aH c1,ai,aD c2,ai]
   try dsimp only
   rw[aF (by omega) (by omega),av (by omega),ewv,R7 c1,R5 c2,Int.sub_zero]
  ·rw[aD c1,ai,aH c2,ai]
   try dsimp only
   rw[aF (by omega) (by omega),av (by omega),ewv,R5 c1,R7 c2,Int.zero_sub,Int.sub_eq_add_neg]
  ·rw[aD c1,ai,aD c2,ai]
   try dsimp only
   rw[av (by omega),ewv,R5 c1,R5 c2,Int.sub_zero,Int.add_zero]
 ·unfold D6
  try dsimp only
  rw[aD (by omega),hs,List.take_length]
end
def J6(n:Nat)(x1 x2:Nat)(l3 l7:VB Nat)(x11:Bool)(x12 x13 x14:Nat)(x15 x16 x17:Int)(x18 x19 x20:Nat)(x21 x22 x23:Int)(h13:x13<256)(h14:x14<256)(h19:x19<256)(h20:x20<256)(hn:99999<n)(hw:F6 n=some true) :
  F3 n x1 x2 l3 l7 x11 x12 x13 x14 x15 x16 x17 x18 x19 x20 x21 x22 x23=some true:=by
 unfold F3;obtain⟨c,d,e,h7,_,_,_,_⟩:=Oy n x1 x2 l3 l7 x11 x12 x13 x14 x15 x16 x17 x18 x19 x20 x21 x22 x23 h13 h14 h19 h20 (by omega)
 rw[hw,ai,S0,jl,h7,ai]
 try dsimp only
 have hO:bK (Ee n c.1 c.2 d.1 d.2 e.1 e.2) n 0=some (.inr ()):=by
  have h1:bK (Ee n c.1 c.2 d.1 d.2 e.1 e.2) n 0=some (cj (fun _=>none) (.inr ()) 3 0):=by
   refine dx (len:=3) (fun i hi=>?_) ?_ 3 0 n (by decide) (by omega)
   ·have hi':i < [(c.1,c.2),(d.1,d.2),(e.1,e.2)].length:=hi;have hx:=R6 hi';generalize [(c.1,c.2),(d.1,d.2),(e.1,e.2)][i]=x at hx;obtain⟨p,G⟩:=x;obtain⟨r,a1,a2,a3⟩:=Kr n p G hn;unfold Ee;rw[aH (by omega),aA hi,bc,bM hx,ai]
    try dsimp only
    rw[a2,ai]
    try dsimp only
    by_cases hr:r=0
    ·have h:=a3 hr;rw[Sd hr,S0,jl,R7 hr,Jm n h (by rw[a1,hr]) hn,ai]
     try dsimp only
     rw[Kw n h rfl hn,ai]
     try dsimp only
     rw[h.Q9,Sd rfl,S0,jl,ai]
     try dsimp only
     rw[av (by omega)]
    ·rw[Sm hr,SV,lN,ai]
     try dsimp only
     rw[av (by omega)]
   unfold Ee;rw[aD (by omega)]
  rw[h1]
  rfl
 rw[hO,ai]
end Go.Proofs.Ytmndpgfbkicndaa
end
