/- A part of the proof. -/
import Derived.Test.YtmndpgfbkicndaaCe7
set_option linter.all false
namespace Jd
def ab(a:I2)(y:Rat):Int:=if y<(ca a).2 then 1 else 0
def JU{e:Eg}{y:Rat}(h1:(ca e.1).2≠y)(h2:(ca e.2).2≠y):de e y=ab e.2 y-ab e.1 y:=by
 unfold de dd ab
 by_cases c1:y<(ca e.2).2<;>by_cases c2:y<(ca e.1).2
 rw[U3 (by grind),U3 (by grind),U5 c1,U5 c2]; rfl
 rw[U5 ⟨by grind,c1⟩,U5 c1,U3 c2]; rfl
 rw[U3 (by grind),U5 ⟨by grind,c2⟩,U3 c1,U5 c2]; rfl
 rw[U3 (by grind),U3 (by grind),U3 c1,U3 c2]; rfl
def yd(f:Eg->Int)(r:YB I2):bU f (cp r)=aY r.length fun i=>f (nx r i,nx r (i+1)):=by
 unfold cp;rw[eZ,dG]
def kB{r:YB I2}{i:Nat}(hi:i<r.length):(nx r i,nx r (i+1))∈cp r:=Vi.2 ⟨i,Vy.2 hi,rfl⟩
def LB{r:YB I2}{y:Rat}(g:sW (cp r) y):bU (fun e=>de e y) (cp r)=0:=by
 have e:∀i,i<r.length->de (nx r i,nx r (i+1)) y=ab (nx r (i+1)) y-ab (nx r i) y:=fun i hi=>by
  have k:=g _ (kB hi);exact JU (e:=(nx r i,nx r (i+1))) k.1 k.2
 have t:=j4 r.length fun i=>ab (nx r i) y;rw[yd,ay e,t,lN];omega
def JF(E:YB Eg)(y:Rat):∃x,∀e∈E,x<xc e y:=by
 by_cases h:∃e,e∈E/\True
 obtain⟨a,_,_,h3⟩:=jd (X:=fun e=>xc e y) h;exact⟨xc a y-1,fun e he=>by have:=h3 e he trivial; grind⟩
 exact⟨0,fun e he=>Vr ⟨e,he,trivial⟩ h⟩
def Mt.sep{g e:Eg}(h:Mt g e)(hg:g.1≠g.2)(he:e.1≠e.2){t s:Rat}(t0:0<t)(t1:t<1)(s0:0<s)(s1:s<1):Sep (ca g.1) (ca g.2) (cv (ca e.1) (ca e.2) t) (cv (ca e.1) (ca e.2) s) :=
 HI hg he h t0 t1 s0 s1
def Mt.LX{g e:Eg}(h:Mt g e)(hg:g.1≠g.2)(he:e.1≠e.2){y:Rat}(e1:(ca e.1).2≠y)(e2:(ca e.2).2≠y)(g1:(ca g.1).2≠y)(g2:(ca g.2).2≠y)(de0:de e y≠0)(dg0:de g y≠0):xc e y≠xc g y:=by
 intro hx;obtain⟨t,t0,t1,ht⟩:=(sS e1 e2).2 de0;obtain⟨s,s0,s1,hs⟩:=(sS g1 g2).2 dg0;have:=h.sep hg he t0 t1 t0 t1;rw[ht] at this;exact Hs this (by rw[hs,hx]) (by grind) (by grind)
def gR{r:YB I2}(v:VR r){e:Eg}(he:e.1≠e.2)(h:∀g∈cp r,Mt g e):jV r e/\∀{y:Rat},(ca e.1).2≠y->(ca e.2).2≠y->de e y≠0->wr (cp r) (xc e y,y)=wM r e:=by
 have hh:(0:Rat)<1/2/\(1:Rat)/2<1:=by constructor<;>grind
 refine⟨fun g hg=>Lk (kl v hg) ((h g hg).sep (kl v hg) he hh.1 hh.2 hh.1 hh.2),fun{y} e1 e2 hd=>?_⟩;obtain⟨t,t0,t1,ht⟩:=(sS e1 e2).2 hd;rw[<-ht];exact Ep v fun g hg=>(h g hg).sep (kl v hg) he t0 t1 hh.1 hh.2
def HZ{r:YB I2}(v:VR r){e:Eg}(h:jV r e):(0<fw r->wM r e=0\/wM r e=1)/\(fw r<0->wM r e=0\/wM r e = -1):=by
 obtain⟨s,_,h1,h2,hg,_⟩:=vZ v;have:=hg 2 (by decide) (jL e) fun i hi=>h _ (kB hi)
 rw[oh v.ne_nil];exact⟨fun a=>by rw[h1 a] at this; exact this,fun a=>by rw[h2 a] at this; exact this⟩
section
variable{o h:YB I2}
def Pr.iF(p:Pr o h):(∀e∈cp o,e.1≠e.2)/\∀e∈cp h,e.1≠e.2:=⟨fun _ he=>kl p.vo he,fun _ he=>kl p.vh he⟩
def Pr.one(p:Pr o h){e:Eg}(he:e∈cp h):wM o e=1:=by
 obtain⟨a,b⟩:=p.PG e he;have:=(HZ p.vo a).1 p.ao;omega
def Pr.off(p:Pr o h){e:Eg}(he:e∈cp o):jV h e:=(gR p.vh (p.iF.1 e he) fun g hg=>(p.mt g hg e he).symm).1
def Pr.prod(p:Pr o h){y:Rat}(go:sW (cp o) y)(gh:sW (cp h) y)(x:Rat) :
  wr (cp o) (x,y)*wr (cp h) (x,y)=bU (fun e=>if x<xc e y then de e y*wM h e else 0) (cp o)+wr (cp h) (x,y):=by
 rw[He (fun e he g hg d1 d2=>(p.mt g hg e he).symm.LX (p.iF.2 g hg) (p.iF.1 e he) (go e he).1 (go e he).2 (gh g hg).1 (gh g hg).2 d1 d2) go gh x]
 congr 1
 refine ba fun e he=>?_
 by_cases hd:de e y=0
 rw[hd]; simp
 rw[(gR p.vh (p.iF.1 e he) fun g hg=>(p.mt g hg e he).symm).2 (go e he).1 (go e he).2 hd]
 rw[iu gh rfl];refine ba fun e he=>?_
 by_cases hd:de e y=0
 rw[hd]; simp
 rw[(gR p.vo (p.iF.2 e he) fun g hg=>p.mt e he g hg).2 (gh e he).1 (gh e he).2 hd,p.one he,Int.mul_one]
def Pr.level(p:Pr o h){y:Rat}(go:sW (cp o) y)(gh:sW (cp h) y):bU (fun e=>de e y*wM h e) (cp o)=0:=by
 obtain⟨x,hx⟩:=JF (cp o++cp h) y;have zero:∀{r:YB I2},(∀e∈cp r,x<xc e y)->sW (cp r) y->wr (cp r) (x,y)=0:=fun{r} hx g=>by
  rw[iu g rfl,<-LB g];exact ba fun e he=>U5 (hx e he)
 have:=p.prod go gh x;rw[zero (fun e he=>hx e (Vv _ he)) gh,WT] at this;rw[ba (g:=fun e=>if x<xc e y then de e y*wM h e else 0) fun e he=>(U5 (hx e (Vl _ he))).symm]
 omega
def Dl(r:YB I2):Prop:=∀i j,(nx r i).2=(nx r j).2->nx r i=nx r j
def M8(L:YB Rat)(V:Rat):∃y,V<y/\∀z∈L,V<z->y<z:=by
 by_cases hc:∃z,z∈L/\V<z
 obtain⟨a,h1,h2,h3⟩:=jd (X:=fun z=>z) hc;exact⟨(V+a)/2,by grind,fun z hz hv=>by have:=h3 z hz hv; grind⟩
 exact⟨V+1,by grind,fun z hz hv=>Vr ⟨z,hz,hv⟩ hc⟩
def below(L:YB Rat)(V:Rat):∃y,y<V/\∀z∈L,z<V->z<y:=by
 by_cases hc:∃z,z∈L/\z<V
 obtain⟨a,h1,h2,h3⟩:=jd (X:=fun z=>-z) hc;exact⟨(V+a)/2,by grind,fun z hz hv=>by have:=h3 z hz hv; grind⟩
 exact⟨V-1,by grind,fun z hz hv=>Vr ⟨z,hz,hv⟩ hc⟩
def Pr.next(p:Pr o h)(d:Dl o){i:Nat}(h1:1<=i)(hi:i<o.length):wM h (nx o i,nx o (i+1))=wM h (nx o (i-1),nx o (i-1+1)):=by
 let L:YB Rat:=(cp o++cp h).flatMap fun e=>[(ca e.1).2,(ca e.2).2]
 have inL:∀e,e∈cp o++cp h->(ca e.1).2∈L/\(ca e.2).2∈L:=fun e he=>⟨VI.2 ⟨e,he,by simp⟩,VI.2 ⟨e,he,by simp⟩⟩
 let V:Rat:=(ca (nx o i)).2
 obtain⟨y2,a1,a2⟩:=M8 L V;obtain⟨y1,b1,b2⟩:=below L V;have gen:∀e,e∈cp o++cp h->((ca e.1).2≠y1/\(ca e.2).2≠y1)/\((ca e.1).2≠y2/\(ca e.2).2≠y2):=fun e he=>by
  obtain⟨m1,m2⟩:=inL e he;have key:∀z∈L,z≠y1/\z≠y2:=fun z hz=>by
   have:=a2 z hz;have:=b2 z hz;constructor<;>intro k<;>grind
  exact⟨⟨(key _ m1).1,(key _ m2).1⟩,(key _ m1).2,(key _ m2).2⟩
 have e1:=p.level (y:=y1) (fun e he=>(gen e (Vl _ he)).1) (fun e he=>(gen e (Vv _ he)).1);have e2:=p.level (y:=y2) (fun e he=>(gen e (Vl _ he)).2) (fun e he=>(gen e (Vv _ he)).2);have dab:∀k,k<=o.length->ab (nx o k) y2-ab (nx o k) y1 = -(if nx o k=nx o i then 1 else 0):=fun k hk=>by
  have hm:(ca (nx o k)).2∈L:=by
   have h3:=p.vo.n3;have:=(inL (nx o (k%o.length),nx o (k%o.length+1)) (Vl _ (kB (VM _ (by omega))))).1
   rwa[jh o (Nat.mod_mod k o.length)] at this
  have c1:=a2 _ hm;have c2:=b2 _ hm;unfold ab
  by_cases e:nx o k=nx o i
  rw[U5 e,e,U3 (show ¬y2<V by grind),U5 (show y1<V by grind)]; rfl
  have hne:(ca (nx o k)).2≠V:=fun g=>e (d k i (Rat.intCast_inj.1 g));rw[U3 e]
  by_cases g:V<(ca (nx o k)).2
  rw[U5 (c1 g),U5 (by grind)]; rfl
  rw[U3 (by grind),U3 (by have:=c2 (by grind); grind)]; rfl
 rw[yd] at e1 e2;have e3:=fU o.length (fun j=>de (nx o j,nx o (j+1)) y2*wM h (nx o j,nx o (j+1))) fun j=>de (nx o j,nx o (j+1)) y1*wM h (nx o j,nx o (j+1));rw[e1,e2] at e3;have e4:∀j,j<o.length->de (nx o j,nx o (j+1)) y2*wM h (nx o j,nx o (j+1))-de (nx o j,nx o (j+1)) y1*wM h (nx o j,nx o (j+1)) =
   ((if nx o j=nx o i then 1 else 0)-(if nx o (j+1)=nx o i then 1 else 0))*wM h (nx o j,nx o (j+1)):=fun j hj=>by
  have g:=gen _ (Vl _ (kB hj));have k1:=JU g.1.1 g.1.2;have k2:=JU g.2.1 g.2.2;have k3:=dab j (by omega)
  have k4:=dab (j+1) (by omega)
  rw[<-Int.sub_mul]
  congr 1
  dsimp only at k1 k2
  omega
 rw[ay e4,HM (k:=i-1) (l:=i) (by omega) hi fun j hj n1 n2=>?_] at e3
 rw[show i-1+1=i by omega,U5 rfl,U3 (fun g=>by have:=p.vo.inj (by omega) hi g; omega),U3 (Ne.symm (p.vo.still i))] at e3
 rw[show i-1+1=i by omega]
 omega
 rw[U3 (fun g=>n2 (p.vo.inj hj hi g)),U3]
 simp
 intro g
 by_cases hl:j+1=o.length
 rw[hl,lN] at g;have:=p.vo.inj (by omega) hi g
 omega
 have:=p.vo.inj (by omega) hi g
 omega
def Mr(L:YB Rat){a b:Rat}(hab:a<b):∃y,a<y/\y<b/\∀z∈L,z≠y:=by
 obtain⟨y,h1,h2⟩:=M8 (b::L) a;have:=h2 b Vp hab;refine⟨y,h1,this,fun z hz e=>?_⟩;subst e;have:=h2 z (Ve _ hz) h1
 grind
def uI(E:YB Eg){e:Eg}(h:e.1.2≠e.2.2):∃y,sW E y/\(ca e.1).2≠y/\(ca e.2).2≠y/\de e y≠0:=by
 have key:∀{u w:I2},u.2<w.2->∃y,(∀z ∈(e::E).flatMap fun e=>[(ca e.1).2,(ca e.2).2],z≠y)/\(ca u).2<y/\y<(ca w).2:=fun{u w} h=>by
  obtain⟨y,a,b,c⟩:=Mr ((e::E).flatMap fun e=>[(ca e.1).2,(ca e.2).2]) (dR.2 h:(ca u).2<(ca w).2);exact⟨y,c,a,b⟩
 have fin:∀y,(∀z ∈(e::E).flatMap fun e=>[(ca e.1).2,(ca e.2).2],z≠y)->sW E y/\(ca e.1).2≠y/\(ca e.2).2≠y:=fun y hy =>
  ⟨fun g hg=>⟨hy _ (VI.2 ⟨g,Ve _ hg,by simp⟩),hy _ (VI.2 ⟨g,Ve _ hg,by simp⟩)⟩,
   hy _ (VI.2 ⟨e,Vp,by simp⟩),hy _ (VI.2 ⟨e,Vp,by simp⟩)⟩
 rcases Int.lt_or_gt_of_ne h with g|g
 obtain⟨y,a,b,c⟩:=key g;obtain⟨k1,k2,k3⟩:=fin y a;refine⟨y,k1,k2,k3,?_⟩;unfold de dd;rw[U5 ⟨b,c⟩]; decide
 obtain⟨y,a,b,c⟩:=key g;obtain⟨k1,k2,k3⟩:=fin y a;refine⟨y,k1,k2,k3,?_⟩;unfold de dd;rw[U3 (by grind),U5 ⟨b,c⟩]; decide
def Pr.G9(p:Pr o h)(d:Dl o)(dh:Dl h):∀e∈cp o,wM h e=0:=by
 have all:∀i,i<o.length->wM h (nx o i,nx o (i+1))=wM h (nx o 0,nx o (0+1)):=by
  intro i
  induction i with
  | zero=>intro _; rfl
  | succ i ih=>intro hi; rw[p.next d (by omega) hi,Nat.add_sub_cancel]; exact ih (by omega)
 have h3:=p.vo.n3;have n3:=p.vh.n3;have v0:=(HZ p.vh (p.off (kB (i:=0) (by omega)))).2 p.ah
 have c0:wM h (nx o 0,nx o (0+1))=0:=by
  refine v0.resolve_right fun c=>?_;have g0:(nx h 0,nx h (0+1))∈cp h:=kB (by omega)
  obtain⟨y,gen,g1,g2,hd⟩:=uI (cp o++cp h) (e:=(nx h 0,nx h (0+1))) fun e=>p.vh.still 0 (dh _ _ e);have go:sW (cp o) y:=fun e he=>gen e (Vl _ he);have gh:sW (cp h) y:=fun e he=>gen e (Vv _ he);have e1:=p.prod go gh (xc (nx h 0,nx h (0+1)) y);have e2:=(gR p.vo (p.iF.2 _ g0) fun g hg=>p.mt _ g0 g hg).2 g1 g2 hd;rw[p.one g0] at e2;have e3:bU (fun e=>if xc (nx h 0,nx h (0+1)) y<xc e y then de e y*wM h e else 0) (cp o) = -wr (cp o) (xc (nx h 0,nx h (0+1)) y,y):=by
   rw[iu go rfl,<-yJ];refine ba fun e he=>?_;obtain⟨i,hi,rfl⟩:=Vi.1 he;rw[all i (Vy.1 hi),c]
   dsimp only
   by_cases k:xc (nx h 0,nx h (0+1)) y<xc (nx o i,nx o (i+1)) y
   rw[U5 k,U5 k]; omega
   rw[U3 k,U3 k]; rfl
  rw[e3,e2] at e1;omega
 intro e he;obtain⟨i,hi,rfl⟩:=Vi.1 he;rw[all i (Vy.1 hi),c0]
def Nj(r:YB I2)(h0:r≠[]):Lg fun K=>Dl (r.map (sh K)):=by
 obtain⟨M,M0,hM⟩:=(Lg.all (n:=r.length) (P:=fun i M=>-M<(nx r i).2/\(nx r i).2<M) fun i _ =>
  (Lg.ge (max (nx r i).2 (-(nx r i).2)+1)).imp fun M h=>by omega).get
 have hM':∀i,-M<(nx r i).2/\(nx r i).2<M:=fun i=>by
  have:=hM (i%r.length) (VM _ (Xp.2 h0));rwa[jh r (Nat.mod_mod i r.length)] at this
 refine(Lg.ge (2*M)).imp fun K hK i j e=>?_;rw[bh _ h0,bh _ h0] at e ⊢;have a:=hM' i;have b:=hM' j;generalize nx r i=u at *;generalize nx r j=v at *
 congr 1
 unfold sh at e
 dsimp only at e
 have e':K*(v.1-u.1)=u.2-v.2:=by rw[XA]; omega
 rcases W4 (v.1-u.1) 0 with g|g|g
 have:=We (show v.1-u.1<=-1 by omega) (show 0<=K by omega)
 omega
 rw[g,WT] at e';exact VN (by omega) (by omega)
 have:=We (show 1<=v.1-u.1 by omega) (show 0<=K by omega)
 omega
def Pr.clear(p:Pr o h):∀e∈cp o,wM h e=0:=by
 obtain⟨K,hK,d1,d2⟩:=((Nj o p.vo.ne_nil).and (Nj h p.vh.ne_nil)).get;have M:=QL hK;intro e he;rw[<-M.oh p.vh (p.off he)];exact(p.map M).G9 d1 d2 _ (by rw[kC _ p.vo.ne_nil]; exact List.mem_map_of_mem he)
def Pr.inside(p:Pr o h){q:P2}(go:sW (cp o) q.2)(gh:sW (cp h) q.2)(hq:wr (cp h) q≠0):wr (cp o) q≠0:=by
 intro h0;have hE:∃e,e∈cp o++cp h/\(de e q.2≠0/\q.1<xc e q.2):=by
  obtain⟨e,h1,h2⟩:=u1 gh hq;exact⟨e,Vv _ h1,h2⟩
 obtain⟨e0,m0,⟨d0,p0⟩,hmin⟩:=jd (X:=fun e=>xc e q.2) hE;have w1:=q5 go p0 fun e he hd hx=>hmin e (Vl _ he) ⟨hd,hx⟩;have w2:=q5 gh p0 fun e he hd hx=>hmin e (Vv _ he) ⟨hd,hx⟩;have no:∀e∈cp o,∀g∈cp h,de e q.2≠0->de g q.2≠0->xc e q.2≠xc g q.2:=fun e he g hg d1 d2 =>
  (p.mt g hg e he).symm.LX (p.iF.2 g hg) (p.iF.1 e he) (go e he).1 (go e he).2 (gh g hg).1 (gh g hg).2 d1 d2
 have zero:∀{E:YB Eg} {X:Rat},(∀e∈E,de e q.2≠0->xc e q.2≠X)->bU (fun e=>if xc e q.2=X then de e q.2 else 0) E=0:=fun hn=>cO fun e he=>by
  by_cases hd:de e q.2=0
  rw[hd]; simp
  exact U3 (hn e he hd)
 rcases Vq.1 m0 with m|m
 rw[zero fun g hg hd k=>no e0 m g hg d0 hd k.symm] at w2;have:=(gR p.vh (p.iF.1 _ m) fun g hg=>(p.mt g hg _ m).symm).2 (go _ m).1 (go _ m).2 d0;rw[p.clear _ m] at this;omega
 rw[zero fun g hg hd k=>no g hg e0 m hd d0 k] at w1;have:=(gR p.vo (p.iF.2 _ m) fun g hg=>p.mt _ m g hg).2 (gh _ m).1 (gh _ m).2 d0;rw[p.one m] at this;omega
end
structure wW(o:YB I2)(hs:YB (YB I2)):Prop where
 vo:VR o
 ao:0<fw o
 pr:∀h∈hs,Pr o h
 mt:∀k j (hk:k<hs.length) (hj:j<hs.length),j≠k->∀e∈cp hs[k],∀g∈cp hs[j],Mt g e
 dis:∀k j (hk:k<hs.length) (hj:j<hs.length),j≠k->∀e∈cp hs[k],jV hs[j] e/\wM hs[j] e=0
def CxOk.UK{fs:YB Fce}(h:CxOk fs){f:Fce}(hf:f∈fs):wW f.o f.hs:=by
 have mt:∀{r r':YB I2},(r=f.o\/r∈f.hs)->(r'=f.o\/r'∈f.hs)->∀e∈cp r,jV r' e->∀g∈cp r',Mt g e:=fun{r r'} hr hr' e he ho g hg =>
  h.A7 e (EI hf (H8 hr he)) g (EI hf (H8 hr' hg)) (fun k=>ho.ph.1 (k▸hg)) (fun k=>ho.ph.2 (k▸hg))
 refine⟨(h.ro f hf).1,(h.ro f hf).2,fun r hr=>?_,fun k j hk hj hn e he g hg=>?_,fun k j hk hj hn e he=>?_⟩
 obtain⟨k,hk,rfl⟩:=Vz.1 hr;exact⟨(h.ro f hf).1,(h.ro f hf).2,(h.rh f hf _ hr).1,(h.rh f hf _ hr).2,fun e he g hg=>mt (.inr hr) (.inl rfl) e he (h.hole f hf k hk e he).1.1 g hg,fun e he=>(h.hole f hf k hk e he).1⟩
 exact mt (.inr (Vg hk)) (.inr (Vg hj)) e he ((h.hole f hf k hk e he).2 j hj hn).1 g hg
 exact(h.hole f hf k hk e he).2 j hj hn
def wW.map{φ:I2->I2}(M:Mp φ){o:YB I2}{hs:YB (YB I2)}(f:wW o hs):wW (o.map φ) (hs.map (List.map φ)):=by
 obtain⟨c,c0,hc⟩:=M.ar;have hl:(hs.map (List.map φ)).length=hs.length:=Vf _;have ne:∀k (hk:k<hs.length),hs[k]≠[]:=fun k hk=>(f.pr _ (Vg hk)).vh.ne_nil;refine⟨M.vr f.vo,by rw[hc _ f.vo.ne_nil]; exact Wq c0 f.ao,fun h hh=>?_,fun k j hk hj hn e he g hg=>?_,fun k j hk hj hn e he=>?_⟩
 obtain⟨h',hh',rfl⟩:=Vi.1 hh;exact(f.pr h' hh').map M
 rw[hl] at hk hj;rw[Xd,kC _ (ne k hk)] at he;rw[Xd,kC _ (ne j hj)] at hg;obtain⟨e',he',rfl⟩:=Vi.1 he;obtain⟨g',hg',rfl⟩:=Vi.1 hg;exact M.mt (f.mt k j hk hj hn e' he' g' hg')
 rw[hl] at hk hj;rw[Xd,kC _ (ne k hk)] at he;obtain⟨e',he',rfl⟩:=Vi.1 he;have:=f.dis k j hk hj hn e' he';rw[Xd];exact⟨M.Sa (ne j hj) this.1,by rw[M.oh (f.pr _ (Vg hj)).vh this.1]; exact this.2⟩
def E1{E:YB Eg}{X y:Rat}(hn:∀e∈E,de e y≠0->xc e y≠X):bU (fun e=>if xc e y=X then de e y else 0) E=0:=cO fun e he=>by
 by_cases hd:de e y=0
 rw[hd]; simp
 exact U3 (hn e he hd)
section
variable{o:YB I2}{hs:YB (YB I2)}
theorem wW.T6(f:wW o hs){k j:Nat}(hk:k<hs.length)(hj:j<hs.length)(hn:j≠k){q:P2}(gk:sW (cp hs[k]) q.2)(gj:sW (cp hs[j]) q.2)(h1:wr (cp hs[k]) q≠0)(h2:wr (cp hs[j]) q≠0):False:=by
 have vk:=(f.pr _ (Vg hk)).vh;have vj:=(f.pr _ (Vg hj)).vh;have hE:∃e,e∈cp hs[k]++cp hs[j]/\(de e q.2≠0/\q.1<xc e q.2):=by
  obtain⟨e,h1,h2⟩:=u1 gk h1;exact⟨e,Vl _ h1,h2⟩
 obtain⟨e0,m0,⟨d0,p0⟩,hmin⟩:=jd (X:=fun e=>xc e q.2) hE;have w1:=q5 gk p0 fun e he hd hx=>hmin e (Vl _ he) ⟨hd,hx⟩;have w2:=q5 gj p0 fun e he hd hx=>hmin e (Vv _ he) ⟨hd,hx⟩;have no:∀e∈cp hs[k],∀g∈cp hs[j],de e q.2≠0->de g q.2≠0->xc e q.2≠xc g q.2:=fun e he g hg d1 d2 =>
  (f.mt k j hk hj hn e he g hg).LX (kl vj hg) (kl vk he) (gk e he).1 (gk e he).2 (gj g hg).1 (gj g hg).2 d1 d2
 rcases Vq.1 m0 with m|m
 rw[E1 fun g hg hd k=>no e0 m g hg d0 hd k.symm] at w2;have:=(gR vj (kl vk m) fun g hg=>f.mt k j hk hj hn _ m g hg).2 (gk _ m).1 (gk _ m).2 d0;rw[(f.dis k j hk hj hn _ m).2] at this;omega
 rw[E1 fun g hg hd k=>no g hg e0 m hd d0 k] at w1;have:=(gR vk (kl vj m) fun g hg=>f.mt j k hj hk (Ne.symm hn) _ m g hg).2 (gj _ m).1 (gj _ m).2 d0;rw[(f.dis j k hj hk (Ne.symm hn) _ m).2] at this;omega
theorem Bs{α:Type}{f:α->Int}:∀{l:YB α},(∀a∈l,f a=0\/f a = -1)->(∀k j (hk:k<l.length) (hj:j<l.length),j≠k->f l[k]≠0->f l[j]≠0->False)->-1<=bU f l
 | [],_,_=>by show(-1:Int)<=0; decide
 | a::l,h,hd=>by
  rw[bU];rcases h a Vp with e|e
  have:=Bs (fun b hb=>h b (Ve _ hb)) fun k j hk hj hn=>hd (k+1) (j+1) (by simpa using hk) (by simpa using hj) (by omega)
  omega
  rw[cO fun b hb=>?_]
  omega
  obtain⟨j,hj,rfl⟩:=Vz.1 hb;refine U6 fun hc=>hd 0 (j+1) (by simp) (by simpa using hj) (by omega) ?_ hc
  show f a≠0
  omega
def Gr(o:YB I2)(hs:YB (YB I2)):YB Eg:=(o::hs).flatMap cp
theorem fx{r:YB I2}(hr:r=o\/r∈hs){e:Eg}(he:e∈cp r):e∈Gr o hs:=VI.2 ⟨r,by rcases hr with rfl|hr<;>simp[*],he⟩
theorem wW.CD(f:wW o hs){q:P2}(g:sW (Gr o hs) q.2)(ho:SD (Gr o hs) q):(wr (cp o) q=0\/wr (cp o) q=1)/\∀h∈hs,wr (cp h) q=0\/wr (cp h) q = -1:=by
 constructor
 obtain⟨s,_,h1,_,_,h2⟩:=vZ f.vo;have:=h2 q (fun e he=>g e (fx (.inl rfl) he)) (fun e he=>ho e (fx (.inl rfl) he));rw[h1 f.ao] at this; exact this
 intro r hr;obtain⟨s,_,_,h1,_,h2⟩:=vZ (f.pr r hr).vh;have:=h2 q (fun e he=>g e (fx (.inr hr) he)) (fun e he=>ho e (fx (.inr hr) he));rw[h1 (f.pr r hr).ah] at this; exact this
theorem wW.nn(f:wW o hs){q:P2}(g:sW (Gr o hs) q.2)(ho:SD (Gr o hs) q):0<=wr (cp o) q+bU (fun r=>wr (cp r) q) hs:=by
 obtain⟨h1,h2⟩:=f.CD g ho;have gr:∀{r},(r=o\/r∈hs)->sW (cp r) q.2:=fun hr e he=>g e (fx hr he);rcases h1 with h1|h1
 rw[cO fun r hr=>?_]
 omega
 exact U6 fun hc=>(f.pr r hr).inside (gr (.inl rfl)) (gr (.inr hr)) hc h1
 have:=Bs (f:=fun r=>wr (cp r) q) h2 fun k j hk hj hn a b=>f.T6 hk hj hn (gr (.inr (Vg hk))) (gr (.inr (Vg hj))) a b;omega
theorem IY{N:Int}{t:Rat}(hN:0<N)(ht:(N:Rat)*t=1){e:Eg}{Q:I2}(hb:¬cD (bK N e.1) (bK N e.2) Q)(g1:(ca e.1).2≠(Q.2:Rat)*t)(g2:(ca e.2).2≠(Q.2:Rat)*t)(hd:de e ((Q.2:Rat)*t)≠0):(Q.1:Rat)*t≠xc e ((Q.2:Rat)*t):=by
 intro hx;obtain⟨s,_,_,hs⟩:=(sS g1 g2).2 hd;have h0:=HG (q:=((Q.1:Rat)*t,(Q.2:Rat)*t)) hs rfl;rw[uU ht] at h0
 dsimp only at h0
 have sp:=rY hN ht (ti (bK N e.1) (bK N e.2) Q);have hz:((ca e.2).2-(ca e.1).2)*(xc e ((Q.2:Rat)*t)-(Q.1:Rat)*t)=0:=by rw[hx]; grind
 rw[hz] at h0;have h0':ti (bK N e.1) (bK N e.2) Q=0:=by
  have a1:=mt sp.1.2 (by rw[h0]; grind)
  have a2:=mt sp.2.2 (by rw[h0]; grind)
  omega
 refine hb (iz ?_ h0');have r1:=k6 hN ht;unfold de dd ca at hd
 dsimp only at hd
 have k:((e.1.2:Rat)<(Q.2:Rat)*t/\(Q.2:Rat)*t<(e.2.2:Rat))\/((e.2.2:Rat)<(Q.2:Rat)*t/\(Q.2:Rat)*t<(e.1.2:Rat)):=by
  by_cases c1:(e.1.2:Rat)<(Q.2:Rat)*t/\(Q.2:Rat)*t<(e.2.2:Rat)
  exact .inl c1
  rw[U3 c1] at hd;exact .inr (U6 fun c2=>hd (U3 c2))
 unfold bK
 dsimp only
 rcases k with⟨a,b⟩|⟨a,b⟩
 exact .inl ⟨(r1 _ _).1.1 (by grind),(r1 _ _).2.1 b⟩
 exact .inr ⟨(r1 _ _).1.1 (by grind),(r1 _ _).2.1 b⟩
theorem Kb(E:YB Eg)(hE:∀e∈E,e.1≠e.2)(p:I2):∃q:P2,sW E q.2/\SD E q/\∀e∈E,we (ca e.1) (ca e.2) q=wi e.1 e.2 p:=by
 obtain⟨K,_,hK⟩:=(Lg.all (n:=E.length) (P:=fun i K=>∀e,E[i]? = some e->e.2.1-e.1.1<K/\e.1.1-e.2.1<K) fun i hi =>
  (Lg.ge (max (E[i].2.1-E[i].1.1) (E[i].1.1-E[i].2.1)+1)).imp fun K h e he=>by rw[U4 hi] at he; cases he; omega).get
 obtain⟨N,hN,h2,hP⟩:=((Lg.ge 2).and (Lg.all (n:=E.length) (P:=fun i N=>∀e,E[i]? = some e->wi (bK N e.1) (bK N e.2) (pw (K,1) (bK N p))=wi e.1 e.2 p/\¬cD (bK N e.1) (bK N e.2) (pw (K,1) (bK N p))) fun i hi=>by
  have k:Lg fun N=>wi (bK N E[i].1) (bK N E[i].2) (pw (K,1) (bK N p))=wi E[i].1 E[i].2 p/\¬cD (bK N E[i].1) (bK N E[i].2) (pw (K,1) (bK N p)):=by
   by_cases hb:cD E[i].1 E[i].2 p
   exact Ee (hE _ (Vg hi)) hb (hK i hi _ (U4 hi))
   exact AI hb (show(0:Int)<=1 by decide)
  exact k.imp fun N g e he=>by rw[U4 hi] at he; cases he; exact g)).get
 have hN':(0:Rat)<(N:Rat):=eJ.2 hN;have ht:(N:Rat)*(N:Rat)⁻¹=1:=Xv _ (by grind)
 generalize(N:Rat)⁻¹=t at ht;have gen:∀a:I2,(ca a).2≠((pw (K,1) (bK N p)).2:Rat)*t:=fun a k=>by
  have:((a.2*N:Int):Rat)=((pw (K,1) (bK N p)).2:Rat):=by
   unfold ca at k
   dsimp only at k
   rw[Wu,k]
   grind
  have:=Rat.intCast_inj.1 this;unfold pw bK at this
  dsimp only at this
  have:(a.2-p.2)*N=1:=by grind
  have h3:N∣1:=⟨a.2-p.2,by rw[Int.mul_comm]; omega⟩
  have:=Int.le_of_dvd (by decide) h3
  omega
 have at_:∀e∈E,wi (bK N e.1) (bK N e.2) (pw (K,1) (bK N p))=wi e.1 e.2 p/\¬cD (bK N e.1) (bK N e.2) (pw (K,1) (bK N p)):=fun e he=>by
  obtain⟨i,hi,rfl⟩:=Vz.1 he;exact hP i hi _ (U4 hi)
 exact⟨(((pw (K,1) (bK N p)).1:Rat)*t,((pw (K,1) (bK N p)).2:Rat)*t),fun e he=>⟨gen _,gen _⟩,fun e he hd=>IY hN ht (at_ e he).2 (gen _) (gen _) hd,fun e he=>by rw[ui hN ht]; exact(at_ e he).1⟩
theorem wW.ne(f:wW o hs):∀e∈Gr o hs,e.1≠e.2:=fun e he=>by
 obtain⟨r,h1,h2⟩:=VI.1 he;rcases Vu.1 h1 with rfl|h1
 exact kl f.vo h2
 exact kl (f.pr r h1).vh h2
theorem wW.Ud(f:wW o hs)(p:I2):0<=cJ o p+bU (fun r=>cJ r p) hs:=by
 obtain⟨q,g,ho,hq⟩:=Kb (Gr o hs) f.ne p;have e1:∀r,(r=o\/r∈hs)->wr (cp r) q=cJ r p:=fun r hr=>by
  rw[IT];exact ba fun e hm=>hq e (fx hr hm)
 have:=f.nn g ho;rw[e1 _ (.inl rfl),ba fun r hr=>e1 r (.inr hr)] at this;exact this
theorem wW.UW(f:wW o hs)(p:I2):0<=fu o p+bU (fun r=>fu r p) hs:=by
 have:=(f.map OI).Ud (pX p);rw[mY f.vo.ne_nil,eZ,ba (g:=fun r=>fu r p) fun r hr=>mY (f.pr r hr).vh.ne_nil p] at this;exact this
theorem GX{α:Type}{L B:Int}{W H:Nat}(f:α->I2->Int):∀(l:YB α),bx L B W H (fun p=>bU (fun a=>f a p) l)=bU (fun a=>bx L B W H (f a)) l
 | []=>by
  show bx L B W H (fun _=>0)=0
  unfold bx;exact bw fun i _=>bw fun j _=>rfl
 | a::l=>by
  show bx L B W H (fun p=>f a p+bU (fun a=>f a p) l)=_
  rw[Aa,GX f l]; rfl
theorem OP{r:YB I2}(v:VR r){e g:Eg}(he:e∈cp r)(hg:g∈cp r){y:Rat}(G:sW (cp r) y)(d1:de e y≠0)(d2:de g y≠0)(hx:xc e y=xc g y):e=g:=by
 obtain⟨t,t0,t1,ht⟩:=(sS (G e he).1 (G e he).2).2 d1;obtain⟨s,s0,s1,hs⟩:=(sS (G g hg).1 (G g hg).2).2 d2;obtain⟨i,hi,rfl⟩:=Vi.1 he;obtain⟨j,hj,rfl⟩:=Vi.1 hg;refine U6 fun hc=>?_;have hij:i≠j:=fun k=>hc (by rw[k])
 have:=v.simple.off (Vy.1 hi) (Vy.1 hj) hij (t:=t) (s:=t) (by grind) (by grind) (by grind) (by grind) (fun _=>⟨t1,t1⟩) (fun _=>⟨t0,t0⟩)
 dsimp only at ht hs this
 rw[ht] at this;exact Hs this (by rw[hs,hx]) (by grind) (by grind)
theorem xo{r:YB I2}(v:VR r):(cp r).Nodup:=by
 unfold cp;exact List.pairwise_map.2 (List.Pairwise.imp_of_mem (fun{a b} ha hb hn e=>hn (v.inj (Vy.1 ha) (Vy.1 hb) (Vs Prod.fst e))) (List.nodup_range (n:=r.length)))
theorem Su{r:YB I2}(v:VR r)(ha:0<fw r):∃i,i<r.length/\(nx r i).2≠(nx r (i+1)).2:=by
 refine U6 fun hc=>?_;have eq:∀i,i<r.length->(nx r i).2=(nx r (i+1)).2:=fun i hi=>U6 fun k=>hc ⟨i,hi,k⟩;have all:∀i,i<=r.length->(nx r i).2=(nx r 0).2:=by
  intro i
  induction i with
  | zero=>intro _; rfl
  | succ i ih=>intro hi; rw[<-eq i (by omega)]; exact ih (by omega)
 have t:=j4 r.length fun i=>(nx r i).1;rw[lN] at t;have:fw r=aY r.length fun i=>(-(nx r 0).2)*((nx r (i+1)).1-(nx r i).1):=by
  unfold fw;refine ay fun i hi=>?_;rw[all i (by omega),all (i+1) (by omega)]
  grind
 rw[lH,t] at this;rw[this] at ha;simp at ha
theorem Mg(E:YB Eg)(X y:Rat):∃x,x<X/\∀e∈E,xc e y<X->xc e y<x:=by
 by_cases h:∃e,e∈E/\xc e y<X
 obtain⟨a,h1,h2,h3⟩:=jd (X:=fun e=>-xc e y) h;exact⟨(X+xc a y)/2,by grind,fun e he hx=>by have:=h3 e he hx; grind⟩
 exact⟨X-1,by grind,fun e he hx=>Vr ⟨e,he,hx⟩ h⟩
theorem wW.HW(f:wW o hs):∃q:P2,wr (cp o) q=1/\∀r∈hs,wr (cp r) q=0:=by
 obtain⟨i,hi,hne⟩:=Su f.vo f.ao;obtain⟨y,g,g1,g2,hd⟩:=uI (Gr o hs) (e:=(nx o i,nx o (i+1))) hne;have go:∀{r},(r=o\/r∈hs)->sW (cp r) y:=fun hr e he=>g e (fx hr he);obtain⟨a,m,da,hmax⟩:=jd (X:=fun e=>-xc e y) (P:=fun e=>de e y≠0) (l:=Gr o hs) ⟨_,fx (.inl rfl) (kB hi),hd⟩;have le:∀e∈Gr o hs,de e y≠0->xc e y<=xc a y:=fun e he hd=>by have:=hmax e he hd; grind
 have ao:a∈cp o:=by
  obtain⟨r,h1,h2⟩:=VI.1 m;rcases Vu.1 h1 with rfl|h1
  exact h2
  exfalso;have p:=f.pr r h1;have e2:=(gR p.vo (p.iF.2 _ h2) fun g hg=>p.mt _ h2 g hg).2 (go (.inr h1) a h2).1 (go (.inr h1) a h2).2 da;rw[p.one h2,iu (go (.inl rfl)) rfl,cO fun e he=>?_] at e2
  exact Vr e2 (by decide)
  by_cases h0:de e y=0
  rw[h0]; simp
  exact U3 (by have:=le e (fx (.inl rfl) he) h0; dsimp only; grind)
 obtain⟨x,hx,hl⟩:=Mg (Gr o hs) (xc a y) y;have off:SD (Gr o hs) (x,y):=fun e he hd k=>by
  dsimp only at hd k
  have:=hl e he (by grind)
  grind
 have zero:∀r∈hs,wr (cp r) (x,y)=0:=fun r hr=>by
  rw[iu (go (.inr hr)) rfl];refine cO fun e he=>?_
  by_cases h0:de e y=0
  rw[h0]; simp
  refine U3 ?_;have p:=f.pr r hr;have:=(p.mt e he a ao).LX (p.iF.1 a ao) (p.iF.2 e he) (go (.inr hr) e he).1 (go (.inr hr) e he).2 (go (.inl rfl) a ao).1 (go (.inl rfl) a ao).2 h0 da;have:=le e (fx (.inr hr) he) h0;have:=hl e (fx (.inr hr) he) (by grind)
  dsimp only
  grind
 refine⟨(x,y),?_,zero⟩;have e1:wr (cp o) (x,y)=de a y:=by
  rw[iu (go (.inl rfl)) rfl,zQ (xo f.vo) ao fun b hb hn=>?_]
  exact U5 hx
  by_cases h0:de b y=0
  rw[h0]; simp
  refine U3 ?_;have h1:xc b y≠xc a y:=fun k=>hn (OP f.vo hb ao (go (.inl rfl)) h0 da k);have:=le b (fx (.inl rfl) hb) h0;have:=hl b (fx (.inl rfl) hb) (by grind)
  dsimp only
  grind
 have:=(f.CD (q:=(x,y)) g off).1;rw[e1] at this ⊢;omega
theorem M3(q:P2):∃N:Int,0<N/\∃Q:I2,∀t:Rat,(N:Rat)*t=1->q=((Q.1:Rat)*t,(Q.2:Rat)*t):=by
 have pos:∀r:Rat,0<(r.den:Int):=fun r=>by have:=r.den_pos; omega
 have one:∀r:Rat,(((r.den:Int)):Rat)*r=(r.num:Rat):=fun r=>by
  have h:=Rat.num_divInt_den r;rw[Rat.divInt_eq_div,Rat.div_def] at h;have hp:(0:Rat)<((r.den:Int):Rat):=eJ.2 (pos r);have hi:=Xv ((r.den:Int):Rat) (by grind)
  generalize(((r.den:Int)):Rat)⁻¹=u at h hi;generalize((r.den:Int):Rat)=d at h hi ⊢;generalize(r.num:Rat)=n at h ⊢;rw[<-h]; grind
 refine⟨(q.1.den:Int)*(q.2.den:Int),Wq (pos _) (pos _),(q.1.num*(q.2.den:Int),q.2.num*(q.1.den:Int)),fun t ht=>?_⟩;have h1:=one q.1;have h2:=one q.2;simp only[Wu] at ht ⊢;generalize(((q.1.den:Int)):Rat)=d1 at *;generalize(((q.2.den:Int)):Rat)=d2 at *;refine VN ?_ ?_
 dsimp only
 rw[<-h1]; grind
 dsimp only
 rw[<-h2]; grind
theorem wW.Pb(f:wW o hs):0<fw o+bU fw hs:=by
 obtain⟨q,q1,q2⟩:=f.HW;obtain⟨N,hN,Q,hq⟩:=M3 q;have hN':(0:Rat)<(N:Rat):=eJ.2 hN;have ht:(N:Rat)*(N:Rat)⁻¹=1:=Xv _ (by grind)
 have hq:=hq _ ht;generalize(N:Rat)⁻¹=t at ht hq;have fr:∀{r:YB I2},r≠[]->cJ (r.map (bK N)) Q=wr (cp r) q:=fun{r} hr=>by
  rw[hq,sH];unfold cJ W;rw[Vf];refine ay fun i _=>?_;rw[bh _ hr,bh _ hr];exact(ui hN ht _ _ _).symm
 have F:=f.map (Ob hN);have ne:∀r∈hs,r≠[]:=fun r hr=>(f.pr r hr).vh.ne_nil;have one:cJ (o.map (bK N)) Q+bU (fun r=>cJ r Q) (hs.map (List.map (bK N)))=1:=by
  rw[fr f.vo.ne_nil,q1,eZ,cO fun r hr=>by rw[fr (ne r hr)]; exact q2 r hr]; rfl
 have ars:fw (o.map (bK N))+bU fw (hs.map (List.map (bK N)))=N*N*(fw o+bU fw hs):=by
  rw[zN N f.vo.ne_nil,eZ,ba (g:=fun r=>N*N*fw r) fun r hr=>zN N (ne r hr),jz,Xu]
 generalize o.map (bK N)=o' at *;generalize hs.map (List.map (bK N))=hs' at *;have nxm:∀{r:YB I2},r≠[]->∀i,nx r i∈r:=fun{r} hr i=>by
  have hl:i%r.length<r.length:=VM _ (Xp.2 hr);unfold nx;rw[U7,U4 hl];exact Vg hl
 let V:YB I2:=Q::(o'::hs').flatMap id
 obtain⟨K,K0,hK⟩:=(Lg.all (n:=V.length) (P:=fun i K=>∀v,V[i]? = some v->-K<v.1/\v.1<K/\-K<v.2/\v.2<K) fun i hi =>
  (Lg.ge (max (max V[i].1 (-V[i].1)) (max V[i].2 (-V[i].2))+1)).imp fun K h v hv=>by rw[U4 hi] at hv; cases hv; omega).get
 have hV:∀v∈V,Inb (-K) (-K) (2*K).toNat (2*K).toNat v:=fun v hv=>by
  obtain⟨i,hi,rfl⟩:=Vz.1 hv;have:=hK i hi _ (U4 hi);exact⟨by omega,by omega,by omega,by omega⟩
 have hb:∀r,(r=o'\/r∈hs')->∀i,Inb (-K) (-K) (2*K).toNat (2*K).toNat (nx r i):=fun r hr i=>by
  have hne:r≠[]:=by
   rcases hr with rfl|hr
   exact F.vo.ne_nil
   exact(F.pr r hr).vh.ne_nil
  refine hV _ (Ve _ (VI.2 ⟨r,?_,nxm hne i⟩));rcases hr with rfl|hr
  exact Vp
  exact Ve _ hr
 have tot:bx (-K) (-K) (2*K).toNat (2*K).toNat (fun p=>(cJ o' p+fu o' p)+bU (fun r=>cJ r p+fu r p) hs')=fw o'+bU fw hs':=by
  rw[Aa (fun p=>cJ o' p+fu o' p),qK (hb o' (.inl rfl)),GX (fun r p=>cJ r p+fu r p),ba fun r hr=>qK (hb r (.inr hr))]
 have hle:bx (-K) (-K) (2*K).toNat (2*K).toNat (fun p=>(if p=Q then 1 else 0) + -((cJ o' p+fu o' p)+bU (fun r=>cJ r p+fu r p) hs'))<=0:=kz fun i _=>kz fun j _=>by
  have a:=F.Ud (-K+i,-K+j);have b:=F.UW (-K+i,-K+j)
  dsimp only
  rw[ju]
  split
  rename_i c;rw[c] at a b ⊢;omega
  omega
 rw[Aa (fun p=>if p=Q then 1 else 0),Jg (hV Q Vp),y6,tot,ars] at hle
 refine U6 fun hc=>?_;have:=VP (WU (Wq hN hN)) (show 0<=-(fw o+bU fw hs) by omega)
 rw[Int.mul_neg] at this;omega
end
def CxOk.Pb{fs:YB Fce}(h:CxOk fs){f:Fce}(hf:f∈fs):0<fw f.o+bU fw f.hs:=(h.UK hf).Pb
end Jd
namespace Go.Proofs.Ytmndpgfbkicndaa
open Go Go.Ab Go.Ab.W Go.Ab.B Jd
def OA(n:Nat)(pts:YB I2)(F:YB Fc)(hn:99999<n):∃r,N0 n pts F=some r/\(r.1<=0->Fcs pts F/\KM pts F=r):=by
 have no:∀(k v:Int),0<k->((k,v).1<=0->Fcs pts F/\KM pts F=(k,v)):=fun k v h e=>by dsimp only at e; omega
 unfold N0
 by_cases g1:(pts.length:Int)<3
 simp only[aH g1,aj,jm]; exact⟨_,rfl,no _ _ (by decide)⟩
 by_cases g2:120<(pts.length:Int)
 simp only[aF g1,aH g2,aj,jm]; exact⟨_,rfl,no _ _ (by decide)⟩
 by_cases g3:(F.length:Int)<1
 simp only[aF g1,aF g2,aH g3,aj,jm]; exact⟨_,rfl,no _ _ (by decide)⟩
 by_cases g4:64<(F.length:Int)
 simp only[aF g1,aF g2,aF g3,Vc g4,aj,jm]; exact⟨_,rfl,no _ _ (by decide)⟩
 simp only[aF g1,aF g2,aF g3,Vj g4,aj,ib];rw[B6 n (by omega) (by omega)]
 cases hf:cm (mS pts) (.inr ()) pts.length 0 with
 | inl v =>
  have:=EN v hf;simp only[aj,aH this]; exact⟨_,rfl,no _ _ (by decide)⟩
 | inr u =>
 simp only[aj,aF (show ¬(0:Int)<=-1 by decide)]
 rw[AP n (by omega) (by omega)]
 cases ht:cm (pZ pts) (.inr ()) pts.length 0 with
 | inl v=>simp only[aj]; exact⟨_,rfl,no _ _ (by decide)⟩
 | inr u =>
 simp only[aj];have hb:=MD (by omega) hf
 rw[Cc n (by omega) (by omega)]
 cases h4:cm (jb (okF pts.length) F) (.inr ()) F.length 0 with
 | inl v =>
  have:=sD h4;simp only[aj,aH this]; exact⟨_,rfl,no _ _ (by decide)⟩
 | inr u =>
 have ho:SY pts F:=qf h4;simp only[aj,aF (show ¬(0:Int)<=-1 by decide)]
 rw[Cj n hb ho (by omega) (by omega)]
 cases h5:cm (jb (QF pts) F) (.inr ()) F.length 0 with
 | inl v =>
  have:=sD h5;simp only[aj,aH this]; exact⟨_,rfl,no _ _ (by decide)⟩
 | inr u =>
 have hva:=qf h5;have ha:=fun f hf=>GP (hva f hf);simp only[aj,aF (show ¬(0:Int)<=-1 by decide)]
 rw[AT n hb ho ha (by omega) (by omega)]
 cases h6:cm (jb (Ol pts) F) (.inr ()) F.length 0 with
 | inl v =>
  have:=sD h6;simp only[aj,aH this]; exact⟨_,rfl,no _ _ (by decide)⟩
 | inr u =>
 have htu:=qf h6;have hc:Fcs pts F:=⟨⟨by omega,by omega⟩,⟨by omega,by omega⟩,hb,Mz ht,ho,hva,htu⟩
 simp only[aj,aF (show ¬(0:Int)<=-1 by decide)]
 rw[HY n hc hn];exact⟨KM pts F,rfl,fun _=>⟨hc,rfl⟩⟩
structure NoF(pts:YB I2)(F:YB Fc):Prop where
 vf:Fcs pts F
 ed:(KM pts F).1<=0
def KR(n:Nat)(pts:YB I2)(F:YB Fc)(hn:99999<n):∃r,G5 n pts F=some r/\(r=0->NoF pts F):=by
 obtain⟨r,h1,h3⟩:=OA n pts F hn;obtain⟨k,v⟩:=r;unfold G5;rw[h1,aj]
 by_cases c:0<k
 exact⟨150,by dsimp only; rw[aH c],fun h=>by omega⟩
 refine⟨0,by dsimp only; rw[aF c],fun _=>?_⟩
 obtain⟨g1,g2⟩:=h3 (by dsimp only; omega)
 exact⟨g1,by rw[g2]; dsimp only; omega⟩
section
variable{pts:YB I2}{F:YB Fc}(n:Nat)
def Fj(pts:YB I2)(F:YB Fc)(i:Nat):Int:=bU (fun l=>fw (dP pts l 1)) (ak F i)
end
def se{P:YB Ed->Ed->Bool}:∀{E d:YB Ed},bI P d E=none->∀a e b,E=a++e::b->P (d++a) e=false
 | [],_,_,a,e,b,h=>by cases a<;>cases h
 | x::E,d,h0,a,e,b,h=>by
  rw[bI] at h0
  by_cases c:P d x=true
  rw[U5 c] at h0; cases h0
  ·rw[U3 c] at h0;cases a with
   | nil =>
    rw[Wc] at h;cases h;rw[VX];exact Bool.eq_false_iff.2 c
   | cons y a =>
    rw[WY] at h;cases h;have:=se h0 a e b rfl;rwa[VT] at this
def rR{q:Ed->Ed->Bool}{P:YB Ed->Ed->Bool}(hP:∀d e,P d e=d.any (q e)){E:YB Ed}(h:bI P [] E=none):E.Pairwise fun x e=>q e x=false:=by
 rw[List.pairwise_iff_forall_sublist];intro x e hs;obtain⟨a,b,c,rfl⟩:∃a b c:YB Ed,E=a++x::b++e::c:=by
  have key:∀{E:YB Ed},[x,e].Sublist E->∃a b c:YB Ed,E=a++x::b++e::c:=by
   intro E
   induction E with
   | nil=>intro h; cases h
   | cons y E ih =>
    intro h;cases h with
    | cons _ h =>
     obtain⟨a,b,c,rfl⟩:=ih h;exact⟨y::a,b,c,rfl⟩
    | cons_cons _ h =>
     have hm:e∈E:=List.singleton_sublist.1 h;obtain⟨b,c,rfl⟩:=List.append_of_mem hm;exact⟨[],b,c,rfl⟩
  exact key hs
 have:=se h (a++x::b) e c rfl;rw[Wc,hP,List.any_eq_false] at this;exact Bool.eq_false_iff.2 (this x (by simp))
def BT{q:Ed->Bool}{P:YB Ed->Ed->Bool}(hP:∀d e,P d e=q e){E:YB Ed}(h:bI P [] E=none):∀e∈E,q e=false:=fun e he=>by
 obtain⟨a,b,rfl⟩:=List.append_of_mem he;rw[<-hP _ e];exact se h a e b rfl
def BC{pts:YB I2}{F:YB Fc}(h:(KM pts F).1<=0):bI B1 [] (sE F)=none/\bI (Af pts) [] (sE F)=none/\bI (wC pts F) [] (sE F)=none/\bI (yG pts F) [] (sE F)=none:=by
 unfold KM at h;cases h1:bI B1 [] (sE F) with
 | some v=>rw[h1] at h; dsimp only at h; omega
 | none =>
 rw[h1] at h;cases h2:bI (Af pts) [] (sE F) with
 | some v=>rw[h2] at h; dsimp only at h; omega
 | none =>
 rw[h2] at h;cases h3:bI (wC pts F) [] (sE F) with
 | some v=>rw[h3] at h; dsimp only at h; omega
 | none =>
 rw[h3] at h;cases h4:bI (yG pts F) [] (sE F) with
 | some v=>rw[h4] at h; dsimp only at h; omega
 | none=>exact⟨rfl,rfl,rfl,rfl⟩
def fm{α:Type}(g:Nat->YB α):∀k,acc g k=(List.range k).flatMap g
 | 0=>rfl
 | k+1=>by rw[acc,fm g k,WS,List.flatMap_append]; simp
def uv{α β:Type}(g:α->YB β)(d:α)(l:YB α):((List.range l.length).flatMap fun i=>g (l.getD i d))=l.flatMap g:=by
 have:l=(List.range l.length).map fun i=>l.getD i d:=by
  apply List.ext_getElem
  simp
  intro i h1 h2; simp[h1]
 conv=>rhs; rw[this]
 rw[List.flatMap_map]
def mF{α β:Type}{f g:α->YB β}:∀{l:YB α},(∀a∈l,f a=g a)->l.flatMap f=l.flatMap g
 | [],_=>rfl
 | a::l,h=>by rw[VY,VY,h a Vp,mF fun b hb=>h b (Ve _ hb)]
def gE(pts:YB I2)(e:Ed):Eg:=(fb pts e.1,fb pts e.2.1)
def wT(pts:YB I2)(f:Fc):Fce:=⟨dP pts f.1 1,f.2.map fun l=>dP pts l 1⟩
section
variable{pts:YB I2}{F:YB Fc}
def MU{l:YB Int}(h0:l≠[])(i:Nat):nx (dP pts l 1) (i+1)=fb pts (l.getD ((i+1)%l.length) 0):=by
 rw[<-yy (VM _ (Xp.2 h0))];exact jh _ (by rw[fW,Nat.mod_mod])
def wx{l:YB Int}{f r:Nat}:(rE l f r).map (gE pts)=cp (dP pts l 1):=by
 unfold rE cp;rw[fm,List.map_flatMap,fW,List.map_eq_flatMap]
 by_cases h0:l=[]
 subst h0; rfl
 refine mF fun i hi=>?_;rw[MU h0,yy (Vy.1 hi)]
 rfl
def N7(rs:XE)(f:Nat):(fE rs f).map (gE pts)=rs.flatMap fun l=>cp (dP pts l 1):=by
 unfold fE;rw[fm,List.map_flatMap,<-uv (fun l=>cp (dP pts l 1)) [] rs];exact mF fun r _=>wx
def uE(f:Fc):(wT pts f).es=(f.1::f.2).flatMap fun l=>cp (dP pts l 1):=by
 unfold Fce.es wT
 dsimp only
 rw[VY,VY,List.flatMap_map]
def DA:(sE F).map (gE pts)=(F.map (wT pts)).flatMap Fce.es:=by
 unfold sE;rw[fm,List.map_flatMap,List.flatMap_map,<-uv (fun f=>(wT pts f).es) ([],[]) F];exact mF fun f _=>by rw[N7,uE]; rfl
def vL(hv:Fcs pts F){a b:Int}(ha:0<=a/\a<pts.length)(hb:0<=b/\b<pts.length)(e:fb pts a=fb pts b):a=b:=by
 have key:∀{i j:Nat},i<j->j<pts.length->nx pts i≠nx pts j:=fun{i j} hij hj e=>hv.one j hj (by
  rw[<-e];unfold nx;rw[WA (by omega),U7,U4 (by omega)]
  exact Vz.2 ⟨i,by rw[Vw]; omega,by rw[List.getElem_take]; rfl⟩)
 have pn:∀{a:Int},0<=a/\a<pts.length->fb pts a=nx pts a.toNat:=fun{a} ha=>by
  unfold fb nx;rw[WA (by omega)]
 rw[pn ha,pn hb] at e;rcases Xk a.toNat b.toNat with g|g|g
 exact Vr e (key g (by omega))
 omega
 exact Vr e.symm (key g (by omega))
def Mi{l:YB Int}(h0:l≠[])(e:Ed):(∃i,i<(dP pts l 2).length/\cD (nx (dP pts l 2) i) (nx (dP pts l 2) (i+1)) (pO pts e))↔¬jV (dP pts l 1) (gE pts e):=by
 have hne:dP pts l 1≠[]:=fun e=>h0 (VJ.1 (by have:=fW pts l 1; rw[e] at this; exact this.symm))
 have hm:pO pts e=jL (gE pts e):=rfl;unfold jV;rw[hm,yk];constructor
 rintro⟨i,hi,hb⟩ ho;rw[Vf] at hi;rw[bh _ hne,bh _ hne] at hb;exact ho _ (kB hi) hb
 intro hn;refine U6 fun hc=>hn fun g hg hb=>hc ?_;obtain⟨i,hi,rfl⟩:=Vi.1 hg;exact⟨i,by rw[Vf]; exact Vy.1 hi,by rw[bh _ hne,bh _ hne]; exact hb⟩
def vB{l:YB Int}(h0:l≠[])(e:Ed):(side (dP pts l 2) (pO pts e)=2↔jV (dP pts l 1) (gE pts e)/\wM (dP pts l 1) (gE pts e)≠0)/\(side (dP pts l 2) (pO pts e)=0↔jV (dP pts l 1) (gE pts e)/\wM (dP pts l 1) (gE pts e)=0):=by
 have hne:dP pts l 1≠[]:=fun e=>h0 (VJ.1 (by have:=fW pts l 1; rw[e] at this; exact this.symm))
 have hw:cJ (dP pts l 2) (pO pts e)=wM (dP pts l 1) (gE pts e):=by rw[oh hne,yk]; rfl
 have ho:=Mi (pts:=pts) h0 e;unfold side;rw[hw]
 by_cases c:jV (dP pts l 1) (gE pts e)
 rw[U3 (fun k=>ho.1 k c)]
 by_cases w:wM (dP pts l 1) (gE pts e)=0
 rw[U5 w]; exact⟨⟨fun k=>Vr k (by decide),fun k=>Vr w k.2⟩,⟨fun _=>⟨c,w⟩,fun _=>rfl⟩⟩
 rw[U3 w]; exact⟨⟨fun _=>⟨c,w⟩,fun _=>rfl⟩,⟨fun k=>Vr k (by decide),fun k=>Vr k.2 w⟩⟩
 rw[U5 (ho.2 c)];exact⟨⟨fun k=>Vr k (by decide),fun k=>Vr k.1 c⟩,⟨fun k=>Vr k (by decide),fun k=>Vr k.1 c⟩⟩
def ym{o:YB Int}{h:XE}(h0:o≠[])(h1:∀l∈h,l≠[])(e:Ed):Kl pts o h (pO pts e)=true↔(jV (dP pts o 1) (gE pts e)/\wM (dP pts o 1) (gE pts e)≠0)/\∀l∈h,jV (dP pts l 1) (gE pts e)/\wM (dP pts l 1) (gE pts e)=0:=by
 unfold Kl;rw[Va,Vm,(vB h0 e).1,Vo];refine and_congr_right fun _=>⟨fun k l hl=>(vB (h1 l hl) e).2.1 (of_decide_eq_true (k l hl)),fun k l hl=>Vc ((vB (h1 l hl) e).2.2 (k l hl))⟩
def qT(hv:Fcs pts F){f:Nat}(hf:f<F.length):∀l∈ak F f,l≠[]:=fun l hl e=>by
 obtain⟨e1,_⟩:=AA hv hf l hl;obtain⟨_,g3,_⟩:=ou rfl e1;rw[e] at g3; simp at g3
def Me{f:Fc}(h:Ol pts f=true)(ha:∀r∈f.1::f.2,fw (dP pts r 1)≠0):0<fw (dP pts f.1 1)/\∀l∈f.2,fw (dP pts l 1)<0:=by
 unfold Ol at h;have hn:∀i,i<(f.1::f.2).length->nZ pts (f.1::f.2) i=none:=by
  rcases dw (f:=nZ pts (f.1::f.2)) (e:=.inr ()) (f.1::f.2).length 0 with⟨h1,h2⟩|⟨j,_,h2,h3⟩
  exact fun i hi=>h1 i (by omega) (by omega)
  ·exfalso;cases hs:cm (nZ pts (f.1::f.2)) (.inr ()) (f.1::f.2).length 0 with
   | inl u=>rw[hs] at h; cases h
   | inr u =>
    rw[hs] at h3;unfold nZ at h3
    split at h3
    split at h3<;>cases h3
    cases h3
 have at_:∀i (hi:i<(f.1::f.2).length),(decide (i=0)==decide (0<fw (dP pts (f.1::f.2)[i] 1)))=true:=fun i hi=>by
  have:=hn i hi;unfold nZ at this;rw[U4 hi] at this
  dsimp only at this
  refine U6 fun hc=>?_;rw[U3 hc] at this; cases this
 constructor
 have:=at_ 0 (by simp)
 rw[Vc rfl] at this;exact of_decide_eq_true (by simpa using this)
 intro l hl;obtain⟨j,hj,rfl⟩:=Vz.1 hl;have:=at_ (j+1) (by simpa using hj)
 rw[Vj (by omega)] at this
 have h1:¬0<fw (dP pts f.2[j] 1):=by
  have:decide (0<fw (dP pts f.2[j] 1))=false:=by simpa using this
  exact of_decide_eq_false this
 have:=ha f.2[j] (Ve _ (Vg hj));omega
def B7{x y:Ed}(h:gX pts x y=false)(hs:nY x y=false):Mt (gE pts x) (gE pts y):=by
 unfold gX at h;rw[hs,U3 (by decide)] at h
 unfold Mt gE
 dsimp only
 by_cases c:k5 (fb pts x.1) (fb pts x.2.1) (fb pts y.1) (fb pts y.2.1)=1
 rw[U5 c] at h;refine .inr ⟨c,?_⟩;refine U6 fun hc=>?_;have n1:x.1≠y.1:=fun e=>hc (.inl (by rw[e]))
 have n2:x.1≠y.2.1:=fun e=>hc (.inr (.inl (by rw[e])))
 have n3:x.2.1≠y.1:=fun e=>hc (.inr (.inr (.inl (by rw[e]))))
 have n4:x.2.1≠y.2.1:=fun e=>hc (.inr (.inr (.inr (by rw[e]))))
 rw[Vj n1,Vj n2,Vj n3,Vj n4] at h;cases h
 rw[U3 c] at h;exact .inl (of_decide_eq_true (by simpa using h))
def so{f r:Nat}(hf:f<F.length)(hr:r<(ak F f).length)(h0:(ak F f)[r]≠[]){e:Eg}(he:e∈cp (dP pts (ak F f)[r] 1)):∃x∈sE F,gE pts x=e/\x.2.2.1=(f:Int)/\x.2.2.2=(r:Int):=by
 rw[<-wx (f:=f) (r:=r)] at he;obtain⟨x,hx,rfl⟩:=Vi.1 he;refine⟨x,?_,rfl,?_⟩
 unfold sE fE;rw[fm];refine VI.2 ⟨f,Vy.2 hf,?_⟩;rw[fm];refine VI.2 ⟨r,Vy.2 hr,?_⟩;rw[U7,U4 hr];exact hx
 unfold rE at hx;rw[fm] at hx;obtain⟨i,_,hi⟩:=VI.1 hx;rw[Vb.1 hi];exact⟨rfl,rfl⟩
def NoF.cx(h:NoF pts F):CxOk (F.map (wT pts)):=by
 have hv:=h.vf;obtain⟨t1,t2,t3,t4⟩:=BC h.ed;have hS:∀x∈sE F,Cr pts x:=rO hv (U8 _);have rof:∀f∈F,∃i,i<F.length/\ak F i=f.1::f.2:=fun f hf=>by
  obtain⟨i,hi,rfl⟩:=Vz.1 hf;refine⟨i,hi,?_⟩;unfold ak;rw[U7,U4 hi]; rfl
 have vr:∀f∈F,∀l∈f.1::f.2,VR (dP pts l 1):=fun f hf l hl=>by
  obtain⟨i,hi,e⟩:=rof f hf;exact(tO.1 (AA hv hi l (by rw[e]; exact hl)).2).vr
 have tu:∀f∈F,0<fw (dP pts f.1 1)/\∀l∈f.2,fw (dP pts l 1)<0:=fun f hf=>Me (hv.tu f hf) (GP (hv.va f hf));have p1:=rR (q:=fun e x=>decide (e.1=x.1)&&decide (e.2.1=x.2.1)) (fun d e=>rfl) t1;have p2:=rR (q:=fun e x=>gX pts e x) (fun d e=>rfl) t2;have p3:=BT (q:=fun e=>wC pts F [] e) (fun d e=>rfl) t3;have p4:=BT (q:=fun e=>yG pts F [] e) (fun d e=>rfl) t4;have allE:(F.map (wT pts)).flatMap Fce.es=(sE F).map (gE pts):=DA.symm;have gne:∀x∈sE F,∀y∈sE F,gE pts x=gE pts y->x.1=y.1/\x.2.1=y.2.1:=fun x hx y hy e=>by
  have a:=hS x hx;have b:=hS y hy;unfold gE at e;exact⟨vL hv a.1 b.1 (Vs Prod.fst e),vL hv a.2.1 b.2.1 (Vs Prod.snd e)⟩
 refine⟨fun f hf=>?_,fun f hf l hl=>?_,?_,fun e he g hg h1 h2=>?_,fun f hf k hk e he=>?_,fun i j hi hj hij e he hw=>?_⟩
 obtain⟨f,hf',rfl⟩:=Vi.1 hf;exact⟨vr f hf' _ Vp,(tu f hf').1⟩
 obtain⟨f,hf',rfl⟩:=Vi.1 hf;unfold wT at hl;obtain⟨l',hl',rfl⟩:=Vi.1 hl;exact⟨vr f hf' _ (Ve _ hl'),(tu f hf').2 l' hl'⟩
 rw[allE];refine List.pairwise_map.2 (List.Pairwise.imp_of_mem (fun{x y} hx hy hn e=>?_) p1);obtain⟨a,b⟩:=gne x hx y hy e;rw[Vc a.symm,Vc b.symm] at hn;cases hn
 rw[allE] at he hg;obtain⟨x,hx,rfl⟩:=Vi.1 he;obtain⟨y,hy,rfl⟩:=Vi.1 hg;have ns:∀{x y:Ed},gE pts y≠gE pts x->gE pts y≠((gE pts x).2,(gE pts x).1)->nY x y=false/\nY y x=false:=fun{x y} h1 h2=>by
  have key:∀{x y:Ed},gE pts y≠gE pts x->gE pts y≠((gE pts x).2,(gE pts x).1)->nY x y=false:=fun{x y} h1 h2=>by
   refine Bool.eq_false_iff.2 fun k=>?_;unfold nY at k;rw[Wv,Va,Va] at k;rcases k with⟨a,b⟩|⟨a,b⟩
   exact h1 (by unfold gE; rw[of_decide_eq_true a,of_decide_eq_true b])
   exact h2 (by unfold gE; dsimp only; rw[of_decide_eq_true a,of_decide_eq_true b])
  refine⟨key h1 h2,key (Ne.symm h1) fun k=>h2 ?_⟩;rw[k]
 obtain⟨s1,s2⟩:=ns h1 h2;have hne:x≠y:=fun k=>h1 (by rw[k])
 have:gX pts y x=false\/gX pts x y=false:=by
  obtain⟨i,hi,rfl⟩:=Vz.1 hx;obtain⟨j,hj,rfl⟩:=Vz.1 hy;rcases Xk i j with k|k|k
  exact .inl (W8.1 p2 i j hi hj k)
  subst k; exact Vr rfl hne
  exact .inr (W8.1 p2 j i hj hi k)
 rcases this with k|k
 exact B7 k s2
 exact(B7 k s1).symm
 obtain⟨f,hf',rfl⟩:=Vi.1 hf;obtain⟨i,hi,ei⟩:=rof f hf';have hlen:(wT pts f).hs.length=f.2.length:=by unfold wT; exact Vf _
 have hk':k<f.2.length:=by omega
 have hr:k+1<(ak F i).length:=by rw[ei]; simpa using hk'
 have hat:(ak F i)[k+1]=f.2[k]:=by simp[ei]
 have ring:∀j (hj:j<(wT pts f).hs.length),(wT pts f).hs[j]=dP pts (f.2[j]'(by omega)) 1:=fun j hj=>Xd _
 rw[ring] at he;obtain⟨x,hx,rfl,x1,x2⟩:=so hi hr (qT hv hi _ (Vg hr)) (e:=e) (by rw[hat]; exact he)
 have:=p3 x hx;have ne:∀l∈f.1::f.2,l≠[]:=fun l hl=>qT hv hi l (by rw[ei]; exact hl)
 unfold wC at this;rw[x1,x2,Vj (by omega),VW,WH] at this
 have hF:F.getD ((i:Int)).toNat ([],[])=f:=by
  rw[VH];unfold ak at ei;have a:=(List.cons.inj ei).1;have b:=(List.cons.inj ei).2;exact VN a b
 rw[hF] at this;have e1:(((k+1:Nat):Int)-1).toNat=k:=by omega
 have e2:((k+1:Nat):Int).toNat=k+1:=by omega
 rw[e1,e2] at this;have this:Kl pts f.1 (f.2.take k++f.2.drop (k+1)) (pO pts x)=true:=by
  cases hc:Kl pts f.1 (f.2.take k++f.2.drop (k+1)) (pO pts x)
  rw[hc] at this; cases this
  rfl
 have:=(ym (ne _ Vp) (fun l hl=>ne l (Ve _ (by
  rcases Vq.1 hl with q|q
  exact WC q
  exact WD q))) x).1 this
 refine⟨this.1,fun j hj hjk=>?_⟩;rw[ring];refine this.2 _ (Vq.2 ?_);have hj':j<f.2.length:=by omega
 rcases Nat.lt_or_gt_of_ne hjk with q|q
 exact .inl (Vz.2 ⟨j,by rw[Vw]; omega,by rw[List.getElem_take]⟩)
 exact .inr (Vz.2 ⟨j-(k+1),by rw[VZ]; omega,by rw[List.getElem_drop]; congr 1; omega⟩)
 rw[Vf] at hi hj;rw[Xd] at he hw;have ri:ak F i=F[i].1::F[i].2:=by
  unfold ak;rw[U7,U4 hi]; rfl
 have rj:F.getD j ([],[])=F[j]:=by rw[U7,U4 hj]; rfl
 rw[uE] at he;obtain⟨l,hl,hel⟩:=VI.1 he;rw[<-ri] at hl;obtain⟨r,hr,rfl⟩:=Vz.1 hl;obtain⟨x,hx,rfl,x1,x2⟩:=so hi hr (qT hv hi _ hl) hel;have:=p4 x hx;unfold yG at this;rw[List.any_eq_false] at this;refine this j (Vy.2 hj) ?_;unfold Nc;rw[x1,Vj (by omega),VW,WH,rj]
 have rj':ak F j=F[j].1::F[j].2:=by unfold ak; rw[rj]
 have ne:∀l∈F[j].1::F[j].2,l≠[]:=fun l hl=>qT hv hj l (by rw[rj']; exact hl)
 refine(ym (ne _ Vp) (fun l hl=>ne l (Ve _ hl)) x).2 ⟨hw.1,fun l hl=>hw.2 _ ?_⟩;unfold wT;exact Vi.2 ⟨l,hl,rfl⟩
end
end Go.Proofs.Ytmndpgfbkicndaa
section
namespace Jd
def VR.yU{r:YB I2}(v:VR r){e:Eg}(h1:e∈cp r)(h2:(e.2,e.1)∈cp r):False:=by
 obtain⟨i,hi,rfl⟩:=Vi.1 h1;obtain⟨j,hj,e⟩:=Vi.1 h2;have hi:=Vy.1 hi;have hj:=Vy.1 hj;have e1:=Vs Prod.fst e;have e2:=Vs Prod.snd e
 dsimp only at e1 e2
 have n3:=v.n3;have w:∀k,k<r.length->∃m,m<r.length/\nx r (k+1)=nx r m/\(m=k+1\/m=0/\k+1=r.length):=fun k hk=>by
  by_cases c:k+1<r.length
  exact⟨k+1,c,rfl,.inl rfl⟩
  exact⟨0,by omega,by rw[show k+1=r.length by omega,lN],.inr ⟨rfl,by omega⟩⟩
 obtain⟨a,a1,a2,a3⟩:=w i hi;obtain⟨b,b1,b2,b3⟩:=w j hj;rw[a2] at e1;rw[b2] at e2;have:=v.inj hj a1 e1;have:=v.inj b1 hi e2;omega
def CxOk.yU{fs:YB Fce}(h:CxOk fs){f:Fce}(hf:f∈fs){e:Eg}(h1:e∈f.es)(h2:(e.2,e.1)∈f.es):False:=by
 obtain⟨r,r1,r2⟩:=Ky h1;obtain⟨s,s1,s2⟩:=Ky h2;rcases r1 with rfl|r1
 rcases s1 with rfl|s1
 exact(h.ro f hf).1.yU r2 s2
 obtain⟨k,hk,rfl⟩:=Vz.1 s1;exact(h.hole f hf k hk _ s2).1.1.ph.2 r2
 obtain⟨k,hk,rfl⟩:=Vz.1 r1;rcases s1 with rfl|s1
 exact(h.hole f hf k hk _ r2).1.1.ph.2 s2
 obtain⟨j,hj,rfl⟩:=Vz.1 s1
 by_cases c:j=k
 subst c; exact(h.rh f hf _ r1).1.yU r2 s2
 exact((h.hole f hf k hk _ r2).2 j hj c).1.ph.2 s2
def Dc(e:Eg):Int:=e.1.1*e.2.2-e.1.2*e.2.1
def EC(r:YB I2):fw r=bU Dc (cp r):=by rw[yd]; rfl
end Jd
namespace Go.Proofs.Ytmndpgfbkicndaa
open Go Go.Ab Go.Ab.W Go.Ab.B Jd
def mq{α:Type}(f:α->Int)(g:Nat->YB α):∀k,bU f (acc g k)=aY k fun i=>bU f (g i)
 | 0=>rfl
 | k+1=>by rw[acc,kH,aY,mq f g k]
def cnt(E:YB Ed)(a b:Int):Int:=bU (fun e=>if e.1=a/\e.2.1=b then 1 else 0) E
def QC(E:YB Ed):Prop:=E.Pairwise fun x e=>¬(e.1=x.1/\e.2.1=x.2.1)
def DM(a b:Int):∀E:YB Ed,QC E->(∀e∈E,0<=e.2.2.1)->(cnt E a b=if 0<=fc E a b then 1 else 0)/\(fc E a b<0->∀e∈E,¬(e.1=a/\e.2.1=b)):=by
 refine qJ (fun _ _=>⟨rfl,fun _ e he=>by cases he⟩) fun E e ih hd h0=>?_
 obtain⟨d1,_,d3⟩:=Wd.1 hd;obtain⟨i1,i2⟩:=ih d1 fun x hx=>h0 x (Vl _ hx);have e0:=h0 e (Vv _ (Vb.2 rfl));have ec:cnt (E++[e]) a b=cnt E a b+if e.1=a/\e.2.1=b then 1 else 0:=by unfold cnt; rw[kH]; simp[bU]
 rw[ec,sv]
 by_cases c:e.1=a/\e.2.1=b
 rw[U5 c,U5 c,U5 e0];have:cnt E a b=0:=cO fun x hx=>U3 fun k=>d3 x hx e (Vb.2 rfl) ⟨by rw[c.1,k.1],by rw[c.2,k.2]⟩
 exact⟨by omega,fun h=>by omega⟩
 rw[U3 c,U3 c,Int.add_zero];refine⟨i1,fun h x hx=>?_⟩;rcases Vq.1 hx with hx|hx
 exact i2 h x hx
 rw[Vb.1 hx]; exact c
def q7(a b:Int):∀E:YB Ed,fc E a b = -1\/∃e∈E,e.1=a/\e.2.1=b/\e.2.2.1=fc E a b:=by
 refine qJ (.inl rfl) fun E e ih=>?_;rw[sv]
 by_cases c:e.1=a/\e.2.1=b
 rw[U5 c];exact .inr ⟨e,Vv _ (Vb.2 rfl),c.1,c.2,rfl⟩
 rw[U3 c];rcases ih with h|⟨x,h1,h2⟩
 exact .inl h
 exact .inr ⟨x,Vl _ h1,h2⟩
def Et(E:YB Ed)(h:∀e∈E,0<=e.2.2.1)(a b:Int) : -1<=fc E a b:=by
 rcases q7 a b E with k|⟨e,he,_,_,k⟩
 omega
 have:=h e he; omega
section
variable(pts:YB I2)
def cr(a b:Int):Int:=(fb pts a).1*(fb pts b).2-(fb pts a).2*(fb pts b).1
def wv(x:dm):Int:=(if x.2.2.2 = -1 then cr pts x.1 x.2.1 else 0)-(if x.2.2.1 = -1 then cr pts x.1 x.2.1 else 0)
def DZ(a b:Int):cr pts b a = -cr pts a b:=by unfold cr; grind
def K5{E:YB Ed}(h0:∀e∈E,0<=e.2.2.1)(hd:QC E)(i k:Nat):bU (wv pts) (tC E i k)=(cnt E i k-cnt E k i)*cr pts i k:=by
 have g1:=Et E h0 i k;have g2:=Et E h0 k i;rw[(DM i k E hd h0).1,(DM k i E hd h0).1];unfold tC
 by_cases c1:0<=fc E i k<;>by_cases c2:0<=fc E k i
 rw[U5 (.inl c1),U5 c1,U5 c2];simp only[bU,wv];rw[XP,XP]; omega
 rw[U5 (.inl c1),U5 c1,U3 c2];simp only[bU,wv];rw[XQ,XP]; omega
 rw[U5 (.inr c2),U3 c1,U5 c2];simp only[bU,wv];rw[XP,XQ]; omega
 rw[XP,U3 c1,U3 c2]
 simp[bU]
def FC{E:YB Ed}{N:Nat}(hE:∀e∈E,Sx N e)(hd:QC E):bU (wv pts) (kn E N)=bU (fun e=>cr pts e.1 e.2.1) E:=by
 have h0:∀e∈E,0<=e.2.2.1:=fun e he=>(hE e he).2.2.2.1;unfold kn;rw[mq,ay (g:=fun i=>aY (N-(i+1)) fun j=>bU (fun e=>((if e.1=(i:Int)/\e.2.1=((i+1+j:Nat):Int) then 1 else 0)-(if e.1=((i+1+j:Nat):Int)/\e.2.1=(i:Int) then 1 else 0))*cr pts (i:Int) ((i+1+j:Nat):Int)) E) fun i hi=>by
  rw[mq];refine ay fun j _=>?_;rw[K5 pts h0 hd];unfold cnt;rw[uC]
  congr 1
  have:=ju (fun e:Ed=>if e.1=(i:Int)/\e.2.1=((i+1+j:Nat):Int) then(1:Int) else 0) (fun e:Ed=>-(if e.1=((i+1+j:Nat):Int)/\e.2.1=(i:Int) then(1:Int) else 0)) E
  rw[yJ] at this;rw[ba (g:=fun e:Ed=>(if e.1=(i:Int)/\e.2.1=((i+1+j:Nat):Int) then(1:Int) else 0) + -(if e.1=((i+1+j:Nat):Int)/\e.2.1=(i:Int) then(1:Int) else 0)) fun e _=>Int.sub_eq_add_neg,this]
  omega]
 rw[ay (g:=fun i=>bU (fun e=>aY (N-(i+1)) fun j=>((if e.1=(i:Int)/\e.2.1=((i+1+j:Nat):Int) then 1 else 0)-(if e.1=((i+1+j:Nat):Int)/\e.2.1=(i:Int) then 1 else 0))*cr pts (i:Int) ((i+1+j:Nat):Int)) E) fun i _=>by
  rw[dG,lz];exact ba fun e _=>(dG _ _).symm]
 rw[dG,lz];refine ba fun e he=>?_;rw[<-dG (fun i=>aY (N-(i+1)) fun j=>((if e.1=(i:Int)/\e.2.1=((i+1+j:Nat):Int) then 1 else 0)-(if e.1=((i+1+j:Nat):Int)/\e.2.1=(i:Int) then 1 else 0))*cr pts (i:Int) ((i+1+j:Nat):Int)) N]
 obtain⟨⟨a0,aN⟩,⟨b0,bN⟩,ne,_⟩:=hE e he;obtain⟨a,ha⟩:∃a:Nat,e.1=(a:Int):=⟨e.1.toNat,by omega⟩
 obtain⟨b,hb⟩:∃b:Nat,e.2.1=(b:Int):=⟨e.2.1.toNat,by omega⟩
 rw[ha,hb]
 by_cases c:a<b
 rw[dF (k:=a) (by omega) fun i hi hn=>bw fun j hj=>by rw[XP,XP]; simp,dF (k:=b-(a+1)) (by omega) fun j hj hn=>by rw[XP,XP]; simp]
 rw[U5 ⟨rfl,by omega⟩,XP,show a+1+(b-(a+1))=b by omega]; omega
 rw[dF (k:=b) (by omega) fun i hi hn=>bw fun j hj=>by rw[XP,XP]; simp,dF (k:=a-(b+1)) (by omega) fun j hj hn=>by rw[XP,XP]; simp]
 rw[XP,U5 ⟨by omega,rfl⟩,show b+1+(a-(b+1))=a by omega,DZ]; omega
end
section
variable{pts:YB I2}{F:YB Fc}
def NoF.dst(h:NoF pts F):QC (sE F):=by
 have:=rR (q:=fun e x=>decide (e.1=x.1)&&decide (e.2.1=x.2.1)) (fun d e=>rfl) (BC h.ed).1;refine this.imp fun{x e} hn ⟨a,b⟩=>?_;rw[Vc a,Vc b] at hn;cases hn
def J2{i:Nat}(hi:i<F.length):Fj pts F i=bU Dc (wT pts (F[i])).es/\Fj pts F i=fw (wT pts (F[i])).o+bU fw (wT pts (F[i])).hs:=by
 have ri:ak F i=F[i].1::F[i].2:=by
  unfold ak;rw[U7,U4 hi]; rfl
 constructor
 rw[uE,qH];unfold Fj;rw[ri];exact ba fun l _=>EC _
 unfold Fj wT;rw[ri,bU,eZ]
def Ga:aY F.length (Fj pts F)=bU (fun e=>cr pts e.1 e.2.1) (sE F):=by
 have e1:bU (fun e=>cr pts e.1 e.2.1) (sE F)=bU Dc ((sE F).map (gE pts)):=by rw[eZ]; rfl
 rw[e1,DA,qH,eZ,dG];have:F=(List.range F.length).map fun i=>F.getD i ([],[]):=by
  apply List.ext_getElem
  simp
  intro i h1 h2; simp[h1]
 conv=>rhs; rw[this]
 rw[eZ];refine ba fun i hi=>?_;have hi:=Vy.1 hi;rw[(J2 hi).1,U7,U4 hi]; rfl
def NoF.q8(h:NoF pts F){i:Nat}(hi:i<F.length):0<Fj pts F i:=by
 rw[(J2 hi).2];exact h.cx.Pb (Vi.2 ⟨F[i],Vg hi,rfl⟩)
def NoF.TZ(h:NoF pts F):aY F.length (Fj pts F)=bU (wv pts) (kn (sE F) pts.length):=by
 rw[Ga,FC pts (zU h.vf) h.dst]
def NoF.wall(h:NoF pts F){x:dm}(hx:x∈kn (sE F) pts.length):(0<=x.1/\x.1<x.2.1/\x.2.1<pts.length)/\x.2.2.1≠x.2.2.2/\(-1<=x.2.2.1/\x.2.2.1<F.length)/\(-1<=x.2.2.2/\x.2.2.2<F.length):=by
 obtain⟨i,k,hik,hk,hor,rfl⟩:=po.1 hx;have h0:∀e∈sE F,0<=e.2.2.1/\e.2.2.1<F.length:=fun e he=>by
  obtain⟨f,r,k,hf,_,_,rfl⟩:=vI (U8 _) e he;unfold ie; dsimp only; omega
 have b:∀a b,-1<=fc (sE F) a b/\fc (sE F) a b<F.length:=fun a b=>by
  rcases q7 a b (sE F) with k|⟨e,he,_,_,k⟩
  omega
  have:=h0 e he; omega
 have b1:=b i k;have b2:=b k i;refine⟨by dsimp only; omega,?_,b1,b2⟩
 dsimp only
 intro e;rcases q7 (i:Int) (k:Int) (sE F) with k1|⟨x,hx,x1,x2,x3⟩
 omega
 rcases q7 (k:Int) (i:Int) (sE F) with k1|⟨y,hy,y1,y2,y3⟩
 omega
 obtain⟨f,r,j,hf,hr,hj,ex⟩:=vI (U8 _) x hx;obtain⟨f',r',j',hf',hr',hj',ey⟩:=vI (U8 _) y hy;have ff:f=f':=by
  rw[ex] at x3;rw[ey] at y3;unfold ie at x3 y3
  dsimp only at x3 y3
  omega
 subst ff;have mem:∀{r j:Nat} {x:Ed},r<(ak F f).length->j<((ak F f).getD r []).length->x=ie ((ak F f).getD r []) f r j->gE pts x ∈(wT pts F[f]).es:=fun{r j x} hr hj ex=>by
  rw[uE];have ri:ak F f=F[f].1::F[f].2:=by
   unfold ak;rw[U7,U4 hf]; rfl
  rw[<-ri];refine VI.2 ⟨(ak F f).getD r [],?_,?_⟩
  rw[U7,U4 hr]; exact Vg hr
  rw[<-wx (f:=f) (r:=r)];refine Vi.2 ⟨x,?_,rfl⟩;unfold rE;rw[fm];exact VI.2 ⟨j,Vy.2 hj,Vb.2 ex⟩
 refine h.cx.yU (Vi.2 ⟨F[f],Vg hf,rfl⟩) (mem hr hj ex) ?_;have:=mem hr' hj' ey;unfold gE at this ⊢
 dsimp only
 rw[y1,y2] at this;rw[x1,x2];exact this
end
end Go.Proofs.Ytmndpgfbkicndaa
end
namespace Jd
def OF{α β γ:Int}{a b c d:I2}(ha:dO α β γ a<=0)(hb:dO α β γ b<=0)(hc:0<=dO α β γ c)(hd:0<=dO α β γ d)(hn:¬(dO α β γ a=0/\dO α β γ b=0/\dO α β γ c=0/\dO α β γ d=0)):¬vq a b c d:=by
 rintro⟨h1,h2⟩;have e:ti c d b*dO α β γ a-ti c d a*dO α β γ b = -(ti a b d*dO α β γ c-ti a b c*dO α β γ d):=by unfold dO ti; grind
 have f:=tX a b c d;generalize dO α β γ a=la at *;generalize dO α β γ b=lb at *;generalize dO α β γ c=lc at *;generalize dO α β γ d=ld at *;generalize ti a b c=p at *;generalize ti a b d=q at *;generalize ti c d a=r at *;generalize ti c d b=s at *;have z:∀{x y:Int},x≠0->x*y=0->y=0:=fun hx h=>(Wp.1 h).resolve_left hx;rcases h2 with⟨g1,g2⟩|⟨g1,g2⟩
 have k:p<0/\0<q:=by omega
 have m1:=Wb (WU g2) ha;have m2:=VP (WU g1) (show 0<=-lb by omega)
 have m3:=VP (WU k.2) hc;have m4:=VP (show 0<=-p by omega) hd
 rw[Int.mul_neg] at m2;rw[Int.neg_mul] at m4;exact hn ⟨z (by omega) (show s*la=0 by omega),z (by omega) (show r*lb=0 by omega),z (by omega) (show q*lc=0 by omega),z (by omega) (show p*ld=0 by omega)⟩
 have k:0<p/\q<0:=by omega
 have m1:=VP (WU g2) (show 0<=-la by omega)
 have m2:=Wb (WU g1) hb;have m3:=VP (show 0<=-q by omega) hc
 have m4:=VP (WU k.1) hd;rw[Int.mul_neg] at m1;rw[Int.neg_mul] at m3;exact hn ⟨z (by omega) (show s*la=0 by omega),z (by omega) (show r*lb=0 by omega),z (by omega) (show q*lc=0 by omega),z (by omega) (show p*ld=0 by omega)⟩
def L3{a b c d:I2}(h1:a.1=b.1)(h2:a.1=c.1)(h3:a.1=d.1):¬vq a b c d:=by
 rintro⟨h,_⟩;have e:ti a b c=0:=by unfold ti; rw[h1,<-h2,h1]; grind
 omega
def KZ{a b c d x:I2}(hx:gO a b c d x)(hu:∀y,gO a b c d y->y=x):k5 a b c d=1:=by
 classical
 unfold k5;rw[U3 (fun⟨y,z,hy,hz,hn⟩=>hn (by rw[hu y hy,hu z hz])),U5 ⟨x,hx⟩]
def Br{a b c d:I2}(hx:∀x,¬gO a b c d x)(hc:¬vq a b c d):k5 a b c d=0:=zu.2 ⟨hx,hc⟩
structure Sgm where
 i:Nat
 k:Nat
 dx:Nat
 dy:Nat
def Sgm.ok(s:Sgm):Prop:=s.dx<=1/\s.dy<=1/\1<=s.dx+s.dy
def Sgm.p(X Y:Nat->Int)(s:Sgm):I2:=(X s.i,Y s.k)
def Sgm.q(X Y:Nat->Int)(s:Sgm):I2:=(X (s.i+s.dx),Y (s.k+s.dy))
def Sgm.e(X Y:Nat->Int)(s:Sgm):Eg:=(s.p X Y,s.q X Y)
def rz(X:Nat->Int):Prop:=∀i j,i<j->X i<X j
def rz.lt{X:Nat->Int}(h:rz X){i j:Nat}:X i<X j↔i<j:=by
 constructor
 intro g;rcases Xk i j with k|k|k
 exact k
 rw[k] at g; omega
 have:=h j i k; omega
 exact h i j
def rz.le{X:Nat->Int}(h:rz X){i j:Nat}:X i<=X j↔i<=j:=by
 have:=h.lt (i:=j) (j:=i); omega
def rz.eq{X:Nat->Int}(h:rz X){i j:Nat}:X i=X j↔i=j:=by
 have:=h.le (i:=j) (j:=i);have:=h.le (i:=i) (j:=j); omega
section
variable{X Y:Nat->Int}(hX:rz X)(hY:rz Y)
include hX hY
theorem Sgm.Td{s:Sgm}(h:s.ok){x:I2}(hx:cD (s.p X Y) (s.q X Y) x)(e:x.1=X (s.i+s.dx)):(s.dx=1->x=s.q X Y)/\(s.dx=0->Y s.k<=x.2/\x.2<=Y (s.k+s.dy)):=by
 obtain⟨h0,h1,h2,h3,h4⟩:=hx;constructor
 intro hd;have hne:(s.p X Y).1≠(s.q X Y).1:=by
  unfold Sgm.p Sgm.q;intro k;have:=hX.eq.1 k; omega
 exact lu hne h0 (zo _ _) e
 intro hd;have:=hY.le (i:=s.k) (j:=s.k+s.dy);unfold Sgm.p Sgm.q at h3 h4
 dsimp only at h3 h4
 omega
theorem Sgm.TH{s:Sgm}(h:s.ok){x:I2}(hx:cD (s.p X Y) (s.q X Y) x)(e:x.1=X s.i):(s.dx=1->x=s.p X Y)/\(s.dx=0->Y s.k<=x.2/\x.2<=Y (s.k+s.dy)):=by
 obtain⟨h0,h1,h2,h3,h4⟩:=hx;constructor
 intro hd;have hne:(s.p X Y).1≠(s.q X Y).1:=by
  unfold Sgm.p Sgm.q;intro k;have:=hX.eq.1 k; omega
 exact lu hne h0 (yW _ _) e
 intro hd;have:=hY.le (i:=s.k) (j:=s.k+s.dy);unfold Sgm.p Sgm.q at h3 h4
 dsimp only at h3 h4
 omega
theorem Sgm.tU{s t:Sgm}(hs:s.ok)(ht:t.ok)(hst:s≠t)(hl:s.i+s.dx<=t.i):Mt (s.e X Y) (t.e X Y):=by
 obtain⟨s1,s2,s3⟩:=hs;obtain⟨t1,t2,t3⟩:=ht;have hs:s.ok:=⟨s1,s2,s3⟩;have ht:t.ok:=⟨t1,t2,t3⟩;have sx:=hX.le (i:=s.i) (j:=s.i+s.dx);have tx:=hX.le (i:=t.i) (j:=t.i+t.dx);have stx:=hX.le (i:=s.i+s.dx) (j:=t.i);have ge:∀x,cD (s.p X Y) (s.q X Y) x->cD (t.p X Y) (t.q X Y) x->x.1=X (s.i+s.dx)/\x.1=X t.i:=fun x a b=>by
  obtain⟨_,a1,a2,_,_⟩:=a;obtain⟨_,b1,b2,_,_⟩:=b;unfold Sgm.p Sgm.q at a1 a2 b1 b2
  dsimp only at a1 a2 b1 b2
  omega
 have nc:¬vq (s.p X Y) (s.q X Y) (t.p X Y) (t.q X Y):=by
  by_cases c:X s.i=X (s.i+s.dx)/\X (s.i+s.dx)=X t.i/\X t.i=X (t.i+t.dx)
  refine L3 ?_ ?_ ?_<;>(simp only[Sgm.p,Sgm.q]; omega)
  refine OF (α:=1) (β:=0) (γ:=-X (s.i+s.dx)) ?_ ?_ ?_ ?_ ?_<;>(simp only[dO,Sgm.p,Sgm.q]; omega)
 unfold Mt Sgm.e
 dsimp only
 by_cases hj:s.i+s.dx=t.i
 
 have key:∀x,gO (s.p X Y) (s.q X Y) (t.p X Y) (t.q X Y) x ->
   (s.dx=1->x=s.q X Y)/\(t.dx=1->x=t.p X Y)/\(s.dx=0->x.1=X t.i/\Y s.k<=x.2/\x.2<=Y (s.k+s.dy))/\(t.dx=0->x.1=X t.i/\Y t.k<=x.2/\x.2<=Y (t.k+t.dy)):=fun x hx=>by
  obtain⟨e1,e2⟩:=ge x hx.2.1 hx.2.2;have a:=Sgm.Td hX hY hs hx.2.1 e1;have b:=Sgm.TH hX hY ht hx.2.2 e2;exact⟨a.1,b.1,fun h=>⟨e2,a.2 h⟩,fun h=>⟨e2,b.2 h⟩⟩
 have P7:∀x,gO (s.p X Y) (s.q X Y) (t.p X Y) (t.q X Y) x->∃m,x.2=Y m/\x.1=X t.i:=fun x hx=>by
  obtain⟨e1,e2⟩:=ge x hx.2.1 hx.2.2;rcases hx.1 with e|e|e|e<;>rw[e]
  exact⟨s.k,rfl,by rw[<-e]; exact e2⟩
  exact⟨s.k+s.dy,rfl,by rw[<-e]; exact e2⟩
  exact⟨t.k,rfl,rfl⟩
  exact⟨t.k+t.dy,rfl,by rw[<-e]; exact e2⟩
 have lv:∀x m,gO (s.p X Y) (s.q X Y) (t.p X Y) (t.q X Y) x->x.2=Y m->(s.dx=1->m=s.k+s.dy)/\(t.dx=1->m=t.k)/\(s.dx=0->s.k<=m/\m<=s.k+s.dy)/\(t.dx=0->t.k<=m/\m<=t.k+t.dy):=fun x m hx hm=>by
  obtain⟨k1,k2,k3,k4⟩:=key x hx;refine⟨fun h=>?_,fun h=>?_,fun h=>?_,fun h=>?_⟩
  have:=Vs Prod.snd (k1 h); unfold Sgm.q at this; dsimp only at this;rw[hm] at this; exact hY.eq.1 this
  have:=Vs Prod.snd (k2 h); unfold Sgm.p at this; dsimp only at this;rw[hm] at this; exact hY.eq.1 this
  have:=k3 h; rw[hm] at this; exact⟨hY.le.1 this.2.1,hY.le.1 this.2.2⟩
  have:=k4 h; rw[hm] at this; exact⟨hY.le.1 this.2.1,hY.le.1 this.2.2⟩
 have nst:s.dx=0->t.dx=0->s.k≠t.k:=fun a b k=>hst (by
  cases s; cases t
  dsimp only at *
  have:_=_:=hj
  congr 1<;>omega)
 by_cases sh:∃m,(m=s.k+s.dy\/s.dx=0/\m=s.k)/\(m=t.k\/t.dx=0/\m=t.k+t.dy)
 right
 obtain⟨m,m1,m2⟩:=sh;have pS:((X t.i,Y m):I2)=s.q X Y\/((X t.i,Y m):I2)=s.p X Y:=by
  rcases m1 with h|⟨h,g⟩
  left; unfold Sgm.q; rw[h,hj]
  right; unfold Sgm.p; rw[g,<-hj,h,Wf]
 have pT:((X t.i,Y m):I2)=t.p X Y\/((X t.i,Y m):I2)=t.q X Y:=by
  rcases m2 with h|⟨h,g⟩
  left; unfold Sgm.p; rw[h]
  right; unfold Sgm.q; rw[g,h,Wf]
 have cx:gO (s.p X Y) (s.q X Y) (t.p X Y) (t.q X Y) (X t.i,Y m):=by
  refine⟨?_,?_,?_⟩
  rcases pS with e|e<;>rw[e]<;>simp
  rcases pS with e|e<;>rw[e]
  exact mP _ _
  exact mQ _ _
  rcases pT with e|e<;>rw[e]
  exact mQ _ _
  exact mP _ _
 refine⟨KZ cx fun y hy=>?_,?_⟩
 obtain⟨m',e1,e2⟩:=P7 y hy;obtain⟨a1,a2,a3,a4⟩:=lv y m' hy e1;obtain⟨b1,b2,b3,b4⟩:=lv _ m cx rfl;refine VN e2 ?_;rw[e1];have:m'=m:=by omega
 rw[this]
 rcases pS with e|e<;>rcases pT with g|g<;>rw[<-e,<-g]<;>simp
 left
 refine Br (fun x hx=>?_) nc;obtain⟨m,e1,e2⟩:=P7 x hx;obtain⟨a1,a2,a3,a4⟩:=lv x m hx e1;exact sh ⟨m,by omega,by omega⟩
 left
 refine Br (fun x hx=>?_) nc;obtain⟨e1,e2⟩:=ge x hx.2.1 hx.2.2;rw[e1] at e2;exact hj (hX.eq.1 e2)
end
def Sgm.sw(s:Sgm):Sgm:=⟨s.k,s.i,s.dy,s.dx⟩
def PZ(a b c d:I2):k5 (Jd.sw a) (Jd.sw b) (Jd.sw c) (Jd.sw d)=k5 a b c d:=uo yz.Gt yz.inj yz.SQ a b c d
def Mt.Ny{g e:Eg}(h:Mt (Jd.sw g.1,Jd.sw g.2) (Jd.sw e.1,Jd.sw e.2)):Mt g e:=by
 unfold Mt at *
 dsimp only at h
 rw[PZ] at h;rcases h with h|⟨h,k⟩
 exact .inl h
 exact .inr ⟨h,by rcases k with k|k|k|k<;>simp[yz.inj k]⟩
def Sgm.mt{X Y:Nat->Int}(hX:rz X)(hY:rz Y){s t:Sgm}(hs:s.ok)(ht:t.ok)(hst:s≠t):Mt (s.e X Y) (t.e X Y):=by
 have sep:s.i+s.dx<=t.i\/t.i+t.dx<=s.i\/s.k+s.dy<=t.k\/t.k+t.dy<=s.k:=by
  obtain⟨s1,s2,s3⟩:=hs;obtain⟨t1,t2,t3⟩:=ht;refine U6 fun hc=>hst ?_;cases s; cases t
  dsimp only at *
  congr 1<;>omega
 have ok2:∀{s:Sgm},s.ok->s.sw.ok:=fun{s} h=>by unfold Sgm.ok Sgm.sw at *; dsimp only; omega
 have ne2:s.sw≠t.sw:=fun e=>hst (by
  cases s; cases t;unfold Sgm.sw at e;simp at e;simp[e])
 rcases sep with h|h|h|h
 exact Sgm.tU hX hY hs ht hst h
 exact(Sgm.tU hX hY ht hs (Ne.symm hst) h).symm
 exact Mt.Ny (Sgm.tU hY hX (ok2 hs) (ok2 ht) ne2 h)
 exact(Mt.Ny (g:=t.e X Y) (e:=s.e X Y) (Sgm.tU hY hX (ok2 ht) (ok2 hs) (Ne.symm ne2) h)).symm
def Jc{r:YB I2}{q:I2}(h:(∀i,(nx r i).2<=q.2)\/(∀i,q.2<(nx r i).2)):cJ r q=0:=bw fun i _=>by
 unfold wi;rcases h with h|h
 have a:=h i; have b:=h (i+1);rw[XP,XP]
 have a:=h i; have b:=h (i+1);rw[XP,XP]
def SK{r:YB I2}(h0:r≠[]):∃K:Int,0<K/\∀i,-K<(nx r i).2/\(nx r i).2<K:=by
 obtain⟨K,K0,hK⟩:=(Lg.all (n:=r.length) (P:=fun i K=>-K<(nx r i).2/\(nx r i).2<K) fun i _ =>
  (Lg.ge (max (nx r i).2 (-(nx r i).2)+1)).imp fun K h=>by omega).get
 refine⟨K,K0,fun i=>?_⟩;have:=hK (i%r.length) (VM _ (Xp.2 h0));rwa[jh r (Nat.mod_mod i r.length)] at this
def GG{r:YB I2}(v:VR r){α β γ:Int}(h:∀i,0<=dO α β γ (nx r i)){p:I2}(hp:dO α β γ p<0):cJ r p=0:=by
 obtain⟨K,K0,hK⟩:=SK v.ne_nil;obtain⟨q,hq,hf⟩:∃q:I2,dO α β γ q<0/\((∀i,(nx r i).2<=q.2)\/(∀i,q.2<(nx r i).2)):=by
  have hT:∀T:Int,0<=T->dO α β γ (p.1-T*α,p.2-T*β)<0:=fun T h0=>by
   have e:dO α β γ (p.1-T*α,p.2-T*β)=dO α β γ p-T*(α*α+β*β):=by unfold dO; grind
   have:=VP h0 (Int.add_nonneg (@NU α) (@NU β));rw[e]; omega
  rcases W4 β 0 with b|b|b
  obtain⟨T,T0,hT2⟩:=(zK (show 0 < -β by omega) (p.2-K)).get
  refine⟨_,hT T (by omega),.inl fun i=>?_⟩
  have:=hK i;rw[Int.mul_neg] at hT2
  dsimp only; omega
  refine⟨(p.1,max K p.2),?_,.inl fun i=>?_⟩
  unfold dO at hp ⊢;rw[b] at hp ⊢
  dsimp only; omega
  have:=hK i; dsimp only; omega
  obtain⟨T,T0,hT2⟩:=(zK b (-p.2-K)).get;refine⟨_,hT T (by omega),.inr fun i=>?_⟩
  have:=hK i
  dsimp only; omega
 have wc:∀q:I2,cJ r q=wr (cp r) (ca q):=fun q=>by
  rw[sH];unfold cJ W;exact ay fun i _=>(R1 _ _ _).symm
 rw[wc p,<-Jc hf,wc q];have af_lin:∀x:I2,af (α:Rat) (β:Rat) (γ:Rat) (ca x)=((dO α β γ x:Int):Rat):=fun x=>by
  unfold af dO ca;simp only[Xm,Wu]
 refine Ep v fun e he=>?_;obtain⟨i,_,rfl⟩:=Vi.1 he;refine pA (α:Rat) (β:Rat) (γ:Rat) ?_ ?_ ?_ ?_
 rw[af_lin]; exact Rat.intCast_nonneg.2 (h i)
 rw[af_lin]; exact Rat.intCast_nonneg.2 (h (i+1))
 rw[af_lin]; exact ky.2 hp
 rw[af_lin]; exact ky.2 hq
def Uj(a b c:I2)(i:Nat):(nx [a,b,c] i=a/\nx [a,b,c] (i+1)=b/\nx [a,b,c] (i+2)=c)\/(nx [a,b,c] i=b/\nx [a,b,c] (i+1)=c/\nx [a,b,c] (i+2)=a)\/(nx [a,b,c] i=c/\nx [a,b,c] (i+1)=a/\nx [a,b,c] (i+2)=b):=by
 have h:i%3=0\/i%3=1\/i%3=2:=by omega
 unfold nx;simp only[VF,WJ,VC,Nat.reduceAdd];rcases h with h|h|h
 left; rw[h,show(i+1)%3=1 by omega,show(i+2)%3=2 by omega]; exact⟨rfl,rfl,rfl⟩
 right; left; rw[h,show(i+1)%3=2 by omega,show(i+2)%3=0 by omega]; exact⟨rfl,rfl,rfl⟩
 right; right; rw[h,show(i+1)%3=0 by omega,show(i+2)%3=1 by omega]; exact⟨rfl,rfl,rfl⟩
def Ue(a b c d:I2)(i:Nat):(nx [a,b,c,d] i=a/\nx [a,b,c,d] (i+1)=b/\nx [a,b,c,d] (i+2)=c)\/(nx [a,b,c,d] i=b/\nx [a,b,c,d] (i+1)=c/\nx [a,b,c,d] (i+2)=d)\/(nx [a,b,c,d] i=c/\nx [a,b,c,d] (i+1)=d/\nx [a,b,c,d] (i+2)=a)\/(nx [a,b,c,d] i=d/\nx [a,b,c,d] (i+1)=a/\nx [a,b,c,d] (i+2)=b):=by
 have h:i%4=0\/i%4=1\/i%4=2\/i%4=3:=by omega
 unfold nx;simp only[VF,WJ,VC,Nat.reduceAdd];rcases h with h|h|h|h
 left; rw[h,show(i+1)%4=1 by omega,show(i+2)%4=2 by omega]; exact⟨rfl,rfl,rfl⟩
 right; left; rw[h,show(i+1)%4=2 by omega,show(i+2)%4=3 by omega]; exact⟨rfl,rfl,rfl⟩
 right; right; left; rw[h,show(i+1)%4=3 by omega,show(i+2)%4=0 by omega]; exact⟨rfl,rfl,rfl⟩
 right; right; right; rw[h,show(i+1)%4=0 by omega,show(i+2)%4=1 by omega]; exact⟨rfl,rfl,rfl⟩
def Us{a b c:I2}(h:ti a b c≠0):VR [a,b,c]:=by
 have r1:ti b c a=ti a b c:=uz a b c;have r2:ti c a b=ti a b c:=by rw[uz,uz]
 have ne:∀{a b c:I2},ti a b c≠0->a≠b:=fun h e=>h (by rw[e,Nh])
 refine⟨by simp,fun i=>?_,fun i=>?_,fun j i h1 h2 h3=>?_⟩
 rcases Uj a b c i with⟨e1,e2,e3⟩|⟨e1,e2,e3⟩|⟨e1,e2,e3⟩<;>rw[e1,e2]
 exact ne h
 exact ne (by rw[r1]; exact h)
 exact ne (by rw[r2]; exact h)
 rcases Uj a b c i with⟨e1,e2,e3⟩|⟨e1,e2,e3⟩|⟨e1,e2,e3⟩<;>rw[e1,e2,e3]
 exact fun k=>h k.1
 rw[r1]; exact fun k=>h k.1
 rw[r2]; exact fun k=>h k.1
 simp only[VF,WJ] at h2 h3;omega
def Uy{x0 x1 y0 y1:Int}(hx:x0<x1)(hy:y0<y1):VR [(x0,y0),(x1,y0),(x1,y1),(x0,y1)]:=by
 have pr:=Wq (show 0<x1-x0 by omega) (show 0<y1-y0 by omega)
 have t1:ti (x0,y0) (x1,y0) (x1,y1)≠0:=by unfold ti; dsimp only; rw[Int.sub_self,Int.zero_mul]; omega
 have t2:ti (x1,y0) (x1,y1) (x0,y1)≠0:=by
  have e:ti (x1,y0) (x1,y1) (x0,y1)=(x1-x0)*(y1-y0):=by unfold ti; grind
  omega
 have t3:ti (x1,y1) (x0,y1) (x0,y0)≠0:=by
  have e:ti (x1,y1) (x0,y1) (x0,y0)=(x1-x0)*(y1-y0):=by unfold ti; grind
  omega
 have t4:ti (x0,y1) (x0,y0) (x1,y0)≠0:=by
  have e:ti (x0,y1) (x0,y0) (x1,y0)=(x1-x0)*(y1-y0):=by unfold ti; grind
  omega
 have ne:∀{a b c:I2},ti a b c≠0->a≠b:=fun h e=>h (by rw[e,Nh])
 refine⟨by simp,fun i=>?_,fun i=>?_,fun j i h1 h2 h3=>?_⟩
 rcases Ue (x0,y0) (x1,y0) (x1,y1) (x0,y1) i with⟨e1,e2,e3⟩|⟨e1,e2,e3⟩|⟨e1,e2,e3⟩|⟨e1,e2,e3⟩<;>rw[e1,e2]
 exact ne t1
 exact ne t2
 exact ne t3
 exact ne t4
 rcases Ue (x0,y0) (x1,y0) (x1,y1) (x0,y1) i with⟨e1,e2,e3⟩|⟨e1,e2,e3⟩|⟨e1,e2,e3⟩|⟨e1,e2,e3⟩<;>rw[e1,e2,e3]
 exact fun k=>t1 k.1
 exact fun k=>t2 k.1
 exact fun k=>t3 k.1
 exact fun k=>t4 k.1
 simp only[VF,WJ] at h2 h3;have:(j=0/\i=2)\/(j=1/\i=3):=by omega
 rcases this with⟨rfl,rfl⟩|⟨rfl,rfl⟩
 rw[show nx [(x0,y0),(x1,y0),(x1,y1),(x0,y1)] 0=(x0,y0) by simp[nx],show nx [(x0,y0),(x1,y0),(x1,y1),(x0,y1)] (0+1)=(x1,y0) by simp[nx],show nx [(x0,y0),(x1,y0),(x1,y1),(x0,y1)] 2=(x1,y1) by simp[nx],show nx [(x0,y0),(x1,y0),(x1,y1),(x0,y1)] (2+1)=(x0,y1) by simp[nx]]
 exact IP rfl rfl rfl rfl (by omega)
 rw[show nx [(x0,y0),(x1,y0),(x1,y1),(x0,y1)] 1=(x1,y0) by simp[nx],show nx [(x0,y0),(x1,y0),(x1,y1),(x0,y1)] (1+1)=(x1,y1) by simp[nx],show nx [(x0,y0),(x1,y0),(x1,y1),(x0,y1)] 3=(x0,y1) by simp[nx],show nx [(x0,y0),(x1,y0),(x1,y1),(x0,y1)] (3+1)=(x0,y0) by simp[nx]]
 exact G7 (k:=x0) hx hx (Int.le_refl _) (Int.le_refl _)
def Nz(a b c:I2):fw [a,b,c]=ti a b c:=by
 simp[fw,aY,nx];unfold ti; grind
def Sp(x0 x1 y0 y1:Int):fw [(x0,y0),(x1,y0),(x1,y1),(x0,y1)]=2*((x1-x0)*(y1-y0)):=by
 simp[fw,aY,nx]
 grind
section
variable(X Y:Nat->Int)
def cA(i k:Nat):I2:=(X i,Y k)
def fP(i k:Nat)(κ:Nat):YB I2:=if κ=0 then[cA X Y i k,cA X Y (i+1) k,cA X Y (i+1) (k+1),cA X Y i (k+1)] else if κ=1 then[cA X Y i k,cA X Y (i+1) k,cA X Y (i+1) (k+1)] else[cA X Y i k,cA X Y (i+1) (k+1),cA X Y i (k+1)]
end
section
variable{X Y:Nat->Int}(hX:rz X)(hY:rz Y)
include hX hY
theorem ki(i k κ:Nat):VR (fP X Y i k κ)/\0<fw (fP X Y i k κ):=by
 have h1:=hX i (i+1) (by omega)
 have h2:=hY k (k+1) (by omega)
 have pr:=Wq (show 0<X (i+1)-X i by omega) (show 0<Y (k+1)-Y k by omega)
 unfold fP cA
 by_cases c0:κ=0
 rw[U5 c0];exact⟨Uy h1 h2,by rw[Sp]; omega⟩
 rw[U3 c0]
 by_cases c1:κ=1
 rw[U5 c1];have e:ti (X i,Y k) (X (i+1),Y k) (X (i+1),Y (k+1))=(X (i+1)-X i)*(Y (k+1)-Y k):=by unfold ti; grind
 exact⟨Us (by omega),by rw[Nz]; omega⟩
 rw[U3 c1];have e:ti (X i,Y k) (X (i+1),Y (k+1)) (X i,Y (k+1))=(X (i+1)-X i)*(Y (k+1)-Y k):=by unfold ti; grind
 exact⟨Us (by omega),by rw[Nz]; omega⟩
theorem xF(i k κ:Nat):∀v∈fP X Y i k κ,(X i<=v.1/\v.1<=X (i+1))/\Y k<=v.2/\v.2<=Y (k+1):=by
 have h1:=hX i (i+1) (by omega)
 have h2:=hY k (k+1) (by omega)
 intro v hv;have:v=cA X Y i k\/v=cA X Y (i+1) k\/v=cA X Y (i+1) (k+1)\/v=cA X Y i (k+1):=by
  unfold fP at hv
  split at hv
  simpa using hv
  split at hv
  simp at hv; rcases hv with h|h|h<;>simp[h]
  simp at hv; rcases hv with h|h|h<;>simp[h]
 unfold cA at this;rcases this with rfl|rfl|rfl|rfl<;>(dsimp only; omega)
omit hX hY in
theorem Nf{r:YB I2}(h0:r≠[])(i:Nat):nx r i∈r:=by
 have hl:i%r.length<r.length:=VM _ (Xp.2 h0);unfold nx;rw[U7,U4 hl];exact Vg hl
theorem rT{r:YB I2}(v:VR r){α β γ:Int}(h:∀v∈r,0<=dO α β γ v){e:Eg}(he:dO α β (2*γ) (jL e)<0):wM r e=0:=by
 rw[oh v.ne_nil];refine GG ((jw (s:=2) (by decide)).vr v) (α:=α) (β:=β) (γ:=2*γ) (fun i=>?_) he
 rw[bh _ v.ne_nil];have:=h _ (Nf v.ne_nil i);unfold dO bK at *
 dsimp only
 have e1:α*((nx r i).1*2)=2*(α*(nx r i).1):=by grind
 have e2:β*((nx r i).2*2)=2*(β*(nx r i).2):=by grind
 omega
def Sgm.PG(s:Sgm)(i k:Nat):Prop:=(s.dx=1/\s.i=i\/s.dx=0/\(s.i=i\/s.i=i+1))/\(s.dy=1/\s.k=k\/s.dy=0/\(s.k=k\/s.k=k+1))
omit hX hY in
theorem Sgm.pO{s:Sgm}:jL (s.e X Y)=(X s.i+X (s.i+s.dx),Y s.k+Y (s.k+s.dy)):=rfl
theorem Io{s:Sgm}(hs:s.ok){i k κ:Nat}(hn:¬s.PG i k):wM (fP X Y i k κ) (s.e X Y)=0:=by
 obtain⟨s1,s2,s3⟩:=hs;have v:=(ki hX hY i k κ).1;have box:=xF hX hY i k κ;have a1:=hX.le (i:=s.i) (j:=i);have a2:=hX.le (i:=s.i+s.dx) (j:=i);have a3:=hX.le (i:=i+1) (j:=s.i);have a4:=hX.le (i:=i+1) (j:=s.i+s.dx);have a5:=hX.lt (i:=s.i) (j:=s.i+s.dx);have b1:=hY.le (i:=s.k) (j:=k);have b2:=hY.le (i:=s.k+s.dy) (j:=k);have b3:=hY.le (i:=k+1) (j:=s.k);have b4:=hY.le (i:=k+1) (j:=s.k+s.dy);have b5:=hY.lt (i:=s.k) (j:=s.k+s.dy);have lt1:=hX.lt (i:=s.i) (j:=i);have lt2:=hX.lt (i:=i+1) (j:=s.i+s.dx);have lt3:=hY.lt (i:=s.k) (j:=k);have lt4:=hY.lt (i:=k+1) (j:=s.k+s.dy);have cs:(s.i<i/\s.i+s.dx<=i)\/(i+1<s.i+s.dx/\i+1<=s.i)\/(s.k<k/\s.k+s.dy<=k)\/(k+1<s.k+s.dy/\k+1<=s.k):=by
  refine U6 fun hc=>hn ?_;unfold Sgm.PG;omega
 rcases cs with c|c|c|c
 refine rT hX hY v (α:=1) (β:=0) (γ:=-X i) (fun v hv=>?_) ?_
 have:=box v hv; unfold dO; omega
 rw[Sgm.pO]; unfold dO; dsimp only; omega
 refine rT hX hY v (α:=-1) (β:=0) (γ:=X (i+1)) (fun v hv=>?_) ?_
 have:=box v hv; unfold dO; omega
 rw[Sgm.pO]; unfold dO; dsimp only; omega
 refine rT hX hY v (α:=0) (β:=1) (γ:=-Y k) (fun v hv=>?_) ?_
 have:=box v hv; unfold dO; omega
 rw[Sgm.pO]; unfold dO; dsimp only; omega
 refine rT hX hY v (α:=0) (β:=-1) (γ:=Y (k+1)) (fun v hv=>?_) ?_
 have:=box v hv; unfold dO; omega
 rw[Sgm.pO]; unfold dO; dsimp only; omega
theorem qU{s:Sgm}{i k:Nat}:((s=⟨i,k,0,1⟩\/s=⟨i,k+1,1,0⟩)->wM (fP X Y i k 1) (s.e X Y)=0)/\((s=⟨i+1,k,0,1⟩\/s=⟨i,k,1,0⟩)->wM (fP X Y i k 2) (s.e X Y)=0):=by
 have h1:=hX i (i+1) (by omega)
 have h2:=hY k (k+1) (by omega)
 obtain⟨u,hu⟩:∃u,u=X (i+1)-X i:=⟨_,rfl⟩;obtain⟨w,hw⟩:∃w,w=Y (k+1)-Y k:=⟨_,rfl⟩;have pr:=Wq (show 0<u by omega) (show 0<w by omega)
 have e1:X (i+1)=X i+u:=by omega
 have e2:Y (k+1)=Y k+w:=by omega
 constructor
 ·intro hs;refine rT hX hY (ki hX hY i k 1).1 (α:=w) (β:=-u) (γ:=u*Y k-w*X i) (fun v hv=>?_) ?_
  ·unfold fP cA at hv;rw[U3 (by decide),U5 rfl] at hv
   simp at hv;unfold dO;rcases hv with rfl|rfl|rfl<;>(dsimp only)<;>(try rw[e1])<;>(try rw[e2])<;>grind
  ·rw[Sgm.pO];unfold dO;rcases hs with rfl|rfl<;>(dsimp only; simp only[Wf]; rw[e2]; try rw[e1])<;>grind
 ·intro hs;refine rT hX hY (ki hX hY i k 2).1 (α:=-w) (β:=u) (γ:=w*X i-u*Y k) (fun v hv=>?_) ?_
  ·unfold fP cA at hv;rw[U3 (by decide),U3 (by decide)] at hv
   simp at hv;unfold dO;rcases hv with rfl|rfl|rfl<;>(dsimp only)<;>(try rw[e2])<;>(try rw[e1])<;>grind
  ·rw[Sgm.pO];unfold dO;rcases hs with rfl|rfl<;>(dsimp only; simp only[Wf]; rw[e1]; try rw[e2])<;>grind
end
def o1(σ:Nat):Nat:=if σ=1\/σ=2\/σ=4 then 1 else 0
def o2(σ:Nat):Nat:=if σ=2\/σ=3\/σ=4 then 1 else 0
def o3(σ:Nat):Nat:=if σ=0\/σ=1\/σ=5 then 1 else 0
def o4(σ:Nat):Nat:=if σ=1\/σ=2\/σ=5 then 1 else 0
def dE(X Y:Nat->Int)(i k σ:Nat):Eg:=(cA X Y (i+o1 σ) (k+o2 σ),cA X Y (i+o3 σ) (k+o4 σ))
def Ac(κ:Nat):YB Nat:=if κ=0 then[0,1,2,3] else if κ=1 then[0,1,4] else[5,2,3]
def sg(i k σ:Nat):Sgm:=if σ=0 then⟨i,k,1,0⟩ else if σ=1 then⟨i+1,k,0,1⟩ else if σ=2 then⟨i,k+1,1,0⟩ else if σ=3 then⟨i,k,0,1⟩ else⟨i,k,1,1⟩
def JL(i k σ:Nat):(sg i k σ).ok:=by
 unfold sg Sgm.ok
 split
 simp
 split
 simp
 split
 simp
 split<;>simp
def B0{X Y:Nat->Int}{i k σ:Nat}(h:σ<6):dE X Y i k σ=(sg i k σ).e X Y\/dE X Y i k σ=(((sg i k σ).e X Y).2,((sg i k σ).e X Y).1):=by
 have:σ=0\/σ=1\/σ=2\/σ=3\/σ=4\/σ=5:=by omega
 rcases this with rfl|rfl|rfl|rfl|rfl|rfl
 exact .inl rfl
 exact .inl rfl
 exact .inr rfl
 exact .inr rfl
 exact .inr rfl
 exact .inl rfl
def qu{κ σ:Nat}(h:σ∈Ac κ):σ<6:=by
 unfold Ac at h
 split at h
 simp at h; omega
 split at h<;>(simp at h; omega)
def nj(X Y:Nat->Int)(i k κ:Nat):cp (fP X Y i k κ)=(Ac κ).map (dE X Y i k):=by
 unfold fP Ac
 split
 simp[cp,nx,dE,o1,o2,o3,o4,WS]
 split<;>simp[cp,nx,dE,o1,o2,o3,o4,WS]
def O7{X Y:Nat->Int}(hX:rz X)(hY:rz Y){i k σ i' k' σ':Nat}(h:σ<6)(h':σ'<6)(e:dE X Y i k σ=dE X Y i' k' σ'):i=i'/\k=k'/\σ=σ':=by
 unfold dE cA at e;have e1:=hX.eq.1 (Vs (fun x=>x.1.1) e);have e2:=hY.eq.1 (Vs (fun x=>x.1.2) e);have e3:=hX.eq.1 (Vs (fun x=>x.2.1) e);have e4:=hY.eq.1 (Vs (fun x=>x.2.2) e);unfold o1 at e1;unfold o2 at e2;unfold o3 at e3;unfold o4 at e4;have a:σ=0\/σ=1\/σ=2\/σ=3\/σ=4\/σ=5:=by omega
 have b:σ'=0\/σ'=1\/σ'=2\/σ'=3\/σ'=4\/σ'=5:=by omega
 rcases a with rfl|rfl|rfl|rfl|rfl|rfl<;>rcases b with rfl|rfl|rfl|rfl|rfl|rfl<;>simp at e1 e2 e3 e4<;>omega
def lU{α β:Type}{g:α->YB β}:∀{l:YB α},l.Nodup->(∀a∈l,(g a).Nodup)->(∀a∈l,∀b∈l,a≠b->∀x,x∈g a->x∈g b->False)->(l.flatMap g).Nodup
 | [],_,_,_=>List.nodup_nil
 | a::l,hn,h1,h2=>by
  obtain⟨n1,n2⟩:=Ww.1 hn;rw[VY];refine List.nodup_append.2 ⟨h1 a Vp,lU n2 (fun b hb=>h1 b (Ve _ hb)) (fun b hb c hc=>h2 b (Ve _ hb) c (Ve _ hc)),fun x hx y hy e=>?_⟩;subst e;obtain⟨b,hb,hxb⟩:=VI.1 hy;exact h2 a Vp b (Ve _ hb) (fun k=>n1 (k▸hb)) x hx hxb
def tT(w h:Nat)(sp:Nat->Nat->Bool):YB (Nat×Nat×Nat):=(List.range h).flatMap fun k=>(List.range w).flatMap fun i=>if sp i k then[(i,k,1),(i,k,2)] else[(i,k,0)]
section
variable{w h:Nat}{sp:Nat->Nat->Bool}
def il{t:Nat×Nat×Nat}:t∈tT w h sp↔t.1<w/\t.2.1<h/\(sp t.1 t.2.1=true/\(t.2.2=1\/t.2.2=2)\/sp t.1 t.2.1=false/\t.2.2=0):=by
 unfold tT;rw[VI];constructor
 rintro⟨k,hk,hm⟩;obtain⟨i,hi,hm⟩:=VI.1 hm;have hk:=Vy.1 hk;have hi:=Vy.1 hi;cases hs:sp i k
 rw[hs,U3 (by decide)] at hm
 rw[Vb.1 hm];exact⟨hi,hk,.inr ⟨hs,rfl⟩⟩
 rw[hs,U5 rfl] at hm;simp at hm;rcases hm with rfl|rfl
 exact⟨hi,hk,.inl ⟨hs,.inl rfl⟩⟩
 exact⟨hi,hk,.inl ⟨hs,.inr rfl⟩⟩
 rintro⟨h1,h2,h3⟩;refine⟨t.2.1,Vy.2 h2,VI.2 ⟨t.1,Vy.2 h1,?_⟩⟩;obtain⟨i,k,κ⟩:=t
 dsimp only at *
 rcases h3 with⟨a,b⟩|⟨a,b⟩
 rw[a,U5 rfl];rcases b with rfl|rfl<;>simp
 rw[a,U3 (by decide),b]; simp
def AO:(tT w h sp).Nodup:=by
 unfold tT;refine lU List.nodup_range (fun k _=>lU List.nodup_range (fun i _=>?_) fun i _ i' _ hn x hx hx'=>?_) fun k _ k' _ hn x hx hx'=>?_
 split<;>simp
 have key:∀i,x ∈(if sp i k then[(i,k,1),(i,k,2)] else[(i,k,0)])->x.1=i:=fun i hx=>by
  split at hx
  simp at hx; rcases hx with rfl|rfl<;>rfl
  rw[Vb.1 hx]
 exact hn ((key i hx).symm.trans (key i' hx'))
 have key:∀k,x ∈((List.range w).flatMap fun i=>if sp i k then[(i,k,1),(i,k,2)] else[(i,k,0)])->x.2.1=k:=fun k hx=>by
  obtain⟨i,_,hx⟩:=VI.1 hx
  split at hx
  simp at hx; rcases hx with rfl|rfl<;>rfl
  rw[Vb.1 hx]
 exact hn ((key k hx).symm.trans (key k' hx'))
def Ng(w h:Nat)(sp:Nat->Nat->Bool):Nat:=((List.range h).flatMap fun k=>(List.range w).flatMap fun i=>if sp i k then[(i,k)] else[]).length
def KA:(tT w h sp).length=h*w+Ng w h sp:=by
 unfold tT Ng;have e:∀k,((List.range w).flatMap fun i=>if sp i k then[(i,k,1),(i,k,2)] else[(i,k,0)]).length=w+((List.range w).flatMap fun i=>if sp i k then[(i,k)] else[]).length:=fun k=>by
  have h1:∀l:YB Nat,(l.flatMap fun i=>if sp i k then[(i,k,1),(i,k,2)] else[(i,k,0)]).length=l.length+(l.flatMap fun i=>if sp i k then[(i,k)] else[]).length:=by
   intro l
   induction l with
   | nil=>rfl
   | cons i l ih =>
    rw[VY,VY,Vd,Vd,VF,ih]
    split<;>simp<;>omega
  have:=h1 (List.range w);rwa[WQ] at this
 have h2:∀l:YB Nat,(l.flatMap fun k=>(List.range w).flatMap fun i=>if sp i k then[(i,k,1),(i,k,2)] else[(i,k,0)]).length=l.length*w+(l.flatMap fun k=>(List.range w).flatMap fun i=>if sp i k then[(i,k)] else[]).length:=by
  intro l
  induction l with
  | nil=>simp
  | cons k l ih =>
   rw[VY,VY,Vd,Vd,VF,ih,e k,V2];omega
 have:=h2 (List.range h);rwa[WQ] at this
end
end Jd
namespace Go.Proofs.Ytmndpgfbkicndaa
open Go Go.Ab Go.Ab.W Go.Ab.B Jd
def Kc(w:Nat)(t:Nat×Nat×Nat):YB Int :=
 let a:Nat:=t.2.1*(w+1)+t.1
 if t.2.2=0 then[(a:Int),((a+1:Nat):Int),((a+w+2:Nat):Int),((a+w+1:Nat):Int)]
 else if t.2.2=1 then[(a:Int),((a+1:Nat):Int),((a+w+2:Nat):Int)] else[(a:Int),((a+w+2:Nat):Int),((a+w+1:Nat):Int)]
def vw(w:Nat)(t:Nat×Nat×Nat):Fc:=(Kc w t,[])
structure Tab(w h:Nat)(X Y:Nat->Int)(sp:Nat->Nat->Bool)(pts:YB I2)(F:YB Fc):Prop where
 hw:1<=w/\w<=4
 hh:1<=h/\h<=4
 hX:rz X
 hY:rz Y
 bX:∀i,i<=w->0<=X i/\X i<=1000
 bY:∀i,i<=h->0<=Y i/\Y i<=1000
 len:pts.length=(h+1)*(w+1)
 at_:∀i k,i<=w->k<=h->pts[k*(w+1)+i]? = some (X i,Y k)
 eF:F=(tT w h sp).map (vw w)
def uu{P:YB Ed->Ed->Bool}:∀{E d:YB Ed},(∀a e b,E=a++e::b->P (d++a) e=false)->bI P d E=none
 | [],_,_=>rfl
 | x::E,d,h=>by
  have h0:=h [] x E rfl;rw[VX] at h0;rw[bI,h0,U3 (by decide)]
  refine uu fun a e b hE=>?_;have:=h (x::a) e b (by rw[hE]; rfl)
  rwa[VT]
def EP{q:Ed->Ed->Bool}{P:YB Ed->Ed->Bool}(hP:∀d e,P d e=d.any (q e)){E:YB Ed}(h:∀i j (hi:i<E.length) (hj:j<E.length),i<j->q E[j] E[i]=false):bI P [] E=none:=by
 refine uu fun a e b hE=>?_;rw[Wc,hP,List.any_eq_false];intro x hx;obtain⟨i,hi,rfl⟩:=Vz.1 hx;have hl:E.length=a.length+(b.length+1):=by rw[hE,Vd,VF]
 have:=h i a.length (by omega) (by omega) hi
 have e1:E[a.length]'(by omega)=e:=by simp[hE]
 have e2:E[i]'(by omega)=a[i]:=by simp[hE,List.getElem_append_left hi]
 rw[e1,e2] at this;rw[this]; exact VS
section
variable{w h:Nat}{X Y:Nat->Int}{sp:Nat->Nat->Bool}{pts:YB I2}{F:YB Fc}
def Tab.pt(T:Tab w h X Y sp pts F){i k:Nat}(hi:i<=w)(hk:k<=h):fb pts ((k*(w+1)+i:Nat):Int)=(X i,Y k):=by
 unfold fb;rw[VH,U7,T.at_ i k hi hk]; rfl
def Nu{w h i k:Nat}(hi:i<=w)(hk:k<=h):k*(w+1)+i<(h+1)*(w+1):=by
 have:=V1 (w+1) hk;rw[V2]; omega
def Tab.dP(T:Tab w h X Y sp pts F){t:Nat×Nat×Nat}(h1:t.1<w)(h2:t.2.1<h):dP pts (Kc w t) 1=fP X Y t.1 t.2.1 t.2.2:=by
 obtain⟨i,k,κ⟩:=t
 dsimp only at h1 h2 ⊢
 have one:∀p:I2,((1*p.1,1*p.2):I2)=p:=fun p=>VN (Int.one_mul _) (Int.one_mul _);have a1:=T.pt (i:=i) (k:=k) (by omega) (by omega)
 have a2:=T.pt (i:=i+1) (k:=k) (by omega) (by omega)
 have a3:=T.pt (i:=i+1) (k:=k+1) (by omega) (by omega)
 have a4:=T.pt (i:=i) (k:=k+1) (by omega) (by omega)
 rw[show(k+1)*(w+1)+(i+1)=k*(w+1)+i+w+2 by rw[V2]; omega] at a3
 rw[show(k+1)*(w+1)+i=k*(w+1)+i+w+1 by rw[V2]; omega] at a4
 unfold Go.Proofs.Ytmndpgfbkicndaa.dP Kc fP cA
 dsimp only
 by_cases c0:κ=0
 rw[U5 c0,U5 c0];simp only[V6,List.map_nil,one];rw[a1,show k*(w+1)+i+1=k*(w+1)+(i+1) by omega,a2,a3,a4]
 rw[U3 c0,U3 c0]
 by_cases c1:κ=1
 rw[U5 c1,U5 c1];simp only[V6,List.map_nil,one];rw[a1,show k*(w+1)+i+1=k*(w+1)+(i+1) by omega,a2,a3]
 rw[U3 c1,U3 c1];simp only[V6,List.map_nil,one];rw[a1,a3,a4]
def Tab.N9(T:Tab w h X Y sp pts F){f:Fc}(hf:f∈F):∃t∈tT w h sp,f=vw w t/\t.1<w/\t.2.1<h:=by
 rw[T.eF] at hf;obtain⟨t,ht,rfl⟩:=Vi.1 hf;have:=il.1 ht;exact⟨t,ht,rfl,this.1,this.2.1⟩
def P4(w h:Nat){t:Nat×Nat×Nat}(h1:t.1<w)(h2:t.2.1<h):wD ((h+1)*(w+1)) (Kc w t)=true:=by
 have a:=Nu (w:=w) (h:=h) (i:=t.1+1) (k:=t.2.1+1) (by omega) (by omega)
 rw[V2] at a;unfold wD Kc
 dsimp only
 refine Vc ?_
 split
 refine⟨by simp,by simp,fun i hi=>?_⟩
 simp only[Vu,WX,or_false] at hi;omega
 split
 refine⟨by simp,by simp,fun i hi=>?_⟩
 simp only[Vu,WX,or_false] at hi;omega
 refine⟨by simp,by simp,fun i hi=>?_⟩
 simp only[Vu,WX,or_false] at hi;omega
def GD:Ng w h sp<=h*w:=by
 unfold Ng;have e1:∀k (l:YB Nat),(l.flatMap fun i=>if sp i k then[(i,k)] else[]).length<=l.length:=by
  intro k l
  induction l with
  | nil=>simp
  | cons i l ih =>
   rw[VY,Vd,VF];have:(if sp i k=true then[(i,k)] else[]).length<=1:=by split<;>simp
   omega
 have e2:∀l:YB Nat,(l.flatMap fun k=>(List.range w).flatMap fun i=>if sp i k then[(i,k)] else[]).length<=l.length*w:=by
  intro l
  induction l with
  | nil=>simp
  | cons k l ih =>
   have:=e1 k (List.range w);rw[WQ] at this;rw[VY,Vd,VF,V2]; omega
 have:=e2 (List.range h);rwa[WQ] at this
def Tab.rv(T:Tab w h X Y sp pts F):F.length=h*w+Ng w h sp:=by rw[T.eF,Vf,KA]
def Tab.QD(T:Tab w h X Y sp pts F):Fcs pts F:=by
 obtain⟨w1,w2⟩:=T.hw;obtain⟨h1,h2⟩:=T.hh;have hwh:1<=h*w/\h*w<=16:=⟨Wr h1 w1,Wr h2 w2⟩;have hN:(h+1)*(w+1)<=5*5:=Wr (by omega) (by omega)
 have hN2:2*2<=(h+1)*(w+1):=Wr (by omega) (by omega)
 have hl:=T.len;have hfl:=T.rv;have hs:=GD (w:=w) (h:=h) (sp:=sp);have split_:∀j,j<pts.length->∃i k,i<=w/\k<=h/\j=k*(w+1)+i/\pts[j]? = some (X i,Y k):=fun j hj=>by
  have e:=Nat.div_add_mod j (w+1);have hm:=VM j (show 0<w+1 by omega)
  have hk:j/(w+1)<=h:=by
   rw[hl] at hj;have:=Nat.div_lt_of_lt_mul (show j<(w+1)*(h+1) by rw[Nat.mul_comm]; exact hj)
   omega
  rw[Nat.mul_comm] at e;refine⟨j%(w+1),j/(w+1),by omega,hk,by omega,?_⟩
  have:=T.at_ (j%(w+1)) (j/(w+1)) (by omega) hk
  rwa[e] at this
 have okf:∀f∈F,okF pts.length f=true:=fun f hf=>by
  obtain⟨t,_,rfl,g1,g2⟩:=T.N9 hf;unfold okF vw
  dsimp only
  rw[Va];refine⟨by simp,Vo.2 fun l hl'=>?_⟩
  rw[Vb.1 hl',hl];exact P4 w h g1 g2
 refine⟨⟨by omega,by omega⟩,⟨by omega,by omega⟩,fun q hq=>?_,fun j hj hm=>?_,okf,fun f hf=>?_,fun f hf=>?_⟩
 obtain⟨j,hj,rfl⟩:=Vz.1 hq;obtain⟨i,k,i1,k1,_,e⟩:=split_ j hj;rw[U4 hj] at e;rw[U9 e];have:=T.bX i i1;have:=T.bY k k1;unfold Nr; dsimp only; omega
 obtain⟨i,k,i1,k1,e0,e⟩:=split_ j hj;obtain⟨j',hj',e'⟩:=Vz.1 hm;rw[Vw] at hj';rw[List.getElem_take] at e';obtain⟨i',k',i1',k1',e0',e2⟩:=split_ j' (by omega)
 unfold nx at e';rw[WA hj,U7,e] at e';rw[U4 (by omega),e'] at e2
 have:=U9 e2;have a:=T.hX.eq.1 (Vs Prod.fst this);have b:=T.hY.eq.1 (Vs Prod.snd this);subst a; subst b;omega
 obtain⟨t,_,rfl,g1,g2⟩:=T.N9 hf;unfold QF vw
 dsimp only
 refine Vo.2 fun l hl'=>?_;rw[Vb.1 hl',T.dP g1 g2];refine Vc (tO.2 ?_);have v:=(ki T.hX T.hY t.1 t.2.1 t.2.2).1;refine⟨?_,fun i=>?_,v⟩
 unfold fP
 split
 simp
 split<;>simp
 have b:=xF T.hX T.hY t.1 t.2.1 t.2.2 _ (Nf v.ne_nil i);have:=T.bX t.1 (by omega)
 have:=T.bX (t.1+1) (by omega)
 have:=T.bY t.2.1 (by omega)
 have:=T.bY (t.2.1+1) (by omega)
 unfold Nr; omega
 obtain⟨t,_,rfl,g1,g2⟩:=T.N9 hf;have v:=(ki T.hX T.hY t.1 t.2.1 t.2.2).2;unfold Ol vw
 dsimp only
 have:nZ pts [Kc w t] 0=none:=by
  unfold nZ;simp only[VB];rw[T.dP g1 g2,Vc v]; rfl
 simp only[List.length_singleton];unfold cm;rw[this]
 rfl
def Tab.step(T:Tab w h X Y sp pts F){x:Ed}(hx:x∈sE F):∃(f:Nat) (hf:f<(tT w h sp).length) (σ:Nat),x.2.2.1=(f:Int)/\x.2.2.2=0/\σ∈Ac (tT w h sp)[f].2.2/\gE pts x=dE X Y (tT w h sp)[f].1 (tT w h sp)[f].2.1 σ:=by
 obtain⟨f,r,k,hf,hr,hk,rfl⟩:=vI (U8 _) x hx;have hf':f<(tT w h sp).length:=by rw[T.eF,Vf] at hf; exact hf
 have ri:ak F f=[Kc w (tT w h sp)[f]]:=by
  unfold ak;rw[U7,U4 hf];simp[T.eF,vw]
 have r0:r=0:=by rw[ri] at hr; simpa using hr
 subst r0;have hm:=il.1 (Vg hf');have he:gE pts (ie ((ak F f).getD 0 []) f 0 k)∈cp (fP X Y (tT w h sp)[f].1 (tT w h sp)[f].2.1 (tT w h sp)[f].2.2):=by
  rw[<-T.dP hm.1 hm.2.1,<-wx (f:=f) (r:=0)];refine Vi.2 ⟨_,?_,rfl⟩;rw[ri] at hk ⊢;unfold rE;rw[fm];exact VI.2 ⟨k,Vy.2 hk,Vb.2 rfl⟩
 rw[nj] at he;obtain⟨σ,hσ,e⟩:=Vi.1 he;exact⟨f,hf',σ,rfl,rfl,hσ,e.symm⟩
def Le{κ κ' σ:Nat}(h1:σ∈Ac κ)(h2:σ∈Ac κ')(hk:κ=1\/κ=2)(hk':κ'=1\/κ'=2):κ=κ':=by
 rcases hk with rfl|rfl<;>rcases hk' with rfl|rfl
 rfl
 simp[Ac] at h1 h2; omega
 simp[Ac] at h1 h2; omega
 rfl
def LA{t t':Nat×Nat×Nat}(ht:t∈tT w h sp)(ht':t'∈tT w h sp)(e1:t.1=t'.1)(e2:t.2.1=t'.2.1){σ:Nat}(h1:σ∈Ac t.2.2)(h2:σ∈Ac t'.2.2):t=t':=by
 obtain⟨_,_,a⟩:=il.1 ht;obtain⟨_,_,b⟩:=il.1 ht';rw[<-e1,<-e2] at b;refine VN e1 (VN e2 ?_);rcases a with⟨a1,a2⟩|⟨a1,a2⟩<;>rcases b with⟨b1,b2⟩|⟨b1,b2⟩
 exact Le h1 h2 a2 b2
 rw[a1] at b1; cases b1
 rw[a1] at b1; cases b1
 rw[a2,b2]
def Tab.nodup(T:Tab w h X Y sp pts F):((sE F).map (gE pts)).Nodup:=by
 rw[DA,T.eF,Xh,List.flatMap_map];have es:∀t∈tT w h sp,(wT pts (vw w t)).es=cp (fP X Y t.1 t.2.1 t.2.2):=fun t ht=>by
  have hm:=il.1 ht;rw[uE];unfold vw;simp[T.dP hm.1 hm.2.1]
 refine lU AO (fun t ht=>?_) fun t ht t' ht' hn x hx hx'=>?_
 show(wT pts (vw w t)).es.Nodup
 rw[es t ht];exact xo (ki T.hX T.hY _ _ _).1
 replace hx:x ∈(wT pts (vw w t)).es:=hx;replace hx':x ∈(wT pts (vw w t')).es:=hx';rw[es t ht,nj] at hx;rw[es t' ht',nj] at hx';obtain⟨σ,hσ,rfl⟩:=Vi.1 hx;obtain⟨σ',hσ',e⟩:=Vi.1 hx';obtain⟨e1,e2,e3⟩:=O7 T.hX T.hY (qu hσ') (qu hσ) e;subst e3;exact hn (LA ht ht' e1.symm e2.symm hσ hσ')
def KP(e:Eg):jL (e.2,e.1)=jL e:=by unfold jL; exact VN (Int.add_comm _ _) (Int.add_comm _ _)
def OT{r:YB I2}(v:VR r)(e:Eg):wM r (e.2,e.1)=wM r e:=by rw[oh v.ne_nil,oh v.ne_nil,KP]
def Tab.over(T:Tab w h X Y sp pts F){t t':Nat×Nat×Nat}(ht:t∈tT w h sp)(ht':t'∈tT w h sp)(hne:t≠t'){σ:Nat}(hσ:σ∈Ac t.2.2):¬(jV (fP X Y t'.1 t'.2.1 t'.2.2) (dE X Y t.1 t.2.1 σ)/\wM (fP X Y t'.1 t'.2.1 t'.2.2) (dE X Y t.1 t.2.1 σ)≠0):=by
 rintro⟨ho,hwm⟩;have v:=(ki T.hX T.hY t'.1 t'.2.1 t'.2.2).1;have hs6:=qu hσ;have hw0:∀s:Sgm,s=Jd.sg t.1 t.2.1 σ->wM (fP X Y t'.1 t'.2.1 t'.2.2) (s.e X Y)≠0:=fun s hs=>by
  rw[hs];rcases B0 (X:=X) (Y:=Y) (i:=t.1) (k:=t.2.1) hs6 with e|e
  rw[<-e]; exact hwm
  rw[e,OT v] at hwm; exact hwm
 have ne:∀σ'∈Ac t'.2.2,Jd.sg t'.1 t'.2.1 σ'≠Jd.sg t.1 t.2.1 σ:=fun σ' hσ' e=>by
  have hm:dE X Y t'.1 t'.2.1 σ'∈cp (fP X Y t'.1 t'.2.1 t'.2.2):=by rw[nj]; exact Vi.2 ⟨σ',hσ',rfl⟩
  have nm:=ho.ph;rcases B0 (X:=X) (Y:=Y) (i:=t.1) (k:=t.2.1) hs6 with a|a<;>rcases B0 (X:=X) (Y:=Y) (i:=t'.1) (k:=t'.2.1) (qu hσ') with b|b
  exact nm.1 (by rw[a,<-e,<-b]; exact hm)
  exact nm.2 (by rw[a,<-e,<-b]; exact hm)
  exact nm.2 (by rw[a,<-e]; dsimp only; rw[<-b]; exact hm)
  exact nm.1 (by rw[a,<-e,<-b]; exact hm)
 have hok:=Jd.JL t.1 t.2.1 σ
 by_cases hi:(Jd.sg t.1 t.2.1 σ).PG t'.1 t'.2.1
 obtain⟨_,_,kt⟩:=il.1 ht;obtain⟨_,_,kt'⟩:=il.1 ht';have five:Jd.sg t.1 t.2.1 σ=Jd.sg t'.1 t'.2.1 0\/Jd.sg t.1 t.2.1 σ=Jd.sg t'.1 t'.2.1 1\/Jd.sg t.1 t.2.1 σ=Jd.sg t'.1 t'.2.1 2\/Jd.sg t.1 t.2.1 σ=Jd.sg t'.1 t'.2.1 3\/Jd.sg t.1 t.2.1 σ=Jd.sg t'.1 t'.2.1 4:=by
  generalize Jd.sg t.1 t.2.1 σ=s at *;obtain⟨si,sk,dx,dy⟩:=s;unfold Sgm.PG at hi;unfold Sgm.ok at hok
  dsimp only at hi hok
  simp only[Jd.sg,Nat.reduceEqDiff,if_true,if_false,Sgm.mk.injEq];omega
 have e45:Jd.sg t'.1 t'.2.1 4=Jd.sg t'.1 t'.2.1 5:=rfl;rcases kt' with⟨k1,k2|k2⟩|⟨k1,k2⟩
 rw[k2] at ne hw0;rcases five with e|e|e|e|e
 exact ne 0 (by decide) e.symm
 exact ne 1 (by decide) e.symm
 exact hw0 _ rfl (by rw[e]; exact(qU T.hX T.hY).1 (.inr rfl))
 exact hw0 _ rfl (by rw[e]; exact(qU T.hX T.hY).1 (.inl rfl))
 exact ne 4 (by decide) e.symm
 rw[k2] at ne hw0;rcases five with e|e|e|e|e
 exact hw0 _ rfl (by rw[e]; exact(qU T.hX T.hY).2 (.inr rfl))
 exact hw0 _ rfl (by rw[e]; exact(qU T.hX T.hY).2 (.inl rfl))
 exact ne 2 (by decide) e.symm
 exact ne 3 (by decide) e.symm
 exact ne 5 (by decide) (by rw[e,e45])
 rw[k2] at ne hw0;rcases five with e|e|e|e|e
 exact ne 0 (by decide) e.symm
 exact ne 1 (by decide) e.symm
 exact ne 2 (by decide) e.symm
 exact ne 3 (by decide) e.symm
 
 have hd:(Jd.sg t.1 t.2.1 σ).dx=1/\(Jd.sg t.1 t.2.1 σ).dy=1:=by rw[e]; exact⟨rfl,rfl⟩
 have h45:σ=4\/σ=5:=by
  have:σ=0\/σ=1\/σ=2\/σ=3\/σ=4\/σ=5:=by omega
  rcases this with rfl|rfl|rfl|rfl|rfl|rfl
  exfalso; simp[Jd.sg] at hd
  exfalso; simp[Jd.sg] at hd
  exfalso; simp[Jd.sg] at hd
  exfalso; simp[Jd.sg] at hd
  exact .inl rfl
  exact .inr rfl
 have ec:t.1=t'.1/\t.2.1=t'.2.1:=by
  rcases h45 with rfl|rfl
  exact⟨Vs Sgm.i e,Vs Sgm.k e⟩
  exact⟨Vs Sgm.i e,Vs Sgm.k e⟩
 rw[<-ec.1,<-ec.2] at k1;rcases kt with⟨q,_⟩|⟨_,q⟩
 rw[q] at k1; cases k1
 rw[q] at hσ;rcases h45 with rfl|rfl
 exact Vr hσ (by decide)
 exact Vr hσ (by decide)
 exact hw0 _ rfl (Io T.hX T.hY hok hi)
def Tab.L8(T:Tab w h X Y sp pts F):NoF pts F:=by
 have hv:=T.QD;have hS:∀x∈sE F,Cr pts x:=rO hv (U8 _);have nd:=T.nodup;have same:∀i j (hi:i<(sE F).length) (hj:j<(sE F).length),i<j->¬((sE F)[j].1=(sE F)[i].1/\(sE F)[j].2.1=(sE F)[i].2.1):=fun i j hi hj hij ⟨a,b⟩=>by
  have:=W8.1 nd i j (by rwa[Vf]) (by rwa[Vf]) hij
  rw[Xd,Xd] at this;exact this (by unfold gE; rw[a,b])
 have e1:bI B1 [] (sE F)=none:=EP (q:=fun e x=>decide (e.1=x.1)&&decide (e.2.1=x.2.1)) (fun d e=>rfl) fun i j hi hj hij=>by
  refine Bool.eq_false_iff.2 fun k=>?_;rw[Va] at k;exact same i j hi hj hij ⟨of_decide_eq_true k.1,of_decide_eq_true k.2⟩
 have e2:bI (Af pts) [] (sE F)=none:=EP (q:=fun e x=>gX pts e x) (fun d e=>rfl) fun i j hi hj hij=>by
  have mi:=Vg hi;have mj:=Vg hj;have nsame:=same i j hi hj hij;generalize(sE F)[j]=x at *;generalize(sE F)[i]=y at *;unfold gX;cases hse:nY x y
  rw[U3 (by decide)]
  obtain⟨f,hf,σ,_,_,hσ,gx⟩:=T.step mj;obtain⟨f',hf',σ',_,_,hσ',gy⟩:=T.step mi;have sx:=hS x mj;have sy:=hS y mi;have dx:=B0 (X:=X) (Y:=Y) (i:=(tT w h sp)[f].1) (k:=(tT w h sp)[f].2.1) (qu hσ);have dy:=B0 (X:=X) (Y:=Y) (i:=(tT w h sp)[f'].1) (k:=(tT w h sp)[f'].2.1) (qu hσ');rw[<-gx] at dx;rw[<-gy] at dy;have ok1:=JL (tT w h sp)[f].1 (tT w h sp)[f].2.1 σ;have ok2:=JL (tT w h sp)[f'].1 (tT w h sp)[f'].2.1 σ';generalize Jd.sg (tT w h sp)[f].1 (tT w h sp)[f].2.1 σ=s at *;generalize Jd.sg (tT w h sp)[f'].1 (tT w h sp)[f'].2.1 σ'=t at *;have ixe:∀{a b:Int},(0<=a/\a<pts.length)->(0<=b/\b<pts.length)->fb pts a=fb pts b->a=b:=fun ha hb e=>vL hv ha hb e;have hst:s≠t:=fun e=>by
   subst e;have:(gE pts x=gE pts y)\/(gE pts x=((gE pts y).2,(gE pts y).1)):=by
    rcases dx with a|a<;>rcases dy with b|b<;>rw[a,b]<;>simp
   unfold nY at hse;rw[Bool.or_eq_false_iff,Bool.and_eq_false_iff,Bool.and_eq_false_iff] at hse;rcases this with k|k
   have a:=ixe sx.1 sy.1 (Vs Prod.fst k);have b:=ixe sx.2.1 sy.2.1 (Vs Prod.snd k);rcases hse.1 with q|q
   exact of_decide_eq_false q a
   exact of_decide_eq_false q b
   have a:=ixe sx.1 sy.2.1 (Vs Prod.fst k);have b:=ixe sx.2.1 sy.1 (Vs Prod.snd k);rcases hse.2 with q|q
   exact of_decide_eq_false q a
   exact of_decide_eq_false q b
  have m:=Sgm.mt T.hX T.hY ok1 ok2 hst;have hh:k5 (fb pts x.1) (fb pts x.2.1) (fb pts y.1) (fb pts y.2.1)=k5 (s.e X Y).1 (s.e X Y).2 (t.e X Y).1 (t.e X Y).2/\((s.e X Y).1=(t.e X Y).1\/(s.e X Y).1=(t.e X Y).2\/(s.e X Y).2=(t.e X Y).1\/(s.e X Y).2=(t.e X Y).2->(x.1=y.1\/x.1=y.2.1\/x.2.1=y.1\/x.2.1=y.2.1)):=by
   have gx1:gE pts x=(fb pts x.1,fb pts x.2.1):=rfl;have gy1:gE pts y=(fb pts y.1,fb pts y.2.1):=rfl;have ix:∀{a b:Int},(0<=a/\a<pts.length)->(0<=b/\b<pts.length)->(fb pts a=fb pts b->a=b):=fun ha hb e=>vL hv ha hb e;have i1:=ix sx.1 sy.1;have i2:=ix sx.1 sy.2.1;have i3:=ix sx.2.1 sy.1;have i4:=ix sx.2.1 sy.2.1;rcases dx with a|a<;>rcases dy with b|b<;>rw[gx1] at a<;>rw[gy1] at b<;>have a1:=Vs Prod.fst a<;>have a2:=Vs Prod.snd a<;>have b1:=Vs Prod.fst b<;>have b2:=Vs Prod.snd b<;>dsimp only at a1 a2 b1 b2<;>rw[a1,b1] at i1<;>rw[a1,b2] at i2<;>rw[a2,b1] at i3<;>rw[a2,b2] at i4<;>rw[a1,a2,b1,b2]
   exact⟨rfl,fun k=>by rcases k with k|k|k|k<;>simp[*]⟩
   exact⟨oR _ _ _ _,fun k=>by rcases k with k|k|k|k<;>simp[*]⟩
   exact⟨nU,fun k=>by rcases k with k|k|k|k<;>simp[*]⟩
   exact⟨by rw[oR]; exact nU,fun k=>by rcases k with k|k|k|k<;>simp[*]⟩
  rw[hh.1];rcases m with m|⟨m,sh⟩
  rw[m,U3 (by decide)]; rfl
  rw[m,U5 rfl];rcases hh.2 sh with k|k|k|k
  rw[Vc k]; rfl
  rw[Vc k]; simp
  rw[Vc k]; simp
  rw[Vc k]; simp
  rfl
 have e3:bI (wC pts F) [] (sE F)=none:=uu fun a e b hE=>by
  obtain⟨f,hf,σ,_,h0,_⟩:=T.step (x:=e) (by rw[hE]; simp)
  unfold wC;rw[h0,Vc rfl]; rfl
 have e4:bI (yG pts F) [] (sE F)=none:=uu fun a e b hE=>by
  obtain⟨f,hf,σ,hf1,h0,hσ,hg⟩:=T.step (x:=e) (by rw[hE]; simp)
  unfold yG;rw[List.any_eq_false];intro j hj;have hj:=Vy.1 hj;have hj':j<(tT w h sp).length:=by rw[T.eF,Vf] at hj; exact hj
  unfold Nc
  by_cases c:j=f
  rw[Vc (by omega)]; exact VS
  rw[Vj (by omega),VW,WH]
  have rj:F.getD j ([],[])=vw w (tT w h sp)[j]:=by
   rw[U7,U4 hj];simp[T.eF]
  have hm:=il.1 (Vg hj');rw[rj];have hne:Kc w (tT w h sp)[j]≠[]:=by
   unfold Kc
   dsimp only
   split
   simp
   split<;>simp
  intro k;have k2:=(ym hne (fun l hl=>by cases hl) e).1 k
  rw[T.dP hm.1 hm.2.1,hg] at k2;exact T.over (Vg hf) (Vg hj') (fun q=>c (by
   have:=(List.nodup_iff_pairwise_ne.1 (AO (w:=w) (h:=h) (sp:=sp)));rcases Xk f j with z|z|z
   exact Vr q (W8.1 this f j hf hj' z)
   exact z.symm
   exact Vr q.symm (W8.1 this j f hj' hf z))) hσ k2.1
 refine⟨hv,?_⟩;unfold KM;rw[e1,e2,e3,e4];exact Int.le_refl 0
end
end Go.Proofs.Ytmndpgfbkicndaa
namespace Uf
inductive Cn(W:XD):Int->Int->Prop
 | refl (x:Int):Cn W x x
 | step {x y z:Int} (h:Cn W x y) (e:(y,z)∈W\/(z,y)∈W):Cn W x z
section
variable{W:XD}{x y z:Int}
def Cn.trans(h:Cn W x y)(h':Cn W y z):Cn W x z:=by
 induction h' with
 | refl=>exact h
 | step _ e ih=>exact ih.step e
def Cn.one(e:(x,y)∈W\/(y,x)∈W):Cn W x y:=(Cn.refl x).step e
def Cn.symm(h:Cn W x y):Cn W y x:=by
 induction h with
 | refl=>exact .refl _
 | step _ e ih=>exact(Cn.one e.symm).trans ih
def Cn.mono{W':XD}(hW:∀e∈W,e∈W')(h:Cn W x y):Cn W' x y:=by
 induction h with
 | refl=>exact .refl _
 | step _ e ih=>exact ih.step (e.imp (hW _) (hW _))
def Ke{a b:Int}:Cn (W++[(a,b)]) x y↔Cn W x y\/(Cn W x a/\Cn W b y)\/(Cn W x b/\Cn W a y):=by
 constructor
 ·intro h
  induction h with
  | refl=>exact .inl (.refl _)
  | step _ e ih =>
   rename_i y z _;have hz:Cn W y z\/(y=a/\z=b)\/(y=b/\z=a):=by
    rcases e with e|e
    rcases Vq.1 e with e|e
    exact .inl (.one (.inl e))
    have:=Vb.1 e;exact .inr (.inl ⟨Vs Prod.fst this,Vs Prod.snd this⟩)
    rcases Vq.1 e with e|e
    exact .inl (.one (.inr e))
    have:=Vb.1 e;exact .inr (.inr ⟨Vs Prod.snd this,Vs Prod.fst this⟩)
   rcases hz with hz|⟨rfl,rfl⟩|⟨rfl,rfl⟩
   rcases ih with h|⟨h1,h2⟩|⟨h1,h2⟩
   exact .inl (h.trans hz)
   exact .inr (.inl ⟨h1,h2.trans hz⟩)
   exact .inr (.inr ⟨h1,h2.trans hz⟩)
   rcases ih with h|⟨h1,h2⟩|⟨h1,h2⟩
   exact .inr (.inl ⟨h,.refl _⟩)
   exact .inr (.inl ⟨h1,.refl _⟩)
   exact .inl h1
   rcases ih with h|⟨h1,h2⟩|⟨h1,h2⟩
   exact .inr (.inr ⟨h,.refl _⟩)
   exact .inl h1
   exact .inr (.inr ⟨h1,.refl _⟩)
 have hm:∀{u v},Cn W u v->Cn (W++[(a,b)]) u v:=fun h=>h.mono fun e he=>Vl _ he;have hab:Cn (W++[(a,b)]) a b:=.one (.inl (Vv _ (Vb.2 rfl)));rintro(h|⟨h1,h2⟩|⟨h1,h2⟩)
 exact hm h
 exact((hm h1).trans hab).trans (hm h2)
 exact((hm h1).trans hab.symm).trans (hm h2)
def Cn.Ub{a:Int}(ha:∀e∈W,e.1≠a/\e.2≠a)(h:Cn W a y):y=a:=by
 induction h with
 | refl=>rfl
 | step _ e ih =>
  subst ih;rcases e with e|e
  exact Vr rfl (ha _ e).1
  exact Vr rfl (ha _ e).2
def Cn.used{U:Int->Prop}(hW:∀e∈W,U e.1/\U e.2)(h:Cn W x y)(hx:U x):U y:=by
 induction h with
 | refl=>exact hx
 | step _ e _=>exact e.elim (fun e=>(hW _ e).2) (fun e=>(hW _ e).1)
end
inductive Chn(g:Int->YA Int):Int->Int->Nat->Prop
 | root {x:Int} {k:Nat} (h:g x=some x):Chn g x x k
 | step {x y r:Int} {k:Nat} (h:g x=some y) (hne:y≠x) (t:Chn g y r k):Chn g x r (k+1)
section
variable{g g':Int->YA Int}{x r r':Int}{k k':Nat}
def Chn.mono(h:Chn g x r k):∀{k'},k<=k'->Chn g x r k':=by
 induction h with
 | root h=>exact fun _=>.root h
 | step h hne _ ih =>
  intro k' hk;obtain⟨j,rfl⟩:∃j,k'=j+1:=⟨k'-1,by omega⟩
  exact .step h hne (ih (by omega))
def Chn.Nl(h:Chn g x r k):∀{r' k'},Chn g x r' k'->r=r':=by
 induction h with
 | root h =>
  intro r' k' h';cases h' with
  | root=>rfl
  | step h2 hne _=>rw[h] at h2; exact Vr (U9 h2).symm hne
 | step h hne _ ih =>
  intro r' k' h';cases h' with
  | root h2=>rw[h] at h2; exact Vr (U9 h2) hne
  | step h2 _ t=>rw[h] at h2; cases h2; exact ih t
def Chn.at_root(h:Chn g x r k):g r=some r:=by
 induction h with
 | root h=>exact h
 | step _ _ _ ih=>exact ih
def Chn.key(h:Chn g x r k):g x≠none:=by
 cases h with
 | root h=>rw[h]; exact fun c=>by cases c
 | step h _ _=>rw[h]; exact fun c=>by cases c
def Chn.upd{ra rb:Int}(hra:g ra=some ra)(hrb:g rb=some rb)(ne:ra≠rb)(hg:∀z,g' z=if z=ra then some rb else g z)(h:Chn g x r k):Chn g' x (if r=ra then rb else r) (k+1):=by
 induction h with
 | root h =>
  rename_i x k
  by_cases c:x=ra
  rw[U5 c,c];exact .step (by rw[hg,U5 rfl]) (Ne.symm ne) (.root (by rw[hg,U3 (Ne.symm ne),hrb]))
  rw[U3 c];exact .root (by rw[hg,U3 c,h])
 | step h hne _ ih =>
  rename_i x y r k _;have c:x≠ra:=fun e=>by
   rw[e,hra] at h;exact hne (by rw[e]; exact(U9 h).symm)
  exact .step (by rw[hg,U3 c,h]) hne ih
def Chn.new{a:Int}(ha:g a=none)(hg:∀z,g' z=if z=a then some a else g z)(h:Chn g x r k):Chn g' x r k:=by
 induction h with
 | root h=>exact .root (by rw[hg,U3 (fun e=>by rw[e,ha] at h; cases h),h])
 | step h hne _ ih=>exact .step (by rw[hg,U3 (fun e=>by rw[e,ha] at h; cases h),h]) hne ih
end
structure Ufs(U:Int->Prop)(W:XD)(g:Int->YA Int)(K:Nat):Prop where
 key:∀x,g x≠none↔U x
 ends:∀ e∈W, U e.1 /\ U e.2
 ch:∀x,U x->∃r,Chn g x r K
 eq:∀{x y rx ry},Chn g x rx K->Chn g y ry K->(rx=ry↔Cn W x y)
section
variable{U:Int->Prop}{W:XD}{g g':Int->YA Int}{K:Nat}
def Ufs.start:Ufs (fun _=>False) [] (fun _=>none) 0 where
 key _:=⟨fun h=>h rfl,fun h=>h.elim⟩
 ends _ h := by cases h
 ch _ h:=h.elim
 eq h _:=Vr rfl h.key
def Ufs.put(h:Ufs U W g K){a:Int}(ha:g a=none)(hg:∀z,g' z=if z=a then some a else g z):Ufs (fun x=>U x\/x=a) W g' K:=by
 have hU:¬U a:=fun c=>(h.key a).2 c ha;have haW:∀e∈W,e.1≠a/\e.2≠a:=fun e he=>⟨fun c=>hU (c ▸(h.ends e he).1),fun c=>hU (c ▸(h.ends e he).2)⟩;have hroot:Chn g' a a K:=.root (by rw[hg,U5 rfl])
 have back:∀{x r},Chn g' x r K->x≠a->Chn g x r K:=fun{x r} hx hne=>by
  have hk:=hx.key;rw[hg,U3 hne] at hk;obtain⟨r',h1⟩:=h.ch x ((h.key x).1 hk);have:=(h1.new ha hg).Nl hx;rw[<-this]; exact h1
 refine⟨fun x=>?_,fun e he=>⟨.inl (h.ends e he).1,.inl (h.ends e he).2⟩,fun x hx=>?_,fun{x y rx ry} hx hy=>?_⟩
 by_cases c:x=a
 rw[hg,U5 c]; exact⟨fun _=>.inr c,fun _ e=>(by cases e)⟩
 rw[hg,U3 c,h.key]; exact⟨.inl,fun e=>e.elim id (fun e=>Vr e c)⟩
 by_cases c:x=a
 exact⟨a,by rw[c]; exact hroot⟩
 obtain⟨r,h1⟩:=h.ch x (hx.elim id fun e=>Vr e c);exact⟨r,h1.new ha hg⟩
 by_cases cx:x=a
 have ex:rx=a:=by rw[cx] at hx; exact hx.Nl hroot
 by_cases cy:y=a
 have ey:ry=a:=by rw[cy] at hy; exact hy.Nl hroot
 rw[ex,ey,cx,cy]; exact⟨fun _=>.refl _,fun _=>rfl⟩
 have hy':=back hy cy;rw[ex,cx];constructor
 intro e; exact Vr hy'.at_root (by rw[<-e,ha]; exact fun c=>by cases c)
 intro e; exact Vr (e.Ub haW) cy
 have hx':=back hx cx
 by_cases cy:y=a
 have ey:ry=a:=by rw[cy] at hy; exact hy.Nl hroot
 rw[ey,cy];constructor
 intro e; exact Vr hx'.at_root (by rw[e,ha]; exact fun c=>by cases c)
 intro e; exact Vr (e.symm.Ub haW) cx
 exact h.eq hx' (back hy cy)
def Ufs.join(h:Ufs U W g K){a b ra rb:Int}(ha:Chn g a ra K)(hb:Chn g b rb K)(hg:∀z,g' z=if z=ra then some rb else g z):Ufs U (W++[(a,b)]) g' (K+1):=by
 have hra:=ha.at_root;have hrb:=hb.at_root;have hends:∀e∈W++[(a,b)],U e.1/\U e.2:=fun e he=>by
  rcases Vq.1 he with he|he
  exact h.ends e he
  rw[Vb.1 he];exact⟨(h.key _).1 ha.key,(h.key _).1 hb.key⟩
 by_cases ne:ra=rb
 have e:g'=g:=funext fun z=>by
  rw[hg]
  by_cases c:z=ra
  rw[U5 c,c,hra,ne]
  rw[U3 c]
 subst e;have hab:Cn W a b:=(h.eq ha hb).1 ne;refine⟨h.key,hends,fun x hx=>?_,fun{x y rx ry} hx hy=>?_⟩
 obtain⟨r,h1⟩:=h.ch x hx;exact⟨r,h1.mono (by omega)⟩
 obtain⟨r1,g1⟩:=h.ch x ((h.key x).1 hx.key);obtain⟨r2,g2⟩:=h.ch y ((h.key y).1 hy.key);rw[<-g1.Nl hx,<-g2.Nl hy,h.eq g1 g2,Ke];exact⟨.inl,fun e=>e.elim id fun e=>e.elim (fun e=>(e.1.trans hab).trans e.2) (fun e=>(e.1.trans hab.symm).trans e.2)⟩
 refine⟨fun x=>?_,hends,fun x hx=>?_,fun{x y rx ry} hx hy=>?_⟩
 rw[hg,<-h.key]
 by_cases c:x=ra
 rw[U5 c,c,hra]; exact⟨fun _ e=>(by cases e),fun _ e=>(by cases e)⟩
 rw[U3 c]
 obtain⟨r,h1⟩:=h.ch x hx;exact⟨_,h1.upd hra hrb ne hg⟩
 have k1:U x:=by
  have:=hx.key;rw[hg] at this
  by_cases c:x=ra
  exact(h.key x).1 (by rw[c,hra]; exact fun e=>by cases e)
  rw[U3 c] at this; exact(h.key x).1 this
 have k2:U y:=by
  have:=hy.key;rw[hg] at this
  by_cases c:y=ra
  exact(h.key y).1 (by rw[c,hra]; exact fun e=>by cases e)
  rw[U3 c] at this; exact(h.key y).1 this
 obtain⟨r1,g1⟩:=h.ch x k1;obtain⟨r2,g2⟩:=h.ch y k2;rw[<-(g1.upd hra hrb ne hg).Nl hx,<-(g2.upd hra hrb ne hg).Nl hy,Ke,<-h.eq g1 g2,<-h.eq g1 ha,<-h.eq hb g2,<-h.eq g1 hb,<-h.eq ha g2];constructor
 intro e
 by_cases c1:r1=ra
 rw[U5 c1] at e
 by_cases c2:r2=ra
 exact .inl (by rw[c1,c2])
 rw[U3 c2] at e; exact .inr (.inl ⟨c1,e⟩)
 rw[U3 c1] at e
 by_cases c2:r2=ra
 rw[U5 c2] at e; exact .inr (.inr ⟨e,c2.symm⟩)
 rw[U3 c2] at e; exact .inl e
 rintro(e|⟨e1,e2⟩|⟨e1,e2⟩)
 rw[e]
 rw[U5 e1,<-e2,U3 (Ne.symm ne)]
 rw[e1,U3 (Ne.symm ne),<-e2,U5 rfl]
end
section
variable{n:Nat}{W:XD}{c:Int->Int}
end
def rm{α:Type}[DecidableEq α]:∀{l m:YB α},l.Nodup->(∀a∈l,a∈m)->l.length<=m.length
 | [],_,_,_=>V9 _
 | a::l,m,hl,hm=>by
  have ha:=hm a (Vp ..);have hl':=Ww.1 hl;have:=rm (m:=m.erase a) hl'.2 fun b hb=>by
   have hne:b≠a:=fun e=>hl'.1 (e▸hb);exact(List.mem_erase_of_ne hne).2 (hm b (Ve _ hb))
  rw[List.length_erase_of_mem ha] at this;have:=List.length_pos_of_mem ha;rw[VF]; omega
end Uf
namespace Go.Proofs.Ytmndpgfbkicndaa
section
open Go Go.Ab Go.Ab.W
end
section
open Go Go.Ab Go.Ab.W Go.Ab.B Jd Uf
def yc(n:Nat){l:XD}{x r:Int}{k:Nat}(h:Chn (bR l) x r k):∀{f:Nat},k<f->KJ n l f () x=some r:=by
 induction h with
 | root h =>
  intro f hf;obtain⟨f,rfl⟩:∃j,f=j+1:=⟨f-1,by omega⟩
  show CX n (KJ n l f) l () _=_
  unfold CX;rw[h];simp[ob,br]
 | step h hne _ ih =>
  intro f hf;obtain⟨f,rfl⟩:∃j,f=j+1:=⟨f-1,by omega⟩
  show CX n (KJ n l f) l () _=_
  unfold CX;rw[h];have:=ih (f:=f) (by omega)
  simp[ob,br,hne,this]
def vg{U:Int->Prop}{W:XD}{g:Int->YA Int}{K:Nat}(h:Ufs U W g K):Ufs (fun x=>g x≠none) W g K where
 key _:=Iff.rfl
 ends e he :=⟨(h.key _).2 (h.ends e he).1,(h.key _).2 (h.ends e he).2⟩
 ch x hx:=h.ch x ((h.key x).1 hx)
 eq a b:=h.eq a b
abbrev T4(W:XD)(m:XD)(K:Nat):Prop:=Ufs (fun x=>bR m x≠none) W (bR m) K
def eg(m:XD)(x:Int):XD:=if bR m x=none then fX m x x else m
def lG{W m:XD}{K:Nat}(h:T4 W m K)(x:Int):T4 W (eg m x) K:=by
 unfold eg
 split
 rename_i hx;exact vg (h.put hx (g':=bR (fX m x x)) fun z=>dJ m x z x)
 exact h
def ov{m:XD}{x z:Int}:bR (eg m x) z≠none↔bR m z≠none\/z=x:=by
 unfold eg
 split
 rename_i hx;rw[dJ]
 by_cases c:z=x
 rw[U5 c]; exact⟨fun _=>.inr c,fun _ e=>(by cases e)⟩
 rw[U3 c]; exact⟨.inl,fun e=>e.elim id fun e=>Vr e c⟩
 rename_i hx;exact⟨.inl,fun e=>e.elim id fun e=>by rw[e]; exact hx⟩
def uh{m:XD}(h:(m.map Prod.fst).Nodup)(x:Int):((eg m x).map Prod.fst).Nodup:=by
 unfold eg
 split
 exact qk h x x
 exact h
def Gz(n:Nat)(a b:Int)(m:XD)(hn:10<n):bL (pH n a b) n (m,0)=some (eg (eg m a) b):=by
 obtain⟨n',rfl⟩:∃k,n=k+3:=⟨n-3,by omega⟩
 have one:∀(m:XD) (i:Nat) (x:Int),i<2->([a,b]:YB Int)[i]? = some x->pH (n'+3) a b (m,(i:Int))=some (.inl (eg m x,((i+1:Nat):Int))):=fun m i x hi hx=>by
  unfold pH eg
  try dsimp only
  rw[aH (by omega),aC hi,bf,bM hx,aj]
  cases hm:bR m x with
  | none =>
   simp only[Option.getD_none,Option.isSome_none,aj,VW,jm,if_true];rw[aw (by omega)]
  | some y =>
   simp only[Option.getD_some,Option.isSome_some,aj,V4,ib];rw[aw (by omega)]; simp
 have o1:=one m 0 a (by decide) rfl
 have o2:=one (eg m a) 1 b (by decide) rfl
 rw[show bL (pH (n'+3) a b) (n'+3) (m,0)=bL (pH (n'+3) a b) (n'+2) (eg m a,((0+1:Nat):Int)) from fy o1,show bL (pH (n'+3) a b) (n'+2) (eg m a,((0+1:Nat):Int))=bL (pH (n'+3) a b) (n'+1) (eg (eg m a) b,((1+1:Nat):Int)) from fy o2]
 refine fG ?_;unfold pH
 try dsimp only
 rw[aF (by decide)]
def gS(W:YB dm):XD:=W.map fun e=>(e.1,e.2.1)
def KX(W:YB dm)(x:Int):Prop:=∃e∈W,x=e.1\/x=e.2.1
structure Um(W:YB dm)(m:XD)(K:Nat):Prop where
 uf:T4 (gS W) m K
 nd:(m.map Prod.fst).Nodup
 key:∀x,bR m x≠none↔KX W x
def MO(n:Nat){W:YB dm}{m:XD}{K:Nat}(h:Um W m K)(e:dm)(hK:K<50000)(hn:99999<n) :
  ∃ra rb,KJ n (eg (eg m e.1) e.2.1) n () e.1=some ra/\KJ n (eg (eg m e.1) e.2.1) n () e.2.1=some rb/\Um (W++[e]) (fX (eg (eg m e.1) e.2.1) ra rb) (K+1):=by
 have h2:=lG (lG h.uf e.1) e.2.1;have hk:∀x,bR (eg (eg m e.1) e.2.1) x≠none↔KX (W++[e]) x:=fun x=>by
  rw[ov,ov,h.key];unfold KX;constructor
  rintro((⟨f,hf,g⟩|g)|g)
  exact⟨f,Vl _ hf,g⟩
  exact⟨e,Vv _ (Vb.2 rfl),.inl g⟩
  exact⟨e,Vv _ (Vb.2 rfl),.inr g⟩
  rintro⟨f,hf,g⟩;rcases Vq.1 hf with hf|hf
  exact .inl (.inl ⟨f,hf,g⟩)
  rw[Vb.1 hf] at g;exact g.elim (fun g=>.inl (.inr g)) .inr
 have hnd:=uh (uh h.nd e.1) e.2.1;generalize eg (eg m e.1) e.2.1=m' at *;have he:e∈W++[e]:=Vv _ (Vb.2 rfl);obtain⟨ra,ha⟩:=h2.ch e.1 ((hk _).2 ⟨e,he,.inl rfl⟩);obtain⟨rb,hb⟩:=h2.ch e.2.1 ((hk _).2 ⟨e,he,.inr rfl⟩);refine⟨ra,rb,yc n ha (by omega),yc n hb (by omega),?_,qk hnd _ _,fun x=>?_⟩
 have:=h2.join ha hb (g':=bR (fX m' ra rb)) fun z=>dJ m' ra z rb;have hW:gS (W++[e])=gS W++[(e.1,e.2.1)]:=by unfold gS; rw[W6]; rfl
 rw[<-hW] at this;exact vg this
 rw[<-hk,dJ]
 by_cases c:x=ra
 rw[U5 c,c,ha.at_root]; exact⟨fun _ e=>(by cases e),fun _ e=>(by cases e)⟩
 rw[U3 c]
section
variable{pts:YB I2}{F:YB Fc}(n:Nat)
end
def sk(p i:Nat):Nat:=if i<p then i else i+1
def us(p f:Nat):Nat:=if f<p then f else f-1
def QU(p i:Nat):sk p i≠p:=by unfold sk; split<;>omega
def RJ(p i:Nat):us p (sk p i)=i:=by unfold sk us; by_cases h:i<p<;>simp[h]<;>omega
def Ri{p i n:Nat}(h:i<n):sk p i<n+1:=by unfold sk; split<;>omega
def xC:∀(n p:Nat) (h:Nat->Int),p<=n->aY (n+1) h=h p+aY n fun i=>h (sk p i)
 | 0,p,h,hp=>by
  obtain rfl:p=0:=by omega
  simp[aY]
 | n+1,p,h,hp=>by
  by_cases c:p=n+1
  subst c;have e:aY (n+1) (fun i=>h (sk (n+1) i))=aY (n+1) h:=ay fun i hi=>by unfold sk; rw[U5 hi]
  rw[e,aY];omega
  have:=xC n p h (by omega)
  have e:aY (n+1) (fun i=>h (sk p i))=aY n (fun i=>h (sk p i))+h (n+1):=by
   show aY n _+h (sk p n)=_
   have:sk p n=n+1:=by unfold sk; rw[XP]
   rw[this]
  rw[e,aY,this];omega
def dep:∀(k F:Nat) (v:Nat->Nat->Int),k<F->∃c:Nat->Int,(∃f,f<F/\c f≠0)/\∀j,j<k->aY F (fun f=>c f*v f j)=0
 | 0,F,v,h=>⟨fun _=>1,⟨0,h,by decide⟩,fun j hj=>by omega⟩
 | k+1,F,v,h=>by
  by_cases hz:∀f,f<F->v f k=0
  obtain⟨c,h1,h2⟩:=dep k F v (by omega)
  refine⟨c,h1,fun j hj=>?_⟩
  by_cases e:j=k
  subst e;exact bw fun f hf=>by rw[hz f hf,WT]
  exact h2 j (by omega)
  obtain⟨p,hp,hv⟩:∃p,p<F/\v p k≠0:=by
   refine U6 fun hc=>hz fun f hf=>?_;exact U6 fun k=>hc ⟨f,hf,k⟩
  obtain⟨F,rfl⟩:∃G,F=G+1:=⟨F-1,by omega⟩
  obtain⟨c,⟨f,f1,f2⟩,h2⟩:=dep k F (fun i j=>v p k*v (sk p i) j-v (sk p i) k*v p j) (by omega)
  obtain⟨s,hs⟩:∃s,s = -aY F (fun i=>c i*v (sk p i) k):=⟨_,rfl⟩;have at_:∀i,(if sk p i=p then s else c (us p (sk p i))*v p k)=c i*v p k:=fun i=>by rw[U3 (QU p i),RJ]
  refine⟨fun f=>if f=p then s else c (us p f)*v p k,⟨sk p f,Ri f1,?_⟩,fun j hj=>?_⟩
  dsimp only
  rw[at_];exact Int.mul_ne_zero f2 hv
  rw[xC F p _ (by omega)]
  have e0:aY F (fun i=>(if sk p i=p then s else c (us p (sk p i))*v p k)*v (sk p i) j)=aY F fun i=>c i*v p k*v (sk p i) j:=ay fun i _=>by rw[at_]
  have e1:s*v p j=aY F fun i=>-(v p j)*(c i*v (sk p i) k):=by
   rw[lH,hs]; grind
  have e2:=iR F (fun i=>-(v p j)*(c i*v (sk p i) k)) fun i=>c i*v p k*v (sk p i) j
  dsimp only
  rw[U5 rfl,e0,e1,<-e2]
  by_cases e:j=k
  subst e;exact bw fun i _=>by grind
  rw[<-h2 j (by omega)]
  exact ay fun i _=>by grind
def RE(W:YB dm)(g:dm->Int):Prop:=∀χ:Int->Int,bU (fun e=>g e*(χ e.1-χ e.2.1)) W=0
def nr(m:XD):Int:=bU (fun x=>if bR m x=some x then 0 else 1) (m.map Prod.fst)
def NQ(W:YB dm)(m:XD):Prop:=∃NT:YB dm,(NT.length:Int)+nr m=W.length/\(∀e∈NT,e∈W)/\∀g,RE W g->(∀e∈NT,g e=0)->∀e∈W,g e=0
def Hn{α β:Type}[DecidableEq α]{xs:YB (α×β)}{k:α}:bR xs k≠none↔k∈xs.map Prod.fst:=by
 unfold bR;rcases qg k xs 0 with⟨h1,h2⟩|⟨j,v,h1,h2⟩
 rw[h1]; exact⟨fun h=>Vr rfl h,fun h=>Vr h h2⟩
 rw[h1];refine⟨fun _=>?_,fun _ h=>by cases h⟩
 have:(xs.map Prod.fst)[j]? = some k:=by rw[VQ]; exact h2
 exact VD this
def pb{m:XD}{x:Int}:bR m x≠none↔x∈m.map Prod.fst:=Hn
def Ez(m:XD)(x:Int):nr (eg m x)=nr m:=by
 unfold eg
 by_cases h:bR m x=none
 rw[U5 h];have hx:x∉m.map Prod.fst:=fun k=>pb.2 k h;unfold nr;rw[k9,U3 hx,kH];have e1:bU (fun y=>if bR (fX m x x) y=some y then(0:Int) else 1) [x]=0:=by
  simp only[bU];rw[dJ,U5 rfl,U5 rfl]; rfl
 rw[e1,Int.add_zero];refine ba fun y hy=>?_;rw[dJ,U3 (show ¬y=x from fun e=>hx (by rw[<-e]; exact hy))]
 rw[U3 h]
def MW{m:XD}(hn:(m.map Prod.fst).Nodup){a b:Int}(ha:bR m a=some a):nr (fX m a b)=nr m+if a=b then 0 else 1:=by
 have hm:a∈m.map Prod.fst:=pb.1 (by rw[ha]; exact fun k=>by cases k)
 unfold nr;rw[k9,U5 hm]
 by_cases c:a=b
 rw[U5 c,Int.add_zero];refine ba fun y hy=>?_;rw[dJ]
 by_cases e:y=a
 rw[U5 e,e,ha,c]
 rw[U3 e]
 rw[U3 c];have:=zQ (f:=fun y=>(if bR (fX m a b) y=some y then(0:Int) else 1) + -(if bR m y=some y then 0 else 1)) hn hm fun y hy hne=>by
  rw[dJ,U3 hne]; omega
 rw[ju,yJ,dJ,U5 rfl,U3 (fun e=>c (U9 e).symm),U5 ha] at this;omega
def GC{W:YB dm}{m:XD}{K:Nat}(h:Um W m K)(hf:NQ W m)(e:dm)(hab:e.1≠e.2.1){ra rb:Int}(ha:Chn (bR (eg (eg m e.1) e.2.1)) e.1 ra K)(hb:Chn (bR (eg (eg m e.1) e.2.1)) e.2.1 rb K) :
  NQ (W++[e]) (fX (eg (eg m e.1) e.2.1) ra rb):=by
 have h2:=lG (lG h.uf e.1) e.2.1;have hnd:=uh (uh h.nd e.1) e.2.1;have hnr:nr (eg (eg m e.1) e.2.1)=nr m:=by rw[Ez,Ez]
 generalize eg (eg m e.1) e.2.1=m' at *;obtain⟨NT,n1,n3,n2⟩:=hf;have hcn:=h2.eq ha hb;have hm:=MW hnd (a:=ra) (b:=rb) ha.at_root;have app:∀(g:dm->Int) (χ:Int->Int),bU (fun e=>g e*(χ e.1-χ e.2.1)) (W++[e])=bU (fun e=>g e*(χ e.1-χ e.2.1)) W+g e*(χ e.1-χ e.2.1):=fun g χ=>by rw[kH]; simp[bU]
 by_cases c:ra=rb
 refine⟨NT++[e],by rw[hm,U5 c,hnr,Vd,Vd]; simp; omega,fun x hx=>?_,fun g hg hz x hx=>?_⟩
 rcases Vq.1 hx with hx|hx
 exact Vl _ (n3 x hx)
 exact Vv _ hx
 have ge:g e=0:=hz e (Vv _ (Vb.2 rfl));rcases Vq.1 hx with hx|hx
 refine n2 g (fun χ=>?_) (fun y hy=>hz y (Vl _ hy)) x hx;have:=hg χ;rw[app,ge,Int.zero_mul] at this;omega
 rw[Vb.1 hx]; exact ge
 have nc:¬Cn (gS W) e.1 e.2.1:=fun k=>c (hcn.2 k);refine⟨NT,by rw[hm,U3 c,hnr,Vd]; simp; omega,fun x hx=>Vl _ (n3 x hx),fun g hg hz x hx=>?_⟩
 have ge:g e=0:=by
  classical
  obtain⟨χ,hχ⟩:∃χ:Int->Int,∀x,χ x=if Cn (gS W) e.1 x then 1 else 0:=⟨_,fun _=>rfl⟩
  have:=hg χ;rw[app,cO fun y hy=>?_,hχ e.1,hχ e.2.1,U5 (Cn.refl _),U3 nc] at this
  omega
  have hy':(y.1,y.2.1)∈gS W:=Vi.2 ⟨y,hy,rfl⟩;have:Cn (gS W) e.1 y.1↔Cn (gS W) e.1 y.2.1:=⟨fun k=>k.step (.inl hy'),fun k=>k.step (.inr hy')⟩;rw[hχ,hχ]
  by_cases k:Cn (gS W) e.1 y.1
  rw[U5 k,U5 (this.1 k)]; simp
  rw[U3 k,U3 (fun q=>k (this.2 q))]; simp
 rcases Vq.1 hx with hx|hx
 refine n2 g (fun χ=>?_) hz x hx;have:=hg χ;rw[app,ge,Int.zero_mul] at this;omega
 rw[Vb.1 hx]; exact ge
def FF(n:Nat)(W:YB dm)(hab:∀e∈W,e.1≠e.2.1)(hW:W.length<=20000)(hn:99999<n):∃m,bL (xP n W) n ([],0)=some m/\Um W m W.length/\NQ W m:=by
 have key:=fq (B:=xP n W) (len:=W.length) (fun i (s:XD)=>(s,(i:Int))) (fun i s=>Um (W.take i) s i/\NQ (W.take i) s) (fun r=>Um W r W.length/\NQ W r) (fun i s hi hs=>.inl ?_) (fun s hs=>⟨s,?_,by rw[List.take_length] at hs; exact hs⟩) W.length 0 [] n (by omega) (by omega) ?_
 exact key
 ·have hx:=U4 hi;obtain⟨hs,hf⟩:=hs;obtain⟨ra,rb,h1,h2,h3⟩:=MO n hs W[i] (by omega) hn
  have hne:=hab _ (Vg hi);have q2:=lG (lG hs.uf W[i].1) W[i].2.1;have k1:bR (eg (eg s W[i].1) W[i].2.1) W[i].1≠none:=by rw[ov,ov]; exact .inl (.inr rfl)
  have k2:bR (eg (eg s W[i].1) W[i].2.1) W[i].2.1≠none:=by rw[ov]; exact .inr rfl
  obtain⟨ra',ha⟩:=q2.ch _ k1;obtain⟨rb',hb⟩:=q2.ch _ k2;have ea:=yc n ha (f:=n) (by omega)
  have eb:=yc n hb (f:=n) (by omega)
  rw[h1] at ea;rw[h2] at eb;cases ea;cases eb;have h4:=GC hs hf W[i] hne ha hb;rw[show W.take i++[W[i]]=W.take (i+1) by rw[Xl,hx]; rfl] at h3 h4
  generalize W[i]=e at *;refine⟨_,?_,h3,h4⟩;obtain⟨a,b,c,d⟩:=e
  dsimp only at h1 h2
  unfold xP
  try dsimp only
  rw[aH (by omega),aC hi,bf,bM hx,aj]
  try dsimp only
  rw[Gz n a b s (by omega),aj,h1,aj,h2,aj,aw (by omega)]
 ·unfold xP
  try dsimp only
  rw[aF (by omega)]
 refine⟨⟨vg Ufs.start,List.nodup_nil,fun x=>?_⟩,[],rfl,fun _ h=>Vr h WX,fun _ _ _ _ h=>Vr h WX⟩;unfold KX;exact⟨fun h=>Vr rfl h,fun⟨e,h,_⟩=>(by cases h)⟩
def J7{m:XD}(hn:(m.map Prod.fst).Nodup):fa m+nr m=m.length:=by
 have hg:∀p∈m,bR m p.1=some p.2:=fun p hp=>(oz hn).2 hp;unfold fa nr;rw[eZ];have key:∀l:XD,(∀p∈l,bR m p.1=some p.2)->((l.countP (fun p=>decide (p.1=p.2)):Nat):Int)+bU (fun p=>if bR m p.1=some p.1 then(0:Int) else 1) l=l.length:=by
  intro l
  induction l with
  | nil=>intro _; rfl
  | cons p l ih =>
   intro h;have h1:=ih fun q hq=>h q (Ve _ hq);have h2:=h p Vp;rw[List.countP_cons,bU,VF,h2]
   by_cases c:p.1=p.2
   rw[U5 (Vc c),U5 (by rw[c])]; omega
   rw[U3 (by simpa using c),U3 (fun e=>c (U9 e).symm)]; omega
 exact key m hg
section
variable{pts:YB I2}{F:YB Fc}
def H5(h:Int->Int)(hz:h (-1)=0)(a b:Int):∀E:YB Ed,QC E->bU (fun e=>if e.1=a/\e.2.1=b then h e.2.2.1 else 0) E=h (fc E a b)/\(fc E a b = -1\/∃e∈E,e.1=a/\e.2.1=b):=by
 refine qJ (fun _=>⟨hz.symm,.inl rfl⟩) fun E e ih hd=>?_;obtain⟨d1,_,d3⟩:=Wd.1 hd;obtain⟨i1,i2⟩:=ih d1;have ec:bU (fun e=>if e.1=a/\e.2.1=b then h e.2.2.1 else 0) (E++[e])=bU (fun e=>if e.1=a/\e.2.1=b then h e.2.2.1 else 0) E+if e.1=a/\e.2.1=b then h e.2.2.1 else 0:=by rw[kH]; simp[bU]
 rw[ec,sv]
 by_cases c:e.1=a/\e.2.1=b
 rw[U5 c,U5 c];have:bU (fun e=>if e.1=a/\e.2.1=b then h e.2.2.1 else 0) E=0:=cO fun x hx=>U3 fun k=>d3 x hx e (Vb.2 rfl) ⟨by rw[c.1,k.1],by rw[c.2,k.2]⟩
 exact⟨by omega,.inr ⟨e,Vv _ (Vb.2 rfl),c⟩⟩
 rw[U3 c,U3 c,Int.add_zero];refine⟨i1,i2.imp_right fun⟨x,hx,k⟩=>⟨x,Vl _ hx,k⟩⟩
def xN(h:Int->Int)(hz:h (-1)=0)(κ:Int->Int->Int){E:YB Ed}{N:Nat}(hE:∀e∈E,Sx N e)(hd:QC E) :
  bU (fun x=>h x.2.2.1*κ x.1 x.2.1+h x.2.2.2*κ x.2.1 x.1) (kn E N)=bU (fun e=>h e.2.2.1*κ e.1 e.2.1) E:=by
 have row:∀i k:Nat,bU (fun x=>h x.2.2.1*κ x.1 x.2.1+h x.2.2.2*κ x.2.1 x.1) (tC E i k)=bU (fun e=>(if e.1=(i:Int)/\e.2.1=(k:Int) then h e.2.2.1*κ i k else 0)+(if e.1=(k:Int)/\e.2.1=(i:Int) then h e.2.2.1*κ k i else 0)) E:=fun i k=>by
  have a:=H5 h hz i k E hd;have b:=H5 h hz k i E hd;have e1:∀a b:Int,bU (fun e=>if e.1=a/\e.2.1=b then h e.2.2.1*κ a b else 0) E=bU (fun e=>if e.1=a/\e.2.1=b then h e.2.2.1 else 0) E*κ a b:=fun a b=>by
   rw[<-uC];exact ba fun e _=>by split<;>simp
  have eR:=ju (fun e:Ed=>if e.1=(i:Int)/\e.2.1=(k:Int) then h e.2.2.1*κ i k else 0) (fun e:Ed=>if e.1=(k:Int)/\e.2.1=(i:Int) then h e.2.2.1*κ k i else 0) E
  rw[eR,e1,e1,a.1,b.1];unfold tC
  by_cases c:0<=fc E i k\/0<=fc E k i
  rw[U5 c]; simp[bU]
  rw[U3 c];have f1:=Et E (fun e he=>(hE e he).2.2.2.1) i k;have f2:=Et E (fun e he=>(hE e he).2.2.2.1) k i;rw[show fc E i k = -1 by omega,show fc E k i = -1 by omega,hz]; simp[bU]
 unfold kn;rw[mq,ay (g:=fun i=>aY (N-(i+1)) fun j=>bU (fun e=>(if e.1=(i:Int)/\e.2.1=((i+1+j:Nat):Int) then h e.2.2.1*κ i ((i+1+j:Nat):Int) else 0)+(if e.1=((i+1+j:Nat):Int)/\e.2.1=(i:Int) then h e.2.2.1*κ ((i+1+j:Nat):Int) i else 0)) E) fun i hi=>by
  rw[mq];exact ay fun j _=>row i (i+1+j)]
 rw[ay (g:=fun i=>bU (fun e=>aY (N-(i+1)) fun j=>(if e.1=(i:Int)/\e.2.1=((i+1+j:Nat):Int) then h e.2.2.1*κ i ((i+1+j:Nat):Int) else 0)+(if e.1=((i+1+j:Nat):Int)/\e.2.1=(i:Int) then h e.2.2.1*κ ((i+1+j:Nat):Int) i else 0)) E) fun i _=>by
  rw[dG,lz];exact ba fun e _=>(dG _ _).symm]
 rw[dG,lz];refine ba fun e he=>?_;rw[<-dG (fun i=>aY (N-(i+1)) fun j=>(if e.1=(i:Int)/\e.2.1=((i+1+j:Nat):Int) then h e.2.2.1*κ i ((i+1+j:Nat):Int) else 0)+(if e.1=((i+1+j:Nat):Int)/\e.2.1=(i:Int) then h e.2.2.1*κ ((i+1+j:Nat):Int) i else 0)) N]
 obtain⟨⟨a0,aN⟩,⟨b0,bN⟩,ne,_⟩:=hE e he;obtain⟨a,ha⟩:∃a:Nat,e.1=(a:Int):=⟨e.1.toNat,by omega⟩
 obtain⟨b,hb⟩:∃b:Nat,e.2.1=(b:Int):=⟨e.2.1.toNat,by omega⟩
 rw[ha,hb]
 by_cases c:a<b
 rw[dF (k:=a) (by omega) fun i hi hn=>bw fun j hj=>by rw[XP,XP]; rfl,dF (k:=b-(a+1)) (by omega) fun j hj hn=>by rw[XP,XP]; rfl]
 rw[U5 ⟨rfl,by omega⟩,XP,show a+1+(b-(a+1))=b by omega]; omega
 rw[dF (k:=b) (by omega) fun i hi hn=>bw fun j hj=>by rw[XP,XP]; rfl,dF (k:=a-(b+1)) (by omega) fun j hj hn=>by rw[XP,XP]; rfl]
 rw[XP,U5 ⟨by omega,rfl⟩,show b+1+(a-(b+1))=a by omega]; omega
def Ai(h:Int->Int)(w:Ed->Int):bU (fun e=>h e.2.2.1*w e) (sE F)=aY F.length fun f=>h f*bU (fun r=>bU w (rE ((ak F f).getD r []) f r)) (List.range (ak F f).length):=by
 unfold sE;rw[mq];refine ay fun f _=>?_;unfold fE;rw[fm,qH,<-jz];refine ba fun r _=>?_;rw[<-jz];refine ba fun e he=>?_;unfold rE at he;rw[fm] at he;obtain⟨i,_,hi⟩:=VI.1 he;rw[Vb.1 hi]; rfl
def KC(χ:Int->Int)(l:YB Int)(f r:Nat):bU (fun e=>χ e.1-χ e.2.1) (rE l f r)=0:=by
 unfold rE;rw[mq,ay (g:=fun i=>-(χ (l.getD ((i+1)%l.length) 0)-χ (l.getD (i%l.length) 0))) fun i hi=>by
  simp only[bU,ie];rw[WA hi];omega]
 rw[qV,j4 l.length fun i=>χ (l.getD (i%l.length) 0)];rw[Nat.mod_self,Nat.zero_mod]; omega
def NoF.D5(h:NoF pts F){m:XD}{K:Nat}(hu:Um (kn (sE F) pts.length) m K)(hf:NQ (kn (sE F) pts.length) m):(m.length:Int)-(kn (sE F) pts.length).length+F.length<=fa m:=by
 obtain⟨NT,n1,n3,n2⟩:=hf;have hr:=J7 hu.nd;refine U6 fun hc=>?_;have hlt:NT.length<F.length:=by omega
 let φ:Nat->dm->Int:=fun f e=>(if e.2.2.1=(f:Int) then 1 else 0)-(if e.2.2.2=(f:Int) then 1 else 0)
 obtain⟨c,⟨f0,f1,f2⟩,hcz⟩:=dep NT.length F.length (fun f j=>φ f (NT.getD j (0,0,0,0))) hlt
 let cf:Int->Int:=fun x=>if 0<=x then c x.toNat else 0
 have hcf:cf (-1)=0:=U3 (by decide)
 let g:dm->Int:=fun e=>cf e.2.2.1-cf e.2.2.2
 have KL:∀x:Int,-1<=x/\x<F.length->aY F.length (fun f=>c f*(if x=(f:Int) then 1 else 0))=cf x:=fun x hx=>by
  by_cases k:0<=x
  rw[dF (k:=x.toNat) (by omega) fun i hi hn=>by rw[XP,WT],XQ,Int.mul_one]
  exact(U5 k).symm
  rw[bw fun i hi=>by rw[XP,WT]]
  exact(U3 k).symm
 have gsum:∀e∈kn (sE F) pts.length,aY F.length (fun f=>c f*φ f e)=g e:=fun e he=>by
  obtain⟨_,_,b1,b2⟩:=h.wall he
  show _=cf e.2.2.1-cf e.2.2.2
  rw[<-KL _ b1,<-KL _ b2,<-fU];exact ay fun f _=>XA _ _ _
 have gz:∀e∈NT,g e=0:=fun e he=>by
  rw[<-gsum e (n3 e he)];obtain⟨j,hj,rfl⟩:=Vz.1 he;have:=hcz j hj;rw[U7,U4 hj] at this;exact this
 have hE:=zU h.vf;have hD:=h.dst;have circ:RE (kn (sE F) pts.length) g:=fun χ=>by
  have:=xN cf hcf (fun a b=>χ a-χ b) hE hD;rw[Ai cf (fun e=>χ e.1-χ e.2.1),bw fun f _=>by rw[cO fun r _=>KC χ _ f r,WT]] at this
  rw[<-this];refine ba fun e _=>?_
  show(cf e.2.2.1-cf e.2.2.2)*(χ e.1-χ e.2.1)=_
  grind
 have all:=n2 g circ gz
 let hh:Int->Int:=fun x=>if 0<=x/\c x.toNat=c f0 then 1 else 0
 have same:∀e∈kn (sE F) pts.length,hh e.2.2.1=hh e.2.2.2:=fun e he=>by
  have:=all e he;have this:cf e.2.2.1=cf e.2.2.2:=by show cf _=cf _; have:cf e.2.2.1-cf e.2.2.2=0:=this; omega
  show(if 0<=e.2.2.1/\c e.2.2.1.toNat=c f0 then(1:Int) else 0)=if 0<=e.2.2.2/\c e.2.2.2.toNat=c f0 then 1 else 0
  have u:∀x:Int,(0<=x/\c x.toNat=c f0)↔cf x=c f0:=fun x=>by
   show _↔(if 0<=x then c x.toNat else 0)=c f0
   by_cases k:0<=x
   rw[U5 k]; exact⟨fun q=>q.2,fun q=>⟨k,q⟩⟩
   rw[U3 k]; exact⟨fun q=>Vr q.1 k,fun q=>Vr q.symm f2⟩
  simp only[u,this]
 have tot:=xN hh (XP) (cr pts) hE hD
 rw[cO fun e he=>by rw[same e he,DZ]; grind,Ai hh (fun e=>cr pts e.1 e.2.1)] at tot
 have ar:∀f,f<F.length->bU (fun r=>bU (fun e=>cr pts e.1 e.2.1) (rE ((ak F f).getD r []) f r)) (List.range (ak F f).length)=Fj pts F f:=fun f hf=>by
  unfold Fj;have:ak F f=(List.range (ak F f).length).map fun i=>(ak F f).getD i []:=by
   apply List.ext_getElem
   simp
   intro i h1 h2; simp[h1]
  conv=>rhs; rw[this]
  rw[eZ];refine ba fun r _=>?_;rw[EC,<-wx (f:=f) (r:=r),eZ]; rfl
 rw[ay (g:=fun f=>hh f*Fj pts F f) fun f hf=>by rw[ar f hf],dG] at tot
 have nn:∀f∈List.range F.length,0<=hh f*Fj pts F f:=fun f hf=>by
  have:=h.q8 (Vy.1 hf)
  show 0<=(if 0<=(f:Int)/\c (f:Int).toNat=c f0 then(1:Int) else 0)*_
  split<;>omega
 have:=CI nn (Vy.2 f1);have a0:=h.q8 f1;have h1:hh (f0:Int)=1:=U5 ⟨by omega,by rw[VH]⟩
 rw[h1] at this;omega
end
section
variable{pts:YB I2}{F:YB Fc}
def IX{m:XD}{W:YB dm}{K N:Nat}(hu:Um W m K)(hE:∀e∈W,(0<=e.1/\e.1<N)/\(0<=e.2.1/\e.2.1<N)):m.length<=N:=by
 have h1:=rm (l:=m.map Prod.fst) (m:=(List.range N).map fun i:Nat=>(i:Int)) hu.nd fun x hx=>by
  obtain⟨e,he,g⟩:=(hu.key x).1 (pb.2 hx);have:=hE e he;refine Vi.2 ⟨x.toNat,Vy.2 ?_,?_⟩
  rcases g with rfl|rfl<;>omega
  rcases g with rfl|rfl<;>omega
 simpa using h1
def Es(n:Nat)(h:NoF pts F)(hc:G5 100000 pts F=some 0):∃m,Um (kn (sE F) pts.length) m (kn (sE F) pts.length).length/\NQ (kn (sE F) pts.length) m/\m.length<=pts.length/\DV n pts F=some ((m.length:Int),((kn (sE F) pts.length).length:Int),(F.length:Int),fa m,0):=by
 have hW:=tZ (sE F) h.vf.len.2;have hE:∀e∈kn (sE F) pts.length,(0<=e.1/\e.1<pts.length)/\(0<=e.2.1/\e.2.1<pts.length):=fun e he=>by
  have:=(h.wall he).1; omega
 obtain⟨m,h1,h2,h3⟩:=FF 100000 (kn (sE F) pts.length) (fun e he=>by have:=(h.wall he).1; omega) (by omega) (by decide)
 have hk:=IX h2 hE;refine⟨m,h2,h3,hk,?_⟩;unfold DV GW;rw[hc,aj,Vc rfl,V4,ib,Pq 100000 h.vf,aj,h1];simp only[aj];rw[bo (by have:=h.vf.len; omega),bf]
def w7{m:XD}{W:YB dm}{K:Nat}(hu:Um W m K)(hW:W≠[]):1<=fa m:=by
 obtain⟨e,he⟩:=List.exists_mem_of_ne_nil _ hW;obtain⟨r,hr⟩:=hu.uf.ch e.1 ((hu.key _).2 ⟨e,he,.inl rfl⟩);have:=hr.at_root;have hm:=(oz hu.nd).1 this;have:0<m.countP (fun p=>decide (p.1=p.2)):=List.countP_pos_iff.2 ⟨_,hm,by simp⟩
 unfold fa;omega
def Aj(h:NoF pts F):kn (sE F) pts.length≠[]:=by
 intro e;have:=h.TZ;rw[e] at this;have hfl:=h.vf.rv;have hp:0<aY F.length (Fj pts F):=by
  rw[dG];have:=CI (f:=Fj pts F) (a:=0) (l:=List.range F.length) (fun i hi=>WU (h.q8 (Vy.1 hi))) (Vy.2 (by omega))
  have:=h.q8 (i:=0) (by omega)
  omega
 rw[this] at hp;simp[bU] at hp
end
section
variable{w h:Nat}{X Y:Nat->Int}{sp:Nat->Nat->Bool}{pts:YB I2}{F:YB Fc}
def gw(w i k:Nat):Nat:=k*(w+1)+i
def Tab.ix(T:Tab w h X Y sp pts F){a:Int}(ha:0<=a/\a<pts.length){i k:Nat}(hi:i<=w)(hk:k<=h)(e:fb pts a=cA X Y i k):a=(gw w i k:Int):=by
 have:=Nu (w:=w) (h:=h) hi hk;refine vL T.QD ha ⟨by unfold gw; omega,by rw[T.len]; unfold gw; omega⟩ ?_
 rw[e];exact(T.pt hi hk).symm
def SL(σ:Nat):o1 σ<=1/\o2 σ<=1/\o3 σ<=1/\o4 σ<=1:=by
 unfold o1 o2 o3 o4;refine⟨?_,?_,?_,?_⟩<;>split<;>omega
def Tab.ends(T:Tab w h X Y sp pts F){x:Ed}(hx:x∈sE F):∃t∈tT w h sp,∃σ∈Ac t.2.2,x.1=(gw w (t.1+o1 σ) (t.2.1+o2 σ):Int)/\x.2.1=(gw w (t.1+o3 σ) (t.2.1+o4 σ):Int):=by
 obtain⟨f,hf,σ,_,_,hσ,hg⟩:=T.step hx;have hm:=il.1 (Vg hf);have hS:=rO T.QD (U8 _) x hx;have ho:=SL σ;refine⟨_,Vg hf,σ,hσ,?_,?_⟩
 exact T.ix hS.1 (by omega) (by omega) (Vs Prod.fst hg)
 exact T.ix hS.2.1 (by omega) (by omega) (Vs Prod.snd hg)
def prs(w h:Nat)(sp:Nat->Nat->Bool):XD :=
 ((List.range (h+1)).flatMap fun k=>(List.range w).map fun i=>((gw w i k:Int),(gw w (i+1) k:Int))) ++
 (((List.range h).flatMap fun k=>(List.range (w+1)).map fun i=>((gw w i k:Int),(gw w i (k+1):Int))) ++
 ((List.range h).flatMap fun k=>(List.range w).flatMap fun i=>if sp i k then[((gw w i k:Int),(gw w (i+1) (k+1):Int))] else[]))
def jM{α β:Type}{f:α->YB β}{b:Nat}:∀(l:YB α),(∀a∈l,(f a).length=b)->(l.flatMap f).length=l.length*b
 | [],_=>by simp
 | a::l,h=>by
  rw[VY,Vd,h a Vp,jM l fun c hc=>h c (Ve _ hc),VF,V2];omega
def K9:(prs w h sp).length=(h+1)*w+(h*(w+1)+Ng w h sp):=by
 unfold prs Ng;rw[Vd,Vd,jM (b:=w) _ fun k _=>by simp,jM (b:=w+1) _ fun k _=>by simp,WQ,WQ]
 congr 2
 have e1:∀k (l:YB Nat),(l.flatMap fun i=>if sp i k then[((gw w i k:Int),(gw w (i+1) (k+1):Int))] else[]).length=(l.flatMap fun i=>if sp i k then[(i,k)] else[]).length:=by
  intro k l
  induction l with
  | nil=>rfl
  | cons i l ih=>rw[VY,VY,Vd,Vd,ih]; congr 1; split<;>rfl
 have e2:∀l:YB Nat,(l.flatMap fun k=>(List.range w).flatMap fun i=>if sp i k then[((gw w i k:Int),(gw w (i+1) (k+1):Int))] else[]).length=(l.flatMap fun k=>(List.range w).flatMap fun i=>if sp i k then[(i,k)] else[]).length:=by
  intro l
  induction l with
  | nil=>rfl
  | cons k l ih=>rw[VY,VY,Vd,Vd,ih,e1]
 exact e2 _
def ND{i k:Nat}(hi:i<w)(hk:k<=h):((gw w i k:Int),(gw w (i+1) k:Int))∈prs w h sp :=
 Vl _ (VI.2 ⟨k,Vy.2 (by omega),Vi.2 ⟨i,Vy.2 hi,rfl⟩⟩)
def Nn{i k:Nat}(hi:i<=w)(hk:k<h):((gw w i k:Int),(gw w i (k+1):Int))∈prs w h sp :=
 Vv _ (Vl _ (VI.2 ⟨k,Vy.2 hk,Vi.2 ⟨i,Vy.2 (by omega),rfl⟩⟩))
def NH{i k:Nat}(hi:i<w)(hk:k<h)(hs:sp i k=true):((gw w i k:Int),(gw w (i+1) (k+1):Int))∈prs w h sp :=
 Vv _ (Vv _ (VI.2 ⟨k,Vy.2 hk,VI.2 ⟨i,Vy.2 hi,by rw[hs,U5 rfl]; exact Vb.2 rfl⟩⟩))
def EJ{E:YB Ed}{a b:Int}(h:0<=fc E a b):∃e∈E,e.1=a/\e.2.1=b:=by
 rcases q7 a b E with k|⟨e,he,h1,h2,_⟩
 omega
 exact⟨e,he,h1,h2⟩
def Tab.pair(T:Tab w h X Y sp pts F){x:dm}(hx:x∈kn (sE F) pts.length):(x.1,x.2.1)∈prs w h sp:=by
 obtain⟨i,k,hik,hk,hor,rfl⟩:=po.1 hx;have key:∀a b:Int,(∃e∈sE F,e.1=a/\e.2.1=b)->(a<b->(a,b)∈prs w h sp)/\(b<a->(b,a)∈prs w h sp):=fun a b ⟨e,he,h1,h2⟩=>by
  obtain⟨t,ht,σ,hσ,e1,e2⟩:=T.ends he;obtain⟨g1,g2,g3⟩:=il.1 ht;rw[h1] at e1;rw[h2] at e2;have h6:=qu hσ;have up:∀i k,gw w i (k+1)=gw w i k+(w+1):=fun i k=>by unfold gw; rw[V2]; omega
  have rt:∀i k,gw w (i+1) k=gw w i k+1:=fun i k=>by unfold gw; omega
  have six:σ=0\/σ=1\/σ=2\/σ=3\/σ=4\/σ=5:=by omega
  have dg:σ=4\/σ=5->sp t.1 t.2.1=true:=fun hd=>by
   rcases g3 with⟨q,_⟩|⟨_,q⟩
   exact q
   rw[q] at hσ;rcases hd with rfl|rfl<;>exact Vr hσ (by decide)
  have r1:=rt t.1 t.2.1;have r2:=up t.1 t.2.1;have r3:=rt t.1 (t.2.1+1);have r4:=up (t.1+1) t.2.1;rcases six with rfl|rfl|rfl|rfl|rfl|rfl
  replace e1:a=(gw w t.1 t.2.1:Int):=e1;replace e2:b=(gw w (t.1+1) t.2.1:Int):=e2;exact⟨fun _=>by rw[e1,e2]; exact ND g1 (by omega),fun q=>by omega⟩
  replace e1:a=(gw w (t.1+1) t.2.1:Int):=e1;replace e2:b=(gw w (t.1+1) (t.2.1+1):Int):=e2;exact⟨fun _=>by rw[e1,e2]; exact Nn (by omega) g2,fun q=>by omega⟩
  replace e1:a=(gw w (t.1+1) (t.2.1+1):Int):=e1;replace e2:b=(gw w t.1 (t.2.1+1):Int):=e2;exact⟨fun q=>by omega,fun _=>by rw[e1,e2]; exact ND g1 (by omega)⟩
  replace e1:a=(gw w t.1 (t.2.1+1):Int):=e1;replace e2:b=(gw w t.1 t.2.1:Int):=e2;exact⟨fun q=>by omega,fun _=>by rw[e1,e2]; exact Nn (by omega) g2⟩
  replace e1:a=(gw w (t.1+1) (t.2.1+1):Int):=e1;replace e2:b=(gw w t.1 t.2.1:Int):=e2;exact⟨fun q=>by omega,fun _=>by rw[e1,e2]; exact NH g1 g2 (dg (.inl rfl))⟩
  replace e1:a=(gw w t.1 t.2.1:Int):=e1;replace e2:b=(gw w (t.1+1) (t.2.1+1):Int):=e2;exact⟨fun _=>by rw[e1,e2]; exact NH g1 g2 (dg (.inr rfl)),fun q=>by omega⟩
 dsimp only
 rcases hor with c|c
 exact(key i k (EJ c)).1 (by omega)
 exact(key k i (EJ c)).2 (by omega)
def Tab.I6(T:Tab w h X Y sp pts F):(kn (sE F) pts.length).length<=(h+1)*w+(h*(w+1)+Ng w h sp):=by
 have hn:((kn (sE F) pts.length).map fun x=>(x.1,x.2.1)).Nodup:=by
  refine List.pairwise_map.2 ((zC (sE F) pts.length).imp fun{x y} hlt e=>?_);have a:=Vs Prod.fst e;have b:=Vs Prod.snd e
  dsimp only at a b
  unfold QG at hlt;omega
 have:=rm hn (m:=prs w h sp) fun p hp=>by
  obtain⟨x,hx,rfl⟩:=Vi.1 hp;exact T.pair hx
 rwa[Vf,K9] at this
def Tab.side(T:Tab w h X Y sp pts F){i k σ:Nat}(hi:i<w)(hk:k<h)(hσ:σ<4):Cn (gS (kn (sE F) pts.length)) (gw w (i+o1 σ) (k+o2 σ):Int) (gw w (i+o3 σ) (k+o4 σ):Int):=by
 have ht:∃t∈tT w h sp,t.1=i/\t.2.1=k/\σ∈Ac t.2.2:=by
  cases hs:sp i k
  exact⟨(i,k,0),il.2 ⟨hi,hk,.inr ⟨hs,rfl⟩⟩,rfl,rfl,by simp[Ac]; omega⟩
  by_cases c:σ<=1
  exact⟨(i,k,1),il.2 ⟨hi,hk,.inl ⟨hs,.inl rfl⟩⟩,rfl,rfl,by simp[Ac]; omega⟩
  exact⟨(i,k,2),il.2 ⟨hi,hk,.inl ⟨hs,.inr rfl⟩⟩,rfl,rfl,by simp[Ac]; omega⟩
 obtain⟨t,ht,rfl,rfl,hm⟩:=ht;obtain⟨f,hf,rfl⟩:=Vz.1 ht;have hfF:f<F.length:=by rw[T.eF,Vf]; exact hf
 have ri:ak F f=[Kc w (tT w h sp)[f]]:=by
  unfold ak;rw[U7,U4 hfF];simp[T.eF,vw]
 have hr:0<(ak F f).length:=by rw[ri]; simp
 have e0:(ak F f)[0]=Kc w (tT w h sp)[f]:=by simp[ri]
 obtain⟨x,hx,hg,_⟩:=so (pts:=pts) hfF hr (qT T.QD hfF _ (Vg hr)) (e:=dE X Y (tT w h sp)[f].1 (tT w h sp)[f].2.1 σ) (by
  rw[e0,T.dP hi hk,nj];exact Vi.2 ⟨σ,hm,rfl⟩)
 have hS:=rO T.QD (U8 _) x hx;have ho:=SL σ;have x1:=T.ix hS.1 (i:=(tT w h sp)[f].1+o1 σ) (k:=(tT w h sp)[f].2.1+o2 σ) (by omega) (by omega) (Vs Prod.fst hg)
 have x2:=T.ix hS.2.1 (i:=(tT w h sp)[f].1+o3 σ) (k:=(tT w h sp)[f].2.1+o4 σ) (by omega) (by omega) (Vs Prod.snd hg)
 rw[<-x1,<-x2];have hne:x.1≠x.2.1:=fun e=>hS.2.2 (by rw[e])
 have f0:0<=fc (sE F) x.1 x.2.1:=by
  have:=(DM x.1 x.2.1 (sE F) T.L8.dst fun e he=>(zU T.QD e he).2.2.2.1).2;exact U6 fun hc=>this (by omega) x hx ⟨rfl,rfl⟩
 obtain⟨a,ha⟩:∃a:Nat,x.1=(a:Int):=⟨x.1.toNat,by omega⟩
 obtain⟨b,hb⟩:∃b:Nat,x.2.1=(b:Int):=⟨x.2.1.toNat,by omega⟩
 have s1:=hS.1.2;have s2:=hS.2.1.2;rw[ha,hb] at f0 hne ⊢;rw[ha] at s1;rw[hb] at s2;rcases Nat.lt_or_gt_of_ne (show a≠b by omega) with c|c
 exact Cn.one (.inl (Vi.2 ⟨_,po.2 ⟨a,b,c,by omega,.inl f0,rfl⟩,rfl⟩))
 exact Cn.one (.inr (Vi.2 ⟨_,po.2 ⟨b,a,c,by omega,.inr f0,rfl⟩,rfl⟩))
def Tab.conn(T:Tab w h X Y sp pts F){i k:Nat}(hi:i<=w)(hk:k<=h):Cn (gS (kn (sE F) pts.length)) (gw w 0 0:Int) (gw w i k:Int):=by
 have hz:∀i k,i<w->k<=h->Cn (gS (kn (sE F) pts.length)) (gw w i k:Int) (gw w (i+1) k:Int):=fun i k hi hk=>by
  by_cases c:k<h
  exact T.side (σ:=0) hi c (by decide)
  have:=T.side (σ:=2) hi (k:=k-1) (by have:=T.hh; omega) (by decide)
  have e:k-1+1=k:=by have:=T.hh; omega
  replace this:Cn _ (gw w (i+1) (k-1+1):Int) (gw w i (k-1+1):Int):=this;rw[e] at this;exact this.symm
 have vt:∀k,k<h->Cn (gS (kn (sE F) pts.length)) (gw w 0 k:Int) (gw w 0 (k+1):Int):=fun k hk=>by
  have:=T.side (σ:=3) (i:=0) (by have:=T.hw; omega) hk (by decide)
  exact this.symm
 have col:∀k,k<=h->Cn (gS (kn (sE F) pts.length)) (gw w 0 0:Int) (gw w 0 k:Int):=by
  intro k
  induction k with
  | zero=>intro _; exact .refl _
  | succ k ih=>intro hk; exact(ih (by omega)).trans (vt k (by omega))
 have row:∀i,i<=w->Cn (gS (kn (sE F) pts.length)) (gw w 0 k:Int) (gw w i k:Int):=by
  intro i
  induction i with
  | zero=>intro _; exact .refl _
  | succ i ih=>intro hi; exact(ih (by omega)).trans (hz i k (by omega) hk)
 exact(col k hk).trans (row i hi)
def Tab.D5(T:Tab w h X Y sp pts F){m:XD}{K:Nat}(hu:Um (kn (sE F) pts.length) m K)(hf:NQ (kn (sE F) pts.length) m)(hl:m.length<=pts.length) :
  m.length=(h+1)*(w+1)/\fa m=1/\(m.length:Int)-(kn (sE F) pts.length).length+F.length=1:=by
 have hw:=T.hw;have hh:=T.hh;have all:∀j:Nat,j<pts.length->Cn (gS (kn (sE F) pts.length)) (gw w 0 0:Int) (j:Int):=fun j hj=>by
  have e:=Nat.div_add_mod j (w+1);have hm:=VM j (show 0<w+1 by omega)
  have hk:j/(w+1)<=h:=by
   rw[T.len] at hj;have:=Nat.div_lt_of_lt_mul (show j<(w+1)*(h+1) by rw[Nat.mul_comm]; exact hj)
   omega
  have:=T.conn (i:=j%(w+1)) (k:=j/(w+1)) (by omega) hk
  have e2:gw w (j%(w+1)) (j/(w+1))=j:=by unfold gw; rw[Nat.mul_comm]; omega
  rwa[e2] at this
 have key:∀j:Nat,j<pts.length->bR m (j:Int)≠none:=fun j hj=>by
  have c:=all j hj;have c0:Cn (gS (kn (sE F) pts.length)) (gw w 0 0:Int) (gw w 1 0:Int):=T.conn (by omega) (by omega)
  have U0:bR m (gw w 0 0:Int)≠none:=by
   have hx:∃e∈gS (kn (sE F) pts.length),e.1=(gw w 0 0:Int)\/e.2=(gw w 0 0:Int):=by
    refine U6 fun hc=>?_;have:=c0.Ub (a:=(gw w 0 0:Int)) fun e he=>⟨fun k=>hc ⟨e,he,.inl k⟩,fun k=>hc ⟨e,he,.inr k⟩⟩;unfold gw at this; omega
   obtain⟨e,he,g⟩:=hx;obtain⟨x,hx,rfl⟩:=Vi.1 he;exact(hu.key _).2 ⟨x,hx,by rcases g with g|g<;>simp[<-g]⟩
  exact c.used (U:=fun x=>bR m x≠none) (fun e he=>by
   obtain⟨x,hx,rfl⟩:=Vi.1 he;exact⟨(hu.key _).2 ⟨x,hx,.inl rfl⟩,(hu.key _).2 ⟨x,hx,.inr rfl⟩⟩) U0
 have hlen:m.length=pts.length:=by
  have:=rm (l:=(List.range pts.length).map fun i:Nat=>(i:Int)) (m:=m.map Prod.fst) (List.Pairwise.map _ (fun a b hab e=>hab (by omega)) List.nodup_range) fun x hx=>by
   obtain⟨j,hj,rfl⟩:=Vi.1 hx;exact pb.1 (key j (Vy.1 hj))
  simp at this;omega
 have hroot:fa m=1:=by
  have h1:=w7 hu (Aj T.L8);have h2:m.countP (fun p=>decide (p.1=p.2))<=1:=by
   rw[List.countP_eq_length_filter];have hnd:((m.filter fun p=>decide (p.1=p.2)).map Prod.fst).Nodup:=hu.nd.sublist (List.Sublist.map _ List.filter_sublist);have same:∀x ∈(m.filter fun p=>decide (p.1=p.2)).map Prod.fst,∀y ∈(m.filter fun p=>decide (p.1=p.2)).map Prod.fst,x=y:=fun x hx y hy=>by
    have rt:∀x ∈(m.filter fun p=>decide (p.1=p.2)).map Prod.fst,bR m x=some x:=fun x hx=>by
     obtain⟨p,hp,rfl⟩:=Vi.1 hx;obtain⟨q1,q2⟩:=List.mem_filter.1 hp;have this:bR m p.1=some p.2:=(oz hu.nd).2 q1;exact this.trans (Vs some (of_decide_eq_true q2).symm)
    have ix:∀x,bR m x=some x->∃j:Nat,x=(j:Int)/\j<pts.length:=fun x hx=>by
     obtain⟨e,he,g⟩:=(hu.key x).1 (by rw[hx]; exact fun k=>by cases k)
     have:=(T.L8.wall he).1;exact⟨x.toNat,by rcases g with rfl|rfl<;>omega,by rcases g with rfl|rfl<;>omega⟩
    have rx:=rt x hx;have ry:=rt y hy;obtain⟨a,rfl,ha⟩:=ix x rx;obtain⟨b,rfl,hb⟩:=ix y ry;exact(hu.uf.eq (.root rx) (.root ry)).2 ((all a ha).symm.trans (all b hb))
   rw[<-Vf (f:=Prod.fst)];generalize(m.filter fun p=>decide (p.1=p.2)).map Prod.fst=l at hnd same
   match l,hnd,same with
   | [],_,_=>simp
   | [_],_,_=>simp
   | x::y::l,hnd,same =>
    have:=same x (by simp) y (by simp)
    simp at hnd;exact Vr this hnd.1.1
  unfold fa at h1 ⊢;omega
 have he:=T.L8.D5 hu hf;have hw2:=T.I6;have hF:=T.rv;have hl2:=T.len;refine⟨by omega,hroot,?_⟩
 rw[hroot] at he;have e1:(h+1)*(w+1)=h*w+h+w+1:=by rw[V2,Nat.mul_succ]; omega
 have e2:(h+1)*w=h*w+w:=V2 _ _;have e3:h*(w+1)=h*w+h:=Nat.mul_succ _ _;rw[e2,e3] at hw2;rw[e1] at hl2;omega
end
end
section
open Go Go.Ab Go.Ab.W Go.Ab.B Jd
def nb(l:YB Nat)(k:Nat):Nat:=if l.length=0 then 0 else l.getD (k%l.length) 0
def Sz{l:YB Nat}(hb:∀x∈l,x<256)(k:Nat):nb l k<256:=by
 unfold nb
 split
 decide
 rename_i h;have hk:k%l.length<l.length:=VM _ (by omega)
 rw[U7,U4 hk];exact hb _ (Vg hk)
def TX{l:YB Nat}{P:XH}(h0:P 0)(hb:∀x∈l,P x)(k:Nat):P (nb l k):=by
 unfold nb
 split
 exact h0
 rename_i h;have hk:k%l.length<l.length:=VM _ (by omega)
 rw[U7,U4 hk];exact hb _ (Vg hk)
def CG(n:Nat){l:YB Nat}(hb:∀x∈l,x<256)(k:Nat):Ht n l (k:Int)=some (nb l k:Int):=by
 unfold Ht nb
 by_cases c:l.length=0
 rw[Vc (by omega),jm,U5 c]; rfl
 have hk:k%l.length<l.length:=VM _ (by omega)
 have hx:=hb _ (Vg hk);rw[Vj (by omega),ib,U3 c,fT (by omega),gZ,aC hk,bf,bM (U4 hk),aj,av (by omega) (by omega),U7,U4 hk]; rfl
def xs(st:YB Nat)(o:Nat):Nat->Int
 | 0=>0
 | i+1=>xs st o i+1+((nb st (o+i)%5:Nat):Int)
def Hj(st:YB Nat)(o:Nat):rz (xs st o):=fun i j hij=>by
 induction j with
 | zero=>omega
 | succ j ih =>
  rw[xs]
  by_cases c:i=j
  subst c; omega
  have:=ih (by omega); omega
def Ak(st:YB Nat)(o:Nat):∀i,0<=xs st o i/\xs st o i<=5*(i:Int)
 | 0=>by simp[xs]
 | i+1=>by
  have:=Ak st o i;have:=VM (nb st (o+i)) (show 0<5 by decide)
  rw[xs]; omega
section
variable(n:Nat){w h:Nat}{st cl:YB Nat}
def JK(hw:w<=5)(hb:∀x∈st,x<256)(y:Int){l0:YB I2}(h0:l0.length<=1000)(hn:1000<n):bL (pN n (w:Int) y st) n (l0,0,0)=some (l0++(List.range (w+1)).map fun i=>(xs st 0 i,y)):=by
 have key:=fq (B:=pN n (w:Int) y st) (len:=w+1) (fun i (s:YB I2×Int)=>(s.1,s.2,(i:Int))) (fun i s=>s=(l0++(List.range i).map fun i=>(xs st 0 i,y),xs st 0 i)) (fun r=>r=l0++(List.range (w+1)).map fun i=>(xs st 0 i,y)) (fun i s hi hs=>.inl ?_) (fun s hs=>⟨_,?_,rfl⟩) (w+1) 0 (l0,0) n (by omega) (by omega) (by simp[xs])
 obtain⟨r,h1,h2⟩:=key;rw[<-h2]; exact h1
 ·subst hs;refine⟨_,?_,rfl⟩;have hm:=VM (nb st i) (show 0<5 by decide)
  have hx:=Ak st 0 i;unfold pN
  try dsimp only
  rw[aH (by omega),bo (by simp; omega),bf,CG n hb,aj,aw (by omega),show Int.tmod ((nb st i:Nat):Int) 5=((nb st i%5:Nat):Int) from gZ _ 5,av (x:=xs st 0 i+1) (by omega) (by omega),av (by omega) (by omega)]
  have e1:l0++(List.range i).map (fun i=>(xs st 0 i,y))++[(xs st 0 i,y)]=l0++(List.range (i+1)).map fun i=>(xs st 0 i,y):=by rw[WS,W6,VT]; rfl
  have e2:xs st 0 i+1+((nb st i%5:Nat):Int)=xs st 0 (i+1):=by rw[xs,VC]
  rw[e1,e2]
 ·subst hs;unfold pN
  try dsimp only
  rw[aF (by omega)]
def wK(st:YB Nat)(w h:Nat):YB I2:=(List.range h).flatMap fun k=>(List.range (w+1)).map fun i=>(xs st 0 i,xs st 7 k)
def A1:(wK st w h).length=h*(w+1):=by
 unfold wK;rw[jM (b:=w+1) _ fun k _=>by simp,WQ]
def J4(hw:w<=5)(hh:h<=5)(hb:∀x∈st,x<256)(hn:1000<n):bL (pW n (h:Int) (w:Int) st) n ([],0,0)=some (wK st w (h+1)):=by
 have key:=fq (B:=pW n (h:Int) (w:Int) st) (len:=h+1) (fun i (s:YB I2×Int)=>(s.1,s.2,(i:Int))) (fun i s=>s=(wK st w i,xs st 7 i)) (fun r=>r=wK st w (h+1)) (fun i s hi hs=>.inl ?_) (fun s hs=>⟨_,?_,rfl⟩) (h+1) 0 ([],0) n (by omega) (by omega) rfl
 obtain⟨r,h1,h2⟩:=key;rw[<-h2]; exact h1
 ·subst hs;refine⟨_,?_,rfl⟩;have hm:=VM (nb st (7+i)) (show 0<5 by decide)
  have hx:=Ak st 7 i;have hl:=A1 (st:=st) (w:=w) (h:=i);have hle:i*(w+1)<=6*6:=Wr (by omega) (by omega)
  unfold pW
  try dsimp only
  rw[aH (by omega),JK n hw hb _ (by omega) hn,aj,av (x:=7+(i:Int)) (by omega) (by omega),show(7+(i:Int))=((7+i:Nat):Int) by omega,CG n hb,aj,aw (by omega),show Int.tmod ((nb st (7+i):Nat):Int) 5=((nb st (7+i)%5:Nat):Int) from gZ _ 5,av (x:=xs st 7 i+1) (by omega) (by omega),av (by omega) (by omega)]
  have e1:wK st w i++(List.range (w+1)).map (fun j=>(xs st 0 j,xs st 7 i))=wK st w (i+1):=by unfold wK; rw[show List.range (i+1)=List.range i++[i] from WS,List.flatMap_append,List.flatMap_singleton]
  rw[e1]; rfl
 ·subst hs;unfold pW
  try dsimp only
  rw[aF (by omega)]
def qM{α:Type}(g:Nat->YB α){b:Nat}(hb:∀k,(g k).length=b):∀(m k i:Nat),k<m->i<b->((List.range m).flatMap g)[k*b+i]? =(g k)[i]?
 | 0,k,i,hk,_=>by omega
 | m+1,k,i,hk,hi=>by
  have hl:((List.range m).flatMap g).length=m*b:=by rw[jM (b:=b) _ fun k _=>hb k,WQ]
  rw[WS,List.flatMap_append,List.flatMap_singleton]
  by_cases c:k=m
  subst c;rw[VO (by omega),hl]
  congr 1; omega
  have:=V1 b (show k+1<=m by omega)
  rw[V2] at this;rw[VU (by omega)]
  exact qM g hb m k i (by omega) hi
def w6(cl:YB Nat)(w:Nat)(i k:Nat):Bool:=decide (nb cl (k*w+i)%8=0)
def Kx(hw:w<=5){k:Nat}(hk:k<=5)(hb:∀x∈cl,x<256)(h0:∀x∈cl,x%8≠1){l0:YB Fc}(h2:l0.length<=500)(hn:1000<n) :
  bL (nF n (w:Int) (k:Int) cl) n (l0,0)=some (l0++((List.range w).flatMap fun i=>if w6 cl w i k then[(i,k,1),(i,k,2)] else[(i,k,0)]).map (vw w)):=by
 have hr:∀i,((List.range i).flatMap fun i=>if w6 cl w i k then[(i,k,1),(i,k,2)] else[(i,k,0)]).length<=2*i:=fun i=>by
  have:∀l:YB Nat,(l.flatMap fun i=>if w6 cl w i k then[(i,k,1),(i,k,2)] else[(i,k,0)]).length<=2*l.length:=by
   intro l
   induction l with
   | nil=>simp
   | cons a l ih =>
    rw[VY,Vd,VF];have:(if w6 cl w a k then[(a,k,1),(a,k,2)] else[(a,k,0)]).length<=2:=by split<;>simp
    omega
  have:=this (List.range i);rwa[WQ] at this
 have key:=fq (B:=nF n (w:Int) (k:Int) cl) (len:=w) (fun i (s:YB Fc)=>(s,(i:Int))) (fun i s=>s=l0++((List.range i).flatMap fun i=>if w6 cl w i k then[(i,k,1),(i,k,2)] else[(i,k,0)]).map (vw w)) (fun r=>r=l0++((List.range w).flatMap fun i=>if w6 cl w i k then[(i,k,1),(i,k,2)] else[(i,k,0)]).map (vw w)) (fun i s hi hs=>.inl ?_) (fun s hs=>⟨_,?_,hs⟩) w 0 l0 n (by omega) (by omega) (by simp)
 obtain⟨r,h0,h1⟩:=key;rw[<-h1]; exact h0
 ·refine⟨_,?_,rfl⟩;have hl:=hr i;have hsl:s.length<=600:=by rw[hs,Vd,Vf]; omega
  have hv:=Sz hb (k*w+i);have h3:nb cl (k*w+i)%8≠1:=TX (P:=fun x=>x%8≠1) (by decide) h0 _
  have hkw:k*w<=5*5:=Wr hk hw;have h4:k*(w+1)<=5*6:=Wr hk (by omega)
  have ea:XN ((XN ((k:Int)*(XN ((w:Int)+1))))+(i:Int))=((k*(w+1)+i:Nat):Int):=by
   rw[av (x:=(w:Int)+1) (by omega) (by omega),show(k:Int)*((w:Int)+1)=((k*(w+1):Nat):Int) by rw[Int.natCast_mul]; rfl,av (x:=((k*(w+1):Nat):Int)) (by omega) (by omega),av (by omega) (by omega)]; omega
  have ec:XN ((XN ((k:Int)*(w:Int)))+(i:Int))=((k*w+i:Nat):Int):=by
   rw[show(k:Int)*(w:Int)=((k*w:Nat):Int) from(Int.natCast_mul k w).symm,av (x:=((k*w:Nat):Int)) (by omega) (by omega),av (by omega) (by omega)]; omega
  have e0:∀a:Nat,a<=100->XN ((a:Int)+1)=((a+1:Nat):Int):=fun a ha=>by rw[av (by omega) (by omega)]; omega
  have e2:∀a:Nat,a<=100->XN ((XN ((a:Int)+(w:Int)))+1)=((a+w+1:Nat):Int):=fun a ha=>by
   rw[av (x:=(a:Int)+(w:Int)) (by omega) (by omega),av (by omega) (by omega)]; omega
  have e1:∀a:Nat,a<=100->XN (((a+w+1:Nat):Int)+1)=((a+w+2:Nat):Int):=fun a ha=>by rw[av (by omega) (by omega)]; omega
  have es:s++(if w6 cl w i k then[(i,k,1),(i,k,2)] else[(i,k,0)]).map (vw w)=l0++((List.range (i+1)).flatMap fun i=>if w6 cl w i k then[(i,k,1),(i,k,2)] else[(i,k,0)]).map (vw w):=by
   rw[hs,WS,List.flatMap_append,W6,VT,List.flatMap_singleton]
  rw[<-es];have et:Int.tmod ((nb cl (k*w+i):Nat):Int) 8=((nb cl (k*w+i)%8:Nat):Int):=gZ _ 8;unfold nF
  try dsimp only
  rw[aH (by omega),aj,ec,CG n hb,aj,et]
  simp only[ea,aw (i:=i) (by omega),e0 _ (show k*(w+1)+i<=100 by omega),e2 _ (show k*(w+1)+i<=100 by omega),e1 _ (show k*(w+1)+i<=100 by omega),aj]
  by_cases c:nb cl (k*w+i)%8=0
  have hs':w6 cl w i k=true:=Vc c;rw[Vc (by omega),jm,bo (by simp; omega),bf,aj,hs',U5 rfl]
  rfl
  have hs':w6 cl w i k=false:=Vj c;rw[Vj (by omega),ib,Vj (by omega),ib,bo (by simp; omega),bf,aj,hs',U3 (by decide)]
  rfl
 ·unfold nF
  try dsimp only
  rw[aF (by omega)]
def GQ(hw:w<=5)(hh:h<=5)(hb:∀x∈cl,x<256)(h1:∀x∈cl,x%8≠1)(hn:1000<n):bL (pU n (h:Int) (w:Int) cl) n ([],0)=some ((tT w h (w6 cl w)).map (vw w)):=by
 have ln:∀i,i<=5->((tT w i (w6 cl w)).map (vw w)).length<=500:=fun i hi=>by
  rw[Vf,KA];have:=GD (w:=w) (h:=i) (sp:=w6 cl w);have:i*w<=5*5:=Wr hi hw;omega
 have key:=fq (B:=pU n (h:Int) (w:Int) cl) (len:=h) (fun i (s:YB Fc)=>(s,(i:Int))) (fun i s=>s=(tT w i (w6 cl w)).map (vw w)) (fun r=>r=(tT w h (w6 cl w)).map (vw w)) (fun i s hi hs=>.inl ?_) (fun s hs=>⟨_,?_,hs⟩) h 0 [] n (by omega) (by omega) rfl
 obtain⟨r,h1,h2⟩:=key;rw[<-h2]; exact h1
 ·subst hs;refine⟨_,?_,rfl⟩;unfold pU
  try dsimp only
  rw[aH (by omega),Kx n hw (by omega) hb h1 (ln i (by omega)) hn,aj,aw (by omega)]
  have:tT w (i+1) (w6 cl w)=tT w i (w6 cl w)++((List.range w).flatMap fun j=>if w6 cl w j i then[(j,i,1),(j,i,2)] else[(j,i,0)]):=by
   unfold tT;rw[WS,List.flatMap_append,List.flatMap_singleton]
  rw[this,W6]
 ·unfold pU
  try dsimp only
  rw[aF (by omega)]
def Ll(x1 x2:Nat)(hb:∀x∈st,x<256)(hc:∀x∈cl,x<256)(h1:∀x∈cl,x%8≠1)(hn:1000<n):∃pts F,Ml n x1 x2 cl st false=some (pts,F)/\Tab (1+x1%4) (1+x2%3) (xs st 0) (xs st 7) (w6 cl (1+x1%4)) pts F:=by
 have m1:=VM x1 (show 0<4 by decide)
 have m2:=VM x2 (show 0<3 by decide)
 refine⟨wK st (1+x1%4) (1+x2%3+1),(tT (1+x1%4) (1+x2%3) (w6 cl (1+x1%4))).map (vw (1+x1%4)),?_,?_⟩
 ·unfold Ml;rw[ib,av (x:=((x1%4:Nat):Int)) (by omega) (by omega),av (x:=((x2%3:Nat):Int)) (by omega) (by omega),av (by omega) (by omega),av (by omega) (by omega),aj]
  try dsimp only
  rw[show(1+((x1%4:Nat):Int))=((1+x1%4:Nat):Int) by omega,show(1+((x2%3:Nat):Int))=((1+x2%3:Nat):Int) by omega,J4 n (by omega) (by omega) hb hn,aj,ib,GQ n (by omega) (by omega) hc h1 hn,aj]
 refine⟨by omega,by omega,Hj _ _,Hj _ _,fun i hi=>by have:=Ak st 0 i; omega,fun i hi=>by have:=Ak st 7 i; omega,A1,fun i k hi hk=>?_,rfl⟩
 unfold wK;rw[qM _ (fun k=>by simp) _ k i (by omega) (by omega)]
 rw[VQ,List.getElem?_range (by omega)]; rfl
def MQ(l:YB Nat)(hl:l.length<n)(hb:∀x∈l,x<256)(hlen:l.length<4611686018427387904):∃r,bL (CC n l) n (l,0)=some r/\r.length=l.length/\(∀x∈r,x<256)/\∀x∈r,x%8≠1:=by
 have key:=fq (B:=CC n l) (len:=l.length) (fun i (s:YB Nat)=>(s,(i:Int))) (fun i s=>s.length=l.length/\(∀x∈s,x<256)/\∀j,j<i->∀x,s[j]? = some x->x%8≠1) (fun r=>r.length=l.length/\(∀x∈r,x<256)/\∀x∈r,x%8≠1) (fun i s hi hs=>.inl ?_) (fun s hs=>⟨s,?_,hs.1,hs.2.1,fun x hx=>?_⟩) l.length 0 l n (by omega) (by omega) ⟨rfl,hb,fun j hj=>by omega⟩
 exact key
 ·obtain⟨h1,h2,h3⟩:=hs;have hx:=U4 (show i<s.length by omega)
  have hm:=Vg (show i<s.length by omega)
  generalize s[i]=x at hx hm
  by_cases c:x%8=1
  ·refine⟨s.set i 2,?_,by rw[W7]; exact h1,fun y hy=>?_,fun j hj y hy=>?_⟩
   ·unfold CC
    try dsimp only
    rw[aH (by omega),aC hi,bf,bM hx,aj,Vc c,jm,bf,aj,aw (i:=i) (by omega)]
    rfl
   rcases List.mem_or_eq_of_mem_set hy with k|k
   exact h2 y k
   rw[k]; decide
   rw[List.getElem?_set] at hy
   split at hy
   split at hy
   rw[<-U9 hy]; decide
   cases hy
   exact h3 j (by omega) y hy
  ·refine⟨s,?_,h1,h2,fun j hj y hy=>?_⟩
   ·unfold CC
    try dsimp only
    rw[aH (by omega),aC hi,bf,bM hx,aj,Vj c,ib,aj,aw (by omega)]
   by_cases e:j=i
   subst e;rw[hx] at hy;rw[<-U9 hy]; exact c
   exact h3 j (by omega) y hy
 ·unfold CC
  try dsimp only
  rw[aF (by omega)]
 obtain⟨j,hj,rfl⟩:=Vz.1 hx;exact hs.2.2 j (by omega) _ (U4 hj)
end
end
section
open Go Go.Ab Go.Ab.W
def TC(m:Nat):F6 (m+100000)=some true:=by kernel_rfl
end
section
open Go Go.Ab Go.Ab.W Go.Ab.B Jd
def sC{p:Fc->Bool}{F:YB Fc}(h:∀f∈F,p f=true):cm (jb p F) (.inr ()) F.length 0=.inr ():=iC fun j _ hj=>by
 have hj:j<F.length:=by omega
 unfold jb;rw[U4 hj];exact U5 (h _ (Vg hj))
def O6(n:Nat){pts:YB I2}{F:YB Fc}(h:Fcs pts F)(hn:99999<n):N0 n pts F=some (KM pts F):=by
 have hl:=h.len;have hf:=h.rv;have hnx:∀i,Nr (nx pts i):=fun i=>by
  have hi:i%pts.length<pts.length:=VM _ (by omega)
  refine h.near _ ?_;unfold nx;rw[U7,U4 hi];exact Vg hi
 unfold N0;simp only[aF (show ¬(pts.length:Int)<3 by omega),aF (show ¬120<(pts.length:Int) by omega),aF (show ¬(F.length:Int)<1 by omega),Vj (show ¬64<(F.length:Int) by omega),aj,ib]
 rw[B6 n (by omega) (by omega),iC fun j _ hj=>by unfold mS; exact U3 (vp.2 (hnx j))]
 simp only[aj,aF (show ¬(0:Int)<=-1 by decide)]
 rw[AP n (by omega) (by omega),iC fun j _ hj=>by unfold pZ; exact U3 (h.one j (by omega))]
 simp only[aj];rw[Cc n (by omega) (by omega),sC h.ok]
 simp only[aj,aF (show ¬(0:Int)<=-1 by decide)]
 rw[Cj n h.near h.ok (by omega) (by omega),sC h.va]
 simp only[aj,aF (show ¬(0:Int)<=-1 by decide)]
 rw[AT n h.near h.ok (fun f hf=>GP (h.va f hf)) (by omega) (by omega),sC h.tu]
 simp only[aj,aF (show ¬(0:Int)<=-1 by decide)]
 rw[HY n h hn,aj]
def NoF.check(n:Nat){pts:YB I2}{F:YB Fc}(h:NoF pts F)(hn:99999<n):G5 n pts F=some 0:=by
 have:=h.ed;unfold G5;rw[O6 n h.vf hn,aj]
 try dsimp only
 rw[aF (by omega)]
def Q4(n:Nat)(pts:YB I2)(F:YB Fc):∃V E G P r,DV n pts F=some (V,E,G,P,r)/\(r=0->XN (XN (V-E)+G)<=P/\1<=P/\G=(F.length:Int)):=by
 obtain⟨r,h1,h2⟩:=KR 100000 pts F (by decide)
 by_cases c:r=0
 subst c;have h:=h2 rfl;obtain⟨m,hu,hf,hl,e⟩:=Es n h h1;have hW:=tZ (sE F) h.vf.len.2;have hp:=h.vf.len;have hfl:=h.vf.rv;have he:=h.D5 hu hf;refine⟨_,_,_,_,_,e,fun _=>⟨?_,w7 hu (Aj h),rfl⟩⟩;rw[av (x:=(m.length:Int)-((kn (sE F) pts.length).length:Int)) (by omega) (by omega),av (by omega) (by omega)]
 exact he
 refine⟨0,0,0,0,r,?_,fun h=>Vr h c⟩;unfold DV GW;rw[h1,aj,Vj c,VW,jm,aj]
def MH(n:Nat)(x1 x2:Nat)(l3 l7:YB Nat)(x11:Bool)(x12 x13 x14:Nat)(x15 x16 x17:Int)(x18 x19 x20:Nat)(x21 x22 x23:Int)(h13:x13<256)(h14:x14<256)(h19:x19<256)(h20:x20<256)(b3:∀x∈l3,x<256)(b7:∀x∈l7,x<256)(hn:99999<n)(hl:l3.length<n)(h8:l3.length<=140737488351232)(hw:F6 n=some true) :
  F4 n x1 x2 l3 l7 x11 x12 x13 x14 x15 x16 x17 x18 x19 x20 x21 x22 x23=some true:=by
 unfold F4;obtain⟨c,d,e,h7,_,_,_,_⟩:=Sq n x1 x2 l3 l7 x11 x12 x13 x14 x15 x16 x17 x18 x19 x20 x21 x22 x23 h13 h14 h19 h20 (by omega)
 rw[hw,aj,V4,ib,h7,aj]
 try dsimp only
 have hO:bL (Gd n c.1 c.2 d.1 d.2 e.1 e.2) n 0=some (.inr ()):=by
  have h1:bL (Gd n c.1 c.2 d.1 d.2 e.1 e.2) n 0=some (cm (fun _=>none) (.inr ()) 3 0):=by
   refine dM (len:=3) (fun i hi=>?_) ?_ 3 0 n (by decide) (by omega)
   ·have hi':i < [(c.1,c.2),(d.1,d.2),(e.1,e.2)].length:=hi;have hx:=U4 hi';generalize [(c.1,c.2),(d.1,d.2),(e.1,e.2)][i]=x at hx;obtain⟨p,G⟩:=x;obtain⟨V,E,g,P,r,a1,a2⟩:=Q4 n p G;unfold Gd;rw[aH (by omega),aC hi,bf,bM hx,aj]
    try dsimp only
    rw[a1,aj]
    try dsimp only
    by_cases hr:r=0
    obtain⟨a3,a4,a5⟩:=a2 hr;rw[Vc hr,jm,aF (by omega),aF (by omega),Vc a5,V4,aj,ib,aw (by omega)]
    rw[Vj hr,ib,aj,ib,aw (by omega)]
   unfold Gd;rw[aF (by omega)]
  rw[h1]; rfl
 rw[hO,aj]
 try dsimp only
 obtain⟨l,k1,k2,k3,k4⟩:=MQ n l3 hl b3 (by omega)
 obtain⟨pts,F,g1,T⟩:=Ll n x1 x2 b7 k3 k4 (by omega)
 have e11:SU n l3=some l3:=by unfold SU LI; rw[Nat.ble_eq_true_of_le h8,bf]
 rw[e11,aj,k1,aj,g1,aj]
 try dsimp only
 have m1:=VM x1 (show 0<4 by decide)
 have m2:=VM x2 (show 0<3 by decide)
 obtain⟨m,hu,hf,hm,e⟩:=Es n T.L8 (T.L8.check 100000 (by decide))
 obtain⟨q1,q2,q3⟩:=T.D5 hu hf hm;have hW:=tZ (sE F) T.L8.vf.len.2;have hp:=T.L8.vf.len;have hfl:=T.L8.vf.rv;rw[e,aj]
 try dsimp only
 rw[Vc rfl,jm,Vc q2,jm,av (x:=(m.length:Int)-((kn (sE F) pts.length).length:Int)) (by omega) (by omega),av (x:=(m.length:Int)-((kn (sE F) pts.length).length:Int)+(F.length:Int)) (by omega) (by omega),Vc q3,jm]
 have ev:XN ((XN (2+(XN ((x1%4:Nat):Int))))*(XN (2+(XN ((x2%3:Nat):Int)))))=(m.length:Int):=by
  rw[q1,av (x:=((x1%4:Nat):Int)) (by omega) (by omega),av (x:=((x2%3:Nat):Int)) (by omega) (by omega),av (x:=2+((x1%4:Nat):Int)) (by omega) (by omega),av (x:=2+((x2%3:Nat):Int)) (by omega) (by omega),show(2+((x1%4:Nat):Int))*(2+((x2%3:Nat):Int))=(((1+x2%3+1)*(1+x1%4+1):Nat):Int) by
   rw[Int.natCast_mul,Int.mul_comm]; congr 1<;>omega]
  have:(1+x2%3+1)*(1+x1%4+1)<=4*5:=Wr (by omega) (by omega)
  exact av (by omega) (by omega)
 rw[ev,aj];exact Vs some (Vc rfl)
end
end Go.Proofs.Ytmndpgfbkicndaa
