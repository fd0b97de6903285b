/- A part of the proof. -/
import Derived.Test.YtmndpgfbkicndaaGreatCe6
set_option linter.all false
section
namespace Jd
abbrev P2:=Rat×Rat
def tn(a b c:P2):Rat:=(b.1-a.1)*(c.2-a.2)-(b.2-a.2)*(c.1-a.1)
def af(α β γ:Rat)(x:P2):Rat:=α*x.1+β*x.2+γ
def Sep(a b p q:P2):Prop:=∃α β γ,0<af α β γ a/\0<af α β γ b/\af α β γ p<0/\af α β γ q<0
def Sep.ab{a b p q:P2}(h:Sep a b p q):Sep b a p q:=let⟨α,β,γ,h1,h2,h3,h4⟩:=h;⟨α,β,γ,h2,h1,h3,h4⟩
def Sep.pq{a b p q:P2}(h:Sep a b p q):Sep a b q p:=let⟨α,β,γ,h1,h2,h3,h4⟩:=h;⟨α,β,γ,h1,h2,h4,h3⟩
def cq{x y:Rat}(hx:0<=x)(hy:0<=y):0<=x*y:=Rat.mul_nonneg hx hy
def bz{x y:Rat}(hx:0<x)(hy:0<y):0<x*y:=Rat.mul_pos hx hy
def dm{x y:Rat}(hx:0<=x)(hy:y<=0):x*y<=0:=by
 have:=cq hx (show(0:Rat)<=-y by grind)
 grind
def fV{x y:Rat}(hx:0<x)(hy:y<0):x*y<0:=by
 have:=bz hx (show(0:Rat) < -y by grind)
 grind
def hZ(a b p:P2):tn b a p = -tn a b p:=by unfold tn; grind
def we(a b p:P2):Int:=if a.2<=p.2/\p.2<b.2/\0<tn a b p then 1 else if b.2<=p.2/\p.2<a.2/\tn a b p<0 then -1 else 0
def gH{a b p:P2}(h1:a.2<=p.2)(h2:p.2<b.2):we a b p=if 0<tn a b p then 1 else 0:=by
 unfold we
 by_cases h:0<tn a b p
 rw[SU ⟨h1,h2,h⟩,SU h]
 rw[SS (fun e=>h e.2.2),SS (fun e=>by grind),SS h]
def eo{a b p:P2}(h1:¬(a.2<=p.2/\p.2<b.2))(h2:¬(b.2<=p.2/\p.2<a.2)):we a b p=0:=by
 unfold we;rw[SS (fun e=>h1 ⟨e.1,e.2.1⟩),SS (fun e=>h2 ⟨e.1,e.2.1⟩)]
def iS(a b p:P2):we b a p = -we a b p:=by
 have h:=hZ a b p;unfold we
 by_cases h1:a.2<=p.2/\p.2<b.2/\0<tn a b p
 rw[SU h1,SS (fun e=>by grind),SU ⟨h1.1,h1.2.1,by grind⟩]
 by_cases h2:b.2<=p.2/\p.2<a.2/\tn a b p<0
 rw[SS h1,SU h2,SU ⟨h2.1,h2.2.1,by grind⟩]; rfl
 rw[SS h1,SS h2,SS (fun e=>h2 ⟨e.1,e.2.1,by grind⟩),SS (fun e=>h1 ⟨e.1,e.2.1,by grind⟩)]; rfl
def fz(p q v:P2):Int:=if p.2<v.2/\v.2<=q.2/\tn p q v<0 then 1 else 0
def jV{p q v:P2}(h:¬(p.2<v.2/\v.2<=q.2)):fz p q v=0:=SS fun e=>h ⟨e.1,e.2.1⟩
def rU{p q v:P2}(h1:p.2<v.2)(h2:v.2<=q.2):fz p q v=if tn p q v<0 then 1 else 0:=by
 unfold fz
 by_cases h:tn p q v<0
 rw[SU ⟨h1,h2,h⟩,SU h]
 rw[SS (fun e=>h e.2.2),SS h]
section
variable{a b p q:P2}
def OL(α β γ:Rat):tn p q b*af α β γ a-tn p q a*af α β γ b=tn a b p*af α β γ q-tn a b q*af α β γ p:=by
 unfold tn af; grind
def Io(h:Sep a b p q)(h1:0<=tn p q b)(h2:tn p q a<=0)(h3:0<=tn a b p)(h4:tn a b q<=0)(h5:0<tn a b p\/tn a b q<0\/0<tn p q b\/tn p q a<0):False:=by
 obtain⟨α,β,γ,g1,g2,g3,g4⟩:=h;have e:=OL (a:=a) (b:=b) (p:=p) (q:=q) α β γ;generalize af α β γ a=A at *;generalize af α β γ b=B at *;generalize af α β γ p=C at *;generalize af α β γ q=D at *;generalize tn p q b=Tb at *;generalize tn p q a=Ta at *;generalize tn a b p=Up at *;generalize tn a b q=Uq at *;have k1:0<=Tb*A:=cq h1 (by grind)
 have k2:0<=(-Ta)*B:=cq (by grind) (by grind)
 have k3:0<=Up*(-D):=cq h3 (by grind)
 have k4:0<=(-Uq)*(-C):=cq (by grind) (by grind)
 rcases h5 with h|h|h|h
 have:0<Up*(-D):=bz h (by grind)
 grind
 have:0<(-Uq)*(-C):=bz (by grind) (by grind)
 grind
 have:0<Tb*A:=bz h g1
 grind
 have:0<(-Ta)*B:=bz (by grind) g2
 grind
def Ck(h:Sep a b p q)(h1:tn p q b<=0)(h2:0<=tn p q a)(h3:tn a b p<=0)(h4:0<=tn a b q)(h5:tn a b p<0\/0<tn a b q\/tn p q b<0\/0<tn p q a):False:=by
 have e1:=hZ a b p;have e2:=hZ a b q;exact Io h.ab (a:=b) (b:=a) h2 h1 (by grind) (by grind) (by grind)
def i1:(p.2-a.2)*tn p q b+(b.2-p.2)*tn p q a = -((q.2-p.2)*tn a b p):=by unfold tn; grind
def i2:(b.2-p.2)*tn a b q+(q.2-b.2)*tn a b p = -((b.2-a.2)*tn p q b):=by unfold tn; grind
def i3:(q.2-a.2)*tn p q b+(b.2-q.2)*tn p q a = -((q.2-p.2)*tn a b q):=by unfold tn; grind
def i4:(a.2-p.2)*tn a b q+(q.2-a.2)*tn a b p = -((b.2-a.2)*tn p q a):=by unfold tn; grind
def i5:tn a b q-tn a b p=tn p q a-tn p q b:=by unfold tn; grind
def Na(h:Sep a b p q)(h1:a.2<=p.2)(h2:p.2<b.2)(h3:b.2<=q.2):0<tn a b p↔tn p q b<0:=by
 have e1:=i1 (a:=a) (b:=b) (p:=p) (q:=q);have e2:=i2 (a:=a) (b:=b) (p:=p) (q:=q);have K:=Io h;have K':=Ck h;clear h;generalize tn p q b=Tb at *;generalize tn p q a=Ta at *;generalize tn a b p=Up at *;generalize tn a b q=Uq at *;have d1:0<=p.2-a.2:=by grind
 have d2:0<b.2-p.2:=by grind
 have d3:0<q.2-p.2:=by grind
 have d4:0<=q.2-b.2:=by grind
 have d5:0<b.2-a.2:=by grind
 generalize p.2-a.2=x1 at *;generalize b.2-p.2=x2 at *;generalize q.2-p.2=x3 at *;generalize q.2-b.2=x4 at *;generalize b.2-a.2=x5 at *;constructor
 intro hu;refine SV fun ht=>?_;have ht:0<=Tb:=by grind
 have m1:=cq d1 ht;have m2:=bz d3 hu;have ta:Ta<=0:=by
  refine SV fun hc=>?_;have:=bz d2 (show 0<Ta by grind)
  grind
 have uq:Uq<=0:=by
  refine SV fun hc=>?_;have m3:=bz d2 (show 0<Uq by grind)
  have m4:=cq d4 (show 0<=Up by grind)
  have m5:=cq (show 0<=x5 by grind) ht
  grind
 exact K ht ta (by grind) uq (.inl hu)
 intro ht;refine SV fun hu=>?_;have hu:Up<=0:=by grind
 have m1:=dm d1 (show Tb<=0 by grind)
 have m2:=dm (show 0<=x3 by grind) hu
 have ta:0<=Ta:=by
  refine SV fun hc=>?_;have:=fV d2 (show Ta<0 by grind)
  grind
 have uq:0<=Uq:=by
  refine SV fun hc=>?_;have m3:=fV d2 (show Uq<0 by grind)
  have m4:=dm d4 hu;have m5:=fV d5 ht
  grind
 exact K' (by grind) ta hu uq (.inr (.inr (.inl ht)))
def Nl(h:Sep a b p q)(h1:p.2<a.2)(h2:a.2<=q.2)(h3:q.2<b.2):0<tn a b q↔tn p q a<0:=by
 have e3:=i3 (a:=a) (b:=b) (p:=p) (q:=q);have e4:=i4 (a:=a) (b:=b) (p:=p) (q:=q);have K:=Io h;have K':=Ck h;clear h;generalize tn p q b=Tb at *;generalize tn p q a=Ta at *;generalize tn a b p=Up at *;generalize tn a b q=Uq at *;have d1:0<=q.2-a.2:=by grind
 have d2:0<b.2-q.2:=by grind
 have d3:0<q.2-p.2:=by grind
 have d4:0<a.2-p.2:=by grind
 have d5:0<b.2-a.2:=by grind
 generalize q.2-a.2=x1 at *;generalize b.2-q.2=x2 at *;generalize q.2-p.2=x3 at *;generalize a.2-p.2=x4 at *;generalize b.2-a.2=x5 at *;constructor
 intro hu;refine SV fun ht=>?_;have ht:0<=Ta:=by grind
 have m1:=cq (show 0<=x2 by grind) ht
 have m2:=bz d3 hu;have tb:Tb<=0:=by
  refine SV fun hc=>?_;have:=cq d1 (show 0<=Tb by grind)
  grind
 have up:Up<=0:=by
  refine SV fun hc=>?_;have m3:=bz d4 hu;have m4:=cq d1 (show 0<=Up by grind)
  have m5:=cq (show 0<=x5 by grind) ht
  grind
 exact K' tb ht up (by grind) (.inr (.inl hu))
 intro ht;refine SV fun hu=>?_;have hu:Uq<=0:=by grind
 have m2:=dm (show 0<=x3 by grind) hu
 have m1:=fV d2 ht;have tb:0<=Tb:=by
  refine SV fun hc=>?_;have:=dm d1 (show Tb<=0 by grind)
  grind
 have up:0<=Up:=by
  refine SV fun hc=>?_;have m3:=dm (show 0<=x4 by grind) hu
  have m4:=dm d1 (show Up<=0 by grind)
  have m5:=fV d5 ht
  grind
 exact K tb (by grind) up hu (.inr (.inr (.inr ht)))
def P8(h:Sep a b p q)(h1:a.2<=p.2)(h2:p.2<=q.2)(h3:q.2<b.2):0<tn a b p↔0<tn a b q:=by
 have e1:=i1 (a:=a) (b:=b) (p:=p) (q:=q);have e3:=i3 (a:=a) (b:=b) (p:=p) (q:=q);have e5:=i5 (a:=a) (b:=b) (p:=p) (q:=q);have K:=Io h;have K':=Ck h;clear h;generalize tn p q b=Tb at *;generalize tn p q a=Ta at *;generalize tn a b p=Up at *;generalize tn a b q=Uq at *;have d1:0<=p.2-a.2:=by grind
 have d2:0<b.2-p.2:=by grind
 have d3:0<=q.2-p.2:=by grind
 have d4:0<=q.2-a.2:=by grind
 have d5:0<b.2-q.2:=by grind
 generalize p.2-a.2=x1 at *;generalize b.2-p.2=x2 at *;generalize q.2-p.2=x3 at *;generalize q.2-a.2=x4 at *;generalize b.2-q.2=x5 at *;constructor
 intro hu;refine SV fun hc=>?_;have hc:Uq<=0:=by grind
 have ta:Ta<=0:=by
  refine SV fun ht=>?_;have m1:=cq d1 (show 0<=Tb by grind)
  have m2:=bz d2 (show 0<Ta by grind)
  have m3:=cq d3 (show 0<=Up by grind)
  grind
 have tb:0<=Tb:=by
  refine SV fun ht=>?_;have m1:=dm d4 (show Tb<=0 by grind)
  have m2:=fV d5 (show Ta<0 by grind)
  have m3:=dm d3 hc
  grind
 exact K tb ta (by grind) hc (.inl hu)
 intro hu;refine SV fun hc=>?_;have hc:Up<=0:=by grind
 have ta:0<=Ta:=by
  refine SV fun ht=>?_;have m1:=dm d1 (show Tb<=0 by grind)
  have m2:=fV d2 (show Ta<0 by grind)
  have m3:=dm d3 hc
  grind
 have tb:Tb<=0:=by
  refine SV fun ht=>?_;have m1:=cq d4 (show 0<=Tb by grind)
  have m2:=bz d5 (show 0<Ta by grind)
  have m3:=cq d3 (show 0<=Uq by grind)
  grind
 exact K' tb ta hc (by grind) (.inr (.inl hu))
def J7(h:Sep a b p q)(h0:a.2<=b.2)(h1:p.2<a.2)(h2:b.2<=q.2):tn p q a<0↔tn p q b<0:=by
 have e2:=i2 (a:=a) (b:=b) (p:=p) (q:=q);have e4:=i4 (a:=a) (b:=b) (p:=p) (q:=q);have e5:=i5 (a:=a) (b:=b) (p:=p) (q:=q);have K:=Io h;have K':=Ck h;clear h;generalize tn p q b=Tb at *;generalize tn p q a=Ta at *;generalize tn a b p=Up at *;generalize tn a b q=Uq at *;have d1:0<b.2-p.2:=by grind
 have d2:0<=q.2-b.2:=by grind
 have d3:0<=b.2-a.2:=by grind
 have d4:0<a.2-p.2:=by grind
 have d5:0<=q.2-a.2:=by grind
 generalize b.2-p.2=x1 at *;generalize q.2-b.2=x2 at *;generalize b.2-a.2=x3 at *;generalize a.2-p.2=x4 at *;generalize q.2-a.2=x5 at *;constructor
 intro ha;refine SV fun hb=>?_;have hb:0<=Tb:=by grind
 have uq:Uq<=0:=by
  refine SV fun hc=>?_;have m1:=bz d1 (show 0<Uq by grind)
  have m2:=cq d2 (show 0<=Up by grind)
  have m3:=cq d3 hb
  grind
 have up:0<=Up:=by
  refine SV fun hc=>?_;have m1:=fV d4 (show Uq<0 by grind)
  have m2:=dm d5 (show Up<=0 by grind)
  have m3:=dm d3 (show Ta<=0 by grind)
  grind
 exact K hb (by grind) up uq (.inr (.inr (.inr ha)))
 intro hb;refine SV fun ha=>?_;have ha:0<=Ta:=by grind
 have uq:0<=Uq:=by
  refine SV fun hc=>?_;have m1:=fV d1 (show Uq<0 by grind)
  have m2:=dm d2 (show Up<=0 by grind)
  have m3:=dm d3 (show Tb<=0 by grind)
  grind
 have up:Up<=0:=by
  refine SV fun hc=>?_;have m1:=bz d4 (show 0<Uq by grind)
  have m2:=cq d5 (show 0<=Up by grind)
  have m3:=cq d3 ha
  grind
 exact K' (by grind) ha up uq (.inr (.inr (.inl hb)))
def jP{c d:Prop}[Decidable c][Decidable d](h:c↔d):(if c then(1:Int) else 0)=if d then 1 else 0:=by
 by_cases hc:c
 rw[SU hc,SU (h.1 hc)]
 rw[SS hc,SS (fun e=>hc (h.2 e))]
def Hc(h:Sep a b p q)(hpq:p.2<=q.2)(hab:a.2<=b.2):we a b p-we a b q=fz p q b-fz p q a:=by
 by_cases ha:a.2<=p.2
 rw[jV (v:=a) (by grind)]
 by_cases hb:b.2<=p.2
 rw[jV (v:=b) (by grind),eo (by grind) (by grind),eo (by grind) (by grind)]
 by_cases hb2:b.2<=q.2
 rw[rU (by grind) hb2,gH ha (by grind),eo (p:=q) (by grind) (by grind),jP (Na h ha (by grind) hb2)]
 rw[jV (v:=b) (by grind),gH ha (by grind),gH (p:=q) (by grind) (by grind),jP (P8 h ha hpq (by grind))]
 omega
 rw[eo (p:=p) (by grind) (by grind)]
 by_cases ha2:a.2<=q.2
 rw[rU (v:=a) (by grind) ha2]
 by_cases hb2:b.2<=q.2
 rw[rU (v:=b) (by grind) hb2,eo (p:=q) (by grind) (by grind),jP (J7 h hab (by grind) hb2)]
 omega
 rw[jV (v:=b) (by grind),gH (p:=q) ha2 (by grind),jP (Nl h (by grind) ha2 (by grind))]
 rw[jV (v:=a) (by grind),jV (v:=b) (by grind),eo (p:=q) (by grind) (by grind)]
def HV(h:Sep a b p q)(hpq:p.2<=q.2):we a b p-we a b q=fz p q b-fz p q a:=by
 by_cases hab:a.2<=b.2
 exact Hc h hpq hab
 have:=Hc h.ab hpq (by grind)
 rw[iS b a p,iS b a q];omega
end
def bD:Nat->(Nat->Int)->Int
 | 0,_=>0
 | n+1,f=>bD n f+f n
def aX{n:Nat}{f g:Nat->Int}(h:∀i,i<n->f i=g i):bD n f=bD n g:=by
 induction n with
 | zero=>rfl
 | succ n ih=>simp only[bD]; rw[ih fun i hi=>h i (by omega),h n (by omega)]
def kh(n:Nat)(f g:Nat->Int):bD n (fun i=>f i-g i)=bD n f-bD n g:=by
 induction n with
 | zero=>rfl
 | succ n ih=>simp only[bD]; rw[ih]; omega
def sj(n:Nat)(f:Nat->Int):bD n (fun i=>f (i+1)-f i)=f n-f 0:=by
 induction n with
 | zero=>simp[bD]
 | succ n ih=>simp only[bD]; rw[ih]; omega
def cB{n:Nat}{f:Nat->Int}(h:∀i,i<n->f i=0):bD n f=0:=by
 induction n with
 | zero=>rfl
 | succ n ih=>simp only[bD]; rw[ih fun i hi=>h i (by omega),h n (by omega)]; rfl
def pg{n k:Nat}{f:Nat->Int}(hk:k<n)(h:∀i,i<n->i≠k->f i=0):bD n f=f k:=by
 induction n with
 | zero=>omega
 | succ n ih =>
  simp only[bD]
  by_cases e:k=n
  subst e;rw[cB fun i hi=>h i (by omega) (by omega)]; omega
  rw[ih (by omega) (fun i hi hn=>h i (by omega) hn),h n (by omega) (by omega)]; omega
def cv(u w:P2)(t:Rat):P2:=(u.1+t*(w.1-u.1),u.2+t*(w.2-u.2))
def sm(p d:P2)(x:Rat):P2:=(p.1+x*d.1,p.2+x*d.2)
def cr(u w d:P2):Rat:=(w.1-u.1)*d.2-(w.2-u.2)*d.1
def dt(u w x:P2):Rat:=(w.1-u.1)*(x.1-w.1)+(w.2-u.2)*(x.2-w.2)
def fH{A B:Rat}(ha:0<A)(hb:0<B):∃k:Rat,0<k/\k<A/\k<B:=by
 by_cases h:A<=B
 exact⟨A/2,by grind,by grind,by grind⟩
 exact⟨B/2,by grind,by grind,by grind⟩
def oB{a b p q:P2}(α β γ:Rat)(h1:0<=af α β γ a)(h2:0<=af α β γ b)(h3:af α β γ p<0)(h4:af α β γ q<0):Sep a b p q:=by
 obtain⟨k,k1,k2,k3⟩:=fH (show 0 < -af α β γ p by grind) (show 0 < -af α β γ q by grind)
 refine⟨α,β,γ+k,?_,?_,?_,?_⟩<;>(unfold af at *; grind)
def Kh{a b u w:P2}(h:Sep a b u w){t s:Rat}(t0:0<=t)(t1:t<=1)(s0:0<=s)(s1:s<=1):Sep a b (cv u w t) (cv u w s):=by
 obtain⟨α,β,γ,h1,h2,h3,h4⟩:=h;have key:∀t:Rat,0<=t->t<=1->af α β γ (cv u w t)<0:=by
  intro t t0 t1;have e:af α β γ (cv u w t)=(1-t)*af α β γ u+t*af α β γ w:=by unfold af cv; grind
  rw[e];have m1:=dm (show 0<=1-t by grind) (show af α β γ u<=0 by grind)
  have m2:=dm t0 (show af α β γ w<=0 by grind)
  by_cases ht:0<t
  have:=fV ht h4
  grind
  have:=fV (show 0<1-t by grind) h3
  grind
 exact⟨α,β,γ,h1,h2,key t t0 t1,key s s0 s1⟩
def sq_pos{x:Rat}(h:x≠0):0<x*x:=by
 by_cases hx:0<x
 exact bz hx hx
 have:=bz (show 0 < -x by grind) (show 0 < -x by grind)
 grind
def Dn(x:Rat):0<=x*x:=by
 by_cases hx:0<=x
 exact cq hx hx
 have:=cq (show 0<=-x by grind) (show 0<=-x by grind)
 grind
def yk{u w:P2}(h:u≠w):0<(w.1-u.1)*(w.1-u.1)+(w.2-u.2)*(w.2-u.2):=by
 have n1:=Dn (w.1-u.1);have n2:=Dn (w.2-u.2)
 by_cases h1:w.1-u.1=0
 have h2:w.2-u.2≠0:=fun e=>h (TZ (by grind) (by grind))
 have:=sq_pos h2
 grind
 have:=sq_pos h1
 grind
def GM{u w x:P2}(hne:u≠w)(hc:tn u w x≠0\/0<dt u w x){t s:Rat}(t1:t<1)(s1:s<1):Sep w x (cv u w t) (cv u w s):=by
 have e:∀t:Rat,af (-(x.2-w.2)) (x.1-w.1) ((x.2-w.2)*w.1-(x.1-w.1)*w.2) (cv u w t)=(1-t)*tn u w x:=fun t=>by unfold af cv tn; grind
 have f:∀t:Rat,af (x.2-w.2) (-(x.1-w.1)) (-((x.2-w.2)*w.1-(x.1-w.1)*w.2)) (cv u w t) = -((1-t)*tn u w x):=fun t=>by unfold af cv tn; grind
 have g:∀t:Rat,af (w.1-u.1) (w.2-u.2) (-((w.1-u.1)*w.1+(w.2-u.2)*w.2)) (cv u w t) = -((1-t)*((w.1-u.1)*(w.1-u.1)+(w.2-u.2)*(w.2-u.2))):=fun t=>by unfold af cv; grind
 by_cases h0:tn u w x=0
 have hd:0<dt u w x:=hc.resolve_left fun h=>h h0;have hl:=yk hne;refine oB (w.1-u.1) (w.2-u.2) (-((w.1-u.1)*w.1+(w.2-u.2)*w.2)) ?_ ?_ ?_ ?_
 unfold af; grind
 unfold dt at hd; unfold af; grind
 rw[g]; have:=bz (show 0<1-t by grind) hl; grind
 rw[g]; have:=bz (show 0<1-s by grind) hl; grind
 by_cases hp:0<tn u w x
 refine oB (x.2-w.2) (-(x.1-w.1)) (-((x.2-w.2)*w.1-(x.1-w.1)*w.2)) ?_ ?_ ?_ ?_
 unfold af; grind
 unfold af; grind
 rw[f]; have:=bz (show 0<1-t by grind) hp; grind
 rw[f]; have:=bz (show 0<1-s by grind) hp; grind
 have hm:tn u w x<0:=by grind
 refine oB (-(x.2-w.2)) (x.1-w.1) ((x.2-w.2)*w.1-(x.1-w.1)*w.2) ?_ ?_ ?_ ?_
 unfold af; grind
 unfold af; grind
 rw[e]; exact fV (show 0<1-t by grind) hm
 rw[e]; exact fV (show 0<1-s by grind) hm
def H8{x u w:P2}(hc:tn x u w≠0\/0<dt x u w){t s:Rat}(t0:0<t)(s0:0<s):Sep x u (cv u w t) (cv u w s):=by
 have e:∀t:Rat,af (-(u.2-x.2)) (u.1-x.1) ((u.2-x.2)*x.1-(u.1-x.1)*x.2) (cv u w t)=t*tn x u w:=fun t=>by unfold af cv tn; grind
 have f:∀t:Rat,af (u.2-x.2) (-(u.1-x.1)) (-((u.2-x.2)*x.1-(u.1-x.1)*x.2)) (cv u w t) = -(t*tn x u w):=fun t=>by unfold af cv tn; grind
 have g:∀t:Rat,af (-(u.1-x.1)) (-(u.2-x.2)) ((u.1-x.1)*u.1+(u.2-x.2)*u.2) (cv u w t) = -(t*dt x u w):=fun t=>by unfold af cv dt; grind
 by_cases h0:tn x u w=0
 have hd:0<dt x u w:=hc.resolve_left fun h=>h h0;have n1:=Dn (u.1-x.1);have n2:=Dn (u.2-x.2);refine oB (-(u.1-x.1)) (-(u.2-x.2)) ((u.1-x.1)*u.1+(u.2-x.2)*u.2) ?_ ?_ ?_ ?_
 unfold af; grind
 unfold af; grind
 rw[g]; have:=bz t0 hd; grind
 rw[g]; have:=bz s0 hd; grind
 by_cases hp:0<tn x u w
 refine oB (u.2-x.2) (-(u.1-x.1)) (-((u.2-x.2)*x.1-(u.1-x.1)*x.2)) ?_ ?_ ?_ ?_
 unfold af; grind
 unfold af; grind
 rw[f]; have:=bz t0 hp; grind
 rw[f]; have:=bz s0 hp; grind
 have hm:tn x u w<0:=by grind
 refine oB (-(u.2-x.2)) (u.1-x.1) ((u.2-x.2)*x.1-(u.1-x.1)*x.2) ?_ ?_ ?_ ?_
 unfold af; grind
 unfold af; grind
 rw[e]; exact fV t0 hm
 rw[e]; exact fV s0 hm
def Ev(P:Rat->Rat->Prop):Prop:=∃e:Rat,0<e/\∀x y,0<x->x<=e->0<y->y<=e->P x y
def Ev.and{P Q:Rat->Rat->Prop}(h:Ev P)(g:Ev Q):Ev fun x y=>P x y/\Q x y:=by
 obtain⟨e,e0,h⟩:=h;obtain⟨f,f0,g⟩:=g
 by_cases hl:e<=f
 exact⟨e,e0,fun x y a b c d=>⟨h x y a b c d,g x y a (by grind) c (by grind)⟩⟩
 exact⟨f,f0,fun x y a b c d=>⟨h x y a (by grind) c (by grind),g x y a b c d⟩⟩
def Ev.mono{P Q:Rat->Rat->Prop}(h:Ev P)(g:∀x y,0<x->0<y->P x y->Q x y):Ev Q :=
 let⟨e,e0,h⟩:=h
 ⟨e,e0,fun x y a b c d=>g x y a c (h x y a b c d)⟩
def Ev.of{P:Rat->Rat->Prop}(h:∀x y,0<x->0<y->P x y):Ev P:=⟨1,by grind,fun x y a _ c _=>h x y a c⟩
def Ev.all{P:Nat->Rat->Rat->Prop}:∀{n:Nat},(∀i,i<n->Ev (P i))->Ev fun x y=>∀i,i<n->P i x y
 | 0,_=>Ev.of fun _ _ _ _ i hi=>by omega
 | n+1,h=>by
  have h1:=Ev.all (P:=P) (n:=n) fun i hi=>h i (by omega)
  refine(h1.and (h n (by omega))).mono fun x y _ _ g i hi=>?_
  by_cases e:i=n
  subst e; exact g.2
  exact g.1 i (by omega)
def qv{A:Rat}(h:A<0)(B:Rat):∃e:Rat,0<e/\∀x,0<x->x<=e->A+x*B<0:=by
 by_cases hb:B<=0
 exact⟨1,by grind,fun x hx _=>by have:=dm (show 0<=x by grind) hb; grind⟩
 have hb0:B≠0:=by grind
 have hi:B*B⁻¹=1:=Rat.mul_inv_cancel B hb0;have e1:(-A/2*B⁻¹)*B = -A/2:=by grind
 have hpos:0 < -A/2*B⁻¹:=by
  refine SV fun hc=>?_;have:=cq (show 0<=-(-A/2*B⁻¹) by grind) (show 0<=B by grind)
  grind
 refine⟨-A/2*B⁻¹,hpos,fun x hx hl=>?_⟩;have:=cq (show 0<=-A/2*B⁻¹-x by grind) (show 0<=B by grind)
 grind
def xQ{a b p q:P2}(h:Sep a b p q)(d d':P2):Ev fun x y=>Sep a b (sm p d x) (sm q d' y):=by
 obtain⟨α,β,γ,h1,h2,h3,h4⟩:=h;obtain⟨e,e0,he⟩:=qv h3 (α*d.1+β*d.2);obtain⟨f,f0,hf⟩:=qv h4 (α*d'.1+β*d'.2);have k1:∀x,af α β γ (sm p d x)=af α β γ p+x*(α*d.1+β*d.2):=fun x=>by unfold af sm; grind
 have k2:∀x,af α β γ (sm q d' x)=af α β γ q+x*(α*d'.1+β*d'.2):=fun x=>by unfold af sm; grind
 obtain⟨g,g0,ge,gf⟩:=fH e0 f0;exact⟨g,g0,fun x y x0 xg y0 yg=>⟨α,β,γ,h1,h2,by rw[k1]; exact he x x0 (by grind),by rw[k2]; exact hf y y0 (by grind)⟩⟩
structure Simple(n:Nat)(v:Nat->P2):Prop where
 n3:2<n
 cl:v n=v 0
 cl1:v (n+1)=v 1
 ne:∀i,i<n->v i≠v (i+1)
 az:∀i,i<n->tn (v i) (v (i+1)) (v (i+2))≠0\/0<dt (v i) (v (i+1)) (v (i+2))
 sep:∀i j,i<n->j<n->i≠j->j≠i+1->i≠j+1->¬(i=0/\j+1=n)->¬(j=0/\i+1=n)->Sep (v i) (v (i+1)) (v j) (v (j+1))
def W(n:Nat)(v:Nat->P2)(p:P2):Int:=bD n fun i=>we (v i) (v (i+1)) p
section
variable{n:Nat}{v:Nat->P2}
def Bn(hv:v n=v 0)(p q:P2):W n v p-W n v q=bD n fun i=>(we (v i) (v (i+1)) p-we (v i) (v (i+1)) q)-(fz p q (v (i+1))-fz p q (v i)):=by
 have h1:=kh n (fun i=>we (v i) (v (i+1)) p-we (v i) (v (i+1)) q) (fun i=>fz p q (v (i+1))-fz p q (v i));have h2:=sj n fun i=>fz p q (v i);have h3:=kh n (fun i=>we (v i) (v (i+1)) p) fun i=>we (v i) (v (i+1)) q;rw[hv] at h2;rw[h1,h2,h3];unfold W; omega
def B0(hv:v n=v 0){p q:P2}(h:∀i,i<n->Sep (v i) (v (i+1)) p q):W n v p=W n v q:=by
 by_cases hl:p.2<=q.2
 have:=Bn hv p q;rw[cB fun i hi=>by rw[HV (h i hi) hl]; omega] at this
 omega
 have:=Bn hv q p;rw[cB fun i hi=>by rw[HV (h i hi).pq (by grind)]; omega] at this
 omega
def C2(hv:v n=v 0){k:Nat}(hk:k<n){p q:P2}(hl:p.2<=q.2)(h:∀i,i<n->i≠k->Sep (v i) (v (i+1)) p q) :
  W n v p-W n v q=(we (v k) (v (k+1)) p-we (v k) (v (k+1)) q)-(fz p q (v (k+1))-fz p q (v k)):=by
 rw[Bn hv p q];exact pg hk fun i hi hn=>by rw[HV (h i hi hn) hl]; omega
def Simple.off(S:Simple n v){i j:Nat}(hi:i<n)(hj:j<n)(hij:i≠j){t s:Rat}(t0:0<=t)(t1:t<=1)(s0:0<=s)(s1:s<=1)
  (hn:j=i+1\/(i+1=n/\j=0)->t<1/\s<1) (hp:i=j+1\/(j+1=n/\i=0)->0<t/\0<s):Sep (v j) (v (j+1)) (cv (v i) (v (i+1)) t) (cv (v i) (v (i+1)) s):=by
 have hn3:=S.n3
 by_cases h1:j=i+1\/(i+1=n/\j=0)
 obtain⟨a,b⟩:=hn h1;have e:v j=v (i+1)/\v (j+1)=v (i+2):=by
  rcases h1 with rfl|⟨h,rfl⟩
  exact⟨rfl,rfl⟩
  have:i+2=n+1:=by omega
  rw[this,S.cl1,h,S.cl]; exact⟨rfl,rfl⟩
 rw[e.1,e.2];exact GM (S.ne i hi) (S.az i hi) a b
 by_cases h2:i=j+1\/(j+1=n/\i=0)
 obtain⟨a,b⟩:=hp h2;have e:v (j+1)=v i/\v (j+2)=v (i+1):=by
  rcases h2 with rfl|⟨h,rfl⟩
  exact⟨rfl,rfl⟩
  have:j+2=n+1:=by omega
  rw[this,S.cl1,h,S.cl]; exact⟨rfl,rfl⟩
 have:=S.az j hj;rw[e.1,e.2] at this;rw[e.1];exact H8 this a b
 exact Kh (S.sep j i hj hi (by omega) (by omega) (by omega) (by omega) (by omega)) t0 t1 s0 s1
def oq(u w d:P2)(t x:Rat):tn u w (sm (cv u w t) d x)=x*cr u w d:=by unfold tn sm cv cr; grind
def gB{u w p q:P2}{σ:Rat}(h1:0 < σ*tn u w p)(h2:0 < σ*tn u w q):Sep u w p q:=by
 refine oB (σ*(w.2-u.2)) (-(σ*(w.1-u.1))) (-(σ*((w.2-u.2)*u.1-(w.1-u.1)*u.2))) ?_ ?_ ?_ ?_
 unfold af; grind
 unfold af; grind
 unfold tn at h1; unfold af; grind
 unfold tn at h2; unfold af; grind
def Simple.beside(S:Simple n v){σ:Rat}{i:Nat}(hi:i<n){t s:Rat}(t0:0<t)(t1:t<1)(s0:0<s)(s1:s<1){d d':P2}(h:0 < σ*cr (v i) (v (i+1)) d)(h':0 < σ*cr (v i) (v (i+1)) d') :
  Ev fun x y=>W n v (sm (cv (v i) (v (i+1)) t) d x)=W n v (sm (cv (v i) (v (i+1)) s) d' y):=by
 have hE:Ev fun x y=>∀j,j<n->Sep (v j) (v (j+1)) (sm (cv (v i) (v (i+1)) t) d x) (sm (cv (v i) (v (i+1)) s) d' y):=by
  refine Ev.all fun j hj=>?_
  by_cases e:i=j
  subst e;refine Ev.of fun x y hx hy=>gB (σ:=σ) ?_ ?_
  rw[oq]; have:=bz hx h; grind
  rw[oq]; have:=bz hy h'; grind
  exact xQ (S.off hi hj e (by grind) (by grind) (by grind) (by grind) (fun _=>⟨t1,s1⟩) (fun _=>⟨t0,s0⟩)) d d'
 exact hE.mono fun x y _ _ h=>B0 S.cl h
def HS(n:Nat)(v:Nat->P2)(σ:Rat)(i:Nat)(L:Int):Prop:=∀t d,0<t->t<1->0 < σ*cr (v i) (v (i+1)) d->∃e:Rat,0<e/\∀x,0<x->x<=e->W n v (sm (cv (v i) (v (i+1)) t) d x)=L
def Simple.hs(S:Simple n v){σ:Rat}(hσ:σ≠0){i:Nat}(hi:i<n):∃L,HS n v σ i L:=by
 have hl:=yk (S.ne i hi)
 let d0:P2:=(-(σ*((v (i+1)).2-(v i).2)),σ*((v (i+1)).1-(v i).1))
 have h0:0 < σ*cr (v i) (v (i+1)) d0:=by
  have:=bz (sq_pos hσ) hl;have e:σ*cr (v i) (v (i+1)) d0=σ*σ*(((v (i+1)).1-(v i).1)*((v (i+1)).1-(v i).1)+((v (i+1)).2-(v i).2)*((v (i+1)).2-(v i).2)):=by
   show σ*(((v (i+1)).1-(v i).1)*(σ*((v (i+1)).1-(v i).1))-((v (i+1)).2-(v i).2)*(-(σ*((v (i+1)).2-(v i).2))))=_
   grind
  rw[e]; exact this
 obtain⟨e,e0,he⟩:=S.beside (σ:=σ) hi (t:=1/2) (s:=1/2) (by grind) (by grind) (by grind) (by grind) h0 h0
 refine⟨W n v (sm (cv (v i) (v (i+1)) (1/2)) d0 e),fun t d t0 t1 hd=>?_⟩;obtain⟨f,f0,hf⟩:=S.beside (σ:=σ) hi (t:=t) (s:=1/2) t0 t1 (by grind) (by grind) hd h0
 obtain⟨g,g0,ge,gf⟩:=fH e0 f0;refine⟨f,f0,fun x x0 x1=>?_⟩;rw[hf x g x0 x1 g0 (by grind),he g e g0 (by grind) e0 (by grind)]
def Simple.FG(S:Simple n v){i:Nat}(hi:i<n){L R:Int}(hL:HS n v 1 i L)(hR:HS n v (-1) i R):L=R+1:=by
 have hne:=S.ne i hi;have eoff:∀d d':P2,Ev fun x y=>∀j,j<n->j≠i->Sep (v j) (v (j+1)) (sm (cv (v i) (v (i+1)) (1/2)) d x) (sm (cv (v i) (v (i+1)) (1/2)) d' y):=fun d d' =>
  Ev.all (P:=fun j x y=>j≠i->Sep (v j) (v (j+1)) (sm (cv (v i) (v (i+1)) (1/2)) d x) (sm (cv (v i) (v (i+1)) (1/2)) d' y)) fun j hj=>by
   by_cases e:j=i
   exact Ev.of fun _ _ _ _ h=>Tj e h
   exact(xQ (S.off hi hj (Ne.symm e) (t:=1/2) (s:=1/2) (by grind) (by grind) (by grind) (by grind) (fun _=>⟨by grind,by grind⟩) (fun _=>⟨by grind,by grind⟩)) d d').mono fun x y _ _ h _=>h
 have pick:∀d d':P2,0<cr (v i) (v (i+1)) d->0 < -cr (v i) (v (i+1)) d'->∃x:Rat,0<x/\W n v (sm (cv (v i) (v (i+1)) (1/2)) d x)=L/\W n v (sm (cv (v i) (v (i+1)) (1/2)) d' x)=R /\
   (∀j,j<n->j≠i->Sep (v j) (v (j+1)) (sm (cv (v i) (v (i+1)) (1/2)) d x) (sm (cv (v i) (v (i+1)) (1/2)) d' x))/\∀B:Rat,B<0->True:=by
  intro d d' hd hd';obtain⟨e,e0,he⟩:=hL (1/2) d (by grind) (by grind) (by grind)
  obtain⟨f,f0,hf⟩:=hR (1/2) d' (by grind) (by grind) (by grind)
  obtain⟨g,g0,hg⟩:=eoff d d';obtain⟨k,k0,ke,kf⟩:=fH e0 f0;obtain⟨m,m0,mk,mg⟩:=fH k0 g0;exact⟨m,m0,he m m0 (by grind),hf m m0 (by grind),hg m m m0 (by grind) m0 (by grind),fun _ _=>trivial⟩
 generalize hu:v i=u at *;generalize hw:v (i+1)=w at *
 by_cases h0:w.2=u.2
 
 have h1:w.1≠u.1:=fun e=>hne (TZ e.symm h0.symm)
 by_cases hp:u.1<w.1
 obtain⟨x,x0,xL,xR,xs,_⟩:=pick (0,1) (0,-1) (by unfold cr; grind) (by unfold cr; grind)
 have k:=C2 S.cl hi (p:=sm (cv u w (1/2)) (0,-1) x) (q:=sm (cv u w (1/2)) (0,1) x) (by unfold sm; grind) fun j hj hn=>(xs j hj hn).pq
 rw[hu,hw,eo (by unfold sm cv; grind) (by unfold sm cv; grind),eo (by unfold sm cv; grind) (by unfold sm cv; grind),rU (v:=w) (by unfold sm cv; grind) (by unfold sm cv; grind),rU (v:=u) (by unfold sm cv; grind) (by unfold sm cv; grind)] at k
 have t1:tn (sm (cv u w (1/2)) (0,-1) x) (sm (cv u w (1/2)) (0,1) x) w = -(x*(w.1-u.1)):=by unfold tn sm cv; grind
 have t2:tn (sm (cv u w (1/2)) (0,-1) x) (sm (cv u w (1/2)) (0,1) x) u=x*(w.1-u.1):=by unfold tn sm cv; grind
 have m:=bz x0 (show 0<w.1-u.1 by grind)
 rw[t1,t2,SU (by grind),SS (by grind),xL,xR] at k
 omega
 obtain⟨x,x0,xL,xR,xs,_⟩:=pick (0,-1) (0,1) (by unfold cr; grind) (by unfold cr; grind)
 have k:=C2 S.cl hi (p:=sm (cv u w (1/2)) (0,-1) x) (q:=sm (cv u w (1/2)) (0,1) x) (by unfold sm; grind) fun j hj hn=>xs j hj hn
 rw[hu,hw,eo (by unfold sm cv; grind) (by unfold sm cv; grind),eo (by unfold sm cv; grind) (by unfold sm cv; grind),rU (v:=w) (by unfold sm cv; grind) (by unfold sm cv; grind),rU (v:=u) (by unfold sm cv; grind) (by unfold sm cv; grind)] at k
 have t1:tn (sm (cv u w (1/2)) (0,-1) x) (sm (cv u w (1/2)) (0,1) x) w=x*(u.1-w.1):=by unfold tn sm cv; grind
 have t2:tn (sm (cv u w (1/2)) (0,-1) x) (sm (cv u w (1/2)) (0,1) x) u = -(x*(u.1-w.1)):=by unfold tn sm cv; grind
 have m:=bz x0 (show 0<u.1-w.1 by grind)
 rw[t1,t2,SS (by grind),SU (by grind),xL,xR] at k
 omega
 by_cases hp:u.2<w.2
 obtain⟨x,x0,xL,xR,xs,_⟩:=pick (-1,0) (1,0) (by unfold cr; grind) (by unfold cr; grind)
 have k:=C2 S.cl hi (p:=sm (cv u w (1/2)) (-1,0) x) (q:=sm (cv u w (1/2)) (1,0) x) (by unfold sm; grind) fun j hj hn=>xs j hj hn
 rw[jV (by unfold sm; grind),jV (by unfold sm; grind),hu,hw,gH (by unfold sm cv; grind) (by unfold sm cv; grind),gH (by unfold sm cv; grind) (by unfold sm cv; grind),oq,oq] at k
 have m:=bz x0 (show 0<w.2-u.2 by grind)
 rw[SU (by unfold cr; grind),SS (by unfold cr; grind),xL,xR] at k
 omega
 obtain⟨x,x0,xL,xR,xs,_⟩:=pick (1,0) (-1,0) (by unfold cr; grind) (by unfold cr; grind)
 have k:=C2 S.cl hi (p:=sm (cv u w (1/2)) (-1,0) x) (q:=sm (cv u w (1/2)) (1,0) x) (by unfold sm; grind) fun j hj hn=>(xs j hj hn).pq
 have e1:=iS w u (sm (cv u w (1/2)) (-1,0) x);have e2:=iS w u (sm (cv u w (1/2)) (1,0) x);rw[gH (a:=w) (b:=u) (by unfold sm cv; grind) (by unfold sm cv; grind),hZ u w,oq] at e1
 rw[gH (a:=w) (b:=u) (by unfold sm cv; grind) (by unfold sm cv; grind),hZ u w,oq] at e2
 have m:=bz x0 (show 0<u.2-w.2 by grind)
 rw[SU (by unfold cr; grind)] at e1
 rw[SS (by unfold cr; grind)] at e2
 rw[jV (by unfold sm; grind),jV (by unfold sm; grind),hu,hw,e1,e2,xL,xR] at k
 omega
def Simple.Bk(S:Simple n v){σ:Rat}{i:Nat}(hi:i+1<n){d:P2}(hd:0 < σ*cr (v i) (v (i+1)) d)(hd':0 < σ*cr (v (i+1)) (v (i+2)) d)(hs:0<=σ*tn (v i) (v (i+1)) (v (i+2)))
  {L L':Int} (h:HS n v σ i L) (h':HS n v σ (i+1) L'):L=L':=by
 have hn3:=S.n3;have e1:Ev fun x y=>∀j,j<n->Sep (v j) (v (j+1)) (sm (cv (v i) (v (i+1)) (1/2)) d x) (sm (cv (v i) (v (i+1)) 1) d y):=by
  refine Ev.all fun j hj=>?_
  by_cases e:i=j
  subst e;refine Ev.of fun x y hx hy=>gB (σ:=σ) ?_ ?_
  rw[oq]; have:=bz hx hd; grind
  rw[oq]; have:=bz hy hd; grind
  by_cases e':j=i+1
  subst e';refine Ev.of fun x y hx hy=>gB (σ:=σ) ?_ ?_
  have m1:=bz hx hd';have:σ*tn (v (i+1)) (v (i+1+1)) (sm (cv (v i) (v (i+1)) (1/2)) d x)=1/2*(σ*tn (v i) (v (i+1)) (v (i+2)))+x*(σ*cr (v (i+1)) (v (i+2)) d):=by
   unfold tn sm cv cr; grind
  rw[this]; grind
  have m1:=bz hy hd';have:σ*tn (v (i+1)) (v (i+1+1)) (sm (cv (v i) (v (i+1)) 1) d y)=y*(σ*cr (v (i+1)) (v (i+2)) d):=by
   unfold tn sm cv cr; grind
  rw[this]; exact m1
  exact xQ (S.off (by omega) hj e (by grind) (by grind) (by grind) (by grind) (fun h=>by omega) (fun _=>⟨by grind,by grind⟩)) d d
 have e2:Ev fun x y=>∀j,j<n->Sep (v j) (v (j+1)) (sm (cv (v (i+1)) (v (i+2)) (1/2)) d x) (sm (cv (v (i+1)) (v (i+2)) 0) d y):=by
  refine Ev.all fun j hj=>?_
  by_cases e:j=i+1
  subst e;refine Ev.of fun x y hx hy=>gB (σ:=σ) ?_ ?_
  rw[oq]; have:=bz hx hd'; grind
  rw[oq]; have:=bz hy hd'; grind
  by_cases e':j=i
  subst e';refine Ev.of fun x y hx hy=>gB (σ:=σ) ?_ ?_
  have m1:=bz hx hd;have:σ*tn (v j) (v (j+1)) (sm (cv (v (j+1)) (v (j+2)) (1/2)) d x)=1/2*(σ*tn (v j) (v (j+1)) (v (j+2)))+x*(σ*cr (v j) (v (j+1)) d):=by
   unfold tn sm cv cr; grind
  rw[this]; grind
  have m1:=bz hy hd;have:σ*tn (v j) (v (j+1)) (sm (cv (v (j+1)) (v (j+2)) 0) d y)=y*(σ*cr (v j) (v (j+1)) d):=by
   unfold tn sm cv cr; grind
  rw[this]; exact m1
  exact xQ (S.off (i:=i+1) hi hj (Ne.symm e) (by grind) (by grind) (by grind) (by grind) (fun _=>⟨by grind,by grind⟩) (fun h=>by omega)) d d
 obtain⟨a,a0,ha⟩:=e1;obtain⟨b,b0,hb⟩:=e2;obtain⟨f,f0,hf⟩:=h (1/2) d (by grind) (by grind) hd
 obtain⟨g,g0,hg⟩:=h' (1/2) d (by grind) (by grind) hd'
 obtain⟨k,k0,ka,kb⟩:=fH a0 b0;obtain⟨l,l0,lf,lg⟩:=fH f0 g0;obtain⟨x,x0,xk,xl⟩:=fH k0 l0;have w1:=B0 S.cl (ha x x x0 (by grind) x0 (by grind))
 have w2:=B0 S.cl (hb x x x0 (by grind) x0 (by grind))
 rw[hf x x0 (by grind)] at w1
 rw[hg x x0 (by grind)] at w2
 have e:cv (v i) (v (i+1)) 1=cv (v (i+1)) (v (i+2)) 0:=by unfold cv; exact TZ (by grind) (by grind)
 rw[w1,w2,e]
def Simple.step(S:Simple n v){i:Nat}(hi:i+1<n){L L':Int}(h:HS n v 1 i L)(h':HS n v 1 (i+1) L'):L=L':=by
 have hne:=S.ne i (by omega)
 have ht:=S.az i (by omega)
 have c1:cr (v i) (v (i+1)) ((v (i+2)).1-(v (i+1)).1-((v (i+1)).1-(v i).1),(v (i+2)).2-(v (i+1)).2-((v (i+1)).2-(v i).2))=tn (v i) (v (i+1)) (v (i+2)):=by unfold cr tn; grind
 have c2:cr (v (i+1)) (v (i+2)) ((v (i+2)).1-(v (i+1)).1-((v (i+1)).1-(v i).1),(v (i+2)).2-(v (i+1)).2-((v (i+1)).2-(v i).2))=tn (v i) (v (i+1)) (v (i+2)):=by unfold cr tn; grind
 by_cases h0:tn (v i) (v (i+1)) (v (i+2))=0
 have hd:0<dt (v i) (v (i+1)) (v (i+2)):=ht.resolve_left fun e=>e h0;have hl:=yk hne;refine S.Bk (σ:=1) hi (d:=(-((v (i+1)).2-(v i).2),(v (i+1)).1-(v i).1)) ?_ ?_ (by rw[h0]; grind) h h'
 unfold cr; grind
 unfold dt at hd; unfold cr; grind
 by_cases hp:0<tn (v i) (v (i+1)) (v (i+2))
 exact S.Bk (σ:=1) hi (by rw[c1]; grind) (by rw[c2]; grind) (by grind) h h'
 obtain⟨R,hR⟩:=S.hs (σ:=-1) (by grind) (i:=i) (by omega)
 obtain⟨R',hR'⟩:=S.hs (σ:=-1) (by grind) (i:=i+1) (by omega)
 have e:=S.Bk (σ:=-1) hi (by rw[c1]; grind) (by rw[c2]; grind) (by grind) hR hR'
 have e1:=S.FG (by omega) h hR
 have e2:=S.FG hi h' hR';omega
def Simple.along(S:Simple n v):∃L:Int,∀i,i<n->HS n v 1 i L/\HS n v (-1) i (L-1):=by
 have hn3:=S.n3;obtain⟨L,hL⟩:=S.hs (σ:=1) (by grind) (i:=0) (by omega)
 have h1:∀i,i<n->HS n v 1 i L:=by
  intro i
  induction i with
  | zero=>intro _; exact hL
  | succ i ih =>
   intro hi;obtain⟨L',hL'⟩:=S.hs (σ:=1) (by grind) (i:=i+1) hi
   have:=S.step hi (ih (by omega)) hL'
   rw[this]; exact hL'
 refine⟨L,fun i hi=>⟨h1 i hi,?_⟩⟩;obtain⟨R,hR⟩:=S.hs (σ:=-1) (by grind) (i:=i) hi
 have:=S.FG hi (h1 i hi) hR;rw[show L-1=R by omega]; exact hR
end
def jB{X:Nat->Rat}{P:Vr}:∀{n:Nat},(∃i,i<n/\P i)->∃i,i<n/\P i/\∀j,j<n->P j->X i<=X j
 | 0,h=>by obtain⟨i,h,_⟩:=h; omega
 | n+1,h=>by
  by_cases hn:∃i,i<n/\P i
  obtain⟨i,i1,i2,i3⟩:=jB (X:=X) hn
  by_cases hp:P n/\X n<=X i
  refine⟨n,by omega,hp.1,fun j hj hP=>?_⟩
  by_cases e:j=n
  subst e; grind
  have:=i3 j (by omega) hP; grind
  refine⟨i,by omega,i2,fun j hj hP=>?_⟩
  by_cases e:j=n
  subst e;have:¬X j<=X i:=fun h=>hp ⟨hP,h⟩
  grind
  exact i3 j (by omega) hP
  obtain⟨i,i1,i2⟩:=h;have:i=n:=SV fun e=>hn ⟨i,by omega,i2⟩
  subst this;refine⟨i,by omega,i2,fun j hj hP=>?_⟩
  by_cases e:j=i
  subst e; grind
  exact Tj ⟨j,by omega,hP⟩ hn
def zI{u w:P2}{y:Rat}(h:(u.2<y/\y<w.2)\/(w.2<y/\y<u.2)) :
  ∃t,0<t/\t<1/\(cv u w t).2=y/\∀q:P2,q.2=y->tn u w q=(w.2-u.2)*((cv u w t).1-q.1):=by
 have hD:w.2-u.2≠0:=by grind
 have hi:(w.2-u.2)*(w.2-u.2)⁻¹=1:=Rat.mul_inv_cancel _ hD;have ht:((y-u.2)*(w.2-u.2)⁻¹)*(w.2-u.2)=y-u.2:=by grind
 generalize(y-u.2)*(w.2-u.2)⁻¹=t at ht;have t0:0<t:=by
  refine SV fun hc=>?_;rcases h with h|h
  have:=cq (show 0<=-t by grind) (show 0<=w.2-u.2 by grind)
  grind
  have:=cq (show 0<=-t by grind) (show 0<=u.2-w.2 by grind)
  grind
 have t1:t<1:=by
  refine SV fun hc=>?_;rcases h with h|h
  have:=cq (show 0<=t-1 by grind) (show 0<=w.2-u.2 by grind)
  grind
  have:=cq (show 0<=t-1 by grind) (show 0<=u.2-w.2 by grind)
  grind
 refine⟨t,t0,t1,by unfold cv; grind,fun q hq=>?_⟩
 unfold tn cv;rw[hq]
 grind
section
variable{n:Nat}{v:Nat->P2}
def dd(u w:P2)(y:Rat):Int:=if u.2<y/\y<w.2 then 1 else if w.2<y/\y<u.2 then -1 else 0
def Ah{u w:P2}{y:Rat}(hu:u.2≠y)(hw:w.2≠y):∃X:Rat,(∀q:P2,q.2=y->we u w q=if q.1<X then dd u w y else 0)/\(dd u w y≠0->∃t,0<t/\t<1/\cv u w t=(X,y)):=by
 by_cases h1:u.2<y/\y<w.2
 obtain⟨t,t0,t1,t2,t3⟩:=zI (.inl h1);refine⟨(cv u w t).1,fun q hq=>?_,fun _=>⟨t,t0,t1,TZ rfl t2⟩⟩;unfold dd;rw[gH (by grind) (by grind),SU h1,t3 q hq]
 by_cases hx:q.1<(cv u w t).1
 rw[SU hx,SU (bz (by grind) (by grind))]
 rw[SS hx,SS];have:=dm (show 0<=w.2-u.2 by grind) (show(cv u w t).1-q.1<=0 by grind)
 grind
 by_cases h2:w.2<y/\y<u.2
 obtain⟨t,t0,t1,t2,t3⟩:=zI (.inr h2);refine⟨(cv u w t).1,fun q hq=>?_,fun _=>⟨t,t0,t1,TZ rfl t2⟩⟩;unfold dd;rw[iS w u,gH (by grind) (by grind),SS h1,SU h2,hZ u w,t3 q hq]
 by_cases hx:q.1<(cv u w t).1
 have:=bz (show 0<u.2-w.2 by grind) (show 0<(cv u w t).1-q.1 by grind)
 rw[SU hx,SU (by grind)]
 have:=dm (show 0<=u.2-w.2 by grind) (show(cv u w t).1-q.1<=0 by grind)
 rw[SS hx,SS (by grind)]; rfl
 have e:dd u w y=0:=by unfold dd; rw[SS h1,SS h2]
 refine⟨0,fun q hq=>?_,fun h=>Tj e h⟩;rw[e,ite_self,eo (by grind) (by grind)]
def Simple.level(S:Simple n v){p:P2}(hp:∀i,i<n->(v i).2≠p.2):W n v p=0\/W n v p=1\/W n v p = -1:=by
 have hn3:=S.n3;have hp':∀i,i<n->(v (i+1)).2≠p.2:=fun i hi=>by
  by_cases e:i+1=n
  rw[e,S.cl]; exact hp 0 (by omega)
  exact hp (i+1) (by omega)
 have hX:∀i,∃X:Rat,i<n->(∀q:P2,q.2=p.2->we (v i) (v (i+1)) q=if q.1<X then dd (v i) (v (i+1)) p.2 else 0)/\(dd (v i) (v (i+1)) p.2≠0->∃t,0<t/\t<1/\cv (v i) (v (i+1)) t=(X,p.2)):=fun i=>by
  by_cases hi:i<n
  obtain⟨X,h⟩:=Ah (hp i hi) (hp' i hi);exact⟨X,fun _=>h⟩
  exact⟨0,fun h=>Tj h hi⟩
 obtain⟨X,hX⟩:=Classical.axiomOfChoice hX;have hW:∀q:P2,q.2=p.2->W n v q=bD n fun i=>if q.1<X i then dd (v i) (v (i+1)) p.2 else 0:=fun q hq=>aX fun i hi=>(hX i hi).1 q hq
 obtain⟨L,hL⟩:=S.along
 by_cases hE:∃i,i<n/\(dd (v i) (v (i+1)) p.2≠0/\p.1<X i)
 obtain⟨i,i1,⟨i2,i3⟩,i4⟩:=jB (X:=X) hE;obtain⟨k,k1,⟨k2,k3⟩,k4⟩:=jB (X:=fun i=>-X i) hE;have hl:W n v p=L\/W n v p=L-1:=by
  obtain⟨t,t0,t1,t2⟩:=(hX i i1).2 i2;have key:∀σ M,0 < σ*cr (v i) (v (i+1)) (-1,0)->HS n v σ i M->W n v p=M:=by
   intro σ M hσ hM;obtain⟨e,e0,he⟩:=hM t (-1,0) t0 t1 hσ;obtain⟨x,x0,xe,xp⟩:=fH e0 (show 0<X i-p.1 by grind)
   rw[<-he x x0 (by grind),t2,hW p rfl,hW (sm (X i,p.2) (-1,0) x) (by unfold sm; grind)]
   refine aX fun j hj=>?_
   by_cases hd:dd (v j) (v (j+1)) p.2=0
   rw[hd,ite_self,ite_self]
   by_cases hx:p.1<X j
   have:=i4 j hj ⟨hd,hx⟩;rw[SU hx,SU (by unfold sm; grind)]
   rw[SS hx,SS (by unfold sm; grind)]
  by_cases h1:(v i).2<p.2/\p.2<(v (i+1)).2
  exact .inl (key 1 L (by unfold cr; grind) (hL i i1).1)
  have h2:(v (i+1)).2<p.2/\p.2<(v i).2:=by
   unfold dd at i2;rw[SS h1] at i2;exact SV fun h=>i2 (SS h)
  exact .inr (key (-1) (L-1) (by unfold cr; grind) (hL i i1).2)
 have hr:L=0\/L=1:=by
  obtain⟨t,t0,t1,t2⟩:=(hX k k1).2 k2;have key:∀σ M,0 < σ*cr (v k) (v (k+1)) (1,0)->HS n v σ k M->M=0:=by
   intro σ M hσ hM;obtain⟨e,e0,he⟩:=hM t (1,0) t0 t1 hσ;rw[<-he e e0 (by grind),t2,hW (sm (X k,p.2) (1,0) e) (by unfold sm; grind)]
   refine cB fun j hj=>?_
   by_cases hd:dd (v j) (v (j+1)) p.2=0
   rw[hd,ite_self]
   refine SS fun hx=>?_;have hx':X k+e<X j:=by unfold sm at hx; grind
   have:=k4 j hj ⟨hd,by grind⟩
   grind
  by_cases h1:(v k).2<p.2/\p.2<(v (k+1)).2
  have:=key (-1) (L-1) (by unfold cr; grind) (hL k k1).2
  exact .inr (by omega)
  have h2:(v (k+1)).2<p.2/\p.2<(v k).2:=by
   unfold dd at k2;rw[SS h1] at k2;exact SV fun h=>k2 (SS h)
  exact .inl (key 1 L (by unfold cr; grind) (hL k k1).1)
 omega
 left
 rw[hW p rfl];refine cB fun j hj=>?_
 by_cases hd:dd (v j) (v (j+1)) p.2=0
 rw[hd,ite_self]
 exact SS fun hx=>hE ⟨j,hj,hd,hx⟩
def Simple.main(S:Simple n v){p:P2}(hp:∀i,i<n->((v i).2<=p.2/\p.2<(v (i+1)).2)\/((v (i+1)).2<=p.2/\p.2<(v i).2)->tn (v i) (v (i+1)) p≠0) :
  W n v p=0\/W n v p=1\/W n v p = -1:=by
 have hn3:=S.n3;have h1:Ev fun x _=>∀i,i<n->(v i).2<=p.2\/p.2+x<(v i).2:=Ev.all (P:=fun i x _=>(v i).2<=p.2\/p.2+x<(v i).2) fun i _=>by
  by_cases h:(v i).2<=p.2
  exact Ev.of fun _ _ _ _=>.inl h
  exact⟨((v i).2-p.2)/2,by grind,fun x y x0 x1 _ _=>.inr (by grind)⟩
 have h2:Ev fun x _=>∀i,i<n->(tn (v i) (v (i+1)) p<0->tn (v i) (v (i+1)) (p.1,p.2+x)<0)/\(0<tn (v i) (v (i+1)) p->0<tn (v i) (v (i+1)) (p.1,p.2+x)) :=
  Ev.all (P:=fun i x _=>(tn (v i) (v (i+1)) p<0->tn (v i) (v (i+1)) (p.1,p.2+x)<0)/\(0<tn (v i) (v (i+1)) p->0<tn (v i) (v (i+1)) (p.1,p.2+x))) fun i _=>by
   have e:∀x,tn (v i) (v (i+1)) (p.1,p.2+x)=tn (v i) (v (i+1)) p+x*((v (i+1)).1-(v i).1):=fun x=>by unfold tn; grind
   by_cases hm:tn (v i) (v (i+1)) p<0
   obtain⟨a,a0,ha⟩:=qv hm ((v (i+1)).1-(v i).1);exact⟨a,a0,fun x y x0 x1 _ _=>⟨fun _=>by rw[e]; exact ha x x0 x1,fun h=>by grind⟩⟩
   by_cases hq:0<tn (v i) (v (i+1)) p
   obtain⟨a,a0,ha⟩:=qv (A:=-tn (v i) (v (i+1)) p) (by grind) (-((v (i+1)).1-(v i).1))
   exact⟨a,a0,fun x y x0 x1 _ _=>⟨fun h=>Tj h hm,fun _=>by rw[e]; have:=ha x x0 x1; grind⟩⟩
   exact Ev.of fun _ _ _ _=>⟨fun h=>Tj h hm,fun h=>Tj h hq⟩
 obtain⟨x,x0,hx⟩:=h1.and h2;obtain⟨g1,g2⟩:=hx x x x0 (by grind) x0 (by grind)
 have g1':∀i,i<n->(v (i+1)).2<=p.2\/p.2+x<(v (i+1)).2:=fun i hi=>by
  by_cases e:i+1=n
  rw[e,S.cl]; exact g1 0 (by omega)
  exact g1 (i+1) (by omega)
 have e:W n v p=W n v (p.1,p.2+x):=aX fun i hi=>by
  have a:=g1 i hi;have b:=g1' i hi;obtain⟨c1,c2⟩:=g2 i hi;have hc:=hp i hi
  by_cases k1:(v i).2<=p.2/\p.2<(v (i+1)).2
  rw[gH k1.1 k1.2,gH (by grind) (by grind)]
  exact jP ⟨c2,fun h=>by have:=hc (.inl k1); grind⟩
  by_cases k2:(v (i+1)).2<=p.2/\p.2<(v i).2
  rw[iS (v (i+1)) (v i),iS (v (i+1)) (v i),gH k2.1 k2.2,gH (by grind) (by grind),hZ (v i),hZ (v i)]
  rw[jP (d:=0 < -tn (v i) (v (i+1)) (p.1,p.2+x)) ⟨fun h=>by have:=c1 (by grind); grind,fun h=>by have:=hc (.inr k2); grind⟩]
  rw[eo k1 k2,eo (by grind) (by grind)]
 rw[e];exact S.level fun i hi=>by have:=g1 i hi; grind
end
abbrev I2:=Int×Int
def ti(a b c:I2):Int:=(b.1-a.1)*(c.2-a.2)-(b.2-a.2)*(c.1-a.1)
def ca(a:I2):P2:=((a.1:Rat),(a.2:Rat))
def lA(a b c:I2):tn (ca a) (ca b) (ca c)=((ti a b c:Int):Rat):=by
 unfold tn ca ti;simp only[Rat.intCast_sub,UK]
def dz{x y:Int}:(x:Rat)<(y:Rat)↔x<y:=Rat.intCast_lt_intCast
def pa{x y:Int}:(x:Rat)<=(y:Rat)↔x<=y:=Rat.intCast_le_intCast
def gY{x:Int}:(0:Rat)<(x:Rat)↔0<x:=by
 have:=@dz 0 x
 simpa using this
def np{x:Int}:(x:Rat)<0↔x<0:=by
 have:=@dz x 0
 simpa using this
def iR(a b p:I2):ti b a p = -ti a b p:=by unfold ti; grind
def Bb(a b:I2):ti a b a=0:=by unfold ti; grind
def Bh(a b:I2):ti a b b=0:=by unfold ti; grind
def Ct(a b c d:I2):ti a b d-ti a b c=ti c d a-ti c d b:=by unfold ti; grind
def cE(a b p:I2):Prop:=ti a b p=0/\min a.1 b.1<=p.1/\p.1<=max a.1 b.1/\min a.2 b.2<=p.2/\p.2<=max a.2 b.2
instance(a b p:I2):Decidable (cE a b p):=by unfold cE; infer_instance
def cE.swap{a b p:I2}(h:cE a b p):cE b a p:=by
 obtain⟨h1,h2⟩:=h;exact⟨by rw[iR,h1]; rfl,by omega⟩
def yT{a b p:I2}:cE a b p↔cE b a p:=⟨cE.swap,cE.swap⟩
def vv(a b:I2):cE a b a:=⟨Bb a b,by omega⟩
def vi(a b:I2):cE a b b:=⟨Bh a b,by omega⟩
def CZ{a b p:I2}(h:a.1<b.1):cE a b p↔ti a b p=0/\a.1<=p.1/\p.1<=b.1:=by
 refine⟨fun⟨h1,h2⟩=>⟨h1,by omega⟩,fun⟨h1,h2,h3⟩=>⟨h1,by omega,by omega,?_,?_⟩⟩
 all_goals
  unfold ti at h1;have e1:(b.1-a.1)*(p.2-a.2)=(b.2-a.2)*(p.1-a.1):=by omega
  have e2:(b.1-a.1)*(b.2-p.2)=(b.2-a.2)*(b.1-p.1):=by grind
  by_cases hy:a.2<=b.2
  have m1:0<=(b.1-a.1)*(p.2-a.2):=by rw[e1]; exact UB (by omega) (by omega)
  have m2:0<=(b.1-a.1)*(b.2-p.2):=by rw[e2]; exact UB (by omega) (by omega)
  have k1:=UW m1 (by omega)
  have k2:=UW m2 (by omega)
  omega
  have m1:0<=(b.1-a.1)*(a.2-p.2):=by
   rw[show(b.1-a.1)*(a.2-p.2)=(a.2-b.2)*(p.1-a.1) by grind]; exact UB (by omega) (by omega)
  have m2:0<=(b.1-a.1)*(p.2-b.2):=by
   rw[show(b.1-a.1)*(p.2-b.2)=(a.2-b.2)*(b.1-p.1) by grind]; exact UB (by omega) (by omega)
  have k1:=UW m1 (by omega)
  have k2:=UW m2 (by omega)
  omega
def Gc{a b p:I2}(h:a.1=b.1)(hab:a≠b):cE a b p↔p.1=a.1/\min a.2 b.2<=p.2/\p.2<=max a.2 b.2:=by
 have hy:a.2≠b.2:=fun e=>hab (TZ h e);refine⟨fun⟨_,h2⟩=>by omega,fun⟨h1,h2⟩=>⟨?_,by omega⟩⟩
 unfold ti;rw[h1,<-h]; grind
def oC{a b p:I2}(h:a.1=b.1)(hab:a≠b)(h0:ti a b p=0):p.1=a.1:=by
 have hy:b.2-a.2≠0:=fun e=>hab (TZ h (by omega))
 unfold ti at h0;rw[h,Int.sub_self,Int.zero_mul] at h0;have:(b.2-a.2)*(p.1-b.1)=0:=by omega
 rcases T1.1 this with e|e
 exact Tj e hy
 omega
def pI{a b p q:I2}(h:a.1≠b.1)(hp:ti a b p=0)(hq:ti a b q=0)(e:p.1=q.1):p=q:=by
 have:(b.1-a.1)*(p.2-q.2)=0:=by unfold ti at hp hq; rw[e] at hp; grind
 rcases T1.1 this with e'|e'
 omega
 exact TZ e (by omega)
def Lx(a b:I2):Prop:=a.1<b.1\/a.1=b.1/\a.2<=b.2
def On{a b p:I2}(hab:a≠b)(h:Lx a b):cE a b p↔ti a b p=0/\Lx a p/\Lx p b:=by
 unfold Lx at *
 by_cases hx:a.1<b.1
 rw[CZ hx];refine⟨fun⟨h1,h2,h3⟩=>⟨h1,?_,?_⟩,fun⟨h1,h2,h3⟩=>⟨h1,by omega,by omega⟩⟩
 by_cases e:p.1=a.1
 have:=pI (by omega) h1 (Bb a b) e
 rw[this]; omega
 omega
 by_cases e:p.1=b.1
 have:=pI (by omega) h1 (Bh a b) e
 rw[this]; omega
 omega
 have e:a.1=b.1:=by omega
 rw[Gc e hab];refine⟨fun⟨h1,h2⟩=>⟨?_,by omega,by omega⟩,fun⟨h1,h2,h3⟩=>?_⟩
 unfold ti; rw[h1,<-e]; grind
 have:=oC e hab h1;omega
def mX{a b c d:I2}(hab:a≠b)(hc:ti a b c=0)(hn:¬cE a b c)(hd:ti a b d≠0):(0<ti c d a/\0<ti c d b)\/(ti c d a<0/\ti c d b<0):=by
 have four:=Ct a b c d;have key:∀A B s t:Int,s*B=A*t->0<A*B->s-t≠0->(0<s/\0<t)\/(s<0/\t<0):=by
  intro A B s t e hAB hst;have hB:B≠0:=fun h=>by rw[h,Int.mul_zero] at hAB; omega
  have hA:A≠0:=fun h=>by rw[h,Int.zero_mul] at hAB; omega
  have ht:t≠0:=fun h=>by
   rw[h,Int.mul_zero] at e;rcases T1.1 e with h'|h'
   omega
   exact hB h'
  have hs:s≠0:=fun h=>by
   rw[h,Int.zero_mul] at e;rcases T1.1 e.symm with h'|h'
   exact hA h'
   exact ht h'
  have hp:0<s*t:=by
   have e2:s*t*(B*B)=(A*B)*(t*t):=by
    rw[show s*t*(B*B)=(s*B)*(t*B) by grind,e]; grind
   have h1:0<(A*B)*(t*t):=Va hAB (by
    rcases Int.lt_or_lt_of_ne ht with h|h
    exact Int.mul_pos_of_neg_of_neg h h
    exact Va h h)
   rw[<-e2] at h1;have h2:0<B*B:=by
    rcases Int.lt_or_lt_of_ne hB with h|h
    exact Int.mul_pos_of_neg_of_neg h h
    exact Va h h
   exact Int.pos_of_mul_pos_left h1 h2
  rcases Int.lt_or_lt_of_ne hs with h|h
  right
  refine⟨h,?_⟩;refine SV fun hc=>?_;have:=Va (show 0 < -s by omega) (show 0<t by omega)
  rw[Int.neg_mul] at this;omega
  left
  refine⟨h,?_⟩;refine SV fun hc=>?_;have:=Va h (show 0 < -t by omega)
  rw[Int.mul_neg] at this;omega
 have hst:ti c d a-ti c d b≠0:=by omega
 have e0:(a.1-c.1)*(b.2-c.2)=(a.2-c.2)*(b.1-c.1):=by unfold ti at hc; grind
 have ex:ti c d a*(b.1-c.1)=(a.1-c.1)*ti c d b:=by
  unfold ti;generalize d.1-c.1=x at *;generalize d.2-c.2=y at *;generalize a.1-c.1=A at *;generalize b.1-c.1=B at *;generalize a.2-c.2=C at *;generalize b.2-c.2=D at *
  grind
 have ey:ti c d a*(b.2-c.2)=(a.2-c.2)*ti c d b:=by
  unfold ti;generalize d.1-c.1=x at *;generalize d.2-c.2=y at *;generalize a.1-c.1=A at *;generalize b.1-c.1=B at *;generalize a.2-c.2=C at *;generalize b.2-c.2=D at *
  grind
 have hout:0<(a.1-c.1)*(b.1-c.1)\/0<(a.2-c.2)*(b.2-c.2):=by
  refine SV fun hh=>hn ⟨hc,?_⟩;have pos:∀{x y:Int},0<x->0<y->0<x*y:=Va;have neg:∀{x y:Int},x<0->y<0->0<x*y:=Int.mul_pos_of_neg_of_neg;have n1:¬(0<a.1-c.1/\0<b.1-c.1):=fun h=>hh (.inl (pos h.1 h.2));have n2:¬(a.1-c.1<0/\b.1-c.1<0):=fun h=>hh (.inl (neg h.1 h.2));have n3:¬(0<a.2-c.2/\0<b.2-c.2):=fun h=>hh (.inr (pos h.1 h.2));have n4:¬(a.2-c.2<0/\b.2-c.2<0):=fun h=>hh (.inr (neg h.1 h.2));omega
 rcases hout with h|h
 exact key _ _ _ _ ex h hst
 exact key _ _ _ _ ey h hst
def lV(a b c d x:I2):Prop:=(x=a\/x=b\/x=c\/x=d)/\cE a b x/\cE c d x
def low(a b c d:I2):Int:=if a.1=b.1 then max (min a.2 b.2) (min c.2 d.2)-min (max a.2 b.2) (max c.2 d.2) else max (min a.1 b.1) (min c.1 d.1)-min (max a.1 b.1) (max c.1 d.1)
def KN{a b c d:I2}(hab:a≠b)(hcd:c≠d)(hc:ti a b c=0)(hd:ti a b d=0):∃f:I2->Int,low a b c d=max (min (f a) (f b)) (min (f c) (f d))-min (max (f a) (f b)) (max (f c) (f d)) /\
  (∀x y,ti a b x=0->ti a b y=0->f x=f y->x=y)/\(∀x,cE a b x↔ti a b x=0/\min (f a) (f b)<=f x/\f x<=max (f a) (f b))/\(∀x,ti a b x=0->(cE c d x↔min (f c) (f d)<=f x/\f x<=max (f c) (f d))):=by
 by_cases h:a.1=b.1
 have h3:=oC h hab hc;have h4:=oC h hab hd;refine⟨fun x=>x.2,by unfold low; rw[SU h],fun x y hx hy e=>TZ ((oC h hab hx).trans (oC h hab hy).symm) e,fun x=>?_,fun x hx=>?_⟩
 rw[Gc h hab];refine⟨fun⟨h0,h1⟩=>⟨?_,h1⟩,fun⟨h0,h1⟩=>⟨oC h hab h0,h1⟩⟩;unfold ti; rw[h0,<-h]; grind
 rw[Gc (by omega) hcd]
 have:=oC h hab hx;exact⟨fun h=>h.2,fun h=>⟨by omega,h⟩⟩
 have h2:c.1≠d.1:=fun e=>hcd (pI h hc hd e);have dir:∀x,ti a b x=0->ti c d x=0:=fun x hx=>by
  have e0:(b.1-a.1)*(c.2-a.2)=(b.2-a.2)*(c.1-a.1):=by unfold ti at hc; omega
  have e2:(b.1-a.1)*(d.2-a.2)=(b.2-a.2)*(d.1-a.1):=by unfold ti at hd; omega
  have e1:(b.1-a.1)*(x.2-a.2)=(b.2-a.2)*(x.1-a.1):=by unfold ti at hx; omega
  have:(b.1-a.1)*ti c d x=0:=by
   unfold ti;have:(b.1-a.1)*((d.1-c.1)*(x.2-c.2)-(d.2-c.2)*(x.1-c.1))=(d.1-c.1)*((b.1-a.1)*(x.2-a.2)-(b.1-a.1)*(c.2-a.2))-((b.1-a.1)*(d.2-a.2)-(b.1-a.1)*(c.2-a.2))*(x.1-c.1):=by grind
   rw[this,e0,e2,e1]; grind
  rcases T1.1 this with e|e
  omega
  exact e
 have gen:∀{u w:I2},u.1≠w.1->∀x,(cE u w x↔ti u w x=0/\min u.1 w.1<=x.1/\x.1<=max u.1 w.1):=fun{u w} huw x=>by
  by_cases hl:u.1<w.1
  rw[CZ hl]; refine⟨fun⟨h0,h1⟩=>⟨h0,by omega⟩,fun⟨h0,h1⟩=>⟨h0,by omega⟩⟩
  rw[yT,CZ (by omega),iR]; refine⟨fun⟨h0,h1⟩=>⟨by omega,by omega⟩,fun⟨h0,h1⟩=>⟨by omega,by omega⟩⟩
 refine⟨fun x=>x.1,by unfold low; rw[SS h],fun x y hx hy e=>pI h hx hy e,gen h,fun x hx=>?_⟩
 rw[gen h2];exact⟨fun h=>h.2,fun h=>⟨dir x hx,h⟩⟩
def rZ{a b c d:I2}(hab:a≠b)(hcd:c≠d)(hc:ti a b c=0)(hd:ti a b d=0) :
  (0<low a b c d↔∀x,¬lV a b c d x)/\(low a b c d<0↔∃x y,lV a b c d x/\lV a b c d y/\x≠y):=by
 obtain⟨f,e,hi,h1,h2⟩:=KN hab hcd hc hd;have ha0:=Bb a b;have hb0:=Bh a b;have hfab:f a≠f b:=fun h=>hab (hi a b ha0 hb0 h);have hfcd:f c≠f d:=fun h=>hcd (hi c d hc hd h);have L4:∀x,lV a b c d x↔(x=a\/x=b\/x=c\/x=d)/\(min (f a) (f b)<=f x/\f x<=max (f a) (f b))/\(min (f c) (f d)<=f x/\f x<=max (f c) (f d)):=fun x=>by
  unfold lV;refine⟨fun⟨h,g1,g2⟩=>⟨h,((h1 x).1 g1).2,(h2 x ((h1 x).1 g1).1).1 g2⟩,fun⟨h,g1,g2⟩=>?_⟩;have hx:ti a b x=0:=by rcases h with rfl|rfl|rfl|rfl<;>assumption
  exact⟨h,(h1 x).2 ⟨hx,g1⟩,(h2 x hx).2 g2⟩
 rw[e];have lo:∃x,(x=a\/x=b\/x=c\/x=d)/\f x=max (min (f a) (f b)) (min (f c) (f d)):=by
  by_cases g1:f a<=f b<;>by_cases g2:f c<=f d
  by_cases g3:f a<=f c
  exact⟨c,by simp,by omega⟩
  exact⟨a,by simp,by omega⟩
  by_cases g3:f a<=f d
  exact⟨d,by simp,by omega⟩
  exact⟨a,by simp,by omega⟩
  by_cases g3:f b<=f c
  exact⟨c,by simp,by omega⟩
  exact⟨b,by simp,by omega⟩
  by_cases g3:f b<=f d
  exact⟨d,by simp,by omega⟩
  exact⟨b,by simp,by omega⟩
 have hi':∃x,(x=a\/x=b\/x=c\/x=d)/\f x=min (max (f a) (f b)) (max (f c) (f d)):=by
  by_cases g1:f a<=f b<;>by_cases g2:f c<=f d
  by_cases g3:f b<=f d
  exact⟨b,by simp,by omega⟩
  exact⟨d,by simp,by omega⟩
  by_cases g3:f b<=f c
  exact⟨b,by simp,by omega⟩
  exact⟨c,by simp,by omega⟩
  by_cases g3:f a<=f d
  exact⟨a,by simp,by omega⟩
  exact⟨d,by simp,by omega⟩
  by_cases g3:f a<=f c
  exact⟨a,by simp,by omega⟩
  exact⟨c,by simp,by omega⟩
 obtain⟨x,x1,x2⟩:=lo;obtain⟨y,y1,y2⟩:=hi';constructor
 refine⟨fun h z hz=>?_,fun h=>?_⟩
 have:=(L4 z).1 hz;omega
 refine SV fun hc=>h x ((L4 x).2 ⟨x1,by omega,by omega⟩)
 refine⟨fun h=>⟨x,y,(L4 x).2 ⟨x1,by omega,by omega⟩,(L4 y).2 ⟨y1,by omega,by omega⟩,fun e=>by rw[e] at x2; omega⟩,fun⟨z,w,hz,hw,hne⟩=>?_⟩
 refine SV fun hc=>hne (hi z w ?_ ?_ ?_)
 exact hz.2.1.1
 exact hw.2.1.1
 have:=(L4 z).1 hz;have:=(L4 w).1 hw;omega
def Me{a b c d:I2}(hcd:c≠d)(h:¬(ti a b c=0/\ti a b d=0)){x y:I2}(hx:cE a b x/\cE c d x)(hy:cE a b y/\cE c d y):x=y:=by
 obtain⟨⟨a1,_⟩,⟨a2,_⟩⟩:=hx;obtain⟨⟨b1,_⟩,⟨b2,_⟩⟩:=hy;have hk:(b.1-a.1)*(d.2-c.2)-(b.2-a.2)*(d.1-c.1)≠0:=fun e=>by
  have e1:ti a b d-ti a b c=0:=by
   have:ti a b d-ti a b c=(b.1-a.1)*(d.2-c.2)-(b.2-a.2)*(d.1-c.1):=by unfold ti; grind
   omega
  have e2:(d.1-c.1)*ti a b c=0:=by
   have t:(d.1-c.1)*ti a b c=(d.1-c.1)*ti a b x-(b.1-a.1)*ti c d x-(x.1-c.1)*((b.1-a.1)*(d.2-c.2)-(b.2-a.2)*(d.1-c.1)):=by unfold ti; grind
   rw[t,a1,a2,e]; simp
  have e3:(d.2-c.2)*ti a b c=0:=by
   have t:(d.2-c.2)*ti a b c=(d.2-c.2)*ti a b x-(b.2-a.2)*ti c d x-(x.2-c.2)*((b.1-a.1)*(d.2-c.2)-(b.2-a.2)*(d.1-c.1)):=by unfold ti; grind
   rw[t,a1,a2,e]; simp
  have h0:ti a b c=0:=by
   rcases T1.1 e2 with g|g
   rcases T1.1 e3 with g'|g'
   exact Tj (TZ (by omega) (by omega)) hcd
   exact g'
   exact g
  exact h ⟨h0,by omega⟩
 have f1:((b.1-a.1)*(d.2-c.2)-(b.2-a.2)*(d.1-c.1))*(x.1-y.1)=0:=by
  have t:((b.1-a.1)*(d.2-c.2)-(b.2-a.2)*(d.1-c.1))*(x.1-y.1)=(d.1-c.1)*(ti a b x-ti a b y)-(b.1-a.1)*(ti c d x-ti c d y):=by unfold ti; grind
  rw[t,a1,a2,b1,b2]; simp
 have f2:((b.1-a.1)*(d.2-c.2)-(b.2-a.2)*(d.1-c.1))*(x.2-y.2)=0:=by
  have t:((b.1-a.1)*(d.2-c.2)-(b.2-a.2)*(d.1-c.1))*(x.2-y.2)=(d.2-c.2)*(ti a b x-ti a b y)-(b.2-a.2)*(ti c d x-ti c d y):=by unfold ti; grind
  rw[t,a1,a2,b1,b2]; simp
 refine TZ ?_ ?_
 rcases T1.1 f1 with g|g
 exact Tj g hk
 omega
 rcases T1.1 f2 with g|g
 exact Tj g hk
 omega
def sb{a b c d:I2}(hab:a≠b)(hcd:c≠d)(hn:∀x,¬lV a b c d x)
  (hx:¬(((0<ti a b c/\ti a b d<0)\/(ti a b c<0/\0<ti a b d))/\((0<ti c d a/\ti c d b<0)\/(ti c d a<0/\0<ti c d b)))):Sep (ca a) (ca b) (ca c) (ca d):=by
 have na:¬cE c d a:=fun h=>hn a ⟨.inl rfl,vv a b,h⟩;have nb:¬cE c d b:=fun h=>hn b ⟨.inr (.inl rfl),vi a b,h⟩;have nc:¬cE a b c:=fun h=>hn c ⟨.inr (.inr (.inl rfl)),h,vv c d⟩;have nd:¬cE a b d:=fun h=>hn d ⟨.inr (.inr (.inr rfl)),h,vi c d⟩;have byab:(0<ti a b c/\0<ti a b d)\/(ti a b c<0/\ti a b d<0)->Sep (ca a) (ca b) (ca c) (ca d):=by
  rintro(⟨h1,h2⟩|⟨h1,h2⟩)
  exact gB (σ:=1) (by rw[lA]; have:=gY.2 h1; grind) (by rw[lA]; have:=gY.2 h2; grind)
  exact gB (σ:=-1) (by rw[lA]; have:=np.2 h1; grind) (by rw[lA]; have:=np.2 h2; grind)
 have bycd:(0<ti c d a/\0<ti c d b)\/(ti c d a<0/\ti c d b<0)->Sep (ca a) (ca b) (ca c) (ca d):=by
  intro h;have h':Sep (ca c) (ca d) (ca a) (ca b):=by
   rcases h with⟨h1,h2⟩|⟨h1,h2⟩
   exact gB (σ:=1) (by rw[lA]; have:=gY.2 h1; grind) (by rw[lA]; have:=gY.2 h2; grind)
   exact gB (σ:=-1) (by rw[lA]; have:=np.2 h1; grind) (by rw[lA]; have:=np.2 h2; grind)
  obtain⟨α,β,γ,g1,g2,g3,g4⟩:=h';exact⟨-α,-β,-γ,by unfold af at *; grind,by unfold af at *; grind,by unfold af at *; grind,by unfold af at *; grind⟩
 have four:=Ct a b c d
 by_cases hc:ti a b c=0
 by_cases hd:ti a b d=0
 
 have hl:=(rZ hab hcd hc hd).1.2 hn;unfold low at hl;have split:∀{x1 x2 x3 x4:Int},0<max (min x1 x2) (min x3 x4)-min (max x1 x2) (max x3 x4)->(x1<x3/\x1<x4/\x2<x3/\x2<x4)\/(x3<x1/\x4<x1/\x3<x2/\x4<x2):=by
  intro x1 x2 x3 x4 h; omega
 split at hl
 rcases split hl with⟨h1,h2,h3,h4⟩|⟨h1,h2,h3,h4⟩
 have h1:=dz.2 h1; have h2:=dz.2 h2; have h3:=dz.2 h3; have h4:=dz.2 h4
 by_cases hm:(a.2:Rat)<=(b.2:Rat)
 refine oB 0 (-1) (b.2:Rat) ?_ ?_ ?_ ?_<;>(unfold af ca; grind)
 refine oB 0 (-1) (a.2:Rat) ?_ ?_ ?_ ?_<;>(unfold af ca; grind)
 have h1:=dz.2 h1; have h2:=dz.2 h2; have h3:=dz.2 h3; have h4:=dz.2 h4
 by_cases hm:(a.2:Rat)<=(b.2:Rat)
 refine oB 0 1 (-(a.2:Rat)) ?_ ?_ ?_ ?_<;>(unfold af ca; grind)
 refine oB 0 1 (-(b.2:Rat)) ?_ ?_ ?_ ?_<;>(unfold af ca; grind)
 rcases split hl with⟨h1,h2,h3,h4⟩|⟨h1,h2,h3,h4⟩
 have h1:=dz.2 h1; have h2:=dz.2 h2; have h3:=dz.2 h3; have h4:=dz.2 h4
 by_cases hm:(a.1:Rat)<=(b.1:Rat)
 refine oB (-1) 0 (b.1:Rat) ?_ ?_ ?_ ?_<;>(unfold af ca; grind)
 refine oB (-1) 0 (a.1:Rat) ?_ ?_ ?_ ?_<;>(unfold af ca; grind)
 have h1:=dz.2 h1; have h2:=dz.2 h2; have h3:=dz.2 h3; have h4:=dz.2 h4
 by_cases hm:(a.1:Rat)<=(b.1:Rat)
 refine oB 1 0 (-(a.1:Rat)) ?_ ?_ ?_ ?_<;>(unfold af ca; grind)
 refine oB 1 0 (-(b.1:Rat)) ?_ ?_ ?_ ?_<;>(unfold af ca; grind)
 exact bycd (mX hab hc nc hd)
 by_cases hd:ti a b d=0
 have:=mX (c:=d) (d:=c) hab hd nd hc;rw[iR c d,iR c d] at this;exact bycd (by omega)
 by_cases ha:ti c d a=0
 by_cases hb:ti c d b=0
 
 exact byab (by omega)
 have:=mX (a:=c) (b:=d) (c:=a) (d:=b) hcd ha na hb;exact byab this
 by_cases hb:ti c d b=0
 have:=mX (a:=c) (b:=d) (c:=b) (d:=a) hcd hb nb ha;rw[iR a b,iR a b] at this;exact byab (by omega)
 by_cases h1:(0<ti a b c/\0<ti a b d)\/(ti a b c<0/\ti a b d<0)
 exact byab h1
 exact bycd (by omega)
def di(a b c:I2):Int:=(b.1-a.1)*(c.1-b.1)+(b.2-a.2)*(c.2-b.2)
def NM(a b c d:I2):Prop:=(∀x,¬lV a b c d x)/\¬(((0<ti a b c/\ti a b d<0)\/(ti a b c<0/\0<ti a b d))/\((0<ti c d a/\ti c d b<0)\/(ti c d a<0/\0<ti c d b)))
def nx(r:WB I2)(i:Nat):I2:=r.getD (i%r.length) (0,0)
structure VR(r:WB I2):Prop where
 n3:2<r.length
 still:∀i,nx r i≠nx r (i+1)
 spike:∀i,¬(ti (nx r i) (nx r (i+1)) (nx r (i+2))=0/\di (nx r i) (nx r (i+1)) (nx r (i+2))<0)
 meet:∀j i,j+1<i->i<r.length->¬(j=0/\i+1=r.length)->NM (nx r j) (nx r (j+1)) (nx r i) (nx r (i+1))
def MX{a b:I2}(h:ca a=ca b):a=b:=by
 unfold ca at h;have h1:=Rat.intCast_inj.1 (TB Prod.fst h);have h2:=Rat.intCast_inj.1 (TB Prod.snd h);exact TZ h1 h2
def Sep.symm{a b p q:P2}(h:Sep a b p q):Sep p q a b:=by
 obtain⟨α,β,γ,g1,g2,g3,g4⟩:=h;exact⟨-α,-β,-γ,by unfold af at *; grind,by unfold af at *; grind,by unfold af at *; grind,by unfold af at *; grind⟩
def O4{x:Int}:0<=x*x:=by
 rcases Int.le_total 0 x with h|h
 exact UB h h
 exact UM h h
def L9{x:Int}(h:x*x=0):x=0:=by
 rcases T1.1 h with h|h<;>exact h
def Oj{a b c:I2}(hab:a≠b)(hbc:b≠c)(h0:ti a b c=0)(h:¬di a b c<0):0<di a b c:=by
 refine SV fun hc=>?_;have hd:di a b c=0:=by omega
 have e1:(b.1-a.1)*(c.2-b.2)-(b.2-a.2)*(c.1-b.1)=0:=by rw[<-h0]; unfold ti; grind
 unfold di at hd;generalize hx:b.1-a.1=x at *;generalize hy:b.2-a.2=y at *;generalize hz:c.1-b.1=z at *;generalize hw:c.2-b.2=w at *;have f1:(x*x+y*y)*z=0:=by
  have:(x*x+y*y)*z=x*(x*z+y*w)-y*(x*w-y*z):=by grind
  rw[this,hd,e1]; simp
 have f2:(x*x+y*y)*w=0:=by
  have:(x*x+y*y)*w=y*(x*z+y*w)+x*(x*w-y*z):=by grind
  rw[this,hd,e1]; simp
 have hp:x*x+y*y≠0:=fun e=>by
  have s1:=@O4 x;have s2:=@O4 y;have g1:=L9 (show x*x=0 by omega)
  have g2:=L9 (show y*y=0 by omega)
  exact hab (TZ (by omega) (by omega))
 refine hbc (TZ ?_ ?_)
 rcases T1.1 f1 with e|e
 exact Tj e hp
 omega
 rcases T1.1 f2 with e|e
 exact Tj e hp
 omega
def VR.simple{r:WB I2}(h:VR r):Simple r.length fun i=>ca (nx r i):=by
 have hn:=h.n3;have per:∀i,nx r (i+r.length)=nx r i:=fun i=>by unfold nx; rw[Nat.add_mod_right]
 refine⟨hn,?_,?_,fun i _ e=>h.still i (MX e),fun i _=>?_,fun i j hi hj h1 h2 h3 h4 h5=>?_⟩
 show ca (nx r r.length)=ca (nx r 0)
 have:=per 0;rw[Tw] at this;rw[this]
 show ca (nx r (r.length+1))=ca (nx r 1)
 rw[Nat.add_comm,per]
 have e:dt (ca (nx r i)) (ca (nx r (i+1))) (ca (nx r (i+2)))=((di (nx r i) (nx r (i+1)) (nx r (i+2)):Int):Rat):=by
  unfold dt ca di;simp only[Rat.intCast_sub,UK,Rat.intCast_add]
 by_cases h0:ti (nx r i) (nx r (i+1)) (nx r (i+2))=0
 right
 show 0<dt (ca (nx r i)) (ca (nx r (i+1))) (ca (nx r (i+2)))
 rw[e,gY];exact Oj (h.still i) (h.still (i+1)) h0 fun hd=>h.spike i ⟨h0,hd⟩
 left
 show tn (ca (nx r i)) (ca (nx r (i+1))) (ca (nx r (i+2)))≠0
 rw[lA];exact fun e=>h0 (by have:=Rat.intCast_inj (a:=ti (nx r i) (nx r (i+1)) (nx r (i+2))) (b:=0); simpa using e)
 by_cases hl:i<j
 have m:=h.meet i j (by omega) hj (by omega)
 exact sb (h.still i) (h.still j) m.1 m.2
 have m:=h.meet j i (by omega) hi (by omega)
 exact(sb (h.still j) (h.still i) m.1 m.2).symm
def wi(a b p:I2):Int:=if a.2<=p.2/\p.2<b.2/\0<ti a b p then 1 else if b.2<=p.2/\p.2<a.2/\ti a b p<0 then -1 else 0
def PV(a b p:I2):we (ca a) (ca b) (ca p)=wi a b p:=by
 have e1:((ca a).2<=(ca p).2)↔a.2<=p.2:=pa;have e2:((ca p).2<(ca b).2)↔p.2<b.2:=dz;have e3:((ca b).2<=(ca p).2)↔b.2<=p.2:=pa;have e4:((ca p).2<(ca a).2)↔p.2<a.2:=dz;unfold we wi;simp only[e1,e2,e3,e4,lA,gY,np]
def gQ{a b p:I2}(h:(a.2<=p.2/\p.2<b.2)\/(b.2<=p.2/\p.2<a.2))(h0:ti a b p=0):cE a b p:=by
 have sw:∀{a b p:I2},a.2<b.2->a.2<=p.2->p.2<=b.2->ti a b p=0->cE a b p:=by
  intro a b p h1 h2 h3 h0;have h0':ti (a.2,a.1) (b.2,b.1) (p.2,p.1)=0:=by unfold ti at *; grind
  have:=(CZ (a:=(a.2,a.1)) (b:=(b.2,b.1)) (p:=(p.2,p.1)) h1).2 ⟨h0',h2,h3⟩;exact⟨h0,this.2.2.2.1,this.2.2.2.2,this.2.1,this.2.2.1⟩
 rcases h with h|h
 exact sw (by omega) (by omega) (by omega) h0
 exact(sw (a:=b) (b:=a) (by omega) (by omega) (by omega) (by rw[iR,h0]; rfl)).swap
def fW(r:WB I2)(p:I2):Int:=bD r.length fun i=>wi (nx r i) (nx r (i+1)) p
def VR.fW{r:WB I2}(h:VR r){p:I2}(hp:∀i,i<r.length->¬cE (nx r i) (nx r (i+1)) p):fW r p=0\/fW r p=1\/fW r p = -1:=by
 have e:W r.length (fun i=>ca (nx r i)) (ca p)=Jd.fW r p:=aX fun i _=>PV _ _ _;rw[<-e];refine h.simple.main fun i hi hl=>?_
 show tn (ca (nx r i)) (ca (nx r (i+1))) (ca p)≠0
 rw[lA];intro h0;have h0':ti (nx r i) (nx r (i+1)) p=0:=by simpa using h0
 refine hp i hi (gQ ?_ h0');rcases hl with⟨a,b⟩|⟨a,b⟩
 exact .inl ⟨pa.1 a,dz.1 b⟩
 exact .inr ⟨pa.1 a,dz.1 b⟩
def Pj(a b p:I2):Bool:=(decide (p.2<a.2) != decide (p.2<b.2)) &&(decide (0<ti a b p)==decide (a.2<b.2))
def OK{a b p:I2}(h:¬cE a b p):Pj a b p=decide (wi a b p%2=1):=by
 unfold Pj wi
 by_cases h1:p.2<a.2<;>by_cases h2:p.2<b.2
 rw[Vz,Vz]; simp[h1,h2]
 have h0:ti a b p≠0:=fun e=>h (gQ (.inr ⟨by omega,h1⟩) e)
 by_cases h3:0<ti a b p
 rw[Vz,Vz]
 simp[h1,h2,h3,show ¬a.2<b.2 by omega]
 rw[Vz,SU ⟨by omega,h1,by omega⟩]
 simp[h1,h2,h3,show ¬a.2<b.2 by omega]
 have h0:ti a b p≠0:=fun e=>h (gQ (.inl ⟨by omega,h2⟩) e)
 by_cases h3:0<ti a b p
 rw[SU ⟨by omega,h2,h3⟩]
 simp[h1,h2,h3,show a.2<b.2 by omega]
 rw[Vz,Vz]
 simp[h1,h2,h3,show a.2<b.2 by omega]
 rw[Vz,Vz]; simp[h1,h2]
def Hz(a b p:I2):wi a b p=0\/wi a b p=1\/wi a b p = -1:=by
 unfold wi
 split
 omega
 split<;>omega
def DD(r:WB I2)(p:I2):Nat->Bool
 | 0=>false
 | i+1=>DD r p i != Pj (nx r i) (nx r (i+1)) p
def y7{r:WB I2}{p:I2}:∀{k:Nat},(∀i,i<k->¬cE (nx r i) (nx r (i+1)) p)->DD r p k=decide (bD k (fun i=>wi (nx r i) (nx r (i+1)) p)%2=1)
 | 0,_=>rfl
 | k+1,h=>by
  rw[DD,y7 fun i hi=>h i (by omega),OK (h k (by omega))]
  have key:∀s t:Int,(decide (s%2=1) != decide (t%2=1))=decide ((s+t)%2=1):=fun s t=>by
   by_cases h1:s%2=1<;>by_cases h2:t%2=1<;>by_cases h3:(s+t)%2=1<;>simp[h1,h2,h3]<;>omega
  exact key _ _
def VR.K3{r:WB I2}(h:VR r){p:I2}(hp:∀i,i<r.length->¬cE (nx r i) (nx r (i+1)) p):DD r p r.length = !decide (Jd.fW r p=0):=by
 rw[y7 hp];have:=h.fW hp
 show decide (Jd.fW r p%2=1)=_
 rcases this with e|e|e<;>rw[e]<;>rfl
def zC(a b c d:I2):Prop:=((0<ti a b c/\ti a b d<0)\/(ti a b c<0/\0<ti a b d))/\((0<ti c d a/\ti c d b<0)\/(ti c d a<0/\0<ti c d b))
def JH(a b c d:I2):Prop:=ti a b c=0/\ti a b d=0
section
variable{a b c d:I2}
def Lo(hab:a≠b)(hcd:c≠d):(∃x y,lV a b c d x/\lV a b c d y/\x≠y)↔JH a b c d/\low a b c d<0:=by
 by_cases h:JH a b c d
 have:=(rZ hab hcd h.1 h.2).2;exact⟨fun g=>⟨h,this.2 g⟩,fun g=>this.1 g.2⟩
 exact⟨fun⟨x,y,hx,hy,hne⟩=>Tj (Me hcd h hx.2 hy.2) hne,fun g=>Tj g.1 h⟩
def Jt(hab:a≠b)(hcd:c≠d):(∃x,lV a b c d x)↔(JH a b c d/\low a b c d<=0)\/(¬JH a b c d/\(cE a b c\/cE a b d\/cE c d a\/cE c d b)):=by
 by_cases h:JH a b c d
 have:=(rZ hab hcd h.1 h.2).1;constructor
 rintro⟨x,hx⟩;refine .inl ⟨h,?_⟩;refine SV fun hc=>?_;exact this.1 (by omega) x hx
 rintro(⟨_,g⟩|⟨g,_⟩)
 refine Classical.byContradiction fun hc=>?_;have:=this.2 fun x hx=>hc ⟨x,hx⟩;omega
 exact Tj h g
 constructor
 rintro⟨x,h1,h2,h3⟩;refine .inr ⟨h,?_⟩;rcases h1 with rfl|rfl|rfl|rfl
 exact .inr (.inr (.inl h3))
 exact .inr (.inr (.inr h3))
 exact .inl h2
 exact .inr (.inl h2)
 rintro(⟨g,_⟩|⟨_,g⟩)
 exact Tj g h
 rcases g with g|g|g|g
 exact⟨c,.inr (.inr (.inl rfl)),g,vv c d⟩
 exact⟨d,.inr (.inr (.inr rfl)),g,vi c d⟩
 exact⟨a,.inl rfl,vv a b,g⟩
 exact⟨b,.inr (.inl rfl),vi a b,g⟩
def yM(h:zC a b c d):¬JH a b c d/\∀x,¬lV a b c d x:=by
 unfold zC at h;refine⟨fun g=>?_,fun x ⟨h1,h2,h3⟩=>?_⟩
 unfold JH at g; omega
 have e2:=h2.1;have e3:=h3.1;rcases h1 with rfl|rfl|rfl|rfl<;>omega
noncomputable def ux (a b c d:I2):Int:=open Classical in if ∃x y,lV a b c d x/\lV a b c d y/\x≠y then 3 else if ∃x,lV a b c d x then 1 else if zC a b c d then 2 else 0
def JY(hab:a≠b)(hcd:c≠d):ux a b c d=open Classical in if JH a b c d then(if 0<low a b c d then 0 else if low a b c d=0 then 1 else 3) else if zC a b c d then 2 else if cE a b c\/cE a b d\/cE c d a\/cE c d b then 1 else 0:=by
 classical
 unfold ux;have h2:=Lo hab hcd;have h1:=Jt hab hcd
 by_cases hc:JH a b c d
 have hx:¬zC a b c d:=fun h=>(yM h).1 hc;rw[SU hc,SS hx]
 by_cases g1:0<low a b c d
 rw[SU g1,SS (fun h=>by have:=(h2.1 h).2; omega),SS (fun h=>(h1.1 h).elim (fun g=>by have:=g.2; omega) (fun g=>g.1 hc))]
 by_cases g2:low a b c d=0
 rw[SS g1,SU g2,SS (fun h=>by have:=(h2.1 h).2; omega),SU (h1.2 (.inl ⟨hc,by omega⟩))]
 rw[SS g1,SS g2,SU (h2.2 ⟨hc,by omega⟩)]
 rw[SS hc,SS (fun h=>hc (h2.1 h).1)]
 by_cases hx:zC a b c d
 rw[SU hx,SU hx,SS (fun⟨x,h⟩=>(yM hx).2 x h)]
 rw[SS hx,SS hx]
 by_cases hb:cE a b c\/cE a b d\/cE c d a\/cE c d b
 rw[SU hb,SU (h1.2 (.inr ⟨hc,hb⟩))]
 rw[SS hb,SS (fun h=>(h1.1 h).elim (fun g=>hc g.1) (fun g=>hb g.2))]
def Iu:ux a b c d=0↔NM a b c d:=by
 classical
 unfold ux NM;constructor
 intro h
 by_cases h1:∃x y,lV a b c d x/\lV a b c d y/\x≠y
 rw[SU h1] at h; exact Tj h (by decide)
 rw[SS h1] at h
 by_cases h2:∃x,lV a b c d x
 rw[SU h2] at h; exact Tj h (by decide)
 rw[SS h2] at h
 by_cases h3:zC a b c d
 rw[SU h3] at h; exact Tj h (by decide)
 exact⟨fun x hx=>h2 ⟨x,hx⟩,h3⟩
 rintro⟨h1,h2⟩;rw[SS (fun⟨x,_,hx,_⟩=>h1 x hx),SS (fun⟨x,hx⟩=>h1 x hx)];exact SS h2
end
def Cp(a b p:I2):wi b a p = -wi a b p:=by
 have h:=iR a b p;unfold wi
 by_cases h1:a.2<=p.2/\p.2<b.2/\0<ti a b p
 rw[SU h1,Vz,VA]
 by_cases h2:b.2<=p.2/\p.2<a.2/\ti a b p<0
 rw[SS h1,SU h2,VA]; rfl
 rw[SS h1,SS h2,Vz,Vz]; rfl
def dF(f:I2->I2){r:WB I2}(h:r≠[])(i:Nat):nx (r.map f) i=f (nx r i):=by
 have hl:=List.length_pos_iff.2 h;unfold nx;rw[To];have hi:i%r.length<r.length:=TY _ hl;rw[SZ,SZ,TT,SR hi]; rfl
def xH{r:WB I2}:nx r r.length=nx r 0:=by unfold nx; rw[Nat.mod_self,Nat.zero_mod]
section
variable{a b c d:I2}
def nh{x:I2}:lV a b c d x↔lV c d a b x:=by
 unfold lV;constructor<;>rintro⟨h,g1,g2⟩<;>exact⟨by rcases h with h|h|h|h<;>simp[h],g2,g1⟩
def KK:zC a b c d↔zC c d a b:=by unfold zC; exact And.comm
def Ma:ux c d a b=ux a b c d:=by
 classical
 have h1:(∃x y,lV c d a b x/\lV c d a b y/\x≠y)↔∃x y,lV a b c d x/\lV a b c d y/\x≠y :=
  ⟨fun⟨x,y,p,q,r⟩=>⟨x,y,nh.1 p,nh.1 q,r⟩,fun⟨x,y,p,q,r⟩=>⟨x,y,nh.1 p,nh.1 q,r⟩⟩
 have h2:(∃x,lV c d a b x)↔∃x,lV a b c d x:=⟨fun⟨x,p⟩=>⟨x,nh.1 p⟩,fun⟨x,p⟩=>⟨x,nh.1 p⟩⟩;unfold ux;simp only[h1,h2,KK (a:=c) (b:=d) (c:=a) (d:=b)]
end
def ri(r:WB I2):Int:=bD r.length fun i=>(nx r i).1*(nx r (i+1)).2-(nx r i).2*(nx r (i+1)).1
def jx(n:Nat)(f g:Nat->Int):bD n (fun i=>f i+g i)=bD n f+bD n g:=by
 induction n with
 | zero=>rfl
 | succ n ih=>simp only[bD]; rw[ih]; omega
def uc(c:Int)(n:Nat)(f:Nat->Int):bD n (fun i=>c*f i)=c*bD n f:=by
 induction n with
 | zero=>simp[bD]
 | succ n ih=>simp only[bD]; rw[ih,Int.mul_add]
def EG(n:Nat)(f:Nat->Int):bD (n+1) f=f 0+bD n fun i=>f (i+1):=by
 induction n with
 | zero=>simp[bD]
 | succ n ih=>rw[bD,ih]; simp only[bD]; omega
def IT(n:Nat)(f:Nat->Int):bD n (fun i=>f (n-1-i))=bD n f:=by
 induction n generalizing f with
 | zero=>rfl
 | succ n ih =>
  rw[EG];simp only[bD];have:bD n (fun i=>f (n+1-1-(i+1)))=bD n f:=by
   rw[<-ih f];exact aX fun i _=>by congr 1; omega
  rw[this,show n+1-1-0=n by omega]; omega
structure Chg(f:I2->I2)(k d:Int):Prop where
 inj:∀{a b},f a=f b->a=b
 ti:∀a b c,ti (f a) (f b) (f c)=k*ti a b c
 di:∀a b c,di (f a) (f b) (f c)=d*di a b c
 kp:k≠0
 dp:0<d
 btw:∀{a b c},cE (f a) (f b) (f c)↔cE a b c
def ll{k x:Int}(h:0<k):0<k*x↔0<x:=⟨fun g=>Int.pos_of_mul_pos_right g h,fun g=>Va h g⟩
def gT{k x:Int}(h:0<k):k*x<0↔x<0:=by
 have:=ll (x:=-x) h;rw[Int.mul_neg] at this;omega
section
variable{f:I2->I2}{k d:Int}
def Chg.L4(h:Chg f k d){a b c d x:I2}:lV (f a) (f b) (f c) (f d) (f x)↔lV a b c d x:=by
 unfold lV;rw[h.btw,h.btw];constructor
 rintro⟨g,e⟩;exact⟨by rcases g with g|g|g|g<;>simp[h.inj g],e⟩
 rintro⟨g,e⟩;exact⟨by rcases g with g|g|g|g<;>simp[g],e⟩
def Chg.SN(h:Chg f k d){a b c d:I2}:zC (f a) (f b) (f c) (f d)↔zC a b c d:=by
 unfold zC;rw[h.ti,h.ti,h.ti,h.ti];rcases Int.lt_or_gt_of_ne h.kp with g|g
 have e:∀x,k*x = -((-k)*x):=fun x=>by rw[Int.neg_mul]; omega
 have p:∀{x},0<k*x↔x<0:=fun{x}=>by rw[e]; have:=gT (k:=-k) (x:=x) (by omega); omega
 have n:∀{x},k*x<0↔0<x:=fun{x}=>by rw[e]; have:=ll (k:=-k) (x:=x) (by omega); omega
 rw[p,p,p,p,n,n,n,n]; omega
 rw[ll g,ll g,ll g,ll g,gT g,gT g,gT g,gT g]
def Fi{a b c d:I2}:NM a b c d↔(∀x,¬lV a b c d x)/\¬zC a b c d:=Iff.rfl
def Chg.nm(h:Chg f k d){a b c d:I2}:NM (f a) (f b) (f c) (f d)↔NM a b c d:=by
 rw[Fi,Fi,h.SN];refine and_congr_left fun _=>⟨fun g x hx=>g (f x) (h.L4.2 hx),fun g x hx=>?_⟩;have:∃y,x=f y:=by
  rcases hx.1 with e|e|e|e<;>exact⟨_,e⟩
 obtain⟨y,rfl⟩:=this;exact g y (h.L4.1 hx)
def Chg.vr(h:Chg f k d){r:WB I2}(v:VR r):VR (r.map f):=by
 have hr:r≠[]:=fun e=>by have:=v.n3; rw[e] at this; simp at this
 refine⟨by rw[To]; exact v.n3,fun i=>?_,fun i=>?_,fun j i h1 h2 h3=>?_⟩
 rw[dF f hr,dF f hr];exact fun e=>v.still i (h.inj e)
 rw[dF f hr,dF f hr,dF f hr,h.ti,h.di];rintro⟨e1,e2⟩;refine v.spike i ⟨?_,(gT h.dp).1 e2⟩;rcases T1.1 e1 with e|e
 exact Tj e h.kp
 exact e
 rw[To] at h2 h3;rw[dF f hr,dF f hr,dF f hr,dF f hr,h.nm];exact v.meet j i h1 h2 h3
end
def uk(v:I2)(a:I2):I2:=(a.1+v.1,a.2+v.2)
def dA(s:Int)(a:I2):I2:=(a.1*s,a.2*s)
def FW(s:Int)(a b c:I2):ti (dA s a) (dA s b) (dA s c)=s*s*ti a b c:=by unfold ti dA; grind
def po{s x y:Int}(hs:0<s):x*s<=y*s↔x<=y:=⟨fun h=>Int.le_of_mul_le_mul_right h hs,fun h=>Uc h (Int.le_of_lt hs)⟩
def JR{s:Int}(hs:0<s){a b c:I2}:cE (dA s a) (dA s b) (dA s c)↔cE a b c:=by
 have hss:s*s≠0:=by have:=Va hs hs; omega
 have m1:∀x y z:Int,min (x*s) (y*s)<=z*s↔min x y<=z:=fun x y z=>by
  have h1:=po (x:=x) (y:=z) hs;have h2:=po (x:=y) (y:=z) hs;omega
 have m2:∀x y z:Int,z*s<=max (x*s) (y*s)↔z<=max x y:=fun x y z=>by
  have h1:=po (x:=z) (y:=x) hs;have h2:=po (x:=z) (y:=y) hs;omega
 unfold cE;rw[FW];unfold dA
 dsimp only
 rw[m1,m2,m1,m2];refine and_congr_left fun _=>⟨fun h=>?_,fun h=>by rw[h,Int.mul_zero]⟩
 rcases T1.1 h with e|e
 exact Tj e hss
 exact e
def Da{s:Int}(hs:0<s):Chg (dA s) (s*s) (s*s):=by
 have hss:=Va hs hs;refine⟨fun{a b} h=>?_,FW s,fun a b c=>by unfold di dA; grind,by omega,hss,JR hs⟩
 have h1:=TB Prod.fst h;have h2:=TB Prod.snd h;exact TZ (Int.eq_of_mul_eq_mul_right (by omega) h1) (Int.eq_of_mul_eq_mul_right (by omega) h2)
def oV(r:WB I2){i j:Nat}(h:i%r.length=j%r.length):nx r i=nx r j:=by unfold nx; rw[h]
def wy(k:Nat):I2:=[(2,0),(2,1),(1,2),(0,2),(-1,2),(-2,1),(-2,0),(-2,-1),(-1,-2),(0,-2),(1,-2),(2,-1)].getD (k%12) (0,0)
def Su(m:Int)(a:I2):I2:=(a.1*m,a.2*m)
structure Star(r:WB I2):Prop where
 n3:2<r.length
 dir:∃δ:Nat->Nat,(∀i,δ i < δ (i+1)/\δ (i+1)<=δ i+3)/\(∀i,δ (i+r.length)=δ i+12)/\∀i,∃m:Int,0<m/\nx r i=Su m (wy (δ i))
section
variable{h:Nat->Int}(hp:∀ i, 1 <= h i)
include hp
end
end Jd
end
section
namespace Go.Ab
open Go
end Go.Ab
end
section
namespace Go.Ab.W
open Go Go.Ab
section
variable{σ ρ τ:Type}
end
end Go.Ab.W
end
section
namespace Go.Ab.B
open Go Go.Ab Go.Ab.W
section
variable{α β σ ρ:Type}
def fx(a b:WA β):br true a b=a:=rfl
def fm(a b:WA β):br false a b=b:=rfl
def aL(a:WA β):gd true a=a:=rfl
def ai(x:α)(f:α->WA β):ob (some x) f=f x:=rfl
def au{p:Prop}[Decidable p](h:p)(a b:WA β):br (decide p) a b=a:=by rw[S5 h]; rfl
def V7{p:Prop}[Decidable p]{a b:WA β}(h:p:=by omega):br (decide p) a b=a:=au h a b
def av{p:Prop}[Decidable p](h:¬p)(a b:WA β):br (decide p) a b=b:=by rw[S7 h]; rfl
def V8{p:Prop}[Decidable p]{a b:WA β}(h:¬p:=by omega):br (decide p) a b=b:=av h a b
def IX(c:Bool)(a b:WA β):br c a b=if c then a else b:=by cases c<;>rfl
def kA(c d:Bool):br c (some true) (some d)=some (c||d):=by cases c<;>rfl
def da(c d:Bool):br c (some d) (some false)=some (c&&d):=by cases c<;>rfl
def eT{p:Prop}[Decidable p](h:p)(a:WA β):gd (decide p) a=a:=by rw[S5 h]; rfl
def al{i n:Nat}(h:i<n):bu (i:Int) n=true:=S5 ⟨Int.natCast_nonneg i,by simpa using h⟩
def aA{x:Int}(h1 : -9223372036854775808<=x)(h2:x<9223372036854775808):Vx x=x:=wrap_i64 x h1 (by omega)
def ak{i:Nat}(h:i<4611686018427387904):Vx ((i:Int)+1)=((i+1:Nat):Int):=by rw[aA (by omega) (by omega)]; rfl
def V9{i:Nat}(h:i<4611686018427387904:=by omega):Vx ((i:Int)+1)=((i+1:Nat):Int):=ak h
def eQ{body:σ->WA (σ⊕ρ)}{n:Nat}{s s':σ}(h:body s=some (.inl s')):bh body (n+1) s=bh body n s':=by simp only[bh,h]
def fg{body:σ->WA (σ⊕ρ)}{n:Nat}{s:σ}{r:ρ}(h:body s=some (.inr r)):bh body (n+1) s=some r:=by simp only[bh,h]
end
def eS{u v B C:Int}(hB:0<=B)(hu1 : -B<=u)(hu2:u<=B)(hv1 : -C<=v)(hv2:v<=C) : -(B*C)<=u*v/\u*v<=B*C:=by
 have hC:0<=C:=by omega
 have h1:0<=(B-u)*(C-v):=UB (by omega) (by omega)
 have h2:0<=(B+u)*(C+v):=UB (by omega) (by omega)
 have h3:0<=(B-u)*(C+v):=UB (by omega) (by omega)
 have h4:0<=(B+u)*(C-v):=UB (by omega) (by omega)
 have e1:(B-u)*(C-v)=B*C-B*v-u*C+u*v:=by rw[Int.sub_mul,Int.mul_sub,Int.mul_sub]; omega
 have e2:(B+u)*(C+v)=B*C+B*v+u*C+u*v:=by rw[Int.add_mul,Int.mul_add,Int.mul_add]; omega
 have e3:(B-u)*(C+v)=B*C+B*v-u*C-u*v:=by rw[Int.sub_mul,Int.mul_add,Int.mul_add]; omega
 have e4:(B+u)*(C-v)=B*C-B*v+u*C-u*v:=by rw[Int.add_mul,Int.mul_sub,Int.mul_sub]; omega
 omega
def wm{α:Type}[DecidableEq α]:∀{l m:WB α},l.Nodup->(∀a∈l,a∈m)->l.length<=m.length
 | [],_,_,_=>T4 _
 | a::l,m,hn,hs=>by
  obtain⟨n1,n2⟩:=Ue.1 hn;have ha:=hs a TE;have:=wm (l:=l) (m:=m.erase a) n2 fun b hb=>by
   have hne:b≠a:=fun e=>n1 (e▸hb);exact(List.mem_erase_of_ne hne).2 (hs b (Tn _ hb))
  rw[List.length_erase_of_mem ha] at this;have hp:0<m.length:=List.length_pos_of_mem ha;rw[TJ]; omega
end Go.Ab.B
end
section
namespace Jd
def Lt(a b:I2):Prop:=a.1<b.1\/a.1=b.1/\a.2<b.2
instance(a b:I2):Decidable (Lt a b):=by unfold Lt; infer_instance
def Edge(Q:I2->Prop)(a b:I2):Prop:=Lt a b/\∀q,Q q->0<=ti a b q/\(ti a b q=0->¬Lt q a/\¬Lt b q)
inductive Stk(Q:I2->Prop):WB I2->Prop
 | one {a}:(∀q,Q q->¬Lt q a)->Q a->Stk Q [a]
 | more {a b st}:Edge Q a b->Q b->Stk Q (a::st)->Stk Q (b::a::st)
def Good(S:I2->Prop)(x y:I2):Prop:=x≠y/\S y/\∀q,S q->0<ti x y q\/q=x\/q=y\/(ti x y q=0/\0<di x q y)
inductive Way(S:I2->Prop):WB I2->Prop
 | one (a):Way S [a]
 | more {a b l}:Good S a b->Way S (b::l)->Way S (a::b::l)
def KS{u v w:I2}(h1:u.1*w.2=u.2*w.1)(h2:v.1*w.2=v.2*w.1)(g1:0<u.1*w.1+u.2*w.2)(g2:0<v.1*w.1+v.2*w.2):0<u.1*v.1+u.2*v.2:=by
 have e:(u.1*w.1+u.2*w.2)*(v.1*w.1+v.2*w.2)=(u.1*v.1+u.2*v.2)*(w.1*w.1+w.2*w.2):=by grind
 have p:=Va g1 g2;rw[e] at p;have n:0<=w.1*w.1+w.2*w.2:=Int.add_nonneg O4 O4;rcases Int.lt_or_eq_of_le n with k|k
 rw[Int.mul_comm] at p; exact Int.pos_of_mul_pos_right p k
 rw[<-k,Int.mul_zero] at p; exact Tj p (by decide)
structure Hul(S:I2->Prop)(r:WB I2):Prop where
 n3:2<r.length
 good:∀i,Good S (nx r i) (nx r (i+1))
 nodup:∀i j,i<j->j<r.length->nx r i≠nx r j
section
variable{S:I2->Prop}{r:WB I2}
end
end Jd
end
section
namespace Go.Proofs.YtmndpgfbkicndaaGreat
section
open Go Go.Ab Go.Ab.W Go.Ab.B Jd
def pw(x:Int):Prop:=-9223372036854775808<=x/\x<9223372036854775808
def Fa(p:I2):Prop:=p.1 < -1000000\/1000000<p.1\/p.2 < -1000000\/1000000<p.2
instance(p:I2):Decidable (Fa p):=by unfold Fa; infer_instance
instance(a b p:I2):Decidable (cE a b p):=by unfold cE; infer_instance
def fA(a b:Int):ma a b=max a b:=by unfold ma; split<;>omega
def eK(a b:Int):mi a b=min a b:=by unfold mi; split<;>omega
def MB{x:Int}(h:pw x):Vx (0-x)=if x = -9223372036854775808 then x else -x:=by
 unfold pw at h
 split
 rename_i e; subst e; decide
 rw[aA (by omega) (by omega)]; omega
def pA(n:Nat){x y:Int}(hx:pw x)(hy:pw y):xE n x y=some (decide (Fa (x,y))):=by
 unfold xE;rw[MB hx,MB hy,ai,kA,<-U1]
 congr 1
 rw[decide_eq_decide];unfold pw at hx hy;unfold Fa
 dsimp only
 rw[fA,fA,fA,eK]
 split<;>split<;>omega
def sg(z:Int):Int:=if z<0 then -1 else if 0<z then 1 else 0
def w6(n:Nat)(x y:Int):BE n x y=some (sg (x-y)):=by
 unfold BE Jg sg;simp only[decide_true,TG,ai,fm]
 by_cases h:x<y
 rw[au h,SU (show x-y<0 by omega)]
 rw[av h,SS (show ¬x-y<0 by omega)]
 by_cases g:y<x
 rw[au g,SU (show 0<x-y by omega)]
 rw[av g,SS (show ¬0<x-y by omega)]
def Nr(p:I2):Prop:=-1000000<=p.1/\p.1<=1000000/\-1000000<=p.2/\p.2<=1000000
def u0{p:I2}:¬Fa p↔Nr p:=by unfold Fa Nr; omega
def nF(n:Nat){a b c:I2}(ha:Nr a)(hb:Nr b)(hc:Nr c):uU n a.1 a.2 b.1 b.2 c.1 c.2=some (sg (ti a b c)):=by
 unfold Nr at ha hb hc;have m1:=eS (B:=2000000) (C:=2000000) (u:=b.1-a.1) (v:=c.2-a.2) (by decide) (by omega) (by omega) (by omega) (by omega)
 have m2:=eS (B:=2000000) (C:=2000000) (u:=b.2-a.2) (v:=c.1-a.1) (by decide) (by omega) (by omega) (by omega) (by omega)
 unfold uU;rw[aA (x:=b.1-a.1) (by omega) (by omega),aA (x:=c.2-a.2) (by omega) (by omega),aA (x:=b.2-a.2) (by omega) (by omega),aA (x:=c.1-a.1) (by omega) (by omega),
  aA (by omega) (by omega),aA (by omega) (by omega),ai,ai,w6,ai]
 rfl
def iQ{z:Int}:sg z=0↔z=0:=by unfold sg; split<;>(try split)<;>omega
def sM{z:Int}:sg z<0↔z<0:=by unfold sg; split<;>(try split)<;>omega
def jE{z:Int}:0<sg z↔0<z:=by unfold sg; split<;>(try split)<;>omega
def kC(z:Int):sg z = -1\/sg z=0\/sg z=1:=by unfold sg; split<;>(try split)<;>simp
def LM(n:Nat)(r s:Int)(hn:2<n):JG n [r,s]=some (if r≠0 then r else s):=by
 obtain⟨n,rfl⟩:∃n',n=n'+3:=⟨n-3,by omega⟩
 have L0:lW (n+3) [r,s] 0=if r≠0 then some (.inr (.inl r)) else some (.inl 1):=by
  unfold lW;rw[au (by simp),show bu 0 [r,s].length=true from rfl,aL]
  show ob (some r) _=_
  rw[ai]
  by_cases h:r=0
  rw[S5 h,TG,fm,SS (by simpa using h)]; rfl
  rw[S7 h,TC,fx,SU h]
 have L1:lW (n+3) [r,s] 1=if s≠0 then some (.inr (.inl s)) else some (.inl 2):=by
  unfold lW;rw[au (by simp),show bu 1 [r,s].length=true from rfl,aL]
  show ob (some s) _=_
  rw[ai]
  by_cases h:s=0
  rw[S5 h,TG,fm,SS (by simpa using h)]; rfl
  rw[S7 h,TC,fx,SU h]
 have L2:lW (n+3) [r,s] 2=some (.inr (.inr ())):=by
  unfold lW;rw[av (by simp)]
 unfold JG
 by_cases h:r=0
 rw[SS (by simpa using h)] at L0 ⊢
 rw[eQ L0]
 by_cases g:s=0
 rw[SS (by simpa using g)] at L1
 rw[eQ L1,fg L2,ai,g]
 rw[SU g] at L1;rw[fg L1,ai]
 rw[SU h] at L0 ⊢;rw[fg L0,ai]
def Rl(a b:I2):Int:=if sg (a.1-b.1)≠0 then sg (a.1-b.1) else sg (a.2-b.2)
def xX(n:Nat)(a b:I2)(hn:2<n):xC n a.1 a.2 b.1 b.2=some (Rl a b):=by
 unfold xC;rw[w6,ai,w6,ai,LM n _ _ hn,ai]; rfl
def xj{a b:I2}:Rl a b<=0↔Lx a b:=by
 unfold Rl Lx;have h1:=iQ (z:=a.1-b.1);have h2:=jE (z:=a.1-b.1);have h3:=jE (z:=a.2-b.2)
 split<;>omega
def Cb(n:Nat)(e:Int){a b p:I2}(ha:Nr a)(hb:Nr b)(hp:Nr p)(hab:a≠b)(hn:2<n):EZ n e a.1 a.2 b.1 b.2 p.1 p.2=some (decide (cE a b p)):=by
 unfold EZ;rw[nF n ha hb hp,ai]
 by_cases h0:ti a b p=0
 rw[S5 (iQ.2 h0),TG,fm,xX n a b hn,ai];have key:∀{u v:I2},u≠v->Lx u v->ti u v p=0->(ob (xC n u.1 u.2 p.1 p.2) fun r28=>br (decide (r28<=0)) (ob (xC n p.1 p.2 v.1 v.2) fun r31=>some (decide (r31<=0))) (some false))=some (decide (cE u v p)):=fun{u v} huv hl ht=>by
  rw[xX n u p hn,ai,xX n p v hn,ai,da,<-Ty]
  congr 1
  rw[decide_eq_decide,On huv hl,xj,xj];exact⟨fun h=>⟨ht,h⟩,fun h=>h.2⟩
 by_cases hl:0<Rl a b
 rw[au hl,ai];have hl':Lx b a:=by
  have:¬Lx a b:=fun h=>by have:=xj.2 h; omega
  unfold Lx at this ⊢; omega
 have:=key hab.symm hl' (by rw[iR,h0]; rfl)
 dsimp only
 rw[this]
 congr 1
 rw[decide_eq_decide]; exact yT
 rw[av hl,ai];exact key hab (xj.1 (by omega)) h0
 rw[S7 (fun h=>h0 (iQ.1 h)),TC,fx,S7 fun h=>h0 h.1]
def oD{α β:Type}[DecidableEq α](k:α):∀(xs:WB (α×β)) (i:Nat),(cT k xs i=none/\k∉xs.map Prod.fst)\/∃j v,cT k xs i=some (i+j,v)/\(xs[j]?).map Prod.fst=some k
 | [],_=>.inl ⟨rfl,by simp⟩
 | e::es,i=>by
  unfold cT
  by_cases h:k=e.1
  rw[SU h]; exact .inr ⟨0,e.2,rfl,by rw[h]; rfl⟩
  rw[SS h];rcases oD k es (i+1) with⟨h1,h2⟩|⟨j,v,h1,h2⟩
  exact .inl ⟨h1,fun g=>by
   rw[Ub,Tq] at g;exact g.elim h h2⟩
  exact .inr ⟨j+1,v,by rw[h1,show i+1+j=i+(j+1) by omega],h2⟩
def p9{α β:Type}[DecidableEq α](xs:WB (α×β))(k:α)(v:β):(gS xs k v).map Prod.fst=if k∈xs.map Prod.fst then xs.map Prod.fst else xs.map Prod.fst++[k]:=by
 unfold gS;rcases oD k xs 0 with⟨h1,h2⟩|⟨j,w,h1,h2⟩
 rw[h1,SS h2]; simp
 rw[h1,Tw];have hj:j<xs.length:=by
  refine SV fun hc=>?_;rw[TV (by omega)] at h2; cases h2
 have e:(xs.map Prod.fst)[j]? = some k:=by rw[TT]; exact h2
 rw[SU (Td e),List.map_set];refine T6 fun t=>?_;rw[Us]
 by_cases ht:j=t
 subst ht;rw[SU rfl,SU (by rw[To]; exact hj),e]
 rw[SS ht]
def yy(a b c d:I2)(l:WB (I2×Bool))(x:I2):WB (I2×Bool):=if cE a b x/\cE c d x then gS l x true else l
def Ak{a b c d:I2}:∀(xs:WB I2) (l:WB (I2×Bool)),(l.map Prod.fst).Nodup->((xs.foldl (yy a b c d) l).map Prod.fst).Nodup/\∀q,q ∈(xs.foldl (yy a b c d) l).map Prod.fst↔q∈l.map Prod.fst\/(q∈xs/\cE a b q/\cE c d q)
 | [],l,hn=>⟨hn,fun q=>by simp⟩
 | x::xs,l,hn=>by
  rw[List.foldl_cons];have key:((yy a b c d l x).map Prod.fst).Nodup/\∀q,q ∈(yy a b c d l x).map Prod.fst↔q∈l.map Prod.fst\/(q=x/\cE a b q/\cE c d q):=by
   unfold yy
   by_cases h:cE a b x/\cE c d x
   rw[SU h,p9]
   by_cases g:x∈l.map Prod.fst
   rw[SU g];exact⟨hn,fun q=>⟨.inl,fun e=>e.elim id fun e=>e.1▸g⟩⟩
   rw[SS g];refine⟨List.nodup_append.2 ⟨hn,by simp,fun u hu v hv=>?_⟩,fun q=>?_⟩
   rw[S6] at hv;intro e; rw[e,hv] at hu; exact g hu
   rw[Tk,S6];exact⟨fun e=>e.elim .inl fun e=>.inr ⟨e,e▸h⟩,fun e=>e.elim .inl fun e=>.inr e.1⟩
   rw[SS h];exact⟨hn,fun q=>⟨.inl,fun e=>e.elim id fun⟨e,g⟩=>Tj (e▸g) h⟩⟩
  obtain⟨k1,k2⟩:=key;obtain⟨r1,r2⟩:=Ak xs _ k1;refine⟨r1,fun q=>?_⟩;rw[r2,k2,Tq];constructor
  rintro((h|⟨rfl,h⟩) |⟨h,g⟩)
  exact .inl h
  exact .inr ⟨.inl rfl,h⟩
  exact .inr ⟨.inr h,g⟩
  rintro(h|⟨rfl|h,g⟩)
  exact .inl (.inl h)
  exact .inl (.inr ⟨rfl,g⟩)
  exact .inr ⟨h,g⟩
def rC(n:Nat)(e f:Int){a b c d x:I2}(ha:Nr a)(hb:Nr b)(hc:Nr c)(hd:Nr d)(hx:Nr x)(hab:a≠b)(hcd:c≠d)(hn:2<n)(l:WB (I2×Bool)){i:Nat}(hi:i<4)(he:[a,b,c,d][i]? = some x) :
  mq n a.1 a.2 b.1 b.2 c.1 c.2 d.1 d.2 e f (l,(i:Int))=some (.inl (yy a b c d l x,((i+1:Nat):Int))):=by
 unfold mq
 dsimp only
 rw[V7,al hi,aL,Ti]
 have:[(a.1,a.2),(b.1,b.2),(c.1,c.2),(d.1,d.2)][i]? = some (x.1,x.2):=he;rw[this,ai]
 dsimp only
 rw[Cb n e ha hb hx hab hn,ai,Cb n f hc hd hx hcd hn,ai,da,ai,V9]
 unfold yy
 by_cases h:cE a b x/\cE c d x
 rw[S5 h.1,S5 h.2,SU h]; rfl
 rw[SS h,<-Ty,S7 h]; rfl
def CU(n:Nat)(e f:Int){a b c d:I2}(ha:Nr a)(hb:Nr b)(hc:Nr c)(hd:Nr d)(hab:a≠b)(hcd:c≠d)(hn:5<n):DB n e a.1 a.2 b.1 b.2 f c.1 c.2 d.1 d.2=some (ux a b c d):=by
 classical
 unfold DB;rw[nF n ha hb hc,ai,nF n ha hb hd,ai,nF n hc hd ha,ai,nF n hc hd hb,ai];have L:bh (mq n a.1 a.2 b.1 b.2 c.1 c.2 d.1 d.2 e f) n ([],0)=some ([a,b,c,d].foldl (yy a b c d) []):=by
  obtain⟨m,hm⟩:∃m,n=m+5:=⟨n-5,by omega⟩
  have L5:∀l,mq n a.1 a.2 b.1 b.2 c.1 c.2 d.1 d.2 e f (l,((4:Nat):Int))=some (.inr l):=fun l=>by
   unfold mq
   dsimp only
   rw[av (by decide)]
  have h0:=rC n e f ha hb hc hd ha hab hcd (by omega) [] (i:=0) (by decide) rfl
  have h1:=rC n e f ha hb hc hd hb hab hcd (by omega) (yy a b c d [] a) (i:=1) (by decide) rfl
  have h2:=rC n e f ha hb hc hd hc hab hcd (by omega) (yy a b c d (yy a b c d [] a) b) (i:=2) (by decide) rfl
  have h3:=rC n e f ha hb hc hd hd hab hcd (by omega) (yy a b c d (yy a b c d (yy a b c d [] a) b) c) (i:=3) (by decide) rfl
  have:∀body:(WB (I2×Bool)×Int)->WA ((WB (I2×Bool)×Int)⊕WB (I2×Bool)),body=mq n a.1 a.2 b.1 b.2 c.1 c.2 d.1 d.2 e f->bh body n ([],0)=some ([a,b,c,d].foldl (yy a b c d) []):=fun body hbd=>by
   rw[<-hbd] at h0 h1 h2 h3 L5;rw[hm,show(0:Int)=((0:Nat):Int) from rfl,eQ h0,eQ h1,eQ h2,eQ h3,fg (L5 _)]
   rfl
  exact this _ rfl
 obtain⟨k1,k2⟩:=Ak (a:=a) (b:=b) (c:=c) (d:=d) [a,b,c,d] [] (by simp)
 have hlen:([a,b,c,d].foldl (yy a b c d) []).length=(([a,b,c,d].foldl (yy a b c d) []).map Prod.fst).length:=by rw[To]
 rw[L,ai];generalize [a,b,c,d].foldl (yy a b c d) []=l at *;have kc:∀q,q∈l.map Prod.fst↔lV a b c d q:=fun q=>by
  rw[k2];unfold lV;constructor
  rintro(h|⟨h,g⟩)
  simp at h
  exact⟨by simpa only[Tq,List.not_mem_nil,or_false] using h,g⟩
  rintro⟨h,g⟩;exact .inr ⟨by simpa only[Tq,List.not_mem_nil,or_false] using h,g⟩
 rw[ai,ai,hlen];generalize l.map Prod.fst=ks at *;unfold ux
 by_cases h2:∃x y,lV a b c d x/\lV a b c d y/\x≠y
 obtain⟨x,y,hx,hy,hne⟩:=h2;have:=wm (l:=[x,y]) (m:=ks) (by simp[hne]) fun q hq=>by
  simp only[Tq,List.not_mem_nil,or_false] at hq;rcases hq with rfl|rfl
  exact(kc _).2 hx
  exact(kc _).2 hy
 have hl:2<=ks.length:=this;rw[V7,SU ⟨x,y,hx,hy,hne⟩]
 ·have hl1:ks.length<=1:=by
   match ks,k1,kc with
   | [],_,_=>exact T4 _
   | [_],_,_=>exact S0 _
   | x::y::t,k1,kc =>
    refine Tj ⟨x,y,(kc x).1 (by simp),(kc y).1 (by simp),?_⟩ h2
    intro e; subst e; simp at k1
  rw[SS h2,V8]
  by_cases h1:∃x,lV a b c d x
  obtain⟨x,hx⟩:=h1;have:0<ks.length:=List.length_pos_of_mem ((kc x).2 hx);rw[SU ⟨x,hx⟩,V7]
  ·have:ks.length=0:=by
    match ks,kc with
    | [],_=>rfl
    | x::t,kc=>exact Tj ⟨x,(kc x).1 (by simp)⟩ h1
   rw[SS h1,V8]
   have w:∀u v:Int,Vx (sg u*sg v)=sg u*sg v:=fun u v=>by
    have h1:=kC u;have h2:=kC v;rcases h1 with h1|h1|h1<;>rcases h2 with h2|h2|h2<;>rw[h1,h2]<;>decide
   have s:∀u v:Int,sg u*sg v<0↔(0<u/\v<0)\/(u<0/\0<v):=fun u v=>by
    have a1:=sM (z:=u);have a2:=jE (z:=u);have b1:=sM (z:=v);have b2:=jE (z:=v);have h1:=kC u;have h2:=kC v;rcases h1 with h1|h1|h1<;>rcases h2 with h2|h2|h2<;>rw[h1] at a1 a2 ⊢<;>rw[h2] at b1 b2 ⊢<;>omega
   rw[w,w,da,ai,IX]
   by_cases hx:zC a b c d
   rw[SU hx,SU];unfold zC at hx;rw[SY,S9,S9,s,s];exact hx
   rw[SS hx,SS];rw[SY,S9,S9,s,s];exact hx
def Mc(n:Nat){a b c d:I2}(ha:pw a.1/\pw a.2)(hb:pw b.1/\pw b.2)(hc:pw c.1/\pw c.2)(hd:pw d.1/\pw d.2)(hn:5<n) :
  Gn n a.1 a.2 b.1 b.2 c.1 c.2 d.1 d.2=some (if Fa a\/Fa b\/Fa c\/Fa d\/a=b\/c=d then(0,2) else(ux a b c d,0)):=by
 classical
 unfold Gn;rw[pA n ha.1 ha.2,pA n hb.1 hb.2,pA n hc.1 hc.2,pA n hd.1 hd.2,ai,ai,ai,ai,kA,kA,kA,kA,kA,ai];have e1:(decide (a.1=b.1)&&decide (a.2=b.2))=decide (a=b):=by
  rw[<-Ty,decide_eq_decide]; exact⟨fun h=>TZ h.1 h.2,fun h=>by subst h; exact⟨rfl,rfl⟩⟩
 have e2:(decide (c.1=d.1)&&decide (c.2=d.2))=decide (c=d):=by
  rw[<-Ty,decide_eq_decide]; exact⟨fun h=>TZ h.1 h.2,fun h=>by subst h; exact⟨rfl,rfl⟩⟩
 rw[e1,e2,IX];have hd:(decide (Fa (a.1,a.2)) ||(decide (Fa (b.1,b.2)) ||(decide (Fa (c.1,c.2)) ||(decide (Fa (d.1,d.2)) ||(decide (a=b)||decide (c=d))))))=decide (Fa a\/Fa b\/Fa c\/Fa d\/a=b\/c=d):=by
  simp only[U1]
 rw[hd]
 by_cases h:Fa a\/Fa b\/Fa c\/Fa d\/a=b\/c=d
 rw[SU (S5 h),SU h]
 rw[SS (by simpa using h),SS h]
 simp only[not_or] at h;obtain⟨h1,h2,h3,h4,h5,h6⟩:=h;rw[CU n 0 0 (u0.1 h1) (u0.1 h2) (u0.1 h3) (u0.1 h4) h5 h6 hn,ai]
end
section
open Go Go.Ab Go.Ab.W Go.Ab.B Jd
def bI{ρ:Type}(f:Nat->WA ρ)(e:ρ):Nat->Nat->ρ
 | 0,_=>e
 | k+1,i=>match f i with
  | some r=>r
  | none=>bI f e k (i+1)
def bp{ρ:Type}{B:Int->WA (Int⊕ρ)}{f:Nat->WA ρ}{e:ρ}{len:Nat}(hB:∀i:Nat,i<len->B (i:Int)=some (match f i with|some r=>.inr r|none=>.inl ((i+1:Nat):Int)))(hE:B (len:Int)=some (.inr e)) :
  ∀(k i n:Nat),i+k=len->k<n->bh B n (i:Int)=some (bI f e k i)
 | 0,i,n+1,h,_=>by
  rw[Ui] at h; subst h;simp only[bh,hE,bI]
 | k+1,i,n+1,h,hn=>by
  have:=hB i (by omega)
  simp only[bh,this,bI];cases hf:f i with
  | some r=>rfl
  | none=>exact bp hB hE k (i+1) n (by omega) (by omega)
def cK{ρ:Type}{f:Nat->WA ρ}{e:ρ}:∀(k i:Nat),((∀j,i<=j->j<i+k->f j=none)/\bI f e k i=e)\/∃j,i<=j/\j<i+k/\f j=some (bI f e k i)
 | 0,i=>.inl ⟨fun j h1 h2=>by omega,rfl⟩
 | k+1,i=>by
  cases hf:f i with
  | some r=>exact .inr ⟨i,by omega,by omega,by simp only[bI,hf]⟩
  | none =>
   have e1:bI f e (k+1) i=bI f e k (i+1):=by simp only[bI,hf]
   rw[e1];rcases cK (f:=f) (e:=e) k (i+1) with⟨h1,h2⟩|⟨j,h1,h2,h3⟩
   refine .inl ⟨fun j a b=>?_,h2⟩
   by_cases e:j=i
   rw[e]; exact hf
   exact h1 j (by omega) (by omega)
   exact .inr ⟨j,by omega,by omega,h3⟩
def eO{l:WB I2}{i:Nat}(h:i<l.length):l[((i:Nat):Int).toNat]? = some ((nx l i).1,(nx l i).2):=by
 rw[Ti,SR h];unfold nx;rw[UD h,SZ,SR h]; rfl
def iB(m n:Nat):Int.tmod (m:Int) (n:Int)=((m%n:Nat):Int):=rfl
def vn{l:WB I2}{i:Nat}:nx l (i%l.length)=nx l i:=by unfold nx; rw[Nat.mod_mod]
def Ib(n:Nat)(p:I2):O5 n p.1 p.2=some (decide (Fa p)):=by
 unfold O5 Fa;rw[kA,kA,kA,<-U1,<-U1,<-U1]
def nq(n:Nat){l:WB I2}(i:Nat)(h:l≠[]):uM n l (i:Int)=some ((nx l i).1,(nx l i).2):=by
 have hl:0<l.length:=List.length_pos_iff.2 h;have hm:i%l.length<l.length:=TY _ hl;unfold uM;rw[S5 (show((l.length:Nat):Int)≠0 by omega),aL,iB,al hm,aL,eO hm,ai,vn]
def nj(n:Nat){a b c:I2}(ha:Nr a)(hb:Nr b)(hc:Nr c):qo n a.1 a.2 b.1 b.2 c.1 c.2=some (ti a b c):=by
 unfold Nr at ha hb hc;have m1:=eS (B:=2000000) (C:=2000000) (u:=b.1-a.1) (v:=c.2-a.2) (by decide) (by omega) (by omega) (by omega) (by omega)
 have m2:=eS (B:=2000000) (C:=2000000) (u:=b.2-a.2) (v:=c.1-a.1) (by decide) (by omega) (by omega) (by omega) (by omega)
 unfold qo;rw[aA (x:=b.1-a.1) (by omega) (by omega),aA (x:=c.2-a.2) (by omega) (by omega),aA (x:=b.2-a.2) (by omega) (by omega),aA (x:=c.1-a.1) (by omega) (by omega),
  aA (by omega) (by omega),aA (by omega) (by omega),ai,ai,aA (by omega) (by omega)]
 rfl
def PZ{a b c:I2}(ha:Nr a)(hb:Nr b)(hc:Nr c):Vx (Vx ((Vx (b.1-a.1))*(Vx (c.1-b.1)))+Vx ((Vx (b.2-a.2))*(Vx (c.2-b.2))))=di a b c:=by
 unfold Nr at ha hb hc;have m1:=eS (B:=2000000) (C:=2000000) (u:=b.1-a.1) (v:=c.1-b.1) (by decide) (by omega) (by omega) (by omega) (by omega)
 have m2:=eS (B:=2000000) (C:=2000000) (u:=b.2-a.2) (v:=c.2-b.2) (by decide) (by omega) (by omega) (by omega) (by omega)
 rw[aA (x:=b.1-a.1) (by omega) (by omega),aA (x:=c.1-b.1) (by omega) (by omega),aA (x:=b.2-a.2) (by omega) (by omega),aA (x:=c.2-b.2) (by omega) (by omega),
  aA (x:=(b.1-a.1)*(c.1-b.1)) (by omega) (by omega),aA (x:=(b.2-a.2)*(c.2-b.2)) (by omega) (by omega),aA (by omega) (by omega)]
 rfl
def JT(n:Nat){a b c:I2}(ha:Nr a)(hb:Nr b)(hc:Nr c):Fh n a.1 a.2 b.1 b.2 c.1 c.2=some (di a b c):=by
 unfold Fh;rw[ai,ai,PZ ha hb hc]
def rz(n:Nat)(z:Int):zJ n z=some (sg z):=by
 unfold zJ sg
 by_cases h:0<z
 rw[au h,Vz,SU h]
 rw[av h,SS h]
 by_cases g:z<0
 rw[au g,SU g]
 rw[av g,SS g]
def rD(n:Nat){a b p:I2}(ha:Nr a)(hb:Nr b)(hp:Nr p):sB n a.1 a.2 b.1 b.2 p.1 p.2=some (decide (cE a b p)):=by
 unfold sB;rw[nj n ha hb hp,ai]
 by_cases h:ti a b p=0
 rw[S5 h,TG,fm,da,da,da,fA,fA,eK,eK,<-Ty,<-Ty,<-Ty]
 congr 1
 rw[decide_eq_decide];unfold cE;exact⟨fun g=>⟨h,g⟩,fun g=>g.2⟩
 rw[S7 h,TC,fx,S7 fun g=>h g.1]
def MJ{a b c d:I2}(ha:Nr a)(hb:Nr b)(hc:Nr c)(hd:Nr d) :
  Vx ((ma (mi a.1 b.1) (mi c.1 d.1))-(mi (ma a.1 b.1) (ma c.1 d.1)))=max (min a.1 b.1) (min c.1 d.1)-min (max a.1 b.1) (max c.1 d.1) /\
  Vx ((ma (mi a.2 b.2) (mi c.2 d.2))-(mi (ma a.2 b.2) (ma c.2 d.2)))=max (min a.2 b.2) (min c.2 d.2)-min (max a.2 b.2) (max c.2 d.2):=by
 unfold Nr at ha hb hc hd;simp only[fA,eK];exact⟨aA (by omega) (by omega),aA (by omega) (by omega)⟩
def CX(x y:Int):Vx (sg x*sg y)=sg x*sg y:=by
 rcases kC x with h|h|h<;>rcases kC y with g|g|g<;>rw[h,g]<;>decide
def w9(x y:Int):sg x*sg y<0↔(0<x/\y<0)\/(x<0/\0<y):=by
 unfold sg
 split<;>split<;>(try split)<;>(try split)<;>omega
def CJ(n:Nat){a b c d:I2}(ha:Nr a)(hb:Nr b)(hc:Nr c)(hd:Nr d)(hab:a≠b)(hcd:c≠d):Ek n a.1 a.2 b.1 b.2 c.1 c.2 d.1 d.2=some (ux a b c d):=by
 classical
 rw[JY hab hcd];unfold Ek;rw[nj n ha hb hc,ai,rz,ai,nj n ha hb hd,ai,rz,ai,nj n hc hd ha,ai,rz,ai,nj n hc hd hb,ai,rz,ai,da,ai,<-Ty];rw[(MJ ha hb hc hd).1,(MJ ha hb hc hd).2]
 by_cases h:JH a b c d
 have h':sg (ti a b c)=0/\sg (ti a b d)=0:=⟨iQ.2 h.1,iQ.2 h.2⟩;rw[au h',SU h];have hl:(ob (some (max (min a.1 b.1) (min c.1 d.1)-min (max a.1 b.1) (max c.1 d.1))) fun y54=>ob (br (decide (a.1=b.1)) (ob (some (max (min a.2 b.2) (min c.2 d.2)-min (max a.2 b.2) (max c.2 d.2))) fun y61=>some y61) (some y54)) fun v59=>br (decide (0<v59)) (some (0:Int)) (br (decide (v59=0)) (some 1) (some 3)))
   = br (decide (0<low a b c d)) (some 0) (br (decide (low a b c d=0)) (some 1) (some 3)):=by
  unfold low
  by_cases e:a.1=b.1
  rw[ai,au e,ai,ai,SU e]
  rw[ai,av e,ai,SS e]
 rw[hl]
 by_cases g:0<low a b c d
 rw[au g,SU g]
 rw[av g,SS g]
 by_cases k:low a b c d=0
 rw[au k,SU k]
 rw[av k,SS k]
 have h':¬(sg (ti a b c)=0/\sg (ti a b d)=0):=fun g=>h ⟨iQ.1 g.1,iQ.1 g.2⟩;rw[av h',SS h,CX,CX,da,ai,<-Ty]
 by_cases g:zC a b c d
 have g':sg (ti a b c)*sg (ti a b d)<0/\sg (ti c d a)*sg (ti c d b)<0:=⟨(w9 _ _).2 g.1,(w9 _ _).2 g.2⟩;rw[au g',SU g]
 have g':¬(sg (ti a b c)*sg (ti a b d)<0/\sg (ti c d a)*sg (ti c d b)<0):=fun k=>g ⟨(w9 _ _).1 k.1,(w9 _ _).1 k.2⟩;rw[av g',SS g,rD n ha hb hc,rD n ha hb hd,rD n hc hd ha,rD n hc hd hb];simp only[ai,kA,<-U1]
 by_cases k:cE a b c\/cE a b d\/cE c d a\/cE c d b
 rw[au k,SU k]
 rw[av k,SS k]
end
section
open Go Go.Ab Go.Ab.W Go.Ab.B Jd
def jI(l:WB I2)(i:Nat):WA (Int⊕WC):=if Fa (nx l i) then some (.inl (i:Int)) else none
def gP(l:WB I2)(i:Nat):WA (Int⊕WC):=if nx l i=nx l (i+1) then some (.inl (i:Int)) else none
def iE(l:WB I2)(i:Nat):WA (Int⊕WC):=if ti (nx l (i+l.length-1)) (nx l i) (nx l (i+1))=0/\di (nx l (i+l.length-1)) (nx l i) (nx l (i+1))<0 then some (.inl (i:Int)) else none
def uC(l:WB I2)(i j:Nat):Prop:=¬(j=0/\i=l.length-1)/\ux (nx l j) (nx l (j+1)) (nx l i) (nx l (i+1))≠0
open Classical in
noncomputable def iG (l:WB I2) (i:Nat):WA (Int⊕WC):=if ∃j,j+1<i/\uC l i j then some (.inl (i:Int)) else none
noncomputable def pO (l:WB I2):Int×Int :=
 if l.length<3\/40<l.length then(1,0) else
 match bI (jI l) (.inr ()) l.length 0 with
 | .inl v=>(2,v)
 | .inr _=>match bI (gP l) (.inr ()) l.length 0 with
  | .inl v=>(3,v)
  | .inr _=>match bI (iE l) (.inr ()) l.length 0 with
   | .inl v=>(4,v)
   | .inr _=>match bI (iG l) (.inr ()) l.length 0 with
    | .inl v=>(5,v)
    | .inr _=>(0,0)
section
variable{l:WB I2}(n:Nat)
def sV(p q:I2):(decide (p.1=q.1)&&decide (p.2=q.2))=decide (p=q):=by
 rw[<-Ty,decide_eq_decide]; exact⟨fun h=>TZ h.1 h.2,fun h=>by subst h; exact⟨rfl,rfl⟩⟩
def DT(hn:l.length<n)(hl:l.length<100):bh (sZ n l) n 0=some (bI (jI l) (.inr ()) l.length 0):=by
 refine bp (len:=l.length) (fun i hi=>?_) ?_ l.length 0 n (by omega) hn
 unfold sZ jI
 dsimp only
 rw[V7,al hi,aL,eO hi,ai]
 dsimp only
 rw[Ib,ai,V9]
 by_cases h:Fa (nx l i)
 rw[au h,SU h]
 rw[av h,SS h]
 unfold sZ
 dsimp only
 rw[V8]
def EC(h64:∀i,pw (nx l i).1/\pw (nx l i).2)(hn:l.length<n)(hl:l.length<100):bh (tZ n l) n 0=some (bI (jI l) (.inr ()) l.length 0):=by
 refine bp (len:=l.length) (fun i hi=>?_) ?_ l.length 0 n (by omega) hn
 unfold tZ jI
 dsimp only
 rw[V7,al hi,aL,eO hi,ai]
 dsimp only
 rw[pA n (h64 i).1 (h64 i).2,ai,V9]
 by_cases h:Fa (nx l i)
 rw[au (show Fa ((nx l i).1,(nx l i).2) from h),SU h]
 rw[av (show ¬Fa ((nx l i).1,(nx l i).2) from h),SS h]
 unfold tZ
 dsimp only
 rw[V8]
def D4(hn:l.length<n)(hl:l.length<100):bh (sD n l) n 0=some (bI (gP l) (.inr ()) l.length 0):=by
 refine bp (len:=l.length) (fun i hi=>?_) ?_ l.length 0 n (by omega) hn
 have hne:l≠[]:=by rintro rfl; cases hi
 unfold sD gP
 dsimp only
 rw[V7,al hi,aL,eO hi,ai]
 dsimp only
 rw[V9,nq n (i+1) hne,ai]
 dsimp only
 rw[sV]
 by_cases h:nx l i=nx l (i+1)
 rw[au h,SU h]
 rw[av h,SS h]
 unfold sD
 dsimp only
 rw[V8]
def kH(i:Nat)(hi:i<l.length)(hl:l.length<100){β:Type}(K:Int×Int->WA β) :
  gd (decide ((l.length:Int)≠0)) (gd (bu (Int.tmod ((i+1:Nat):Int) (l.length:Int)) l.length) (ob (l[(Int.tmod ((i+1:Nat):Int) (l.length:Int)).toNat]?) K))=K ((nx l (i+1)).1,(nx l (i+1)).2):=by
 have hm:(i+1)%l.length<l.length:=TY _ (by omega)
 rw[S5 (show((l.length:Nat):Int)≠0 by omega),aL,iB,al hm,aL,eO hm,ai,vn]
def DK(hn:l.length<n)(hl:l.length<100):bh (rT n l) n 0=some (bI (gP l) (.inr ()) l.length 0):=by
 refine bp (len:=l.length) (fun i hi=>?_) ?_ l.length 0 n (by omega) hn
 unfold rT gP
 dsimp only
 rw[V7,al hi,aL,eO hi,ai]
 dsimp only
 rw[V9,kH i hi hl]
 dsimp only
 rw[sV]
 by_cases h:nx l i=nx l (i+1)
 rw[au h,SU h]; rfl
 rw[av h,SS h]; rfl
 unfold rT
 dsimp only
 rw[V8]
def DL(hnr:∀i,Nr (nx l i))(hn:l.length<n)(hl:l.length<100):bh (sF n l) n 0=some (bI (iE l) (.inr ()) l.length 0):=by
 refine bp (len:=l.length) (fun i hi=>?_) ?_ l.length 0 n (by omega) hn
 have hne:l≠[]:=by rintro rfl; cases hi
 have e1:Vx ((Vx ((i:Int)+(l.length:Int)))-1)=((i+l.length-1:Nat):Int):=by
  rw[aA (x:=(i:Int)+(l.length:Int)) (by omega) (by omega),aA (by omega) (by omega)]; omega
 unfold sF iE
 dsimp only
 rw[V7,e1,nq n _ hne,ai]
 dsimp only
 rw[al hi,aL,eO hi,ai]
 dsimp only
 rw[V9,nq n (i+1) hne,ai]
 dsimp only
 rw[nj n (hnr _) (hnr _) (hnr _),ai,JT n (hnr _) (hnr _) (hnr _),ai,da,ai,<-Ty]
 by_cases h:ti (nx l (i+l.length-1)) (nx l i) (nx l (i+1))=0/\di (nx l (i+l.length-1)) (nx l i) (nx l (i+1))<0
 rw[au h,SU h]
 rw[av h,SS h]
 unfold sF
 dsimp only
 rw[V8]
def DH(hnr:∀i,Nr (nx l i))(hn:l.length<n)(hl:l.length<100):bh (sU n l) n 0=some (bI (iE l) (.inr ()) l.length 0):=by
 refine bp (len:=l.length) (fun i hi=>?_) ?_ l.length 0 n (by omega) hn
 have hm:(i+l.length-1)%l.length<l.length:=TY _ (by omega)
 have e1:Vx ((Vx ((i:Int)+(l.length:Int)))-1)=((i+l.length-1:Nat):Int):=by
  rw[aA (x:=(i:Int)+(l.length:Int)) (by omega) (by omega),aA (by omega) (by omega)]; omega
 unfold sU iE
 dsimp only
 rw[V7,al hi,aL,eO hi,ai]
 dsimp only
 rw[V9,kH i hi hl]
 dsimp only
 rw[e1,S5 (show((l.length:Nat):Int)≠0 by omega),aL,iB,ai,al hm,aL,eO hm,vn,ai]
 dsimp only
 rw[nF n (hnr _) (hnr _) (hnr _),ai,ai,ai,PZ (hnr _) (hnr _) (hnr _),da,ai,<-Ty]
 by_cases h:ti (nx l (i+l.length-1)) (nx l i) (nx l (i+1))=0/\di (nx l (i+l.length-1)) (nx l i) (nx l (i+1))<0
 rw[au (show _/\_ from⟨iQ.2 h.1,h.2⟩),SU h]; rfl
 rw[av (fun g=>h ⟨iQ.1 g.1,g.2⟩),SS h]; rfl
 unfold sU
 dsimp only
 rw[V8]
end
end
section
open Go Go.Ab Go.Ab.W Go.Ab.B Jd
section
variable{l:WB I2}(n:Nat)
open Classical in
noncomputable def DU {ρ:Type} (l:WB I2) (r:ρ) (i j:Nat):WA ρ:=if uC l i j then some r else none
def IW{ρ:Type}{r e:ρ}(hre:r≠e){i:Nat}:(bI (DU l r i) e (i-1) 0=r/\∃j,j+1<i/\uC l i j)\/(bI (DU l r i) e (i-1) 0=e/\¬∃j,j+1<i/\uC l i j):=by
 classical
 rcases cK (f:=DU l r i) (e:=e) (i-1) 0 with⟨h1,h2⟩|⟨j,_,h2,h3⟩
 refine .inr ⟨h2,?_⟩;rintro⟨j,hj,hh⟩;have:=h1 j (by omega) (by omega)
 unfold DU at this;rw[SU hh] at this;cases this
 unfold DU at h3
 split at h3
 rename_i hh;exact .inl ⟨(SX h3).symm,j,by omega,hh⟩
 cases h3
def D5(hnr:∀i,Nr (nx l i))(hst:∀i,nx l i≠nx l (i+1)){i:Nat}(hi:i<l.length)(hn:l.length<n)(hl:l.length<100):bh (si n (i:Int) l) n 0=some (bI (DU l (.inl ()) i) (.inr ()) (i-1) 0):=by
 classical
 have hne:l≠[]:=by rintro rfl; cases hi
 refine bp (len:=i-1) (fun j hj=>?_) ?_ (i-1) 0 n (by omega) (by omega)
 have e1:Vx ((l.length:Int)-1)=(l.length:Int)-1:=aA (by omega) (by omega)
 unfold si DU
 dsimp only
 rw[V9,V7,da,ai,e1,<-Ty]
 by_cases h:(j:Int)=0/\(i:Int)=(l.length:Int)-1
 rw[au h,ai,SS (fun g:uC l i j=>g.1 ⟨by omega,by omega⟩)]
 rw[av h,al (by omega),aL,eO (by omega),ai]
 dsimp only
 rw[al (by omega),aL,eO (by omega),ai]
 dsimp only
 rw[al hi,aL,eO hi,ai]
 dsimp only
 rw[V9,nq n (i+1) hne,ai]
 dsimp only
 rw[CJ n (hnr _) (hnr _) (hnr _) (hnr _) (hst _) (hst _),ai]
 by_cases g:ux (nx l j) (nx l (j+1)) (nx l i) (nx l (i+1))=0
 rw[S5 g,TG,fm,ai,SS (fun k:uC l i j=>k.2 g)]
 rw[S7 g,TC,fx,ai,SU (show uC l i j from⟨fun k=>h ⟨by omega,by omega⟩,g⟩)]
 unfold si
 dsimp only
 rw[V9,V8]
def Ey(hnr:∀i,Nr (nx l i))(hst:∀i,nx l i≠nx l (i+1)){i:Nat}(hi:i<l.length)(hn:l.length<n)(h5:5<n)(hl:l.length<100) :
  bh (ui n l (i:Int) (nx l i).1 (nx l i).2 (nx l (i+1)).1 (nx l (i+1)).2) n 0=some (bI (DU l (.inr (.inl ())) i) (.inl ()) (i-1) 0):=by
 classical
 have hne:l≠[]:=by rintro rfl; cases hi
 have e0:Vx ((i:Int)-1)=(i:Int)-1:=aA (by omega) (by omega)
 refine bp (len:=i-1) (fun j hj=>?_) ?_ (i-1) 0 n (by omega) (by omega)
 ·have e1:Vx ((l.length:Int)-1)=(l.length:Int)-1:=aA (by omega) (by omega)
  unfold ui DU
  dsimp only
  rw[V7,al (by omega),aL,eO (by omega),ai]
  dsimp only
  rw[V9,kH j (by omega) hl]
  try dsimp only
  rw[e0,V8,da,ai,e1,<-Ty]
  by_cases h:(j:Int)=0/\(i:Int)=(l.length:Int)-1
  rw[au h,ai,SS (fun g:uC l i j=>g.1 ⟨by omega,by omega⟩)]
  rw[av h,CU n _ _ (hnr _) (hnr _) (hnr _) (hnr _) (hst _) (hst _) h5,Ma,ai]
  by_cases g:ux (nx l j) (nx l (j+1)) (nx l i) (nx l (i+1))=0
  rw[S5 g,TG,fm,ai,SS (fun k:uC l i j=>k.2 g)]
  rw[S7 g,TC,fx,ai,SU (show uC l i j from⟨fun k=>h ⟨by omega,by omega⟩,g⟩)]
 ·unfold ui
  dsimp only
  rw[V7,al (by omega),aL,eO (by omega),ai]
  dsimp only
  rw[V9,kH (i-1) (by omega) hl]
  try dsimp only
  rw[e0,V7,ai]
def EX(hnr:∀i,Nr (nx l i))(hst:∀i,nx l i≠nx l (i+1))(hn:l.length<n)(hl:l.length<100):bh (tE n l) n 0=some (bI (iG l) (.inr ()) l.length 0):=by
 classical
 refine bp (len:=l.length) (fun i hi=>?_) ?_ l.length 0 n (by omega) hn
 ·unfold tE iG
  try dsimp only
  rw[V7,D5 n hnr hst hi hn hl,ai,V9]
  rcases IW (l:=l) (r:=(.inl ():WC⊕WC)) (e:=.inr ()) (by simp) (i:=i) with⟨h1,h2⟩|⟨h1,h2⟩
  rw[h1,SU h2]
  rw[h1,SS h2]
 ·unfold tE
  try dsimp only
  rw[V8]
def EJ(hnr:∀i,Nr (nx l i))(hst:∀i,nx l i≠nx l (i+1))(hn:l.length<n)(h5:5<n)(hl:l.length<100):bh (tR n l) n 0=some (bI (iG l) (.inr ()) l.length 0):=by
 classical
 refine bp (len:=l.length) (fun i hi=>?_) ?_ l.length 0 n (by omega) hn
 unfold tR iG
 dsimp only
 rw[V7,al hi,aL,eO hi,ai]
 dsimp only
 rw[V9,kH i hi hl]
 dsimp only
 rw[ai,Ey n hnr hst hi hn h5 hl,ai];rcases IW (l:=l) (r:=(.inr (.inl ()):WC ⊕(WC⊕WC))) (e:=.inl ()) (by simp) (i:=i) with⟨h1,h2⟩|⟨h1,h2⟩
 rw[h1,SU h2]; rfl
 rw[h1,SS h2]; rfl
 unfold tR
 dsimp only
 rw[V8]
def kB{f:Nat->WA (Int⊕WC)}(hf:∀j r,f j=some r->r≠.inr ()){k:Nat}(h:bI f (.inr ()) k 0=.inr ()):∀j,j<k->f j=none:=by
 rcases cK (f:=f) (e:=.inr ()) k 0 with⟨h1,_⟩|⟨j,_,_,h3⟩
 exact fun j hj=>h1 j (by omega) (by omega)
 rw[h] at h3; exact Tj rfl (hf j _ h3)
def BC{P:I2->Prop}(hl:0<l.length)(h:∀i,i<l.length->P (nx l i))(i:Nat):P (nx l i):=by
 rw[<-vn]; exact h _ (TY _ hl)
def qM{i:Nat}:nx l (i%l.length+1)=nx l (i+1):=by unfold nx; rw[Nat.mod_add_mod]
def xm(hl:0<l.length)(h:bI (jI l) (.inr ()) l.length 0=.inr ()):∀i,Nr (nx l i):=by
 refine BC hl fun i hi=>?_;have:=kB (fun j r hr=>by unfold jI at hr; split at hr<;>cases hr; simp) h i hi
 unfold jI at this
 split at this
 cases this
 rename_i g; exact u0.1 g
def Bu(hl:0<l.length)(h:bI (gP l) (.inr ()) l.length 0=.inr ()):∀i,nx l i≠nx l (i+1):=fun i=>by
 have:=kB (fun j r hr=>by unfold gP at hr; split at hr<;>cases hr; simp) h (i%l.length) (TY _ hl)
 unfold gP at this
 split at this
 cases this
 rename_i g;rw[vn,qM] at g;exact g
def Cc(v:Int)(h:bI (jI l) (.inr ()) l.length 0=.inl v):0<=v:=by
 rcases cK (f:=jI l) (e:=.inr ()) l.length 0 with⟨_,h2⟩|⟨j,_,_,h3⟩
 rw[h] at h2; cases h2
 rw[h] at h3;unfold jI at h3
 split at h3
 cases h3; omega
 cases h3
def Lq(hn:l.length<n)(h5:41<n):Js n l=some (pO l):=by
 unfold Js pO;rw[kA,ai,<-U1]
 by_cases h:l.length<3\/40<l.length
 rw[V7,SU h]
 ·rw[V8,SS h,DT n hn (by omega),ai]
  cases h1:bI (jI l) (.inr ()) l.length 0 with
  | inl v=>rfl
  | inr _ =>
   have hnr:=xm (by omega) h1
   dsimp only
   rw[D4 n hn (by omega),ai]
   cases h2:bI (gP l) (.inr ()) l.length 0 with
   | inl v=>rfl
   | inr _ =>
    have hst:=Bu (by omega) h2
    dsimp only
    rw[DL n hnr hn (by omega),ai]
    cases h3:bI (iE l) (.inr ()) l.length 0 with
    | inl v=>rfl
    | inr _ =>
     dsimp only
     rw[EX n hnr hst hn (by omega),ai]
     cases h4:bI (iG l) (.inr ()) l.length 0<;>rfl
def J4(h64:∀x∈l,pw x.1/\pw x.2)(hn:l.length<n)(h5:41<n):Im n l=some (pO l):=by
 unfold Im pO;rw[kA,ai,<-U1]
 by_cases h:l.length<3\/40<l.length
 rw[V7,SU h]
 ·have h64':∀i,pw (nx l i).1/\pw (nx l i).2:=BC (P:=fun x=>pw x.1/\pw x.2) (by omega) fun i hi=>by
   refine h64 _ ?_;unfold nx;rw[UD hi,SZ,SR hi];exact Tx hi
  rw[V8,SS h,EC n h64' hn (by omega),ai]
  cases h1:bI (jI l) (.inr ()) l.length 0 with
  | inl v =>
   have:=Cc v h1
   dsimp only
   rw[ai,au this]
  | inr _ =>
   have hnr:=xm (by omega) h1
   dsimp only
   rw[ai,V8,ai,DK n hn (by omega),ai]
   cases h2:bI (gP l) (.inr ()) l.length 0 with
   | inl v=>rfl
   | inr _ =>
    have hst:=Bu (by omega) h2
    dsimp only
    rw[ai]
    dsimp only
    rw[ai,DH n hnr hn (by omega),ai]
    cases h3:bI (iE l) (.inr ()) l.length 0 with
    | inl v=>rfl
    | inr _ =>
     dsimp only
     rw[ai]
     dsimp only
     rw[ai,EJ n hnr hst hn (by omega) (by omega),ai]
     cases h4:bI (iG l) (.inr ()) l.length 0<;>rfl
def pJ(l:WB I2):Prop:=(pO l).1<=0
open Classical in
def Le(hn:l.length<n)(h5:41<n):FL n l=some (if pJ l then 0 else 140):=by
 unfold FL pJ;rw[Lq n hn h5,ai];obtain⟨a,b⟩:=pO l
 dsimp only
 by_cases h:0<a
 rw[au h,Vz]
 rw[av h,VA]
open Classical in
def NV(h64:∀x∈l,pw x.1/\pw x.2)(hn:l.length<n)(h5:41<n):PI n l=some (if pJ l then 0 else 140):=by
 unfold PI pJ;rw[J4 n h64 hn h5,ai];obtain⟨a,b⟩:=pO l
 dsimp only
 by_cases h:0<a
 rw[au h,Vz]
 rw[av h,VA]
end
end
section
open Go Go.Ab Go.Ab.W Go.Ab.B Jd
structure Ok(l:WB I2):Prop where
 len:l.length<=40
 nr:∀i,Nr (nx l i)
 vr:VR l
def nz{ρ:Type}{f:Nat->WA ρ}{e:ρ}{k i:Nat}(h:∀j,i<=j->j<i+k->f j=none):bI f e k i=e:=by
 rcases cK (f:=f) (e:=e) k i with⟨_,h2⟩|⟨j,h1,h2,h3⟩
 exact h2
 rw[h j h1 h2] at h3; cases h3
def Hw{i L:Nat}(hL:0<L):((i+1)%L+L-1)%L=i%L:=by
 have h:=Nat.div_add_mod (i+1) L;have:((i+1)%L+L-1)+L*((i+1)/L)=i+L:=by omega
 rw[<-Nat.add_mul_mod_self_left ((i+1)%L+L-1) L ((i+1)/L),this,Nat.add_mod_right]
def Ok.pJ{l:WB I2}(h:Ok l):pJ l:=by
 have hn:=h.vr.n3;have hl:=h.len;unfold Go.Proofs.YtmndpgfbkicndaaGreat.pJ pO;rw[Vz,nz (f:=jI l) fun j _ _=>by unfold jI; rw[SS (u0.2 (h.nr j))]]
 dsimp only
 rw[nz (f:=gP l) fun j _ _=>by unfold gP; rw[SS (h.vr.still j)]]
 dsimp only
 rw[nz (f:=iE l) fun j _ hj=>by
  unfold iE;have:=h.vr.spike (j+l.length-1);rw[show j+l.length-1+1=j+l.length by omega,show j+l.length-1+2=(j+1)+l.length by omega,oV l (Nat.add_mod_right j l.length),oV l (Nat.add_mod_right (j+1) l.length)] at this
  rw[SS this]]
 dsimp only
 rw[nz (f:=iG l) fun j _ hj=>by
  unfold iG;rw[SS];rintro⟨t,ht,h1,h2⟩;exact h2 (Iu.2 (h.vr.meet t j ht (by omega) fun e=>h1 ⟨e.1,by omega⟩))]
 exact Int.le_refl 0
def pJ.ok{l:WB I2}(h:pJ l):Ok l:=by
 unfold Go.Proofs.YtmndpgfbkicndaaGreat.pJ pO at h
 split at h
 exact Tj (show(1:Int)<=0 from h) (by decide)
 ·rename_i hl;cases h1:bI (jI l) (.inr ()) l.length 0 with
  | inl v=>rw[h1] at h; exact Tj (show(2:Int)<=0 from h) (by decide)
  | inr _ =>
   rw[h1] at h
   dsimp only at h
   cases h2:bI (gP l) (.inr ()) l.length 0 with
   | inl v=>rw[h2] at h; exact Tj (show(3:Int)<=0 from h) (by decide)
   | inr _ =>
    rw[h2] at h
    dsimp only at h
    cases h3:bI (iE l) (.inr ()) l.length 0 with
    | inl v=>rw[h3] at h; exact Tj (show(4:Int)<=0 from h) (by decide)
    | inr _ =>
     rw[h3] at h
     dsimp only at h
     cases h4:bI (iG l) (.inr ()) l.length 0 with
     | inl v=>rw[h4] at h; exact Tj (show(5:Int)<=0 from h) (by decide)
     | inr _ =>
      have hL:0<l.length:=by omega
      refine⟨by omega,xm hL h1,by omega,Bu hL h2,fun i=>?_,fun j i hji hi hn=>?_⟩
      have:=kB (fun j r hr=>by unfold iE at hr; split at hr<;>cases hr; simp) h3 ((i+1)%l.length) (TY _ hL)
      unfold iE at this
      split at this
      cases this
      rename_i g;rw[oV l (Hw hL),vn,qM] at g;exact g
      have:=kB (fun j r hr=>by unfold iG at hr; split at hr<;>cases hr; simp) h4 i hi
      unfold iG at this
      split at this
      cases this
      rename_i g;refine Iu.1 (SV fun e=>g ⟨j,hji,fun k=>hn ⟨k.1,by omega⟩,e⟩)
def yu{l:WB I2}:pJ l↔Ok l:=⟨pJ.ok,Ok.pJ⟩
section
variable(n:Nat){l:WB Nat}(hb:∀ x∈l, x < 256)(x5 x6:Int)(x7:Nat)(x8 x9:Bool)
include hb
end
end
section
open Go Go.Ab Go.Ab.W Go.Ab.B Jd
section
variable{l:WB Nat}
end
structure Dr(l:WB Nat)(x5 x6:Int)(x7:Nat):Prop where
 b:∀x∈l,x<256
 x : -32768<=x5/\x5<=32767
 y : -32768<=x6/\x6<=32767
 s:x7<256
end
section
open Go Go.Ab Go.Ab.W Go.Ab.B Jd
structure Bd(x2 x3:Nat)(x4 x5:Int):Prop where
 at_:x2<256
 to:x3<256
 x:pw x4
 y:pw x5
end
section
open Go Go.Ab Go.Ab.W Go.Ab.B Jd
def dG{σ τ ρ:Type}{B:τ->WA (τ⊕ρ)}{len:Nat}(st:Nat->σ->τ)(inv:Nat->σ->Prop)(Post:ρ->Prop)
  (hB:∀i s,i<len->inv i s->(∃s',B (st i s)=some (.inl (st (i+1) s'))/\inv (i+1) s')\/∃r,B (st i s)=some (.inr r)/\Post r)
  (hE:∀s,inv len s->∃r,B (st len s)=some (.inr r)/\Post r):∀(k i:Nat) (s:σ) (n:Nat),i+k=len->k<n->inv i s->∃r,bh B n (st i s)=some r/\Post r
 | 0,i,s,n+1,h,_,hi=>by
  rw[Ui] at h; subst h;obtain⟨r,h1,h2⟩:=hE s hi;exact⟨r,fg h1,h2⟩
 | k+1,i,s,n+1,h,hn,hi=>by
  rcases hB i s (by omega) hi with⟨s',h1,h2⟩|⟨r,h1,h2⟩
  rw[eQ h1]; exact dG st inv Post hB hE k (i+1) s' n (by omega) (by omega) h2
  exact⟨r,fg h1,h2⟩
def rW{f:Nat->Int}(h:∀i,-8000000000000<=f i/\f i<=8000000000000):∀n:Nat,-(8000000000000*(n:Int))<=bD n f/\bD n f<=8000000000000*(n:Int)
 | 0=>by simp[bD]
 | n+1=>by
  have h1:=rW h n;have h2:=h n;simp only[bD];omega
section
variable{l:WB I2}(n:Nat)
def MC{a b o:I2}(ha:Nr a)(hb:Nr b)(ho:Nr o) : -8000000000000<=(a.1-o.1)*(b.2-o.2)-(a.2-o.2)*(b.1-o.1)/\(a.1-o.1)*(b.2-o.2)-(a.2-o.2)*(b.1-o.1)<=8000000000000:=by
 unfold Nr at ha hb ho;have m1:=eS (B:=2000000) (C:=2000000) (u:=a.1-o.1) (v:=b.2-o.2) (by decide) (by omega) (by omega) (by omega) (by omega)
 have m2:=eS (B:=2000000) (C:=2000000) (u:=a.2-o.2) (v:=b.1-o.1) (by decide) (by omega) (by omega) (by omega) (by omega)
 omega
def OQ{a b:I2}(ha:Nr a)(hb:Nr b){s:Int}(hs : -8000000000000000<=s/\s<=8000000000000000) :
  Vx (Vx (s+Vx (a.1*b.2))-Vx (a.2*b.1))=s+(a.1*b.2-a.2*b.1):=by
 unfold Nr at ha hb;have m1:=eS (B:=1000000) (C:=1000000) (u:=a.1) (v:=b.2) (by decide) (by omega) (by omega) (by omega) (by omega)
 have m2:=eS (B:=1000000) (C:=1000000) (u:=a.2) (v:=b.1) (by decide) (by omega) (by omega) (by omega) (by omega)
 generalize a.1*b.2=u at *;generalize a.2*b.1=v at *;rw[aA (x:=u) (by omega) (by omega),aA (x:=v) (by omega) (by omega),aA (x:=s+u) (by omega) (by omega),aA (by omega) (by omega)]
 omega
open Classical in
noncomputable def side (l:WB I2) (p:I2):Int:=if ∃i,i<l.length/\cE (nx l i) (nx l (i+1)) p then 1 else if fW l p=0 then 0 else 2
def Gy(l:WB I2)(p:I2):∀i:Nat,-(i:Int)<=bD i (fun i=>wi (nx l i) (nx l (i+1)) p)/\bD i (fun i=>wi (nx l i) (nx l (i+1)) p)<=(i:Int)
 | 0=>by simp[bD]
 | i+1=>by
  have h1:=Gy l p i;have h2:=Hz (nx l i) (nx l (i+1)) p;simp only[bD];omega
end
end
end Go.Proofs.YtmndpgfbkicndaaGreat
end
section
namespace Go.Proofs.YtmndpgfbkicndaaGreat
open Go Go.Ab Go.Ab.W Go.Ab.B Jd
def Nw(p:I2):Prop:=-4000000<=p.1/\p.1<=4000000/\-4000000<=p.2/\p.2<=4000000
def MD{a b c:I2}(ha:Nw a)(hb:Nw b)(hc:Nw c) :
  Vx (Vx ((Vx (b.1-a.1))*(Vx (c.2-a.2)))-Vx ((Vx (b.2-a.2))*(Vx (c.1-a.1))))=ti a b c:=by
 unfold Nw at ha hb hc;have m1:=eS (B:=8000000) (C:=8000000) (u:=b.1-a.1) (v:=c.2-a.2) (by decide) (by omega) (by omega) (by omega) (by omega)
 have m2:=eS (B:=8000000) (C:=8000000) (u:=b.2-a.2) (v:=c.1-a.1) (by decide) (by omega) (by omega) (by omega) (by omega)
 rw[aA (x:=b.1-a.1) (by omega) (by omega),aA (x:=c.2-a.2) (by omega) (by omega),aA (x:=b.2-a.2) (by omega) (by omega),aA (x:=c.1-a.1) (by omega) (by omega)]
 unfold ti;generalize(b.1-a.1)*(c.2-a.2)=u at *;generalize(b.2-a.2)*(c.1-a.1)=v at *;rw[aA (x:=u) (by omega) (by omega),aA (x:=v) (by omega) (by omega),aA (by omega) (by omega)]
def HX(n:Nat){a b c:I2}(ha:Nw a)(hb:Nw b)(hc:Nw c):qo n a.1 a.2 b.1 b.2 c.1 c.2=some (ti a b c):=by
 unfold qo;simp only[ai];rw[<-MD ha hb hc]
def OT(n:Nat){a b p:I2}(ha:Nw a)(hb:Nw b)(hp:Nw p):sB n a.1 a.2 b.1 b.2 p.1 p.2=some (decide (cE a b p)):=by
 unfold sB;rw[HX n ha hb hp,ai]
 by_cases h:ti a b p=0
 rw[S5 h,TG,fm,da,da,da,fA,fA,eK,eK,<-Ty,<-Ty,<-Ty]
 congr 1
 rw[decide_eq_decide];unfold cE;exact⟨fun g=>⟨h,g⟩,fun g=>g.2⟩
 rw[S7 h,TC,fx,S7 fun g=>h g.1]
section
variable{l:WB I2}(n:Nat)
def JA{p:I2}(hnr:∀i,Nw (nx l i))(hp:Nw p)(hL:l.length<100)(hn:l.length<n):Mx n l p.1 p.2=some (side l p):=by
 have L:∃r,bh (tM n l p.2 p.1) n ((0:Int),((0:Nat):Int))=some r/\match r with
   | .inl _=>∃i,i<l.length/\cE (nx l i) (nx l (i+1)) p
   | .inr w=>(∀i,i<l.length->¬cE (nx l i) (nx l (i+1)) p)/\w=fW l p:=by
  refine dG (len:=l.length) (fun i (s:Int)=>(s,(i:Int))) (fun i s=>(∀j,j<i->¬cE (nx l j) (nx l (j+1)) p)/\s=bD i fun i=>wi (nx l i) (nx l (i+1)) p) _ (fun i s hi hs=>?_) (fun s hs=>?_) l.length 0 0 n (by omega) hn ⟨fun j hj=>Tj hj (Nat.not_lt_zero _),rfl⟩
  ·have hw:=Gy l p i;have hwi:=Hz (nx l i) (nx l (i+1)) p;have hbase:tM n l p.2 p.1 (s,(i:Int))=if cE (nx l i) (nx l (i+1)) p then some (.inr (.inl ())) else some (.inl (s+wi (nx l i) (nx l (i+1)) p,((i+1:Nat):Int))):=by
    unfold tM
    try dsimp only
    rw[V7,al hi,aL,eO hi,ai]
    try dsimp only
    rw[V9,kH i hi (by omega)]
    try dsimp only
    rw[ai,ai,MD (hnr i) (hnr (i+1)) hp];have hB:(decide (ti (nx l i) (nx l (i+1)) p=0) &&(decide (mi (nx l i).1 (nx l (i+1)).1<=p.1) &&(decide (p.1<=ma (nx l i).1 (nx l (i+1)).1) &&(decide (mi (nx l i).2 (nx l (i+1)).2<=p.2)&&decide (p.2<=ma (nx l i).2 (nx l (i+1)).2)))))=decide (cE (nx l i) (nx l (i+1)) p):=by
     rw[fA,fA,eK,eK,<-Ty,<-Ty,<-Ty,<-Ty,decide_eq_decide];exact Iff.rfl
    rw[da,da,da,da,hB,ai]
    by_cases hb:cE (nx l i) (nx l (i+1)) p
    rw[au hb,ai,SU hb]
    rw[av hb,SS hb,da,da,ai];unfold wi
    by_cases c1:(nx l i).2<=p.2/\p.2<(nx l (i+1)).2/\0<ti (nx l i) (nx l (i+1)) p
    rw[SU c1,S5 c1.1,S5 c1.2.1,S5 c1.2.2,Ut,Ut,fx,ai,aA (by rw[hs.2]; omega) (by rw[hs.2]; omega)]
    have e1:(decide ((nx l i).2<=p.2) &&(decide (p.2<(nx l (i+1)).2)&&decide (0<ti (nx l i) (nx l (i+1)) p)))=false:=by
     rw[<-Ty,<-Ty]; exact S7 fun g=>c1 ⟨g.1,g.2.1,g.2.2⟩
    rw[SS c1,e1,fm,da,da,ai]
    by_cases c2:(nx l (i+1)).2<=p.2/\p.2<(nx l i).2/\ti (nx l i) (nx l (i+1)) p<0
    rw[SU c2,S5 c2.1,S5 c2.2.1,S5 c2.2.2,Ut,Ut,fx,ai,aA (by rw[hs.2]; omega) (by rw[hs.2]; omega)]
    rfl
    have e2:(decide (p.2<(nx l i).2) &&(decide ((nx l (i+1)).2<=p.2)&&decide (ti (nx l i) (nx l (i+1)) p<0)))=false:=by
     rw[<-Ty,<-Ty]; exact S7 fun g=>c2 ⟨g.2.1,g.1,g.2.2⟩
    rw[SS c2,e2,fm,ai,Int.add_zero]
   by_cases hb:cE (nx l i) (nx l (i+1)) p
   exact .inr ⟨.inl (),by rw[hbase,SU hb],⟨i,hi,hb⟩⟩
   refine .inl ⟨s+wi (nx l i) (nx l (i+1)) p,by rw[hbase,SS hb],fun j hj=>?_,by rw[hs.2]; rfl⟩
   by_cases e:j=i
   rw[e]; exact hb
   exact hs.1 j (by omega)
  ·refine⟨.inr s,?_,hs.1,hs.2⟩;unfold tM
   try dsimp only
   rw[V8]
 obtain⟨r,h1,h2⟩:=L;have h1':bh (tM n l p.2 p.1) n (0,0)=some r:=h1;unfold Mx;rw[h1',ai];unfold side;cases r with
 | inl s =>
  dsimp only at h2
  rw[SU h2]
 | inr w =>
  obtain⟨g1,g2⟩:=h2;rw[SS (fun⟨i,a,b⟩=>g1 i a b)]
  try dsimp only
  rw[g2]
  by_cases e:fW l p=0
  rw[au e,SU e]
  rw[av e,SS e]
def DG{p:I2}(hv:VR l)(hnr:∀i,Nw (nx l i))(hp:Nw p)(hL:l.length<100)(hn:l.length<n):AO n l p.1 p.2=some (side l p):=by
 have h3:=hv.n3;have hne:l≠[]:=fun e=>by rw[e] at h3; simp at h3
 have L:∃r,bh (oI n l p.1 p.2) n (false,((0:Nat):Int))=some r/\match r with
   | .inl _=>∃i,i<l.length/\cE (nx l i) (nx l (i+1)) p
   | .inr w=>(∀i,i<l.length->¬cE (nx l i) (nx l (i+1)) p)/\w=DD l p l.length:=by
  refine dG (len:=l.length) (fun i (s:Bool)=>(s,(i:Int))) (fun i s=>(∀j,j<i->¬cE (nx l j) (nx l (j+1)) p)/\s=DD l p i) _ (fun i s hi hs=>?_) (fun s hs=>?_) l.length 0 false n (by omega) hn ⟨fun j hj=>Tj hj (Nat.not_lt_zero _),rfl⟩
  ·have hbase:oI n l p.1 p.2 (s,(i:Int))=if cE (nx l i) (nx l (i+1)) p then some (.inr (.inl ())) else some (.inl (s != Pj (nx l i) (nx l (i+1)) p,((i+1:Nat):Int))):=by
    unfold oI
    try dsimp only
    rw[V7,al hi,aL,eO hi,ai]
    try dsimp only
    rw[V9,nq n (i+1) hne,ai]
    try dsimp only
    rw[OT n (hnr i) (hnr (i+1)) hp,ai]
    by_cases hb:cE (nx l i) (nx l (i+1)) p
    rw[au hb,ai,SU hb]
    rw[av hb,SS hb,HX n (hnr i) (hnr (i+1)) hp,ai,da,ai];unfold Pj;have e:(!(decide (p.2<(nx l i).2)==decide (p.2<(nx l (i+1)).2)))=(decide (p.2<(nx l i).2) != decide (p.2<(nx l (i+1)).2)):=rfl;rw[e];generalize((decide (p.2<(nx l i).2) != decide (p.2<(nx l (i+1)).2)) &&(decide (0<ti (nx l i) (nx l (i+1)) p)==decide ((nx l i).2<(nx l (i+1)).2)))=c;cases c<;>cases s<;>rfl
   by_cases hb:cE (nx l i) (nx l (i+1)) p
   exact .inr ⟨.inl (),by rw[hbase,SU hb],⟨i,hi,hb⟩⟩
   refine .inl ⟨s != Pj (nx l i) (nx l (i+1)) p,by rw[hbase,SS hb],fun j hj=>?_,by rw[hs.2]; rfl⟩
   by_cases e:j=i
   rw[e]; exact hb
   exact hs.1 j (by omega)
  ·refine⟨.inr s,?_,hs.1,hs.2⟩;unfold oI
   try dsimp only
   rw[V8]
 obtain⟨r,h1,h2⟩:=L;have h1':bh (oI n l p.1 p.2) n (false,0)=some r:=h1;unfold AO;rw[h1',ai];unfold side;cases r with
 | inl s =>
  dsimp only at h2
  rw[SU h2]
 | inr w =>
  obtain⟨g1,g2⟩:=h2;rw[SS (fun⟨i,a,b⟩=>g1 i a b)]
  try dsimp only
  rw[g2,hv.K3 g1]
  by_cases e:fW l p=0
  rw[S5 e,SU e]; rfl
  rw[S7 e,SS e]; rfl
end
def yc{α β ρ:Type}{B:(WB β×Int)->WA ((WB β×Int)⊕ρ)}{l:WB α}(f:α->β)(out:WB β->ρ)
  (hB:∀i x,l[i]? = some x->i<l.length->B ((l.take i).map f,(i:Int))=some (.inl ((l.take i).map f++[f x],((i+1:Nat):Int))))
  (hE:B (l.map f,(l.length:Int))=some (.inr (out (l.map f)))) {n:Nat} (hn:l.length<n):bh B n ([],0)=some (out (l.map f)):=by
 obtain⟨r,h1,h2⟩:=dG (B:=B) (len:=l.length) (fun i (s:WB β)=>(s,(i:Int))) (fun i s=>s=(l.take i).map f) (fun r=>r=out (l.map f)) (fun i s hi hs=>by
  subst hs;have hx:=SR hi;refine .inl ⟨_,hB i _ hx hi,?_⟩;rw[Ux,hx,Vg]; rfl) (fun s hs=>by
  subst hs;rw[Vc];exact⟨_,hE,rfl⟩) l.length 0 [] n (by omega) hn rfl
 subst h2;exact h1
def iV(pts:WB I2)(i:Int):I2:=pts.getD i.toNat (0,0)
def fi(pts:WB I2)(l:WB Int)(t:Int):WB I2:=l.map fun i=>(t*(iV pts i).1,t*(iV pts i).2)
def Ix(pts:WB I2)(l:WB Int):Prop:=∀i∈l,0<=i/\i<pts.length
def dI(pts:WB I2):Prop:=∀q∈pts,Nr q
def il{pts:WB I2}{i:Int}(h:0<=i/\i<pts.length):pts[i.toNat]? = some (iV pts i):=by
 unfold iV;rw[SZ,SR (by omega)]; rfl
def gC{pts:WB I2}(hb:dI pts){i:Int}(h:0<=i/\i<pts.length):Nr (iV pts i):=hb _ (Td (il h))
def eU(pts:WB I2)(l:WB Int)(t:Int):(fi pts l t).length=l.length:=To _
def bl{k:Nat}(h:k<=1000000):lim k=true:=Nat.ble_eq_true_of_le (by omega)
section
variable{pts:WB I2}{F:Vl}{l:WB Int}{t:Int}(n:Nat)
def xO(hb:dI pts)(hx:Ix pts l)(ht:t=1\/t=2)(hl:l.length<=1000)(hn:l.length<n):JO n pts F l t=some (fi pts l t):=by
 have h:=yc (B:=zS n l pts t) (l:=l) (fun i=>(t*(iV pts i).1,t*(iV pts i).2)) (fun s=>s) (fun i x hi hil=>by
  have hxi:=hx x (Td hi);have hnr:=gC hb hxi;unfold Nr at hnr;unfold zS
  try dsimp only
  rw[V7,al hil,aL,Ti,hi,ai,show bu x pts.length=true from S5 ⟨hxi.1,by omega⟩,aL,il hxi,ai]
  try dsimp only
  rw[aL,aA (by rcases ht with rfl|rfl<;>omega) (by rcases ht with rfl|rfl<;>omega),aA (by rcases ht with rfl|rfl<;>omega) (by rcases ht with rfl|rfl<;>omega),bl (by simp; omega),aL,V9]) (by
  unfold zS
  try dsimp only
  rw[V8]) hn
 unfold JO;rw[h,ai]; rfl
def yv(hb:dI pts)(hx:Ix pts l)(ht:t=1\/t=2)(hl:l.length<=1000)(hn:l.length<n):Ms n pts F l t=some (fi pts l t):=by
 have h:=yc (B:=zr n l pts t) (l:=l) (fun i=>(t*(iV pts i).1,t*(iV pts i).2)) (fun s=>s) (fun i x hi hil=>by
  have hxi:=hx x (Td hi);have hnr:=gC hb hxi;unfold Nr at hnr;unfold zr
  try dsimp only
  rw[V7,al hil,aL,Ti,hi,ai,show bu x pts.length=true from S5 ⟨hxi.1,by omega⟩,aL,il hxi,ai]
  try dsimp only
  rw[aA (by rcases ht with rfl|rfl<;>omega) (by rcases ht with rfl|rfl<;>omega),aA (by rcases ht with rfl|rfl<;>omega) (by rcases ht with rfl|rfl<;>omega),bl (by simp; omega),aL,V9]) (by
  unfold zr
  try dsimp only
  rw[V8]) hn
 unfold Ms;rw[h,ai]; rfl
def N8{r:WB I2}(hnr:∀i,Nr (nx r i))(hL:r.length<100)(hn:r.length<n):O7 n r=some (ri r):=by
 have hb:∀i,-8000000000000<=(nx r i).1*(nx r (i+1)).2-(nx r i).2*(nx r (i+1)).1/\(nx r i).1*(nx r (i+1)).2-(nx r i).2*(nx r (i+1)).1<=8000000000000:=fun i=>by
  have:=MC (hnr i) (hnr (i+1)) (show Nr (0,0) by unfold Nr; omega)
  simpa using this
 have L:∃z,bh (wo n r) n ((0:Int),((0:Nat):Int))=some z/\z=ri r:=by
  refine dG (len:=r.length) (fun i (s:Int)=>(s,(i:Int))) (fun i s=>s=bD i fun i=>(nx r i).1*(nx r (i+1)).2-(nx r i).2*(nx r (i+1)).1) _ (fun i s hi hs=>?_) (fun s hs=>?_) r.length 0 0 n (by omega) hn rfl
  ·have hbi:=rW hb i;refine .inl ⟨s+((nx r i).1*(nx r (i+1)).2-(nx r i).2*(nx r (i+1)).1),?_,by rw[hs]; rfl⟩
   unfold wo
   try dsimp only
   rw[V7,al hi,aL,eO hi,ai]
   try dsimp only
   rw[V9,kH i hi (by omega)]
   try dsimp only
   rw[ai];have h1:=hnr i;have h2:=hnr (i+1);have h3:=hb i;unfold Nr at h1 h2;have m1:=eS (B:=1000000) (C:=1000000) (u:=(nx r i).1) (v:=(nx r (i+1)).2) (by decide) (by omega) (by omega) (by omega) (by omega)
   have m2:=eS (B:=1000000) (C:=1000000) (u:=(nx r i).2) (v:=(nx r (i+1)).1) (by decide) (by omega) (by omega) (by omega) (by omega)
   generalize(nx r i).1*(nx r (i+1)).2=u at *;generalize(nx r i).2*(nx r (i+1)).1=v at *;rw[aA (x:=u) (by omega) (by omega),aA (x:=v) (by omega) (by omega),aA (x:=u-v) (by omega) (by omega),aA (by rw[hs]; omega) (by rw[hs]; omega)]
  ·refine⟨s,?_,hs⟩;unfold wo
   try dsimp only
   rw[V8]
 obtain⟨z,h1,h2⟩:=L;have h1':bh (wo n r) n (0,0)=some z:=h1;unfold O7;rw[h1',ai,h2]
def Gf{r:WB I2}(hnr:∀i,Nr (nx r i))(hne:r≠[])(hL:r.length<100)(hn:r.length<n):GQ n r=some (ri r):=by
 have hb:∀i,-8000000000000<=(nx r i).1*(nx r (i+1)).2-(nx r i).2*(nx r (i+1)).1/\(nx r i).1*(nx r (i+1)).2-(nx r i).2*(nx r (i+1)).1<=8000000000000:=fun i=>by
  have:=MC (hnr i) (hnr (i+1)) (show Nr (0,0) by unfold Nr; omega)
  simpa using this
 have L:∃z,bh (qn n r) n ((0:Int),((0:Nat):Int))=some z/\z=ri r:=by
  refine dG (len:=r.length) (fun i (s:Int)=>(s,(i:Int))) (fun i s=>s=bD i fun i=>(nx r i).1*(nx r (i+1)).2-(nx r i).2*(nx r (i+1)).1) _ (fun i s hi hs=>?_) (fun s hs=>?_) r.length 0 0 n (by omega) hn rfl
  ·have hbi:=rW hb i;refine .inl ⟨s+((nx r i).1*(nx r (i+1)).2-(nx r i).2*(nx r (i+1)).1),?_,by rw[hs]; rfl⟩
   unfold qn
   try dsimp only
   rw[V7,al hi,aL,eO hi,ai]
   try dsimp only
   rw[V9,nq n (i+1) hne,ai]
   try dsimp only
   rw[ai,OQ (hnr i) (hnr (i+1)) (by rw[hs]; omega)]
  ·refine⟨s,?_,hs⟩;unfold qn
   try dsimp only
   rw[V8]
 obtain⟨z,h1,h2⟩:=L;have h1':bh (qn n r) n (0,0)=some z:=h1;unfold GQ;rw[h1',ai,h2]
end
def NF(n:Nat)(p:I2):Pf n p.1 p.2=some (decide (Fa p)):=by
 unfold Pf Fa;rw[eK,fA,kA];refine TB some ?_;have:(min p.1 p.2 < -1000000\/1000000<max p.1 p.2)↔(p.1 < -1000000\/1000000<p.1\/p.2 < -1000000\/1000000<p.2):=by omega
 simp only[<-this,U1]
def Ef{α β:Type}[DecidableEq α](xs:WB (α×β))(k k':α)(v:β):cR (gS xs k v) k'=(if k'=k then some v else cR xs k')/\(gS xs k v).length=(if cR xs k=none then xs.length+1 else xs.length):=by
 have key:∀(xs:WB (α×β)) (i:Nat),(cT k xs i=none->∀j,(cT k' (xs++[(k,v)]) j).map (·.2)=if k'=k then some v else(cT k' xs j).map (·.2)) /\
   (∀p,cT k xs i=some p->i<=p.1/\∀j,(cT k' (xs.set (p.1-i) (k,v)) j).map (·.2)=if k'=k then some v else(cT k' xs j).map (·.2)):=by
  intro xs
  induction xs with
  | nil =>
   intro i;refine⟨fun _ j=>?_,fun p h=>by simp[cT] at h⟩
   simp only[Uo,cT]
   by_cases h:k'=k<;>simp[h]
  | cons e xs ih =>
   intro i
   by_cases he:k=e.1
   refine⟨fun h=>by simp[cT,he] at h,fun p h=>?_⟩
   have hp:p=(i,e.2):=by simp[cT,he] at h; exact h.symm
   subst hp;refine⟨S0 _,fun j=>?_⟩;simp only[Vj,List.set_cons_zero,cT]
   by_cases h:k'=k
   simp[h]
   have:k'≠e.1:=fun c=>h (c.trans he.symm);simp[h,this]
   refine⟨fun h j=>?_,fun p h=>?_⟩
   have h':cT k xs (i+1)=none:=by simpa [cT,he] using h
   simp only[Vd,cT]
   by_cases h2:k'=e.1
   have:k'≠k:=fun c=>he (c.symm.trans h2);simp[h2,Ne.symm he]
   simp only[SS h2];exact(ih (i+1)).1 h' (j+1)
   have h':cT k xs (i+1)=some p:=by simpa [cT,he] using h
   obtain⟨g1,g2⟩:=(ih (i+1)).2 p h';refine⟨by omega,fun j=>?_⟩
   rw[show p.1-i=(p.1-(i+1))+1 by omega,List.set_cons_succ]
   simp only[cT]
   by_cases h2:k'=e.1
   have:k'≠k:=fun c=>he (c.symm.trans h2);simp[h2,Ne.symm he]
   simp only[SS h2];exact g2 (j+1)
 unfold cR gS;cases h:cT k xs 0 with
 | none=>exact⟨(key xs 0).1 h 0,by simp⟩
 | some p=>exact⟨((key xs 0).2 p h).2 0,by simp⟩
def gO{α β:Type}[DecidableEq α](xs:WB (α×β))(k k':α)(v:β):cR (gS xs k v) k'=if k'=k then some v else cR xs k':=(Ef xs k k' v).1
def lT(l:WB I2)(i:Nat):WA (Int⊕WC):=if nx l i∈l.take i then some (.inl (i:Int)) else none
section
variable{l:WB I2}(n:Nat)
def Fl(hn:l.length<n)(hl:l.length<1000):bh (zq n l) n 0=some (bI (jI l) (.inr ()) l.length 0):=by
 refine bp (len:=l.length) (fun i hi=>?_) ?_ l.length 0 n (by omega) hn
 unfold zq jI
 dsimp only
 rw[V7,al hi,aL,eO hi,ai]
 dsimp only
 rw[NF,ai,V9]
 by_cases h:Fa (nx l i)
 rw[au h,SU h]
 rw[av h,SS h]
 unfold zq
 dsimp only
 rw[V8]
def Iq(hn:l.length<n)(hl:l.length<1000):bh (Ac n l) n 0=some (bI (jI l) (.inr ()) l.length 0):=by
 refine bp (len:=l.length) (fun i hi=>?_) ?_ l.length 0 n (by omega) hn
 unfold Ac jI
 dsimp only
 rw[V7,al hi,aL,eO hi,ai]
 dsimp only
 rw[Ib,ai,V9]
 by_cases h:Fa (nx l i)
 rw[au h,SU h]
 rw[av h,SS h]
 unfold Ac
 dsimp only
 rw[V8]
def tF(l:WB I2)(i j:Nat):WA (WC⊕WC):=if nx l i=nx l j then some (.inl ()) else none
def Hb{i:Nat}(hi:i<l.length)(hn:l.length<n)(hl:l.length<1000):bh (zK n (i:Int) l) n 0=some (bI (tF l i) (.inr ()) i 0):=by
 refine bp (len:=i) (fun j hj=>?_) ?_ i 0 n (by omega) (by omega)
 unfold zK tF
 dsimp only
 rw[V7,al hi,aL,eO hi,ai]
 dsimp only
 rw[al (by omega),aL,eO (by omega),ai]
 dsimp only
 rw[sV,V9]
 by_cases h:nx l i=nx l j
 rw[au (by exact h),SU h]
 rw[av (by exact h),SS h]
 unfold zK
 dsimp only
 rw[V8]
def qK{i:Nat}(hi:i<=l.length){p:I2}:p∈l.take i↔∃j,j<i/\nx l j=p:=by
 constructor
 intro h;obtain⟨j,hj,e⟩:=TL.1 h;rw[Th] at hj;refine⟨j,by omega,?_⟩
 unfold nx;rw[UD (by omega),SZ,SR (by omega)]
 rw[List.getElem_take] at e; exact e
 rintro⟨j,hj,e⟩;refine TL.2 ⟨j,by rw[Th]; omega,?_⟩
 rw[List.getElem_take,<-e];unfold nx;rw[UD (by omega),SZ,SR (by omega)]; rfl
def DR{i:Nat}(hi:i<l.length):bI (tF l i) (.inr ()) i 0=if nx l i∈l.take i then .inl () else .inr ():=by
 rcases cK (f:=tF l i) (e:=.inr ()) i 0 with⟨h1,h2⟩|⟨j,_,h2,h3⟩
 rw[h2,SS];intro h;obtain⟨j,hj,e⟩:=(qK (by omega)).1 h
 have:=h1 j (by omega) (by omega)
 unfold tF at this;rw[SU e.symm] at this; cases this
 have:nx l i=nx l j:=by
  refine SV fun hc=>?_;unfold tF at h3;rw[SS hc] at h3; cases h3
 rw[SU ((qK (by omega)).2 ⟨j,by omega,this.symm⟩)]
 unfold tF at h3;rw[SU this] at h3;exact(SX h3).symm
def GF(hn:l.length<n)(hl:l.length<1000):bh (y6 n l) n 0=some (bI (lT l) (.inr ()) l.length 0):=by
 refine bp (len:=l.length) (fun i hi=>?_) ?_ l.length 0 n (by omega) hn
 ·unfold y6 lT
  try dsimp only
  rw[V7,Hb n hi hn hl,ai,DR hi]
  by_cases h:nx l i∈l.take i
  rw[SU h,SU h]
  ·rw[SS h,SS h]
   try dsimp only
   rw[V9]
 ·unfold y6
  try dsimp only
  rw[V8]
def PG(l:WB I2)(m:WB (I2×Bool)):Prop:=∀p,(cR m p).getD false=decide (p∈l)
def sv(m:WB (I2×Bool))(k p:I2):(cR (gS m k true) p)=if p=k then some true else cR m p:=gO m k p true
def Gj(hn:l.length<n)(hl:l.length<1000):bh (qC n l) n ([],0)=some (bI (lT l) (.inr ()) l.length 0):=by
 have key:∀(k i:Nat) (m:WB (I2×Bool)) (f:Nat),i+k=l.length->k<f->PG (l.take i) m->bh (qC n l) f (m,(i:Int))=some (bI (lT l) (.inr ()) k i):=by
  intro k
  induction k with
  | zero =>
   intro i m f h hf hm;obtain⟨f,rfl⟩:∃g,f=g+1:=⟨f-1,by omega⟩
   have:qC n l (m,(i:Int))=some (.inr (.inr ())):=by
    unfold qC
    dsimp only
    rw[V8]
   simp only[bh,this,bI]
  | succ k ih =>
   intro i m f h hf hm;obtain⟨f,rfl⟩:∃g,f=g+1:=⟨f-1,by omega⟩
   have hi:i<l.length:=by omega
   have hB:qC n l (m,(i:Int))=if nx l i∈l.take i then some (.inr (.inl (i:Int))) else some (.inl (gS m (nx l i) true,((i+1:Nat):Int))):=by
    unfold qC
    dsimp only
    rw[V7,al hi,aL,eO hi,ai]
    dsimp only
    rw[ai,V9]
    have e:=hm (nx l i);rw[show((nx l i).1,(nx l i).2)=nx l i from rfl,e]
    by_cases g:nx l i∈l.take i
    rw[au g,SU g]
    rw[av g,SS g]
   by_cases g:nx l i∈l.take i
   rw[SU g] at hB;simp only[bh,hB,bI,lT,SU g]
   rw[SS g] at hB;simp only[bh,hB,bI,lT,SS g];refine ih (i+1) _ f (by omega) (by omega) fun p=>?_
   have e:l.take (i+1)=l.take i++[nx l i]:=by
    rw[Ux,SR hi]
    congr 1
    unfold nx;rw[UD hi,SZ,SR hi]; rfl
   rw[sv,e]
   by_cases hp:p=nx l i
   rw[SU hp,hp]; simp
   rw[SS hp,hm p,decide_eq_decide]; simp[hp]
 exact key l.length 0 [] n (by omega) hn (by intro p; simp[cR,cT])
end
def GZ(n:Nat)(o:WB Int)(h:Vo)(hl:h.length<=1000)(hn:1000<n):bh (pC n [[o],h]) n (0,0)=some (((h.length+1:Nat):Int)):=by
 obtain⟨m,rfl⟩:∃m,n=m+3:=⟨n-3,by omega⟩
 have e0:pC (m+3) [[o],h] (0,0)=some (.inl (1,1)):=by
  unfold pC
  try dsimp only
  rw[au (by simp),show bu 0 ([[o],h]:WB (Vo)).length=true from rfl,aL]
  show ob (some [o]) _=_
  rw[ai,List.length_singleton]
  rfl
 have e1:pC (m+3) [[o],h] (1,1)=some (.inl (((h.length+1:Nat):Int),2)):=by
  unfold pC
  try dsimp only
  rw[au (by simp),show bu 1 ([[o],h]:WB (Vo)).length=true from rfl,aL]
  show ob (some h) _=_
  rw[ai,aA (by omega) (by omega),V8,show Vx (1+1)=2 from rfl,show((1:Int)+(h.length:Int))=((h.length+1:Nat):Int) by omega]
 have e2:pC (m+3) [[o],h] (((h.length+1:Nat):Int),2)=some (.inr ((h.length+1:Nat):Int)):=by
  unfold pC
  try dsimp only
  rw[av (by simp)]
 simp only[bh,e0,e1,e2]
def Hd(n:Nat)(o:WB Int)(h:Vo)(hl:h.length<=1000)(hn:1000<n):bh (ph n [[o],h]) n ([],0)=some (o::h):=by
 obtain⟨m,rfl⟩:∃m,n=m+3:=⟨n-3,by omega⟩
 have e0:ph (m+3) [[o],h] ([],0)=some (.inl ([o],1)):=by
  unfold ph
  try dsimp only
  rw[au (by simp),show bu 0 ([[o],h]:WB (Vo)).length=true from rfl,aL]
  show ob (some [o]) _=_
  rw[ai,Uo,bl (by simp),aL]
  rfl
 have e1:ph (m+3) [[o],h] ([o],1)=some (.inl (o::h,2)):=by
  unfold ph
  try dsimp only
  rw[au (by simp),show bu 1 ([[o],h]:WB (Vo)).length=true from rfl,aL]
  show ob (some h) _=_
  rw[ai,List.singleton_append,bl (by simp; omega),aL]
  rfl
 have e2:ph (m+3) [[o],h] (o::h,2)=some (.inr (o::h)):=by
  unfold ph
  try dsimp only
  rw[av (by simp)]
 simp only[bh,e0,e1,e2]
def xA(n:Nat)(o:WB Int)(h:Vo)(hl:h.length<=1000)(hn:1000<n):Bv n o h=some (o::h):=by
 unfold Bv Rh;rw[GZ n o h hl hn,ai,V8]
 have ew:Vx (((h.length+1:Nat):Int)-(Vx (0-0)))=((h.length+1:Nat):Int):=by
  rw[show Vx (0-0)=0 from rfl,aA (by omega) (by omega)]; omega
 rw[ew,V7,eT (by omega),Ti,bl (by omega),aL]
 have eb:okB 0 0 (h.length+1)=true:=S5 ⟨Int.le_refl 0,Int.le_refl 0,by omega⟩
 rw[eb,aL,eT (by omega),ai,ai,show Vy=0 from rfl,List.take_zero,Hd n o h hl hn,ai,ai]
def p8(n:Nat)(o:WB Int)(h:Vo)(hl:h.length<=1000):JM n o h=some (o::h):=by
 unfold JM;rw[List.singleton_append,bl (by simp; omega),aL]
def aR{α:Type}{l:WB α}{i:Nat}{x:α}(h:l[i]? = some x):l[((i:Nat):Int).toNat]? = some x:=by rw[Ti]; exact h
def bad{α:Type}(p:α->Bool)(l:WB α)(i:Nat):WA (WC⊕WC):=match l[i]? with|some x=>if p x then none else some (.inl ())|none=>none
def mI{α:Type}(p:α->Bool)(l:WB α):bI (bad p l) (.inr ()) l.length 0=if l.all p then .inr () else .inl ():=by
 rcases cK (f:=bad p l) (e:=.inr ()) l.length 0 with⟨h1,h2⟩|⟨j,_,h2,h3⟩
 rw[h2,SU];rw[Tc];intro x hx;obtain⟨j,hj,e⟩:=TL.1 hx;have:=h1 j (by omega) (by omega)
 unfold bad at this;rw[SR hj,e] at this;refine SV fun hc=>?_
 dsimp only at this
 rw[SS hc] at this; cases this
 unfold bad at h3;rw[SR (by omega:j<l.length)] at h3
 dsimp only at h3
 by_cases g:p l[j]=true
 rw[SU g] at h3; cases h3
 rw[SS g] at h3;rw[SS (fun h=>g (Tc.1 h _ (Tx _)))];exact(SX h3).symm
def NH(n:Nat){l:WB Int}(h0:0<l.length)(hl:l.length<1000)(hn:l.length<n):∃m,Pg n l=some m/\m∈l/\∀x∈l,m<=x:=by
 have h00:l[0]? = some l[0]:=SR h0;obtain⟨r,h1,h2⟩:=dG (B:=zb n l) (len:=l.length) (fun i (s:Int)=>(s,(i:Int))) (fun i s=>s∈l/\∀x∈l.take i,s<=x) (fun r=>r∈l/\∀x∈l,r<=x) (fun i s hi hs=>by
  have hx:=SR hi;refine .inl ⟨mi s l[i],?_,?_,fun x hxm=>?_⟩
  ·unfold zb
   try dsimp only
   rw[V7,al hi,aL,aR hx,ai,V9]
  rw[eK];rcases Int.le_total s l[i] with h|h
  rw[Int.min_eq_left h]; exact hs.1
  rw[Int.min_eq_right h]; exact Tx _
  rw[Ux,hx,Tk] at hxm;rw[eK];rcases hxm with h|h
  have:=hs.2 x h; omega
  simp at h; omega) (fun s hs=>by
  rw[Vc] at hs;refine⟨s,?_,hs⟩;unfold zb
  try dsimp only
  rw[V8]) (l.length-1) 1 l[0] n (by omega) (by omega) ⟨Tx _,fun x hx=>by
   rw[Ux,h00] at hx;simp at hx; omega⟩
 refine⟨r,?_,h2⟩;unfold Pg;rw[V8,show bu 0 l.length=true from S5 ⟨by omega,by omega⟩,aL,show Vy=0 from rfl,h00,ai,show((l[0],1):Int×Int)=(l[0],((1:Nat):Int)) from rfl,h1,ai]
def No(n:Nat){l:WB Int}(h0:0<l.length)(hl:l.length<1000)(hn:l.length<n):∃m,O6 n l=some m/\m∈l/\∀x∈l,x<=m:=by
 have h00:l[0]? = some l[0]:=SR h0;obtain⟨r,h1,h2⟩:=dG (B:=AB n l) (len:=l.length) (fun i (s:Int)=>(s,(i:Int))) (fun i s=>s∈l/\∀x∈l.take i,x<=s) (fun r=>r∈l/\∀x∈l,x<=r) (fun i s hi hs=>by
  have hx:=SR hi;refine .inl ⟨ma s l[i],?_,?_,fun x hxm=>?_⟩
  ·unfold AB
   try dsimp only
   rw[V7,al hi,aL,aR hx,ai,V9]
  rw[fA];rcases Int.le_total s l[i] with h|h
  rw[Int.max_eq_right h]; exact Tx _
  rw[Int.max_eq_left h]; exact hs.1
  rw[Ux,hx,Tk] at hxm;rw[fA];rcases hxm with h|h
  have:=hs.2 x h; omega
  simp at h; omega) (fun s hs=>by
  rw[Vc] at hs;refine⟨s,?_,hs⟩;unfold AB
  try dsimp only
  rw[V8]) (l.length-1) 1 l[0] n (by omega) (by omega) ⟨Tx _,fun x hx=>by
   rw[Ux,h00] at hx;simp at hx; omega⟩
 refine⟨r,?_,h2⟩;unfold O6;rw[V8,show bu 0 l.length=true from S5 ⟨by omega,by omega⟩,aL,show Vy=0 from rfl,h00,ai,show((l[0],1):Int×Int)=(l[0],((1:Nat):Int)) from rfl,h1,ai]
def oz(m:Nat)(l:WB Int):Bool:=decide (3<=l.length/\l.length<=40/\∀i∈l,0<=i/\i<m)
section
variable{pts:WB I2}(n:Nat)
def IN{rs:Vo}(hr:rs.length<1000)(hn:1000<n):bh (AI n rs pts) n 0=some (if rs.all (oz pts.length) then .inr () else .inl ()):=by
 rw[<-mI];refine bp (len:=rs.length) (fun i hi=>?_) ?_ rs.length 0 n (by omega) (by omega)
 ·have hx:=SR hi;generalize rs[i]=l at hx;unfold AI bad;rw[hx]
  try dsimp only
  rw[V7,al hi,aL,aR hx,ai,V9]
  have key:(br (decide ((l.length:Int)<3)) (some true) (br (decide (40<(l.length:Int))) (some true) (ob (Pg n l) fun r0=>br (decide (r0<0)) (some true) (ob (O6 n l) fun r1=>some (decide ((pts.length:Int)<=r1))))))=some (!oz pts.length l):=by
   by_cases h0:(l.length:Int)<3
   rw[au h0];unfold oz;rw[S7 (by omega)]; rfl
   rw[av h0]
   by_cases h1:40<(l.length:Int)
   rw[au h1];unfold oz;rw[S7 (by omega)]; rfl
   rw[av h1];obtain⟨a,e0,e2,e1⟩:=NH n (l:=l) (by omega) (by omega) (by omega)
   obtain⟨b,f0,f1,f2⟩:=No n (l:=l) (by omega) (by omega) (by omega)
   rw[e0,ai]
   by_cases h2:a<0
   rw[au h2];unfold oz;rw[S7 (fun h=>by have:=h.2.2 a e2; omega)]; rfl
   rw[av h2,f0,ai];unfold oz;rw[<-decide_not];refine TB some (decide_eq_decide.2 ⟨fun h g=>by have:=g.2.2 b f1; omega,fun h=>?_⟩)
   refine SV fun hc=>h ⟨by omega,by omega,fun x hx=>?_⟩
   have:=e1 x hx;have:=f2 x hx;omega
  rw[key,ai];cases oz pts.length l
  rw[show(!false)=true from rfl,fx]; rfl
  rw[show(!true)=false from rfl,fm]; rfl
 ·unfold AI
  try dsimp only
  rw[V8]
def EL{rs:Vo}(hr:rs.length<1000)(hn:1000<n):bh (tT n rs pts) n 0=some (if rs.all (oz pts.length) then .inr () else .inl ()):=by
 rw[<-mI];refine bp (len:=rs.length) (fun i hi=>?_) ?_ rs.length 0 n (by omega) (by omega)
 ·have hx:=SR hi;generalize rs[i]=l at hx;unfold tT bad;rw[hx]
  try dsimp only
  rw[V7]
  simp only[al hi,aL,aR hx,ai,ak (show i<4611686018427387904 by omega)]
  by_cases h3:(l.length:Int)<3
  have:oz pts.length l=false:=S7 (by omega)
  rw[au h3,ai,fx,this]; rfl
  rw[av h3,ai]
  by_cases h4:40<(l.length:Int)
  have:oz pts.length l=false:=S7 (by omega)
  rw[au h4,this]; rfl
  rw[av h4];have key:bh (tL n (i:Int) rs pts) n 0=some (if l.all (fun x=>decide (0<=x/\x<pts.length)) then .inr () else .inl ()):=by
   rw[<-mI];refine bp (len:=l.length) (fun j hj=>?_) ?_ l.length 0 n (by omega) (by omega)
   ·have hy:=SR hj;generalize l[j]=x at hy;unfold tL bad;rw[hy]
    try dsimp only
    simp only[al hi,aL,aR hx,ai,ak (show j<4611686018427387904 by omega)]
    rw[V7]
    simp only[al hj,aL,aR hy,ai]
    by_cases h5:x<0
    rw[au h5,ai,fx,SS (by simp; omega)]
    rw[av h5,ai]
    by_cases h6:(pts.length:Int)<=x
    rw[au h6,SS (by simp; omega)]
    rw[av h6,SU (by simp; omega)]
   ·unfold tL
    try dsimp only
    simp only[al hi,aL,aR hx,ai];rw[V8]
  rw[key,ai]
  by_cases h7:l.all (fun x=>decide (0<=x/\x<pts.length))=true
  have:oz pts.length l=true:=S5 ⟨by omega,by omega,fun x hx=>by simpa using Tc.1 h7 x hx⟩
  rw[SU h7,this]; rfl
  have:oz pts.length l=false:=S7 fun h=>h7 (Tc.2 fun x hx=>S5 (h.2.2 x hx));rw[SS h7,this]; rfl
 ·unfold tT
  try dsimp only
  rw[V8]
end
abbrev Fc:=WB Int×Vo
def fI(p:Fc->Bool)(F:WB Fc)(i:Nat):WA (Int⊕WC):=match F[i]? with|some x=>if p x then none else some (.inl (i:Int))|none=>none
def okF(m:Nat)(f:Fc):Bool:=decide (f.2.length<=8) &&(f.1::f.2).all (oz m)
noncomputable instance (l:WB I2):Decidable (pJ l):=by unfold pJ; infer_instance
noncomputable def Nn (pts:WB I2) (f:Fc):Bool:=(f.1::f.2).all fun r=>decide (pJ (fi pts r 1))
section
variable{pts:WB I2}{F:WB Fc}(n:Nat)
def LK(f:Fc)(hn:1000<n):Ik n pts F f.1 f.2=some (okF pts.length f):=by
 unfold Ik okF
 by_cases h:8<(f.2.length:Int)
 rw[au h,S7 (by omega)]; rfl
 rw[av h,S5 (by omega),p8 n _ _ (by omega),ai,EL n (by simp; omega) hn,ai,Ut]
 cases(f.1::f.2).all (oz pts.length)<;>rfl
def Gu(hF:F.length<1000)(hn:1000<n):bh (zz n F pts) n 0=some (bI (fI (okF pts.length) F) (.inr ()) F.length 0):=by
 refine bp (len:=F.length) (fun i hi=>?_) ?_ F.length 0 n (by omega) (by omega)
 ·have hx:=SR hi;generalize F[i]=f at hx;unfold zz fI;rw[hx]
  try dsimp only
  rw[V7,al hi,aL,aR hx,ai]
  try dsimp only
  rw[LK n f hn,ai,V9]
  cases okF pts.length f<;>rfl
 ·unfold zz
  try dsimp only
  rw[V8]
def FT(hF:F.length<1000)(hn:1000<n):bh (Ar n F pts) n 0=some (bI (fI (okF pts.length) F) (.inr ()) F.length 0):=by
 refine bp (len:=F.length) (fun i hi=>?_) ?_ F.length 0 n (by omega) (by omega)
 ·have hx:=SR hi;generalize F[i]=f at hx;obtain⟨o,h⟩:=f;unfold Ar fI okF;rw[hx]
  try dsimp only
  rw[V7,al hi,aL,aR hx,ai]
  try dsimp only
  by_cases g:8<(h.length:Int)
  rw[au g,ai,fx,S7 (by omega)]; rfl
  rw[av g,S5 (by omega),xA n _ _ (by omega) hn,ai,IN n (by simp; omega) hn,ai,Ut,V9]
  cases(o::h).all (oz pts.length)<;>rfl
 ·unfold Ar
  try dsimp only
  rw[V8]
def O9(pts:WB I2)(F:WB Fc):Prop:=∀f∈F,okF pts.length f=true
def gJ{m:Nat}{pts:WB I2}(e:m=pts.length){r:WB Int}(h:oz m r=true):Ix pts r/\3<=r.length/\r.length<=40:=by
 have:=of_decide_eq_true h;subst e;exact⟨this.2.2,this.1,this.2.1⟩
def I7(hb:dI pts){r:WB Int}(hx:Ix pts r):∀q∈fi pts r 1,Nr q:=by
 intro q hq;obtain⟨i,hi,rfl⟩:=TS.1 hq;have:=gC hb (hx i hi)
 simpa using this
def DN(hb:dI pts){rs:Vo}(hr:rs.length<1000)(ho:∀r∈rs,oz pts.length r=true)(hn:1000<n):bh (uh n rs pts F) n 0=some (if rs.all (fun r=>decide (pJ (fi pts r 1))) then .inr () else .inl ()):=by
 rw[<-mI];refine bp (len:=rs.length) (fun i hi=>?_) ?_ rs.length 0 n (by omega) (by omega)
 ·have hx:=SR hi;generalize rs[i]=r at hx;obtain⟨hix,h3,h4⟩:=gJ rfl (ho r (Td hx));unfold uh bad;rw[hx]
  try dsimp only
  rw[V7,al hi,aL,aR hx,ai,yv n hb hix (.inl rfl) (by omega) (by omega),ai,Le n (by rw[eU]; omega) (by omega),ai,V9]
  by_cases g:pJ (fi pts r 1)
  simp only[SU g,decide_true,TG,fm,if_true,S5 g]
  simp only[SS g,S7 g]; rfl
 ·unfold uh
  try dsimp only
  rw[V8]
def Jo(hb:dI pts){rs:Vo}(hr:rs.length<1000)(ho:∀r∈rs,oz pts.length r=true)(hn:1000<n):bh (yL n rs pts F) n 0=some (if rs.all (fun r=>decide (pJ (fi pts r 1))) then .inr () else .inl ()):=by
 rw[<-mI];refine bp (len:=rs.length) (fun i hi=>?_) ?_ rs.length 0 n (by omega) (by omega)
 ·have hx:=SR hi;generalize rs[i]=r at hx;obtain⟨hix,h3,h4⟩:=gJ rfl (ho r (Td hx));unfold yL bad;rw[hx]
  try dsimp only
  rw[V7,al hi,aL,aR hx,ai,xO n hb hix (.inl rfl) (by omega) (by omega),ai,NV n (fun x hx=>by
   have:=I7 hb hix x hx;unfold Nr at this; unfold pw; omega) (by rw[eU]; omega) (by omega),ai,V9]
  by_cases g:pJ (fi pts r 1)
  simp only[SU g,decide_true,TG,ai,fm,if_true,S5 g]
  simp only[SS g,S7 g]; rfl
 ·unfold yL
  try dsimp only
  rw[V8]
def jR{f:Fc}(h:okF pts.length f=true):f.2.length<=8/\∀r∈f.1::f.2,oz pts.length r=true:=by
 unfold okF at h;rw[SY] at h;exact⟨of_decide_eq_true h.1,Tc.1 h.2⟩
def G0(hb:dI pts)(ho:O9 pts F)(hF:F.length<1000)(hn:1000<n):bh (yV n F pts) n 0=some (bI (fI (Nn pts) F) (.inr ()) F.length 0):=by
 refine bp (len:=F.length) (fun i hi=>?_) ?_ F.length 0 n (by omega) (by omega)
 ·have hx:=SR hi;generalize F[i]=f at hx;obtain⟨h8,h9⟩:=jR (ho f (Td hx));unfold yV fI J8 Nn;rw[hx]
  try dsimp only
  rw[V7,al hi,aL,aR hx,ai]
  try dsimp only
  rw[p8 n _ _ (by omega),ai,DN n hb (by simp; omega) h9 hn,V9]
  cases(f.1::f.2).all (fun r=>decide (pJ (fi pts r 1)))<;>rfl
 ·unfold yV
  try dsimp only
  rw[V8]
def IY(hb:dI pts)(ho:O9 pts F)(hF:F.length<1000)(hn:1000<n):bh (ze n F pts) n 0=some (bI (fI (Nn pts) F) (.inr ()) F.length 0):=by
 refine bp (len:=F.length) (fun i hi=>?_) ?_ F.length 0 n (by omega) (by omega)
 ·have hx:=SR hi;generalize F[i]=f at hx;obtain⟨h8,h9⟩:=jR (ho f (Td hx));obtain⟨o,h⟩:=f;replace h8:h.length<=8:=h8;unfold ze fI Nn;rw[hx]
  try dsimp only
  rw[V7,al hi,aL,aR hx,ai]
  try dsimp only
  rw[xA n _ _ (by omega) hn,ai,Jo n hb (by simp; omega) h9 hn,V9]
  cases(o::h).all (fun r=>decide (pJ (fi pts r 1)))<;>rfl
 ·unfold ze
  try dsimp only
  rw[V8]
end
def sT(pts:WB I2)(rs:Vo)(i:Nat):WA (WC⊕WC):=match rs[i]? with|some r=>if decide (i=0)==decide (0<ri (fi pts r 1)) then none else some (.inl ())|none=>none
def Pb(pts:WB I2)(f:Fc):Bool:=match bI (sT pts (f.1::f.2)) (.inr ()) (f.1::f.2).length 0 with|.inl _=>false|.inr _=>true
section
variable{pts:WB I2}{F:WB Fc}(n:Nat)
def BD(hb:dI pts){r:WB Int}(hx:Ix pts r)(h3:3<=r.length)(i:Nat):Nr (nx (fi pts r 1) i) :=
 BC (P:=Nr) (by rw[eU]; omega) (fun i hi=>by
  refine I7 hb hx _ ?_;unfold nx;rw[UD hi,SZ,SR hi];exact Tx _) i
def DX(hb:dI pts){rs:Vo}(hr:rs.length<1000)(ho:∀r∈rs,oz pts.length r=true)(ha:∀r∈rs,ri (fi pts r 1)≠0)(hn:1000<n):bh (su n rs pts F) n 0=some (bI (sT pts rs) (.inr ()) rs.length 0):=by
 refine bp (len:=rs.length) (fun i hi=>?_) ?_ rs.length 0 n (by omega) (by omega)
 ·have hx:=SR hi;generalize rs[i]=r at hx;obtain⟨hix,h3,h4⟩:=gJ rfl (ho r (Td hx));have hne:=ha r (Td hx);unfold su sT;rw[hx]
  try dsimp only
  rw[V7,al hi,aL,aR hx,ai,yv n hb hix (.inl rfl) (by omega) (by omega),ai,Gf n (BD hb hix h3) (fun e=>by have:=eU pts r 1; rw[e] at this; simp at this; omega) (by rw[eU]; omega) (by rw[eU]; omega),ai,V9]
  by_cases g:i=0
  subst g;rw[V7]
  by_cases h:ri (fi pts r 1)<0
  rw[au h,ai,fx,S7 (show ¬0<ri (fi pts r 1) by omega)]; rfl
  rw[av h,V8,ai,fm,S5 (show 0<ri (fi pts r 1) by omega)]; rfl
  rw[V8,V7,ai,S7 g]
  by_cases h:0<ri (fi pts r 1)
  rw[au h,S5 h]; rfl
  rw[av h,S7 h]; rfl
 ·unfold su
  try dsimp only
  rw[V8]
def Hi(hb:dI pts){rs:Vo}(hr:rs.length<1000)(ho:∀r∈rs,oz pts.length r=true)(ha:∀r∈rs,ri (fi pts r 1)≠0)(hn:1000<n):bh (yP n rs pts F) n 0=some (bI (sT pts rs) (.inr ()) rs.length 0):=by
 refine bp (len:=rs.length) (fun i hi=>?_) ?_ rs.length 0 n (by omega) (by omega)
 ·have hx:=SR hi;generalize rs[i]=r at hx;obtain⟨hix,h3,h4⟩:=gJ rfl (ho r (Td hx));have hne:=ha r (Td hx);unfold yP sT;rw[hx]
  try dsimp only
  rw[V7,al hi,aL,aR hx,ai,xO n hb hix (.inl rfl) (by omega) (by omega),ai,N8 n (BD hb hix h3) (by rw[eU]; omega) (by rw[eU]; omega),ai,ai,V9]
  by_cases g:i=0
  subst g
  by_cases h:ri (fi pts r 1)<0
  rw[S5 h,S7 (show ¬0<ri (fi pts r 1) by omega)]; rfl
  rw[S7 h,S5 (show 0<ri (fi pts r 1) by omega)]; rfl
  rw[S7 g,S7 (show ¬(i:Int)=0 by omega)]
  by_cases h:ri (fi pts r 1)<0
  rw[S5 h,S7 (show ¬0<ri (fi pts r 1) by omega)]; rfl
  rw[S7 h,S5 (show 0<ri (fi pts r 1) by omega)]; rfl
 ·unfold yP
  try dsimp only
  rw[V8]
def HN(hb:dI pts)(ho:O9 pts F)(ha:∀f∈F,∀r∈f.1::f.2,ri (fi pts r 1)≠0)(hF:F.length<1000)(hn:1000<n):bh (zg n F pts) n 0=some (bI (fI (Pb pts) F) (.inr ()) F.length 0):=by
 refine bp (len:=F.length) (fun i hi=>?_) ?_ F.length 0 n (by omega) (by omega)
 ·have hx:=SR hi;generalize F[i]=f at hx;obtain⟨h8,h9⟩:=jR (ho f (Td hx));unfold zg fI KC Pb;rw[hx]
  try dsimp only
  rw[V7,al hi,aL,aR hx,ai]
  try dsimp only
  rw[p8 n _ _ (by omega),ai,DX n hb (by simp; omega) h9 (ha f (Td hx)) hn,V9]
  cases bI (sT pts (f.1::f.2)) (.inr ()) (f.1::f.2).length 0<;>rfl
 ·unfold zg
  try dsimp only
  rw[V8]
def Hl(hb:dI pts)(ho:O9 pts F)(ha:∀f∈F,∀r∈f.1::f.2,ri (fi pts r 1)≠0)(hF:F.length<1000)(hn:1000<n):bh (zM n F pts) n 0=some (bI (fI (Pb pts) F) (.inr ()) F.length 0):=by
 refine bp (len:=F.length) (fun i hi=>?_) ?_ F.length 0 n (by omega) (by omega)
 ·have hx:=SR hi;generalize F[i]=f at hx;obtain⟨h8,h9⟩:=jR (ho f (Td hx));have h10:=ha f (Td hx);obtain⟨o,h⟩:=f;replace h8:h.length<=8:=h8;unfold zM fI Pb;rw[hx]
  try dsimp only
  rw[V7,al hi,aL,aR hx,ai]
  try dsimp only
  rw[xA n _ _ (by omega) hn,ai,Hi n hb (by simp; omega) h9 h10 hn,V9]
  cases bI (sT pts (o::h)) (.inr ()) (o::h).length 0<;>rfl
 ·unfold zM
  try dsimp only
  rw[V8]
end
end Go.Proofs.YtmndpgfbkicndaaGreat
end
section
namespace Jd
section
variable{n:Nat}{v:Nat->P2}
def Simple.Lv(S:Simple n v){L:Int}(hL:∀i,i<n->HS n v 1 i L/\HS n v (-1) i (L-1)){p:P2}(hp:∀i,i<n->(v i).2≠p.2):W n v p=0\/W n v p=2*L-1/\(L=0\/L=1):=by
 have hn3:=S.n3;have hp':∀i,i<n->(v (i+1)).2≠p.2:=fun i hi=>by
  by_cases e:i+1=n
  rw[e,S.cl]; exact hp 0 (by omega)
  exact hp (i+1) (by omega)
 have hX:∀i,∃X:Rat,i<n->(∀q:P2,q.2=p.2->we (v i) (v (i+1)) q=if q.1<X then dd (v i) (v (i+1)) p.2 else 0)/\(dd (v i) (v (i+1)) p.2≠0->∃t,0<t/\t<1/\cv (v i) (v (i+1)) t=(X,p.2)):=fun i=>by
  by_cases hi:i<n
  obtain⟨X,h⟩:=Ah (hp i hi) (hp' i hi);exact⟨X,fun _=>h⟩
  exact⟨0,fun h=>Tj h hi⟩
 obtain⟨X,hX⟩:=Classical.axiomOfChoice hX;have hW:∀q:P2,q.2=p.2->W n v q=bD n fun i=>if q.1<X i then dd (v i) (v (i+1)) p.2 else 0:=fun q hq=>aX fun i hi=>(hX i hi).1 q hq
 by_cases hE:∃i,i<n/\(dd (v i) (v (i+1)) p.2≠0/\p.1<X i)
 obtain⟨i,i1,⟨i2,i3⟩,i4⟩:=jB (X:=X) hE;obtain⟨k,k1,⟨k2,k3⟩,k4⟩:=jB (X:=fun i=>-X i) hE;have hl:W n v p=L\/W n v p=L-1:=by
  obtain⟨t,t0,t1,t2⟩:=(hX i i1).2 i2;have key:∀σ M,0 < σ*cr (v i) (v (i+1)) (-1,0)->HS n v σ i M->W n v p=M:=by
   intro σ M hσ hM;obtain⟨e,e0,he⟩:=hM t (-1,0) t0 t1 hσ;obtain⟨x,x0,xe,xp⟩:=fH e0 (show 0<X i-p.1 by grind)
   rw[<-he x x0 (by grind),t2,hW p rfl,hW (sm (X i,p.2) (-1,0) x) (by unfold sm; grind)]
   refine aX fun j hj=>?_
   by_cases hd:dd (v j) (v (j+1)) p.2=0
   rw[hd,ite_self,ite_self]
   by_cases hx:p.1<X j
   have:=i4 j hj ⟨hd,hx⟩;rw[SU hx,SU (by unfold sm; grind)]
   rw[SS hx,SS (by unfold sm; grind)]
  by_cases h1:(v i).2<p.2/\p.2<(v (i+1)).2
  exact .inl (key 1 L (by unfold cr; grind) (hL i i1).1)
  have h2:(v (i+1)).2<p.2/\p.2<(v i).2:=by
   unfold dd at i2;rw[SS h1] at i2;exact SV fun h=>i2 (SS h)
  exact .inr (key (-1) (L-1) (by unfold cr; grind) (hL i i1).2)
 have hr:L=0\/L=1:=by
  obtain⟨t,t0,t1,t2⟩:=(hX k k1).2 k2;have key:∀σ M,0 < σ*cr (v k) (v (k+1)) (1,0)->HS n v σ k M->M=0:=by
   intro σ M hσ hM;obtain⟨e,e0,he⟩:=hM t (1,0) t0 t1 hσ;rw[<-he e e0 (by grind),t2,hW (sm (X k,p.2) (1,0) e) (by unfold sm; grind)]
   refine cB fun j hj=>?_
   by_cases hd:dd (v j) (v (j+1)) p.2=0
   rw[hd,ite_self]
   refine SS fun hx=>?_;have hx':X k+e<X j:=by unfold sm at hx; grind
   have:=k4 j hj ⟨hd,by grind⟩
   grind
  by_cases h1:(v k).2<p.2/\p.2<(v (k+1)).2
  have:=key (-1) (L-1) (by unfold cr; grind) (hL k k1).2
  exact .inr (by omega)
  have h2:(v (k+1)).2<p.2/\p.2<(v k).2:=by
   unfold dd at k2;rw[SS h1] at k2;exact SV fun h=>k2 (SS h)
  exact .inl (key 1 L (by unfold cr; grind) (hL k k1).1)
 omega
 left
 rw[hW p rfl];refine cB fun j hj=>?_
 by_cases hd:dd (v j) (v (j+1)) p.2=0
 rw[hd,ite_self]
 exact SS fun hx=>hE ⟨j,hj,hd,hx⟩
def Simple.IA(S:Simple n v){L:Int}(hL:∀i,i<n->HS n v 1 i L/\HS n v (-1) i (L-1)){p:P2}(hp:∀i,i<n->((v i).2<=p.2/\p.2<(v (i+1)).2)\/((v (i+1)).2<=p.2/\p.2<(v i).2)->tn (v i) (v (i+1)) p≠0) :
  W n v p=0\/W n v p=2*L-1/\(L=0\/L=1):=by
 have hn3:=S.n3;have h1:Ev fun x _=>∀i,i<n->(v i).2<=p.2\/p.2+x<(v i).2:=Ev.all (P:=fun i x _=>(v i).2<=p.2\/p.2+x<(v i).2) fun i _=>by
  by_cases h:(v i).2<=p.2
  exact Ev.of fun _ _ _ _=>.inl h
  exact⟨((v i).2-p.2)/2,by grind,fun x y x0 x1 _ _=>.inr (by grind)⟩
 have h2:Ev fun x _=>∀i,i<n->(tn (v i) (v (i+1)) p<0->tn (v i) (v (i+1)) (p.1,p.2+x)<0)/\(0<tn (v i) (v (i+1)) p->0<tn (v i) (v (i+1)) (p.1,p.2+x)) :=
  Ev.all (P:=fun i x _=>(tn (v i) (v (i+1)) p<0->tn (v i) (v (i+1)) (p.1,p.2+x)<0)/\(0<tn (v i) (v (i+1)) p->0<tn (v i) (v (i+1)) (p.1,p.2+x))) fun i _=>by
   have e:∀x,tn (v i) (v (i+1)) (p.1,p.2+x)=tn (v i) (v (i+1)) p+x*((v (i+1)).1-(v i).1):=fun x=>by unfold tn; grind
   by_cases hm:tn (v i) (v (i+1)) p<0
   obtain⟨a,a0,ha⟩:=qv hm ((v (i+1)).1-(v i).1);exact⟨a,a0,fun x y x0 x1 _ _=>⟨fun _=>by rw[e]; exact ha x x0 x1,fun h=>by grind⟩⟩
   by_cases hq:0<tn (v i) (v (i+1)) p
   obtain⟨a,a0,ha⟩:=qv (A:=-tn (v i) (v (i+1)) p) (by grind) (-((v (i+1)).1-(v i).1))
   exact⟨a,a0,fun x y x0 x1 _ _=>⟨fun h=>Tj h hm,fun _=>by rw[e]; have:=ha x x0 x1; grind⟩⟩
   exact Ev.of fun _ _ _ _=>⟨fun h=>Tj h hm,fun h=>Tj h hq⟩
 obtain⟨x,x0,hx⟩:=h1.and h2;obtain⟨g1,g2⟩:=hx x x x0 (by grind) x0 (by grind)
 have g1':∀i,i<n->(v (i+1)).2<=p.2\/p.2+x<(v (i+1)).2:=fun i hi=>by
  by_cases e:i+1=n
  rw[e,S.cl]; exact g1 0 (by omega)
  exact g1 (i+1) (by omega)
 have e:W n v p=W n v (p.1,p.2+x):=aX fun i hi=>by
  have a:=g1 i hi;have b:=g1' i hi;obtain⟨c1,c2⟩:=g2 i hi;have hc:=hp i hi
  by_cases k1:(v i).2<=p.2/\p.2<(v (i+1)).2
  rw[gH k1.1 k1.2,gH (by grind) (by grind)]
  exact jP ⟨c2,fun h=>by have:=hc (.inl k1); grind⟩
  by_cases k2:(v (i+1)).2<=p.2/\p.2<(v i).2
  rw[iS (v (i+1)) (v i),iS (v (i+1)) (v i),gH k2.1 k2.2,gH (by grind) (by grind),hZ (v i),hZ (v i)]
  rw[jP (d:=0 < -tn (v i) (v (i+1)) (p.1,p.2+x)) ⟨fun h=>by have:=c1 (by grind); grind,fun h=>by have:=hc (.inr k2); grind⟩]
  rw[eo k1 k2,eo (by grind) (by grind)]
 rw[e];exact S.Lv hL fun i hi=>by have:=g1 i hi; grind
def Simple.sign(S:Simple n v):∃s:Int,(s=1\/s = -1)/\∀p:P2,(∀i,i<n->((v i).2<=p.2/\p.2<(v (i+1)).2)\/((v (i+1)).2<=p.2/\p.2<(v i).2)->tn (v i) (v (i+1)) p≠0)->W n v p=0\/W n v p=s:=by
 obtain⟨L,hL⟩:=S.along
 by_cases h:L=0\/L=1
 exact⟨2*L-1,by omega,fun p hp=>(S.IA hL hp).imp_right And.left⟩
 exact⟨1,.inl rfl,fun p hp=>.inl ((S.IA hL hp).resolve_right fun g=>h g.2)⟩
end
def qk(a:I2):I2:=(-a.1,-a.2)
def wj(a b p:I2):Int:=if a.2<p.2/\p.2<=b.2/\ti a b p<0 then -1 else if b.2<p.2/\p.2<=a.2/\0<ti a b p then 1 else 0
def up(p v:I2):Int:=if p.2<v.2\/(v.2=p.2/\v.1<p.1) then 1 else 0
def nY(r:WB I2)(p:I2):Int:=bD r.length fun i=>wj (nx r i) (nx r (i+1)) p
def uj{a b p:I2}(h:a.2=p.2):ti a b p=(b.2-a.2)*(a.1-p.1):=by unfold ti; grind
def vB{a b p:I2}(h:b.2=p.2):ti a b p=(b.2-a.2)*(b.1-p.1):=by unfold ti; grind
def jE{k x:Int}(h:0<k):(0<k*x↔0<x)/\(k*x<0↔x<0):=⟨ll h,gT h⟩
def sM{k x:Int}(h:k<0):(0<k*x↔x<0)/\(k*x<0↔0<x):=by
 have e:k*x = -((-k)*x):=by grind
 have:=jE (x:=x) (show 0 < -k by omega)
 rw[e]; omega
def wF{a b p:I2}(h:ti a b p=0):wi a b p=0:=by unfold wi; rw[Vz,Vz]
def Dq{a b p:I2}(h:ti a b p=0):wj a b p=0:=by unfold wj; rw[Vz,Vz]
def R4{a b p:I2}(h:¬cE a b p):wi a b p-wj a b p=up p b-up p a:=by
 by_cases ha:a.2=p.2
 by_cases hb:b.2=p.2
 have h0:ti a b p=0:=by rw[uj ha,hb,ha]; simp
 rw[wF h0,Dq h0];have:¬(min a.1 b.1<=p.1/\p.1<=max a.1 b.1):=fun g=>h ⟨h0,g.1,g.2,by omega,by omega⟩
 unfold up
 by_cases g:a.1<p.1
 rw[SU (.inr ⟨hb,by omega⟩),SU (.inr ⟨ha,g⟩)]<;>rfl
 rw[Vz,Vz]<;>rfl
 have ht:=uj (b:=b) ha;have hne:a.1≠p.1:=fun e=>h (by rw[show p=a from TZ e.symm ha.symm]; exact vv a b)
 by_cases hb':p.2<b.2
 have s:=jE (k:=b.2-a.2) (x:=a.1-p.1) (by omega)
 rw[<-ht] at s;unfold wi wj up
 by_cases g:a.1<p.1
 rw[Vz,Vz,Vz,Vz,VA,VA]<;>rfl
 rw[VA,Vz,Vz,VA,Vz]<;>rfl
 have s:=sM (k:=b.2-a.2) (x:=a.1-p.1) (by omega)
 rw[<-ht] at s;unfold wi wj up
 by_cases g:a.1<p.1
 rw[Vz,Vz,Vz,VA,Vz,VA]<;>rfl
 rw[Vz,Vz,Vz,Vz,Vz,Vz]<;>rfl
 by_cases hb:b.2=p.2
 have ht:=vB (a:=a) hb;have hne:b.1≠p.1:=fun e=>h (by rw[show p=b from TZ e.symm hb.symm]; exact vi a b)
 by_cases ha':p.2<a.2
 have s:=sM (k:=b.2-a.2) (x:=b.1-p.1) (by omega)
 rw[<-ht] at s;unfold wi wj up
 by_cases g:b.1<p.1
 rw[Vz,Vz,Vz,Vz,VA,VA]<;>rfl
 rw[Vz,VA,Vz,Vz,Vz,VA]<;>rfl
 have s:=jE (k:=b.2-a.2) (x:=b.1-p.1) (by omega)
 rw[<-ht] at s;unfold wi wj up
 by_cases g:b.1<p.1
 rw[Vz,Vz,VA,VA,Vz]<;>rfl
 rw[Vz,Vz,Vz,Vz,Vz,Vz]<;>rfl
 by_cases ha':p.2<a.2
 by_cases hb':p.2<b.2
 unfold wi wj up;rw[Vz,Vz,Vz,Vz,VA,VA]<;>rfl
 have h0:ti a b p≠0:=fun h0=>h (gQ (.inr ⟨by omega,by omega⟩) h0)
 unfold wi wj up
 by_cases g:ti a b p<0
 rw[Vz,VA,Vz,Vz,Vz,VA]<;>rfl
 rw[Vz,Vz,Vz,VA,Vz,VA]<;>rfl
 by_cases hb':p.2<b.2
 have h0:ti a b p≠0:=fun h0=>h (gQ (.inl ⟨by omega,by omega⟩) h0)
 unfold wi wj up
 by_cases g:ti a b p<0
 rw[Vz,Vz,VA,VA,Vz]<;>rfl
 rw[VA,Vz,Vz,VA,Vz]<;>rfl
 unfold wi wj up;rw[Vz,Vz,Vz,Vz,Vz,Vz]<;>rfl
instance(a b p:I2):Decidable (cE a b p):=by unfold cE; infer_instance
def Nd(a b p:I2):Int:=if cE a b p then up p b-up p a else 0
def IG(a b p:I2):wi a b p-wj a b p+Nd a b p=up p b-up p a:=by
 unfold Nd
 by_cases h:cE a b p
 rw[SU h,wF h.1,Dq h.1]; omega
 rw[SS h,<-R4 h]; omega
def Cz(r:WB I2)(p:I2):fW r p-nY r p+bD r.length (fun i=>Nd (nx r i) (nx r (i+1)) p)=0:=by
 have h1:=sj r.length fun i=>up p (nx r i);rw[xH,Int.sub_self] at h1;have h2:=jx r.length (fun i=>wi (nx r i) (nx r (i+1)) p-wj (nx r i) (nx r (i+1)) p) fun i=>Nd (nx r i) (nx r (i+1)) p;rw[kh] at h2;unfold fW nY;rw[<-h2,<-h1];exact aX fun i _=>IG _ _ _
def HZ{r:WB I2}{p:I2}(hp:∀i,i<r.length->¬cE (nx r i) (nx r (i+1)) p):nY r p=fW r p:=by
 have h:=Cz r p;rw[cB (fun i hi=>by unfold Nd; rw[SS (hp i hi)])] at h
 omega
def Bm(a b p:I2):ti (qk a) (qk b) (qk p)=ti a b p:=by unfold ti qk; grind
def BK(a b p:I2):wi (qk a) (qk b) (qk p)=wj a b p:=by
 unfold wi wj;rw[Bm];unfold qk
 dsimp only
 by_cases h1:a.2<p.2/\p.2<=b.2/\ti a b p<0
 rw[Vz,VA,SU h1]
 rw[SS h1]
 by_cases h2:b.2<p.2/\p.2<=a.2/\0<ti a b p
 rw[VA,SU h2]
 rw[Vz,Vz,SS h2]
def An{r:WB I2}(h:r≠[])(p:I2):fW (r.map qk) (qk p)=nY r p:=by
 unfold fW nY;rw[To];exact aX fun i _=>by rw[dF _ h,dF _ h,BK]
def CG{a b c:I2}:cE (qk a) (qk b) (qk c)↔cE a b c:=by
 unfold cE;rw[Bm];unfold qk
 dsimp only
 omega
def nv{N:Int}{t:Rat}(hN:0<N)(ht:(N:Rat)*t=1)(a q:Int):((a:Rat)<=(q:Rat)*t↔a*N<=q)/\((q:Rat)*t<(a:Rat)↔q<a*N):=by
 have hN':(0:Rat)<(N:Rat):=gY.2 hN;have t0:0<t:=by
  refine SV fun h=>?_;have:=dm (show 0<=(N:Rat) by grind) (show t<=0 by grind)
  grind
 have key:(a:Rat)<=(q:Rat)*t↔a*N<=q:=by
  rw[<-pa,UK];constructor
  intro h;have:=cq (show 0<=(q:Rat)*t-a by grind) (show 0<=(N:Rat) by grind)
  rw[show((q:Rat)*t-a)*N=q*(N*t)-a*N by grind,ht,Rat.mul_one] at this
  grind
  intro h;have:=cq (show 0<=(q:Rat)-a*N by grind) (show 0<=t by grind)
  rw[show((q:Rat)-a*N)*t=q*t-a*(N*t) by grind,ht,Rat.mul_one] at this
  grind
 refine⟨key,?_⟩;constructor
 intro h;have:=mt key.2 (by grind)
 omega
 intro h;have:=mt key.1 (by omega)
 grind
def AG{N:Int}{t:Rat}(ht:(N:Rat)*t=1)(a b q:I2):tn (ca a) (ca b) ((q.1:Rat)*t,(q.2:Rat)*t)=((ti (dA N a) (dA N b) q:Int):Rat)*(t*t):=by
 rw[<-lA];unfold tn ca dA;simp only[UK]
 grind
def VR.sign{r:WB I2}(h:VR r):∃s:Int,(s=1\/s = -1)/\∀N:Int,0<N->∀q:I2,(∀i,i<r.length->¬cE (dA N (nx r i)) (dA N (nx r (i+1))) q)->Jd.fW (r.map (dA N)) q=0\/Jd.fW (r.map (dA N)) q=s:=by
 have hr:r≠[]:=fun e=>by have:=h.n3; rw[e] at this; simp at this
 obtain⟨s,hs,hm⟩:=h.simple.sign;refine⟨s,hs,fun N hN q hq=>?_⟩;have hN':(0:Rat)<(N:Rat):=gY.2 hN;have ht:(N:Rat)*(N:Rat)⁻¹=1:=Rat.mul_inv_cancel _ (by grind)
 have t0:0<(N:Rat)⁻¹:=by
  refine SV fun h=>?_;have:=dm (show 0<=(N:Rat) by grind) (show(N:Rat)⁻¹<=0 by grind)
  grind
 generalize(N:Rat)⁻¹=t at ht t0;have tt:=bz t0 t0;have sp:∀x:Int,(0<(x:Rat)*(t*t)↔0<x)/\((x:Rat)*(t*t)<0↔x<0):=fun x=>by
  have p1:∀y:Int,0<y->0<(y:Rat)*(t*t):=fun y hy=>bz (gY.2 hy) tt;have p2:∀y:Int,y<0->(y:Rat)*(t*t)<0:=fun y hy=>by
   have:=bz (show(0:Rat) < -(y:Rat) by have:=np.2 hy; grind) tt
   grind
  rcases Int.lt_trichotomy x 0 with g|g|g
  have:=p2 x g;constructor<;>constructor<;>intro k<;>first|omega|grind
  subst g;simp
  have:=p1 x g;constructor<;>constructor<;>intro k<;>first|omega|grind
 have e:W r.length (fun i=>ca (nx r i)) ((q.1:Rat)*t,(q.2:Rat)*t)=Jd.fW (r.map (dA N)) q:=by
  unfold Jd.fW W;rw[To];refine aX fun i _=>?_;rw[dF _ hr,dF _ hr]
  show we (ca (nx r i)) (ca (nx r (i+1))) _=_
  generalize nx r i=a;generalize nx r (i+1)=b;unfold we wi;rw[AG ht];unfold ca
  dsimp only
  simp only[(nv hN ht _ _).1,(nv hN ht _ _).2,(sp _).1,(sp _).2]
  rfl
 rw[<-e];refine hm _ fun i hi hl=>?_
 show tn (ca (nx r i)) (ca (nx r (i+1))) _≠0
 rw[AG ht];intro h0;have hz:=sp (ti (dA N (nx r i)) (dA N (nx r (i+1))) q);have h0':ti (dA N (nx r i)) (dA N (nx r (i+1))) q=0:=by
  have a1:=mt hz.1.2 (by rw[h0]; grind)
  have a2:=mt hz.2.2 (by rw[h0]; grind)
  omega
 refine hq i hi (gQ ?_ h0');unfold ca at hl
 dsimp only at hl
 simp only[(nv hN ht _ _).1,(nv hN ht _ _).2] at hl;exact hl
def CB{u w:Int}(h:(0<=w/\w<=u)\/(u<=w/\w<=0)):0<=u*w/\(w≠0->0<u*w):=by
 rcases h with h|h
 exact⟨UB (by omega) h.1,fun h0=>Va (by omega) (by omega)⟩
 exact⟨UM (by omega) h.2,fun h0=>Int.mul_pos_of_neg_of_neg (by omega) (by omega)⟩
def Dg{a v p:I2}(h:cE a v p)(hne:p≠v):(a.1-v.1)*(p.2-v.2)=(a.2-v.2)*(p.1-v.1)/\0<(a.1-v.1)*(p.1-v.1)+(a.2-v.2)*(p.2-v.2):=by
 obtain⟨h0,h1,h2,h3,h4⟩:=h;have e1:=CB (u:=a.1-v.1) (w:=p.1-v.1) (by omega)
 have e2:=CB (u:=a.2-v.2) (w:=p.2-v.2) (by omega)
 refine⟨by unfold ti at h0; grind,?_⟩
 by_cases g:p.1-v.1=0
 have g2:p.2-v.2≠0:=fun g2=>hne (TZ (by omega) (by omega))
 have:=e2.2 g2;omega
 have:=e1.2 g;omega
def It{a v b p:I2}(h1:cE a v p)(h2:cE v b p)(hne:p≠v):ti a v b=0/\di a v b<0:=by
 obtain⟨e1,d1⟩:=Dg h1 hne;obtain⟨e2,d2⟩:=Dg h2.swap hne;have hd:=KS (u:=(a.1-v.1,a.2-v.2)) (v:=(b.1-v.1,b.2-v.2)) (w:=(p.1-v.1,p.2-v.2)) e1 e2 d1 d2
 dsimp only at hd
 refine⟨?_,by unfold di; grind⟩
 have hw:¬(p.1-v.1=0/\p.2-v.2=0):=fun g=>hne (TZ (by omega) (by omega))
 have hx:(p.1-v.1)*ti a v b=0:=by unfold ti; grind
 have hy:(p.2-v.2)*ti a v b=0:=by unfold ti; grind
 rcases T1.1 hx with g|g
 rcases T1.1 hy with k|k
 exact Tj ⟨g,k⟩ hw
 exact k
 exact g
def Cm{x a b:Int}(h:min a b<=x/\x<=max a b):0<=(b-x)*(b-a)/\0<=(x-a)*(b-a):=by
 rcases Int.le_total a b with g|g
 exact⟨UB (by omega) (by omega),UB (by omega) (by omega)⟩
 exact⟨UM (by omega) (by omega),UM (by omega) (by omega)⟩
def Kg{a b p:I2}(hab:a≠b)(h:cE a b p):∃w1 w2 D:Int,0<=w1/\0<=w2/\w1+w2=D/\0<D/\D*p.1=w1*a.1+w2*b.1/\D*p.2=w1*a.2+w2*b.2:=by
 obtain⟨h0,h1,h2,h3,h4⟩:=h;have e1:=Cm ⟨h1,h2⟩;have e2:=Cm ⟨h3,h4⟩;refine⟨(b.1-p.1)*(b.1-a.1)+(b.2-p.2)*(b.2-a.2),(p.1-a.1)*(b.1-a.1)+(p.2-a.2)*(b.2-a.2),(b.1-a.1)*(b.1-a.1)+(b.2-a.2)*(b.2-a.2),by omega,by omega,by grind,?_,?_,?_⟩
 have s1:=@O4 (b.1-a.1);have s2:=@O4 (b.2-a.2);refine SV fun k=>hab ?_;have g1:=L9 (show(b.1-a.1)*(b.1-a.1)=0 by omega)
 have g2:=L9 (show(b.2-a.2)*(b.2-a.2)=0 by omega)
 exact TZ (by omega) (by omega)
 unfold ti at h0; grind
 unfold ti at h0; grind
def Cs{a b p:I2}(hab:a≠b)(h:cE a b p){α β γ:Rat}(ha:0<af α β γ (ca a))(hb:0<af α β γ (ca b)):0<af α β γ (ca p):=by
 obtain⟨w1,w2,D,h1,h2,h3,h4,h5,h6⟩:=Kg hab h;have c5:(D:Rat)*(p.1:Rat)=(w1:Rat)*a.1+(w2:Rat)*b.1:=by rw[<-UK,h5,Rat.intCast_add,UK,UK]
 have c6:(D:Rat)*(p.2:Rat)=(w1:Rat)*a.2+(w2:Rat)*b.2:=by rw[<-UK,h6,Rat.intCast_add,UK,UK]
 have c3:(w1:Rat)+(w2:Rat)=D:=by rw[<-Rat.intCast_add,h3]
 have d0:(0:Rat)<D:=gY.2 h4;have n1:(0:Rat)<=w1:=by have:=(pa (x:=0) (y:=w1)).2 h1; simpa using this
 have n2:(0:Rat)<=w2:=by have:=(pa (x:=0) (y:=w2)).2 h2; simpa using this
 have e:(D:Rat)*af α β γ (ca p)=w1*af α β γ (ca a)+w2*af α β γ (ca b):=by
  unfold af ca
  dsimp only
  grind
 have q1:=cq n1 (show 0<=af α β γ (ca a) by grind)
 have q2:=cq n2 (show 0<=af α β γ (ca b) by grind)
 have q:0<(D:Rat)*af α β γ (ca p):=by
  rw[e]
  by_cases k:(w1:Rat)=0
  have:0<(w2:Rat):=by grind
  have:=bz this hb
  grind
  have:=bz (show 0<(w1:Rat) by grind) ha
  grind
 refine SV fun k=>?_;have:=dm (show 0<=(D:Rat) by grind) (show af α β γ (ca p)<=0 by grind)
 grind
def Md{a b c d p:I2}(hab:a≠b)(hcd:c≠d)(h:NM a b c d)(h1:cE a b p)(h2:cE c d p):False:=by
 obtain⟨α,β,γ,g1,g2,g3,g4⟩:=sb hab hcd h.1 h.2;have k1:=Cs hab h1 g1 g2;have k2:=Cs (α:=-α) (β:=-β) (γ:=-γ) hcd h2 (by unfold af at *; grind) (by unfold af at *; grind)
 unfold af at k1 k2; grind
section
variable{r:WB I2}
def VR.Hq(h:VR r){i j:Nat}(hij:i<j)(hj:j<r.length){p:I2}(hi:cE (nx r i) (nx r (i+1)) p)(hp:cE (nx r j) (nx r (j+1)) p):(j=i+1/\p=nx r j)\/(i=0/\j+1=r.length/\p=nx r 0):=by
 by_cases h1:j=i+1
 subst h1;refine .inl ⟨rfl,SV fun hne=>h.spike i (It hi hp hne)⟩
 by_cases h2:i=0/\j+1=r.length
 obtain⟨rfl,h2⟩:=h2;refine .inr ⟨rfl,h2,SV fun hne=>?_⟩;have e1:nx r (j+1)=nx r 0:=by rw[h2,xH]
 have e2:nx r (j+2)=nx r 1:=by
  rw[show j+2=1+r.length by omega]
  exact oV r (Nat.add_mod_right 1 r.length)
 have:=h.spike j;rw[e1,e2] at this;rw[e1] at hp;exact this (It hp hi hne)
 exact(Md (h.still i) (h.still j) (h.meet i j (by omega) hj h2) hi hp).elim
def pv(r:WB I2)(m:Nat):Nat:=if m=0 then r.length-1 else m-1
def QE{m:Nat}(hm:m<r.length):pv r m<r.length:=by unfold pv; split<;>omega
def MN{m:Nat}(hm:m<r.length):nx r (pv r m+1)=nx r m:=by
 unfold pv
 by_cases h:m=0
 subst h; rw[SU rfl,show r.length-1+1=r.length by omega,xH]
 rw[SS h,show m-1+1=m by omega]
def VR.xK(h:VR r){m i:Nat}(hm:m<r.length)(hi:i<r.length)(hb:cE (nx r i) (nx r (i+1)) (nx r m)):i=m\/i=pv r m:=by
 by_cases e:i=m
 exact .inl e
 refine .inr ?_;have hself:cE (nx r m) (nx r (m+1)) (nx r m):=vv _ _;have hn3:=h.n3;rcases Nat.lt_or_gt_of_ne e with g|g
 rcases h.Hq g hm hb hself with⟨k,_⟩|⟨k1,k2,k3⟩
 unfold pv; rw[Vz]; omega
 exfalso;subst k1;have hp:pv r m<r.length:=QE hm;have hs:cE (nx r (pv r m)) (nx r (pv r m+1)) (nx r m):=by rw[MN hm]; exact vi _ _
 have e2:pv r m=m-1:=by unfold pv; rw[Vz]
 have hlt:0<pv r m:=by rw[e2]; omega
 rcases h.Hq hlt hp hb hs with⟨k,k'⟩|⟨_,k,_⟩
 rw[e2] at k k';have:=h.still 0;have e3:nx r (m-1)=nx r 1:=by rw[k]
 rw[e3] at k';exact this (by rw[<-k3,k'])
 omega
 rcases h.Hq g hi hself hb with⟨k,k'⟩|⟨k1,k2,k3⟩
 subst k; exact Tj k' (h.still m)
 unfold pv; rw[SU k1]; omega
def VR.B2(h:VR r){i j:Nat}(hi:i<r.length)(hj:j<r.length){p:I2}(hp:∀k,p≠nx r k)(h1:cE (nx r i) (nx r (i+1)) p)(h2:cE (nx r j) (nx r (j+1)) p):i=j:=by
 refine SV fun hne=>?_;rcases Nat.lt_or_gt_of_ne hne with g|g
 rcases h.Hq g hj h1 h2 with⟨_,k⟩|⟨_,_,k⟩<;>exact hp _ k
 rcases h.Hq g hi h2 h1 with⟨_,k⟩|⟨_,_,k⟩<;>exact hp _ k
end
def Lg(P:Int->Prop):Prop:=∃k,∀N,k<=N->P N
def Lg.ge(k:Int):Lg (k<=·):=⟨k,fun _ h=>h⟩
def Lg.and{P Q:Int->Prop}(h:Lg P)(g:Lg Q):Lg fun N=>P N/\Q N:=by
 obtain⟨a,ha⟩:=h;obtain⟨b,hb⟩:=g;exact⟨max a b,fun N hN=>⟨ha N (by omega),hb N (by omega)⟩⟩
def Lg.imp{P Q:Int->Prop}(h:Lg P)(g:∀N,P N->Q N):Lg Q:=by
 obtain⟨a,ha⟩:=h;exact⟨a,fun N hN=>g N (ha N hN)⟩
def Lg.all{P:Nat->Int->Prop}{n:Nat}(h:∀i,i<n->Lg (P i)):Lg fun N=>∀i,i<n->P i N:=by
 induction n with
 | zero=>exact⟨0,fun _ _ i hi=>by omega⟩
 | succ n ih =>
  refine((ih fun i hi=>h i (by omega)).and (h n (by omega))).imp fun N g i hi=>?_
  by_cases e:i=n
  rw[e]; exact g.2
  exact g.1 i (by omega)
def Lg.get{P:Int->Prop}(h:Lg P):∃N,0<N/\P N:=by
 obtain⟨k,hk⟩:=h;exact⟨max k 1,by omega,hk _ (by omega)⟩
def Ie{T:Int}(h:0<T)(C:Int):Lg fun N=>0<N*T+C:=⟨max 0 (1-C),fun N hN=>by
 have:=Uu (show 1<=T by omega) (show 0<=N by omega)
 omega⟩
def M1{T:Int}(h:T<0)(C:Int):Lg fun N=>N*T+C<0:=(Ie (show 0 < -T by omega) (-C)).imp fun N g=>by
 rw[Int.mul_neg] at g; omega
def Ri{x y d N:Int}(d0:0<=d)(hN:d<N):(x*N<=y*N+d↔x<=y)/\(y*N+d<x*N↔y<x):=by
 have:x*N<=y*N+d↔x<=y:=by
  constructor
  intro h;refine SV fun g=>?_;have:=Uc (show y+1<=x by omega) (show 0<=N by omega)
  rw[Int.add_mul] at this;omega
  intro h;have:=Uc h (show 0<=N by omega)
  omega
 exact⟨this,by omega⟩
def mc{x y d N:Int}(hN:d<N)(n0:0<=N)(h:x<y):x*N+d<y*N:=by
 have:=Uc (show x+1<=y by omega) n0
 rw[Int.add_mul] at this;omega
def yi(N:Int)(a b p δ:I2):ti (dA N a) (dA N b) (uk δ (dA N p))=N*(N*ti a b p+((b.1-a.1)*δ.2-(b.2-a.2)*δ.1)):=by unfold ti dA uk; grind
def GI{a b p δ:I2}(h:¬cE a b p)(hd:0<=δ.2):Lg fun N=>wi (dA N a) (dA N b) (uk δ (dA N p))=wi a b p/\¬cE (dA N a) (dA N b) (uk δ (dA N p)):=by
 have hl:∀N:Int,max 1 (δ.2+1)<=N->((dA N a).2<=(uk δ (dA N p)).2↔a.2<=p.2)/\((uk δ (dA N p)).2<(dA N a).2↔p.2<a.2)/\((dA N b).2<=(uk δ (dA N p)).2↔b.2<=p.2)/\((uk δ (dA N p)).2<(dA N b).2↔p.2<b.2):=fun N hN=>by
  have h1:=Ri (x:=a.2) (y:=p.2) hd (show δ.2<N by omega)
  have h2:=Ri (x:=b.2) (y:=p.2) hd (show δ.2<N by omega)
  exact⟨h1.1,h1.2,h2.1,h2.2⟩
 rcases Int.lt_trichotomy (ti a b p) 0 with g|g|g
 refine((Lg.ge (max 1 (δ.2+1))).and (M1 g ((b.1-a.1)*δ.2-(b.2-a.2)*δ.1))).imp fun N ⟨h1,h2⟩=>?_;have hs:=(jE (x:=N*ti a b p+((b.1-a.1)*δ.2-(b.2-a.2)*δ.1)) (show 0<N by omega)).2.2 h2
 rw[<-yi] at hs;refine⟨?_,fun hb=>by have:=hb.1; omega⟩
 unfold wi;obtain⟨l1,l2,l3,l4⟩:=hl N h1
 by_cases k:b.2<=p.2/\p.2<a.2/\ti a b p<0
 rw[Vz,VA,Vz,SU k]
 rw[Vz,Vz,Vz,SS k]
 refine(Lg.ge (max (max 1 (δ.2+1)) (max (δ.1+1) (1-δ.1)))).imp fun N h1=>?_;obtain⟨l1,l2,l3,l4⟩:=hl N (by omega)
 have hn:¬((a.2<=p.2/\p.2<b.2)\/(b.2<=p.2/\p.2<a.2)):=fun k=>h (gQ k g);refine⟨?_,fun hb=>?_⟩
 unfold wi;rw[Vz,Vz,Vz,Vz]
 obtain⟨_,b1,b2,b3,b4⟩:=hb;refine h ⟨g,?_,?_,?_,?_⟩
 refine SV fun k=>?_;have k1:=mc (x:=p.1) (y:=a.1) (show δ.1<N by omega) (by omega) (by omega)
 have k2:=mc (x:=p.1) (y:=b.1) (show δ.1<N by omega) (by omega) (by omega)
 unfold uk dA at b1; dsimp only at b1; omega
 refine SV fun k=>?_;have k1:=mc (x:=a.1) (y:=p.1) (show -δ.1<N by omega) (by omega) (by omega)
 have k2:=mc (x:=b.1) (y:=p.1) (show -δ.1<N by omega) (by omega) (by omega)
 unfold uk dA at b2; dsimp only at b2; omega
 refine SV fun k=>?_;have k1:=mc (x:=p.2) (y:=a.2) (show δ.2<N by omega) (by omega) (by omega)
 have k2:=mc (x:=p.2) (y:=b.2) (show δ.2<N by omega) (by omega) (by omega)
 unfold uk dA at b3; dsimp only at b3; omega
 refine SV fun k=>?_;have k1:=mc (x:=a.2) (y:=p.2) (show -δ.2<N by omega) (by omega) (by omega)
 have k2:=mc (x:=b.2) (y:=p.2) (show -δ.2<N by omega) (by omega) (by omega)
 unfold uk dA at b4; dsimp only at b4; omega
 refine((Lg.ge (max 1 (δ.2+1))).and (Ie g ((b.1-a.1)*δ.2-(b.2-a.2)*δ.1))).imp fun N ⟨h1,h2⟩=>?_;have hs:=(jE (x:=N*ti a b p+((b.1-a.1)*δ.2-(b.2-a.2)*δ.1)) (show 0<N by omega)).1.2 h2
 rw[<-yi] at hs;refine⟨?_,fun hb=>by have:=hb.1; omega⟩
 unfold wi;obtain⟨l1,l2,l3,l4⟩:=hl N h1
 by_cases k:a.2<=p.2/\p.2<b.2/\0<ti a b p
 rw[VA,SU k]
 rw[Vz,Vz,SS k,Vz]
def Kx{a b p:I2}{K:Int}(hab:a≠b)(h:cE a b p)(hK:b.1-a.1<K/\a.1-b.1<K):Lg fun N=>wi (dA N a) (dA N b) (uk (K,1) (dA N p))=wi a b p/\¬cE (dA N a) (dA N b) (uk (K,1) (dA N p)):=by
 refine(Lg.ge 2).imp fun N hN=>?_;have e:=yi N a b p (K,1);rw[h.1] at e
 dsimp only at e
 have e':ti (dA N a) (dA N b) (uk (K,1) (dA N p))=N*((b.1-a.1)-(b.2-a.2)*K):=by rw[e]; grind
 rw[wF h.1];have hl1:=Ri (x:=a.2) (y:=p.2) (show(0:Int)<=1 by omega) (show 1<N by omega)
 have hl2:=Ri (x:=b.2) (y:=p.2) (show(0:Int)<=1 by omega) (show 1<N by omega)
 have s:=jE (x:=(b.1-a.1)-(b.2-a.2)*K) (show 0<N by omega)
 rw[<-e'] at s;rcases Int.lt_trichotomy (b.2-a.2) 0 with g|g|g
 have:(b.2-a.2)*K<=-1*K:=Uc (by omega) (by omega)
 refine⟨?_,fun hb=>by have:=hb.1; omega⟩
 unfold wi;rw[SS (by unfold dA uk; dsimp only; omega),Vz]
 rw[g,Int.zero_mul] at s;have hne:b.1-a.1≠0:=fun k=>hab (TZ (by omega) (by omega))
 refine⟨?_,fun hb=>by have:=hb.1; omega⟩
 unfold wi;rw[SS (by unfold dA uk; dsimp only; omega),SS (by unfold dA uk; dsimp only; omega)]
 have:1*K<=(b.2-a.2)*K:=Uc (by omega) (by omega)
 refine⟨?_,fun hb=>by have:=hb.1; omega⟩
 unfold wi;rw[Vz,SS (by unfold dA uk; dsimp only; omega)]
def Sg(r:WB I2)(s:Int):Prop:=∀N:Int,0<N->∀q:I2,(∀i,i<r.length->¬cE (dA N (nx r i)) (dA N (nx r (i+1))) q)->fW (r.map (dA N)) q=0\/fW (r.map (dA N)) q=s
section
variable{r:WB I2}{s:Int}
def VR.ne_nil(h:VR r):r≠[]:=fun e=>by have:=h.n3; rw[e] at this; simp at this
def Sg.OY(h:VR r)(g:Sg r s)(p:I2):fW r p=0\/fW r p=s:=by
 obtain⟨K,_,hK⟩:=(Lg.all (n:=r.length) (P:=fun i K=>(nx r (i+1)).1-(nx r i).1<K/\(nx r i).1-(nx r (i+1)).1<K) fun i _ =>
  (Lg.ge (max ((nx r (i+1)).1-(nx r i).1) ((nx r i).1-(nx r (i+1)).1)+1)).imp fun K h=>by omega).get
 obtain⟨N,hN,hP⟩:=(Lg.all (n:=r.length) (P:=fun i N=>wi (dA N (nx r i)) (dA N (nx r (i+1))) (uk (K,1) (dA N p))=wi (nx r i) (nx r (i+1)) p/\¬cE (dA N (nx r i)) (dA N (nx r (i+1))) (uk (K,1) (dA N p))) fun i hi=>by
  by_cases hb:cE (nx r i) (nx r (i+1)) p
  exact Kx (h.still i) hb (hK i hi)
  exact GI hb (show(0:Int)<=1 by decide)).get
 have e:fW (r.map (dA N)) (uk (K,1) (dA N p))=fW r p:=by
  unfold fW;rw[To];exact aX fun i hi=>by rw[dF _ h.ne_nil,dF _ h.ne_nil]; exact(hP i hi).1
 rw[<-e];exact g N hN _ fun i hi=>(hP i hi).2
def Qd(p v:I2):up p v=0\/up p v=1:=by unfold up; split<;>simp
def KM:Chg qk 1 1 where
 inj h:=by unfold qk at h; have h1:=TB Prod.fst h; have h2:=TB Prod.snd h; dsimp only at h1 h2; exact TZ (by omega) (by omega)
 ti a b c:=by rw[Bm]; omega
 di a b c:=by unfold di qk; grind
 kp:=by decide
 dp:=by decide
 btw:=CG
def CD(p:I2):qk (qk p)=p:=by unfold qk; simp
def wN(N:Int)(p:I2):dA N (qk p)=qk (dA N p):=by unfold dA qk; simp[Int.neg_mul]
def Sg.refl(h:r≠[])(g:Sg r s):Sg (r.map Jd.qk) s:=by
 intro N hN q hq;rw[To] at hq;have hne:r.map (dA N)≠[]:=by simpa using h
 have e:(r.map Jd.qk).map (dA N)=(r.map (dA N)).map Jd.qk:=by
  rw[List.map_map,List.map_map];exact List.map_congr_left fun p _=>wN N p
 have hq':∀i,i<r.length->¬cE (dA N (nx r i)) (dA N (nx r (i+1))) (Jd.qk q):=fun i hi hb=>by
  have:=hq i hi;rw[dF _ h,dF _ h,wN,wN,<-CD q] at this;exact this (CG.2 hb)
 rw[e,<-CD q,An hne,HZ (fun i hi=>by
  rw[To] at hi;rw[dF _ h,dF _ h]; exact hq' i hi)]
 exact g N hN _ hq'
def Sg.Mm(h:VR r)(g:Sg r s)(p:I2):nY r p=0\/nY r p=s:=by
 rw[<-An h.ne_nil];exact(g.refl h.ne_nil).OY (KM.vr h) _
end
def pW(n m:Nat)(f:Nat->Nat->Int):bD n (fun i=>bD m fun j=>f i j)=bD m fun j=>bD n fun i=>f i j:=by
 induction n with
 | zero=>simp only[bD]; exact(cB fun _ _=>rfl).symm
 | succ n ih=>simp only[bD]; rw[jx,ih]
def AD(n m:Nat)(f:Nat->Int):bD (n+m) f=bD n f+bD m fun i=>f (n+i):=by
 induction m with
 | zero=>simp[bD]
 | succ m ih=>rw[<-Nat.add_assoc]; simp only[bD]; rw[ih]; omega
def oO(n:Nat)(c:Int):bD n (fun _=>c)=n*c:=by
 induction n with
 | zero=>simp[bD]
 | succ n ih=>simp only[bD]; rw[ih]; grind
def tJ(n:Nat)(f:Nat->Int):bD n (fun i=>-f i) = -bD n f:=by
 have:=kh n (fun _=>0) f;rw[cB (f:=fun _=>(0:Int)) fun _ _=>rfl] at this;rw[<-Int.zero_sub (bD n f),<-this];exact aX fun i _=>by omega
def jM{B lo hi:Int}{H:Nat}(F:Int->Int)(h1:B<=lo)(h2:lo<=hi)(h3:hi<=B+H) :
  bD H (fun j=>if lo<=B+j/\B+j<hi then F (B+j) else 0)=bD (hi-lo).toNat fun k=>F (lo+k):=by
 obtain⟨n,hn⟩:∃n:Nat,lo=B+n:=⟨(lo-B).toNat,by omega⟩
 obtain⟨m,hm⟩:∃m:Nat,hi=lo+m:=⟨(hi-lo).toNat,by omega⟩
 obtain⟨k,hk⟩:∃k:Nat,H=n+m+k:=⟨H-n-m,by omega⟩
 subst hk;rw[AD,AD,cB (n:=n) fun i hi=>Vz,cB (n:=k) fun i hi=>Vz,show(hi-lo).toNat=m by omega,Int.zero_add,Int.add_zero]
 exact aX fun i hi=>by rw[VA]; congr 1; omega
def count_le{L q:Int}{W:Nat}(h1:L-1<=q)(h2:q<L+W):bD W (fun i=>if L+i<=q then 1 else 0)=q-L+1:=by
 have:=jM (B:=L) (lo:=L) (hi:=q+1) (H:=W) (fun _=>1) (by omega) (by omega) (by omega)
 rw[oO] at this;rw[aX (g:=fun j=>if L<=L+j/\L+j<q+1 then(1:Int) else 0) fun i _=>?_,this]
 omega
 by_cases h:L+(i:Int)<=q
 rw[SU h,VA]
 rw[SS h,Vz]
def I5{L q:Int}{W:Nat}(h1:L<=q)(h2:q<=L+W):bD W (fun i=>if q<=L+i then 1 else 0)=L+W-q:=by
 have:=jM (B:=L) (lo:=q) (hi:=L+W) (H:=W) (fun _=>1) (by omega) (by omega) (by omega)
 rw[oO] at this;rw[aX (g:=fun j=>if q<=L+j/\L+j<L+W then(1:Int) else 0) fun i _=>?_,this]
 omega
 by_cases h:q<=L+(i:Int)
 rw[SU h,VA]
 rw[SS h,Vz]
def bx(L B:Int)(W H:Nat)(f:I2->Int):Int:=bD W fun i=>bD H fun j=>f (L+i,B+j)
structure Inb(L B:Int)(W H:Nat)(p:I2):Prop where
 x1:L<=p.1
 x2:p.1<L+W
 y1:B<=p.2
 y2:p.2<B+H
section
variable{L B:Int}{W H:Nat}
def AM{f g:I2->Int}(h:∀p,Inb L B W H p->f p=g p):bx L B W H f=bx L B W H g :=
 aX fun i hi=>aX fun j hj=>h _ ⟨by dsimp only; omega,by dsimp only; omega,by dsimp only; omega,by dsimp only; omega⟩
def Oy(f g:I2->Int):bx L B W H (fun p=>f p+g p)=bx L B W H f+bx L B W H g:=by
 unfold bx;rw[<-jx];exact aX fun i _=>jx _ _ _
def Gb(f:I2->Int):bx L B W H (fun p=>-f p) = -bx L B W H f:=by
 unfold bx;rw[<-tJ];exact aX fun i _=>tJ _ _
def Nv(c:Int)(f:I2->Int):bx L B W H (fun p=>c*f p)=c*bx L B W H f:=by
 unfold bx;rw[<-uc];exact aX fun i _=>uc _ _ _
def OB(n:Nat)(f:Nat->I2->Int):bx L B W H (fun p=>bD n fun k=>f k p)=bD n fun k=>bx L B W H (f k):=by
 unfold bx;rw[pW n W];exact aX fun i _=>pW _ _ _
def Ov{v:I2}(h:Inb L B W H v):bx L B W H (fun p=>if p=v then 1 else 0)=1:=by
 obtain⟨a,b,c,d⟩:=h;unfold bx;rw[pg (k:=(v.1-L).toNat) (by omega) fun i hi hne=>cB fun j hj=>SS fun e=>hne (by have:=TB Prod.fst e; dsimp only at this; omega)]
 rw[pg (k:=(v.2-B).toNat) (by omega) fun j hj hne=>SS fun e=>hne (by have:=TB Prod.snd e; dsimp only at this; omega)]
 exact SU (TZ (by dsimp only; omega) (by dsimp only; omega))
def NA{D c:Int}(hD:0<D):∃q:Int,D*q<c/\c<=D*(q+1):=by
 refine⟨(c-1)/D,?_,?_⟩
 have:=Int.mul_ediv_self_le (x:=c-1) (k:=D) (by omega)
 omega
 have:=Int.lt_mul_ediv_self_add (x:=c-1) (k:=D) hD;rw[Int.mul_add];omega
def vz{D x y:Int}(hD:0<D):D*x<D*y↔x<y:=⟨fun h=>Int.lt_of_mul_lt_mul_left h (Int.le_of_lt hD),fun h=>Int.mul_lt_mul_of_pos_left h hD⟩
def iX{D x y:Int}(hD:0<D):D*x<=D*y↔x<=y:=⟨fun h=>Int.le_of_mul_le_mul_left h hD,fun h=>Uu h (Int.le_of_lt hD)⟩
def CI{a b:I2}(ha:Inb L B W H a)(hb:Inb L B W H b)(h:a.2<b.2):bx L B W H (fun p=>wi a b p+wj a b p)=(b.2-a.2)*(a.1+b.1-(2*L+W-1)):=by
 obtain⟨ax1,ax2,ay1,ay2⟩:=ha;obtain⟨bx1,bx2,by1,by2⟩:=hb;have hD:0<b.2-a.2:=by omega
 let c:Int->Int:=fun y=>(b.1-a.1)*(y-a.2)+(b.2-a.2)*a.1
 have hti:∀x y:Int,ti a b (x,y)=c y-(b.2-a.2)*x:=fun x y=>by show _=(b.1-a.1)*(y-a.2)+(b.2-a.2)*a.1-(b.2-a.2)*x; unfold ti; grind
 have hcr:∀y,c y+c (a.2+b.2-y)=(b.2-a.2)*(a.1+b.1):=fun y=>by show(b.1-a.1)*(y-a.2)+(b.2-a.2)*a.1+((b.1-a.1)*(a.2+b.2-y-a.2)+(b.2-a.2)*a.1)=_; grind
 have hlo:∀y,a.2<=y->y<=b.2->(b.2-a.2)*L<=c y:=fun y h1 h2=>by
  have e:c y=(b.2-y)*a.1+(y-a.2)*b.1:=by show(b.1-a.1)*(y-a.2)+(b.2-a.2)*a.1=_; grind
  have e1:=Uu ax1 (show 0<=b.2-y by omega)
  have e2:=Uu bx1 (show 0<=y-a.2 by omega)
  have e3:(b.2-a.2)*L=(b.2-y)*L+(y-a.2)*L:=by grind
  omega
 have hhi:∀y,a.2<=y->y<=b.2->c y<=(b.2-a.2)*(L+W-1):=fun y h1 h2=>by
  have e:c y=(b.2-y)*a.1+(y-a.2)*b.1:=by show(b.1-a.1)*(y-a.2)+(b.2-a.2)*a.1=_; grind
  have e1:=Uu (show a.1<=L+W-1 by omega) (show 0<=b.2-y by omega)
  have e2:=Uu (show b.1<=L+W-1 by omega) (show 0<=y-a.2 by omega)
  have e3:(b.2-a.2)*(L+W-1)=(b.2-y)*(L+W-1)+(y-a.2)*(L+W-1):=by grind
  omega
 have hS:a.1+b.1=a.1+b.1:=rfl
 let F:Int->Int:=fun y=>bD W fun i=>if 0<ti a b (L+i,y) then 1 else 0
 let G:Int->Int:=fun y=>bD W fun i=>if ti a b (L+i,y)<0 then 1 else 0
 have hFG:∀y,a.2<=y->y<b.2->F y-G (a.2+b.2-y)=a.1+b.1-(2*L+W-1):=fun y h1 h2=>by
  obtain⟨q,q1,q2⟩:=NA (c:=c y) hD;have l1:=hlo y h1 (by omega)
  have l2:=hhi y h1 (by omega)
  have l3:=hlo (a.2+b.2-y) (by omega) (by omega)
  have l4:=hhi (a.2+b.2-y) (by omega) (by omega)
  have hc:=hcr y;have g1:L<=q+1:=(iX hD).1 (Int.le_trans l1 q2);have g2:q<L+W-1:=(vz hD).1 (Int.lt_of_lt_of_le q1 l2);have d1:(b.2-a.2)*(a.1+b.1-q)=(b.2-a.2)*(a.1+b.1)-(b.2-a.2)*q:=by grind
  have d2:(b.2-a.2)*(a.1+b.1-(q+1))=(b.2-a.2)*(a.1+b.1)-(b.2-a.2)*(q+1):=by grind
  have g3:L<a.1+b.1-q:=(vz hD).1 (by omega)
  have g4:a.1+b.1-(q+1)<=L+W-1:=(iX hD).1 (by omega)
  have eF:F y=q-L+1:=by
   rw[<-count_le (L:=L) (q:=q) (W:=W) (by omega) (by omega)]
   refine aX fun i _=>?_;rw[hti]
   by_cases k:L+(i:Int)<=q
   have:=(iX hD).2 k;rw[SU k,VA]
   have:=(iX hD).2 (show q+1<=L+(i:Int) by omega)
   rw[SS k,Vz]
  have eG:G (a.2+b.2-y)=L+W-(a.1+b.1-q):=by
   rw[<-I5 (L:=L) (q:=a.1+b.1-q) (W:=W) (by omega) (by omega)]
   refine aX fun i _=>?_;rw[hti]
   by_cases k:a.1+b.1-q<=L+(i:Int)
   have:=(iX hD).2 k;rw[SU k,VA]
   have:=(iX hD).2 (show L+(i:Int)<=a.1+b.1-(q+1) by omega)
   rw[SS k,Vz]
  rw[eF,eG]; omega
 have e:bx L B W H (fun p=>wi a b p+wj a b p)=bD H (fun j=>if a.2<=B+j/\B+j<b.2 then F (B+j) else 0)-bD H (fun j=>if a.2+1<=B+j/\B+j<b.2+1 then G (B+j) else 0):=by
  unfold bx;rw[pW,<-kh];refine aX fun j _=>?_;rw[jx];have e1:bD W (fun i=>wi a b (L+i,B+j))=if a.2<=B+j/\B+j<b.2 then F (B+j) else 0:=by
   by_cases k:a.2<=B+(j:Int)/\B+(j:Int)<b.2
   rw[SU k];refine aX fun i _=>?_;unfold wi
   dsimp only
   by_cases k2:0<ti a b (L+i,B+j)
   rw[VA,SU k2]
   rw[Vz,Vz,SS k2]
   rw[SS k];refine cB fun i _=>?_;unfold wi
   dsimp only
   rw[Vz,Vz]
  have e2:bD W (fun i=>wj a b (L+i,B+j)) = -(if a.2+1<=B+j/\B+j<b.2+1 then G (B+j) else 0):=by
   by_cases k:a.2+1<=B+(j:Int)/\B+(j:Int)<b.2+1
   rw[SU k]
   show _ = -bD W fun i=>if ti a b (L+i,B+j)<0 then 1 else 0
   rw[<-tJ];refine aX fun i _=>?_;unfold wj
   dsimp only
   by_cases k2:ti a b (L+i,B+j)<0
   rw[VA,SU k2]
   rw[Vz,Vz,SS k2]; rfl
   rw[SS k];refine cB fun i _=>?_;unfold wj
   dsimp only
   rw[Vz,Vz]
  rw[e1,e2]; omega
 rw[e,jM F ay1 (by omega) (by omega),jM G (by omega) (by omega) (by omega),show b.2+1-(a.2+1)=b.2-a.2 by omega]
 obtain⟨D,hDn⟩:∃D:Nat,b.2=a.2+D:=⟨(b.2-a.2).toNat,by omega⟩
 rw[show(b.2-a.2).toNat=D by omega,<-IT D fun k=>G (a.2+1+k),<-kh]
 rw[aX (g:=fun _=>a.1+b.1-(2*L+W-1)) fun k hk=>?_,oO]
 rw[show b.2-a.2=(D:Int) by omega]
 have:=hFG (a.2+k) (by omega) (by omega)
 rw[<-this]
 congr 2
 omega
def Kr(a b p:I2):wj b a p = -wj a b p:=by rw[<-BK,<-BK,Cp]
def GL{a b:I2}(ha:Inb L B W H a)(hb:Inb L B W H b):bx L B W H (fun p=>wi a b p+wj a b p)=(b.2-a.2)*(a.1+b.1-(2*L+W-1)):=by
 rcases Int.lt_trichotomy a.2 b.2 with h|h|h
 exact CI ha hb h
 rw[h,Int.sub_self,Int.zero_mul];refine cB fun i _=>cB fun j _=>?_;unfold wi wj
 dsimp only
 rw[Vz,Vz,Vz,Vz]; rfl
 have:=CI hb ha h;have e:bx L B W H (fun p=>wi a b p+wj a b p) = -bx L B W H (fun p=>wi b a p+wj b a p):=by
  rw[<-Gb];exact AM fun p _=>by rw[Cp a b,Kr a b]; omega
 rw[e,this]; grind
def HW{r:WB I2}(h:∀i,Inb L B W H (nx r i)):bx L B W H (fun p=>fW r p+nY r p)=ri r:=by
 have e:bx L B W H (fun p=>fW r p+nY r p)=bD r.length fun i=>bx L B W H fun p=>wi (nx r i) (nx r (i+1)) p+wj (nx r i) (nx r (i+1)) p:=by
  rw[<-OB];exact AM fun p _=>(jx _ _ _).symm
 rw[e,aX fun i _=>GL (h i) (h (i+1))];have t:=sj r.length fun i=>(nx r i).1*(nx r i).2-(2*L+W-1)*(nx r i).2;rw[xH,Int.sub_self] at t;have t2:=jx r.length (fun i=>(nx r i).1*(nx r (i+1)).2-(nx r i).2*(nx r (i+1)).1) fun i=>((nx r (i+1)).1*(nx r (i+1)).2-(2*L+W-1)*(nx r (i+1)).2)-((nx r i).1*(nx r i).2-(2*L+W-1)*(nx r i).2);rw[t,Int.add_zero] at t2;unfold ri;rw[<-t2];exact aX fun i _=>by grind
end
structure Steps(a b:I2)(g:Nat)(u w s t:Int):Prop where
 g0:0<g
 x:b.1-a.1=g*u
 y:b.2-a.2=g*w
 one:s*u+t*w=1
section
variable{a b:I2}{g:Nat}{u w s t:Int}
end
section
variable{L B:Int}{W H:Nat}
def Inb.zi{a b p:I2}(ha:Inb L B W H a)(hb:Inb L B W H b)(h:cE a b p):Inb L B W H p:=by
 obtain⟨_,h1,h2,h3,h4⟩:=h;obtain⟨a1,a2,a3,a4⟩:=ha;obtain⟨b1,b2,b3,b4⟩:=hb;exact⟨by omega,by omega,by omega,by omega⟩
end
def OW{a b p:I2}(h:cE a b p)(ha:p≠a)(hb:p≠b):up p a+up p b=1:=by
 obtain⟨h0,h1,h2,h3,h4⟩:=h;have ha':¬(p.1=a.1/\p.2=a.2):=fun k=>ha (TZ k.1 k.2);have hb':¬(p.1=b.1/\p.2=b.2):=fun k=>hb (TZ k.1 k.2)
 by_cases e1:a.2=p.2
 by_cases e2:b.2=p.2
 unfold up
 by_cases k:a.1<p.1
 rw[VA,Vz]; rfl
 rw[Vz,VA]; rfl
 rw[uj e1] at h0;rcases T1.1 h0 with k|k<;>omega
 by_cases e2:b.2=p.2
 rw[vB e2] at h0;rcases T1.1 h0 with k|k<;>omega
 unfold up
 by_cases k:p.2<a.2
 rw[VA,Vz]; rfl
 rw[Vz,VA]; rfl
section
variable{r:WB I2}
def Dp{n:Nat}{f:Nat->Int}(h:∀i,i<n->f i<=0):bD n f<=0:=by
 induction n with
 | zero=>simp[bD]
 | succ n ih =>
  have h1:=ih fun i hi=>h i (by omega)
  have h2:=h n (by omega)
  simp only[bD]; omega
end
def VR.Ou{r:WB I2}(h:VR r):ri r≠0:=by
 intro h0;have hne:r≠[]:=h.ne_nil;have h2:VR (r.map (dA 2)):=(Da (s:=2) (by decide)).vr h
 have hl:(r.map (dA 2)).length=r.length:=To _;obtain⟨s,hs,g⟩:=h2.sign;have g:Sg (r.map (dA 2)) s:=g;have ea:∀i,nx (r.map (dA 2)) i=dA 2 (nx r i):=dF _ hne;have har:ri (r.map (dA 2))=0:=by
  unfold ri at h0 ⊢;rw[hl,aX (g:=fun i=>4*((nx r i).1*(nx r (i+1)).2-(nx r i).2*(nx r (i+1)).1)) fun i _=>by rw[ea,ea]; unfold dA; grind]
  rw[uc,h0,Int.mul_zero]
 generalize hr2:r.map (dA 2)=r2 at *;obtain⟨p,hp,hpa,hpb⟩:∃p,cE (nx r2 0) (nx r2 (0+1)) p/\p≠nx r2 0/\p≠nx r2 (0+1):=by
  refine⟨((nx r 0).1+(nx r (0+1)).1,(nx r 0).2+(nx r (0+1)).2),?_,?_,?_⟩
  rw[ea,ea];unfold cE ti dA;refine⟨by grind,?_⟩
  dsimp only
  omega
  rw[ea];intro e;have e1:=TB Prod.fst e;have e2:=TB Prod.snd e;unfold dA at e1 e2
  dsimp only at e1 e2
  exact h.still 0 (TZ (by omega) (by omega))
  rw[ea];intro e;have e1:=TB Prod.fst e;have e2:=TB Prod.snd e;unfold dA at e1 e2
  dsimp only at e1 e2
  exact h.still 0 (TZ (by omega) (by omega))
 have h3:=h2.n3;have hk:∀k,p≠nx r2 k:=by
  intro k e;have hm:k%r2.length<r2.length:=TY _ (by omega)
  have e':p=nx r2 (k%r2.length):=by rw[e]; exact oV r2 (Nat.mod_mod _ _).symm
  rw[e'] at hp hpa hpb;rcases h2.xK hm (by omega) hp with c|c
  exact hpa (by rw[<-c])
  have:=MN hm;rw[<-c] at this;exact hpb this.symm
 have hd:=Cz r2 p;rw[pg (k:=0) (by omega) fun j hj hne=>by unfold Nd; exact SS fun c=>hne (h2.B2 hj (by omega) hk c hp)] at hd
 unfold Nd at hd;rw[SU hp] at hd;have hu:=OW hp (hk _) (hk _);have a1:=Qd p (nx r2 0);have w1:=g.OY h2 p;have w2:=g.Mm h2 p;obtain⟨K,K0,hK⟩:=(Lg.all (n:=r2.length) (P:=fun i K=>-K<(nx r2 i).1/\(nx r2 i).1<K/\-K<(nx r2 i).2/\(nx r2 i).2<K) fun i _ =>
  (Lg.ge (max (max (nx r2 i).1 (-(nx r2 i).1)) (max (nx r2 i).2 (-(nx r2 i).2))+1)).imp fun K h=>by omega).get
 have hb:∀i,Inb (-K) (-K) (2*K).toNat (2*K).toNat (nx r2 i):=fun i=>by
  have:=hK (i%r2.length) (TY _ (by omega))
  rw[oV r2 (Nat.mod_mod i r2.length)] at this;exact⟨by omega,by omega,by omega,by omega⟩
 have e:=HW hb;rw[har] at e;have hle:bx (-K) (-K) (2*K).toNat (2*K).toNat (fun q=>(if q=p then 1 else 0) + -(s*(Jd.fW r2 q+nY r2 q)))<=0:=Dp fun i _=>Dp fun j _=>by
  have a:=g.OY h2 (-K+i,-K+j);have b:=g.Mm h2 (-K+i,-K+j)
  dsimp only
  split
  rename_i c;rw[c];rcases hs with rfl|rfl<;>omega
  rcases hs with rfl|rfl<;>omega
 rw[Oy (fun q=>if q=p then 1 else 0),Ov ((hb 0).zi (hb (0+1)) hp),Gb,Nv,e] at hle
 omega
end Jd
end
section
namespace Go.Proofs.YtmndpgfbkicndaaGreat
open Go Go.Ab Go.Ab.W Go.Ab.B Jd
structure Fcs(pts:WB I2)(F:WB Fc):Prop where
 len:3<=pts.length/\pts.length<=120
 flen:1<=F.length/\F.length<=64
 near:dI pts
 one:∀i,i<pts.length->nx pts i∉pts.take i
 ok:O9 pts F
 va:∀f∈F,Nn pts f=true
 tu:∀f∈F,Pb pts f=true
def oR{p:Fc->Bool}{F:WB Fc}(h:bI (fI p F) (.inr ()) F.length 0=.inr ()):∀f∈F,p f=true:=by
 intro f hf;obtain⟨j,hj,e⟩:=TL.1 hf;have:=kB (f:=fI p F) (fun j r hr=>by
  unfold fI at hr
  split at hr
  split at hr
  cases hr
  cases hr; intro c; cases c
  cases hr) h j hj
 unfold fI at this;rw[SR hj,e] at this
 dsimp only at this
 refine SV fun hc=>?_;rw[SS hc] at this; cases this
def Fg{f:Nat->WA (Int⊕WC)}(hf:∀j r,f j=some (.inl r)->0<=r){k:Nat}{v:Int}(h:bI f (.inr ()) k 0=.inl v):0<=v:=by
 rcases cK (f:=f) (e:=.inr ()) k 0 with⟨h1,h2⟩|⟨j,_,h2,h3⟩
 rw[h2] at h; cases h
 rw[h] at h3; exact hf j v h3
def qt{p:Fc->Bool}{F:WB Fc}{v:Int}(h:bI (fI p F) (.inr ()) F.length 0=.inl v):0<=v:=Fg (fun j r hr=>by
 unfold fI at hr
 split at hr
 split at hr
 cases hr
 have:=SX hr;have:=Sum.inl.inj this;omega
 cases hr) h
def K5{pts:WB I2}(h0:0<pts.length)(h:bI (jI pts) (.inr ()) pts.length 0=.inr ()):dI pts:=by
 intro q hq;obtain⟨j,hj,e⟩:=TL.1 hq;have:=xm h0 h j;unfold nx at this;rw[UD hj,SZ,SR hj,e] at this;exact this
def Qw{pts:WB I2}{f:Fc}(h:Nn pts f=true):∀r∈f.1::f.2,ri (fi pts r 1)≠0:=fun r hr =>
 VR.Ou (yu.1 (of_decide_eq_true (Tc.1 h r hr))).vr
def LW{pts:WB I2}(h:bI (lT pts) (.inr ()) pts.length 0=.inr ()):∀i,i<pts.length->nx pts i∉pts.take i:=fun i hi hc=>by
 have:=kB (f:=lT pts) (fun j r hr=>by
  unfold lT at hr
  split at hr
  cases hr; intro c; cases c
  cases hr) h i hi
 unfold lT at this;rw[SU hc] at this; cases this
abbrev Ed:=Vm
def acc{α:Type}(g:Nat->WB α):Nat->WB α
 | 0=>[]
 | k+1=>acc g k++g k
def dD{α:Type}{g:Nat->WB α}{b:Nat}:∀{k:Nat},(∀i,i<k->(g i).length<=b)->(acc g k).length<=k*b
 | 0,_=>by simp[acc]
 | k+1,h=>by
  have h1:=dD (k:=k) fun i hi=>h i (by omega)
  have h2:=h k (by omega)
  rw[acc,Te,Ul]; omega
def wU{α ρ:Type}{B:(WB α×Int)->WA ((WB α×Int)⊕ρ)}{len:Nat}{g:Nat->WB α}{out:WB α->ρ}{d:WB α}
  (hB:∀i,i<len->B (d++acc g i,(i:Int))=some (.inl (d++acc g i++g i,((i+1:Nat):Int)))) (hE:B (d++acc g len,(len:Int))=some (.inr (out (d++acc g len)))) :
  ∀(k i n:Nat),i+k=len->k<n->bh B n (d++acc g i,(i:Int))=some (out (d++acc g len))
 | 0,i,n+1,h,_=>by
  rw[Ui] at h; subst h;exact fg hE
 | k+1,i,n+1,h,hn=>by
  rw[eQ (hB i (by omega)),TU]
  exact wU hB hE k (i+1) n (by omega) (by omega)
def gr(l:WB Int)(f r i:Nat):Ed:=(l.getD i 0,l.getD ((i+1)%l.length) 0,(f:Int),(r:Int))
def rE(l:WB Int)(f r:Nat):WB Ed:=acc (fun i=>[gr l f r i]) l.length
def fE(rs:Vo)(f:Nat):WB Ed:=acc (fun r=>rE (rs.getD r []) f r) rs.length
def aw(F:WB Fc)(f:Nat):Vo:=(F.getD f ([],[])).1::(F.getD f ([],[])).2
def sE(F:WB Fc):WB Ed:=acc (fun f=>fE (aw F f) f) F.length
def tj{l:WB Int}{f r:Nat}:(rE l f r).length<=l.length:=by
 have:=dD (g:=fun i=>[gr l f r i]) (b:=1) (k:=l.length) fun i _=>by simp
 unfold rE; omega
section
variable{pts:WB I2}{F:WB Fc}(n:Nat)
def Ec{rs:Vo}{f r:Nat}(hr:r<rs.length){d:WB Ed}(hd:d.length<=100000)(h40:(rs.getD r []).length<=40)(hn:1000<n) :
  bh (qd n (r:Int) rs (f:Int)) n (d,0)=some (d++rE (rs.getD r []) f r):=by
 have hx:rs[r]? = some (rs.getD r []):=by rw[SZ,SR hr]; rfl
 generalize rs.getD r []=l at *;have:=wU (B:=qd n (r:Int) rs (f:Int)) (len:=l.length) (g:=fun i=>[gr l f r i]) (out:=id) (d:=d) (fun i hi=>by
  have hi2:(i+1)%l.length<l.length:=TY _ (by omega)
  have ha:=dD (g:=fun i=>[gr l f r i]) (b:=1) (k:=i) fun i _=>by simp
  have e1:l[((i:Nat):Int).toNat]? = some (l.getD i 0):=by rw[Ti,SZ,SR hi]; rfl
  have e2:l[(((i+1)%l.length:Nat):Int).toNat]? = some (l.getD ((i+1)%l.length) 0):=by rw[Ti,SZ,SR hi2]; rfl
  unfold qd
  try dsimp only
  simp only[al hr,aL,aR hx,ai];rw[V7]
  simp only[al hi,aL,e1,ai,ak (show i<4611686018427387904 by omega)]
  rw[eT (by omega)]
  simp only[iB,al hi2,aL,e2,ai];rw[bl (by simp; omega),aL]
  rfl) (by
  unfold qd
  try dsimp only
  simp only[al hr,aL,aR hx,ai];rw[V8]; rfl) l.length 0 n (by omega) (by omega)
 rw[show acc (fun i=>[gr l f r i]) 0=[] from rfl,TI] at this
 exact this
def DY{rs:Vo}{f:Nat}(h9:rs.length<=9){d:WB Ed}(hd:d.length<=90000)(h40:∀r,(rs.getD r []).length<=40)(hn:1000<n) :
  bh (qh n rs (f:Int)) n (d,0)=some (d++fE rs f):=by
 have:=wU (B:=qh n rs (f:Int)) (len:=rs.length) (g:=fun r=>rE (rs.getD r []) f r) (out:=id) (d:=d) (fun i hi=>by
  have ha:=dD (g:=fun r=>rE (rs.getD r []) f r) (b:=40) (k:=i) fun i _=>Tv tj (h40 i);unfold qh
  try dsimp only
  rw[V7,Ec n hi (by rw[Te]; omega) (h40 i) hn,ai,V9]) (by
  unfold qh
  try dsimp only
  rw[V8]; rfl) rs.length 0 n (by omega) (by omega)
 rw[show acc (fun r=>rE (rs.getD r []) f r) 0=[] from rfl,TI] at this
 exact this
def DA(hv:Fcs pts F)(hn:1000<n):DM n pts F=some (sE F):=by
 have hf:=hv.flen;have hk:∀i,(aw F i).length<=9/\∀r,((aw F i).getD r []).length<=40:=fun i=>by
  unfold aw
  by_cases hi:i<F.length
  obtain⟨h8,h9⟩:=jR (hv.ok _ (Tx hi));have e:F.getD i ([],[])=F[i]:=by rw[SZ,SR hi]; rfl
  rw[e];refine⟨by simp; omega,fun r=>?_⟩
  by_cases hr:r<(F[i].1::F[i].2).length
  have:=(gJ rfl (h9 _ (Tx hr))).2.2;rw[SZ,SR hr]; exact this
  rw[SZ,TV (by omega)]; simp
  rw[SZ,TV (by omega)]
  refine⟨by simp,fun r=>?_⟩
  cases r<;>simp
 have:=wU (B:=sJ n F) (len:=F.length) (g:=fun f=>fE (aw F f) f) (out:=id) (d:=[]) (fun i hi=>by
  have ha:=dD (g:=fun f=>fE (aw F f) f) (b:=360) (k:=i) fun i _=>by
   have h1:=dD (g:=fun r=>rE ((aw F i).getD r []) i r) (b:=40) (k:=(aw F i).length) fun r _=>Tv tj ((hk i).2 r);have h2:=(hk i).1;unfold fE; omega
  have e:F[i]? = some (F.getD i ([],[])):=by rw[SZ,SR hi]; rfl
  have h3:=(hk i).1;unfold sJ
  try dsimp only
  rw[V7,al hi,aL,aR e,ai]
  try dsimp only
  rw[p8 n _ _ (by unfold aw at h3; rw[TJ] at h3; omega),ai,show((F.getD i ([],[])).1::(F.getD i ([],[])).2)=aw F i from rfl,DY n (hk i).1 (by rw[Uo]; omega) (hk i).2 hn,ai,V9]) (by
  unfold sJ
  try dsimp only
  rw[V8]; rfl) F.length 0 n (by omega) (by omega)
 rw[show acc (fun f=>fE (aw F f) f) 0=[] from rfl,TI] at this
 unfold DM;rw[show(([]:WB Ed),(0:Int))=([],((0:Nat):Int)) from rfl,this,ai]
 rfl
end
def yh(pts:WB I2)(e:Ed):Prop:=(0<=e.1/\e.1<pts.length)/\(0<=e.2.1/\e.2.1<pts.length)/\iV pts e.1≠iV pts e.2.1
def Az(e f:Ed):Bool:=(decide (e.1=f.1)&&decide (e.2.1=f.2.1)) ||(decide (e.1=f.2.1)&&decide (e.2.1=f.1))
noncomputable def jb (pts:WB I2) (e f:Ed):Bool :=
 if Az e f then false
 else if ux (iV pts e.1) (iV pts e.2.1) (iV pts f.1) (iV pts f.2.1)=1 then !decide (e.1=f.1) &&(!decide (e.1=f.2.1) &&(!decide (e.2.1=f.1) && !decide (e.2.1=f.2.1)))
 else !decide (ux (iV pts e.1) (iV pts e.2.1) (iV pts f.1) (iV pts f.2.1)=0)
def Cj(e f:Ed):(br (decide (e.1=f.1)) (br (decide (e.2.1=f.2.1)) (some true) (br (decide (e.1=f.2.1)) (some (decide (e.2.1=f.1))) (some false))) (br (decide (e.1=f.2.1)) (some (decide (e.2.1=f.1))) (some false)))=some (Az e f):=by
 unfold Az;cases decide (e.1=f.1)<;>cases decide (e.2.1=f.2.1)<;>cases decide (e.1=f.2.1)<;>cases decide (e.2.1=f.1)<;>rfl
def pK{pts:WB I2}{i:Int}(h:0<=i/\i<pts.length):bu i pts.length=true:=S5 ⟨h.1,by omega⟩
def Dw(e f:Ed):(br (!decide (e.1=f.1)) (br (!decide (e.1=f.2.1)) (br (!decide (e.2.1=f.1)) (some (!decide (e.2.1=f.2.1))) (some false)) (some false)) (some false))=some (!decide (e.1=f.1) &&(!decide (e.1=f.2.1) &&(!decide (e.2.1=f.1) && !decide (e.2.1=f.2.1)))):=by
 cases decide (e.1=f.1)<;>cases decide (e.1=f.2.1)<;>cases decide (e.2.1=f.1)<;>rfl
section
variable{pts:WB I2}{F:WB Fc}(n:Nat)
def KF(hb:dI pts){e f:Ed}(he:yh pts e)(hf:yh pts f):Ja n pts F e.1 e.2.1 e.2.2.1 e.2.2.2 f.1 f.2.1 f.2.2.1 f.2.2.2=some (jb pts e f):=by
 obtain⟨a1,a2,a3⟩:=he;obtain⟨b1,b2,b3⟩:=hf;unfold Ja jb;rw[Cj,ai];cases Az e f
 ·rw[fm,pK a1,aL,il a1,ai]
  try dsimp only
  rw[pK a2,aL,il a2,ai]
  try dsimp only
  rw[pK b1,aL,il b1,ai]
  try dsimp only
  rw[pK b2,aL,il b2,ai]
  try dsimp only
  rw[CJ n (gC hb a1) (gC hb a2) (gC hb b1) (gC hb b2) a3 b3,ai,Dw,SS (by decide)]
  by_cases h:ux (iV pts e.1) (iV pts e.2.1) (iV pts f.1) (iV pts f.2.1)=1
  rw[au h,SU h]
  rw[av h,SS h]
 rfl
def KH(hb:dI pts){e f:Ed}(he:yh pts e)(hf:yh pts f)(hn:1000<n):FY n pts F e.1 e.2.1 e.2.2.1 e.2.2.2 f.1 f.2.1 f.2.2.1 f.2.2.2=some (jb pts e f):=by
 obtain⟨a1,a2,a3⟩:=he;obtain⟨b1,b2,b3⟩:=hf;have i6:∀{p:I2},Nr p->pw p.1/\pw p.2:=fun{p} h=>by
  unfold Nr at h; unfold pw; omega
 have nf:∀{p:I2},Nr p->¬Fa p:=fun{p} h=>by
  unfold Nr at h; unfold Fa; omega
 have c1:=gC hb a1;have c2:=gC hb a2;have c3:=gC hb b1;have c4:=gC hb b2;unfold FY jb;rw[Cj,ai];cases Az e f
 ·rw[fm,pK a1,aL,il a1,ai]
  try dsimp only
  rw[pK a2,aL,il a2,ai]
  try dsimp only
  rw[pK b1,aL,il b1,ai]
  try dsimp only
  rw[pK b2,aL,il b2,ai]
  try dsimp only
  rw[Mc n (i6 c1) (i6 c2) (i6 c3) (i6 c4) (by omega),SS (by
   rintro(h|h|h|h|h|h)
   exact nf c1 h
   exact nf c2 h
   exact nf c3 h
   exact nf c4 h
   exact a3 h
   exact b3 h),ai]
  try dsimp only
  rw[Dw,SS (by decide)]
  by_cases h:ux (iV pts e.1) (iV pts e.2.1) (iV pts f.1) (iV pts f.2.1)=0
  rw[au h,Vz,h]; rfl
  rw[av h]
  by_cases g:ux (iV pts e.1) (iV pts e.2.1) (iV pts f.1) (iV pts f.2.1)=1
  rw[au g,SU g]
  rw[av g,SS g,S7 h]; rfl
 rfl
end
end Go.Proofs.YtmndpgfbkicndaaGreat
end
