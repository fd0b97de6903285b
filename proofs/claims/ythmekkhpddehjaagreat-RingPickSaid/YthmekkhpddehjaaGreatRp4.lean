/- A part of the proof. -/
import Derived.Test.YthmekkhpddehjaaGreatRp3
import Derived.Shelf.GgSortFunc.RowK
import Derived.Shelf.SlSortCmp.WholeK
import Derived.Shelf.SlGeneric
import Derived.Ground.SlsfProg
import Derived.Test.YthmekkhpddehjaaGreatProg
import Derived.Shelf.SlSortCmp.NoneTotal
import Derived.Lib.Overlaps
import Derived.HandedShaped
section
namespace Jd
abbrev P2:=Rat × Rat
def tn (a b c:P2):Rat:=(b.1-a.1)*(c.2-a.2)-(b.2-a.2)*(c.1-a.1)
def af (α β γ:Rat) (x:P2):Rat:=α*x.1+β*x.2+γ
def Sep (a b p q:P2):Prop:=∃α β γ,0<af α β γ a∧0<af α β γ b∧af α β γ p<0∧af α β γ q<0
theorem Sep.ab {a b p q:P2} (h:Sep a b p q):Sep b a p q:=let ⟨α,β,γ,h1,h2,h3,h4⟩:=h; ⟨α,β,γ,h2,h1,h3,h4⟩
theorem Sep.pq {a b p q:P2} (h:Sep a b p q):Sep a b q p:=let ⟨α,β,γ,h1,h2,h3,h4⟩:=h; ⟨α,β,γ,h1,h2,h4,h3⟩
theorem bC {x y:Rat} (hx:0≤x) (hy:0≤y):0≤x*y:=Rat.mul_nonneg hx hy
theorem aT {x y:Rat} (hx:0<x) (hy:0<y):0<x*y:=Rat.mul_pos hx hy
theorem cd {x y:Rat} (hx:0≤x) (hy:y≤0):x*y≤0:=by
 have:=bC hx (show(0:Rat)≤-y by grind)
 grind
theorem dT {x y:Rat} (hx:0<x) (hy:y<0):x*y<0:=by
 have:=aT hx (show(0:Rat) < -y by grind)
 grind
theorem gG (a b p:P2):tn b a p = -tn a b p:=by unfold tn; grind
def we (a b p:P2):Int:=if a.2≤p.2∧p.2<b.2∧0<tn a b p then 1 else if b.2≤p.2∧p.2<a.2∧tn a b p<0 then -1 else 0
theorem gF {a b p:P2} (h1:a.2≤p.2) (h2:p.2<b.2):we a b p=if 0<tn a b p then 1 else 0:=by
 unfold we
 by_cases h:0<tn a b p
 ·rw[if_pos ⟨h1,h2,h⟩,if_pos h]
 ·rw[if_neg (fun e=>h e.2.2),if_neg (fun e=>by grind),if_neg h]
theorem dF {a b p:P2} (h1:¬(a.2≤p.2∧p.2<b.2)) (h2:¬(b.2≤p.2∧p.2<a.2)):we a b p=0:=by
 unfold we;rw[if_neg (fun e=>h1 ⟨e.1,e.2.1⟩),if_neg (fun e=>h2 ⟨e.1,e.2.1⟩)]
theorem iI (a b p:P2):we b a p = -we a b p:=by
 have h:=gG a b p;unfold we
 by_cases h1:a.2≤p.2∧p.2<b.2∧0<tn a b p
 ·rw[if_pos h1,if_neg (fun e=>by grind),if_pos ⟨h1.1,h1.2.1,by grind⟩]
 ·by_cases h2:b.2≤p.2∧p.2<a.2∧tn a b p<0
  ·rw[if_neg h1,if_pos h2,if_pos ⟨h2.1,h2.2.1,by grind⟩]; rfl
  ·rw[if_neg h1,if_neg h2,if_neg (fun e=>h2 ⟨e.1,e.2.1,by grind⟩),if_neg (fun e=>h1 ⟨e.1,e.2.1,by grind⟩)]; rfl
def fz (p q v:P2):Int:=if p.2<v.2∧v.2≤q.2∧tn p q v<0 then 1 else 0
theorem gX {p q v:P2} (h:¬(p.2<v.2∧v.2≤q.2)):fz p q v=0:=if_neg fun e=>h ⟨e.1,e.2.1⟩
theorem pz {p q v:P2} (h1:p.2<v.2) (h2:v.2≤q.2):fz p q v=if tn p q v<0 then 1 else 0:=by
 unfold fz
 by_cases h:tn p q v<0
 ·rw[if_pos ⟨h1,h2,h⟩,if_pos h]
 ·rw[if_neg (fun e=>h e.2.2),if_neg h]
section
variable {a b p q : P2}
theorem Fo (α β γ:Rat):tn p q b*af α β γ a-tn p q a*af α β γ b=tn a b p*af α β γ q-tn a b q*af α β γ p:=by
 unfold tn af; grind
theorem Cl (h:Sep a b p q) (h1:0≤tn p q b) (h2:tn p q a≤0) (h3:0≤tn a b p) (h4:tn a b q≤0) (h5:0<tn a b p∨tn a b q<0∨0<tn p q b∨tn p q a<0):False:=by
 obtain⟨α,β,γ,g1,g2,g3,g4⟩:=h;have e:=Fo (a:=a) (b:=b) (p:=p) (q:=q) α β γ;generalize af α β γ a=A at *;generalize af α β γ b=B at *;generalize af α β γ p=C at *;generalize af α β γ q=D at *;generalize tn p q b=Tb at *;generalize tn p q a=Ta at *;generalize tn a b p=Up at *;generalize tn a b q=Uq at *;have k1:0≤Tb*A:=bC h1 (by grind)
 have k2:0≤(-Ta)*B:=bC (by grind) (by grind)
 have k3:0≤Up*(-D):=bC h3 (by grind)
 have k4:0≤(-Uq)*(-C):=bC (by grind) (by grind)
 rcases h5 with h|h|h|h
 ·have:0<Up*(-D):=aT h (by grind)
  grind
 ·have:0<(-Uq)*(-C):=aT (by grind) (by grind)
  grind
 ·have:0<Tb*A:=aT h g1
  grind
 ·have:0<(-Ta)*B:=aT (by grind) g2
  grind
theorem ym (h:Sep a b p q) (h1:tn p q b≤0) (h2:0≤tn p q a) (h3:tn a b p≤0) (h4:0≤tn a b q) (h5:tn a b p<0∨0<tn a b q∨tn p q b<0∨0<tn p q a):False:=by
 have e1:=gG a b p;have e2:=gG a b q;exact Cl h.ab (a:=b) (b:=a) h2 h1 (by grind) (by grind) (by grind)
theorem i1:(p.2-a.2)*tn p q b+(b.2-p.2)*tn p q a = -((q.2-p.2)*tn a b p):=by unfold tn; grind
theorem i2:(b.2-p.2)*tn a b q+(q.2-b.2)*tn a b p = -((b.2-a.2)*tn p q b):=by unfold tn; grind
theorem i3:(q.2-a.2)*tn p q b+(b.2-q.2)*tn p q a = -((q.2-p.2)*tn a b q):=by unfold tn; grind
theorem i4:(a.2-p.2)*tn a b q+(q.2-a.2)*tn a b p = -((b.2-a.2)*tn p q a):=by unfold tn; grind
theorem i5:tn a b q-tn a b p=tn p q a-tn p q b:=by unfold tn; grind
theorem G1 (h:Sep a b p q) (h1:a.2≤p.2) (h2:p.2<b.2) (h3:b.2≤q.2):0<tn a b p↔tn p q b<0:=by
 have e1:=i1 (a:=a) (b:=b) (p:=p) (q:=q);have e2:=i2 (a:=a) (b:=b) (p:=p) (q:=q);have K:=Cl h;have K':=ym h;clear h;generalize tn p q b=Tb at *;generalize tn p q a=Ta at *;generalize tn a b p=Up at *;generalize tn a b q=Uq at *;have d1:0≤p.2-a.2:=by grind
 have d2:0<b.2-p.2:=by grind
 have d3:0<q.2-p.2:=by grind
 have d4:0≤q.2-b.2:=by grind
 have d5:0<b.2-a.2:=by grind
 generalize p.2-a.2=x1 at *;generalize b.2-p.2=x2 at *;generalize q.2-p.2=x3 at *;generalize q.2-b.2=x4 at *;generalize b.2-a.2=x5 at *;constructor
 ·intro hu;refine Decidable.byContradiction fun ht=>?_;have ht:0≤Tb:=by grind
  have m1:=bC d1 ht;have m2:=aT d3 hu;have ta:Ta≤0:=by
   refine Decidable.byContradiction fun hc=>?_;have:=aT d2 (show 0<Ta by grind)
   grind
  have uq:Uq≤0:=by
   refine Decidable.byContradiction fun hc=>?_;have m3:=aT d2 (show 0<Uq by grind)
   have m4:=bC d4 (show 0≤Up by grind)
   have m5:=bC (show 0≤x5 by grind) ht
   grind
  exact K ht ta (by grind) uq (.inl hu)
 ·intro ht;refine Decidable.byContradiction fun hu=>?_;have hu:Up≤0:=by grind
  have m1:=cd d1 (show Tb≤0 by grind)
  have m2:=cd (show 0≤x3 by grind) hu
  have ta:0≤Ta:=by
   refine Decidable.byContradiction fun hc=>?_;have:=dT d2 (show Ta<0 by grind)
   grind
  have uq:0≤Uq:=by
   refine Decidable.byContradiction fun hc=>?_;have m3:=dT d2 (show Uq<0 by grind)
   have m4:=cd d4 hu;have m5:=dT d5 ht
   grind
  exact K' (by grind) ta hu uq (.inr (.inr (.inl ht)))
theorem Ga (h:Sep a b p q) (h1:p.2<a.2) (h2:a.2≤q.2) (h3:q.2<b.2):0<tn a b q↔tn p q a<0:=by
 have e3:=i3 (a:=a) (b:=b) (p:=p) (q:=q);have e4:=i4 (a:=a) (b:=b) (p:=p) (q:=q);have K:=Cl h;have K':=ym h;clear h;generalize tn p q b=Tb at *;generalize tn p q a=Ta at *;generalize tn a b p=Up at *;generalize tn a b q=Uq at *;have d1:0≤q.2-a.2:=by grind
 have d2:0<b.2-q.2:=by grind
 have d3:0<q.2-p.2:=by grind
 have d4:0<a.2-p.2:=by grind
 have d5:0<b.2-a.2:=by grind
 generalize q.2-a.2=x1 at *;generalize b.2-q.2=x2 at *;generalize q.2-p.2=x3 at *;generalize a.2-p.2=x4 at *;generalize b.2-a.2=x5 at *;constructor
 ·intro hu;refine Decidable.byContradiction fun ht=>?_;have ht:0≤Ta:=by grind
  have m1:=bC (show 0≤x2 by grind) ht
  have m2:=aT d3 hu;have tb:Tb≤0:=by
   refine Decidable.byContradiction fun hc=>?_;have:=bC d1 (show 0≤Tb by grind)
   grind
  have up:Up≤0:=by
   refine Decidable.byContradiction fun hc=>?_;have m3:=aT d4 hu;have m4:=bC d1 (show 0≤Up by grind)
   have m5:=bC (show 0≤x5 by grind) ht
   grind
  exact K' tb ht up (by grind) (.inr (.inl hu))
 ·intro ht;refine Decidable.byContradiction fun hu=>?_;have hu:Uq≤0:=by grind
  have m2:=cd (show 0≤x3 by grind) hu
  have m1:=dT d2 ht;have tb:0≤Tb:=by
   refine Decidable.byContradiction fun hc=>?_;have:=cd d1 (show Tb≤0 by grind)
   grind
  have up:0≤Up:=by
   refine Decidable.byContradiction fun hc=>?_;have m3:=cd (show 0≤x4 by grind) hu
   have m4:=cd d1 (show Up≤0 by grind)
   have m5:=dT d5 ht
   grind
  exact K tb (by grind) up hu (.inr (.inr (.inr ht)))
theorem Hv (h:Sep a b p q) (h1:a.2≤p.2) (h2:p.2≤q.2) (h3:q.2<b.2):0<tn a b p↔0<tn a b q:=by
 have e1:=i1 (a:=a) (b:=b) (p:=p) (q:=q);have e3:=i3 (a:=a) (b:=b) (p:=p) (q:=q);have e5:=i5 (a:=a) (b:=b) (p:=p) (q:=q);have K:=Cl h;have K':=ym h;clear h;generalize tn p q b=Tb at *;generalize tn p q a=Ta at *;generalize tn a b p=Up at *;generalize tn a b q=Uq at *;have d1:0≤p.2-a.2:=by grind
 have d2:0<b.2-p.2:=by grind
 have d3:0≤q.2-p.2:=by grind
 have d4:0≤q.2-a.2:=by grind
 have d5:0<b.2-q.2:=by grind
 generalize p.2-a.2=x1 at *;generalize b.2-p.2=x2 at *;generalize q.2-p.2=x3 at *;generalize q.2-a.2=x4 at *;generalize b.2-q.2=x5 at *;constructor
 ·intro hu;refine Decidable.byContradiction fun hc=>?_;have hc:Uq≤0:=by grind
  have ta:Ta≤0:=by
   refine Decidable.byContradiction fun ht=>?_;have m1:=bC d1 (show 0≤Tb by grind)
   have m2:=aT d2 (show 0<Ta by grind)
   have m3:=bC d3 (show 0≤Up by grind)
   grind
  have tb:0≤Tb:=by
   refine Decidable.byContradiction fun ht=>?_;have m1:=cd d4 (show Tb≤0 by grind)
   have m2:=dT d5 (show Ta<0 by grind)
   have m3:=cd d3 hc
   grind
  exact K tb ta (by grind) hc (.inl hu)
 ·intro hu;refine Decidable.byContradiction fun hc=>?_;have hc:Up≤0:=by grind
  have ta:0≤Ta:=by
   refine Decidable.byContradiction fun ht=>?_;have m1:=cd d1 (show Tb≤0 by grind)
   have m2:=dT d2 (show Ta<0 by grind)
   have m3:=cd d3 hc
   grind
  have tb:Tb≤0:=by
   refine Decidable.byContradiction fun ht=>?_;have m1:=bC d4 (show 0≤Tb by grind)
   have m2:=aT d5 (show 0<Ta by grind)
   have m3:=bC d3 (show 0≤Uq by grind)
   grind
  exact K' tb ta hc (by grind) (.inr (.inl hu))
theorem D7 (h:Sep a b p q) (h0:a.2≤b.2) (h1:p.2<a.2) (h2:b.2≤q.2):tn p q a<0↔tn p q b<0:=by
 have e2:=i2 (a:=a) (b:=b) (p:=p) (q:=q);have e4:=i4 (a:=a) (b:=b) (p:=p) (q:=q);have e5:=i5 (a:=a) (b:=b) (p:=p) (q:=q);have K:=Cl h;have K':=ym h;clear h;generalize tn p q b=Tb at *;generalize tn p q a=Ta at *;generalize tn a b p=Up at *;generalize tn a b q=Uq at *;have d1:0<b.2-p.2:=by grind
 have d2:0≤q.2-b.2:=by grind
 have d3:0≤b.2-a.2:=by grind
 have d4:0<a.2-p.2:=by grind
 have d5:0≤q.2-a.2:=by grind
 generalize b.2-p.2=x1 at *;generalize q.2-b.2=x2 at *;generalize b.2-a.2=x3 at *;generalize a.2-p.2=x4 at *;generalize q.2-a.2=x5 at *;constructor
 ·intro ha;refine Decidable.byContradiction fun hb=>?_;have hb:0≤Tb:=by grind
  have uq:Uq≤0:=by
   refine Decidable.byContradiction fun hc=>?_;have m1:=aT d1 (show 0<Uq by grind)
   have m2:=bC d2 (show 0≤Up by grind)
   have m3:=bC d3 hb
   grind
  have up:0≤Up:=by
   refine Decidable.byContradiction fun hc=>?_;have m1:=dT d4 (show Uq<0 by grind)
   have m2:=cd d5 (show Up≤0 by grind)
   have m3:=cd d3 (show Ta≤0 by grind)
   grind
  exact K hb (by grind) up uq (.inr (.inr (.inr ha)))
 ·intro hb;refine Decidable.byContradiction fun ha=>?_;have ha:0≤Ta:=by grind
  have uq:0≤Uq:=by
   refine Decidable.byContradiction fun hc=>?_;have m1:=dT d1 (show Uq<0 by grind)
   have m2:=cd d2 (show Up≤0 by grind)
   have m3:=cd d3 (show Tb≤0 by grind)
   grind
  have up:Up≤0:=by
   refine Decidable.byContradiction fun hc=>?_;have m1:=aT d4 (show 0<Uq by grind)
   have m2:=bC d5 (show 0≤Up by grind)
   have m3:=bC d3 ha
   grind
  exact K' (by grind) ha up uq (.inr (.inr (.inl hb)))
theorem jR {c d:Prop} [Decidable c] [Decidable d] (h:c↔d):(if c then(1:Int) else 0)=if d then 1 else 0:=by
 by_cases hc:c
 ·rw[if_pos hc,if_pos (h.1 hc)]
 ·rw[if_neg hc,if_neg (fun e=>hc (h.2 e))]
theorem Cq (h:Sep a b p q) (hpq:p.2≤q.2) (hab:a.2≤b.2):we a b p-we a b q=fz p q b-fz p q a:=by
 by_cases ha:a.2≤p.2
 ·rw[gX (v:=a) (by grind)]
  by_cases hb:b.2≤p.2
  ·rw[gX (v:=b) (by grind),dF (by grind) (by grind),dF (by grind) (by grind)]
  ·by_cases hb2:b.2≤q.2
   ·rw[pz (by grind) hb2,gF ha (by grind),dF (p:=q) (by grind) (by grind),jR (G1 h ha (by grind) hb2)]
   ·rw[gX (v:=b) (by grind),gF ha (by grind),gF (p:=q) (by grind) (by grind),jR (Hv h ha hpq (by grind))]
    omega
 ·rw[dF (p:=p) (by grind) (by grind)]
  by_cases ha2:a.2≤q.2
  ·rw[pz (v:=a) (by grind) ha2]
   by_cases hb2:b.2≤q.2
   ·rw[pz (v:=b) (by grind) hb2,dF (p:=q) (by grind) (by grind),jR (D7 h hab (by grind) hb2)]
    omega
   ·rw[gX (v:=b) (by grind),gF (p:=q) ha2 (by grind),jR (Ga h (by grind) ha2 (by grind))]
  ·rw[gX (v:=a) (by grind),gX (v:=b) (by grind),dF (p:=q) (by grind) (by grind)]
theorem BU (h:Sep a b p q) (hpq:p.2≤q.2):we a b p-we a b q=fz p q b-fz p q a:=by
 by_cases hab:a.2≤b.2
 ·exact Cq h hpq hab
 ·have:=Cq h.ab hpq (by grind)
  rw[iI b a p,iI b a q];omega
end
def aD:Nat→(Nat→Int)→Int
 | 0,_=>0
 | n+1,f=>aD n f+f n
theorem ar {n:Nat} {f g:Nat→Int} (h:∀i,i<n→f i=g i):aD n f=aD n g:=by
 induction n with
 | zero=>rfl
 | succ n ih=>simp only[aD]; rw[ih fun i hi=>h i (by omega),h n (by omega)]
theorem dI (n:Nat) (f g:Nat→Int):aD n (fun i=>f i-g i)=aD n f-aD n g:=by
 induction n with
 | zero=>rfl
 | succ n ih=>simp only[aD]; rw[ih]; omega
theorem hJ (n:Nat) (f:Nat→Int):aD n (fun i=>f (i+1)-f i)=f n-f 0:=by
 induction n with
 | zero=>simp[aD]
 | succ n ih=>simp only[aD]; rw[ih]; omega
theorem bj {n:Nat} {f:Nat→Int} (h:∀i,i<n→f i=0):aD n f=0:=by
 induction n with
 | zero=>rfl
 | succ n ih=>simp only[aD]; rw[ih fun i hi=>h i (by omega),h n (by omega)]; rfl
theorem dL {n k:Nat} {f:Nat→Int} (hk:k<n) (h:∀i,i<n→i≠k→f i=0):aD n f=f k:=by
 induction n with
 | zero=>omega
 | succ n ih =>
  simp only[aD]
  by_cases e:k=n
  ·subst e;rw[bj fun i hi=>h i (by omega) (by omega)]; omega
  ·rw[ih (by omega) (fun i hi hn=>h i (by omega) hn),h n (by omega) (by omega)]; omega
def cv (u w:P2) (t:Rat):P2:=(u.1+t*(w.1-u.1),u.2+t*(w.2-u.2))
def sm (p d:P2) (x:Rat):P2:=(p.1+x*d.1,p.2+x*d.2)
def cr (u w d:P2):Rat:=(w.1-u.1)*d.2-(w.2-u.2)*d.1
def dt (u w x:P2):Rat:=(w.1-u.1)*(x.1-w.1)+(w.2-u.2)*(x.2-w.2)
theorem dJ {A B:Rat} (ha:0<A) (hb:0<B):∃k:Rat,0<k∧k<A∧k<B:=by
 by_cases h:A≤B
 ·exact⟨A/2,by grind,by grind,by grind⟩
 ·exact⟨B/2,by grind,by grind,by grind⟩
theorem kJ {a b p q:P2} (α β γ:Rat) (h1:0≤af α β γ a) (h2:0≤af α β γ b) (h3:af α β γ p<0) (h4:af α β γ q<0):Sep a b p q:=by
 obtain⟨k,k1,k2,k3⟩:=dJ (show 0 < -af α β γ p by grind) (show 0 < -af α β γ q by grind)
 refine⟨α,β,γ+k,?_,?_,?_,?_⟩<;>(unfold af at *; grind)
theorem Dk {a b u w:P2} (h:Sep a b u w) {t s:Rat} (t0:0≤t) (t1:t≤1) (s0:0≤s) (s1:s≤1):Sep a b (cv u w t) (cv u w s):=by
 obtain⟨α,β,γ,h1,h2,h3,h4⟩:=h;have key:∀t:Rat,0≤t→t≤1→af α β γ (cv u w t)<0:=by
  intro t t0 t1;have e:af α β γ (cv u w t)=(1-t)*af α β γ u+t*af α β γ w:=by unfold af cv; grind
  rw[e];have m1:=cd (show 0≤1-t by grind) (show af α β γ u≤0 by grind)
  have m2:=cd t0 (show af α β γ w≤0 by grind)
  by_cases ht:0<t
  ·have:=dT ht h4
   grind
  ·have:=dT (show 0<1-t by grind) h3
   grind
 exact⟨α,β,γ,h1,h2,key t t0 t1,key s s0 s1⟩
theorem sq_pos {x:Rat} (h:x≠0):0<x*x:=by
 by_cases hx:0<x
 ·exact aT hx hx
 ·have:=aT (show 0 < -x by grind) (show 0 < -x by grind)
  grind
theorem yN (x:Rat):0≤x*x:=by
 by_cases hx:0≤x
 ·exact bC hx hx
 ·have:=bC (show 0≤-x by grind) (show 0≤-x by grind)
  grind
theorem rT {u w:P2} (h:u≠w):0<(w.1-u.1)*(w.1-u.1)+(w.2-u.2)*(w.2-u.2):=by
 have n1:=yN (w.1-u.1);have n2:=yN (w.2-u.2)
 by_cases h1:w.1-u.1=0
 ·have h2:w.2-u.2≠0:=fun e=>h (Prod.ext (by grind) (by grind))
  have:=sq_pos h2
  grind
 ·have:=sq_pos h1
  grind
theorem A6 {u w x:P2} (hne:u≠w) (hc:tn u w x≠0∨0<dt u w x) {t s:Rat} (t1:t<1) (s1:s<1):Sep w x (cv u w t) (cv u w s):=by
 have e:∀t:Rat,af (-(x.2-w.2)) (x.1-w.1) ((x.2-w.2)*w.1-(x.1-w.1)*w.2) (cv u w t)=(1-t)*tn u w x:=fun t=>by unfold af cv tn; grind
 have f:∀t:Rat,af (x.2-w.2) (-(x.1-w.1)) (-((x.2-w.2)*w.1-(x.1-w.1)*w.2)) (cv u w t) = -((1-t)*tn u w x):=fun t=>by unfold af cv tn; grind
 have g:∀t:Rat,af (w.1-u.1) (w.2-u.2) (-((w.1-u.1)*w.1+(w.2-u.2)*w.2)) (cv u w t) = -((1-t)*((w.1-u.1)*(w.1-u.1)+(w.2-u.2)*(w.2-u.2))):=fun t=>by unfold af cv; grind
 by_cases h0:tn u w x=0
 ·have hd:0<dt u w x:=hc.resolve_left fun h=>h h0;have hl:=rT hne;refine kJ (w.1-u.1) (w.2-u.2) (-((w.1-u.1)*w.1+(w.2-u.2)*w.2)) ?_ ?_ ?_ ?_
  ·unfold af; grind
  ·unfold dt at hd; unfold af; grind
  ·rw[g]; have:=aT (show 0<1-t by grind) hl; grind
  ·rw[g]; have:=aT (show 0<1-s by grind) hl; grind
 ·by_cases hp:0<tn u w x
  ·refine kJ (x.2-w.2) (-(x.1-w.1)) (-((x.2-w.2)*w.1-(x.1-w.1)*w.2)) ?_ ?_ ?_ ?_
   ·unfold af; grind
   ·unfold af; grind
   ·rw[f]; have:=aT (show 0<1-t by grind) hp; grind
   ·rw[f]; have:=aT (show 0<1-s by grind) hp; grind
  ·have hm:tn u w x<0:=by grind
   refine kJ (-(x.2-w.2)) (x.1-w.1) ((x.2-w.2)*w.1-(x.1-w.1)*w.2) ?_ ?_ ?_ ?_
   ·unfold af; grind
   ·unfold af; grind
   ·rw[e]; exact dT (show 0<1-t by grind) hm
   ·rw[e]; exact dT (show 0<1-s by grind) hm
theorem Ce {x u w:P2} (hc:tn x u w≠0∨0<dt x u w) {t s:Rat} (t0:0<t) (s0:0<s):Sep x u (cv u w t) (cv u w s):=by
 have e:∀t:Rat,af (-(u.2-x.2)) (u.1-x.1) ((u.2-x.2)*x.1-(u.1-x.1)*x.2) (cv u w t)=t*tn x u w:=fun t=>by unfold af cv tn; grind
 have f:∀t:Rat,af (u.2-x.2) (-(u.1-x.1)) (-((u.2-x.2)*x.1-(u.1-x.1)*x.2)) (cv u w t) = -(t*tn x u w):=fun t=>by unfold af cv tn; grind
 have g:∀t:Rat,af (-(u.1-x.1)) (-(u.2-x.2)) ((u.1-x.1)*u.1+(u.2-x.2)*u.2) (cv u w t) = -(t*dt x u w):=fun t=>by unfold af cv dt; grind
 by_cases h0:tn x u w=0
 ·have hd:0<dt x u w:=hc.resolve_left fun h=>h h0;have n1:=yN (u.1-x.1);have n2:=yN (u.2-x.2);refine kJ (-(u.1-x.1)) (-(u.2-x.2)) ((u.1-x.1)*u.1+(u.2-x.2)*u.2) ?_ ?_ ?_ ?_
  ·unfold af; grind
  ·unfold af; grind
  ·rw[g]; have:=aT t0 hd; grind
  ·rw[g]; have:=aT s0 hd; grind
 ·by_cases hp:0<tn x u w
  ·refine kJ (u.2-x.2) (-(u.1-x.1)) (-((u.2-x.2)*x.1-(u.1-x.1)*x.2)) ?_ ?_ ?_ ?_
   ·unfold af; grind
   ·unfold af; grind
   ·rw[f]; have:=aT t0 hp; grind
   ·rw[f]; have:=aT s0 hp; grind
  ·have hm:tn x u w<0:=by grind
   refine kJ (-(u.2-x.2)) (u.1-x.1) ((u.2-x.2)*x.1-(u.1-x.1)*x.2) ?_ ?_ ?_ ?_
   ·unfold af; grind
   ·unfold af; grind
   ·rw[e]; exact dT t0 hm
   ·rw[e]; exact dT s0 hm
def Ev (P:Rat→Rat→Prop):Prop:=∃e:Rat,0<e∧∀x y,0<x→x≤e→0<y→y≤e→P x y
theorem Ev.and {P Q:Rat→Rat→Prop} (h:Ev P) (g:Ev Q):Ev fun x y=>P x y∧Q x y:=by
 obtain⟨e,e0,h⟩:=h;obtain⟨f,f0,g⟩:=g
 by_cases hl:e≤f
 ·exact⟨e,e0,fun x y a b c d=>⟨h x y a b c d,g x y a (by grind) c (by grind)⟩⟩
 ·exact⟨f,f0,fun x y a b c d=>⟨h x y a (by grind) c (by grind),g x y a b c d⟩⟩
theorem Ev.mono {P Q:Rat→Rat→Prop} (h:Ev P) (g:∀x y,0<x→0<y→P x y→Q x y):Ev Q :=
 let ⟨e,e0,h⟩:=h
 ⟨e,e0,fun x y a b c d=>g x y a c (h x y a b c d)⟩
theorem Ev.of {P:Rat→Rat→Prop} (h:∀x y,0<x→0<y→P x y):Ev P:=⟨1,by grind,fun x y a _ c _=>h x y a c⟩
theorem Ev.all {P:Nat→Rat→Rat→Prop}:∀{n:Nat},(∀i,i<n→Ev (P i))→Ev fun x y=>∀i,i<n→P i x y
 | 0,_=>Ev.of fun _ _ _ _ i hi=>by omega
 | n+1,h=>by
  have h1:=Ev.all (P:=P) (n:=n) fun i hi=>h i (by omega)
  refine(h1.and (h n (by omega))).mono fun x y _ _ g i hi=>?_
  by_cases e:i=n
  ·subst e; exact g.2
  ·exact g.1 i (by omega)
theorem sO {A:Rat} (h:A<0) (B:Rat):∃e:Rat,0<e∧∀x,0<x→x≤e→A+x*B<0:=by
 by_cases hb:B≤0
 ·exact⟨1,by grind,fun x hx _=>by have:=cd (show 0≤x by grind) hb; grind⟩
 ·have hb0:B≠0:=by grind
  have hi:B*B⁻¹=1:=Rat.mul_inv_cancel B hb0;have e1:(-A/2*B⁻¹)*B = -A/2:=by grind
  have hpos:0 < -A/2*B⁻¹:=by
   refine Decidable.byContradiction fun hc=>?_;have:=bC (show 0≤-(-A/2*B⁻¹) by grind) (show 0≤B by grind)
   grind
  refine⟨-A/2*B⁻¹,hpos,fun x hx hl=>?_⟩;have:=bC (show 0≤-A/2*B⁻¹-x by grind) (show 0≤B by grind)
  grind
theorem sf {a b p q:P2} (h:Sep a b p q) (d d':P2):Ev fun x y=>Sep a b (sm p d x) (sm q d' y):=by
 obtain⟨α,β,γ,h1,h2,h3,h4⟩:=h;obtain⟨e,e0,he⟩:=sO h3 (α*d.1+β*d.2);obtain⟨f,f0,hf⟩:=sO h4 (α*d'.1+β*d'.2);have k1:∀x,af α β γ (sm p d x)=af α β γ p+x*(α*d.1+β*d.2):=fun x=>by unfold af sm; grind
 have k2:∀x,af α β γ (sm q d' x)=af α β γ q+x*(α*d'.1+β*d'.2):=fun x=>by unfold af sm; grind
 obtain⟨g,g0,ge,gf⟩:=dJ e0 f0;exact⟨g,g0,fun x y x0 xg y0 yg=>⟨α,β,γ,h1,h2,by rw[k1]; exact he x x0 (by grind),by rw[k2]; exact hf y y0 (by grind)⟩⟩
structure Simple (n:Nat) (v:Nat→P2):Prop where
 n3:2<n
 cl:v n=v 0
 cl1:v (n+1)=v 1
 ne:∀i,i<n→v i≠v (i+1)
 qk:∀i,i<n→tn (v i) (v (i+1)) (v (i+2))≠0∨0<dt (v i) (v (i+1)) (v (i+2))
 sep:∀i j,i<n→j<n→i≠j→j≠i+1→i≠j+1→¬(i=0∧j+1=n)→¬(j=0∧i+1=n)→Sep (v i) (v (i+1)) (v j) (v (j+1))
def W (n:Nat) (v:Nat→P2) (p:P2):Int:=aD n fun i=>we (v i) (v (i+1)) p
section
variable {n : Nat} {v : Nat → P2}
theorem wX (hv:v n=v 0) (p q:P2):W n v p-W n v q=aD n fun i=>(we (v i) (v (i+1)) p-we (v i) (v (i+1)) q)-(fz p q (v (i+1))-fz p q (v i)):=by
 have h1:=dI n (fun i=>we (v i) (v (i+1)) p-we (v i) (v (i+1)) q) (fun i=>fz p q (v (i+1))-fz p q (v i));have h2:=hJ n fun i=>fz p q (v i);have h3:=dI n (fun i=>we (v i) (v (i+1)) p) fun i=>we (v i) (v (i+1)) q;rw[hv] at h2;rw[h1,h2,h3];unfold W; omega
theorem wK (hv:v n=v 0) {p q:P2} (h:∀i,i<n→Sep (v i) (v (i+1)) p q):W n v p=W n v q:=by
 by_cases hl:p.2≤q.2
 ·have:=wX hv p q;rw[bj fun i hi=>by rw[BU (h i hi) hl]; omega] at this
  omega
 ·have:=wX hv q p;rw[bj fun i hi=>by rw[BU (h i hi).pq (by grind)]; omega] at this
  omega
theorem yw (hv:v n=v 0) {k:Nat} (hk:k<n) {p q:P2} (hl:p.2≤q.2) (h:∀i,i<n→i≠k→Sep (v i) (v (i+1)) p q) :
  W n v p-W n v q=(we (v k) (v (k+1)) p-we (v k) (v (k+1)) q)-(fz p q (v (k+1))-fz p q (v k)):=by
 rw[wX hv p q];exact dL hk fun i hi hn=>by rw[BU (h i hi hn) hl]; omega
theorem Simple.off (S:Simple n v) {i j:Nat} (hi:i<n) (hj:j<n) (hij:i≠j) {t s:Rat} (t0:0≤t) (t1:t≤1) (s0:0≤s) (s1:s≤1)
  (hn:j=i+1∨(i+1=n∧j=0)→t<1∧s<1) (hp:i=j+1∨(j+1=n∧i=0)→0<t∧0<s):Sep (v j) (v (j+1)) (cv (v i) (v (i+1)) t) (cv (v i) (v (i+1)) s):=by
 have hn3:=S.n3
 by_cases h1:j=i+1∨(i+1=n∧j=0)
 ·obtain⟨a,b⟩:=hn h1;have e:v j=v (i+1)∧v (j+1)=v (i+2):=by
   rcases h1 with rfl|⟨h,rfl⟩
   ·exact⟨rfl,rfl⟩
   ·have:i+2=n+1:=by omega
    rw[this,S.cl1,h,S.cl]; exact⟨rfl,rfl⟩
  rw[e.1,e.2];exact A6 (S.ne i hi) (S.qk i hi) a b
 ·by_cases h2:i=j+1∨(j+1=n∧i=0)
  ·obtain⟨a,b⟩:=hp h2;have e:v (j+1)=v i∧v (j+2)=v (i+1):=by
    rcases h2 with rfl|⟨h,rfl⟩
    ·exact⟨rfl,rfl⟩
    ·have:j+2=n+1:=by omega
     rw[this,S.cl1,h,S.cl]; exact⟨rfl,rfl⟩
   have:=S.qk j hj;rw[e.1,e.2] at this;rw[e.1];exact Ce this a b
  ·exact Dk (S.sep j i hj hi (by omega) (by omega) (by omega) (by omega) (by omega)) t0 t1 s0 s1
theorem j8 (u w d:P2) (t x:Rat):tn u w (sm (cv u w t) d x)=x*cr u w d:=by unfold tn sm cv cr; grind
theorem eC {u w p q:P2} {σ:Rat} (h1:0 < σ*tn u w p) (h2:0 < σ*tn u w q):Sep u w p q:=by
 refine kJ (σ*(w.2-u.2)) (-(σ*(w.1-u.1))) (-(σ*((w.2-u.2)*u.1-(w.1-u.1)*u.2))) ?_ ?_ ?_ ?_
 ·unfold af; grind
 ·unfold af; grind
 ·unfold tn at h1; unfold af; grind
 ·unfold tn at h2; unfold af; grind
theorem Simple.beside (S:Simple n v) {σ:Rat} {i:Nat} (hi:i<n) {t s:Rat} (t0:0<t) (t1:t<1) (s0:0<s) (s1:s<1) {d d':P2} (h:0 < σ*cr (v i) (v (i+1)) d) (h':0 < σ*cr (v i) (v (i+1)) d') :
  Ev fun x y=>W n v (sm (cv (v i) (v (i+1)) t) d x)=W n v (sm (cv (v i) (v (i+1)) s) d' y):=by
 have hE:Ev fun x y=>∀j,j<n→Sep (v j) (v (j+1)) (sm (cv (v i) (v (i+1)) t) d x) (sm (cv (v i) (v (i+1)) s) d' y):=by
  refine Ev.all fun j hj=>?_
  by_cases e:i=j
  ·subst e;refine Ev.of fun x y hx hy=>eC (σ:=σ) ?_ ?_
   ·rw[j8]; have:=aT hx h; grind
   ·rw[j8]; have:=aT hy h'; grind
  ·exact sf (S.off hi hj e (by grind) (by grind) (by grind) (by grind) (fun _=>⟨t1,s1⟩) (fun _=>⟨t0,s0⟩)) d d'
 exact hE.mono fun x y _ _ h=>wK S.cl h
def HS (n:Nat) (v:Nat→P2) (σ:Rat) (i:Nat) (L:Int):Prop:=∀t d,0<t→t<1→0 < σ*cr (v i) (v (i+1)) d→∃e:Rat,0<e∧∀x,0<x→x≤e→W n v (sm (cv (v i) (v (i+1)) t) d x)=L
theorem Simple.hs (S:Simple n v) {σ:Rat} (hσ:σ≠0) {i:Nat} (hi:i<n):∃L,HS n v σ i L:=by
 have hl:=rT (S.ne i hi)
 let d0:P2:=(-(σ*((v (i+1)).2-(v i).2)),σ*((v (i+1)).1-(v i).1))
 have h0:0 < σ*cr (v i) (v (i+1)) d0:=by
  have:=aT (sq_pos hσ) hl;have e:σ*cr (v i) (v (i+1)) d0=σ*σ*(((v (i+1)).1-(v i).1)*((v (i+1)).1-(v i).1)+((v (i+1)).2-(v i).2)*((v (i+1)).2-(v i).2)):=by
   show σ*(((v (i+1)).1-(v i).1)*(σ*((v (i+1)).1-(v i).1))-((v (i+1)).2-(v i).2)*(-(σ*((v (i+1)).2-(v i).2))))=_
   grind
  rw[e]; exact this
 obtain⟨e,e0,he⟩:=S.beside (σ:=σ) hi (t:=1/2) (s:=1/2) (by grind) (by grind) (by grind) (by grind) h0 h0
 refine⟨W n v (sm (cv (v i) (v (i+1)) (1/2)) d0 e),fun t d t0 t1 hd=>?_⟩;obtain⟨f,f0,hf⟩:=S.beside (σ:=σ) hi (t:=t) (s:=1/2) t0 t1 (by grind) (by grind) hd h0
 obtain⟨g,g0,ge,gf⟩:=dJ e0 f0;refine⟨f,f0,fun x x0 x1=>?_⟩;rw[hf x g x0 x1 g0 (by grind),he g e g0 (by grind) e0 (by grind)]
theorem HS.inj {σ:Rat} {i:Nat} {L L':Int} (h:HS n v σ i L) (h':HS n v σ i L') (hd:∃d,0 < σ*cr (v i) (v (i+1)) d):L=L':=by
 obtain⟨d,hd⟩:=hd;obtain⟨e,e0,he⟩:=h (1/2) d (by grind) (by grind) hd
 obtain⟨f,f0,hf⟩:=h' (1/2) d (by grind) (by grind) hd
 obtain⟨g,g0,ge,gf⟩:=dJ e0 f0;rw[←he g g0 (by grind),hf g g0 (by grind)]
theorem Simple.Ci (S:Simple n v) {i:Nat} (hi:i<n) {L R:Int} (hL:HS n v 1 i L) (hR:HS n v (-1) i R):L=R+1:=by
 have hne:=S.ne i hi;have eoff:∀d d':P2,Ev fun x y=>∀j,j<n→j≠i→Sep (v j) (v (j+1)) (sm (cv (v i) (v (i+1)) (1/2)) d x) (sm (cv (v i) (v (i+1)) (1/2)) d' y):=fun d d' =>
  Ev.all (P:=fun j x y=>j≠i→Sep (v j) (v (j+1)) (sm (cv (v i) (v (i+1)) (1/2)) d x) (sm (cv (v i) (v (i+1)) (1/2)) d' y)) fun j hj=>by
   by_cases e:j=i
   ·exact Ev.of fun _ _ _ _ h=>absurd e h
   ·exact(sf (S.off hi hj (Ne.symm e) (t:=1/2) (s:=1/2) (by grind) (by grind) (by grind) (by grind) (fun _=>⟨by grind,by grind⟩) (fun _=>⟨by grind,by grind⟩)) d d').mono fun x y _ _ h _=>h
 have pick:∀d d':P2,0<cr (v i) (v (i+1)) d→0 < -cr (v i) (v (i+1)) d'→∃x:Rat,0<x∧W n v (sm (cv (v i) (v (i+1)) (1/2)) d x)=L∧W n v (sm (cv (v i) (v (i+1)) (1/2)) d' x)=R ∧
   (∀j,j<n→j≠i→Sep (v j) (v (j+1)) (sm (cv (v i) (v (i+1)) (1/2)) d x) (sm (cv (v i) (v (i+1)) (1/2)) d' x))∧∀B:Rat,B<0→True:=by
  intro d d' hd hd';obtain⟨e,e0,he⟩:=hL (1/2) d (by grind) (by grind) (by grind)
  obtain⟨f,f0,hf⟩:=hR (1/2) d' (by grind) (by grind) (by grind)
  obtain⟨g,g0,hg⟩:=eoff d d';obtain⟨k,k0,ke,kf⟩:=dJ e0 f0;obtain⟨m,m0,mk,mg⟩:=dJ k0 g0;exact⟨m,m0,he m m0 (by grind),hf m m0 (by grind),hg m m m0 (by grind) m0 (by grind),fun _ _=>trivial⟩
 generalize hu:v i=u at *;generalize hw:v (i+1)=w at *
 by_cases h0:w.2=u.2
 ·
  have h1:w.1≠u.1:=fun e=>hne (Prod.ext e.symm h0.symm)
  by_cases hp:u.1<w.1
  ·obtain⟨x,x0,xL,xR,xs,_⟩:=pick (0,1) (0,-1) (by unfold cr; grind) (by unfold cr; grind)
   have k:=yw S.cl hi (p:=sm (cv u w (1/2)) (0,-1) x) (q:=sm (cv u w (1/2)) (0,1) x) (by unfold sm; grind) fun j hj hn=>(xs j hj hn).pq
   rw[hu,hw,dF (by unfold sm cv; grind) (by unfold sm cv; grind),dF (by unfold sm cv; grind) (by unfold sm cv; grind),pz (v:=w) (by unfold sm cv; grind) (by unfold sm cv; grind),pz (v:=u) (by unfold sm cv; grind) (by unfold sm cv; grind)] at k
   have t1:tn (sm (cv u w (1/2)) (0,-1) x) (sm (cv u w (1/2)) (0,1) x) w = -(x*(w.1-u.1)):=by unfold tn sm cv; grind
   have t2:tn (sm (cv u w (1/2)) (0,-1) x) (sm (cv u w (1/2)) (0,1) x) u=x*(w.1-u.1):=by unfold tn sm cv; grind
   have m:=aT x0 (show 0<w.1-u.1 by grind)
   rw[t1,t2,if_pos (by grind),if_neg (by grind),xL,xR] at k
   omega
  ·obtain⟨x,x0,xL,xR,xs,_⟩:=pick (0,-1) (0,1) (by unfold cr; grind) (by unfold cr; grind)
   have k:=yw S.cl hi (p:=sm (cv u w (1/2)) (0,-1) x) (q:=sm (cv u w (1/2)) (0,1) x) (by unfold sm; grind) fun j hj hn=>xs j hj hn
   rw[hu,hw,dF (by unfold sm cv; grind) (by unfold sm cv; grind),dF (by unfold sm cv; grind) (by unfold sm cv; grind),pz (v:=w) (by unfold sm cv; grind) (by unfold sm cv; grind),pz (v:=u) (by unfold sm cv; grind) (by unfold sm cv; grind)] at k
   have t1:tn (sm (cv u w (1/2)) (0,-1) x) (sm (cv u w (1/2)) (0,1) x) w=x*(u.1-w.1):=by unfold tn sm cv; grind
   have t2:tn (sm (cv u w (1/2)) (0,-1) x) (sm (cv u w (1/2)) (0,1) x) u = -(x*(u.1-w.1)):=by unfold tn sm cv; grind
   have m:=aT x0 (show 0<u.1-w.1 by grind)
   rw[t1,t2,if_neg (by grind),if_pos (by grind),xL,xR] at k
   omega
 ·by_cases hp:u.2<w.2
  ·obtain⟨x,x0,xL,xR,xs,_⟩:=pick (-1,0) (1,0) (by unfold cr; grind) (by unfold cr; grind)
   have k:=yw S.cl hi (p:=sm (cv u w (1/2)) (-1,0) x) (q:=sm (cv u w (1/2)) (1,0) x) (by unfold sm; grind) fun j hj hn=>xs j hj hn
   rw[gX (by unfold sm; grind),gX (by unfold sm; grind),hu,hw,gF (by unfold sm cv; grind) (by unfold sm cv; grind),gF (by unfold sm cv; grind) (by unfold sm cv; grind),j8,j8] at k
   have m:=aT x0 (show 0<w.2-u.2 by grind)
   rw[if_pos (by unfold cr; grind),if_neg (by unfold cr; grind),xL,xR] at k
   omega
  ·obtain⟨x,x0,xL,xR,xs,_⟩:=pick (1,0) (-1,0) (by unfold cr; grind) (by unfold cr; grind)
   have k:=yw S.cl hi (p:=sm (cv u w (1/2)) (-1,0) x) (q:=sm (cv u w (1/2)) (1,0) x) (by unfold sm; grind) fun j hj hn=>(xs j hj hn).pq
   have e1:=iI w u (sm (cv u w (1/2)) (-1,0) x);have e2:=iI w u (sm (cv u w (1/2)) (1,0) x);rw[gF (a:=w) (b:=u) (by unfold sm cv; grind) (by unfold sm cv; grind),gG u w,j8] at e1
   rw[gF (a:=w) (b:=u) (by unfold sm cv; grind) (by unfold sm cv; grind),gG u w,j8] at e2
   have m:=aT x0 (show 0<u.2-w.2 by grind)
   rw[if_pos (by unfold cr; grind)] at e1
   rw[if_neg (by unfold cr; grind)] at e2
   rw[gX (by unfold sm; grind),gX (by unfold sm; grind),hu,hw,e1,e2,xL,xR] at k
   omega
theorem Simple.wF (S:Simple n v) {σ:Rat} {i:Nat} (hi:i+1<n) {d:P2} (hd:0 < σ*cr (v i) (v (i+1)) d) (hd':0 < σ*cr (v (i+1)) (v (i+2)) d) (hs:0≤σ*tn (v i) (v (i+1)) (v (i+2)))
  {L L':Int} (h:HS n v σ i L) (h':HS n v σ (i+1) L'):L=L':=by
 have hn3:=S.n3;have e1:Ev fun x y=>∀j,j<n→Sep (v j) (v (j+1)) (sm (cv (v i) (v (i+1)) (1/2)) d x) (sm (cv (v i) (v (i+1)) 1) d y):=by
  refine Ev.all fun j hj=>?_
  by_cases e:i=j
  ·subst e;refine Ev.of fun x y hx hy=>eC (σ:=σ) ?_ ?_
   ·rw[j8]; have:=aT hx hd; grind
   ·rw[j8]; have:=aT hy hd; grind
  ·by_cases e':j=i+1
   ·subst e';refine Ev.of fun x y hx hy=>eC (σ:=σ) ?_ ?_
    ·have m1:=aT hx hd';have:σ*tn (v (i+1)) (v (i+1+1)) (sm (cv (v i) (v (i+1)) (1/2)) d x)=1/2*(σ*tn (v i) (v (i+1)) (v (i+2)))+x*(σ*cr (v (i+1)) (v (i+2)) d):=by
      unfold tn sm cv cr; grind
     rw[this]; grind
    ·have m1:=aT hy hd';have:σ*tn (v (i+1)) (v (i+1+1)) (sm (cv (v i) (v (i+1)) 1) d y)=y*(σ*cr (v (i+1)) (v (i+2)) d):=by
      unfold tn sm cv cr; grind
     rw[this]; exact m1
   ·exact sf (S.off (by omega) hj e (by grind) (by grind) (by grind) (by grind) (fun h=>by omega) (fun _=>⟨by grind,by grind⟩)) d d
 have e2:Ev fun x y=>∀j,j<n→Sep (v j) (v (j+1)) (sm (cv (v (i+1)) (v (i+2)) (1/2)) d x) (sm (cv (v (i+1)) (v (i+2)) 0) d y):=by
  refine Ev.all fun j hj=>?_
  by_cases e:j=i+1
  ·subst e;refine Ev.of fun x y hx hy=>eC (σ:=σ) ?_ ?_
   ·rw[j8]; have:=aT hx hd'; grind
   ·rw[j8]; have:=aT hy hd'; grind
  ·by_cases e':j=i
   ·subst e';refine Ev.of fun x y hx hy=>eC (σ:=σ) ?_ ?_
    ·have m1:=aT hx hd;have:σ*tn (v j) (v (j+1)) (sm (cv (v (j+1)) (v (j+2)) (1/2)) d x)=1/2*(σ*tn (v j) (v (j+1)) (v (j+2)))+x*(σ*cr (v j) (v (j+1)) d):=by
      unfold tn sm cv cr; grind
     rw[this]; grind
    ·have m1:=aT hy hd;have:σ*tn (v j) (v (j+1)) (sm (cv (v (j+1)) (v (j+2)) 0) d y)=y*(σ*cr (v j) (v (j+1)) d):=by
      unfold tn sm cv cr; grind
     rw[this]; exact m1
   ·exact sf (S.off (i:=i+1) hi hj (Ne.symm e) (by grind) (by grind) (by grind) (by grind) (fun _=>⟨by grind,by grind⟩) (fun h=>by omega)) d d
 obtain⟨a,a0,ha⟩:=e1;obtain⟨b,b0,hb⟩:=e2;obtain⟨f,f0,hf⟩:=h (1/2) d (by grind) (by grind) hd
 obtain⟨g,g0,hg⟩:=h' (1/2) d (by grind) (by grind) hd'
 obtain⟨k,k0,ka,kb⟩:=dJ a0 b0;obtain⟨l,l0,lf,lg⟩:=dJ f0 g0;obtain⟨x,x0,xk,xl⟩:=dJ k0 l0;have w1:=wK S.cl (ha x x x0 (by grind) x0 (by grind))
 have w2:=wK S.cl (hb x x x0 (by grind) x0 (by grind))
 rw[hf x x0 (by grind)] at w1
 rw[hg x x0 (by grind)] at w2
 have e:cv (v i) (v (i+1)) 1=cv (v (i+1)) (v (i+2)) 0:=by unfold cv; exact Prod.ext (by grind) (by grind)
 rw[w1,w2,e]
theorem Simple.step (S:Simple n v) {i:Nat} (hi:i+1<n) {L L':Int} (h:HS n v 1 i L) (h':HS n v 1 (i+1) L'):L=L':=by
 have hne:=S.ne i (by omega)
 have ht:=S.qk i (by omega)
 have c1:cr (v i) (v (i+1)) ((v (i+2)).1-(v (i+1)).1-((v (i+1)).1-(v i).1),(v (i+2)).2-(v (i+1)).2-((v (i+1)).2-(v i).2))=tn (v i) (v (i+1)) (v (i+2)):=by unfold cr tn; grind
 have c2:cr (v (i+1)) (v (i+2)) ((v (i+2)).1-(v (i+1)).1-((v (i+1)).1-(v i).1),(v (i+2)).2-(v (i+1)).2-((v (i+1)).2-(v i).2))=tn (v i) (v (i+1)) (v (i+2)):=by unfold cr tn; grind
 by_cases h0:tn (v i) (v (i+1)) (v (i+2))=0
 ·have hd:0<dt (v i) (v (i+1)) (v (i+2)):=ht.resolve_left fun e=>e h0;have hl:=rT hne;refine S.wF (σ:=1) hi (d:=(-((v (i+1)).2-(v i).2),(v (i+1)).1-(v i).1)) ?_ ?_ (by rw[h0]; grind) h h'
  ·unfold cr; grind
  ·unfold dt at hd; unfold cr; grind
 ·by_cases hp:0<tn (v i) (v (i+1)) (v (i+2))
  ·exact S.wF (σ:=1) hi (by rw[c1]; grind) (by rw[c2]; grind) (by grind) h h'
  ·obtain⟨R,hR⟩:=S.hs (σ:=-1) (by grind) (i:=i) (by omega)
   obtain⟨R',hR'⟩:=S.hs (σ:=-1) (by grind) (i:=i+1) (by omega)
   have e:=S.wF (σ:=-1) hi (by rw[c1]; grind) (by rw[c2]; grind) (by grind) hR hR'
   have e1:=S.Ci (by omega) h hR
   have e2:=S.Ci hi h' hR';omega
theorem Simple.along (S:Simple n v):∃L:Int,∀i,i<n→HS n v 1 i L∧HS n v (-1) i (L-1):=by
 have hn3:=S.n3;obtain⟨L,hL⟩:=S.hs (σ:=1) (by grind) (i:=0) (by omega)
 have h1:∀i,i<n→HS n v 1 i L:=by
  intro i
  induction i with
  | zero=>intro _; exact hL
  | succ i ih =>
   intro hi;obtain⟨L',hL'⟩:=S.hs (σ:=1) (by grind) (i:=i+1) hi
   have:=S.step hi (ih (by omega)) hL'
   rw[this]; exact hL'
 refine⟨L,fun i hi=>⟨h1 i hi,?_⟩⟩;obtain⟨R,hR⟩:=S.hs (σ:=-1) (by grind) (i:=i) hi
 have:=S.Ci hi (h1 i hi) hR;rw[show L-1=R by omega]; exact hR
end
theorem kX {X:Nat→Rat} {P:Nat→Prop}:∀{n:Nat},(∃i,i<n∧P i)→∃i,i<n∧P i∧∀j,j<n→P j→X i≤X j
 | 0,h=>by obtain⟨i,h,_⟩:=h; omega
 | n+1,h=>by
  by_cases hn:∃i,i<n∧P i
  ·obtain⟨i,i1,i2,i3⟩:=kX (X:=X) hn
   by_cases hp:P n∧X n≤X i
   ·refine⟨n,by omega,hp.1,fun j hj hP=>?_⟩
    by_cases e:j=n
    ·subst e; grind
    ·have:=i3 j (by omega) hP; grind
   ·refine⟨i,by omega,i2,fun j hj hP=>?_⟩
    by_cases e:j=n
    ·subst e;have:¬X j≤X i:=fun h=>hp ⟨hP,h⟩
     grind
    ·exact i3 j (by omega) hP
  ·obtain⟨i,i1,i2⟩:=h;have:i=n:=Decidable.byContradiction fun e=>hn ⟨i,by omega,i2⟩
   subst this;refine⟨i,by omega,i2,fun j hj hP=>?_⟩
   by_cases e:j=i
   ·subst e; grind
   ·exact absurd ⟨j,by omega,hP⟩ hn
theorem uR {u w:P2} {y:Rat} (h:(u.2<y∧y<w.2)∨(w.2<y∧y<u.2)) :
  ∃t,0<t∧t<1∧(cv u w t).2=y∧∀q:P2,q.2=y→tn u w q=(w.2-u.2)*((cv u w t).1-q.1):=by
 have hD:w.2-u.2≠0:=by grind
 have hi:(w.2-u.2)*(w.2-u.2)⁻¹=1:=Rat.mul_inv_cancel _ hD;have ht:((y-u.2)*(w.2-u.2)⁻¹)*(w.2-u.2)=y-u.2:=by grind
 generalize (y-u.2)*(w.2-u.2)⁻¹=t at ht;have t0:0<t:=by
  refine Decidable.byContradiction fun hc=>?_;rcases h with h|h
  ·have:=bC (show 0≤-t by grind) (show 0≤w.2-u.2 by grind)
   grind
  ·have:=bC (show 0≤-t by grind) (show 0≤u.2-w.2 by grind)
   grind
 have t1:t<1:=by
  refine Decidable.byContradiction fun hc=>?_;rcases h with h|h
  ·have:=bC (show 0≤t-1 by grind) (show 0≤w.2-u.2 by grind)
   grind
  ·have:=bC (show 0≤t-1 by grind) (show 0≤u.2-w.2 by grind)
   grind
 refine⟨t,t0,t1,by unfold cv; grind,fun q hq=>?_⟩
 unfold tn cv;rw[hq]
 grind
section
variable {n : Nat} {v : Nat → P2}
def dd (u w:P2) (y:Rat):Int:=if u.2<y∧y<w.2 then 1 else if w.2<y∧y<u.2 then -1 else 0
theorem Be {u w:P2} {y:Rat} (hu:u.2≠y) (hw:w.2≠y):∃X:Rat,(∀q:P2,q.2=y→we u w q=if q.1<X then dd u w y else 0)∧(dd u w y≠0→∃t,0<t∧t<1∧cv u w t=(X,y)):=by
 by_cases h1:u.2<y∧y<w.2
 ·obtain⟨t,t0,t1,t2,t3⟩:=uR (.inl h1);refine⟨(cv u w t).1,fun q hq=>?_,fun _=>⟨t,t0,t1,Prod.ext rfl t2⟩⟩;unfold dd;rw[gF (by grind) (by grind),if_pos h1,t3 q hq]
  by_cases hx:q.1<(cv u w t).1
  ·rw[if_pos hx,if_pos (aT (by grind) (by grind))]
  ·rw[if_neg hx,if_neg];have:=cd (show 0≤w.2-u.2 by grind) (show(cv u w t).1-q.1≤0 by grind)
   grind
 ·by_cases h2:w.2<y∧y<u.2
  ·obtain⟨t,t0,t1,t2,t3⟩:=uR (.inr h2);refine⟨(cv u w t).1,fun q hq=>?_,fun _=>⟨t,t0,t1,Prod.ext rfl t2⟩⟩;unfold dd;rw[iI w u,gF (by grind) (by grind),if_neg h1,if_pos h2,gG u w,t3 q hq]
   by_cases hx:q.1<(cv u w t).1
   ·have:=aT (show 0<u.2-w.2 by grind) (show 0<(cv u w t).1-q.1 by grind)
    rw[if_pos hx,if_pos (by grind)]
   ·have:=cd (show 0≤u.2-w.2 by grind) (show(cv u w t).1-q.1≤0 by grind)
    rw[if_neg hx,if_neg (by grind)]; rfl
  ·have e:dd u w y=0:=by unfold dd; rw[if_neg h1,if_neg h2]
   refine⟨0,fun q hq=>?_,fun h=>absurd e h⟩;rw[e,ite_self,dF (by grind) (by grind)]
end
abbrev I2:=Int × Int
def ti (a b c:I2):Int:=(b.1-a.1)*(c.2-a.2)-(b.2-a.2)*(c.1-a.1)
def ca (a:I2):P2:=((a.1:Rat),(a.2:Rat))
theorem ki (a b c:I2):tn (ca a) (ca b) (ca c)=((ti a b c:Int):Rat):=by
 unfold tn ca ti;simp only[Rat.intCast_sub,Rat.intCast_mul]
theorem dn {x y:Int}:(x:Rat)<(y:Rat)↔x<y:=Rat.intCast_lt_intCast
theorem xu {x y:Int}:(x:Rat)≤(y:Rat)↔x≤y:=Rat.intCast_le_intCast
theorem fL {x:Int}:(0:Rat)<(x:Rat)↔0<x:=by
 have:=@dn 0 x
 simpa using this
theorem lz {x:Int}:(x:Rat)<0↔x<0:=by
 have:=@dn x 0
 simpa using this
theorem dD (a b p:I2):ti b a p = -ti a b p:=by unfold ti; grind
theorem kD (a b:I2):ti a b a=0:=by unfold ti; grind
theorem kM (a b:I2):ti a b b=0:=by unfold ti; grind
theorem sC (a b c d:I2):ti a b d-ti a b c=ti c d a-ti c d b:=by unfold ti; grind
def bE (a b p:I2):Prop:=ti a b p=0∧min a.1 b.1≤p.1∧p.1≤max a.1 b.1∧min a.2 b.2≤p.2∧p.2≤max a.2 b.2
instance (a b p:I2):Decidable (bE a b p):=by unfold bE; infer_instance
theorem bE.swap {a b p:I2} (h:bE a b p):bE b a p:=by
 obtain⟨h1,h2⟩:=h;exact⟨by rw[dD,h1]; rfl,by omega⟩
theorem p9 {a b p:I2}:bE a b p↔bE b a p:=⟨bE.swap,bE.swap⟩
theorem j7 (a b:I2):bE a b a:=⟨kD a b,by omega⟩
theorem pE (a b:I2):bE a b b:=⟨kM a b,by omega⟩
theorem xZ {a b p:I2} (h:a.1<b.1):bE a b p↔ti a b p=0∧a.1≤p.1∧p.1≤b.1:=by
 refine⟨fun⟨h1,h2⟩=>⟨h1,by omega⟩,fun⟨h1,h2,h3⟩=>⟨h1,by omega,by omega,?_,?_⟩⟩
 all_goals
  unfold ti at h1;have e1:(b.1-a.1)*(p.2-a.2)=(b.2-a.2)*(p.1-a.1):=by omega
  have e2:(b.1-a.1)*(b.2-p.2)=(b.2-a.2)*(b.1-p.1):=by grind
  by_cases hy:a.2≤b.2
  ·have m1:0≤(b.1-a.1)*(p.2-a.2):=by rw[e1]; exact Int.mul_nonneg (by omega) (by omega)
   have m2:0≤(b.1-a.1)*(b.2-p.2):=by rw[e2]; exact Int.mul_nonneg (by omega) (by omega)
   have k1:=Int.nonneg_of_mul_nonneg_right m1 (by omega)
   have k2:=Int.nonneg_of_mul_nonneg_right m2 (by omega)
   omega
  ·have m1:0≤(b.1-a.1)*(a.2-p.2):=by
    rw[show(b.1-a.1)*(a.2-p.2)=(a.2-b.2)*(p.1-a.1) by grind]; exact Int.mul_nonneg (by omega) (by omega)
   have m2:0≤(b.1-a.1)*(p.2-b.2):=by
    rw[show(b.1-a.1)*(p.2-b.2)=(a.2-b.2)*(b.1-p.1) by grind]; exact Int.mul_nonneg (by omega) (by omega)
   have k1:=Int.nonneg_of_mul_nonneg_right m1 (by omega)
   have k2:=Int.nonneg_of_mul_nonneg_right m2 (by omega)
   omega
theorem CN {a b p:I2} (h:a.1=b.1) (hab:a≠b):bE a b p↔p.1=a.1∧min a.2 b.2≤p.2∧p.2≤max a.2 b.2:=by
 have hy:a.2≠b.2:=fun e=>hab (Prod.ext h e);refine⟨fun⟨_,h2⟩=>by omega,fun⟨h1,h2⟩=>⟨?_,by omega⟩⟩
 unfold ti;rw[h1,←h]; grind
theorem lh {a b p:I2} (h:a.1=b.1) (hab:a≠b) (h0:ti a b p=0):p.1=a.1:=by
 have hy:b.2-a.2≠0:=fun e=>hab (Prod.ext h (by omega))
 unfold ti at h0;rw[h,Int.sub_self,Int.zero_mul] at h0;have:(b.2-a.2)*(p.1-b.1)=0:=by omega
 rcases Int.mul_eq_zero.1 this with e|e
 ·exact absurd e hy
 ·omega
theorem lA {a b p q:I2} (h:a.1≠b.1) (hp:ti a b p=0) (hq:ti a b q=0) (e:p.1=q.1):p=q:=by
 have:(b.1-a.1)*(p.2-q.2)=0:=by unfold ti at hp hq; rw[e] at hp; grind
 rcases Int.mul_eq_zero.1 this with e' | e'
 ·omega
 ·exact Prod.ext e (by omega)
def Lx (a b:I2):Prop:=a.1<b.1∨a.1=b.1∧a.2≤b.2
theorem G7 {a b p:I2} (hab:a≠b) (h:Lx a b):bE a b p↔ti a b p=0∧Lx a p∧Lx p b:=by
 unfold Lx at *
 by_cases hx:a.1<b.1
 ·rw[xZ hx];refine⟨fun⟨h1,h2,h3⟩=>⟨h1,?_,?_⟩,fun⟨h1,h2,h3⟩=>⟨h1,by omega,by omega⟩⟩
  ·by_cases e:p.1=a.1
   ·have:=lA (by omega) h1 (kD a b) e
    rw[this]; omega
   ·omega
  ·by_cases e:p.1=b.1
   ·have:=lA (by omega) h1 (kM a b) e
    rw[this]; omega
   ·omega
 ·have e:a.1=b.1:=by omega
  rw[CN e hab];refine⟨fun⟨h1,h2⟩=>⟨?_,by omega,by omega⟩,fun⟨h1,h2,h3⟩=>?_⟩
  ·unfold ti; rw[h1,←e]; grind
  ·have:=lh e hab h1;omega
theorem jN {a b c d:I2} (_:a≠b) (hc:ti a b c=0) (hn:¬bE a b c) (hd:ti a b d≠0):(0<ti c d a∧0<ti c d b)∨(ti c d a<0∧ti c d b<0):=by
 have four:=sC a b c d;have key:∀A B s t:Int,s*B=A*t→0<A*B→s-t≠0→(0<s∧0<t)∨(s<0∧t<0):=by
  intro A B s t e hAB hst;have hB:B≠0:=fun h=>by rw[h,Int.mul_zero] at hAB; omega
  have hA:A≠0:=fun h=>by rw[h,Int.zero_mul] at hAB; omega
  have ht:t≠0:=fun h=>by
   rw[h,Int.mul_zero] at e;rcases Int.mul_eq_zero.1 e with h' | h'
   ·omega
   ·exact hB h'
  have hs:s≠0:=fun h=>by
   rw[h,Int.zero_mul] at e;rcases Int.mul_eq_zero.1 e.symm with h' | h'
   ·exact hA h'
   ·exact ht h'
  have hp:0<s*t:=by
   have e2:s*t*(B*B)=(A*B)*(t*t):=by
    rw[show s*t*(B*B)=(s*B)*(t*B) by grind,e]; grind
   have h1:0<(A*B)*(t*t):=Int.mul_pos hAB (by
    rcases Int.lt_or_lt_of_ne ht with h|h
    ·exact Int.mul_pos_of_neg_of_neg h h
    ·exact Int.mul_pos h h)
   rw[←e2] at h1;have h2:0<B*B:=by
    rcases Int.lt_or_lt_of_ne hB with h|h
    ·exact Int.mul_pos_of_neg_of_neg h h
    ·exact Int.mul_pos h h
   exact Int.pos_of_mul_pos_left h1 h2
  rcases Int.lt_or_lt_of_ne hs with h|h
  ·right
   refine⟨h,?_⟩;refine Decidable.byContradiction fun hc=>?_;have:=Int.mul_pos (show 0 < -s by omega) (show 0<t by omega)
   rw[Int.neg_mul] at this;omega
  ·left
   refine⟨h,?_⟩;refine Decidable.byContradiction fun hc=>?_;have:=Int.mul_pos h (show 0 < -t by omega)
   rw[Int.mul_neg] at this;omega
 have hst:ti c d a-ti c d b≠0:=by omega
 have e0:(a.1-c.1)*(b.2-c.2)=(a.2-c.2)*(b.1-c.1):=by unfold ti at hc; grind
 have ex:ti c d a*(b.1-c.1)=(a.1-c.1)*ti c d b:=by
  unfold ti;generalize d.1-c.1=x at *;generalize d.2-c.2=y at *;generalize a.1-c.1=A at *;generalize b.1-c.1=B at *;generalize a.2-c.2=C at *;generalize b.2-c.2=D at *
  grind
 have ey:ti c d a*(b.2-c.2)=(a.2-c.2)*ti c d b:=by
  unfold ti;generalize d.1-c.1=x at *;generalize d.2-c.2=y at *;generalize a.1-c.1=A at *;generalize b.1-c.1=B at *;generalize a.2-c.2=C at *;generalize b.2-c.2=D at *
  grind
 have hout:0<(a.1-c.1)*(b.1-c.1)∨0<(a.2-c.2)*(b.2-c.2):=by
  refine Decidable.byContradiction fun hh=>hn ⟨hc,?_⟩;have pos:∀{x y:Int},0<x→0<y→0<x*y:=Int.mul_pos;have neg:∀{x y:Int},x<0→y<0→0<x*y:=Int.mul_pos_of_neg_of_neg;have n1:¬(0<a.1-c.1∧0<b.1-c.1):=fun h=>hh (.inl (pos h.1 h.2));have n2:¬(a.1-c.1<0∧b.1-c.1<0):=fun h=>hh (.inl (neg h.1 h.2));have n3:¬(0<a.2-c.2∧0<b.2-c.2):=fun h=>hh (.inr (pos h.1 h.2));have n4:¬(a.2-c.2<0∧b.2-c.2<0):=fun h=>hh (.inr (neg h.1 h.2));omega
 rcases hout with h|h
 ·exact key _ _ _ _ ex h hst
 ·exact key _ _ _ _ ey h hst
def gH (a b c d x:I2):Prop:=(x=a∨x=b∨x=c∨x=d)∧bE a b x∧bE c d x
def low (a b c d:I2):Int:=if a.1=b.1 then max (min a.2 b.2) (min c.2 d.2)-min (max a.2 b.2) (max c.2 d.2) else max (min a.1 b.1) (min c.1 d.1)-min (max a.1 b.1) (max c.1 d.1)
theorem Dx {a b c d:I2} (hab:a≠b) (hcd:c≠d) (hc:ti a b c=0) (hd:ti a b d=0):∃f:I2→Int,low a b c d=max (min (f a) (f b)) (min (f c) (f d))-min (max (f a) (f b)) (max (f c) (f d)) ∧
  (∀x y,ti a b x=0→ti a b y=0→f x=f y→x=y)∧(∀x,bE a b x↔ti a b x=0∧min (f a) (f b)≤f x∧f x≤max (f a) (f b))∧(∀x,ti a b x=0→(bE c d x↔min (f c) (f d)≤f x∧f x≤max (f c) (f d))):=by
 by_cases h:a.1=b.1
 ·have h3:=lh h hab hc;have h4:=lh h hab hd;refine⟨fun x=>x.2,by unfold low; rw[if_pos h],fun x y hx hy e=>Prod.ext ((lh h hab hx).trans (lh h hab hy).symm) e,fun x=>?_,fun x hx=>?_⟩
  ·rw[CN h hab];refine⟨fun⟨h0,h1⟩=>⟨?_,h1⟩,fun⟨h0,h1⟩=>⟨lh h hab h0,h1⟩⟩;unfold ti; rw[h0,←h]; grind
  ·rw[CN (by omega) hcd]
   have:=lh h hab hx;exact⟨fun h=>h.2,fun h=>⟨by omega,h⟩⟩
 ·have h2:c.1≠d.1:=fun e=>hcd (lA h hc hd e);have dir:∀x,ti a b x=0→ti c d x=0:=fun x hx=>by
   have e0:(b.1-a.1)*(c.2-a.2)=(b.2-a.2)*(c.1-a.1):=by unfold ti at hc; omega
   have e1:(b.1-a.1)*(d.2-a.2)=(b.2-a.2)*(d.1-a.1):=by unfold ti at hd; omega
   have e2:(b.1-a.1)*(x.2-a.2)=(b.2-a.2)*(x.1-a.1):=by unfold ti at hx; omega
   have:(b.1-a.1)*ti c d x=0:=by
    unfold ti;have:(b.1-a.1)*((d.1-c.1)*(x.2-c.2)-(d.2-c.2)*(x.1-c.1))=(d.1-c.1)*((b.1-a.1)*(x.2-a.2)-(b.1-a.1)*(c.2-a.2))-((b.1-a.1)*(d.2-a.2)-(b.1-a.1)*(c.2-a.2))*(x.1-c.1):=by grind
    rw[this,e0,e1,e2]; grind
   rcases Int.mul_eq_zero.1 this with e|e
   ·omega
   ·exact e
  have gen:∀{u w:I2},u.1≠w.1→∀x,(bE u w x↔ti u w x=0∧min u.1 w.1≤x.1∧x.1≤max u.1 w.1):=fun {u w} huw x=>by
   by_cases hl:u.1<w.1
   ·rw[xZ hl]; refine⟨fun⟨h0,h1⟩=>⟨h0,by omega⟩,fun⟨h0,h1⟩=>⟨h0,by omega⟩⟩
   ·rw[p9,xZ (by omega),dD]; refine⟨fun⟨h0,h1⟩=>⟨by omega,by omega⟩,fun⟨h0,h1⟩=>⟨by omega,by omega⟩⟩
  refine⟨fun x=>x.1,by unfold low; rw[if_neg h],fun x y hx hy e=>lA h hx hy e,gen h,fun x hx=>?_⟩
  rw[gen h2];exact⟨fun h=>h.2,fun h=>⟨dir x hx,h⟩⟩
theorem o9 {a b c d:I2} (hab:a≠b) (hcd:c≠d) (hc:ti a b c=0) (hd:ti a b d=0) :
  (0<low a b c d↔∀x,¬gH a b c d x)∧(low a b c d<0↔∃x y,gH a b c d x∧gH a b c d y∧x≠y):=by
 obtain⟨f,e,hi,h1,h2⟩:=Dx hab hcd hc hd;have ha0:=kD a b;have hb0:=kM a b;have hfab:f a≠f b:=fun h=>hab (hi a b ha0 hb0 h);have hfcd:f c≠f d:=fun h=>hcd (hi c d hc hd h);have Dq:∀x,gH a b c d x↔(x=a∨x=b∨x=c∨x=d)∧(min (f a) (f b)≤f x∧f x≤max (f a) (f b))∧(min (f c) (f d)≤f x∧f x≤max (f c) (f d)):=fun x=>by
  unfold gH;refine⟨fun⟨h,g1,g2⟩=>⟨h,((h1 x).1 g1).2,(h2 x ((h1 x).1 g1).1).1 g2⟩,fun⟨h,g1,g2⟩=>?_⟩;have hx:ti a b x=0:=by rcases h with rfl|rfl|rfl|rfl<;>assumption
  exact⟨h,(h1 x).2 ⟨hx,g1⟩,(h2 x hx).2 g2⟩
 rw[e];have lo:∃x,(x=a∨x=b∨x=c∨x=d)∧f x=max (min (f a) (f b)) (min (f c) (f d)):=by
  by_cases g1:f a≤f b<;>by_cases g2:f c≤f d
  ·by_cases g3:f a≤f c
   ·exact⟨c,by simp,by omega⟩
   ·exact⟨a,by simp,by omega⟩
  ·by_cases g3:f a≤f d
   ·exact⟨d,by simp,by omega⟩
   ·exact⟨a,by simp,by omega⟩
  ·by_cases g3:f b≤f c
   ·exact⟨c,by simp,by omega⟩
   ·exact⟨b,by simp,by omega⟩
  ·by_cases g3:f b≤f d
   ·exact⟨d,by simp,by omega⟩
   ·exact⟨b,by simp,by omega⟩
 have hi':∃x,(x=a∨x=b∨x=c∨x=d)∧f x=min (max (f a) (f b)) (max (f c) (f d)):=by
  by_cases g1:f a≤f b<;>by_cases g2:f c≤f d
  ·by_cases g3:f b≤f d
   ·exact⟨b,by simp,by omega⟩
   ·exact⟨d,by simp,by omega⟩
  ·by_cases g3:f b≤f c
   ·exact⟨b,by simp,by omega⟩
   ·exact⟨c,by simp,by omega⟩
  ·by_cases g3:f a≤f d
   ·exact⟨a,by simp,by omega⟩
   ·exact⟨d,by simp,by omega⟩
  ·by_cases g3:f a≤f c
   ·exact⟨a,by simp,by omega⟩
   ·exact⟨c,by simp,by omega⟩
 obtain⟨x,x1,x2⟩:=lo;obtain⟨y,y1,y2⟩:=hi';constructor
 ·refine⟨fun h z hz=>?_,fun h=>?_⟩
  ·have:=(Dq z).1 hz;omega
  ·refine Decidable.byContradiction fun hc=>h x ((Dq x).2 ⟨x1,by omega,by omega⟩)
 ·refine⟨fun h=>⟨x,y,(Dq x).2 ⟨x1,by omega,by omega⟩,(Dq y).2 ⟨y1,by omega,by omega⟩,fun e=>by rw[e] at x2; omega⟩,fun⟨z,w,hz,hw,hne⟩=>?_⟩
  refine Decidable.byContradiction fun hc=>hne (hi z w ?_ ?_ ?_)
  ·exact hz.2.1.1
  ·exact hw.2.1.1
  ·have:=(Dq z).1 hz;have:=(Dq w).1 hw;omega
theorem DL {a b c d:I2} (hcd:c≠d) (h:¬(ti a b c=0∧ti a b d=0)) {x y:I2} (hx:bE a b x∧bE c d x) (hy:bE a b y∧bE c d y):x=y:=by
 obtain⟨⟨a1,_⟩,⟨a2,_⟩⟩:=hx;obtain⟨⟨b1,_⟩,⟨b2,_⟩⟩:=hy;have hk:(b.1-a.1)*(d.2-c.2)-(b.2-a.2)*(d.1-c.1)≠0:=fun e=>by
  have e1:ti a b d-ti a b c=0:=by
   have:ti a b d-ti a b c=(b.1-a.1)*(d.2-c.2)-(b.2-a.2)*(d.1-c.1):=by unfold ti; grind
   omega
  have e2:(d.1-c.1)*ti a b c=0:=by
   have t:(d.1-c.1)*ti a b c=(d.1-c.1)*ti a b x-(b.1-a.1)*ti c d x-(x.1-c.1)*((b.1-a.1)*(d.2-c.2)-(b.2-a.2)*(d.1-c.1)):=by unfold ti; grind
   rw[t,a1,a2,e]; simp
  have e3:(d.2-c.2)*ti a b c=0:=by
   have t:(d.2-c.2)*ti a b c=(d.2-c.2)*ti a b x-(b.2-a.2)*ti c d x-(x.2-c.2)*((b.1-a.1)*(d.2-c.2)-(b.2-a.2)*(d.1-c.1)):=by unfold ti; grind
   rw[t,a1,a2,e]; simp
  have h0:ti a b c=0:=by
   rcases Int.mul_eq_zero.1 e2 with g|g
   ·rcases Int.mul_eq_zero.1 e3 with g' | g'
    ·exact absurd (Prod.ext (by omega) (by omega)) hcd
    ·exact g'
   ·exact g
  exact h ⟨h0,by omega⟩
 have f1:((b.1-a.1)*(d.2-c.2)-(b.2-a.2)*(d.1-c.1))*(x.1-y.1)=0:=by
  have t:((b.1-a.1)*(d.2-c.2)-(b.2-a.2)*(d.1-c.1))*(x.1-y.1)=(d.1-c.1)*(ti a b x-ti a b y)-(b.1-a.1)*(ti c d x-ti c d y):=by unfold ti; grind
  rw[t,a1,a2,b1,b2]; simp
 have f2:((b.1-a.1)*(d.2-c.2)-(b.2-a.2)*(d.1-c.1))*(x.2-y.2)=0:=by
  have t:((b.1-a.1)*(d.2-c.2)-(b.2-a.2)*(d.1-c.1))*(x.2-y.2)=(d.2-c.2)*(ti a b x-ti a b y)-(b.2-a.2)*(ti c d x-ti c d y):=by unfold ti; grind
  rw[t,a1,a2,b1,b2]; simp
 refine Prod.ext ?_ ?_
 ·rcases Int.mul_eq_zero.1 f1 with g|g
  ·exact absurd g hk
  ·omega
 ·rcases Int.mul_eq_zero.1 f2 with g|g
  ·exact absurd g hk
  ·omega
theorem pj {a b c d:I2} (hab:a≠b) (hcd:c≠d) (hn:∀x,¬gH a b c d x)
  (hx:¬(((0<ti a b c∧ti a b d<0)∨(ti a b c<0∧0<ti a b d))∧((0<ti c d a∧ti c d b<0)∨(ti c d a<0∧0<ti c d b)))):Sep (ca a) (ca b) (ca c) (ca d):=by
 have na:¬bE c d a:=fun h=>hn a ⟨.inl rfl,j7 a b,h⟩;have nb:¬bE c d b:=fun h=>hn b ⟨.inr (.inl rfl),pE a b,h⟩;have nc:¬bE a b c:=fun h=>hn c ⟨.inr (.inr (.inl rfl)),h,j7 c d⟩;have nd:¬bE a b d:=fun h=>hn d ⟨.inr (.inr (.inr rfl)),h,pE c d⟩;have byab:(0<ti a b c∧0<ti a b d)∨(ti a b c<0∧ti a b d<0)→Sep (ca a) (ca b) (ca c) (ca d):=by
  rintro(⟨h1,h2⟩|⟨h1,h2⟩)
  ·exact eC (σ:=1) (by rw[ki]; have:=fL.2 h1; grind) (by rw[ki]; have:=fL.2 h2; grind)
  ·exact eC (σ:=-1) (by rw[ki]; have:=lz.2 h1; grind) (by rw[ki]; have:=lz.2 h2; grind)
 have bycd:(0<ti c d a∧0<ti c d b)∨(ti c d a<0∧ti c d b<0)→Sep (ca a) (ca b) (ca c) (ca d):=by
  intro h;have h':Sep (ca c) (ca d) (ca a) (ca b):=by
   rcases h with⟨h1,h2⟩|⟨h1,h2⟩
   ·exact eC (σ:=1) (by rw[ki]; have:=fL.2 h1; grind) (by rw[ki]; have:=fL.2 h2; grind)
   ·exact eC (σ:=-1) (by rw[ki]; have:=lz.2 h1; grind) (by rw[ki]; have:=lz.2 h2; grind)
  obtain⟨α,β,γ,g1,g2,g3,g4⟩:=h';exact⟨-α,-β,-γ,by unfold af at *; grind,by unfold af at *; grind,by unfold af at *; grind,by unfold af at *; grind⟩
 have four:=sC a b c d
 by_cases hc:ti a b c=0
 ·by_cases hd:ti a b d=0
  ·
   have hl:=(o9 hab hcd hc hd).1.2 hn;unfold low at hl;have split:∀{x1 x2 x3 x4:Int},0<max (min x1 x2) (min x3 x4)-min (max x1 x2) (max x3 x4)→(x1<x3∧x1<x4∧x2<x3∧x2<x4)∨(x3<x1∧x4<x1∧x3<x2∧x4<x2):=by
    intro x1 x2 x3 x4 h; omega
   split at hl
   ·rcases split hl with⟨h1,h2,h3,h4⟩|⟨h1,h2,h3,h4⟩
    ·have h1:=dn.2 h1; have h2:=dn.2 h2; have h3:=dn.2 h3; have h4:=dn.2 h4
     by_cases hm:(a.2:Rat)≤(b.2:Rat)
     ·refine kJ 0 (-1) (b.2:Rat) ?_ ?_ ?_ ?_<;>(unfold af ca; grind)
     ·refine kJ 0 (-1) (a.2:Rat) ?_ ?_ ?_ ?_<;>(unfold af ca; grind)
    ·have h1:=dn.2 h1; have h2:=dn.2 h2; have h3:=dn.2 h3; have h4:=dn.2 h4
     by_cases hm:(a.2:Rat)≤(b.2:Rat)
     ·refine kJ 0 1 (-(a.2:Rat)) ?_ ?_ ?_ ?_<;>(unfold af ca; grind)
     ·refine kJ 0 1 (-(b.2:Rat)) ?_ ?_ ?_ ?_<;>(unfold af ca; grind)
   ·rcases split hl with⟨h1,h2,h3,h4⟩|⟨h1,h2,h3,h4⟩
    ·have h1:=dn.2 h1; have h2:=dn.2 h2; have h3:=dn.2 h3; have h4:=dn.2 h4
     by_cases hm:(a.1:Rat)≤(b.1:Rat)
     ·refine kJ (-1) 0 (b.1:Rat) ?_ ?_ ?_ ?_<;>(unfold af ca; grind)
     ·refine kJ (-1) 0 (a.1:Rat) ?_ ?_ ?_ ?_<;>(unfold af ca; grind)
    ·have h1:=dn.2 h1; have h2:=dn.2 h2; have h3:=dn.2 h3; have h4:=dn.2 h4
     by_cases hm:(a.1:Rat)≤(b.1:Rat)
     ·refine kJ 1 0 (-(a.1:Rat)) ?_ ?_ ?_ ?_<;>(unfold af ca; grind)
     ·refine kJ 1 0 (-(b.1:Rat)) ?_ ?_ ?_ ?_<;>(unfold af ca; grind)
  ·exact bycd (jN hab hc nc hd)
 ·by_cases hd:ti a b d=0
  ·have:=jN (c:=d) (d:=c) hab hd nd hc;rw[dD c d,dD c d] at this;exact bycd (by omega)
  ·by_cases ha:ti c d a=0
   ·by_cases hb:ti c d b=0
    ·
     exact byab (by omega)
    ·have:=jN (a:=c) (b:=d) (c:=a) (d:=b) hcd ha na hb;exact byab this
   ·by_cases hb:ti c d b=0
    ·have:=jN (a:=c) (b:=d) (c:=b) (d:=a) hcd hb nb ha;rw[dD a b,dD a b] at this;exact byab (by omega)
    ·by_cases h1:(0<ti a b c∧0<ti a b d)∨(ti a b c<0∧ti a b d<0)
     ·exact byab h1
     ·exact bycd (by omega)
def di (a b c:I2):Int:=(b.1-a.1)*(c.1-b.1)+(b.2-a.2)*(c.2-b.2)
def NM (a b c d:I2):Prop:=(∀x,¬gH a b c d x)∧¬(((0<ti a b c∧ti a b d<0)∨(ti a b c<0∧0<ti a b d))∧((0<ti c d a∧ti c d b<0)∨(ti c d a<0∧0<ti c d b)))
def nx (r:List I2) (i:Nat):I2:=r.getD (i%r.length) (0,0)
structure VR (r:List I2):Prop where
 n3:2<r.length
 still:∀i,nx r i≠nx r (i+1)
 kg:∀i,¬(ti (nx r i) (nx r (i+1)) (nx r (i+2))=0∧di (nx r i) (nx r (i+1)) (nx r (i+2))<0)
 meet:∀j i,j+1<i→i<r.length→¬(j=0∧i+1=r.length)→NM (nx r j) (nx r (j+1)) (nx r i) (nx r (i+1))
theorem GS {a b:I2} (h:ca a=ca b):a=b:=by
 unfold ca at h;have h1:=Rat.intCast_inj.1 (congrArg Prod.fst h);have h2:=Rat.intCast_inj.1 (congrArg Prod.snd h);exact Prod.ext h1 h2
theorem Sep.symm {a b p q:P2} (h:Sep a b p q):Sep p q a b:=by
 obtain⟨α,β,γ,g1,g2,g3,g4⟩:=h;exact⟨-α,-β,-γ,by unfold af at *; grind,by unfold af at *; grind,by unfold af at *; grind,by unfold af at *; grind⟩
theorem qc {x:Int}:0≤x*x:=by
 rcases Int.le_total 0 x with h|h
 ·exact Int.mul_nonneg h h
 ·exact Int.mul_nonneg_of_nonpos_of_nonpos h h
theorem z6 {x:Int} (h:x*x=0):x=0:=by
 rcases Int.mul_eq_zero.1 h with h|h<;>exact h
theorem Cs {a b c:I2} (hab:a≠b) (hbc:b≠c) (h0:ti a b c=0) (h:¬di a b c<0):0<di a b c:=by
 refine Decidable.byContradiction fun hc=>?_;have hd:di a b c=0:=by omega
 have e1:(b.1-a.1)*(c.2-b.2)-(b.2-a.2)*(c.1-b.1)=0:=by rw[←h0]; unfold ti; grind
 unfold di at hd;generalize hx:b.1-a.1=x at *;generalize hy:b.2-a.2=y at *;generalize hz:c.1-b.1=z at *;generalize hw:c.2-b.2=w at *;have f1:(x*x+y*y)*z=0:=by
  have:(x*x+y*y)*z=x*(x*z+y*w)-y*(x*w-y*z):=by grind
  rw[this,hd,e1]; simp
 have f2:(x*x+y*y)*w=0:=by
  have:(x*x+y*y)*w=y*(x*z+y*w)+x*(x*w-y*z):=by grind
  rw[this,hd,e1]; simp
 have hp:x*x+y*y≠0:=fun e=>by
  have s1:=@qc x;have s2:=@qc y;have g1:=z6 (show x*x=0 by omega)
  have g2:=z6 (show y*y=0 by omega)
  exact hab (Prod.ext (by omega) (by omega))
 refine hbc (Prod.ext ?_ ?_)
 ·rcases Int.mul_eq_zero.1 f1 with e|e
  ·exact absurd e hp
  ·omega
 ·rcases Int.mul_eq_zero.1 f2 with e|e
  ·exact absurd e hp
  ·omega
theorem VR.simple {r:List I2} (h:VR r):Simple r.length fun i=>ca (nx r i):=by
 have hn:=h.n3;have per:∀i,nx r (i+r.length)=nx r i:=fun i=>by unfold nx; rw[Nat.add_mod_right]
 refine⟨hn,?_,?_,fun i _ e=>h.still i (GS e),fun i _=>?_,fun i j hi hj h1 h2 h3 h4 h5=>?_⟩
 ·show ca (nx r r.length)=ca (nx r 0)
  have:=per 0;rw[Nat.zero_add] at this;rw[this]
 ·show ca (nx r (r.length+1))=ca (nx r 1)
  rw[Nat.add_comm,per]
 ·have e:dt (ca (nx r i)) (ca (nx r (i+1))) (ca (nx r (i+2)))=((di (nx r i) (nx r (i+1)) (nx r (i+2)):Int):Rat):=by
   unfold dt ca di;simp only[Rat.intCast_sub,Rat.intCast_mul,Rat.intCast_add]
  by_cases h0:ti (nx r i) (nx r (i+1)) (nx r (i+2))=0
  ·right
   show 0<dt (ca (nx r i)) (ca (nx r (i+1))) (ca (nx r (i+2)))
   rw[e,fL];exact Cs (h.still i) (h.still (i+1)) h0 fun hd=>h.kg i ⟨h0,hd⟩
  ·left
   show tn (ca (nx r i)) (ca (nx r (i+1))) (ca (nx r (i+2)))≠0
   rw[ki];exact fun e=>h0 (by have:=Rat.intCast_inj (a:=ti (nx r i) (nx r (i+1)) (nx r (i+2))) (b:=0); simpa using e)
 ·by_cases hl:i<j
  ·have m:=h.meet i j (by omega) hj (by omega)
   exact pj (h.still i) (h.still j) m.1 m.2
  ·have m:=h.meet j i (by omega) hi (by omega)
   exact(pj (h.still j) (h.still i) m.1 m.2).symm
def wi (a b p:I2):Int:=if a.2≤p.2∧p.2<b.2∧0<ti a b p then 1 else if b.2≤p.2∧p.2<a.2∧ti a b p<0 then -1 else 0
theorem jH {a b p:I2} (h:(a.2≤p.2∧p.2<b.2)∨(b.2≤p.2∧p.2<a.2)) (h0:ti a b p=0):bE a b p:=by
 have sw:∀{a b p:I2},a.2<b.2→a.2≤p.2→p.2≤b.2→ti a b p=0→bE a b p:=by
  intro a b p h1 h2 h3 h0;have h0':ti (a.2,a.1) (b.2,b.1) (p.2,p.1)=0:=by unfold ti at *; grind
  have:=(xZ (a:=(a.2,a.1)) (b:=(b.2,b.1)) (p:=(p.2,p.1)) h1).2 ⟨h0',h2,h3⟩;exact⟨h0,this.2.2.2.1,this.2.2.2.2,this.2.1,this.2.2.1⟩
 rcases h with h|h
 ·exact sw (by omega) (by omega) (by omega) h0
 ·exact(sw (a:=b) (b:=a) (by omega) (by omega) (by omega) (by rw[dD,h0]; rfl)).swap
def dh (r:List I2) (p:I2):Int:=aD r.length fun i=>wi (nx r i) (nx r (i+1)) p
theorem B0 (a b p:I2):wi a b p=0∨wi a b p=1∨wi a b p = -1:=by
 unfold wi
 split
 ·omega
 ·split<;>omega
def qR (a b c d:I2):Prop:=((0<ti a b c∧ti a b d<0)∨(ti a b c<0∧0<ti a b d))∧((0<ti c d a∧ti c d b<0)∨(ti c d a<0∧0<ti c d b))
def CU (a b c d:I2):Prop:=ti a b c=0∧ti a b d=0
section
variable {a b c d : I2}
theorem Dj (hab:a≠b) (hcd:c≠d):(∃x y,gH a b c d x∧gH a b c d y∧x≠y)↔CU a b c d∧low a b c d<0:=by
 by_cases h:CU a b c d
 ·have:=(o9 hab hcd h.1 h.2).2;exact⟨fun g=>⟨h,this.2 g⟩,fun g=>this.1 g.2⟩
 ·exact⟨fun⟨x,y,hx,hy,hne⟩=>absurd (DL hcd h hx.2 hy.2) hne,fun g=>absurd g.1 h⟩
theorem BI (hab:a≠b) (hcd:c≠d):(∃x,gH a b c d x)↔(CU a b c d∧low a b c d≤0)∨(¬CU a b c d∧(bE a b c∨bE a b d∨bE c d a∨bE c d b)):=by
 by_cases h:CU a b c d
 ·have:=(o9 hab hcd h.1 h.2).1;constructor
  ·rintro⟨x,hx⟩;refine .inl ⟨h,?_⟩;refine Decidable.byContradiction fun hc=>?_;exact this.1 (by omega) x hx
  ·rintro(⟨_,g⟩|⟨g,_⟩)
   ·refine Classical.byContradiction fun hc=>?_;have:=this.2 fun x hx=>hc ⟨x,hx⟩;omega
   ·exact absurd h g
 ·constructor
  ·rintro⟨x,h1,h2,h3⟩;refine .inr ⟨h,?_⟩;rcases h1 with rfl|rfl|rfl|rfl
   ·exact .inr (.inr (.inl h3))
   ·exact .inr (.inr (.inr h3))
   ·exact .inl h2
   ·exact .inr (.inl h2)
  ·rintro(⟨g,_⟩|⟨_,g⟩)
   ·exact absurd g h
   ·rcases g with g|g|g|g
    ·exact⟨c,.inr (.inr (.inl rfl)),g,j7 c d⟩
    ·exact⟨d,.inr (.inr (.inr rfl)),g,pE c d⟩
    ·exact⟨a,.inl rfl,j7 a b,g⟩
    ·exact⟨b,.inr (.inl rfl),pE a b,g⟩
theorem uZ (h:qR a b c d):¬CU a b c d∧∀x,¬gH a b c d x:=by
 unfold qR at h;refine⟨fun g=>?_,fun x ⟨h1,h2,h3⟩=>?_⟩
 ·unfold CU at g; omega
 ·have e2:=h2.1;have e3:=h3.1;rcases h1 with rfl|rfl|rfl|rfl<;>omega
noncomputable def tw (a b c d:I2):Int:=open Classical in if ∃x y,gH a b c d x∧gH a b c d y∧x≠y then 3 else if ∃x,gH a b c d x then 1 else if qR a b c d then 2 else 0
theorem Db (hab:a≠b) (hcd:c≠d):tw a b c d=open Classical in if CU a b c d then(if 0<low a b c d then 0 else if low a b c d=0 then 1 else 3) else if qR a b c d then 2 else if bE a b c∨bE a b d∨bE c d a∨bE c d b then 1 else 0:=by
 classical
 unfold tw;have h2:=Dj hab hcd;have h1:=BI hab hcd
 by_cases hc:CU a b c d
 ·have hx:¬qR a b c d:=fun h=>(uZ h).1 hc;rw[if_pos hc,if_neg hx]
  by_cases g1:0<low a b c d
  ·rw[if_pos g1,if_neg (fun h=>by have:=(h2.1 h).2; omega),if_neg (fun h=>(h1.1 h).elim (fun g=>by have:=g.2; omega) (fun g=>g.1 hc))]
  ·by_cases g2:low a b c d=0
   ·rw[if_neg g1,if_pos g2,if_neg (fun h=>by have:=(h2.1 h).2; omega),if_pos (h1.2 (.inl ⟨hc,by omega⟩))]
   ·rw[if_neg g1,if_neg g2,if_pos (h2.2 ⟨hc,by omega⟩)]
 ·rw[if_neg hc,if_neg (fun h=>hc (h2.1 h).1)]
  by_cases hx:qR a b c d
  ·rw[if_pos hx,if_pos hx,if_neg (fun⟨x,h⟩=>(uZ hx).2 x h)]
  ·rw[if_neg hx,if_neg hx]
   by_cases hb:bE a b c∨bE a b d∨bE c d a∨bE c d b
   ·rw[if_pos hb,if_pos (h1.2 (.inr ⟨hc,hb⟩))]
   ·rw[if_neg hb,if_neg (fun h=>(h1.1 h).elim (fun g=>hc g.1) (fun g=>hb g.2))]
theorem sB:tw a b c d=0↔NM a b c d:=by
 classical
 unfold tw NM;constructor
 ·intro h
  by_cases h1:∃x y,gH a b c d x∧gH a b c d y∧x≠y
  ·rw[if_pos h1] at h; exact absurd h (by decide)
  ·rw[if_neg h1] at h
   by_cases h2:∃x,gH a b c d x
   ·rw[if_pos h2] at h; exact absurd h (by decide)
   ·rw[if_neg h2] at h
    by_cases h3:qR a b c d
    ·rw[if_pos h3] at h; exact absurd h (by decide)
    ·exact⟨fun x hx=>h2 ⟨x,hx⟩,h3⟩
 ·rintro⟨h1,h2⟩;rw[if_neg (fun⟨x,_,hx,_⟩=>h1 x hx),if_neg (fun⟨x,hx⟩=>h1 x hx)];exact if_neg h2
end
section
variable {a b c d : I2}
theorem jT {x:I2}:gH a b c d x↔gH c d a b x:=by
 unfold gH;constructor<;>rintro⟨h,g1,g2⟩<;>exact⟨by rcases h with h|h|h|h<;>simp[h],g2,g1⟩
theorem ib {x:I2}:gH a b c d x↔gH b a c d x:=by
 unfold gH;rw[p9 (a:=a) (b:=b)];constructor<;>rintro⟨h,g⟩<;>exact⟨by rcases h with h|h|h|h<;>simp[h],g⟩
theorem CY:qR a b c d↔qR c d a b:=by unfold qR; exact And.comm
theorem Ca:qR a b c d↔qR b a c d:=by
 unfold qR;rw[dD a b c,dD a b d];constructor<;>rintro⟨h,g⟩<;>constructor<;>omega
theorem s4:tw c d a b=tw a b c d:=by
 classical
 have h1:(∃x y,gH c d a b x∧gH c d a b y∧x≠y)↔∃x y,gH a b c d x∧gH a b c d y∧x≠y :=
  ⟨fun⟨x,y,p,q,r⟩=>⟨x,y,jT.1 p,jT.1 q,r⟩,fun⟨x,y,p,q,r⟩=>⟨x,y,jT.1 p,jT.1 q,r⟩⟩
 have h2:(∃x,gH c d a b x)↔∃x,gH a b c d x:=⟨fun⟨x,p⟩=>⟨x,jT.1 p⟩,fun⟨x,p⟩=>⟨x,jT.1 p⟩⟩;unfold tw;simp only[h1,h2,CY (a:=c) (b:=d) (c:=a) (d:=b)]
theorem uW:tw b a c d=tw a b c d:=by
 classical
 have h1:(∃x y,gH b a c d x∧gH b a c d y∧x≠y)↔∃x y,gH a b c d x∧gH a b c d y∧x≠y :=
  ⟨fun⟨x,y,p,q,r⟩=>⟨x,y,ib.1 p,ib.1 q,r⟩,fun⟨x,y,p,q,r⟩=>⟨x,y,ib.1 p,ib.1 q,r⟩⟩
 have h2:(∃x,gH b a c d x)↔∃x,gH a b c d x:=⟨fun⟨x,p⟩=>⟨x,ib.1 p⟩,fun⟨x,p⟩=>⟨x,ib.1 p⟩⟩;unfold tw;simp only[h1,h2,Ca (a:=b) (b:=a) (c:=c) (d:=d)]
end
end Jd
end

section
namespace Go.Proofs.YthmekkhpddehjaaGreat
open Go Go.Ab Go.Ab.W Go.Ab.B Jd
def nQ (x:Int):Prop:=-9223372036854775808≤x∧x<9223372036854775808
def Fa (p:I2):Prop:=p.1 < -1000000∨1000000<p.1∨p.2 < -1000000∨1000000<p.2
instance (p:I2):Decidable (Fa p):=by unfold Fa; infer_instance
instance (a b p:I2):Decidable (bE a b p):=by unfold bE; infer_instance
theorem iV (a b:Int):ma a b=max a b:=by unfold ma; split<;>omega
theorem mD (a b:Int):mi a b=min a b:=by unfold mi; split<;>omega
theorem EO {x:Int} (h:nQ x):IntKind.wrap .i64 (0-x)=if x = -9223372036854775808 then x else -x:=by
 unfold nQ at h
 split
 ·rename_i e; subst e; decide
 ·rw[aq (by omega) (by omega)]; omega
theorem AU (n:Nat) {x y:Int} (hx:nQ x) (hy:nQ y):Hc n x y=some (decide (Fa (x,y))):=by
 unfold Hc;rw[EO hx,EO hy,av,pC,←Bool.decide_or]
 congr 1
 rw[decide_eq_decide];unfold nQ at hx hy;unfold Fa
 dsimp only
 rw[iV,iV,iV,mD]
 split<;>split<;>omega
def sg (z:Int):Int:=if z<0 then -1 else if 0<z then 1 else 0
theorem xw (n:Nat) (x y:Int):DT n x y=some (sg (x-y)):=by
 unfold DT xa sg;simp only[decide_true,Bool.not_true,av,gC]
 by_cases h:x<y
 ·rw[aY h,if_pos (show x-y<0 by omega)]
 ·rw[aX h,if_neg (show ¬x-y<0 by omega)]
  by_cases g:y<x
  ·rw[aY g,if_pos (show 0<x-y by omega)]
  ·rw[aX g,if_neg (show ¬0<x-y by omega)]
def Nr (p:I2):Prop:=-1000000≤p.1∧p.1≤1000000∧-1000000≤p.2∧p.2≤1000000
theorem A1 {p:I2}:¬Fa p↔Nr p:=by unfold Fa Nr; omega
theorem kQ (n:Nat) {a b c:I2} (ha:Nr a) (hb:Nr b) (hc:Nr c):AF n a.1 a.2 b.1 b.2 c.1 c.2=some (sg (ti a b c)):=by
 unfold Nr at ha hb hc;have m1:=cZ (B:=2000000) (C:=2000000) (u:=b.1-a.1) (v:=c.2-a.2) (by decide) (by omega) (by omega) (by omega) (by omega)
 have m2:=cZ (B:=2000000) (C:=2000000) (u:=b.2-a.2) (v:=c.1-a.1) (by decide) (by omega) (by omega) (by omega) (by omega)
 unfold AF;rw[aq (x:=b.1-a.1) (by omega) (by omega),aq (x:=c.2-a.2) (by omega) (by omega),aq (x:=b.2-a.2) (by omega) (by omega),aq (x:=c.1-a.1) (by omega) (by omega),
  aq (by omega) (by omega),aq (by omega) (by omega),av,av,xw,av]
 rfl
theorem eW {z:Int}:sg z=0↔z=0:=by unfold sg; split<;>(try split)<;>omega
theorem jw {z:Int}:sg z<0↔z<0:=by unfold sg; split<;>(try split)<;>omega
theorem eR {z:Int}:0<sg z↔0<z:=by unfold sg; split<;>(try split)<;>omega
theorem im (z:Int):sg z = -1∨sg z=0∨sg z=1:=by unfold sg; split<;>(try split)<;>simp
theorem FM (n:Nat) (r s:Int) (hn:2<n):Gw n [r,s]=some (if r≠0 then r else s):=by
 obtain⟨n,rfl⟩:∃n',n=n'+3:=⟨n-3,by omega⟩
 have L0:lK (n+3) [r,s] 0=if r≠0 then some (.inr (.inl r)) else some (.inl 1):=by
  unfold lK;rw[aY (by simp),show cX 0 [r,s].length=true from rfl,cw]
  show ob (some r) _=_
  rw[av]
  by_cases h:r=0
  ·rw[decide_eq_true h,Bool.not_true,gC,if_neg (by simpa using h)]; rfl
  ·rw[decide_eq_false h,Bool.not_false,ng,if_pos h]
 have L1:lK (n+3) [r,s] 1=if s≠0 then some (.inr (.inl s)) else some (.inl 2):=by
  unfold lK;rw[aY (by simp),show cX 1 [r,s].length=true from rfl,cw]
  show ob (some s) _=_
  rw[av]
  by_cases h:s=0
  ·rw[decide_eq_true h,Bool.not_true,gC,if_neg (by simpa using h)]; rfl
  ·rw[decide_eq_false h,Bool.not_false,ng,if_pos h]
 have L2:lK (n+3) [r,s] 2=some (.inr (.inr ())):=by
  unfold lK;rw[aX (by simp)]
 unfold Gw
 by_cases h:r=0
 ·rw[if_neg (by simpa using h)] at L0 ⊢
  rw[cC L0]
  by_cases g:s=0
  ·rw[if_neg (by simpa using g)] at L1
   rw[cC L1,eg L2,av,g]
  ·rw[if_pos g] at L1;rw[eg L1,av]
 ·rw[if_pos h] at L0 ⊢;rw[eg L0,av]
def wG (a b:I2):Int:=if sg (a.1-b.1)≠0 then sg (a.1-b.1) else sg (a.2-b.2)
theorem sQ (n:Nat) (a b:I2) (hn:2<n):AA n a.1 a.2 b.1 b.2=some (wG a b):=by
 unfold AA;rw[xw,av,xw,av,FM n _ _ hn,av]; rfl
theorem rS {a b:I2}:wG a b≤0↔Lx a b:=by
 unfold wG Lx;have h1:=eW (z:=a.1-b.1);have h2:=eR (z:=a.1-b.1);have h3:=eR (z:=a.2-b.2)
 split<;>omega
theorem xq (n:Nat) (e:Int) {a b p:I2} (ha:Nr a) (hb:Nr b) (hp:Nr p) (hab:a≠b) (hn:2<n):y9 n e a.1 a.2 b.1 b.2 p.1 p.2=some (decide (bE a b p)):=by
 unfold y9;rw[kQ n ha hb hp,av]
 by_cases h0:ti a b p=0
 ·rw[decide_eq_true (eW.2 h0),Bool.not_true,gC,sQ n a b hn,av];have key:∀{u v:I2},u≠v→Lx u v→ti u v p=0→(ob (AA n u.1 u.2 p.1 p.2) fun r28=>br (decide (r28≤0)) (ob (AA n p.1 p.2 v.1 v.2) fun r31=>some (decide (r31≤0))) (some false))=some (decide (bE u v p)):=fun {u v} huv hl ht=>by
   rw[sQ n u p hn,av,sQ n p v hn,av,dC,←Bool.decide_and]
   congr 1
   rw[decide_eq_decide,G7 huv hl,rS,rS];exact⟨fun h=>⟨ht,h⟩,fun h=>h.2⟩
  by_cases hl:0<wG a b
  ·rw[aY hl,av];have hl':Lx b a:=by
    have:¬Lx a b:=fun h=>by have:=rS.2 h; omega
    unfold Lx at this ⊢; omega
   have:=key hab.symm hl' (by rw[dD,h0]; rfl)
   dsimp only
   rw[this]
   congr 1
   rw[decide_eq_decide]; exact p9
  ·rw[aX hl,av];exact key hab (rS.1 (by omega)) h0
 ·rw[decide_eq_false (fun h=>h0 (eW.1 h)),Bool.not_false,ng,decide_eq_false fun h=>h0 h.1]
theorem oM {α β:Type} [DecidableEq α] (k:α):∀(xs:List (α × β)) (i:Nat),(j5 k xs i=none∧k ∉ xs.map Prod.fst)∨∃j v,j5 k xs i=some (i+j,v)∧(xs[j]?).map Prod.fst=some k
 | [],_=>.inl ⟨rfl,by simp⟩
 | e::es,i=>by
  unfold j5
  by_cases h:k=e.1
  ·rw[if_pos h]; exact .inr ⟨0,e.2,rfl,by rw[h]; rfl⟩
  ·rw[if_neg h];rcases oM k es (i+1) with⟨h1,h2⟩|⟨j,v,h1,h2⟩
   ·exact .inl ⟨h1,fun g=>by
     rw[List.map_cons,List.mem_cons] at g;exact g.elim h h2⟩
   ·exact .inr ⟨j+1,v,by rw[h1,show i+1+j=i+(j+1) by omega],h2⟩
theorem zP {α β:Type} [DecidableEq α] (xs:List (α × β)) (k:α) (v:β):(xo xs k v).map Prod.fst=if k ∈ xs.map Prod.fst then xs.map Prod.fst else xs.map Prod.fst++[k]:=by
 unfold xo;rcases oM k xs 0 with⟨h1,h2⟩|⟨j,w,h1,h2⟩
 ·rw[h1,if_neg h2]; simp
 ·rw[h1,Nat.zero_add];have hj:j<xs.length:=by
   refine Decidable.byContradiction fun hc=>?_;rw[List.getElem?_eq_none (by omega)] at h2; cases h2
  have e:(xs.map Prod.fst)[j]? = some k:=by rw[List.getElem?_map]; exact h2
  rw[if_pos (List.mem_of_getElem? e),List.map_set];refine List.ext_getElem? fun t=>?_;rw[List.getElem?_set]
  by_cases ht:j=t
  ·subst ht;rw[if_pos rfl,if_pos (by rw[List.length_map]; exact hj),e]
  ·rw[if_neg ht]
def tx (a b c d:I2) (l:List (I2 × Bool)) (x:I2):List (I2 × Bool):=if bE a b x∧bE c d x then xo l x true else l
theorem vn {a b c d:I2}:∀(xs:List I2) (l:List (I2 × Bool)),(l.map Prod.fst).Nodup→((xs.foldl (tx a b c d) l).map Prod.fst).Nodup∧∀q,q ∈ (xs.foldl (tx a b c d) l).map Prod.fst↔q ∈ l.map Prod.fst∨(q ∈ xs∧bE a b q∧bE c d q)
 | [],l,hn=>⟨hn,fun q=>by simp⟩
 | x::xs,l,hn=>by
  rw[List.foldl_cons];have key:((tx a b c d l x).map Prod.fst).Nodup∧∀q,q ∈ (tx a b c d l x).map Prod.fst↔q ∈ l.map Prod.fst∨(q=x∧bE a b q∧bE c d q):=by
   unfold tx
   by_cases h:bE a b x∧bE c d x
   ·rw[if_pos h,zP]
    by_cases g:x ∈ l.map Prod.fst
    ·rw[if_pos g];exact⟨hn,fun q=>⟨.inl,fun e=>e.elim id fun e=>e.1 ▸ g⟩⟩
    ·rw[if_neg g];refine⟨List.nodup_append.2 ⟨hn,by simp,fun u hu v hv=>?_⟩,fun q=>?_⟩
     ·rw[List.mem_singleton] at hv;intro e; rw[e,hv] at hu; exact g hu
     ·rw[List.mem_append,List.mem_singleton];exact⟨fun e=>e.elim .inl fun e=>.inr ⟨e,e ▸ h⟩,fun e=>e.elim .inl fun e=>.inr e.1⟩
   ·rw[if_neg h];exact⟨hn,fun q=>⟨.inl,fun e=>e.elim id fun⟨e,g⟩=>absurd (e ▸ g) h⟩⟩
  obtain⟨k1,k2⟩:=key;obtain⟨r1,r2⟩:=vn xs _ k1;refine⟨r1,fun q=>?_⟩;rw[r2,k2,List.mem_cons];constructor
  ·rintro((h|⟨rfl,h⟩) | ⟨h,g⟩)
   ·exact .inl h
   ·exact .inr ⟨.inl rfl,h⟩
   ·exact .inr ⟨.inr h,g⟩
  ·rintro(h|⟨rfl|h,g⟩)
   ·exact .inl (.inl h)
   ·exact .inl (.inr ⟨rfl,g⟩)
   ·exact .inr ⟨h,g⟩
theorem sL (n:Nat) (e f:Int) {a b c d x:I2} (ha:Nr a) (hb:Nr b) (hc:Nr c) (hd:Nr d) (hx:Nr x) (hab:a≠b) (hcd:c≠d) (hn:2<n) (l:List (I2 × Bool)) {i:Nat} (hi:i<4) (he:[a,b,c,d][i]? = some x) :
  nj n a.1 a.2 b.1 b.2 c.1 c.2 d.1 d.2 e f (l,(i:Int))=some (.inl (tx a b c d l x,((i+1:Nat):Int))):=by
 unfold nj
 dsimp only
 rw[aY (by omega),bD hi,cw,Int.toNat_natCast]
 have:[(a.1,a.2),(b.1,b.2),(c.1,c.2),(d.1,d.2)][i]? = some (x.1,x.2):=he;rw[this,av]
 dsimp only
 rw[xq n e ha hb hx hab hn,av,xq n f hc hd hx hcd hn,av,dC,av,bw (by omega)]
 unfold tx
 by_cases h:bE a b x∧bE c d x
 ·rw[decide_eq_true h.1,decide_eq_true h.2,if_pos h]; rfl
 ·rw[if_neg h,←Bool.decide_and,decide_eq_false h]; rfl
theorem GR (n:Nat) (e f:Int) {a b c d:I2} (ha:Nr a) (hb:Nr b) (hc:Nr c) (hd:Nr d) (hab:a≠b) (hcd:c≠d) (hn:5<n):HL n e a.1 a.2 b.1 b.2 f c.1 c.2 d.1 d.2=some (tw a b c d):=by
 classical
 unfold HL;rw[kQ n ha hb hc,av,kQ n ha hb hd,av,kQ n hc hd ha,av,kQ n hc hd hb,av];have L:dx (nj n a.1 a.2 b.1 b.2 c.1 c.2 d.1 d.2 e f) n ([],0)=some ([a,b,c,d].foldl (tx a b c d) []):=by
  obtain⟨m,hm⟩:∃m,n=m+5:=⟨n-5,by omega⟩
  have L5:∀l,nj n a.1 a.2 b.1 b.2 c.1 c.2 d.1 d.2 e f (l,((4:Nat):Int))=some (.inr l):=fun l=>by
   unfold nj
   dsimp only
   rw[aX (by decide)]
  have h0:=sL n e f ha hb hc hd ha hab hcd (by omega) [] (i:=0) (by decide) rfl
  have h1:=sL n e f ha hb hc hd hb hab hcd (by omega) (tx a b c d [] a) (i:=1) (by decide) rfl
  have h2:=sL n e f ha hb hc hd hc hab hcd (by omega) (tx a b c d (tx a b c d [] a) b) (i:=2) (by decide) rfl
  have h3:=sL n e f ha hb hc hd hd hab hcd (by omega) (tx a b c d (tx a b c d (tx a b c d [] a) b) c) (i:=3) (by decide) rfl
  have:∀body:(List (I2 × Bool) × Int)→Option ((List (I2 × Bool) × Int) ⊕ List (I2 × Bool)),body=nj n a.1 a.2 b.1 b.2 c.1 c.2 d.1 d.2 e f→dx body n ([],0)=some ([a,b,c,d].foldl (tx a b c d) []):=fun body hbd=>by
   rw[←hbd] at h0 h1 h2 h3 L5;rw[hm,show(0:Int)=((0:Nat):Int) from rfl,cC h0,cC h1,cC h2,cC h3,eg (L5 _)]
   rfl
  exact this _ rfl
 obtain⟨k1,k2⟩:=vn (a:=a) (b:=b) (c:=c) (d:=d) [a,b,c,d] [] (by simp)
 have hlen:([a,b,c,d].foldl (tx a b c d) []).length=(([a,b,c,d].foldl (tx a b c d) []).map Prod.fst).length:=by rw[List.length_map]
 rw[L,av];generalize [a,b,c,d].foldl (tx a b c d) []=l at *;have kc:∀q,q ∈ l.map Prod.fst↔gH a b c d q:=fun q=>by
  rw[k2];unfold gH;constructor
  ·rintro(h|⟨h,g⟩)
   ·simp at h
   ·exact⟨by simpa only[List.mem_cons,List.not_mem_nil,or_false] using h,g⟩
  ·rintro⟨h,g⟩;exact .inr ⟨by simpa only[List.mem_cons,List.not_mem_nil,or_false] using h,g⟩
 rw[av,av,hlen];generalize l.map Prod.fst=ks at *;unfold tw
 by_cases h2:∃x y,gH a b c d x∧gH a b c d y∧x≠y
 ·obtain⟨x,y,hx,hy,hne⟩:=h2;have:=re (l:=[x,y]) (m:=ks) (by simp[hne]) fun q hq=>by
   simp only[List.mem_cons,List.not_mem_nil,or_false] at hq;rcases hq with rfl|rfl
   ·exact(kc _).2 hx
   ·exact(kc _).2 hy
  have hl:2≤ks.length:=this;rw[aY (by omega),if_pos ⟨x,y,hx,hy,hne⟩]
 ·have hl1:ks.length≤1:=by
   match ks,k1,kc with
   | [],_,_=>exact Nat.zero_le _
   | [_],_,_=>exact Nat.le_refl _
   | x::y::t,k1,kc =>
    refine absurd ⟨x,y,(kc x).1 (by simp),(kc y).1 (by simp),?_⟩ h2
    intro e; subst e; simp at k1
  rw[if_neg h2,aX (by omega)]
  by_cases h1:∃x,gH a b c d x
  ·obtain⟨x,hx⟩:=h1;have:0<ks.length:=List.length_pos_of_mem ((kc x).2 hx);rw[if_pos ⟨x,hx⟩,aY (by omega)]
  ·have:ks.length=0:=by
    match ks,kc with
    | [],_=>rfl
    | x::t,kc=>exact absurd ⟨x,(kc x).1 (by simp)⟩ h1
   rw[if_neg h1,aX (by omega)]
   have w:∀u v:Int,IntKind.wrap .i64 (sg u*sg v)=sg u*sg v:=fun u v=>by
    have h1:=im u;have h2:=im v;rcases h1 with h1|h1|h1<;>rcases h2 with h2|h2|h2<;>rw[h1,h2]<;>decide
   have s:∀u v:Int,sg u*sg v<0↔(0<u∧v<0)∨(u<0∧0<v):=fun u v=>by
    have a1:=jw (z:=u);have a2:=eR (z:=u);have b1:=jw (z:=v);have b2:=eR (z:=v);have h1:=im u;have h2:=im v;rcases h1 with h1|h1|h1<;>rcases h2 with h2|h2|h2<;>rw[h1] at a1 a2 ⊢<;>rw[h2] at b1 b2 ⊢<;>omega
   rw[w,w,dC,av,FE]
   by_cases hx:qR a b c d
   ·rw[if_pos hx,if_pos];unfold qR at hx;rw[Bool.and_eq_true,decide_eq_true_eq,decide_eq_true_eq,s,s];exact hx
   ·rw[if_neg hx,if_neg];rw[Bool.and_eq_true,decide_eq_true_eq,decide_eq_true_eq,s,s];exact hx
end Go.Proofs.YthmekkhpddehjaaGreat
end

section
namespace Go.Ab
open Go
theorem AJ {j:aI} {l:List Value} (h:∀x ∈ l,aZ x=true):LR j l l :=
 ⟨rfl,fun _ v hi=>⟨v,hi,VR.aZ (h v (List.mem_of_getElem? hi))⟩⟩
theorem uS {W W':World} (hc:Calm W W') (hs:W.heap.size≤W'.heap.size) (hold:∀c,c<W.heap.size→W'.heap[c]? = W.heap[c]?):∃q os,W'=Sort.grow (W.drewN q) os:=by
 refine⟨W'.drawn-W.drawn,W'.heap.extract W.heap.size W'.heap.size,?_⟩;have hh:W'.heap=W.heap++W'.heap.extract W.heap.size W'.heap.size:=by
  apply Array.ext_getElem?;intro i;rw[Array.getElem?_append]
  split
  ·exact hold i ‹_›
  ·rw[Array.getElem?_extract]
   split
   ·congr 1; omega
   ·exact Array.getElem?_eq_none (by omega)
 obtain⟨h1,h2,h3,h4⟩:=hc;cases W; cases W';simp only[Sort.grow,World.drewN] at *;subst h1; subst h2; subst h3
 congr 1
 omega
theorem vT {E:Env} (hE:EnvOk E) (hmono:E.mono:=by trivial) {f:FuncId} {args:List Value} (hp:E.cb f=none) {v:Value} (hpl:∀x ∈ args,aZ x=true) (hv:aZ v=true)
  (h:aR E f args (nU E.glob fun _=>none) fun v' _=>v'=v) {W:World} (hW:E.glob≤W.heap.size) :
  Calls E.P f args.toArray W fun e W'=>e = .returned v∧∃q os,W'=Sort.grow (W.drewN q) os:=by
 obtain⟨v',m',⟨k,hr⟩,rfl⟩:=h;have hm:MR E (zI E.glob) (nU E.glob fun _=>none) W:=D5 (Nat.le_refl _) hW fun b cs hb=>by cases hb
 refine callsIn_wide.1 ((lJ hE hr hp hm (AJ hpl)).mono ?_);rintro e W' ⟨v1,rfl,j',s,hv1⟩;rw[eT hv hv1];refine⟨rfl,uS ⟨s.calm.1,s.calm.2.1,s.calm.2.2.1,s.calm.2.2.2 hmono⟩ s.size fun c hc=>s.frame c hc fun b k hb hl _=>?_⟩;have:(nU E.glob fun _=>none).get b=none:=by simp[AMem.get,nU,Heap.get_nil]
 rw[this] at hl; cases hl
theorem nR {w:World} {B:Nat} {c:Array Value} {e:TypeId} {fz:Nat × Nat} (h:w.heap[B]? = some (.cells c e fz)) (f:Array Value→Array Value):Sort.mapBlock w B f=w.putObj B (.cells (f c) e fz):=by
 unfold Sort.mapBlock World.putObj
 congr 1
 apply Array.ext_getElem?;intro i;rw[Array.getElem?_modify,Array.getElem?_setIfInBounds]
 by_cases hi:B=i
 ·subst hi;obtain⟨hlt,hv⟩:=Array.getElem?_eq_some_iff.1 h;simp[hlt,hv,Sort.onCells]
 ·simp[hi]
theorem EF {E:Env} {j:aI} {m:AMem} {w:World} (h:MR E j m w) {b:Nat} {k:Blk} (hk:j b=some k) {cs cs':List Value} {tag:Tag} (hg:m.get b=some (.cells cs tag)) (hl:cs'.length=cs.length) (hp:cs'.all aE=true) (n:Nat) (os:Array Obj) :
  Sim E j m w j (m.set b (.cells cs' tag)) (Sort.grow (Sort.putRow id (Sort.ahead w n) k.c 0 cs'.toArray) os):=by
 obtain⟨c,e,fz,h1,h2,h3⟩:=h.jL hk hg;have s1:Sim E j m w j m (Sort.ahead w n):=Sim.of_heap h rfl ⟨rfl,rfl,rfl,Nat.le_add_right _ _⟩;have hle:cs.length≤c.size:=by
  cases tag with
  | ro=>exact Nat.le_of_eq h2.2.symm
  | own=>exact Nat.le_of_eq h2.2.1.symm
  | more sz=>exact h2.2.1
 have hor:OR j k (.cells cs' tag) (.cells (Sort.putCells id 0 cs'.toArray c) e fz):=by
  have hget:∀i,(Sort.putCells id 0 cs'.toArray c)[i]? = if i<cs'.length then(if i<c.size then some cs'[i]! else none) else c[i]?:=by
   intro i;simp only[Sort.putCells,Array.getElem?_mapIdx,Nat.zero_le,true_and,Nat.zero_add,List.size_toArray,Nat.sub_zero,id]
   by_cases hi:i<c.size
   ·rw[Array.getElem?_eq_getElem hi];simp only[Option.map_some]
    by_cases hj:i<cs'.length
    ·simp[hj,hi]
    ·simp[hj]
   ·rw[Array.getElem?_eq_none (by omega)]
    simp[hi]
  refine⟨?_,fun i v hi=>?_⟩
  ·rw[show cs'.length=cs.length from hl]
   refine qK.put h2 (by simp[Sort.putCells]) fun i hi=>?_
   rw[hget,if_neg (by omega)]
  ·have hlt:i<cs'.length:=(List.getElem?_eq_some_iff.1 hi).1;refine⟨v,?_,.aE (List.all_eq_true.1 hp v (List.mem_of_getElem? hi))⟩;rw[hget,if_pos hlt,if_pos (by omega),List.getElem!_eq_getElem?_getD,hi]; rfl
 have s2:=gJ s1.mr hk (by rw[hg]; rfl) hor
 have e2:Sort.putRow id (Sort.ahead w n) k.c 0 cs'.toArray=(Sort.ahead w n).putObj k.c (.cells (Sort.putCells id 0 cs'.toArray c) e fz):=nR (w:=Sort.ahead w n) h1 _;rw[e2];refine(s1.trans h s2).trans h (Sim.same s2.mr (fun x hx=>?_) (by simp) ⟨rfl,rfl,rfl,fun _=>Nat.le_refl _⟩)
 show(_++_:Array Obj)[x]? = _
 rw[Array.getElem?_append,if_pos hx]
theorem ve {α:Type} [Inhabited α] {enc:α→List Value} {k:Nat} (hk:∀x,(enc x).length=k) (h0:0<k):∀(l:List α) (t:Nat),t<l.length*k→(l.map enc).flatten[t]! = (enc l[t/k]!)[t%k]!
 | [],t,h=>by simp at h
 | x::l,t,h=>by
  simp only[List.map_cons,List.flatten_cons];rw[List.getElem!_eq_getElem?_getD,List.getElem?_append]
  by_cases ht:t<k
  ·rw[if_pos (by rw[hk]; exact ht),Nat.div_eq_of_lt ht,Nat.mod_eq_of_lt ht,←List.getElem!_eq_getElem?_getD]; rfl
  ·rw[if_neg (by rw[hk]; exact ht),hk,←List.getElem!_eq_getElem?_getD,ve hk h0 l (t-k) (by simp only[List.length_cons,Nat.add_mul,Nat.one_mul] at h; omega)]
   have e1:t/k=(t-k)/k+1:=by rw[Nat.div_eq_sub_div h0 (by omega)]
   have e2:t%k=(t-k)%k:=Nat.mod_eq_sub_mod (by omega)
   rw[e1,e2]; rfl
theorem ga {α:Type} {enc:α→List Value} {k:Nat} (hk:∀x,(enc x).length=k):∀l:List α,(l.map enc).flatten.length=l.length*k
 | []=>by simp
 | x::l=>by simp only[List.map_cons,List.flatten_cons,List.length_append,List.length_cons,hk,ga hk l,Nat.add_mul,Nat.one_mul]; omega
theorem kq {α:Type} [Inhabited α] {enc:α→List Value} {k:Nat} (hk:∀x,(enc x).length=k) (h0:0<k) (l:List α):Sort.flatK enc k l.toArray=(l.map enc).flatten.toArray:=by
 refine Sort.ext_get! (by simp[ga hk]) fun t ht=>?_
 have ht':t<l.length*k:=by simpa using ht
 rw[Sort.get_flatK _ _ _ _ (by simpa using ht')]
 have:=ve hk h0 l t ht';simp at this ⊢;rw[this]
theorem zW {E:Env} {j:aI} {m:AMem} {w:World} (h:MR E j m w) {b:Nat} {k:Blk} (hk:j b=some k) {cs:List Value} {tag:Tag} (hg:m.get b=some (.cells cs tag)) (ht:tag≠.ro) (hp:cs.all aE=true) :
  Sort.Holds id w k.c 0 cs.toArray:=by
 obtain⟨c,e,fz,h1,h2,h3⟩:=h.jL hk hg;have hfz:fz=(0,0):=by
  cases tag with
  | ro=>exact absurd rfl ht
  | own=>exact h2.2.2
  | more sz=>exact h2.2.2.1
 subst hfz;intro i hi;have hi':i<cs.length:=by simpa using hi
 obtain⟨v',g1,g2⟩:=h3 i cs[i] (List.getElem?_eq_getElem hi');have:=cV (List.all_eq_true.1 hp _ (List.getElem_mem hi')) g2;subst this;refine⟨?_,?_⟩
 ·simp only[World.cell?,h1,Nat.zero_add];simp[g1,hi']
 ·simp only[World.frozen?,h1]; simp
end Go.Ab
end

section
namespace Go.Proofs
open Go.Shelf
def Tryz.tD:Go.Shelf.Ren:=⟨fun|6=>50|15=>81|14=>80|28=>101|29=>102|20=>93|21=>94|22=>95|23=>96|24=>97|25=>98|26=>99|27=>100|46=>121|47=>122|48=>123|49=>124|50=>125|57=>143|n=>n,fun|22=>22|24=>33|25=>91|3=>3|39=>117|0=>0|53=>134|55=>136|4=>4|46=>127|45=>126|50=>131|5=>5|9=>9|66=>164|70=>168|76=>187|77=>81|n=>n,fun|n=>n⟩
theorem Tryz.xU:Go.Proofs.SlLaysF0.n6 Tryz.prog Tryz.tD:={
 mixed:=by kernel_rfl
 f6:=⟨Tryz.f50.name,by decide,Tryz.func50.trans (congrArg some (by kernel_rfl))⟩
 f14:=⟨Tryz.f80.name,by decide,Tryz.func80.trans (congrArg some (by kernel_rfl))⟩
 f15:=Tryz.func81.trans (congrArg some (by kernel_rfl))
 f20:=⟨Tryz.f93.name,by decide,Tryz.func93.trans (congrArg some (by kernel_rfl))⟩
 f21:=⟨Tryz.f94.name,by decide,Tryz.func94.trans (congrArg some (by kernel_rfl))⟩
 f22:=⟨Tryz.f95.name,by decide,Tryz.func95.trans (congrArg some (by kernel_rfl))⟩
 f23:=⟨Tryz.f96.name,by decide,Tryz.func96.trans (congrArg some (by kernel_rfl))⟩
 f24:=⟨Tryz.f97.name,by decide,Tryz.func97.trans (congrArg some (by kernel_rfl))⟩
 f25:=⟨Tryz.f98.name,by decide,Tryz.func98.trans (congrArg some (by kernel_rfl))⟩
 f26:=⟨Tryz.f99.name,by decide,Tryz.func99.trans (congrArg some (by kernel_rfl))⟩
 f27:=⟨Tryz.f100.name,by decide,Tryz.func100.trans (congrArg some (by kernel_rfl))⟩
 f28:=Tryz.func101.trans (congrArg some (by kernel_rfl))
 f29:=Tryz.func102.trans (congrArg some (by kernel_rfl))
 f46:=⟨Tryz.f121.name,by decide,Tryz.func121.trans (congrArg some (by kernel_rfl))⟩
 f47:=Tryz.func122.trans (congrArg some (by kernel_rfl))
 f48:=Tryz.func123.trans (congrArg some (by kernel_rfl))
 f49:=⟨Tryz.f124.name,by decide,Tryz.func124.trans (congrArg some (by kernel_rfl))⟩
 f50:=⟨Tryz.f125.name,by decide,Tryz.func125.trans (congrArg some (by kernel_rfl))⟩
 f57:=⟨Tryz.f143.name,by decide,Tryz.func143.trans (congrArg some (by kernel_rfl))⟩
 t0:=Tryz.underlying0
 a0:=Tryz.isAgg0
 z0:=Tryz.sizeOf0
 v0:=Tryz.zeroValue0
 t3:=Tryz.underlying3
 a3:=Tryz.isAgg3
 z3:=Tryz.sizeOf3
 v3:=Tryz.zeroValue3
 t4:=Tryz.underlying4
 a4:=Tryz.isAgg4
 z4:=Tryz.sizeOf4
 v4:=Tryz.zeroValue4
 t5:=Tryz.underlying5
 a5:=Tryz.isAgg5
 z5:=Tryz.sizeOf5
 v5:=Tryz.zeroValue5
 t9:=Tryz.underlying9
 a9:=Tryz.isAgg9
 z9:=Tryz.sizeOf9
 v9:=Tryz.zeroValue9
 t22:=Tryz.underlying22
 a22:=Tryz.isAgg22
 z22:=Tryz.sizeOf22
 v22:=Tryz.zeroValue22
 t25:=Tryz.underlying91
 a25:=Tryz.isAgg91
 z25:=Tryz.sizeOf91
 v25:=Tryz.zeroValue91
 t39:=Tryz.underlying117
 a39:=Tryz.isAgg117
 z39:=Tryz.sizeOf117
 v39:=Tryz.zeroValue117
 t45:=Tryz.underlying126
 a45:=Tryz.isAgg126
 z45:=Tryz.sizeOf126
 v45:=Tryz.zeroValue126
 t46:=Tryz.underlying127
 a46:=Tryz.isAgg127
 z46:=Tryz.sizeOf127
 v46:=Tryz.zeroValue127
 t50:=Tryz.underlying131
 a50:=Tryz.isAgg131
 z50:=Tryz.sizeOf131
 v50:=Tryz.zeroValue131
 t53:=Tryz.underlying134
 a53:=Tryz.isAgg134
 z53:=Tryz.sizeOf134
 v53:=Tryz.zeroValue134
 t55:=Tryz.underlying136
 a55:=Tryz.isAgg136
 z55:=Tryz.sizeOf136
 v55:=Tryz.zeroValue136
 t66:=Tryz.underlying164
 a66:=Tryz.isAgg164
 z66:=Tryz.sizeOf164
 v66:=Tryz.zeroValue164
 t70:=Tryz.underlying168
 a70:=Tryz.isAgg168
 z70:=Tryz.sizeOf168
 v70:=Tryz.zeroValue168
 t76:=Tryz.underlying187
 a76:=Tryz.isAgg187
 z76:=Tryz.sizeOf187
 v76:=Tryz.zeroValue187
 t77:=Tryz.underlying81
 a77:=Tryz.isAgg81
 z77:=Tryz.sizeOf81
 v77:=Tryz.zeroValue81}
end Go.Proofs
end

section
namespace Go.Proofs.YthmekkhpddehjaaGreat
open Go Go.Ab Go.Ab.W Go.Ab.B Jd
set_option maxRecDepth 10000
theorem Dp (x y:Int × Int):IM 5 x.1 x.2 y.1 y.2=some (wG x y):=by
 unfold IM;rw[sQ 5 x y (by decide),av]
theorem zF (x y:Int × Int) {W:World} :
  Calls Tryz.prog 51 #[.agg (qx x).toArray,.agg (qx y).toArray] W fun e W'=>e = .returned (.int .i64 (wG x y))∧∃q os,W'=Sort.grow (W.drewN q) os :=
 vT (E:=lN) sU (hmono:=trivial) (f:=51) (args:=[.agg #[.int .i64 x.1,.int .i64 x.2],.agg #[.int .i64 y.1,.int .i64 y.2]]) rfl (by intro v hv; simp at hv; rcases hv with rfl|rfl<;>rfl) rfl
  ((W51.G0 5 x.1 x.2 y.1 y.2 _ (Dp x y) _).mono fun v m' ⟨_,h,_⟩=>h) (Nat.zero_le _)
theorem Hz (x y:Int × Int):Go.Proofs.ltOf wG x y=decide (x.1<y.1∨x.1=y.1∧x.2<y.2):=by
 unfold Go.Proofs.ltOf wG;have h1:=jw (z:=x.1-y.1);have h2:=jw (z:=x.2-y.2);have h3:=eW (z:=x.1-y.1)
 congr 1
 apply propext
 split<;>omega
theorem IV:Go.Sort.SWO (Go.Proofs.ltOf wG) where
 irrefl x:=by rw[Hz]; simp
 trans x y z h1 h2:=by rw[Hz] at *; simp only[decide_eq_true_eq] at *; omega
 ntrans x y z h1 h2:=by rw[Hz] at *; simp only[decide_eq_false_iff_not] at *; omega
theorem I0 (x y:Int × Int) (h1:Go.Proofs.ltOf wG x y=false) (h2:Go.Proofs.ltOf wG y x=false):x=y:=by
 rw[Hz] at h1 h2;simp only[decide_eq_false_iff_not] at h1 h2;exact Prod.ext (by omega) (by omega)
theorem Ak (mn off size:Nat) (w:World):Go.Proofs.CmpLays Tryz.prog 51 #[] qx 2 wG mn off size w :=
 fun _ _ _ _ x y=>zF x y
end Go.Proofs.YthmekkhpddehjaaGreat
end

section
namespace Go.Ab
open Go
section
variable {E : Env} {j : aI} {m : AMem} {w : World}
theorem VR.at {b o l c:Nat} {v':Value} (h:VR j (.slice (some ⟨b,o,none⟩) l c) v'):∃k c',j b=some k∧v' = .slice (some ⟨k.c,o,none⟩) l c':=by
 cases h with
 | slice hj hm=>exact⟨_,_,hj,rfl⟩
 | sliceM hj hm _ _ _ _=>exact⟨_,_,hj,rfl⟩
end
end Go.Ab
end

section
namespace Go.Proofs.YthmekkhpddehjaaGreat
open Go Go.Ab Go.Ab.W
set_option maxRecDepth 10000
theorem CK:(fun x y=>!(Go.Proofs.ltOf wG) y x)=ye:=by
 funext x y
 show(!(Go.Proofs.ltOf wG) y x)=ye x y
 rw[Hz]; unfold ye;rw[←decide_not]
 congr 1
 apply propext; omega
theorem iy:∀{cs:List Value} {l:List (Int × Int)},cD cs=some l→cs=(l.map qx).flatten
 | [],l,h=>by cases h; rfl
 | .int .i64 a::.int .i64 b::r,l,h=>by
  have h':(cD r).map ((a,b)::·)=some l:=h;cases hr:cD r with
  | none=>rw[hr] at h'; cases h'
  | some l' =>
   rw[hr] at h'; cases h';rw[iy hr]; rfl
 | [_],_,h=>by unfold cD at h; split at h<;>simp_all
 | _::_::_,l,h=>by
  unfold cD at h
  split at h
  ·rename_i e; cases e
  ·rename_i a b r e;rw[e];cases hr:cD r with
   | none=>rw[hr] at h; cases h
   | some l' =>
    rw[hr] at h; cases h;rw[iy hr]; rfl
  ·cases h
theorem uT {m:AMem} {b n n':Nat} {cs:List Value} {tg:Tag} (h:xj m b n n'=some (cs,tg)):m.get b=some (.cells cs tg)∧tg≠.ro∧n=n'∧cs.length=n*2∧cs.all aE=true:=by
 unfold xj at h
 split at h
 ·rename_i cs' hg
  split at h
  ·rename_i hc; cases h; exact⟨hg,(by intro e; cases e),hc⟩
  ·cases h
 ·rename_i cs' hg
  split at h
  ·rename_i hc; cases h; exact⟨hg,(by intro e; cases e),hc⟩
  ·cases h
 ·cases h
theorem tL {j:aI} {f:FuncId} {xs ys:Array Value} {v:Value} (h:VR j (.func (.func f) xs ys) v) (h1:xs.size=0) (h2:ys.size=0):v = .func (.func f) #[] #[]:=by
 cases h with
 | @func _ _ ys' _ ds a _ c _ =>
  have e1:ys'=#[]:=Array.eq_empty_of_size_eq_zero (a.symm.trans h1);have e2:ds=#[]:=Array.eq_empty_of_size_eq_zero (c.symm.trans h2);rw[e1,e2]
theorem Dy (w:World):(isAgg 33).run Tryz.prog w = .ok true w:=by rw[jV (by kernel_rfl) w,show dc Tryz.prog 33=true by kernel_rfl]
theorem BJ (w:World):(Go.sizeOf 33).run Tryz.prog w = .ok 2 w:=by rw[bM (by kernel_rfl) w,show an Tryz.prog 33=2 by kernel_rfl]
theorem Fh {n:Nat} (h:lim n=true):n≤1073741824:=Nat.le_of_ble_eq_true h
theorem xG (l:List (Int × Int)):((l.map qx).flatten).all aE=true:=by
 induction l with
 | nil=>rfl
 | cons x l ih=>rw[List.map_cons,List.flatten_cons,List.all_append,ih]; rfl
theorem DU:∀args w,(callFunc 51 args).run Tryz.prog w = .ok (.enter 51 args) w:=fun args w=>sU.call 51 _ _ Tryz.func51 rfl args w
theorem uM {pr:Bool} {args:List Value} {m m':AMem} {v:Value} (h:rH args m=some (v,m')) {j:aI} {w:World} {args':List Value} (hm:MR qf j m w) (hl:LR j args args') :
  gh qf.P pr 50 args'.toArray w (ja qf j m w v m'):=by
 have hcall:∀args w,(callFunc 50 args).run Tryz.prog w = .ok (.enter 50 args) w:=fun args w=>sU.call 50 _ _ Tryz.func50 rfl args w;unfold rH at h
 split at h
 ·rename_i c xs ys
  split at h
  ·rename_i hc; cases h;obtain⟨v0,vs,rfl,h1,hvs⟩:=hl.cons_inv;obtain⟨v1,v2,rfl,h2,h3⟩:=hvs.cons_inv;obtain rfl:=h3.bX;have e0:=tL h2 hc.1 hc.2;subst e0;cases h1;have hcon:=Go.Proofs.AnyF.slices_SortFunc_none Tryz.xU none c (.func (.func 51) #[] #[]) w
   change Calls Tryz.prog 50 _ _ _ at hcon
   refine .inl ⟨hcall _ _,callsIn_wide.2 ?_⟩;refine Calls.mono hcon ?_;rintro e w' ⟨rfl,rfl⟩;exact⟨_,rfl,j,.refl hm,VR.undef j⟩
  ·cases h
 ·rename_i b n n' xs ys
  split at h
  ·rename_i cs tg hcs;obtain⟨hg,htg,rfl,hcl,hp⟩:=uT hcs
   split at h
   ·rename_i l h4
    split at h
    ·rename_i hc; cases h;obtain⟨⟨h5,h6⟩,hlim⟩:=hc;obtain⟨v0,vs,rfl,h1,hvs⟩:=hl.cons_inv;obtain⟨v1,v2,rfl,h2,h3⟩:=hvs.cons_inv;obtain rfl:=h3.bX;have e0:=tL h2 h5 h6;subst e0;obtain⟨k,c',hk,rfl⟩:=h1.at
     have h0:∀x,(qx x).length=2:=fun _=>rfl;have ecs:=iy h4;have hlen:l.length=n:=by
      have:=ga h0 l;rw[←ecs,hcl] at this; omega
     have hH:Go.Sort.HoldsK qx 2 w k.c 0 l.toArray:=by
      unfold Go.Sort.HoldsK;rw[kq h0 (by decide),←ecs]
      exact zW hm hk hg htg hp
     have hcon:=Go.Proofs.AnyQ.slices_SortFunc_total Tryz.xU 2 (fun w=>Dy w) (fun w=>BJ w) qx h0 (fun x v hv=>by simp[qx,eP,eI] at hv; rcases hv with rfl|rfl<;>rfl) wG IV 51 #[] k.c 0 c' l.toArray w DU
      (Ak _ _ _ _) hH (hm.lt b k hk).2 (by have:=Fh hlim; simp; omega) I0
     change Calls Tryz.prog 50 _ _ _ at hcon
     rw[CK] at hcon;simp only[List.size_toArray,hlen] at hcon;refine .inl ⟨hcall _ _,callsIn_wide.2 ?_⟩;refine Calls.mono hcon ?_;rintro e w' ⟨rfl,q,os,rfl⟩;refine⟨_,rfl,j,?_,VR.undef j⟩;unfold Go.Proofs.sortWorldK Go.Sort.putRowK;rw[kq h0 (by decide)]
     exact EF hm hk hg (by rw[ga h0,hcl,List.length_mergeSort,hlen]) (xG _) q os
    ·cases h
   ·cases h
  ·cases h
 ·cases h
end Go.Proofs.YthmekkhpddehjaaGreat
end

section
namespace Go.Proofs.YthmekkhpddehjaaGreat
open Go Go.Ab
theorem E0:EnvOk qf:=uh vI fun f p hp args m v m' hrun j w args' hm hl=>by
 have hp':El f=some p:=hp;unfold El at hp'
 split at hp'
 ·rename_i hf;subst hf;cases hp';exact qj hrun hm hl
 ·split at hp'
  ·rename_i hf;subst hf;cases hp';exact lG (E:=qf) xI (fun x y c w hc=>EA Tryz.func144 (by kernel_rfl) (by kernel_rfl) (by kernel_rfl) (by kernel_rfl) x y c w hc) rfl hrun hm hl
  ·split at hp'
   ·rename_i hf;subst hf;cases hp';exact lG (E:=qf) wg (fun x y c w hc=>Em Tryz.func145 (by kernel_rfl) (by kernel_rfl) (by kernel_rfl) (by kernel_rfl) x y c w hc) rfl hrun hm hl
   ·cases hp'
theorem zY:∃fuel m',run qf fuel (.call 18 [] m14)=some (.val (.bool true) m')∧0≤m'.wl:=tz (E:=qf) (F:=rL) (n:=1000) (g:=0) Aa wT
theorem ru {args:List Value} {m m':AMem} {v:Value} (h:lH args m=some (v,m')) {j:aI} {w:World} {args':List Value} (hm:MR qf j m w) (hl:LR j args args') :
  gh qf.P (qf.cb 18).isSome 18 args'.toArray w (ja qf j m w v m'):=by
 unfold lH at h
 split at h
 ·cases h;obtain⟨fuel,m0,h1,h2⟩:=zY;exact sh (E:=qf) (gs:=fun _=>none) E0 (fun x c h=>by cases h) h1 h2 rfl hm (fun x c hx hg=>by cases hg) hl
 ·cases h
theorem Dh:EnvOk bq:=w5 (E:=qf) E0 (pr:=CH) fun f p hp=>by
 unfold CH at hp
 split at hp
 ·rename_i e;cases hp;subst e;exact .inr fun args m v m' h j w args' hm hl=>ru h hm hl
 ·split at hp
  ·rename_i e;cases hp;subst e;exact .inr fun args m v m' h j w args' hm hl=>uM h hm hl
  ·exact .inl hp
end Go.Proofs.YthmekkhpddehjaaGreat
end

section
namespace Go.Proofs.YthmekkhpddehjaaGreat
set_option maxRecDepth 100000
open Go Go.ChangeShapes Go.WideShapes Go.ChangeAt Go.WideMaps Go.WideElems Go.RowKit Go.Ab Go.Ab.W
section
variable {H : Type} {enc : TypeId × Value → H} {W : World} {sp : Nat → Bool} {held : Bool} {v : Value} {d : DataW H} {p : List MemPlace} {base : Nat}
end
theorem Ht:laidOutB Tryz.prog=true:=by kernel_rfl
theorem C1:mapsRowed Tryz.prog=true:=by kernel_rfl
theorem Ea:sizedB Tryz.prog=true:=by kernel_rfl
theorem Ap {H:Type} {enc:TypeId × Value→H} {f:FuncId} {fn:Func} {s:ChangeSpec} {W:World} {args:Array Value} {ds:List (DataW H)} {before:List MemPlace} {tb:TypeId} {fresh handsOn:Bool} {absArgs:List Value} (hpr:bq.cb f=none)
  (hvars:s.vars = []) (hres:fn.resultTypes.toList = [tb]) (hrs:fn.resultTypes.size=1) (htb:Tryz.prog.underlying tb=some .bool) (hpt:∀t ∈ fn.params.toList,t<Tryz.prog.types.size) (hfn:s.fn H ds = { results:=[.lit (.bool true)],args:=ds,vars:=[]})
  (hW:DataW.Whole enc Tryz.prog fn.params.toList s.vars false W args.toList ds [] before)
  (hl:LR (fp W) absArgs args.toList) (hc:aR bq f absArgs (eB W) (fun v m'=>∃_:Unit,v = .bool true∧Hp (eB W) m' [])) :
  Calls Tryz.prog f args W fun e W'=>∃v,e = .returned v∧s.post enc Tryz.prog fn false fresh handsOn false W args v W':=by
 obtain⟨v,m',⟨fuel,hrun⟩,_,rfl,hm'⟩:=hc;have hm:MR bq (fp W) (eB W) W:=FN (Nat.zero_le _);have hcall:=callsIn_wide.1 (lJ Dh hrun hpr hm hl);refine hcall.mono fun e W' ⟨v',he,j',sm,hv⟩=>?_;have hv':v' = .bool true:=cV rfl hv;subst hv';have hwl:(eB W).next≤m'.wl:=by
  have h1:=hm'.ext.wl;have h2:min (eB W).wl (eB W).next=(eB W).next:=Nat.min_self _
  omega
 exact⟨_,he,AW Ht C1 Ea hvars hres hrs htb hpt hfn hW sm.calm (sm.grown hm hwl)⟩
theorem Cy {W:World} (h:W.ShapedOpen Tryz.prog):0<W.heap.size:=by
 unfold World.ShapedOpen at h;obtain⟨_,h2⟩:=h;have e:((begin Tryz.prog (fun _ _=>0) default).world).heap.size=Tryz.prog.globals.size+5:=by
  unfold begin; simp only[Array.size_push,Array.size_mapIdx]
 obtain⟨o,o0,h3,_⟩:=h2 Tryz.prog.globals.size (Nat.le_refl _) (by rw[e]; omega)
 exact Nat.lt_of_le_of_lt (Nat.zero_le _) (Array.getElem?_eq_some_iff.1 h3).1
theorem I4:CL Tryz.prog 5 28=some [.sl 5,.int .i16,.int .i16,.int .u8,.bool,.bool]:=by kernel_rfl
theorem JH:CL Tryz.prog 5 5=some [.int .u8]:=by kernel_rfl
theorem bounds_i16 {n:Int} (h:(Lit.int .i16 n).wf=true) : -32768≤n∧n≤32767:=by
 have h':(decide ((-32768:Int)≤n) && decide (n≤32767))=true:=h
 simpa using h'
section
variable {H : Type} {enc : TypeId × Value → H} {W : World} {sp : Nat → Bool} {held : Bool} {v : Value} {d : DataW H} {p : List MemPlace} {base : Nat}
theorem xQ {P:Program} {base:Nat} {v:Value} (h:oL enc P W base sp held (.int .i16) v):∃n:Int,v = .int .i16 n∧-32768≤n∧n≤32767:=by
 obtain⟨n,rfl,hw⟩:=h;exact⟨n,rfl,bounds_i16 hw⟩
theorem uH {P:Program} {base:Nat} {v:Value} (h:oL enc P W base sp held .bool v):∃b,v = .bool b:=h
theorem Jb:∀(n:Nat) (cs:List Value) (x:DataW H × List MemPlace),DataW.trod enc Tryz.prog W 0 sp held n 5 cs=some x→∃p:Nat,cs=eN .u8 p∧p<256:=by
 intro n cs x h;obtain⟨v1,cs,rfl,h1,h⟩:=eU (vA 5 5 _ JH n _ x h);obtain rfl:=vw h;obtain⟨a,rfl,ha⟩:=AV h1;exact⟨a,rfl,ha⟩
theorem Hm (hok:Value.okWide Tryz.prog W .any base 28 v) (hs:0<W.heap.size) (h:DataW.Trod enc Tryz.prog W 0 sp held 28 v d p):∃(l:List Nat) (a:Option Addr) (c:Nat) (x1 x2:Int) (x3:Nat) (x4 x5:Bool),
  VR (fp W) (.agg #[.slice a l.length c,.int .i16 x1,.int .i16 x2,.int .u8 ((x3:Nat):Int),.bool x4,.bool x5]) v∧(∀q ∈ l,q<256)∧(-32768≤x1∧x1≤32767)∧(-32768≤x2∧x2≤32767)∧x3<256∧Rd (eB W) a c 1 l.length (l.map (eN .u8)):=by
 obtain⟨cs,rfl,_⟩:=okWide_struct (t:=28) (fs:=Tryz.prog.underlying 28 |>.elim #[] fun u=>match u with | .struct fs=>fs|_=>#[]) (by kernel_rfl) hok
 obtain⟨n,h⟩:=h;obtain⟨v1,r,hr,h1,h⟩:=eU (w7 I4 h);obtain⟨v2,r,rfl,h2,h⟩:=eU h;obtain⟨v3,r,rfl,h3,h⟩:=eU h;obtain⟨v4,r,rfl,h4,h⟩:=eU h;obtain⟨v5,r,rfl,h5,h⟩:=eU h;obtain⟨v6,r,rfl,h6,h⟩:=eU h;obtain rfl:=vw h;obtain⟨a,c,l,e1,e2,e3,e4⟩:=Fp (f:=eN .u8) (w:=1) (by kernel_rfl) (by omega) hs (fun q=>rfl) Jb h1
 obtain⟨x1,rfl,g1⟩:=xQ h2;obtain⟨x2,rfl,g2⟩:=xQ h3;obtain⟨x3,rfl,g3⟩:=AV h4;obtain⟨x4,rfl⟩:=uH h5;obtain⟨x5,rfl⟩:=uH h6;refine⟨l,a,c,x1,x2,x3,x4,x5,?_,e3,g1,g2,g3,e2⟩;refine FD (l:=[.slice a l.length c,.int .i16 x1,.int .i16 x2,.int .u8 ((x3:Nat):Int),.bool x4,.bool x5]) ?_;rw[hr];exact .cons e1 (LR.plain rfl)
end
end Go.Proofs.YthmekkhpddehjaaGreat
end

section
namespace Go.Proofs.YthmekkhpddehjaaGreat
open Go Go.Ab Go.Ab.W
set_option maxRecDepth 10000
def FU (_:Nat) (l1:List (Nat)) (_:Int) (_:Int) (_:Nat) (_:Bool) (_:Bool) (x10:Int):Option (Int) :=
br (decide ((l1.length:Int)=0)) (
some (Int.tmod x10 3)) (
gd (decide ((l1.length:Int)≠0)) (
gd (cX (Int.tmod x10 (l1.length:Int)) l1.length) (
ob (l1[(Int.tmod x10 (l1.length:Int)).toNat]?) fun x17 =>
some (IntKind.wrap .i64 ((x17:Nat):Int)))))
def qG (n:Nat) (l2:List (Nat)) (x5:Int) (x6:Int) (x7:Nat) (x8:Bool) (x9:Bool):(List (Int × Int) × List (Int × Int) × Int)→Option ((List (Int × Int) × List (Int × Int) × Int) ⊕ (List (Int × Int))):=fun(l0,l1,v0) =>
br (decide (v0<12)) (
ob (
ob (FU n l2 x5 x6 x7 x8 x9 v0) fun r0 =>
ob (
br (decide (Int.tmod r0 6=0)) (
some (!decide (Int.tmod v0 3=0))) (
some false)) fun v1 =>
br (v1) (
some l0) (
gd (cX v0 12) (
ob (l1[v0.toNat]?) fun(x3,x4) =>
ob (some (IntKind.wrap .i64 (x3*(IntKind.wrap .i64 (1+(Int.tmod (Int.tmod r0 6) 5)))))) fun y3 =>
gd (cX v0 12) (
ob (some (IntKind.wrap .i64 (x4*(IntKind.wrap .i64 (1+(Int.tmod (Int.tmod r0 6) 5)))))) fun y4 =>
gd (lim (l0++[(y3,y4)]).length) (
some (l0++[(y3,y4)])))))) fun l3 =>
some (.inl (l3,l1,IntKind.wrap .i64 (v0+1)))) (
some (.inr l0))
def oD (_:Nat) (v1:Int) (r0:Int):(List (Int × Int) × Nat × Int)→Option ((List (Int × Int) × Nat × Int) ⊕ (List (Int × Int) × Nat)):=fun(l0,n0,v0) =>
br (decide (v1≤v0)) (
ob (
gd (cX (IntKind.wrap .i64 ((n0:Int)-1)) n0) (
ob (l0[(IntKind.wrap .i64 ((n0:Int)-1)).toNat]?) fun(x3,x4) =>
br (!(decide (x3=v0) && decide (x4=IntKind.wrap .i64 (1+(Int.tmod r0 5))))) (
gd (lim (l0++[(v0,IntKind.wrap .i64 (1+(Int.tmod r0 5)))]).length) (
some ((l0++[(v0,IntKind.wrap .i64 (1+(Int.tmod r0 5)))]),(l0++[(v0,IntKind.wrap .i64 (1+(Int.tmod r0 5)))]).length))) (
some (l0,n0)))) fun(l1,n1) =>
some (.inl (l1,n1,IntKind.wrap .i64 (v0-1)))) (
some (.inr (l0,n0)))
def uO (n:Nat) (l1:List (Nat)) (x5:Int) (x6:Int) (x7:Nat) (x8:Bool) (x9:Bool):(List (Int × Int) × Nat × Int)→Option ((List (Int × Int) × Nat × Int) ⊕ (List (Int × Int) × Nat)):=fun(l0,n0,v0) =>
br (decide (0≤v0)) (
ob (FU n l1 x5 x6 x7 x8 x9 (IntKind.wrap .i64 (v0+1))) fun r0 =>
ob (
dx (oD n v0 r0) n (l0,n0,IntKind.wrap .i64 (v0+1))) fun(l2,n1) =>
some (.inl (l2,n1,IntKind.wrap .i64 (v0-1)))) (
some (.inr (l0,n0)))
def HW (n:Nat) (l0:List (Nat)) (x5:Int) (x6:Int) (x7:Nat) (x8:Bool) (x9:Bool):Option (List (Int × Int)) :=
br (!x8) (
ob (
dx (qG n l0 x5 x6 x7 x8 x9) n (([]:List (Int × Int)),([(2,0),(2,1),(1,2),(0,2),(-1,2),(-2,1),(-2,0),(-2,-1),(-1,-2),(0,-2),(1,-2),(2,-1)]:List (Int × Int)),0)) fun l1 =>
some l1) (
ob (FU n l0 x5 x6 x7 x8 x9 0) fun r0 =>
ob (
dx (uO n l0 x5 x6 x7 x8 x9) n ([(0,0),(IntKind.wrap .i64 (1+(Int.tmod r0 6)),0)],2,IntKind.wrap .i64 ((IntKind.wrap .i64 (1+(Int.tmod r0 6)))-1))) fun(l2,_) =>
some l2)
def Hk (_:Nat) (x1:Int) (x2:Int):Option (Bool) :=
br (decide (x1 < -1000000)) (
some true) (
br (decide (1000000<x1)) (
some true) (
br (decide (x2 < -1000000)) (
some true) (
some (decide (1000000<x2)))))
def AB (_:Nat) (l1:List (Int × Int)) (x5:Int):Option (Int × Int) :=
gd (decide ((l1.length:Int)≠0)) (
gd (cX (Int.tmod x5 (l1.length:Int)) l1.length) (
ob (l1[(Int.tmod x5 (l1.length:Int)).toNat]?) fun(x11,x12) =>
some (x11,x12)))
def AD (_:Nat) (x1:Int) (x2:Int) (x3:Int) (x4:Int) (x5:Int) (x6:Int):Option (Int) :=
ob (some (IntKind.wrap .i64 ((IntKind.wrap .i64 (x3-x1))*(IntKind.wrap .i64 (x6-x2))))) fun y10 =>
ob (some (IntKind.wrap .i64 ((IntKind.wrap .i64 (x4-x2))*(IntKind.wrap .i64 (x5-x1))))) fun y12 =>
some (IntKind.wrap .i64 (y10-y12))
def HJ (_:Nat) (x1:Int) (x2:Int) (x3:Int) (x4:Int) (x5:Int) (x6:Int):Option (Int) :=
ob (some (IntKind.wrap .i64 ((IntKind.wrap .i64 (x3-x1))*(IntKind.wrap .i64 (x5-x3))))) fun y10 =>
ob (some (IntKind.wrap .i64 ((IntKind.wrap .i64 (x4-x2))*(IntKind.wrap .i64 (x6-x4))))) fun y12 =>
some (IntKind.wrap .i64 (y10+y12))
def EJ (_:Nat) (x1:Int):Option (Int) :=
br (decide (0<x1)) (
some 1) (
br (decide (x1<0)) (
some (-1)) (
some 0))
def Ec (n:Nat) (x1:Int) (x2:Int) (x3:Int) (x4:Int) (x5:Int) (x6:Int):Option (Bool) :=
ob (AD n x1 x2 x3 x4 x5 x6) fun r11 =>
br (!decide (r11=0)) (
some false) (
br (decide (mi x1 x3≤x5)) (
br (decide (x5≤ma x1 x3)) (
br (decide (mi x2 x4≤x6)) (
some (decide (x6≤ma x2 x4))) (
some false)) (
some false)) (
some false))
def Iy (n:Nat) (x1:Int) (x2:Int) (x3:Int) (x4:Int) (x5:Int) (x6:Int) (x7:Int) (x8:Int):Option (Int) :=
ob (AD n x1 x2 x3 x4 x5 x6) fun r2 =>
ob (EJ n r2) fun r0 =>
ob (AD n x1 x2 x3 x4 x7 x8) fun r3 =>
ob (EJ n r3) fun r1 =>
ob (AD n x5 x6 x7 x8 x1 x2) fun r4 =>
ob (EJ n r4) fun r5 =>
ob (AD n x5 x6 x7 x8 x3 x4) fun r6 =>
ob (EJ n r6) fun r7 =>
ob (
br (decide (r0=0)) (
some (decide (r1=0))) (
some false)) fun v1 =>
br (v1) (
ob (some (IntKind.wrap .i64 ((ma (mi x1 x3) (mi x5 x7))-(mi (ma x1 x3) (ma x5 x7))))) fun y3 =>
ob (
br (decide (x1=x3)) (
ob (some (IntKind.wrap .i64 ((ma (mi x2 x4) (mi x6 x8))-(mi (ma x2 x4) (ma x6 x8))))) fun y4 =>
some y4) (
some y3)) fun v0 =>
br (decide (0<v0)) (
some 0) (
br (decide (v0=0)) (
some 1) (
some 3))) (
ob (
br (decide (IntKind.wrap .i64 (r0*r1)<0)) (
some (decide (IntKind.wrap .i64 (r5*r7)<0))) (
some false)) fun v2 =>
br (v2) (
some 2) (
ob (
ob (Ec n x1 x2 x3 x4 x5 x6) fun r8 =>
br (r8) (
some true) (
ob (Ec n x1 x2 x3 x4 x7 x8) fun r9 =>
br (r9) (
some true) (
ob (Ec n x5 x6 x7 x8 x1 x2) fun r10 =>
br (r10) (
some true) (
ob (Ec n x5 x6 x7 x8 x3 x4) fun r11 =>
some r11)))) fun v3 =>
br (v3) (
some 1) (
some 0)))
def ue (n:Nat) (l1:List (Int × Int)):Int→Option ((Int) ⊕ ((Int) ⊕ (Unit))):=fun v18 =>
br (decide (v18<(l1.length:Int))) (
gd (cX v18 l1.length) (
ob (l1[v18.toNat]?) fun(x35,x36) =>
ob (Hk n x35 x36) fun r39 =>
br (r39) (
some (.inr (.inl v18))) (
some (.inl (IntKind.wrap .i64 (v18+1)))))) (
some (.inr (.inr ())))
def uy (n:Nat) (l1:List (Int × Int)):Int→Option ((Int) ⊕ ((Int) ⊕ (Unit))):=fun v44 =>
br (decide (v44<(l1.length:Int))) (
gd (cX v44 l1.length) (
ob (l1[v44.toNat]?) fun(x62,x63) =>
ob (AB n l1 (IntKind.wrap .i64 (v44+1))) fun(r66,r67) =>
br ((decide (x62=r66) && decide (x63=r67))) (
some (.inr (.inl v44))) (
some (.inl (IntKind.wrap .i64 (v44+1)))))) (
some (.inr (.inr ())))
def tB (n:Nat) (l0:List (Int × Int)):Int→Option ((Int) ⊕ ((Int) ⊕ (Unit))):=fun v0 =>
br (decide (v0<(l0.length:Int))) (
ob (AB n l0 (IntKind.wrap .i64 ((IntKind.wrap .i64 (v0+(l0.length:Int)))-1))) fun(r0,r1) =>
gd (cX v0 l0.length) (
ob (l0[v0.toNat]?) fun(x3,x4) =>
ob (AB n l0 (IntKind.wrap .i64 (v0+1))) fun(r2,r3) =>
ob (
ob (AD n r0 r1 x3 x4 r2 r3) fun r4 =>
br (decide (r4=0)) (
ob (HJ n r0 r1 x3 x4 r2 r3) fun r5 =>
some (decide (r5<0))) (
some false)) fun v1 =>
br (v1) (
some (.inr (.inl v0))) (
some (.inl (IntKind.wrap .i64 (v0+1)))))) (
some (.inr (.inr ())))
def tC (n:Nat) (v1:Int) (l0:List (Int × Int)):Int→Option ((Int) ⊕ ((Unit) ⊕ (Unit))):=fun v0 =>
br (decide (IntKind.wrap .i64 (v0+1)<v1)) (
ob (α:=(Unit) ⊕ (Unit)) (
ob (
br (decide (v0=0)) (
some (decide (v1=IntKind.wrap .i64 ((l0.length:Int)-1)))) (
some false)) fun v2 =>
br (v2) (
some (.inl ())) (
gd (cX v0 l0.length) (
ob (l0[v0.toNat]?) fun(x3,x4) =>
gd (cX (IntKind.wrap .i64 (v0+1)) l0.length) (
ob (l0[(IntKind.wrap .i64 (v0+1)).toNat]?) fun(x10,x11) =>
gd (cX v1 l0.length) (
ob (l0[v1.toNat]?) fun(x12,x13) =>
ob (AB n l0 (IntKind.wrap .i64 (v1+1))) fun(r0,r1) =>
ob (Iy n x3 x4 x10 x11 x12 x13 r0 r1) fun r2 =>
br (!decide (r2=0)) (
some (.inr ())) (
some (.inl ()))))))) fun r3=>match r3 with
| .inl _ =>
some (.inl (IntKind.wrap .i64 (v0+1)))
| .inr _ =>
some (.inr (.inl ()))) (
some (.inr (.inr ())))
def tU (n:Nat) (l0:List (Int × Int)):Int→Option ((Int) ⊕ ((Int) ⊕ (Unit))):=fun v0 =>
br (decide (v0<(l0.length:Int))) (
ob (α:=(Unit) ⊕ (Unit)) (
dx (tC n v0 l0) n 0) fun r0=>match r0 with
| .inl _ =>
some (.inr (.inl v0))
| .inr _ =>
some (.inl (IntKind.wrap .i64 (v0+1)))) (
some (.inr (.inr ())))
def HU (n:Nat) (l0:List (Int × Int)):Option (Int × Int) :=
ob (
br (decide ((l0.length:Int)<3)) (
some true) (
some (decide (40<(l0.length:Int))))) fun v0 =>
br (v0) (
some (1,0)) (
ob (α:=(Int) ⊕ (Unit)) (
dx (ue n l0) n 0) fun r0=>match r0 with
| .inl v1 =>
some (2,v1)
| .inr _ =>
ob (α:=(Int) ⊕ (Unit)) (
dx (uy n l0) n 0) fun r1=>match r1 with
| .inl v2 =>
some (3,v2)
| .inr _ =>
ob (α:=(Int) ⊕ (Unit)) (
dx (tB n l0) n 0) fun r2=>match r2 with
| .inl v3 =>
some (4,v3)
| .inr _ =>
ob (α:=(Int) ⊕ (Unit)) (
dx (tU n l0) n 0) fun r3=>match r3 with
| .inl v4 =>
some (5,v4)
| .inr _ =>
some (0,0))
def E8 (n:Nat) (l1:List (Int × Int)):Option (Int) :=
ob (HU n l1) fun(r6,_) =>
br (decide (0<r6)) (
some 140) (
some 0)
def ui (_:Nat) (l1:List (Int × Int)):(List (Int × Int) × Nat × Int)→Option ((List (Int × Int) × Nat × Int) ⊕ (List (Int × Int) × Nat)):=fun(l25,n27,v28) =>
br (decide (0<v28)) (
gd (cX v28 l1.length) (
ob (l1[v28.toNat]?) fun(x46,x47) =>
gd (lim (l25++[(x46,x47)]).length) (
some (.inl ((l25++[(x46,x47)]),(l25++[(x46,x47)]).length,IntKind.wrap .i64 (v28-1)))))) (
some (.inr (l25,n27)))
def Hl (n:Nat) (l1:List (Int × Int)):Option (List (Int × Int) × Int) :=
ob (E8 n l1) fun r6 =>
br (!decide (r6=0)) (
some ([],r6)) (
gd (cX 0 l1.length) (
ob (l1[(0:Int).toNat]?) fun(x11,x12) =>
ob (
dx (ui n l1) n ([(x11,x12)],1,IntKind.wrap .i64 ((l1.length:Int)-1))) fun(l41,_) =>
some (l41,0)))
def qH (_:Nat) (l12:List (Int × Int)) (x5:Int) (x6:Int):(List (Int × Int) × Int × Int)→Option ((List (Int × Int) × Int × Int) ⊕ (List (Int × Int))):=fun(l33,v34,v35) =>
br (decide (v35<(l12.length:Int))) (
gd (cX v35 l12.length) (
ob (l33[v35.toNat]?) fun(x60,x61) =>
ob (some (IntKind.wrap .i64 ((IntKind.wrap .i64 (x60*v34))+(IntKind.wrap .i64 x5)))) fun y63 =>
gd (cX v35 l12.length) (
ob (some (IntKind.wrap .i64 ((IntKind.wrap .i64 (x61*v34))+(IntKind.wrap .i64 x6)))) fun y66 =>
gd (cX v35 l12.length) (
some (.inl ((l33.set v35.toNat (y63,y66)),v34,IntKind.wrap .i64 (v35+1))))))) (
some (.inr l33))
def Hd (n:Nat) (l1:List (Nat)) (x5:Int) (x6:Int) (x7:Nat) (x8:Bool) (x9:Bool):Option (List (Int × Int)) :=
ob (HW n l1 x5 x6 x7 x8 x9) fun l12 =>
ob (
dx (qH n l12 x5 x6) n (l12,IntKind.wrap .i64 (1+(IntKind.wrap .i64 ((x7:Nat):Int))),0)) fun l54 =>
ob (
br (x9) (
ob (Hl n l54) fun(l83,_) =>
some (l83,l83.length)) (
some (l54,l12.length))) fun(l78,_) =>
some l78
def HZ (_:Nat) (x3:Nat):(List (Int × Int))→Option ((List (Int × Int)) ⊕ (List (Int × Int))):=fun l0 =>
br (decide ((l0.length:Int)<IntKind.wrap .i64 (39+(IntKind.wrap .i64 ((x3%3:Nat):Int))))) (
gd (lim (l0++[(IntKind.wrap .i64 (3*(l0.length:Int)),IntKind.wrap .i64 ((l0.length:Int)*(l0.length:Int)))]).length) (
some (.inl (l0++[(IntKind.wrap .i64 (3*(l0.length:Int)),IntKind.wrap .i64 ((l0.length:Int)*(l0.length:Int)))])))) (
some (.inr l0))
def Jl (n:Nat) (x1:Nat) (x2:Nat) (x10:Nat) (x3:Int) (x5:Int) (l0:List (Int × Int)):Option (List (Int × Int)) :=
gd (okB 0 (mi (l0.length:Int) (50:Int)) l0.length) (
gd (lim (([]:List (Int × Int))++((l0.drop (0:Int).toNat).take ((mi (l0.length:Int) (50:Int):Int).toNat-(0:Int).toNat))).length) (
br (decide (((([]:List (Int × Int))++((l0.drop (0:Int).toNat).take ((mi (l0.length:Int) (50:Int):Int).toNat-(0:Int).toNat))).length:Int)=0)) (
some (([]:List (Int × Int))++((l0.drop (0:Int).toNat).take ((mi (l0.length:Int) (50:Int):Int).toNat-(0:Int).toNat)))) (
gd (decide (((([]:List (Int × Int))++((l0.drop (0:Int).toNat).take ((mi (l0.length:Int) (50:Int):Int).toNat-(0:Int).toNat))).length:Int)≠0)) (
ob (some (Int.tmod (IntKind.wrap .i64 ((x2:Nat):Int)) ((([]:List (Int × Int))++((l0.drop (0:Int).toNat).take ((mi (l0.length:Int) (50:Int):Int).toNat-(0:Int).toNat))).length:Int))) fun y3 =>
gd (decide (((([]:List (Int × Int))++((l0.drop (0:Int).toNat).take ((mi (l0.length:Int) (50:Int):Int).toNat-(0:Int).toNat))).length:Int)≠0)) (
ob (some (Int.tmod (IntKind.wrap .i64 ((x10:Nat):Int)) ((([]:List (Int × Int))++((l0.drop (0:Int).toNat).take ((mi (l0.length:Int) (50:Int):Int).toNat-(0:Int).toNat))).length:Int))) fun y4 =>
ob (
br (decide (x1%9=0)) (
gd (cX y3 ((([]:List (Int × Int))++((l0.drop (0:Int).toNat).take ((mi (l0.length:Int) (50:Int):Int).toNat-(0:Int).toNat))).length)) (
ob ((([]:List (Int × Int))++((l0.drop (0:Int).toNat).take ((mi (l0.length:Int) (50:Int):Int).toNat-(0:Int).toNat)))[y3.toNat]?) fun(_,_) =>
some (((([]:List (Int × Int))++((l0.drop (0:Int).toNat).take ((mi (l0.length:Int) (50:Int):Int).toNat-(0:Int).toNat))).set y3.toNat (x3,x5)),(([]:List (Int × Int))++((l0.drop (0:Int).toNat).take ((mi (l0.length:Int) (50:Int):Int).toNat-(0:Int).toNat))).length))) (
br (decide (x1%9=1)) (
gd (cX y4 ((([]:List (Int × Int))++((l0.drop (0:Int).toNat).take ((mi (l0.length:Int) (50:Int):Int).toNat-(0:Int).toNat))).length)) (
ob ((([]:List (Int × Int))++((l0.drop (0:Int).toNat).take ((mi (l0.length:Int) (50:Int):Int).toNat-(0:Int).toNat)))[y4.toNat]?) fun(x13,x14) =>
gd (cX y3 ((([]:List (Int × Int))++((l0.drop (0:Int).toNat).take ((mi (l0.length:Int) (50:Int):Int).toNat-(0:Int).toNat))).length)) (
ob ((([]:List (Int × Int))++((l0.drop (0:Int).toNat).take ((mi (l0.length:Int) (50:Int):Int).toNat-(0:Int).toNat)))[y3.toNat]?) fun(_,_) =>
some (((([]:List (Int × Int))++((l0.drop (0:Int).toNat).take ((mi (l0.length:Int) (50:Int):Int).toNat-(0:Int).toNat))).set y3.toNat (x13,x14)),(([]:List (Int × Int))++((l0.drop (0:Int).toNat).take ((mi (l0.length:Int) (50:Int):Int).toNat-(0:Int).toNat))).length)))) (
br (decide (x1%9=2)) (
gd (cX y4 ((([]:List (Int × Int))++((l0.drop (0:Int).toNat).take ((mi (l0.length:Int) (50:Int):Int).toNat-(0:Int).toNat))).length)) (
ob ((([]:List (Int × Int))++((l0.drop (0:Int).toNat).take ((mi (l0.length:Int) (50:Int):Int).toNat-(0:Int).toNat)))[y4.toNat]?) fun(x11,x12) =>
gd (cX y3 ((([]:List (Int × Int))++((l0.drop (0:Int).toNat).take ((mi (l0.length:Int) (50:Int):Int).toNat-(0:Int).toNat))).length)) (
ob ((([]:List (Int × Int))++((l0.drop (0:Int).toNat).take ((mi (l0.length:Int) (50:Int):Int).toNat-(0:Int).toNat)))[y3.toNat]?) fun(x15,x16) =>
gd (cX y3 ((([]:List (Int × Int))++((l0.drop (0:Int).toNat).take ((mi (l0.length:Int) (50:Int):Int).toNat-(0:Int).toNat))).length)) (
gd (cX y4 ((([]:List (Int × Int))++((l0.drop (0:Int).toNat).take ((mi (l0.length:Int) (50:Int):Int).toNat-(0:Int).toNat))).length)) (
ob (((([]:List (Int × Int))++((l0.drop (0:Int).toNat).take ((mi (l0.length:Int) (50:Int):Int).toNat-(0:Int).toNat))).set y3.toNat (x11,x12))[y4.toNat]?) fun(_,_) =>
some ((((([]:List (Int × Int))++((l0.drop (0:Int).toNat).take ((mi (l0.length:Int) (50:Int):Int).toNat-(0:Int).toNat))).set y3.toNat (x11,x12)).set y4.toNat (x15,x16)),(([]:List (Int × Int))++((l0.drop (0:Int).toNat).take ((mi (l0.length:Int) (50:Int):Int).toNat-(0:Int).toNat))).length)))))) (
br (decide (x1%9=3)) (
gd (okB 0 y3 ((([]:List (Int × Int))++((l0.drop (0:Int).toNat).take ((mi (l0.length:Int) (50:Int):Int).toNat-(0:Int).toNat))).length)) (
some ((((([]:List (Int × Int))++((l0.drop (0:Int).toNat).take ((mi (l0.length:Int) (50:Int):Int).toNat-(0:Int).toNat))).drop (0:Int).toNat).take ((y3:Int).toNat-(0:Int).toNat)),(((([]:List (Int × Int))++((l0.drop (0:Int).toNat).take ((mi (l0.length:Int) (50:Int):Int).toNat-(0:Int).toNat))).drop (0:Int).toNat).take ((y3:Int).toNat-(0:Int).toNat)).length))) (
br (decide (x1%9=4)) (
gd (lim ((([]:List (Int × Int))++((l0.drop (0:Int).toNat).take ((mi (l0.length:Int) (50:Int):Int).toNat-(0:Int).toNat)))++[(x3,x5)]).length) (
some (((([]:List (Int × Int))++((l0.drop (0:Int).toNat).take ((mi (l0.length:Int) (50:Int):Int).toNat-(0:Int).toNat)))++[(x3,x5)]),((([]:List (Int × Int))++((l0.drop (0:Int).toNat).take ((mi (l0.length:Int) (50:Int):Int).toNat-(0:Int).toNat)))++[(x3,x5)]).length))) (
br (decide (x1%9=5)) (
gd (cX y3 ((([]:List (Int × Int))++((l0.drop (0:Int).toNat).take ((mi (l0.length:Int) (50:Int):Int).toNat-(0:Int).toNat))).length)) (
ob ((([]:List (Int × Int))++((l0.drop (0:Int).toNat).take ((mi (l0.length:Int) (50:Int):Int).toNat-(0:Int).toNat)))[y3.toNat]?) fun(x17,x18) =>
gd (decide (((([]:List (Int × Int))++((l0.drop (0:Int).toNat).take ((mi (l0.length:Int) (50:Int):Int).toNat-(0:Int).toNat))).length:Int)≠0)) (
ob (some (Int.tmod (IntKind.wrap .i64 (y3+1)) ((([]:List (Int × Int))++((l0.drop (0:Int).toNat).take ((mi (l0.length:Int) (50:Int):Int).toNat-(0:Int).toNat))).length:Int))) fun y7 =>
gd (cX y7 ((([]:List (Int × Int))++((l0.drop (0:Int).toNat).take ((mi (l0.length:Int) (50:Int):Int).toNat-(0:Int).toNat))).length)) (
ob ((([]:List (Int × Int))++((l0.drop (0:Int).toNat).take ((mi (l0.length:Int) (50:Int):Int).toNat-(0:Int).toNat)))[y7.toNat]?) fun(x19,x20) =>
ob (some (IntKind.wrap .i64 ((IntKind.wrap .i64 (Int.tdiv x17 2))+(IntKind.wrap .i64 (Int.tdiv x19 2))))) fun y5 =>
ob (some (IntKind.wrap .i64 ((IntKind.wrap .i64 (Int.tdiv x18 2))+(IntKind.wrap .i64 (Int.tdiv x20 2))))) fun y6 =>
gd (okB 0 (IntKind.wrap .i64 (y3+1)) ((([]:List (Int × Int))++((l0.drop (0:Int).toNat).take ((mi (l0.length:Int) (50:Int):Int).toNat-(0:Int).toNat))).length)) (
gd (lim (([]:List (Int × Int))++(((([]:List (Int × Int))++((l0.drop (0:Int).toNat).take ((mi (l0.length:Int) (50:Int):Int).toNat-(0:Int).toNat))).drop (0:Int).toNat).take ((IntKind.wrap .i64 (y3+1):Int).toNat-(0:Int).toNat))).length) (
gd (lim ((([]:List (Int × Int))++(((([]:List (Int × Int))++((l0.drop (0:Int).toNat).take ((mi (l0.length:Int) (50:Int):Int).toNat-(0:Int).toNat))).drop (0:Int).toNat).take ((IntKind.wrap .i64 (y3+1):Int).toNat-(0:Int).toNat)))++[(y5,y6)]).length) (
gd (okB (IntKind.wrap .i64 (y3+1)) ((([]:List (Int × Int))++((l0.drop (0:Int).toNat).take ((mi (l0.length:Int) (50:Int):Int).toNat-(0:Int).toNat))).length:Int) ((([]:List (Int × Int))++((l0.drop (0:Int).toNat).take ((mi (l0.length:Int) (50:Int):Int).toNat-(0:Int).toNat))).length)) (
gd (lim (((([]:List (Int × Int))++(((([]:List (Int × Int))++((l0.drop (0:Int).toNat).take ((mi (l0.length:Int) (50:Int):Int).toNat-(0:Int).toNat))).drop (0:Int).toNat).take ((IntKind.wrap .i64 (y3+1):Int).toNat-(0:Int).toNat)))++[(y5,y6)])++(((([]:List (Int × Int))++((l0.drop (0:Int).toNat).take ((mi (l0.length:Int) (50:Int):Int).toNat-(0:Int).toNat))).drop (IntKind.wrap .i64 (y3+1):Int).toNat).take ((((([]:List (Int × Int))++((l0.drop (0:Int).toNat).take ((mi (l0.length:Int) (50:Int):Int).toNat-(0:Int).toNat))).length:Int):Int).toNat-(IntKind.wrap .i64 (y3+1):Int).toNat))).length) (
some ((((([]:List (Int × Int))++(((([]:List (Int × Int))++((l0.drop (0:Int).toNat).take ((mi (l0.length:Int) (50:Int):Int).toNat-(0:Int).toNat))).drop (0:Int).toNat).take ((IntKind.wrap .i64 (y3+1):Int).toNat-(0:Int).toNat)))++[(y5,y6)])++(((([]:List (Int × Int))++((l0.drop (0:Int).toNat).take ((mi (l0.length:Int) (50:Int):Int).toNat-(0:Int).toNat))).drop (IntKind.wrap .i64 (y3+1):Int).toNat).take ((((([]:List (Int × Int))++((l0.drop (0:Int).toNat).take ((mi (l0.length:Int) (50:Int):Int).toNat-(0:Int).toNat))).length:Int):Int).toNat-(IntKind.wrap .i64 (y3+1):Int).toNat))),(((([]:List (Int × Int))++(((([]:List (Int × Int))++((l0.drop (0:Int).toNat).take ((mi (l0.length:Int) (50:Int):Int).toNat-(0:Int).toNat))).drop (0:Int).toNat).take ((IntKind.wrap .i64 (y3+1):Int).toNat-(0:Int).toNat)))++[(y5,y6)])++(((([]:List (Int × Int))++((l0.drop (0:Int).toNat).take ((mi (l0.length:Int) (50:Int):Int).toNat-(0:Int).toNat))).drop (IntKind.wrap .i64 (y3+1):Int).toNat).take ((((([]:List (Int × Int))++((l0.drop (0:Int).toNat).take ((mi (l0.length:Int) (50:Int):Int).toNat-(0:Int).toNat))).length:Int):Int).toNat-(IntKind.wrap .i64 (y3+1):Int).toNat))).length)))))))))) (
br (decide (x1%9=6)) (
ob (
dx (HZ n x10) n (([]:List (Int × Int))++((l0.drop (0:Int).toNat).take ((mi (l0.length:Int) (50:Int):Int).toNat-(0:Int).toNat)))) fun l1 =>
some (l1,l1.length)) (
br (decide (x1%9=7)) (
gd (cX y3 ((([]:List (Int × Int))++((l0.drop (0:Int).toNat).take ((mi (l0.length:Int) (50:Int):Int).toNat-(0:Int).toNat))).length)) (
ob ((([]:List (Int × Int))++((l0.drop (0:Int).toNat).take ((mi (l0.length:Int) (50:Int):Int).toNat-(0:Int).toNat)))[y3.toNat]?) fun(x21,x4) =>
gd (cX y3 ((([]:List (Int × Int))++((l0.drop (0:Int).toNat).take ((mi (l0.length:Int) (50:Int):Int).toNat-(0:Int).toNat))).length)) (
gd (cX y3 ((([]:List (Int × Int))++((l0.drop (0:Int).toNat).take ((mi (l0.length:Int) (50:Int):Int).toNat-(0:Int).toNat))).length)) (
gd (cX y3 ((([]:List (Int × Int))++((l0.drop (0:Int).toNat).take ((mi (l0.length:Int) (50:Int):Int).toNat-(0:Int).toNat))).length)) (
ob (((([]:List (Int × Int))++((l0.drop (0:Int).toNat).take ((mi (l0.length:Int) (50:Int):Int).toNat-(0:Int).toNat))).set y3.toNat (x4,x4))[y3.toNat]?) fun(x22,_) =>
some ((((([]:List (Int × Int))++((l0.drop (0:Int).toNat).take ((mi (l0.length:Int) (50:Int):Int).toNat-(0:Int).toNat))).set y3.toNat (x4,x4)).set y3.toNat (x22,x21)),(([]:List (Int × Int))++((l0.drop (0:Int).toNat).take ((mi (l0.length:Int) (50:Int):Int).toNat-(0:Int).toNat))).length)))))) (
some ((([]:List (Int × Int))++((l0.drop (0:Int).toNat).take ((mi (l0.length:Int) (50:Int):Int).toNat-(0:Int).toNat))),(([]:List (Int × Int))++((l0.drop (0:Int).toNat).take ((mi (l0.length:Int) (50:Int):Int).toNat-(0:Int).toNat))).length)))))))))) fun(l2,_) =>
some l2)))))
def JP (_:Nat) (l1:List (Int × Int)):Option (List (Int × Int)) :=
gd (okB 0 (mi (l1.length:Int) (50:Int)) l1.length) (
some ((l1.drop (0:Int).toNat).take ((mi (l1.length:Int) (50:Int):Int).toNat-(0:Int).toNat)))
def JO (n:Nat) (l1:List (Int × Int)) (l6:List (Nat)) (x11:Int) (x12:Int) (x13:Nat) (x14:Bool) (x15:Bool) (x16:Nat) (x17:Nat) (x18:Nat) (x19:Int) (x20:Int) (x21:Nat) (x22:Nat) (x23:Nat) (x24:Int) (x25:Int):Option (List (Int × Int) × List (Int × Int) × List (Int × Int) × List (Int × Int)) :=
ob (Hd n l6 x11 x12 x13 x14 x15) fun l30 =>
ob (Jl n x16 x17 x18 x19 x20 l30) fun l34 =>
ob (Jl n x21 x22 x23 x24 x25 l34) fun l39 =>
ob (JP n l1) fun l44 =>
some (l30,l34,l39,l44)
def vp (n:Nat) (l1:List (Int × Int)):Int→Option ((Int) ⊕ ((Int) ⊕ (Unit))):=fun v49 =>
br (decide (v49<(l1.length:Int))) (
gd (cX v49 l1.length) (
ob (l1[v49.toNat]?) fun(x66,x67) =>
ob (Hc n x66 x67) fun r70 =>
br (r70) (
some (.inr (.inl v49))) (
some (.inl (IntKind.wrap .i64 (v49+1)))))) (
some (.inr (.inr ())))
def va (_:Nat) (l0:List (Int × Int)):Int→Option ((Int) ⊕ ((Int) ⊕ (Unit))):=fun v0 =>
br (decide (v0<(l0.length:Int))) (
gd (cX v0 l0.length) (
ob (l0[v0.toNat]?) fun(x3,x4) =>
gd (decide ((l0.length:Int)≠0)) (
gd (cX (Int.tmod (IntKind.wrap .i64 (v0+1)) (l0.length:Int)) l0.length) (
ob (l0[(Int.tmod (IntKind.wrap .i64 (v0+1)) (l0.length:Int)).toNat]?) fun(x10,x11) =>
ob (α:=(Unit) ⊕ (Unit)) (
br ((decide (x3=x10) && decide (x4=x11))) (
some (.inl ())) (
some (.inr ()))) fun r0=>match r0 with
| .inl _ =>
some (.inr (.inl v0))
| .inr _ =>
some (.inl (IntKind.wrap .i64 (v0+1))))))) (
some (.inr (.inr ())))
def u7 (n:Nat) (l0:List (Int × Int)):Int→Option ((Int) ⊕ ((Int) ⊕ (Unit))):=fun v0 =>
br (decide (v0<(l0.length:Int))) (
gd (cX v0 l0.length) (
ob (l0[v0.toNat]?) fun(x3,x4) =>
gd (decide ((l0.length:Int)≠0)) (
gd (cX (Int.tmod (IntKind.wrap .i64 (v0+1)) (l0.length:Int)) l0.length) (
ob (l0[(Int.tmod (IntKind.wrap .i64 (v0+1)) (l0.length:Int)).toNat]?) fun(x10,x11) =>
ob (α:=(Unit) ⊕ (Unit)) (
gd (decide ((l0.length:Int)≠0)) (
ob (some (Int.tmod (IntKind.wrap .i64 ((IntKind.wrap .i64 (v0+(l0.length:Int)))-1)) (l0.length:Int))) fun y3 =>
gd (cX y3 l0.length) (
ob (l0[y3.toNat]?) fun(x12,x13) =>
ob (
ob (AF n x12 x13 x3 x4 x10 x11) fun r0 =>
br (decide (r0=0)) (
ob (some (IntKind.wrap .i64 ((IntKind.wrap .i64 (x3-x12))*(IntKind.wrap .i64 (x10-x3))))) fun y4 =>
ob (some (IntKind.wrap .i64 ((IntKind.wrap .i64 (x4-x13))*(IntKind.wrap .i64 (x11-x4))))) fun y5 =>
some (decide (IntKind.wrap .i64 (y4+y5)<0))) (
some false)) fun v1 =>
br (v1) (
some (.inl ())) (
some (.inr ()))))) fun r1=>match r1 with
| .inl _ =>
some (.inr (.inl v0))
| .inr _ =>
some (.inl (IntKind.wrap .i64 (v0+1))))))) (
some (.inr (.inr ())))
def u0 (n:Nat) (l0:List (Int × Int)) (v1:Int) (x3:Int) (x4:Int) (x10:Int) (x11:Int):Int→Option ((Int) ⊕ ((Unit) ⊕ ((Unit) ⊕ (Unit)))):=fun v0 =>
br (decide (v0<(l0.length:Int))) (
gd (cX v0 l0.length) (
ob (l0[v0.toNat]?) fun(x12,x13) =>
gd (decide ((l0.length:Int)≠0)) (
gd (cX (Int.tmod (IntKind.wrap .i64 (v0+1)) (l0.length:Int)) l0.length) (
ob (l0[(Int.tmod (IntKind.wrap .i64 (v0+1)) (l0.length:Int)).toNat]?) fun(x14,x15) =>
ob (α:=(Unit) ⊕ ((Unit) ⊕ (Unit))) (
br (decide (IntKind.wrap .i64 (v1-1)≤v0)) (
some (.inl ())) (
ob (
br (decide (v0=0)) (
some (decide (v1=IntKind.wrap .i64 ((l0.length:Int)-1)))) (
some false)) fun v2 =>
br (v2) (
some (.inr (.inl ()))) (
ob (HL n v1 x3 x4 x10 x11 v0 x12 x13 x14 x15) fun r0 =>
br (!decide (r0=0)) (
some (.inr (.inr ()))) (
some (.inr (.inl ())))))) fun r1=>match r1 with
| .inl _ =>
some (.inr (.inl ()))
| .inr (.inl _) =>
some (.inl (IntKind.wrap .i64 (v0+1)))
| .inr (.inr _) =>
some (.inr (.inr (.inl ()))))))) (
some (.inr (.inr (.inr ()))))
def uC (n:Nat) (l0:List (Int × Int)):Int→Option ((Int) ⊕ ((Int) ⊕ (Unit))):=fun v0 =>
br (decide (v0<(l0.length:Int))) (
gd (cX v0 l0.length) (
ob (l0[v0.toNat]?) fun(x3,x4) =>
gd (decide ((l0.length:Int)≠0)) (
gd (cX (Int.tmod (IntKind.wrap .i64 (v0+1)) (l0.length:Int)) l0.length) (
ob (l0[(Int.tmod (IntKind.wrap .i64 (v0+1)) (l0.length:Int)).toNat]?) fun(x10,x11) =>
ob (α:=(Unit) ⊕ (Unit)) (
ob (
some ()) fun _ =>
ob (α:=(Unit) ⊕ ((Unit) ⊕ (Unit))) (
ob (α:=(Unit) ⊕ ((Unit) ⊕ (Unit))) (
dx (u0 n l0 v0 x3 x4 x10 x11) n 0) fun r0=>match r0 with
| .inl _ =>
some (.inl ())
| .inr (.inl _) =>
some (.inr (.inl ()))
| .inr (.inr _) =>
some (.inr (.inr ()))) fun r1=>match r1 with
| .inl _ =>
some (.inl ())
| .inr (.inl _) =>
some (.inr ())
| .inr (.inr _) =>
some (.inl ())) fun r2=>match r2 with
| .inl _ =>
some (.inl (IntKind.wrap .i64 (v0+1)))
| .inr _ =>
some (.inr (.inl v0)))))) (
some (.inr (.inr ())))
def Iw (n:Nat) (l0:List (Int × Int)):Option (Int × Int) :=
ob (
br (decide ((l0.length:Int)<3)) (
some true) (
some (decide (40<(l0.length:Int))))) fun v1 =>
br (v1) (
some (1,0)) (
ob (
ob (α:=(Int) ⊕ (Unit)) (
dx (vp n l0) n 0) fun r0=>match r0 with
| .inl v2 =>
some v2
| .inr _ =>
some (-1)) fun v0 =>
br (decide (0≤v0)) (
some (2,v0)) (
ob (
some ()) fun _ =>
ob (α:=(Int) ⊕ (Unit)) (
ob (α:=(Int) ⊕ (Unit)) (
dx (va n l0) n 0) fun r1=>match r1 with
| .inl v3 =>
some (.inl v3)
| .inr _ =>
some (.inr ())) fun r2=>match r2 with
| .inl v4 =>
some (3,v4)
| .inr _ =>
ob (
some ()) fun _ =>
ob (α:=(Int) ⊕ (Unit)) (
ob (α:=(Int) ⊕ (Unit)) (
dx (u7 n l0) n 0) fun r3=>match r3 with
| .inl v5 =>
some (.inl v5)
| .inr _ =>
some (.inr ())) fun r4=>match r4 with
| .inl v6 =>
some (4,v6)
| .inr _ =>
ob (
some ()) fun _ =>
ob (α:=(Int) ⊕ (Unit)) (
ob (α:=(Int) ⊕ (Unit)) (
dx (uC n l0) n 0) fun r5=>match r5 with
| .inl v7 =>
some (.inl v7)
| .inr _ =>
some (.inr ())) fun r6=>match r6 with
| .inl v8 =>
some (5,v8)
| .inr _ =>
some (0,0)))
def E6 (n:Nat) (l1:List (Int × Int)):Option (Int) :=
ob (Iw n l1) fun(r6,_) =>
br (decide (0<r6)) (
some 140) (
some 0)
def Ic (_:Nat) (l1:List (Int × Int)) (l5:List (Int × Int)):Int→Option ((Int) ⊕ ((Unit) ⊕ (Unit))):=fun v11 =>
br (decide (v11<(l1.length:Int))) (
gd (cX v11 l1.length) (
ob (l1[v11.toNat]?) fun(x31,x32) =>
gd (cX v11 l5.length) (
ob (l5[v11.toNat]?) fun(x37,x38) =>
br (!(decide (x31=x37) && decide (x32=x38))) (
some (.inr (.inl ()))) (
some (.inl (IntKind.wrap .i64 (v11+1))))))) (
some (.inr (.inr ())))
def JL (n:Nat) (l1:List (Int × Int)) (l5:List (Int × Int)):Option (Bool) :=
br (!decide ((l1.length:Int)=(l5.length:Int))) (
some false) (
ob (α:=(Unit) ⊕ (Unit)) (
dx (Ic n l1 l5) n 0) fun r42=>match r42 with
| .inl _ =>
some false
| .inr _ =>
some true)
end Go.Proofs.YthmekkhpddehjaaGreat
end

section
namespace Go.Proofs.YthmekkhpddehjaaGreat
open Go Go.Ab Go.Ab.W
set_option maxRecDepth 10000
set_option maxHeartbeats 4000000
attribute [local irreducible] Tm.at Trie.set Trie.get AMem.get AMem.set AMem.alloc AMem.ww AMem.kill
def JC (_:Nat) (l:List (Int × Int)):Option (List (Int × Int)):=gd (lim l.length) (some l)
end Go.Proofs.YthmekkhpddehjaaGreat
end

section
namespace Go.Ab.W
open Go Go.Ab
attribute [local irreducible] Tm.at Trie.set Trie.get AMem.get AMem.set AMem.alloc AMem.ww AMem.kill
section
variable {E : Env} {n : Nat} {m0 m : AMem} {fs : Fs} {ps : List Pc} {x y : Operand} {ty : TypeId}
variable {α : Type} {f : α → List Value} {elem : TypeId} {k cap w l : Nat} {a : Option Addr} {es : List (List Value)} {xs : List α}
end
section
variable {E : Env} {n : Nat} {m0 : AMem} {fs : Fs} {ps : List Pc} {ops : Array Oper} {os : List Oper} {K : Tm → AMem → Prop} {dr : Bool}
end
end Go.Ab.W
end

section
namespace Go.Proofs.YthmekkhpddehjaaGreat
open Go Go.Ab Go.Ab.W
set_option maxRecDepth 10000
def qB (_:Nat) (l0:List (Int × Int)):(Int × Int)→Option ((Int × Int) ⊕ (Int)):=fun(v0,v1) =>
br (decide (v0<(l0.length:Int))) (
gd (cX v0 l0.length) (
ob (l0[v0.toNat]?) fun(x10,x11) =>
gd (decide ((l0.length:Int)≠0)) (
gd (cX (Int.tmod (IntKind.wrap .i64 (v0+1)) (l0.length:Int)) l0.length) (
ob (l0[(Int.tmod (IntKind.wrap .i64 (v0+1)) (l0.length:Int)).toNat]?) fun(x12,x13) =>
ob (
gd (cX 0 l0.length) (
ob (l0[(0:Int).toNat]?) fun(x3,x4) =>
gd (cX 0 l0.length) (
ob (some (IntKind.wrap .i64 ((IntKind.wrap .i64 (x10-x3))*(IntKind.wrap .i64 (x13-x4))))) fun y3 =>
gd (cX 0 l0.length) (
gd (cX 0 l0.length) (
ob (some (IntKind.wrap .i64 ((IntKind.wrap .i64 (x11-x4))*(IntKind.wrap .i64 (x12-x3))))) fun y4 =>
some (IntKind.wrap .i64 ((IntKind.wrap .i64 (v1+y3))-y4))))))) fun v2 =>
some (.inl (IntKind.wrap .i64 (v0+1),v2)))))) (
some (.inr v1))
def Hj (n:Nat) (l0:List (Int × Int)):Option (Int × Int) :=
ob (E6 n l0) fun r0 =>
br (!decide (r0=0)) (
some (0,r0)) (
ob (
some ()) fun _ =>
ob (
ob (
dx (qB n l0) n (0,0)) fun v0 =>
some v0) fun v1 =>
some (v1,0))
def Iv (n:Nat) (l1:List (Int × Int)):(Int × Int)→Option ((Int × Int) ⊕ (Int)):=fun(v7,v8) =>
br (decide (v8<(l1.length:Int))) (
gd (cX v8 l1.length) (
ob (l1[v8.toNat]?) fun(x30,x31) =>
ob (AB n l1 (IntKind.wrap .i64 (v8+1))) fun(r34,r35) =>
ob (some (IntKind.wrap .i64 ((IntKind.wrap .i64 (v7+(IntKind.wrap .i64 (x30*r35))))-(IntKind.wrap .i64 (x31*r34))))) fun y38 =>
some (.inl (y38,IntKind.wrap .i64 (v8+1))))) (
some (.inr v7))
def JB (n:Nat) (l1:List (Int × Int)):Option (Int) :=
ob (
dx (Iv n l1) n (0,0)) fun v25 =>
some v25
def JE (n:Nat) (l1:List (Int × Int)):Option (Int × Int) :=
ob (E8 n l1) fun r6 =>
br (!decide (r6=0)) (
some (0,r6)) (
ob (JB n l1) fun r9 =>
some (r9,0))
def IB (n:Nat) (l0:List (Int × Int)):(Int × List (Bool))→Option ((Int × List (Bool)) ⊕ (List (Bool))):=fun(v0,l1) =>
br (decide (v0<(l0.length:Int))) (
gd (cX v0 l0.length) (
ob (l0[v0.toNat]?) fun(x3,x4) =>
gd (decide ((l0.length:Int)≠0)) (
gd (cX (Int.tmod (IntKind.wrap .i64 (v0+1)) (l0.length:Int)) l0.length) (
ob (l0[(Int.tmod (IntKind.wrap .i64 (v0+1)) (l0.length:Int)).toNat]?) fun(x10,x11) =>
ob (
gd (decide ((l0.length:Int)≠0)) (
gd (cX (Int.tmod (IntKind.wrap .i64 (v0+2)) (l0.length:Int)) l0.length) (
ob (l0[(Int.tmod (IntKind.wrap .i64 (v0+2)) (l0.length:Int)).toNat]?) fun(x12,x13) =>
ob (AF n x3 x4 x10 x11 x12 x13) fun r0 =>
gd (cX (IntKind.wrap .i64 (1+r0)) 3) (
ob (l1[(IntKind.wrap .i64 (1+r0)).toNat]?) fun _ =>
some (l1.set ((IntKind.wrap .i64 (1+r0)).toNat) true))))) fun l2 =>
some (.inl (IntKind.wrap .i64 (v0+1),l2)))))) (
some (.inr l1))
def JG (n:Nat) (l0:List (Int × Int)):Option (Bool × Int) :=
ob (E6 n l0) fun r0 =>
br (!decide (r0=0)) (
some (false,r0)) (
ob (
some ()) fun _ =>
ob (
ob (
dx (IB n l0) n (0,([false,false,false]:List (Bool)))) fun l1 =>
some l1) fun l2 =>
ob (JN l2) fun(x3,_,x4) =>
some (!(x3 == x4),0))
def HK (n:Nat) (l0:List (Int × Int)):(Bool × Bool × Int)→Option ((Bool × Bool × Int) ⊕ (Bool × Bool)):=fun(v1,v2,v0) =>
br (decide (v0<(l0.length:Int))) (
ob (
gd (cX v0 l0.length) (
ob (l0[v0.toNat]?) fun(x3,x4) =>
ob (AB n l0 (IntKind.wrap .i64 (v0+1))) fun(r1,r2) =>
ob (AB n l0 (IntKind.wrap .i64 (v0+2))) fun(r3,r4) =>
ob (AD n x3 x4 r1 r2 r3 r4) fun r0 =>
ob (
br (v1) (
some true) (
some (decide (0<r0)))) fun v3 =>
br (v2) (
some (v3,true)) (
some (v3,decide (r0<0))))) fun(v4,v5) =>
some (.inl (v4,v5,IntKind.wrap .i64 (v0+1)))) (
some (.inr (v1,v2)))
def Jz (n:Nat) (l1:List (Int × Int)):Option (Bool × Int) :=
ob (E8 n l1) fun r6 =>
br (!decide (r6=0)) (
some (false,r6)) (
ob (
dx (HK n l1) n (false,false,0)) fun(v62,v63) =>
some (!(v62 == v63),0))
def Hy (_:Nat) (l1:List (Int × Int)):(List (Int × Int) × Int × Int)→Option ((List (Int × Int) × Int × Int) ⊕ (List (Int × Int))):=fun(l0,v0,v1) =>
br (decide (v0<v1)) (
gd (cX v1 (l1.length-1:Nat)) (
ob (l0[(1+v1.toNat)]?) fun(x3,x4) =>
gd (cX v0 (l1.length-1:Nat)) (
ob (l0[(1+v0.toNat)]?) fun(x10,x11) =>
gd (cX v0 (l1.length-1:Nat)) (
gd (cX v1 (l1.length-1:Nat)) (
ob ((l0.set (1+v0.toNat) (x3,x4))[(1+v1.toNat)]?) fun(_,_) =>
some (.inl (((l0.set (1+v0.toNat) (x3,x4)).set (1+v1.toNat) (x10,x11)),IntKind.wrap .i64 (v0+1),IntKind.wrap .i64 (v1-1)))))))) (
some (.inr l0))
def JK (n:Nat) (l1:List (Int × Int)):Option (List (Int × Int) × Int) :=
ob (E6 n l1) fun r0 =>
br (!decide (r0=0)) (
some ([],r0)) (
ob (JC n l1) fun l0 =>
gd (decide (1<l0.length)) (
ob (
ob (
dx (Hy n l0) n (l0,0,IntKind.wrap .i64 (((l0.length-1:Nat):Int)-1))) fun l2 =>
some l2) fun l3 =>
some (l3,0)))
def pD (n:Nat) (l0:List (Int × Int)) (x5:Int) (x6:Int):(Int × Int)→Option ((Int × Int) ⊕ ((Int) ⊕ (Int))):=fun(v0,v1) =>
br (decide (v0<(l0.length:Int))) (
gd (cX v0 l0.length) (
ob (l0[v0.toNat]?) fun(x10,x3) =>
gd (decide ((l0.length:Int)≠0)) (
gd (cX (Int.tmod (IntKind.wrap .i64 (v0+1)) (l0.length:Int)) l0.length) (
ob (l0[(Int.tmod (IntKind.wrap .i64 (v0+1)) (l0.length:Int)).toNat]?) fun(x11,x4) =>
ob (α:=(Unit) ⊕ (Int)) (
ob (y9 n v0 x10 x3 x11 x4 x5 x6) fun r1 =>
br (r1) (
some (.inl ())) (
ob (AF n x10 x3 x11 x4 x5 x6) fun r0 =>
ob (
br (decide (x3≤x6)) (
br (decide (x6<x4)) (
some (decide (0<r0))) (
some false)) (
some false)) fun v2 =>
br (v2) (
some (.inr (IntKind.wrap .i64 (v1+1)))) (
ob (
br (decide (x6<x3)) (
br (decide (x4≤x6)) (
some (decide (r0<0))) (
some false)) (
some false)) fun v3 =>
br (v3) (
some (.inr (IntKind.wrap .i64 (v1-1)))) (
some (.inr v1))))) fun r2=>match r2 with
| .inl _ =>
some (.inr (.inl v1))
| .inr v4 =>
some (.inl (IntKind.wrap .i64 (v0+1),v4)))))) (
some (.inr (.inr v1)))
def Hi (n:Nat) (l0:List (Int × Int)) (x5:Int) (x6:Int):Option (Int × Int) :=
ob (E6 n l0) fun r0 =>
br (!decide (r0=0)) (
some (0,r0)) (
ob (Hc n x5 x6) fun r1 =>
br (r1) (
some (0,2)) (
ob (
some ()) fun _ =>
ob (α:=(Int) ⊕ (Int)) (
ob (α:=(Int) ⊕ (Int)) (
dx (pD n l0 x5 x6) n (0,0)) fun r2=>match r2 with
| .inl v0 =>
some (.inl v0)
| .inr v1 =>
some (.inr v1)) fun r3=>match r3 with
| .inl _ =>
some (1,0)
| .inr v2 =>
br (!decide (v2=0)) (
some (2,0)) (
some (0,0))))
def Ij (n:Nat) (l0:List (Int × Int)) (x5:Int) (x6:Int):(Bool × Int)→Option ((Bool × Int) ⊕ ((Unit) ⊕ (Bool))):=fun(v1,v0) =>
br (decide (v0<(l0.length:Int))) (
ob (α:=(Unit) ⊕ (Bool)) (
gd (cX v0 l0.length) (
ob (l0[v0.toNat]?) fun(x4,x3) =>
ob (AB n l0 (IntKind.wrap .i64 (v0+1))) fun(r1,r0) =>
ob (Ec n x4 x3 r1 r0 x5 x6) fun r2 =>
br (r2) (
some (.inl ())) (
ob (
br (!((decide (x6<x3)) == (decide (x6<r0)))) (
ob (AD n x4 x3 r1 r0 x5 x6) fun r3 =>
some ((decide (0<r3)) == (decide (x3<r0)))) (
some false)) fun v2 =>
br (v2) (
some (.inr (!v1))) (
some (.inr v1))))) fun r4=>match r4 with
| .inl _ =>
some (.inr (.inl ()))
| .inr v3 =>
some (.inl (v3,IntKind.wrap .i64 (v0+1)))) (
some (.inr (.inr v1)))
def Jv (n:Nat) (l0:List (Int × Int)) (x5:Int) (x6:Int):Option (Int) :=
ob (α:=(Unit) ⊕ (Bool)) (
dx (Ij n l0 x5 x6) n (false,0)) fun r0=>match r0 with
| .inl _ =>
some 1
| .inr v0 =>
br (v0) (
some 2) (
some 0)
def JD (n:Nat) (l1:List (Int × Int)) (x5:Int) (x6:Int):Option (Int × Int) :=
ob (E8 n l1) fun r9 =>
br (!decide (r9=0)) (
some (0,r9)) (
ob (Hk n x5 x6) fun r12 =>
br (r12) (
some (0,2)) (
ob (Jv n l1 x5 x6) fun r15 =>
some (r15,0)))
def I5 (n:Nat) (x10:Int) (x11:Int) (x9:Int) (x12:Int) (x13:Int) (x14:Int) (v1:Int) (v2:Int) (l0:List (Int × Int)):Int→Option ((Int) ⊕ ((Unit) ⊕ (Unit))):=fun v0 =>
br (decide (v0<3)) (
gd (cX v0 3) (
ob ([(x10,x11),(IntKind.wrap .i64 ((IntKind.wrap .i64 x9)+(IntKind.wrap .i64 x12)),IntKind.wrap .i64 ((IntKind.wrap .i64 x13)+(IntKind.wrap .i64 x14))),(v1,v2)][v0.toNat]?) fun(x3,x4) =>
ob (Hi n l0 x3 x4) fun(r0,r1) =>
ob (JD n l0 x3 x4) fun(r2,r3) =>
ob (
br (!decide (r0=r2)) (
some true) (
some (!decide (r1=r3)))) fun v3 =>
br (v3) (
some (.inr (.inl ()))) (
some (.inl (IntKind.wrap .i64 (v0+1)))))) (
some (.inr (.inr ())))
def IZ (n:Nat) (l1:List (Int × Int)) (l2:List (Int × Int)) (l3:List (Int × Int)) (l4:List (Int × Int)) (x3:Nat) (x4:Int) (x10:Int) (x9:Int) (x11:Int) (x12:Int) (x13:Int):Int→Option ((Int) ⊕ ((Unit) ⊕ (Unit))):=fun v0 =>
br (decide (v0<4)) (
gd (cX v0 4) (
ob ([l1,l2,l3,l4][v0.toNat]?) fun l0 =>
ob (Hj n l0) fun(r0,r1) =>
ob (JE n l0) fun(r2,r3) =>
ob (JG n l0) fun(r4,r5) =>
ob (Jz n l0) fun(r6,r7) =>
ob (JK n l0) fun(l5,r8) =>
ob (Hl n l0) fun(l6,r9) =>
ob (
br (!decide (r0=r2)) (
some true) (
br (!decide (r1=r3)) (
some true) (
br (!(r4 == r6)) (
some true) (
br (!decide (r5=r7)) (
some true) (
br (!decide (r8=r9)) (
some true) (
ob (JL n l5 l6) fun r10 =>
some (!r10))))))) fun v1 =>
br (v1) (
some (.inr (.inl ()))) (
ob (
br (decide (1<(l0.length:Int))) (
gd (decide ((l0.length:Int)≠0)) (
gd (cX (Int.tmod (IntKind.wrap .i64 ((x3:Nat):Int)) (l0.length:Int)) l0.length) (
ob (l0[(Int.tmod (IntKind.wrap .i64 ((x3:Nat):Int)) (l0.length:Int)).toNat]?) fun(x14,x15) =>
gd (cX 0 l0.length) (
ob (l0[(0:Int).toNat]?) fun(x16,x17) =>
ob (some (IntKind.wrap .i64 ((IntKind.wrap .i64 (Int.tdiv x14 2))+(IntKind.wrap .i64 (Int.tdiv x16 2))))) fun y3 =>
gd (cX 0 l0.length) (
ob (some (IntKind.wrap .i64 ((IntKind.wrap .i64 (Int.tdiv x15 2))+(IntKind.wrap .i64 (Int.tdiv x17 2))))) fun y4 =>
some (y3,y4)))))) (
some (0,0))) fun(v2,v3) =>
ob (α:=(Unit) ⊕ (Unit)) (
dx (I5 n x4 x10 x9 x11 x12 x13 v2 v3 l0) n 0) fun r11=>match r11 with
| .inl _ =>
some (.inr (.inl ()))
| .inr _ =>
some (.inl (IntKind.wrap .i64 (v0+1)))))) (
some (.inr (.inr ())))
def F8 (n:Nat) (l0:List (Int × Int)) (l1:List (Nat)) (x9:Int) (x3:Int) (x10:Nat) (x11:Bool) (x12:Bool) (x13:Nat) (x4:Nat) (x14:Nat) (x15:Int) (x16:Int) (x17:Nat) (x18:Nat) (x19:Nat) (x20:Int) (x21:Int) (x22:Int) (x23:Int) (x24:Int) (x25:Int):Option (Bool) :=
ob (JO n l0 l1 x9 x3 x10 x11 x12 x13 x4 x14 x15 x16 x17 x18 x19 x20 x21) fun(l2,l3,l4,l5) =>
ob (α:=(Unit) ⊕ (Unit)) (
dx (IZ n l2 l3 l4 l5 x4 x22 x23 x9 x24 x3 x25) n 0) fun r0=>match r0 with
| .inl _ =>
some false
| .inr _ =>
ob (IK n) fun r1 =>
some r1
end Go.Proofs.YthmekkhpddehjaaGreat
end

section
namespace Go.Proofs.YthmekkhpddehjaaGreat
open Go Go.Ab Go.Ab.W
def uV (_:Nat):(Int × Int)→Option ((Int × Int) ⊕ (Int)):=fun(v5,v6) =>
br (decide (0<v6)) (
gd (decide (v6≠0)) (
some (.inl (v6,Int.tmod v5 v6)))) (
some (.inr v5))
def HY (n:Nat) (x1:Int) (x2:Int):Option (Int) :=
ob (
dx (uV n) n (ma x1 (IntKind.wrap .i64 (0-x1)),ma x2 (IntKind.wrap .i64 (0-x2)))) fun v11 =>
some v11
def Ie (n:Nat) (l1:List (Int × Int)) (x5:Int):Option (Bool) :=
ob (Hj n l1) fun(r7,r8) =>
br (decide (r7=x5)) (
some (decide (r8=0))) (
some false)
def Cp (n:Nat) (l15:List (Int × Int)):(Int × Int × Int × Int × Int × Int)→Option ((Int × Int × Int × Int × Int × Int) ⊕ (Int × Int × Int × Int × Int)):=fun(v46,v47,v48,v49,v50,v51) =>
br (decide (v51<(l15.length:Int))) (
gd (cX v51 l15.length) (
ob (l15[v51.toNat]?) fun(x79,x80) =>
gd (decide ((l15.length:Int)≠0)) (
gd (cX (Int.tmod (IntKind.wrap .i64 (v51+1)) (l15.length:Int)) l15.length) (
ob (l15[(Int.tmod (IntKind.wrap .i64 (v51+1)) (l15.length:Int)).toNat]?) fun(x85,x86) =>
ob (HY n (IntKind.wrap .i64 (x85-x79)) (IntKind.wrap .i64 (x86-x80))) fun r90 =>
some (.inl (mi v46 x79,mi v47 x80,ma v48 x79,ma v49 x80,IntKind.wrap .i64 (v50+r90),IntKind.wrap .i64 (v51+1))))))) (
some (.inr (v46,v47,v48,v49,v50)))
def zT (n:Nat) (v4:Int) (l0:List (Int × Int)) (v3:Int) (v5:Int) (v6:Int) (v7:Int):(Int × Int × Int)→Option ((Int × Int × Int) ⊕ ((Unit) ⊕ (Int × Int))):=fun(v1,v2,v0) =>
br (decide (v0≤IntKind.wrap .i64 (v4+1))) (
ob (α:=(Unit) ⊕ (Int × Int)) (
ob (Hi n l0 v3 v0) fun(r0,r1) =>
ob (
br (!decide (r1=0)) (
some true) (
br (decide (r0=2)) (
br (decide (v3≤v5)) (
some true) (
br (decide (v6≤v3)) (
some true) (
br (decide (v0≤v7)) (
some true) (
some (decide (v4≤v0)))))) (
some false))) fun v8 =>
br (v8) (
some (.inl ())) (
br (decide (r0=2)) (
some (.inr (IntKind.wrap .i64 (v1+1),v2))) (
br (decide (r0=1)) (
some (.inr (v1,IntKind.wrap .i64 (v2+1)))) (
some (.inr (v1,v2)))))) fun r2=>match r2 with
| .inl _ =>
some (.inr (.inl ()))
| .inr (v9,v10) =>
some (.inl (v9,v10,IntKind.wrap .i64 (v0+1)))) (
some (.inr (.inr (v1,v2))))
def zG (n:Nat) (v1:Int) (v5:Int) (l0:List (Int × Int)) (v6:Int) (v2:Int):(Int × Int × Int)→Option ((Int × Int × Int) ⊕ ((Unit) ⊕ (Int × Int))):=fun(v3,v4,v0) =>
br (decide (v0≤IntKind.wrap .i64 (v1+1))) (
ob (α:=(Unit) ⊕ (Int × Int)) (
dx (zT n v5 l0 v0 v6 v1 v2) n (v3,v4,IntKind.wrap .i64 (v2-1))) fun r0=>match r0 with
| .inl _ =>
some (.inr (.inl ()))
| .inr (v7,v8) =>
some (.inl (v7,v8,IntKind.wrap .i64 (v0+1)))) (
some (.inr (.inr (v3,v4))))
def F4 (n:Nat) (l1:List (Nat)) (x5:Int) (x6:Int) (x7:Nat) (x8:Bool) (_:Bool):Option (Bool) :=
ob (IK n) fun r0 =>
br (!r0) (
some false) (
ob (Hd n l1 x5 x6 (x7%2) x8 false) fun l0 =>
gd (cX 0 l0.length) (
ob (l0[(0:Int).toNat]?) fun(x3,x4) =>
gd (cX 0 l0.length) (
ob (
dx (Cp n l0) n (x3,x4,x3,x4,0,0)) fun(v0,v2,v3,v4,v5) =>
ob (α:=(Unit) ⊕ (Int × Int)) (
dx (zG n v3 v4 l0 v0 v2) n (0,0,IntKind.wrap .i64 (v0-1))) fun r1=>match r1 with
| .inl _ =>
some false
| .inr (v6,v1) =>
br (decide (v1=v5)) (
ob (some (IntKind.wrap .i64 ((IntKind.wrap .i64 ((IntKind.wrap .i64 (2*v6))+v1))-2))) fun y3 =>
ob (Ie n l0 y3) fun r2 =>
some r2) (
some false))))
end Go.Proofs.YthmekkhpddehjaaGreat
end

section
namespace Go.Ab.W
open Go Go.Ab
attribute [local irreducible] Tm.at Trie.set Trie.get AMem.get AMem.set AMem.alloc AMem.ww AMem.kill
section
variable {E : Env} {n : Nat} {m0 m : AMem} {fs : Fs} {ps : List Pc} {x y : Operand} {ty : TypeId} {v : Value}
end
end Go.Ab.W
end

section
namespace Go.Proofs.YthmekkhpddehjaaGreat
open Go Go.Ab Go.Ab.W
set_option maxRecDepth 10000
end Go.Proofs.YthmekkhpddehjaaGreat
end
