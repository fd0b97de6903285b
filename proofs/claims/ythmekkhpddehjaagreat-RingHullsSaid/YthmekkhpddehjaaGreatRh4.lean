/- A part of the proof. -/
import Derived.Test.YthmekkhpddehjaaGreatRh3
import Derived.Shelf.GgSortFunc.RowK
import Derived.Shelf.SlSortCmp.WholeK
import Derived.Shelf.SlGeneric
import Derived.Ground.SlsfProg
import Derived.Test.YthmekkhpddehjaaGreatProg
import Derived.Shelf.SlSortCmp.NoneTotal
import Derived.Lib.Overlaps
import Derived.HandedShaped
section
namespace Go.Ab.B
open Go Go.Ab Go.Ab.W
section
variable {α β σ ρ : Type}
theorem jO (a b:Option β):br true a b=a:=rfl
theorem gB (a b:Option β):br false a b=b:=rfl
theorem bl (a:Option β):gd true a=a:=rfl
theorem an (x:α) (f:α→Option β):ob (some x) f=f x:=rfl
theorem aO {p:Prop} [Decidable p] (h:p) (a b:Option β):br (decide p) a b=a:=by rw[decide_eq_true h]; rfl
theorem aK {p:Prop} [Decidable p] (h:¬p) (a b:Option β):br (decide p) a b=b:=by rw[decide_eq_false h]; rfl
theorem rU (c:Bool) (a b:Option β):br c a b=if c then a else b:=by cases c<;>rfl
theorem ez (c d:Bool):br c (some true) (some d)=some (c || d):=by cases c<;>rfl
theorem eA (c d:Bool):br c (some d) (some false)=some (c && d):=by cases c<;>rfl
theorem yE {p:Prop} [Decidable p] (h:p) (a:Option β):gd (decide p) a=a:=by rw[decide_eq_true h]; rfl
theorem aJ {i n:Nat} (h:i<n):bJ (i:Int) n=true:=decide_eq_true ⟨Int.natCast_nonneg i,by simpa using h⟩
theorem ax {x:Int} (h1 : -9223372036854775808≤x) (h2:x<9223372036854775808):IntKind.wrap .i64 x=x:=wrap_i64 x h1 (by omega)
theorem aR {i:Nat} (h:i<4611686018427387904):IntKind.wrap .i64 ((i:Int)+1)=((i+1:Nat):Int):=by rw[ax (by omega) (by omega)]; rfl
theorem aV {body:σ→Option (σ ⊕ ρ)} {n:Nat} {s s':σ} (h:body s=some (.inl s')):bT body (n+1) s=bT body n s':=by simp only[bT,h]
theorem bG {body:σ→Option (σ ⊕ ρ)} {n:Nat} {s:σ} {r:ρ} (h:body s=some (.inr r)):bT body (n+1) s=some r:=by simp only[bT,h]
end
theorem ef {u v B C:Int} (_:0≤B) (hu1 : -B≤u) (hu2:u≤B) (hv1 : -C≤v) (hv2:v≤C) : -(B*C)≤u*v∧u*v≤B*C:=by
 have hC:0≤C:=by omega
 have h1:0≤(B-u)*(C-v):=Int.mul_nonneg (by omega) (by omega)
 have h2:0≤(B+u)*(C+v):=Int.mul_nonneg (by omega) (by omega)
 have h3:0≤(B-u)*(C+v):=Int.mul_nonneg (by omega) (by omega)
 have h4:0≤(B+u)*(C-v):=Int.mul_nonneg (by omega) (by omega)
 have e1:(B-u)*(C-v)=B*C-B*v-u*C+u*v:=by rw[Int.sub_mul,Int.mul_sub,Int.mul_sub]; omega
 have e2:(B+u)*(C+v)=B*C+B*v+u*C+u*v:=by rw[Int.add_mul,Int.mul_add,Int.mul_add]; omega
 have e3:(B-u)*(C+v)=B*C+B*v-u*C-u*v:=by rw[Int.sub_mul,Int.mul_add,Int.mul_add]; omega
 have e4:(B+u)*(C-v)=B*C-B*v+u*C-u*v:=by rw[Int.add_mul,Int.mul_sub,Int.mul_sub]; omega
 omega
theorem jJ {α:Type} [DecidableEq α]:∀{l m:List α},l.Nodup→(∀a ∈ l,a ∈ m)→l.length≤m.length
 | [],_,_,_=>Nat.zero_le _
 | a::l,m,hn,hs=>by
  obtain⟨n1,n2⟩:=List.nodup_cons.1 hn;have ha:=hs a List.mem_cons_self;have:=jJ (l:=l) (m:=m.erase a) n2 fun b hb=>by
   have hne:b≠a:=fun e=>n1 (e ▸ hb);exact(List.mem_erase_of_ne hne).2 (hs b (List.mem_cons_of_mem _ hb))
  rw[List.length_erase_of_mem ha] at this;have hp:0<m.length:=List.length_pos_of_mem ha;rw[List.length_cons]; omega
end Go.Ab.B
end

section
namespace Jd
abbrev P2:=Rat × Rat
def tn (a b c:P2):Rat:=(b.1-a.1)*(c.2-a.2)-(b.2-a.2)*(c.1-a.1)
def af (α β γ:Rat) (x:P2):Rat:=α*x.1+β*x.2+γ
def Sep (a b p q:P2):Prop:=∃α β γ,0<af α β γ a∧0<af α β γ b∧af α β γ p<0∧af α β γ q<0
theorem Sep.ab {a b p q:P2} (h:Sep a b p q):Sep b a p q:=let ⟨α,β,γ,h1,h2,h3,h4⟩:=h; ⟨α,β,γ,h2,h1,h3,h4⟩
theorem Sep.pq {a b p q:P2} (h:Sep a b p q):Sep a b q p:=let ⟨α,β,γ,h1,h2,h3,h4⟩:=h; ⟨α,β,γ,h1,h2,h4,h3⟩
theorem cb {x y:Rat} (hx:0≤x) (hy:0≤y):0≤x*y:=Rat.mul_nonneg hx hy
theorem bp {x y:Rat} (hx:0<x) (hy:0<y):0<x*y:=Rat.mul_pos hx hy
theorem dn {x y:Rat} (hx:0≤x) (hy:y≤0):x*y≤0:=by
 have:=cb hx (show(0:Rat)≤-y by grind)
 grind
theorem dM {x y:Rat} (hx:0<x) (hy:y<0):x*y<0:=by
 have:=bp hx (show(0:Rat) < -y by grind)
 grind
theorem lE (a b p:P2):tn b a p = -tn a b p:=by unfold tn; grind
def we (a b p:P2):Int:=if a.2≤p.2∧p.2<b.2∧0<tn a b p then 1 else if b.2≤p.2∧p.2<a.2∧tn a b p<0 then -1 else 0
theorem mZ {a b p:P2} (h1:a.2≤p.2) (h2:p.2<b.2):we a b p=if 0<tn a b p then 1 else 0:=by
 unfold we
 by_cases h:0<tn a b p
 ·rw[if_pos ⟨h1,h2,h⟩,if_pos h]
 ·rw[if_neg (fun e=>h e.2.2),if_neg (fun e=>by grind),if_neg h]
theorem eQ {a b p:P2} (h1:¬(a.2≤p.2∧p.2<b.2)) (h2:¬(b.2≤p.2∧p.2<a.2)):we a b p=0:=by
 unfold we;rw[if_neg (fun e=>h1 ⟨e.1,e.2.1⟩),if_neg (fun e=>h2 ⟨e.1,e.2.1⟩)]
theorem oa (a b p:P2):we b a p = -we a b p:=by
 have h:=lE a b p;unfold we
 by_cases h1:a.2≤p.2∧p.2<b.2∧0<tn a b p
 ·rw[if_pos h1,if_neg (fun e=>by grind),if_pos ⟨h1.1,h1.2.1,by grind⟩]
 ·by_cases h2:b.2≤p.2∧p.2<a.2∧tn a b p<0
  ·rw[if_neg h1,if_pos h2,if_pos ⟨h2.1,h2.2.1,by grind⟩]; rfl
  ·rw[if_neg h1,if_neg h2,if_neg (fun e=>h2 ⟨e.1,e.2.1,by grind⟩),if_neg (fun e=>h1 ⟨e.1,e.2.1,by grind⟩)]; rfl
def fz (p q v:P2):Int:=if p.2<v.2∧v.2≤q.2∧tn p q v<0 then 1 else 0
theorem gC {p q v:P2} (h:¬(p.2<v.2∧v.2≤q.2)):fz p q v=0:=if_neg fun e=>h ⟨e.1,e.2.1⟩
theorem pQ {p q v:P2} (h1:p.2<v.2) (h2:v.2≤q.2):fz p q v=if tn p q v<0 then 1 else 0:=by
 unfold fz
 by_cases h:tn p q v<0
 ·rw[if_pos ⟨h1,h2,h⟩,if_pos h]
 ·rw[if_neg (fun e=>h e.2.2),if_neg h]
section
variable {a b p q : P2}
theorem FV (α β γ:Rat):tn p q b*af α β γ a-tn p q a*af α β γ b=tn a b p*af α β γ q-tn a b q*af α β γ p:=by
 unfold tn af; grind
theorem As (h:Sep a b p q) (h1:0≤tn p q b) (h2:tn p q a≤0) (h3:0≤tn a b p) (h4:tn a b q≤0) (h5:0<tn a b p∨tn a b q<0∨0<tn p q b∨tn p q a<0):False:=by
 obtain⟨α,β,γ,g1,g2,g3,g4⟩:=h;have e:=FV (a:=a) (b:=b) (p:=p) (q:=q) α β γ;generalize af α β γ a=A at *;generalize af α β γ b=B at *;generalize af α β γ p=C at *;generalize af α β γ q=D at *;generalize tn p q b=Tb at *;generalize tn p q a=Ta at *;generalize tn a b p=Up at *;generalize tn a b q=Uq at *;have k1:0≤Tb*A:=cb h1 (by grind)
 have k2:0≤(-Ta)*B:=cb (by grind) (by grind)
 have k3:0≤Up*(-D):=cb h3 (by grind)
 have k4:0≤(-Uq)*(-C):=cb (by grind) (by grind)
 rcases h5 with h|h|h|h
 ·have:0<Up*(-D):=bp h (by grind)
  grind
 ·have:0<(-Uq)*(-C):=bp (by grind) (by grind)
  grind
 ·have:0<Tb*A:=bp h g1
  grind
 ·have:0<(-Ta)*B:=bp (by grind) g2
  grind
theorem yu (h:Sep a b p q) (h1:tn p q b≤0) (h2:0≤tn p q a) (h3:tn a b p≤0) (h4:0≤tn a b q) (h5:tn a b p<0∨0<tn a b q∨tn p q b<0∨0<tn p q a):False:=by
 have e1:=lE a b p;have e2:=lE a b q;exact As h.ab (a:=b) (b:=a) h2 h1 (by grind) (by grind) (by grind)
theorem i1:(p.2-a.2)*tn p q b+(b.2-p.2)*tn p q a = -((q.2-p.2)*tn a b p):=by unfold tn; grind
theorem i2:(b.2-p.2)*tn a b q+(q.2-b.2)*tn a b p = -((b.2-a.2)*tn p q b):=by unfold tn; grind
theorem i3:(q.2-a.2)*tn p q b+(b.2-q.2)*tn p q a = -((q.2-p.2)*tn a b q):=by unfold tn; grind
theorem i4:(a.2-p.2)*tn a b q+(q.2-a.2)*tn a b p = -((b.2-a.2)*tn p q a):=by unfold tn; grind
theorem i5:tn a b q-tn a b p=tn p q a-tn p q b:=by unfold tn; grind
theorem FM (h:Sep a b p q) (h1:a.2≤p.2) (h2:p.2<b.2) (h3:b.2≤q.2):0<tn a b p↔tn p q b<0:=by
 have e1:=i1 (a:=a) (b:=b) (p:=p) (q:=q);have e2:=i2 (a:=a) (b:=b) (p:=p) (q:=q);have K:=As h;have K':=yu h;clear h;generalize tn p q b=Tb at *;generalize tn p q a=Ta at *;generalize tn a b p=Up at *;generalize tn a b q=Uq at *;have d1:0≤p.2-a.2:=by grind
 have d2:0<b.2-p.2:=by grind
 have d3:0<q.2-p.2:=by grind
 have d4:0≤q.2-b.2:=by grind
 have d5:0<b.2-a.2:=by grind
 generalize p.2-a.2=x1 at *;generalize b.2-p.2=x2 at *;generalize q.2-p.2=x3 at *;generalize q.2-b.2=x4 at *;generalize b.2-a.2=x5 at *;constructor
 ·intro hu;refine Decidable.byContradiction fun ht=>?_;have ht:0≤Tb:=by grind
  have m1:=cb d1 ht;have m2:=bp d3 hu;have ta:Ta≤0:=by
   refine Decidable.byContradiction fun hc=>?_;have:=bp d2 (show 0<Ta by grind)
   grind
  have uq:Uq≤0:=by
   refine Decidable.byContradiction fun hc=>?_;have m3:=bp d2 (show 0<Uq by grind)
   have m4:=cb d4 (show 0≤Up by grind)
   have m5:=cb (show 0≤x5 by grind) ht
   grind
  exact K ht ta (by grind) uq (.inl hu)
 ·intro ht;refine Decidable.byContradiction fun hu=>?_;have hu:Up≤0:=by grind
  have m1:=dn d1 (show Tb≤0 by grind)
  have m2:=dn (show 0≤x3 by grind) hu
  have ta:0≤Ta:=by
   refine Decidable.byContradiction fun hc=>?_;have:=dM d2 (show Ta<0 by grind)
   grind
  have uq:0≤Uq:=by
   refine Decidable.byContradiction fun hc=>?_;have m3:=dM d2 (show Uq<0 by grind)
   have m4:=dn d4 hu;have m5:=dM d5 ht
   grind
  exact K' (by grind) ta hu uq (.inr (.inr (.inl ht)))
theorem Fv (h:Sep a b p q) (h1:p.2<a.2) (h2:a.2≤q.2) (h3:q.2<b.2):0<tn a b q↔tn p q a<0:=by
 have e3:=i3 (a:=a) (b:=b) (p:=p) (q:=q);have e4:=i4 (a:=a) (b:=b) (p:=p) (q:=q);have K:=As h;have K':=yu h;clear h;generalize tn p q b=Tb at *;generalize tn p q a=Ta at *;generalize tn a b p=Up at *;generalize tn a b q=Uq at *;have d1:0≤q.2-a.2:=by grind
 have d2:0<b.2-q.2:=by grind
 have d3:0<q.2-p.2:=by grind
 have d4:0<a.2-p.2:=by grind
 have d5:0<b.2-a.2:=by grind
 generalize q.2-a.2=x1 at *;generalize b.2-q.2=x2 at *;generalize q.2-p.2=x3 at *;generalize a.2-p.2=x4 at *;generalize b.2-a.2=x5 at *;constructor
 ·intro hu;refine Decidable.byContradiction fun ht=>?_;have ht:0≤Ta:=by grind
  have m1:=cb (show 0≤x2 by grind) ht
  have m2:=bp d3 hu;have tb:Tb≤0:=by
   refine Decidable.byContradiction fun hc=>?_;have:=cb d1 (show 0≤Tb by grind)
   grind
  have up:Up≤0:=by
   refine Decidable.byContradiction fun hc=>?_;have m3:=bp d4 hu;have m4:=cb d1 (show 0≤Up by grind)
   have m5:=cb (show 0≤x5 by grind) ht
   grind
  exact K' tb ht up (by grind) (.inr (.inl hu))
 ·intro ht;refine Decidable.byContradiction fun hu=>?_;have hu:Uq≤0:=by grind
  have m2:=dn (show 0≤x3 by grind) hu
  have m1:=dM d2 ht;have tb:0≤Tb:=by
   refine Decidable.byContradiction fun hc=>?_;have:=dn d1 (show Tb≤0 by grind)
   grind
  have up:0≤Up:=by
   refine Decidable.byContradiction fun hc=>?_;have m3:=dn (show 0≤x4 by grind) hu
   have m4:=dn d1 (show Up≤0 by grind)
   have m5:=dM d5 ht
   grind
  exact K tb (by grind) up hu (.inr (.inr (.inr ht)))
theorem Hn (h:Sep a b p q) (h1:a.2≤p.2) (h2:p.2≤q.2) (h3:q.2<b.2):0<tn a b p↔0<tn a b q:=by
 have e1:=i1 (a:=a) (b:=b) (p:=p) (q:=q);have e3:=i3 (a:=a) (b:=b) (p:=p) (q:=q);have e5:=i5 (a:=a) (b:=b) (p:=p) (q:=q);have K:=As h;have K':=yu h;clear h;generalize tn p q b=Tb at *;generalize tn p q a=Ta at *;generalize tn a b p=Up at *;generalize tn a b q=Uq at *;have d1:0≤p.2-a.2:=by grind
 have d2:0<b.2-p.2:=by grind
 have d3:0≤q.2-p.2:=by grind
 have d4:0≤q.2-a.2:=by grind
 have d5:0<b.2-q.2:=by grind
 generalize p.2-a.2=x1 at *;generalize b.2-p.2=x2 at *;generalize q.2-p.2=x3 at *;generalize q.2-a.2=x4 at *;generalize b.2-q.2=x5 at *;constructor
 ·intro hu;refine Decidable.byContradiction fun hc=>?_;have hc:Uq≤0:=by grind
  have ta:Ta≤0:=by
   refine Decidable.byContradiction fun ht=>?_;have m1:=cb d1 (show 0≤Tb by grind)
   have m2:=bp d2 (show 0<Ta by grind)
   have m3:=cb d3 (show 0≤Up by grind)
   grind
  have tb:0≤Tb:=by
   refine Decidable.byContradiction fun ht=>?_;have m1:=dn d4 (show Tb≤0 by grind)
   have m2:=dM d5 (show Ta<0 by grind)
   have m3:=dn d3 hc
   grind
  exact K tb ta (by grind) hc (.inl hu)
 ·intro hu;refine Decidable.byContradiction fun hc=>?_;have hc:Up≤0:=by grind
  have ta:0≤Ta:=by
   refine Decidable.byContradiction fun ht=>?_;have m1:=dn d1 (show Tb≤0 by grind)
   have m2:=dM d2 (show Ta<0 by grind)
   have m3:=dn d3 hc
   grind
  have tb:Tb≤0:=by
   refine Decidable.byContradiction fun ht=>?_;have m1:=cb d4 (show 0≤Tb by grind)
   have m2:=bp d5 (show 0<Ta by grind)
   have m3:=cb d3 (show 0≤Uq by grind)
   grind
  exact K' tb ta hc (by grind) (.inr (.inl hu))
theorem Dd (h:Sep a b p q) (h0:a.2≤b.2) (h1:p.2<a.2) (h2:b.2≤q.2):tn p q a<0↔tn p q b<0:=by
 have e2:=i2 (a:=a) (b:=b) (p:=p) (q:=q);have e4:=i4 (a:=a) (b:=b) (p:=p) (q:=q);have e5:=i5 (a:=a) (b:=b) (p:=p) (q:=q);have K:=As h;have K':=yu h;clear h;generalize tn p q b=Tb at *;generalize tn p q a=Ta at *;generalize tn a b p=Up at *;generalize tn a b q=Uq at *;have d1:0<b.2-p.2:=by grind
 have d2:0≤q.2-b.2:=by grind
 have d3:0≤b.2-a.2:=by grind
 have d4:0<a.2-p.2:=by grind
 have d5:0≤q.2-a.2:=by grind
 generalize b.2-p.2=x1 at *;generalize q.2-b.2=x2 at *;generalize b.2-a.2=x3 at *;generalize a.2-p.2=x4 at *;generalize q.2-a.2=x5 at *;constructor
 ·intro ha;refine Decidable.byContradiction fun hb=>?_;have hb:0≤Tb:=by grind
  have uq:Uq≤0:=by
   refine Decidable.byContradiction fun hc=>?_;have m1:=bp d1 (show 0<Uq by grind)
   have m2:=cb d2 (show 0≤Up by grind)
   have m3:=cb d3 hb
   grind
  have up:0≤Up:=by
   refine Decidable.byContradiction fun hc=>?_;have m1:=dM d4 (show Uq<0 by grind)
   have m2:=dn d5 (show Up≤0 by grind)
   have m3:=dn d3 (show Ta≤0 by grind)
   grind
  exact K hb (by grind) up uq (.inr (.inr (.inr ha)))
 ·intro hb;refine Decidable.byContradiction fun ha=>?_;have ha:0≤Ta:=by grind
  have uq:0≤Uq:=by
   refine Decidable.byContradiction fun hc=>?_;have m1:=dM d1 (show Uq<0 by grind)
   have m2:=dn d2 (show Up≤0 by grind)
   have m3:=dn d3 (show Tb≤0 by grind)
   grind
  have up:Up≤0:=by
   refine Decidable.byContradiction fun hc=>?_;have m1:=bp d4 (show 0<Uq by grind)
   have m2:=cb d5 (show 0≤Up by grind)
   have m3:=cb d3 ha
   grind
  exact K' (by grind) ha up uq (.inr (.inr (.inl hb)))
theorem oh {c d:Prop} [Decidable c] [Decidable d] (h:c↔d):(if c then(1:Int) else 0)=if d then 1 else 0:=by
 by_cases hc:c
 ·rw[if_pos hc,if_pos (h.1 hc)]
 ·rw[if_neg hc,if_neg (fun e=>hc (h.2 e))]
theorem Ca (h:Sep a b p q) (hpq:p.2≤q.2) (hab:a.2≤b.2):we a b p-we a b q=fz p q b-fz p q a:=by
 by_cases ha:a.2≤p.2
 ·rw[gC (v:=a) (by grind)]
  by_cases hb:b.2≤p.2
  ·rw[gC (v:=b) (by grind),eQ (by grind) (by grind),eQ (by grind) (by grind)]
  ·by_cases hb2:b.2≤q.2
   ·rw[pQ (by grind) hb2,mZ ha (by grind),eQ (p:=q) (by grind) (by grind),oh (FM h ha (by grind) hb2)]
   ·rw[gC (v:=b) (by grind),mZ ha (by grind),mZ (p:=q) (by grind) (by grind),oh (Hn h ha hpq (by grind))]
    omega
 ·rw[eQ (p:=p) (by grind) (by grind)]
  by_cases ha2:a.2≤q.2
  ·rw[pQ (v:=a) (by grind) ha2]
   by_cases hb2:b.2≤q.2
   ·rw[pQ (v:=b) (by grind) hb2,eQ (p:=q) (by grind) (by grind),oh (Dd h hab (by grind) hb2)]
    omega
   ·rw[gC (v:=b) (by grind),mZ (p:=q) ha2 (by grind),oh (Fv h (by grind) ha2 (by grind))]
  ·rw[gC (v:=a) (by grind),gC (v:=b) (by grind),eQ (p:=q) (by grind) (by grind)]
theorem Ce (h:Sep a b p q) (hpq:p.2≤q.2):we a b p-we a b q=fz p q b-fz p q a:=by
 by_cases hab:a.2≤b.2
 ·exact Ca h hpq hab
 ·have:=Ca h.ab hpq (by grind)
  rw[oa b a p,oa b a q];omega
end
def dj:Nat→(Nat→Int)→Int
 | 0,_=>0
 | n+1,f=>dj n f+f n
theorem im {n:Nat} {f g:Nat→Int} (h:∀i,i<n→f i=g i):dj n f=dj n g:=by
 induction n with
 | zero=>rfl
 | succ n ih=>simp only[dj]; rw[ih fun i hi=>h i (by omega),h n (by omega)]
theorem uF (n:Nat) (f g:Nat→Int):dj n (fun i=>f i-g i)=dj n f-dj n g:=by
 induction n with
 | zero=>rfl
 | succ n ih=>simp only[dj]; rw[ih]; omega
theorem pc (n:Nat) (f:Nat→Int):dj n (fun i=>f (i+1)-f i)=f n-f 0:=by
 induction n with
 | zero=>simp[dj]
 | succ n ih=>simp only[dj]; rw[ih]; omega
theorem mF {n:Nat} {f:Nat→Int} (h:∀i,i<n→f i=0):dj n f=0:=by
 induction n with
 | zero=>rfl
 | succ n ih=>simp only[dj]; rw[ih fun i hi=>h i (by omega),h n (by omega)]; rfl
theorem CD {n k:Nat} {f:Nat→Int} (hk:k<n) (h:∀i,i<n→i≠k→f i=0):dj n f=f k:=by
 induction n with
 | zero=>omega
 | succ n ih =>
  simp only[dj]
  by_cases e:k=n
  ·subst e;rw[mF fun i hi=>h i (by omega) (by omega)]; omega
  ·rw[ih (by omega) (fun i hi hn=>h i (by omega) hn),h n (by omega) (by omega)]; omega
def cv (u w:P2) (t:Rat):P2:=(u.1+t*(w.1-u.1),u.2+t*(w.2-u.2))
def sm (p d:P2) (x:Rat):P2:=(p.1+x*d.1,p.2+x*d.2)
def cr (u w d:P2):Rat:=(w.1-u.1)*d.2-(w.2-u.2)*d.1
def dt (u w x:P2):Rat:=(w.1-u.1)*(x.1-w.1)+(w.2-u.2)*(x.2-w.2)
theorem ei {A B:Rat} (ha:0<A) (hb:0<B):∃k:Rat,0<k∧k<A∧k<B:=by
 by_cases h:A≤B
 ·exact⟨A/2,by grind,by grind,by grind⟩
 ·exact⟨B/2,by grind,by grind,by grind⟩
theorem wx {a b p q:P2} (α β γ:Rat) (h1:0≤af α β γ a) (h2:0≤af α β γ b) (h3:af α β γ p<0) (h4:af α β γ q<0):Sep a b p q:=by
 obtain⟨k,k1,k2,k3⟩:=ei (show 0 < -af α β γ p by grind) (show 0 < -af α β γ q by grind)
 refine⟨α,β,γ+k,?_,?_,?_,?_⟩<;>(unfold af at *; grind)
theorem Ec {a b u w:P2} (h:Sep a b u w) {t s:Rat} (t0:0≤t) (t1:t≤1) (s0:0≤s) (s1:s≤1):Sep a b (cv u w t) (cv u w s):=by
 obtain⟨α,β,γ,h1,h2,h3,h4⟩:=h;have key:∀t:Rat,0≤t→t≤1→af α β γ (cv u w t)<0:=by
  intro t t0 t1;have e:af α β γ (cv u w t)=(1-t)*af α β γ u+t*af α β γ w:=by unfold af cv; grind
  rw[e];have m1:=dn (show 0≤1-t by grind) (show af α β γ u≤0 by grind)
  have m2:=dn t0 (show af α β γ w≤0 by grind)
  by_cases ht:0<t
  ·have:=dM ht h4
   grind
  ·have:=dM (show 0<1-t by grind) h3
   grind
 exact⟨α,β,γ,h1,h2,key t t0 t1,key s s0 s1⟩
theorem sq_pos {x:Rat} (h:x≠0):0<x*x:=by
 by_cases hx:0<x
 ·exact bp hx hx
 ·have:=bp (show 0 < -x by grind) (show 0 < -x by grind)
  grind
theorem yw (x:Rat):0≤x*x:=by
 by_cases hx:0≤x
 ·exact cb hx hx
 ·have:=cb (show 0≤-x by grind) (show 0≤-x by grind)
  grind
theorem sd {u w:P2} (h:u≠w):0<(w.1-u.1)*(w.1-u.1)+(w.2-u.2)*(w.2-u.2):=by
 have n1:=yw (w.1-u.1);have n2:=yw (w.2-u.2)
 by_cases h1:w.1-u.1=0
 ·have h2:w.2-u.2≠0:=fun e=>h (Prod.ext (by grind) (by grind))
  have:=sq_pos h2
  grind
 ·have:=sq_pos h1
  grind
theorem BT {u w x:P2} (hne:u≠w) (hc:tn u w x≠0∨0<dt u w x) {t s:Rat} (t1:t<1) (s1:s<1):Sep w x (cv u w t) (cv u w s):=by
 have e:∀t:Rat,af (-(x.2-w.2)) (x.1-w.1) ((x.2-w.2)*w.1-(x.1-w.1)*w.2) (cv u w t)=(1-t)*tn u w x:=fun t=>by unfold af cv tn; grind
 have f:∀t:Rat,af (x.2-w.2) (-(x.1-w.1)) (-((x.2-w.2)*w.1-(x.1-w.1)*w.2)) (cv u w t) = -((1-t)*tn u w x):=fun t=>by unfold af cv tn; grind
 have g:∀t:Rat,af (w.1-u.1) (w.2-u.2) (-((w.1-u.1)*w.1+(w.2-u.2)*w.2)) (cv u w t) = -((1-t)*((w.1-u.1)*(w.1-u.1)+(w.2-u.2)*(w.2-u.2))):=fun t=>by unfold af cv; grind
 by_cases h0:tn u w x=0
 ·have hd:0<dt u w x:=hc.resolve_left fun h=>h h0;have hl:=sd hne;refine wx (w.1-u.1) (w.2-u.2) (-((w.1-u.1)*w.1+(w.2-u.2)*w.2)) ?_ ?_ ?_ ?_
  ·unfold af; grind
  ·unfold dt at hd; unfold af; grind
  ·rw[g]; have:=bp (show 0<1-t by grind) hl; grind
  ·rw[g]; have:=bp (show 0<1-s by grind) hl; grind
 ·by_cases hp:0<tn u w x
  ·refine wx (x.2-w.2) (-(x.1-w.1)) (-((x.2-w.2)*w.1-(x.1-w.1)*w.2)) ?_ ?_ ?_ ?_
   ·unfold af; grind
   ·unfold af; grind
   ·rw[f]; have:=bp (show 0<1-t by grind) hp; grind
   ·rw[f]; have:=bp (show 0<1-s by grind) hp; grind
  ·have hm:tn u w x<0:=by grind
   refine wx (-(x.2-w.2)) (x.1-w.1) ((x.2-w.2)*w.1-(x.1-w.1)*w.2) ?_ ?_ ?_ ?_
   ·unfold af; grind
   ·unfold af; grind
   ·rw[e]; exact dM (show 0<1-t by grind) hm
   ·rw[e]; exact dM (show 0<1-s by grind) hm
theorem A4 {x u w:P2} (hc:tn x u w≠0∨0<dt x u w) {t s:Rat} (t0:0<t) (s0:0<s):Sep x u (cv u w t) (cv u w s):=by
 have e:∀t:Rat,af (-(u.2-x.2)) (u.1-x.1) ((u.2-x.2)*x.1-(u.1-x.1)*x.2) (cv u w t)=t*tn x u w:=fun t=>by unfold af cv tn; grind
 have f:∀t:Rat,af (u.2-x.2) (-(u.1-x.1)) (-((u.2-x.2)*x.1-(u.1-x.1)*x.2)) (cv u w t) = -(t*tn x u w):=fun t=>by unfold af cv tn; grind
 have g:∀t:Rat,af (-(u.1-x.1)) (-(u.2-x.2)) ((u.1-x.1)*u.1+(u.2-x.2)*u.2) (cv u w t) = -(t*dt x u w):=fun t=>by unfold af cv dt; grind
 by_cases h0:tn x u w=0
 ·have hd:0<dt x u w:=hc.resolve_left fun h=>h h0;have n1:=yw (u.1-x.1);have n2:=yw (u.2-x.2);refine wx (-(u.1-x.1)) (-(u.2-x.2)) ((u.1-x.1)*u.1+(u.2-x.2)*u.2) ?_ ?_ ?_ ?_
  ·unfold af; grind
  ·unfold af; grind
  ·rw[g]; have:=bp t0 hd; grind
  ·rw[g]; have:=bp s0 hd; grind
 ·by_cases hp:0<tn x u w
  ·refine wx (u.2-x.2) (-(u.1-x.1)) (-((u.2-x.2)*x.1-(u.1-x.1)*x.2)) ?_ ?_ ?_ ?_
   ·unfold af; grind
   ·unfold af; grind
   ·rw[f]; have:=bp t0 hp; grind
   ·rw[f]; have:=bp s0 hp; grind
  ·have hm:tn x u w<0:=by grind
   refine wx (-(u.2-x.2)) (u.1-x.1) ((u.2-x.2)*x.1-(u.1-x.1)*x.2) ?_ ?_ ?_ ?_
   ·unfold af; grind
   ·unfold af; grind
   ·rw[e]; exact dM t0 hm
   ·rw[e]; exact dM s0 hm
def Ev (P:Rat→Rat→Prop):Prop:=∃e:Rat,0<e∧∀x y,0<x→x≤e→0<y→y≤e→P x y
theorem Ev.and {P Q:Rat→Rat→Prop} (h:Ev P) (g:Ev Q):Ev fun x y=>P x y∧Q x y:=by
 obtain⟨e,e0,h⟩:=h;obtain⟨f,f0,g⟩:=g
 by_cases hl:e≤f
 ·exact⟨e,e0,fun x y a b c d=>⟨h x y a b c d,g x y a (by grind) c (by grind)⟩⟩
 ·exact⟨f,f0,fun x y a b c d=>⟨h x y a (by grind) c (by grind),g x y a b c d⟩⟩
theorem Ev.mono {P Q:Rat→Rat→Prop} (h:Ev P) (g:∀x y,0<x→0<y→P x y→Q x y):Ev Q :=
 let ⟨e,e0,h⟩:=h
 ⟨e,e0,fun x y a b c d=>g x y a c (h x y a b c d)⟩
theorem Ev.of {P:Rat→Rat→Prop} (h:∀x y,0<x→0<y→P x y):Ev P:=⟨1,by grind,fun x y a _ c _=>h x y a c⟩
theorem Ev.all {P:Nat→Rat→Rat→Prop}:∀{n:Nat},(∀i,i<n→Ev (P i))→Ev fun x y=>∀i,i<n→P i x y
 | 0,_=>Ev.of fun _ _ _ _ i hi=>by omega
 | n+1,h=>by
  have h1:=Ev.all (P:=P) (n:=n) fun i hi=>h i (by omega)
  refine(h1.and (h n (by omega))).mono fun x y _ _ g i hi=>?_
  by_cases e:i=n
  ·subst e; exact g.2
  ·exact g.1 i (by omega)
theorem Bb {A:Rat} (h:A<0) (B:Rat):∃e:Rat,0<e∧∀x,0<x→x≤e→A+x*B<0:=by
 by_cases hb:B≤0
 ·exact⟨1,by grind,fun x hx _=>by have:=dn (show 0≤x by grind) hb; grind⟩
 ·have hb0:B≠0:=by grind
  have hi:B*B⁻¹=1:=Rat.mul_inv_cancel B hb0;have e1:(-A/2*B⁻¹)*B = -A/2:=by grind
  have hpos:0 < -A/2*B⁻¹:=by
   refine Decidable.byContradiction fun hc=>?_;have:=cb (show 0≤-(-A/2*B⁻¹) by grind) (show 0≤B by grind)
   grind
  refine⟨-A/2*B⁻¹,hpos,fun x hx hl=>?_⟩;have:=cb (show 0≤-A/2*B⁻¹-x by grind) (show 0≤B by grind)
  grind
theorem sZ {a b p q:P2} (h:Sep a b p q) (d d':P2):Ev fun x y=>Sep a b (sm p d x) (sm q d' y):=by
 obtain⟨α,β,γ,h1,h2,h3,h4⟩:=h;obtain⟨e,e0,he⟩:=Bb h3 (α*d.1+β*d.2);obtain⟨f,f0,hf⟩:=Bb h4 (α*d'.1+β*d'.2);have k1:∀x,af α β γ (sm p d x)=af α β γ p+x*(α*d.1+β*d.2):=fun x=>by unfold af sm; grind
 have k2:∀x,af α β γ (sm q d' x)=af α β γ q+x*(α*d'.1+β*d'.2):=fun x=>by unfold af sm; grind
 obtain⟨g,g0,ge,gf⟩:=ei e0 f0;exact⟨g,g0,fun x y x0 xg y0 yg=>⟨α,β,γ,h1,h2,by rw[k1]; exact he x x0 (by grind),by rw[k2]; exact hf y y0 (by grind)⟩⟩
structure Simple (n:Nat) (v:Nat→P2):Prop where
 n3:2<n
 cl:v n=v 0
 cl1:v (n+1)=v 1
 ne:∀i,i<n→v i≠v (i+1)
 gN:∀i,i<n→tn (v i) (v (i+1)) (v (i+2))≠0∨0<dt (v i) (v (i+1)) (v (i+2))
 sep:∀i j,i<n→j<n→i≠j→j≠i+1→i≠j+1→¬(i=0∧j+1=n)→¬(j=0∧i+1=n)→Sep (v i) (v (i+1)) (v j) (v (j+1))
def W (n:Nat) (v:Nat→P2) (p:P2):Int:=dj n fun i=>we (v i) (v (i+1)) p
section
variable {n : Nat} {v : Nat → P2}
theorem vN (hv:v n=v 0) (p q:P2):W n v p-W n v q=dj n fun i=>(we (v i) (v (i+1)) p-we (v i) (v (i+1)) q)-(fz p q (v (i+1))-fz p q (v i)):=by
 have h1:=uF n (fun i=>we (v i) (v (i+1)) p-we (v i) (v (i+1)) q) (fun i=>fz p q (v (i+1))-fz p q (v i));have h2:=pc n fun i=>fz p q (v i);have h3:=uF n (fun i=>we (v i) (v (i+1)) p) fun i=>we (v i) (v (i+1)) q;rw[hv] at h2;rw[h1,h2,h3];unfold W; omega
theorem xp (hv:v n=v 0) {p q:P2} (h:∀i,i<n→Sep (v i) (v (i+1)) p q):W n v p=W n v q:=by
 by_cases hl:p.2≤q.2
 ·have:=vN hv p q;rw[mF fun i hi=>by rw[Ce (h i hi) hl]; omega] at this
  omega
 ·have:=vN hv q p;rw[mF fun i hi=>by rw[Ce (h i hi).pq (by grind)]; omega] at this
  omega
theorem yy (hv:v n=v 0) {k:Nat} (hk:k<n) {p q:P2} (hl:p.2≤q.2) (h:∀i,i<n→i≠k→Sep (v i) (v (i+1)) p q) :
  W n v p-W n v q=(we (v k) (v (k+1)) p-we (v k) (v (k+1)) q)-(fz p q (v (k+1))-fz p q (v k)):=by
 rw[vN hv p q];exact CD hk fun i hi hn=>by rw[Ce (h i hi hn) hl]; omega
theorem Simple.off (S:Simple n v) {i j:Nat} (hi:i<n) (hj:j<n) (hij:i≠j) {t s:Rat} (t0:0≤t) (t1:t≤1) (s0:0≤s) (s1:s≤1)
  (hn:j=i+1∨(i+1=n∧j=0)→t<1∧s<1) (hp:i=j+1∨(j+1=n∧i=0)→0<t∧0<s):Sep (v j) (v (j+1)) (cv (v i) (v (i+1)) t) (cv (v i) (v (i+1)) s):=by
 have hn3:=S.n3
 by_cases h1:j=i+1∨(i+1=n∧j=0)
 ·obtain⟨a,b⟩:=hn h1;have e:v j=v (i+1)∧v (j+1)=v (i+2):=by
   rcases h1 with rfl|⟨h,rfl⟩
   ·exact⟨rfl,rfl⟩
   ·have:i+2=n+1:=by omega
    rw[this,S.cl1,h,S.cl]; exact⟨rfl,rfl⟩
  rw[e.1,e.2];exact BT (S.ne i hi) (S.gN i hi) a b
 ·by_cases h2:i=j+1∨(j+1=n∧i=0)
  ·obtain⟨a,b⟩:=hp h2;have e:v (j+1)=v i∧v (j+2)=v (i+1):=by
    rcases h2 with rfl|⟨h,rfl⟩
    ·exact⟨rfl,rfl⟩
    ·have:j+2=n+1:=by omega
     rw[this,S.cl1,h,S.cl]; exact⟨rfl,rfl⟩
   have:=S.gN j hj;rw[e.1,e.2] at this;rw[e.1];exact A4 this a b
  ·exact Ec (S.sep j i hj hi (by omega) (by omega) (by omega) (by omega) (by omega)) t0 t1 s0 s1
theorem j9 (u w d:P2) (t x:Rat):tn u w (sm (cv u w t) d x)=x*cr u w d:=by unfold tn sm cv cr; grind
theorem iW {u w p q:P2} {σ:Rat} (h1:0 < σ*tn u w p) (h2:0 < σ*tn u w q):Sep u w p q:=by
 refine wx (σ*(w.2-u.2)) (-(σ*(w.1-u.1))) (-(σ*((w.2-u.2)*u.1-(w.1-u.1)*u.2))) ?_ ?_ ?_ ?_
 ·unfold af; grind
 ·unfold af; grind
 ·unfold tn at h1; unfold af; grind
 ·unfold tn at h2; unfold af; grind
theorem Simple.beside (S:Simple n v) {σ:Rat} {i:Nat} (hi:i<n) {t s:Rat} (t0:0<t) (t1:t<1) (s0:0<s) (s1:s<1) {d d':P2} (h:0 < σ*cr (v i) (v (i+1)) d) (h':0 < σ*cr (v i) (v (i+1)) d') :
  Ev fun x y=>W n v (sm (cv (v i) (v (i+1)) t) d x)=W n v (sm (cv (v i) (v (i+1)) s) d' y):=by
 have hE:Ev fun x y=>∀j,j<n→Sep (v j) (v (j+1)) (sm (cv (v i) (v (i+1)) t) d x) (sm (cv (v i) (v (i+1)) s) d' y):=by
  refine Ev.all fun j hj=>?_
  by_cases e:i=j
  ·subst e;refine Ev.of fun x y hx hy=>iW (σ:=σ) ?_ ?_
   ·rw[j9]; have:=bp hx h; grind
   ·rw[j9]; have:=bp hy h'; grind
  ·exact sZ (S.off hi hj e (by grind) (by grind) (by grind) (by grind) (fun _=>⟨t1,s1⟩) (fun _=>⟨t0,s0⟩)) d d'
 exact hE.mono fun x y _ _ h=>xp S.cl h
def HS (n:Nat) (v:Nat→P2) (σ:Rat) (i:Nat) (L:Int):Prop:=∀t d,0<t→t<1→0 < σ*cr (v i) (v (i+1)) d→∃e:Rat,0<e∧∀x,0<x→x≤e→W n v (sm (cv (v i) (v (i+1)) t) d x)=L
theorem Simple.hs (S:Simple n v) {σ:Rat} (hσ:σ≠0) {i:Nat} (hi:i<n):∃L,HS n v σ i L:=by
 have hl:=sd (S.ne i hi)
 let d0:P2:=(-(σ*((v (i+1)).2-(v i).2)),σ*((v (i+1)).1-(v i).1))
 have h0:0 < σ*cr (v i) (v (i+1)) d0:=by
  have:=bp (sq_pos hσ) hl;have e:σ*cr (v i) (v (i+1)) d0=σ*σ*(((v (i+1)).1-(v i).1)*((v (i+1)).1-(v i).1)+((v (i+1)).2-(v i).2)*((v (i+1)).2-(v i).2)):=by
   show σ*(((v (i+1)).1-(v i).1)*(σ*((v (i+1)).1-(v i).1))-((v (i+1)).2-(v i).2)*(-(σ*((v (i+1)).2-(v i).2))))=_
   grind
  rw[e]; exact this
 obtain⟨e,e0,he⟩:=S.beside (σ:=σ) hi (t:=1/2) (s:=1/2) (by grind) (by grind) (by grind) (by grind) h0 h0
 refine⟨W n v (sm (cv (v i) (v (i+1)) (1/2)) d0 e),fun t d t0 t1 hd=>?_⟩;obtain⟨f,f0,hf⟩:=S.beside (σ:=σ) hi (t:=t) (s:=1/2) t0 t1 (by grind) (by grind) hd h0
 obtain⟨g,g0,ge,gf⟩:=ei e0 f0;refine⟨f,f0,fun x x0 x1=>?_⟩;rw[hf x g x0 x1 g0 (by grind),he g e g0 (by grind) e0 (by grind)]
theorem HS.inj {σ:Rat} {i:Nat} {L L':Int} (h:HS n v σ i L) (h':HS n v σ i L') (hd:∃d,0 < σ*cr (v i) (v (i+1)) d):L=L':=by
 obtain⟨d,hd⟩:=hd;obtain⟨e,e0,he⟩:=h (1/2) d (by grind) (by grind) hd
 obtain⟨f,f0,hf⟩:=h' (1/2) d (by grind) (by grind) hd
 obtain⟨g,g0,ge,gf⟩:=ei e0 f0;rw[←he g g0 (by grind),hf g g0 (by grind)]
theorem Simple.EX (S:Simple n v) {i:Nat} (hi:i<n) {L R:Int} (hL:HS n v 1 i L) (hR:HS n v (-1) i R):L=R+1:=by
 have hne:=S.ne i hi;have eoff:∀d d':P2,Ev fun x y=>∀j,j<n→j≠i→Sep (v j) (v (j+1)) (sm (cv (v i) (v (i+1)) (1/2)) d x) (sm (cv (v i) (v (i+1)) (1/2)) d' y):=fun d d' =>
  Ev.all (P:=fun j x y=>j≠i→Sep (v j) (v (j+1)) (sm (cv (v i) (v (i+1)) (1/2)) d x) (sm (cv (v i) (v (i+1)) (1/2)) d' y)) fun j hj=>by
   by_cases e:j=i
   ·exact Ev.of fun _ _ _ _ h=>absurd e h
   ·exact(sZ (S.off hi hj (Ne.symm e) (t:=1/2) (s:=1/2) (by grind) (by grind) (by grind) (by grind) (fun _=>⟨by grind,by grind⟩) (fun _=>⟨by grind,by grind⟩)) d d').mono fun x y _ _ h _=>h
 have pick:∀d d':P2,0<cr (v i) (v (i+1)) d→0 < -cr (v i) (v (i+1)) d'→∃x:Rat,0<x∧W n v (sm (cv (v i) (v (i+1)) (1/2)) d x)=L∧W n v (sm (cv (v i) (v (i+1)) (1/2)) d' x)=R ∧
   (∀j,j<n→j≠i→Sep (v j) (v (j+1)) (sm (cv (v i) (v (i+1)) (1/2)) d x) (sm (cv (v i) (v (i+1)) (1/2)) d' x))∧∀B:Rat,B<0→True:=by
  intro d d' hd hd';obtain⟨e,e0,he⟩:=hL (1/2) d (by grind) (by grind) (by grind)
  obtain⟨f,f0,hf⟩:=hR (1/2) d' (by grind) (by grind) (by grind)
  obtain⟨g,g0,hg⟩:=eoff d d';obtain⟨k,k0,ke,kf⟩:=ei e0 f0;obtain⟨m,m0,mk,mg⟩:=ei k0 g0;exact⟨m,m0,he m m0 (by grind),hf m m0 (by grind),hg m m m0 (by grind) m0 (by grind),fun _ _=>trivial⟩
 generalize hu:v i=u at *;generalize hw:v (i+1)=w at *
 by_cases h0:w.2=u.2
 ·
  have h1:w.1≠u.1:=fun e=>hne (Prod.ext e.symm h0.symm)
  by_cases hp:u.1<w.1
  ·obtain⟨x,x0,xL,xR,xs,_⟩:=pick (0,1) (0,-1) (by unfold cr; grind) (by unfold cr; grind)
   have k:=yy S.cl hi (p:=sm (cv u w (1/2)) (0,-1) x) (q:=sm (cv u w (1/2)) (0,1) x) (by unfold sm; grind) fun j hj hn=>(xs j hj hn).pq
   rw[hu,hw,eQ (by unfold sm cv; grind) (by unfold sm cv; grind),eQ (by unfold sm cv; grind) (by unfold sm cv; grind),pQ (v:=w) (by unfold sm cv; grind) (by unfold sm cv; grind),pQ (v:=u) (by unfold sm cv; grind) (by unfold sm cv; grind)] at k
   have t1:tn (sm (cv u w (1/2)) (0,-1) x) (sm (cv u w (1/2)) (0,1) x) w = -(x*(w.1-u.1)):=by unfold tn sm cv; grind
   have t2:tn (sm (cv u w (1/2)) (0,-1) x) (sm (cv u w (1/2)) (0,1) x) u=x*(w.1-u.1):=by unfold tn sm cv; grind
   have m:=bp x0 (show 0<w.1-u.1 by grind)
   rw[t1,t2,if_pos (by grind),if_neg (by grind),xL,xR] at k
   omega
  ·obtain⟨x,x0,xL,xR,xs,_⟩:=pick (0,-1) (0,1) (by unfold cr; grind) (by unfold cr; grind)
   have k:=yy S.cl hi (p:=sm (cv u w (1/2)) (0,-1) x) (q:=sm (cv u w (1/2)) (0,1) x) (by unfold sm; grind) fun j hj hn=>xs j hj hn
   rw[hu,hw,eQ (by unfold sm cv; grind) (by unfold sm cv; grind),eQ (by unfold sm cv; grind) (by unfold sm cv; grind),pQ (v:=w) (by unfold sm cv; grind) (by unfold sm cv; grind),pQ (v:=u) (by unfold sm cv; grind) (by unfold sm cv; grind)] at k
   have t1:tn (sm (cv u w (1/2)) (0,-1) x) (sm (cv u w (1/2)) (0,1) x) w=x*(u.1-w.1):=by unfold tn sm cv; grind
   have t2:tn (sm (cv u w (1/2)) (0,-1) x) (sm (cv u w (1/2)) (0,1) x) u = -(x*(u.1-w.1)):=by unfold tn sm cv; grind
   have m:=bp x0 (show 0<u.1-w.1 by grind)
   rw[t1,t2,if_neg (by grind),if_pos (by grind),xL,xR] at k
   omega
 ·by_cases hp:u.2<w.2
  ·obtain⟨x,x0,xL,xR,xs,_⟩:=pick (-1,0) (1,0) (by unfold cr; grind) (by unfold cr; grind)
   have k:=yy S.cl hi (p:=sm (cv u w (1/2)) (-1,0) x) (q:=sm (cv u w (1/2)) (1,0) x) (by unfold sm; grind) fun j hj hn=>xs j hj hn
   rw[gC (by unfold sm; grind),gC (by unfold sm; grind),hu,hw,mZ (by unfold sm cv; grind) (by unfold sm cv; grind),mZ (by unfold sm cv; grind) (by unfold sm cv; grind),j9,j9] at k
   have m:=bp x0 (show 0<w.2-u.2 by grind)
   rw[if_pos (by unfold cr; grind),if_neg (by unfold cr; grind),xL,xR] at k
   omega
  ·obtain⟨x,x0,xL,xR,xs,_⟩:=pick (1,0) (-1,0) (by unfold cr; grind) (by unfold cr; grind)
   have k:=yy S.cl hi (p:=sm (cv u w (1/2)) (-1,0) x) (q:=sm (cv u w (1/2)) (1,0) x) (by unfold sm; grind) fun j hj hn=>(xs j hj hn).pq
   have e1:=oa w u (sm (cv u w (1/2)) (-1,0) x);have e2:=oa w u (sm (cv u w (1/2)) (1,0) x);rw[mZ (a:=w) (b:=u) (by unfold sm cv; grind) (by unfold sm cv; grind),lE u w,j9] at e1
   rw[mZ (a:=w) (b:=u) (by unfold sm cv; grind) (by unfold sm cv; grind),lE u w,j9] at e2
   have m:=bp x0 (show 0<u.2-w.2 by grind)
   rw[if_pos (by unfold cr; grind)] at e1
   rw[if_neg (by unfold cr; grind)] at e2
   rw[gC (by unfold sm; grind),gC (by unfold sm; grind),hu,hw,e1,e2,xL,xR] at k
   omega
theorem Simple.xo (S:Simple n v) {σ:Rat} {i:Nat} (hi:i+1<n) {d:P2} (hd:0 < σ*cr (v i) (v (i+1)) d) (hd':0 < σ*cr (v (i+1)) (v (i+2)) d) (hs:0≤σ*tn (v i) (v (i+1)) (v (i+2)))
  {L L':Int} (h:HS n v σ i L) (h':HS n v σ (i+1) L'):L=L':=by
 have hn3:=S.n3;have e1:Ev fun x y=>∀j,j<n→Sep (v j) (v (j+1)) (sm (cv (v i) (v (i+1)) (1/2)) d x) (sm (cv (v i) (v (i+1)) 1) d y):=by
  refine Ev.all fun j hj=>?_
  by_cases e:i=j
  ·subst e;refine Ev.of fun x y hx hy=>iW (σ:=σ) ?_ ?_
   ·rw[j9]; have:=bp hx hd; grind
   ·rw[j9]; have:=bp hy hd; grind
  ·by_cases e':j=i+1
   ·subst e';refine Ev.of fun x y hx hy=>iW (σ:=σ) ?_ ?_
    ·have m1:=bp hx hd';have:σ*tn (v (i+1)) (v (i+1+1)) (sm (cv (v i) (v (i+1)) (1/2)) d x)=1/2*(σ*tn (v i) (v (i+1)) (v (i+2)))+x*(σ*cr (v (i+1)) (v (i+2)) d):=by
      unfold tn sm cv cr; grind
     rw[this]; grind
    ·have m1:=bp hy hd';have:σ*tn (v (i+1)) (v (i+1+1)) (sm (cv (v i) (v (i+1)) 1) d y)=y*(σ*cr (v (i+1)) (v (i+2)) d):=by
      unfold tn sm cv cr; grind
     rw[this]; exact m1
   ·exact sZ (S.off (by omega) hj e (by grind) (by grind) (by grind) (by grind) (fun h=>by omega) (fun _=>⟨by grind,by grind⟩)) d d
 have e2:Ev fun x y=>∀j,j<n→Sep (v j) (v (j+1)) (sm (cv (v (i+1)) (v (i+2)) (1/2)) d x) (sm (cv (v (i+1)) (v (i+2)) 0) d y):=by
  refine Ev.all fun j hj=>?_
  by_cases e:j=i+1
  ·subst e;refine Ev.of fun x y hx hy=>iW (σ:=σ) ?_ ?_
   ·rw[j9]; have:=bp hx hd'; grind
   ·rw[j9]; have:=bp hy hd'; grind
  ·by_cases e':j=i
   ·subst e';refine Ev.of fun x y hx hy=>iW (σ:=σ) ?_ ?_
    ·have m1:=bp hx hd;have:σ*tn (v j) (v (j+1)) (sm (cv (v (j+1)) (v (j+2)) (1/2)) d x)=1/2*(σ*tn (v j) (v (j+1)) (v (j+2)))+x*(σ*cr (v j) (v (j+1)) d):=by
      unfold tn sm cv cr; grind
     rw[this]; grind
    ·have m1:=bp hy hd;have:σ*tn (v j) (v (j+1)) (sm (cv (v (j+1)) (v (j+2)) 0) d y)=y*(σ*cr (v j) (v (j+1)) d):=by
      unfold tn sm cv cr; grind
     rw[this]; exact m1
   ·exact sZ (S.off (i:=i+1) hi hj (Ne.symm e) (by grind) (by grind) (by grind) (by grind) (fun _=>⟨by grind,by grind⟩) (fun h=>by omega)) d d
 obtain⟨a,a0,ha⟩:=e1;obtain⟨b,b0,hb⟩:=e2;obtain⟨f,f0,hf⟩:=h (1/2) d (by grind) (by grind) hd
 obtain⟨g,g0,hg⟩:=h' (1/2) d (by grind) (by grind) hd'
 obtain⟨k,k0,ka,kb⟩:=ei a0 b0;obtain⟨l,l0,lf,lg⟩:=ei f0 g0;obtain⟨x,x0,xk,xl⟩:=ei k0 l0;have w1:=xp S.cl (ha x x x0 (by grind) x0 (by grind))
 have w2:=xp S.cl (hb x x x0 (by grind) x0 (by grind))
 rw[hf x x0 (by grind)] at w1
 rw[hg x x0 (by grind)] at w2
 have e:cv (v i) (v (i+1)) 1=cv (v (i+1)) (v (i+2)) 0:=by unfold cv; exact Prod.ext (by grind) (by grind)
 rw[w1,w2,e]
theorem Simple.step (S:Simple n v) {i:Nat} (hi:i+1<n) {L L':Int} (h:HS n v 1 i L) (h':HS n v 1 (i+1) L'):L=L':=by
 have hne:=S.ne i (by omega)
 have ht:=S.gN i (by omega)
 have c1:cr (v i) (v (i+1)) ((v (i+2)).1-(v (i+1)).1-((v (i+1)).1-(v i).1),(v (i+2)).2-(v (i+1)).2-((v (i+1)).2-(v i).2))=tn (v i) (v (i+1)) (v (i+2)):=by unfold cr tn; grind
 have c2:cr (v (i+1)) (v (i+2)) ((v (i+2)).1-(v (i+1)).1-((v (i+1)).1-(v i).1),(v (i+2)).2-(v (i+1)).2-((v (i+1)).2-(v i).2))=tn (v i) (v (i+1)) (v (i+2)):=by unfold cr tn; grind
 by_cases h0:tn (v i) (v (i+1)) (v (i+2))=0
 ·have hd:0<dt (v i) (v (i+1)) (v (i+2)):=ht.resolve_left fun e=>e h0;have hl:=sd hne;refine S.xo (σ:=1) hi (d:=(-((v (i+1)).2-(v i).2),(v (i+1)).1-(v i).1)) ?_ ?_ (by rw[h0]; grind) h h'
  ·unfold cr; grind
  ·unfold dt at hd; unfold cr; grind
 ·by_cases hp:0<tn (v i) (v (i+1)) (v (i+2))
  ·exact S.xo (σ:=1) hi (by rw[c1]; grind) (by rw[c2]; grind) (by grind) h h'
  ·obtain⟨R,hR⟩:=S.hs (σ:=-1) (by grind) (i:=i) (by omega)
   obtain⟨R',hR'⟩:=S.hs (σ:=-1) (by grind) (i:=i+1) (by omega)
   have e:=S.xo (σ:=-1) hi (by rw[c1]; grind) (by rw[c2]; grind) (by grind) hR hR'
   have e1:=S.EX (by omega) h hR
   have e2:=S.EX hi h' hR';omega
end
section
variable {n : Nat} {v : Nat → P2}
def dd (u w:P2) (y:Rat):Int:=if u.2<y∧y<w.2 then 1 else if w.2<y∧y<u.2 then -1 else 0
end
abbrev I2:=Int × Int
def ti (a b c:I2):Int:=(b.1-a.1)*(c.2-a.2)-(b.2-a.2)*(c.1-a.1)
theorem gw (a b p:I2):ti b a p = -ti a b p:=by unfold ti; grind
theorem HI (a p:I2):ti a a p=0:=by unfold ti; grind
theorem kA (a b:I2):ti a b a=0:=by unfold ti; grind
theorem kK (a b:I2):ti a b b=0:=by unfold ti; grind
theorem D4 (a b c d:I2):ti a b d-ti a b c=ti c d a-ti c d b:=by unfold ti; grind
def dJ (a b p:I2):Prop:=ti a b p=0∧min a.1 b.1≤p.1∧p.1≤max a.1 b.1∧min a.2 b.2≤p.2∧p.2≤max a.2 b.2
instance (a b p:I2):Decidable (dJ a b p):=by unfold dJ; infer_instance
theorem dJ.swap {a b p:I2} (h:dJ a b p):dJ b a p:=by
 obtain⟨h1,h2⟩:=h;exact⟨by rw[gw,h1]; rfl,by omega⟩
theorem po {a b p:I2}:dJ a b p↔dJ b a p:=⟨dJ.swap,dJ.swap⟩
theorem E3 (a b:I2):dJ a b a:=⟨kA a b,by omega⟩
theorem EJ (a b:I2):dJ a b b:=⟨kK a b,by omega⟩
theorem Bn {a b p:I2} (h:a.1<b.1):dJ a b p↔ti a b p=0∧a.1≤p.1∧p.1≤b.1:=by
 refine⟨fun⟨h1,h2⟩=>⟨h1,by omega⟩,fun⟨h1,h2,h3⟩=>⟨h1,by omega,by omega,?_,?_⟩⟩
 all_goals
  unfold ti at h1;have e1:(b.1-a.1)*(p.2-a.2)=(b.2-a.2)*(p.1-a.1):=by omega
  have e2:(b.1-a.1)*(b.2-p.2)=(b.2-a.2)*(b.1-p.1):=by grind
  by_cases hy:a.2≤b.2
  ·have m1:0≤(b.1-a.1)*(p.2-a.2):=by rw[e1]; exact Int.mul_nonneg (by omega) (by omega)
   have m2:0≤(b.1-a.1)*(b.2-p.2):=by rw[e2]; exact Int.mul_nonneg (by omega) (by omega)
   have k1:=Int.nonneg_of_mul_nonneg_right m1 (by omega)
   have k2:=Int.nonneg_of_mul_nonneg_right m2 (by omega)
   omega
  ·have m1:0≤(b.1-a.1)*(a.2-p.2):=by
    rw[show(b.1-a.1)*(a.2-p.2)=(a.2-b.2)*(p.1-a.1) by grind]; exact Int.mul_nonneg (by omega) (by omega)
   have m2:0≤(b.1-a.1)*(p.2-b.2):=by
    rw[show(b.1-a.1)*(p.2-b.2)=(a.2-b.2)*(b.1-p.1) by grind]; exact Int.mul_nonneg (by omega) (by omega)
   have k1:=Int.nonneg_of_mul_nonneg_right m1 (by omega)
   have k2:=Int.nonneg_of_mul_nonneg_right m2 (by omega)
   omega
theorem Cy {a b p:I2} (h:a.1=b.1) (hab:a≠b):dJ a b p↔p.1=a.1∧min a.2 b.2≤p.2∧p.2≤max a.2 b.2:=by
 have hy:a.2≠b.2:=fun e=>hab (Prod.ext h e);refine⟨fun⟨_,h2⟩=>by omega,fun⟨h1,h2⟩=>⟨?_,by omega⟩⟩
 unfold ti;rw[h1,←h]; grind
theorem iH {a b p:I2} (h:a.1=b.1) (hab:a≠b) (h0:ti a b p=0):p.1=a.1:=by
 have hy:b.2-a.2≠0:=fun e=>hab (Prod.ext h (by omega))
 unfold ti at h0;rw[h,Int.sub_self,Int.zero_mul] at h0;have:(b.2-a.2)*(p.1-b.1)=0:=by omega
 rcases Int.mul_eq_zero.1 this with e|e
 ·exact absurd e hy
 ·omega
theorem k6 {a b p q:I2} (h:a.1≠b.1) (hp:ti a b p=0) (hq:ti a b q=0) (e:p.1=q.1):p=q:=by
 have:(b.1-a.1)*(p.2-q.2)=0:=by unfold ti at hp hq; rw[e] at hp; grind
 rcases Int.mul_eq_zero.1 this with e' | e'
 ·omega
 ·exact Prod.ext e (by omega)
def Lx (a b:I2):Prop:=a.1<b.1∨a.1=b.1∧a.2≤b.2
theorem FP {a b p:I2} (hab:a≠b) (h:Lx a b):dJ a b p↔ti a b p=0∧Lx a p∧Lx p b:=by
 unfold Lx at *
 by_cases hx:a.1<b.1
 ·rw[Bn hx];refine⟨fun⟨h1,h2,h3⟩=>⟨h1,?_,?_⟩,fun⟨h1,h2,h3⟩=>⟨h1,by omega,by omega⟩⟩
  ·by_cases e:p.1=a.1
   ·have:=k6 (by omega) h1 (kA a b) e
    rw[this]; omega
   ·omega
  ·by_cases e:p.1=b.1
   ·have:=k6 (by omega) h1 (kK a b) e
    rw[this]; omega
   ·omega
 ·have e:a.1=b.1:=by omega
  rw[Cy e hab];refine⟨fun⟨h1,h2⟩=>⟨?_,by omega,by omega⟩,fun⟨h1,h2,h3⟩=>?_⟩
  ·unfold ti; rw[h1,←e]; grind
  ·have:=iH e hab h1;omega
def gK (a b c d x:I2):Prop:=(x=a∨x=b∨x=c∨x=d)∧dJ a b x∧dJ c d x
def low (a b c d:I2):Int:=if a.1=b.1 then max (min a.2 b.2) (min c.2 d.2)-min (max a.2 b.2) (max c.2 d.2) else max (min a.1 b.1) (min c.1 d.1)-min (max a.1 b.1) (max c.1 d.1)
theorem CZ {a b c d:I2} (hab:a≠b) (hcd:c≠d) (hc:ti a b c=0) (hd:ti a b d=0):∃f:I2→Int,low a b c d=max (min (f a) (f b)) (min (f c) (f d))-min (max (f a) (f b)) (max (f c) (f d)) ∧
  (∀x y,ti a b x=0→ti a b y=0→f x=f y→x=y)∧(∀x,dJ a b x↔ti a b x=0∧min (f a) (f b)≤f x∧f x≤max (f a) (f b))∧(∀x,ti a b x=0→(dJ c d x↔min (f c) (f d)≤f x∧f x≤max (f c) (f d))):=by
 by_cases h:a.1=b.1
 ·have h3:=iH h hab hc;have h4:=iH h hab hd;refine⟨fun x=>x.2,by unfold low; rw[if_pos h],fun x y hx hy e=>Prod.ext ((iH h hab hx).trans (iH h hab hy).symm) e,fun x=>?_,fun x hx=>?_⟩
  ·rw[Cy h hab];refine⟨fun⟨h0,h1⟩=>⟨?_,h1⟩,fun⟨h0,h1⟩=>⟨iH h hab h0,h1⟩⟩;unfold ti; rw[h0,←h]; grind
  ·rw[Cy (by omega) hcd]
   have:=iH h hab hx;exact⟨fun h=>h.2,fun h=>⟨by omega,h⟩⟩
 ·have h2:c.1≠d.1:=fun e=>hcd (k6 h hc hd e);have dir:∀x,ti a b x=0→ti c d x=0:=fun x hx=>by
   have e0:(b.1-a.1)*(c.2-a.2)=(b.2-a.2)*(c.1-a.1):=by unfold ti at hc; omega
   have e1:(b.1-a.1)*(d.2-a.2)=(b.2-a.2)*(d.1-a.1):=by unfold ti at hd; omega
   have e2:(b.1-a.1)*(x.2-a.2)=(b.2-a.2)*(x.1-a.1):=by unfold ti at hx; omega
   have:(b.1-a.1)*ti c d x=0:=by
    unfold ti;have:(b.1-a.1)*((d.1-c.1)*(x.2-c.2)-(d.2-c.2)*(x.1-c.1))=(d.1-c.1)*((b.1-a.1)*(x.2-a.2)-(b.1-a.1)*(c.2-a.2))-((b.1-a.1)*(d.2-a.2)-(b.1-a.1)*(c.2-a.2))*(x.1-c.1):=by grind
    rw[this,e0,e1,e2]; grind
   rcases Int.mul_eq_zero.1 this with e|e
   ·omega
   ·exact e
  have gen:∀{u w:I2},u.1≠w.1→∀x,(dJ u w x↔ti u w x=0∧min u.1 w.1≤x.1∧x.1≤max u.1 w.1):=fun {u w} huw x=>by
   by_cases hl:u.1<w.1
   ·rw[Bn hl]; refine⟨fun⟨h0,h1⟩=>⟨h0,by omega⟩,fun⟨h0,h1⟩=>⟨h0,by omega⟩⟩
   ·rw[po,Bn (by omega),gw]; refine⟨fun⟨h0,h1⟩=>⟨by omega,by omega⟩,fun⟨h0,h1⟩=>⟨by omega,by omega⟩⟩
  refine⟨fun x=>x.1,by unfold low; rw[if_neg h],fun x y hx hy e=>k6 h hx hy e,gen h,fun x hx=>?_⟩
  rw[gen h2];exact⟨fun h=>h.2,fun h=>⟨dir x hx,h⟩⟩
theorem uP {a b c d:I2} (hab:a≠b) (hcd:c≠d) (hc:ti a b c=0) (hd:ti a b d=0) :
  (0<low a b c d↔∀x,¬gK a b c d x)∧(low a b c d<0↔∃x y,gK a b c d x∧gK a b c d y∧x≠y):=by
 obtain⟨f,e,hi,h1,h2⟩:=CZ hab hcd hc hd;have ha0:=kA a b;have hb0:=kK a b;have hfab:f a≠f b:=fun h=>hab (hi a b ha0 hb0 h);have hfcd:f c≠f d:=fun h=>hcd (hi c d hc hd h);have Dn:∀x,gK a b c d x↔(x=a∨x=b∨x=c∨x=d)∧(min (f a) (f b)≤f x∧f x≤max (f a) (f b))∧(min (f c) (f d)≤f x∧f x≤max (f c) (f d)):=fun x=>by
  unfold gK;refine⟨fun⟨h,g1,g2⟩=>⟨h,((h1 x).1 g1).2,(h2 x ((h1 x).1 g1).1).1 g2⟩,fun⟨h,g1,g2⟩=>?_⟩;have hx:ti a b x=0:=by rcases h with rfl|rfl|rfl|rfl<;>assumption
  exact⟨h,(h1 x).2 ⟨hx,g1⟩,(h2 x hx).2 g2⟩
 rw[e];have lo:∃x,(x=a∨x=b∨x=c∨x=d)∧f x=max (min (f a) (f b)) (min (f c) (f d)):=by
  by_cases g1:f a≤f b<;>by_cases g2:f c≤f d
  ·by_cases g3:f a≤f c
   ·exact⟨c,by simp,by omega⟩
   ·exact⟨a,by simp,by omega⟩
  ·by_cases g3:f a≤f d
   ·exact⟨d,by simp,by omega⟩
   ·exact⟨a,by simp,by omega⟩
  ·by_cases g3:f b≤f c
   ·exact⟨c,by simp,by omega⟩
   ·exact⟨b,by simp,by omega⟩
  ·by_cases g3:f b≤f d
   ·exact⟨d,by simp,by omega⟩
   ·exact⟨b,by simp,by omega⟩
 have hi':∃x,(x=a∨x=b∨x=c∨x=d)∧f x=min (max (f a) (f b)) (max (f c) (f d)):=by
  by_cases g1:f a≤f b<;>by_cases g2:f c≤f d
  ·by_cases g3:f b≤f d
   ·exact⟨b,by simp,by omega⟩
   ·exact⟨d,by simp,by omega⟩
  ·by_cases g3:f b≤f c
   ·exact⟨b,by simp,by omega⟩
   ·exact⟨c,by simp,by omega⟩
  ·by_cases g3:f a≤f d
   ·exact⟨a,by simp,by omega⟩
   ·exact⟨d,by simp,by omega⟩
  ·by_cases g3:f a≤f c
   ·exact⟨a,by simp,by omega⟩
   ·exact⟨c,by simp,by omega⟩
 obtain⟨x,x1,x2⟩:=lo;obtain⟨y,y1,y2⟩:=hi';constructor
 ·refine⟨fun h z hz=>?_,fun h=>?_⟩
  ·have:=(Dn z).1 hz;omega
  ·refine Decidable.byContradiction fun hc=>h x ((Dn x).2 ⟨x1,by omega,by omega⟩)
 ·refine⟨fun h=>⟨x,y,(Dn x).2 ⟨x1,by omega,by omega⟩,(Dn y).2 ⟨y1,by omega,by omega⟩,fun e=>by rw[e] at x2; omega⟩,fun⟨z,w,hz,hw,hne⟩=>?_⟩
  refine Decidable.byContradiction fun hc=>hne (hi z w ?_ ?_ ?_)
  ·exact hz.2.1.1
  ·exact hw.2.1.1
  ·have:=(Dn z).1 hz;have:=(Dn w).1 hw;omega
theorem Dj {a b c d:I2} (hcd:c≠d) (h:¬(ti a b c=0∧ti a b d=0)) {x y:I2} (hx:dJ a b x∧dJ c d x) (hy:dJ a b y∧dJ c d y):x=y:=by
 obtain⟨⟨a1,_⟩,⟨a2,_⟩⟩:=hx;obtain⟨⟨b1,_⟩,⟨b2,_⟩⟩:=hy;have hk:(b.1-a.1)*(d.2-c.2)-(b.2-a.2)*(d.1-c.1)≠0:=fun e=>by
  have e1:ti a b d-ti a b c=0:=by
   have:ti a b d-ti a b c=(b.1-a.1)*(d.2-c.2)-(b.2-a.2)*(d.1-c.1):=by unfold ti; grind
   omega
  have e2:(d.1-c.1)*ti a b c=0:=by
   have t:(d.1-c.1)*ti a b c=(d.1-c.1)*ti a b x-(b.1-a.1)*ti c d x-(x.1-c.1)*((b.1-a.1)*(d.2-c.2)-(b.2-a.2)*(d.1-c.1)):=by unfold ti; grind
   rw[t,a1,a2,e]; simp
  have e3:(d.2-c.2)*ti a b c=0:=by
   have t:(d.2-c.2)*ti a b c=(d.2-c.2)*ti a b x-(b.2-a.2)*ti c d x-(x.2-c.2)*((b.1-a.1)*(d.2-c.2)-(b.2-a.2)*(d.1-c.1)):=by unfold ti; grind
   rw[t,a1,a2,e]; simp
  have h0:ti a b c=0:=by
   rcases Int.mul_eq_zero.1 e2 with g|g
   ·rcases Int.mul_eq_zero.1 e3 with g' | g'
    ·exact absurd (Prod.ext (by omega) (by omega)) hcd
    ·exact g'
   ·exact g
  exact h ⟨h0,by omega⟩
 have f1:((b.1-a.1)*(d.2-c.2)-(b.2-a.2)*(d.1-c.1))*(x.1-y.1)=0:=by
  have t:((b.1-a.1)*(d.2-c.2)-(b.2-a.2)*(d.1-c.1))*(x.1-y.1)=(d.1-c.1)*(ti a b x-ti a b y)-(b.1-a.1)*(ti c d x-ti c d y):=by unfold ti; grind
  rw[t,a1,a2,b1,b2]; simp
 have f2:((b.1-a.1)*(d.2-c.2)-(b.2-a.2)*(d.1-c.1))*(x.2-y.2)=0:=by
  have t:((b.1-a.1)*(d.2-c.2)-(b.2-a.2)*(d.1-c.1))*(x.2-y.2)=(d.2-c.2)*(ti a b x-ti a b y)-(b.2-a.2)*(ti c d x-ti c d y):=by unfold ti; grind
  rw[t,a1,a2,b1,b2]; simp
 refine Prod.ext ?_ ?_
 ·rcases Int.mul_eq_zero.1 f1 with g|g
  ·exact absurd g hk
  ·omega
 ·rcases Int.mul_eq_zero.1 f2 with g|g
  ·exact absurd g hk
  ·omega
def di (a b c:I2):Int:=(b.1-a.1)*(c.1-b.1)+(b.2-a.2)*(c.2-b.2)
def NM (a b c d:I2):Prop:=(∀x,¬gK a b c d x)∧¬(((0<ti a b c∧ti a b d<0)∨(ti a b c<0∧0<ti a b d))∧((0<ti c d a∧ti c d b<0)∨(ti c d a<0∧0<ti c d b)))
def nx (r:List I2) (i:Nat):I2:=r.getD (i%r.length) (0,0)
structure VR (r:List I2):Prop where
 n3:2<r.length
 still:∀i,nx r i≠nx r (i+1)
 re:∀i,¬(ti (nx r i) (nx r (i+1)) (nx r (i+2))=0∧di (nx r i) (nx r (i+1)) (nx r (i+2))<0)
 meet:∀j i,j+1<i→i<r.length→¬(j=0∧i+1=r.length)→NM (nx r j) (nx r (j+1)) (nx r i) (nx r (i+1))
theorem Sep.symm {a b p q:P2} (h:Sep a b p q):Sep p q a b:=by
 obtain⟨α,β,γ,g1,g2,g3,g4⟩:=h;exact⟨-α,-β,-γ,by unfold af at *; grind,by unfold af at *; grind,by unfold af at *; grind,by unfold af at *; grind⟩
theorem ur {x:Int}:0≤x*x:=by
 rcases Int.le_total 0 x with h|h
 ·exact Int.mul_nonneg h h
 ·exact Int.mul_nonneg_of_nonpos_of_nonpos h h
theorem Hs {x:Int} (h:x*x=0):x=0:=by
 rcases Int.mul_eq_zero.1 h with h|h<;>exact h
def qX (a b c d:I2):Prop:=((0<ti a b c∧ti a b d<0)∨(ti a b c<0∧0<ti a b d))∧((0<ti c d a∧ti c d b<0)∨(ti c d a<0∧0<ti c d b))
def CK (a b c d:I2):Prop:=ti a b c=0∧ti a b d=0
section
variable {a b c d : I2}
theorem CR (hab:a≠b) (hcd:c≠d):(∃x y,gK a b c d x∧gK a b c d y∧x≠y)↔CK a b c d∧low a b c d<0:=by
 by_cases h:CK a b c d
 ·have:=(uP hab hcd h.1 h.2).2;exact⟨fun g=>⟨h,this.2 g⟩,fun g=>this.1 g.2⟩
 ·exact⟨fun⟨x,y,hx,hy,hne⟩=>absurd (Dj hcd h hx.2 hy.2) hne,fun g=>absurd g.1 h⟩
theorem AB (hab:a≠b) (hcd:c≠d):(∃x,gK a b c d x)↔(CK a b c d∧low a b c d≤0)∨(¬CK a b c d∧(dJ a b c∨dJ a b d∨dJ c d a∨dJ c d b)):=by
 by_cases h:CK a b c d
 ·have:=(uP hab hcd h.1 h.2).1;constructor
  ·rintro⟨x,hx⟩;refine .inl ⟨h,?_⟩;refine Decidable.byContradiction fun hc=>?_;exact this.1 (by omega) x hx
  ·rintro(⟨_,g⟩|⟨g,_⟩)
   ·refine Classical.byContradiction fun hc=>?_;have:=this.2 fun x hx=>hc ⟨x,hx⟩;omega
   ·exact absurd h g
 ·constructor
  ·rintro⟨x,h1,h2,h3⟩;refine .inr ⟨h,?_⟩;rcases h1 with rfl|rfl|rfl|rfl
   ·exact .inr (.inr (.inl h3))
   ·exact .inr (.inr (.inr h3))
   ·exact .inl h2
   ·exact .inr (.inl h2)
  ·rintro(⟨g,_⟩|⟨_,g⟩)
   ·exact absurd g h
   ·rcases g with g|g|g|g
    ·exact⟨c,.inr (.inr (.inl rfl)),g,E3 c d⟩
    ·exact⟨d,.inr (.inr (.inr rfl)),g,EJ c d⟩
    ·exact⟨a,.inl rfl,E3 a b,g⟩
    ·exact⟨b,.inr (.inl rfl),EJ a b,g⟩
theorem uT (h:qX a b c d):¬CK a b c d∧∀x,¬gK a b c d x:=by
 unfold qX at h;refine⟨fun g=>?_,fun x ⟨h1,h2,h3⟩=>?_⟩
 ·unfold CK at g; omega
 ·have e2:=h2.1;have e3:=h3.1;rcases h1 with rfl|rfl|rfl|rfl<;>omega
noncomputable def sI (a b c d:I2):Int:=open Classical in if ∃x y,gK a b c d x∧gK a b c d y∧x≠y then 3 else if ∃x,gK a b c d x then 1 else if qX a b c d then 2 else 0
theorem DB (hab:a≠b) (hcd:c≠d):sI a b c d=open Classical in if CK a b c d then(if 0<low a b c d then 0 else if low a b c d=0 then 1 else 3) else if qX a b c d then 2 else if dJ a b c∨dJ a b d∨dJ c d a∨dJ c d b then 1 else 0:=by
 classical
 unfold sI;have h2:=CR hab hcd;have h1:=AB hab hcd
 by_cases hc:CK a b c d
 ·have hx:¬qX a b c d:=fun h=>(uT h).1 hc;rw[if_pos hc,if_neg hx]
  by_cases g1:0<low a b c d
  ·rw[if_pos g1,if_neg (fun h=>by have:=(h2.1 h).2; omega),if_neg (fun h=>(h1.1 h).elim (fun g=>by have:=g.2; omega) (fun g=>g.1 hc))]
  ·by_cases g2:low a b c d=0
   ·rw[if_neg g1,if_pos g2,if_neg (fun h=>by have:=(h2.1 h).2; omega),if_pos (h1.2 (.inl ⟨hc,by omega⟩))]
   ·rw[if_neg g1,if_neg g2,if_pos (h2.2 ⟨hc,by omega⟩)]
 ·rw[if_neg hc,if_neg (fun h=>hc (h2.1 h).1)]
  by_cases hx:qX a b c d
  ·rw[if_pos hx,if_pos hx,if_neg (fun⟨x,h⟩=>(uT hx).2 x h)]
  ·rw[if_neg hx,if_neg hx]
   by_cases hb:dJ a b c∨dJ a b d∨dJ c d a∨dJ c d b
   ·rw[if_pos hb,if_pos (h1.2 (.inr ⟨hc,hb⟩))]
   ·rw[if_neg hb,if_neg (fun h=>(h1.1 h).elim (fun g=>hc g.1) (fun g=>hb g.2))]
theorem sD:sI a b c d=0↔NM a b c d:=by
 classical
 unfold sI NM;constructor
 ·intro h
  by_cases h1:∃x y,gK a b c d x∧gK a b c d y∧x≠y
  ·rw[if_pos h1] at h; exact absurd h (by decide)
  ·rw[if_neg h1] at h
   by_cases h2:∃x,gK a b c d x
   ·rw[if_pos h2] at h; exact absurd h (by decide)
   ·rw[if_neg h2] at h
    by_cases h3:qX a b c d
    ·rw[if_pos h3] at h; exact absurd h (by decide)
    ·exact⟨fun x hx=>h2 ⟨x,hx⟩,h3⟩
 ·rintro⟨h1,h2⟩;rw[if_neg (fun⟨x,_,hx,_⟩=>h1 x hx),if_neg (fun⟨x,hx⟩=>h1 x hx)];exact if_neg h2
end
section
variable {a b c d : I2}
theorem jN {x:I2}:gK a b c d x↔gK c d a b x:=by
 unfold gK;constructor<;>rintro⟨h,g1,g2⟩<;>exact⟨by rcases h with h|h|h|h<;>simp[h],g2,g1⟩
theorem gT {x:I2}:gK a b c d x↔gK b a c d x:=by
 unfold gK;rw[po (a:=a) (b:=b)];constructor<;>rintro⟨h,g⟩<;>exact⟨by rcases h with h|h|h|h<;>simp[h],g⟩
theorem DU:qX a b c d↔qX c d a b:=by unfold qX; exact And.comm
theorem AX:qX a b c d↔qX b a c d:=by
 unfold qX;rw[gw a b c,gw a b d];constructor<;>rintro⟨h,g⟩<;>constructor<;>omega
theorem yc:sI c d a b=sI a b c d:=by
 classical
 have h1:(∃x y,gK c d a b x∧gK c d a b y∧x≠y)↔∃x y,gK a b c d x∧gK a b c d y∧x≠y :=
  ⟨fun⟨x,y,p,q,r⟩=>⟨x,y,jN.1 p,jN.1 q,r⟩,fun⟨x,y,p,q,r⟩=>⟨x,y,jN.1 p,jN.1 q,r⟩⟩
 have h2:(∃x,gK c d a b x)↔∃x,gK a b c d x:=⟨fun⟨x,p⟩=>⟨x,jN.1 p⟩,fun⟨x,p⟩=>⟨x,jN.1 p⟩⟩;unfold sI;simp only[h1,h2,DU (a:=c) (b:=d) (c:=a) (d:=b)]
theorem tx:sI b a c d=sI a b c d:=by
 classical
 have h1:(∃x y,gK b a c d x∧gK b a c d y∧x≠y)↔∃x y,gK a b c d x∧gK a b c d y∧x≠y :=
  ⟨fun⟨x,y,p,q,r⟩=>⟨x,y,gT.1 p,gT.1 q,r⟩,fun⟨x,y,p,q,r⟩=>⟨x,y,gT.1 p,gT.1 q,r⟩⟩
 have h2:(∃x,gK b a c d x)↔∃x,gK a b c d x:=⟨fun⟨x,p⟩=>⟨x,gT.1 p⟩,fun⟨x,p⟩=>⟨x,gT.1 p⟩⟩;unfold sI;simp only[h1,h2,AX (a:=b) (b:=a) (c:=c) (d:=d)]
end
end Jd
end

section
namespace Go.Proofs.YthmekkhpddehjaaGreat
open Go Go.Ab Go.Ab.W Go.Ab.B Jd
def fh (x:Int):Prop:=-9223372036854775808≤x∧x<9223372036854775808
def Fa (p:I2):Prop:=p.1 < -1000000∨1000000<p.1∨p.2 < -1000000∨1000000<p.2
instance (p:I2):Decidable (Fa p):=by unfold Fa; infer_instance
instance (a b p:I2):Decidable (dJ a b p):=by unfold dJ; infer_instance
theorem mP (a b:Int):ma a b=max a b:=by unfold ma; split<;>omega
theorem lZ (a b:Int):mi a b=min a b:=by unfold mi; split<;>omega
theorem ED {x:Int} (h:fh x):IntKind.wrap .i64 (0-x)=if x = -9223372036854775808 then x else -x:=by
 unfold fh at h
 split
 ·rename_i e; subst e; decide
 ·rw[ax (by omega) (by omega)]; omega
theorem oW (n:Nat) {x y:Int} (hx:fh x) (hy:fh y):BB n x y=some (decide (Fa (x,y))):=by
 unfold BB;rw[ED hx,ED hy,an,ez,←Bool.decide_or]
 congr 1
 rw[decide_eq_decide];unfold fh at hx hy;unfold Fa
 dsimp only
 rw[mP,mP,mP,lZ]
 split<;>split<;>omega
def sg (z:Int):Int:=if z<0 then -1 else if 0<z then 1 else 0
theorem vH (n:Nat) (x y:Int):Eh n x y=some (sg (x-y)):=by
 unfold Eh vK sg;simp only[decide_true,Bool.not_true,an,gB]
 by_cases h:x<y
 ·rw[aO h,if_pos (show x-y<0 by omega)]
 ·rw[aK h,if_neg (show ¬x-y<0 by omega)]
  by_cases g:y<x
  ·rw[aO g,if_pos (show 0<x-y by omega)]
  ·rw[aK g,if_neg (show ¬0<x-y by omega)]
def Nr (p:I2):Prop:=-1000000≤p.1∧p.1≤1000000∧-1000000≤p.2∧p.2≤1000000
theorem iL {p:I2}:¬Fa p↔Nr p:=by unfold Fa Nr; omega
theorem mK (n:Nat) {a b c:I2} (ha:Nr a) (hb:Nr b) (hc:Nr c):yS n a.1 a.2 b.1 b.2 c.1 c.2=some (sg (ti a b c)):=by
 unfold Nr at ha hb hc;have m1:=ef (B:=2000000) (C:=2000000) (u:=b.1-a.1) (v:=c.2-a.2) (by decide) (by omega) (by omega) (by omega) (by omega)
 have m2:=ef (B:=2000000) (C:=2000000) (u:=b.2-a.2) (v:=c.1-a.1) (by decide) (by omega) (by omega) (by omega) (by omega)
 unfold yS;rw[ax (x:=b.1-a.1) (by omega) (by omega),ax (x:=c.2-a.2) (by omega) (by omega),ax (x:=b.2-a.2) (by omega) (by omega),ax (x:=c.1-a.1) (by omega) (by omega),
  ax (by omega) (by omega),ax (by omega) (by omega),an,an,vH,an]
 rfl
theorem gr {z:Int}:sg z=0↔z=0:=by unfold sg; split<;>(try split)<;>omega
theorem rN {z:Int}:sg z<0↔z<0:=by unfold sg; split<;>(try split)<;>omega
theorem mR {z:Int}:0<sg z↔0<z:=by unfold sg; split<;>(try split)<;>omega
theorem gU (z:Int):sg z = -1∨sg z=0∨sg z=1:=by unfold sg; split<;>(try split)<;>simp
theorem GK (n:Nat) (r s:Int) (hn:2<n):FF n [r,s]=some (if r≠0 then r else s):=by
 obtain⟨n,rfl⟩:∃n',n=n'+3:=⟨n-3,by omega⟩
 have L0:lj (n+3) [r,s] 0=if r≠0 then some (.inr (.inl r)) else some (.inl 1):=by
  unfold lj;rw[aO (by simp),show bJ 0 [r,s].length=true from rfl,bl]
  show ob (some r) _=_
  rw[an]
  by_cases h:r=0
  ·rw[decide_eq_true h,Bool.not_true,gB,if_neg (by simpa using h)]; rfl
  ·rw[decide_eq_false h,Bool.not_false,jO,if_pos h]
 have L1:lj (n+3) [r,s] 1=if s≠0 then some (.inr (.inl s)) else some (.inl 2):=by
  unfold lj;rw[aO (by simp),show bJ 1 [r,s].length=true from rfl,bl]
  show ob (some s) _=_
  rw[an]
  by_cases h:s=0
  ·rw[decide_eq_true h,Bool.not_true,gB,if_neg (by simpa using h)]; rfl
  ·rw[decide_eq_false h,Bool.not_false,jO,if_pos h]
 have L2:lj (n+3) [r,s] 2=some (.inr (.inr ())):=by
  unfold lj;rw[aK (by simp)]
 unfold FF
 by_cases h:r=0
 ·rw[if_neg (by simpa using h)] at L0 ⊢
  rw[aV L0]
  by_cases g:s=0
  ·rw[if_neg (by simpa using g)] at L1
   rw[aV L1,bG L2,an,g]
  ·rw[if_pos g] at L1;rw[bG L1,an]
 ·rw[if_pos h] at L0 ⊢;rw[bG L0,an]
def wM (a b:I2):Int:=if sg (a.1-b.1)≠0 then sg (a.1-b.1) else sg (a.2-b.2)
theorem tj (n:Nat) (a b:I2) (hn:2<n):Ak n a.1 a.2 b.1 b.2=some (wM a b):=by
 unfold Ak;rw[vH,an,vH,an,GK n _ _ hn,an]; rfl
theorem ry {a b:I2}:wM a b≤0↔Lx a b:=by
 unfold wM Lx;have h1:=gr (z:=a.1-b.1);have h2:=mR (z:=a.1-b.1);have h3:=mR (z:=a.2-b.2)
 split<;>omega
theorem AV (n:Nat) (e:Int) {a b p:I2} (ha:Nr a) (hb:Nr b) (hp:Nr p) (hab:a≠b) (hn:2<n):yp n e a.1 a.2 b.1 b.2 p.1 p.2=some (decide (dJ a b p)):=by
 unfold yp;rw[mK n ha hb hp,an]
 by_cases h0:ti a b p=0
 ·rw[decide_eq_true (gr.2 h0),Bool.not_true,gB,tj n a b hn,an];have key:∀{u v:I2},u≠v→Lx u v→ti u v p=0→(ob (Ak n u.1 u.2 p.1 p.2) fun r28=>br (decide (r28≤0)) (ob (Ak n p.1 p.2 v.1 v.2) fun r31=>some (decide (r31≤0))) (some false))=some (decide (dJ u v p)):=fun {u v} huv hl ht=>by
   rw[tj n u p hn,an,tj n p v hn,an,eA,←Bool.decide_and]
   congr 1
   rw[decide_eq_decide,FP huv hl,ry,ry];exact⟨fun h=>⟨ht,h⟩,fun h=>h.2⟩
  by_cases hl:0<wM a b
  ·rw[aO hl,an];have hl':Lx b a:=by
    have:¬Lx a b:=fun h=>by have:=ry.2 h; omega
    unfold Lx at this ⊢; omega
   have:=key hab.symm hl' (by rw[gw,h0]; rfl)
   dsimp only
   rw[this]
   congr 1
   rw[decide_eq_decide]; exact po
  ·rw[aK hl,an];exact key hab (ry.1 (by omega)) h0
 ·rw[decide_eq_false (fun h=>h0 (gr.1 h)),Bool.not_false,jO,decide_eq_false fun h=>h0 h.1]
theorem pj {α β:Type} [DecidableEq α] (k:α):∀(xs:List (α × β)) (i:Nat),(j5 k xs i=none∧k ∉ xs.map Prod.fst)∨∃j v,j5 k xs i=some (i+j,v)∧(xs[j]?).map Prod.fst=some k
 | [],_=>.inl ⟨rfl,by simp⟩
 | e::es,i=>by
  unfold j5
  by_cases h:k=e.1
  ·rw[if_pos h]; exact .inr ⟨0,e.2,rfl,by rw[h]; rfl⟩
  ·rw[if_neg h];rcases pj k es (i+1) with⟨h1,h2⟩|⟨j,v,h1,h2⟩
   ·exact .inl ⟨h1,fun g=>by
     rw[List.map_cons,List.mem_cons] at g;exact g.elim h h2⟩
   ·exact .inr ⟨j+1,v,by rw[h1,show i+1+j=i+(j+1) by omega],h2⟩
theorem zZ {α β:Type} [DecidableEq α] (xs:List (α × β)) (k:α) (v:β):(wY xs k v).map Prod.fst=if k ∈ xs.map Prod.fst then xs.map Prod.fst else xs.map Prod.fst++[k]:=by
 unfold wY;rcases pj k xs 0 with⟨h1,h2⟩|⟨j,w,h1,h2⟩
 ·rw[h1,if_neg h2]; simp
 ·rw[h1,Nat.zero_add];have hj:j<xs.length:=by
   refine Decidable.byContradiction fun hc=>?_;rw[List.getElem?_eq_none (by omega)] at h2; cases h2
  have e:(xs.map Prod.fst)[j]? = some k:=by rw[List.getElem?_map]; exact h2
  rw[if_pos (List.mem_of_getElem? e),List.map_set];refine List.ext_getElem? fun t=>?_;rw[List.getElem?_set]
  by_cases ht:j=t
  ·subst ht;rw[if_pos rfl,if_pos (by rw[List.length_map]; exact hj),e]
  ·rw[if_neg ht]
def tv (a b c d:I2) (l:List (I2 × Bool)) (x:I2):List (I2 × Bool):=if dJ a b x∧dJ c d x then wY l x true else l
theorem tB {a b c d:I2}:∀(xs:List I2) (l:List (I2 × Bool)),(l.map Prod.fst).Nodup→((xs.foldl (tv a b c d) l).map Prod.fst).Nodup∧∀q,q ∈ (xs.foldl (tv a b c d) l).map Prod.fst↔q ∈ l.map Prod.fst∨(q ∈ xs∧dJ a b q∧dJ c d q)
 | [],l,hn=>⟨hn,fun q=>by simp⟩
 | x::xs,l,hn=>by
  rw[List.foldl_cons];have key:((tv a b c d l x).map Prod.fst).Nodup∧∀q,q ∈ (tv a b c d l x).map Prod.fst↔q ∈ l.map Prod.fst∨(q=x∧dJ a b q∧dJ c d q):=by
   unfold tv
   by_cases h:dJ a b x∧dJ c d x
   ·rw[if_pos h,zZ]
    by_cases g:x ∈ l.map Prod.fst
    ·rw[if_pos g];exact⟨hn,fun q=>⟨.inl,fun e=>e.elim id fun e=>e.1 ▸ g⟩⟩
    ·rw[if_neg g];refine⟨List.nodup_append.2 ⟨hn,by simp,fun u hu v hv=>?_⟩,fun q=>?_⟩
     ·rw[List.mem_singleton] at hv;intro e; rw[e,hv] at hu; exact g hu
     ·rw[List.mem_append,List.mem_singleton];exact⟨fun e=>e.elim .inl fun e=>.inr ⟨e,e ▸ h⟩,fun e=>e.elim .inl fun e=>.inr e.1⟩
   ·rw[if_neg h];exact⟨hn,fun q=>⟨.inl,fun e=>e.elim id fun⟨e,g⟩=>absurd (e ▸ g) h⟩⟩
  obtain⟨k1,k2⟩:=key;obtain⟨r1,r2⟩:=tB xs _ k1;refine⟨r1,fun q=>?_⟩;rw[r2,k2,List.mem_cons];constructor
  ·rintro((h|⟨rfl,h⟩) | ⟨h,g⟩)
   ·exact .inl h
   ·exact .inr ⟨.inl rfl,h⟩
   ·exact .inr ⟨.inr h,g⟩
  ·rintro(h|⟨rfl|h,g⟩)
   ·exact .inl (.inl h)
   ·exact .inl (.inr ⟨rfl,g⟩)
   ·exact .inr ⟨h,g⟩
theorem sb (n:Nat) (e f:Int) {a b c d x:I2} (ha:Nr a) (hb:Nr b) (hc:Nr c) (hd:Nr d) (hx:Nr x) (hab:a≠b) (hcd:c≠d) (hn:2<n) (l:List (I2 × Bool)) {i:Nat} (hi:i<4) (he:[a,b,c,d][i]? = some x) :
  nb n a.1 a.2 b.1 b.2 c.1 c.2 d.1 d.2 e f (l,(i:Int))=some (.inl (tv a b c d l x,((i+1:Nat):Int))):=by
 unfold nb
 dsimp only
 rw[aO (by omega),aJ hi,bl,Int.toNat_natCast]
 have:[(a.1,a.2),(b.1,b.2),(c.1,c.2),(d.1,d.2)][i]? = some (x.1,x.2):=he;rw[this,an]
 dsimp only
 rw[AV n e ha hb hx hab hn,an,AV n f hc hd hx hcd hn,an,eA,an,aR (by omega)]
 unfold tv
 by_cases h:dJ a b x∧dJ c d x
 ·rw[decide_eq_true h.1,decide_eq_true h.2,if_pos h]; rfl
 ·rw[if_neg h,←Bool.decide_and,decide_eq_false h]; rfl
theorem FN (n:Nat) (e f:Int) {a b c d:I2} (ha:Nr a) (hb:Nr b) (hc:Nr c) (hd:Nr d) (hab:a≠b) (hcd:c≠d) (hn:5<n):GS n e a.1 a.2 b.1 b.2 f c.1 c.2 d.1 d.2=some (sI a b c d):=by
 classical
 unfold GS;rw[mK n ha hb hc,an,mK n ha hb hd,an,mK n hc hd ha,an,mK n hc hd hb,an];have L:bT (nb n a.1 a.2 b.1 b.2 c.1 c.2 d.1 d.2 e f) n ([],0)=some ([a,b,c,d].foldl (tv a b c d) []):=by
  obtain⟨m,hm⟩:∃m,n=m+5:=⟨n-5,by omega⟩
  have L5:∀l,nb n a.1 a.2 b.1 b.2 c.1 c.2 d.1 d.2 e f (l,((4:Nat):Int))=some (.inr l):=fun l=>by
   unfold nb
   dsimp only
   rw[aK (by decide)]
  have h0:=sb n e f ha hb hc hd ha hab hcd (by omega) [] (i:=0) (by decide) rfl
  have h1:=sb n e f ha hb hc hd hb hab hcd (by omega) (tv a b c d [] a) (i:=1) (by decide) rfl
  have h2:=sb n e f ha hb hc hd hc hab hcd (by omega) (tv a b c d (tv a b c d [] a) b) (i:=2) (by decide) rfl
  have h3:=sb n e f ha hb hc hd hd hab hcd (by omega) (tv a b c d (tv a b c d (tv a b c d [] a) b) c) (i:=3) (by decide) rfl
  have:∀body:(List (I2 × Bool) × Int)→Option ((List (I2 × Bool) × Int) ⊕ List (I2 × Bool)),body=nb n a.1 a.2 b.1 b.2 c.1 c.2 d.1 d.2 e f→bT body n ([],0)=some ([a,b,c,d].foldl (tv a b c d) []):=fun body hbd=>by
   rw[←hbd] at h0 h1 h2 h3 L5;rw[hm,show(0:Int)=((0:Nat):Int) from rfl,aV h0,aV h1,aV h2,aV h3,bG (L5 _)]
   rfl
  exact this _ rfl
 obtain⟨k1,k2⟩:=tB (a:=a) (b:=b) (c:=c) (d:=d) [a,b,c,d] [] (by simp)
 have hlen:([a,b,c,d].foldl (tv a b c d) []).length=(([a,b,c,d].foldl (tv a b c d) []).map Prod.fst).length:=by rw[List.length_map]
 rw[L,an];generalize [a,b,c,d].foldl (tv a b c d) []=l at *;have kc:∀q,q ∈ l.map Prod.fst↔gK a b c d q:=fun q=>by
  rw[k2];unfold gK;constructor
  ·rintro(h|⟨h,g⟩)
   ·simp at h
   ·exact⟨by simpa only[List.mem_cons,List.not_mem_nil,or_false] using h,g⟩
  ·rintro⟨h,g⟩;exact .inr ⟨by simpa only[List.mem_cons,List.not_mem_nil,or_false] using h,g⟩
 rw[an,an,hlen];generalize l.map Prod.fst=ks at *;unfold sI
 by_cases h2:∃x y,gK a b c d x∧gK a b c d y∧x≠y
 ·obtain⟨x,y,hx,hy,hne⟩:=h2;have:=jJ (l:=[x,y]) (m:=ks) (by simp[hne]) fun q hq=>by
   simp only[List.mem_cons,List.not_mem_nil,or_false] at hq;rcases hq with rfl|rfl
   ·exact(kc _).2 hx
   ·exact(kc _).2 hy
  have hl:2≤ks.length:=this;rw[aO (by omega),if_pos ⟨x,y,hx,hy,hne⟩]
 ·have hl1:ks.length≤1:=by
   match ks,k1,kc with
   | [],_,_=>exact Nat.zero_le _
   | [_],_,_=>exact Nat.le_refl _
   | x::y::t,k1,kc =>
    refine absurd ⟨x,y,(kc x).1 (by simp),(kc y).1 (by simp),?_⟩ h2
    intro e; subst e; simp at k1
  rw[if_neg h2,aK (by omega)]
  by_cases h1:∃x,gK a b c d x
  ·obtain⟨x,hx⟩:=h1;have:0<ks.length:=List.length_pos_of_mem ((kc x).2 hx);rw[if_pos ⟨x,hx⟩,aO (by omega)]
  ·have:ks.length=0:=by
    match ks,kc with
    | [],_=>rfl
    | x::t,kc=>exact absurd ⟨x,(kc x).1 (by simp)⟩ h1
   rw[if_neg h1,aK (by omega)]
   have w:∀u v:Int,IntKind.wrap .i64 (sg u*sg v)=sg u*sg v:=fun u v=>by
    have h1:=gU u;have h2:=gU v;rcases h1 with h1|h1|h1<;>rcases h2 with h2|h2|h2<;>rw[h1,h2]<;>decide
   have s:∀u v:Int,sg u*sg v<0↔(0<u∧v<0)∨(u<0∧0<v):=fun u v=>by
    have a1:=rN (z:=u);have a2:=mR (z:=u);have b1:=rN (z:=v);have b2:=mR (z:=v);have h1:=gU u;have h2:=gU v;rcases h1 with h1|h1|h1<;>rcases h2 with h2|h2|h2<;>rw[h1] at a1 a2 ⊢<;>rw[h2] at b1 b2 ⊢<;>omega
   rw[w,w,eA,an,rU]
   by_cases hx:qX a b c d
   ·rw[if_pos hx,if_pos];unfold qX at hx;rw[Bool.and_eq_true,decide_eq_true_eq,decide_eq_true_eq,s,s];exact hx
   ·rw[if_neg hx,if_neg];rw[Bool.and_eq_true,decide_eq_true_eq,decide_eq_true_eq,s,s];exact hx
theorem GC (n:Nat) {a b c d:I2} (ha:fh a.1∧fh a.2) (hb:fh b.1∧fh b.2) (hc:fh c.1∧fh c.2) (hd:fh d.1∧fh d.2) (hn:5<n) :
  GZ n a.1 a.2 b.1 b.2 c.1 c.2 d.1 d.2=some (if Fa a∨Fa b∨Fa c∨Fa d∨a=b∨c=d then(0,2) else(sI a b c d,0)):=by
 classical
 unfold GZ;rw[oW n ha.1 ha.2,oW n hb.1 hb.2,oW n hc.1 hc.2,oW n hd.1 hd.2,an,an,an,an,ez,ez,ez,ez,ez,an];have e1:(decide (a.1=b.1) && decide (a.2=b.2))=decide (a=b):=by
  rw[←Bool.decide_and,decide_eq_decide]; exact⟨fun h=>Prod.ext h.1 h.2,fun h=>by subst h; exact⟨rfl,rfl⟩⟩
 have e2:(decide (c.1=d.1) && decide (c.2=d.2))=decide (c=d):=by
  rw[←Bool.decide_and,decide_eq_decide]; exact⟨fun h=>Prod.ext h.1 h.2,fun h=>by subst h; exact⟨rfl,rfl⟩⟩
 rw[e1,e2,rU];have hd:(decide (Fa (a.1,a.2)) || (decide (Fa (b.1,b.2)) || (decide (Fa (c.1,c.2)) || (decide (Fa (d.1,d.2)) || (decide (a=b) || decide (c=d))))))=decide (Fa a∨Fa b∨Fa c∨Fa d∨a=b∨c=d):=by
  simp only[Bool.decide_or]
 rw[hd]
 by_cases h:Fa a∨Fa b∨Fa c∨Fa d∨a=b∨c=d
 ·rw[if_pos (decide_eq_true h),if_pos h]
 ·rw[if_neg (by simpa using h),if_neg h]
  simp only[not_or] at h;obtain⟨h1,h2,h3,h4,h5,h6⟩:=h;rw[FN n 0 0 (iL.1 h1) (iL.1 h2) (iL.1 h3) (iL.1 h4) h5 h6 hn,an]
end Go.Proofs.YthmekkhpddehjaaGreat
end

section
namespace Go.Ab
open Go
theorem CJ {j:aD} {l:List Value} (h:∀x ∈ l,bf x=true):LR j l l :=
 ⟨rfl,fun _ v hi=>⟨v,hi,VR.bf (h v (List.mem_of_getElem? hi))⟩⟩
theorem vz {W W':World} (hc:Calm W W') (hs:W.heap.size≤W'.heap.size) (hold:∀c,c<W.heap.size→W'.heap[c]? = W.heap[c]?):∃q os,W'=Sort.grow (W.drewN q) os:=by
 refine⟨W'.drawn-W.drawn,W'.heap.extract W.heap.size W'.heap.size,?_⟩;have hh:W'.heap=W.heap++W'.heap.extract W.heap.size W'.heap.size:=by
  apply Array.ext_getElem?;intro i;rw[Array.getElem?_append]
  split
  ·exact hold i ‹_›
  ·rw[Array.getElem?_extract]
   split
   ·congr 1; omega
   ·exact Array.getElem?_eq_none (by omega)
 obtain⟨h1,h2,h3,h4⟩:=hc;cases W; cases W';simp only[Sort.grow,World.drewN] at *;subst h1; subst h2; subst h3
 congr 1
 omega
theorem wH {E:Env} (hE:EnvOk E) (hmono:E.mono:=by trivial) {f:FuncId} {args:List Value} (hp:E.cy f=none) {v:Value} (hpl:∀x ∈ args,bf x=true) (hv:bf v=true)
  (h:aL E f args (nV E.glob fun _=>none) fun v' _=>v'=v) {W:World} (hW:E.glob≤W.heap.size) :
  Calls E.P f args.toArray W fun e W'=>e = .returned v∧∃q os,W'=Sort.grow (W.drewN q) os:=by
 obtain⟨v',m',⟨k,hr⟩,rfl⟩:=h;have hm:MR E (zO E.glob) (nV E.glob fun _=>none) W:=DH (Nat.le_refl _) hW fun b cs hb=>by cases hb
 refine callsIn_wide.1 ((lM hE hr hp hm (CJ hpl)).mono ?_);rintro e W' ⟨v1,rfl,j',s,hv1⟩;rw[eL hv hv1];refine⟨rfl,vz ⟨s.calm.1,s.calm.2.1,s.calm.2.2.1,s.calm.2.2.2 hmono⟩ s.size fun c hc=>s.frame c hc fun b k hb hl _=>?_⟩;have:(nV E.glob fun _=>none).get b=none:=by simp[AMem.get,nV,Heap.get_nil]
 rw[this] at hl; cases hl
theorem nT {w:World} {B:Nat} {c:Array Value} {e:TypeId} {fz:Nat × Nat} (h:w.heap[B]? = some (.cells c e fz)) (f:Array Value→Array Value):Sort.mapBlock w B f=w.putObj B (.cells (f c) e fz):=by
 unfold Sort.mapBlock World.putObj
 congr 1
 apply Array.ext_getElem?;intro i;rw[Array.getElem?_modify,Array.getElem?_setIfInBounds]
 by_cases hi:B=i
 ·subst hi;obtain⟨hlt,hv⟩:=Array.getElem?_eq_some_iff.1 h;simp[hlt,hv,Sort.onCells]
 ·simp[hi]
theorem Dw {E:Env} {j:aD} {m:AMem} {w:World} (h:MR E j m w) {b:Nat} {k:Blk} (hk:j b=some k) {cs cs':List Value} {tag:Tag} (hg:m.get b=some (.cells cs tag)) (hl:cs'.length=cs.length) (hp:cs'.all aA=true) (n:Nat) (os:Array Obj) :
  Sim E j m w j (m.set b (.cells cs' tag)) (Sort.grow (Sort.putRow id (Sort.ahead w n) k.c 0 cs'.toArray) os):=by
 obtain⟨c,e,fz,h1,h2,h3⟩:=h.jD hk hg;have s1:Sim E j m w j m (Sort.ahead w n):=Sim.of_heap h rfl ⟨rfl,rfl,rfl,Nat.le_add_right _ _⟩;have hle:cs.length≤c.size:=by
  cases tag with
  | ro=>exact Nat.le_of_eq h2.2.symm
  | own=>exact Nat.le_of_eq h2.2.1.symm
  | more sz=>exact h2.2.1
 have hor:OR j k (.cells cs' tag) (.cells (Sort.putCells id 0 cs'.toArray c) e fz):=by
  have hget:∀i,(Sort.putCells id 0 cs'.toArray c)[i]? = if i<cs'.length then(if i<c.size then some cs'[i]! else none) else c[i]?:=by
   intro i;simp only[Sort.putCells,Array.getElem?_mapIdx,Nat.zero_le,true_and,Nat.zero_add,List.size_toArray,Nat.sub_zero,id]
   by_cases hi:i<c.size
   ·rw[Array.getElem?_eq_getElem hi];simp only[Option.map_some]
    by_cases hj:i<cs'.length
    ·simp[hj,hi]
    ·simp[hj]
   ·rw[Array.getElem?_eq_none (by omega)]
    simp[hi]
  refine⟨?_,fun i v hi=>?_⟩
  ·rw[show cs'.length=cs.length from hl]
   refine q7.put h2 (by simp[Sort.putCells]) fun i hi=>?_
   rw[hget,if_neg (by omega)]
  ·have hlt:i<cs'.length:=(List.getElem?_eq_some_iff.1 hi).1;refine⟨v,?_,.aA (List.all_eq_true.1 hp v (List.mem_of_getElem? hi))⟩;rw[hget,if_pos hlt,if_pos (by omega),List.getElem!_eq_getElem?_getD,hi]; rfl
 have s2:=fW s1.mr hk (by rw[hg]; rfl) hor
 have e2:Sort.putRow id (Sort.ahead w n) k.c 0 cs'.toArray=(Sort.ahead w n).putObj k.c (.cells (Sort.putCells id 0 cs'.toArray c) e fz):=nT (w:=Sort.ahead w n) h1 _;rw[e2];refine(s1.trans h s2).trans h (Sim.same s2.mr (fun x hx=>?_) (by simp) ⟨rfl,rfl,rfl,fun _=>Nat.le_refl _⟩)
 show(_++_:Array Obj)[x]? = _
 rw[Array.getElem?_append,if_pos hx]
theorem tW {α:Type} [Inhabited α] {enc:α→List Value} {k:Nat} (hk:∀x,(enc x).length=k) (h0:0<k):∀(l:List α) (t:Nat),t<l.length*k→(l.map enc).flatten[t]! = (enc l[t/k]!)[t%k]!
 | [],t,h=>by simp at h
 | x::l,t,h=>by
  simp only[List.map_cons,List.flatten_cons];rw[List.getElem!_eq_getElem?_getD,List.getElem?_append]
  by_cases ht:t<k
  ·rw[if_pos (by rw[hk]; exact ht),Nat.div_eq_of_lt ht,Nat.mod_eq_of_lt ht,←List.getElem!_eq_getElem?_getD]; rfl
  ·rw[if_neg (by rw[hk]; exact ht),hk,←List.getElem!_eq_getElem?_getD,tW hk h0 l (t-k) (by simp only[List.length_cons,Nat.add_mul,Nat.one_mul] at h; omega)]
   have e1:t/k=(t-k)/k+1:=by rw[Nat.div_eq_sub_div h0 (by omega)]
   have e2:t%k=(t-k)%k:=Nat.mod_eq_sub_mod (by omega)
   rw[e1,e2]; rfl
theorem bE {α:Type} {enc:α→List Value} {k:Nat} (hk:∀x,(enc x).length=k):∀l:List α,(l.map enc).flatten.length=l.length*k
 | []=>by simp
 | x::l=>by simp only[List.map_cons,List.flatten_cons,List.length_append,List.length_cons,hk,bE hk l,Nat.add_mul,Nat.one_mul]; omega
theorem kj {α:Type} [Inhabited α] {enc:α→List Value} {k:Nat} (hk:∀x,(enc x).length=k) (h0:0<k) (l:List α):Sort.flatK enc k l.toArray=(l.map enc).flatten.toArray:=by
 refine Sort.ext_get! (by simp[bE hk]) fun t ht=>?_
 have ht':t<l.length*k:=by simpa using ht
 rw[Sort.get_flatK _ _ _ _ (by simpa using ht')]
 have:=tW hk h0 l t ht';simp at this ⊢;rw[this]
theorem yY {E:Env} {j:aD} {m:AMem} {w:World} (h:MR E j m w) {b:Nat} {k:Blk} (hk:j b=some k) {cs:List Value} {tag:Tag} (hg:m.get b=some (.cells cs tag)) (ht:tag≠.ro) (hp:cs.all aA=true) :
  Sort.Holds id w k.c 0 cs.toArray:=by
 obtain⟨c,e,fz,h1,h2,h3⟩:=h.jD hk hg;have hfz:fz=(0,0):=by
  cases tag with
  | ro=>exact absurd rfl ht
  | own=>exact h2.2.2
  | more sz=>exact h2.2.2.1
 subst hfz;intro i hi;have hi':i<cs.length:=by simpa using hi
 obtain⟨v',g1,g2⟩:=h3 i cs[i] (List.getElem?_eq_getElem hi');have:=cV (List.all_eq_true.1 hp _ (List.getElem_mem hi')) g2;subst this;refine⟨?_,?_⟩
 ·simp only[World.cell?,h1,Nat.zero_add];simp[g1,hi']
 ·simp only[World.frozen?,h1]; simp
end Go.Ab
end

section
namespace Go.Proofs
open Go.Shelf
def Tryz.uh:Go.Shelf.Ren:=⟨fun|6=>50|15=>81|14=>80|28=>101|29=>102|20=>93|21=>94|22=>95|23=>96|24=>97|25=>98|26=>99|27=>100|46=>121|47=>122|48=>123|49=>124|50=>125|57=>143|n=>n,fun|22=>22|24=>33|25=>91|3=>3|39=>117|0=>0|53=>134|55=>136|4=>4|46=>127|45=>126|50=>131|5=>5|9=>9|66=>164|70=>168|76=>187|77=>81|n=>n,fun|n=>n⟩
theorem Tryz.yh:Go.Proofs.SlLaysF0.n6 Tryz.prog Tryz.uh:={
 mixed:=by kernel_rfl
 f6:=⟨Tryz.f50.name,by decide,Tryz.func50.trans (congrArg some (by kernel_rfl))⟩
 f14:=⟨Tryz.f80.name,by decide,Tryz.func80.trans (congrArg some (by kernel_rfl))⟩
 f15:=Tryz.func81.trans (congrArg some (by kernel_rfl))
 f20:=⟨Tryz.f93.name,by decide,Tryz.func93.trans (congrArg some (by kernel_rfl))⟩
 f21:=⟨Tryz.f94.name,by decide,Tryz.func94.trans (congrArg some (by kernel_rfl))⟩
 f22:=⟨Tryz.f95.name,by decide,Tryz.func95.trans (congrArg some (by kernel_rfl))⟩
 f23:=⟨Tryz.f96.name,by decide,Tryz.func96.trans (congrArg some (by kernel_rfl))⟩
 f24:=⟨Tryz.f97.name,by decide,Tryz.func97.trans (congrArg some (by kernel_rfl))⟩
 f25:=⟨Tryz.f98.name,by decide,Tryz.func98.trans (congrArg some (by kernel_rfl))⟩
 f26:=⟨Tryz.f99.name,by decide,Tryz.func99.trans (congrArg some (by kernel_rfl))⟩
 f27:=⟨Tryz.f100.name,by decide,Tryz.func100.trans (congrArg some (by kernel_rfl))⟩
 f28:=Tryz.func101.trans (congrArg some (by kernel_rfl))
 f29:=Tryz.func102.trans (congrArg some (by kernel_rfl))
 f46:=⟨Tryz.f121.name,by decide,Tryz.func121.trans (congrArg some (by kernel_rfl))⟩
 f47:=Tryz.func122.trans (congrArg some (by kernel_rfl))
 f48:=Tryz.func123.trans (congrArg some (by kernel_rfl))
 f49:=⟨Tryz.f124.name,by decide,Tryz.func124.trans (congrArg some (by kernel_rfl))⟩
 f50:=⟨Tryz.f125.name,by decide,Tryz.func125.trans (congrArg some (by kernel_rfl))⟩
 f57:=⟨Tryz.f143.name,by decide,Tryz.func143.trans (congrArg some (by kernel_rfl))⟩
 t0:=Tryz.underlying0
 a0:=Tryz.isAgg0
 z0:=Tryz.sizeOf0
 v0:=Tryz.zeroValue0
 t3:=Tryz.underlying3
 a3:=Tryz.isAgg3
 z3:=Tryz.sizeOf3
 v3:=Tryz.zeroValue3
 t4:=Tryz.underlying4
 a4:=Tryz.isAgg4
 z4:=Tryz.sizeOf4
 v4:=Tryz.zeroValue4
 t5:=Tryz.underlying5
 a5:=Tryz.isAgg5
 z5:=Tryz.sizeOf5
 v5:=Tryz.zeroValue5
 t9:=Tryz.underlying9
 a9:=Tryz.isAgg9
 z9:=Tryz.sizeOf9
 v9:=Tryz.zeroValue9
 t22:=Tryz.underlying22
 a22:=Tryz.isAgg22
 z22:=Tryz.sizeOf22
 v22:=Tryz.zeroValue22
 t25:=Tryz.underlying91
 a25:=Tryz.isAgg91
 z25:=Tryz.sizeOf91
 v25:=Tryz.zeroValue91
 t39:=Tryz.underlying117
 a39:=Tryz.isAgg117
 z39:=Tryz.sizeOf117
 v39:=Tryz.zeroValue117
 t45:=Tryz.underlying126
 a45:=Tryz.isAgg126
 z45:=Tryz.sizeOf126
 v45:=Tryz.zeroValue126
 t46:=Tryz.underlying127
 a46:=Tryz.isAgg127
 z46:=Tryz.sizeOf127
 v46:=Tryz.zeroValue127
 t50:=Tryz.underlying131
 a50:=Tryz.isAgg131
 z50:=Tryz.sizeOf131
 v50:=Tryz.zeroValue131
 t53:=Tryz.underlying134
 a53:=Tryz.isAgg134
 z53:=Tryz.sizeOf134
 v53:=Tryz.zeroValue134
 t55:=Tryz.underlying136
 a55:=Tryz.isAgg136
 z55:=Tryz.sizeOf136
 v55:=Tryz.zeroValue136
 t66:=Tryz.underlying164
 a66:=Tryz.isAgg164
 z66:=Tryz.sizeOf164
 v66:=Tryz.zeroValue164
 t70:=Tryz.underlying168
 a70:=Tryz.isAgg168
 z70:=Tryz.sizeOf168
 v70:=Tryz.zeroValue168
 t76:=Tryz.underlying187
 a76:=Tryz.isAgg187
 z76:=Tryz.sizeOf187
 v76:=Tryz.zeroValue187
 t77:=Tryz.underlying81
 a77:=Tryz.isAgg81
 z77:=Tryz.sizeOf81
 v77:=Tryz.zeroValue81}
end Go.Proofs
end

section
namespace Go.Proofs.YthmekkhpddehjaaGreat
open Go Go.Ab Go.Ab.W Go.Ab.B Jd
set_option maxRecDepth 10000
theorem C9 (x y:Int × Int):IE 5 x.1 x.2 y.1 y.2=some (wM x y):=by
 unfold IE;rw[tj 5 x y (by decide),an]
theorem zR (x y:Int × Int) {W:World} :
  Calls Tryz.prog 51 #[.agg (kB x).toArray,.agg (kB y).toArray] W fun e W'=>e = .returned (.int .i64 (wM x y))∧∃q os,W'=Sort.grow (W.drewN q) os :=
 wH (E:=kY) sR (hmono:=trivial) (f:=51) (args:=[.agg #[.int .i64 x.1,.int .i64 x.2],.agg #[.int .i64 y.1,.int .i64 y.2]]) rfl (by intro v hv; simp at hv; rcases hv with rfl|rfl<;>rfl) rfl
  ((W51.Gf 5 x.1 x.2 y.1 y.2 _ (C9 x y) _).mono fun v m' ⟨_,h,_⟩=>h) (Nat.zero_le _)
theorem Hf (x y:Int × Int):Go.Proofs.ltOf wM x y=decide (x.1<y.1∨x.1=y.1∧x.2<y.2):=by
 unfold Go.Proofs.ltOf wM;have h1:=rN (z:=x.1-y.1);have h2:=rN (z:=x.2-y.2);have h3:=gr (z:=x.1-y.1)
 congr 1
 apply propext
 split<;>omega
theorem IW:Go.Sort.SWO (Go.Proofs.ltOf wM) where
 irrefl x:=by rw[Hf]; simp
 trans x y z h1 h2:=by rw[Hf] at *; simp only[decide_eq_true_eq] at *; omega
 ntrans x y z h1 h2:=by rw[Hf] at *; simp only[decide_eq_false_iff_not] at *; omega
theorem Jl (x y:Int × Int) (h1:Go.Proofs.ltOf wM x y=false) (h2:Go.Proofs.ltOf wM y x=false):x=y:=by
 rw[Hf] at h1 h2;simp only[decide_eq_false_iff_not] at h1 h2;exact Prod.ext (by omega) (by omega)
theorem zl (kS off size:Nat) (w:World):Go.Proofs.CmpLays Tryz.prog 51 #[] kB 2 wM kS off size w :=
 fun _ _ _ _ x y=>zR x y
end Go.Proofs.YthmekkhpddehjaaGreat
end

section
namespace Go.Ab
open Go
section
variable {E : Env} {j : aD} {m : AMem} {w : World}
theorem VR.at {b o l c:Nat} {v':Value} (h:VR j (.slice (some ⟨b,o,none⟩) l c) v'):∃k c',j b=some k∧v' = .slice (some ⟨k.c,o,none⟩) l c':=by
 cases h with
 | slice hj hm=>exact⟨_,_,hj,rfl⟩
 | sliceM hj hm _ _ _ _=>exact⟨_,_,hj,rfl⟩
end
end Go.Ab
end

section
namespace Go.Proofs.YthmekkhpddehjaaGreat
open Go Go.Ab Go.Ab.W
set_option maxRecDepth 10000
theorem B2:(fun x y=>!(Go.Proofs.ltOf wM) y x)=cF:=by
 funext x y
 show(!(Go.Proofs.ltOf wM) y x)=cF x y
 rw[Hf]; unfold cF;rw[←decide_not]
 congr 1
 apply propext; omega
theorem nz:∀l:List (Int × Int),cd (l.map kB).flatten=some l
 | []=>rfl
 | (a,b)::l=>by
  show(cd (l.map kB).flatten).map _=_
  rw[nz l]; rfl
theorem iB:∀{cs:List Value} {l:List (Int × Int)},cd cs=some l→cs=(l.map kB).flatten
 | [],l,h=>by cases h; rfl
 | .int .i64 a::.int .i64 b::r,l,h=>by
  have h':(cd r).map ((a,b)::·)=some l:=h;cases hr:cd r with
  | none=>rw[hr] at h'; cases h'
  | some l' =>
   rw[hr] at h'; cases h';rw[iB hr]; rfl
 | [_],_,h=>by unfold cd at h; split at h<;>simp_all
 | _::_::_,l,h=>by
  unfold cd at h
  split at h
  ·rename_i e; cases e
  ·rename_i a b r e;rw[e];cases hr:cd r with
   | none=>rw[hr] at h; cases h
   | some l' =>
    rw[hr] at h; cases h;rw[iB hr]; rfl
  ·cases h
theorem uz {m:AMem} {b n n':Nat} {cs:List Value} {tg:Tag} (h:pf m b n n'=some (cs,tg)):m.get b=some (.cells cs tg)∧tg≠.ro∧n=n'∧cs.length=n*2∧cs.all aA=true:=by
 unfold pf at h
 split at h
 ·rename_i cs' hg
  split at h
  ·rename_i hc; cases h; exact⟨hg,(by intro e; cases e),hc⟩
  ·cases h
 ·rename_i cs' hg
  split at h
  ·rename_i hc; cases h; exact⟨hg,(by intro e; cases e),hc⟩
  ·cases h
 ·cases h
theorem tI {j:aD} {f:FuncId} {xs ys:Array Value} {v:Value} (h:VR j (.func (.func f) xs ys) v) (h1:xs.size=0) (h2:ys.size=0):v = .func (.func f) #[] #[]:=by
 cases h with
 | @func _ _ ys' _ ds a _ c _ =>
  have e1:ys'=#[]:=Array.eq_empty_of_size_eq_zero (a.symm.trans h1);have e2:ds=#[]:=Array.eq_empty_of_size_eq_zero (c.symm.trans h2);rw[e1,e2]
theorem DK (w:World):(isAgg 33).run Tryz.prog w = .ok true w:=by rw[jI (by kernel_rfl) w,show dc Tryz.prog 33=true by kernel_rfl]
theorem Ct (w:World):(Go.sizeOf 33).run Tryz.prog w = .ok 2 w:=by rw[bO (by kernel_rfl) w,show ar Tryz.prog 33=2 by kernel_rfl]
theorem Fg {n:Nat} (h:lim n=true):n≤1073741824:=Nat.le_of_ble_eq_true h
theorem pI (l:List (Int × Int)):((l.map kB).flatten).all aA=true:=by
 induction l with
 | nil=>rfl
 | cons x l ih=>rw[List.map_cons,List.flatten_cons,List.all_append,ih]; rfl
theorem Et:∀args w,(callFunc 51 args).run Tryz.prog w = .ok (.enter 51 args) w:=fun args w=>sR.call 51 _ _ Tryz.func51 rfl args w
theorem ua {pr:Bool} {args:List Value} {m m':AMem} {v:Value} (h:hZ args m=some (v,m')) {j:aD} {w:World} {args':List Value} (hm:MR qp j m w) (hl:LR j args args') :
  fO qp.P pr 50 args'.toArray w (iO qp j m w v m'):=by
 have hcall:∀args w,(callFunc 50 args).run Tryz.prog w = .ok (.enter 50 args) w:=fun args w=>sR.call 50 _ _ Tryz.func50 rfl args w;unfold hZ at h
 split at h
 ·rename_i c xs ys
  split at h
  ·rename_i hc; cases h;obtain⟨v0,vs,rfl,h1,hvs⟩:=hl.cons_inv;obtain⟨v1,v2,rfl,h2,h3⟩:=hvs.cons_inv;obtain rfl:=h3.cc;have e0:=tI h2 hc.1 hc.2;subst e0;cases h1;have hcon:=Go.Proofs.AnyF.slices_SortFunc_none Tryz.yh none c (.func (.func 51) #[] #[]) w
   change Calls Tryz.prog 50 _ _ _ at hcon
   refine .inl ⟨hcall _ _,callsIn_wide.2 ?_⟩;refine Calls.mono hcon ?_;rintro e w' ⟨rfl,rfl⟩;exact⟨_,rfl,j,.refl hm,VR.undef j⟩
  ·cases h
 ·rename_i b n n' xs ys
  split at h
  ·rename_i cs tg hcs;obtain⟨hg,htg,rfl,hcl,hp⟩:=uz hcs
   split at h
   ·rename_i l h4
    split at h
    ·rename_i hc; cases h;obtain⟨⟨h5,h6⟩,hlim⟩:=hc;obtain⟨v0,vs,rfl,h1,hvs⟩:=hl.cons_inv;obtain⟨v1,v2,rfl,h2,h3⟩:=hvs.cons_inv;obtain rfl:=h3.cc;have e0:=tI h2 h5 h6;subst e0;obtain⟨k,c',hk,rfl⟩:=h1.at
     have h0:∀x,(kB x).length=2:=fun _=>rfl;have ecs:=iB h4;have hlen:l.length=n:=by
      have:=bE h0 l;rw[←ecs,hcl] at this; omega
     have hH:Go.Sort.HoldsK kB 2 w k.c 0 l.toArray:=by
      unfold Go.Sort.HoldsK;rw[kj h0 (by decide),←ecs]
      exact yY hm hk hg htg hp
     have hcon:=Go.Proofs.AnyQ.slices_SortFunc_total Tryz.yh 2 (fun w=>DK w) (fun w=>Ct w) kB h0 (fun x v hv=>by simp[kB,eP,eI] at hv; rcases hv with rfl|rfl<;>rfl) wM IW 51 #[] k.c 0 c' l.toArray w Et
      (zl _ _ _ _) hH (hm.lt b k hk).2 (by have:=Fg hlim; simp; omega) Jl
     change Calls Tryz.prog 50 _ _ _ at hcon
     rw[B2] at hcon;simp only[List.size_toArray,hlen] at hcon;refine .inl ⟨hcall _ _,callsIn_wide.2 ?_⟩;refine Calls.mono hcon ?_;rintro e w' ⟨rfl,q,os,rfl⟩;refine⟨_,rfl,j,?_,VR.undef j⟩;unfold Go.Proofs.sortWorldK Go.Sort.putRowK;rw[kj h0 (by decide)]
     exact Dw hm hk hg (by rw[bE h0,hcl,List.length_mergeSort,hlen]) (pI _) q os
    ·cases h
   ·cases h
  ·cases h
 ·cases h
end Go.Proofs.YthmekkhpddehjaaGreat
end

section
namespace Go.Proofs.YthmekkhpddehjaaGreat
open Go Go.Ab
theorem ET:EnvOk qp:=tO uv fun f p hp args m v m' hrun j w args' hm hl=>by
 have hp':DD f=some p:=hp;unfold DD at hp'
 split at hp'
 ·rename_i hf;subst hf;cases hp';exact qn hrun hm hl
 ·split at hp'
  ·rename_i hf;subst hf;cases hp';exact lI (E:=qp) wI (fun x y c w hc=>DO Tryz.func144 (by kernel_rfl) (by kernel_rfl) (by kernel_rfl) (by kernel_rfl) x y c w hc) rfl hrun hm hl
  ·split at hp'
   ·rename_i hf;subst hf;cases hp';exact lI (E:=qp) xd (fun x y c w hc=>Ee Tryz.func145 (by kernel_rfl) (by kernel_rfl) (by kernel_rfl) (by kernel_rfl) x y c w hc) rfl hrun hm hl
   ·cases hp'
theorem zf:∃fuel m',run qp fuel (.call 18 [] m14)=some (.val (.bool true) m')∧0≤m'.wl:=ud (E:=qp) (F:=tu) (n:=1000) (g:=0) zb vY
theorem s9 {args:List Value} {m m':AMem} {v:Value} (h:lr args m=some (v,m')) {j:aD} {w:World} {args':List Value} (hm:MR qp j m w) (hl:LR j args args') :
  fO qp.P (qp.cy 18).isSome 18 args'.toArray w (iO qp j m w v m'):=by
 unfold lr at h
 split at h
 ·cases h;obtain⟨fuel,m0,h1,h2⟩:=zf;exact sU (E:=qp) (gs:=fun _=>none) ET (fun x c h=>by cases h) h1 h2 rfl hm (fun x c hx hg=>by cases hg) hl
 ·cases h
theorem D2:EnvOk aT:=xi (E:=qp) ET (pr:=CH) fun f p hp=>by
 unfold CH at hp
 split at hp
 ·rename_i e;cases hp;subst e;exact .inr fun args m v m' h j w args' hm hl=>s9 h hm hl
 ·split at hp
  ·rename_i e;cases hp;subst e;exact .inr fun args m v m' h j w args' hm hl=>ua h hm hl
  ·exact .inl hp
end Go.Proofs.YthmekkhpddehjaaGreat
end

section
namespace Go.Proofs.YthmekkhpddehjaaGreat
set_option maxRecDepth 100000
open Go Go.ChangeShapes Go.WideShapes Go.ChangeAt Go.WideMaps Go.WideElems Go.RowKit Go.Ab Go.Ab.W
theorem IV:yU Tryz.prog 5 31=some [.int .i8,.int .i8,.int .i8,.int .i8,.int .i8,.int .i8,.int .i8,.int .i8]:=by kernel_rfl
theorem IU:Tryz.prog.underlying 31=some (.array 4 30):=by kernel_rfl
theorem bounds_i8 {n:Int} (h:(Lit.int .i8 n).wf=true) : -128≤n∧n≤127:=by
 have h':(decide ((-128:Int)≤n) && decide (n≤127))=true:=h
 simpa using h'
section
variable {H : Type} {enc : TypeId × Value → H} {W : World} {sp : Nat → Bool} {held : Bool} {v : Value} {d : DataW H} {p : List MemPlace} {base : Nat}
theorem gH {P:Program} {base:Nat} {v:Value} (h:kV enc P W base sp held (.int .i8) v):∃n:Int,v = .int .i8 n∧-128≤n∧n≤127:=by
 obtain⟨n,rfl,hw⟩:=h;exact⟨n,rfl,bounds_i8 hw⟩
theorem Hb (hok:Value.okWide Tryz.prog W .any base 31 v) (h:DataW.Trod enc Tryz.prog W 0 sp held 31 v d p):∃x1 x2 x3 x4 x5 x6 x7 x8:Int,
  VR (dP W) (.agg #[.int .i8 x1,.int .i8 x2,.int .i8 x3,.int .i8 x4,.int .i8 x5,.int .i8 x6,.int .i8 x7,.int .i8 x8]) v∧∀q ∈ [x1,x2,x3,x4,x5,x6,x7,x8],-128≤q∧q≤127:=by
 obtain⟨cs,rfl,_⟩:=rr IU hok;obtain⟨n,h⟩:=h;obtain⟨v1,r,hr,h1,h⟩:=bu (oQ IV h);obtain⟨v2,r,rfl,h2,h⟩:=bu h;obtain⟨v3,r,rfl,h3,h⟩:=bu h;obtain⟨v4,r,rfl,h4,h⟩:=bu h;obtain⟨v5,r,rfl,h5,h⟩:=bu h;obtain⟨v6,r,rfl,h6,h⟩:=bu h;obtain⟨v7,r,rfl,h7,h⟩:=bu h;obtain⟨v8,r,rfl,h8,h⟩:=bu h;obtain rfl:=iQ h;obtain⟨x1,rfl,g1⟩:=gH h1;obtain⟨x2,rfl,g2⟩:=gH h2;obtain⟨x3,rfl,g3⟩:=gH h3;obtain⟨x4,rfl,g4⟩:=gH h4;obtain⟨x5,rfl,g5⟩:=gH h5;obtain⟨x6,rfl,g6⟩:=gH h6;obtain⟨x7,rfl,g7⟩:=gH h7;obtain⟨x8,rfl,g8⟩:=gH h8;refine⟨x1,x2,x3,x4,x5,x6,x7,x8,?_,fun q hq=>?_⟩
 ·refine AY (l:=[.int .i8 x1,.int .i8 x2,.int .i8 x3,.int .i8 x4,.int .i8 x5,.int .i8 x6,.int .i8 x7,.int .i8 x8]) ?_;rw[hr];exact LR.plain rfl
 ·simp only[List.mem_cons,List.not_mem_nil,or_false] at hq;rcases hq with rfl|rfl|rfl|rfl|rfl|rfl|rfl|rfl<;>assumption
end
theorem Is:laidOutB Tryz.prog=true:=by kernel_rfl
theorem C8:mapsRowed Tryz.prog=true:=by kernel_rfl
theorem DP:sizedB Tryz.prog=true:=by kernel_rfl
theorem zv {H:Type} {enc:TypeId × Value→H} {f:FuncId} {fn:Func} {s:ChangeSpec} {W:World} {args:Array Value} {ds:List (DataW H)} {before:List MemPlace} {tb:TypeId} {fresh handsOn:Bool} {absArgs:List Value} (hpr:aT.cy f=none)
  (hvars:s.vars = []) (hres:fn.resultTypes.toList = [tb]) (hrs:fn.resultTypes.size=1) (htb:Tryz.prog.underlying tb=some .bool) (hpt:∀t ∈ fn.params.toList,t<Tryz.prog.types.size) (hfn:s.fn H ds = { results:=[.lit (.bool true)],args:=ds,vars:=[]})
  (hW:DataW.Whole enc Tryz.prog fn.params.toList s.vars false W args.toList ds [] before)
  (hl:LR (dP W) absArgs args.toList) (hc:aL aT f absArgs (dD W) (fun v m'=>∃_:Unit,v = .bool true∧Hp (dD W) m' [])) :
  Calls Tryz.prog f args W fun e W'=>∃v,e = .returned v∧s.post enc Tryz.prog fn false fresh handsOn false W args v W':=by
 obtain⟨v,m',⟨fuel,hrun⟩,_,rfl,hm'⟩:=hc;have hm:MR aT (dP W) (dD W) W:=Gi (Nat.zero_le _);have hcall:=callsIn_wide.1 (lM D2 hrun hpr hm hl);refine hcall.mono fun e W' ⟨v',he,j',sm,hv⟩=>?_;have hv':v' = .bool true:=cV rfl hv;subst hv';have hwl:(dD W).next≤m'.wl:=by
  have h1:=hm'.ext.wl;have h2:min (dD W).wl (dD W).next=(dD W).next:=Nat.min_self _
  omega
 exact⟨_,he,Be Is C8 DP hvars hres hrs htb hpt hfn hW sm.calm (sm.grown hm hwl)⟩
theorem AF {W:World} (h:W.ShapedOpen Tryz.prog):0<W.heap.size:=by
 unfold World.ShapedOpen at h;obtain⟨_,h2⟩:=h;have e:((begin Tryz.prog (fun _ _=>0) default).world).heap.size=Tryz.prog.globals.size+5:=by
  unfold begin; simp only[Array.size_push,Array.size_mapIdx]
 obtain⟨o,o0,h3,_⟩:=h2 Tryz.prog.globals.size (Nat.le_refl _) (by rw[e]; omega)
 exact Nat.lt_of_le_of_lt (Nat.zero_le _) (Array.getElem?_eq_some_iff.1 h3).1
theorem I4:yU Tryz.prog 5 33=some [.int .i64,.int .i64]:=by kernel_rfl
theorem IX:yU Tryz.prog 5 30=some [.int .i8,.int .i8]:=by kernel_rfl
theorem Jg:yU Tryz.prog 5 28=some [.sl 5,.int .i16,.int .i16,.int .u8,.bool,.bool]:=by kernel_rfl
theorem JV:yU Tryz.prog 5 5=some [.int .u8]:=by kernel_rfl
theorem IN:Tryz.prog.underlying 22=some (.slice 33):=by kernel_rfl
theorem Jm:Tryz.prog.underlying 23=some (.slice 30):=by kernel_rfl
theorem Jw:Tryz.prog.underlying 5=some (.int .u8):=by kernel_rfl
theorem bounds_i16 {n:Int} (h:(Lit.int .i16 n).wf=true) : -32768≤n∧n≤32767:=by
 have h':(decide ((-32768:Int)≤n) && decide (n≤32767))=true:=h
 simpa using h'
abbrev H8 (p:Int × Int):Prop:=(-9223372036854775808≤p.1∧p.1≤9223372036854775807)∧(-9223372036854775808≤p.2∧p.2≤9223372036854775807)
section
variable {H : Type} {enc : TypeId × Value → H} {W : World} {sp : Nat → Bool} {held : Bool} {v : Value} {d : DataW H} {p : List MemPlace} {base : Nat}
theorem yJ {P:Program} {base:Nat} {v:Value} (h:kV enc P W base sp held (.int .i16) v):∃n:Int,v = .int .i16 n∧-32768≤n∧n≤32767:=by
 obtain⟨n,rfl,hw⟩:=h;exact⟨n,rfl,bounds_i16 hw⟩
theorem uS {P:Program} {base:Nat} {v:Value} (h:kV enc P W base sp held .bool v):∃b,v = .bool b:=h
theorem G2:∀(n:Nat) (cs:List Value) (x:DataW H × List MemPlace),DataW.trod enc Tryz.prog W 0 sp held n 33 cs=some x→∃p:Int × Int,cs=eP (eI .i64) (eI .i64) p∧H8 p:=by
 intro n cs x h;obtain⟨v1,cs,rfl,h1,h⟩:=bu (gW 5 33 _ I4 n _ x h);obtain⟨v2,cs,rfl,h2,h⟩:=bu h;obtain rfl:=iQ h;obtain⟨a,rfl,ha⟩:=yo h1;obtain⟨b,rfl,hb⟩:=yo h2;exact⟨(a,b),rfl,ha,hb⟩
theorem H3:∀(n:Nat) (cs:List Value) (x:DataW H × List MemPlace),DataW.trod enc Tryz.prog W 0 sp held n 30 cs=some x→∃p:Int × Int,cs=eP (eI .i8) (eI .i8) p∧(-128≤p.1∧p.1≤127)∧(-128≤p.2∧p.2≤127):=by
 intro n cs x h;obtain⟨v1,cs,rfl,h1,h⟩:=bu (gW 5 30 _ IX n _ x h);obtain⟨v2,cs,rfl,h2,h⟩:=bu h;obtain rfl:=iQ h;obtain⟨a,rfl,ha⟩:=gH h1;obtain⟨b,rfl,hb⟩:=gH h2;exact⟨(a,b),rfl,ha,hb⟩
theorem IZ:∀(n:Nat) (cs:List Value) (x:DataW H × List MemPlace),DataW.trod enc Tryz.prog W 0 sp held n 5 cs=some x→∃p:Nat,cs=eN .u8 p∧p<256:=by
 intro n cs x h;obtain⟨v1,cs,rfl,h1,h⟩:=bu (gW 5 5 _ JV n _ x h);obtain rfl:=iQ h;obtain⟨a,rfl,ha⟩:=xm h1;exact⟨a,rfl,ha⟩
theorem Ii (hok:Value.okWide Tryz.prog W .any base 22 v) (hs:0<W.heap.size) (h:DataW.Trod enc Tryz.prog W 0 sp held 22 v d p):∃(l:List (Int × Int)) (a:Option Addr) (c:Nat),
  VR (dP W) (.slice a l.length c) v∧(∀q ∈ l,H8 q)∧l.length≤maxLen∧Rd (dD W) a c 2 l.length (l.map (eP (eI .i64) (eI .i64))):=by
 obtain⟨a0,n0,c0,rfl⟩:=okWide_slice IN hok;obtain⟨n,h⟩:=h;have h1:=gW 5 22 [.sl 33] (by kernel_rfl) n _ _ h
 obtain⟨v1,r,hr,h1,_⟩:=bu h1;cases hr;obtain⟨a,c,l,e1,e2,e3,e4⟩:=vI (f:=eP (eI .i64) (eI .i64)) (w:=2) (by kernel_rfl) (by omega) hs (fun q=>rfl) G2 h1
 exact⟨l,a,c,e1,e3,e4,e2⟩
theorem HO (hok:Value.okWide Tryz.prog W .any base 23 v) (hs:0<W.heap.size) (h:DataW.Trod enc Tryz.prog W 0 sp held 23 v d p):∃(l:List (Int × Int)) (a:Option Addr) (c:Nat),
  VR (dP W) (.slice a l.length c) v∧(∀q ∈ l,(-128≤q.1∧q.1≤127)∧(-128≤q.2∧q.2≤127))∧l.length≤maxLen∧Rd (dD W) a c 2 l.length (l.map (eP (eI .i8) (eI .i8))):=by
 obtain⟨a0,n0,c0,rfl⟩:=okWide_slice Jm hok;obtain⟨n,h⟩:=h;have h1:=gW 5 23 [.sl 30] (by kernel_rfl) n _ _ h
 obtain⟨v1,r,hr,h1,_⟩:=bu h1;cases hr;obtain⟨a,c,l,e1,e2,e3,e4⟩:=vI (f:=eP (eI .i8) (eI .i8)) (w:=2) (by kernel_rfl) (by omega) hs (fun q=>rfl) H3 h1
 exact⟨l,a,c,e1,e3,e4,e2⟩
theorem Iu (hok:Value.okWide Tryz.prog W .any base 28 v) (hs:0<W.heap.size) (h:DataW.Trod enc Tryz.prog W 0 sp held 28 v d p):∃(l:List Nat) (a:Option Addr) (c:Nat) (x1 x2:Int) (x3:Nat) (x4 x5:Bool),
  VR (dP W) (.agg #[.slice a l.length c,.int .i16 x1,.int .i16 x2,.int .u8 ((x3:Nat):Int),.bool x4,.bool x5]) v∧(∀q ∈ l,q<256)∧(-32768≤x1∧x1≤32767)∧(-32768≤x2∧x2≤32767)∧x3<256∧Rd (dD W) a c 1 l.length (l.map (eN .u8)):=by
 obtain⟨cs,rfl,_⟩:=okWide_struct (t:=28) (fs:=Tryz.prog.underlying 28 |>.elim #[] fun u=>match u with | .struct fs=>fs|_=>#[]) (by kernel_rfl) hok
 obtain⟨n,h⟩:=h;obtain⟨v1,r,hr,h1,h⟩:=bu (oQ Jg h);obtain⟨v2,r,rfl,h2,h⟩:=bu h;obtain⟨v3,r,rfl,h3,h⟩:=bu h;obtain⟨v4,r,rfl,h4,h⟩:=bu h;obtain⟨v5,r,rfl,h5,h⟩:=bu h;obtain⟨v6,r,rfl,h6,h⟩:=bu h;obtain rfl:=iQ h;obtain⟨a,c,l,e1,e2,e3,e4⟩:=vI (f:=eN .u8) (w:=1) (by kernel_rfl) (by omega) hs (fun q=>rfl) IZ h1
 obtain⟨x1,rfl,g1⟩:=yJ h2;obtain⟨x2,rfl,g2⟩:=yJ h3;obtain⟨x3,rfl,g3⟩:=xm h4;obtain⟨x4,rfl⟩:=uS h5;obtain⟨x5,rfl⟩:=uS h6;refine⟨l,a,c,x1,x2,x3,x4,x5,?_,e3,g1,g2,g3,e2⟩;refine AY (l:=[.slice a l.length c,.int .i16 x1,.int .i16 x2,.int .u8 ((x3:Nat):Int),.bool x4,.bool x5]) ?_;rw[hr];exact .cons e1 (LR.plain rfl)
theorem I5 (hok:Value.okWide Tryz.prog W .any base 5 v) (h:DataW.Trod enc Tryz.prog W 0 sp held 5 v d p):∃n:Nat,v = .int .u8 ((n:Nat):Int)∧n<256:=by
 obtain⟨k,rfl⟩:=okWide_int Jw hok;obtain⟨n,h⟩:=h;obtain⟨m,e,_,hw⟩:=DataW.trod_int Jw h;exact xm (enc:=enc) (P:=Tryz.prog) (W:=W) (base:=0) (sp:=sp) (held:=held) ⟨m,by cases e; rfl,hw⟩
end
end Go.Proofs.YthmekkhpddehjaaGreat
end

section
namespace Go.Proofs.YthmekkhpddehjaaGreat
open Go Go.Ab Go.Ab.W
set_option maxRecDepth 10000
def F1 (_:Nat) (l1:List (Nat)) (_:Int) (_:Int) (_:Nat) (_:Bool) (_:Bool) (x10:Int):Option (Int) :=
br (decide ((l1.length:Int)=0)) (
some (Int.tmod x10 3)) (
gd (decide ((l1.length:Int)≠0)) (
gd (bJ (Int.tmod x10 (l1.length:Int)) l1.length) (
ob (l1[(Int.tmod x10 (l1.length:Int)).toNat]?) fun x17 =>
some (IntKind.wrap .i64 ((x17:Nat):Int)))))
def qC (n:Nat) (l1:List (Nat)) (x5:Int) (x6:Int) (x7:Nat) (x8:Bool) (x9:Bool):(List (Int × Int) × List (Int × Int) × Int)→Option ((List (Int × Int) × List (Int × Int) × Int) ⊕ (List (Int × Int))):=fun(l2,l3,v0) =>
br (decide (v0<12)) (
ob (
ob (F1 n l1 x5 x6 x7 x8 x9 v0) fun r0 =>
ob (
br (decide (Int.tmod r0 6=0)) (
some (!decide (Int.tmod v0 3=0))) (
some false)) fun v1 =>
br (v1) (
some l2) (
gd (bJ v0 12) (
ob (l3[v0.toNat]?) fun(x3,x4) =>
ob (some (IntKind.wrap .i64 (x3*(IntKind.wrap .i64 (1+(Int.tmod (Int.tmod r0 6) 5)))))) fun y0 =>
gd (bJ v0 12) (
ob (some (IntKind.wrap .i64 (x4*(IntKind.wrap .i64 (1+(Int.tmod (Int.tmod r0 6) 5)))))) fun y1 =>
gd (lim (l2++[(y0,y1)]).length) (
some (l2++[(y0,y1)])))))) fun l4 =>
some (.inl (l4,l3,IntKind.wrap .i64 (v0+1)))) (
some (.inr l2))
def oI (_:Nat) (v1:Int) (r0:Int):(List (Int × Int) × Nat × Int)→Option ((List (Int × Int) × Nat × Int) ⊕ (List (Int × Int) × Nat)):=fun(l2,n0,v0) =>
br (decide (v1≤v0)) (
ob (
gd (bJ (IntKind.wrap .i64 ((n0:Int)-1)) n0) (
ob (l2[(IntKind.wrap .i64 ((n0:Int)-1)).toNat]?) fun(x3,x4) =>
br (!(decide (x3=v0) && decide (x4=IntKind.wrap .i64 (1+(Int.tmod r0 5))))) (
gd (lim (l2++[(v0,IntKind.wrap .i64 (1+(Int.tmod r0 5)))]).length) (
some ((l2++[(v0,IntKind.wrap .i64 (1+(Int.tmod r0 5)))]),(l2++[(v0,IntKind.wrap .i64 (1+(Int.tmod r0 5)))]).length))) (
some (l2,n0)))) fun(l3,n1) =>
some (.inl (l3,n1,IntKind.wrap .i64 (v0-1)))) (
some (.inr (l2,n0)))
def tY (n:Nat) (l1:List (Nat)) (x5:Int) (x6:Int) (x7:Nat) (x8:Bool) (x9:Bool):(List (Int × Int) × Nat × Int)→Option ((List (Int × Int) × Nat × Int) ⊕ (List (Int × Int) × Nat)):=fun(l2,n0,v0) =>
br (decide (0≤v0)) (
ob (F1 n l1 x5 x6 x7 x8 x9 (IntKind.wrap .i64 (v0+1))) fun r0 =>
ob (
bT (oI n v0 r0) n (l2,n0,IntKind.wrap .i64 (v0+1))) fun(l3,n1) =>
some (.inl (l3,n1,IntKind.wrap .i64 (v0-1)))) (
some (.inr (l2,n0)))
def G1 (n:Nat) (l1:List (Nat)) (x5:Int) (x6:Int) (x7:Nat) (x8:Bool) (x9:Bool):Option (List (Int × Int)) :=
br (!x8) (
ob (
bT (qC n l1 x5 x6 x7 x8 x9) n (([]:List (Int × Int)),([(2,0),(2,1),(1,2),(0,2),(-1,2),(-2,1),(-2,0),(-2,-1),(-1,-2),(0,-2),(1,-2),(2,-1)]:List (Int × Int)),0)) fun l2 =>
some l2) (
ob (F1 n l1 x5 x6 x7 x8 x9 0) fun r0 =>
ob (
bT (tY n l1 x5 x6 x7 x8 x9) n ([(0,0),(IntKind.wrap .i64 (1+(Int.tmod r0 6)),0)],2,IntKind.wrap .i64 ((IntKind.wrap .i64 (1+(Int.tmod r0 6)))-1))) fun(l3,_) =>
some l3)
def Cc (_:Nat) (x1:Int) (x2:Int):Option (Bool) :=
br (decide (x1 < -1000000)) (
some true) (
br (decide (1000000<x1)) (
some true) (
br (decide (x2 < -1000000)) (
some true) (
some (decide (1000000<x2)))))
def Ai (_:Nat) (l1:List (Int × Int)) (x5:Int):Option (Int × Int) :=
gd (decide ((l1.length:Int)≠0)) (
gd (bJ (Int.tmod x5 (l1.length:Int)) l1.length) (
ob (l1[(Int.tmod x5 (l1.length:Int)).toNat]?) fun(x11,x12) =>
some (x11,x12)))
def xD (_:Nat) (x1:Int) (x2:Int) (x3:Int) (x4:Int) (x5:Int) (x6:Int):Option (Int) :=
ob (some (IntKind.wrap .i64 ((IntKind.wrap .i64 (x3-x1))*(IntKind.wrap .i64 (x6-x2))))) fun y10 =>
ob (some (IntKind.wrap .i64 ((IntKind.wrap .i64 (x4-x2))*(IntKind.wrap .i64 (x5-x1))))) fun y12 =>
some (IntKind.wrap .i64 (y10-y12))
def GU (_:Nat) (x1:Int) (x2:Int) (x3:Int) (x4:Int) (x5:Int) (x6:Int):Option (Int) :=
ob (some (IntKind.wrap .i64 ((IntKind.wrap .i64 (x3-x1))*(IntKind.wrap .i64 (x5-x3))))) fun y10 =>
ob (some (IntKind.wrap .i64 ((IntKind.wrap .i64 (x4-x2))*(IntKind.wrap .i64 (x6-x4))))) fun y12 =>
some (IntKind.wrap .i64 (y10+y12))
def EP (_:Nat) (x1:Int):Option (Int) :=
br (decide (0<x1)) (
some 1) (
br (decide (x1<0)) (
some (-1)) (
some 0))
def CX (n:Nat) (x1:Int) (x2:Int) (x3:Int) (x4:Int) (x5:Int) (x6:Int):Option (Bool) :=
ob (xD n x1 x2 x3 x4 x5 x6) fun r11 =>
br (!decide (r11=0)) (
some false) (
br (decide (mi x1 x3≤x5)) (
br (decide (x5≤ma x1 x3)) (
br (decide (mi x2 x4≤x6)) (
some (decide (x6≤ma x2 x4))) (
some false)) (
some false)) (
some false))
def GX (n:Nat) (x1:Int) (x2:Int) (x3:Int) (x4:Int) (x5:Int) (x6:Int) (x7:Int) (x8:Int):Option (Int) :=
ob (xD n x1 x2 x3 x4 x5 x6) fun r2 =>
ob (EP n r2) fun r0 =>
ob (xD n x1 x2 x3 x4 x7 x8) fun r3 =>
ob (EP n r3) fun r1 =>
ob (xD n x5 x6 x7 x8 x1 x2) fun r4 =>
ob (EP n r4) fun r5 =>
ob (xD n x5 x6 x7 x8 x3 x4) fun r6 =>
ob (EP n r6) fun r7 =>
ob (
br (decide (r0=0)) (
some (decide (r1=0))) (
some false)) fun v1 =>
br (v1) (
ob (some (IntKind.wrap .i64 ((ma (mi x1 x3) (mi x5 x7))-(mi (ma x1 x3) (ma x5 x7))))) fun y0 =>
ob (
br (decide (x1=x3)) (
ob (some (IntKind.wrap .i64 ((ma (mi x2 x4) (mi x6 x8))-(mi (ma x2 x4) (ma x6 x8))))) fun y1 =>
some y1) (
some y0)) fun v0 =>
br (decide (0<v0)) (
some 0) (
br (decide (v0=0)) (
some 1) (
some 3))) (
ob (
br (decide (IntKind.wrap .i64 (r0*r1)<0)) (
some (decide (IntKind.wrap .i64 (r5*r7)<0))) (
some false)) fun v2 =>
br (v2) (
some 2) (
ob (
ob (CX n x1 x2 x3 x4 x5 x6) fun r8 =>
br (r8) (
some true) (
ob (CX n x1 x2 x3 x4 x7 x8) fun r9 =>
br (r9) (
some true) (
ob (CX n x5 x6 x7 x8 x1 x2) fun r10 =>
br (r10) (
some true) (
ob (CX n x5 x6 x7 x8 x3 x4) fun r11 =>
some r11)))) fun v3 =>
br (v3) (
some 1) (
some 0)))
def vl (n:Nat) (l1:List (Int × Int)):Int→Option ((Int) ⊕ ((Int) ⊕ (Unit))):=fun v18 =>
br (decide (v18<(l1.length:Int))) (
gd (bJ v18 l1.length) (
ob (l1[v18.toNat]?) fun(x35,x36) =>
ob (Cc n x35 x36) fun r39 =>
br (r39) (
some (.inr (.inl v18))) (
some (.inl (IntKind.wrap .i64 (v18+1)))))) (
some (.inr (.inr ())))
def vh (n:Nat) (l1:List (Int × Int)):Int→Option ((Int) ⊕ ((Int) ⊕ (Unit))):=fun v44 =>
br (decide (v44<(l1.length:Int))) (
gd (bJ v44 l1.length) (
ob (l1[v44.toNat]?) fun(x62,x63) =>
ob (Ai n l1 (IntKind.wrap .i64 (v44+1))) fun(r66,r67) =>
br ((decide (x62=r66) && decide (x63=r67))) (
some (.inr (.inl v44))) (
some (.inl (IntKind.wrap .i64 (v44+1)))))) (
some (.inr (.inr ())))
def uW (n:Nat) (l1:List (Int × Int)):Int→Option ((Int) ⊕ ((Int) ⊕ (Unit))):=fun v0 =>
br (decide (v0<(l1.length:Int))) (
ob (Ai n l1 (IntKind.wrap .i64 ((IntKind.wrap .i64 (v0+(l1.length:Int)))-1))) fun(r0,r1) =>
gd (bJ v0 l1.length) (
ob (l1[v0.toNat]?) fun(x3,x4) =>
ob (Ai n l1 (IntKind.wrap .i64 (v0+1))) fun(r2,r3) =>
ob (
ob (xD n r0 r1 x3 x4 r2 r3) fun r4 =>
br (decide (r4=0)) (
ob (GU n r0 r1 x3 x4 r2 r3) fun r5 =>
some (decide (r5<0))) (
some false)) fun v1 =>
br (v1) (
some (.inr (.inl v0))) (
some (.inl (IntKind.wrap .i64 (v0+1)))))) (
some (.inr (.inr ())))
def ui (n:Nat) (v1:Int) (l1:List (Int × Int)):Int→Option ((Int) ⊕ ((Unit) ⊕ (Unit))):=fun v0 =>
br (decide (IntKind.wrap .i64 (v0+1)<v1)) (
ob (α:=(Unit) ⊕ (Unit)) (
ob (
br (decide (v0=0)) (
some (decide (v1=IntKind.wrap .i64 ((l1.length:Int)-1)))) (
some false)) fun v2 =>
br (v2) (
some (.inl ())) (
gd (bJ v0 l1.length) (
ob (l1[v0.toNat]?) fun(x3,x4) =>
gd (bJ (IntKind.wrap .i64 (v0+1)) l1.length) (
ob (l1[(IntKind.wrap .i64 (v0+1)).toNat]?) fun(x10,x11) =>
gd (bJ v1 l1.length) (
ob (l1[v1.toNat]?) fun(x12,x16) =>
ob (Ai n l1 (IntKind.wrap .i64 (v1+1))) fun(r0,r1) =>
ob (GX n x3 x4 x10 x11 x12 x16 r0 r1) fun r2 =>
br (!decide (r2=0)) (
some (.inr ())) (
some (.inl ()))))))) fun r3=>match r3 with
| .inl _ =>
some (.inl (IntKind.wrap .i64 (v0+1)))
| .inr _ =>
some (.inr (.inl ()))) (
some (.inr (.inr ())))
def tQ (n:Nat) (l1:List (Int × Int)):Int→Option ((Int) ⊕ ((Int) ⊕ (Unit))):=fun v0 =>
br (decide (v0<(l1.length:Int))) (
ob (α:=(Unit) ⊕ (Unit)) (
bT (ui n v0 l1) n 0) fun r0=>match r0 with
| .inl _ =>
some (.inr (.inl v0))
| .inr _ =>
some (.inl (IntKind.wrap .i64 (v0+1)))) (
some (.inr (.inr ())))
def Ia (n:Nat) (l1:List (Int × Int)):Option (Int × Int) :=
ob (
br (decide ((l1.length:Int)<3)) (
some true) (
some (decide (40<(l1.length:Int))))) fun v0 =>
br (v0) (
some (1,0)) (
ob (α:=(Int) ⊕ (Unit)) (
bT (vl n l1) n 0) fun r0=>match r0 with
| .inl v1 =>
some (2,v1)
| .inr _ =>
ob (α:=(Int) ⊕ (Unit)) (
bT (vh n l1) n 0) fun r1=>match r1 with
| .inl v2 =>
some (3,v2)
| .inr _ =>
ob (α:=(Int) ⊕ (Unit)) (
bT (uW n l1) n 0) fun r2=>match r2 with
| .inl v3 =>
some (4,v3)
| .inr _ =>
ob (α:=(Int) ⊕ (Unit)) (
bT (tQ n l1) n 0) fun r3=>match r3 with
| .inl v4 =>
some (5,v4)
| .inr _ =>
some (0,0))
def E2 (n:Nat) (l1:List (Int × Int)):Option (Int) :=
ob (Ia n l1) fun(r6,_) =>
br (decide (0<r6)) (
some 140) (
some 0)
def tM (_:Nat) (l1:List (Int × Int)):(List (Int × Int) × Nat × Int)→Option ((List (Int × Int) × Nat × Int) ⊕ (List (Int × Int) × Nat)):=fun(l25,n27,v28) =>
br (decide (0<v28)) (
gd (bJ v28 l1.length) (
ob (l1[v28.toNat]?) fun(x46,x47) =>
gd (lim (l25++[(x46,x47)]).length) (
some (.inl ((l25++[(x46,x47)]),(l25++[(x46,x47)]).length,IntKind.wrap .i64 (v28-1)))))) (
some (.inr (l25,n27)))
def GY (n:Nat) (l1:List (Int × Int)):Option (List (Int × Int) × Int) :=
ob (E2 n l1) fun r6 =>
br (!decide (r6=0)) (
some ([],r6)) (
gd (bJ 0 l1.length) (
ob (l1[(0:Int).toNat]?) fun(x11,x12) =>
ob (
bT (tM n l1) n ([(x11,x12)],1,IntKind.wrap .i64 ((l1.length:Int)-1))) fun(l41,_) =>
some (l41,0)))
def q8 (_:Nat) (l12:List (Int × Int)) (x5:Int) (x6:Int):(List (Int × Int) × Int × Int)→Option ((List (Int × Int) × Int × Int) ⊕ (List (Int × Int))):=fun(l33,v34,v35) =>
br (decide (v35<(l12.length:Int))) (
gd (bJ v35 l12.length) (
ob (l33[v35.toNat]?) fun(x60,x61) =>
ob (some (IntKind.wrap .i64 ((IntKind.wrap .i64 (x60*v34))+(IntKind.wrap .i64 x5)))) fun y63 =>
gd (bJ v35 l12.length) (
ob (some (IntKind.wrap .i64 ((IntKind.wrap .i64 (x61*v34))+(IntKind.wrap .i64 x6)))) fun y66 =>
gd (bJ v35 l12.length) (
some (.inl ((l33.set v35.toNat (y63,y66)),v34,IntKind.wrap .i64 (v35+1))))))) (
some (.inr l33))
def GW (n:Nat) (l1:List (Nat)) (x5:Int) (x6:Int) (x7:Nat) (x8:Bool) (x9:Bool):Option (List (Int × Int)) :=
ob (G1 n l1 x5 x6 x7 x8 x9) fun l12 =>
ob (
bT (q8 n l12 x5 x6) n (l12,IntKind.wrap .i64 (1+(IntKind.wrap .i64 ((x7:Nat):Int))),0)) fun l54 =>
ob (
br (x9) (
ob (GY n l54) fun(l83,_) =>
some (l83,l83.length)) (
some (l54,l12.length))) fun(l78,_) =>
some l78
def HQ (_:Nat) (x3:Nat):(List (Int × Int))→Option ((List (Int × Int)) ⊕ (List (Int × Int))):=fun l2 =>
br (decide ((l2.length:Int)<IntKind.wrap .i64 (39+(IntKind.wrap .i64 ((x3%3:Nat):Int))))) (
gd (lim (l2++[(IntKind.wrap .i64 (3*(l2.length:Int)),IntKind.wrap .i64 ((l2.length:Int)*(l2.length:Int)))]).length) (
some (.inl (l2++[(IntKind.wrap .i64 (3*(l2.length:Int)),IntKind.wrap .i64 ((l2.length:Int)*(l2.length:Int)))])))) (
some (.inr l2))
def JF (n:Nat) (x1:Nat) (x2:Nat) (x10:Nat) (x3:Int) (x5:Int) (l2:List (Int × Int)):Option (List (Int × Int)) :=
gd (okB 0 (mi (l2.length:Int) (50:Int)) l2.length) (
gd (lim (([]:List (Int × Int))++((l2.drop (0:Int).toNat).take ((mi (l2.length:Int) (50:Int):Int).toNat-(0:Int).toNat))).length) (
br (decide (((([]:List (Int × Int))++((l2.drop (0:Int).toNat).take ((mi (l2.length:Int) (50:Int):Int).toNat-(0:Int).toNat))).length:Int)=0)) (
some (([]:List (Int × Int))++((l2.drop (0:Int).toNat).take ((mi (l2.length:Int) (50:Int):Int).toNat-(0:Int).toNat)))) (
gd (decide (((([]:List (Int × Int))++((l2.drop (0:Int).toNat).take ((mi (l2.length:Int) (50:Int):Int).toNat-(0:Int).toNat))).length:Int)≠0)) (
ob (some (Int.tmod (IntKind.wrap .i64 ((x2:Nat):Int)) ((([]:List (Int × Int))++((l2.drop (0:Int).toNat).take ((mi (l2.length:Int) (50:Int):Int).toNat-(0:Int).toNat))).length:Int))) fun y0 =>
gd (decide (((([]:List (Int × Int))++((l2.drop (0:Int).toNat).take ((mi (l2.length:Int) (50:Int):Int).toNat-(0:Int).toNat))).length:Int)≠0)) (
ob (some (Int.tmod (IntKind.wrap .i64 ((x10:Nat):Int)) ((([]:List (Int × Int))++((l2.drop (0:Int).toNat).take ((mi (l2.length:Int) (50:Int):Int).toNat-(0:Int).toNat))).length:Int))) fun y1 =>
ob (
br (decide (x1%9=0)) (
gd (bJ y0 ((([]:List (Int × Int))++((l2.drop (0:Int).toNat).take ((mi (l2.length:Int) (50:Int):Int).toNat-(0:Int).toNat))).length)) (
ob ((([]:List (Int × Int))++((l2.drop (0:Int).toNat).take ((mi (l2.length:Int) (50:Int):Int).toNat-(0:Int).toNat)))[y0.toNat]?) fun(_,_) =>
some (((([]:List (Int × Int))++((l2.drop (0:Int).toNat).take ((mi (l2.length:Int) (50:Int):Int).toNat-(0:Int).toNat))).set y0.toNat (x3,x5)),(([]:List (Int × Int))++((l2.drop (0:Int).toNat).take ((mi (l2.length:Int) (50:Int):Int).toNat-(0:Int).toNat))).length))) (
br (decide (x1%9=1)) (
gd (bJ y1 ((([]:List (Int × Int))++((l2.drop (0:Int).toNat).take ((mi (l2.length:Int) (50:Int):Int).toNat-(0:Int).toNat))).length)) (
ob ((([]:List (Int × Int))++((l2.drop (0:Int).toNat).take ((mi (l2.length:Int) (50:Int):Int).toNat-(0:Int).toNat)))[y1.toNat]?) fun(x16,x17) =>
gd (bJ y0 ((([]:List (Int × Int))++((l2.drop (0:Int).toNat).take ((mi (l2.length:Int) (50:Int):Int).toNat-(0:Int).toNat))).length)) (
ob ((([]:List (Int × Int))++((l2.drop (0:Int).toNat).take ((mi (l2.length:Int) (50:Int):Int).toNat-(0:Int).toNat)))[y0.toNat]?) fun(_,_) =>
some (((([]:List (Int × Int))++((l2.drop (0:Int).toNat).take ((mi (l2.length:Int) (50:Int):Int).toNat-(0:Int).toNat))).set y0.toNat (x16,x17)),(([]:List (Int × Int))++((l2.drop (0:Int).toNat).take ((mi (l2.length:Int) (50:Int):Int).toNat-(0:Int).toNat))).length)))) (
br (decide (x1%9=2)) (
gd (bJ y1 ((([]:List (Int × Int))++((l2.drop (0:Int).toNat).take ((mi (l2.length:Int) (50:Int):Int).toNat-(0:Int).toNat))).length)) (
ob ((([]:List (Int × Int))++((l2.drop (0:Int).toNat).take ((mi (l2.length:Int) (50:Int):Int).toNat-(0:Int).toNat)))[y1.toNat]?) fun(x11,x12) =>
gd (bJ y0 ((([]:List (Int × Int))++((l2.drop (0:Int).toNat).take ((mi (l2.length:Int) (50:Int):Int).toNat-(0:Int).toNat))).length)) (
ob ((([]:List (Int × Int))++((l2.drop (0:Int).toNat).take ((mi (l2.length:Int) (50:Int):Int).toNat-(0:Int).toNat)))[y0.toNat]?) fun(x18,x19) =>
gd (bJ y0 ((([]:List (Int × Int))++((l2.drop (0:Int).toNat).take ((mi (l2.length:Int) (50:Int):Int).toNat-(0:Int).toNat))).length)) (
gd (bJ y1 ((([]:List (Int × Int))++((l2.drop (0:Int).toNat).take ((mi (l2.length:Int) (50:Int):Int).toNat-(0:Int).toNat))).length)) (
ob (((([]:List (Int × Int))++((l2.drop (0:Int).toNat).take ((mi (l2.length:Int) (50:Int):Int).toNat-(0:Int).toNat))).set y0.toNat (x11,x12))[y1.toNat]?) fun(_,_) =>
some ((((([]:List (Int × Int))++((l2.drop (0:Int).toNat).take ((mi (l2.length:Int) (50:Int):Int).toNat-(0:Int).toNat))).set y0.toNat (x11,x12)).set y1.toNat (x18,x19)),(([]:List (Int × Int))++((l2.drop (0:Int).toNat).take ((mi (l2.length:Int) (50:Int):Int).toNat-(0:Int).toNat))).length)))))) (
br (decide (x1%9=3)) (
gd (okB 0 y0 ((([]:List (Int × Int))++((l2.drop (0:Int).toNat).take ((mi (l2.length:Int) (50:Int):Int).toNat-(0:Int).toNat))).length)) (
some ((((([]:List (Int × Int))++((l2.drop (0:Int).toNat).take ((mi (l2.length:Int) (50:Int):Int).toNat-(0:Int).toNat))).drop (0:Int).toNat).take ((y0:Int).toNat-(0:Int).toNat)),(((([]:List (Int × Int))++((l2.drop (0:Int).toNat).take ((mi (l2.length:Int) (50:Int):Int).toNat-(0:Int).toNat))).drop (0:Int).toNat).take ((y0:Int).toNat-(0:Int).toNat)).length))) (
br (decide (x1%9=4)) (
gd (lim ((([]:List (Int × Int))++((l2.drop (0:Int).toNat).take ((mi (l2.length:Int) (50:Int):Int).toNat-(0:Int).toNat)))++[(x3,x5)]).length) (
some (((([]:List (Int × Int))++((l2.drop (0:Int).toNat).take ((mi (l2.length:Int) (50:Int):Int).toNat-(0:Int).toNat)))++[(x3,x5)]),((([]:List (Int × Int))++((l2.drop (0:Int).toNat).take ((mi (l2.length:Int) (50:Int):Int).toNat-(0:Int).toNat)))++[(x3,x5)]).length))) (
br (decide (x1%9=5)) (
gd (bJ y0 ((([]:List (Int × Int))++((l2.drop (0:Int).toNat).take ((mi (l2.length:Int) (50:Int):Int).toNat-(0:Int).toNat))).length)) (
ob ((([]:List (Int × Int))++((l2.drop (0:Int).toNat).take ((mi (l2.length:Int) (50:Int):Int).toNat-(0:Int).toNat)))[y0.toNat]?) fun(x20,x21) =>
gd (decide (((([]:List (Int × Int))++((l2.drop (0:Int).toNat).take ((mi (l2.length:Int) (50:Int):Int).toNat-(0:Int).toNat))).length:Int)≠0)) (
ob (some (Int.tmod (IntKind.wrap .i64 (y0+1)) ((([]:List (Int × Int))++((l2.drop (0:Int).toNat).take ((mi (l2.length:Int) (50:Int):Int).toNat-(0:Int).toNat))).length:Int))) fun y4 =>
gd (bJ y4 ((([]:List (Int × Int))++((l2.drop (0:Int).toNat).take ((mi (l2.length:Int) (50:Int):Int).toNat-(0:Int).toNat))).length)) (
ob ((([]:List (Int × Int))++((l2.drop (0:Int).toNat).take ((mi (l2.length:Int) (50:Int):Int).toNat-(0:Int).toNat)))[y4.toNat]?) fun(x22,x23) =>
ob (some (IntKind.wrap .i64 ((IntKind.wrap .i64 (Int.tdiv x20 2))+(IntKind.wrap .i64 (Int.tdiv x22 2))))) fun y2 =>
ob (some (IntKind.wrap .i64 ((IntKind.wrap .i64 (Int.tdiv x21 2))+(IntKind.wrap .i64 (Int.tdiv x23 2))))) fun y3 =>
gd (okB 0 (IntKind.wrap .i64 (y0+1)) ((([]:List (Int × Int))++((l2.drop (0:Int).toNat).take ((mi (l2.length:Int) (50:Int):Int).toNat-(0:Int).toNat))).length)) (
gd (lim (([]:List (Int × Int))++(((([]:List (Int × Int))++((l2.drop (0:Int).toNat).take ((mi (l2.length:Int) (50:Int):Int).toNat-(0:Int).toNat))).drop (0:Int).toNat).take ((IntKind.wrap .i64 (y0+1):Int).toNat-(0:Int).toNat))).length) (
gd (lim ((([]:List (Int × Int))++(((([]:List (Int × Int))++((l2.drop (0:Int).toNat).take ((mi (l2.length:Int) (50:Int):Int).toNat-(0:Int).toNat))).drop (0:Int).toNat).take ((IntKind.wrap .i64 (y0+1):Int).toNat-(0:Int).toNat)))++[(y2,y3)]).length) (
gd (okB (IntKind.wrap .i64 (y0+1)) ((([]:List (Int × Int))++((l2.drop (0:Int).toNat).take ((mi (l2.length:Int) (50:Int):Int).toNat-(0:Int).toNat))).length:Int) ((([]:List (Int × Int))++((l2.drop (0:Int).toNat).take ((mi (l2.length:Int) (50:Int):Int).toNat-(0:Int).toNat))).length)) (
gd (lim (((([]:List (Int × Int))++(((([]:List (Int × Int))++((l2.drop (0:Int).toNat).take ((mi (l2.length:Int) (50:Int):Int).toNat-(0:Int).toNat))).drop (0:Int).toNat).take ((IntKind.wrap .i64 (y0+1):Int).toNat-(0:Int).toNat)))++[(y2,y3)])++(((([]:List (Int × Int))++((l2.drop (0:Int).toNat).take ((mi (l2.length:Int) (50:Int):Int).toNat-(0:Int).toNat))).drop (IntKind.wrap .i64 (y0+1):Int).toNat).take ((((([]:List (Int × Int))++((l2.drop (0:Int).toNat).take ((mi (l2.length:Int) (50:Int):Int).toNat-(0:Int).toNat))).length:Int):Int).toNat-(IntKind.wrap .i64 (y0+1):Int).toNat))).length) (
some ((((([]:List (Int × Int))++(((([]:List (Int × Int))++((l2.drop (0:Int).toNat).take ((mi (l2.length:Int) (50:Int):Int).toNat-(0:Int).toNat))).drop (0:Int).toNat).take ((IntKind.wrap .i64 (y0+1):Int).toNat-(0:Int).toNat)))++[(y2,y3)])++(((([]:List (Int × Int))++((l2.drop (0:Int).toNat).take ((mi (l2.length:Int) (50:Int):Int).toNat-(0:Int).toNat))).drop (IntKind.wrap .i64 (y0+1):Int).toNat).take ((((([]:List (Int × Int))++((l2.drop (0:Int).toNat).take ((mi (l2.length:Int) (50:Int):Int).toNat-(0:Int).toNat))).length:Int):Int).toNat-(IntKind.wrap .i64 (y0+1):Int).toNat))),(((([]:List (Int × Int))++(((([]:List (Int × Int))++((l2.drop (0:Int).toNat).take ((mi (l2.length:Int) (50:Int):Int).toNat-(0:Int).toNat))).drop (0:Int).toNat).take ((IntKind.wrap .i64 (y0+1):Int).toNat-(0:Int).toNat)))++[(y2,y3)])++(((([]:List (Int × Int))++((l2.drop (0:Int).toNat).take ((mi (l2.length:Int) (50:Int):Int).toNat-(0:Int).toNat))).drop (IntKind.wrap .i64 (y0+1):Int).toNat).take ((((([]:List (Int × Int))++((l2.drop (0:Int).toNat).take ((mi (l2.length:Int) (50:Int):Int).toNat-(0:Int).toNat))).length:Int):Int).toNat-(IntKind.wrap .i64 (y0+1):Int).toNat))).length)))))))))) (
br (decide (x1%9=6)) (
ob (
bT (HQ n x10) n (([]:List (Int × Int))++((l2.drop (0:Int).toNat).take ((mi (l2.length:Int) (50:Int):Int).toNat-(0:Int).toNat)))) fun l3 =>
some (l3,l3.length)) (
br (decide (x1%9=7)) (
gd (bJ y0 ((([]:List (Int × Int))++((l2.drop (0:Int).toNat).take ((mi (l2.length:Int) (50:Int):Int).toNat-(0:Int).toNat))).length)) (
ob ((([]:List (Int × Int))++((l2.drop (0:Int).toNat).take ((mi (l2.length:Int) (50:Int):Int).toNat-(0:Int).toNat)))[y0.toNat]?) fun(x24,x4) =>
gd (bJ y0 ((([]:List (Int × Int))++((l2.drop (0:Int).toNat).take ((mi (l2.length:Int) (50:Int):Int).toNat-(0:Int).toNat))).length)) (
gd (bJ y0 ((([]:List (Int × Int))++((l2.drop (0:Int).toNat).take ((mi (l2.length:Int) (50:Int):Int).toNat-(0:Int).toNat))).length)) (
gd (bJ y0 ((([]:List (Int × Int))++((l2.drop (0:Int).toNat).take ((mi (l2.length:Int) (50:Int):Int).toNat-(0:Int).toNat))).length)) (
ob (((([]:List (Int × Int))++((l2.drop (0:Int).toNat).take ((mi (l2.length:Int) (50:Int):Int).toNat-(0:Int).toNat))).set y0.toNat (x4,x4))[y0.toNat]?) fun(x25,_) =>
some ((((([]:List (Int × Int))++((l2.drop (0:Int).toNat).take ((mi (l2.length:Int) (50:Int):Int).toNat-(0:Int).toNat))).set y0.toNat (x4,x4)).set y0.toNat (x25,x24)),(([]:List (Int × Int))++((l2.drop (0:Int).toNat).take ((mi (l2.length:Int) (50:Int):Int).toNat-(0:Int).toNat))).length)))))) (
some ((([]:List (Int × Int))++((l2.drop (0:Int).toNat).take ((mi (l2.length:Int) (50:Int):Int).toNat-(0:Int).toNat))),(([]:List (Int × Int))++((l2.drop (0:Int).toNat).take ((mi (l2.length:Int) (50:Int):Int).toNat-(0:Int).toNat))).length)))))))))) fun(l4,_) =>
some l4)))))
def JX (_:Nat) (l1:List (Int × Int)):Option (List (Int × Int)) :=
gd (okB 0 (mi (l1.length:Int) (50:Int)) l1.length) (
some ((l1.drop (0:Int).toNat).take ((mi (l1.length:Int) (50:Int):Int).toNat-(0:Int).toNat)))
def JW (n:Nat) (l1:List (Int × Int)) (l6:List (Nat)) (x11:Int) (x12:Int) (x13:Nat) (x14:Bool) (x15:Bool) (x16:Nat) (x17:Nat) (x18:Nat) (x19:Int) (x20:Int) (x21:Nat) (x22:Nat) (x23:Nat) (x24:Int) (x25:Int):Option (List (Int × Int) × List (Int × Int) × List (Int × Int) × List (Int × Int)) :=
ob (GW n l6 x11 x12 x13 x14 x15) fun l30 =>
ob (JF n x16 x17 x18 x19 x20 l30) fun l34 =>
ob (JF n x21 x22 x23 x24 x25 l34) fun l39 =>
ob (JX n l1) fun l44 =>
some (l30,l34,l39,l44)
def G9 (n:Nat) (l1:List (Int × Int)):Int→Option ((Int) ⊕ ((Int) ⊕ (Unit))):=fun v49 =>
br (decide (v49<(l1.length:Int))) (
gd (bJ v49 l1.length) (
ob (l1[v49.toNat]?) fun(x66,x67) =>
ob (BB n x66 x67) fun r70 =>
br (r70) (
some (.inr (.inl v49))) (
some (.inl (IntKind.wrap .i64 (v49+1)))))) (
some (.inr (.inr ())))
def Ho (_:Nat) (l1:List (Int × Int)):Int→Option ((Int) ⊕ ((Int) ⊕ (Unit))):=fun v0 =>
br (decide (v0<(l1.length:Int))) (
gd (bJ v0 l1.length) (
ob (l1[v0.toNat]?) fun(x3,x4) =>
gd (decide ((l1.length:Int)≠0)) (
gd (bJ (Int.tmod (IntKind.wrap .i64 (v0+1)) (l1.length:Int)) l1.length) (
ob (l1[(Int.tmod (IntKind.wrap .i64 (v0+1)) (l1.length:Int)).toNat]?) fun(x10,x11) =>
ob (α:=(Unit) ⊕ (Unit)) (
br ((decide (x3=x10) && decide (x4=x11))) (
some (.inl ())) (
some (.inr ()))) fun r0=>match r0 with
| .inl _ =>
some (.inr (.inl v0))
| .inr _ =>
some (.inl (IntKind.wrap .i64 (v0+1))))))) (
some (.inr (.inr ())))
def Iq (n:Nat) (l1:List (Int × Int)):Int→Option ((Int) ⊕ ((Int) ⊕ (Unit))):=fun v0 =>
br (decide (v0<(l1.length:Int))) (
gd (bJ v0 l1.length) (
ob (l1[v0.toNat]?) fun(x3,x4) =>
gd (decide ((l1.length:Int)≠0)) (
gd (bJ (Int.tmod (IntKind.wrap .i64 (v0+1)) (l1.length:Int)) l1.length) (
ob (l1[(Int.tmod (IntKind.wrap .i64 (v0+1)) (l1.length:Int)).toNat]?) fun(x10,x11) =>
ob (α:=(Unit) ⊕ (Unit)) (
gd (decide ((l1.length:Int)≠0)) (
ob (some (Int.tmod (IntKind.wrap .i64 ((IntKind.wrap .i64 (v0+(l1.length:Int)))-1)) (l1.length:Int))) fun y0 =>
gd (bJ y0 l1.length) (
ob (l1[y0.toNat]?) fun(x12,x16) =>
ob (
ob (yS n x12 x16 x3 x4 x10 x11) fun r0 =>
br (decide (r0=0)) (
ob (some (IntKind.wrap .i64 ((IntKind.wrap .i64 (x3-x12))*(IntKind.wrap .i64 (x10-x3))))) fun y1 =>
ob (some (IntKind.wrap .i64 ((IntKind.wrap .i64 (x4-x16))*(IntKind.wrap .i64 (x11-x4))))) fun y2 =>
some (decide (IntKind.wrap .i64 (y1+y2)<0))) (
some false)) fun v1 =>
br (v1) (
some (.inl ())) (
some (.inr ()))))) fun r1=>match r1 with
| .inl _ =>
some (.inr (.inl v0))
| .inr _ =>
some (.inl (IntKind.wrap .i64 (v0+1))))))) (
some (.inr (.inr ())))
def Ir (n:Nat) (l1:List (Int × Int)) (v1:Int) (x3:Int) (x4:Int) (x10:Int) (x11:Int):Int→Option ((Int) ⊕ ((Unit) ⊕ ((Unit) ⊕ (Unit)))):=fun v0 =>
br (decide (v0<(l1.length:Int))) (
gd (bJ v0 l1.length) (
ob (l1[v0.toNat]?) fun(x12,x16) =>
gd (decide ((l1.length:Int)≠0)) (
gd (bJ (Int.tmod (IntKind.wrap .i64 (v0+1)) (l1.length:Int)) l1.length) (
ob (l1[(Int.tmod (IntKind.wrap .i64 (v0+1)) (l1.length:Int)).toNat]?) fun(x17,x18) =>
ob (α:=(Unit) ⊕ ((Unit) ⊕ (Unit))) (
br (decide (IntKind.wrap .i64 (v1-1)≤v0)) (
some (.inl ())) (
ob (
br (decide (v0=0)) (
some (decide (v1=IntKind.wrap .i64 ((l1.length:Int)-1)))) (
some false)) fun v2 =>
br (v2) (
some (.inr (.inl ()))) (
ob (GS n v1 x3 x4 x10 x11 v0 x12 x16 x17 x18) fun r0 =>
br (!decide (r0=0)) (
some (.inr (.inr ()))) (
some (.inr (.inl ())))))) fun r1=>match r1 with
| .inl _ =>
some (.inr (.inl ()))
| .inr (.inl _) =>
some (.inl (IntKind.wrap .i64 (v0+1)))
| .inr (.inr _) =>
some (.inr (.inr (.inl ()))))))) (
some (.inr (.inr (.inr ()))))
def HD (n:Nat) (l1:List (Int × Int)):Int→Option ((Int) ⊕ ((Int) ⊕ (Unit))):=fun v0 =>
br (decide (v0<(l1.length:Int))) (
gd (bJ v0 l1.length) (
ob (l1[v0.toNat]?) fun(x3,x4) =>
gd (decide ((l1.length:Int)≠0)) (
gd (bJ (Int.tmod (IntKind.wrap .i64 (v0+1)) (l1.length:Int)) l1.length) (
ob (l1[(Int.tmod (IntKind.wrap .i64 (v0+1)) (l1.length:Int)).toNat]?) fun(x10,x11) =>
ob (α:=(Unit) ⊕ (Unit)) (
ob (
some ()) fun _ =>
ob (α:=(Unit) ⊕ ((Unit) ⊕ (Unit))) (
ob (α:=(Unit) ⊕ ((Unit) ⊕ (Unit))) (
bT (Ir n l1 v0 x3 x4 x10 x11) n 0) fun r0=>match r0 with
| .inl _ =>
some (.inl ())
| .inr (.inl _) =>
some (.inr (.inl ()))
| .inr (.inr _) =>
some (.inr (.inr ()))) fun r1=>match r1 with
| .inl _ =>
some (.inl ())
| .inr (.inl _) =>
some (.inr ())
| .inr (.inr _) =>
some (.inl ())) fun r2=>match r2 with
| .inl _ =>
some (.inl (IntKind.wrap .i64 (v0+1)))
| .inr _ =>
some (.inr (.inl v0)))))) (
some (.inr (.inr ())))
def J0 (n:Nat) (l1:List (Int × Int)):Option (Int × Int) :=
ob (
br (decide ((l1.length:Int)<3)) (
some true) (
some (decide (40<(l1.length:Int))))) fun v1 =>
br (v1) (
some (1,0)) (
ob (
ob (α:=(Int) ⊕ (Unit)) (
bT (G9 n l1) n 0) fun r0=>match r0 with
| .inl v2 =>
some v2
| .inr _ =>
some (-1)) fun v0 =>
br (decide (0≤v0)) (
some (2,v0)) (
ob (
some ()) fun _ =>
ob (α:=(Int) ⊕ (Unit)) (
ob (α:=(Int) ⊕ (Unit)) (
bT (Ho n l1) n 0) fun r1=>match r1 with
| .inl v3 =>
some (.inl v3)
| .inr _ =>
some (.inr ())) fun r2=>match r2 with
| .inl v4 =>
some (3,v4)
| .inr _ =>
ob (
some ()) fun _ =>
ob (α:=(Int) ⊕ (Unit)) (
ob (α:=(Int) ⊕ (Unit)) (
bT (Iq n l1) n 0) fun r3=>match r3 with
| .inl v5 =>
some (.inl v5)
| .inr _ =>
some (.inr ())) fun r4=>match r4 with
| .inl v6 =>
some (4,v6)
| .inr _ =>
ob (
some ()) fun _ =>
ob (α:=(Int) ⊕ (Unit)) (
ob (α:=(Int) ⊕ (Unit)) (
bT (HD n l1) n 0) fun r5=>match r5 with
| .inl v7 =>
some (.inl v7)
| .inr _ =>
some (.inr ())) fun r6=>match r6 with
| .inl v8 =>
some (5,v8)
| .inr _ =>
some (0,0)))
def Iz (n:Nat) (l1:List (Int × Int)):Option (Int) :=
ob (J0 n l1) fun(r6,_) =>
br (decide (0<r6)) (
some 140) (
some 0)
def uB (_:Nat) (l1:List (Int × Int)) (l5:List (Int × Int)):Int→Option ((Int) ⊕ ((Unit) ⊕ (Unit))):=fun v11 =>
br (decide (v11<(l1.length:Int))) (
gd (bJ v11 l1.length) (
ob (l1[v11.toNat]?) fun(x31,x32) =>
gd (bJ v11 l5.length) (
ob (l5[v11.toNat]?) fun(x37,x38) =>
br (!(decide (x31=x37) && decide (x32=x38))) (
some (.inr (.inl ()))) (
some (.inl (IntKind.wrap .i64 (v11+1))))))) (
some (.inr (.inr ())))
def GL (n:Nat) (l1:List (Int × Int)) (l5:List (Int × Int)):Option (Bool) :=
br (!decide ((l1.length:Int)=(l5.length:Int))) (
some false) (
ob (α:=(Unit) ⊕ (Unit)) (
bT (uB n l1 l5) n 0) fun r42=>match r42 with
| .inl _ =>
some false
| .inr _ =>
some true)
end Go.Proofs.YthmekkhpddehjaaGreat
end

section
namespace Go.Proofs.YthmekkhpddehjaaGreat
open Go Go.Ab Go.Ab.W
set_option maxRecDepth 10000
set_option maxHeartbeats 4000000
attribute [local irreducible] Tm.at Trie.set Trie.get AMem.get AMem.set AMem.alloc AMem.ww AMem.kill
def IG (_:Nat) (l:List (Int × Int)):Option (List (Int × Int)):=gd (lim l.length) (some l)
def JM (_:Nat) (l:List (Int × Int)):Option (List (Int × Int)):=gd (lim l.length) (some l)
theorem HU {P:Program} {ty e l c l' c':Nat} (hu:P.underlying ty=some (.slice e)):bL .eql ty P (.slice none l c) (.slice none l' c')=some (.bool true):=by
 simp only[bL,Op.maxDepth,jU,hu,Option.map_some,Option.isNone_none]
theorem Hq {P:Program} {ty e l c l' c':Nat} {A:Addr} (hu:P.underlying ty=some (.slice e)):bL .eql ty P (.slice (some A) l c) (.slice none l' c')=some (.bool false):=by
 simp only[bL,Op.maxDepth,jU,hu,Option.map_some]
theorem FH:aT.P.underlying 22=some (.slice 33):=by kernel_rfl
theorem Gk:SlT aT.P 22 33 2:=SlT.of (by kernel_rfl)
theorem I8:bz aT.P 33=some (.agg #[.int .i64 0,.int .i64 0]):=by kernel_rfl
theorem Rd.C0 {m:AMem} {cap w n:Nat} {es:List (List Value)} (h:Rd m none cap w n es):n=0:=by
 rcases h.2.2 with⟨_,h⟩|⟨_,_,h,_⟩|⟨_,_,h,_⟩
 ·exact h
 ·cases h
 ·cases h
theorem F9 (n:Nat) (l:List (Int × Int)) (a:Option Addr) (c:Nat) (r:List (Int × Int)) (hF:IG n l=some r) (m:AMem) (h:Rd m a c 2 l.length (l.map (eP (eI .i64) (eI .i64)))):aL aT 49 [.slice a l.length c] m (fun v m'=>∃x:Option Addr × Nat,v = .slice x.1 x.2 x.2∧Hp m m' [.sl x.1 2 x.2 (r.map (eP (eI .i64) (eI .i64)))]):=by
 unfold IG at hF;obtain⟨hl,hF⟩:=al hF;cases hF;cases a with
 | none =>
  have h0:=Rd.C0 h;have:l = []:=List.length_eq_zero_iff.1 h0;subst this;refine aN (m0:=m) (ps:=[]) (N:=8) (rs:=[.tmp 2]) rfl Tryz.func49 rfl rfl rfl (Hp.start m) ?_;refine Wk.seq ?_;refine Wk.region ?_;refine Wo.od (ai rfl) rfl ?_;refine Wo.nil ?_;refine At.tn ?_;refine Wk.seq ?_;refine Wk.seq ?_;refine Wk.region ?_;refine Wo.od (aa rfl) rfl ?_;refine Wo.od (ak rfl rfl (HU FH)) rfl ?_;refine Wo.nil ?_;refine At.tn ?_;refine Wk.ay rfl rfl ?_;refine Wk.seq ?_;refine Wk.region ?_;refine Wo.od (ai rfl) rfl ?_;refine Wo.nil ?_;refine At.tn ?_;refine Wk.ret ?_;refine At.tr ?_;exact At.ret (.tmp rfl .nil) fun m' hm=>⟨(none,0),rfl,(ae.nil 2 rfl) m' hm⟩
 | some A =>
  refine aN (m0:=m) (ps:=[.rd (some A) c 2 l.length (l.map (eP (eI .i64) (eI .i64)))]) (N:=8) (rs:=[.tmp 2]) rfl Tryz.func49 rfl rfl rfl ((Hp.start m).uU rfl h) ?_;refine Wk.seq ?_;refine Wk.region ?_;refine Wo.od (ai rfl) rfl ?_;refine Wo.nil ?_;refine At.tn ?_;refine Wk.seq ?_;refine Wk.seq ?_;refine Wk.region ?_;refine Wo.od (aa rfl) rfl ?_;refine Wo.od (ak rfl rfl (Hq FH)) rfl ?_;refine Wo.nil ?_;refine At.tn ?_;refine Wk.az rfl rfl ?_;refine Wk.skip ?_;refine At.tn ?_;refine Wk.seq ?_;refine Wk.region ?_;refine Wo.x (js (es:=([]:List (Int × Int)).map (eP (eI .i64) (eI .i64))) Gk rfl (jj Gk I8 rfl rfl) rfl rfl) gn rfl fun b=>?_;refine Wo.od (aa rfl) rfl ?_;refine Wo.gN (ae.close (k:=0) rfl) ?_;refine Wo.x (iZ (k:=0) (k2:=1) (xs:=([]:List (Int × Int))) (ys:=l) (sK (iM .i64) (iM .i64)) Gk ⟨_,FH⟩ rfl rfl rfl (.rd _ _ _ _ _) hl) gn rfl fun a2=>?_;refine Wo.od (ai rfl) rfl ?_;refine Wo.nil ?_;refine At.tn ?_;refine Wk.ret ?_;exact At.ret (.tmp rfl .nil) fun m' hm=>⟨(a2,l.length),rfl,(ae.U [0] rfl rfl) m' hm⟩
end Go.Proofs.YthmekkhpddehjaaGreat
end

section
namespace Go.Ab.W
open Go Go.Ab
attribute [local irreducible] Tm.at Trie.set Trie.get AMem.get AMem.set AMem.alloc AMem.ww AMem.kill
section
variable {E : Env} {n : Nat} {m0 m : AMem} {fs : Fs} {ps : List Pc} {x y : Operand} {ty : TypeId}
theorem Hj {elem b w l k L o:Nat} {es:List (List Value)} {tg:Tag} {lx:Option Operand} {kd:IntKind} (ht:SlT E.P ty elem w) (hx:ev E fs x=some (.slice (some ⟨b,0,none⟩) l l)) (e1:rD E fs lx=some (some (.int kd (L:Int)))) (hp:pk ps k=some (.arr b w l es tg)) (h:L<l) (ho:L*w=o) :
  Od E m0 fs ps (.slice ty x lx none none) (.slice (some ⟨b,o,none⟩) (l-L) (l-L)) ps :=
 fun t m hf hm=>⟨fun b' hb'=>by
  have:dB (.slice (some ⟨b,0,none⟩) l l)=some b:=rfl;simp only[aE,hf.ev hx,Option.bind_some,this] at hb';cases hb'; exact(hm.get hp).2.1,fun K hK=>by
  obtain⟨_,_,hg,_,_,htg,_⟩:=hm.get hp;have hb:dq l l (some (.int kd (L:Int))) none none=some (L,l,l):=jG (by omega) (Nat.le_refl _) (.inr ⟨kd,rfl⟩) (.inl ⟨rfl,rfl⟩)
  have hs:bK E.P ty (.slice (some ⟨b,0,none⟩) l l) (some (.int kd (L:Int))) none none m=some (.slice (some ⟨b,o,none⟩) (l-L) (l-L)):=by
   subst ho;rcases htg with rfl|rfl
   ·simp only[bK,ht.und,ht.known,if_true,hg,hb,ht.size,Nat.zero_add];rw[if_neg (by omega)]
   ·simp only[bK,ht.und,ht.known,if_true,hg,hb,ht.size,Nat.zero_add];rw[if_neg (by simp),if_neg (by omega)]
  rw[Go.Ab.rF (hf.ev hx) (hf.rD e1) (hf.rD rfl) (hf.rD rfl) hs]; exact hK m hm⟩
theorem AP {elem:TypeId} {b w l cap L o:Nat} {i:Int} {kd:IntKind} (ht:SlT E.P ty elem w) (ho:L*w=o) (hx:ev E fs x=some (.slice (some ⟨b,o,none⟩) l cap)) (hy:ev E fs y=some (.int kd i)) (hi:0≤i∧i.toNat<l):Od E m0 fs ps (.indexAddr ty x y) (ptr b ((L+i.toNat)*w+0)) ps:=by
 have:=cD (m0:=m0) (ps:=ps) ht hx hy hi;subst ho;rwa[←Nat.add_mul] at this
def cR (a:Option Addr) (cap w l:Nat) (es:List (List Value)):GPc where
 ow b:=nE a=some b
 rd _:=False
 P m:=es.length=l∧(∀e ∈ es,e.length=w)∧0<w∧l≤cap∧((a=none∧cap=0)∨∃b jk tg,a=some ⟨b,0,none⟩∧b<m.next∧m.get b=some (.cells (es.flatten++jk) tg)∧(tg = .own∨tg = .more w)∧(es.flatten++jk).length=cap*w)
 st m m' h hn hg:=by
  obtain⟨h1,h2,h3,h4,h5⟩:=h;refine⟨h1,h2,h3,h4,?_⟩;rcases h5 with h5|⟨b,jk,tg,rfl,h6,h7,h8⟩
  ·exact .inl h5
  ·exact .inr ⟨b,jk,tg,rfl,by omega,by rw[hg b (.inl rfl) h6]; exact h7,h8⟩
 lt m b h hb:=by
  obtain⟨_,_,_,_,h5⟩:=h;rcases hb with hb|hb
  ·rcases h5 with⟨rfl,_⟩|⟨b',_,_,rfl,h6,_⟩
   ·cases hb
   ·cases hb; exact h6
  ·exact hb.elim
variable {α : Type} {f : α → List Value} {elem : TypeId} {k cap w l : Nat} {a : Option Addr} {es : List (List Value)} {xs : List α}
theorem ae.Ih (hp:pk ps k=some (.sl a w l es)):ae m0 ps (cf ps k (.gen (cR a l w l es))):=fun m h=>by
 have h0:=h.get hp;refine h.CN hp (fun b hb=>.inl (.inl ⟨rfl,?_⟩)) (fun b hb=>.inl (.inl ?_)) (Nat.le_refl _) h.ext ⟨?_,fun _ b hb=>?_⟩ fun _ _ _=>rfl
 ·rcases hb with hb|hb
  ·cases hb.1
  ·exact hb
 ·rcases hb with hb|hb
  ·cases hb
  ·rcases hb with hb|hb
   ·exact hb
   ·exact hb.elim
 ·rcases h0 with⟨rfl,rfl,rfl,h1⟩|⟨b,tg,rfl,h1⟩
  ·exact⟨rfl,fun e he=>(by cases he),h1,Nat.le_refl _,.inl ⟨rfl,rfl⟩⟩
  ·exact⟨h1.2.2.2.1,h1.2.2.2.2.1,h1.2.2.2.2.2.2,Nat.le_refl _,.inr ⟨b,[],tg,rfl,h1.2.1,by rw[List.append_nil]; exact h1.2.2.1,h1.2.2.2.2.2.1,by rw[List.append_nil,bE h1.2.2.2.2.1,h1.2.2.2.1]⟩⟩
 ·have hb:nE a=some b:=hb;rcases h0 with⟨_,_,rfl,_⟩|⟨b',tg,rfl,h1⟩
  ·cases hb
  ·cases hb; exact h1.1
theorem BM {a:Option Addr} {cap w l:Nat} {es:List (List Value)} (h:(cR a cap w l es).P m):Rd m a cap w l es:=by
 obtain⟨h1,h2,h3,h4,h5⟩:=h;refine⟨h1,h4,?_⟩;rcases h5 with⟨rfl,rfl⟩|⟨b,jk,tg,rfl,h6,h7,h8,h9⟩
 ·exact .inl ⟨rfl,by omega⟩
 ·refine .inr (.inr ⟨b,0,rfl,h6,_,tg,h7,fun sz e=>by rcases h8 with h|h<;>rw[h] at e<;>cases e; rfl,fun i e he=>?_⟩)
  have hi:i<es.length:=(List.getElem?_eq_some_iff.1 he).1;have hl:=h2 e (List.mem_of_getElem? he);refine⟨?_,hl⟩;have:=yj h2 he;rw[Nat.zero_add,List.drop_append_of_le_length (by rw[bE h2]; exact Nat.mul_le_mul_right w (by omega)),List.take_append_of_le_length,this]
  rw[List.length_drop,bE h2];have:(i+1)*w≤es.length*w:=Nat.mul_le_mul_right w hi;rw[Nat.succ_mul] at this; omega
theorem ae.Hw (hp:pk ps k=some (.gen (cR a cap w l es))):ae m0 ps (cf ps k (.rd a cap w l es)):=fun m h =>
 h.CN hp (fun b hb=>.inl (.inr (by rcases hb with hb|hb; cases hb.1; exact hb.elim))) (fun b hb=>.inl (.inr (.inl (by rcases hb with hb|hb; exact hb; exact hb.elim)))) (Nat.le_refl _) h.ext (BM (h.get hp).1) fun _ _ _=>rfl
theorem Ax {b cap w l:Nat} {es:List (List Value)} (h:(cR (some ⟨b,0,none⟩) cap w l es).P m):pW m b 0 w es:=by
 rcases(BM h).2.2 with⟨h,_⟩|⟨b',sp,h,_⟩|⟨b',o,h,h'⟩
 ·cases h
 ·cases h
 ·cases h; exact h'
theorem nv {ag:Bool} {sz b j c:Nat} {e:List Value} {r:Value} (ht:TyI E.P ty ag sz) (hx:ev E fs x=some (ptr b (j*w+c))) (hp:pk ps k=some (.gen (cR (some ⟨b,0,none⟩) cap w l es))) (he:es[j]? = some e) (hv:Aj ag sz e c=some r) (hs:Aw ag sz c w=true):Od E m0 fs ps (.load ty x) r ps:=by
 have hs:=s7 hs;refine .load hx fun m h=>?_;have hl:=Ax (h.get hp).1;refine⟨hl.1,?_⟩;have:=mS (P:=E.P) ht hl he hv hs.1 hs.2;rwa[Nat.zero_add] at this
theorem eX {cap':Nat} {ars:Array Operand} (hu:E.P.underlying ty=some (.slice elem)) (ha:jK E fs ars.toList=some [.slice a l cap']) (hp:pk ps k=some (.gen (cR a cap w l es))) :
  Od E m0 fs ps (.call ⟨.builtin .len,ars,#[ty]⟩) (.int .i64 (l:Int)) ps :=
 fun t m hf h=>⟨fun b hb'=>by
  simp only[aE,hf.jK ha] at hb';have hab:dB (.slice a l cap')=nE a:=by cases a<;>rfl
  rw[hab] at hb';exact(cR a cap w l es).lt m b (h.get hp).1 (.inl hb'),fun K hK=>by
  have:aH E.P .len #[ty] [.slice a l cap'] m=some (.int .i64 (l:Int),m):=by
   have ht:(#[ty]:Array TypeId)[0]? = some ty:=rfl;simp only[aH,ht,Option.bind_some,hu]
  rw[Go.Ab.eG (hf.jK ha) this]; exact hK m h⟩
theorem ae.JI {i:Nat} (hp:pk ps k=some (.gen (cR a cap w l es))) (hi:i≤l):ae m0 ps (cf ps k (.gen (cR a cap w i (es.take i)))):=fun m h=>by
 refine h.CN hp (fun b hb=>.inl (.inr (by rcases hb with hb|hb; cases hb.1; exact hb))) (fun b hb=>.inl (.inr (by rcases hb with hb|hb; cases hb; exact hb))) (Nat.le_refl _) h.ext ⟨?_,fun _ b hb=>(h.get hp).2 rfl b hb⟩ fun _ _ _=>rfl
 obtain⟨h1,h2,h3,h4,h5⟩:=(h.get hp).1;refine⟨by rw[List.length_take]; omega,fun e he=>h2 e (List.mem_of_mem_take he),h3,by omega,?_⟩
 rcases h5 with h5|⟨b,jk,tg,rfl,h6,h7,h8,h9⟩
 ·exact .inl h5
 ·have e:es.flatten++jk=(es.take i).flatten++((es.drop i).flatten++jk):=by rw[←List.append_assoc,←List.flatten_append,List.take_append_drop]
  exact .inr ⟨b,(es.drop i).flatten++jk,tg,rfl,h6,by rw[←e]; exact h7,h8,by rw[←e]; exact h9⟩
theorem u7 {ys:List α} {hi:Int} {hx:Option Operand} {kd:IntKind} (ht:SlT E.P ty elem w) (hv:ev E fs x=some (.slice a l cap)) (e2:rD E fs hx=some (some (.int kd hi))) (hp:pk ps k=some (.gen (cR a cap w l (xs.map f)))) (hb:okB 0 hi l=true) (h0:0<l) (hys:xs.take hi.toNat=ys) :
  Od E m0 fs ps (.slice ty x none hx none) (.slice a ys.length cap) (cf ps k (.gen (cR a cap w ys.length (ys.map f)))) :=
 fun t m hf hm=>by
  subst hys;have hP:=(hm.get hp).1;obtain⟨h1,h2,h3,h4,h5⟩:=hP;obtain⟨_,b2,b3⟩:=uA hb;have hlen:(xs.take hi.toNat).length=hi.toNat:=by rw[List.length_take]; rw[List.length_map] at h1; omega
  rcases h5 with⟨_,h⟩|⟨b,jk,tg,rfl,h6,h7,h8,h9⟩
  ·omega
  ·refine⟨fun b' hb'=>?_,fun K hK=>?_⟩
   ·have:dB (.slice (some ⟨b,0,none⟩) l cap)=some b:=rfl;simp only[aE,hf.ev hv,Option.bind_some,this] at hb';cases hb'; exact h6
   ·have hbd:dq l cap none (some (.int kd hi)) none=some (0,hi.toNat,cap):=jG (Nat.zero_le _) (by omega) (.inl ⟨rfl,rfl⟩) (.inr ⟨kd,by rw[Int.toNat_of_nonneg b2]⟩)
    have hs:bK E.P ty (.slice (some ⟨b,0,none⟩) l cap) none (some (.int kd hi)) none m=some (.slice (some ⟨b,0,none⟩) hi.toNat cap):=by
     rcases h8 with rfl|rfl
     ·simp only[bK,ht.und,ht.known,if_true,h7,hbd,ht.size,Nat.zero_mul,Nat.add_zero,Nat.sub_zero,ite_self]
     ·simp only[bK,ht.und,ht.known,if_true,h7,hbd,ht.size,Nat.zero_mul,Nat.add_zero,Nat.sub_zero];rw[if_neg (by simp),if_neg (by omega)]
    rw[Go.Ab.rF (hf.ev hv) (hf.rD rfl) (hf.rD e2) (hf.rD rfl) hs,←hlen];refine hK m ?_;have:=ae.JI (m0:=m0) (i:=(xs.take hi.toNat).length) hp (by rw[hlen]; omega) m hm
    rwa[←List.map_take,show xs.take (xs.take hi.toNat).length=xs.take hi.toNat by rw[hlen]] at this
theorem w9 {P:Program} {ty2 n0 c0:Nat} {a0:Option Addr} {e0:List (List Value)} (ht:SlT P ty elem w) (h10:∃e1,P.underlying ty2=some (.slice e1)) (h:Hp m0 m ps) (hp:pk ps k=some (.gen (cR a cap w l es))) (hr:Rd m a0 c0 w n0 e0) (h7:∀e ∈ e0,e.length=w) (ho:gE e0) (hl:lim (l+n0)=true) :
  ∃a' cap' m',bF P ty (some ty2) (.slice a l cap) (.slice a0 n0 c0) m=some (.slice a' (l+n0) cap',m')∧Hp m0 m' (cf ps k (.gen (cR a' cap' w (l+n0) (es++e0)))):=by
 obtain⟨e1,h11⟩:=h10;obtain⟨inf,h12,h13,h14⟩:=ht.bytes;have hln:l+n0≤1073741824:=Nat.le_of_ble_eq_true hl;have hc:=hr.cells;have hlen2:e0.flatten.length=n0*w:=by rw[bE h7,hr.1]
 have hnew:eg P elem (some ty2) (.slice a0 n0 c0) m=some (n0,e0.flatten):=by
  simp only[eg,Option.bind_some,h11,ht.size];have:cj w (.slice a0 n0 c0) n0 m=some e0.flatten:=hc;rw[this]; rfl
 have hfit:(P.info? elem).any (fun i=>dC i.bytes (l+n0) && i.bytes != 0)=true:=by
  rw[h12];have hmul:(2*(l+n0)+2000)*inf.bytes≤(2*1073741824+2000)*1024:=Nat.mul_le_mul (by omega) h14
  simp only[Option.any_some,dC,Bool.and_eq_true,decide_eq_true_eq,bne_iff_ne,ne_eq];exact⟨by omega,h13⟩
 have hzero:(bz P elem).any (fun z=>z.cells.size == w && z.cells.toList.all aA)=true:=ht.zero;have hpos:=ht.pos;have h15:(w == 0)=false:=by simp; omega
 have hguard:(!(known P elem) || ar P elem == 0 || !aU e0.flatten || !(P.info? elem).any (fun i=>dC i.bytes (l+n0) && i.bytes != 0) || e0.flatten.length != n0*ar P elem || !(bz P elem).any (fun z=>z.cells.size == ar P elem && z.cells.toList.all aA))=false:=by
  rw[ht.size,ht.known,hfit,hzero,nh ho,h15,hlen2]; simp
 have hpc:=h.get hp;have hext:=h.ext;have hnew':∀{mm:AMem} {q:List (List Value)},q.length=l+n0→(∀e ∈ q,e.length=w)→(cR (some ⟨mm.next,0,none⟩) (l+n0) w (l+n0) q).P (mm.alloc (.cells q.flatten (.more w))):=fun {mm q} h0 h2 =>
  ⟨h0,h2,hpos,Nat.le_refl _,.inr ⟨mm.next,[],.more w,rfl,by rw[AMem.next_alloc]; omega,by rw[AMem.bg,if_pos rfl,List.append_nil],.inr rfl,by rw[List.append_nil,bE h2,h0]⟩⟩
 obtain⟨h0,h2,h18,h19,h16⟩:=hpc.1;have h3:(es++e0).length=l+n0:=by rw[List.length_append,h0,hr.1]
 have h4:∀e ∈ es++e0,e.length=w:=fun e he=>(List.mem_append.1 he).elim (h2 e) (h7 e);have hfl:es.flatten.length=l*w:=by rw[bE h2,h0]
 have o1:∀b,(Pc.gen (cR a cap w l es)).ow b↔nE a=some b:=fun b=>⟨fun hb=>by rcases hb with hb|hb; cases hb.1; exact hb,fun hb=>.inr hb⟩
 have fresh:∀{mm:AMem} {c':Nat},m.next≤mm.next→Ext m0 mm→(∀b,nE a≠some b→b<m.next→mm.get b=m.get b)→∀{o:AObj},(cR (some ⟨mm.next,0,none⟩) c' w (l+n0) (es++e0)).P (mm.alloc o)→Hp m0 (mm.alloc o) (cf ps k (.gen (cR (some ⟨mm.next,0,none⟩) c' w (l+n0) (es++e0)))):=fun {mm c'} hn he hg {o} hP =>
  h.CN hp (fun b hb=>.inr (by rcases hb with hb|hb; cases hb.1; cases hb; exact hn)) (fun b hb=>.inr (by rcases hb with hb|hb; cases hb; rcases hb with hb|hb; cases hb; exact hn; exact hb.elim)) (by rw[AMem.next_alloc]; omega) (he.alloc _) ⟨hP,fun _ b hb=>by cases hb; exact Nat.le_trans hext.next hn⟩ fun b hb hlt=>by
   rw[AMem.bg,if_neg (by omega)]; exact hg b (fun e=>hb ((o1 b).2 e)) hlt
 rcases h16 with⟨rfl,rfl⟩|⟨b,jk,tg,rfl,h17,h1,h6,h8⟩
 ·obtain rfl:l=0:=by omega
  obtain rfl:es = []:=List.length_eq_zero_iff.1 h0
  by_cases h5:n0=0
  ·subst h5;obtain rfl:e0 = []:=List.length_eq_zero_iff.1 hr.1;refine⟨none,0,m,?_,?_⟩
   ·unfold bF;simp only[ht.und,hnew];rw[if_neg (by rw[hguard]; exact Bool.false_ne_true)]
    rfl
   ·refine h.CN hp (fun b hb=>.inl (.inr (by rcases hb with hb|hb; cases hb.1; exact hb))) (fun b hb=>.inl (.inr (by rcases hb with hb|hb; cases hb; exact hb))) (Nat.le_refl _) h.ext ⟨⟨rfl,fun e he=>(by cases he),hpos,Nat.le_refl _,.inl ⟨rfl,rfl⟩⟩,fun _ b hb=>(by cases hb)⟩ fun _ _ _=>rfl
  ·refine⟨some ⟨m.next,0,none⟩,n0,m.alloc (.cells e0.flatten (.more w)),?_,?_⟩
   ·unfold bF;simp only[ht.und,hnew];rw[if_neg (by rw[hguard]; exact Bool.false_ne_true)]
    simp only[ht.size];rw[if_neg (by simp),if_neg h5,Nat.zero_add]
   ·have:=hnew' (mm:=m) (q:=[]++e0) h3 h4;rw[Nat.zero_add] at this ⊢;exact(by simpa using fresh (mm:=m) (c':=n0) (Nat.le_refl _) hext (fun _ _ _=>rfl) (by simpa using this))
 ·have hlo:=hpc.2 rfl b rfl
  by_cases hcap:l+n0≤cap
  ·have hjk:n0*w≤jk.length:=by
    rw[List.length_append,hfl] at h8;have:=Nat.mul_le_mul_right w hcap;rw[Nat.add_mul] at this;omega
   have hsp:aB (es.flatten++jk) (l*w) e0.flatten=(es++e0).flatten++jk.drop (n0*w):=by
    have e2:=jo es.flatten jk e0.flatten 0;rw[Nat.add_zero,hfl] at e2;rw[e2,List.flatten_append,List.append_assoc]
    congr 1
    refine List.ext_getElem? fun i=>?_;rw[bC,Nat.zero_add,Nat.sub_zero,List.getElem?_append,hlen2]
    by_cases hi:i<n0*w
    ·rw[if_pos ⟨Nat.zero_le _,hi,by omega⟩,if_pos hi]
    ·rw[if_neg (by omega),if_neg hi,List.getElem?_drop]
     congr 1; omega
   have hlenS:((es++e0).flatten++jk.drop (n0*w)).length=cap*w:=by
    rw[←hsp,bH,h8]
   by_cases hz:e0.flatten = []
   ·
    have h5:n0=0:=by
     rw[hz,List.length_nil] at hlen2;rcases Nat.mul_eq_zero.1 hlen2.symm with e|e
     ·exact e
     ·omega
    subst h5;obtain rfl:e0 = []:=List.length_eq_zero_iff.1 hr.1;refine⟨some ⟨b,0,none⟩,cap,m,?_,?_⟩
    ·unfold bF;simp only[ht.und,hnew];rw[if_neg (by rw[hguard]; exact Bool.false_ne_true)]
     simp only[h1];rw[if_pos hcap];simp[AMem.ca]
    ·rw[List.append_nil,Nat.add_zero];refine h.CN hp (fun b hb=>.inl hb) (fun b hb=>.inl hb) (Nat.le_refl _) h.ext hpc fun _ _ _=>rfl
   ·refine⟨some ⟨b,0,none⟩,cap,m.set b (.cells ((es++e0).flatten++jk.drop (n0*w)) tg),?_,?_⟩
    ·have hst:m.ca b (0+l*w) e0.flatten=some (m.set b (.cells ((es++e0).flatten++jk.drop (n0*w)) tg)):=by
      rw[Nat.zero_add,←hsp];have hfit':l*w+e0.flatten.length≤(es.flatten++jk).length:=by rw[hlen2,List.length_append,hfl]; omega
      cases h9:e0.flatten with
      | nil=>exact absurd h9 hz
      | cons v vs =>
       rw[h9] at hfit';rcases h6 with rfl|rfl<;>simp only[AMem.ca,h1]<;>rw[if_pos hfit']
     unfold bF;simp only[ht.und,hnew];rw[if_neg (by rw[hguard]; exact Bool.false_ne_true)]
     simp only[h1,ht.size];rw[if_pos hcap,hst]; rfl
    ·refine h.CN hp (fun b' hb=>.inl (by rcases hb with hb|hb; cases hb.1; exact .inr hb)) (fun b' hb=>.inl (by rcases hb with hb|hb; cases hb; exact .inr hb)) (by rw[AMem.next_set]; exact Nat.le_refl _) (hext.set hlo _) ⟨⟨h3,h4,hpos,hcap,.inr ⟨b,jk.drop (n0*w),tg,rfl,by rw[AMem.next_set]; exact h17,by rw[AMem.bt,if_pos rfl],h6,hlenS⟩⟩,fun _ b' hb=>by cases hb; exact hlo⟩ fun b' hb hlt=>?_
     rw[AMem.bt,if_neg (fun e=>hb ((o1 b').2 (by rw[e]; rfl)))]
  ·have htake:(es.flatten++jk).take (l*w)=es.flatten:=by rw[List.take_append_of_le_length (by omega),List.take_of_length_le (by omega)]
   rcases h6 with rfl|rfl
   ·refine⟨some ⟨m.next,0,none⟩,l+n0,m.alloc (.cells (es.flatten++e0.flatten) (.more w)),?_,?_⟩
    ·unfold bF;simp only[ht.und,hnew];rw[if_neg (by rw[hguard]; exact Bool.false_ne_true)]
     simp only[ht.size,h1];rw[if_neg hcap];have hld:m.cz b 0 (l*w)=some es.flatten:=by
      simp only[AMem.cz,h1,List.drop_zero,htake];rw[if_pos hfl]
     simp only[hld]
    ·have:=hnew' (mm:=m) h3 h4;rw[List.flatten_append] at this;exact fresh (Nat.le_refl _) hext (fun _ _ _=>rfl) this
   ·refine⟨some ⟨(m.kill b).next,0,none⟩,l+n0,(m.kill b).alloc (.cells (es.flatten++e0.flatten) (.more w)),?_,?_⟩
    ·unfold bF;simp only[ht.und,hnew];rw[if_neg (by rw[hguard]; exact Bool.false_ne_true)]
     simp only[ht.size,h1];rw[if_neg hcap];simp only[and_self,if_true,htake,hfl,AMem.next_kill]
    ·have hk:Ext m0 (m.kill b):=⟨by rw[AMem.next_kill]; exact hext.next,fun x hx=>by rw[AMem.dF,if_neg (by omega)]; exact hext.same x hx,by
      rw[AMem.wl_kill];have:=hext.wl; omega⟩
     have:=hnew' (mm:=m.kill b) h3 h4;rw[List.flatten_append] at this;exact fresh (by rw[AMem.next_kill]; exact Nat.le_refl _) hk (fun b' hb' hlt=>by rw[AMem.dF,if_neg (fun e=>hb' (by rw[e]; rfl))]) this
theorem Co {ty2 c0 l2:Nat} {a0:Option Addr} {ys:List α} {ars:Array Operand} (he:Enc f w) (ht:SlT E.P ty elem w) (h2:∃e0,E.P.underlying ty2=some (.slice e0)) (ha:jK E fs ars.toList=some [.slice a l cap,.slice a0 l2 c0]) (hp:pk ps k=some (.gen (cR a cap w l (xs.map f)))) (hr:∀m,Hp m0 m ps→Rd m a0 c0 w l2 (ys.map f)) (hl:lim (xs++ys).length=true) :
  Ox E m0 fs ps (.call ⟨.builtin .append,ars,#[ty,ty2]⟩) (fun r:Option Addr × Nat=>.slice r.1 (xs++ys).length r.2) (fun r=>cf ps k (.gen (cR r.1 r.2 w (xs++ys).length ((xs++ys).map f)))):=by
 intro t m hf hm;have h0:l=xs.length:=by have:=(hm.get hp).1.1; rw[List.length_map] at this; exact this.symm
 have h1:l2=ys.length:=by have:=(hr m hm).1; rw[List.length_map] at this; exact this.symm
 refine⟨fun b hb=>(by simp[aE] at hb),fun K hK=>?_⟩
 obtain⟨a',cap',m',g0,g1⟩:=w9 ht h2 hm hp (hr m hm) (he.yd ys) (he.gE ys) (by rw[h0,h1,←List.length_append]; exact hl)
 have e1:xs.map f++ys.map f=(xs++ys).map f:=List.map_append.symm;have e0:l+l2=(xs++ys).length:=by rw[h0,h1,List.length_append]
 rw[e1,e0] at g1;rw[e0] at g0;have:aH E.P .append #[ty,ty2] [.slice a l cap,.slice a0 l2 c0] m=some (.slice a' (xs++ys).length cap',m'):=g0;rw[Go.Ab.eG (hf.jK ha) this];exact hK (a',cap') m' g1
end
section
variable {E : Env} {n : Nat} {m0 : AMem} {fs : Fs} {ps : List Pc} {ops : Array Oper} {os : List Oper} {K : Tm → AMem → Prop} {dr : Bool}
theorem Wo.vp {k cap w l:Nat} {a:Option Addr} {es:List (List Value)} (hp:pk ps k=some (.gen (cR a cap w l es))) (hl:0<l) (h:∀b,a=some ⟨b,0,none⟩→Wo dr E n ops K os m0 fs ps):Wo dr E n ops K os m0 fs ps:=by
 have key:∀m,Hp m0 m ps→∃b,a=some ⟨b,0,none⟩:=by
  intro m hm;obtain⟨_,_,_,h4,h5⟩:=(hm.get hp).1;rcases h5 with⟨_,h⟩|⟨b,_,_,h,_⟩
  ·omega
  ·exact⟨b,h⟩
 cases dr with
 | false=>intro t m hf hm; obtain⟨b,h1⟩:=key m hm; exact h b h1 t m hf hm
 | true=>intro t m w' hf hm hw; obtain⟨b,h1⟩:=key m hm; exact h b h1 t m w' hf hm hw
end
def II {α:Type}:List α→Option (α × α × α × α)
 | [a,b,c,d]=>some (a,b,c,d)
 | _=>none
theorem ux {α:Type} {xs:List α} {a b c d:α} (hx:II xs=some (a,b,c,d)):xs = [a,b,c,d]:=by
 unfold II at hx
 split at hx
 ·cases hx; rfl
 ·cases hx
section
variable {E : Env} {n : Nat} {m0 m : AMem} {fs : Fs} {ps : List Pc} {x y : Operand} {ty : TypeId} {v : Value}
theorem BY {elem b w l k:Nat} {lo:Int} {es:List (List Value)} {tg:Tag} {lx:Option Operand} {kd:IntKind} (ht:SlT E.P ty elem w) (hx:ev E fs x=some (.slice (some ⟨b,0,none⟩) l l)) (e1:rD E fs lx=some (some (.int kd lo))) (hp:pk ps k=some (.arr b w l es tg)) (h:0≤lo∧lo.toNat<l) :
  Od E m0 fs ps (.slice ty x lx none none) (.slice (some ⟨b,lo.toNat*w,none⟩) (l-lo.toNat) (l-lo.toNat)) ps :=
 Hj (L:=lo.toNat) ht hx (by rw[Int.toNat_of_nonneg h.1]; exact e1) hp h.2 rfl
theorem nw (z:List Value):∀n,bM z n=(List.replicate n z).flatten
 | 0=>rfl
 | n+1=>by rw[List.replicate_succ,List.flatten_cons,←nw z n]; rfl
theorem pG:∀{cs vs:List Value},cs.length=vs.length→aB cs 0 vs=vs
 | [],[],_=>rfl
 | c::cs,v::vs,h=>by simp only[aB]; rw[pG (by simpa using h)]
theorem FU {elem b w l c k o:Nat} {lo:Int} {z:Value} {zs:List Value} {es:List (List Value)} {tg:Tag} {ars:Array Operand} (ht:SlT E.P ty elem w) (ha:jK E fs ars.toList=some [.slice (some ⟨b,o,none⟩) (l-lo.toNat) c]) (ho:lo.toNat*w=o) (hp:pk ps k=some (.arr b w l es tg)) (h:0≤lo∧lo.toNat<l)
  (hz:bz E.P elem=some z) (hzs:z.cells.toList=zs) (hzp:zs.all aA=true) (hzl:Nat.beq zs.length w=true) :
  Od E m0 fs ps (.call ⟨.builtin .clear,ars,#[ty]⟩) undef (cf ps k (.arr b w l (es.take lo.toNat++List.replicate (l-lo.toNat) zs) tg)) :=
 fun t m hf hm=>⟨fun b' hb'=>by simp[aE] at hb',fun K hK=>by
  obtain⟨g1,g2,hg,g4,g5,g6,g7⟩:=hm.get hp;have hzl:=Nat.eq_of_beq_eq_true hzl;subst ho;have hsz:z.cells.size=ar E.P elem:=by rw[ht.size,←hzl,←hzs]; simp
  have hza:ek E.P elem (l-lo.toNat)=some (List.replicate (l-lo.toNat) zs).flatten:=by
   unfold ek;rw[hz];simp only[hsz,if_true,hzs,nw]
  have hrl:(List.replicate (l-lo.toNat) zs).flatten.length=(l-lo.toNat)*w:=by rw[bE (w:=w) (fun e he=>by rw[List.eq_of_mem_replicate he,hzl]),List.length_replicate]
  have htk:(es.take lo.toNat).flatten.length=lo.toNat*w:=by rw[bE (fun e he=>g5 e (List.mem_of_mem_take he)),List.length_take,g4,Nat.min_eq_left (by omega)]
  have hdr:(es.drop lo.toNat).flatten.length=(l-lo.toNat)*w:=by rw[bE (fun e he=>g5 e (List.mem_of_mem_drop he)),List.length_drop,g4]
  have hsp:aB es.flatten (lo.toNat*w) (List.replicate (l-lo.toNat) zs).flatten=(es.take lo.toNat++List.replicate (l-lo.toNat) zs).flatten:=by
   have e1:es.flatten=(es.take lo.toNat).flatten++(es.drop lo.toNat).flatten:=by rw[←List.flatten_append,List.take_append_drop]
   have:=jo (es.take lo.toNat).flatten (es.drop lo.toNat).flatten (List.replicate (l-lo.toNat) zs).flatten 0;rw[Nat.add_zero,htk] at this;rw[e1,this,pG (by rw[hdr,hrl]),List.flatten_append]
  have hlen:lo.toNat*w+(List.replicate (l-lo.toNat) zs).flatten.length≤es.flatten.length:=by
   rw[hrl,bE g5,g4,←Nat.add_mul]; exact Nat.mul_le_mul_right w (by omega)
  have hst:m.ca b (lo.toNat*w) (List.replicate (l-lo.toNat) zs).flatten=some (m.set b (.cells (es.take lo.toNat++List.replicate (l-lo.toNat) zs).flatten tg)):=by
   rw[←hsp];cases hc:(List.replicate (l-lo.toNat) zs).flatten with
   | nil =>
    rw[hc] at hrl;have:0<(l-lo.toNat)*w:=Nat.mul_pos (by omega) g7
    simp at hrl;omega
   | cons a' new =>
    rw[hc] at hlen;rcases g6 with rfl|rfl<;>simp only[AMem.ca,hg]<;>rw[if_pos hlen]
  obtain⟨q,hq⟩:=Nat.exists_eq_succ_of_ne_zero (show l-lo.toNat≠0 by omega)
  have hpl:((List.replicate (l-lo.toNat) zs).flatten).all aA=true:=by
   rw[List.all_eq_true];intro u hu;obtain⟨e,h1,h2⟩:=List.mem_flatten.1 hu;rw[List.eq_of_mem_replicate h1] at h2;exact List.all_eq_true.1 hzp u h2
  have:aH E.P .clear #[ty] [.slice (some ⟨b,lo.toNat*w,none⟩) (l-lo.toNat) c] m=some (undef,m.set b (.cells (es.take lo.toNat++List.replicate (l-lo.toNat) zs).flatten tg)):=by
   have hty:(#[ty]:Array TypeId)[0]? = some ty:=rfl;rw[hq] at hza hpl hst ⊢;simp only[aH,hty,tl,ht.und,hza,hpl,if_true,hst,Option.map_some]
   rfl
  rw[Go.Ab.eG (hf.jK ha) this];refine hK _ (hm.write hp rfl rfl rfl rfl ⟨g1,by rw[AMem.next_set]; exact g2,by rw[AMem.bt,if_pos rfl],?_,fun e he=>?_,g6,g7⟩)
  ·rw[List.length_append,List.length_take,List.length_replicate,g4]; omega
  ·rcases List.mem_append.1 he with he|he
   ·exact g5 e (List.mem_of_mem_take he)
   ·rw[List.eq_of_mem_replicate he,hzl]⟩
theorem Ge {α:Type} {f:α→List Value} {z0:α} {xs:List α} {elem b w l c k o:Nat} {lo:Int} {z:Value} {tg:Tag} {ars:Array Operand} (ht:SlT E.P ty elem w) (ha:jK E fs ars.toList=some [.slice (some ⟨b,o,none⟩) (l-lo.toNat) c]) (ho:lo.toNat*w=o) (hp:pk ps k=some (.arr b w l (xs.map f) tg)) (h:0≤lo∧lo.toNat<l)
  (hz:bz E.P elem=some z) (hzs:z.cells.toList=f z0) (hzp:(f z0).all aA=true) (hzl:Nat.beq (f z0).length w=true) :
  Od E m0 fs ps (.call ⟨.builtin .clear,ars,#[ty]⟩) undef (cf ps k (.arr b w l ((xs.take lo.toNat++List.replicate (l-lo.toNat) z0).map f) tg)):=by
 have:=FU (m0:=m0) ht ha ho hp h hz hzs hzp hzl;rwa[←List.map_take,←List.map_replicate,←List.map_append] at this
theorem AS {α:Type} {f:α→List Value} {ag:Bool} {sz b w l j c k cap:Nat} {xs:List α} {x1 x2:α} (ht:TyI E.P ty ag sz) (hx:ev E fs x=some (ptr b (j*w+c))) (hy:ev E fs y=some v) (hp:pk ps k=some (.gen (cR (some ⟨b,0,none⟩) cap w l (xs.map f)))) (he:xs[j]? = some x1) (hv:Ah (f x1) c v sz=some (f x2)) :
  Od E m0 fs ps (.store ty x y) undef (cf ps k (.gen (cR (some ⟨b,0,none⟩) cap w l ((xs.set j x2).map f)))):=by
 refine .store hx hy fun m h=>?_;obtain⟨g1,g2,g3,g4,g5⟩:=(h.get hp).1;have hlo:=(h.get hp).2 rfl b rfl;rcases g5 with⟨hh,_⟩|⟨b',jk,tg,hh,h6,h7,h8,h9⟩
 ·cases hh
 ·cases hh;have hes:=aQ (f:=f) he;simp only[Ah] at hv
  split at hv
  ·rename_i e1;have hv:=Option.some.inj hv;simp only[Bool.and_eq_true] at e1;obtain⟨⟨⟨h1,h2⟩,h3⟩,h4⟩:=e1;have h1:=Nat.eq_of_beq_eq_true h1;have h4:=Nat.le_of_ble_eq_true h4;have hw1:=g2 _ (List.mem_of_getElem? hes);have hj:j<(xs.map f).length:=(List.getElem?_eq_some_iff.1 hes).1;have hmul:(j+1)*w≤(xs.map f).length*w:=Nat.mul_le_mul_right w hj;rw[Nat.succ_mul] at hmul;have hfl:=bE g2;have hst:Ah ((xs.map f).flatten++jk) (j*w+c) v sz=some (aB ((xs.map f).flatten++jk) (j*w+c) v.cells.toList):=by
    have:(Nat.beq v.cells.toList.length sz && Nat.blt 0 sz && aU v.cells.toList && Nat.ble (j*w+c+sz) ((xs.map f).flatten++jk).length)=true:=by
     simp only[Bool.and_eq_true];exact⟨⟨⟨by rw[h1]; exact Nat.beq_refl _,h2⟩,h3⟩,Nat.ble_eq_true_of_le (by rw[List.length_append,hfl]; omega)⟩
    simp only[Ah,this]
   have hsp:aB ((xs.map f).flatten++jk) (j*w+c) v.cells.toList=((xs.set j x2).map f).flatten++jk:=by
    rw[pz _ _ _ _ (by rw[hfl,h1]; omega),nk g2 hes (by omega),hv,List.map_set]
   refine⟨_,pK ht h7 (by rcases h8 with rfl|rfl<;>simp) hst,?_⟩
   rw[hsp];refine h.CN hp (fun b' hb=>.inl (.inr (by rcases hb with hb|hb; cases hb.1; exact hb))) (fun b' hb=>.inl (by rcases hb with hb|hb; cases hb; exact .inr hb)) (by rw[AMem.next_set]; exact Nat.le_refl _) (h.ext.set hlo _) ⟨⟨by simpa using g1,fun e he'=>?_,g3,g4,.inr ⟨b,jk,tg,rfl,by rw[AMem.next_set]; exact h6,by rw[AMem.bt,if_pos rfl],h8,?_⟩⟩,fun _ b' hb=>by cases hb; exact hlo⟩ fun b' hb hlt=>?_
   ·rw[←yk] at he';rcases List.mem_or_eq_of_mem_set he' with h5|h5
    ·exact g2 _ h5
    ·rw[h5,←hv,dZ _ _ _ (by omega)]; exact hw1
   ·rw[←hsp,bH]; exact h9
   ·rw[AMem.bt,if_neg (fun e=>hb (.inr (by rw[e]; rfl)))]
  ·cases hv
end
end Go.Ab.W
end

section
namespace Go.Proofs.YthmekkhpddehjaaGreat
open Go Go.Ab Go.Ab.W
set_option maxRecDepth 10000
def IB (_:Nat) (l:List (Int × Int)):Option (List (Int × Int)):=gd (lim l.length) (some (l.mergeSort cF))
def tL (n:Nat) (l1:List (Int × Int)):Int→Option ((Int) ⊕ ((Int) ⊕ (Unit))):=fun v0 =>
br (decide (v0<(l1.length:Int))) (
gd (bJ v0 l1.length) (
ob (l1[v0.toNat]?) fun(x3,x4) =>
ob (BB n x3 x4) fun r0 =>
br (r0) (
some (.inr (.inl v0))) (
some (.inl (IntKind.wrap .i64 (v0+1)))))) (
some (.inr (.inr ())))
def pZ (_:Nat) (l3:List (Int × Int)) (v1:Int):(List (Int × Int) × Int × Int)→Option ((List (Int × Int) × Int × Int) ⊕ (List (Int × Int) × Int)):=fun(l2,v2,v0) =>
br (decide (v0<((l3.length-v1.toNat:Nat):Int))) (
ob (
gd (bJ v0 (l3.length-v1.toNat:Nat)) (
ob (l2[(v1.toNat+v0.toNat)]?) fun(x3,x4) =>
gd (bJ (IntKind.wrap .i64 (v0-1)) (l3.length-v1.toNat:Nat)) (
ob (l2[(v1.toNat+(IntKind.wrap .i64 (v0-1)).toNat)]?) fun(x10,x11) =>
br (!(decide (x3=x10) && decide (x4=x11))) (
gd (bJ v0 (l3.length-v1.toNat:Nat)) (
gd (bJ v2 l3.length) (
ob (l2[v2.toNat]?) fun(_,_) =>
some ((l2.set v2.toNat (x3,x4)),IntKind.wrap .i64 (v2+1))))) (
some (l2,v2))))) fun(l4,v3) =>
some (.inl (l4,v3,IntKind.wrap .i64 (v0+1)))) (
some (.inr (l2,v2)))
def ll (n:Nat) (l2:List (Int × Int)) (l3:List (Int × Int)):Int→Option ((Int) ⊕ ((List (Int × Int)) ⊕ (Unit))):=fun v0 =>
br (decide (v0<(l2.length:Int))) (
gd (bJ v0 l2.length) (
ob (l3[v0.toNat]?) fun(x3,x4) =>
gd (bJ (IntKind.wrap .i64 (v0-1)) l2.length) (
ob (l3[(IntKind.wrap .i64 (v0-1)).toNat]?) fun(x10,x11) =>
br ((decide (x3=x10) && decide (x4=x11))) (
gd (bJ v0 l2.length) (
ob (
bT (pZ n l2 v0) n (l3,v0,1)) fun(l4,v1) =>
gd (bJ v1 l2.length) (
gd (okB 0 v1 l2.length) (
gd (decide (0<l2.length)) (
ob (some ((l4.take v1.toNat++List.replicate (l2.length-v1.toNat) (0,0)).take (v1:Int).toNat)) fun l6 =>
some (.inr (.inl l6))))))) (
some (.inl (IntKind.wrap .i64 (v0+1))))))) (
some (.inr (.inr ())))
def mW (n:Nat) (x3:Int) (x4:Int):(List (Int × Int))→Option ((List (Int × Int)) ⊕ (List (Int × Int))):=fun l2 =>
ob (
br (decide (1<(l2.length:Int))) (
gd (bJ (IntKind.wrap .i64 ((l2.length:Int)-2)) l2.length) (
ob (l2[(IntKind.wrap .i64 ((l2.length:Int)-2)).toNat]?) fun(x10,x11) =>
gd (bJ (IntKind.wrap .i64 ((l2.length:Int)-1)) l2.length) (
ob (l2[(IntKind.wrap .i64 ((l2.length:Int)-1)).toNat]?) fun(x12,x16) =>
ob (yS n x10 x11 x12 x16 x3 x4) fun r0 =>
some (decide (r0≤0))))) (
some false)) fun v0 =>
br (v0) (
gd (okB 0 (IntKind.wrap .i64 ((l2.length:Int)-1)) l2.length) (
gd (decide (0<l2.length)) (
ob (some (l2.take (IntKind.wrap .i64 ((l2.length:Int)-1):Int).toNat)) fun l3 =>
some (.inl l3)))) (
some (.inr l2))
def qO (n:Nat) (n0:Nat) (l4:List (Int × Int)):(List (Int × Int) × Int)→Option ((List (Int × Int) × Int) ⊕ (List (Int × Int))):=fun(l2,v0) =>
br (decide (v0<(n0:Int))) (
gd (bJ v0 n0) (
ob (l4[v0.toNat]?) fun(x3,x4) =>
ob (
bT (mW n x3 x4) n l2) fun l3 =>
gd (lim (l3++[(x3,x4)]).length) (
some (.inl ((l3++[(x3,x4)]),IntKind.wrap .i64 (v0+1)))))) (
some (.inr l2))
def q9 (_:Nat) (n0:Nat):(List (Int × Int) × Int × Int)→Option ((List (Int × Int) × Int × Int) ⊕ (List (Int × Int))):=fun(l2,v0,v1) =>
br (decide (v0<v1)) (
gd (bJ v1 n0) (
ob (l2[v1.toNat]?) fun(x3,x4) =>
gd (bJ v0 n0) (
ob (l2[v0.toNat]?) fun(x10,x11) =>
gd (bJ v0 n0) (
gd (bJ v1 n0) (
ob ((l2.set v0.toNat (x3,x4))[v1.toNat]?) fun(_,_) =>
some (.inl (((l2.set v0.toNat (x3,x4)).set v1.toNat (x10,x11)),IntKind.wrap .i64 (v0+1),IntKind.wrap .i64 (v1-1)))))))) (
some (.inr l2))
def E0 (n:Nat) (x3:Int) (x4:Int):(List (Int × Int))→Option ((List (Int × Int)) ⊕ (List (Int × Int))):=fun l2 =>
ob (
br (decide (1<(l2.length:Int))) (
gd (bJ (IntKind.wrap .i64 ((l2.length:Int)-2)) l2.length) (
ob (l2[(IntKind.wrap .i64 ((l2.length:Int)-2)).toNat]?) fun(x10,x11) =>
gd (bJ (IntKind.wrap .i64 ((l2.length:Int)-1)) l2.length) (
ob (l2[(IntKind.wrap .i64 ((l2.length:Int)-1)).toNat]?) fun(x12,x16) =>
ob (yS n x10 x11 x12 x16 x3 x4) fun r0 =>
some (decide (r0≤0))))) (
some false)) fun v0 =>
br (v0) (
gd (okB 0 (IntKind.wrap .i64 ((l2.length:Int)-1)) l2.length) (
gd (decide (0<l2.length)) (
ob (some (l2.take (IntKind.wrap .i64 ((l2.length:Int)-1):Int).toNat)) fun l3 =>
some (.inl l3)))) (
some (.inr l2))
def qB (n:Nat) (n0:Nat) (l4:List (Int × Int)):(List (Int × Int) × Int)→Option ((List (Int × Int) × Int) ⊕ (List (Int × Int))):=fun(l2,v0) =>
br (decide (v0<(n0:Int))) (
gd (bJ v0 n0) (
ob (l4[v0.toNat]?) fun(x3,x4) =>
ob (
bT (E0 n x3 x4) n l2) fun l3 =>
gd (lim (l3++[(x3,x4)]).length) (
some (.inl ((l3++[(x3,x4)]),IntKind.wrap .i64 (v0+1)))))) (
some (.inr l2))
def HM (n:Nat) (l1:List (Int × Int)):Option (List (Int × Int) × Int) :=
br (decide (200<(l1.length:Int))) (
some ([],3)) (
ob (
ob (
ob (α:=(Int) ⊕ (Unit)) (
bT (tL n l1) n 0) fun r0=>match r0 with
| .inl v0 =>
some v0
| .inr _ =>
some (-1)) fun v1 =>
some (decide (0≤v1))) fun v2 =>
br (v2) (
some ([],2)) (
ob (IG n l1) fun l4 =>
ob (IB n l4) fun l6 =>
ob (
br (decide ((l4.length:Int)<2)) (
some (l6,l4.length)) (
ob (α:=(List (Int × Int)) ⊕ (Unit)) (
bT (ll n l4 l6) n 1) fun r1=>match r1 with
| .inl l9 =>
some (l9,l9.length)
| .inr _ =>
some (l6,l4.length))) fun(l10,n0) =>
ob (
ob (
bT (qO n n0 l10) n (([]:List (Int × Int)),0)) fun l11 =>
some l11) fun l2 =>
ob (
ob (
bT (q9 n n0) n (l10,0,IntKind.wrap .i64 ((n0:Int)-1))) fun l12 =>
some l12) fun l13 =>
ob (
ob (
bT (qB n n0 l13) n (([]:List (Int × Int)),0)) fun l14 =>
some l14) fun l3 =>
ob (
br (decide ((l2.length:Int)<2)) (
some true) (
some (decide (IntKind.wrap .i64 ((l2.length:Int)+(l3.length:Int))<5)))) fun v3 =>
br (v3) (
some ([],4)) (
gd (okB 0 (IntKind.wrap .i64 ((l2.length:Int)-1)) l2.length) (
gd (decide (0<l2.length)) (
ob (some (l2.take (IntKind.wrap .i64 ((l2.length:Int)-1):Int).toNat)) fun l7 =>
gd (okB 0 (IntKind.wrap .i64 ((l3.length:Int)-1)) l3.length) (
gd (decide (0<l3.length)) (
ob (some (l3.take (IntKind.wrap .i64 ((l3.length:Int)-1):Int).toNat)) fun l8 =>
gd (lim (l7++l8).length) (
br (decide (40<((l7++l8).length:Int))) (
some ([],3)) (
some ((l7++l8),0))))))))))
def Iw (_:Nat) (x1:Int) (x2:Int) (x3:Int) (x4:Int):Option (Bool) :=
br (decide (x1<x3)) (
some true) (
br (decide (x1=x3)) (
some (decide (x2<x4))) (
some false))
def pN (n:Nat) (l1:List (Int × Int)):(Int × Int)→Option ((Int × Int) ⊕ ((Unit) ⊕ (Int))):=fun(v8,v9) =>
br (decide (v9<(l1.length:Int))) (
ob (α:=(Unit) ⊕ (Int)) (
gd (bJ v9 l1.length) (
ob (l1[v9.toNat]?) fun(x73,x74) =>
ob (Cc n x73 x74) fun r77 =>
br (r77) (
some (.inl ())) (
gd (bJ v9 l1.length) (
gd (bJ v8 l1.length) (
ob (l1[v8.toNat]?) fun(x81,x82) =>
ob (Iw n x73 x74 x81 x82) fun r85 =>
br (r85) (
some (.inr v9)) (
some (.inr v8))))))) fun r88=>match r88 with
| .inl _ =>
some (.inr (.inl ()))
| .inr v69 =>
some (.inl (v69,IntKind.wrap .i64 (v9+1)))) (
some (.inr (.inr v8)))
def uI (n:Nat) (l1:List (Int × Int)) (v1:Int) (v2:Int):(Bool × Int)→Option ((Bool × Int) ⊕ (Bool)):=fun(v3,v0) =>
br (decide (v0<(l1.length:Int))) (
ob (
br (v3) (
gd (bJ v1 l1.length) (
ob (l1[v1.toNat]?) fun(x3,x4) =>
gd (bJ v2 l1.length) (
ob (l1[v2.toNat]?) fun(x10,x11) =>
gd (bJ v0 l1.length) (
ob (l1[v0.toNat]?) fun(x12,x16) =>
ob (xD n x3 x4 x10 x11 x12 x16) fun r0 =>
some (decide (r0=0)))))) (
some false)) fun v4 =>
some (.inl (v4,IntKind.wrap .i64 (v0+1)))) (
some (.inr v3))
def nj (n:Nat) (l1:List (Int × Int)) (v2:Int):(Bool × Int)→Option ((Bool × Int) ⊕ (Bool)):=fun(v1,v0) =>
br (decide (v0<(l1.length:Int))) (
ob (
bT (uI n l1 v2 v0) n (v1,0)) fun v3 =>
some (.inl (v3,IntKind.wrap .i64 (v0+1)))) (
some (.inr v1))
def pO (n:Nat) (l1:List (Int × Int)) (x3:Int) (x4:Int):(Int × Int × Int)→Option ((Int × Int × Int) ⊕ (Int × Int)):=fun(v1,v2,v0) =>
br (decide (v0<(l1.length:Int))) (
ob (
gd (bJ v0 l1.length) (
ob (l1[v0.toNat]?) fun(x10,x11) =>
ob (xD n x3 x4 v1 v2 x10 x11) fun r0 =>
ob (
br ((decide (v1=x3) && decide (v2=x4))) (
some true) (
br (decide (r0<0)) (
some true) (
br (decide (r0=0)) (
gd (bJ v0 l1.length) (
ob (GU n x3 x4 v1 v2 x10 x11) fun r1 =>
some (decide (0<r1)))) (
some false)))) fun v3 =>
br (v3) (
gd (bJ v0 l1.length) (
some (x10,x11))) (
some (v1,v2)))) fun(v4,v5) =>
some (.inl (v4,v5,IntKind.wrap .i64 (v0+1)))) (
some (.inr (v1,v2)))
def vi (n:Nat) (l1:List (Int × Int)):(List (Int × Int) × Nat)→Option ((List (Int × Int) × Nat) ⊕ (List (Int × Int) × Nat)):=fun(l2,n0) =>
gd (bJ (IntKind.wrap .i64 ((n0:Int)-1)) n0) (
ob (l2[(IntKind.wrap .i64 ((n0:Int)-1)).toNat]?) fun(x3,x4) =>
ob (
bT (pO n l1 x3 x4) n (x3,x4,0)) fun(v0,v1) =>
gd (bJ 0 n0) (
ob (l2[(0:Int).toNat]?) fun(x10,x11) =>
br ((decide (v0=x10) && decide (v1=x11))) (
some (.inr (l2,n0))) (
gd (lim (l2++[(v0,v1)]).length) (
some (.inl ((l2++[(v0,v1)]),(l2++[(v0,v1)]).length))))))
def G5 (n:Nat) (l1:List (Int × Int)):Option (List (Int × Int) × Int) :=
br (decide (200<(l1.length:Int))) (
some ([],3)) (
ob (α:=(Unit) ⊕ (Int)) (
bT (pN n l1) n (0,0)) fun r0=>match r0 with
| .inl _ =>
some ([],2)
| .inr v0 =>
ob (
bT (nj n l1 v0) n (true,0)) fun v1 =>
br (v1) (
some ([],4)) (
gd (bJ v0 l1.length) (
ob (l1[v0.toNat]?) fun(x3,x4) =>
ob (
bT (vi n l1) n ([(x3,x4)],1)) fun(l2,n0) =>
br (decide (40<(n0:Int))) (
some ([],3)) (
some (l2,0)))))
def Gm (n:Nat) (x1:Int) (x2:Int) (x3:Int) (x4:Int) (x5:Int) (x6:Int) (x7:Int) (x8:Int):Option (Int × Int) :=
ob (
ob (Cc n x1 x2) fun r58 =>
br (r58) (
some true) (
ob (Cc n x3 x4) fun r61 =>
br (r61) (
some true) (
ob (Cc n x5 x6) fun r64 =>
br (r64) (
some true) (
ob (Cc n x7 x8) fun r67 =>
br (r67) (
some true) (
br ((decide (x1=x3) && decide (x2=x4))) (
some true) (
some (decide (x5=x7) && decide (x6=x8)))))))) fun v56 =>
br (v56) (
some (0,2)) (
ob (GX n x1 x2 x3 x4 x5 x6 x7 x8) fun r74 =>
some (r74,0))
def zA (_:Nat) (l5:List (Int × Int)):(List (Int × Int) × Int)→Option ((List (Int × Int) × Int) ⊕ (List (Int × Int))):=fun(l48,v50) =>
br (decide (v50<(((l5.drop (0:Int).toNat).take ((mi (l5.length:Int) (30:Int):Int).toNat-(0:Int).toNat)).length:Int))) (
gd (bJ v50 (((l5.drop (0:Int).toNat).take ((mi (l5.length:Int) (30:Int):Int).toNat-(0:Int).toNat)).length)) (
ob (((l5.drop (0:Int).toNat).take ((mi (l5.length:Int) (30:Int):Int).toNat-(0:Int).toNat))[v50.toNat]?) fun(x71,x72) =>
gd (lim (l48++[(IntKind.wrap .i64 x71,IntKind.wrap .i64 x72)]).length) (
some (.inl ((l48++[(IntKind.wrap .i64 x71,IntKind.wrap .i64 x72)]),IntKind.wrap .i64 (v50+1)))))) (
some (.inr l48))
def tC (_:Nat) (x26:Nat):(List (Int × Int))→Option ((List (Int × Int)) ⊕ (List (Int × Int))):=fun l89 =>
br (decide ((l89.length:Int)<IntKind.wrap .i64 (190+(IntKind.wrap .i64 ((x26%20:Nat):Int))))) (
gd (lim (l89++[(Int.tmod (l89.length:Int) 14,IntKind.wrap .i64 (Int.tdiv (l89.length:Int) 14))]).length) (
some (.inl (l89++[(Int.tmod (l89.length:Int) 14,IntKind.wrap .i64 (Int.tdiv (l89.length:Int) 14))])))) (
some (.inr l89))
def zk (_:Nat) (x26:Nat):(List (Int × Int) × Int)→Option ((List (Int × Int) × Int) ⊕ (List (Int × Int))):=fun(l2,v0) =>
br (decide (v0<IntKind.wrap .i64 (30+(IntKind.wrap .i64 ((x26%20:Nat):Int))))) (
gd (lim (l2++[(v0,IntKind.wrap .i64 (v0*v0))]).length) (
some (.inl ((l2++[(v0,IntKind.wrap .i64 (v0*v0))]),IntKind.wrap .i64 (v0+1))))) (
some (.inr l2))
def BZ (n:Nat) (l1:List (Int × Int)) (l2:List (Int × Int)) (l4:List (Int × Int)) (l6:List (Int × Int)) (l7:List (Int × Int)):Int→Option ((Int) ⊕ ((Unit) ⊕ (Unit))):=fun v0 =>
br (decide (v0<6)) (
gd (bJ v0 6) (
ob ([((l1.drop (0:Int).toNat).take ((mi (l1.length:Int) (20:Int):Int).toNat-(0:Int).toNat)),l2,l4,((([]:List (Int × Int))++l2)++((l1.drop (0:Int).toNat).take ((mi (l1.length:Int) (20:Int):Int).toNat-(0:Int).toNat))),l6,l7][v0.toNat]?) fun l3 =>
ob (HM n l3) fun(l8,r0) =>
ob (G5 n l3) fun(l9,r1) =>
ob (
br (!decide (r0=r1)) (
some true) (
ob (GL n l8 l9) fun r2 =>
some (!r2))) fun v1 =>
br (v1) (
some (.inr (.inl ()))) (
some (.inl (IntKind.wrap .i64 (v0+1)))))) (
some (.inr (.inr ())))
def xz (_:Nat):(List (Int × Int) × List (Int × Int) × Int)→Option ((List (Int × Int) × List (Int × Int) × Int) ⊕ (List (Int × Int))):=fun(l3,l2,v0) =>
br (decide (v0<4)) (
gd (bJ v0 4) (
ob (l3[v0.toNat]?) fun(x3,x4) =>
gd (bJ v0 4) (
gd (bJ v0 4) (
ob (l2[v0.toNat]?) fun(_,_) =>
some (.inl (l3,(l2.set v0.toNat (Int.tmod (IntKind.wrap .i64 x3) 6,Int.tmod (IntKind.wrap .i64 x4) 6)),IntKind.wrap .i64 (v0+1))))))) (
some (.inr l2))
def B1 (n:Nat) (x19:Int) (x20:Int) (x21:Int) (x22:Int) (x23:Int) (x24:Int) (x25:Int) (x27:Int) (x28:Int) (x29:Int) (x30:Int) (x31:Int) (x32:Int) (x33:Int) (x34:Int) (x35:Int):Int→Option ((Int) ⊕ ((Unit) ⊕ (Unit))):=fun v0 =>
br (decide (v0<2)) (
gd (bJ v0 2) (
ob ([(x19,x20,x21,x22,x23,x24,x25,x27),(x28,x29,x30,x31,x32,x33,x34,x35)][v0.toNat]?) fun(x3,x4,x10,x11,x12,x16,x17,x18) =>
ob (GZ n x3 x4 x10 x11 x12 x16 x17 x18) fun(r0,r1) =>
ob (Gm n x3 x4 x10 x11 x12 x16 x17 x18) fun(r2,r3) =>
ob (
br (!decide (r0=r2)) (
some true) (
some (!decide (r1=r3)))) fun v1 =>
br (v1) (
some (.inr (.inl ()))) (
some (.inl (IntKind.wrap .i64 (v0+1)))))) (
some (.inr (.inr ())))
def F3 (n:Nat) (l1:List (Int × Int)) (l5:List (Int × Int)) (l3:List (Nat)) (x13:Int) (x14:Int) (x15:Nat) (x19:Bool) (x20:Bool) (x21:Int) (x22:Int) (x23:Int) (x24:Int) (x25:Int) (x27:Int) (x28:Int) (x29:Int) (x26:Nat):Option (Bool) :=
gd (okB 0 (mi (l1.length:Int) (20:Int)) l1.length) (
gd (okB 0 (mi (l5.length:Int) (30:Int)) l5.length) (
ob (
bT (zA n l5) n (([]:List (Int × Int)),0)) fun l2 =>
gd (lim (([]:List (Int × Int))++l2).length) (
ob (
bT (tC n x26) n (([]:List (Int × Int))++l2)) fun l4 =>
ob (
bT (zk n x26) n (([]:List (Int × Int)),0)) fun l6 =>
ob (GW n l3 x13 x14 x15 x19 x20) fun l7 =>
gd (lim (([]:List (Int × Int))++l2).length) (
gd (lim ((([]:List (Int × Int))++l2)++((l1.drop (0:Int).toNat).take ((mi (l1.length:Int) (20:Int):Int).toNat-(0:Int).toNat))).length) (
ob (α:=(Unit) ⊕ (Unit)) (
bT (BZ n l1 l2 l7 l4 l6) n 0) fun r0=>match r0 with
| .inl _ =>
some false
| .inr _ =>
ob (
bT (xz n) n (([(x21,x22),(x23,x24),(x25,x27),(x28,x29)]:List (Int × Int)),([(0,0),(0,0),(0,0),(0,0)]:List (Int × Int)),0)) fun l8 =>
ob (II l8) fun((x3,x4),(x10,x11),(x12,x16),(x17,x18)) =>
ob (
br (decide (0<(((l1.drop (0:Int).toNat).take ((mi (l1.length:Int) (20:Int):Int).toNat-(0:Int).toNat)).length:Int))) (
gd (bJ 0 (((l1.drop (0:Int).toNat).take ((mi (l1.length:Int) (20:Int):Int).toNat-(0:Int).toNat)).length)) (
ob (((l1.drop (0:Int).toNat).take ((mi (l1.length:Int) (20:Int):Int).toNat-(0:Int).toNat))[(0:Int).toNat]?) fun(x30,x31) =>
gd (bJ ((x26%4:Nat):Int) 4) (
ob (([(x3,x4),(x10,x11),(x12,x16),(x17,x18)]:List (Int × Int))[((x26%4:Nat):Int).toNat]?) fun(_,_) =>
some (([(x3,x4),(x10,x11),(x12,x16),(x17,x18)]:List (Int × Int)).set (((x26%4:Nat):Int).toNat) (x30,x31))))) (
some ([(x3,x4),(x10,x11),(x12,x16),(x17,x18)]:List (Int × Int)))) fun l9 =>
ob (II l9) fun((x32,x33),(x34,x35),(x36,x37),(x38,x39)) =>
ob (α:=(Unit) ⊕ (Unit)) (
bT (B1 n x3 x4 x10 x11 x12 x16 x17 x18 x32 x33 x34 x35 x36 x37 x38 x39) n 0) fun r1=>match r1 with
| .inl _ =>
some false
| .inr _ =>
ob (IJ n) fun r2 =>
some r2)))))
theorem AA {l:List (Int × Int)}:((l.map kB).flatten).length=l.length*2:=by rw[bE (w:=2) (fun e he=>by obtain⟨x,_,rfl⟩:=List.mem_map.1 he; rfl),List.length_map]
theorem DG (n:Nat) {m0 m:AMem} {ps:List Pc} (h:Hp m0 m ps) {k nn:Nat} {a:Option Addr} {l r:List (Int × Int)} (hp:pk ps k=some (.sl a 2 nn (l.map (eP (eI .i64) (eI .i64))))) (hF:IB n l=some r) :
  aL aT 50 [.slice a nn nn,.func (.func 51) #[] #[]] m (fun v m'=>∃_:Unit,v = .tuple #[]∧Hp m0 m' (cf ps k (.sl a 2 nn (r.map (eP (eI .i64) (eI .i64)))))):=by
 unfold IB at hF;obtain⟨hlim,hF⟩:=al hF;cases hF;rcases h.get hp with⟨rfl,e2,rfl,_⟩|⟨b,tg,rfl,hO⟩
 ·have hl:l = []:=List.map_eq_nil_iff.1 e2;subst hl;refine aL.cy (p:=⟨hZ⟩) rfl (v:=.tuple #[]) (m':=m) rfl ⟨(),rfl,?_⟩;rw[List.mergeSort_nil,zX _ _ _ hp];exact h
 ·obtain⟨h1,h2,h3,h4,h5,h6,h7⟩:=hO;have hn:l.length=nn:=by simpa using h4
  subst hn;have hw:pf m b l.length l.length=some ((l.map kB).flatten,tg):=by
   unfold pf;rcases h6 with rfl|rfl<;>simp only[h3]<;>rw[if_pos ⟨trivial,AA,pI _⟩]
  refine aL.cy (p:=⟨hZ⟩) rfl (v:=.tuple #[]) (m':=m.set b (.cells ((l.mergeSort cF).map kB).flatten tg)) ?_ ⟨(),rfl,?_⟩
  ·show hZ [.slice (some ⟨b,0,none⟩) l.length l.length,.func (.func 51) #[] #[]] m=_
   simp only[hZ,hw,nz];rw[if_pos ⟨⟨rfl,rfl⟩,hlim⟩]
  ·refine h.write hp rfl rfl rfl rfl (.inr ⟨b,tg,rfl,h1,?_,?_,?_,?_,h6,h7⟩)
   ·rw[AMem.next_set]; exact h2
   ·rw[AMem.bt,if_pos rfl]
   ·simp
   ·intro e he;obtain⟨x,_,rfl⟩:=List.mem_map.1 he
    rfl
end Go.Proofs.YthmekkhpddehjaaGreat
end
