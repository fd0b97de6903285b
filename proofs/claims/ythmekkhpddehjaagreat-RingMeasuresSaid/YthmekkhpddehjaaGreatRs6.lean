/- A part of the proof. -/
import Derived.Test.YthmekkhpddehjaaGreatRs5
section
namespace Jd
abbrev I2:=Int × Int
def ti (a b c:I2):Int:=(b.1-a.1)*(c.2-a.2)-(b.2-a.2)*(c.1-a.1)
def ca (a:I2):P2:=((a.1:Rat),(a.2:Rat))
theorem iQ (a b c:I2):tn (ca a) (ca b) (ca c)=((ti a b c:Int):Rat):=by
 unfold tn ca ti;simp only[Rat.intCast_sub,Rat.intCast_mul]
theorem cz {x y:Int}:(x:Rat)<(y:Rat)↔x<y:=Rat.intCast_lt_intCast
theorem rZ {x y:Int}:(x:Rat)≤(y:Rat)↔x≤y:=Rat.intCast_le_intCast
theorem jC {x:Int}:(0:Rat)<(x:Rat)↔0<x:=by
 have:=@cz 0 x
 simpa using this
theorem kY {x:Int}:(x:Rat)<0↔x<0:=by
 have:=@cz x 0
 simpa using this
theorem dS (a b p:I2):ti b a p = -ti a b p:=by unfold ti; grind
theorem q8 (a b:I2):ti a b a=0:=by unfold ti; grind
theorem sK (a b:I2):ti a b b=0:=by unfold ti; grind
theorem rB (a b c d:I2):ti a b d-ti a b c=ti c d a-ti c d b:=by unfold ti; grind
def cP (a b p:I2):Prop:=ti a b p=0∧min a.1 b.1≤p.1∧p.1≤max a.1 b.1∧min a.2 b.2≤p.2∧p.2≤max a.2 b.2
instance (a b p:I2):Decidable (cP a b p):=by unfold cP; infer_instance
theorem cP.swap {a b p:I2} (h:cP a b p):cP b a p:=by
 obtain⟨h1,h2⟩:=h;exact⟨by rw[dS,h1]; rfl,by omega⟩
theorem oM {a b p:I2}:cP a b p↔cP b a p:=⟨cP.swap,cP.swap⟩
theorem xz (a b:I2):cP a b a:=⟨q8 a b,by omega⟩
theorem wQ (a b:I2):cP a b b:=⟨sK a b,by omega⟩
theorem wT {a b p:I2} (h:a.1<b.1):cP a b p↔ti a b p=0∧a.1≤p.1∧p.1≤b.1:=by
 refine⟨fun⟨h1,h2⟩=>⟨h1,by omega⟩,fun⟨h1,h2,h3⟩=>⟨h1,by omega,by omega,?_,?_⟩⟩
 all_goals
  unfold ti at h1;have e1:(b.1-a.1)*(p.2-a.2)=(b.2-a.2)*(p.1-a.1):=by omega
  have e2:(b.1-a.1)*(b.2-p.2)=(b.2-a.2)*(b.1-p.1):=by grind
  by_cases hy:a.2≤b.2
  ·have m1:0≤(b.1-a.1)*(p.2-a.2):=by rw[e1]; exact Int.mul_nonneg (by omega) (by omega)
   have m2:0≤(b.1-a.1)*(b.2-p.2):=by rw[e2]; exact Int.mul_nonneg (by omega) (by omega)
   have k1:=Int.nonneg_of_mul_nonneg_right m1 (by omega)
   have k2:=Int.nonneg_of_mul_nonneg_right m2 (by omega)
   omega
  ·have m1:0≤(b.1-a.1)*(a.2-p.2):=by
    rw[show(b.1-a.1)*(a.2-p.2)=(a.2-b.2)*(p.1-a.1) by grind]; exact Int.mul_nonneg (by omega) (by omega)
   have m2:0≤(b.1-a.1)*(p.2-b.2):=by
    rw[show(b.1-a.1)*(p.2-b.2)=(a.2-b.2)*(b.1-p.1) by grind]; exact Int.mul_nonneg (by omega) (by omega)
   have k1:=Int.nonneg_of_mul_nonneg_right m1 (by omega)
   have k2:=Int.nonneg_of_mul_nonneg_right m2 (by omega)
   omega
theorem BI {a b p:I2} (h:a.1=b.1) (hab:a≠b):cP a b p↔p.1=a.1∧min a.2 b.2≤p.2∧p.2≤max a.2 b.2:=by
 have hy:a.2≠b.2:=fun e=>hab (Prod.ext h e);refine⟨fun⟨_,h2⟩=>by omega,fun⟨h1,h2⟩=>⟨?_,by omega⟩⟩
 unfold ti;rw[h1,←h]; grind
theorem kL {a b p:I2} (h:a.1=b.1) (hab:a≠b) (h0:ti a b p=0):p.1=a.1:=by
 have hy:b.2-a.2≠0:=fun e=>hab (Prod.ext h (by omega))
 unfold ti at h0;rw[h,Int.sub_self,Int.zero_mul] at h0;have:(b.2-a.2)*(p.1-b.1)=0:=by omega
 rcases Int.mul_eq_zero.1 this with e|e
 ·exact absurd e hy
 ·omega
theorem ll {a b p q:I2} (h:a.1≠b.1) (hp:ti a b p=0) (hq:ti a b q=0) (e:p.1=q.1):p=q:=by
 have:(b.1-a.1)*(p.2-q.2)=0:=by unfold ti at hp hq; rw[e] at hp; grind
 rcases Int.mul_eq_zero.1 this with e' | e'
 ·omega
 ·exact Prod.ext e (by omega)
def Lx (a b:I2):Prop:=a.1<b.1∨a.1=b.1∧a.2≤b.2
theorem EB {a b p:I2} (hab:a≠b) (h:Lx a b):cP a b p↔ti a b p=0∧Lx a p∧Lx p b:=by
 unfold Lx at *
 by_cases hx:a.1<b.1
 ·rw[wT hx];refine⟨fun⟨h1,h2,h3⟩=>⟨h1,?_,?_⟩,fun⟨h1,h2,h3⟩=>⟨h1,by omega,by omega⟩⟩
  ·by_cases e:p.1=a.1
   ·have:=ll (by omega) h1 (q8 a b) e
    rw[this]; omega
   ·omega
  ·by_cases e:p.1=b.1
   ·have:=ll (by omega) h1 (sK a b) e
    rw[this]; omega
   ·omega
 ·have e:a.1=b.1:=by omega
  rw[BI e hab];refine⟨fun⟨h1,h2⟩=>⟨?_,by omega,by omega⟩,fun⟨h1,h2,h3⟩=>?_⟩
  ·unfold ti; rw[h1,←e]; grind
  ·have:=kL e hab h1;omega
theorem jK {a b c d:I2} (_:a≠b) (hc:ti a b c=0) (hn:¬cP a b c) (hd:ti a b d≠0):(0<ti c d a∧0<ti c d b)∨(ti c d a<0∧ti c d b<0):=by
 have four:=rB a b c d;have key:∀A B s t:Int,s*B=A*t→0<A*B→s-t≠0→(0<s∧0<t)∨(s<0∧t<0):=by
  intro A B s t e hAB hst;have hB:B≠0:=fun h=>by rw[h,Int.mul_zero] at hAB; omega
  have hA:A≠0:=fun h=>by rw[h,Int.zero_mul] at hAB; omega
  have ht:t≠0:=fun h=>by
   rw[h,Int.mul_zero] at e;rcases Int.mul_eq_zero.1 e with h' | h'
   ·omega
   ·exact hB h'
  have hs:s≠0:=fun h=>by
   rw[h,Int.zero_mul] at e;rcases Int.mul_eq_zero.1 e.symm with h' | h'
   ·exact hA h'
   ·exact ht h'
  have hp:0<s*t:=by
   have e2:s*t*(B*B)=(A*B)*(t*t):=by
    rw[show s*t*(B*B)=(s*B)*(t*B) by grind,e]; grind
   have h1:0<(A*B)*(t*t):=Int.mul_pos hAB (by
    rcases Int.lt_or_lt_of_ne ht with h|h
    ·exact Int.mul_pos_of_neg_of_neg h h
    ·exact Int.mul_pos h h)
   rw[←e2] at h1;have h2:0<B*B:=by
    rcases Int.lt_or_lt_of_ne hB with h|h
    ·exact Int.mul_pos_of_neg_of_neg h h
    ·exact Int.mul_pos h h
   exact Int.pos_of_mul_pos_left h1 h2
  rcases Int.lt_or_lt_of_ne hs with h|h
  ·right
   refine⟨h,?_⟩;refine Decidable.byContradiction fun hc=>?_;have:=Int.mul_pos (show 0 < -s by omega) (show 0<t by omega)
   rw[Int.neg_mul] at this;omega
  ·left
   refine⟨h,?_⟩;refine Decidable.byContradiction fun hc=>?_;have:=Int.mul_pos h (show 0 < -t by omega)
   rw[Int.mul_neg] at this;omega
 have hst:ti c d a-ti c d b≠0:=by omega
 have e0:(a.1-c.1)*(b.2-c.2)=(a.2-c.2)*(b.1-c.1):=by unfold ti at hc; grind
 have ex:ti c d a*(b.1-c.1)=(a.1-c.1)*ti c d b:=by
  unfold ti;generalize d.1-c.1=x at *;generalize d.2-c.2=y at *;generalize a.1-c.1=A at *;generalize b.1-c.1=B at *;generalize a.2-c.2=C at *;generalize b.2-c.2=D at *
  grind
 have ey:ti c d a*(b.2-c.2)=(a.2-c.2)*ti c d b:=by
  unfold ti;generalize d.1-c.1=x at *;generalize d.2-c.2=y at *;generalize a.1-c.1=A at *;generalize b.1-c.1=B at *;generalize a.2-c.2=C at *;generalize b.2-c.2=D at *
  grind
 have hout:0<(a.1-c.1)*(b.1-c.1)∨0<(a.2-c.2)*(b.2-c.2):=by
  refine Decidable.byContradiction fun hh=>hn ⟨hc,?_⟩;have pos:∀{x y:Int},0<x→0<y→0<x*y:=Int.mul_pos;have neg:∀{x y:Int},x<0→y<0→0<x*y:=Int.mul_pos_of_neg_of_neg;have n1:¬(0<a.1-c.1∧0<b.1-c.1):=fun h=>hh (.inl (pos h.1 h.2));have n2:¬(a.1-c.1<0∧b.1-c.1<0):=fun h=>hh (.inl (neg h.1 h.2));have n3:¬(0<a.2-c.2∧0<b.2-c.2):=fun h=>hh (.inr (pos h.1 h.2));have n4:¬(a.2-c.2<0∧b.2-c.2<0):=fun h=>hh (.inr (neg h.1 h.2));omega
 rcases hout with h|h
 ·exact key _ _ _ _ ex h hst
 ·exact key _ _ _ _ ey h hst
def gA (a b c d x:I2):Prop:=(x=a∨x=b∨x=c∨x=d)∧cP a b x∧cP c d x
def low (a b c d:I2):Int:=if a.1=b.1 then max (min a.2 b.2) (min c.2 d.2)-min (max a.2 b.2) (max c.2 d.2) else max (min a.1 b.1) (min c.1 d.1)-min (max a.1 b.1) (max c.1 d.1)
theorem B3 {a b c d:I2} (hab:a≠b) (hcd:c≠d) (hc:ti a b c=0) (hd:ti a b d=0):∃f:I2→Int,low a b c d=max (min (f a) (f b)) (min (f c) (f d))-min (max (f a) (f b)) (max (f c) (f d)) ∧
  (∀x y,ti a b x=0→ti a b y=0→f x=f y→x=y)∧(∀x,cP a b x↔ti a b x=0∧min (f a) (f b)≤f x∧f x≤max (f a) (f b))∧(∀x,ti a b x=0→(cP c d x↔min (f c) (f d)≤f x∧f x≤max (f c) (f d))):=by
 by_cases h:a.1=b.1
 ·have h3:=kL h hab hc;have h4:=kL h hab hd;refine⟨fun x=>x.2,by unfold low; rw[if_pos h],fun x y hx hy e=>Prod.ext ((kL h hab hx).trans (kL h hab hy).symm) e,fun x=>?_,fun x hx=>?_⟩
  ·rw[BI h hab];refine⟨fun⟨h0,h1⟩=>⟨?_,h1⟩,fun⟨h0,h1⟩=>⟨kL h hab h0,h1⟩⟩;unfold ti; rw[h0,←h]; grind
  ·rw[BI (by omega) hcd]
   have:=kL h hab hx;exact⟨fun h=>h.2,fun h=>⟨by omega,h⟩⟩
 ·have h2:c.1≠d.1:=fun e=>hcd (ll h hc hd e);have dir:∀x,ti a b x=0→ti c d x=0:=fun x hx=>by
   have e0:(b.1-a.1)*(c.2-a.2)=(b.2-a.2)*(c.1-a.1):=by unfold ti at hc; omega
   have e1:(b.1-a.1)*(d.2-a.2)=(b.2-a.2)*(d.1-a.1):=by unfold ti at hd; omega
   have e2:(b.1-a.1)*(x.2-a.2)=(b.2-a.2)*(x.1-a.1):=by unfold ti at hx; omega
   have:(b.1-a.1)*ti c d x=0:=by
    unfold ti;have:(b.1-a.1)*((d.1-c.1)*(x.2-c.2)-(d.2-c.2)*(x.1-c.1))=(d.1-c.1)*((b.1-a.1)*(x.2-a.2)-(b.1-a.1)*(c.2-a.2))-((b.1-a.1)*(d.2-a.2)-(b.1-a.1)*(c.2-a.2))*(x.1-c.1):=by grind
    rw[this,e0,e1,e2]; grind
   rcases Int.mul_eq_zero.1 this with e|e
   ·omega
   ·exact e
  have gen:∀{u w:I2},u.1≠w.1→∀x,(cP u w x↔ti u w x=0∧min u.1 w.1≤x.1∧x.1≤max u.1 w.1):=fun {u w} huw x=>by
   by_cases hl:u.1<w.1
   ·rw[wT hl]; refine⟨fun⟨h0,h1⟩=>⟨h0,by omega⟩,fun⟨h0,h1⟩=>⟨h0,by omega⟩⟩
   ·rw[oM,wT (by omega),dS]; refine⟨fun⟨h0,h1⟩=>⟨by omega,by omega⟩,fun⟨h0,h1⟩=>⟨by omega,by omega⟩⟩
  refine⟨fun x=>x.1,by unfold low; rw[if_neg h],fun x y hx hy e=>ll h hx hy e,gen h,fun x hx=>?_⟩
  rw[gen h2];exact⟨fun h=>h.2,fun h=>⟨dir x hx,h⟩⟩
theorem oC {a b c d:I2} (hab:a≠b) (hcd:c≠d) (hc:ti a b c=0) (hd:ti a b d=0) :
  (0<low a b c d↔∀x,¬gA a b c d x)∧(low a b c d<0↔∃x y,gA a b c d x∧gA a b c d y∧x≠y):=by
 obtain⟨f,e,hi,h1,h2⟩:=B3 hab hcd hc hd;have ha0:=q8 a b;have hb0:=sK a b;have hfab:f a≠f b:=fun h=>hab (hi a b ha0 hb0 h);have hfcd:f c≠f d:=fun h=>hcd (hi c d hc hd h);have CW:∀x,gA a b c d x↔(x=a∨x=b∨x=c∨x=d)∧(min (f a) (f b)≤f x∧f x≤max (f a) (f b))∧(min (f c) (f d)≤f x∧f x≤max (f c) (f d)):=fun x=>by
  unfold gA;refine⟨fun⟨h,g1,g2⟩=>⟨h,((h1 x).1 g1).2,(h2 x ((h1 x).1 g1).1).1 g2⟩,fun⟨h,g1,g2⟩=>?_⟩;have hx:ti a b x=0:=by rcases h with rfl|rfl|rfl|rfl<;>assumption
  exact⟨h,(h1 x).2 ⟨hx,g1⟩,(h2 x hx).2 g2⟩
 rw[e];have lo:∃x,(x=a∨x=b∨x=c∨x=d)∧f x=max (min (f a) (f b)) (min (f c) (f d)):=by
  by_cases g1:f a≤f b<;>by_cases g2:f c≤f d
  ·by_cases g3:f a≤f c
   ·exact⟨c,by simp,by omega⟩
   ·exact⟨a,by simp,by omega⟩
  ·by_cases g3:f a≤f d
   ·exact⟨d,by simp,by omega⟩
   ·exact⟨a,by simp,by omega⟩
  ·by_cases g3:f b≤f c
   ·exact⟨c,by simp,by omega⟩
   ·exact⟨b,by simp,by omega⟩
  ·by_cases g3:f b≤f d
   ·exact⟨d,by simp,by omega⟩
   ·exact⟨b,by simp,by omega⟩
 have hi':∃x,(x=a∨x=b∨x=c∨x=d)∧f x=min (max (f a) (f b)) (max (f c) (f d)):=by
  by_cases g1:f a≤f b<;>by_cases g2:f c≤f d
  ·by_cases g3:f b≤f d
   ·exact⟨b,by simp,by omega⟩
   ·exact⟨d,by simp,by omega⟩
  ·by_cases g3:f b≤f c
   ·exact⟨b,by simp,by omega⟩
   ·exact⟨c,by simp,by omega⟩
  ·by_cases g3:f a≤f d
   ·exact⟨a,by simp,by omega⟩
   ·exact⟨d,by simp,by omega⟩
  ·by_cases g3:f a≤f c
   ·exact⟨a,by simp,by omega⟩
   ·exact⟨c,by simp,by omega⟩
 obtain⟨x,x1,x2⟩:=lo;obtain⟨y,y1,y2⟩:=hi';constructor
 ·refine⟨fun h z hz=>?_,fun h=>?_⟩
  ·have:=(CW z).1 hz;omega
  ·refine Decidable.byContradiction fun hc=>h x ((CW x).2 ⟨x1,by omega,by omega⟩)
 ·refine⟨fun h=>⟨x,y,(CW x).2 ⟨x1,by omega,by omega⟩,(CW y).2 ⟨y1,by omega,by omega⟩,fun e=>by rw[e] at x2; omega⟩,fun⟨z,w,hz,hw,hne⟩=>?_⟩
  refine Decidable.byContradiction fun hc=>hne (hi z w ?_ ?_ ?_)
  ·exact hz.2.1.1
  ·exact hw.2.1.1
  ·have:=(CW z).1 hz;have:=(CW w).1 hw;omega
theorem CS {a b c d:I2} (hcd:c≠d) (h:¬(ti a b c=0∧ti a b d=0)) {x y:I2} (hx:cP a b x∧cP c d x) (hy:cP a b y∧cP c d y):x=y:=by
 obtain⟨⟨a1,_⟩,⟨a2,_⟩⟩:=hx;obtain⟨⟨b1,_⟩,⟨b2,_⟩⟩:=hy;have hk:(b.1-a.1)*(d.2-c.2)-(b.2-a.2)*(d.1-c.1)≠0:=fun e=>by
  have e1:ti a b d-ti a b c=0:=by
   have:ti a b d-ti a b c=(b.1-a.1)*(d.2-c.2)-(b.2-a.2)*(d.1-c.1):=by unfold ti; grind
   omega
  have e2:(d.1-c.1)*ti a b c=0:=by
   have t:(d.1-c.1)*ti a b c=(d.1-c.1)*ti a b x-(b.1-a.1)*ti c d x-(x.1-c.1)*((b.1-a.1)*(d.2-c.2)-(b.2-a.2)*(d.1-c.1)):=by unfold ti; grind
   rw[t,a1,a2,e]; simp
  have e3:(d.2-c.2)*ti a b c=0:=by
   have t:(d.2-c.2)*ti a b c=(d.2-c.2)*ti a b x-(b.2-a.2)*ti c d x-(x.2-c.2)*((b.1-a.1)*(d.2-c.2)-(b.2-a.2)*(d.1-c.1)):=by unfold ti; grind
   rw[t,a1,a2,e]; simp
  have h0:ti a b c=0:=by
   rcases Int.mul_eq_zero.1 e2 with g|g
   ·rcases Int.mul_eq_zero.1 e3 with g' | g'
    ·exact absurd (Prod.ext (by omega) (by omega)) hcd
    ·exact g'
   ·exact g
  exact h ⟨h0,by omega⟩
 have f1:((b.1-a.1)*(d.2-c.2)-(b.2-a.2)*(d.1-c.1))*(x.1-y.1)=0:=by
  have t:((b.1-a.1)*(d.2-c.2)-(b.2-a.2)*(d.1-c.1))*(x.1-y.1)=(d.1-c.1)*(ti a b x-ti a b y)-(b.1-a.1)*(ti c d x-ti c d y):=by unfold ti; grind
  rw[t,a1,a2,b1,b2]; simp
 have f2:((b.1-a.1)*(d.2-c.2)-(b.2-a.2)*(d.1-c.1))*(x.2-y.2)=0:=by
  have t:((b.1-a.1)*(d.2-c.2)-(b.2-a.2)*(d.1-c.1))*(x.2-y.2)=(d.2-c.2)*(ti a b x-ti a b y)-(b.2-a.2)*(ti c d x-ti c d y):=by unfold ti; grind
  rw[t,a1,a2,b1,b2]; simp
 refine Prod.ext ?_ ?_
 ·rcases Int.mul_eq_zero.1 f1 with g|g
  ·exact absurd g hk
  ·omega
 ·rcases Int.mul_eq_zero.1 f2 with g|g
  ·exact absurd g hk
  ·omega
theorem tC {a b c d:I2} (hab:a≠b) (hcd:c≠d) (hn:∀x,¬gA a b c d x)
  (hx:¬(((0<ti a b c∧ti a b d<0)∨(ti a b c<0∧0<ti a b d))∧((0<ti c d a∧ti c d b<0)∨(ti c d a<0∧0<ti c d b)))):Sep (ca a) (ca b) (ca c) (ca d):=by
 have na:¬cP c d a:=fun h=>hn a ⟨.inl rfl,xz a b,h⟩;have nb:¬cP c d b:=fun h=>hn b ⟨.inr (.inl rfl),wQ a b,h⟩;have nc:¬cP a b c:=fun h=>hn c ⟨.inr (.inr (.inl rfl)),h,xz c d⟩;have nd:¬cP a b d:=fun h=>hn d ⟨.inr (.inr (.inr rfl)),h,wQ c d⟩;have byab:(0<ti a b c∧0<ti a b d)∨(ti a b c<0∧ti a b d<0)→Sep (ca a) (ca b) (ca c) (ca d):=by
  rintro(⟨h1,h2⟩|⟨h1,h2⟩)
  ·exact ew (σ:=1) (by rw[iQ]; have:=jC.2 h1; grind) (by rw[iQ]; have:=jC.2 h2; grind)
  ·exact ew (σ:=-1) (by rw[iQ]; have:=kY.2 h1; grind) (by rw[iQ]; have:=kY.2 h2; grind)
 have bycd:(0<ti c d a∧0<ti c d b)∨(ti c d a<0∧ti c d b<0)→Sep (ca a) (ca b) (ca c) (ca d):=by
  intro h;have h':Sep (ca c) (ca d) (ca a) (ca b):=by
   rcases h with⟨h1,h2⟩|⟨h1,h2⟩
   ·exact ew (σ:=1) (by rw[iQ]; have:=jC.2 h1; grind) (by rw[iQ]; have:=jC.2 h2; grind)
   ·exact ew (σ:=-1) (by rw[iQ]; have:=kY.2 h1; grind) (by rw[iQ]; have:=kY.2 h2; grind)
  obtain⟨α,β,γ,g1,g2,g3,g4⟩:=h';exact⟨-α,-β,-γ,by unfold af at *; grind,by unfold af at *; grind,by unfold af at *; grind,by unfold af at *; grind⟩
 have four:=rB a b c d
 by_cases hc:ti a b c=0
 ·by_cases hd:ti a b d=0
  ·
   have hl:=(oC hab hcd hc hd).1.2 hn;unfold low at hl;have split:∀{x1 x2 x3 x4:Int},0<max (min x1 x2) (min x3 x4)-min (max x1 x2) (max x3 x4)→(x1<x3∧x1<x4∧x2<x3∧x2<x4)∨(x3<x1∧x4<x1∧x3<x2∧x4<x2):=by
    intro x1 x2 x3 x4 h; omega
   split at hl
   ·rcases split hl with⟨h1,h2,h3,h4⟩|⟨h1,h2,h3,h4⟩
    ·have h1:=cz.2 h1; have h2:=cz.2 h2; have h3:=cz.2 h3; have h4:=cz.2 h4
     by_cases hm:(a.2:Rat)≤(b.2:Rat)
     ·refine ku 0 (-1) (b.2:Rat) ?_ ?_ ?_ ?_<;>(unfold af ca; grind)
     ·refine ku 0 (-1) (a.2:Rat) ?_ ?_ ?_ ?_<;>(unfold af ca; grind)
    ·have h1:=cz.2 h1; have h2:=cz.2 h2; have h3:=cz.2 h3; have h4:=cz.2 h4
     by_cases hm:(a.2:Rat)≤(b.2:Rat)
     ·refine ku 0 1 (-(a.2:Rat)) ?_ ?_ ?_ ?_<;>(unfold af ca; grind)
     ·refine ku 0 1 (-(b.2:Rat)) ?_ ?_ ?_ ?_<;>(unfold af ca; grind)
   ·rcases split hl with⟨h1,h2,h3,h4⟩|⟨h1,h2,h3,h4⟩
    ·have h1:=cz.2 h1; have h2:=cz.2 h2; have h3:=cz.2 h3; have h4:=cz.2 h4
     by_cases hm:(a.1:Rat)≤(b.1:Rat)
     ·refine ku (-1) 0 (b.1:Rat) ?_ ?_ ?_ ?_<;>(unfold af ca; grind)
     ·refine ku (-1) 0 (a.1:Rat) ?_ ?_ ?_ ?_<;>(unfold af ca; grind)
    ·have h1:=cz.2 h1; have h2:=cz.2 h2; have h3:=cz.2 h3; have h4:=cz.2 h4
     by_cases hm:(a.1:Rat)≤(b.1:Rat)
     ·refine ku 1 0 (-(a.1:Rat)) ?_ ?_ ?_ ?_<;>(unfold af ca; grind)
     ·refine ku 1 0 (-(b.1:Rat)) ?_ ?_ ?_ ?_<;>(unfold af ca; grind)
  ·exact bycd (jK hab hc nc hd)
 ·by_cases hd:ti a b d=0
  ·have:=jK (c:=d) (d:=c) hab hd nd hc;rw[dS c d,dS c d] at this;exact bycd (by omega)
  ·by_cases ha:ti c d a=0
   ·by_cases hb:ti c d b=0
    ·
     exact byab (by omega)
    ·have:=jK (a:=c) (b:=d) (c:=a) (d:=b) hcd ha na hb;exact byab this
   ·by_cases hb:ti c d b=0
    ·have:=jK (a:=c) (b:=d) (c:=b) (d:=a) hcd hb nb ha;rw[dS a b,dS a b] at this;exact byab (by omega)
    ·by_cases h1:(0<ti a b c∧0<ti a b d)∨(ti a b c<0∧ti a b d<0)
     ·exact byab h1
     ·exact bycd (by omega)
def di (a b c:I2):Int:=(b.1-a.1)*(c.1-b.1)+(b.2-a.2)*(c.2-b.2)
def NM (a b c d:I2):Prop:=(∀x,¬gA a b c d x)∧¬(((0<ti a b c∧ti a b d<0)∨(ti a b c<0∧0<ti a b d))∧((0<ti c d a∧ti c d b<0)∨(ti c d a<0∧0<ti c d b)))
def nx (r:List I2) (i:Nat):I2:=r.getD (i%r.length) (0,0)
structure VR (r:List I2):Prop where
 n3:2<r.length
 still:∀i,nx r i≠nx r (i+1)
 pM:∀i,¬(ti (nx r i) (nx r (i+1)) (nx r (i+2))=0∧di (nx r i) (nx r (i+1)) (nx r (i+2))<0)
 meet:∀j i,j+1<i→i<r.length→¬(j=0∧i+1=r.length)→NM (nx r j) (nx r (j+1)) (nx r i) (nx r (i+1))
theorem EH {a b:I2} (h:ca a=ca b):a=b:=by
 unfold ca at h;have h1:=Rat.intCast_inj.1 (congrArg Prod.fst h);have h2:=Rat.intCast_inj.1 (congrArg Prod.snd h);exact Prod.ext h1 h2
theorem Sep.symm {a b p q:P2} (h:Sep a b p q):Sep p q a b:=by
 obtain⟨α,β,γ,g1,g2,g3,g4⟩:=h;exact⟨-α,-β,-γ,by unfold af at *; grind,by unfold af at *; grind,by unfold af at *; grind,by unfold af at *; grind⟩
theorem u2 {x:Int}:0≤x*x:=by
 rcases Int.le_total 0 x with h|h
 ·exact Int.mul_nonneg h h
 ·exact Int.mul_nonneg_of_nonpos_of_nonpos h h
theorem Cm {x:Int} (h:x*x=0):x=0:=by
 rcases Int.mul_eq_zero.1 h with h|h<;>exact h
theorem FD {a b c:I2} (hab:a≠b) (hbc:b≠c) (h0:ti a b c=0) (h:¬di a b c<0):0<di a b c:=by
 refine Decidable.byContradiction fun hc=>?_;have hd:di a b c=0:=by omega
 have e1:(b.1-a.1)*(c.2-b.2)-(b.2-a.2)*(c.1-b.1)=0:=by rw[←h0]; unfold ti; grind
 unfold di at hd;generalize hx:b.1-a.1=x at *;generalize hy:b.2-a.2=y at *;generalize hz:c.1-b.1=z at *;generalize hw:c.2-b.2=w at *;have f1:(x*x+y*y)*z=0:=by
  have:(x*x+y*y)*z=x*(x*z+y*w)-y*(x*w-y*z):=by grind
  rw[this,hd,e1]; simp
 have f2:(x*x+y*y)*w=0:=by
  have:(x*x+y*y)*w=y*(x*z+y*w)+x*(x*w-y*z):=by grind
  rw[this,hd,e1]; simp
 have hp:x*x+y*y≠0:=fun e=>by
  have s1:=@u2 x;have s2:=@u2 y;have g1:=Cm (show x*x=0 by omega)
  have g2:=Cm (show y*y=0 by omega)
  exact hab (Prod.ext (by omega) (by omega))
 refine hbc (Prod.ext ?_ ?_)
 ·rcases Int.mul_eq_zero.1 f1 with e|e
  ·exact absurd e hp
  ·omega
 ·rcases Int.mul_eq_zero.1 f2 with e|e
  ·exact absurd e hp
  ·omega
theorem VR.simple {r:List I2} (h:VR r):Simple r.length fun i=>ca (nx r i):=by
 have hn:=h.n3;have per:∀i,nx r (i+r.length)=nx r i:=fun i=>by unfold nx; rw[Nat.add_mod_right]
 refine⟨hn,?_,?_,fun i _ e=>h.still i (EH e),fun i _=>?_,fun i j hi hj h1 h2 h3 h4 h5=>?_⟩
 ·show ca (nx r r.length)=ca (nx r 0)
  have:=per 0;rw[Nat.zero_add] at this;rw[this]
 ·show ca (nx r (r.length+1))=ca (nx r 1)
  rw[Nat.add_comm,per]
 ·have e:dt (ca (nx r i)) (ca (nx r (i+1))) (ca (nx r (i+2)))=((di (nx r i) (nx r (i+1)) (nx r (i+2)):Int):Rat):=by
   unfold dt ca di;simp only[Rat.intCast_sub,Rat.intCast_mul,Rat.intCast_add]
  by_cases h0:ti (nx r i) (nx r (i+1)) (nx r (i+2))=0
  ·right
   show 0<dt (ca (nx r i)) (ca (nx r (i+1))) (ca (nx r (i+2)))
   rw[e,jC];exact FD (h.still i) (h.still (i+1)) h0 fun hd=>h.pM i ⟨h0,hd⟩
  ·left
   show tn (ca (nx r i)) (ca (nx r (i+1))) (ca (nx r (i+2)))≠0
   rw[iQ];exact fun e=>h0 (by have:=Rat.intCast_inj (a:=ti (nx r i) (nx r (i+1)) (nx r (i+2))) (b:=0); simpa using e)
 ·by_cases hl:i<j
  ·have m:=h.meet i j (by omega) hj (by omega)
   exact tC (h.still i) (h.still j) m.1 m.2
  ·have m:=h.meet j i (by omega) hi (by omega)
   exact(tC (h.still j) (h.still i) m.1 m.2).symm
def wi (a b p:I2):Int:=if a.2≤p.2∧p.2<b.2∧0<ti a b p then 1 else if b.2≤p.2∧p.2<a.2∧ti a b p<0 then -1 else 0
theorem Hv (a b p:I2):we (ca a) (ca b) (ca p)=wi a b p:=by
 have e1:((ca a).2≤(ca p).2)↔a.2≤p.2:=rZ;have e2:((ca p).2<(ca b).2)↔p.2<b.2:=cz;have e3:((ca b).2≤(ca p).2)↔b.2≤p.2:=rZ;have e4:((ca p).2<(ca a).2)↔p.2<a.2:=cz;unfold we wi;simp only[e1,e2,e3,e4,iQ,jC,kY]
theorem mc {a b p:I2} (h:(a.2≤p.2∧p.2<b.2)∨(b.2≤p.2∧p.2<a.2)) (h0:ti a b p=0):cP a b p:=by
 have sw:∀{a b p:I2},a.2<b.2→a.2≤p.2→p.2≤b.2→ti a b p=0→cP a b p:=by
  intro a b p h1 h2 h3 h0;have h0':ti (a.2,a.1) (b.2,b.1) (p.2,p.1)=0:=by unfold ti at *; grind
  have:=(wT (a:=(a.2,a.1)) (b:=(b.2,b.1)) (p:=(p.2,p.1)) h1).2 ⟨h0',h2,h3⟩;exact⟨h0,this.2.2.2.1,this.2.2.2.2,this.2.1,this.2.2.1⟩
 rcases h with h|h
 ·exact sw (by omega) (by omega) (by omega) h0
 ·exact(sw (a:=b) (b:=a) (by omega) (by omega) (by omega) (by rw[dS,h0]; rfl)).swap
def nz (r:List I2) (p:I2):Int:=bX r.length fun i=>wi (nx r i) (nx r (i+1)) p
theorem VR.nz {r:List I2} (h:VR r) {p:I2} (hp:∀i,i<r.length→¬cP (nx r i) (nx r (i+1)) p):nz r p=0∨nz r p=1∨nz r p = -1:=by
 have e:W r.length (fun i=>ca (nx r i)) (ca p)=Jd.nz r p:=dD fun i _=>Hv _ _ _;rw[←e];refine h.simple.main fun i hi hl=>?_
 show tn (ca (nx r i)) (ca (nx r (i+1))) (ca p)≠0
 rw[iQ];intro h0;have h0':ti (nx r i) (nx r (i+1)) p=0:=by simpa using h0
 refine hp i hi (mc ?_ h0');rcases hl with⟨a,b⟩|⟨a,b⟩
 ·exact .inl ⟨rZ.1 a,cz.1 b⟩
 ·exact .inr ⟨rZ.1 a,cz.1 b⟩
def Gd (a b p:I2):Bool:=(decide (p.2<a.2) != decide (p.2<b.2)) && (decide (0<ti a b p) == decide (a.2<b.2))
theorem EA {a b p:I2} (h:¬cP a b p):Gd a b p=decide (wi a b p%2=1):=by
 unfold Gd wi
 by_cases h1:p.2<a.2<;>by_cases h2:p.2<b.2
 ·rw[if_neg (by omega),if_neg (by omega)]; simp[h1,h2]
 ·have h0:ti a b p≠0:=fun e=>h (mc (.inr ⟨by omega,h1⟩) e)
  by_cases h3:0<ti a b p
  ·rw[if_neg (by omega),if_neg (by omega)]
   simp[h1,h2,h3,show ¬a.2<b.2 by omega]
  ·rw[if_neg (by omega),if_pos ⟨by omega,h1,by omega⟩]
   simp[h1,h2,h3,show ¬a.2<b.2 by omega]
 ·have h0:ti a b p≠0:=fun e=>h (mc (.inl ⟨by omega,h2⟩) e)
  by_cases h3:0<ti a b p
  ·rw[if_pos ⟨by omega,h2,h3⟩]
   simp[h1,h2,h3,show a.2<b.2 by omega]
  ·rw[if_neg (by omega),if_neg (by omega)]
   simp[h1,h2,h3,show a.2<b.2 by omega]
 ·rw[if_neg (by omega),if_neg (by omega)]; simp[h1,h2]
theorem Av (a b p:I2):wi a b p=0∨wi a b p=1∨wi a b p = -1:=by
 unfold wi
 split
 ·omega
 ·split<;>omega
def ze (r:List I2) (p:I2):Nat→Bool
 | 0=>false
 | i+1=>ze r p i != Gd (nx r i) (nx r (i+1)) p
theorem s7 {r:List I2} {p:I2}:∀{k:Nat},(∀i,i<k→¬cP (nx r i) (nx r (i+1)) p)→ze r p k=decide (bX k (fun i=>wi (nx r i) (nx r (i+1)) p)%2=1)
 | 0,_=>rfl
 | k+1,h=>by
  rw[ze,s7 fun i hi=>h i (by omega),EA (h k (by omega))]
  have key:∀s t:Int,(decide (s%2=1) != decide (t%2=1))=decide ((s+t)%2=1):=fun s t=>by
   by_cases h1:s%2=1<;>by_cases h2:t%2=1<;>by_cases h3:(s+t)%2=1<;>simp[h1,h2,h3]<;>omega
  exact key _ _
theorem VR.CC {r:List I2} (h:VR r) {p:I2} (hp:∀i,i<r.length→¬cP (nx r i) (nx r (i+1)) p):ze r p r.length = !decide (Jd.nz r p=0):=by
 rw[s7 hp];have:=h.nz hp
 show decide (Jd.nz r p%2=1)=_
 rcases this with e|e|e<;>rw[e]<;>rfl
def qw (a b c d:I2):Prop:=((0<ti a b c∧ti a b d<0)∨(ti a b c<0∧0<ti a b d))∧((0<ti c d a∧ti c d b<0)∨(ti c d a<0∧0<ti c d b))
def BS (a b c d:I2):Prop:=ti a b c=0∧ti a b d=0
section
variable {a b c d : I2}
theorem Dg (hab:a≠b) (hcd:c≠d):(∃x y,gA a b c d x∧gA a b c d y∧x≠y)↔BS a b c d∧low a b c d<0:=by
 by_cases h:BS a b c d
 ·have:=(oC hab hcd h.1 h.2).2;exact⟨fun g=>⟨h,this.2 g⟩,fun g=>this.1 g.2⟩
 ·exact⟨fun⟨x,y,hx,hy,hne⟩=>absurd (CS hcd h hx.2 hy.2) hne,fun g=>absurd g.1 h⟩
theorem BM (hab:a≠b) (hcd:c≠d):(∃x,gA a b c d x)↔(BS a b c d∧low a b c d≤0)∨(¬BS a b c d∧(cP a b c∨cP a b d∨cP c d a∨cP c d b)):=by
 by_cases h:BS a b c d
 ·have:=(oC hab hcd h.1 h.2).1;constructor
  ·rintro⟨x,hx⟩;refine .inl ⟨h,?_⟩;refine Decidable.byContradiction fun hc=>?_;exact this.1 (by omega) x hx
  ·rintro(⟨_,g⟩|⟨g,_⟩)
   ·refine Classical.byContradiction fun hc=>?_;have:=this.2 fun x hx=>hc ⟨x,hx⟩;omega
   ·exact absurd h g
 ·constructor
  ·rintro⟨x,h1,h2,h3⟩;refine .inr ⟨h,?_⟩;rcases h1 with rfl|rfl|rfl|rfl
   ·exact .inr (.inr (.inl h3))
   ·exact .inr (.inr (.inr h3))
   ·exact .inl h2
   ·exact .inr (.inl h2)
  ·rintro(⟨g,_⟩|⟨_,g⟩)
   ·exact absurd g h
   ·rcases g with g|g|g|g
    ·exact⟨c,.inr (.inr (.inl rfl)),g,xz c d⟩
    ·exact⟨d,.inr (.inr (.inr rfl)),g,wQ c d⟩
    ·exact⟨a,.inl rfl,xz a b,g⟩
    ·exact⟨b,.inr (.inl rfl),wQ a b,g⟩
theorem tq (h:qw a b c d):¬BS a b c d∧∀x,¬gA a b c d x:=by
 unfold qw at h;refine⟨fun g=>?_,fun x ⟨h1,h2,h3⟩=>?_⟩
 ·unfold BS at g; omega
 ·have e2:=h2.1;have e3:=h3.1;rcases h1 with rfl|rfl|rfl|rfl<;>omega
noncomputable def sN (a b c d:I2):Int:=open Classical in if ∃x y,gA a b c d x∧gA a b c d y∧x≠y then 3 else if ∃x,gA a b c d x then 1 else if qw a b c d then 2 else 0
theorem CI (hab:a≠b) (hcd:c≠d):sN a b c d=open Classical in if BS a b c d then(if 0<low a b c d then 0 else if low a b c d=0 then 1 else 3) else if qw a b c d then 2 else if cP a b c∨cP a b d∨cP c d a∨cP c d b then 1 else 0:=by
 classical
 unfold sN;have h2:=Dg hab hcd;have h1:=BM hab hcd
 by_cases hc:BS a b c d
 ·have hx:¬qw a b c d:=fun h=>(tq h).1 hc;rw[if_pos hc,if_neg hx]
  by_cases g1:0<low a b c d
  ·rw[if_pos g1,if_neg (fun h=>by have:=(h2.1 h).2; omega),if_neg (fun h=>(h1.1 h).elim (fun g=>by have:=g.2; omega) (fun g=>g.1 hc))]
  ·by_cases g2:low a b c d=0
   ·rw[if_neg g1,if_pos g2,if_neg (fun h=>by have:=(h2.1 h).2; omega),if_pos (h1.2 (.inl ⟨hc,by omega⟩))]
   ·rw[if_neg g1,if_neg g2,if_pos (h2.2 ⟨hc,by omega⟩)]
 ·rw[if_neg hc,if_neg (fun h=>hc (h2.1 h).1)]
  by_cases hx:qw a b c d
  ·rw[if_pos hx,if_pos hx,if_neg (fun⟨x,h⟩=>(tq hx).2 x h)]
  ·rw[if_neg hx,if_neg hx]
   by_cases hb:cP a b c∨cP a b d∨cP c d a∨cP c d b
   ·rw[if_pos hb,if_pos (h1.2 (.inr ⟨hc,hb⟩))]
   ·rw[if_neg hb,if_neg (fun h=>(h1.1 h).elim (fun g=>hc g.1) (fun g=>hb g.2))]
theorem so:sN a b c d=0↔NM a b c d:=by
 classical
 unfold sN NM;constructor
 ·intro h
  by_cases h1:∃x y,gA a b c d x∧gA a b c d y∧x≠y
  ·rw[if_pos h1] at h; exact absurd h (by decide)
  ·rw[if_neg h1] at h
   by_cases h2:∃x,gA a b c d x
   ·rw[if_pos h2] at h; exact absurd h (by decide)
   ·rw[if_neg h2] at h
    by_cases h3:qw a b c d
    ·rw[if_pos h3] at h; exact absurd h (by decide)
    ·exact⟨fun x hx=>h2 ⟨x,hx⟩,h3⟩
 ·rintro⟨h1,h2⟩;rw[if_neg (fun⟨x,_,hx,_⟩=>h1 x hx),if_neg (fun⟨x,hx⟩=>h1 x hx)];exact if_neg h2
end
section
variable {a b c d : I2}
theorem jI {x:I2}:gA a b c d x↔gA c d a b x:=by
 unfold gA;constructor<;>rintro⟨h,g1,g2⟩<;>exact⟨by rcases h with h|h|h|h<;>simp[h],g2,g1⟩
theorem gU {x:I2}:gA a b c d x↔gA b a c d x:=by
 unfold gA;rw[oM (a:=a) (b:=b)];constructor<;>rintro⟨h,g⟩<;>exact⟨by rcases h with h|h|h|h<;>simp[h],g⟩
theorem Ds:qw a b c d↔qw c d a b:=by unfold qw; exact And.comm
theorem Bs:qw a b c d↔qw b a c d:=by
 unfold qw;rw[dS a b c,dS a b d];constructor<;>rintro⟨h,g⟩<;>constructor<;>omega
theorem sJ:sN c d a b=sN a b c d:=by
 classical
 have h1:(∃x y,gA c d a b x∧gA c d a b y∧x≠y)↔∃x y,gA a b c d x∧gA a b c d y∧x≠y :=
  ⟨fun⟨x,y,p,q,r⟩=>⟨x,y,jI.1 p,jI.1 q,r⟩,fun⟨x,y,p,q,r⟩=>⟨x,y,jI.1 p,jI.1 q,r⟩⟩
 have h2:(∃x,gA c d a b x)↔∃x,gA a b c d x:=⟨fun⟨x,p⟩=>⟨x,jI.1 p⟩,fun⟨x,p⟩=>⟨x,jI.1 p⟩⟩;unfold sN;simp only[h1,h2,Ds (a:=c) (b:=d) (c:=a) (d:=b)]
theorem tj:sN b a c d=sN a b c d:=by
 classical
 have h1:(∃x y,gA b a c d x∧gA b a c d y∧x≠y)↔∃x y,gA a b c d x∧gA a b c d y∧x≠y :=
  ⟨fun⟨x,y,p,q,r⟩=>⟨x,y,gU.1 p,gU.1 q,r⟩,fun⟨x,y,p,q,r⟩=>⟨x,y,gU.1 p,gU.1 q,r⟩⟩
 have h2:(∃x,gA b a c d x)↔∃x,gA a b c d x:=⟨fun⟨x,p⟩=>⟨x,gU.1 p⟩,fun⟨x,p⟩=>⟨x,gU.1 p⟩⟩;unfold sN;simp only[h1,h2,Bs (a:=b) (b:=a) (c:=c) (d:=d)]
end
end Jd
end

section
namespace Go.Proofs.YthmekkhpddehjaaGreat
open Go Go.Ab Go.Ab.W Go.Ab.B Jd
def fQ (x:Int):Prop:=-9223372036854775808≤x∧x<9223372036854775808
def Fa (p:I2):Prop:=p.1 < -1000000∨1000000<p.1∨p.2 < -1000000∨1000000<p.2
instance (p:I2):Decidable (Fa p):=by unfold Fa; infer_instance
instance (a b p:I2):Decidable (cP a b p):=by unfold cP; infer_instance
theorem mM (a b:Int):ma a b=max a b:=by unfold ma; split<;>omega
theorem iO (a b:Int):mi a b=min a b:=by unfold mi; split<;>omega
theorem D5 {x:Int} (h:fQ x):IntKind.wrap .i64 (0-x)=if x = -9223372036854775808 then x else -x:=by
 unfold fQ at h
 split
 ·rename_i e; subst e; decide
 ·rw[aA (by omega) (by omega)]; omega
theorem AO (n:Nat) {x y:Int} (hx:fQ x) (hy:fQ y):F9 n x y=some (decide (Fa (x,y))):=by
 unfold F9;rw[D5 hx,D5 hy,aq,nf,←Bool.decide_or]
 congr 1
 rw[decide_eq_decide];unfold fQ at hx hy;unfold Fa
 dsimp only
 rw[mM,mM,mM,iO]
 split<;>split<;>omega
def sg (z:Int):Int:=if z<0 then -1 else if 0<z then 1 else 0
theorem wh (n:Nat) (x y:Int):Ew n x y=some (sg (x-y)):=by
 unfold Ew zE sg;simp only[decide_true,Bool.not_true,aq,dV]
 by_cases h:x<y
 ·rw[aP h,if_pos (show x-y<0 by omega)]
 ·rw[aU h,if_neg (show ¬x-y<0 by omega)]
  by_cases g:y<x
  ·rw[aP g,if_pos (show 0<x-y by omega)]
  ·rw[aU g,if_neg (show ¬0<x-y by omega)]
def Nr (p:I2):Prop:=-1000000≤p.1∧p.1≤1000000∧-1000000≤p.2∧p.2≤1000000
theorem xP {p:I2}:¬Fa p↔Nr p:=by unfold Fa Nr; omega
theorem jw (n:Nat) {a b c:I2} (ha:Nr a) (hb:Nr b) (hc:Nr c):zk n a.1 a.2 b.1 b.2 c.1 c.2=some (sg (ti a b c)):=by
 unfold Nr at ha hb hc;have m1:=cN (B:=2000000) (C:=2000000) (u:=b.1-a.1) (v:=c.2-a.2) (by decide) (by omega) (by omega) (by omega) (by omega)
 have m2:=cN (B:=2000000) (C:=2000000) (u:=b.2-a.2) (v:=c.1-a.1) (by decide) (by omega) (by omega) (by omega) (by omega)
 unfold zk;rw[aA (x:=b.1-a.1) (by omega) (by omega),aA (x:=c.2-a.2) (by omega) (by omega),aA (x:=b.2-a.2) (by omega) (by omega),aA (x:=c.1-a.1) (by omega) (by omega),
  aA (by omega) (by omega),aA (by omega) (by omega),aq,aq,wh,aq]
 rfl
theorem fu {z:Int}:sg z=0↔z=0:=by unfold sg; split<;>(try split)<;>omega
theorem u6 {z:Int}:sg z<0↔z<0:=by unfold sg; split<;>(try split)<;>omega
theorem oS {z:Int}:0<sg z↔0<z:=by unfold sg; split<;>(try split)<;>omega
theorem gQ (z:Int):sg z = -1∨sg z=0∨sg z=1:=by unfold sg; split<;>(try split)<;>simp
theorem Ei (n:Nat) (r s:Int) (hn:2<n):Hm n [r,s]=some (if r≠0 then r else s):=by
 obtain⟨n,rfl⟩:∃n',n=n'+3:=⟨n-3,by omega⟩
 have L0:nh (n+3) [r,s] 0=if r≠0 then some (.inr (.inl r)) else some (.inl 1):=by
  unfold nh;rw[aP (by simp),show dq 0 [r,s].length=true from rfl,bA]
  show ob (some r) _=_
  rw[aq]
  by_cases h:r=0
  ·rw[decide_eq_true h,Bool.not_true,dV,if_neg (by simpa using h)]; rfl
  ·rw[decide_eq_false h,Bool.not_false,kA,if_pos h]
 have L1:nh (n+3) [r,s] 1=if s≠0 then some (.inr (.inl s)) else some (.inl 2):=by
  unfold nh;rw[aP (by simp),show dq 1 [r,s].length=true from rfl,bA]
  show ob (some s) _=_
  rw[aq]
  by_cases h:s=0
  ·rw[decide_eq_true h,Bool.not_true,dV,if_neg (by simpa using h)]; rfl
  ·rw[decide_eq_false h,Bool.not_false,kA,if_pos h]
 have L2:nh (n+3) [r,s] 2=some (.inr (.inr ())):=by
  unfold nh;rw[aU (by simp)]
 unfold Hm
 by_cases h:r=0
 ·rw[if_neg (by simpa using h)] at L0 ⊢
  rw[bH L0]
  by_cases g:s=0
  ·rw[if_neg (by simpa using g)] at L1
   rw[bH L1,dM L2,aq,g]
  ·rw[if_pos g] at L1;rw[dM L1,aq]
 ·rw[if_pos h] at L0 ⊢;rw[dM L0,aq]
def HM (a b:I2):Int:=if sg (a.1-b.1)≠0 then sg (a.1-b.1) else sg (a.2-b.2)
theorem wj (n:Nat) (a b:I2) (hn:2<n):C8 n a.1 a.2 b.1 b.2=some (HM a b):=by
 unfold C8;rw[wh,aq,wh,aq,Ei n _ _ hn,aq]; rfl
theorem qX {a b:I2}:HM a b≤0↔Lx a b:=by
 unfold HM Lx;have h1:=fu (z:=a.1-b.1);have h2:=oS (z:=a.1-b.1);have h3:=oS (z:=a.2-b.2)
 split<;>omega
theorem vL (n:Nat) (e:Int) {a b p:I2} (ha:Nr a) (hb:Nr b) (hp:Nr p) (hab:a≠b) (hn:2<n):wZ n e a.1 a.2 b.1 b.2 p.1 p.2=some (decide (cP a b p)):=by
 unfold wZ;rw[jw n ha hb hp,aq]
 by_cases h0:ti a b p=0
 ·rw[decide_eq_true (fu.2 h0),Bool.not_true,dV,wj n a b hn,aq];have key:∀{u v:I2},u≠v→Lx u v→ti u v p=0→(ob (C8 n u.1 u.2 p.1 p.2) fun r28=>br (decide (r28≤0)) (ob (C8 n p.1 p.2 v.1 v.2) fun r31=>some (decide (r31≤0))) (some false))=some (decide (cP u v p)):=fun {u v} huv hl ht=>by
   rw[wj n u p hn,aq,wj n p v hn,aq,dz,←Bool.decide_and]
   congr 1
   rw[decide_eq_decide,EB huv hl,qX,qX];exact⟨fun h=>⟨ht,h⟩,fun h=>h.2⟩
  by_cases hl:0<HM a b
  ·rw[aP hl,aq];have hl':Lx b a:=by
    have:¬Lx a b:=fun h=>by have:=qX.2 h; omega
    unfold Lx at this ⊢; omega
   have:=key hab.symm hl' (by rw[dS,h0]; rfl)
   dsimp only
   rw[this]
   congr 1
   rw[decide_eq_decide]; exact oM
  ·rw[aU hl,aq];exact key hab (qX.1 (by omega)) h0
 ·rw[decide_eq_false (fun h=>h0 (fu.1 h)),Bool.not_false,kA,decide_eq_false fun h=>h0 h.1]
theorem oA {α β:Type} [DecidableEq α] (k:α):∀(xs:List (α × β)) (i:Nat),(kh k xs i=none∧k ∉ xs.map Prod.fst)∨∃j v,kh k xs i=some (i+j,v)∧(xs[j]?).map Prod.fst=some k
 | [],_=>.inl ⟨rfl,by simp⟩
 | e::es,i=>by
  unfold kh
  by_cases h:k=e.1
  ·rw[if_pos h]; exact .inr ⟨0,e.2,rfl,by rw[h]; rfl⟩
  ·rw[if_neg h];rcases oA k es (i+1) with⟨h1,h2⟩|⟨j,v,h1,h2⟩
   ·exact .inl ⟨h1,fun g=>by
     rw[List.map_cons,List.mem_cons] at g;exact g.elim h h2⟩
   ·exact .inr ⟨j+1,v,by rw[h1,show i+1+j=i+(j+1) by omega],h2⟩
theorem yF {α β:Type} [DecidableEq α] (xs:List (α × β)) (k:α) (v:β):(vY xs k v).map Prod.fst=if k ∈ xs.map Prod.fst then xs.map Prod.fst else xs.map Prod.fst++[k]:=by
 unfold vY;rcases oA k xs 0 with⟨h1,h2⟩|⟨j,w,h1,h2⟩
 ·rw[h1,if_neg h2]; simp
 ·rw[h1,Nat.zero_add];have hj:j<xs.length:=by
   refine Decidable.byContradiction fun hc=>?_;rw[List.getElem?_eq_none (by omega)] at h2; cases h2
  have e:(xs.map Prod.fst)[j]? = some k:=by rw[List.getElem?_map]; exact h2
  rw[if_pos (List.mem_of_getElem? e),List.map_set];refine List.ext_getElem? fun t=>?_;rw[List.getElem?_set]
  by_cases ht:j=t
  ·subst ht;rw[if_pos rfl,if_pos (by rw[List.length_map]; exact hj),e]
  ·rw[if_neg ht]
def sO (a b c d:I2) (l:List (I2 × Bool)) (x:I2):List (I2 × Bool):=if cP a b x∧cP c d x then vY l x true else l
theorem ur {a b c d:I2}:∀(xs:List I2) (l:List (I2 × Bool)),(l.map Prod.fst).Nodup→((xs.foldl (sO a b c d) l).map Prod.fst).Nodup∧∀q,q ∈ (xs.foldl (sO a b c d) l).map Prod.fst↔q ∈ l.map Prod.fst∨(q ∈ xs∧cP a b q∧cP c d q)
 | [],l,hn=>⟨hn,fun q=>by simp⟩
 | x::xs,l,hn=>by
  rw[List.foldl_cons];have key:((sO a b c d l x).map Prod.fst).Nodup∧∀q,q ∈ (sO a b c d l x).map Prod.fst↔q ∈ l.map Prod.fst∨(q=x∧cP a b q∧cP c d q):=by
   unfold sO
   by_cases h:cP a b x∧cP c d x
   ·rw[if_pos h,yF]
    by_cases g:x ∈ l.map Prod.fst
    ·rw[if_pos g];exact⟨hn,fun q=>⟨.inl,fun e=>e.elim id fun e=>e.1 ▸ g⟩⟩
    ·rw[if_neg g];refine⟨List.nodup_append.2 ⟨hn,by simp,fun u hu v hv=>?_⟩,fun q=>?_⟩
     ·rw[List.mem_singleton] at hv;intro e; rw[e,hv] at hu; exact g hu
     ·rw[List.mem_append,List.mem_singleton];exact⟨fun e=>e.elim .inl fun e=>.inr ⟨e,e ▸ h⟩,fun e=>e.elim .inl fun e=>.inr e.1⟩
   ·rw[if_neg h];exact⟨hn,fun q=>⟨.inl,fun e=>e.elim id fun⟨e,g⟩=>absurd (e ▸ g) h⟩⟩
  obtain⟨k1,k2⟩:=key;obtain⟨r1,r2⟩:=ur xs _ k1;refine⟨r1,fun q=>?_⟩;rw[r2,k2,List.mem_cons];constructor
  ·rintro((h|⟨rfl,h⟩) | ⟨h,g⟩)
   ·exact .inl h
   ·exact .inr ⟨.inl rfl,h⟩
   ·exact .inr ⟨.inr h,g⟩
  ·rintro(h|⟨rfl|h,g⟩)
   ·exact .inl (.inl h)
   ·exact .inl (.inr ⟨rfl,g⟩)
   ·exact .inr ⟨h,g⟩
theorem sI (n:Nat) (e f:Int) {a b c d x:I2} (ha:Nr a) (hb:Nr b) (hc:Nr c) (hd:Nr d) (hx:Nr x) (hab:a≠b) (hcd:c≠d) (hn:2<n) (l:List (I2 × Bool)) {i:Nat} (hi:i<4) (he:[a,b,c,d][i]? = some x) :
  mS n a.1 a.2 b.1 b.2 c.1 c.2 d.1 d.2 e f (l,(i:Int))=some (.inl (sO a b c d l x,((i+1:Nat):Int))):=by
 unfold mS
 dsimp only
 rw[aP (by omega),aZ hi,bA,Int.toNat_natCast]
 have:[(a.1,a.2),(b.1,b.2),(c.1,c.2),(d.1,d.2)][i]? = some (x.1,x.2):=he;rw[this,aq]
 dsimp only
 rw[vL n e ha hb hx hab hn,aq,vL n f hc hd hx hcd hn,aq,dz,aq,aX (by omega)]
 unfold sO
 by_cases h:cP a b x∧cP c d x
 ·rw[decide_eq_true h.1,decide_eq_true h.2,if_pos h]; rfl
 ·rw[if_neg h,←Bool.decide_and,decide_eq_false h]; rfl
theorem FP (n:Nat) (e f:Int) {a b c d:I2} (ha:Nr a) (hb:Nr b) (hc:Nr c) (hd:Nr d) (hab:a≠b) (hcd:c≠d) (hn:5<n):Hw n e a.1 a.2 b.1 b.2 f c.1 c.2 d.1 d.2=some (sN a b c d):=by
 classical
 unfold Hw;rw[jw n ha hb hc,aq,jw n ha hb hd,aq,jw n hc hd ha,aq,jw n hc hd hb,aq];have L:dn (mS n a.1 a.2 b.1 b.2 c.1 c.2 d.1 d.2 e f) n ([],0)=some ([a,b,c,d].foldl (sO a b c d) []):=by
  obtain⟨m,hm⟩:∃m,n=m+5:=⟨n-5,by omega⟩
  have L5:∀l,mS n a.1 a.2 b.1 b.2 c.1 c.2 d.1 d.2 e f (l,((4:Nat):Int))=some (.inr l):=fun l=>by
   unfold mS
   dsimp only
   rw[aU (by decide)]
  have h0:=sI n e f ha hb hc hd ha hab hcd (by omega) [] (i:=0) (by decide) rfl
  have h1:=sI n e f ha hb hc hd hb hab hcd (by omega) (sO a b c d [] a) (i:=1) (by decide) rfl
  have h2:=sI n e f ha hb hc hd hc hab hcd (by omega) (sO a b c d (sO a b c d [] a) b) (i:=2) (by decide) rfl
  have h3:=sI n e f ha hb hc hd hd hab hcd (by omega) (sO a b c d (sO a b c d (sO a b c d [] a) b) c) (i:=3) (by decide) rfl
  have:∀body:(List (I2 × Bool) × Int)→Option ((List (I2 × Bool) × Int) ⊕ List (I2 × Bool)),body=mS n a.1 a.2 b.1 b.2 c.1 c.2 d.1 d.2 e f→dn body n ([],0)=some ([a,b,c,d].foldl (sO a b c d) []):=fun body hbd=>by
   rw[←hbd] at h0 h1 h2 h3 L5;rw[hm,show(0:Int)=((0:Nat):Int) from rfl,bH h0,bH h1,bH h2,bH h3,dM (L5 _)]
   rfl
  exact this _ rfl
 obtain⟨k1,k2⟩:=ur (a:=a) (b:=b) (c:=c) (d:=d) [a,b,c,d] [] (by simp)
 have hlen:([a,b,c,d].foldl (sO a b c d) []).length=(([a,b,c,d].foldl (sO a b c d) []).map Prod.fst).length:=by rw[List.length_map]
 rw[L,aq];generalize [a,b,c,d].foldl (sO a b c d) []=l at *;have kc:∀q,q ∈ l.map Prod.fst↔gA a b c d q:=fun q=>by
  rw[k2];unfold gA;constructor
  ·rintro(h|⟨h,g⟩)
   ·simp at h
   ·exact⟨by simpa only[List.mem_cons,List.not_mem_nil,or_false] using h,g⟩
  ·rintro⟨h,g⟩;exact .inr ⟨by simpa only[List.mem_cons,List.not_mem_nil,or_false] using h,g⟩
 rw[aq,aq,hlen];generalize l.map Prod.fst=ks at *;unfold sN
 by_cases h2:∃x y,gA a b c d x∧gA a b c d y∧x≠y
 ·obtain⟨x,y,hx,hy,hne⟩:=h2;have:=qM (l:=[x,y]) (m:=ks) (by simp[hne]) fun q hq=>by
   simp only[List.mem_cons,List.not_mem_nil,or_false] at hq;rcases hq with rfl|rfl
   ·exact(kc _).2 hx
   ·exact(kc _).2 hy
  have hl:2≤ks.length:=this;rw[aP (by omega),if_pos ⟨x,y,hx,hy,hne⟩]
 ·have hl1:ks.length≤1:=by
   match ks,k1,kc with
   | [],_,_=>exact Nat.zero_le _
   | [_],_,_=>exact Nat.le_refl _
   | x::y::t,k1,kc =>
    refine absurd ⟨x,y,(kc x).1 (by simp),(kc y).1 (by simp),?_⟩ h2
    intro e; subst e; simp at k1
  rw[if_neg h2,aU (by omega)]
  by_cases h1:∃x,gA a b c d x
  ·obtain⟨x,hx⟩:=h1;have:0<ks.length:=List.length_pos_of_mem ((kc x).2 hx);rw[if_pos ⟨x,hx⟩,aP (by omega)]
  ·have:ks.length=0:=by
    match ks,kc with
    | [],_=>rfl
    | x::t,kc=>exact absurd ⟨x,(kc x).1 (by simp)⟩ h1
   rw[if_neg h1,aU (by omega)]
   have w:∀u v:Int,IntKind.wrap .i64 (sg u*sg v)=sg u*sg v:=fun u v=>by
    have h1:=gQ u;have h2:=gQ v;rcases h1 with h1|h1|h1<;>rcases h2 with h2|h2|h2<;>rw[h1,h2]<;>decide
   have s:∀u v:Int,sg u*sg v<0↔(0<u∧v<0)∨(u<0∧0<v):=fun u v=>by
    have a1:=u6 (z:=u);have a2:=oS (z:=u);have b1:=u6 (z:=v);have b2:=oS (z:=v);have h1:=gQ u;have h2:=gQ v;rcases h1 with h1|h1|h1<;>rcases h2 with h2|h2|h2<;>rw[h1] at a1 a2 ⊢<;>rw[h2] at b1 b2 ⊢<;>omega
   rw[w,w,dz,aq,F5]
   by_cases hx:qw a b c d
   ·rw[if_pos hx,if_pos];unfold qw at hx;rw[Bool.and_eq_true,decide_eq_true_eq,decide_eq_true_eq,s,s];exact hx
   ·rw[if_neg hx,if_neg];rw[Bool.and_eq_true,decide_eq_true_eq,decide_eq_true_eq,s,s];exact hx
def cD {ρ:Type} (f:Nat→Option ρ) (e:ρ):Nat→Nat→ρ
 | 0,_=>e
 | k+1,i=>match f i with
  | some r=>r
  | none=>cD f e k (i+1)
theorem dT {ρ:Type} {B:Int→Option (Int ⊕ ρ)} {f:Nat→Option ρ} {e:ρ} {len:Nat} (hB:∀i:Nat,i<len→B (i:Int)=some (match f i with|some r=>.inr r|none=>.inl ((i+1:Nat):Int))) (hE:B (len:Int)=some (.inr e)) :
  ∀(k i n:Nat),i+k=len→k<n→dn B n (i:Int)=some (cD f e k i)
 | 0,i,n+1,h,_=>by
  rw[Nat.add_zero] at h; subst h;simp only[dn,hE,cD]
 | k+1,i,n+1,h,hn=>by
  have:=hB i (by omega)
  simp only[dn,this,cD];cases hf:f i with
  | some r=>rfl
  | none=>exact dT hB hE k (i+1) n (by omega) (by omega)
theorem eO {ρ:Type} {f:Nat→Option ρ} {e:ρ}:∀(k i:Nat),((∀j,i≤j→j<i+k→f j=none)∧cD f e k i=e)∨∃j,i≤j∧j<i+k∧f j=some (cD f e k i)
 | 0,i=>.inl ⟨fun j h1 h2=>by omega,rfl⟩
 | k+1,i=>by
  cases hf:f i with
  | some r=>exact .inr ⟨i,by omega,by omega,by simp only[cD,hf]⟩
  | none =>
   have e1:cD f e (k+1) i=cD f e k (i+1):=by simp only[cD,hf]
   rw[e1];rcases eO (f:=f) (e:=e) k (i+1) with⟨h1,h2⟩|⟨j,h1,h2,h3⟩
   ·refine .inl ⟨fun j a b=>?_,h2⟩
    by_cases e:j=i
    ·rw[e]; exact hf
    ·exact h1 j (by omega) (by omega)
   ·exact .inr ⟨j,by omega,by omega,h3⟩
theorem du {l:List I2} {i:Nat} (h:i<l.length):l[((i:Nat):Int).toNat]? = some ((nx l i).1,(nx l i).2):=by
 rw[Int.toNat_natCast,List.getElem?_eq_getElem h];unfold nx;rw[Nat.mod_eq_of_lt h,List.getD_eq_getElem?_getD,List.getElem?_eq_getElem h]; rfl
theorem iC (m n:Nat):Int.tmod (m:Int) (n:Int)=((m%n:Nat):Int):=rfl
theorem oY {l:List I2} {i:Nat}:nx l (i%l.length)=nx l i:=by unfold nx; rw[Nat.mod_mod]
theorem Ao (n:Nat) (p:I2):Gb n p.1 p.2=some (decide (Fa p)):=by
 unfold Gb Fa;rw[nf,nf,nf,←Bool.decide_or,←Bool.decide_or,←Bool.decide_or]
theorem jx (n:Nat) {l:List I2} (i:Nat) (h:l≠[]):zm n l (i:Int)=some ((nx l i).1,(nx l i).2):=by
 have hl:0<l.length:=List.length_pos_iff.2 h;have hm:i%l.length<l.length:=Nat.mod_lt _ hl;unfold zm;rw[decide_eq_true (show((l.length:Nat):Int)≠0 by omega),bA,iC,aZ hm,bA,du hm,aq,oY]
theorem jh (n:Nat) {a b c:I2} (ha:Nr a) (hb:Nr b) (hc:Nr c):zl n a.1 a.2 b.1 b.2 c.1 c.2=some (ti a b c):=by
 unfold Nr at ha hb hc;have m1:=cN (B:=2000000) (C:=2000000) (u:=b.1-a.1) (v:=c.2-a.2) (by decide) (by omega) (by omega) (by omega) (by omega)
 have m2:=cN (B:=2000000) (C:=2000000) (u:=b.2-a.2) (v:=c.1-a.1) (by decide) (by omega) (by omega) (by omega) (by omega)
 unfold zl;rw[aA (x:=b.1-a.1) (by omega) (by omega),aA (x:=c.2-a.2) (by omega) (by omega),aA (x:=b.2-a.2) (by omega) (by omega),aA (x:=c.1-a.1) (by omega) (by omega),
  aA (by omega) (by omega),aA (by omega) (by omega),aq,aq,aA (by omega) (by omega)]
 rfl
theorem G4 {a b c:I2} (ha:Nr a) (hb:Nr b) (hc:Nr c):IntKind.wrap .i64 (IntKind.wrap .i64 ((IntKind.wrap .i64 (b.1-a.1))*(IntKind.wrap .i64 (c.1-b.1)))+IntKind.wrap .i64 ((IntKind.wrap .i64 (b.2-a.2))*(IntKind.wrap .i64 (c.2-b.2))))=di a b c:=by
 unfold Nr at ha hb hc;have m1:=cN (B:=2000000) (C:=2000000) (u:=b.1-a.1) (v:=c.1-b.1) (by decide) (by omega) (by omega) (by omega) (by omega)
 have m2:=cN (B:=2000000) (C:=2000000) (u:=b.2-a.2) (v:=c.2-b.2) (by decide) (by omega) (by omega) (by omega) (by omega)
 rw[aA (x:=b.1-a.1) (by omega) (by omega),aA (x:=c.1-b.1) (by omega) (by omega),aA (x:=b.2-a.2) (by omega) (by omega),aA (x:=c.2-b.2) (by omega) (by omega),
  aA (x:=(b.1-a.1)*(c.1-b.1)) (by omega) (by omega),aA (x:=(b.2-a.2)*(c.2-b.2)) (by omega) (by omega),aA (by omega) (by omega)]
 rfl
theorem EP (n:Nat) {a b c:I2} (ha:Nr a) (hb:Nr b) (hc:Nr c):HE n a.1 a.2 b.1 b.2 c.1 c.2=some (di a b c):=by
 unfold HE;rw[aq,aq,G4 ha hb hc]
theorem rM (n:Nat) (z:Int):DI n z=some (sg z):=by
 unfold DI sg
 by_cases h:0<z
 ·rw[aP h,if_neg (by omega),if_pos h]
 ·rw[aU h,if_neg h]
  by_cases g:z<0
  ·rw[aP g,if_pos g]
  ·rw[aU g,if_neg g]
theorem o7 (n:Nat) {a b p:I2} (ha:Nr a) (hb:Nr b) (hp:Nr p):Di n a.1 a.2 b.1 b.2 p.1 p.2=some (decide (cP a b p)):=by
 unfold Di;rw[jh n ha hb hp,aq]
 by_cases h:ti a b p=0
 ·rw[decide_eq_true h,Bool.not_true,dV,dz,dz,dz,mM,mM,iO,iO,←Bool.decide_and,←Bool.decide_and,←Bool.decide_and]
  congr 1
  rw[decide_eq_decide];unfold cP;exact⟨fun g=>⟨h,g⟩,fun g=>g.2⟩
 ·rw[decide_eq_false h,Bool.not_false,kA,decide_eq_false fun g=>h g.1]
theorem DS {a b c d:I2} (ha:Nr a) (hb:Nr b) (hc:Nr c) (hd:Nr d) :
  IntKind.wrap .i64 ((ma (mi a.1 b.1) (mi c.1 d.1))-(mi (ma a.1 b.1) (ma c.1 d.1)))=max (min a.1 b.1) (min c.1 d.1)-min (max a.1 b.1) (max c.1 d.1) ∧
  IntKind.wrap .i64 ((ma (mi a.2 b.2) (mi c.2 d.2))-(mi (ma a.2 b.2) (ma c.2 d.2)))=max (min a.2 b.2) (min c.2 d.2)-min (max a.2 b.2) (max c.2 d.2):=by
 unfold Nr at ha hb hc hd;simp only[mM,iO];exact⟨aA (by omega) (by omega),aA (by omega) (by omega)⟩
theorem xT (x y:Int):IntKind.wrap .i64 (sg x*sg y)=sg x*sg y:=by
 rcases gQ x with h|h|h<;>rcases gQ y with g|g|g<;>rw[h,g]<;>decide
theorem q7 (x y:Int):sg x*sg y<0↔(0<x∧y<0)∨(x<0∧0<y):=by
 unfold sg
 split<;>split<;>(try split)<;>(try split)<;>omega
theorem EC (n:Nat) {a b c d:I2} (ha:Nr a) (hb:Nr b) (hc:Nr c) (hd:Nr d) (hab:a≠b) (hcd:c≠d):G7 n a.1 a.2 b.1 b.2 c.1 c.2 d.1 d.2=some (sN a b c d):=by
 classical
 rw[CI hab hcd];unfold G7;rw[jh n ha hb hc,aq,rM,aq,jh n ha hb hd,aq,rM,aq,jh n hc hd ha,aq,rM,aq,jh n hc hd hb,aq,rM,aq,dz,aq,←Bool.decide_and];rw[(DS ha hb hc hd).1,(DS ha hb hc hd).2]
 by_cases h:BS a b c d
 ·have h':sg (ti a b c)=0∧sg (ti a b d)=0:=⟨fu.2 h.1,fu.2 h.2⟩;rw[aP h',if_pos h];have hl:(ob (some (max (min a.1 b.1) (min c.1 d.1)-min (max a.1 b.1) (max c.1 d.1))) fun y54=>ob (br (decide (a.1=b.1)) (ob (some (max (min a.2 b.2) (min c.2 d.2)-min (max a.2 b.2) (max c.2 d.2))) fun y61=>some y61) (some y54)) fun v59=>br (decide (0<v59)) (some (0:Int)) (br (decide (v59=0)) (some 1) (some 3)))
    = br (decide (0<low a b c d)) (some 0) (br (decide (low a b c d=0)) (some 1) (some 3)):=by
   unfold low
   by_cases e:a.1=b.1
   ·rw[aq,aP e,aq,aq,if_pos e]
   ·rw[aq,aU e,aq,if_neg e]
  rw[hl]
  by_cases g:0<low a b c d
  ·rw[aP g,if_pos g]
  ·rw[aU g,if_neg g]
   by_cases k:low a b c d=0
   ·rw[aP k,if_pos k]
   ·rw[aU k,if_neg k]
 ·have h':¬(sg (ti a b c)=0∧sg (ti a b d)=0):=fun g=>h ⟨fu.1 g.1,fu.1 g.2⟩;rw[aU h',if_neg h,xT,xT,dz,aq,←Bool.decide_and]
  by_cases g:qw a b c d
  ·have g':sg (ti a b c)*sg (ti a b d)<0∧sg (ti c d a)*sg (ti c d b)<0:=⟨(q7 _ _).2 g.1,(q7 _ _).2 g.2⟩;rw[aP g',if_pos g]
  ·have g':¬(sg (ti a b c)*sg (ti a b d)<0∧sg (ti c d a)*sg (ti c d b)<0):=fun k=>g ⟨(q7 _ _).1 k.1,(q7 _ _).1 k.2⟩;rw[aU g',if_neg g,o7 n ha hb hc,o7 n ha hb hd,o7 n hc hd ha,o7 n hc hd hb];simp only[aq,nf,←Bool.decide_or]
   by_cases k:cP a b c∨cP a b d∨cP c d a∨cP c d b
   ·rw[aP k,if_pos k]
   ·rw[aU k,if_neg k]
def jS (l:List I2) (i:Nat):Option (Int ⊕ Unit):=if Fa (nx l i) then some (.inl (i:Int)) else none
def eJ (l:List I2) (i:Nat):Option (Int ⊕ Unit):=if nx l i=nx l (i+1) then some (.inl (i:Int)) else none
def fg (l:List I2) (i:Nat):Option (Int ⊕ Unit):=if ti (nx l (i+l.length-1)) (nx l i) (nx l (i+1))=0∧di (nx l (i+l.length-1)) (nx l i) (nx l (i+1))<0 then some (.inl (i:Int)) else none
def pY (l:List I2) (i j:Nat):Prop:=¬(j=0∧i=l.length-1)∧sN (nx l j) (nx l (j+1)) (nx l i) (nx l (i+1))≠0
open Classical in
noncomputable def fe (l:List I2) (i:Nat):Option (Int ⊕ Unit):=if ∃j,j+1<i∧pY l i j then some (.inl (i:Int)) else none
noncomputable def lA (l:List I2):Int × Int :=
 if l.length<3∨40<l.length then(1,0) else
 match cD (jS l) (.inr ()) l.length 0 with
 | .inl v=>(2,v)
 | .inr _=>match cD (eJ l) (.inr ()) l.length 0 with
  | .inl v=>(3,v)
  | .inr _=>match cD (fg l) (.inr ()) l.length 0 with
   | .inl v=>(4,v)
   | .inr _=>match cD (fe l) (.inr ()) l.length 0 with
    | .inl v=>(5,v)
    | .inr _=>(0,0)
section
variable {l : List I2} (n : Nat)
theorem lN (p q:I2):(decide (p.1=q.1) && decide (p.2=q.2))=decide (p=q):=by
 rw[←Bool.decide_and,decide_eq_decide]; exact⟨fun h=>Prod.ext h.1 h.2,fun h=>by subst h; exact⟨rfl,rfl⟩⟩
theorem zp (hn:l.length<n) (hl:l.length<100):dn (tv n l) n 0=some (cD (jS l) (.inr ()) l.length 0):=by
 refine dT (len:=l.length) (fun i hi=>?_) ?_ l.length 0 n (by omega) hn
 ·unfold tv jS
  dsimp only
  rw[aP (by omega),aZ hi,bA,du hi,aq]
  dsimp only
  rw[Ao,aq,aX (by omega)]
  by_cases h:Fa (nx l i)
  ·rw[aP h,if_pos h]
  ·rw[aU h,if_neg h]
 ·unfold tv
  dsimp only
  rw[aU (by omega)]
theorem zw (h64:∀i,fQ (nx l i).1∧fQ (nx l i).2) (hn:l.length<n) (hl:l.length<100):dn (uj n l) n 0=some (cD (jS l) (.inr ()) l.length 0):=by
 refine dT (len:=l.length) (fun i hi=>?_) ?_ l.length 0 n (by omega) hn
 ·unfold uj jS
  dsimp only
  rw[aP (by omega),aZ hi,bA,du hi,aq]
  dsimp only
  rw[AO n (h64 i).1 (h64 i).2,aq,aX (by omega)]
  by_cases h:Fa (nx l i)
  ·rw[aP (show Fa ((nx l i).1,(nx l i).2) from h),if_pos h]
  ·rw[aU (show ¬Fa ((nx l i).1,(nx l i).2) from h),if_neg h]
 ·unfold uj
  dsimp only
  rw[aU (by omega)]
theorem Bk (hn:l.length<n) (hl:l.length<100):dn (tB n l) n 0=some (cD (eJ l) (.inr ()) l.length 0):=by
 refine dT (len:=l.length) (fun i hi=>?_) ?_ l.length 0 n (by omega) hn
 ·have hne:l≠[]:=by rintro rfl; cases hi
  unfold tB eJ
  dsimp only
  rw[aP (by omega),aZ hi,bA,du hi,aq]
  dsimp only
  rw[aX (by omega),jx n (i+1) hne,aq]
  dsimp only
  rw[lN]
  by_cases h:nx l i=nx l (i+1)
  ·rw[aP h,if_pos h]
  ·rw[aU h,if_neg h]
 ·unfold tB
  dsimp only
  rw[aU (by omega)]
theorem gD (i:Nat) (hi:i<l.length) (hl:l.length<100) {β:Type} (K:Int × Int→Option β) :
  gd (decide ((l.length:Int)≠0)) (gd (dq (Int.tmod ((i+1:Nat):Int) (l.length:Int)) l.length) (ob (l[(Int.tmod ((i+1:Nat):Int) (l.length:Int)).toNat]?) K))=K ((nx l (i+1)).1,(nx l (i+1)).2):=by
 have hm:(i+1)%l.length<l.length:=Nat.mod_lt _ (by omega)
 rw[decide_eq_true (show((l.length:Nat):Int)≠0 by omega),bA,iC,aZ hm,bA,du hm,aq,oY]
theorem z6 (hn:l.length<n) (hl:l.length<100):dn (tl n l) n 0=some (cD (eJ l) (.inr ()) l.length 0):=by
 refine dT (len:=l.length) (fun i hi=>?_) ?_ l.length 0 n (by omega) hn
 ·unfold tl eJ
  dsimp only
  rw[aP (by omega),aZ hi,bA,du hi,aq]
  dsimp only
  rw[aX (by omega),gD i hi hl]
  dsimp only
  rw[lN]
  by_cases h:nx l i=nx l (i+1)
  ·rw[aP h,if_pos h]; rfl
  ·rw[aU h,if_neg h]; rfl
 ·unfold tl
  dsimp only
  rw[aU (by omega)]
theorem BE (hnr:∀i,Nr (nx l i)) (hn:l.length<n) (hl:l.length<100):dn (tI n l) n 0=some (cD (fg l) (.inr ()) l.length 0):=by
 refine dT (len:=l.length) (fun i hi=>?_) ?_ l.length 0 n (by omega) hn
 ·have hne:l≠[]:=by rintro rfl; cases hi
  have e1:IntKind.wrap .i64 ((IntKind.wrap .i64 ((i:Int)+(l.length:Int)))-1)=((i+l.length-1:Nat):Int):=by
   rw[aA (x:=(i:Int)+(l.length:Int)) (by omega) (by omega),aA (by omega) (by omega)]; omega
  unfold tI fg
  dsimp only
  rw[aP (by omega),e1,jx n _ hne,aq]
  dsimp only
  rw[aZ hi,bA,du hi,aq]
  dsimp only
  rw[aX (by omega),jx n (i+1) hne,aq]
  dsimp only
  rw[jh n (hnr _) (hnr _) (hnr _),aq,EP n (hnr _) (hnr _) (hnr _),aq,dz,aq,←Bool.decide_and]
  by_cases h:ti (nx l (i+l.length-1)) (nx l i) (nx l (i+1))=0∧di (nx l (i+l.length-1)) (nx l i) (nx l (i+1))<0
  ·rw[aP h,if_pos h]
  ·rw[aU h,if_neg h]
 ·unfold tI
  dsimp only
  rw[aU (by omega)]
theorem BH (hnr:∀i,Nr (nx l i)) (hn:l.length<n) (hl:l.length<100):dn (tu n l) n 0=some (cD (fg l) (.inr ()) l.length 0):=by
 refine dT (len:=l.length) (fun i hi=>?_) ?_ l.length 0 n (by omega) hn
 ·have hm:(i+l.length-1)%l.length<l.length:=Nat.mod_lt _ (by omega)
  have e1:IntKind.wrap .i64 ((IntKind.wrap .i64 ((i:Int)+(l.length:Int)))-1)=((i+l.length-1:Nat):Int):=by
   rw[aA (x:=(i:Int)+(l.length:Int)) (by omega) (by omega),aA (by omega) (by omega)]; omega
  unfold tu fg
  dsimp only
  rw[aP (by omega),aZ hi,bA,du hi,aq]
  dsimp only
  rw[aX (by omega),gD i hi hl]
  dsimp only
  rw[e1,decide_eq_true (show((l.length:Nat):Int)≠0 by omega),bA,iC,aq,aZ hm,bA,du hm,oY,aq]
  dsimp only
  rw[jw n (hnr _) (hnr _) (hnr _),aq,aq,aq,G4 (hnr _) (hnr _) (hnr _),dz,aq,←Bool.decide_and]
  by_cases h:ti (nx l (i+l.length-1)) (nx l i) (nx l (i+1))=0∧di (nx l (i+l.length-1)) (nx l i) (nx l (i+1))<0
  ·rw[aP (show _∧_ from⟨fu.2 h.1,h.2⟩),if_pos h]; rfl
  ·rw[aU (fun g=>h ⟨fu.1 g.1,g.2⟩),if_neg h]; rfl
 ·unfold tu
  dsimp only
  rw[aU (by omega)]
end
section
variable {l : List I2} (n : Nat)
open Classical in
noncomputable def xE {ρ:Type} (l:List I2) (r:ρ) (i j:Nat):Option ρ:=if pY l i j then some r else none
theorem An {ρ:Type} {r e:ρ} (_:r≠e) {i:Nat}:(cD (xE l r i) e (i-1) 0=r∧∃j,j+1<i∧pY l i j)∨(cD (xE l r i) e (i-1) 0=e∧¬∃j,j+1<i∧pY l i j):=by
 classical
 rcases eO (f:=xE l r i) (e:=e) (i-1) 0 with⟨h1,h2⟩|⟨j,_,h2,h3⟩
 ·refine .inr ⟨h2,?_⟩;rintro⟨j,hj,hh⟩;have:=h1 j (by omega) (by omega)
  unfold xE at this;rw[if_pos hh] at this;cases this
 ·unfold xE at h3
  split at h3
  ·rename_i hh;exact .inl ⟨(Option.some.inj h3).symm,j,by omega,hh⟩
  ·cases h3
theorem zS (hnr:∀i,Nr (nx l i)) (hst:∀i,nx l i≠nx l (i+1)) {i:Nat} (hi:i<l.length) (hn:l.length<n) (hl:l.length<100):dn (uK n (i:Int) l) n 0=some (cD (xE l (.inl ()) i) (.inr ()) (i-1) 0):=by
 classical
 have hne:l≠[]:=by rintro rfl; cases hi
 refine dT (len:=i-1) (fun j hj=>?_) ?_ (i-1) 0 n (by omega) (by omega)
 ·have e1:IntKind.wrap .i64 ((l.length:Int)-1)=(l.length:Int)-1:=aA (by omega) (by omega)
  unfold uK xE
  dsimp only
  rw[aX (by omega),aP (by omega),dz,aq,e1,←Bool.decide_and]
  by_cases h:(j:Int)=0∧(i:Int)=(l.length:Int)-1
  ·rw[aP h,aq,if_neg (fun g:pY l i j=>g.1 ⟨by omega,by omega⟩)]
  ·rw[aU h,aZ (by omega),bA,du (by omega),aq]
   dsimp only
   rw[aZ (by omega),bA,du (by omega),aq]
   dsimp only
   rw[aZ hi,bA,du hi,aq]
   dsimp only
   rw[aX (by omega),jx n (i+1) hne,aq]
   dsimp only
   rw[EC n (hnr _) (hnr _) (hnr _) (hnr _) (hst _) (hst _),aq]
   by_cases g:sN (nx l j) (nx l (j+1)) (nx l i) (nx l (i+1))=0
   ·rw[decide_eq_true g,Bool.not_true,dV,aq,if_neg (fun k:pY l i j=>k.2 g)]
   ·rw[decide_eq_false g,Bool.not_false,kA,aq,if_pos (show pY l i j from⟨fun k=>h ⟨by omega,by omega⟩,g⟩)]
 ·unfold uK
  dsimp only
  rw[aX (by omega),aU (by omega)]
theorem Bo (hnr:∀i,Nr (nx l i)) (hst:∀i,nx l i≠nx l (i+1)) {i:Nat} (hi:i<l.length) (hn:l.length<n) (h5:5<n) (hl:l.length<100) :
  dn (sW n l (i:Int) (nx l i).1 (nx l i).2 (nx l (i+1)).1 (nx l (i+1)).2) n 0=some (cD (xE l (.inr (.inl ())) i) (.inl ()) (i-1) 0):=by
 classical
 have hne:l≠[]:=by rintro rfl; cases hi
 have e0:IntKind.wrap .i64 ((i:Int)-1)=(i:Int)-1:=aA (by omega) (by omega)
 refine dT (len:=i-1) (fun j hj=>?_) ?_ (i-1) 0 n (by omega) (by omega)
 ·have e1:IntKind.wrap .i64 ((l.length:Int)-1)=(l.length:Int)-1:=aA (by omega) (by omega)
  unfold sW xE
  dsimp only
  rw[aP (by omega),aZ (by omega),bA,du (by omega),aq]
  dsimp only
  rw[aX (by omega),gD j (by omega) hl]
  try dsimp only
  rw[e0,aU (by omega),dz,aq,e1,←Bool.decide_and]
  by_cases h:(j:Int)=0∧(i:Int)=(l.length:Int)-1
  ·rw[aP h,aq,if_neg (fun g:pY l i j=>g.1 ⟨by omega,by omega⟩)]
  ·rw[aU h,FP n _ _ (hnr _) (hnr _) (hnr _) (hnr _) (hst _) (hst _) h5,sJ,aq]
   by_cases g:sN (nx l j) (nx l (j+1)) (nx l i) (nx l (i+1))=0
   ·rw[decide_eq_true g,Bool.not_true,dV,aq,if_neg (fun k:pY l i j=>k.2 g)]
   ·rw[decide_eq_false g,Bool.not_false,kA,aq,if_pos (show pY l i j from⟨fun k=>h ⟨by omega,by omega⟩,g⟩)]
 ·unfold sW
  dsimp only
  rw[aP (by omega),aZ (by omega),bA,du (by omega),aq]
  dsimp only
  rw[aX (by omega),gD (i-1) (by omega) hl]
  try dsimp only
  rw[e0,aP (by omega),aq]
theorem Ax (hnr:∀i,Nr (nx l i)) (hst:∀i,nx l i≠nx l (i+1)) (hn:l.length<n) (hl:l.length<100):dn (uS n l) n 0=some (cD (fe l) (.inr ()) l.length 0):=by
 classical
 refine dT (len:=l.length) (fun i hi=>?_) ?_ l.length 0 n (by omega) hn
 ·unfold uS fe
  try dsimp only
  rw[aP (by omega),zS n hnr hst hi hn hl,aq,aX (by omega)]
  rcases An (l:=l) (r:=(.inl ():Unit ⊕ Unit)) (e:=.inr ()) (by simp) (i:=i) with⟨h1,h2⟩|⟨h1,h2⟩
  ·rw[h1,if_pos h2]
  ·rw[h1,if_neg h2]
 ·unfold uS
  try dsimp only
  rw[aU (by omega)]
theorem zX (hnr:∀i,Nr (nx l i)) (hst:∀i,nx l i≠nx l (i+1)) (hn:l.length<n) (h5:5<n) (hl:l.length<100):dn (uo n l) n 0=some (cD (fe l) (.inr ()) l.length 0):=by
 classical
 refine dT (len:=l.length) (fun i hi=>?_) ?_ l.length 0 n (by omega) hn
 ·unfold uo fe
  dsimp only
  rw[aP (by omega),aZ hi,bA,du hi,aq]
  dsimp only
  rw[aX (by omega),gD i hi hl]
  dsimp only
  rw[aq,Bo n hnr hst hi hn h5 hl,aq];rcases An (l:=l) (r:=(.inr (.inl ()):Unit ⊕ (Unit ⊕ Unit))) (e:=.inl ()) (by simp) (i:=i) with⟨h1,h2⟩|⟨h1,h2⟩
  ·rw[h1,if_pos h2]; rfl
  ·rw[h1,if_neg h2]; rfl
 ·unfold uo
  dsimp only
  rw[aU (by omega)]
theorem lp {f:Nat→Option (Int ⊕ Unit)} (hf:∀j r,f j=some r→r≠.inr ()) {k:Nat} (h:cD f (.inr ()) k 0 = .inr ()):∀j,j<k→f j=none:=by
 rcases eO (f:=f) (e:=.inr ()) k 0 with⟨h1,_⟩|⟨j,_,_,h3⟩
 ·exact fun j hj=>h1 j (by omega) (by omega)
 ·rw[h] at h3; exact absurd rfl (hf j _ h3)
theorem A0 {P:I2→Prop} (hl:0<l.length) (h:∀i,i<l.length→P (nx l i)) (i:Nat):P (nx l i):=by
 rw[←oY]; exact h _ (Nat.mod_lt _ hl)
theorem m8 {i:Nat}:nx l (i%l.length+1)=nx l (i+1):=by unfold nx; rw[Nat.mod_add_mod]
theorem wK (hl:0<l.length) (h:cD (jS l) (.inr ()) l.length 0 = .inr ()):∀i,Nr (nx l i):=by
 refine A0 hl fun i hi=>?_;have:=lp (fun j r hr=>by unfold jS at hr; split at hr<;>cases hr; simp) h i hi
 unfold jS at this
 split at this
 ·cases this
 ·rename_i g; exact xP.1 g
theorem u1 (hl:0<l.length) (h:cD (eJ l) (.inr ()) l.length 0 = .inr ()):∀i,nx l i≠nx l (i+1):=fun i=>by
 have:=lp (fun j r hr=>by unfold eJ at hr; split at hr<;>cases hr; simp) h (i%l.length) (Nat.mod_lt _ hl)
 unfold eJ at this
 split at this
 ·cases this
 ·rename_i g;rw[oY,m8] at g;exact g
theorem B9 (v:Int) (h:cD (jS l) (.inr ()) l.length 0 = .inl v):0≤v:=by
 rcases eO (f:=jS l) (e:=.inr ()) l.length 0 with⟨_,h2⟩|⟨j,_,_,h3⟩
 ·rw[h] at h2; cases h2
 ·rw[h] at h3;unfold jS at h3
  split at h3
  ·cases h3; omega
  ·cases h3
theorem ED (hn:l.length<n) (_:41<n):G3 n l=some (lA l):=by
 unfold G3 lA;rw[nf,aq,←Bool.decide_or]
 by_cases h:l.length<3∨40<l.length
 ·rw[aP (by omega),if_pos h]
 ·rw[aU (by omega),if_neg h,zp n hn (by omega),aq]
  cases h1:cD (jS l) (.inr ()) l.length 0 with
  | inl v=>rfl
  | inr _ =>
   have hnr:=wK (by omega) h1
   dsimp only
   rw[Bk n hn (by omega),aq]
   cases h2:cD (eJ l) (.inr ()) l.length 0 with
   | inl v=>rfl
   | inr _ =>
    have hst:=u1 (by omega) h2
    dsimp only
    rw[BE n hnr hn (by omega),aq]
    cases h3:cD (fg l) (.inr ()) l.length 0 with
    | inl v=>rfl
    | inr _ =>
     dsimp only
     rw[Ax n hnr hst hn (by omega),aq]
     cases h4:cD (fe l) (.inr ()) l.length 0<;>rfl
theorem E3 (h64:∀x ∈ l,fQ x.1∧fQ x.2) (hn:l.length<n) (h5:41<n):Gr n l=some (lA l):=by
 unfold Gr lA;rw[nf,aq,←Bool.decide_or]
 by_cases h:l.length<3∨40<l.length
 ·rw[aP (by omega),if_pos h]
 ·have h64':∀i,fQ (nx l i).1∧fQ (nx l i).2:=A0 (P:=fun x=>fQ x.1∧fQ x.2) (by omega) fun i hi=>by
   refine h64 _ ?_;unfold nx;rw[Nat.mod_eq_of_lt hi,List.getD_eq_getElem?_getD,List.getElem?_eq_getElem hi];exact List.getElem_mem hi
  rw[aU (by omega),if_neg h,zw n h64' hn (by omega),aq]
  cases h1:cD (jS l) (.inr ()) l.length 0 with
  | inl v =>
   have:=B9 v h1
   dsimp only
   rw[aq,aP this]
  | inr _ =>
   have hnr:=wK (by omega) h1
   dsimp only
   rw[aq,aU (by omega),aq,z6 n hn (by omega),aq]
   cases h2:cD (eJ l) (.inr ()) l.length 0 with
   | inl v=>rfl
   | inr _ =>
    have hst:=u1 (by omega) h2
    dsimp only
    rw[aq]
    dsimp only
    rw[aq,BH n hnr hn (by omega),aq]
    cases h3:cD (fg l) (.inr ()) l.length 0 with
    | inl v=>rfl
    | inr _ =>
     dsimp only
     rw[aq]
     dsimp only
     rw[aq,zX n hnr hst hn (by omega) (by omega),aq]
     cases h4:cD (fe l) (.inr ()) l.length 0<;>rfl
def gO (l:List I2):Prop:=(lA l).1≤0
open Classical in
theorem oV (hn:l.length<n) (h5:41<n):DJ n l=some (if gO l then 0 else 140):=by
 unfold DJ gO;rw[ED n hn h5,aq];obtain⟨a,b⟩:=lA l
 dsimp only
 by_cases h:0<a
 ·rw[aP h,if_neg (by omega)]
 ·rw[aU h,if_pos (by omega)]
open Classical in
theorem re (h64:∀x ∈ l,fQ x.1∧fQ x.2) (hn:l.length<n) (h5:41<n):DM n l=some (if gO l then 0 else 140):=by
 unfold DM gO;rw[E3 n h64 hn h5,aq];obtain⟨a,b⟩:=lA l
 dsimp only
 by_cases h:0<a
 ·rw[aP h,if_neg (by omega)]
 ·rw[aU h,if_pos (by omega)]
end
def ym (a b:List I2) (i:Nat):Option (Unit ⊕ Unit):=if nx a i≠nx b i then some (.inl ()) else none
theorem Af {a b:List I2} (h:a.length=b.length):cD (ym a b) (.inr ()) a.length 0=if a=b then .inr () else .inl ():=by
 rcases eO (f:=ym a b) (e:=.inr ()) a.length 0 with⟨h1,h2⟩|⟨j,_,h2,h3⟩
 ·rw[h2,if_pos];refine List.ext_getElem h fun i h3 h4=>?_;have:=h1 i (by omega) (by omega)
  unfold ym at this
  split at this
  ·cases this
  ·rename_i g;have g:nx a i=nx b i:=Decidable.not_not.1 g;unfold nx at g;rw[Nat.mod_eq_of_lt h3,Nat.mod_eq_of_lt h4,List.getD_eq_getElem?_getD,List.getD_eq_getElem?_getD,List.getElem?_eq_getElem h3,List.getElem?_eq_getElem h4] at g;exact g
 ·have h4:ym a b j=if nx a j≠nx b j then some (.inl ()) else none:=rfl
  rw[h4] at h3
  split at h3
  ·rename_i g;rw[←Option.some.inj h3,if_neg];rintro rfl;exact g rfl
  ·cases h3
theorem E5 (n:Nat) {a b:List I2} (hn:a.length<n) (hl:a.length<100000):Fh n a b=some (decide (a=b)):=by
 unfold Fh
 by_cases h:a.length=b.length
 ·rw[decide_eq_true (show(a.length:Int)=b.length by omega),Bool.not_true,dV]
  have:dn (sP n a b) n 0=some (cD (ym a b) (.inr ()) a.length 0):=by
   refine dT (len:=a.length) (fun i hi=>?_) ?_ a.length 0 n (by omega) hn
   ·unfold sP ym
    dsimp only
    rw[aP (by omega),aZ hi,bA,du hi,aq]
    dsimp only
    rw[aZ (h ▸ hi),bA,du (h ▸ hi),aq]
    dsimp only
    rw[lN,aX (by omega)]
    by_cases g:nx a i=nx b i
    ·rw[decide_eq_true g,Bool.not_true,dV,if_neg (by simpa using g)]
    ·rw[decide_eq_false g,Bool.not_false,kA,if_pos g]
   ·unfold sP
    dsimp only
    rw[aU (by omega)]
  rw[this,aq,Af h]
  by_cases g:a=b
  ·rw[if_pos g,decide_eq_true g]
  ·rw[if_neg g,decide_eq_false g]
 ·rw[decide_eq_false (show ¬(a.length:Int)=b.length by omega),Bool.not_false,kA,decide_eq_false]
  rintro rfl;exact h rfl
end Go.Proofs.YthmekkhpddehjaaGreat
end

section
namespace Jd
theorem eQ (f:I2→I2) {r:List I2} (h:r≠[]) (i:Nat):nx (r.map f) i=f (nx r i):=by
 have hl:=List.length_pos_iff.2 h;unfold nx;rw[List.length_map];have hi:i%r.length<r.length:=Nat.mod_lt _ hl;rw[List.getD_eq_getElem?_getD,List.getD_eq_getElem?_getD,List.getElem?_map,List.getElem?_eq_getElem hi]; rfl
theorem EF {r:List I2}:nx r r.length=nx r 0:=by unfold nx; rw[Nat.mod_self,Nat.zero_mod]
def nY (r:List I2):Int:=bX r.length fun i=>(nx r i).1*(nx r (i+1)).2-(nx r i).2*(nx r (i+1)).1
theorem uC (n:Nat) (f g:Nat→Int):bX n (fun i=>f i+g i)=bX n f+bX n g:=by
 induction n with
 | zero=>rfl
 | succ n ih=>simp only[bX]; rw[ih]; omega
theorem ot (c:Int) (n:Nat) (f:Nat→Int):bX n (fun i=>c*f i)=c*bX n f:=by
 induction n with
 | zero=>simp[bX]
 | succ n ih=>simp only[bX]; rw[ih,Int.mul_add]
theorem yP (n:Nat) (f:Nat→Int):bX (n+1) f=f 0+bX n fun i=>f (i+1):=by
 induction n with
 | zero=>simp[bX]
 | succ n ih=>rw[bX,ih]; simp only[bX]; omega
theorem uw (r:List I2) (o:I2):bX r.length (fun i=>((nx r i).1-o.1)*((nx r (i+1)).2-o.2)-((nx r i).2-o.2)*((nx r (i+1)).1-o.1))=nY r:=by
 have t1:=nZ r.length fun i=>(nx r i).1;have t2:=nZ r.length fun i=>(nx r i).2;rw[EF] at t1 t2;have e:bX r.length (fun i=>((nx r i).1-o.1)*((nx r (i+1)).2-o.2)-((nx r i).2-o.2)*((nx r (i+1)).1-o.1)) =
   bX r.length (fun i=>((nx r i).1*(nx r (i+1)).2-(nx r i).2*(nx r (i+1)).1)+(o.2*((nx r (i+1)).1-(nx r i).1) + -o.1*((nx r (i+1)).2-(nx r i).2))) :=
  dD fun i _=>by grind
 rw[e,uC,uC,ot,ot,t1,t2];unfold nY
 grind
structure Chg (f:I2→I2) (k d:Int):Prop where
 inj:∀{a b},f a=f b→a=b
 ti:∀a b c,ti (f a) (f b) (f c)=k*ti a b c
 di:∀a b c,di (f a) (f b) (f c)=d*di a b c
 kp:k≠0
 dp:0<d
 btw:∀{a b c},cP (f a) (f b) (f c)↔cP a b c
theorem jB {k x:Int} (h:0<k):0<k*x↔0<x:=⟨fun g=>Int.pos_of_mul_pos_right g h,fun g=>Int.mul_pos h g⟩
theorem fD {k x:Int} (h:0<k):k*x<0↔x<0:=by
 have:=jB (x:=-x) h;rw[Int.mul_neg] at this;omega
section
variable {f : I2 → I2} {k d : Int}
theorem Chg.CW (h:Chg f k d) {a b c d x:I2}:gA (f a) (f b) (f c) (f d) (f x)↔gA a b c d x:=by
 unfold gA;rw[h.btw,h.btw];constructor
 ·rintro⟨g,e⟩;exact⟨by rcases g with g|g|g|g<;>simp[h.inj g],e⟩
 ·rintro⟨g,e⟩;exact⟨by rcases g with g|g|g|g<;>simp[g],e⟩
theorem Chg.nQ (h:Chg f k d) {a b c d:I2}:qw (f a) (f b) (f c) (f d)↔qw a b c d:=by
 unfold qw;rw[h.ti,h.ti,h.ti,h.ti];rcases Int.lt_or_gt_of_ne h.kp with g|g
 ·have e:∀x,k*x = -((-k)*x):=fun x=>by rw[Int.neg_mul]; omega
  have p:∀{x},0<k*x↔x<0:=fun {x}=>by rw[e]; have:=fD (k:=-k) (x:=x) (by omega); omega
  have n:∀{x},k*x<0↔0<x:=fun {x}=>by rw[e]; have:=jB (k:=-k) (x:=x) (by omega); omega
  rw[p,p,p,p,n,n,n,n]; omega
 ·rw[jB g,jB g,jB g,jB g,fD g,fD g,fD g,fD g]
theorem A7 {a b c d:I2}:NM a b c d↔(∀x,¬gA a b c d x)∧¬qw a b c d:=Iff.rfl
theorem Chg.nm (h:Chg f k d) {a b c d:I2}:NM (f a) (f b) (f c) (f d)↔NM a b c d:=by
 rw[A7,A7,h.nQ];refine and_congr_left fun _=>⟨fun g x hx=>g (f x) (h.CW.2 hx),fun g x hx=>?_⟩;have:∃y,x=f y:=by
  rcases hx.1 with e|e|e|e<;>exact⟨_,e⟩
 obtain⟨y,rfl⟩:=this;exact g y (h.CW.1 hx)
theorem Chg.vr (h:Chg f k d) {r:List I2} (v:VR r):VR (r.map f):=by
 have hr:r≠[]:=fun e=>by have:=v.n3; rw[e] at this; simp at this
 refine⟨by rw[List.length_map]; exact v.n3,fun i=>?_,fun i=>?_,fun j i h1 h2 h3=>?_⟩
 ·rw[eQ f hr,eQ f hr];exact fun e=>v.still i (h.inj e)
 ·rw[eQ f hr,eQ f hr,eQ f hr,h.ti,h.di];rintro⟨e1,e2⟩;refine v.pM i ⟨?_,(fD h.dp).1 e2⟩;rcases Int.mul_eq_zero.1 e1 with e|e
  ·exact absurd e h.kp
  ·exact e
 ·rw[List.length_map] at h2 h3;rw[eQ f hr,eQ f hr,eQ f hr,eQ f hr,h.nm];exact v.meet j i h1 h2 h3
end
def lP (v:I2) (a:I2):I2:=(a.1+v.1,a.2+v.2)
theorem Az (v a b c:I2):ti (lP v a) (lP v b) (lP v c)=ti a b c:=by unfold ti lP; grind
theorem B7 {v a b c:I2}:cP (lP v a) (lP v b) (lP v c)↔cP a b c:=by
 unfold cP;rw[Az];unfold lP
 dsimp only
 omega
theorem CU (v:I2):Chg (lP v) 1 1:=by
 refine⟨fun {a b} h=>?_,fun a b c=>by rw[Az]; omega,fun a b c=>by unfold di lP; grind,by decide,by decide,B7⟩
 have h1:=congrArg Prod.fst h;have h2:=congrArg Prod.snd h;unfold lP at h1 h2;exact Prod.ext (by dsimp only at h1; omega) (by dsimp only at h2; omega)
def mT (s:Int) (a:I2):I2:=(a.1*s,a.2*s)
theorem Ba (s:Int) (a b c:I2):ti (mT s a) (mT s b) (mT s c)=s*s*ti a b c:=by unfold ti mT; grind
theorem lH {s x y:Int} (hs:0<s):x*s≤y*s↔x≤y:=⟨fun h=>Int.le_of_mul_le_mul_right h hs,fun h=>Int.mul_le_mul_of_nonneg_right h (Int.le_of_lt hs)⟩
theorem Dc {s:Int} (hs:0<s) {a b c:I2}:cP (mT s a) (mT s b) (mT s c)↔cP a b c:=by
 have hss:s*s≠0:=by have:=Int.mul_pos hs hs; omega
 have m1:∀x y z:Int,min (x*s) (y*s)≤z*s↔min x y≤z:=fun x y z=>by
  have h1:=lH (x:=x) (y:=z) hs;have h2:=lH (x:=y) (y:=z) hs;omega
 have m2:∀x y z:Int,z*s≤max (x*s) (y*s)↔z≤max x y:=fun x y z=>by
  have h1:=lH (x:=z) (y:=x) hs;have h2:=lH (x:=z) (y:=y) hs;omega
 unfold cP;rw[Ba];unfold mT
 dsimp only
 rw[m1,m2,m1,m2];refine and_congr_left fun _=>⟨fun h=>?_,fun h=>by rw[h,Int.mul_zero]⟩
 rcases Int.mul_eq_zero.1 h with e|e
 ·exact absurd e hss
 ·exact e
theorem Dl {s:Int} (hs:0<s):Chg (mT s) (s*s) (s*s):=by
 have hss:=Int.mul_pos hs hs;refine⟨fun {a b} h=>?_,Ba s,fun a b c=>by unfold di mT; grind,by omega,hss,Dc hs⟩
 have h1:=congrArg Prod.fst h;have h2:=congrArg Prod.snd h;exact Prod.ext (Int.eq_of_mul_eq_mul_right (by omega) h1) (Int.eq_of_mul_eq_mul_right (by omega) h2)
theorem De {r:List I2} (h:r≠[]) (v:I2):nY (r.map (lP v))=nY r:=by
 rw[←uw (r.map (lP v)) v];unfold nY;rw[List.length_map];refine dD fun i _=>?_;rw[eQ _ h,eQ _ h];unfold lP
 dsimp only
 rw[Int.add_sub_cancel,Int.add_sub_cancel,Int.add_sub_cancel,Int.add_sub_cancel]
def rv:List I2→List I2
 | []=>[]
 | a::l=>a::l.reverse
theorem kJ (r:List I2):(rv r).length=r.length:=by cases r<;>simp[rv]
theorem hJ (r:List I2) {i j:Nat} (h:i%r.length=j%r.length):nx r i=nx r j:=by unfold nx; rw[h]
theorem qP {r:List I2} {i t:Nat} (h:(t+i)%r.length=0):nx (rv r) i=nx r t:=by
 match r with
 | []=>rfl
 | a::l =>
  unfold nx;rw[kJ];have hn:0<(a::l).length:=by simp
  generalize hN:(a::l).length=N at *;have h1:i%N<N:=Nat.mod_lt _ hn;have h2:t%N<N:=Nat.mod_lt _ hn;have h3:(t%N+i%N)%N=0:=by rw[←Nat.add_mod]; exact h
  have hl:l.length+1=N:=by rw[←hN]; simp
  rcases Nat.eq_zero_or_pos (i%N) with e|e
  ·have e2:t%N=0:=by rw[e,Nat.add_zero,Nat.mod_eq_of_lt h2] at h3; exact h3
   rw[e,e2]; rfl
  ·have e2:t%N+i%N=N:=by
    rcases Nat.lt_or_ge (t%N+i%N) N with g|g
    ·rw[Nat.mod_eq_of_lt g] at h3; omega
    ·rw[Nat.mod_eq_sub_mod g,Nat.mod_eq_of_lt (by omega)] at h3; omega
   obtain⟨x,hx⟩:∃x,i%N=x+1:=⟨i%N-1,by omega⟩
   obtain⟨y,hy⟩:∃y,t%N=y+1:=⟨t%N-1,by omega⟩
   rw[hx,hy]
   show(a::l.reverse).getD (x+1) (0,0)=(a::l).getD (y+1) (0,0)
   simp only[List.getD_eq_getElem?_getD,List.getElem?_cons_succ];rw[List.getElem?_reverse (by omega)]
   congr 2
   omega
theorem FI {a b c d:I2}:NM b a d c↔NM c d a b:=by
 rw[←so,←so,tj,sJ,tj,sJ (a:=a) (b:=b)]
theorem VR.rv {r:List I2} (v:VR r):VR (rv r):=by
 have hn:=v.n3;refine⟨by rw[kJ]; exact hn,fun i=>?_,fun i=>?_,fun j i h1 h2 h3=>?_⟩
 ·have e:((r.length-1)*(i+1)+(i+1))%r.length=0:=by
   rw[show(r.length-1)*(i+1)+(i+1)=r.length*(i+1) by
    obtain⟨m,hm⟩:∃m,r.length=m+1:=⟨r.length-1,by omega⟩
    rw[hm,Nat.add_sub_cancel,Nat.add_mul,Nat.one_mul],Nat.mul_mod_right]
  rw[qP (i:=i+1) e,qP (i:=i) (t:=(r.length-1)*(i+1)+1) (by rw[show(r.length-1)*(i+1)+1+i=(r.length-1)*(i+1)+(i+1) by omega]; exact e)]
  exact fun g=>v.still _ g.symm
 ·have e:((r.length-1)*(i+2)+(i+2))%r.length=0:=by
   rw[show(r.length-1)*(i+2)+(i+2)=r.length*(i+2) by
    obtain⟨m,hm⟩:∃m,r.length=m+1:=⟨r.length-1,by omega⟩
    rw[hm,Nat.add_sub_cancel,Nat.add_mul,Nat.one_mul],Nat.mul_mod_right]
  generalize (r.length-1)*(i+2)=m at e;rw[qP (i:=i+2) e,qP (i:=i+1) (t:=m+1) (by rw[show m+1+(i+1)=m+(i+2) by omega]; exact e),qP (i:=i) (t:=m+2) (by rw[show m+2+i=m+(i+2) by omega]; exact e)]
  rintro⟨g1,g2⟩;refine v.pM m ⟨?_,?_⟩
  ·have:ti (nx r (m+2)) (nx r (m+1)) (nx r m) = -ti (nx r m) (nx r (m+1)) (nx r (m+2)):=by unfold Jd.ti; grind
   omega
  ·have:di (nx r (m+2)) (nx r (m+1)) (nx r m)=di (nx r m) (nx r (m+1)) (nx r (m+2)):=by unfold Jd.di; grind
   omega
 ·rw[kJ] at h2 h3;have g:∀k,k≤r.length→nx (Jd.rv r) k=nx r (r.length-k):=fun k hk=>qP (by rw[show r.length-k+k=r.length by omega,Nat.mod_self])
  rw[g j (by omega),g (j+1) (by omega),g i (by omega),g (i+1) (by omega)]
  have:=v.meet (r.length-1-i) (r.length-1-j) (by omega) (by omega) (by omega)
  rw[show r.length-1-i+1=r.length-i by omega,show r.length-1-j+1=r.length-j by omega] at this
  rw[show r.length-(j+1)=r.length-1-j by omega,show r.length-(i+1)=r.length-1-i by omega]
  exact FI.2 this
def eF (α β γ:Int) (x:I2):Int:=α*x.1+β*x.2+γ
theorem DN {α β γ:Int} {a b x:I2} (h:ti a b x=0):(b.1-a.1)*eF α β γ x=(b.1-x.1)*eF α β γ a+(x.1-a.1)*eF α β γ b:=by
 have e:(b.1-a.1)*eF α β γ x-((b.1-x.1)*eF α β γ a+(x.1-a.1)*eF α β γ b)=β*ti a b x:=by unfold eF ti; grind
 rw[h,Int.mul_zero] at e; omega
theorem DB {α β γ:Int} {a b x:I2} (h:ti a b x=0):(b.2-a.2)*eF α β γ x=(b.2-x.2)*eF α β γ a+(x.2-a.2)*eF α β γ b:=by
 have e:(b.2-a.2)*eF α β γ x-((b.2-x.2)*eF α β γ a+(x.2-a.2)*eF α β γ b) = -α*ti a b x:=by unfold eF ti; grind
 rw[h,Int.mul_zero] at e; omega
theorem nW {u v w s t z:Int} (hw:0<w) (hu:0≤u) (hv:0≤v) (e:u+v=w) (hs:0<s) (ht:0<t) (h:w*z=u*s+v*t):0<z:=by
 have h1:0≤u*s:=Int.mul_nonneg hu (Int.le_of_lt hs);have h2:0≤v*t:=Int.mul_nonneg hv (Int.le_of_lt ht);have:0<w*z:=by
  rcases Int.lt_or_eq_of_le hu with g|g
  ·have:=Int.mul_pos g hs; omega
  ·have:=Int.mul_pos (show 0<v by omega) ht; omega
 exact Int.pos_of_mul_pos_right this hw
theorem rk {α β γ:Int} {a b x:I2} (h:cP a b x) (ha:0<eF α β γ a) (hb:0<eF α β γ b):0<eF α β γ x:=by
 obtain⟨h0,h1,h2,h3,h4⟩:=h;rcases Int.lt_trichotomy a.1 b.1 with g|g|g
 ·exact nW (w:=b.1-a.1) (u:=b.1-x.1) (v:=x.1-a.1) (by omega) (by omega) (by omega) (by omega) ha hb (DN h0)
 ·rcases Int.lt_trichotomy a.2 b.2 with k|k|k
  ·exact nW (w:=b.2-a.2) (u:=b.2-x.2) (v:=x.2-a.2) (by omega) (by omega) (by omega) (by omega) ha hb (DB h0)
  ·have:x=a:=Prod.ext (by omega) (by omega)
   rw[this]; exact ha
  ·refine nW (w:=a.2-b.2) (u:=a.2-x.2) (v:=x.2-b.2) (by omega) (by omega) (by omega) (by omega) hb ha (DB ?_)
   rw[dS,h0]; rfl
 ·refine nW (w:=a.1-b.1) (u:=a.1-x.1) (v:=x.1-b.1) (by omega) (by omega) (by omega) (by omega) hb ha (DN ?_)
  rw[dS,h0]; rfl
theorem sD (α β γ:Int) (x:I2):eF (-α) (-β) (-γ) x = -eF α β γ x:=by unfold eF; grind
theorem pd {α β γ:Int} {a b c d:I2} (ha:0<eF α β γ a) (hb:0<eF α β γ b) (hc:eF α β γ c<0) (hd:eF α β γ d<0):NM a b c d:=by
 refine⟨fun x hx=>?_,fun hx=>?_⟩
 ·have h1:=rk hx.2.1 ha hb;have h2:=rk (α:=-α) (β:=-β) (γ:=-γ) hx.2.2 (by rw[sD]; omega) (by rw[sD]; omega)
  rw[sD] at h2; omega
 ·have e:ti c d b*eF α β γ a-ti c d a*eF α β γ b = -(ti a b d*eF α β γ c-ti a b c*eF α β γ d):=by unfold eF ti; grind
  have f:=rB a b c d;generalize eF α β γ a=la at *;generalize eF α β γ b=lb at *;generalize eF α β γ c=lc at *;generalize eF α β γ d=ld at *;generalize ti a b c=s at *;generalize ti a b d=t at *;generalize ti c d a=u at *;generalize ti c d b=v at *;have pp:∀{x y:Int},0<x→0<y→0<x*y:=fun h g=>Int.mul_pos h g;have pn:∀{x y:Int},0<x→y<0→x*y<0:=fun h g=>Int.mul_neg_of_pos_of_neg h g;have np:∀{x y:Int},x<0→0<y→x*y<0:=fun h g=>Int.mul_neg_of_neg_of_pos h g;have nn:∀{x y:Int},x<0→y<0→0<x*y:=fun h g=>Int.mul_pos_of_neg_of_neg h g;obtain⟨h1|h1,h2|h2⟩:=hx
  ·have:=np h2.2 hb; omega
  ·have a1:=pp h2.2 ha; have a2:=np h2.1 hb; have a3:=nn h1.2 hc; have a4:=pn h1.1 hd; omega
  ·have a1:=np h2.2 ha; have a2:=pp h2.1 hb; have a3:=pn h1.2 hc; have a4:=nn h1.1 hd; omega
  ·have:=h1.1; omega
def nQ (a b:I2):Int:=a.1*b.2-a.2*b.1
theorem AY {a b c:I2} (h1:0<nQ a b) (h2:0<nQ b c):¬(ti a b c=0∧di a b c<0):=by
 rintro⟨g1,g2⟩;have e:((b.1-a.1)*(b.1-a.1)+(b.2-a.2)*(b.2-a.2))*nQ b c=di a b c*nQ a b+ti a b c*(b.1*(b.1-a.1)+b.2*(b.2-a.2)):=by unfold nQ di ti; grind
 rw[g1,Int.zero_mul,Int.add_zero] at e;have n1:0≤((b.1-a.1)*(b.1-a.1)+(b.2-a.2)*(b.2-a.2))*nQ b c:=Int.mul_nonneg (Int.add_nonneg u2 u2) (Int.le_of_lt h2);have n2:=Int.mul_neg_of_neg_of_pos g2 h1;omega
def wy (k:Nat):I2:=[(2,0),(2,1),(1,2),(0,2),(-1,2),(-2,1),(-2,0),(-2,-1),(-1,-2),(0,-2),(1,-2),(2,-1)].getD (k%12) (0,0)
def wN (m:Int) (a:I2):I2:=(a.1*m,a.2*m)
theorem nI (α β m:Int) (a:I2):eF α β 0 (wN m a)=eF α β 0 a*m:=by unfold eF wN; grind
theorem Dd (m k:Int) (a b:I2):nQ (wN m a) (wN k b)=m*k*nQ a b:=by unfold nQ wN; grind
theorem Bp (k:Nat):wy (k%12)=wy k:=by unfold wy; rw[Nat.mod_mod]
def H7:List (Int × Int):=[(3,1),(1,3),(-1,3),(-3,1),(-3,-1),(-1,-3),(1,-3),(3,-1),(4,3),(3,4),(-3,4),(-4,3),(-4,-3),(-3,-4),(3,-4),(4,-3),(1,1),(-1,1),(-1,-1),(1,-1),(1,0),(0,1),(-1,0),(0,-1),(5,1),(1,5),(-1,5),(-5,1),(-5,-1),(-1,-5),(1,-5),(5,-1),(2,1),(1,2),(-1,2),(-2,1),(-2,-1),(-1,-2),(1,-2),(2,-1)]
def AT (a x y z:Nat):Bool:=H7.any fun c=>decide (0<eF c.1 c.2 0 (wy a)) && decide (0<eF c.1 c.2 0 (wy (a+x))) && decide (eF c.1 c.2 0 (wy (a+y))<0) && decide (eF c.1 c.2 0 (wy (a+y+z))<0)
def Bt:Bool:=(List.range 12).all fun a=>(List.range 4).all fun x=>(List.range 12).all fun y=>(List.range 4).all fun z=>!(decide (0<x) && decide (x<y) && decide (0<z) && decide (y+z<12)) || AT a x y z
theorem zL:Bt=true:=by decide +kernel
theorem HY (a:Nat) (ha:a<12) (x:Nat) (hx:x<4) (y:Nat) (hy:y<12) (z:Nat) (hz:z<4) (h1:0<x) (h2:x<y) (h3:0<z) (h4:y+z<12):AT a x y z=true:=by
 have h:=zL;unfold Bt at h;have h:=List.all_eq_true.1 h a (List.mem_range.2 ha);have h:=List.all_eq_true.1 h x (List.mem_range.2 hx);have h:=List.all_eq_true.1 h y (List.mem_range.2 hy);have h:=List.all_eq_true.1 h z (List.mem_range.2 hz)
 simpa [h1,h2,h3,h4] using h
theorem Ep:∀a<12,∀x<4,0<x→0<nQ (wy a) (wy (a+x)):=by decide +kernel
theorem q6 (a x:Nat):wy (a%12+x)=wy (a+x):=by unfold wy; rw[Nat.mod_add_mod]
structure Star (r:List I2):Prop where
 n3:2<r.length
 dir:∃δ:Nat→Nat,(∀i,δ i < δ (i+1)∧δ (i+1)≤δ i+3)∧(∀i,δ (i+r.length)=δ i+12)∧∀i,∃m:Int,0<m∧nx r i=wN m (wy (δ i))
theorem Star.left {r:List I2} (h:Star r) (i:Nat):0<nQ (nx r i) (nx r (i+1)):=by
 obtain⟨δ,h1,_,h3⟩:=h.dir;obtain⟨m,m0,e1⟩:=h3 i;obtain⟨k,k0,e2⟩:=h3 (i+1);have hd:=h1 i;rw[e1,e2,Dd];have:=Ep (δ i%12) (Nat.mod_lt _ (by decide)) (δ (i+1)-δ i) (by omega) (by omega)
 rw[Bp,q6,show δ i+(δ (i+1)-δ i)=δ (i+1) by omega] at this
 exact Int.mul_pos (Int.mul_pos m0 k0) this
theorem Star.vr {r:List I2} (h:Star r):VR r:=by
 refine⟨h.n3,fun i e=>?_,fun i=>AY (h.left i) (h.left (i+1)),fun j i h1 h2 h3=>?_⟩
 ·have:=h.left i;rw[e] at this;unfold nQ at this;rw[Int.mul_comm,Int.sub_self] at this;exact absurd this (by decide)
 ·obtain⟨δ,d1,d2,d3⟩:=h.dir;have mono:∀a b,a≤b→δ a≤δ b:=fun a b hab=>by
   induction b with
   | zero=>rw[Nat.le_zero.1 hab]; exact Nat.le_refl _
   | succ b ih =>
    rcases Nat.lt_or_ge a (b+1) with g|g
    ·have:=ih (by omega); have:=d1 b; omega
    ·rw[show a=b+1 by omega]; exact Nat.le_refl _
  have g1:=d1 j;have g2:=d1 i;have g3:δ (j+1) < δ i:=by have:=mono (j+1+1) i (by omega); have:=d1 (j+1); omega
  have g4:δ (i+1) < δ j+12:=by
   by_cases hj:j=0
   ·have:=mono (i+1) (r.length-1) (by omega)
    have h5:=d1 (r.length-1);rw[show r.length-1+1=0+r.length by omega,d2] at h5
    subst hj; omega
   ·have:=mono (i+1) (0+r.length) (by omega)
    rw[d2] at this;have h6:=mono 1 j (by omega)
    have h7:=(d1 0).1;rw[Nat.zero_add] at h7;omega
  have ck:=HY (δ j%12) (Nat.mod_lt _ (by decide)) (δ (j+1)-δ j) (by omega) (δ i-δ j) (by omega) (δ (i+1)-δ i) (by omega) (by omega) (by omega) (by omega) (by omega)
  unfold AT at ck;obtain⟨c,_,hc⟩:=List.any_eq_true.1 ck;simp only[Bool.and_eq_true,decide_eq_true_eq] at hc;obtain⟨⟨⟨c1,c2⟩,c3⟩,c4⟩:=hc;rw[Bp] at c1;rw[q6,show δ j+(δ (j+1)-δ j)=δ (j+1) by omega] at c2
  rw[q6,show δ j+(δ i-δ j)=δ i by omega] at c3
  rw[Nat.add_assoc,q6,show δ j+(δ i-δ j+(δ (i+1)-δ i))=δ (i+1) by omega] at c4
  obtain⟨m1,p1,e1⟩:=d3 j;obtain⟨m2,p2,e2⟩:=d3 (j+1);obtain⟨m3,p3,e3⟩:=d3 i;obtain⟨m4,p4,e4⟩:=d3 (i+1);rw[e1,e2,e3,e4];exact pd (α:=c.1) (β:=c.2) (γ:=0) (by rw[nI]; exact Int.mul_pos c1 p1) (by rw[nI]; exact Int.mul_pos c2 p2) (by rw[nI]; exact Int.mul_neg_of_neg_of_pos c3 p3) (by rw[nI]; exact Int.mul_neg_of_neg_of_pos c4 p4)
theorem Ac {n:Nat} {f:Nat→Int} (h:∀i,i<n→0<f i) (hn:0<n):0<bX n f:=by
 induction n with
 | zero=>exact absurd hn (Nat.lt_irrefl 0)
 | succ n ih =>
  simp only[bX];have h1:=h n (Nat.lt_succ_self n);rcases Nat.eq_zero_or_pos n with e|e
  ·subst e; simp only[bX]; omega
  ·have:=ih (fun i hi=>h i (by omega)) e; omega
theorem Star.nY {r:List I2} (h:Star r):0<nY r:=Ac (fun i _=>h.left i) (by have:=h.n3; omega)
def Il (D:List Nat) (i:Nat):Nat:=if i+1<D.length then D.getD (i+1) 0 else D.getD 0 0+12
def Iw (D:List Nat):Bool:=decide (2<D.length) && (List.range D.length).all fun i=>decide (D.getD i 0<Il D i) && decide (Il D i≤D.getD i 0+3)
def Cd (b1 b2 b4 b5 b7 b8 b10 b11:Bool):List Nat:=(List.range 12).filter fun i=>[true,b1,b2,true,b4,b5,true,b7,b8,true,b10,b11].getD i false
theorem Cv:∀b1 b2 b4 b5 b7 b8 b10 b11:Bool,Iw (Cd b1 b2 b4 b5 b7 b8 b10 b11)=true:=by decide +kernel
theorem BU {p:Nat→Bool} (h0:p 0=true) (h3:p 3=true) (h6:p 6=true) (h9:p 9=true):(List.range 12).filter p=Cd (p 1) (p 2) (p 4) (p 5) (p 7) (p 8) (p 10) (p 11):=by
 unfold Cd;refine List.filter_congr fun i hi=>?_;have:=List.mem_range.1 hi
 match i,this with
 | 0,_=>exact h0
 | 1,_=>rfl
 | 2,_=>rfl
 | 3,_=>exact h3
 | 4,_=>rfl
 | 5,_=>rfl
 | 6,_=>exact h6
 | 7,_=>rfl
 | 8,_=>rfl
 | 9,_=>exact h9
 | 10,_=>rfl
 | 11,_=>rfl
theorem CG {p:Nat→Bool} (h0:p 0=true) (h3:p 3=true) (h6:p 6=true) (h9:p 9=true) {m:Nat→Int} (hm:∀i,0<m i):Star (((List.range 12).filter p).map fun i=>wN (m i) (wy i)):=by
 rw[BU h0 h3 h6 h9];have ck:=Cv (p 1) (p 2) (p 4) (p 5) (p 7) (p 8) (p 10) (p 11);generalize Cd (p 1) (p 2) (p 4) (p 5) (p 7) (p 8) (p 10) (p 11)=D at *;unfold Iw at ck;simp only[Bool.and_eq_true,decide_eq_true_eq,List.all_eq_true,List.mem_range] at ck;obtain⟨hn,hc⟩:=ck;have hn0:0<D.length:=by omega
 refine⟨by rw[List.length_map]; exact hn,fun i=>D.getD (i%D.length) 0+12*(i/D.length),fun i=>?_,fun i=>?_,fun i=>?_⟩
 ·have hi:=Nat.mod_lt i hn0;have h:=hc _ hi;have hd:=Nat.div_add_mod i D.length;unfold Il at h
  by_cases g:i%D.length+1<D.length
  ·have e1:(i+1)%D.length=i%D.length+1:=by
    rw[Nat.add_mod,Nat.mod_eq_of_lt (show 1<D.length by omega),Nat.mod_eq_of_lt g]
   have e2:(i+1)/D.length=i/D.length:=by
    have h5:=Nat.div_add_mod (i+1) D.length;rw[e1] at h5;have:D.length*((i+1)/D.length)=D.length*(i/D.length):=by omega
    exact Nat.eq_of_mul_eq_mul_left hn0 this
   rw[if_pos g] at h;simp only[e1,e2]; omega
  ·have hl:i%D.length+1=D.length:=by omega
   have e0:i+1=D.length*(i/D.length+1):=by rw[Nat.mul_add,Nat.mul_one]; omega
   have e1:(i+1)%D.length=0:=by rw[e0,Nat.mul_mod_right]
   have e2:(i+1)/D.length=i/D.length+1:=by rw[e0,Nat.mul_div_cancel_left _ hn0]
   rw[if_neg g] at h;simp only[e1,e2]; omega
 ·rw[List.length_map];simp only[Nat.add_mod_right,Nat.add_div_right _ hn0]; omega
 ·have hi:=Nat.mod_lt i hn0;refine⟨m (D.getD (i%D.length) 0),hm _,?_⟩;have hg:D.getD (i%D.length) 0=D[i%D.length]:=by rw[List.getD_eq_getElem?_getD,List.getElem?_eq_getElem hi]; rfl
  show nx (D.map fun i=>wN (m i) (wy i)) i=wN (m (D.getD (i%D.length) 0)) (wy (D.getD (i%D.length) 0+12*(i/D.length)))
  rw[hg];unfold nx;rw[List.length_map,List.getD_eq_getElem?_getD,List.getElem?_map,List.getElem?_eq_getElem hi]
  show wN (m D[i%D.length]) (wy D[i%D.length])=wN (m D[i%D.length]) (wy (D[i%D.length]+12*(i/D.length)))
  congr 1
  unfold wy;rw[Nat.add_mul_mod_self_left]
def nT:List I2→List (I2 × I2)
 | a::b::l=>(a,b)::nT (b::l)
 | _=>[]
def xy:List I2→Prop
 | a::b::l=>a≠b∧(∀c l',l=c::l'→¬(ti a b c=0∧di a b c<0))∧(∀e ∈ nT l,NM a b e.1 e.2)∧xy (b::l)
 | _=>True
theorem vQ:∀(L:List I2) (i:Nat),i+1<L.length→(L.getD i (0,0),L.getD (i+1) (0,0)) ∈ nT L
 | [],_,h=>absurd h (by simp)
 | [_],_,h=>absurd h (by simp)
 | a::b::l,0,_=>by simp[nT]
 | a::b::l,i+1,h=>by
  have:=vQ (b::l) i (by simpa using h)
  simp only[nT,List.mem_cons,List.getD_cons_succ] at *;exact .inr this
theorem xy.still:∀{L:List I2},xy L→∀i,i+1<L.length→L.getD i (0,0)≠L.getD (i+1) (0,0)
 | [],_,_,h=>absurd h (by simp)
 | [_],_,_,h=>absurd h (by simp)
 | _::_::_,ho,0,_=>ho.1
 | _::b::l,ho,i+1,h=>by simpa only[List.getD_cons_succ] using xy.still (L:=b::l) ho.2.2.2 i (by simpa using h)
theorem xy.pM:∀{L:List I2},xy L→∀i,i+2<L.length→¬(ti (L.getD i (0,0)) (L.getD (i+1) (0,0)) (L.getD (i+2) (0,0))=0∧di (L.getD i (0,0)) (L.getD (i+1) (0,0)) (L.getD (i+2) (0,0))<0)
 | [],_,_,h=>absurd h (by simp)
 | [_],_,_,h=>absurd h (by simp)
 | [_,_],_,_,h=>absurd h (by simp)
 | _::_::c::l,ho,0,_=>ho.2.1 c l rfl
 | _::b::c::l,ho,i+1,h=>by simpa only[List.getD_cons_succ] using xy.pM (L:=b::c::l) ho.2.2.2 i (by simpa using h)
theorem xy.meet:∀{L:List I2},xy L→∀j i,j+1<i→i+1<L.length→NM (L.getD j (0,0)) (L.getD (j+1) (0,0)) (L.getD i (0,0)) (L.getD (i+1) (0,0))
 | [],_,_,_,_,h=>absurd h (by simp)
 | [_],_,_,_,_,h=>absurd h (by simp)
 | _::_::l,ho,0,i+2,_,h=>by
  exact ho.2.2.1 _ (vQ l i (by simp at h; omega))
 | _::b::l,ho,j+1,i+1,hj,h=>by simpa only[List.getD_cons_succ] using xy.meet (L:=b::l) ho.2.2.2 j i (by omega) (by simpa using h)
theorem GG {a b:I2} {l:List I2} {z:I2} (hab:a≠b) (hl:l≠[]) (hz:l.getLast? = some z) (s1:∀c l',l=c::l'→¬(ti a b c=0∧di a b c<0)) (s2:¬(ti z a b=0∧di z a b<0)) (hm:∀e ∈ nT l,NM a b e.1 e.2) (ho:xy (b::l++[a])):VR (a::b::l):=by
 have hlen:0<l.length:=List.length_pos_iff.2 hl;have hn:(a::b::l).length=l.length+2:=by simp
 have hC:∀i,i<l.length+2→nx (a::b::l) (i+1)=(b::l++[a]).getD i (0,0):=fun i hi=>by
  unfold nx;rw[hn];rcases Nat.lt_or_ge (i+1) (l.length+2) with g|g
  ·rw[Nat.mod_eq_of_lt g,List.getD_cons_succ,List.cons_append,←List.cons_append];rw[List.getD_eq_getElem?_getD,List.getD_eq_getElem?_getD,List.getElem?_append_left (by simp; omega)]
  ·have:i=l.length+1:=by omega
   subst this;rw[show l.length+1+1=l.length+2 by omega,Nat.mod_self,List.getD_eq_getElem?_getD,List.getD_eq_getElem?_getD,List.getElem?_append_right (by simp)]
   simp
 have hL:(b::l++[a]).length=l.length+2:=by simp
 have h0:nx (a::b::l) 0=a:=by unfold nx; simp
 have red:∀i,∃k,k<l.length+2∧∀t,nx (a::b::l) (i+t)=nx (a::b::l) (k+t):=fun i =>
  ⟨i%(l.length+2),Nat.mod_lt _ (by omega),fun t=>hJ _ (by rw[hn,Nat.mod_add_mod])⟩
 have hb:nx (a::b::l) 1=b:=by rw[hC 0 (by omega)]; rfl
 have hlast:nx (a::b::l) (l.length+1)=z:=by
  rw[hC l.length (by omega),List.getD_eq_getElem?_getD,List.getElem?_append_left (by simp)]
  have:(b::l)[l.length]? = l.getLast?:=by
   rw[List.getLast?_eq_getElem?,show l.length=(l.length-1)+1 by omega,List.getElem?_cons_succ]
   simp
  rw[this,hz]; rfl
 refine⟨by rw[hn]; omega,fun i=>?_,fun i=>?_,fun j i h1 h2 h3=>?_⟩
 ·obtain⟨k,hk,e⟩:=red i;rw[show nx (a::b::l) i=nx (a::b::l) (i+0) from rfl,e 0,e 1,Nat.add_zero]
  rcases Nat.eq_zero_or_pos k with g|g
  ·subst g; rw[h0,hb]; exact hab
  ·obtain⟨k,rfl⟩:∃k',k=k'+1:=⟨k-1,by omega⟩
   rw[hC k (by omega),hC (k+1) (by omega)]
   exact ho.still k (by rw[hL]; omega)
 ·obtain⟨k,hk,e⟩:=red i;rw[show nx (a::b::l) i=nx (a::b::l) (i+0) from rfl,e 0,e 1,e 2,Nat.add_zero]
  rcases Nat.eq_zero_or_pos k with g|g
  ·subst g;rw[h0,hb,show 0+2=1+1 from rfl,hC 1 (by omega)]
   match l,hl with
   | c::l',_=>exact s1 c l' rfl
  ·obtain⟨k,rfl⟩:∃k',k=k'+1:=⟨k-1,by omega⟩
   rw[hC k (by omega),hC (k+1) (by omega)]
   rcases Nat.lt_or_ge (k+2) (l.length+2) with g2|g2
   ·rw[show k+1+2=(k+2)+1 by omega,hC (k+2) g2]
    exact ho.pM k (by rw[hL]; omega)
   ·have:k=l.length:=by omega
    subst this;have e1:nx (a::b::l) (l.length+1+2)=b:=by
     refine(hJ _ ?_).trans hb;rw[hn,show l.length+1+2=1+(l.length+2) by omega,Nat.add_mod_right]
    rw[e1,←hC l.length (by omega),←hC (l.length+1) (by omega),hlast]
    have e2:nx (a::b::l) (l.length+1+1)=a:=by
     refine(hJ _ ?_).trans h0;rw[hn,show l.length+1+1=l.length+2 by omega,Nat.mod_self,Nat.zero_mod]
    rw[e2]; exact s2
 ·rw[hn] at h2 h3;obtain⟨i,rfl⟩:∃i',i=i'+1:=⟨i-1,by omega⟩
  rw[hC i (by omega),hC (i+1) (by omega)]
  rcases Nat.eq_zero_or_pos j with g|g
  ·subst g;rw[h0,hb];obtain⟨i,rfl⟩:∃i',i=i'+1:=⟨i-1,by omega⟩
   have hi:i+1<l.length:=by omega
   have e:∀k,k<l.length→(b::l++[a]).getD (k+1) (0,0)=l.getD k (0,0):=fun k hk=>by
    rw[List.cons_append,List.getD_cons_succ,List.getD_eq_getElem?_getD,List.getD_eq_getElem?_getD,List.getElem?_append_left hk]
   rw[e i (by omega),e (i+1) hi]
   exact hm _ (vQ l i hi)
  ·obtain⟨j,rfl⟩:∃j',j=j'+1:=⟨j-1,by omega⟩
   rw[hC j (by omega),hC (j+1) (by omega)]
   exact ho.meet j i (by omega) (by rw[hL]; omega)
theorem xV (F:I2→I2→Int):∀L:List I2,((nT L).map fun e=>F e.1 e.2).sum=bX (L.length-1) fun i=>F (L.getD i (0,0)) (L.getD (i+1) (0,0))
 | []=>rfl
 | [_]=>rfl
 | a::b::l=>by
  simp only[nT,List.map_cons,List.sum_cons];rw[xV F (b::l)];have:(a::b::l).length-1=(b::l).length-1+1:=by simp
  rw[this,yP]
  rfl
theorem Dp (a b:I2) (l:List I2):nY (a::b::l)=nQ a b+((nT (b::l++[a])).map fun e=>nQ e.1 e.2).sum:=by
 have h:=xV nQ (a::(b::l++[a]));simp only[List.cons_append,nT,List.map_cons,List.sum_cons] at h;rw[List.cons_append,h];unfold nY;have hn:(a::b::l).length=l.length+2:=by simp
 rw[hn,show(a::b::(l++[a])).length-1=l.length+2 by simp]
 refine dD fun i hi=>?_;have hC:∀i,i<l.length+3→nx (a::b::l) i=(a::b::(l++[a])).getD i (0,0):=fun i hi=>by
  unfold nx;rw[hn];rcases Nat.lt_or_ge i (l.length+2) with g|g
  ·rw[Nat.mod_eq_of_lt g,show a::b::(l++[a])=(a::b::l)++[a] by simp,List.getD_eq_getElem?_getD,List.getD_eq_getElem?_getD,List.getElem?_append_left (by simp; omega)]
  ·have:i=l.length+2:=by omega
   subst this;rw[Nat.mod_self,show a::b::(l++[a])=(a::b::l)++[a] by simp,List.getD_eq_getElem?_getD,List.getD_eq_getElem?_getD,List.getElem?_append_right (by simp)]
   simp
 rw[hC i (by omega),hC (i+1) (by omega)]
 rfl
def fx (h:Nat→Int):Nat→Int→List I2
 | 0,_=>[]
 | k+1,p=>(if h k=p then[] else[(((k+1:Nat):Int),h k)])++((k:Int),h k)::fx h k (h k)
def down (h:Nat→Int) (k:Nat) (p:Int):List I2:=fx h k p++[(0,0)]
theorem me (h:Nat→Int) (p:Int):down h 0 p = [(0,0)]:=rfl
theorem mq {h:Nat→Int} {k:Nat} {p:Int} (e:h k=p):down h (k+1) p=((k:Int),h k)::down h k (h k):=by
 unfold down; simp only[fx]; rw[if_pos e]; rfl
theorem lT {h:Nat→Int} {k:Nat} {p:Int} (e:h k≠p):down h (k+1) p=(((k+1:Nat):Int),h k)::((k:Int),h k)::down h k (h k):=by
 unfold down; simp only[fx]; rw[if_neg e]; rfl
section
variable {h : Nat → Int} (hp : ∀ i, 1 ≤ h i)
include hp
theorem kZ:∀(k:Nat) (p:Int),∀x ∈ fx h k p,0≤x.1∧x.1≤k∧1≤x.2
 | 0,_,_,hx=>absurd hx (by simp[fx])
 | k+1,p,x,hx=>by
  simp only[fx,List.mem_append,List.mem_cons] at hx;rcases hx with hx|hx|hx
  ·split at hx
   ·simp at hx
   ·rw[List.mem_singleton] at hx; subst hx;have:=hp k;exact⟨by dsimp only; omega,by dsimp only; omega,this⟩
  ·subst hx;have:=hp k;exact⟨by dsimp only; omega,by dsimp only; omega,this⟩
  ·have:=kZ k (h k) x hx;omega
theorem rl (k:Nat) (p:Int):∀x ∈ down h k p,0≤x.1∧x.1≤k∧0≤x.2:=fun x hx=>by
 unfold down at hx;rcases List.mem_append.1 hx with hx|hx
 ·have:=kZ hp k p x hx; omega
 ·rw[List.mem_singleton] at hx; subst hx; exact⟨by decide,by dsimp only; omega,by decide⟩
omit hp in
theorem qY {L:List I2}:∀{e:I2 × I2},e ∈ nT L→e.1 ∈ L∧e.2 ∈ L:=by
 induction L with
 | nil=>intro e he; simp[nT] at he
 | cons a L ih =>
  intro e he
  match L with
  | []=>simp[nT] at he
  | b::l =>
   simp only[nT,List.mem_cons] at he;rcases he with rfl|he
   ·simp
   ·have:=ih (by simpa only[nT] using he)
    exact⟨List.mem_cons_of_mem _ this.1,List.mem_cons_of_mem _ this.2⟩
omit hp in
theorem tG {a b c d:I2} {k:Int} (ha:k<a.1) (hb:k<b.1) (hc:c.1≤k) (hd:d.1≤k):NM a b c d :=
 pd (α:=2) (β:=0) (γ:=-(2*k+1)) (by unfold eF; omega) (by unfold eF; omega) (by unfold eF; omega) (by unfold eF; omega)
omit hp in
theorem Ar {a b c d:I2} {y z:Int} (ha:a.2=y) (hb:b.2=y) (hc:c.2=z) (hd:d.2=z) (hyz:y≠z):NM a b c d:=by
 rcases Int.lt_or_gt_of_ne hyz with g|g
 ·exact pd (α:=0) (β:=-2) (γ:=y+z) (by unfold eF; omega) (by unfold eF; omega) (by unfold eF; omega) (by unfold eF; omega)
 ·exact pd (α:=0) (β:=2) (γ:=-(y+z)) (by unfold eF; omega) (by unfold eF; omega) (by unfold eF; omega) (by unfold eF; omega)
theorem Dk (k:Nat):∀e ∈ nT (down h k (h k)),NM (((k+1:Nat):Int),h k) ((k:Int),h k) e.1 e.2:=fun e he=>by
 match k with
 | 0=>rw[me] at he; simp[nT] at he
 | k+1 =>
  have inner:∀e ∈ nT (((k:Int),h k)::down h k (h k)),NM (((k+1+1:Nat):Int),h (k+1)) (((k+1:Nat):Int),h (k+1)) e.1 e.2:=fun e he=>by
   obtain⟨m1,m2⟩:=qY he;have q:∀x ∈ ((k:Int),h k)::down h k (h k),x.1≤(k:Int):=fun x hx=>by
    rcases List.mem_cons.1 hx with rfl|hx
    ·exact Int.le_refl _
    ·exact(rl hp k _ x hx).2.1
   exact tG (k:=(k:Int)) (by dsimp only; omega) (by dsimp only; omega) (q _ m1) (q _ m2)
  by_cases g:h k=h (k+1)
  ·rw[mq g] at he; exact inner e he
  ·rw[lT g] at he;simp only[nT,List.mem_cons] at he;rcases he with rfl|he
   ·exact Ar rfl rfl rfl rfl (Ne.symm g)
   ·exact inner e he
theorem Ap (k:Nat) (ho:xy (((k:Int),h k)::down h k (h k))):xy ((((k+1:Nat):Int),h k)::((k:Int),h k)::down h k (h k)):=by
 refine⟨fun e=>by have:=congrArg Prod.fst e; dsimp only at this; omega,fun c l' e=>?_,Dk hp k,ho⟩
 rintro⟨g1,g2⟩;have hc:=rl hp k (h k) c (by rw[e]; exact List.mem_cons_self)
 unfold di at g2
 dsimp only at g2
 rw[Int.sub_self,Int.zero_mul,Int.add_zero,show(k:Int)-((k+1:Nat):Int) = -1 by omega] at g2
 omega
theorem tL:∀(k:Nat) (p:Int),(k=0→p≠0)→xy (((k:Int),p)::down h k p)
 | 0,p,h0=>by
  rw[me];exact⟨fun e=>h0 rfl (congrArg Prod.snd e),fun c l' e=>by simp at e,fun e he=>by simp[nT] at he,trivial⟩
 | k+1,p,_=>by
  have ih:=tL k (h k) (fun _=>by have:=hp k; omega)
  have fl:=Ap hp k ih
  by_cases g:h k=p
  ·rw[mq g,←g]; exact fl
  ·rw[lT g];refine⟨fun e=>g (congrArg Prod.snd e).symm,fun c l' e=>?_,fun e he=>?_,fl⟩
   ·have:c=((k:Int),h k):=(List.cons.inj e).1.symm;subst this;rintro⟨g1,_⟩;unfold ti at g1
    dsimp only at g1
    rw[Int.sub_self,Int.zero_mul,Int.zero_sub,show(k:Int)-((k+1:Nat):Int) = -1 by omega,Int.mul_neg,Int.mul_one] at g1
    omega
   ·obtain⟨m1,m2⟩:=qY he;have q:∀x ∈ ((k:Int),h k)::down h k (h k),x.1≤(k:Int):=fun x hx=>by
     rcases List.mem_cons.1 hx with rfl|hx
     ·exact Int.le_refl _
     ·exact(rl hp k _ x hx).2.1
    exact tG (k:=(k:Int)) (by dsimp only; omega) (by dsimp only; omega) (q _ m1) (q _ m2)
def vp (h:Nat→Int) (c:Nat):List I2:=(0,0)::((c:Int),0)::fx h c 0
omit hp in
theorem qc:∀(k:Nat) (p:Int),0<k→(fx h k p).getLast? = some (0,h 0)
 | 0,_,hk=>absurd hk (Nat.lt_irrefl 0)
 | k+1,p,_=>by
  simp only[fx];rw[List.getLast?_append,List.getLast?_cons]
  match k with
  | 0=>simp[fx]
  | k+1=>rw[qc (k+1) _ (Nat.succ_pos k)]; simp
theorem E1 {c:Nat} (hc:0<c):VR (vp h c):=by
 obtain⟨k,rfl⟩:∃k,c=k+1:=⟨c-1,by omega⟩
 have hk:=hp k;have h0:=hp 0;have first:fx h (k+1) 0=(((k+1:Nat):Int),h k)::((k:Int),h k)::fx h k (h k):=by
  simp only[fx]; rw[if_neg (by omega)]; rfl
 refine GG (z:=(0,h 0)) (fun e=>by have:=congrArg Prod.fst e; dsimp only at this; omega) (by rw[first]; simp) (qc (k+1) 0 (Nat.succ_pos k)) (fun c l' e=>?_) ?_ (fun e he=>?_) (tL hp (k+1) 0 (fun e=>absurd e (by simp)))
 ·rw[first] at e
  have:c=(((k+1:Nat):Int),h k):=(List.cons.inj e).1.symm;subst this;rintro⟨g,_⟩;unfold ti at g
  dsimp only at g
  rw[Int.sub_zero,Int.sub_zero,Int.sub_self,Int.zero_mul,Int.sub_zero] at g;rcases Int.mul_eq_zero.1 g with e|e<;>omega
 ·rintro⟨g,_⟩;unfold ti at g
  dsimp only at g
  rw[Int.sub_self,Int.zero_mul,Int.zero_sub,Int.zero_sub,Int.sub_zero] at g;have:h 0*((k+1:Nat):Int)=0:=by rw[Int.neg_mul] at g; omega
  rcases Int.mul_eq_zero.1 this with e|e<;>omega
 ·obtain⟨m1,m2⟩:=qY he;have q1:=kZ hp _ _ _ m1;have q2:=kZ hp _ _ _ m2;exact pd (α:=0) (β:=-2) (γ:=1) (by unfold eF; omega) (by unfold eF; omega) (by unfold eF; omega) (by unfold eF; omega)
omit hp in
def rE (h:Nat→Int):Nat→Int
 | 0=>0
 | k+1=>rE h k+2*h k
omit hp in
theorem qJ:∀(k:Nat) (p:Int),((nT (((k:Int),p)::down h k p)).map fun e=>nQ e.1 e.2).sum=rE h k-k*p
 | 0,p=>by
  rw[me];simp[nT,nQ,rE]
 | k+1,p=>by
  have ih:=qJ k (h k);have e1:nQ (((k+1:Nat):Int),h k) ((k:Int),h k)=h k:=by unfold nQ; dsimp only; rw[Int.mul_comm (h k),←Int.sub_mul,show((k+1:Nat):Int)-(k:Int)=1 by omega,Int.one_mul]
  by_cases g:h k=p
  ·rw[mq g,←g];simp only[nT,List.map_cons,List.sum_cons];rw[ih,e1];simp only[rE];rw[show((k+1:Nat):Int)=(k:Int)+1 by omega,Int.add_mul]
   omega
  ·rw[lT g];simp only[nT,List.map_cons,List.sum_cons];rw[ih,e1];have e2:nQ (((k+1:Nat):Int),p) (((k+1:Nat):Int),h k)=(k:Int)*h k+h k-(k:Int)*p-p:=by
    unfold nQ; dsimp only; rw[show((k+1:Nat):Int)=(k:Int)+1 by omega]; grind
   rw[e2];simp only[rE];rw[show((k+1:Nat):Int)=(k:Int)+1 by omega,Int.add_mul]
   omega
theorem Ck {c:Nat} (hc:0<c):0<nY (vp h c):=by
 have e:nY (vp h c)=rE h c:=by
  unfold vp;rw[Dp];have:=qJ (h:=h) c 0;unfold down at this;rw[List.cons_append,this];unfold nQ; dsimp only; omega
 rw[e];have:∀k,0≤rE h k:=fun k=>by
  induction k with
  | zero=>exact Int.le_refl 0
  | succ k ih=>simp only[rE]; have:=hp k; omega
 obtain⟨k,rfl⟩:∃k,c=k+1:=⟨c-1,by omega⟩
 have h1:=this k;have h2:=hp k;simp only[rE]; omega
end
end Jd
end

section
namespace Go.Proofs.YthmekkhpddehjaaGreat
open Go Go.Ab Go.Ab.W Go.Ab.B Jd
structure Ok (l:List I2):Prop where
 len:l.length≤40
 nr:∀i,Nr (nx l i)
 vr:VR l
theorem jH {ρ:Type} {f:Nat→Option ρ} {e:ρ} {k i:Nat} (h:∀j,i≤j→j<i+k→f j=none):cD f e k i=e:=by
 rcases eO (f:=f) (e:=e) k i with⟨_,h2⟩|⟨j,h1,h2,h3⟩
 ·exact h2
 ·rw[h j h1 h2] at h3; cases h3
theorem zA {i L:Nat} (hL:0<L):((i+1)%L+L-1)%L=i%L:=by
 have h:=Nat.div_add_mod (i+1) L;have:((i+1)%L+L-1)+L*((i+1)/L)=i+L:=by omega
 rw[←Nat.add_mul_mod_self_left ((i+1)%L+L-1) L ((i+1)/L),this,Nat.add_mod_right]
theorem Ok.gO {l:List I2} (h:Ok l):gO l:=by
 have hn:=h.vr.n3;have hl:=h.len;unfold Go.Proofs.YthmekkhpddehjaaGreat.gO lA;rw[if_neg (by omega),jH (f:=jS l) fun j _ _=>by unfold jS; rw[if_neg (xP.2 (h.nr j))]]
 dsimp only
 rw[jH (f:=eJ l) fun j _ _=>by unfold eJ; rw[if_neg (h.vr.still j)]]
 dsimp only
 rw[jH (f:=fg l) fun j _ hj=>by
  unfold fg;have:=h.vr.pM (j+l.length-1);rw[show j+l.length-1+1=j+l.length by omega,show j+l.length-1+2=(j+1)+l.length by omega,hJ l (Nat.add_mod_right j l.length),hJ l (Nat.add_mod_right (j+1) l.length)] at this
  rw[if_neg this]]
 dsimp only
 rw[jH (f:=fe l) fun j _ hj=>by
  unfold fe;rw[if_neg];rintro⟨t,ht,h1,h2⟩;exact h2 (so.2 (h.vr.meet t j ht (by omega) fun e=>h1 ⟨e.1,by omega⟩))]
 exact Int.le_refl 0
theorem gO.ok {l:List I2} (h:gO l):Ok l:=by
 unfold Go.Proofs.YthmekkhpddehjaaGreat.gO lA at h
 split at h
 ·exact absurd (show(1:Int)≤0 from h) (by decide)
 ·rename_i hl;cases h1:cD (jS l) (.inr ()) l.length 0 with
  | inl v=>rw[h1] at h; exact absurd (show(2:Int)≤0 from h) (by decide)
  | inr _ =>
   rw[h1] at h
   dsimp only at h
   cases h2:cD (eJ l) (.inr ()) l.length 0 with
   | inl v=>rw[h2] at h; exact absurd (show(3:Int)≤0 from h) (by decide)
   | inr _ =>
    rw[h2] at h
    dsimp only at h
    cases h3:cD (fg l) (.inr ()) l.length 0 with
    | inl v=>rw[h3] at h; exact absurd (show(4:Int)≤0 from h) (by decide)
    | inr _ =>
     rw[h3] at h
     dsimp only at h
     cases h4:cD (fe l) (.inr ()) l.length 0 with
     | inl v=>rw[h4] at h; exact absurd (show(5:Int)≤0 from h) (by decide)
     | inr _ =>
      have hL:0<l.length:=by omega
      refine⟨by omega,wK hL h1,by omega,u1 hL h2,fun i=>?_,fun j i hji hi hn=>?_⟩
      ·have:=lp (fun j r hr=>by unfold fg at hr; split at hr<;>cases hr; simp) h3 ((i+1)%l.length) (Nat.mod_lt _ hL)
       unfold fg at this
       split at this
       ·cases this
       ·rename_i g;rw[hJ l (zA hL),oY,m8] at g;exact g
      ·have:=lp (fun j r hr=>by unfold fe at hr; split at hr<;>cases hr; simp) h4 i hi
       unfold fe at this
       split at this
       ·cases this
       ·rename_i g;refine so.1 (Decidable.byContradiction fun e=>g ⟨j,hji,fun k=>hn ⟨k.1,by omega⟩,e⟩)
theorem fw {l:List I2}:gO l↔Ok l:=⟨gO.ok,Ok.gO⟩
def num (l:List Nat) (i:Nat):Nat:=if l.length=0 then i%3 else l.getD (i%l.length) 0
theorem EL {l:List Nat} (hb:∀x ∈ l,x<256) (i:Nat):num l i<256:=by
 unfold num
 split
 ·omega
 ·rename_i h;have hm:i%l.length<l.length:=Nat.mod_lt _ (by omega)
  rw[List.getD_eq_getElem?_getD,List.getElem?_eq_getElem hm];exact hb _ (List.getElem_mem hm)
section
variable (n : Nat) {l : List Nat} (hb : ∀ x ∈ l, x < 256) (x5 x6 : Int) (x7 : Nat) (x8 x9 : Bool)
include hb
theorem u9 (i:Nat):FZ n l x5 x6 x7 x8 x9 (i:Int)=some ((num l i:Nat):Int):=by
 have hlt:=EL hb i;unfold FZ;unfold num at hlt ⊢
 by_cases h:l.length=0
 ·rw[aP (by omega),if_pos h]; rfl
 ·have hm:i%l.length<l.length:=Nat.mod_lt _ (by omega)
  rw[if_neg h] at hlt ⊢;rw[aU (by omega),decide_eq_true (show((l.length:Nat):Int)≠0 by omega),bA,iC,aZ hm,bA,Int.toNat_natCast]
  rw[List.getD_eq_getElem?_getD,List.getElem?_eq_getElem hm] at hlt ⊢;have hlt':l[i%l.length]<256:=hlt;rw[aq,aA (by omega) (by omega)]; rfl
def kp (l:List Nat) (i:Nat):Bool:=!(decide (num l i%6=0) && !decide (i%3=0))
def cm (l:List Nat) (i:Nat):Int:=((1+num l i%6%5:Nat):Int)
def HI:List I2:=[(2,0),(2,1),(1,2),(0,2),(-1,2),(-2,1),(-2,0),(-2,-1),(-1,-2),(0,-2),(1,-2),(2,-1)]
omit hb in
theorem vw (i:Nat):1≤cm l i∧cm l i≤5:=by unfold cm; omega
omit hb in
theorem Es:∀i<12,HI[i]? = some ((wy i).1,(wy i).2):=by decide
omit hb in
theorem Gz:∀i<12,-2≤(wy i).1∧(wy i).1≤2∧-2≤(wy i).2∧(wy i).2≤2:=by decide
omit hb in
theorem qn {x y:Int} (hx : -2≤x∧x≤2) (hy:1≤y∧y≤5):IntKind.wrap .i64 (x*y)=x*y:=by
 have:=cN (B:=2) (C:=5) (u:=x) (v:=y) (by decide) (by omega) (by omega) (by omega) (by omega)
 exact aA (by omega) (by omega)
theorem zR {i:Nat} (hi:i<12) (acc:List I2) (ha:acc.length≤12):ql n l x5 x6 x7 x8 x9 (acc,HI,(i:Int))=some (.inl (if kp l i then acc++[wN (cm l i) (wy i)] else acc,HI,((i+1:Nat):Int))):=by
 have hw:=Gz i hi;have hc:=vw (l:=l) i;have e1:Int.tmod ((num l i:Nat):Int) 6=((num l i%6:Nat):Int):=rfl;have e2:Int.tmod (i:Int) 3=((i%3:Nat):Int):=rfl;have e3:Int.tmod ((num l i%6:Nat):Int) 5=((num l i%6%5:Nat):Int):=rfl;have e4:IntKind.wrap .i64 (1+((num l i%6%5:Nat):Int))=cm l i:=by
  unfold cm; rw[aA (by omega) (by omega)]; omega
 unfold ql
 dsimp only
 rw[aP (by omega),u9 n hb,aq,e1,e2,e3,e4,aZ hi,bA,Int.toNat_natCast,Es i hi,aq]
 dsimp only
 rw[qn ⟨hw.1,hw.2.1⟩ hc,qn ⟨hw.2.2.1,hw.2.2.2⟩ hc,aq,bA,aq,aX (by omega),dz,aq]
 have hk:(decide (((num l i%6:Nat):Int)=0) && !decide (((i%3:Nat):Int)=0)) = !kp l i:=by
  unfold kp;rw[Bool.not_not]
  congr 1
  ·rw[decide_eq_decide]; omega
  ·congr 1; rw[decide_eq_decide]; omega
 rw[hk];cases kp l i with
 | true =>
  rw[Bool.not_true,dV,show lim (acc++[((wy i).1*cm l i,(wy i).2*cm l i)]).length=true from Nat.ble_eq_true_of_le (by rw[List.length_append]; simp; omega),bA,aq]; rfl
 | false=>rw[Bool.not_false,kA,aq]; rfl
theorem pJ:∀(k i m:Nat) (acc:List I2),i+k=12→acc.length≤i→k<m→dn (ql n l x5 x6 x7 x8 x9) m (acc,HI,(i:Int))=some (acc++((List.range' i k).filter (kp l)).map fun i=>wN (cm l i) (wy i))
 | 0,i,m+1,acc,h,_,_=>by
  rw[dM (r:=acc)]
  ·simp
  ·unfold ql
   dsimp only
   rw[aU (by omega)]
 | k+1,i,m+1,acc,h,ha,hm=>by
  rw[bH (zR n hb x5 x6 x7 x8 x9 (show i<12 by omega) acc (by omega)),pJ k (i+1) m _ (by omega) (by split<;>(try rw[List.length_append,List.length_singleton])<;>omega) (by omega),List.range'_succ,List.filter_cons]
  congr 1
  split<;>simp
def hh (l:List Nat) (i:Nat):Int:=((1+num l (i+1)%5:Nat):Int)
omit hb in
theorem vf (i:Nat):1≤hh l i:=by unfold hh; omega
omit hb in
theorem GS (i:Nat):hh l i≤5:=by unfold hh; omega
omit hb in
theorem Dq (k:Nat):IntKind.wrap .i64 (1+Int.tmod ((num l (k+1):Nat):Int) 5)=hh l k:=by
 have e3:Int.tmod ((num l (k+1):Nat):Int) 5=((num l (k+1)%5:Nat):Int):=rfl;rw[e3]; unfold hh; rw[aA (by omega) (by omega)]; omega
omit hb in
theorem CN (A:List I2) (x:I2) (hA:A.length<1000) {β:Type} (K:Int × Int→Option β):gd (dq (IntKind.wrap .i64 (((A++[x]).length:Int)-1)) (A++[x]).length) (ob ((A++[x])[(IntKind.wrap .i64 (((A++[x]).length:Int)-1)).toNat]?) K)=K x:=by
 have e:IntKind.wrap .i64 (((A++[x]).length:Int)-1)=(A.length:Int):=by rw[List.length_append]; simp only[List.length_cons,List.length_nil]; rw[aA (by omega) (by omega)]; omega
 rw[e,aZ (by simp),bA,Int.toNat_natCast,List.getElem?_append_right (Nat.le_refl _),Nat.sub_self]
 exact aq x K
omit hb in
theorem oj (A:List I2) (x:I2) (hA:A.length<1000) (k:Nat) (u:Int) (hu:(k:Int)≤u) (hu':u<100000) :
  oI n (k:Int) ((num l (k+1):Nat):Int) (A++[x],(A++[x]).length,u)=some (.inl ((A++[x])++(if x=(u,hh l k) then[] else[(u,hh l k)]),((A++[x])++(if x=(u,hh l k) then[] else[(u,hh l k)])).length,u-1)):=by
 unfold oI
 dsimp only
 rw[aP hu,Dq,CN A x hA]
 try dsimp only
 have hd:(decide (x.1=u) && decide (x.2=hh l k))=decide (x=(u,hh l k)):=lN x (u,hh l k);have hw:IntKind.wrap .i64 (u-1)=u-1:=aA (by omega) (by omega)
 rw[hd,hw]
 by_cases h:x=(u,hh l k)
 ·rw[decide_eq_true h,Bool.not_true,dV,aq,if_pos h,List.append_nil]
 ·rw[decide_eq_false h,Bool.not_false,kA,show lim ((A++[x])++[(u,hh l k)]).length=true from Nat.ble_eq_true_of_le (by simp; omega),bA,aq,if_neg h]
omit hb in
theorem wz (A:List I2) (hA:A.length<900) (k:Nat) (hk:k<10000) (p:Int) {m:Nat} (hm:3≤m) :
  ∃B,dn (oI n (k:Int) ((num l (k+1):Nat):Int)) m (A++[(((k+1:Nat):Int),p)],(A++[(((k+1:Nat):Int),p)]).length,((k+1:Nat):Int))=some (B++[((k:Int),hh l k)],(B++[((k:Int),hh l k)]).length) ∧
   B++[((k:Int),hh l k)]=A++[(((k+1:Nat):Int),p)]++((if hh l k=p then[] else[(((k+1:Nat):Int),hh l k)])++[((k:Int),hh l k)])∧B.length≤A.length+2:=by
 obtain⟨m,rfl⟩:∃q,m=q+3:=⟨m-3,by omega⟩
 have s1:=oj (l:=l) n A (((k+1:Nat):Int),p) (by omega) k ((k+1:Nat):Int) (by omega) (by omega)
 have sE:∀B:List I2,oI n (k:Int) ((num l (k+1):Nat):Int) (B,B.length,(k:Int)-1)=some (.inr (B,B.length)):=fun B=>by
  unfold oI
  dsimp only
  rw[aU (by omega)]
 have e1:((k+1:Nat):Int)-1=(k:Int):=by omega
 by_cases h:p=hh l k
 ·subst h;rw[if_pos rfl,List.append_nil,e1] at s1;have s2:=oj (l:=l) n A (((k+1:Nat):Int),hh l k) (by omega) k (k:Int) (by omega) (by omega)
  rw[if_neg (fun e=>by have:=congrArg Prod.fst e; dsimp only at this; omega)] at s2
  refine⟨A++[(((k+1:Nat):Int),hh l k)],?_,by simp,by simp⟩
  rw[bH s1,bH s2,dM (sE _)]
 ·rw[if_neg (fun e=>h (congrArg Prod.snd e)),e1] at s1;have s2:=oj (l:=l) n (A++[(((k+1:Nat):Int),p)]) (((k+1:Nat):Int),hh l k) (by simp; omega) k (k:Int) (by omega) (by omega)
  rw[if_neg (fun e=>by have:=congrArg Prod.fst e; dsimp only at this; omega)] at s2
  refine⟨A++[(((k+1:Nat):Int),p)]++[(((k+1:Nat):Int),hh l k)],?_,by rw[if_neg (fun e=>h e.symm)]; simp,by simp⟩
  rw[bH s1,bH s2,dM (sE _)]
theorem oW (hn:3≤n):∀(k m:Nat) (A:List I2) (p:Int),A.length+2*k<900→k<m→∃N,dn (ue n l x5 x6 x7 x8 x9) m (A++[((k:Int),p)],(A++[((k:Int),p)]).length,(k:Int)-1)=some (A++[((k:Int),p)]++fx (hh l) k p,N)
 | 0,m+1,A,p,_,_=>by
  refine⟨_,dM (r:=(A++[(((0:Nat):Int),p)]++fx (hh l) 0 p,(A++[(((0:Nat):Int),p)]).length)) ?_⟩;unfold ue
  dsimp only
  rw[aU (by omega)]
  simp[fx]
 | k+1,m+1,A,p,hA,hm=>by
  obtain⟨B,h1,h2,h3⟩:=wz (l:=l) n A (by omega) k (by omega) p hn
  obtain⟨N,ih⟩:=oW hn k m B (hh l k) (by omega) (by omega)
  have e1:((k+1:Nat):Int)-1=(k:Int):=by omega
  refine⟨N,?_⟩;rw[bH (s':=(B++[((k:Int),hh l k)],(B++[((k:Int),hh l k)]).length,(k:Int)-1)),ih,h2]
  ·simp only[fx,List.append_assoc,List.cons_append,List.nil_append]
  ·unfold ue
   dsimp only
   rw[e1,aP (by omega),aX (by omega),u9 n hb,aq,h1,aq]
   dsimp only
   rw[aA (by omega) (by omega)]
def lB (l:List Nat):Nat:=1+num l 0%6
def fW (l:List Nat) (row:Bool):List I2:=if row then vp (hh l) (lB l) else((List.range 12).filter (kp l)).map fun i=>wN (cm l i) (wy i)
theorem FX (hn:12<n):HF n l x5 x6 x7 x8 x9=some (fW l x8):=by
 unfold HF fW;cases x8 with
 | false =>
  rw[Bool.not_false,kA];have:=pJ n hb x5 x6 x7 false x9 12 0 n [] (by omega) (by simp) hn
  rw[←List.range_eq_range'] at this;exact(congrArg (fun o=>ob o fun l1=>some l1) this).trans rfl
 | true =>
  have e0:Int.tmod ((num l 0:Nat):Int) 6=((num l 0%6:Nat):Int):=rfl;have e1:IntKind.wrap .i64 (1+((num l 0%6:Nat):Int))=(lB l:Int):=by unfold lB; rw[aA (by omega) (by omega)]; omega
  have e2:IntKind.wrap .i64 ((lB l:Int)-1)=(lB l:Int)-1:=aA (by unfold lB; omega) (by unfold lB; omega)
  rw[Bool.not_true,dV,show(0:Int)=((0:Nat):Int) from rfl,u9 n hb,aq,e0,e1,e2]
  obtain⟨N,h⟩:=oW n hb x5 x6 x7 true x9 (by omega) (lB l) n [(0,0)] 0 (by simp; unfold lB; omega) (by unfold lB; omega)
  exact(congrArg (fun o=>ob o fun x:List I2 × Nat=>match x with | (l2,_)=>some l2) h).trans rfl
end
end Go.Proofs.YthmekkhpddehjaaGreat
end

section
namespace Jd
def Lt (a b:I2):Prop:=a.1<b.1∨a.1=b.1∧a.2<b.2
instance (a b:I2):Decidable (Lt a b):=by unfold Lt; infer_instance
theorem Lt.trans {a b c:I2} (h:Lt a b) (g:Lt b c):Lt a c:=by unfold Lt at *; omega
theorem Lt.IF (a:I2):¬Lt a a:=by unfold Lt; omega
theorem Lt.Iy (a b:I2):Lt a b∨a=b∨Lt b a:=by
 unfold Lt
 by_cases h1:a.1=b.1
 ·by_cases h2:a.2=b.2
  ·exact .inr (.inl (Prod.ext h1 h2))
  ·omega
 ·omega
def Fw (x y:Int):Prop:=0<x∨x=0∧0<y
theorem DD {a b:I2} (h:Lt a b):Fw (b.1-a.1) (b.2-a.2):=by unfold Lt at h; unfold Fw; omega
def Edge (Q:I2→Prop) (a b:I2):Prop:=Lt a b∧∀q,Q q→0≤ti a b q∧(ti a b q=0→¬Lt q a∧¬Lt b q)
inductive Stk (Q:I2→Prop):List I2→Prop
 | one {a}:(∀q,Q q→¬Lt q a)→Q a→Stk Q [a]
 | more {a b st}:Edge Q a b→Q b→Stk Q (a::st)→Stk Q (b::a::st)
theorem Stk.mono {Q R:I2→Prop} (h:∀q,Q q↔R q) {st:List I2} (s:Stk Q st):Stk R st:=by
 have:Q=R:=funext fun q=>propext (h q);rw[←this]; exact s
def Good (S:I2→Prop) (x y:I2):Prop:=x≠y∧S y∧∀q,S q→0<ti x y q∨q=x∨q=y∨(ti x y q=0∧0<di x q y)
theorem Er {x1 y1 x2 y2:Int} (f1:Fw x1 y1) (f2:Fw x2 y2) (h:x1*y2-y1*x2=0):0<x1*x2+y1*y2:=by
 unfold Fw at f1 f2;have pp:∀{a b:Int},0<a→0<b→0<a*b:=Int.mul_pos
 by_cases h1:0<x1
 ·by_cases h2:0<x2
  ·
   have e:x1*x1*(y1*y2)=(x1*y1)*(x1*y2):=by grind
   have e2:x1*y2=y1*x2:=by omega
   have e3:x1*x1*(y1*y2)=(x1*x2)*(y1*y1):=by rw[e,e2]; grind
   have m1:=pp h1 h2;have m2:0≤x1*x1*(y1*y2):=by rw[e3]; exact Int.mul_nonneg (Int.le_of_lt m1) u2
   have:=Int.nonneg_of_mul_nonneg_right m2 (pp h1 h1);omega
  ·have e:x2=0:=by omega
   have:=pp h1 (show 0<y2 by omega)
   subst e;omega
 ·have e:x1=0:=by omega
  subst e;have k:0<y1:=by omega
  have:x2=0:=by
   refine Decidable.byContradiction fun hc=>?_;have:=pp k (show 0<x2 by omega)
   omega
  subst this;have:=pp k (show 0<y2 by omega)
  omega
theorem Edge.yJ {Q:I2→Prop} {a b:I2} (h:Edge Q a b) (hb:Q b):Good Q a b:=by
 refine⟨fun e=>Lt.IF b (by have:=h.1; rwa[e] at this),hb,fun q hq=>?_⟩
 obtain⟨h1,h2⟩:=h.2 q hq
 by_cases h0:ti a b q=0
 ·obtain⟨g1,g2⟩:=h2 h0;rcases Lt.Iy a q with k|k|k
  ·rcases Lt.Iy q b with k' | k' | k'
   ·refine .inr (.inr (.inr ⟨h0,?_⟩));exact Er (DD k) (DD k') (by rw[←Int.neg_eq_zero,←h0]; unfold ti; grind)
   ·exact .inr (.inr (.inl k'))
   ·exact absurd k' g2
  ·exact .inr (.inl k.symm)
  ·exact absurd k g1
 ·exact .inl (by omega)
inductive Way (S:I2→Prop):List I2→Prop
 | one (a):Way S [a]
 | more {a b l}:Good S a b→Way S (b::l)→Way S (a::b::l)
theorem Way.mem {S:I2→Prop}:∀{a:I2} {l:List I2},Way S (a::l)→∀q ∈ l,S q
 | _,_,.one _,q,hq=>by cases hq
 | _,_,.more h k,q,hq=>by
  rcases List.mem_cons.1 hq with rfl|hq
  ·exact h.2.1
  ·exact k.mem q hq
theorem Good.ge {S:I2→Prop} {x y q:I2} (h:Good S x y) (hq:S q):0≤ti x y q:=by
 rcases h.2.2 q hq with g|rfl|rfl|g
 ·omega
 ·rw[q8]; exact Int.le_refl 0
 ·rw[sK]; exact Int.le_refl 0
 ·omega
theorem Hk {x y q z:I2}:((y.1-q.1)*(y.1-x.1)+(y.2-q.2)*(y.2-x.2))*ti q z x+((q.1-x.1)*(y.1-x.1)+(q.2-x.2)*(y.2-x.2))*ti q z y=ti x y q * -((z.1-q.1)*(y.1-x.1)+(z.2-q.2)*(y.2-x.2)):=by unfold ti; grind
theorem B4 {u v w:I2} (h1:u.1*w.2=u.2*w.1) (_:v.1*w.2=v.2*w.1) (g1:0<u.1*w.1+u.2*w.2) (g2:0<v.1*w.1+v.2*w.2):0<u.1*v.1+u.2*v.2:=by
 have e:(u.1*w.1+u.2*w.2)*(v.1*w.1+v.2*w.2)=(u.1*v.1+u.2*v.2)*(w.1*w.1+w.2*w.2):=by grind
 have p:=Int.mul_pos g1 g2;rw[e] at p;have n:0≤w.1*w.1+w.2*w.2:=Int.add_nonneg u2 u2;rcases Int.lt_or_eq_of_le n with k|k
 ·rw[Int.mul_comm] at p; exact Int.pos_of_mul_pos_right p k
 ·rw[←k,Int.mul_zero] at p; exact absurd p (by decide)
structure Hul (S:I2→Prop) (r:List I2):Prop where
 n3:2<r.length
 yJ:∀i,Good S (nx r i) (nx r (i+1))
 nodup:∀i j,i<j→j<r.length→nx r i≠nx r j
section
variable {S : I2 → Prop} {r : List I2}
theorem Hul.mem (h:Hul S r) (i:Nat):S (nx r i):=by
 have hn:=h.n3;have:=(h.yJ (i+(r.length-1))).2.1;rwa[show i+(r.length-1)+1=i+r.length by omega,hJ r (Nat.add_mod_right i r.length)] at this
theorem Hul.strict (h:Hul S r) (i k:Nat) (h1:nx r k≠nx r i) (h2:nx r k≠nx r (i+1)):0<ti (nx r i) (nx r (i+1)) (nx r k):=by
 rcases(h.yJ i).2.2 _ (h.mem k) with g|g|g|⟨g1,g2⟩
 ·exact g
 ·exact absurd g h1
 ·exact absurd g h2
 ·exfalso;have hk:=h.yJ k;have hx:=h.mem i;have hy:=h.mem (i+1);generalize nx r i=x at *;generalize nx r (i+1)=y at *;generalize nx r k=q at *;generalize nx r (k+1)=z at *;have hw:=Hk (x:=x) (y:=y) (q:=q) (z:=z);rw[g1,Int.zero_mul] at hw;have sx:=hk.ge hx;have sy:=hk.ge hy;have dd:di x q y=(q.1-x.1)*(y.1-q.1)+(q.2-x.2)*(y.2-q.2):=rfl;have wa:0<(q.1-x.1)*(y.1-x.1)+(q.2-x.2)*(y.2-x.2):=by
   have:(q.1-x.1)*(y.1-x.1)+(q.2-x.2)*(y.2-x.2)=di x q y+((q.1-x.1)*(q.1-x.1)+(q.2-x.2)*(q.2-x.2)):=by unfold di; grind
   have:=@u2 (q.1-x.1);have:=@u2 (q.2-x.2);omega
  have wb:0<(y.1-q.1)*(y.1-x.1)+(y.2-q.2)*(y.2-x.2):=by
   have:(y.1-q.1)*(y.1-x.1)+(y.2-q.2)*(y.2-x.2)=di x q y+((y.1-q.1)*(y.1-q.1)+(y.2-q.2)*(y.2-q.2)):=by unfold di; grind
   have:=@u2 (y.1-q.1);have:=@u2 (y.2-q.2);omega
  have n1:=Int.mul_nonneg (Int.le_of_lt wb) sx;have n2:=Int.mul_nonneg (Int.le_of_lt wa) sy;have zx:ti q z x=0:=by
   rcases Int.mul_eq_zero.1 (show((y.1-q.1)*(y.1-x.1)+(y.2-q.2)*(y.2-x.2))*ti q z x=0 by omega) with e|e
   ·omega
   ·exact e
  have zy:ti q z y=0:=by
   rcases Int.mul_eq_zero.1 (show((q.1-x.1)*(y.1-x.1)+(q.2-x.2)*(y.2-x.2))*ti q z y=0 by omega) with e|e
   ·omega
   ·exact e
  have hqz:=hk.1;have zz:0<(z.1-q.1)*(z.1-q.1)+(z.2-q.2)*(z.2-q.2):=by
   have s1:=@u2 (z.1-q.1);have s2:=@u2 (z.2-q.2);refine Decidable.byContradiction fun hc=>hqz ?_;have g1:=Cm (show(z.1-q.1)*(z.1-q.1)=0 by omega)
   have g2:=Cm (show(z.2-q.2)*(z.2-q.2)=0 by omega)
   exact Prod.ext (by omega) (by omega)
  have dir:∀p,S p→p≠q→ti q z p=0→0<(p.1-q.1)*(z.1-q.1)+(p.2-q.2)*(z.2-q.2):=fun p hp hne h0=>by
   rcases hk.2.2 p hp with e|e|e|⟨_,e⟩
   ·omega
   ·exact absurd e hne
   ·subst e; exact zz
   ·have:(p.1-q.1)*(z.1-q.1)+(p.2-q.2)*(z.2-q.2)=di q p z+((p.1-q.1)*(p.1-q.1)+(p.2-q.2)*(p.2-q.2)):=by unfold di; grind
    have:=@u2 (p.1-q.1);have:=@u2 (p.2-q.2);omega
  have d1:=dir x hx (Ne.symm h1) zx;have d2:=dir y hy (Ne.symm h2) zy;have:=B4 (u:=(x.1-q.1,x.2-q.2)) (v:=(y.1-q.1,y.2-q.2)) (w:=(z.1-q.1,z.2-q.2)) (by unfold ti at zx; grind) (by unfold ti at zy; grind) d1 d2
  dsimp only at this
  have e:(x.1-q.1)*(y.1-q.1)+(x.2-q.2)*(y.2-q.2) = -di x q y:=by unfold di; grind
  omega
theorem wY {r:List I2} {i:Nat} (h:i<r.length):i%r.length=i:=Nat.mod_eq_of_lt h
theorem Hul.ne (h:Hul S r) {i j:Nat} (hi:i%r.length≠j%r.length):nx r i≠nx r j:=by
 have hn:0<r.length:=by have:=h.n3; omega
 rw[hJ r (show i%r.length=(i%r.length)%r.length by rw[Nat.mod_mod]),hJ r (show j%r.length=(j%r.length)%r.length by rw[Nat.mod_mod])]
 have a:=Nat.mod_lt i hn;have b:=Nat.mod_lt j hn;rcases Nat.lt_or_gt_of_ne hi with g|g
 ·exact h.nodup _ _ g b
 ·exact(h.nodup _ _ g a).symm
theorem mod_succ {i n:Nat} (hn:0<n):(i+1)%n=if i%n+1=n then 0 else i%n+1:=by
 have h:=Nat.mod_lt i hn;rw[Nat.add_mod]
 by_cases g:i%n+1=n
 ·rw[if_pos g];rcases Nat.lt_or_ge 1 n with k|k
  ·rw[Nat.mod_eq_of_lt k,g,Nat.mod_self]
  ·have:n=1:=by omega
   subst this; omega
 ·rw[if_neg g,Nat.mod_eq_of_lt (show 1<n by omega),Nat.mod_eq_of_lt (by omega)]
theorem Hul.iN (h:Hul S r) (i:Nat):0<ti (nx r i) (nx r (i+1)) (nx r (i+2)):=by
 have hn:=h.n3;have e1:=mod_succ (i:=i) (n:=r.length) (by omega)
 have e2:=mod_succ (i:=i+1) (n:=r.length) (by omega)
 have:=Nat.mod_lt i (show 0<r.length by omega)
 refine h.strict i (i+2) (h.ne ?_) (h.ne ?_)
 ·rw[show i+2=i+1+1 from rfl,e2,e1]
  split<;>split<;>omega
 ·rw[show i+2=i+1+1 from rfl,e2,e1]
  split<;>split<;>omega
theorem Hul.vr (h:Hul S r):VR r:=by
 have hn:=h.n3;refine⟨hn,fun i=>(h.yJ i).1,fun i g=>?_,fun j i h1 h2 h3=>?_⟩
 ·have:=h.iN i; omega
 ·have m1:(i+1)%r.length=if i+1=r.length then 0 else i+1:=by
   rw[mod_succ (by omega),wY h2]
  have mj:j%r.length=j:=wY (by omega)
  have mj1:(j+1)%r.length=j+1:=wY (by omega)
  have mi:i%r.length=i:=wY h2;have c1:=h.strict j i (h.ne (by rw[mi,mj]; omega)) (h.ne (by rw[mi,mj1]; omega))
  have c2:=h.strict j (i+1) (h.ne (by rw[m1,mj]; split<;>omega)) (h.ne (by rw[m1,mj1]; split<;>omega))
  have a1:=h.strict i j (h.ne (by rw[mi,mj]; omega)) (h.ne (by rw[m1,mj]; split<;>omega))
  have a2:=h.strict i (j+1) (h.ne (by rw[mi,mj1]; omega)) (h.ne (by rw[m1,mj1]; split<;>omega))
  generalize nx r j=a at *;generalize nx r (j+1)=b at *;generalize nx r i=c at *;generalize nx r (i+1)=d at *;refine⟨fun x hx=>?_,fun hx=>by omega⟩
  have el:∀x,eF (-(b.2-a.2)) (b.1-a.1) ((b.2-a.2)*a.1-(b.1-a.1)*a.2) x=ti a b x:=fun x=>by unfold eF ti; grind
  have:=rk (α:=-(b.2-a.2)) (β:=b.1-a.1) (γ:=(b.2-a.2)*a.1-(b.1-a.1)*a.2) hx.2.2 (by rw[el]; exact c1) (by rw[el]; exact c2)
  rw[el,hx.2.1.1] at this;exact absurd this (by decide)
end
theorem Good.same {S T:I2→Prop} (h:∀q,S q↔T q) {x y:I2} (g:Good S x y):Good T x y:=⟨g.1,(h y).1 g.2.1,fun q hq=>g.2.2 q ((h q).2 hq)⟩
theorem Hul.same {S T:I2→Prop} (h:∀q,S q↔T q) {r:List I2} (g:Hul S r):Hul T r:=⟨g.n3,fun i=>(g.yJ i).same h,g.nodup⟩
theorem BP {r:List I2} (h:r≠[]) (i:Nat):nx r i ∈ r:=by
 have hl:=List.length_pos_iff.2 h;have hi:=Nat.mod_lt i hl;unfold nx;rw[List.getD_eq_getElem?_getD,List.getElem?_eq_getElem hi];exact List.getElem_mem hi
end Jd
end

section
namespace Go.Proofs.YthmekkhpddehjaaGreat
open Go Go.Ab Go.Ab.W Go.Ab.B Jd
def vX (s:Int) (v:I2) (r:List I2):List I2:=r.map fun q=>lP v (mT s q)
theorem zK (s:Int) (v:I2) (r:List I2):vX s v r=(r.map (mT s)).map (lP v):=by
 unfold vX; rw[List.map_map]; rfl
theorem xj {h:Nat→Int} (hp:∀i,h i≤5):∀(k:Nat) (p:Int),∀x ∈ fx h k p,x.2≤5
 | 0,_,_,hx=>absurd hx (by simp[fx])
 | k+1,p,x,hx=>by
  simp only[fx,List.mem_append,List.mem_cons] at hx;rcases hx with hx|hx|hx
  ·split at hx
   ·simp at hx
   ·rw[List.mem_singleton] at hx; subst hx; exact hp k
  ·subst hx; exact hp k
  ·exact xj hp k (h k) x hx
theorem uR (h:Nat→Int):∀(k:Nat) (p:Int),(fx h k p).length≤2*k
 | 0,_=>by simp[fx]
 | k+1,p=>by
  have:=uR h k (h k);simp only[fx,List.length_append,List.length_cons]
  split
  ·simp only[List.length_nil]; omega
  ·simp only[List.length_cons,List.length_nil]; omega
section
variable {l : List Nat}
theorem vR:1≤lB l∧lB l≤6:=by unfold lB; omega
theorem BL (row:Bool):∀q ∈ fW l row,-10≤q.1∧q.1≤10∧-10≤q.2∧q.2≤10:=fun q hq=>by
 unfold fW at hq;cases row with
 | true =>
  rw[if_pos rfl] at hq;unfold vp at hq;have hc:=vR (l:=l);rcases List.mem_cons.1 hq with rfl|hq
  ·decide
  ·rcases List.mem_cons.1 hq with rfl|hq
   ·dsimp only; omega
   ·have h1:=kZ (fun i=>vf (l:=l) i) _ _ _ hq;have h2:=xj (fun i=>GS (l:=l) i) _ _ _ hq;omega
 | false =>
  rw[if_neg (by decide)] at hq
  obtain⟨i,hi,rfl⟩:=List.mem_map.1 hq;have hi:=List.mem_range.1 (List.mem_filter.1 hi).1;have hw:=Gz i hi;have hc:=vw (l:=l) i;have m1:=cN (B:=2) (C:=5) (u:=(wy i).1) (v:=cm l i) (by decide) (by omega) (by omega) (by omega) (by omega)
  have m2:=cN (B:=2) (C:=5) (u:=(wy i).2) (v:=cm l i) (by decide) (by omega) (by omega) (by omega) (by omega)
  unfold wN
  dsimp only
  omega
theorem ud (row:Bool):(fW l row).length≤14:=by
 unfold fW;cases row with
 | true =>
  have hc:=vR (l:=l);have:=uR (hh l) (lB l) 0;rw[if_pos rfl]; unfold vp; simp only[List.length_cons]; omega
 | false =>
  rw[if_neg (by decide),List.length_map]
  have:=List.length_filter_le (kp l) (List.range 12);rw[List.length_range] at this;omega
theorem xH (row:Bool):VR (fW l row)∧0<nY (fW l row):=by
 unfold fW;cases row with
 | true =>
  have hc:=vR (l:=l);rw[if_pos rfl];exact⟨E1 (fun i=>vf (l:=l) i) (by omega),Ck (fun i=>vf (l:=l) i) (by omega)⟩
 | false =>
  rw[if_neg (by decide)]
  have:=CG (p:=kp l) (by unfold kp; simp) (by unfold kp; simp) (by unfold kp; simp) (by unfold kp; simp) (m:=fun i=>cm l i) fun i=>by have:=vw (l:=l) i; omega
  exact⟨this.vr,this.nY⟩
end
def oi (l:List Nat) (x5 x6:Int) (x7:Nat) (row turned:Bool):List I2:=if turned then rv (vX (1+x7) (x5,x6) (fW l row)) else vX (1+x7) (x5,x6) (fW l row)
structure Dr (l:List Nat) (x5 x6:Int) (x7:Nat):Prop where
 b:∀x ∈ l,x<256
 x : -32768≤x5∧x5≤32767
 y : -32768≤x6∧x6≤32767
 s:x7<256
theorem DF {x:Nat} (hx:x<256) {v:I2} (hv : -32768≤v.1∧v.1≤32767∧-32768≤v.2∧v.2≤32767) {q:I2} (hq : -10≤q.1∧q.1≤10∧-10≤q.2∧q.2≤10) :
  (-2560≤q.1*(1+(x:Int))∧q.1*(1+(x:Int))≤2560∧-2560≤q.2*(1+(x:Int))∧q.2*(1+(x:Int))≤2560)∧Nr (lP v (mT (1+(x:Int)) q))∧-40000≤(lP v (mT (1+(x:Int)) q)).1∧(lP v (mT (1+(x:Int)) q)).1≤40000∧-40000≤(lP v (mT (1+(x:Int)) q)).2∧(lP v (mT (1+(x:Int)) q)).2≤40000:=by
 have m1:=cN (B:=10) (C:=256) (u:=q.1) (v:=1+(x:Int)) (by decide) (by omega) (by omega) (by omega) (by omega)
 have m2:=cN (B:=10) (C:=256) (u:=q.2) (v:=1+(x:Int)) (by decide) (by omega) (by omega) (by omega) (by omega)
 unfold Nr lP mT
 dsimp only
 omega
theorem uL (n:Nat) {x5 x6:Int} {x7:Nat} (h7:x7<256) (h5 : -32768≤x5∧x5≤32767) (h6 : -32768≤x6∧x6≤32767) (l12:List I2) (hl:l12.length<1000) :
  ∀(rest done:List I2) (m:Nat),done.length+rest.length=l12.length→rest.length<m→(∀q ∈ rest,-10≤q.1∧q.1≤10∧-10≤q.2∧q.2≤10) →
   dn (qz n l12 x5 x6) m (done++rest,1+(x7:Int),(done.length:Int))=some (done++vX (1+x7) (x5,x6) rest)
 | [],done,m+1,h,_,_=>by
  rw[dM (r:=done++[])]
  ·rfl
  ·unfold qz
   dsimp only
   rw[aU (by simp at h; omega)]
 | q::rest,done,m+1,h,hm,hq=>by
  have hq':=DF h7 (v:=(x5,x6)) ⟨h5.1,h5.2,h6.1,h6.2⟩ (hq q List.mem_cons_self);have hi:done.length<l12.length:=by simp at h; omega
  have ih:=uL n h7 h5 h6 l12 hl rest (done++[lP (x5,x6) (mT (1+x7) q)]) m (by simp at h ⊢; omega) (by simp at hm; omega) fun x hx=>hq x (List.mem_cons_of_mem _ hx)
  rw[bH (s':=((done++[lP (x5,x6) (mT (1+x7) q)])++rest,1+(x7:Int),((done++[lP (x5,x6) (mT (1+x7) q)]).length:Int))),ih]
  ·simp[vX]
  ·have hg:(done++q::rest)[done.length]? = some (q.1,q.2):=by rw[List.getElem?_append_right (Nat.le_refl _),Nat.sub_self]; rfl
   have hs:(done++q::rest).set done.length (lP (x5,x6) (mT (1+x7) q))=(done++[lP (x5,x6) (mT (1+x7) q)])++rest:=by
    rw[List.set_append_right _ _ (Nat.le_refl _),Nat.sub_self]; simp
   unfold qz
   dsimp only
   rw[aP (by omega),aZ hi,bA,Int.toNat_natCast,hg,aq]
   dsimp only
   have e5:IntKind.wrap .i64 x5=x5:=aA (by omega) (by omega)
   have e6:IntKind.wrap .i64 x6=x6:=aA (by omega) (by omega)
   rw[aq,bA,aq,bA,e5,e6,aA (x:=q.1*(1+(x7:Int))) (by omega) (by omega),aA (x:=q.2*(1+(x7:Int))) (by omega) (by omega),aA (x:=q.1*(1+(x7:Int))+x5) (by omega) (by omega),aA (x:=q.2*(1+(x7:Int))+x6) (by omega) (by omega),aX (by omega)]
   rw[show(q.1*(1+(x7:Int))+x5,q.2*(1+(x7:Int))+x6)=lP (x5,x6) (mT (1+x7) q) from rfl,hs]
   simp
theorem tt (n:Nat) (a:I2) (t:List I2) (ht:t.length<1000):∀(j m:Nat) (out:List I2),j≤t.length→j<m→out.length+j<3000→∃N,dn (tD n (a::t)) m (out,out.length,(j:Int))=some (out++(t.take j).reverse,N)
 | 0,m+1,out,_,_,_=>by
  refine⟨out.length,dM ?_⟩;unfold tD
  try dsimp only
  rw[aU (by omega)]
  simp
 | j+1,m+1,out,hj,hm,ho=>by
  have hx:(a::t)[j+1]? = some (t[j]'(by omega)):=by rw[List.getElem?_cons_succ,List.getElem?_eq_getElem (by omega)]
  obtain⟨N,ih⟩:=tt n a t ht j m (out++[t[j]'(by omega)]) (by omega) (by omega) (by simp; omega)
  refine⟨N,?_⟩;rw[bH (s':=(out++[t[j]'(by omega)],(out++[t[j]'(by omega)]).length,(j:Int))),ih]
  ·have e:t.take (j+1)=t.take j++[t[j]'(by omega)]:=List.take_succ_eq_append_getElem (show j<t.length by omega)
   rw[e,List.reverse_append];simp
  ·unfold tD
   try dsimp only
   rw[aP (by omega),aZ (show j+1<(a::t).length by simp; omega),bA,Int.toNat_natCast,hx,aq]
   try dsimp only
   rw[show lim (out++[((t[j]'(by omega)).1,(t[j]'(by omega)).2)]).length=true from Nat.ble_eq_true_of_le (by simp; omega),bA,aA (by omega) (by omega)]
   congr 4
   omega
theorem Bq (n:Nat) {l:List I2} (h:Ok l) (hn:41<n):DY n l=some (rv l,0):=by
 have hL:=h.len;have hc:=fw.2 h;unfold DY;rw[oV n (by omega) hn,if_pos hc,aq]
 match l,h with
 | [],h=>have:=h.vr.n3; simp at this
 | a::t,h =>
  obtain⟨N,hlp⟩:=tt n a t (by simp at hL; omega) t.length n [a] (Nat.le_refl _) (by simp at hL; omega) (by simp at hL ⊢; omega)
  rw[List.take_length] at hlp;have e:IntKind.wrap .i64 (((a::t).length:Int)-1)=(t.length:Int):=by
   simp only[List.length_cons]; simp at hL; rw[aA (by omega) (by omega)]; omega
  rw[show(!decide ((0:Int)=0))=false from rfl,dV,show dq 0 (a::t).length=true from decide_eq_true ⟨Int.le_refl 0,by simp⟩,bA,e]
  show ob (some (a.1,a.2)) _=_
  rw[aq]
  dsimp only
  exact(congrArg (fun o=>ob o fun x:List I2 × Nat=>match x with | (l41,_)=>some (l41,(0:Int))) hlp).trans rfl
theorem wq {l:List Nat} {x5 x6:Int} {x7:Nat} (d:Dr l x5 x6 x7) (row:Bool):Ok (vX (1+x7) (x5,x6) (fW l row))∧0<nY (vX (1+x7) (x5,x6) (fW l row)):=by
 have hs:(0:Int)<1+(x7:Int):=by omega
 have hv:=(xH (l:=l) row).1;have ha:=(xH (l:=l) row).2;have hlen:=ud (l:=l) row;have hne:fW l row≠[]:=fun e=>by rw[e] at hv; exact absurd hv.n3 (by simp)
 have h3:VR (vX (1+x7) (x5,x6) (fW l row)):=by
  rw[zK];exact(CU (x5,x6)).vr ((Dl hs).vr hv)
 refine⟨⟨by unfold vX; rw[List.length_map]; omega,fun i=>?_,h3⟩,?_⟩
 ·have hm:=BP (r:=vX (1+x7) (x5,x6) (fW l row)) (fun e=>by unfold vX at e; rw[List.map_eq_nil_iff] at e; exact hne e) i
  unfold vX at hm;obtain⟨q,hq,e⟩:=List.mem_map.1 hm;unfold vX;rw[←e];exact(DF d.s (v:=(x5,x6)) ⟨d.x.1,d.x.2,d.y.1,d.y.2⟩ (BL row q hq)).2.1
 ·rw[zK,De (by simpa using hne)]
  have:nY ((fW l row).map (mT (1+x7)))=(1+(x7:Int))*(1+(x7:Int))*nY (fW l row):=by
   unfold nY;rw[List.length_map,←ot];refine dD fun i _=>?_;rw[eQ _ hne,eQ _ hne];unfold mT
   dsimp only
   grind
  rw[this];exact Int.mul_pos (Int.mul_pos hs hs) ha
theorem Ok.rv {l:List I2} (h:Ok l):Ok (Jd.rv l):=by
 have hn:=h.vr.n3;have hne:Jd.rv l≠[]:=fun e=>by have:=congrArg List.length e; rw[kJ] at this; simp at this; rw[this] at hn; simp at hn
 refine⟨by rw[kJ]; exact h.len,fun i=>?_,h.vr.rv⟩
 have hm:=BP hne i;have:nx (Jd.rv l) i ∈ l:=by
  match l,hm with
  | a::t,hm=>unfold Jd.rv at hm ⊢; simpa using hm
 obtain⟨j,hj,e⟩:=List.mem_iff_getElem.1 this;have e2:nx l j=nx (Jd.rv l) i:=by
  unfold nx at e ⊢;rw[Nat.mod_eq_of_lt hj,List.getD_eq_getElem?_getD,List.getElem?_eq_getElem hj]; exact e
 rw[←e2];exact h.nr j
theorem BC {l:List Nat} {x5 x6:Int} {x7:Nat} (d:Dr l x5 x6 x7) (row turned:Bool):Ok (oi l x5 x6 x7 row turned):=by
 unfold oi
 split
 ·exact(wq d row).1.rv
 ·exact(wq d row).1
theorem FK (n:Nat) {l:List Nat} {x5 x6:Int} {x7:Nat} (d:Dr l x5 x6 x7) (row turned:Bool) (hn:41<n):GD n l x5 x6 x7 row turned=some (oi l x5 x6 x7 row turned):=by
 have hlen:=ud (l:=l) row;have hs:=d.s;unfold GD oi;rw[FX n d.b x5 x6 x7 row turned (by omega),aq]
 have e1:IntKind.wrap .i64 (1+IntKind.wrap .i64 ((x7:Nat):Int))=1+(x7:Int):=by
  rw[aA (x:=((x7:Nat):Int)) (by omega) (by omega),aA (by omega) (by omega)]
 have L:=uL n d.s d.x d.y (fW l row) (by omega) (fW l row) [] n (by simp) (by omega) (BL row)
 rw[List.nil_append,List.nil_append] at L;rw[e1];have L':dn (qz n (fW l row) x5 x6) n (fW l row,1+(x7:Int),0)=some (vX (1+x7) (x5,x6) (fW l row)):=L;rw[L',aq];cases turned with
 | true =>
  rw[kA,Bq n (wq d row).1 hn,aq,aq,if_pos rfl]
 | false =>
  rw[dV,aq,if_neg (by decide)]
def iw (l:List I2):Prop:=∀q ∈ l,fQ q.1∧fQ q.2
theorem fL (x:Int):fQ (IntKind.wrap .i64 x):=by
 unfold fQ IntKind.wrap IntKind.bits IntKind.signed;simp only;rw[show((2:Int) ^ 64)=18446744073709551616 by rfl,show((2:Int) ^ (64-1))=9223372036854775808 by rfl]
 split
 ·rename_i h; simp at h; omega
 ·rename_i h; simp at h; omega
theorem tP (n x3:Nat):∀(k m:Nat) (l:List I2),42≤l.length+k→l.length≤50→k<m→iw l→∃r,dn (uP n x3) m l=some r∧r.length≤50∧iw r
 | k,m+1,l,hk,hl,hm,h64=>by
  have e1:IntKind.wrap .i64 ((x3%3:Nat):Int)=((x3%3:Nat):Int):=aA (by omega) (by omega)
  have e2:IntKind.wrap .i64 (39+((x3%3:Nat):Int))=39+((x3%3:Nat):Int):=aA (by omega) (by omega)
  by_cases h:(l.length:Int)<39+((x3%3:Nat):Int)
  ·match k with
   | 0=>omega
   | k+1 =>
    obtain⟨r,h1,h2,h3⟩:=tP n x3 k m (l++[(IntKind.wrap .i64 (3*(l.length:Int)),IntKind.wrap .i64 ((l.length:Int)*(l.length:Int)))]) (by simp; omega) (by simp; omega) (by omega) (fun q hq=>by
     rcases List.mem_append.1 hq with hq|hq
     ·exact h64 q hq
     ·rw[List.mem_singleton] at hq; subst hq; exact⟨fL _,fL _⟩)
    refine⟨r,?_,h2,h3⟩;rw[bH (s':=l++[(IntKind.wrap .i64 (3*(l.length:Int)),IntKind.wrap .i64 ((l.length:Int)*(l.length:Int)))]),h1];unfold uP
    try dsimp only
    rw[e1,e2,aP h,show lim (l++[(IntKind.wrap .i64 (3*(l.length:Int)),IntKind.wrap .i64 ((l.length:Int)*(l.length:Int)))]).length=true from Nat.ble_eq_true_of_le (by simp; omega),bA]
  ·refine⟨l,dM ?_,hl,h64⟩;unfold uP
   try dsimp only
   rw[e1,e2,aU h]
theorem kq {l:List I2} (h:iw l) {i:Nat} (hi:i<l.length):∃q:I2,l[i]? = some (q.1,q.2)∧fQ q.1∧fQ q.2 :=
 ⟨l[i],List.getElem?_eq_getElem hi,h _ (List.getElem_mem hi)⟩
theorem kH {l:List I2} (h:iw l) (i:Nat) {q:I2} (hq:fQ q.1∧fQ q.2):iw (l.set i q):=fun x hx=>by
 rcases List.mem_or_eq_of_mem_set hx with hx|rfl
 ·exact h x hx
 ·exact hq
theorem AN (n:Nat) {x1 x2 x3:Nat} (h6:x2<256) (h7:x3<256) {x4 x5:Int} (h2:fQ x4) (h3:fQ x5) {l:List I2} (h4:iw l) (hn:60<n):∃r,Ga n x1 x2 x3 x4 x5 l=some r∧r.length≤51∧iw r:=by
 have hT:(([]:List (Int × Int))++((l.drop (0:Int).toNat).take ((mi (l.length:Int) (50:Int):Int).toNat-(0:Int).toNat)))=l.take 50:=by
  show l.take ((mi (l.length:Int) (50:Int)).toNat-0)=_
  rw[iO,Nat.sub_zero];rcases Nat.le_total l.length 50 with g|g
  ·rw[List.take_of_length_le (by omega),List.take_of_length_le g]
  ·rw[show(min (l.length:Int) 50).toNat=50 by omega]
 unfold Ga;rw[hT];have hlen:(l.take 50).length≤50:=by rw[List.length_take]; omega
 have h0:iw (l.take 50):=fun q hq=>h4 q (List.mem_of_mem_take hq);rw[show okB 0 (mi (l.length:Int) (50:Int)) l.length=true from decide_eq_true (by rw[iO]; omega),bA]
 generalize l.take 50=T at *;rw[show lim T.length=true from Nat.ble_eq_true_of_le (by omega),bA]
 by_cases h1:(T.length:Int)=0
 ·rw[aP h1]; exact⟨T,rfl,by omega,h0⟩
 have hp:0<T.length:=by omega
 have w2:IntKind.wrap .i64 ((x2:Nat):Int)=((x2:Nat):Int):=aA (by omega) (by omega)
 have w3:IntKind.wrap .i64 ((x3:Nat):Int)=((x3:Nat):Int):=aA (by omega) (by omega)
 have i2:x2%T.length<T.length:=Nat.mod_lt _ hp;have i3:x3%T.length<T.length:=Nat.mod_lt _ hp;rw[aU h1,tX h1,aq,tX h1,aq,w2,w3,iC,iC];generalize x2%T.length=i at *;generalize x3%T.length=k at *;simp only[aZ i2,aZ i3,bA,Int.toNat_natCast];obtain⟨qi,gi,bi⟩:=kq h0 i2;obtain⟨qk,gk,bk⟩:=kq h0 i3;simp only[gi,gk,aq]
 by_cases c0:x1%9=0
 ·rw[aP c0,aq]; exact⟨_,rfl,by rw[List.length_set]; omega,kH h0 _ ⟨h2,h3⟩⟩
 rw[aU c0]
 by_cases c1:x1%9=1
 ·rw[aP c1,aq]; exact⟨_,rfl,by rw[List.length_set]; omega,kH h0 _ bk⟩
 rw[aU c1]
 by_cases c2:x1%9=2
 ·have i3':k<(T.set i (qk.1,qk.2)).length:=by rw[List.length_set]; exact i3
  obtain⟨q,g,_⟩:=kq (kH h0 i bk) i3';rw[aP c2,g,aq];exact⟨_,rfl,by rw[List.length_set,List.length_set]; omega,kH (kH h0 _ bk) _ bi⟩
 rw[aU c2]
 by_cases c3:x1%9=3
 ·rw[aP c3,show okB 0 (i:Int) T.length=true from decide_eq_true (by omega),bA,aq]
  exact⟨_,rfl,by simp; omega,fun q hq=>h0 q (List.mem_of_mem_drop (List.mem_of_mem_take hq))⟩
 rw[aU c3]
 by_cases c4:x1%9=4
 ·rw[aP c4,show lim (T++[(x4,x5)]).length=true from Nat.ble_eq_true_of_le (by simp; omega),bA,aq]
  refine⟨_,rfl,by simp; omega,fun q hq=>?_⟩
  rcases List.mem_append.1 hq with hq|hq
  ·exact h0 q hq
  ·rw[List.mem_singleton] at hq; subst hq; exact⟨h2,h3⟩
 rw[aU c4]
 by_cases c5:x1%9=5
 ·have hm:(i+1)%T.length<T.length:=Nat.mod_lt _ hp;obtain⟨qm,gm,_⟩:=kq h0 hm;rw[aP c5,aX (by omega),tX h1,iC,aZ hm,bA,Int.toNat_natCast,gm,aq]
  dsimp only
  have e:(([]:List I2)++((T.drop (0:Int).toNat).take (((i+1:Nat):Int).toNat-(0:Int).toNat)))=T.take (i+1):=by simp
  have e':(T.drop ((i+1:Nat):Int).toNat).take (T.length-((i+1:Nat):Int).toNat)=T.drop (i+1):=by simp[List.take_of_length_le]
  rw[e,e'];have h5:(T.take (i+1)).length=i+1:=by rw[List.length_take]; omega
  rw[show okB 0 ((i+1:Nat):Int) T.length=true from decide_eq_true (by omega),bA,show okB ((i+1:Nat):Int) (T.length:Int) T.length=true from decide_eq_true (by omega)]
  have b:=fun(x y:Int)=>(⟨fL x,fL y⟩:fQ (IntKind.wrap .i64 x)∧fQ (IntKind.wrap .i64 y));generalize hP:(IntKind.wrap .i64 (IntKind.wrap .i64 (qi.1.tdiv 2)+IntKind.wrap .i64 (qm.1.tdiv 2)),IntKind.wrap .i64 (IntKind.wrap .i64 (qi.2.tdiv 2)+IntKind.wrap .i64 (qm.2.tdiv 2)))=P;have hPb:fQ P.1∧fQ P.2:=by rw[←hP]; exact b _ _
  have l1:(T.take (i+1)++[P]).length=i+2:=by rw[List.length_append,h5]; rfl
  have l2:(T.take (i+1)++[P]++T.drop (i+1)).length=T.length+1:=by rw[List.length_append,l1,List.length_drop]; omega
  rw[show lim (T.take (i+1)).length=true from Nat.ble_eq_true_of_le (by omega),show lim (T.take (i+1)++[P]).length=true from Nat.ble_eq_true_of_le (by omega),show lim (T.take (i+1)++[P]++T.drop (i+1)).length=true from Nat.ble_eq_true_of_le (by omega)]
  simp only[bA];rw[aq];refine⟨_,rfl,by rw[l2]; omega,fun q hq=>?_⟩
  rcases List.mem_append.1 hq with hq|hq
  ·rcases List.mem_append.1 hq with hq|hq
   ·exact h0 q (List.mem_of_mem_take hq)
   ·rw[List.mem_singleton] at hq; subst hq; exact hPb
  ·exact h0 q (List.mem_of_mem_drop hq)
 rw[aU c5]
 by_cases c6:x1%9=6
 ·obtain⟨r,g0,g2,g1⟩:=tP n x3 50 n T (by omega) (by omega) (by omega) h0
  rw[aP c6,g0,aq,aq];exact⟨r,rfl,by omega,g1⟩
 rw[aU c6]
 by_cases c7:x1%9=7
 ·have b2:=kH h0 i (q:=(qi.2,qi.2)) ⟨bi.2,bi.2⟩;obtain⟨q,g,bq⟩:=kq b2 (i:=i) (by rw[List.length_set]; exact i2)
  rw[aP c7,g,aq];exact⟨_,rfl,by rw[List.length_set,List.length_set]; omega,kH b2 _ ⟨bq.1,bi.1⟩⟩
 rw[aU c7,aq];exact⟨T,rfl,by omega,h0⟩
theorem FH (n:Nat) {l:List I2} (h64:iw l):∃r,Gl n l=some r∧r.length≤51∧iw r:=by
 unfold Gl;rw[show okB 0 (mi (l.length:Int) (50:Int)) l.length=true from decide_eq_true (by rw[iO]; omega),bA]
 refine⟨_,rfl,?_,fun q hq=>h64 q (List.mem_of_mem_drop (List.mem_of_mem_take hq))⟩;rw[List.length_take,iO]; omega
theorem H9 {p:I2} (h:Nr p):fQ p.1∧fQ p.2:=by unfold Nr at h; unfold fQ; omega
theorem Ok.pt {l:List I2} (h:Ok l):iw l:=fun q hq=>by
 obtain⟨j,hj,e⟩:=List.mem_iff_getElem.1 hq;have e2:nx l j=q:=by
  unfold nx;rw[Nat.mod_eq_of_lt hj,List.getD_eq_getElem?_getD,List.getElem?_eq_getElem hj]; exact e
 rw[←e2];exact H9 (h.nr j)
structure Bd (x2 x3:Nat) (x4 x5:Int):Prop where
 at_:x2<256
 to:x3<256
 x:fQ x4
 y:fQ x5
theorem FT (n:Nat) {raw:List I2} (hr:iw raw) {l:List Nat} {x5 x6:Int} {x7:Nat} (d:Dr l x5 x6 x7) (row turned:Bool) {w1 a1 t1 w2 a2 t2:Nat} {p1 q1 p2 q2:Int} (b1:Bd a1 t1 p1 q1) (b2:Bd a2 t2 p2 q2) (hn:60<n) :
  ∃r s t,Gf n raw l x5 x6 x7 row turned w1 a1 t1 p1 q1 w2 a2 t2 p2 q2=some (oi l x5 x6 x7 row turned,r,s,t)∧∀k ∈ [oi l x5 x6 x7 row turned,r,s,t],k.length≤51∧iw k:=by
 have h0:=BC d row turned;obtain⟨r,g1,g2,g3⟩:=AN n (x1:=w1) b1.at_ b1.to b1.x b1.y h0.pt hn;obtain⟨s,k1,k2,k3⟩:=AN n (x1:=w2) b2.at_ b2.to b2.x b2.y g3 hn;obtain⟨t,j1,j2,j3⟩:=FH n hr;refine⟨r,s,t,?_,fun k hk=>?_⟩
 ·unfold Gf;rw[FK n d row turned (by omega),aq,g1,aq,k1,aq,j1,aq]
 ·have:=h0.len;simp only[List.mem_cons,List.not_mem_nil,or_false] at hk;rcases hk with rfl|rfl|rfl|rfl
  ·exact⟨by omega,h0.pt⟩
  ·exact⟨g2,g3⟩
  ·exact⟨k2,k3⟩
  ·exact⟨j2,j3⟩
theorem IG {B:Int→Option (Int ⊕ (Unit ⊕ Unit))} (hB:∀i:Nat,i<4→B (i:Int)=some (.inl ((i+1:Nat):Int))) (hE:B 4=some (.inr (.inr ()))) {n:Nat} (hn:4<n):dn B n 0=some (.inr ()):=by
 obtain⟨n,rfl⟩:∃m,n=m+5:=⟨n-5,by omega⟩
 rw[show(0:Int)=((0:Nat):Int) from rfl,bH (hB 0 (by decide)),bH (hB 1 (by decide)),bH (hB 2 (by decide)),bH (hB 3 (by decide)),show((3+1:Nat):Int)=4 from rfl,dM hE]
theorem km {σ τ ρ:Type} {B:τ→Option (τ ⊕ ρ)} {len:Nat} (st:Nat→σ→τ) (inv:Nat→σ→Prop) (Post:ρ→Prop)
  (hB:∀i s,i<len→inv i s→(∃s',B (st i s)=some (.inl (st (i+1) s'))∧inv (i+1) s')∨∃r,B (st i s)=some (.inr r)∧Post r)
  (hE:∀s,inv len s→∃r,B (st len s)=some (.inr r)∧Post r):∀(k i:Nat) (s:σ) (n:Nat),i+k=len→k<n→inv i s→∃r,dn B n (st i s)=some r∧Post r
 | 0,i,s,n+1,h,_,hi=>by
  rw[Nat.add_zero] at h; subst h;obtain⟨r,h1,h2⟩:=hE s hi;exact⟨r,dM h1,h2⟩
 | k+1,i,s,n+1,h,hn,hi=>by
  rcases hB i s (by omega) hi with⟨s',h1,h2⟩|⟨r,h1,h2⟩
  ·rw[bH h1]; exact km st inv Post hB hE k (i+1) s' n (by omega) (by omega) h2
  ·exact⟨r,dM h1,h2⟩
theorem o5 {f:Nat→Int} (h:∀i,-8000000000000≤f i∧f i≤8000000000000):∀n:Nat,-(8000000000000*(n:Int))≤bX n f∧bX n f≤8000000000000*(n:Int)
 | 0=>by simp[bX]
 | n+1=>by
  have h1:=o5 h n;have h2:=h n;simp only[bX];omega
section
variable {l : List I2} (n : Nat)
def HJ (l:List I2) (o:I2) (i:Nat):Int:=((nx l i).1-o.1)*((nx l (i+1)).2-o.2)-((nx l i).2-o.2)*((nx l (i+1)).1-o.1)
theorem D1 {a b o:I2} (ha:Nr a) (hb:Nr b) (ho:Nr o) : -8000000000000≤(a.1-o.1)*(b.2-o.2)-(a.2-o.2)*(b.1-o.1)∧(a.1-o.1)*(b.2-o.2)-(a.2-o.2)*(b.1-o.1)≤8000000000000:=by
 unfold Nr at ha hb ho;have m1:=cN (B:=2000000) (C:=2000000) (u:=a.1-o.1) (v:=b.2-o.2) (by decide) (by omega) (by omega) (by omega) (by omega)
 have m2:=cN (B:=2000000) (C:=2000000) (u:=a.2-o.2) (v:=b.1-o.1) (by decide) (by omega) (by omega) (by omega) (by omega)
 omega
theorem Gk {a b o:I2} (ha:Nr a) (hb:Nr b) (ho:Nr o) {s:Int} (hs : -8000000000000000≤s∧s≤8000000000000000) :
  IntKind.wrap .i64 (IntKind.wrap .i64 (s+IntKind.wrap .i64 ((IntKind.wrap .i64 (a.1-o.1))*(IntKind.wrap .i64 (b.2-o.2))))-IntKind.wrap .i64 ((IntKind.wrap .i64 (a.2-o.2))*(IntKind.wrap .i64 (b.1-o.1))))=s+((a.1-o.1)*(b.2-o.2)-(a.2-o.2)*(b.1-o.1)):=by
 unfold Nr at ha hb ho;have m1:=cN (B:=2000000) (C:=2000000) (u:=a.1-o.1) (v:=b.2-o.2) (by decide) (by omega) (by omega) (by omega) (by omega)
 have m2:=cN (B:=2000000) (C:=2000000) (u:=a.2-o.2) (v:=b.1-o.1) (by decide) (by omega) (by omega) (by omega) (by omega)
 rw[aA (x:=a.1-o.1) (by omega) (by omega),aA (x:=b.2-o.2) (by omega) (by omega),aA (x:=a.2-o.2) (by omega) (by omega),aA (x:=b.1-o.1) (by omega) (by omega)]
 generalize (a.1-o.1)*(b.2-o.2)=u at *;generalize (a.2-o.2)*(b.1-o.1)=v at *;rw[aA (x:=u) (by omega) (by omega),aA (x:=v) (by omega) (by omega),aA (x:=s+u) (by omega) (by omega),aA (by omega) (by omega)]
 omega
theorem Fb {a b:I2} (ha:Nr a) (hb:Nr b) {s:Int} (hs : -8000000000000000≤s∧s≤8000000000000000) :
  IntKind.wrap .i64 (IntKind.wrap .i64 (s+IntKind.wrap .i64 (a.1*b.2))-IntKind.wrap .i64 (a.2*b.1))=s+(a.1*b.2-a.2*b.1):=by
 unfold Nr at ha hb;have m1:=cN (B:=1000000) (C:=1000000) (u:=a.1) (v:=b.2) (by decide) (by omega) (by omega) (by omega) (by omega)
 have m2:=cN (B:=1000000) (C:=1000000) (u:=a.2) (v:=b.1) (by decide) (by omega) (by omega) (by omega) (by omega)
 generalize a.1*b.2=u at *;generalize a.2*b.1=v at *;rw[aA (x:=u) (by omega) (by omega),aA (x:=v) (by omega) (by omega),aA (x:=s+u) (by omega) (by omega),aA (by omega) (by omega)]
 omega
theorem xG (h:0<l.length):dq 0 l.length=true:=decide_eq_true ⟨Int.le_refl 0,h⟩
theorem Cl (h:0<l.length):l[(0:Int).toNat]? = some ((nx l 0).1,(nx l 0).2):=du (i:=0) h
open Classical in
theorem FC (h64:iw l) (hn:l.length<n) (h5:41<n):Ht n l=some (if gO l then(nY l,0) else(0,140)):=by
 unfold Ht;rw[re n h64 hn h5,aq]
 by_cases h:gO l
 ·have hok:=fw.1 h;have hL:=hok.len;have h3:=hok.vr.n3;have hnr:=hok.nr;have hb:∀i,-8000000000000≤HJ l (nx l 0) i∧HJ l (nx l 0) i≤8000000000000:=fun i=>D1 (hnr i) (hnr (i+1)) (hnr 0);have L:∃r,dn (qt n l) n (((0:Nat):Int),(0:Int))=some r∧r=nY l:=by
   refine km (len:=l.length) (fun i (s:Int)=>((i:Int),s)) (fun i s=>s=bX i (HJ l (nx l 0))) _ (fun i s hi hs=>?_) (fun s hs=>?_) l.length 0 0 n (by omega) hn rfl
   ·have hbi:=o5 hb i;refine .inl ⟨s+HJ l (nx l 0) i,?_,by rw[hs]; rfl⟩
    unfold qt
    try dsimp only
    rw[aP (by omega),aZ hi,bA,du hi,aq]
    try dsimp only
    rw[aX (by omega),gD i hi (by omega)]
    try dsimp only
    rw[xG (by omega),bA,Cl (by omega),aq]
    try dsimp only
    rw[bA,aq,bA,bA,aq,aq,Gk (hnr i) (hnr (i+1)) (hnr 0) (by rw[hs]; omega)]
    rfl
   ·refine⟨s,?_,by rw[hs]; exact uw l (nx l 0)⟩
    unfold qt
    try dsimp only
    rw[aU (by omega)]
  obtain⟨r,h1,h2⟩:=L;have h1':dn (qt n l) n (0,0)=some r:=h1;rw[if_pos h,if_pos h,show(!decide ((0:Int)=0))=false from rfl,dV,aq,h1',aq,aq,h2]
 ·rw[if_neg h,if_neg h]; rfl
open Classical in
theorem Ee (hn:l.length<n) (h5:41<n):Gg n l=some (if gO l then(nY l,0) else(0,140)):=by
 unfold Gg;rw[oV n hn h5,aq]
 by_cases h:gO l
 ·have hok:=fw.1 h;have hL:=hok.len;have h3:=hok.vr.n3;have hnr:=hok.nr;have hne:l≠[]:=fun e=>by rw[e] at h3; simp at h3
  have hb:∀i,-8000000000000≤(nx l i).1*(nx l (i+1)).2-(nx l i).2*(nx l (i+1)).1∧(nx l i).1*(nx l (i+1)).2-(nx l i).2*(nx l (i+1)).1≤8000000000000:=fun i=>by
   have:=D1 (hnr i) (hnr (i+1)) (show Nr (0,0) by unfold Nr; omega)
   simpa using this
  have L:∃r,dn (qg n l) n ((0:Int),((0:Nat):Int))=some r∧r=nY l:=by
   refine km (len:=l.length) (fun i (s:Int)=>(s,(i:Int))) (fun i s=>s=bX i fun i=>(nx l i).1*(nx l (i+1)).2-(nx l i).2*(nx l (i+1)).1) _ (fun i s hi hs=>?_) (fun s hs=>?_) l.length 0 0 n (by omega) hn rfl
   ·have hbi:=o5 hb i;refine .inl ⟨s+((nx l i).1*(nx l (i+1)).2-(nx l i).2*(nx l (i+1)).1),?_,by rw[hs]; rfl⟩
    unfold qg
    try dsimp only
    rw[aP (by omega),aZ hi,bA,du hi,aq]
    try dsimp only
    rw[aX (by omega),jx n (i+1) hne,aq]
    try dsimp only
    rw[aq,Fb (hnr i) (hnr (i+1)) (by rw[hs]; omega)]
   ·refine⟨s,?_,hs⟩;unfold qg
    try dsimp only
    rw[aU (by omega)]
  obtain⟨r,h1,h2⟩:=L;have h1':dn (qg n l) n (0,0)=some r:=h1;unfold HO;rw[if_pos h,if_pos h,show(!decide ((0:Int)=0))=false from rfl,dV,h1',aq,aq,h2]
 ·rw[if_neg h,if_neg h]; rfl
def nF (p:Nat→Bool):Nat→Bool
 | 0=>false
 | i+1=>nF p i || p i
def lf (l:List I2) (i:Nat):Bool:=decide (0<ti (nx l i) (nx l (i+1)) (nx l (i+2)))
def rt (l:List I2) (i:Nat):Bool:=decide (ti (nx l i) (nx l (i+1)) (nx l (i+2))<0)
def zt (l:List I2) (i:Nat):Bool:=decide (ti (nx l i) (nx l (i+1)) (nx l (i+2))=0)
def Ge (l:List I2):Bool:=!(nF (lf l) l.length == nF (rt l) l.length)
theorem tw {i:Nat} (h:i<1000000):IntKind.wrap .i64 ((i:Int)+2)=((i+2:Nat):Int):=by rw[aA (by omega) (by omega)]; rfl
theorem zn (i:Nat) (hl:0<l.length) {β:Type} (K:Int × Int→Option β) :
  gd (decide ((l.length:Int)≠0)) (gd (dq (Int.tmod ((i+2:Nat):Int) (l.length:Int)) l.length) (ob (l[(Int.tmod ((i+2:Nat):Int) (l.length:Int)).toNat]?) K))=K ((nx l (i+2)).1,(nx l (i+2)).2):=by
 have hm:(i+2)%l.length<l.length:=Nat.mod_lt _ (by omega)
 rw[decide_eq_true (show((l.length:Nat):Int)≠0 by omega),bA,iC,aZ hm,bA,du hm,aq,oY]
open Classical in
theorem Fp (h64:iw l) (hn:l.length<n) (h5:41<n):GK n l=some (if gO l then(Ge l,0) else(false,140)):=by
 unfold GK;rw[re n h64 hn h5,aq]
 by_cases h:gO l
 ·have hok:=fw.1 h;have hL:=hok.len;have h3:=hok.vr.n3;have hnr:=hok.nr;have L:∃r,dn (qC n l) n (((0:Nat):Int),[false,false,false])=some r∧r = [nF (rt l) l.length,nF (zt l) l.length,nF (lf l) l.length]:=by
   refine km (len:=l.length) (fun i (s:List Bool)=>((i:Int),s)) (fun i s=>s = [nF (rt l) i,nF (zt l) i,nF (lf l) i]) _ (fun i s hi hs=>?_) (fun s hs=>?_) l.length 0 [false,false,false] n (by omega) hn rfl
   ·refine .inl ⟨[nF (rt l) (i+1),nF (zt l) (i+1),nF (lf l) (i+1)],?_,rfl⟩;unfold qC
    try dsimp only
    rw[aP (by omega),aZ hi,bA,du hi,aq]
    try dsimp only
    rw[aX (by omega),gD i hi (by omega)]
    try dsimp only
    rw[tw (by omega),zn i (by omega)]
    try dsimp only
    rw[jw n (hnr i) (hnr (i+1)) (hnr (i+2)),aq,hs];simp only[nF,rt,lf,zt];generalize ti (nx l i) (nx l (i+1)) (nx l (i+2))=z;rcases Int.lt_trichotomy z 0 with g|g|g
    ·rw[show sg z = -1 by unfold sg; rw[if_pos g],decide_eq_true g,decide_eq_false (show ¬z=0 by omega),decide_eq_false (show ¬0<z by omega),Bool.or_true,Bool.or_false,Bool.or_false]
     rfl
    ·rw[show sg z=0 by rw[g]; rfl,decide_eq_false (show ¬z<0 by omega),decide_eq_true g,decide_eq_false (show ¬0<z by omega),Bool.or_true,Bool.or_false,Bool.or_false]
     rfl
    ·rw[show sg z=1 by unfold sg; rw[if_neg (by omega),if_pos g],decide_eq_false (show ¬z<0 by omega),decide_eq_false (show ¬z=0 by omega),decide_eq_true g,Bool.or_true,Bool.or_false,Bool.or_false]
     rfl
   ·refine⟨s,?_,hs⟩;unfold qC
    try dsimp only
    rw[aU (by omega)]
  obtain⟨r,h1,h2⟩:=L;have h1':dn (qC n l) n (0,[false,false,false])=some r:=h1;rw[if_pos h,if_pos h,show(!decide ((0:Int)=0))=false from rfl,dV,aq,h1',aq,aq,h2]
  show some (!(nF (rt l) l.length == nF (lf l) l.length),(0:Int))=_
  unfold Ge;cases nF (rt l) l.length<;>cases nF (lf l) l.length<;>rfl
 ·rw[if_neg h,if_neg h]; rfl
open Classical in
theorem ES (hn:l.length<n) (h5:41<n):Hq n l=some (if gO l then(Ge l,0) else(false,140)):=by
 unfold Hq;rw[oV n hn h5,aq]
 by_cases h:gO l
 ·have hok:=fw.1 h;have hL:=hok.len;have h3:=hok.vr.n3;have hnr:=hok.nr;have hne:l≠[]:=fun e=>by rw[e] at h3; simp at h3
  have L:∃r,dn (qD n l) n (false,false,((0:Nat):Int))=some r∧r=(nF (lf l) l.length,nF (rt l) l.length):=by
   refine km (len:=l.length) (fun i (s:Bool × Bool)=>(s.1,s.2,(i:Int))) (fun i s=>s=(nF (lf l) i,nF (rt l) i)) _ (fun i s hi hs=>?_) (fun s hs=>?_) l.length 0 (false,false) n (by omega) hn rfl
   ·refine .inl ⟨(nF (lf l) (i+1),nF (rt l) (i+1)),?_,rfl⟩;unfold qD
    try dsimp only
    rw[aP (by omega),aZ hi,bA,du hi,aq]
    try dsimp only
    rw[aX (by omega),jx n (i+1) hne,aq]
    try dsimp only
    rw[tw (by omega),jx n (i+2) hne,aq]
    try dsimp only
    rw[jh n (hnr i) (hnr (i+1)) (hnr (i+2)),aq,hs,nf,aq];simp only[nF,rt,lf];cases nF (rt l) i<;>rfl
   ·refine⟨s,?_,hs⟩;unfold qD
    try dsimp only
    rw[aU (by omega)]
  obtain⟨r,h1,h2⟩:=L;have h1':dn (qD n l) n (false,false,0)=some r:=h1;rw[if_pos h,if_pos h,show(!decide ((0:Int)=0))=false from rfl,dV,h1',aq,h2]
  rfl
 ·rw[if_neg h,if_neg h]; rfl
theorem tK (a:I2) (t:List I2) (ht:t.length<1000):∀(d m i:Nat) (c:List I2) (q:Int),t.length≤2*i+d→q=(t.length:Int)-1-(i:Int)→c.length=t.length+1→c[0]? = some a →
  (∀j,j<t.length→c[1+j]? = if j<i∨t.length-1-j<i then t[t.length-1-j]? else t[j]?)→d<m→i≤t.length →
   dn (qv n (a::t)) m (c,(i:Int),q)=some (a::t.reverse)
 | d,m+1,i,c,q,hd,hq,hc,h0,hj,hm,hi=>by
  have hlen:((a::t).length-1:Nat)=t.length:=by simp
  by_cases hlt:(i:Int)<q
  ·match d with
   | 0=>omega
   | d+1 =>
    obtain⟨k,hk⟩:∃k:Nat,q=(k:Int):=⟨t.length-1-i,by omega⟩
    subst hk;have hkt:k<t.length:=by omega
    have xE:i<t.length:=by omega
    have gk:c[1+k]? = some (t[k]'hkt):=by rw[hj k hkt,if_neg (by omega),List.getElem?_eq_getElem]
    have gi:c[1+i]? = some (t[i]'xE):=by rw[hj i xE,if_neg (by omega),List.getElem?_eq_getElem]
    have gk2:(c.set (1+i) ((t[k]'hkt).1,(t[k]'hkt).2))[1+k]? = some (t[k]'hkt):=by rw[List.getElem?_set_ne (by omega),gk]
    rw[bH (s':=((c.set (1+i) (t[k]'hkt)).set (1+k) (t[i]'xE),((i+1:Nat):Int),(k:Int)-1))]
    ·refine tK a t ht (d-1) m (i+1) _ _ (by omega) (by omega) (by rw[List.length_set,List.length_set]; exact hc) (by rw[List.getElem?_set_ne (by omega),List.getElem?_set_ne (by omega)]; exact h0) (fun j hjt=>?_) (by omega) (by omega)
     by_cases e1:j=k
     ·subst e1;rw[List.getElem?_set_self (by rw[List.length_set]; omega),if_pos (by omega),show t.length-1-j=i by omega,List.getElem?_eq_getElem]
     ·rw[List.getElem?_set_ne (by omega)]
      by_cases e2:j=i
      ·subst e2;rw[List.getElem?_set_self (by omega),if_pos (by omega),show t.length-1-j=k by omega,List.getElem?_eq_getElem]
      ·rw[List.getElem?_set_ne (by omega),hj j hjt]
       by_cases e3:j<i∨t.length-1-j<i
       ·rw[if_pos e3,if_pos (by omega)]
       ·rw[if_neg e3,if_neg (by omega)]
    ·unfold qv
     try dsimp only
     rw[aP hlt,hlen,aZ hkt,bA,Int.toNat_natCast,Int.toNat_natCast,gk,aq]
     try dsimp only
     rw[aZ xE,bA,gi,aq]
     try dsimp only
     rw[bA,bA,gk2,aq]
     try dsimp only
     rw[aX (by omega),aA (by omega) (by omega)]
  ·rw[dM (r:=c)]
   ·congr 1
    refine List.ext_getElem? fun j=>?_
    match j with
    | 0=>rw[h0]; rfl
    | j+1 =>
     rw[List.getElem?_cons_succ]
     by_cases hjt:j<t.length
     ·rw[Nat.add_comm,hj j hjt,List.getElem?_reverse hjt]
      split
      ·rfl
      ·congr 1; omega
     ·rw[List.getElem?_eq_none (by omega),List.getElem?_eq_none (by rw[List.length_reverse]; omega)]
   ·unfold qv
    try dsimp only
    rw[aU hlt]
open Classical in
theorem Fx (h64:iw l) (hn:l.length<n) (h5:41<n):GZ n l=some (if gO l then(rv l,0) else([],140)):=by
 unfold GZ;rw[re n h64 hn h5,aq]
 by_cases h:gO l
 ·have hok:=fw.1 h;have hL:=hok.len;have h3:=hok.vr.n3
  match l,hok with
  | [],_=>simp at h3
  | a::t,_ =>
   simp only[List.length_cons] at hL h3 hn;have L:=tK n a t (by omega) t.length n 0 (a::t) ((t.length:Int)-1) (by omega) (by omega) rfl rfl (fun j hj=>by rw[if_neg (by omega),Nat.add_comm,List.getElem?_cons_succ]) (by omega) (Nat.zero_le _)
   have e:IntKind.wrap .i64 ((((a::t).length-1:Nat):Int)-1)=(t.length:Int)-1:=by
    simp only[List.length_cons,Nat.add_sub_cancel]; exact aA (by omega) (by omega)
   have L':dn (qv n (a::t)) n (a::t,0,(t.length:Int)-1)=some (a::t.reverse):=L;unfold HH;rw[if_pos h,if_pos h,show(!decide ((0:Int)=0))=false from rfl,dV,show lim (a::t).length=true from Nat.ble_eq_true_of_le (by simp; omega),bA,aq,tX (by simp; omega),e,L',aq,aq]
   rfl
 ·rw[if_neg h,if_neg h]; rfl
open Classical in
theorem Co (hn:l.length<n) (h5:41<n):DY n l=some (if gO l then(rv l,0) else([],140)):=by
 by_cases h:gO l
 ·rw[if_pos h]; exact Bq n (fw.1 h) h5
 ·unfold DY;rw[oV n hn h5,if_neg h,if_neg h]; rfl
open Classical in
noncomputable def side (l:List I2) (p:I2):Int:=if ∃i,i<l.length∧cP (nx l i) (nx l (i+1)) p then 1 else if nz l p=0 then 0 else 2
theorem AP (l:List I2) (p:I2):∀i:Nat,-(i:Int)≤bX i (fun i=>wi (nx l i) (nx l (i+1)) p)∧bX i (fun i=>wi (nx l i) (nx l (i+1)) p)≤(i:Int)
 | 0=>by simp[bX]
 | i+1=>by
  have h1:=AP l p i;have h2:=Av (nx l i) (nx l (i+1)) p;simp only[bX];omega
open Classical in
theorem E4 (h64:iw l) {p:I2} (hp:fQ p.1∧fQ p.2) (hn:l.length<n) (h5:41<n):G6 n l p.1 p.2=some (if gO l then(if Fa p then(0,2) else(side l p,0)) else(0,140)):=by
 unfold G6;rw[re n h64 hn h5,aq]
 by_cases h:gO l
 ·have hok:=fw.1 h;have hL:=hok.len;have h3:=hok.vr.n3;have hnr:=hok.nr;rw[if_pos h,if_pos h,show(!decide ((0:Int)=0))=false from rfl,dV,AO n hp.1 hp.2,aq]
  by_cases hf:Fa p
  ·rw[aP (show Fa (p.1,p.2) from hf),if_pos hf]
  ·have hpn:Nr p:=xP.1 hf;rw[aU (show ¬Fa (p.1,p.2) from hf),if_neg hf,aq]
   have L:∃r,dn (pD n l p.1 p.2) n (((0:Nat):Int),(0:Int))=some r∧match r with
     | .inl _=>∃i,i<l.length∧cP (nx l i) (nx l (i+1)) p
     | .inr w=>(∀i,i<l.length→¬cP (nx l i) (nx l (i+1)) p)∧w=nz l p:=by
    refine km (len:=l.length) (fun i (s:Int)=>((i:Int),s)) (fun i s=>(∀j,j<i→¬cP (nx l j) (nx l (j+1)) p)∧s=bX i fun i=>wi (nx l i) (nx l (i+1)) p) _ (fun i s hi hs=>?_) (fun s hs=>?_) l.length 0 0 n (by omega) hn ⟨fun j hj=>absurd hj (Nat.not_lt_zero _),rfl⟩
    ·have hw:=AP l p i;have hwi:=Av (nx l i) (nx l (i+1)) p;have hbase:pD n l p.1 p.2 ((i:Int),s)=if cP (nx l i) (nx l (i+1)) p then some (.inr (.inl s)) else some (.inl (((i+1:Nat):Int),s+wi (nx l i) (nx l (i+1)) p)):=by
      unfold pD
      try dsimp only
      rw[aP (by omega),aZ hi,bA,du hi,aq]
      try dsimp only
      rw[aX (by omega),gD i hi (by omega)]
      try dsimp only
      rw[vL n _ (hnr i) (hnr (i+1)) hpn (hok.vr.still i) (by omega),aq]
      by_cases hb:cP (nx l i) (nx l (i+1)) p
      ·rw[aP hb,aq,if_pos hb]
      ·rw[aU hb,if_neg hb,jw n (hnr i) (hnr (i+1)) hpn,aq,dz,dz,aq];have s1:=oS (z:=ti (nx l i) (nx l (i+1)) p);have s2:=u6 (z:=ti (nx l i) (nx l (i+1)) p);unfold wi
       by_cases c1:(nx l i).2≤p.2∧p.2<(nx l (i+1)).2∧0<ti (nx l i) (nx l (i+1)) p
       ·rw[if_pos c1,decide_eq_true c1.1,decide_eq_true c1.2.1,decide_eq_true (s1.2 c1.2.2),Bool.true_and,Bool.true_and,kA,aq,aA (by rw[hs.2]; omega) (by rw[hs.2]; omega)]
       ·have e1:(decide ((nx l i).2≤p.2) && (decide (p.2<(nx l (i+1)).2) && decide (0<sg (ti (nx l i) (nx l (i+1)) p))))=false:=by
         rw[←Bool.decide_and,←Bool.decide_and]; exact decide_eq_false fun g=>c1 ⟨g.1,g.2.1,s1.1 g.2.2⟩
        rw[if_neg c1,e1,dV,dz,dz,aq]
        by_cases c2:(nx l (i+1)).2≤p.2∧p.2<(nx l i).2∧ti (nx l i) (nx l (i+1)) p<0
        ·rw[if_pos c2,decide_eq_true c2.1,decide_eq_true c2.2.1,decide_eq_true (s2.2 c2.2.2),Bool.true_and,Bool.true_and,kA,aq,aA (by rw[hs.2]; omega) (by rw[hs.2]; omega)]
         rfl
        ·have e2:(decide (p.2<(nx l i).2) && (decide ((nx l (i+1)).2≤p.2) && decide (sg (ti (nx l i) (nx l (i+1)) p)<0)))=false:=by
          rw[←Bool.decide_and,←Bool.decide_and]; exact decide_eq_false fun g=>c2 ⟨g.2.1,g.1,s2.1 g.2.2⟩
         rw[if_neg c2,e2,dV,aq,Int.add_zero]
     by_cases hb:cP (nx l i) (nx l (i+1)) p
     ·exact .inr ⟨.inl s,by rw[hbase,if_pos hb],⟨i,hi,hb⟩⟩
     ·refine .inl ⟨s+wi (nx l i) (nx l (i+1)) p,by rw[hbase,if_neg hb],fun j hj=>?_,by rw[hs.2]; rfl⟩
      by_cases e:j=i
      ·rw[e]; exact hb
      ·exact hs.1 j (by omega)
    ·refine⟨.inr s,?_,hs.1,hs.2⟩;unfold pD
     try dsimp only
     rw[aU (by omega)]
   obtain⟨r,h1,h2⟩:=L;have h1':dn (pD n l p.1 p.2) n (0,0)=some r:=h1;rw[h1',aq];unfold side;cases r with
   | inl s =>
    dsimp only at h2
    rw[if_pos h2]
    rfl
   | inr w =>
    obtain⟨g1,g2⟩:=h2;rw[if_neg (fun⟨i,a,b⟩=>g1 i a b)]
    try dsimp only
    rw[aq]
    try dsimp only
    rw[g2]
    by_cases e:nz l p=0
    ·rw[decide_eq_true e,Bool.not_true,dV,if_pos e]
    ·rw[decide_eq_false e,Bool.not_false,kA,if_neg e]
 ·rw[if_neg h,if_neg h]; rfl
open Classical in
theorem EN {p:I2} (hn:l.length<n) (h5:41<n):Hc n l p.1 p.2=some (if gO l then(if Fa p then(0,2) else(side l p,0)) else(0,140)):=by
 unfold Hc;rw[oV n hn h5,aq]
 by_cases h:gO l
 ·have hok:=fw.1 h;have hL:=hok.len;have h3:=hok.vr.n3;have hnr:=hok.nr;have hne:l≠[]:=fun e=>by rw[e] at h3; simp at h3
  rw[if_pos h,if_pos h,show(!decide ((0:Int)=0))=false from rfl,dV,Ao,aq]
  by_cases hf:Fa p
  ·rw[aP hf,if_pos hf]
  ·have hpn:Nr p:=xP.1 hf;rw[aU hf,if_neg hf];have L:∃r,dn (oK n l p.1 p.2) n (false,((0:Nat):Int))=some r∧match r with
     | .inl _=>∃i,i<l.length∧cP (nx l i) (nx l (i+1)) p
     | .inr w=>(∀i,i<l.length→¬cP (nx l i) (nx l (i+1)) p)∧w=ze l p l.length:=by
    refine km (len:=l.length) (fun i (s:Bool)=>(s,(i:Int))) (fun i s=>(∀j,j<i→¬cP (nx l j) (nx l (j+1)) p)∧s=ze l p i) _ (fun i s hi hs=>?_) (fun s hs=>?_) l.length 0 false n (by omega) hn ⟨fun j hj=>absurd hj (Nat.not_lt_zero _),rfl⟩
    ·have hbase:oK n l p.1 p.2 (s,(i:Int))=if cP (nx l i) (nx l (i+1)) p then some (.inr (.inl ())) else some (.inl (s != Gd (nx l i) (nx l (i+1)) p,((i+1:Nat):Int))):=by
      unfold oK
      try dsimp only
      rw[aP (by omega),aZ hi,bA,du hi,aq]
      try dsimp only
      rw[aX (by omega),jx n (i+1) hne,aq]
      try dsimp only
      rw[o7 n (hnr i) (hnr (i+1)) hpn,aq]
      by_cases hb:cP (nx l i) (nx l (i+1)) p
      ·rw[aP hb,aq,if_pos hb]
      ·rw[aU hb,if_neg hb,jh n (hnr i) (hnr (i+1)) hpn,aq,dz,aq];unfold Gd;have e:(!(decide (p.2<(nx l i).2) == decide (p.2<(nx l (i+1)).2)))=(decide (p.2<(nx l i).2) != decide (p.2<(nx l (i+1)).2)):=rfl;rw[e];generalize ((decide (p.2<(nx l i).2) != decide (p.2<(nx l (i+1)).2)) && (decide (0<ti (nx l i) (nx l (i+1)) p) == decide ((nx l i).2<(nx l (i+1)).2)))=c;cases c<;>cases s<;>rfl
     by_cases hb:cP (nx l i) (nx l (i+1)) p
     ·exact .inr ⟨.inl (),by rw[hbase,if_pos hb],⟨i,hi,hb⟩⟩
     ·refine .inl ⟨s != Gd (nx l i) (nx l (i+1)) p,by rw[hbase,if_neg hb],fun j hj=>?_,by rw[hs.2]; rfl⟩
      by_cases e:j=i
      ·rw[e]; exact hb
      ·exact hs.1 j (by omega)
    ·refine⟨.inr s,?_,hs.1,hs.2⟩;unfold oK
     try dsimp only
     rw[aU (by omega)]
   obtain⟨r,h1,h2⟩:=L;have h1':dn (oK n l p.1 p.2) n (false,0)=some r:=h1;unfold HQ;rw[h1',aq];unfold side;cases r with
   | inl s =>
    dsimp only at h2
    rw[if_pos h2]
    rfl
   | inr w =>
    obtain⟨g1,g2⟩:=h2;rw[if_neg (fun⟨i,a,b⟩=>g1 i a b)]
    try dsimp only
    rw[g2,hok.vr.CC g1]
    by_cases e:nz l p=0
    ·rw[decide_eq_true e,if_pos e]; rfl
    ·rw[decide_eq_false e,if_neg e]; rfl
 ·rw[if_neg h,if_neg h]; rfl
end
theorem ux:fQ 0:=by unfold fQ; omega
theorem IH {B:Int→Option (Int ⊕ (Unit ⊕ Unit))} (hB:∀i:Nat,i<3→B (i:Int)=some (.inl ((i+1:Nat):Int))) (hE:B 3=some (.inr (.inr ()))) {n:Nat} (hn:3<n):dn B n 0=some (.inr ()):=by
 obtain⟨n,rfl⟩:∃m,n=m+4:=⟨n-4,by omega⟩
 rw[show(0:Int)=((0:Nat):Int) from rfl,bH (hB 0 (by decide)),bH (hB 1 (by decide)),bH (hB 2 (by decide)),show((2+1:Nat):Int)=3 from rfl,dM hE]
theorem CM (n:Nat) {raw:List I2} (hr:iw raw) {l:List Nat} {x5 x6:Int} {x7:Nat} (d:Dr l x5 x6 x7) (row turned:Bool) {w1 a0 t1 w2 a1 t2:Nat} {p0 q1 p1 q2:Int} (b1:Bd a0 t1 p0 q1) (b2:Bd a1 t2 p1 q2) {px py u v:Int} (hx:fQ px) (hy:fQ py) (hn:60<n) :
  F8 n raw l x5 x6 x7 row turned w1 a0 t1 p0 q1 w2 a1 t2 p1 q2 px py u v=some true:=by
 classical
 obtain⟨r,s,t,h1,h2⟩:=FT n hr d row turned (w1:=w1) (w2:=w2) b1 b2 hn;have ha:=b1.at_;unfold F8;rw[h1,aq]
 try dsimp only
 generalize oi l x5 x6 x7 row turned=o at *;have hl:∀i:Nat,i<4→∃k,[o,r,s,t][i]? = some k∧k.length≤51∧iw k:=fun i hi=>by
  refine⟨[o,r,s,t][i]'hi,List.getElem?_eq_getElem hi,h2 _ (List.getElem_mem _)⟩
 have L2:dn (AH n o r s t a0 px py x5 u x6 v) n 0=some (.inr ()):=by
  refine IG (fun i hi=>?_) ?_ (by omega)
  rotate_left
  ·unfold AH
   try dsimp only
   rw[aU (by decide)]
  obtain⟨k,e,h5,h0⟩:=hl i hi;unfold AH
  try dsimp only
  rw[aP (by omega),aZ hi,bA,Int.toNat_natCast,e,aq,FC n h0 (by omega) (by omega),aq,Ee n (by omega) (by omega),aq,Fp n h0 (by omega) (by omega),aq,ES n (by omega) (by omega),aq,Fx n h0 (by omega) (by omega),aq,Co n (by omega) (by omega),aq]
  have hs:Fh n (if gO k then(rv k,(0:Int)) else([],140)).1 (if gO k then(rv k,(0:Int)) else([],140)).1=some true:=by
   rw[E5 n,decide_eq_true rfl]
   ·split
    ·rw[kJ]; omega
    ·simp; omega
   ·split
    ·rw[kJ]; omega
    ·simp
  have ed:∀z:Int,(!decide (z=z))=false:=fun z=>by simp
  have eb:∀z:Bool,(!(z == z))=false:=fun z=>by simp
  have C:∀(X:Option (Int ⊕ (Unit ⊕ Unit))),(match (if gO k then(nY k,(0:Int)) else(0,140)) with
   | (r0,r1)=>match (if gO k then(nY k,(0:Int)) else(0,140)) with
    | (r2,r3)=>match (if gO k then(Ge k,(0:Int)) else(false,140)) with
     | (r4,r5)=>match (if gO k then(Ge k,(0:Int)) else(false,140)) with
      | (r6,r7)=>match (if gO k then(rv k,(0:Int)) else([],140)) with
       | (l1,r8)=>match (if gO k then(rv k,(0:Int)) else([],140)) with
        | (l2,r9)=>ob (br (!decide (r0=r2)) (some true) (br (!decide (r1=r3)) (some true) (br (!(r4 == r6)) (some true) (br (!decide (r5=r7)) (some true) (br (!decide (r8=r9)) (some true) (ob (Fh n l1 l2) fun r10=>some (!r10))))))) fun v0=>br v0 (some (.inr (.inl ()))) X)=X:=fun X=>by
   generalize (if gO k then(nY k,(0:Int)) else(0,140))=A
   generalize (if gO k then(Ge k,(0:Int)) else(false,140))=Bb
   generalize (if gO k then(rv k,(0:Int)) else([],140))=Cc at *
   obtain⟨A1,A2⟩:=A;obtain⟨B1,B2⟩:=Bb;obtain⟨C1,C2⟩:=Cc
   dsimp only at hs ⊢
   rw[ed,ed,eb,ed,ed,dV,dV,dV,dV,dV,hs,aq,aq]
   rfl
  refine(C _).trans ?_;have M:∃m1 m2:Int,fQ m1∧fQ m2∧(br (decide (1<(k.length:Int))) (
    gd (decide ((k.length:Int)≠0)) (
    gd (dq (Int.tmod (IntKind.wrap .i64 ((a0:Nat):Int)) (k.length:Int)) k.length) (
    ob (k[(Int.tmod (IntKind.wrap .i64 ((a0:Nat):Int)) (k.length:Int)).toNat]?) fun(x3,x4) =>
    gd (dq 0 k.length) (
    ob (k[(0:Int).toNat]?) fun(x10,x11) =>
    ob (some (IntKind.wrap .i64 ((IntKind.wrap .i64 (Int.tdiv x3 2))+(IntKind.wrap .i64 (Int.tdiv x10 2))))) fun y0 =>
    gd (dq 0 k.length) (
    ob (some (IntKind.wrap .i64 ((IntKind.wrap .i64 (Int.tdiv x4 2))+(IntKind.wrap .i64 (Int.tdiv x11 2))))) fun y1 =>
    some (y0,y1)))))) (some (0,0)))=some (m1,m2):=by
   by_cases hk:1<(k.length:Int)
   ·have hm:a0%k.length<k.length:=Nat.mod_lt _ (by omega)
    obtain⟨q,gq,_⟩:=kq h0 hm;obtain⟨q0,g0,_⟩:=kq h0 (i:=0) (by omega)
    refine⟨IntKind.wrap .i64 (IntKind.wrap .i64 (Int.tdiv q.1 2)+IntKind.wrap .i64 (Int.tdiv q0.1 2)),IntKind.wrap .i64 (IntKind.wrap .i64 (Int.tdiv q.2 2)+IntKind.wrap .i64 (Int.tdiv q0.2 2)),fL _,fL _,?_⟩
    ·rw[aP hk,tX (show(k.length:Int)≠0 by omega),aA (x:=((a0:Nat):Int)) (by omega) (by omega),iC,aZ hm,bA,Int.toNat_natCast,gq,aq]
     try dsimp only
     rw[xG (by omega),bA,show k[(0:Int).toNat]? = some (q0.1,q0.2) from g0,aq]
     try dsimp only
     rw[aq,bA,aq]
   ·exact⟨0,0,ux,ux,by rw[aU hk]⟩
  obtain⟨m1,m2,h3,h4,hM⟩:=M;refine(congrArg (fun z=>ob z _) hM).trans ?_;rw[aq]
  try dsimp only
  have hw:∀z:Int,fQ (IntKind.wrap .i64 z):=fL;have hpts:∀j:Nat,j<3→∃q:I2,[(px,py),(IntKind.wrap .i64 ((IntKind.wrap .i64 x5)+(IntKind.wrap .i64 u)),IntKind.wrap .i64 ((IntKind.wrap .i64 x6)+(IntKind.wrap .i64 v))),(m1,m2)][j]? = some (q.1,q.2)∧fQ q.1∧fQ q.2:=fun j hj=>by
   match j,hj with
   | 0,_=>exact⟨(px,py),rfl,hx,hy⟩
   | 1,_=>exact⟨(_,_),rfl,hw _,hw _⟩
   | 2,_=>exact⟨(m1,m2),rfl,h3,h4⟩
  have L1:dn (Aa n px py x5 u x6 v m1 m2 k) n 0=some (.inr ()):=by
   refine IH (fun j hj=>?_) ?_ (by omega)
   rotate_left
   ·unfold Aa
    try dsimp only
    rw[aU (by decide)]
   obtain⟨q,gq,hq⟩:=hpts j hj;unfold Aa
   try dsimp only
   rw[aP (by omega),aZ hj,bA,Int.toNat_natCast,gq,aq]
   try dsimp only
   rw[E4 n h0 hq (by omega) (by omega),aq,EN n (by omega) (by omega),aq,aX (by omega)]
   generalize (if gO k then(if Fa q then((0:Int),(2:Int)) else(side k q,0)) else(0,140))=A
   obtain⟨A1,A2⟩:=A
   try dsimp only
   rw[ed,ed,dV,aq,dV]
  rw[L1,aq]
  try dsimp only
  rw[aX (by omega)]
 rw[L2,aq]
 rfl
end Go.Proofs.YthmekkhpddehjaaGreat
end
