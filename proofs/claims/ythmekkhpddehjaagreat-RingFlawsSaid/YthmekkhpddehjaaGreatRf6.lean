/- A part of the proof. -/
import Derived.Test.YthmekkhpddehjaaGreatRf5
section
namespace Go.Proofs.YthmekkhpddehjaaGreat
open Go Go.Ab Go.Ab.W Go.Ab.B Jd
structure Ok (l:List I2):Prop where
 len:l.length≤40
 nr:∀i,Nr (nx l i)
 vr:VR l
theorem jg {ρ:Type} {f:Nat→Option ρ} {e:ρ} {k i:Nat} (h:∀j,i≤j→j<i+k→f j=none):ca f e k i=e:=by
 rcases ej (f:=f) (e:=e) k i with⟨_,h2⟩|⟨j,h1,h2,h3⟩
 ·exact h2
 ·rw[h j h1 h2] at h3; cases h3
theorem yW {i L:Nat} (hL:0<L):((i+1)%L+L-1)%L=i%L:=by
 have h:=Nat.div_add_mod (i+1) L;have:((i+1)%L+L-1)+L*((i+1)/L)=i+L:=by omega
 rw[←Nat.add_mul_mod_self_left ((i+1)%L+L-1) L ((i+1)/L),this,Nat.add_mod_right]
theorem Ok.xQ {l:List I2} (h:Ok l):xQ l:=by
 have hn:=h.vr.n3;have hl:=h.len;unfold Go.Proofs.YthmekkhpddehjaaGreat.xQ iw;rw[if_neg (by omega),jg (f:=jj l) fun j _ _=>by unfold jj; rw[if_neg (Cz.2 (h.nr j))]]
 dsimp only
 rw[jg (f:=dZ l) fun j _ _=>by unfold dZ; rw[if_neg (h.vr.still j)]]
 dsimp only
 rw[jg (f:=eR l) fun j _ hj=>by
  unfold eR;have:=h.vr.pP (j+l.length-1);rw[show j+l.length-1+1=j+l.length by omega,show j+l.length-1+2=(j+1)+l.length by omega,gZ l (Nat.add_mod_right j l.length),gZ l (Nat.add_mod_right (j+1) l.length)] at this
  rw[if_neg this]]
 dsimp only
 rw[jg (f:=eQ l) fun j _ hj=>by
  unfold eQ;rw[if_neg];rintro⟨t,ht,h1,h2⟩;exact h2 (pW.2 (h.vr.meet t j ht (by omega) fun e=>h1 ⟨e.1,by omega⟩))]
 exact Int.le_refl 0
theorem xQ.ok {l:List I2} (h:xQ l):Ok l:=by
 unfold Go.Proofs.YthmekkhpddehjaaGreat.xQ iw at h
 split at h
 ·exact absurd (show(1:Int)≤0 from h) (by decide)
 ·rename_i hl;cases h1:ca (jj l) (.inr ()) l.length 0 with
  | inl v=>rw[h1] at h; exact absurd (show(2:Int)≤0 from h) (by decide)
  | inr _ =>
   rw[h1] at h
   dsimp only at h
   cases h2:ca (dZ l) (.inr ()) l.length 0 with
   | inl v=>rw[h2] at h; exact absurd (show(3:Int)≤0 from h) (by decide)
   | inr _ =>
    rw[h2] at h
    dsimp only at h
    cases h3:ca (eR l) (.inr ()) l.length 0 with
    | inl v=>rw[h3] at h; exact absurd (show(4:Int)≤0 from h) (by decide)
    | inr _ =>
     rw[h3] at h
     dsimp only at h
     cases h4:ca (eQ l) (.inr ()) l.length 0 with
     | inl v=>rw[h4] at h; exact absurd (show(5:Int)≤0 from h) (by decide)
     | inr _ =>
      have hL:0<l.length:=by omega
      refine⟨by omega,tZ hL h1,by omega,uY hL h2,fun i=>?_,fun j i hji hi hn=>?_⟩
      ·have:=kP (fun j r hr=>by unfold eR at hr; split at hr<;>cases hr; simp) h3 ((i+1)%l.length) (Nat.mod_lt _ hL)
       unfold eR at this
       split at this
       ·cases this
       ·rename_i g;rw[gZ l (yW hL),pO,lV] at g;exact g
      ·have:=kP (fun j r hr=>by unfold eQ at hr; split at hr<;>cases hr; simp) h4 i hi
       unfold eQ at this
       split at this
       ·cases this
       ·rename_i g;refine pW.1 (Decidable.byContradiction fun e=>g ⟨j,hji,fun k=>hn ⟨k.1,by omega⟩,e⟩)
theorem AW {l:List I2}:xQ l↔Ok l:=⟨xQ.ok,Ok.xQ⟩
def num (l:List Nat) (i:Nat):Nat:=if l.length=0 then i%3 else l.getD (i%l.length) 0
theorem Dt {l:List Nat} (hb:∀x ∈ l,x<256) (i:Nat):num l i<256:=by
 unfold num
 split
 ·omega
 ·rename_i h;have hm:i%l.length<l.length:=Nat.mod_lt _ (by omega)
  rw[List.getD_eq_getElem?_getD,List.getElem?_eq_getElem hm];exact hb _ (List.getElem_mem hm)
section
variable (n : Nat) {l : List Nat} (hb : ∀ x ∈ l, x < 256) (x5 x6 : Int) (x7 : Nat) (x8 x9 : Bool)
include hb
theorem uN (i:Nat):DK n l x5 x6 x7 x8 x9 (i:Int)=some ((num l i:Nat):Int):=by
 have hlt:=Dt hb i;unfold DK;unfold num at hlt ⊢
 by_cases h:l.length=0
 ·rw[aR (by omega),if_pos h]; rfl
 ·have hm:i%l.length<l.length:=Nat.mod_lt _ (by omega)
  rw[if_neg h] at hlt ⊢;rw[aW (by omega),decide_eq_true (show((l.length:Nat):Int)≠0 by omega),bO,jF,bt hm,bO,Int.toNat_natCast]
  rw[List.getD_eq_getElem?_getD,List.getElem?_eq_getElem hm] at hlt ⊢;have hlt':l[i%l.length]<256:=hlt;rw[aw,az (by omega) (by omega)]; rfl
def kp (l:List Nat) (i:Nat):Bool:=!(decide (num l i%6=0) && !decide (i%3=0))
def cm (l:List Nat) (i:Nat):Int:=((1+num l i%6%5:Nat):Int)
def FL:List I2:=[(2,0),(2,1),(1,2),(0,2),(-1,2),(-2,1),(-2,0),(-2,-1),(-1,-2),(0,-2),(1,-2),(2,-1)]
omit hb in
theorem uU (i:Nat):1≤cm l i∧cm l i≤5:=by unfold cm; omega
omit hb in
theorem CR:∀i<12,FL[i]? = some ((wy i).1,(wy i).2):=by decide
omit hb in
theorem EL:∀i<12,-2≤(wy i).1∧(wy i).1≤2∧-2≤(wy i).2∧(wy i).2≤2:=by decide
omit hb in
theorem pS {x y:Int} (hx : -2≤x∧x≤2) (hy:1≤y∧y≤5):IntKind.wrap .i64 (x*y)=x*y:=by
 have:=dV (B:=2) (C:=5) (u:=x) (v:=y) (by decide) (by omega) (by omega) (by omega) (by omega)
 exact az (by omega) (by omega)
theorem Af {i:Nat} (hi:i<12) (acc:List I2) (ha:acc.length≤12):pB n l x5 x6 x7 x8 x9 (acc,FL,(i:Int))=some (.inl (if kp l i then acc++[uZ (cm l i) (wy i)] else acc,FL,((i+1:Nat):Int))):=by
 have hw:=EL i hi;have hc:=uU (l:=l) i;have e1:Int.tmod ((num l i:Nat):Int) 6=((num l i%6:Nat):Int):=rfl;have e2:Int.tmod (i:Int) 3=((i%3:Nat):Int):=rfl;have e3:Int.tmod ((num l i%6:Nat):Int) 5=((num l i%6%5:Nat):Int):=rfl;have e4:IntKind.wrap .i64 (1+((num l i%6%5:Nat):Int))=cm l i:=by
  unfold cm; rw[az (by omega) (by omega)]; omega
 unfold pB
 dsimp only
 rw[aR (by omega),uN n hb,aw,e1,e2,e3,e4,bt hi,bO,Int.toNat_natCast,CR i hi,aw]
 dsimp only
 rw[pS ⟨hw.1,hw.2.1⟩ hc,pS ⟨hw.2.2.1,hw.2.2.2⟩ hc,aw,bO,aw,bj (by omega),ei,aw]
 have hk:(decide (((num l i%6:Nat):Int)=0) && !decide (((i%3:Nat):Int)=0)) = !kp l i:=by
  unfold kp;rw[Bool.not_not]
  congr 1
  ·rw[decide_eq_decide]; omega
  ·congr 1; rw[decide_eq_decide]; omega
 rw[hk];cases kp l i with
 | true =>
  rw[Bool.not_true,gK,show lim (acc++[((wy i).1*cm l i,(wy i).2*cm l i)]).length=true from Nat.ble_eq_true_of_le (by rw[List.length_append]; simp; omega),bO,aw]; rfl
 | false=>rw[Bool.not_false,kC,aw]; rfl
theorem nQ:∀(k i m:Nat) (acc:List I2),i+k=12→acc.length≤i→k<m→dY (pB n l x5 x6 x7 x8 x9) m (acc,FL,(i:Int))=some (acc++((List.range' i k).filter (kp l)).map fun i=>uZ (cm l i) (wy i))
 | 0,i,m+1,acc,h,_,_=>by
  rw[eU (r:=acc)]
  ·simp
  ·unfold pB
   dsimp only
   rw[aW (by omega)]
 | k+1,i,m+1,acc,h,ha,hm=>by
  rw[bP (Af n hb x5 x6 x7 x8 x9 (show i<12 by omega) acc (by omega)),nQ k (i+1) m _ (by omega) (by split<;>(try rw[List.length_append,List.length_singleton])<;>omega) (by omega),List.range'_succ,List.filter_cons]
  congr 1
  split<;>simp
def hh (l:List Nat) (i:Nat):Int:=((1+num l (i+1)%5:Nat):Int)
omit hb in
theorem uD (i:Nat):1≤hh l i:=by unfold hh; omega
omit hb in
theorem Ez (i:Nat):hh l i≤5:=by unfold hh; omega
omit hb in
theorem BB (k:Nat):IntKind.wrap .i64 (1+Int.tmod ((num l (k+1):Nat):Int) 5)=hh l k:=by
 have e3:Int.tmod ((num l (k+1):Nat):Int) 5=((num l (k+1)%5:Nat):Int):=rfl;rw[e3]; unfold hh; rw[az (by omega) (by omega)]; omega
omit hb in
theorem Ba (A:List I2) (x:I2) (hA:A.length<1000) {β:Type} (K:Int × Int→Option β):gd (ew (IntKind.wrap .i64 (((A++[x]).length:Int)-1)) (A++[x]).length) (ob ((A++[x])[(IntKind.wrap .i64 (((A++[x]).length:Int)-1)).toNat]?) K)=K x:=by
 have e:IntKind.wrap .i64 (((A++[x]).length:Int)-1)=(A.length:Int):=by rw[List.length_append]; simp only[List.length_cons,List.length_nil]; rw[az (by omega) (by omega)]; omega
 rw[e,bt (by simp),bO,Int.toNat_natCast,List.getElem?_append_right (Nat.le_refl _),Nat.sub_self]
 exact aw x K
omit hb in
theorem nH (A:List I2) (x:I2) (hA:A.length<1000) (k:Nat) (u:Int) (hu:(k:Int)≤u) (hu':u<100000) :
  ov n (k:Int) ((num l (k+1):Nat):Int) (A++[x],(A++[x]).length,u)=some (.inl ((A++[x])++(if x=(u,hh l k) then[] else[(u,hh l k)]),((A++[x])++(if x=(u,hh l k) then[] else[(u,hh l k)])).length,u-1)):=by
 unfold ov
 dsimp only
 rw[aR hu,BB,Ba A x hA]
 try dsimp only
 have hd:(decide (x.1=u) && decide (x.2=hh l k))=decide (x=(u,hh l k)):=iD x (u,hh l k);have hw:IntKind.wrap .i64 (u-1)=u-1:=az (by omega) (by omega)
 rw[hd,hw]
 by_cases h:x=(u,hh l k)
 ·rw[decide_eq_true h,Bool.not_true,gK,aw,if_pos h,List.append_nil]
 ·rw[decide_eq_false h,Bool.not_false,kC,show lim ((A++[x])++[(u,hh l k)]).length=true from Nat.ble_eq_true_of_le (by simp; omega),bO,aw,if_neg h]
omit hb in
theorem vh (A:List I2) (hA:A.length<900) (k:Nat) (hk:k<10000) (p:Int) {m:Nat} (hm:3≤m) :
  ∃B,dY (ov n (k:Int) ((num l (k+1):Nat):Int)) m (A++[(((k+1:Nat):Int),p)],(A++[(((k+1:Nat):Int),p)]).length,((k+1:Nat):Int))=some (B++[((k:Int),hh l k)],(B++[((k:Int),hh l k)]).length) ∧
   B++[((k:Int),hh l k)]=A++[(((k+1:Nat):Int),p)]++((if hh l k=p then[] else[(((k+1:Nat):Int),hh l k)])++[((k:Int),hh l k)])∧B.length≤A.length+2:=by
 obtain⟨m,rfl⟩:∃q,m=q+3:=⟨m-3,by omega⟩
 have s1:=nH (l:=l) n A (((k+1:Nat):Int),p) (by omega) k ((k+1:Nat):Int) (by omega) (by omega)
 have sE:∀B:List I2,ov n (k:Int) ((num l (k+1):Nat):Int) (B,B.length,(k:Int)-1)=some (.inr (B,B.length)):=fun B=>by
  unfold ov
  dsimp only
  rw[aW (by omega)]
 have e1:((k+1:Nat):Int)-1=(k:Int):=by omega
 by_cases h:p=hh l k
 ·subst h;rw[if_pos rfl,List.append_nil,e1] at s1;have s2:=nH (l:=l) n A (((k+1:Nat):Int),hh l k) (by omega) k (k:Int) (by omega) (by omega)
  rw[if_neg (fun e=>by have:=congrArg Prod.fst e; dsimp only at this; omega)] at s2
  refine⟨A++[(((k+1:Nat):Int),hh l k)],?_,by simp,by simp⟩
  rw[bP s1,bP s2,eU (sE _)]
 ·rw[if_neg (fun e=>h (congrArg Prod.snd e)),e1] at s1;have s2:=nH (l:=l) n (A++[(((k+1:Nat):Int),p)]) (((k+1:Nat):Int),hh l k) (by simp; omega) k (k:Int) (by omega) (by omega)
  rw[if_neg (fun e=>by have:=congrArg Prod.fst e; dsimp only at this; omega)] at s2
  refine⟨A++[(((k+1:Nat):Int),p)]++[(((k+1:Nat):Int),hh l k)],?_,by rw[if_neg (fun e=>h e.symm)]; simp,by simp⟩
  rw[bP s1,bP s2,eU (sE _)]
theorem mY (hn:3≤n):∀(k m:Nat) (A:List I2) (p:Int),A.length+2*k<900→k<m→∃N,dY (th n l x5 x6 x7 x8 x9) m (A++[((k:Int),p)],(A++[((k:Int),p)]).length,(k:Int)-1)=some (A++[((k:Int),p)]++fa (hh l) k p,N)
 | 0,m+1,A,p,_,_=>by
  refine⟨_,eU (r:=(A++[(((0:Nat):Int),p)]++fa (hh l) 0 p,(A++[(((0:Nat):Int),p)]).length)) ?_⟩;unfold th
  dsimp only
  rw[aW (by omega)]
  simp[fa]
 | k+1,m+1,A,p,hA,hm=>by
  obtain⟨B,h1,h2,h3⟩:=vh (l:=l) n A (by omega) k (by omega) p hn
  obtain⟨N,ih⟩:=mY hn k m B (hh l k) (by omega) (by omega)
  have e1:((k+1:Nat):Int)-1=(k:Int):=by omega
  refine⟨N,?_⟩;rw[bP (s':=(B++[((k:Int),hh l k)],(B++[((k:Int),hh l k)]).length,(k:Int)-1)),ih,h2]
  ·simp only[fa,List.append_assoc,List.cons_append,List.nil_append]
  ·unfold th
   dsimp only
   rw[e1,aR (by omega),bj (by omega),uN n hb,aw,h1,aw]
   dsimp only
   rw[az (by omega) (by omega)]
def kn (l:List Nat):Nat:=1+num l 0%6
def ft (l:List Nat) (row:Bool):List I2:=if row then uk (hh l) (kn l) else((List.range 12).filter (kp l)).map fun i=>uZ (cm l i) (wy i)
theorem DQ (hn:12<n):Fu n l x5 x6 x7 x8 x9=some (ft l x8):=by
 unfold Fu ft;cases x8 with
 | false =>
  rw[Bool.not_false,kC];have:=nQ n hb x5 x6 x7 false x9 12 0 n [] (by omega) (by simp) hn
  rw[←List.range_eq_range'] at this;exact(congrArg (fun o=>ob o fun l1=>some l1) this).trans rfl
 | true =>
  have e0:Int.tmod ((num l 0:Nat):Int) 6=((num l 0%6:Nat):Int):=rfl;have e1:IntKind.wrap .i64 (1+((num l 0%6:Nat):Int))=(kn l:Int):=by unfold kn; rw[az (by omega) (by omega)]; omega
  have e2:IntKind.wrap .i64 ((kn l:Int)-1)=(kn l:Int)-1:=az (by unfold kn; omega) (by unfold kn; omega)
  rw[Bool.not_true,gK,show(0:Int)=((0:Nat):Int) from rfl,uN n hb,aw,e0,e1,e2]
  obtain⟨N,h⟩:=mY n hb x5 x6 x7 true x9 (by omega) (kn l) n [(0,0)] 0 (by simp; unfold kn; omega) (by unfold kn; omega)
  exact(congrArg (fun o=>ob o fun x:List I2 × Nat=>match x with | (l2,_)=>some l2) h).trans rfl
end
end Go.Proofs.YthmekkhpddehjaaGreat
end

section
namespace Jd
def Lt (a b:I2):Prop:=a.1<b.1∨a.1=b.1∧a.2<b.2
instance (a b:I2):Decidable (Lt a b):=by unfold Lt; infer_instance
theorem Lt.trans {a b c:I2} (h:Lt a b) (g:Lt b c):Lt a c:=by unfold Lt at *; omega
theorem Lt.GF (a:I2):¬Lt a a:=by unfold Lt; omega
theorem Lt.Gw (a b:I2):Lt a b∨a=b∨Lt b a:=by
 unfold Lt
 by_cases h1:a.1=b.1
 ·by_cases h2:a.2=b.2
  ·exact .inr (.inl (Prod.ext h1 h2))
  ·omega
 ·omega
def Fw (x y:Int):Prop:=0<x∨x=0∧0<y
theorem Co {a b:I2} (h:Lt a b):Fw (b.1-a.1) (b.2-a.2):=by unfold Lt at h; unfold Fw; omega
def Edge (Q:I2→Prop) (a b:I2):Prop:=Lt a b∧∀q,Q q→0≤ti a b q∧(ti a b q=0→¬Lt q a∧¬Lt b q)
inductive Stk (Q:I2→Prop):List I2→Prop
 | one {a}:(∀q,Q q→¬Lt q a)→Q a→Stk Q [a]
 | more {a b st}:Edge Q a b→Q b→Stk Q (a::st)→Stk Q (b::a::st)
theorem Stk.mono {Q R:I2→Prop} (h:∀q,Q q↔R q) {st:List I2} (s:Stk Q st):Stk R st:=by
 have:Q=R:=funext fun q=>propext (h q);rw[←this]; exact s
def Good (S:I2→Prop) (x y:I2):Prop:=x≠y∧S y∧∀q,S q→0<ti x y q∨q=x∨q=y∨(ti x y q=0∧0<di x q y)
theorem D6 {x1 y1 x2 y2:Int} (f1:Fw x1 y1) (f2:Fw x2 y2) (h:x1*y2-y1*x2=0):0<x1*x2+y1*y2:=by
 unfold Fw at f1 f2;have pp:∀{a b:Int},0<a→0<b→0<a*b:=Int.mul_pos
 by_cases h1:0<x1
 ·by_cases h2:0<x2
  ·
   have e:x1*x1*(y1*y2)=(x1*y1)*(x1*y2):=by grind
   have e2:x1*y2=y1*x2:=by omega
   have e3:x1*x1*(y1*y2)=(x1*x2)*(y1*y1):=by rw[e,e2]; grind
   have m1:=pp h1 h2;have m2:0≤x1*x1*(y1*y2):=by rw[e3]; exact Int.mul_nonneg (Int.le_of_lt m1) wY
   have:=Int.nonneg_of_mul_nonneg_right m2 (pp h1 h1);omega
  ·have e:x2=0:=by omega
   have:=pp h1 (show 0<y2 by omega)
   subst e;omega
 ·have e:x1=0:=by omega
  subst e;have k:0<y1:=by omega
  have:x2=0:=by
   refine Decidable.byContradiction fun hc=>?_;have:=pp k (show 0<x2 by omega)
   omega
  subst this;have:=pp k (show 0<y2 by omega)
  omega
theorem Edge.xa {Q:I2→Prop} {a b:I2} (h:Edge Q a b) (hb:Q b):Good Q a b:=by
 refine⟨fun e=>Lt.GF b (by have:=h.1; rwa[e] at this),hb,fun q hq=>?_⟩
 obtain⟨h1,h2⟩:=h.2 q hq
 by_cases h0:ti a b q=0
 ·obtain⟨g1,g2⟩:=h2 h0;rcases Lt.Gw a q with k|k|k
  ·rcases Lt.Gw q b with k' | k' | k'
   ·refine .inr (.inr (.inr ⟨h0,?_⟩));exact D6 (Co k) (Co k') (by rw[←Int.neg_eq_zero,←h0]; unfold ti; grind)
   ·exact .inr (.inr (.inl k'))
   ·exact absurd k' g2
  ·exact .inr (.inl k.symm)
  ·exact absurd k g1
 ·exact .inl (by omega)
inductive Way (S:I2→Prop):List I2→Prop
 | one (a):Way S [a]
 | more {a b l}:Good S a b→Way S (b::l)→Way S (a::b::l)
theorem Way.mem {S:I2→Prop}:∀{a:I2} {l:List I2},Way S (a::l)→∀q ∈ l,S q
 | _,_,.one _,q,hq=>by cases hq
 | _,_,.more h k,q,hq=>by
  rcases List.mem_cons.1 hq with rfl|hq
  ·exact h.2.1
  ·exact k.mem q hq
theorem Good.ge {S:I2→Prop} {x y q:I2} (h:Good S x y) (hq:S q):0≤ti x y q:=by
 rcases h.2.2 q hq with g|rfl|rfl|g
 ·omega
 ·rw[rp]; exact Int.le_refl 0
 ·rw[pU]; exact Int.le_refl 0
 ·omega
theorem Ex {x y q z:I2}:((y.1-q.1)*(y.1-x.1)+(y.2-q.2)*(y.2-x.2))*ti q z x+((q.1-x.1)*(y.1-x.1)+(q.2-x.2)*(y.2-x.2))*ti q z y=ti x y q * -((z.1-q.1)*(y.1-x.1)+(z.2-q.2)*(y.2-x.2)):=by unfold ti; grind
theorem Bv {u v w:I2} (h1:u.1*w.2=u.2*w.1) (_:v.1*w.2=v.2*w.1) (g1:0<u.1*w.1+u.2*w.2) (g2:0<v.1*w.1+v.2*w.2):0<u.1*v.1+u.2*v.2:=by
 have e:(u.1*w.1+u.2*w.2)*(v.1*w.1+v.2*w.2)=(u.1*v.1+u.2*v.2)*(w.1*w.1+w.2*w.2):=by grind
 have p:=Int.mul_pos g1 g2;rw[e] at p;have n:0≤w.1*w.1+w.2*w.2:=Int.add_nonneg wY wY;rcases Int.lt_or_eq_of_le n with k|k
 ·rw[Int.mul_comm] at p; exact Int.pos_of_mul_pos_right p k
 ·rw[←k,Int.mul_zero] at p; exact absurd p (by decide)
structure Hul (S:I2→Prop) (r:List I2):Prop where
 n3:2<r.length
 xa:∀i,Good S (nx r i) (nx r (i+1))
 nodup:∀i j,i<j→j<r.length→nx r i≠nx r j
section
variable {S : I2 → Prop} {r : List I2}
theorem Hul.mem (h:Hul S r) (i:Nat):S (nx r i):=by
 have hn:=h.n3;have:=(h.xa (i+(r.length-1))).2.1;rwa[show i+(r.length-1)+1=i+r.length by omega,gZ r (Nat.add_mod_right i r.length)] at this
theorem Hul.strict (h:Hul S r) (i k:Nat) (h1:nx r k≠nx r i) (h2:nx r k≠nx r (i+1)):0<ti (nx r i) (nx r (i+1)) (nx r k):=by
 rcases(h.xa i).2.2 _ (h.mem k) with g|g|g|⟨g1,g2⟩
 ·exact g
 ·exact absurd g h1
 ·exact absurd g h2
 ·exfalso;have hk:=h.xa k;have hx:=h.mem i;have hy:=h.mem (i+1);generalize nx r i=x at *;generalize nx r (i+1)=y at *;generalize nx r k=q at *;generalize nx r (k+1)=z at *;have hw:=Ex (x:=x) (y:=y) (q:=q) (z:=z);rw[g1,Int.zero_mul] at hw;have sx:=hk.ge hx;have sy:=hk.ge hy;have dd:di x q y=(q.1-x.1)*(y.1-q.1)+(q.2-x.2)*(y.2-q.2):=rfl;have wa:0<(q.1-x.1)*(y.1-x.1)+(q.2-x.2)*(y.2-x.2):=by
   have:(q.1-x.1)*(y.1-x.1)+(q.2-x.2)*(y.2-x.2)=di x q y+((q.1-x.1)*(q.1-x.1)+(q.2-x.2)*(q.2-x.2)):=by unfold di; grind
   have:=@wY (q.1-x.1);have:=@wY (q.2-x.2);omega
  have wb:0<(y.1-q.1)*(y.1-x.1)+(y.2-q.2)*(y.2-x.2):=by
   have:(y.1-q.1)*(y.1-x.1)+(y.2-q.2)*(y.2-x.2)=di x q y+((y.1-q.1)*(y.1-q.1)+(y.2-q.2)*(y.2-q.2)):=by unfold di; grind
   have:=@wY (y.1-q.1);have:=@wY (y.2-q.2);omega
  have n1:=Int.mul_nonneg (Int.le_of_lt wb) sx;have n2:=Int.mul_nonneg (Int.le_of_lt wa) sy;have zx:ti q z x=0:=by
   rcases Int.mul_eq_zero.1 (show((y.1-q.1)*(y.1-x.1)+(y.2-q.2)*(y.2-x.2))*ti q z x=0 by omega) with e|e
   ·omega
   ·exact e
  have zy:ti q z y=0:=by
   rcases Int.mul_eq_zero.1 (show((q.1-x.1)*(y.1-x.1)+(q.2-x.2)*(y.2-x.2))*ti q z y=0 by omega) with e|e
   ·omega
   ·exact e
  have hqz:=hk.1;have zz:0<(z.1-q.1)*(z.1-q.1)+(z.2-q.2)*(z.2-q.2):=by
   have s1:=@wY (z.1-q.1);have s2:=@wY (z.2-q.2);refine Decidable.byContradiction fun hc=>hqz ?_;have g1:=EV (show(z.1-q.1)*(z.1-q.1)=0 by omega)
   have g2:=EV (show(z.2-q.2)*(z.2-q.2)=0 by omega)
   exact Prod.ext (by omega) (by omega)
  have dir:∀p,S p→p≠q→ti q z p=0→0<(p.1-q.1)*(z.1-q.1)+(p.2-q.2)*(z.2-q.2):=fun p hp hne h0=>by
   rcases hk.2.2 p hp with e|e|e|⟨_,e⟩
   ·omega
   ·exact absurd e hne
   ·subst e; exact zz
   ·have:(p.1-q.1)*(z.1-q.1)+(p.2-q.2)*(z.2-q.2)=di q p z+((p.1-q.1)*(p.1-q.1)+(p.2-q.2)*(p.2-q.2)):=by unfold di; grind
    have:=@wY (p.1-q.1);have:=@wY (p.2-q.2);omega
  have d1:=dir x hx (Ne.symm h1) zx;have d2:=dir y hy (Ne.symm h2) zy;have:=Bv (u:=(x.1-q.1,x.2-q.2)) (v:=(y.1-q.1,y.2-q.2)) (w:=(z.1-q.1,z.2-q.2)) (by unfold ti at zx; grind) (by unfold ti at zy; grind) d1 d2
  dsimp only at this
  have e:(x.1-q.1)*(y.1-q.1)+(x.2-q.2)*(y.2-q.2) = -di x q y:=by unfold di; grind
  omega
theorem wx {r:List I2} {i:Nat} (h:i<r.length):i%r.length=i:=Nat.mod_eq_of_lt h
theorem Hul.ne (h:Hul S r) {i j:Nat} (hi:i%r.length≠j%r.length):nx r i≠nx r j:=by
 have hn:0<r.length:=by have:=h.n3; omega
 rw[gZ r (show i%r.length=(i%r.length)%r.length by rw[Nat.mod_mod]),gZ r (show j%r.length=(j%r.length)%r.length by rw[Nat.mod_mod])]
 have a:=Nat.mod_lt i hn;have b:=Nat.mod_lt j hn;rcases Nat.lt_or_gt_of_ne hi with g|g
 ·exact h.nodup _ _ g b
 ·exact(h.nodup _ _ g a).symm
theorem mod_succ {i n:Nat} (hn:0<n):(i+1)%n=if i%n+1=n then 0 else i%n+1:=by
 have h:=Nat.mod_lt i hn;rw[Nat.add_mod]
 by_cases g:i%n+1=n
 ·rw[if_pos g];rcases Nat.lt_or_ge 1 n with k|k
  ·rw[Nat.mod_eq_of_lt k,g,Nat.mod_self]
  ·have:n=1:=by omega
   subst this; omega
 ·rw[if_neg g,Nat.mod_eq_of_lt (show 1<n by omega),Nat.mod_eq_of_lt (by omega)]
theorem Hul.jk (h:Hul S r) (i:Nat):0<ti (nx r i) (nx r (i+1)) (nx r (i+2)):=by
 have hn:=h.n3;have e1:=mod_succ (i:=i) (n:=r.length) (by omega)
 have e2:=mod_succ (i:=i+1) (n:=r.length) (by omega)
 have:=Nat.mod_lt i (show 0<r.length by omega)
 refine h.strict i (i+2) (h.ne ?_) (h.ne ?_)
 ·rw[show i+2=i+1+1 from rfl,e2,e1]
  split<;>split<;>omega
 ·rw[show i+2=i+1+1 from rfl,e2,e1]
  split<;>split<;>omega
theorem Hul.vr (h:Hul S r):VR r:=by
 have hn:=h.n3;refine⟨hn,fun i=>(h.xa i).1,fun i g=>?_,fun j i h1 h2 h3=>?_⟩
 ·have:=h.jk i; omega
 ·have m1:(i+1)%r.length=if i+1=r.length then 0 else i+1:=by
   rw[mod_succ (by omega),wx h2]
  have mj:j%r.length=j:=wx (by omega)
  have mj1:(j+1)%r.length=j+1:=wx (by omega)
  have mi:i%r.length=i:=wx h2;have c1:=h.strict j i (h.ne (by rw[mi,mj]; omega)) (h.ne (by rw[mi,mj1]; omega))
  have c2:=h.strict j (i+1) (h.ne (by rw[m1,mj]; split<;>omega)) (h.ne (by rw[m1,mj1]; split<;>omega))
  have a1:=h.strict i j (h.ne (by rw[mi,mj]; omega)) (h.ne (by rw[m1,mj]; split<;>omega))
  have a2:=h.strict i (j+1) (h.ne (by rw[mi,mj1]; omega)) (h.ne (by rw[m1,mj1]; split<;>omega))
  generalize nx r j=a at *;generalize nx r (j+1)=b at *;generalize nx r i=c at *;generalize nx r (i+1)=d at *;refine⟨fun x hx=>?_,fun hx=>by omega⟩
  have el:∀x,dX (-(b.2-a.2)) (b.1-a.1) ((b.2-a.2)*a.1-(b.1-a.1)*a.2) x=ti a b x:=fun x=>by unfold dX ti; grind
  have:=qC (α:=-(b.2-a.2)) (β:=b.1-a.1) (γ:=(b.2-a.2)*a.1-(b.1-a.1)*a.2) hx.2.2 (by rw[el]; exact c1) (by rw[el]; exact c2)
  rw[el,hx.2.1.1] at this;exact absurd this (by decide)
end
theorem Good.same {S T:I2→Prop} (h:∀q,S q↔T q) {x y:I2} (g:Good S x y):Good T x y:=⟨g.1,(h y).1 g.2.1,fun q hq=>g.2.2 q ((h q).2 hq)⟩
theorem Hul.same {S T:I2→Prop} (h:∀q,S q↔T q) {r:List I2} (g:Hul S r):Hul T r:=⟨g.n3,fun i=>(g.xa i).same h,g.nodup⟩
theorem zC {r:List I2} (h:r≠[]) (i:Nat):nx r i ∈ r:=by
 have hl:=List.length_pos_iff.2 h;have hi:=Nat.mod_lt i hl;unfold nx;rw[List.getD_eq_getElem?_getD,List.getElem?_eq_getElem hi];exact List.getElem_mem hi
end Jd
end

section
namespace Go.Proofs.YthmekkhpddehjaaGreat
open Go Go.Ab Go.Ab.W Go.Ab.B Jd
def va (s:Int) (v:I2) (r:List I2):List I2:=r.map fun q=>kR v (lZ s q)
theorem yI (s:Int) (v:I2) (r:List I2):va s v r=(r.map (lZ s)).map (kR v):=by
 unfold va; rw[List.map_map]; rfl
theorem vH {h:Nat→Int} (hp:∀i,h i≤5):∀(k:Nat) (p:Int),∀x ∈ fa h k p,x.2≤5
 | 0,_,_,hx=>absurd hx (by simp[fa])
 | k+1,p,x,hx=>by
  simp only[fa,List.mem_append,List.mem_cons] at hx;rcases hx with hx|hx|hx
  ·split at hx
   ·simp at hx
   ·rw[List.mem_singleton] at hx; subst hx; exact hp k
  ·subst hx; exact hp k
  ·exact vH hp k (h k) x hx
theorem sP (h:Nat→Int):∀(k:Nat) (p:Int),(fa h k p).length≤2*k
 | 0,_=>by simp[fa]
 | k+1,p=>by
  have:=sP h k (h k);simp only[fa,List.length_append,List.length_cons]
  split
  ·simp only[List.length_nil]; omega
  ·simp only[List.length_cons,List.length_nil]; omega
section
variable {l : List Nat}
theorem uI:1≤kn l∧kn l≤6:=by unfold kn; omega
theorem zZ (row:Bool):∀q ∈ ft l row,-10≤q.1∧q.1≤10∧-10≤q.2∧q.2≤10:=fun q hq=>by
 unfold ft at hq;cases row with
 | true =>
  rw[if_pos rfl] at hq;unfold uk at hq;have hc:=uI (l:=l);rcases List.mem_cons.1 hq with rfl|hq
  ·decide
  ·rcases List.mem_cons.1 hq with rfl|hq
   ·dsimp only; omega
   ·have h1:=kq (fun i=>uD (l:=l) i) _ _ _ hq;have h2:=vH (fun i=>Ez (l:=l) i) _ _ _ hq;omega
 | false =>
  rw[if_neg (by decide)] at hq
  obtain⟨i,hi,rfl⟩:=List.mem_map.1 hq;have hi:=List.mem_range.1 (List.mem_filter.1 hi).1;have hw:=EL i hi;have hc:=uU (l:=l) i;have m1:=dV (B:=2) (C:=5) (u:=(wy i).1) (v:=cm l i) (by decide) (by omega) (by omega) (by omega) (by omega)
  have m2:=dV (B:=2) (C:=5) (u:=(wy i).2) (v:=cm l i) (by decide) (by omega) (by omega) (by omega) (by omega)
  unfold uZ
  dsimp only
  omega
theorem tj (row:Bool):(ft l row).length≤14:=by
 unfold ft;cases row with
 | true =>
  have hc:=uI (l:=l);have:=sP (hh l) (kn l) 0;rw[if_pos rfl]; unfold uk; simp only[List.length_cons]; omega
 | false =>
  rw[if_neg (by decide),List.length_map]
  have:=List.length_filter_le (kp l) (List.range 12);rw[List.length_range] at this;omega
theorem wg (row:Bool):VR (ft l row)∧0<sA (ft l row):=by
 unfold ft;cases row with
 | true =>
  have hc:=uI (l:=l);rw[if_pos rfl];exact⟨D3 (fun i=>uD (l:=l) i) (by omega),BE (fun i=>uD (l:=l) i) (by omega)⟩
 | false =>
  rw[if_neg (by decide)]
  have:=BC (p:=kp l) (by unfold kp; simp) (by unfold kp; simp) (by unfold kp; simp) (by unfold kp; simp) (m:=fun i=>cm l i) fun i=>by have:=uU (l:=l) i; omega
  exact⟨this.vr,this.sA⟩
end
def nz (l:List Nat) (x5 x6:Int) (x7:Nat) (row turned:Bool):List I2:=if turned then rv (va (1+x7) (x5,x6) (ft l row)) else va (1+x7) (x5,x6) (ft l row)
structure Dr (l:List Nat) (x5 x6:Int) (x7:Nat):Prop where
 b:∀x ∈ l,x<256
 x : -32768≤x5∧x5≤32767
 y : -32768≤x6∧x6≤32767
 s:x7<256
theorem CB {x:Nat} (hx:x<256) {v:I2} (hv : -32768≤v.1∧v.1≤32767∧-32768≤v.2∧v.2≤32767) {q:I2} (hq : -10≤q.1∧q.1≤10∧-10≤q.2∧q.2≤10) :
  (-2560≤q.1*(1+(x:Int))∧q.1*(1+(x:Int))≤2560∧-2560≤q.2*(1+(x:Int))∧q.2*(1+(x:Int))≤2560)∧Nr (kR v (lZ (1+(x:Int)) q))∧-40000≤(kR v (lZ (1+(x:Int)) q)).1∧(kR v (lZ (1+(x:Int)) q)).1≤40000∧-40000≤(kR v (lZ (1+(x:Int)) q)).2∧(kR v (lZ (1+(x:Int)) q)).2≤40000:=by
 have m1:=dV (B:=10) (C:=256) (u:=q.1) (v:=1+(x:Int)) (by decide) (by omega) (by omega) (by omega) (by omega)
 have m2:=dV (B:=10) (C:=256) (u:=q.2) (v:=1+(x:Int)) (by decide) (by omega) (by omega) (by omega) (by omega)
 unfold Nr kR lZ
 dsimp only
 omega
theorem rY (n:Nat) {x5 x6:Int} {x7:Nat} (h7:x7<256) (h5 : -32768≤x5∧x5≤32767) (h6 : -32768≤x6∧x6≤32767) (l12:List I2) (hl:l12.length<1000) :
  ∀(rest done:List I2) (m:Nat),done.length+rest.length=l12.length→rest.length<m→(∀q ∈ rest,-10≤q.1∧q.1≤10∧-10≤q.2∧q.2≤10) →
   dY (pC n l12 x5 x6) m (done++rest,1+(x7:Int),(done.length:Int))=some (done++va (1+x7) (x5,x6) rest)
 | [],done,m+1,h,_,_=>by
  rw[eU (r:=done++[])]
  ·rfl
  ·unfold pC
   dsimp only
   rw[aW (by simp at h; omega)]
 | q::rest,done,m+1,h,hm,hq=>by
  have hq':=CB h7 (v:=(x5,x6)) ⟨h5.1,h5.2,h6.1,h6.2⟩ (hq q List.mem_cons_self);have hi:done.length<l12.length:=by simp at h; omega
  have ih:=rY n h7 h5 h6 l12 hl rest (done++[kR (x5,x6) (lZ (1+x7) q)]) m (by simp at h ⊢; omega) (by simp at hm; omega) fun x hx=>hq x (List.mem_cons_of_mem _ hx)
  rw[bP (s':=((done++[kR (x5,x6) (lZ (1+x7) q)])++rest,1+(x7:Int),((done++[kR (x5,x6) (lZ (1+x7) q)]).length:Int))),ih]
  ·simp[va]
  ·have hg:(done++q::rest)[done.length]? = some (q.1,q.2):=by rw[List.getElem?_append_right (Nat.le_refl _),Nat.sub_self]; rfl
   have hs:(done++q::rest).set done.length (kR (x5,x6) (lZ (1+x7) q))=(done++[kR (x5,x6) (lZ (1+x7) q)])++rest:=by
    rw[List.set_append_right _ _ (Nat.le_refl _),Nat.sub_self]; simp
   unfold pC
   dsimp only
   rw[aR (by omega),bt hi,bO,Int.toNat_natCast,hg,aw]
   dsimp only
   have e5:IntKind.wrap .i64 x5=x5:=az (by omega) (by omega)
   have e6:IntKind.wrap .i64 x6=x6:=az (by omega) (by omega)
   rw[aw,bO,aw,bO,e5,e6,az (x:=q.1*(1+(x7:Int))) (by omega) (by omega),az (x:=q.2*(1+(x7:Int))) (by omega) (by omega),az (x:=q.1*(1+(x7:Int))+x5) (by omega) (by omega),az (x:=q.2*(1+(x7:Int))+x6) (by omega) (by omega),bj (by omega)]
   rw[show(q.1*(1+(x7:Int))+x5,q.2*(1+(x7:Int))+x6)=kR (x5,x6) (lZ (1+x7) q) from rfl,hs]
   simp
theorem su (n:Nat) (a:I2) (t:List I2) (ht:t.length<1000):∀(j m:Nat) (out:List I2),j≤t.length→j<m→out.length+j<3000→∃N,dY (rR n (a::t)) m (out,out.length,(j:Int))=some (out++(t.take j).reverse,N)
 | 0,m+1,out,_,_,_=>by
  refine⟨out.length,eU ?_⟩;unfold rR
  try dsimp only
  rw[aW (by omega)]
  simp
 | j+1,m+1,out,hj,hm,ho=>by
  have hx:(a::t)[j+1]? = some (t[j]'(by omega)):=by rw[List.getElem?_cons_succ,List.getElem?_eq_getElem (by omega)]
  obtain⟨N,ih⟩:=su n a t ht j m (out++[t[j]'(by omega)]) (by omega) (by omega) (by simp; omega)
  refine⟨N,?_⟩;rw[bP (s':=(out++[t[j]'(by omega)],(out++[t[j]'(by omega)]).length,(j:Int))),ih]
  ·have e:t.take (j+1)=t.take j++[t[j]'(by omega)]:=List.take_succ_eq_append_getElem (show j<t.length by omega)
   rw[e,List.reverse_append];simp
  ·unfold rR
   try dsimp only
   rw[aR (by omega),bt (show j+1<(a::t).length by simp; omega),bO,Int.toNat_natCast,hx,aw]
   try dsimp only
   rw[show lim (out++[((t[j]'(by omega)).1,(t[j]'(by omega)).2)]).length=true from Nat.ble_eq_true_of_le (by simp; omega),bO,az (by omega) (by omega)]
   congr 4
   omega
theorem CZ (n:Nat) {l:List I2} (h:Ok l) (hn:41<n):EY n l=some (rv l,0):=by
 have hL:=h.len;have hc:=AW.2 h;unfold EY;rw[zH n (by omega) hn,if_pos hc,aw]
 match l,h with
 | [],h=>have:=h.vr.n3; simp at this
 | a::t,h =>
  obtain⟨N,hlp⟩:=su n a t (by simp at hL; omega) t.length n [a] (Nat.le_refl _) (by simp at hL; omega) (by simp at hL ⊢; omega)
  rw[List.take_length] at hlp;have e:IntKind.wrap .i64 (((a::t).length:Int)-1)=(t.length:Int):=by
   simp only[List.length_cons]; simp at hL; rw[az (by omega) (by omega)]; omega
  rw[show(!decide ((0:Int)=0))=false from rfl,gK,show ew 0 (a::t).length=true from decide_eq_true ⟨Int.le_refl 0,by simp⟩,bO,e]
  show ob (some (a.1,a.2)) _=_
  rw[aw]
  dsimp only
  exact(congrArg (fun o=>ob o fun x:List I2 × Nat=>match x with | (l41,_)=>some (l41,(0:Int))) hlp).trans rfl
theorem tW {l:List Nat} {x5 x6:Int} {x7:Nat} (d:Dr l x5 x6 x7) (row:Bool):Ok (va (1+x7) (x5,x6) (ft l row))∧0<sA (va (1+x7) (x5,x6) (ft l row)):=by
 have hs:(0:Int)<1+(x7:Int):=by omega
 have hv:=(wg (l:=l) row).1;have ha:=(wg (l:=l) row).2;have hlen:=tj (l:=l) row;have hne:ft l row≠[]:=fun e=>by rw[e] at hv; exact absurd hv.n3 (by simp)
 have h3:VR (va (1+x7) (x5,x6) (ft l row)):=by
  rw[yI];exact(Bp (x5,x6)).vr ((BF hs).vr hv)
 refine⟨⟨by unfold va; rw[List.length_map]; omega,fun i=>?_,h3⟩,?_⟩
 ·have hm:=zC (r:=va (1+x7) (x5,x6) (ft l row)) (fun e=>by unfold va at e; rw[List.map_eq_nil_iff] at e; exact hne e) i
  unfold va at hm;obtain⟨q,hq,e⟩:=List.mem_map.1 hm;unfold va;rw[←e];exact(CB d.s (v:=(x5,x6)) ⟨d.x.1,d.x.2,d.y.1,d.y.2⟩ (zZ row q hq)).2.1
 ·rw[yI,AO (by simpa using hne)]
  have:sA ((ft l row).map (lZ (1+x7)))=(1+(x7:Int))*(1+(x7:Int))*sA (ft l row):=by
   unfold sA;rw[List.length_map,←oE];refine gF fun i _=>?_;rw[eh _ hne,eh _ hne];unfold lZ
   dsimp only
   grind
  rw[this];exact Int.mul_pos (Int.mul_pos hs hs) ha
theorem Ok.rv {l:List I2} (h:Ok l):Ok (Jd.rv l):=by
 have hn:=h.vr.n3;have hne:Jd.rv l≠[]:=fun e=>by have:=congrArg List.length e; rw[oJ] at this; simp at this; rw[this] at hn; simp at hn
 refine⟨by rw[oJ]; exact h.len,fun i=>?_,h.vr.rv⟩
 have hm:=zC hne i;have:nx (Jd.rv l) i ∈ l:=by
  match l,hm with
  | a::t,hm=>unfold Jd.rv at hm ⊢; simpa using hm
 obtain⟨j,hj,e⟩:=List.mem_iff_getElem.1 this;have e2:nx l j=nx (Jd.rv l) i:=by
  unfold nx at e ⊢;rw[Nat.mod_eq_of_lt hj,List.getD_eq_getElem?_getD,List.getElem?_eq_getElem hj]; exact e
 rw[←e2];exact h.nr j
theorem zK {l:List Nat} {x5 x6:Int} {x7:Nat} (d:Dr l x5 x6 x7) (row turned:Bool):Ok (nz l x5 x6 x7 row turned):=by
 unfold nz
 split
 ·exact(tW d row).1.rv
 ·exact(tW d row).1
theorem D4 (n:Nat) {l:List Nat} {x5 x6:Int} {x7:Nat} (d:Dr l x5 x6 x7) (row turned:Bool) (hn:41<n):Fk n l x5 x6 x7 row turned=some (nz l x5 x6 x7 row turned):=by
 have hlen:=tj (l:=l) row;have hs:=d.s;unfold Fk nz;rw[DQ n d.b x5 x6 x7 row turned (by omega),aw]
 have e1:IntKind.wrap .i64 (1+IntKind.wrap .i64 ((x7:Nat):Int))=1+(x7:Int):=by
  rw[az (x:=((x7:Nat):Int)) (by omega) (by omega),az (by omega) (by omega)]
 have L:=rY n d.s d.x d.y (ft l row) (by omega) (ft l row) [] n (by simp) (by omega) (zZ row)
 rw[List.nil_append,List.nil_append] at L;rw[e1];have L':dY (pC n (ft l row) x5 x6) n (ft l row,1+(x7:Int),0)=some (va (1+x7) (x5,x6) (ft l row)):=L;rw[L',aw];cases turned with
 | true =>
  rw[kC,CZ n (tW d row).1 hn,aw,aw,if_pos rfl]
 | false =>
  rw[gK,aw,if_neg (by decide)]
def jO (l:List I2):Prop:=∀q ∈ l,ie q.1∧ie q.2
theorem ku (x:Int):ie (IntKind.wrap .i64 x):=by
 unfold ie IntKind.wrap IntKind.bits IntKind.signed;simp only;rw[show((2:Int) ^ 64)=18446744073709551616 by rfl,show((2:Int) ^ (64-1))=9223372036854775808 by rfl]
 split
 ·rename_i h; simp at h; omega
 ·rename_i h; simp at h; omega
theorem rZ (n x3:Nat):∀(k m:Nat) (l:List I2),42≤l.length+k→l.length≤50→k<m→jO l→∃r,dY (rL n x3) m l=some r∧r.length≤50∧jO r
 | k,m+1,l,hk,hl,hm,h64=>by
  have e1:IntKind.wrap .i64 ((x3%3:Nat):Int)=((x3%3:Nat):Int):=az (by omega) (by omega)
  have e2:IntKind.wrap .i64 (39+((x3%3:Nat):Int))=39+((x3%3:Nat):Int):=az (by omega) (by omega)
  by_cases h:(l.length:Int)<39+((x3%3:Nat):Int)
  ·match k with
   | 0=>omega
   | k+1 =>
    obtain⟨r,h1,h2,h3⟩:=rZ n x3 k m (l++[(IntKind.wrap .i64 (3*(l.length:Int)),IntKind.wrap .i64 ((l.length:Int)*(l.length:Int)))]) (by simp; omega) (by simp; omega) (by omega) (fun q hq=>by
     rcases List.mem_append.1 hq with hq|hq
     ·exact h64 q hq
     ·rw[List.mem_singleton] at hq; subst hq; exact⟨ku _,ku _⟩)
    refine⟨r,?_,h2,h3⟩;rw[bP (s':=l++[(IntKind.wrap .i64 (3*(l.length:Int)),IntKind.wrap .i64 ((l.length:Int)*(l.length:Int)))]),h1];unfold rL
    try dsimp only
    rw[e1,e2,aR h,show lim (l++[(IntKind.wrap .i64 (3*(l.length:Int)),IntKind.wrap .i64 ((l.length:Int)*(l.length:Int)))]).length=true from Nat.ble_eq_true_of_le (by simp; omega),bO]
  ·refine⟨l,eU ?_,hl,h64⟩;unfold rL
   try dsimp only
   rw[e1,e2,aW h]
theorem nG {l:List I2} (h:jO l) {i:Nat} (hi:i<l.length):∃q:I2,l[i]? = some (q.1,q.2)∧ie q.1∧ie q.2 :=
 ⟨l[i],List.getElem?_eq_getElem hi,h _ (List.getElem_mem hi)⟩
theorem jL {l:List I2} (h:jO l) (i:Nat) {q:I2} (hq:ie q.1∧ie q.2):jO (l.set i q):=fun x hx=>by
 rcases List.mem_or_eq_of_mem_set hx with hx|rfl
 ·exact h x hx
 ·exact hq
theorem Ae (n:Nat) {x1 x2 x3:Nat} (h6:x2<256) (h7:x3<256) {x4 x5:Int} (h2:ie x4) (h3:ie x5) {l:List I2} (h4:jO l) (hn:60<n):∃r,Es n x1 x2 x3 x4 x5 l=some r∧r.length≤51∧jO r:=by
 have hT:(([]:List (Int × Int))++((l.drop (0:Int).toNat).take ((mi (l.length:Int) (50:Int):Int).toNat-(0:Int).toNat)))=l.take 50:=by
  show l.take ((mi (l.length:Int) (50:Int)).toNat-0)=_
  rw[iG,Nat.sub_zero];rcases Nat.le_total l.length 50 with g|g
  ·rw[List.take_of_length_le (by omega),List.take_of_length_le g]
  ·rw[show(min (l.length:Int) 50).toNat=50 by omega]
 unfold Es;rw[hT];have hlen:(l.take 50).length≤50:=by rw[List.length_take]; omega
 have h0:jO (l.take 50):=fun q hq=>h4 q (List.mem_of_mem_take hq);rw[show okB 0 (mi (l.length:Int) (50:Int)) l.length=true from decide_eq_true (by rw[iG]; omega),bO]
 generalize l.take 50=T at *;rw[show lim T.length=true from Nat.ble_eq_true_of_le (by omega),bO]
 by_cases h1:(T.length:Int)=0
 ·rw[aR h1]; exact⟨T,rfl,by omega,h0⟩
 have hp:0<T.length:=by omega
 have w2:IntKind.wrap .i64 ((x2:Nat):Int)=((x2:Nat):Int):=az (by omega) (by omega)
 have w3:IntKind.wrap .i64 ((x3:Nat):Int)=((x3:Nat):Int):=az (by omega) (by omega)
 have i2:x2%T.length<T.length:=Nat.mod_lt _ hp;have i3:x3%T.length<T.length:=Nat.mod_lt _ hp;rw[aW h1,yb h1,aw,yb h1,aw,w2,w3,jF,jF];generalize x2%T.length=i at *;generalize x3%T.length=k at *;simp only[bt i2,bt i3,bO,Int.toNat_natCast];obtain⟨qi,gi,bi⟩:=nG h0 i2;obtain⟨qk,gk,bk⟩:=nG h0 i3;simp only[gi,gk,aw]
 by_cases c0:x1%9=0
 ·rw[aR c0,aw]; exact⟨_,rfl,by rw[List.length_set]; omega,jL h0 _ ⟨h2,h3⟩⟩
 rw[aW c0]
 by_cases c1:x1%9=1
 ·rw[aR c1,aw]; exact⟨_,rfl,by rw[List.length_set]; omega,jL h0 _ bk⟩
 rw[aW c1]
 by_cases c2:x1%9=2
 ·have i3':k<(T.set i (qk.1,qk.2)).length:=by rw[List.length_set]; exact i3
  obtain⟨q,g,_⟩:=nG (jL h0 i bk) i3';rw[aR c2,g,aw];exact⟨_,rfl,by rw[List.length_set,List.length_set]; omega,jL (jL h0 _ bk) _ bi⟩
 rw[aW c2]
 by_cases c3:x1%9=3
 ·rw[aR c3,show okB 0 (i:Int) T.length=true from decide_eq_true (by omega),bO,aw]
  exact⟨_,rfl,by simp; omega,fun q hq=>h0 q (List.mem_of_mem_drop (List.mem_of_mem_take hq))⟩
 rw[aW c3]
 by_cases c4:x1%9=4
 ·rw[aR c4,show lim (T++[(x4,x5)]).length=true from Nat.ble_eq_true_of_le (by simp; omega),bO,aw]
  refine⟨_,rfl,by simp; omega,fun q hq=>?_⟩
  rcases List.mem_append.1 hq with hq|hq
  ·exact h0 q hq
  ·rw[List.mem_singleton] at hq; subst hq; exact⟨h2,h3⟩
 rw[aW c4]
 by_cases c5:x1%9=5
 ·have hm:(i+1)%T.length<T.length:=Nat.mod_lt _ hp;obtain⟨qm,gm,_⟩:=nG h0 hm;rw[aR c5,bj (by omega),yb h1,jF,bt hm,bO,Int.toNat_natCast,gm,aw]
  dsimp only
  have e:(([]:List I2)++((T.drop (0:Int).toNat).take (((i+1:Nat):Int).toNat-(0:Int).toNat)))=T.take (i+1):=by simp
  have e':(T.drop ((i+1:Nat):Int).toNat).take (T.length-((i+1:Nat):Int).toNat)=T.drop (i+1):=by simp[List.take_of_length_le]
  rw[e,e'];have h5:(T.take (i+1)).length=i+1:=by rw[List.length_take]; omega
  rw[show okB 0 ((i+1:Nat):Int) T.length=true from decide_eq_true (by omega),bO,show okB ((i+1:Nat):Int) (T.length:Int) T.length=true from decide_eq_true (by omega)]
  have b:=fun(x y:Int)=>(⟨ku x,ku y⟩:ie (IntKind.wrap .i64 x)∧ie (IntKind.wrap .i64 y));generalize hP:(IntKind.wrap .i64 (IntKind.wrap .i64 (qi.1.tdiv 2)+IntKind.wrap .i64 (qm.1.tdiv 2)),IntKind.wrap .i64 (IntKind.wrap .i64 (qi.2.tdiv 2)+IntKind.wrap .i64 (qm.2.tdiv 2)))=P;have hPb:ie P.1∧ie P.2:=by rw[←hP]; exact b _ _
  have l1:(T.take (i+1)++[P]).length=i+2:=by rw[List.length_append,h5]; rfl
  have l2:(T.take (i+1)++[P]++T.drop (i+1)).length=T.length+1:=by rw[List.length_append,l1,List.length_drop]; omega
  rw[show lim (T.take (i+1)).length=true from Nat.ble_eq_true_of_le (by omega),show lim (T.take (i+1)++[P]).length=true from Nat.ble_eq_true_of_le (by omega),show lim (T.take (i+1)++[P]++T.drop (i+1)).length=true from Nat.ble_eq_true_of_le (by omega)]
  simp only[bO];rw[aw];refine⟨_,rfl,by rw[l2]; omega,fun q hq=>?_⟩
  rcases List.mem_append.1 hq with hq|hq
  ·rcases List.mem_append.1 hq with hq|hq
   ·exact h0 q (List.mem_of_mem_take hq)
   ·rw[List.mem_singleton] at hq; subst hq; exact hPb
  ·exact h0 q (List.mem_of_mem_drop hq)
 rw[aW c5]
 by_cases c6:x1%9=6
 ·obtain⟨r,g0,g2,g1⟩:=rZ n x3 50 n T (by omega) (by omega) (by omega) h0
  rw[aR c6,g0,aw,aw];exact⟨r,rfl,by omega,g1⟩
 rw[aW c6]
 by_cases c7:x1%9=7
 ·have b2:=jL h0 i (q:=(qi.2,qi.2)) ⟨bi.2,bi.2⟩;obtain⟨q,g,bq⟩:=nG b2 (i:=i) (by rw[List.length_set]; exact i2)
  rw[aR c7,g,aw];exact⟨_,rfl,by rw[List.length_set,List.length_set]; omega,jL b2 _ ⟨bq.1,bi.1⟩⟩
 rw[aW c7,aw];exact⟨T,rfl,by omega,h0⟩
theorem CP (n:Nat) {l:List I2} (h64:jO l):∃r,EF n l=some r∧r.length≤51∧jO r:=by
 unfold EF;rw[show okB 0 (mi (l.length:Int) (50:Int)) l.length=true from decide_eq_true (by rw[iG]; omega),bO]
 refine⟨_,rfl,?_,fun q hq=>h64 q (List.mem_of_mem_drop (List.mem_of_mem_take hq))⟩;rw[List.length_take,iG]; omega
theorem FZ {p:I2} (h:Nr p):ie p.1∧ie p.2:=by unfold Nr at h; unfold ie; omega
theorem Ok.pt {l:List I2} (h:Ok l):jO l:=fun q hq=>by
 obtain⟨j,hj,e⟩:=List.mem_iff_getElem.1 hq;have e2:nx l j=q:=by
  unfold nx;rw[Nat.mod_eq_of_lt hj,List.getD_eq_getElem?_getD,List.getElem?_eq_getElem hj]; exact e
 rw[←e2];exact FZ (h.nr j)
structure Bd (x2 x3:Nat) (x4 x5:Int):Prop where
 at_:x2<256
 to:x3<256
 x:ie x4
 y:ie x5
theorem DO (n:Nat) {raw:List I2} (hr:jO raw) {l:List Nat} {x5 x6:Int} {x7:Nat} (d:Dr l x5 x6 x7) (row turned:Bool) {w1 a1 t1 w2 a2 t2:Nat} {p1 q1 p2 q2:Int} (b1:Bd a1 t1 p1 q1) (b2:Bd a2 t2 p2 q2) (hn:60<n) :
  ∃r s t,Fg n raw l x5 x6 x7 row turned w1 a1 t1 p1 q1 w2 a2 t2 p2 q2=some (nz l x5 x6 x7 row turned,r,s,t)∧∀k ∈ [nz l x5 x6 x7 row turned,r,s,t],k.length≤51∧jO k:=by
 have h0:=zK d row turned;obtain⟨r,g1,g2,g3⟩:=Ae n (x1:=w1) b1.at_ b1.to b1.x b1.y h0.pt hn;obtain⟨s,k1,k2,k3⟩:=Ae n (x1:=w2) b2.at_ b2.to b2.x b2.y g3 hn;obtain⟨t,j1,j2,j3⟩:=CP n hr;refine⟨r,s,t,?_,fun k hk=>?_⟩
 ·unfold Fg;rw[D4 n d row turned (by omega),aw,g1,aw,k1,aw,j1,aw]
 ·have:=h0.len;simp only[List.mem_cons,List.not_mem_nil,or_false] at hk;rcases hk with rfl|rfl|rfl|rfl
  ·exact⟨by omega,h0.pt⟩
  ·exact⟨g2,g3⟩
  ·exact⟨k2,k3⟩
  ·exact⟨j2,j3⟩
theorem Gh {B:Int→Option (Int ⊕ (Unit ⊕ Unit))} (hB:∀i:Nat,i<4→B (i:Int)=some (.inl ((i+1:Nat):Int))) (hE:B 4=some (.inr (.inr ()))) {n:Nat} (hn:4<n):dY B n 0=some (.inr ()):=by
 obtain⟨n,rfl⟩:∃m,n=m+5:=⟨n-5,by omega⟩
 rw[show(0:Int)=((0:Nat):Int) from rfl,bP (hB 0 (by decide)),bP (hB 1 (by decide)),bP (hB 2 (by decide)),bP (hB 3 (by decide)),show((3+1:Nat):Int)=4 from rfl,eU hE]
theorem yY (n:Nat) {raw:List I2} (hr:jO raw) {l:List Nat} {x5 x6:Int} {x7:Nat} (d:Dr l x5 x6 x7) (row turned:Bool) {w1 a1 t1 w2 a2 t2:Nat} {p1 q1 p2 q2:Int} (b1:Bd a1 t1 p1 q1) (b2:Bd a2 t2 p2 q2) (hn:60<n) :
  FP n raw l x5 x6 x7 row turned w1 a1 t1 p1 q1 w2 a2 t2 p2 q2=some true:=by
 obtain⟨r,s,t,h1,h2⟩:=DO n hr d row turned (w1:=w1) (w2:=w2) b1 b2 hn;unfold FP;rw[h1,aw]
 try dsimp only
 generalize nz l x5 x6 x7 row turned=o at *;have hl:∀i:Nat,i<4→∃k,[o,r,s,t][i]? = some k∧k.length≤51∧jO k:=fun i hi=>by
  refine⟨[o,r,s,t][i]'hi,List.getElem?_eq_getElem hi,h2 _ (List.getElem_mem _)⟩
 have L2:dY (tT n o r s t) n 0=some (.inr ()):=by
  refine Gh (fun i hi=>?_) ?_ (by omega)
  rotate_left
  ·unfold tT
   try dsimp only
   rw[aW (by decide)]
  obtain⟨k,e,h3,h4⟩:=hl i hi;unfold tT
  try dsimp only
  rw[aR (by omega),bt hi,bO,Int.toNat_natCast,e,aw,yq n h4 (by omega) (by omega),aw,yR n (by omega) (by omega),aw]
  try dsimp only
  rw[Dp n h4 (by omega) (by omega),zH n (by omega) (by omega),aw,aw,decide_eq_true (rfl:(iw k).1=_),decide_eq_true (rfl:(iw k).2=_),decide_eq_true rfl,Bool.not_true,gK,gK,aw,gK]
  have L1:dY (tN n o r s t k) n 0=some (.inr ()):=by
   refine Gh (fun j hj=>?_) ?_ (by omega)
   rotate_left
   ·unfold tN
    try dsimp only
    rw[aW (by decide)]
   obtain⟨k',e',h3',_⟩:=hl j hj;unfold tN
   try dsimp only
   rw[aR (by omega),bt hj,bO,Int.toNat_natCast,e',aw,DC n (by omega) (by omega),D7 n (by omega) (by omega),aw,aw,bj (by omega)]
   cases decide (k=k')<;>rfl
  rw[L1,aw]
  try dsimp only
  rw[bj (by omega)]
 rw[L2,aw]
 rfl
end Go.Proofs.YthmekkhpddehjaaGreat
end
