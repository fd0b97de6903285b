/- A part of the proof. -/
import Derived.Test.YthmekkhpddehjaaGreatRo5
section
namespace Go.Proofs.YthmekkhpddehjaaGreat
open Go Go.Ab Go.Ab.W Go.Ab.B Jd
def k8 (l:List I2) (i:Nat):Option (Int ⊕ Unit):=if Fa (nx l i) then some (.inl (i:Int)) else none
def fX (l:List I2) (i:Nat):Option (Int ⊕ Unit):=if nx l i=nx l (i+1) then some (.inl (i:Int)) else none
def gP (l:List I2) (i:Nat):Option (Int ⊕ Unit):=if ti (nx l (i+l.length-1)) (nx l i) (nx l (i+1))=0∧di (nx l (i+l.length-1)) (nx l i) (nx l (i+1))<0 then some (.inl (i:Int)) else none
def tV (l:List I2) (i j:Nat):Prop:=¬(j=0∧i=l.length-1)∧Ao (nx l j) (nx l (j+1)) (nx l i) (nx l (i+1))≠0
open Classical in
noncomputable def gJ (l:List I2) (i:Nat):Option (Int ⊕ Unit):=if ∃j,j+1<i∧tV l i j then some (.inl (i:Int)) else none
noncomputable def py (l:List I2):Int × Int :=
 if l.length<3∨40<l.length then(1,0) else
 match dj (k8 l) (.inr ()) l.length 0 with
 | .inl v=>(2,v)
 | .inr _=>match dj (fX l) (.inr ()) l.length 0 with
  | .inl v=>(3,v)
  | .inr _=>match dj (gP l) (.inr ()) l.length 0 with
   | .inl v=>(4,v)
   | .inr _=>match dj (gJ l) (.inr ()) l.length 0 with
    | .inl v=>(5,v)
    | .inr _=>(0,0)
section
variable {l : List I2} (n : Nat)
theorem gD (p q:I2):(decide (p.1=q.1) && decide (p.2=q.2))=decide (p=q):=by
 rw[←Bool.decide_and,decide_eq_decide]; exact⟨fun h=>Prod.ext h.1 h.2,fun h=>by subst h; exact⟨rfl,rfl⟩⟩
theorem Ac (h64:∀i,kT (nx l i).1∧kT (nx l i).2) (hn:l.length<n) (hl:l.length<100):cy (tt n l) n 0=some (dj (k8 l) (.inr ()) l.length 0):=by
 refine fT (len:=l.length) (fun i hi=>?_) ?_ l.length 0 n (by omega) hn
 ·unfold tt k8
  dsimp only
  rw[bj (by omega),aX hi,bA,dL hi,au]
  dsimp only
  rw[ug n (h64 i).1 (h64 i).2,au,aY (by omega)]
  by_cases h:Fa (nx l i)
  ·rw[bj (show Fa ((nx l i).1,(nx l i).2) from h),if_pos h]
  ·rw[bl (show ¬Fa ((nx l i).1,(nx l i).2) from h),if_neg h]
 ·unfold tt
  dsimp only
  rw[bl (by omega)]
theorem fy (i:Nat) (hi:i<l.length) (hl:l.length<100) {β:Type} (K:Int × Int→Option β) :
  gd (decide ((l.length:Int)≠0)) (gd (bX (Int.tmod ((i+1:Nat):Int) (l.length:Int)) l.length) (ob (l[(Int.tmod ((i+1:Nat):Int) (l.length:Int)).toNat]?) K))=K ((nx l (i+1)).1,(nx l (i+1)).2):=by
 have hm:(i+1)%l.length<l.length:=Nat.mod_lt _ (by omega)
 rw[decide_eq_true (show((l.length:Nat):Int)≠0 by omega),bA,q8,aX hm,bA,dL hm,au,p6]
theorem Ad (hn:l.length<n) (hl:l.length<100):cy (sC n l) n 0=some (dj (fX l) (.inr ()) l.length 0):=by
 refine fT (len:=l.length) (fun i hi=>?_) ?_ l.length 0 n (by omega) hn
 ·unfold sC fX
  dsimp only
  rw[bj (by omega),aX hi,bA,dL hi,au]
  dsimp only
  rw[aY (by omega),fy i hi hl]
  dsimp only
  rw[gD]
  by_cases h:nx l i=nx l (i+1)
  ·rw[bj h,if_pos h]; rfl
  ·rw[bl h,if_neg h]; rfl
 ·unfold sC
  dsimp only
  rw[bl (by omega)]
theorem yw (hnr:∀i,Nr (nx l i)) (hn:l.length<n) (hl:l.length<100):cy (sY n l) n 0=some (dj (gP l) (.inr ()) l.length 0):=by
 refine fT (len:=l.length) (fun i hi=>?_) ?_ l.length 0 n (by omega) hn
 ·have hm:(i+l.length-1)%l.length<l.length:=Nat.mod_lt _ (by omega)
  have e1:IntKind.wrap .i64 ((IntKind.wrap .i64 ((i:Int)+(l.length:Int)))-1)=((i+l.length-1:Nat):Int):=by
   rw[aG (x:=(i:Int)+(l.length:Int)) (by omega) (by omega),aG (by omega) (by omega)]; omega
  unfold sY gP
  dsimp only
  rw[bj (by omega),aX hi,bA,dL hi,au]
  dsimp only
  rw[aY (by omega),fy i hi hl]
  dsimp only
  rw[e1,decide_eq_true (show((l.length:Nat):Int)≠0 by omega),bA,q8,au,aX hm,bA,dL hm,p6,au]
  dsimp only
  rw[hM n (hnr _) (hnr _) (hnr _),au,au,au,GJ (hnr _) (hnr _) (hnr _),hZ,au,←Bool.decide_and]
  by_cases h:ti (nx l (i+l.length-1)) (nx l i) (nx l (i+1))=0∧di (nx l (i+l.length-1)) (nx l i) (nx l (i+1))<0
  ·rw[bj (show _∧_ from⟨jd.2 h.1,h.2⟩),if_pos h]; rfl
  ·rw[bl (fun g=>h ⟨jd.1 g.1,g.2⟩),if_neg h]; rfl
 ·unfold sY
  dsimp only
  rw[bl (by omega)]
end
section
variable {l : List I2} (n : Nat)
open Classical in
noncomputable def yj {ρ:Type} (l:List I2) (r:ρ) (i j:Nat):Option ρ:=if tV l i j then some r else none
theorem Eo {ρ:Type} {r e:ρ} (_:r≠e) {i:Nat}:(dj (yj l r i) e (i-1) 0=r∧∃j,j+1<i∧tV l i j)∨(dj (yj l r i) e (i-1) 0=e∧¬∃j,j+1<i∧tV l i j):=by
 classical
 rcases ei (f:=yj l r i) (e:=e) (i-1) 0 with⟨h1,h2⟩|⟨j,_,h2,h3⟩
 ·refine .inr ⟨h2,?_⟩;rintro⟨j,hj,hh⟩;have:=h1 j (by omega) (by omega)
  unfold yj at this;rw[if_pos hh] at this;cases this
 ·unfold yj at h3
  split at h3
  ·rename_i hh;exact .inl ⟨(Option.some.inj h3).symm,j,by omega,hh⟩
  ·cases h3
theorem yP (hnr:∀i,Nr (nx l i)) (hst:∀i,nx l i≠nx l (i+1)) {i:Nat} (hi:i<l.length) (hn:l.length<n) (h5:5<n) (hl:l.length<100) :
  cy (sI n l (i:Int) (nx l i).1 (nx l i).2 (nx l (i+1)).1 (nx l (i+1)).2) n 0=some (dj (yj l (.inr (.inl ())) i) (.inl ()) (i-1) 0):=by
 classical
 have hne:l≠[]:=by rintro rfl; cases hi
 have e0:IntKind.wrap .i64 ((i:Int)-1)=(i:Int)-1:=aG (by omega) (by omega)
 refine fT (len:=i-1) (fun j hj=>?_) ?_ (i-1) 0 n (by omega) (by omega)
 ·have e1:IntKind.wrap .i64 ((l.length:Int)-1)=(l.length:Int)-1:=aG (by omega) (by omega)
  unfold sI yj
  dsimp only
  rw[bj (by omega),aX (by omega),bA,dL (by omega),au]
  dsimp only
  rw[aY (by omega),fy j (by omega) hl]
  try dsimp only
  rw[e0,bl (by omega),hZ,au,e1,←Bool.decide_and]
  by_cases h:(j:Int)=0∧(i:Int)=(l.length:Int)-1
  ·rw[bj h,au,if_neg (fun g:tV l i j=>g.1 ⟨by omega,by omega⟩)]
  ·rw[bl h,D9 n _ _ (hnr _) (hnr _) (hnr _) (hnr _) (hst _) (hst _) h5,BI,au]
   by_cases g:Ao (nx l j) (nx l (j+1)) (nx l i) (nx l (i+1))=0
   ·rw[decide_eq_true g,Bool.not_true,ey,au,if_neg (fun k:tV l i j=>k.2 g)]
   ·rw[decide_eq_false g,Bool.not_false,jr,au,if_pos (show tV l i j from⟨fun k=>h ⟨by omega,by omega⟩,g⟩)]
 ·unfold sI
  dsimp only
  rw[bj (by omega),aX (by omega),bA,dL (by omega),au]
  dsimp only
  rw[aY (by omega),fy (i-1) (by omega) hl]
  try dsimp only
  rw[e0,bj (by omega),au]
theorem yC (hnr:∀i,Nr (nx l i)) (hst:∀i,nx l i≠nx l (i+1)) (hn:l.length<n) (h5:5<n) (hl:l.length<100):cy (sR n l) n 0=some (dj (gJ l) (.inr ()) l.length 0):=by
 classical
 refine fT (len:=l.length) (fun i hi=>?_) ?_ l.length 0 n (by omega) hn
 ·unfold sR gJ
  dsimp only
  rw[bj (by omega),aX hi,bA,dL hi,au]
  dsimp only
  rw[aY (by omega),fy i hi hl]
  dsimp only
  rw[au,yP n hnr hst hi hn h5 hl,au];rcases Eo (l:=l) (r:=(.inr (.inl ()):Unit ⊕ (Unit ⊕ Unit))) (e:=.inl ()) (by simp) (i:=i) with⟨h1,h2⟩|⟨h1,h2⟩
  ·rw[h1,if_pos h2]; rfl
  ·rw[h1,if_neg h2]; rfl
 ·unfold sR
  dsimp only
  rw[bl (by omega)]
theorem kA {f:Nat→Option (Int ⊕ Unit)} (hf:∀j r,f j=some r→r≠.inr ()) {k:Nat} (h:dj f (.inr ()) k 0 = .inr ()):∀j,j<k→f j=none:=by
 rcases ei (f:=f) (e:=.inr ()) k 0 with⟨h1,_⟩|⟨j,_,_,h3⟩
 ·exact fun j hj=>h1 j (by omega) (by omega)
 ·rw[h] at h3; exact absurd rfl (hf j _ h3)
theorem z8 {P:I2→Prop} (hl:0<l.length) (h:∀i,i<l.length→P (nx l i)) (i:Nat):P (nx l i):=by
 rw[←p6]; exact h _ (Nat.mod_lt _ hl)
theorem mA {i:Nat}:nx l (i%l.length+1)=nx l (i+1):=by unfold nx; rw[Nat.mod_add_mod]
theorem zO (hl:0<l.length) (h:dj (k8 l) (.inr ()) l.length 0 = .inr ()):∀i,Nr (nx l i):=by
 refine z8 hl fun i hi=>?_;have:=kA (fun j r hr=>by unfold k8 at hr; split at hr<;>cases hr; simp) h i hi
 unfold k8 at this
 split at this
 ·cases this
 ·rename_i g; exact wJ.1 g
theorem AA (hl:0<l.length) (h:dj (fX l) (.inr ()) l.length 0 = .inr ()):∀i,nx l i≠nx l (i+1):=fun i=>by
 have:=kA (fun j r hr=>by unfold fX at hr; split at hr<;>cases hr; simp) h (i%l.length) (Nat.mod_lt _ hl)
 unfold fX at this
 split at this
 ·cases this
 ·rename_i g;rw[p6,mA] at g;exact g
theorem B9 (v:Int) (h:dj (k8 l) (.inr ()) l.length 0 = .inl v):0≤v:=by
 rcases ei (f:=k8 l) (e:=.inr ()) l.length 0 with⟨_,h2⟩|⟨j,_,_,h3⟩
 ·rw[h] at h2; cases h2
 ·rw[h] at h3;unfold k8 at h3
  split at h3
  ·cases h3; omega
  ·cases h3
theorem DM (h64:∀x ∈ l,kT x.1∧kT x.2) (hn:l.length<n) (h5:41<n):F1 n l=some (py l):=by
 unfold F1 py;rw[yQ,au,←Bool.decide_or]
 by_cases h:l.length<3∨40<l.length
 ·rw[bj (by omega),if_pos h]
 ·have h64':∀i,kT (nx l i).1∧kT (nx l i).2:=z8 (P:=fun x=>kT x.1∧kT x.2) (by omega) fun i hi=>by
   refine h64 _ ?_;unfold nx;rw[Nat.mod_eq_of_lt hi,List.getD_eq_getElem?_getD,List.getElem?_eq_getElem hi];exact List.getElem_mem hi
  rw[bl (by omega),if_neg h,Ac n h64' hn (by omega),au]
  cases h1:dj (k8 l) (.inr ()) l.length 0 with
  | inl v =>
   have:=B9 v h1
   dsimp only
   rw[au,bj this]
  | inr _ =>
   have hnr:=zO (by omega) h1
   dsimp only
   rw[au,bl (by omega),au,Ad n hn (by omega),au]
   cases h2:dj (fX l) (.inr ()) l.length 0 with
   | inl v=>rfl
   | inr _ =>
    have hst:=AA (by omega) h2
    dsimp only
    rw[au]
    dsimp only
    rw[au,yw n hnr hn (by omega),au]
    cases h3:dj (gP l) (.inr ()) l.length 0 with
    | inl v=>rfl
    | inr _ =>
     dsimp only
     rw[au]
     dsimp only
     rw[au,yC n hnr hst hn (by omega) (by omega),au]
     cases h4:dj (gJ l) (.inr ()) l.length 0<;>rfl
def rz (l:List I2):Prop:=(py l).1≤0
open Classical in
theorem uT (h64:∀x ∈ l,kT x.1∧kT x.2) (hn:l.length<n) (h5:41<n):Cy n l=some (if rz l then 0 else 140):=by
 unfold Cy rz;rw[DM n h64 hn h5,au];obtain⟨a,b⟩:=py l
 dsimp only
 by_cases h:0<a
 ·rw[bj h,if_neg (by omega)]
 ·rw[bl h,if_pos (by omega)]
end
def w7 (a b:List I2) (i:Nat):Option (Unit ⊕ Unit):=if nx a i≠nx b i then some (.inl ()) else none
theorem Aa {a b:List I2} (h:a.length=b.length):dj (w7 a b) (.inr ()) a.length 0=if a=b then .inr () else .inl ():=by
 rcases ei (f:=w7 a b) (e:=.inr ()) a.length 0 with⟨h1,h2⟩|⟨j,_,h2,h3⟩
 ·rw[h2,if_pos];refine List.ext_getElem h fun i h3 h4=>?_;have:=h1 i (by omega) (by omega)
  unfold w7 at this
  split at this
  ·cases this
  ·rename_i g;have g:nx a i=nx b i:=Decidable.not_not.1 g;unfold nx at g;rw[Nat.mod_eq_of_lt h3,Nat.mod_eq_of_lt h4,List.getD_eq_getElem?_getD,List.getD_eq_getElem?_getD,List.getElem?_eq_getElem h3,List.getElem?_eq_getElem h4] at g;exact g
 ·have h4:w7 a b j=if nx a j≠nx b j then some (.inl ()) else none:=rfl
  rw[h4] at h3
  split at h3
  ·rename_i g;rw[←Option.some.inj h3,if_neg];rintro rfl;exact g rfl
  ·cases h3
theorem Em (n:Nat) {a b:List I2} (hn:a.length<n) (hl:a.length<100000):EA n a b=some (decide (a=b)):=by
 unfold EA
 by_cases h:a.length=b.length
 ·rw[decide_eq_true (show(a.length:Int)=b.length by omega),Bool.not_true,ey]
  have:cy (rN n a b) n 0=some (dj (w7 a b) (.inr ()) a.length 0):=by
   refine fT (len:=a.length) (fun i hi=>?_) ?_ a.length 0 n (by omega) hn
   ·unfold rN w7
    dsimp only
    rw[bj (by omega),aX hi,bA,dL hi,au]
    dsimp only
    rw[aX (h ▸ hi),bA,dL (h ▸ hi),au]
    dsimp only
    rw[gD,aY (by omega)]
    by_cases g:nx a i=nx b i
    ·rw[decide_eq_true g,Bool.not_true,ey,if_neg (by simpa using g)]
    ·rw[decide_eq_false g,Bool.not_false,jr,if_pos g]
   ·unfold rN
    dsimp only
    rw[bl (by omega)]
  rw[this,au,Aa h]
  by_cases g:a=b
  ·rw[if_pos g,decide_eq_true g]
  ·rw[if_neg g,decide_eq_false g]
 ·rw[decide_eq_false (show ¬(a.length:Int)=b.length by omega),Bool.not_false,jr,decide_eq_false]
  rintro rfl;exact h rfl
end Go.Proofs.YthmekkhpddehjaaGreat
end

section
namespace Jd
theorem gV (f:I2→I2) {r:List I2} (h:r≠[]) (i:Nat):nx (r.map f) i=f (nx r i):=by
 have hl:=List.length_pos_iff.2 h;unfold nx;rw[List.length_map];have hi:i%r.length<r.length:=Nat.mod_lt _ hl;rw[List.getD_eq_getElem?_getD,List.getD_eq_getElem?_getD,List.getElem?_map,List.getElem?_eq_getElem hi]; rfl
theorem zN {r:List I2}:nx r r.length=nx r 0:=by unfold nx; rw[Nat.mod_self,Nat.zero_mod]
def DC (r:List I2):Int:=cp r.length fun i=>(nx r i).1*(nx r (i+1)).2-(nx r i).2*(nx r (i+1)).1
theorem rD (n:Nat) (f g:Nat→Int):cp n (fun i=>f i+g i)=cp n f+cp n g:=by
 induction n with
 | zero=>rfl
 | succ n ih=>simp only[cp]; rw[ih]; omega
theorem tF (c:Int) (n:Nat) (f:Nat→Int):cp n (fun i=>c*f i)=c*cp n f:=by
 induction n with
 | zero=>simp[cp]
 | succ n ih=>simp only[cp]; rw[ih,Int.mul_add]
theorem sF (r:List I2) (o:I2):cp r.length (fun i=>((nx r i).1-o.1)*((nx r (i+1)).2-o.2)-((nx r i).2-o.2)*((nx r (i+1)).1-o.1))=DC r:=by
 have t1:=nO r.length fun i=>(nx r i).1;have t2:=nO r.length fun i=>(nx r i).2;rw[zN] at t1 t2;have e:cp r.length (fun i=>((nx r i).1-o.1)*((nx r (i+1)).2-o.2)-((nx r i).2-o.2)*((nx r (i+1)).1-o.1)) =
   cp r.length (fun i=>((nx r i).1*(nx r (i+1)).2-(nx r i).2*(nx r (i+1)).1)+(o.2*((nx r (i+1)).1-(nx r i).1) + -o.1*((nx r (i+1)).2-(nx r i).2))) :=
  oN fun i _=>by grind
 rw[e,rD,rD,tF,tF,t1,t2];unfold DC
 grind
structure Chg (f:I2→I2) (k d:Int):Prop where
 inj:∀{a b},f a=f b→a=b
 ti:∀a b c,ti (f a) (f b) (f c)=k*ti a b c
 di:∀a b c,di (f a) (f b) (f c)=d*di a b c
 kp:k≠0
 dp:0<d
 btw:∀{a b c},gq (f a) (f b) (f c)↔gq a b c
theorem jf {k x:Int} (h:0<k):0<k*x↔0<x:=⟨fun g=>Int.pos_of_mul_pos_right g h,fun g=>Int.mul_pos h g⟩
theorem fb {k x:Int} (h:0<k):k*x<0↔x<0:=by
 have:=jf (x:=-x) h;rw[Int.mul_neg] at this;omega
section
variable {f : I2 → I2} {k d : Int}
theorem Chg.G6 (h:Chg f k d) {a b c d x:I2}:mF (f a) (f b) (f c) (f d) (f x)↔mF a b c d x:=by
 unfold mF;rw[h.btw,h.btw];constructor
 ·rintro⟨g,e⟩;exact⟨by rcases g with g|g|g|g<;>simp[h.inj g],e⟩
 ·rintro⟨g,e⟩;exact⟨by rcases g with g|g|g|g<;>simp[g],e⟩
theorem Chg.wI (h:Chg f k d) {a b c d:I2}:z7 (f a) (f b) (f c) (f d)↔z7 a b c d:=by
 unfold z7;rw[h.ti,h.ti,h.ti,h.ti];rcases Int.lt_or_gt_of_ne h.kp with g|g
 ·have e:∀x,k*x = -((-k)*x):=fun x=>by rw[Int.neg_mul]; omega
  have p:∀{x},0<k*x↔x<0:=fun {x}=>by rw[e]; have:=fb (k:=-k) (x:=x) (by omega); omega
  have n:∀{x},k*x<0↔0<x:=fun {x}=>by rw[e]; have:=jf (k:=-k) (x:=x) (by omega); omega
  rw[p,p,p,p,n,n,n,n]; omega
 ·rw[jf g,jf g,jf g,jf g,fb g,fb g,fb g,fb g]
theorem yp {a b c d:I2}:NM a b c d↔(∀x,¬mF a b c d x)∧¬z7 a b c d:=Iff.rfl
theorem Chg.nm (h:Chg f k d) {a b c d:I2}:NM (f a) (f b) (f c) (f d)↔NM a b c d:=by
 rw[yp,yp,h.wI];refine and_congr_left fun _=>⟨fun g x hx=>g (f x) (h.G6.2 hx),fun g x hx=>?_⟩;have:∃y,x=f y:=by
  rcases hx.1 with e|e|e|e<;>exact⟨_,e⟩
 obtain⟨y,rfl⟩:=this;exact g y (h.G6.1 hx)
theorem Chg.vr (h:Chg f k d) {r:List I2} (v:VR r):VR (r.map f):=by
 have hr:r≠[]:=fun e=>by have:=v.n3; rw[e] at this; simp at this
 refine⟨by rw[List.length_map]; exact v.n3,fun i=>?_,fun i=>?_,fun j i h1 h2 h3=>?_⟩
 ·rw[gV f hr,gV f hr];exact fun e=>v.still i (h.inj e)
 ·rw[gV f hr,gV f hr,gV f hr,h.ti,h.di];rintro⟨e1,e2⟩;refine v.vK i ⟨?_,(fb h.dp).1 e2⟩;rcases Int.mul_eq_zero.1 e1 with e|e
  ·exact absurd e h.kp
  ·exact e
 ·rw[List.length_map] at h2 h3;rw[gV f hr,gV f hr,gV f hr,gV f hr,h.nm];exact v.meet j i h1 h2 h3
end
theorem dS (r:List I2) {i j:Nat} (h:i%r.length=j%r.length):nx r i=nx r j:=by unfold nx; rw[h]
def gu (α β γ:Int) (x:I2):Int:=α*x.1+β*x.2+γ
theorem CR {α β γ:Int} {a b x:I2} (h:ti a b x=0):(b.1-a.1)*gu α β γ x=(b.1-x.1)*gu α β γ a+(x.1-a.1)*gu α β γ b:=by
 have e:(b.1-a.1)*gu α β γ x-((b.1-x.1)*gu α β γ a+(x.1-a.1)*gu α β γ b)=β*ti a b x:=by unfold gu ti; grind
 rw[h,Int.mul_zero] at e; omega
theorem CY {α β γ:Int} {a b x:I2} (h:ti a b x=0):(b.2-a.2)*gu α β γ x=(b.2-x.2)*gu α β γ a+(x.2-a.2)*gu α β γ b:=by
 have e:(b.2-a.2)*gu α β γ x-((b.2-x.2)*gu α β γ a+(x.2-a.2)*gu α β γ b) = -α*ti a b x:=by unfold gu ti; grind
 rw[h,Int.mul_zero] at e; omega
theorem mZ {u v w s t z:Int} (hw:0<w) (hu:0≤u) (hv:0≤v) (e:u+v=w) (hs:0<s) (ht:0<t) (h:w*z=u*s+v*t):0<z:=by
 have h1:0≤u*s:=Int.mul_nonneg hu (Int.le_of_lt hs);have h2:0≤v*t:=Int.mul_nonneg hv (Int.le_of_lt ht);have:0<w*z:=by
  rcases Int.lt_or_eq_of_le hu with g|g
  ·have:=Int.mul_pos g hs; omega
  ·have:=Int.mul_pos (show 0<v by omega) ht; omega
 exact Int.pos_of_mul_pos_right this hw
theorem qx {α β γ:Int} {a b x:I2} (h:gq a b x) (ha:0<gu α β γ a) (hb:0<gu α β γ b):0<gu α β γ x:=by
 obtain⟨h0,h1,h2,h3,h4⟩:=h;rcases Int.lt_trichotomy a.1 b.1 with g|g|g
 ·exact mZ (w:=b.1-a.1) (u:=b.1-x.1) (v:=x.1-a.1) (by omega) (by omega) (by omega) (by omega) ha hb (CR h0)
 ·rcases Int.lt_trichotomy a.2 b.2 with k|k|k
  ·exact mZ (w:=b.2-a.2) (u:=b.2-x.2) (v:=x.2-a.2) (by omega) (by omega) (by omega) (by omega) ha hb (CY h0)
  ·have:x=a:=Prod.ext (by omega) (by omega)
   rw[this]; exact ha
  ·refine mZ (w:=a.2-b.2) (u:=a.2-x.2) (v:=x.2-b.2) (by omega) (by omega) (by omega) (by omega) hb ha (CY ?_)
   rw[kF,h0]; rfl
 ·refine mZ (w:=a.1-b.1) (u:=a.1-x.1) (v:=x.1-b.1) (by omega) (by omega) (by omega) (by omega) hb ha (CR ?_)
  rw[kF,h0]; rfl
theorem qD (α β γ:Int) (x:I2):gu (-α) (-β) (-γ) x = -gu α β γ x:=by unfold gu; grind
theorem DB {α β γ:Int} {a b c d:I2} (ha:0<gu α β γ a) (hb:0<gu α β γ b) (hc:gu α β γ c<0) (hd:gu α β γ d<0):NM a b c d:=by
 refine⟨fun x hx=>?_,fun hx=>?_⟩
 ·have h1:=qx hx.2.1 ha hb;have h2:=qx (α:=-α) (β:=-β) (γ:=-γ) hx.2.2 (by rw[qD]; omega) (by rw[qD]; omega)
  rw[qD] at h2; omega
 ·have e:ti c d b*gu α β γ a-ti c d a*gu α β γ b = -(ti a b d*gu α β γ c-ti a b c*gu α β γ d):=by unfold gu ti; grind
  have f:=B7 a b c d;generalize gu α β γ a=la at *;generalize gu α β γ b=lb at *;generalize gu α β γ c=lc at *;generalize gu α β γ d=ld at *;generalize ti a b c=s at *;generalize ti a b d=t at *;generalize ti c d a=u at *;generalize ti c d b=v at *;have pp:∀{x y:Int},0<x→0<y→0<x*y:=fun h g=>Int.mul_pos h g;have pn:∀{x y:Int},0<x→y<0→x*y<0:=fun h g=>Int.mul_neg_of_pos_of_neg h g;have np:∀{x y:Int},x<0→0<y→x*y<0:=fun h g=>Int.mul_neg_of_neg_of_pos h g;have nn:∀{x y:Int},x<0→y<0→0<x*y:=fun h g=>Int.mul_pos_of_neg_of_neg h g;obtain⟨h1|h1,h2|h2⟩:=hx
  ·have:=np h2.2 hb; omega
  ·have a1:=pp h2.2 ha; have a2:=np h2.1 hb; have a3:=nn h1.2 hc; have a4:=pn h1.1 hd; omega
  ·have a1:=np h2.2 ha; have a2:=pp h2.1 hb; have a3:=pn h1.2 hc; have a4:=nn h1.1 hd; omega
  ·have:=h1.1; omega
def wI (a b:I2):Int:=a.1*b.2-a.2*b.1
theorem yn {a b c:I2} (h1:0<wI a b) (h2:0<wI b c):¬(ti a b c=0∧di a b c<0):=by
 rintro⟨g1,g2⟩;have e:((b.1-a.1)*(b.1-a.1)+(b.2-a.2)*(b.2-a.2))*wI b c=di a b c*wI a b+ti a b c*(b.1*(b.1-a.1)+b.2*(b.2-a.2)):=by unfold wI di ti; grind
 rw[g1,Int.zero_mul,Int.add_zero] at e;have n1:0≤((b.1-a.1)*(b.1-a.1)+(b.2-a.2)*(b.2-a.2))*wI b c:=Int.mul_nonneg (Int.add_nonneg ry ry) (Int.le_of_lt h2);have n2:=Int.mul_neg_of_neg_of_pos g2 h1;omega
def wy (k:Nat):I2:=[(2,0),(2,1),(1,2),(0,2),(-1,2),(-2,1),(-2,0),(-2,-1),(-1,-2),(0,-2),(1,-2),(2,-1)].getD (k%12) (0,0)
def Ex (m:Int) (a:I2):I2:=(a.1*m,a.2*m)
theorem mV (α β m:Int) (a:I2):gu α β 0 (Ex m a)=gu α β 0 a*m:=by unfold gu Ex; grind
theorem BK (m k:Int) (a b:I2):wI (Ex m a) (Ex k b)=m*k*wI a b:=by unfold wI Ex; grind
theorem zn (k:Nat):wy (k%12)=wy k:=by unfold wy; rw[Nat.mod_mod]
def Gy:List (Int × Int):=[(3,1),(1,3),(-1,3),(-3,1),(-3,-1),(-1,-3),(1,-3),(3,-1),(4,3),(3,4),(-3,4),(-4,3),(-4,-3),(-3,-4),(3,-4),(4,-3),(1,1),(-1,1),(-1,-1),(1,-1),(1,0),(0,1),(-1,0),(0,-1),(5,1),(1,5),(-1,5),(-5,1),(-5,-1),(-1,-5),(1,-5),(5,-1),(2,1),(1,2),(-1,2),(-2,1),(-2,-1),(-1,-2),(1,-2),(2,-1)]
def AE (a x y z:Nat):Bool:=Gy.any fun c=>decide (0<gu c.1 c.2 0 (wy a)) && decide (0<gu c.1 c.2 0 (wy (a+x))) && decide (gu c.1 c.2 0 (wy (a+y))<0) && decide (gu c.1 c.2 0 (wy (a+y+z))<0)
def yu:Bool:=(List.range 12).all fun a=>(List.range 4).all fun x=>(List.range 12).all fun y=>(List.range 4).all fun z=>!(decide (0<x) && decide (x<y) && decide (0<z) && decide (y+z<12)) || AE a x y z
theorem yS:yu=true:=by decide +kernel
theorem GF (a:Nat) (ha:a<12) (x:Nat) (hx:x<4) (y:Nat) (hy:y<12) (z:Nat) (hz:z<4) (h1:0<x) (h2:x<y) (h3:0<z) (h4:y+z<12):AE a x y z=true:=by
 have h:=yS;unfold yu at h;have h:=List.all_eq_true.1 h a (List.mem_range.2 ha);have h:=List.all_eq_true.1 h x (List.mem_range.2 hx);have h:=List.all_eq_true.1 h y (List.mem_range.2 hy);have h:=List.all_eq_true.1 h z (List.mem_range.2 hz)
 simpa [h1,h2,h3,h4] using h
theorem Eu:∀a<12,∀x<4,0<x→0<wI (wy a) (wy (a+x)):=by decide +kernel
theorem qq (a x:Nat):wy (a%12+x)=wy (a+x):=by unfold wy; rw[Nat.mod_add_mod]
structure Star (r:List I2):Prop where
 n3:2<r.length
 dir:∃δ:Nat→Nat,(∀i,δ i < δ (i+1)∧δ (i+1)≤δ i+3)∧(∀i,δ (i+r.length)=δ i+12)∧∀i,∃m:Int,0<m∧nx r i=Ex m (wy (δ i))
theorem Star.left {r:List I2} (h:Star r) (i:Nat):0<wI (nx r i) (nx r (i+1)):=by
 obtain⟨δ,h1,_,h3⟩:=h.dir;obtain⟨m,m0,e1⟩:=h3 i;obtain⟨k,k0,e2⟩:=h3 (i+1);have hd:=h1 i;rw[e1,e2,BK];have:=Eu (δ i%12) (Nat.mod_lt _ (by decide)) (δ (i+1)-δ i) (by omega) (by omega)
 rw[zn,qq,show δ i+(δ (i+1)-δ i)=δ (i+1) by omega] at this
 exact Int.mul_pos (Int.mul_pos m0 k0) this
theorem Star.vr {r:List I2} (h:Star r):VR r:=by
 refine⟨h.n3,fun i e=>?_,fun i=>yn (h.left i) (h.left (i+1)),fun j i h1 h2 h3=>?_⟩
 ·have:=h.left i;rw[e] at this;unfold wI at this;rw[Int.mul_comm,Int.sub_self] at this;exact absurd this (by decide)
 ·obtain⟨δ,d1,d2,d3⟩:=h.dir;have mono:∀a b,a≤b→δ a≤δ b:=fun a b hab=>by
   induction b with
   | zero=>rw[Nat.le_zero.1 hab]; exact Nat.le_refl _
   | succ b ih =>
    rcases Nat.lt_or_ge a (b+1) with g|g
    ·have:=ih (by omega); have:=d1 b; omega
    ·rw[show a=b+1 by omega]; exact Nat.le_refl _
  have g1:=d1 j;have g2:=d1 i;have g3:δ (j+1) < δ i:=by have:=mono (j+1+1) i (by omega); have:=d1 (j+1); omega
  have g4:δ (i+1) < δ j+12:=by
   by_cases hj:j=0
   ·have:=mono (i+1) (r.length-1) (by omega)
    have h5:=d1 (r.length-1);rw[show r.length-1+1=0+r.length by omega,d2] at h5
    subst hj; omega
   ·have:=mono (i+1) (0+r.length) (by omega)
    rw[d2] at this;have h6:=mono 1 j (by omega)
    have h7:=(d1 0).1;rw[Nat.zero_add] at h7;omega
  have ck:=GF (δ j%12) (Nat.mod_lt _ (by decide)) (δ (j+1)-δ j) (by omega) (δ i-δ j) (by omega) (δ (i+1)-δ i) (by omega) (by omega) (by omega) (by omega) (by omega)
  unfold AE at ck;obtain⟨c,_,hc⟩:=List.any_eq_true.1 ck;simp only[Bool.and_eq_true,decide_eq_true_eq] at hc;obtain⟨⟨⟨c1,c2⟩,c3⟩,c4⟩:=hc;rw[zn] at c1;rw[qq,show δ j+(δ (j+1)-δ j)=δ (j+1) by omega] at c2
  rw[qq,show δ j+(δ i-δ j)=δ i by omega] at c3
  rw[Nat.add_assoc,qq,show δ j+(δ i-δ j+(δ (i+1)-δ i))=δ (i+1) by omega] at c4
  obtain⟨m1,p1,e1⟩:=d3 j;obtain⟨m2,p2,e2⟩:=d3 (j+1);obtain⟨m3,p3,e3⟩:=d3 i;obtain⟨m4,p4,e4⟩:=d3 (i+1);rw[e1,e2,e3,e4];exact DB (α:=c.1) (β:=c.2) (γ:=0) (by rw[mV]; exact Int.mul_pos c1 p1) (by rw[mV]; exact Int.mul_pos c2 p2) (by rw[mV]; exact Int.mul_neg_of_neg_of_pos c3 p3) (by rw[mV]; exact Int.mul_neg_of_neg_of_pos c4 p4)
def Fv:List I2→List (I2 × I2)
 | a::b::l=>(a,b)::Fv (b::l)
 | _=>[]
def AY:List I2→Prop
 | a::b::l=>a≠b∧(∀c l',l=c::l'→¬(ti a b c=0∧di a b c<0))∧(∀e ∈ Fv l,NM a b e.1 e.2)∧AY (b::l)
 | _=>True
theorem Az:∀(L:List I2) (i:Nat),i+1<L.length→(L.getD i (0,0),L.getD (i+1) (0,0)) ∈ Fv L
 | [],_,h=>absurd h (by simp)
 | [_],_,h=>absurd h (by simp)
 | a::b::l,0,_=>by simp[Fv]
 | a::b::l,i+1,h=>by
  have:=Az (b::l) i (by simpa using h)
  simp only[Fv,List.mem_cons,List.getD_cons_succ] at *;exact .inr this
theorem AY.still:∀{L:List I2},AY L→∀i,i+1<L.length→L.getD i (0,0)≠L.getD (i+1) (0,0)
 | [],_,_,h=>absurd h (by simp)
 | [_],_,_,h=>absurd h (by simp)
 | _::_::_,ho,0,_=>ho.1
 | _::b::l,ho,i+1,h=>by simpa only[List.getD_cons_succ] using AY.still (L:=b::l) ho.2.2.2 i (by simpa using h)
theorem AY.vK:∀{L:List I2},AY L→∀i,i+2<L.length→¬(ti (L.getD i (0,0)) (L.getD (i+1) (0,0)) (L.getD (i+2) (0,0))=0∧di (L.getD i (0,0)) (L.getD (i+1) (0,0)) (L.getD (i+2) (0,0))<0)
 | [],_,_,h=>absurd h (by simp)
 | [_],_,_,h=>absurd h (by simp)
 | [_,_],_,_,h=>absurd h (by simp)
 | _::_::c::l,ho,0,_=>ho.2.1 c l rfl
 | _::b::c::l,ho,i+1,h=>by simpa only[List.getD_cons_succ] using AY.vK (L:=b::c::l) ho.2.2.2 i (by simpa using h)
theorem AY.meet:∀{L:List I2},AY L→∀j i,j+1<i→i+1<L.length→NM (L.getD j (0,0)) (L.getD (j+1) (0,0)) (L.getD i (0,0)) (L.getD (i+1) (0,0))
 | [],_,_,_,_,h=>absurd h (by simp)
 | [_],_,_,_,_,h=>absurd h (by simp)
 | _::_::l,ho,0,i+2,_,h=>by
  exact ho.2.2.1 _ (Az l i (by simp at h; omega))
 | _::b::l,ho,j+1,i+1,hj,h=>by simpa only[List.getD_cons_succ] using AY.meet (L:=b::l) ho.2.2.2 j i (by omega) (by simpa using h)
section
variable {h : Nat → Int} (hp : ∀ i, 1 ≤ h i)
include hp
end
end Jd
end

section
namespace Go.Proofs.YthmekkhpddehjaaGreat
open Go Go.Ab Go.Ab.W Go.Ab.B Jd
structure Ok (l:List I2):Prop where
 len:l.length≤40
 nr:∀i,Nr (nx l i)
 vr:VR l
theorem gw {ρ:Type} {f:Nat→Option ρ} {e:ρ} {k i:Nat} (h:∀j,i≤j→j<i+k→f j=none):dj f e k i=e:=by
 rcases ei (f:=f) (e:=e) k i with⟨_,h2⟩|⟨j,h1,h2,h3⟩
 ·exact h2
 ·rw[h j h1 h2] at h3; cases h3
theorem zF {i L:Nat} (hL:0<L):((i+1)%L+L-1)%L=i%L:=by
 have h:=Nat.div_add_mod (i+1) L;have:((i+1)%L+L-1)+L*((i+1)/L)=i+L:=by omega
 rw[←Nat.add_mul_mod_self_left ((i+1)%L+L-1) L ((i+1)/L),this,Nat.add_mod_right]
theorem Ok.rz {l:List I2} (h:Ok l):rz l:=by
 have hn:=h.vr.n3;have hl:=h.len;unfold Go.Proofs.YthmekkhpddehjaaGreat.rz py;rw[if_neg (by omega),gw (f:=k8 l) fun j _ _=>by unfold k8; rw[if_neg (wJ.2 (h.nr j))]]
 dsimp only
 rw[gw (f:=fX l) fun j _ _=>by unfold fX; rw[if_neg (h.vr.still j)]]
 dsimp only
 rw[gw (f:=gP l) fun j _ hj=>by
  unfold gP;have:=h.vr.vK (j+l.length-1);rw[show j+l.length-1+1=j+l.length by omega,show j+l.length-1+2=(j+1)+l.length by omega,dS l (Nat.add_mod_right j l.length),dS l (Nat.add_mod_right (j+1) l.length)] at this
  rw[if_neg this]]
 dsimp only
 rw[gw (f:=gJ l) fun j _ hj=>by
  unfold gJ;rw[if_neg];rintro⟨t,ht,h1,h2⟩;exact h2 (y8.2 (h.vr.meet t j ht (by omega) fun e=>h1 ⟨e.1,by omega⟩))]
 exact Int.le_refl 0
theorem rz.ok {l:List I2} (h:rz l):Ok l:=by
 unfold Go.Proofs.YthmekkhpddehjaaGreat.rz py at h
 split at h
 ·exact absurd (show(1:Int)≤0 from h) (by decide)
 ·rename_i hl;cases h1:dj (k8 l) (.inr ()) l.length 0 with
  | inl v=>rw[h1] at h; exact absurd (show(2:Int)≤0 from h) (by decide)
  | inr _ =>
   rw[h1] at h
   dsimp only at h
   cases h2:dj (fX l) (.inr ()) l.length 0 with
   | inl v=>rw[h2] at h; exact absurd (show(3:Int)≤0 from h) (by decide)
   | inr _ =>
    rw[h2] at h
    dsimp only at h
    cases h3:dj (gP l) (.inr ()) l.length 0 with
    | inl v=>rw[h3] at h; exact absurd (show(4:Int)≤0 from h) (by decide)
    | inr _ =>
     rw[h3] at h
     dsimp only at h
     cases h4:dj (gJ l) (.inr ()) l.length 0 with
     | inl v=>rw[h4] at h; exact absurd (show(5:Int)≤0 from h) (by decide)
     | inr _ =>
      have hL:0<l.length:=by omega
      refine⟨by omega,zO hL h1,by omega,AA hL h2,fun i=>?_,fun j i hji hi hn=>?_⟩
      ·have:=kA (fun j r hr=>by unfold gP at hr; split at hr<;>cases hr; simp) h3 ((i+1)%l.length) (Nat.mod_lt _ hL)
       unfold gP at this
       split at this
       ·cases this
       ·rename_i g;rw[dS l (zF hL),p6,mA] at g;exact g
      ·have:=kA (fun j r hr=>by unfold gJ at hr; split at hr<;>cases hr; simp) h4 i hi
       unfold gJ at this
       split at this
       ·cases this
       ·rename_i g;refine y8.1 (Decidable.byContradiction fun e=>g ⟨j,hji,fun k=>hn ⟨k.1,by omega⟩,e⟩)
theorem qR {l:List I2}:rz l↔Ok l:=⟨rz.ok,Ok.rz⟩
def num (l:List Nat) (i:Nat):Nat:=if l.length=0 then i%3 else l.getD (i%l.length) 0
section
variable (n : Nat) {l : List Nat} (hb : ∀ x ∈ l, x < 256) (x5 x6 : Int) (x7 : Nat) (x8 x9 : Bool)
include hb
def kp (l:List Nat) (i:Nat):Bool:=!(decide (num l i%6=0) && !decide (i%3=0))
end
end Go.Proofs.YthmekkhpddehjaaGreat
end

section
namespace Jd
def Lt (a b:I2):Prop:=a.1<b.1∨a.1=b.1∧a.2<b.2
instance (a b:I2):Decidable (Lt a b):=by unfold Lt; infer_instance
theorem Lt.trans {a b c:I2} (h:Lt a b) (g:Lt b c):Lt a c:=by unfold Lt at *; omega
theorem Lt.A0 (a:I2):¬Lt a a:=by unfold Lt; omega
theorem Lt.asymm {a b:I2} (h:Lt a b):¬Lt b a:=by unfold Lt at *; omega
theorem Lt.Ew (a b:I2):Lt a b∨a=b∨Lt b a:=by
 unfold Lt
 by_cases h1:a.1=b.1
 ·by_cases h2:a.2=b.2
  ·exact .inr (.inl (Prod.ext h1 h2))
  ·omega
 ·omega
def Fw (x y:Int):Prop:=0<x∨x=0∧0<y
theorem fG {a b:I2} (h:Lt a b):Fw (b.1-a.1) (b.2-a.2):=by unfold Lt at h; unfold Fw; omega
theorem mU {x1 y1 x2 y2 x3 y3:Int} (f1:Fw x1 y1) (f2:Fw x2 y2) (f3:Fw x3 y3) (h:0≤x1*y2-y1*x2) (g:0≤x2*y3-y2*x3) :
  0≤x1*y3-y1*x3∧(0<x1*y2-y1*x2∨0<x2*y3-y2*x3→0<x1*y3-y1*x3):=by
 have nn:∀{a b:Int},0≤a→0≤b→0≤a*b:=Int.mul_nonneg;have pp:∀{a b:Int},0<a→0<b→0<a*b:=Int.mul_pos;unfold Fw at f1 f2 f3
 by_cases h2:0<x2
 ·
  have e:x2*(x1*y3-y1*x3)=x3*(x1*y2-y1*x2)+x1*(x2*y3-y2*x3):=by grind
  have g1:0≤x1:=by omega
  have g3:0≤x3:=by omega
  have m1:=nn g3 h;have m2:=nn g1 g;have m:0≤x2*(x1*y3-y1*x3):=by omega
  refine⟨Int.nonneg_of_mul_nonneg_right m h2,fun hs=>?_⟩;have pos:0<x2*(x1*y3-y1*x3):=by
   rcases hs with hs|hs
   ·by_cases k3:0<x3
    ·have:=pp k3 hs; omega
    ·have k3':x3=0:=by omega
     have k4:0<y3:=by omega
     subst k3'
     by_cases k1:0<x1
     ·have:=pp k1 (pp h2 k4);rw[Int.mul_zero,Int.sub_zero] at m2 ⊢
      grind
     ·have k1':x1=0:=by omega
      subst k1';have:0<y1:=by omega
      have:=pp this h2;omega
   ·by_cases k1:0<x1
    ·have:=pp k1 hs; omega
    ·have k1':x1=0:=by omega
     subst k1';have k2:0<y1:=by omega
     have:=pp k2 h2;omega
  exact Int.pos_of_mul_pos_right pos h2
 ·have k2:x2=0:=by omega
  have k3:0<y2:=by omega
  subst k2;have g':x3=0:=by
   refine Decidable.byContradiction fun hc=>?_;have:=pp k3 (show 0<x3 by omega)
   omega
  subst g';have k4:0<y3:=by omega
  rw[Int.mul_zero,Int.sub_zero,Int.mul_zero,Int.sub_zero] at *;have g1:0≤x1:=by omega
  refine⟨nn g1 (by omega),fun hs=>?_⟩
  rcases hs with hs|hs
  ·have:0<x1:=by
    refine Decidable.byContradiction fun hc=>?_;have:x1=0:=by omega
    subst this;omega
   exact pp this k4
  ·rw[Int.zero_mul] at hs; omega
theorem vA {s t p q:I2} (h1:Lt s t) (h2:Lt s p) (h3:Lt s q) (h:ti s t p≤0) (g:0≤ti s t q):0≤ti s p q:=by
 have:=(mU (fG h2) (fG h1) (fG h3) (by unfold ti at h; grind) (by unfold ti at g; grind)).1
 unfold ti; grind
theorem xE {s t p q:I2} (h1:Lt s p) (h2:Lt t p) (h3:Lt q p) (h:ti s t p≤0) (g:0≤ti t p q):0≤ti s p q:=by
 have:=(mU (fG h3) (fG h2) (fG h1) (by unfold ti at g; grind) (by unfold ti at h; grind)).1
 unfold ti; grind
theorem uC {a b p q:I2} (h1:Lt q b) (h2:Lt a b) (h3:Lt b p) (h:0≤ti a b q) (g:0<ti a b p):0<ti b p q:=by
 have:=(mU (fG h1) (fG h2) (fG h3) (by unfold ti at h; grind) (by unfold ti at g; grind)).2 (.inr (by unfold ti at g; grind))
 unfold ti; grind
theorem xG {a b c p:I2} (h1:Lt a b) (h2:Lt b c) (h3:Lt b p) (h:0<ti a b c) (g:0<ti b c p):0<ti a b p:=by
 have:=(mU (fG h1) (fG h2) (fG h3) (by unfold ti at h; grind) (by unfold ti at g; grind)).2 (.inr (by unfold ti at g; grind))
 unfold ti; grind
def pop (p:I2):List I2→List I2
 | b::a::st=>if ti a b p≤0 then pop p (a::st) else b::a::st
 | st=>st
def push (st:List I2) (p:I2):List I2:=p::pop p st
def Edge (Q:I2→Prop) (a b:I2):Prop:=Lt a b∧∀q,Q q→0≤ti a b q∧(ti a b q=0→¬Lt q a∧¬Lt b q)
inductive Stk (Q:I2→Prop):List I2→Prop
 | one {a}:(∀q,Q q→¬Lt q a)→Q a→Stk Q [a]
 | more {a b st}:Edge Q a b→Q b→Stk Q (a::st)→Stk Q (b::a::st)
theorem Stk.top {Q:I2→Prop} {a:I2} {st:List I2} (h:Stk Q (a::st)):Q a:=by
 cases h with
 | one _ h=>exact h
 | more _ h _=>exact h
theorem Stk.u2 {Q:I2→Prop} {p:I2} (hp:∀q,Q q→Lt q p):∀{st:List I2},Stk Q st→(∀a b st',st=b::a::st'→0<ti a b p)→Stk (fun q=>Q q∨q=p) st
 | _,.one h1 h2,_=>.one (fun q hq=>by
   rcases hq with hq|rfl
   ·exact h1 q hq
   ·exact(hp _ h2).asymm) (.inl h2)
 | _,.more (a:=a) (b:=b) (st:=st) h1 h2 h3,hl=>by
  have h0:=hl a b st rfl;refine .more ⟨h1.1,fun q hq=>?_⟩ (.inl h2) (Stk.u2 hp h3 fun a' b' st' e=>?_)
  ·rcases hq with hq|rfl
   ·exact h1.2 q hq
   ·exact⟨by omega,fun e=>by omega⟩
  ·obtain⟨rfl,rfl⟩:a=b'∧st=a'::st':=by
    constructor
    ·exact(List.cons.inj e).1
    ·exact(List.cons.inj e).2
   cases h3 with
   | more e1 e2 e3 =>
    have e4:=e1.2 b h2;have e5:0<ti a' a b:=by
     refine Decidable.byContradiction fun hc=>?_;exact(e4.2 (by omega)).2 h1.1
    exact xG e1.1 h1.1 (hp _ e2) e5 h0
theorem AH {Q:I2→Prop} {p:I2} (hp:∀q,Q q→Lt q p):∀(st:List I2),Stk Q st→(∀t st',st=t::st'→∀q,Q q→Lt t q→0≤ti t p q)→Stk (fun q=>Q q∨q=p) (p::pop p st)
 | _,.one (a:=a) h1 h2,ht=>by
  refine .more ⟨hp a h2,fun q hq=>?_⟩ (.inr rfl) (.one (fun q hq=>?_) (.inl h2))
  ·rcases hq with hq|rfl
   ·have hl:=h1 q hq;rcases Lt.Ew a q with h|rfl|h
    ·exact⟨ht a [] rfl q hq h,fun _=>⟨hl,(hp q hq).asymm⟩⟩
    ·have:=lr a p;exact⟨by omega,fun _=>⟨hl,(hp _ hq).asymm⟩⟩
    ·exact absurd h hl
   ·have:=kV a q;exact⟨by omega,fun _=>⟨(hp a h2).asymm,Lt.A0 q⟩⟩
  ·rcases hq with hq|rfl
   ·exact h1 q hq
   ·exact(hp a h2).asymm
 | _,.more (a:=a) (b:=b) (st:=st) h1 h2 h3,ht=>by
  unfold pop
  by_cases hc:ti a b p≤0
  ·rw[if_pos hc];refine AH hp (a::st) h3 fun t st' e q hq hl=>?_;obtain⟨rfl,rfl⟩:=List.cons.inj e;rcases Lt.Ew q b with h|h|h
   ·exact vA h1.1 (hp _ h3.top) hl hc (h1.2 q hq).1
   ·exact vA h1.1 (hp _ h3.top) hl hc (h1.2 q hq).1
   ·exact xE (hp _ h3.top) (hp _ h2) (hp q hq) hc (ht b _ rfl q hq h)
  ·rw[if_neg hc];have hs:Stk Q (b::a::st):=.more h1 h2 h3;refine .more ⟨hp b h2,fun q hq=>?_⟩ (.inr rfl) (hs.u2 hp fun a' b' st' e=>?_)
   ·rcases hq with hq|rfl
    ·rcases Lt.Ew q b with h|rfl|h
     ·have:=uC h h1.1 (hp b h2) (h1.2 q hq).1 (by omega)
      exact⟨by omega,fun e=>by omega⟩
     ·have:=lr q p;exact⟨by omega,fun _=>⟨Lt.A0 q,(hp q hq).asymm⟩⟩
     ·exact⟨ht b _ rfl q hq h,fun _=>⟨h.asymm,(hp q hq).asymm⟩⟩
    ·have:=kV b q;exact⟨by omega,fun _=>⟨(hp b h2).asymm,Lt.A0 q⟩⟩
   ·obtain⟨rfl,e2⟩:=List.cons.inj e;obtain⟨rfl,rfl⟩:=List.cons.inj e2;omega
theorem Stk.mono {Q R:I2→Prop} (h:∀q,Q q↔R q) {st:List I2} (s:Stk Q st):Stk R st:=by
 have:Q=R:=funext fun q=>propext (h q);rw[←this]; exact s
theorem tu:∀(l done:List I2) (st:List I2),(done++l).Pairwise Lt→Stk (· ∈ done) st→(∀t st',st=t::st'→∀q,q ∈ done→¬Lt t q)→Stk (· ∈ done++l) (l.foldl push st)∧∀t st',l.foldl push st=t::st'→∀q,q ∈ done++l→¬Lt t q
 | [],done,st,_,hs,ht=>by
  rw[List.append_nil];exact⟨hs,ht⟩
 | p::l,done,st,hp,hs,ht=>by
  have hlt:∀q,q ∈ done→Lt q p:=fun q hq=>(List.pairwise_append.1 hp).2.2 q hq p List.mem_cons_self;have h1:=AH (Q:=(· ∈ done)) hlt st hs fun t st' e q hq hl=>absurd hl (ht t st' e q hq);have e:done++p::l=(done++[p])++l:=by simp
  rw[e] at hp ⊢;refine tu l (done++[p]) (push st p) hp (h1.mono fun q=>by simp) fun t st' e' q hq=>?_
  obtain⟨rfl,_⟩:=List.cons.inj e';rcases List.mem_append.1 hq with h|h
  ·exact(hlt q h).asymm
  ·rw[List.mem_singleton.1 h]; exact Lt.A0 p
def ng (a:I2):I2:=(-a.1,-a.2)
theorem CF (a b p:I2):ti (ng a) (ng b) (ng p)=ti a b p:=by unfold ti ng; grind
theorem Fu (a b p:I2):di (ng a) (ng b) (ng p)=di a b p:=by unfold di ng; grind
theorem CG {a b:I2}:Lt (ng a) (ng b)↔Lt b a:=by unfold Lt ng; omega
theorem fF (a:I2):ng (ng a)=a:=by unfold ng; exact Prod.ext (by simp) (by simp)
theorem ym (p:I2):∀st:List I2,pop (ng p) (st.map ng)=(pop p st).map ng
 | []=>rfl
 | [_]=>rfl
 | b::a::st=>by
  show(if ti (ng a) (ng b) (ng p)≤0 then pop (ng p) (ng a::st.map ng) else ng b::ng a::st.map ng)=(if ti a b p≤0 then pop p (a::st) else b::a::st).map ng
  rw[CF]
  split
  ·exact ym p (a::st)
  ·rfl
theorem vz:∀(l st:List I2),(l.map ng).foldl push (st.map ng)=(l.foldl push st).map ng
 | [],_=>rfl
 | p::l,st=>by
  rw[List.map_cons,List.foldl_cons,List.foldl_cons,←vz l (push st p)];unfold push;rw[ym]; rfl
def Good (S:I2→Prop) (x y:I2):Prop:=x≠y∧S y∧∀q,S q→0<ti x y q∨q=x∨q=y∨(ti x y q=0∧0<di x q y)
theorem DZ {x1 y1 x2 y2:Int} (f1:Fw x1 y1) (f2:Fw x2 y2) (h:x1*y2-y1*x2=0):0<x1*x2+y1*y2:=by
 unfold Fw at f1 f2;have pp:∀{a b:Int},0<a→0<b→0<a*b:=Int.mul_pos
 by_cases h1:0<x1
 ·by_cases h2:0<x2
  ·
   have e:x1*x1*(y1*y2)=(x1*y1)*(x1*y2):=by grind
   have e2:x1*y2=y1*x2:=by omega
   have e3:x1*x1*(y1*y2)=(x1*x2)*(y1*y1):=by rw[e,e2]; grind
   have m1:=pp h1 h2;have m2:0≤x1*x1*(y1*y2):=by rw[e3]; exact Int.mul_nonneg (Int.le_of_lt m1) ry
   have:=Int.nonneg_of_mul_nonneg_right m2 (pp h1 h1);omega
  ·have e:x2=0:=by omega
   have:=pp h1 (show 0<y2 by omega)
   subst e;omega
 ·have e:x1=0:=by omega
  subst e;have k:0<y1:=by omega
  have:x2=0:=by
   refine Decidable.byContradiction fun hc=>?_;have:=pp k (show 0<x2 by omega)
   omega
  subst this;have:=pp k (show 0<y2 by omega)
  omega
theorem Edge.ir {Q:I2→Prop} {a b:I2} (h:Edge Q a b) (hb:Q b):Good Q a b:=by
 refine⟨fun e=>Lt.A0 b (by have:=h.1; rwa[e] at this),hb,fun q hq=>?_⟩
 obtain⟨h1,h2⟩:=h.2 q hq
 by_cases h0:ti a b q=0
 ·obtain⟨g1,g2⟩:=h2 h0;rcases Lt.Ew a q with k|k|k
  ·rcases Lt.Ew q b with k' | k' | k'
   ·refine .inr (.inr (.inr ⟨h0,?_⟩));exact DZ (fG k) (fG k') (by rw[←Int.neg_eq_zero,←h0]; unfold ti; grind)
   ·exact .inr (.inr (.inl k'))
   ·exact absurd k' g2
  ·exact .inr (.inl k.symm)
  ·exact absurd k g1
 ·exact .inl (by omega)
theorem Good.ng {Q:I2→Prop} {a b:I2} (h:Good (fun q=>Q (Jd.ng q)) a b):Good Q (Jd.ng a) (Jd.ng b):=by
 refine⟨fun e=>h.1 (by have:=congrArg Jd.ng e; rwa[fF,fF] at this),h.2.1,fun q hq=>?_⟩
 have:=h.2.2 (Jd.ng q) (by show Q (Jd.ng (Jd.ng q)); rw[fF]; exact hq)
 rw[←CF,fF] at this;rcases this with k|k|k|⟨k1,k2⟩
 ·exact .inl k
 ·exact .inr (.inl (by rw[←k,fF]))
 ·exact .inr (.inr (.inl (by rw[←k,fF])))
 ·refine .inr (.inr (.inr ⟨k1,?_⟩));rw[←Fu,fF] at k2;exact k2
inductive Way (S:I2→Prop):List I2→Prop
 | one (a):Way S [a]
 | more {a b l}:Good S a b→Way S (b::l)→Way S (a::b::l)
theorem Way.app {S:I2→Prop} {b:I2}:∀{l m:List I2},Way S (l++[b])→Way S (b::m)→Way S (l++b::m)
 | [],_,_,h=>h
 | [_],_,.more h _,g=>.more h g
 | _::a'::l,_,.more h k,g=>.more h (Way.app (l:=a'::l) k g)
theorem Stk.G2 {Q:I2→Prop}:∀{st:List I2},Stk Q st→Way Q st.reverse
 | _,.one (a:=a) _ _=>.one a
 | _,.more (a:=a) (b:=b) (st:=st) h1 h2 h3=>by
  have:=h3.G2;rw[List.reverse_cons] at this;rw[List.reverse_cons,List.reverse_cons,List.append_assoc];exact this.app (.more (h1.ir h2) (.one b))
theorem Way.yL {Q:I2→Prop}:∀{l:List I2},Way (fun q=>Q (ng q)) l→Way Q (l.map ng)
 | _,.one a=>.one (ng a)
 | _,.more h k=>.more h.ng k.yL
def oR (now next q:I2):I2:=if next=now∨ti now next q<0∨(ti now next q=0∧0<di now next q) then q else next
theorem uH {S:I2→Prop} {x y q:I2} (h:Good S x y) (hq:S q):oR x y q=y:=by
 unfold oR;rw[if_neg];rintro(e|e|⟨e,f⟩)
 ·exact h.1 e.symm
 ·rcases h.2.2 q hq with k|k|k|k
  ·omega
  ·rw[k,lr] at e; omega
  ·rw[k,kV] at e; omega
  ·omega
 ·rcases h.2.2 q hq with k|k|k|k
  ·omega
  ·rw[k] at f;have s1:=@ry (y.1-x.1);have s2:=@ry (y.2-x.2);unfold di at f; grind
  ·rw[k] at f; unfold di at f; grind
  ·have s1:=@ry (q.1-y.1);have s2:=@ry (q.2-y.2);have k2:=k.2;unfold di at f k2; grind
theorem u6 {S:I2→Prop} {x y c:I2} (h:Good S x y) (hc:S c):oR x c y=y:=by
 unfold oR
 by_cases e:c=y
 ·subst e; split<;>rfl
 ·rw[if_pos];rcases h.2.2 c hc with k|k|k|k
  ·refine .inr (.inl ?_);have:ti x c y = -ti x y c:=by unfold ti; grind
   omega
  ·exact .inl k
  ·exact absurd k e
  ·refine .inr (.inr ⟨?_,k.2⟩);have:ti x c y = -ti x y c:=by unfold ti; grind
   omega
theorem pS {S:I2→Prop} {x y:I2} (h:Good S x y):∀(l:List I2) (c:I2),(∀q ∈ l,S q)→S c→(y ∈ l∨c=y)→l.foldl (oR x) c=y
 | [],c,_,_,hm=>by
  rcases hm with hm|rfl
  ·cases hm
  ·rfl
 | q::l,c,hl,hc,hm=>by
  rw[List.foldl_cons];have hq:=hl q List.mem_cons_self;have hl':=fun q hq=>hl q (List.mem_cons_of_mem _ hq)
  by_cases e:c=y
  ·subst e;rw[uH h hq];exact pS h l c hl' hc (.inr rfl)
  ·rcases hm with hm|hm
   ·rcases List.mem_cons.1 hm with e' | hm
    ·subst e';rw[u6 h hc];exact pS h l y hl' hq (.inr rfl)
    ·refine pS h l _ hl' ?_ (.inl hm);unfold oR
     split
     ·exact hq
     ·exact hc
   ·exact absurd hm e
def chain (l:List I2):List I2:=(l.foldl push []).reverse
theorem mG {l:List I2} (h:l.Pairwise Lt):(l.reverse.map ng).Pairwise Lt:=by
 rw[List.pairwise_map,List.pairwise_reverse];exact h.imp fun h=>CG.2 h
theorem pP {l:List I2} (h:l.Pairwise Lt) {a:I2} (ha:l.head? = some a) {b:I2} (hb:l.getLast? = some b) :
  Way (· ∈ l) (chain l)∧(chain l).head? = some a∧(chain l).getLast? = some b∧(chain l).Pairwise Lt:=by
 obtain⟨l',rfl⟩:∃l',l=a::l':=by
  cases l with
  | nil=>cases ha
  | cons x l'=>exact⟨l',by rw[←Option.some.inj ha]⟩
 have h0:Stk (· ∈ [a]) [a]:=.one (fun q hq=>by rw[List.mem_singleton.1 hq]; exact Lt.A0 a) List.mem_cons_self
 obtain⟨h1,h2⟩:=tu l' [a] [a] h h0 fun t st' e q hq=>by
  rw[List.mem_singleton.1 hq,←(List.cons.inj e).1]; exact Lt.A0 a
 have e:(a::l').foldl push []=l'.foldl push [a]:=rfl;unfold chain;rw[e];generalize hst:l'.foldl push [a]=st at *;have hm:∀q,q ∈ [a]++l'↔q ∈ a::l':=fun q=>by simp
 have hs:=h1.mono hm;have hpw:∀{st:List I2},Stk (· ∈ a::l') st→st.Pairwise (fun x y=>Lt y x)∧st.getLast? = some a:=by
  intro st hs
  induction hs with
  | one g1 g2 =>
   rename_i c;refine⟨List.pairwise_singleton _ _,?_⟩;rcases List.mem_cons.1 g2 with rfl|hc
   ·rfl
   ·exact absurd ((List.pairwise_cons.1 h).1 c hc) (g1 a List.mem_cons_self)
  | more g1 g2 g3 ih =>
   refine⟨List.pairwise_cons.2 ⟨fun x hx=>?_,ih.1⟩,by rw[List.getLast?_cons_cons]; exact ih.2⟩
   rcases List.mem_cons.1 hx with rfl|hx
   ·exact g1.1
   ·exact((List.pairwise_cons.1 ih.1).1 x hx).trans g1.1
 obtain⟨p1,p2⟩:=hpw hs;refine⟨hs.G2,by rw[List.head?_reverse]; exact p2,?_,List.pairwise_reverse.2 p1⟩
 rw[List.getLast?_reverse];cases st with
 | nil=>cases hs
 | cons t st' =>
  have ht:=hs.top;have:=h2 t st' rfl b ((hm b).2 (List.mem_of_getLast? hb));rcases Lt.Ew t b with k|k|k
  ·exact absurd k this
  ·rw[k]; rfl
  ·
   exfalso;obtain⟨m,hm'⟩:∃m,a::l'=m++[b]:=by
    have:=List.getLast?_eq_some_iff.1 hb;exact this
   rw[hm'] at ht h;rcases List.mem_append.1 ht with g|g
   ·exact Lt.asymm ((List.pairwise_append.1 h).2.2 t g b (by simp)) k
   ·rw[List.mem_singleton.1 g] at k; exact Lt.A0 b k
theorem Ah (l:List I2):chain (l.map ng)=(chain l).map ng:=by
 unfold chain;have:=vz l [];rw[List.map_nil] at this;rw[this,List.map_reverse]
theorem Way.mem {S:I2→Prop}:∀{a:I2} {l:List I2},Way S (a::l)→∀q ∈ l,S q
 | _,_,.one _,q,hq=>by cases hq
 | _,_,.more h k,q,hq=>by
  rcases List.mem_cons.1 hq with rfl|hq
  ·exact h.2.1
  ·exact k.mem q hq
theorem vN {l:List I2} {a b:I2} (ha:l.head? = some a) (hb:l.getLast? = some b) (hab:a≠b):∃m,l=a::m++[b]:=by
 obtain⟨m,rfl⟩:=List.getLast?_eq_some_iff.1 hb;cases m with
 | nil=>exact absurd (Option.some.inj ha).symm hab
 | cons x m =>
  have:x=a:=Option.some.inj ha;rw[this]; exact⟨m,rfl⟩
theorem zg {l:List I2} (h:l.Pairwise Lt) {a b:I2} (ha:l.head? = some a) (hb:l.getLast? = some b) (hab:a≠b) :
  ∃m u,chain l=a::m++[b]∧chain l.reverse=b::u++[a]∧Way (· ∈ l) (a::m++b::(u++[a]))∧(∀q ∈ m++b::u,Lt a q)∧(∀q ∈ a::m++b::u,q ∈ l):=by
 obtain⟨w1,w2,w3,w4⟩:=pP h ha hb;have hr1:(l.reverse.map ng).head? = some (ng b):=by rw[List.head?_map,List.head?_reverse,hb]; rfl
 have hr2:(l.reverse.map ng).getLast? = some (ng a):=by rw[List.getLast?_map,List.getLast?_reverse,ha]; rfl
 obtain⟨v1,v2,v3,v4⟩:=pP (mG h) hr1 hr2;rw[Ah] at v1 v2 v3 v4;have back:(chain l.reverse).map (fun q=>ng (ng q))=chain l.reverse:=by
  rw[List.map_congr_left fun q _=>fF q,List.map_id']
 have v2':(chain l.reverse).head? = some b:=by
  rw[List.head?_map] at v2;cases e:(chain l.reverse).head? with
  | none=>rw[e] at v2; cases v2
  | some x =>
   rw[e] at v2;have:=congrArg ng (Option.some.inj v2);rw[fF,fF] at this;rw[this]
 have v3':(chain l.reverse).getLast? = some a:=by
  rw[List.getLast?_map] at v3;cases e:(chain l.reverse).getLast? with
  | none=>rw[e] at v3; cases v3
  | some x =>
   rw[e] at v3;have:=congrArg ng (Option.some.inj v3);rw[fF,fF] at this;rw[this]
 have vw:Way (· ∈ l) (chain l.reverse):=by
  have e:(fun q=>q ∈ l.reverse.map ng)=fun q=>ng q ∈ l:=funext fun q=>propext (by
   rw[List.mem_map];refine⟨fun⟨x,hx,e⟩=>by rw[←e,fF]; exact List.mem_reverse.1 hx,fun hx=>⟨ng q,List.mem_reverse.2 hx,fF q⟩⟩)
  have v1':Way (fun q=>ng q ∈ l) ((chain l.reverse).map ng):=by rw[←e]; exact v1
  have:=v1'.yL;rw[List.map_map] at this;rw[←back]; exact this
 obtain⟨m,hm⟩:=vN w2 w3 hab;obtain⟨u,hu⟩:=vN v2' v3' fun e=>hab e.symm;rw[hm] at w1 w4;rw[hu] at vw v4;have hmem:∀q ∈ a::m++b::u,q ∈ l:=fun q hq=>by
  rcases List.mem_append.1 hq with g|g
  ·rcases List.mem_cons.1 g with rfl|g
   ·exact List.mem_of_head? ha
   ·exact Way.mem (a:=a) (l:=m++[b]) w1 q (List.mem_append.2 (.inl g))
  ·rcases List.mem_cons.1 g with rfl|g
   ·exact List.mem_of_getLast? hb
   ·exact Way.mem (a:=b) (l:=u++[a]) vw q (List.mem_append.2 (.inl g))
 refine⟨m,u,hm,hu,Way.app (l:=a::m) w1 vw,fun q hq=>?_,hmem⟩;have p1:=List.pairwise_cons.1 (show(a::(m++[b])).Pairwise Lt from w4)
 rcases List.mem_append.1 hq with g|g
 ·exact p1.1 q (List.mem_append.2 (.inl g))
 ·rcases List.mem_cons.1 g with rfl|g
  ·exact p1.1 q (by simp)
  ·rw[List.map_append,List.map_singleton] at v4;have:=(List.pairwise_append.1 v4).2.2 (ng q) (List.mem_map.2 ⟨q,List.mem_cons_of_mem _ g,rfl⟩) (ng a) (by simp)
   exact CG.1 this
theorem pX {S:I2→Prop} {x y z:I2} (h:Good S x y) (g:Good S x z):y=z:=by
 have mem:∀q ∈ [y,z],S q:=fun q hq=>by
  simp at hq;rcases hq with rfl|rfl
  ·exact h.2.1
  ·exact g.2.1
 have h1:=pS h [y,z] y mem h.2.1 (.inr rfl);have h2:=pS g [y,z] y mem h.2.1 (.inl (by simp))
 exact h1.symm.trans h2
theorem Good.ge {S:I2→Prop} {x y q:I2} (h:Good S x y) (hq:S q):0≤ti x y q:=by
 rcases h.2.2 q hq with g|rfl|rfl|g
 ·omega
 ·rw[lr]; exact Int.le_refl 0
 ·rw[kV]; exact Int.le_refl 0
 ·omega
theorem EO {x y q z:I2}:((y.1-q.1)*(y.1-x.1)+(y.2-q.2)*(y.2-x.2))*ti q z x+((q.1-x.1)*(y.1-x.1)+(q.2-x.2)*(y.2-x.2))*ti q z y=ti x y q * -((z.1-q.1)*(y.1-x.1)+(z.2-q.2)*(y.2-x.2)):=by unfold ti; grind
theorem Ce {u v w:I2} (h1:u.1*w.2=u.2*w.1) (_:v.1*w.2=v.2*w.1) (g1:0<u.1*w.1+u.2*w.2) (g2:0<v.1*w.1+v.2*w.2):0<u.1*v.1+u.2*v.2:=by
 have e:(u.1*w.1+u.2*w.2)*(v.1*w.1+v.2*w.2)=(u.1*v.1+u.2*v.2)*(w.1*w.1+w.2*w.2):=by grind
 have p:=Int.mul_pos g1 g2;rw[e] at p;have n:0≤w.1*w.1+w.2*w.2:=Int.add_nonneg ry ry;rcases Int.lt_or_eq_of_le n with k|k
 ·rw[Int.mul_comm] at p; exact Int.pos_of_mul_pos_right p k
 ·rw[←k,Int.mul_zero] at p; exact absurd p (by decide)
structure Hul (S:I2→Prop) (r:List I2):Prop where
 n3:2<r.length
 ir:∀i,Good S (nx r i) (nx r (i+1))
 nodup:∀i j,i<j→j<r.length→nx r i≠nx r j
section
variable {S : I2 → Prop} {r : List I2}
theorem Hul.mem (h:Hul S r) (i:Nat):S (nx r i):=by
 have hn:=h.n3;have:=(h.ir (i+(r.length-1))).2.1;rwa[show i+(r.length-1)+1=i+r.length by omega,dS r (Nat.add_mod_right i r.length)] at this
theorem Hul.strict (h:Hul S r) (i k:Nat) (h1:nx r k≠nx r i) (h2:nx r k≠nx r (i+1)):0<ti (nx r i) (nx r (i+1)) (nx r k):=by
 rcases(h.ir i).2.2 _ (h.mem k) with g|g|g|⟨g1,g2⟩
 ·exact g
 ·exact absurd g h1
 ·exact absurd g h2
 ·exfalso;have hk:=h.ir k;have hx:=h.mem i;have hy:=h.mem (i+1);generalize nx r i=x at *;generalize nx r (i+1)=y at *;generalize nx r k=q at *;generalize nx r (k+1)=z at *;have hw:=EO (x:=x) (y:=y) (q:=q) (z:=z);rw[g1,Int.zero_mul] at hw;have sx:=hk.ge hx;have sy:=hk.ge hy;have dd:di x q y=(q.1-x.1)*(y.1-q.1)+(q.2-x.2)*(y.2-q.2):=rfl;have wa:0<(q.1-x.1)*(y.1-x.1)+(q.2-x.2)*(y.2-x.2):=by
   have:(q.1-x.1)*(y.1-x.1)+(q.2-x.2)*(y.2-x.2)=di x q y+((q.1-x.1)*(q.1-x.1)+(q.2-x.2)*(q.2-x.2)):=by unfold di; grind
   have:=@ry (q.1-x.1);have:=@ry (q.2-x.2);omega
  have wb:0<(y.1-q.1)*(y.1-x.1)+(y.2-q.2)*(y.2-x.2):=by
   have:(y.1-q.1)*(y.1-x.1)+(y.2-q.2)*(y.2-x.2)=di x q y+((y.1-q.1)*(y.1-q.1)+(y.2-q.2)*(y.2-q.2)):=by unfold di; grind
   have:=@ry (y.1-q.1);have:=@ry (y.2-q.2);omega
  have n1:=Int.mul_nonneg (Int.le_of_lt wb) sx;have n2:=Int.mul_nonneg (Int.le_of_lt wa) sy;have zx:ti q z x=0:=by
   rcases Int.mul_eq_zero.1 (show((y.1-q.1)*(y.1-x.1)+(y.2-q.2)*(y.2-x.2))*ti q z x=0 by omega) with e|e
   ·omega
   ·exact e
  have zy:ti q z y=0:=by
   rcases Int.mul_eq_zero.1 (show((q.1-x.1)*(y.1-x.1)+(q.2-x.2)*(y.2-x.2))*ti q z y=0 by omega) with e|e
   ·omega
   ·exact e
  have hqz:=hk.1;have zz:0<(z.1-q.1)*(z.1-q.1)+(z.2-q.2)*(z.2-q.2):=by
   have s1:=@ry (z.1-q.1);have s2:=@ry (z.2-q.2);refine Decidable.byContradiction fun hc=>hqz ?_;have g1:=F0 (show(z.1-q.1)*(z.1-q.1)=0 by omega)
   have g2:=F0 (show(z.2-q.2)*(z.2-q.2)=0 by omega)
   exact Prod.ext (by omega) (by omega)
  have dir:∀p,S p→p≠q→ti q z p=0→0<(p.1-q.1)*(z.1-q.1)+(p.2-q.2)*(z.2-q.2):=fun p hp hne h0=>by
   rcases hk.2.2 p hp with e|e|e|⟨_,e⟩
   ·omega
   ·exact absurd e hne
   ·subst e; exact zz
   ·have:(p.1-q.1)*(z.1-q.1)+(p.2-q.2)*(z.2-q.2)=di q p z+((p.1-q.1)*(p.1-q.1)+(p.2-q.2)*(p.2-q.2)):=by unfold di; grind
    have:=@ry (p.1-q.1);have:=@ry (p.2-q.2);omega
  have d1:=dir x hx (Ne.symm h1) zx;have d2:=dir y hy (Ne.symm h2) zy;have:=Ce (u:=(x.1-q.1,x.2-q.2)) (v:=(y.1-q.1,y.2-q.2)) (w:=(z.1-q.1,z.2-q.2)) (by unfold ti at zx; grind) (by unfold ti at zy; grind) d1 d2
  dsimp only at this
  have e:(x.1-q.1)*(y.1-q.1)+(x.2-q.2)*(y.2-q.2) = -di x q y:=by unfold di; grind
  omega
theorem vC {r:List I2} {i:Nat} (h:i<r.length):i%r.length=i:=Nat.mod_eq_of_lt h
theorem Hul.ne (h:Hul S r) {i j:Nat} (hi:i%r.length≠j%r.length):nx r i≠nx r j:=by
 have hn:0<r.length:=by have:=h.n3; omega
 rw[dS r (show i%r.length=(i%r.length)%r.length by rw[Nat.mod_mod]),dS r (show j%r.length=(j%r.length)%r.length by rw[Nat.mod_mod])]
 have a:=Nat.mod_lt i hn;have b:=Nat.mod_lt j hn;rcases Nat.lt_or_gt_of_ne hi with g|g
 ·exact h.nodup _ _ g b
 ·exact(h.nodup _ _ g a).symm
theorem mod_succ {i n:Nat} (hn:0<n):(i+1)%n=if i%n+1=n then 0 else i%n+1:=by
 have h:=Nat.mod_lt i hn;rw[Nat.add_mod]
 by_cases g:i%n+1=n
 ·rw[if_pos g];rcases Nat.lt_or_ge 1 n with k|k
  ·rw[Nat.mod_eq_of_lt k,g,Nat.mod_self]
  ·have:n=1:=by omega
   subst this; omega
 ·rw[if_neg g,Nat.mod_eq_of_lt (show 1<n by omega),Nat.mod_eq_of_lt (by omega)]
theorem Hul.gS (h:Hul S r) (i:Nat):0<ti (nx r i) (nx r (i+1)) (nx r (i+2)):=by
 have hn:=h.n3;have e1:=mod_succ (i:=i) (n:=r.length) (by omega)
 have e2:=mod_succ (i:=i+1) (n:=r.length) (by omega)
 have:=Nat.mod_lt i (show 0<r.length by omega)
 refine h.strict i (i+2) (h.ne ?_) (h.ne ?_)
 ·rw[show i+2=i+1+1 from rfl,e2,e1]
  split<;>split<;>omega
 ·rw[show i+2=i+1+1 from rfl,e2,e1]
  split<;>split<;>omega
theorem Hul.vr (h:Hul S r):VR r:=by
 have hn:=h.n3;refine⟨hn,fun i=>(h.ir i).1,fun i g=>?_,fun j i h1 h2 h3=>?_⟩
 ·have:=h.gS i; omega
 ·have m1:(i+1)%r.length=if i+1=r.length then 0 else i+1:=by
   rw[mod_succ (by omega),vC h2]
  have mj:j%r.length=j:=vC (by omega)
  have mj1:(j+1)%r.length=j+1:=vC (by omega)
  have mi:i%r.length=i:=vC h2;have c1:=h.strict j i (h.ne (by rw[mi,mj]; omega)) (h.ne (by rw[mi,mj1]; omega))
  have c2:=h.strict j (i+1) (h.ne (by rw[m1,mj]; split<;>omega)) (h.ne (by rw[m1,mj1]; split<;>omega))
  have a1:=h.strict i j (h.ne (by rw[mi,mj]; omega)) (h.ne (by rw[m1,mj]; split<;>omega))
  have a2:=h.strict i (j+1) (h.ne (by rw[mi,mj1]; omega)) (h.ne (by rw[m1,mj1]; split<;>omega))
  generalize nx r j=a at *;generalize nx r (j+1)=b at *;generalize nx r i=c at *;generalize nx r (i+1)=d at *;refine⟨fun x hx=>?_,fun hx=>by omega⟩
  have el:∀x,gu (-(b.2-a.2)) (b.1-a.1) ((b.2-a.2)*a.1-(b.1-a.1)*a.2) x=ti a b x:=fun x=>by unfold gu ti; grind
  have:=qx (α:=-(b.2-a.2)) (β:=b.1-a.1) (γ:=(b.2-a.2)*a.1-(b.1-a.1)*a.2) hx.2.2 (by rw[el]; exact c1) (by rw[el]; exact c2)
  rw[el,hx.2.1.1] at this;exact absurd this (by decide)
theorem Hul.DC (h:Hul S r):0<DC r:=by
 have hn:=h.n3;rw[←sF r (nx r 0)];have e:∀i,((nx r i).1-(nx r 0).1)*((nx r (i+1)).2-(nx r 0).2)-((nx r i).2-(nx r 0).2)*((nx r (i+1)).1-(nx r 0).1)=ti (nx r i) (nx r (i+1)) (nx r 0):=fun i=>by unfold ti; grind
 rw[oN fun i _=>e i];have ge:∀n,0≤cp n fun i=>ti (nx r i) (nx r (i+1)) (nx r 0):=fun n=>by
  induction n with
  | zero=>exact Int.le_refl 0
  | succ n ih=>simp only[cp]; have:=(h.ir n).ge (h.mem 0); omega
 obtain⟨m,hm⟩:∃m,r.length=m+2:=⟨r.length-2,by omega⟩
 rw[hm];simp only[cp];have g1:=ge m;have g2:=(h.ir (m+1)).ge (h.mem 0);have g3:=h.strict m 0 (h.ne (by rw[hm,Nat.zero_mod,Nat.mod_eq_of_lt (by omega)]; omega)) (h.ne (by rw[hm,Nat.zero_mod,Nat.mod_eq_of_lt (by omega)]; omega))
 omega
theorem Hul.level (h:Hul S r) {p:I2} (hp:∀i,0<ti (nx r i) (nx r (i+1)) p) (σ:Int) (hσ:σ=1∨σ = -1):∃i,σ*p.2 < σ*(nx r i).2:=by
 refine Classical.byContradiction fun hc=>?_;have hc':∀i,σ*(nx r i).2≤σ*p.2:=fun i=>Int.not_lt.1 fun g=>hc ⟨i,g⟩;have top:∀n,∃k,∀i,i≤n→σ*(nx r i).2≤σ*(nx r k).2:=fun n=>by
  induction n with
  | zero=>exact⟨0,fun i hi=>by rw[Nat.le_zero.1 hi]; exact Int.le_refl _⟩
  | succ n ih =>
   obtain⟨k,hk⟩:=ih;rcases Int.le_total (σ*(nx r (n+1)).2) (σ*(nx r k).2) with g|g
   ·exact⟨k,fun i hi=>by
     rcases Nat.lt_or_ge i (n+1) with q|q
     ·exact hk i (by omega)
     ·rw[show i=n+1 by omega]; exact g⟩
   ·exact⟨n+1,fun i hi=>by
     rcases Nat.lt_or_ge i (n+1) with q|q
     ·exact Int.le_trans (hk i (by omega)) g
     ·rw[show i=n+1 by omega]; exact Int.le_refl _⟩
 have hn:=h.n3;obtain⟨k,hk⟩:=top r.length;have hk':∀i,σ*(nx r i).2≤σ*(nx r k).2:=fun i=>by
  rw[dS r (show i%r.length=(i%r.length)%r.length by rw[Nat.mod_mod])]
  exact hk _ (Nat.le_of_lt (Nat.mod_lt _ (by omega)))
 obtain⟨j,hj⟩:∃j,nx r (j+1)=nx r k:=⟨k+(r.length-1),by
  rw[show k+(r.length-1)+1=k+r.length by omega]; exact dS r (Nat.add_mod_right k r.length)⟩
 have t0:=h.gS j;have p1:=hp j;have p2:=hp (j+1);have l1:=hk' j;have l2:=hk' (j+2);have l3:=hc' k;rw[←hj] at l1 l2 l3;generalize nx r j=a at *;rw[show j+1+1=j+2 from rfl] at p2
 generalize nx r (j+2)=b at *;generalize nx r (j+1)=t at *;have e:(p.2-t.2)*ti a t b=ti t b p*(a.2-t.2)+ti a t p*(b.2-t.2):=by unfold ti; grind
 have hD:a.2=t.2→b.2=t.2→ti a t b=0:=fun u v=>by
  unfold ti;rw[u,v,Int.sub_self,Int.mul_zero,Int.zero_mul]; rfl
 generalize ti a t b=D at *;have n1:0≤(σ*p.2-σ*t.2)*D:=Int.mul_nonneg (by omega) (by omega)
 have n2:ti t b p*(σ*a.2-σ*t.2)≤0:=Int.mul_nonpos_of_nonneg_of_nonpos (by omega) (by omega)
 have n3:ti a t p*(σ*b.2-σ*t.2)≤0:=Int.mul_nonpos_of_nonneg_of_nonpos (by omega) (by omega)
 have e':(σ*p.2-σ*t.2)*D=ti t b p*(σ*a.2-σ*t.2)+ti a t p*(σ*b.2-σ*t.2):=by
  have:(σ*p.2-σ*t.2)*D=σ*((p.2-t.2)*D):=by grind
  rw[this,e]; grind
 have z1:ti t b p*(σ*a.2-σ*t.2)=0:=by omega
 have z2:ti a t p*(σ*b.2-σ*t.2)=0:=by omega
 have y1:a.2=t.2:=by
  rcases Int.mul_eq_zero.1 z1 with g|g
  ·omega
  ·rcases hσ with rfl|rfl<;>omega
 have y2:b.2=t.2:=by
  rcases Int.mul_eq_zero.1 z2 with g|g
  ·omega
  ·rcases hσ with rfl|rfl<;>omega
 have:=hD y1 y2;omega
theorem CX {f:Nat→Int} {c:Int}:∀n,f 0≤c→c<f n→∃i,i<n∧f i≤c∧c<f (i+1)
 | 0,h0,h1=>by omega
 | n+1,h0,h1=>by
  rcases Int.lt_or_le c (f n) with g|g
  ·obtain⟨i,hi,h⟩:=CX n h0 g;exact⟨i,by omega,h⟩
  ·exact⟨n,Nat.lt_succ_self n,g,h1⟩
theorem Hul.AD (h:Hul S r) {p:I2} (hp:∀i,0<ti (nx r i) (nx r (i+1)) p):0<w6 r p:=by
 have hn:=h.n3;obtain⟨i,hi⟩:=h.level hp 1 (.inl rfl);obtain⟨j,hj⟩:=h.level hp (-1) (.inr rfl);have ge:∀i,0≤wi (nx r i) (nx r (i+1)) p:=fun i=>by
  unfold wi;have:=hp i
  split
  ·decide
  ·rw[if_neg (by omega)]; exact Int.le_refl 0
 have up:∃k,(nx r k).2≤p.2∧p.2<(nx r (k+1)).2:=by
  obtain⟨k,hk,k1,k2⟩:=CX (f:=fun t=>(nx r (j+t)).2) (c:=p.2) (i+j*r.length-j) (by show(nx r (j+0)).2≤p.2; rw[Nat.add_zero]; omega) (by
   show p.2<(nx r (j+(i+j*r.length-j))).2
   have e:j≤j*r.length:=Nat.le_mul_of_pos_right j (by omega)
   rw[show j+(i+j*r.length-j)=i+j*r.length by omega,dS r (Nat.add_mul_mod_self_right i j r.length)]; omega)
  exact⟨j+k,k1,k2⟩
 obtain⟨k,k1,k2⟩:=up;have hk:wi (nx r (k%r.length)) (nx r (k%r.length+1)) p=1:=by
  rw[dS r (show(k%r.length)%r.length=k%r.length by rw[Nat.mod_mod]),dS r (show(k%r.length+1)%r.length=(k+1)%r.length by rw[Nat.mod_add_mod])]
  unfold wi;rw[if_pos ⟨k1,k2,hp k⟩]
 have hkl:k%r.length<r.length:=Nat.mod_lt _ (by omega)
 generalize k%r.length=m at *;unfold w6;have:∀n,(m<n→0<cp n fun i=>wi (nx r i) (nx r (i+1)) p)∧0≤cp n fun i=>wi (nx r i) (nx r (i+1)) p:=fun n=>by
  induction n with
  | zero=>exact⟨fun h=>absurd h (Nat.not_lt_zero _),Int.le_refl 0⟩
  | succ n ih =>
   simp only[cp];have:=ge n;refine⟨fun g=>?_,by omega⟩
   rcases Nat.lt_or_ge m n with q|q
   ·have:=ih.1 q; omega
   ·have:n=m:=by omega
    subst this; omega
 exact(this r.length).1 hkl
theorem Hul.holds (h:Hul S r) {p:I2} (hp:S p):(∃i,i<r.length∧gq (nx r i) (nx r (i+1)) p)∨0<w6 r p:=by
 have hn:=h.n3
 by_cases ho:∃i,i<r.length∧gq (nx r i) (nx r (i+1)) p
 ·exact .inl ho
 ·refine .inr (h.AD fun i=>?_);have no:¬gq (nx r i) (nx r (i+1)) p:=fun g=>ho ⟨i%r.length,Nat.mod_lt _ (by omega),by
   rw[dS r (show(i%r.length)%r.length=i%r.length by rw[Nat.mod_mod]),dS r (show(i%r.length+1)%r.length=(i+1)%r.length by rw[Nat.mod_add_mod])]; exact g⟩
  rcases(h.ir i).2.2 p hp with g|g|g|⟨g1,g2⟩
  ·exact g
  ·exact absurd (by rw[g]; exact FB _ _) no
  ·exact absurd (by rw[g]; exact FY _ _) no
  ·exfalso;refine no ?_;generalize nx r i=a at *;generalize nx r (i+1)=b at *;have key:∀(u v:Int),u*v*1=u*v:=fun _ _=>Int.mul_one _;unfold di at g2;have par:(p.1-a.1)*(b.2-p.2)=(p.2-a.2)*(b.1-p.1):=by unfold ti at g1; grind
   have side:∀{u v s t:Int},u*t=v*s→0<u*s+v*t→0≤u*s:=fun {u v s t} h1 h2=>by
    refine Int.not_lt.1 fun hc=>?_;have h3:0<v*t:=by omega
    have h4:(u*s)*(v*t)=(u*t)*(u*t):=by
     have:(u*s)*(v*t)=(u*t)*(v*s):=by grind
     rw[this,←h1]
    have h5:=Int.mul_neg_of_neg_of_pos hc h3;have h6:=@ry (u*t);omega
   have s1:=side par g2;have s2:=side (u:=p.2-a.2) (v:=p.1-a.1) (s:=b.2-p.2) (t:=b.1-p.1) par.symm (by omega)
   have box:∀{x y z:Int},0≤(z-x)*(y-z)→min x y≤z∧z≤max x y:=fun {x y z} h=>by
    refine⟨Int.not_lt.1 fun g=>?_,Int.not_lt.1 fun g=>?_⟩
    ·have:=Int.mul_neg_of_neg_of_pos (show z-x<0 by omega) (show 0<y-z by omega); omega
    ·have:=Int.mul_neg_of_pos_of_neg (show 0<z-x by omega) (show y-z<0 by omega); omega
   have b1:=box s1;have b2:=box s2;exact⟨g1,b1.1,b1.2,b2.1,b2.2⟩
theorem zr {r':List I2} (h:Hul S r) (h':Hul S r') (h0:nx r 0=nx r' 0):r=r':=by
 have hn:=h.n3;have hn':=h'.n3;have all:∀i,nx r i=nx r' i:=fun i=>by
  induction i with
  | zero=>exact h0
  | succ i ih=>have:=h.ir i; rw[ih] at this; exact pX this (h'.ir i)
 have key:∀{a b:List I2},2<a.length→2<b.length→(∀i j,i<j→j<b.length→nx b i≠nx b j)→(∀i,nx a i=nx b i)→¬a.length<b.length:=fun {a b} ha hb hd e hc=>by
  refine hd 0 a.length (by omega) hc ?_
  rw[←e,←e];unfold nx;rw[Nat.mod_self,Nat.zero_mod]
 have hl:r.length=r'.length:=by
  have k1:=key hn hn' h'.nodup all;have k2:=key hn' hn h.nodup fun i=>(all i).symm;omega
 refine List.ext_getElem hl fun i h1 h2=>?_;have:=all i;unfold nx at this;rw[Nat.mod_eq_of_lt h1,Nat.mod_eq_of_lt h2,List.getD_eq_getElem?_getD,List.getD_eq_getElem?_getD,List.getElem?_eq_getElem h1,List.getElem?_eq_getElem h2] at this;exact this
end
theorem zc {S:I2→Prop}:∀{L:List I2},Way S L→∀i,i+1<L.length→Good S (L.getD i (0,0)) (L.getD (i+1) (0,0))
 | _,.one _,_,h=>absurd h (by simp)
 | _,.more g _,0,_=>g
 | _,.more (l:=l) (b:=b) _ w,i+1,h=>by
  simpa only[List.getD_cons_succ] using zc (L:=b::l) w i (by simpa using h)
theorem Good.same {S T:I2→Prop} (h:∀q,S q↔T q) {x y:I2} (g:Good S x y):Good T x y:=⟨g.1,(h y).1 g.2.1,fun q hq=>g.2.2 q ((h q).2 hq)⟩
theorem Good.less {S T:I2→Prop} (h:∀q,T q→S q) {x y:I2} (hy:T y) (g:Good S x y):Good T x y:=⟨g.1,hy,fun q hq=>g.2.2 q (h q hq)⟩
theorem Hul.same {S T:I2→Prop} (h:∀q,S q↔T q) {r:List I2} (g:Hul S r):Hul T r:=⟨g.n3,fun i=>(g.ir i).same h,g.nodup⟩
theorem hJ {r:List I2} (h:r≠[]) (i:Nat):nx r i ∈ r:=by
 have hl:=List.length_pos_iff.2 h;have hi:=Nat.mod_lt i hl;unfold nx;rw[List.getD_eq_getElem?_getD,List.getElem?_eq_getElem hi];exact List.getElem_mem hi
theorem Hul.ne_nil {S:I2→Prop} {r:List I2} (h:Hul S r):r≠[]:=fun e=>by have:=h.n3; rw[e] at this; simp at this
theorem Hul.self {S:I2→Prop} {r:List I2} (h:Hul S r):Hul (· ∈ r) r :=
 ⟨h.n3,fun i=>(h.ir i).less (fun q hq=>by
  obtain⟨k,hk,rfl⟩:=List.getElem_of_mem hq;have:=h.mem k;unfold nx at this;rwa[Nat.mod_eq_of_lt hk,List.getD_eq_getElem?_getD,List.getElem?_eq_getElem hk] at this) (hJ h.ne_nil _),h.nodup⟩
theorem Ep {S:I2→Prop} {a b:I2} {m u:List I2} (hw:Way S (a::m++b::(u++[a]))) (hq:∀q ∈ m++b::u,Lt a q) (hn:m≠[]∨u≠[]):Hul S (a::m++b::u):=by
 have hlen:(a::m++b::u).length=m.length+u.length+2:=by simp; omega
 have hn3:2<(a::m++b::u).length:=by
  rw[hlen];rcases hn with g|g<;>have:=List.length_pos_iff.2 g<;>omega
 have eC:a::m++b::(u++[a])=(a::m++b::u)++[a]:=by simp
 rw[eC] at hw;have htail:∀i,0<i→i<(a::m++b::u).length→nx (a::m++b::u) i≠a:=fun i h0 hi e=>by
  obtain⟨i,rfl⟩:∃k,i=k+1:=⟨i-1,by omega⟩
  have hi':i<(m++b::u).length:=by simp at hi ⊢; omega
  have:nx (a::m++b::u) (i+1) ∈ m++b::u:=by
   unfold nx;rw[Nat.mod_eq_of_lt hi,List.cons_append,List.getD_cons_succ,List.getD_eq_getElem?_getD,List.getElem?_eq_getElem hi'];exact List.getElem_mem hi'
  have:=hq _ this;rw[e] at this;exact Lt.A0 a this
 have h0:nx (a::m++b::u) 0=a:=by unfold nx; simp
 generalize a::m++b::u=r at *;have hr:0<r.length:=by omega
 have ir:∀i,Good S (nx r i) (nx r (i+1)):=fun i=>by
  have hi:=Nat.mod_lt i hr;have g:=zc hw (i%r.length) (by simp; omega)
  have e1:(r++[a]).getD (i%r.length) (0,0)=nx r i:=by
   unfold nx;rw[List.getD_eq_getElem?_getD,List.getD_eq_getElem?_getD,List.getElem?_append_left hi]
  have e2:(r++[a]).getD (i%r.length+1) (0,0)=nx r (i+1):=by
   have em:=mod_succ (i:=i) hr
   by_cases k:i%r.length+1=r.length
   ·rw[if_pos k] at em;rw[dS r (show(i+1)%r.length=0%r.length by rw[em,Nat.zero_mod]),h0,k,List.getD_eq_getElem?_getD,List.getElem?_append_right (Nat.le_refl _)]
    simp
   ·rw[if_neg k] at em;unfold nx;rw[em,List.getD_eq_getElem?_getD,List.getD_eq_getElem?_getD,List.getElem?_append_left (by omega)]
  rw[e1,e2] at g;exact g
 refine⟨hn3,ir,fun i j hij hj e=>?_⟩;have all:∀t,nx r (i+t)=nx r (j+t):=fun t=>by
  induction t with
  | zero=>exact e
  | succ t ih=>have:=ir (i+t); rw[ih] at this; exact pX this (ir (j+t))
 have:=all (r.length-j);rw[show j+(r.length-j)=r.length by omega,zN,h0] at this
 exact htail _ (by omega) (by omega) this
theorem Br {S:I2→Prop} {a b:I2} (hw:Way S [a,b,a]):∀q,S q→ti a b q=0:=fun q hq=>by
 cases hw with
 | more g1 w =>
  cases w with
  | more g2 _ =>
   have h1:=g1.ge hq;have h2:=g2.ge hq;rw[kF] at h2;omega
theorem yV {a b p q:I2} (hab:a≠b) (hp:ti a b p=0) (hq:ti a b q=0):ti a p q=0:=by
 by_cases hx:a.1=b.1
 ·have e1:=um hx hab hp;have e2:=um hx hab hq;unfold ti; rw[e1,e2]; grind
 ·have:(b.1-a.1)*ti a p q=0:=by
   unfold ti at *;have e1:(b.1-a.1)*(p.2-a.2)=(b.2-a.2)*(p.1-a.1):=by omega
   have e2:(b.1-a.1)*(q.2-a.2)=(b.2-a.2)*(q.1-a.1):=by omega
   have:(b.1-a.1)*((p.1-a.1)*(q.2-a.2)-(p.2-a.2)*(q.1-a.1))=(p.1-a.1)*((b.1-a.1)*(q.2-a.2))-((b.1-a.1)*(p.2-a.2))*(q.1-a.1):=by grind
   rw[this,e1,e2]; grind
  rcases Int.mul_eq_zero.1 this with g|g
  ·omega
  ·exact g
theorem Hul.wrap {S:I2→Prop} {r:List I2} (h:Hul S r) {l:List I2} (hl:∀q,q ∈ l↔S q) (k:Nat):l.foldl (oR (nx r k)) (nx r k)=nx r (k+1) :=
 pS (h.ir k) l (nx r k) (fun q hq=>(hl q).1 hq) (h.mem k) (.inl ((hl _).2 (h.mem (k+1))))
end Jd
end

section
namespace Go.Proofs.YthmekkhpddehjaaGreat
open Go Go.Ab Go.Ab.W Go.Ab.B Jd
section
variable {l : List Nat}
end
structure Dr (l:List Nat) (x5 x6:Int) (x7:Nat):Prop where
 b:∀x ∈ l,x<256
 x : -32768≤x5∧x5≤32767
 y : -32768≤x6∧x6≤32767
 s:x7<256
def wV (l:List I2):Prop:=∀q ∈ l,kT q.1∧kT q.2
theorem GH {p:I2} (h:Nr p):kT p.1∧kT p.2:=by unfold Nr at h; unfold kT; omega
theorem Ok.pt {l:List I2} (h:Ok l):wV l:=fun q hq=>by
 obtain⟨j,hj,e⟩:=List.mem_iff_getElem.1 hq;have e2:nx l j=q:=by
  unfold nx;rw[Nat.mod_eq_of_lt hj,List.getD_eq_getElem?_getD,List.getElem?_eq_getElem hj]; exact e
 rw[←e2];exact GH (h.nr j)
structure Bd (x2 x3:Nat) (x4 x5:Int):Prop where
 at_:x2<256
 to:x3<256
 x:kT x4
 y:kT x5
theorem oL {σ τ ρ:Type} {B:τ→Option (τ ⊕ ρ)} {len:Nat} (st:Nat→σ→τ) (inv:Nat→σ→Prop) (Post:ρ→Prop)
  (hB:∀i s,i<len→inv i s→(∃s',B (st i s)=some (.inl (st (i+1) s'))∧inv (i+1) s')∨∃r,B (st i s)=some (.inr r)∧Post r)
  (hE:∀s,inv len s→∃r,B (st len s)=some (.inr r)∧Post r):∀(k i:Nat) (s:σ) (n:Nat),i+k=len→k<n→inv i s→∃r,cy B n (st i s)=some r∧Post r
 | 0,i,s,n+1,h,_,hi=>by
  rw[Nat.add_zero] at h; subst h;obtain⟨r,h1,h2⟩:=hE s hi;exact⟨r,dy h1,h2⟩
 | k+1,i,s,n+1,h,hn,hi=>by
  rcases hB i s (by omega) hi with⟨s',h1,h2⟩|⟨r,h1,h2⟩
  ·rw[cZ h1]; exact oL st inv Post hB hE k (i+1) s' n (by omega) (by omega) h2
  ·exact⟨r,dy h1,h2⟩
theorem sJ {f:Nat→Int} (h:∀i,-8000000000000≤f i∧f i≤8000000000000):∀n:Nat,-(8000000000000*(n:Int))≤cp n f∧cp n f≤8000000000000*(n:Int)
 | 0=>by simp[cp]
 | n+1=>by
  have h1:=sJ h n;have h2:=h n;simp only[cp];omega
section
variable {l : List I2} (n : Nat)
def Gg (l:List I2) (o:I2) (i:Nat):Int:=((nx l i).1-o.1)*((nx l (i+1)).2-o.2)-((nx l i).2-o.2)*((nx l (i+1)).1-o.1)
theorem FH {a b o:I2} (ha:Nr a) (hb:Nr b) (ho:Nr o) : -8000000000000≤(a.1-o.1)*(b.2-o.2)-(a.2-o.2)*(b.1-o.1)∧(a.1-o.1)*(b.2-o.2)-(a.2-o.2)*(b.1-o.1)≤8000000000000:=by
 unfold Nr at ha hb ho;have m1:=fP (B:=2000000) (C:=2000000) (u:=a.1-o.1) (v:=b.2-o.2) (by decide) (by omega) (by omega) (by omega) (by omega)
 have m2:=fP (B:=2000000) (C:=2000000) (u:=a.2-o.2) (v:=b.1-o.1) (by decide) (by omega) (by omega) (by omega) (by omega)
 omega
theorem EU {a b o:I2} (ha:Nr a) (hb:Nr b) (ho:Nr o) {s:Int} (hs : -8000000000000000≤s∧s≤8000000000000000) :
  IntKind.wrap .i64 (IntKind.wrap .i64 (s+IntKind.wrap .i64 ((IntKind.wrap .i64 (a.1-o.1))*(IntKind.wrap .i64 (b.2-o.2))))-IntKind.wrap .i64 ((IntKind.wrap .i64 (a.2-o.2))*(IntKind.wrap .i64 (b.1-o.1))))=s+((a.1-o.1)*(b.2-o.2)-(a.2-o.2)*(b.1-o.1)):=by
 unfold Nr at ha hb ho;have m1:=fP (B:=2000000) (C:=2000000) (u:=a.1-o.1) (v:=b.2-o.2) (by decide) (by omega) (by omega) (by omega) (by omega)
 have m2:=fP (B:=2000000) (C:=2000000) (u:=a.2-o.2) (v:=b.1-o.1) (by decide) (by omega) (by omega) (by omega) (by omega)
 rw[aG (x:=a.1-o.1) (by omega) (by omega),aG (x:=b.2-o.2) (by omega) (by omega),aG (x:=a.2-o.2) (by omega) (by omega),aG (x:=b.1-o.1) (by omega) (by omega)]
 generalize (a.1-o.1)*(b.2-o.2)=u at *;generalize (a.2-o.2)*(b.1-o.1)=v at *;rw[aG (x:=u) (by omega) (by omega),aG (x:=v) (by omega) (by omega),aG (x:=s+u) (by omega) (by omega),aG (by omega) (by omega)]
 omega
theorem A4 (h:0<l.length):bX 0 l.length=true:=decide_eq_true ⟨Int.le_refl 0,h⟩
theorem Cs (h:0<l.length):l[(0:Int).toNat]? = some ((nx l 0).1,(nx l 0).2):=dL (i:=0) h
open Classical in
theorem DJ (h64:wV l) (hn:l.length<n) (h5:41<n):Ey n l=some (if rz l then(DC l,0) else(0,140)):=by
 unfold Ey;rw[uT n h64 hn h5,au]
 by_cases h:rz l
 ·have hok:=qR.1 h;have hL:=hok.len;have h3:=hok.vr.n3;have hnr:=hok.nr;have hb:∀i,-8000000000000≤Gg l (nx l 0) i∧Gg l (nx l 0) i≤8000000000000:=fun i=>FH (hnr i) (hnr (i+1)) (hnr 0);have L:∃r,cy (pC n l) n (((0:Nat):Int),(0:Int))=some r∧r=DC l:=by
   refine oL (len:=l.length) (fun i (s:Int)=>((i:Int),s)) (fun i s=>s=cp i (Gg l (nx l 0))) _ (fun i s hi hs=>?_) (fun s hs=>?_) l.length 0 0 n (by omega) hn rfl
   ·have hbi:=sJ hb i;refine .inl ⟨s+Gg l (nx l 0) i,?_,by rw[hs]; rfl⟩
    unfold pC
    try dsimp only
    rw[bj (by omega),aX hi,bA,dL hi,au]
    try dsimp only
    rw[aY (by omega),fy i hi (by omega)]
    try dsimp only
    rw[A4 (by omega),bA,Cs (by omega),au]
    try dsimp only
    rw[bA,au,bA,bA,au,au,EU (hnr i) (hnr (i+1)) (hnr 0) (by rw[hs]; omega)]
    rfl
   ·refine⟨s,?_,by rw[hs]; exact sF l (nx l 0)⟩
    unfold pC
    try dsimp only
    rw[bl (by omega)]
  obtain⟨r,h1,h2⟩:=L;have h1':cy (pC n l) n (0,0)=some r:=h1;rw[if_pos h,if_pos h,show(!decide ((0:Int)=0))=false from rfl,ey,au,h1',au,au,h2]
 ·rw[if_neg h,if_neg h]; rfl
def pj (p:Nat→Bool):Nat→Bool
 | 0=>false
 | i+1=>pj p i || p i
def lf (l:List I2) (i:Nat):Bool:=decide (0<ti (nx l i) (nx l (i+1)) (nx l (i+2)))
def rt (l:List I2) (i:Nat):Bool:=decide (ti (nx l i) (nx l (i+1)) (nx l (i+2))<0)
def zt (l:List I2) (i:Nat):Bool:=decide (ti (nx l i) (nx l (i+1)) (nx l (i+2))=0)
def Gl (l:List I2):Bool:=!(pj (lf l) l.length == pj (rt l) l.length)
theorem Ay {i:Nat} (h:i<1000000):IntKind.wrap .i64 ((i:Int)+2)=((i+2:Nat):Int):=by rw[aG (by omega) (by omega)]; rfl
theorem yJ (i:Nat) (hl:0<l.length) {β:Type} (K:Int × Int→Option β) :
  gd (decide ((l.length:Int)≠0)) (gd (bX (Int.tmod ((i+2:Nat):Int) (l.length:Int)) l.length) (ob (l[(Int.tmod ((i+2:Nat):Int) (l.length:Int)).toNat]?) K))=K ((nx l (i+2)).1,(nx l (i+2)).2):=by
 have hm:(i+2)%l.length<l.length:=Nat.mod_lt _ (by omega)
 rw[decide_eq_true (show((l.length:Nat):Int)≠0 by omega),bA,q8,aX hm,bA,dL hm,au,p6]
open Classical in
theorem Eb (h64:wV l) (hn:l.length<n) (h5:41<n):Ez n l=some (if rz l then(Gl l,0) else(false,140)):=by
 unfold Ez;rw[uT n h64 hn h5,au]
 by_cases h:rz l
 ·have hok:=qR.1 h;have hL:=hok.len;have h3:=hok.vr.n3;have hnr:=hok.nr;have L:∃r,cy (pB n l) n (((0:Nat):Int),[false,false,false])=some r∧r = [pj (rt l) l.length,pj (zt l) l.length,pj (lf l) l.length]:=by
   refine oL (len:=l.length) (fun i (s:List Bool)=>((i:Int),s)) (fun i s=>s = [pj (rt l) i,pj (zt l) i,pj (lf l) i]) _ (fun i s hi hs=>?_) (fun s hs=>?_) l.length 0 [false,false,false] n (by omega) hn rfl
   ·refine .inl ⟨[pj (rt l) (i+1),pj (zt l) (i+1),pj (lf l) (i+1)],?_,rfl⟩;unfold pB
    try dsimp only
    rw[bj (by omega),aX hi,bA,dL hi,au]
    try dsimp only
    rw[aY (by omega),fy i hi (by omega)]
    try dsimp only
    rw[Ay (by omega),yJ i (by omega)]
    try dsimp only
    rw[hM n (hnr i) (hnr (i+1)) (hnr (i+2)),au,hs];simp only[pj,rt,lf,zt];generalize ti (nx l i) (nx l (i+1)) (nx l (i+2))=z;rcases Int.lt_trichotomy z 0 with g|g|g
    ·rw[show sg z = -1 by unfold sg; rw[if_pos g],decide_eq_true g,decide_eq_false (show ¬z=0 by omega),decide_eq_false (show ¬0<z by omega),Bool.or_true,Bool.or_false,Bool.or_false]
     rfl
    ·rw[show sg z=0 by rw[g]; rfl,decide_eq_false (show ¬z<0 by omega),decide_eq_true g,decide_eq_false (show ¬0<z by omega),Bool.or_true,Bool.or_false,Bool.or_false]
     rfl
    ·rw[show sg z=1 by unfold sg; rw[if_neg (by omega),if_pos g],decide_eq_false (show ¬z<0 by omega),decide_eq_false (show ¬z=0 by omega),decide_eq_true g,Bool.or_true,Bool.or_false,Bool.or_false]
     rfl
   ·refine⟨s,?_,hs⟩;unfold pB
    try dsimp only
    rw[bl (by omega)]
  obtain⟨r,h1,h2⟩:=L;have h1':cy (pB n l) n (0,[false,false,false])=some r:=h1;rw[if_pos h,if_pos h,show(!decide ((0:Int)=0))=false from rfl,ey,au,h1',au,au,h2]
  show some (!(pj (rt l) l.length == pj (lf l) l.length),(0:Int))=_
  unfold Gl;cases pj (rt l) l.length<;>cases pj (lf l) l.length<;>rfl
 ·rw[if_neg h,if_neg h]; rfl
open Classical in
noncomputable def side (l:List I2) (p:I2):Int:=if ∃i,i<l.length∧gq (nx l i) (nx l (i+1)) p then 1 else if w6 l p=0 then 0 else 2
theorem zl (l:List I2) (p:I2):∀i:Nat,-(i:Int)≤cp i (fun i=>wi (nx l i) (nx l (i+1)) p)∧cp i (fun i=>wi (nx l i) (nx l (i+1)) p)≤(i:Int)
 | 0=>by simp[cp]
 | i+1=>by
  have h1:=zl l p i;have h2:=y5 (nx l i) (nx l (i+1)) p;simp only[cp];omega
open Classical in
theorem D1 (h64:wV l) {p:I2} (hp:kT p.1∧kT p.2) (hn:l.length<n) (h5:41<n):CD n l p.1 p.2=some (if rz l then(if Fa p then(0,2) else(side l p,0)) else(0,140)):=by
 unfold CD;rw[uT n h64 hn h5,au]
 by_cases h:rz l
 ·have hok:=qR.1 h;have hL:=hok.len;have h3:=hok.vr.n3;have hnr:=hok.nr;rw[if_pos h,if_pos h,show(!decide ((0:Int)=0))=false from rfl,ey,ug n hp.1 hp.2,au]
  by_cases hf:Fa p
  ·rw[bj (show Fa (p.1,p.2) from hf),if_pos hf]
  ·have hpn:Nr p:=wJ.1 hf;rw[bl (show ¬Fa (p.1,p.2) from hf),if_neg hf,au]
   have L:∃r,cy (nK n l p.1 p.2) n (((0:Nat):Int),(0:Int))=some r∧match r with
     | .inl _=>∃i,i<l.length∧gq (nx l i) (nx l (i+1)) p
     | .inr w=>(∀i,i<l.length→¬gq (nx l i) (nx l (i+1)) p)∧w=w6 l p:=by
    refine oL (len:=l.length) (fun i (s:Int)=>((i:Int),s)) (fun i s=>(∀j,j<i→¬gq (nx l j) (nx l (j+1)) p)∧s=cp i fun i=>wi (nx l i) (nx l (i+1)) p) _ (fun i s hi hs=>?_) (fun s hs=>?_) l.length 0 0 n (by omega) hn ⟨fun j hj=>absurd hj (Nat.not_lt_zero _),rfl⟩
    ·have hw:=zl l p i;have hwi:=y5 (nx l i) (nx l (i+1)) p;have hbase:nK n l p.1 p.2 ((i:Int),s)=if gq (nx l i) (nx l (i+1)) p then some (.inr (.inl s)) else some (.inl (((i+1:Nat):Int),s+wi (nx l i) (nx l (i+1)) p)):=by
      unfold nK
      try dsimp only
      rw[bj (by omega),aX hi,bA,dL hi,au]
      try dsimp only
      rw[aY (by omega),fy i hi (by omega)]
      try dsimp only
      rw[uZ n _ (hnr i) (hnr (i+1)) hpn (hok.vr.still i) (by omega),au]
      by_cases hb:gq (nx l i) (nx l (i+1)) p
      ·rw[bj hb,au,if_pos hb]
      ·rw[bl hb,if_neg hb,hM n (hnr i) (hnr (i+1)) hpn,au,hZ,hZ,au];have s1:=jI (z:=ti (nx l i) (nx l (i+1)) p);have s2:=nJ (z:=ti (nx l i) (nx l (i+1)) p);unfold wi
       by_cases c1:(nx l i).2≤p.2∧p.2<(nx l (i+1)).2∧0<ti (nx l i) (nx l (i+1)) p
       ·rw[if_pos c1,decide_eq_true c1.1,decide_eq_true c1.2.1,decide_eq_true (s1.2 c1.2.2),Bool.true_and,Bool.true_and,jr,au,aG (by rw[hs.2]; omega) (by rw[hs.2]; omega)]
       ·have e1:(decide ((nx l i).2≤p.2) && (decide (p.2<(nx l (i+1)).2) && decide (0<sg (ti (nx l i) (nx l (i+1)) p))))=false:=by
         rw[←Bool.decide_and,←Bool.decide_and]; exact decide_eq_false fun g=>c1 ⟨g.1,g.2.1,s1.1 g.2.2⟩
        rw[if_neg c1,e1,ey,hZ,hZ,au]
        by_cases c2:(nx l (i+1)).2≤p.2∧p.2<(nx l i).2∧ti (nx l i) (nx l (i+1)) p<0
        ·rw[if_pos c2,decide_eq_true c2.1,decide_eq_true c2.2.1,decide_eq_true (s2.2 c2.2.2),Bool.true_and,Bool.true_and,jr,au,aG (by rw[hs.2]; omega) (by rw[hs.2]; omega)]
         rfl
        ·have e2:(decide (p.2<(nx l i).2) && (decide ((nx l (i+1)).2≤p.2) && decide (sg (ti (nx l i) (nx l (i+1)) p)<0)))=false:=by
          rw[←Bool.decide_and,←Bool.decide_and]; exact decide_eq_false fun g=>c2 ⟨g.2.1,g.1,s2.1 g.2.2⟩
         rw[if_neg c2,e2,ey,au,Int.add_zero]
     by_cases hb:gq (nx l i) (nx l (i+1)) p
     ·exact .inr ⟨.inl s,by rw[hbase,if_pos hb],⟨i,hi,hb⟩⟩
     ·refine .inl ⟨s+wi (nx l i) (nx l (i+1)) p,by rw[hbase,if_neg hb],fun j hj=>?_,by rw[hs.2]; rfl⟩
      by_cases e:j=i
      ·rw[e]; exact hb
      ·exact hs.1 j (by omega)
    ·refine⟨.inr s,?_,hs.1,hs.2⟩;unfold nK
     try dsimp only
     rw[bl (by omega)]
   obtain⟨r,h1,h2⟩:=L;have h1':cy (nK n l p.1 p.2) n (0,0)=some r:=h1;rw[h1',au];unfold side;cases r with
   | inl s =>
    dsimp only at h2
    rw[if_pos h2]
    rfl
   | inr w =>
    obtain⟨g1,g2⟩:=h2;rw[if_neg (fun⟨i,a,b⟩=>g1 i a b)]
    try dsimp only
    rw[au]
    try dsimp only
    rw[g2]
    by_cases e:w6 l p=0
    ·rw[decide_eq_true e,Bool.not_true,ey,if_pos e]
    ·rw[decide_eq_false e,Bool.not_false,jr,if_neg e]
 ·rw[if_neg h,if_neg h]; rfl
end
def sN (acc:List I2) (x:I2):List I2:=if acc.getLast? = some x then acc else acc++[x]
def dd (l:List I2):List I2:=l.foldl sN []
theorem Bf (l:List I2) (x:I2):dd (l++[x])=sN (dd l) x:=by unfold dd; rw[List.foldl_append]; rfl
theorem tl (acc:List I2) (x:I2):(sN acc x).getLast? = some x:=by
 unfold sN
 split
 ·assumption
 ·simp
theorem E0 {a b:I2} (h:Lx a b) (hne:a≠b):Lt a b:=by
 unfold Lx at h; unfold Jd.Lt;rcases h with h|⟨h1,h2⟩
 ·exact .inl h
 ·refine .inr ⟨h1,?_⟩;rcases Int.lt_or_eq_of_le h2 with h|h
  ·exact h
  ·exact absurd (Prod.ext h1 h) hne
theorem yA:∀(l acc done:List I2),(done++l).Pairwise Lx→acc.Pairwise Lt→(∀q,q ∈ acc↔q ∈ done)→acc.getLast? = done.getLast? →
  (l.foldl sN acc).Pairwise Lt∧∀q,q ∈ l.foldl sN acc↔q ∈ done++l
 | [],acc,done,_,h2,h3,_=>⟨h2,fun q=>by rw[List.append_nil]; exact h3 q⟩
 | x::l,acc,done,h1,h2,h3,h4=>by
  have e:done++x::l=(done++[x])++l:=by simp
  rw[List.foldl_cons,e];refine yA l (sN acc x) (done++[x]) (by rw[←e]; exact h1) ?_ (fun q=>?_) (by rw[tl]; simp)
  ·unfold sN
   split
   ·exact h2
   ·rename_i hx;refine List.pairwise_append.2 ⟨h2,by simp,fun a ha b hb=>?_⟩
    rw[List.mem_singleton] at hb; subst hb;have hax:Lx a b:=(List.pairwise_append.1 h1).2.2 a ((h3 a).1 ha) b List.mem_cons_self;refine E0 hax fun hab=>?_;subst hab;obtain⟨y,hy⟩:∃y,acc.getLast? = some y:=by
     cases hc:acc.getLast? with
     | none=>rw[List.getLast?_eq_none_iff] at hc; rw[hc] at ha; cases ha
     | some y=>exact⟨y,rfl⟩
    obtain⟨m,hm⟩:=List.getLast?_eq_some_iff.1 hy;rw[hm] at ha;rcases List.mem_append.1 ha with g|g
    ·have l1:Lt a y:=by rw[hm] at h2; exact(List.pairwise_append.1 h2).2.2 a g y (by simp)
     have l2:Lx y a:=(List.pairwise_append.1 h1).2.2 y ((h3 y).1 (by rw[hm]; simp)) a List.mem_cons_self
     unfold Jd.Lt at l1; unfold Lx at l2; omega
    ·rw[List.mem_singleton] at g; subst g; exact hx hy
  ·unfold sN
   split
   ·rename_i hx;rw[h3];have hxm:x ∈ acc:=List.mem_of_getLast? hx;constructor
    ·intro h; exact List.mem_append_left _ h
    ·intro h;rcases List.mem_append.1 h with h|h
     ·exact h
     ·rw[List.mem_singleton] at h; subst h; exact(h3 _).1 hxm
   ·rw[List.mem_append,List.mem_append,h3]
theorem jg (x y:I2):cB x y=true↔Lx x y:=by unfold cB Lx; rw[decide_eq_true_eq]
theorem wk (l:List I2):(l.mergeSort cB).Pairwise Lx :=
 (List.pairwise_mergeSort (le:=cB) (fun a b c h1 h2=>by rw[jg] at *; unfold Lx at *; omega) (fun a b=>by rw[Bool.or_eq_true,jg,jg]; unfold Lx; omega) l).imp fun h=>(jg _ _).1 h
def ji (l:List I2):List I2:=dd (l.mergeSort cB)
theorem Ei (l:List I2):(ji l).Pairwise Lt:=(yA (l.mergeSort cB) [] [] (wk l) List.Pairwise.nil (fun q=>by simp) rfl).1
theorem ve (l:List I2) (q:I2):q ∈ ji l↔q ∈ l:=by
 have:=(yA (l.mergeSort cB) [] [] (wk l) List.Pairwise.nil (fun q=>by simp) rfl).2 q
 unfold ji dd;rw[this,List.nil_append,List.mem_mergeSort]
theorem e6 {S:List I2} {m:Nat} (hm:m<S.length):dd (S.take (m+1))=sN (dd (S.take m)) (S[m]'hm):=by
 rw[List.take_succ_eq_append_getElem hm,Bf]
theorem vF {S:List I2} {m:Nat} (hm:m<S.length):(dd (S.take (m+1))).getLast? = some (S[m]'hm):=by rw[e6 hm,tl]
theorem j4 (n:Nat) {S0 S:List I2} {k0:Nat} (hS0:S0.length=S.length) (hk0:0<k0) (hN:S.length<1000):∀(d m j k:Nat) (L:List I2),k0+j+d=S.length→0<j→k<k0+j→L.length=S.length→(∀i,k≤i→L[i]? = S[i]?)→L.take k=dd (S.take (k0+j))→d<m →
  ∃(L':List I2) (k':Nat),cy (oo n S0 (k0:Int)) m (L,(k:Int),(j:Int))=some (L',(k':Int))∧L'.length=S.length∧k'≤k+d∧k'<S.length∧L'.take k'=dd S
 | 0,m+1,j,k,L,hd,hj,hk,hl,hi,ht,_=>by
  refine⟨L,k,dy ?_,hl,Nat.le_refl _,by omega,by rw[ht,show k0+j=S.length by omega,List.take_length]⟩
  unfold oo
  try dsimp only
  rw[Int.toNat_natCast,bl (by rw[hS0]; omega)]
 | d+1,m+1,j,k,L,hd,hj,hk,hl,hi,ht,hm=>by
  have hx:k0+j<S.length:=by omega
  have hy:k0+(j-1)<S.length:=by omega
  have gx:L[k0+j]? = some (S[k0+j]'hx):=by rw[hi _ (by omega),List.getElem?_eq_getElem hx]
  have gy:L[k0+(j-1)]? = some (S[k0+(j-1)]'hy):=by rw[hi _ (by omega),List.getElem?_eq_getElem hy]
  have hlast:(dd (S.take (k0+j))).getLast? = some (S[k0+(j-1)]'hy):=by
   have:=vF hy;rwa[show k0+(j-1)+1=k0+j by omega] at this
  have hsucc:dd (S.take (k0+(j+1)))=if S[k0+(j-1)]'hy=S[k0+j]'hx then L.take k else L.take k++[S[k0+j]'hx]:=by
   rw[show k0+(j+1)=k0+j+1 by omega,e6 hx,ht]
   unfold sN;rw[hlast]
   by_cases h:S[k0+(j-1)]'hy=S[k0+j]'hx
   ·rw[if_pos (by rw[h]),if_pos h]
   ·rw[if_neg (fun e=>h (Option.some.inj e)),if_neg h]
  have body:∀(L2:List I2) (k2:Nat),(if S[k0+(j-1)]'hy=S[k0+j]'hx then(L,(k:Int)) else(L.set k (S[k0+j]'hx),((k+1:Nat):Int)))=(L2,(k2:Int))→oo n S0 (k0:Int) (L,(k:Int),(j:Int))=some (.inl (L2,(k2:Int),((j+1:Nat):Int))):=fun L2 k2 he=>by
   have hkL:k<L.length:=by omega
   unfold oo
   try dsimp only
   rw[Int.toNat_natCast,Int.toNat_natCast,bj (by rw[hS0]; omega),aX (by rw[hS0]; omega),bA,gx,au]
   try dsimp only
   have ew:IntKind.wrap .i64 ((j:Int)-1)=((j-1:Nat):Int):=by rw[aG (by omega) (by omega)]; omega
   rw[ew,aX (by rw[hS0]; omega),bA,Int.toNat_natCast,gy,au]
   try dsimp only
   rw[gD,bA,aX (by rw[hS0]; omega),bA,Int.toNat_natCast,List.getElem?_eq_getElem hkL,au]
   try dsimp only
   rw[aY (by omega),aY (by omega)]
   by_cases h:S[k0+(j-1)]'hy=S[k0+j]'hx
   ·rw[if_pos h] at he;cases he;rw[decide_eq_true h.symm,Bool.not_true,ey,au]
   ·rw[if_neg h] at he;rw[decide_eq_false (fun e=>h e.symm),Bool.not_false,jr,au];have e1:=congrArg Prod.fst he;have e2:=congrArg Prod.snd he
    dsimp only at e1 e2 ⊢
    rw[←e1,←e2]
  by_cases h:S[k0+(j-1)]'hy=S[k0+j]'hx
  ·rw[cZ (body L k (by rw[if_pos h]))]
   rw[if_pos h] at hsucc;obtain⟨L',k',r1,r2,r3,r4,r5⟩:=j4 n hS0 hk0 hN d m (j+1) k L (by omega) (by omega) (by omega) hl hi hsucc.symm (by omega)
   exact⟨L',k',r1,r2,by omega,r4,r5⟩
  ·rw[cZ (body (L.set k (S[k0+j]'hx)) (k+1) (by rw[if_neg h]))]
   rw[if_neg h] at hsucc;obtain⟨L',k',r1,r2,r3,r4,r5⟩:=j4 n hS0 hk0 hN d m (j+1) (k+1) (L.set k (S[k0+j]'hx)) (by omega) (by omega) (by omega) (by rw[List.length_set]; exact hl) (fun i hi'=>by rw[List.getElem?_set_ne (by omega)]; exact hi i (by omega)) (by
    rw[hsucc,List.take_succ_eq_append_getElem (by rw[List.length_set]; omega),List.getElem_set_self]
    congr 1
    rw[List.take_set_of_le (Nat.le_refl _)]) (by omega)
   exact⟨L',k',r1,r2,by omega,r4,r5⟩
theorem nv (n:Nat) {S0 S:List I2} (hS0:S0.length=S.length) (hN:S.length<1000) (hn:S.length+2<n):∀(d m k:Nat),k+d=S.length→0<k→dd (S.take k)=S.take k→d<m →
  ∃r,cy (ku n S0 S) m (k:Int)=some r∧(match r with | .inl l=>l=dd S | .inr _=>S=dd S)
 | 0,m+1,k,hd,hk,hdd,_=>by
  refine⟨.inr (),dy ?_,?_⟩
  ·unfold ku
   try dsimp only
   rw[bl (by rw[hS0]; omega)]
  ·dsimp only
   rw[show k=S.length by omega,List.take_length] at hdd
   exact hdd.symm
 | d+1,m+1,k,hd,hk,hdd,hm=>by
  have hx:k<S.length:=by omega
  have hy:k-1<S.length:=by omega
  have hlast:(dd (S.take k)).getLast? = some (S[k-1]'hy):=by
   have:=vF hy;rwa[show k-1+1=k by omega] at this
  have ew:IntKind.wrap .i64 ((k:Int)-1)=((k-1:Nat):Int):=by rw[aG (by omega) (by omega)]; omega
  by_cases h:S[k]'hx=S[k-1]'hy
  ·have ht:S.take k=dd (S.take (k+1)):=by
    rw[e6 hx,hdd];unfold sN;rw[hdd] at hlast;rw[if_pos (by rw[hlast,h])]
   obtain⟨L',k',r1,r2,r3,r4,r5⟩:=j4 n hS0 hk hN d n 1 k S (by omega) (by omega) (by omega) rfl (fun i _=>rfl) ht (by omega)
   refine⟨.inl (dd S),dy ?_,rfl⟩;unfold ku
   try dsimp only
   rw[bj (by rw[hS0]; omega),aX (by rw[hS0]; exact hx),bA,Int.toNat_natCast,List.getElem?_eq_getElem hx,au]
   try dsimp only
   rw[ew,aX (by rw[hS0]; exact hy),bA,Int.toNat_natCast,List.getElem?_eq_getElem hy,au]
   try dsimp only
   rw[gD,bj h,bA];have r1':cy (oo n S0 (k:Int)) n (S,(k:Int),1)=some (L',(k':Int)):=r1;rw[r1',au]
   try dsimp only
   rw[aX (by rw[hS0]; exact r4),bA,show okB 0 (k':Int) S0.length=true from decide_eq_true (by rw[hS0]; omega),bA,vS (by rw[hS0]; omega),au,Int.toNat_natCast]
   rw[List.take_append_of_le_length (by rw[List.length_take,r2]; omega),List.take_take,Nat.min_self,r5]
  ·have hdd':dd (S.take (k+1))=S.take (k+1):=by
    rw[e6 hx,hdd];unfold sN;rw[hdd] at hlast;rw[if_neg (by rw[hlast]; exact fun e=>h (Option.some.inj e).symm),List.take_succ_eq_append_getElem hx]
   obtain⟨r,r1,r2⟩:=nv n hS0 hN hn d m (k+1) (by omega) (by omega) hdd' (by omega)
   refine⟨r,?_,r2⟩;rw[cZ (s':=((k+1:Nat):Int)),r1];unfold ku
   try dsimp only
   rw[bj (by rw[hS0]; omega),aX (by rw[hS0]; exact hx),bA,Int.toNat_natCast,List.getElem?_eq_getElem hx,au]
   try dsimp only
   rw[ew,aX (by rw[hS0]; exact hy),bA,Int.toNat_natCast,List.getElem?_eq_getElem hy,au]
   try dsimp only
   rw[gD,bl h,aY (by omega)]
theorem Bq {a b p:I2} {st:List I2} (h:ti a b p≤0):pop p (b::a::st)=pop p (a::st):=by rw[pop,if_pos h]
theorem Bb {a b p:I2} {st:List I2} (h:¬ti a b p≤0):pop p (b::a::st)=b::a::st:=by rw[pop,if_neg h]
def xw (p:I2):List I2→Option (List I2 ⊕ List I2)
 | b::a::st=>if ti a b p≤0 then some (.inl (a::st).reverse) else some (.inr (b::a::st).reverse)
 | st=>some (.inr st.reverse)
section
variable (n : Nat)
theorem rG {p:I2} (f:List I2→Option (List I2 ⊕ List I2)) (hf:∀st:List I2,st.length<1000→(∀q ∈ st,Nr q)→f st.reverse=xw p st):∀(st:List I2) (m:Nat),st.length<1000→(∀q ∈ st,Nr q)→st.length<m→cy f m st.reverse=some (pop p st).reverse
 | [],m+1,h1,h2,_=>by rw[dy (hf [] h1 h2)]; rfl
 | [b],m+1,h1,h2,_=>by rw[dy (hf [b] h1 h2)]; rfl
 | b::a::st,m+1,h1,h2,hm=>by
  have e:=hf (b::a::st) h1 h2
  by_cases h:ti a b p≤0
  ·rw[show xw p (b::a::st)=some (.inl (a::st).reverse) from if_pos h] at e
   rw[cZ e,rG f hf (a::st) m (by simp at h1 ⊢; omega) (fun q hq=>h2 q (List.mem_cons_of_mem _ hq)) (by simp at hm ⊢; omega),Bq h]
  ·rw[show xw p (b::a::st)=some (.inr (b::a::st).reverse) from if_neg h] at e
   rw[dy e,Bb h]
theorem yM {p:I2} (hp:Nr p) (st:List I2) (hl:st.length<1000) (hst:∀q ∈ st,Nr q):lY n p.1 p.2 st.reverse=xw p st:=by
 match st,hl,hst with
 | [],_,_ =>
  unfold lY
  try dsimp only
  rw[bl (by simp),au,ey]
  rfl
 | [b],_,_ =>
  unfold lY
  try dsimp only
  rw[bl (by simp),au,ey]
  rfl
 | b::a::st,hl,hst =>
  simp only[List.length_cons] at hl;have hlen:((b::a::st).reverse).length=st.length+2:=by simp
  have ew2:IntKind.wrap .i64 (((st.length+2:Nat):Int)-2)=((st.length:Nat):Int):=by rw[aG (by omega) (by omega)]; omega
  have ew1:IntKind.wrap .i64 (((st.length+2:Nat):Int)-1)=((st.length+1:Nat):Int):=by rw[aG (by omega) (by omega)]; omega
  have ga:((b::a::st).reverse)[st.length]? = some a:=by
   rw[List.getElem?_reverse (by simp; omega)]; simp
  have gb:((b::a::st).reverse)[st.length+1]? = some b:=by
   rw[List.getElem?_reverse (by simp)]; simp
  have ht:((b::a::st).reverse).take (st.length+1)=(a::st).reverse:=by
   rw[List.reverse_cons,List.take_append_of_le_length (by simp),List.take_of_length_le (by simp)]
  unfold lY
  try dsimp only
  rw[hlen,bj (by omega),ew2,ew1,aX (by omega),bA,Int.toNat_natCast,ga,au]
  try dsimp only
  rw[aX (by omega),bA,Int.toNat_natCast,gb,au]
  try dsimp only
  rw[hM n (hst a (by simp)) (hst b (by simp)) hp,au,au]
  by_cases h:ti a b p≤0
  ·rw[show xw p (b::a::st)=some (.inl (a::st).reverse) from if_pos h,bj (by have:=jI (z:=ti a b p); omega),show okB 0 ((st.length+1:Nat):Int) (st.length+2)=true from decide_eq_true (by omega),bA,vS (by omega),au,ht]
  ·rw[show xw p (b::a::st)=some (.inr (b::a::st).reverse) from if_neg h,bl (by have:=jI (z:=ti a b p); omega)]
theorem nB (p:I2):∀st:List I2,(pop p st).length≤st.length
 | []=>by simp[pop]
 | [b]=>by simp[pop]
 | b::a::st=>by
  unfold pop
  split
  ·have:=nB p (a::st); simp at this ⊢; omega
  ·simp
theorem wq (p:I2):∀st:List I2,∀q ∈ pop p st,q ∈ st
 | [],q,h=>by simp[pop] at h
 | [b],q,h=>by simpa [pop] using h
 | b::a::st,q,h=>by
  unfold pop at h
  split at h
  ·exact List.mem_cons_of_mem _ (wq p (a::st) q h)
  ·exact h
theorem jP (hn:500<n) {l:List I2} (hl:l.length≤200) (hnr:∀q ∈ l,Nr q) (f:(List I2 × Int)→Option ((List I2 × Int) ⊕ List I2))
  (hf:∀(i:Nat) (o:List I2),i<l.length→f (o,(i:Int))=ob (l[i]?) fun(x,y)=>ob (cy (lY n x y) n o) fun o'=>gd (lim (o'++[(x,y)]).length) (some (.inl (o'++[(x,y)],((i+1:Nat):Int)))))
  (he:∀o,f (o,(l.length:Int))=some (.inr o)):∀(rest done st:List I2) (m:Nat),done++rest=l→st.length≤done.length→(∀q ∈ st,Nr q)→rest.length<m→cy f m (st.reverse,(done.length:Int))=some (rest.foldl push st).reverse
 | [],done,st,m+1,h,h1,h2,_=>by
  rw[List.append_nil] at h; subst h;rw[dy (he _)]; rfl
 | p::rest,done,st,m+1,h,h1,h2,hm=>by
  have hi:done.length<l.length:=by rw[←h]; simp
  have hp:l[done.length]? = some p:=by rw[←h,List.getElem?_append_right (Nat.le_refl _),Nat.sub_self]; rfl
  have hpn:=hnr p (List.mem_of_getElem? hp);have hlp:=rG (lY n p.1 p.2) (fun st' a b=>yM n hpn st' a b) st n (by omega) h2 (by omega)
  have hpl:=nB p st;have e1:f (st.reverse,(done.length:Int))=some (.inl ((push st p).reverse,((done.length+1:Nat):Int))):=by
   rw[hf _ _ hi,hp,au]
   try dsimp only
   rw[hlp,au,show lim ((pop p st).reverse++[(p.1,p.2)]).length=true from Nat.ble_eq_true_of_le (by simp; omega),bA]
   unfold push;rw[List.reverse_cons]
  rw[cZ e1];have:=jP hn hl hnr f hf he rest (done++[p]) (push st p) m (by rw[←h]; simp) (by unfold push; simp; omega) (fun q hq=>by
   unfold push at hq;rcases List.mem_cons.1 hq with rfl|hq
   ·exact hpn
   ·exact h2 q (wq p st q hq)) (by simp at hm; omega)
  rw[List.length_append,List.length_singleton] at this;rw[this]; rfl
theorem w5 (hn:500<n) {l:List I2} (hl:l.length≤200) (hnr:∀q ∈ l,Nr q):cy (pD n l.length l) n ([],0)=some (chain l):=by
 have:=jP n hn hl hnr (pD n l.length l) (fun i o hi=>by
  unfold pD
  try dsimp only
  rw[bj (by omega),aX hi,bA,Int.toNat_natCast,aY (by omega)]) (fun o=>by
  unfold pD
  try dsimp only
  rw[bl (by omega)]) l [] [] n (by simp) (Nat.le_refl _) (fun q hq=>by cases hq) (by omega)
 exact this
theorem yK (hn:500<n) {l:List I2} (hl:l.length≤200) (hnr:∀q ∈ l,Nr q):cy (pO n l.length l) n ([],0)=some (chain l):=by
 have:=jP n hn hl hnr (pO n l.length l) (fun i o hi=>by
  unfold pO
  try dsimp only
  rw[bj (by omega),aX hi,bA,Int.toNat_natCast,aY (by omega)]
  rfl) (fun o=>by
  unfold pO
  try dsimp only
  rw[bl (by omega)]) l [] [] n (by simp) (Nat.le_refl _) (fun q hq=>by cases hq) (by omega)
 exact this
theorem pW (t:List I2) (ht:t.length<1000):∀(d m i:Nat) (c:List I2) (q:Int),t.length≤2*i+d→q=(t.length:Int)-1-(i:Int)→c.length=t.length →
  (∀j,j<t.length→c[j]? = if j<i∨t.length-1-j<i then t[t.length-1-j]? else t[j]?)→d<m→i≤t.length →
   cy (pI n t.length) m (c,(i:Int),q)=some t.reverse
 | d,m+1,i,c,q,hd,hq,hc,hj,hm,hi=>by
  by_cases hlt:(i:Int)<q
  ·match d with
   | 0=>omega
   | d+1 =>
    obtain⟨k,hk⟩:∃k:Nat,q=(k:Int):=⟨t.length-1-i,by omega⟩
    subst hk;have hkt:k<t.length:=by omega
    have yj:i<t.length:=by omega
    have gk:c[k]? = some (t[k]'hkt):=by rw[hj k hkt,if_neg (by omega),List.getElem?_eq_getElem]
    have gi:c[i]? = some (t[i]'yj):=by rw[hj i yj,if_neg (by omega),List.getElem?_eq_getElem]
    have gk2:(c.set i ((t[k]'hkt).1,(t[k]'hkt).2))[k]? = some (t[k]'hkt):=by rw[List.getElem?_set_ne (by omega),gk]
    rw[cZ (s':=((c.set i (t[k]'hkt)).set k (t[i]'yj),((i+1:Nat):Int),(k:Int)-1))]
    ·refine pW t ht (d-1) m (i+1) _ _ (by omega) (by omega) (by rw[List.length_set,List.length_set]; exact hc) (fun j hjt=>?_) (by omega) (by omega)
     by_cases e1:j=k
     ·subst e1;rw[List.getElem?_set_self (by rw[List.length_set]; omega),if_pos (by omega),show t.length-1-j=i by omega,List.getElem?_eq_getElem]
     ·rw[List.getElem?_set_ne (by omega)]
      by_cases e2:j=i
      ·subst e2;rw[List.getElem?_set_self (by omega),if_pos (by omega),show t.length-1-j=k by omega,List.getElem?_eq_getElem]
      ·rw[List.getElem?_set_ne (by omega),hj j hjt]
       by_cases e3:j<i∨t.length-1-j<i
       ·rw[if_pos e3,if_pos (by omega)]
       ·rw[if_neg e3,if_neg (by omega)]
    ·unfold pI
     try dsimp only
     rw[bj hlt,aX hkt,bA,Int.toNat_natCast,Int.toNat_natCast,gk,au]
     try dsimp only
     rw[aX yj,bA,gi,au]
     try dsimp only
     rw[bA,bA,gk2,au]
     try dsimp only
     rw[aY (by omega),aG (by omega) (by omega)]
  ·rw[dy (r:=c)]
   ·congr 1
    refine List.ext_getElem? fun j=>?_
    by_cases hjt:j<t.length
    ·rw[hj j hjt,List.getElem?_reverse hjt]
     split
     ·rfl
     ·congr 1; omega
    ·rw[List.getElem?_eq_none (by omega),List.getElem?_eq_none (by rw[List.length_reverse]; omega)]
   ·unfold pI
    try dsimp only
    rw[bl hlt]
theorem Gq (t:List I2) (ht:t.length<1000) (hn:t.length<n):cy (pI n t.length) n (t,0,IntKind.wrap .i64 ((t.length:Int)-1))=some t.reverse:=by
 have:=pW n t ht t.length n 0 t ((t.length:Int)-1) (by omega) (by omega) rfl (fun j hj=>by rw[if_neg (by omega)]) hn (Nat.zero_le _)
 rw[aG (by omega) (by omega)]
 exact this
end
def xz (l:List I2):List I2 × Int :=
 if (chain (ji l)).length<2∨(chain (ji l)).length+(chain (ji l).reverse).length<5 then([],4)
 else if 40<((chain (ji l)).dropLast++(chain (ji l).reverse).dropLast).length then([],3)
 else((chain (ji l)).dropLast++(chain (ji l).reverse).dropLast,0)
theorem yO {l:List I2} (f:Int→Option (Int ⊕ (Int ⊕ Unit))) (hB:∀i:Nat,i<l.length→f (i:Int)=if Fa (nx l i) then some (.inr (.inl (i:Int))) else some (.inl ((i+1:Nat):Int))) (hE:f (l.length:Int)=some (.inr (.inr ()))) {n:Nat} (hn:l.length<n) :
  ∃r,cy f n 0=some r∧match r with | .inl v=>0≤v∧∃q ∈ l,Fa q | .inr _=>∀q ∈ l,¬Fa q:=by
 have L:∃r,cy f n ((0:Nat):Int)=some r∧match r with | .inl v=>0≤v∧∃q ∈ l,Fa q | .inr _=>∀q ∈ l,¬Fa q:=by
  refine oL (len:=l.length) (fun i (_:Unit)=>(i:Int)) (fun i _=>∀j,j<i→¬Fa (nx l j)) _ (fun i s hi hs=>?_) (fun s hs=>?_) l.length 0 () n (by omega) hn (fun j hj=>absurd hj (Nat.not_lt_zero _))
  ·by_cases h:Fa (nx l i)
   ·refine .inr ⟨.inl (i:Int),by rw[hB i hi,if_pos h],Int.natCast_nonneg i,nx l i,hJ (fun e=>by rw[e] at hi; cases hi) i,h⟩
   ·refine .inl ⟨(),by rw[hB i hi,if_neg h],fun j hj=>?_⟩
    by_cases e:j=i
    ·rw[e]; exact h
    ·exact hs j (by omega)
  ·refine⟨.inr (),hE,fun q hq=>?_⟩;obtain⟨j,hj,e⟩:=List.mem_iff_getElem.1 hq;have:=hs j hj;unfold nx at this;rwa[Nat.mod_eq_of_lt hj,List.getD_eq_getElem?_getD,List.getElem?_eq_getElem hj,Option.getD_some,e] at this
 exact L
theorem pL (l:List I2):(chain l).length≤l.length:=by
 unfold chain;rw[List.length_reverse];have:∀(l st:List I2),(l.foldl push st).length≤st.length+l.length:=fun l=>by
  induction l with
  | nil=>intro st; simp
  | cons p l ih =>
   intro st;have:=ih (push st p);have h2:=nB p st;rw[List.foldl_cons];unfold push at this ⊢;simp at this ⊢; omega
 simpa using this l []
theorem y6:∀(l acc:List I2),(l.foldl sN acc).length≤acc.length+l.length
 | [],acc=>by simp
 | x::l,acc=>by
  have:=y6 l (sN acc x);have h2:(sN acc x).length≤acc.length+1:=by unfold sN; split<;>simp
  rw[List.foldl_cons];simp at this ⊢; omega
theorem BS (l:List I2):(ji l).length≤l.length:=by
 have:=y6 (l.mergeSort cB) [];unfold ji dd;rw[List.length_mergeSort] at this
 simpa using this
open Classical in
theorem uz (n:Nat) {l:List I2} (h1:wV l) (hn:500<n):Ec n l=some (if 200<l.length then([],3) else if ∃q ∈ l,Fa q then([],2) else xz l):=by
 unfold Ec
 by_cases h:200<l.length
 ·rw[bj (by omega),if_pos h]
 ·rw[bl (by omega),if_neg h]
  obtain⟨r,h2,h0⟩:=yO (l:=l) (sw n l) (fun i hi=>by
   have hq:kT (nx l i).1∧kT (nx l i).2:=h1 _ (hJ (fun e=>by rw[e] at hi; cases hi) i)
   unfold sw
   try dsimp only
   rw[bj (by omega),aX hi,bA,dL hi,au]
   try dsimp only
   rw[ug n hq.1 hq.2,au,aY (by omega),yF]
   by_cases g:Fa (nx l i)
   ·rw[if_pos (decide_eq_true g),if_pos g]
   ·rw[if_neg (by simpa using g),if_neg g]) (by
   unfold sw
   try dsimp only
   rw[bl (by omega)]) (n:=n) (by omega)
  rw[h2,au];cases r with
  | inl v =>
   dsimp only at h0 ⊢
   rw[au,au,decide_eq_true h0.1,jr,if_pos h0.2]
  | inr _ =>
   dsimp only at h0 ⊢
   rw[au,au,bl (show ¬(0:Int)≤-1 by decide),if_neg (fun⟨q,a,b⟩=>h0 q a b)]
   have hnr:∀q ∈ l,Nr q:=fun q hq=>wJ.1 (h0 q hq);unfold Gk Gj;have hlim:lim l.length=true:=Nat.ble_eq_true_of_le (by omega)
   rw[hlim,bA,au,hlim,bA,au];have hsl:(l.mergeSort cB).length=l.length:=List.length_mergeSort _;have C:(ob (br (decide ((l.length:Int)<2)) (some (l.mergeSort cB,l.length)) (
     ob (α:=(List (Int × Int)) ⊕ (Unit)) (cy (ku n l (l.mergeSort cB)) n 1) fun r0=>match r0 with
     | .inl l2=>some (l2,l2.length)
     | .inr _=>some (l.mergeSort cB,l.length))) fun x=>some x)=some (ji l,(ji l).length):=by
    by_cases h0:(l.length:Int)<2
    ·rw[bj h0,au];have:ji l=l.mergeSort cB:=by
      unfold ji;generalize hs:l.mergeSort cB=S at *
      match S,hsl with
      | [],_=>rfl
      | [a],_=>rfl
      | _::_::_,e=>simp at e; omega
     rw[this,hsl]
    ·rw[bl h0];have h3:dd ((l.mergeSort cB).take 1)=(l.mergeSort cB).take 1:=by
      generalize hs:l.mergeSort cB=S at *
      match S,hsl with
      | [],e=>simp at e; omega
      | a::t,_=>rfl
     obtain⟨r,g1,g0⟩:=nv n (S0:=l) (S:=l.mergeSort cB) hsl.symm (by omega) (by omega) (l.length-1) n 1 (by omega) (by omega) h3 (by omega)
     have g1':cy (ku n l (l.mergeSort cB)) n 1=some r:=g1;rw[g1',au];cases r with
     | inl l'=>dsimp only at g0 ⊢; rw[au,g0]; rfl
     | inr _ =>
      dsimp only at g0 ⊢
      rw[au];have e:ji l=l.mergeSort cB:=g0.symm;rw[e,hsl]
   have C':∀(β:Type) (K:List I2 × Nat→Option β),ob (br (decide ((l.length:Int)<2)) (some (l.mergeSort cB,l.length)) (
     ob (α:=(List (Int × Int)) ⊕ (Unit)) (cy (ku n l (l.mergeSort cB)) n 1) fun r0=>match r0 with
     | .inl l2=>some (l2,l2.length)
     | .inr _=>some (l.mergeSort cB,l.length))) K=K (ji l,(ji l).length):=fun β K=>by
    generalize br (decide ((l.length:Int)<2)) _ _=X at *;cases X with
    | none=>cases C
    | some x=>have:some x=some (ji l,(ji l).length):=C; rw[Option.some.inj this]; rfl
   refine Eq.trans (C' _ _) ?_
   try dsimp only
   have hpl:=BS l;have hpn:∀q ∈ ji l,Nr q:=fun q hq=>hnr q ((ve l q).1 hq);have hrl:(ji l).reverse.length=(ji l).length:=List.length_reverse;have cl:=w5 n hn (l:=ji l) (by omega) hpn
   have cu:=yK n hn (l:=(ji l).reverse) (by omega) (fun q hq=>hpn q (List.mem_reverse.1 hq))
   rw[hrl] at cu;have h4:=pL (ji l);have h5:=pL (ji l).reverse;rw[cl,au,au,Gq n (ji l) (by omega) (by omega),au,au,cu,au,au]
   unfold xz;generalize hlo:chain (ji l)=lo at *;generalize hup:chain (ji l).reverse=up at *;rw[aG (x:=(lo.length:Int)+(up.length:Int)) (by omega) (by omega),yQ,au,←Bool.decide_or]
   by_cases hs:lo.length<2∨lo.length+up.length<5
   ·rw[bj (by omega),if_pos hs]
   ·rw[bl (by omega),if_neg hs]
    have e0:IntKind.wrap .i64 ((lo.length:Int)-1)=((lo.length-1:Nat):Int):=by rw[aG (by omega) (by omega)]; omega
    have hupl:0<up.length:=by
     rw[←hup];have hne:ji l≠[]:=fun e=>by rw[e] at hlo; rw[←hlo] at hs; simp[chain] at hs
     unfold chain;rw[List.length_reverse];have:∀(l st:List I2),(0<l.length∨0<st.length)→0<(l.foldl push st).length:=fun l=>by
      induction l with
      | nil=>intro st h; simpa using h
      | cons p l ih=>intro st _; exact ih _ (.inr (by unfold push; simp))
     exact this _ _ (.inl (by rw[List.length_reverse]; exact List.length_pos_iff.2 hne))
    have e1:IntKind.wrap .i64 ((up.length:Int)-1)=((up.length-1:Nat):Int):=by rw[aG (by omega) (by omega)]; omega
    rw[e0,e1,show okB 0 ((lo.length-1:Nat):Int) lo.length=true from decide_eq_true (by omega),bA,vS (show 0<lo.length by omega),au,show okB 0 ((up.length-1:Nat):Int) up.length=true from decide_eq_true (by omega),bA,vS hupl,au,Int.toNat_natCast,Int.toNat_natCast,←List.dropLast_eq_take,←List.dropLast_eq_take,
     show lim (lo.dropLast++up.dropLast).length=true from Nat.ble_eq_true_of_le (by simp; omega),bA]
    by_cases hb:40<(lo.dropLast++up.dropLast).length
    ·rw[bj (by omega),if_pos hb]
    ·rw[bl (by omega),if_neg hb]
theorem jU (l:List I2):(xz l=([],4)∧(l = []∨∃a,(∀q ∈ l,Lx a q)∧a ∈ l∧∀p ∈ l,∀q ∈ l,ti a p q=0)) ∨
  ∃r,Hul (· ∈ l) r∧(∀q ∈ l,Lx (nx r 0) q)∧xz l=if 40<r.length then([],3) else(r,0):=by
 have hlt:=Ei l;have hm:=ve l;unfold xz;generalize ji l=s at *
 match s,hlt,hm with
 | [],_,hm =>
  refine .inl ⟨by rw[if_pos (.inl (by simp[chain]))],.inl ?_⟩
  match l,hm with
  | [],_=>rfl
  | a::l,hm=>exact absurd ((hm a).2 List.mem_cons_self) (by simp)
 | [a],_,hm =>
  refine .inl ⟨by rw[if_pos (.inl (by simp[chain,push,pop]))],.inr ⟨a,fun q hq=>?_,(hm a).1 (by simp),fun p hp q hq=>?_⟩⟩
  ·have:=(hm q).2 hq;rw[List.mem_singleton] at this; subst this;exact .inr ⟨rfl,Int.le_refl _⟩
  ·have h1:=(hm p).2 hp;have h2:=(hm q).2 hq;rw[List.mem_singleton] at h1 h2; subst h1 h2;exact Fe _ _
 | a::c::t,hlt,hm =>
  obtain⟨b,hb⟩:∃b,(a::c::t).getLast? = some b:=by
   cases h:(a::c::t).getLast? with
   | none=>rw[List.getLast?_eq_none_iff] at h; cases h
   | some b=>exact⟨b,rfl⟩
  have hbm:b ∈ c::t:=by
   rw[List.getLast?_cons_cons] at hb;exact List.mem_of_getLast? hb
  have hab:a≠b:=fun e=>by
   have:=(List.pairwise_cons.1 hlt).1 b hbm;rw[e] at this; exact Lt.A0 _ this
  obtain⟨m,u,e1,e2,w,hq,hin⟩:=zg hlt rfl hb hab;rw[e1,e2];have hlow:∀q ∈ l,Lx a q:=fun q hq=>by
   rcases List.mem_cons.1 ((hm q).2 hq) with rfl|h
   ·exact .inr ⟨rfl,Int.le_refl _⟩
   ·have:=(List.pairwise_cons.1 hlt).1 q h;unfold Jd.Lt at this; unfold Lx; omega
  have hS:∀q,q ∈ a::c::t↔q ∈ l:=hm;have d1:(a::m++[b]).dropLast=a::m:=List.dropLast_concat;have d2:(b::u++[a]).dropLast=b::u:=List.dropLast_concat
  by_cases hn:m = []∧u = []
  ·obtain⟨rfl,rfl⟩:=hn;refine .inl ⟨by rw[if_pos (.inr (by simp))],.inr ⟨a,hlow,(hm a).1 (by simp),fun p hp q hq=>?_⟩⟩
   have hf:=Br (S:=(· ∈ a::c::t)) w;exact yV hab (hf p ((hm p).2 hp)) (hf q ((hm q).2 hq))
  ·have hn':m≠[]∨u≠[]:=by
    by_cases h:m = []
    ·exact .inr fun h2=>hn ⟨h,h2⟩
    ·exact .inl h
   have hul:=(Ep w hq hn').same hS;refine .inr ⟨a::m++b::u,hul,?_,?_⟩
   ·have:nx (a::m++b::u) 0=a:=by unfold nx; simp
    rw[this]; exact hlow
   ·rw[if_neg (by
     have h3:0<m.length∨0<u.length:=hn'.imp List.length_pos_iff.2 List.length_pos_iff.2;simp; omega),d1,d2]
section
variable (n : Nat)
end
def Sm (l:List I2):Prop:=∀q ∈ l,(-128≤q.1∧q.1≤127)∧(-128≤q.2∧q.2≤127)
theorem Sm.pt {l:List I2} (h:Sm l):wV l:=fun q hq=>by have:=h q hq; unfold kT; omega
theorem wU {α:Type} (l:List α) (k:Nat):((l.drop (0:Int).toNat).take ((mi (l.length:Int) (k:Int):Int).toNat-(0:Int).toNat))=l.take k:=by
 show l.take ((mi (l.length:Int) (k:Int)).toNat-0)=_
 rw[uR,Nat.sub_zero];rcases Nat.le_total l.length k with g|g
 ·rw[List.take_of_length_le (by omega),List.take_of_length_le g]
 ·rw[show(min (l.length:Int) (k:Int)).toNat=k by omega]
theorem Cq {α:Type} (l:List α) (k:Nat):okB 0 (mi (l.length:Int) (k:Int)) l.length=true:=decide_eq_true (by rw[uR]; omega)
theorem qc {σ:Type} (st:Nat→List I2→σ) (B:σ→Option (σ ⊕ List I2)) (g:Nat→I2) (N:Nat) (hB:∀i l,i<N→l.length<1000→B (st i l)=some (.inl (st (i+1) (l++[g i])))) (hE:∀l,B (st N l)=some (.inr l)) :
  ∀(k i m:Nat) (l:List I2),i+k=N→l.length+k<1000→k<m→cy B m (st i l)=some (l++(List.range' i k).map g)
 | 0,i,m+1,l,h,_,_=>by
  rw[Nat.add_zero] at h; subst h;rw[dy (hE l)]; simp
 | k+1,i,m+1,l,h,hl,hm=>by
  rw[cZ (hB i l (by omega) (by omega)),qc st B g N hB hE k (i+1) m _ (by omega) (by simp; omega) (by omega),List.range'_succ]
  simp
theorem yB {ρ:Type} {B:Int→Option (Int ⊕ ρ)} {e:ρ} {len n:Nat} (hB:∀i:Nat,i<len→B (i:Int)=some (.inl ((i+1:Nat):Int))) (hE:B (len:Int)=some (.inr e)) (hn:len<n):cy B n 0=some e:=by
 have:=fT (f:=fun _=>none) (e:=e) (B:=B) (len:=len) (fun i hi=>hB i hi) hE len 0 n (by omega) hn
 rw[gw (fun _ _ _=>rfl)] at this;exact this
theorem Bn (n:Nat) {l:List I2} (h:Sm l) (hn:500<n):cy (xy n l) n ([],0)=some (l.take 25):=by
 have hlen:(l.take 25).length≤25:=by rw[List.length_take]; omega
 have hs:Sm (l.take 25):=fun q hq=>h q (List.mem_of_mem_take hq);have hb:∀(o:List I2) (v:Int),xy n l (o,v)=br (decide (v<((l.take 25).length:Int))) (gd (bX v ((l.take 25).length)) (ob ((l.take 25)[v.toNat]?) fun(x71,x72)=>gd (lim (o++[(IntKind.wrap .i64 x71,IntKind.wrap .i64 x72)]).length) (some (.inl ((o++[(IntKind.wrap .i64 x71,IntKind.wrap .i64 x72)]),IntKind.wrap .i64 (v+1)))))) (some (.inr o)):=fun o v=>by
  unfold xy
  dsimp only
  rw[show(25:Int)=((25:Nat):Int) from rfl,wU l 25]
 generalize l.take 25=s at *;have:=qc (fun i (o:List I2)=>(o,(i:Int))) (xy n l) (fun i=>nx s i) s.length (fun i o hi ho=>by
  have hq:=hs _ (hJ (fun e=>by rw[e] at hi; cases hi) i)
  rw[hb,bj (by omega),aX hi,bA,dL hi,au]
  dsimp only
  rw[aG (by omega) (by omega),aG (by omega) (by omega),show lim (o++[((nx s i).1,(nx s i).2)]).length=true from Nat.ble_eq_true_of_le (by simp; omega),bA,aY (by omega)]) (fun o=>by
  rw[hb,bl (by omega)]) s.length 0 n [] (by omega) (by simp; omega) (by omega)
 have e:[]++(List.range' 0 s.length).map (fun i=>nx s i)=s:=by
  rw[List.nil_append,←List.range_eq_range'];refine List.ext_getElem (by simp) fun i h1 h2=>?_
  rw[List.getElem_map,List.getElem_range];unfold nx;rw[Nat.mod_eq_of_lt h2,List.getD_eq_getElem?_getD,List.getElem?_eq_getElem h2]; rfl
 rw[e] at this;exact this
theorem Sm.nr {l:List I2} (h:Sm l):∀q ∈ l,Nr q:=fun q hq=>by have:=h q hq; unfold Nr; omega
theorem Sm.fa {l:List I2} (h:Sm l):¬∃q ∈ l,Fa q:=by
 rintro⟨q,hq,hf⟩;have:=h q hq;unfold Fa at hf; omega
section
variable {S : I2 → Prop} {r l : List I2}
theorem Aw {q:I2} (hq:q ∈ r):∃i,i<r.length∧nx r i=q:=by
 obtain⟨i,hi,e⟩:=List.mem_iff_getElem.1 hq;refine⟨i,hi,?_⟩;unfold nx;rw[Nat.mod_eq_of_lt hi,List.getD_eq_getElem?_getD,List.getElem?_eq_getElem hi]; exact e
theorem mR (h:Hul S r) {q:I2} (hq:q ∈ r):S q:=by
 obtain⟨i,_,e⟩:=Aw hq;rw[←e]; exact h.mem i
theorem wN (h:Hul S r):r.Nodup:=by
 rw[List.nodup_iff_pairwise_ne,List.pairwise_iff_getElem];intro i j hi hj hij;have:=h.nodup i j hij hj;unfold nx at this;rw[Nat.mod_eq_of_lt hi,Nat.mod_eq_of_lt hj,List.getD_eq_getElem?_getD,List.getElem?_eq_getElem hi,List.getD_eq_getElem?_getD,List.getElem?_eq_getElem hj] at this;exact this
theorem qf (h:Hul (· ∈ l) r):r.length≤l.length:=kW (wN h) fun _ hq=>mR h hq
theorem DI (h:Hul (· ∈ l) r) (hl:l.length≤40) (hs:∀q ∈ l,Nr q):Ok r:=⟨Nat.le_trans (qf h) hl,fun i=>hs _ (h.mem i),h.vr⟩
theorem B0 {p:Nat→Bool} (h:∀i,p i=true):∀{n:Nat},0<n→pj p n=true
 | n+1,_=>by rw[pj,h n,Bool.or_true]
theorem rR {p:Nat→Bool} (h:∀i,p i=false):∀n:Nat,pj p n=false
 | 0=>rfl
 | n+1=>by rw[pj,h n,rR h n]; rfl
theorem BV (h:Hul S r):Gl r=true:=by
 have hn:=h.n3;unfold YthmekkhpddehjaaGreat.Gl;rw[B0 (p:=lf r) (fun i=>decide_eq_true (h.gS i)) (by omega),rR (p:=rt r) (fun i=>decide_eq_false (by have:=h.gS i; omega))]; rfl
theorem BQ {a b:I2} (h1:Lx a b) (h2:Lx b a):a=b:=by unfold Lx at *; exact Prod.ext (by omega) (by omega)
theorem xK (h:Hul (· ∈ l) r) (hlow:∀q ∈ l,Lx (nx r 0) q) (hr:r.length≤40):xz r=(r,0):=by
 rcases jU r with⟨_,h1|⟨a,_,_,h3⟩⟩|⟨r',h1,h2,h3⟩
 ·exact absurd h1 h.ne_nil
 ·exfalso;have h0:=h.gS 0;have m0:=hJ h.ne_nil 0;have m1:=hJ h.ne_nil 1;have m2:=hJ h.ne_nil 2;have a1:=h3 _ m0 _ m1;have a2:=h3 _ m1 _ m2;have a3:=h3 _ m2 _ m0;have:ti (nx r 0) (nx r 1) (nx r 2)=ti a (nx r 0) (nx r 1)+ti a (nx r 1) (nx r 2)+ti a (nx r 2) (nx r 0):=by unfold ti; grind
  rw[a1,a2,a3] at this;rw[show(0:Nat)+1=1 from rfl,show(0:Nat)+2=2 from rfl] at h0
  omega
 ·have h0:nx r 0=nx r' 0:=BQ (hlow _ (mR h (h1.mem 0))) (h2 _ (hJ h.ne_nil 0));have e:r=r':=zr h.self h1 h0;subst e;rw[h3,if_neg (by omega)]
theorem AT (h:Hul S r) {p:I2} (hp:S p):side r p≠0:=by
 unfold YthmekkhpddehjaaGreat.side;rcases h.holds hp with h1|h1
 ·rw[if_pos h1]; decide
 ·split
  ·decide
  ·rw[if_neg (by omega)]; decide
end
theorem Bi (n:Nat) {l1:List I2} (h0:Sm l1) {x5:Nat} (h5:x5<256) (hn:500<n):F5 n l1 x5=some true:=by
 classical
 have hs:Sm (l1.take 25):=fun q hq=>h0 q (List.mem_of_mem_take hq);have hlen:(l1.take 25).length≤25:=by rw[List.length_take]; omega
 unfold F5;rw[show Gm n=some true from rfl,au,Bool.not_true,ey,show okB 0 (mi (l1.length:Int) (25:Int)) l1.length=true from Cq l1 25,bA,Bn n h0 hn,au]
 generalize l1.take 25=l at *;rw[uz n hs.pt hn,au,if_neg (by omega),if_neg hs.fa]
 rcases jU l with⟨e,_⟩|⟨r,hul,hlow,e⟩
 ·rw[e]
  dsimp only
  rw[show(!decide ((4:Int)=0))=true from rfl,jr]; rfl
 have hlr:=qf hul;rw[if_neg (by omega)] at e
 rw[e]
 dsimp only
 have hok:=DI hul (by omega) hs.nr
 have hck:=hok.rz;have har:=hul.DC;have ed:∀z:Int,(!decide (z=z))=false:=fun z=>by simp
 rw[ed,ey,DJ n hok.pt (by omega) (by omega),au,if_pos hck]
 dsimp only
 have hrs:Sm r:=fun q hq=>hs q (mR hul hq);have hF23:FL n r=some true:=by
  unfold FL;rw[Eb n hok.pt (by omega) (by omega),au,if_pos hck]
  dsimp only
  rw[BV hul,jr]; rfl
 have hF24:ET n r r=some true:=by
  unfold ET;rw[uz n hok.pt hn,au,if_neg (by omega),if_neg hrs.fa,xK hul hlow (by omega)]
  dsimp only
  rw[decide_eq_true rfl,jr,Em n (by omega) (by omega),au,decide_eq_true rfl]
 rw[ed,ey,bl (by omega),hF23,au,Bool.not_true,ey,hF24,au,Bool.not_true,au,ey]
 have hside:∀p:I2,p ∈ l→CD n r p.1 p.2=some (side r p,0):=fun p hp=>by
  have hq:=hs p hp;rw[D1 n hok.pt (p:=p) (by unfold kT; omega) (by omega) (by omega),if_pos hck,if_neg (fun hf=>hs.fa ⟨p,hp,hf⟩)]
 have loop:∀(m:List I2),m.length≤40→(∀q ∈ m,q ∈ l)→cy (xQ n m r) n 0=some (.inr ()):=fun m hm hsub=>by
  refine yB (len:=m.length) (fun i hi=>?_) ?_ (by omega)
  ·have hp:=hsub _ (hJ (fun e=>by rw[e] at hi; cases hi) i)
   unfold xQ
   dsimp only
   rw[bj (by omega),aX hi,bA,dL hi,au]
   dsimp only
   rw[hside _ hp,au]
   dsimp only
   rw[ed,ey,decide_eq_false (AT hul hp),au,ey,aY (by omega)]
  ·unfold xQ
   dsimp only
   rw[bl (by omega)]
 rw[loop l (by omega) (fun _ h=>h),au]
 dsimp only
 have L3:∀q:I2,q ∈ l→cy (xJ n l q.1 q.2) n (false,0)=some true:=fun q hq=>by
  have key:∀(d i m:Nat) (b:Bool),i+d=l.length→d<m→cy (xJ n l q.1 q.2) m (b,(i:Int))=some (b || decide (∃j,i≤j∧j<l.length∧nx l j=q)):=by
   intro d
   induction d with
   | zero =>
    intro i m b hi hm;obtain⟨m,rfl⟩:∃k,m=k+1:=⟨m-1,by omega⟩
    rw[dy (r:=b)]
    ·rw[decide_eq_false (by rintro⟨j,h0,h1,_⟩; omega),Bool.or_false]
    ·unfold xJ
     dsimp only
     rw[bl (by omega)]
   | succ d ih =>
    intro i m b hi hm;obtain⟨m,rfl⟩:∃k,m=k+1:=⟨m-1,by omega⟩
    have hil:i<l.length:=by omega
    rw[cZ (s':=(b || decide (nx l i=q),((i+1:Nat):Int))),ih (i+1) m _ (by omega) (by omega),Bool.or_assoc]
    ·congr 2
     rw[←Bool.decide_or,decide_eq_decide];constructor
     ·rintro(h|⟨j,h0,h1,h2⟩)
      ·exact⟨i,Nat.le_refl _,hil,h⟩
      ·exact⟨j,by omega,h1,h2⟩
     ·rintro⟨j,h0,h1,h2⟩
      by_cases hj:j=i
      ·subst hj; exact .inl h2
      ·exact .inr ⟨j,by omega,h1,h2⟩
    ·unfold xJ
     dsimp only
     rw[bj (by omega),aX hil,bA,dL hil,au]
     dsimp only
     cases b
     ·rw[ey,gD q (nx l i),au,aY (by omega),Bool.false_or]
      congr 3
      exact decide_eq_decide.2 ⟨Eq.symm,Eq.symm⟩
     ·rw[jr,au,aY (by omega),Bool.true_or]
  have:=key l.length 0 n false (by omega) (by omega)
  obtain⟨j,hj,e⟩:=Aw hq;rw[decide_eq_true ⟨j,Nat.zero_le _,hj,e⟩] at this;exact this
 have L4:cy (yN n r l) n 0=some (.inr ()):=by
  refine yB (len:=r.length) (fun i hi=>?_) ?_ (by omega)
  ·have hp:nx r i ∈ l:=hul.mem i;unfold yN
   dsimp only
   rw[bj (by omega),aX hi,bA,dL hi,au]
   dsimp only
   rw[L3 _ hp,au,Bool.not_true,ey,aY (by omega)]
  ·unfold yN
   dsimp only
   rw[bl (by omega)]
 rw[L4,au]
 dsimp only
 rw[aY (by omega),decide_eq_true (show((l.length+1:Nat):Int)≠0 by omega),bA,au,aG (x:=((x5:Nat):Int)) (by omega) (by omega),q8]
 have hk:x5%(l.length+1)<l.length+1:=Nat.mod_lt _ (by omega)
 generalize x5%(l.length+1)=k at *;rw[show okB 0 ((k:Nat):Int) l.length=true from decide_eq_true (by omega),bA]
 have e0:((l.drop (0:Int).toNat).take (((k:Nat):Int).toNat-(0:Int).toNat))=l.take k:=by
  show l.take (((k:Nat):Int).toNat-0)=_
  rw[Nat.sub_zero,Int.toNat_natCast]
 rw[e0];have h3:Sm (l.take k):=fun q hq=>hs q (List.mem_of_mem_take hq);have h6:(l.take k).length≤25:=by rw[List.length_take]; omega
 have hin:∀q ∈ l.take k,q ∈ l:=fun q hq=>List.mem_of_mem_take hq;generalize l.take k=t at *;rw[uz n h3.pt hn,au,if_neg (by omega),if_neg h3.fa]
 rcases jU t with⟨e,_⟩|⟨r0,h4,_,e⟩
 ·rw[e]
  dsimp only
  rw[show(!decide ((4:Int)=0))=true from rfl,jr]; rfl
 have h7:=qf h4;rw[if_neg (by omega)] at e
 rw[e]
 dsimp only
 rw[ed,ey,show Et n r0 r=xQ n r0 r from rfl,loop r0 (by omega) (fun q hq=>hin _ (mR h4 hq)),au]
end Go.Proofs.YthmekkhpddehjaaGreat
end
