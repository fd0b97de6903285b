/- A part of the proof. -/
import Derived.Test.YthmekkhpddehjaaGreatRh6
section
namespace Go.Proofs.YthmekkhpddehjaaGreat
open Go Go.Ab Go.Ab.W
set_option maxRecDepth 10000
def Hy (_:Nat) (l1:List (Int × Int)):(Int × Int)→Option ((Int × Int) ⊕ (Int)):=fun(v0,v1) =>
br (decide (v0<(l1.length:Int))) (
gd (bJ v0 l1.length) (
ob (l1[v0.toNat]?) fun(x10,x11) =>
gd (decide ((l1.length:Int)≠0)) (
gd (bJ (Int.tmod (IntKind.wrap .i64 (v0+1)) (l1.length:Int)) l1.length) (
ob (l1[(Int.tmod (IntKind.wrap .i64 (v0+1)) (l1.length:Int)).toNat]?) fun(x12,x16) =>
ob (
gd (bJ 0 l1.length) (
ob (l1[(0:Int).toNat]?) fun(x3,x4) =>
gd (bJ 0 l1.length) (
ob (some (IntKind.wrap .i64 ((IntKind.wrap .i64 (x10-x3))*(IntKind.wrap .i64 (x16-x4))))) fun y0 =>
gd (bJ 0 l1.length) (
gd (bJ 0 l1.length) (
ob (some (IntKind.wrap .i64 ((IntKind.wrap .i64 (x11-x4))*(IntKind.wrap .i64 (x12-x3))))) fun y1 =>
some (IntKind.wrap .i64 ((IntKind.wrap .i64 (v1+y0))-y1))))))) fun v2 =>
some (.inl (IntKind.wrap .i64 (v0+1),v2)))))) (
some (.inr v1))
def JQ (n:Nat) (l1:List (Int × Int)):Option (Int × Int) :=
ob (Iz n l1) fun r0 =>
br (!decide (r0=0)) (
some (0,r0)) (
ob (
some ()) fun _ =>
ob (
ob (
bT (Hy n l1) n (0,0)) fun v0 =>
some v0) fun v1 =>
some (v1,0))
def HF (n:Nat) (l1:List (Int × Int)):(Int × Int)→Option ((Int × Int) ⊕ (Int)):=fun(v7,v8) =>
br (decide (v8<(l1.length:Int))) (
gd (bJ v8 l1.length) (
ob (l1[v8.toNat]?) fun(x30,x31) =>
ob (Ai n l1 (IntKind.wrap .i64 (v8+1))) fun(r34,r35) =>
ob (some (IntKind.wrap .i64 ((IntKind.wrap .i64 (v7+(IntKind.wrap .i64 (x30*r35))))-(IntKind.wrap .i64 (x31*r34))))) fun y38 =>
some (.inl (y38,IntKind.wrap .i64 (v8+1))))) (
some (.inr v7))
def JP (n:Nat) (l1:List (Int × Int)):Option (Int) :=
ob (
bT (HF n l1) n (0,0)) fun v25 =>
some v25
def JK (n:Nat) (l1:List (Int × Int)):Option (Int × Int) :=
ob (E2 n l1) fun r6 =>
br (!decide (r6=0)) (
some (0,r6)) (
ob (JP n l1) fun r9 =>
some (r9,0))
def HJ (n:Nat) (l1:List (Int × Int)):(Int × List (Bool))→Option ((Int × List (Bool)) ⊕ (List (Bool))):=fun(v0,l2) =>
br (decide (v0<(l1.length:Int))) (
gd (bJ v0 l1.length) (
ob (l1[v0.toNat]?) fun(x3,x4) =>
gd (decide ((l1.length:Int)≠0)) (
gd (bJ (Int.tmod (IntKind.wrap .i64 (v0+1)) (l1.length:Int)) l1.length) (
ob (l1[(Int.tmod (IntKind.wrap .i64 (v0+1)) (l1.length:Int)).toNat]?) fun(x10,x11) =>
ob (
gd (decide ((l1.length:Int)≠0)) (
gd (bJ (Int.tmod (IntKind.wrap .i64 (v0+2)) (l1.length:Int)) l1.length) (
ob (l1[(Int.tmod (IntKind.wrap .i64 (v0+2)) (l1.length:Int)).toNat]?) fun(x12,x16) =>
ob (yS n x3 x4 x10 x11 x12 x16) fun r0 =>
gd (bJ (IntKind.wrap .i64 (1+r0)) 3) (
ob (l2[(IntKind.wrap .i64 (1+r0)).toNat]?) fun _ =>
some (l2.set ((IntKind.wrap .i64 (1+r0)).toNat) true))))) fun l3 =>
some (.inl (IntKind.wrap .i64 (v0+1),l3)))))) (
some (.inr l2))
def JJ (n:Nat) (l1:List (Int × Int)):Option (Bool × Int) :=
ob (Iz n l1) fun r0 =>
br (!decide (r0=0)) (
some (false,r0)) (
ob (
some ()) fun _ =>
ob (
ob (
bT (HJ n l1) n (0,([false,false,false]:List (Bool)))) fun l2 =>
some l2) fun l3 =>
ob (J1 l3) fun(x3,_,x4) =>
some (!(x3 == x4),0))
def Ha (n:Nat) (l1:List (Int × Int)):(Bool × Bool × Int)→Option ((Bool × Bool × Int) ⊕ (Bool × Bool)):=fun(v1,v2,v0) =>
br (decide (v0<(l1.length:Int))) (
ob (
gd (bJ v0 l1.length) (
ob (l1[v0.toNat]?) fun(x3,x4) =>
ob (Ai n l1 (IntKind.wrap .i64 (v0+1))) fun(r1,r2) =>
ob (Ai n l1 (IntKind.wrap .i64 (v0+2))) fun(r3,r4) =>
ob (xD n x3 x4 r1 r2 r3 r4) fun r0 =>
ob (
br (v1) (
some true) (
some (decide (0<r0)))) fun v3 =>
br (v2) (
some (v3,true)) (
some (v3,decide (r0<0))))) fun(v4,v5) =>
some (.inl (v4,v5,IntKind.wrap .i64 (v0+1)))) (
some (.inr (v1,v2)))
def J2 (n:Nat) (l1:List (Int × Int)):Option (Bool × Int) :=
ob (E2 n l1) fun r6 =>
br (!decide (r6=0)) (
some (false,r6)) (
ob (
bT (Ha n l1) n (false,false,0)) fun(v62,v63) =>
some (!(v62 == v63),0))
def HY (_:Nat) (l3:List (Int × Int)):(List (Int × Int) × Int × Int)→Option ((List (Int × Int) × Int × Int) ⊕ (List (Int × Int))):=fun(l2,v0,v1) =>
br (decide (v0<v1)) (
gd (bJ v1 (l3.length-1:Nat)) (
ob (l2[(1+v1.toNat)]?) fun(x3,x4) =>
gd (bJ v0 (l3.length-1:Nat)) (
ob (l2[(1+v0.toNat)]?) fun(x10,x11) =>
gd (bJ v0 (l3.length-1:Nat)) (
gd (bJ v1 (l3.length-1:Nat)) (
ob ((l2.set (1+v0.toNat) (x3,x4))[(1+v1.toNat)]?) fun(_,_) =>
some (.inl (((l2.set (1+v0.toNat) (x3,x4)).set (1+v1.toNat) (x10,x11)),IntKind.wrap .i64 (v0+1),IntKind.wrap .i64 (v1-1)))))))) (
some (.inr l2))
def JZ (n:Nat) (l1:List (Int × Int)):Option (List (Int × Int) × Int) :=
ob (Iz n l1) fun r0 =>
br (!decide (r0=0)) (
some ([],r0)) (
ob (JM n l1) fun l2 =>
gd (decide (1<l2.length)) (
ob (
ob (
bT (HY n l2) n (l2,0,IntKind.wrap .i64 (((l2.length-1:Nat):Int)-1))) fun l3 =>
some l3) fun l4 =>
some (l4,0)))
def It (n:Nat) (l1:List (Int × Int)) (x5:Int) (x6:Int):(Int × Int)→Option ((Int × Int) ⊕ ((Int) ⊕ (Int))):=fun(v0,v1) =>
br (decide (v0<(l1.length:Int))) (
gd (bJ v0 l1.length) (
ob (l1[v0.toNat]?) fun(x10,x3) =>
gd (decide ((l1.length:Int)≠0)) (
gd (bJ (Int.tmod (IntKind.wrap .i64 (v0+1)) (l1.length:Int)) l1.length) (
ob (l1[(Int.tmod (IntKind.wrap .i64 (v0+1)) (l1.length:Int)).toNat]?) fun(x11,x4) =>
ob (α:=(Unit) ⊕ (Int)) (
ob (yp n v0 x10 x3 x11 x4 x5 x6) fun r1 =>
br (r1) (
some (.inl ())) (
ob (yS n x10 x3 x11 x4 x5 x6) fun r0 =>
ob (
br (decide (x3≤x6)) (
br (decide (x6<x4)) (
some (decide (0<r0))) (
some false)) (
some false)) fun v2 =>
br (v2) (
some (.inr (IntKind.wrap .i64 (v1+1)))) (
ob (
br (decide (x6<x3)) (
br (decide (x4≤x6)) (
some (decide (r0<0))) (
some false)) (
some false)) fun v3 =>
br (v3) (
some (.inr (IntKind.wrap .i64 (v1-1)))) (
some (.inr v1))))) fun r2=>match r2 with
| .inl _ =>
some (.inr (.inl v1))
| .inr v4 =>
some (.inl (IntKind.wrap .i64 (v0+1),v4)))))) (
some (.inr (.inr v1)))
def JU (n:Nat) (l1:List (Int × Int)) (x5:Int) (x6:Int):Option (Int × Int) :=
ob (Iz n l1) fun r0 =>
br (!decide (r0=0)) (
some (0,r0)) (
ob (BB n x5 x6) fun r1 =>
br (r1) (
some (0,2)) (
ob (
some ()) fun _ =>
ob (α:=(Int) ⊕ (Int)) (
ob (α:=(Int) ⊕ (Int)) (
bT (It n l1 x5 x6) n (0,0)) fun r2=>match r2 with
| .inl v0 =>
some (.inl v0)
| .inr v1 =>
some (.inr v1)) fun r3=>match r3 with
| .inl _ =>
some (1,0)
| .inr v2 =>
br (!decide (v2=0)) (
some (2,0)) (
some (0,0))))
def HR (n:Nat) (l1:List (Int × Int)) (x5:Int) (x6:Int):(Bool × Int)→Option ((Bool × Int) ⊕ ((Unit) ⊕ (Bool))):=fun(v1,v0) =>
br (decide (v0<(l1.length:Int))) (
ob (α:=(Unit) ⊕ (Bool)) (
gd (bJ v0 l1.length) (
ob (l1[v0.toNat]?) fun(x4,x3) =>
ob (Ai n l1 (IntKind.wrap .i64 (v0+1))) fun(r1,r0) =>
ob (CX n x4 x3 r1 r0 x5 x6) fun r2 =>
br (r2) (
some (.inl ())) (
ob (
br (!((decide (x6<x3)) == (decide (x6<r0)))) (
ob (xD n x4 x3 r1 r0 x5 x6) fun r3 =>
some ((decide (0<r3)) == (decide (x3<r0)))) (
some false)) fun v2 =>
br (v2) (
some (.inr (!v1))) (
some (.inr v1))))) fun r4=>match r4 with
| .inl _ =>
some (.inr (.inl ()))
| .inr v3 =>
some (.inl (v3,IntKind.wrap .i64 (v0+1)))) (
some (.inr (.inr v1)))
def JY (n:Nat) (l1:List (Int × Int)) (x5:Int) (x6:Int):Option (Int) :=
ob (α:=(Unit) ⊕ (Bool)) (
bT (HR n l1 x5 x6) n (false,0)) fun r0=>match r0 with
| .inl _ =>
some 1
| .inr v0 =>
br (v0) (
some 2) (
some 0)
def JH (n:Nat) (l1:List (Int × Int)) (x5:Int) (x6:Int):Option (Int × Int) :=
ob (E2 n l1) fun r9 =>
br (!decide (r9=0)) (
some (0,r9)) (
ob (Cc n x5 x6) fun r12 =>
br (r12) (
some (0,2)) (
ob (JY n l1 x5 x6) fun r15 =>
some (r15,0)))
def IK (n:Nat) (x10:Int) (x11:Int) (x9:Int) (x26:Int) (x12:Int) (x16:Int) (v1:Int) (v2:Int) (l2:List (Int × Int)):Int→Option ((Int) ⊕ ((Unit) ⊕ (Unit))):=fun v0 =>
br (decide (v0<3)) (
gd (bJ v0 3) (
ob ([(x10,x11),(IntKind.wrap .i64 ((IntKind.wrap .i64 x9)+(IntKind.wrap .i64 x26)),IntKind.wrap .i64 ((IntKind.wrap .i64 x12)+(IntKind.wrap .i64 x16))),(v1,v2)][v0.toNat]?) fun(x3,x4) =>
ob (JU n l2 x3 x4) fun(r0,r1) =>
ob (JH n l2 x3 x4) fun(r2,r3) =>
ob (
br (!decide (r0=r2)) (
some true) (
some (!decide (r1=r3)))) fun v3 =>
br (v3) (
some (.inr (.inl ()))) (
some (.inl (IntKind.wrap .i64 (v0+1)))))) (
some (.inr (.inr ())))
def IS (n:Nat) (l3:List (Int × Int)) (l4:List (Int × Int)) (l6:List (Int × Int)) (l7:List (Int × Int)) (x15:Nat) (x3:Int) (x4:Int) (x9:Int) (x26:Int) (x10:Int) (x11:Int):Int→Option ((Int) ⊕ ((Unit) ⊕ (Unit))):=fun v0 =>
br (decide (v0<4)) (
gd (bJ v0 4) (
ob ([l3,l4,l6,l7][v0.toNat]?) fun l2 =>
ob (JQ n l2) fun(r0,r1) =>
ob (JK n l2) fun(r2,r3) =>
ob (JJ n l2) fun(r4,r5) =>
ob (J2 n l2) fun(r6,r7) =>
ob (JZ n l2) fun(l8,r8) =>
ob (GY n l2) fun(l9,r9) =>
ob (
br (!decide (r0=r2)) (
some true) (
br (!decide (r1=r3)) (
some true) (
br (!(r4 == r6)) (
some true) (
br (!decide (r5=r7)) (
some true) (
br (!decide (r8=r9)) (
some true) (
ob (GL n l8 l9) fun r10 =>
some (!r10))))))) fun v1 =>
br (v1) (
some (.inr (.inl ()))) (
ob (
br (decide (1<(l2.length:Int))) (
gd (decide ((l2.length:Int)≠0)) (
gd (bJ (Int.tmod (IntKind.wrap .i64 ((x15:Nat):Int)) (l2.length:Int)) l2.length) (
ob (l2[(Int.tmod (IntKind.wrap .i64 ((x15:Nat):Int)) (l2.length:Int)).toNat]?) fun(x12,x16) =>
gd (bJ 0 l2.length) (
ob (l2[(0:Int).toNat]?) fun(x17,x18) =>
ob (some (IntKind.wrap .i64 ((IntKind.wrap .i64 (Int.tdiv x12 2))+(IntKind.wrap .i64 (Int.tdiv x17 2))))) fun y0 =>
gd (bJ 0 l2.length) (
ob (some (IntKind.wrap .i64 ((IntKind.wrap .i64 (Int.tdiv x16 2))+(IntKind.wrap .i64 (Int.tdiv x18 2))))) fun y1 =>
some (y0,y1)))))) (
some (0,0))) fun(v2,v3) =>
ob (α:=(Unit) ⊕ (Unit)) (
bT (IK n x3 x4 x9 x26 x10 x11 v2 v3 l2) n 0) fun r11=>match r11 with
| .inl _ =>
some (.inr (.inl ()))
| .inr _ =>
some (.inl (IntKind.wrap .i64 (v0+1)))))) (
some (.inr (.inr ())))
def F8 (n:Nat) (l1:List (Int × Int)) (l5:List (Nat)) (x9:Int) (x3:Int) (x4:Nat) (x10:Bool) (x13:Bool) (x14:Nat) (x15:Nat) (x11:Nat) (x12:Int) (x16:Int) (x17:Nat) (x18:Nat) (x19:Nat) (x20:Int) (x21:Int) (x22:Int) (x23:Int) (x26:Int) (x24:Int):Option (Bool) :=
ob (JW n l1 l5 x9 x3 x4 x10 x13 x14 x15 x11 x12 x16 x17 x18 x19 x20 x21) fun(l2,l3,l4,l6) =>
ob (α:=(Unit) ⊕ (Unit)) (
bT (IS n l2 l3 l4 l6 x15 x22 x23 x9 x26 x3 x24) n 0) fun r0=>match r0 with
| .inl _ =>
some false
| .inr _ =>
ob (IJ n) fun r1 =>
some r1
end Go.Proofs.YthmekkhpddehjaaGreat
end

section
namespace Go.Proofs.YthmekkhpddehjaaGreat
open Go Go.Ab Go.Ab.W Go.Ab.B Jd
theorem sC {σ τ ρ:Type} {B:τ→Option (τ ⊕ ρ)} {len:Nat} (st:Nat→σ→τ) (inv:Nat→σ→Prop) (Post:ρ→Prop)
  (hB:∀i s,i<len→inv i s→(∃s',B (st i s)=some (.inl (st (i+1) s'))∧inv (i+1) s')∨∃r,B (st i s)=some (.inr r)∧Post r)
  (hE:∀s,inv len s→∃r,B (st len s)=some (.inr r)∧Post r):∀(k i:Nat) (s:σ) (n:Nat),i+k=len→k<n→inv i s→∃r,bT B n (st i s)=some r∧Post r
 | 0,i,s,n+1,h,_,hi=>by
  rw[Nat.add_zero] at h; subst h;obtain⟨r,h1,h2⟩:=hE s hi;exact⟨r,bG h1,h2⟩
 | k+1,i,s,n+1,h,hn,hi=>by
  rcases hB i s (by omega) hi with⟨s',h1,h2⟩|⟨r,h1,h2⟩
  ·rw[aV h1]; exact sC st inv Post hB hE k (i+1) s' n (by omega) (by omega) h2
  ·exact⟨r,bG h1,h2⟩
section
variable {l : List I2} (n : Nat)
theorem C3 (h:0<l.length):bJ 0 l.length=true:=decide_eq_true ⟨Int.le_refl 0,h⟩
def lf (l:List I2) (i:Nat):Bool:=decide (0<ti (nx l i) (nx l (i+1)) (nx l (i+2)))
end
theorem vf:fh 0:=by unfold fh; omega
def uH (acc:List I2) (x:I2):List I2:=if acc.getLast? = some x then acc else acc++[x]
def dd (l:List I2):List I2:=l.foldl uH []
theorem DL (l:List I2) (x:I2):dd (l++[x])=uH (dd l) x:=by unfold dd; rw[List.foldl_append]; rfl
theorem uE (acc:List I2) (x:I2):(uH acc x).getLast? = some x:=by
 unfold uH
 split
 ·assumption
 ·simp
theorem Ib {a b:I2} (h:Lx a b) (hne:a≠b):Lt a b:=by
 unfold Lx at h; unfold Jd.Lt;rcases h with h|⟨h1,h2⟩
 ·exact .inl h
 ·refine .inr ⟨h1,?_⟩;rcases Int.lt_or_eq_of_le h2 with h|h
  ·exact h
  ·exact absurd (Prod.ext h1 h) hne
theorem BE:∀(l acc done:List I2),(done++l).Pairwise Lx→acc.Pairwise Lt→(∀q,q ∈ acc↔q ∈ done)→acc.getLast? = done.getLast? →
  (l.foldl uH acc).Pairwise Lt∧∀q,q ∈ l.foldl uH acc↔q ∈ done++l
 | [],acc,done,_,h2,h3,_=>⟨h2,fun q=>by rw[List.append_nil]; exact h3 q⟩
 | x::l,acc,done,h1,h2,h3,h4=>by
  have e:done++x::l=(done++[x])++l:=by simp
  rw[List.foldl_cons,e];refine BE l (uH acc x) (done++[x]) (by rw[←e]; exact h1) ?_ (fun q=>?_) (by rw[uE]; simp)
  ·unfold uH
   split
   ·exact h2
   ·rename_i hx;refine List.pairwise_append.2 ⟨h2,by simp,fun a ha b hb=>?_⟩
    rw[List.mem_singleton] at hb; subst hb;have hax:Lx a b:=(List.pairwise_append.1 h1).2.2 a ((h3 a).1 ha) b List.mem_cons_self;refine Ib hax fun hab=>?_;subst hab;obtain⟨y,hy⟩:∃y,acc.getLast? = some y:=by
     cases hc:acc.getLast? with
     | none=>rw[List.getLast?_eq_none_iff] at hc; rw[hc] at ha; cases ha
     | some y=>exact⟨y,rfl⟩
    obtain⟨m,hm⟩:=List.getLast?_eq_some_iff.1 hy;rw[hm] at ha;rcases List.mem_append.1 ha with g|g
    ·have l1:Lt a y:=by rw[hm] at h2; exact(List.pairwise_append.1 h2).2.2 a g y (by simp)
     have l2:Lx y a:=(List.pairwise_append.1 h1).2.2 y ((h3 y).1 (by rw[hm]; simp)) a List.mem_cons_self
     unfold Jd.Lt at l1; unfold Lx at l2; omega
    ·rw[List.mem_singleton] at g; subst g; exact hx hy
  ·unfold uH
   split
   ·rename_i hx;rw[h3];have hxm:x ∈ acc:=List.mem_of_getLast? hx;constructor
    ·intro h; exact List.mem_append_left _ h
    ·intro h;rcases List.mem_append.1 h with h|h
     ·exact h
     ·rw[List.mem_singleton] at h; subst h; exact(h3 _).1 hxm
   ·rw[List.mem_append,List.mem_append,h3]
theorem jB (x y:I2):cF x y=true↔Lx x y:=by unfold cF Lx; rw[decide_eq_true_eq]
theorem yz (l:List I2):(l.mergeSort cF).Pairwise Lx :=
 (List.pairwise_mergeSort (le:=cF) (fun a b c h1 h2=>by rw[jB] at *; unfold Lx at *; omega) (fun a b=>by rw[Bool.or_eq_true,jB,jB]; unfold Lx; omega) l).imp fun h=>(jB _ _).1 h
def iP (l:List I2):List I2:=dd (l.mergeSort cF)
theorem Fq (l:List I2):(iP l).Pairwise Lt:=(BE (l.mergeSort cF) [] [] (yz l) List.Pairwise.nil (fun q=>by simp) rfl).1
theorem yN (l:List I2) (q:I2):q ∈ iP l↔q ∈ l:=by
 have:=(BE (l.mergeSort cF) [] [] (yz l) List.Pairwise.nil (fun q=>by simp) rfl).2 q
 unfold iP dd;rw[this,List.nil_append,List.mem_mergeSort]
theorem fi {S:List I2} {m:Nat} (hm:m<S.length):dd (S.take (m+1))=uH (dd (S.take m)) (S[m]'hm):=by
 rw[List.take_succ_eq_append_getElem hm,DL]
theorem xM {S:List I2} {m:Nat} (hm:m<S.length):(dd (S.take (m+1))).getLast? = some (S[m]'hm):=by rw[fi hm,uE]
theorem kR (n:Nat) {S0 S:List I2} {k0:Nat} (hS0:S0.length=S.length) (hk0:0<k0) (hN:S.length<1000):∀(d m j k:Nat) (L:List I2),k0+j+d=S.length→0<j→k<k0+j→L.length=S.length→(∀i,k≤i→L[i]? = S[i]?)→L.take k=dd (S.take (k0+j))→d<m →
  ∃(L':List I2) (k':Nat),bT (pZ n S0 (k0:Int)) m (L,(k:Int),(j:Int))=some (L',(k':Int))∧L'.length=S.length∧k'≤k+d∧k'<S.length∧L'.take k'=dd S
 | 0,m+1,j,k,L,hd,hj,hk,hl,hi,ht,_=>by
  refine⟨L,k,bG ?_,hl,Nat.le_refl _,by omega,by rw[ht,show k0+j=S.length by omega,List.take_length]⟩
  unfold pZ
  try dsimp only
  rw[Int.toNat_natCast,aK (by rw[hS0]; omega)]
 | d+1,m+1,j,k,L,hd,hj,hk,hl,hi,ht,hm=>by
  have hx:k0+j<S.length:=by omega
  have hy:k0+(j-1)<S.length:=by omega
  have gx:L[k0+j]? = some (S[k0+j]'hx):=by rw[hi _ (by omega),List.getElem?_eq_getElem hx]
  have gy:L[k0+(j-1)]? = some (S[k0+(j-1)]'hy):=by rw[hi _ (by omega),List.getElem?_eq_getElem hy]
  have hlast:(dd (S.take (k0+j))).getLast? = some (S[k0+(j-1)]'hy):=by
   have:=xM hy;rwa[show k0+(j-1)+1=k0+j by omega] at this
  have hsucc:dd (S.take (k0+(j+1)))=if S[k0+(j-1)]'hy=S[k0+j]'hx then L.take k else L.take k++[S[k0+j]'hx]:=by
   rw[show k0+(j+1)=k0+j+1 by omega,fi hx,ht]
   unfold uH;rw[hlast]
   by_cases h:S[k0+(j-1)]'hy=S[k0+j]'hx
   ·rw[if_pos (by rw[h]),if_pos h]
   ·rw[if_neg (fun e=>h (Option.some.inj e)),if_neg h]
  have body:∀(L2:List I2) (k2:Nat),(if S[k0+(j-1)]'hy=S[k0+j]'hx then(L,(k:Int)) else(L.set k (S[k0+j]'hx),((k+1:Nat):Int)))=(L2,(k2:Int))→pZ n S0 (k0:Int) (L,(k:Int),(j:Int))=some (.inl (L2,(k2:Int),((j+1:Nat):Int))):=fun L2 k2 he=>by
   have hkL:k<L.length:=by omega
   unfold pZ
   try dsimp only
   rw[Int.toNat_natCast,Int.toNat_natCast,aO (by rw[hS0]; omega),aJ (by rw[hS0]; omega),bl,gx,an]
   try dsimp only
   have ew:IntKind.wrap .i64 ((j:Int)-1)=((j-1:Nat):Int):=by rw[ax (by omega) (by omega)]; omega
   rw[ew,aJ (by rw[hS0]; omega),bl,Int.toNat_natCast,gy,an]
   try dsimp only
   rw[dE,bl,aJ (by rw[hS0]; omega),bl,Int.toNat_natCast,List.getElem?_eq_getElem hkL,an]
   try dsimp only
   rw[aR (by omega),aR (by omega)]
   by_cases h:S[k0+(j-1)]'hy=S[k0+j]'hx
   ·rw[if_pos h] at he;cases he;rw[decide_eq_true h.symm,Bool.not_true,gB,an]
   ·rw[if_neg h] at he;rw[decide_eq_false (fun e=>h e.symm),Bool.not_false,jO,an];have e1:=congrArg Prod.fst he;have e2:=congrArg Prod.snd he
    dsimp only at e1 e2 ⊢
    rw[←e1,←e2]
  by_cases h:S[k0+(j-1)]'hy=S[k0+j]'hx
  ·rw[aV (body L k (by rw[if_pos h]))]
   rw[if_pos h] at hsucc;obtain⟨L',k',r1,r2,r3,r4,r5⟩:=kR n hS0 hk0 hN d m (j+1) k L (by omega) (by omega) (by omega) hl hi hsucc.symm (by omega)
   exact⟨L',k',r1,r2,by omega,r4,r5⟩
  ·rw[aV (body (L.set k (S[k0+j]'hx)) (k+1) (by rw[if_neg h]))]
   rw[if_neg h] at hsucc;obtain⟨L',k',r1,r2,r3,r4,r5⟩:=kR n hS0 hk0 hN d m (j+1) (k+1) (L.set k (S[k0+j]'hx)) (by omega) (by omega) (by omega) (by rw[List.length_set]; exact hl) (fun i hi'=>by rw[List.getElem?_set_ne (by omega)]; exact hi i (by omega)) (by
    rw[hsucc,List.take_succ_eq_append_getElem (by rw[List.length_set]; omega),List.getElem_set_self]
    congr 1
    rw[List.take_set_of_le (Nat.le_refl _)]) (by omega)
   exact⟨L',k',r1,r2,by omega,r4,r5⟩
theorem oY (n:Nat) {S0 S:List I2} (hS0:S0.length=S.length) (hN:S.length<1000) (hn:S.length+2<n):∀(d m k:Nat),k+d=S.length→0<k→dd (S.take k)=S.take k→d<m →
  ∃r,bT (ll n S0 S) m (k:Int)=some r∧(match r with | .inl l=>l=dd S | .inr _=>S=dd S)
 | 0,m+1,k,hd,hk,hdd,_=>by
  refine⟨.inr (),bG ?_,?_⟩
  ·unfold ll
   try dsimp only
   rw[aK (by rw[hS0]; omega)]
  ·dsimp only
   rw[show k=S.length by omega,List.take_length] at hdd
   exact hdd.symm
 | d+1,m+1,k,hd,hk,hdd,hm=>by
  have hx:k<S.length:=by omega
  have hy:k-1<S.length:=by omega
  have hlast:(dd (S.take k)).getLast? = some (S[k-1]'hy):=by
   have:=xM hy;rwa[show k-1+1=k by omega] at this
  have ew:IntKind.wrap .i64 ((k:Int)-1)=((k-1:Nat):Int):=by rw[ax (by omega) (by omega)]; omega
  by_cases h:S[k]'hx=S[k-1]'hy
  ·have ht:S.take k=dd (S.take (k+1)):=by
    rw[fi hx,hdd];unfold uH;rw[hdd] at hlast;rw[if_pos (by rw[hlast,h])]
   obtain⟨L',k',r1,r2,r3,r4,r5⟩:=kR n hS0 hk hN d n 1 k S (by omega) (by omega) (by omega) rfl (fun i _=>rfl) ht (by omega)
   refine⟨.inl (dd S),bG ?_,rfl⟩;unfold ll
   try dsimp only
   rw[aO (by rw[hS0]; omega),aJ (by rw[hS0]; exact hx),bl,Int.toNat_natCast,List.getElem?_eq_getElem hx,an]
   try dsimp only
   rw[ew,aJ (by rw[hS0]; exact hy),bl,Int.toNat_natCast,List.getElem?_eq_getElem hy,an]
   try dsimp only
   rw[dE,aO h,bl];have r1':bT (pZ n S0 (k:Int)) n (S,(k:Int),1)=some (L',(k':Int)):=r1;rw[r1',an]
   try dsimp only
   rw[aJ (by rw[hS0]; exact r4),bl,show okB 0 (k':Int) S0.length=true from decide_eq_true (by rw[hS0]; omega),bl,yE (by rw[hS0]; omega),an,Int.toNat_natCast]
   rw[List.take_append_of_le_length (by rw[List.length_take,r2]; omega),List.take_take,Nat.min_self,r5]
  ·have hdd':dd (S.take (k+1))=S.take (k+1):=by
    rw[fi hx,hdd];unfold uH;rw[hdd] at hlast;rw[if_neg (by rw[hlast]; exact fun e=>h (Option.some.inj e).symm),List.take_succ_eq_append_getElem hx]
   obtain⟨r,r1,r2⟩:=oY n hS0 hN hn d m (k+1) (by omega) (by omega) hdd' (by omega)
   refine⟨r,?_,r2⟩;rw[aV (s':=((k+1:Nat):Int)),r1];unfold ll
   try dsimp only
   rw[aO (by rw[hS0]; omega),aJ (by rw[hS0]; exact hx),bl,Int.toNat_natCast,List.getElem?_eq_getElem hx,an]
   try dsimp only
   rw[ew,aJ (by rw[hS0]; exact hy),bl,Int.toNat_natCast,List.getElem?_eq_getElem hy,an]
   try dsimp only
   rw[dE,aK h,aR (by omega)]
theorem Dt {a b p:I2} {st:List I2} (h:ti a b p≤0):pop p (b::a::st)=pop p (a::st):=by rw[pop,if_pos h]
theorem Er {a b p:I2} {st:List I2} (h:¬ti a b p≤0):pop p (b::a::st)=b::a::st:=by rw[pop,if_neg h]
def z7 (p:I2):List I2→Option (List I2 ⊕ List I2)
 | b::a::st=>if ti a b p≤0 then some (.inl (a::st).reverse) else some (.inr (b::a::st).reverse)
 | st=>some (.inr st.reverse)
section
variable (n : Nat)
theorem tA {p:I2} (f:List I2→Option (List I2 ⊕ List I2)) (hf:∀st:List I2,st.length<1000→(∀q ∈ st,Nr q)→f st.reverse=z7 p st):∀(st:List I2) (m:Nat),st.length<1000→(∀q ∈ st,Nr q)→st.length<m→bT f m st.reverse=some (pop p st).reverse
 | [],m+1,h1,h2,_=>by rw[bG (hf [] h1 h2)]; rfl
 | [b],m+1,h1,h2,_=>by rw[bG (hf [b] h1 h2)]; rfl
 | b::a::st,m+1,h1,h2,hm=>by
  have e:=hf (b::a::st) h1 h2
  by_cases h:ti a b p≤0
  ·rw[show z7 p (b::a::st)=some (.inl (a::st).reverse) from if_pos h] at e
   rw[aV e,tA f hf (a::st) m (by simp at h1 ⊢; omega) (fun q hq=>h2 q (List.mem_cons_of_mem _ hq)) (by simp at hm ⊢; omega),Dt h]
  ·rw[show z7 p (b::a::st)=some (.inr (b::a::st).reverse) from if_neg h] at e
   rw[bG e,Er h]
theorem Am {p:I2} (hp:Nr p) (st:List I2) (hl:st.length<1000) (hst:∀q ∈ st,Nr q):mW n p.1 p.2 st.reverse=z7 p st:=by
 match st,hl,hst with
 | [],_,_ =>
  unfold mW
  try dsimp only
  rw[aK (by simp),an,gB]
  rfl
 | [b],_,_ =>
  unfold mW
  try dsimp only
  rw[aK (by simp),an,gB]
  rfl
 | b::a::st,hl,hst =>
  simp only[List.length_cons] at hl;have hlen:((b::a::st).reverse).length=st.length+2:=by simp
  have ew2:IntKind.wrap .i64 (((st.length+2:Nat):Int)-2)=((st.length:Nat):Int):=by rw[ax (by omega) (by omega)]; omega
  have ew1:IntKind.wrap .i64 (((st.length+2:Nat):Int)-1)=((st.length+1:Nat):Int):=by rw[ax (by omega) (by omega)]; omega
  have ga:((b::a::st).reverse)[st.length]? = some a:=by
   rw[List.getElem?_reverse (by simp; omega)]; simp
  have gb:((b::a::st).reverse)[st.length+1]? = some b:=by
   rw[List.getElem?_reverse (by simp)]; simp
  have ht:((b::a::st).reverse).take (st.length+1)=(a::st).reverse:=by
   rw[List.reverse_cons,List.take_append_of_le_length (by simp),List.take_of_length_le (by simp)]
  unfold mW
  try dsimp only
  rw[hlen,aO (by omega),ew2,ew1,aJ (by omega),bl,Int.toNat_natCast,ga,an]
  try dsimp only
  rw[aJ (by omega),bl,Int.toNat_natCast,gb,an]
  try dsimp only
  rw[mK n (hst a (by simp)) (hst b (by simp)) hp,an,an]
  by_cases h:ti a b p≤0
  ·rw[show z7 p (b::a::st)=some (.inl (a::st).reverse) from if_pos h,aO (by have:=mR (z:=ti a b p); omega),show okB 0 ((st.length+1:Nat):Int) (st.length+2)=true from decide_eq_true (by omega),bl,yE (by omega),an,ht]
  ·rw[show z7 p (b::a::st)=some (.inr (b::a::st).reverse) from if_neg h,aK (by have:=mR (z:=ti a b p); omega)]
theorem oR (p:I2):∀st:List I2,(pop p st).length≤st.length
 | []=>by simp[pop]
 | [b]=>by simp[pop]
 | b::a::st=>by
  unfold pop
  split
  ·have:=oR p (a::st); simp at this ⊢; omega
  ·simp
theorem xT (p:I2):∀st:List I2,∀q ∈ pop p st,q ∈ st
 | [],q,h=>by simp[pop] at h
 | [b],q,h=>by simpa [pop] using h
 | b::a::st,q,h=>by
  unfold pop at h
  split at h
  ·exact List.mem_cons_of_mem _ (xT p (a::st) q h)
  ·exact h
theorem kN (hn:500<n) {l:List I2} (hl:l.length≤200) (hnr:∀q ∈ l,Nr q) (f:(List I2 × Int)→Option ((List I2 × Int) ⊕ List I2))
  (hf:∀(i:Nat) (o:List I2),i<l.length→f (o,(i:Int))=ob (l[i]?) fun(x,y)=>ob (bT (mW n x y) n o) fun o'=>gd (lim (o'++[(x,y)]).length) (some (.inl (o'++[(x,y)],((i+1:Nat):Int)))))
  (he:∀o,f (o,(l.length:Int))=some (.inr o)):∀(rest done st:List I2) (m:Nat),done++rest=l→st.length≤done.length→(∀q ∈ st,Nr q)→rest.length<m→bT f m (st.reverse,(done.length:Int))=some (rest.foldl push st).reverse
 | [],done,st,m+1,h,h1,h2,_=>by
  rw[List.append_nil] at h; subst h;rw[bG (he _)]; rfl
 | p::rest,done,st,m+1,h,h1,h2,hm=>by
  have hi:done.length<l.length:=by rw[←h]; simp
  have hp:l[done.length]? = some p:=by rw[←h,List.getElem?_append_right (Nat.le_refl _),Nat.sub_self]; rfl
  have hpn:=hnr p (List.mem_of_getElem? hp);have hlp:=tA (mW n p.1 p.2) (fun st' a b=>Am n hpn st' a b) st n (by omega) h2 (by omega)
  have hpl:=oR p st;have e1:f (st.reverse,(done.length:Int))=some (.inl ((push st p).reverse,((done.length+1:Nat):Int))):=by
   rw[hf _ _ hi,hp,an]
   try dsimp only
   rw[hlp,an,show lim ((pop p st).reverse++[(p.1,p.2)]).length=true from Nat.ble_eq_true_of_le (by simp; omega),bl]
   unfold push;rw[List.reverse_cons]
  rw[aV e1];have:=kN hn hl hnr f hf he rest (done++[p]) (push st p) m (by rw[←h]; simp) (by unfold push; simp; omega) (fun q hq=>by
   unfold push at hq;rcases List.mem_cons.1 hq with rfl|hq
   ·exact hpn
   ·exact h2 q (xT p st q hq)) (by simp at hm; omega)
  rw[List.length_append,List.length_singleton] at this;rw[this]; rfl
theorem zr (hn:500<n) {l:List I2} (hl:l.length≤200) (hnr:∀q ∈ l,Nr q):bT (qO n l.length l) n ([],0)=some (chain l):=by
 have:=kN n hn hl hnr (qO n l.length l) (fun i o hi=>by
  unfold qO
  try dsimp only
  rw[aO (by omega),aJ hi,bl,Int.toNat_natCast,aR (by omega)]) (fun o=>by
  unfold qO
  try dsimp only
  rw[aK (by omega)]) l [] [] n (by simp) (Nat.le_refl _) (fun q hq=>by cases hq) (by omega)
 exact this
theorem Bk (hn:500<n) {l:List I2} (hl:l.length≤200) (hnr:∀q ∈ l,Nr q):bT (qB n l.length l) n ([],0)=some (chain l):=by
 have:=kN n hn hl hnr (qB n l.length l) (fun i o hi=>by
  unfold qB
  try dsimp only
  rw[aO (by omega),aJ hi,bl,Int.toNat_natCast,aR (by omega)]
  rfl) (fun o=>by
  unfold qB
  try dsimp only
  rw[aK (by omega)]) l [] [] n (by simp) (Nat.le_refl _) (fun q hq=>by cases hq) (by omega)
 exact this
theorem qG (t:List I2) (ht:t.length<1000):∀(d m i:Nat) (c:List I2) (q:Int),t.length≤2*i+d→q=(t.length:Int)-1-(i:Int)→c.length=t.length →
  (∀j,j<t.length→c[j]? = if j<i∨t.length-1-j<i then t[t.length-1-j]? else t[j]?)→d<m→i≤t.length →
   bT (q9 n t.length) m (c,(i:Int),q)=some t.reverse
 | d,m+1,i,c,q,hd,hq,hc,hj,hm,hi=>by
  by_cases hlt:(i:Int)<q
  ·match d with
   | 0=>omega
   | d+1 =>
    obtain⟨k,hk⟩:∃k:Nat,q=(k:Int):=⟨t.length-1-i,by omega⟩
    subst hk;have hkt:k<t.length:=by omega
    have Al:i<t.length:=by omega
    have gk:c[k]? = some (t[k]'hkt):=by rw[hj k hkt,if_neg (by omega),List.getElem?_eq_getElem]
    have gi:c[i]? = some (t[i]'Al):=by rw[hj i Al,if_neg (by omega),List.getElem?_eq_getElem]
    have gk2:(c.set i ((t[k]'hkt).1,(t[k]'hkt).2))[k]? = some (t[k]'hkt):=by rw[List.getElem?_set_ne (by omega),gk]
    rw[aV (s':=((c.set i (t[k]'hkt)).set k (t[i]'Al),((i+1:Nat):Int),(k:Int)-1))]
    ·refine qG t ht (d-1) m (i+1) _ _ (by omega) (by omega) (by rw[List.length_set,List.length_set]; exact hc) (fun j hjt=>?_) (by omega) (by omega)
     by_cases e1:j=k
     ·subst e1;rw[List.getElem?_set_self (by rw[List.length_set]; omega),if_pos (by omega),show t.length-1-j=i by omega,List.getElem?_eq_getElem]
     ·rw[List.getElem?_set_ne (by omega)]
      by_cases e2:j=i
      ·subst e2;rw[List.getElem?_set_self (by omega),if_pos (by omega),show t.length-1-j=k by omega,List.getElem?_eq_getElem]
      ·rw[List.getElem?_set_ne (by omega),hj j hjt]
       by_cases e3:j<i∨t.length-1-j<i
       ·rw[if_pos e3,if_pos (by omega)]
       ·rw[if_neg e3,if_neg (by omega)]
    ·unfold q9
     try dsimp only
     rw[aO hlt,aJ hkt,bl,Int.toNat_natCast,Int.toNat_natCast,gk,an]
     try dsimp only
     rw[aJ Al,bl,gi,an]
     try dsimp only
     rw[bl,bl,gk2,an]
     try dsimp only
     rw[aR (by omega),ax (by omega) (by omega)]
  ·rw[bG (r:=c)]
   ·congr 1
    refine List.ext_getElem? fun j=>?_
    by_cases hjt:j<t.length
    ·rw[hj j hjt,List.getElem?_reverse hjt]
     split
     ·rfl
     ·congr 1; omega
    ·rw[List.getElem?_eq_none (by omega),List.getElem?_eq_none (by rw[List.length_reverse]; omega)]
   ·unfold q9
    try dsimp only
    rw[aK hlt]
theorem IL (t:List I2) (ht:t.length<1000) (hn:t.length<n):bT (q9 n t.length) n (t,0,IntKind.wrap .i64 ((t.length:Int)-1))=some t.reverse:=by
 have:=qG n t ht t.length n 0 t ((t.length:Int)-1) (by omega) (by omega) rfl (fun j hj=>by rw[if_neg (by omega)]) hn (Nat.zero_le _)
 rw[ax (by omega) (by omega)]
 exact this
end
def lP (l:List I2):List I2 × Int :=
 if (chain (iP l)).length<2∨(chain (iP l)).length+(chain (iP l).reverse).length<5 then([],4)
 else if 40<((chain (iP l)).dropLast++(chain (iP l).reverse).dropLast).length then([],3)
 else((chain (iP l)).dropLast++(chain (iP l).reverse).dropLast,0)
theorem Ci {l:List I2} (f:Int→Option (Int ⊕ (Int ⊕ Unit))) (hB:∀i:Nat,i<l.length→f (i:Int)=if Fa (nx l i) then some (.inr (.inl (i:Int))) else some (.inl ((i+1:Nat):Int))) (hE:f (l.length:Int)=some (.inr (.inr ()))) {n:Nat} (hn:l.length<n) :
  ∃r,bT f n 0=some r∧match r with | .inl v=>0≤v∧∃q ∈ l,Fa q | .inr _=>∀q ∈ l,¬Fa q:=by
 have L:∃r,bT f n ((0:Nat):Int)=some r∧match r with | .inl v=>0≤v∧∃q ∈ l,Fa q | .inr _=>∀q ∈ l,¬Fa q:=by
  refine sC (len:=l.length) (fun i (_:Unit)=>(i:Int)) (fun i _=>∀j,j<i→¬Fa (nx l j)) _ (fun i s hi hs=>?_) (fun s hs=>?_) l.length 0 () n (by omega) hn (fun j hj=>absurd hj (Nat.not_lt_zero _))
  ·by_cases h:Fa (nx l i)
   ·refine .inr ⟨.inl (i:Int),by rw[hB i hi,if_pos h],Int.natCast_nonneg i,nx l i,il (fun e=>by rw[e] at hi; cases hi) i,h⟩
   ·refine .inl ⟨(),by rw[hB i hi,if_neg h],fun j hj=>?_⟩
    by_cases e:j=i
    ·rw[e]; exact h
    ·exact hs j (by omega)
  ·refine⟨.inr (),hE,fun q hq=>?_⟩;obtain⟨j,hj,e⟩:=List.mem_iff_getElem.1 hq;have:=hs j hj;unfold nx at this;rwa[Nat.mod_eq_of_lt hj,List.getD_eq_getElem?_getD,List.getElem?_eq_getElem hj,Option.getD_some,e] at this
 exact L
theorem jL (l:List I2):(chain l).length≤l.length:=by
 unfold chain;rw[List.length_reverse];have:∀(l st:List I2),(l.foldl push st).length≤st.length+l.length:=fun l=>by
  induction l with
  | nil=>intro st; simp
  | cons p l ih =>
   intro st;have:=ih (push st p);have h2:=oR p st;rw[List.foldl_cons];unfold push at this ⊢;simp at this ⊢; omega
 simpa using this l []
theorem Ay:∀(l acc:List I2),(l.foldl uH acc).length≤acc.length+l.length
 | [],acc=>by simp
 | x::l,acc=>by
  have:=Ay l (uH acc x);have h2:(uH acc x).length≤acc.length+1:=by unfold uH; split<;>simp
  rw[List.foldl_cons];simp at this ⊢; omega
theorem yC (l:List I2):(iP l).length≤l.length:=by
 have:=Ay (l.mergeSort cF) [];unfold iP dd;rw[List.length_mergeSort] at this
 simpa using this
open Classical in
theorem GJ (n:Nat) {l:List I2} (h1:hU l) (hn:500<n):HM n l=some (if 200<l.length then([],3) else if ∃q ∈ l,Fa q then([],2) else lP l):=by
 unfold HM
 by_cases h:200<l.length
 ·rw[aO (by omega),if_pos h]
 ·rw[aK (by omega),if_neg h]
  obtain⟨r,h2,h0⟩:=Ci (l:=l) (tL n l) (fun i hi=>by
   have hq:fh (nx l i).1∧fh (nx l i).2:=h1 _ (il (fun e=>by rw[e] at hi; cases hi) i)
   unfold tL
   try dsimp only
   rw[aO (by omega),aJ hi,bl,eY hi,an]
   try dsimp only
   rw[oW n hq.1 hq.2,an,aR (by omega),rU]
   by_cases g:Fa (nx l i)
   ·rw[if_pos (decide_eq_true g),if_pos g]
   ·rw[if_neg (by simpa using g),if_neg g]) (by
   unfold tL
   try dsimp only
   rw[aK (by omega)]) (n:=n) (by omega)
  rw[h2,an];cases r with
  | inl v =>
   dsimp only at h0 ⊢
   rw[an,an,decide_eq_true h0.1,jO,if_pos h0.2]
  | inr _ =>
   dsimp only at h0 ⊢
   rw[an,an,aK (show ¬(0:Int)≤-1 by decide),if_neg (fun⟨q,a,b⟩=>h0 q a b)]
   have hnr:∀q ∈ l,Nr q:=fun q hq=>iL.1 (h0 q hq);unfold IG IB;have hlim:lim l.length=true:=Nat.ble_eq_true_of_le (by omega)
   rw[hlim,bl,an,hlim,bl,an];have hsl:(l.mergeSort cF).length=l.length:=List.length_mergeSort _;have C:(ob (br (decide ((l.length:Int)<2)) (some (l.mergeSort cF,l.length)) (
     ob (α:=(List (Int × Int)) ⊕ (Unit)) (bT (ll n l (l.mergeSort cF)) n 1) fun r0=>match r0 with
     | .inl l2=>some (l2,l2.length)
     | .inr _=>some (l.mergeSort cF,l.length))) fun x=>some x)=some (iP l,(iP l).length):=by
    by_cases h0:(l.length:Int)<2
    ·rw[aO h0,an];have:iP l=l.mergeSort cF:=by
      unfold iP;generalize hs:l.mergeSort cF=S at *
      match S,hsl with
      | [],_=>rfl
      | [a],_=>rfl
      | _::_::_,e=>simp at e; omega
     rw[this,hsl]
    ·rw[aK h0];have h3:dd ((l.mergeSort cF).take 1)=(l.mergeSort cF).take 1:=by
      generalize hs:l.mergeSort cF=S at *
      match S,hsl with
      | [],e=>simp at e; omega
      | a::t,_=>rfl
     obtain⟨r,g1,g0⟩:=oY n (S0:=l) (S:=l.mergeSort cF) hsl.symm (by omega) (by omega) (l.length-1) n 1 (by omega) (by omega) h3 (by omega)
     have g1':bT (ll n l (l.mergeSort cF)) n 1=some r:=g1;rw[g1',an];cases r with
     | inl l'=>dsimp only at g0 ⊢; rw[an,g0]; rfl
     | inr _ =>
      dsimp only at g0 ⊢
      rw[an];have e:iP l=l.mergeSort cF:=g0.symm;rw[e,hsl]
   have C':∀(β:Type) (K:List I2 × Nat→Option β),ob (br (decide ((l.length:Int)<2)) (some (l.mergeSort cF,l.length)) (
     ob (α:=(List (Int × Int)) ⊕ (Unit)) (bT (ll n l (l.mergeSort cF)) n 1) fun r0=>match r0 with
     | .inl l2=>some (l2,l2.length)
     | .inr _=>some (l.mergeSort cF,l.length))) K=K (iP l,(iP l).length):=fun β K=>by
    generalize br (decide ((l.length:Int)<2)) _ _=X at *;cases X with
    | none=>cases C
    | some x=>have:some x=some (iP l,(iP l).length):=C; rw[Option.some.inj this]; rfl
   refine Eq.trans (C' _ _) ?_
   try dsimp only
   have hpl:=yC l;have hpn:∀q ∈ iP l,Nr q:=fun q hq=>hnr q ((yN l q).1 hq);have hrl:(iP l).reverse.length=(iP l).length:=List.length_reverse;have cl:=zr n hn (l:=iP l) (by omega) hpn
   have cu:=Bk n hn (l:=(iP l).reverse) (by omega) (fun q hq=>hpn q (List.mem_reverse.1 hq))
   rw[hrl] at cu;have h4:=jL (iP l);have h5:=jL (iP l).reverse;rw[cl,an,an,IL n (iP l) (by omega) (by omega),an,an,cu,an,an]
   unfold lP;generalize hlo:chain (iP l)=lo at *;generalize hup:chain (iP l).reverse=up at *;rw[ax (x:=(lo.length:Int)+(up.length:Int)) (by omega) (by omega),ez,an,←Bool.decide_or]
   by_cases hs:lo.length<2∨lo.length+up.length<5
   ·rw[aO (by omega),if_pos hs]
   ·rw[aK (by omega),if_neg hs]
    have e0:IntKind.wrap .i64 ((lo.length:Int)-1)=((lo.length-1:Nat):Int):=by rw[ax (by omega) (by omega)]; omega
    have hupl:0<up.length:=by
     rw[←hup];have hne:iP l≠[]:=fun e=>by rw[e] at hlo; rw[←hlo] at hs; simp[chain] at hs
     unfold chain;rw[List.length_reverse];have:∀(l st:List I2),(0<l.length∨0<st.length)→0<(l.foldl push st).length:=fun l=>by
      induction l with
      | nil=>intro st h; simpa using h
      | cons p l ih=>intro st _; exact ih _ (.inr (by unfold push; simp))
     exact this _ _ (.inl (by rw[List.length_reverse]; exact List.length_pos_iff.2 hne))
    have e1:IntKind.wrap .i64 ((up.length:Int)-1)=((up.length-1:Nat):Int):=by rw[ax (by omega) (by omega)]; omega
    rw[e0,e1,show okB 0 ((lo.length-1:Nat):Int) lo.length=true from decide_eq_true (by omega),bl,yE (show 0<lo.length by omega),an,show okB 0 ((up.length-1:Nat):Int) up.length=true from decide_eq_true (by omega),bl,yE hupl,an,Int.toNat_natCast,Int.toNat_natCast,←List.dropLast_eq_take,←List.dropLast_eq_take,
     show lim (lo.dropLast++up.dropLast).length=true from Nat.ble_eq_true_of_le (by simp; omega),bl]
    by_cases hb:40<(lo.dropLast++up.dropLast).length
    ·rw[aO (by omega),if_pos hb]
    ·rw[aK (by omega),if_neg hb]
theorem xc (l:List I2):(lP l=([],4)∧(l = []∨∃a,(∀q ∈ l,Lx a q)∧a ∈ l∧∀p ∈ l,∀q ∈ l,ti a p q=0)) ∨
  ∃r,Hul (· ∈ l) r∧(∀q ∈ l,Lx (nx r 0) q)∧lP l=if 40<r.length then([],3) else(r,0):=by
 have hlt:=Fq l;have hm:=yN l;unfold lP;generalize iP l=s at *
 match s,hlt,hm with
 | [],_,hm =>
  refine .inl ⟨by rw[if_pos (.inl (by simp[chain]))],.inl ?_⟩
  match l,hm with
  | [],_=>rfl
  | a::l,hm=>exact absurd ((hm a).2 List.mem_cons_self) (by simp)
 | [a],_,hm =>
  refine .inl ⟨by rw[if_pos (.inl (by simp[chain,push,pop]))],.inr ⟨a,fun q hq=>?_,(hm a).1 (by simp),fun p hp q hq=>?_⟩⟩
  ·have:=(hm q).2 hq;rw[List.mem_singleton] at this; subst this;exact .inr ⟨rfl,Int.le_refl _⟩
  ·have h1:=(hm p).2 hp;have h2:=(hm q).2 hq;rw[List.mem_singleton] at h1 h2; subst h1 h2;exact HI _ _
 | a::c::t,hlt,hm =>
  obtain⟨b,hb⟩:∃b,(a::c::t).getLast? = some b:=by
   cases h:(a::c::t).getLast? with
   | none=>rw[List.getLast?_eq_none_iff] at h; cases h
   | some b=>exact⟨b,rfl⟩
  have hbm:b ∈ c::t:=by
   rw[List.getLast?_cons_cons] at hb;exact List.mem_of_getLast? hb
  have hab:a≠b:=fun e=>by
   have:=(List.pairwise_cons.1 hlt).1 b hbm;rw[e] at this; exact Lt.CP _ this
  obtain⟨m,u,e1,e2,w,hq,hin⟩:=Cn hlt rfl hb hab;rw[e1,e2];have hlow:∀q ∈ l,Lx a q:=fun q hq=>by
   rcases List.mem_cons.1 ((hm q).2 hq) with rfl|h
   ·exact .inr ⟨rfl,Int.le_refl _⟩
   ·have:=(List.pairwise_cons.1 hlt).1 q h;unfold Jd.Lt at this; unfold Lx; omega
  have hS:∀q,q ∈ a::c::t↔q ∈ l:=hm;have d1:(a::m++[b]).dropLast=a::m:=List.dropLast_concat;have d2:(b::u++[a]).dropLast=b::u:=List.dropLast_concat
  by_cases hn:m = []∧u = []
  ·obtain⟨rfl,rfl⟩:=hn;refine .inl ⟨by rw[if_pos (.inr (by simp))],.inr ⟨a,hlow,(hm a).1 (by simp),fun p hp q hq=>?_⟩⟩
   have hf:=Dy (S:=(· ∈ a::c::t)) w;exact BG hab (hf p ((hm p).2 hp)) (hf q ((hm q).2 hq))
  ·have hn':m≠[]∨u≠[]:=by
    by_cases h:m = []
    ·exact .inr fun h2=>hn ⟨h,h2⟩
    ·exact .inl h
   have hul:=(FE w hq hn').same hS;refine .inr ⟨a::m++b::u,hul,?_,?_⟩
   ·have:nx (a::m++b::u) 0=a:=by unfold nx; simp
    rw[this]; exact hlow
   ·rw[if_neg (by
     have h3:0<m.length∨0<u.length:=hn'.imp List.length_pos_iff.2 List.length_pos_iff.2;simp; omega),d1,d2]
section
variable (n : Nat)
theorem Gz (a b:I2):Iw n a.1 a.2 b.1 b.2=some (decide (Lt a b)):=by
 unfold Iw Jd.Lt;rw[eA,ez,←Bool.decide_and,←Bool.decide_or]
theorem Cs {l:List I2} (hl:l.length≤200) (hn:500<n):∃r,bT (pN n l) n (0,0)=some r∧match r with
  | .inl _=>∃q ∈ l,Fa q
  | .inr v=>(∀q ∈ l,¬Fa q)∧∃k:Nat,v=(k:Int)∧(l≠[]→k<l.length∧∀q ∈ l,Lx (nx l k) q):=by
 have L:∃r,bT (pN n l) n (((0:Nat):Int),((0:Nat):Int))=some r∧match r with
  | .inl _=>∃q ∈ l,Fa q
  | .inr v=>(∀q ∈ l,¬Fa q)∧∃k:Nat,v=(k:Int)∧(l≠[]→k<l.length∧∀q ∈ l,Lx (nx l k) q):=by
  have mem:∀q ∈ l,∃j,j<l.length∧nx l j=q:=fun q hq=>by
   obtain⟨j,hj,e⟩:=List.mem_iff_getElem.1 hq;exact⟨j,hj,by unfold nx; rw[Nat.mod_eq_of_lt hj,List.getD_eq_getElem?_getD,List.getElem?_eq_getElem hj,Option.getD_some,e]⟩
  refine sC (len:=l.length) (fun i (k:Nat)=>((k:Int),(i:Int))) (fun i k=>(∀j,j<i→¬Fa (nx l j))∧(l≠[]→k<l.length)∧∀j,j<i→Lx (nx l k) (nx l j)) _ (fun i k hi hs=>?_) (fun k hs=>?_) l.length 0 0 n (by omega) (by omega) ⟨fun j hj=>absurd hj (Nat.not_lt_zero _),fun h=>List.length_pos_iff.2 h,fun j hj=>absurd hj (Nat.not_lt_zero _)⟩
  ·obtain⟨h1,h2,h3⟩:=hs;have hne:l≠[]:=by rintro rfl; cases hi
   have hk:=h2 hne;have base:pN n l ((k:Int),(i:Int))=if Fa (nx l i) then some (.inr (.inl ())) else some (.inl (if Lt (nx l i) (nx l k) then(i:Int) else(k:Int),((i+1:Nat):Int))):=by
    unfold pN
    dsimp only
    rw[aO (by omega),aJ hi,bl,eY hi,an]
    dsimp only
    rw[mw,an]
    by_cases g:Fa (nx l i)
    ·rw[aO g,an,if_pos g]
    ·rw[aK g,bl,aJ hk,bl,eY hk,an]
     dsimp only
     rw[Gz,an,aR (by omega),if_neg g]
     by_cases g2:Lt (nx l i) (nx l k)
     ·rw[aO g2,an,if_pos g2]
     ·rw[aK g2,an,if_neg g2]
   by_cases g:Fa (nx l i)
   ·exact .inr ⟨.inl (),by rw[base,if_pos g],⟨nx l i,il hne i,g⟩⟩
   ·have hfar:∀j,j<i+1→¬Fa (nx l j):=fun j hj=>by
     by_cases e:j=i
     ·rw[e]; exact g
     ·exact h1 j (by omega)
    by_cases g2:Lt (nx l i) (nx l k)
    ·refine .inl ⟨i,by rw[base,if_neg g,if_pos g2],hfar,fun _=>hi,fun j hj=>?_⟩
     by_cases e:j=i
     ·rw[e]; exact .inr ⟨rfl,Int.le_refl _⟩
     ·have:=h3 j (by omega)
      unfold Jd.Lt at g2; unfold Lx at this ⊢; omega
    ·refine .inl ⟨k,by rw[base,if_neg g,if_neg g2],hfar,fun _=>hk,fun j hj=>?_⟩
     by_cases e:j=i
     ·rw[e]; unfold Jd.Lt at g2; unfold Lx; omega
     ·exact h3 j (by omega)
  ·obtain⟨h1,h2,h3⟩:=hs;refine⟨.inr (k:Int),?_,fun q hq=>?_,k,rfl,fun hne=>⟨h2 hne,fun q hq=>?_⟩⟩
   ·unfold pN
    dsimp only
    rw[aK (by omega)]
   ·obtain⟨j,hj,e⟩:=mem q hq;rw[←e]; exact h1 j hj
   ·obtain⟨j,hj,e⟩:=mem q hq;rw[←e]; exact h3 j hj
 exact L
theorem q6 {l:List I2} (f:(Bool × Int)→Option ((Bool × Int) ⊕ Bool)) (p:I2→Prop) [DecidablePred p] (hf:∀(s:Bool) (i:Nat),i<l.length→f (s,(i:Int))=some (.inl (s && decide (p (nx l i)),((i+1:Nat):Int)))) (he:∀s,f (s,(l.length:Int))=some (.inr s)) (b:Bool) {n:Nat} (hn:l.length<n) :
  bT f n (b,0)=some (b && decide (∀q ∈ l,p q)):=by
 have L:∃r,bT f n (b,((0:Nat):Int))=some r∧r=(b && decide (∀q ∈ l,p q)):=by
  refine sC (len:=l.length) (fun i (s:Bool)=>(s,(i:Int))) (fun i s=>s=true↔b=true∧∀j,j<i→p (nx l j)) _ (fun i s hi hs=>.inl ⟨_,hf s i hi,?_⟩) (fun s hs=>⟨s,he s,?_⟩) l.length 0 b n (by omega) hn ?_
  ·rw[Bool.and_eq_true,hs,decide_eq_true_eq];constructor
   ·rintro⟨⟨h1,h2⟩,h3⟩;refine⟨h1,fun j hj=>?_⟩
    by_cases e:j=i
    ·rw[e]; exact h3
    ·exact h2 j (by omega)
   ·rintro⟨h1,h2⟩;exact⟨⟨h1,fun j hj=>h2 j (by omega)⟩,h2 i (by omega)⟩
  ·rw[Bool.eq_iff_iff,hs,Bool.and_eq_true,decide_eq_true_eq];refine and_congr_right fun _=>⟨fun h q hq=>?_,fun h j hj=>h _ (il (fun e=>by rw[e] at hj; cases hj) j)⟩
   obtain⟨j,hj,e⟩:=List.mem_iff_getElem.1 hq;have:=h j hj;unfold nx at this;rwa[Nat.mod_eq_of_lt hj,List.getD_eq_getElem?_getD,List.getElem?_eq_getElem hj,Option.getD_some,e] at this
  ·constructor
   ·intro h; exact⟨h,fun j hj=>absurd hj (Nat.not_lt_zero _)⟩
   ·exact fun h=>h.1
 obtain⟨r,h1,h2⟩:=L;rw[←h2]; exact h1
theorem Ed {l:List I2} (hl:l.length≤200) (hn:500<n) (hnr:∀i,Nr (nx l i)) {k:Nat} (hk:k<l.length):bT (nj n l (k:Int)) n (true,0)=some (decide (∀p ∈ l,∀q ∈ l,ti (nx l k) p q=0)):=by
 have:=q6 (l:=l) (nj n l (k:Int)) (fun p=>∀q ∈ l,ti (nx l k) p q=0) (fun s i hi=>by
  have inner:=q6 (l:=l) (uI n l (k:Int) (i:Int)) (fun q=>ti (nx l k) (nx l i) q=0) (fun s2 j hj=>by
   unfold uI
   dsimp only
   rw[aO (by omega),aJ hk,bl,eY hk,an]
   dsimp only
   rw[aJ hi,bl,eY hi,an]
   dsimp only
   rw[aJ hj,bl,eY hj,an]
   dsimp only
   rw[jd n (hnr _) (hnr _) (hnr _),an,eA,an,aR (by omega)]) (fun s2=>by
   unfold uI
   dsimp only
   rw[aK (by omega)]) s (n:=n) (by omega)
  unfold nj
  dsimp only
  rw[aO (by omega),inner,an,aR (by omega)]) (fun s=>by
  unfold nj
  dsimp only
  rw[aK (by omega)]) true (n:=n) (by omega)
 rw[this,Bool.true_and]
theorem rp {l:List I2} (hl:l.length≤200) (hn:500<n) (hnr:∀i,Nr (nx l i)) {x:I2} (hx:Nr x):∀(rest done:List I2) (c:I2) (m:Nat),done++rest=l→Nr c→rest.length<m→bT (pO n l x.1 x.2) m (c.1,c.2,(done.length:Int))=some ((rest.foldl (fC x) c).1,(rest.foldl (fC x) c).2)
 | [],done,c,m+1,h,hc,_=>by
  rw[List.append_nil] at h; subst h;rw[bG (r:=(c.1,c.2))]
  ·rfl
  ·unfold pO
   dsimp only
   rw[aK (by omega)]
 | q::rest,done,c,m+1,h,hc,hm=>by
  have hi:done.length<l.length:=by rw[←h]; simp
  have hq:l[done.length]? = some (q.1,q.2):=by rw[←h,List.getElem?_append_right (Nat.le_refl _),Nat.sub_self]; rfl
  have hqn:Nr q:=by
   have:=hnr done.length;unfold nx at this;rwa[Nat.mod_eq_of_lt hi,List.getD_eq_getElem?_getD,hq] at this
  have step:pO n l x.1 x.2 (c.1,c.2,(done.length:Int))=some (.inl ((fC x c q).1,(fC x c q).2,((done.length+1:Nat):Int))):=by
   unfold pO
   dsimp only
   rw[aO (by omega),aJ hi,bl,Int.toNat_natCast,hq,an]
   dsimp only
   rw[jd n hx hc hqn,an,bl,Ch n hx hc hqn,an,bl,aR (by omega),dE]
   unfold fC
   by_cases h1:c=x
   ·rw[aO h1,an,jO,an,if_pos (.inl h1)]
   ·rw[aK h1]
    by_cases h2:ti x c q<0
    ·rw[aO h2,an,jO,an,if_pos (.inr (.inl h2))]
    ·rw[aK h2]
     by_cases h3:ti x c q=0
     ·rw[aO h3,an]
      by_cases h4:0<di x c q
      ·rw[aO h4,an,if_pos (.inr (.inr ⟨h3,h4⟩))]
      ·rw[aK h4,an,if_neg (by rintro(e|e|e); exact h1 e; exact h2 e; exact h4 e.2)]
     ·rw[aK h3,an,gB,an,if_neg (by rintro(e|e|e); exact h1 e; exact h2 e; exact h3 e.1)]
  have hjn:Nr (fC x c q):=by unfold fC; split<;>assumption
  rw[aV step];have:=rp hl hn hnr hx rest (done++[q]) (fC x c q) m (by rw[←h]; simp) hjn (by simp at hm; omega)
  rw[List.length_append,List.length_singleton] at this;exact this
theorem rf {l r:List I2} (hl:l.length≤200) (hn:500<n) (hnr:∀i,Nr (nx l i)) (h:Hul (· ∈ l) r):∀(d k m:Nat),k+1+d=r.length→d<m→∃N,bT (vi n l) m (r.take (k+1),k+1)=some (r,N)∧N=r.length
 | d,k,m+1,hd,hm=>by
  have hkr:k<r.length:=by omega
  have hrl:r.length≤l.length:=by
   refine jJ ?_ fun q hq=>?_
   ·rw[List.nodup_iff_pairwise_ne,List.pairwise_iff_getElem];intro i j hi hj hij e;have:=h.nodup i j hij hj;unfold nx at this;rw[Nat.mod_eq_of_lt hi,Nat.mod_eq_of_lt hj,List.getD_eq_getElem?_getD,List.getD_eq_getElem?_getD,List.getElem?_eq_getElem hi,List.getElem?_eq_getElem hj] at this;exact this e
   ·obtain⟨j,hj,e⟩:=List.mem_iff_getElem.1 hq;have:=h.mem j;unfold nx at this;rwa[Nat.mod_eq_of_lt hj,List.getD_eq_getElem?_getD,List.getElem?_eq_getElem hj,Option.getD_some,e] at this
  have hmemN:∀i,Nr (nx r i):=fun i=>by
   have hin:nx r i ∈ l:=h.mem i;obtain⟨j,hj,e⟩:=List.mem_iff_getElem.1 hin;have:=hnr j;unfold nx at this e ⊢;rwa[Nat.mod_eq_of_lt hj,List.getD_eq_getElem?_getD,List.getElem?_eq_getElem hj,Option.getD_some,e] at this
  have nxk:∀i (hi:i<r.length),r[i]'hi=nx r i:=fun i hi=>by unfold nx; rw[Nat.mod_eq_of_lt hi,List.getD_eq_getElem?_getD,List.getElem?_eq_getElem hi]; rfl
  have gk:(r.take (k+1))[k]? = some ((nx r k).1,(nx r k).2):=by rw[List.getElem?_take,if_pos (by omega),List.getElem?_eq_getElem hkr,nxk k hkr]
  have g0:(r.take (k+1))[0]? = some ((nx r 0).1,(nx r 0).2):=by rw[List.getElem?_take,if_pos (by omega),List.getElem?_eq_getElem (by omega),nxk 0 (by omega)]
  have ew:IntKind.wrap .i64 (((k+1:Nat):Int)-1)=((k:Nat):Int):=by rw[ax (by omega) (by omega)]; omega
  have hwl:=rp n hl hn hnr (hmemN k) l [] (nx r k) n (by simp) (hmemN k) (by omega)
  rw[h.wrap (fun q=>Iff.rfl) k] at hwl;have hwl':bT (pO n l (nx r k).1 (nx r k).2) n ((nx r k).1,(nx r k).2,0)=some ((nx r (k+1)).1,(nx r (k+1)).2):=hwl;have step:vi n l (r.take (k+1),k+1)=if nx r (k+1)=nx r 0 then some (.inr (r.take (k+1),k+1)) else some (.inl (r.take (k+1)++[nx r (k+1)],(r.take (k+1)++[nx r (k+1)]).length)):=by
   unfold vi
   dsimp only
   rw[ew,aJ (by omega),bl,Int.toNat_natCast,gk,an]
   dsimp only
   rw[hwl',an]
   dsimp only
   rw[show bJ 0 (k+1)=true from decide_eq_true ⟨Int.le_refl 0,by simp⟩,bl,show(r.take (k+1))[(0:Int).toNat]? = some ((nx r 0).1,(nx r 0).2) from g0,an]
   dsimp only
   rw[dE]
   by_cases e:nx r (k+1)=nx r 0
   ·rw[aO e,if_pos e]
   ·rw[aK e,if_neg e,show lim (r.take (k+1)++[((nx r (k+1)).1,(nx r (k+1)).2)]).length=true from Nat.ble_eq_true_of_le (by simp; omega),bl]
  by_cases e:nx r (k+1)=nx r 0
  ·rw[if_pos e] at step;have hk1:=(h.back hkr).1 e;refine⟨k+1,?_,hk1⟩;rw[bG step,hk1,List.take_length]
  ·rw[if_neg e] at step;have hk1:k+1<r.length:=by
    refine Decidable.byContradiction fun hc=>e ((h.back hkr).2 (by omega))
   match d with
   | 0=>omega
   | d+1 =>
    obtain⟨N,g1,g2⟩:=rf hl hn hnr h d (k+1) m (by omega) (by omega)
    refine⟨N,?_,g2⟩;rw[aV step,←g1]
    congr 2
    ·rw[List.take_succ_eq_append_getElem hk1,nxk (k+1) hk1]
    ·simp; omega
open Classical in
theorem Ff {l:List I2} (hn:500<n):G5 n l=some (if 200<l.length then([],3) else if ∃q ∈ l,Fa q then([],2) else lP l):=by
 unfold G5
 by_cases h:200<l.length
 ·rw[aO (by omega),if_pos h]
 ·rw[aK (by omega),if_neg h]
  obtain⟨r,h1,h2⟩:=Cs n (l:=l) (by omega) hn
  rw[h1,an];cases r with
  | inl v =>
   dsimp only at h2 ⊢
   rw[if_pos h2]
  | inr v =>
   obtain⟨h2,k,rfl,hk⟩:=h2
   dsimp only
   rw[if_neg (fun⟨q,a,b⟩=>h2 q a b)]
   by_cases hne:l = []
   ·subst hne;have e:bT (nj n [] (k:Int)) n (true,0)=some true:=by
     obtain⟨m,rfl⟩:∃m,n=m+1:=⟨n-1,by omega⟩
     refine bG ?_;unfold nj
     dsimp only
     rw[aK (by simp)]
    rw[e,an,jO];unfold lP;rw[if_pos (.inl (by simp[iP,dd,chain]))]
   ·obtain⟨hk1,hk2⟩:=hk hne;have hnr:∀i,Nr (nx l i):=fun i=>iL.1 (h2 _ (il hne i));rw[Ed n (by omega) hn hnr hk1,an]
    have kin:nx l k ∈ l:=il hne k;have uniq:∀{a:I2},(∀q ∈ l,Lx a q)→a ∈ l→a=nx l k:=fun {a} h1 h2=>by
     have g1:=h1 _ kin;have g2:=hk2 _ h2;unfold Lx at g1 g2;exact Prod.ext (by omega) (by omega)
    rcases xc l with⟨e1,hh⟩|⟨r,hr,hlow,e1⟩
    ·rcases hh with hh|⟨a,ha1,ha2,ha3⟩
     ·exact absurd hh hne
     ·rw[uniq ha1 ha2] at ha3;rw[aO ha3,e1]
    ·have h0:=uniq hlow (hr.mem 0);rw[aK (fun hc=>by
      have:=hr.gN 0;rw[h0,hc _ (hr.mem 1) _ (hr.mem 2)] at this;exact absurd this (by decide)),aJ hk1,bl,eY hk1,an]
     dsimp only
     have hn3:=hr.n3;obtain⟨N,g1,g2⟩:=rf n (by omega) hn hnr hr (r.length-1) 0 n (by omega) (by
      have:r.length≤l.length:=by
       refine jJ ?_ fun q hq=>?_
       ·rw[List.nodup_iff_pairwise_ne,List.pairwise_iff_getElem];intro i j hi hj hij e;have:=hr.nodup i j hij hj;unfold nx at this;rw[Nat.mod_eq_of_lt hi,Nat.mod_eq_of_lt hj,List.getD_eq_getElem?_getD,List.getD_eq_getElem?_getD,List.getElem?_eq_getElem hi,List.getElem?_eq_getElem hj] at this;exact this e
       ·obtain⟨j,hj,e⟩:=List.mem_iff_getElem.1 hq;have:=hr.mem j;unfold nx at this;rwa[Nat.mod_eq_of_lt hj,List.getD_eq_getElem?_getD,List.getElem?_eq_getElem hj,Option.getD_some,e] at this
      omega)
     have ht:r.take (0+1) = [((nx l k).1,(nx l k).2)]:=by
      rw[←h0]
      match r,hn3 with
      | a::r,_=>unfold nx; simp
     rw[ht] at g1;rw[show([((nx l k).1,(nx l k).2)]:List (Int × Int)) = [((nx l k).1,(nx l k).2)] from rfl,show(1:Nat)=0+1 from rfl,g1,an]
     dsimp only
     rw[e1,g2]
     by_cases hb:40<r.length
     ·rw[aO (by omega),if_pos hb]
     ·rw[aK (by omega),if_neg hb]
end
def Sm (l:List I2):Prop:=∀q ∈ l,(-128≤q.1∧q.1≤127)∧(-128≤q.2∧q.2≤127)
theorem Sm.pt {l:List I2} (h:Sm l):hU l:=fun q hq=>by have:=h q hq; unfold fh; omega
theorem qJ {α:Type} (l:List α) (k:Nat):((l.drop (0:Int).toNat).take ((mi (l.length:Int) (k:Int):Int).toNat-(0:Int).toNat))=l.take k:=by
 show l.take ((mi (l.length:Int) (k:Int)).toNat-0)=_
 rw[lZ,Nat.sub_zero];rcases Nat.le_total l.length k with g|g
 ·rw[List.take_of_length_le (by omega),List.take_of_length_le g]
 ·rw[show(min (l.length:Int) (k:Int)).toNat=k by omega]
theorem xF {α:Type} (l:List α) (k:Nat):okB 0 (mi (l.length:Int) (k:Int)) l.length=true:=decide_eq_true (by rw[lZ]; omega)
theorem lX {σ:Type} (st:Nat→List I2→σ) (B:σ→Option (σ ⊕ List I2)) (g:Nat→I2) (N:Nat) (hB:∀i l,i<N→l.length<1000→B (st i l)=some (.inl (st (i+1) (l++[g i])))) (hE:∀l,B (st N l)=some (.inr l)) :
  ∀(k i m:Nat) (l:List I2),i+k=N→l.length+k<1000→k<m→bT B m (st i l)=some (l++(List.range' i k).map g)
 | 0,i,m+1,l,h,_,_=>by
  rw[Nat.add_zero] at h; subst h;rw[bG (hE l)]; simp
 | k+1,i,m+1,l,h,hl,hm=>by
  rw[aV (hB i l (by omega) (by omega)),lX st B g N hB hE k (i+1) m _ (by omega) (by simp; omega) (by omega),List.range'_succ]
  simp
theorem Ep (n:Nat) {l:List I2} (h:Sm l) (hn:500<n):bT (zA n l) n ([],0)=some (l.take 30):=by
 have hlen:(l.take 30).length≤30:=by rw[List.length_take]; omega
 have hs:Sm (l.take 30):=fun q hq=>h q (List.mem_of_mem_take hq);have hb:∀(o:List I2) (v:Int),zA n l (o,v)=br (decide (v<((l.take 30).length:Int))) (gd (bJ v ((l.take 30).length)) (ob ((l.take 30)[v.toNat]?) fun(x71,x72)=>gd (lim (o++[(IntKind.wrap .i64 x71,IntKind.wrap .i64 x72)]).length) (some (.inl ((o++[(IntKind.wrap .i64 x71,IntKind.wrap .i64 x72)]),IntKind.wrap .i64 (v+1)))))) (some (.inr o)):=fun o v=>by
  unfold zA
  dsimp only
  rw[show(30:Int)=((30:Nat):Int) from rfl,qJ l 30]
 generalize l.take 30=s at *;have:=lX (fun i (o:List I2)=>(o,(i:Int))) (zA n l) (fun i=>nx s i) s.length (fun i o hi ho=>by
  have hq:=hs _ (il (fun e=>by rw[e] at hi; cases hi) i)
  rw[hb,aO (by omega),aJ hi,bl,eY hi,an]
  dsimp only
  rw[ax (by omega) (by omega),ax (by omega) (by omega),show lim (o++[((nx s i).1,(nx s i).2)]).length=true from Nat.ble_eq_true_of_le (by simp; omega),bl,aR (by omega)]) (fun o=>by
  rw[hb,aK (by omega)]) s.length 0 n [] (by omega) (by simp; omega) (by omega)
 have e:[]++(List.range' 0 s.length).map (fun i=>nx s i)=s:=by
  rw[List.nil_append,←List.range_eq_range'];refine List.ext_getElem (by simp) fun i h1 h2=>?_
  rw[List.getElem_map,List.getElem_range];unfold nx;rw[Nat.mod_eq_of_lt h2,List.getD_eq_getElem?_getD,List.getElem?_eq_getElem h2]; rfl
 rw[e] at this;exact this
theorem DQ (n:Nat) {x26:Nat} {l:List I2} (h:hU l) (hl:l.length≤30) (hn:500<n):∃r,bT (tC n x26) n l=some r∧r.length<1000∧hU r:=by
 have key:∀(k m:Nat) (l:List I2),210≤l.length+k→l.length≤210→k<m→hU l→∃r,bT (tC n x26) m l=some r∧r.length<1000∧hU r:=by
  intro k
  induction k with
  | zero =>
   intro m l h1 h2 h3 h4;obtain⟨m,rfl⟩:∃q,m=q+1:=⟨m-1,by omega⟩
   refine⟨l,bG ?_,by omega,h4⟩
   unfold tC;rw[ax (x:=((x26%20:Nat):Int)) (by omega) (by omega),ax (x:=190+((x26%20:Nat):Int)) (by omega) (by omega),aK (by omega)]
  | succ k ih =>
   intro m l h1 h2 h3 h4;obtain⟨m,rfl⟩:∃q,m=q+1:=⟨m-1,by omega⟩
   by_cases hc:(l.length:Int)<190+((x26%20:Nat):Int)
   ·have hb:tC n x26 l=some (.inl (l++[(Int.tmod (l.length:Int) 14,IntKind.wrap .i64 (Int.tdiv (l.length:Int) 14))])):=by
     unfold tC;rw[ax (x:=((x26%20:Nat):Int)) (by omega) (by omega),ax (x:=190+((x26%20:Nat):Int)) (by omega) (by omega),aO hc,show lim (l++[(Int.tmod (l.length:Int) 14,IntKind.wrap .i64 (Int.tdiv (l.length:Int) 14))]).length=true from Nat.ble_eq_true_of_le (by simp; omega),bl]
    rw[aV hb];refine ih m _ (by simp; omega) (by simp; omega) (by omega) fun q hq=>?_
    rcases List.mem_append.1 hq with hq|hq
    ·exact h4 q hq
    ·rw[List.mem_singleton] at hq; subst hq;refine⟨?_,uO _⟩;have:Int.tmod (l.length:Int) 14=((l.length%14:Nat):Int):=rfl
     dsimp only
     rw[this]; unfold fh; omega
   ·refine⟨l,bG ?_,by omega,h4⟩
    unfold tC;rw[ax (x:=((x26%20:Nat):Int)) (by omega) (by omega),ax (x:=190+((x26%20:Nat):Int)) (by omega) (by omega),aK hc]
 exact key 210 n l (by omega) (by omega) (by omega) h
theorem DN (n:Nat) {x26:Nat} (hn:500<n):∃r,bT (zk n x26) n ([],0)=some r∧r.length<1000∧hU r:=by
 have hb:∀(o:List I2) (i:Nat),zk n x26 (o,(i:Int))=br (decide ((i:Int)<30+((x26%20:Nat):Int))) (gd (lim (o++[((i:Int),IntKind.wrap .i64 ((i:Int)*(i:Int)))]).length) (some (.inl (o++[((i:Int),IntKind.wrap .i64 ((i:Int)*(i:Int)))],IntKind.wrap .i64 ((i:Int)+1))))) (some (.inr o)):=fun o i=>by
  unfold zk
  dsimp only
  rw[ax (x:=((x26%20:Nat):Int)) (by omega) (by omega),ax (x:=30+((x26%20:Nat):Int)) (by omega) (by omega)]
 have:=lX (fun i (o:List I2)=>(o,(i:Int))) (zk n x26) (fun i=>((i:Int),IntKind.wrap .i64 ((i:Int)*(i:Int)))) (30+x26%20) (fun i o hi ho=>by
  rw[hb,aO (by omega),show lim (o++[((i:Int),IntKind.wrap .i64 ((i:Int)*(i:Int)))]).length=true from Nat.ble_eq_true_of_le (by simp; omega),bl,aR (by omega)]) (fun o=>by
  rw[hb,aK (by omega)]) (30+x26%20) 0 n [] (by omega) (by simp; omega) (by omega)
 refine⟨_,this,by simp; omega,fun q hq=>?_⟩
 rw[List.nil_append] at hq;obtain⟨i,hi,rfl⟩:=List.mem_map.1 hq;have:=List.mem_range'_1.1 hi;exact⟨by unfold fh; dsimp only; omega,uO _⟩
theorem Gn (n:Nat) (a b c d:I2):Gm n a.1 a.2 b.1 b.2 c.1 c.2 d.1 d.2=some (if Fa a∨Fa b∨Fa c∨Fa d∨a=b∨c=d then(0,2) else(sI a b c d,0)):=by
 classical
 unfold Gm;rw[mw,mw,mw,mw,an,an,an,an,ez,ez,ez,ez,ez,an,dE,dE,rU];have hd:(decide (Fa a) || (decide (Fa b) || (decide (Fa c) || (decide (Fa d) || (decide (a=b) || decide (c=d))))))=decide (Fa a∨Fa b∨Fa c∨Fa d∨a=b∨c=d):=by
  simp only[Bool.decide_or]
 rw[hd]
 by_cases h:Fa a∨Fa b∨Fa c∨Fa d∨a=b∨c=d
 ·rw[if_pos (decide_eq_true h),if_pos h]
 ·rw[if_neg (by simpa using h),if_neg h]
  simp only[not_or] at h;obtain⟨h1,h2,h3,h4,h5,h6⟩:=h;rw[Br n (iL.1 h1) (iL.1 h2) (iL.1 h3) (iL.1 h4) h5 h6,an]
theorem BV (l:List I2) (h:l.length≤200):(lP l).1.length≤400:=by
 have h1:=jL (iP l);have h2:=jL (iP l).reverse;have h3:=yC l;rw[List.length_reverse] at h2;unfold lP
 split
 ·simp
 ·split
  ·simp
  ·simp; omega
theorem JT {B:Int→Option (Int ⊕ (Unit ⊕ Unit))} (hB:∀i:Nat,i<6→B (i:Int)=some (.inl ((i+1:Nat):Int))) (hE:B 6=some (.inr (.inr ()))) {n:Nat} (hn:6<n):bT B n 0=some (.inr ()):=by
 obtain⟨n,rfl⟩:∃m,n=m+7:=⟨n-7,by omega⟩
 rw[show(0:Int)=((0:Nat):Int) from rfl,aV (hB 0 (by decide)),aV (hB 1 (by decide)),aV (hB 2 (by decide)),aV (hB 3 (by decide)),aV (hB 4 (by decide)),aV (hB 5 (by decide)),show((5+1:Nat):Int)=6 from rfl,bG hE]
theorem JR {B:Int→Option (Int ⊕ (Unit ⊕ Unit))} (hB:∀i:Nat,i<2→B (i:Int)=some (.inl ((i+1:Nat):Int))) (hE:B 2=some (.inr (.inr ()))) {n:Nat} (hn:2<n):bT B n 0=some (.inr ()):=by
 obtain⟨n,rfl⟩:∃m,n=m+3:=⟨n-3,by omega⟩
 rw[show(0:Int)=((0:Nat):Int) from rfl,aV (hB 0 (by decide)),aV (hB 1 (by decide)),show((1+1:Nat):Int)=2 from rfl,bG hE]
theorem oo (n:Nat) {x y:Int} {p o:List I2} {i:Nat} (hi:i<4) (hp:p[i]? = some (x,y)) (ho:o.length=4):∃u v,fh u∧fh v∧xz n (p,o,(i:Int))=some (.inl (p,o.set i (u,v),((i+1:Nat):Int))):=by
 obtain⟨q,hq⟩:∃q,o[i]? = some q:=⟨o[i]'(by omega),List.getElem?_eq_getElem _⟩
 have hm:∀z:Int,fh (Int.tmod z 6):=fun z=>by
  have h1:=Int.tmod_lt_of_pos z (show(0:Int)<6 by decide)
  have h2 : -6<Int.tmod z 6:=by
   have:=Int.tmod_lt_of_pos (-z) (show(0:Int)<6 by decide)
   rw[Int.neg_tmod] at this; omega
  unfold fh; omega
 refine⟨Int.tmod (IntKind.wrap .i64 x) 6,Int.tmod (IntKind.wrap .i64 y) 6,hm _,hm _,?_⟩;unfold xz
 dsimp only
 rw[aO (by omega),aJ hi,bl,Int.toNat_natCast,hp,an]
 dsimp only
 rw[bl,bl,hq,an,aR (by omega)]
theorem I9 {l:List I2} (h:l.length=4):∃a b c d,l = [a,b,c,d]:=by
 match l,h with
 | [a,b,c,d],_=>exact⟨a,b,c,d,rfl⟩
theorem Dg (n:Nat) {l1 l5:List I2} (h2:hU l1) (h0:Sm l5) {l:List Nat} {x13 x14:Int} {x15:Nat} (d:Dr l x13 x14 x15) (row turned:Bool) (m1 m3 m4 m2 m5 m6 m7 m8:Int) {x26:Nat} (_:x26<256) (hn:500<n) :
  F3 n l1 l5 l x13 x14 x15 row turned m1 m3 m4 m2 m5 m6 m7 m8 x26=some true:=by
 classical
 have ht:Sm (l5.take 30):=fun q hq=>h0 q (List.mem_of_mem_take hq);have htl:(l5.take 30).length≤30:=by rw[List.length_take]; omega
 have hr:hU (l1.take 20):=fun q hq=>h2 q (List.mem_of_mem_take hq);have hrl:(l1.take 20).length≤20:=by rw[List.length_take]; omega
 have hdk:=Bz d row turned;have hdl:=hdk.len;obtain⟨r0,e1,g0,p0⟩:=DQ n (x26:=x26) (l:=l5.take 30) ht.pt htl hn;obtain⟨r1,e2,g1,p1⟩:=DN n (x26:=x26) hn;have e0:((l1.drop (0:Int).toNat).take ((mi (l1.length:Int) (20:Int):Int).toNat-(0:Int).toNat))=l1.take 20:=qJ l1 20;unfold F3;rw[show okB 0 (mi (l1.length:Int) (20:Int)) l1.length=true from xF l1 20,bl,show okB 0 (mi (l5.length:Int) (30:Int)) l5.length=true from xF l5 30,bl,Ep n h0 hn,an,List.nil_append,show lim (l5.take 30).length=true from Nat.ble_eq_true_of_le (by omega),bl,e1,an,e2,an,Gd n d row turned (by omega),an,bl,e0,
  show lim (l5.take 30++l1.take 20).length=true from Nat.ble_eq_true_of_le (by rw[List.length_append]; omega),bl]
 have hl:∀i:Nat,i<6→∃k,[l1.take 20,l5.take 30,qP l x13 x14 x15 row turned,l5.take 30++l1.take 20,r0,r1][i]? = some k∧k.length<1000∧hU k:=fun i hi=>by
  match i,hi with
  | 0,_=>exact⟨_,rfl,by omega,hr⟩
  | 1,_=>exact⟨_,rfl,by omega,ht.pt⟩
  | 2,_=>exact⟨_,rfl,by omega,hdk.pt⟩
  | 3,_=>exact⟨_,rfl,by rw[List.length_append]; omega,fun q hq=>(List.mem_append.1 hq).elim (ht.pt q) (hr q)⟩
  | 4,_=>exact⟨_,rfl,g0,p0⟩
  | 5,_=>exact⟨_,rfl,g1,p1⟩
 have L:bT (BZ n l1 (l5.take 30) (qP l x13 x14 x15 row turned) r0 r1) n 0=some (.inr ()):=by
  refine JT (fun i hi=>?_) ?_ (by omega)
  rotate_left
  ·unfold BZ
   try dsimp only
   rw[aK (by decide)]
  obtain⟨k,e,g4,g2⟩:=hl i hi;unfold BZ
  try dsimp only
  rw[e0,List.nil_append,aO (by omega),aJ hi,bl,Int.toNat_natCast,e,an,GJ n g2 hn,an,Ff n hn,an]
  have hs:GL n (if 200<k.length then(([]:List I2),(3:Int)) else if ∃q ∈ k,Fa q then([],2) else lP k).1 (if 200<k.length then(([]:List I2),(3:Int)) else if ∃q ∈ k,Fa q then([],2) else lP k).1=some true:=by
   have hlen:(if 200<k.length then(([]:List I2),(3:Int)) else if ∃q ∈ k,Fa q then([],2) else lP k).1.length≤400:=by
    split
    ·simp
    ·split
     ·simp
     ·exact BV k (by omega)
   rw[Fk n (by omega) (by omega),decide_eq_true rfl]
  generalize (if 200<k.length then(([]:List I2),(3:Int)) else if ∃q ∈ k,Fa q then([],2) else lP k)=A at *
  obtain⟨A1,A2⟩:=A
  dsimp only at hs ⊢
  rw[decide_eq_true rfl,Bool.not_true,gB,hs,an,an,Bool.not_true,gB,aR (by omega)]
 rw[L,an]
 dsimp only
 have P:∃a b c d:I2,bT (xz n) n ([(m1,m3),(m4,m2),(m5,m6),(m7,m8)],[(0,0),(0,0),(0,0),(0,0)],0)=some [a,b,c,d]∧hU [a,b,c,d]:=by
  have z:∀q:I2,q ∈ ([(0,0),(0,0),(0,0),(0,0)]:List I2)→fh q.1∧fh q.2:=fun q hq=>by
   simp only[List.mem_cons,List.not_mem_nil,or_false] at hq;have:q=(0,0):=by rcases hq with h|h|h|h<;>exact h
   subst this; exact⟨vf,vf⟩
  obtain⟨n,rfl⟩:∃m,n=m+5:=⟨n-5,by omega⟩
  obtain⟨u0,v0,a0,b0,s0⟩:=oo (n+5) (i:=0) (p:=[(m1,m3),(m4,m2),(m5,m6),(m7,m8)]) (o:=[(0,0),(0,0),(0,0),(0,0)]) (by decide) rfl rfl
  have z0:=pX (l:=[(0,0),(0,0),(0,0),(0,0)]) z 0 (q:=(u0,v0)) ⟨a0,b0⟩;obtain⟨u1,v1,a1,b1,s1⟩:=oo (n+5) (i:=1) (p:=[(m1,m3),(m4,m2),(m5,m6),(m7,m8)]) (o:=([(0,0),(0,0),(0,0),(0,0)]:List I2).set 0 (u0,v0)) (by decide) rfl rfl
  have z1:=pX z0 1 (q:=(u1,v1)) ⟨a1,b1⟩;obtain⟨u2,v2,a2,b2,s2⟩:=oo (n+5) (i:=2) (p:=[(m1,m3),(m4,m2),(m5,m6),(m7,m8)]) (o:=(([(0,0),(0,0),(0,0),(0,0)]:List I2).set 0 (u0,v0)).set 1 (u1,v1)) (by decide) rfl rfl
  have z2:=pX z1 2 (q:=(u2,v2)) ⟨a2,b2⟩;obtain⟨u3,v3,a3,b3,s3⟩:=oo (n+5) (i:=3) (p:=[(m1,m3),(m4,m2),(m5,m6),(m7,m8)]) (o:=((([(0,0),(0,0),(0,0),(0,0)]:List I2).set 0 (u0,v0)).set 1 (u1,v1)).set 2 (u2,v2)) (by decide) rfl rfl
  have z3:=pX z2 3 (q:=(u3,v3)) ⟨a3,b3⟩;refine⟨(u0,v0),(u1,v1),(u2,v2),(u3,v3),?_,z3⟩;have sE:∀o,xz (n+5) ([(m1,m3),(m4,m2),(m5,m6),(m7,m8)],o,((3+1:Nat):Int))=some (.inr o):=fun o=>by
   unfold xz
   dsimp only
   rw[aK (by decide)]
  exact(aV s0).trans ((aV s1).trans ((aV s2).trans ((aV s3).trans (bG (sE _)))))
 obtain⟨a,b,c,dd,hP,hPt⟩:=P;rw[hP,an]
 show(ob (some (a,b,c,dd)) _)=_
 rw[an]
 dsimp only
 have O:∃a' b' c' d':I2,(br (decide (0<((l1.take 20).length:Int))) (
   gd (bJ 0 ((l1.take 20).length)) (
   ob ((l1.take 20)[(0:Int).toNat]?) fun(x3,x4) =>
   gd (bJ ((x26%4:Nat):Int) 4) (
   ob (([(a.1,a.2),(b.1,b.2),(c.1,c.2),(dd.1,dd.2)]:List (Int × Int))[((x26%4:Nat):Int).toNat]?) fun(x10,x11) =>
   some (([(a.1,a.2),(b.1,b.2),(c.1,c.2),(dd.1,dd.2)]:List (Int × Int)).set (((x26%4:Nat):Int).toNat) (x3,x4))))) (
   some ([(a.1,a.2),(b.1,b.2),(c.1,c.2),(dd.1,dd.2)]:List (Int × Int))))=some [a',b',c',d']∧hU [a',b',c',d']:=by
  by_cases h1:0<((l1.take 20).length:Int)
  ·have hm:x26%4<4:=Nat.mod_lt _ (by decide)
   obtain⟨q,gq,bq⟩:=Gy hr (i:=0) (by omega)
   obtain⟨q0,g3⟩:∃q0,([(a.1,a.2),(b.1,b.2),(c.1,c.2),(dd.1,dd.2)]:List (Int × Int))[x26%4]? = some q0:=⟨_,List.getElem?_eq_getElem (by simpa using hm)⟩
   obtain⟨a',b',c',d',e'⟩:=I9 (l:=([a,b,c,dd]:List I2).set (x26%4) (q.1,q.2)) (by simp)
   refine⟨a',b',c',d',?_,?_⟩
   ·rw[aO h1,C3 (by omega),bl,show(l1.take 20)[(0:Int).toNat]? = some (q.1,q.2) from gq,an]
    dsimp only
    rw[aJ hm,bl,Int.toNat_natCast,g3,an,←e']
   ·rw[←e']; exact pX hPt _ bq
  ·exact⟨a,b,c,dd,by rw[aK h1],hPt⟩
 obtain⟨a',b',c',d',hO,hOt⟩:=O;refine Eq.trans (congrArg (fun z=>ob z _) hO) ?_;rw[an]
 show(ob (some (a',b',c',d')) _)=_
 rw[an]
 dsimp only
 have m2:∀{x y z w:I2},hU [x,y,z,w]→(fh x.1∧fh x.2)∧(fh y.1∧fh y.2)∧(fh z.1∧fh z.2)∧(fh w.1∧fh w.2):=fun h=>⟨h _ (by simp),h _ (by simp),h _ (by simp),h _ (by simp)⟩
 have e3:∀{x y z w:I2},hU [x,y,z,w]→GZ n x.1 x.2 y.1 y.2 z.1 z.2 w.1 w.2=Gm n x.1 x.2 y.1 y.2 z.1 z.2 w.1 w.2∧∃A,Gm n x.1 x.2 y.1 y.2 z.1 z.2 w.1 w.2=some A:=fun {x y z w} h=>by
  obtain⟨hx,hy,hz,hw⟩:=m2 h;rw[Gn,GC n hx hy hz hw (by omega)]
  exact⟨rfl,_,rfl⟩
 have L6:bT (B1 n a.1 a.2 b.1 b.2 c.1 c.2 dd.1 dd.2 a'.1 a'.2 b'.1 b'.2 c'.1 c'.2 d'.1 d'.2) n 0=some (.inr ()):=by
  refine JR (fun i hi=>?_) ?_ (by omega)
  rotate_left
  ·unfold B1
   try dsimp only
   rw[aK (by decide)]
  have hq:∃x y z w:I2,[(a.1,a.2,b.1,b.2,c.1,c.2,dd.1,dd.2),(a'.1,a'.2,b'.1,b'.2,c'.1,c'.2,d'.1,d'.2)][i]? = some (x.1,x.2,y.1,y.2,z.1,z.2,w.1,w.2)∧hU [x,y,z,w]:=by
   match i,hi with
   | 0,_=>exact⟨a,b,c,dd,rfl,hPt⟩
   | 1,_=>exact⟨a',b',c',d',rfl,hOt⟩
  obtain⟨x,y,z,w,e,hx⟩:=hq;obtain⟨e4,⟨A1,A2⟩,e5⟩:=e3 hx;unfold B1
  try dsimp only
  rw[aO (by omega),aJ hi,bl,Int.toNat_natCast,e,an]
  dsimp only
  rw[e4,e5,an]
  dsimp only
  rw[an]
  dsimp only
  rw[decide_eq_true rfl,decide_eq_true rfl,Bool.not_true,gB,an,gB,aR (by omega)]
 rw[L6,an]
 rfl
end Go.Proofs.YthmekkhpddehjaaGreat
end
