/- A part of the proof. -/
import Derived.Test.YthmekkhpddehjaaGreatRm7
import Derived.Lib.Mul64
section
namespace Go.Proofs.YthmekkhpddehjaaGreat.Ln
section
open Go Go.Ab Go.Ab.W
section
variable {α β σ ρ : Type}
theorem gS (a b:Option β):br true a b=a:=rfl
theorem cr (a b:Option β):br false a b=b:=rfl
theorem aW (a:Option β):gd true a=a:=rfl
theorem al (x:α) (f:α→Option β):ob (some x) f=f x:=rfl
theorem aO {p:Prop} [Decidable p] (h:p) (a b:Option β):br (decide p) a b=a:=by rw[decide_eq_true h]; rfl
theorem aH {p:Prop} [Decidable p] (h:¬p) (a b:Option β):br (decide p) a b=b:=by rw[decide_eq_false h]; rfl
theorem mc {p:Prop} [Decidable p] (h:p) (a:Option β):gd (decide p) a=a:=by rw[decide_eq_true h]; rfl
theorem aI {i n:Nat} (h:i<n):bV (i:Int) n=true:=decide_eq_true ⟨Int.natCast_nonneg i,by simpa using h⟩
theorem aq {x:Int} (h1 : -9223372036854775808≤x) (h2:x<9223372036854775808):IntKind.wrap .i64 x=x:=wrap_i64 x h1 (by omega)
theorem aS {i:Nat} (h:i<4611686018427387904):IntKind.wrap .i64 ((i:Int)+1)=((i+1:Nat):Int):=by rw[aq (by omega) (by omega)]; rfl
theorem bp {body:σ→Option (σ ⊕ ρ)} {n:Nat} {s s':σ} (h:body s=some (.inl s')):cq body (n+1) s=cq body n s':=by simp only[cq,h]
theorem bN {body:σ→Option (σ ⊕ ρ)} {n:Nat} {s:σ} {r:ρ} (h:body s=some (.inr r)):cq body (n+1) s=some r:=by simp only[cq,h]
end
theorem yS {n:Nat} (h:n≤1073741824):lim n=true:=Nat.ble_eq_true_of_le h
def MN (es:List (Int × Int)) (i j:Nat):Prop:=((i:Int),(j:Int)) ∈ es∨((j:Int),(i:Int)) ∈ es
structure Okay (N:Nat) (es:List (Int × Int)):Prop where
 pos:1≤N
 le:N≤64
 len:es.length≤200
 mem:∀e ∈ es,∃a b:Nat,e=((a:Int),(b:Int))∧a<b∧b<N
inductive Rch (es:List (Int × Int)) (S:Nat) (i:Nat):Nat→Prop
 | refl:Rch es S i i
 | step {j k:Nat} (h:Rch es S i j) (ha:MN es j k) (hk:S.testBit k=true):Rch es S i k
def L4 (es:List (Int × Int)) (S i w:Nat):Prop:=w<2 ^ 64∧∀j,w.testBit j=true↔Rch es S i j
inductive Cs (es:List (Int × Int)) (S:Nat):Nat→List Nat→Prop
 | nil:Cs es S 0 []
 | cons {r w:Nat} {L:List Nat} (h0:0<r) (hr:r<2 ^ 64) (hw:L4 es S (tz r) w) (t:Cs es S (La .u64 r w) L):Cs es S r (w::L)
section
variable {n0 M : Nat} {l6 : List Int} {es : List (Int × Int)}
end
def val (w:Nat):List Nat→Nat
 | []=>0
 | d::ds=>d+2 ^ w*val w ds
end
section
open Go Go.Ab Go.Ab.W
def vl:List Nat→Nat
 | []=>0
 | d::l=>d+18446744073709551616*vl l
def Wd (l:List Nat):Prop:=∀d ∈ l,d<18446744073709551616
def wp (k:Nat):Nat:=18446744073709551616 ^ k
theorem G7:wp 0=1:=rfl
theorem jW (k:Nat):wp (k+1)=18446744073709551616*wp k:=by unfold wp; rw[Nat.pow_succ,Nat.mul_comm]
theorem It (k:Nat):0<wp k:=Nat.pow_pos (by decide)
theorem mS:vl []=0:=rfl
theorem gm (d:Nat) (l:List Nat):vl (d::l)=d+18446744073709551616*vl l:=rfl
theorem zm (a b:List Nat):vl (a++b)=vl a+wp a.length*vl b:=by
 induction a with
 | nil=>simp[vl,wp]
 | cons d a ih=>rw[List.cons_append,gm,gm,ih,List.length_cons,jW,Nat.mul_add,Nat.mul_assoc,Nat.add_assoc]
theorem vS {l:List Nat} (h:Wd l):vl l<wp l.length:=by
 induction l with
 | nil=>exact Nat.one_pos
 | cons d l ih =>
  have h1:=h d List.mem_cons_self;have h2:=ih fun e he=>h e (List.mem_cons_of_mem _ he);rw[gm,List.length_cons,jW];omega
theorem Cd (k:Nat):vl (List.replicate k 0)=0:=by
 induction k with
 | zero=>rfl
 | succ k ih=>rw[List.replicate_succ,gm,ih]
theorem Wd.nil:Wd []:=fun _ h=>nomatch h
theorem Wd.zeros (k:Nat):Wd (List.replicate k 0):=fun d hd=>by rw[List.eq_of_mem_replicate hd]; decide
theorem Wd.app {a b:List Nat} (ha:Wd a) (hb:Wd b):Wd (a++b):=fun d hd=>(List.mem_append.1 hd).elim (ha d) (hb d)
theorem Wd.one {d:Nat} (h:d<18446744073709551616):Wd [d]:=fun e he=>by rw[List.mem_singleton.1 he]; exact h
theorem Wd.at {l:List Nat} (h:Wd l) {i d:Nat} (hi:l[i]? = some d):d<18446744073709551616:=h d (List.mem_of_getElem? hi)
theorem Wd.set {l:List Nat} (h:Wd l) {i d:Nat} (hd:d<18446744073709551616):Wd (l.set i d):=fun e he=>by
 rcases List.mem_or_eq_of_mem_set he with h1|rfl
 ·exact h e h1
 ·exact hd
theorem Wd.take {l:List Nat} (h:Wd l) (k:Nat):Wd (l.take k):=fun d hd=>h d (List.mem_of_mem_take hd)
theorem eU (l:List Nat) (i:Nat) (hi:i≤l.length):vl l=vl (l.take i)+wp i*vl (l.drop i):=by
 have:=zm (l.take i) (l.drop i);rwa[List.take_append_drop,List.length_take,Nat.min_eq_left hi] at this
theorem kF {l:List Nat} {i d:Nat} (hi:l[i]? = some d):vl (l.drop i)=d+18446744073709551616*vl (l.drop (i+1)):=by
 obtain⟨h1,h2⟩:=List.getElem?_eq_some_iff.1 hi;rw[List.drop_eq_getElem_cons h1,gm,h2]
theorem Cn {l:List Nat} {i d:Nat} (e:Nat) (hi:l[i]? = some d):vl (l.set i e)+wp i*d=vl l+wp i*e:=by
 obtain⟨h1,h2⟩:=List.getElem?_eq_some_iff.1 hi;have a:=eU l i (Nat.le_of_lt h1);have b:=eU (l.set i e) i (by rw[List.length_set]; exact Nat.le_of_lt h1)
 have c:(l.set i e)[i]? = some e:=by rw[List.getElem?_set_self h1]
 rw[kF hi] at a;rw[kF c,List.take_set_of_le (Nat.le_refl i),List.drop_set_of_lt (show i<i+1 from Nat.lt_succ_self i)] at b
 rw[a,b,Nat.mul_add,Nat.mul_add];omega
structure Lg (z:Int) (s:Bool) (l:List Nat):Prop where
 wd:Wd l
 last:∀d,l.getLast? = some d→d≠0
 val:z=if s then -(vl l:Int) else(vl l:Int)
 sign:s=true→l≠[]
theorem xT {l:List Nat} (h:∀d,l.getLast? = some d→d≠0) (hl:l≠[]):wp (l.length-1)≤vl l:=by
 obtain⟨a,d,rfl⟩:∃a d,l=a++[d]:=⟨l.dropLast,l.getLast hl,(List.dropLast_concat_getLast hl).symm⟩;have h1:=h d (by simp)
 rw[zm,List.length_append,List.length_singleton,Nat.add_sub_cancel,gm,mS];have:wp a.length*1≤wp a.length*(d+18446744073709551616*0):=Nat.mul_le_mul_left _ (by omega)
 omega
theorem lO {l:List Nat} (h:∀d,l.getLast? = some d→d≠0):vl l=0↔l = []:=by
 refine⟨fun h1=>?_,fun h1=>by rw[h1]; rfl⟩
 by_cases hl:l = []
 ·exact hl
 ·have:=xT h hl;have:=It (l.length-1);omega
theorem rM {d:Nat} {l:List Nat} (h:∀e,(d::l).getLast? = some e→e≠0):∀e,l.getLast? = some e→e≠0:=by
 intro e he;cases l with
 | nil=>cases he
 | cons a l=>exact h e (by rw[List.getLast?_cons_cons]; exact he)
theorem IK:∀{l k:List Nat},Wd l→Wd k→(∀d,l.getLast? = some d→d≠0)→(∀d,k.getLast? = some d→d≠0)→vl l=vl k→l=k:=by
 intro l
 induction l with
 | nil=>intro k _ _ _ hk h; exact((lO hk).1 h.symm).symm
 | cons d l ih =>
  intro k wl wk hl hk h;cases k with
  | nil=>exact absurd ((lO hl).1 h) (by simp)
  | cons e k =>
   have h1:=wl d List.mem_cons_self;have h2:=wk e List.mem_cons_self;rw[gm,gm] at h;have h3:d=e:=by omega
   have h4:vl l=vl k:=by omega
   rw[h3,ih (fun x hx=>wl x (List.mem_cons_of_mem _ hx)) (fun x hx=>wk x (List.mem_cons_of_mem _ hx)) (rM hl) (rM hk) h4]
def AN (s:Bool) (x:Nat):Int:=if s then -(x:Int) else(x:Int)
theorem Lg.zero:Lg 0 false []:={ wd:=Wd.nil,last:=fun _ h=>(nomatch h),val:=rfl,sign:=fun h=>(nomatch h)}
theorem Lg.small {x:Nat} (h0:x≠0) (h:x<18446744073709551616) (s:Bool):Lg (AN s x) s [x]:=⟨Wd.one h,fun d hd=>by simp at hd; omega,by simp[AN,vl],fun _=>by simp⟩
theorem Lg.LV {z:Int} {s:Bool} {l:List Nat} (h:Lg z s l):s=decide (z<0):=by
 have a:=h.val;have hz:=lO h.last;cases s with
 | false=>simp only[Bool.false_eq_true,if_false] at a; rw[decide_eq_false (by omega)]
 | true =>
  simp only[if_true] at a;have:vl l≠0:=fun e=>h.sign rfl (hz.1 e);rw[decide_eq_true (by omega)]
theorem Lg.abs {z:Int} {s:Bool} {l:List Nat} (h:Lg z s l):vl l=z.natAbs:=by
 have a:=h.val;cases s<;>simp only[Bool.false_eq_true,if_false,if_true] at a<;>omega
theorem Lg.MQ {z:Int} {s:Bool} {l:List Nat} (h:Lg z s l):l = []↔z=0:=by
 rw[←lO h.last,h.abs]; omega
theorem Lg.LS {z:Int} {s:Bool} {l:List Nat} (h:Lg z s l) (hz:z≠0) (hb:z.natAbs<18446744073709551616):l = [z.natAbs]:=by
 have hl:l≠[]:=fun e=>hz (h.MQ.1 e);exact IK h.wd (Wd.one hb) h.last (fun d hd=>by simp at hd; omega) (by rw[h.abs]; simp[vl])
end
section
open Go Go.Ab Go.Ab.W
theorem ly {n:Nat} (s:Bool) {l:List Nat} (hl:Wd l) (hb:l.length<4611686018427387904) (hn:l.length<n) :
  ∃t k,wI n s l=some (t,k)∧Lg (AN s (vl l)) t k:=by
 have hL:∀i m,i≤l.length→i<m→vl (l.drop i)=0→∃j,cq (lg n l) m ((i:Nat):Int)=some ((j:Nat):Int)∧j≤l.length∧vl (l.drop j)=0∧∀d,(l.take j).getLast? = some d→d≠0:=by
  intro i
  induction i with
  | zero =>
   intro m _ hm h0;obtain⟨m,rfl⟩:∃m',m=m'+1:=⟨m-1,by omega⟩
   refine⟨0,bN ?_,Nat.zero_le _,h0,fun d hd=>by simp at hd⟩
   unfold lg;rw[aH (by decide)]; rfl
  | succ i ih =>
   intro m hi hm h0;obtain⟨m,rfl⟩:∃m',m=m'+1:=⟨m-1,by omega⟩
   have hi':i<l.length:=hi;have e0:IntKind.wrap .i64 (((i+1:Nat):Int)-1)=((i:Nat):Int):=by rw[aq (by omega) (by omega)]; omega
   have e1:l[((i:Nat):Int).toNat]? = some l[i]:=by simp[hi']
   have e2:l[i]? = some l[i]:=by simp[hi']
   by_cases hz:l[i]=0
   ·have:lg n l ((i+1:Nat):Int)=some (.inl ((i:Nat):Int)):=by
     unfold lg;rw[aO (by omega),e0,aI hi',aW,e1,al,al,aO hz]
    rw[bp this];exact ih m (Nat.le_of_lt hi') (by omega) (by rw[kF e2,hz,h0])
   ·refine⟨i+1,bN ?_,hi,h0,fun d hd=>?_⟩
    ·unfold lg;rw[aO (by omega),e0,aI hi',aW,e1,al,al,aH hz]
    ·rw[List.getLast?_eq_getElem?,List.length_take,Nat.min_eq_left hi,Nat.add_sub_cancel,List.getElem?_take_of_lt (Nat.lt_succ_self i),e2] at hd;cases hd;exact hz
 obtain⟨j,h1,h2,h3,h4⟩:=hL l.length n (Nat.le_refl _) hn (by rw[List.drop_length]; rfl)
 have hv:vl l=vl (l.take j):=by rw[eU l j h2,h3]; omega
 have hk:okB 0 ((j:Nat):Int) l.length=true:=decide_eq_true ⟨by omega,by omega,by omega⟩
 have ht:(l.drop (0:Int).toNat).take (((j:Nat):Int).toNat-(0:Int).toNat)=l.take j:=by simp
 have hz:=lO h4;unfold wI;rw[h1,al];cases s with
 | false =>
  refine⟨false,l.take j,?_,hl.take j,h4,?_,fun h=>nomatch h⟩
  ·rw[cr,hk,aW,ht]
  ·rw[hv]; rfl
 | true =>
  refine⟨decide (0<((j:Nat):Int)),l.take j,?_,hl.take j,h4,?_,fun h e=>?_⟩
  ·rw[gS,hk,aW,ht]
  ·rw[hv]
   by_cases hj:0<((j:Nat):Int)
   ·rw[decide_eq_true hj]; rfl
   ·have:j=0:=by omega
    subst this
    rfl
  ·have h5:=of_decide_eq_true h;have:=congrArg List.length e;rw[List.length_take,Nat.min_eq_left h2] at this;simp at this;omega
theorem ru (l:List Nat) (i:Nat):∃y,vl (l.drop i)=y+18446744073709551616*vl (l.drop (i+1))∧(Wd l→y<18446744073709551616) ∧
  (br (decide (((i:Nat):Int)<(l.length:Int))) (gd (bV ((i:Nat):Int) l.length) (ob (l[((i:Nat):Int).toNat]?) fun x=>some x)) (some 0))=some y:=by
 by_cases h:i<l.length
 ·have e2:l[i]? = some l[i]:=by simp[h]
  exact⟨l[i],kF e2,fun w=>w.at e2,by rw[aO (by omega),aI h,aW,Int.toNat_natCast,e2]; rfl⟩
 ·refine⟨0,?_,fun _=>by decide,by rw[aH (by omega)]⟩
  rw[List.drop_eq_nil_of_le (by omega),List.drop_eq_nil_of_le (by omega)]; rfl
theorem xl {a:List Nat} {k e d:Nat}:(a++e::List.replicate k 0).set a.length d=(a++[d])++List.replicate k 0:=by
 rw[List.set_append_right _ _ (Nat.le_refl _),Nat.sub_self,List.set_cons_zero,List.append_assoc]; rfl
theorem uq (a:List Nat) (d:Nat):vl (a++[d])=vl a+wp a.length*d:=by rw[zm,gm,mS]; rfl
theorem E1 {n:Nat} {l k:List Nat} (hl:Wd l) (hk:Wd k) (hb:l.length<1073741824) (hb':k.length<1073741824) (hn:l.length<n) (hn':k.length<n) :
  ∃r,B6 n l k=some r∧Wd r∧vl r=vl l+vl k∧r.length≤l.length+k.length+1:=by
 have key:∀a b:List Nat,Wd a→Wd b→a.length<1073741824→b.length≤a.length→a.length<n→∃r,(gd (decide (0≤IntKind.wrap .i64 ((a.length:Int)+1))) (gd (lim ((IntKind.wrap .i64 ((a.length:Int)+1)).toNat)) (
   ob (cq (kK n a b) n ((List.replicate (IntKind.wrap .i64 ((a.length:Int)+1)).toNat (0:Nat)),(IntKind.wrap .i64 ((a.length:Int)+1)).toNat,0,0)) fun(l1,n1,v1) =>
   gd (bV (a.length:Int) n1) (ob (l1[(a.length:Int).toNat]?) fun x3=>some (l1.set ((a.length:Int).toNat) v1)))))=some r∧Wd r∧vl r=vl a+vl b∧r.length=a.length+1:=by
  intro a b ha h4 hba hab hna;have w1:IntKind.wrap .i64 ((a.length:Int)+1)=((a.length+1:Nat):Int):=by rw[aq (by omega) (by omega)]; rfl
  have hL:∀j i m p c,i+j=a.length→j<m→p.length=i→Wd p→c≤1→vl p+wp i*(c+vl (a.drop i)+vl (b.drop i))=vl a+vl b →
    ∃q c',cq (kK n a b) m (p++List.replicate (j+1) 0,a.length+1,c,((i:Nat):Int))=some (q++[0],a.length+1,c')∧q.length=a.length∧Wd q∧c'≤1∧vl q+wp a.length*c'=vl a+vl b:=by
   intro j
   induction j with
   | zero =>
    intro i m p c hij hm hp wp' hc hv;obtain⟨m,rfl⟩:∃m',m=m'+1:=⟨m-1,by omega⟩
    have hi:i=a.length:=by omega
    refine⟨p,c,bN ?_,by omega,wp',hc,?_⟩
    ·unfold kK
     dsimp only
     rw[aH (by omega)]; rfl
    ·subst hi;rw[List.drop_length,List.drop_eq_nil_of_le (by omega),mS] at hv
     simpa using hv
   | succ j ih =>
    intro i m p c hij hm hp wp' hc hv;obtain⟨m,rfl⟩:∃m',m=m'+1:=⟨m-1,by omega⟩
    have hi:i<a.length:=by omega
    obtain⟨x,e0⟩:∃x,a[i]? = some x:=⟨a[i],by simp[hi]⟩
    have hx:=ha.at e0;obtain⟨y,y2,y0,y1⟩:=ru b i;have y0:=y0 h4;have e1:(p++List.replicate (j+1+1) 0)[((i:Nat):Int).toNat]? = some 0:=by
     rw[Int.toNat_natCast,List.getElem?_append_right (by omega),List.getElem?_replicate]; simp; omega
    have st:kK n a b (p++List.replicate (j+1+1) 0,a.length+1,c,((i:Nat):Int))=some (.inl ((p++[(x+y+c)%18446744073709551616])++List.replicate (j+1) 0,a.length+1,(x+y+c)/18446744073709551616,((i+1:Nat):Int))):=by
     unfold kK
     dsimp only
     rw[aO (by omega),aI hi,aW,Int.toNat_natCast,e0,al]
     rw[Int.toNat_natCast] at y1 e1;rw[y1,al];unfold A6;rw[mc hc,al]
     dsimp only
     rw[aI (show i<a.length+1 by omega),aW,e1,al,aS (by omega),←hp,List.replicate_succ,xl]
    rw[bp st];refine ih (i+1) m _ _ (by omega) (by omega) (by rw[List.length_append,hp]; rfl) (wp'.app (Wd.one (Nat.mod_lt _ (by decide)))) (by omega) ?_
    rw[←hv,uq,hp,jW,kF e0,y2];have h1:∀s:Nat,s=s%18446744073709551616+18446744073709551616*(s/18446744073709551616):=fun s=>(Nat.mod_add_div s _).symm;have h0:=h1 (x+y+c);generalize (x+y+c)%18446744073709551616=lo at h0 ⊢;generalize (x+y+c)/18446744073709551616=hi' at h0 ⊢;have h2:c+(x+18446744073709551616*vl (a.drop (i+1)))+(y+18446744073709551616*vl (b.drop (i+1)))=lo+18446744073709551616*(hi'+vl (a.drop (i+1))+vl (b.drop (i+1))):=by omega
    rw[h2,Nat.mul_add (wp i),Nat.mul_left_comm (wp i),←Nat.mul_assoc,Nat.add_assoc,Nat.add_assoc]
  obtain⟨q,c',h1,h0,h2,h3,h5⟩:=hL a.length 0 n [] 0 (by omega) hna rfl Wd.nil (by omega) (by simp[vl,wp])
  refine⟨q++[c'],?_,h2.app (Wd.one (by omega)),by rw[uq,h0,h5],by rw[List.length_append,h0]; rfl⟩
  rw[w1,mc (by omega)]
  have hlim:lim ((a.length+1:Nat):Int).toNat=true:=yS (by omega)
  rw[hlim,aW,Int.toNat_natCast];rw[show(List.replicate (a.length+1) (0:Nat),a.length+1,(0:Nat),(0:Int))=(([]:List Nat)++List.replicate (a.length+1) 0,a.length+1,0,((0:Nat):Int)) from rfl,h1,al]
  dsimp only
  rw[aI (Nat.lt_succ_self _),aW,Int.toNat_natCast,←h0,List.getElem?_append_right (Nat.le_refl _),Nat.sub_self];rw[show([0]:List Nat)[0]? = some 0 from rfl,al,List.set_append_right _ _ (Nat.le_refl _),Nat.sub_self]
  rfl
 unfold B6
 by_cases h:l.length<k.length
 ·rw[aO (by omega),al]
  obtain⟨r,h1,h0,h2,h3⟩:=key k l hk hl hb' (Nat.le_of_lt h) hn';exact⟨r,h1,h0,by omega,by omega⟩
 ·rw[aH (by omega),al]
  obtain⟨r,h1,h0,h2,h3⟩:=key l k hl hk hb (by omega) hn
  exact⟨r,h1,h0,h2,by omega⟩
end
section
open Go Go.Ab Go.Ab.W
theorem GO {n:Nat} {l k:List Nat} (hl:Wd l) (hk:Wd k) (ll:∀d,l.getLast? = some d→d≠0) (lk:∀d,k.getLast? = some d→d≠0) (hb:l.length<1073741824) (hb':k.length<1073741824) (hn:l.length<n) :
  ∃r:Int,Et n l k=some r∧(r<0↔vl l<vl k)∧(0<r↔vl k<vl l):=by
 have big:∀a b:List Nat,Wd a→(∀d,b.getLast? = some d→d≠0)→a.length<b.length→vl a<vl b:=by
  intro a b ha hb h;have h1:=vS ha;have h2:=xT hb (by intro e; rw[e] at h; exact Nat.not_lt_zero _ h)
  have h3:wp a.length≤wp (b.length-1):=Nat.pow_le_pow_right (by decide) (by omega)
  omega
 unfold Et
 by_cases h:l.length=k.length
 ·rw[decide_eq_true (show(l.length:Int)=(k.length:Int) by omega),Bool.not_true,cr]
  have hL:∀i m,i≤l.length→i<m→vl (l.drop i)=vl (k.drop i)→∃r,cq (jy n l k) m ((i:Int)-1)=some r ∧
    ((r = .inl (-1)∧vl l<vl k)∨(r = .inl 1∧vl k<vl l)∨(r = .inr ()∧vl l=vl k)):=by
   intro i
   induction i with
   | zero =>
    intro m _ hm h0;obtain⟨m,rfl⟩:∃m',m=m'+1:=⟨m-1,by omega⟩
    refine⟨.inr (),bN ?_,.inr (.inr ⟨rfl,by simpa using h0⟩)⟩
    unfold jy;rw[aH (by decide)]
   | succ i ih =>
    intro m hi hm h0;obtain⟨m,rfl⟩:∃m',m=m'+1:=⟨m-1,by omega⟩
    obtain⟨x,e2⟩:∃x,l[i]? = some x:=⟨l[i],by simp⟩
    obtain⟨y,e3⟩:∃y,k[i]? = some y:=⟨k[i],by simp⟩
    have a1:=kF e2;have a2:=kF e3;have a3:=eU l i (by omega)
    have a4:=eU k i (by omega)
    have t1:=vS (hl.take i);have t2:=vS (hk.take i);rw[List.length_take,Nat.min_eq_left (by omega)] at t1 t2
    have e0:((i+1:Nat):Int)-1=((i:Nat):Int):=by omega
    rw[e0];rcases Nat.lt_trichotomy x y with hxy|hxy|hxy
    ·refine⟨.inl (-1),bN ?_,.inl ⟨rfl,?_⟩⟩
     ·unfold jy;rw[aO (by omega),aI (by omega),aW,Int.toNat_natCast,e2,al,aI (by omega),aW,e3,al,aO hxy]
     ·have:wp i*(vl (l.drop i)+1)≤wp i*vl (k.drop i):=Nat.mul_le_mul_left _ (by omega)
      rw[Nat.mul_add] at this;omega
    ·have st:jy n l k ((i:Nat):Int)=some (.inl (((i:Nat):Int)-1)):=by
      unfold jy;rw[aO (by omega),aI (by omega),aW,Int.toNat_natCast,e2,al,aI (by omega),aW,e3,al,aH (by omega),aW,aW,aH (by omega),aq (by omega) (by omega)]
     rw[bp st];exact ih m (by omega) (by omega) (by omega)
    ·refine⟨.inl 1,bN ?_,.inr (.inl ⟨rfl,?_⟩)⟩
     ·unfold jy;rw[aO (by omega),aI (by omega),aW,Int.toNat_natCast,e2,al,aI (by omega),aW,e3,al,aH (by omega),aW,aW,aO hxy]
     ·have:wp i*(vl (k.drop i)+1)≤wp i*vl (l.drop i):=Nat.mul_le_mul_left _ (by omega)
      rw[Nat.mul_add] at this;omega
  obtain⟨r,h1,h2⟩:=hL l.length n (Nat.le_refl _) hn (by rw[List.drop_length,h,List.drop_length])
  rw[aq (by omega) (by omega),h1,al]
  rcases h2 with⟨rfl,h2⟩|⟨rfl,h2⟩|⟨rfl,h2⟩
  ·exact⟨-1,rfl,by omega,by omega⟩
  ·exact⟨1,rfl,by omega,by omega⟩
  ·exact⟨0,rfl,by omega,by omega⟩
 ·rw[decide_eq_false (show ¬(l.length:Int)=(k.length:Int) by omega),Bool.not_false,gS]
  refine⟨_,rfl,?_,?_⟩<;>rw[aq (by omega) (by omega)]
  ·refine⟨fun h1=>big l k hl lk (by omega),fun h1=>?_⟩
   by_cases h2:l.length<k.length
   ·omega
   ·have:=big k l hk ll (by omega); omega
  ·refine⟨fun h1=>big k l hk ll (by omega),fun h1=>?_⟩
   by_cases h2:k.length<l.length
   ·omega
   ·have:=big l k hl lk (by omega); omega
theorem zP {n:Nat} {l k:List Nat} (hl:Wd l) (hk:Wd k) (hle:vl k≤vl l) (hlk:k.length≤l.length) (hb:l.length<1073741824) (hn:l.length<n) :
  ∃r,CR n l k=some r∧Wd r∧vl r=vl l-vl k∧r.length=l.length:=by
 have hL:∀j i m p c,i+j=l.length→j<m→p.length=i→Wd p→c≤1→vl p+wp i*vl (l.drop i)+vl k=vl l+wp i*(c+vl (k.drop i)) →
   ∃q c',cq (mM n l k) m (p++List.replicate j 0,c,((i:Nat):Int))=some q∧q.length=l.length∧Wd q∧c'≤1∧vl q+vl k=vl l+wp l.length*c':=by
  intro j
  induction j with
  | zero =>
   intro i m p c hij hm hp wp' hc hv;obtain⟨m,rfl⟩:∃m',m=m'+1:=⟨m-1,by omega⟩
   have hi:i=l.length:=by omega
   refine⟨p,c,bN ?_,by omega,wp',hc,?_⟩
   ·unfold mM
    dsimp only
    rw[aH (by omega),List.replicate_zero,List.append_nil]
   ·subst hi;rw[List.drop_length,List.drop_eq_nil_of_le (by omega),mS] at hv
    simpa using hv
  | succ j ih =>
   intro i m p c hij hm hp wp' hc hv;obtain⟨m,rfl⟩:∃m',m=m'+1:=⟨m-1,by omega⟩
   have hi:i<l.length:=by omega
   obtain⟨x,e2⟩:∃x,l[i]? = some x:=⟨l[i],by simp[hi]⟩
   have hx:=hl.at e2;obtain⟨y,y1,y2,y3⟩:=ru k i;have y2:=y2 hk;have e3:(p++List.replicate (j+1) 0)[((i:Nat):Int).toNat]? = some 0:=by
    rw[Int.toNat_natCast,List.getElem?_append_right (by omega),List.getElem?_replicate]; simp; omega
   have st:mM n l k (p++List.replicate (j+1) 0,c,((i:Nat):Int))=some (.inl ((p++[(x+18446744073709551616-y-c)%18446744073709551616])++List.replicate j 0,if x<y+c then 1 else 0,((i+1:Nat):Int))):=by
    unfold mM
    dsimp only
    rw[aO (by omega),aI hi,aW,Int.toNat_natCast,e2,al]
    rw[Int.toNat_natCast] at y3 e3;rw[y3,al];unfold E4;rw[mc hc,al]
    dsimp only
    rw[Int.toNat_natCast,aI hi,aW,e3,al,aS (by omega),←hp,List.replicate_succ,xl]
   rw[bp st];refine ih (i+1) m _ _ (by omega) (by omega) (by rw[List.length_append,hp]; rfl) (wp'.app (Wd.one (Nat.mod_lt _ (by decide)))) (by split<;>omega) ?_
   rw[kF e2,y1] at hv;rw[uq,hp,jW];have h2:(x+18446744073709551616-y-c)%18446744073709551616+y+c=x+18446744073709551616*(if x<y+c then 1 else 0):=by split<;>omega
   generalize (x+18446744073709551616-y-c)%18446744073709551616=lo at h2 ⊢;generalize (if x<y+c then 1 else 0)=hi' at h2 ⊢
   generalize vl (l.drop (i+1))=A at hv ⊢;generalize vl (k.drop (i+1))=D at hv ⊢;have h3:wp i*(lo+y+c)=wp i*(x+18446744073709551616*hi'):=by rw[h2]
   simp only[Nat.mul_add,Nat.mul_left_comm (wp i) 18446744073709551616,Nat.mul_assoc] at hv h3 ⊢;omega
 obtain⟨q,c',h1,h2,h3,h4,h5⟩:=hL l.length 0 n [] 0 (by omega) hn rfl Wd.nil (by omega) (by simp[vl,wp])
 refine⟨q,?_,h3,?_,h2⟩
 ·unfold CR;rw[mc (by omega),Int.toNat_natCast,yS (by omega),aW]
  rw[show(List.replicate l.length (0:Nat),(0:Nat),(0:Int))=(([]:List Nat)++List.replicate l.length 0,0,((0:Nat):Int)) from rfl,h1,al]
 ·have h6:=vS h3;rw[h2] at h6;have:c'=0:=by
   rcases Nat.le_one_iff_eq_zero_or_eq_one.1 h4 with e|e
   ·exact e
   ·rw[e] at h5; omega
  rw[this] at h5;omega
theorem GV {n:Nat} {a b:Int} {s t:Bool} {l k:List Nat} (h:Lg a s l) (h':Lg b t k) (hb:l.length<1000000) (hb':k.length<1000000) (hn:l.length+k.length+1<n) :
  ∃u m,Ba n s l t k=some (u,m)∧Lg (a+b) u m:=by
 have av:=h.val;have bv:=h'.val;unfold Ba
 by_cases e:s=t
 ·subst e;rw[beq_self_eq_true,gS];obtain⟨r,r1,r2,r3,r4⟩:=E1 (n:=n) h.wd h'.wd (by omega) (by omega) (by omega) (by omega)
  obtain⟨u,m,m1,m2⟩:=ly (n:=n) s r2 (by omega) (by omega)
  refine⟨u,m,by rw[r1,al,m1]; rfl,?_⟩
  have:a+b=AN s (vl r):=by rw[av,bv,r3]; unfold AN; cases s<;>simp<;>omega
  rw[this]; exact m2
 ·have:(s == t)=false:=by cases s<;>cases t<;>simp_all
  rw[this,cr];obtain⟨r,r1,r2,r3⟩:=GO (n:=n) h.wd h'.wd h.last h'.last (by omega) (by omega) (by omega)
  have ht:t = !s:=by cases s<;>cases t<;>simp_all
  have longer:∀p q:List Nat,Wd p→Wd q→(∀d,p.getLast? = some d→d≠0)→(∀d,q.getLast? = some d→d≠0)→vl p≤vl q→p.length≤q.length:=by
   intro p q wp1 wq1 lp lq hle;refine Nat.le_of_not_lt fun hlt=>?_;have h1:=vS wq1;have h2:=xT lp (by intro e; rw[e] at hlt; exact Nat.not_lt_zero _ hlt)
   have h3:wp q.length≤wp (p.length-1):=Nat.pow_le_pow_right (by decide) (by omega)
   omega
  rw[r1,al]
  by_cases hr:r<0
  ·have hv:=r2.1 hr;obtain⟨m,m1,m2,m3,m4⟩:=zP (n:=n) h'.wd h.wd (Nat.le_of_lt hv) (longer _ _ h.wd h'.wd h.last h'.last (Nat.le_of_lt hv)) (by omega) (by omega)
   obtain⟨u,m',u1,u2⟩:=ly (n:=n) t m2 (by omega) (by omega)
   refine⟨u,m',by rw[aO hr,al]; dsimp only; rw[m1,al,u1]; rfl,?_⟩
   have:a+b=AN t (vl m):=by rw[av,bv,m3,ht]; unfold AN; cases s<;>simp<;>omega
   rw[this]; exact u2
  ·have hv:vl k≤vl l:=Nat.le_of_not_lt fun h=>hr (r2.2 h);obtain⟨m,m1,m2,m3,m4⟩:=zP (n:=n) h.wd h'.wd hv (longer _ _ h'.wd h.wd h'.last h.last hv) (by omega) (by omega)
   obtain⟨u,m',u1,u2⟩:=ly (n:=n) s m2 (by omega) (by omega)
   refine⟨u,m',by rw[aH hr,al]; dsimp only; rw[m1,al,u1]; rfl,?_⟩
   have:a+b=AN s (vl m):=by rw[av,bv,m3,ht]; unfold AN; cases s<;>simp<;>omega
   rw[this]; exact u2
end
section
open Go Go.Ab Go.Ab.W
theorem Ct {a:Nat} (ha:a<18446744073709551616):uw .u64 (uw .u64 a &&& uw .u64 4294967295)=a%4294967296:=by
 rw[BV ha (by decide)]
 exact Nat.and_two_pow_sub_one_eq_mod a 32
theorem Kd (a:Nat):lF .u64 a 32=a/4294967296:=rfl
theorem EI {a:Nat} (h:a<18446744073709551616):uw .u64 a=a:=Nat.mod_eq_of_lt h
theorem FU (n:Nat) {x y:Nat} (hx:x<18446744073709551616) (hy:y<18446744073709551616):DZ n x y=some (x*y/18446744073709551616,x*y%18446744073709551616):=by
 obtain⟨b1,b2,b3,hhi⟩:=Lib.mul64_hi x y hx hy;have ba:=Lib.half_mul_le (a:=x/4294967296) (b:=y/4294967296) (by omega) (by omega)
 have bb:=Lib.half_mul_le (a:=x/4294967296) (b:=y%4294967296) (by omega) (by omega)
 have bc:=Lib.half_mul_le (a:=x%4294967296) (b:=y/4294967296) (by omega) (by omega)
 unfold DZ;simp only[Ct hx,Ct hy,Kd,al];rw[EI b1,EI (a:=x/4294967296*(y%4294967296)) (by omega)]
 rw[EI b2,Ct b2,EI (a:=x%4294967296*(y/4294967296)) (by omega),EI b3,EI (a:=x/4294967296*(y/4294967296)) (by omega)]
 rw[EI (a:=x/4294967296*(y/4294967296)+_) (by omega),EI (by omega),hhi]
 rfl
theorem GG {n:Nat} {k:List Nat} (hk:Wd k) {x i N:Nat} (hx:x<18446744073709551616) (hN:i+k.length<N) (hNb:N<4611686018427387904) {b:List Nat} (_:Wd b) (hbN:b.length=N) :
  ∀r j m cur c,j+r=k.length→r<m→Wd cur→cur.length=N→c<18446744073709551616→(∀p,i+k.length≤p→cur[p]? = b[p]?) →
   vl cur+wp (i+j)*c+wp (i+j)*(x*vl (k.drop j))=vl b+wp i*(x*vl k) →
   ∃q c',cq (mI n k x (i:Int) N) m (cur,c,((j:Nat):Int))=some (q,c')∧Wd q∧q.length=N∧c'<18446744073709551616∧(∀p,i+k.length≤p→q[p]? = b[p]?)∧vl q+wp (i+k.length)*c'=vl b+wp i*(x*vl k):=by
 intro r
 induction r with
 | zero =>
  intro j m cur c hj hm hw hl hc hp hv;obtain⟨m,rfl⟩:∃m',m=m'+1:=⟨m-1,by omega⟩
  have hj':j=k.length:=by omega
  refine⟨cur,c,bN ?_,hw,hl,hc,hp,?_⟩
  ·unfold mI
   dsimp only
   rw[aH (by omega)]
  ·rw[←hv,hj',List.drop_length,mS]; omega
 | succ r ih =>
  intro j m cur c hj hm hw hl hc hp hv;obtain⟨m,rfl⟩:∃m',m=m'+1:=⟨m-1,by omega⟩
  have hi:j<k.length:=by omega
  obtain⟨y,e2⟩:∃y,k[j]? = some y:=⟨k[j],by simp[hi]⟩
  have hy:=hk.at e2;obtain⟨d,e3⟩:∃d,cur[i+j]? = some d:=⟨cur[i+j]'(by omega),by simp⟩
  have hd:=hw.at e3;have hxy:x*y≤18446744073709551615*18446744073709551615:=Nat.mul_le_mul (by omega) (by omega)
  have w1:IntKind.wrap .i64 ((i:Int)+((j:Nat):Int))=((i+j:Nat):Int):=by rw[aq (by omega) (by omega)]; omega
  have st:mI n k x (i:Int) N (cur,c,((j:Nat):Int))=some (.inl (cur.set (i+j) ((x*y+d+c)%18446744073709551616),(x*y+d+c)/18446744073709551616,((j+1:Nat):Int))):=by
   unfold mI
   dsimp only
   rw[aO (by omega),aI hi,aW,Int.toNat_natCast,e2,al,FU n hx hy,al]
   dsimp only
   rw[w1,aI (by omega),aW,Int.toNat_natCast,e3,al]
   unfold A6;rw[mc (by omega),al]
   dsimp only
   rw[mc (by omega),al]
   dsimp only
   rw[aW,aS (by omega),EI (a:=x*y/18446744073709551616+_) (by omega),EI (by omega)]
   congr 3
   ·congr 1; omega
   ·congr 1; omega
  rw[bp st];refine ih (j+1) m _ _ (by omega) (by omega) (hw.set (Nat.mod_lt _ (by decide))) (by rw[List.length_set]; exact hl) (by omega) (fun p hp'=>by rw[List.getElem?_set_ne (by omega)]; exact hp p hp') ?_
  rw[kF e2] at hv;have hs:=Cn ((x*y+d+c)%18446744073709551616) e3;rw[←hv,←Nat.add_assoc i j 1,jW];have h2:(x*y+d+c)%18446744073709551616+18446744073709551616*((x*y+d+c)/18446744073709551616)=x*y+d+c:=Nat.mod_add_div _ _;generalize (x*y+d+c)%18446744073709551616=lo at h2 hs ⊢;generalize (x*y+d+c)/18446744073709551616=hi' at h2 ⊢;generalize vl (k.drop (j+1))=A at hv ⊢;generalize vl (cur.set (i+j) lo)=Z at hs ⊢;have h3:wp (i+j)*(lo+18446744073709551616*hi')=wp (i+j)*(x*y+d+c):=by rw[h2]
  simp only[Nat.mul_add,Nat.mul_left_comm (wp (i+j)) 18446744073709551616,Nat.mul_left_comm x 18446744073709551616,Nat.mul_assoc] at hs h3 ⊢;omega
theorem FC {n:Nat} {l k:List Nat} (hl:Wd l) (hk:Wd k) (hb:l.length<500000000) (hb':k.length<500000000) (hn:l.length<n) (hn':k.length<n) :
  ∃r,D3 n l k=some r∧Wd r∧vl r=vl l*vl k∧r.length=l.length+k.length:=by
 have hL:∀r i m b,i+r=l.length→r<m→Wd b→b.length=l.length+k.length→(∀p,i+k.length≤p→p<l.length+k.length→b[p]? = some 0) →
   vl b+wp i*(vl (l.drop i)*vl k)=vl l*vl k →
   ∃q,cq (mG n l k) m (b,l.length+k.length,((i:Nat):Int))=some (q,l.length+k.length)∧Wd q∧q.length=l.length+k.length∧vl q=vl l*vl k:=by
  intro r
  induction r with
  | zero =>
   intro i m b hi hm hw hlen _ hv;obtain⟨m,rfl⟩:∃m',m=m'+1:=⟨m-1,by omega⟩
   have hi':i=l.length:=by omega
   refine⟨b,bN ?_,hw,hlen,?_⟩
   ·unfold mG
    dsimp only
    rw[aH (by omega)]
   ·rw[←hv,hi',List.drop_length,mS]; simp
  | succ r ih =>
   intro i m b hi hm hw hlen hz hv;obtain⟨m,rfl⟩:∃m',m=m'+1:=⟨m-1,by omega⟩
   have hi':i<l.length:=by omega
   obtain⟨x,e2⟩:∃x,l[i]? = some x:=⟨l[i],by simp⟩
   have hx:=hl.at e2;obtain⟨q,c,q1,q2,q3,q4,q5,q6⟩:=GG (n:=n) (i:=i) hk hx (N:=l.length+k.length) (by omega) (by omega) hw hlen k.length 0 n b 0 (by omega) hn' hw hlen (by decide) (fun _ _=>rfl) (by simp)
   have e3:q[i+k.length]? = some 0:=by rw[q5 _ (Nat.le_refl _)]; exact hz _ (Nat.le_refl _) (by omega)
   have w1:IntKind.wrap .i64 ((i:Int)+(k.length:Int))=((i+k.length:Nat):Int):=by rw[aq (by omega) (by omega)]; omega
   have st:mG n l k (b,l.length+k.length,((i:Nat):Int))=some (.inl (q.set (i+k.length) c,l.length+k.length,((i+1:Nat):Int))):=by
    unfold mG
    dsimp only
    rw[aO (by omega),aI hi',aW,Int.toNat_natCast,e2,al]
    rw[show((0:Int))=((0:Nat):Int) from rfl,q1,al]
    dsimp only
    rw[w1,aI (by omega),aW,Int.toNat_natCast,e3,al,aS (by omega)]
   rw[bp st];refine ih (i+1) m _ (by omega) (by omega) (q2.set q4) (by rw[List.length_set]; exact q3) (fun p h1 h2=>by rw[List.getElem?_set_ne (by omega),q5 p (by omega)]; exact hz p (by omega) h2) ?_
   have hs:=Cn c e3;rw[kF e2] at hv;rw[←hv,jW];generalize vl (q.set (i+k.length) c)=Z at hs ⊢;generalize vl (l.drop (i+1))=A at hv ⊢;have h4:wp i*((x+18446744073709551616*A)*vl k)=wp i*(x*vl k)+18446744073709551616*wp i*(A*vl k):=by
    simp only[Nat.add_mul,Nat.mul_add,Nat.mul_assoc,Nat.mul_left_comm (wp i) 18446744073709551616]
   rw[h4];omega
 unfold D3;have w1:IntKind.wrap .i64 ((l.length:Int)+(k.length:Int))=((l.length+k.length:Nat):Int):=by rw[aq (by omega) (by omega)]; omega
 obtain⟨q,q1,q2,q3,q4⟩:=hL l.length 0 n (List.replicate (l.length+k.length) 0) (by omega) hn (Wd.zeros _) (by simp) (fun p _ h2=>by rw[List.getElem?_replicate]; simp[h2]) (by rw[Cd,G7]; simp)
 refine⟨q,?_,q2,q4,q3⟩;rw[w1,mc (by omega),Int.toNat_natCast,yS (by omega),aW]
 rw[show((0:Int))=((0:Nat):Int) from rfl,q1]
 rfl
theorem Fc {n:Nat} {a b:Int} {s t:Bool} {l k:List Nat} (h:Lg a s l) (h':Lg b t k) (hb:l.length<1000000) (hb':k.length<1000000) (hn:l.length+k.length<n) :
  ∃u m,AO n s l t k=some (u,m)∧Lg (a*b) u m:=by
 obtain⟨r,r1,r2,r3,r4⟩:=FC (n:=n) h.wd h'.wd (by omega) (by omega) (by omega) (by omega)
 obtain⟨u,m,m1,m2⟩:=ly (n:=n) (!(s == t)) r2 (by omega) (by omega)
 refine⟨u,m,by unfold AO; rw[r1,al,m1]; rfl,?_⟩
 have:a*b=AN (!(s == t)) (vl r):=by
  rw[h.val,h'.val,r3]; unfold AN;cases s<;>cases t<;>simp[Int.neg_mul,Int.mul_neg]
 rw[this]; exact m2
end
section
open Go Go.Ab Go.Ab.W
end
section
open Go Go.Ab Go.Ab.W
end
section
open Go Go.Ab Go.Ab.W
end
end Go.Proofs.YthmekkhpddehjaaGreat.Ln
end

section
namespace Go.Proofs.YthmekkhpddehjaaGreat.Ln
open Go Go.Ab Go.Ab.W
section
variable {n : Nat}
theorem Lg.pos {x:Nat} (h0:x≠0) (h:x<18446744073709551616) {s:Bool} {l:List Nat} (g:Lg (x:Int) s l):s=false∧l = [x]:=by
 have h1:=g.LV;rw[decide_eq_false (by omega)] at h1
 have h2:=g.LS (by omega) (by omega)
 exact⟨h1,by rw[h2]; rfl⟩
theorem Lg.Ac {x:Nat} (h0:x≠0) (h:x<18446744073709551616):Lg (x:Int) false [x]:=Lg.small h0 h false
theorem C3 {x:Nat} (h:x<18446744073709551616):ui .u64 (x:Int)=x:=by
 unfold ui;rw[show uM .u64=18446744073709551616 from rfl]
 omega
theorem pj (hn:20<n) {x:Nat} (h0:x≠0) (h:x<9223372036854775808):Bh n (x:Int)=some (false,[x]):=by
 have hw:Wd [x,0,0,0,0,0,0,0]:=fun d hd=>by
  simp at hd; omega
 obtain⟨t,k,e,g⟩:=ly (n:=n) false hw (by simp) (by simp; omega)
 have hv:AN false (vl [x,0,0,0,0,0,0,0])=(x:Int):=by simp[AN,vl]
 rw[hv] at g;obtain⟨rfl,rfl⟩:=g.pos h0 (by omega)
 have e0:xy n (x:Int)=some (x,0,0,0,0,0,0,0):=by
  unfold xy;rw[aH (by omega),al,C3 (x:=x) (by omega)]; rfl
 unfold Bh;rw[e0,al]
 dsimp only
 have e1:Da n x 0 0 0 0 0 0 0=some (false,x,0,0,0,0,0,0,0):=by
  unfold Da;rw[aH (by decide)]; rfl
 unfold GN;rw[e1,al]
 dsimp only
 rw[List.nil_append,show lim [x,0,0,0,0,0,0,0].length=true from rfl,aW,e,al,al]
theorem vD (hn:20<n) {x y:Nat} (hx:x≠0) (hy:y≠0) (h:x*y<18446744073709551616):AO n false [x] false [y]=some (false,[x*y]):=by
 have h1:x≤x*y:=Nat.le_mul_of_pos_right x (by omega)
 have h2:y≤x*y:=Nat.le_mul_of_pos_left y (by omega)
 obtain⟨u,m,e,g⟩:=Fc (n:=n) (Lg.Ac hx (by omega)) (Lg.Ac hy (by omega)) (by simp) (by simp) (by simp; omega)
 rw[show(x:Int)*(y:Int)=((x*y:Nat):Int) from(Int.natCast_mul x y).symm] at g
 obtain⟨rfl,rfl⟩:=g.pos (by omega) h
 exact e
def lw (x:Nat):List Nat:=if x=0 then[] else[x]
theorem wv (hn:20<n) {x y:Nat} (hy:y≠0) (h:x+y<18446744073709551616):Ba n false (lw x) false [y]=some (false,[x+y]):=by
 have hx:Lg (x:Int) false (lw x):=by
  unfold lw
  by_cases k:x=0
  ·rw[if_pos k,k]; exact Lg.zero
  ·rw[if_neg k]; exact Lg.Ac k (by omega)
 have hl:(lw x).length≤1:=by unfold lw; split<;>simp
 obtain⟨u,m,e,g⟩:=GV (n:=n) hx (Lg.Ac hy (by omega)) (by omega) (by simp) (by simp; omega)
 rw[show(x:Int)+(y:Int)=((x+y:Nat):Int) from(Int.natCast_add x y).symm] at g
 obtain⟨rfl,rfl⟩:=g.pos (by omega) h
 exact e
theorem w5 (hn:20<n) {x:Nat}:CL n false [x]=some (x,0,0,0,0,0,0,0,0):=by
 unfold CL;rw[aH (by simp),show decide (([x]:List Nat).length≤8)=true from rfl,aW]
 show(ob (some (x,0,0,0,0,0,0,0)) _)=_
 rw[al]
 dsimp only
 have e0:CZ n x 0 0 0 0 0 0 0 0 0 0 0 0 0 0 9223372036854775808=some (-1):=by
  unfold CZ;obtain⟨n,rfl⟩:∃m,n=m+1:=⟨n-1,by omega⟩
  rw[bN (r:=.inl (-1))]
  ·rw[al]
  ·rfl
 unfold F6;rw[e0,al,aH (by decide),aH (by decide),al,cr,cr,al,al]
theorem u6 (_:20<n) {x:Nat} (h:x<9223372036854775808):Cc n x 0 0 0 0 0 0 0=some ((x:Int),0):=by
 have e0:xy n (x:Int)=some (x,0,0,0,0,0,0,0):=by
  unfold xy;rw[aH (by omega),al,C3 (x:=x) (by omega)]; rfl
 unfold Cc;rw[aq (by omega) (by omega),e0,al]
 dsimp only
 simp[br]
end
end Go.Proofs.YthmekkhpddehjaaGreat.Ln
end

section
namespace Jd
def FG (p:Nat):Prop:=2≤p∧∀d,d∣p→d=1∨d=p
theorem xY:∀n:Nat,2≤n→∃p,FG p∧p∣n:=by
 intro n
 induction n using Nat.strongRecOn with
 | _ n ih =>
  intro hn
  by_cases h:∀d,d∣n→d=1∨d=n
  ·exact⟨n,⟨hn,h⟩,Nat.dvd_refl n⟩
  ·obtain⟨d,hd⟩:=Classical.not_forall.1 h;have h1:d∣n:=Decidable.byContradiction fun k=>hd fun c=>absurd c k;have h2:d≠1:=fun e=>hd fun _=>.inl e;have h3:d≠n:=fun e=>hd fun _=>.inr e;have h4:d≤n:=Nat.le_of_dvd (by omega) h1
   have h5:d≠0:=fun e=>by subst e; have:=Nat.eq_zero_of_zero_dvd h1; omega
   obtain⟨p,hp,hpd⟩:=ih d (by omega) (by omega)
   exact⟨p,hp,Nat.dvd_trans hpd h1⟩
theorem FG.yP {p n:Nat} (hp:FG p) (h:¬p∣n):Nat.Coprime p n:=by
 rcases hp.2 _ (Nat.gcd_dvd_left p n) with e|e
 ·exact e
 ·exact absurd (e ▸ Nat.gcd_dvd_right p n) h
theorem FG.dvd_mul {p a b:Nat} (hp:FG p) (h:p∣a*b):p∣a∨p∣b:=by
 by_cases ha:p∣a
 ·exact .inl ha
 ·exact .inr ((hp.yP ha).dvd_of_dvd_mul_left h)
def SF (m:Nat):Prop:=0<m∧∀d,d*d∣m→d=1
theorem SF.one:SF 1:=⟨by decide,fun d h=>by
 have:=Nat.dvd_one.1 h;exact Nat.eq_one_of_mul_eq_one_left this⟩
theorem FG.sf {p:Nat} (hp:FG p):SF p:=⟨by have:=hp.1; omega,fun d h=>by
 have h1:d∣p:=Nat.dvd_trans (Nat.dvd_mul_right d d) h;rcases hp.2 d h1 with e|e
 ·exact e
 ·subst e;have:=Nat.le_of_dvd (by have:=hp.1; omega) h
  have h2:=Nat.mul_le_mul_right d hp.1;have:=hp.1;omega⟩
theorem SF.mul {a b:Nat} (ha:SF a) (hb:SF b) (hc:Nat.Coprime a b):SF (a*b):=by
 refine⟨Nat.mul_pos ha.1 hb.1,fun d h=>Decidable.byContradiction fun hd=>?_⟩;have h0:d≠0:=fun e=>by
  subst e;have:=Nat.eq_zero_of_zero_dvd (by simpa using h)
  have:=Nat.mul_pos ha.1 hb.1;omega
 obtain⟨q,hq,hqd⟩:=xY d (by omega)
 have hqq:q*q∣a*b:=Nat.dvd_trans (Nat.mul_dvd_mul hqd hqd) h;have hq2:=hq.1;rcases hq.dvd_mul (Nat.dvd_trans (Nat.dvd_mul_right q q) hqq) with k|k
 ·have hnb:¬q∣b:=fun c=>by
   have:=Nat.dvd_gcd k c;rw[hc] at this;have:=Nat.dvd_one.1 this;omega
  have c1:=hq.yP hnb;have c2:Nat.Coprime (q*q) b:=Nat.Coprime.mul_left c1 c1;have:=ha.2 q (c2.dvd_of_dvd_mul_right hqq);omega
 ·have hna:¬q∣a:=fun c=>by
   have:=Nat.dvd_gcd c k;rw[hc] at this;have:=Nat.dvd_one.1 this;omega
  have c1:=hq.yP hna;have c2:Nat.Coprime (q*q) a:=Nat.Coprime.mul_left c1 c1;have:=hb.2 q (c2.dvd_of_dvd_mul_left hqq);omega
theorem SF.uniq {s t m k:Nat} (hm:SF m) (hk:SF k) (hs:0<s) (ht:0<t) (e:s*s*m=t*t*k):s=t∧m=k:=by
 have hg:0<Nat.gcd s t:=Nat.gcd_pos_of_pos_left t hs;obtain⟨a,ha⟩:=Nat.gcd_dvd_left s t;obtain⟨b,hb⟩:=Nat.gcd_dvd_right s t;have hc:Nat.Coprime a b:=by
  have h1:=Nat.coprime_div_gcd_div_gcd hg;have ea:s/Nat.gcd s t=a:=Nat.div_eq_of_eq_mul_right hg ha;have eb:t/Nat.gcd s t=b:=Nat.div_eq_of_eq_mul_right hg hb;rwa[ea,eb] at h1
 generalize Nat.gcd s t=g at *;subst ha hb;have e2:g*g*(a*a*m)=g*g*(b*b*k):=by
  calc g*g*(a*a*m)=g*a*(g*a)*m:=by grind
   _=g*b*(g*b)*k:=e
   _=g*g*(b*b*k):=by grind
 have e3:=Nat.eq_of_mul_eq_mul_left (Nat.mul_pos hg hg) e2;have c2:Nat.Coprime (a*a) (b*b):=Nat.Coprime.mul_left (Nat.Coprime.mul_right hc hc) (Nat.Coprime.mul_right hc hc);have h1:a*a∣k:=c2.dvd_of_dvd_mul_left (e3 ▸ Nat.dvd_mul_right (a*a) m);have h2:b*b∣m:=c2.symm.dvd_of_dvd_mul_left (e3 ▸ Nat.dvd_mul_right (b*b) k);have a1:=hk.2 a h1;have b1:=hm.2 b h2;subst a1 b1;simp at e3;exact⟨rfl,e3⟩
end Jd
end

section
namespace Go.Proofs.YthmekkhpddehjaaGreat
open Go Go.Ab Go.Ab.W Go.Ab.B Jd
section
variable (n : Nat)
theorem qm {a b:Nat} (h:a≤b):a*a≤b*b:=Nat.mul_le_mul h h
theorem nC {x:Nat} (hx:x≤10000000000000):∀(k m low high:Nat),high-low≤2 ^ k→k<m→low<high→high≤4000000→low*low≤x→x<high*high→∃r:Nat,cq (nF n (x:Int)) m ((low:Int),(high:Int))=some (r:Int)∧r*r≤x∧x<(r+1)*(r+1)
 | k,m+1,low,high,h1,h2,h3,h4,h5,h6=>by
  by_cases hc:high-low=1
  ·refine⟨low,?_,h5,by rw[show low+1=high by omega]; exact h6⟩
   rw[bN];unfold nF
   dsimp only
   rw[aq (x:=(high:Int)-(low:Int)) (by omega) (by omega),aH (by omega)]
  ·obtain⟨k,rfl⟩:∃j,k=j+1:=⟨k-1,by
    cases k with
    | zero=>simp at h1; omega
    | succ k=>rfl⟩
   have hp:2 ^ (k+1)=2*2 ^ k:=by rw[Nat.pow_succ,Nat.mul_comm]
   have hmid:Int.tdiv ((low:Int)+(high:Int)) 2=(((low+high)/2:Nat):Int):=rfl;have hb:((low+high)/2)*((low+high)/2)≤4000000*4000000:=qm (by omega)
   have step:nF n (x:Int) ((low:Int),(high:Int))=if ((low+high)/2)*((low+high)/2)≤x then some (.inl ((((low+high)/2:Nat):Int),(high:Int))) else some (.inl ((low:Int),(((low+high)/2:Nat):Int))):=by
    unfold nF
    dsimp only
    rw[aq (x:=(high:Int)-(low:Int)) (by omega) (by omega),aO (by omega),aq (x:=(low:Int)+(high:Int)) (by omega) (by omega),hmid,aq (x:=(((low+high)/2:Nat):Int)) (by omega) (by omega),al,
     show((((low+high)/2:Nat):Int)*(((low+high)/2:Nat):Int))=(((low+high)/2*((low+high)/2):Nat):Int) from(Int.natCast_mul _ _).symm,aq (by omega) (by omega)]
    by_cases g:((low+high)/2)*((low+high)/2)≤x
    ·rw[if_pos g,aO (by omega)]
    ·rw[if_neg g,aH (by omega)]
   by_cases g:((low+high)/2)*((low+high)/2)≤x
   ·rw[if_pos g] at step;rw[bp step];exact nC hx k m _ _ (by omega) (by omega) (by omega) h4 g h6
   ·rw[if_neg g] at step;rw[bp step];exact nC hx k m _ _ (by omega) (by omega) (by omega) (by omega) h5 (by omega)
theorem G3 {x:Nat} (hx:x≤10000000000000) (hn:100<n):∃r:Nat,Dl n (x:Int)=some (r:Int)∧r*r≤x∧x<(r+1)*(r+1):=by
 obtain⟨r,h1,h2,h3⟩:=nC n hx 22 n 0 4000000 (by decide) (by omega) (by decide) (by decide) (by omega) (by omega)
 exact⟨r,by unfold Dl; rw[show((0:Int),(4000000:Int))=(((0:Nat):Int),((4000000:Nat):Int)) from rfl,h1,al],h2,h3⟩
theorem oi {p:Nat} (hp:2≤p) (hp2:p≤21545) (hP:FG p) {N:Nat} (hN:N≤10000000000000):∀(k m v s:Nat) (odd:Bool),v<2 ^ k→k<m→0<v→0<s→s*s*(if odd then p else 1)*v≤N →
  ∃(v' s':Nat) (odd':Bool),cq (k8 n (p:Int)) m ((v:Int),(s:Int),odd)=some ((v':Int),(s':Int),odd')∧0<v'∧0<s'∧¬p∣v'∧v'∣v∧s*s*(if odd then p else 1)*v=s'*s'*(if odd' then p else 1)*v'
 | 0,m,v,s,odd,h1,_,h3,_,_=>by simp at h1; omega
 | k+1,m+1,v,s,odd,h1,h2,h3,h4,h5=>by
  have hpow:2 ^ (k+1)=2*2 ^ k:=by rw[Nat.pow_succ,Nat.mul_comm]
  by_cases hd:v%p=0
  ·have hv:v=p*(v/p):=by have:=Nat.div_add_mod v p; omega
   have hvp:0<v/p:=Nat.pos_of_ne_zero fun e=>by rw[e] at hv; omega
   have hlt:2*(v/p)≤v:=by rw[Nat.mul_comm]; exact Nat.le_trans (Nat.mul_le_mul_left _ hp) (by rw[Nat.mul_comm]; exact Nat.le_of_eq hv.symm)
   have e5:s*s*(if odd then p else 1)*v=(if odd then s*p else s)*(if odd then s*p else s)*(if !odd then p else 1)*(v/p):=by
    conv=>lhs; rw[hv]
    generalize v/p=w;cases odd<;>simp<;>grind
   have hs':0<(if odd then s*p else s):=by
    split
    ·exact Nat.mul_pos h4 (by omega)
    ·exact h4
   obtain⟨v',s',odd',g1,g2,g3,g4,g5,g6⟩:=oi hp hp2 hP hN k m (v/p) (if odd then s*p else s) (!odd) (by omega) (by omega) hvp hs' (by rw[←e5]; exact h5)
   refine⟨v',s',odd',?_,g2,g3,g4,Nat.dvd_trans g5 ⟨p,by rw[Nat.mul_comm]; exact hv⟩,by rw[e5]; exact g6⟩
   rw[bp (s':=(((v/p:Nat):Int),(((if odd then s*p else s):Nat):Int),!odd)),g1]
   have hsN:(if odd then s*p else s)≤N:=by
    rw[e5] at h5;refine Nat.le_trans ?_ h5;refine Nat.le_trans ?_ (Nat.le_mul_of_pos_right _ hvp);refine Nat.le_trans ?_ (Nat.le_mul_of_pos_right _ (by split<;>omega))
    exact Nat.le_mul_of_pos_left _ hs'
   have hvN:v≤N:=by
    refine Nat.le_trans (Nat.le_mul_of_pos_left _ ?_) h5;exact Nat.mul_pos (Nat.mul_pos h4 h4) (by split<;>omega)
   unfold k8
   dsimp only
   rw[decide_eq_true (show(p:Int)≠0 by omega),aW,show Int.tmod (v:Int) (p:Int)=((v%p:Nat):Int) from rfl,aO (by omega),aW,show Int.tdiv (v:Int) (p:Int)=((v/p:Nat):Int) from rfl,aq (x:=((v/p:Nat):Int)) (by omega) (by omega)]
   cases odd
   ·rw[cr,al]; rfl
   ·simp only[if_true] at hsN ⊢;rw[gS,show(s:Int)*(p:Int)=((s*p:Nat):Int) from(Int.natCast_mul _ _).symm,aq (by omega) (by omega),al]
  ·refine⟨v,s,odd,?_,h3,h4,fun c=>hd (Nat.mod_eq_zero_of_dvd c),Nat.dvd_refl v,rfl⟩;rw[bN];unfold k8
   dsimp only
   rw[decide_eq_true (show(p:Int)≠0 by omega),aW,show Int.tmod (v:Int) (p:Int)=((v%p:Nat):Int) from rfl,aH (by omega)]
structure Ptd (x v s q p:Nat):Prop where
 v0:0<v
 s0:0<s
 eq:x=s*s*q*v
 sf:SF q
 yP:Nat.Coprime q v
 low:∀d,2≤d→d<p→¬d∣v
theorem jR {x:Nat} (hx:x≤10000000000000) (hn:100<n):∀(k m v s q p:Nat),p+k=21546→k<m→2≤p→Ptd x v s q p →
  ∃v' s' q' p':Nat,cq (k7 n) m ((v:Int),(s:Int),(q:Int),(p:Int))=some ((v':Int),(s':Int),(q':Int))∧Ptd x v' s' q' p'∧(v'<p'*p'∨p'=21546)∧2≤p'
 | 0,m+1,v,s,q,p,h1,_,h3,h4=>by
  refine⟨v,s,q,p,?_,h4,.inr (by omega),h3⟩
  rw[bN];unfold k7
  dsimp only
  rw[aH (by omega)]
 | k+1,m+1,v,s,q,p,h1,h2,h3,h4=>by
  have hpp:p*p≤21545*21545:=qm (by omega)
  by_cases hlt:v<p*p
  ·refine⟨v,s,q,p,?_,h4,.inl hlt,h3⟩;rw[bN];unfold k7
   dsimp only
   rw[aO (by omega),show(p:Int)*(p:Int)=((p*p:Nat):Int) from(Int.natCast_mul _ _).symm,aq (by omega) (by omega),aO (by omega),al]
  ·have hle:∀{a b:Nat},0<b→a≤a*b:=fun hb=>Nat.le_mul_of_pos_right _ hb;have hq0:=h4.sf.1;have hs0:=h4.s0;have hv0:=h4.v0;have hvx:v≤x:=by rw[h4.eq]; exact Nat.le_mul_of_pos_left _ (Nat.mul_pos (Nat.mul_pos hs0 hs0) hq0)
   have hsv:s*s*v≤x:=by
    rw[h4.eq,show s*s*q*v=s*s*v*q by grind]; exact hle hq0
   by_cases hd:p∣v
   ·have hP:FG p:=⟨h3,fun d hd2=>by
     by_cases e:d=1
     ·exact .inl e
     ·right
      have:d≤p:=Nat.le_of_dvd (by omega) hd2
      have:d≠0:=fun e=>by subst e; have:=Nat.eq_zero_of_zero_dvd hd2; omega
      refine Decidable.byContradiction fun ne=>h4.low d (by omega) (by omega) (Nat.dvd_trans hd2 hd)⟩
    obtain⟨v',s',odd',g1,g2,g3,g4,g5,g6⟩:=oi n h3 (by omega) hP (N:=x) (by omega) 50 n v s false (by omega) (by omega) hv0 hs0 (by simpa using hsv)
    have hpq:¬p∣q:=fun c=>by
     have:=Nat.dvd_gcd c hd;rw[h4.yP] at this;have:=Nat.dvd_one.1 this;omega
    have hcq:Nat.Coprime q v':=Nat.Coprime.coprime_dvd_right g5 h4.yP;have hcp:Nat.Coprime p v':=hP.yP g4;have hinv:Ptd x v' s' (if odd' then q*p else q) (p+1):=by
     refine⟨g2,g3,?_,?_,?_,fun d hd1 hd2 hd3=>?_⟩
     ·have e6:s*s*v=s'*s'*(if odd' then p else 1)*v':=by simpa using g6
      rw[h4.eq,Nat.mul_right_comm,e6];cases odd'<;>simp<;>grind
     ·split
      ·exact h4.sf.mul hP.sf (hP.yP hpq).symm
      ·exact h4.sf
     ·split
      ·exact Nat.Coprime.mul_left hcq hcp
      ·exact hcq
     ·by_cases e:d=p
      ·exact g4 (e ▸ hd3)
      ·exact h4.low d hd1 (by omega) (Nat.dvd_trans hd3 g5)
    obtain⟨v2,s2,q2,p2,k1,k2,k3,k4⟩:=jR hx hn k m v' s' (if odd' then q*p else q) (p+1) (by omega) (by omega) (by omega) hinv
    refine⟨v2,s2,q2,p2,?_,k2,k3,k4⟩;have hqx:(if odd' then q*p else q)≤x:=by
     rw[hinv.eq];refine Nat.le_trans ?_ (hle hinv.v0);exact Nat.le_mul_of_pos_left _ (Nat.mul_pos g3 g3)
    rw[bp (s':=((v':Int),(s':Int),(((if odd' then q*p else q):Nat):Int),((p+1:Nat):Int))),k1]
    unfold k7
    dsimp only
    rw[aO (by omega),show(p:Int)*(p:Int)=((p*p:Nat):Int) from(Int.natCast_mul _ _).symm,aq (x:=((p*p:Nat):Int)) (by omega) (by omega),aH (by omega),g1,al,aq (x:=(p:Int)+1) (by omega) (by omega)]
    dsimp only
    cases odd'
    ·rw[cr,al]; rfl
    ·simp only[if_true] at hqx ⊢;rw[gS,show(q:Int)*(p:Int)=((q*p:Nat):Int) from(Int.natCast_mul _ _).symm,aq (by omega) (by omega),al]; rfl
   ·
    have hinv:Ptd x v s q (p+1):=⟨hv0,hs0,h4.eq,h4.sf,h4.yP,fun d hd1 hd2 hd3=>by
     by_cases e:d=p
     ·exact hd (e ▸ hd3)
     ·exact h4.low d hd1 (by omega) hd3⟩
    obtain⟨v2,s2,q2,p2,k1,k2,k3,k4⟩:=jR hx hn k m v s q (p+1) (by omega) (by omega) (by omega) hinv
    refine⟨v2,s2,q2,p2,?_,k2,k3,k4⟩;rw[bp (s':=((v:Int),(s:Int),(q:Int),((p+1:Nat):Int))),k1];have g1:cq (k8 n (p:Int)) n ((v:Int),(s:Int),false)=some ((v:Int),(s:Int),false):=by
     obtain⟨n,rfl⟩:∃j,n=j+1:=⟨n-1,by omega⟩
     rw[bN];unfold k8
     dsimp only
     have hm:v%p≠0:=fun c=>hd (Nat.dvd_of_mod_eq_zero c);rw[decide_eq_true (show(p:Int)≠0 by omega),aW,show Int.tmod (v:Int) (p:Int)=((v%p:Nat):Int) from rfl,aH (by omega)]
    unfold k7
    dsimp only
    rw[aO (by omega),show(p:Int)*(p:Int)=((p*p:Nat):Int) from(Int.natCast_mul _ _).symm,aq (x:=((p*p:Nat):Int)) (by omega) (by omega),aH (by omega),g1,al,aq (x:=(p:Int)+1) (by omega) (by omega)]
    rfl
theorem GY {x:Nat} (h0:0<x) (hx:x≤10000000000000) (hn:22000<n):∃s q:Nat,xB n (x:Int)=some ((s:Int),(q:Int))∧0<s∧SF q∧x=s*s*q:=by
 obtain⟨v,s,q,p,h1,h2,h3,h4⟩:=jR n hx (by omega) 21544 n x 1 1 2 rfl (by omega) (by decide) ⟨h0,by decide,by simp,SF.one,Nat.coprime_one_left x,fun d a b _=>by omega⟩
 have hq0:=h2.sf.1;have hs0:=h2.s0;have hv0:=h2.v0;have hvx:v≤x:=by rw[h2.eq]; exact Nat.le_mul_of_pos_left _ (Nat.mul_pos (Nat.mul_pos hs0 hs0) hq0)
 obtain⟨r,r1,r2,r3⟩:=G3 n (x:=v) (by omega) (by omega)
 have hrr:r*r≤10000000000000:=by omega
 have hsx:s≤x:=by
  rw[h2.eq];refine Nat.le_trans ?_ (Nat.le_mul_of_pos_right _ hv0);refine Nat.le_trans ?_ (Nat.le_mul_of_pos_right _ hq0);exact Nat.le_mul_of_pos_right _ hs0
 unfold xB;rw[show((x:Int),(1:Int),(1:Int),(2:Int))=((x:Int),((1:Nat):Int),((1:Nat):Int),((2:Nat):Int)) from rfl,h1,al]
 dsimp only
 rw[r1,al,show(r:Int)*(r:Int)=((r*r:Nat):Int) from(Int.natCast_mul _ _).symm,aq (x:=((r*r:Nat):Int)) (by omega) (by omega)]
 by_cases e:r*r=v
 ·have hr0:0<r:=Nat.pos_of_ne_zero fun c=>by subst c; omega
  have hsr:s*r≤x:=by
   rw[h2.eq,←e];refine Nat.le_trans ?_ (show s*r*(s*r*q)≤_ from Nat.le_of_eq (by grind))
   exact Nat.le_mul_of_pos_right _ (Nat.mul_pos (Nat.mul_pos hs0 hr0) hq0)
  refine⟨s*r,q,?_,Nat.mul_pos hs0 hr0,h2.sf,by rw[h2.eq,←e]; grind⟩
  rw[aO (by omega),show(s:Int)*(r:Int)=((s*r:Nat):Int) from(Int.natCast_mul _ _).symm,aq (by omega) (by omega)]
 ·have hqv:q*v≤x:=by
   rw[h2.eq,Nat.mul_assoc];exact Nat.le_mul_of_pos_left _ (Nat.mul_pos hs0 hs0)
  refine⟨s,q*v,?_,hs0,h2.sf.mul ⟨hv0,fun d hd=>Decidable.byContradiction fun hd1=>?_⟩ h2.yP,by rw[h2.eq,Nat.mul_assoc]⟩
  ·rw[aH (by omega),show(q:Int)*(v:Int)=((q*v:Nat):Int) from(Int.natCast_mul _ _).symm,aq (by omega) (by omega)]
  ·
   have hd0:d≠0:=fun c=>by
    subst c;have:=Nat.eq_zero_of_zero_dvd (by simpa using hd)
    omega
   have hdv:d∣v:=Nat.dvd_trans (Nat.dvd_mul_right d d) hd;have hdp:p≤d:=Decidable.byContradiction fun c=>h2.low d (by omega) (by omega) hdv
   obtain⟨w,hw⟩:=hd;have hw0:0<w:=Nat.pos_of_ne_zero fun c=>by subst c; omega
   have hdd:d*d≤v:=by rw[hw]; exact Nat.le_mul_of_pos_right _ hw0
   rcases h3 with h3|h3
   ·have:=qm hdp;omega
   ·by_cases hw1:w=1
    ·
     rw[hw1,Nat.mul_one] at hw;have:r=d:=by
      rcases Nat.lt_trichotomy r d with g|g|g
      ·have:=qm (show r+1≤d by omega); omega
      ·exact g
      ·have:=qm (show d+1≤r by omega)
       have e2:(d+1)*(d+1)=d*d+2*d+1:=by grind
       omega
     exact e (by rw[this,hw])
    ·have hwv:w∣v:=⟨d*d,by rw[hw,Nat.mul_comm]⟩
     have hwp:p≤w:=Decidable.byContradiction fun c=>h2.low w (by omega) (by omega) hwv
     have k1:21546*21546≤d*d:=qm (by omega)
     have k2:21546*21546*21546≤d*d*w:=Nat.mul_le_mul k1 (by omega)
     omega
end
def cY {ρ:Type} (f:Nat→Option ρ) (e:ρ):Nat→Nat→ρ
 | 0,_=>e
 | k+1,i=>match f i with
  | some r=>r
  | none=>cY f e k (i+1)
theorem dZ {ρ:Type} {B:Int→Option (Int ⊕ ρ)} {f:Nat→Option ρ} {e:ρ} {len:Nat} (hB:∀i:Nat,i<len→B (i:Int)=some (match f i with|some r=>.inr r|none=>.inl ((i+1:Nat):Int))) (hE:B (len:Int)=some (.inr e)) :
  ∀(k i n:Nat),i+k=len→k<n→cq B n (i:Int)=some (cY f e k i)
 | 0,i,n+1,h,_=>by
  rw[Nat.add_zero] at h; subst h;simp only[cq,hE,cY]
 | k+1,i,n+1,h,hn=>by
  have:=hB i (by omega)
  simp only[cq,this,cY];cases hf:f i with
  | some r=>rfl
  | none=>exact dZ hB hE k (i+1) n (by omega) (by omega)
theorem fe {ρ:Type} {f:Nat→Option ρ} {e:ρ}:∀(k i:Nat),((∀j,i≤j→j<i+k→f j=none)∧cY f e k i=e)∨∃j,i≤j∧j<i+k∧f j=some (cY f e k i)
 | 0,i=>.inl ⟨fun j h1 h2=>by omega,rfl⟩
 | k+1,i=>by
  cases hf:f i with
  | some r=>exact .inr ⟨i,by omega,by omega,by simp only[cY,hf]⟩
  | none =>
   have e1:cY f e (k+1) i=cY f e k (i+1):=by simp only[cY,hf]
   rw[e1];rcases fe (f:=f) (e:=e) k (i+1) with⟨h1,h2⟩|⟨j,h1,h2,h3⟩
   ·refine .inl ⟨fun j a b=>?_,h2⟩
    by_cases e:j=i
    ·rw[e]; exact hf
    ·exact h1 j (by omega) (by omega)
   ·exact .inr ⟨j,by omega,by omega,h3⟩
theorem dJ {l:List I2} {i:Nat} (h:i<l.length):l[((i:Nat):Int).toNat]? = some ((nx l i).1,(nx l i).2):=by
 rw[Int.toNat_natCast,List.getElem?_eq_getElem h];unfold nx;rw[Nat.mod_eq_of_lt h,List.getD_eq_getElem?_getD,List.getElem?_eq_getElem h]; rfl
theorem mW (m n:Nat):Int.tmod (m:Int) (n:Int)=((m%n:Nat):Int):=rfl
theorem nP {l:List I2} {i:Nat}:nx l (i%l.length)=nx l i:=by unfold nx; rw[Nat.mod_mod]
theorem IA (n:Nat) (p:I2):J3 n p.1 p.2=some (decide (Fa p)):=by
 unfold J3 Fa;rw[pJ,pJ,pJ,←Bool.decide_or,←Bool.decide_or,←Bool.decide_or]
theorem tT (n:Nat) {l:List I2} (i:Nat) (h:l≠[]):BG n l (i:Int)=some ((nx l i).1,(nx l i).2):=by
 have hl:0<l.length:=List.length_pos_iff.2 h;have hm:i%l.length<l.length:=Nat.mod_lt _ hl;unfold BG;rw[decide_eq_true (show((l.length:Nat):Int)≠0 by omega),aW,mW,aI hm,aW,dJ hm,al,nP]
theorem nu (n:Nat) {a b c:I2} (ha:Nr a) (hb:Nr b) (hc:Nr c):BD n a.1 a.2 b.1 b.2 c.1 c.2=some (ti a b c):=by
 unfold Nr at ha hb hc;have m1:=cL (B:=2000000) (C:=2000000) (u:=b.1-a.1) (v:=c.2-a.2) (by decide) (by omega) (by omega) (by omega) (by omega)
 have m2:=cL (B:=2000000) (C:=2000000) (u:=b.2-a.2) (v:=c.1-a.1) (by decide) (by omega) (by omega) (by omega) (by omega)
 unfold BD;rw[aq (x:=b.1-a.1) (by omega) (by omega),aq (x:=c.2-a.2) (by omega) (by omega),aq (x:=b.2-a.2) (by omega) (by omega),aq (x:=c.1-a.1) (by omega) (by omega),
  aq (by omega) (by omega),aq (by omega) (by omega),al,al,aq (by omega) (by omega)]
 rfl
theorem KL {a b c:I2} (ha:Nr a) (hb:Nr b) (hc:Nr c):IntKind.wrap .i64 (IntKind.wrap .i64 ((IntKind.wrap .i64 (b.1-a.1))*(IntKind.wrap .i64 (c.1-b.1)))+IntKind.wrap .i64 ((IntKind.wrap .i64 (b.2-a.2))*(IntKind.wrap .i64 (c.2-b.2))))=di a b c:=by
 unfold Nr at ha hb hc;have m1:=cL (B:=2000000) (C:=2000000) (u:=b.1-a.1) (v:=c.1-b.1) (by decide) (by omega) (by omega) (by omega) (by omega)
 have m2:=cL (B:=2000000) (C:=2000000) (u:=b.2-a.2) (v:=c.2-b.2) (by decide) (by omega) (by omega) (by omega) (by omega)
 rw[aq (x:=b.1-a.1) (by omega) (by omega),aq (x:=c.1-b.1) (by omega) (by omega),aq (x:=b.2-a.2) (by omega) (by omega),aq (x:=c.2-b.2) (by omega) (by omega),
  aq (x:=(b.1-a.1)*(c.1-b.1)) (by omega) (by omega),aq (x:=(b.2-a.2)*(c.2-b.2)) (by omega) (by omega),aq (by omega) (by omega)]
 rfl
theorem JD (n:Nat) {a b c:I2} (ha:Nr a) (hb:Nr b) (hc:Nr c):Ky n a.1 a.2 b.1 b.2 c.1 c.2=some (di a b c):=by
 unfold Ky;rw[al,al,KL ha hb hc]
theorem th (n:Nat) (z:Int):HT n z=some (sg z):=by
 unfold HT sg
 by_cases h:0<z
 ·rw[aO h,if_neg (by omega),if_pos h]
 ·rw[aH h,if_neg h]
  by_cases g:z<0
  ·rw[aO g,if_pos g]
  ·rw[aH g,if_neg g]
theorem tA (n:Nat) {a b p:I2} (ha:Nr a) (hb:Nr b) (hp:Nr p):G6 n a.1 a.2 b.1 b.2 p.1 p.2=some (decide (dD a b p)):=by
 unfold G6;rw[nu n ha hb hp,al]
 by_cases h:ti a b p=0
 ·rw[decide_eq_true h,Bool.not_true,cr,dS,dS,dS,nw,nw,uj,uj,←Bool.decide_and,←Bool.decide_and,←Bool.decide_and]
  congr 1
  rw[decide_eq_decide];unfold dD;exact⟨fun g=>⟨h,g⟩,fun g=>g.2⟩
 ·rw[decide_eq_false h,Bool.not_false,gS,decide_eq_false fun g=>h g.1]
theorem Hv {a b c d:I2} (ha:Nr a) (hb:Nr b) (hc:Nr c) (hd:Nr d) :
  IntKind.wrap .i64 ((ma (mi a.1 b.1) (mi c.1 d.1))-(mi (ma a.1 b.1) (ma c.1 d.1)))=max (min a.1 b.1) (min c.1 d.1)-min (max a.1 b.1) (max c.1 d.1) ∧
  IntKind.wrap .i64 ((ma (mi a.2 b.2) (mi c.2 d.2))-(mi (ma a.2 b.2) (ma c.2 d.2)))=max (min a.2 b.2) (min c.2 d.2)-min (max a.2 b.2) (max c.2 d.2):=by
 unfold Nr at ha hb hc hd;simp only[nw,uj];exact⟨aq (by omega) (by omega),aq (by omega) (by omega)⟩
theorem zx (x y:Int):IntKind.wrap .i64 (sg x*sg y)=sg x*sg y:=by
 rcases iz x with h|h|h<;>rcases iz y with g|g|g<;>rw[h,g]<;>decide
theorem uk (x y:Int):sg x*sg y<0↔(0<x∧y<0)∨(x<0∧0<y):=by
 unfold sg
 split<;>split<;>(try split)<;>(try split)<;>omega
theorem JU (n:Nat) {a b c d:I2} (ha:Nr a) (hb:Nr b) (hc:Nr c) (hd:Nr d) (hab:a≠b) (hcd:c≠d):Lr n a.1 a.2 b.1 b.2 c.1 c.2 d.1 d.2=some (uN a b c d):=by
 classical
 rw[Gu hab hcd];unfold Lr;rw[nu n ha hb hc,al,th,al,nu n ha hb hd,al,th,al,nu n hc hd ha,al,th,al,nu n hc hd hb,al,th,al,dS,al,←Bool.decide_and];rw[(Hv ha hb hc hd).1,(Hv ha hb hc hd).2]
 by_cases h:EM a b c d
 ·have h':sg (ti a b c)=0∧sg (ti a b d)=0:=⟨ft.2 h.1,ft.2 h.2⟩;rw[aO h',if_pos h];have hl:(ob (some (max (min a.1 b.1) (min c.1 d.1)-min (max a.1 b.1) (max c.1 d.1))) fun y54=>ob (br (decide (a.1=b.1)) (ob (some (max (min a.2 b.2) (min c.2 d.2)-min (max a.2 b.2) (max c.2 d.2))) fun y61=>some y61) (some y54)) fun v59=>br (decide (0<v59)) (some (0:Int)) (br (decide (v59=0)) (some 1) (some 3)))
    = br (decide (0<low a b c d)) (some 0) (br (decide (low a b c d=0)) (some 1) (some 3)):=by
   unfold low
   by_cases e:a.1=b.1
   ·rw[al,aO e,al,al,if_pos e]
   ·rw[al,aH e,al,if_neg e]
  rw[hl]
  by_cases g:0<low a b c d
  ·rw[aO g,if_pos g]
  ·rw[aH g,if_neg g]
   by_cases k:low a b c d=0
   ·rw[aO k,if_pos k]
   ·rw[aH k,if_neg k]
 ·have h':¬(sg (ti a b c)=0∧sg (ti a b d)=0):=fun g=>h ⟨ft.1 g.1,ft.1 g.2⟩;rw[aH h',if_neg h,zx,zx,dS,al,←Bool.decide_and]
  by_cases g:rZ a b c d
  ·have g':sg (ti a b c)*sg (ti a b d)<0∧sg (ti c d a)*sg (ti c d b)<0:=⟨(uk _ _).2 g.1,(uk _ _).2 g.2⟩;rw[aO g',if_pos g]
  ·have g':¬(sg (ti a b c)*sg (ti a b d)<0∧sg (ti c d a)*sg (ti c d b)<0):=fun k=>g ⟨(uk _ _).1 k.1,(uk _ _).1 k.2⟩;rw[aH g',if_neg g,tA n ha hb hc,tA n ha hb hd,tA n hc hd ha,tA n hc hd hb];simp only[al,pJ,←Bool.decide_or]
   by_cases k:dD a b c∨dD a b d∨dD c d a∨dD c d b
   ·rw[aO k,if_pos k]
   ·rw[aH k,if_neg k]
def kl (l:List I2) (i:Nat):Option (Int ⊕ Unit):=if Fa (nx l i) then some (.inl (i:Int)) else none
def fg (l:List I2) (i:Nat):Option (Int ⊕ Unit):=if nx l i=nx l (i+1) then some (.inl (i:Int)) else none
def fJ (l:List I2) (i:Nat):Option (Int ⊕ Unit):=if ti (nx l (i+l.length-1)) (nx l i) (nx l (i+1))=0∧di (nx l (i+l.length-1)) (nx l i) (nx l (i+1))<0 then some (.inl (i:Int)) else none
def rq (l:List I2) (i j:Nat):Prop:=¬(j=0∧i=l.length-1)∧uN (nx l j) (nx l (j+1)) (nx l i) (nx l (i+1))≠0
open Classical in
noncomputable def fO (l:List I2) (i:Nat):Option (Int ⊕ Unit):=if ∃j,j+1<i∧rq l i j then some (.inl (i:Int)) else none
noncomputable def lY (l:List I2):Int × Int :=
 if l.length<3∨40<l.length then(1,0) else
 match cY (kl l) (.inr ()) l.length 0 with
 | .inl v=>(2,v)
 | .inr _=>match cY (fg l) (.inr ()) l.length 0 with
  | .inl v=>(3,v)
  | .inr _=>match cY (fJ l) (.inr ()) l.length 0 with
   | .inl v=>(4,v)
   | .inr _=>match cY (fO l) (.inr ()) l.length 0 with
    | .inl v=>(5,v)
    | .inr _=>(0,0)
section
variable {l : List I2} (n : Nat)
theorem jE (p q:I2):(decide (p.1=q.1) && decide (p.2=q.2))=decide (p=q):=by
 rw[←Bool.decide_and,decide_eq_decide]; exact⟨fun h=>Prod.ext h.1 h.2,fun h=>by subst h; exact⟨rfl,rfl⟩⟩
theorem DC (hn:l.length<n) (hl:l.length<100):cq (vg n l) n 0=some (cY (kl l) (.inr ()) l.length 0):=by
 refine dZ (len:=l.length) (fun i hi=>?_) ?_ l.length 0 n (by omega) hn
 ·unfold vg kl
  dsimp only
  rw[aO (by omega),aI hi,aW,dJ hi,al]
  dsimp only
  rw[IA,al,aS (by omega)]
  by_cases h:Fa (nx l i)
  ·rw[aO h,if_pos h]
  ·rw[aH h,if_neg h]
 ·unfold vg
  dsimp only
  rw[aH (by omega)]
theorem C2 (h64:∀i,nL (nx l i).1∧nL (nx l i).2) (hn:l.length<n) (hl:l.length<100):cq (vF n l) n 0=some (cY (kl l) (.inr ()) l.length 0):=by
 refine dZ (len:=l.length) (fun i hi=>?_) ?_ l.length 0 n (by omega) hn
 ·unfold vF kl
  dsimp only
  rw[aO (by omega),aI hi,aW,dJ hi,al]
  dsimp only
  rw[Dd n (h64 i).1 (h64 i).2,al,aS (by omega)]
  by_cases h:Fa (nx l i)
  ·rw[aO (show Fa ((nx l i).1,(nx l i).2) from h),if_pos h]
  ·rw[aH (show ¬Fa ((nx l i).1,(nx l i).2) from h),if_neg h]
 ·unfold vF
  dsimp only
  rw[aH (by omega)]
theorem Cl (hn:l.length<n) (hl:l.length<100):cq (wE n l) n 0=some (cY (fg l) (.inr ()) l.length 0):=by
 refine dZ (len:=l.length) (fun i hi=>?_) ?_ l.length 0 n (by omega) hn
 ·have hne:l≠[]:=by rintro rfl; cases hi
  unfold wE fg
  dsimp only
  rw[aO (by omega),aI hi,aW,dJ hi,al]
  dsimp only
  rw[aS (by omega),tT n (i+1) hne,al]
  dsimp only
  rw[jE]
  by_cases h:nx l i=nx l (i+1)
  ·rw[aO h,if_pos h]
  ·rw[aH h,if_neg h]
 ·unfold wE
  dsimp only
  rw[aH (by omega)]
theorem gX (i:Nat) (hi:i<l.length) (hl:l.length<100) {β:Type} (K:Int × Int→Option β) :
  gd (decide ((l.length:Int)≠0)) (gd (bV (Int.tmod ((i+1:Nat):Int) (l.length:Int)) l.length) (ob (l[(Int.tmod ((i+1:Nat):Int) (l.length:Int)).toNat]?) K))=K ((nx l (i+1)).1,(nx l (i+1)).2):=by
 have hm:(i+1)%l.length<l.length:=Nat.mod_lt _ (by omega)
 rw[decide_eq_true (show((l.length:Nat):Int)≠0 by omega),aW,mW,aI hm,aW,dJ hm,al,nP]
theorem CB (hn:l.length<n) (hl:l.length<100):cq (wZ n l) n 0=some (cY (fg l) (.inr ()) l.length 0):=by
 refine dZ (len:=l.length) (fun i hi=>?_) ?_ l.length 0 n (by omega) hn
 ·unfold wZ fg
  dsimp only
  rw[aO (by omega),aI hi,aW,dJ hi,al]
  dsimp only
  rw[aS (by omega),gX i hi hl]
  dsimp only
  rw[jE]
  by_cases h:nx l i=nx l (i+1)
  ·rw[aO h,if_pos h]; rfl
  ·rw[aH h,if_neg h]; rfl
 ·unfold wZ
  dsimp only
  rw[aH (by omega)]
theorem CI (hnr:∀i,Nr (nx l i)) (hn:l.length<n) (hl:l.length<100):cq (uU n l) n 0=some (cY (fJ l) (.inr ()) l.length 0):=by
 refine dZ (len:=l.length) (fun i hi=>?_) ?_ l.length 0 n (by omega) hn
 ·have hne:l≠[]:=by rintro rfl; cases hi
  have e1:IntKind.wrap .i64 ((IntKind.wrap .i64 ((i:Int)+(l.length:Int)))-1)=((i+l.length-1:Nat):Int):=by
   rw[aq (x:=(i:Int)+(l.length:Int)) (by omega) (by omega),aq (by omega) (by omega)]; omega
  unfold uU fJ
  dsimp only
  rw[aO (by omega),e1,tT n _ hne,al]
  dsimp only
  rw[aI hi,aW,dJ hi,al]
  dsimp only
  rw[aS (by omega),tT n (i+1) hne,al]
  dsimp only
  rw[nu n (hnr _) (hnr _) (hnr _),al,JD n (hnr _) (hnr _) (hnr _),al,dS,al,←Bool.decide_and]
  by_cases h:ti (nx l (i+l.length-1)) (nx l i) (nx l (i+1))=0∧di (nx l (i+l.length-1)) (nx l i) (nx l (i+1))<0
  ·rw[aO h,if_pos h]
  ·rw[aH h,if_neg h]
 ·unfold uU
  dsimp only
  rw[aH (by omega)]
theorem DQ (hnr:∀i,Nr (nx l i)) (hn:l.length<n) (hl:l.length<100):cq (xp n l) n 0=some (cY (fJ l) (.inr ()) l.length 0):=by
 refine dZ (len:=l.length) (fun i hi=>?_) ?_ l.length 0 n (by omega) hn
 ·have hm:(i+l.length-1)%l.length<l.length:=Nat.mod_lt _ (by omega)
  have e1:IntKind.wrap .i64 ((IntKind.wrap .i64 ((i:Int)+(l.length:Int)))-1)=((i+l.length-1:Nat):Int):=by
   rw[aq (x:=(i:Int)+(l.length:Int)) (by omega) (by omega),aq (by omega) (by omega)]; omega
  unfold xp fJ
  dsimp only
  rw[aO (by omega),aI hi,aW,dJ hi,al]
  dsimp only
  rw[aS (by omega),gX i hi hl]
  dsimp only
  rw[e1,decide_eq_true (show((l.length:Nat):Int)≠0 by omega),aW,mW,al,aI hm,aW,dJ hm,nP,al]
  dsimp only
  rw[ju n (hnr _) (hnr _) (hnr _),al,al,al,KL (hnr _) (hnr _) (hnr _),dS,al,←Bool.decide_and]
  by_cases h:ti (nx l (i+l.length-1)) (nx l i) (nx l (i+1))=0∧di (nx l (i+l.length-1)) (nx l i) (nx l (i+1))<0
  ·rw[aO (show _∧_ from⟨ft.2 h.1,h.2⟩),if_pos h]; rfl
  ·rw[aH (fun g=>h ⟨ft.1 g.1,g.2⟩),if_neg h]; rfl
 ·unfold xp
  dsimp only
  rw[aH (by omega)]
end
section
variable {l : List I2} (n : Nat)
open Classical in
noncomputable def zS {ρ:Type} (l:List I2) (r:ρ) (i j:Nat):Option ρ:=if rq l i j then some r else none
theorem DO {ρ:Type} {r e:ρ} (_:r≠e) {i:Nat}:(cY (zS l r i) e (i-1) 0=r∧∃j,j+1<i∧rq l i j)∨(cY (zS l r i) e (i-1) 0=e∧¬∃j,j+1<i∧rq l i j):=by
 classical
 rcases fe (f:=zS l r i) (e:=e) (i-1) 0 with⟨h1,h2⟩|⟨j,_,h2,h3⟩
 ·refine .inr ⟨h2,?_⟩;rintro⟨j,hj,hh⟩;have:=h1 j (by omega) (by omega)
  unfold zS at this;rw[if_pos hh] at this;cases this
 ·unfold zS at h3
  split at h3
  ·rename_i hh;exact .inl ⟨(Option.some.inj h3).symm,j,by omega,hh⟩
  ·cases h3
theorem C5 (hnr:∀i,Nr (nx l i)) (hst:∀i,nx l i≠nx l (i+1)) {i:Nat} (hi:i<l.length) (hn:l.length<n) (hl:l.length<100):cq (wF n (i:Int) l) n 0=some (cY (zS l (.inl ()) i) (.inr ()) (i-1) 0):=by
 classical
 have hne:l≠[]:=by rintro rfl; cases hi
 refine dZ (len:=i-1) (fun j hj=>?_) ?_ (i-1) 0 n (by omega) (by omega)
 ·have e1:IntKind.wrap .i64 ((l.length:Int)-1)=(l.length:Int)-1:=aq (by omega) (by omega)
  unfold wF zS
  dsimp only
  rw[aS (by omega),aO (by omega),dS,al,e1,←Bool.decide_and]
  by_cases h:(j:Int)=0∧(i:Int)=(l.length:Int)-1
  ·rw[aO h,al,if_neg (fun g:rq l i j=>g.1 ⟨by omega,by omega⟩)]
  ·rw[aH h,aI (by omega),aW,dJ (by omega),al]
   dsimp only
   rw[aI (by omega),aW,dJ (by omega),al]
   dsimp only
   rw[aI hi,aW,dJ hi,al]
   dsimp only
   rw[aS (by omega),tT n (i+1) hne,al]
   dsimp only
   rw[JU n (hnr _) (hnr _) (hnr _) (hnr _) (hst _) (hst _),al]
   by_cases g:uN (nx l j) (nx l (j+1)) (nx l i) (nx l (i+1))=0
   ·rw[decide_eq_true g,Bool.not_true,cr,al,if_neg (fun k:rq l i j=>k.2 g)]
   ·rw[decide_eq_false g,Bool.not_false,gS,al,if_pos (show rq l i j from⟨fun k=>h ⟨by omega,by omega⟩,g⟩)]
 ·unfold wF
  dsimp only
  rw[aS (by omega),aH (by omega)]
theorem DT (hnr:∀i,Nr (nx l i)) (hst:∀i,nx l i≠nx l (i+1)) {i:Nat} (hi:i<l.length) (hn:l.length<n) (h5:5<n) (hl:l.length<100) :
  cq (wC n l (i:Int) (nx l i).1 (nx l i).2 (nx l (i+1)).1 (nx l (i+1)).2) n 0=some (cY (zS l (.inr (.inl ())) i) (.inl ()) (i-1) 0):=by
 classical
 have hne:l≠[]:=by rintro rfl; cases hi
 have e0:IntKind.wrap .i64 ((i:Int)-1)=(i:Int)-1:=aq (by omega) (by omega)
 refine dZ (len:=i-1) (fun j hj=>?_) ?_ (i-1) 0 n (by omega) (by omega)
 ·have e1:IntKind.wrap .i64 ((l.length:Int)-1)=(l.length:Int)-1:=aq (by omega) (by omega)
  unfold wC zS
  dsimp only
  rw[aO (by omega),aI (by omega),aW,dJ (by omega),al]
  dsimp only
  rw[aS (by omega),gX j (by omega) hl]
  try dsimp only
  rw[e0,aH (by omega),dS,al,e1,←Bool.decide_and]
  by_cases h:(j:Int)=0∧(i:Int)=(l.length:Int)-1
  ·rw[aO h,al,if_neg (fun g:rq l i j=>g.1 ⟨by omega,by omega⟩)]
  ·rw[aH h,IB n _ _ (hnr _) (hnr _) (hnr _) (hnr _) (hst _) (hst _) h5,tq,al]
   by_cases g:uN (nx l j) (nx l (j+1)) (nx l i) (nx l (i+1))=0
   ·rw[decide_eq_true g,Bool.not_true,cr,al,if_neg (fun k:rq l i j=>k.2 g)]
   ·rw[decide_eq_false g,Bool.not_false,gS,al,if_pos (show rq l i j from⟨fun k=>h ⟨by omega,by omega⟩,g⟩)]
 ·unfold wC
  dsimp only
  rw[aO (by omega),aI (by omega),aW,dJ (by omega),al]
  dsimp only
  rw[aS (by omega),gX (i-1) (by omega) hl]
  try dsimp only
  rw[e0,aO (by omega),al]
theorem Dy (hnr:∀i,Nr (nx l i)) (hst:∀i,nx l i≠nx l (i+1)) (hn:l.length<n) (hl:l.length<100):cq (vX n l) n 0=some (cY (fO l) (.inr ()) l.length 0):=by
 classical
 refine dZ (len:=l.length) (fun i hi=>?_) ?_ l.length 0 n (by omega) hn
 ·unfold vX fO
  try dsimp only
  rw[aO (by omega),C5 n hnr hst hi hn hl,al,aS (by omega)]
  rcases DO (l:=l) (r:=(.inl ():Unit ⊕ Unit)) (e:=.inr ()) (by simp) (i:=i) with⟨h1,h2⟩|⟨h1,h2⟩
  ·rw[h1,if_pos h2]
  ·rw[h1,if_neg h2]
 ·unfold vX
  try dsimp only
  rw[aH (by omega)]
theorem Db (hnr:∀i,Nr (nx l i)) (hst:∀i,nx l i≠nx l (i+1)) (hn:l.length<n) (h5:5<n) (hl:l.length<100):cq (wD n l) n 0=some (cY (fO l) (.inr ()) l.length 0):=by
 classical
 refine dZ (len:=l.length) (fun i hi=>?_) ?_ l.length 0 n (by omega) hn
 ·unfold wD fO
  dsimp only
  rw[aO (by omega),aI hi,aW,dJ hi,al]
  dsimp only
  rw[aS (by omega),gX i hi hl]
  dsimp only
  rw[al,DT n hnr hst hi hn h5 hl,al];rcases DO (l:=l) (r:=(.inr (.inl ()):Unit ⊕ (Unit ⊕ Unit))) (e:=.inl ()) (by simp) (i:=i) with⟨h1,h2⟩|⟨h1,h2⟩
  ·rw[h1,if_pos h2]; rfl
  ·rw[h1,if_neg h2]; rfl
 ·unfold wD
  dsimp only
  rw[aH (by omega)]
theorem mg {f:Nat→Option (Int ⊕ Unit)} (hf:∀j r,f j=some r→r≠.inr ()) {k:Nat} (h:cY f (.inr ()) k 0 = .inr ()):∀j,j<k→f j=none:=by
 rcases fe (f:=f) (e:=.inr ()) k 0 with⟨h1,_⟩|⟨j,_,_,h3⟩
 ·exact fun j hj=>h1 j (by omega) (by omega)
 ·rw[h] at h3; exact absurd rfl (hf j _ h3)
theorem Ek {P:I2→Prop} (hl:0<l.length) (h:∀i,i<l.length→P (nx l i)) (i:Nat):P (nx l i):=by
 rw[←nP]; exact h _ (Nat.mod_lt _ hl)
theorem ot {i:Nat}:nx l (i%l.length+1)=nx l (i+1):=by unfold nx; rw[Nat.mod_add_mod]
theorem yV (hl:0<l.length) (h:cY (kl l) (.inr ()) l.length 0 = .inr ()):∀i,Nr (nx l i):=by
 refine Ek hl fun i hi=>?_;have:=mg (fun j r hr=>by unfold kl at hr; split at hr<;>cases hr; simp) h i hi
 unfold kl at this
 split at this
 ·cases this
 ·rename_i g; exact Ev.1 g
theorem yc (hl:0<l.length) (h:cY (fg l) (.inr ()) l.length 0 = .inr ()):∀i,nx l i≠nx l (i+1):=fun i=>by
 have:=mg (fun j r hr=>by unfold fg at hr; split at hr<;>cases hr; simp) h (i%l.length) (Nat.mod_lt _ hl)
 unfold fg at this
 split at this
 ·cases this
 ·rename_i g;rw[nP,ot] at g;exact g
theorem FD (v:Int) (h:cY (kl l) (.inr ()) l.length 0 = .inl v):0≤v:=by
 rcases fe (f:=kl l) (e:=.inr ()) l.length 0 with⟨_,h2⟩|⟨j,_,_,h3⟩
 ·rw[h] at h2; cases h2
 ·rw[h] at h3;unfold kl at h3
  split at h3
  ·cases h3; omega
  ·cases h3
theorem JG (hn:l.length<n) (_:41<n):KO n l=some (lY l):=by
 unfold KO lY;rw[pJ,al,←Bool.decide_or]
 by_cases h:l.length<3∨40<l.length
 ·rw[aO (by omega),if_pos h]
 ·rw[aH (by omega),if_neg h,DC n hn (by omega),al]
  cases h1:cY (kl l) (.inr ()) l.length 0 with
  | inl v=>rfl
  | inr _ =>
   have hnr:=yV (by omega) h1
   dsimp only
   rw[Cl n hn (by omega),al]
   cases h2:cY (fg l) (.inr ()) l.length 0 with
   | inl v=>rfl
   | inr _ =>
    have hst:=yc (by omega) h2
    dsimp only
    rw[CI n hnr hn (by omega),al]
    cases h3:cY (fJ l) (.inr ()) l.length 0 with
    | inl v=>rfl
    | inr _ =>
     dsimp only
     rw[Dy n hnr hst hn (by omega),al]
     cases h4:cY (fO l) (.inr ()) l.length 0<;>rfl
theorem JJ (h64:∀x ∈ l,nL x.1∧nL x.2) (hn:l.length<n) (h5:41<n):Ld n l=some (lY l):=by
 unfold Ld lY;rw[pJ,al,←Bool.decide_or]
 by_cases h:l.length<3∨40<l.length
 ·rw[aO (by omega),if_pos h]
 ·have h64':∀i,nL (nx l i).1∧nL (nx l i).2:=Ek (P:=fun x=>nL x.1∧nL x.2) (by omega) fun i hi=>by
   refine h64 _ ?_;unfold nx;rw[Nat.mod_eq_of_lt hi,List.getD_eq_getElem?_getD,List.getElem?_eq_getElem hi];exact List.getElem_mem hi
  rw[aH (by omega),if_neg h,C2 n h64' hn (by omega),al]
  cases h1:cY (kl l) (.inr ()) l.length 0 with
  | inl v =>
   have:=FD v h1
   dsimp only
   rw[al,aO this]
  | inr _ =>
   have hnr:=yV (by omega) h1
   dsimp only
   rw[al,aH (by omega),al,CB n hn (by omega),al]
   cases h2:cY (fg l) (.inr ()) l.length 0 with
   | inl v=>rfl
   | inr _ =>
    have hst:=yc (by omega) h2
    dsimp only
    rw[al]
    dsimp only
    rw[al,DQ n hnr hn (by omega),al]
    cases h3:cY (fJ l) (.inr ()) l.length 0 with
    | inl v=>rfl
    | inr _ =>
     dsimp only
     rw[al]
     dsimp only
     rw[al,Db n hnr hst hn (by omega) (by omega),al]
     cases h4:cY (fO l) (.inr ()) l.length 0<;>rfl
def mh (l:List I2):Prop:=(lY l).1≤0
open Classical in
theorem Jf (hn:l.length<n) (h5:41<n):Hj n l=some (if mh l then 0 else 140):=by
 unfold Hj mh;rw[JG n hn h5,al];obtain⟨a,b⟩:=lY l
 dsimp only
 by_cases h:0<a
 ·rw[aO h,if_neg (by omega)]
 ·rw[aH h,if_pos (by omega)]
open Classical in
theorem qM (h64:∀x ∈ l,nL x.1∧nL x.2) (hn:l.length<n) (h5:41<n):FK n l=some (if mh l then 0 else 140):=by
 unfold FK mh;rw[JJ n h64 hn h5,al];obtain⟨a,b⟩:=lY l
 dsimp only
 by_cases h:0<a
 ·rw[aO h,if_neg (by omega)]
 ·rw[aH h,if_pos (by omega)]
end
def AM (a b:List I2) (i:Nat):Option (Unit ⊕ Unit):=if nx a i≠nx b i then some (.inl ()) else none
theorem Du {a b:List I2} (h:a.length=b.length):cY (AM a b) (.inr ()) a.length 0=if a=b then .inr () else .inl ():=by
 rcases fe (f:=AM a b) (e:=.inr ()) a.length 0 with⟨h1,h2⟩|⟨j,_,h2,h3⟩
 ·rw[h2,if_pos];refine List.ext_getElem h fun i h3 h4=>?_;have:=h1 i (by omega) (by omega)
  unfold AM at this
  split at this
  ·cases this
  ·rename_i g;have g:nx a i=nx b i:=Decidable.not_not.1 g;unfold nx at g;rw[Nat.mod_eq_of_lt h3,Nat.mod_eq_of_lt h4,List.getD_eq_getElem?_getD,List.getD_eq_getElem?_getD,List.getElem?_eq_getElem h3,List.getElem?_eq_getElem h4] at g;exact g
 ·have h4:AM a b j=if nx a j≠nx b j then some (.inl ()) else none:=rfl
  rw[h4] at h3
  split at h3
  ·rename_i g;rw[←Option.some.inj h3,if_neg];rintro rfl;exact g rfl
  ·cases h3
theorem Jm (n:Nat) {a b:List I2} (hn:a.length<n) (hl:a.length<100000):H3 n a b=some (decide (a=b)):=by
 unfold H3
 by_cases h:a.length=b.length
 ·rw[decide_eq_true (show(a.length:Int)=b.length by omega),Bool.not_true,cr]
  have:cq (wu n a b) n 0=some (cY (AM a b) (.inr ()) a.length 0):=by
   refine dZ (len:=a.length) (fun i hi=>?_) ?_ a.length 0 n (by omega) hn
   ·unfold wu AM
    dsimp only
    rw[aO (by omega),aI hi,aW,dJ hi,al]
    dsimp only
    rw[aI (h ▸ hi),aW,dJ (h ▸ hi),al]
    dsimp only
    rw[jE,aS (by omega)]
    by_cases g:nx a i=nx b i
    ·rw[decide_eq_true g,Bool.not_true,cr,if_neg (by simpa using g)]
    ·rw[decide_eq_false g,Bool.not_false,gS,if_pos g]
   ·unfold wu
    dsimp only
    rw[aH (by omega)]
  rw[this,al,Du h]
  by_cases g:a=b
  ·rw[if_pos g,decide_eq_true g]
  ·rw[if_neg g,decide_eq_false g]
 ·rw[decide_eq_false (show ¬(a.length:Int)=b.length by omega),Bool.not_false,gS,decide_eq_false]
  rintro rfl;exact h rfl
end Go.Proofs.YthmekkhpddehjaaGreat
end

section
namespace Jd
def sw (a:I2):I2:=(a.2,a.1)
theorem BT (a b p:I2):ti (sw a) (sw b) (sw p) = -ti a b p:=by unfold ti sw; grind
theorem Ks (a b p:I2):di (sw a) (sw b) (sw p)=di a b p:=by unfold di sw; grind
def qd (p v:I2):Int:=if p.1<v.1∧p.2<v.2 then 1 else 0
theorem lZ (a b p:I2):wi b a p = -wi a b p:=by
 have h:=gh a b p;unfold wi
 by_cases h1:a.2≤p.2∧p.2<b.2∧0<ti a b p
 ·rw[if_pos h1,if_neg (by omega),if_pos (by omega)]
 ·by_cases h2:b.2≤p.2∧p.2<a.2∧ti a b p<0
  ·rw[if_neg h1,if_pos h2,if_pos (by omega)]; rfl
  ·rw[if_neg h1,if_neg h2,if_neg (by omega),if_neg (by omega)]; rfl
theorem Jo (a b p:I2):ti a b p=(b.1-p.1)*(p.2-a.2)+(p.1-a.1)*(p.2-b.2):=by unfold ti; grind
theorem Gy {a b p:I2} (h:¬dD a b p):wi a b p+wi (sw a) (sw b) (sw p)=qd p b-qd p a:=by
 have key:∀{a b:I2},¬dD a b p→(a.2≤p.2∨p.2<b.2)→(a.2≤p.2→b.2≤p.2→a.1≤p.1∨p.1<b.1)→(p.2<a.2→p.2<b.2→a.1≤p.1∨p.1<b.1)→wi a b p+wi (sw a) (sw b) (sw p)=qd p b-qd p a:=by
  intro a b h hu hr1 hr2;have hm:=Jo a b p;have hs:=BT a b p;have h0:(a.2≤p.2∧p.2<b.2)→ti a b p≠0:=fun g e=>h (AY (.inl g) e);have nn:∀{x y:Int},0≤x→0≤y→0≤x*y:=Int.mul_nonneg;have pp:∀{x y:Int},0<x→0<y→0<x*y:=Int.mul_pos;unfold wi qd;rw[hs]
  show(if a.2≤p.2∧p.2<b.2∧0<ti a b p then(1:Int) else if b.2≤p.2∧p.2<a.2∧ti a b p<0 then -1 else 0)+(if a.1≤p.1∧p.1<b.1∧0 < -ti a b p then(1:Int) else if b.1≤p.1∧p.1<a.1∧-ti a b p<0 then -1 else 0)=_
  by_cases ua:a.2≤p.2
  ·by_cases ub:b.2≤p.2
   ·
    have:¬(a.1≤p.1∧p.1<b.1∧0 < -ti a b p):=fun g=>by
     have m1:=nn (show 0≤b.1-p.1 by omega) (show 0≤p.2-a.2 by omega)
     have m2:=nn (show 0≤p.1-a.1 by omega) (show 0≤p.2-b.2 by omega)
     omega
    rw[if_neg (by omega),if_neg (by omega),if_neg this,if_neg (by have:=hr1 ua ub; omega),if_neg (by omega),if_neg (by omega)]; rfl
   ·have hne:=h0 ⟨ua,by omega⟩
    rw[if_neg (show ¬(p.1<a.1∧p.2<a.2) by omega)]
    by_cases ra:a.1≤p.1
    ·by_cases rb:b.1≤p.1
     ·
      have:¬(0<ti a b p):=fun g=>by
       have m1:=nn (show 0≤p.1-b.1 by omega) (show 0≤p.2-a.2 by omega)
       have m2:=nn (show 0≤p.1-a.1 by omega) (show 0≤b.2-p.2 by omega)
       have e1:(b.1-p.1)*(p.2-a.2) = -((p.1-b.1)*(p.2-a.2)):=by grind
       have e2:(p.1-a.1)*(p.2-b.2) = -((p.1-a.1)*(b.2-p.2)):=by grind
       omega
      rw[if_neg (by omega),if_neg (by omega),if_neg (by omega),if_neg (by omega),if_neg (by omega)]; rfl
     ·rw[if_pos (show p.1<b.1∧p.2<b.2 by omega)]
      by_cases g:0<ti a b p
      ·rw[if_pos ⟨ua,by omega,g⟩,if_neg (by omega),if_neg (by omega)]; rfl
      ·rw[if_neg (by omega),if_neg (by omega),if_pos (by omega)]; rfl
    ·by_cases rb:b.1≤p.1
     ·rw[if_neg (show ¬(p.1<b.1∧p.2<b.2) by omega)]
      by_cases g:0<ti a b p
      ·rw[if_pos ⟨ua,by omega,g⟩,if_neg (by omega),if_pos (by omega)]; rfl
      ·rw[if_neg (by omega),if_neg (by omega),if_neg (by omega),if_neg (by omega)]; rfl
     ·
      have:0<ti a b p:=by
       have m1:=nn (show 0≤b.1-p.1 by omega) (show 0≤p.2-a.2 by omega)
       have m2:=pp (show 0<a.1-p.1 by omega) (show 0<b.2-p.2 by omega)
       have e2:(p.1-a.1)*(p.2-b.2)=(a.1-p.1)*(b.2-p.2):=by grind
       omega
      rw[if_pos ⟨ua,by omega,this⟩,if_neg (by omega),if_neg (by omega),if_pos (by omega)]; rfl
  ·have ub:p.2<b.2:=by omega
   have hr:=hr2 (by omega) ub
   rw[if_neg (by omega),if_neg (by omega)]
   by_cases ra:a.1≤p.1
   ·rw[if_neg (show ¬(p.1<a.1∧p.2<a.2) by omega)]
    by_cases rb:b.1≤p.1
    ·rw[if_neg (by omega),if_neg (by omega),if_neg (by omega)]; rfl
    ·have:ti a b p<0:=by
      have m1:=pp (show 0<b.1-p.1 by omega) (show 0<a.2-p.2 by omega)
      have m2:=nn (show 0≤p.1-a.1 by omega) (show 0≤b.2-p.2 by omega)
      have e1:(b.1-p.1)*(p.2-a.2) = -((b.1-p.1)*(a.2-p.2)):=by grind
      have e2:(p.1-a.1)*(p.2-b.2) = -((p.1-a.1)*(b.2-p.2)):=by grind
      omega
     rw[if_pos (by omega),if_pos (by omega)]; rfl
   ·rw[if_neg (by omega),if_neg (by omega),if_pos (by omega),if_pos (by omega)]; rfl
 by_cases c1:a.2≤p.2∧p.2<b.2
 ·exact key h (.inl c1.1) (fun _ g=>by omega) (fun g _=>by omega)
 ·by_cases c2:b.2≤p.2∧p.2<a.2
  ·have:=key (a:=b) (b:=a) (fun g=>h g.swap) (.inl c2.1) (fun _ g=>by omega) (fun g _=>by omega)
   rw[lZ a b p,lZ (sw a) (sw b) (sw p)] at this;omega
  ·by_cases c3:a.1≤p.1∨p.1<b.1
   ·exact key h (by omega) (fun _ _=>c3) (fun _ _=>c3)
   ·have:=key (a:=b) (b:=a) (fun g=>h g.swap) (by omega) (fun _ _=>by omega) (fun _ _=>by omega)
    rw[lZ a b p,lZ (sw a) (sw b) (sw p)] at this;omega
theorem bz (f:I2→I2) {r:List I2} (h:r≠[]) (i:Nat):nx (r.map f) i=f (nx r i):=by
 have hl:=List.length_pos_iff.2 h;unfold nx;rw[List.length_map];have hi:i%r.length<r.length:=Nat.mod_lt _ hl;rw[List.getD_eq_getElem?_getD,List.getD_eq_getElem?_getD,List.getElem?_map,List.getElem?_eq_getElem hi]; rfl
theorem Ea {r:List I2}:nx r r.length=nx r 0:=by unfold nx; rw[Nat.mod_self,Nat.zero_mod]
theorem GJ {r:List I2} (h:r≠[]) {p:I2} (hp:∀i,i<r.length→¬dD (nx r i) (nx r (i+1)) p):jq (r.map sw) (sw p) = -jq r p:=by
 have e:jq (r.map sw) (sw p)=bT r.length fun i=>wi (sw (nx r i)) (sw (nx r (i+1))) (sw p):=by
  unfold jq;rw[List.length_map];exact cg fun i _=>by rw[bz sw h,bz sw h]
 have t:=qy r.length fun i=>qd p (nx r i);rw[Ea] at t;have s:bT r.length (fun i=>wi (nx r i) (nx r (i+1)) p-(-wi (sw (nx r i)) (sw (nx r (i+1))) (sw p)))=0:=by
  rw[cg (g:=fun i=>qd p (nx r (i+1))-qd p (nx r i)) fun i hi=>by have:=Gy (hp i hi); omega,t]; omega
 rw[wT] at s;have n:bT r.length (fun i=>-wi (sw (nx r i)) (sw (nx r (i+1))) (sw p)) = -bT r.length fun i=>wi (sw (nx r i)) (sw (nx r (i+1))) (sw p):=by
  have:=wT r.length (fun _=>0) fun i=>wi (sw (nx r i)) (sw (nx r (i+1))) (sw p);rw[AB (f:=fun _=>0) fun _ _=>rfl] at this;rw[cg (g:=fun i=>(0:Int)-wi (sw (nx r i)) (sw (nx r (i+1))) (sw p)) fun i _=>by omega,this]; omega
 rw[n] at s;rw[e];unfold jq;omega
def jl (r:List I2):Int:=bT r.length fun i=>(nx r i).1*(nx r (i+1)).2-(nx r i).2*(nx r (i+1)).1
theorem wP (n:Nat) (f g:Nat→Int):bT n (fun i=>f i+g i)=bT n f+bT n g:=by
 induction n with
 | zero=>rfl
 | succ n ih=>simp only[bT]; rw[ih]; omega
theorem iw (c:Int) (n:Nat) (f:Nat→Int):bT n (fun i=>c*f i)=c*bT n f:=by
 induction n with
 | zero=>simp[bT]
 | succ n ih=>simp only[bT]; rw[ih,Int.mul_add]
theorem su (n:Nat) (f:Nat→Int):bT (n+1) f=f 0+bT n fun i=>f (i+1):=by
 induction n with
 | zero=>simp[bT]
 | succ n ih=>rw[bT,ih]; simp only[bT]; omega
theorem D7 (n:Nat) (f:Nat→Int):bT n (fun i=>f (n-1-i))=bT n f:=by
 induction n generalizing f with
 | zero=>rfl
 | succ n ih =>
  rw[su];simp only[bT];have:bT n (fun i=>f (n+1-1-(i+1)))=bT n f:=by
   rw[←ih f];exact cg fun i _=>by congr 1; omega
  rw[this,show n+1-1-0=n by omega]; omega
theorem vo (r:List I2) (o:I2):bT r.length (fun i=>((nx r i).1-o.1)*((nx r (i+1)).2-o.2)-((nx r i).2-o.2)*((nx r (i+1)).1-o.1))=jl r:=by
 have t1:=qy r.length fun i=>(nx r i).1;have t2:=qy r.length fun i=>(nx r i).2;rw[Ea] at t1 t2;have e:bT r.length (fun i=>((nx r i).1-o.1)*((nx r (i+1)).2-o.2)-((nx r i).2-o.2)*((nx r (i+1)).1-o.1)) =
   bT r.length (fun i=>((nx r i).1*(nx r (i+1)).2-(nx r i).2*(nx r (i+1)).1)+(o.2*((nx r (i+1)).1-(nx r i).1) + -o.1*((nx r (i+1)).2-(nx r i).2))) :=
  cg fun i _=>by grind
 rw[e,wP,wP,iw,iw,t1,t2];unfold jl
 grind
structure Chg (f:I2→I2) (k d:Int):Prop where
 inj:∀{a b},f a=f b→a=b
 ti:∀a b c,ti (f a) (f b) (f c)=k*ti a b c
 di:∀a b c,di (f a) (f b) (f c)=d*di a b c
 kp:k≠0
 dp:0<d
 btw:∀{a b c},dD (f a) (f b) (f c)↔dD a b c
theorem jY {k x:Int} (h:0<k):0<k*x↔0<x:=⟨fun g=>Int.pos_of_mul_pos_right g h,fun g=>Int.mul_pos h g⟩
theorem gr {k x:Int} (h:0<k):k*x<0↔x<0:=by
 have:=jY (x:=-x) h;rw[Int.mul_neg] at this;omega
section
variable {f : I2 → I2} {k d : Int}
theorem Chg.Gi (h:Chg f k d) {a b c d x:I2}:ig (f a) (f b) (f c) (f d) (f x)↔ig a b c d x:=by
 unfold ig;rw[h.btw,h.btw];constructor
 ·rintro⟨g,e⟩;exact⟨by rcases g with g|g|g|g<;>simp[h.inj g],e⟩
 ·rintro⟨g,e⟩;exact⟨by rcases g with g|g|g|g<;>simp[g],e⟩
theorem Chg.o5 (h:Chg f k d) {a b c d:I2}:rZ (f a) (f b) (f c) (f d)↔rZ a b c d:=by
 unfold rZ;rw[h.ti,h.ti,h.ti,h.ti];rcases Int.lt_or_gt_of_ne h.kp with g|g
 ·have e:∀x,k*x = -((-k)*x):=fun x=>by rw[Int.neg_mul]; omega
  have p:∀{x},0<k*x↔x<0:=fun {x}=>by rw[e]; have:=gr (k:=-k) (x:=x) (by omega); omega
  have n:∀{x},k*x<0↔0<x:=fun {x}=>by rw[e]; have:=jY (k:=-k) (x:=x) (by omega); omega
  rw[p,p,p,p,n,n,n,n]; omega
 ·rw[jY g,jY g,jY g,jY g,gr g,gr g,gr g,gr g]
theorem D8 {a b c d:I2}:NM a b c d↔(∀x,¬ig a b c d x)∧¬rZ a b c d:=Iff.rfl
theorem Chg.nm (h:Chg f k d) {a b c d:I2}:NM (f a) (f b) (f c) (f d)↔NM a b c d:=by
 rw[D8,D8,h.o5];refine and_congr_left fun _=>⟨fun g x hx=>g (f x) (h.Gi.2 hx),fun g x hx=>?_⟩;have:∃y,x=f y:=by
  rcases hx.1 with e|e|e|e<;>exact⟨_,e⟩
 obtain⟨y,rfl⟩:=this;exact g y (h.Gi.1 hx)
theorem Chg.vr (h:Chg f k d) {r:List I2} (v:VR r):VR (r.map f):=by
 have hr:r≠[]:=fun e=>by have:=v.n3; rw[e] at this; simp at this
 refine⟨by rw[List.length_map]; exact v.n3,fun i=>?_,fun i=>?_,fun j i h1 h2 h3=>?_⟩
 ·rw[bz f hr,bz f hr];exact fun e=>v.still i (h.inj e)
 ·rw[bz f hr,bz f hr,bz f hr,h.ti,h.di];rintro⟨e1,e2⟩;refine v.rE i ⟨?_,(gr h.dp).1 e2⟩;rcases Int.mul_eq_zero.1 e1 with e|e
  ·exact absurd e h.kp
  ·exact e
 ·rw[List.length_map] at h2 h3;rw[bz f hr,bz f hr,bz f hr,bz f hr,h.nm];exact v.meet j i h1 h2 h3
end
def fK (v:I2) (a:I2):I2:=(a.1+v.1,a.2+v.2)
theorem qb (v a b c:I2):ti (fK v a) (fK v b) (fK v c)=ti a b c:=by unfold ti fK; grind
theorem tQ {v a b c:I2}:dD (fK v a) (fK v b) (fK v c)↔dD a b c:=by
 unfold dD;rw[qb];unfold fK
 dsimp only
 omega
theorem Az (v:I2):Chg (fK v) 1 1:=by
 refine⟨fun {a b} h=>?_,fun a b c=>by rw[qb]; omega,fun a b c=>by unfold di fK; grind,by decide,by decide,tQ⟩
 have h1:=congrArg Prod.fst h;have h2:=congrArg Prod.snd h;unfold fK at h1 h2;exact Prod.ext (by dsimp only at h1; omega) (by dsimp only at h2; omega)
theorem y8 {a b c:I2}:dD (sw a) (sw b) (sw c)↔dD a b c:=by
 unfold dD;rw[BT];unfold sw
 dsimp only
 omega
theorem Jn:Chg sw (-1) 1:=by
 refine⟨fun {a b} h=>?_,fun a b c=>by rw[BT]; omega,fun a b c=>by rw[Ks]; omega,by decide,by decide,y8⟩
 have h1:=congrArg Prod.fst h;have h2:=congrArg Prod.snd h;exact Prod.ext h2 h1
def oj (s:Int) (a:I2):I2:=(a.1*s,a.2*s)
theorem Cj (s:Int) (a b c:I2):ti (oj s a) (oj s b) (oj s c)=s*s*ti a b c:=by unfold ti oj; grind
theorem mw {s x y:Int} (hs:0<s):x*s≤y*s↔x≤y:=⟨fun h=>Int.le_of_mul_le_mul_right h hs,fun h=>Int.mul_le_mul_of_nonneg_right h (Int.le_of_lt hs)⟩
theorem FI {s:Int} (hs:0<s) {a b c:I2}:dD (oj s a) (oj s b) (oj s c)↔dD a b c:=by
 have hss:s*s≠0:=by have:=Int.mul_pos hs hs; omega
 have m1:∀x y z:Int,min (x*s) (y*s)≤z*s↔min x y≤z:=fun x y z=>by
  have h1:=mw (x:=x) (y:=z) hs;have h2:=mw (x:=y) (y:=z) hs;omega
 have m2:∀x y z:Int,z*s≤max (x*s) (y*s)↔z≤max x y:=fun x y z=>by
  have h1:=mw (x:=z) (y:=x) hs;have h2:=mw (x:=z) (y:=y) hs;omega
 unfold dD;rw[Cj];unfold oj
 dsimp only
 rw[m1,m2,m1,m2];refine and_congr_left fun _=>⟨fun h=>?_,fun h=>by rw[h,Int.mul_zero]⟩
 rcases Int.mul_eq_zero.1 h with e|e
 ·exact absurd e hss
 ·exact e
theorem Fu {s:Int} (hs:0<s):Chg (oj s) (s*s) (s*s):=by
 have hss:=Int.mul_pos hs hs;refine⟨fun {a b} h=>?_,Cj s,fun a b c=>by unfold di oj; grind,by omega,hss,FI hs⟩
 have h1:=congrArg Prod.fst h;have h2:=congrArg Prod.snd h;exact Prod.ext (Int.eq_of_mul_eq_mul_right (by omega) h1) (Int.eq_of_mul_eq_mul_right (by omega) h2)
theorem Ir (v a b p:I2):wi (fK v a) (fK v b) (fK v p)=wi a b p:=by
 unfold wi;rw[qb];unfold fK
 dsimp only
 by_cases h1:a.2≤p.2∧p.2<b.2∧0<ti a b p
 ·rw[if_pos h1,if_pos (by omega)]
 ·rw[if_neg h1,if_neg (by omega)]
  by_cases h2:b.2≤p.2∧p.2<a.2∧ti a b p<0
  ·rw[if_pos h2,if_pos (by omega)]
  ·rw[if_neg h2,if_neg (by omega)]
theorem Ee {r:List I2} (h:r≠[]) (v p:I2):jq (r.map (fK v)) (fK v p)=jq r p:=by
 unfold jq;rw[List.length_map];exact cg fun i _=>by rw[bz _ h,bz _ h,Ir]
theorem Aw {r:List I2} (h:r≠[]) (v:I2):jl (r.map (fK v))=jl r:=by
 rw[←vo (r.map (fK v)) v];unfold jl;rw[List.length_map];refine cg fun i _=>?_;rw[bz _ h,bz _ h];unfold fK
 dsimp only
 rw[Int.add_sub_cancel,Int.add_sub_cancel,Int.add_sub_cancel,Int.add_sub_cancel]
theorem HX {r:List I2} (h:r≠[]):jl (r.map sw) = -jl r:=by
 have e:jl (r.map sw)=bT r.length fun i=>-1*((nx r i).1*(nx r (i+1)).2-(nx r i).2*(nx r (i+1)).1):=by
  unfold jl;rw[List.length_map];refine cg fun i _=>?_;rw[bz _ h,bz _ h];unfold sw
  dsimp only
  grind
 rw[e,iw];unfold jl;omega
def rv:List I2→List I2
 | []=>[]
 | a::l=>a::l.reverse
theorem gC (r:List I2):(rv r).length=r.length:=by cases r<;>simp[rv]
theorem nA (r:List I2) {i j:Nat} (h:i%r.length=j%r.length):nx r i=nx r j:=by unfold nx; rw[h]
theorem ji {r:List I2} {i t:Nat} (h:(t+i)%r.length=0):nx (rv r) i=nx r t:=by
 match r with
 | []=>rfl
 | a::l =>
  unfold nx;rw[gC];have hn:0<(a::l).length:=by simp
  generalize hN:(a::l).length=N at *;have h1:i%N<N:=Nat.mod_lt _ hn;have h2:t%N<N:=Nat.mod_lt _ hn;have h3:(t%N+i%N)%N=0:=by rw[←Nat.add_mod]; exact h
  have hl:l.length+1=N:=by rw[←hN]; simp
  rcases Nat.eq_zero_or_pos (i%N) with e|e
  ·have e2:t%N=0:=by rw[e,Nat.add_zero,Nat.mod_eq_of_lt h2] at h3; exact h3
   rw[e,e2]; rfl
  ·have e2:t%N+i%N=N:=by
    rcases Nat.lt_or_ge (t%N+i%N) N with g|g
    ·rw[Nat.mod_eq_of_lt g] at h3; omega
    ·rw[Nat.mod_eq_sub_mod g,Nat.mod_eq_of_lt (by omega)] at h3; omega
   obtain⟨x,hx⟩:∃x,i%N=x+1:=⟨i%N-1,by omega⟩
   obtain⟨y,hy⟩:∃y,t%N=y+1:=⟨t%N-1,by omega⟩
   rw[hx,hy]
   show(a::l.reverse).getD (x+1) (0,0)=(a::l).getD (y+1) (0,0)
   simp only[List.getD_eq_getElem?_getD,List.getElem?_cons_succ];rw[List.getElem?_reverse (by omega)]
   congr 2
   omega
theorem Jk {a b c d:I2}:NM b a d c↔NM c d a b:=by
 rw[←um,←um,vN,tq,vN,tq (a:=a) (b:=b)]
theorem VR.rv {r:List I2} (v:VR r):VR (rv r):=by
 have hn:=v.n3;refine⟨by rw[gC]; exact hn,fun i=>?_,fun i=>?_,fun j i h1 h2 h3=>?_⟩
 ·have e:((r.length-1)*(i+1)+(i+1))%r.length=0:=by
   rw[show(r.length-1)*(i+1)+(i+1)=r.length*(i+1) by
    obtain⟨m,hm⟩:∃m,r.length=m+1:=⟨r.length-1,by omega⟩
    rw[hm,Nat.add_sub_cancel,Nat.add_mul,Nat.one_mul],Nat.mul_mod_right]
  rw[ji (i:=i+1) e,ji (i:=i) (t:=(r.length-1)*(i+1)+1) (by rw[show(r.length-1)*(i+1)+1+i=(r.length-1)*(i+1)+(i+1) by omega]; exact e)]
  exact fun g=>v.still _ g.symm
 ·have e:((r.length-1)*(i+2)+(i+2))%r.length=0:=by
   rw[show(r.length-1)*(i+2)+(i+2)=r.length*(i+2) by
    obtain⟨m,hm⟩:∃m,r.length=m+1:=⟨r.length-1,by omega⟩
    rw[hm,Nat.add_sub_cancel,Nat.add_mul,Nat.one_mul],Nat.mul_mod_right]
  generalize (r.length-1)*(i+2)=m at e;rw[ji (i:=i+2) e,ji (i:=i+1) (t:=m+1) (by rw[show m+1+(i+1)=m+(i+2) by omega]; exact e),ji (i:=i) (t:=m+2) (by rw[show m+2+i=m+(i+2) by omega]; exact e)]
  rintro⟨g1,g2⟩;refine v.rE m ⟨?_,?_⟩
  ·have:ti (nx r (m+2)) (nx r (m+1)) (nx r m) = -ti (nx r m) (nx r (m+1)) (nx r (m+2)):=by unfold Jd.ti; grind
   omega
  ·have:di (nx r (m+2)) (nx r (m+1)) (nx r m)=di (nx r m) (nx r (m+1)) (nx r (m+2)):=by unfold Jd.di; grind
   omega
 ·rw[gC] at h2 h3;have g:∀k,k≤r.length→nx (Jd.rv r) k=nx r (r.length-k):=fun k hk=>ji (by rw[show r.length-k+k=r.length by omega,Nat.mod_self])
  rw[g j (by omega),g (j+1) (by omega),g i (by omega),g (i+1) (by omega)]
  have:=v.meet (r.length-1-i) (r.length-1-j) (by omega) (by omega) (by omega)
  rw[show r.length-1-i+1=r.length-i by omega,show r.length-1-j+1=r.length-j by omega] at this
  rw[show r.length-(j+1)=r.length-1-j by omega,show r.length-(i+1)=r.length-1-i by omega]
  exact Jk.2 this
theorem qa {r:List I2} (F:I2→I2→Int):bT r.length (fun i=>F (nx (rv r) i) (nx (rv r) (i+1)))=bT r.length fun i=>F (nx r (i+1)) (nx r i):=by
 rw[←D7 r.length fun i=>F (nx r (i+1)) (nx r i)];refine cg fun i hi=>?_;have g:∀k,k≤r.length→nx (rv r) k=nx r (r.length-k):=fun k hk=>ji (by rw[show r.length-k+k=r.length by omega,Nat.mod_self])
 rw[g i (by omega),g (i+1) (by omega),show r.length-(i+1)=r.length-1-i by omega,show r.length-1-i+1=r.length-i by omega]
theorem ET (r:List I2) (p:I2):jq (rv r) p = -jq r p:=by
 unfold jq;rw[gC,qa fun a b=>wi a b p,cg (g:=fun i=>-1*wi (nx r i) (nx r (i+1)) p) fun i _=>by rw[lZ]; omega,iw]
 omega
theorem D9 (r:List I2):jl (rv r) = -jl r:=by
 unfold jl;rw[gC,qa fun a b=>a.1*b.2-a.2*b.1,cg (g:=fun i=>-1*((nx r i).1*(nx r (i+1)).2-(nx r i).2*(nx r (i+1)).1)) fun i _=>by grind,iw]
 omega
theorem K7 (r:List I2):rv (rv r)=r:=by cases r<;>simp[rv]
def fa (α β γ:Int) (x:I2):Int:=α*x.1+β*x.2+γ
theorem Hz {α β γ:Int} {a b x:I2} (h:ti a b x=0):(b.1-a.1)*fa α β γ x=(b.1-x.1)*fa α β γ a+(x.1-a.1)*fa α β γ b:=by
 have e:(b.1-a.1)*fa α β γ x-((b.1-x.1)*fa α β γ a+(x.1-a.1)*fa α β γ b)=β*ti a b x:=by unfold fa ti; grind
 rw[h,Int.mul_zero] at e; omega
theorem HL {α β γ:Int} {a b x:I2} (h:ti a b x=0):(b.2-a.2)*fa α β γ x=(b.2-x.2)*fa α β γ a+(x.2-a.2)*fa α β γ b:=by
 have e:(b.2-a.2)*fa α β γ x-((b.2-x.2)*fa α β γ a+(x.2-a.2)*fa α β γ b) = -α*ti a b x:=by unfold fa ti; grind
 rw[h,Int.mul_zero] at e; omega
theorem oT {u v w s t z:Int} (hw:0<w) (hu:0≤u) (hv:0≤v) (e:u+v=w) (hs:0<s) (ht:0<t) (h:w*z=u*s+v*t):0<z:=by
 have h1:0≤u*s:=Int.mul_nonneg hu (Int.le_of_lt hs);have h2:0≤v*t:=Int.mul_nonneg hv (Int.le_of_lt ht);have:0<w*z:=by
  rcases Int.lt_or_eq_of_le hu with g|g
  ·have:=Int.mul_pos g hs; omega
  ·have:=Int.mul_pos (show 0<v by omega) ht; omega
 exact Int.pos_of_mul_pos_right this hw
theorem Al {α β γ:Int} {a b x:I2} (h:dD a b x) (ha:0<fa α β γ a) (hb:0<fa α β γ b):0<fa α β γ x:=by
 obtain⟨h0,h1,h2,h3,h4⟩:=h;rcases Int.lt_trichotomy a.1 b.1 with g|g|g
 ·exact oT (w:=b.1-a.1) (u:=b.1-x.1) (v:=x.1-a.1) (by omega) (by omega) (by omega) (by omega) ha hb (Hz h0)
 ·rcases Int.lt_trichotomy a.2 b.2 with k|k|k
  ·exact oT (w:=b.2-a.2) (u:=b.2-x.2) (v:=x.2-a.2) (by omega) (by omega) (by omega) (by omega) ha hb (HL h0)
  ·have:x=a:=Prod.ext (by omega) (by omega)
   rw[this]; exact ha
  ·refine oT (w:=a.2-b.2) (u:=a.2-x.2) (v:=x.2-b.2) (by omega) (by omega) (by omega) (by omega) hb ha (HL ?_)
   rw[gh,h0]; rfl
 ·refine oT (w:=a.1-b.1) (u:=a.1-x.1) (v:=x.1-b.1) (by omega) (by omega) (by omega) (by omega) hb ha (Hz ?_)
  rw[gh,h0]; rfl
theorem tV (α β γ:Int) (x:I2):fa (-α) (-β) (-γ) x = -fa α β γ x:=by unfold fa; grind
theorem qj {α β γ:Int} {a b c d:I2} (ha:0<fa α β γ a) (hb:0<fa α β γ b) (hc:fa α β γ c<0) (hd:fa α β γ d<0):NM a b c d:=by
 refine⟨fun x hx=>?_,fun hx=>?_⟩
 ·have h1:=Al hx.2.1 ha hb;have h2:=Al (α:=-α) (β:=-β) (γ:=-γ) hx.2.2 (by rw[tV]; omega) (by rw[tV]; omega)
  rw[tV] at h2; omega
 ·have e:ti c d b*fa α β γ a-ti c d a*fa α β γ b = -(ti a b d*fa α β γ c-ti a b c*fa α β γ d):=by unfold fa ti; grind
  have f:=FP a b c d;generalize fa α β γ a=la at *;generalize fa α β γ b=lb at *;generalize fa α β γ c=lc at *;generalize fa α β γ d=ld at *;generalize ti a b c=s at *;generalize ti a b d=t at *;generalize ti c d a=u at *;generalize ti c d b=v at *;have pp:∀{x y:Int},0<x→0<y→0<x*y:=fun h g=>Int.mul_pos h g;have pn:∀{x y:Int},0<x→y<0→x*y<0:=fun h g=>Int.mul_neg_of_pos_of_neg h g;have np:∀{x y:Int},x<0→0<y→x*y<0:=fun h g=>Int.mul_neg_of_neg_of_pos h g;have nn:∀{x y:Int},x<0→y<0→0<x*y:=fun h g=>Int.mul_pos_of_neg_of_neg h g;obtain⟨h1|h1,h2|h2⟩:=hx
  ·have:=np h2.2 hb; omega
  ·have a1:=pp h2.2 ha; have a2:=np h2.1 hb; have a3:=nn h1.2 hc; have a4:=pn h1.1 hd; omega
  ·have a1:=np h2.2 ha; have a2:=pp h2.1 hb; have a3:=pn h1.2 hc; have a4:=nn h1.1 hd; omega
  ·have:=h1.1; omega
def o5 (a b:I2):Int:=a.1*b.2-a.2*b.1
theorem ED {a b c:I2} (h1:0<o5 a b) (h2:0<o5 b c):¬(ti a b c=0∧di a b c<0):=by
 rintro⟨g1,g2⟩;have e:((b.1-a.1)*(b.1-a.1)+(b.2-a.2)*(b.2-a.2))*o5 b c=di a b c*o5 a b+ti a b c*(b.1*(b.1-a.1)+b.2*(b.2-a.2)):=by unfold o5 di ti; grind
 rw[g1,Int.zero_mul,Int.add_zero] at e;have n1:0≤((b.1-a.1)*(b.1-a.1)+(b.2-a.2)*(b.2-a.2))*o5 b c:=Int.mul_nonneg (Int.add_nonneg LD LD) (Int.le_of_lt h2);have n2:=Int.mul_neg_of_neg_of_pos g2 h1;omega
def wy (k:Nat):I2:=[(2,0),(2,1),(1,2),(0,2),(-1,2),(-2,1),(-2,0),(-2,-1),(-1,-2),(0,-2),(1,-2),(2,-1)].getD (k%12) (0,0)
def xM (m:Int) (a:I2):I2:=(a.1*m,a.2*m)
theorem oQ (α β m:Int) (a:I2):fa α β 0 (xM m a)=fa α β 0 a*m:=by unfold fa xM; grind
theorem F2 (m k:Int) (a b:I2):o5 (xM m a) (xM k b)=m*k*o5 a b:=by unfold o5 xM; grind
theorem DS (k:Nat):wy (k%12)=wy k:=by unfold wy; rw[Nat.mod_mod]
def LZ:List (Int × Int):=[(3,1),(1,3),(-1,3),(-3,1),(-3,-1),(-1,-3),(1,-3),(3,-1),(4,3),(3,4),(-3,4),(-4,3),(-4,-3),(-3,-4),(3,-4),(4,-3),(1,1),(-1,1),(-1,-1),(1,-1),(1,0),(0,1),(-1,0),(0,-1),(5,1),(1,5),(-1,5),(-5,1),(-5,-1),(-1,-5),(1,-5),(5,-1),(2,1),(1,2),(-1,2),(-2,1),(-2,-1),(-1,-2),(1,-2),(2,-1)]
def DX (a x y z:Nat):Bool:=LZ.any fun c=>decide (0<fa c.1 c.2 0 (wy a)) && decide (0<fa c.1 c.2 0 (wy (a+x))) && decide (fa c.1 c.2 0 (wy (a+y))<0) && decide (fa c.1 c.2 0 (wy (a+y+z))<0)
def Ds:Bool:=(List.range 12).all fun a=>(List.range 4).all fun x=>(List.range 12).all fun y=>(List.range 4).all fun z=>!(decide (0<x) && decide (x<y) && decide (0<z) && decide (y+z<12)) || DX a x y z
theorem CJ:Ds=true:=by decide +kernel
theorem Md (a:Nat) (ha:a<12) (x:Nat) (hx:x<4) (y:Nat) (hy:y<12) (z:Nat) (hz:z<4) (h1:0<x) (h2:x<y) (h3:0<z) (h4:y+z<12):DX a x y z=true:=by
 have h:=CJ;unfold Ds at h;have h:=List.all_eq_true.1 h a (List.mem_range.2 ha);have h:=List.all_eq_true.1 h x (List.mem_range.2 hx);have h:=List.all_eq_true.1 h y (List.mem_range.2 hy);have h:=List.all_eq_true.1 h z (List.mem_range.2 hz)
 simpa [h1,h2,h3,h4] using h
theorem IS:∀a<12,∀x<4,0<x→0<o5 (wy a) (wy (a+x)):=by decide +kernel
theorem uv (a x:Nat):wy (a%12+x)=wy (a+x):=by unfold wy; rw[Nat.mod_add_mod]
structure Star (r:List I2):Prop where
 n3:2<r.length
 dir:∃δ:Nat→Nat,(∀i,δ i < δ (i+1)∧δ (i+1)≤δ i+3)∧(∀i,δ (i+r.length)=δ i+12)∧∀i,∃m:Int,0<m∧nx r i=xM m (wy (δ i))
theorem Star.left {r:List I2} (h:Star r) (i:Nat):0<o5 (nx r i) (nx r (i+1)):=by
 obtain⟨δ,h1,_,h3⟩:=h.dir;obtain⟨m,m0,e1⟩:=h3 i;obtain⟨k,k0,e2⟩:=h3 (i+1);have hd:=h1 i;rw[e1,e2,F2];have:=IS (δ i%12) (Nat.mod_lt _ (by decide)) (δ (i+1)-δ i) (by omega) (by omega)
 rw[DS,uv,show δ i+(δ (i+1)-δ i)=δ (i+1) by omega] at this
 exact Int.mul_pos (Int.mul_pos m0 k0) this
theorem Star.vr {r:List I2} (h:Star r):VR r:=by
 refine⟨h.n3,fun i e=>?_,fun i=>ED (h.left i) (h.left (i+1)),fun j i h1 h2 h3=>?_⟩
 ·have:=h.left i;rw[e] at this;unfold o5 at this;rw[Int.mul_comm,Int.sub_self] at this;exact absurd this (by decide)
 ·obtain⟨δ,d1,d2,d3⟩:=h.dir;have mono:∀a b,a≤b→δ a≤δ b:=fun a b hab=>by
   induction b with
   | zero=>rw[Nat.le_zero.1 hab]; exact Nat.le_refl _
   | succ b ih =>
    rcases Nat.lt_or_ge a (b+1) with g|g
    ·have:=ih (by omega); have:=d1 b; omega
    ·rw[show a=b+1 by omega]; exact Nat.le_refl _
  have g1:=d1 j;have g2:=d1 i;have g3:δ (j+1) < δ i:=by have:=mono (j+1+1) i (by omega); have:=d1 (j+1); omega
  have g4:δ (i+1) < δ j+12:=by
   by_cases hj:j=0
   ·have:=mono (i+1) (r.length-1) (by omega)
    have h5:=d1 (r.length-1);rw[show r.length-1+1=0+r.length by omega,d2] at h5
    subst hj; omega
   ·have:=mono (i+1) (0+r.length) (by omega)
    rw[d2] at this;have h6:=mono 1 j (by omega)
    have h7:=(d1 0).1;rw[Nat.zero_add] at h7;omega
  have ck:=Md (δ j%12) (Nat.mod_lt _ (by decide)) (δ (j+1)-δ j) (by omega) (δ i-δ j) (by omega) (δ (i+1)-δ i) (by omega) (by omega) (by omega) (by omega) (by omega)
  unfold DX at ck;obtain⟨c,_,hc⟩:=List.any_eq_true.1 ck;simp only[Bool.and_eq_true,decide_eq_true_eq] at hc;obtain⟨⟨⟨c1,c2⟩,c3⟩,c4⟩:=hc;rw[DS] at c1;rw[uv,show δ j+(δ (j+1)-δ j)=δ (j+1) by omega] at c2
  rw[uv,show δ j+(δ i-δ j)=δ i by omega] at c3
  rw[Nat.add_assoc,uv,show δ j+(δ i-δ j+(δ (i+1)-δ i))=δ (i+1) by omega] at c4
  obtain⟨m1,p1,e1⟩:=d3 j;obtain⟨m2,p2,e2⟩:=d3 (j+1);obtain⟨m3,p3,e3⟩:=d3 i;obtain⟨m4,p4,e4⟩:=d3 (i+1);rw[e1,e2,e3,e4];exact qj (α:=c.1) (β:=c.2) (γ:=0) (by rw[oQ]; exact Int.mul_pos c1 p1) (by rw[oQ]; exact Int.mul_pos c2 p2) (by rw[oQ]; exact Int.mul_neg_of_neg_of_pos c3 p3) (by rw[oQ]; exact Int.mul_neg_of_neg_of_pos c4 p4)
theorem B4 {n:Nat} {f:Nat→Int} (h:∀i,i<n→0<f i) (hn:0<n):0<bT n f:=by
 induction n with
 | zero=>exact absurd hn (Nat.lt_irrefl 0)
 | succ n ih =>
  simp only[bT];have h1:=h n (Nat.lt_succ_self n);rcases Nat.eq_zero_or_pos n with e|e
  ·subst e; simp only[bT]; omega
  ·have:=ih (fun i hi=>h i (by omega)) e; omega
theorem Star.jl {r:List I2} (h:Star r):0<jl r:=B4 (fun i _=>h.left i) (by have:=h.n3; omega)
def Ms (D:List Nat) (i:Nat):Nat:=if i+1<D.length then D.getD (i+1) 0 else D.getD 0 0+12
def Mt (D:List Nat):Bool:=decide (2<D.length) && (List.range D.length).all fun i=>decide (D.getD i 0<Ms D i) && decide (Ms D i≤D.getD i 0+3)
def EV (b1 b2 b4 b5 b7 b8 b10 b11:Bool):List Nat:=(List.range 12).filter fun i=>[true,b1,b2,true,b4,b5,true,b7,b8,true,b10,b11].getD i false
theorem E6:∀b1 b2 b4 b5 b7 b8 b10 b11:Bool,Mt (EV b1 b2 b4 b5 b7 b8 b10 b11)=true:=by decide +kernel
theorem Fk {p:Nat→Bool} (h0:p 0=true) (h3:p 3=true) (h6:p 6=true) (h9:p 9=true):(List.range 12).filter p=EV (p 1) (p 2) (p 4) (p 5) (p 7) (p 8) (p 10) (p 11):=by
 unfold EV;refine List.filter_congr fun i hi=>?_;have:=List.mem_range.1 hi
 match i,this with
 | 0,_=>exact h0
 | 1,_=>rfl
 | 2,_=>rfl
 | 3,_=>exact h3
 | 4,_=>rfl
 | 5,_=>rfl
 | 6,_=>exact h6
 | 7,_=>rfl
 | 8,_=>rfl
 | 9,_=>exact h9
 | 10,_=>rfl
 | 11,_=>rfl
theorem G8 {p:Nat→Bool} (h0:p 0=true) (h3:p 3=true) (h6:p 6=true) (h9:p 9=true) {m:Nat→Int} (hm:∀i,0<m i):Star (((List.range 12).filter p).map fun i=>xM (m i) (wy i)):=by
 rw[Fk h0 h3 h6 h9];have ck:=E6 (p 1) (p 2) (p 4) (p 5) (p 7) (p 8) (p 10) (p 11);generalize EV (p 1) (p 2) (p 4) (p 5) (p 7) (p 8) (p 10) (p 11)=D at *;unfold Mt at ck;simp only[Bool.and_eq_true,decide_eq_true_eq,List.all_eq_true,List.mem_range] at ck;obtain⟨hn,hc⟩:=ck;have hn0:0<D.length:=by omega
 refine⟨by rw[List.length_map]; exact hn,fun i=>D.getD (i%D.length) 0+12*(i/D.length),fun i=>?_,fun i=>?_,fun i=>?_⟩
 ·have hi:=Nat.mod_lt i hn0;have h:=hc _ hi;have hd:=Nat.div_add_mod i D.length;unfold Ms at h
  by_cases g:i%D.length+1<D.length
  ·have e1:(i+1)%D.length=i%D.length+1:=by
    rw[Nat.add_mod,Nat.mod_eq_of_lt (show 1<D.length by omega),Nat.mod_eq_of_lt g]
   have e2:(i+1)/D.length=i/D.length:=by
    have h5:=Nat.div_add_mod (i+1) D.length;rw[e1] at h5;have:D.length*((i+1)/D.length)=D.length*(i/D.length):=by omega
    exact Nat.eq_of_mul_eq_mul_left hn0 this
   rw[if_pos g] at h;simp only[e1,e2]; omega
  ·have hl:i%D.length+1=D.length:=by omega
   have e0:i+1=D.length*(i/D.length+1):=by rw[Nat.mul_add,Nat.mul_one]; omega
   have e1:(i+1)%D.length=0:=by rw[e0,Nat.mul_mod_right]
   have e2:(i+1)/D.length=i/D.length+1:=by rw[e0,Nat.mul_div_cancel_left _ hn0]
   rw[if_neg g] at h;simp only[e1,e2]; omega
 ·rw[List.length_map];simp only[Nat.add_mod_right,Nat.add_div_right _ hn0]; omega
 ·have hi:=Nat.mod_lt i hn0;refine⟨m (D.getD (i%D.length) 0),hm _,?_⟩;have hg:D.getD (i%D.length) 0=D[i%D.length]:=by rw[List.getD_eq_getElem?_getD,List.getElem?_eq_getElem hi]; rfl
  show nx (D.map fun i=>xM (m i) (wy i)) i=xM (m (D.getD (i%D.length) 0)) (wy (D.getD (i%D.length) 0+12*(i/D.length)))
  rw[hg];unfold nx;rw[List.length_map,List.getD_eq_getElem?_getD,List.getElem?_map,List.getElem?_eq_getElem hi]
  show xM (m D[i%D.length]) (wy D[i%D.length])=xM (m D[i%D.length]) (wy (D[i%D.length]+12*(i/D.length)))
  congr 1
  unfold wy;rw[Nat.add_mul_mod_self_left]
def oU:List I2→List (I2 × I2)
 | a::b::l=>(a,b)::oU (b::l)
 | _=>[]
def zX:List I2→Prop
 | a::b::l=>a≠b∧(∀c l',l=c::l'→¬(ti a b c=0∧di a b c<0))∧(∀e ∈ oU l,NM a b e.1 e.2)∧zX (b::l)
 | _=>True
theorem xF:∀(L:List I2) (i:Nat),i+1<L.length→(L.getD i (0,0),L.getD (i+1) (0,0)) ∈ oU L
 | [],_,h=>absurd h (by simp)
 | [_],_,h=>absurd h (by simp)
 | a::b::l,0,_=>by simp[oU]
 | a::b::l,i+1,h=>by
  have:=xF (b::l) i (by simpa using h)
  simp only[oU,List.mem_cons,List.getD_cons_succ] at *;exact .inr this
theorem zX.still:∀{L:List I2},zX L→∀i,i+1<L.length→L.getD i (0,0)≠L.getD (i+1) (0,0)
 | [],_,_,h=>absurd h (by simp)
 | [_],_,_,h=>absurd h (by simp)
 | _::_::_,ho,0,_=>ho.1
 | _::b::l,ho,i+1,h=>by simpa only[List.getD_cons_succ] using zX.still (L:=b::l) ho.2.2.2 i (by simpa using h)
theorem zX.rE:∀{L:List I2},zX L→∀i,i+2<L.length→¬(ti (L.getD i (0,0)) (L.getD (i+1) (0,0)) (L.getD (i+2) (0,0))=0∧di (L.getD i (0,0)) (L.getD (i+1) (0,0)) (L.getD (i+2) (0,0))<0)
 | [],_,_,h=>absurd h (by simp)
 | [_],_,_,h=>absurd h (by simp)
 | [_,_],_,_,h=>absurd h (by simp)
 | _::_::c::l,ho,0,_=>ho.2.1 c l rfl
 | _::b::c::l,ho,i+1,h=>by simpa only[List.getD_cons_succ] using zX.rE (L:=b::c::l) ho.2.2.2 i (by simpa using h)
theorem zX.meet:∀{L:List I2},zX L→∀j i,j+1<i→i+1<L.length→NM (L.getD j (0,0)) (L.getD (j+1) (0,0)) (L.getD i (0,0)) (L.getD (i+1) (0,0))
 | [],_,_,_,_,h=>absurd h (by simp)
 | [_],_,_,_,_,h=>absurd h (by simp)
 | _::_::l,ho,0,i+2,_,h=>by
  exact ho.2.2.1 _ (xF l i (by simp at h; omega))
 | _::b::l,ho,j+1,i+1,hj,h=>by simpa only[List.getD_cons_succ] using zX.meet (L:=b::l) ho.2.2.2 j i (by omega) (by simpa using h)
theorem K8 {a b:I2} {l:List I2} {z:I2} (hab:a≠b) (hl:l≠[]) (hz:l.getLast? = some z) (s1:∀c l',l=c::l'→¬(ti a b c=0∧di a b c<0)) (s2:¬(ti z a b=0∧di z a b<0)) (hm:∀e ∈ oU l,NM a b e.1 e.2) (ho:zX (b::l++[a])):VR (a::b::l):=by
 have hlen:0<l.length:=List.length_pos_iff.2 hl;have hn:(a::b::l).length=l.length+2:=by simp
 have hC:∀i,i<l.length+2→nx (a::b::l) (i+1)=(b::l++[a]).getD i (0,0):=fun i hi=>by
  unfold nx;rw[hn];rcases Nat.lt_or_ge (i+1) (l.length+2) with g|g
  ·rw[Nat.mod_eq_of_lt g,List.getD_cons_succ,List.cons_append,←List.cons_append];rw[List.getD_eq_getElem?_getD,List.getD_eq_getElem?_getD,List.getElem?_append_left (by simp; omega)]
  ·have:i=l.length+1:=by omega
   subst this;rw[show l.length+1+1=l.length+2 by omega,Nat.mod_self,List.getD_eq_getElem?_getD,List.getD_eq_getElem?_getD,List.getElem?_append_right (by simp)]
   simp
 have hL:(b::l++[a]).length=l.length+2:=by simp
 have h0:nx (a::b::l) 0=a:=by unfold nx; simp
 have red:∀i,∃k,k<l.length+2∧∀t,nx (a::b::l) (i+t)=nx (a::b::l) (k+t):=fun i =>
  ⟨i%(l.length+2),Nat.mod_lt _ (by omega),fun t=>nA _ (by rw[hn,Nat.mod_add_mod])⟩
 have hb:nx (a::b::l) 1=b:=by rw[hC 0 (by omega)]; rfl
 have hlast:nx (a::b::l) (l.length+1)=z:=by
  rw[hC l.length (by omega),List.getD_eq_getElem?_getD,List.getElem?_append_left (by simp)]
  have:(b::l)[l.length]? = l.getLast?:=by
   rw[List.getLast?_eq_getElem?,show l.length=(l.length-1)+1 by omega,List.getElem?_cons_succ]
   simp
  rw[this,hz]; rfl
 refine⟨by rw[hn]; omega,fun i=>?_,fun i=>?_,fun j i h1 h2 h3=>?_⟩
 ·obtain⟨k,hk,e⟩:=red i;rw[show nx (a::b::l) i=nx (a::b::l) (i+0) from rfl,e 0,e 1,Nat.add_zero]
  rcases Nat.eq_zero_or_pos k with g|g
  ·subst g; rw[h0,hb]; exact hab
  ·obtain⟨k,rfl⟩:∃k',k=k'+1:=⟨k-1,by omega⟩
   rw[hC k (by omega),hC (k+1) (by omega)]
   exact ho.still k (by rw[hL]; omega)
 ·obtain⟨k,hk,e⟩:=red i;rw[show nx (a::b::l) i=nx (a::b::l) (i+0) from rfl,e 0,e 1,e 2,Nat.add_zero]
  rcases Nat.eq_zero_or_pos k with g|g
  ·subst g;rw[h0,hb,show 0+2=1+1 from rfl,hC 1 (by omega)]
   match l,hl with
   | c::l',_=>exact s1 c l' rfl
  ·obtain⟨k,rfl⟩:∃k',k=k'+1:=⟨k-1,by omega⟩
   rw[hC k (by omega),hC (k+1) (by omega)]
   rcases Nat.lt_or_ge (k+2) (l.length+2) with g2|g2
   ·rw[show k+1+2=(k+2)+1 by omega,hC (k+2) g2]
    exact ho.rE k (by rw[hL]; omega)
   ·have:k=l.length:=by omega
    subst this;have e1:nx (a::b::l) (l.length+1+2)=b:=by
     refine(nA _ ?_).trans hb;rw[hn,show l.length+1+2=1+(l.length+2) by omega,Nat.add_mod_right]
    rw[e1,←hC l.length (by omega),←hC (l.length+1) (by omega),hlast]
    have e2:nx (a::b::l) (l.length+1+1)=a:=by
     refine(nA _ ?_).trans h0;rw[hn,show l.length+1+1=l.length+2 by omega,Nat.mod_self,Nat.zero_mod]
    rw[e2]; exact s2
 ·rw[hn] at h2 h3;obtain⟨i,rfl⟩:∃i',i=i'+1:=⟨i-1,by omega⟩
  rw[hC i (by omega),hC (i+1) (by omega)]
  rcases Nat.eq_zero_or_pos j with g|g
  ·subst g;rw[h0,hb];obtain⟨i,rfl⟩:∃i',i=i'+1:=⟨i-1,by omega⟩
   have hi:i+1<l.length:=by omega
   have e:∀k,k<l.length→(b::l++[a]).getD (k+1) (0,0)=l.getD k (0,0):=fun k hk=>by
    rw[List.cons_append,List.getD_cons_succ,List.getD_eq_getElem?_getD,List.getD_eq_getElem?_getD,List.getElem?_append_left hk]
   rw[e i (by omega),e (i+1) hi]
   exact hm _ (xF l i hi)
  ·obtain⟨j,rfl⟩:∃j',j=j'+1:=⟨j-1,by omega⟩
   rw[hC j (by omega),hC (j+1) (by omega)]
   exact ho.meet j i (by omega) (by rw[hL]; omega)
theorem Aj (F:I2→I2→Int):∀L:List I2,((oU L).map fun e=>F e.1 e.2).sum=bT (L.length-1) fun i=>F (L.getD i (0,0)) (L.getD (i+1) (0,0))
 | []=>rfl
 | [_]=>rfl
 | a::b::l=>by
  simp only[oU,List.map_cons,List.sum_cons];rw[Aj F (b::l)];have:(a::b::l).length-1=(b::l).length-1+1:=by simp
  rw[this,su]
  rfl
theorem FL (a b:I2) (l:List I2):jl (a::b::l)=o5 a b+((oU (b::l++[a])).map fun e=>o5 e.1 e.2).sum:=by
 have h:=Aj o5 (a::(b::l++[a]));simp only[List.cons_append,oU,List.map_cons,List.sum_cons] at h;rw[List.cons_append,h];unfold jl;have hn:(a::b::l).length=l.length+2:=by simp
 rw[hn,show(a::b::(l++[a])).length-1=l.length+2 by simp]
 refine cg fun i hi=>?_;have hC:∀i,i<l.length+3→nx (a::b::l) i=(a::b::(l++[a])).getD i (0,0):=fun i hi=>by
  unfold nx;rw[hn];rcases Nat.lt_or_ge i (l.length+2) with g|g
  ·rw[Nat.mod_eq_of_lt g,show a::b::(l++[a])=(a::b::l)++[a] by simp,List.getD_eq_getElem?_getD,List.getD_eq_getElem?_getD,List.getElem?_append_left (by simp; omega)]
  ·have:i=l.length+2:=by omega
   subst this;rw[Nat.mod_self,show a::b::(l++[a])=(a::b::l)++[a] by simp,List.getD_eq_getElem?_getD,List.getD_eq_getElem?_getD,List.getElem?_append_right (by simp)]
   simp
 rw[hC i (by omega),hC (i+1) (by omega)]
 rfl
def gb (h:Nat→Int):Nat→Int→List I2
 | 0,_=>[]
 | k+1,p=>(if h k=p then[] else[(((k+1:Nat):Int),h k)])++((k:Int),h k)::gb h k (h k)
def down (h:Nat→Int) (k:Nat) (p:Int):List I2:=gb h k p++[(0,0)]
theorem mK (h:Nat→Int) (p:Int):down h 0 p = [(0,0)]:=rfl
theorem nf {h:Nat→Int} {k:Nat} {p:Int} (e:h k=p):down h (k+1) p=((k:Int),h k)::down h k (h k):=by
 unfold down; simp only[gb]; rw[if_pos e]; rfl
theorem nE {h:Nat→Int} {k:Nat} {p:Int} (e:h k≠p):down h (k+1) p=(((k+1:Nat):Int),h k)::((k:Int),h k)::down h k (h k):=by
 unfold down; simp only[gb]; rw[if_neg e]; rfl
section
variable {h : Nat → Int} (hp : ∀ i, 1 ≤ h i)
include hp
theorem lR:∀(k:Nat) (p:Int),∀x ∈ gb h k p,0≤x.1∧x.1≤k∧1≤x.2
 | 0,_,_,hx=>absurd hx (by simp[gb])
 | k+1,p,x,hx=>by
  simp only[gb,List.mem_append,List.mem_cons] at hx;rcases hx with hx|hx|hx
  ·split at hx
   ·simp at hx
   ·rw[List.mem_singleton] at hx; subst hx;have:=hp k;exact⟨by dsimp only; omega,by dsimp only; omega,this⟩
  ·subst hx;have:=hp k;exact⟨by dsimp only; omega,by dsimp only; omega,this⟩
  ·have:=lR k (h k) x hx;omega
theorem uF (k:Nat) (p:Int):∀x ∈ down h k p,0≤x.1∧x.1≤k∧0≤x.2:=fun x hx=>by
 unfold down at hx;rcases List.mem_append.1 hx with hx|hx
 ·have:=lR hp k p x hx; omega
 ·rw[List.mem_singleton] at hx; subst hx; exact⟨by decide,by dsimp only; omega,by decide⟩
omit hp in
theorem sZ {L:List I2}:∀{e:I2 × I2},e ∈ oU L→e.1 ∈ L∧e.2 ∈ L:=by
 induction L with
 | nil=>intro e he; simp[oU] at he
 | cons a L ih =>
  intro e he
  match L with
  | []=>simp[oU] at he
  | b::l =>
   simp only[oU,List.mem_cons] at he;rcases he with rfl|he
   ·simp
   ·have:=ih (by simpa only[oU] using he)
    exact⟨List.mem_cons_of_mem _ this.1,List.mem_cons_of_mem _ this.2⟩
omit hp in
theorem vp {a b c d:I2} {k:Int} (ha:k<a.1) (hb:k<b.1) (hc:c.1≤k) (hd:d.1≤k):NM a b c d :=
 qj (α:=2) (β:=0) (γ:=-(2*k+1)) (by unfold fa; omega) (by unfold fa; omega) (by unfold fa; omega) (by unfold fa; omega)
omit hp in
theorem BM {a b c d:I2} {y z:Int} (ha:a.2=y) (hb:b.2=y) (hc:c.2=z) (hd:d.2=z) (hyz:y≠z):NM a b c d:=by
 rcases Int.lt_or_gt_of_ne hyz with g|g
 ·exact qj (α:=0) (β:=-2) (γ:=y+z) (by unfold fa; omega) (by unfold fa; omega) (by unfold fa; omega) (by unfold fa; omega)
 ·exact qj (α:=0) (β:=2) (γ:=-(y+z)) (by unfold fa; omega) (by unfold fa; omega) (by unfold fa; omega) (by unfold fa; omega)
theorem E8 (k:Nat):∀e ∈ oU (down h k (h k)),NM (((k+1:Nat):Int),h k) ((k:Int),h k) e.1 e.2:=fun e he=>by
 match k with
 | 0=>rw[mK] at he; simp[oU] at he
 | k+1 =>
  have inner:∀e ∈ oU (((k:Int),h k)::down h k (h k)),NM (((k+1+1:Nat):Int),h (k+1)) (((k+1:Nat):Int),h (k+1)) e.1 e.2:=fun e he=>by
   obtain⟨m1,m2⟩:=sZ he;have q:∀x ∈ ((k:Int),h k)::down h k (h k),x.1≤(k:Int):=fun x hx=>by
    rcases List.mem_cons.1 hx with rfl|hx
    ·exact Int.le_refl _
    ·exact(uF hp k _ x hx).2.1
   exact vp (k:=(k:Int)) (by dsimp only; omega) (by dsimp only; omega) (q _ m1) (q _ m2)
  by_cases g:h k=h (k+1)
  ·rw[nf g] at he; exact inner e he
  ·rw[nE g] at he;simp only[oU,List.mem_cons] at he;rcases he with rfl|he
   ·exact BM rfl rfl rfl rfl (Ne.symm g)
   ·exact inner e he
theorem BP (k:Nat) (ho:zX (((k:Int),h k)::down h k (h k))):zX ((((k+1:Nat):Int),h k)::((k:Int),h k)::down h k (h k)):=by
 refine⟨fun e=>by have:=congrArg Prod.fst e; dsimp only at this; omega,fun c l' e=>?_,E8 hp k,ho⟩
 rintro⟨g1,g2⟩;have hc:=uF hp k (h k) c (by rw[e]; exact List.mem_cons_self)
 unfold di at g2
 dsimp only at g2
 rw[Int.sub_self,Int.zero_mul,Int.add_zero,show(k:Int)-((k+1:Nat):Int) = -1 by omega] at g2
 omega
theorem u9:∀(k:Nat) (p:Int),(k=0→p≠0)→zX (((k:Int),p)::down h k p)
 | 0,p,h0=>by
  rw[mK];exact⟨fun e=>h0 rfl (congrArg Prod.snd e),fun c l' e=>by simp at e,fun e he=>by simp[oU] at he,trivial⟩
 | k+1,p,_=>by
  have ih:=u9 k (h k) (fun _=>by have:=hp k; omega)
  have fl:=BP hp k ih
  by_cases g:h k=p
  ·rw[nf g,←g]; exact fl
  ·rw[nE g];refine⟨fun e=>g (congrArg Prod.snd e).symm,fun c l' e=>?_,fun e he=>?_,fl⟩
   ·have:c=((k:Int),h k):=(List.cons.inj e).1.symm;subst this;rintro⟨g1,_⟩;unfold ti at g1
    dsimp only at g1
    rw[Int.sub_self,Int.zero_mul,Int.zero_sub,show(k:Int)-((k+1:Nat):Int) = -1 by omega,Int.mul_neg,Int.mul_one] at g1
    omega
   ·obtain⟨m1,m2⟩:=sZ he;have q:∀x ∈ ((k:Int),h k)::down h k (h k),x.1≤(k:Int):=fun x hx=>by
     rcases List.mem_cons.1 hx with rfl|hx
     ·exact Int.le_refl _
     ·exact(uF hp k _ x hx).2.1
    exact vp (k:=(k:Int)) (by dsimp only; omega) (by dsimp only; omega) (q _ m1) (q _ m2)
def yJ (h:Nat→Int) (c:Nat):List I2:=(0,0)::((c:Int),0)::gb h c 0
omit hp in
theorem rr:∀(k:Nat) (p:Int),0<k→(gb h k p).getLast? = some (0,h 0)
 | 0,_,hk=>absurd hk (Nat.lt_irrefl 0)
 | k+1,p,_=>by
  simp only[gb];rw[List.getLast?_append,List.getLast?_cons]
  match k with
  | 0=>simp[gb]
  | k+1=>rw[rr (k+1) _ (Nat.succ_pos k)]; simp
theorem HW {c:Nat} (hc:0<c):VR (yJ h c):=by
 obtain⟨k,rfl⟩:∃k,c=k+1:=⟨c-1,by omega⟩
 have hk:=hp k;have h0:=hp 0;have first:gb h (k+1) 0=(((k+1:Nat):Int),h k)::((k:Int),h k)::gb h k (h k):=by
  simp only[gb]; rw[if_neg (by omega)]; rfl
 refine K8 (z:=(0,h 0)) (fun e=>by have:=congrArg Prod.fst e; dsimp only at this; omega) (by rw[first]; simp) (rr (k+1) 0 (Nat.succ_pos k)) (fun c l' e=>?_) ?_ (fun e he=>?_) (u9 hp (k+1) 0 (fun e=>absurd e (by simp)))
 ·rw[first] at e
  have:c=(((k+1:Nat):Int),h k):=(List.cons.inj e).1.symm;subst this;rintro⟨g,_⟩;unfold ti at g
  dsimp only at g
  rw[Int.sub_zero,Int.sub_zero,Int.sub_self,Int.zero_mul,Int.sub_zero] at g;rcases Int.mul_eq_zero.1 g with e|e<;>omega
 ·rintro⟨g,_⟩;unfold ti at g
  dsimp only at g
  rw[Int.sub_self,Int.zero_mul,Int.zero_sub,Int.zero_sub,Int.sub_zero] at g;have:h 0*((k+1:Nat):Int)=0:=by rw[Int.neg_mul] at g; omega
  rcases Int.mul_eq_zero.1 this with e|e<;>omega
 ·obtain⟨m1,m2⟩:=sZ he;have q1:=lR hp _ _ _ m1;have q2:=lR hp _ _ _ m2;exact qj (α:=0) (β:=-2) (γ:=1) (by unfold fa; omega) (by unfold fa; omega) (by unfold fa; omega) (by unfold fa; omega)
omit hp in
def uI (h:Nat→Int):Nat→Int
 | 0=>0
 | k+1=>uI h k+2*h k
omit hp in
theorem sx:∀(k:Nat) (p:Int),((oU (((k:Int),p)::down h k p)).map fun e=>o5 e.1 e.2).sum=uI h k-k*p
 | 0,p=>by
  rw[mK];simp[oU,o5,uI]
 | k+1,p=>by
  have ih:=sx k (h k);have e1:o5 (((k+1:Nat):Int),h k) ((k:Int),h k)=h k:=by unfold o5; dsimp only; rw[Int.mul_comm (h k),←Int.sub_mul,show((k+1:Nat):Int)-(k:Int)=1 by omega,Int.one_mul]
  by_cases g:h k=p
  ·rw[nf g,←g];simp only[oU,List.map_cons,List.sum_cons];rw[ih,e1];simp only[uI];rw[show((k+1:Nat):Int)=(k:Int)+1 by omega,Int.add_mul]
   omega
  ·rw[nE g];simp only[oU,List.map_cons,List.sum_cons];rw[ih,e1];have e2:o5 (((k+1:Nat):Int),p) (((k+1:Nat):Int),h k)=(k:Int)*h k+h k-(k:Int)*p-p:=by
    unfold o5; dsimp only; rw[show((k+1:Nat):Int)=(k:Int)+1 by omega]; grind
   rw[e2];simp only[uI];rw[show((k+1:Nat):Int)=(k:Int)+1 by omega,Int.add_mul]
   omega
theorem F7 {c:Nat} (hc:0<c):0<jl (yJ h c):=by
 have e:jl (yJ h c)=uI h c:=by
  unfold yJ;rw[FL];have:=sx (h:=h) c 0;unfold down at this;rw[List.cons_append,this];unfold o5; dsimp only; omega
 rw[e];have:∀k,0≤uI h k:=fun k=>by
  induction k with
  | zero=>exact Int.le_refl 0
  | succ k ih=>simp only[uI]; have:=hp k; omega
 obtain⟨k,rfl⟩:∃k,c=k+1:=⟨c-1,by omega⟩
 have h1:=this k;have h2:=hp k;simp only[uI]; omega
end
end Jd
end

section
namespace Go.Proofs.YthmekkhpddehjaaGreat
open Go Go.Ab Go.Ab.W Go.Ab.B Jd
structure Ok (l:List I2):Prop where
 len:l.length≤40
 nr:∀i,Nr (nx l i)
 vr:VR l
theorem iC {ρ:Type} {f:Nat→Option ρ} {e:ρ} {k i:Nat} (h:∀j,i≤j→j<i+k→f j=none):cY f e k i=e:=by
 rcases fe (f:=f) (e:=e) k i with⟨_,h2⟩|⟨j,h1,h2,h3⟩
 ·exact h2
 ·rw[h j h1 h2] at h3; cases h3
theorem B7 {i L:Nat} (hL:0<L):((i+1)%L+L-1)%L=i%L:=by
 have h:=Nat.div_add_mod (i+1) L;have:((i+1)%L+L-1)+L*((i+1)/L)=i+L:=by omega
 rw[←Nat.add_mul_mod_self_left ((i+1)%L+L-1) L ((i+1)/L),this,Nat.add_mod_right]
theorem Ok.mh {l:List I2} (h:Ok l):mh l:=by
 have hn:=h.vr.n3;have hl:=h.len;unfold Go.Proofs.YthmekkhpddehjaaGreat.mh lY;rw[if_neg (by omega),iC (f:=kl l) fun j _ _=>by unfold kl; rw[if_neg (Ev.2 (h.nr j))]]
 dsimp only
 rw[iC (f:=fg l) fun j _ _=>by unfold fg; rw[if_neg (h.vr.still j)]]
 dsimp only
 rw[iC (f:=fJ l) fun j _ hj=>by
  unfold fJ;have:=h.vr.rE (j+l.length-1);rw[show j+l.length-1+1=j+l.length by omega,show j+l.length-1+2=(j+1)+l.length by omega,nA l (Nat.add_mod_right j l.length),nA l (Nat.add_mod_right (j+1) l.length)] at this
  rw[if_neg this]]
 dsimp only
 rw[iC (f:=fO l) fun j _ hj=>by
  unfold fO;rw[if_neg];rintro⟨t,ht,h1,h2⟩;exact h2 (um.2 (h.vr.meet t j ht (by omega) fun e=>h1 ⟨e.1,by omega⟩))]
 exact Int.le_refl 0
theorem mh.ok {l:List I2} (h:mh l):Ok l:=by
 unfold Go.Proofs.YthmekkhpddehjaaGreat.mh lY at h
 split at h
 ·exact absurd (show(1:Int)≤0 from h) (by decide)
 ·rename_i hl;cases h1:cY (kl l) (.inr ()) l.length 0 with
  | inl v=>rw[h1] at h; exact absurd (show(2:Int)≤0 from h) (by decide)
  | inr _ =>
   rw[h1] at h
   dsimp only at h
   cases h2:cY (fg l) (.inr ()) l.length 0 with
   | inl v=>rw[h2] at h; exact absurd (show(3:Int)≤0 from h) (by decide)
   | inr _ =>
    rw[h2] at h
    dsimp only at h
    cases h3:cY (fJ l) (.inr ()) l.length 0 with
    | inl v=>rw[h3] at h; exact absurd (show(4:Int)≤0 from h) (by decide)
    | inr _ =>
     rw[h3] at h
     dsimp only at h
     cases h4:cY (fO l) (.inr ()) l.length 0 with
     | inl v=>rw[h4] at h; exact absurd (show(5:Int)≤0 from h) (by decide)
     | inr _ =>
      have hL:0<l.length:=by omega
      refine⟨by omega,yV hL h1,by omega,yc hL h2,fun i=>?_,fun j i hji hi hn=>?_⟩
      ·have:=mg (fun j r hr=>by unfold fJ at hr; split at hr<;>cases hr; simp) h3 ((i+1)%l.length) (Nat.mod_lt _ hL)
       unfold fJ at this
       split at this
       ·cases this
       ·rename_i g;rw[nA l (B7 hL),nP,ot] at g;exact g
      ·have:=mg (fun j r hr=>by unfold fO at hr; split at hr<;>cases hr; simp) h4 i hi
       unfold fO at this
       split at this
       ·cases this
       ·rename_i g;refine um.1 (Decidable.byContradiction fun e=>g ⟨j,hji,fun k=>hn ⟨k.1,by omega⟩,e⟩)
theorem lK {l:List I2}:mh l↔Ok l:=⟨mh.ok,Ok.mh⟩
def num (l:List Nat) (i:Nat):Nat:=if l.length=0 then i%3 else l.getD (i%l.length) 0
theorem Jw {l:List Nat} (hb:∀x ∈ l,x<256) (i:Nat):num l i<256:=by
 unfold num
 split
 ·omega
 ·rename_i h;have hm:i%l.length<l.length:=Nat.mod_lt _ (by omega)
  rw[List.getD_eq_getElem?_getD,List.getElem?_eq_getElem hm];exact hb _ (List.getElem_mem hm)
section
variable (n : Nat) {l : List Nat} (hb : ∀ x ∈ l, x < 256) (x5 x6 : Int) (x7 : Nat) (x8 x9 : Bool)
include hb
theorem xD (i:Nat):Jx n l x5 x6 x7 x8 x9 (i:Int)=some ((num l i:Nat):Int):=by
 have hlt:=Jw hb i;unfold Jx;unfold num at hlt ⊢
 by_cases h:l.length=0
 ·rw[aO (by omega),if_pos h]; rfl
 ·have hm:i%l.length<l.length:=Nat.mod_lt _ (by omega)
  rw[if_neg h] at hlt ⊢;rw[aH (by omega),decide_eq_true (show((l.length:Nat):Int)≠0 by omega),aW,mW,aI hm,aW,Int.toNat_natCast]
  rw[List.getD_eq_getElem?_getD,List.getElem?_eq_getElem hm] at hlt ⊢;have hlt':l[i%l.length]<256:=hlt;rw[al,aq (by omega) (by omega)]; rfl
def kp (l:List Nat) (i:Nat):Bool:=!(decide (num l i%6=0) && !decide (i%3=0))
def cm (l:List Nat) (i:Nat):Int:=((1+num l i%6%5:Nat):Int)
def LF:List I2:=[(2,0),(2,1),(1,2),(0,2),(-1,2),(-2,1),(-2,0),(-2,-1),(-1,-2),(0,-2),(1,-2),(2,-1)]
omit hb in
theorem xO (i:Nat):1≤cm l i∧cm l i≤5:=by unfold cm; omega
omit hb in
theorem IY:∀i<12,LF[i]? = some ((wy i).1,(wy i).2):=by decide
omit hb in
theorem Lc:∀i<12,-2≤(wy i).1∧(wy i).1≤2∧-2≤(wy i).2∧(wy i).2≤2:=by decide
omit hb in
theorem rD {x y:Int} (hx : -2≤x∧x≤2) (hy:1≤y∧y≤5):IntKind.wrap .i64 (x*y)=x*y:=by
 have:=cL (B:=2) (C:=5) (u:=x) (v:=y) (by decide) (by omega) (by omega) (by omega) (by omega)
 exact aq (by omega) (by omega)
theorem CV {i:Nat} (hi:i<12) (acc:List I2) (ha:acc.length≤12):rU n l x5 x6 x7 x8 x9 (acc,LF,(i:Int))=some (.inl (if kp l i then acc++[xM (cm l i) (wy i)] else acc,LF,((i+1:Nat):Int))):=by
 have hw:=Lc i hi;have hc:=xO (l:=l) i;have e1:Int.tmod ((num l i:Nat):Int) 6=((num l i%6:Nat):Int):=rfl;have e2:Int.tmod (i:Int) 3=((i%3:Nat):Int):=rfl;have e3:Int.tmod ((num l i%6:Nat):Int) 5=((num l i%6%5:Nat):Int):=rfl;have e4:IntKind.wrap .i64 (1+((num l i%6%5:Nat):Int))=cm l i:=by
  unfold cm; rw[aq (by omega) (by omega)]; omega
 unfold rU
 dsimp only
 rw[aO (by omega),xD n hb,al,e1,e2,e3,e4,aI hi,aW,Int.toNat_natCast,IY i hi,al]
 dsimp only
 rw[rD ⟨hw.1,hw.2.1⟩ hc,rD ⟨hw.2.2.1,hw.2.2.2⟩ hc,al,aW,al,aS (by omega),dS,al]
 have hk:(decide (((num l i%6:Nat):Int)=0) && !decide (((i%3:Nat):Int)=0)) = !kp l i:=by
  unfold kp;rw[Bool.not_not]
  congr 1
  ·rw[decide_eq_decide]; omega
  ·congr 1; rw[decide_eq_decide]; omega
 rw[hk];cases kp l i with
 | true =>
  rw[Bool.not_true,cr,show lim (acc++[((wy i).1*cm l i,(wy i).2*cm l i)]).length=true from Nat.ble_eq_true_of_le (by rw[List.length_append]; simp; omega),aW,al]; rfl
 | false=>rw[Bool.not_false,gS,al]; rfl
theorem qn:∀(k i m:Nat) (acc:List I2),i+k=12→acc.length≤i→k<m→cq (rU n l x5 x6 x7 x8 x9) m (acc,LF,(i:Int))=some (acc++((List.range' i k).filter (kp l)).map fun i=>xM (cm l i) (wy i))
 | 0,i,m+1,acc,h,_,_=>by
  rw[bN (r:=acc)]
  ·simp
  ·unfold rU
   dsimp only
   rw[aH (by omega)]
 | k+1,i,m+1,acc,h,ha,hm=>by
  rw[bp (CV n hb x5 x6 x7 x8 x9 (show i<12 by omega) acc (by omega)),qn k (i+1) m _ (by omega) (by split<;>(try rw[List.length_append,List.length_singleton])<;>omega) (by omega),List.range'_succ,List.filter_cons]
  congr 1
  split<;>simp
def hh (l:List Nat) (i:Nat):Int:=((1+num l (i+1)%5:Nat):Int)
omit hb in
theorem ye (i:Nat):1≤hh l i:=by unfold hh; omega
omit hb in
theorem Kg (i:Nat):hh l i≤5:=by unfold hh; omega
omit hb in
theorem GW (k:Nat):IntKind.wrap .i64 (1+Int.tmod ((num l (k+1):Nat):Int) 5)=hh l k:=by
 have e3:Int.tmod ((num l (k+1):Nat):Int) 5=((num l (k+1)%5:Nat):Int):=rfl;rw[e3]; unfold hh; rw[aq (by omega) (by omega)]; omega
omit hb in
theorem Gk (A:List I2) (x:I2) (hA:A.length<1000) {β:Type} (K:Int × Int→Option β):gd (bV (IntKind.wrap .i64 (((A++[x]).length:Int)-1)) (A++[x]).length) (ob ((A++[x])[(IntKind.wrap .i64 (((A++[x]).length:Int)-1)).toNat]?) K)=K x:=by
 have e:IntKind.wrap .i64 (((A++[x]).length:Int)-1)=(A.length:Int):=by rw[List.length_append]; simp only[List.length_cons,List.length_nil]; rw[aq (by omega) (by omega)]; omega
 rw[e,aI (by simp),aW,Int.toNat_natCast,List.getElem?_append_right (Nat.le_refl _),Nat.sub_self]
 exact al x K
omit hb in
theorem pW (A:List I2) (x:I2) (hA:A.length<1000) (k:Nat) (u:Int) (hu:(k:Int)≤u) (hu':u<100000) :
  qh n (k:Int) ((num l (k+1):Nat):Int) (A++[x],(A++[x]).length,u)=some (.inl ((A++[x])++(if x=(u,hh l k) then[] else[(u,hh l k)]),((A++[x])++(if x=(u,hh l k) then[] else[(u,hh l k)])).length,u-1)):=by
 unfold qh
 dsimp only
 rw[aO hu,GW,Gk A x hA]
 try dsimp only
 have hd:(decide (x.1=u) && decide (x.2=hh l k))=decide (x=(u,hh l k)):=jE x (u,hh l k);have hw:IntKind.wrap .i64 (u-1)=u-1:=aq (by omega) (by omega)
 rw[hd,hw]
 by_cases h:x=(u,hh l k)
 ·rw[decide_eq_true h,Bool.not_true,cr,al,if_pos h,List.append_nil]
 ·rw[decide_eq_false h,Bool.not_false,gS,show lim ((A++[x])++[(u,hh l k)]).length=true from Nat.ble_eq_true_of_le (by simp; omega),aW,al,if_neg h]
omit hb in
theorem yB (A:List I2) (hA:A.length<900) (k:Nat) (hk:k<10000) (p:Int) {m:Nat} (hm:3≤m) :
  ∃B,cq (qh n (k:Int) ((num l (k+1):Nat):Int)) m (A++[(((k+1:Nat):Int),p)],(A++[(((k+1:Nat):Int),p)]).length,((k+1:Nat):Int))=some (B++[((k:Int),hh l k)],(B++[((k:Int),hh l k)]).length) ∧
   B++[((k:Int),hh l k)]=A++[(((k+1:Nat):Int),p)]++((if hh l k=p then[] else[(((k+1:Nat):Int),hh l k)])++[((k:Int),hh l k)])∧B.length≤A.length+2:=by
 obtain⟨m,rfl⟩:∃q,m=q+3:=⟨m-3,by omega⟩
 have s1:=pW (l:=l) n A (((k+1:Nat):Int),p) (by omega) k ((k+1:Nat):Int) (by omega) (by omega)
 have sE:∀B:List I2,qh n (k:Int) ((num l (k+1):Nat):Int) (B,B.length,(k:Int)-1)=some (.inr (B,B.length)):=fun B=>by
  unfold qh
  dsimp only
  rw[aH (by omega)]
 have e1:((k+1:Nat):Int)-1=(k:Int):=by omega
 by_cases h:p=hh l k
 ·subst h;rw[if_pos rfl,List.append_nil,e1] at s1;have s2:=pW (l:=l) n A (((k+1:Nat):Int),hh l k) (by omega) k (k:Int) (by omega) (by omega)
  rw[if_neg (fun e=>by have:=congrArg Prod.fst e; dsimp only at this; omega)] at s2
  refine⟨A++[(((k+1:Nat):Int),hh l k)],?_,by simp,by simp⟩
  rw[bp s1,bp s2,bN (sE _)]
 ·rw[if_neg (fun e=>h (congrArg Prod.snd e)),e1] at s1;have s2:=pW (l:=l) n (A++[(((k+1:Nat):Int),p)]) (((k+1:Nat):Int),hh l k) (by simp; omega) k (k:Int) (by omega) (by omega)
  rw[if_neg (fun e=>by have:=congrArg Prod.fst e; dsimp only at this; omega)] at s2
  refine⟨A++[(((k+1:Nat):Int),p)]++[(((k+1:Nat):Int),hh l k)],?_,by rw[if_neg (fun e=>h e.symm)]; simp,by simp⟩
  rw[bp s1,bp s2,bN (sE _)]
theorem pd (hn:3≤n):∀(k m:Nat) (A:List I2) (p:Int),A.length+2*k<900→k<m→∃N,cq (wH n l x5 x6 x7 x8 x9) m (A++[((k:Int),p)],(A++[((k:Int),p)]).length,(k:Int)-1)=some (A++[((k:Int),p)]++gb (hh l) k p,N)
 | 0,m+1,A,p,_,_=>by
  refine⟨_,bN (r:=(A++[(((0:Nat):Int),p)]++gb (hh l) 0 p,(A++[(((0:Nat):Int),p)]).length)) ?_⟩;unfold wH
  dsimp only
  rw[aH (by omega)]
  simp[gb]
 | k+1,m+1,A,p,hA,hm=>by
  obtain⟨B,h1,h2,h3⟩:=yB (l:=l) n A (by omega) k (by omega) p hn
  obtain⟨N,ih⟩:=pd hn k m B (hh l k) (by omega) (by omega)
  have e1:((k+1:Nat):Int)-1=(k:Int):=by omega
  refine⟨N,?_⟩;rw[bp (s':=(B++[((k:Int),hh l k)],(B++[((k:Int),hh l k)]).length,(k:Int)-1)),ih,h2]
  ·simp only[gb,List.append_assoc,List.cons_append,List.nil_append]
  ·unfold wH
   dsimp only
   rw[e1,aO (by omega),aS (by omega),xD n hb,al,h1,al]
   dsimp only
   rw[aq (by omega) (by omega)]
def lN (l:List Nat):Nat:=1+num l 0%6
def gj (l:List Nat) (row:Bool):List I2:=if row then yJ (hh l) (lN l) else((List.range 12).filter (kp l)).map fun i=>xM (cm l i) (wy i)
theorem JF (hn:12<n):Ls n l x5 x6 x7 x8 x9=some (gj l x8):=by
 unfold Ls gj;cases x8 with
 | false =>
  rw[Bool.not_false,gS];have:=qn n hb x5 x6 x7 false x9 12 0 n [] (by omega) (by simp) hn
  rw[←List.range_eq_range'] at this;exact(congrArg (fun o=>ob o fun l1=>some l1) this).trans rfl
 | true =>
  have e0:Int.tmod ((num l 0:Nat):Int) 6=((num l 0%6:Nat):Int):=rfl;have e1:IntKind.wrap .i64 (1+((num l 0%6:Nat):Int))=(lN l:Int):=by unfold lN; rw[aq (by omega) (by omega)]; omega
  have e2:IntKind.wrap .i64 ((lN l:Int)-1)=(lN l:Int)-1:=aq (by unfold lN; omega) (by unfold lN; omega)
  rw[Bool.not_true,cr,show(0:Int)=((0:Nat):Int) from rfl,xD n hb,al,e0,e1,e2]
  obtain⟨N,h⟩:=pd n hb x5 x6 x7 true x9 (by omega) (lN l) n [(0,0)] 0 (by simp; unfold lN; omega) (by unfold lN; omega)
  exact(congrArg (fun o=>ob o fun x:List I2 × Nat=>match x with | (l2,_)=>some l2) h).trans rfl
end
end Go.Proofs.YthmekkhpddehjaaGreat
end

section
namespace Jd
def Lt (a b:I2):Prop:=a.1<b.1∨a.1=b.1∧a.2<b.2
instance (a b:I2):Decidable (Lt a b):=by unfold Lt; infer_instance
def Edge (Q:I2→Prop) (a b:I2):Prop:=Lt a b∧∀q,Q q→0≤ti a b q∧(ti a b q=0→¬Lt q a∧¬Lt b q)
inductive Stk (Q:I2→Prop):List I2→Prop
 | one {a}:(∀q,Q q→¬Lt q a)→Q a→Stk Q [a]
 | more {a b st}:Edge Q a b→Q b→Stk Q (a::st)→Stk Q (b::a::st)
def Good (S:I2→Prop) (x y:I2):Prop:=x≠y∧S y∧∀q,S q→0<ti x y q∨q=x∨q=y∨(ti x y q=0∧0<di x q y)
inductive Way (S:I2→Prop):List I2→Prop
 | one (a):Way S [a]
 | more {a b l}:Good S a b→Way S (b::l)→Way S (a::b::l)
structure Hul (S:I2→Prop) (r:List I2):Prop where
 n3:2<r.length
 good:∀i,Good S (nx r i) (nx r (i+1))
 nodup:∀i j,i<j→j<r.length→nx r i≠nx r j
section
variable {S : I2 → Prop} {r : List I2}
end
theorem yF {r:List I2} (h:r≠[]) (i:Nat):nx r i ∈ r:=by
 have hl:=List.length_pos_iff.2 h;have hi:=Nat.mod_lt i hl;unfold nx;rw[List.getD_eq_getElem?_getD,List.getElem?_eq_getElem hi];exact List.getElem_mem hi
end Jd
end

section
namespace Go.Proofs.YthmekkhpddehjaaGreat
open Go Go.Ab Go.Ab.W Go.Ab.B Jd
def vP (s:Int) (v:I2) (r:List I2):List I2:=r.map fun q=>fK v (oj s q)
theorem Cu (s:Int) (v:I2) (r:List I2):vP s v r=(r.map (oj s)).map (fK v):=by
 unfold vP; rw[List.map_map]; rfl
theorem Ay {h:Nat→Int} (hp:∀i,h i≤5):∀(k:Nat) (p:Int),∀x ∈ gb h k p,x.2≤5
 | 0,_,_,hx=>absurd hx (by simp[gb])
 | k+1,p,x,hx=>by
  simp only[gb,List.mem_append,List.mem_cons] at hx;rcases hx with hx|hx|hx
  ·split at hx
   ·simp at hx
   ·rw[List.mem_singleton] at hx; subst hx; exact hp k
  ·subst hx; exact hp k
  ·exact Ay hp k (h k) x hx
theorem xj (h:Nat→Int):∀(k:Nat) (p:Int),(gb h k p).length≤2*k
 | 0,_=>by simp[gb]
 | k+1,p=>by
  have:=xj h k (h k);simp only[gb,List.length_append,List.length_cons]
  split
  ·simp only[List.length_nil]; omega
  ·simp only[List.length_cons,List.length_nil]; omega
section
variable {l : List Nat}
theorem za:1≤lN l∧lN l≤6:=by unfold lN; omega
theorem yL (row:Bool):∀q ∈ gj l row,-10≤q.1∧q.1≤10∧-10≤q.2∧q.2≤10:=fun q hq=>by
 unfold gj at hq;cases row with
 | true =>
  rw[if_pos rfl] at hq;unfold yJ at hq;have hc:=za (l:=l);rcases List.mem_cons.1 hq with rfl|hq
  ·decide
  ·rcases List.mem_cons.1 hq with rfl|hq
   ·dsimp only; omega
   ·have h1:=lR (fun i=>ye (l:=l) i) _ _ _ hq;have h2:=Ay (fun i=>Kg (l:=l) i) _ _ _ hq;omega
 | false =>
  rw[if_neg (by decide)] at hq
  obtain⟨i,hi,rfl⟩:=List.mem_map.1 hq;have hi:=List.mem_range.1 (List.mem_filter.1 hi).1;have hw:=Lc i hi;have hc:=xO (l:=l) i;have m1:=cL (B:=2) (C:=5) (u:=(wy i).1) (v:=cm l i) (by decide) (by omega) (by omega) (by omega) (by omega)
  have m2:=cL (B:=2) (C:=5) (u:=(wy i).2) (v:=cm l i) (by decide) (by omega) (by omega) (by omega) (by omega)
  unfold xM
  dsimp only
  omega
theorem wx (row:Bool):(gj l row).length≤14:=by
 unfold gj;cases row with
 | true =>
  have hc:=za (l:=l);have:=xj (hh l) (lN l) 0;rw[if_pos rfl]; unfold yJ; simp only[List.length_cons]; omega
 | false =>
  rw[if_neg (by decide),List.length_map]
  have:=List.length_filter_le (kp l) (List.range 12);rw[List.length_range] at this;omega
theorem zR (row:Bool):VR (gj l row)∧0<jl (gj l row):=by
 unfold gj;cases row with
 | true =>
  have hc:=za (l:=l);rw[if_pos rfl];exact⟨HW (fun i=>ye (l:=l) i) (by omega),F7 (fun i=>ye (l:=l) i) (by omega)⟩
 | false =>
  rw[if_neg (by decide)]
  have:=G8 (p:=kp l) (by unfold kp; simp) (by unfold kp; simp) (by unfold kp; simp) (by unfold kp; simp) (m:=fun i=>cm l i) fun i=>by have:=xO (l:=l) i; omega
  exact⟨this.vr,this.jl⟩
end
def kG (l:List Nat) (x5 x6:Int) (x7:Nat) (row turned:Bool):List I2:=if turned then rv (vP (1+x7) (x5,x6) (gj l row)) else vP (1+x7) (x5,x6) (gj l row)
structure Dr (l:List Nat) (x5 x6:Int) (x7:Nat):Prop where
 b:∀x ∈ l,x<256
 x : -32768≤x5∧x5≤32767
 y : -32768≤x6∧x6≤32767
 s:x7<256
theorem CH {x:Nat} (hx:x<256) {v:I2} (hv : -32768≤v.1∧v.1≤32767∧-32768≤v.2∧v.2≤32767) {q:I2} (hq : -10≤q.1∧q.1≤10∧-10≤q.2∧q.2≤10) :
  (-2560≤q.1*(1+(x:Int))∧q.1*(1+(x:Int))≤2560∧-2560≤q.2*(1+(x:Int))∧q.2*(1+(x:Int))≤2560)∧Nr (fK v (oj (1+(x:Int)) q))∧-40000≤(fK v (oj (1+(x:Int)) q)).1∧(fK v (oj (1+(x:Int)) q)).1≤40000∧-40000≤(fK v (oj (1+(x:Int)) q)).2∧(fK v (oj (1+(x:Int)) q)).2≤40000:=by
 have m1:=cL (B:=10) (C:=256) (u:=q.1) (v:=1+(x:Int)) (by decide) (by omega) (by omega) (by omega) (by omega)
 have m2:=cL (B:=10) (C:=256) (u:=q.2) (v:=1+(x:Int)) (by decide) (by omega) (by omega) (by omega) (by omega)
 unfold Nr fK oj
 dsimp only
 omega
theorem wL (n:Nat) {x5 x6:Int} {x7:Nat} (h7:x7<256) (h5 : -32768≤x5∧x5≤32767) (h6 : -32768≤x6∧x6≤32767) (l12:List I2) (hl:l12.length<1000) :
  ∀(rest done:List I2) (m:Nat),done.length+rest.length=l12.length→rest.length<m→(∀q ∈ rest,-10≤q.1∧q.1≤10∧-10≤q.2∧q.2≤10) →
   cq (rS n l12 x5 x6) m (done++rest,1+(x7:Int),(done.length:Int))=some (done++vP (1+x7) (x5,x6) rest)
 | [],done,m+1,h,_,_=>by
  rw[bN (r:=done++[])]
  ·rfl
  ·unfold rS
   dsimp only
   rw[aH (by simp at h; omega)]
 | q::rest,done,m+1,h,hm,hq=>by
  have hq':=CH h7 (v:=(x5,x6)) ⟨h5.1,h5.2,h6.1,h6.2⟩ (hq q List.mem_cons_self);have hi:done.length<l12.length:=by simp at h; omega
  have ih:=wL n h7 h5 h6 l12 hl rest (done++[fK (x5,x6) (oj (1+x7) q)]) m (by simp at h ⊢; omega) (by simp at hm; omega) fun x hx=>hq x (List.mem_cons_of_mem _ hx)
  rw[bp (s':=((done++[fK (x5,x6) (oj (1+x7) q)])++rest,1+(x7:Int),((done++[fK (x5,x6) (oj (1+x7) q)]).length:Int))),ih]
  ·simp[vP]
  ·have hg:(done++q::rest)[done.length]? = some (q.1,q.2):=by rw[List.getElem?_append_right (Nat.le_refl _),Nat.sub_self]; rfl
   have hs:(done++q::rest).set done.length (fK (x5,x6) (oj (1+x7) q))=(done++[fK (x5,x6) (oj (1+x7) q)])++rest:=by
    rw[List.set_append_right _ _ (Nat.le_refl _),Nat.sub_self]; simp
   unfold rS
   dsimp only
   rw[aO (by omega),aI hi,aW,Int.toNat_natCast,hg,al]
   dsimp only
   have e5:IntKind.wrap .i64 x5=x5:=aq (by omega) (by omega)
   have e6:IntKind.wrap .i64 x6=x6:=aq (by omega) (by omega)
   rw[al,aW,al,aW,e5,e6,aq (x:=q.1*(1+(x7:Int))) (by omega) (by omega),aq (x:=q.2*(1+(x7:Int))) (by omega) (by omega),aq (x:=q.1*(1+(x7:Int))+x5) (by omega) (by omega),aq (x:=q.2*(1+(x7:Int))+x6) (by omega) (by omega),aS (by omega)]
   rw[show(q.1*(1+(x7:Int))+x5,q.2*(1+(x7:Int))+x6)=fK (x5,x6) (oj (1+x7) q) from rfl,hs]
   simp
theorem vu (n:Nat) (a:I2) (t:List I2) (ht:t.length<1000):∀(j m:Nat) (out:List I2),j≤t.length→j<m→out.length+j<3000→∃N,cq (vU n (a::t)) m (out,out.length,(j:Int))=some (out++(t.take j).reverse,N)
 | 0,m+1,out,_,_,_=>by
  refine⟨out.length,bN ?_⟩;unfold vU
  try dsimp only
  rw[aH (by omega)]
  simp
 | j+1,m+1,out,hj,hm,ho=>by
  have hx:(a::t)[j+1]? = some (t[j]'(by omega)):=by rw[List.getElem?_cons_succ,List.getElem?_eq_getElem (by omega)]
  obtain⟨N,ih⟩:=vu n a t ht j m (out++[t[j]'(by omega)]) (by omega) (by omega) (by simp; omega)
  refine⟨N,?_⟩;rw[bp (s':=(out++[t[j]'(by omega)],(out++[t[j]'(by omega)]).length,(j:Int))),ih]
  ·have e:t.take (j+1)=t.take j++[t[j]'(by omega)]:=List.take_succ_eq_append_getElem (show j<t.length by omega)
   rw[e,List.reverse_append];simp
  ·unfold vU
   try dsimp only
   rw[aO (by omega),aI (show j+1<(a::t).length by simp; omega),aW,Int.toNat_natCast,hx,al]
   try dsimp only
   rw[show lim (out++[((t[j]'(by omega)).1,(t[j]'(by omega)).2)]).length=true from Nat.ble_eq_true_of_le (by simp; omega),aW,aq (by omega) (by omega)]
   congr 4
   omega
theorem Ju (n:Nat) {l:List I2} (h:Ok l) (hn:41<n):JY n l=some (rv l,0):=by
 have hL:=h.len;have hc:=lK.2 h;unfold JY;rw[Jf n (by omega) hn,if_pos hc,al]
 match l,h with
 | [],h=>have:=h.vr.n3; simp at this
 | a::t,h =>
  obtain⟨N,hlp⟩:=vu n a t (by simp at hL; omega) t.length n [a] (Nat.le_refl _) (by simp at hL; omega) (by simp at hL ⊢; omega)
  rw[List.take_length] at hlp;have e:IntKind.wrap .i64 (((a::t).length:Int)-1)=(t.length:Int):=by
   simp only[List.length_cons]; simp at hL; rw[aq (by omega) (by omega)]; omega
  rw[show(!decide ((0:Int)=0))=false from rfl,cr,show bV 0 (a::t).length=true from decide_eq_true ⟨Int.le_refl 0,by simp⟩,aW,e]
  show ob (some (a.1,a.2)) _=_
  rw[al]
  dsimp only
  exact(congrArg (fun o=>ob o fun x:List I2 × Nat=>match x with | (l41,_)=>some (l41,(0:Int))) hlp).trans rfl
theorem tL {l:List Nat} {x5 x6:Int} {x7:Nat} (d:Dr l x5 x6 x7) (row:Bool):Ok (vP (1+x7) (x5,x6) (gj l row))∧0<jl (vP (1+x7) (x5,x6) (gj l row)):=by
 have hs:(0:Int)<1+(x7:Int):=by omega
 have hv:=(zR (l:=l) row).1;have ha:=(zR (l:=l) row).2;have hlen:=wx (l:=l) row;have hne:gj l row≠[]:=fun e=>by rw[e] at hv; exact absurd hv.n3 (by simp)
 have h3:VR (vP (1+x7) (x5,x6) (gj l row)):=by
  rw[Cu];exact(Az (x5,x6)).vr ((Fu hs).vr hv)
 refine⟨⟨by unfold vP; rw[List.length_map]; omega,fun i=>?_,h3⟩,?_⟩
 ·have hm:=yF (r:=vP (1+x7) (x5,x6) (gj l row)) (fun e=>by unfold vP at e; rw[List.map_eq_nil_iff] at e; exact hne e) i
  unfold vP at hm;obtain⟨q,hq,e⟩:=List.mem_map.1 hm;unfold vP;rw[←e];exact(CH d.s (v:=(x5,x6)) ⟨d.x.1,d.x.2,d.y.1,d.y.2⟩ (yL row q hq)).2.1
 ·rw[Cu,Aw (by simpa using hne)]
  have:jl ((gj l row).map (oj (1+x7)))=(1+(x7:Int))*(1+(x7:Int))*jl (gj l row):=by
   unfold jl;rw[List.length_map,←iw];refine cg fun i _=>?_;rw[bz _ hne,bz _ hne];unfold oj
   dsimp only
   grind
  rw[this];exact Int.mul_pos (Int.mul_pos hs hs) ha
theorem Ok.rv {l:List I2} (h:Ok l):Ok (Jd.rv l):=by
 have hn:=h.vr.n3;have hne:Jd.rv l≠[]:=fun e=>by have:=congrArg List.length e; rw[gC] at this; simp at this; rw[this] at hn; simp at hn
 refine⟨by rw[gC]; exact h.len,fun i=>?_,h.vr.rv⟩
 have hm:=yF hne i;have:nx (Jd.rv l) i ∈ l:=by
  match l,hm with
  | a::t,hm=>unfold Jd.rv at hm ⊢; simpa using hm
 obtain⟨j,hj,e⟩:=List.mem_iff_getElem.1 this;have e2:nx l j=nx (Jd.rv l) i:=by
  unfold nx at e ⊢;rw[Nat.mod_eq_of_lt hj,List.getD_eq_getElem?_getD,List.getElem?_eq_getElem hj]; exact e
 rw[←e2];exact h.nr j
theorem D5 {l:List Nat} {x5 x6:Int} {x7:Nat} (d:Dr l x5 x6 x7) (row turned:Bool):Ok (kG l x5 x6 x7 row turned):=by
 unfold kG
 split
 ·exact(tL d row).1.rv
 ·exact(tL d row).1
theorem AQ {l:List Nat} {x5 x6:Int} {x7:Nat} (d:Dr l x5 x6 x7) (row turned:Bool):if turned then jl (kG l x5 x6 x7 row turned)<0 else 0<jl (kG l x5 x6 x7 row turned):=by
 have:=(tL d row).2;unfold kG;cases turned with
 | true=>rw[if_pos rfl,if_pos rfl,D9]; omega
 | false=>rw[if_neg (by decide),if_neg (by decide)]; exact this
theorem Jt (n:Nat) {l:List Nat} {x5 x6:Int} {x7:Nat} (d:Dr l x5 x6 x7) (row turned:Bool) (hn:41<n):J1 n l x5 x6 x7 row turned=some (kG l x5 x6 x7 row turned):=by
 have hlen:=wx (l:=l) row;have hs:=d.s;unfold J1 kG;rw[JF n d.b x5 x6 x7 row turned (by omega),al]
 have e1:IntKind.wrap .i64 (1+IntKind.wrap .i64 ((x7:Nat):Int))=1+(x7:Int):=by
  rw[aq (x:=((x7:Nat):Int)) (by omega) (by omega),aq (by omega) (by omega)]
 have L:=wL n d.s d.x d.y (gj l row) (by omega) (gj l row) [] n (by simp) (by omega) (yL row)
 rw[List.nil_append,List.nil_append] at L;rw[e1];have L':cq (rS n (gj l row) x5 x6) n (gj l row,1+(x7:Int),0)=some (vP (1+x7) (x5,x6) (gj l row)):=L;rw[L',al];cases turned with
 | true =>
  rw[gS,Ju n (tL d row).1 hn,al,al,if_pos rfl]
 | false =>
  rw[cr,al,if_neg (by decide)]
def Er (l:List I2):Prop:=∀q ∈ l,nL q.1∧nL q.2
theorem Mk {p:I2} (h:Nr p):nL p.1∧nL p.2:=by unfold Nr at h; unfold nL; omega
theorem Ok.pt {l:List I2} (h:Ok l):Er l:=fun q hq=>by
 obtain⟨j,hj,e⟩:=List.mem_iff_getElem.1 hq;have e2:nx l j=q:=by
  unfold nx;rw[Nat.mod_eq_of_lt hj,List.getD_eq_getElem?_getD,List.getElem?_eq_getElem hj]; exact e
 rw[←e2];exact Mk (h.nr j)
structure Bd (x2 x3:Nat) (x4 x5:Int):Prop where
 at_:x2<256
 to:x3<256
 x:nL x4
 y:nL x5
theorem MS {B:Int→Option (Int ⊕ (Unit ⊕ Unit))} (hB:∀i:Nat,i<4→B (i:Int)=some (.inl ((i+1:Nat):Int))) (hE:B 4=some (.inr (.inr ()))) {n:Nat} (hn:4<n):cq B n 0=some (.inr ()):=by
 obtain⟨n,rfl⟩:∃m,n=m+5:=⟨n-5,by omega⟩
 rw[show(0:Int)=((0:Nat):Int) from rfl,bp (hB 0 (by decide)),bp (hB 1 (by decide)),bp (hB 2 (by decide)),bp (hB 3 (by decide)),show((3+1:Nat):Int)=4 from rfl,bN hE]
theorem pQ {σ τ ρ:Type} {B:τ→Option (τ ⊕ ρ)} {len:Nat} (st:Nat→σ→τ) (inv:Nat→σ→Prop) (Post:ρ→Prop)
  (hB:∀i s,i<len→inv i s→(∃s',B (st i s)=some (.inl (st (i+1) s'))∧inv (i+1) s')∨∃r,B (st i s)=some (.inr r)∧Post r)
  (hE:∀s,inv len s→∃r,B (st len s)=some (.inr r)∧Post r):∀(k i:Nat) (s:σ) (n:Nat),i+k=len→k<n→inv i s→∃r,cq B n (st i s)=some r∧Post r
 | 0,i,s,n+1,h,_,hi=>by
  rw[Nat.add_zero] at h; subst h;obtain⟨r,h1,h2⟩:=hE s hi;exact⟨r,bN h1,h2⟩
 | k+1,i,s,n+1,h,hn,hi=>by
  rcases hB i s (by omega) hi with⟨s',h1,h2⟩|⟨r,h1,h2⟩
  ·rw[bp h1]; exact pQ st inv Post hB hE k (i+1) s' n (by omega) (by omega) h2
  ·exact⟨r,bN h1,h2⟩
theorem pM {f:Nat→Int} (h:∀i,-8000000000000≤f i∧f i≤8000000000000):∀n:Nat,-(8000000000000*(n:Int))≤bT n f∧bT n f≤8000000000000*(n:Int)
 | 0=>by simp[bT]
 | n+1=>by
  have h1:=pM h n;have h2:=h n;simp only[bT];omega
section
variable {l : List I2} (n : Nat)
def LJ (l:List I2) (o:I2) (i:Nat):Int:=((nx l i).1-o.1)*((nx l (i+1)).2-o.2)-((nx l i).2-o.2)*((nx l (i+1)).1-o.1)
theorem Le {a b o:I2} (ha:Nr a) (hb:Nr b) (ho:Nr o) : -8000000000000≤(a.1-o.1)*(b.2-o.2)-(a.2-o.2)*(b.1-o.1)∧(a.1-o.1)*(b.2-o.2)-(a.2-o.2)*(b.1-o.1)≤8000000000000:=by
 unfold Nr at ha hb ho;have m1:=cL (B:=2000000) (C:=2000000) (u:=a.1-o.1) (v:=b.2-o.2) (by decide) (by omega) (by omega) (by omega) (by omega)
 have m2:=cL (B:=2000000) (C:=2000000) (u:=a.2-o.2) (v:=b.1-o.1) (by decide) (by omega) (by omega) (by omega) (by omega)
 omega
theorem Kw {a b o:I2} (ha:Nr a) (hb:Nr b) (ho:Nr o) {s:Int} (hs : -8000000000000000≤s∧s≤8000000000000000) :
  IntKind.wrap .i64 (IntKind.wrap .i64 (s+IntKind.wrap .i64 ((IntKind.wrap .i64 (a.1-o.1))*(IntKind.wrap .i64 (b.2-o.2))))-IntKind.wrap .i64 ((IntKind.wrap .i64 (a.2-o.2))*(IntKind.wrap .i64 (b.1-o.1))))=s+((a.1-o.1)*(b.2-o.2)-(a.2-o.2)*(b.1-o.1)):=by
 unfold Nr at ha hb ho;have m1:=cL (B:=2000000) (C:=2000000) (u:=a.1-o.1) (v:=b.2-o.2) (by decide) (by omega) (by omega) (by omega) (by omega)
 have m2:=cL (B:=2000000) (C:=2000000) (u:=a.2-o.2) (v:=b.1-o.1) (by decide) (by omega) (by omega) (by omega) (by omega)
 rw[aq (x:=a.1-o.1) (by omega) (by omega),aq (x:=b.2-o.2) (by omega) (by omega),aq (x:=a.2-o.2) (by omega) (by omega),aq (x:=b.1-o.1) (by omega) (by omega)]
 generalize (a.1-o.1)*(b.2-o.2)=u at *;generalize (a.2-o.2)*(b.1-o.1)=v at *;rw[aq (x:=u) (by omega) (by omega),aq (x:=v) (by omega) (by omega),aq (x:=s+u) (by omega) (by omega),aq (by omega) (by omega)]
 omega
theorem G1 (h:0<l.length):bV 0 l.length=true:=decide_eq_true ⟨Int.le_refl 0,h⟩
theorem Gc (h:0<l.length):l[(0:Int).toNat]? = some ((nx l 0).1,(nx l 0).2):=dJ (i:=0) h
open Classical in
theorem B2 (h64:Er l) (hn:l.length<n) (h5:41<n):I5 n l=some (if mh l then(jl l,0) else(0,140)):=by
 unfold I5;rw[qM n h64 hn h5,al]
 by_cases h:mh l
 ·have hok:=lK.1 h;have hL:=hok.len;have h3:=hok.vr.n3;have hnr:=hok.nr;have hb:∀i,-8000000000000≤LJ l (nx l 0) i∧LJ l (nx l 0) i≤8000000000000:=fun i=>Le (hnr i) (hnr (i+1)) (hnr 0);have L:∃r,cq (rR n l) n (((0:Nat):Int),(0:Int))=some r∧r=jl l:=by
   refine pQ (len:=l.length) (fun i (s:Int)=>((i:Int),s)) (fun i s=>s=bT i (LJ l (nx l 0))) _ (fun i s hi hs=>?_) (fun s hs=>?_) l.length 0 0 n (by omega) hn rfl
   ·have hbi:=pM hb i;refine .inl ⟨s+LJ l (nx l 0) i,?_,by rw[hs]; rfl⟩
    unfold rR
    try dsimp only
    rw[aO (by omega),aI hi,aW,dJ hi,al]
    try dsimp only
    rw[aS (by omega),gX i hi (by omega)]
    try dsimp only
    rw[G1 (by omega),aW,Gc (by omega),al]
    try dsimp only
    rw[aW,al,aW,aW,al,al,Kw (hnr i) (hnr (i+1)) (hnr 0) (by rw[hs]; omega)]
    rfl
   ·refine⟨s,?_,by rw[hs]; exact vo l (nx l 0)⟩
    unfold rR
    try dsimp only
    rw[aH (by omega)]
  obtain⟨r,h1,h2⟩:=L;have h1':cq (rR n l) n (0,0)=some r:=h1;rw[if_pos h,if_pos h,show(!decide ((0:Int)=0))=false from rfl,cr,al,h1',al,al,h2]
 ·rw[if_neg h,if_neg h]; rfl
def lu (p:Nat→Bool):Nat→Bool
 | 0=>false
 | i+1=>lu p i || p i
def lf (l:List I2) (i:Nat):Bool:=decide (0<ti (nx l i) (nx l (i+1)) (nx l (i+2)))
def rt (l:List I2) (i:Nat):Bool:=decide (ti (nx l i) (nx l (i+1)) (nx l (i+2))<0)
def zt (l:List I2) (i:Nat):Bool:=decide (ti (nx l i) (nx l (i+1)) (nx l (i+2))=0)
def yY (l:List I2):Bool:=!(lu (lf l) l.length == lu (rt l) l.length)
theorem DG {i:Nat} (h:i<1000000):IntKind.wrap .i64 ((i:Int)+2)=((i+2:Nat):Int):=by rw[aq (by omega) (by omega)]; rfl
theorem Di (i:Nat) (hl:0<l.length) {β:Type} (K:Int × Int→Option β) :
  gd (decide ((l.length:Int)≠0)) (gd (bV (Int.tmod ((i+2:Nat):Int) (l.length:Int)) l.length) (ob (l[(Int.tmod ((i+2:Nat):Int) (l.length:Int)).toNat]?) K))=K ((nx l (i+2)).1,(nx l (i+2)).2):=by
 have hm:(i+2)%l.length<l.length:=Nat.mod_lt _ (by omega)
 rw[decide_eq_true (show((l.length:Nat):Int)≠0 by omega),aW,mW,aI hm,aW,dJ hm,al,nP]
open Classical in
theorem Jv (h64:Er l) (hn:l.length<n) (h5:41<n):JW n l=some (if mh l then(yY l,0) else(false,140)):=by
 unfold JW;rw[qM n h64 hn h5,al]
 by_cases h:mh l
 ·have hok:=lK.1 h;have hL:=hok.len;have h3:=hok.vr.n3;have hnr:=hok.nr;have L:∃r,cq (se n l) n (((0:Nat):Int),[false,false,false])=some r∧r = [lu (rt l) l.length,lu (zt l) l.length,lu (lf l) l.length]:=by
   refine pQ (len:=l.length) (fun i (s:List Bool)=>((i:Int),s)) (fun i s=>s = [lu (rt l) i,lu (zt l) i,lu (lf l) i]) _ (fun i s hi hs=>?_) (fun s hs=>?_) l.length 0 [false,false,false] n (by omega) hn rfl
   ·refine .inl ⟨[lu (rt l) (i+1),lu (zt l) (i+1),lu (lf l) (i+1)],?_,rfl⟩;unfold se
    try dsimp only
    rw[aO (by omega),aI hi,aW,dJ hi,al]
    try dsimp only
    rw[aS (by omega),gX i hi (by omega)]
    try dsimp only
    rw[DG (by omega),Di i (by omega)]
    try dsimp only
    rw[ju n (hnr i) (hnr (i+1)) (hnr (i+2)),al,hs];simp only[lu,rt,lf,zt];generalize ti (nx l i) (nx l (i+1)) (nx l (i+2))=z;rcases Int.lt_trichotomy z 0 with g|g|g
    ·rw[show sg z = -1 by unfold sg; rw[if_pos g],decide_eq_true g,decide_eq_false (show ¬z=0 by omega),decide_eq_false (show ¬0<z by omega),Bool.or_true,Bool.or_false,Bool.or_false]
     rfl
    ·rw[show sg z=0 by rw[g]; rfl,decide_eq_false (show ¬z<0 by omega),decide_eq_true g,decide_eq_false (show ¬0<z by omega),Bool.or_true,Bool.or_false,Bool.or_false]
     rfl
    ·rw[show sg z=1 by unfold sg; rw[if_neg (by omega),if_pos g],decide_eq_false (show ¬z<0 by omega),decide_eq_false (show ¬z=0 by omega),decide_eq_true g,Bool.or_true,Bool.or_false,Bool.or_false]
     rfl
   ·refine⟨s,?_,hs⟩;unfold se
    try dsimp only
    rw[aH (by omega)]
  obtain⟨r,h1,h2⟩:=L;have h1':cq (se n l) n (0,[false,false,false])=some r:=h1;rw[if_pos h,if_pos h,show(!decide ((0:Int)=0))=false from rfl,cr,al,h1',al,al,h2]
  show some (!(lu (rt l) l.length == lu (lf l) l.length),(0:Int))=_
  unfold yY;cases lu (rt l) l.length<;>cases lu (lf l) l.length<;>rfl
 ·rw[if_neg h,if_neg h]; rfl
theorem vW (a:I2) (t:List I2) (ht:t.length<1000):∀(d m i:Nat) (c:List I2) (q:Int),t.length≤2*i+d→q=(t.length:Int)-1-(i:Int)→c.length=t.length+1→c[0]? = some a →
  (∀j,j<t.length→c[1+j]? = if j<i∨t.length-1-j<i then t[t.length-1-j]? else t[j]?)→d<m→i≤t.length →
   cq (rL n (a::t)) m (c,(i:Int),q)=some (a::t.reverse)
 | d,m+1,i,c,q,hd,hq,hc,h0,hj,hm,hi=>by
  have hlen:((a::t).length-1:Nat)=t.length:=by simp
  by_cases hlt:(i:Int)<q
  ·match d with
   | 0=>omega
   | d+1 =>
    obtain⟨k,hk⟩:∃k:Nat,q=(k:Int):=⟨t.length-1-i,by omega⟩
    subst hk;have hkt:k<t.length:=by omega
    have zS:i<t.length:=by omega
    have gk:c[1+k]? = some (t[k]'hkt):=by rw[hj k hkt,if_neg (by omega),List.getElem?_eq_getElem]
    have gi:c[1+i]? = some (t[i]'zS):=by rw[hj i zS,if_neg (by omega),List.getElem?_eq_getElem]
    have gk2:(c.set (1+i) ((t[k]'hkt).1,(t[k]'hkt).2))[1+k]? = some (t[k]'hkt):=by rw[List.getElem?_set_ne (by omega),gk]
    rw[bp (s':=((c.set (1+i) (t[k]'hkt)).set (1+k) (t[i]'zS),((i+1:Nat):Int),(k:Int)-1))]
    ·refine vW a t ht (d-1) m (i+1) _ _ (by omega) (by omega) (by rw[List.length_set,List.length_set]; exact hc) (by rw[List.getElem?_set_ne (by omega),List.getElem?_set_ne (by omega)]; exact h0) (fun j hjt=>?_) (by omega) (by omega)
     by_cases e1:j=k
     ·subst e1;rw[List.getElem?_set_self (by rw[List.length_set]; omega),if_pos (by omega),show t.length-1-j=i by omega,List.getElem?_eq_getElem]
     ·rw[List.getElem?_set_ne (by omega)]
      by_cases e2:j=i
      ·subst e2;rw[List.getElem?_set_self (by omega),if_pos (by omega),show t.length-1-j=k by omega,List.getElem?_eq_getElem]
      ·rw[List.getElem?_set_ne (by omega),hj j hjt]
       by_cases e3:j<i∨t.length-1-j<i
       ·rw[if_pos e3,if_pos (by omega)]
       ·rw[if_neg e3,if_neg (by omega)]
    ·unfold rL
     try dsimp only
     rw[aO hlt,hlen,aI hkt,aW,Int.toNat_natCast,Int.toNat_natCast,gk,al]
     try dsimp only
     rw[aI zS,aW,gi,al]
     try dsimp only
     rw[aW,aW,gk2,al]
     try dsimp only
     rw[aS (by omega),aq (by omega) (by omega)]
  ·rw[bN (r:=c)]
   ·congr 1
    refine List.ext_getElem? fun j=>?_
    match j with
    | 0=>rw[h0]; rfl
    | j+1 =>
     rw[List.getElem?_cons_succ]
     by_cases hjt:j<t.length
     ·rw[Nat.add_comm,hj j hjt,List.getElem?_reverse hjt]
      split
      ·rfl
      ·congr 1; omega
     ·rw[List.getElem?_eq_none (by omega),List.getElem?_eq_none (by rw[List.length_reverse]; omega)]
   ·unfold rL
    try dsimp only
    rw[aH hlt]
open Classical in
theorem EG (h64:Er l) (hn:l.length<n) (h5:41<n):I9 n l=some (if mh l then(rv l,0) else([],140)):=by
 unfold I9;rw[qM n h64 hn h5,al]
 by_cases h:mh l
 ·have hok:=lK.1 h;have hL:=hok.len;have h3:=hok.vr.n3
  match l,hok with
  | [],_=>simp at h3
  | a::t,_ =>
   simp only[List.length_cons] at hL h3 hn;have L:=vW n a t (by omega) t.length n 0 (a::t) ((t.length:Int)-1) (by omega) (by omega) rfl rfl (fun j hj=>by rw[if_neg (by omega),Nat.add_comm,List.getElem?_cons_succ]) (by omega) (Nat.zero_le _)
   have e:IntKind.wrap .i64 ((((a::t).length-1:Nat):Int)-1)=(t.length:Int)-1:=by
    simp only[List.length_cons,Nat.add_sub_cancel]; exact aq (by omega) (by omega)
   have L':cq (rL n (a::t)) n (a::t,0,(t.length:Int)-1)=some (a::t.reverse):=L;unfold LC;rw[if_pos h,if_pos h,show(!decide ((0:Int)=0))=false from rfl,cr,show lim (a::t).length=true from Nat.ble_eq_true_of_le (by simp; omega),aW,al,mc (by simp; omega),e,L',al,al]
   rfl
 ·rw[if_neg h,if_neg h]; rfl
open Classical in
noncomputable def side (l:List I2) (p:I2):Int:=if ∃i,i<l.length∧dD (nx l i) (nx l (i+1)) p then 1 else if jq l p=0 then 0 else 2
theorem Co (l:List I2) (p:I2):∀i:Nat,-(i:Int)≤bT i (fun i=>wi (nx l i) (nx l (i+1)) p)∧bT i (fun i=>wi (nx l i) (nx l (i+1)) p)≤(i:Int)
 | 0=>by simp[bT]
 | i+1=>by
  have h1:=Co l p i;have h2:=EA (nx l i) (nx l (i+1)) p;simp only[bT];omega
open Classical in
theorem Dz (h64:Er l) {p:I2} (hp:nL p.1∧nL p.2) (hn:l.length<n) (h5:41<n):EN n l p.1 p.2=some (if mh l then(if Fa p then(0,2) else(side l p,0)) else(0,140)):=by
 unfold EN;rw[qM n h64 hn h5,al]
 by_cases h:mh l
 ·have hok:=lK.1 h;have hL:=hok.len;have h3:=hok.vr.n3;have hnr:=hok.nr;rw[if_pos h,if_pos h,show(!decide ((0:Int)=0))=false from rfl,cr,Dd n hp.1 hp.2,al]
  by_cases hf:Fa p
  ·rw[aO (show Fa (p.1,p.2) from hf),if_pos hf]
  ·have hpn:Nr p:=Ev.1 hf;rw[aH (show ¬Fa (p.1,p.2) from hf),if_neg hf,al]
   have L:∃r,cq (pD n l p.1 p.2) n (((0:Nat):Int),(0:Int))=some r∧match r with
     | .inl _=>∃i,i<l.length∧dD (nx l i) (nx l (i+1)) p
     | .inr w=>(∀i,i<l.length→¬dD (nx l i) (nx l (i+1)) p)∧w=jq l p:=by
    refine pQ (len:=l.length) (fun i (s:Int)=>((i:Int),s)) (fun i s=>(∀j,j<i→¬dD (nx l j) (nx l (j+1)) p)∧s=bT i fun i=>wi (nx l i) (nx l (i+1)) p) _ (fun i s hi hs=>?_) (fun s hs=>?_) l.length 0 0 n (by omega) hn ⟨fun j hj=>absurd hj (Nat.not_lt_zero _),rfl⟩
    ·have hw:=Co l p i;have hwi:=EA (nx l i) (nx l (i+1)) p;have hbase:pD n l p.1 p.2 ((i:Int),s)=if dD (nx l i) (nx l (i+1)) p then some (.inr (.inl s)) else some (.inl (((i+1:Nat):Int),s+wi (nx l i) (nx l (i+1)) p)):=by
      unfold pD
      try dsimp only
      rw[aO (by omega),aI hi,aW,dJ hi,al]
      try dsimp only
      rw[aS (by omega),gX i hi (by omega)]
      try dsimp only
      rw[yz n _ (hnr i) (hnr (i+1)) hpn (hok.vr.still i) (by omega),al]
      by_cases hb:dD (nx l i) (nx l (i+1)) p
      ·rw[aO hb,al,if_pos hb]
      ·rw[aH hb,if_neg hb,ju n (hnr i) (hnr (i+1)) hpn,al,dS,dS,al];have s1:=qG (z:=ti (nx l i) (nx l (i+1)) p);have s2:=p5 (z:=ti (nx l i) (nx l (i+1)) p);unfold wi
       by_cases c1:(nx l i).2≤p.2∧p.2<(nx l (i+1)).2∧0<ti (nx l i) (nx l (i+1)) p
       ·rw[if_pos c1,decide_eq_true c1.1,decide_eq_true c1.2.1,decide_eq_true (s1.2 c1.2.2),Bool.true_and,Bool.true_and,gS,al,aq (by rw[hs.2]; omega) (by rw[hs.2]; omega)]
       ·have e1:(decide ((nx l i).2≤p.2) && (decide (p.2<(nx l (i+1)).2) && decide (0<sg (ti (nx l i) (nx l (i+1)) p))))=false:=by
         rw[←Bool.decide_and,←Bool.decide_and]; exact decide_eq_false fun g=>c1 ⟨g.1,g.2.1,s1.1 g.2.2⟩
        rw[if_neg c1,e1,cr,dS,dS,al]
        by_cases c2:(nx l (i+1)).2≤p.2∧p.2<(nx l i).2∧ti (nx l i) (nx l (i+1)) p<0
        ·rw[if_pos c2,decide_eq_true c2.1,decide_eq_true c2.2.1,decide_eq_true (s2.2 c2.2.2),Bool.true_and,Bool.true_and,gS,al,aq (by rw[hs.2]; omega) (by rw[hs.2]; omega)]
         rfl
        ·have e2:(decide (p.2<(nx l i).2) && (decide ((nx l (i+1)).2≤p.2) && decide (sg (ti (nx l i) (nx l (i+1)) p)<0)))=false:=by
          rw[←Bool.decide_and,←Bool.decide_and]; exact decide_eq_false fun g=>c2 ⟨g.2.1,g.1,s2.1 g.2.2⟩
         rw[if_neg c2,e2,cr,al,Int.add_zero]
     by_cases hb:dD (nx l i) (nx l (i+1)) p
     ·exact .inr ⟨.inl s,by rw[hbase,if_pos hb],⟨i,hi,hb⟩⟩
     ·refine .inl ⟨s+wi (nx l i) (nx l (i+1)) p,by rw[hbase,if_neg hb],fun j hj=>?_,by rw[hs.2]; rfl⟩
      by_cases e:j=i
      ·rw[e]; exact hb
      ·exact hs.1 j (by omega)
    ·refine⟨.inr s,?_,hs.1,hs.2⟩;unfold pD
     try dsimp only
     rw[aH (by omega)]
   obtain⟨r,h1,h2⟩:=L;have h1':cq (pD n l p.1 p.2) n (0,0)=some r:=h1;rw[h1',al];unfold side;cases r with
   | inl s =>
    dsimp only at h2
    rw[if_pos h2]
    rfl
   | inr w =>
    obtain⟨g1,g2⟩:=h2;rw[if_neg (fun⟨i,a,b⟩=>g1 i a b)]
    try dsimp only
    rw[al]
    try dsimp only
    rw[g2]
    by_cases e:jq l p=0
    ·rw[decide_eq_true e,Bool.not_true,cr,if_pos e]
    ·rw[decide_eq_false e,Bool.not_false,gS,if_neg e]
 ·rw[if_neg h,if_neg h]; rfl
end
section
variable (n : Nat)
end
section
variable (n : Nat)
end
theorem CQ {ρ:Type} {B:Int→Option (Int ⊕ ρ)} {e:ρ} {len n:Nat} (hB:∀i:Nat,i<len→B (i:Int)=some (.inl ((i+1:Nat):Int))) (hE:B (len:Int)=some (.inr e)) (hn:len<n):cq B n 0=some e:=by
 have:=dZ (f:=fun _=>none) (e:=e) (B:=B) (len:=len) (fun i hi=>hB i hi) hE len 0 n (by omega) hn
 rw[iC (fun _ _ _=>rfl)] at this;exact this
section
variable {S : I2 → Prop} {r l : List I2}
end
end Go.Proofs.YthmekkhpddehjaaGreat
end

section
namespace Go.Proofs.YthmekkhpddehjaaGreat
open Go Go.Ab Go.Ab.W Go.Ab.B Jd
open Ln (pj vD wv w5 u6 lw)
open Classical in
noncomputable def dec (x:Nat):Nat × Nat:=if h:∃p:Nat × Nat,0<p.1∧SF p.2∧x=p.1*p.1*p.2 then h.choose else(1,x)
theorem Ed {x s q:Nat} (hs:0<s) (hq:SF q) (e:x=s*s*q):dec x=(s,q):=by
 have h:∃p:Nat × Nat,0<p.1∧SF p.2∧x=p.1*p.1*p.2:=⟨(s,q),hs,hq,e⟩;unfold dec;rw[dif_pos h];obtain⟨h1,h2,h3⟩:=h.choose_spec;obtain⟨e1,e2⟩:=SF.uniq h2 hq h1 hs (by rw[←h3,e])
 exact Prod.ext e1 e2
theorem B5 {q:Nat} (h:SF q):dec q=(1,q):=Ed (by decide) h (by simp)
theorem lV (n:Nat) {x:Nat} (h0:0<x) (hx:x≤10000000000000) (hn:22000<n):xB n (x:Int)=some (((dec x).1:Int),((dec x).2:Int))∧0<(dec x).1∧SF (dec x).2∧x=(dec x).1*(dec x).1*(dec x).2:=by
 obtain⟨s,q,h1,h2,h3,h4⟩:=GY n h0 hx hn;rw[Ed h2 h3 h4];exact⟨h1,h2,h3,h4⟩
theorem Ej {x:Nat} (h:0<(dec x).1∧SF (dec x).2∧x=(dec x).1*(dec x).1*(dec x).2):(dec x).2≤x:=by
 have e:=h.2.2;generalize dec x=d at *;rw[e];exact Nat.le_mul_of_pos_left _ (Nat.mul_pos h.1 h.1)
structure Tms (T:List (Nat × Nat)):Prop where
 len:T.length≤200
 t0:∀t ∈ T,0<t.1∧t.1≤1000000000000000
 u0:∀t ∈ T,0<t.2∧t.2≤10000000000000
def Fz (t:Nat × Nat):Int × Int:=((t.1:Int),(t.2:Int))
noncomputable def one (t:Nat × Nat) (k:Nat):Nat:=if (dec t.2).2=k then t.1*(dec t.2).1 else 0
noncomputable def Su:List (Nat × Nat)→Nat→Nat
 | [],_=>0
 | t::T,k=>one t k+Su T k
theorem yp (A B:List (Nat × Nat)) (k:Nat):Su (A++B) k=Su A k+Su B k:=by
 induction A with
 | nil=>simp[Su]
 | cons a A ih=>rw[List.cons_append]; simp only[Su]; rw[ih]; omega
structure RelM (M:List (Int × Bool × List Nat)) (f:Nat→Nat):Prop where
 nd:(M.map (·.1)).Nodup
 el:∀e ∈ M,∃k:Nat,e=((k:Int),false,[f k])∧0<f k
 all:∀k:Nat,0<f k→((k:Int),false,[f k]) ∈ M
theorem mP {β:Type} {k:Int}:∀{xs:List (Int × β)} {i:Nat} {v:β},(k,v) ∈ xs→dB k xs i≠none
 | [],_,_,h=>by cases h
 | x::xs,i,v,h=>by
  unfold dB
  split
  ·simp
  ·rename_i hk;rcases List.mem_cons.1 h with e|h
   ·exact absurd (congrArg Prod.fst e) hk
   ·exact mP h
section
variable {M : List (Int × Bool × List Nat)} {f : Nat → Nat}
theorem RelM.get (h:RelM M f) (k:Nat):(iu M (k:Int)).getD (false,[])=(false,lw (f k)):=by
 unfold iu;cases hf:dB (k:Int) M 0 with
 | none =>
  by_cases h0:f k=0
  ·unfold lw; rw[if_pos h0]; rfl
  ·exact absurd hf (mP (h.all k (by omega)))
 | some p =>
  have hm:=List.mem_of_getElem? (fx (k:Int) M 0 p hf).2.2;obtain⟨j,e,h0⟩:=h.el _ hm;have e1:k=j:=by have:=congrArg Prod.fst e; dsimp only at this; omega
  subst e1;have e2:p.2=(false,[f k]):=congrArg Prod.snd e;rw[Option.map_some,e2];unfold lw;rw[if_neg (by omega)]; rfl
theorem RelM.put (h:RelM M f) (k:Nat) {c:Nat} (hc:0<c):RelM (gV M (k:Int) (false,[c])) (fun j=>if j=k then c else f j):=by
 unfold gV;cases hf:dB (k:Int) M 0 with
 | none =>
  have hk:∀v,((k:Int),v) ∉ M:=fun v hv=>mP hv hf
  dsimp only
  refine⟨?_,fun e he=>?_,fun j hj=>?_⟩
  ·rw[List.map_append,List.map_cons,List.map_nil];refine List.nodup_append.2 ⟨h.nd,by simp,fun a ha b hb=>?_⟩
   rw[List.mem_singleton] at hb;subst hb;rintro rfl;obtain⟨e,he,h2⟩:=List.mem_map.1 ha;exact hk e.2 ((show((k:Int),e.2)=e from Prod.ext h2.symm rfl) ▸ he)
  ·rcases List.mem_append.1 he with he|he
   ·obtain⟨j,e1,h0⟩:=h.el e he;have:j≠k:=fun c=>hk _ (by rw[e1,c] at he; exact he)
    exact⟨j,by rw[if_neg this]; exact e1,by rw[if_neg this]; exact h0⟩
   ·rw[List.mem_singleton] at he;exact⟨k,by rw[if_pos rfl]; exact he,by rw[if_pos rfl]; exact hc⟩
  ·by_cases e:j=k
   ·subst e; rw[if_pos rfl]; simp
   ·rw[if_neg e] at hj ⊢;exact List.mem_append_left _ (h.all j hj)
 | some p =>
  obtain⟨_,hl,hp⟩:=fx (k:Int) M 0 p hf;rw[Nat.sub_zero] at hp;have hpl:p.1<M.length:=by omega
  have hkeys:(M.set p.1 ((k:Int),(false,[c]))).map (·.1)=M.map (·.1):=by
   rw[List.map_set];refine List.ext_getElem? fun i=>?_
   by_cases e:p.1=i
   ·subst e;rw[List.getElem?_set_self (by simpa using hpl),List.getElem?_map,hp]; rfl
   ·rw[List.getElem?_set_ne e]
  have uniq:∀(i:Nat) (e:Int × Bool × List Nat),M[i]? = some e→e.1=(k:Int)→i=p.1:=fun i e hi he=>by
   have h1:(M.map (·.1))[i]? = some (k:Int):=by rw[List.getElem?_map,hi,Option.map_some,he]
   have h2:(M.map (·.1))[p.1]? = some (k:Int):=by rw[List.getElem?_map,hp]; rfl
   have hi':i<(M.map (·.1)).length:=(List.getElem?_eq_some_iff.1 h1).1;exact(List.getElem?_inj hi' h.nd).1 (h1.trans h2.symm)
  dsimp only
  refine⟨by rw[hkeys]; exact h.nd,fun e he=>?_,fun j hj=>?_⟩
  ·obtain⟨i,hi,e2⟩:=List.mem_iff_getElem.1 he;have hi2:(M.set p.1 ((k:Int),(false,[c])))[i]? = some e:=by rw[List.getElem?_eq_getElem hi,e2]
   by_cases ei:p.1=i
   ·subst ei;rw[List.getElem?_set_self hpl] at hi2;exact⟨k,by rw[if_pos rfl]; exact(Option.some.inj hi2).symm,by rw[if_pos rfl]; exact hc⟩
   ·rw[List.getElem?_set_ne ei] at hi2;obtain⟨j,e1,h0⟩:=h.el e (List.mem_of_getElem? hi2);have:j≠k:=fun c=>ei (uniq i e hi2 (by rw[e1,c])).symm
    exact⟨j,by rw[if_neg this]; exact e1,by rw[if_neg this]; exact h0⟩
  ·by_cases e:j=k
   ·subst e; rw[if_pos rfl];exact List.mem_of_getElem? (List.getElem?_set_self hpl)
   ·rw[if_neg e] at hj ⊢;obtain⟨i,hi,e2⟩:=List.mem_iff_getElem.1 (h.all j hj);refine List.mem_of_getElem? (i:=i) ?_;rw[List.getElem?_set_ne (fun c=>?_),List.getElem?_eq_getElem hi,e2];subst c;rw[List.getElem?_eq_getElem hi,e2] at hp;have:=congrArg Prod.fst (Option.some.inj hp)
    dsimp only at this
    omega
theorem C8 (M:List (Int × Bool × List Nat)) (k:Int) (v:Bool × List Nat):(gV M k v).length≤M.length+1:=by
 unfold gV
 split<;>simp
end
theorem De {T:List (Nat × Nat)} {i:Nat} {t:Nat × Nat} (h:T[i]? = some t):(T.map Fz)[((i:Nat):Int).toNat]? = some ((t.1:Int),(t.2:Int)):=by
 rw[Int.toNat_natCast,List.getElem?_map,h]; rfl
section
variable (n : Nat) (hn : 22000 < n)
include hn
theorem CU {T:List (Nat × Nat)} (h:Tms T):cq (wA n (T.map Fz)) n 0=some (.inr ()):=by
 have hl:=h.len;refine CQ (len:=T.length) (fun i hi=>?_) ?_ (by omega)
 ·have ht:=h.t0 _ (List.getElem_mem hi);have hu:=h.u0 _ (List.getElem_mem hi);unfold wA;rw[List.length_map,aO (by omega),aI hi,aW,De (List.getElem?_eq_getElem hi),al]
  dsimp only
  have e:DW n ((T[i].1:Nat):Int) ((T[i].2:Nat):Int)=some false:=by
   unfold DW rl;rw[aH (by omega),aH (by omega),aO (by omega),al,decide_eq_true (by omega)]; rfl
  rw[e,al,cr,aS (by omega)]
 ·unfold wA;rw[List.length_map,aH (by omega)]
theorem pG {T:List (Nat × Nat)} (h:Tms T) (hb:∀k,Su T k≤1000000000000000):∀(rest done:List (Nat × Nat)) (m:Nat) (M:List (Int × Bool × List Nat)),T=done++rest→rest.length<m→RelM M (Su done)→M.length≤done.length →
  ∃M',cq (sy n (T.map Fz)) m (M,(done.length:Int))=some M'∧RelM M' (Su T)∧M'.length≤T.length
 | [],done,m+1,M,e,_,hM,hl=>by
  rw[List.append_nil] at e;subst e;refine⟨M,?_,hM,hl⟩;rw[bN];unfold sy
  dsimp only
  rw[List.length_map,aH (by omega)]
 | t::rest,done,m+1,M,e,hm,hM,hl=>by
  have ht:t ∈ T:=by rw[e]; simp
  have h0:=h.t0 t ht;have hu:=h.u0 t ht;have hlen:=h.len;have hT:T[done.length]? = some t:=by rw[e,List.getElem?_append_right (Nat.le_refl _),Nat.sub_self]; rfl
  have hi:done.length<T.length:=(List.getElem?_eq_some_iff.1 hT).1;obtain⟨f1,f2,f3,f4⟩:=lV n hu.1 hu.2 hn;have hk:=hb (dec t.2).2;have e1:Su (done++[t])=fun j=>if j=(dec t.2).2 then Su done (dec t.2).2+t.1*(dec t.2).1 else Su done j:=by
   funext j
   rw[yp];simp only[Su,one]
   by_cases c:j=(dec t.2).2
   ·subst c; simp
   ·rw[if_neg c,if_neg (fun k=>c k.symm)]; rfl
  have hle:Su done (dec t.2).2+t.1*(dec t.2).1≤Su T (dec t.2).2:=by
   have e2:Su T (dec t.2).2=Su (done++[t]) (dec t.2).2+Su rest (dec t.2).2:=by rw[e,←yp]; simp
   rw[e2,e1];simp
  have hpos:0<t.1*(dec t.2).1:=Nat.mul_pos h0.1 f2;have hs2:(dec t.2).1≤t.1*(dec t.2).1:=Nat.le_mul_of_pos_left _ h0.1;have hR:=hM.put (dec t.2).2 (c:=Su done (dec t.2).2+t.1*(dec t.2).1) (by omega)
  rw[←e1] at hR;have hl2:=C8 M ((dec t.2).2:Int) (false,[Su done (dec t.2).2+t.1*(dec t.2).1]);obtain⟨M',g1,g2,g3⟩:=pG h hb rest (done++[t]) m _ (by rw[e]; simp) (by simp at hm; omega) hR (by simp; omega)
  refine⟨M',?_,g2,g3⟩;rw[bp (s':=(gV M ((dec t.2).2:Int) (false,[Su done (dec t.2).2+t.1*(dec t.2).1]),((done++[t]).length:Int))),g1];unfold sy
  dsimp only
  rw[List.length_map,aO (by omega),aI hi,aW,De hT,al]
  dsimp only
  rw[aH (by omega),decide_eq_false (by omega),al,cr,f1,al]
  dsimp only
  rw[hM.get,al]
  dsimp only
  rw[pj (by omega) (x:=t.1) (by omega) (by omega),al]
  dsimp only
  rw[pj (by omega) (x:=(dec t.2).1) (by omega) (by omega),al]
  dsimp only
  rw[vD (by omega) (by omega) (by omega) (by omega),al]
  dsimp only
  rw[wv (by omega) (by omega) (by omega),al]
  dsimp only
  rw[al,aS (by omega)]
  simp
end
structure IsR (X:List (Int × Int)) (f:Nat→Nat):Prop where
 up:X.Pairwise fun a b=>a.2<b.2
 el:∀e ∈ X,∃k:Nat,e=((f k:Int),(k:Int))∧0<f k
 all:∀k:Nat,0<f k→((f k:Int),(k:Int)) ∈ X
theorem IsR.uniq {X Y:List (Int × Int)} {f:Nat→Nat} (h:IsR X f) (g:IsR Y f):X=Y:=by
 have nd:∀{Z:List (Int × Int)},IsR Z f→Z.Nodup:=fun hz=>by
  rw[List.nodup_iff_pairwise_ne];exact hz.up.imp fun h e=>by rw[e] at h; omega
 have hp:X.Perm Y:=(List.perm_ext_iff_of_nodup (nd h) (nd g)).2 fun e=>⟨fun he=>by
  obtain⟨k,rfl,h0⟩:=h.el e he;exact g.all k h0,fun he=>by
  obtain⟨k,rfl,h0⟩:=g.el e he;exact h.all k h0⟩
 exact List.Perm.eq_of_pairwise (le:=fun a b=>a.2<b.2) (fun a b _ _ h1 h2=>by omega) h.up g.up hp
theorem Ax:∀{l:List Int},l.Nodup→Bo l=true
 | [],_=>rfl
 | a::l,h=>by
  rw[List.nodup_cons] at h;unfold Bo;rw[Ax h.2,show l.contains a=false by simpa using h.1]; rfl
theorem Ic {l:List Int} (h:l.Nodup) (hr:∀k ∈ l,0≤k∧k<9223372036854775808) (hl:l.length≤1000):J2 l=true:=by
 unfold J2;rw[Ax h,Nat.ble_eq_true_of_le (by omega)]
 simp only[Bool.and_true,List.all_eq_true,Bool.and_eq_true,decide_eq_true_eq];intro k hk;have:=hr k hk;omega
theorem yy:∀{T:List (Nat × Nat)} {k:Nat},0<Su T k→∃t ∈ T,(dec t.2).2=k
 | [],_,h=>by cases h
 | t::T,k,h=>by
  by_cases e:(dec t.2).2=k
  ·exact⟨t,by simp,e⟩
  ·simp only[Su,one] at h;rw[if_neg e,Nat.zero_add] at h;obtain⟨s,hs,es⟩:=yy h;exact⟨s,by simp[hs],es⟩
section
variable (n : Nat) (hn : 22000 < n)
include hn
theorem qF {M:List (Int × Bool × List Nat)} {f:Nat→Nat} (hM:RelM M f) (hf:∀k,f k≤1000000000000000) {K:List Int} (hK:∀x ∈ K,∃k:Nat,x=k∧0<f k) (hKl:K.length<1000) :
  ∀(rest done:List Int) (m:Nat),K=done++rest→rest.length<m→cq (sA n K M) m (done.map fun x=>((f x.toNat:Int),x),(done.length:Int))=some (.inr (K.map fun x=>((f x.toNat:Int),x)))
 | [],done,m+1,e,_=>by
  rw[List.append_nil] at e;subst e;rw[bN];unfold sA
  dsimp only
  rw[aH (by omega)]
 | x::rest,done,m+1,e,hm=>by
  have hx:K[done.length]? = some x:=by rw[e,List.getElem?_append_right (Nat.le_refl _),Nat.sub_self]; rfl
  have hi:done.length<K.length:=(List.getElem?_eq_some_iff.1 hx).1;obtain⟨k,rfl,h0⟩:=hK x (by rw[e]; simp)
  have hb:=hf k;have ih:=qF hM hf hK hKl rest (done++[(k:Int)]) m (by rw[e]; simp) (by simp at hm; omega)
  rw[bp (s':=((done++[(k:Int)]).map fun x=>((f x.toNat:Int),x),((done++[(k:Int)]).length:Int))),ih];unfold sA
  dsimp only
  rw[aO (by omega),aI hi,aW,Int.toNat_natCast,hx,al,hM.get,al]
  dsimp only
  have elw:lw (f k) = [f k]:=by unfold lw; rw[if_neg (by omega)]
  rw[elw,w5 (by omega),al]
  dsimp only
  rw[u6 (by omega) (by omega),al]
  dsimp only
  have e0:rl n ((f k:Nat):Int)=some true:=by
   unfold rl;rw[aO (by omega),decide_eq_true (by omega)]
  rw[show(!decide ((0:Int)=0))=false from rfl,cr,cr,e0,al,Bool.not_true,al,cr,decide_eq_false (show ¬((f k:Nat):Int)=0 by omega),Bool.not_false,gS]
  rw[show lim (List.map (fun x=>((f x.toNat:Int),x)) done++[((f k:Int),(k:Int))]).length=true from Nat.ble_eq_true_of_le (by simp; omega),aW,al]
  dsimp only
  rw[aS (by omega)]
  simp
theorem B0 {T:List (Nat × Nat)} (h:Tms T) (hb:∀k,Su T k≤1000000000000000):∃X,J0 n (T.map Fz)=some (X,0)∧IsR X (Su T)∧X.length≤T.length:=by
 have hl:=h.len;obtain⟨M,g1,g0,g2⟩:=pG n hn h hb T [] n [] rfl (by omega) ⟨List.nodup_nil,fun e he=>(by cases he),fun k hk=>(by cases hk)⟩ (Nat.le_refl _)
 have hkeys:∀x:Int,x ∈ M.map (·.1)→∃k:Nat,x=k∧0<Su T k:=fun x hx=>by
  obtain⟨e,he,rfl⟩:=List.mem_map.1 hx;obtain⟨k,e0,h0⟩:=g0.el e he;exact⟨k,by rw[e0],h0⟩
 have hsmall:∀k,0<Su T k→k≤10000000000000:=fun k hk=>by
  obtain⟨t,ht,e⟩:=yy hk;have hu:=h.u0 t ht;have:=Ej (lV n hu.1 hu.2 hn).2;omega
 have hok:J2 (M.map (·.1))=true:=Ic g0.nd (fun x hx=>by
  obtain⟨k,rfl,h0⟩:=hkeys x hx;have:=hsmall k h0;omega) (by rw[List.length_map]; omega)
 have e1:EY n M=some (eH (M.map (·.1))):=by unfold EY; rw[hok,aW]
 have hK:∀x:Int,x ∈ eH (M.map (·.1))→∃k:Nat,x=k∧0<Su T k:=fun x hx=>hkeys x ((eA _).mem_iff.1 hx);have hKl:(eH (M.map (·.1))).length=M.length:=by rw[(eA _).length_eq,List.length_map]
 have hL:=qF n hn g0 hb hK (by omega) (eH (M.map (·.1))) [] n rfl (by omega)
 refine⟨(eH (M.map (·.1))).map fun x=>((Su T x.toNat:Int),x),?_,⟨?_,fun e he=>?_,fun k hk=>?_⟩,by rw[List.length_map]; omega⟩
 ·unfold J0;rw[List.length_map,aH (by omega),CU n hn h,al]
  dsimp only
  rw[al,al,aH (by omega),show cq (sy n (T.map Fz)) n (([]:List (Int × Bool × List Nat)),0)=some M from g1,al,e1,al,
   show cq (sA n (eH (M.map (·.1))) M) n (([]:List (Int × Int)),0)=_ from hL,al]
  dsimp only
  rw[List.length_map,aH (by omega)]
 ·rw[List.pairwise_map];have hs:=iJ (M.map (·.1));have hnd:(eH (M.map (·.1))).Nodup:=(eA _).nodup_iff.2 g0.nd;rw[List.nodup_iff_pairwise_ne] at hnd;exact(hs.and hnd).imp fun h=>by dsimp only; omega
 ·obtain⟨x,hx,rfl⟩:=List.mem_map.1 he;obtain⟨k,rfl,h0⟩:=hK x hx;exact⟨k,by rw[Int.toNat_natCast],h0⟩
 ·refine List.mem_map.2 ⟨(k:Int),(eA _).mem_iff.2 (List.mem_map.2 ⟨_,g0.all k hk,rfl⟩),?_⟩;rw[Int.toNat_natCast]
structure Gd (f:Nat→Nat):Prop where
 sf:∀k,0<f k→SF k∧k≤10000000000000
omit hn in
theorem Gd.of {T:List (Nat × Nat)} (h:Tms T):Gd (Su T):=⟨fun k hk=>by
 obtain⟨t,ht,e⟩:=yy hk;have hu:=h.u0 t ht;have:=(lV 30000 hu.1 hu.2 (by decide)).2
 have h2:=Ej this;rw[e] at h2;exact⟨e ▸ this.2.1,by omega⟩⟩
theorem C7 {X:List (Int × Int)} {f:Nat→Nat} (h:IsR X f) (g:Gd f) (hf:∀k,f k≤1000000000000000) (hl:X.length≤200):JX n X=some 0:=by
 have key:∀(rest done:List (Int × Int)) (m:Nat) (last:Int),X=done++rest→rest.length<m→(∀e ∈ rest,last<e.2)→cq (si n X) m (last,(done.length:Int))=some (.inr ()):=by
  intro rest
  induction rest with
  | nil =>
   intro done m last e hm _;obtain⟨m,rfl⟩:∃j,m=j+1:=⟨m-1,by simp at hm; omega⟩
   rw[List.append_nil] at e;subst e;rw[bN];unfold si
   dsimp only
   rw[aH (by omega)]
  | cons x rest ih =>
   intro done m last e hm hlast;obtain⟨m,rfl⟩:∃j,m=j+1:=⟨m-1,by simp at hm; omega⟩
   have hx:X[done.length]? = some x:=by rw[e,List.getElem?_append_right (Nat.le_refl _),Nat.sub_self]; rfl
   have hi:done.length<X.length:=(List.getElem?_eq_some_iff.1 hx).1;have hup:=h.up;rw[e,List.pairwise_append] at hup;have h0:=List.pairwise_cons.1 hup.2.1;obtain⟨k,ek,h1⟩:=h.el x (by rw[e]; simp)
   have hk:=g.sf k h1;have hfk:=hf k;have hlk:=hlast x List.mem_cons_self;rw[ek] at hlk h0 hx
   dsimp only at hlk h0
   rw[bp (s':=((k:Int),((done++[x]).length:Int))),ih (done++[x]) m (k:Int) (by rw[e]; simp) (by simp at hm; omega) h0.1]
   have e0:rl n ((f k:Nat):Int)=some true:=by
    unfold rl;rw[aO (by omega),decide_eq_true (by omega)]
   have h2:0<k:=hk.1.1;unfold si
   dsimp only
   rw[aO (by omega),aI hi,aW,Int.toNat_natCast,hx,al]
   dsimp only
   rw[aH (by omega),aH (by omega),aH (by omega),e0,al,Bool.not_true,al,cr,(lV n h2 hk.2 hn).1,al,B5 hk.1]
   dsimp only
   rw[aH (by omega),aS (by omega)]
   simp
 unfold JX;rw[aH (by omega),show cq (si n X) n (0,0)=_ from key X [] n 0 rfl (by omega) (fun e he=>by
  obtain⟨k,rfl,h1⟩:=h.el e he;have:=(g.sf k h1).1.1
  dsimp only
  omega),al]
omit hn in
theorem Ao {f:Nat→Nat}:∀{A:List Nat},A.Nodup→(∀k ∈ A,SF k)→∀k,Su (A.map fun k=>(f k,k)) k=if k ∈ A then f k else 0
 | [],_,_,k=>rfl
 | a::A,h,hs,k=>by
  rw[List.nodup_cons] at h;rw[List.map_cons];simp only[Su,one];rw[Ao h.2 (fun k hk=>hs k (List.mem_cons_of_mem _ hk)),B5 (hs a List.mem_cons_self)]
  dsimp only
  by_cases e:a=k
  ·subst e;rw[if_pos rfl,if_neg h.1,if_pos List.mem_cons_self]; omega
  ·rw[if_neg e,Nat.zero_add]
   by_cases c:k ∈ A
   ·rw[if_pos c,if_pos (List.mem_cons_of_mem _ c)]
   ·rw[if_neg c,if_neg fun k'=>by
     rcases List.mem_cons.1 k' with k' | k'
     ·exact e k'.symm
     ·exact c k']
omit hn in
theorem IsR.nat {X:List (Int × Int)} {f:Nat→Nat} (h:IsR X f) (g:Gd f):∃T:List (Nat × Nat),X=T.map Fz∧(∀k,Su T k=f k)∧(∀t ∈ T,∃k,t=(f k,k)∧0<f k):=by
 have e:∀e ∈ X,e=((f e.2.toNat:Int),((e.2.toNat:Nat):Int))∧0<f e.2.toNat:=fun e he=>by
  obtain⟨k,rfl,h0⟩:=h.el e he
  dsimp only
  rw[Int.toNat_natCast];exact⟨rfl,h0⟩
 have hnd:(X.map fun e=>e.2.toNat).Nodup:=by
  rw[List.nodup_iff_pairwise_ne,List.pairwise_map];refine h.up.imp_of_mem fun {a b} ha hb hlt=>?_;obtain⟨k,rfl,_⟩:=h.el a ha;obtain⟨j,rfl,_⟩:=h.el b hb
  dsimp only at hlt ⊢
  omega
 refine⟨(X.map fun e=>e.2.toNat).map fun k=>(f k,k),?_,fun k=>?_,fun t ht=>?_⟩
 ·rw[List.map_map,List.map_map];have:X.map id=X.map (Fz ∘ (fun k=>(f k,k)) ∘ fun e:Int × Int=>e.2.toNat):=List.map_congr_left fun x hx=>(e x hx).1;rw[List.map_id] at this;exact this
 ·rw[Ao hnd (fun k hk=>by
   obtain⟨x,hx,rfl⟩:=List.mem_map.1 hk;exact(g.sf _ (e x hx).2).1)]
  by_cases c:0<f k
  ·rw[if_pos (List.mem_map.2 ⟨_,h.all k c,by dsimp only; omega⟩)]
  ·rw[if_neg fun hk=>by
    obtain⟨x,hx,rfl⟩:=List.mem_map.1 hk;exact c (e x hx).2]
   omega
 ·obtain⟨k,hk,rfl⟩:=List.mem_map.1 ht;obtain⟨x,hx,rfl⟩:=List.mem_map.1 hk;exact⟨_,rfl,(e x hx).2⟩
theorem JB {X Y:List (Int × Int)} {f g:Nat→Nat} (h:IsR X f) (k:IsR Y g) (hf:Gd f) (hg:Gd g) (hb:∀k,f k+g k≤1000000000000000) (hl:X.length+Y.length≤200) :
  ∃Z,Lz n X Y=some (Z,0)∧IsR Z (fun k=>f k+g k)∧Z.length≤X.length+Y.length:=by
 obtain⟨T,eX,sX,tX⟩:=h.nat hf;obtain⟨U,eY,sY,tY⟩:=k.nat hg;have hT:Tms (T++U):=by
  have l2:X.length=T.length:=by rw[eX,List.length_map]
  have l3:Y.length=U.length:=by rw[eY,List.length_map]
  refine⟨by rw[List.length_append]; omega,fun t ht=>?_,fun t ht=>?_⟩
  ·rcases List.mem_append.1 ht with ht|ht
   ·obtain⟨j,rfl,h0⟩:=tX t ht;have:=hb j; dsimp only; omega
   ·obtain⟨j,rfl,h0⟩:=tY t ht;have:=hb j; dsimp only; omega
  ·rcases List.mem_append.1 ht with ht|ht
   ·obtain⟨j,rfl,h0⟩:=tX t ht;have:=hf.sf j h0;exact⟨this.1.1,this.2⟩
   ·obtain⟨j,rfl,h0⟩:=tY t ht;have:=hg.sf j h0;exact⟨this.1.1,this.2⟩
 have hS:Su (T++U)=fun k=>f k+g k:=funext fun j=>by rw[yp,sX,sY]
 obtain⟨Z,z2,z1,z3⟩:=B0 n hn hT (fun j=>by rw[hS]; exact hb j)
 rw[hS] at z1;have hcat:X++Y=(T++U).map Fz:=by rw[List.map_append,←eX,←eY]
 refine⟨Z,?_,z1,by have:=congrArg List.length hcat; simp at this; simp at z3; omega⟩
 unfold Lz;rw[C7 n hn h hf (fun j=>by have:=hb j; omega) (by omega),al,show(!decide ((0:Int)=0))=false from rfl,cr,C7 n hn k hg (fun j=>by have:=hb j; omega) (by omega),al,al,show(!decide ((0:Int)=0))=false from rfl,cr]
 have e0:IntKind.wrap .i64 (0+(X.length:Int))=(X.length:Int):=by rw[aq (by omega) (by omega)]; omega
 have e1:IntKind.wrap .i64 ((X.length:Int)+(Y.length:Int))=((X.length+Y.length:Nat):Int):=by rw[aq (by omega) (by omega)]; omega
 have e2:IntKind.wrap .i64 (((X.length+Y.length:Nat):Int)-0)=((X.length+Y.length:Nat):Int):=by rw[aq (by omega) (by omega)]; omega
 rw[show bV 0 2=true from rfl,aW,show([X,Y]:List (List (Int × Int)))[(0:Int).toNat]? = some X from rfl,al,e0,aH (by omega),show bV 1 2=true from rfl,aW,show([X,Y]:List (List (Int × Int)))[(1:Int).toNat]? = some Y from rfl,al,e1,al,aH (by omega),e2]
 have e3:(br (decide ((0:Int)<((X.length+Y.length:Nat):Int))) (
   gd (decide ((0:Int)<((X.length+Y.length:Nat):Int))) (gd (lim (((X.length+Y.length:Nat):Int).toNat)) (
   gd (okB 0 0 (((X.length+Y.length:Nat):Int).toNat)) (
   gd (decide (0<(((X.length+Y.length:Nat):Int).toNat))) (
   ob (some ((List.replicate ((X.length+Y.length:Nat):Int).toNat ((0,0):Int × Int)).take (0:Int).toNat)) fun l1 =>
   some l1))))) (
   some ([]:List (Int × Int))))=some []:=by
  by_cases c:0<X.length+Y.length
  ·rw[aO (by omega),decide_eq_true (by omega),aW,show lim (((X.length+Y.length:Nat):Int).toNat)=true from Nat.ble_eq_true_of_le (by omega),aW,show okB 0 0 (((X.length+Y.length:Nat):Int).toNat)=true from decide_eq_true (by omega),aW,decide_eq_true (by omega),aW,al]; rfl
  ·rw[aH (by omega)]
 rw[e3,al,al,aW,al,List.nil_append,show lim X.length=true from Nat.ble_eq_true_of_le (by omega),aW,aW,al,show lim (X++Y).length=true from Nat.ble_eq_true_of_le (by rw[List.length_append]; omega),aW,al,hcat,z2,al]
end
end Go.Proofs.YthmekkhpddehjaaGreat
end

section
namespace Go.Proofs.YthmekkhpddehjaaGreat
open Go Go.Ab Go.Ab.W Go.Ab.B Jd
def d2 (a b:I2):Nat:=((b.1-a.1)*(b.1-a.1)+(b.2-a.2)*(b.2-a.2)).toNat
theorem KM {a b:I2} (ha:Nr a) (hb:Nr b) (hab:a≠b):0<d2 a b∧d2 a b≤8000000000000∧(b.1-a.1)*(b.1-a.1)+(b.2-a.2)*(b.2-a.2)=(d2 a b:Int)∧0≤(b.1-a.1)*(b.1-a.1)∧0≤(b.2-a.2)*(b.2-a.2):=by
 unfold Nr at ha hb;have s1:=@LD (b.1-a.1);have s2:=@LD (b.2-a.2);have m1:=cL (B:=2000000) (C:=2000000) (u:=b.1-a.1) (v:=b.1-a.1) (by decide) (by omega) (by omega) (by omega) (by omega)
 have m2:=cL (B:=2000000) (C:=2000000) (u:=b.2-a.2) (v:=b.2-a.2) (by decide) (by omega) (by omega) (by omega) (by omega)
 have h0:(b.1-a.1)*(b.1-a.1)+(b.2-a.2)*(b.2-a.2)≠0:=fun e=>hab (Prod.ext (by have:=K6 (show(b.1-a.1)*(b.1-a.1)=0 by omega); omega) (by have:=K6 (show(b.2-a.2)*(b.2-a.2)=0 by omega); omega))
 unfold d2;omega
theorem one_le {x:Nat} (h0:0<x) (hx:x≤8000000000000) (k:Nat):one (1,x) k≤3000000:=by
 have h:=(lV 30000 h0 (by omega) (by decide)).2
 unfold one
 dsimp only
 split
 ·rw[Nat.one_mul];refine Decidable.byContradiction fun c=>?_;have h1:3000001*3000001≤(dec x).1*(dec x).1:=qm (by omega)
  have h2:(dec x).1*(dec x).1≤x:=by
   have e:=h.2.2;generalize dec x=d at *;rw[e];exact Nat.le_mul_of_pos_right _ h.2.1.1
  omega
 ·omega
theorem zF {x:Nat} (h0:0<x) (hx:x≤8000000000000):Tms [(1,x)]:=⟨by simp,fun t ht=>by
 rw[List.mem_singleton] at ht; subst ht; dsimp only; omega,fun t ht=>by
 rw[List.mem_singleton] at ht; subst ht; dsimp only; omega⟩
theorem xS (x:Nat):Su [(1,x)]=one (1,x):=funext fun k=>by simp[Su]
theorem C9 {x:Nat} (h0:0<x) (hx:x≤8000000000000):Gd (one (1,x)):=by
 have:=Gd.of (zF h0 hx);rwa[xS] at this
section
variable (n : Nat) (hn : 22000 < n)
include hn
theorem Jq {a b:I2} (ha:Nr a) (hb:Nr b) (hab:a≠b):∃X,Ll n a.1 a.2 b.1 b.2=some (X,0)∧IsR X (one (1,d2 a b))∧X.length≤1:=by
 obtain⟨h1,h2,h3,h4,h5⟩:=KM ha hb hab;have ht:=zF h1 h2;obtain⟨X,x1,x2,x3⟩:=B0 n hn ht (fun k=>by rw[xS]; have:=one_le h1 h2 k; omega)
 rw[xS] at x2;refine⟨X,?_,x2,x3⟩;have hL:cq (w9 n a.1 a.2 b.1 b.2) n 0=some (.inr ()):=by
  refine MS (fun i hi=>?_) ?_ (by omega)
  ·have hq:∃q,[a.1,a.2,b.1,b.2][i]? = some q∧-1000000≤q∧q≤1000000:=by
    unfold Nr at ha hb
    match i,hi with
    | 0,_=>exact⟨_,rfl,by omega,by omega⟩
    | 1,_=>exact⟨_,rfl,by omega,by omega⟩
    | 2,_=>exact⟨_,rfl,by omega,by omega⟩
    | 3,_=>exact⟨_,rfl,by omega,by omega⟩
   obtain⟨q,q1,q2,q3⟩:=hq;unfold w9;rw[aO (by omega),aI hi,aW,Int.toNat_natCast,q1,al,aH (by omega),decide_eq_false (by omega),al,cr,aS (by omega)]
  ·unfold w9;rw[aH (by decide)]
 unfold Nr at ha hb;have e1:IntKind.wrap .i64 (a.1-b.1)=a.1-b.1:=aq (by omega) (by omega)
 have e2:IntKind.wrap .i64 (a.2-b.2)=a.2-b.2:=aq (by omega) (by omega)
 have n1:(a.1-b.1)*(a.1-b.1)=(b.1-a.1)*(b.1-a.1):=by grind
 have n2:(a.2-b.2)*(a.2-b.2)=(b.2-a.2)*(b.2-a.2):=by grind
 unfold Ll;rw[hL,al]
 dsimp only
 rw[e1,e2,n1,n2,aq (x:=(b.1-a.1)*(b.1-a.1)) (by omega) (by omega),al,aq (x:=(b.2-a.2)*(b.2-a.2)) (by omega) (by omega),al,h3,aq (by omega) (by omega)]
 have:([((1:Int),((d2 a b:Nat):Int))]:List (Int × Int)) = [(1,d2 a b)].map Fz:=rfl;rw[this,x1,al]
end
noncomputable def Sp (l:List I2):Nat→Nat→Nat
 | 0,_=>0
 | i+1,k=>Sp l i k+one (1,d2 (nx l i) (nx l (i+1))) k
section
variable {l : List I2} (h : Ok l)
include h
theorem Ok.d2 (i:Nat):0<d2 (nx l i) (nx l (i+1))∧YthmekkhpddehjaaGreat.d2 (nx l i) (nx l (i+1))≤8000000000000:=by
 have:=KM (h.nr i) (h.nr (i+1)) (h.vr.still i);exact⟨this.1,this.2.1⟩
theorem Ht (k:Nat):∀i,Sp l i k≤3000000*i
 | 0=>by simp[Sp]
 | i+1=>by
  have h1:=Ht k i;have h2:=one_le (h.d2 i).1 (h.d2 i).2 k;simp only[Sp]; omega
theorem Hx:∀i,Gd (Sp l i)
 | 0=>⟨fun k hk=>by simp[Sp] at hk⟩
 | i+1=>⟨fun k hk=>by
  by_cases c:0<Sp l i k
  ·exact(Hx i).sf k c
  ·refine(C9 (h.d2 i).1 (h.d2 i).2).sf k ?_;simp only[Sp] at hk; omega⟩
theorem El (n:Nat) (hn:22000<n):∃X,GH n l=some (X,0)∧IsR X (Sp l l.length)∧X.length≤l.length:=by
 have hL:=h.len;have h3:=h.vr.n3;obtain⟨r,h1,X,hr,h2⟩:=pQ (B:=rH n l) (len:=l.length) (σ:=List (Int × Int)) (fun i X=>((i:Int),X)) (fun i X=>IsR X (Sp l i)∧X.length≤i) (fun r=>∃X,r = .inr X∧IsR X (Sp l l.length)∧X.length≤l.length)
  (fun i X hi hX=>by
   left
   obtain⟨Y,y1,y2,y3⟩:=Jq n hn (h.nr i) (h.nr (i+1)) (h.vr.still i);obtain⟨Z,z1,z2,z3⟩:=JB n hn hX.1 y2 (Hx h i) (C9 (h.d2 i).1 (h.d2 i).2) (fun k=>by
    have k1:=Ht h k i;have k2:=one_le (h.d2 i).1 (h.d2 i).2 k;omega) (by omega)
   refine⟨Z,?_,z2,by omega⟩
   have hm:(i+1)%l.length<l.length:=Nat.mod_lt _ (by omega)
   unfold rH
   dsimp only
   rw[aO (by omega),aI hi,aW,dJ hi,al]
   dsimp only
   rw[aS (by omega),decide_eq_true (show((l.length:Nat):Int)≠0 by omega),aW,mW,aI hm,aW,dJ hm,al,nP]
   dsimp only
   rw[y1,al]
   dsimp only
   rw[show(!decide ((0:Int)=0))=false from rfl,cr,z1,al]
   dsimp only
   rw[show(!decide ((0:Int)=0))=false from rfl,cr,al])
  (fun X hX=>⟨.inr X,by
   unfold rH
   dsimp only
   rw[aH (by omega)],X,rfl,hX⟩) l.length 0 [] n (by omega) (by omega) ⟨⟨List.Pairwise.nil,fun e he=>(by cases he),fun k hk=>(by simp[Sp] at hk)⟩,Nat.le_refl _⟩
 subst hr;refine⟨X,?_,h2⟩;unfold GH;rw[qM n h.pt (by omega) (by omega),if_pos h.mh,al,show(!decide ((0:Int)=0))=false from rfl,cr,al,show cq (rH n l) n (0,([]:List (Int × Int)))=_ from h1,al]
 dsimp only
 rw[al]
end
theorem zc (l:List I2) (k:Nat):∀i,((Sp l i k:Nat):Int)=bT i fun j=>((one (1,d2 (nx l j) (nx l (j+1))) k:Nat):Int)
 | 0=>rfl
 | i+1=>by simp only[Sp,bT]; rw[←zc l k i]; omega
theorem yr {l:List I2} (hl:l≠[]) {f:I2→I2} (hf:∀a b,d2 (f a) (f b)=d2 a b) (k:Nat):∀i,Sp (l.map f) i k=Sp l i k
 | 0=>rfl
 | i+1=>by simp only[Sp]; rw[yr hl hf k i,bz _ hl,bz _ hl,hf]
theorem Fm (a b:I2):d2 b a=d2 a b:=by
 unfold d2
 congr 1
 grind
theorem K2 (l:List I2) (k:Nat):Sp (rv l) l.length k=Sp l l.length k:=by
 have h:=qa (r:=l) fun a b=>((one (1,d2 a b) k:Nat):Int);have h1:=zc (rv l) k l.length;have h2:=zc l k l.length;rw[h,] at h1;have h3:(bT l.length fun i=>((one (1,d2 (nx l (i+1)) (nx l i)) k:Nat):Int))=bT l.length fun i=>((one (1,d2 (nx l i) (nx l (i+1))) k:Nat):Int):=cg fun i _=>by rw[Fm]
 omega
theorem Jl (v a b:I2):d2 (fK v a) (fK v b)=d2 a b:=by
 unfold d2 fK
 dsimp only
 congr 1
 grind
theorem Ko (a b:I2):d2 (sw a) (sw b)=d2 a b:=by
 unfold d2 sw
 dsimp only
 congr 1
 grind
theorem uf {p:Nat→Bool}:∀{n:Nat},lu p n=true↔∃i,i<n∧p i=true
 | 0=>by simp[lu]
 | n+1=>by
  rw[lu,Bool.or_eq_true,uf];constructor
  ·rintro(⟨i,h1,h2⟩|h)
   ·exact⟨i,by omega,h2⟩
   ·exact⟨n,by omega,h⟩
  ·rintro⟨i,h1,h2⟩
   by_cases e:i=n
   ·subst e; exact .inr h2
   ·exact .inl ⟨i,by omega,h2⟩
theorem Df {p q:Nat→Bool} {n m:Nat} (h:(∃i,i<n∧p i=true)↔∃i,i<m∧q i=true):lu p n=lu q m:=by
 rw[Bool.eq_iff_iff,uf,uf]; exact h
theorem Fp {r:List I2} (hr:r≠[]) (v:I2):yY (r.map (fK v))=yY r:=by
 unfold yY;rw[List.length_map];have e1:lf (r.map (fK v))=lf r:=funext fun i=>by unfold lf; rw[bz _ hr,bz _ hr,bz _ hr,qb]
 have e2:rt (r.map (fK v))=rt r:=funext fun i=>by unfold rt; rw[bz _ hr,bz _ hr,bz _ hr,qb]
 rw[e1,e2]
theorem DL (a b c:I2):ti (sw a) (sw b) (sw c) = -ti a b c:=by unfold ti sw; grind
theorem Jz {r:List I2} (hr:r≠[]):yY (r.map sw)=yY r:=by
 unfold yY;rw[List.length_map];have e1:lf (r.map sw)=rt r:=funext fun i=>by
  unfold lf rt;rw[bz _ hr,bz _ hr,bz _ hr,DL,decide_eq_decide]; omega
 have e2:rt (r.map sw)=lf r:=funext fun i=>by
  unfold lf rt;rw[bz _ hr,bz _ hr,bz _ hr,DL,decide_eq_decide]; omega
 rw[e1,e2];cases lu (lf r) r.length<;>cases lu (rt r) r.length<;>rfl
theorem HY (a b c:I2):ti c b a = -ti a b c:=by unfold ti; grind
theorem JA {r:List I2} {i j:Nat} (h:(i+j+2)%r.length=0):nx (rv r) i=nx r (j+2)∧nx (rv r) (i+1)=nx r (j+1)∧nx (rv r) (i+2)=nx r j :=
 ⟨ji (by rw[show j+2+i=i+j+2 by omega]; exact h),ji (by rw[show j+1+(i+1)=i+j+2 by omega]; exact h),ji (by rw[show j+(i+2)=i+j+2 by omega]; exact h)⟩
theorem lM {n i:Nat} (hn:2<n) (hi:i<n):∃j,j<n∧(i+j+2)%n=0:=by
 by_cases h:i+2≤n
 ·exact⟨n-2-i,by omega,by rw[show i+(n-2-i)+2=n by omega,Nat.mod_self]⟩
 ·exact⟨n-1,by omega,by rw[show i+(n-1)+2=n+n by omega,Nat.add_mod_right,Nat.mod_self]⟩
theorem I7 {r:List I2} (hn:2<r.length):yY (rv r)=yY r:=by
 unfold yY;rw[gC];have key:∀i j,(i+j+2)%r.length=0→lf (rv r) i=rt r j∧rt (rv r) i=lf r j:=fun i j h=>by
  obtain⟨e1,e2,e3⟩:=JA h;unfold lf rt;rw[e1,e2,e3,HY,decide_eq_decide,decide_eq_decide];omega
 have e1:lu (lf (rv r)) r.length=lu (rt r) r.length:=Df ⟨fun⟨i,hi,h⟩=>by
  obtain⟨j,hj,e⟩:=lM hn hi;exact⟨j,hj,by rw[←(key i j e).1]; exact h⟩,fun⟨j,hj,h⟩=>by
  obtain⟨i,hi,e⟩:=lM hn hj;exact⟨i,hi,by rw[(key i j (by rw[Nat.add_comm i j]; exact e)).1]; exact h⟩⟩
 have e2:lu (rt (rv r)) r.length=lu (lf r) r.length:=Df ⟨fun⟨i,hi,h⟩=>by
  obtain⟨j,hj,e⟩:=lM hn hi;exact⟨j,hj,by rw[←(key i j e).2]; exact h⟩,fun⟨j,hj,h⟩=>by
  obtain⟨i,hi,e⟩:=lM hn hj;exact⟨i,hi,by rw[(key i j (by rw[Nat.add_comm i j]; exact e)).2]; exact h⟩⟩
 rw[e1,e2];cases lu (lf r) r.length<;>cases lu (rt r) r.length<;>rfl
theorem uL {r k:List I2} {p q:I2} (ho:(∃i,i<k.length∧dD (nx k i) (nx k (i+1)) q)↔∃i,i<r.length∧dD (nx r i) (nx r (i+1)) p) (hw:(∀i,i<r.length→¬dD (nx r i) (nx r (i+1)) p)→(jq k q=0↔jq r p=0)):side k q=side r p:=by
 unfold side
 by_cases h:∃i,i<r.length∧dD (nx r i) (nx r (i+1)) p
 ·rw[if_pos h,if_pos (ho.2 h)]
 ·rw[if_neg h,if_neg (fun c=>h (ho.1 c))];have:=hw fun i hi hb=>h ⟨i,hi,hb⟩
  by_cases e:jq r p=0
  ·rw[if_pos e,if_pos (this.2 e)]
  ·rw[if_neg e,if_neg (fun c=>e (this.1 c))]
theorem D4 {r:List I2} (hr:r≠[]) (v p:I2):side (r.map (fK v)) (fK v p)=side r p :=
 uL (by
  rw[List.length_map];constructor
  ·rintro⟨i,h1,h2⟩;rw[bz _ hr,bz _ hr] at h2;exact⟨i,h1,tQ.1 h2⟩
  ·rintro⟨i,h1,h2⟩;exact⟨i,h1,by rw[bz _ hr,bz _ hr]; exact tQ.2 h2⟩) fun _=>by rw[Ee hr]
theorem GS {r:List I2} (hr:r≠[]) (p:I2):side (r.map sw) (sw p)=side r p :=
 uL (by
  rw[List.length_map];constructor
  ·rintro⟨i,h1,h2⟩;rw[bz _ hr,bz _ hr] at h2;exact⟨i,h1,y8.1 h2⟩
  ·rintro⟨i,h1,h2⟩;exact⟨i,h1,by rw[bz _ hr,bz _ hr]; exact y8.2 h2⟩) fun h=>by rw[GJ hr h]; omega
theorem Am {r:List I2} {n i:Nat} (hn:r.length=n) (hi:i<n):nx (rv r) i=nx r (n-1-i+1)∧nx (rv r) (i+1)=nx r (n-1-i) :=
 ⟨ji (by rw[show n-1-i+1+i=n by omega,hn,Nat.mod_self]),ji (by rw[show n-1-i+(i+1)=n by omega,hn,Nat.mod_self])⟩
theorem GK (r:List I2) (p:I2):side (rv r) p=side r p :=
 uL (by
  rw[gC];constructor
  ·rintro⟨i,h1,h2⟩;obtain⟨e1,e2⟩:=Am rfl h1;rw[e1,e2] at h2;exact⟨r.length-1-i,by omega,h2.swap⟩
  ·rintro⟨i,h1,h2⟩;obtain⟨e1,e2⟩:=Am (r:=r) rfl (show r.length-1-i<r.length by omega)
   refine⟨r.length-1-i,by omega,?_⟩
   rw[e1,e2,show r.length-1-(r.length-1-i)=i by omega]
   exact h2.swap) fun _=>by rw[ET]; omega
theorem Ok.KT {r:List I2} (h:Ok r) : -400000000000000≤jl r∧jl r≤400000000000000:=by
 have hb:=pM (f:=fun i=>(nx r i).1*(nx r (i+1)).2-(nx r i).2*(nx r (i+1)).1) (fun i=>by
  have a:=h.nr i;have b:=h.nr (i+1);unfold Nr at a b;have m1:=cL (B:=1000000) (C:=1000000) (u:=(nx r i).1) (v:=(nx r (i+1)).2) (by decide) (by omega) (by omega) (by omega) (by omega)
  have m2:=cL (B:=1000000) (C:=1000000) (u:=(nx r i).2) (v:=(nx r (i+1)).1) (by decide) (by omega) (by omega) (by omega) (by omega)
  omega) r.length
 have:=h.len
 show _≤bT _ _∧bT _ _≤_
 omega
theorem qD {l:List Nat} {x5 x6:Int} {x7:Nat} (d:Dr l x5 x6 x7) (row:Bool):∀q ∈ vP (1+x7) (x5,x6) (gj l row),-40000≤q.1∧q.1≤40000∧-40000≤q.2∧q.2≤40000:=fun q hq=>by
 unfold vP at hq;obtain⟨z,hz,rfl⟩:=List.mem_map.1 hq;exact(CH d.s (v:=(x5,x6)) ⟨d.x.1,d.x.2,d.y.1,d.y.2⟩ (yL row z hz)).2.2
theorem H5 {r:List I2} {q:I2} (h:q ∈ rv r):q ∈ r:=by
 match r,h with
 | a::t,h=>unfold rv at h; simpa using h
theorem Fl {l:List Nat} {x5 x6:Int} {x7:Nat} (d:Dr l x5 x6 x7) (row turned:Bool):∀q ∈ kG l x5 x6 x7 row turned,-40000≤q.1∧q.1≤40000∧-40000≤q.2∧q.2≤40000:=fun q hq=>by
 unfold kG at hq
 split at hq
 ·exact qD d row q (H5 hq)
 ·exact qD d row q hq
theorem CY {r:List I2} (h:Ok r):r≠[]:=fun e=>by have:=h.vr.n3; rw[e] at this; simp at this
theorem DU {r:List I2} (h:Ok r) {f:I2→I2} {k e:Int} (c:Chg f k e) (hb:∀q ∈ r,Nr (f q)):Ok (r.map f) :=
 ⟨by rw[List.length_map]; exact h.len,fun i=>by rw[bz _ (CY h)]; exact hb _ (yF (CY h) i),c.vr h.vr⟩
section
variable (n : Nat) (hn : 22000 < n)
include hn
theorem DK (X:List (Int × Int)) (hl:X.length≤200):HH n X X=some true:=by
 have hL:cq (vB n X X) n 0=some (.inr ()):=by
  refine CQ (len:=X.length) (fun i hi=>?_) ?_ (by omega)
  ·unfold vB;rw[aO (by omega),aI hi,aW,dJ hi,al]
   dsimp only
   rw[aW,al]
   dsimp only
   rw[jE (nx X i) (nx X i),decide_eq_true (show nx X i=nx X i from rfl),Bool.not_true,cr,aS (by omega)]
  ·unfold vB;rw[aH (by omega)]
 unfold HH;rw[decide_eq_true (show(X.length:Int)=X.length from rfl),Bool.not_true,cr,hL,al]
omit hn in
theorem pC {r:List I2} (hr:∀q ∈ r,-40000≤q.1∧q.1≤40000∧-40000≤q.2∧q.2≤40000) (hl:r.length≤40) {x10 x11:Int} (h10 : -32768≤x10∧x10≤32767) (h11 : -32768≤x11∧x11≤32767) :
  ∀(rest done:List I2) (m:Nat),r=done++rest→rest.length<m→cq (rQ n r x10 x11) m (done.map (fK (x10,x11)),done.map sw,(done.length:Int))=some (r.map (fK (x10,x11)),r.map sw)
 | [],done,m+1,e,_=>by
  rw[List.append_nil] at e;subst e;rw[bN];unfold rQ
  dsimp only
  rw[aH (by omega)]
 | q::rest,done,m+1,e,hm=>by
  have hq:r[done.length]? = some q:=by rw[e,List.getElem?_append_right (Nat.le_refl _),Nat.sub_self]; rfl
  have hi:done.length<r.length:=(List.getElem?_eq_some_iff.1 hq).1;have hb:=hr q (by rw[e]; simp)
  have ih:=pC hr hl h10 h11 rest (done++[q]) m (by rw[e]; simp) (by simp at hm; omega)
  rw[bp (s':=((done++[q]).map (fK (x10,x11)),(done++[q]).map sw,((done++[q]).length:Int))),ih];unfold rQ
  dsimp only
  rw[aO (by omega),aI hi,aW,Int.toNat_natCast,show r[done.length]? = some (q.1,q.2) from hq,al]
  dsimp only
  rw[aq (x:=x10) (by omega) (by omega),aq (x:=x11) (by omega) (by omega),aq (x:=q.1+x10) (by omega) (by omega),aq (x:=q.2+x11) (by omega) (by omega)]
  rw[show lim (done.map (fK (x10,x11))++[(q.1+x10,q.2+x11)]).length=true from Nat.ble_eq_true_of_le (by simp; omega),aW,show lim (done.map sw++[(q.2,q.1)]).length=true from Nat.ble_eq_true_of_le (by simp; omega),aW,aS (by omega)]
  simp[fK,sw]
theorem alike {Z:Option Bool} {r k:List I2} (hr:Ok r) (hk:Ok k) {p q:I2} (hq : -1000000≤q.1∧q.1≤1000000∧-1000000≤q.2∧q.2≤1000000) (hs:side k q=side r p) {X:List (Int × Int)} (hX:IsR X (Sp r r.length)) (hXl:X.length≤200)
  (hS:∀j,Sp k k.length j=Sp r r.length j) {s:Int} (ha:jl k=s*jl r) (hc:yY k=yY r) :
  (ob (EN n k q.1 q.2) fun(r0,r1) =>
   ob (GH n k) fun(l1,r2) =>
   ob (
   br (!decide (r0=side r p)) (
   some true) (
   br (!decide (r1=0)) (
   some true) (
   br (!decide (r2=0)) (
   some true) (
   ob (HH n X l1) fun r3 =>
   br (!r3) (
   some true) (
   ob (Hk n k (IntKind.wrap .i64 (s*jl r))) fun r4 =>
   br (!r4) (
   some true) (
   ob (BI n k) fun r5 =>
   ob (BI n r) fun r6 =>
   some (!(r5 == r6)))))))) fun v1 =>
   br v1 (some false) Z)=Z:=by
 have hkl:=hk.len;have hrl:=hr.len;have hab:=hk.KT;obtain⟨Y,y0,y1,_⟩:=El hk n hn;have hf:¬Fa q:=by unfold Fa; omega
 have ed:∀z:Int,(!decide (z=z))=false:=fun z=>by simp
 have eXY:X=Y:=hX.uniq (by rw[show Sp r r.length=Sp k k.length from funext fun j=>(hS j).symm]; exact y1)
 have hF21:Hk n k (IntKind.wrap .i64 (s*jl r))=some true:=by
  unfold Hk;rw[←ha,aq (by omega) (by omega),B2 n hk.pt (by omega) (by omega),if_pos hk.mh,al]
  dsimp only
  rw[aO rfl]; rfl
 have hF23:∀{z:List I2},Ok z→BI n z=some (yY z):=fun {z} hz=>by
  have hzl:=hz.len;unfold BI;rw[Jv n hz.pt (by omega) (by omega),if_pos hz.mh,al]
  dsimp only
  cases yY z
  ·rfl
  ·rfl
 rw[Dz n hk.pt (p:=q) (by unfold nL; omega) (by omega) (by omega),if_pos hk.mh,if_neg hf,al]
 dsimp only
 rw[y0,al]
 dsimp only
 rw[hs,ed,cr,ed,cr,cr,←eXY,DK n hn X hXl,al,Bool.not_true,cr,hF21,al,Bool.not_true,cr,hF23 hk,al,hF23 hr,al,hc];simp[ob,br]
end
theorem EH (n:Nat) {l:List Nat} {x5 x6:Int} {x7:Nat} (d:Dr l x5 x6 x7) (row turned:Bool) {x10 x11:Int} (h0 : -32768≤x10∧x10≤32767) (h1 : -32768≤x11∧x11≤32767) {x12 x13:Int} (h4 : -32768≤x12∧x12≤32767) (h5 : -32768≤x13∧x13≤32767) (hn:22000<n) :
  LM n l x5 x6 x7 row turned x10 x11 x12 x13=some true:=by
 have ed:∀z:Int,(!decide (z=z))=false:=fun z=>by simp
 have hok:=D5 d row turned;have har:=AQ d row turned;have hbd:=Fl d row turned;have hx:=d.x;have hy:=d.y;unfold LM;rw[show LG n=some true from rfl,al,Bool.not_true,cr,Jt n d row turned (by omega),al]
 generalize kG l x5 x6 x7 row turned=r at *;have t1:=Int.tmod_lt_of_pos x12 (b:=3000) (by decide)
 have t2:=Int.lt_tmod_of_pos x12 (b:=3000) (by decide)
 have t3:=Int.tmod_lt_of_pos x13 (b:=3000) (by decide)
 have t4:=Int.lt_tmod_of_pos x13 (b:=3000) (by decide)
 rw[aq (x:=x5) (by omega) (by omega),aq (x:=x6) (by omega) (by omega),aq (x:=x12) (by omega) (by omega),aq (x:=x13) (by omega) (by omega),aq (x:=x10) (by omega) (by omega),aq (x:=x11) (by omega) (by omega)]
 generalize Int.tmod x12 3000=m1 at *;generalize Int.tmod x13 3000=m2 at *;rw[aq (x:=x5+m1) (by omega) (by omega),al,aq (x:=x6+m2) (by omega) (by omega),al]
 obtain⟨px,hpx⟩:∃px,px=x5+m1:=⟨_,rfl⟩;obtain⟨py,hpy⟩:∃py,py=x6+m2:=⟨_,rfl⟩;rw[←hpx,←hpy];have bpx : -36000≤px∧px≤36000:=by omega
 have bpy : -36000≤py∧py≤36000:=by omega
 have hne:=CY hok;have hL:=hok.len;have h2:=hok.vr.n3;have hf:¬Fa ((px,py):I2):=by unfold Fa; dsimp only; omega
 obtain⟨X,hX1,hX2,hX3⟩:=El hok n hn;rw[Dz n hok.pt (p:=(px,py)) (by unfold nL; dsimp only; omega) (by omega) (by omega),if_pos hok.mh,if_neg hf,al]
 dsimp only
 rw[B2 n hok.pt (by omega) (by omega),if_pos hok.mh,al]
 dsimp only
 rw[hX1,al]
 dsimp only
 rw[EG n hok.pt (by omega) (by omega),if_pos hok.mh,al]
 dsimp only
 have hrv:=hok.rv;rw[EG n hrv.pt (by rw[gC]; omega) (by omega),if_pos hrv.mh,K7,al]
 dsimp only
 have hF15:H3 n r r=some true:=by rw[Jm n (by omega) (by omega),decide_eq_true rfl]
 have hsgn:(decide (jl r<0) == turned)=true:=by
  cases turned
  ·simp at har ⊢; omega
  ·simp at har ⊢; omega
 have h3:jl r≠0:=by
  cases turned
  ·simp at har; omega
  ·simp at har; omega
 rw[ed,cr,cr,cr,cr,cr,hF15,al,Bool.not_true,cr,hsgn,Bool.not_true,cr,decide_eq_false h3,al,cr];rw[show cq (rQ n r x10 x11) n (([]:List I2),([]:List I2),0)=_ from pC n hbd hL h0 h1 r [] n rfl (by omega),al]
 dsimp only
 rw[aq (x:=px+x10) (by omega) (by omega),aq (x:=py+x11) (by omega) (by omega)]
 have o1:Ok (r.map (fK (x10,x11))):=DU hok (Az _) fun q hq=>by
  have:=hbd q hq;unfold Nr fK; dsimp only; omega
 have o2:Ok (r.map sw):=DU hok Jn fun q hq=>by
  have:=hbd q hq;unfold Nr sw; dsimp only; omega
 rw[show bV 0 3=true from rfl,aW]
 show(ob (some (r.map (fK (x10,x11)),px+x10,py+x11,1)) _)=_
 rw[al]
 dsimp only
 refine(alike n hn (r:=r) (k:=r.map (fK (x10,x11))) hok o1 (p:=(px,py)) (q:=(px+x10,py+x11)) (by dsimp only; omega) (D4 hne (x10,x11) (px,py)) hX2 (by omega) (fun j=>by rw[List.length_map,yr hne (Jl _)]) (s:=1) (by rw[Aw hne,Int.one_mul]) (Fp hne _)).trans ?_
 rw[show bV 1 3=true from rfl,aW]
 show(ob (some (r.map sw,py,px,-1)) _)=_
 rw[al]
 dsimp only
 refine(alike n hn (r:=r) (k:=r.map sw) hok o2 (p:=(px,py)) (q:=(py,px)) (by dsimp only; omega) (GS hne (px,py)) hX2 (by omega) (fun j=>by rw[List.length_map,yr hne Ko]) (s:=-1) (by rw[HX hne]; omega) (Jz hne)).trans ?_
 rw[show bV 2 3=true from rfl,aW]
 show(ob (some (rv r,px,py,-1)) _)=_
 rw[al]
 dsimp only
 refine(alike n hn (r:=r) (k:=rv r) hok hrv (p:=(px,py)) (q:=(px,py)) (by dsimp only; omega) (GK r (px,py)) hX2 (by omega) (fun j=>by rw[gC,K2]) (s:=-1) (by rw[D9]; omega) (I7 h2)).trans ?_
 rfl
end Go.Proofs.YthmekkhpddehjaaGreat
end
