/- A part of the proof. -/
import Derived.Test.YtpkadoocdgdcfaaGreatDoorKc6
import Derived.Lib.Mul64
import Derived.Test.YtpkadoocdgdcfaaGreatDoorRows
import Derived.Test.YtpkadoocdgdcfaaGreatDoorTie
import Derived.Test.YtpkadoocdgdcfaaGreatDoorCards
import Derived.Stop.Joined
import Derived.SevenTiedAt
set_option linter.all false
section
namespace Go.Proofs.YtpkadoocdgdcfaaGreatDoor
section
open Go Go.Ab Go.Ab.W
section
variable {α β σ ρ : Type}
theorem mJ (a b:Option β):br true a b=a:=rfl
theorem gx (a b:Option β):br false a b=b:=rfl
theorem bw (a:Option β):gd true a=a:=rfl
theorem ar (x:α) (f:α→Option β):ob (some x) f=f x:=rfl
theorem bz {p:Prop} [Decidable p] (h:p) (a b:Option β):br (decide p) a b=a:=by rw[decide_eq_true h]; rfl
theorem bu {p:Prop} [Decidable p] (h:¬p) (a b:Option β):br (decide p) a b=b:=by rw[decide_eq_false h]; rfl
theorem dw {p:Prop} [Decidable p] (h:p) (a:Option β):gd (decide p) a=a:=by rw[decide_eq_true h]; rfl
theorem aK {i n:Nat} (h:i<n):cG (i:Int) n=true:=decide_eq_true ⟨Int.natCast_nonneg i,by simpa using h⟩
theorem bq {x:Int} (h1 : -9223372036854775808≤x) (h2:x<9223372036854775808):IntKind.wrap .i64 x=x:=wrap_i64 x h1 (by omega)
theorem aM {i:Nat} (h:i<4611686018427387904):IntKind.wrap .i64 ((i:Int)+1)=((i+1:Nat):Int):=by rw[bq (by omega) (by omega)]; rfl
theorem cE {body:σ→Option (σ ⊕ ρ)} {n:Nat} {s s':σ} (h:body s=some (.inl s')):cT body (n+1) s=cT body n s':=by simp only[cT,h]
theorem ef {body:σ→Option (σ ⊕ ρ)} {n:Nat} {s:σ} {r:ρ} (h:body s=some (.inr r)):cT body (n+1) s=some r:=by simp only[cT,h]
end
theorem nA {n:Nat} (h:n≤1073741824):lim n=true:=Nat.ble_eq_true_of_le h
structure Okay (N:Nat) (es:List (Int × Int)):Prop where
 pos:1≤N
 le:N≤64
 len:es.length≤200
 mem:∀e ∈ es,∃a b:Nat,e=((a:Int),(b:Int))∧a<b∧b<N
def bl (x:Nat):Nat:=if x=0 then 0 else Nat.log2 x+1
theorem qm {x k:Nat}:k<bl x↔2 ^ k≤x:=by
 unfold bl
 by_cases h:x=0
 ·subst h;rw[if_pos rfl];have:=Nat.two_pow_pos k;omega
 ·rw[if_neg h,Nat.lt_succ_iff,Nat.le_log2 h]
theorem A3 {x m:Nat} (h:∀k,k<m↔2 ^ k≤x):m=bl x:=by
 rcases Nat.lt_trichotomy m (bl x) with h1|h1|h1
 ·have:=(h m).2 (qm.1 h1); omega
 ·exact h1
 ·have:=qm.2 ((h (bl x)).1 h1); omega
theorem DQ {x s:Nat} (h:2 ^ s≤x):bl (x >>> s)+s=bl x:=by
 refine A3 fun k=>?_;rw[Nat.shiftRight_eq_div_pow]
 by_cases hk:k<s
 ·have:2 ^ k≤2 ^ s:=Nat.pow_le_pow_right (by decide) (by omega)
  constructor
  ·intro _; omega
  ·intro _; omega
 ·obtain⟨d,rfl⟩:∃d,k=d+s:=⟨k-s,by omega⟩
  have h1:=qm (x:=x/2 ^ s) (k:=d);have h2:2 ^ (d+s)≤x↔2 ^ d≤x/2 ^ s:=by rw[Nat.pow_add,Nat.le_div_iff_mul_le (Nat.two_pow_pos s)]
  rw[h2,←h1]; omega
theorem Hn:∀y:Fin 256,fQ[y.val]? = some (bl y.val):=by decide +kernel
theorem Bl {x s:Nat} (h:x<2 ^ s):bl x≤s:=by
 rcases Nat.lt_or_ge s (bl x) with h1|h1
 ·have:=qm.1 h1; omega
 ·exact h1
theorem qC (s y m:Nat) (hs:s≤32) (hy:y<2 ^ (2*s)) (hm:m≤64):∃y' m':Nat,br (decide (2 ^ s≤y)) (some (cK .u64 y s,IntKind.wrap .i64 ((m:Int)+(s:Int)))) (some (y,(m:Int)))=some (y',(m':Int))∧y'<2 ^ s∧bl y'+m'=bl y+m∧m'≤m+s:=by
 by_cases h:2 ^ s≤y
 ·refine⟨y >>> s,m+s,?_,?_,?_,Nat.le_refl _⟩
  ·rw[bz h,CQ (by omega),bq (by omega) (by omega)]; rfl
  ·rw[Nat.shiftRight_eq_div_pow,Nat.div_lt_iff_lt_mul (Nat.two_pow_pos s),←Nat.pow_add];rw[Nat.two_mul] at hy; exact hy
  ·have:=DQ h; omega
 ·exact⟨y,m,bu h _ _,by omega,rfl,by omega⟩
theorem zH (n x:Nat) (hx:x<2 ^ 64):B1 n x=some ((bl x:Nat):Int):=by
 unfold B1;obtain⟨y1,m1,e1,h1,b1,g1⟩:=qC 32 x 0 (by omega) hx (by omega)
 have e1':br (decide (4294967296≤x)) (some (cK .u64 x 32,(32:Int))) (some (x,0))=some (y1,(m1:Int)):=e1;rw[e1',ar];obtain⟨y2,m2,e2,h2,b2,g2⟩:=qC 16 y1 m1 (by omega) h1 (by omega)
 have e2':br (decide (65536≤y1)) (some (cK .u64 y1 16,IntKind.wrap .i64 ((m1:Int)+16))) (some (y1,(m1:Int)))=some (y2,(m2:Int)):=e2;simp only[e2',ar];obtain⟨y3,m3,e3,h3,b3,g3⟩:=qC 8 y2 m2 (by omega) h2 (by omega)
 have e3':br (decide (256≤y2)) (some (cK .u64 y2 8,IntKind.wrap .i64 ((m2:Int)+8))) (some (y2,(m2:Int)))=some (y3,(m3:Int)):=e3;simp only[e3',ar];have h3:y3<256:=h3;have e:uw .u8 y3=y3:=Nat.mod_eq_of_lt h3;have h8:bl y3≤8:=Bl h3;have ht:fQ[y3]? = some (bl y3):=Hn ⟨y3,h3⟩;have w1:IntKind.wrap .i64 ((bl y3:Nat):Int)=((bl y3:Nat):Int):=bq (by omega) (by omega)
 rw[e,aK h3,bw,Int.toNat_natCast,ht,ar,w1,bq (by omega) (by omega)]
 simp only[Option.some.injEq]; omega
theorem C7 {σ ρ τ:Type} {body:τ→Option (τ ⊕ ρ)} (N:Nat) (mk:σ→Int→τ) (fin:σ→ρ) (I:Nat→σ→Prop)
  (hs:∀s i,i<N→I i s→∃s',body (mk s (i:Int))=some (.inl (mk s' ((i+1:Nat):Int)))∧I (i+1) s') (he:∀s,I N s→body (mk s (N:Int))=some (.inr (fin s))) :
  ∀(k i n:Nat) (s:σ),i+k=N→I i s→k<n→∃s',cT body n (mk s (i:Int))=some (fin s')∧I N s':=by
 intro k
 induction k with
 | zero =>
  intro i n s hi hI hn;obtain⟨n,rfl⟩:∃n',n=n'+1:=⟨n-1,by omega⟩
  have:i=N:=by omega
  subst this;exact⟨s,by simp only[cT,he s hI],hI⟩
 | succ k ih =>
  intro i n s hi hI hn;obtain⟨n,rfl⟩:∃n',n=n'+1:=⟨n-1,by omega⟩
  obtain⟨s',h1,h2⟩:=hs s i (by omega) hI
  simp only[cT,h1];exact ih (i+1) n s' (by omega) h2 (by omega)
theorem cq {σ ρ τ:Type} {body:τ→Option (τ ⊕ ρ)} (N:Nat) (mk:σ→Int→τ) (fin:σ→ρ) (I:Nat→σ→Prop)
  (hs:∀s i,i<N→I i s→∃s',body (mk s (i:Int))=some (.inl (mk s' ((i+1:Nat):Int)))∧I (i+1) s') (he:∀s,I N s→body (mk s (N:Int))=some (.inr (fin s)))
  {n:Nat} {s:σ} (hI:I 0 s) (hn:N<n):∃s',cT body n (mk s 0)=some (fin s')∧I N s' :=
 C7 N mk fin I hs he N 0 n s (by omega) hI hn
section
variable {n0 M : Nat} {l6 : List Int} {es : List (Int × Int)}
end
def val (w:Nat):List Nat→Nat
 | []=>0
 | d::ds=>d+2 ^ w*val w ds
end
section
open Go Go.Ab Go.Ab.W
def vl:List Nat→Nat
 | []=>0
 | d::l=>d+18446744073709551616*vl l
def Wd (l:List Nat):Prop:=∀d ∈ l,d<18446744073709551616
def wp (k:Nat):Nat:=18446744073709551616 ^ k
theorem FW:wp 0=1:=rfl
theorem iG (k:Nat):wp (k+1)=18446744073709551616*wp k:=by unfold wp; rw[Nat.pow_succ,Nat.mul_comm]
theorem HN (a b:Nat):wp (a+b)=wp a*wp b:=Nat.pow_add _ _ _
theorem xx (k:Nat):0<wp k:=Nat.pow_pos (by decide)
theorem gZ:vl []=0:=rfl
theorem eu (d:Nat) (l:List Nat):vl (d::l)=d+18446744073709551616*vl l:=rfl
theorem lV (a b:List Nat):vl (a++b)=vl a+wp a.length*vl b:=by
 induction a with
 | nil=>simp[vl,wp]
 | cons d a ih=>rw[List.cons_append,eu,eu,ih,List.length_cons,iG,Nat.mul_add,Nat.mul_assoc,Nat.add_assoc]
theorem jO {l:List Nat} (h:Wd l):vl l<wp l.length:=by
 induction l with
 | nil=>exact Nat.one_pos
 | cons d l ih =>
  have h1:=h d List.mem_cons_self;have h2:=ih fun e he=>h e (List.mem_cons_of_mem _ he);rw[eu,List.length_cons,iG];omega
theorem j6 (k:Nat):vl (List.replicate k 0)=0:=by
 induction k with
 | zero=>rfl
 | succ k ih=>rw[List.replicate_succ,eu,ih]
theorem Wd.nil:Wd []:=fun _ h=>nomatch h
theorem Wd.zeros (k:Nat):Wd (List.replicate k 0):=fun d hd=>by rw[List.eq_of_mem_replicate hd]; decide
theorem Wd.app {a b:List Nat} (ha:Wd a) (hb:Wd b):Wd (a++b):=fun d hd=>(List.mem_append.1 hd).elim (ha d) (hb d)
theorem Wd.left {a b:List Nat} (h:Wd (a++b)):Wd a:=fun d hd=>h d (List.mem_append.2 (.inl hd))
theorem Wd.one {d:Nat} (h:d<18446744073709551616):Wd [d]:=fun e he=>by rw[List.mem_singleton.1 he]; exact h
theorem Wd.at {l:List Nat} (h:Wd l) {i d:Nat} (hi:l[i]? = some d):d<18446744073709551616:=h d (List.mem_of_getElem? hi)
theorem Wd.set {l:List Nat} (h:Wd l) {i d:Nat} (hd:d<18446744073709551616):Wd (l.set i d):=fun e he=>by
 rcases List.mem_or_eq_of_mem_set he with h1|rfl
 ·exact h e h1
 ·exact hd
theorem Wd.take {l:List Nat} (h:Wd l) (k:Nat):Wd (l.take k):=fun d hd=>h d (List.mem_of_mem_take hd)
theorem eB (l:List Nat) (i:Nat) (hi:i≤l.length):vl l=vl (l.take i)+wp i*vl (l.drop i):=by
 have:=lV (l.take i) (l.drop i);rwa[List.take_append_drop,List.length_take,Nat.min_eq_left hi] at this
theorem jR {l:List Nat} {i d:Nat} (hi:l[i]? = some d):vl (l.drop i)=d+18446744073709551616*vl (l.drop (i+1)):=by
 obtain⟨h1,h2⟩:=List.getElem?_eq_some_iff.1 hi;rw[List.drop_eq_getElem_cons h1,eu,h2]
theorem xj {l:List Nat} {i d:Nat} (e:Nat) (hi:l[i]? = some d):vl (l.set i e)+wp i*d=vl l+wp i*e:=by
 obtain⟨h1,h2⟩:=List.getElem?_eq_some_iff.1 hi;have a:=eB l i (Nat.le_of_lt h1);have b:=eB (l.set i e) i (by rw[List.length_set]; exact Nat.le_of_lt h1)
 have c:(l.set i e)[i]? = some e:=by rw[List.getElem?_set_self h1]
 rw[jR hi] at a;rw[jR c,List.take_set_of_le (Nat.le_refl i),List.drop_set_of_lt (show i<i+1 from Nat.lt_succ_self i)] at b
 rw[a,b,Nat.mul_add,Nat.mul_add];omega
structure Lg (z:Int) (s:Bool) (l:List Nat):Prop where
 wd:Wd l
 last:∀d,l.getLast? = some d→d≠0
 val:z=if s then -(vl l:Int) else(vl l:Int)
 sign:s=true→l≠[]
theorem jN {l:List Nat} (h:∀d,l.getLast? = some d→d≠0) (hl:l≠[]):wp (l.length-1)≤vl l:=by
 obtain⟨a,d,rfl⟩:∃a d,l=a++[d]:=⟨l.dropLast,l.getLast hl,(List.dropLast_concat_getLast hl).symm⟩;have h1:=h d (by simp)
 rw[lV,List.length_append,List.length_singleton,Nat.add_sub_cancel,eu,gZ];have:wp a.length*1≤wp a.length*(d+18446744073709551616*0):=Nat.mul_le_mul_left _ (by omega)
 omega
theorem jH {l:List Nat} (h:∀d,l.getLast? = some d→d≠0):vl l=0↔l = []:=by
 refine⟨fun h1=>?_,fun h1=>by rw[h1]; rfl⟩
 by_cases hl:l = []
 ·exact hl
 ·have:=jN h hl;have:=xx (l.length-1);omega
theorem rO {d:Nat} {l:List Nat} (h:∀e,(d::l).getLast? = some e→e≠0):∀e,l.getLast? = some e→e≠0:=by
 intro e he;cases l with
 | nil=>cases he
 | cons a l=>exact h e (by rw[List.getLast?_cons_cons]; exact he)
theorem Hv:∀{l k:List Nat},Wd l→Wd k→(∀d,l.getLast? = some d→d≠0)→(∀d,k.getLast? = some d→d≠0)→vl l=vl k→l=k:=by
 intro l
 induction l with
 | nil=>intro k _ _ _ hk h; exact((jH hk).1 h.symm).symm
 | cons d l ih =>
  intro k wl wk hl hk h;cases k with
  | nil=>exact absurd ((jH hl).1 h) (by simp)
  | cons e k =>
   have h1:=wl d List.mem_cons_self;have h2:=wk e List.mem_cons_self;rw[eu,eu] at h;have h3:d=e:=by omega
   have h4:vl l=vl k:=by omega
   rw[h3,ih (fun x hx=>wl x (List.mem_cons_of_mem _ hx)) (fun x hx=>wk x (List.mem_cons_of_mem _ hx)) (rO hl) (rO hk) h4]
theorem Lg.inj {z:Int} {s t:Bool} {l k:List Nat} (h:Lg z s l) (h':Lg z t k):s=t∧l=k:=by
 have a:=h.val;have b:=h'.val;have hz:=jH h.last;have hz':=jH h'.last;have e:vl l=vl k:=by
  cases s<;>cases t<;>simp only[Bool.false_eq_true,if_false,if_true] at a b<;>omega
 have e':=Hv h.wd h'.wd h.last h'.last e;refine⟨?_,e'⟩;subst e';cases s<;>cases t<;>simp only[Bool.false_eq_true,if_false,if_true] at a b
 ·rfl
 ·exact absurd (hz.1 (by omega)) (h'.sign rfl)
 ·exact absurd (hz.1 (by omega)) (h.sign rfl)
 ·rfl
def rJ (s:Bool) (x:Nat):Int:=if s then -(x:Int) else(x:Int)
theorem Lg.zero:Lg 0 false []:={ wd:=Wd.nil,last:=fun _ h=>(nomatch h),val:=rfl,sign:=fun h=>(nomatch h)}
theorem Lg.small {x:Nat} (h0:x≠0) (h:x<18446744073709551616) (s:Bool):Lg (rJ s x) s [x]:=⟨Wd.one h,fun d hd=>by simp at hd; omega,by simp[rJ,vl],fun _=>by simp⟩
theorem Lg.B3 {z:Int} {s:Bool} {l:List Nat} (h:Lg z s l):s=decide (z<0):=by
 have a:=h.val;have hz:=jH h.last;cases s with
 | false=>simp only[Bool.false_eq_true,if_false] at a; rw[decide_eq_false (by omega)]
 | true =>
  simp only[if_true] at a;have:vl l≠0:=fun e=>h.sign rfl (hz.1 e);rw[decide_eq_true (by omega)]
theorem Lg.abs {z:Int} {s:Bool} {l:List Nat} (h:Lg z s l):vl l=z.natAbs:=by
 have a:=h.val;cases s<;>simp only[Bool.false_eq_true,if_false,if_true] at a<;>omega
theorem Lg.J6 {z:Int} {s:Bool} {l:List Nat} (h:Lg z s l):l = []↔z=0:=by
 rw[←jH h.last,h.abs]; omega
end
section
open Go Go.Ab Go.Ab.W
theorem fT {n:Nat} (s:Bool) {l:List Nat} (hl:Wd l) (hb:l.length<4611686018427387904) (hn:l.length<n) :
  ∃t k,kP n s l=some (t,k)∧Lg (rJ s (vl l)) t k:=by
 have hL:∀i m,i≤l.length→i<m→vl (l.drop i)=0→∃j,cT (e6 n l) m ((i:Nat):Int)=some ((j:Nat):Int)∧j≤l.length∧vl (l.drop j)=0∧∀d,(l.take j).getLast? = some d→d≠0:=by
  intro i
  induction i with
  | zero =>
   intro m _ hm h0;obtain⟨m,rfl⟩:∃m',m=m'+1:=⟨m-1,by omega⟩
   refine⟨0,ef ?_,Nat.zero_le _,h0,fun d hd=>by simp at hd⟩
   unfold e6;rw[bu (by decide)]; rfl
  | succ i ih =>
   intro m hi hm h0;obtain⟨m,rfl⟩:∃m',m=m'+1:=⟨m-1,by omega⟩
   have hi':i<l.length:=hi;have e0:IntKind.wrap .i64 (((i+1:Nat):Int)-1)=((i:Nat):Int):=by rw[bq (by omega) (by omega)]; omega
   have e1:l[((i:Nat):Int).toNat]? = some l[i]:=by simp[hi']
   have e2:l[i]? = some l[i]:=by simp[hi']
   by_cases hz:l[i]=0
   ·have:e6 n l ((i+1:Nat):Int)=some (.inl ((i:Nat):Int)):=by
     unfold e6;rw[bz (by omega),e0,aK hi',bw,e1,ar,ar,bz hz]
    rw[cE this];exact ih m (Nat.le_of_lt hi') (by omega) (by rw[jR e2,hz,h0])
   ·refine⟨i+1,ef ?_,hi,h0,fun d hd=>?_⟩
    ·unfold e6;rw[bz (by omega),e0,aK hi',bw,e1,ar,ar,bu hz]
    ·rw[List.getLast?_eq_getElem?,List.length_take,Nat.min_eq_left hi,Nat.add_sub_cancel,List.getElem?_take_of_lt (Nat.lt_succ_self i),e2] at hd;cases hd;exact hz
 obtain⟨j,h1,h2,h3,h4⟩:=hL l.length n (Nat.le_refl _) hn (by rw[List.drop_length]; rfl)
 have hv:vl l=vl (l.take j):=by rw[eB l j h2,h3]; omega
 have hk:okB 0 ((j:Nat):Int) l.length=true:=decide_eq_true ⟨by omega,by omega,by omega⟩
 have ht:(l.drop (0:Int).toNat).take (((j:Nat):Int).toNat-(0:Int).toNat)=l.take j:=by simp
 have hz:=jH h4;unfold kP;rw[h1,ar];cases s with
 | false =>
  refine⟨false,l.take j,?_,hl.take j,h4,?_,fun h=>nomatch h⟩
  ·rw[gx,hk,bw,ht]
  ·rw[hv]; rfl
 | true =>
  refine⟨decide (0<((j:Nat):Int)),l.take j,?_,hl.take j,h4,?_,fun h e=>?_⟩
  ·rw[mJ,hk,bw,ht]
  ·rw[hv]
   by_cases hj:0<((j:Nat):Int)
   ·rw[decide_eq_true hj]; rfl
   ·have:j=0:=by omega
    subst this
    rfl
  ·have h5:=of_decide_eq_true h;have:=congrArg List.length e;rw[List.length_take,Nat.min_eq_left h2] at this;simp at this;omega
theorem rZ (l:List Nat) (i:Nat):∃y,vl (l.drop i)=y+18446744073709551616*vl (l.drop (i+1))∧(Wd l→y<18446744073709551616) ∧
  (br (decide (((i:Nat):Int)<(l.length:Int))) (gd (cG ((i:Nat):Int) l.length) (ob (l[((i:Nat):Int).toNat]?) fun x=>some x)) (some 0))=some y:=by
 by_cases h:i<l.length
 ·have e2:l[i]? = some l[i]:=by simp[h]
  exact⟨l[i],jR e2,fun w=>w.at e2,by rw[bz (by omega),aK h,bw,Int.toNat_natCast,e2]; rfl⟩
 ·refine⟨0,?_,fun _=>by decide,by rw[bu (by omega)]⟩
  rw[List.drop_eq_nil_of_le (by omega),List.drop_eq_nil_of_le (by omega)]; rfl
theorem vp {a:List Nat} {k e d:Nat}:(a++e::List.replicate k 0).set a.length d=(a++[d])++List.replicate k 0:=by
 rw[List.set_append_right _ _ (Nat.le_refl _),Nat.sub_self,List.set_cons_zero,List.append_assoc]; rfl
theorem pn (a:List Nat) (d:Nat):vl (a++[d])=vl a+wp a.length*d:=by rw[lV,eu,gZ]; rfl
theorem FT {n:Nat} {l k:List Nat} (hl:Wd l) (hk:Wd k) (hb:l.length<1073741824) (hb':k.length<1073741824) (hn:l.length<n) (hn':k.length<n) :
  ∃r,Bw n l k=some r∧Wd r∧vl r=vl l+vl k∧r.length≤l.length+k.length+1:=by
 have key:∀a b:List Nat,Wd a→Wd b→a.length<1073741824→b.length≤a.length→a.length<n→∃r,(gd (decide (0≤IntKind.wrap .i64 ((a.length:Int)+1))) (gd (lim ((IntKind.wrap .i64 ((a.length:Int)+1)).toNat)) (
   ob (cT (lT n a b) n ((List.replicate (IntKind.wrap .i64 ((a.length:Int)+1)).toNat (0:Nat)),(IntKind.wrap .i64 ((a.length:Int)+1)).toNat,0,0)) fun(l1,n1,v0) =>
   gd (cG (a.length:Int) n1) (ob (l1[(a.length:Int).toNat]?) fun x3=>some (l1.set ((a.length:Int).toNat) v0)))))=some r∧Wd r∧vl r=vl a+vl b∧r.length=a.length+1:=by
  intro a b ha h4 hba hab hna;have w1:IntKind.wrap .i64 ((a.length:Int)+1)=((a.length+1:Nat):Int):=by rw[bq (by omega) (by omega)]; rfl
  have hL:∀j i m p c,i+j=a.length→j<m→p.length=i→Wd p→c≤1→vl p+wp i*(c+vl (a.drop i)+vl (b.drop i))=vl a+vl b →
    ∃q c',cT (lT n a b) m (p++List.replicate (j+1) 0,a.length+1,c,((i:Nat):Int))=some (q++[0],a.length+1,c')∧q.length=a.length∧Wd q∧c'≤1∧vl q+wp a.length*c'=vl a+vl b:=by
   intro j
   induction j with
   | zero =>
    intro i m p c hij hm hp wp' hc hv;obtain⟨m,rfl⟩:∃m',m=m'+1:=⟨m-1,by omega⟩
    have hi:i=a.length:=by omega
    refine⟨p,c,ef ?_,by omega,wp',hc,?_⟩
    ·unfold lT
     dsimp only
     rw[bu (by omega)]; rfl
    ·subst hi;rw[List.drop_length,List.drop_eq_nil_of_le (by omega),gZ] at hv
     simpa using hv
   | succ j ih =>
    intro i m p c hij hm hp wp' hc hv;obtain⟨m,rfl⟩:∃m',m=m'+1:=⟨m-1,by omega⟩
    have hi:i<a.length:=by omega
    obtain⟨x,e2⟩:∃x,a[i]? = some x:=⟨a[i],by simp[hi]⟩
    have hx:=ha.at e2;obtain⟨y,y1,y2,y3⟩:=rZ b i;have y2:=y2 h4;have e0:(p++List.replicate (j+1+1) 0)[((i:Nat):Int).toNat]? = some 0:=by
     rw[Int.toNat_natCast,List.getElem?_append_right (by omega),List.getElem?_replicate]; simp; omega
    have st:lT n a b (p++List.replicate (j+1+1) 0,a.length+1,c,((i:Nat):Int))=some (.inl ((p++[(x+y+c)%18446744073709551616])++List.replicate (j+1) 0,a.length+1,(x+y+c)/18446744073709551616,((i+1:Nat):Int))):=by
     unfold lT
     dsimp only
     rw[bz (by omega),aK hi,bw,Int.toNat_natCast,e2,ar]
     rw[Int.toNat_natCast] at y3 e0;rw[y3,ar];unfold AS;rw[dw hc,ar]
     dsimp only
     rw[aK (show i<a.length+1 by omega),bw,e0,ar,aM (by omega),←hp,List.replicate_succ,vp]
    rw[cE st];refine ih (i+1) m _ _ (by omega) (by omega) (by rw[List.length_append,hp]; rfl) (wp'.app (Wd.one (Nat.mod_lt _ (by decide)))) (by omega) ?_
    rw[←hv,pn,hp,iG,jR e2,y1];have h1:∀s:Nat,s=s%18446744073709551616+18446744073709551616*(s/18446744073709551616):=fun s=>(Nat.mod_add_div s _).symm;have h2:=h1 (x+y+c);generalize (x+y+c)%18446744073709551616=lo at h2 ⊢;generalize (x+y+c)/18446744073709551616=hi' at h2 ⊢;have h3:c+(x+18446744073709551616*vl (a.drop (i+1)))+(y+18446744073709551616*vl (b.drop (i+1)))=lo+18446744073709551616*(hi'+vl (a.drop (i+1))+vl (b.drop (i+1))):=by omega
    rw[h3,Nat.mul_add (wp i),Nat.mul_left_comm (wp i),←Nat.mul_assoc,Nat.add_assoc,Nat.add_assoc]
  obtain⟨q,c',h1,h2,h3,h0,h5⟩:=hL a.length 0 n [] 0 (by omega) hna rfl Wd.nil (by omega) (by simp[vl,wp])
  refine⟨q++[c'],?_,h3.app (Wd.one (by omega)),by rw[pn,h2,h5],by rw[List.length_append,h2]; rfl⟩
  rw[w1,dw (by omega)]
  have hlim:lim ((a.length+1:Nat):Int).toNat=true:=nA (by omega)
  rw[hlim,bw,Int.toNat_natCast];rw[show(List.replicate (a.length+1) (0:Nat),a.length+1,(0:Nat),(0:Int))=(([]:List Nat)++List.replicate (a.length+1) 0,a.length+1,0,((0:Nat):Int)) from rfl,h1,ar]
  dsimp only
  rw[aK (Nat.lt_succ_self _),bw,Int.toNat_natCast,←h2,List.getElem?_append_right (Nat.le_refl _),Nat.sub_self];rw[show([0]:List Nat)[0]? = some 0 from rfl,ar,List.set_append_right _ _ (Nat.le_refl _),Nat.sub_self]
  rfl
 unfold Bw
 by_cases h:l.length<k.length
 ·rw[bz (by omega),ar]
  obtain⟨r,h1,h2,h3,h0⟩:=key k l hk hl hb' (Nat.le_of_lt h) hn';exact⟨r,h1,h2,by omega,by omega⟩
 ·rw[bu (by omega),ar]
  obtain⟨r,h1,h2,h3,h0⟩:=key l k hl hk hb (by omega) hn
  exact⟨r,h1,h2,h3,by omega⟩
end
section
open Go Go.Ab Go.Ab.W
theorem yJ {n:Nat} {l k:List Nat} (hl:Wd l) (hk:Wd k) (ll:∀d,l.getLast? = some d→d≠0) (lk:∀d,k.getLast? = some d→d≠0) (hb:l.length<1073741824) (hb':k.length<1073741824) (hn:l.length<n) :
  ∃r:Int,AX n l k=some r∧(r<0↔vl l<vl k)∧(0<r↔vl k<vl l):=by
 have big:∀a b:List Nat,Wd a→(∀d,b.getLast? = some d→d≠0)→a.length<b.length→vl a<vl b:=by
  intro a b ha hb h;have h1:=jO ha;have h2:=jN hb (by intro e; rw[e] at h; exact Nat.not_lt_zero _ h)
  have h3:wp a.length≤wp (b.length-1):=Nat.pow_le_pow_right (by decide) (by omega)
  omega
 unfold AX
 by_cases h:l.length=k.length
 ·rw[decide_eq_true (show(l.length:Int)=(k.length:Int) by omega),Bool.not_true,gx]
  have hL:∀i m,i≤l.length→i<m→vl (l.drop i)=vl (k.drop i)→∃r,cT (jZ n l k) m ((i:Int)-1)=some r ∧
    ((r = .inl (-1)∧vl l<vl k)∨(r = .inl 1∧vl k<vl l)∨(r = .inr ()∧vl l=vl k)):=by
   intro i
   induction i with
   | zero =>
    intro m _ hm h0;obtain⟨m,rfl⟩:∃m',m=m'+1:=⟨m-1,by omega⟩
    refine⟨.inr (),ef ?_,.inr (.inr ⟨rfl,by simpa using h0⟩)⟩
    unfold jZ;rw[bu (by decide)]
   | succ i ih =>
    intro m hi hm h0;obtain⟨m,rfl⟩:∃m',m=m'+1:=⟨m-1,by omega⟩
    obtain⟨x,e2⟩:∃x,l[i]? = some x:=⟨l[i],by simp⟩
    obtain⟨y,e3⟩:∃y,k[i]? = some y:=⟨k[i],by simp⟩
    have a1:=jR e2;have a2:=jR e3;have a3:=eB l i (by omega)
    have a4:=eB k i (by omega)
    have t1:=jO (hl.take i);have t2:=jO (hk.take i);rw[List.length_take,Nat.min_eq_left (by omega)] at t1 t2
    have e0:((i+1:Nat):Int)-1=((i:Nat):Int):=by omega
    rw[e0];rcases Nat.lt_trichotomy x y with hxy|hxy|hxy
    ·refine⟨.inl (-1),ef ?_,.inl ⟨rfl,?_⟩⟩
     ·unfold jZ;rw[bz (by omega),aK (by omega),bw,Int.toNat_natCast,e2,ar,aK (by omega),bw,e3,ar,bz hxy]
     ·have:wp i*(vl (l.drop i)+1)≤wp i*vl (k.drop i):=Nat.mul_le_mul_left _ (by omega)
      rw[Nat.mul_add] at this;omega
    ·have st:jZ n l k ((i:Nat):Int)=some (.inl (((i:Nat):Int)-1)):=by
      unfold jZ;rw[bz (by omega),aK (by omega),bw,Int.toNat_natCast,e2,ar,aK (by omega),bw,e3,ar,bu (by omega),bw,bw,bu (by omega),bq (by omega) (by omega)]
     rw[cE st];exact ih m (by omega) (by omega) (by omega)
    ·refine⟨.inl 1,ef ?_,.inr (.inl ⟨rfl,?_⟩)⟩
     ·unfold jZ;rw[bz (by omega),aK (by omega),bw,Int.toNat_natCast,e2,ar,aK (by omega),bw,e3,ar,bu (by omega),bw,bw,bz hxy]
     ·have:wp i*(vl (k.drop i)+1)≤wp i*vl (l.drop i):=Nat.mul_le_mul_left _ (by omega)
      rw[Nat.mul_add] at this;omega
  obtain⟨r,h1,h2⟩:=hL l.length n (Nat.le_refl _) hn (by rw[List.drop_length,h,List.drop_length])
  rw[bq (by omega) (by omega),h1,ar]
  rcases h2 with⟨rfl,h2⟩|⟨rfl,h2⟩|⟨rfl,h2⟩
  ·exact⟨-1,rfl,by omega,by omega⟩
  ·exact⟨1,rfl,by omega,by omega⟩
  ·exact⟨0,rfl,by omega,by omega⟩
 ·rw[decide_eq_false (show ¬(l.length:Int)=(k.length:Int) by omega),Bool.not_false,mJ]
  refine⟨_,rfl,?_,?_⟩<;>rw[bq (by omega) (by omega)]
  ·refine⟨fun h1=>big l k hl lk (by omega),fun h1=>?_⟩
   by_cases h2:l.length<k.length
   ·omega
   ·have:=big k l hk ll (by omega); omega
  ·refine⟨fun h1=>big k l hk ll (by omega),fun h1=>?_⟩
   by_cases h2:k.length<l.length
   ·omega
   ·have:=big l k hl lk (by omega); omega
theorem sN {n:Nat} {l k:List Nat} (hl:Wd l) (hk:Wd k) (hle:vl k≤vl l) (hlk:k.length≤l.length) (hb:l.length<1073741824) (hn:l.length<n) :
  ∃r,Ar n l k=some r∧Wd r∧vl r=vl l-vl k∧r.length=l.length:=by
 have hL:∀j i m p c,i+j=l.length→j<m→p.length=i→Wd p→c≤1→vl p+wp i*vl (l.drop i)+vl k=vl l+wp i*(c+vl (k.drop i)) →
   ∃q c',cT (nE n l k) m (p++List.replicate j 0,c,((i:Nat):Int))=some q∧q.length=l.length∧Wd q∧c'≤1∧vl q+vl k=vl l+wp l.length*c':=by
  intro j
  induction j with
  | zero =>
   intro i m p c hij hm hp wp' hc hv;obtain⟨m,rfl⟩:∃m',m=m'+1:=⟨m-1,by omega⟩
   have hi:i=l.length:=by omega
   refine⟨p,c,ef ?_,by omega,wp',hc,?_⟩
   ·unfold nE
    dsimp only
    rw[bu (by omega),List.replicate_zero,List.append_nil]
   ·subst hi;rw[List.drop_length,List.drop_eq_nil_of_le (by omega),gZ] at hv
    simpa using hv
  | succ j ih =>
   intro i m p c hij hm hp wp' hc hv;obtain⟨m,rfl⟩:∃m',m=m'+1:=⟨m-1,by omega⟩
   have hi:i<l.length:=by omega
   obtain⟨x,e2⟩:∃x,l[i]? = some x:=⟨l[i],by simp[hi]⟩
   have hx:=hl.at e2;obtain⟨y,y1,y2,y3⟩:=rZ k i;have y2:=y2 hk;have e3:(p++List.replicate (j+1) 0)[((i:Nat):Int).toNat]? = some 0:=by
    rw[Int.toNat_natCast,List.getElem?_append_right (by omega),List.getElem?_replicate]; simp; omega
   have st:nE n l k (p++List.replicate (j+1) 0,c,((i:Nat):Int))=some (.inl ((p++[(x+18446744073709551616-y-c)%18446744073709551616])++List.replicate j 0,if x<y+c then 1 else 0,((i+1:Nat):Int))):=by
    unfold nE
    dsimp only
    rw[bz (by omega),aK hi,bw,Int.toNat_natCast,e2,ar]
    rw[Int.toNat_natCast] at y3 e3;rw[y3,ar];unfold EM;rw[dw hc,ar]
    dsimp only
    rw[Int.toNat_natCast,aK hi,bw,e3,ar,aM (by omega),←hp,List.replicate_succ,vp]
   rw[cE st];refine ih (i+1) m _ _ (by omega) (by omega) (by rw[List.length_append,hp]; rfl) (wp'.app (Wd.one (Nat.mod_lt _ (by decide)))) (by split<;>omega) ?_
   rw[jR e2,y1] at hv;rw[pn,hp,iG];have h2:(x+18446744073709551616-y-c)%18446744073709551616+y+c=x+18446744073709551616*(if x<y+c then 1 else 0):=by split<;>omega
   generalize (x+18446744073709551616-y-c)%18446744073709551616=lo at h2 ⊢;generalize (if x<y+c then 1 else 0)=hi' at h2 ⊢
   generalize vl (l.drop (i+1))=A at hv ⊢;generalize vl (k.drop (i+1))=D at hv ⊢;have h3:wp i*(lo+y+c)=wp i*(x+18446744073709551616*hi'):=by rw[h2]
   simp only[Nat.mul_add,Nat.mul_left_comm (wp i) 18446744073709551616,Nat.mul_assoc] at hv h3 ⊢;omega
 obtain⟨q,c',h1,h2,h3,h4,h5⟩:=hL l.length 0 n [] 0 (by omega) hn rfl Wd.nil (by omega) (by simp[vl,wp])
 refine⟨q,?_,h3,?_,h2⟩
 ·unfold Ar;rw[dw (by omega),Int.toNat_natCast,nA (by omega),bw]
  rw[show(List.replicate l.length (0:Nat),(0:Nat),(0:Int))=(([]:List Nat)++List.replicate l.length 0,0,((0:Nat):Int)) from rfl,h1,ar]
 ·have h6:=jO h3;rw[h2] at h6;have:c'=0:=by
   rcases Nat.le_one_iff_eq_zero_or_eq_one.1 h4 with e|e
   ·exact e
   ·rw[e] at h5; omega
  rw[this] at h5;omega
theorem wy (s:Bool):rJ s 0=0:=by cases s<;>rfl
theorem yO {n:Nat} {a b:Int} {s t:Bool} {l k:List Nat} (h:Lg a s l) (h':Lg b t k) (hb:l.length<1000000) (hb':k.length<1000000) (hn:l.length+k.length+1<n) :
  ∃u m,vH n s l t k=some (u,m)∧Lg (a+b) u m:=by
 have av:=h.val;have bv:=h'.val;unfold vH
 by_cases e:s=t
 ·subst e;rw[beq_self_eq_true,mJ];obtain⟨r,r1,r2,r3,r4⟩:=FT (n:=n) h.wd h'.wd (by omega) (by omega) (by omega) (by omega)
  obtain⟨u,m,m1,m2⟩:=fT (n:=n) s r2 (by omega) (by omega)
  refine⟨u,m,by rw[r1,ar,m1]; rfl,?_⟩
  have:a+b=rJ s (vl r):=by rw[av,bv,r3]; unfold rJ; cases s<;>simp<;>omega
  rw[this]; exact m2
 ·have:(s == t)=false:=by cases s<;>cases t<;>simp_all
  rw[this,gx];obtain⟨r,r1,r2,r3⟩:=yJ (n:=n) h.wd h'.wd h.last h'.last (by omega) (by omega) (by omega)
  have ht:t = !s:=by cases s<;>cases t<;>simp_all
  have longer:∀p q:List Nat,Wd p→Wd q→(∀d,p.getLast? = some d→d≠0)→(∀d,q.getLast? = some d→d≠0)→vl p≤vl q→p.length≤q.length:=by
   intro p q wp1 wq1 lp lq hle;refine Nat.le_of_not_lt fun hlt=>?_;have h1:=jO wq1;have h2:=jN lp (by intro e; rw[e] at hlt; exact Nat.not_lt_zero _ hlt)
   have h3:wp q.length≤wp (p.length-1):=Nat.pow_le_pow_right (by decide) (by omega)
   omega
  rw[r1,ar]
  by_cases hr:r<0
  ·have hv:=r2.1 hr;obtain⟨m,m1,m2,m3,m4⟩:=sN (n:=n) h'.wd h.wd (Nat.le_of_lt hv) (longer _ _ h.wd h'.wd h.last h'.last (Nat.le_of_lt hv)) (by omega) (by omega)
   obtain⟨u,m',u1,u2⟩:=fT (n:=n) t m2 (by omega) (by omega)
   refine⟨u,m',by rw[bz hr,ar]; dsimp only; rw[m1,ar,u1]; rfl,?_⟩
   have:a+b=rJ t (vl m):=by rw[av,bv,m3,ht]; unfold rJ; cases s<;>simp<;>omega
   rw[this]; exact u2
  ·have hv:vl k≤vl l:=Nat.le_of_not_lt fun h=>hr (r2.2 h);obtain⟨m,m1,m2,m3,m4⟩:=sN (n:=n) h.wd h'.wd hv (longer _ _ h'.wd h.wd h'.last h.last hv) (by omega) (by omega)
   obtain⟨u,m',u1,u2⟩:=fT (n:=n) s m2 (by omega) (by omega)
   refine⟨u,m',by rw[bu hr,ar]; dsimp only; rw[m1,ar,u1]; rfl,?_⟩
   have:a+b=rJ s (vl m):=by rw[av,bv,m3,ht]; unfold rJ; cases s<;>simp<;>omega
   rw[this]; exact u2
theorem EK {n:Nat} {a:Int} {s:Bool} {l:List Nat} (h:Lg a s l) (hb:l.length<1000000) (hn:l.length<n):∃u m,xQ n s l=some (u,m)∧Lg (-a) u m:=by
 obtain⟨u,m,m1,m2⟩:=fT (n:=n) (!s) h.wd (by omega) hn
 refine⟨u,m,by unfold xQ; rw[m1]; rfl,?_⟩
 have : -a=rJ (!s) (vl l):=by rw[h.val]; unfold rJ; cases s<;>simp
 rw[this]; exact m2
theorem Lg.len {a:Int} {s:Bool} {l:List Nat} (h:Lg a s l) {k:Nat} (hk:a.natAbs<wp k):l.length≤k:=by
 refine Nat.le_of_not_lt fun hlt=>?_;have h2:=jN h.last (by intro e; rw[e] at hlt; exact Nat.not_lt_zero _ hlt)
 have h3:wp k≤wp (l.length-1):=Nat.pow_le_pow_right (by decide) (by omega)
 have:=h.abs;omega
theorem Lg.up {a:Int} {s:Bool} {l:List Nat} (h:Lg a s l):a.natAbs<wp l.length:=by
 rw[←h.abs]; exact jO h.wd
theorem FN {n:Nat} {a b:Int} {s t:Bool} {l k:List Nat} (h:Lg a s l) (h':Lg b t k) (hb:l.length<1000000) (hb':k.length<1000000) (hn:l.length+k.length+1<n) :
  ∃u m,DC n s l t k=some (u,m)∧Lg (a-b) u m:=by
 obtain⟨u,m,m1,m2⟩:=EK (n:=n) h' hb' (by omega)
 have hm:m.length≤k.length:=m2.len (by rw[Int.natAbs_neg]; exact h'.up)
 obtain⟨v,q,q1,q2⟩:=yO (n:=n) h m2 hb (by omega) (by omega)
 exact⟨v,q,by unfold DC; rw[m1,ar]; dsimp only; rw[q1]; rfl,q2⟩
theorem DS {n:Nat} {a:Int} {s:Bool} {l:List Nat} (h:Lg a s l):∃r,DY n s l=some r∧(r<0↔a<0)∧(r=0↔a=0):=by
 have h1:=h.B3;have h2:=h.J6;unfold DY;cases s with
 | true =>
  have:=of_decide_eq_true h1.symm;exact⟨-1,rfl,by omega,by omega⟩
 | false =>
  have:=of_decide_eq_false h1.symm;rw[gx]
  by_cases hl:l = []
  ·subst hl;have:=h2.1 rfl;exact⟨0,rfl,by omega,by omega⟩
  ·have:¬a=0:=fun e=>hl (h2.2 e);have:¬(l.length:Int)=0:=fun e=>hl (List.eq_nil_of_length_eq_zero (by omega))
   rw[bu this];exact⟨1,rfl,by omega,by omega⟩
end
section
open Go Go.Ab Go.Ab.W
theorem vV {a:Nat} (ha:a<18446744073709551616):uw .u64 (uw .u64 a &&& uw .u64 4294967295)=a%4294967296:=by
 rw[CN ha (by decide)]
 exact Nat.and_two_pow_sub_one_eq_mod a 32
theorem B7 (a:Nat):cK .u64 a 32=a/4294967296:=rfl
theorem oW {a:Nat} (h:a<18446744073709551616):uw .u64 a=a:=Nat.mod_eq_of_lt h
theorem F6 (n:Nat) {x y:Nat} (hx:x<18446744073709551616) (hy:y<18446744073709551616):CY n x y=some (x*y/18446744073709551616,x*y%18446744073709551616):=by
 obtain⟨b1,b2,b3,hhi⟩:=Lib.mul64_hi x y hx hy;have ba:=Lib.half_mul_le (a:=x/4294967296) (b:=y/4294967296) (by omega) (by omega)
 have bb:=Lib.half_mul_le (a:=x/4294967296) (b:=y%4294967296) (by omega) (by omega)
 have bc:=Lib.half_mul_le (a:=x%4294967296) (b:=y/4294967296) (by omega) (by omega)
 unfold CY;simp only[vV hx,vV hy,B7,ar];rw[oW b1,oW (a:=x/4294967296*(y%4294967296)) (by omega)]
 rw[oW b2,vV b2,oW (a:=x%4294967296*(y/4294967296)) (by omega),oW b3,oW (a:=x/4294967296*(y/4294967296)) (by omega)]
 rw[oW (a:=x/4294967296*(y/4294967296)+_) (by omega),oW (by omega),hhi]
 rfl
theorem Gi {n:Nat} {k:List Nat} (hk:Wd k) {x i N:Nat} (hx:x<18446744073709551616) (hN:i+k.length<N) (hNb:N<4611686018427387904) {b:List Nat} (hb:Wd b) (hbN:b.length=N) :
  ∀r j m cur c,j+r=k.length→r<m→Wd cur→cur.length=N→c<18446744073709551616→(∀p,i+k.length≤p→cur[p]? = b[p]?) →
   vl cur+wp (i+j)*c+wp (i+j)*(x*vl (k.drop j))=vl b+wp i*(x*vl k) →
   ∃q c',cT (nz n k x (i:Int) N) m (cur,c,((j:Nat):Int))=some (q,c')∧Wd q∧q.length=N∧c'<18446744073709551616∧(∀p,i+k.length≤p→q[p]? = b[p]?)∧vl q+wp (i+k.length)*c'=vl b+wp i*(x*vl k):=by
 intro r
 induction r with
 | zero =>
  intro j m cur c hj hm hw hl hc hp hv;obtain⟨m,rfl⟩:∃m',m=m'+1:=⟨m-1,by omega⟩
  have hj':j=k.length:=by omega
  refine⟨cur,c,ef ?_,hw,hl,hc,hp,?_⟩
  ·unfold nz
   dsimp only
   rw[bu (by omega)]
  ·rw[←hv,hj',List.drop_length,gZ]; omega
 | succ r ih =>
  intro j m cur c hj hm hw hl hc hp hv;obtain⟨m,rfl⟩:∃m',m=m'+1:=⟨m-1,by omega⟩
  have hi:j<k.length:=by omega
  obtain⟨y,e2⟩:∃y,k[j]? = some y:=⟨k[j],by simp[hi]⟩
  have hy:=hk.at e2;obtain⟨d,e3⟩:∃d,cur[i+j]? = some d:=⟨cur[i+j]'(by omega),by simp⟩
  have hd:=hw.at e3;have hxy:x*y≤18446744073709551615*18446744073709551615:=Nat.mul_le_mul (by omega) (by omega)
  have w1:IntKind.wrap .i64 ((i:Int)+((j:Nat):Int))=((i+j:Nat):Int):=by rw[bq (by omega) (by omega)]; omega
  have st:nz n k x (i:Int) N (cur,c,((j:Nat):Int))=some (.inl (cur.set (i+j) ((x*y+d+c)%18446744073709551616),(x*y+d+c)/18446744073709551616,((j+1:Nat):Int))):=by
   unfold nz
   dsimp only
   rw[bz (by omega),aK hi,bw,Int.toNat_natCast,e2,ar,F6 n hx hy,ar]
   dsimp only
   rw[w1,aK (by omega),bw,Int.toNat_natCast,e3,ar]
   unfold AS;rw[dw (by omega),ar]
   dsimp only
   rw[dw (by omega),ar]
   dsimp only
   rw[bw,aM (by omega),oW (a:=x*y/18446744073709551616+_) (by omega),oW (by omega)]
   congr 3
   ·congr 1; omega
   ·congr 1; omega
  rw[cE st];refine ih (j+1) m _ _ (by omega) (by omega) (hw.set (Nat.mod_lt _ (by decide))) (by rw[List.length_set]; exact hl) (by omega) (fun p hp'=>by rw[List.getElem?_set_ne (by omega)]; exact hp p hp') ?_
  rw[jR e2] at hv;have hs:=xj ((x*y+d+c)%18446744073709551616) e3;rw[←hv,←Nat.add_assoc i j 1,iG];have h2:(x*y+d+c)%18446744073709551616+18446744073709551616*((x*y+d+c)/18446744073709551616)=x*y+d+c:=Nat.mod_add_div _ _;generalize (x*y+d+c)%18446744073709551616=lo at h2 hs ⊢;generalize (x*y+d+c)/18446744073709551616=hi' at h2 ⊢;generalize vl (k.drop (j+1))=A at hv ⊢;generalize vl (cur.set (i+j) lo)=Z at hs ⊢;have h3:wp (i+j)*(lo+18446744073709551616*hi')=wp (i+j)*(x*y+d+c):=by rw[h2]
  simp only[Nat.mul_add,Nat.mul_left_comm (wp (i+j)) 18446744073709551616,Nat.mul_left_comm x 18446744073709551616,Nat.mul_assoc] at hs h3 ⊢;omega
theorem Ej {n:Nat} {l k:List Nat} (hl:Wd l) (hk:Wd k) (hb:l.length<500000000) (hb':k.length<500000000) (hn:l.length<n) (hn':k.length<n) :
  ∃r,CA n l k=some r∧Wd r∧vl r=vl l*vl k∧r.length=l.length+k.length:=by
 have hL:∀r i m b,i+r=l.length→r<m→Wd b→b.length=l.length+k.length→(∀p,i+k.length≤p→p<l.length+k.length→b[p]? = some 0) →
   vl b+wp i*(vl (l.drop i)*vl k)=vl l*vl k →
   ∃q,cT (nU n l k) m (b,l.length+k.length,((i:Nat):Int))=some (q,l.length+k.length)∧Wd q∧q.length=l.length+k.length∧vl q=vl l*vl k:=by
  intro r
  induction r with
  | zero =>
   intro i m b hi hm hw hlen _ hv;obtain⟨m,rfl⟩:∃m',m=m'+1:=⟨m-1,by omega⟩
   have hi':i=l.length:=by omega
   refine⟨b,ef ?_,hw,hlen,?_⟩
   ·unfold nU
    dsimp only
    rw[bu (by omega)]
   ·rw[←hv,hi',List.drop_length,gZ]; simp
  | succ r ih =>
   intro i m b hi hm hw hlen hz hv;obtain⟨m,rfl⟩:∃m',m=m'+1:=⟨m-1,by omega⟩
   have hi':i<l.length:=by omega
   obtain⟨x,e2⟩:∃x,l[i]? = some x:=⟨l[i],by simp⟩
   have hx:=hl.at e2;obtain⟨q,c,q1,q2,q3,q4,q5,q6⟩:=Gi (n:=n) (i:=i) hk hx (N:=l.length+k.length) (by omega) (by omega) hw hlen k.length 0 n b 0 (by omega) hn' hw hlen (by decide) (fun _ _=>rfl) (by simp)
   have e3:q[i+k.length]? = some 0:=by rw[q5 _ (Nat.le_refl _)]; exact hz _ (Nat.le_refl _) (by omega)
   have w1:IntKind.wrap .i64 ((i:Int)+(k.length:Int))=((i+k.length:Nat):Int):=by rw[bq (by omega) (by omega)]; omega
   have st:nU n l k (b,l.length+k.length,((i:Nat):Int))=some (.inl (q.set (i+k.length) c,l.length+k.length,((i+1:Nat):Int))):=by
    unfold nU
    dsimp only
    rw[bz (by omega),aK hi',bw,Int.toNat_natCast,e2,ar]
    rw[show((0:Int))=((0:Nat):Int) from rfl,q1,ar]
    dsimp only
    rw[w1,aK (by omega),bw,Int.toNat_natCast,e3,ar,aM (by omega)]
   rw[cE st];refine ih (i+1) m _ (by omega) (by omega) (q2.set q4) (by rw[List.length_set]; exact q3) (fun p h1 h2=>by rw[List.getElem?_set_ne (by omega),q5 p (by omega)]; exact hz p (by omega) h2) ?_
   have hs:=xj c e3;rw[jR e2] at hv;rw[←hv,iG];generalize vl (q.set (i+k.length) c)=Z at hs ⊢;generalize vl (l.drop (i+1))=A at hv ⊢;have h4:wp i*((x+18446744073709551616*A)*vl k)=wp i*(x*vl k)+18446744073709551616*wp i*(A*vl k):=by
    simp only[Nat.add_mul,Nat.mul_add,Nat.mul_assoc,Nat.mul_left_comm (wp i) 18446744073709551616]
   rw[h4];omega
 unfold CA;have w1:IntKind.wrap .i64 ((l.length:Int)+(k.length:Int))=((l.length+k.length:Nat):Int):=by rw[bq (by omega) (by omega)]; omega
 obtain⟨q,q1,q2,q3,q4⟩:=hL l.length 0 n (List.replicate (l.length+k.length) 0) (by omega) hn (Wd.zeros _) (by simp) (fun p _ h2=>by rw[List.getElem?_replicate]; simp[h2]) (by rw[j6,FW]; simp)
 refine⟨q,?_,q2,q4,q3⟩;rw[w1,dw (by omega),Int.toNat_natCast,nA (by omega),bw]
 rw[show((0:Int))=((0:Nat):Int) from rfl,q1]
 rfl
theorem xa {n:Nat} {a b:Int} {s t:Bool} {l k:List Nat} (h:Lg a s l) (h':Lg b t k) (hb:l.length<1000000) (hb':k.length<1000000) (hn:l.length+k.length<n) :
  ∃u m,Ei n s l t k=some (u,m)∧Lg (a*b) u m:=by
 obtain⟨r,r1,r2,r3,r4⟩:=Ej (n:=n) h.wd h'.wd (by omega) (by omega) (by omega) (by omega)
 obtain⟨u,m,m1,m2⟩:=fT (n:=n) (!(s == t)) r2 (by omega) (by omega)
 refine⟨u,m,by unfold Ei; rw[r1,ar,m1]; rfl,?_⟩
 have:a*b=rJ (!(s == t)) (vl r):=by
  rw[h.val,h'.val,r3]; unfold rJ;cases s<;>cases t<;>simp[Int.neg_mul,Int.mul_neg]
 rw[this]; exact m2
end
section
open Go Go.Ab Go.Ab.W
theorem uy {a b:Nat} (ha:a<18446744073709551616) (h:b≤a):gJ .u64 a b=a-b:=by
 show(a+(18446744073709551616-b%18446744073709551616))%18446744073709551616=a-b
 omega
theorem AM (n0:Nat) {u y1 y0 d:Nat} (h1:2147483648≤y1) (h1':y1<4294967296) (h0:y0<4294967296) (hd:d<4294967296) {Q:Nat} (le_iff:∀p,p≤Q↔p*y1*4294967296+p*y0≤u*4294967296+d) (hQb:Q<4294967296) :
  ∀k r q m,4294967296≤r+k*2147483648→k<m→q*y1+r=u→Q≤q→q≤4294967297→r<4294967296→cT (fo n0 d y0 y1) m (r,q)=some Q:=by
 intro k
 induction k with
 | zero=>intro r q m hk _ _ _ _ hr; omega
 | succ k ih =>
  intro r q m hk hm hq hQ hqb hr;obtain⟨m,rfl⟩:∃m',m=m'+1:=⟨m-1,by omega⟩
  by_cases hT:4294967296≤q∨4294967296*r+d<q*y0
  ·have hlt:Q<q:=by
    rcases hT with hT|hT
    ·omega
    ·refine Nat.lt_of_not_le fun h=>?_;rw[le_iff] at h;omega
   obtain⟨p,rfl⟩:∃p,q=p+1:=⟨q-1,by omega⟩
   rw[Nat.add_mul,Nat.one_mul] at hq;have test:(br (decide (4294967296≤p+1)) (some true) (some (decide (uw .u64 ((uw .u64 (4294967296*r))+d)<uw .u64 ((p+1)*y0)))))=some true:=by
    by_cases hb:4294967296≤p+1
    ·rw[bz hb]
    ·have h2:(p+1)*y0≤4294967295*4294967295:=Nat.mul_le_mul (by omega) (by omega)
     rw[bu hb,oW (a:=4294967296*r) (by omega),oW (by omega),oW (by omega),decide_eq_true (by omega)]
   have sb:gJ .u64 (p+1) 1=p:=uy (by omega) (by omega)
   by_cases hb:4294967296≤r+y1
   ·have st:fo n0 d y0 y1 (r,p+1)=some (.inr p):=by
     unfold fo
     dsimp only
     rw[test,ar,mJ,oW (a:=r+y1) (by omega),bz hb,sb]
    rw[ef st];have h2:p*y0≤4294967296*4294967295:=Nat.mul_le_mul (by omega) (by omega)
    have h3:p≤Q:=by rw[le_iff]; omega
    rw[show p=Q by omega]
   ·have st:fo n0 d y0 y1 (r,p+1)=some (.inl (r+y1,p)):=by
     unfold fo
     dsimp only
     rw[test,ar,mJ,oW (a:=r+y1) (by omega),bu hb,sb]
    rw[cE st];exact ih (r+y1) p m (by omega) (by omega) (by omega) (by omega) (by omega) (by omega)
  ·have hq2:q<4294967296:=by omega
   have h2:q*y0≤4294967295*4294967295:=Nat.mul_le_mul (by omega) (by omega)
   have st:fo n0 d y0 y1 (r,q)=some (.inr q):=by
    unfold fo
    dsimp only
    rw[bu (by omega),oW (a:=4294967296*r) (by omega),oW (by omega),oW (by omega),ar,bu (by omega)]
   rw[ef st];have h3:q≤Q:=by rw[le_iff]; omega
   rw[show q=Q by omega]
theorem Aq (n0 y s y1 y0 d e:Nat):∀m q r,cT (qg n0) m (y,s,y1,y0,d,e,q,r)=(cT (fo n0 d y0 y1) m (r,q)).map fun q=>(y,s,y1,y0,d,e,q):=by
 intro m
 induction m with
 | zero=>intro q r; rfl
 | succ m ih =>
  intro q r;have a:∀b,(br b (br (decide (4294967296≤uw .u64 (r+y1))) (some (.inr (y,s,y1,y0,d,e,gJ .u64 q 1))) (some (.inl (y,s,y1,y0,d,e,gJ .u64 q 1,uw .u64 (r+y1))))) (some (.inr (y,s,y1,y0,d,e,q))):Option ((Nat × Nat × Nat × Nat × Nat × Nat × Nat × Nat) ⊕ (Nat × Nat × Nat × Nat × Nat × Nat × Nat))) =
   (br b (br (decide (4294967296≤uw .u64 (r+y1))) (some (.inr (gJ .u64 q 1))) (some (.inl (uw .u64 (r+y1),gJ .u64 q 1)))) (some (.inr q)):Option ((Nat × Nat) ⊕ Nat)).map fun x=>match x with | .inl (r,q)=>.inl (y,s,y1,y0,d,e,q,r) | .inr q=>.inr (y,s,y1,y0,d,e,q):=by
   intro b;cases b
   ·rfl
   ·rw[mJ,mJ];cases decide (4294967296≤uw .u64 (r+y1))<;>rfl
  have st:qg n0 (y,s,y1,y0,d,e,q,r)=(fo n0 d y0 y1 (r,q)).map fun x=>match x with | .inl (r,q)=>.inl (y,s,y1,y0,d,e,q,r) | .inr q=>.inr (y,s,y1,y0,d,e,q):=by
   unfold qg fo
   dsimp only
   cases(br (decide (4294967296≤q)) (some true) (some (decide (uw .u64 ((uw .u64 (4294967296*r))+d)<uw .u64 (q*y0)))):Option Bool) with
   | none=>rfl
   | some b=>exact a b
  unfold cT;rw[st];cases fo n0 d y0 y1 (r,q) with
  | none=>rfl
  | some x =>
   cases x with
   | inl p=>exact ih p.2 p.1
   | inr p=>rfl
theorem sj {a b:Nat} (h:b≤a) (hr:a-b<18446744073709551616):gJ .u64 (uw .u64 a) (uw .u64 b)=a-b:=by
 show(a%18446744073709551616+(18446744073709551616-b%18446744073709551616%18446744073709551616))%18446744073709551616=a-b
 omega
theorem HH {x:Nat} (h0:0<x):2 ^ (bl x-1)≤x∧x<2 ^ bl x∧0<bl x:=by
 have h1:0<bl x:=qm.2 (by simp; omega)
 refine⟨qm.1 (by omega),?_,h1⟩
 exact Nat.lt_of_not_le fun h=>Nat.lt_irrefl _ (qm.2 h)
theorem po {a s:Nat} (h:s≤64):dN .u64 a s=uw .u64 (a*2 ^ s):=by
 have:min s (IntKind.bits .u64)=s:=Nat.min_eq_left h;unfold dN;rw[this]
theorem tD {a s:Nat} (h:s≤64):cK .u64 a s=a/2 ^ s:=by
 have:min s (IntKind.bits .u64)=s:=Nat.min_eq_left h;unfold cK;rw[this]
theorem zl {n:Nat} (hn:4<n) {u y1 y0 d:Nat} (h1:2147483648≤y1) (h1':y1<4294967296) (h0:y0<4294967296) (hd:d<4294967296) (hu:u<y1*4294967296+y0) :
  cT (fo n d y0 y1) n (gJ .u64 u (uw .u64 (uw .u64 (u/y1)*y1)),uw .u64 (u/y1))=some ((u*4294967296+d)/(y1*4294967296+y0)):=by
 have e1:=Nat.div_add_mod u y1;have e2:=Nat.mod_lt u (show 0<y1 by omega)
 rw[Nat.mul_comm] at e1;have hq:u/y1≤4294967297:=by
  have:u/y1<4294967298:=by rw[Nat.div_lt_iff_lt_mul (by omega)]; omega
  omega
 rw[oW (a:=u/y1) (by omega),oW (a:=u/y1*y1) (by omega),uy (by omega) (by omega)]
 have hy:0<y1*4294967296+y0:=by omega
 refine AM n h1 h1' h0 hd (fun p=>by rw[Nat.le_div_iff_mul_le hy,Nat.mul_add,←Nat.mul_assoc]) (by rw[Nat.div_lt_iff_lt_mul hy]; omega) 2 _ _ n (by omega) (by omega) (by omega) ?_ hq (by omega)
 have:(u*4294967296+d)/(y1*4294967296+y0)<u/y1+1:=by
  rw[Nat.div_lt_iff_lt_mul hy,Nat.add_mul,Nat.one_mul,Nat.mul_add,←Nat.mul_assoc];omega
 omega
theorem Fc {U w v A B R1 R0 d1 d0:Nat} (hU:U=w*4294967296) (h6:4294967296*d1+d0=v) (h5:A*4294967296+R1*4294967296=(w+d1)*4294967296) (m3:B+R0=R1*4294967296+d0) :
  U+v=R0+(A*4294967296+B):=by
 omega
theorem I6 (u:Nat):u*18446744073709551616=u*4294967296*4294967296:=by rw[Nat.mul_assoc]
theorem Fy {n:Nat} (hn:4<n) {x1 x2 x3:Nat} (h1:x1<x3) (h2:x2<18446744073709551616) (h3:x3<18446744073709551616) :
  Dd n x1 x2 x3=some ((x1*18446744073709551616+x2)/x3,(x1*18446744073709551616+x2)%x3):=by
 unfold Dd;rw[bu (by omega),bu (by omega)]
 by_cases hz:x1=0
 ·subst hz;rw[bz rfl,dw (by omega),dw (by omega),oW (Nat.lt_of_le_of_lt (Nat.div_le_self _ _) h2)]
  simp
 ·rw[bu hz];obtain⟨l1,l2,l3⟩:=HH (x:=x3) (by omega)
  have l4:bl x3≤64:=Bl h3;obtain⟨s,hs⟩:∃s,bl x3+s=64:=⟨64-bl x3,by omega⟩
  have r0:xh n x3=some ((s:Nat):Int):=by
   unfold xh;rw[zH n x3 h3,ar,bq (by omega) (by omega)]
   congr 1
   omega
  have u0:ui .u64 ((s:Nat):Int)=s:=by
   show(((s:Nat):Int)%((2 ^ 64:Nat):Int)).toNat=s
   omega
  have P0:0<2 ^ s:=Nat.two_pow_pos s;have PP:2 ^ s*2 ^ (64-s)=18446744073709551616:=by rw[←Nat.pow_add,show s+(64-s)=64 by omega]
  have X1:x3*2 ^ s<18446744073709551616:=by
   have:x3*2 ^ s<2 ^ bl x3*2 ^ s:=Nat.mul_lt_mul_of_pos_right l2 P0;rw[←Nat.pow_add,hs] at this;exact this
  have X2:9223372036854775808≤x3*2 ^ s:=by
   have:2 ^ (bl x3-1)*2 ^ s≤x3*2 ^ s:=Nat.mul_le_mul_right _ l1;rw[←Nat.pow_add,show bl x3-1+s=63 by omega] at this
   exact this
  have X3:x1*2 ^ s<x3*2 ^ s:=Nat.mul_lt_mul_of_pos_right h1 P0;have s0:dN .u64 x3 s=x3*2 ^ s:=by
   rw[po (by omega),oW X1]
  have s1:dN .u64 x1 s=x1*2 ^ s:=by
   rw[po (by omega),oW (by omega)]
  have s2:dN .u64 x2 s=x2*2 ^ s%18446744073709551616:=by
   rw[po (by omega)]; rfl
  have t0:cK .u64 x2 (gJ .u64 64 s)=x2/2 ^ (64-s):=by
   rw[uy (by decide) (by omega)]
   rw[tD (by omega)]
  have t1:x2/2 ^ (64-s)<2 ^ s:=by rw[Nat.div_lt_iff_lt_mul (Nat.two_pow_pos _),PP]; exact h2
  have t2:x2*2 ^ s/18446744073709551616=x2/2 ^ (64-s):=by rw[←PP,Nat.mul_comm x2,Nat.mul_div_mul_left _ _ P0]
  have hor:uw .u64 (uw .u64 (x1*2 ^ s) ||| uw .u64 (x2/2 ^ (64-s)))=x1*2 ^ s+x2/2 ^ (64-s):=by
   have h0:x2/2 ^ (64-s)≤x2:=Nat.div_le_self _ _;rw[Ec (show x1*2 ^ s<2 ^ 64 by omega) (show x2/2 ^ (64-s)<2 ^ 64 by omega),←Nat.shiftLeft_eq,Nat.shiftLeft_add_eq_or_of_lt t1]
  rw[r0,ar,u0,ar,s0,s1,t0,hor,s2];have key:(x1*2 ^ s+x2/2 ^ (64-s))*18446744073709551616+x2*2 ^ s%18446744073709551616=(x1*18446744073709551616+x2)*2 ^ s:=by
   have:=Nat.div_add_mod (x2*2 ^ s) 18446744073709551616;rw[t2] at this;rw[Nat.add_mul,Nat.add_mul,Nat.mul_right_comm x1];omega
  have hv:x2*2 ^ s%18446744073709551616<18446744073709551616:=Nat.mod_lt _ (by decide)
  have hu:x1*2 ^ s+x2/2 ^ (64-s)<x3*2 ^ s:=by
   have h0:(x1*18446744073709551616+x2)*2 ^ s<(x3*18446744073709551616)*2 ^ s:=Nat.mul_lt_mul_of_pos_right (by omega) P0
   rw[←key,Nat.mul_right_comm x3] at h0;omega
  have r1:(x1*18446744073709551616+x2)/x3=((x1*18446744073709551616+x2)*2 ^ s)/(x3*2 ^ s):=by rw[Nat.mul_div_mul_right _ _ P0]
  have r3:(x1*18446744073709551616+x2)%x3=(((x1*18446744073709551616+x2)*2 ^ s)%(x3*2 ^ s))/2 ^ s:=by rw[Nat.mul_mod_mul_right,Nat.mul_div_cancel _ P0]
  rw[r1,r3,←key];have hss:∀R,cK .u64 R s=R/2 ^ s:=fun R=>tD (by omega)
  clear PP t1 t2 hor key r1 r3 r0 u0 s1 s2 s0 t0 P0 X3 l1 l2 l3 l4 hs;generalize x1*2 ^ s+x2/2 ^ (64-s)=u at hu ⊢;generalize x2*2 ^ s%18446744073709551616=v at hv ⊢;generalize x3*2 ^ s=X at X1 X2 hu ⊢;have hX:X/4294967296*4294967296+X%4294967296=X:=Nat.div_add_mod' _ _;rw[dw (show 0<cK .u64 X 32 by rw[B7]; omega)]
  simp only[B7,vV X1,vV hv];rw[ar,Aq];rw[zl hn (u:=u) (y1:=X/4294967296) (y0:=X%4294967296) (d:=v/4294967296) (by omega) (by omega) (by omega) (by omega) (by omega),hX]
  have q0:(u*4294967296+v/4294967296)/X<4294967296:=by rw[Nat.div_lt_iff_lt_mul (by omega)]; omega
  have m1:=Nat.div_add_mod (u*4294967296+v/4294967296) X;have m2:=Nat.mod_lt (u*4294967296+v/4294967296) (show 0<X by omega)
  rw[Option.map_some,ar]
  dsimp only
  rw[ar,dw (by omega)]
  have e1:uw .u64 (uw .u64 (u*4294967296)+v/4294967296)=uw .u64 (u*4294967296+v/4294967296):=Nat.mod_add_mod _ _ _;rw[Nat.mul_comm X] at m1;rw[e1,sj (by omega) (by omega)]
  have e2:u*4294967296+v/4294967296-(u*4294967296+v/4294967296)/X*X=(u*4294967296+v/4294967296)%X:=by omega
  rw[e2];obtain⟨Q1,hQ1⟩:∃Q,(u*4294967296+v/4294967296)/X=Q:=⟨_,rfl⟩;obtain⟨R1,hR1⟩:∃R,(u*4294967296+v/4294967296)%X=R:=⟨_,rfl⟩;clear e2;rw[hQ1] at q0 m1 ⊢;rw[hR1] at m1 m2 ⊢;rw[zl hn (u:=R1) (y1:=X/4294967296) (y0:=X%4294967296) (d:=v%4294967296) (by omega) (by omega) (by omega) (by omega) (by omega),hX,ar]
  have q1:(R1*4294967296+v%4294967296)/X<4294967296:=by rw[Nat.div_lt_iff_lt_mul (by omega)]; omega
  have m3:=Nat.div_add_mod (R1*4294967296+v%4294967296) X;have m4:=Nat.mod_lt (R1*4294967296+v%4294967296) (show 0<X by omega)
  rw[Nat.mul_comm X] at m3;have e0:uw .u64 (uw .u64 (R1*4294967296)+v%4294967296)=uw .u64 (R1*4294967296+v%4294967296):=Nat.mod_add_mod _ _ _;rw[e0,ar,sj (by omega) (by omega)]
  have e3:R1*4294967296+v%4294967296-(R1*4294967296+v%4294967296)/X*X=(R1*4294967296+v%4294967296)%X:=by omega
  rw[e3,hss];obtain⟨Q0,hQ0⟩:∃Q,(R1*4294967296+v%4294967296)/X=Q:=⟨_,rfl⟩;obtain⟨R0,hR0⟩:∃R,(R1*4294967296+v%4294967296)%X=R:=⟨_,rfl⟩;clear e3;rw[hQ0] at q1 m3 ⊢;rw[hR0] at m3 m4 ⊢;rw[oW (a:=Q1*4294967296) (by omega),oW (by omega)]
  clear hQ1 hR1 hQ0 hR0 e1 e0 hss X1 X2 hX q1 q0 m2 hu h1 h2 h3 hz;have fin:u*18446744073709551616+v=R0+(Q1*4294967296+Q0)*X:=by
   have h0:Q1*X*4294967296+R1*4294967296=(u*4294967296+v/4294967296)*4294967296:=by rw[←m1,Nat.add_mul]
   rw[Nat.add_mul,Nat.mul_right_comm Q1];have h4:=Nat.div_add_mod v 4294967296;generalize v/4294967296=d1 at h0 h4;generalize v%4294967296=d0 at m3 h4;generalize Q1*X=A at h0 ⊢;generalize Q0*X=B at m3 ⊢;exact Fc (I6 u) h4 h0 m3
  rw[fin,Nat.add_mul_div_right _ _ (show 0<X by omega),Nat.add_mul_mod_self_right,Nat.div_eq_of_lt m4,Nat.mod_eq_of_lt m4,Nat.zero_add]
end
section
open Go Go.Ab Go.Ab.W
theorem BQ {q:List Nat} {i e d:Nat}:(List.replicate i 0++e::q).set i d=List.replicate i 0++d::q:=by
 rw[List.set_append_right _ _ (by simp)]
 simp
theorem Du (i:Nat) (q:List Nat):List.replicate (i+1) 0++q=List.replicate i 0++0::q:=by
 rw[List.replicate_succ',List.append_assoc]; rfl
theorem CV {n:Nat} {l:List Nat} {d:Nat} (hl:Wd l) (hd:d<18446744073709551616) (h0:d≠0) (hb:l.length<1000000) (hn:l.length<n) (hn4:4<n) :
  ∃q t m,wG n l [d]=some (q,m)∧Wd q∧vl q=vl l/d∧q.length=l.length∧Lg ((vl l%d:Nat):Int) t m∧t=false:=by
 have hL:∀i q r m,i+q.length=l.length→i<m→Wd q→r<d→vl l=vl (l.take i)+wp i*(d*vl q+r) →
   ∃q' r',cT (nX n l [d]) m (List.replicate i 0++q,r,(i:Int)-1)=some (q',r')∧Wd q'∧q'.length=l.length∧r'<d∧vl l=d*vl q'+r':=by
  intro i
  induction i with
  | zero =>
   intro q r m hi hm hq hr hv;obtain⟨m,rfl⟩:∃m',m=m'+1:=⟨m-1,by omega⟩
   refine⟨q,r,ef ?_,hq,by omega,hr,?_⟩
   ·unfold nX
    dsimp only
    rw[bu (by decide)]; rfl
   ·rw[hv]; simp[vl,wp]
  | succ i ih =>
   intro q r m hi hm hq hr hv;obtain⟨m,rfl⟩:∃m',m=m'+1:=⟨m-1,by omega⟩
   have hi':i<l.length:=by omega
   obtain⟨x,e2⟩:∃x,l[i]? = some x:=⟨l[i],by simp⟩
   have hx:=hl.at e2;have e0:((i+1:Nat):Int)-1=((i:Nat):Int):=by omega
   have ht:vl (l.take (i+1))=vl (l.take i)+wp i*x:=by
    rw[List.take_add_one,e2,Option.toList_some,pn,List.length_take,Nat.min_eq_left (Nat.le_of_lt hi')]
   have e3:(List.replicate (i+1) 0++q)[i]? = some 0:=by rw[List.getElem?_append_left (by simp),List.getElem?_replicate]; simp
   have hqd:(r*18446744073709551616+x)/d<18446744073709551616:=by
    rw[Nat.div_lt_iff_lt_mul (by omega),Nat.mul_comm _ d]
    have:(r+1)*18446744073709551616≤d*18446744073709551616:=Nat.mul_le_mul_right _ hr;omega
   have st:nX n l [d] (List.replicate (i+1) 0++q,r,((i:Nat):Int))=some (.inl (List.replicate i 0++(r*18446744073709551616+x)/d::q,(r*18446744073709551616+x)%d,(i:Int)-1)):=by
    unfold nX
    dsimp only
    rw[bz (by omega),aK hi',bw,Int.toNat_natCast,e2,ar]
    rw[show cG 0 [d].length=true from rfl,bw,show([d]:List Nat)[(0:Int).toNat]? = some d from rfl,ar,Fy hn4 hr hx hd,ar]
    dsimp only
    rw[Int.toNat_natCast,aK hi',bw,e3,ar,Du,BQ,bq (by omega) (by omega)]
   rw[e0,cE st];refine ih _ _ m (by rw[List.length_cons]; omega) (by omega) (fun e he=>?_) (Nat.mod_lt _ (by omega)) ?_
   ·rcases List.mem_cons.1 he with rfl|h
    ·exact hqd
    ·exact hq e h
   ·have h1:=Nat.div_add_mod (r*18446744073709551616+x) d;rw[hv,ht,iG,eu];generalize (r*18446744073709551616+x)%d=R at h1 ⊢;generalize (r*18446744073709551616+x)/d=Q at h1 ⊢;have h2:wp i*(d*Q+R)=wp i*(r*18446744073709551616+x):=by rw[h1]
    rw[Nat.mul_comm r] at h2;simp only[Nat.mul_add,Nat.mul_left_comm (wp i) 18446744073709551616,Nat.mul_left_comm d 18446744073709551616,Nat.mul_assoc] at h2 ⊢;omega
 obtain⟨q,r,q1,q2,q3,q4,q5⟩:=hL l.length [] 0 n (by simp) hn Wd.nil (by omega) (by rw[List.take_length,gZ]; simp)
 rw[List.append_nil] at q1;obtain⟨t,m,m1,m2⟩:=fT (n:=n) false (Wd.one (show r<18446744073709551616 by omega)) (by simp) (by simp; omega)
 have hr:vl [r]=r:=by simp[vl]
 rw[hr] at m2;have dq:vl q=vl l/d:=by
  rw[q5,Nat.mul_add_div (by omega),Nat.div_eq_of_lt q4]; rfl
 have dr:r=vl l%d:=by
  rw[q5,Nat.mul_add_mod,Nat.mod_eq_of_lt q4]
 refine⟨q,t,m,?_,q2,dq,q3,by rw[←dr]; exact m2,?_⟩
 ·unfold wG;rw[dw (by omega),Int.toNat_natCast,nA (by omega),bw,bz (show(([d]:List Nat).length:Int)=1 from rfl),bq (by omega) (by omega),q1,ar]
  dsimp only
  rw[m1]; rfl
 ·have:=m2.B3;rw[this];simp[rJ]
end
section
open Go Go.Ab Go.Ab.W
theorem JC (m:Nat):Fm (m+20) 0=some (false,[]):=by rfl
theorem JO (m:Nat):Fm (m+20) 1=some (false,[1]):=by rfl
theorem DT {n:Nat} (h:20≤n):Fm n 0=some (false,[]):=by obtain⟨m,rfl⟩:∃m,n=m+20:=⟨n-20,by omega⟩; exact JC m
theorem pd {n:Nat} (h:20≤n):Fm n 1=some (false,[1]):=by obtain⟨m,rfl⟩:∃m,n=m+20:=⟨n-20,by omega⟩; exact JO m
theorem nS:Lg 1 false [1]:=Lg.small (by decide) (by decide) false
end
section
open Go Go.Ab Go.Ab.W
def ul (v:Nat):List Nat:=if v=0 then[] else[v]
theorem BE {v:Nat} (h:v≠0):ul v = [v]:=if_neg h
theorem rp {v:Nat} (h:v<18446744073709551616):Lg (v:Int) false (ul v):=by
 by_cases h0:v=0
 ·subst h0; exact Lg.zero
 ·rw[BE h0]; exact Lg.small h0 h false
theorem uu (v:Nat):(ul v).length≤1:=by unfold ul; split<;>simp
end
section
open Go Go.Ab Go.Ab.W
def m2 (a b:Nat):Nat:=if b=0 then(if a=0 then 0 else 1) else 2
section
variable {n : Nat} {k : Int} {a b : Nat}
theorem Eb (hn:40<n) (s:Bool) {v:Nat} (hs:s=true→v≠0):kP n s [v,0,0,0,0,0,0,0]=some (s,ul v):=by
 obtain⟨m,rfl⟩:∃m,n=m+20:=⟨n-20,by omega⟩
 by_cases h:v=0
 ·subst h;cases s with
  | false=>rfl
  | true=>exact absurd rfl (hs rfl)
 ·have st:e6 (m+20) [v,0,0,0,0,0,0,0] 1=some (.inr 1):=by
   show ob (ob (some (decide (v=0))) fun v66=>some v66) _=_
   rw[decide_eq_false h]; rfl
  have s8:e6 (m+20) [v,0,0,0,0,0,0,0] 8=some (.inl 7):=rfl;have s7:e6 (m+20) [v,0,0,0,0,0,0,0] 7=some (.inl 6):=rfl;have s6:e6 (m+20) [v,0,0,0,0,0,0,0] 6=some (.inl 5):=rfl;have s5:e6 (m+20) [v,0,0,0,0,0,0,0] 5=some (.inl 4):=rfl;have s4:e6 (m+20) [v,0,0,0,0,0,0,0] 4=some (.inl 3):=rfl;have s3:e6 (m+20) [v,0,0,0,0,0,0,0] 3=some (.inl 2):=rfl;have s2:e6 (m+20) [v,0,0,0,0,0,0,0] 2=some (.inl 1):=rfl;unfold kP;rw[show(([v,0,0,0,0,0,0,0]:List Nat).length:Int)=8 from rfl,cE s8,cE s7,cE s6,cE s5,cE s4,cE s3,cE s2,ef st,ar,BE h]
  cases s<;>rfl
end
end
section
open Go Go.Ab Go.Ab.W
theorem Jc (n a:Nat):E1 n a 0 0 0 0 0 0 0=some (false,a,0,0,0,0,0,0,0):=rfl
end
section
open Go Go.Ab Go.Ab.W
section
variable {M : Nat} {es : List (Int × Int)} {x n : Nat} {k : Int}
theorem yW (hn:40<n) {v:Nat} (hv:v<18446744073709551616):Ef n v 0 0 0 0 0 0 0=some (false,ul v)∧Lg (v:Int) false (ul v):=by
 refine⟨?_,rp hv⟩;unfold Ef;rw[Jc,ar]
 dsimp only
 rw[show lim ((([]:List Nat)++[v,0,0,0,0,0,0,0]).length)=true from rfl,bw]
 show ob (kP n false [v,0,0,0,0,0,0,0]) _=_
 rw[Eb (by omega) false (fun h=>by cases h),ar]
end
end
section
open Go Go.Ab Go.Ab.W
theorem Is {r c x:Nat} (hc:c<2 ^ r):c ||| (x*2 ^ r)=c+x*2 ^ r:=by
 rw[Nat.or_comm,Nat.mul_comm,←Nat.two_pow_add_eq_or_of_lt hc,Nat.add_comm]
theorem pJ (k:Nat):Int.tdiv (k:Int) 64=((k/64:Nat):Int):=by
 rw[Int.tdiv_eq_ediv_of_nonneg (Int.natCast_nonneg _)]; omega
theorem uW (k:Nat):Int.tmod (k:Int) 64=((k%64:Nat):Int):=by
 rw[Int.tmod_eq_emod_of_nonneg (Int.natCast_nonneg _)]; omega
theorem mn {a:Nat} (h:a<18446744073709551616):uw .u64 a=a:=Nat.mod_eq_of_lt h
theorem Ak {x r:Nat} (hr:r<64) (hx:x<18446744073709551616) :
  ∃y,uw .u64 (dN .u64 x r)=y*2 ^ r∧y*2 ^ r<18446744073709551616∧y*2 ^ r+18446744073709551616*(x/2 ^ (64-r))=x*2 ^ r∧x/2 ^ (64-r)<2 ^ r∧y*2 ^ r+2 ^ r≤18446744073709551616:=by
 have hp:2 ^ (64-r)*2 ^ r=18446744073709551616:=by rw[←Nat.pow_add,Nat.sub_add_cancel (by omega)]
 have h2:0<2 ^ r:=Nat.pow_pos (by decide)
 have h3:0<2 ^ (64-r):=Nat.pow_pos (by decide)
 have hm:=Nat.div_add_mod x (2 ^ (64-r));have hml:=Nat.mod_lt x h3;have hs:x*2 ^ r=(x%2 ^ (64-r))*2 ^ r+18446744073709551616*(x/2 ^ (64-r)):=by
  rw[←hp,Nat.mul_assoc,Nat.mul_comm (2 ^ r),←Nat.mul_assoc,←Nat.add_mul,Nat.add_comm,hm]
 have hlt:(x%2 ^ (64-r))*2 ^ r+2 ^ r≤18446744073709551616:=by
  rw[←hp];have:=Nat.mul_le_mul_right (2 ^ r) (show x%2 ^ (64-r)+1≤2 ^ (64-r) by omega)
  rw[Nat.add_mul,Nat.one_mul] at this;exact this
 have hlt':(x%2 ^ (64-r))*2 ^ r<18446744073709551616:=by omega
 refine⟨x%2 ^ (64-r),?_,hlt',hs.symm,?_,hlt⟩
 ·have hb:min r (IntKind.bits .u64)=r:=Nat.min_eq_left (by show r≤64; omega)
  unfold dN;rw[hb]
  show(x*2 ^ r)%18446744073709551616%18446744073709551616=_
  rw[Nat.mod_mod,hs,Nat.add_mul_mod_self_left,Nat.mod_eq_of_lt hlt']
 ·rw[Nat.div_lt_iff_lt_mul h3,Nat.mul_comm,hp]; exact hx
theorem CC (P:List Nat) (c w:Nat) (z:List Nat) {i:Nat} (hi:i=P.length):(P++c::z).set i w=P++w::z:=by
 subst hi;rw[List.set_append_right _ _ (Nat.le_refl _),Nat.sub_self]; rfl
theorem yl (P:List Nat) (c:Nat) (z:List Nat) {i:Nat} (hi:i=P.length):(P++c::z)[i]? = some c:=by
 subst hi;rw[List.getElem?_append_right (Nat.le_refl _),Nat.sub_self]; rfl
theorem Fq {n k:Nat} {l:List Nat} (hl:Wd l) (hb:l.length<1000000) (hk:k<64000000) (hn:l.length+k+4<n) :
  ∃t m,Bv n l (k:Int)=some m∧Lg ((vl l*2 ^ k:Nat):Int) t m:=by
 have hr:k%64<64:=Nat.mod_lt _ (by decide)
 have hq:k/64<1000000:=by omega
 generalize hqd:k/64=q at hq;generalize hrd:k%64=r at hr;have hkv:2 ^ k=wp q*2 ^ r:=by
  have:k=64*q+r:=by omega
  rw[this,Nat.pow_add,Nat.pow_mul]; rfl
 have hL:∀j i m P c,i+j=l.length→j<m→P.length=q+i→Wd P→c<2 ^ r→vl P+wp (q+i)*c+wp (q+i)*(2 ^ r*vl (l.drop i))=2 ^ k*vl l →
   ∃out,cT (nH n l (k:Int)) m (P++c::List.replicate j 0,l.length+q+1,(i:Int))=some (out,l.length+q+1)∧Wd out∧vl out=2 ^ k*vl l∧out.length=l.length+q+1:=by
  intro j
  induction j with
  | zero =>
   intro i m P c hi hm hP hw hc hv;obtain⟨m,rfl⟩:∃m',m=m'+1:=⟨m-1,by omega⟩
   have hr2:2 ^ r≤2 ^ 64:=Nat.pow_le_pow_right (by decide) (by omega)
   refine⟨P++[c],ef ?_,hw.app (Wd.one (by omega)),?_,by simp; omega⟩
   ·unfold nH
    dsimp only
    rw[bu (by omega)]; rfl
   ·rw[lV,hP,←hv,List.drop_eq_nil_of_le (by omega)]
    simp[vl]
  | succ j ih =>
   intro i m P c hi hm hP hw hc hv;obtain⟨m,rfl⟩:∃m',m=m'+1:=⟨m-1,by omega⟩
   have hi':i<l.length:=by omega
   obtain⟨x,e2⟩:∃x,l[i]? = some x:=⟨l[i],by simp⟩
   have hx:=hl.at e2;obtain⟨y,y1,y2,y3,y4,y5⟩:=Ak hr hx;have hr2:2 ^ r≤2 ^ 63:=Nat.pow_le_pow_right (by decide) (by omega)
   have hw2:uw .u64 (uw .u64 c ||| uw .u64 (dN .u64 x r))=c+y*2 ^ r:=by
    rw[y1,mn (show c<18446744073709551616 by omega),Is hc,mn (by omega)]
   have hcd:wp (q+(i+1))=18446744073709551616*wp (q+i):=iG (q+i);have hval:vl (P++[c+y*2 ^ r])+wp (q+(i+1))*(x/2 ^ (64-r))+wp (q+(i+1))*(2 ^ r*vl (l.drop (i+1)))=2 ^ k*vl l:=by
    rw[←hv,jR e2,lV,hP,hcd,eu,gZ,Nat.mul_zero,Nat.add_zero];have e1:2 ^ r*(x+18446744073709551616*vl (l.drop (i+1)))=y*2 ^ r+18446744073709551616*(x/2 ^ (64-r))+18446744073709551616*(2 ^ r*vl (l.drop (i+1))):=by
     rw[Nat.mul_add,Nat.mul_comm (2 ^ r) x,←y3,Nat.mul_left_comm]
    rw[e1];generalize x/2 ^ (64-r)=d;generalize 2 ^ r*vl (l.drop (i+1))=V;generalize y*2 ^ r=Y;simp only[Nat.mul_add,Nat.mul_assoc,Nat.mul_left_comm (wp (q+i)) 18446744073709551616];omega
   have st:nH n l (k:Int) (P++c::List.replicate (j+1) 0,l.length+q+1,(i:Int))=some (.inl ((P++[c+y*2 ^ r])++x/2 ^ (64-r)::List.replicate j 0,l.length+q+1,((i+1:Nat):Int))):=by
    unfold nH
    dsimp only
    rw[bz (by omega),aK hi',bw,Int.toNat_natCast,e2,ar,pJ,uW,hqd,hrd,bq (x:=((q:Nat):Int)) (by omega) (by omega),bq (x:=(i:Int)+(q:Int)) (by omega) (by omega)]
    rw[show(i:Int)+(q:Int)=((q+i:Nat):Int) by omega,aK (by omega),bw,Int.toNat_natCast,yl P c _ hP.symm,ar,dw (Int.natCast_nonneg _),Int.toNat_natCast,hw2,ar,bw]
    rw[CC P c _ _ hP.symm,bq (x:=64-(r:Int)) (by omega) (by omega)]
    by_cases h0:0<r
    ·rw[bz (by omega),aM (by omega),ar,dw (by omega),aK (by omega),bw,Int.toNat_natCast]
     rw[List.replicate_succ,show P++(c+y*2 ^ r)::0::List.replicate j 0=(P++[c+y*2 ^ r])++0::List.replicate j 0 by simp]
     rw[yl (P++[c+y*2 ^ r]) 0 _ (by simp; omega),ar,CC (P++[c+y*2 ^ r]) 0 _ _ (by simp; omega),ar,aM (by omega)]
     have hsh:cK .u64 x (64-(r:Int)).toNat=x/2 ^ (64-r):=by
      unfold cK;rw[show(64-(r:Int)).toNat=64-r by omega]
      show x/2 ^ min (64-r) 64=_
      rw[Nat.min_eq_left (show 64-r≤64 by omega)]
     rw[hsh]
    ·have hr0:r=0:=by omega
     subst hr0;rw[bu (by omega),ar,aM (by omega),List.replicate_succ]
     have:x/2 ^ (64-0)=0:=Nat.div_eq_of_lt hx;rw[this];simp
   rw[cE st];refine ih (i+1) m _ _ (by omega) (by omega) (by simp; omega) (hw.app (Wd.one (by omega))) y4 hval
 obtain⟨out,o1,o2,o3,o4⟩:=hL l.length 0 n (List.replicate q 0) 0 (by omega) (by omega) (by simp) (Wd.zeros q) (Nat.pow_pos (by decide)) (by
  rw[j6,List.drop_zero,hkv,Nat.mul_zero,Nat.zero_add,Nat.add_zero,Nat.mul_assoc])
 obtain⟨t,m,m1,m2⟩:=fT (n:=n) false o2 (by omega) (by omega)
 refine⟨t,m,?_,?_⟩
 ·unfold Bv;rw[pJ,hqd,bq (x:=((q:Nat):Int)) (by omega) (by omega),bq (x:=(l.length:Int)+(q:Int)) (by omega) (by omega),ar]
  rw[show(l.length:Int)+(q:Int)=((l.length+q:Nat):Int) by omega,aM (by omega),dw (Int.natCast_nonneg _),Int.toNat_natCast,nA (by omega),bw]
  rw[show List.replicate (l.length+q+1) 0=List.replicate q 0++0::List.replicate l.length 0 by
   rw[show l.length+q+1=q+(l.length+1) by omega,←List.replicate_append_replicate,List.replicate_succ]]
  rw[show(0:Int)=((0:Nat):Int) from rfl,o1,ar]
  dsimp only
  rw[m1]; rfl
 ·have:rJ false (vl out)=((vl l*2 ^ k:Nat):Int):=by
   unfold rJ;rw[o3,Nat.mul_comm]; rfl
  rw[←this]; exact m2
theorem Jz (d:Nat):d<2 ^ bl d:=by
 unfold bl
 split
 ·rename_i h; subst h; decide
 ·rename_i h; exact(Nat.log2_lt h).1 (Nat.lt_succ_self _)
theorem Iw {d:Nat} (h:d≠0):2 ^ (bl d-1)≤d:=by
 unfold bl;rw[if_neg h]; exact Nat.log2_self_le h
theorem Ix {d:Nat} (h:d≠0):0<bl d:=by
 unfold bl;rw[if_neg h]; exact Nat.succ_pos _
theorem yz {n:Nat} {l:List Nat} (hl:Wd l) (ll:∀d,l.getLast? = some d→d≠0) (hb:l.length<1000000) :
  ∃k:Nat,Aa n l=some (k:Int)∧k≤64*l.length∧vl l<2 ^ k∧(l≠[]→0<k∧2 ^ (k-1)≤vl l):=by
 by_cases h:l = []
 ·subst h;exact⟨0,rfl,Nat.le_refl _,Nat.one_pos,fun h=>absurd rfl h⟩
 ·obtain⟨a,d,rfl⟩:∃a d,l=a++[d]:=⟨l.dropLast,l.getLast h,(List.dropLast_concat_getLast h).symm⟩;have hd0:=ll d (by simp)
  have hd:=hl d (by simp)
  have hla:(a++[d]).length=a.length+1:=by simp
  have hb1:2 ^ (bl d-1)≤d:=Iw hd0;have hb2:d<2 ^ bl d:=Jz d;have hb3:bl d≤64:=Bl (s:=64) hd;have hb0:0<bl d:=Ix hd0;have hwp:wp a.length=2 ^ (64*a.length):=by unfold wp; rw[Nat.pow_mul]
  refine⟨64*a.length+bl d,?_,by rw[hla]; omega,?_,fun _=>⟨by omega,?_⟩⟩
  ·unfold Aa xh;rw[bu (by rw[hla]; omega),hla,bq (by omega) (by omega),show((a.length+1:Nat):Int)-1=((a.length:Nat):Int) by omega,aK (by omega),bw,Int.toNat_natCast,yl a d [] rfl,ar,zH n d hd,ar,ar]
   rw[bq (x:=64-((bl d:Nat):Int)) (by omega) (by omega),bq (x:=64*((a.length+1:Nat):Int)) (by omega) (by omega),bq (by omega) (by omega)]
   congr 1; omega
  ·have h1:=jO hl.left;rw[lV,eu,gZ,Nat.mul_zero,Nat.add_zero,Nat.pow_add,←hwp];have h2:=Nat.mul_le_mul_left (wp a.length) (show d+1≤2 ^ bl d by omega)
   rw[Nat.mul_add,Nat.mul_one] at h2;omega
  ·rw[lV,eu,gZ,Nat.mul_zero,Nat.add_zero,show 64*a.length+bl d-1=64*a.length+(bl d-1) by omega,Nat.pow_add,←hwp]
   have h2:=Nat.mul_le_mul_left (wp a.length) hb1;omega
theorem Ew {l:List Nat} (hl:Wd l) {k:Nat} (hk:k/64<l.length) (hd:2 ^ (k+1)∣vl l) :
  ∃w,l[k/64]? = some w∧uw .u64 (uw .u64 w ||| uw .u64 (dN .u64 1 (k%64)))<18446744073709551616∧vl (l.set (k/64) (uw .u64 (uw .u64 w ||| uw .u64 (dN .u64 1 (k%64)))))=vl l+2 ^ k:=by
 obtain⟨w,hw⟩:∃w,l[k/64]? = some w:=⟨l[k/64],by simp⟩
 have h0:=hl.at hw;generalize hqd:k/64=q at *;have hr:k%64<64:=Nat.mod_lt _ (by decide)
 generalize hrd:k%64=r at *;have hkk:k=64*q+r:=by omega
 have hwp:wp q=2 ^ (64*q):=by unfold wp; rw[Nat.pow_mul]
 have hpos:0<wp q:=xx q;have hdw:2 ^ (r+1)∣w:=by
  have h1:=eB l q (Nat.le_of_lt hk);have h2:wp q∣vl l:=Nat.dvd_trans (by rw[hwp]; exact Nat.pow_dvd_pow 2 (by omega)) hd
  have h3:vl (l.take q)=0:=by
   have h4:vl (l.take q)<wp q:=by
    have:=jO (hl.take q);rwa[List.length_take,Nat.min_eq_left (Nat.le_of_lt hk)] at this
   have h5:wp q∣vl (l.take q):=by
    rw[h1] at h2;exact(Nat.dvd_add_left (Nat.dvd_mul_right _ _)).1 h2
   exact Nat.eq_zero_of_dvd_of_lt h5 h4
  rw[h3,Nat.zero_add,jR hw] at h1;have h6:wp q*2 ^ (r+1)∣wp q*(w+18446744073709551616*vl (l.drop (q+1))):=by
   rw[←h1,hwp,←Nat.pow_add,←Nat.add_assoc,←hkk]; exact hd
  have h7:=Nat.dvd_of_mul_dvd_mul_left hpos h6;have h8:2 ^ (r+1)∣18446744073709551616*vl (l.drop (q+1)):=Nat.dvd_trans (by
   rw[show(18446744073709551616:Nat)=2 ^ 64 from rfl]; exact Nat.pow_dvd_pow 2 (by omega)) (Nat.dvd_mul_right _ _)
  exact(Nat.dvd_add_left h8).1 h7
 obtain⟨y,rfl⟩:=hdw;have h2r:2 ^ r<18446744073709551616:=by
  rw[show(18446744073709551616:Nat)=2 ^ 64 from rfl]; exact Nat.pow_lt_pow_right (by decide) hr
 have hsh:uw .u64 (dN .u64 1 r)=2 ^ r:=by
  unfold dN;rw[show min r (IntKind.bits .u64)=r from Nat.min_eq_left (by show r≤64; omega),Nat.one_mul,mn h2r,mn h2r]
 have hlt:2 ^ r<2 ^ (r+1):=Nat.pow_lt_pow_right (by decide) (Nat.lt_succ_self r)
 have hor:2 ^ (r+1)*y ||| 2 ^ r=2 ^ (r+1)*y+2 ^ r:=(Nat.two_pow_add_eq_or_of_lt hlt y).symm;have hfit:2 ^ (r+1)*y+2 ^ r<18446744073709551616:=by
  have hp:2 ^ (r+1)*2 ^ (63-r)=18446744073709551616:=by rw[←Nat.pow_add,show r+1+(63-r)=64 by omega]
  rw[←hp] at h0;have hy:=Nat.lt_of_mul_lt_mul_left h0;have:=Nat.mul_le_mul_left (2 ^ (r+1)) (show y+1≤2 ^ (63-r) by omega)
  rw[Nat.mul_add,Nat.mul_one,hp] at this;omega
 refine⟨_,hw,?_,?_⟩
 ·rw[hsh,mn h0,hor,mn hfit]; exact hfit
 ·rw[hsh,mn h0,hor,mn hfit];have h:=xj (2 ^ (r+1)*y+2 ^ r) hw;rw[Nat.mul_add] at h;have e:wp q*2 ^ r=2 ^ k:=by rw[hwp,←Nat.pow_add,←hkk]
  omega
theorem yM {n:Nat} {z1 z2:Int} {s1 s2:Bool} {a b:List Nat} (ha:Lg z1 s1 a) (hb:Lg z2 s2 b) (hb0:b≠[]) (hla:a.length<10000) (hlb:b.length<10000) (hn:10000000<n) :
  ∃q t r,wG n a b=some (q,r)∧Wd q∧q.length=a.length∧vl q=vl a/vl b∧Lg ((vl a%vl b:Nat):Int) t r:=by
 have hbp:0<vl b:=Nat.lt_of_lt_of_le (xx _) (jN hb.last hb0)
 by_cases h1:b.length=1
 ·obtain⟨d,rfl⟩:∃d,b = [d]:=by
   match b,h1 with
   | [d],_=>exact⟨d,rfl⟩
  have hd:=hb.wd d (by simp)
  have hv:vl [d]=d:=by simp[vl]
  rw[hv] at hbp ⊢;obtain⟨q,t,m,q1,q2,q3,q4,q5,_⟩:=CV (n:=n) ha.wd hd (by omega) (by omega) (by omega) (by omega)
  exact⟨q,t,m,q1,q2,q4,q3,q5⟩
 ·obtain⟨ka,a1,a2,a3,a4⟩:=yz (n:=n) ha.wd ha.last (by omega)
  obtain⟨kb,b1,b2,b3,b4⟩:=yz (n:=n) hb.wd hb.last (by omega)
  obtain⟨b5,b6⟩:=b4 hb0;have hL:∀(j m:Nat) (q r:List Nat) (t:Bool) (z:Int),j<m→j+kb≤ka+1∨j=0→Wd q→q.length=a.length→Lg z t r→r.length≤a.length+1→vl r<vl b*2 ^ j→vl a=vl q*vl b+vl r→2 ^ j∣vl q→j≤64*a.length →
    ∃q' r' t' z',cT (iJ n b a) m (q,r,(j:Int)-1)=some (q',r')∧Wd q'∧q'.length=a.length∧Lg z' t' r'∧vl r'<vl b∧vl a=vl q'*vl b+vl r':=by
   intro j
   induction j with
   | zero =>
    intro m q r t z hm _ hq hql hr hrl hlt hv hdv _;obtain⟨m,rfl⟩:∃m',m=m'+1:=⟨m-1,by omega⟩
    refine⟨q,r,t,z,ef ?_,hq,hql,hr,by simpa using hlt,hv⟩
    unfold iJ
    dsimp only
    rw[bu (by decide)]
   | succ j ih =>
    intro m q r t z hm hj hq hql hr hrl hlt hv hdv hja;obtain⟨m,rfl⟩:∃m',m=m'+1:=⟨m-1,by omega⟩
    obtain⟨tt,tm,t1,t2⟩:=Fq (n:=n) (k:=j) hb.wd (by omega) (by omega) (by omega)
    have htv:vl tm=vl b*2 ^ j:=by rw[t2.abs,Int.natAbs_natCast]
    have htl:tm.length≤r.length∨vl r<vl tm:=by
     rcases Nat.lt_or_ge (vl r) (vl tm) with h|h
     ·exact .inr h
     ·left
      refine Decidable.byContradiction fun hc=>?_;have h5:=jO hr.wd
      by_cases htm:tm = []
      ·subst htm; simp at hc
      ·have h6:=jN t2.last htm;have h7:wp r.length≤wp (tm.length-1):=Nat.pow_le_pow_right (by decide) (by omega)
       omega
    have htlen:tm.length<1073741824:=by
     by_cases htm:tm = []
     ·subst htm; simp
     ·have h6:=jN t2.last htm;have h7:=jO hb.wd;refine Decidable.byContradiction fun hc=>?_;obtain⟨K,hK⟩:∃K:Nat,K=640000:=⟨_,rfl⟩;have h8:wp (b.length+K)≤wp (tm.length-1):=Nat.pow_le_pow_right (by decide) (by omega)
      have h9:2 ^ j≤wp K:=by
       unfold wp;rw[show(18446744073709551616:Nat)=2 ^ 64 from rfl,←Nat.pow_mul]
       exact Nat.pow_le_pow_right (by decide) (by omega)
      have h10:vl b*2 ^ j<wp b.length*wp K:=Nat.lt_of_lt_of_le (Nat.mul_lt_mul_of_pos_right h7 (Nat.pow_pos (by decide))) (Nat.mul_le_mul_left _ h9)
      rw[←HN] at h10;omega
    obtain⟨c,c1,c2,c3⟩:=yJ (n:=n) hr.wd t2.wd hr.last t2.last (by omega) htlen (by omega)
    have hpow:vl b*2 ^ (j+1)=vl b*2 ^ j+vl b*2 ^ j:=by rw[Nat.pow_succ]; rw[←Nat.mul_assoc]; omega
    by_cases hc:0≤c
    ·have hle:vl tm≤vl r:=by
      have:=mt c2.2 (by omega)
      omega
     have hlen:tm.length≤r.length:=htl.resolve_right (by omega)
     obtain⟨u,u1,u2,u3,u4⟩:=sN (n:=n) hr.wd t2.wd hle hlen (by omega) (by omega)
     obtain⟨s',r',f1,f2⟩:=fT (n:=n) false u2 (by omega) (by omega)
     have hr'v:vl r'=vl r-vl tm:=by
      rw[f2.abs]; unfold rJ; simp only[Bool.false_eq_true,if_false,Int.natAbs_natCast]; exact u3
     have hr'l:r'.length≤a.length+1:=by
      by_cases hn':r' = []
      ·subst hn'; simp
      ·have h6:=jN f2.last hn';have h5:=jO hr.wd;refine Decidable.byContradiction fun hc=>?_;have h7:wp r.length≤wp (r'.length-1):=Nat.pow_le_pow_right (by decide) (by omega)
       omega
     have hjq:j/64<q.length:=by rw[hql]; omega
     obtain⟨w,w1,w2,w3⟩:=Ew hq (k:=j) hjq hdv;have st:iJ n b a (q,r,((j+1:Nat):Int)-1)=some (.inl (q.set (j/64) (uw .u64 (uw .u64 w ||| uw .u64 (dN .u64 1 (j%64)))),r',(j:Int)-1)):=by
      unfold iJ
      dsimp only
      rw[show((j+1:Nat):Int)-1=(j:Int) by omega,bz (Int.natCast_nonneg _),t1,ar,c1,ar,bz hc,u1,ar,f1,ar]
      dsimp only
      rw[pJ,uW,bq (x:=((j/64:Nat):Int)) (by omega) (by omega),Int.toNat_natCast,Int.toNat_natCast,Int.toNat_natCast,aK (by omega),bw,w1,ar,dw (Int.natCast_nonneg _),ar,bw,ar]
      dsimp only
      rw[bq (by omega) (by omega)]
     rw[cE st];have hmulr:vl b*2 ^ j=2 ^ j*vl b:=Nat.mul_comm _ _;refine ih m _ r' s' _ (by omega) (by omega) (hq.set w2) (by rw[List.length_set]; exact hql) f2 hr'l (by omega) ?_ ?_ (by omega)
     ·rw[w3,Nat.add_mul,hr'v,hv,htv];omega
     ·rw[w3];exact Nat.dvd_add (Nat.dvd_trans (Nat.pow_dvd_pow 2 (Nat.le_succ j)) hdv) (Nat.dvd_refl _)
    ·have st:iJ n b a (q,r,((j+1:Nat):Int)-1)=some (.inl (q,r,(j:Int)-1)):=by
      unfold iJ
      dsimp only
      rw[show((j+1:Nat):Int)-1=(j:Int) by omega,bz (Int.natCast_nonneg _),t1,ar,c1,ar,bu hc,ar]
      dsimp only
      rw[bq (by omega) (by omega)]
     rw[cE st];have:=c2.1 (by omega)
     exact ih m q r t z (by omega) (by omega) hq hql hr hrl (by omega) hv (Nat.dvd_trans (Nat.pow_dvd_pow 2 (Nat.le_succ j)) hdv) (by omega)
  have start:∃(q' r':List Nat) (t':Bool) (z':Int),cT (iJ n b a) n (List.replicate a.length 0,a,(ka:Int)-(kb:Int))=some (q',r')∧Wd q'∧q'.length=a.length∧Lg z' t' r'∧vl r'<vl b∧vl a=vl q'*vl b+vl r':=by
   by_cases hk:kb≤ka
   ·have h7:vl a<vl b*2 ^ (ka-kb+1):=by
     refine Nat.lt_of_lt_of_le a3 ?_;rw[show ka=(kb-1)+(ka-kb+1) by omega,Nat.pow_add]
     exact Nat.mul_le_mul b6 (Nat.pow_le_pow_right (by decide) (by omega))
    have:=hL (ka-kb+1) n (List.replicate a.length 0) a s1 z1 (by omega) (.inl (by omega)) (Wd.zeros _) (by simp) ha (by omega) h7 (by rw[j6]; omega) (by rw[j6]; exact Nat.dvd_zero _) (by omega)
    rw[show((ka-kb+1:Nat):Int)-1=(ka:Int)-(kb:Int) by omega] at this
    exact this
   ·obtain⟨m,rfl⟩:∃m',n=m'+1:=⟨n-1,by omega⟩
    refine⟨List.replicate a.length 0,a,s1,z1,ef ?_,Wd.zeros _,by simp,ha,?_,by rw[j6]; omega⟩
    ·unfold iJ
     dsimp only
     rw[bu (by omega)]
    ·exact Nat.lt_of_lt_of_le a3 (Nat.le_trans (Nat.pow_le_pow_right (by decide) (by omega)) b6)
  obtain⟨q,r,t,z,l1,l2,l3,l4,l5,l6⟩:=start;have dr:vl r=vl a%vl b:=by rw[l6,Nat.mul_comm,Nat.mul_add_mod,Nat.mod_eq_of_lt l5]
  have dq:vl q=vl a/vl b:=by rw[l6,Nat.mul_comm,Nat.mul_add_div hbp,Nat.div_eq_of_lt l5]; rfl
  refine⟨q,false,r,?_,l2,l3,dq,⟨l4.wd,l4.last,by rw[←dr]; rfl,fun h=>(nomatch h)⟩⟩
  unfold wG;rw[dw (by omega),Int.toNat_natCast,nA (by omega),bw,bu (by omega),a1,ar,b1,ar,bq (by omega) (by omega),l1,ar]
end
section
open Go Go.Ab Go.Ab.W
theorem Lg.jV {z:Int} {s:Bool} {l:List Nat} (h:Lg z s l) {k:Nat} (hz:z.natAbs<wp k):l.length≤k:=by
 by_cases hl:l = []
 ·subst hl; simp
 ·have h1:=jN h.last hl;rw[h.abs] at h1;refine Decidable.byContradiction fun hc=>?_;have h2:wp k≤wp (l.length-1):=Nat.pow_le_pow_right (by decide) (by omega)
  omega
theorem Lg.lt {z:Int} {s:Bool} {l:List Nat} (h:Lg z s l):z.natAbs<wp l.length:=by
 rw[←h.abs]; exact jO h.wd
theorem Lg.un {v:Nat} {s:Bool} {l:List Nat} (h:Lg (v:Int) s l):s=false:=by
 rw[h.B3,decide_eq_false (by omega)]
theorem Lg.KX {v:Nat} {s:Bool} {l:List Nat} (h:Lg (v:Int) s l):vl l=v:=by rw[h.abs,Int.natAbs_natCast]
theorem Bf {n:Nat} (hn:10000000<n):∀(b a m:Nat) (l k:List Nat) (s t:Bool),Lg (a:Int) s l→Lg (b:Int) t k→l.length<10000→k.length<10000→b<m →
  ∃g,cT (qa n) m (l,k)=some g∧Lg ((Nat.gcd a b:Nat):Int) false g:=by
 intro b
 induction b using Nat.strongRecOn with
 | _ b ih =>
  intro a m l k s t hl hk hll hkl hm;obtain⟨m,rfl⟩:∃m',m=m'+1:=⟨m-1,by omega⟩
  by_cases hb:b=0
  ·subst hb;have:=hk.J6.2 rfl;subst this;have hs:=hl.un;subst hs;refine⟨l,ef ?_,by rw[Nat.gcd_zero_right]; exact hl⟩
   unfold qa
   dsimp only
   rw[bu (by simp)]
  ·have hk0:k≠[]:=fun e=>hb (by have:=hk.J6.1 e; omega)
   obtain⟨q,t',r,q1,_,_,_,q5⟩:=yM (n:=n) hl hk hk0 hll hkl hn;rw[hl.KX,hk.KX] at q5;have hrl:r.length<10000:=Nat.lt_of_le_of_lt (q5.jV (k:=k.length) (by
    rw[Int.natAbs_natCast];exact Nat.lt_trans (Nat.mod_lt a (Nat.pos_of_ne_zero hb)) (by have:=hk.lt; rwa[Int.natAbs_natCast] at this))) hkl
   have hlt:=Nat.mod_lt a (Nat.pos_of_ne_zero hb);obtain⟨g,g1,g2⟩:=ih (a%b) hlt b m k r t t' hk q5 hkl hrl (by omega)
   refine⟨g,?_,?_⟩
   ·rw[cE (s':=(k,r)) ?_]
    ·exact g1
    ·unfold qa
     dsimp only
     rw[bz (by have:=List.length_pos_iff.2 hk0; omega),q1,ar]
   ·rw[Nat.gcd_comm a b,Nat.gcd_rec b a,Nat.gcd_comm]; exact g2
theorem wu {n:Nat} {a b:Int} {s t:Bool} {l k:List Nat} (ha:Lg a s l) (hb:Lg b t k) (hl:l.length<10000) (hk:k.length<10000) (hn:10000000<n) (hbn:b.natAbs<n) :
  ∃g,Ae n s l t k=some (false,g)∧Lg ((Nat.gcd a.natAbs b.natAbs:Nat):Int) false g:=by
 have pos:∀{z:Int} {s:Bool} {l:List Nat},Lg z s l→Lg ((z.natAbs:Nat):Int) false l:=fun {z s l} h=>⟨h.wd,h.last,by rw[h.abs]; rfl,fun h=>(nomatch h)⟩
 obtain⟨g,g1,g2⟩:=Bf hn b.natAbs a.natAbs n l k false false (pos ha) (pos hb) hl hk hbn;refine⟨g,?_,g2⟩;unfold Ae;rw[g1,ar]
theorem vG {n:Nat} {a b:Int} {s t:Bool} {l k:List Nat} (h:Lg (a*b) s l) (h':Lg b t k) (h0:b≠0) (hl:l.length<10000) (hk:k.length<10000) (hn:10000000<n) :
  ∃u m v o,Ay n s l t k=some (u,m,v,o)∧Lg a u m:=by
 have hk0:k≠[]:=fun e=>h0 (h'.J6.1 e);obtain⟨q,t',m,q1,q2,q4,q3,q5⟩:=yM (n:=n) h h' hk0 hl hk hn;obtain⟨u,m',u1,u2⟩:=fT (n:=n) (!(s == t)) q2 (by omega) (by omega)
 rw[h'.abs] at q3 q5;have hz:(vl l%b.natAbs:Nat)=0:=by rw[h.abs,Int.natAbs_mul,Nat.mul_mod_left]
 rw[hz] at q5;obtain⟨rfl,rfl⟩:=q5.inj Lg.zero;obtain⟨v,o,v1,v2⟩:=fT (n:=n) s Wd.nil (by simp) (by simp; omega)
 have v3:Lg 0 v o:=by rw[gZ,wy] at v2; exact v2
 obtain⟨rfl,rfl⟩:=v3.inj Lg.zero;refine⟨u,m',false,[],?_,?_⟩
 ·unfold Ay;rw[q1,ar]
  dsimp only
  rw[u1,ar]
  dsimp only
  rw[v1,ar]
  rfl
 ·have e1:vl q=a.natAbs:=by rw[q3,h.abs,Int.natAbs_mul,Nat.mul_div_cancel _ (by omega)]
  have hs:=h.B3;have ht:=h'.B3;have:a=rJ (!(s == t)) (vl q)∨(a=0):=by
   by_cases ha:a=0
   ·exact .inr ha
   ·refine .inl ?_;rw[e1,hs,ht];unfold rJ
    by_cases hb0:b<0<;>by_cases ha0:a<0
    ·have:¬a*b<0:=Int.not_lt.2 (Int.mul_nonneg_of_nonpos_of_nonpos (by omega) (by omega))
     simp[hb0,this]; omega
    ·have:a*b<0:=Int.mul_neg_of_pos_of_neg (by omega) hb0
     simp[hb0,this]; omega
    ·have:a*b<0:=Int.mul_neg_of_neg_of_pos ha0 (by omega)
     simp[hb0,this]; omega
    ·have:¬a*b<0:=Int.not_lt.2 (Int.mul_nonneg (by omega) (by omega))
     simp[hb0,this]; omega
  rcases this with e|e
  ·rw[e]; exact u2
  ·rw[e,Int.natAbs_zero] at e1;rw[e1,wy] at u2;rw[e]; exact u2
theorem Cu {n a b:Nat} (hn:10000000<n) (hbn:b<n) (hb0:b≠0) {s t:Bool} {l k:List Nat} (h:Lg (a:Int) s l) (h':Lg (b:Int) t k) (hl:l.length<10000) (hk:k.length<10000) :
  ∃l' k',Ag n s l t k=some (false,l',false,k')∧Lg ((a/Nat.gcd a b:Nat):Int) false l'∧Lg ((b/Nat.gcd a b:Nat):Int) false k':=by
 have hg0:Nat.gcd a b≠0:=fun e=>hb0 (Nat.eq_zero_of_gcd_eq_zero_right e);have hgb:Nat.gcd a b≤b:=Nat.le_of_dvd (by omega) (Nat.gcd_dvd_right a b)
 have ea:((a/Nat.gcd a b:Nat):Int)*((Nat.gcd a b:Nat):Int)=(a:Int):=by rw[←Int.natCast_mul,Nat.div_mul_cancel (Nat.gcd_dvd_left a b)]
 have eb:((b/Nat.gcd a b:Nat):Int)*((Nat.gcd a b:Nat):Int)=(b:Int):=by rw[←Int.natCast_mul,Nat.div_mul_cancel (Nat.gcd_dvd_right a b)]
 obtain⟨g,g1,g2⟩:=wu (n:=n) h h' hl hk hn (by rw[Int.natAbs_natCast]; exact hbn)
 rw[Int.natAbs_natCast,Int.natAbs_natCast] at g2;have hgl:g.length<10000:=Nat.lt_of_le_of_lt (g2.jV (k:=k.length) (by
  rw[Int.natAbs_natCast];exact Nat.lt_of_le_of_lt hgb (by have:=h'.lt; rwa[Int.natAbs_natCast] at this))) hk
 rw[←ea] at h;rw[←eb] at h';obtain⟨u1,m1,v1,o1,f1,f2⟩:=vG (n:=n) h g2 (by omega) hl hgl hn
 obtain⟨u2,m2,v2,o2,f3,f4⟩:=vG (n:=n) h' g2 (by omega) hk hgl hn
 have hu1:=f2.un;have hu2:=f4.un;subst hu1 hu2;refine⟨m1,m2,?_,f2,f4⟩;unfold Ag;rw[g1,ar]
 dsimp only
 rw[f1,ar]
 dsimp only
 rw[f3,ar]
 rfl
end
section
open Go Go.Ab Go.Ab.W
def gD (T h:Nat):Nat × Nat:=(h/Nat.gcd h T,T/Nat.gcd h T)
theorem yj {a b c d:Nat} (hb:b≠0) (hd:d≠0) (h:a*d=c*b):a/Nat.gcd a b=c/Nat.gcd c d∧b/Nat.gcd a b=d/Nat.gcd c d:=by
 have g0:0<Nat.gcd a b:=Nat.gcd_pos_of_pos_right a (Nat.pos_of_ne_zero hb);have k0:0<Nat.gcd c d:=Nat.gcd_pos_of_pos_right c (Nat.pos_of_ne_zero hd);have c1:=Nat.coprime_div_gcd_div_gcd g0;have c2:=Nat.coprime_div_gcd_div_gcd k0;have ea:=Nat.div_mul_cancel (Nat.gcd_dvd_left a b);have eb:=Nat.div_mul_cancel (Nat.gcd_dvd_right a b);have ec:=Nat.div_mul_cancel (Nat.gcd_dvd_left c d);have ed:=Nat.div_mul_cancel (Nat.gcd_dvd_right c d);generalize Nat.gcd a b=g at *;generalize Nat.gcd c d=k at *;generalize a/g=a' at *;generalize b/g=b' at *;generalize c/k=c' at *;generalize d/k=d' at *;subst ea eb ec ed;have e:a'*d'=c'*b':=by
  have h2:(g*k)*(a'*d')=(g*k)*(c'*b'):=by
   have e1:(g*k)*(a'*d')=a'*g*(d'*k):=by simp only[Nat.mul_assoc,Nat.mul_comm,Nat.mul_left_comm]
   have e2:(g*k)*(c'*b')=c'*k*(b'*g):=by simp only[Nat.mul_assoc,Nat.mul_comm,Nat.mul_left_comm]
   rw[e1,e2,h]
  exact Nat.eq_of_mul_eq_mul_left (Nat.mul_pos g0 k0) h2
 have hb':0<b':=Nat.pos_of_ne_zero fun e=>hb (by rw[e,Nat.zero_mul])
 have d1:b'∣d':=c1.symm.dvd_of_dvd_mul_left (by rw[e]; exact Nat.dvd_mul_left _ _)
 have d2:d'∣b':=c2.symm.dvd_of_dvd_mul_left (by rw[←e]; exact Nat.dvd_mul_left _ _)
 have e3:b'=d':=Nat.dvd_antisymm d1 d2;subst e3;exact⟨Nat.eq_of_mul_eq_mul_right hb' e,rfl⟩
section
variable {n : Nat}
theorem yC (hn:40<n) {a b:Nat} (ha:a<18446744073709551616) (hb:b<18446744073709551616):BV n a 0 0 0 0 0 0 0 b 0 0 0 0 0 0 0=some (false,ul a,false,ul b):=by
 unfold BV;rw[(yW hn ha).1,ar]
 dsimp only
 rw[(yW hn hb).1,ar]
theorem Ht (hn:18446744073709551616<n) {a b:Nat} (ha:a<18446744073709551616) (hb:b<18446744073709551616) (hb0:b≠0) (hg:Nat.gcd a b=1):Cr n a 0 0 0 0 0 0 0 b 0 0 0 0 0 0 0=some 0:=by
 unfold Cr;rw[pd (by omega),ar]
 dsimp only
 rw[yC (by omega) ha hb,ar]
 dsimp only
 have hla:=uu a;have hlb:=uu b;obtain⟨r,r1,r2,r3⟩:=DS (n:=n) (rp hb);rw[r1,ar,bu (by omega)]
 obtain⟨g,g1,g2⟩:=wu (n:=n) (rp ha) (rp hb) (by omega) (by omega) (by omega) (by rw[Int.natAbs_natCast]; omega)
 rw[Int.natAbs_natCast,Int.natAbs_natCast,hg] at g2;obtain⟨_,rfl⟩:=g2.inj (show Lg ((1:Nat):Int) false [1] from nS)
 rw[g1,ar]
 dsimp only
 obtain⟨u,m,m1,m2⟩:=FN (n:=n) nS nS (by simp) (by simp) (by simp; omega)
 obtain⟨q,q1,q2,q3⟩:=DS (n:=n) m2;have hc:AJ n false [1] false [1]=some q:=by
  unfold AJ;rw[m1,ar]
  dsimp only
  rw[q1,ar]
 rw[hc,ar,q3.2 (by omega)]; rfl
theorem rU {T h:Nat} (hT:T≠0):(gD T h).1≤h∧(gD T h).2≤T∧(gD T h).2≠0∧Nat.gcd (gD T h).1 (gD T h).2=1∧(gD T h).1*T=h*(gD T h).2:=by
 have g0:0<Nat.gcd h T:=Nat.gcd_pos_of_pos_right h (Nat.pos_of_ne_zero hT);have e1:=Nat.div_mul_cancel (Nat.gcd_dvd_left h T);have e2:=Nat.div_mul_cancel (Nat.gcd_dvd_right h T);refine⟨Nat.div_le_self _ _,Nat.div_le_self _ _,fun e=>?_,Nat.coprime_div_gcd_div_gcd g0,?_⟩
 ·have e':T/Nat.gcd h T=0:=e;rw[e',Nat.zero_mul] at e2;exact hT e2.symm
 ·show h/Nat.gcd h T*T=h*(T/Nat.gcd h T)
  generalize Nat.gcd h T=g at *;generalize h/g=a at *;generalize T/g=b at *;subst e1 e2;simp only[Nat.mul_assoc,Nat.mul_comm,Nat.mul_left_comm]
theorem G8 (hn:40<n):u7 n 0=some (false,[],false,[1]):=by
 unfold u7;rw[DT (by omega),ar]
 dsimp only
 unfold Cb;rw[pd (by omega),ar]
 rfl
theorem IQ (hn:2 ^ 200<n) {T S h:Nat} (hT:T≠0) (hT64:T<18446744073709551616) (hS:S<18446744073709551616*1024) (hh:h<18446744073709551616) {l k:List Nat} (hl:Lg (((gD T S).1:Nat):Int) false l) (hk:Lg (((gD T S).2:Nat):Int) false k) :
  ∃l' k',C5 n false l false k false (ul (gD T h).1) false (ul (gD T h).2)=some (false,l',false,k')∧Lg (((gD T (S+h)).1:Nat):Int) false l'∧Lg (((gD T (S+h)).2:Nat):Int) false k':=by
 obtain⟨s2,s3,s0,s4,s1⟩:=rU (h:=S) hT;obtain⟨h1,h2,h3,h8,h0⟩:=rU (h:=h) hT;have hbig:(2:Nat) ^ 200=1606938044258990275541962092341162602522202993782792835301376:=by decide
 have w1:wp 1=18446744073709551616:=rfl;have w2:wp 2=340282366920938463463374607431768211456:=by decide
 have ll:l.length≤2:=hl.jV (by rw[Int.natAbs_natCast,w2]; omega)
 have lk:k.length≤1:=hk.jV (by rw[Int.natAbs_natCast,w1]; omega)
 have la:=uu (gD T h).1;have lb:=uu (gD T h).2;generalize hN:(gD T S).1=N at *;generalize hD:(gD T S).2=D at *;generalize ha:(gD T h).1=a at *;generalize hb:(gD T h).2=b at *;have ga:=rp (v:=a) (by omega)
 have gb:=rp (v:=b) (by omega)
 obtain⟨u0,m1,p0,q0⟩:=xa (n:=n) hl gb (by omega) (by omega) (by omega)
 obtain⟨u1,m2,p1,q2⟩:=xa (n:=n) ga hk (by omega) (by omega) (by omega)
 rw[←Int.natCast_mul] at q0 q2;have h4:=q0.un;have h5:=q2.un;subst h4 h5;have b0:N*b<wp 3:=by
  have:N*b≤(18446744073709551616*1024)*18446744073709551616:=Nat.mul_le_mul (by omega) (by omega)
  have:wp 3=6277101735386680763835789423207666416102355444464034512896:=by decide
  omega
 have b1:a*D<wp 3:=by
  have:a*D≤18446744073709551616*18446744073709551616:=Nat.mul_le_mul (by omega) (by omega)
  have:wp 3=6277101735386680763835789423207666416102355444464034512896:=by decide
  omega
 have b2:D*b<wp 3:=by
  have:D*b≤18446744073709551616*18446744073709551616:=Nat.mul_le_mul (by omega) (by omega)
  have:wp 3=6277101735386680763835789423207666416102355444464034512896:=by decide
  omega
 have l1:m1.length≤3:=q0.jV (by rw[Int.natAbs_natCast]; exact b0)
 have l2:m2.length≤3:=q2.jV (by rw[Int.natAbs_natCast]; exact b1)
 obtain⟨u3,m3,p2,q1⟩:=yO (n:=n) q0 q2 (by omega) (by omega) (by omega)
 rw[←Int.natCast_add] at q1;have h6:=q1.un;subst h6;have l3:m3.length≤4:=q1.jV (by
  rw[Int.natAbs_natCast];have:wp 4=115792089237316195423570985008687907853269984665640564039457584007913129639936:=by decide
  have:wp 3=6277101735386680763835789423207666416102355444464034512896:=by decide
  omega)
 obtain⟨u4,m4,p3,q3⟩:=xa (n:=n) hk gb (by omega) (by omega) (by omega)
 rw[←Int.natCast_mul] at q3;have h7:=q3.un;subst h7;have l4:m4.length≤3:=q3.jV (by rw[Int.natAbs_natCast]; exact b2)
 have hDb:D*b≠0:=Nat.mul_ne_zero s0 h3;obtain⟨l',k',f1,f0,f2⟩:=Cu (n:=n) (by omega) (by
  have:wp 3=6277101735386680763835789423207666416102355444464034512896:=by decide
  have:D*b≤18446744073709551616*18446744073709551616:=Nat.mul_le_mul (by omega) (by omega)
  omega) hDb q1 q3 (by omega) (by omega)
 have hu:(N*b+a*D)*T=(S+h)*(D*b):=by
  have t0:N*b*T=S*(D*b):=by
   rw[Nat.mul_right_comm,s1,Nat.mul_assoc]
  have t1:a*D*T=h*(D*b):=by
   rw[Nat.mul_right_comm,h0,Nat.mul_assoc,Nat.mul_comm b D]
  rw[Nat.add_mul,Nat.add_mul,t0,t1]
 obtain⟨v0,v1⟩:=yj hDb hT hu;refine⟨l',k',?_,?_,?_⟩
 ·unfold C5;rw[p0,ar]
  dsimp only
  rw[p1,ar]
  dsimp only
  rw[p2,ar]
  dsimp only
  rw[p3,ar]
  dsimp only
  rw[f1,ar]
 ·show Lg (((S+h)/Nat.gcd (S+h) T:Nat):Int) false l'
  rw[←v0]; exact f0
 ·show Lg ((T/Nat.gcd (S+h) T:Nat):Int) false k'
  rw[←v1]; exact f2
end
end
end Go.Proofs.YtpkadoocdgdcfaaGreatDoor
end

section
namespace Go.Proofs.YtpkadoocdgdcfaaGreatDoor
open Go Go.Ab Go.Ab.W
abbrev Sh:=Nat × Nat × Nat × Nat × Nat × Nat × Nat × Nat × Nat × Nat × Nat × Nat × Nat × Nat × Nat × Nat
def sh (p:Nat × Nat):Sh:=(p.1,0,0,0,0,0,0,0,p.2,0,0,0,0,0,0,0)
def jT (T:Nat) (l:List Nat):List Sh:=l.map fun h=>sh (gD T h)
abbrev Kt:=Nat × Nat × Nat × Nat × Nat × Nat × Nat × Nat × Nat × Nat × Nat × Nat × Nat × Nat × Nat × Nat × Int
abbrev JI (p:Nat × Nat):Kt:=(p.1,0,0,0,0,0,0,0,p.2,0,0,0,0,0,0,0,0)
def Hd (t:Option Kt) (p:Nat × Nat):Bool :=
 match t with
 | some (a,a1,a2,a3,a4,a5,a6,a7,b,b1,b2,b3,b4,b5,b6,b7,e)=>Nat.beq a p.1 && (Nat.beq b p.2 && ([a1,a2,a3,a4,a5,a6,a7,b1,b2,b3,b4,b5,b6,b7].all (Nat.beq 0) && decide (e=0)))
 | none=>false
theorem Ev {t:Option Kt} {p:Nat × Nat} (h:Hd t p=true):t=some (JI p):=by
 unfold Hd at h
 split at h
 ·simp only[List.all_cons,List.all_nil,Bool.and_eq_true,decide_eq_true_eq,and_true] at h;obtain⟨h1,h2,⟨h3,h4,h5,h6,h7,h8,h9,h10,h11,h12,h13,h14,h15,h16⟩,rfl⟩:=h;rw[Nat.eq_of_beq_eq_true h1,Nat.eq_of_beq_eq_true h2,←Nat.eq_of_beq_eq_true h3,←Nat.eq_of_beq_eq_true h4,←Nat.eq_of_beq_eq_true h5,←Nat.eq_of_beq_eq_true h6,←Nat.eq_of_beq_eq_true h7,←Nat.eq_of_beq_eq_true h8,←Nat.eq_of_beq_eq_true h9,←Nat.eq_of_beq_eq_true h10,←Nat.eq_of_beq_eq_true h11,←Nat.eq_of_beq_eq_true h12,←Nat.eq_of_beq_eq_true h13,←Nat.eq_of_beq_eq_true h14,←Nat.eq_of_beq_eq_true h15,←Nat.eq_of_beq_eq_true h16]
 ·cases h
set_option maxRecDepth 100000 in
theorem H3 (m:Nat):(List.range 6).all (fun a=>(List.range 21).all fun S=>Nat.beq S 0 || Hd (JS (m+300) (a:Int) (S:Int)) (gD S a))=true:=by kernel_rfl
theorem G2 {n a S:Nat} (hn:300≤n) (ha:a<6) (hS:S<21) (h0:S≠0):JS n (a:Int) (S:Int)=some (JI (gD S a)):=by
 obtain⟨m,rfl⟩:∃m,n=m+300:=⟨n-300,by omega⟩
 have h:=List.all_eq_true.1 (List.all_eq_true.1 (H3 m) a (List.mem_range.2 ha)) S (List.mem_range.2 hS);rw[Bool.or_eq_true] at h;rcases h with h|h
 ·exact absurd (Nat.eq_of_beq_eq_true h) h0
 ·exact Ev h
def Gs (l:List Nat) (k:Nat):Nat:=l.getD k 0%6
def raw (l:List Nat) (N i k:Nat):List Nat:=(List.range k).map fun j=>Gs l (N*i+j)
theorem qh (l:List Nat) (N i k:Nat):raw l N i (k+1)=raw l N i k++[Gs l (N*i+k)]:=by unfold raw; rw[List.range_succ,List.map_append]; rfl
theorem yd (l:List Nat) (k:Nat):Gs l k<6:=Nat.mod_lt _ (by decide)
theorem uq (l:List Nat) (N i k:Nat):(raw l N i k).length=k:=by unfold raw; simp
theorem sS (l:List Nat) (N i:Nat):∀k,(raw l N i k).sum≤5*k
 | 0=>by simp[raw]
 | k+1=>by
  have:=sS l N i k;have:=yd l (N*i+k);rw[qh,List.sum_append,List.sum_singleton]; omega
theorem DX {l:List Nat} {N i k x:Nat} (h:x ∈ raw l N i k):x<6:=by
 obtain⟨j,_,rfl⟩:=List.mem_map.1 h;exact yd _ _
def ints (l:List Nat):List Int:=l.map fun x:Nat=>(x:Int)
theorem De (n:Nat) (l2:List Nat) {N i:Nat} (hN:N≤4) (hi:i<N) (hn:300≤n):cT (rI n (N:Int) (i:Int) l2) n (([]:List Int),0,0)=some (ints (raw l2 N i N),((raw l2 N i N).sum:Int)):=by
 have h:=cq (body:=rI n (N:Int) (i:Int) l2) N (fun(s:Nat) (v:Int)=>(ints (raw l2 N i s),((raw l2 N i s).sum:Int),v)) (fun s=>(ints (raw l2 N i s),((raw l2 N i s).sum:Int))) (fun k s=>s=k) (fun s k hk hs=>?_) (fun s hs=>?_) (n:=n) (s:=0) rfl (by omega)
 ·obtain⟨s,h1,rfl⟩:=h;exact h1
 ·subst hs;have hb:N*i≤12:=Nat.le_trans (Nat.mul_le_mul hN (show i≤3 by omega)) (by omega)
  have hsum:=sS l2 N i s;have hd:=yd l2 (N*i+s);refine⟨s+1,?_,rfl⟩;have e0:IntKind.wrap .i64 ((IntKind.wrap .i64 ((N:Int)*(i:Int)))+(s:Int))=((N*i+s:Nat):Int):=by
   rw[←Int.natCast_mul,bq (x:=((N*i:Nat):Int)) (by omega) (by omega),bq (by omega) (by omega)]; rfl
  have e1:(br (decide (((N*i+s:Nat):Int)<(l2.length:Int))) (gd (cG ((N*i+s:Nat):Int) l2.length) (ob (l2[(((N*i+s:Nat):Int)).toNat]?) fun x=>some (IntKind.wrap .i64 ((x%6:Nat):Int)))) (some 0))=some ((Gs l2 (N*i+s):Nat):Int):=by
   by_cases c:N*i+s<l2.length
   ·rw[bz (by omega),aK c,bw,Int.toNat_natCast,List.getElem?_eq_getElem c,ar,bq (by omega) (by have:=Nat.mod_lt l2[N*i+s] (show 0<6 by decide); omega)]
    unfold Gs;rw[List.getD_eq_getElem?_getD,List.getElem?_eq_getElem c]; rfl
   ·rw[bu (by omega)]
    unfold Gs;rw[List.getD_eq_getElem?_getD,List.getElem?_eq_none (by omega)]; rfl
  have e2:ints (raw l2 N i s)++[((Gs l2 (N*i+s):Nat):Int)]=ints (raw l2 N i (s+1)):=by rw[qh]; unfold ints; rw[List.map_append]; rfl
  have e3:IntKind.wrap .i64 (((raw l2 N i s).sum:Int)+((Gs l2 (N*i+s):Nat):Int))=((raw l2 N i (s+1)).sum:Int):=by
   rw[bq (by omega) (by omega),qh,List.sum_append,List.sum_singleton]; omega
  unfold rI
  dsimp only
  rw[bz (by omega),e0,e1,ar,e2,e3,aM (by omega)]
  have hlim:lim (ints (raw l2 N i (s+1))).length=true:=by
   unfold ints lim; rw[List.length_map,uq]; exact Nat.ble_eq_true_of_le (by omega)
  rw[hlim,bw]
 ·subst hs;unfold rI
  dsimp only
  rw[bu (by omega)]
def iL (l:List Nat) (N i:Nat):List Nat:=if (raw l N i N).sum=0 then(raw l N i N).set i 1 else raw l N i N
theorem nr:∀{l:List Nat} {i:Nat},i<l.length→l.sum=0→(l.set i 1).sum=1
 | a::l,0,_,hs=>by rw[List.sum_cons] at hs; rw[List.set_cons_zero,List.sum_cons]; omega
 | a::l,i+1,h,hs=>by
  rw[List.sum_cons] at hs;rw[List.set_cons_succ,List.sum_cons,nr (by simpa using h) (by omega)]; omega
theorem yy (l:List Nat) {N i:Nat} (hN:N≤4) (hi:i<N):(iL l N i).length=N∧(∀x ∈ iL l N i,x<6)∧(iL l N i).sum≠0∧(iL l N i).sum<21:=by
 have h1:=sS l N i N;have h2:=uq l N i N;unfold iL
 split
 ·rename_i h0;refine⟨by simp[h2],fun x hx=>?_,by rw[nr (by omega) h0]; decide,by rw[nr (by omega) h0]; decide⟩
  rcases List.mem_or_eq_of_mem_set hx with h|h
  ·exact DX h
  ·omega
 ·exact⟨h2,fun x hx=>DX hx,by assumption,by omega⟩
theorem BT (n:Nat) {N S:Nat} {l l':List Nat} (hN:N≤4) (hl:l.length=N) (hl':l'.length=N) (h6:∀x ∈ l,x<6) (h0:S≠0) (hS:S<21) (hn:300≤n):cT (rA n (N:Int) (ints l') (ints l) (S:Int)) n (([]:List Sh),0)=some (jT S l):=by
 have h:=cq (body:=rA n (N:Int) (ints l') (ints l) (S:Int)) N (fun(s:List Sh) (v:Int)=>(s,v)) id (fun k s=>s=(jT S l).take k) (fun s k hk hs=>?_) (fun s hs=>?_) (n:=n) (s:=[]) (by simp) (by omega)
 ·obtain⟨s,h1,rfl⟩:=h;rw[h1,id,List.take_of_length_le (by unfold jT; rw[List.length_map]; omega)]
 ·subst hs;have e1:(ints l)[k]? = some ((l[k]'(by omega):Nat):Int):=by unfold ints; rw[List.getElem?_map,List.getElem?_eq_getElem (by omega)]; rfl
  have hx:=h6 (l[k]'(by omega)) (List.getElem_mem _)
  have e2:(jT S l).take k++[sh (gD S (l[k]'(by omega)))]=(jT S l).take (k+1):=by
   unfold jT;rw[List.take_succ_eq_append_getElem (by rw[List.length_map]; omega),List.getElem_map]
  refine⟨_,?_,rfl⟩;unfold rA
  dsimp only
  rw[bz (by omega),aK (by unfold ints; rw[List.length_map]; omega),bw,Int.toNat_natCast,e1,ar,G2 hn hx hS h0,ar]
  show gd (lim ((jT S l).take k++[sh (gD S (l[k]'(by omega)))]).length) (some (.inl ((jT S l).take k++[sh (gD S (l[k]'(by omega)))],IntKind.wrap .i64 ((k:Int)+1))):Option ((List Sh × Int) ⊕ List Sh))=_
  rw[e2,aM (by omega)]
  have hlim:lim ((jT S l).take (k+1)).length=true:=by
   unfold lim; exact Nat.ble_eq_true_of_le (by rw[List.length_take]; omega)
  rw[hlim,bw]
 ·subst hs;unfold rA
  dsimp only
  rw[bu (by omega)]; rfl
def dM (l:List Nat) (N:Nat):List (List Sh):=(List.range N).map fun i=>jT (iL l N i).sum (iL l N i)
theorem Ik (n x:Nat) (l:List Nat) (hn:300≤n):Ji n x l=some (dM l (1+x%4)):=by
 have hx:x%4<4:=Nat.mod_lt _ (by decide)
 have eN:IntKind.wrap .i64 (1+(IntKind.wrap .i64 ((x%4:Nat):Int)))=((1+x%4:Nat):Int):=by
  rw[bq (x:=((x%4:Nat):Int)) (by omega) (by omega),bq (by omega) (by omega)]; omega
 generalize hNN:1+x%4=N at eN ⊢;have h:=cq (body:=rM n l) N (fun(s:List (List Sh)) (v:Int)=>((N:Int),s,v)) id (fun k s=>s=(List.range k).map fun i=>jT (iL l N i).sum (iL l N i)) (fun s k hk hs=>?_) (fun s hs=>?_) (n:=n) (s:=[]) (by simp) (by omega)
 ·obtain⟨s,h1,h2⟩:=h;unfold Ji;rw[eN]
  show ob (cT (rM n l) n ((N:Int),([]:List (List Sh)),0)) _=_
  rw[h1,ar,id,h2]; rfl
 ·subst hs;refine⟨_,?_,rfl⟩;obtain⟨d1,d2,d3,d4⟩:=yy l (show N≤4 by omega) hk
  have hr:=uq l N k N;unfold rM
  dsimp only
  rw[bz (by omega),De n l (by omega) hk hn,ar]
  dsimp only
  have e1:(br (decide (((raw l N k N).sum:Int)=0)) (gd (cG (k:Int) (ints (raw l N k N)).length) (ob ((ints (raw l N k N))[((k:Int)).toNat]?) fun _=>some ((ints (raw l N k N)).set ((k:Int)).toNat 1,(1:Int)))) (some (ints (raw l N k N),((raw l N k N).sum:Int))))=some (ints (iL l N k),((iL l N k).sum:Int)):=by
   unfold iL
   by_cases c:(raw l N k N).sum=0
   ·rw[bz (by omega),aK (by unfold ints; rw[List.length_map]; omega),bw,Int.toNat_natCast,if_pos c,nr (by omega) c]
    have:(ints (raw l N k N))[k]? = some (((raw l N k N)[k]'(by omega):Nat):Int):=by unfold ints; rw[List.getElem?_map,List.getElem?_eq_getElem (by omega)]; rfl
    rw[this,ar];unfold ints;rw[List.map_set]; rfl
   ·rw[bu (by omega),if_neg c]
  rw[e1,ar]
  dsimp only
  rw[BT n (show N≤4 by omega) d1 hr d2 d3 d4 hn,ar,aM (by omega)]
  have e2:((List.range k).map fun i=>jT (iL l N i).sum (iL l N i))++[jT (iL l N k).sum (iL l N k)]=(List.range (k+1)).map fun i=>jT (iL l N i).sum (iL l N i):=by rw[List.range_succ,List.map_append]; rfl
  rw[e2];have hlim:lim ((List.range (k+1)).map fun i=>jT (iL l N i).sum (iL l N i)).length=true:=by
   unfold lim; exact Nat.ble_eq_true_of_le (by simp; omega)
  rw[hlim,bw]
 ·subst hs;unfold rM
  dsimp only
  rw[bu (by omega)]; rfl
end Go.Proofs.YtpkadoocdgdcfaaGreatDoor
end

section
namespace Go.Proofs.YtpkadoocdgdcfaaGreatDoor
open Go Go.Ab Go.Ab.W
variable {n : Nat}
theorem Iz (hn:40<n):u7 n 1=some (false,[1],false,[1]):=by
 unfold u7;rw[pd (by omega),ar]
 dsimp only
 unfold Cb;rw[pd (by omega),ar]
 rfl
theorem Cs {v:Nat}:∃r,DY n false (ul v)=some r∧¬r<0∧(0<r↔v≠0):=by
 unfold DY ul
 by_cases h:v=0
 ·subst h; exact⟨0,rfl,by decide,by decide⟩
 ·rw[if_neg h]; exact⟨1,rfl,by decide,by simp[h]⟩
theorem Ie (hn:18446744073709551616<n) {T h:Nat} (hT:T≠0) (hT64:T<18446744073709551616) (hh:h<18446744073709551616):zN n (gD T h).1 0 0 0 0 0 0 0 (gD T h).2 0 0 0 0 0 0 0=some false:=by
 obtain⟨k1,k2,k3,k4,_⟩:=rU (h:=h) hT;unfold zN;rw[Ht hn (by omega) (by omega) k3 k4,ar]
 show ob (BV n (gD T h).1 0 0 0 0 0 0 0 (gD T h).2 0 0 0 0 0 0 0) _=_
 rw[yC (by omega) (by omega) (by omega),ar]
 dsimp only
 obtain⟨r,r1,r2,_⟩:=Cs (n:=n) (v:=(gD T h).1);rw[r1,ar,decide_eq_false r2]
theorem Dz {T:Nat} (hT:T≠0):gD T T=(1,1):=by
 unfold gD;rw[Nat.gcd_self,Nat.div_self (Nat.pos_of_ne_zero hT)]
theorem wF {T:Nat} (hT:T≠0):gD T 0=(0,1):=by unfold gD; rw[Nat.gcd_zero_left,Nat.zero_div,Nat.div_self (Nat.pos_of_ne_zero hT)]
theorem oK (l:List Nat):∀i,(l.take i).sum≤l.sum
 | 0=>by simp
 | i+1=>by
  cases l with
  | nil=>simp
  | cons a l=>rw[List.take_succ_cons,List.sum_cons,List.sum_cons]; have:=oK l i; omega
theorem D7 (hn:2 ^ 200<n) {T:Nat} (hT:T≠0) (hT64:T<18446744073709551616) {l:List Nat} (hl:∀h ∈ l,h≤T) (hlen:l.length≤1000) (hsum:l.sum=T):Bp n (jT T l)=some true:=by
 have hbig:(2:Nat) ^ 200=1606938044258990275541962092341162602522202993782792835301376:=by decide
 have hle:(jT T l).length=l.length:=by unfold jT; rw[List.length_map]
 have hget:∀i (hi:i<l.length),(jT T l)[i]? = some (sh (gD T l[i])):=fun i hi=>by unfold jT; rw[List.getElem?_map,List.getElem?_eq_getElem hi]; rfl
 have h1:=cq (body:=qi n (jT T l)) l.length (fun(_:Unit) (v:Int)=>v) (fun _=>(.inr ():Int ⊕ Unit)) (fun _ _=>True) (fun s i hi _=>by
  have hx:=hl l[i] (List.getElem_mem hi);refine⟨(),?_,trivial⟩;unfold qi;rw[bz (by omega),aK (by omega),bw,Int.toNat_natCast,hget i hi,ar]
  show ob (zN n (gD T l[i]).1 0 0 0 0 0 0 0 (gD T l[i]).2 0 0 0 0 0 0 0) _=_
  rw[Ie (by omega) hT hT64 (by omega),ar,gx,aM (by omega)]) (fun s _=>by
  unfold qi;rw[bu (by omega)]) (n:=n) (s:=()) trivial (by omega)
 obtain⟨_,h1,_⟩:=h1;have h2:=cq (body:=nD n (jT T l)) l.length (fun(s:List Nat × List Nat) (v:Int)=>(false,s.1,false,s.2,v)) (fun s=>(false,s.1,false,s.2)) (fun i s=>Lg (((gD T (l.take i).sum).1:Nat):Int) false s.1∧Lg (((gD T (l.take i).sum).2:Nat):Int) false s.2) (fun s i hi hs=>by
  have hx:=hl l[i] (List.getElem_mem hi);have h0:=oK l i;obtain⟨k0,k2,_⟩:=rU (h:=l[i]) hT;obtain⟨l',k',f1,f0,f2⟩:=IQ hn hT hT64 (show(l.take i).sum<18446744073709551616*1024 by omega) (show l[i]<18446744073709551616 by omega) hs.1 hs.2
  have e:(l.take (i+1)).sum=(l.take i).sum+l[i]:=by rw[List.take_succ_eq_append_getElem hi,List.sum_append,List.sum_singleton]
  refine⟨(l',k'),?_,by rw[e]; exact f0,by rw[e]; exact f2⟩
  unfold nD
  dsimp only
  rw[bz (by omega),aK (by omega),bw,Int.toNat_natCast,hget i hi,ar]
  show ob (BV n (gD T l[i]).1 0 0 0 0 0 0 0 (gD T l[i]).2 0 0 0 0 0 0 0) _=_
  rw[yC (by omega) (by omega) (by omega),ar]
  dsimp only
  rw[f1,ar]
  dsimp only
  rw[aM (by omega)]) (fun s _=>by
  unfold nD
  dsimp only
  rw[bu (by omega)]) (n:=n) (s:=([],[1])) (by rw[List.take_zero,List.sum_nil,wF hT]; exact⟨Lg.zero,nS⟩) (by omega)
 obtain⟨s,h2,g0,g1⟩:=h2;rw[List.take_length,hsum,Dz hT] at g0 g1;obtain⟨_,e1⟩:=g0.inj nS;obtain⟨_,e2⟩:=g1.inj nS;unfold Bp;rw[h1,ar]
 show ob (ob (some (-1:Int)) fun v0=>some (decide (0≤v0))) _=_
 rw[ar,ar,show decide ((0:Int)≤-1)=false from rfl,gx,G8 (by omega),ar]
 dsimp only
 rw[show cT (nD n (jT T l)) n (false,[],false,[1],0)=_ from h2,ar]
 dsimp only
 rw[ar]
 dsimp only
 rw[Iz (by omega),ar]
 dsimp only
 rw[e1,e2];obtain⟨m,rfl⟩:∃m,n=m+100:=⟨n-100,by omega⟩
 have e0:FC (m+100) false [1] false [1] false [1] false [1]=some 0:=by kernel_rfl
 rw[e0,ar]; rfl
structure RowsOk (M:List (List Nat)):Prop where
 len:1≤M.length∧M.length≤60
 row:∀l ∈ M,l.length=M.length∧l.sum≠0∧l.sum<18446744073709551616
def dS (M:List (List Nat)):List (List Sh):=M.map fun l=>jT l.sum l
theorem yp:∀{l:List Nat} {x:Nat},x ∈ l→x≤l.sum
 | a::l,x,h=>by
  rw[List.sum_cons];rcases List.mem_cons.1 h with rfl|h
  ·omega
  ·have:=yp h; omega
theorem Di (hn:2 ^ 200<n) {M:List (List Nat)} (hM:RowsOk M):I2 n (dS M)=some 0:=by
 have hbig:(2:Nat) ^ 200=1606938044258990275541962092341162602522202993782792835301376:=by decide
 have hle:(dS M).length=M.length:=by unfold dS; rw[List.length_map]
 obtain⟨h1,h60⟩:=hM.len;have hL:=cq (body:=vR n (dS M)) M.length (fun(_:Unit) (v:Int)=>v) (fun _=>(.inr ():Unit ⊕ Unit)) (fun _ _=>True) (fun s i hi _=>by
  obtain⟨r1,r2,r3⟩:=hM.row M[i] (List.getElem_mem hi);have e:(dS M)[i]? = some (jT M[i].sum M[i]):=by unfold dS; rw[List.getElem?_map,List.getElem?_eq_getElem hi]; rfl
  refine⟨(),?_,trivial⟩;unfold vR;rw[bz (by omega),aK (by omega),bw,Int.toNat_natCast,e,ar]
  have e2:(jT M[i].sum M[i]).length=M.length:=by unfold jT; rw[List.length_map,r1]
  rw[e2,hle,decide_eq_true rfl,Bool.not_true,gx,D7 hn r2 r3 (fun h hh=>yp hh) (by omega) rfl,ar,ar,Bool.not_true,gx,aM (by omega)]) (fun s _=>by
  unfold vR;rw[bu (by omega)]) (n:=n) (s:=()) trivial (by omega)
 obtain⟨_,hL,_⟩:=hL;unfold I2;rw[bu (by omega),ar,decide_eq_false (by omega),gx,hL]; rfl
end Go.Proofs.YtpkadoocdgdcfaaGreatDoor
end

section
namespace Go.Proofs.YtpkadoocdgdcfaaGreatDoor
open Go Go.Ab Go.Ab.W
inductive RT (E:Nat→Nat→Prop) (a:Nat):Nat→Prop
 | refl:RT E a a
 | step {b c:Nat} (h:RT E a b) (e:E b c):RT E a c
theorem RT.trans {E:Nat→Nat→Prop} {a b c:Nat} (h:RT E a b) (k:RT E b c):RT E a c:=by
 induction k with
 | refl=>exact h
 | step _ e ih=>exact .step ih e
def DZ (M:List (List Nat)) (i j:Nat):Nat:=(M.getD i []).getD j 0
def Ed (M:List (List Nat)) (i j:Nat):Prop:=i<M.length∧j<M.length∧DZ M i j≠0
def vU (row:List Nat) (i:Nat):Nat→Nat
 | 0=>2 ^ i
 | j+1=>if row.getD j 0≠0 then vU row i j ||| 2 ^ j else vU row i j
theorem yg (row:List Nat) {i:Nat} (hi:i<60):∀j,j≤60→vU row i j<2 ^ 60
 | 0,_=>Nat.pow_lt_pow_right (by decide) hi
 | j+1,h=>by
  have:=yg row hi j (by omega)
  rw[vU]
  split
  ·exact Nat.or_lt_two_pow this (Nat.pow_lt_pow_right (by decide) (by omega))
  ·exact this
theorem oY (row:List Nat) (i b:Nat):∀j,(vU row i j).testBit b=true↔b=i∨(b<j∧row.getD b 0≠0)
 | 0=>by
  rw[vU,Nat.testBit_two_pow];simp only[decide_eq_true_eq,Nat.not_lt_zero,false_and,or_false];exact⟨fun h=>h.symm,fun h=>h.symm⟩
 | j+1=>by
  have ih:=oY row i b j;rw[vU]
  split
  ·rename_i h;rw[Nat.testBit_or,Bool.or_eq_true,ih,Nat.testBit_two_pow,decide_eq_true_eq];constructor
   ·rintro((h1|⟨h1,h2⟩) | rfl)
    ·exact .inl h1
    ·exact .inr ⟨by omega,h2⟩
    ·exact .inr ⟨by omega,h⟩
   ·rintro(h1|⟨h1,h2⟩)
    ·exact .inl (.inl h1)
    ·by_cases e:j=b
     ·exact .inr e
     ·exact .inl (.inr ⟨by omega,h2⟩)
  ·rename_i h;rw[ih];constructor
   ·rintro(h1|⟨h1,h2⟩)
    ·exact .inl h1
    ·exact .inr ⟨by omega,h2⟩
   ·rintro(h1|⟨h1,h2⟩)
    ·exact .inl h1
    ·refine .inr ⟨?_,h2⟩
     by_cases e:b=j
     ·subst e; exact absurd h2 h
     ·omega
theorem HO {j:Nat} (hj:j<60):2 ^ j<18446744073709551616:=Nat.lt_of_lt_of_le (Nat.pow_lt_pow_right (by decide) (show j<64 by omega)) (by decide)
theorem Gp {j:Nat} (hj:j<60):dN .u64 1 j=2 ^ j:=by
 rw[po (by omega),Nat.one_mul,mn (HO hj)]
theorem Dh {x:Nat} (h:x<2 ^ 60):x<18446744073709551616:=Nat.lt_of_lt_of_le h (by decide)
theorem KO {x y:Nat} (hx:x<2 ^ 60) (hy:y<2 ^ 60):uw .u64 (uw .u64 x ||| uw .u64 y)=x ||| y:=by
 rw[mn (Dh hx),mn (Dh hy),mn (Dh (Nat.or_lt_two_pow hx hy))]
theorem Au {x k:Nat} (hx:x<2 ^ 60) (hk:k<60):decide (uw .u64 (uw .u64 (cK .u64 x k) &&& uw .u64 1)=1)=x.testBit k:=by
 have h1:x/2 ^ k<2 ^ 60:=Nat.lt_of_le_of_lt (Nat.div_le_self _ _) hx;rw[tD (by omega),mn (Dh h1),mn (show(1:Nat)<18446744073709551616 by decide),mn (Dh (Nat.lt_of_le_of_lt (Nat.and_le_left) h1)),Nat.and_one_is_mod,Nat.testBit_eq_decide_div_mod_eq]
section
variable {n : Nat} {M : List (List Nat)}
theorem wi {i:Nat} (hi:i<M.length):(dS M)[i]? = some (jT (M.getD i []).sum (M.getD i [])):=by
 unfold dS;rw[List.getElem?_map,List.getD_eq_getElem?_getD,List.getElem?_eq_getElem hi]; rfl
theorem bL:(dS M).length=M.length:=by unfold dS; rw[List.length_map]
theorem DO (hM:RowsOk M) {i:Nat} (hi:i<M.length):(M.getD i []).length=M.length∧(M.getD i []).sum≠0∧(M.getD i []).sum<18446744073709551616:=by
 have:M.getD i [] ∈ M:=by rw[List.getD_eq_getElem?_getD,List.getElem?_eq_getElem hi]; exact List.getElem_mem hi
 exact hM.row _ this
theorem zk {T h:Nat} (hT:T≠0):(gD T h).1≠0↔h≠0:=by
 obtain⟨h1,_,h3,_,h5⟩:=rU (h:=h) hT;constructor
 ·intro e e0; subst e0; omega
 ·intro e e0;rw[e0,Nat.zero_mul] at h5;rcases Nat.mul_eq_zero.1 h5.symm with h|h
  ·exact e h
  ·exact h3 h
theorem Cm (hn:2 ^ 200<n) (hM:RowsOk M) {i:Nat} (hi:i<M.length) {base:List Nat} (hb:base.length=M.length) :
  cT (rq n (jT (M.getD i []).sum (M.getD i [])) (i:Int) (dS M)) n (base.set i (2 ^ i),0)=some (base.set i (vU (M.getD i []) i M.length)):=by
 have hbig:(2:Nat) ^ 200=1606938044258990275541962092341162602522202993782792835301376:=by decide
 obtain⟨r1,r2,r3⟩:=DO hM hi;have h60:=hM.len.2;generalize M.getD i []=row at *;have hlen:(jT row.sum row).length=M.length:=by unfold jT; rw[List.length_map,r1]
 have h:=cq (body:=rq n (jT row.sum row) (i:Int) (dS M)) M.length (fun(s:Nat) (v:Int)=>(base.set i (vU row i s),v)) (fun s=>base.set i (vU row i s)) (fun j s=>s=j) (fun s j hj hs=>?_) (fun s hs=>?_) (n:=n) (s:=0) rfl (by omega)
 ·obtain⟨s,h1,rfl⟩:=h;exact h1
 ·subst hs;refine⟨s+1,?_,rfl⟩;have hs:s<row.length:=by omega
  have hx:=yp (List.getElem_mem hs);have e0:row.getD s 0=row[s]:=by rw[List.getD_eq_getElem?_getD,List.getElem?_eq_getElem hs]; rfl
  have e1:(jT row.sum row)[s]? = some (sh (gD row.sum row[s])):=by unfold jT; rw[List.getElem?_map,List.getElem?_eq_getElem hs]; rfl
  obtain⟨k1,k2,_⟩:=rU (h:=row[s]) r2;obtain⟨r,q1,_,q3⟩:=Cs (n:=n) (v:=(gD row.sum row[s]).1);have hz:=zk (h:=row[s]) r2;have e2:(base.set i (vU row i s))[i]? = some (vU row i s):=by rw[List.getElem?_set_self (by omega)]
  unfold rq
  dsimp only
  rw[bz (by omega),aK (by omega),bw,Int.toNat_natCast,e1,ar]
  show ob (ob (BV n (gD row.sum row[s]).1 0 0 0 0 0 0 0 (gD row.sum row[s]).2 0 0 0 0 0 0 0) _) _=_
  rw[yC (by omega) (by omega) (by omega),ar]
  dsimp only
  rw[q1,ar]
  by_cases c:row[s]≠0
  ·rw[bz (q3.2 (hz.2 c)),bL,Int.toNat_natCast,aK hi,bw,Int.toNat_natCast,e2,ar,dw (by omega),bw,Gp (by omega),KO (yg row (by omega) s (by omega)) (Nat.pow_lt_pow_right (by decide) (by omega)),List.set_set,ar,aM (by omega),vU,if_pos (by rw[e0]; exact c)]
  ·rw[bu (fun h=>c (hz.1 (q3.1 h))),ar,aM (by omega),vU,if_neg (by rw[e0]; exact c)]
 ·subst hs;unfold rq
  dsimp only
  rw[bu (by omega)]
def gh (M:List (List Nat)) (i:Nat):List Nat:=(List.range M.length).map fun a=>if a<i then vU (M.getD a []) a M.length else 0
theorem gO (i:Nat):(gh M i).length=M.length:=by unfold gh; simp
theorem zR {i:Nat} (hi:i<M.length):(gh M i).set i (vU (M.getD i []) i M.length)=gh M (i+1):=by
 refine List.ext_getElem? fun a=>?_
 by_cases ha:a<M.length
 ·by_cases e:i=a
  ·subst e;rw[List.getElem?_set_self (by rw[gO]; exact hi)]
   unfold gh;rw[List.getElem?_map,List.getElem?_range hi,Option.map_some,if_pos (by omega)]
  ·rw[List.getElem?_set_ne e];unfold gh;rw[List.getElem?_map,List.getElem?_map,List.getElem?_range ha,Option.map_some,Option.map_some]
   by_cases c:a<i
   ·rw[if_pos c,if_pos (by omega)]
   ·rw[if_neg c,if_neg (by omega)]
 ·rw[List.getElem?_eq_none (by rw[List.length_set,gO]; omega),List.getElem?_eq_none (by rw[gO]; omega)]
theorem xp:gh M 0=List.replicate M.length 0:=by
 unfold gh;refine List.ext_getElem? fun a=>?_
 by_cases ha:a<M.length
 ·rw[List.getElem?_map,List.getElem?_range ha,Option.map_some,List.getElem?_replicate,if_pos ha,if_neg (by omega)]
 ·rw[List.getElem?_eq_none (by simp; omega),List.getElem?_eq_none (by simp; omega)]
theorem DU (hn:2 ^ 200<n) (hM:RowsOk M):cT (rr n (dS M)) n (List.replicate M.length 0,0)=some (gh M M.length):=by
 have hbig:(2:Nat) ^ 200=1606938044258990275541962092341162602522202993782792835301376:=by decide
 have h60:=hM.len.2;have h:=cq (body:=rr n (dS M)) M.length (fun(s:Nat) (v:Int)=>(gh M s,v)) (fun s=>gh M s) (fun i s=>s=i) (fun s i hi hs=>?_) (fun s hs=>?_) (n:=n) (s:=0) rfl (by omega)
 ·obtain⟨s,h1,rfl⟩:=h;rw[←xp]; exact h1
 ·subst hs;refine⟨s+1,?_,rfl⟩;have e2:(gh M s)[s]? = some ((gh M s)[s]'(by rw[gO]; exact hi)):=List.getElem?_eq_getElem _
  unfold rr
  dsimp only
  rw[bL,bz (by omega),aK hi,bw,Int.toNat_natCast,wi hi,ar,dw (by omega),Int.toNat_natCast,aK hi,bw,e2,ar,Gp (by omega),Cm hn hM hi (gO s),ar,zR hi,aM (by omega)]
 ·subst hs;unfold rr
  dsimp only
  rw[bL,bu (by omega)]
def Bt (l:List Nat) (i j:Nat):Prop:=(l.getD i 0).testBit j=true
structure Wl (N:Nat) (l:List Nat):Prop where
 len:l.length=N
 lt:∀i,i<N→l.getD i 0<2 ^ 60
theorem dz {l:List Nat} {i r v:Nat} (hi:i<l.length):(l.set i v).getD r 0=if r=i then v else l.getD r 0:=by
 rw[List.getD_eq_getElem?_getD,List.getD_eq_getElem?_getD]
 by_cases e:r=i
 ·subst e; rw[List.getElem?_set_self hi,if_pos rfl]; rfl
 ·rw[List.getElem?_set_ne (Ne.symm e),if_neg e]
theorem CO (hn:2 ^ 200<n) (hM:RowsOk M) {k:Nat} (hk:k<M.length) {l:List Nat} (hl:Wl M.length l):∃l',cT (pV n (dS M) (k:Int)) n (l,0)=some l'∧Wl M.length l'∧∀r,r<M.length→∀b,Bt l' r b↔Bt l r b∨(Bt l r k∧Bt l k b):=by
 have hbig:(2:Nat) ^ 200=1606938044258990275541962092341162602522202993782792835301376:=by decide
 have h60:=hM.len.2;have h:=cq (body:=pV n (dS M) (k:Int)) M.length (fun(s:List Nat) (v:Int)=>(s,v)) id (fun i s=>Wl M.length s∧∀r,r<M.length→∀b,Bt s r b↔if r<i then Bt l r b∨(Bt l r k∧Bt l k b) else Bt l r b) (fun s i hi hs=>?_) (fun s hs=>?_) (n:=n) (s:=l) ⟨hl,fun r _ b=>by rw[if_neg (by omega)]⟩ (by omega)
 ·obtain⟨s,h1,h2,h3⟩:=h;exact⟨s,h1,h2,fun r hr b=>by rw[h3 r hr b,if_pos hr]⟩
 ·obtain⟨hw,hB⟩:=hs;have ei:s[i]? = some (s.getD i 0):=by rw[List.getD_eq_getElem?_getD,List.getElem?_eq_getElem (by rw[hw.len]; exact hi)]; rfl
  have ek:s[k]? = some (s.getD k 0):=by rw[List.getD_eq_getElem?_getD,List.getElem?_eq_getElem (by rw[hw.len]; exact hk)]; rfl
  have hBk:∀b,Bt s k b↔Bt l k b:=fun b=>by
   rw[hB k hk b]
   split
   ·exact⟨fun h=>h.elim id fun h=>h.2,.inl⟩
   ·exact Iff.rfl
  have hik:Bt s i k↔Bt l i k:=by rw[hB i hi k,if_neg (by omega)]
  by_cases c:(s.getD i 0).testBit k=true
  ·refine⟨s.set i (s.getD i 0 ||| s.getD k 0),?_,⟨by rw[List.length_set,hw.len],fun r hr=>?_⟩,fun r hr b=>?_⟩
   ·unfold pV
    dsimp only
    rw[bL,bz (by omega),Int.toNat_natCast,aK hi,bw,Int.toNat_natCast,ei,ar,dw (by omega),Int.toNat_natCast,Au (hw.lt i hi) (by omega),c,mJ,bw,aK hk,bw,ek,ar,bw,KO (hw.lt i hi) (hw.lt k hk),ar,aM (by omega)]
   ·rw[dz (by rw[hw.len]; exact hi)]
    split
    ·exact Nat.or_lt_two_pow (hw.lt i hi) (hw.lt k hk)
    ·exact hw.lt r hr
   ·unfold Bt at *;rw[dz (by rw[hw.len]; exact hi)]
    by_cases e:r=i
    ·subst e;rw[if_pos rfl,if_pos (by omega),Nat.testBit_or,Bool.or_eq_true,hB r hi b,if_neg (by omega),hBk b]
     exact⟨fun h=>h.elim .inl fun h=>.inr ⟨hik.1 c,h⟩,fun h=>h.elim .inl fun h=>.inr h.2⟩
    ·rw[if_neg e,hB r hr b]
     by_cases c2:r<i
     ·rw[if_pos c2,if_pos (by omega)]
     ·rw[if_neg c2,if_neg (by omega)]
  ·refine⟨s,?_,hw,fun r hr b=>?_⟩
   ·unfold pV
    dsimp only
    rw[Bool.not_eq_true] at c;rw[bL,bz (by omega),Int.toNat_natCast,aK hi,bw,Int.toNat_natCast,ei,ar,dw (by omega),Int.toNat_natCast,Au (hw.lt i hi) (by omega),c,gx,ar,aM (by omega)]
   ·rw[hB r hr b]
    by_cases e:r=i
    ·subst e;rw[if_neg (by omega),if_pos (by omega)]
     exact⟨.inl,fun h=>h.elim id fun h=>absurd (hik.2 h.1) c⟩
    ·by_cases c2:r<i
     ·rw[if_pos c2,if_pos (by omega)]
     ·rw[if_neg c2,if_neg (by omega)]
 ·unfold pV
  dsimp only
  rw[bL,bu (by omega)]; rfl
theorem Ba (hn:2 ^ 200<n) (hM:RowsOk M):∃l',cT (rQ n (dS M)) n (gh M M.length,0)=some l'∧Wl M.length l'∧∀r,r<M.length→∀b,Bt l' r b↔RT (Ed M) r b:=by
 have hbig:(2:Nat) ^ 200=1606938044258990275541962092341162602522202993782792835301376:=by decide
 have h60:=hM.len.2;have hm:∀i,i<M.length→(gh M M.length).getD i 0=vU (M.getD i []) i M.length:=fun i hi=>by
  unfold gh;rw[List.getD_eq_getElem?_getD,List.getElem?_map,List.getElem?_range hi,Option.map_some,if_pos hi]; rfl
 have h:=cq (body:=rQ n (dS M)) M.length (fun(s:List Nat) (v:Int)=>(s,v)) id (fun k s=>Wl M.length s∧(∀i,i<M.length→∀b,Bt s i b→RT (Ed M) i b∧b<M.length)∧(∀i,i<M.length→Bt s i i)∧(∀i b,Ed M i b→Bt s i b)∧∀m,m<k→∀i,i<M.length→∀j,Bt s i m→Bt s m j→Bt s i j) (fun s k hk hs=>?_) (fun s hs=>?_) (n:=n) (s:=gh M M.length) ⟨⟨gO _,fun i hi=>by rw[hm i hi]; exact yg _ (by omega) _ h60⟩,fun i hi b hb=>?_,fun i hi=>?_,fun i b hb=>?_,fun m hm=>absurd hm (by omega)⟩ (by omega)
 ·obtain⟨s,h1,h2,h3,h4,h5,h6⟩:=h;refine⟨s,h1,h2,fun r hr b=>⟨fun h=>(h3 r hr b h).1,fun h=>?_⟩⟩
  induction h with
  | refl=>exact h4 r hr
  | step _ e ih=>exact h6 _ e.1 r hr _ ih (h5 _ _ e)
 ·obtain⟨hw,h3,h4,h5,h6⟩:=hs;obtain⟨s',q1,q2,q3⟩:=CO hn hM hk hw;refine⟨s',?_,q2,fun i hi b hb=>?_,fun i hi=>(q3 i hi i).2 (.inl (h4 i hi)),fun i b hb=>(q3 i hb.1 b).2 (.inl (h5 i b hb)),fun m hm i hi j a c=>?_⟩
  ·unfold rQ
   dsimp only
   rw[bL,bz (by omega),q1,ar,aM (by omega)]
  ·rcases(q3 i hi b).1 hb with h|⟨ha,hb⟩
   ·exact h3 i hi b h
   ·exact⟨(h3 i hi k ha).1.trans (h3 k hk b hb).1,(h3 k hk b hb).2⟩
  ·have hmM:m<M.length:=by omega
   by_cases e:m=k
   ·subst e;have a':Bt s i m:=((q3 i hi m).1 a).elim id fun h=>h.1;have c':Bt s m j:=((q3 m hmM j).1 c).elim id fun h=>h.2;exact(q3 i hi j).2 (.inr ⟨a',c'⟩)
   ·have hmk:m<k:=by omega
    rcases(q3 i hi m).1 a with a1|⟨a1,a2⟩<;>rcases(q3 m hmM j).1 c with c1|⟨c1,c2⟩
    ·exact(q3 i hi j).2 (.inl (h6 m hmk i hi j a1 c1))
    ·exact(q3 i hi j).2 (.inr ⟨h6 m hmk i hi k a1 c1,c2⟩)
    ·exact(q3 i hi j).2 (.inr ⟨a1,h6 m hmk k hk j a2 c1⟩)
    ·exact(q3 i hi j).2 (.inr ⟨a1,c2⟩)
 ·unfold rQ
  dsimp only
  rw[bL,bu (by omega)]; rfl
 ·unfold Bt at hb;rw[hm i hi,oY] at hb;rcases hb with rfl|⟨h1,h2⟩
  ·exact⟨.refl,hi⟩
  ·exact⟨.step .refl ⟨hi,h1,h2⟩,h1⟩
 ·unfold Bt;rw[hm i hi,oY]; exact .inl rfl
 ·unfold Bt;rw[hm i hb.1,oY]; exact .inr ⟨hb.2.1,hb.2.2⟩
end
def uE (M:List (List Nat)) (a b:Nat):Prop:=RT (Ed M) a b∧RT (Ed M) b a
theorem uE.symm {M:List (List Nat)} {a b:Nat} (h:uE M a b):uE M b a:=⟨h.2,h.1⟩
theorem uE.trans {M:List (List Nat)} {a b c:Nat} (h:uE M a b) (k:uE M b c):uE M a c:=⟨h.1.trans k.1,k.2.trans h.2⟩
theorem uE.refl {M:List (List Nat)} (a:Nat):uE M a a:=⟨.refl,.refl⟩
theorem hZ {c:List Nat} {i:Nat} (hi:i<c.length):(ints c)[i]? = some ((c.getD i 0:Nat):Int):=by
 unfold ints;rw[List.getElem?_map,List.getD_eq_getElem?_getD,List.getElem?_eq_getElem hi]; rfl
theorem ints_set (c:List Nat) (i v:Nat):(ints c).set i (v:Int)=ints (c.set i v):=by unfold ints; rw[List.map_set]
theorem vK (c:List Nat):(ints c).length=c.length:=by unfold ints; rw[List.length_map]
section
variable {n : Nat} {M : List (List Nat)}
theorem Df (hn:2 ^ 200<n) (hM:RowsOk M) {l:List Nat} (hl:Wl M.length l) (hB:∀r,r<M.length→∀b,Bt l r b↔RT (Ed M) r b) {i:Nat} (hi:i<M.length) {c:List Nat} (hc:c.length=M.length) :
  ∃v,cT (pK n (i:Int) (dS M) l) n (ints c,0)=some (ints (c.set i v))∧(((∀b,b<i→¬uE M i b)∧v=c.getD i 0)∨∃b,b<i∧uE M i b∧v=c.getD b 0):=by
 have hbig:(2:Nat) ^ 200=1606938044258990275541962092341162602522202993782792835301376:=by decide
 have h60:=hM.len.2;have hset:c.set i (c.getD i 0)=c:=by
  refine List.ext_getElem? fun a=>?_
  by_cases e:i=a
  ·subst e;rw[List.getElem?_set_self (by omega),List.getD_eq_getElem?_getD,List.getElem?_eq_getElem (by omega)]; rfl
  ·rw[List.getElem?_set_ne e]
 have h:=cq (body:=pK n (i:Int) (dS M) l) i (fun(v:Nat) (j:Int)=>(ints (c.set i v),j)) (fun v=>ints (c.set i v)) (fun j v=>((∀b,b<j→¬uE M i b)∧v=c.getD i 0)∨∃b,b<j∧uE M i b∧v=c.getD b 0) (fun v j hj hv=>?_) (fun v _=>?_) (n:=n) (s:=c.getD i 0) (.inl ⟨fun b hb=>absurd hb (by omega),rfl⟩) (by omega)
 ·obtain⟨v,h1,h2⟩:=h;rw[hset] at h1;exact⟨v,h1,h2⟩
 ·have hj':j<M.length:=by omega
  have ei:l[i]? = some (l.getD i 0):=by rw[List.getD_eq_getElem?_getD,List.getElem?_eq_getElem (by rw[hl.len]; exact hi)]; rfl
  have ej:l[j]? = some (l.getD j 0):=by rw[List.getD_eq_getElem?_getD,List.getElem?_eq_getElem (by rw[hl.len]; exact hj')]; rfl
  have cj:(ints (c.set i v))[j]? = some ((c.getD j 0:Nat):Int):=by
   rw[hZ (by rw[List.length_set]; omega),dz (by omega),if_neg (by omega)]
  have ci:(ints (c.set i v))[i]? = some ((v:Nat):Int):=by
   rw[hZ (by rw[List.length_set]; omega),dz (by omega),if_pos rfl]
  have hm:((l.getD i 0).testBit j && (l.getD j 0).testBit i)=true↔uE M i j:=by
   rw[Bool.and_eq_true];exact and_congr (hB i hi j) (hB j hj' i)
  by_cases cm:uE M i j
  ·have hm':=hm.2 cm;rw[Bool.and_eq_true] at hm';refine⟨c.getD j 0,?_,.inr ⟨j,by omega,cm,rfl⟩⟩
   unfold pK
   dsimp only
   rw[bz (by omega),bL,Int.toNat_natCast,aK hi,bw,Int.toNat_natCast,ei,ar,dw (by omega),Int.toNat_natCast,Au (hl.lt i hi) (by omega),hm'.1,mJ,aK hj',bw,ej,ar,dw (by omega),Au (hl.lt j hj') (by omega),hm'.2,ar,mJ,bw,cj,ar,bw,ci,ar,ints_set,List.set_set,ar,aM (by omega)]
  ·have hv':((∀b,b<j+1→¬uE M i b)∧v=c.getD i 0)∨∃b,b<j+1∧uE M i b∧v=c.getD b 0:=by
    rcases hv with⟨h1,h2⟩|⟨b,h1,h2,h3⟩
    ·refine .inl ⟨fun b hb=>?_,h2⟩
     by_cases e:b=j
     ·subst e; exact cm
     ·exact h1 b (by omega)
    ·exact .inr ⟨b,by omega,h2,h3⟩
   refine⟨v,?_,hv'⟩;unfold pK
   dsimp only
   rw[bz (by omega),bL,Int.toNat_natCast,aK hi,bw,Int.toNat_natCast,ei,ar,dw (by omega),Int.toNat_natCast,Au (hl.lt i hi) (by omega)]
   cases c1:(l.getD i 0).testBit j with
   | false=>rw[gx,ar,gx,ar,aM (by omega)]
   | true =>
    have c2:(l.getD j 0).testBit i=false:=by
     cases c2:(l.getD j 0).testBit i with
     | false=>rfl
     | true=>exact absurd (hm.1 (by rw[c1,c2]; rfl)) cm
    rw[mJ,aK hj',bw,ej,ar,dw (by omega),Au (hl.lt j hj') (by omega),c2,ar,gx,ar,aM (by omega)]
 ·unfold pK
  dsimp only
  rw[bu (by omega)]
structure Cls (M:List (List Nat)) (i:Nat) (c:List Nat) (nx:Nat):Prop where
 len:c.length=M.length
 lt:∀a,a<i→c.getD a 0<nx
 eq:∀a,a<i→∀b,b<i→(c.getD a 0=c.getD b 0↔uE M a b)
 all:∀v,v<nx→∃a,a<i∧c.getD a 0=v
 new:∀a,a<i→c.getD a 0=0∨∃b,b<a∧c.getD b 0+1=c.getD a 0
 nx:nx≤i
theorem xT (hn:2 ^ 200<n) (hM:RowsOk M):∃c nx,Jb n (dS M)=some (ints c,0)∧Cls M M.length c nx:=by
 have hbig:(2:Nat) ^ 200=1606938044258990275541962092341162602522202993782792835301376:=by decide
 have h60:=hM.len.2;obtain⟨l,q1,q2,q3⟩:=Ba hn hM;have h:=cq (body:=oB n (dS M) l) M.length (fun(s:List Nat × Nat) (v:Int)=>(ints s.1,((s.2:Nat):Int),v)) (fun s=>ints s.1) (fun i s=>Cls M i s.1 s.2) (fun s i hi hs=>?_) (fun s _=>?_) (n:=n) (s:=(List.replicate M.length 0,0)) ⟨by simp,fun a ha=>absurd ha (by omega),fun a ha=>absurd ha (by omega),fun v hv=>absurd hv (by omega),fun a ha=>absurd ha (by omega),by simp⟩ (by omega)
 ·obtain⟨s,h1,h2⟩:=h;refine⟨s.1,s.2,?_,h2⟩;have e0:ints (List.replicate M.length 0)=List.replicate M.length (0:Int):=by unfold ints; rw[List.map_replicate]; rfl
  rw[e0] at h1;unfold Jb;have hlim:lim M.length=true:=Nat.ble_eq_true_of_le (by omega)
  rw[Di hn hM,ar,decide_eq_true rfl,Bool.not_true,gx,bL,dw (by omega),Int.toNat_natCast,hlim,bw,DU hn hM,ar,q1,ar,dw (by omega),bw]
  show ob (cT (oB n (dS M) l) n (List.replicate M.length (0:Int),0,0)) _=_
  have h1':cT (oB n (dS M) l) n (List.replicate M.length (0:Int),0,0)=some (ints s.1):=h1;rw[h1']; rfl
 ·obtain⟨c,nx⟩:=s
  dsimp only at hs ⊢
  have hnx:=hs.nx;obtain⟨v,g1,g2⟩:=Df hn hM q2 q3 hi (c:=c.set i nx) (by rw[List.length_set,hs.len])
  rw[List.set_set] at g1;have hil:i<c.length:=by rw[hs.len]; exact hi
  have ci:(ints c)[i]? = some ((c.getD i 0:Nat):Int):=hZ hil;have cv:(ints (c.set i v))[i]? = some ((v:Nat):Int):=by rw[hZ (by rw[List.length_set]; omega),dz hil,if_pos rfl]
  have hget:∀a,a<i→(c.set i v).getD a 0=c.getD a 0:=fun a ha=>by rw[dz hil,if_neg (by omega)]
  have hgi:(c.set i v).getD i 0=v:=by rw[dz hil,if_pos rfl]
  have body:∀(x:Nat),(if v=nx then nx+1 else nx)=x→oB n (dS M) l (ints c,(nx:Int),(i:Int))=some (.inl (ints (c.set i v),(x:Int),((i+1:Nat):Int))):=fun x hx=>by
   unfold oB
   dsimp only
   rw[bL,bz (by omega),Int.toNat_natCast,aK hi,bw,Int.toNat_natCast,ci,ar,ints_set,g1,ar,bw,cv,ar]
   by_cases e:v=nx
   ·rw[bz (by omega),ar]
    dsimp only
    rw[aM (by omega),aM (by omega),←hx,if_pos e]
   ·rw[bu (by omega),ar]
    dsimp only
    rw[aM (by omega),←hx,if_neg e]
  rcases g2 with⟨g2,g3⟩|⟨b,b1,b2,b3⟩
  ·
   rw[dz hil,if_pos rfl] at g3;subst g3;refine⟨(c.set i v,v+1),body _ (by rw[if_pos rfl]),by rw[List.length_set,hs.len],fun a ha=>?_,fun a ha b hb=>?_,fun u hu=>?_,fun a ha=>?_,by dsimp only; omega⟩
   ·dsimp only
    by_cases e:a=i
    ·subst e; rw[hgi]; omega
    ·rw[hget a (by omega)]; have:=hs.lt a (by omega); omega
   ·dsimp only
    by_cases e:a=i<;>by_cases f:b=i
    ·subst e; subst f; exact⟨fun _=>.refl _,fun _=>rfl⟩
    ·subst e;rw[hgi,hget b (by omega)]
     have:=hs.lt b (by omega)
     exact⟨fun h=>absurd h (by omega),fun h=>absurd h (g2 b (by omega))⟩
    ·subst f;rw[hgi,hget a (by omega)]
     have:=hs.lt a (by omega)
     exact⟨fun h=>absurd h (by omega),fun h=>absurd h.symm (g2 a (by omega))⟩
    ·rw[hget a (by omega),hget b (by omega)]
     exact hs.eq a (by omega) b (by omega)
   ·dsimp only at hu ⊢
    by_cases e:u=v
    ·exact⟨i,by omega,by rw[hgi,e]⟩
    ·obtain⟨a,h1,h2⟩:=hs.all u (by omega)
     exact⟨a,by omega,by rw[hget a h1,h2]⟩
   ·dsimp only
    by_cases e:a=i
    ·subst e;rw[hgi]
     by_cases e0:v=0
     ·exact .inl e0
     ·obtain⟨a',h1,h2⟩:=hs.all (v-1) (by omega)
      exact .inr ⟨a',h1,by rw[hget a' h1]; omega⟩
    ·rw[hget a (by omega)]
     rcases hs.new a (by omega) with h|⟨b,h1,h2⟩
     ·exact .inl h
     ·exact .inr ⟨b,h1,by rw[hget b (by omega),h2]⟩
  ·
   rw[dz hil,if_neg (by omega)] at b3
   have hb:=hs.lt b b1;refine⟨(c.set i v,nx),body _ (by rw[if_neg (by omega)]),by rw[List.length_set,hs.len],fun a ha=>?_,fun a ha d hd=>?_,fun u hu=>?_,fun a ha=>?_,by dsimp only; omega⟩
   ·dsimp only
    by_cases e:a=i
    ·subst e; rw[hgi]; omega
    ·rw[hget a (by omega)]; exact hs.lt a (by omega)
   ·dsimp only
    by_cases e:a=i<;>by_cases f:d=i
    ·subst e; subst f; exact⟨fun _=>.refl _,fun _=>rfl⟩
    ·subst e;rw[hgi,hget d (by omega),b3,hs.eq b b1 d (by omega)]
     exact⟨fun h=>b2.trans h,fun h=>b2.symm.trans h⟩
    ·subst f;rw[hgi,hget a (by omega),b3,hs.eq a (by omega) b b1]
     exact⟨fun h=>h.trans b2.symm,fun h=>h.trans b2⟩
    ·rw[hget a (by omega),hget d (by omega)]
     exact hs.eq a (by omega) d (by omega)
   ·dsimp only at hu ⊢
    obtain⟨a,h1,h2⟩:=hs.all u hu;exact⟨a,by omega,by rw[hget a h1,h2]⟩
   ·dsimp only
    by_cases e:a=i
    ·subst e;rw[hgi];rcases hs.new b b1 with h|⟨d,h1,h2⟩
     ·exact .inl (b3.trans h)
     ·exact .inr ⟨d,by omega,by rw[hget d (by omega),h2,b3]⟩
    ·rw[hget a (by omega)]
     rcases hs.new a (by omega) with h|⟨d,h1,h2⟩
     ·exact .inl h
     ·exact .inr ⟨d,h1,by rw[hget d (by omega),h2]⟩
 ·unfold oB
  dsimp only
  rw[bL,bu (by omega)]
end
theorem Am {α β:Type} [DecidableEq α] (xs:List (α × β)) (k k':α) (v:β):iI (iZ xs k v) k'=(if k'=k then some v else iI xs k')∧(iZ xs k v).length=(if iI xs k=none then xs.length+1 else xs.length):=by
 have key:∀(xs:List (α × β)) (i:Nat),(dm k xs i=none→∀j,(dm k' (xs++[(k,v)]) j).map (·.2)=if k'=k then some v else(dm k' xs j).map (·.2)) ∧
   (∀p,dm k xs i=some p→i≤p.1∧∀j,(dm k' (xs.set (p.1-i) (k,v)) j).map (·.2)=if k'=k then some v else(dm k' xs j).map (·.2)):=by
  intro xs
  induction xs with
  | nil =>
   intro i;refine⟨fun _ j=>?_,fun p h=>by simp[dm] at h⟩
   simp only[List.nil_append,dm]
   by_cases h:k'=k<;>simp[h]
  | cons e xs ih =>
   intro i
   by_cases he:k=e.1
   ·refine⟨fun h=>by simp[dm,he] at h,fun p h=>?_⟩
    have hp:p=(i,e.2):=by simp[dm,he] at h; exact h.symm
    subst hp;refine⟨Nat.le_refl _,fun j=>?_⟩;simp only[Nat.sub_self,List.set_cons_zero,dm]
    by_cases h:k'=k
    ·simp[h]
    ·have:k'≠e.1:=fun c=>h (c.trans he.symm);simp[h,this]
   ·refine⟨fun h j=>?_,fun p h=>?_⟩
    ·have h':dm k xs (i+1)=none:=by simpa [dm,he] using h
     simp only[List.cons_append,dm]
     by_cases h2:k'=e.1
     ·have:k'≠k:=fun c=>he (c.symm.trans h2);simp[h2,Ne.symm he]
     ·simp only[if_neg h2];exact(ih (i+1)).1 h' (j+1)
    ·have h':dm k xs (i+1)=some p:=by simpa [dm,he] using h
     obtain⟨g1,g2⟩:=(ih (i+1)).2 p h';refine⟨by omega,fun j=>?_⟩
     rw[show p.1-i=(p.1-(i+1))+1 by omega,List.set_cons_succ]
     simp only[dm]
     by_cases h2:k'=e.1
     ·have:k'≠k:=fun c=>he (c.symm.trans h2);simp[h2,Ne.symm he]
     ·simp only[if_neg h2];exact g2 (j+1)
 unfold iI iZ;cases h:dm k xs 0 with
 | none=>exact⟨(key xs 0).1 h 0,by simp⟩
 | some p=>exact⟨((key xs 0).2 p h).2 0,by simp⟩
theorem Av {α β:Type} [DecidableEq α] (xs:List (α × β)) (k k':α) (v:β):iI (iZ xs k v) k'=if k'=k then some v else iI xs k':=(Am xs k k' v).1
theorem C1 {α β:Type} [DecidableEq α] (xs:List (α × β)) (k k':α) (v d:β):(iI (iZ xs k v) k').getD d=if k'=k then v else(iI xs k').getD d:=by
 rw[Av]; split<;>rfl
abbrev Sn:=List (Int × Bool)
def jU (l:Sn) (x:Nat):Prop:=(iI l (x:Int)).getD false=true
theorem yK {l:Sn} {j x:Nat}:jU (iZ l (j:Int) true) x↔x=j∨jU l x:=by
 unfold jU;rw[C1]
 by_cases e:x=j
 ·subst e; rw[if_pos rfl]; exact⟨fun _=>.inl rfl,fun _=>rfl⟩
 ·rw[if_neg (by omega)]
  exact⟨.inr,fun h=>h.resolve_left e⟩
section
variable {n : Nat} {M : List (List Nat)}
theorem KV (hn:300≤n):IE n 0 1=some (sh (0,1)):=by
 obtain⟨m,rfl⟩:∃m,n=m+300:=⟨n-300,by omega⟩
 kernel_rfl
theorem DH (hn:2 ^ 200<n) (hM:RowsOk M) {i:Nat} (hi:i<M.length) {l:Sn}:∃l',cT (oP n (dS M) (i:Int)) n (l,0)=some l'∧∀x,jU l' x↔jU l x∨(jU l i∧Ed M i x):=by
 have hbig:(2:Nat) ^ 200=1606938044258990275541962092341162602522202993782792835301376:=by decide
 have h60:=hM.len.2;obtain⟨r1,r2,r3⟩:=DO hM hi;have h:=cq (body:=oP n (dS M) (i:Int)) M.length (fun(s:Sn) (v:Int)=>(s,v)) id (fun j s=>∀x,jU s x↔jU l x∨(jU l i∧x<j∧Ed M i x)) (fun s j hj hs=>?_) (fun s _=>?_) (n:=n) (s:=l) (fun x=>⟨.inl,fun h=>h.elim id fun h=>absurd h.2.1 (by omega)⟩) (by omega)
 ·obtain⟨s,h1,h2⟩:=h;exact⟨s,h1,fun x=>(h2 x).trans ⟨fun h=>h.imp id fun h=>⟨h.1,h.2.2⟩,fun h=>h.imp id fun h=>⟨h.1,h.2.2.1,h.2⟩⟩⟩
 ·
  have hsi:jU s i↔jU l i:=(hs i).trans ⟨fun h=>h.elim id fun h=>h.1,.inl⟩;have hjr:j<(M.getD i []).length:=by omega
  have hrow:=wi (M:=M) hi;have e1:(jT (M.getD i []).sum (M.getD i []))[j]? = some (sh (gD (M.getD i []).sum (DZ M i j))):=by
   unfold jT DZ;rw[List.getElem?_map,List.getD_eq_getElem?_getD (l:=M.getD i []) (i:=j),List.getElem?_eq_getElem hjr]; rfl
  have hlen:(jT (M.getD i []).sum (M.getD i [])).length=M.length:=by unfold jT; rw[List.length_map,r1]
  have hz:=zk (h:=DZ M i j) r2;have hl1:DZ M i j=0→gD (M.getD i []).sum (DZ M i j)=(0,1):=fun h=>by rw[h]; exact wF r2
  by_cases c:jU s i
  ·by_cases ce:DZ M i j≠0
   ·refine⟨iZ s (j:Int) true,?_,fun x=>?_⟩
    ·unfold oP
     dsimp only
     unfold jU at c;have hd:decide ((sh (gD (M.getD i []).sum (DZ M i j))).1=0)=false:=decide_eq_false (hz.2 ce);rw[bL,bz (by omega),ar,c,mJ,aK hi,bw,Int.toNat_natCast,hrow,ar,hlen,aK hj,bw,Int.toNat_natCast,e1,ar]
     show ob (ob (ob (IE n 0 1) _) _) _=_
     rw[KV (by omega),ar]
     show ob (ob (some (!(decide ((sh (gD (M.getD i []).sum (DZ M i j))).1=0) && _ && _ && _ && _ && _ && _ && _ && _ && _ && _ && _ && _ && _ && _ && _))) _) _=_
     rw[hd];simp only[Bool.false_and,Bool.not_false,ar,mJ];rw[aM (by omega)]
    ·rw[yK,hs x];constructor
     ·rintro(rfl|h|h)
      ·exact .inr ⟨hsi.1 c,by omega,hi,hj,ce⟩
      ·exact .inl h
      ·exact .inr ⟨h.1,by omega,h.2.2⟩
     ·rintro(h|⟨h1,h2,h3⟩)
      ·exact .inr (.inl h)
      ·by_cases e:x=j
       ·exact .inl e
       ·exact .inr (.inr ⟨h1,by omega,h3⟩)
   ·have ce':DZ M i j=0:=Classical.not_not.1 ce;refine⟨s,?_,fun x=>?_⟩
    ·unfold oP
     dsimp only
     unfold jU at c;rw[bL,bz (by omega),ar,c,mJ,aK hi,bw,Int.toNat_natCast,hrow,ar,hlen,aK hj,bw,Int.toNat_natCast,e1,ar,hl1 ce']
     show ob (ob (ob (IE n 0 1) _) _) _=_
     rw[KV (by omega),ar]
     show ob (ob (some false) _) _=_
     rw[ar,gx,ar,aM (by omega)]
    ·rw[hs x];refine⟨fun h=>h.imp id fun h=>⟨h.1,by omega,h.2.2⟩,fun h=>h.imp id fun h=>⟨h.1,?_,h.2.2⟩⟩
     by_cases e:x=j
     ·subst e; exact absurd ce' h.2.2.2.2
     ·omega
  ·refine⟨s,?_,fun x=>?_⟩
   ·unfold oP
    dsimp only
    unfold jU at c;rw[Bool.not_eq_true] at c;rw[bL,bz (by omega),ar,c,gx,ar,gx,ar,aM (by omega)]
   ·rw[hs x];exact⟨fun h=>h.imp id fun h=>⟨h.1,by omega,h.2.2⟩,fun h=>h.imp id fun h=>absurd (hsi.2 h.1) c⟩
 ·unfold oP
  dsimp only
  rw[bL,bu (by omega)]; rfl
theorem CX (hn:2 ^ 200<n) (hM:RowsOk M) {a:Nat} {l:Sn} (hl:∀x,jU l x→RT (Ed M) a x):∃l',cT (rP n (dS M)) n (l,0)=some l'∧(∀x,jU l' x→RT (Ed M) a x)∧(∀x,jU l x→jU l' x)∧∀i x,jU l i→Ed M i x→jU l' x:=by
 have hbig:(2:Nat) ^ 200=1606938044258990275541962092341162602522202993782792835301376:=by decide
 have h60:=hM.len.2;have h:=cq (body:=rP n (dS M)) M.length (fun(s:Sn) (v:Int)=>(s,v)) id (fun i s=>(∀x,jU s x→RT (Ed M) a x)∧(∀x,jU l x→jU s x)∧∀k x,k<i→jU l k→Ed M k x→jU s x) (fun s i hi hs=>?_) (fun s _=>?_) (n:=n) (s:=l) ⟨hl,fun _ h=>h,fun k x hk=>absurd hk (by omega)⟩ (by omega)
 ·obtain⟨s,h1,h2,h3,h4⟩:=h;exact⟨s,h1,h2,h3,fun i x hi he=>h4 i x he.1 hi he⟩
 ·obtain⟨s',g1,g2⟩:=DH hn hM hi (l:=s);refine⟨s',?_,fun x hx=>?_,fun x hx=>(g2 x).2 (.inl (hs.2.1 x hx)),fun k x hk hx he=>?_⟩
  ·unfold rP
   dsimp only
   rw[bL,bz (by omega),g1,ar,aM (by omega)]
  ·rcases(g2 x).1 hx with h|⟨h,he⟩
   ·exact hs.1 x h
   ·exact .step (hs.1 i h) he
  ·by_cases e:k=i
   ·subst e;exact(g2 x).2 (.inr ⟨hs.2.1 k hx,he⟩)
   ·exact(g2 x).2 (.inl (hs.2.2 k x (by omega) hx he))
 ·unfold rP
  dsimp only
  rw[bL,bu (by omega)]; rfl
noncomputable def E3 (N:Nat) (l:Sn):Nat:=((List.range N).filter fun x:Nat=>(iI l (x:Int)).getD false).length
theorem filter_lt {p q:Nat→Bool}:∀{l:List Nat},(∀x ∈ l,p x=true→q x=true)→(l.filter p).length≤(l.filter q).length∧((∃x ∈ l,p x=false∧q x=true)→(l.filter p).length<(l.filter q).length)
 | [],_=>⟨Nat.le_refl _,fun⟨_,h,_⟩=>by cases h⟩
 | a::l,h=>by
  obtain⟨h1,h2⟩:=filter_lt (l:=l) fun x hx=>h x (List.mem_cons_of_mem _ hx);have h0:=h a (List.mem_cons_self ..);rw[List.filter_cons,List.filter_cons];cases hp:p a<;>cases hq:q a
  ·refine⟨h1,?_⟩;rintro⟨x,hx,a1,a2⟩;rcases List.mem_cons.1 hx with rfl|hx
   ·rw[hq] at a2; cases a2
   ·exact h2 ⟨x,hx,a1,a2⟩
  ·simp only[if_true,Bool.false_eq_true,if_false,List.length_cons];exact⟨by omega,fun _=>by omega⟩
  ·rw[h0 hp] at hq; cases hq
  ·simp only[if_true,List.length_cons];refine⟨by omega,?_⟩
   rintro⟨x,hx,a1,a2⟩;rcases List.mem_cons.1 hx with rfl|hx
   ·rw[hp] at a1; cases a1
   ·have:=h2 ⟨x,hx,a1,a2⟩; omega
open Classical in
theorem CB (hn:2 ^ 200<n) (hM:RowsOk M) {a b:Nat} (ha:a<M.length):IF n (dS M) (a:Int) (b:Int)=some (decide (RT (Ed M) a b)):=by
 have hbig:(2:Nat) ^ 200=1606938044258990275541962092341162602522202993782792835301376:=by decide
 have h60:=hM.len.2;have h0:∀x,jU (iZ ([]:Sn) (a:Int) true) x↔x=a:=fun x=>by
  rw[yK];exact⟨fun h=>h.elim id fun h=>absurd (show(false=true) from h) (by decide),.inl⟩
 have hlt:∀x,RT (Ed M) a x→x<M.length:=fun x h=>by
  cases h with
  | refl=>exact ha
  | step _ e=>exact e.2.1
 have h:=cq (body:=se n (dS M)) M.length (fun(s:Sn) (v:Int)=>(s,v)) id (fun r s=>(∀x,jU s x→RT (Ed M) a x)∧jU s a∧((∀x,RT (Ed M) a x→jU s x)∨r+1≤E3 M.length s)) (fun s r hr hs=>?_) (fun s _=>?_) (n:=n) (s:=iZ ([]:Sn) (a:Int) true) ⟨fun x hx=>by rw[(h0 x).1 hx]; exact .refl,(h0 a).2 rfl,.inr ?_⟩ (by omega)
 ·obtain⟨s,h1,h2,h3,h4⟩:=h;have hall:∀x,RT (Ed M) a x→jU s x:=by
   rcases h4 with h4|h4
   ·exact h4
   ·have:E3 M.length s≤M.length:=Nat.le_trans (List.length_filter_le _ _) (by simp)
    omega
  unfold IF;rw[show cT (se n (dS M)) n (iZ ([]:List (Int × Bool)) (a:Int) true,0)=_ from h1,ar,id,ar]
  refine congrArg some ?_;rw[Bool.eq_iff_iff,decide_eq_true_eq];exact⟨h2 b,hall b⟩
 ·obtain⟨hs1,hs2,hs3⟩:=hs;obtain⟨s',g1,g2,g3,g4⟩:=CX hn hM hs1;refine⟨s',?_,g2,g3 a hs2,?_⟩
  ·unfold se
   dsimp only
   rw[bL,bz (by omega),g1,ar,aM (by omega)]
  ·rcases hs3 with h|h
   ·exact .inl fun x hx=>g3 x (h x hx)
   ·by_cases hc:∀i x,jU s i→Ed M i x→jU s x
    ·left
     intro x hx;refine g3 x ?_
     induction hx with
     | refl=>exact hs2
     | step _ e ih=>exact hc _ _ ih e
    ·right
     have:∃i x,jU s i∧Ed M i x∧¬jU s x:=by
      refine Classical.byContradiction fun hn=>hc fun i x h1 h2=>Classical.byContradiction fun h3=>hn ⟨i,x,h1,h2,h3⟩
     obtain⟨i,x,h1,h2,h3⟩:=this;have:=(filter_lt (p:=fun x:Nat=>(iI s (x:Int)).getD false) (q:=fun x:Nat=>(iI s' (x:Int)).getD false) (l:=List.range M.length) fun x _ hx=>g3 x hx).2 ⟨x,List.mem_range.2 h2.2.1,by unfold jU at h3; rwa[Bool.not_eq_true] at h3,g4 i x h1 h2⟩
     unfold E3 at *;omega
 ·unfold se
  dsimp only
  rw[bL,bu (by omega)]; rfl
 ·have:=(filter_lt (p:=fun _=>false) (q:=fun x:Nat=>(iI (iZ ([]:Sn) (a:Int) true) (x:Int)).getD false) (l:=List.range M.length) fun x _ hx=>by cases hx).2 ⟨a,List.mem_range.2 ha,rfl,(h0 a).2 rfl⟩
  unfold E3;omega
theorem BO (l:List Nat) {N:Nat} (h1:1≤N) (h4:N≤4):∃M,dM l N=dS M∧M.length=N∧RowsOk M:=by
 refine⟨(List.range N).map fun i=>iL l N i,?_,by simp,⟨by simp; omega,fun r hr=>?_⟩⟩
 ·unfold dM dS;rw[List.map_map]; rfl
 ·obtain⟨i,hi,rfl⟩:=List.mem_map.1 hr;obtain⟨d1,d2,d3,d4⟩:=yy l h4 (List.mem_range.1 hi);exact⟨by simp[d1],d3,by omega⟩
open Classical in
theorem EB (hn:2 ^ 200<n) (hM:RowsOk M) {c:List Nat} {nx:Nat} (hc:Cls M M.length c nx) {i:Nat} (hi:i<M.length):cT (Aw n (ints c) (i:Int) (dS M) ((c.getD i 0:Nat):Int)) n 0=some (.inr ()):=by
 have hbig:(2:Nat) ^ 200=1606938044258990275541962092341162602522202993782792835301376:=by decide
 have h60:=hM.len.2;have hlen:(ints c).length=M.length:=by rw[vK,hc.len]
 have h:=cq (body:=Aw n (ints c) (i:Int) (dS M) ((c.getD i 0:Nat):Int)) M.length (fun(_:Unit) (v:Int)=>v) (fun _=>(.inr ():Unit ⊕ Unit)) (fun _ _=>True) (fun s j hj _=>?_) (fun s _=>?_) (n:=n) (s:=()) trivial (by omega)
 ·obtain⟨_,h1,_⟩:=h;exact h1
 ·refine⟨(),?_,trivial⟩;have cj:=hZ (c:=c) (i:=j) (by rw[hc.len]; exact hj)
  have heq:=hc.eq i hi j hj;unfold Aw;rw[hlen,bz (by omega),aK hi,bw,aK hj,bw,Int.toNat_natCast,cj,ar,CB hn hM hi,ar]
  by_cases c1:RT (Ed M) i j
  ·rw[bz c1,CB hn hM hj,ar,ar]
   by_cases c2:RT (Ed M) j i
   ·have e:=heq.2 ⟨c1,c2⟩;rw[e,decide_eq_true c2,decide_eq_true rfl]
    show br false _ _=_
    rw[gx,aM (by omega)]
   ·have e:¬c.getD i 0=c.getD j 0:=fun h=>c2 (heq.1 h).2;rw[decide_eq_false c2,decide_eq_false (by omega)]
    show br false _ _=_
    rw[gx,aM (by omega)]
  ·have e:¬c.getD i 0=c.getD j 0:=fun h=>c1 (heq.1 h).1;rw[bu c1,ar,decide_eq_false (by omega)]
   show br false _ _=_
   rw[gx,aM (by omega)]
 ·unfold Aw;rw[hlen,bu (by omega)]
theorem GQ (a b:Nat):ma (a:Int) (b:Int)=((max a b:Nat):Int):=by
 unfold ma; split<;>omega
theorem E9 (n x1:Nat) (l2:List Nat) (hn:2 ^ 200<n):F4 n x1 l2=some true:=by
 have hbig:(2:Nat) ^ 200=1606938044258990275541962092341162602522202993782792835301376:=by decide
 have hx:x1%4<4:=Nat.mod_lt _ (by decide)
 obtain⟨M,e1,e2,hM⟩:=BO l2 (show 1≤1+x1%4 by omega) (by omega)
 obtain⟨c,nx,f1,hc⟩:=xT hn hM;have h1:=hM.len.1;have h60:=hM.len.2;have hlen:(ints c).length=M.length:=by rw[vK,hc.len]
 have c0:c.getD 0 0=0:=by
  rcases hc.new 0 (by omega) with h|⟨b,h,_⟩
  ·exact h
  ·omega
 have g0:=hZ (c:=c) (i:=0) (by rw[hc.len]; omega)
 rw[c0] at g0;have h:=cq (body:=zS n (ints c) (dS M)) M.length (fun(s:Nat) (v:Int)=>((s:Int),v)) (fun _=>(.inr ():Unit ⊕ Unit)) (fun i s=>(∀a,a<i→c.getD a 0≤s)∧s≤60) (fun s i hi hs=>?_) (fun s _=>?_) (n:=n) (s:=0) ⟨fun a ha=>absurd ha (by omega),by omega⟩ (by omega)
 ·obtain⟨_,h,_⟩:=h;unfold F4;rw[show KI n=some true from rfl,ar,Bool.not_true,gx,Ik n x1 l2 (by omega),ar,e1,f1,ar]
  dsimp only
  rw[decide_eq_true rfl,Bool.not_true,gx,hlen,bL,decide_eq_true rfl,Bool.not_true,gx,show(0:Int)=((0:Nat):Int) from rfl,aK (by omega),bw,Int.toNat_natCast,g0,ar,decide_eq_true rfl,Bool.not_true,ar,gx,show cT (zS n (ints c) (dS M)) n (((0:Nat):Int),((0:Nat):Int))=_ from h]
  rfl
 ·have hil:i<c.length:=by rw[hc.len]; exact hi
  have ci:=hZ hil;have hle:c.getD i 0≤s+1:=by
   rcases hc.new i hi with h|⟨b,h1,h2⟩
   ·omega
   ·have:=hs.1 b h1; omega
  have hbd:c.getD i 0<60:=by have:=hc.lt i hi; have:=hc.nx; omega
  refine⟨max s (c.getD i 0),?_,fun a ha=>?_,by have:=hs.2; omega⟩
  ·unfold zS
   dsimp only
   rw[hlen,bz (by omega),aK hi,bw,Int.toNat_natCast,ci,ar,bu (by omega),bw,aM (by have:=hs.2; omega),decide_eq_false (by omega),ar,gx,bw,ar,EB hn hM hc hi]
   show some _=_
   rw[GQ,aM (by omega)]
  ·by_cases e:a=i
   ·subst e; omega
   ·have:=hs.1 a (by omega); omega
 ·unfold zS
  dsimp only
  rw[hlen,bu (by omega)]
end
end Go.Proofs.YtpkadoocdgdcfaaGreatDoor
end

section
namespace Go.Proofs.YtpkadoocdgdcfaaGreatDoor
set_option maxRecDepth 100000
open Go
theorem Ir:(Rows.kernelClassesRow.inPlace == Tryz.checked.prog.inPlace 4)=true:=by kernel_rfl
theorem HU:(Rows.kernelClassesRow.unfollowed == Tryz.checked.prog.unfollowed 4)=true:=by kernel_rfl
theorem Hl:(Rows.kernelClassesRow.recurses == Tryz.checked.prog.recurses 4)=true:=by kernel_rfl
theorem HW:(Rows.kernelClassesRow.named == Tryz.checked.prog.varsNamed 4)=true:=by kernel_rfl
theorem EA:joinedFacts Tryz.checked.prog 4 Tryz.f4 Rows.kernelClassesSpec Rows.kernelClassesRow=true:=by
 unfold joinedFacts;rw[Ir,HU,Hl,HW]
 kernel_rfl
theorem Il:false=Tryz.checked.prog.looks []:=by kernel_rfl
theorem GG:false=Rows.kernelClassesRow.goesBy Tryz.checked.prog:=by kernel_rfl
end Go.Proofs.YtpkadoocdgdcfaaGreatDoor
end
