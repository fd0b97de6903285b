/- A part of the proof. -/
import Derived.Test.YtookeaakpiefjaaGreatDoorTr6
import Derived.Lib.Mul64
section
namespace Go.Ab.T30
def Nb (E:List (Nat × Nat)) (x y:Nat):Prop:=(x,y) ∈ E∨(y,x) ∈ E
inductive Cn (E:List (Nat × Nat)) (i:Nat):Nat→Prop
 | refl:Cn E i i
 | step {j k:Nat}:Cn E i j→Nb E j k→Cn E i k
section
variable {E E' : List (Nat × Nat)} {i j k x y : Nat}
theorem Nb.symm (h:Nb E x y):Nb E y x:=h.elim .inr .inl
theorem Cn.trans (h:Cn E i j) (h':Cn E j k):Cn E i k:=by
 induction h' with
 | refl=>exact h
 | step _ a ih=>exact .step ih a
theorem Cn.one (h:Nb E x y):Cn E x y:=.step .refl h
theorem Cn.symm (h:Cn E i j):Cn E j i:=by
 induction h with
 | refl=>exact .refl
 | step _ a ih=>exact(Cn.one a.symm).trans ih
theorem Nb.mono (hs:∀e ∈ E,e ∈ E') (h:Nb E x y):Nb E' x y:=h.elim (fun h=>.inl (hs _ h)) fun h=>.inr (hs _ h)
theorem Cn.mono (hs:∀e ∈ E,e ∈ E') (h:Cn E i j):Cn E' i j:=by
 induction h with
 | refl=>exact .refl
 | step _ a ih=>exact .step ih (a.mono hs)
theorem Cn.closed {Q:Nat→Prop} (h:Cn E i j) (hi:Q i) (hc:∀x y,Q x→Nb E x y→Q y):Q j:=by
 induction h with
 | refl=>exact hi
 | step _ a ih=>exact hc _ _ ih a
theorem MI:Cn [] i j↔i=j:=⟨fun h=>h.closed (Q:=fun j=>i=j) rfl fun _ _ _ h=>by rcases h with h|h<;>simp at h,fun h=>h ▸ .refl⟩
theorem Lk {a b:Nat}:Cn ((a,b)::E) i j↔Cn E i j∨(Cn E i a∧Cn E b j)∨(Cn E i b∧Cn E a j):=by
 constructor
 ·intro h;refine h.closed (Q:=fun j=>Cn E i j∨(Cn E i a∧Cn E b j)∨(Cn E i b∧Cn E a j)) (.inl .refl) fun x y hx hn=>?_;have old:Nb E x y→Cn E i y∨(Cn E i a∧Cn E b y)∨(Cn E i b∧Cn E a y):=fun hn=>by
   rcases hx with h|⟨h1,h2⟩|⟨h1,h2⟩
   ·exact .inl (.step h hn)
   ·exact .inr (.inl ⟨h1,.step h2 hn⟩)
   ·exact .inr (.inr ⟨h1,.step h2 hn⟩)
  rcases hn with hn|hn
  ·rcases List.mem_cons.1 hn with e|hn
   ·cases e;rcases hx with h|⟨h1,h2⟩|⟨h1,h2⟩
    ·exact .inr (.inl ⟨h,.refl⟩)
    ·exact .inr (.inl ⟨h1,.refl⟩)
    ·exact .inl h1
   ·exact old (.inl hn)
  ·rcases List.mem_cons.1 hn with e|hn
   ·cases e;rcases hx with h|⟨h1,h2⟩|⟨h1,h2⟩
    ·exact .inr (.inr ⟨h,.refl⟩)
    ·exact .inl h1
    ·exact .inr (.inr ⟨h1,.refl⟩)
   ·exact old (.inr hn)
 ·have up:∀{x y},Cn E x y→Cn ((a,b)::E) x y:=fun h=>h.mono fun e he=>by simp[he]
  have ab:Cn ((a,b)::E) a b:=.one (.inl (by simp))
  rintro(h|⟨h1,h2⟩|⟨h1,h2⟩)
  ·exact up h
  ·exact((up h1).trans ab).trans (up h2)
  ·exact((up h1).trans ab.symm).trans (up h2)
theorem Kk (h:∀e,e ∈ E↔e ∈ E'):Cn E i j↔Cn E' i j:=⟨fun g=>g.mono fun e he=>(h e).1 he,fun g=>g.mono fun e he=>(h e).2 he⟩
def bN (r:Nat→Nat) (e:Nat × Nat):Nat→Nat:=fun x=>if r x=max (r e.1) (r e.2) then min (r e.1) (r e.2) else r x
structure Rt (r:Nat→Nat) (E:List (Nat × Nat)):Prop where
 le:∀x,r x≤x
 rr:∀x,r (r x)=r x
 cn:∀x y,r x=r y↔Cn E x y
theorem Rt.id:Rt (fun x=>x) []:=⟨fun _=>Nat.le_refl _,fun _=>rfl,fun _ _=>MI.symm⟩
theorem nG {r:Nat→Nat} {e:Nat × Nat} (h:r e.1=r e.2):bN r e=r:=by
 funext x
 simp only[bN,h,Nat.max_self,Nat.min_self]
 split
 ·rename_i h; exact h.symm
 ·rfl
theorem Rt.join {r:Nat→Nat} (h:Rt r E) (e:Nat × Nat):Rt (bN r e) (e::E):=by
 obtain⟨a,b⟩:=e;have hmin:∀x,bN r (a,b) x≤r x:=fun x=>by
  simp only[bN]; split<;>omega
 have hm1:r (min (r a) (r b))=min (r a) (r b):=by
  rcases Nat.le_total (r a) (r b) with h1|h1
  ·rw[Nat.min_eq_left h1,h.rr]
  ·rw[Nat.min_eq_right h1,h.rr]
 refine⟨fun x=>Nat.le_trans (hmin x) (h.le x),fun x=>?_,fun x y=>?_⟩
 ·simp only[bN]
  by_cases h1:r x=max (r a) (r b)
  ·rw[if_pos h1,hm1]
   split<;>omega
  ·rw[if_neg h1,h.rr,if_neg h1]
 ·rw[Lk,←h.cn,←h.cn,←h.cn,←h.cn,←h.cn];simp only[bN];have h2:max (r a) (r b)=r a∧min (r a) (r b)=r b∨max (r a) (r b)=r b∧min (r a) (r b)=r a:=by omega
  split<;>split<;>omega
theorem Rt.Qh:∀{T E:List (Nat × Nat)} {r:Nat→Nat},Rt r E→Rt (T.foldl bN r) (T.reverse++E):=by
 intro T
 induction T with
 | nil=>intro E r h; exact h
 | cons e T ih =>
  intro E r h;have:=ih (h.join e);rwa[List.foldl_cons,List.reverse_cons,List.append_assoc]
def rep (T:List (Nat × Nat)):Nat→Nat:=T.foldl bN (fun x=>x)
theorem vV (T:List (Nat × Nat)):Rt (rep T) T.reverse:=by
 have:=Rt.Qh (T:=T) Rt.id;rwa[List.append_nil] at this
theorem xh {T:List (Nat × Nat)}:rep T x=rep T y↔Cn T x y:=((vV T).cn x y).trans (Kk fun e=>List.mem_reverse)
def jx (V:List Nat) (r:Nat→Nat):Nat:=(V.filter fun v=>r v == v).length
theorem kU {p q:Nat→Bool} {a:Nat}:∀{V:List Nat},V.Nodup→a ∈ V→p a=true→(∀v,q v=true↔p v=true∧v≠a)→(V.filter p).length=(V.filter q).length+1:=by
 intro V
 induction V with
 | nil=>intro _ h; cases h
 | cons v V ih =>
  intro hn ha hp hq;rw[List.nodup_cons] at hn
  by_cases e:v=a
  ·subst e;have hqa:q v=false:=by
    cases h:q v with
    | false=>rfl
    | true=>exact absurd rfl ((hq v).1 h).2
   rw[List.filter_cons_of_pos hp,List.filter_cons_of_neg (by simp[hqa]),List.length_cons]
   congr 2
   refine List.filter_congr fun x hx=>?_;have hne:x≠v:=fun e=>hn.1 (e ▸ hx);have:=hq x;cases h1:p x<;>cases h2:q x<;>simp_all
  ·have ha':a ∈ V:=by rcases List.mem_cons.1 ha with h|h; exact absurd h.symm e; exact h
   have:=ih hn.2 ha' hp hq;have hv:q v=p v:=by
    have:=hq v;cases h1:p v<;>cases h2:q v<;>simp_all
   by_cases h1:p v=true
   ·rw[List.filter_cons_of_pos h1,List.filter_cons_of_pos (by rw[hv]; exact h1),List.length_cons,List.length_cons,this]
   ·rw[List.filter_cons_of_neg h1,List.filter_cons_of_neg (by rw[hv]; exact h1),this]
theorem A0 {V:List Nat} {r:Nat→Nat} {e:Nat × Nat} (hV:V.Nodup) (hr:∀x,r (r x)=r x) (h1:r e.1 ∈ V) (h2:r e.2 ∈ V) (hne:r e.1≠r e.2):jx V r=jx V (bN r e)+1:=by
 have hm:max (r e.1) (r e.2) ∈ V:=by
  rcases Nat.le_total (r e.1) (r e.2) with h|h
  ·rwa[Nat.max_eq_right h]
  ·rwa[Nat.max_eq_left h]
 have hrm:r (max (r e.1) (r e.2))=max (r e.1) (r e.2):=by
  rcases Nat.le_total (r e.1) (r e.2) with h|h
  ·rw[Nat.max_eq_right h,hr]
  ·rw[Nat.max_eq_left h,hr]
 refine kU (a:=max (r e.1) (r e.2)) hV hm (by simp only[beq_iff_eq]; exact hrm) fun v=>?_
 simp only[beq_iff_eq,bN];constructor
 ·intro h
  split at h
  ·rename_i h3;exfalso;have h4:r v=v:=by rw[←h] at h3 ⊢; rcases Nat.le_total (r e.1) (r e.2) with h|h<;>simp only[Nat.min_eq_left h,Nat.min_eq_right h,hr]
   omega
  ·rename_i h3; exact⟨h,fun e=>h3 (by rw[e,hrm])⟩
 ·rintro⟨h,h3⟩;rw[if_neg (by rw[h]; exact h3)]; exact h
def nV (r:Nat→Nat):List (Nat × Nat)→Nat
 | []=>0
 | e::T=>(if r e.1=r e.2 then 0 else 1)+nV (bN r e) T
def aY (r:Nat→Nat):List (Nat × Nat)→Bool
 | []=>true
 | e::T=>!(r e.1 == r e.2) && aY (bN r e) T
theorem tJ:∀(T:List (Nat × Nat)) (r:Nat→Nat),nV r T≤T.length
 | [],_=>Nat.le_refl _
 | e::T,r=>by
  have:=tJ T (bN r e);simp only[nV,List.length_cons]
  split<;>omega
theorem qa:∀(T:List (Nat × Nat)) (r:Nat→Nat),nV r T=T.length↔aY r T=true
 | [],_=>by simp[nV,aY]
 | e::T,r=>by
  have h1:=tJ T (bN r e);have h2:=qa T (bN r e);simp only[nV,List.length_cons,aY,Bool.and_eq_true,Bool.not_eq_true',beq_eq_false_iff_ne,ne_eq]
  by_cases h:r e.1=r e.2
  ·rw[if_pos h]; simp[h]; omega
  ·rw[if_neg h,←h2]; simp[h]; omega
theorem qb {V:List Nat} (hV:V.Nodup):∀(T:List (Nat × Nat)) {E:List (Nat × Nat)} {r:Nat→Nat},Rt r E→(∀x ∈ V,r x ∈ V)→(∀e ∈ T,e.1 ∈ V∧e.2 ∈ V)→jx V r=jx V (T.foldl bN r)+nV r T∧∀x ∈ V,T.foldl bN r x ∈ V
 | [],_,_,_,hv,_=>⟨rfl,hv⟩
 | e::T,E,r,h,hv,ht=>by
  have he:=ht e (by simp)
  have hv':∀x ∈ V,bN r e x ∈ V:=fun x hx=>by
   simp only[bN]
   split
   ·rcases Nat.le_total (r e.1) (r e.2) with h|h
    ·rw[Nat.min_eq_left h]; exact hv _ he.1
    ·rw[Nat.min_eq_right h]; exact hv _ he.2
   ·exact hv x hx
  have ih:=qb hV T (h.join e) hv' fun e he=>ht e (by simp[he])
  refine⟨?_,ih.2⟩;rw[List.foldl_cons];simp only[nV]
  by_cases hne:r e.1=r e.2
  ·rw[if_pos hne,Nat.zero_add,←ih.1,nG hne]
  ·rw[if_neg hne,A0 hV h.rr (hv _ he.1) (hv _ he.2) hne,ih.1]; omega
theorem Hh (V:List Nat):jx V (fun x=>x)=V.length:=by simp[jx]
theorem jw {V:List Nat} (hV:V.Nodup) {T:List (Nat × Nat)} (ht:∀e ∈ T,e.1 ∈ V∧e.2 ∈ V):V.length=jx V (rep T)+nV (fun x=>x) T∧∀x ∈ V,rep T x ∈ V:=by
 have:=qb hV T Rt.id (fun x h=>h) ht;rwa[Hh] at this
theorem ue {p:Nat→Bool}:∀{V:List Nat},V.Nodup→(∀i j,i ∈ V→j ∈ V→p i=true→p j=true→i=j)→(V.filter p).length≤1:=by
 intro V
 induction V with
 | nil=>intro _ _; exact Nat.zero_le _
 | cons v V ih =>
  intro hn h;rw[List.nodup_cons] at hn
  by_cases hp:p v=true
  ·rw[List.filter_cons_of_pos hp];have:V.filter p = []:=List.filter_eq_nil_iff.2 fun x hx hpx=>hn.1 ((h v x (by simp) (by simp[hx]) hp hpx) ▸ hx)
   rw[this]; exact Nat.le_refl _
  ·rw[List.filter_cons_of_neg hp];exact ih hn.2 fun i j hi hj=>h i j (by simp[hi]) (by simp[hj])
theorem Er {V:List Nat} (hV:V.Nodup) {T:List (Nat × Nat)} (ht:∀e ∈ T,e.1 ∈ V∧e.2 ∈ V):jx V (rep T)≤1↔∀x ∈ V,∀y ∈ V,Cn T x y:=by
 have hr:=vV T;have hv:=(jw hV ht).2;constructor
 ·intro h x hx y hy;rw[←xh];have hmem:∀z ∈ V,rep T z ∈ V.filter fun v=>rep T v == v:=fun z hz=>List.mem_filter.2 ⟨hv z hz,by simp only[beq_iff_eq]; exact hr.rr z⟩
  have one:∀{l:List Nat} {a b:Nat},l.length≤1→a ∈ l→b ∈ l→a=b:=by
   intro l a b hl ha hb
   match l with
   | []=>cases ha
   | [c]=>rw[List.mem_singleton.1 ha,List.mem_singleton.1 hb]
   | _::_::_=>simp at hl
  exact one h (hmem x hx) (hmem y hy)
 ·intro h;refine ue hV fun i j hi hj h1 h2=>?_;have:=xh.2 (h i hi j hj);rw[←eq_of_beq h1,←eq_of_beq h2,this]
theorem Es {V:List Nat} (hV:V.Nodup) {T:List (Nat × Nat)} (ht:∀e ∈ T,e.1 ∈ V∧e.2 ∈ V) {x:Nat} (hx:x ∈ V):0<jx V (rep T) :=
 List.length_pos_of_mem (List.mem_filter.2 ⟨(jw hV ht).2 x hx,by simp only[beq_iff_eq]; exact(vV T).rr x⟩)
theorem FK {V:List Nat} (hV:V.Nodup) {T:List (Nat × Nat)} (ht:∀e ∈ T,e.1 ∈ V∧e.2 ∈ V) {x:Nat} (hx:x ∈ V) (hl:T.length+1=V.length):aY (fun x=>x) T=true↔∀y ∈ V,Cn T x y:=by
 have h1:=(jw hV ht).1;have h2:=tJ T fun x=>x;have h3:=Es hV ht hx;rw[←qa];have:jx V (rep T)≤1↔∀y ∈ V,Cn T x y:=(Er hV ht).trans ⟨fun h y hy=>h x hx y hy,fun h y hy z hz=>(h y hy).symm.trans (h z hz)⟩;rw[←this];omega
end
end Go.Ab.T30
end
section
namespace Go.Ab.W
open Go Go.Ab
theorem Rs:uM .u64=2 ^ 64:=rfl
theorem iy {a:Nat} (h:a<2 ^ 64):uw .u64 a=a:=Nat.mod_eq_of_lt h
theorem oX {a:Nat} (h:a<2 ^ 64) {i:Nat} (hi:a.testBit i=true):i<64:=by
 rcases Nat.lt_or_ge i 64 with h1|h1
 ·exact h1
 ·have:a<2 ^ i:=Nat.lt_of_lt_of_le h (Nat.pow_le_pow_right (by decide) h1)
  rw[Nat.testBit_lt_two_pow this] at hi; cases hi
theorem yf {a b:Nat} (ha:a<2 ^ 64) (hb:b<2 ^ 64):uw .u64 (uw .u64 a &&& uw .u64 b)=a &&& b:=by
 rw[iy ha,iy hb,iy (Nat.lt_of_le_of_lt Nat.and_le_left ha)]
theorem re {a b:Nat} (ha:a<2 ^ 64) (hb:b<2 ^ 64):uw .u64 (uw .u64 a ||| uw .u64 b)=a ||| b:=by
 rw[iy ha,iy hb,iy (Nat.or_lt_two_pow ha hb)]
theorem Lp {a b:Nat} (ha:a<2 ^ 64):a &&& b<2 ^ 64:=Nat.lt_of_le_of_lt Nat.and_le_left ha
theorem wY {a b:Nat} (ha:a<2 ^ 64) (hb:b<2 ^ 64):a ||| b<2 ^ 64:=Nat.or_lt_two_pow ha hb
theorem IF {k:Nat} (h:k<64):gz .u64 1 k=2 ^ k:=by
 unfold gz;rw[Nat.min_eq_left (Nat.le_of_lt (show k<IntKind.bits .u64 from h)),Nat.one_mul]
 exact iy (Nat.pow_lt_pow_right (by decide) h)
theorem kg {k:Nat} (h:k<64):2 ^ k<2 ^ 64:=Nat.pow_lt_pow_right (by decide) h
theorem tv (k i:Nat):(2 ^ k).testBit i=decide (i=k):=by
 rw[Nat.testBit_two_pow]
 by_cases h:k=i
 ·simp[h]
 ·simp[h,Ne.symm h]
theorem HV {k:Int} (h0:0≤k) (h1:k<64):ui .u64 k=k.toNat:=by
 unfold ui;rw[Int.emod_eq_of_lt h0 (by rw[Rs]; omega)]
theorem fb {a k:Nat} (h:k≤64):bH .u64 a k=a >>> k:=by
 unfold bH;rw[Nat.min_eq_left (show k≤IntKind.bits .u64 from h),Nat.shiftRight_eq_div_pow]
theorem wF {a k:Nat} (ha:a<2 ^ 64) (h:k≤64):decide (uw .u64 (uw .u64 (bH .u64 a k) &&& uw .u64 1)=1)=a.testBit k:=by
 have hs:a >>> k<2 ^ 64:=Nat.lt_of_le_of_lt (by rw[Nat.shiftRight_eq_div_pow]; exact Nat.div_le_self _ _) ha
 rw[fb h,yf hs (by decide),Nat.testBit]
 rw[Nat.and_comm];have h2:1 &&& a >>> k=(a >>> k)%2:=by rw[Nat.and_comm,Nat.and_one_is_mod]
 rw[h2];rcases Nat.mod_two_eq_zero_or_one (a >>> k) with h3|h3<;>rw[h3]<;>rfl
theorem tt {a b:Nat} (h:∀i,a.testBit i=true↔b.testBit i=true):a=b:=Nat.eq_of_testBit_eq fun i=>by
 have:=h i;cases ha:a.testBit i<;>cases hb:b.testBit i<;>simp_all
theorem nd {x:Nat} (h0:0<x) (h1:x<2 ^ 64):x.testBit (tz x)=true∧∀i,i<tz x→x.testBit i=false:=by
 obtain⟨h2,_,q,hq⟩:=sN h0 h1;have key:∀i,x.testBit i=(decide (tz x≤i) && (2*q+1).testBit (i-tz x)):=fun i=>by
  conv=>lhs; rw[hq]
  rw[Nat.testBit_two_pow_mul]
 refine⟨?_,fun i hi=>?_⟩
 ·rw[key,Nat.sub_self];simp[Nat.testBit_zero]
 ·rw[key,decide_eq_false (by omega)]; rfl
section
variable {σ ρ τ : Type}
theorem Ln {α:Type} {body:τ→Option (τ ⊕ ρ)} (l:List α) (mk:σ→Int→τ) (step:σ→α→σ) (fin:σ→ρ) (I:Nat→σ→Prop)
  (hs:∀s i x,l[i]? = some x→I i s→body (mk s (i:Int))=some (.inl (mk (step s x) ((i+1:Nat):Int)))∧I (i+1) (step s x)) (he:∀s,I l.length s→body (mk s (l.length:Int))=some (.inr (fin s))) :
  ∀(k i n:Nat) (s:σ),i+k=l.length→I i s→k<n→bE body n (mk s (i:Int))=some (fin ((l.drop i).foldl step s))∧I l.length ((l.drop i).foldl step s):=by
 intro k
 induction k with
 | zero =>
  intro i n s hi hI hn;obtain⟨n,rfl⟩:∃n',n=n'+1:=⟨n-1,by omega⟩
  have:i=l.length:=by omega
  subst this;rw[List.drop_length];exact⟨by simp only[bE,he s hI,List.foldl_nil],hI⟩
 | succ k ih =>
  intro i n s hi hI hn;obtain⟨n,rfl⟩:∃n',n=n'+1:=⟨n-1,by omega⟩
  have hlt:i<l.length:=by omega
  obtain⟨h1,h2⟩:=hs s i l[i] (List.getElem?_eq_getElem hlt) hI;rw[List.drop_eq_getElem_cons hlt,List.foldl_cons];simp only[bE,h1];exact ih (i+1) n _ (by omega) h2 (by omega)
theorem AA {α:Type} {body:τ→Option (τ ⊕ ρ)} (l:List α) (mk:σ→Int→τ) (step:σ→α→σ) (fin:σ→ρ) (I:Nat→σ→Prop)
  (hs:∀s i x,l[i]? = some x→I i s→body (mk s (i:Int))=some (.inl (mk (step s x) ((i+1:Nat):Int)))∧I (i+1) (step s x)) (he:∀s,I l.length s→body (mk s (l.length:Int))=some (.inr (fin s)))
  {n:Nat} {s:σ} (hI:I 0 s) (hn:l.length<n):bE body n (mk s 0)=some (fin (l.foldl step s))∧I l.length (l.foldl step s):=by
 have:=Ln l mk step fin I hs he l.length 0 n s (by omega) hI hn
 simpa using this
theorem KH {body:τ→Option (τ ⊕ ρ)} (N:Nat) (mk:σ→Int→τ) (step:σ→Nat→σ) (fin:σ→ρ) (I:Nat→σ→Prop)
  (hs:∀s i,i<N→I i s→body (mk s (i:Int))=some (.inl (mk (step s i) ((i+1:Nat):Int)))∧I (i+1) (step s i)) (he:∀s,I N s→body (mk s (N:Int))=some (.inr (fin s)))
  {n:Nat} {s:σ} (hI:I 0 s) (hn:N<n):bE body n (mk s 0)=some (fin ((List.range N).foldl step s))∧I N ((List.range N).foldl step s):=by
 have:=AA (List.range N) mk step fin I (fun s i x hx hI=>by
  have hlt:=(List.getElem?_eq_some_iff.1 hx).1;have hx':x=i:=by rw[List.getElem?_eq_getElem hlt] at hx; simp at hx; exact hx.symm
  subst hx';exact hs s x (by simpa using hlt) hI) (by simpa using he) hI (by simpa using hn)
 simpa using this
end
end Go.Ab.W
end
section
namespace Go.Proofs.YtookeaakpiefjaaGreatDoor
open Go Go.Ab Go.Ab.W
section
variable {α β σ ρ : Type}
theorem bm (a b:Option β):br true a b=a:=rfl
theorem bu (a b:Option β):br false a b=b:=rfl
theorem az (a:Option β):gd true a=a:=rfl
theorem ah (x:α) (f:α→Option β):ob (some x) f=f x:=rfl
theorem aL {p:Prop} [Decidable p] (h:p) (a b:Option β):br (decide p) a b=a:=by rw[decide_eq_true h]; rfl
theorem aJ {p:Prop} [Decidable p] (h:¬p) (a b:Option β):br (decide p) a b=b:=by rw[decide_eq_false h]; rfl
theorem xa (c:Bool) (a b:Option β):br c a b=if c then a else b:=by cases c<;>rfl
theorem cy {p:Prop} [Decidable p] (h:p) (a:Option β):gd (decide p) a=a:=by rw[decide_eq_true h]; rfl
theorem al {i n:Nat} (h:i<n):bz (i:Int) n=true:=decide_eq_true ⟨Int.natCast_nonneg i,by simpa using h⟩
theorem aE {x:Int} (h1 : -9223372036854775808≤x) (h2:x<9223372036854775808):IntKind.wrap .i64 x=x:=wrap_i64 x h1 (by omega)
theorem aD {i:Nat} (h:i<4611686018427387904):IntKind.wrap .i64 ((i:Int)+1)=((i+1:Nat):Int):=by rw[aE (by omega) (by omega)]; rfl
theorem aA {body:σ→Option (σ ⊕ ρ)} {n:Nat} {s s':σ} (h:body s=some (.inl s')):bE body (n+1) s=bE body n s':=by simp only[bE,h]
theorem aN {body:σ→Option (σ ⊕ ρ)} {n:Nat} {s:σ} {r:ρ} (h:body s=some (.inr r)):bE body (n+1) s=some r:=by simp only[bE,h]
end
def mC (N:Int):Int × Int→List (Int × Int)→Bool
 | _,[]=>true
 | p,e::es=>decide (0≤e.1∧e.1<e.2∧e.2<N) && decide (p.1<e.1∨p.1=e.1∧p.2<e.2) && mC N e es
def kB (N:Int) (es:List (Int × Int)):Bool:=decide (1≤N∧N≤64∧es.length≤200) && mC N (-1,-1) es
def DV (N:Int) (es:List (Int × Int)):Int:=if kB N es then 0 else 180
theorem LB (n:Nat) (x:Int):Ev n x=some false:=by unfold Ev; simp
theorem DP (n:Nat) (x y:Int):Gw n x y=some (if x<y then -1 else if y<x then 1 else 0):=by
 unfold Gw;simp only[LB,ah,bu];rw[xa,xa]
 by_cases h:x<y
 ·simp[h]
 ·by_cases h':y<x<;>simp[h,h']
theorem Je (n:Nat) (a b c d:Int) (hn:2<n):Iu n [a,b] [c,d]=some (if a<c then -1 else if c<a then 1 else if b<d then -1 else if d<b then 1 else 0):=by
 obtain⟨n,rfl⟩:∃n',n=n'+3:=⟨n-3,by omega⟩
 have L0:la (n+3) [a,b] [c,d] 0=if a<c then some (.inr (.inl (-1))) else if c<a then some (.inr (.inl 1)) else some (.inl 1):=by
  unfold la;simp only[List.length_cons,List.length_nil];rw[aL (by decide),show bz 0 (0+1+1)=true by decide,az]
  simp only[Int.toNat_zero,List.getElem?_cons_zero,ah];rw[aJ (by decide),az]
  simp only[DP,ah]
  by_cases h:a<c
  ·simp[h,bm]
  ·by_cases h':c<a
   ·simp[h,h',bm]
   ·simp only[h,h',if_false,decide_true,Bool.not_true,bu];rw[aE (by decide) (by decide)]; rfl
 have L1:la (n+3) [a,b] [c,d] 1=if b<d then some (.inr (.inl (-1))) else if d<b then some (.inr (.inl 1)) else some (.inl 2):=by
  unfold la;simp only[List.length_cons,List.length_nil];rw[aL (by decide),show bz 1 (0+1+1)=true by decide,az]
  simp only[show(1:Int).toNat=1 from rfl,List.getElem?_cons_succ,List.getElem?_cons_zero,ah]
  rw[aJ (by decide),az]
  simp only[DP,ah]
  by_cases h:b<d
  ·simp[h,bm]
  ·by_cases h':d<b
   ·simp[h,h',bm]
   ·simp only[h,h',if_false,decide_true,Bool.not_true,bu];rw[aE (by decide) (by decide)]; rfl
 have L2:la (n+3) [a,b] [c,d] 2=some (.inr (.inr ())):=by
  unfold la;simp only[List.length_cons,List.length_nil];rw[aJ (by decide)]
 unfold Iu
 by_cases h1:a<c
 ·rw[if_pos h1] at L0 ⊢;rw[aN L0]; rfl
 ·rw[if_neg h1] at L0 ⊢
  by_cases h2:c<a
  ·rw[if_pos h2] at L0 ⊢;rw[aN L0]; rfl
  ·rw[if_neg h2] at L0 ⊢;rw[aA L0]
   by_cases h3:b<d
   ·rw[if_pos h3] at L1 ⊢;rw[aN L1]; rfl
   ·rw[if_neg h3] at L1 ⊢
    by_cases h4:d<b
    ·rw[if_pos h4] at L1 ⊢;rw[aN L1]; rfl
    ·rw[if_neg h4] at L1 ⊢;rw[aA L1,aN L2,ah];simp only[List.length_cons,List.length_nil]
     rfl
def bC (N:Int) (p e:Int × Int):Bool:=decide (0≤e.1∧e.1<e.2∧e.2<N) && decide (p.1<e.1∨p.1=e.1∧p.2<e.2)
theorem hJ (N:Int) (p e:Int × Int) (es:List (Int × Int)):mC N p (e::es)=(bC N p e && mC N e es):=rfl
theorem EO (n:Nat) (l2:List (Int × Int)) (N:Int) (p:Int × Int) (i:Nat) (e:Int × Int) (hn:2<n) (hi:l2[i]? = some e) (hb:i<4611686018427387904) :
  nC n l2 N (p.1,p.2,(i:Int))=if bC N p e then some (.inl (e.1,e.2,((i+1:Nat):Int))) else some (.inr (.inl ())):=by
 obtain⟨p1,p2⟩:=p;obtain⟨a,b⟩:=e;have a1:i<l2.length:=(List.getElem?_eq_some_iff.1 hi).1;have e1:l2[((i:Nat):Int).toNat]? = some (a,b):=by simpa using hi
 have c1:decide (((i:Nat):Int)<(l2.length:Int))=true:=decide_eq_true (by omega)
 simp only[nC,c1,bm,al a1,az,e1,ah,Je n _ _ _ _ hn,aD hb]
 by_cases h1:a<0
 ·have:bC N (p1,p2) (a,b)=false:=by simp[bC]; omega
  rw[this,aL h1,ah,bm]; rfl
 ·rw[aJ h1]
  by_cases h2:b≤a
  ·have:bC N (p1,p2) (a,b)=false:=by simp[bC]; omega
   rw[this,aL h2,ah,bm]; rfl
  ·rw[aJ h2]
   by_cases h3:N≤b
   ·have:bC N (p1,p2) (a,b)=false:=by simp[bC]; omega
    rw[this,aL h3,ah,bm]; rfl
   ·rw[aJ h3,ah]
    by_cases h4:p1<a∨p1=a∧p2<b
    ·have:bC N (p1,p2) (a,b)=true:=by simp[bC]; omega
     have h5:¬(0≤(if p1<a then(-1:Int) else if a<p1 then 1 else if p2<b then -1 else if b<p2 then 1 else 0)):=by
      rcases h4 with h4|⟨h4,h5⟩
      ·rw[if_pos h4]; decide
      ·rw[if_neg (by omega),if_neg (by omega),if_pos h5]; decide
     rw[this,aJ h5]; rfl
    ·have:bC N (p1,p2) (a,b)=false:=by simp[bC]; omega
     have h5:0≤(if p1<a then(-1:Int) else if a<p1 then 1 else if p2<b then -1 else if b<p2 then 1 else 0):=by
      rw[if_neg (by omega)]
      by_cases h6:a<p1
      ·rw[if_pos h6]; decide
      ·rw[if_neg h6,if_neg (by omega)]; split<;>decide
     rw[this,aL h5]; rfl
theorem Lb (n0:Nat) (l2:List (Int × Int)) (N:Int) (hn:2<n0) (hl:l2.length<4611686018427387904):∀k i p n,i+k=l2.length→k<n→bE (nC n0 l2 N) n (p.1,p.2,(i:Int))=some (if mC N p (l2.drop i) then .inr () else .inl ()):=by
 intro k
 induction k with
 | zero =>
  intro i p n hi hk;obtain⟨n,rfl⟩:∃n',n=n'+1:=⟨n-1,by omega⟩
  rw[List.drop_of_length_le (by omega)]
  exact aN (by simp only[nC]; rw[aJ (by omega)]; rfl)
 | succ k ih =>
  intro i p n hi hk;obtain⟨n,rfl⟩:∃n',n=n'+1:=⟨n-1,by omega⟩
  have a1:i<l2.length:=by omega
  have hs:=EO n0 l2 N p i l2[i] hn (by simp[a1]) (by omega)
  rw[List.drop_eq_getElem_cons a1,hJ]
  by_cases h:bC N p l2[i]=true
  ·rw[if_pos h] at hs;rw[aA hs,ih (i+1) l2[i] n (by omega) (by omega),h,Bool.true_and]
  ·rw[if_neg h] at hs;rw[aN hs];simp only[Bool.not_eq_true] at h;rw[h]; rfl
theorem head_eq (N:Int) (len:Nat):(br (decide (N<1)) (some true) (br (decide (64<N)) (some true) (some (decide (200<(len:Int))))))=some (!decide (1≤N∧N≤64∧len≤200)):=by
 rw[xa,xa]
 by_cases h1:N<1
 ·have:¬(1≤N∧N≤64∧len≤200):=by omega
  simp[h1,this]
 ·by_cases h2:64<N
  ·have:¬(1≤N∧N≤64∧len≤200):=by omega
   simp[h1,h2,this]
  ·by_cases h3:200<(len:Int)
   ·have:¬(1≤N∧N≤64∧len≤200):=by omega
    simp only[h1,h2,h3,this,decide_true,decide_false,Bool.false_eq_true,if_false,Bool.not_false]
   ·have:(1≤N∧N≤64∧len≤200):=by omega
    simp only[h1,h2,h3,this,decide_true,decide_false,Bool.false_eq_true,if_false,Bool.not_true,and_self]
theorem C8 (n:Nat) (N:Int) (es:List (Int × Int)) (hn:2<n) (hl:es.length<4611686018427387904) (hk:es.length<n):FL n N es=some (DV N es):=by
 unfold FL;rw[head_eq,ah];unfold DV kB
 by_cases h:1≤N∧N≤64∧es.length≤200
 ·rw[decide_eq_true h,Bool.not_true,bu,Bool.true_and];have:=Lb n es N hn hl es.length 0 (-1,-1) n (by omega) hk
  rw[List.drop_zero] at this;rw[show bE (nC n es N) n (-1,-1,0)=_ from this,ah]
  by_cases h2:mC N (-1,-1) es=true
  ·rw[if_pos h2,if_pos h2]
  ·rw[if_neg h2,if_neg h2]
 ·rw[decide_eq_false h,Bool.not_false,bm,Bool.false_and]; rfl
def HO (l:List (Int × Int)) (i:Nat) (p:Int × Int):Prop:=(i=0∧p=(-1,-1))∨(0<i∧l[i-1]? = some p)
theorem Gt (n:Nat) (l2:List (Int × Int)) (N:Int) (p:Int × Int) (i:Nat) (e:Int × Int) (hp:HO l2 i p) (hi:l2[i]? = some e) (hb:i<4611686018427387904) :
  tV n l2 N (i:Int)=if bC N p e then some (.inl ((i+1:Nat):Int)) else some (.inr (.inl ())):=by
 obtain⟨p1,p2⟩:=p;obtain⟨a,b⟩:=e;have a1:i<l2.length:=(List.getElem?_eq_some_iff.1 hi).1;have e1:l2[((i:Nat):Int).toNat]? = some (a,b):=by simpa using hi
 have c1:decide (((i:Nat):Int)<(l2.length:Int))=true:=decide_eq_true (by omega)
 simp only[tV,c1,bm,al a1,az,e1,ah,aD hb]
 by_cases h1:a<0
 ·have:bC N (p1,p2) (a,b)=false:=by simp[bC]; omega
  rw[this,aL h1,ah,bm]; rfl
 ·rw[aJ h1]
  by_cases h2:b≤a
  ·have:bC N (p1,p2) (a,b)=false:=by simp[bC]; omega
   rw[this,aL h2,ah,bm]; rfl
  ·rw[aJ h2,ah]
   by_cases h3:N≤b
   ·have:bC N (p1,p2) (a,b)=false:=by simp[bC]; omega
    rw[this,aL h3]; rfl
   ·rw[aJ h3];rcases hp with⟨rfl,h4⟩|⟨h0,h4⟩
    ·cases h4;have:bC N (-1,-1) (a,b)=true:=by simp[bC]; omega
     rw[this,aJ (by omega),ah,bu]; rfl
    ·have w1:IntKind.wrap .i64 ((i:Int)-1)=((i-1:Nat):Int):=by rw[aE (by omega) (by omega)]; omega
     have e2:l2[((i-1:Nat):Int).toNat]? = some (p1,p2):=by simpa using h4
     rw[aL (by omega),w1,al (by omega:i-1<l2.length),az,e2,ah]
     simp only[az]
     by_cases h5:a<p1
     ·have:bC N (p1,p2) (a,b)=false:=by simp[bC]; omega
      rw[this,aL h5,ah,bm]; rfl
     ·rw[aJ h5]
      by_cases h6:p1=a
      ·rw[aL h6,ah]
       by_cases h7:b≤p2
       ·have:bC N (p1,p2) (a,b)=false:=by simp[bC]; omega
        rw[this,aL h7]; rfl
       ·have:bC N (p1,p2) (a,b)=true:=by simp[bC]; omega
        rw[this,aJ h7]; rfl
      ·have:bC N (p1,p2) (a,b)=true:=by simp[bC]; omega
       rw[this,aJ h6,ah,bu]; rfl
theorem NJ (n0:Nat) (l2:List (Int × Int)) (N:Int) (hl:l2.length<4611686018427387904):∀k i p n,HO l2 i p→i+k=l2.length→k<n→bE (tV n0 l2 N) n (i:Int)=some (if mC N p (l2.drop i) then .inr () else .inl ()):=by
 intro k
 induction k with
 | zero =>
  intro i p n hp hi hk;obtain⟨n,rfl⟩:∃n',n=n'+1:=⟨n-1,by omega⟩
  rw[List.drop_of_length_le (by omega)]
  exact aN (by simp only[tV]; rw[aJ (by omega)]; rfl)
 | succ k ih =>
  intro i p n hp hi hk;obtain⟨n,rfl⟩:∃n',n=n'+1:=⟨n-1,by omega⟩
  have a1:i<l2.length:=by omega
  have hs:=Gt n0 l2 N p i l2[i] hp (by simp[a1]) (by omega)
  rw[List.drop_eq_getElem_cons a1,hJ]
  by_cases h:bC N p l2[i]=true
  ·rw[if_pos h] at hs;rw[aA hs,ih (i+1) l2[i] n (.inr ⟨by omega,by simp[a1]⟩) (by omega) (by omega),h,Bool.true_and]
  ·rw[if_neg h] at hs;rw[aN hs];simp only[Bool.not_eq_true] at h;rw[h]; rfl
theorem wL (n:Nat) (N:Int) (es:List (Int × Int)) (hl:es.length<4611686018427387904) (hk:es.length<n):Mj n N es=some (DV N es):=by
 unfold Mj;rw[head_eq,ah];unfold DV kB
 by_cases h:1≤N∧N≤64∧es.length≤200
 ·rw[decide_eq_true h,Bool.not_true,bu,Bool.true_and];have:=NJ n es N hl es.length 0 (-1,-1) n (.inl ⟨rfl,rfl⟩) (by omega) hk
  rw[List.drop_zero] at this;rw[show bE (tV n es N) n 0=_ from this,ah]
  by_cases h2:mC N (-1,-1) es=true
  ·rw[if_pos h2,if_pos h2]
  ·rw[if_neg h2,if_neg h2]
 ·rw[decide_eq_false h,Bool.not_false,bm,Bool.false_and]; rfl
theorem fH {σ ρ:Type} {body:σ→Option (σ ⊕ ρ)} {R:ρ→Prop} (I:Nat→σ→Prop) (h:∀k s,I k s→(∃s',body s=some (.inl s')∧∃k',k'<k∧I k' s')∨∃r,body s=some (.inr r)∧R r):∀k s n,I k s→k<n→∃r,bE body n s=some r∧R r:=by
 intro k
 induction k using Nat.strongRecOn with
 | _ k ih =>
  intro s n hI hk;obtain⟨n,rfl⟩:∃n',n=n'+1:=⟨n-1,by omega⟩
  rcases h k s hI with⟨s',h1,k',h2,h3⟩|⟨r,h1,h2⟩
  ·obtain⟨r,h4,h5⟩:=ih k' h2 s' n h3 (by omega)
   exact⟨r,by rw[aA h1]; exact h4,h5⟩
  ·exact⟨r,aN h1,h2⟩
theorem gN {c:Bool} {a b:Option Bool} (ha:c=true→∃x,a=some x) (hb:c=false→∃x,b=some x):∃x,br c a b=some x:=by
 cases c with
 | true=>exact ha rfl
 | false=>exact hb rfl
theorem gy (x:Bool):∃y,some x=some y:=⟨x,rfl⟩
theorem cq {n:Nat} (h:n≤1073741824):gY n=true:=Nat.ble_eq_true_of_le h
theorem E7 (n0:Nat) (l4:List (Nat × Nat)) (N a b:Int) (hN:N≠0) (v:Bool) (n:Nat) (hn:3<n):∃r,bE (yh n0 l4 N a b) n (v,0)=some r:=by
 obtain⟨r,h,_⟩:=fH (body:=yh n0 l4 N a b) (R:=fun _=>True) (fun k s=>0≤s.2∧s.2+k=3) (fun k s hI=>by
  obtain⟨v,i⟩:=s;obtain⟨h1,h2⟩:=hI;simp only at h1 h2;simp only[yh]
  by_cases c1:i<(l4.length:Int)
  ·rw[aL c1,ah]
   by_cases c2:i<3
   ·rw[decide_eq_true c2,bm];have hb:bz i l4.length=true:=decide_eq_true ⟨h1,by omega⟩
    have hlt:i.toNat<l4.length:=by omega
    have he:l4[i.toNat]? = some l4[i.toNat]:=by simp[hlt]
    rw[hb,az,he,ah];generalize l4[i.toNat]=e;obtain⟨x,y⟩:=e;simp only[az];rw[cy hN,cy hN];have:∃z,br v (some true) (br (decide (Int.tmod (IntKind.wrap .i64 ((x:Nat):Int)) N=a)) (br (decide (Int.tmod (IntKind.wrap .i64 ((y:Nat):Int)) N=b)) (some true) (br (decide (Int.tmod (IntKind.wrap .i64 ((x:Nat):Int)) N=b)) (some (decide (Int.tmod (IntKind.wrap .i64 ((y:Nat):Int)) N=a))) (some false))) (br (decide (Int.tmod (IntKind.wrap .i64 ((x:Nat):Int)) N=b)) (some (decide (Int.tmod (IntKind.wrap .i64 ((y:Nat):Int)) N=a))) (some false)))=some z :=
     gN (fun _=>gy _) fun _=>gN (fun _=>gN (fun _=>gy _) fun _=>gN (fun _=>gy _) fun _=>gy _) fun _=>gN (fun _=>gy _) fun _=>gy _
    obtain⟨z,hz⟩:=this;refine .inl ⟨(z,i+1),?_,k-1,by omega,by simp only; omega,by simp only; omega⟩
    rw[hz,ah,aE (by omega) (by omega)]
   ·rw[decide_eq_false c2,bu]; exact .inr ⟨v,rfl,trivial⟩
  ·rw[aJ c1,ah,bu]; exact .inr ⟨v,rfl,trivial⟩) 3 (v,0) n ⟨by simp,by simp⟩ hn
 exact⟨r,h⟩
def RM (es:List (Int × Int)) (i j:Nat):Prop:=((i:Int),(j:Int)) ∈ es∨((j:Int),(i:Int)) ∈ es
theorem CP {N:Int}:∀{es:List (Int × Int)} {p:Int × Int},mC N p es=true→∀e ∈ es,0≤e.1∧e.1<e.2∧e.2<N
 | [],_,_,e,he=>by cases he
 | x::es,p,h,e,he=>by
  rw[hJ,Bool.and_eq_true] at h;rcases List.mem_cons.1 he with rfl|he
  ·simp only[bC,Bool.and_eq_true,decide_eq_true_eq] at h;exact h.1.1
  ·exact CP h.2 e he
structure Okay (N:Nat) (es:List (Int × Int)):Prop where
 pos:1≤N
 le:N≤64
 len:es.length≤200
 mem:∀e ∈ es,∃a b:Nat,e=((a:Int),(b:Int))∧a<b∧b<N
theorem gH {N:Int} {es:List (Int × Int)} (h:kB N es=true):∃M:Nat,N=(M:Int)∧Okay M es:=by
 simp only[kB,Bool.and_eq_true,decide_eq_true_eq] at h;obtain⟨⟨h1,h2,h3⟩,h4⟩:=h;obtain⟨M,rfl⟩:=Int.eq_ofNat_of_zero_le (show 0≤N by omega)
 refine⟨M,rfl,by omega,by omega,h3,fun e he=>?_⟩
 obtain⟨g1,g2,g3⟩:=CP h4 e he;obtain⟨a,b⟩:=e;obtain⟨a,rfl⟩:=Int.eq_ofNat_of_zero_le (show 0≤a from g1)
 obtain⟨b,rfl⟩:=Int.eq_ofNat_of_zero_le (show 0≤b by simp only at g1 g2; omega)
 exact⟨a,b,rfl,by simp only at g2; omega,by simp only at g3; omega⟩
theorem Okay.RM {N:Nat} {es:List (Int × Int)} (h:Okay N es) {i j:Nat} (ha:RM es i j):i<N∧j<N∧i≠j:=by
 rcases ha with ha|ha
 ·obtain⟨a,b,e,h1,h2⟩:=h.mem _ ha;simp only[Prod.mk.injEq,Int.natCast_inj] at e;omega
 ·obtain⟨a,b,e,h1,h2⟩:=h.mem _ ha;simp only[Prod.mk.injEq,Int.natCast_inj] at e;omega
def bl (x:Nat):Nat:=if x=0 then 0 else Nat.log2 x+1
theorem lH {x k:Nat}:k<bl x↔2 ^ k≤x:=by
 unfold bl
 by_cases h:x=0
 ·subst h;rw[if_pos rfl];have:=Nat.two_pow_pos k;omega
 ·rw[if_neg h,Nat.lt_succ_iff,Nat.le_log2 h]
theorem Ep {x m:Nat} (h:∀k,k<m↔2 ^ k≤x):m=bl x:=by
 rcases Nat.lt_trichotomy m (bl x) with h1|h1|h1
 ·have:=(h m).2 (lH.1 h1); omega
 ·exact h1
 ·have:=lH.2 ((h (bl x)).1 h1); omega
theorem IM {x s:Nat} (h:2 ^ s≤x):bl (x >>> s)+s=bl x:=by
 refine Ep fun k=>?_;rw[Nat.shiftRight_eq_div_pow]
 by_cases hk:k<s
 ·have:2 ^ k≤2 ^ s:=Nat.pow_le_pow_right (by decide) (by omega)
  constructor
  ·intro _; omega
  ·intro _; omega
 ·obtain⟨d,rfl⟩:∃d,k=d+s:=⟨k-s,by omega⟩
  have h1:=lH (x:=x/2 ^ s) (k:=d);have h2:2 ^ (d+s)≤x↔2 ^ d≤x/2 ^ s:=by rw[Nat.pow_add,Nat.le_div_iff_mul_le (Nat.two_pow_pos s)]
  rw[h2,←h1]; omega
theorem OD:∀y:Fin 256,fJ[y.val]? = some (bl y.val):=by decide +kernel
theorem LM {x s:Nat} (h:x<2 ^ s):bl x≤s:=by
 rcases Nat.lt_or_ge s (bl x) with h1|h1
 ·have:=lH.1 h1; omega
 ·exact h1
theorem rS (s y m:Nat) (hs:s≤32) (hy:y<2 ^ (2*s)) (hm:m≤64):∃y' m':Nat,br (decide (2 ^ s≤y)) (some (bH .u64 y s,IntKind.wrap .i64 ((m:Int)+(s:Int)))) (some (y,(m:Int)))=some (y',(m':Int))∧y'<2 ^ s∧bl y'+m'=bl y+m∧m'≤m+s:=by
 by_cases h:2 ^ s≤y
 ·refine⟨y >>> s,m+s,?_,?_,?_,Nat.le_refl _⟩
  ·rw[aL h,fb (by omega),aE (by omega) (by omega)]; rfl
  ·rw[Nat.shiftRight_eq_div_pow,Nat.div_lt_iff_lt_mul (Nat.two_pow_pos s),←Nat.pow_add];rw[Nat.two_mul] at hy; exact hy
  ·have:=IM h; omega
 ·exact⟨y,m,aJ h _ _,by omega,rfl,by omega⟩
theorem xF (n x:Nat) (hx:x<2 ^ 64):ET n x=some ((bl x:Nat):Int):=by
 unfold ET;obtain⟨y1,m1,e1,h1,b1,g1⟩:=rS 32 x 0 (by omega) hx (by omega)
 have e1':br (decide (4294967296≤x)) (some (bH .u64 x 32,(32:Int))) (some (x,0))=some (y1,(m1:Int)):=e1;rw[e1',ah];obtain⟨y2,m2,e2,h2,b2,g2⟩:=rS 16 y1 m1 (by omega) h1 (by omega)
 have e2':br (decide (65536≤y1)) (some (bH .u64 y1 16,IntKind.wrap .i64 ((m1:Int)+16))) (some (y1,(m1:Int)))=some (y2,(m2:Int)):=e2;simp only[e2',ah];obtain⟨y3,m3,e3,h3,b3,g3⟩:=rS 8 y2 m2 (by omega) h2 (by omega)
 have e3':br (decide (256≤y2)) (some (bH .u64 y2 8,IntKind.wrap .i64 ((m2:Int)+8))) (some (y2,(m2:Int)))=some (y3,(m3:Int)):=e3;simp only[e3',ah];have h3:y3<256:=h3;have e:uw .u8 y3=y3:=Nat.mod_eq_of_lt h3;have h8:bl y3≤8:=LM h3;have ht:fJ[y3]? = some (bl y3):=OD ⟨y3,h3⟩;have w1:IntKind.wrap .i64 ((bl y3:Nat):Int)=((bl y3:Nat):Int):=aE (by omega) (by omega)
 rw[e,al h3,az,Int.toNat_natCast,ht,ah,w1,aE (by omega) (by omega)]
 simp only[Option.some.injEq]; omega
def Q3 (N:Int) (es:List (Int × Int)) (x:Nat):Int:=if kB N es then(if 2 ^ N.toNat≤x then 2 else 0) else 180
theorem Cu (n:Nat) (N:Int) (es:List (Int × Int)) (x:Nat) (hx:x<2 ^ 64) (hl:es.length<4611686018427387904) (hk:es.length<n):Gh n N es x=some (Q3 N es x):=by
 unfold Gh Q3;rw[wL n N es hl hk,ah];unfold DV
 by_cases h:kB N es=true
 ·obtain⟨M,rfl,hM⟩:=gH h;rw[if_pos h,if_pos h];simp only[decide_true,Bool.not_true,bu,Int.toNat_natCast]
  by_cases h64:M<64
  ·have hu:ui .u64 (M:Int)=M:=(HV (by omega) (by omega)).trans (Int.toNat_natCast M)
   rw[aL (by omega),ah,hu,fb (by omega),Nat.shiftRight_eq_div_pow]
   by_cases h2:2 ^ M≤x
   ·have:0<x/2 ^ M:=Nat.div_pos h2 (Nat.two_pow_pos _);rw[if_pos h2,decide_eq_false (by omega)]; rfl
   ·have:x/2 ^ M=0:=Nat.div_eq_of_lt (by omega)
    rw[if_neg h2,decide_eq_true this]; rfl
  ·have hM64:M=64:=by have:=hM.le; omega
   subst hM64;rw[aJ (by omega),ah,if_neg (by omega)]; rfl
 ·rw[if_neg h,if_neg h]; rfl
theorem jd (n x i:Nat) (hx:x<2 ^ 64) (hi:i<64):Fh n x ((i:Nat):Int)=some (x.testBit i):=by
 unfold Fh;rw[HV (by omega) (by omega),Int.toNat_natCast,wF hx (by omega)]
theorem qZ (n i:Nat) (hi:i<64):yH n ((i:Nat):Int)=some (2 ^ i):=by
 unfold yH;rw[HV (by omega) (by omega),Int.toNat_natCast,IF hi]
inductive Rch (es:List (Int × Int)) (S:Nat) (i:Nat):Nat→Prop
 | refl:Rch es S i i
 | step {j k:Nat} (h:Rch es S i j) (ha:RM es j k) (hk:S.testBit k=true):Rch es S i k
theorem Rch.mem {es:List (Int × Int)} {S i j:Nat} (h:Rch es S i j) (hi:S.testBit i=true):S.testBit j=true:=by
 cases h with
 | refl=>exact hi
 | step _ _ hk=>exact hk
theorem Rch.trans {es:List (Int × Int)} {S i j k:Nat} (h:Rch es S i j) (h':Rch es S j k):Rch es S i k:=by
 induction h' with
 | refl=>exact h
 | step _ ha hk ih=>exact .step ih ha hk
def RF (es:List (Int × Int)) (S i w:Nat):Prop:=w<2 ^ 64∧∀j,w.testBit j=true↔Rch es S i j
inductive Cs (es:List (Int × Int)) (S:Nat):Nat→List Nat→Prop
 | nil:Cs es S 0 []
 | cons {r w:Nat} {L:List Nat} (h0:0<r) (hr:r<2 ^ 64) (hw:RF es S (tz r) w) (t:Cs es S (P8 .u64 r w) L):Cs es S r (w::L)
def dU (x t:Nat):List Nat:=(List.range t).filter fun i=>x.testBit i
def rk (x v:Nat):Nat:=(dU x v).length
theorem nQ (x t:Nat):(dU x t).length≤t:=Nat.le_trans (List.length_filter_le _ _) (by simp)
theorem nN (x t:Nat):dU x (t+1)=dU x t++(if x.testBit t then[t] else[]):=by
 unfold dU;rw[List.range_succ,List.filter_append]
 by_cases h:x.testBit t<;>simp[h]
theorem df {x t v:Nat}:v ∈ dU x t↔v<t∧x.testBit v=true:=by simp[dU]
theorem HT {σ ρ τ:Type} {body:τ→Option (τ ⊕ ρ)} (N:Nat) (mk:σ→Int→τ) (fin:σ→ρ) (I:Nat→σ→Prop)
  (hs:∀s i,i<N→I i s→∃s',body (mk s (i:Int))=some (.inl (mk s' ((i+1:Nat):Int)))∧I (i+1) s') (he:∀s,I N s→body (mk s (N:Int))=some (.inr (fin s))) :
  ∀(k i n:Nat) (s:σ),i+k=N→I i s→k<n→∃s',bE body n (mk s (i:Int))=some (fin s')∧I N s':=by
 intro k
 induction k with
 | zero =>
  intro i n s hi hI hn;obtain⟨n,rfl⟩:∃n',n=n'+1:=⟨n-1,by omega⟩
  have:i=N:=by omega
  subst this;exact⟨s,by simp only[bE,he s hI],hI⟩
 | succ k ih =>
  intro i n s hi hI hn;obtain⟨n,rfl⟩:∃n',n=n'+1:=⟨n-1,by omega⟩
  obtain⟨s',h1,h2⟩:=hs s i (by omega) hI
  simp only[bE,h1];exact ih (i+1) n s' (by omega) h2 (by omega)
theorem ju {σ ρ τ:Type} {body:τ→Option (τ ⊕ ρ)} (N:Nat) (mk:σ→Int→τ) (fin:σ→ρ) (I:Nat→σ→Prop)
  (hs:∀s i,i<N→I i s→∃s',body (mk s (i:Int))=some (.inl (mk s' ((i+1:Nat):Int)))∧I (i+1) s') (he:∀s,I N s→body (mk s (N:Int))=some (.inr (fin s)))
  {n:Nat} {s:σ} (hI:I 0 s) (hn:N<n):∃s',bE body n (mk s 0)=some (fin s')∧I N s' :=
 HT N mk fin I hs he N 0 n s (by omega) hI hn
theorem nj (n x:Nat) (hx:x<2 ^ 64) (hn:64<n):JE n x=some ((rk x 64:Nat):Int):=by
 have:=ju (body:=zA n x) 64 (fun(s:Int) (v:Int)=>(s,v)) id (fun i s=>s=((rk x i:Nat):Int)) (fun s i hi hI=>?_) (fun s _=>?_) (n:=n) (s:=0) rfl hn
 ·obtain⟨s,h1,h2⟩:=this;unfold JE;simp only[h1,ah,id,h2]
 ·subst hI;have hle:rk x i≤i:=nQ _ _;refine⟨((rk x (i+1):Nat):Int),?_,rfl⟩;unfold zA;simp only[decide_eq_true (show((i:Nat):Int)<64 by omega),bm,jd n x i hx hi,ah,aD (show i<4611686018427387904 by omega)]
  have e:rk x (i+1)=rk x i+(if x.testBit i then 1 else 0):=by
   unfold rk; rw[nN,List.length_append]; split<;>simp
  rw[e]
  by_cases hb:x.testBit i
  ·rw[hb,bm,aD (by omega),ah,if_pos rfl]
  ·rw[Bool.not_eq_true] at hb;rw[hb,bu,ah]; simp
 ·unfold zA;simp[br]
def lexLt (p q:Int × Int):Prop:=p.1<q.1∨p.1=q.1∧p.2<q.2
section
variable {n0 M : Nat} {l6 : List Int} {es : List (Int × Int)}
end
def val (w:Nat):List Nat→Nat
 | []=>0
 | d::ds=>d+2 ^ w*val w ds
theorem pj {k a b c d:Nat} (ha:a<2 ^ k) (hc:c<2 ^ k):(a+2 ^ k*b) &&& (c+2 ^ k*d)=(a &&& c)+2 ^ k*(b &&& d):=by
 have hac:a &&& c<2 ^ k:=Nat.lt_of_le_of_lt Nat.and_le_left ha;refine Nat.eq_of_testBit_eq fun i=>?_;rw[Nat.testBit_and,Nat.add_comm a,Nat.add_comm c,Nat.add_comm (a &&& c),Nat.testBit_two_pow_mul_add _ ha,Nat.testBit_two_pow_mul_add _ hc,Nat.testBit_two_pow_mul_add _ hac]
 split<;>rw[Nat.testBit_and]
def Is (w:Nat):Nat→Nat
 | 0=>0
 | n+1=>(2 ^ w-1)+2 ^ (2*w)*Is w n
def pairUp:List Nat→List Nat
 | a::b::r=>(a+b)::pairUp r
 | [a]=>[a]
 | []=>[]
theorem Jh (w:Nat):2 ^ (2*w)=2 ^ w*2 ^ w:=by rw[←Nat.pow_add]; congr 1; omega
theorem vg (w a b:Nat) (r:List Nat):val w (a::b::r)=(a+2 ^ w*b)+2 ^ (2*w)*val w r:=by
 simp only[val,Jh,Nat.mul_add,Nat.mul_assoc]; omega
theorem HE {w a b:Nat} (ha:a<2 ^ w) (hb:b<2 ^ w):a+2 ^ w*b<2 ^ (2*w):=by
 have h2:2 ^ w*(b+1)≤2 ^ w*2 ^ w:=Nat.mul_le_mul_left _ hb;rw[Jh];rw[Nat.mul_add,Nat.mul_one] at h2;omega
theorem vJ {w a b:Nat} (ha:a<2 ^ w):(a+2 ^ w*b) &&& (2 ^ w-1)=a:=by
 rw[Nat.and_two_pow_sub_one_eq_mod,Nat.add_mul_mod_self_left,Nat.mod_eq_of_lt ha]
theorem wj (w:Nat):2 ^ w-1<2 ^ (2*w):=by
 have:=Nat.two_pow_pos w;have:2 ^ w≤2 ^ (2*w):=Nat.pow_le_pow_right (by decide) (by omega)
 omega
theorem qj (w a b V:Nat) (ha:a<2 ^ w):((a+2 ^ w*b)+2 ^ (2*w)*V) >>> w=(b+2 ^ w*(V%2 ^ w))+2 ^ (2*w)*(V >>> w):=by
 have h1:(a+2 ^ w*b)+2 ^ (2*w)*V=a+2 ^ w*(b+2 ^ w*V):=by
  rw[Jh,Nat.mul_add,Nat.mul_assoc]; omega
 rw[h1,Nat.shiftRight_eq_div_pow,Nat.add_mul_div_left _ _ (Nat.two_pow_pos w),Nat.div_eq_of_lt ha,Nat.zero_add,Nat.shiftRight_eq_div_pow,Jh];have h2:=Nat.mod_add_div V (2 ^ w);rw[Nat.mul_assoc,Nat.add_assoc,←Nat.mul_add,h2]
theorem rH (w:Nat):∀(n:Nat) (ds:List Nat),ds.length=2*n→(∀d ∈ ds,d<2 ^ w)→((val w ds >>> w) &&& Is w n)+(val w ds &&& Is w n)=val (2*w) (pairUp ds)
 | 0,ds,h,_=>by
  have:ds = []:=List.eq_nil_of_length_eq_zero (by omega)
  subst this;simp[val,Is,pairUp]
 | n+1,a::b::r,h,hd=>by
  have ha:=hd a (by simp)
  have hb:=hd b (by simp)
  have ih:=rH w n r (by simp at h; omega) fun d hd'=>hd d (by simp[hd'])
  have hm:val w r%2 ^ w<2 ^ w:=Nat.mod_lt _ (Nat.two_pow_pos w);rw[vg,qj w a b _ ha];simp only[Is,pairUp];rw[pj (HE hb hm) (wj w),pj (HE ha hb) (wj w),vJ hb,vJ ha]
  show _=(a+b)+2 ^ (2*w)*val (2*w) (pairUp r)
  rw[←ih,Nat.mul_add];omega
 | n+1,[],h,_=>by simp at h
 | n+1,[_],h,_=>by simp at h; omega
theorem val_mod {w B:Nat} (hB:B≤2 ^ w) (h0:0<B):∀(ds:List Nat),(∀d ∈ ds,d<B)→val w ds%2 ^ w<B
 | [],_=>by simpa [val] using h0
 | d::ds,h=>by
  have:=h d (by simp)
  simp only[val];rw[Nat.add_mul_mod_self_left,Nat.mod_eq_of_lt (by omega)]; exact this
theorem uR (w B:Nat) (hB:2*B≤2 ^ w) (h0:0<B):∀(n:Nat) (ds:List Nat),ds.length=2*n→(∀d ∈ ds,d<B)→((val w ds >>> w)+val w ds) &&& Is w n=val (2*w) (pairUp ds)
 | 0,ds,h,_=>by
  have:ds = []:=List.eq_nil_of_length_eq_zero (by omega)
  subst this;simp[val,Is,pairUp]
 | n+1,a::b::r,h,hd=>by
  have ha:=hd a (by simp)
  have hb:=hd b (by simp)
  have ih:=uR w B hB h0 n r (by simp at h; omega) fun d hd'=>hd d (by simp[hd'])
  have hm:val w r%2 ^ w<B:=val_mod (by omega) h0 r fun d hd'=>hd d (by simp[hd'])
  rw[vg,qj w a b _ (by omega)]
  have e:(b+2 ^ w*(val w r%2 ^ w))+2 ^ (2*w)*(val w r >>> w)+((a+2 ^ w*b)+2 ^ (2*w)*val w r)=((a+b)+2 ^ w*(val w r%2 ^ w+b))+2 ^ (2*w)*((val w r >>> w)+val w r):=by
   simp only[Nat.mul_add]; omega
  rw[e];simp only[Is,pairUp];rw[pj (HE (by omega) (by omega)) (wj w),vJ (by omega),ih]
  rfl
 | n+1,[],h,_=>by simp at h
 | n+1,[_],h,_=>by simp at h; omega
theorem kn:∀ds:List Nat,(pairUp ds).sum=ds.sum
 | []=>rfl
 | [_]=>rfl
 | a::b::r=>by simp only[pairUp,List.sum_cons,kn r]; omega
theorem j4:∀(n:Nat) (ds:List Nat),ds.length=2*n→(pairUp ds).length=n
 | 0,ds,h=>by
  have:ds = []:=List.eq_nil_of_length_eq_zero (by omega)
  subst this; rfl
 | n+1,a::b::r,h=>by simp only[pairUp,List.length_cons]; rw[j4 n r (by simp at h; omega)]
 | n+1,[],h=>by simp at h
 | n+1,[_],h=>by simp at h; omega
theorem ml {B:Nat}:∀(ds:List Nat),(∀d ∈ ds,d≤B)→∀d ∈ pairUp ds,d≤2*B
 | [],_,d,hd=>by simp[pairUp] at hd
 | [a],h,d,hd=>by simp[pairUp] at hd; subst hd; have:=h d (by simp); omega
 | a::b::r,h,d,hd=>by
  simp only[pairUp,List.mem_cons] at hd;have h1:=h a (by simp)
  have h2:=h b (by simp)
  rcases hd with rfl|hd
  ·omega
  ·exact ml r (fun x hx=>h x (by simp[hx])) d hd
theorem BR {w:Nat}:∀(ds:List Nat),(∀d ∈ ds,d<2 ^ w)→val w ds<2 ^ (w*ds.length)
 | [],_=>by simp[val]
 | d::ds,h=>by
  have h1:=h d (by simp)
  have ih:=BR ds fun x hx=>h x (by simp[hx])
  simp only[val,List.length_cons];rw[Nat.mul_add,Nat.mul_one,Nat.add_comm (w*ds.length) w,Nat.pow_add];have h2:2 ^ w*(val w ds+1)≤2 ^ w*2 ^ (w*ds.length):=Nat.mul_le_mul_left _ ih;rw[Nat.mul_add,Nat.mul_one] at h2;omega
def sJ (x:Nat):Nat→List Nat
 | 0=>[]
 | n+1=>x%2::sJ (x/2) n
theorem Ad:∀(n x:Nat),x<2 ^ n→val 1 (sJ x n)=x
 | 0,x,h=>by simp at h; subst h; rfl
 | n+1,x,h=>by
  simp only[sJ,val,Nat.pow_one];rw[Ad n (x/2) (by rw[Nat.pow_succ] at h; omega)]
  omega
theorem Ag:∀(n x:Nat),(sJ x n).length=n
 | 0,_=>rfl
 | n+1,x=>by simp only[sJ,List.length_cons,Ag n]
theorem DT:∀(n x:Nat),∀d ∈ sJ x n,d≤1
 | 0,_,d,h=>by simp[sJ] at h
 | n+1,x,d,h=>by
  simp only[sJ,List.mem_cons] at h;rcases h with rfl|h
  ·omega
  ·exact DT n _ d h
theorem vz (x:Nat):∀n,(dU x (n+1)).length=x%2+(dU (x/2) n).length
 | 0=>by
  rw[nN];have:x.testBit 0=decide (x%2=1):=Nat.testBit_zero x;rw[this]
  by_cases h:x%2=1
  ·simp[h,dU]
  ·have:x%2=0:=by omega
   simp[this,dU]
 | n+1=>by
  rw[nN,List.length_append,vz x n,nN (x/2) n,List.length_append];have:x.testBit (n+1)=(x/2).testBit n:=Nat.testBit_succ x n;rw[this]
  split<;>simp<;>omega
theorem yw:∀(n x:Nat),(sJ x n).sum=(dU x n).length
 | 0,x=>rfl
 | n+1,x=>by simp only[sJ,List.sum_cons,yw n,vz]
theorem G2 {w B:Nat}:∀(ds:List Nat),(∀d ∈ ds,d≤B)→val w ds*(2 ^ w-1)+B≤B*2 ^ (w*ds.length)
 | [],_=>by simp[val]
 | d::ds,h=>by
  have h1:=h d (by simp)
  have ih:=G2 (w:=w) ds fun x hx=>h x (by simp[hx])
  have hp:=Nat.two_pow_pos w;simp only[val,List.length_cons];rw[Nat.mul_add,Nat.mul_one,Nat.add_comm (w*ds.length) w,Nat.pow_add];have h2:2 ^ w*(val w ds*(2 ^ w-1)+B)≤2 ^ w*(B*2 ^ (w*ds.length)):=Nat.mul_le_mul_left _ ih;have h3:d*(2 ^ w-1)≤B*(2 ^ w-1):=Nat.mul_le_mul_right _ h1;have h4:B*(2 ^ w-1)+B=2 ^ w*B:=by
   rw[Nat.mul_sub,Nat.mul_one,Nat.sub_add_cancel (Nat.le_mul_of_pos_right _ hp),Nat.mul_comm]
  have h5:B*(2 ^ w*2 ^ (w*ds.length))=2 ^ w*(B*2 ^ (w*ds.length)):=by rw[Nat.mul_left_comm]
  rw[Nat.mul_add,←Nat.mul_assoc] at h2;rw[Nat.add_mul,h5];omega
theorem Gn {a k b:Nat} (hk:k≤64) (h:a/2 ^ k=b):bH .u64 a k=b:=by rw[fb hk,Nat.shiftRight_eq_div_pow,h]
theorem EF (c0 c1 c2 c3 c4 c5 c6 c7:Nat) (g0:c0≤8) (g1:c1≤8) (g2:c2≤8) (g3:c3≤8) (g4:c4≤8) (g5:c5≤8) (g6:c6≤8) (g7:c7≤8) (y:Nat) (hy:y=c0+256*(c1+256*(c2+256*(c3+256*(c4+256*(c5+256*(c6+256*c7))))))) :
  ∃z u K,uw .u64 (y+bH .u64 y 8)=z∧uw .u64 (z+bH .u64 z 16)=u∧uw .u64 (u+bH .u64 u 32)=(c0+c1+c2+c3+c4+c5+c6+c7)+256*K∧K<2 ^ 54:=by
 obtain⟨a1,ha1⟩:∃a,a=c1+256*(c2+256*(c3+256*(c4+256*(c5+256*(c6+256*c7))))):=⟨_,rfl⟩;have e1:bH .u64 y 8=a1:=Gn (by decide) (by rw[hy,←ha1]; omega)
 have hz:uw .u64 (y+bH .u64 y 8)=y+a1:=by rw[e1]; exact iy (by omega)
 obtain⟨b,hb⟩:∃b,b=(c2+c3)+256*((c3+c4)+256*((c4+c5)+256*((c5+c6)+256*((c6+c7)+256*c7)))):=⟨_,rfl⟩;have hzb:y+a1=((c0+c1)+256*(c1+c2))+65536*b:=by omega
 have e2:bH .u64 (y+a1) 16=b:=Gn (by decide) (by rw[hzb]; omega)
 have hu:uw .u64 ((y+a1)+bH .u64 (y+a1) 16)=(y+a1)+b:=by rw[e2]; exact iy (by omega)
 obtain⟨d,hd⟩:∃d,d=(c4+c5+c6+c7)+256*((c5+c6+c7)+256*((c6+c7)+256*c7)):=⟨_,rfl⟩;have hud:(y+a1)+b=((c0+c1+c2+c3)+256*((c1+c2+c3+c4)+256*((c2+c3+c4+c5)+256*(c3+c4+c5+c6))))+4294967296*d:=by omega
 have e3:bH .u64 ((y+a1)+b) 32=d:=Gn (by decide) (by rw[hud]; omega)
 have hw:uw .u64 (((y+a1)+b)+bH .u64 ((y+a1)+b) 32)=((y+a1)+b)+d:=by rw[e3]; exact iy (by omega)
 refine⟨_,_,((c1+c2+c3+c4)+256*((c2+c3+c4+c5)+256*(c3+c4+c5+c6)))+16777216*d+((c5+c6+c7)+256*((c6+c7)+256*c7)),hz,hu,?_,?_⟩
 ·rw[hw]; omega
 ·omega
theorem MT (n x:Nat) (hx:x<2 ^ 64):QS n x=some ((rk x 64:Nat):Int):=by
 obtain⟨d0,hd0⟩:∃d,d=sJ x 64:=⟨_,rfl⟩;have l0:d0.length=64:=by rw[hd0]; exact Ag 64 x
 have b0:∀d ∈ d0,d≤1:=by rw[hd0]; exact DT 64 x
 have v0:val 1 d0=x:=by rw[hd0]; exact Ad 64 x hx
 have s0:d0.sum=rk x 64:=by rw[hd0]; exact yw 64 x
 have e1:=rH 1 32 d0 (by omega) fun d hd=>by have:=b0 d hd; omega
 have l1:=j4 32 d0 (by omega)
 have b1:=ml d0 b0;have e2:=rH 2 16 (pairUp d0) (by omega) fun d hd=>by have:=b1 d hd; omega
 have l2:=j4 16 (pairUp d0) (by omega)
 have b2:=ml _ b1;have e3:=uR 4 5 (by decide) (by decide) 8 (pairUp (pairUp d0)) (by omega) fun d hd=>by have:=b2 d hd; omega
 have l3:=j4 8 (pairUp (pairUp d0)) (by omega)
 have b3:=ml _ b2;have s3:(pairUp (pairUp (pairUp d0))).sum=rk x 64:=by rw[kn,kn,kn,s0]
 have m1:Is 1 32=6148914691236517205:=by decide
 have m2:Is 2 16=3689348814741910323:=by decide
 have m3:Is 4 8=1085102592571150095:=by decide
 rw[v0,m1] at e1;rw[m2] at e2;rw[m3] at e3;have q1:val 2 (pairUp d0)<2 ^ 64:=by
  have:=BR (w:=2) (pairUp d0) fun d hd=>by have:=b1 d hd; omega
  rwa[l1] at this
 have q2:val 4 (pairUp (pairUp d0))<2 ^ 64:=by
  have:=BR (w:=4) (pairUp (pairUp d0)) fun d hd=>by have:=b2 d hd; omega
  rwa[l2] at this
 have hS:∀a b:Nat,a<2 ^ 64→uw .u64 (uw .u64 a &&& uw .u64 b)=a &&& uw .u64 b:=fun a b ha=>by
  rw[iy ha,iy (Lp ha)]
 have sh:∀k:Nat,k≤64→∀a:Nat,a<2 ^ 64→bH .u64 a k<2 ^ 64:=fun k hk a ha=>by
  rw[fb hk,Nat.shiftRight_eq_div_pow]; exact Nat.lt_of_le_of_lt (Nat.div_le_self _ _) ha
 have i1:uw .u64 6148914691236517205=6148914691236517205:=by decide
 have i2:uw .u64 3689348814741910323=3689348814741910323:=by decide
 have i3:uw .u64 1085102592571150095=1085102592571150095:=by decide
 have y2:uw .u64 ((uw .u64 (uw .u64 (bH .u64 x 1) &&& uw .u64 6148914691236517205))+(uw .u64 (uw .u64 x &&& uw .u64 6148914691236517205)))=val 2 (pairUp d0):=by
  rw[hS _ _ (sh 1 (by decide) x hx),hS _ _ hx,i1,fb (by decide),e1,iy q1]
 have y4:uw .u64 ((uw .u64 (uw .u64 (bH .u64 (val 2 (pairUp d0)) 2) &&& uw .u64 3689348814741910323))+(uw .u64 (uw .u64 (val 2 (pairUp d0)) &&& uw .u64 3689348814741910323)))=val 4 (pairUp (pairUp d0)):=by
  rw[hS _ _ (sh 2 (by decide) _ q1),hS _ _ q1,i2,fb (by decide),e2,iy q2]
 obtain⟨d3,hd3⟩:∃d,d=pairUp (pairUp (pairUp d0)):=⟨_,rfl⟩;rw[←hd3] at e3 l3 b3 s3;have q3:val 4 (pairUp (pairUp d0))<6*2 ^ 60:=by
  have:=G2 (w:=4) (B:=4) (pairUp (pairUp d0)) b2;rw[l2] at this;omega
 have y6:uw .u64 (uw .u64 (uw .u64 ((bH .u64 (val 4 (pairUp (pairUp d0))) 4)+val 4 (pairUp (pairUp d0)))) &&& uw .u64 1085102592571150095)=val 8 d3:=by
  have hle:bH .u64 (val 4 (pairUp (pairUp d0))) 4+val 4 (pairUp (pairUp d0))<2 ^ 64:=by
   rw[fb (by decide),Nat.shiftRight_eq_div_pow]; omega
  rw[iy hle,hS _ _ hle,i3,fb (by decide),e3]
 unfold QS;rw[y2,ah,y4,ah,y6,ah]
 match d3,l3,b3,s3 with
 | [c0,c1,c2,c3,c4,c5,c6,c7],_,b3,s3 =>
  have hv:val 8 [c0,c1,c2,c3,c4,c5,c6,c7]=c0+256*(c1+256*(c2+256*(c3+256*(c4+256*(c5+256*(c6+256*c7)))))):=by simp[val]
  obtain⟨z,u,K,t1,t2,t3,hK⟩:=EF c0 c1 c2 c3 c4 c5 c6 c7 (b3 c0 (by simp)) (b3 c1 (by simp)) (b3 c2 (by simp)) (b3 c3 (by simp)) (b3 c4 (by simp)) (b3 c5 (by simp)) (b3 c6 (by simp)) (b3 c7 (by simp)) _ hv
  have hs:c0+c1+c2+c3+c4+c5+c6+c7=rk x 64:=by
   rw[←s3]; simp only[List.sum_cons,List.sum_nil]; omega
  rw[t1,t2,ah,t3,hs];have hr:rk x 64≤64:=nQ _ _;rw[aE (by omega) (by omega)]
  have hand:GK .i64 ((rk x 64+256*K:Nat):Int) 127=((rk x 64:Nat):Int):=by
   unfold GK;have h1:(BitVec.ofInt IntKind.i64.bits ((rk x 64+256*K:Nat):Int) &&& BitVec.ofInt IntKind.i64.bits 127).toNat=rk x 64:=by
    rw[BitVec.toNat_and,BitVec.toNat_ofInt,BitVec.toNat_ofInt];have a1:(((rk x 64+256*K:Nat):Int)%((2 ^ IntKind.i64.bits:Nat):Int)).toNat=rk x 64+256*K:=by
     show(((rk x 64+256*K:Nat):Int)%(18446744073709551616:Int)).toNat=_
     omega
    have a2:((127:Int)%((2 ^ IntKind.i64.bits:Nat):Int)).toNat=2 ^ 7-1:=by decide
    rw[a1,a2,Nat.and_two_pow_sub_one_eq_mod];omega
   rw[h1,aE (by omega) (by omega)]
  rw[hand,ah]
def su (p:Int × Int) (l:List (Int × Int)):Int × Int:=(l.getLast?).getD p
theorem Ao {N:Int} (e:Int × Int):∀(l:List (Int × Int)) (p:Int × Int),mC N p (l++[e])=(mC N p l && bC N (su p l) e)
 | [],p=>by rw[List.nil_append,hJ]; simp[mC,su]
 | x::l,p=>by
  rw[List.cons_append,hJ,hJ,Ao e l x,Bool.and_assoc]
  congr 2
  unfold su;cases l with
  | nil=>rfl
  | cons y l =>
   rw[List.getLast?_cons_cons];have:∃z,(y::l).getLast? = some z:=⟨_,List.getLast?_eq_some_getLast (by simp)⟩
   obtain⟨z,hz⟩:=this;rw[hz]; rfl
def oF (N:Int) (l:List (Int × Int)) (a b:Int):Prop:=mC N (-1,-1) l=true∧((su (-1,-1) l).1<a∨(su (-1,-1) l).1=a∧(su (-1,-1) l).2<b)
theorem oF.add {N:Int} {l:List (Int × Int)} {a b:Int} (h:oF N l a b) (ha:0≤a) (hab:a<b) (hb:b<N):oF N (l++[(a,b)]) a (b+1):=by
 refine⟨?_,.inr ?_⟩
 ·rw[Ao,h.1,Bool.true_and];simp only[bC,Bool.and_eq_true,decide_eq_true_eq];exact⟨⟨ha,hab,hb⟩,h.2⟩
 ·unfold su;rw[List.getLast?_append];simp only[List.getLast?_singleton,Option.some_or,Option.getD_some];exact⟨trivial,by omega⟩
theorem oF.next {N:Int} {l:List (Int × Int)} {a b:Int} (h:oF N l a b):oF N l a (b+1):=⟨h.1,by rcases h.2 with h|h; exact .inl h; exact .inr (by omega)⟩
theorem oF.row {N:Int} {l:List (Int × Int)} {a b c:Int} (h:oF N l a b):oF N l (a+1) c:=⟨h.1,.inl (by rcases h.2 with h|h<;>omega)⟩
theorem Gc (n0:Nat) (N a w:Int) (x3:Nat) (l1:List (Nat × Nat)) (hN:1≤N∧N≤12) (hw:w≠0) (l:List (Int × Int)) (c b:Int) (M:Nat) (hl:l.length≤M) (hM:M≤1000) (hb:0≤b∧b≤N) (ha:0≤a∧a<b) (hu:oF N l a b) (n:Nat) (hn:12<n) (h2:3<n0) :
  ∃r,bE (zM n0 N a w x3 l1) n (l,c,b)=some r∧r.1.length≤M+12∧oF N r.1 a N:=by
 refine fH (body:=zM n0 N a w x3 l1) (R:=fun r=>r.1.length≤M+12∧oF N r.1 a N) (fun k s=>0≤s.2.2∧s.2.2+k=N∧s.1.length+k≤M+12∧a<s.2.2∧oF N s.1 a s.2.2) (fun k s hI=>?_) (N-b).toNat (l,c,b) n ⟨hb.1,by simp only; omega,by simp only; omega,ha.2,hu⟩ (by omega)
 obtain⟨l,c,b⟩:=s;obtain⟨h3,h4,h5,h1,h0⟩:=hI;simp only at h3 h4 h5 h1 h0;simp only[zM]
 by_cases c0:b<N
 ·rw[aL c0];have e0:∃z,br (decide (b=IntKind.wrap .i64 (a+w))) (some true) (br (decide (b=IntKind.wrap .i64 (a+1))) (gd (decide (w≠0)) (some (!decide (Int.tmod b w=0)))) (some false))=some z :=
   gN (fun _=>gy _) fun _=>gN (fun _=>⟨_,cy hw _⟩) fun _=>gy _
  obtain⟨z,hz⟩:=e0;rw[hz,ah];have e1:∃c' z',br z (ob (ob (br (decide (Int.tmod c 2=1)) (ob (some (bH .u16 x3 (ui .u64 (Int.tmod (IntKind.wrap .i64 (Int.tdiv c 2)) 16)))) fun y2=>some (decide (uw .u16 (uw .u16 y2 &&& uw .u16 1)=1))) (some false)) fun v0=>br v0 (some false) (some z)) fun v1=>some (IntKind.wrap .i64 (c+1),v1)) (some (c,z))=some (c',z'):=by
   cases z with
   | false=>exact⟨c,false,rfl⟩
   | true =>
    rw[bm];have:∃q,(ob (br (decide (Int.tmod c 2=1)) (ob (some (bH .u16 x3 (ui .u64 (Int.tmod (IntKind.wrap .i64 (Int.tdiv c 2)) 16)))) fun y2=>some (decide (uw .u16 (uw .u16 y2 &&& uw .u16 1)=1))) (some false)) fun v0=>br v0 (some false) (some true))=some q:=by
     by_cases h:Int.tmod c 2=1
     ·rw[aL h,ah,ah]; exact gN (fun _=>gy _) fun _=>gy _
     ·rw[aJ h,ah]; exact gN (fun _=>gy _) fun _=>gy _
    obtain⟨q,hq⟩:=this;exact⟨_,q,by rw[hq,ah]⟩
  obtain⟨c',z',hz'⟩:=e1;rw[hz',ah];obtain⟨q,hq⟩:=E7 n0 l1 N a b (by omega) z' n0 h2
  simp only[hq,ah];cases q with
  | false =>
   refine .inl ⟨(l,c',b+1),?_,k-1,by omega,by simp only; omega,by simp only; omega,by simp only; omega,by simp only; omega,h0.next⟩
   rw[bu,ah,aE (by omega) (by omega)]
  | true =>
   refine .inl ⟨(l++[(a,b)],c',b+1),?_,k-1,by omega,by simp only; omega,by simp only; omega,by simp; omega,by simp only; omega,h0.add ha.1 h1 c0⟩
   rw[bm,cq (by simp; omega),az,ah,aE (by omega) (by omega)]
 ·rw[aJ c0]; exact .inr ⟨(l,c),rfl,by simp only; omega,(show b=N by omega) ▸ h0⟩
theorem FX (n0:Nat) (N w:Int) (x3:Nat) (l4:List (Nat × Nat)) (hN:1≤N∧N≤12) (hw:w≠0) (n:Nat) (hn:12<n) (hn0:12<n0) :
  ∃r,bE (ym n0 N x3 l4) n (w,[],0,0)=some r∧r.length≤200∧mC N (-1,-1) r=true:=by
 refine fH (body:=ym n0 N x3 l4) (R:=fun r=>r.length≤200∧mC N (-1,-1) r=true) (fun k s=>s.1=w∧0≤s.2.2.2∧s.2.2.2+k=N∧s.2.1.length+12*k≤144∧oF N s.2.1 s.2.2.2 0) (fun k s hI=>?_) N.toNat (w,[],0,0) n ⟨rfl,by simp,by simp only; omega,by simp; omega,⟨rfl,.inl (by show(-1:Int)<0; decide)⟩⟩ (by omega)
 obtain⟨w',l,c,a⟩:=s;obtain⟨rfl,h1,h2,h3,h4⟩:=hI;simp only at h1 h2 h3 h4 hw;simp only[ym]
 by_cases c1:a<N
 ·rw[aL c1];obtain⟨r,hr,hrl,hru⟩:=Gc n0 N a w' x3 l4 hN hw l c (IntKind.wrap .i64 (a+1)) l.length (Nat.le_refl _) (by omega) (by rw[aE (by omega) (by omega)]; omega) (by rw[aE (by omega) (by omega)]; omega) (by rw[aE (by omega) (by omega)]; exact⟨h4.1,h4.2.imp id fun h=>⟨h.1,by omega⟩⟩) n0 hn0 (by omega)
  obtain⟨l',c'⟩:=r;simp only[hr,ah];exact .inl ⟨(w',l',c',a+1),by rw[aE (by omega) (by omega)],k-1,by omega,rfl,by simp only; omega,by simp only; omega,by simp only at hrl ⊢; omega,hru.row⟩
 ·rw[aJ c1]; exact .inr ⟨l,rfl,by omega,h4.1⟩
theorem MD (n x1 x2 x3:Nat) (l4:List (Nat × Nat)) (hn:12<n):∃N es,PH n x1 x2 x3 l4=some (N,es)∧kB N es=true:=by
 unfold PH;have w1:IntKind.wrap .i64 ((x1%4:Nat):Int)=((x1%4:Nat):Int):=aE (by omega) (by omega)
 have w2:IntKind.wrap .i64 ((x2%3:Nat):Int)=((x2%3:Nat):Int):=aE (by omega) (by omega)
 have w3:IntKind.wrap .i64 (1+((x1%4:Nat):Int))=1+((x1%4:Nat):Int):=aE (by omega) (by omega)
 have w4:IntKind.wrap .i64 (1+((x2%3:Nat):Int))=1+((x2%3:Nat):Int):=aE (by omega) (by omega)
 rw[w1,w2,w3,w4,ah];have hN:∀a b:Nat,a<4→b<3→1≤(1+(a:Int))*(1+(b:Int))∧(1+(a:Int))*(1+(b:Int))≤12:=by
  intro a b ha hb;have h1:a=0∨a=1∨a=2∨a=3:=by omega
  have h2:b=0∨b=1∨b=2:=by omega
  rcases h1 with rfl|rfl|rfl|rfl<;>rcases h2 with rfl|rfl|rfl<;>decide
 have hN':=hN (x1%4) (x2%3) (Nat.mod_lt _ (by omega)) (Nat.mod_lt _ (by omega))
 rw[aE (by omega) (by omega)]
 obtain⟨r,hr,hl,hu⟩:=FX n ((1+((x1%4:Nat):Int))*(1+((x2%3:Nat):Int))) (1+((x1%4:Nat):Int)) x3 l4 hN' (by omega) n hn hn
 refine⟨_,r,by rw[hr,ah],?_⟩
 simp only[kB,Bool.and_eq_true,decide_eq_true_eq];exact⟨⟨hN'.1,by omega,hl⟩,hu⟩
theorem ye {a b c:Int × Int} (h:lexLt a b) (g:lexLt b c):lexLt a c:=by unfold lexLt at *; omega
theorem Dl {N:Int}:∀{es:List (Int × Int)} {p:Int × Int},mC N p es=true→(p::es).Pairwise lexLt
 | [],p,_=>by simp
 | e::es,p,h=>by
  rw[hJ,Bool.and_eq_true] at h;have ih:=Dl h.2;have hpe:lexLt p e:=by
   have:=h.1;simp only[bC,Bool.and_eq_true,decide_eq_true_eq] at this;exact this.2
  refine List.pairwise_cons.2 ⟨fun q hq=>?_,ih⟩;rcases List.mem_cons.1 hq with rfl|hq
  ·exact hpe
  ·exact ye hpe ((List.pairwise_cons.1 ih).1 q hq)
theorem K9 {N:Int} {es:List (Int × Int)} (h:kB N es=true):es.Pairwise lexLt:=by
 simp only[kB,Bool.and_eq_true] at h;exact(List.pairwise_cons.1 (Dl h.2)).2
theorem Cl (S M:Nat):(dU S M).Pairwise (· < ·):=List.Pairwise.filter _ List.pairwise_lt_range
end Go.Proofs.YtookeaakpiefjaaGreatDoor
end
section
namespace Go.Proofs.YtookeaakpiefjaaGreatDoor
open Go Go.Ab Go.Ab.W Go.Ab.T30
def kz (s:Nat) (e:Nat × Nat):Nat:=if s.testBit e.1 || s.testBit e.2 then s ||| 2 ^ e.1 ||| 2 ^ e.2 else s
def vo (T:List (Nat × Nat)) (s:Nat):Nat:=T.foldl kz s
def Km (T:List (Nat × Nat)):Prop:=∀e ∈ T,e.1<64∧e.2<64
theorem zg {s:Nat} {e:Nat × Nat} (hs:s<2 ^ 64) (h1:e.1<64) (h2:e.2<64):kz s e<2 ^ 64:=by
 unfold kz
 split
 ·exact wY (wY hs (kg h1)) (kg h2)
 ·exact hs
theorem mn {s i:Nat} {e:Nat × Nat}:(kz s e).testBit i=true↔s.testBit i=true∨((s.testBit e.1=true∨s.testBit e.2=true)∧(i=e.1∨i=e.2)):=by
 unfold kz
 by_cases h:(s.testBit e.1 || s.testBit e.2)=true
 ·rw[if_pos h];simp only[Nat.testBit_or,Bool.or_eq_true,tv,decide_eq_true_eq];rw[Bool.or_eq_true] at h;constructor
  ·rintro((h1|h1) | h1)
   ·exact .inl h1
   ·exact .inr ⟨h,.inl h1⟩
   ·exact .inr ⟨h,.inr h1⟩
  ·rintro(h1|⟨_,h1|h1⟩)
   ·exact .inl (.inl h1)
   ·exact .inl (.inr h1)
   ·exact .inr h1
 ·rw[if_neg h];rw[Bool.or_eq_true] at h;exact⟨.inl,fun h1=>h1.elim id fun h1=>absurd h1.1 h⟩
theorem uV {s i:Nat} {e:Nat × Nat} (h:s.testBit i=true):(kz s e).testBit i=true:=mn.2 (.inl h)
theorem qS:∀{T:List (Nat × Nat)} {s i:Nat},s.testBit i=true→(vo T s).testBit i=true
 | [],_,_,h=>h
 | e::T,s,i,h=>qS (T:=T) (uV (e:=e) h)
theorem wy:∀{T:List (Nat × Nat)} {s:Nat},Km T→s<2 ^ 64→vo T s<2 ^ 64
 | [],_,_,h=>h
 | e::T,s,ht,h=>wy (T:=T) (fun e he=>ht e (by simp[he])) (zg h (ht e (by simp)).1 (ht e (by simp)).2)
theorem G1 {T:List (Nat × Nat)} {x:Nat}:∀{T':List (Nat × Nat)} {s:Nat},(∀e ∈ T',e ∈ T)→(∀i,s.testBit i=true→Cn T x i)→∀i,(vo T' s).testBit i=true→Cn T x i
 | [],_,_,h=>h
 | e::T',s,ht,h=>G1 (T':=T') (fun e he=>ht e (by simp[he])) fun i hi=>by
  obtain⟨a,b⟩:=e;have hab:Nb T a b:=.inl (ht (a,b) (by simp))
  rcases mn.1 hi with h1|⟨h1,h2⟩
  ·exact h i h1
  ·rcases h1 with h1|h1<;>rcases h2 with rfl|rfl
   ·exact h _ h1
   ·exact .step (h _ h1) hab
   ·exact .step (h _ h1) hab.symm
   ·exact h _ h1
theorem sub_eq {a b:Nat} (h1:∀i,a.testBit i=true→b.testBit i=true) (h2:∀i,b.testBit i=true→a.testBit i=true):a=b:=tt fun i=>⟨h1 i,h2 i⟩
theorem vT:∀{T:List (Nat × Nat)} {s:Nat},vo T s=s→∀e ∈ T,(s.testBit e.1=true↔s.testBit e.2=true)
 | [],_,_,e,he=>by cases he
 | e::T,s,h,e',he=>by
  have h1:kz s e=s:=sub_eq (fun i hi=>by
   have:(vo T (kz s e)).testBit i=true:=qS hi;rw[show vo T (kz s e)=vo (e::T) s from rfl,h] at this; exact this) fun i hi=>uV hi
  rcases List.mem_cons.1 he with rfl|he
  ·constructor
   ·intro h2; rw[←h1]; exact mn.2 (.inr ⟨.inl h2,.inr rfl⟩)
   ·intro h2; rw[←h1]; exact mn.2 (.inr ⟨.inr h2,.inl rfl⟩)
  ·have h2:vo T s=s:=by
    have:vo (e::T) s=vo T (kz s e):=rfl;rw[this,h1] at h; exact h
   exact vT h2 e' he
def Oj (T:List (Nat × Nat)) (x w:Nat):Prop:=w<2 ^ 64∧∀j,w.testBit j=true↔Cn T x j
theorem Oj.uniq {T:List (Nat × Nat)} {x w w':Nat} (h:Oj T x w) (h':Oj T x w'):w=w':=tt fun i=>(h.2 i).trans (h'.2 i).symm
theorem NX {T:List (Nat × Nat)} {x w:Nat} (hw:w<2 ^ 64) (hx:w.testBit x=true) (hc:∀i,w.testBit i=true→Cn T x i) (hf:vo T w=w):Oj T x w:=by
 refine⟨hw,fun j=>⟨hc j,fun h=>?_⟩⟩;refine h.closed (Q:=fun j=>w.testBit j=true) hx fun a b ha hn=>?_;rcases hn with hn|hn
 ·exact(vT hf _ hn).1 ha
 ·exact(vT hf _ hn).2 ha
theorem yy {p q:Nat→Bool}:∀{l:List Nat},(∀x,p x=true→q x=true)→(∃x ∈ l,q x=true∧p x=false)→(l.filter p).length<(l.filter q).length:=by
 intro l
 induction l with
 | nil=>intro _ h; obtain⟨x,h,_⟩:=h; cases h
 | cons a l ih =>
  intro h1 h2;have hle:∀l:List Nat,(l.filter p).length≤(l.filter q).length:=fun l=>by
   induction l with
   | nil=>exact Nat.le_refl _
   | cons b l ih =>
    by_cases hb:p b=true
    ·rw[List.filter_cons_of_pos hb,List.filter_cons_of_pos (h1 b hb)]; simp only[List.length_cons]; omega
    ·rw[List.filter_cons_of_neg hb]
     by_cases hq:q b=true
     ·rw[List.filter_cons_of_pos hq]; simp only[List.length_cons]; omega
     ·rw[List.filter_cons_of_neg hq]; exact ih
  obtain⟨x,hx,h3,h4⟩:=h2
  by_cases ha:p a=true
  ·rw[List.filter_cons_of_pos ha,List.filter_cons_of_pos (h1 a ha)];have hx':x ∈ l:=by
    rcases List.mem_cons.1 hx with rfl|hx
    ·rw[ha] at h4; cases h4
    ·exact hx
   have:=ih h1 ⟨x,hx',h3,h4⟩;simp only[List.length_cons]; omega
  ·rw[List.filter_cons_of_neg ha]
   by_cases hq:q a=true
   ·rw[List.filter_cons_of_pos hq];have:=hle l;simp only[List.length_cons]; omega
   ·rw[List.filter_cons_of_neg hq];have hx':x ∈ l:=by
     rcases List.mem_cons.1 hx with rfl|hx
     ·exact absurd h3 hq
     ·exact hx
    exact ih h1 ⟨x,hx',h3,h4⟩
theorem JR {a b:Nat} (hb:b<2 ^ 64) (h:∀i,a.testBit i=true→b.testBit i=true) (hne:b≠a):rk a 64<rk b 64:=by
 refine yy (p:=fun i=>a.testBit i) (q:=fun i=>b.testBit i) h ?_;refine Classical.byContradiction fun hno=>hne (sub_eq (fun i hi=>?_) h);refine Classical.byContradiction fun hn=>hno ⟨i,List.mem_range.2 (oX hb hi),hi,by simpa using hn⟩
theorem FM {a x:Nat} (h:a.testBit x=true) (hx:x<64):1≤rk a 64:=List.length_pos_of_mem (df.2 ⟨hx,h⟩)
def QC (T:List (Nat × Nat)):Nat→Nat→Nat
 | 0,s=>s
 | k+1,s=>QC T k (vo T s)
theorem CR {T:List (Nat × Nat)} {x:Nat} (hT:Km T) (hx:x<64):∀(k s:Nat),s<2 ^ 64→s.testBit x=true→(∀i,s.testBit i=true→Cn T x i)→(vo T s=s∨65≤k+rk s 64)→Oj T x (QC T k s)
 | 0,s,hs,hb,hc,hk=>by
  rcases hk with hk|hk
  ·exact NX hs hb hc hk
  ·have:rk s 64≤64:=nQ _ _;omega
 | k+1,s,hs,hb,hc,hk=>by
  refine CR hT hx k (vo T s) (wy hT hs) (qS hb) (G1 (fun e h=>h) hc) ?_
  by_cases h:vo T s=s
  ·exact .inl (by rw[h,h])
  ·rcases hk with hk|hk
   ·exact absurd hk h
   ·have:=JR (wy hT hs) (fun i=>qS (T:=T)) h;exact .inr (by omega)
theorem Ks {T:List (Nat × Nat)} {x:Nat} (hT:Km T) (hx:x<64):Oj T x (QC T 64 (2 ^ x)):=by
 have hb:(2 ^ x).testBit x=true:=by rw[tv]; simp
 refine CR hT hx 64 (2 ^ x) (kg hx) hb (fun i hi=>?_) (.inr ?_)
 ·rw[tv,decide_eq_true_eq] at hi; rw[hi]; exact .refl
 ·have:=FM hb hx; omega
def eg (es:List (Int × Int)) (k:Int):Nat × Nat:=match es[k.toNat]? with
 | some e=>(e.1.toNat,e.2.toNat)
 | none=>(0,0)
def Vl (es:List (Int × Int)) (k:Int):Prop:=0≤k∧k<(es.length:Int)
theorem gm {N:Nat} {es:List (Int × Int)} {k:Int} (h:Okay N es) (hk:Vl es k):∃a b:Nat,es[k.toNat]? = some ((a:Int),(b:Int))∧eg es k=(a,b)∧a<b∧b<64∧b<N∧bz k es.length=true:=by
 obtain⟨i,rfl⟩:=Int.eq_ofNat_of_zero_le hk.1;have hi:i<es.length:=by have:=hk.2; omega
 obtain⟨a,b,e,h1,h2⟩:=h.mem _ (List.getElem_mem hi);have h3:es[((i:Nat):Int).toNat]? = some ((a:Int),(b:Int)):=by rw[Int.toNat_natCast,List.getElem?_eq_getElem hi,e]
 have:=h.le;exact⟨a,b,h3,by unfold eg; rw[h3]; simp,h1,by omega,h2,al hi⟩
theorem Ar {N:Nat} {es:List (Int × Int)} (h:Okay N es) {l:List Int} (hl:∀k ∈ l,Vl es k):Km (l.map (eg es)):=fun e he=>by
 obtain⟨k,hk,rfl⟩:=List.mem_map.1 he;obtain⟨a,b,_,h2,h3,h4,_⟩:=gm h (hl k hk);rw[h2]; exact⟨Nat.lt_trans h3 h4,h4⟩
theorem uE (T:List (Nat × Nat)):∀(l:List Nat) (s:Nat),l.foldl (fun s _=>vo T s) s=QC T l.length s
 | [],_=>rfl
 | _::l,s=>uE T l (vo T s)
theorem H7 {N:Nat} {es:List (Int × Int)} (h:Okay N es) {l:List Int} (hl:∀k ∈ l,Vl es k) (n0 n s:Nat) (hs:s<2 ^ 64) (hb:l.length<4611686018427387904) (hn:l.length<n):bE (uz n0 l es) n (s,0)=some (vo (l.map (eg es)) s):=by
 have:=AA (body:=uz n0 l es) l (fun(s:Nat) (v:Int)=>(s,v)) (fun s k=>kz s (eg es k)) id (fun _ s=>s<2 ^ 64) (fun s i k hk hI=>?_) (fun s _=>?_) (n:=n) (s:=s) hs hn
 ·rw[this.1]; unfold vo; rw[List.foldl_map]; rfl
 ·have hlt:=(List.getElem?_eq_some_iff.1 hk).1;obtain⟨a,b,h1,h2,h3,h4,_,h5⟩:=gm h (hl k (List.mem_of_getElem? hk));have hk':l[((i:Nat):Int).toNat]? = some k:=by rw[Int.toNat_natCast]; exact hk
  refine⟨?_,by rw[h2]; exact zg hI (by simp only; omega) (by simp only; omega)⟩
  unfold uz;simp only[decide_eq_true (show((i:Nat):Int)<(l.length:Int) by omega),bm,al hlt,az,hk',ah,h5,h1,jd n0 s a hI (by omega),jd n0 s b hI h4,qZ n0 a (by omega),qZ n0 b h4,aD (show i<4611686018427387904 by omega),h2]
  unfold kz;cases ha:s.testBit a<;>cases hbb:s.testBit b<;>simp only[bm,bu,ah,Bool.or_true,Bool.or_false,Bool.true_or,if_true,Bool.false_eq_true,if_false]<;>first
   | rfl
   | (rw[re hI (kg (show a<64 by omega)),re (wY hI (kg (show a<64 by omega))) (kg h4)])
 ·unfold uz;simp[br]
theorem Og {N:Nat} {es:List (Int × Int)} (h:Okay N es) {l:List Int} (hl:∀k ∈ l,Vl es k) (n i:Nat) (x:Int) (hi:i<64) (hb:l.length<4611686018427387904) (hn:l.length<n) (hn2:64<n):M1 n x es l (i:Int)=some (QC (l.map (eg es)) 64 (2 ^ i)):=by
 have:=KH (body:=yE n l es) 64 (fun(s:Nat) (v:Int)=>(s,v)) (fun s _=>vo (l.map (eg es)) s) id (fun _ s=>s<2 ^ 64) (fun s i hi hI=>?_) (fun s _=>?_) (n:=n) (s:=2 ^ i) (kg hi) hn2
 ·unfold M1;rw[qZ n i hi,ah,this.1,uE,List.length_range]; rfl
 ·refine⟨?_,wy (Ar h hl) hI⟩;unfold yE;simp only[decide_eq_true (show((i:Nat):Int)<64 by omega),bm,H7 h hl n n s hI hb hn,ah,aD (show i<4611686018427387904 by omega)]
 ·unfold yE;simp[br]
theorem wA {N:Nat} {es:List (Int × Int)} (h:Okay N es) {l:List Int} (hl:∀k ∈ l,Vl es k) (n i:Nat) (x:Int) (hi:i<64) (hb:l.length<4611686018427387904) (hn:l.length<n) (hn2:64<n):∃w,M1 n x es l (i:Int)=some w∧Oj (l.map (eg es)) i w:=⟨_,Og h hl n i x hi hb hn hn2,Ks (Ar h hl) hi⟩
theorem KB (n0:Nat) (l:List Int) (x:Int) (hb:l.length<4611686018427387904):∀k i n,i+k=l.length→k<n→∃r,bE (nF n0 l x) n ((i:Nat):Int)=some r∧((∃v,r = .inl v∧0≤v∧x ∈ l.drop i)∨(r = .inr ()∧x ∉ l.drop i)):=by
 intro k
 induction k with
 | zero =>
  intro i n hi hk;obtain⟨n,rfl⟩:∃n',n=n'+1:=⟨n-1,by omega⟩
  exact⟨_,aN (by unfold nF; rw[aJ (by omega)]),.inr ⟨rfl,by rw[List.drop_of_length_le (by omega)]; simp⟩⟩
 | succ k ih =>
  intro i n hi hk;obtain⟨n,rfl⟩:∃n',n=n'+1:=⟨n-1,by omega⟩
  have a1:i<l.length:=by omega
  have e1:l[((i:Nat):Int).toNat]? = some l[i]:=by simp[a1]
  rw[List.drop_eq_getElem_cons a1]
  by_cases h:x=l[i]
  ·exact⟨_,aN (r:=.inl ((i:Nat):Int)) (by unfold nF; simp only[decide_eq_true (show((i:Nat):Int)<(l.length:Int) by omega),bm,al a1,az,e1,ah,decide_eq_true h]),.inl ⟨_,rfl,Int.natCast_nonneg _,by rw[←h]; simp⟩⟩
  ·rw[aA (s':=((i+1:Nat):Int)) (by unfold nF; simp only[decide_eq_true (show((i:Nat):Int)<(l.length:Int) by omega),bm,al a1,az,e1,ah,decide_eq_false h,bu,aD (show i<4611686018427387904 by omega)])]
   obtain⟨r,h1,h2⟩:=ih (i+1) n (by omega) (by omega)
   refine⟨r,h1,?_⟩;rcases h2 with⟨v,h2,h3,h4⟩|⟨h2,h3⟩
   ·exact .inl ⟨v,h2,h3,List.mem_cons_of_mem _ h4⟩
   ·exact .inr ⟨h2,fun hm=>by rcases List.mem_cons.1 hm with hm|hm; exact h hm; exact h3 hm⟩
theorem FA (n:Nat) (l:List Int) (x:Int) (hb:l.length<4611686018427387904) (hn:l.length<n):PU n l x=some (decide (x ∈ l)):=by
 obtain⟨r,h1,h2⟩:=KB n l x hb l.length 0 n (by omega) hn
 rw[List.drop_zero] at h2;unfold PU Kq;rw[show bE (nF n l x) n 0=some r from h1]
 rcases h2 with⟨v,rfl,h3,h4⟩|⟨rfl,h3⟩
 ·simp only[ah,decide_eq_true h3,decide_eq_true h4]
 ·simp only[ah,decide_eq_false h3]; rfl
theorem Oq (n0 x:Nat) (hx:x<2 ^ 64) (h0:0<x):∀k i n,i+k=tz x→k<n→bE (uI n0 x) n ((i:Nat):Int)=some ((tz x:Nat):Int):=by
 have ht:=nd h0 hx;have h64:tz x<64:=oX hx ht.1;intro k
 induction k with
 | zero =>
  intro i n hi hk;obtain⟨n,rfl⟩:∃n',n=n'+1:=⟨n-1,by omega⟩
  have:i=tz x:=by omega
  subst this;exact aN (by unfold uI; rw[jd n0 x _ hx h64,ah,ht.1]; rfl)
 | succ k ih =>
  intro i n hi hk;obtain⟨n,rfl⟩:∃n',n=n'+1:=⟨n-1,by omega⟩
  rw[aA (s':=((i+1:Nat):Int)) (by unfold uI; rw[jd n0 x _ hx (by omega),ah,ht.2 i (by omega),aD (by omega)]; rfl)]
  exact ih (i+1) n (by omega) (by omega)
theorem Ng (n x:Nat) (hx:x<2 ^ 64) (h0:0<x) (hn:64<n):Py n x=some ((tz x:Nat):Int):=by
 have h64:tz x<64:=oX hx (nd h0 hx).1;unfold Py;rw[show bE (uI n x) n 0=_ from Oq n x hx h0 (tz x) 0 n (by omega) (by omega),ah]
def gw (es:List (Int × Int)):List Int→Nat→(Nat→Nat)→List (List Int)
 | _,0,_=>[[]]
 | [],_+1,_=>[]
 | k::L,d+1,r=>(if r (eg es k).1=r (eg es k).2 then[] else(gw es L d (bN r (eg es k))).map (k::·))++gw es L (d+1) r
def Iw (p q y:Nat):Nat:=if y=p then q else y
theorem xW {p q y z:Nat} (h:p≠q):Iw p q y=Iw p q z↔y=z∨((y=p∨y=q)∧(z=p∨z=q)):=by
 unfold Iw
 split<;>split<;>omega
theorem rX (r:Nat→Nat) (e:Nat × Nat) (v:Nat):bN r e v=Iw (max (r e.1) (r e.2)) (min (r e.1) (r e.2)) (r v):=rfl
theorem o9 {r:Nat→Nat} {e:Nat × Nat} (h:r e.1≠r e.2) (v w:Nat):bN r e v=bN r e w↔r v=r w∨((r v=r e.1∨r v=r e.2)∧(r w=r e.1∨r w=r e.2)):=by
 rw[rX,rX,xW (by omega)]
 omega
theorem qX (ρ:Nat→Nat) (u v i:Nat):mg ρ u v i=Iw u v (ρ i):=rfl
theorem HF {ρ:Nat→Nat} {s a b:Nat} (h:ρ a≠ρ b) (i j:Nat):(if ρ a=s then mg ρ (ρ b) (ρ a) else mg ρ (ρ a) (ρ b)) i=(if ρ a=s then mg ρ (ρ b) (ρ a) else mg ρ (ρ a) (ρ b)) j↔ρ i=ρ j∨((ρ i=ρ a∨ρ i=ρ b)∧(ρ j=ρ a∨ρ j=ρ b)):=by
 by_cases hs:ρ a=s
 ·simp only[if_pos hs];rw[qX,qX,xW (fun e=>h e.symm)];omega
 ·simp only[if_neg hs];rw[qX,qX,xW h]
def dg (s:Nat) (ρ:Nat→Nat):Nat:=((List.range s).filter fun i=>ρ i == i).length
theorem Kd {s:Nat} {ρ:Nat→Nat} (h:Rho s ρ) {a b:Nat} (ha:a≤s) (hb:b≤s) (hab:ρ a≠ρ b):dg s ρ=dg s (if ρ a=s then mg ρ (ρ b) (ρ a) else mg ρ (ρ a) (ρ b))+1:=by
 have key:∀u v,ρ u=u→ρ v=v→u≠v→u<s→dg s ρ=dg s (mg ρ u v)+1:=fun u v hu hv huv hus=>by
  refine kU List.nodup_range (List.mem_range.2 hus) (by simpa using hu) fun i=>?_
  simp only[beq_iff_eq];unfold mg;constructor
  ·intro h1
   by_cases hi:ρ i=u
   ·rw[if_pos hi] at h1;rw[←h1,hv] at hi;exact absurd hi.symm huv
   ·rw[if_neg hi] at h1;exact⟨h1,fun e=>hi (by rw[h1,e])⟩
  ·rintro⟨h1,h2⟩;rw[if_neg (fun e=>h2 (by rw[←h1,e])),h1]
 by_cases hs:ρ a=s
 ·rw[if_pos hs];have h1:=h.le b hb;exact key _ _ (h.idem b) (h.idem a) (fun e=>hab e.symm) (by omega)
 ·rw[if_neg hs];have h1:=h.le a ha;exact key _ _ (h.idem a) (h.idem b) hab (by omega)
theorem rf {s:Nat} {ρ:Nat→Nat}:dg s ρ=0↔(List.range s).all (fun i=>ρ i != i)=true:=by
 unfold dg;rw[List.length_eq_zero_iff,List.filter_eq_nil_iff,List.all_eq_true];simp
theorem oL {s:Nat} {ρ:Nat→Nat} (h:Rho s ρ) (h0:dg s ρ=0) {i:Nat} (hi:i≤s):ρ i=s:=by
 have h1:=List.all_eq_true.1 (rf.1 h0);have h2:=h.le i hi
 by_cases h3:ρ i<s
 ·have h4:=h1 (ρ i) (List.mem_range.2 h3);rw[h.idem] at h4;simp at h4
 ·omega
theorem yB {s:Nat} {ρ:Nat→Nat} (h:Rho s ρ) (h0:dg s ρ=0):∀E:List (Nat × Nat),(∀e ∈ E,e.1≤s∧e.2≤s)→rj s ρ E=1
 | [],_=>by simp only[rj]; rw[if_pos (rf.1 h0)]
 | (a,b)::E,hE=>by
  have ha:a≤s:=(hE (a,b) List.mem_cons_self).1;have hb:b≤s:=(hE (a,b) List.mem_cons_self).2;simp only[rj];rw[if_pos (by rw[oL h h0 ha,oL h h0 hb]),yB h h0 E fun e he=>hE e (List.mem_cons_of_mem _ he)]
theorem By {es:List (Int × Int)} {V:Nat→Prop} {s:Nat} {ψ:Nat→Nat} (hψ:∀v,V v→ψ v≤s) :
  ∀(L:List Int) (r ρ:Nat→Nat),Rho s ρ→(∀v w,V v→V w→(r v=r w↔ρ (ψ v)=ρ (ψ w)))→(∀k ∈ L,V (eg es k).1∧V (eg es k).2) →
   (gw es L (dg s ρ) r).length=rj s ρ (jz ψ (L.map (eg es)))
 | [],r,ρ,h,hr,_=>by
  simp only[List.map_nil,jz,rj]
  by_cases h0:dg s ρ=0
  ·rw[if_pos (rf.1 h0),h0]; rfl
  ·rw[if_neg (fun e=>h0 (rf.2 e))];obtain⟨d,hd⟩:∃d,dg s ρ=d+1:=⟨dg s ρ-1,by omega⟩
   rw[hd]; rfl
 | k::L,r,ρ,h,hr,hL=>by
  obtain⟨va,vb⟩:=hL k List.mem_cons_self;have hL':=fun k' hk'=>hL k' (List.mem_cons_of_mem _ hk');have ha:=hψ _ va;have hb:=hψ _ vb
  by_cases h0:dg s ρ=0
  ·rw[yB h h0 _ (fun e he=>by
    obtain⟨e',h1,rfl⟩:=List.mem_map.1 he;obtain⟨k',h2,rfl⟩:=List.mem_map.1 h1;exact⟨hψ _ (hL k' h2).1,hψ _ (hL k' h2).2⟩),h0]
   rfl
  ·have ih:=By (es:=es) hψ L r ρ h hr hL';have hc:jz ψ ((k::L).map (eg es))=(ψ (eg es k).1,ψ (eg es k).2)::jz ψ (L.map (eg es)):=rfl;rw[hc];simp only[rj]
   by_cases hab:ρ (ψ (eg es k).1)=ρ (ψ (eg es k).2)
   ·rw[if_pos hab,Nat.add_zero,←ih];obtain⟨d,hd⟩:∃d,dg s ρ=d+1:=⟨dg s ρ-1,by omega⟩
    rw[hd];simp only[gw];rw[if_pos ((hr _ _ va vb).2 hab),List.nil_append]
   ·rw[if_neg hab,←ih];have hra:r (eg es k).1≠r (eg es k).2:=fun e=>hab ((hr _ _ va vb).1 e);have ih2:=By (es:=es) hψ L (bN r (eg es k)) _ (h.step ha hb hab) (fun v w hv hw=>by
     rw[o9 hra,HF hab,hr v w hv hw,hr v _ hv va,hr v _ hv vb,hr w _ hw va,hr w _ hw vb]) hL'
    have hd:=Kd h ha hb hab;rw[hd];simp only[gw];rw[if_neg hra,List.length_append,List.length_map,ih2];omega
def eW (es:List (Int × Int)) (x:Nat) (k:Int):Bool:=decide (0≤k∧k<(es.length:Int)) && x.testBit (eg es k).1 && x.testBit (eg es k).2
theorem mZ {es:List (Int × Int)} {x:Nat} {k:Int} (h:eW es x k=true):Vl es k∧x.testBit (eg es k).1=true∧x.testBit (eg es k).2=true:=by
 simp only[eW,Bool.and_eq_true,decide_eq_true_eq] at h;exact⟨h.1.1,h.1.2,h.2⟩
theorem Bp {N:Nat} {es:List (Int × Int)} (h:Okay N es) (n:Nat) (x1 k:Int) (x:Nat) (hx:x<2 ^ 64):Pk n x1 es x k=some (eW es x k):=by
 unfold Pk
 by_cases h1:0≤k
 ·by_cases h2:k<(es.length:Int)
  ·obtain⟨a,b,e1,e2,e3,e4,_,e5⟩:=gm h ⟨h1,h2⟩;have ha:a<64:=by omega
   simp only[decide_eq_true h1,decide_eq_true h2,bm,e5,az,e1,ah,jd n x a hx ha,jd n x b hx e4,eW,e2,h1,h2,and_self,decide_true,Bool.true_and];cases x.testBit a<;>rfl
  ·simp only[decide_eq_true h1,decide_eq_false h2,bm,bu,eW,h2,and_false,decide_false,Bool.false_and]
 ·simp only[decide_eq_false h1,bu,eW,h1,false_and,decide_false,Bool.false_and]
theorem jY (n x a b:Nat) (hx:x<2 ^ 64) (ha:a<64) (hb:b<64):I6 n x (a:Int) (b:Int)=some (x.testBit a && x.testBit b):=by
 unfold I6;rw[decide_eq_true (Int.natCast_nonneg a),decide_eq_true (Int.natCast_nonneg b),az,az,Int.toNat_natCast,Int.toNat_natCast,wF hx (by omega),wF hx (by omega)]
 cases x.testBit a<;>rfl
def DD (es:List (Int × Int)) (x:Nat):Int→List Int→Bool
 | _,[]=>true
 | p,k::l=>eW es x k && decide (p<k) && DD es x k l
theorem qJ {es:List (Int × Int)} {x:Nat}:∀{l:List Int} {p:Int},DD es x p l=true→∀k ∈ l,eW es x k=true∧p<k
 | [],_,_,k,hk=>by cases hk
 | a::l,p,h,k,hk=>by
  simp only[DD,Bool.and_eq_true,decide_eq_true_eq] at h;rcases List.mem_cons.1 hk with rfl|hk
  ·exact h.1
  ·have:=qJ h.2 k hk;exact⟨this.1,by omega⟩
theorem DH {es:List (Int × Int)} {x:Nat}:∀{l:List Int} {p:Int},DD es x p l=true→l.Pairwise (· < ·)
 | [],_,_=>.nil
 | a::l,p,h=>by
  simp only[DD,Bool.and_eq_true,decide_eq_true_eq] at h;exact List.pairwise_cons.2 ⟨fun k hk=>(qJ h.2 k hk).2,DH h.2⟩
def Mr (l:List Int) (i:Nat) (p:Int):Prop:=(i=0∧p = -1)∨(0<i∧l[i-1]? = some p)
theorem NO {N:Nat} {es:List (Int × Int)} (h:Okay N es) (n0:Nat) (x1:Int) (x:Nat) (hx:x<2 ^ 64) (l:List Int) (hb:l.length<4611686018427387904):∀k i p n,Mr l i p→i+k=l.length→k<n→bE (sT n0 l x1 es x) n (i:Int)=some (if DD es x p (l.drop i) then .inr () else .inl ()):=by
 intro k
 induction k with
 | zero =>
  intro i p n hp hi hk;obtain⟨n,rfl⟩:∃n',n=n'+1:=⟨n-1,by omega⟩
  rw[List.drop_of_length_le (by omega)]
  exact aN (by unfold sT; rw[aJ (by omega)]; rfl)
 | succ k ih =>
  intro i p n hp hi hk;obtain⟨n,rfl⟩:∃n',n=n'+1:=⟨n-1,by omega⟩
  have a1:i<l.length:=by omega
  have e1:l[((i:Nat):Int).toNat]? = some l[i]:=by simp[a1]
  rw[List.drop_eq_getElem_cons a1];have hnext:Mr l (i+1) l[i]:=.inr ⟨by omega,by simp[a1]⟩
  have hih:=ih (i+1) l[i] n hnext (by omega) (by omega)
  generalize l[i]=y at *;have key:sT n0 l x1 es x (i:Int)=if (eW es x y && decide (p<y))=true then some (.inl ((i+1:Nat):Int)) else some (.inr (.inl ())):=by
   unfold sT;simp only[decide_eq_true (show((i:Nat):Int)<(l.length:Int) by omega),bm,al a1,az,e1,ah,Bp h n0 x1 y x hx]
   by_cases h1:eW es x y=true
   ·simp only[h1,Bool.not_true,bu,Bool.true_and,decide_eq_true_eq];rcases hp with⟨rfl,rfl⟩|⟨hi0,hp⟩
    ·have:(-1:Int)<y:=by have:=(mZ h1).1.1; omega
     rw[if_pos this];simp[br,ob,aD]
     rfl
    ·have hi1:IntKind.wrap .i64 ((i:Int)-1)=((i-1:Nat):Int):=by rw[aE (by omega) (by omega)]; omega
     simp only[decide_eq_true (show(0:Int)<(i:Int) by omega),bm,hi1,al (show i-1<l.length by omega),az,Int.toNat_natCast,hp,ah]
     by_cases h2:p<y
     ·rw[if_pos h2,decide_eq_false (by omega),bu,aD (by omega)]
     ·rw[if_neg h2,decide_eq_true (by omega),bm]
   ·rw[Bool.not_eq_true] at h1;simp only[h1,Bool.not_false,bm,ah,Bool.false_and,Bool.false_eq_true,if_false]
  unfold DD
  by_cases h1:(eW es x y && decide (p<y))=true
  ·rw[if_pos h1] at key;rw[aA key,hih,h1,Bool.true_and]
  ·rw[if_neg h1] at key;rw[aN key];rw[Bool.not_eq_true] at h1;rw[h1,Bool.false_and]; rfl
structure Fst (p:List Int) (r:Nat→Nat):Prop where
 len:p.length=64
 at_:∀v,v<64→∃y:Nat,p[v]? = some (y:Int)∧y≤v∧(y=v→r v=v)∧(y≠v→r v=r y)
theorem Fst.root {p:List Int} {r:Nat→Nat} (h:Fst p r) (n0:Nat):∀(v n:Nat),v<64→v<n→bE (gp n0 p) n (v:Int)=some ((r v:Nat):Int):=by
 intro v
 induction v using Nat.strongRecOn with
 | _ v ih =>
  intro n hv hn;obtain⟨n,rfl⟩:∃n',n=n'+1:=⟨n-1,by omega⟩
  obtain⟨y,h1,h2,h3,h4⟩:=h.at_ v hv;have hb:bz (v:Int) p.length=true:=al (by rw[h.len]; exact hv)
  by_cases hy:y=v
  ·rw[h3 hy];exact aN (by unfold gp; simp[hb,h1,hy,gd,ob,br])
  ·rw[h4 hy,aA (s':=(y:Int)) (by unfold gp; simp only[hb,az,Int.toNat_natCast,h1,ah]; rw[decide_eq_false (by omega)]; rfl)]
   exact ih y (by omega) n (by omega) (by omega)
theorem rm {p:List Int} {r:Nat→Nat} (h:Fst p r) (n v:Nat) (hv:v<64) (hn:64<n):Av n p (v:Int)=some ((r v:Nat):Int):=by
 unfold Av;rw[h.root n v n hv (by omega),ah]
theorem Fst.join {p:List Int} {r:Nat→Nat} {E:List (Nat × Nat)} (h:Fst p r) (hr:Rt r E) {e:Nat × Nat} (h1:e.1<64) (h2:e.2<64):Fst (p.set (max (r e.1) (r e.2)) ((min (r e.1) (r e.2):Nat):Int)) (bN r e):=by
 have l1:=hr.le e.1;have l2:=hr.le e.2;have hM:max (r e.1) (r e.2)<64:=by omega
 have hrM:r (max (r e.1) (r e.2))=max (r e.1) (r e.2):=by
  rcases Nat.le_total (r e.1) (r e.2) with g|g
  ·rw[Nat.max_eq_right g,hr.rr]
  ·rw[Nat.max_eq_left g,hr.rr]
 have hrm:r (min (r e.1) (r e.2))=min (r e.1) (r e.2):=by
  rcases Nat.le_total (r e.1) (r e.2) with g|g
  ·rw[Nat.min_eq_left g,hr.rr]
  ·rw[Nat.min_eq_right g,hr.rr]
 refine⟨by rw[List.length_set,h.len],fun v hv=>?_⟩
 simp only[bN]
 by_cases hvM:v=max (r e.1) (r e.2)
 ·subst hvM;refine⟨min (r e.1) (r e.2),by rw[List.getElem?_set_self (by rw[h.len]; exact hM)],by omega,fun hy=>?_,fun hy=>?_⟩
  ·rw[if_pos hrM]; exact hy
  ·rw[if_pos hrM,hrm,if_neg hy]
 ·obtain⟨y,g1,g2,g3,g4⟩:=h.at_ v hv;refine⟨y,by rw[List.getElem?_set_ne (fun e=>hvM e.symm)]; exact g1,g2,fun hy=>?_,fun hy=>?_⟩
  ·rw[g3 hy,if_neg hvM]
  ·rw[g4 hy]
theorem Cw (n:Nat) (hn:64<n):∃p,Pj n=some p∧Fst p (fun x=>x):=by
 have:=ju (body:=zl n) 64 (fun(s:List Int) (v:Int)=>(s,v)) id (fun i s=>s.length=64∧∀v,v<i→s[v]? = some (v:Int)) (fun s i hi hI=>?_) (fun s _=>?_) (n:=n) (s:=List.replicate 64 (0:Int)) ⟨by simp,fun v hv=>absurd hv (Nat.not_lt_zero _)⟩ hn
 ·obtain⟨p,h1,h2,h3⟩:=this;refine⟨p,?_,h2,fun v hv=>⟨v,h3 v hv,Nat.le_refl _,fun _=>rfl,fun h=>absurd rfl h⟩⟩;unfold Pj;have e:(List.replicate (64:Int).toNat (0:Int))=List.replicate 64 0:=rfl;rw[e,decide_eq_true (by decide),az,show gY ((64:Int).toNat)=true from rfl,az,h1]; rfl
 ·refine⟨s.set i (i:Int),?_,by rw[List.length_set]; exact hI.1,fun v hv=>?_⟩
  ·unfold zl;have e:((64:Int).toNat)=64:=rfl;have hs:s[i]? = some (s[i]'(by rw[hI.1]; exact hi)):=List.getElem?_eq_getElem _
   simp only[e,decide_eq_true (show((i:Nat):Int)<((64:Nat):Int) by omega),bm,al hi,az,Int.toNat_natCast,hs,ah,aD (show i<4611686018427387904 by omega)]
  ·by_cases hvi:v=i
   ·subst hvi; rw[List.getElem?_set_self (by rw[hI.1]; exact hi)]
   ·rw[List.getElem?_set_ne (fun e=>hvi e.symm)]; exact hI.2 v (by omega)
 ·unfold zl;simp[br]
def Pb (es:List (Int × Int)) (x:Nat):Int→(Nat→Nat)→List Int→Bool
 | _,_,[]=>true
 | p,r,k::l=>decide (p<k) && eW es x k && !(r (eg es k).1 == r (eg es k).2) && Pb es x k (bN r (eg es k)) l
theorem FJ (es:List (Int × Int)) (x:Nat):∀(l:List Int) (p:Int) (r:Nat→Nat),Pb es x p r l=(DD es x p l && aY r (l.map (eg es)))
 | [],_,_=>rfl
 | k::l,p,r=>by
  simp only[Pb,DD,List.map_cons,aY];rw[FJ es x l];cases decide (p<k)<;>cases eW es x k<;>cases(r (eg es k).1 == r (eg es k).2)<;>cases DD es x k l<;>cases aY (bN r (eg es k)) (l.map (eg es))<;>rfl
theorem NK {N:Nat} {es:List (Int × Int)} (h:Okay N es) (n0:Nat) (x:Nat) (hx:x<2 ^ 64) (hn0:64<n0) (l:List Int) (hb:l.length<4611686018427387904):∀k i last p r E n,Fst p r→Rt r E→-1≤last→i+k=l.length→k<n→bE (mJ n0 l es x) n (p,p.length,last,(i:Int))=some (if Pb es x last r (l.drop i) then .inr () else .inl ()):=by
 intro k
 induction k with
 | zero =>
  intro i last p r E n hp hr hlast hi hk;obtain⟨n,rfl⟩:∃n',n=n'+1:=⟨n-1,by omega⟩
  rw[List.drop_of_length_le (by omega)]
  exact aN (by unfold mJ; simp only; rw[aJ (by omega)]; rfl)
 | succ k ih =>
  intro i last p r E n hp hr hlast hi hk;obtain⟨n,rfl⟩:∃n',n=n'+1:=⟨n-1,by omega⟩
  have a1:i<l.length:=by omega
  have e1:l[((i:Nat):Int).toNat]? = some l[i]:=by simp[a1]
  rw[List.drop_eq_getElem_cons a1];have e2:l[i]? = some (l[i]'a1):=by simp[a1]
  have hih:=fun p r E hp hr hl=>ih (i+1) (l[i]'a1) p r E n hp hr hl (by omega) (by omega)
  generalize l[i]=y at *;unfold Pb
  by_cases h1:last<y
  ·by_cases h2:y<(es.length:Int)
   ·obtain⟨a,b,g1,g2,g3,g4,_,g5⟩:=gm h (k:=y) ⟨by omega,h2⟩
    have ha:a<64:=by omega
    have hin:eW es x y=(x.testBit a && x.testBit b):=by
     simp only[eW,g2];rw[decide_eq_true ⟨by omega,h2⟩,Bool.true_and]
    rw[decide_eq_true h1,Bool.true_and,hin,g2];simp only
    by_cases h3:(x.testBit a && x.testBit b)=true
    ·have hM:max (r a) (r b)<p.length:=by rw[hp.len]; have:=hr.le a; have:=hr.le b; omega
     have hma:ma ((r a:Nat):Int) ((r b:Nat):Int)=((max (r a) (r b):Nat):Int):=by simp only[ma]; omega
     have hmi:mi ((r a:Nat):Int) ((r b:Nat):Int)=((min (r a) (r b):Nat):Int):=by simp only[mi]; omega
     have hpM:p[max (r a) (r b)]? = some (p[max (r a) (r b)]'hM):=List.getElem?_eq_getElem _;have key:mJ n0 l es x (p,p.length,last,(i:Int))=if r a=r b then some (.inr (.inl ())) else some (.inl (p.set (max (r a) (r b)) ((min (r a) (r b):Nat):Int),(p.set (max (r a) (r b)) ((min (r a) (r b):Nat):Int)).length,y,((i+1:Nat):Int))):=by
      unfold mJ;simp only[decide_eq_true (show((i:Nat):Int)<(l.length:Int) by omega),bm,al a1,az,e1,e2,ah,decide_eq_false (show ¬y≤last by omega),bu,decide_eq_false (show ¬(es.length:Int)≤y by omega),g5,g1,jY n0 x a b hx ha g4,h3,Bool.not_true,rm hp n0 a ha hn0,rm hp n0 b g4 hn0,hma,hmi,al hM,Int.toNat_natCast,hpM,aD (show i<4611686018427387904 by omega),List.length_set]
      by_cases h5:r a=r b
      ·rw[if_pos h5,decide_eq_true (by omega)]; rfl
      ·rw[if_neg h5,decide_eq_false (by omega)]; rfl
     by_cases h5:r a=r b
     ·rw[if_pos h5] at key;rw[aN key,h3,h5];simp
     ·rw[if_neg h5] at key;rw[aA key,hih _ _ _ (hp.join hr (e:=(a,b)) ha g4) (hr.join (a,b)) (by omega),h3]
      have:(r a == r b)=false:=by simpa using h5
      rw[this];simp only[Bool.not_false,Bool.true_and]
    ·rw[Bool.not_eq_true] at h3;rw[aN (r:=.inl ()) (by
      unfold mJ;simp only[decide_eq_true (show((i:Nat):Int)<(l.length:Int) by omega),bm,al a1,az,e1,ah,decide_eq_false (show ¬y≤last by omega),bu,decide_eq_false (show ¬(es.length:Int)≤y by omega),g5,g1,jY n0 x a b hx ha g4,h3,Bool.not_false]),h3]
     simp
   ·have hin:eW es x y=false:=by
     simp only[eW];rw[decide_eq_false (fun g=>h2 g.2),Bool.false_and,Bool.false_and]
    rw[aN (r:=.inl ()) (by
     unfold mJ;simp only[decide_eq_true (show((i:Nat):Int)<(l.length:Int) by omega),bm,al a1,az,e1,ah,decide_eq_false (show ¬y≤last by omega),bu,decide_eq_true (show(es.length:Int)≤y by omega)]),hin]
    simp
  ·rw[aN (r:=.inl ()) (by
    unfold mJ;simp only[decide_eq_true (show((i:Nat):Int)<(l.length:Int) by omega),bm,al a1,az,e1,ah,decide_eq_true (show y≤last by omega)]),decide_eq_false h1]
   simp
def Mi (es:List (Int × Int)) (x:Nat) (l:List Int):Bool:=DD es x (-1) l && decide (l.length+1=rk x 64) && aY (fun v=>v) (l.map (eg es))
def Mp (N:Int) (es:List (Int × Int)) (x:Nat) (l:List Int):Int:=if kB N es then(if x=0∨2 ^ N.toNat≤x then 2 else if Mi es x l then 0 else 300) else 180
theorem size_eq {l:List Int} {x:Nat} (hb:l.length<4611686018427387904) (h0:1≤rk x 64):decide ((l.length:Int)=IntKind.wrap .i64 (((rk x 64:Nat):Int)-1))=decide (l.length+1=rk x 64):=by
 have h1:rk x 64≤64:=nQ _ _;rw[aE (by omega) (by omega)]
 by_cases h:l.length+1=rk x 64
 ·rw[decide_eq_true h,decide_eq_true (by omega)]
 ·rw[decide_eq_false h,decide_eq_false (by omega)]
theorem mb {x:Nat} (hx:x<2 ^ 64) (h0:x≠0):1≤rk x 64:=by
 have:=nd (Nat.pos_of_ne_zero h0) hx;exact FM this.1 (oX hx this.1)
theorem Ft (n:Nat) (N:Int) (es:List (Int × Int)) (x:Nat) (l:List Int) (hx:x<2 ^ 64) (hb:l.length<4611686018427387904) (hl:es.length<4611686018427387904) (hk:es.length<n) (hn:64<n) (hln:l.length<n):Mx n N es x l=some (Mp N es x l):=by
 unfold Mx N6 Mp;rw[C8 n N es (by omega) hl hk,ah]
 by_cases hok:kB N es=true
 ·obtain⟨M,rfl,hO⟩:=gH hok;simp only[DV,hok,if_true,decide_true,Bool.not_true,bu,Int.toNat_natCast]
  by_cases h0:x=0
  ·simp[h0,br,ob]
  ·rw[xF n x hx];simp only[decide_eq_false h0,bu,ah,h0,false_or]
   by_cases h2:2 ^ M≤x
   ·have:M<bl x:=lH.2 h2;rw[decide_eq_true (show((M:Nat):Int)<((bl x:Nat):Int) by omega),if_pos h2]; rfl
   ·have:¬M<bl x:=fun g=>h2 (lH.1 g);rw[decide_eq_false (show ¬((M:Nat):Int)<((bl x:Nat):Int) by omega),if_neg h2]
    obtain⟨p,hp1,hp2⟩:=Cw n hn;have:=NK hO n x hx hn l hb l.length 0 (-1) p (fun v=>v) [] n hp2 Rt.id (Int.le_refl _) (by omega) hln
    rw[List.drop_zero] at this;simp only[bu,ah,decide_true,decide_false,Bool.not_true,hp1];have t2:bE (mJ n l es x) n (p,p.length,-1,0)=some (if Pb es x (-1) (fun v=>v) l then .inr () else .inl ()):=this
    rw[t2,ah,FJ,MT n x hx];unfold Mi;cases hr:DD es x (-1) l<;>cases ha:aY (fun v=>v) (l.map (eg es))<;>simp only[Bool.and_true,Bool.and_false,Bool.true_and,Bool.false_and,if_true,Bool.false_eq_true,if_false,ah,decide_false,bu,decide_true,Bool.not_true,size_eq hb (mb hx h0)];cases decide (l.length+1=rk x 64)<;>rfl
 ·rw[Bool.not_eq_true] at hok;simp[DV,hok,br,ob]
theorem pP (x:Nat):(dU x 64).Nodup:=(Cl x 64).imp fun h=>Nat.ne_of_lt h
theorem sF {N:Nat} {es:List (Int × Int)} (h:Okay N es) {x:Nat} {l:List Int} (hl:∀k ∈ l,eW es x k=true):∀e ∈ l.map (eg es),e.1 ∈ dU x 64∧e.2 ∈ dU x 64:=fun e he=>by
 obtain⟨k,hk,rfl⟩:=List.mem_map.1 he;obtain⟨h1,h2,h3⟩:=mZ (hl k hk);obtain⟨a,b,_,g2,g3,g4,_⟩:=gm h h1;rw[g2] at h2 h3 ⊢;exact⟨df.2 ⟨Nat.lt_trans g3 g4,h2⟩,df.2 ⟨g4,h3⟩⟩
theorem Nr {N:Nat} {es:List (Int × Int)} (h:Okay N es) {x v j:Nat} {l:List Int} (hl:∀k ∈ l,eW es x k=true) (hv:x.testBit v=true) (hc:Cn (l.map (eg es)) v j):x.testBit j=true :=
 hc.closed (Q:=fun j=>x.testBit j=true) hv fun a b _ hn=>by
  rcases hn with hn|hn
  ·exact(df.1 (sF h hl _ hn).2).2
  ·exact(df.1 (sF h hl _ hn).1).2
theorem Aw {N:Nat} {es:List (Int × Int)} (h:Okay N es) {x v:Nat} {l:List Int} (hx:x<2 ^ 64) (hl:∀k ∈ l,eW es x k=true) (hlen:l.length+1=rk x 64) (hv:x.testBit v=true):aY (fun v=>v) (l.map (eg es))=true↔∀j,x.testBit j=true→Cn (l.map (eg es)) v j:=by
 have h0:=oX hx hv;rw[FK (pP x) (sF h hl) (df.2 ⟨h0,hv⟩) (by rw[List.length_map]; exact hlen)]
 exact⟨fun g j hj=>g j (df.2 ⟨oX hx hj,hj⟩),fun g j hj=>g j (df.1 hj).2⟩
theorem HZ (n:Nat) (N:Int) (es:List (Int × Int)) (x:Nat) (l:List Int) (hx:x<2 ^ 64) (hb:l.length<4611686018427387904) (hl:es.length<4611686018427387904) (hk:es.length<n) (hn:64<n) (hln:l.length<n):LN n N es x l=some (Mp N es x l):=by
 unfold LN LP Mp;rw[wL n N es hl hk,ah]
 by_cases hok:kB N es=true
 ·obtain⟨M,rfl,hO⟩:=gH hok;simp only[DV,hok,if_true,decide_true,Bool.not_true,bu,Int.toNat_natCast]
  by_cases h0:x=0
  ·simp[h0,br,ob]
  ·rw[Cu n M es x hx hl hk];simp only[decide_eq_false h0,bu,ah,h0,false_or,Q3,hok,if_true,Int.toNat_natCast]
   by_cases h2:2 ^ M≤x
   ·rw[if_pos h2,if_pos h2]; rfl
   ·rw[if_neg h2,if_neg h2];have:=NO hO n (M:Int) x hx l hb l.length 0 (-1) n (.inl ⟨rfl,rfl⟩) (by omega) hln
    rw[List.drop_zero] at this;unfold Q4;have t2:bE (sT n l (M:Int) es x) n 0=some (if DD es x (-1) l then .inr () else .inl ()):=this
    rw[t2,ah];unfold Mi;cases hr:DD es x (-1) l with
    | false=>rfl
    | true =>
     simp only[if_true,Bool.true_and,nj n x hx hn,ah,size_eq hb (mb hx h0),Ng n x hx (Nat.pos_of_ne_zero h0) hn];cases hlen:decide (l.length+1=rk x 64) with
     | false=>rfl
     | true =>
      have hlen':=of_decide_eq_true hlen;have hinn:∀k ∈ l,eW es x k=true:=fun k hk=>(qJ hr k hk).1;have htz:=nd (Nat.pos_of_ne_zero h0) hx;have h64:=oX hx htz.1;obtain⟨w,hw1,hw2⟩:=wA hO (l:=l) (fun k hk=>(mZ (hinn k hk)).1) n (tz x) (M:Int) h64 hb hln hn;simp only[bm,hw1,ah,Bool.true_and];have:decide (w=x)=aY (fun v=>v) (l.map (eg es)):=by
       rw[Bool.eq_iff_iff,decide_eq_true_eq,Aw hO hx hinn hlen' htz.1];constructor
       ·rintro rfl j hj;exact(hw2.2 j).1 hj
       ·intro g;exact tt fun j=>⟨fun hj=>Nr hO hinn htz.1 ((hw2.2 j).1 hj),fun hj=>(hw2.2 j).2 (g j hj)⟩
      rw[this];cases aY (fun v=>v) (l.map (eg es))<;>rfl
 ·rw[Bool.not_eq_true] at hok;simp[DV,hok,br,ob]
theorem K5 {es:List (Int × Int)} {x:Nat} {l:List Int} (h:Mi es x l=true):(∀k ∈ l,eW es x k=true)∧l.length+1=rk x 64∧aY (fun v=>v) (l.map (eg es))=true∧l.Pairwise (· < ·):=by
 simp only[Mi,Bool.and_eq_true,decide_eq_true_eq] at h;exact⟨fun k hk=>(qJ h.1.1 k hk).1,h.1.2,h.2,DH h.1.1⟩
theorem Fw {N:Int} {es:List (Int × Int)} {x:Nat} {l:List Int} (h:Mp N es x l=0):∃M:Nat,N=(M:Int)∧Okay M es∧x≠0∧x<2 ^ M∧Mi es x l=true:=by
 unfold Mp at h
 by_cases h1:kB N es=true
 ·rw[if_pos h1] at h;obtain⟨M,rfl,hO⟩:=gH h1;rw[Int.toNat_natCast] at h
  by_cases h2:x=0∨2 ^ M≤x
  ·rw[if_pos h2] at h; cases h
  ·rw[if_neg h2] at h
   by_cases h3:Mi es x l=true
   ·exact⟨M,rfl,hO,fun e=>h2 (.inl e),by omega,h3⟩
   ·rw[if_neg h3] at h; cases h
 ·rw[if_neg h1] at h; cases h
structure Tr (N:Nat) (es:List (Int × Int)) (x:Nat) (l:List Int):Prop where
 ok:Okay N es
 hx:x<2 ^ 64
 h0:x≠0
 eW:∀k ∈ l,eW es x k=true
 len:l.length+1=rk x 64
 all:aY (fun v=>v) (l.map (eg es))=true
 asc:l.Pairwise (· < ·)
section
variable {N : Nat} {es : List (Int × Int)} {x : Nat} {l : List Int} {at_ to : Nat} {k : Int}
theorem Tr.vl (h:Tr N es x l):∀k ∈ l,Vl es k:=fun k hk=>(mZ (h.eW k hk)).1
theorem Tr.cn (h:Tr N es x l) {a b:Nat} (ha:x.testBit a=true) (hb:x.testBit b=true):Cn (l.map (eg es)) a b:=(Aw h.ok h.hx h.eW h.len ha).1 h.all b hb
end
section
variable {N : Nat} {es : List (Int × Int)} {x : Nat} {l : List Int} {at_ to : Nat}
end
theorem OO (n0:Nat) (l:List Int) (hb:l.length<4611686018427387904):∀k i n,i+k=l.length→k<n→bE (uN n0 l l) n (i:Int)=some (.inr ()):=by
 intro k
 induction k with
 | zero =>
  intro i n hi hk;obtain⟨n,rfl⟩:∃n',n=n'+1:=⟨n-1,by omega⟩
  exact aN (by unfold uN; rw[aJ (by omega)])
 | succ k ih =>
  intro i n hi hk;obtain⟨n,rfl⟩:∃n',n=n'+1:=⟨n-1,by omega⟩
  have a1:i<l.length:=by omega
  have e1:l[((i:Nat):Int).toNat]? = some (l[i]'a1):=by simp[a1]
  rw[aA (s':=((i+1:Nat):Int)) (by unfold uN; simp only[decide_eq_true (show((i:Nat):Int)<(l.length:Int) by omega),bm,al a1,az,e1,ah,decide_true,Bool.not_true,bu,aD (show i<4611686018427387904 by omega)])]
  exact ih (i+1) n (by omega) (by omega)
theorem tu (n:Nat) (l:List Int) (hb:l.length<4611686018427387904) (hn:l.length<n):NN n l l=some true:=by
 unfold NN;rw[decide_eq_true rfl,Bool.not_true,bu,show bE (uN n l l) n 0=_ from OO n l hb l.length 0 n (by omega) hn]; rfl
theorem ES {a i:Nat} (ha:a<2 ^ 64) (hi:i<64):uw .u64 (uw .u64 a ||| uw .u64 (2 ^ i))=a ||| 2 ^ i:=re ha (kg hi)
theorem Qo {a i:Nat} (hi:i<64):rk (a ||| 2 ^ i) 64≤rk a 64+1:=by
 have key:∀(l:List Nat),l.Nodup→(l.filter (a ||| 2 ^ i).testBit).length≤(l.filter a.testBit).length+(if i ∈ l then 1 else 0):=by
  intro l
  induction l with
  | nil=>intro _; simp
  | cons b l ih =>
   intro hn;rw[List.nodup_cons] at hn;have ih:=ih hn.2
   by_cases hb:i=b
   ·subst hb;rw[if_neg hn.1] at ih;rw[if_pos (by simp)]
    rw[List.filter_cons_of_pos (by rw[Nat.testBit_or,tv]; simp)]
    by_cases h1:a.testBit i=true
    ·rw[List.filter_cons_of_pos h1]; simp only[List.length_cons]; omega
    ·rw[List.filter_cons_of_neg h1]; simp only[List.length_cons]; omega
   ·have h2:(a ||| 2 ^ i).testBit b=a.testBit b:=by rw[Nat.testBit_or,tv,decide_eq_false (fun e=>hb e.symm),Bool.or_false]
    have h3:(if i ∈ b::l then 1 else 0)=(if i ∈ l then 1 else 0):=by
     by_cases h4:i ∈ l
     ·rw[if_pos h4,if_pos (by simp[h4])]
     ·rw[if_neg h4,if_neg (by simp[hb,h4])]
    rw[h3]
    by_cases h1:a.testBit b=true
    ·rw[List.filter_cons_of_pos h1,List.filter_cons_of_pos (by rw[h2]; exact h1)]; simp only[List.length_cons]; omega
    ·rw[List.filter_cons_of_neg h1,List.filter_cons_of_neg (by rw[h2]; exact h1)]; exact ih
 have:=key (List.range 64) List.nodup_range;rw[if_pos (List.mem_range.2 hi)] at this;exact this
theorem BD (n M x:Nat) (es:List (Int × Int)) (hM:M≤64) (hx:x<2 ^ 64) (hn:70<n):∃w,LV n (M:Int) es x=some w∧w<2 ^ 64∧rk w 64≤9:=by
 have step:∀(s i:Nat),s<2 ^ 64→rk s 64≤9→i≤M→(∃s',rN n (M:Int) x (s,(i:Int))=some (.inl (s',((i+1:Nat):Int)))∧s'<2 ^ 64∧rk s' 64≤9∧i<M)∨rN n (M:Int) x (s,(i:Int))=some (.inr s):=by
  intro s i hs hr hi;unfold rN;simp only[nj n s hs (by omega),ah]
  by_cases h1:i<M
  ·rw[decide_eq_true (show(i:Int)<(M:Int) by omega),bm,ah]
   by_cases h2:rk s 64<9
   ·rw[decide_eq_true (show((rk s 64:Nat):Int)<9 by omega),bm,jd n x i hx (by omega),ah,qZ n i (by omega),aD (by omega)]
    refine .inl ?_;cases x.testBit i with
    | true=>exact⟨s ||| 2 ^ i,by simp only[bm,ah,ES hs (show i<64 by omega)],wY hs (kg (by omega)),by have:=@Qo s i (by omega); omega,h1⟩
    | false=>exact⟨s,rfl,hs,hr,h1⟩
   ·rw[decide_eq_false (show ¬((rk s 64:Nat):Int)<9 by omega)]; exact .inr rfl
  ·rw[decide_eq_false (show ¬(i:Int)<(M:Int) by omega)]; exact .inr rfl
 have loop:∀k i s n',i+k=M→s<2 ^ 64→rk s 64≤9→k<n'→∃w,bE (rN n (M:Int) x) n' (s,(i:Int))=some w∧w<2 ^ 64∧rk w 64≤9:=by
  intro k
  induction k with
  | zero =>
   intro i s n' hi hs hr hn';obtain⟨n',rfl⟩:∃k,n'=k+1:=⟨n'-1,by omega⟩
   rcases step s i hs hr (by omega) with⟨_,_,_,_,h⟩|h
   ·omega
   ·exact⟨s,aN h,hs,hr⟩
  | succ k ih =>
   intro i s n' hi hs hr hn';obtain⟨n',rfl⟩:∃k,n'=k+1:=⟨n'-1,by omega⟩
   rcases step s i hs hr (by omega) with⟨s',h,h1,h2,_⟩|h
   ·rw[aA h];exact ih (i+1) s' n' (by omega) h1 h2 (by omega)
   ·exact⟨s,aN h,hs,hr⟩
 obtain⟨w,h1,h2,h3⟩:=loop M 0 0 n (by omega) (by decide) (by decide +kernel) (by omega)
 refine⟨w,?_,h2,h3⟩;unfold LV;rw[show bE (rN n (M:Int) x) n (0,0)=some w from h1,ah]
theorem OA (n what:Nat) (bn:Int) (bs:Nat) (N:Int) (es:List (Int × Int)) (x:Nat) (hl:es.length≤200) (hx:x<2 ^ 64):∃N' es' x',PC n what bn bs N es x=some (N',es',x')∧es'.length≤200∧x'<2 ^ 64:=by
 have e31:Qz n es=some es:=by unfold Qz; rw[cq (by omega)]; rfl
 unfold PC;rw[e31,ah]
 by_cases h0:what%6=0
 ·rw[decide_eq_true h0]; exact⟨_,_,_,rfl,hl,hx⟩
 ·rw[decide_eq_false h0,bu]
  by_cases h1:what%6=1
  ·rw[decide_eq_true h1,bm]
   by_cases h2:0<es.length
   ·rw[decide_eq_true (show(0:Int)<(es.length:Int) by omega),bm]
    have hu:ui .u64 (es.length:Int)=es.length:=by
     show((es.length:Int)%((2 ^ 64:Nat):Int)).toNat=es.length
     omega
    rw[hu,decide_eq_true h2,az,ah];have hm:ui .u64 bn%es.length<es.length:=Nat.mod_lt _ h2;generalize ui .u64 bn%es.length=j at hm;rw[aE (x:=((j:Nat):Int)) (by omega) (by omega),al hm,az]
    have e1:es[((j:Nat):Int).toNat]? = some (es[j]'hm):=by simp[hm]
    rw[e1,ah];generalize es[j]'hm=p at *;obtain⟨a,b⟩:=p;simp only[az];rw[Int.toNat_natCast,List.getElem?_set_self hm,ah];exact⟨_,_,_,rfl,by rw[List.length_set,List.length_set]; exact hl,hx⟩
   ·rw[decide_eq_false (show ¬(0:Int)<(es.length:Int) by omega)]; exact⟨_,_,_,rfl,hl,hx⟩
  ·rw[decide_eq_false h1,bu]
   by_cases h2:what%6=2
   ·rw[decide_eq_true h2]; exact⟨_,_,_,rfl,hl,Nat.mod_lt _ (Nat.two_pow_pos 64)⟩
   ·rw[decide_eq_false h2,bu]
    by_cases h3:what%6=3
    ·rw[decide_eq_true h3]; exact⟨_,_,_,rfl,hl,by decide⟩
    ·rw[decide_eq_false h3]; exact⟨_,_,_,rfl,hl,hx⟩
theorem kW (y:Int) : -9223372036854775808≤IntKind.wrap .i64 y∧IntKind.wrap .i64 y<9223372036854775808:=by
 have e:((2:Int) ^ (64:Nat))=18446744073709551616:=by decide
 have e2:((2:Int) ^ (63:Nat))=9223372036854775808:=by decide
 simp only[IntKind.wrap,IntKind.bits,IntKind.signed,Bool.true_and,e,e2]
 split<;>simp_all<;>omega
theorem pZ {i:Nat} (h:i<4611686018427387904) (h0:0<i):IntKind.wrap .i64 ((i:Int)-1)=((i-1:Nat):Int):=by rw[aE (by omega) (by omega)]; omega
theorem rJ (n:Nat) (l:List Int) (hb:l.length<4611686018427387904) (hn:l.length<n):∃l',rK n l=some l'∧l'.length≤l.length:=by
 obtain⟨r,h1,h2⟩:=fH (body:=fx n l) (R:=fun r=>0≤r∧r≤(l.length:Int)) (fun k v=>v=(k:Int)∧k≤l.length) (fun k v hI=>by
  obtain⟨rfl,hk⟩:=hI;unfold fx
  by_cases h0:0<k
  ·have e1:l[k-1]? = some (l[k-1]'(by omega)):=List.getElem?_eq_getElem _
   simp only[decide_eq_true (show(0:Int)<(k:Int) by omega),bm,pZ (show k<4611686018427387904 by omega) h0,al (show k-1<l.length by omega),az,Int.toNat_natCast,e1,ah]
   by_cases hz:l[k-1]'(by omega)=0
   ·rw[decide_eq_true hz];exact .inl ⟨_,rfl,k-1,by omega,rfl,by omega⟩
   ·rw[decide_eq_false hz];exact .inr ⟨_,rfl,by omega,by omega⟩
  ·rw[decide_eq_false (show ¬(0:Int)<(k:Int) by omega)]
   exact .inr ⟨_,rfl,by omega,by omega⟩) l.length (l.length:Int) n ⟨rfl,Nat.le_refl _⟩ hn
 unfold rK;rw[h1,ah];have hok:okB 0 r l.length=true:=decide_eq_true ⟨by omega,by omega,by omega⟩
 rw[hok,az];exact⟨_,rfl,by rw[List.length_take,List.length_drop]; omega⟩
theorem fe (n:Nat) (b:Bool) (l:List Int) (hb:l.length<4611686018427387904) (hn:l.length<n):∃b' l',om n b l=some (b',l')∧l'.length≤l.length∧(b=false→b'=false):=by
 obtain⟨l',h1,h2⟩:=rJ n l hb hn;unfold om;rw[h1,ah];cases b
 ·exact⟨_,_,rfl,h2,fun _=>rfl⟩
 ·exact⟨_,_,rfl,h2,fun h=>by cases h⟩
theorem vY (n:Nat) (x:Int) (hn:2<n):∃b l,A3 n x=some (b,l)∧l.length≤2∧(0≤x→b=false):=by
 unfold A3;have key:∃v:Nat,br (decide (x<0)) (some (Al .u64 (ui .u64 x))) (some (ui .u64 x))=some v:=by
  cases decide (x<0)
  ·exact⟨_,rfl⟩
  ·exact⟨_,rfl⟩
 obtain⟨v,hv⟩:=key;rw[hv,ah];obtain⟨b,l,h1,h2,h3⟩:=fe n (decide (x<0)) [IntKind.wrap .i64 ((v%4294967296:Nat):Int),IntKind.wrap .i64 ((uw .u64 (v/4294967296):Nat):Int)] (by simp) (by simpa using hn)
 rw[h1];exact⟨b,l,rfl,h2,fun h=>h3 (decide_eq_false (by omega))⟩
theorem Hf (n:Nat) (l1 l5:List Int) (hb:l1.length<4611686018427387904) (hn:l1.length<n):∃r,j8 n l1 l5=some r:=by
 unfold j8
 by_cases hl:l1.length=l5.length
 ·rw[decide_eq_true (show(l1.length:Int)=(l5.length:Int) by omega)]
  obtain⟨r,h1,_⟩:=fH (body:=jb n l1 l5) (R:=fun _=>True) (fun k v=>v=(k:Int)-1∧k≤l1.length) (fun k v hI=>by
   obtain⟨rfl,hk⟩:=hI;unfold jb
   by_cases h0:0<k
   ·have e0:(k:Int)-1=((k-1:Nat):Int):=by omega
    have e1:l1[k-1]? = some (l1[k-1]'(by omega)):=List.getElem?_eq_getElem _
    have e2:l5[k-1]? = some (l5[k-1]'(by omega)):=List.getElem?_eq_getElem _
    rw[e0];simp only[decide_eq_true (show(0:Int)≤((k-1:Nat):Int) by omega),bm,al (show k-1<l1.length by omega),al (show k-1<l5.length by omega),az,Int.toNat_natCast,e1,e2,ah]
    by_cases hz:l1[k-1]'(by omega)=l5[k-1]'(by omega)
    ·rw[decide_eq_true hz];exact .inl ⟨_,rfl,k-1,by omega,by rw[aE (by omega) (by omega)],by omega⟩
    ·rw[decide_eq_false hz];exact .inr ⟨_,rfl,trivial⟩
   ·rw[decide_eq_false (show ¬(0:Int)≤(k:Int)-1 by omega)]
    exact .inr ⟨_,rfl,trivial⟩) l1.length ((l1.length:Int)-1) n ⟨rfl,Nat.le_refl _⟩ hn
  rw[Bool.not_true,bu,aE (x:=(l1.length:Int)-1) (by omega) (by omega),h1]
  rcases r with r|r
  ·exact⟨_,rfl⟩
  ·exact⟨_,rfl⟩
 ·rw[decide_eq_false (show ¬(l1.length:Int)=(l5.length:Int) by omega)]
  exact⟨_,rfl⟩
theorem lI (n:Nat) (l1 l2:List Int) (hb:l1.length≤1073741824) (hn:l1.length<n):∃l',qD n l1 l2=some l'∧l'.length≤l1.length:=by
 obtain⟨r,h0,h2⟩:=fH (body:=ic n l1 l2) (R:=fun r=>r.length≤l1.length) (fun k s=>∃i:Nat,s.2.2=(i:Int)∧i+k=l1.length∧s.1.length=i) (fun k s hI=>by
  obtain⟨s1,s0,s2⟩:=s;obtain⟨i,h0,h2,h1⟩:=hI;simp only at h0 h1;subst h0;unfold ic
  by_cases h3:i<l1.length
  ·have e0:l1[i]? = some (l1[i]'h3):=List.getElem?_eq_getElem _;simp only[decide_eq_true (show(i:Int)<(l1.length:Int) by omega),bm,al h3,az,Int.toNat_natCast,e0,ah]
   have key:∃v:Int,br (decide ((i:Int)<(l2.length:Int))) (gd (bz (i:Int) l2.length) (ob l2[i]? fun x3=>some (IntKind.wrap .i64 (IntKind.wrap .i64 (l1[i]'h3-s0)-x3)))) (some (IntKind.wrap .i64 (l1[i]'h3-s0)))=some v:=by
    by_cases h4:i<l2.length
    ·have e1:l2[i]? = some (l2[i]'h4):=List.getElem?_eq_getElem _;rw[decide_eq_true (show(i:Int)<(l2.length:Int) by omega),bm,al h4,az,e1]
     exact⟨_,rfl⟩
    ·rw[decide_eq_false (show ¬(i:Int)<(l2.length:Int) by omega)]
     exact⟨_,rfl⟩
   obtain⟨v,hv⟩:=key;rw[hv,ah];have k0:∃a b:Int,br (decide (v<0)) (some ((1:Int),IntKind.wrap .i64 (v+4294967296))) (some (0,v))=some (a,b):=by
    cases decide (v<0)
    ·exact⟨_,_,rfl⟩
    ·exact⟨_,_,rfl⟩
   obtain⟨a,b,hab⟩:=k0;rw[hab,ah];simp only;rw[cq (by rw[List.length_append]; simp only[List.length_singleton]; omega),az,aD (by omega)]
   exact .inl ⟨_,rfl,k-1,by omega,i+1,rfl,by omega,by rw[List.length_append]; simp only[List.length_singleton]; omega⟩
  ·simp only[decide_eq_false (show ¬(i:Int)<(l1.length:Int) by omega),bu]
   exact .inr ⟨_,rfl,by show s1.length≤_; omega⟩) l1.length (([]:List Int),0,0) n ⟨0,rfl,by omega,rfl⟩ hn
 obtain⟨l',h1,h5⟩:=rJ n r (by omega) (by omega)
 unfold qD;rw[h0,ah,h1];exact⟨l',rfl,by omega⟩
theorem tF (n:Nat) (l1 l2:List Int) (h7:l1.length≤1000000) (h8:l2.length≤1000000) (hn:l1.length+l2.length+4<n):∃l',FV n l1 l2=some l'∧l'.length≤max l1.length l2.length+3:=by
 obtain⟨r,g0,g1⟩:=fH (body:=xV n l1 l2) (R:=fun r=>r.length≤max l1.length l2.length+3) (fun k s=>∃i:Nat,s.2.2=(i:Int)∧i+k=max l1.length l2.length+3∧s.1.length=i∧s.2.1<9223372036854775808∧(max l1.length l2.length+1≤i→s.2.1<4294967296)∧(max l1.length l2.length+2≤i→s.2.1≤0)) (fun k s hI=>by
  obtain⟨s1,s0,s2⟩:=s;obtain⟨i,e1,e5,e4,e2,e3,e0⟩:=hI;simp only at e1 e4 e2 e3 e0;subst e1;unfold xV;have hgo:∃b:Bool,(br (decide ((i:Int)<(l1.length:Int))) (some true) (br (decide ((i:Int)<(l2.length:Int))) (some true) (some (decide (0<s0)))))=some b∧(b=true→i<l1.length∨i<l2.length∨0<s0):=by
   by_cases a0:i<l1.length
   ·rw[decide_eq_true (show(i:Int)<(l1.length:Int) by omega)]; exact⟨_,rfl,fun _=>.inl a0⟩
   ·rw[decide_eq_false (show ¬(i:Int)<(l1.length:Int) by omega),bu]
    by_cases a2:i<l2.length
    ·rw[decide_eq_true (show(i:Int)<(l2.length:Int) by omega)]; exact⟨_,rfl,fun _=>.inr (.inl a2)⟩
    ·rw[decide_eq_false (show ¬(i:Int)<(l2.length:Int) by omega),bu]
     exact⟨_,rfl,fun h=>.inr (.inr (of_decide_eq_true h))⟩
  obtain⟨b,h3,h0⟩:=hgo;simp only[h3,ah];cases b with
  | false=>exact .inr ⟨_,rfl,by show s1.length≤_; omega⟩
  | true =>
   have h0:=h0 rfl;simp only[bm];have k1:∃v:Int,br (decide ((i:Int)<(l1.length:Int))) (gd (bz (i:Int) l1.length) (ob l1[(i:Int).toNat]? fun x3=>some (IntKind.wrap .i64 (s0+x3)))) (some s0)=some v∧(v<9223372036854775808)∧(¬i<l1.length→v=s0):=by
    by_cases a0:i<l1.length
    ·have e:l1[i]? = some (l1[i]'a0):=List.getElem?_eq_getElem _;rw[decide_eq_true (show(i:Int)<(l1.length:Int) by omega),bm,al a0,az,Int.toNat_natCast,e]
     exact⟨_,rfl,(kW _).2,fun h=>absurd a0 h⟩
    ·rw[decide_eq_false (show ¬(i:Int)<(l1.length:Int) by omega)]; exact⟨_,rfl,e2,fun _=>rfl⟩
   obtain⟨v,h4,h5,h1⟩:=k1;rw[h4,ah];have k2:∃u:Int,br (decide ((i:Int)<(l2.length:Int))) (gd (bz (i:Int) l2.length) (ob l2[(i:Int).toNat]? fun x4=>some (IntKind.wrap .i64 (v+x4)))) (some v)=some u∧(u<9223372036854775808)∧(¬i<l2.length→u=v):=by
    by_cases a0:i<l2.length
    ·have e:l2[i]? = some (l2[i]'a0):=List.getElem?_eq_getElem _;rw[decide_eq_true (show(i:Int)<(l2.length:Int) by omega),bm,al a0,az,Int.toNat_natCast,e]
     exact⟨_,rfl,(kW _).2,fun h=>absurd a0 h⟩
    ·rw[decide_eq_false (show ¬(i:Int)<(l2.length:Int) by omega)]; exact⟨_,rfl,h5,fun _=>rfl⟩
   obtain⟨u,h6,h9,h2⟩:=k2;rw[h6,ah];rw[cq (by rw[List.length_append]; simp only[List.length_singleton]; omega),az,aD (by omega)]
   refine .inl ⟨_,rfl,k-1,?_,i+1,rfl,?_,by rw[List.length_append]; simp only[List.length_singleton]; omega,(kW _).2,fun h=>?_,fun h=>?_⟩
   ·rcases h0 with h|h|h
    ·omega
    ·omega
    ·have:¬max l1.length l2.length+2≤i:=fun g=>by have:=e0 g; omega
     omega
   ·rcases h0 with h|h|h
    ·omega
    ·omega
    ·have:¬max l1.length l2.length+2≤i:=fun g=>by have:=e0 g; omega
     omega
   ·have a0:¬i<l1.length:=by omega
    have a1:¬i<l2.length:=by omega
    have hu:u=s0:=by rw[h2 a1,h1 a0]
    have hpos:0<s0:=by rcases h0 with h|h|h<;>first|omega|exact h
    show IntKind.wrap .i64 (Int.tdiv u 4294967296)<4294967296
    rw[hu,Int.tdiv_eq_ediv_of_nonneg (by omega),aE (by omega) (by omega)]
    omega
   ·have a0:¬i<l1.length:=by omega
    have a1:¬i<l2.length:=by omega
    have hu:u=s0:=by rw[h2 a1,h1 a0]
    have hpos:0<s0:=by rcases h0 with h|h|h<;>first|omega|exact h
    have:=e3 (by omega)
    show IntKind.wrap .i64 (Int.tdiv u 4294967296)≤0
    rw[hu,Int.tdiv_eq_ediv_of_nonneg (by omega),aE (by omega) (by omega)]
    omega) (max l1.length l2.length+3) (([]:List Int),0,0) n ⟨0,rfl,by omega,rfl,by decide,fun h=>by simp only; omega,fun h=>by simp only; omega⟩ (by omega)
 unfold FV;rw[g0,ah];exact⟨r,rfl,g1⟩
theorem GW (n:Nat) (b1:Bool) (l1:List Int) (b5:Bool) (l5:List Int) (h1:l1.length≤1000000) (h5:l5.length≤1000000) (hn:l1.length+l5.length+4<n):∃b l,B2 n b1 l1 b5 l5=some (b,l):=by
 unfold B2;cases hbb:(b1 == b5) with
 | true =>
  obtain⟨l',g1,g2⟩:=tF n l1 l5 h1 h5 hn;obtain⟨b,l,g3,_⟩:=fe n b1 l' (by omega) (by omega)
  simp only[bm,g1,ah,g3];exact⟨_,_,rfl⟩
 | false =>
  obtain⟨r,g1⟩:=Hf n l1 l5 (by omega) (by omega)
  simp only[bu,g1,ah]
  by_cases hr:0≤r
  ·obtain⟨l',g2,g3⟩:=lI n l1 l5 (by omega) (by omega)
   obtain⟨b,l,g4,_⟩:=fe n b1 l' (by omega) (by omega)
   simp only[decide_eq_true hr,bm,g2,ah,g4];exact⟨_,_,rfl⟩
  ·obtain⟨l',g2,g3⟩:=lI n l5 l1 (by omega) (by omega)
   obtain⟨b,l,g4,_⟩:=fe n b5 l' (by omega) (by omega)
   simp only[decide_eq_false hr,bu,g2,ah,g4];exact⟨_,_,rfl⟩
theorem Aj (n:Nat) (b1:Bool) (l1:List Int) (b5:Bool) (l5:List Int) (h1:l1.length≤1000000) (h5:l5.length≤1000000) (hn:l1.length+l5.length+4<n):∃r,qF n b1 l1 b5 l5=some r:=by
 obtain⟨b,l,g1,g2,_⟩:=fe n (!b5) l5 (by omega) (by omega)
 obtain⟨b',l',g3⟩:=GW n b1 l1 b l h1 (by omega) (by omega)
 unfold qF yY EB;simp only[g1,ah,g3];cases b'
 ·simp only[bu];cases decide (0<(l'.length:Int))
  ·exact⟨_,rfl⟩
  ·exact⟨_,rfl⟩
 ·exact⟨_,rfl⟩
theorem JT (n:Nat) (b:Bool) (l:List Int) (h1:l.length≤1000000) (hn:l.length+10<n):∃r e,Nl n b l=some (r,e):=by
 obtain⟨b1,l1,g1,g2,_⟩:=vY n (-9223372036854775808) (by omega)
 obtain⟨b2,l2,g3,g4,_⟩:=vY n 9223372036854775807 (by omega)
 obtain⟨r1,g5⟩:=Aj n b l b1 l1 h1 (by omega) (by omega)
 obtain⟨r2,g6⟩:=Aj n b l b2 l2 h1 (by omega) (by omega)
 have key:∃c:Bool,(ob (A3 n (-9223372036854775808)) fun(r64,l65)=>ob (qF n b l r64 l65) fun r70=>br (decide (r70<0)) (some true) (ob (A3 n 9223372036854775807) fun(r73,l74)=>ob (qF n b l r73 l74) fun r79=>some (decide (0<r79))))=some c:=by
  simp only[g1,g3,g5,g6,ah];cases decide (r1<0)
  ·exact⟨_,rfl⟩
  ·exact⟨_,rfl⟩
 obtain⟨c,hc⟩:=key;unfold Nl;rw[hc,ah];cases c with
 | true=>exact⟨_,_,rfl⟩
 | false =>
  obtain⟨r,g7,_⟩:=fH (body:=lA n l) (R:=fun _=>True) (fun k s=>s.2=(k:Int)-1∧k≤l.length) (fun k s hI=>by
   obtain⟨s1,s2⟩:=s;obtain⟨e1,hk⟩:=hI;simp only at e1;subst e1;unfold lA
   by_cases h0:0<k
   ·have e0:(k:Int)-1=((k-1:Nat):Int):=by omega
    have e1:l[k-1]? = some (l[k-1]'(by omega)):=List.getElem?_eq_getElem _
    rw[e0];simp only[decide_eq_true (show(0:Int)≤((k-1:Nat):Int) by omega),bm,al (show k-1<l.length by omega),az,Int.toNat_natCast,e1,ah]
    exact .inl ⟨_,rfl,k-1,by omega,by simp only; rw[aE (by omega) (by omega)],by omega⟩
   ·simp only[decide_eq_false (show ¬(0:Int)≤(k:Int)-1 by omega)]
    exact .inr ⟨_,rfl,trivial⟩) l.length (0,(l.length:Int)-1) n ⟨rfl,Nat.le_refl _⟩ (by omega)
  rw[bu,aE (x:=(l.length:Int)-1) (by omega) (by omega),g7,ah]
  cases b
  ·exact⟨_,_,rfl⟩
  ·exact⟨_,_,rfl⟩
theorem II (n:Nat) (x1 x2 x3 x4 x5 x6 x7 x8:Nat) (hn:8<n):∃l,A7 n x1 x2 x3 x4 x5 x6 x7 x8=some l∧l.length≤16:=by
 obtain⟨r,g1,g2⟩:=fH (body:=lz n) (R:=fun r=>r.length≤16) (fun k s=>∃i:Nat,s.2.2=(i:Int)∧i+k=8∧s.1.length=8∧s.2.1.length=2*i) (fun k s hI=>by
  obtain⟨s1,s2,s3⟩:=s;obtain⟨i,e1,e2,e3,e4⟩:=hI;simp only at e1 e3 e4;subst e1;unfold lz
  by_cases h0:i<8
  ·have e1:s1[i]? = some (s1[i]'(by omega)):=List.getElem?_eq_getElem _
   simp only[decide_eq_true (show(i:Int)<8 by omega),bm,al h0,az,Int.toNat_natCast,e1,ah]
   rw[cq (by rw[List.length_append]; simp only[List.length_cons,List.length_nil]; omega),az,aD (by omega)]
   exact .inl ⟨_,rfl,k-1,by omega,i+1,rfl,by omega,e3,by simp only[List.length_append,List.length_cons,List.length_nil]; omega⟩
  ·simp only[decide_eq_false (show ¬(i:Int)<8 by omega)]
   exact .inr ⟨_,rfl,by show s2.length≤16; omega⟩) 8 ([x1,x2,x3,x4,x5,x6,x7,x8],([]:List Int),0) n ⟨0,rfl,rfl,rfl,rfl⟩ hn
 unfold A7;rw[g1,ah];exact⟨r,rfl,g2⟩
theorem JN (n:Nat) (x1 x2 x3 x4 x5 x6 x7 x8:Nat) (hn:100<n):∃r e,Fk n x1 x2 x3 x4 x5 x6 x7 x8=some (r,e):=by
 obtain⟨l,g1,g2⟩:=II n x1 x2 x3 x4 x5 x6 x7 x8 (by omega)
 have key:∃b l',MF n x1 x2 x3 x4 x5 x6 x7 x8=some (b,l')∧l'.length≤17:=by
  unfold MF;rw[g1,ah]
  by_cases h8:x8<9223372036854775808
  ·obtain⟨b,l',g3,g4,_⟩:=fe n false l (by omega) (by omega)
   rw[decide_eq_true h8];simp only[bm,g3,ah];exact⟨b,l',rfl,by omega⟩
  ·obtain⟨l2,g3,g4⟩:=rJ n l (by omega) (by omega)
   have hlen:((List.replicate (17:Int).toNat (0:Int)).set ((16:Int).toNat) 1).length=17:=rfl;obtain⟨l3,g5,g6⟩:=lI n ((List.replicate (17:Int).toNat (0:Int)).set ((16:Int).toNat) 1) l2 (by rw[hlen]; decide) (by rw[hlen]; omega)
   obtain⟨b,l4,g7,g8,_⟩:=fe n true l3 (by omega) (by omega)
   have e0:(List.replicate (17:Int).toNat (0:Int))[(16:Int).toNat]? = some 0:=rfl;rw[decide_eq_false h8];simp only[bu,show decide ((0:Int)≤17)=true from rfl,show gY ((17:Int).toNat)=true from rfl,show bz 16 ((17:Int).toNat)=true from rfl,az,e0,ah,g3,g5,g7]
   exact⟨b,l4,rfl,by omega⟩
 obtain⟨b,l',g3,g4⟩:=key;obtain⟨r,e,g5⟩:=JT n b l' (by omega) (by omega)
 unfold Fk;rw[g3,ah];simp only[g5,ah];exact⟨r,e,rfl⟩
theorem Ke {α:Type} {l:List α} (h:l.length=8):∃a b c d e f g i,Mm l=some (a,b,c,d,e,f,g,i):=by
 match l,h with
 | [a,b,c,d,e,f,g,i],_=>exact⟨a,b,c,d,e,f,g,i,rfl⟩
theorem Kf (n:Nat) (x:Int) (hx:0≤x) (hn:100<n):∃r0 r1 r2 r3 r4 r5 r6 r7,xY n x=some (r0,r1,r2,r3,r4,r5,r6,r7):=by
 obtain⟨b,l,g1,g5,g2⟩:=vY n x (by omega)
 have hb:=g2 hx;subst hb;have key:∃r0 r1 r2 r3 r4 r5 r6 r7 e,Kh n false l=some (r0,r1,r2,r3,r4,r5,r6,r7,e):=by
  unfold Kh;have e2:(List.replicate (16:Int).toNat (0:Int))[(15:Int).toNat]? = some 0:=rfl;have h0:((List.replicate (16:Int).toNat (0:Int)).set ((15:Int).toNat) 2147483648).length=16:=rfl;have e0:j8 n l ((List.replicate (16:Int).toNat (0:Int)).set ((15:Int).toNat) 2147483648)=some ((l.length:Int)-16):=by
   unfold j8;rw[h0,decide_eq_false (show ¬(l.length:Int)=((16:Nat):Int) by omega),Bool.not_false,bm,aE (by omega) (by omega)]; rfl
  simp only[show decide ((0:Int)≤16)=true from rfl,show gY ((16:Int).toNat)=true from rfl,show bz 15 ((16:Int).toNat)=true from rfl,az,e2,ah,e0,decide_eq_false (show ¬(0:Int)<(l.length:Int)-16 by omega),decide_eq_false (show ¬(l.length:Int)-16=0 by omega),bu]
  obtain⟨r,g0,g3⟩:=fH (body:=jt n l) (R:=fun r=>r.length=8) (fun k s=>∃i:Nat,s.2=(i:Int)∧i+k=l.length∧s.1.length=8) (fun k s hI=>by
   obtain⟨s0,s1⟩:=s;obtain⟨i,e0,e5,e1⟩:=hI;simp only at e0 e1;subst e0;unfold jt
   by_cases h1:i<l.length
   ·have hd:IntKind.wrap .i64 (Int.tdiv (i:Int) 2)=((i/2:Nat):Int):=by rw[Int.tdiv_eq_ediv_of_nonneg (by omega),aE (by omega) (by omega)]; omega
    have hm:IntKind.wrap .i64 (32*Int.tmod (i:Int) 2)=((32*(i%2):Nat):Int):=by rw[Int.tmod_eq_emod_of_nonneg (by omega),aE (by omega) (by omega)]; omega
    have e3:s0[i/2]? = some (s0[i/2]'(by omega)):=List.getElem?_eq_getElem _
    have e4:l[i]? = some (l[i]'h1):=List.getElem?_eq_getElem _;simp only[decide_eq_true (show(i:Int)<(l.length:Int) by omega),bm,hd,hm,al (show i/2<8 by omega),al h1,az,Int.toNat_natCast,e3,e4,ah,decide_eq_true (Int.natCast_nonneg (32*(i%2))),aD (show i<4611686018427387904 by omega)]
    exact .inl ⟨_,rfl,k-1,by omega,i+1,rfl,by omega,by simp only[List.length_set]; exact e1⟩
   ·simp only[decide_eq_false (show ¬(i:Int)<(l.length:Int) by omega)]
    exact .inr ⟨_,rfl,e1⟩) l.length ([0,0,0,0,0,0,0,0],0) n ⟨0,rfl,by omega,rfl⟩ (by omega)
  rw[g0,ah];obtain⟨a,b,c,d,e,f,g,i,g4⟩:=Ke g3;rw[g4];exact⟨_,_,_,_,_,_,_,_,_,rfl⟩
 obtain⟨r0,r1,r2,r3,r4,r5,r6,r7,e,g0⟩:=key;unfold xY;rw[g1,ah];simp only[g0,ah];exact⟨_,_,_,_,_,_,_,_,rfl⟩
def cb:Nat→Nat→Nat
 | _,0=>1
 | 0,_+1=>0
 | e+1,d+1=>cb e d+cb e (d+1)
theorem lY (e:Nat):cb e 0=1:=by cases e<;>rfl
theorem ri (e d:Nat):cb (e+1) (d+1)=cb e d+cb e (d+1):=rfl
theorem KZ {e e':Nat} (h:e≤e') (d:Nat):cb e d≤cb e' d:=by
 induction h with
 | refl=>exact Nat.le_refl _
 | step _ ih =>
  cases d with
  | zero=>rw[lY,lY]; exact Nat.le_refl _
  | succ d=>rw[ri]; omega
def tb:Nat→Nat × Nat × Nat × Nat × Nat × Nat × Nat × Nat
 | 0=>(0,0,0,0,0,0,0,0)
 | e+1=>let (a,b,c,d,f,g,h,i):=tb e; (1+a,a+b,b+c,c+d,d+f,f+g,g+h,h+i)
theorem Mw:∀e,tb e=(cb e 1,cb e 2,cb e 3,cb e 4,cb e 5,cb e 6,cb e 7,cb e 8)
 | 0=>rfl
 | e+1=>by
  unfold tb;rw[Mw e];simp only[ri,lY]
def Qw:Bool:=match tb 36 with
 | (a,b,c,d,f,g,h,i)=>Nat.ble a 1073741824 && Nat.ble b 1073741824 && Nat.ble c 1073741824 && Nat.ble d 1073741824 && Nat.ble f 1073741824 && Nat.ble g 1073741824 && Nat.ble h 1073741824 && Nat.ble i 1073741824
theorem Rb:Qw=true:=by decide +kernel
theorem oV {e d:Nat} (he:e≤36) (hd:d≤8):cb e d≤1073741824:=by
 refine Nat.le_trans (KZ he d) ?_;have h:=Rb;unfold Qw at h;rw[Mw] at h;simp only[Bool.and_eq_true,Nat.ble_eq] at h;have:d=0∨d=1∨d=2∨d=3∨d=4∨d=5∨d=6∨d=7∨d=8:=by omega
 rcases this with rfl|rfl|rfl|rfl|rfl|rfl|rfl|rfl|rfl
 ·rw[lY]; decide
 all_goals omega
def ib (x:Nat) (e:Int × Int):Bool:=x.testBit e.1.toNat && x.testBit e.2.toNat
def inc (es:List (Int × Int)) (x i:Nat):Nat:=((es.drop i).filter (ib x)).length
theorem zN {es:List (Int × Int)} {x i:Nat} (hi:i<es.length):inc es x i=inc es x (i+1)+(if eW es x (i:Int)=true then 1 else 0):=by
 have e1:eW es x (i:Int)=ib x es[i]:=by
  simp only[eW,ib,eg,Int.toNat_natCast,List.getElem?_eq_getElem hi];rw[decide_eq_true ⟨Int.natCast_nonneg i,by omega⟩,Bool.true_and]
 unfold inc;rw[List.drop_eq_getElem_cons hi,e1]
 by_cases h:ib x es[i]=true
 ·rw[List.filter_cons_of_pos h,if_pos h,List.length_cons]
 ·rw[List.filter_cons_of_neg h,if_neg h]; rfl
theorem inc_le {es:List (Int × Int)} {x:Nat}:∀{i j:Nat},i≤j→inc es x j≤inc es x i:=by
 intro i j h;unfold inc;obtain⟨k,rfl⟩:∃k,j=i+k:=⟨j-i,by omega⟩
 rw[←List.drop_drop];exact(List.Sublist.filter _ (List.drop_sublist _ _)).length_le
theorem uH {α:Type} [DecidableEq α]:∀{l m:List α},l.Nodup→(∀a ∈ l,a ∈ m)→l.length≤m.length
 | [],_,_,_=>Nat.zero_le _
 | a::l,m,hn,h=>by
  rw[List.nodup_cons] at hn;have ha:=h a (by simp)
  have:=uH (l:=l) (m:=m.erase a) hn.2 fun b hb=>(List.mem_erase_of_ne (fun e=>hn.1 (by rw[←e]; exact hb))).2 (h b (by simp[hb]))
  rw[List.length_erase_of_mem ha] at this;have:0<m.length:=List.length_pos_of_mem ha;rw[List.length_cons]; omega
def prs:List Nat→List (Int × Int)
 | []=>[]
 | v::V=>(V.map fun w=>(((v:Nat):Int),((w:Nat):Int)))++prs V
theorem De:∀{V:List Nat},V.Pairwise (· < ·)→∀{a b:Nat},a ∈ V→b ∈ V→a<b→((a:Int),(b:Int)) ∈ prs V
 | [],_,a,b,ha,_,_=>by cases ha
 | v::V,h,a,b,ha,hb,hab=>by
  rw[List.pairwise_cons] at h;unfold prs;rcases List.mem_cons.1 ha with e1|ha'
  ·rcases List.mem_cons.1 hb with e2|hb'
   ·omega
   ·rw[e1]; exact List.mem_append_left _ (List.mem_map.2 ⟨b,hb',rfl⟩)
  ·rcases List.mem_cons.1 hb with e2|hb'
   ·have:=h.1 a ha'; omega
   ·exact List.mem_append_right _ (De h.2 ha' hb' hab)
theorem CL:∀(V:List Nat),2*(prs V).length+V.length=V.length*V.length
 | []=>rfl
 | v::V=>by
  have:=CL V;unfold prs;rw[List.length_append,List.length_map,List.length_cons];have h2:(V.length+1)*(V.length+1)=V.length*V.length+2*V.length+1:=by rw[Nat.add_mul,Nat.mul_add]; omega
  omega
theorem fF {N:Nat} {es:List (Int × Int)} {x:Nat} (hok:kB (N:Int) es=true) (h:Okay N es) (hr:rk x 64≤9) (i:Nat):inc es x i≤36:=by
 refine Nat.le_trans (inc_le (Nat.zero_le i)) ?_;have hasc:=K9 hok;have hnd:(es.filter (ib x)).Nodup:=((List.Pairwise.filter _ hasc).imp fun {a b} hab e=>by
  subst e; unfold lexLt at hab; omega)
 have hle:=uH (m:=prs (dU x 64)) hnd fun e he=>by
  obtain⟨h1,h2⟩:=List.mem_filter.1 he;obtain⟨a,b,rfl,h3,h4⟩:=h.mem e h1;simp only[ib,Int.toNat_natCast,Bool.and_eq_true] at h2;have:=h.le;exact De (Cl x 64) (df.2 ⟨by omega,h2.1⟩) (df.2 ⟨by omega,h2.2⟩) h3
 have hp:=CL (dU x 64);have hV:(dU x 64).length≤9:=hr;unfold inc;rw[List.drop_zero];generalize (dU x 64).length=v at *;have hv:v=0∨v=1∨v=2∨v=3∨v=4∨v=5∨v=6∨v=7∨v=8∨v=9:=by omega
 rcases hv with rfl|rfl|rfl|rfl|rfl|rfl|rfl|rfl|rfl|rfl<;>omega
def xZ (begin_:List Int):Nat:=match begin_.getLast? with
 | some k=>k.toNat+1
 | none=>0
theorem F0 {N:Nat} {es:List (Int × Int)} {x:Nat} (h:Okay N es) (hx:x<2 ^ 64) (h5:x≠0) (n:Nat) (hn:300<n) (hB:∀i d,d≤8→cb (inc es x i) d≤1073741824) (hr:rk x 64≤9) :
  ∀(d:Nat) (begin_:List Int) (k:Nat),begin_.length+d+1=rk x 64→(∀y ∈ begin_,Vl es y)→d<k→∃out,qE n k (N:Int) es x begin_=some out∧out.length≤cb (inc es x (xZ begin_)) d∧∀o ∈ out,o.length≤9:=by
 have hlen:=h.len;intro d
 induction d with
 | zero =>
  intro begin_ k hb hv hk;obtain⟨k,rfl⟩:∃k',k=k'+1:=⟨k-1,by omega⟩
  refine⟨[([]:List Int)++begin_],?_,by rw[lY]; exact Nat.le_refl _,fun o ho=>by rw[List.mem_singleton.1 ho,List.nil_append]; omega⟩
  show kQ n (qE n k) (N:Int) es x begin_=_
  unfold kQ;rw[nj n x hx (by omega),ah,size_eq (by omega) (by omega),decide_eq_true (by omega),bm,cq (by simp; omega)]; rfl
 | succ d ih =>
  intro begin_ k hb hv hk;obtain⟨k,rfl⟩:∃k',k=k'+1:=⟨k-1,by omega⟩
  have hfrm:∃m:Nat,(br (decide (0<(begin_.length:Int))) (gd (bz (IntKind.wrap .i64 ((begin_.length:Int)-1)) begin_.length) (ob (begin_[(IntKind.wrap .i64 ((begin_.length:Int)-1)).toNat]?) fun x3=>some (IntKind.wrap .i64 (x3+1)))) (some 0))=some (m:Int)∧m=xZ begin_∧m≤es.length:=by
   unfold xZ
   by_cases h0:0<begin_.length
   ·have hg:begin_[begin_.length-1]? = some (begin_[begin_.length-1]'(by omega)):=List.getElem?_eq_getElem _
    have hm:=hv _ (List.getElem_mem (show begin_.length-1<begin_.length by omega))
    rw[List.getLast?_eq_getElem?,hg];simp only[decide_eq_true (show(0:Int)<(begin_.length:Int) by omega),bm,pZ (show begin_.length<4611686018427387904 by omega) h0,al (show begin_.length-1<begin_.length by omega),az,Int.toNat_natCast,hg,ah]
    generalize begin_[begin_.length-1]'(by omega)=y at hm
    obtain⟨y,rfl⟩:=Int.eq_ofNat_of_zero_le hm.1;have:=hm.2;exact⟨y+1,by rw[aD (by omega)],by rw[Int.toNat_natCast],by omega⟩
   ·have:begin_ = []:=List.length_eq_zero_iff.1 (by omega)
    subst this;exact⟨0,rfl,rfl,Nat.zero_le _⟩
  obtain⟨m,h1,h2,h6⟩:=hfrm;have h3:d+1≤8:=by omega
  have hcap:=hB (xZ begin_) (d+1) h3;obtain⟨out,g0,g1⟩:=fH (body:=pQ n es (N:Int) x begin_ (qE n k)) (R:=fun out=>out.length≤cb (inc es x (xZ begin_)) (d+1)∧∀o ∈ out,o.length≤9) (fun j s=>∃i:Nat,s.2=(i:Int)∧i+j=es.length∧s.1.length+cb (inc es x i) (d+1)≤cb (inc es x (xZ begin_)) (d+1)∧∀o ∈ s.1,o.length≤9) (fun j s hI=>by
   obtain⟨s0,s1⟩:=s;obtain⟨i,e1,e3,e2,e0⟩:=hI;simp only at e1 e2 e0;subst e1;unfold pQ
   by_cases hi:i<es.length
   ·have hvi:Vl es (i:Int):=⟨Int.natCast_nonneg i,by omega⟩
    obtain⟨a,b,c0,c3,c4,c1,_,c2⟩:=gm h hvi;have c1':es[i]? = some ((a:Int),(b:Int)):=by rw[Int.toNat_natCast] at c0; exact c0
    have ha:a<64:=by omega
    have hst:=zN (es:=es) (x:=x) hi;obtain⟨w,w0,w1⟩:=wA h hv n a (N:Int) ha (by omega) (by omega) (by omega)
    simp only[decide_eq_true (show(i:Int)<(es.length:Int) by omega),bm,Bp h n (N:Int) (i:Int) x hx,ah,Int.toNat_natCast,c2,az,c1',w0,jd n w b w1.1 c1,aD (show i<4611686018427387904 by omega)]
    cases hin:eW es x (i:Int) with
    | false =>
     rw[hin,if_neg (by decide),Nat.add_zero] at hst
     exact .inl ⟨_,rfl,j-1,by omega,i+1,rfl,by omega,by simp only; rw[←hst]; exact e2,e0⟩
    | true =>
     rw[hin,if_pos rfl] at hst;have h7:cb (inc es x i) (d+1)=cb (inc es x (i+1)) d+cb (inc es x (i+1)) (d+1):=by rw[hst,ri]
     simp only[Bool.not_true,bu,ah];cases hw:w.testBit b with
     | true=>exact .inl ⟨_,rfl,j-1,by omega,i+1,rfl,by omega,by simp only; omega,e0⟩
     | false =>
      simp only[bu];obtain⟨o1,r0,r1,r2⟩:=ih (([]:List Int)++begin_++[(i:Int)]) k (by simp; omega) (fun y hy=>by
       rw[List.nil_append] at hy;rcases List.mem_append.1 hy with hy|hy
       ·exact hv y hy
       ·rw[List.mem_singleton.1 hy]; exact hvi) (by omega)
      have h4:xZ (([]:List Int)++begin_++[(i:Int)])=i+1:=by
       unfold xZ;rw[List.getLast?_concat];simp
      rw[h4] at r1;rw[cq (by simp; omega),az,cq (by simp; omega),az,r0,ah,cq (by rw[List.length_append]; omega),az]
      exact .inl ⟨_,rfl,j-1,by omega,i+1,rfl,by omega,by simp only[List.length_append]; omega,fun o ho=>(List.mem_append.1 ho).elim (e0 o) (r2 o)⟩
   ·simp only[decide_eq_false (show ¬(i:Int)<(es.length:Int) by omega),bu]
    exact .inr ⟨_,rfl,by omega,e0⟩) (es.length-m) (([]:List (List Int)),(m:Int)) n ⟨m,rfl,by omega,by simp only[List.length_nil,Nat.zero_add]; rw[h2]; exact Nat.le_refl _,fun o ho=>by cases ho⟩ (by omega)
  refine⟨out,?_,g1⟩
  show kQ n (qE n k) (N:Int) es x begin_=_
  unfold kQ;rw[nj n x hx (by omega),ah,size_eq (by omega) (by omega),decide_eq_false (by omega),bu,h1,ah,g0,ah]
def Fj (N:Int) (es:List (Int × Int)) (x:Nat):Int:=if kB N es then(if x=0∨2 ^ N.toNat≤x then 2 else 0) else 180
theorem Hc (n:Nat) (N:Int) (es:List (Int × Int)) (x:Nat) (hx:x<2 ^ 64) (hl:es.length<4611686018427387904) (hk:es.length<n):LP n N es x=some (Fj N es x):=by
 unfold LP Fj;rw[wL n N es hl hk,ah]
 by_cases hok:kB N es=true
 ·simp only[DV,hok,if_true,decide_true,Bool.not_true,bu]
  by_cases h0:x=0
  ·simp[h0,br]
  ·rw[Cu n N es x hx hl hk];simp only[h0,decide_false,bu,ah,false_or,Q3,hok,if_true]
 ·rw[Bool.not_eq_true] at hok;simp[DV,hok,br]
theorem Jt (n:Nat) (N:Int) (es:List (Int × Int)) (x:Nat) (hx:x<2 ^ 64) (hn:300<n) (hc:Fj N es x=0) (hr:kB N es=true→rk x 64≤9):∃out,Ky n N es x=some out∧∀o ∈ out,o.length≤9:=by
 unfold Fj at hc
 by_cases hok:kB N es=true
 ·rw[if_pos hok] at hc
  by_cases h2:x=0∨2 ^ N.toNat≤x
  ·rw[if_pos h2] at hc; cases hc
  ·obtain⟨M,rfl,hO⟩:=gH hok;have h0:x≠0:=fun e=>h2 (.inl e);have h1:=mb hx h0;have hr:=hr hok;obtain⟨out,g1,_,g3⟩:=F0 hO hx h0 n hn (fun i d hd=>oV (fF hok hO hr i) hd) hr (rk x 64-1) [] n (by simp; omega) (fun y hy=>by cases hy) (by omega)
   exact⟨out,by unfold Ky JM; rw[g1,ah],g3⟩
 ·rw[if_neg hok] at hc; cases hc
theorem Kl (n:Nat) (N:Int) (es:List (Int × Int)) (x:Nat) (hx:x<2 ^ 64) (hl:es.length≤200) (hn:300<n) (hr:kB N es=true→rk x 64≤9):∃r1 r2 r3 r4 r5 r6 r7 r8 e,P6 n N es x=some (r1,r2,r3,r4,r5,r6,r7,r8,e):=by
 unfold P6;rw[Hc n N es x hx (by omega) (by omega),ah]
 by_cases hc:Fj N es x=0
 ·obtain⟨out,g1,_⟩:=Jt n N es x hx hn hc hr;obtain⟨r1,r2,r3,r4,r5,r6,r7,r8,g2⟩:=Kf n (out.length:Int) (Int.natCast_nonneg _) (by omega)
  rw[decide_eq_true hc];simp only[Bool.not_true,bu,g1,ah,g2];exact⟨_,_,_,_,_,_,_,_,_,rfl⟩
 ·rw[decide_eq_false hc];exact⟨_,_,_,_,_,_,_,_,_,rfl⟩
def il (es:List (Int × Int)) (x i j:Nat):List Int:=((List.range' i j).filter fun(k:Nat)=>eW es x (k:Int)).map fun(k:Nat)=>(k:Int)
theorem iT (es:List (Int × Int)) (x i j:Nat):il es x i (j+1)=if eW es x (i:Int) then(i:Int)::il es x (i+1) j else il es x (i+1) j:=by
 unfold il;rw[List.range'_succ,List.filter_cons]
 split<;>rfl
theorem u6 (es:List (Int × Int)):∀(L:List Int) (d:Nat) (r:Nat→Nat),(gw es L d r).length≤cb L.length d
 | L,0,r=>by cases L<;>simp[gw,lY]
 | [],d+1,r=>Nat.zero_le _
 | k::L,d+1,r=>by
  have h1:=u6 es L (d+1) r;simp only[gw,List.length_append,List.length_cons,ri]
  split
  ·simp only[List.length_nil]; omega
  ·have h2:=u6 es L d (bN r (eg es k));rw[List.length_map]; omega
theorem m7 (es:List (Int × Int)) (x:Nat):∀j i,i+j=es.length→(il es x i j).length=inc es x i
 | 0,i,h=>by
  unfold il inc;rw[List.drop_eq_nil_of_le (by omega)]; rfl
 | j+1,i,h=>by
  have ih:=m7 es x j (i+1) (by omega)
  rw[iT,zN (by omega)]
  split
  ·rw[List.length_cons,ih]
  ·rw[ih]; rfl
theorem mq (T:List (Nat × Nat)) (e:Nat × Nat):rep (T++[e])=bN (rep T) e:=by
 unfold rep;rw[List.foldl_append]; rfl
theorem KN {N:Nat} {es:List (Int × Int)} {x:Nat} (h:Okay N es) (hx:x<2 ^ 64) (h0:x≠0) (n:Nat) (hn:300<n) (hB:∀i d,d≤8→cb (inc es x i) d≤1073741824) (hr:rk x 64≤9) :
  ∀(d:Nat) (begin_:List Int) (k:Nat),begin_.length+d+1=rk x 64→(∀y ∈ begin_,Vl es y)→d<k →
   qE n k (N:Int) es x begin_=some ((gw es (il es x (xZ begin_) (es.length-xZ begin_)) d (rep (begin_.map (eg es)))).map (begin_++·)):=by
 have hlen:=h.len;intro d
 induction d with
 | zero =>
  intro begin_ k hb hv hk;obtain⟨k,rfl⟩:∃k',k=k'+1:=⟨k-1,by omega⟩
  show kQ n (qE n k) (N:Int) es x begin_=_
  unfold kQ;rw[nj n x hx (by omega),ah,size_eq (by omega) (by omega),decide_eq_true (by omega),bm,cq (by simp; omega)]
  cases il es x (xZ begin_) (es.length-xZ begin_)<;>simp[gw,gd]
 | succ d ih =>
  intro begin_ k hb hv hk;obtain⟨k,rfl⟩:∃k',k=k'+1:=⟨k-1,by omega⟩
  have hfrm:∃m:Nat,(br (decide (0<(begin_.length:Int))) (gd (bz (IntKind.wrap .i64 ((begin_.length:Int)-1)) begin_.length) (ob (begin_[(IntKind.wrap .i64 ((begin_.length:Int)-1)).toNat]?) fun x31=>some (IntKind.wrap .i64 (x31+1)))) (some 0))=some (m:Int)∧m=xZ begin_∧m≤es.length:=by
   unfold xZ
   by_cases hb0:0<begin_.length
   ·have hg:begin_[begin_.length-1]? = some (begin_[begin_.length-1]'(by omega)):=List.getElem?_eq_getElem _
    have hm:=hv _ (List.getElem_mem (show begin_.length-1<begin_.length by omega))
    rw[List.getLast?_eq_getElem?,hg];simp only[decide_eq_true (show(0:Int)<(begin_.length:Int) by omega),bm,pZ (show begin_.length<4611686018427387904 by omega) hb0,al (show begin_.length-1<begin_.length by omega),az,Int.toNat_natCast,hg,ah]
    generalize begin_[begin_.length-1]'(by omega)=y at hm
    obtain⟨y,rfl⟩:=Int.eq_ofNat_of_zero_le hm.1;have:=hm.2;exact⟨y+1,by rw[aD (by omega)],by rw[Int.toNat_natCast],by omega⟩
   ·have:begin_ = []:=List.length_eq_zero_iff.1 (by omega)
    subst this;exact⟨0,rfl,rfl,Nat.zero_le _⟩
  obtain⟨m,hm1,hm2,hm3⟩:=hfrm;rw[←hm2];have hcap:((gw es (il es x m (es.length-m)) (d+1) (rep (begin_.map (eg es)))).map (begin_++·)).length≤1073741824:=by
   rw[List.length_map];refine Nat.le_trans (u6 es _ _ _) ?_;rw[m7 es x (es.length-m) m (by omega)]
   exact hB m (d+1) (by omega)
  generalize hG:(gw es (il es x m (es.length-m)) (d+1) (rep (begin_.map (eg es)))).map (begin_++·)=G at hcap ⊢;obtain⟨out,g1,g2⟩:=fH (body:=pQ n es (N:Int) x begin_ (qE n k)) (R:=fun out=>out=G) (fun j s=>∃i:Nat,s.2=(i:Int)∧i+j=es.length∧s.1++(gw es (il es x i j) (d+1) (rep (begin_.map (eg es)))).map (begin_++·)=G) (fun j s hI=>by
   obtain⟨s1,s2⟩:=s;obtain⟨i,e1,e2,e3⟩:=hI;simp only at e1 e3;subst e1;unfold pQ
   by_cases hi:i<es.length
   ·have hvi:Vl es (i:Int):=⟨Int.natCast_nonneg i,by omega⟩
    obtain⟨a,b,c1,c2,c3,c4,_,c5⟩:=gm h hvi;have c1':es[i]? = some ((a:Int),(b:Int)):=by rw[Int.toNat_natCast] at c1; exact c1
    have ha:a<64:=by omega
    obtain⟨w,w1,w2⟩:=wA h hv n a (N:Int) ha (by omega) (by omega) (by omega)
    obtain⟨j,rfl⟩:∃j',j=j'+1:=⟨j-1,by omega⟩
    simp only[decide_eq_true (show(i:Int)<(es.length:Int) by omega),bm,Bp h n (N:Int) (i:Int) x hx,ah,Int.toNat_natCast,c5,az,c1',w1,jd n w b w2.1 c4,aD (show i<4611686018427387904 by omega)]
    rw[iT] at e3;cases hin:eW es x (i:Int) with
    | false =>
     rw[hin] at e3;exact .inl ⟨_,rfl,j,by omega,i+1,rfl,by omega,e3⟩
    | true =>
     rw[hin,if_pos rfl] at e3;simp only[gw,c2] at e3;simp only[Bool.not_true,bu,ah];have hwb:w.testBit b=true↔rep (begin_.map (eg es)) a=rep (begin_.map (eg es)) b:=by rw[xh]; exact w2.2 b
     cases hw:w.testBit b with
     | true =>
      rw[if_pos (hwb.1 hw),List.nil_append] at e3;exact .inl ⟨_,rfl,j,by omega,i+1,rfl,by omega,e3⟩
     | false =>
      rw[if_neg (fun e=>by rw[hwb.2 e] at hw; cases hw),List.map_append,List.map_map] at e3
      simp only[bu];have r1:=ih (([]:List Int)++begin_++[(i:Int)]) k (by simp; omega) (fun y hy=>by
       rw[List.nil_append] at hy;rcases List.mem_append.1 hy with hy|hy
       ·exact hv y hy
       ·rw[List.mem_singleton.1 hy]; exact hvi) (by omega)
      have hf2:xZ (([]:List Int)++begin_++[(i:Int)])=i+1:=by
       unfold xZ;rw[List.getLast?_concat];simp
      rw[hf2,List.nil_append,List.map_append,List.map_singleton,mq,c2,show es.length-(i+1)=j by omega] at r1
      have e4:(fun l=>begin_++[(i:Int)]++l)=((fun l=>begin_++l) ∘ fun l=>(i:Int)::l):=by funext l; simp
      rw[e4] at r1;have hle:=congrArg List.length e3;simp only[List.length_append] at hle;rw[cq (by simp; omega),az,cq (by simp; omega),az,List.nil_append,r1,ah,cq (by rw[List.length_append]; omega),az]
      exact .inl ⟨_,rfl,j,by omega,i+1,rfl,by omega,by simp only; rw[List.append_assoc]; exact e3⟩
   ·simp only[decide_eq_false (show ¬(i:Int)<(es.length:Int) by omega),bu]
    have hj:j=0:=by omega
    subst hj;have:il es x i 0 = []:=rfl;rw[this] at e3;simp only[gw,List.map_nil,List.append_nil] at e3;exact .inr ⟨_,rfl,e3⟩) (es.length-m) (([]:List (List Int)),(m:Int)) n ⟨m,rfl,by omega,by rw[List.nil_append]; exact hG⟩ (by omega)
  show kQ n (qE n k) (N:Int) es x begin_=_
  unfold kQ;rw[nj n x hx (by omega),ah,size_eq (by omega) (by omega),decide_eq_false (by omega),bu,hm1,ah,g1,ah,g2]
end Go.Proofs.YtookeaakpiefjaaGreatDoor
end
section
namespace Go.Proofs.YtookeaakpiefjaaGreatDoor
open Go Go.Ab Go.Ab.W
def vl:List Nat→Nat
 | []=>0
 | d::l=>d+18446744073709551616*vl l
def Wd (l:List Nat):Prop:=∀d ∈ l,d<18446744073709551616
def wp (k:Nat):Nat:=18446744073709551616 ^ k
theorem vU:wp 0=1:=rfl
theorem fP (k:Nat):wp (k+1)=18446744073709551616*wp k:=by unfold wp; rw[Nat.pow_succ,Nat.mul_comm]
theorem NS (a b:Nat):wp (a+b)=wp a*wp b:=Nat.pow_add _ _ _
theorem Im (k:Nat):0<wp k:=Nat.pow_pos (by decide)
theorem ly:vl []=0:=rfl
theorem fL (d:Nat) (l:List Nat):vl (d::l)=d+18446744073709551616*vl l:=rfl
theorem Bt (a b:List Nat):vl (a++b)=vl a+wp a.length*vl b:=by
 induction a with
 | nil=>simp[vl,wp]
 | cons d a ih=>rw[List.cons_append,fL,fL,ih,List.length_cons,fP,Nat.mul_add,Nat.mul_assoc,Nat.add_assoc]
theorem uG {l:List Nat} (h:Wd l):vl l<wp l.length:=by
 induction l with
 | nil=>exact Nat.one_pos
 | cons d l ih =>
  have h1:=h d List.mem_cons_self;have h2:=ih fun e he=>h e (List.mem_cons_of_mem _ he);rw[fL,List.length_cons,fP];omega
theorem Ip (k:Nat):vl (List.replicate k 0)=0:=by
 induction k with
 | zero=>rfl
 | succ k ih=>rw[List.replicate_succ,fL,ih]
theorem Wd.nil:Wd []:=fun _ h=>nomatch h
theorem Wd.zeros (k:Nat):Wd (List.replicate k 0):=fun d hd=>by rw[List.eq_of_mem_replicate hd]; decide
theorem Wd.app {a b:List Nat} (ha:Wd a) (hb:Wd b):Wd (a++b):=fun d hd=>(List.mem_append.1 hd).elim (ha d) (hb d)
theorem Wd.one {d:Nat} (h:d<18446744073709551616):Wd [d]:=fun e he=>by rw[List.mem_singleton.1 he]; exact h
theorem Wd.at {l:List Nat} (h:Wd l) {i d:Nat} (hi:l[i]? = some d):d<18446744073709551616:=h d (List.mem_of_getElem? hi)
theorem Wd.set {l:List Nat} (h:Wd l) {i d:Nat} (hd:d<18446744073709551616):Wd (l.set i d):=fun e he=>by
 rcases List.mem_or_eq_of_mem_set he with h1|rfl
 ·exact h e h1
 ·exact hd
theorem Wd.take {l:List Nat} (h:Wd l) (k:Nat):Wd (l.take k):=fun d hd=>h d (List.mem_of_mem_take hd)
theorem Wd.drop {l:List Nat} (h:Wd l) (k:Nat):Wd (l.drop k):=fun d hd=>h d (List.mem_of_mem_drop hd)
theorem e8 (l:List Nat) (i:Nat) (hi:i≤l.length):vl l=vl (l.take i)+wp i*vl (l.drop i):=by
 have:=Bt (l.take i) (l.drop i);rwa[List.take_append_drop,List.length_take,Nat.min_eq_left hi] at this
theorem mK {l:List Nat} {i d:Nat} (hi:l[i]? = some d):vl (l.drop i)=d+18446744073709551616*vl (l.drop (i+1)):=by
 obtain⟨h1,h2⟩:=List.getElem?_eq_some_iff.1 hi;rw[List.drop_eq_getElem_cons h1,fL,h2]
theorem HN {l:List Nat} {i d:Nat} (e:Nat) (hi:l[i]? = some d):vl (l.set i e)+wp i*d=vl l+wp i*e:=by
 obtain⟨h1,h2⟩:=List.getElem?_eq_some_iff.1 hi;have a:=e8 l i (Nat.le_of_lt h1);have b:=e8 (l.set i e) i (by rw[List.length_set]; exact Nat.le_of_lt h1)
 have c:(l.set i e)[i]? = some e:=by rw[List.getElem?_set_self h1]
 rw[mK hi] at a;rw[mK c,List.take_set_of_le (Nat.le_refl i),List.drop_set_of_lt (show i<i+1 from Nat.lt_succ_self i)] at b
 rw[a,b,Nat.mul_add,Nat.mul_add];omega
structure Lg (z:Int) (s:Bool) (l:List Nat):Prop where
 wd:Wd l
 last:∀d,l.getLast? = some d→d≠0
 val:z=if s then -(vl l:Int) else(vl l:Int)
 sign:s=true→l≠[]
theorem xi {l:List Nat} (h:∀d,l.getLast? = some d→d≠0) (hl:l≠[]):wp (l.length-1)≤vl l:=by
 obtain⟨a,d,rfl⟩:∃a d,l=a++[d]:=⟨l.dropLast,l.getLast hl,(List.dropLast_concat_getLast hl).symm⟩;have h1:=h d (by simp)
 rw[Bt,List.length_append,List.length_singleton,Nat.add_sub_cancel,fL,ly];have:wp a.length*1≤wp a.length*(d+18446744073709551616*0):=Nat.mul_le_mul_left _ (by omega)
 omega
theorem jE {l:List Nat} (h:∀d,l.getLast? = some d→d≠0):vl l=0↔l = []:=by
 refine⟨fun h1=>?_,fun h1=>by rw[h1]; rfl⟩
 by_cases hl:l = []
 ·exact hl
 ·have:=xi h hl;have:=Im (l.length-1);omega
theorem ve {d:Nat} {l:List Nat} (h:∀e,(d::l).getLast? = some e→e≠0):∀e,l.getLast? = some e→e≠0:=by
 intro e he;cases l with
 | nil=>cases he
 | cons a l=>exact h e (by rw[List.getLast?_cons_cons]; exact he)
theorem Iv:∀{l k:List Nat},Wd l→Wd k→(∀d,l.getLast? = some d→d≠0)→(∀d,k.getLast? = some d→d≠0)→vl l=vl k→l=k:=by
 intro l
 induction l with
 | nil=>intro k _ _ _ hk h; exact((jE hk).1 h.symm).symm
 | cons d l ih =>
  intro k wl wk hl hk h;cases k with
  | nil=>exact absurd ((jE hl).1 h) (by simp)
  | cons e k =>
   have h1:=wl d List.mem_cons_self;have h2:=wk e List.mem_cons_self;rw[fL,fL] at h;have h3:d=e:=by omega
   have h4:vl l=vl k:=by omega
   rw[h3,ih (fun x hx=>wl x (List.mem_cons_of_mem _ hx)) (fun x hx=>wk x (List.mem_cons_of_mem _ hx)) (ve hl) (ve hk) h4]
theorem Lg.inj {z:Int} {s t:Bool} {l k:List Nat} (h:Lg z s l) (h':Lg z t k):s=t∧l=k:=by
 have a:=h.val;have b:=h'.val;have hz:=jE h.last;have hz':=jE h'.last;have e:vl l=vl k:=by
  cases s<;>cases t<;>simp only[Bool.false_eq_true,if_false,if_true] at a b<;>omega
 have e':=Iv h.wd h'.wd h.last h'.last e;refine⟨?_,e'⟩;subst e';cases s<;>cases t<;>simp only[Bool.false_eq_true,if_false,if_true] at a b
 ·rfl
 ·exact absurd (hz.1 (by omega)) (h'.sign rfl)
 ·exact absurd (hz.1 (by omega)) (h.sign rfl)
 ·rfl
def wJ (s:Bool) (x:Nat):Int:=if s then -(x:Int) else(x:Int)
theorem Lg.zero:Lg 0 false []:={ wd:=Wd.nil,last:=fun _ h=>(nomatch h),val:=rfl,sign:=fun h=>(nomatch h)}
theorem Lg.small {x:Nat} (h0:x≠0) (h:x<18446744073709551616) (s:Bool):Lg (wJ s x) s [x]:=⟨Wd.one h,fun d hd=>by simp at hd; omega,by simp[wJ,vl],fun _=>by simp⟩
theorem Lg.Hs {z:Int} {s:Bool} {l:List Nat} (h:Lg z s l):s=decide (z<0):=by
 have a:=h.val;have hz:=jE h.last;cases s with
 | false=>simp only[Bool.false_eq_true,if_false] at a; rw[decide_eq_false (by omega)]
 | true =>
  simp only[if_true] at a;have:vl l≠0:=fun e=>h.sign rfl (hz.1 e);rw[decide_eq_true (by omega)]
theorem Lg.abs {z:Int} {s:Bool} {l:List Nat} (h:Lg z s l):vl l=z.natAbs:=by
 have a:=h.val;cases s<;>simp only[Bool.false_eq_true,if_false,if_true] at a<;>omega
theorem Lg.RD {z:Int} {s:Bool} {l:List Nat} (h:Lg z s l):l = []↔z=0:=by
 rw[←jE h.last,h.abs]; omega
theorem Lg.Px {z:Int} {s:Bool} {l:List Nat} (h:Lg z s l) (hz:z≠0) (hb:z.natAbs<18446744073709551616):l = [z.natAbs]:=by
 have hl:l≠[]:=fun e=>hz (h.RD.1 e);exact Iv h.wd (Wd.one hb) h.last (fun d hd=>by simp at hd; omega) (by rw[h.abs]; simp[vl])
theorem iH {n:Nat} (s:Bool) {l:List Nat} (hl:Wd l) (hb:l.length<4611686018427387904) (hn:l.length<n) :
  ∃t k,kC n s l=some (t,k)∧Lg (wJ s (vl l)) t k:=by
 have hL:∀i m,i≤l.length→i<m→vl (l.drop i)=0→∃j,bE (eO n l) m ((i:Nat):Int)=some ((j:Nat):Int)∧j≤l.length∧vl (l.drop j)=0∧∀d,(l.take j).getLast? = some d→d≠0:=by
  intro i
  induction i with
  | zero =>
   intro m _ hm h0;obtain⟨m,rfl⟩:∃m',m=m'+1:=⟨m-1,by omega⟩
   refine⟨0,aN ?_,Nat.zero_le _,h0,fun d hd=>by simp at hd⟩
   unfold eO;rw[aJ (by decide)]; rfl
  | succ i ih =>
   intro m hi hm h0;obtain⟨m,rfl⟩:∃m',m=m'+1:=⟨m-1,by omega⟩
   have hi':i<l.length:=hi;have e0:IntKind.wrap .i64 (((i+1:Nat):Int)-1)=((i:Nat):Int):=by rw[aE (by omega) (by omega)]; omega
   have e1:l[((i:Nat):Int).toNat]? = some l[i]:=by simp[hi']
   have e2:l[i]? = some l[i]:=by simp[hi']
   by_cases hz:l[i]=0
   ·have:eO n l ((i+1:Nat):Int)=some (.inl ((i:Nat):Int)):=by
     unfold eO;rw[aL (by omega),e0,al hi',az,e1,ah,ah,aL hz]
    rw[aA this];exact ih m (Nat.le_of_lt hi') (by omega) (by rw[mK e2,hz,h0])
   ·refine⟨i+1,aN ?_,hi,h0,fun d hd=>?_⟩
    ·unfold eO;rw[aL (by omega),e0,al hi',az,e1,ah,ah,aJ hz]
    ·rw[List.getLast?_eq_getElem?,List.length_take,Nat.min_eq_left hi,Nat.add_sub_cancel,List.getElem?_take_of_lt (Nat.lt_succ_self i),e2] at hd;cases hd;exact hz
 obtain⟨j,h1,h2,h3,h4⟩:=hL l.length n (Nat.le_refl _) hn (by rw[List.drop_length]; rfl)
 have hv:vl l=vl (l.take j):=by rw[e8 l j h2,h3]; omega
 have hk:okB 0 ((j:Nat):Int) l.length=true:=decide_eq_true ⟨by omega,by omega,by omega⟩
 have ht:(l.drop (0:Int).toNat).take (((j:Nat):Int).toNat-(0:Int).toNat)=l.take j:=by simp
 have hz:=jE h4;unfold kC;rw[h1,ah];cases s with
 | false =>
  refine⟨false,l.take j,?_,hl.take j,h4,?_,fun h=>nomatch h⟩
  ·rw[bu,hk,az,ht]
  ·rw[hv]; rfl
 | true =>
  refine⟨decide (0<((j:Nat):Int)),l.take j,?_,hl.take j,h4,?_,fun h e=>?_⟩
  ·rw[bm,hk,az,ht]
  ·rw[hv]
   by_cases hj:0<((j:Nat):Int)
   ·rw[decide_eq_true hj]; rfl
   ·have:j=0:=by omega
    subst this
    rfl
  ·have h5:=of_decide_eq_true h;have:=congrArg List.length e;rw[List.length_take,Nat.min_eq_left h2] at this;simp at this;omega
theorem vC (l:List Nat) (i:Nat):∃y,vl (l.drop i)=y+18446744073709551616*vl (l.drop (i+1))∧(Wd l→y<18446744073709551616) ∧
  (br (decide (((i:Nat):Int)<(l.length:Int))) (gd (bz ((i:Nat):Int) l.length) (ob (l[((i:Nat):Int).toNat]?) fun x=>some x)) (some 0))=some y:=by
 by_cases h:i<l.length
 ·have e2:l[i]? = some l[i]:=by simp[h]
  exact⟨l[i],mK e2,fun w=>w.at e2,by rw[aL (by omega),al h,az,Int.toNat_natCast,e2]; rfl⟩
 ·refine⟨0,?_,fun _=>by decide,by rw[aJ (by omega)]⟩
  rw[List.drop_eq_nil_of_le (by omega),List.drop_eq_nil_of_le (by omega)]; rfl
theorem yv {a:List Nat} {k e d:Nat}:(a++e::List.replicate k 0).set a.length d=(a++[d])++List.replicate k 0:=by
 rw[List.set_append_right _ _ (Nat.le_refl _),Nat.sub_self,List.set_cons_zero,List.append_assoc]; rfl
theorem qM (a:List Nat) (d:Nat):vl (a++[d])=vl a+wp a.length*d:=by rw[Bt,fL,ly]; rfl
theorem Ko {n:Nat} {l k:List Nat} (hl:Wd l) (hk:Wd k) (hb:l.length<1073741824) (hb':k.length<1073741824) (hn:l.length<n) (hn':k.length<n) :
  ∃r,IC n l k=some r∧Wd r∧vl r=vl l+vl k∧r.length≤l.length+k.length+1:=by
 have key:∀a b:List Nat,Wd a→Wd b→a.length<1073741824→b.length≤a.length→a.length<n→∃r,(gd (decide (0≤IntKind.wrap .i64 ((a.length:Int)+1))) (gd (gY ((IntKind.wrap .i64 ((a.length:Int)+1)).toNat)) (
   ob (bE (nb n a b) n ((List.replicate (IntKind.wrap .i64 ((a.length:Int)+1)).toNat (0:Nat)),(IntKind.wrap .i64 ((a.length:Int)+1)).toNat,0,0)) fun(l1,n0,v0) =>
   gd (bz (a.length:Int) n0) (ob (l1[(a.length:Int).toNat]?) fun x3=>some (l1.set ((a.length:Int).toNat) v0)))))=some r∧Wd r∧vl r=vl a+vl b∧r.length=a.length+1:=by
  intro a b ha h4 hba hab hna;have w0:IntKind.wrap .i64 ((a.length:Int)+1)=((a.length+1:Nat):Int):=by rw[aE (by omega) (by omega)]; rfl
  have hL:∀j i m p c,i+j=a.length→j<m→p.length=i→Wd p→c≤1→vl p+wp i*(c+vl (a.drop i)+vl (b.drop i))=vl a+vl b →
    ∃q c',bE (nb n a b) m (p++List.replicate (j+1) 0,a.length+1,c,((i:Nat):Int))=some (q++[0],a.length+1,c')∧q.length=a.length∧Wd q∧c'≤1∧vl q+wp a.length*c'=vl a+vl b:=by
   intro j
   induction j with
   | zero =>
    intro i m p c hij hm hp wp' hc hv;obtain⟨m,rfl⟩:∃m',m=m'+1:=⟨m-1,by omega⟩
    have hi:i=a.length:=by omega
    refine⟨p,c,aN ?_,by omega,wp',hc,?_⟩
    ·unfold nb
     dsimp only
     rw[aJ (by omega)]; rfl
    ·subst hi;rw[List.drop_length,List.drop_eq_nil_of_le (by omega),ly] at hv
     simpa using hv
   | succ j ih =>
    intro i m p c hij hm hp wp' hc hv;obtain⟨m,rfl⟩:∃m',m=m'+1:=⟨m-1,by omega⟩
    have hi:i<a.length:=by omega
    obtain⟨x,e0⟩:∃x,a[i]? = some x:=⟨a[i],by simp[hi]⟩
    have hx:=ha.at e0;obtain⟨y,y1,y2,y3⟩:=vC b i;have y2:=y2 h4;have e1:(p++List.replicate (j+1+1) 0)[((i:Nat):Int).toNat]? = some 0:=by
     rw[Int.toNat_natCast,List.getElem?_append_right (by omega),List.getElem?_replicate]; simp; omega
    have st:nb n a b (p++List.replicate (j+1+1) 0,a.length+1,c,((i:Nat):Int))=some (.inl ((p++[(x+y+c)%18446744073709551616])++List.replicate (j+1) 0,a.length+1,(x+y+c)/18446744073709551616,((i+1:Nat):Int))):=by
     unfold nb
     dsimp only
     rw[aL (by omega),al hi,az,Int.toNat_natCast,e0,ah]
     rw[Int.toNat_natCast] at y3 e1;rw[y3,ah];unfold Ed;rw[cy hc,ah]
     dsimp only
     rw[al (show i<a.length+1 by omega),az,e1,ah,aD (by omega),←hp,List.replicate_succ,yv]
    rw[aA st];refine ih (i+1) m _ _ (by omega) (by omega) (by rw[List.length_append,hp]; rfl) (wp'.app (Wd.one (Nat.mod_lt _ (by decide)))) (by omega) ?_
    rw[←hv,qM,hp,fP,mK e0,y1];have h1:∀s:Nat,s=s%18446744073709551616+18446744073709551616*(s/18446744073709551616):=fun s=>(Nat.mod_add_div s _).symm;have h0:=h1 (x+y+c);generalize (x+y+c)%18446744073709551616=lo at h0 ⊢;generalize (x+y+c)/18446744073709551616=hi' at h0 ⊢;have h2:c+(x+18446744073709551616*vl (a.drop (i+1)))+(y+18446744073709551616*vl (b.drop (i+1)))=lo+18446744073709551616*(hi'+vl (a.drop (i+1))+vl (b.drop (i+1))):=by omega
    rw[h2,Nat.mul_add (wp i),Nat.mul_left_comm (wp i),←Nat.mul_assoc,Nat.add_assoc,Nat.add_assoc]
  obtain⟨q,c',h1,h0,h2,h3,h5⟩:=hL a.length 0 n [] 0 (by omega) hna rfl Wd.nil (by omega) (by simp[vl,wp])
  refine⟨q++[c'],?_,h2.app (Wd.one (by omega)),by rw[qM,h0,h5],by rw[List.length_append,h0]; rfl⟩
  rw[w0,cy (by omega)]
  have hlim:gY ((a.length+1:Nat):Int).toNat=true:=cq (by omega)
  rw[hlim,az,Int.toNat_natCast];rw[show(List.replicate (a.length+1) (0:Nat),a.length+1,(0:Nat),(0:Int))=(([]:List Nat)++List.replicate (a.length+1) 0,a.length+1,0,((0:Nat):Int)) from rfl,h1,ah]
  dsimp only
  rw[al (Nat.lt_succ_self _),az,Int.toNat_natCast,←h0,List.getElem?_append_right (Nat.le_refl _),Nat.sub_self];rw[show([0]:List Nat)[0]? = some 0 from rfl,ah,List.set_append_right _ _ (Nat.le_refl _),Nat.sub_self]
  rfl
 unfold IC
 by_cases h:l.length<k.length
 ·rw[aL (by omega),ah]
  obtain⟨r,h1,h0,h2,h3⟩:=key k l hk hl hb' (Nat.le_of_lt h) hn';exact⟨r,h1,h0,by omega,by omega⟩
 ·rw[aJ (by omega),ah]
  obtain⟨r,h1,h0,h2,h3⟩:=key l k hl hk hb (by omega) hn
  exact⟨r,h1,h0,h2,by omega⟩
theorem Jl {n:Nat} {l k:List Nat} (hl:Wd l) (hk:Wd k) (ll:∀d,l.getLast? = some d→d≠0) (lk:∀d,k.getLast? = some d→d≠0) (hb:l.length<1073741824) (hb':k.length<1073741824) (hn:l.length<n) :
  ∃r:Int,EC n l k=some r∧(r<0↔vl l<vl k)∧(0<r↔vl k<vl l):=by
 have big:∀a b:List Nat,Wd a→(∀d,b.getLast? = some d→d≠0)→a.length<b.length→vl a<vl b:=by
  intro a b ha hb h;have h1:=uG ha;have h2:=xi hb (by intro e; rw[e] at h; exact Nat.not_lt_zero _ h)
  have h3:wp a.length≤wp (b.length-1):=Nat.pow_le_pow_right (by decide) (by omega)
  omega
 unfold EC
 by_cases h:l.length=k.length
 ·rw[decide_eq_true (show(l.length:Int)=(k.length:Int) by omega),Bool.not_true,bu]
  have hL:∀i m,i≤l.length→i<m→vl (l.drop i)=vl (k.drop i)→∃r,bE (k9 n l k) m ((i:Int)-1)=some r ∧
    ((r = .inl (-1)∧vl l<vl k)∨(r = .inl 1∧vl k<vl l)∨(r = .inr ()∧vl l=vl k)):=by
   intro i
   induction i with
   | zero =>
    intro m _ hm h0;obtain⟨m,rfl⟩:∃m',m=m'+1:=⟨m-1,by omega⟩
    refine⟨.inr (),aN ?_,.inr (.inr ⟨rfl,by simpa using h0⟩)⟩
    unfold k9;rw[aJ (by decide)]
   | succ i ih =>
    intro m hi hm h0;obtain⟨m,rfl⟩:∃m',m=m'+1:=⟨m-1,by omega⟩
    obtain⟨x,e2⟩:∃x,l[i]? = some x:=⟨l[i],by simp⟩
    obtain⟨y,e3⟩:∃y,k[i]? = some y:=⟨k[i],by simp⟩
    have a1:=mK e2;have a2:=mK e3;have a3:=e8 l i (by omega)
    have a4:=e8 k i (by omega)
    have t1:=uG (hl.take i);have t2:=uG (hk.take i);rw[List.length_take,Nat.min_eq_left (by omega)] at t1 t2
    have e0:((i+1:Nat):Int)-1=((i:Nat):Int):=by omega
    rw[e0];rcases Nat.lt_trichotomy x y with hxy|hxy|hxy
    ·refine⟨.inl (-1),aN ?_,.inl ⟨rfl,?_⟩⟩
     ·unfold k9;rw[aL (by omega),al (by omega),az,Int.toNat_natCast,e2,ah,al (by omega),az,e3,ah,aL hxy]
     ·have:wp i*(vl (l.drop i)+1)≤wp i*vl (k.drop i):=Nat.mul_le_mul_left _ (by omega)
      rw[Nat.mul_add] at this;omega
    ·have st:k9 n l k ((i:Nat):Int)=some (.inl (((i:Nat):Int)-1)):=by
      unfold k9;rw[aL (by omega),al (by omega),az,Int.toNat_natCast,e2,ah,al (by omega),az,e3,ah,aJ (by omega),az,az,aJ (by omega),aE (by omega) (by omega)]
     rw[aA st];exact ih m (by omega) (by omega) (by omega)
    ·refine⟨.inl 1,aN ?_,.inr (.inl ⟨rfl,?_⟩)⟩
     ·unfold k9;rw[aL (by omega),al (by omega),az,Int.toNat_natCast,e2,ah,al (by omega),az,e3,ah,aJ (by omega),az,az,aL hxy]
     ·have:wp i*(vl (k.drop i)+1)≤wp i*vl (l.drop i):=Nat.mul_le_mul_left _ (by omega)
      rw[Nat.mul_add] at this;omega
  obtain⟨r,h1,h2⟩:=hL l.length n (Nat.le_refl _) hn (by rw[List.drop_length,h,List.drop_length])
  rw[aE (by omega) (by omega),h1,ah]
  rcases h2 with⟨rfl,h2⟩|⟨rfl,h2⟩|⟨rfl,h2⟩
  ·exact⟨-1,rfl,by omega,by omega⟩
  ·exact⟨1,rfl,by omega,by omega⟩
  ·exact⟨0,rfl,by omega,by omega⟩
 ·rw[decide_eq_false (show ¬(l.length:Int)=(k.length:Int) by omega),Bool.not_false,bm]
  refine⟨_,rfl,?_,?_⟩<;>rw[aE (by omega) (by omega)]
  ·refine⟨fun h1=>big l k hl lk (by omega),fun h1=>?_⟩
   by_cases h2:l.length<k.length
   ·omega
   ·have:=big k l hk ll (by omega); omega
  ·refine⟨fun h1=>big k l hk ll (by omega),fun h1=>?_⟩
   by_cases h2:k.length<l.length
   ·omega
   ·have:=big l k hl lk (by omega); omega
theorem CA {n:Nat} {l k:List Nat} (hl:Wd l) (hk:Wd k) (hle:vl k≤vl l) (hlk:k.length≤l.length) (hb:l.length<1073741824) (hn:l.length<n) :
  ∃r,D9 n l k=some r∧Wd r∧vl r=vl l-vl k∧r.length=l.length:=by
 have hL:∀j i m p c,i+j=l.length→j<m→p.length=i→Wd p→c≤1→vl p+wp i*vl (l.drop i)+vl k=vl l+wp i*(c+vl (k.drop i)) →
   ∃q c',bE (pS n l k) m (p++List.replicate j 0,c,((i:Nat):Int))=some q∧q.length=l.length∧Wd q∧c'≤1∧vl q+vl k=vl l+wp l.length*c':=by
  intro j
  induction j with
  | zero =>
   intro i m p c hij hm hp wp' hc hv;obtain⟨m,rfl⟩:∃m',m=m'+1:=⟨m-1,by omega⟩
   have hi:i=l.length:=by omega
   refine⟨p,c,aN ?_,by omega,wp',hc,?_⟩
   ·unfold pS
    dsimp only
    rw[aJ (by omega),List.replicate_zero,List.append_nil]
   ·subst hi;rw[List.drop_length,List.drop_eq_nil_of_le (by omega),ly] at hv
    simpa using hv
  | succ j ih =>
   intro i m p c hij hm hp wp' hc hv;obtain⟨m,rfl⟩:∃m',m=m'+1:=⟨m-1,by omega⟩
   have hi:i<l.length:=by omega
   obtain⟨x,e2⟩:∃x,l[i]? = some x:=⟨l[i],by simp[hi]⟩
   have hx:=hl.at e2;obtain⟨y,y1,y2,y3⟩:=vC k i;have y2:=y2 hk;have e3:(p++List.replicate (j+1) 0)[((i:Nat):Int).toNat]? = some 0:=by
    rw[Int.toNat_natCast,List.getElem?_append_right (by omega),List.getElem?_replicate]; simp; omega
   have st:pS n l k (p++List.replicate (j+1) 0,c,((i:Nat):Int))=some (.inl ((p++[(x+18446744073709551616-y-c)%18446744073709551616])++List.replicate j 0,if x<y+c then 1 else 0,((i+1:Nat):Int))):=by
    unfold pS
    dsimp only
    rw[aL (by omega),al hi,az,Int.toNat_natCast,e2,ah]
    rw[Int.toNat_natCast] at y3 e3;rw[y3,ah];unfold Jd;rw[cy hc,ah]
    dsimp only
    rw[Int.toNat_natCast,al hi,az,e3,ah,aD (by omega),←hp,List.replicate_succ,yv]
   rw[aA st];refine ih (i+1) m _ _ (by omega) (by omega) (by rw[List.length_append,hp]; rfl) (wp'.app (Wd.one (Nat.mod_lt _ (by decide)))) (by split<;>omega) ?_
   rw[mK e2,y1] at hv;rw[qM,hp,fP];have h2:(x+18446744073709551616-y-c)%18446744073709551616+y+c=x+18446744073709551616*(if x<y+c then 1 else 0):=by split<;>omega
   generalize (x+18446744073709551616-y-c)%18446744073709551616=lo at h2 ⊢;generalize (if x<y+c then 1 else 0)=hi' at h2 ⊢
   generalize vl (l.drop (i+1))=A at hv ⊢;generalize vl (k.drop (i+1))=D at hv ⊢;have h3:wp i*(lo+y+c)=wp i*(x+18446744073709551616*hi'):=by rw[h2]
   simp only[Nat.mul_add,Nat.mul_left_comm (wp i) 18446744073709551616,Nat.mul_assoc] at hv h3 ⊢;omega
 obtain⟨q,c',h1,h2,h3,h4,h5⟩:=hL l.length 0 n [] 0 (by omega) hn rfl Wd.nil (by omega) (by simp[vl,wp])
 refine⟨q,?_,h3,?_,h2⟩
 ·unfold D9;rw[cy (by omega),Int.toNat_natCast,cq (by omega),az]
  rw[show(List.replicate l.length (0:Nat),(0:Nat),(0:Int))=(([]:List Nat)++List.replicate l.length 0,0,((0:Nat):Int)) from rfl,h1,ah]
 ·have h6:=uG h3;rw[h2] at h6;have:c'=0:=by
   rcases Nat.le_one_iff_eq_zero_or_eq_one.1 h4 with e|e
   ·exact e
   ·rw[e] at h5; omega
  rw[this] at h5;omega
theorem zz (s:Bool):wJ s 0=0:=by cases s<;>rfl
theorem qR {n:Nat} {a b:Int} {s t:Bool} {l k:List Nat} (h:Lg a s l) (h':Lg b t k) (hb:l.length<1000000) (hb':k.length<1000000) (hn:l.length+k.length+1<n) :
  ∃u m,pB n s l t k=some (u,m)∧Lg (a+b) u m:=by
 have av:=h.val;have bv:=h'.val;unfold pB
 by_cases e:s=t
 ·subst e;rw[beq_self_eq_true,bm];obtain⟨r,r1,r2,r3,r4⟩:=Ko (n:=n) h.wd h'.wd (by omega) (by omega) (by omega) (by omega)
  obtain⟨u,m,m1,m2⟩:=iH (n:=n) s r2 (by omega) (by omega)
  refine⟨u,m,by rw[r1,ah,m1]; rfl,?_⟩
  have:a+b=wJ s (vl r):=by rw[av,bv,r3]; unfold wJ; cases s<;>simp<;>omega
  rw[this]; exact m2
 ·have:(s == t)=false:=by cases s<;>cases t<;>simp_all
  rw[this,bu];obtain⟨r,r1,r2,r3⟩:=Jl (n:=n) h.wd h'.wd h.last h'.last (by omega) (by omega) (by omega)
  have ht:t = !s:=by cases s<;>cases t<;>simp_all
  have longer:∀p q:List Nat,Wd p→Wd q→(∀d,p.getLast? = some d→d≠0)→(∀d,q.getLast? = some d→d≠0)→vl p≤vl q→p.length≤q.length:=by
   intro p q wp1 wq1 lp lq hle;refine Nat.le_of_not_lt fun hlt=>?_;have h1:=uG wq1;have h2:=xi lp (by intro e; rw[e] at hlt; exact Nat.not_lt_zero _ hlt)
   have h3:wp q.length≤wp (p.length-1):=Nat.pow_le_pow_right (by decide) (by omega)
   omega
  rw[r1,ah]
  by_cases hr:r<0
  ·have hv:=r2.1 hr;obtain⟨m,m1,m2,m3,m4⟩:=CA (n:=n) h'.wd h.wd (Nat.le_of_lt hv) (longer _ _ h.wd h'.wd h.last h'.last (Nat.le_of_lt hv)) (by omega) (by omega)
   obtain⟨u,m',u1,u2⟩:=iH (n:=n) t m2 (by omega) (by omega)
   refine⟨u,m',by rw[aL hr,ah]; dsimp only; rw[m1,ah,u1]; rfl,?_⟩
   have:a+b=wJ t (vl m):=by rw[av,bv,m3,ht]; unfold wJ; cases s<;>simp<;>omega
   rw[this]; exact u2
  ·have hv:vl k≤vl l:=Nat.le_of_not_lt fun h=>hr (r2.2 h);obtain⟨m,m1,m2,m3,m4⟩:=CA (n:=n) h.wd h'.wd hv (longer _ _ h'.wd h.wd h'.last h.last hv) (by omega) (by omega)
   obtain⟨u,m',u1,u2⟩:=iH (n:=n) s m2 (by omega) (by omega)
   refine⟨u,m',by rw[aJ hr,ah]; dsimp only; rw[m1,ah,u1]; rfl,?_⟩
   have:a+b=wJ s (vl m):=by rw[av,bv,m3,ht]; unfold wJ; cases s<;>simp<;>omega
   rw[this]; exact u2
theorem KQ {n:Nat} {a:Int} {s:Bool} {l:List Nat} (h:Lg a s l) (hb:l.length<1000000) (hn:l.length<n):∃u m,Fz n s l=some (u,m)∧Lg (-a) u m:=by
 obtain⟨u,m,m1,m2⟩:=iH (n:=n) (!s) h.wd (by omega) hn
 refine⟨u,m,by unfold Fz; rw[m1]; rfl,?_⟩
 have : -a=wJ (!s) (vl l):=by rw[h.val]; unfold wJ; cases s<;>simp
 rw[this]; exact m2
theorem Lg.len {a:Int} {s:Bool} {l:List Nat} (h:Lg a s l) {k:Nat} (hk:a.natAbs<wp k):l.length≤k:=by
 refine Nat.le_of_not_lt fun hlt=>?_;have h2:=xi h.last (by intro e; rw[e] at hlt; exact Nat.not_lt_zero _ hlt)
 have h3:wp k≤wp (l.length-1):=Nat.pow_le_pow_right (by decide) (by omega)
 have:=h.abs;omega
theorem Lg.up {a:Int} {s:Bool} {l:List Nat} (h:Lg a s l):a.natAbs<wp l.length:=by
 rw[←h.abs]; exact uG h.wd
theorem B0 {n:Nat} {a b:Int} {s t:Bool} {l k:List Nat} (h:Lg a s l) (h':Lg b t k) (hb:l.length<1000000) (hb':k.length<1000000) (hn:l.length+k.length+1<n) :
  ∃u m,OY n s l t k=some (u,m)∧Lg (a-b) u m:=by
 obtain⟨u,m,m1,m2⟩:=KQ (n:=n) h' hb' (by omega)
 have hm:m.length≤k.length:=m2.len (by rw[Int.natAbs_neg]; exact h'.up)
 obtain⟨v,q,q1,q2⟩:=qR (n:=n) h m2 hb (by omega) (by omega)
 exact⟨v,q,by unfold OY; rw[m1,ah]; dsimp only; rw[q1]; rfl,q2⟩
theorem AV {n:Nat} {a:Int} {s:Bool} {l:List Nat} (h:Lg a s l):∃r,Ot n s l=some r∧(r<0↔a<0)∧(r=0↔a=0):=by
 have h1:=h.Hs;have h2:=h.RD;unfold Ot;cases s with
 | true =>
  have:=of_decide_eq_true h1.symm;exact⟨-1,rfl,by omega,by omega⟩
 | false =>
  have:=of_decide_eq_false h1.symm;rw[bu]
  by_cases hl:l = []
  ·subst hl;have:=h2.1 rfl;exact⟨0,rfl,by omega,by omega⟩
  ·have:¬a=0:=fun e=>hl (h2.2 e);have:¬(l.length:Int)=0:=fun e=>hl (List.eq_nil_of_length_eq_zero (by omega))
   rw[aJ this];exact⟨1,rfl,by omega,by omega⟩
theorem zh {a:Nat} (ha:a<18446744073709551616):uw .u64 (uw .u64 a &&& uw .u64 4294967295)=a%4294967296:=by
 rw[yf ha (by decide)]
 exact Nat.and_two_pow_sub_one_eq_mod a 32
theorem HD (a:Nat):bH .u64 a 32=a/4294967296:=rfl
theorem jX {a:Nat} (h:a<18446744073709551616):uw .u64 a=a:=Nat.mod_eq_of_lt h
theorem JH (n:Nat) {x y:Nat} (hx:x<18446744073709551616) (hy:y<18446744073709551616):G3 n x y=some (x*y/18446744073709551616,x*y%18446744073709551616):=by
 obtain⟨b1,b2,b3,hhi⟩:=Lib.mul64_hi x y hx hy;have ba:=Lib.half_mul_le (a:=x/4294967296) (b:=y/4294967296) (by omega) (by omega)
 have bb:=Lib.half_mul_le (a:=x/4294967296) (b:=y%4294967296) (by omega) (by omega)
 have bc:=Lib.half_mul_le (a:=x%4294967296) (b:=y/4294967296) (by omega) (by omega)
 unfold G3;simp only[zh hx,zh hy,HD,ah];rw[jX b1,jX (a:=x/4294967296*(y%4294967296)) (by omega)]
 rw[jX b2,zh b2,jX (a:=x%4294967296*(y/4294967296)) (by omega),jX b3,jX (a:=x/4294967296*(y/4294967296)) (by omega)]
 rw[jX (a:=x/4294967296*(y/4294967296)+_) (by omega),jX (by omega),hhi]
 rfl
theorem Js {n:Nat} {k:List Nat} (hk:Wd k) {x i N:Nat} (hx:x<18446744073709551616) (hN:i+k.length<N) (hNb:N<4611686018427387904) {b:List Nat} (hb:Wd b) (hbN:b.length=N) :
  ∀r j m cur c,j+r=k.length→r<m→Wd cur→cur.length=N→c<18446744073709551616→(∀p,i+k.length≤p→cur[p]? = b[p]?) →
   vl cur+wp (i+j)*c+wp (i+j)*(x*vl (k.drop j))=vl b+wp i*(x*vl k) →
   ∃q c',bE (pL n k x (i:Int) N) m (cur,c,((j:Nat):Int))=some (q,c')∧Wd q∧q.length=N∧c'<18446744073709551616∧(∀p,i+k.length≤p→q[p]? = b[p]?)∧vl q+wp (i+k.length)*c'=vl b+wp i*(x*vl k):=by
 intro r
 induction r with
 | zero =>
  intro j m cur c hj hm hw hl hc hp hv;obtain⟨m,rfl⟩:∃m',m=m'+1:=⟨m-1,by omega⟩
  have hj':j=k.length:=by omega
  refine⟨cur,c,aN ?_,hw,hl,hc,hp,?_⟩
  ·unfold pL
   dsimp only
   rw[aJ (by omega)]
  ·rw[←hv,hj',List.drop_length,ly]; omega
 | succ r ih =>
  intro j m cur c hj hm hw hl hc hp hv;obtain⟨m,rfl⟩:∃m',m=m'+1:=⟨m-1,by omega⟩
  have hi:j<k.length:=by omega
  obtain⟨y,e2⟩:∃y,k[j]? = some y:=⟨k[j],by simp[hi]⟩
  have hy:=hk.at e2;obtain⟨d,e3⟩:∃d,cur[i+j]? = some d:=⟨cur[i+j]'(by omega),by simp⟩
  have hd:=hw.at e3;have hxy:x*y≤18446744073709551615*18446744073709551615:=Nat.mul_le_mul (by omega) (by omega)
  have w1:IntKind.wrap .i64 ((i:Int)+((j:Nat):Int))=((i+j:Nat):Int):=by rw[aE (by omega) (by omega)]; omega
  have st:pL n k x (i:Int) N (cur,c,((j:Nat):Int))=some (.inl (cur.set (i+j) ((x*y+d+c)%18446744073709551616),(x*y+d+c)/18446744073709551616,((j+1:Nat):Int))):=by
   unfold pL
   dsimp only
   rw[aL (by omega),al hi,az,Int.toNat_natCast,e2,ah,JH n hx hy,ah]
   dsimp only
   rw[w1,al (by omega),az,Int.toNat_natCast,e3,ah]
   unfold Ed;rw[cy (by omega),ah]
   dsimp only
   rw[cy (by omega),ah]
   dsimp only
   rw[az,aD (by omega),jX (a:=x*y/18446744073709551616+_) (by omega),jX (by omega)]
   congr 3
   ·congr 1; omega
   ·congr 1; omega
  rw[aA st];refine ih (j+1) m _ _ (by omega) (by omega) (hw.set (Nat.mod_lt _ (by decide))) (by rw[List.length_set]; exact hl) (by omega) (fun p hp'=>by rw[List.getElem?_set_ne (by omega)]; exact hp p hp') ?_
  rw[mK e2] at hv;have hs:=HN ((x*y+d+c)%18446744073709551616) e3;rw[←hv,←Nat.add_assoc i j 1,fP];have h2:(x*y+d+c)%18446744073709551616+18446744073709551616*((x*y+d+c)/18446744073709551616)=x*y+d+c:=Nat.mod_add_div _ _;generalize (x*y+d+c)%18446744073709551616=lo at h2 hs ⊢;generalize (x*y+d+c)/18446744073709551616=hi' at h2 ⊢;generalize vl (k.drop (j+1))=A at hv ⊢;generalize vl (cur.set (i+j) lo)=Z at hs ⊢;have h3:wp (i+j)*(lo+18446744073709551616*hi')=wp (i+j)*(x*y+d+c):=by rw[h2]
  simp only[Nat.mul_add,Nat.mul_left_comm (wp (i+j)) 18446744073709551616,Nat.mul_left_comm x 18446744073709551616,Nat.mul_assoc] at hs h3 ⊢;omega
theorem Kw {n:Nat} {l k:List Nat} (hl:Wd l) (hk:Wd k) (hb:l.length<500000000) (hb':k.length<500000000) (hn:l.length<n) (hn':k.length<n) :
  ∃r,FG n l k=some r∧Wd r∧vl r=vl l*vl k∧r.length=l.length+k.length:=by
 have hL:∀r i m b,i+r=l.length→r<m→Wd b→b.length=l.length+k.length→(∀p,i+k.length≤p→p<l.length+k.length→b[p]? = some 0) →
   vl b+wp i*(vl (l.drop i)*vl k)=vl l*vl k →
   ∃q,bE (ph n l k) m (b,l.length+k.length,((i:Nat):Int))=some (q,l.length+k.length)∧Wd q∧q.length=l.length+k.length∧vl q=vl l*vl k:=by
  intro r
  induction r with
  | zero =>
   intro i m b hi hm hw hlen _ hv;obtain⟨m,rfl⟩:∃m',m=m'+1:=⟨m-1,by omega⟩
   have hi':i=l.length:=by omega
   refine⟨b,aN ?_,hw,hlen,?_⟩
   ·unfold ph
    dsimp only
    rw[aJ (by omega)]
   ·rw[←hv,hi',List.drop_length,ly]; simp
  | succ r ih =>
   intro i m b hi hm hw hlen hz hv;obtain⟨m,rfl⟩:∃m',m=m'+1:=⟨m-1,by omega⟩
   have hi':i<l.length:=by omega
   obtain⟨x,e2⟩:∃x,l[i]? = some x:=⟨l[i],by simp⟩
   have hx:=hl.at e2;obtain⟨q,c,q1,q2,q3,q4,q5,q6⟩:=Js (n:=n) (i:=i) hk hx (N:=l.length+k.length) (by omega) (by omega) hw hlen k.length 0 n b 0 (by omega) hn' hw hlen (by decide) (fun _ _=>rfl) (by simp)
   have e3:q[i+k.length]? = some 0:=by rw[q5 _ (Nat.le_refl _)]; exact hz _ (Nat.le_refl _) (by omega)
   have w1:IntKind.wrap .i64 ((i:Int)+(k.length:Int))=((i+k.length:Nat):Int):=by rw[aE (by omega) (by omega)]; omega
   have st:ph n l k (b,l.length+k.length,((i:Nat):Int))=some (.inl (q.set (i+k.length) c,l.length+k.length,((i+1:Nat):Int))):=by
    unfold ph
    dsimp only
    rw[aL (by omega),al hi',az,Int.toNat_natCast,e2,ah]
    rw[show((0:Int))=((0:Nat):Int) from rfl,q1,ah]
    dsimp only
    rw[w1,al (by omega),az,Int.toNat_natCast,e3,ah,aD (by omega)]
   rw[aA st];refine ih (i+1) m _ (by omega) (by omega) (q2.set q4) (by rw[List.length_set]; exact q3) (fun p h1 h2=>by rw[List.getElem?_set_ne (by omega),q5 p (by omega)]; exact hz p (by omega) h2) ?_
   have hs:=HN c e3;rw[mK e2] at hv;rw[←hv,fP];generalize vl (q.set (i+k.length) c)=Z at hs ⊢;generalize vl (l.drop (i+1))=A at hv ⊢;have h4:wp i*((x+18446744073709551616*A)*vl k)=wp i*(x*vl k)+18446744073709551616*wp i*(A*vl k):=by
    simp only[Nat.add_mul,Nat.mul_add,Nat.mul_assoc,Nat.mul_left_comm (wp i) 18446744073709551616]
   rw[h4];omega
 unfold FG;have w1:IntKind.wrap .i64 ((l.length:Int)+(k.length:Int))=((l.length+k.length:Nat):Int):=by rw[aE (by omega) (by omega)]; omega
 obtain⟨q,q1,q2,q3,q4⟩:=hL l.length 0 n (List.replicate (l.length+k.length) 0) (by omega) hn (Wd.zeros _) (by simp) (fun p _ h2=>by rw[List.getElem?_replicate]; simp[h2]) (by rw[Ip,vU]; simp)
 refine⟨q,?_,q2,q4,q3⟩;rw[w1,cy (by omega),Int.toNat_natCast,cq (by omega),az]
 rw[show((0:Int))=((0:Nat):Int) from rfl,q1]
 rfl
theorem Ct {n:Nat} {a b:Int} {s t:Bool} {l k:List Nat} (h:Lg a s l) (h':Lg b t k) (hb:l.length<1000000) (hb':k.length<1000000) (hn:l.length+k.length<n) :
  ∃u m,Ef n s l t k=some (u,m)∧Lg (a*b) u m:=by
 obtain⟨r,r1,r2,r3,r4⟩:=Kw (n:=n) h.wd h'.wd (by omega) (by omega) (by omega) (by omega)
 obtain⟨u,m,m1,m2⟩:=iH (n:=n) (!(s == t)) r2 (by omega) (by omega)
 refine⟨u,m,by unfold Ef; rw[r1,ah,m1]; rfl,?_⟩
 have:a*b=wJ (!(s == t)) (vl r):=by
  rw[h.val,h'.val,r3]; unfold wJ;cases s<;>cases t<;>simp[Int.neg_mul,Int.mul_neg]
 rw[this]; exact m2
theorem vO {a b:Nat} (ha:a<18446744073709551616) (h:b≤a):iE .u64 a b=a-b:=by
 show(a+(18446744073709551616-b%18446744073709551616))%18446744073709551616=a-b
 omega
theorem Eu (n0:Nat) {u y1 y0 d:Nat} (h1:2147483648≤y1) (h1':y1<4294967296) (h0:y0<4294967296) (hd:d<4294967296) {Q:Nat} (le_iff:∀p,p≤Q↔p*y1*4294967296+p*y0≤u*4294967296+d) (hQb:Q<4294967296) :
  ∀k r q m,4294967296≤r+k*2147483648→k<m→q*y1+r=u→Q≤q→q≤4294967297→r<4294967296→bE (e9 n0 d y0 y1) m (r,q)=some Q:=by
 intro k
 induction k with
 | zero=>intro r q m hk _ _ _ _ hr; omega
 | succ k ih =>
  intro r q m hk hm hq hQ hqb hr;obtain⟨m,rfl⟩:∃m',m=m'+1:=⟨m-1,by omega⟩
  by_cases hT:4294967296≤q∨4294967296*r+d<q*y0
  ·have hlt:Q<q:=by
    rcases hT with hT|hT
    ·omega
    ·refine Nat.lt_of_not_le fun h=>?_;rw[le_iff] at h;omega
   obtain⟨p,rfl⟩:∃p,q=p+1:=⟨q-1,by omega⟩
   rw[Nat.add_mul,Nat.one_mul] at hq;have test:(br (decide (4294967296≤p+1)) (some true) (some (decide (uw .u64 ((uw .u64 (4294967296*r))+d)<uw .u64 ((p+1)*y0)))))=some true:=by
    by_cases hb:4294967296≤p+1
    ·rw[aL hb]
    ·have h2:(p+1)*y0≤4294967295*4294967295:=Nat.mul_le_mul (by omega) (by omega)
     rw[aJ hb,jX (a:=4294967296*r) (by omega),jX (by omega),jX (by omega),decide_eq_true (by omega)]
   have sb:iE .u64 (p+1) 1=p:=vO (by omega) (by omega)
   by_cases hb:4294967296≤r+y1
   ·have st:e9 n0 d y0 y1 (r,p+1)=some (.inr p):=by
     unfold e9
     dsimp only
     rw[test,ah,bm,jX (a:=r+y1) (by omega),aL hb,sb]
    rw[aN st];have h2:p*y0≤4294967296*4294967295:=Nat.mul_le_mul (by omega) (by omega)
    have h3:p≤Q:=by rw[le_iff]; omega
    rw[show p=Q by omega]
   ·have st:e9 n0 d y0 y1 (r,p+1)=some (.inl (r+y1,p)):=by
     unfold e9
     dsimp only
     rw[test,ah,bm,jX (a:=r+y1) (by omega),aJ hb,sb]
    rw[aA st];exact ih (r+y1) p m (by omega) (by omega) (by omega) (by omega) (by omega) (by omega)
  ·have hq2:q<4294967296:=by omega
   have h2:q*y0≤4294967295*4294967295:=Nat.mul_le_mul (by omega) (by omega)
   have st:e9 n0 d y0 y1 (r,q)=some (.inr q):=by
    unfold e9
    dsimp only
    rw[aJ (by omega),jX (a:=4294967296*r) (by omega),jX (by omega),jX (by omega),ah,aJ (by omega)]
   rw[aN st];have h3:q≤Q:=by rw[le_iff]; omega
   rw[show q=Q by omega]
theorem E0 (n0 y s y1 y0 d e:Nat):∀m q r,bE (rG n0) m (y,s,y1,y0,d,e,q,r)=(bE (e9 n0 d y0 y1) m (r,q)).map fun q=>(y,s,y1,y0,d,e,q):=by
 intro m
 induction m with
 | zero=>intro q r; rfl
 | succ m ih =>
  intro q r;have a:∀b,(br b (br (decide (4294967296≤uw .u64 (r+y1))) (some (.inr (y,s,y1,y0,d,e,iE .u64 q 1))) (some (.inl (y,s,y1,y0,d,e,iE .u64 q 1,uw .u64 (r+y1))))) (some (.inr (y,s,y1,y0,d,e,q))):Option ((Nat × Nat × Nat × Nat × Nat × Nat × Nat × Nat) ⊕ (Nat × Nat × Nat × Nat × Nat × Nat × Nat))) =
   (br b (br (decide (4294967296≤uw .u64 (r+y1))) (some (.inr (iE .u64 q 1))) (some (.inl (uw .u64 (r+y1),iE .u64 q 1)))) (some (.inr q)):Option ((Nat × Nat) ⊕ Nat)).map fun x=>match x with | .inl (r,q)=>.inl (y,s,y1,y0,d,e,q,r) | .inr q=>.inr (y,s,y1,y0,d,e,q):=by
   intro b;cases b
   ·rfl
   ·rw[bm,bm];cases decide (4294967296≤uw .u64 (r+y1))<;>rfl
  have st:rG n0 (y,s,y1,y0,d,e,q,r)=(e9 n0 d y0 y1 (r,q)).map fun x=>match x with | .inl (r,q)=>.inl (y,s,y1,y0,d,e,q,r) | .inr q=>.inr (y,s,y1,y0,d,e,q):=by
   unfold rG e9
   dsimp only
   cases(br (decide (4294967296≤q)) (some true) (some (decide (uw .u64 ((uw .u64 (4294967296*r))+d)<uw .u64 (q*y0)))):Option Bool) with
   | none=>rfl
   | some b=>exact a b
  unfold bE;rw[st];cases e9 n0 d y0 y1 (r,q) with
  | none=>rfl
  | some x =>
   cases x with
   | inl p=>exact ih p.2 p.1
   | inr p=>rfl
theorem vF {a b:Nat} (h:b≤a) (hr:a-b<18446744073709551616):iE .u64 (uw .u64 a) (uw .u64 b)=a-b:=by
 show(a%18446744073709551616+(18446744073709551616-b%18446744073709551616%18446744073709551616))%18446744073709551616=a-b
 omega
theorem NZ {x:Nat} (h0:0<x):2 ^ (bl x-1)≤x∧x<2 ^ bl x∧0<bl x:=by
 have h1:0<bl x:=lH.2 (by simp; omega)
 refine⟨lH.1 (by omega),?_,h1⟩
 exact Nat.lt_of_not_le fun h=>Nat.lt_irrefl _ (lH.2 h)
theorem nT {a s:Nat} (h:s≤64):gz .u64 a s=uw .u64 (a*2 ^ s):=by
 have:min s (IntKind.bits .u64)=s:=Nat.min_eq_left h;unfold gz;rw[this]
theorem C7 {a s:Nat} (h:s≤64):bH .u64 a s=a/2 ^ s:=by
 have:min s (IntKind.bits .u64)=s:=Nat.min_eq_left h;unfold bH;rw[this]
theorem DC {n:Nat} (hn:4<n) {u y1 y0 d:Nat} (h1:2147483648≤y1) (h1':y1<4294967296) (h0:y0<4294967296) (hd:d<4294967296) (hu:u<y1*4294967296+y0) :
  bE (e9 n d y0 y1) n (iE .u64 u (uw .u64 (uw .u64 (u/y1)*y1)),uw .u64 (u/y1))=some ((u*4294967296+d)/(y1*4294967296+y0)):=by
 have e1:=Nat.div_add_mod u y1;have e2:=Nat.mod_lt u (show 0<y1 by omega)
 rw[Nat.mul_comm] at e1;have hq:u/y1≤4294967297:=by
  have:u/y1<4294967298:=by rw[Nat.div_lt_iff_lt_mul (by omega)]; omega
  omega
 rw[jX (a:=u/y1) (by omega),jX (a:=u/y1*y1) (by omega),vO (by omega) (by omega)]
 have hy:0<y1*4294967296+y0:=by omega
 refine Eu n h1 h1' h0 hd (fun p=>by rw[Nat.le_div_iff_mul_le hy,Nat.mul_add,←Nat.mul_assoc]) (by rw[Nat.div_lt_iff_lt_mul hy]; omega) 2 _ _ n (by omega) (by omega) (by omega) ?_ hq (by omega)
 have:(u*4294967296+d)/(y1*4294967296+y0)<u/y1+1:=by
  rw[Nat.div_lt_iff_lt_mul hy,Nat.add_mul,Nat.one_mul,Nat.mul_add,←Nat.mul_assoc];omega
 omega
theorem JS {U w v A B R1 R0 d1 d0:Nat} (hU:U=w*4294967296) (h6:4294967296*d1+d0=v) (h5:A*4294967296+R1*4294967296=(w+d1)*4294967296) (m3:B+R0=R1*4294967296+d0) :
  U+v=R0+(A*4294967296+B):=by
 omega
theorem Pr (u:Nat):u*18446744073709551616=u*4294967296*4294967296:=by rw[Nat.mul_assoc]
theorem Lc {n:Nat} (hn:4<n) {x1 x2 x3:Nat} (h4:x1<x3) (h1:x2<18446744073709551616) (h2:x3<18446744073709551616) :
  FQ n x1 x2 x3=some ((x1*18446744073709551616+x2)/x3,(x1*18446744073709551616+x2)%x3):=by
 unfold FQ;rw[aJ (by omega),aJ (by omega)]
 by_cases hz:x1=0
 ·subst hz;rw[aL rfl,cy (by omega),cy (by omega),jX (Nat.lt_of_le_of_lt (Nat.div_le_self _ _) h1)]
  simp
 ·rw[aJ hz];obtain⟨l1,l2,l3⟩:=NZ (x:=x3) (by omega)
  have l4:bl x3≤64:=LM h2;obtain⟨s,hs⟩:∃s,bl x3+s=64:=⟨64-bl x3,by omega⟩
  have r0:ED n x3=some ((s:Nat):Int):=by
   unfold ED;rw[xF n x3 h2,ah,aE (by omega) (by omega)]
   congr 1
   omega
  have u0:ui .u64 ((s:Nat):Int)=s:=by
   show(((s:Nat):Int)%((2 ^ 64:Nat):Int)).toNat=s
   omega
  have P0:0<2 ^ s:=Nat.two_pow_pos s;have PP:2 ^ s*2 ^ (64-s)=18446744073709551616:=by rw[←Nat.pow_add,show s+(64-s)=64 by omega]
  have X1:x3*2 ^ s<18446744073709551616:=by
   have:x3*2 ^ s<2 ^ bl x3*2 ^ s:=Nat.mul_lt_mul_of_pos_right l2 P0;rw[←Nat.pow_add,hs] at this;exact this
  have X2:9223372036854775808≤x3*2 ^ s:=by
   have:2 ^ (bl x3-1)*2 ^ s≤x3*2 ^ s:=Nat.mul_le_mul_right _ l1;rw[←Nat.pow_add,show bl x3-1+s=63 by omega] at this
   exact this
  have X3:x1*2 ^ s<x3*2 ^ s:=Nat.mul_lt_mul_of_pos_right h4 P0;have s0:gz .u64 x3 s=x3*2 ^ s:=by
   rw[nT (by omega),jX X1]
  have s1:gz .u64 x1 s=x1*2 ^ s:=by
   rw[nT (by omega),jX (by omega)]
  have s2:gz .u64 x2 s=x2*2 ^ s%18446744073709551616:=by
   rw[nT (by omega)]; rfl
  have t0:bH .u64 x2 (iE .u64 64 s)=x2/2 ^ (64-s):=by
   rw[vO (by decide) (by omega)]
   rw[C7 (by omega)]
  have t3:x2/2 ^ (64-s)<2 ^ s:=by rw[Nat.div_lt_iff_lt_mul (Nat.two_pow_pos _),PP]; exact h1
  have t4:x2*2 ^ s/18446744073709551616=x2/2 ^ (64-s):=by rw[←PP,Nat.mul_comm x2,Nat.mul_div_mul_left _ _ P0]
  have hor:uw .u64 (uw .u64 (x1*2 ^ s) ||| uw .u64 (x2/2 ^ (64-s)))=x1*2 ^ s+x2/2 ^ (64-s):=by
   have h0:x2/2 ^ (64-s)≤x2:=Nat.div_le_self _ _;rw[re (show x1*2 ^ s<2 ^ 64 by omega) (show x2/2 ^ (64-s)<2 ^ 64 by omega),←Nat.shiftLeft_eq,Nat.shiftLeft_add_eq_or_of_lt t3]
  rw[r0,ah,u0,ah,s0,s1,t0,hor,s2];have key:(x1*2 ^ s+x2/2 ^ (64-s))*18446744073709551616+x2*2 ^ s%18446744073709551616=(x1*18446744073709551616+x2)*2 ^ s:=by
   have:=Nat.div_add_mod (x2*2 ^ s) 18446744073709551616;rw[t4] at this;rw[Nat.add_mul,Nat.add_mul,Nat.mul_right_comm x1];omega
  have hv:x2*2 ^ s%18446744073709551616<18446744073709551616:=Nat.mod_lt _ (by decide)
  have hu:x1*2 ^ s+x2/2 ^ (64-s)<x3*2 ^ s:=by
   have h0:(x1*18446744073709551616+x2)*2 ^ s<(x3*18446744073709551616)*2 ^ s:=Nat.mul_lt_mul_of_pos_right (by omega) P0
   rw[←key,Nat.mul_right_comm x3] at h0;omega
  have r1:(x1*18446744073709551616+x2)/x3=((x1*18446744073709551616+x2)*2 ^ s)/(x3*2 ^ s):=by rw[Nat.mul_div_mul_right _ _ P0]
  have r2:(x1*18446744073709551616+x2)%x3=(((x1*18446744073709551616+x2)*2 ^ s)%(x3*2 ^ s))/2 ^ s:=by rw[Nat.mul_mod_mul_right,Nat.mul_div_cancel _ P0]
  rw[r1,r2,←key];have hss:∀R,bH .u64 R s=R/2 ^ s:=fun R=>C7 (by omega)
  clear PP t3 t4 hor key r1 r2 r0 u0 s1 s2 s0 t0 P0 X3 l1 l2 l3 l4 hs;generalize x1*2 ^ s+x2/2 ^ (64-s)=u at hu ⊢;generalize x2*2 ^ s%18446744073709551616=v at hv ⊢;generalize x3*2 ^ s=X at X1 X2 hu ⊢;have hX:X/4294967296*4294967296+X%4294967296=X:=Nat.div_add_mod' _ _;rw[cy (show 0<bH .u64 X 32 by rw[HD]; omega)]
  simp only[HD,zh X1,zh hv];rw[ah,E0];rw[DC hn (u:=u) (y1:=X/4294967296) (y0:=X%4294967296) (d:=v/4294967296) (by omega) (by omega) (by omega) (by omega) (by omega),hX]
  have q0:(u*4294967296+v/4294967296)/X<4294967296:=by rw[Nat.div_lt_iff_lt_mul (by omega)]; omega
  have m3:=Nat.div_add_mod (u*4294967296+v/4294967296) X;have m2:=Nat.mod_lt (u*4294967296+v/4294967296) (show 0<X by omega)
  rw[Option.map_some,ah]
  dsimp only
  rw[ah,cy (by omega)]
  have e0:uw .u64 (uw .u64 (u*4294967296)+v/4294967296)=uw .u64 (u*4294967296+v/4294967296):=Nat.mod_add_mod _ _ _;rw[Nat.mul_comm X] at m3;rw[e0,vF (by omega) (by omega)]
  have e1:u*4294967296+v/4294967296-(u*4294967296+v/4294967296)/X*X=(u*4294967296+v/4294967296)%X:=by omega
  rw[e1];obtain⟨Q1,hQ1⟩:∃Q,(u*4294967296+v/4294967296)/X=Q:=⟨_,rfl⟩;obtain⟨R1,hR1⟩:∃R,(u*4294967296+v/4294967296)%X=R:=⟨_,rfl⟩;clear e1;rw[hQ1] at q0 m3 ⊢;rw[hR1] at m3 m2 ⊢;rw[DC hn (u:=R1) (y1:=X/4294967296) (y0:=X%4294967296) (d:=v%4294967296) (by omega) (by omega) (by omega) (by omega) (by omega),hX,ah]
  have q1:(R1*4294967296+v%4294967296)/X<4294967296:=by rw[Nat.div_lt_iff_lt_mul (by omega)]; omega
  have m1:=Nat.div_add_mod (R1*4294967296+v%4294967296) X;have m4:=Nat.mod_lt (R1*4294967296+v%4294967296) (show 0<X by omega)
  rw[Nat.mul_comm X] at m1;have e2:uw .u64 (uw .u64 (R1*4294967296)+v%4294967296)=uw .u64 (R1*4294967296+v%4294967296):=Nat.mod_add_mod _ _ _;rw[e2,ah,vF (by omega) (by omega)]
  have e3:R1*4294967296+v%4294967296-(R1*4294967296+v%4294967296)/X*X=(R1*4294967296+v%4294967296)%X:=by omega
  rw[e3,hss];obtain⟨Q0,hQ0⟩:∃Q,(R1*4294967296+v%4294967296)/X=Q:=⟨_,rfl⟩;obtain⟨R0,hR0⟩:∃R,(R1*4294967296+v%4294967296)%X=R:=⟨_,rfl⟩;clear e3;rw[hQ0] at q1 m1 ⊢;rw[hR0] at m1 m4 ⊢;rw[jX (a:=Q1*4294967296) (by omega),jX (by omega)]
  clear hQ1 hR1 hQ0 hR0 e0 e2 hss X1 X2 hX q1 q0 m2 hu h4 h1 h2 hz;have fin:u*18446744073709551616+v=R0+(Q1*4294967296+Q0)*X:=by
   have h0:Q1*X*4294967296+R1*4294967296=(u*4294967296+v/4294967296)*4294967296:=by rw[←m3,Nat.add_mul]
   rw[Nat.add_mul,Nat.mul_right_comm Q1];have h3:=Nat.div_add_mod v 4294967296;generalize v/4294967296=d0 at h0 h3;generalize v%4294967296=d1 at m1 h3;generalize Q1*X=A at h0 ⊢;generalize Q0*X=B at m1 ⊢;exact JS (Pr u) h3 h0 m1
  rw[fin,Nat.add_mul_div_right _ _ (show 0<X by omega),Nat.add_mul_mod_self_right,Nat.div_eq_of_lt m4,Nat.mod_eq_of_lt m4,Nat.zero_add]
theorem Gz {q:List Nat} {i e d:Nat}:(List.replicate i 0++e::q).set i d=List.replicate i 0++d::q:=by
 rw[List.set_append_right _ _ (by simp)]
 simp
theorem GI (i:Nat) (q:List Nat):List.replicate (i+1) 0++q=List.replicate i 0++0::q:=by
 rw[List.replicate_succ',List.append_assoc]; rfl
theorem Ir {n:Nat} {l:List Nat} {d:Nat} (hl:Wd l) (hd:d<18446744073709551616) (h0:d≠0) (hb:l.length<1000000) (hn:l.length<n) (hn4:4<n) :
  ∃q t m,G9 n l [d]=some (q,m)∧Wd q∧vl q=vl l/d∧q.length=l.length∧Lg ((vl l%d:Nat):Int) t m∧t=false:=by
 have hL:∀i q r m,i+q.length=l.length→i<m→Wd q→r<d→vl l=vl (l.take i)+wp i*(d*vl q+r) →
   ∃q' r',bE (pI n l [d]) m (List.replicate i 0++q,r,(i:Int)-1)=some (q',r')∧Wd q'∧q'.length=l.length∧r'<d∧vl l=d*vl q'+r':=by
  intro i
  induction i with
  | zero =>
   intro q r m hi hm hq hr hv;obtain⟨m,rfl⟩:∃m',m=m'+1:=⟨m-1,by omega⟩
   refine⟨q,r,aN ?_,hq,by omega,hr,?_⟩
   ·unfold pI
    dsimp only
    rw[aJ (by decide)]; rfl
   ·rw[hv]; simp[vl,wp]
  | succ i ih =>
   intro q r m hi hm hq hr hv;obtain⟨m,rfl⟩:∃m',m=m'+1:=⟨m-1,by omega⟩
   have hi':i<l.length:=by omega
   obtain⟨x,e2⟩:∃x,l[i]? = some x:=⟨l[i],by simp⟩
   have hx:=hl.at e2;have e0:((i+1:Nat):Int)-1=((i:Nat):Int):=by omega
   have ht:vl (l.take (i+1))=vl (l.take i)+wp i*x:=by
    rw[List.take_add_one,e2,Option.toList_some,qM,List.length_take,Nat.min_eq_left (Nat.le_of_lt hi')]
   have e3:(List.replicate (i+1) 0++q)[i]? = some 0:=by rw[List.getElem?_append_left (by simp),List.getElem?_replicate]; simp
   have hqd:(r*18446744073709551616+x)/d<18446744073709551616:=by
    rw[Nat.div_lt_iff_lt_mul (by omega),Nat.mul_comm _ d]
    have:(r+1)*18446744073709551616≤d*18446744073709551616:=Nat.mul_le_mul_right _ hr;omega
   have st:pI n l [d] (List.replicate (i+1) 0++q,r,((i:Nat):Int))=some (.inl (List.replicate i 0++(r*18446744073709551616+x)/d::q,(r*18446744073709551616+x)%d,(i:Int)-1)):=by
    unfold pI
    dsimp only
    rw[aL (by omega),al hi',az,Int.toNat_natCast,e2,ah]
    rw[show bz 0 [d].length=true from rfl,az,show([d]:List Nat)[(0:Int).toNat]? = some d from rfl,ah,Lc hn4 hr hx hd,ah]
    dsimp only
    rw[Int.toNat_natCast,al hi',az,e3,ah,GI,Gz,aE (by omega) (by omega)]
   rw[e0,aA st];refine ih _ _ m (by rw[List.length_cons]; omega) (by omega) (fun e he=>?_) (Nat.mod_lt _ (by omega)) ?_
   ·rcases List.mem_cons.1 he with rfl|h
    ·exact hqd
    ·exact hq e h
   ·have h1:=Nat.div_add_mod (r*18446744073709551616+x) d;rw[hv,ht,fP,fL];generalize (r*18446744073709551616+x)%d=R at h1 ⊢;generalize (r*18446744073709551616+x)/d=Q at h1 ⊢;have h2:wp i*(d*Q+R)=wp i*(r*18446744073709551616+x):=by rw[h1]
    rw[Nat.mul_comm r] at h2;simp only[Nat.mul_add,Nat.mul_left_comm (wp i) 18446744073709551616,Nat.mul_left_comm d 18446744073709551616,Nat.mul_assoc] at h2 ⊢;omega
 obtain⟨q,r,q1,q2,q3,q4,q5⟩:=hL l.length [] 0 n (by simp) hn Wd.nil (by omega) (by rw[List.take_length,ly]; simp)
 rw[List.append_nil] at q1;obtain⟨t,m,m1,m2⟩:=iH (n:=n) false (Wd.one (show r<18446744073709551616 by omega)) (by simp) (by simp; omega)
 have hr:vl [r]=r:=by simp[vl]
 rw[hr] at m2;have dq:vl q=vl l/d:=by
  rw[q5,Nat.mul_add_div (by omega),Nat.div_eq_of_lt q4]; rfl
 have dr:r=vl l%d:=by
  rw[q5,Nat.mul_add_mod,Nat.mod_eq_of_lt q4]
 refine⟨q,t,m,?_,q2,dq,q3,by rw[←dr]; exact m2,?_⟩
 ·unfold G9;rw[cy (by omega),Int.toNat_natCast,cq (by omega),az,aL (show(([d]:List Nat).length:Int)=1 from rfl),aE (by omega) (by omega),q1,ah]
  dsimp only
  rw[m1]; rfl
 ·have:=m2.Hs;rw[this];simp[wJ]
theorem KE {n:Nat} {a b:Int} {s t:Bool} {l k:List Nat} (h:Lg (a*b) s l) (h':Lg b t k) (h0:b≠0) (hbb:b.natAbs<18446744073709551616) (hb:l.length<1000000) (hn:l.length<n) (hn4:4<n) :
  ∃u m v o,IN n s l t k=some (u,m,v,o)∧Lg a u m:=by
 have hk:=h'.Px h0 hbb;subst hk;obtain⟨q,t',m,q1,q2,q3,q4,q5,q6⟩:=Ir (n:=n) h.wd hbb (by omega) hb hn hn4
 obtain⟨u,m',u1,u2⟩:=iH (n:=n) (!(s == t)) q2 (by omega) (by omega)
 have hz:(vl l%b.natAbs:Nat)=0:=by rw[h.abs,Int.natAbs_mul,Nat.mul_mod_left]
 rw[hz] at q5;obtain⟨rfl,rfl⟩:=q5.inj Lg.zero;obtain⟨v,o,v1,v2⟩:=iH (n:=n) s Wd.nil (by simp) (by simp; omega)
 have v3:Lg 0 v o:=by rw[ly,zz] at v2; exact v2
 obtain⟨rfl,rfl⟩:=v3.inj Lg.zero;refine⟨u,m',false,[],?_,?_⟩
 ·unfold IN;rw[q1,ah]
  dsimp only
  rw[u1,ah]
  dsimp only
  rw[v1,ah]
  rfl
 ·have e1:vl q=a.natAbs:=by rw[q3,h.abs,Int.natAbs_mul,Nat.mul_div_cancel _ (by omega)]
  have hs:=h.Hs;have ht:=h'.Hs;have:a=wJ (!(s == t)) (vl q)∨(a=0):=by
   by_cases ha:a=0
   ·exact .inr ha
   ·refine .inl ?_;rw[e1,hs,ht];unfold wJ
    by_cases hb0:b<0<;>by_cases ha0:a<0
    ·have:¬a*b<0:=Int.not_lt.2 (Int.mul_nonneg_of_nonpos_of_nonpos (by omega) (by omega))
     simp[hb0,this]; omega
    ·have:a*b<0:=Int.mul_neg_of_pos_of_neg (by omega) hb0
     simp[hb0,this]; omega
    ·have:a*b<0:=Int.mul_neg_of_neg_of_pos ha0 (by omega)
     simp[hb0,this]; omega
    ·have:¬a*b<0:=Int.not_lt.2 (Int.mul_nonneg (by omega) (by omega))
     simp[hb0,this]; omega
  rcases this with e|e
  ·rw[e]; exact u2
  ·rw[e,Int.natAbs_zero] at e1;rw[e1,zz] at u2;rw[e]; exact u2
theorem QW (m:Nat):wX (m+20) 0=some (false,[]):=by rfl
theorem PM (m:Nat):wX (m+20) 1=some (false,[1]):=by rfl
theorem P5 (m:Nat):wX (m+20) (-1)=some (true,[1]):=by rfl
theorem oj {n:Nat} (h:20≤n):wX n 0=some (false,[]):=by obtain⟨m,rfl⟩:∃m,n=m+20:=⟨n-20,by omega⟩; exact QW m
theorem xU {n:Nat} (h:20≤n):wX n 1=some (false,[1]):=by obtain⟨m,rfl⟩:∃m,n=m+20:=⟨n-20,by omega⟩; exact PM m
theorem Cp {n:Nat} (h:20≤n):wX n (-1)=some (true,[1]):=by obtain⟨m,rfl⟩:∃m,n=m+20:=⟨n-20,by omega⟩; exact P5 m
theorem Cc:Lg 1 false [1]:=Lg.small (by decide) (by decide) false
theorem Ge:Lg (-1) true [1]:=Lg.small (by decide) (by decide) true
end Go.Proofs.YtookeaakpiefjaaGreatDoor
end
section
namespace Go.Proofs.YtookeaakpiefjaaGreatDoor
open Go Go.Ab Go.Ab.W Go.Ab.T30
def uK (s:Nat) (L:List (List (Bool × List Nat))) (M:Mt):Prop :=
 L.length=s∧∀r,r<s→∃row,L[r]? = some row∧row.length=s∧∀c,c<s→∃t k,row[c]? = some (t,k)∧Lg (M r c) t k
section
variable {s : Nat} {L : List (List (Bool × List Nat))} {M M' : Mt}
theorem uK.congr (h:uK s L M) (he:∀r c,r<s→c<s→M r c=M' r c):uK s L M' :=
 ⟨h.1,fun r hr=>by
  obtain⟨row,h1,h2,h3⟩:=h.2 r hr;exact⟨row,h1,h2,fun c hc=>by rw[←he r c hr hc]; exact h3 c hc⟩⟩
theorem uK.at (h:uK s L M) {r c:Nat} (hr:r<s) (hc:c<s):∃row t k,L[r]? = some row∧row.length=s∧row[c]? = some (t,k)∧Lg (M r c) t k:=by
 obtain⟨row,h1,h2,h3⟩:=h.2 r hr;obtain⟨t,k,h4,h5⟩:=h3 c hc;exact⟨row,t,k,h1,h2,h4,h5⟩
theorem uK.set (h:uK s L M) {i j:Nat} {row:List (Bool × List Nat)} {t:Bool} {k:List Nat} {x:Int} (hi:i<s) (hj:j<s) (hrow:L[i]? = some row) (hx:Lg x t k) :
  uK s (L.set i (row.set j (t,k))) fun r c=>if r=i∧c=j then x else M r c:=by
 refine⟨by rw[List.length_set]; exact h.1,fun r hr=>?_⟩
 by_cases hri:r=i
 ·subst hri;obtain⟨row',h1,h2,h3⟩:=h.2 r hr;rw[hrow] at h1;cases h1;refine⟨_,by rw[List.getElem?_set_self (by rw[h.1]; exact hr)],by rw[List.length_set]; exact h2,fun c hc=>?_⟩
  by_cases hcj:c=j
  ·subst hcj;exact⟨t,k,by rw[List.getElem?_set_self (by rw[h2]; exact hc)],by dsimp only; rw[if_pos ⟨rfl,rfl⟩]; exact hx⟩
  ·dsimp only
   rw[List.getElem?_set_ne (fun e=>hcj e.symm),if_neg (fun e:r=r∧c=j=>hcj e.2)];exact h3 c hc
 ·obtain⟨row',h1,h2,h3⟩:=h.2 r hr;refine⟨row',by rw[List.getElem?_set_ne (fun e=>hri e.symm)]; exact h1,h2,fun c hc=>?_⟩
  dsimp only
  rw[if_neg (fun e:r=i∧c=j=>hri e.1)];exact h3 c hc
end
theorem It {a b:Nat} (h:a<b):Nat.blt a b=true:=Nat.ble_eq_true_of_le h
def Rc (s k:Nat) (M:Mt):Prop:=∀r c,k≤r→r<s→k≤c→c<s→(M r c).natAbs<wp 15
theorem me {a b:Int} {j k:Nat} (ha:a.natAbs<wp j) (hb:b.natAbs<wp k):(a*b).natAbs<wp (j+k):=by
 rw[Int.natAbs_mul,NS];have h1:a.natAbs*b.natAbs≤a.natAbs*wp k:=Nat.mul_le_mul_left _ (Nat.le_of_lt hb);have h2:a.natAbs*wp k<wp j*wp k:=Nat.mul_lt_mul_of_pos_right ha (Im k);omega
theorem Ig {n:Nat} (hn:100<n) {s k r:Nat} {A M:Mt} {p:Int} (hB:Bar A s k M p) (hk:k<s) (hr:k<r) (hrs:r<s) (hs:s≤64) (h0:M k k≠0) (hp:p.natAbs<18446744073709551616) (hb:Rc s k M)
  {tf:Bool} {kf:List Nat} (hf:Lg (M r k) tf kf) {tp:Bool} {kp:List Nat} (hP:Lg p tp kp) {N:Mt} (hN:∀b,N k b=M k b) :
  ∀j c m L,c+j=s→j<m→k≤c→uK s L (fun a b=>if a=r then(if k≤b∧b<c then D2 M k p a b else M a b) else N a b) →
   ∃L',bE (tT n s (r:Int) (k:Int) tf kf tp kp) m (L,(c:Int))=some L'∧uK s L' (fun a b=>if a=r then(if k≤b∧b<s then D2 M k p a b else M a b) else N a b):=by
 intro j
 induction j with
 | zero =>
  intro c m L hj hm hkc hL;obtain⟨m,rfl⟩:∃m',m=m'+1:=⟨m-1,by omega⟩
  have hc:c=s:=by omega
  subst hc;refine⟨L,aN ?_,hL⟩;unfold tT
  dsimp only
  rw[aJ (by omega)]
 | succ j ih =>
  intro c m L hj hm hkc hL;obtain⟨m,rfl⟩:∃m',m=m'+1:=⟨m-1,by omega⟩
  have hc:c<s:=by omega
  obtain⟨row,t1,k1,a1,a2,a3,a4⟩:=hL.at hrs hc;obtain⟨rowk,t2,k2,b1,b2,b3,b4⟩:=hL.at hk hk;obtain⟨rowk',t3,k3,c1,c2,c3,c4⟩:=hL.at hk hc;rw[b1] at c1;cases c1;rw[if_pos rfl,if_neg (by omega)] at a4
  rw[if_neg (by omega),hN] at b4 c4
  have l1:=a4.len (hb r c (by omega) hrs hkc hc)
  have l2:=b4.len (hb k k (by omega) hk (by omega) hk)
  have l3:=c4.len (hb k c (by omega) hk hkc hc)
  have lf:=hf.len (hb r k (by omega) hrs (by omega) hk)
  obtain⟨u1,v1,d1,d2⟩:=Ct (n:=n) a4 b4 (by omega) (by omega) (by omega)
  obtain⟨u2,v2,e1,e2⟩:=Ct (n:=n) hf c4 (by omega) (by omega) (by omega)
  have l4:=d2.len (me (hb r c (by omega) hrs hkc hc) (hb k k (by omega) hk (by omega) hk))
  have l5:=e2.len (me (hb r k (by omega) hrs (by omega) hk) (hb k c (by omega) hk hkc hc))
  obtain⟨u3,v3,f1,f2⟩:=B0 (n:=n) d2 e2 (by omega) (by omega) (by omega)
  have l6:v3.length≤31:=f2.len (by
   have h1:=me (hb r c (by omega) hrs hkc hc) (hb k k (by omega) hk (by omega) hk)
   have h2:=me (hb r k (by omega) hrs (by omega) hk) (hb k c (by omega) hk hkc hc)
   rw[fP];simp only[Nat.reduceAdd] at h1 h2;omega)
  have hex:=hB.exact hk h0 hr hrs hkc hc;rw[hex,Int.mul_comm] at f2;obtain⟨u4,v4,w4,o4,g1,g2⟩:=KE (n:=n) f2 hP hB.p0 hp (by omega) (by omega) (by omega)
  have st:tT n s (r:Int) (k:Int) tf kf tp kp (L,(c:Int))=some (.inl (L.set r (row.set c (u4,v4)),((c+1:Nat):Int))):=by
   unfold tT
   dsimp only
   simp only[Int.toNat_natCast];rw[aL (by omega),al hrs,az,a1,ah,cy (by omega),a2,al hc,az,a3,ah]
   dsimp only
   rw[al hk,az,b1,ah,cy (by omega),b2,al hk,az,b3,ah]
   dsimp only
   rw[d1,ah]
   dsimp only
   rw[az,ah,cy (by omega),b2,al hc,az,c3,ah]
   dsimp only
   rw[e1,ah]
   dsimp only
   rw[f1,ah]
   dsimp only
   rw[az,ah,cy (by omega),g1,ah]
   dsimp only
   rw[a2,al hc,az,It hc,az,aD (by omega)]
  rw[aA st];refine ih (c+1) m _ (by omega) (by omega) (by omega) ((hL.set hrs hc a1 g2).congr fun a b ha hb'=>?_)
  by_cases h1:a=r∧b=c
  ·rw[if_pos h1,if_pos h1.1,if_pos ⟨by omega,by omega⟩,h1.1,h1.2]
  ·rw[if_neg h1]
   by_cases h3:a=r
   ·rw[if_pos h3,if_pos h3]
    by_cases h2:k≤b∧b<c
    ·rw[if_pos h2,if_pos ⟨h2.1,by omega⟩]
    ·rw[if_neg h2,if_neg (by omega)]
   ·rw[if_neg h3,if_neg h3]
theorem EY {n:Nat} (hn:100<n) {s k:Nat} {A M:Mt} {p:Int} (hB:Bar A s k M p) (hk:k<s) (hs:s≤64) (h0:M k k≠0) (hp:p.natAbs<18446744073709551616) (hb:Rc s k M)
  {tp:Bool} {kp:List Nat} (hP:Lg p tp kp) :
  ∀j r m L,r+j=s→j<m→k<r→uK s L (fun a b=>if k<a∧a<r∧k≤b then D2 M k p a b else M a b) →
   ∃L',bE (pw n s (k:Int) tp kp) m (L,(r:Int))=some L'∧uK s L' (D2 M k p):=by
 intro j
 induction j with
 | zero =>
  intro r m L hj hm hkr hL;obtain⟨m,rfl⟩:∃m',m=m'+1:=⟨m-1,by omega⟩
  have hr:r=s:=by omega
  subst hr;refine⟨L,aN ?_,hL.congr fun a b ha hb'=>?_⟩
  ·unfold pw
   dsimp only
   rw[aJ (by omega)]
  ·by_cases h1:k<a∧k≤b
   ·rw[if_pos ⟨h1.1,ha,h1.2⟩]
   ·rw[if_neg (by omega)]; unfold D2; rw[if_neg h1]
 | succ j ih =>
  intro r m L hj hm hkr hL;obtain⟨m,rfl⟩:∃m',m=m'+1:=⟨m-1,by omega⟩
  have hr:r<s:=by omega
  obtain⟨row,t1,k1,a1,a2,a3,a4⟩:=hL.at hr hk;rw[if_neg (by omega)] at a4
  have hL9:∃L',bE (tT n s (r:Int) (k:Int) t1 k1 tp kp) n (L,(k:Int))=some L'∧uK s L' (fun a b=>if k<a∧a<r+1∧k≤b then D2 M k p a b else M a b):=by
   obtain⟨L',c1,c2⟩:=Ig hn hB hk hkr hr hs h0 hp hb a4 hP (N:=fun a b=>if k<a∧a<r∧k≤b then D2 M k p a b else M a b) (fun b=>by rw[if_neg (by omega)]) (s-k) k n L (by omega) (by omega) (Nat.le_refl _) (hL.congr fun a b ha hb'=>by
    by_cases h3:a=r
    ·rw[if_neg (by omega),if_pos h3,if_neg (by omega)]
    ·rw[if_neg (c:=a=r) h3])
   refine⟨L',c1,c2.congr fun a b ha hb'=>?_⟩
   by_cases h3:a=r
   ·rw[if_pos h3]
    by_cases h4:k≤b
    ·rw[if_pos ⟨h4,hb'⟩,if_pos ⟨by omega,by omega,h4⟩]
    ·rw[if_neg (by omega),if_neg (by omega)]
   ·rw[if_neg h3]
    by_cases h4:k<a∧a<r∧k≤b
    ·rw[if_pos h4,if_pos ⟨h4.1,by omega,h4.2.2⟩]
    ·rw[if_neg h4,if_neg (by omega)]
  obtain⟨L',b1,b2⟩:=hL9;have st:pw n s (k:Int) tp kp (L,(r:Int))=some (.inl (L',((r+1:Nat):Int))):=by
   unfold pw
   dsimp only
   simp only[Int.toNat_natCast];rw[aL (by omega),al hr,az,a1,ah,cy (by omega),a2,al hk,az,a3,ah]
   dsimp only
   rw[b1,ah,aD (by omega)]
  rw[aA st];exact ih (r+1) m _ (by omega) (by omega) (by omega) b2
theorem EJ {n:Nat} (hn:100<n) {s:Nat} {A:Mt} (hs:s≤64) (hD:∀k r c,k<s→r<s→c<s→(cu (k+1) (kD A k r c)).natAbs<wp 15) (hP:∀k,k<s→(cu k A).natAbs<18446744073709551616) :
  ∀j k m L M p tp kp,j+k=s→j<m→uK s L M→Bar A s k M p→Lg p tp kp →
   ∃t q,(bE (jf n s) m (L,tp,kp,(k:Int))=some (.inl (t,q))∨bE (jf n s) m (L,tp,kp,(k:Int))=some (.inr (t,q)))∧Lg (Me j k M p) t q:=by
 intro j
 induction j with
 | zero =>
  intro k m L M p tp kp hj hm hL hB hp;obtain⟨m,rfl⟩:∃m',m=m'+1:=⟨m-1,by omega⟩
  refine⟨tp,kp,.inr (aN ?_),hp⟩;unfold jf
  dsimp only
  rw[aJ (by omega)]
 | succ j ih =>
  intro k m L M p tp kp hj hm hL hB hp;obtain⟨m,rfl⟩:∃m',m=m'+1:=⟨m-1,by omega⟩
  have hk:k<s:=by omega
  obtain⟨row,t1,k1,a1,a2,a3,a4⟩:=hL.at hk hk;obtain⟨r,r1,r2,r3⟩:=AV (n:=n) a4;have hb:Rc s k M:=fun r c h1 h2 h3 h4=>by rw[hB.minor h1 h2 h3 h4]; exact hD k r c hk h2 h4
  unfold Me
  by_cases h0:M k k=0
  ·rw[if_pos h0];refine⟨false,[],.inl (aN ?_),Lg.zero⟩;unfold jf
   dsimp only
   simp only[Int.toNat_natCast];rw[aL (by omega),al hk,az,a1,ah,cy (by omega),a2,al hk,az,a3,ah]
   dsimp only
   rw[r1,ah,aL (r3.2 h0),oj (by omega),ah]
  ·rw[if_neg h0];obtain⟨L',b1,b2⟩:=EY hn hB hk hs h0 (by rw[hB.pe]; exact hP k hk) hb hp (s-(k+1)) (k+1) n L (by omega) (by omega) (by omega) (hL.congr fun a b _ _=>by rw[if_neg (by omega)])
   obtain⟨row',t2,k2,c1,c2,c3,c4⟩:=b2.at hk hk;have he:D2 M k p k k=M k k:=by unfold D2; rw[if_neg (by omega)]
   rw[he] at c4;have st:jf n s (L,tp,kp,(k:Int))=some (.inl (L',t2,k2,((k+1:Nat):Int))):=by
    unfold jf
    dsimp only
    simp only[Int.toNat_natCast];rw[aL (by omega),al hk,az,a1,ah,cy (by omega),a2,al hk,az,a3,ah]
    dsimp only
    rw[r1,ah,aJ (fun e=>h0 (r3.1 e)),aD (by omega),b1,ah,az,c1,ah,cy (by omega),c2,al hk,az,c3,ah]
   rw[aA st];exact ih (k+1) m L' _ _ t2 k2 (by omega) (by omega) b2 (hB.step hk h0) c4
end Go.Proofs.YtookeaakpiefjaaGreatDoor
end
section
namespace Go.Proofs.YtookeaakpiefjaaGreatDoor
open Go Go.Ab Go.Ab.W
theorem vw {α β:Type} [DecidableEq α] (xs:List (α × β)) (k k':α) (v:β):bY (cH xs k v) k'=(if k'=k then some v else bY xs k')∧(cH xs k v).length=(if bY xs k=none then xs.length+1 else xs.length):=by
 have key:∀(xs:List (α × β)) (i:Nat),(bW k xs i=none→∀j,(bW k' (xs++[(k,v)]) j).map (·.2)=if k'=k then some v else(bW k' xs j).map (·.2)) ∧
   (∀p,bW k xs i=some p→i≤p.1∧∀j,(bW k' (xs.set (p.1-i) (k,v)) j).map (·.2)=if k'=k then some v else(bW k' xs j).map (·.2)):=by
  intro xs
  induction xs with
  | nil =>
   intro i;refine⟨fun _ j=>?_,fun p h=>by simp[bW] at h⟩
   simp only[List.nil_append,bW]
   by_cases h:k'=k<;>simp[h]
  | cons e xs ih =>
   intro i
   by_cases he:k=e.1
   ·refine⟨fun h=>by simp[bW,he] at h,fun p h=>?_⟩
    have hp:p=(i,e.2):=by simp[bW,he] at h; exact h.symm
    subst hp;refine⟨Nat.le_refl _,fun j=>?_⟩;simp only[Nat.sub_self,List.set_cons_zero,bW]
    by_cases h:k'=k
    ·simp[h]
    ·have:k'≠e.1:=fun c=>h (c.trans he.symm);simp[h,this]
   ·refine⟨fun h j=>?_,fun p h=>?_⟩
    ·have h':bW k xs (i+1)=none:=by simpa [bW,he] using h
     simp only[List.cons_append,bW]
     by_cases h2:k'=e.1
     ·have:k'≠k:=fun c=>he (c.symm.trans h2);simp[h2,Ne.symm he]
     ·simp only[if_neg h2];exact(ih (i+1)).1 h' (j+1)
    ·have h':bW k xs (i+1)=some p:=by simpa [bW,he] using h
     obtain⟨g1,g2⟩:=(ih (i+1)).2 p h';refine⟨by omega,fun j=>?_⟩
     rw[show p.1-i=(p.1-(i+1))+1 by omega,List.set_cons_succ]
     simp only[bW]
     by_cases h2:k'=e.1
     ·have:k'≠k:=fun c=>he (c.symm.trans h2);simp[h2,Ne.symm he]
     ·simp only[if_neg h2];exact g2 (j+1)
 unfold bY cH;cases h:bW k xs 0 with
 | none=>exact⟨(key xs 0).1 h 0,by simp⟩
 | some p=>exact⟨((key xs 0).2 p h).2 0,by simp⟩
theorem lU {α β:Type} [DecidableEq α] (xs:List (α × β)) (k k':α) (v:β):bY (cH xs k v) k'=if k'=k then some v else bY xs k':=(vw xs k k' v).1
theorem Fu {α β:Type} [DecidableEq α] (xs:List (α × β)) (k:α) (v:β) (h:bY xs k=none):(cH xs k v).length=xs.length+1:=by rw[(vw xs k k v).2,if_pos h]
theorem Hk {α β:Type} [DecidableEq α] (xs:List (α × β)) (k k':α) (v d:β):(bY (cH xs k v) k').getD d=if k'=k then v else(bY xs k').getD d:=by
 rw[lU]; split<;>rfl
end Go.Proofs.YtookeaakpiefjaaGreatDoor
end
section
namespace Go.Proofs.YtookeaakpiefjaaGreatDoor
open Go Go.Ab Go.Ab.W Go.Ab.T30
def wi (es:List (Int × Int)) (x:Nat) (W:List (Int × Bool)) (i:Nat):Bool:=eW es x (i:Int) && (bY W (i:Int)).getD false
def wl (es:List (Int × Int)) (x:Nat) (W:List (Int × Bool)) (i j:Nat):List (Nat × Nat):=((List.range' i j).filter (wi es x W)).map fun(k:Nat)=>eg es (k:Int)
theorem Kc (es:List (Int × Int)) (x:Nat) (W:List (Int × Bool)) (i j:Nat):wl es x W i (j+1)=if wi es x W i then eg es (i:Int)::wl es x W (i+1) j else wl es x W (i+1) j:=by
 unfold wl;rw[List.range'_succ,List.filter_cons]
 split<;>rfl
theorem G4 {N:Nat} {es:List (Int × Int)} (h:Okay N es) {n x:Nat} (hx:x<2 ^ 64) (hn:64<n) (W:List (Int × Bool)) :
  ∀j i m p r E,i+j=es.length→j<m→Fst p r→Rt r E →
   (aY r (wl es x W i j)=true→∃p' E',bE (ld n es x W) m ((i:Int),p,p.length)=some (.inr (p',p'.length))∧Fst p' ((wl es x W i j).foldl bN r)∧Rt ((wl es x W i j).foldl bN r) E') ∧
   (aY r (wl es x W i j)=false→∃p' k,bE (ld n es x W) m ((i:Int),p,p.length)=some (.inl (false,[],p',k))):=by
 intro j
 induction j with
 | zero =>
  intro i m p r E hij hm hp hr;obtain⟨m,rfl⟩:∃m',m=m'+1:=⟨m-1,by omega⟩
  have h0:wl es x W i 0 = []:=rfl;rw[h0];refine⟨fun _=>⟨p,E,aN ?_,hp,hr⟩,fun h=>by cases h⟩
  unfold ld
  dsimp only
  rw[aJ (by omega)]
 | succ j ih =>
  intro i m p r E hij hm hp hr;obtain⟨m,rfl⟩:∃m',m=m'+1:=⟨m-1,by omega⟩
  have hi:i<es.length:=by omega
  have hl:=h.len;obtain⟨a,b,g1,g2,g3,g4,_,g5⟩:=gm h (k:=(i:Int)) ⟨by omega,by omega⟩
  rw[Int.toNat_natCast] at g1;have ha:a<64:=by omega
  have hin:eW es x (i:Int)=(x.testBit a && x.testBit b):=by
   simp only[eW,g2];rw[decide_eq_true ⟨by omega,by omega⟩,Bool.true_and]
  have w1:IntKind.wrap .i64 ((i:Int)+1)=((i+1:Nat):Int):=aD (by omega)
  rw[Kc,g2]
  by_cases h3:(x.testBit a && x.testBit b)=true
  ·by_cases h4:(bY W (i:Int)).getD false=true
   ·have hw:wi es x W i=true:=by unfold wi; rw[hin,h3,h4]; rfl
    rw[if_pos hw];have hM:max (r a) (r b)<p.length:=by rw[hp.len]; have:=hr.le a; have:=hr.le b; omega
    have hma:ma ((r a:Nat):Int) ((r b:Nat):Int)=((max (r a) (r b):Nat):Int):=by simp only[ma]; omega
    have hmi:mi ((r a:Nat):Int) ((r b:Nat):Int)=((min (r a) (r b):Nat):Int):=by simp only[mi]; omega
    have hpM:p[max (r a) (r b)]? = some (p[max (r a) (r b)]'hM):=List.getElem?_eq_getElem _;have key:ld n es x W ((i:Int),p,p.length)=if r a=r b then some (.inr (.inl (false,[],p.set (max (r a) (r b)) ((min (r a) (r b):Nat):Int),p.length))) else some (.inl (((i+1:Nat):Int),p.set (max (r a) (r b)) ((min (r a) (r b):Nat):Int),p.length)):=by
     unfold ld
     dsimp only
     rw[aL (by omega),al hi,az,Int.toNat_natCast,g1,ah]
     dsimp only
     rw[jY n x a b hx ha g4,ah,h3,bm,ah,h4,bm,rm hp n a ha hn,ah,rm hp n b g4 hn,ah,hma,al hM,az,Int.toNat_natCast,hpM,ah,ah,hmi]
     dsimp only
     rw[ah]
     dsimp only
     rw[w1]
     by_cases h5:r a=r b
     ·rw[if_pos h5,decide_eq_true (by omega),oj (by omega)]; rfl
     ·rw[if_neg h5,decide_eq_false (by omega)]; rfl
    unfold aY
    by_cases h5:r a=r b
    ·rw[if_pos h5] at key
     dsimp only
     have:(r a == r b)=true:=by simpa using h5
     rw[this];exact⟨fun h=>(by cases h),fun _=>⟨_,_,aN key⟩⟩
    ·rw[if_neg h5] at key
     dsimp only
     have:(r a == r b)=false:=by simpa using h5
     rw[this,Bool.not_false,Bool.true_and,aA key,List.foldl_cons];have hj:=hp.join hr (e:=(a,b)) ha g4;have:=ih (i+1) m _ _ _ (by omega) (by omega) hj (hr.join (a,b))
     rw[List.length_set] at this;exact this
   ·rw[Bool.not_eq_true] at h4;have hw:wi es x W i=false:=by unfold wi; rw[h4,Bool.and_false]
    rw[hw];have key:ld n es x W ((i:Int),p,p.length)=some (.inl (((i+1:Nat):Int),p,p.length)):=by
     unfold ld
     dsimp only
     rw[aL (by omega),al hi,az,Int.toNat_natCast,g1,ah]
     dsimp only
     rw[jY n x a b hx ha g4,ah,h3,bm,ah,h4,bu,ah]
     dsimp only
     rw[bu,ah]
     dsimp only
     rw[ah]
     dsimp only
     rw[w1]
    rw[aA key];exact ih (i+1) m p r E (by omega) (by omega) hp hr
  ·rw[Bool.not_eq_true] at h3;have hw:wi es x W i=false:=by unfold wi; rw[hin,h3]; rfl
   rw[hw];have key:ld n es x W ((i:Int),p,p.length)=some (.inl (((i+1:Nat):Int),p,p.length)):=by
    unfold ld
    dsimp only
    rw[aL (by omega),al hi,az,Int.toNat_natCast,g1,ah]
    dsimp only
    rw[jY n x a b hx ha g4,ah,h3,bu,ah]
    dsimp only
    rw[w1]
   rw[aA key];exact ih (i+1) m p r E (by omega) (by omega) hp hr
theorem HY (n:Nat) (p:List Int):FI n p.length p=gp n p:=rfl
theorem G7 (n:Nat) (p:List Int):Dg n p.length p=gp n p:=rfl
theorem H3 (n:Nat) (p:List Int):C1 n p.length p=gp n p:=rfl
theorem Gy (n:Nat) (p:List Int) (z:List (Int × Int)):∀m v,bE (yq n p.length p) m (v,z)=(bE (gp n p) m v).map fun v=>(v,z):=by
 intro m
 induction m with
 | zero=>intro v; rfl
 | succ m ih =>
  intro v;have st:yq n p.length p (v,z)=(gp n p v).map fun x=>match x with | .inl v=>.inl (v,z) | .inr v=>.inr (v,z):=by
   unfold yq gp
   dsimp only
   cases bz v p.length
   ·rfl
   ·rw[az,az];cases p[v.toNat]? with
    | none=>rfl
    | some y =>
     rw[ah,ah];cases(!decide (y=v))<;>rfl
  unfold bE;rw[st];cases gp n p v with
  | none=>rfl
  | some x =>
   cases x with
   | inl v=>exact ih v
   | inr v=>rfl
def Ms (x:Nat) (r:Nat→Nat) (g:Nat) (v:Nat):Bool:=x.testBit v && r v == v && v != g
def tX (x:Nat) (r:Nat→Nat) (g i:Nat):List Nat:=(List.range i).filter (Ms x r g)
theorem Iz (x:Nat) (r:Nat→Nat) (g i:Nat):tX x r g (i+1)=if Ms x r g i then tX x r g i++[i] else tX x r g i:=by
 unfold tX;rw[List.range_succ,List.filter_append,List.filter_cons]
 split<;>simp
theorem M4 {x:Nat} {r:Nat→Nat} {g i v:Nat} (h:v ∈ tX x r g i):v<i:=by
 unfold tX at h;rw[List.mem_filter,List.mem_range] at h;exact h.1
def Rj (x:Nat) (r:Nat→Nat) (g i:Nat) (T:List (Int × Int)):Prop :=
 T.length=(tX x r g i).length∧∀v:Nat,bY T (v:Int)=if v ∈ tX x r g i then some (((tX x r g i).idxOf v:Nat):Int) else none
theorem Gb {n x:Nat} (hx:x<2 ^ 64) (hn:64<n) {p:List Int} {r:Nat→Nat} (hp:Fst p r) (g:Nat):∃T,bE (qq n x p.length p (g:Int)) n (([]:List (Int × Int)),0)=some T∧Rj x r g 64 T:=by
 refine ju (body:=qq n x p.length p (g:Int)) 64 (fun(s:List (Int × Int)) (v:Int)=>(s,v)) id (fun i s=>Rj x r g i s) (fun T i hi hI=>?_) (fun T _=>?_) (n:=n) ⟨rfl,fun v=>by simp[tX,bY,bW]⟩ hn
 ·have key:qq n x p.length p (g:Int) (T,(i:Int))=some (.inl (if Ms x r g i then cH T (i:Int) ((T.length:Nat):Int) else T,((i+1:Nat):Int))):=by
   unfold qq
   dsimp only
   rw[aL (by omega),cy (by omega),Int.toNat_natCast,wF hx (by omega),HY,hp.root n i n hi (by omega),aD (by omega)]
   unfold Ms;cases x.testBit i
   ·rfl
   ·rw[bm,ah,ah]
    by_cases h1:r i=i
    ·rw[aL (by omega),ah]
     by_cases h2:i=g
     ·rw[decide_eq_true (by omega)]; simp[h1,h2,ob,br]
     ·rw[decide_eq_false (by omega)]; simp[h1,h2,ob,br]
    ·rw[aJ (by omega),ah]; simp[h1,ob,br]
  refine⟨_,key,?_⟩;obtain⟨hl,hg⟩:=hI;have hni:i ∉ tX x r g i:=fun h=>Nat.lt_irrefl _ (M4 h);unfold Rj;rw[Iz]
  by_cases hP:Ms x r g i=true
  ·rw[if_pos hP,if_pos hP];have hnone:bY T (i:Int)=none:=by rw[hg,if_neg hni]
   refine⟨by rw[Fu _ _ _ hnone,hl,List.length_append]; rfl,fun v=>?_⟩
   rw[lU,hg,hl]
   by_cases hv:v=i
   ·subst hv;rw[if_pos rfl,if_pos (by simp),List.idxOf_append,if_neg hni]; simp
   ·rw[if_neg (by omega)]
    by_cases hm:v ∈ tX x r g i
    ·rw[if_pos hm,if_pos (by simp[hm]),List.idxOf_append,if_pos hm]
    ·rw[if_neg hm,if_neg (by simp[hm,hv])]
  ·rw[if_neg hP,if_neg hP];exact⟨hl,hg⟩
 ·unfold qq
  dsimp only
  rw[aJ (by decide)]; rfl
theorem Hl {n s:Nat} (hs:s≤64) (hn:64<n) (T:List (Int × Int)) (hT:T.length=s):∃L,bE (tL n s T) n ((List.replicate s ([]:List (Bool × List Nat))),0)=some L∧uK s L fun _ _=>0:=by
 have:=ju (body:=tL n s T) s (fun(l:List (List (Bool × List Nat))) (v:Int)=>(l,v)) id (fun i l=>l.length=s∧∀v,v<i→l[v]? = some (List.replicate s (false,[]))) (fun l i hi hI=>?_) (fun l _=>?_) (n:=n) (s:=List.replicate s []) ⟨by simp,fun v hv=>absurd hv (Nat.not_lt_zero _)⟩ (by omega)
 ·obtain⟨L,h1,h2,h3⟩:=this;refine⟨L,h1,h2,fun r hr=>⟨_,h3 r hr,by simp,fun c hc=>⟨false,[],by rw[List.getElem?_replicate,if_pos hc],Lg.zero⟩⟩⟩
 ·refine⟨l.set i (List.replicate s (false,[])),?_,by rw[List.length_set]; exact hI.1,fun v hv=>?_⟩
  ·unfold tL
   dsimp only
   have e3:l[i]? = some (l[i]'(by rw[hI.1]; exact hi)):=List.getElem?_eq_getElem _
   rw[aL (by omega),ah,hT,cy (by omega),Int.toNat_natCast,cq (by omega),az,al hi,az,Int.toNat_natCast,e3,ah,cy (by omega),aD (by omega)]
  ·by_cases hvi:v=i
   ·subst hvi; rw[List.getElem?_set_self (by rw[hI.1]; exact hi)]
   ·rw[List.getElem?_set_ne (fun e=>hvi e.symm)]; exact hI.2 v (by omega)
 ·unfold tL
  dsimp only
  rw[aJ (by omega)]; rfl
def Bc (n y4:Nat) (l1:List (Int × Int)) (v w c:Int) (l2:List (List (Bool × List Nat))):Option (List (List (Bool × List Nat))) :=
ob (some ((bY l1 v).getD (0:Int),(bY l1 v).isSome)) fun(y2,y5) =>
ob (some ((bY l1 w).getD (0:Int),(bY l1 w).isSome)) fun(y3,y6) =>
ob (
br (y5) (
some y6) (
some false)) fun v0 =>
br (v0) (
gd (bz y2 ((y4:Int).toNat)) (
ob (l2[y2.toNat]?) fun l3 =>
gd (decide (0<l3.length)) (
gd (bz y2 ((y4:Int).toNat)) (
ob (l2[y2.toNat]?) fun l4 =>
gd (decide (0<l4.length)) (
gd (bz y3 l4.length) (
ob (l4[y3.toNat]?) fun(x3,l5) =>
ob (wX n c) fun(r0,l6) =>
ob (pB n x3 l5 r0 l6) fun(r1,l7) =>
gd (bz y3 l3.length) (
gd (Nat.blt y3.toNat l3.length) (
some (l2.set y2.toNat (l3.set y3.toNat (r1,l7))))))))))) (
some l2)
theorem AD (n:Nat) (es:List (Int × Int)) (x:Nat) (p:List Int) (O:List (Int × Bool)) (T:List (Int × Int)) (s:Nat) (i:Int) (L:List (List (Bool × List Nat))) :
  uO n es x p.length p O T s (i,L)=br (decide (i<(es.length:Int))) (gd (bz i es.length) (ob (es[i.toNat]?) fun e=>ob (ob (I6 n x e.1 e.2) fun q=>br q
   (ob (ob (ob (bE (Dg n p.length p) n e.1) fun v=>some v) fun va=>ob (ob (bE (C1 n p.length p) n e.2) fun v=>some v) fun vb =>
    ob (ob (some ((bY O i).getD false)) fun y=>br y (some true) (some (decide (va=vb)))) fun t=>br t (some L)
     (ob (Bc n s T va va 1 L) fun L1=>ob (Bc n s T vb vb 1 L1) fun L2=>ob (Bc n s T va vb (-1) L2) fun L3=>ob (Bc n s T vb va (-1) L3) fun L4=>some L4)) fun L5=>some L5)
   (some L)) fun L6=>some (.inl (IntKind.wrap .i64 (i+1),L6)))) (some (.inr L)):=rfl
theorem rp {n s:Nat} (hn:100<n) {P:List Nat} (hP:P.length=s) {T:List (Int × Int)} (hT:∀v:Nat,bY T (v:Int)=if v ∈ P then some ((P.idxOf v:Nat):Int) else none)
  {L:List (List (Bool × List Nat))} {M:Mt} {B:Nat} (hL:uK s L M) (hM:∀r c,r<s→c<s→(M r c).natAbs≤B) (hB:B<1000) {c:Int} {t:Bool} {k:List Nat} (hc:wX n c=some (t,k)) (hg:Lg c t k) (hc1:c.natAbs≤1) (v w:Nat) :
  ∃L',Bc n s T (v:Int) (w:Int) c L=some L'∧uK s L' (fun a b=>M a b+if a=P.idxOf v∧b=P.idxOf w then c else 0)∧∀r c',r<s→c'<s→(M r c'+if r=P.idxOf v∧c'=P.idxOf w then c else 0).natAbs≤B+1:=by
 have hbd:∀r c',r<s→c'<s→(M r c'+if r=P.idxOf v∧c'=P.idxOf w then c else 0).natAbs≤B+1:=fun r c' h1 h2=>by
  have:=hM r c' h1 h2
  split<;>omega
 by_cases h:v ∈ P∧w ∈ P
 ·have hv:P.idxOf v<s:=by rw[←hP]; exact List.idxOf_lt_length_iff.2 h.1
  have hw:P.idxOf w<s:=by rw[←hP]; exact List.idxOf_lt_length_iff.2 h.2
  obtain⟨row,t1,k1,a1,a2,a3,a4⟩:=hL.at hv hw;have l1:k1.length≤1:=a4.len (by have:=hM _ _ hv hw; show _<18446744073709551616; omega)
  have l2:k.length≤1:=hg.len (by show _<18446744073709551616; omega)
  obtain⟨u,q,u1,u2⟩:=qR (n:=n) a4 hg (by omega) (by omega) (by omega)
  refine⟨L.set (P.idxOf v) (row.set (P.idxOf w) (u,q)),?_,(hL.set hv hw a1 u2).congr fun a b _ _=>?_,hbd⟩
  ·unfold Bc;rw[hT v,hT w,if_pos h.1,if_pos h.2];simp only[Option.getD_some,Option.isSome_some,ah,bm,Int.toNat_natCast];rw[al hv,az,a1,ah,cy (by omega),az,ah,cy (by omega),a2,al hw,az,a3,ah]
   dsimp only
   rw[hc,ah]
   dsimp only
   rw[u1,ah]
   dsimp only
   rw[az,It hw,az]
  ·by_cases h1:a=P.idxOf v∧b=P.idxOf w
   ·rw[if_pos h1,if_pos h1,h1.1,h1.2]
   ·rw[if_neg h1,if_neg h1,Int.add_zero]
 ·refine⟨L,?_,hL.congr fun a b ha hb=>?_,hbd⟩
  ·unfold Bc;rw[hT v,hT w]
   by_cases hv:v ∈ P
   ·have hw:w ∉ P:=fun e=>h ⟨hv,e⟩;rw[if_pos hv,if_neg hw]; rfl
   ·rw[if_neg hv]
    by_cases hw:w ∈ P
    ·rw[if_pos hw]; rfl
    ·rw[if_neg hw]; rfl
  ·have h1:¬(a=P.idxOf v∧b=P.idxOf w):=fun e=>h ⟨List.idxOf_lt_length_iff.1 (by rw[←e.1,hP]; exact ha),List.idxOf_lt_length_iff.1 (by rw[←e.2,hP]; exact hb)⟩
   rw[if_neg h1,Int.add_zero]
def ki (es:List (Int × Int)) (x:Nat) (O:List (Int × Bool)) (i:Nat):Bool:=eW es x (i:Int) && !(bY O (i:Int)).getD false
def kl (es:List (Int × Int)) (x:Nat) (O:List (Int × Bool)) (i:Nat):List (Nat × Nat):=((List.range i).filter (ki es x O)).map fun(k:Nat)=>eg es (k:Int)
theorem JD (es:List (Int × Int)) (x:Nat) (O:List (Int × Bool)) (i:Nat):kl es x O (i+1)=if ki es x O i then kl es x O i++[eg es (i:Int)] else kl es x O i:=by
 unfold kl;rw[List.range_succ,List.filter_append,List.filter_cons]
 split<;>simp
theorem Gx (es:List (Int × Int)) (x:Nat) (O:List (Int × Bool)) (i:Nat):(kl es x O i).length≤i:=by
 unfold kl;rw[List.length_map];have:=List.length_filter_le (ki es x O) (List.range i);rwa[List.length_range] at this
theorem xw (φ:Nat→Nat) (e:Nat × Nat) (a b:Nat):∀E,ji φ (E++[e]) a b=ji φ E a b+dl φ e a*dl φ e b
 | []=>by simp[ji]
 | d::E=>by
  rw[List.cons_append];simp only[ji];rw[xw φ e a b E];omega
theorem Md (φ:Nat→Nat) (e:Nat × Nat) (a:Nat):dl φ e a=0∨dl φ e a=1∨dl φ e a = -1:=by
 unfold dl
 split<;>split<;>simp
theorem BK (φ:Nat→Nat) (a b:Nat):∀E,(ji φ E a b).natAbs≤E.length
 | []=>by simp[ji]
 | d::E=>by
  have:=BK φ a b E;simp only[ji,List.length_cons];rcases Md φ d a with h|h|h<;>rcases Md φ d b with h' | h' | h'<;>rw[h,h']<;>omega
theorem Ju (m:Int) {p q u w:Prop} [Decidable p] [Decidable q] [Decidable u] [Decidable w] :
  m+(if p∧u then 1 else 0)+(if q∧w then 1 else 0)+(if p∧w then -1 else 0)+(if q∧u then -1 else 0)=m+((if p then 1 else 0)-(if q then 1 else 0))*((if u then 1 else 0)-(if w then 1 else 0)):=by
 by_cases hp:p<;>by_cases hq:q<;>by_cases hu:u<;>by_cases hw:w<;>simp[hp,hq,hu,hw]<;>try omega
theorem Iq {N:Nat} {es:List (Int × Int)} (h:Okay N es) {n x:Nat} (hx:x<2 ^ 64) (hn:200<n) {p:List Int} {r:Nat→Nat} (hp:Fst p r) (O:List (Int × Bool))
  {P:List Nat} {s:Nat} (hP:P.length=s) {T:List (Int × Int)} (hT:∀v:Nat,bY T (v:Int)=if v ∈ P then some ((P.idxOf v:Nat):Int) else none)
  {L:List (List (Bool × List Nat))} (hL:uK s L fun _ _=>0) :
  ∃L',bE (uO n es x p.length p O T s) n (0,L)=some L'∧uK s L' (ji (fun v=>P.idxOf (r v)) (kl es x O es.length)):=by
 have hlen:=h.len;refine ju (body:=uO n es x p.length p O T s) es.length (fun(l:List (List (Bool × List Nat))) (v:Int)=>(v,l)) id (fun i l=>uK s l (ji (fun v=>P.idxOf (r v)) (kl es x O i))) (fun l i hi hI=>?_) (fun l _=>?_) (n:=n) hL (by omega)
 ·obtain⟨a,b,g1,g2,g3,g4,_,g5⟩:=gm h (k:=(i:Int)) ⟨by omega,by omega⟩
  rw[Int.toNat_natCast] at g1;have ha:a<64:=by omega
  have hin:eW es x (i:Int)=(x.testBit a && x.testBit b):=by
   simp only[eW,g2];rw[decide_eq_true ⟨by omega,by omega⟩,Bool.true_and]
  rw[AD,aL (by omega),al hi,az,Int.toNat_natCast,g1,ah]
  dsimp only
  rw[jY n x a b hx ha g4,ah,aD (by omega)]
  rw[JD];unfold ki;rw[hin,g2]
  by_cases h3:(x.testBit a && x.testBit b)=true
  ·rw[h3,bm,G7,H3,hp.root n a n ha (by omega),hp.root n b n g4 (by omega)]
   simp only[ah,Bool.true_and]
   by_cases h4:(bY O (i:Int)).getD false=true
   ·rw[h4,bm,ah,bm,ah,ah];exact⟨l,rfl,hI⟩
   ·rw[Bool.not_eq_true] at h4;rw[h4,bu,ah,Bool.not_false,if_pos rfl]
    by_cases h5:r a=r b
    ·rw[aL (by omega),ah,ah]
     refine⟨l,rfl,hI.congr fun c d _ _=>?_⟩;rw[xw];simp[dl,h5]
    ·rw[aJ (by omega)]
     have hM:∀c d,c<s→d<s→(ji (fun v=>P.idxOf (r v)) (kl es x O i) c d).natAbs≤200:=fun c d _ _=>by
      have h1:=BK (fun v=>P.idxOf (r v)) c d (kl es x O i);have h2:=Gx es x O i;omega
     obtain⟨L1,m1,n1,b1⟩:=rp (n:=n) (by omega) hP hT hI hM (by omega) (xU (by omega)) Cc (by decide) (r a) (r a)
     obtain⟨L2,m2,n2,b2⟩:=rp (n:=n) (by omega) hP hT n1 b1 (by omega) (xU (by omega)) Cc (by decide) (r b) (r b)
     obtain⟨L3,m3,n3,b3⟩:=rp (n:=n) (by omega) hP hT n2 b2 (by omega) (Cp (by omega)) Ge (by decide) (r a) (r b)
     obtain⟨L4,m4,n4,b4⟩:=rp (n:=n) (by omega) hP hT n3 b3 (by omega) (Cp (by omega)) Ge (by decide) (r b) (r a)
     refine⟨L4,by rw[m1,ah,m2,ah,m3,ah,m4,ah,ah,ah],n4.congr fun c d _ _=>?_⟩
     rw[xw];exact Ju _
  ·rw[Bool.not_eq_true] at h3;rw[h3,bu,ah];exact⟨l,rfl,hI⟩
 ·rw[AD,aJ (by omega)]; rfl
theorem uJ {f:Nat→Int} {C:Nat}:∀n,(∀i,i<n→(f i).natAbs≤C)→(sm n f).natAbs≤n*C
 | 0,_=>by simp[sm]
 | n+1,h=>by
  have h1:=uJ n fun i hi=>h i (by omega)
  have h2:=h n (by omega)
  simp only[sm];rw[Nat.add_mul,Nat.one_mul];omega
theorem EW (i:Nat) (x:Int):(sg i*x).natAbs=x.natAbs:=by
 unfold sg
 split<;>simp
theorem FE {C N:Nat}:∀(n:Nat) (A:Mt),n≤N→(∀r c,r<n→c<n→(A r c).natAbs≤C)→(cu n A).natAbs≤(N*C) ^ n
 | 0,_,_,_=>by simp[cu]
 | n+1,A,hn,h=>by
  simp only[cu];have:=uJ (C:=C*(N*C) ^ n) (n+1) (f:=fun i=>sg i*(A i 0*cu n (pM A i))) fun i hi=>by
   rw[EW,Int.natAbs_mul];exact Nat.mul_le_mul (h i 0 hi (by omega)) (FE n (pM A i) (by omega) fun r c hr hc=>h _ _ (AZ hr) (by omega))
  refine Nat.le_trans ?_ (Nat.le_trans this ?_)
  ·refine Nat.le_of_eq (congrArg Int.natAbs (gW fun i _=>?_));simp only[Int.mul_assoc]
  ·rw[Nat.pow_succ,Nat.mul_comm ((N*C) ^ n),←Nat.mul_assoc];exact Nat.mul_le_mul_right _ (Nat.mul_le_mul_right _ hn)
theorem D6 (φ:Nat→Nat) (E:List (Nat × Nat)) (hE:E.length≤200) {k r c:Nat} (hk:k<64):(cu (k+1) (kD (ji φ E) k r c)).natAbs<wp 15:=by
 have h1:=FE (C:=200) (N:=64) (k+1) (kD (ji φ E) k r c) (by omega) fun a b _ _=>Nat.le_trans (BK φ _ _ E) hE
 have h2:(64*200) ^ (k+1)≤(64*200) ^ 64:=Nat.pow_le_pow_right (by decide) (by omega)
 have h3:(64*200) ^ 64<wp 15:=by decide
 omega
theorem CJ (x:Nat) (r:Nat→Nat) (g:Nat):(tX x r g 64).length≤64:=by
 unfold tX;have:=List.length_filter_le (Ms x r g) (List.range 64);rwa[List.length_range] at this
def rW (es:List (Int × Int)) (x:Nat) (W:List (Int × Bool)):Nat→Nat:=(wl es x W 0 es.length).foldl bN fun x=>x
def pW (es:List (Int × Int)) (x:Nat) (W:List (Int × Bool)):List Nat:=tX x (rW es x W) (rW es x W (tz x)) 64
def mW (es:List (Int × Int)) (x:Nat) (W O:List (Int × Bool)):Mt:=ji (fun v=>(pW es x W).idxOf (rW es x W v)) (kl es x O es.length)
theorem ME {N:Nat} {es:List (Int × Int)} (h:Okay N es) {n x:Nat} (hx:x<2 ^ 64) (h0:0<x) (hn:300<n) (x1:Int) (W O:List (Int × Bool)) :
  (aY (fun x=>x) (wl es x W 0 es.length)=false→Bn n x1 es x W O=some (false,[])) ∧
  (aY (fun x=>x) (wl es x W 0 es.length)=true→(∀k,k<(pW es x W).length→(cu k (mW es x W O)).natAbs<18446744073709551616) →
   ∃t q,Bn n x1 es x W O=some (t,q)∧Lg (Me (pW es x W).length 0 (mW es x W O) 1) t q):=by
 have hlen:=h.len;obtain⟨p0,f1,f2⟩:=Cw n (by omega)
 have f3:=G4 h hx (show 64<n by omega) W es.length 0 n p0 (fun x=>x) [] (by omega) (by omega) f2 Rt.id
 have hF:QN n x=some ((tz x:Nat):Int):=by unfold QN; rw[cy hx]
 have htz:tz x<64:=oX hx (nd h0 hx).1;refine⟨fun ha=>?_,fun ha hP=>?_⟩
 ·obtain⟨p',k,g1⟩:=f3.2 ha;unfold Bn;rw[f1,ah,ah];rw[show(0:Int)=((0:Nat):Int) from rfl,g1]
  rfl
 ·obtain⟨p,E',g1,hp,hr⟩:=f3.1 ha
  change Fst p (rW es x W) at hp
  clear hr;obtain⟨T,t1,t2,t3⟩:=Gb (n:=n) hx (by omega) hp (rW es x W (tz x))
  obtain⟨L,l1,l2⟩:=Hl (n:=n) (CJ x (rW es x W) (rW es x W (tz x))) (by omega) T t2
  obtain⟨L',m1,m2⟩:=Iq h hx (by omega:200<n) hp O rfl t3 l2
  have hs:=CJ x (rW es x W) (rW es x W (tz x));have hD:∀k r c,k<(pW es x W).length→r<(pW es x W).length→c<(pW es x W).length→(cu (k+1) (kD (mW es x W O) k r c)).natAbs<wp 15:=fun k r c hk _ _=>D6 _ _ (Nat.le_trans (Gx _ _ _ _) hlen) (Nat.lt_of_lt_of_le hk hs);obtain⟨t,q,h1,h2⟩:=EJ (n:=n) (by omega) hs hD hP (pW es x W).length 0 n L' (mW es x W O) 1 false [1] (Nat.add_zero _) (Nat.lt_of_le_of_lt hs (by omega)) m2 (Bar.start _ _) Cc
  refine⟨t,q,?_,h2⟩;unfold Bn;rw[f1,ah,ah];rw[show(0:Int)=((0:Nat):Int) from rfl,g1]
  dsimp only[ah]
  rw[hF,ah,Gy,hp.root n (tz x) n htz (by omega)]
  dsimp only[ah,Option.map_some]
  have t1':bE (qq n x p.length p ((rW es x W (tz x):Nat):Int)) n (([]:List (Int × Int)),((0:Nat):Int))=some T:=t1;rw[t1',ah,t2,cy (by omega),Int.toNat_natCast,cq (by omega),az]
  have l1':bE (tL n (tX x (rW es x W) (rW es x W (tz x)) 64).length T) n (List.replicate (tX x (rW es x W) (rW es x W (tz x)) 64).length ([]:List (Bool × List Nat)),((0:Nat):Int))=some L:=l1;rw[l1',ah];have m1':bE (uO n es x p.length p O T (tX x (rW es x W) (rW es x W (tz x)) 64).length) n (((0:Nat):Int),L)=some L':=m1;rw[m1',ah,ah,xU (by omega),ah]
  have h1':bE (jf n (tX x (rW es x W) (rW es x W (tz x)) 64).length) n (L',false,[1],((0:Nat):Int))=some (.inl (t,q))∨bE (jf n (tX x (rW es x W) (rW es x W (tz x)) 64).length) n (L',false,[1],((0:Nat):Int))=some (.inr (t,q)):=h1;rcases h1' with h1|h1<;>rw[h1]<;>rfl
end Go.Proofs.YtookeaakpiefjaaGreatDoor
end
