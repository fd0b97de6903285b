/- A part of the proof. -/
import Derived.Test.YtookeaakpiefjaaGreatDoorTf7
section
namespace Go.Proofs.YtookeaakpiefjaaGreatDoor
open Go Go.Ab Go.Ab.W
section
variable {α β σ ρ : Type}
end
theorem zn {σ ρ τ:Type} {body:τ→Option (τ ⊕ ρ)} (mk:Nat→σ→τ) (fin:σ→ρ) (I:Nat→σ→Prop)
  (hs:∀r s,0<r→r<2 ^ 64→I r s→∃s',body (mk r s)=some (.inl (mk (xC r) s'))∧I (xC r) s') (he:∀s,I 0 s→body (mk 0 s)=some (.inr (fin s))) :
  ∀(n:Nat) (r:Nat) (s:σ),r<2 ^ 64→I r s→(bitsOf r).length<n→∃s',bV body n (mk r s)=some (fin s')∧I 0 s':=by
 intro n
 induction n with
 | zero=>intro r s _ _ h; exact absurd h (Nat.not_lt_zero _)
 | succ n ih =>
  intro r s hr hI hn;rcases Nat.eq_zero_or_pos r with h0|h0
  ·subst h0;exact⟨s,by simp only[bV,he s hI],hI⟩
  ·obtain⟨s',h1,h2⟩:=hs r s h0 hr hI;simp only[bV,h1];exact ih _ _ (Fz h0 hr) h2 (by rw[k6 h0 hr] at hn; simpa using hn)
theorem IY {M:Nat} {es:List (Int × Int)} {x:Nat} (h:Okay M es) (hk:qU (M:Int) es=true) (hx:x<2 ^ M):Oo (M:Int) es x=0:=by
 unfold Oo;rw[if_pos hk,Int.toNat_natCast,if_neg (by omega)]
theorem M1 (n0:Nat) (l:List (Int × Int)) (a b:Int) (hl:l.length<4611686018427387904):∀k i n,i+k=l.length→k<n→(∃j,i≤j∧l[j]? = some (a,b))→∃j:Nat,bV (lG n0 l a b) n ((i:Nat):Int)=some (.inl (j:Int)):=by
 intro k
 induction k with
 | zero =>
  rintro i n hi hk ⟨j,hj,h⟩;have:=(List.getElem?_eq_some_iff.1 h).1;omega
 | succ k ih =>
  rintro i n hi hk ⟨j,hj,h⟩;obtain⟨n,rfl⟩:∃n',n=n'+1:=⟨n-1,by omega⟩
  have a1:i<l.length:=by omega
  have e1:l[((i:Nat):Int).toNat]? = some l[i]:=by simp[a1]
  have hbody:lG n0 l a b (i:Int)=br (decide (a=l[i].1) && decide (b=l[i].2)) (some (.inr (.inl (i:Int)))) (some (.inl ((i+1:Nat):Int))):=by
   simp only[lG,e1,aD a1,aS,ah,bt (show i<4611686018427387904 by omega)]
   rw[aV (by omega)]
  by_cases hc:(decide (a=l[i].1) && decide (b=l[i].2))=true
  ·rw[hc,dI] at hbody;exact⟨i,bH hbody⟩
  ·rw[Bool.not_eq_true] at hc;rw[hc,dt] at hbody;rw[bm hbody];refine ih (i+1) n (by omega) (by omega) ⟨j,?_,h⟩
   rcases Nat.lt_or_ge i j with h1|h1
   ·exact h1
   ·have:i=j:=by omega
    subst this;rw[List.getElem?_eq_getElem a1] at h;have:=Option.some.inj h;rw[this] at hc;simp at hc
theorem Kn (n:Nat) (l:List (Int × Int)) (a b:Int) (hl:l.length<4611686018427387904) (hn:l.length<n) (h:(a,b) ∈ l):LO n l a b=some true:=by
 obtain⟨j,hj⟩:=List.mem_iff_getElem?.1 h;obtain⟨k,hk⟩:=M1 n l a b hl l.length 0 n (by omega) hn ⟨j,Nat.zero_le _,hj⟩
 unfold LO ON;rw[show bV (lG n l a b) n 0=_ from hk,ah,ah,decide_eq_true (by omega)]
def Cx (es:List (Int × Int)) (S i:Nat):Nat→Nat→Prop
 | 0,j=>j=i
 | k+1,j=>Cx es S i k j∨∃h,Cx es S i k h∧so es h j∧S.testBit j=true
section
variable {es : List (Int × Int)} {S i j : Nat}
theorem Hn (hi:S.testBit i=true):∀{k j:Nat},Cx es S i k j→S.testBit j=true
 | 0,j,h=>by rw[show j=i from h]; exact hi
 | k+1,j,h=>by
  rcases h with h|⟨_,_,_,h⟩
  ·exact Hn hi h
  ·exact h
theorem re {a:Nat} (h:Cx es S i a j):∀{b l:Nat},Cx es S j b l→Cx es S i (a+b) l
 | 0,l,h'=>by rw[show l=j from h']; exact h
 | b+1,l,h'=>by
  rcases h' with h' | ⟨x,h1,h2,h3⟩
  ·exact .inl (re h h')
  ·exact .inr ⟨x,re h h1,h2,h3⟩
theorem lO (hi:S.testBit i=true):∀{k j:Nat},Cx es S i k j→Cx es S j k i
 | 0,j,h=>(show j=i from h).symm
 | k+1,j,h=>by
  rcases h with h|⟨x,h1,h2,h3⟩
  ·exact .inl (lO hi h)
  ·have:=re (a:=1) (i:=j) (j:=x) (es:=es) (S:=S) (.inr ⟨j,rfl,sd h2,Hn hi h1⟩) (lO hi h1);rw[Nat.add_comm] at this;exact this
end
def Dv (es:List (Int × Int)) (S i j:Nat) (v:Int):Prop:=(v = -1∧∀k,¬Cx es S i k j)∨∃d:Nat,v=(d:Int)∧d≤64∧Cx es S i d j∧∀k,k<d→¬Cx es S i k j
section
variable {es : List (Int × Int)} {S i j N : Nat} {l : List Int}
theorem Dv.step {v u:Int} {k:Nat} (hv:Dv es S i j v) (hu:Dv es S i k u) (ha:so es j k) (hk:S.testBit k=true) (h0:0≤v):0≤u∧u≤v+1:=by
 rcases hv with⟨h,_⟩|⟨d,h,_,h3,_⟩
 ·omega
 ·have hw:Cx es S i (d+1) k:=.inr ⟨j,h3,ha,hk⟩;rcases hu with⟨_,h5⟩|⟨e,h5,_,h6,h7⟩
  ·exact absurd hw (h5 _)
  ·have:¬d+1<e:=fun h'=>h7 _ h' hw;omega
theorem Dv.zero {v:Int} (h:Dv es S i j v):v=0↔j=i:=by
 rcases h with⟨h,h2⟩|⟨d,h,h2,h3,h4⟩
 ·refine⟨fun h'=>by omega,fun e=>?_⟩
  exact absurd (show Cx es S i 0 j from e) (h2 0)
 ·constructor
  ·intro h';have:d=0:=by omega
   subst this;exact h3
  ·intro e;rcases Nat.eq_zero_or_pos d with h5|h5
   ·omega
   ·exact absurd (show Cx es S i 0 j from e) (h4 0 h5)
theorem Dv.symm {v u:Int} (hi:S.testBit i=true) (hj:S.testBit j=true) (h:Dv es S i j v) (h':Dv es S j i u):v=u:=by
 rcases h with⟨h1,h2⟩|⟨d,h1,_,h3,h4⟩<;>rcases h' with⟨g1,g2⟩|⟨e,g1,_,g3,g4⟩
 ·omega
 ·exact absurd (lO hj g3) (h2 e)
 ·exact absurd (lO hi h3) (g2 d)
 ·have a1:¬d<e:=fun h=>g4 d h (lO hi h3);have a2:¬e<d:=fun h=>h4 e h (lO hj g3);omega
end
inductive RP (A:Nat→Nat→Prop) (P:Nat→Prop) (i:Nat):Nat→Prop
 | refl:RP A P i i
 | step {j k:Nat} (h:RP A P i j) (ha:A j k) (hk:P k):RP A P i k
section
variable {A A' : Nat → Nat → Prop} {P P' : Nat → Prop} {i j k : Nat}
theorem RP.trans (h:RP A P i j) (h':RP A P j k):RP A P i k:=by
 induction h' with
 | refl=>exact h
 | step _ ha hk ih=>exact .step ih ha hk
theorem RP.one (ha:A i j) (hj:P j):RP A P i j:=.step .refl ha hj
theorem RP.mem (h:RP A P i j) (hi:P i):P j:=by
 cases h with
 | refl=>exact hi
 | step _ _ hk=>exact hk
theorem RP.symm (hs:∀x y,A x y→A y x) (h:RP A P i j) (hi:P i):RP A P j i:=by
 induction h with
 | refl=>exact .refl
 | step h' ha _ ih=>exact(RP.one (hs _ _ ha) (h'.mem hi)).trans ih
theorem RP.map (h:RP A P i j) (hi:P i) (hA:∀x y,P x→P y→A x y→A' x y) (hP:∀x,P x→P' x):RP A' P' i j:=by
 induction h with
 | refl=>exact .refl
 | step h' ha hk ih=>exact .step ih (hA _ _ (h'.mem hi) hk ha) (hP _ hk)
theorem RP.mono (h:RP A P i j) (hP:∀x,P x→P' x):RP A P' i j:=by
 induction h with
 | refl=>exact .refl
 | step h' ha hk ih=>exact .step ih ha (hP _ hk)
theorem RP.closed {Q:Nat→Prop} (h:RP A P i j) (hi:Q i) (hc:∀x y,Q x→A x y→P y→Q y):Q j:=by
 induction h with
 | refl=>exact hi
 | step h' ha hk ih=>exact hc _ _ ih ha hk
end
def lJ (A:Nat→Nat→Prop) (a b:Nat) (x y:Nat):Prop:=A x y∧¬(x=a∧y=b)∧¬(x=b∧y=a)
def fP (A:Nat→Nat→Prop) (a b:Nat):Prop:=¬RP (lJ A a b) (fun _=>True) a b
def Cut (A:Nat→Nat→Prop) (v:Nat):Prop:=∃a b,A v a∧A v b∧¬RP A (fun x=>x≠v) a b
theorem oO {A:Nat→Nat→Prop} (hs:∀x y,A x y→A y x) {a b:Nat}:∀x y,lJ A a b x y→lJ A a b y x:=fun x y h=>⟨hs _ _ h.1,fun e=>h.2.2 ⟨e.2,e.1⟩,fun e=>h.2.1 ⟨e.2,e.1⟩⟩
theorem ES {A:Nat→Nat→Prop} {a b:Nat} {x y:Nat}:lJ A a b x y↔lJ A b a x y:=⟨fun h=>⟨h.1,h.2.2,h.2.1⟩,fun h=>⟨h.1,h.2.2,h.2.1⟩⟩
theorem fP.comm {A:Nat→Nat→Prop} (hs:∀x y,A x y→A y x) {a b:Nat}:fP A a b↔fP A b a:=by
 have key:∀{a b:Nat},RP (lJ A a b) (fun _=>True) a b→RP (lJ A b a) (fun _=>True) b a:=fun h=>(h.symm (oO hs) trivial).map trivial (fun _ _ _ _ h=>ES.1 h) fun _ h=>h;exact⟨fun h h'=>h (key h'),fun h h'=>h (key h')⟩
structure Sg where
 m:Nat→Int
 lo:Nat→Int
 b:Nat→Nat→Prop
 cu:Nat→Prop
 c:Int
section
variable {A : Nat → Nat → Prop} {N S : Nat → Prop} {Act fr D : Nat → Prop} {n k : Nat} {s s0 s2 s3 : Sg} {kids : Int}
structure Inv (S:Nat→Prop) (s:Sg):Prop where
 pos:∀x,0≤s.m x∧s.m x≤s.c
 inS:∀x,0<s.m x→S x
 bs:∀x y,s.b x y→s.b y x
 bv:∀x y,s.b x y→0<s.m x
 cv:∀x,s.cu x→0<s.m x
theorem Inv.c0 (h:Inv S s):0≤s.c:=by have:=h.pos 0; omega
structure Pre (A:Nat→Nat→Prop) (S Act fr:Nat→Prop) (n:Nat) (s:Sg):Prop extends Inv S s where
 act:∀w,Act w→0<s.m w
 conn:∀w w',Act w→Act w'→RP A Act w w'
 fin:∀w x,0<s.m w→¬Act w→A w x→0<s.m x
 new:s.m n=0
 nS:S n
 frA:∀p,fr p→Act p∧A n p
 root:∀w,Act w→∃p,fr p
 fr1:∀p q,fr p→fr q→p=q
def gi (s s':Sg) (x:Nat):Prop:=0<s'.m x∧¬0<s.m x
structure Post (A:Nat→Nat→Prop) (S fr:Nat→Prop) (n:Nat) (s s':Sg):Prop extends Inv S s' where
 ext:∀x,0<s.m x→s'.m x=s.m x
 newc:∀x,gi s s' x→s.c<s'.m x
 nn:s'.m n=s.c+1
 con:∀u,gi s s' u→RP A (gi s s') n u
 fin:∀u x,gi s s' u→A u x→0<s'.m x
 low:∀t,t≤s.c→(s'.lo n≤t↔∃u w,gi s s' u∧A u w∧0<s.m w∧s.m w≤t∧¬(u=n∧fr w))
 loo:∀x,0<s.m x→s'.lo x=s.lo x
 bj:∀u w,gi s s' u→A u w→¬(u=n∧fr w)→(s'.b u w↔fP A u w)
 bo:∀x y,¬gi s s' x→¬gi s s' y→(s'.b x y↔s.b x y)
 bf:∀p,fr p→¬s'.b n p
 cj:∀u,gi s s' u→(s'.cu u↔Cut A u)
 co:∀x,¬gi s s' x→(s'.cu x↔s.cu x)
structure LI (A:Nat→Nat→Prop) (S Act fr:Nat→Prop) (n:Nat) (s0:Sg) (D:Nat→Prop) (s:Sg) (kids:Int):Prop extends Inv S s where
 ext:∀x,0<s0.m x→s.m x=s0.m x
 newc:∀x,gi s0 s x→s0.c<s.m x
 nn:s.m n=s0.c+1
 con:∀u,gi s0 s u→RP A (gi s0 s) n u
 fin:∀u x,gi s0 s u→u≠n→A u x→0<s.m x
 dv:∀w,D w→0<s.m w
 lon:s.lo n≤s0.c+1
 low:∀t,t≤s0.c→(s.lo n≤t↔∃u w,A u w∧0<s0.m w∧s0.m w≤t∧((gi s0 s u∧u≠n)∨(u=n∧D w∧¬fr w)))
 loo:∀x,0<s0.m x→s.lo x=s0.lo x
 bj:∀u w,A u w→((gi s0 s u∧u≠n)∨(u=n∧D w∧¬fr w))→(s.b u w↔fP A u w)
 bo:∀x y,¬gi s0 s x→¬gi s0 s y→(s.b x y↔s0.b x y)
 bn:∀w,¬gi s0 s w→¬(D w∧¬fr w)→¬s.b n w
 cj:∀u,gi s0 s u→u≠n→(s.cu u↔Cut A u)
 co:∀x,¬gi s0 s x→(s.cu x↔s0.cu x)
 cn:(∃p,fr p)→(s.cu n∧Cut A n)∨(¬s.cu n∧∀u,gi s0 s u→u≠n→∃w,Act w∧RP A (fun x=>x≠n) u w)
 cr:(¬∃p,fr p)→¬s.cu n∧((kids=0∧∀u,gi s0 s u→u=n)∨(kids=1∧(∃q,A n q∧gi s0 s q)∧∀u u',gi s0 s u→u≠n→gi s0 s u'→u'≠n→RP A (fun x=>x≠n) u u')∨(2≤kids∧Cut A n))
 kid:0≤kids∧kids≤s.c
theorem LI.OX (hp:Pre A S Act fr n s0) (h:LI A S Act fr n s0 D s kids):gi s0 s n:=⟨by rw[h.nn]; have:=hp.c0; omega,by rw[hp.new]; omega⟩
theorem LI.P8 (h:LI A S Act fr n s0 D s kids):s0.c+1≤s.c:=by have:=(h.pos n).2; rw[h.nn] at this; exact this
theorem LI.E8 (h:LI A S Act fr n s0 D s kids) {x:Nat} (hx:0<s0.m x):0<s.m x:=by rw[h.ext x hx]; exact hx
theorem LI.start (hp:Pre A S Act fr n s0) (hs:∀x y,A x y→A y x) (h1:∀x,s.m x=if x=n then s0.c+1 else s0.m x) (h2:∀x,s.lo x=if x=n then s0.c+1 else s0.lo x) (h3:s.b=s0.b) (h4:s.cu=s0.cu) (h5:s.c=s0.c+1):LI A S Act fr n s0 (fun _=>False) s 0:=by
 have hc:=hp.c0;have hne:∀x,0<s0.m x→x≠n:=fun x hx e=>by rw[e,hp.new] at hx; omega
 have hold:∀x,0<s0.m x→s.m x=s0.m x:=fun x hx=>by rw[h1,if_neg (hne x hx)]
 have hnew:∀x,gi s0 s x→x=n:=fun x hx=>by
  by_cases e:x=n
  ·exact e
  ·have:=hx.1; rw[h1,if_neg e] at this; exact absurd this hx.2
 have hmn:s.m n=s0.c+1:=by rw[h1,if_pos rfl]
 refine { pos:=fun x=>?_,inS:=fun x hx=>?_,bs:=by rw[h3]; exact hp.bs,bv:=fun x y hb=>?_,cv:=fun x hb=>?_,ext:=hold,newc:=fun x hx=>?_,nn:=hmn,con:=fun u hu=>?_,fin:=fun u x hu he=>absurd (hnew u hu) he,dv:=fun w h=>h.elim,lon:=?_,low:=fun t ht=>⟨fun h=>?_,fun⟨u,w,a,b,c,d⟩=>?_⟩,loo:=fun x hx=>by rw[h2,if_neg (hne x hx)],bj:=fun u w _ h=>?_,bo:=fun x y _ _=>by rw[h3],bn:=fun w _ _ hb=>?_,cj:=fun u hu he=>absurd (hnew u hu) he,co:=fun x _=>by rw[h4],cn:=fun _=>.inr ⟨fun hb=>?_,fun u hu he=>absurd (hnew u hu) he⟩,cr:=fun _=>⟨fun hb=>?_,.inl ⟨rfl,hnew⟩⟩,kid:=⟨Int.le_refl _,by omega⟩}
 ·rw[h1,h5]; have:=hp.pos x; split<;>omega
 ·by_cases e:x=n
  ·rw[e]; exact hp.nS
  ·rw[h1,if_neg e] at hx; exact hp.inS x hx
 ·rw[h3] at hb; have:=hp.bv x y hb; rw[hold x this]; exact this
 ·rw[h4] at hb; have:=hp.cv x hb; rw[hold x this]; exact this
 ·rw[hnew x hx,hmn]; omega
 ·rw[hnew u hu]; exact .refl
 ·rw[h2,if_pos rfl]; omega
 ·rw[h2,if_pos rfl] at h; omega
 ·rcases d with⟨d,e⟩|⟨_,d,_⟩
  ·exact absurd (hnew u d) e
  ·exact d.elim
 ·rcases h with⟨d,e⟩|⟨_,d,_⟩
  ·exact absurd (hnew u d) e
  ·exact d.elim
 ·rw[h3] at hb; have:=hp.bv n w hb; rw[hp.new] at this; omega
 ·rw[h4] at hb; have:=hp.cv n hb; rw[hp.new] at this; omega
 ·rw[h4] at hb; have:=hp.cv n hb; rw[hp.new] at this; omega
theorem LI.skip (hp:Pre A S Act fr n s0) (h:LI A S Act fr n s0 D s kids) (hk:fr k):LI A S Act fr n s0 (fun x=>D x∨x=k) s kids:=by
 have e:∀w,(D w∧¬fr w)↔((D w∨w=k)∧¬fr w):=fun w=>⟨fun a=>⟨.inl a.1,a.2⟩,fun a=>⟨a.1.elim id fun e=>absurd (by rw[e]; exact hk) a.2,a.2⟩⟩
 exact { h with
  dv:=fun w hw=>hw.elim (h.dv w) fun e=>by rw[e]; exact h.E8 (hp.act k (hp.frA k hk).1)
  low:=fun t ht=>(h.low t ht).trans ⟨fun⟨u,w,a,b,c,d⟩=>⟨u,w,a,b,c,d.imp id fun d=>⟨d.1,(e w).1 d.2⟩⟩,fun⟨u,w,a,b,c,d⟩=>⟨u,w,a,b,c,d.imp id fun d=>⟨d.1,(e w).2 d.2⟩⟩⟩
  bj:=fun u w ha hd=>h.bj u w ha (hd.imp id fun d=>⟨d.1,(e w).2 d.2⟩)
  bn:=fun w hw hd=>h.bn w hw fun a=>hd ((e w).1 a)}
theorem Pre.xr (hs:∀x y,A x y→A y x) (hp:Pre A S Act fr n s0) {w u:Nat} (hw:0<s0.m w) (ha:A u w) (hu:¬0<s0.m u):Act w:=by
 by_cases h:Act w
 ·exact h
 ·exact absurd (hp.fin w u hw h (hs _ _ ha)) hu
theorem uX (hi:∀x,¬A x x) {a b:Nat} (h:A a b):a≠b:=fun e=>hi a (e ▸ h)
theorem LI.met (hs:∀x y,A x y→A y x) (hi:∀x,¬A x x) (hp:Pre A S Act fr n s0) (h:LI A S Act fr n s0 D s kids) (ha:A n k) (hk:0<s.m k) (hf:¬fr k) (hD:¬D k)
  (g1:s3.m=s.m) (g2:∀x,s3.lo x=if x=n then(if s.m k<s.lo n then s.m k else s.lo n) else s.lo x) (g3:s3.b=s.b) (g4:s3.cu=s.cu) (g5:s3.c=s.c):LI A S Act fr n s0 (fun x=>D x∨x=k) s3 kids:=by
 have hN:gi s0 s3=gi s0 s:=by funext x; unfold gi; rw[g1]
 have hnk:n≠k:=uX hi ha;have hunn:¬0<s0.m n:=by rw[hp.new]; omega
 have judge:s.b n k↔fP A n k:=by
  by_cases hkn:0<s0.m k
  ·have hA:=hp.xr hs hkn ha hunn;obtain⟨p,hfp⟩:=hp.root k hA;obtain⟨hpA,hnp⟩:=hp.frA p hfp;have hpk:p≠k:=fun e=>hf (e ▸ hfp);have hb:¬s.b n k:=h.bn k (fun hx=>hx.2 hkn) fun a=>hD a.1;refine⟨fun x=>absurd x hb,fun hB=>absurd ?_ hB⟩;have r1:RP (lJ A n k) (fun _=>True) n p:=.one ⟨hnp,fun e=>hpk e.2,fun e=>hnk e.1⟩ trivial;have r2:RP (lJ A n k) (fun _=>True) p k:=(hp.conn p k hpA hA).map hpA (fun x y hx hy hxy=>⟨hxy,fun e=>hunn (by rw[←e.1]; exact hp.act x hx),fun e=>hunn (by rw[←e.2]; exact hp.act y hy)⟩) fun _ _=>trivial
   exact r1.trans r2
  ·have:=h.bj k n (hs _ _ ha) (.inl ⟨⟨hk,hkn⟩,hnk.symm⟩);rw[fP.comm hs,←this];exact⟨h.bs _ _,h.bs _ _⟩
 refine { pos:=by rw[g1,g5]; exact h.pos,inS:=by rw[g1]; exact h.inS,bs:=by rw[g3]; exact h.bs,bv:=by rw[g1,g3]; exact h.bv,cv:=by rw[g1,g4]; exact h.cv,ext:=by rw[g1]; exact h.ext,newc:=by rw[hN,g1]; exact h.newc,nn:=by rw[g1]; exact h.nn,con:=by rw[hN]; exact h.con,fin:=by rw[hN,g1]; exact h.fin,dv:=fun w hw=>?_,lon:=?_,low:=fun t ht=>?_,loo:=fun x hx=>?_,bj:=fun u w huw hd=>?_,bo:=by rw[hN,g3]; exact h.bo,bn:=fun w hw hd=>?_,cj:=by rw[hN,g4]; exact h.cj,co:=by rw[hN,g4]; exact h.co,cn:=by rw[hN,g4]; exact h.cn,cr:=by rw[hN,g4]; exact h.cr,kid:=by rw[g5]; exact h.kid}
 ·rw[g1]; exact hw.elim (h.dv w) fun e=>by rw[e]; exact hk
 ·rw[g2,if_pos rfl]; have:=h.lon; split<;>omega
 ·have e1:s3.lo n≤t↔s.m k≤t∨s.lo n≤t:=by rw[g2,if_pos rfl]; split<;>omega
  rw[e1,h.low t ht,hN];constructor
  ·rintro(hkt|⟨u,w,a,b,c,d⟩)
   ·have hkn:0<s0.m k:=by
     by_cases hx:0<s0.m k
     ·exact hx
     ·have:=h.newc k ⟨hk,hx⟩; omega
    exact⟨n,k,ha,hkn,by rw[←h.ext k hkn]; exact hkt,.inr ⟨rfl,.inr rfl,hf⟩⟩
   ·exact⟨u,w,a,b,c,d.imp id fun d=>⟨d.1,.inl d.2.1,d.2.2⟩⟩
  ·rintro⟨u,w,a,b,c,d|⟨d1,d2|d2,d3⟩⟩
   ·exact .inr ⟨u,w,a,b,c,.inl d⟩
   ·exact .inr ⟨u,w,a,b,c,.inr ⟨d1,d2,d3⟩⟩
   ·subst d2; exact .inl (by rw[h.ext w b]; exact c)
 ·have hxn:x≠n:=fun e=>hunn (e ▸ hx);rw[g2,if_neg hxn]; exact h.loo x hx
 ·rw[hN] at hd;rw[g3];rcases hd with d|⟨d1,d2|d2,d3⟩
  ·exact h.bj u w huw (.inl d)
  ·exact h.bj u w huw (.inr ⟨d1,d2,d3⟩)
  ·subst d1 d2; exact judge
 ·rw[hN] at hw;rw[g3];exact h.bn w hw fun a=>hd ⟨.inl a.1,a.2⟩
theorem LI.uE (hs:∀x y,A x y→A y x) (hi:∀x,¬A x x) (hp:Pre A S Act fr n s0) (h:LI A S Act fr n s0 D s kids) (ha:A n k) (hk:s.m k=0) (hkS:S k):Pre A S (fun x=>Act x∨x=n) (fun x=>x=n) k s:=by
 have hc:=hp.c0;have hnA:∀w,Act w→RP A (fun x=>Act x∨x=n) n w:=fun w hw=>by
  obtain⟨p,hfp⟩:=hp.root w hw;obtain⟨hpA,hnp⟩:=hp.frA p hfp;exact(RP.one hnp (.inl hpA)).trans ((hp.conn p w hpA hw).mono fun _=>.inl)
 refine { h.toInv with act:=fun w hw=>?_,conn:=fun w w' hw hw'=>?_,fin:=fun w x hw hna hwx=>?_,new:=hk,nS:=hkS,frA:=fun p e=>?_,root:=fun _ _=>⟨n,rfl⟩,fr1:=fun p q e f=>e.trans f.symm}
 ·rcases hw with hw|rfl
  ·exact h.E8 (hp.act w hw)
  ·rw[h.nn]; omega
 ·rcases hw with hw|rfl
  ·rcases hw' with hw' | rfl
   ·exact(hp.conn w w' hw hw').mono fun _=>.inl
   ·exact(hnA w hw).symm hs (.inr rfl)
  ·rcases hw' with hw' | rfl
   ·exact hnA w' hw'
   ·exact .refl
 ·by_cases h0:0<s0.m w
  ·exact h.E8 (hp.fin w x h0 (fun a=>hna (.inl a)) hwx)
  ·exact h.fin w x ⟨hw,h0⟩ (fun e=>hna (.inr e)) hwx
 ·subst e; exact⟨.inr rfl,hs _ _ ha⟩
theorem LI.child (hs:∀x y,A x y→A y x) (hi:∀x,¬A x x) (hp:Pre A S Act fr n s0) (h:LI A S Act fr n s0 D s kids) (ha:A n k) (hk:s.m k=0) (hkS:S k) (h0:Post A S (fun x=>x=n) k s s2)
  (g0:s3.m=s2.m) (g2:∀x,s3.lo x=if x=n then(if s2.lo k<s2.lo n then s2.lo k else s2.lo n) else s2.lo x) (g1:∀x y,s3.b x y↔s2.b x y∨(s2.m n<s2.lo k∧((x=n∧y=k)∨(x=k∧y=n)))) (g3:∀x,s3.cu x↔s2.cu x∨(x=n∧(∃p,fr p)∧s2.m n≤s2.lo k)) (g4:s3.c=s2.c):LI A S Act fr n s0 (fun x=>D x∨x=k) s3 (kids+1):=by
 have hc:=hp.c0;have h1:=h.uE hs hi hp ha hk hkS;have hnk:n≠k:=uX hi ha;have hun:¬0<s0.m n:=by rw[hp.new]; omega
 have hvn:0<s.m n:=by rw[h.nn]; omega
 have huk:¬0<s.m k:=by omega
 have h2:¬0<s0.m k:=fun hx=>huk (h.E8 hx);have v0:∀x,0<s.m x→0<s2.m x:=fun x hx=>by rw[h0.ext x hx]; exact hx
 have hNk:gi s s2 k:=⟨by rw[h0.nn]; have:=h.c0; omega,huk⟩
 have hNn:¬gi s s2 n:=fun hx=>hx.2 hvn;have m2n:s2.m n=s0.c+1:=by rw[h0.ext n hvn,h.nn]
 have hN:∀x,gi s0 s3 x↔gi s0 s x∨gi s s2 x:=fun x=>by
  unfold gi; rw[g0];constructor
  ·rintro⟨a,b⟩
   by_cases hx:0<s.m x
   ·exact .inl ⟨hx,b⟩
   ·exact .inr ⟨a,hx⟩
  ·rintro(⟨a,b⟩|⟨a,b⟩)
   ·exact⟨v0 x a,b⟩
   ·exact⟨a,fun hx=>b (h.E8 hx)⟩
 have hNk3:gi s0 s3 k:=(hN k).2 (.inr hNk);have hNn3:gi s0 s3 n:=(hN n).2 (.inl (h.OX hp));have side:∀{u w:Nat},gi s s2 u→A u w→0<s.m w→Act w∨w=n:=fun hu huw hw=>h1.xr (n:=k) hs hw huw hu.2;have side2:∀{u w:Nat},gi s s2 u→A u w→gi s s2 w∨(0<s.m w∧(Act w∨w=n)):=fun {u w} hu huw=>by
  by_cases hw:0<s.m w
  ·exact .inr ⟨hw,side hu huw hw⟩
  ·exact .inl ⟨h0.fin u w hu huw,hw⟩
 have actc:∀{w:Nat},Act w→s.m w≤s0.c:=fun {w} hw=>by rw[h.ext w (hp.act w hw)]; exact(hp.pos w).2
 have l2n:s2.lo n=s.lo n:=h0.loo n hvn;have notfr:¬fr k:=fun hf=>h2 (hp.act k (hp.frA k hf).1);have judge:s3.b n k↔fP A n k:=by
  have e0:s3.b n k↔s2.m n<s2.lo k:=by
   rw[g1];constructor
   ·rintro(hb|hb)
    ·exact absurd (h0.bs _ _ hb) (h0.bf n rfl)
    ·exact hb.1
   ·exact fun hb=>.inr ⟨hb,.inl ⟨rfl,rfl⟩⟩
  have e1:=h0.low (s0.c+1) h.P8;rw[e0,m2n];constructor
  ·intro hlt hr;have hcl:∀x y,gi s s2 x→lJ A n k y x∨lJ A n k x y→True→gi s s2 y:=by
    intro x y hx hxy _;have hxy':A x y∧¬(x=k∧y=n):=by
     rcases hxy with hxy|hxy
     ·exact⟨hs _ _ hxy.1,fun e=>hxy.2.1 ⟨e.2,e.1⟩⟩
     ·exact⟨hxy.1,hxy.2.2⟩
    rcases side2 hx hxy'.1 with hy|⟨hy,hy'⟩
    ·exact hy
    ·have hle:s.m y≤s0.c+1:=by
      rcases hy' with hy' | rfl
      ·have:=actc hy'; omega
      ·rw[h.nn]; omega
     have:=e1.2 ⟨x,y,hx,hxy'.1,hy,hle,hxy'.2⟩;omega
   have hr':RP (lJ A n k) (fun _=>True) k n:=hr.symm (oO hs) trivial;exact hNn (hr'.closed hNk fun x y hx hxy ht=>hcl x y hx (.inr hxy) ht)
  ·intro hB
   by_cases hle:s2.lo k≤s0.c+1
   ·exfalso;obtain⟨u,w,hu,huw,hw,hwt,hex⟩:=e1.1 hle;have hAw:=side hu huw hw;apply hB;have r0:RP (lJ A n k) (fun _=>True) k u:=(h0.con u hu).map hNk (fun x y hx hy hxy=>⟨hxy,fun e=>hNn (e.1 ▸ hx),fun e=>hNn (e.2 ▸ hy)⟩) fun _ _=>trivial;have r1:RP (lJ A n k) (fun _=>True) u w:=.one ⟨huw,fun e=>hNn (e.1 ▸ hu),fun e=>hex e⟩ trivial;have hnotk:∀x,(Act x∨x=n)→x≠k:=fun x hx e=>huk (by rw[←e]; exact h1.act x hx)
    have r2:RP (lJ A n k) (fun _=>True) w n:=(h1.conn w n hAw (.inr rfl)).map hAw (fun x y hx hy hxy=>⟨hxy,fun e=>hnotk y hy e.2,fun e=>hnotk x hx e.1⟩) fun _ _=>trivial;exact((r0.trans r1).trans r2).symm (oO hs) trivial
   ·omega
 have b0:∀{x y:Nat},¬(x=n∧y=k)→¬(x=k∧y=n)→(s3.b x y↔s2.b x y):=fun {x y} e0 e1=>by
  rw[g1]; exact⟨fun hx=>hx.elim id fun hx=>hx.2.elim (fun e=>absurd e e0) (fun e=>absurd e e1),.inl⟩
 have c1:∀{x:Nat},x≠n→(s3.cu x↔s2.cu x):=fun {x} e=>by
  rw[g3]; exact⟨fun hx=>hx.elim id fun hx=>absurd hx.1 e,.inl⟩
 have c3n:s3.cu n↔s.cu n∨((∃p,fr p)∧s2.m n≤s2.lo k):=by
  rw[g3,h0.co n hNn];exact⟨fun hx=>hx.imp id fun hx=>hx.2,fun hx=>hx.imp id fun hx=>⟨rfl,hx⟩⟩
 have hunNew:∀{u:Nat},gi s s2 u→u≠n:=fun hu e=>hNn (e ▸ hu);have join2:∀u u',gi s s2 u→gi s s2 u'→RP A (fun x=>x≠n) u u':=fun u u' hu hu' =>
  (((h0.con u hu).symm hs hNk).trans (h0.con u' hu')).mono fun x hx=>hunNew hx
 refine { pos:=by rw[g0,g4]; exact h0.pos,inS:=by rw[g0]; exact h0.inS,bs:=fun x y hb=>?_,bv:=fun x y hb=>?_,cv:=fun x hb=>?_,ext:=fun x hx=>?_,newc:=fun x hx=>?_,nn:=by rw[g0]; exact m2n,con:=fun u hu=>?_,fin:=fun u x hu hun' hux=>?_,dv:=fun w hw=>?_,lon:=?_,low:=fun t ht=>?_,loo:=fun x hx=>?_,bj:=fun u w huw hd=>?_,bo:=fun x y hx hy=>?_,bn:=fun w hw hd=>?_,cj:=fun u hu hun'=>?_,co:=fun x hx=>?_,cn:=fun hf=>?_,cr:=fun hf=>?_,kid:=?_}
 ·rw[g1] at hb ⊢;exact hb.imp (h0.bs _ _) fun hb=>⟨hb.1,hb.2.symm.imp (fun e=>⟨e.2,e.1⟩) fun e=>⟨e.2,e.1⟩⟩
 ·rw[g1] at hb; rw[g0];rcases hb with hb|⟨_,⟨rfl,_⟩|⟨rfl,_⟩⟩
  ·exact h0.bv _ _ hb
  ·exact v0 _ hvn
  ·exact hNk.1
 ·rw[g3] at hb; rw[g0];rcases hb with hb|⟨rfl,_⟩
  ·exact h0.cv _ hb
  ·exact v0 _ hvn
 ·rw[g0,h0.ext x (h.E8 hx)]; exact h.ext x hx
 ·rw[g0];rcases(hN x).1 hx with hx|hx
  ·rw[h0.ext x hx.1]; exact h.newc x hx
  ·have:=h0.newc x hx; have:=h.P8; omega
 ·rcases(hN u).1 hu with hu|hu
  ·exact(h.con u hu).mono fun x hx=>(hN x).2 (.inl hx)
  ·exact(RP.one ha hNk3).trans ((h0.con u hu).mono fun x hx=>(hN x).2 (.inr hx))
 ·rw[g0];rcases(hN u).1 hu with hu|hu
  ·exact v0 x (h.fin u x hu hun' hux)
  ·exact h0.fin u x hu hux
 ·rw[g0]; exact hw.elim (fun hw=>v0 w (h.dv w hw)) fun e=>by rw[e]; exact hNk.1
 ·rw[g2,if_pos rfl,l2n]; have:=h.lon; split<;>omega
 ·have e0:s3.lo n≤t↔s2.lo k≤t∨s.lo n≤t:=by rw[g2,if_pos rfl,l2n]; split<;>omega
  have hct:t≤s.c:=by have:=h.P8; omega
  rw[e0,h.low t ht,h0.low t hct];constructor
  ·rintro(⟨u,w,hu,huw,hw,hwt,hex⟩|⟨u,w,a,b,c,d⟩)
   ·have h3:0<s0.m w:=by
     by_cases hx:0<s0.m w
     ·exact hx
     ·have:=h.newc w ⟨hw,hx⟩; omega
    exact⟨u,w,huw,h3,by rw[←h.ext w h3]; exact hwt,.inl ⟨(hN u).2 (.inr hu),hunNew hu⟩⟩
   ·refine⟨u,w,a,b,c,d.imp (fun d=>⟨(hN u).2 (.inl d.1),d.2⟩) fun d=>⟨d.1,.inl d.2.1,d.2.2⟩⟩
  ·rintro⟨u,w,a,b,c,⟨d0,d1⟩|⟨d0,d1|d1,d2⟩⟩
   ·rcases(hN u).1 d0 with d0|d0
    ·exact .inr ⟨u,w,a,b,c,.inl ⟨d0,d1⟩⟩
    ·exact .inl ⟨u,w,d0,a,h.E8 b,by rw[h.ext w b]; exact c,fun e=>hun (e.2 ▸ b)⟩
   ·exact .inr ⟨u,w,a,b,c,.inr ⟨d0,d1,d2⟩⟩
   ·subst d1; exact absurd b h2
 ·have hxn:x≠n:=fun e=>hun (e ▸ hx);rw[g2,if_neg hxn,h0.loo x (h.E8 hx)]; exact h.loo x hx
 ·rcases hd with⟨d0,d1⟩|⟨d0,d1|d1,d2⟩
  ·rcases(hN u).1 d0 with d0|d0
   ·have huk':u≠k:=fun e=>huk (e ▸ d0.1);have hw:=h.fin u w d0 d1 huw;rw[b0 (fun e=>d1 e.1) (fun e=>huk' e.1),h0.bo u w (fun hx=>hx.2 d0.1) (fun hx=>hx.2 hw)];exact h.bj u w huw (.inl ⟨d0,d1⟩)
   ·by_cases e:u=k∧w=n
    ·obtain⟨rfl,rfl⟩:=e;rw[fP.comm hs,←judge];rw[g1,g1];exact⟨fun hb=>hb.imp (h0.bs _ _) fun hb=>⟨hb.1,.inl ⟨rfl,rfl⟩⟩,fun hb=>hb.imp (h0.bs _ _) fun hb=>⟨hb.1,.inr ⟨rfl,rfl⟩⟩⟩
    ·rw[b0 (fun e'=>d1 e'.1) e];exact h0.bj u w d0 huw e
  ·subst d0;have hwk:w≠k:=fun e=>huk (e ▸ h.dv w d1);rw[b0 (fun e=>hwk e.2) (fun e=>hnk e.1),h0.bo u w hNn (fun hx=>hx.2 (h.dv w d1))];exact h.bj u w huw (.inr ⟨rfl,d1,d2⟩)
  ·subst d0 d1; exact judge
 ·have hxn:x≠n:=fun e=>hx (e ▸ hNn3);have hxk:x≠k:=fun e=>hx (e ▸ hNk3);rw[b0 (fun e=>hxn e.1) (fun e=>hxk e.1),h0.bo x y (fun a=>hx ((hN x).2 (.inr a))) (fun a=>hy ((hN y).2 (.inr a)))];exact h.bo x y (fun a=>hx ((hN x).2 (.inl a))) (fun a=>hy ((hN y).2 (.inl a)))
 ·have hwk:w≠k:=fun e=>hw (e ▸ hNk3);rw[b0 (fun e=>hwk e.2) (fun e=>hnk e.1),h0.bo n w hNn (fun a=>hw ((hN w).2 (.inr a)))];exact h.bn w (fun a=>hw ((hN w).2 (.inl a))) fun a=>hd ⟨.inl a.1,a.2⟩
 ·rw[c1 hun'];rcases(hN u).1 hu with hu|hu
  ·rw[h0.co u (fun a=>a.2 hu.1)]; exact h.cj u hu hun'
  ·exact h0.cj u hu
 ·have hxn:x≠n:=fun e=>hx (e ▸ hNn3);rw[c1 hxn,h0.co x (fun a=>hx ((hN x).2 (.inr a)))];exact h.co x (fun a=>hx ((hN x).2 (.inl a)))
 ·rw[c3n];rcases h.cn hf with⟨a,b⟩|⟨a,b⟩
  ·exact .inl ⟨.inl a,b⟩
  ·by_cases hle:s2.m n≤s2.lo k
   ·refine .inl ⟨.inr ⟨hf,hle⟩,?_⟩;obtain⟨p,hfp⟩:=hf;obtain⟨hpA,hnp⟩:=hp.frA p hfp;have hpn:p≠n:=(uX hi hnp).symm;refine⟨k,p,ha,hnp,fun hr=>?_⟩;have:gi s s2 p:=hr.closed hNk fun x y hx hxy hyn=>by
     rcases side2 hx hxy with hy|⟨hy,hy' | hy'⟩
     ·exact hy
     ·have:=(h0.low s0.c (by have:=h.P8; omega)).2 ⟨x,y,hx,hxy,hy,actc hy',fun e=>hyn e.2⟩
      omega
     ·exact absurd hy' hyn
    exact this.2 (h.E8 (hp.act p hpA))
   ·refine .inr ⟨fun hx=>hx.elim a fun hx=>hle hx.2,fun u hu hun'=>?_⟩;rcases(hN u).1 hu with hu|hu
    ·exact b u hu hun'
    ·obtain⟨u',w,hu',huw,hw,hwt,_⟩:=(h0.low s0.c (by have:=h.P8; omega)).1 (by omega)
     have hwn:w≠n:=fun e=>by rw[e,h.nn] at hwt; omega
     have hAw:Act w:=(side hu' huw hw).resolve_right hwn;exact⟨w,hAw,(join2 u u' hu hu').trans (.one huw hwn)⟩
 ·obtain⟨a,b⟩:=h.cr hf;refine⟨fun hx=>(c3n.1 hx).elim a fun hx=>hf hx.1,?_⟩;have noact:∀w,¬Act w:=fun w hw=>hf (hp.root w hw);rcases b with⟨b2,b1⟩|⟨b2,⟨q,h4,h5⟩,b1⟩|⟨b2,b1⟩
  ·refine .inr (.inl ⟨by omega,⟨k,ha,hNk3⟩,fun u u' hu hun' hu' h6=>?_⟩)
   rcases(hN u).1 hu with hu|hu
   ·exact absurd (b1 u hu) hun'
   ·rcases(hN u').1 hu' with hu' | hu'
    ·exact absurd (b1 u' hu') h6
    ·exact join2 u u' hu hu'
  ·refine .inr (.inr ⟨by omega,k,q,ha,h4,fun hr=>?_⟩)
   have:gi s s2 q:=hr.closed hNk fun x y hx hxy hyn=>by
    rcases side2 hx hxy with hy|⟨hy,hy' | hy'⟩
    ·exact hy
    ·exact absurd hy' (noact y)
    ·exact absurd hy' hyn
   exact this.2 h5.1
  ·exact .inr (.inr ⟨by omega,b1⟩)
 ·rw[g4];have h7:=(h0.pos k).2;rw[h0.nn] at h7;have:=h.kid;omega
theorem LI.done (hs:∀x y,A x y→A y x) (hi:∀x,¬A x x) (hp:Pre A S Act fr n s0) (h:LI A S Act fr n s0 D s kids) (hD:∀w,A n w→D w)
  (g1:s3.m=s.m) (g2:s3.lo=s.lo) (g3:s3.b=s.b) (g4:∀x,s3.cu x↔s.cu x∨(x=n∧(¬∃p,fr p)∧1<kids)) (g5:s3.c=s.c):Post A S fr n s0 s3:=by
 have hN:gi s0 s3=gi s0 s:=by funext x; unfold gi; rw[g1]
 have hun:¬0<s0.m n:=by rw[hp.new]; omega
 have hNn:=h.OX hp;have hvn:0<s.m n:=hNn.1;have c3:∀{x:Nat},x≠n→(s3.cu x↔s.cu x):=fun {x} e=>by
  rw[g4]; exact⟨fun hx=>hx.elim id fun hx=>absurd hx.1 e,.inl⟩
 have near:∀w,A n w→Act w∨(gi s0 s w∧w≠n):=fun w hw=>by
  by_cases h0:0<s0.m w
  ·exact .inl (hp.xr hs h0 hw hun)
  ·exact .inr ⟨⟨h.dv w (hD w hw),h0⟩,(uX hi hw).symm⟩
 have actn:∀w,Act w→w≠n:=fun w hw e=>hun (e ▸ hp.act w hw);refine { pos:=by rw[g1,g5]; exact h.pos,inS:=by rw[g1]; exact h.inS,bs:=by rw[g3]; exact h.bs,bv:=by rw[g1,g3]; exact h.bv,cv:=fun x hx=>?_,ext:=by rw[g1]; exact h.ext,newc:=by rw[hN,g1]; exact h.newc,nn:=by rw[g1]; exact h.nn,con:=by rw[hN]; exact h.con,fin:=fun u x hu hux=>?_,low:=fun t ht=>?_,loo:=by rw[g2]; exact h.loo,bj:=fun u w hu huw hex=>?_,bo:=by rw[hN,g3]; exact h.bo,bf:=fun p hfp=>?_,cj:=fun u hu=>?_,co:=fun x hx=>?_}
 ·rw[g1];rcases(g4 x).1 hx with hx|⟨rfl,_⟩
  ·exact h.cv x hx
  ·exact hvn
 ·rw[hN] at hu;rw[g1]
  by_cases e:u=n
  ·subst e; exact h.dv x (hD x hux)
  ·exact h.fin u x hu e hux
 ·rw[g2,h.low t ht,hN];constructor
  ·rintro⟨u,w,a,b,c,⟨d1,d2⟩|⟨d1,d2,d3⟩⟩
   ·exact⟨u,w,d1,a,b,c,fun e=>d2 e.1⟩
   ·exact⟨u,w,d1 ▸ hNn,a,b,c,fun e=>d3 e.2⟩
  ·rintro⟨u,w,d1,a,b,c,d2⟩
   by_cases e:u=n
   ·subst e; exact⟨u,w,a,b,c,.inr ⟨rfl,hD w a,fun hf=>d2 ⟨rfl,hf⟩⟩⟩
   ·exact⟨u,w,a,b,c,.inl ⟨d1,e⟩⟩
 ·rw[hN] at hu;rw[g3]
  by_cases e:u=n
  ·subst e; exact h.bj u w huw (.inr ⟨rfl,hD w huw,fun hf=>hex ⟨rfl,hf⟩⟩)
  ·exact h.bj u w huw (.inl ⟨hu,e⟩)
 ·rw[g3]; exact h.bn p (fun hx=>hx.2 (hp.act p (hp.frA p hfp).1)) fun a=>a.2 hfp
 ·rw[hN] at hu
  by_cases e:u=n
  ·subst e
   by_cases hf:∃p,fr p
   ·have e1:s3.cu u↔s.cu u:=by rw[g4]; exact⟨fun hx=>hx.elim id fun hx=>absurd hf hx.2.1,.inl⟩
    rw[e1];rcases h.cn hf with⟨a,b⟩|⟨a,b⟩
    ·exact⟨fun _=>b,fun _=>a⟩
    ·refine⟨fun hx=>absurd hx a,fun⟨x,y,hx,hy,hr⟩=>absurd ?_ hr⟩;have key:∀z,A u z→∃w,Act w∧RP A (fun x=>x≠u) z w:=fun z hz=>by
      rcases near z hz with hz|⟨hz1,hz2⟩
      ·exact⟨z,hz,.refl⟩
      ·exact b z hz1 hz2
     obtain⟨w1,hw1,r1⟩:=key x hx;obtain⟨w2,hw2,r2⟩:=key y hy;exact(r1.trans ((hp.conn w1 w2 hw1 hw2).mono actn)).trans (r2.symm hs (uX hi hy).symm)
   ·obtain⟨a,b⟩:=h.cr hf;have noact:∀w,¬Act w:=fun w hw=>hf (hp.root w hw);have near':∀w,A u w→gi s0 s w∧w≠u:=fun w hw=>(near w hw).resolve_left (noact w);rw[g4];rcases b with⟨b1,b2⟩|⟨b1,_,b2⟩|⟨b1,b2⟩
    ·refine⟨fun hx=>hx.elim (fun hx=>absurd hx a) fun hx=>by omega,fun⟨x,y,hx,_⟩=>absurd (b2 x (near' x hx).1) (near' x hx).2⟩
    ·refine⟨fun hx=>hx.elim (fun hx=>absurd hx a) fun hx=>by omega,fun⟨x,y,hx,hy,hr⟩=>absurd (b2 x y (near' x hx).1 (near' x hx).2 (near' y hy).1 (near' y hy).2) hr⟩
    ·exact⟨fun _=>b2,fun _=>.inr ⟨rfl,hf,by omega⟩⟩
  ·rw[c3 e]; exact h.cj u hu e
 ·rw[hN] at hx;have e:x≠n:=fun e=>hx (e ▸ hNn);rw[c3 e]; exact h.co x hx
end
abbrev Q4:Type:=List (Int × Int) × List (Int × Int) × List ((Int × Int) × Bool) × Nat
def sg (s:Q4):Sg where
 m x:=(aP s.1 (x:Int)).getD 0
 lo x:=(aP s.2.1 (x:Int)).getD 0
 b x y:=(aP s.2.2.1 (mi (x:Int) (y:Int),ma (x:Int) (y:Int))).getD false=true
 cu x:=s.2.2.2.testBit x=true
 c:=(s.1.length:Int)
def un (l:List (Int × Int)):Nat:=((List.range 64).filter fun x=>(aP l ((x:Nat):Int)).isNone).length
structure FI (s:Q4):Prop where
 key:∀x:Nat,(sg s).m x=0→aP s.1 (x:Int)=none
 len:s.1.length+un s.1=64
 cu:s.2.2.2<2 ^ 64
theorem fe {p q:Nat→Bool} {a:Nat}:∀{l:List Nat},l.Nodup→a ∈ l→p a=true→(∀x,q x=(p x && !decide (x=a)))→(l.filter q).length+1=(l.filter p).length
 | [],_,h,_,_=>by cases h
 | x::l,hd,ha,hp,hq=>by
  rw[List.nodup_cons] at hd
  by_cases e:x=a
  ·subst e;have hqa:q x=false:=by rw[hq]; simp
   rw[List.filter_cons_of_pos hp,List.filter_cons_of_neg (by rw[hqa]; decide),List.length_cons]
   congr 1
   congr 1
   refine List.filter_congr fun y hy=>?_;have:y≠x:=fun e=>hd.1 (e ▸ hy);rw[hq]; simp[this]
  ·have ha':a ∈ l:=by rcases List.mem_cons.1 ha with h|h; exact absurd h.symm e; exact h
   have ih:=fe (p:=p) (q:=q) (a:=a) hd.2 ha' hp hq;have hqx:q x=p x:=by rw[hq]; simp[e]
   by_cases hpx:p x=true
   ·rw[List.filter_cons_of_pos hpx,List.filter_cons_of_pos (hqx.trans hpx)];simp only[List.length_cons]; omega
   ·rw[List.filter_cons_of_neg hpx,List.filter_cons_of_neg (by rw[hqx]; exact hpx)]
    exact ih
theorem NH {l:List (Int × Int)} {x:Nat} (hx:x<64) (h:aP l (x:Int)=none) (v:Int):un (bR l (x:Int) v)+1=un l:=by
 refine fe (a:=x) List.nodup_range (List.mem_range.2 hx) (by simp[h]) fun y=>?_
 rw[lN]
 by_cases e:y=x
 ·simp[e]
 ·have:¬((y:Int)=(x:Int)):=by omega
  simp[e,this]
theorem Cu {a b x y:Nat}:((mi (a:Int) (b:Int),ma (a:Int) (b:Int)):Int × Int)=(mi (x:Int) (y:Int),ma (x:Int) (y:Int))↔(a=x∧b=y)∨(a=y∧b=x):=by
 rw[Prod.mk.injEq];unfold mi ma;constructor
 ·rintro⟨h1,h2⟩
  split at h1<;>split at h1<;>split at h2<;>split at h2<;>omega
 ·rintro(⟨rfl,rfl⟩|⟨rfl,rfl⟩)
  ·exact⟨rfl,rfl⟩
  ·constructor
   ·split<;>split<;>omega
   ·split<;>split<;>omega
def Ad (es:List (Int × Int)) (S:Nat) (x y:Nat):Prop:=so es x y∧S.testBit x=true∧S.testBit y=true
theorem Ad.symm {es:List (Int × Int)} {S:Nat}:∀x y,Ad es S x y→Ad es S y x:=fun _ _ h=>⟨sd h.1,h.2.2,h.2.1⟩
theorem Ad.Ri {M:Nat} {es:List (Int × Int)} {S:Nat} (h:Okay M es):∀x,¬Ad es S x x:=fun x hx=>(h.so hx.1).2.2 rfl
abbrev FQ (S:Nat) (x:Nat):Prop:=S.testBit x=true
abbrev qK (f:Int) (p:Nat):Prop:=(p:Int)=f
section
variable {M S : Nat} {es : List (Int × Int)} {L : List Nat}
def BX (es:List (Int × Int)) (S:Nat) (r0:Q4→Int × Int→Option Q4) (k:Nat):Prop :=
 ∀(s:Q4) (Act:Nat→Prop) (x:Nat) (f:Int),(f = -1∨∃p:Nat,f=(p:Int))→FI s→Pre (Ad es S) (FQ S) Act (qK f) x (sg s)→un s.1<k→∃s',r0 s ((x:Int),f)=some s'∧FI s'∧un s'.1≤un s.1∧Post (Ad es S) (FQ S) (qK f) x (sg s) (sg s')
abbrev L5:Type:=List (Int × Int) × List (Int × Int) × List ((Int × Int) × Bool) × Nat × Int
def q4 (s:L5):Q4:=(s.1,s.2.1,s.2.2.1,s.2.2.2.1)
theorem B9 {α β:Type} {e:Option α} {F:α→Option β} {G:α→β} {P:α→Prop} (hF:∀a,F a=some (G a)) (h:∃a,e=some a∧P a):∃a,ob e F=some (G a)∧P a:=by
 obtain⟨a,h1,h2⟩:=h;exact⟨a,by rw[h1]; exact hF a,h2⟩
theorem E6 (n0:Nat) (hok:Okay M es) (hS:S<2 ^ M) {r0:Q4→Int × Int→Option Q4} {k:Nat} (hrec:BX es S r0 k) {s0:Sg} {Act:Nat→Prop} {x:Nat} {f:Int} (hp:Pre (Ad es S) (FQ S) Act (qK f) x s0)
  {D:Nat→Prop} {s:L5} {r:Nat} (h12:0<r) (hr:r<2 ^ 64) (ha:Ad es S x (tz r)) (hD:¬D (tz r)) (hI:LI (Ad es S) (FQ S) Act (qK f) x s0 D (sg (q4 s)) s.2.2.2.2) (hF:FI (q4 s)) (hu:un s.1<k) (hf:f = -1∨∃p:Nat,f=(p:Int)) :
  ∃s':L5,oJ n0 f (x:Int) r0 (r,s)=some (.inl (xC r,s'))∧LI (Ad es S) (FQ S) Act (qK f) x s0 (fun w=>D w∨w=tz r) (sg (q4 s')) s'.2.2.2.2∧FI (q4 s')∧un s'.1≤un s.1:=by
 obtain⟨lm,ll,lb,C,kids⟩:=s;have hs:=@Ad.symm es S;have hi:=@Ad.Ri M es S hok;have h0:x<64:=mu (oH hS hok.le) ha.2.1;have h13:tz r<64:=mu (oH hS hok.le) ha.2.2;have hne:x≠tz r:=uX hi ha;have hnei:¬((tz r:Nat):Int)=(x:Int):=by omega
 have hnei':¬((x:Nat):Int)=(tz r:Int):=by omega
 simp only[oJ];rw[show(!decide (r=0))=true by simp; omega,dI]
 simp only[BL hr,ah];refine B9 (α:=L5) (G:=fun s':L5=>(Sum.inl (xC r,s'):(Nat × L5) ⊕ L5)) (fun a=>rfl) ?_
 by_cases hfk:((tz r:Nat):Int)=f
 ·rw[aV hfk];exact⟨_,rfl,hI.skip hp hfk,hF,Nat.le_refl _⟩
 rw[aO hfk]
 by_cases hm:0<(aP lm ((tz r:Nat):Int)).getD 0
 ·rw[aV hm];refine⟨_,rfl,hI.met hs hi hp (k:=tz r) ha hm hfk hD rfl (fun y=>?_) rfl rfl rfl,⟨hF.key,hF.len,hF.cu⟩,Nat.le_refl _⟩
  show(aP (bR ll (x:Int) _) (y:Int)).getD 0=_
  rw[fm]
  by_cases e:y=x
  ·subst e; rw[if_pos rfl,if_pos rfl]; rfl
  ·rw[if_neg (by omega),if_neg e]; rfl
 ·rw[aO hm];have h2:(sg (q4 (lm,ll,lb,C,kids))).m (tz r)=0:=by
   have:=(hI.pos (tz r)).1;have e:(sg (q4 (lm,ll,lb,C,kids))).m (tz r)=(aP lm ((tz r:Nat):Int)).getD 0:=rfl;omega
  obtain⟨s2,h5,h1,h3,h6⟩:=hrec (lm,ll,lb,C) _ (tz r) (x:Int) (.inr ⟨x,rfl⟩) hF (by
   have:=hI.uE hs hi hp ha h2 ha.2.2;have e:(fun y=>y=x)=qK (x:Int):=by funext y; unfold qK; exact propext ⟨fun h=>by rw[h],fun h=>by omega⟩
   rw[e] at this; exact this) hu
  have h4':Post (Ad es S) (FQ S) (fun y=>y=x) (tz r) (sg (lm,ll,lb,C)) (sg s2):=by
   have e:(fun y=>y=x)=qK (x:Int):=by funext y; unfold qK; exact propext ⟨fun h=>by rw[h],fun h=>by omega⟩
   rw[e]; exact h6
  obtain⟨l2,l1,l3,C2⟩:=s2;have hkid:IntKind.wrap .i64 (kids+1)=kids+1:=by
   have h7:=hI.kid;have h14:(sg (q4 (lm,ll,lb,C,kids))).c=(lm.length:Int):=rfl;have h8:=hF.len;have h9:(q4 (lm,ll,lb,C,kids)).1=lm:=rfl;rw[h9] at h8;have h10:(lm,ll,lb,C,kids).2.2.2.2=kids:=rfl;rw[h10] at h7;exact aK (by omega) (by omega)
  simp only[h5,ah,fm,if_neg hnei,hkid];have C2lt:C2<2 ^ 64:=h1.cu;have fin:∀(l4:List ((Int × Int) × Bool)) (C3:Nat),C3<2 ^ 64→(∀a b:Nat,(sg (l2,l1,l4,C3)).b a b↔(sg (l2,l1,l3,C2)).b a b∨((sg (l2,l1,l3,C2)).m x<(sg (l2,l1,l3,C2)).lo (tz r)∧((a=x∧b=tz r)∨(a=tz r∧b=x)))) →
    (∀a:Nat,C3.testBit a=true↔C2.testBit a=true∨(a=x∧(∃p,qK f p)∧(sg (l2,l1,l3,C2)).m x≤(sg (l2,l1,l3,C2)).lo (tz r))) →
    LI (Ad es S) (FQ S) Act (qK f) x s0 (fun w=>D w∨w=tz r) (sg (l2,bR l1 (x:Int) (mi ((aP l1 (x:Int)).getD 0) ((aP l1 ((tz r:Nat):Int)).getD 0)),l4,C3)) (kids+1)∧FI (l2,bR l1 (x:Int) (mi ((aP l1 (x:Int)).getD 0) ((aP l1 ((tz r:Nat):Int)).getD 0)),l4,C3):=by
   intro l4 C3 hC hb hc;refine⟨hI.child hs hi hp ha h2 ha.2.2 h4' rfl (fun y=>?_) hb hc rfl,⟨h1.key,h1.len,hC⟩⟩
   show(aP (bR l1 (x:Int) _) (y:Int)).getD 0=_
   rw[fm]
   by_cases e:y=x
   ·subst e; rw[if_pos rfl,if_pos rfl]; rfl
   ·rw[if_neg (by omega),if_neg e]; rfl
  have hB:∃l4,(br (decide ((aP l2 (x:Int)).getD 0<(aP l1 ((tz r:Nat):Int)).getD 0)) (some (bR l3 (mi (x:Int) ((tz r:Nat):Int),ma (x:Int) ((tz r:Nat):Int)) true)) (some l3))=some l4 ∧
    ∀(C3:Nat) (a b:Nat),(sg (l2,l1,l4,C3)).b a b↔(sg (l2,l1,l3,C2)).b a b∨((sg (l2,l1,l3,C2)).m x<(sg (l2,l1,l3,C2)).lo (tz r)∧((a=x∧b=tz r)∨(a=tz r∧b=x))):=by
   by_cases hl:(aP l2 (x:Int)).getD 0<(aP l1 ((tz r:Nat):Int)).getD 0
   ·refine⟨_,aV hl _ _,fun C3 a b=>?_⟩
    show(aP (bR l3 _ true) _).getD false=true↔_
    rw[fm]
    by_cases e:(mi (a:Int) (b:Int),ma (a:Int) (b:Int))=(mi (x:Int) ((tz r:Nat):Int),ma (x:Int) ((tz r:Nat):Int))
    ·rw[if_pos e];exact⟨fun _=>.inr ⟨hl,Cu.1 e⟩,fun _=>rfl⟩
    ·rw[if_neg e];exact⟨.inl,fun h=>h.elim id fun h=>absurd (Cu.2 h.2) e⟩
   ·refine⟨_,aO hl _ _,fun C3 a b=>⟨.inl,fun h=>h.elim id fun h=>absurd h.1 hl⟩⟩
  obtain⟨l4,h11,h4⟩:=hB;simp only[h11,ah];have hfr:(∃p,qK f p)↔0≤f:=by
   rcases hf with rfl|⟨p,rfl⟩
   ·exact⟨fun⟨p,hp⟩=>by unfold qK at hp; omega,fun h=>by omega⟩
   ·exact⟨fun _=>by omega,fun _=>⟨p,rfl⟩⟩
  have hcond:br (decide (0≤f)) (some (decide ((aP l2 (x:Int)).getD 0≤(aP l1 ((tz r:Nat):Int)).getD 0))) (some false)=some (decide (0≤f∧(aP l2 (x:Int)).getD 0≤(aP l1 ((tz r:Nat):Int)).getD 0)):=by
   by_cases h:0≤f
   ·rw[aV h]; simp[h]
   ·rw[aO h]; simp[h]
  simp only[hcond,ah]
  by_cases hcc:0≤f∧(aP l2 (x:Int)).getD 0≤(aP l1 ((tz r:Nat):Int)).getD 0
  ·rw[aV hcc,cq (by omega)]
   rw[Int.toNat_natCast,kW h0,lY C2lt (lj h0)];have:=fin l4 (C2 ||| 2 ^ x) (oN C2lt (lj h0)) (h4 _) fun a=>by
    rw[Nat.testBit_or,Bool.or_eq_true,pb,decide_eq_true_eq];exact⟨fun h=>h.imp id fun h=>⟨h,hfr.2 hcc.1,hcc.2⟩,fun h=>h.imp id fun h=>h.1⟩
   exact⟨_,rfl,this.1,this.2,h3⟩
  ·rw[aO hcc];have:=fin l4 C2 C2lt (h4 _) fun a=>⟨.inl,fun h=>h.elim id fun h=>absurd ⟨hfr.1 h.2.1,h.2.2⟩ hcc⟩;exact⟨_,rfl,this.1,this.2,h3⟩
theorem LI.congr {A:Nat→Nat→Prop} {S' Act fr D D':Nat→Prop} {n:Nat} {s0 s:Sg} {kids:Int} (h:LI A S' Act fr n s0 D s kids) (e:∀w,D w↔D' w):LI A S' Act fr n s0 D' s kids:=by
 have:D=D':=by funext w; exact propext (e w)
 rw[←this]; exact h
theorem Ky (n0:Nat) (hok:Okay M es) (hL:fw M es L) (hS:S<2 ^ M) (h8:64<n0):∀k,∀(s:Q4) (Act:Nat→Prop) (x:Nat) (f:Int),(f = -1∨∃p:Nat,f=(p:Int))→FI s→Pre (Ad es S) (FQ S) Act (qK f) x (sg s)→un s.1<k →
  ∃s',zy n0 L S k s ((x:Int),f)=some s'∧FI s'∧un s'.1≤un s.1∧Post (Ad es S) (FQ S) (qK f) x (sg s) (sg s'):=by
 intro k
 induction k with
 | zero=>intro s Act x f _ _ _ h; exact absurd h (Nat.not_lt_zero _)
 | succ k ih =>
  intro s Act x f hf hF hp hu;have hs:=@Ad.symm es S;have hi:=@Ad.Ri M es S hok;have hxS:S.testBit x=true:=hp.nS;have hS64:=oH hS hok.le;have h2:x<64:=mu hS64 hxS;have hxM:x<M:=pD hS hxS;obtain⟨w,h5,h4,h6⟩:=hL.2 x hxM;have hkey:=hF.key x hp.new;obtain⟨lm,ll,lb,C⟩:=s;have hun:=NH (l:=lm) h2 hkey ((lm.length:Int)+1);have hlen:=hF.len;simp only at hlen hu hkey;have hlm:=zD lm (x:Int) ((lm.length:Int)+1) hkey;have hrec:BX es S (zy n0 L S k) k:=ih
  show ∃s',xM n0 (zy n0 L S k) L S (lm,ll,lb,C) ((x:Int),f)=some s'∧_
  have hwr:IntKind.wrap .i64 ((lm.length:Int)+1)=(lm.length:Int)+1:=aK (by omega) (by omega)
  simp only[xM,ah,hwr,fm,if_true];rw[aD (by rw[hL.1]; exact hxM),aS]
  simp only[Int.toNat_natCast,h5,ah,ik h4 hS64];have hstart:=LI.start (s:=sg (bR lm (x:Int) ((lm.length:Int)+1),bR ll (x:Int) ((lm.length:Int)+1),lb,C)) hp hs
   (fun y=>by
    show(aP (bR lm (x:Int) _) (y:Int)).getD 0=_
    rw[fm]
    by_cases e:y=x
    ·subst e; rw[if_pos rfl,if_pos rfl]; rfl
    ·rw[if_neg (by omega),if_neg e]; rfl)
   (fun y=>by
    show(aP (bR ll (x:Int) _) (y:Int)).getD 0=_
    rw[fm]
    by_cases e:y=x
    ·subst e; rw[if_pos rfl,if_pos rfl]; rfl
    ·rw[if_neg (by omega),if_neg e]; rfl) rfl rfl (by
    show((bR lm (x:Int) ((lm.length:Int)+1)).length:Int)=(lm.length:Int)+1
    rw[hlm]; rfl)
  have hnb:∀i,(w &&& S).testBit i=true↔Ad es S x i:=fun i=>by
   rw[Nat.testBit_and,Bool.and_eq_true,h6];exact⟨fun h=>⟨h.1,hxS,h.2⟩,fun h=>⟨h.1,h.2.2⟩⟩
  have hlt:w &&& S<2 ^ 64:=iO h4;have hlp:=zn (body:=oJ n0 f (x:Int) (zy n0 L S k)) (fun(r:Nat) (s:L5)=>(r,s)) id
   (fun r s=>(∀i,r.testBit i=true→(w &&& S).testBit i=true)∧LI (Ad es S) (FQ S) Act (qK f) x (sg (lm,ll,lb,C)) (fun y=>Ad es S x y∧¬r.testBit y=true) (sg (q4 s)) s.2.2.2.2∧FI (q4 s)∧un s.1<un lm)
   (fun r s h3 hr hI=>?_) (fun s hI=>?_) n0 (w &&& S) (bR lm (x:Int) ((lm.length:Int)+1),bR ll (x:Int) ((lm.length:Int)+1),lb,C,(0:Int)) hlt ?_ (by have:=iw (w &&& S); omega)
  ·obtain⟨s',h0,h1⟩:=hlp;obtain⟨lm',ll',lb',C',kids⟩:=s';simp only[h0,ah,id_eq];obtain⟨_,hI1,hI2,hI3⟩:=h1;have hI1':=hI1.congr (D':=fun y=>Ad es S x y) fun y=>⟨fun h=>h.1,fun h=>⟨h,by rw[Nat.zero_testBit]; decide⟩⟩
   have C'lt:C'<2 ^ 64:=hI2.cu;have hfr:(¬∃p,qK f p)↔f<0:=by
    rcases hf with rfl|⟨p,rfl⟩
    ·exact⟨fun _=>by decide,fun _ ⟨p,hp⟩=>by unfold qK at hp; omega⟩
    ·exact⟨fun h=>absurd ⟨p,rfl⟩ h,fun h=>by omega⟩
   have hcond:br (decide (f<0)) (some (decide (1<kids))) (some false)=some (decide (f<0∧1<kids)):=by
    by_cases h:f<0
    ·rw[aV h]; simp[h]
    ·rw[aO h]; simp[h]
   simp only[hcond,ah]
   by_cases hcc:f<0∧1<kids
   ·rw[aV hcc,cq (by omega)]
    rw[kW h2,lY C'lt (lj h2)];refine⟨_,rfl,⟨hI2.key,hI2.len,oN C'lt (lj h2)⟩,?_,hI1'.done hs hi hp (fun _ h=>h) rfl rfl rfl (fun a=>?_) rfl⟩
    ·exact Nat.le_of_lt hI3
    ·show(C' ||| 2 ^ x).testBit a=true↔C'.testBit a=true∨_
     rw[Nat.testBit_or,Bool.or_eq_true,pb,decide_eq_true_eq];exact⟨fun h=>h.imp id fun h=>⟨h,hfr.2 hcc.1,hcc.2⟩,fun h=>h.imp id fun h=>h.1⟩
   ·rw[aO hcc];refine⟨_,rfl,⟨hI2.key,hI2.len,C'lt⟩,?_,hI1'.done hs hi hp (fun _ h=>h) rfl rfl rfl (fun a=>⟨.inl,fun h=>h.elim id fun h=>absurd ⟨hfr.1 h.2.1,h.2.2⟩ hcc⟩) rfl⟩;exact Nat.le_of_lt hI3
  ·obtain⟨hsub,hI1,hI2,hI3⟩:=hI;have ht:=(fQ h3 hr).1;have ha:=(hnb _).1 (hsub _ ht);obtain⟨s',g0,g1,g2,g3⟩:=E6 n0 hok hS hrec hp h3 hr ha (fun h=>h.2 ht) hI1 hI2 (by omega) hf
   refine⟨s',g0,fun i hi=>hsub i ?_,g1.congr fun y=>?_,g2,Nat.lt_of_le_of_lt g3 hI3⟩
   ·rw[j4 h3 hr] at hi; simp only[Bool.and_eq_true] at hi; exact hi.1
   ·rw[j4 h3 hr];constructor
    ·rintro(⟨h0,h1⟩|rfl)
     ·exact⟨h0,by simp[h1]⟩
     ·exact⟨ha,by simp⟩
    ·rintro⟨h0,h1⟩
     by_cases e:y=tz r
     ·exact .inr e
     ·refine .inl ⟨h0,fun h7=>h1 (by simp[h7,e])⟩
  ·simp only[oJ]; rfl
  ·refine⟨fun i hi=>hi,hstart.congr fun y=>⟨fun h=>h.elim,fun h=>h.2 ((hnb y).2 h.1)⟩,⟨fun y hy=>?_,?_,hF.cu⟩,?_⟩
   ·show aP (bR lm (x:Int) _) (y:Int)=none
    have hy':(aP (bR lm (x:Int) ((lm.length:Int)+1)) (y:Int)).getD 0=0:=hy;rw[fm] at hy';rw[lN]
    by_cases e:(y:Int)=(x:Int)
    ·rw[if_pos e] at hy'; omega
    ·rw[if_neg e] at hy' ⊢; exact hF.key y hy'
   ·show(bR lm (x:Int) _).length+un (bR lm (x:Int) _)=64
    rw[hlm]; omega
   ·show un (bR lm (x:Int) _)<un lm
    omega
end
section
variable {M S : Nat} {es : List (Int × Int)} {L : List Nat}
structure TI (A:Nat→Nat→Prop) (S':Nat→Prop) (s:Sg):Prop extends Inv S' s where
 fin:∀w x,0<s.m w→A w x→0<s.m x
 bj:∀u w,0<s.m u→A u w→(s.b u w↔fP A u w)
 cj:∀u,0<s.m u→(s.cu u↔Cut A u)
theorem TI.pre {A:Nat→Nat→Prop} {S':Nat→Prop} {s:Sg} (h:TI A S' s) {x:Nat} (hx:S' x) (h0:s.m x=0):Pre A S' (fun _=>False) (qK (-1)) x s :=
 { h.toInv with
  act:=fun _ h=>h.elim,conn:=fun _ _ h=>h.elim,fin:=fun w y hw _ hwy=>h.fin w y hw hwy,new:=h0,nS:=hx
  frA:=fun p hp=>by unfold qK at hp; omega
  root:=fun _ h=>h.elim
  fr1:=fun p q hp=>by unfold qK at hp; omega}
theorem TI.post {A:Nat→Nat→Prop} {S':Nat→Prop} {s s':Sg} (h:TI A S' s) {x:Nat} (hp:Post A S' (qK (-1)) x s s'):TI A S' s'∧(∀y,0<s.m y→0<s'.m y)∧0<s'.m x:=by
 have nofr:∀p,¬qK (-1) p:=fun p hp=>by unfold qK at hp; omega
 have mono:∀y,0<s.m y→0<s'.m y:=fun y hy=>by rw[hp.ext y hy]; exact hy
 refine⟨{ hp.toInv with fin:=fun w y hw hwy=>?_,bj:=fun u w hu huw=>?_,cj:=fun u hu=>?_},mono,by rw[hp.nn]; have:=h.c0; omega⟩
 ·by_cases h0:0<s.m w
  ·exact mono y (h.fin w y h0 hwy)
  ·exact hp.fin w y ⟨hw,h0⟩ hwy
 ·by_cases h0:0<s.m u
  ·rw[hp.bo u w (fun a=>a.2 h0) (fun a=>a.2 (h.fin u w h0 huw))]; exact h.bj u w h0 huw
  ·exact hp.bj u w ⟨hu,h0⟩ huw fun e=>nofr _ e.2
 ·by_cases h0:0<s.m u
  ·rw[hp.co u (fun a=>a.2 h0)]; exact h.cj u h0
  ·exact hp.cj u ⟨hu,h0⟩
def q5 (t:List ((Int × Int) × Bool) × Nat × List (Int × Int) × List (Int × Int)):Q4:=(t.2.2.1,t.2.2.2,t.1,t.2.1)
theorem Nh:un []=64:=by decide
theorem Fx (n:Nat) (hok:Okay M es) (hL:fw M es L) (hS:S<2 ^ M) (hn:64<n) :
  ∃lb C lm ll,bV (uT n L S) n (S,[],0,[],[])=some (lb,C,lm,ll)∧C<2 ^ 64∧(∀v,C.testBit v=true↔S.testBit v=true∧Cut (Ad es S) v) ∧
   (∀a b:Nat,a<b→((aP lb ((a:Int),(b:Int))).getD false=true→S.testBit a=true∧S.testBit b=true)) ∧
   ∀a b:Nat,a<b→Ad es S a b→((aP lb ((a:Int),(b:Int))).getD false=true↔fP (Ad es S) a b):=by
 have hS64:=oH hS hok.le;have hlp:=zn (body:=uT n L S) (fun(r:Nat) (s:List ((Int × Int) × Bool) × Nat × List (Int × Int) × List (Int × Int))=>(r,s)) id
  (fun r s=>(∀i,r.testBit i=true→S.testBit i=true)∧TI (Ad es S) (FQ S) (sg (q5 s))∧FI (q5 s)∧∀i,S.testBit i=true→¬r.testBit i=true→0<(sg (q5 s)).m i)
  (fun r s h0 hr hI=>?_) (fun s hI=>?_) n S ([],0,[],[]) hS64 ?_ (by have:=iw S; omega)
 ·obtain⟨⟨lb,C,lm,ll⟩,h1,_,h3,h4,h5⟩:=hlp;have E8:∀i,S.testBit i=true→0<(sg (q5 (lb,C,lm,ll))).m i:=fun i hi=>h5 i hi (by rw[Nat.zero_testBit]; decide)
  have mii:∀a b:Nat,a<b→mi (a:Int) (b:Int)=a∧ma (a:Int) (b:Int)=b:=fun a b h=>by unfold mi ma; constructor<;>split<;>omega
  refine⟨lb,C,lm,ll,h1,h4.cu,fun v=>⟨fun h=>?_,fun h=>(h3.cj v (E8 v h.1)).2 h.2⟩,fun a b hab h=>?_,fun a b hab hA=>?_⟩
  ·have hv:=h3.cv v h;exact⟨h3.inS v hv,(h3.cj v hv).1 h⟩
  ·have hb:(sg (q5 (lb,C,lm,ll))).b a b:=by
    show(aP lb (mi (a:Int) (b:Int),ma (a:Int) (b:Int))).getD false=true
    rw[(mii a b hab).1,(mii a b hab).2]; exact h
   exact⟨h3.inS a (h3.bv a b hb),h3.inS b (h3.bv b a (h3.bs a b hb))⟩
  ·have:=h3.bj a b (E8 a hA.2.1) hA;rw[←this]
   show _↔(aP lb (mi (a:Int) (b:Int),ma (a:Int) (b:Int))).getD false=true
   rw[(mii a b hab).1,(mii a b hab).2]
 ·obtain⟨hsub,hT,hF,hd⟩:=hI;obtain⟨lb,C,lm,ll⟩:=s;have ht:=(fQ h0 hr).1;have htS:=hsub _ ht;simp only[uT];rw[show(!decide (r=0))=true by simp; omega,dI]
  simp only[BL hr,ah];refine B9 (α:=List ((Int × Int) × Bool) × Nat × List (Int × Int) × List (Int × Int)) (G:=fun s'=>(Sum.inl (xC r,s'):(Nat × List ((Int × Int) × Bool) × Nat × List (Int × Int) × List (Int × Int)) ⊕ (List ((Int × Int) × Bool) × Nat × List (Int × Int) × List (Int × Int)))) (fun a=>rfl) ?_;have hsub':∀i,(xC r).testBit i=true→S.testBit i=true:=fun i hi=>hsub i (by rw[j4 h0 hr] at hi; simp only[Bool.and_eq_true] at hi; exact hi.1)
  have hrest:∀i,¬(xC r).testBit i=true→¬r.testBit i=true∨i=tz r:=fun i hi=>by
   rw[j4 h0 hr] at hi
   by_cases e:i=tz r
   ·exact .inr e
   ·exact .inl fun h=>hi (by simp[h,e])
  have hpos:=hT.pos (tz r);have hm:(sg (q5 (lb,C,lm,ll))).m (tz r)=(aP lm ((tz r:Nat):Int)).getD 0:=rfl
  by_cases hz:(aP lm ((tz r:Nat):Int)).getD 0=0
  ·rw[aV hz];obtain⟨s',g1,g2,g3,g4⟩:=Ky n hok hL hS hn n (lm,ll,lb,C) _ (tz r) (-1) (.inl rfl) hF (hT.pre htS (hm.trans hz)) (by
    have:=hF.len;have e:(q5 (lb,C,lm,ll)).1=lm:=rfl;rw[e] at this
    show un lm<n
    omega)
   obtain⟨lm',ll',lb',C'⟩:=s';obtain⟨k1,k2,k3⟩:=hT.post g4;rw[g1];refine⟨(lb',C',lm',ll'),rfl,hsub',k1,g2,fun i hi hni=>?_⟩;rcases hrest i hni with h|rfl
   ·exact k2 i (hd i hi h)
   ·exact k3
  ·rw[aO hz];refine⟨(lb,C,lm,ll),rfl,hsub',hT,hF,fun i hi hni=>?_⟩;rcases hrest i hni with h|rfl
   ·exact hd i hi h
   ·rw[hm]; rw[hm] at hpos; omega
 ·simp only[uT]; rfl
 ·have m0:∀x,¬(0:Int)<(sg (q5 ([],0,[],[]))).m x:=fun x h=>(by simp[sg,q5,aP,cz] at h)
  refine⟨fun i hi=>hi,{ pos:=fun x=>?_,inS:=fun x hx=>absurd hx (m0 x),bs:=fun x y hb=>?_,bv:=fun x y hb=>?_,cv:=fun x hb=>?_,fin:=fun w x hw=>absurd hw (m0 w),bj:=fun u w hu=>absurd hu (m0 u),cj:=fun u hu=>absurd hu (m0 u)},⟨fun x _=>rfl,?_,by show(0:Nat)<2 ^ 64; decide⟩,fun i hi hni=>absurd hi hni⟩
  ·simp[sg,q5,aP,cz]
  ·simp[sg,q5,aP,cz] at hb
  ·simp[sg,q5,aP,cz] at hb
  ·simp[sg,q5] at hb
  ·show([]:List (Int × Int)).length+un []=64
   rw[Nh]; rfl
theorem Em {n N:Nat} {es:List (Int × Int)} (h:Okay N es) (p:Int × Int→Bool) (body:(List (Int × Int) × Int)→Option ((List (Int × Int) × Int) ⊕ (List (Int × Int))))
  (hb:∀(s:List (Int × Int)) (k a b:Nat),es[k]? = some ((a:Int),(b:Int))→a<b→b<N→s.length≤k→k<200→body (s,(k:Int))=some (.inl ((if p ((a:Int),(b:Int)) then s++[((a:Int),(b:Int))] else s),((k+1:Nat):Int)))) (he:∀s,body (s,(es.length:Int))=some (.inr s)) (hn:200<n) :
  bV body n ([],0)=some (es.filter p):=by
 have hN:=h.le;have hlen:=h.len;have:=zE (body:=body) es (fun(s:List (Int × Int)) (v:Int)=>(s,v)) (fun s e=>if p e then s++[e] else s) id (fun k s=>s.length≤k∧s=(es.take k).filter p) (fun s k e he' hI=>?_) (fun s _=>he s) (n:=n) (s:=[]) ⟨by simp,by simp⟩ (by omega)
 ·obtain⟨h1,h2,h3⟩:=this;rw[h1,h3,List.take_length]; rfl
 ·have hi:k<es.length:=(List.getElem?_eq_some_iff.1 he').1;obtain⟨a,b,rfl,hab,hbN⟩:=h.mem e (List.mem_of_getElem? he');have htk:es.take (k+1)=es.take k++[((a:Int),(b:Int))]:=by rw[List.take_add_one,he']; rfl
  refine⟨hb s k a b he' hab hbN hI.1 (by omega),?_,?_⟩
  ·split
   ·simp; have:=hI.1; omega
   ·have:=hI.1; omega
  ·rw[htk,List.filter_append,←hI.2]
   by_cases hc:p ((a:Int),(b:Int))=true
   ·rw[if_pos hc,List.filter_cons_of_pos hc]; rfl
   ·rw[if_neg hc,List.filter_cons_of_neg hc]; simp
def GH (es:List (Int × Int)) (S:Nat) (e:Int × Int):Prop:=S.testBit e.1.toNat=true∧S.testBit e.2.toNat=true∧fP (Ad es S) e.1.toNat e.2.toNat
theorem LY (n:Nat) (hok:Okay M es) (hg:qU (M:Int) es=true) (hS:S<2 ^ M) (hn:200<n):∃p:Int × Int→Bool,Pu n (M:Int) es S=some (es.filter p,0)∧∀e ∈ es,p e=true↔GH es S e:=by
 have hlen:=hok.len;have hS64:=oH hS hok.le;obtain⟨L,hL1,hL2⟩:=Dm n M es hok hn;obtain⟨lb,C,lm,ll,h1,h2,h3,h4,h5⟩:=Fx n hok hL2 hS (by omega)
 refine⟨fun e=>(aP lb e).getD false,?_,fun e he=>?_⟩
 ·unfold Pu;rw[Ig n _ _ _ hS64 (by omega) (by omega) (by omega),ah,IY hok hg hS]
  simp only[decide_true,Bool.not_true,dt,hL1,ah,h1];rw[Em hok (fun e=>(aP lb e).getD false) (zt n es lb) (fun s k a b he hab hb hs hk=>?_) (fun s=>?_) hn,ah]
  ·have hi:k<es.length:=(List.getElem?_eq_some_iff.1 he).1;simp only[zt,Int.toNat_natCast,he,ah,aD hi,aS,bt (show k<4611686018427387904 by omega)]
   rw[aV (by omega)]
   rcases Bool.eq_false_or_eq_true ((aP lb ((a:Int),(b:Int))).getD false) with hc|hc
   ·simp only[hc,dI,if_true];rw[fR (by simp; omega),aS,ah]
   ·simp only[hc,dt,ah,Bool.false_eq_true,if_false]
  ·simp only[zt];rw[aO (by omega)]
 ·obtain⟨a,b,rfl,hab,hb⟩:=hok.mem e he;simp only[GH,Int.toNat_natCast];constructor
  ·intro hp;obtain⟨ha,hb'⟩:=h4 a b hab hp;exact⟨ha,hb',(h5 a b hab ⟨.inl he,ha,hb'⟩).1 hp⟩
  ·rintro⟨ha,hb',hB⟩;exact(h5 a b hab ⟨.inl he,ha,hb'⟩).2 hB
end
section
variable {M S S' : Nat} {es es' : List (Int × Int)}
def Ld (es es':List (Int × Int)) (a b:Nat):Prop:=∀x y,so es' x y↔so es x y∧¬(x=a∧y=b)∧¬(x=b∧y=a)
theorem BN {a b:Nat} (hl:Ld es es' a b) (ha:S.testBit a=true):fP (Ad es S) a b↔¬Rch es' S a b:=by
 have k1:∀j,RP (lJ (Ad es S) a b) (fun _=>True) a j→Rch es' S a j:=fun j h=>by
  induction h with
  | refl=>exact .refl
  | step _ hx _ ih=>exact .step ih ((hl _ _).2 ⟨hx.1.1,hx.2⟩) hx.1.2.2
 have k2:∀j,Rch es' S a j→RP (lJ (Ad es S) a b) (fun _=>True) a j:=fun j h=>by
  induction h with
  | refl=>exact .refl
  | step h' hx hk ih =>
   have:=(hl _ _).1 hx;exact .step ih ⟨⟨this.1,h'.mem ha,hk⟩,this.2⟩ trivial
 exact⟨fun h h'=>h (k2 b h'),fun h h'=>h (k1 b h')⟩
end
section
variable {M S : Nat} {es : List (Int × Int)}
theorem FP {N:Int}:∀{es:List (Int × Int)} {p:Int × Int},lr N p es=true→∀e ∈ es,p.1<e.1∨p.1=e.1∧p.2<e.2
 | [],_,_,_,h=>by cases h
 | f::es,p,h,e,he=>by
  rw[ek,Bool.and_eq_true] at h;unfold df at h;simp only[Bool.and_eq_true,decide_eq_true_eq] at h;rcases List.mem_cons.1 he with rfl|he
  ·exact h.1.2
  ·have:=FP h.2 e he;have:=h.1.2;omega
theorem ub {N:Int}:∀{es:List (Int × Int)} {p:Int × Int},lr N p es=true→es.Nodup
 | [],_,_=>.nil
 | f::es,p,h=>by
  rw[ek,Bool.and_eq_true] at h;exact List.nodup_cons.2 ⟨fun hf=>by have:=FP h.2 f hf; omega,ub h.2⟩
theorem Hr {k a b:Nat} (hok:Okay M es) (hg:qU (M:Int) es=true) (h:es[k]? = some ((a:Int),(b:Int))):Ld es (es.take k++es.drop (k+1)) a b:=by
 have hs:=yK h;have hnd:es.Nodup:=by
  unfold qU at hg;rw[Bool.and_eq_true] at hg;exact ub hg.2
 have hmem:∀f,f ∈ es.take k++es.drop (k+1)↔f ∈ es∧f≠((a:Int),(b:Int)):=fun f=>by
  have e1:f ∈ es↔f ∈ es.take k∨f=((a:Int),(b:Int))∨f ∈ es.drop (k+1):=by
   constructor
   ·intro hf;rw[hs] at hf
    simpa using hf
   ·intro hf;rw[hs]
    simpa using hf
  have hnd':(es.take k++((a:Int),(b:Int))::es.drop (k+1)).Nodup:=hs ▸ hnd;rw[List.nodup_append] at hnd';obtain⟨_,n2,n3⟩:=hnd';rw[List.nodup_cons] at n2;rw[e1,List.mem_append];constructor
  ·rintro(hf|hf)
   ·exact⟨.inl hf,fun e=>n3 f hf _ (List.mem_cons_self ..) e⟩
   ·exact⟨.inr (.inr hf),fun e=>n2.1 (e ▸ hf)⟩
  ·rintro⟨hf|hf|hf,hne⟩
   ·exact .inl hf
   ·exact absurd hf hne
   ·exact .inr hf
 have hab:a<b:=by
  obtain⟨a',b',e,h1,_⟩:=hok.mem _ (List.mem_of_getElem? h);simp only[Prod.mk.injEq] at e; omega
 intro x y;unfold so;rw[hmem,hmem];constructor
 ·rintro(⟨h1,h2⟩|⟨h1,h2⟩)
  ·refine⟨.inl h1,fun e=>h2 (by rw[e.1,e.2]),fun e=>?_⟩
   obtain⟨x',y',e',hxy,_⟩:=hok.mem _ h1;simp only[Prod.mk.injEq] at e'; omega
  ·refine⟨.inr h1,fun e=>?_,fun e=>h2 (by rw[e.1,e.2])⟩
   obtain⟨x',y',e',hxy,_⟩:=hok.mem _ h1;simp only[Prod.mk.injEq] at e'; omega
 ·rintro⟨h1|h1,h2,h3⟩
  ·exact .inl ⟨h1,fun e=>h2 (by simp only[Prod.mk.injEq] at e; omega)⟩
  ·exact .inr ⟨h1,fun e=>h3 (by simp only[Prod.mk.injEq] at e; omega)⟩
theorem JA (n0:Nat) (l:List (Int × Int)) (a b:Int) (hl:l.length<4611686018427387904) (h:(a,b) ∉ l):∀k i n,i+k=l.length→k<n→bV (lG n0 l a b) n ((i:Nat):Int)=some (.inr ()):=by
 intro k
 induction k with
 | zero =>
  intro i n hi hk;obtain⟨n,rfl⟩:∃n',n=n'+1:=⟨n-1,by omega⟩
  refine bH ?_;simp only[lG];rw[aO (by omega)]
 | succ k ih =>
  intro i n hi hk;obtain⟨n,rfl⟩:∃n',n=n'+1:=⟨n-1,by omega⟩
  have a1:i<l.length:=by omega
  have e1:l[((i:Nat):Int).toNat]? = some l[i]:=by simp[a1]
  have hc:(decide (a=l[i].1) && decide (b=l[i].2))=false:=by
   cases hb:(decide (a=l[i].1) && decide (b=l[i].2)) with
   | false=>rfl
   | true =>
    simp only[Bool.and_eq_true,decide_eq_true_eq] at hb;exact absurd (by rw[hb.1,hb.2]; exact List.getElem_mem a1) h
  have hbody:lG n0 l a b (i:Int)=some (.inl ((i+1:Nat):Int)):=by
   simp only[lG,e1,aD a1,aS,ah,bt (show i<4611686018427387904 by omega),hc,dt]
   rw[aV (by omega)]
  rw[bm hbody];exact ih (i+1) n (by omega) (by omega)
theorem Nc (n:Nat) (l:List (Int × Int)) (a b:Int) (hl:l.length<4611686018427387904) (hn:l.length<n):LO n l a b=some (decide ((a,b) ∈ l)):=by
 by_cases h:(a,b) ∈ l
 ·rw[Kn n l a b hl hn h,decide_eq_true h]
 ·unfold LO ON;rw[show bV (lG n l a b) n 0=_ from JA n l a b hl h l.length 0 n (by omega) hn,ah,ah,decide_eq_false h]
  rfl
end
section
variable {M S : Nat} {es : List (Int × Int)}
end
end Go.Proofs.YtookeaakpiefjaaGreatDoor
end

section
namespace Go.Proofs.YtookeaakpiefjaaGreatDoor
open Go Go.Ab Go.Ab.W Go.Ab.T30
theorem F3 {M:Nat} (hM:M≤12):cA .u64 (bY .u64 1 ((M:Nat):Int).toNat) 1=2 ^ M-1:=by
 have h2:2 ^ M≤2 ^ 12:=Nat.pow_le_pow_right (by decide) hM
 have h0:0<2 ^ M:=Nat.pow_pos (by decide)
 rw[Int.toNat_natCast,kW (by omega),qt (by omega) (by omega)]
theorem OH (n a:Nat):Qe n a 0 0 0 0 0 0 0=some (if a=0 then 0 else 1):=by
 unfold Qe;rw[Lb,ah]
 dsimp only
 rw[dt]
 by_cases h:a=0
 ·subst h; rfl
 ·rw[decide_eq_false h,if_neg h]; rfl
section
variable {M : Nat} {es : List (Int × Int)} {x n : Nat}
theorem Mw (hO:Okay M es) (hx:x<2 ^ 64) (h0:x≠0) {k:Nat} (hin:eG es x (k:Int)=true) (hT:(bg es x).length≠0):hv (k:Int) (bg es x)≠0:=by
 obtain⟨hv1,hb1,hb2⟩:=eD hin;obtain⟨a,b,c1,c2,c3,c4,_⟩:=jr hO hv1;have hne:(fun x:Nat=>x) (eg es (k:Int)).1≠(fun x:Nat=>x) (eg es (k:Int)).2:=by rw[c2]; show a≠b; omega
 have hends:∀e ∈ eg es (k:Int)::Cv es x,e.1 ∈ dH x 64∧e.2 ∈ dH x 64:=fun e he=>by
  rcases List.mem_cons.1 he with rfl|he
  ·rw[c2] at hb1 hb2 ⊢;exact⟨cp.2 ⟨by omega,hb1⟩,cp.2 ⟨c4,hb2⟩⟩
  ·exact vk hO e he
 have h1:=(fj (ew x) hends).1;have h2:=(mc (ew x) hends).2 fun p hp q hq=>(gj hO hx h0 hT (cp.1 hp).2 (cp.1 hq).2).mono fun e he=>List.mem_cons_of_mem _ he;have h3:(dH x 64).length=rk x 64:=rfl;have h4:2≤rk x 64:=by
  rw[c2] at hb1 hb2;have:[a,b].length≤(dH x 64).length:=pf (by simp; omega) (fun e he=>by
   simp at he;rcases he with rfl|rfl
   ·exact cp.2 ⟨by omega,hb1⟩
   ·exact cp.2 ⟨c4,hb2⟩)
  exact this
 have hs:iI (fun x=>x) (eg es (k:Int)::Cv es x)=1+iI (bh (fun x=>x) (eg es (k:Int))) (Cv es x):=by
  simp only[iI];rw[if_neg hne]
 have hh:=B3 es (k:Int) (il es x 0 es.length) (rk x 64-2) (fun x=>x) (sU _ _ _ _) (vR hin) hne;rw[show rk x 64-2+1=rk x 64-1 by omega] at hh
 have hh':hv (k:Int) (bg es x)=(gw es (il es x 0 es.length) (rk x 64-2) (bh (fun x=>x) (eg es (k:Int)))).length:=hh;rw[hh'];intro e;exact qj es _ _ _ (by unfold Cv at h1 h2 hs; omega) (List.length_eq_zero_iff.1 e)
theorem N4 (hok:qU (M:Int) es=true) (hO:Okay M es) (hx:x<2 ^ 64) (h0:x≠0) {k a b:Nat} (he:es[k]? = some ((a:Int),(b:Int))) (hin:eG es x (k:Int)=true) (hT:(bg es x).length≠0) :
  GH es x ((a:Int),(b:Int))↔hv (k:Int) (bg es x)=(bg es x).length:=by
 have hk:=(List.getElem?_eq_some_iff.1 he).1;obtain⟨_,hb1,hb2⟩:=eD hin;have e2:eg es (k:Int)=(a,b):=by unfold eg; rw[Int.toNat_natCast,he]; rfl
 rw[e2] at hb1 hb2;have hok':=H4 hok he;rw[←List.eraseIdx_eq_take_drop_succ] at hok';have hO':Okay M (es.eraseIdx k):=by
  obtain⟨M',e,h⟩:=qR hok';have:M'=M:=by omega
  subst this; exact h
 have hl:=Hr hO hok he;rw[←List.eraseIdx_eq_take_drop_succ] at hl;rw[Ny hk,A5 hO hx h0 hO' hin hT,e2,←BN hl hb1];unfold GH;simp only[Int.toNat_natCast];exact⟨fun h=>h.2.2,fun h=>⟨hb1,hb2,h⟩⟩
theorem Ot (hok:qU (M:Int) es=true) (hO:Okay M es) (h0:x≠0) (hM:x<2 ^ M) (hr:rk x 64≤12) (hn:2 ^ 200<n) {x3:Nat} (hxe:uw .u64 (uw .u64 x3 &&& uw .u64 (cA .u64 (bY .u64 1 ((M:Nat):Int).toNat) 1))=x)
  {p:Int × Int→Bool} (hp:∀e ∈ es,p e=true↔GH es x e) :
  ∀j i m,i+j=es.length→j<m→bV (Ec n es x3 (M:Int) (decide ((bg es x).length≠0)) (es.filter p)) m (if (bg es x).length=0 then[] else tl (bg es x).length ((il es x 0 i).map fun k=>hv k (bg es x)),(i:Int)) =
   some (.inr (if (bg es x).length=0 then[] else tl (bg es x).length ((il es x 0 es.length).map fun k=>hv k (bg es x)))):=by
 have hbig:(2:Nat) ^ 200=1606938044258990275541962092341162602522202993782792835301376:=by decide
 have hx:=oH hM hO.le;have hl:=hO.len;have hT64:=qH (es:=es) (x:=x) hl (by omega)
 intro j
 induction j with
 | zero =>
  intro i m hi hm;obtain⟨m,rfl⟩:∃m',m=m'+1:=⟨m-1,by omega⟩
  have:i=es.length:=by omega
  subst this;refine bH ?_;unfold Ec
  dsimp only
  rw[aO (by omega)]
 | succ j ih =>
  intro i m hi hm;obtain⟨m,rfl⟩:∃m',m=m'+1:=⟨m-1,by omega⟩
  have hi':i<es.length:=by omega
  obtain⟨a,b,e0,e1,e2,e3,e4,e5⟩:=jr hO (k:=(i:Int)) ⟨by omega,by omega⟩
  rw[Int.toNat_natCast] at e0;have hskip:(gd (decide (0≤(a:Int))) (ob (some (bL .u64 x (a:Int).toNat)) fun y2=>br (decide (uw .u64 (uw .u64 y2 &&& uw .u64 1)=0)) (some true) (gd (decide (0≤(b:Int))) (ob (some (bL .u64 x (b:Int).toNat)) fun y3=>some (decide (uw .u64 (uw .u64 y3 &&& uw .u64 1)=0))))):Option Bool)=some (!(x.testBit a && x.testBit b)):=by
   rw[decide_eq_true (Int.natCast_nonneg a),decide_eq_true (Int.natCast_nonneg b),aS,aS,ah,ah,Int.toNat_natCast,Int.toNat_natCast,zU hx (by omega),zU hx (by omega)]
   cases x.testBit a<;>cases x.testBit b<;>rfl
  have hinn:eG es x (i:Int)=(x.testBit a && x.testBit b):=by
   unfold eG;rw[e1,decide_eq_true ⟨by omega,by omega⟩]; rfl
  have hsn:=Kp es x i;generalize hcur:(if (bg es x).length=0 then[] else tl (bg es x).length ((il es x 0 i).map fun k=>hv k (bg es x)):List Sh)=cur
  have hclen:cur.length≤200:=by
   rw[←hcur]
   split
   ·simp
   ·unfold tl;rw[List.length_map,List.length_map];unfold il;rw[List.length_map];have:=List.length_filter_le (fun(k:Nat)=>eG es x (k:Int)) (List.range' 0 i);rw[List.length_range'] at this;omega
  have st:Ec n es x3 (M:Int) (decide ((bg es x).length≠0)) (es.filter p) (cur,(i:Int))=some (.inl ((if (bg es x).length=0 then[] else tl (bg es x).length ((il es x 0 (i+1)).map fun k=>hv k (bg es x))),((i+1:Nat):Int))):=by
   unfold Ec
   dsimp only
   simp only[hxe];rw[aV (by omega),aD hi',aS,Int.toNat_natCast,e0,ah]
   dsimp only
   rw[hskip,ah,hsn];cases hb:(x.testBit a && x.testBit b) with
   | false =>
    rw[hb] at hinn;rw[Bool.not_false,dI,ah,if_neg (show ¬eG es x (i:Int)=true by rw[hinn]; decide),hcur]
    dsimp only
    rw[bt (by omega)]
   | true =>
    rw[hb] at hinn;rw[Bool.not_true,dt,if_pos hinn];have hh:=I7 (x:=x) (n:=n) hok hO h0 hM hr (by omega) hinn
    by_cases hT:(bg es x).length=0
    ·rw[hh.1 hT,ah]
     dsimp only
     rw[if_pos hT] at hcur ⊢;rw[decide_eq_false (show ¬(bg es x).length≠0 from fun h=>h hT),Bool.not_false,dI,show(!decide ((7:Int)=7))=false from rfl,dt,ah]
     dsimp only
     rw[bt (by omega),hcur]
    ·rw[hh.2 hT,ah]
     dsimp only
     rw[if_neg hT] at hcur ⊢;have hle:=LG (i:Int) (bg es x);have hpos:=Mw hO hx h0 hinn hT;have hss:=O5 (n:=n) (by omega) hT hT64 hle
     unfold fq at hss
     dsimp only at hss
     rw[decide_eq_true (show(bg es x).length≠0 from hT),Bool.not_true,dt,hss,ah,if_neg hpos]
     dsimp only
     rw[show(!decide ((0:Int)=0))=false from rfl,dt,dt,show(!decide ((1:Int)=1))=false from rfl,dt]
     have hof:NA n 1 1=some (1,0,0,0,0,0,0,0,1,0,0,0,0,0,0,0,0):=yO (n:=n) (by omega) (m:=1) (by decide)
     rw[hof,ah,ah]
     dsimp only
     have hct:LO n (es.filter p) (a:Int) (b:Int)=some (p ((a:Int),(b:Int))):=by
      have hfl:(es.filter p).length≤es.length:=List.length_filter_le _ _;rw[Nc n _ _ _ (by omega) (by omega)]
      congr 1
      rw[Bool.eq_iff_iff,decide_eq_true_eq,List.mem_filter];exact⟨fun h=>h.2,fun h=>⟨List.mem_of_getElem? e0,h⟩⟩
     have hbr:=N4 hok hO hx h0 e0 hinn hT;obtain⟨l3,l4,l5,l1,l2⟩:=tR (h:=hv (i:Int) (bg es x)) hT;have heq:(decide ((fq (bg es x).length (hv (i:Int) (bg es x))).1=1) && decide ((fq (bg es x).length (hv (i:Int) (bg es x))).2=1))=p ((a:Int),(b:Int)):=by
      rw[Bool.eq_iff_iff,hp _ (List.mem_of_getElem? e0),hbr,Bool.and_eq_true,decide_eq_true_eq,decide_eq_true_eq];constructor
      ·rintro⟨g0,g1⟩;rw[g0,g1,Nat.one_mul,Nat.mul_one] at l2;exact l2.symm
      ·intro g;rw[g] at l1 l2 ⊢;have g0:(fq (bg es x).length (bg es x).length).1=(fq (bg es x).length (bg es x).length).2:=Nat.eq_of_mul_eq_mul_right (Nat.pos_of_ne_zero hT) (by rw[l2,Nat.mul_comm])
       rw[g0,Nat.gcd_self] at l1;exact⟨by rw[g0]; exact l1,l1⟩
     unfold fq at heq
     dsimp only at heq
     have hall:(br (decide (hv (i:Int) (bg es x)/Nat.gcd (hv (i:Int) (bg es x)) (bg es x).length=1) && decide ((0:Nat)=0) && decide ((0:Nat)=0) && decide ((0:Nat)=0) && decide ((0:Nat)=0) && decide ((0:Nat)=0) && decide ((0:Nat)=0) && decide ((0:Nat)=0) && decide ((bg es x).length/Nat.gcd (hv (i:Int) (bg es x)) (bg es x).length=1) && decide ((0:Nat)=0) && decide ((0:Nat)=0) && decide ((0:Nat)=0) && decide ((0:Nat)=0) && decide ((0:Nat)=0) && decide ((0:Nat)=0) && decide ((0:Nat)=0)) (some (decide ((0:Int)=0))) (some false):Option Bool)=some (p ((a:Int),(b:Int))):=by
      rw[←heq];simp only[decide_true,Bool.and_true];cases decide (hv (i:Int) (bg es x)/Nat.gcd (hv (i:Int) (bg es x)) (bg es x).length=1)<;>cases decide ((bg es x).length/Nat.gcd (hv (i:Int) (bg es x)) (bg es x).length=1)<;>rfl
     rw[hall,ah,hct,ah,beq_self_eq_true,Bool.not_true,ah,dt,fR (by rw[List.length_append,List.length_singleton]; omega),aS,ah]
     dsimp only
     rw[bt (by omega),←hcur,List.map_append,List.map_singleton]
     unfold tl;rw[List.map_append,List.map_singleton]
     rfl
  rw[bm st];exact ih (i+1) m (by omega) (by omega)
theorem JY (n x1 x2 x3:Nat) (l4:List (Nat × Nat)) (x8:Nat) (h8:x8<2 ^ 64) (hn:2 ^ 200<n):F7 n x1 x2 x3 l4 x8=some true:=by
 have hbig:(2:Nat) ^ 200=1606938044258990275541962092341162602522202993782792835301376:=by decide
 obtain⟨N,es,g1,hok,hN⟩:=Nu n x1 x2 x3 l4 (by omega)
 obtain⟨M,rfl,hO⟩:=qR hok;have hM12:M≤12:=by omega
 have hM1:1≤M:=by
  simp only[qU,Bool.and_eq_true,decide_eq_true_eq] at hok;have:=hok.1.1; omega
 have h2:2 ^ M≤2 ^ 12:=Nat.pow_le_pow_right (by decide) hM12
 have h21:2 ^ 1≤2 ^ M:=Nat.pow_le_pow_right (by decide) hM1
 have hl:=hO.len;have hxe:uw .u64 (uw .u64 x8 &&& uw .u64 (cA .u64 (bY .u64 1 ((M:Nat):Int).toNat) 1))=x8 &&& (2 ^ M-1):=by
  rw[F3 hM12,ik h8 (by omega)]
 have hxM:x8 &&& (2 ^ M-1)<2 ^ M:=by
  have:=Nat.and_le_right (n:=x8) (m:=2 ^ M-1);omega
 generalize x8 &&& (2 ^ M-1)=x at hxe hxM;have hx:=oH hxM hO.le;have hrk:rk x 64≤12:=by
  have hsub:∀v ∈ dH x 64,v ∈ List.range 12:=fun v hv=>List.mem_range.2 (by have:=pD hxM (cp.1 hv).2; omega)
  have:=pf (ew x) hsub;rw[List.length_range] at this;exact this
 unfold F7;rw[show F8 n=some true from rfl,ah,Bool.not_true,dt,g1,ah]
 dsimp only
 rw[decide_eq_true (show(0:Int)≤(M:Int) by omega),aS]
 simp only[hxe]
 by_cases h0:x=0
 ·subst h0;have hc:LJ n (M:Int) es 0=some (0,0,0,0,0,0,0,0,2):=by
   unfold LJ;rw[AK n (M:Int) es 0 (by decide) (by omega) (by omega) (by omega),ah]
   have:Om (M:Int) es 0=2:=by unfold Om; rw[if_pos hok,if_pos (.inl rfl)]
   rw[this]; rfl
  rw[aV rfl,ah,hc,ah]; rfl
 ·rw[aO h0];have hc:=Jg (x:=x) (n:=n) hok hO h0 hxM hrk (by omega)
  obtain⟨L,l1,l2,_⟩:=ND n M es x hO hxM (by omega)
  have hck:Oo (M:Int) es x=0:=by unfold Oo; rw[if_pos hok,Int.toNat_natCast,if_neg (by omega)]
  have h38:Qb n (M:Int) es x=some (decide ((bg es x).length≠0),0):=by
   unfold Qb;rw[Ig n (M:Int) es x hx (by omega) (by omega) (by omega),ah,hck,decide_eq_true rfl,Bool.not_true,dt,l1,ah]
   have:decide ((L.length:Int)=1)=decide ((bg es x).length≠0):=by
    rw[decide_eq_decide,←ET hO hx h0 l2]; omega
   rw[this]
  have hbrg:=LY n hO hok hxM (by omega)
  obtain⟨p,p1,p2⟩:=hbrg;have hT64:=qH (es:=es) (x:=x) hl (by omega)
  have hlp:=Ot hok hO h0 hxM hrk hn hxe p2 es.length 0 n (by omega) (by omega)
  rw[h38,ah]
  dsimp only
  rw[hc,ah]
  dsimp only
  rw[decide_eq_true (rfl:(0:Int)=0),Bool.not_true,dt,dt,OH,ah];have hsg:(decide ((bg es x).length≠0) == decide ((if (bg es x).length=0 then(0:Int) else 1)=1))=true:=by
   by_cases hT:(bg es x).length=0
   ·rw[if_pos hT]; simp[hT]
   ·rw[if_neg hT]; simp[hT]
  rw[hsg,Bool.not_true,ah,dt,p1,ah]
  dsimp only
  have hstart:(if (bg es x).length=0 then[] else tl (bg es x).length ((il es x 0 0).map fun k=>hv k (bg es x)):List Sh) = []:=by
   split
   ·rfl
   ·rfl
  rw[hstart] at hlp;rw[show((0:Nat):Int)=0 from rfl] at hlp
  rw[hlp,ah]
  dsimp only
  by_cases hT:(bg es x).length=0
  ·rw[decide_eq_false (show ¬(bg es x).length≠0 from fun h=>h hT)]; rfl
  ·rw[decide_eq_true (show(bg es x).length≠0 from hT),if_neg hT]
   rw[show decide ((0:Int)=0)=true from rfl,dI,Bool.not_true,dt,Nm n x hx,ah]
   have hr1:=CZ hx h0;have hwr:IntKind.wrap .i64 (((rk x 64:Nat):Int)-1)=((rk x 64-1:Nat):Int):=by rw[aK (by omega) (by omega)]; omega
   have hof:=yO (n:=n) (by omega) (m:=rk x 64-1) (by omega)
   rw[hwr,hof,ah,ah]
   dsimp only
   have hsum:=Mg (n:=n) hn hT hT64 (l:=(il es x 0 es.length).map fun k=>hv k (bg es x)) (m:=rk x 64-1) (fun h hh=>by
    obtain⟨k,_,rfl⟩:=List.mem_map.1 hh;exact LG k _) (by
    rw[List.length_map];have:=Dx es x;omega) (Mq es x) (by omega)
   rw[hsum,ah]
   dsimp only
   simp only[decide_true,Bool.and_true,dI,ah]
end
end Go.Proofs.YtookeaakpiefjaaGreatDoor
end
