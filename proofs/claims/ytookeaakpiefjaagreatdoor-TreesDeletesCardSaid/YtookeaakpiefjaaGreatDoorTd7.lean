/- A part of the proof. -/
import Derived.Test.YtookeaakpiefjaaGreatDoorTd6
import Derived.Lib.Mul64
section
namespace Go.Proofs.YtookeaakpiefjaaGreatDoor
open Go Go.Ab Go.Ab.W
theorem Hf {n:Nat} {l k:List Nat} (hl:Wd l) (hk:Wd k) (ll:∀d,l.getLast? = some d→d≠0) (lk:∀d,k.getLast? = some d→d≠0) (hb:l.length<1073741824) (hb':k.length<1073741824) (hn:l.length<n) :
  ∃r:Int,B5 n l k=some r∧(r<0↔vl l<vl k)∧(0<r↔vl k<vl l):=by
 have big:∀a b:List Nat,Wd a→(∀d,b.getLast? = some d→d≠0)→a.length<b.length→vl a<vl b:=by
  intro a b ha hb h;have h1:=sD ha;have h2:=ue hb (by intro e; rw[e] at h; exact Nat.not_lt_zero _ h)
  have h3:wp a.length≤wp (b.length-1):=Nat.pow_le_pow_right (by decide) (by omega)
  omega
 unfold B5
 by_cases h:l.length=k.length
 ·rw[decide_eq_true (show(l.length:Int)=(k.length:Int) by omega),Bool.not_true,dX]
  have hL:∀i m,i≤l.length→i<m→vl (l.drop i)=vl (k.drop i)→∃r,bX (kA n l k) m ((i:Int)-1)=some r ∧
    ((r = .inl (-1)∧vl l<vl k)∨(r = .inl 1∧vl k<vl l)∨(r = .inr ()∧vl l=vl k)):=by
   intro i
   induction i with
   | zero =>
    intro m _ hm h0;obtain⟨m,rfl⟩:∃m',m=m'+1:=⟨m-1,by omega⟩
    refine⟨.inr (),bu ?_,.inr (.inr ⟨rfl,by simpa using h0⟩)⟩
    unfold kA;rw[bt (by decide)]
   | succ i ih =>
    intro m hi hm h0;obtain⟨m,rfl⟩:∃m',m=m'+1:=⟨m-1,by omega⟩
    obtain⟨x,e2⟩:∃x,l[i]? = some x:=⟨l[i],by simp⟩
    obtain⟨y,e3⟩:∃y,k[i]? = some y:=⟨k[i],by simp⟩
    have a1:=k9 e2;have a2:=k9 e3;have a3:=eY l i (by omega)
    have a4:=eY k i (by omega)
    have t1:=sD (hl.take i);have t2:=sD (hk.take i);rw[List.length_take,Nat.min_eq_left (by omega)] at t1 t2
    have e0:((i+1:Nat):Int)-1=((i:Nat):Int):=by omega
    rw[e0];rcases Nat.lt_trichotomy x y with hxy|hxy|hxy
    ·refine⟨.inl (-1),bu ?_,.inl ⟨rfl,?_⟩⟩
     ·unfold kA;rw[bC (by omega),aG (by omega),aW,Int.toNat_natCast,e2,ai,aG (by omega),aW,e3,ai,bC hxy]
     ·have:wp i*(vl (l.drop i)+1)≤wp i*vl (k.drop i):=Nat.mul_le_mul_left _ (by omega)
      rw[Nat.mul_add] at this;omega
    ·have st:kA n l k ((i:Nat):Int)=some (.inl (((i:Nat):Int)-1)):=by
      unfold kA;rw[bC (by omega),aG (by omega),aW,Int.toNat_natCast,e2,ai,aG (by omega),aW,e3,ai,bt (by omega),aW,aW,bt (by omega),bz (by omega) (by omega)]
     rw[az st];exact ih m (by omega) (by omega) (by omega)
    ·refine⟨.inl 1,bu ?_,.inr (.inl ⟨rfl,?_⟩)⟩
     ·unfold kA;rw[bC (by omega),aG (by omega),aW,Int.toNat_natCast,e2,ai,aG (by omega),aW,e3,ai,bt (by omega),aW,aW,bC hxy]
     ·have:wp i*(vl (k.drop i)+1)≤wp i*vl (l.drop i):=Nat.mul_le_mul_left _ (by omega)
      rw[Nat.mul_add] at this;omega
  obtain⟨r,h1,h2⟩:=hL l.length n (Nat.le_refl _) hn (by rw[List.drop_length,h,List.drop_length])
  rw[bz (by omega) (by omega),h1,ai]
  rcases h2 with⟨rfl,h2⟩|⟨rfl,h2⟩|⟨rfl,h2⟩
  ·exact⟨-1,rfl,by omega,by omega⟩
  ·exact⟨1,rfl,by omega,by omega⟩
  ·exact⟨0,rfl,by omega,by omega⟩
 ·rw[decide_eq_false (show ¬(l.length:Int)=(k.length:Int) by omega),Bool.not_false,dJ]
  refine⟨_,rfl,?_,?_⟩<;>rw[bz (by omega) (by omega)]
  ·refine⟨fun h1=>big l k hl lk (by omega),fun h1=>?_⟩
   by_cases h2:l.length<k.length
   ·omega
   ·have:=big k l hk ll (by omega); omega
  ·refine⟨fun h1=>big k l hk ll (by omega),fun h1=>?_⟩
   by_cases h2:k.length<l.length
   ·omega
   ·have:=big l k hl lk (by omega); omega
theorem AG {n:Nat} {l k:List Nat} (hl:Wd l) (hk:Wd k) (hle:vl k≤vl l) (hlk:k.length≤l.length) (hb:l.length<1073741824) (hn:l.length<n) :
  ∃r,CO n l k=some r∧Wd r∧vl r=vl l-vl k∧r.length=l.length:=by
 have hL:∀j i m p c,i+j=l.length→j<m→p.length=i→Wd p→c≤1→vl p+wp i*vl (l.drop i)+vl k=vl l+wp i*(c+vl (k.drop i)) →
   ∃q c',bX (nQ n l k) m (p++List.replicate j 0,c,((i:Nat):Int))=some q∧q.length=l.length∧Wd q∧c'≤1∧vl q+vl k=vl l+wp l.length*c':=by
  intro j
  induction j with
  | zero =>
   intro i m p c hij hm hp wp' hc hv;obtain⟨m,rfl⟩:∃m',m=m'+1:=⟨m-1,by omega⟩
   have hi:i=l.length:=by omega
   refine⟨p,c,bu ?_,by omega,wp',hc,?_⟩
   ·unfold nQ
    dsimp only
    rw[bt (by omega),List.replicate_zero,List.append_nil]
   ·subst hi;rw[List.drop_length,List.drop_eq_nil_of_le (by omega),kv] at hv
    simpa using hv
  | succ j ih =>
   intro i m p c hij hm hp wp' hc hv;obtain⟨m,rfl⟩:∃m',m=m'+1:=⟨m-1,by omega⟩
   have hi:i<l.length:=by omega
   obtain⟨x,e2⟩:∃x,l[i]? = some x:=⟨l[i],by simp[hi]⟩
   have hx:=hl.at e2;obtain⟨y,y1,y2,y3⟩:=sG k i;have y2:=y2 hk;have e3:(p++List.replicate (j+1) 0)[((i:Nat):Int).toNat]? = some 0:=by
    rw[Int.toNat_natCast,List.getElem?_append_right (by omega),List.getElem?_replicate]; simp; omega
   have st:nQ n l k (p++List.replicate (j+1) 0,c,((i:Nat):Int))=some (.inl ((p++[(x+18446744073709551616-y-c)%18446744073709551616])++List.replicate j 0,if x<y+c then 1 else 0,((i+1:Nat):Int))):=by
    unfold nQ
    dsimp only
    rw[bC (by omega),aG hi,aW,Int.toNat_natCast,e2,ai]
    rw[Int.toNat_natCast] at y3 e3;rw[y3,ai];unfold HH;rw[cK hc,ai]
    dsimp only
    rw[Int.toNat_natCast,aG hi,aW,e3,ai,bY (by omega),←hp,List.replicate_succ,wX]
   rw[az st];refine ih (i+1) m _ _ (by omega) (by omega) (by rw[List.length_append,hp]; rfl) (wp'.app (Wd.one (Nat.mod_lt _ (by decide)))) (by split<;>omega) ?_
   rw[k9 e2,y1] at hv;rw[pc,hp,gY];have h2:(x+18446744073709551616-y-c)%18446744073709551616+y+c=x+18446744073709551616*(if x<y+c then 1 else 0):=by split<;>omega
   generalize (x+18446744073709551616-y-c)%18446744073709551616=lo at h2 ⊢;generalize (if x<y+c then 1 else 0)=hi' at h2 ⊢
   generalize vl (l.drop (i+1))=A at hv ⊢;generalize vl (k.drop (i+1))=D at hv ⊢;have h3:wp i*(lo+y+c)=wp i*(x+18446744073709551616*hi'):=by rw[h2]
   simp only[Nat.mul_add,Nat.mul_left_comm (wp i) 18446744073709551616,Nat.mul_assoc] at hv h3 ⊢;omega
 obtain⟨q,c',h1,h2,h3,h4,h5⟩:=hL l.length 0 n [] 0 (by omega) hn rfl Wd.nil (by omega) (by simp[vl,wp])
 refine⟨q,?_,h3,?_,h2⟩
 ·unfold CO;rw[cK (by omega),Int.toNat_natCast,gD (by omega),aW]
  rw[show(List.replicate l.length (0:Nat),(0:Nat),(0:Int))=(([]:List Nat)++List.replicate l.length 0,0,((0:Nat):Int)) from rfl,h1,ai]
 ·have h6:=sD h3;rw[h2] at h6;have:c'=0:=by
   rcases Nat.le_one_iff_eq_zero_or_eq_one.1 h4 with e|e
   ·exact e
   ·rw[e] at h5; omega
  rw[this] at h5;omega
theorem vK (s:Bool):wQ s 0=0:=by cases s<;>rfl
theorem Bc {n:Nat} {a b:Int} {s t:Bool} {l k:List Nat} (h:Lg a s l) (h':Lg b t k) (hb:l.length<1000000) (hb':k.length<1000000) (hn:l.length+k.length+1<n) :
  ∃u m,o6 n s l t k=some (u,m)∧Lg (a+b) u m:=by
 have av:=h.val;have bv:=h'.val;unfold o6
 by_cases e:s=t
 ·subst e;rw[beq_self_eq_true,dJ];obtain⟨r,r1,r2,r3,r4⟩:=HU (n:=n) h.wd h'.wd (by omega) (by omega) (by omega) (by omega)
  obtain⟨u,m,m1,m2⟩:=iq (n:=n) s r2 (by omega) (by omega)
  refine⟨u,m,by rw[r1,ai,m1]; rfl,?_⟩
  have:a+b=wQ s (vl r):=by rw[av,bv,r3]; unfold wQ; cases s<;>simp<;>omega
  rw[this]; exact m2
 ·have:(s == t)=false:=by cases s<;>cases t<;>simp_all
  rw[this,dX];obtain⟨r,r1,r2,r3⟩:=Hf (n:=n) h.wd h'.wd h.last h'.last (by omega) (by omega) (by omega)
  have ht:t = !s:=by cases s<;>cases t<;>simp_all
  have longer:∀p q:List Nat,Wd p→Wd q→(∀d,p.getLast? = some d→d≠0)→(∀d,q.getLast? = some d→d≠0)→vl p≤vl q→p.length≤q.length:=by
   intro p q wp1 wq1 lp lq hle;refine Nat.le_of_not_lt fun hlt=>?_;have h1:=sD wq1;have h2:=ue lp (by intro e; rw[e] at hlt; exact Nat.not_lt_zero _ hlt)
   have h3:wp q.length≤wp (p.length-1):=Nat.pow_le_pow_right (by decide) (by omega)
   omega
  rw[r1,ai]
  by_cases hr:r<0
  ·have hv:=r2.1 hr;obtain⟨m,m1,m2,m3,m4⟩:=AG (n:=n) h'.wd h.wd (Nat.le_of_lt hv) (longer _ _ h.wd h'.wd h.last h'.last (Nat.le_of_lt hv)) (by omega) (by omega)
   obtain⟨u,m',u1,u2⟩:=iq (n:=n) t m2 (by omega) (by omega)
   refine⟨u,m',by rw[bC hr,ai]; dsimp only; rw[m1,ai,u1]; rfl,?_⟩
   have:a+b=wQ t (vl m):=by rw[av,bv,m3,ht]; unfold wQ; cases s<;>simp<;>omega
   rw[this]; exact u2
  ·have hv:vl k≤vl l:=Nat.le_of_not_lt fun h=>hr (r2.2 h);obtain⟨m,m1,m2,m3,m4⟩:=AG (n:=n) h.wd h'.wd hv (longer _ _ h'.wd h.wd h'.last h.last hv) (by omega) (by omega)
   obtain⟨u,m',u1,u2⟩:=iq (n:=n) s m2 (by omega) (by omega)
   refine⟨u,m',by rw[bt hr,ai]; dsimp only; rw[m1,ai,u1]; rfl,?_⟩
   have:a+b=wQ s (vl m):=by rw[av,bv,m3,ht]; unfold wQ; cases s<;>simp<;>omega
   rw[this]; exact u2
theorem G9 {n:Nat} {a:Int} {s:Bool} {l:List Nat} (h:Lg a s l) (hb:l.length<1000000) (hn:l.length<n):∃u m,yi n s l=some (u,m)∧Lg (-a) u m:=by
 obtain⟨u,m,m1,m2⟩:=iq (n:=n) (!s) h.wd (by omega) hn
 refine⟨u,m,by unfold yi; rw[m1]; rfl,?_⟩
 have : -a=wQ (!s) (vl l):=by rw[h.val]; unfold wQ; cases s<;>simp
 rw[this]; exact m2
theorem Lg.len {a:Int} {s:Bool} {l:List Nat} (h:Lg a s l) {k:Nat} (hk:a.natAbs<wp k):l.length≤k:=by
 refine Nat.le_of_not_lt fun hlt=>?_;have h2:=ue h.last (by intro e; rw[e] at hlt; exact Nat.not_lt_zero _ hlt)
 have h3:wp k≤wp (l.length-1):=Nat.pow_le_pow_right (by decide) (by omega)
 have:=h.abs;omega
theorem Lg.up {a:Int} {s:Bool} {l:List Nat} (h:Lg a s l):a.natAbs<wp l.length:=by
 rw[←h.abs]; exact sD h.wd
theorem KR {n:Nat} {a b:Int} {s t:Bool} {l k:List Nat} (h:Lg a s l) (h':Lg b t k) (hb:l.length<1000000) (hb':k.length<1000000) (hn:l.length+k.length+1<n) :
  ∃u m,MC n s l t k=some (u,m)∧Lg (a-b) u m:=by
 obtain⟨u,m,m1,m2⟩:=G9 (n:=n) h' hb' (by omega)
 have hm:m.length≤k.length:=m2.len (by rw[Int.natAbs_neg]; exact h'.up)
 obtain⟨v,q,q1,q2⟩:=Bc (n:=n) h m2 hb (by omega) (by omega)
 exact⟨v,q,by unfold MC; rw[m1,ai]; dsimp only; rw[q1]; rfl,q2⟩
theorem Da {n:Nat} {a:Int} {s:Bool} {l:List Nat} (h:Lg a s l):∃r,Lc n s l=some r∧(r<0↔a<0)∧(r=0↔a=0):=by
 have h1:=h.BS;have h2:=h.NT;unfold Lc;cases s with
 | true =>
  have:=of_decide_eq_true h1.symm;exact⟨-1,rfl,by omega,by omega⟩
 | false =>
  have:=of_decide_eq_false h1.symm;rw[dX]
  by_cases hl:l = []
  ·subst hl;have:=h2.1 rfl;exact⟨0,rfl,by omega,by omega⟩
  ·have:¬a=0:=fun e=>hl (h2.2 e);have:¬(l.length:Int)=0:=fun e=>hl (List.eq_nil_of_length_eq_zero (by omega))
   rw[bt this];exact⟨1,rfl,by omega,by omega⟩
theorem vJ {a:Nat} (ha:a<18446744073709551616):uw .u64 (uw .u64 a &&& uw .u64 4294967295)=a%4294967296:=by
 rw[j9 ha (by decide)]
 exact Nat.and_two_pow_sub_one_eq_mod a 32
theorem Ep (a:Nat):cO .u64 a 32=a/4294967296:=rfl
theorem oW {a:Nat} (h:a<18446744073709551616):uw .u64 a=a:=Nat.mod_eq_of_lt h
theorem Bz (n:Nat) {x y:Nat} (hx:x<18446744073709551616) (hy:y<18446744073709551616):xM n x y=some (x*y/18446744073709551616,x*y%18446744073709551616):=by
 obtain⟨b1,b2,b3,hhi⟩:=Lib.mul64_hi x y hx hy;have ba:=Lib.half_mul_le (a:=x/4294967296) (b:=y/4294967296) (by omega) (by omega)
 have bb:=Lib.half_mul_le (a:=x/4294967296) (b:=y%4294967296) (by omega) (by omega)
 have bc:=Lib.half_mul_le (a:=x%4294967296) (b:=y/4294967296) (by omega) (by omega)
 unfold xM;simp only[vJ hx,vJ hy,Ep,ai];rw[oW b1,oW (a:=x/4294967296*(y%4294967296)) (by omega)]
 rw[oW b2,vJ b2,oW (a:=x%4294967296*(y/4294967296)) (by omega),oW b3,oW (a:=x/4294967296*(y/4294967296)) (by omega)]
 rw[oW (a:=x/4294967296*(y/4294967296)+_) (by omega),oW (by omega),hhi]
 rfl
theorem Hn {n:Nat} {k:List Nat} (hk:Wd k) {x i N:Nat} (hx:x<18446744073709551616) (hN:i+k.length<N) (hNb:N<4611686018427387904) {b:List Nat} (hb:Wd b) (hbN:b.length=N) :
  ∀r j m cur c,j+r=k.length→r<m→Wd cur→cur.length=N→c<18446744073709551616→(∀p,i+k.length≤p→cur[p]? = b[p]?) →
   vl cur+wp (i+j)*c+wp (i+j)*(x*vl (k.drop j))=vl b+wp i*(x*vl k) →
   ∃q c',bX (nO n k x (i:Int) N) m (cur,c,((j:Nat):Int))=some (q,c')∧Wd q∧q.length=N∧c'<18446744073709551616∧(∀p,i+k.length≤p→q[p]? = b[p]?)∧vl q+wp (i+k.length)*c'=vl b+wp i*(x*vl k):=by
 intro r
 induction r with
 | zero =>
  intro j m cur c hj hm hw hl hc hp hv;obtain⟨m,rfl⟩:∃m',m=m'+1:=⟨m-1,by omega⟩
  have hj':j=k.length:=by omega
  refine⟨cur,c,bu ?_,hw,hl,hc,hp,?_⟩
  ·unfold nO
   dsimp only
   rw[bt (by omega)]
  ·rw[←hv,hj',List.drop_length,kv]; omega
 | succ r ih =>
  intro j m cur c hj hm hw hl hc hp hv;obtain⟨m,rfl⟩:∃m',m=m'+1:=⟨m-1,by omega⟩
  have hi:j<k.length:=by omega
  obtain⟨y,e2⟩:∃y,k[j]? = some y:=⟨k[j],by simp[hi]⟩
  have hy:=hk.at e2;obtain⟨d,e3⟩:∃d,cur[i+j]? = some d:=⟨cur[i+j]'(by omega),by simp⟩
  have hd:=hw.at e3;have hxy:x*y≤18446744073709551615*18446744073709551615:=Nat.mul_le_mul (by omega) (by omega)
  have w1:IntKind.wrap .i64 ((i:Int)+((j:Nat):Int))=((i+j:Nat):Int):=by rw[bz (by omega) (by omega)]; omega
  have st:nO n k x (i:Int) N (cur,c,((j:Nat):Int))=some (.inl (cur.set (i+j) ((x*y+d+c)%18446744073709551616),(x*y+d+c)/18446744073709551616,((j+1:Nat):Int))):=by
   unfold nO
   dsimp only
   rw[bC (by omega),aG hi,aW,Int.toNat_natCast,e2,ai,Bz n hx hy,ai]
   dsimp only
   rw[w1,aG (by omega),aW,Int.toNat_natCast,e3,ai]
   unfold mN;rw[cK (by omega),ai]
   dsimp only
   rw[cK (by omega),ai]
   dsimp only
   rw[aW,bY (by omega),oW (a:=x*y/18446744073709551616+_) (by omega),oW (by omega)]
   congr 3
   ·congr 1; omega
   ·congr 1; omega
  rw[az st];refine ih (j+1) m _ _ (by omega) (by omega) (hw.set (Nat.mod_lt _ (by decide))) (by rw[List.length_set]; exact hl) (by omega) (fun p hp'=>by rw[List.getElem?_set_ne (by omega)]; exact hp p hp') ?_
  rw[k9 e2] at hv;have hs:=EL ((x*y+d+c)%18446744073709551616) e3;rw[←hv,←Nat.add_assoc i j 1,gY];have h2:(x*y+d+c)%18446744073709551616+18446744073709551616*((x*y+d+c)/18446744073709551616)=x*y+d+c:=Nat.mod_add_div _ _;generalize (x*y+d+c)%18446744073709551616=lo at h2 hs ⊢;generalize (x*y+d+c)/18446744073709551616=hi' at h2 ⊢;generalize vl (k.drop (j+1))=A at hv ⊢;generalize vl (cur.set (i+j) lo)=Z at hs ⊢;have h3:wp (i+j)*(lo+18446744073709551616*hi')=wp (i+j)*(x*y+d+c):=by rw[h2]
  simp only[Nat.mul_add,Nat.mul_left_comm (wp (i+j)) 18446744073709551616,Nat.mul_left_comm x 18446744073709551616,Nat.mul_assoc] at hs h3 ⊢;omega
theorem GF {n:Nat} {l k:List Nat} (hl:Wd l) (hk:Wd k) (hb:l.length<500000000) (hb':k.length<500000000) (hn:l.length<n) (hn':k.length<n) :
  ∃r,DN n l k=some r∧Wd r∧vl r=vl l*vl k∧r.length=l.length+k.length:=by
 have hL:∀r i m b,i+r=l.length→r<m→Wd b→b.length=l.length+k.length→(∀p,i+k.length≤p→p<l.length+k.length→b[p]? = some 0) →
   vl b+wp i*(vl (l.drop i)*vl k)=vl l*vl k →
   ∃q,bX (nY n l k) m (b,l.length+k.length,((i:Nat):Int))=some (q,l.length+k.length)∧Wd q∧q.length=l.length+k.length∧vl q=vl l*vl k:=by
  intro r
  induction r with
  | zero =>
   intro i m b hi hm hw hlen _ hv;obtain⟨m,rfl⟩:∃m',m=m'+1:=⟨m-1,by omega⟩
   have hi':i=l.length:=by omega
   refine⟨b,bu ?_,hw,hlen,?_⟩
   ·unfold nY
    dsimp only
    rw[bt (by omega)]
   ·rw[←hv,hi',List.drop_length,kv]; simp
  | succ r ih =>
   intro i m b hi hm hw hlen hz hv;obtain⟨m,rfl⟩:∃m',m=m'+1:=⟨m-1,by omega⟩
   have hi':i<l.length:=by omega
   obtain⟨x,e2⟩:∃x,l[i]? = some x:=⟨l[i],by simp⟩
   have hx:=hl.at e2;obtain⟨q,c,q1,q2,q3,q4,q5,q6⟩:=Hn (n:=n) (i:=i) hk hx (N:=l.length+k.length) (by omega) (by omega) hw hlen k.length 0 n b 0 (by omega) hn' hw hlen (by decide) (fun _ _=>rfl) (by simp)
   have e3:q[i+k.length]? = some 0:=by rw[q5 _ (Nat.le_refl _)]; exact hz _ (Nat.le_refl _) (by omega)
   have w1:IntKind.wrap .i64 ((i:Int)+(k.length:Int))=((i+k.length:Nat):Int):=by rw[bz (by omega) (by omega)]; omega
   have st:nY n l k (b,l.length+k.length,((i:Nat):Int))=some (.inl (q.set (i+k.length) c,l.length+k.length,((i+1:Nat):Int))):=by
    unfold nY
    dsimp only
    rw[bC (by omega),aG hi',aW,Int.toNat_natCast,e2,ai]
    rw[show((0:Int))=((0:Nat):Int) from rfl,q1,ai]
    dsimp only
    rw[w1,aG (by omega),aW,Int.toNat_natCast,e3,ai,bY (by omega)]
   rw[az st];refine ih (i+1) m _ (by omega) (by omega) (q2.set q4) (by rw[List.length_set]; exact q3) (fun p h1 h2=>by rw[List.getElem?_set_ne (by omega),q5 p (by omega)]; exact hz p (by omega) h2) ?_
   have hs:=EL c e3;rw[k9 e2] at hv;rw[←hv,gY];generalize vl (q.set (i+k.length) c)=Z at hs ⊢;generalize vl (l.drop (i+1))=A at hv ⊢;have h4:wp i*((x+18446744073709551616*A)*vl k)=wp i*(x*vl k)+18446744073709551616*wp i*(A*vl k):=by
    simp only[Nat.add_mul,Nat.mul_add,Nat.mul_assoc,Nat.mul_left_comm (wp i) 18446744073709551616]
   rw[h4];omega
 unfold DN;have w1:IntKind.wrap .i64 ((l.length:Int)+(k.length:Int))=((l.length+k.length:Nat):Int):=by rw[bz (by omega) (by omega)]; omega
 obtain⟨q,q1,q2,q3,q4⟩:=hL l.length 0 n (List.replicate (l.length+k.length) 0) (by omega) hn (Wd.zeros _) (by simp) (fun p _ h2=>by rw[List.getElem?_replicate]; simp[h2]) (by rw[Ek,He]; simp)
 refine⟨q,?_,q2,q4,q3⟩;rw[w1,cK (by omega),Int.toNat_natCast,gD (by omega),aW]
 rw[show((0:Int))=((0:Nat):Int) from rfl,q1]
 rfl
theorem AJ {n:Nat} {a b:Int} {s t:Bool} {l k:List Nat} (h:Lg a s l) (h':Lg b t k) (hb:l.length<1000000) (hb':k.length<1000000) (hn:l.length+k.length<n) :
  ∃u m,B2 n s l t k=some (u,m)∧Lg (a*b) u m:=by
 obtain⟨r,r1,r2,r3,r4⟩:=GF (n:=n) h.wd h'.wd (by omega) (by omega) (by omega) (by omega)
 obtain⟨u,m,m1,m2⟩:=iq (n:=n) (!(s == t)) r2 (by omega) (by omega)
 refine⟨u,m,by unfold B2; rw[r1,ai,m1]; rfl,?_⟩
 have:a*b=wQ (!(s == t)) (vl r):=by
  rw[h.val,h'.val,r3]; unfold wQ;cases s<;>cases t<;>simp[Int.neg_mul,Int.mul_neg]
 rw[this]; exact m2
theorem pv {a b:Nat} (ha:a<18446744073709551616) (h:b≤a):dw .u64 a b=a-b:=by
 show(a+(18446744073709551616-b%18446744073709551616))%18446744073709551616=a-b
 omega
theorem Cv (n0:Nat) {u y1 y0 d:Nat} (h1:2147483648≤y1) (h1':y1<4294967296) (h0:y0<4294967296) (hd:d<4294967296) {Q:Nat} (le_iff:∀p,p≤Q↔p*y1*4294967296+p*y0≤u*4294967296+d) (hQb:Q<4294967296) :
  ∀k r q m,4294967296≤r+k*2147483648→k<m→q*y1+r=u→Q≤q→q≤4294967297→r<4294967296→bX (eU n0 d y0 y1) m (r,q)=some Q:=by
 intro k
 induction k with
 | zero=>intro r q m hk _ _ _ _ hr; omega
 | succ k ih =>
  intro r q m hk hm hq hQ hqb hr;obtain⟨m,rfl⟩:∃m',m=m'+1:=⟨m-1,by omega⟩
  by_cases hT:4294967296≤q∨4294967296*r+d<q*y0
  ·have hlt:Q<q:=by
    rcases hT with hT|hT
    ·omega
    ·refine Nat.lt_of_not_le fun h=>?_;rw[le_iff] at h;omega
   obtain⟨p,rfl⟩:∃p,q=p+1:=⟨q-1,by omega⟩
   rw[Nat.add_mul,Nat.one_mul] at hq;have test:(br (decide (4294967296≤p+1)) (some true) (some (decide (uw .u64 ((uw .u64 (4294967296*r))+d)<uw .u64 ((p+1)*y0)))))=some true:=by
    by_cases hb:4294967296≤p+1
    ·rw[bC hb]
    ·have h2:(p+1)*y0≤4294967295*4294967295:=Nat.mul_le_mul (by omega) (by omega)
     rw[bt hb,oW (a:=4294967296*r) (by omega),oW (by omega),oW (by omega),decide_eq_true (by omega)]
   have sb:dw .u64 (p+1) 1=p:=pv (by omega) (by omega)
   by_cases hb:4294967296≤r+y1
   ·have st:eU n0 d y0 y1 (r,p+1)=some (.inr p):=by
     unfold eU
     dsimp only
     rw[test,ai,dJ,oW (a:=r+y1) (by omega),bC hb,sb]
    rw[bu st];have h2:p*y0≤4294967296*4294967295:=Nat.mul_le_mul (by omega) (by omega)
    have h3:p≤Q:=by rw[le_iff]; omega
    rw[show p=Q by omega]
   ·have st:eU n0 d y0 y1 (r,p+1)=some (.inl (r+y1,p)):=by
     unfold eU
     dsimp only
     rw[test,ai,dJ,oW (a:=r+y1) (by omega),bt hb,sb]
    rw[az st];exact ih (r+y1) p m (by omega) (by omega) (by omega) (by omega) (by omega) (by omega)
  ·have hq2:q<4294967296:=by omega
   have h2:q*y0≤4294967295*4294967295:=Nat.mul_le_mul (by omega) (by omega)
   have st:eU n0 d y0 y1 (r,q)=some (.inr q):=by
    unfold eU
    dsimp only
    rw[bt (by omega),oW (a:=4294967296*r) (by omega),oW (by omega),oW (by omega),ai,bt (by omega)]
   rw[bu st];have h3:q≤Q:=by rw[le_iff]; omega
   rw[show q=Q by omega]
theorem CQ (n0 y s y1 y0 d e:Nat):∀m q r,bX (qF n0) m (y,s,y1,y0,d,e,q,r)=(bX (eU n0 d y0 y1) m (r,q)).map fun q=>(y,s,y1,y0,d,e,q):=by
 intro m
 induction m with
 | zero=>intro q r; rfl
 | succ m ih =>
  intro q r;have a:∀b,(br b (br (decide (4294967296≤uw .u64 (r+y1))) (some (.inr (y,s,y1,y0,d,e,dw .u64 q 1))) (some (.inl (y,s,y1,y0,d,e,dw .u64 q 1,uw .u64 (r+y1))))) (some (.inr (y,s,y1,y0,d,e,q))):Option ((Nat × Nat × Nat × Nat × Nat × Nat × Nat × Nat) ⊕ (Nat × Nat × Nat × Nat × Nat × Nat × Nat))) =
   (br b (br (decide (4294967296≤uw .u64 (r+y1))) (some (.inr (dw .u64 q 1))) (some (.inl (uw .u64 (r+y1),dw .u64 q 1)))) (some (.inr q)):Option ((Nat × Nat) ⊕ Nat)).map fun x=>match x with | .inl (r,q)=>.inl (y,s,y1,y0,d,e,q,r) | .inr q=>.inr (y,s,y1,y0,d,e,q):=by
   intro b;cases b
   ·rfl
   ·rw[dJ,dJ];cases decide (4294967296≤uw .u64 (r+y1))<;>rfl
  have st:qF n0 (y,s,y1,y0,d,e,q,r)=(eU n0 d y0 y1 (r,q)).map fun x=>match x with | .inl (r,q)=>.inl (y,s,y1,y0,d,e,q,r) | .inr q=>.inr (y,s,y1,y0,d,e,q):=by
   unfold qF eU
   dsimp only
   cases(br (decide (4294967296≤q)) (some true) (some (decide (uw .u64 ((uw .u64 (4294967296*r))+d)<uw .u64 (q*y0)))):Option Bool) with
   | none=>rfl
   | some b=>exact a b
  unfold bX;rw[st];cases eU n0 d y0 y1 (r,q) with
  | none=>rfl
  | some x =>
   cases x with
   | inl p=>exact ih p.2 p.1
   | inr p=>rfl
theorem rQ {a b:Nat} (h:b≤a) (hr:a-b<18446744073709551616):dw .u64 (uw .u64 a) (uw .u64 b)=a-b:=by
 show(a%18446744073709551616+(18446744073709551616-b%18446744073709551616%18446744073709551616))%18446744073709551616=a-b
 omega
theorem Kg {x:Nat} (h0:0<x):2 ^ (bl x-1)≤x∧x<2 ^ bl x∧0<bl x:=by
 have h1:0<bl x:=jO.2 (by simp; omega)
 refine⟨jO.1 (by omega),?_,h1⟩
 exact Nat.lt_of_not_le fun h=>Nat.lt_irrefl _ (jO.2 h)
theorem u6 {a s:Nat} (h:s≤64):dH .u64 a s=uw .u64 (a*2 ^ s):=by
 have:min s (IntKind.bits .u64)=s:=Nat.min_eq_left h;unfold dH;rw[this]
theorem BA {a s:Nat} (h:s≤64):cO .u64 a s=a/2 ^ s:=by
 have:min s (IntKind.bits .u64)=s:=Nat.min_eq_left h;unfold cO;rw[this]
theorem Bf {n:Nat} (hn:4<n) {u y1 y0 d:Nat} (h1:2147483648≤y1) (h1':y1<4294967296) (h0:y0<4294967296) (hd:d<4294967296) (hu:u<y1*4294967296+y0) :
  bX (eU n d y0 y1) n (dw .u64 u (uw .u64 (uw .u64 (u/y1)*y1)),uw .u64 (u/y1))=some ((u*4294967296+d)/(y1*4294967296+y0)):=by
 have e1:=Nat.div_add_mod u y1;have e2:=Nat.mod_lt u (show 0<y1 by omega)
 rw[Nat.mul_comm] at e1;have hq:u/y1≤4294967297:=by
  have:u/y1<4294967298:=by rw[Nat.div_lt_iff_lt_mul (by omega)]; omega
  omega
 rw[oW (a:=u/y1) (by omega),oW (a:=u/y1*y1) (by omega),pv (by omega) (by omega)]
 have hy:0<y1*4294967296+y0:=by omega
 refine Cv n h1 h1' h0 hd (fun p=>by rw[Nat.le_div_iff_mul_le hy,Nat.mul_add,←Nat.mul_assoc]) (by rw[Nat.div_lt_iff_lt_mul hy]; omega) 2 _ _ n (by omega) (by omega) (by omega) ?_ hq (by omega)
 have:(u*4294967296+d)/(y1*4294967296+y0)<u/y1+1:=by
  rw[Nat.div_lt_iff_lt_mul hy,Nat.add_mul,Nat.one_mul,Nat.mul_add,←Nat.mul_assoc];omega
 omega
theorem Hd {U w v A B R1 R0 d1 d0:Nat} (hU:U=w*4294967296) (h6:4294967296*d1+d0=v) (h5:A*4294967296+R1*4294967296=(w+d1)*4294967296) (m3:B+R0=R1*4294967296+d0) :
  U+v=R0+(A*4294967296+B):=by
 omega
theorem LK (u:Nat):u*18446744073709551616=u*4294967296*4294967296:=by rw[Nat.mul_assoc]
theorem G4 {n:Nat} (hn:4<n) {x1 x2 x3:Nat} (h4:x1<x3) (h1:x2<18446744073709551616) (h2:x3<18446744073709551616) :
  EW n x1 x2 x3=some ((x1*18446744073709551616+x2)/x3,(x1*18446744073709551616+x2)%x3):=by
 unfold EW;rw[bt (by omega),bt (by omega)]
 by_cases hz:x1=0
 ·subst hz;rw[bC rfl,cK (by omega),cK (by omega),oW (Nat.lt_of_le_of_lt (Nat.div_le_self _ _) h1)]
  simp
 ·rw[bt hz];obtain⟨l1,l2,l3⟩:=Kg (x:=x3) (by omega)
  have l4:bl x3≤64:=IH h2;obtain⟨s,hs⟩:∃s,bl x3+s=64:=⟨64-bl x3,by omega⟩
  have r0:CU n x3=some ((s:Nat):Int):=by
   unfold CU;rw[uk n x3 h2,ai,bz (by omega) (by omega)]
   congr 1
   omega
  have u0:ui .u64 ((s:Nat):Int)=s:=by
   show(((s:Nat):Int)%((2 ^ 64:Nat):Int)).toNat=s
   omega
  have P0:0<2 ^ s:=Nat.two_pow_pos s;have PP:2 ^ s*2 ^ (64-s)=18446744073709551616:=by rw[←Nat.pow_add,show s+(64-s)=64 by omega]
  have X1:x3*2 ^ s<18446744073709551616:=by
   have:x3*2 ^ s<2 ^ bl x3*2 ^ s:=Nat.mul_lt_mul_of_pos_right l2 P0;rw[←Nat.pow_add,hs] at this;exact this
  have X2:9223372036854775808≤x3*2 ^ s:=by
   have:2 ^ (bl x3-1)*2 ^ s≤x3*2 ^ s:=Nat.mul_le_mul_right _ l1;rw[←Nat.pow_add,show bl x3-1+s=63 by omega] at this
   exact this
  have X3:x1*2 ^ s<x3*2 ^ s:=Nat.mul_lt_mul_of_pos_right h4 P0;have s0:dH .u64 x3 s=x3*2 ^ s:=by
   rw[u6 (by omega),oW X1]
  have s1:dH .u64 x1 s=x1*2 ^ s:=by
   rw[u6 (by omega),oW (by omega)]
  have s2:dH .u64 x2 s=x2*2 ^ s%18446744073709551616:=by
   rw[u6 (by omega)]; rfl
  have t0:cO .u64 x2 (dw .u64 64 s)=x2/2 ^ (64-s):=by
   rw[pv (by decide) (by omega)]
   rw[BA (by omega)]
  have t1:x2/2 ^ (64-s)<2 ^ s:=by rw[Nat.div_lt_iff_lt_mul (Nat.two_pow_pos _),PP]; exact h1
  have t2:x2*2 ^ s/18446744073709551616=x2/2 ^ (64-s):=by rw[←PP,Nat.mul_comm x2,Nat.mul_div_mul_left _ _ P0]
  have hor:uw .u64 (uw .u64 (x1*2 ^ s) ||| uw .u64 (x2/2 ^ (64-s)))=x1*2 ^ s+x2/2 ^ (64-s):=by
   have h0:x2/2 ^ (64-s)≤x2:=Nat.div_le_self _ _;rw[po (show x1*2 ^ s<2 ^ 64 by omega) (show x2/2 ^ (64-s)<2 ^ 64 by omega),←Nat.shiftLeft_eq,Nat.shiftLeft_add_eq_or_of_lt t1]
  rw[r0,ai,u0,ai,s0,s1,t0,hor,s2];have key:(x1*2 ^ s+x2/2 ^ (64-s))*18446744073709551616+x2*2 ^ s%18446744073709551616=(x1*18446744073709551616+x2)*2 ^ s:=by
   have:=Nat.div_add_mod (x2*2 ^ s) 18446744073709551616;rw[t2] at this;rw[Nat.add_mul,Nat.add_mul,Nat.mul_right_comm x1];omega
  have hv:x2*2 ^ s%18446744073709551616<18446744073709551616:=Nat.mod_lt _ (by decide)
  have hu:x1*2 ^ s+x2/2 ^ (64-s)<x3*2 ^ s:=by
   have h0:(x1*18446744073709551616+x2)*2 ^ s<(x3*18446744073709551616)*2 ^ s:=Nat.mul_lt_mul_of_pos_right (by omega) P0
   rw[←key,Nat.mul_right_comm x3] at h0;omega
  have r1:(x1*18446744073709551616+x2)/x3=((x1*18446744073709551616+x2)*2 ^ s)/(x3*2 ^ s):=by rw[Nat.mul_div_mul_right _ _ P0]
  have r2:(x1*18446744073709551616+x2)%x3=(((x1*18446744073709551616+x2)*2 ^ s)%(x3*2 ^ s))/2 ^ s:=by rw[Nat.mul_mod_mul_right,Nat.mul_div_cancel _ P0]
  rw[r1,r2,←key];have hss:∀R,cO .u64 R s=R/2 ^ s:=fun R=>BA (by omega)
  clear PP t1 t2 hor key r1 r2 r0 u0 s1 s2 s0 t0 P0 X3 l1 l2 l3 l4 hs;generalize x1*2 ^ s+x2/2 ^ (64-s)=u at hu ⊢;generalize x2*2 ^ s%18446744073709551616=v at hv ⊢;generalize x3*2 ^ s=X at X1 X2 hu ⊢;have hX:X/4294967296*4294967296+X%4294967296=X:=Nat.div_add_mod' _ _;rw[cK (show 0<cO .u64 X 32 by rw[Ep]; omega)]
  simp only[Ep,vJ X1,vJ hv];rw[ai,CQ];rw[Bf hn (u:=u) (y1:=X/4294967296) (y0:=X%4294967296) (d:=v/4294967296) (by omega) (by omega) (by omega) (by omega) (by omega),hX]
  have q0:(u*4294967296+v/4294967296)/X<4294967296:=by rw[Nat.div_lt_iff_lt_mul (by omega)]; omega
  have m1:=Nat.div_add_mod (u*4294967296+v/4294967296) X;have m2:=Nat.mod_lt (u*4294967296+v/4294967296) (show 0<X by omega)
  rw[Option.map_some,ai]
  dsimp only
  rw[ai,cK (by omega)]
  have e0:uw .u64 (uw .u64 (u*4294967296)+v/4294967296)=uw .u64 (u*4294967296+v/4294967296):=Nat.mod_add_mod _ _ _;rw[Nat.mul_comm X] at m1;rw[e0,rQ (by omega) (by omega)]
  have e1:u*4294967296+v/4294967296-(u*4294967296+v/4294967296)/X*X=(u*4294967296+v/4294967296)%X:=by omega
  rw[e1];obtain⟨Q1,hQ1⟩:∃Q,(u*4294967296+v/4294967296)/X=Q:=⟨_,rfl⟩;obtain⟨R1,hR1⟩:∃R,(u*4294967296+v/4294967296)%X=R:=⟨_,rfl⟩;clear e1;rw[hQ1] at q0 m1 ⊢;rw[hR1] at m1 m2 ⊢;rw[Bf hn (u:=R1) (y1:=X/4294967296) (y0:=X%4294967296) (d:=v%4294967296) (by omega) (by omega) (by omega) (by omega) (by omega),hX,ai]
  have q1:(R1*4294967296+v%4294967296)/X<4294967296:=by rw[Nat.div_lt_iff_lt_mul (by omega)]; omega
  have m3:=Nat.div_add_mod (R1*4294967296+v%4294967296) X;have m4:=Nat.mod_lt (R1*4294967296+v%4294967296) (show 0<X by omega)
  rw[Nat.mul_comm X] at m3;have e2:uw .u64 (uw .u64 (R1*4294967296)+v%4294967296)=uw .u64 (R1*4294967296+v%4294967296):=Nat.mod_add_mod _ _ _;rw[e2,ai,rQ (by omega) (by omega)]
  have e3:R1*4294967296+v%4294967296-(R1*4294967296+v%4294967296)/X*X=(R1*4294967296+v%4294967296)%X:=by omega
  rw[e3,hss];obtain⟨Q0,hQ0⟩:∃Q,(R1*4294967296+v%4294967296)/X=Q:=⟨_,rfl⟩;obtain⟨R0,hR0⟩:∃R,(R1*4294967296+v%4294967296)%X=R:=⟨_,rfl⟩;clear e3;rw[hQ0] at q1 m3 ⊢;rw[hR0] at m3 m4 ⊢;rw[oW (a:=Q1*4294967296) (by omega),oW (by omega)]
  clear hQ1 hR1 hQ0 hR0 e0 e2 hss X1 X2 hX q1 q0 m2 hu h4 h1 h2 hz;have fin:u*18446744073709551616+v=R0+(Q1*4294967296+Q0)*X:=by
   have h0:Q1*X*4294967296+R1*4294967296=(u*4294967296+v/4294967296)*4294967296:=by rw[←m1,Nat.add_mul]
   rw[Nat.add_mul,Nat.mul_right_comm Q1];have h3:=Nat.div_add_mod v 4294967296;generalize v/4294967296=d0 at h0 h3;generalize v%4294967296=d1 at m3 h3;generalize Q1*X=A at h0 ⊢;generalize Q0*X=B at m3 ⊢;exact Hd (LK u) h3 h0 m3
  rw[fin,Nat.add_mul_div_right _ _ (show 0<X by omega),Nat.add_mul_mod_self_right,Nat.div_eq_of_lt m4,Nat.mod_eq_of_lt m4,Nat.zero_add]
theorem Fg {q:List Nat} {i e d:Nat}:(List.replicate i 0++e::q).set i d=List.replicate i 0++d::q:=by
 rw[List.set_append_right _ _ (by simp)]
 simp
theorem Ec (i:Nat) (q:List Nat):List.replicate (i+1) 0++q=List.replicate i 0++0::q:=by
 rw[List.replicate_succ',List.append_assoc]; rfl
theorem wV {n:Nat} {l:List Nat} {d:Nat} (hl:Wd l) (hd:d<18446744073709551616) (h0:d≠0) (hb:l.length<1000000) (hn:l.length<n) (hn4:4<n) :
  ∃q t m,BW n l [d]=some (q,m)∧Wd q∧vl q=vl l/d∧q.length=l.length∧Lg ((vl l%d:Nat):Int) t m∧t=false:=by
 have hL:∀i q r m,i+q.length=l.length→i<m→Wd q→r<d→vl l=vl (l.take i)+wp i*(d*vl q+r) →
   ∃q' r',bX (nU n l [d]) m (List.replicate i 0++q,r,(i:Int)-1)=some (q',r')∧Wd q'∧q'.length=l.length∧r'<d∧vl l=d*vl q'+r':=by
  intro i
  induction i with
  | zero =>
   intro q r m hi hm hq hr hv;obtain⟨m,rfl⟩:∃m',m=m'+1:=⟨m-1,by omega⟩
   refine⟨q,r,bu ?_,hq,by omega,hr,?_⟩
   ·unfold nU
    dsimp only
    rw[bt (by decide)]; rfl
   ·rw[hv]; simp[vl,wp]
  | succ i ih =>
   intro q r m hi hm hq hr hv;obtain⟨m,rfl⟩:∃m',m=m'+1:=⟨m-1,by omega⟩
   have hi':i<l.length:=by omega
   obtain⟨x,e2⟩:∃x,l[i]? = some x:=⟨l[i],by simp⟩
   have hx:=hl.at e2;have e0:((i+1:Nat):Int)-1=((i:Nat):Int):=by omega
   have ht:vl (l.take (i+1))=vl (l.take i)+wp i*x:=by
    rw[List.take_add_one,e2,Option.toList_some,pc,List.length_take,Nat.min_eq_left (Nat.le_of_lt hi')]
   have e3:(List.replicate (i+1) 0++q)[i]? = some 0:=by rw[List.getElem?_append_left (by simp),List.getElem?_replicate]; simp
   have hqd:(r*18446744073709551616+x)/d<18446744073709551616:=by
    rw[Nat.div_lt_iff_lt_mul (by omega),Nat.mul_comm _ d]
    have:(r+1)*18446744073709551616≤d*18446744073709551616:=Nat.mul_le_mul_right _ hr;omega
   have st:nU n l [d] (List.replicate (i+1) 0++q,r,((i:Nat):Int))=some (.inl (List.replicate i 0++(r*18446744073709551616+x)/d::q,(r*18446744073709551616+x)%d,(i:Int)-1)):=by
    unfold nU
    dsimp only
    rw[bC (by omega),aG hi',aW,Int.toNat_natCast,e2,ai]
    rw[show bL 0 [d].length=true from rfl,aW,show([d]:List Nat)[(0:Int).toNat]? = some d from rfl,ai,G4 hn4 hr hx hd,ai]
    dsimp only
    rw[Int.toNat_natCast,aG hi',aW,e3,ai,Ec,Fg,bz (by omega) (by omega)]
   rw[e0,az st];refine ih _ _ m (by rw[List.length_cons]; omega) (by omega) (fun e he=>?_) (Nat.mod_lt _ (by omega)) ?_
   ·rcases List.mem_cons.1 he with rfl|h
    ·exact hqd
    ·exact hq e h
   ·have h1:=Nat.div_add_mod (r*18446744073709551616+x) d;rw[hv,ht,gY,fo];generalize (r*18446744073709551616+x)%d=R at h1 ⊢;generalize (r*18446744073709551616+x)/d=Q at h1 ⊢;have h2:wp i*(d*Q+R)=wp i*(r*18446744073709551616+x):=by rw[h1]
    rw[Nat.mul_comm r] at h2;simp only[Nat.mul_add,Nat.mul_left_comm (wp i) 18446744073709551616,Nat.mul_left_comm d 18446744073709551616,Nat.mul_assoc] at h2 ⊢;omega
 obtain⟨q,r,q1,q2,q3,q4,q5⟩:=hL l.length [] 0 n (by simp) hn Wd.nil (by omega) (by rw[List.take_length,kv]; simp)
 rw[List.append_nil] at q1;obtain⟨t,m,m1,m2⟩:=iq (n:=n) false (Wd.one (show r<18446744073709551616 by omega)) (by simp) (by simp; omega)
 have hr:vl [r]=r:=by simp[vl]
 rw[hr] at m2;have dq:vl q=vl l/d:=by
  rw[q5,Nat.mul_add_div (by omega),Nat.div_eq_of_lt q4]; rfl
 have dr:r=vl l%d:=by
  rw[q5,Nat.mul_add_mod,Nat.mod_eq_of_lt q4]
 refine⟨q,t,m,?_,q2,dq,q3,by rw[←dr]; exact m2,?_⟩
 ·unfold BW;rw[cK (by omega),Int.toNat_natCast,gD (by omega),aW,bC (show(([d]:List Nat).length:Int)=1 from rfl),bz (by omega) (by omega),q1,ai]
  dsimp only
  rw[m1]; rfl
 ·have:=m2.BS;rw[this];simp[wQ]
theorem tY {n:Nat} {a b:Int} {s t:Bool} {l k:List Nat} (h:Lg (a*b) s l) (h':Lg b t k) (h0:b≠0) (hbb:b.natAbs<18446744073709551616) (hb:l.length<1000000) (hn:l.length<n) (hn4:4<n) :
  ∃u m v o,yk n s l t k=some (u,m,v,o)∧Lg a u m:=by
 have hk:=h'.MP h0 hbb;subst hk;obtain⟨q,t',m,q1,q2,q3,q4,q5,q6⟩:=wV (n:=n) h.wd hbb (by omega) hb hn hn4
 obtain⟨u,m',u1,u2⟩:=iq (n:=n) (!(s == t)) q2 (by omega) (by omega)
 have hz:(vl l%b.natAbs:Nat)=0:=by rw[h.abs,Int.natAbs_mul,Nat.mul_mod_left]
 rw[hz] at q5;obtain⟨rfl,rfl⟩:=q5.inj Lg.zero;obtain⟨v,o,v1,v2⟩:=iq (n:=n) s Wd.nil (by simp) (by simp; omega)
 have v3:Lg 0 v o:=by rw[kv,vK] at v2; exact v2
 obtain⟨rfl,rfl⟩:=v3.inj Lg.zero;refine⟨u,m',false,[],?_,?_⟩
 ·unfold yk;rw[q1,ai]
  dsimp only
  rw[u1,ai]
  dsimp only
  rw[v1,ai]
  rfl
 ·have e1:vl q=a.natAbs:=by rw[q3,h.abs,Int.natAbs_mul,Nat.mul_div_cancel _ (by omega)]
  have hs:=h.BS;have ht:=h'.BS;have:a=wQ (!(s == t)) (vl q)∨(a=0):=by
   by_cases ha:a=0
   ·exact .inr ha
   ·refine .inl ?_;rw[e1,hs,ht];unfold wQ
    by_cases hb0:b<0<;>by_cases ha0:a<0
    ·have:¬a*b<0:=Int.not_lt.2 (Int.mul_nonneg_of_nonpos_of_nonpos (by omega) (by omega))
     simp[hb0,this]; omega
    ·have:a*b<0:=Int.mul_neg_of_pos_of_neg (by omega) hb0
     simp[hb0,this]; omega
    ·have:a*b<0:=Int.mul_neg_of_neg_of_pos ha0 (by omega)
     simp[hb0,this]; omega
    ·have:¬a*b<0:=Int.not_lt.2 (Int.mul_nonneg (by omega) (by omega))
     simp[hb0,this]; omega
  rcases this with e|e
  ·rw[e]; exact u2
  ·rw[e,Int.natAbs_zero] at e1;rw[e1,vK] at u2;rw[e]; exact u2
theorem MD (m:Nat):wq (m+20) 0=some (false,[]):=by rfl
theorem M3 (m:Nat):wq (m+20) 1=some (false,[1]):=by rfl
theorem LA (m:Nat):wq (m+20) (-1)=some (true,[1]):=by rfl
theorem wm {n:Nat} (h:20≤n):wq n 0=some (false,[]):=by obtain⟨m,rfl⟩:∃m,n=m+20:=⟨n-20,by omega⟩; exact MD m
theorem uV {n:Nat} (h:20≤n):wq n 1=some (false,[1]):=by obtain⟨m,rfl⟩:∃m,n=m+20:=⟨n-20,by omega⟩; exact M3 m
theorem By {n:Nat} (h:20≤n):wq n (-1)=some (true,[1]):=by obtain⟨m,rfl⟩:∃m,n=m+20:=⟨n-20,by omega⟩; exact LA m
theorem yx:Lg 1 false [1]:=Lg.small (by decide) (by decide) false
theorem F2:Lg (-1) true [1]:=Lg.small (by decide) (by decide) true
end Go.Proofs.YtookeaakpiefjaaGreatDoor
end

section
namespace Go.Proofs.YtookeaakpiefjaaGreatDoor
open Go Go.Ab Go.Ab.W Go.Ab.T30
def sq (s:Nat) (L:List (List (Bool × List Nat))) (M:Mt):Prop :=
 L.length=s∧∀r,r<s→∃row,L[r]? = some row∧row.length=s∧∀c,c<s→∃t k,row[c]? = some (t,k)∧Lg (M r c) t k
section
variable {s : Nat} {L : List (List (Bool × List Nat))} {M M' : Mt}
theorem sq.congr (h:sq s L M) (he:∀r c,r<s→c<s→M r c=M' r c):sq s L M' :=
 ⟨h.1,fun r hr=>by
  obtain⟨row,h1,h2,h3⟩:=h.2 r hr;exact⟨row,h1,h2,fun c hc=>by rw[←he r c hr hc]; exact h3 c hc⟩⟩
theorem sq.at (h:sq s L M) {r c:Nat} (hr:r<s) (hc:c<s):∃row t k,L[r]? = some row∧row.length=s∧row[c]? = some (t,k)∧Lg (M r c) t k:=by
 obtain⟨row,h1,h2,h3⟩:=h.2 r hr;obtain⟨t,k,h4,h5⟩:=h3 c hc;exact⟨row,t,k,h1,h2,h4,h5⟩
theorem sq.set (h:sq s L M) {i j:Nat} {row:List (Bool × List Nat)} {t:Bool} {k:List Nat} {x:Int} (hi:i<s) (hj:j<s) (hrow:L[i]? = some row) (hx:Lg x t k) :
  sq s (L.set i (row.set j (t,k))) fun r c=>if r=i∧c=j then x else M r c:=by
 refine⟨by rw[List.length_set]; exact h.1,fun r hr=>?_⟩
 by_cases hri:r=i
 ·subst hri;obtain⟨row',h1,h2,h3⟩:=h.2 r hr;rw[hrow] at h1;cases h1;refine⟨_,by rw[List.getElem?_set_self (by rw[h.1]; exact hr)],by rw[List.length_set]; exact h2,fun c hc=>?_⟩
  by_cases hcj:c=j
  ·subst hcj;exact⟨t,k,by rw[List.getElem?_set_self (by rw[h2]; exact hc)],by dsimp only; rw[if_pos ⟨rfl,rfl⟩]; exact hx⟩
  ·dsimp only
   rw[List.getElem?_set_ne (fun e=>hcj e.symm),if_neg (fun e:r=r∧c=j=>hcj e.2)];exact h3 c hc
 ·obtain⟨row',h1,h2,h3⟩:=h.2 r hr;refine⟨row',by rw[List.getElem?_set_ne (fun e=>hri e.symm)]; exact h1,h2,fun c hc=>?_⟩
  dsimp only
  rw[if_neg (fun e:r=i∧c=j=>hri e.1)];exact h3 c hc
end
theorem Ds {a b:Nat} (h:a<b):Nat.blt a b=true:=Nat.ble_eq_true_of_le h
def NK (s k:Nat) (M:Mt):Prop:=∀r c,k≤r→r<s→k≤c→c<s→(M r c).natAbs<wp 15
theorem kM {a b:Int} {j k:Nat} (ha:a.natAbs<wp j) (hb:b.natAbs<wp k):(a*b).natAbs<wp (j+k):=by
 rw[Int.natAbs_mul,Ky];have h1:a.natAbs*b.natAbs≤a.natAbs*wp k:=Nat.mul_le_mul_left _ (Nat.le_of_lt hb);have h2:a.natAbs*wp k<wp j*wp k:=Nat.mul_lt_mul_of_pos_right ha (Ez k);omega
theorem Fc {n:Nat} (hn:100<n) {s k r:Nat} {A M:Mt} {p:Int} (hB:Bar A s k M p) (hk:k<s) (hr:k<r) (hrs:r<s) (hs:s≤64) (h0:M k k≠0) (hp:p.natAbs<18446744073709551616) (hb:NK s k M)
  {tf:Bool} {kf:List Nat} (hf:Lg (M r k) tf kf) {tp:Bool} {kp:List Nat} (hP:Lg p tp kp) {N:Mt} (hN:∀b,N k b=M k b) :
  ∀j c m L,c+j=s→j<m→k≤c→sq s L (fun a b=>if a=r then(if k≤b∧b<c then BQ M k p a b else M a b) else N a b) →
   ∃L',bX (qX n s (r:Int) (k:Int) tf kf tp kp) m (L,(c:Int))=some L'∧sq s L' (fun a b=>if a=r then(if k≤b∧b<s then BQ M k p a b else M a b) else N a b):=by
 intro j
 induction j with
 | zero =>
  intro c m L hj hm hkc hL;obtain⟨m,rfl⟩:∃m',m=m'+1:=⟨m-1,by omega⟩
  have hc:c=s:=by omega
  subst hc;refine⟨L,bu ?_,hL⟩;unfold qX
  dsimp only
  rw[bt (by omega)]
 | succ j ih =>
  intro c m L hj hm hkc hL;obtain⟨m,rfl⟩:∃m',m=m'+1:=⟨m-1,by omega⟩
  have hc:c<s:=by omega
  obtain⟨row,t1,k1,a1,a2,a3,a4⟩:=hL.at hrs hc;obtain⟨rowk,t2,k2,b1,b2,b3,b4⟩:=hL.at hk hk;obtain⟨rowk',t3,k3,c1,c2,c3,c4⟩:=hL.at hk hc;rw[b1] at c1;cases c1;rw[if_pos rfl,if_neg (by omega)] at a4
  rw[if_neg (by omega),hN] at b4 c4
  have l1:=a4.len (hb r c (by omega) hrs hkc hc)
  have l2:=b4.len (hb k k (by omega) hk (by omega) hk)
  have l3:=c4.len (hb k c (by omega) hk hkc hc)
  have lf:=hf.len (hb r k (by omega) hrs (by omega) hk)
  obtain⟨u1,v1,d1,d2⟩:=AJ (n:=n) a4 b4 (by omega) (by omega) (by omega)
  obtain⟨u2,v2,e1,e2⟩:=AJ (n:=n) hf c4 (by omega) (by omega) (by omega)
  have l4:=d2.len (kM (hb r c (by omega) hrs hkc hc) (hb k k (by omega) hk (by omega) hk))
  have l5:=e2.len (kM (hb r k (by omega) hrs (by omega) hk) (hb k c (by omega) hk hkc hc))
  obtain⟨u3,v3,f1,f2⟩:=KR (n:=n) d2 e2 (by omega) (by omega) (by omega)
  have l6:v3.length≤31:=f2.len (by
   have h1:=kM (hb r c (by omega) hrs hkc hc) (hb k k (by omega) hk (by omega) hk)
   have h2:=kM (hb r k (by omega) hrs (by omega) hk) (hb k c (by omega) hk hkc hc)
   rw[gY];simp only[Nat.reduceAdd] at h1 h2;omega)
  have hex:=hB.exact hk h0 hr hrs hkc hc;rw[hex,Int.mul_comm] at f2;obtain⟨u4,v4,w4,o4,g1,g2⟩:=tY (n:=n) f2 hP hB.p0 hp (by omega) (by omega) (by omega)
  have st:qX n s (r:Int) (k:Int) tf kf tp kp (L,(c:Int))=some (.inl (L.set r (row.set c (u4,v4)),((c+1:Nat):Int))):=by
   unfold qX
   dsimp only
   simp only[Int.toNat_natCast];rw[bC (by omega),aG hrs,aW,a1,ai,cK (by omega),a2,aG hc,aW,a3,ai]
   dsimp only
   rw[aG hk,aW,b1,ai,cK (by omega),b2,aG hk,aW,b3,ai]
   dsimp only
   rw[d1,ai]
   dsimp only
   rw[aW,ai,cK (by omega),b2,aG hc,aW,c3,ai]
   dsimp only
   rw[e1,ai]
   dsimp only
   rw[f1,ai]
   dsimp only
   rw[aW,ai,cK (by omega),g1,ai]
   dsimp only
   rw[a2,aG hc,aW,Ds hc,aW,bY (by omega)]
  rw[az st];refine ih (c+1) m _ (by omega) (by omega) (by omega) ((hL.set hrs hc a1 g2).congr fun a b ha hb'=>?_)
  by_cases h1:a=r∧b=c
  ·rw[if_pos h1,if_pos h1.1,if_pos ⟨by omega,by omega⟩,h1.1,h1.2]
  ·rw[if_neg h1]
   by_cases h3:a=r
   ·rw[if_pos h3,if_pos h3]
    by_cases h2:k≤b∧b<c
    ·rw[if_pos h2,if_pos ⟨h2.1,by omega⟩]
    ·rw[if_neg h2,if_neg (by omega)]
   ·rw[if_neg h3,if_neg h3]
theorem CI {n:Nat} (hn:100<n) {s k:Nat} {A M:Mt} {p:Int} (hB:Bar A s k M p) (hk:k<s) (hs:s≤64) (h0:M k k≠0) (hp:p.natAbs<18446744073709551616) (hb:NK s k M)
  {tp:Bool} {kp:List Nat} (hP:Lg p tp kp) :
  ∀j r m L,r+j=s→j<m→k<r→sq s L (fun a b=>if k<a∧a<r∧k≤b then BQ M k p a b else M a b) →
   ∃L',bX (nP n s (k:Int) tp kp) m (L,(r:Int))=some L'∧sq s L' (BQ M k p):=by
 intro j
 induction j with
 | zero =>
  intro r m L hj hm hkr hL;obtain⟨m,rfl⟩:∃m',m=m'+1:=⟨m-1,by omega⟩
  have hr:r=s:=by omega
  subst hr;refine⟨L,bu ?_,hL.congr fun a b ha hb'=>?_⟩
  ·unfold nP
   dsimp only
   rw[bt (by omega)]
  ·by_cases h1:k<a∧k≤b
   ·rw[if_pos ⟨h1.1,ha,h1.2⟩]
   ·rw[if_neg (by omega)]; unfold BQ; rw[if_neg h1]
 | succ j ih =>
  intro r m L hj hm hkr hL;obtain⟨m,rfl⟩:∃m',m=m'+1:=⟨m-1,by omega⟩
  have hr:r<s:=by omega
  obtain⟨row,t1,k1,a1,a2,a3,a4⟩:=hL.at hr hk;rw[if_neg (by omega)] at a4
  have hL9:∃L',bX (qX n s (r:Int) (k:Int) t1 k1 tp kp) n (L,(k:Int))=some L'∧sq s L' (fun a b=>if k<a∧a<r+1∧k≤b then BQ M k p a b else M a b):=by
   obtain⟨L',c1,c2⟩:=Fc hn hB hk hkr hr hs h0 hp hb a4 hP (N:=fun a b=>if k<a∧a<r∧k≤b then BQ M k p a b else M a b) (fun b=>by rw[if_neg (by omega)]) (s-k) k n L (by omega) (by omega) (Nat.le_refl _) (hL.congr fun a b ha hb'=>by
    by_cases h3:a=r
    ·rw[if_neg (by omega),if_pos h3,if_neg (by omega)]
    ·rw[if_neg (c:=a=r) h3])
   refine⟨L',c1,c2.congr fun a b ha hb'=>?_⟩
   by_cases h3:a=r
   ·rw[if_pos h3]
    by_cases h4:k≤b
    ·rw[if_pos ⟨h4,hb'⟩,if_pos ⟨by omega,by omega,h4⟩]
    ·rw[if_neg (by omega),if_neg (by omega)]
   ·rw[if_neg h3]
    by_cases h4:k<a∧a<r∧k≤b
    ·rw[if_pos h4,if_pos ⟨h4.1,by omega,h4.2.2⟩]
    ·rw[if_neg h4,if_neg (by omega)]
  obtain⟨L',b1,b2⟩:=hL9;have st:nP n s (k:Int) tp kp (L,(r:Int))=some (.inl (L',((r+1:Nat):Int))):=by
   unfold nP
   dsimp only
   simp only[Int.toNat_natCast];rw[bC (by omega),aG hr,aW,a1,ai,cK (by omega),a2,aG hk,aW,a3,ai]
   dsimp only
   rw[b1,ai,bY (by omega)]
  rw[az st];exact ih (r+1) m _ (by omega) (by omega) (by omega) b2
theorem Cb {n:Nat} (hn:100<n) {s:Nat} {A:Mt} (hs:s≤64) (hD:∀k r c,k<s→r<s→c<s→(cr (k+1) (jJ A k r c)).natAbs<wp 15) (hP:∀k,k<s→(cr k A).natAbs<18446744073709551616) :
  ∀j k m L M p tp kp,j+k=s→j<m→sq s L M→Bar A s k M p→Lg p tp kp →
   ∃t q,(bX (iA n s) m (L,tp,kp,(k:Int))=some (.inl (t,q))∨bX (iA n s) m (L,tp,kp,(k:Int))=some (.inr (t,q)))∧Lg (Ja j k M p) t q:=by
 intro j
 induction j with
 | zero =>
  intro k m L M p tp kp hj hm hL hB hp;obtain⟨m,rfl⟩:∃m',m=m'+1:=⟨m-1,by omega⟩
  refine⟨tp,kp,.inr (bu ?_),hp⟩;unfold iA
  dsimp only
  rw[bt (by omega)]
 | succ j ih =>
  intro k m L M p tp kp hj hm hL hB hp;obtain⟨m,rfl⟩:∃m',m=m'+1:=⟨m-1,by omega⟩
  have hk:k<s:=by omega
  obtain⟨row,t1,k1,a1,a2,a3,a4⟩:=hL.at hk hk;obtain⟨r,r1,r2,r3⟩:=Da (n:=n) a4;have hb:NK s k M:=fun r c h1 h2 h3 h4=>by rw[hB.minor h1 h2 h3 h4]; exact hD k r c hk h2 h4
  unfold Ja
  by_cases h0:M k k=0
  ·rw[if_pos h0];refine⟨false,[],.inl (bu ?_),Lg.zero⟩;unfold iA
   dsimp only
   simp only[Int.toNat_natCast];rw[bC (by omega),aG hk,aW,a1,ai,cK (by omega),a2,aG hk,aW,a3,ai]
   dsimp only
   rw[r1,ai,bC (r3.2 h0),wm (by omega),ai]
  ·rw[if_neg h0];obtain⟨L',b1,b2⟩:=CI hn hB hk hs h0 (by rw[hB.pe]; exact hP k hk) hb hp (s-(k+1)) (k+1) n L (by omega) (by omega) (by omega) (hL.congr fun a b _ _=>by rw[if_neg (by omega)])
   obtain⟨row',t2,k2,c1,c2,c3,c4⟩:=b2.at hk hk;have he:BQ M k p k k=M k k:=by unfold BQ; rw[if_neg (by omega)]
   rw[he] at c4;have st:iA n s (L,tp,kp,(k:Int))=some (.inl (L',t2,k2,((k+1:Nat):Int))):=by
    unfold iA
    dsimp only
    simp only[Int.toNat_natCast];rw[bC (by omega),aG hk,aW,a1,ai,cK (by omega),a2,aG hk,aW,a3,ai]
    dsimp only
    rw[r1,ai,bt (fun e=>h0 (r3.1 e)),bY (by omega),b1,ai,aW,c1,ai,cK (by omega),c2,aG hk,aW,c3,ai]
   rw[az st];exact ih (k+1) m L' _ _ t2 k2 (by omega) (by omega) b2 (hB.step hk h0) c4
end Go.Proofs.YtookeaakpiefjaaGreatDoor
end

section
namespace Go.Proofs.YtookeaakpiefjaaGreatDoor
open Go Go.Ab Go.Ab.W
theorem sQ {α β:Type} [DecidableEq α] (xs:List (α × β)) (k k':α) (v:β):bW (fE xs k v) k'=(if k'=k then some v else bW xs k')∧(fE xs k v).length=(if bW xs k=none then xs.length+1 else xs.length):=by
 have key:∀(xs:List (α × β)) (i:Nat),(cy k xs i=none→∀j,(cy k' (xs++[(k,v)]) j).map (·.2)=if k'=k then some v else(cy k' xs j).map (·.2)) ∧
   (∀p,cy k xs i=some p→i≤p.1∧∀j,(cy k' (xs.set (p.1-i) (k,v)) j).map (·.2)=if k'=k then some v else(cy k' xs j).map (·.2)):=by
  intro xs
  induction xs with
  | nil =>
   intro i;refine⟨fun _ j=>?_,fun p h=>by simp[cy] at h⟩
   simp only[List.nil_append,cy]
   by_cases h:k'=k<;>simp[h]
  | cons e xs ih =>
   intro i
   by_cases he:k=e.1
   ·refine⟨fun h=>by simp[cy,he] at h,fun p h=>?_⟩
    have hp:p=(i,e.2):=by simp[cy,he] at h; exact h.symm
    subst hp;refine⟨Nat.le_refl _,fun j=>?_⟩;simp only[Nat.sub_self,List.set_cons_zero,cy]
    by_cases h:k'=k
    ·simp[h]
    ·have:k'≠e.1:=fun c=>h (c.trans he.symm);simp[h,this]
   ·refine⟨fun h j=>?_,fun p h=>?_⟩
    ·have h':cy k xs (i+1)=none:=by simpa [cy,he] using h
     simp only[List.cons_append,cy]
     by_cases h2:k'=e.1
     ·have:k'≠k:=fun c=>he (c.symm.trans h2);simp[h2,Ne.symm he]
     ·simp only[if_neg h2];exact(ih (i+1)).1 h' (j+1)
    ·have h':cy k xs (i+1)=some p:=by simpa [cy,he] using h
     obtain⟨g1,g2⟩:=(ih (i+1)).2 p h';refine⟨by omega,fun j=>?_⟩
     rw[show p.1-i=(p.1-(i+1))+1 by omega,List.set_cons_succ]
     simp only[cy]
     by_cases h2:k'=e.1
     ·have:k'≠k:=fun c=>he (c.symm.trans h2);simp[h2,Ne.symm he]
     ·simp only[if_neg h2];exact g2 (j+1)
 unfold bW fE;cases h:cy k xs 0 with
 | none=>exact⟨(key xs 0).1 h 0,by simp⟩
 | some p=>exact⟨((key xs 0).2 p h).2 0,by simp⟩
theorem sL {α β:Type} [DecidableEq α] (xs:List (α × β)) (k k':α) (v:β):bW (fE xs k v) k'=if k'=k then some v else bW xs k':=(sQ xs k k' v).1
theorem FT {α β:Type} [DecidableEq α] (xs:List (α × β)) (k:α) (v:β) (h:bW xs k=none):(fE xs k v).length=xs.length+1:=by rw[(sQ xs k k v).2,if_pos h]
theorem Dw {α β:Type} [DecidableEq α] (xs:List (α × β)) (k k':α) (v d:β):(bW (fE xs k v) k').getD d=if k'=k then v else(bW xs k').getD d:=by
 rw[sL]; split<;>rfl
end Go.Proofs.YtookeaakpiefjaaGreatDoor
end

section
namespace Go.Proofs.YtookeaakpiefjaaGreatDoor
open Go Go.Ab Go.Ab.W Go.Ab.T30
def wi (es:List (Int × Int)) (x:Nat) (W:List (Int × Bool)) (i:Nat):Bool:=cC es x (i:Int) && (bW W (i:Int)).getD false
def wl (es:List (Int × Int)) (x:Nat) (W:List (Int × Bool)) (i j:Nat):List (Nat × Nat):=((List.range' i j).filter (wi es x W)).map fun(k:Nat)=>eg es (k:Int)
theorem H6 (es:List (Int × Int)) (x:Nat) (W:List (Int × Bool)) (i j:Nat):wl es x W i (j+1)=if wi es x W i then eg es (i:Int)::wl es x W (i+1) j else wl es x W (i+1) j:=by
 unfold wl;rw[List.range'_succ,List.filter_cons]
 split<;>rfl
theorem EJ {N:Nat} {es:List (Int × Int)} (h:Okay N es) {n x:Nat} (hx:x<2 ^ 64) (hn:64<n) (W:List (Int × Bool)) :
  ∀j i m p r E,i+j=es.length→j<m→Fst p r→Rt r E →
   (bG r (wl es x W i j)=true→∃p' E',bX (kj n es x W) m ((i:Int),p,p.length)=some (.inr (p',p'.length))∧Fst p' ((wl es x W i j).foldl bf r)∧Rt ((wl es x W i j).foldl bf r) E') ∧
   (bG r (wl es x W i j)=false→∃p' k,bX (kj n es x W) m ((i:Int),p,p.length)=some (.inl (false,[],p',k))):=by
 intro j
 induction j with
 | zero =>
  intro i m p r E hij hm hp hr;obtain⟨m,rfl⟩:∃m',m=m'+1:=⟨m-1,by omega⟩
  have h0:wl es x W i 0 = []:=rfl;rw[h0];refine⟨fun _=>⟨p,E,bu ?_,hp,hr⟩,fun h=>by cases h⟩
  unfold kj
  dsimp only
  rw[bt (by omega)]
 | succ j ih =>
  intro i m p r E hij hm hp hr;obtain⟨m,rfl⟩:∃m',m=m'+1:=⟨m-1,by omega⟩
  have hi:i<es.length:=by omega
  have hl:=h.len;obtain⟨a,b,g1,g2,g3,g4,_,g5⟩:=jR h (k:=(i:Int)) ⟨by omega,by omega⟩
  rw[Int.toNat_natCast] at g1;have ha:a<64:=by omega
  have hin:cC es x (i:Int)=(x.testBit a && x.testBit b):=by
   simp only[cC,g2];rw[decide_eq_true ⟨by omega,by omega⟩,Bool.true_and]
  have w1:IntKind.wrap .i64 ((i:Int)+1)=((i+1:Nat):Int):=bY (by omega)
  rw[H6,g2]
  by_cases h3:(x.testBit a && x.testBit b)=true
  ·by_cases h4:(bW W (i:Int)).getD false=true
   ·have hw:wi es x W i=true:=by unfold wi; rw[hin,h3,h4]; rfl
    rw[if_pos hw];have hM:max (r a) (r b)<p.length:=by rw[hp.len]; have:=hr.le a; have:=hr.le b; omega
    have hma:ma ((r a:Nat):Int) ((r b:Nat):Int)=((max (r a) (r b):Nat):Int):=by simp only[ma]; omega
    have hmi:mi ((r a:Nat):Int) ((r b:Nat):Int)=((min (r a) (r b):Nat):Int):=by simp only[mi]; omega
    have hpM:p[max (r a) (r b)]? = some (p[max (r a) (r b)]'hM):=List.getElem?_eq_getElem _;have key:kj n es x W ((i:Int),p,p.length)=if r a=r b then some (.inr (.inl (false,[],p.set (max (r a) (r b)) ((min (r a) (r b):Nat):Int),p.length))) else some (.inl (((i+1:Nat):Int),p.set (max (r a) (r b)) ((min (r a) (r b):Nat):Int),p.length)):=by
     unfold kj
     dsimp only
     rw[bC (by omega),aG hi,aW,Int.toNat_natCast,g1,ai]
     dsimp only
     rw[pV n x a b hx ha g4,ai,h3,dJ,ai,h4,dJ,Be hp n a ha hn,ai,Be hp n b g4 hn,ai,hma,aG hM,aW,Int.toNat_natCast,hpM,ai,ai,hmi]
     dsimp only
     rw[ai]
     dsimp only
     rw[w1]
     by_cases h5:r a=r b
     ·rw[if_pos h5,decide_eq_true (by omega),wm (by omega)]; rfl
     ·rw[if_neg h5,decide_eq_false (by omega)]; rfl
    unfold bG
    by_cases h5:r a=r b
    ·rw[if_pos h5] at key
     dsimp only
     have:(r a == r b)=true:=by simpa using h5
     rw[this];exact⟨fun h=>(by cases h),fun _=>⟨_,_,bu key⟩⟩
    ·rw[if_neg h5] at key
     dsimp only
     have:(r a == r b)=false:=by simpa using h5
     rw[this,Bool.not_false,Bool.true_and,az key,List.foldl_cons];have hj:=hp.join hr (e:=(a,b)) ha g4;have:=ih (i+1) m _ _ _ (by omega) (by omega) hj (hr.join (a,b))
     rw[List.length_set] at this;exact this
   ·rw[Bool.not_eq_true] at h4;have hw:wi es x W i=false:=by unfold wi; rw[h4,Bool.and_false]
    rw[hw];have key:kj n es x W ((i:Int),p,p.length)=some (.inl (((i+1:Nat):Int),p,p.length)):=by
     unfold kj
     dsimp only
     rw[bC (by omega),aG hi,aW,Int.toNat_natCast,g1,ai]
     dsimp only
     rw[pV n x a b hx ha g4,ai,h3,dJ,ai,h4,dX,ai]
     dsimp only
     rw[dX,ai]
     dsimp only
     rw[ai]
     dsimp only
     rw[w1]
    rw[az key];exact ih (i+1) m p r E (by omega) (by omega) hp hr
  ·rw[Bool.not_eq_true] at h3;have hw:wi es x W i=false:=by unfold wi; rw[hin,h3]; rfl
   rw[hw];have key:kj n es x W ((i:Int),p,p.length)=some (.inl (((i+1:Nat):Int),p,p.length)):=by
    unfold kj
    dsimp only
    rw[bC (by omega),aG hi,aW,Int.toNat_natCast,g1,ai]
    dsimp only
    rw[pV n x a b hx ha g4,ai,h3,dX,ai]
    dsimp only
    rw[w1]
   rw[az key];exact ih (i+1) m p r E (by omega) (by omega) hp hr
theorem Dh (n:Nat) (p:List Int):DK n p.length p=fI n p:=rfl
theorem FK (n:Nat) (p:List Int):A0 n p.length p=fI n p:=rfl
theorem D0 (n:Nat) (p:List Int):z1 n p.length p=fI n p:=rfl
theorem Eb (n:Nat) (p:List Int) (z:List (Int × Int)):∀m v,bX (wj n p.length p) m (v,z)=(bX (fI n p) m v).map fun v=>(v,z):=by
 intro m
 induction m with
 | zero=>intro v; rfl
 | succ m ih =>
  intro v;have st:wj n p.length p (v,z)=(fI n p v).map fun x=>match x with | .inl v=>.inl (v,z) | .inr v=>.inr (v,z):=by
   unfold wj fI
   dsimp only
   cases bL v p.length
   ·rfl
   ·rw[aW,aW];cases p[v.toNat]? with
    | none=>rfl
    | some y =>
     rw[ai,ai];cases(!decide (y=v))<;>rfl
  unfold bX;rw[st];cases fI n p v with
  | none=>rfl
  | some x =>
   cases x with
   | inl v=>exact ih v
   | inr v=>rfl
def IZ (x:Nat) (r:Nat→Nat) (g:Nat) (v:Nat):Bool:=x.testBit v && r v == v && v != g
def rz (x:Nat) (r:Nat→Nat) (g i:Nat):List Nat:=(List.range i).filter (IZ x r g)
theorem D8 (x:Nat) (r:Nat→Nat) (g i:Nat):rz x r g (i+1)=if IZ x r g i then rz x r g i++[i] else rz x r g i:=by
 unfold rz;rw[List.range_succ,List.filter_append,List.filter_cons]
 split<;>simp
theorem Ku {x:Nat} {r:Nat→Nat} {g i v:Nat} (h:v ∈ rz x r g i):v<i:=by
 unfold rz at h;rw[List.mem_filter,List.mem_range] at h;exact h.1
def NM (x:Nat) (r:Nat→Nat) (g i:Nat) (T:List (Int × Int)):Prop :=
 T.length=(rz x r g i).length∧∀v:Nat,bW T (v:Int)=if v ∈ rz x r g i then some (((rz x r g i).idxOf v:Nat):Int) else none
theorem DF {n x:Nat} (hx:x<2 ^ 64) (hn:64<n) {p:List Int} {r:Nat→Nat} (hp:Fst p r) (g:Nat):∃T,bX (oT n x p.length p (g:Int)) n (([]:List (Int × Int)),0)=some T∧NM x r g 64 T:=by
 refine mw (body:=oT n x p.length p (g:Int)) 64 (fun(s:List (Int × Int)) (v:Int)=>(s,v)) id (fun i s=>NM x r g i s) (fun T i hi hI=>?_) (fun T _=>?_) (n:=n) ⟨rfl,fun v=>by simp[rz,bW,cy]⟩ hn
 ·have key:oT n x p.length p (g:Int) (T,(i:Int))=some (.inl (if IZ x r g i then fE T (i:Int) ((T.length:Nat):Int) else T,((i+1:Nat):Int))):=by
   unfold oT
   dsimp only
   rw[bC (by omega),cK (by omega),Int.toNat_natCast,yA hx (by omega),Dh,hp.root n i n hi (by omega),bY (by omega)]
   unfold IZ;cases x.testBit i
   ·rfl
   ·rw[dJ,ai,ai]
    by_cases h1:r i=i
    ·rw[bC (by omega),ai]
     by_cases h2:i=g
     ·rw[decide_eq_true (by omega)]; simp[h1,h2,ob,br]
     ·rw[decide_eq_false (by omega)]; simp[h1,h2,ob,br]
    ·rw[bt (by omega),ai]; simp[h1,ob,br]
  refine⟨_,key,?_⟩;obtain⟨hl,hg⟩:=hI;have hni:i ∉ rz x r g i:=fun h=>Nat.lt_irrefl _ (Ku h);unfold NM;rw[D8]
  by_cases hP:IZ x r g i=true
  ·rw[if_pos hP,if_pos hP];have hnone:bW T (i:Int)=none:=by rw[hg,if_neg hni]
   refine⟨by rw[FT _ _ _ hnone,hl,List.length_append]; rfl,fun v=>?_⟩
   rw[sL,hg,hl]
   by_cases hv:v=i
   ·subst hv;rw[if_pos rfl,if_pos (by simp),List.idxOf_append,if_neg hni]; simp
   ·rw[if_neg (by omega)]
    by_cases hm:v ∈ rz x r g i
    ·rw[if_pos hm,if_pos (by simp[hm]),List.idxOf_append,if_pos hm]
    ·rw[if_neg hm,if_neg (by simp[hm,hv])]
  ·rw[if_neg hP,if_neg hP];exact⟨hl,hg⟩
 ·unfold oT
  dsimp only
  rw[bt (by decide)]; rfl
theorem D6 {n s:Nat} (hs:s≤64) (hn:64<n) (T:List (Int × Int)) (hT:T.length=s):∃L,bX (p5 n s T) n ((List.replicate s ([]:List (Bool × List Nat))),0)=some L∧sq s L fun _ _=>0:=by
 have:=mw (body:=p5 n s T) s (fun(l:List (List (Bool × List Nat))) (v:Int)=>(l,v)) id (fun i l=>l.length=s∧∀v,v<i→l[v]? = some (List.replicate s (false,[]))) (fun l i hi hI=>?_) (fun l _=>?_) (n:=n) (s:=List.replicate s []) ⟨by simp,fun v hv=>absurd hv (Nat.not_lt_zero _)⟩ (by omega)
 ·obtain⟨L,h1,h2,h3⟩:=this;refine⟨L,h1,h2,fun r hr=>⟨_,h3 r hr,by simp,fun c hc=>⟨false,[],by rw[List.getElem?_replicate,if_pos hc],Lg.zero⟩⟩⟩
 ·refine⟨l.set i (List.replicate s (false,[])),?_,by rw[List.length_set]; exact hI.1,fun v hv=>?_⟩
  ·unfold p5
   dsimp only
   have e3:l[i]? = some (l[i]'(by rw[hI.1]; exact hi)):=List.getElem?_eq_getElem _
   rw[bC (by omega),ai,hT,cK (by omega),Int.toNat_natCast,gD (by omega),aW,aG hi,aW,Int.toNat_natCast,e3,ai,cK (by omega),bY (by omega)]
  ·by_cases hvi:v=i
   ·subst hvi; rw[List.getElem?_set_self (by rw[hI.1]; exact hi)]
   ·rw[List.getElem?_set_ne (fun e=>hvi e.symm)]; exact hI.2 v (by omega)
 ·unfold p5
  dsimp only
  rw[bt (by omega)]; rfl
def zm (n y4:Nat) (l1:List (Int × Int)) (v w c:Int) (l2:List (List (Bool × List Nat))):Option (List (List (Bool × List Nat))) :=
ob (some ((bW l1 v).getD (0:Int),(bW l1 v).isSome)) fun(y2,y5) =>
ob (some ((bW l1 w).getD (0:Int),(bW l1 w).isSome)) fun(y3,y6) =>
ob (
br (y5) (
some y6) (
some false)) fun v0 =>
br (v0) (
gd (bL y2 ((y4:Int).toNat)) (
ob (l2[y2.toNat]?) fun l3 =>
gd (decide (0<l3.length)) (
gd (bL y2 ((y4:Int).toNat)) (
ob (l2[y2.toNat]?) fun l4 =>
gd (decide (0<l4.length)) (
gd (bL y3 l4.length) (
ob (l4[y3.toNat]?) fun(x3,l5) =>
ob (wq n c) fun(r0,l7) =>
ob (o6 n x3 l5 r0 l7) fun(r1,l8) =>
gd (bL y3 l3.length) (
gd (Nat.blt y3.toNat l3.length) (
some (l2.set y2.toNat (l3.set y3.toNat (r1,l8))))))))))) (
some l2)
theorem xK (n:Nat) (es:List (Int × Int)) (x:Nat) (p:List Int) (O:List (Int × Bool)) (T:List (Int × Int)) (s:Nat) (i:Int) (L:List (List (Bool × List Nat))) :
  sf n es x p.length p O T s (i,L)=br (decide (i<(es.length:Int))) (gd (bL i es.length) (ob (es[i.toNat]?) fun e=>ob (ob (G5 n x e.1 e.2) fun q=>br q
   (ob (ob (ob (bX (A0 n p.length p) n e.1) fun v=>some v) fun va=>ob (ob (bX (z1 n p.length p) n e.2) fun v=>some v) fun vb =>
    ob (ob (some ((bW O i).getD false)) fun y=>br y (some true) (some (decide (va=vb)))) fun t=>br t (some L)
     (ob (zm n s T va va 1 L) fun L1=>ob (zm n s T vb vb 1 L1) fun L2=>ob (zm n s T va vb (-1) L2) fun L3=>ob (zm n s T vb va (-1) L3) fun L4=>some L4)) fun L5=>some L5)
   (some L)) fun L6=>some (.inl (IntKind.wrap .i64 (i+1),L6)))) (some (.inr L)):=rfl
theorem pq {n s:Nat} (hn:100<n) {P:List Nat} (hP:P.length=s) {T:List (Int × Int)} (hT:∀v:Nat,bW T (v:Int)=if v ∈ P then some ((P.idxOf v:Nat):Int) else none)
  {L:List (List (Bool × List Nat))} {M:Mt} {B:Nat} (hL:sq s L M) (hM:∀r c,r<s→c<s→(M r c).natAbs≤B) (hB:B<1000) {c:Int} {t:Bool} {k:List Nat} (hc:wq n c=some (t,k)) (hg:Lg c t k) (hc1:c.natAbs≤1) (v w:Nat) :
  ∃L',zm n s T (v:Int) (w:Int) c L=some L'∧sq s L' (fun a b=>M a b+if a=P.idxOf v∧b=P.idxOf w then c else 0)∧∀r c',r<s→c'<s→(M r c'+if r=P.idxOf v∧c'=P.idxOf w then c else 0).natAbs≤B+1:=by
 have hbd:∀r c',r<s→c'<s→(M r c'+if r=P.idxOf v∧c'=P.idxOf w then c else 0).natAbs≤B+1:=fun r c' h1 h2=>by
  have:=hM r c' h1 h2
  split<;>omega
 by_cases h:v ∈ P∧w ∈ P
 ·have hv:P.idxOf v<s:=by rw[←hP]; exact List.idxOf_lt_length_iff.2 h.1
  have hw:P.idxOf w<s:=by rw[←hP]; exact List.idxOf_lt_length_iff.2 h.2
  obtain⟨row,t1,k1,a1,a2,a3,a4⟩:=hL.at hv hw;have l1:k1.length≤1:=a4.len (by have:=hM _ _ hv hw; show _<18446744073709551616; omega)
  have l2:k.length≤1:=hg.len (by show _<18446744073709551616; omega)
  obtain⟨u,q,u1,u2⟩:=Bc (n:=n) a4 hg (by omega) (by omega) (by omega)
  refine⟨L.set (P.idxOf v) (row.set (P.idxOf w) (u,q)),?_,(hL.set hv hw a1 u2).congr fun a b _ _=>?_,hbd⟩
  ·unfold zm;rw[hT v,hT w,if_pos h.1,if_pos h.2];simp only[Option.getD_some,Option.isSome_some,ai,dJ,Int.toNat_natCast];rw[aG hv,aW,a1,ai,cK (by omega),aW,ai,cK (by omega),a2,aG hw,aW,a3,ai]
   dsimp only
   rw[hc,ai]
   dsimp only
   rw[u1,ai]
   dsimp only
   rw[aW,Ds hw,aW]
  ·by_cases h1:a=P.idxOf v∧b=P.idxOf w
   ·rw[if_pos h1,if_pos h1,h1.1,h1.2]
   ·rw[if_neg h1,if_neg h1,Int.add_zero]
 ·refine⟨L,?_,hL.congr fun a b ha hb=>?_,hbd⟩
  ·unfold zm;rw[hT v,hT w]
   by_cases hv:v ∈ P
   ·have hw:w ∉ P:=fun e=>h ⟨hv,e⟩;rw[if_pos hv,if_neg hw]; rfl
   ·rw[if_neg hv]
    by_cases hw:w ∈ P
    ·rw[if_pos hw]; rfl
    ·rw[if_neg hw]; rfl
  ·have h1:¬(a=P.idxOf v∧b=P.idxOf w):=fun e=>h ⟨List.idxOf_lt_length_iff.1 (by rw[←e.1,hP]; exact ha),List.idxOf_lt_length_iff.1 (by rw[←e.2,hP]; exact hb)⟩
   rw[if_neg h1,Int.add_zero]
def ki (es:List (Int × Int)) (x:Nat) (O:List (Int × Bool)) (i:Nat):Bool:=cC es x (i:Int) && !(bW O (i:Int)).getD false
def kl (es:List (Int × Int)) (x:Nat) (O:List (Int × Bool)) (i:Nat):List (Nat × Nat):=((List.range i).filter (ki es x O)).map fun(k:Nat)=>eg es (k:Int)
theorem Hs (es:List (Int × Int)) (x:Nat) (O:List (Int × Bool)) (i:Nat):kl es x O (i+1)=if ki es x O i then kl es x O i++[eg es (i:Int)] else kl es x O i:=by
 unfold kl;rw[List.range_succ,List.filter_append,List.filter_cons]
 split<;>simp
theorem FA (es:List (Int × Int)) (x:Nat) (O:List (Int × Bool)) (i:Nat):(kl es x O i).length≤i:=by
 unfold kl;rw[List.length_map];have:=List.length_filter_le (ki es x O) (List.range i);rwa[List.length_range] at this
theorem uO (φ:Nat→Nat) (e:Nat × Nat) (a b:Nat):∀E,iH φ (E++[e]) a b=iH φ E a b+dl φ e a*dl φ e b
 | []=>by simp[iH]
 | d::E=>by
  rw[List.cons_append];simp only[iH];rw[uO φ e a b E];omega
theorem I0 (φ:Nat→Nat) (e:Nat × Nat) (a:Nat):dl φ e a=0∨dl φ e a=1∨dl φ e a = -1:=by
 unfold dl
 split<;>split<;>simp
theorem zN (φ:Nat→Nat) (a b:Nat):∀E,(iH φ E a b).natAbs≤E.length
 | []=>by simp[iH]
 | d::E=>by
  have:=zN φ a b E;simp only[iH,List.length_cons];rcases I0 φ d a with h|h|h<;>rcases I0 φ d b with h' | h' | h'<;>rw[h,h']<;>omega
theorem HT (m:Int) {p q u w:Prop} [Decidable p] [Decidable q] [Decidable u] [Decidable w] :
  m+(if p∧u then 1 else 0)+(if q∧w then 1 else 0)+(if p∧w then -1 else 0)+(if q∧u then -1 else 0)=m+((if p then 1 else 0)-(if q then 1 else 0))*((if u then 1 else 0)-(if w then 1 else 0)):=by
 by_cases hp:p<;>by_cases hq:q<;>by_cases hu:u<;>by_cases hw:w<;>simp[hp,hq,hu,hw]<;>try omega
theorem FC {N:Nat} {es:List (Int × Int)} (h:Okay N es) {n x:Nat} (hx:x<2 ^ 64) (hn:200<n) {p:List Int} {r:Nat→Nat} (hp:Fst p r) (O:List (Int × Bool))
  {P:List Nat} {s:Nat} (hP:P.length=s) {T:List (Int × Int)} (hT:∀v:Nat,bW T (v:Int)=if v ∈ P then some ((P.idxOf v:Nat):Int) else none)
  {L:List (List (Bool × List Nat))} (hL:sq s L fun _ _=>0) :
  ∃L',bX (sf n es x p.length p O T s) n (0,L)=some L'∧sq s L' (iH (fun v=>P.idxOf (r v)) (kl es x O es.length)):=by
 have hlen:=h.len;refine mw (body:=sf n es x p.length p O T s) es.length (fun(l:List (List (Bool × List Nat))) (v:Int)=>(v,l)) id (fun i l=>sq s l (iH (fun v=>P.idxOf (r v)) (kl es x O i))) (fun l i hi hI=>?_) (fun l _=>?_) (n:=n) hL (by omega)
 ·obtain⟨a,b,g1,g2,g3,g4,_,g5⟩:=jR h (k:=(i:Int)) ⟨by omega,by omega⟩
  rw[Int.toNat_natCast] at g1;have ha:a<64:=by omega
  have hin:cC es x (i:Int)=(x.testBit a && x.testBit b):=by
   simp only[cC,g2];rw[decide_eq_true ⟨by omega,by omega⟩,Bool.true_and]
  rw[xK,bC (by omega),aG hi,aW,Int.toNat_natCast,g1,ai]
  dsimp only
  rw[pV n x a b hx ha g4,ai,bY (by omega)]
  rw[Hs];unfold ki;rw[hin,g2]
  by_cases h3:(x.testBit a && x.testBit b)=true
  ·rw[h3,dJ,FK,D0,hp.root n a n ha (by omega),hp.root n b n g4 (by omega)]
   simp only[ai,Bool.true_and]
   by_cases h4:(bW O (i:Int)).getD false=true
   ·rw[h4,dJ,ai,dJ,ai,ai];exact⟨l,rfl,hI⟩
   ·rw[Bool.not_eq_true] at h4;rw[h4,dX,ai,Bool.not_false,if_pos rfl]
    by_cases h5:r a=r b
    ·rw[bC (by omega),ai,ai]
     refine⟨l,rfl,hI.congr fun c d _ _=>?_⟩;rw[uO];simp[dl,h5]
    ·rw[bt (by omega)]
     have hM:∀c d,c<s→d<s→(iH (fun v=>P.idxOf (r v)) (kl es x O i) c d).natAbs≤200:=fun c d _ _=>by
      have h1:=zN (fun v=>P.idxOf (r v)) c d (kl es x O i);have h2:=FA es x O i;omega
     obtain⟨L1,m1,n1,b1⟩:=pq (n:=n) (by omega) hP hT hI hM (by omega) (uV (by omega)) yx (by decide) (r a) (r a)
     obtain⟨L2,m2,n2,b2⟩:=pq (n:=n) (by omega) hP hT n1 b1 (by omega) (uV (by omega)) yx (by decide) (r b) (r b)
     obtain⟨L3,m3,n3,b3⟩:=pq (n:=n) (by omega) hP hT n2 b2 (by omega) (By (by omega)) F2 (by decide) (r a) (r b)
     obtain⟨L4,m4,n4,b4⟩:=pq (n:=n) (by omega) hP hT n3 b3 (by omega) (By (by omega)) F2 (by decide) (r b) (r a)
     refine⟨L4,by rw[m1,ai,m2,ai,m3,ai,m4,ai,ai,ai],n4.congr fun c d _ _=>?_⟩
     rw[uO];exact HT _
  ·rw[Bool.not_eq_true] at h3;rw[h3,dX,ai];exact⟨l,rfl,hI⟩
 ·rw[xK,bt (by omega)]; rfl
theorem sP {f:Nat→Int} {C:Nat}:∀n,(∀i,i<n→(f i).natAbs≤C)→(sm n f).natAbs≤n*C
 | 0,_=>by simp[sm]
 | n+1,h=>by
  have h1:=sP n fun i hi=>h i (by omega)
  have h2:=h n (by omega)
  simp only[sm];rw[Nat.add_mul,Nat.one_mul];omega
theorem Cq (i:Nat) (x:Int):(sg i*x).natAbs=x.natAbs:=by
 unfold sg
 split<;>simp
theorem F9 {C N:Nat}:∀(n:Nat) (A:Mt),n≤N→(∀r c,r<n→c<n→(A r c).natAbs≤C)→(cr n A).natAbs≤(N*C) ^ n
 | 0,_,_,_=>by simp[cr]
 | n+1,A,hn,h=>by
  simp only[cr];have:=sP (C:=C*(N*C) ^ n) (n+1) (f:=fun i=>sg i*(A i 0*cr n (nR A i))) fun i hi=>by
   rw[Cq,Int.natAbs_mul];exact Nat.mul_le_mul (h i 0 hi (by omega)) (F9 n (nR A i) (by omega) fun r c hr hc=>h _ _ (zj hr) (by omega))
  refine Nat.le_trans ?_ (Nat.le_trans this ?_)
  ·refine Nat.le_of_eq (congrArg Int.natAbs (gR fun i _=>?_));simp only[Int.mul_assoc]
  ·rw[Nat.pow_succ,Nat.mul_comm ((N*C) ^ n),←Nat.mul_assoc];exact Nat.mul_le_mul_right _ (Nat.mul_le_mul_right _ hn)
theorem Cd (φ:Nat→Nat) (E:List (Nat × Nat)) (hE:E.length≤200) {k r c:Nat} (hk:k<64):(cr (k+1) (jJ (iH φ E) k r c)).natAbs<wp 15:=by
 have h1:=F9 (C:=200) (N:=64) (k+1) (jJ (iH φ E) k r c) (by omega) fun a b _ _=>Nat.le_trans (zN φ _ _ E) hE
 have h2:(64*200) ^ (k+1)≤(64*200) ^ 64:=Nat.pow_le_pow_right (by decide) (by omega)
 have h3:(64*200) ^ 64<wp 15:=by decide
 omega
theorem A3 (x:Nat) (r:Nat→Nat) (g:Nat):(rz x r g 64).length≤64:=by
 unfold rz;have:=List.length_filter_le (IZ x r g) (List.range 64);rwa[List.length_range] at this
def rW (es:List (Int × Int)) (x:Nat) (W:List (Int × Bool)):Nat→Nat:=(wl es x W 0 es.length).foldl bf fun x=>x
def pW (es:List (Int × Int)) (x:Nat) (W:List (Int × Bool)):List Nat:=rz x (rW es x W) (rW es x W (tz x)) 64
def mW (es:List (Int × Int)) (x:Nat) (W O:List (Int × Bool)):Mt:=iH (fun v=>(pW es x W).idxOf (rW es x W v)) (kl es x O es.length)
theorem Ke {N:Nat} {es:List (Int × Int)} (h:Okay N es) {n x:Nat} (hx:x<2 ^ 64) (h0:0<x) (hn:300<n) (x1:Int) (W O:List (Int × Bool)) :
  (bG (fun x=>x) (wl es x W 0 es.length)=false→C4 n x1 es x W O=some (false,[])) ∧
  (bG (fun x=>x) (wl es x W 0 es.length)=true→(∀k,k<(pW es x W).length→(cr k (mW es x W O)).natAbs<18446744073709551616) →
   ∃t q,C4 n x1 es x W O=some (t,q)∧Lg (Ja (pW es x W).length 0 (mW es x W O) 1) t q):=by
 have hlen:=h.len;obtain⟨p0,f1,f2⟩:=It n (by omega)
 have f3:=EJ h hx (show 64<n by omega) W es.length 0 n p0 (fun x=>x) [] (by omega) (by omega) f2 Rt.id
 have hF:I8 n x=some ((tz x:Nat):Int):=by unfold I8; rw[cK hx]
 have htz:tz x<64:=qq hx (fL h0 hx).1;refine⟨fun ha=>?_,fun ha hP=>?_⟩
 ·obtain⟨p',k,g1⟩:=f3.2 ha;unfold C4;rw[f1,ai,ai];rw[show(0:Int)=((0:Nat):Int) from rfl,g1]
  rfl
 ·obtain⟨p,E',g1,hp,hr⟩:=f3.1 ha
  change Fst p (rW es x W) at hp
  clear hr;obtain⟨T,t1,t2,t3⟩:=DF (n:=n) hx (by omega) hp (rW es x W (tz x))
  obtain⟨L,l1,l2⟩:=D6 (n:=n) (A3 x (rW es x W) (rW es x W (tz x))) (by omega) T t2
  obtain⟨L',m1,m2⟩:=FC h hx (by omega:200<n) hp O rfl t3 l2
  have hs:=A3 x (rW es x W) (rW es x W (tz x));have hD:∀k r c,k<(pW es x W).length→r<(pW es x W).length→c<(pW es x W).length→(cr (k+1) (jJ (mW es x W O) k r c)).natAbs<wp 15:=fun k r c hk _ _=>Cd _ _ (Nat.le_trans (FA _ _ _ _) hlen) (Nat.lt_of_lt_of_le hk hs);obtain⟨t,q,h1,h2⟩:=Cb (n:=n) (by omega) hs hD hP (pW es x W).length 0 n L' (mW es x W O) 1 false [1] (Nat.add_zero _) (Nat.lt_of_le_of_lt hs (by omega)) m2 (Bar.start _ _) yx
  refine⟨t,q,?_,h2⟩;unfold C4;rw[f1,ai,ai];rw[show(0:Int)=((0:Nat):Int) from rfl,g1]
  dsimp only[ai]
  rw[hF,ai,Eb,hp.root n (tz x) n htz (by omega)]
  dsimp only[ai,Option.map_some]
  have t1':bX (oT n x p.length p ((rW es x W (tz x):Nat):Int)) n (([]:List (Int × Int)),((0:Nat):Int))=some T:=t1;rw[t1',ai,t2,cK (by omega),Int.toNat_natCast,gD (by omega),aW]
  have l1':bX (p5 n (rz x (rW es x W) (rW es x W (tz x)) 64).length T) n (List.replicate (rz x (rW es x W) (rW es x W (tz x)) 64).length ([]:List (Bool × List Nat)),((0:Nat):Int))=some L:=l1;rw[l1',ai];have m1':bX (sf n es x p.length p O T (rz x (rW es x W) (rW es x W (tz x)) 64).length) n (((0:Nat):Int),L)=some L':=m1;rw[m1',ai,ai,uV (by omega),ai]
  have h1':bX (iA n (rz x (rW es x W) (rW es x W (tz x)) 64).length) n (L',false,[1],((0:Nat):Int))=some (.inl (t,q))∨bX (iA n (rz x (rW es x W) (rW es x W (tz x)) 64).length) n (L',false,[1],((0:Nat):Int))=some (.inr (t,q)):=h1;rcases h1' with h1|h1<;>rw[h1]<;>rfl
theorem Aj {l:List Nat} {a b:Nat} (ha:a ∈ l) (h:l.idxOf a=l.idxOf b):a=b:=by
 have h1:l.idxOf a<l.length:=List.idxOf_lt_length_iff.2 ha;have e1:l[l.idxOf a]? = some a:=by rw[List.getElem?_eq_getElem h1,List.getElem_idxOf]
 have h2:l.idxOf b<l.length:=by rw[←h]; exact h1
 have e2:l[l.idxOf b]? = some b:=by rw[List.getElem?_eq_getElem h2,List.getElem_idxOf]
 rw[h,e2] at e1;exact(Option.some.inj e1).symm
theorem yO {l:List Nat} {a:Nat}:l.idxOf a≤l.length:=List.idxOf_le_length
def kx (es:List (Int × Int)) (x:Nat) (O:List (Int × Bool)):List Int:=((List.range es.length).filter (ki es x O)).map fun(k:Nat)=>(k:Int)
theorem Eg (es:List (Int × Int)) (x:Nat) (O:List (Int × Bool)):(kx es x O).map (eg es)=kl es x O es.length:=by
 unfold kx kl;rw[List.map_map]; rfl
theorem KM {es:List (Int × Int)} {x:Nat} {O:List (Int × Bool)} {k:Int} (h:k ∈ kx es x O):cC es x k=true:=by
 obtain⟨m,h1,rfl⟩:=List.mem_map.1 h;have:=(List.mem_filter.1 h1).2;unfold ki at this;rw[Bool.and_eq_true] at this;exact this.1
theorem BI {N:Nat} {es:List (Int × Int)} (h:Okay N es) {x:Nat} {k:Int} (hk:cC es x k=true):(eg es k).1 ∈ fy x 64∧(eg es k).2 ∈ fy x 64:=by
 obtain⟨h1,h2,h3⟩:=da hk;obtain⟨a,b,_,e,e1,e2,_⟩:=jR h h1;rw[e] at h2 h3 ⊢;exact⟨dW.2 ⟨by omega,h2⟩,dW.2 ⟨e2,h3⟩⟩
theorem DT {N:Nat} {es:List (Int × Int)} (h:Okay N es) {x:Nat} {W:List (Int × Bool)} {i j:Nat}:∀e ∈ wl es x W i j,e.1 ∈ fy x 64∧e.2 ∈ fy x 64:=fun e he=>by
 obtain⟨m,h1,rfl⟩:=List.mem_map.1 he;have:=(List.mem_filter.1 h1).2;unfold wi at this;rw[Bool.and_eq_true] at this;exact BI h this.1
section
variable {N : Nat} {es : List (Int × Int)} {x : Nat} {W O : List (Int × Bool)}
theorem I7:Rt (rW es x W) (wl es x W 0 es.length).reverse:=tD _
theorem yn (h:Okay N es) {v:Nat} (hv:v ∈ fy x 64):rW es x W v ∈ fy x 64:=(gm (kJ x) (DT h)).2 v hv
theorem jY (hx:x<2 ^ 64) (h0:0<x):tz x ∈ fy x 64:=dW.2 ⟨qq hx (fL h0 hx).1,(fL h0 hx).1⟩
theorem EO {v:Nat}:v ∈ pW es x W↔v ∈ fy x 64∧rW es x W v=v∧v≠rW es x W (tz x):=by
 unfold pW rz IZ;rw[List.mem_filter,List.mem_range,dW];simp[and_assoc]
theorem D2 (h:Okay N es) (hx:x<2 ^ 64) (h0:0<x):iU (fy x 64) (rW es x W)=(pW es x W).length+1:=by
 have hg:=yn (W:=W) h (jY hx h0);have hrr:=(I7 (es:=es) (x:=x) (W:=W)).rr (tz x);have e1:iU (fy x 64) (rW es x W)=((List.range 64).filter fun v=>x.testBit v && rW es x W v == v).length:=by
  unfold iU fy;rw[List.filter_filter]
  congr 2
  funext v
  exact Bool.and_comm _ _
 rw[e1];unfold pW rz;refine j5 (a:=rW es x W (tz x)) List.nodup_range (List.mem_range.2 (dW.1 hg).1) ?_ fun v=>?_
 ·simp[(dW.1 hg).2,hrr]
 ·unfold IZ;simp
theorem Dm (h:Okay N es) (hx:x<2 ^ 64) (h0:0<x) (ha:bG (fun x=>x) (wl es x W 0 es.length)=true):(pW es x W).length+1+(wl es x W 0 es.length).length=rk x 64:=by
 have h1:=(gm (kJ x) (DT (W:=W) (i:=0) (j:=es.length) h)).1;have h2:=(ot (wl es x W 0 es.length) fun x=>x).2 ha;rw[h2] at h1;have h3:=D2 (W:=W) h hx h0;unfold rk;have e:rep (wl es x W 0 es.length)=rW es x W:=rfl;rw[e] at h1;omega
theorem KO (h:Okay N es) {v w:Nat} (hv:v ∈ fy x 64) (hw:w ∈ fy x 64):rW es x W v=rW es x W w↔(pW es x W).idxOf (rW es x W v)=(pW es x W).idxOf (rW es x W w):=by
 refine⟨fun e=>by rw[e],fun e=>?_⟩
 have hrr:=fun v=>(I7 (es:=es) (x:=x) (W:=W)).rr v
 by_cases h1:rW es x W v ∈ pW es x W
 ·exact Aj h1 e
 ·by_cases h2:rW es x W w ∈ pW es x W
  ·exact(Aj h2 e.symm).symm
  ·have g1:rW es x W v=rW es x W (tz x):=Classical.byContradiction fun hc=>h1 (EO.2 ⟨yn h hv,hrr v,hc⟩);have g2:rW es x W w=rW es x W (tz x):=Classical.byContradiction fun hc=>h2 (EO.2 ⟨yn h hw,hrr w,hc⟩);rw[g1,g2]
theorem IU (s:Nat):dg s (fun i=>i)=s:=by
 unfold dg;rw[List.filter_eq_self.2 (fun i _=>by simp)]
 exact List.length_range
end
theorem zS {s:Nat}:∀(E:List (Nat × Nat)) (ρ:Nat→Nat),Rho s ρ→(∀e ∈ E,e.1≤s∧e.2≤s)→pE s ρ E≤cb E.length (dg s ρ)
 | [],ρ,h,_=>by
  simp only[pE,List.length_nil]
  by_cases h0:dg s ρ=0
  ·rw[if_pos (kS.1 h0),h0]; exact Nat.le_refl _
  ·rw[if_neg (fun e=>h0 (kS.2 e))]; exact Nat.zero_le _
 | (a,b)::E,ρ,h,hE=>by
  have ha:a≤s:=(hE (a,b) List.mem_cons_self).1;have hb:b≤s:=(hE (a,b) List.mem_cons_self).2;have hE':∀e ∈ E,e.1≤s∧e.2≤s:=fun e he=>hE e (List.mem_cons_of_mem _ he);have h1:=zS E ρ h hE';simp only[pE,List.length_cons]
  by_cases hab:ρ a=ρ b
  ·rw[if_pos hab];exact Nat.le_trans h1 (AN (Nat.le_succ _) _)
  ·rw[if_neg hab];have h2:=zS E _ (h.step ha hb hab) hE';have h3:=AW h ha hb hab;rw[h3] at h1 ⊢;rw[pt];omega
theorem Ci (φ:Nat→Nat) (E:List (Nat × Nat)) (k:Nat):(cr k (iH φ E)).natAbs≤cb E.length k:=by
 rw[qv];have:=zS (s:=k) (iL (fun v=>vv k (φ v)) E) (fun i=>i) (Rho.id k) fun e he=>by
  unfold iL at he;obtain⟨e',_,rfl⟩:=List.mem_map.1 he;exact⟨nT _ _,nT _ _⟩
 rw[IU] at this;unfold iL at this;rw[List.length_map] at this;exact this
section
variable {N : Nat} {es : List (Int × Int)} {x : Nat} {W O : List (Int × Bool)}
theorem Ap (h:Okay N es) {n:Nat} (hx:x<2 ^ 64) (h0:0<x) (hn:300<n) (x1:Int) (hk:∀k,k<(pW es x W).length→cb (kx es x O).length k<18446744073709551616) :
  (bG (fun x=>x) (wl es x W 0 es.length)=false→C4 n x1 es x W O=some (false,[])) ∧
  (bG (fun x=>x) (wl es x W 0 es.length)=true→∃t q,C4 n x1 es x W O=some (t,q)∧Lg ((gw es (kx es x O) (pW es x W).length (rW es x W)).length:Int) t q):=by
 have hF:=Ke h hx h0 hn x1 W O;refine⟨hF.1,fun ha=>?_⟩;have hkl:(kl es x O es.length).length=(kx es x O).length:=by rw[←Eg,List.length_map]
 obtain⟨t,q,h1,h2⟩:=hF.2 ha fun k hk'=>by
  have:=Ci (fun v=>(pW es x W).idxOf (rW es x W v)) (kl es x O es.length) k;have h3:=hk k hk';rw[hkl] at this;unfold mW;omega
 refine⟨t,q,h1,?_⟩;have e1:Ja (pW es x W).length 0 (mW es x W O) 1=_:=H9 (fun v=>(pW es x W).idxOf (rW es x W v)) (kl es x O es.length) (pW es x W).length fun e _=>⟨yO,yO⟩;have e2:=yh (es:=es) (V:=fun v=>v ∈ fy x 64) (s:=(pW es x W).length) (ψ:=fun v=>(pW es x W).idxOf (rW es x W v)) (fun v _=>yO) (kx es x O) (rW es x W) (fun i=>i) (Rho.id _) (fun v w hv hw=>KO h hv hw) (fun k hk=>BI h (KM hk));rw[IU,Eg] at e2;rw[e1,←e2] at h2;exact h2
end
def yJ (l:List Nat):List Nat:=List.zipWith (· + ·) (0::l) l
def sW (K:Nat):Nat→List Nat
 | 0=>1::List.replicate K 0
 | e+1=>yJ (sW K e)
theorem nq (K:Nat):∀e k,k≤K→(sW K e)[k]? = some (cb e k)
 | 0,0,_=>rfl
 | 0,k+1,h=>by
  show(List.replicate K 0)[k]? = some 0
  rw[List.getElem?_replicate,if_pos (by omega)]
 | e+1,0,h=>by
  have:=nq K e 0 h;unfold sW yJ;rw[List.getElem?_zipWith,this,List.getElem?_cons_zero,nr,nr]
 | e+1,k+1,h=>by
  have h1:=nq K e k (by omega)
  have h2:=nq K e (k+1) h;unfold sW yJ;rw[List.getElem?_zipWith,h2,List.getElem?_cons_succ,h1,pt]
theorem E3 {K e B:Nat} (h:(sW K e).all (fun x=>Nat.blt x B)=true) {k:Nat} (hk:k≤K):cb e k<B:=by
 have:=List.all_eq_true.1 h _ (List.mem_of_getElem? (nq K e k hk));rwa[Nat.blt_eq] at this
theorem LW (m:Nat):I1 (m+20) false []=some (0,0,0,0,0,0,0,0,0):=by rfl
theorem M0 (m c:Nat):I1 (m+20) false [c]=some (c,0,0,0,0,0,0,0,0):=by rfl
theorem qD {n c:Nat} (hn:20≤n) (hc:c<18446744073709551616) {t:Bool} {q:List Nat} (h:Lg (c:Int) t q):I1 n t q=some (c,0,0,0,0,0,0,0,0):=by
 obtain⟨m,rfl⟩:∃m,n=m+20:=⟨n-20,by omega⟩
 have ht:=h.BS;rw[decide_eq_false (by omega)] at ht
 subst ht
 by_cases h0:c=0
 ·subst h0;rw[(h.NT).2 rfl];exact LW m
 ·have:=h.MP (by omega) (by simpa using hc)
  rw[this];exact M0 m c
theorem FY (n:Nat) (N:Int) (es:List (Int × Int)) (x:Nat) (hx:x<2 ^ 64) (hl:es.length<4611686018427387904) (hk:es.length<n) (hn:2<n):K8 n N es x=some (Na N es x):=by
 unfold K8 Na;rw[Ao n N es hn hl hk,ai]
 by_cases hok:wT N es=true
 ·obtain⟨M,rfl,hO⟩:=pM hok;simp only[Mf,hok,if_true,decide_true,Bool.not_true,dX]
  by_cases h0:x=0
  ·simp[h0,br,ob]
  ·rw[bt h0,uk n x hx,ai,ai]
   by_cases h2:2 ^ M≤x
   ·have:M<bl x:=jO.2 h2;rw[decide_eq_true (show((M:Nat):Int)<((bl x:Nat):Int) by omega),dJ,if_pos (.inr (by simpa using h2))]
   ·have:¬M<bl x:=fun g=>h2 (jO.1 g);rw[decide_eq_false (show ¬((M:Nat):Int)<((bl x:Nat):Int) by omega),dX,if_neg (by simp[h0]; simpa using h2)]
 ·rw[Bool.not_eq_true] at hok;simp[Mf,hok,br]
def bZ (es:List (Int × Int)) (x:Nat):List (List Int):=gw es (il es x 0 es.length) (rk x 64-1) fun x=>x
theorem uB (es:List (Int × Int)) (x:Nat):kx es x []=il es x 0 es.length:=by
 unfold kx il;rw[List.range_eq_range']
 congr 1
 refine List.filter_congr fun k _=>?_;unfold ki;simp[bW,cy]
theorem JD (es:List (Int × Int)) (x i j:Nat):wl es x [] i j = []:=by
 unfold wl;rw[List.filter_eq_nil_iff.2 fun k _=>by unfold wi; simp[bW,cy]]; rfl
def ul (v:Nat):List Nat:=if v=0 then[] else[v]
theorem uP {v:Nat} (h:v≠0):ul v = [v]:=if_neg h
theorem qa {v:Nat} (h:v<18446744073709551616):Lg (v:Int) false (ul v):=by
 by_cases h0:v=0
 ·subst h0; exact Lg.zero
 ·rw[uP h0]; exact Lg.small h0 h false
theorem M5 (v:Nat):vl (ul v)=v:=by
 by_cases h0:v=0
 ·subst h0; rfl
 ·rw[uP h0]; simp[vl]
theorem yG (v:Nat):(ul v).length≤1:=by unfold ul; split<;>simp
theorem Ix {n:Nat} (hn:100<n):∀(b a m:Nat),a<18446744073709551616→b<18446744073709551616→b<m→bX (ou n) m (ul a,ul b)=some (ul (Nat.gcd a b)):=by
 intro b
 induction b using Nat.strongRecOn with
 | _ b ih =>
  intro a m ha hb hm;obtain⟨m,rfl⟩:∃m',m=m'+1:=⟨m-1,by omega⟩
  by_cases h:b=0
  ·subst h;rw[Nat.gcd_zero_right];exact bu (by unfold ou; rfl)
  ·have hla:=yG a;obtain⟨q,t,m',q1,q2,q3,q4,q5,q6⟩:=wV (n:=n) (qa ha).wd hb h (by omega) (by omega) (by omega)
   rw[M5] at q5;have hlt:=Nat.mod_lt a (show 0<b by omega)
   obtain⟨-,e2⟩:=q5.inj (qa (show a%b<18446744073709551616 by omega))
   have st:ou n (ul a,ul b)=some (.inl (ul b,ul (a%b))):=by
    rw[uP h];unfold ou
    dsimp only
    rw[bC (show(0:Int)<(([b]:List Nat).length:Int) by simp),q1,e2]; rfl
   rw[az st,ih (a%b) hlt b m hb (by omega) (by omega)]
   rw[Nat.gcd_comm a b,Nat.gcd_rec b a,Nat.gcd_comm]
def Kr (r r':Nat→Nat):Prop:=∀v w,r v=r w↔r' v=r' w
theorem Kr.join {r r':Nat→Nat} (h:Kr r r') (e:Nat × Nat):Kr (bf r e) (bf r' e):=by
 intro v w
 by_cases h1:r e.1=r e.2
 ·rw[fc h1,fc ((h _ _).1 h1)]; exact h v w
 ·rw[bP h1,bP (fun g=>h1 ((h _ _).2 g)),h v w,h v e.1,h v e.2,h w e.1,h w e.2]
theorem Fj (es:List (Int × Int)):∀(L:List Int) (d:Nat) {r r':Nat→Nat},Kr r r'→gw es L d r=gw es L d r'
 | L,0,_,_,_=>by cases L<;>rfl
 | [],d+1,_,_,_=>rfl
 | k::L,d+1,r,r',h=>by
  simp only[gw];rw[Fj es L (d+1) h,Fj es L d (h.join (eg es k))]
  by_cases h1:r (eg es k).1=r (eg es k).2
  ·rw[if_pos h1,if_pos ((h _ _).1 h1)]
  ·rw[if_neg h1,if_neg (fun g=>h1 ((h _ _).2 g))]
theorem vq (es:List (Int × Int)):∀(L:List Int) (d:Nat) (r:Nat→Nat),∀t ∈ gw es L d r,∀k ∈ t,k ∈ L
 | L,0,r,t,ht,k,hk=>by
  have:gw es L 0 r = [[]]:=by cases L<;>rfl
  rw[this,List.mem_singleton] at ht;rw[ht] at hk; cases hk
 | [],d+1,_,t,ht,_,_=>by cases ht
 | m::L,d+1,r,t,ht,k,hk=>by
  simp only[gw] at ht;rcases List.mem_append.1 ht with ht|ht
  ·split at ht
   ·cases ht
   ·obtain⟨t',h1,rfl⟩:=List.mem_map.1 ht;rcases List.mem_cons.1 hk with rfl|hk
    ·exact List.mem_cons_self
    ·exact List.mem_cons_of_mem _ (vq es L d _ t' h1 k hk)
  ·exact List.mem_cons_of_mem _ (vq es L (d+1) _ t ht k hk)
def hv (k:Int) (T:List (List Int)):Nat:=(T.filter fun t=>t.contains k).length
theorem yl (k:Int) (S T:List (List Int)):hv k (S++T)=hv k S+hv k T:=by unfold hv; rw[List.filter_append,List.length_append]
theorem HF {k:Int} {T:List (List Int)} (h:∀t ∈ T,k ∉ t):hv k T=0:=by
 unfold hv;rw[List.filter_eq_nil_iff.2 fun t ht=>by simpa using h t ht]; rfl
theorem wW (k:Int) (T:List (List Int)):hv k (T.map (k::·))=T.length:=by
 unfold hv;rw[List.filter_eq_self.2 fun t ht=>by
  obtain⟨t',_,rfl⟩:=List.mem_map.1 ht;simp,List.length_map]
theorem sA {k m:Int} (hne:k≠m) (T:List (List Int)):hv k (T.map (m::·))=hv k T:=by
 unfold hv;rw[List.filter_map,List.length_map]
 congr 2
 funext t
 simp[hne]
theorem uX (es:List (Int × Int)) (k:Int) (L:List Int) (d:Nat) {r:Nat→Nat} (h:r (eg es k).1=r (eg es k).2):gw es (k::L) d r=gw es L d r:=by
 cases d with
 | zero=>cases L<;>rfl
 | succ d=>simp only[gw]; rw[if_pos h,List.nil_append]
theorem join_self {r:Nat→Nat} (e:Nat × Nat):bf r e e.1=bf r e e.2:=by
 by_cases h:r e.1=r e.2
 ·rw[fc h]; exact h
 ·rw[bP h]; exact .inr ⟨.inl rfl,.inr rfl⟩
theorem join_comm {r:Nat→Nat} {e f:Nat × Nat} (he:r e.1≠r e.2) (hf:r f.1≠r f.2):(bf r e f.1=bf r e f.2↔bf r f e.1=bf r f e.2)∧Kr (bf (bf r e) f) (bf (bf r f) e):=by
 have h1:bf r e f.1=bf r e f.2↔bf r f e.1=bf r f e.2:=by
  rw[bP he,bP hf]; omega
 refine⟨h1,fun v w=>?_⟩
 by_cases h2:bf r e f.1=bf r e f.2
 ·rw[fc h2,fc (h1.1 h2),bP he,bP hf];rw[bP he] at h2;omega
 ·have h3:¬bf r f e.1=bf r f e.2:=fun g=>h2 (h1.2 g);rw[bP h2,bP h3];rw[bP he] at h2;rw[bP hf] at h3;simp only[bP he,bP hf];clear h1;generalize r v=a;generalize r w=b;generalize r e.1=p at *;generalize r e.2=q at *;generalize r f.1=u at *;generalize r f.2=z at *
  grind
theorem D7 (es:List (Int × Int)) (k:Int):∀(L:List Int) (d:Nat) (r:Nat→Nat),L.Nodup→k ∈ L→r (eg es k).1≠r (eg es k).2→hv k (gw es L (d+1) r)=(gw es L d (bf r (eg es k))).length
 | m::L,d,r,hn,hk,hr=>by
  obtain⟨n1,n2⟩:=List.nodup_cons.1 hn
  by_cases hkm:k=m
  ·subst hkm;simp only[gw];rw[if_neg hr,yl,wW,HF fun t ht hkt=>n1 (vq es L (d+1) r t ht k hkt),uX es k L d (join_self _)]
   rfl
  ·have hk':k ∈ L:=(List.mem_cons.1 hk).resolve_left hkm;simp only[gw];rw[yl,D7 es k L d r n2 hk' hr]
   by_cases hm:r (eg es m).1=r (eg es m).2
   ·rw[if_pos hm];have:bf r (eg es k) (eg es m).1=bf r (eg es k) (eg es m).2:=by rw[bP hr]; exact .inl hm
    rw[uX es m L d this]
    show 0+_=_
    omega
   ·rw[if_neg hm,sA hkm];obtain⟨c1,c2⟩:=join_comm hm hr;cases d with
    | zero =>
     have e0:∀(L:List Int) (r:Nat→Nat),gw es L 0 r = [[]]:=fun L r=>by cases L<;>rfl
     rw[e0,e0,e0]; rfl
    | succ d =>
     by_cases h2:bf r (eg es m) (eg es k).1=bf r (eg es m) (eg es k).2
     ·have h3:=c1.1 h2;rw[uX es m L (d+1) h3];have:hv k (gw es L (d+1) (bf r (eg es m)))=0:=hv_none_loop es k L (d+1) _ h2;rw[this]; omega
     ·have h3:¬bf r (eg es k) (eg es m).1=bf r (eg es k) (eg es m).2:=fun g=>h2 (c1.2 g);rw[D7 es k L d _ n2 hk' h2];simp only[gw];rw[if_neg h3,List.length_append,List.length_map,Fj es L d c2]
where
 hv_none_loop (es:List (Int × Int)) (k:Int):∀(L:List Int) (d:Nat) (r:Nat→Nat),r (eg es k).1=r (eg es k).2→hv k (gw es L d r)=0
 | L,0,r,_=>by
  have:gw es L 0 r = [[]]:=by cases L<;>rfl
  rw[this]; rfl
 | [],d+1,r,_=>rfl
 | m::L,d+1,r,h=>by
  simp only[gw];rw[yl,hv_none_loop es k L (d+1) r h]
  by_cases hm:r (eg es m).1=r (eg es m).2
  ·rw[if_pos hm]; rfl
  ·rw[if_neg hm]
   by_cases hkm:k=m
   ·rw[hkm] at h; exact absurd h hm
   ·rw[sA hkm,hv_none_loop es k L d _ (by rw[bP hm]; exact .inl h)]
def gt (W:List (Int × Bool)) (k:Nat):Bool:=(bW W (k:Int)).getD false
structure Dcd (es:List (Int × Int)) (x:Nat) (W O:List (Int × Bool)) (i:Nat):Prop where
 lt:∀k,k<i→cC es x (k:Int)=true→gt W k = !gt O k
 ge:∀k,i≤k→gt W k=false∧gt O k=false
def hd (es:List (Int × Int)) (x:Nat) (W:List (Int × Bool)) (i:Nat):List Int:=((List.range i).filter (wi es x W)).map fun(k:Nat)=>(k:Int)
section
variable {N : Nat} {es : List (Int × Int)} {x i : Nat} {W O : List (Int × Bool)}
def rh (es:List (Int × Int)) (x:Nat) (W:List (Int × Bool)) (i:Nat):Nat→Nat:=rep ((hd es x W i).map (eg es))
theorem KU (W:List (Int × Bool)) (i k:Nat) (b:Bool):gt (fE W (i:Int) b) k=if k=i then b else gt W k:=by
 unfold gt;rw[Dw]
 by_cases h:k=i
 ·rw[if_pos h,if_pos (by omega)]
 ·rw[if_neg h,if_neg (by omega)]
theorem Dcd.skip (h:Dcd es x W O i) (hin:cC es x (i:Int)=false):Dcd es x W O (i+1):=by
 refine⟨fun k hk hk2=>?_,fun k hk=>h.ge k (by omega)⟩
 by_cases hki:k=i
 ·subst hki; rw[hin] at hk2; cases hk2
 ·exact h.lt k (by omega) hk2
end
section
variable {N : Nat} {es : List (Int × Int)} {x : Nat}
def G (es:List (Int × Int)) (x:Nat) (W:List (Int × Bool)) (i:Nat):List (List Int):=gw es (il es x i (es.length-i)) (rk x 64-1-(hd es x W i).length) (rh es x W i)
structure Uv (es:List (Int × Int)) (x:Nat) (z:Int) (tgt:List Int) (i:Nat) (s:Bool) (l:List Nat) (W O:List (Int × Bool)) (tr:List Int) (zi:Int):Prop where
 dcd:Dcd es x W O i
 fresh:∀k:Nat,i≤k→bW W (k:Int)=none
 join:bG (fun x=>x) ((hd es x W i).map (eg es))=true
 tr:tr=hd es x W i
 lg:Lg zi s l
 lo:0≤zi
 hi:zi≤z
 len:(hd es x W i).length+1≤rk x 64
 at_:∃t,(G es x W i)[zi.toNat]? = some t∧hd es x W i++t=tgt
end
theorem vc (es:List (Int × Int)):∀(L:List Int) (d:Nat) (r:Nat→Nat),∀t ∈ gw es L d r,t.Sublist L
 | L,0,r,t,ht=>by
  have:gw es L 0 r = [[]]:=by cases L<;>rfl
  rw[this,List.mem_singleton] at ht;rw[ht]; exact List.nil_sublist _
 | [],d+1,_,t,ht=>by cases ht
 | m::L,d+1,r,t,ht=>by
  simp only[gw] at ht;rcases List.mem_append.1 ht with ht|ht
  ·split at ht
   ·cases ht
   ·obtain⟨t',h1,rfl⟩:=List.mem_map.1 ht;exact(vc es L d _ t' h1).cons_cons m
  ·exact(vc es L (d+1) _ t ht).cons m
theorem xR (es:List (Int × Int)) (x i j:Nat):(il es x i j).Nodup:=by
 unfold il;refine List.Pairwise.map _ (fun a b h=>?_) (List.Pairwise.filter _ List.nodup_range');intro e;exact h (by omega)
theorem KW {es:List (Int × Int)} {x k:Nat} (hin:cC es x (k:Int)=true) (hk:k<es.length):wl es x (fE ([]:List (Int × Bool)) (k:Int) true) 0 es.length = [eg es (k:Int)]:=by
 have h1:∀i,wi es x (fE ([]:List (Int × Bool)) (k:Int) true) i=(i == k):=fun i=>by
  have h2:=KU [] k i true;unfold gt at h2;unfold wi;rw[h2]
  by_cases h:i=k
  ·subst h; rw[hin]; simp
  ·rw[if_neg h]; simp[h,bW,cy]
 unfold wl;have h3:(List.range' 0 es.length).filter (wi es x (fE ([]:List (Int × Bool)) (k:Int) true))=(List.range' 0 es.length).filter (· == k):=List.filter_congr fun i _=>h1 i;have hnd:(List.range' 0 es.length).Nodup:=List.nodup_range';rw[h3,List.filter_beq,hnd.count,if_pos (by rw[List.mem_range'_1]; omega)]
 rfl
theorem zP (es:List (Int × Int)):∀(L:List Int) (t:List Int) (d:Nat) (r:Nat→Nat),t.Sublist L→t.length=d→bG r (t.map (eg es))=true→t ∈ gw es L d r
 | [],t,d,r,h,hl,_=>by
  have:=List.sublist_nil.1 h;subst this;subst hl;exact List.mem_singleton.2 rfl
 | k::L,t,0,r,_,hl,_=>by
  rw[List.length_eq_zero_iff] at hl;subst hl;exact List.mem_singleton.2 rfl
 | k::L,t,d+1,r,h,hl,ha=>by
  simp only[gw];refine List.mem_append.2 ?_;cases h with
  | cons _ h=>exact .inr (zP es L t (d+1) r h hl ha)
  | cons_cons _ h =>
   rename_i t;rw[List.map_cons,bG,Bool.and_eq_true] at ha;have hne:r (eg es k).1≠r (eg es k).2:=by simpa using ha.1
   rw[if_neg hne];exact .inl (List.mem_map.2 ⟨t,zP es L t d _ h (by rw[List.length_cons] at hl; omega) ha.2,rfl⟩)
theorem qm (es:List (Int × Int)):∀(L:List Int) (d:Nat) (r:Nat→Nat),L.Nodup→(gw es L d r).Nodup
 | L,0,r,_=>by cases L<;>simp[gw]
 | [],d+1,r,_=>by simp[gw]
 | k::L,d+1,r,h=>by
  obtain⟨h1,h2⟩:=List.nodup_cons.1 h;simp only[gw];refine List.nodup_append.2 ⟨?_,qm es L (d+1) r h2,fun a ha b hb e=>?_⟩
  ·split
   ·exact List.nodup_nil
   ·exact List.pairwise_map.2 ((qm es L d _ h2).imp fun h e=>h (by simpa using e))
  ·split at ha
   ·cases ha
   ·obtain⟨t,_,rfl⟩:=List.mem_map.1 ha;have:=vq es L (d+1) r b hb k (by rw[←e]; exact List.mem_cons_self)
    exact h1 this
theorem nX (es:List (Int × Int)) (x:Nat):(bZ es x).Nodup:=qm es _ _ _ (xR _ _ _ _)
theorem uq (es:List (Int × Int)) (x:Nat):∀(j i:Nat) (l:List Int),i+j=es.length→l.Pairwise (· < ·)→(∀k ∈ l,cC es x k=true∧(i:Int)≤k)→l.Sublist (il es x i j)
 | 0,i,l,h,hp,hl=>by
  cases l with
  | nil=>exact List.nil_sublist _
  | cons a l =>
   have h1:=hl a List.mem_cons_self;have h2:=(da h1.1).1;unfold Vl at h2;omega
 | j+1,i,l,h,hp,hl=>by
  rw[Bn];cases l with
  | nil=>exact List.nil_sublist _
  | cons a l =>
   have h1:=hl a List.mem_cons_self;obtain⟨hp1,hp2⟩:=List.pairwise_cons.1 hp
   by_cases ha:a=(i:Int)
   ·subst ha;rw[if_pos h1.1];exact(uq es x j (i+1) l (by omega) hp2 fun k hk=>⟨(hl k (List.mem_cons_of_mem _ hk)).1,by have:=hp1 k hk; omega⟩).cons_cons _
   ·have:=uq es x j (i+1) (a::l) (by omega) hp fun k hk=>⟨(hl k hk).1,by
     have h2:(i:Int)<a:=by omega
     rcases List.mem_cons.1 hk with rfl|hk
     ·omega
     ·have:=hp1 k hk; omega⟩
    split
    ·exact this.cons _
    ·exact this
theorem qK {es:List (Int × Int)} {x:Nat} {l:List Int} (h:Gg es x l=true):l ∈ bZ es x:=by
 obtain⟨h1,h2,h3,h4⟩:=BE h;refine zP es _ l _ _ (uq es x es.length 0 l (by omega) h4 fun k hk=>⟨h1 k hk,(da (h1 k hk)).1.1⟩) (by omega) h3
section
variable {N : Nat} {es : List (Int × Int)} {x : Nat}
structure Uk (es:List (Int × Int)) (x:Nat) (tgt:List Int) (i:Nat) (s:Bool) (l:List Nat) (W O:List (Int × Bool)) (z:Nat):Prop where
 dcd:Dcd es x W O i
 fresh:∀k:Nat,i≤k→bW W (k:Int)=none
 join:bG (fun x=>x) ((hd es x W i).map (eg es))=true
 lg:Lg (z:Int) s l
 len:(hd es x W i).length+1≤rk x 64
 rest:∃t,t ∈ G es x W i∧hd es x W i++t=tgt
 pos:∀(p:Nat) t,(G es x W i)[p]? = some t→(bZ es x)[z+p]? = some (hd es x W i++t)
theorem D5 {i j:Nat} {k:Int} (h:k ∈ il es x i j):(i:Int)≤k:=by
 obtain⟨m,h1,rfl⟩:=List.mem_map.1 h;have:=(List.mem_range'_1.1 (List.mem_filter.1 h1).1).1;omega
end
theorem uT (es:List (Int × Int)):∀(L:List Int) (d:Nat) (r:Nat→Nat) (b:List Int),b ∈ gw es L d r→b.length=d
 | L,0,r,b,h=>by
  have:b = []:=by cases L<;>simpa [gw] using h
  rw[this]; rfl
 | [],d+1,r,b,h=>by simp[gw] at h
 | k::L,d+1,r,b,h=>by
  simp only[gw] at h;rcases List.mem_append.1 h with h|h
  ·split at h
   ·cases h
   ·obtain⟨t,ht,rfl⟩:=List.mem_map.1 h;rw[List.length_cons,uT es L d _ t ht]
  ·exact uT es L (d+1) r b h
theorem nW (es:List (Int × Int)) (x:Nat):∀j i,(il es x i j).Pairwise (· < ·)
 | 0,i=>List.Pairwise.nil
 | j+1,i=>by
  rw[Bn]
  split
  ·refine List.pairwise_cons.2 ⟨fun k hk=>?_,nW es x j (i+1)⟩;have:=D5 hk; omega
  ·exact nW es x j (i+1)
theorem ua (es:List (Int × Int)):∀(L:List Int) (d:Nat) (r:Nat→Nat) (b:List Int),b ∈ gw es L d r→bG r (b.map (eg es))=true
 | L,0,r,b,h=>by
  have:b = []:=by cases L<;>simpa [gw] using h
  rw[this]; rfl
 | [],d+1,r,b,h=>by simp[gw] at h
 | k::L,d+1,r,b,h=>by
  simp only[gw] at h;rcases List.mem_append.1 h with h|h
  ·split at h
   ·cases h
   ·rename_i hne;obtain⟨t,ht,rfl⟩:=List.mem_map.1 h;rw[List.map_cons,bG,ua es L d _ t ht,Bool.and_true]
    simpa using hne
  ·exact ua es L (d+1) r b h
theorem th (es:List (Int × Int)) (x:Nat):∀(l:List Int) (p:Int),l.Pairwise (· < ·)→(∀k ∈ l,cC es x k=true∧p<k)→IK es x p l=true
 | [],_,_,_=>rfl
 | a::l,p,h,hk=>by
  obtain⟨h1,h2⟩:=List.pairwise_cons.1 h;obtain⟨k1,k2⟩:=hk a List.mem_cons_self;simp only[IK,k1,decide_eq_true k2,Bool.true_and,Bool.and_true];exact th es x l a h2 fun k hkl=>⟨(hk k (List.mem_cons_of_mem _ hkl)).1,h1 k hkl⟩
theorem mP {es:List (Int × Int)} {x:Nat} (hx:x<2 ^ 64) (h0:x≠0) {l:List Int} (h:l ∈ bZ es x):Gg es x l=true:=by
 have h1:=Gr hx h0;have hs:=vc _ _ _ _ l h;have hi:∀k ∈ l,cC es x k=true∧(-1:Int)<k:=fun k hk=>by
  have hm:=hs.subset hk;refine⟨Kk hm,?_⟩;have:=D5 hm; omega
 unfold Gg;rw[th es x l (-1) ((nW es x _ _).sublist hs) hi,ua _ _ _ _ _ h,Bool.true_and,Bool.and_true];have:=uT _ _ _ _ _ h;exact decide_eq_true (by omega)
def up (k:Nat) (i:Int):Int:=if i<(k:Int) then i else i+1
theorem IG {es:List (Int × Int)} {k:Nat} (i:Nat):eg (es.eraseIdx k) (i:Int)=eg es (up k (i:Int)):=by
 unfold eg up;rw[Int.toNat_natCast,List.getElem?_eraseIdx]
 by_cases h:i<k
 ·rw[if_pos h,if_pos (by omega),Int.toNat_natCast]
 ·rw[if_neg h,if_neg (by omega),show((i:Int)+1).toNat=i+1 by omega]
theorem JH {es:List (Int × Int)} {k x:Nat} (hk:k<es.length) (i:Nat):cC (es.eraseIdx k) x (i:Int)=cC es x (up k (i:Int)):=by
 unfold cC;rw[IG];have:decide ((0:Int)≤(i:Int)∧(i:Int)<((es.eraseIdx k).length:Int))=decide (0≤up k (i:Int)∧up k (i:Int)<(es.length:Int)):=by
  rw[List.length_eraseIdx,if_pos hk,decide_eq_decide];unfold up
  split<;>omega
 rw[this]
theorem Ei (k:Nat):∀d,(List.range (k+d)).map (fun(i:Nat)=>up k (i:Int))=((List.range (k+d+1)).map fun(i:Nat)=>(i:Int)).filter (fun i=>!decide (i=(k:Int)))
 | 0=>by
  rw[Nat.add_zero,List.range_succ,List.map_append,List.filter_append,List.map_singleton];have h1:(List.range k).map (fun(i:Nat)=>up k (i:Int))=(List.range k).map fun(i:Nat)=>(i:Int):=List.map_congr_left fun i hi=>by
   unfold up; rw[if_pos (by have:=List.mem_range.1 hi; omega)]
  have h2:((List.range k).map fun(i:Nat)=>(i:Int)).filter (fun i=>!decide (i=(k:Int)))=(List.range k).map fun(i:Nat)=>(i:Int):=List.filter_eq_self.2 fun i hi=>by
   obtain⟨j,hj,rfl⟩:=List.mem_map.1 hi;have:=List.mem_range.1 hj;rw[decide_eq_false (by omega)]; rfl
  rw[h1,h2]; simp
 | d+1=>by
  rw[←Nat.add_assoc,List.range_succ,List.map_append,Ei k d,List.range_succ (n:=k+d+1),List.map_append,List.filter_append];have:up k ((k+d:Nat):Int)=((k+d+1:Nat):Int):=by unfold up; rw[if_neg (by omega)]; omega
  rw[List.map_singleton,List.map_singleton,this,List.filter_cons_of_pos (by simp; omega)]; rfl
theorem Ar (es:List (Int × Int)) (x:Nat):il es x 0 es.length=((List.range es.length).map fun(i:Nat)=>(i:Int)).filter (fun i=>cC es x i):=by
 unfold il;rw[List.filter_map,List.range_eq_range']; rfl
theorem LN {es:List (Int × Int)} {k x:Nat} (hk:k<es.length):(il (es.eraseIdx k) x 0 (es.eraseIdx k).length).map (up k)=(il es x 0 es.length).filter (fun i=>!decide (i=(k:Int))):=by
 have hl:(es.eraseIdx k).length+1=es.length:=by rw[List.length_eraseIdx,if_pos hk]; omega
 obtain⟨d,hd⟩:∃d,(es.eraseIdx k).length=k+d:=⟨(es.eraseIdx k).length-k,by omega⟩
 rw[Ar,Ar,hd,show es.length=k+d+1 by omega]
 have h1:((List.range (k+d)).map fun(i:Nat)=>(i:Int)).filter (fun i=>cC (es.eraseIdx k) x i)=((List.range (k+d)).map fun(i:Nat)=>(i:Int)).filter ((fun i=>cC es x i) ∘ up k):=List.filter_congr fun i hi=>by
  obtain⟨j,hj,rfl⟩:=List.mem_map.1 hi;exact JH hk j
 rw[h1,←List.filter_map,List.map_map,show(up k ∘ fun(i:Nat)=>(i:Int))=fun(i:Nat)=>up k (i:Int) from rfl,Ei,List.filter_filter,List.filter_filter]
 exact List.filter_congr fun i _=>Bool.and_comm _ _
theorem EK {es:List (Int × Int)} {k:Nat}:∀(L:List Int) (d:Nat) (r:Nat→Nat),(∀i ∈ L,(0:Int)≤i)→(gw (es.eraseIdx k) L d r).length=(gw es (L.map (up k)) d r).length
 | L,0,r,_=>by cases L<;>rfl
 | [],d+1,_,_=>rfl
 | i::L,d+1,r,h=>by
  obtain⟨j,rfl⟩:=Int.eq_ofNat_of_zero_le (h i List.mem_cons_self);have h':∀i ∈ L,(0:Int)≤i:=fun i hi=>h i (List.mem_cons_of_mem _ hi);rw[List.map_cons];unfold gw;rw[List.length_append,List.length_append,EK L (d+1) r h',IG]
  split
  ·rfl
  ·rw[List.length_map,List.length_map,EK L d _ h']
theorem yP (es:List (Int × Int)) (k:Int):∀(L:List Int) (d:Nat) (r:Nat→Nat),(gw es L d r).filter (fun t=>!t.contains k)=gw es (L.filter fun i=>!decide (i=k)) d r
 | L,0,r=>by
  have h:∀L,gw es L 0 r = [[]]:=fun L=>by cases L<;>rfl
  rw[h,h]; rfl
 | [],d+1,_=>rfl
 | m::L,d+1,r=>by
  unfold gw;rw[List.filter_append,yP es k L (d+1) r]
  by_cases hm:m=k
  ·subst hm;rw[List.filter_cons_of_neg (by simp)]
   have:(if r (eg es m).1=r (eg es m).2 then[] else(gw es L d (bf r (eg es m))).map (m::·)).filter (fun t=>!t.contains m) = []:=by
    split
    ·rfl
    ·rw[List.filter_eq_nil_iff];intro t ht;obtain⟨u,_,rfl⟩:=List.mem_map.1 ht;simp
   rw[this,List.nil_append];cases hL:L.filter fun i=>!decide (i=m)<;>rfl
  ·rw[List.filter_cons_of_pos (by simp[hm])]
   show _=(if r (eg es m).1=r (eg es m).2 then[] else(gw es (L.filter fun i=>!decide (i=k)) d (bf r (eg es m))).map (m::·))++gw es (L.filter fun i=>!decide (i=k)) (d+1) r
   congr 1
   split
   ·rfl
   ·rw[List.filter_map,←yP es k L d]
    congr 1
    refine List.filter_congr fun t _=>?_
    show(!(m::t).contains k) = !t.contains k
    rw[List.contains_cons];have:(k == m)=false:=by simp; exact fun e=>hm e.symm
    rw[this,Bool.false_or]
theorem jN {α:Type} (p:α→Bool):∀l:List α,l.length=(l.filter p).length+(l.filter fun a=>!p a).length
 | []=>rfl
 | a::l=>by
  rw[List.length_cons,jN p l,List.filter_cons,List.filter_cons];cases p a
  ·simp only[Bool.not_false,if_true,Bool.false_eq_true,if_false,List.length_cons]; omega
  ·simp only[Bool.not_true,if_true,Bool.false_eq_true,if_false,List.length_cons]; omega
theorem ym {es:List (Int × Int)} {k x:Nat} (hk:k<es.length):(bZ es x).length=hv (k:Int) (bZ es x)+(bZ (es.eraseIdx k) x).length:=by
 have h1:(bZ (es.eraseIdx k) x).length=((bZ es x).filter fun t=>!t.contains (k:Int)).length:=by
  unfold bZ;rw[EK _ _ _ fun i hi=>D5 hi,LN hk,yP]
 rw[h1];exact jN _ _
theorem pD:∀{l m:List Int},l.Pairwise (· < ·)→m.Pairwise (· < ·)→(∀i,i ∈ l↔i ∈ m)→l=m
 | [],[],_,_,_=>rfl
 | [],b::m,_,_,h=>absurd ((h b).2 List.mem_cons_self) List.not_mem_nil
 | a::l,[],_,_,h=>absurd ((h a).1 List.mem_cons_self) List.not_mem_nil
 | a::l,b::m,hl,hm,h=>by
  obtain⟨h1,h2⟩:=List.pairwise_cons.1 hl;obtain⟨h3,h4⟩:=List.pairwise_cons.1 hm;have hab:a=b:=by
   have e1:=(h a).1 List.mem_cons_self;have e2:=(h b).2 List.mem_cons_self;rcases List.mem_cons.1 e1 with e|e
   ·exact e
   ·rcases List.mem_cons.1 e2 with e' | e'
    ·exact e'.symm
    ·have:=h1 b e'; have:=h3 a e; omega
  subst hab;rw[pD h2 h4 fun i=>?_];have:=h i;constructor
  ·intro hi;rcases List.mem_cons.1 ((h i).1 (List.mem_cons_of_mem _ hi)) with e|e
   ·have:=h1 i hi; omega
   ·exact e
  ·intro hi;rcases List.mem_cons.1 ((h i).2 (List.mem_cons_of_mem _ hi)) with e|e
   ·have:=h3 i hi; omega
   ·exact e
theorem kF {l:List Int} (h:l.Pairwise (· < ·)):l.Nodup:=h.imp fun h=>by omega
theorem FB {V:List Nat} (hV:V.Nodup) {T:List (Nat × Nat)} (ht:∀e ∈ T,e.1 ∈ V∧e.2 ∈ V) {v:Nat} (hc:∀y ∈ V,Cn T v y):V.length≤T.length+1:=by
 have h1:=(gm hV ht).1;have h2:=(sv hV ht).2 fun x hx y hy=>(hc x hx).symm.trans (hc y hy);have h3:=mF T fun x=>x;omega
section
variable {M : Nat} {es : List (Int × Int)} {x A B : Nat} {k : Int} {t u v : List Int}
structure Two (M:Nat) (es:List (Int × Int)) (x A B:Nat) (k:Int):Prop where
 ok:Okay M es
 hx:x<2 ^ 64
 hA:A<2 ^ 64
 hB:B<2 ^ 64
 sub:∀j,A.testBit j=true→x.testBit j=true
 rest:∀j,B.testBit j=(x.testBit j && !A.testBit j)
 same:∀i,cC es x i=true→i≠k→A.testBit (eg es i).1=A.testBit (eg es i).2
 ki:cC es x k=true
 kd:A.testBit (eg es k).1 = !A.testBit (eg es k).2
theorem Two.swap (h:Two M es x A B k):Two M es x B A k where
 ok:=h.ok
 hx:=h.hx
 hA:=h.hB
 hB:=h.hA
 sub:=fun j hj=>by rw[h.rest,Bool.and_eq_true] at hj; exact hj.1
 rest:=fun j=>by
  rw[h.rest];have:=h.sub j;cases e:A.testBit j<;>cases e':x.testBit j<;>simp_all
 same:=fun i hi hk=>by
  obtain⟨_,h2,h3⟩:=da hi;rw[h.rest,h.rest,h2,h3,h.same i hi hk]
 ki:=h.ki
 kd:=by
  obtain⟨_,h2,h3⟩:=da h.ki;rw[h.rest,h.rest,h2,h3,h.kd];cases A.testBit (eg es k).2<;>rfl
theorem Two.yC (h:Two M es x A B k) {i:Int}:cC es A i=true↔cC es x i=true∧i≠k∧A.testBit (eg es i).1=true:=by
 constructor
 ·intro hi;obtain⟨h1,h2,h3⟩:=da hi;refine⟨?_,?_,h2⟩
  ·unfold cC;rw[decide_eq_true (show 0≤i∧i<(es.length:Int) from h1),h.sub _ h2,h.sub _ h3]; rfl
  ·rintro rfl;have:=h.kd;rw[h2,h3] at this; cases this
 ·rintro⟨hi,hk,ha⟩;have hs:=h.same i hi hk;obtain⟨h1,h2,h3⟩:=da hi;unfold cC;rw[decide_eq_true (show 0≤i∧i<(es.length:Int) from h1),ha,←hs,ha]; rfl
theorem Two.split (h:Two M es x A B k) {i:Int} (hi:cC es x i=true) (hk:i≠k):cC es A i=true∨cC es B i=true:=by
 cases e:A.testBit (eg es i).1 with
 | true=>exact .inl (h.yC.2 ⟨hi,hk,e⟩)
 | false =>
  refine .inr (h.swap.yC.2 ⟨hi,hk,?_⟩);rw[h.rest,(da hi).2.1,e]; rfl
theorem Two.mC (h:Two M es x A B k) {i:Int} (hi:cC es A i=true):cC es B i=false:=by
 rw[←Bool.not_eq_true];intro hb;have h1:=(h.yC.1 hi).2.2;have h2:=(h.swap.yC.1 hb).2.2;rw[h.rest,h1] at h2;simp at h2
theorem Two.ends (h:Two M es x A B k):∃a b,(eg es k=(a,b)∨eg es k=(b,a))∧A.testBit a=true∧A.testBit b=false∧x.testBit a=true∧x.testBit b=true:=by
 obtain⟨_,h2,h3⟩:=da h.ki;have h1:=h.kd;cases e:A.testBit (eg es k).2 with
 | true=>rw[e] at h1; exact⟨_,_,.inr rfl,e,h1,h3,h2⟩
 | false=>rw[e] at h1; exact⟨_,_,.inl rfl,h1,e,h2,h3⟩
theorem nC (x A B:Nat) (hr:∀j,B.testBit j=(x.testBit j && !A.testBit j)) (hs:∀j,A.testBit j=true→x.testBit j=true):rk x 64=rk A 64+rk B 64:=by
 unfold rk fy;have h1:=jN (fun i=>A.testBit i) ((List.range 64).filter fun i=>x.testBit i);rw[List.filter_filter,List.filter_filter] at h1;rw[h1]
 congr 1
 ·congr 1
  refine List.filter_congr fun i _=>?_;have:=hs i;cases e:A.testBit i<;>cases e':x.testBit i<;>simp_all
 ·congr 1
  refine List.filter_congr fun i _=>?_;rw[hr];cases A.testBit i<;>cases x.testBit i<;>rfl
theorem Two.Ag (h:Two M es x A B k) (hT:Tr M es x t) {v j:Nat} (hv:A.testBit v=true) (hj:A.testBit j=true):Cn ((t.filter fun i=>cC es A i).map (eg es)) v j:=by
 obtain⟨a,b,he,ha,hb,_,_⟩:=h.ends;have hc:=hT.cn (h.sub v hv) (h.sub j hj);have key:=hc.closed (Q:=fun y=>(A.testBit y=true→Cn ((t.filter fun i=>cC es A i).map (eg es)) v y)∧(A.testBit y=false→Cn ((t.filter fun i=>cC es A i).map (eg es)) v a)) ⟨fun _=>.refl,fun e=>by rw[hv] at e; cases e⟩ fun y z hy hn=>by
  obtain⟨i,hi,hyz⟩:∃i ∈ t,eg es i=(y,z)∨eg es i=(z,y):=by
   rcases hn with hn|hn
   ·obtain⟨i,hi,e⟩:=List.mem_map.1 hn; exact⟨i,hi,.inl e⟩
   ·obtain⟨i,hi,e⟩:=List.mem_map.1 hn; exact⟨i,hi,.inr e⟩
  have hin:=hT.cC i hi
  by_cases hk:i=k
  ·subst hk;have hcase:(y=a∧z=b)∨(y=b∧z=a):=by
    rcases he with he|he<;>rw[he] at hyz<;>rcases hyz with e|e<;>cases e<;>simp
   rcases hcase with⟨rfl,rfl⟩|⟨rfl,rfl⟩
   ·exact⟨fun e=>(by rw[hb] at e; cases e),fun _=>hy.1 ha⟩
   ·exact⟨fun _=>hy.2 hb,fun e=>by rw[ha] at e; cases e⟩
  ·have hs:=h.same i hin hk;have hyz':A.testBit y=A.testBit z:=by
    rcases hyz with e|e
    ·rw[e] at hs; exact hs
    ·rw[e] at hs; exact hs.symm
   refine⟨fun hz=>?_,fun hz=>hy.2 (hyz'.trans hz)⟩;have hyA:=hyz'.trans hz;have hiA:cC es A i=true:=h.yC.2 ⟨hin,hk,by
    rcases hyz with e|e
    ·rw[e]; exact hyA
    ·rw[e]; exact hz⟩
   have hm:i ∈ t.filter fun i=>cC es A i:=List.mem_filter.2 ⟨hi,hiA⟩;refine(hy.1 hyA).trans (Cn.one ?_);rcases hyz with e|e
   ·exact .inl (List.mem_map.2 ⟨i,hm,e⟩)
   ·exact .inr (List.mem_map.2 ⟨i,hm,e⟩)
 exact key.1 hj
theorem Two.IM (h:Two M es x A B k) (hT:Tr M es x t):k ∈ t:=by
 obtain⟨a,b,he,ha,hb,hxa,hxb⟩:=h.ends;refine Decidable.byContradiction fun hk=>?_;have hc:=hT.cn hxa hxb;have:=hc.closed (Q:=fun y=>A.testBit y=true) ha fun y z hy hn=>by
  obtain⟨i,hi,hyz⟩:∃i ∈ t,eg es i=(y,z)∨eg es i=(z,y):=by
   rcases hn with hn|hn
   ·obtain⟨i,hi,e⟩:=List.mem_map.1 hn; exact⟨i,hi,.inl e⟩
   ·obtain⟨i,hi,e⟩:=List.mem_map.1 hn; exact⟨i,hi,.inr e⟩
  have hs:=h.same i (hT.cC i hi) fun e=>hk (e ▸ hi);rcases hyz with e|e<;>rw[e] at hs<;>simp only at hs
  ·rw[←hs]; exact hy
  ·rw[hs]; exact hy
 rw[hb] at this; cases this
theorem Two.pos (h:Two M es x A B k):A≠0∧B≠0:=by
 obtain⟨a,b,_,ha,hb,_,hxb⟩:=h.ends;refine⟨fun e=>(by subst e; rw[Nat.zero_testBit] at ha; cases ha),fun e=>?_⟩
 have:=h.rest b;rw[e,hxb,hb,Nat.zero_testBit] at this; cases this
theorem Hr {l:List Int} (hO:Okay M es) (hl:∀i ∈ l,cC es A i=true):∀e ∈ l.map (eg es),e.1 ∈ fy A 64∧e.2 ∈ fy A 64:=xA hO hl
theorem Two.low (h:Two M es x A B k) (hT:Tr M es x t):rk A 64≤(t.filter fun i=>cC es A i).length+1:=by
 have htz:=fL (Nat.pos_of_ne_zero h.pos.1) h.hA;have:=FB (kJ A) (T:=(t.filter fun i=>cC es A i).map (eg es)) (Hr h.ok fun i hi=>(List.mem_filter.1 hi).2) (v:=tz A) fun y hy=>h.Ag hT htz.1 (dW.1 hy).2;rw[List.length_map] at this;exact this
theorem Two.lens (h:Two M es x A B k) (hT:Tr M es x t):(t.filter fun i=>cC es A i).length+(t.filter fun i=>cC es B i).length+1≤t.length:=by
 have hnd:=kF hT.asc;have h1:((t.filter fun i=>cC es A i)++(t.filter fun i=>cC es B i)++[k]).Nodup:=by
  refine List.nodup_append.2 ⟨List.nodup_append.2 ⟨hnd.filter _,hnd.filter _,fun a ha b hb=>?_⟩,by simp,fun a ha b hb=>?_⟩
  ·rintro rfl;have:=h.mC (List.mem_filter.1 ha).2;rw[(List.mem_filter.1 hb).2] at this; cases this
  ·rw[List.mem_singleton] at hb;subst hb;rintro rfl;rcases List.mem_append.1 ha with ha|ha
   ·exact(h.yC.1 (List.mem_filter.1 ha).2).2.1 rfl
   ·exact(h.swap.yC.1 (List.mem_filter.1 ha).2).2.1 rfl
 have:=gi h1 (m:=t) fun i hi=>by
  rcases List.mem_append.1 hi with hi|hi
  ·rcases List.mem_append.1 hi with hi|hi<;>exact(List.mem_filter.1 hi).1
  ·rw[List.mem_singleton] at hi; subst hi; exact h.IM hT
 simp only[List.length_append,List.length_singleton] at this;exact this
theorem Two.part (h:Two M es x A B k) (hT:Tr M es x t):Gg es A (t.filter fun i=>cC es A i)=true:=by
 have h1:=h.low hT;have h2:=h.swap.low hT;have h3:=h.lens hT;have h4:=hT.len;have h5:=nC x A B h.rest h.sub;have htz:=fL (Nat.pos_of_ne_zero h.pos.1) h.hA;have hin:∀i ∈ t.filter fun i=>cC es A i,cC es A i=true:=fun i hi=>(List.mem_filter.1 hi).2;have hlen:(t.filter fun i=>cC es A i).length+1=rk A 64:=by omega
 have hj:=(qz h.ok h.hA hin hlen htz.1).2 fun j hj=>h.Ag hT htz.1 hj;unfold Gg;rw[th es A _ (-1) (hT.asc.filter _) (fun i hi=>⟨hin i hi,by have:=(da (hin i hi)).1.1; omega⟩),decide_eq_true hlen,hj]; rfl
theorem Bm (hO:Okay M es) (hx:x<2 ^ 64) (h0:x≠0) (h:Gg es x t=true):Tr M es x t:=by
 obtain⟨t1,t2,t3,t4⟩:=BE h;exact⟨hO,hx,h0,t1,t2,t3,t4⟩
def glue (es:List (Int × Int)) (x:Nat) (k:Int) (p:List Int × List Int):List Int:=(il es x 0 es.length).filter fun i=>p.1.contains i || p.2.contains i || decide (i=k)
theorem vj {i:Int} (hi:cC es x i=true):i ∈ il es x 0 es.length:=by
 obtain⟨h1,_⟩:=da hi;obtain⟨j,rfl⟩:=Int.eq_ofNat_of_zero_le h1.1;unfold il;refine List.mem_map.2 ⟨j,List.mem_filter.2 ⟨?_,hi⟩,rfl⟩;rw[List.mem_range'_1];have:=h1.2;omega
theorem Two.fD (h:Two M es x A B k) (hu:Tr M es A u) (hv:Tr M es B v) {i:Int}:i ∈ glue es x k (u,v)↔i ∈ u∨i ∈ v∨i=k:=by
 unfold glue;rw[List.mem_filter];simp only[Bool.or_eq_true,List.contains_iff_mem,decide_eq_true_eq];constructor
 ·rintro⟨_,(h1|h1) | h1⟩
  ·exact .inl h1
  ·exact .inr (.inl h1)
  ·exact .inr (.inr h1)
 ·rintro(h1|h1|h1)
  ·exact⟨vj (h.yC.1 (hu.cC i h1)).1,.inl (.inl h1)⟩
  ·exact⟨vj (h.swap.yC.1 (hv.cC i h1)).1,.inl (.inr h1)⟩
  ·subst h1; exact⟨vj h.ki,.inr rfl⟩
theorem Two.BK (h:Two M es x A B k) (h0:x≠0) (hu:Tr M es A u) (hv:Tr M es B v):Gg es x (glue es x k (u,v))=true:=by
 obtain⟨a,b,he,ha,hb,hxa,hxb⟩:=h.ends;have hasc:(glue es x k (u,v)).Pairwise (· < ·):=(nW es x _ _).filter _;have hin:∀i ∈ glue es x k (u,v),cC es x i=true:=fun i hi=>by
  rcases(h.fD hu hv).1 hi with h1|h1|h1
  ·exact(h.yC.1 (hu.cC i h1)).1
  ·exact(h.swap.yC.1 (hv.cC i h1)).1
  ·subst h1; exact h.ki
 have hnu:u.Nodup:=kF hu.asc;have hnv:v.Nodup:=kF hv.asc;have hnd:(u++v++[k]).Nodup:=by
  refine List.nodup_append.2 ⟨List.nodup_append.2 ⟨hnu,hnv,fun a ha b hb=>?_⟩,by simp,fun a ha b hb=>?_⟩
  ·rintro rfl;have:=h.mC (hu.cC _ ha);rw[hv.cC _ hb] at this; cases this
  ·rw[List.mem_singleton] at hb;subst hb;rintro rfl;rcases List.mem_append.1 ha with ha|ha
   ·exact(h.yC.1 (hu.cC _ ha)).2.1 rfl
   ·exact(h.swap.yC.1 (hv.cC _ ha)).2.1 rfl
 have l1:=gi hnd (m:=glue es x k (u,v)) fun i hi=>(h.fD hu hv).2 (by
  rcases List.mem_append.1 hi with hi|hi
  ·rcases List.mem_append.1 hi with hi|hi
   ·exact .inl hi
   ·exact .inr (.inl hi)
  ·exact .inr (.inr (List.mem_singleton.1 hi)))
 have l2:=gi (kF hasc) (m:=u++v++[k]) fun i hi=>by
  rcases(h.fD hu hv).1 hi with h1|h1|h1
  ·exact List.mem_append_left _ (List.mem_append_left _ h1)
  ·exact List.mem_append_left _ (List.mem_append_right _ h1)
  ·exact List.mem_append_right _ (List.mem_singleton.2 h1)
 simp only[List.length_append,List.length_singleton] at l1 l2;have h3:=hu.len;have h4:=hv.len;have h5:=nC x A B h.rest h.sub;have hlen:(glue es x k (u,v)).length+1=rk x 64:=by omega
 have hbB:B.testBit b=true:=by rw[h.rest,hxb,hb]; rfl
 have mono:∀{w:List Int} {p q:Nat},(∀i ∈ w,i ∈ glue es x k (u,v))→Cn (w.map (eg es)) p q→Cn ((glue es x k (u,v)).map (eg es)) p q:=fun hw hc=>hc.mono fun e he=>by
  obtain⟨i,hi,rfl⟩:=List.mem_map.1 he;exact List.mem_map.2 ⟨i,hw i hi,rfl⟩
 have hk:k ∈ glue es x k (u,v):=(h.fD hu hv).2 (.inr (.inr rfl));have hab:Cn ((glue es x k (u,v)).map (eg es)) a b:=Cn.one (by
  rcases he with e|e
  ·exact .inl (List.mem_map.2 ⟨k,hk,e⟩)
  ·exact .inr (List.mem_map.2 ⟨k,hk,e⟩))
 have hall:∀j,x.testBit j=true→Cn ((glue es x k (u,v)).map (eg es)) a j:=fun j hj=>by
  cases e:A.testBit j with
  | true=>exact mono (fun i hi=>(h.fD hu hv).2 (.inl hi)) (hu.cn ha e)
  | false=>exact hab.trans (mono (fun i hi=>(h.fD hu hv).2 (.inr (.inl hi))) (hv.cn hbB (by rw[h.rest,hj,e]; rfl)))
 have hj:=(qz h.ok h.hx hin hlen hxa).2 hall;unfold Gg;rw[th es x _ (-1) hasc (fun i hi=>⟨hin i hi,by have:=(da (hin i hi)).1.1; omega⟩),decide_eq_true hlen,hj]; rfl
theorem Two.sF (h:Two M es x A B k) (hu:Tr M es A u) (hv:Tr M es B v):(glue es x k (u,v)).filter (fun i=>cC es A i)=u:=by
 refine pD (((nW es x _ _).filter _).filter _) hu.asc fun i=>?_;rw[List.mem_filter,h.fD hu hv];constructor
 ·rintro⟨h1|h1|h1,h2⟩
  ·exact h1
  ·have:=h.mC h2;rw[hv.cC _ h1] at this; cases this
  ·subst h1; exact absurd rfl (h.yC.1 h2).2.1
 ·exact fun h1=>⟨.inl h1,hu.cC _ h1⟩
theorem Two.qW (h:Two M es x A B k) (hu:Tr M es A u) (hv:Tr M es B v):(glue es x k (u,v)).filter (fun i=>cC es B i)=v:=by
 refine pD (((nW es x _ _).filter _).filter _) hv.asc fun i=>?_;rw[List.mem_filter,h.fD hu hv];constructor
 ·rintro⟨h1|h1|h1,h2⟩
  ·have:=h.swap.mC h2;rw[hu.cC _ h1] at this; cases this
  ·exact h1
  ·subst h1; exact absurd rfl (h.swap.yC.1 h2).2.1
 ·exact fun h1=>⟨.inr (.inl h1),hv.cC _ h1⟩
theorem mM {α β:Type} (l:List α) (m:List β):(l.flatMap fun a=>m.map fun b=>(a,b)).length=l.length*m.length:=by
 induction l with
 | nil=>simp
 | cons a l ih=>rw[List.flatMap_cons,List.length_append,ih,List.length_map,List.length_cons,Nat.add_mul]; omega
theorem zM {α β:Type} {l:List α} {m:List β} (hl:l.Nodup) (hm:m.Nodup):(l.flatMap fun a=>m.map fun b=>(a,b)).Nodup:=by
 induction l with
 | nil=>simp
 | cons a l ih =>
  obtain⟨h1,h2⟩:=List.nodup_cons.1 hl;rw[List.flatMap_cons];refine List.nodup_append.2 ⟨List.Pairwise.map _ (fun b c hbc e=>hbc (by cases e; rfl)) hm,ih h2,fun p hp q hq=>?_⟩
  rintro rfl;obtain⟨b,_,rfl⟩:=List.mem_map.1 hp;obtain⟨c,hc,hq⟩:=List.mem_flatMap.1 hq;obtain⟨d,_,e⟩:=List.mem_map.1 hq;cases e;exact h1 hc
theorem nE {α β:Type} {f:α→β}:∀{l:List α},l.Nodup→(∀a ∈ l,∀b ∈ l,f a=f b→a=b)→(l.map f).Nodup
 | [],_,_=>List.nodup_nil
 | a::l,h,hf=>by
  obtain⟨h1,h2⟩:=List.nodup_cons.1 h;rw[List.map_cons];refine List.nodup_cons.2 ⟨fun hm=>?_,nE h2 fun b hb c hc=>hf b (List.mem_cons_of_mem _ hb) c (List.mem_cons_of_mem _ hc)⟩;obtain⟨b,hb,e⟩:=List.mem_map.1 hm;rw[hf b (List.mem_cons_of_mem _ hb) a List.mem_cons_self e] at hb;exact h1 hb
theorem Two.count (h:Two M es x A B k):(bZ es x).length=(bZ es A).length*(bZ es B).length:=by
 obtain⟨hA0,hB0⟩:=h.pos;obtain⟨a,b,he,ha,hb,hxa,hxb⟩:=h.ends;have h0:x≠0:=fun e=>by subst e; rw[Nat.zero_testBit] at hxa; cases hxa
 have trA:∀{u},u ∈ bZ es A→Tr M es A u:=fun hu=>Bm h.ok h.hA hA0 (mP h.hA hA0 hu);have trB:∀{u},u ∈ bZ es B→Tr M es B u:=fun hu=>Bm h.ok h.hB hB0 (mP h.hB hB0 hu);have trx:∀{u},u ∈ bZ es x→Tr M es x u:=fun hu=>Bm h.ok h.hx h0 (mP h.hx h0 hu);rw[←mM];apply Nat.le_antisymm
 ·have hnd:((bZ es x).map fun t=>(t.filter fun i=>cC es A i,t.filter fun i=>cC es B i)).Nodup:=nE (nX es x) fun t ht t' ht' e=>by
   have e1:=congrArg Prod.fst e;have e2:=congrArg Prod.snd e
   dsimp only at e1 e2
   refine pD (trx ht).asc (trx ht').asc fun i=>?_;have key:∀{t},Tr M es x t→(i ∈ t↔i ∈ (t.filter fun i=>cC es A i)∨i ∈ (t.filter fun i=>cC es B i)∨i=k):=fun {t} hT=>by
    constructor
    ·intro hi
     by_cases hk:i=k
     ·exact .inr (.inr hk)
     ·rcases h.split (hT.cC i hi) hk with g|g
      ·exact .inl (List.mem_filter.2 ⟨hi,g⟩)
      ·exact .inr (.inl (List.mem_filter.2 ⟨hi,g⟩))
    ·rintro(g|g|g)
     ·exact(List.mem_filter.1 g).1
     ·exact(List.mem_filter.1 g).1
     ·subst g; exact h.IM hT
   rw[key (trx ht),key (trx ht'),e1,e2]
  have:=gi hnd (m:=(bZ es A).flatMap fun a=>(bZ es B).map fun b=>(a,b)) fun p hp=>by
   obtain⟨t,ht,rfl⟩:=List.mem_map.1 hp;exact List.mem_flatMap.2 ⟨_,qK (h.part (trx ht)),List.mem_map.2 ⟨_,qK (h.swap.part (trx ht)),rfl⟩⟩
  rwa[List.length_map] at this
 ·have hm:∀{p:List Int × List Int},p ∈ ((bZ es A).flatMap fun a=>(bZ es B).map fun b=>(a,b))→Tr M es A p.1∧Tr M es B p.2:=fun {p} hp=>by
   obtain⟨u,hu,hp⟩:=List.mem_flatMap.1 hp;obtain⟨v,hv,rfl⟩:=List.mem_map.1 hp;exact⟨trA hu,trB hv⟩
  have hnd:(((bZ es A).flatMap fun a=>(bZ es B).map fun b=>(a,b)).map (glue es x k)).Nodup:=nE (zM (nX es A) (nX es B)) fun p hp q hq e=>by
   obtain⟨p1,p2⟩:=hm hp;obtain⟨q1,q2⟩:=hm hq;have e1:=h.sF p1 p2;have e2:=h.qW p1 p2;rw[show glue es x k (p.1,p.2)=glue es x k (q.1,q.2) from e,h.sF q1 q2] at e1
   rw[show glue es x k (p.1,p.2)=glue es x k (q.1,q.2) from e,h.qW q1 q2] at e2
   exact Prod.ext e1.symm e2.symm
  have:=gi hnd (m:=bZ es x) fun t ht=>by
   obtain⟨p,hp,rfl⟩:=List.mem_map.1 ht;obtain⟨p1,p2⟩:=hm hp;exact qK (h.BK h0 p1 p2)
  rwa[List.length_map] at this
end
section
variable {σ ρ : Type}
end
def m2 (a b:Nat):Nat:=if b=0 then(if a=0 then 0 else 1) else 2
section
variable {n : Nat} {k : Int} {a b : Nat}
theorem Hh (hn:40<n) (s:Bool) {v:Nat} (hs:s=true→v≠0):kg n s [v,0,0,0,0,0,0,0]=some (s,ul v):=by
 obtain⟨m,rfl⟩:∃m,n=m+20:=⟨n-20,by omega⟩
 by_cases h:v=0
 ·subst h;cases s with
  | false=>rfl
  | true=>exact absurd rfl (hs rfl)
 ·have st:ez (m+20) [v,0,0,0,0,0,0,0] 1=some (.inr 1):=by
   show ob (ob (some (decide (v=0))) fun v66=>some v66) _=_
   rw[decide_eq_false h]; rfl
  have s8:ez (m+20) [v,0,0,0,0,0,0,0] 8=some (.inl 7):=rfl;have s7:ez (m+20) [v,0,0,0,0,0,0,0] 7=some (.inl 6):=rfl;have s6:ez (m+20) [v,0,0,0,0,0,0,0] 6=some (.inl 5):=rfl;have s5:ez (m+20) [v,0,0,0,0,0,0,0] 5=some (.inl 4):=rfl;have s4:ez (m+20) [v,0,0,0,0,0,0,0] 4=some (.inl 3):=rfl;have s3:ez (m+20) [v,0,0,0,0,0,0,0] 3=some (.inl 2):=rfl;have s2:ez (m+20) [v,0,0,0,0,0,0,0] 2=some (.inl 1):=rfl;unfold kg;rw[show(([v,0,0,0,0,0,0,0]:List Nat).length:Int)=8 from rfl,az s8,az s7,az s6,az s5,az s4,az s3,az s2,bu st,ai,uP h]
  cases s<;>rfl
end
theorem sy (n a:Nat):HI n a 0 0 0 0 0 0 0=some (false,a,0,0,0,0,0,0,0):=rfl
theorem JK {n:Nat} (hn:20≤n) (a b:Nat):yr n a 0 0 0 0 0 0 0 b 0 0 0 0 0 0 0=some (if a<b then -1 else if a=b then 0 else 1):=by
 obtain⟨m,rfl⟩:∃m,n=m+20:=⟨n-20,by omega⟩
 let A:List Nat:=[a,0,0,0,0,0,0,0]
 let B:List Nat:=[b,0,0,0,0,0,0,0]
 have s7:fH (m+20) (A,B,7)=some (.inl (A,B,6)):=rfl;have s6:fH (m+20) (A,B,6)=some (.inl (A,B,5)):=rfl;have s5:fH (m+20) (A,B,5)=some (.inl (A,B,4)):=rfl;have s4:fH (m+20) (A,B,4)=some (.inl (A,B,3)):=rfl;have s3:fH (m+20) (A,B,3)=some (.inl (A,B,2)):=rfl;have s2:fH (m+20) (A,B,2)=some (.inl (A,B,1)):=rfl;have s1:fH (m+20) (A,B,1)=some (.inl (A,B,0)):=rfl;have s0:fH (m+20) (A,B,0)=br (!decide (a=b)) (br (decide (a<b)) (some (.inr (.inl (-1)))) (some (.inr (.inl 1)))) (some (.inl (A,B,-1))):=rfl;have sm:fH (m+20) (A,B,-1)=some (.inr (.inr ())):=rfl;unfold yr
 show ob (α:=(Int) ⊕ (Unit)) (bX (fH (m+20)) (m+20) (A,B,7)) _=_
 rw[az s7,az s6,az s5,az s4,az s3,az s2,az s1]
 by_cases h:a=b
 ·rw[decide_eq_true h] at s0;rw[az (s0.trans rfl),bu sm,if_neg (by omega),if_pos h]; rfl
 ·rw[decide_eq_false h] at s0
  by_cases h2:a<b
  ·rw[decide_eq_true h2] at s0;rw[bu (s0.trans rfl),if_pos h2]; rfl
  ·rw[decide_eq_false h2] at s0;rw[bu (s0.trans rfl),if_neg h2,if_neg h]; rfl
theorem BR {n:Nat} (hn:20≤n) (a:Nat):yr n a 0 0 0 0 0 0 0 0 0 0 0 0 0 0 9223372036854775808=some (-1):=by
 obtain⟨m,rfl⟩:∃m,n=m+20:=⟨n-20,by omega⟩
 rfl
theorem II {n:Nat} (hn:20≤n) (a:Nat):yw n false a 0 0 0 0 0 0 0=some (a,0,0,0,0,0,0,0,0):=by
 unfold yw;rw[BR hn,ai]; rfl
theorem Kz {n:Nat} (hn:20≤n) {a b:Nat} (h:b≤a) (ha:a<18446744073709551616):xQ n a 0 0 0 0 0 0 0 b 0 0 0 0 0 0 0=some (a-b,0,0,0,0,0,0,0,0):=by
 obtain⟨m,rfl⟩:∃m,n=m+20:=⟨n-20,by omega⟩
 let B:List Nat:=[b,0,0,0,0,0,0,0]
 have b0:fP (m+20) ([a,0,0,0,0,0,0,0],B,0,0)=some (.inl ([a-b,0,0,0,0,0,0,0],B,0,1)):=by
  show(some (Sum.inl ([(a+18446744073709551616-b-0)%18446744073709551616,0,0,0,0,0,0,0],B,(if a<b+0 then 1 else 0),(1:Int))):Option ((List Nat × List Nat × Nat × Int) ⊕ (List Nat × Nat)))=_
  rw[if_neg (by omega),show(a+18446744073709551616-b-0)%18446744073709551616=a-b by omega]
 have b1:fP (m+20) ([a-b,0,0,0,0,0,0,0],B,0,1)=some (.inl ([a-b,0,0,0,0,0,0,0],B,0,2)):=rfl;have b2:fP (m+20) ([a-b,0,0,0,0,0,0,0],B,0,2)=some (.inl ([a-b,0,0,0,0,0,0,0],B,0,3)):=rfl;have b3:fP (m+20) ([a-b,0,0,0,0,0,0,0],B,0,3)=some (.inl ([a-b,0,0,0,0,0,0,0],B,0,4)):=rfl;have b4:fP (m+20) ([a-b,0,0,0,0,0,0,0],B,0,4)=some (.inl ([a-b,0,0,0,0,0,0,0],B,0,5)):=rfl;have b5:fP (m+20) ([a-b,0,0,0,0,0,0,0],B,0,5)=some (.inl ([a-b,0,0,0,0,0,0,0],B,0,6)):=rfl;have b6:fP (m+20) ([a-b,0,0,0,0,0,0,0],B,0,6)=some (.inl ([a-b,0,0,0,0,0,0,0],B,0,7)):=rfl;have b7:fP (m+20) ([a-b,0,0,0,0,0,0,0],B,0,7)=some (.inl ([a-b,0,0,0,0,0,0,0],B,0,8)):=rfl;have b8:fP (m+20) ([a-b,0,0,0,0,0,0,0],B,0,8)=some (.inr ([a-b,0,0,0,0,0,0,0],0)):=rfl;unfold xQ
 show ob (bX (fP (m+20)) (m+20) (([a,0,0,0,0,0,0,0]:List Nat),B,0,0)) _=_
 rw[az b0,az b1,az b2,az b3,az b4,az b5,az b6,az b7,bu b8]; rfl
theorem Ml {n:Nat} (hn:20≤n) {a:Nat} (ha:a<18446744073709551616):C5 n a 0 0 0 0 0 0 0 0 0 0 0 0 0 0 0=some (a,0,0,0,0,0,0,0,0):=by
 obtain⟨m,rfl⟩:∃m,n=m+20:=⟨n-20,by omega⟩
 let B:List Nat:=[0,0,0,0,0,0,0,0]
 have b0:fJ (m+20) ([a,0,0,0,0,0,0,0],B,0,0)=some (.inl ([a,0,0,0,0,0,0,0],B,0,1)):=by
  show(some (Sum.inl ([(a+0+0)%18446744073709551616,0,0,0,0,0,0,0],B,(a+0+0)/18446744073709551616,(1:Int))):Option ((List Nat × List Nat × Nat × Int) ⊕ (List Nat × Nat)))=_
  rw[show(a+0+0)%18446744073709551616=a by omega,show(a+0+0)/18446744073709551616=0 by omega]
 have b1:fJ (m+20) ([a,0,0,0,0,0,0,0],B,0,1)=some (.inl ([a,0,0,0,0,0,0,0],B,0,2)):=rfl;have b2:fJ (m+20) ([a,0,0,0,0,0,0,0],B,0,2)=some (.inl ([a,0,0,0,0,0,0,0],B,0,3)):=rfl;have b3:fJ (m+20) ([a,0,0,0,0,0,0,0],B,0,3)=some (.inl ([a,0,0,0,0,0,0,0],B,0,4)):=rfl;have b4:fJ (m+20) ([a,0,0,0,0,0,0,0],B,0,4)=some (.inl ([a,0,0,0,0,0,0,0],B,0,5)):=rfl;have b5:fJ (m+20) ([a,0,0,0,0,0,0,0],B,0,5)=some (.inl ([a,0,0,0,0,0,0,0],B,0,6)):=rfl;have b6:fJ (m+20) ([a,0,0,0,0,0,0,0],B,0,6)=some (.inl ([a,0,0,0,0,0,0,0],B,0,7)):=rfl;have b7:fJ (m+20) ([a,0,0,0,0,0,0,0],B,0,7)=some (.inl ([a,0,0,0,0,0,0,0],B,0,8)):=rfl;have b8:fJ (m+20) ([a,0,0,0,0,0,0,0],B,0,8)=some (.inr ([a,0,0,0,0,0,0,0],0)):=rfl;unfold C5
 show ob (bX (fJ (m+20)) (m+20) (([a,0,0,0,0,0,0,0]:List Nat),B,0,0)) _=_
 rw[az b0,az b1,az b2,az b3,az b4,az b5,az b6,az b7,bu b8]; rfl
theorem Nt {n:Nat} (hn:20≤n) {a b:Nat} (h:b≤a) (ha:a<18446744073709551616):Me n a 0 0 0 0 0 0 0 b 0 0 0 0 0 0 0=some (a-b,0,0,0,0,0,0,0,0):=by
 have hd:Dv n false a 0 0 0 0 0 0 0 false b 0 0 0 0 0 0 0=some (false,a-b,0,0,0,0,0,0,0,false):=by
  have h1:td n true b 0 0 0 0 0 0 0=some (!decide (b=0),b,0,0,0,0,0,0,0):=by
   show some (!(decide (b=0) && true && true && true && true && true && true && true),b,0,0,0,0,0,0,0)=_
   simp
  unfold Dv Ic;rw[show(!false)=true from rfl,h1]
  by_cases h0:b=0
  ·subst h0
   show ob (zd n false a 0 0 0 0 0 0 0 false 0 0 0 0 0 0 0 0) _=_
   unfold zd;rw[show(false == false)=true from rfl,dJ,Ml hn ha]; rfl
  ·rw[decide_eq_false h0]
   show ob (zd n false a 0 0 0 0 0 0 0 true b 0 0 0 0 0 0 0) _=_
   unfold zd;rw[show(false == true)=false from rfl,dX,JK hn,ai,bC (show(0:Int)≤(if a<b then -1 else if a=b then 0 else 1) by rw[if_neg (by omega)]; split<;>omega),Kz hn h ha]; rfl
 unfold Me;rw[ai,sy,ai]
 dsimp only
 rw[sy,ai]
 dsimp only
 rw[hd,ai]
 dsimp only
 rw[dX,II hn]; rfl
theorem NA {n:Nat} (hn:20≤n) {a b:Nat} (ha:a<18446744073709551616) (hb:b<18446744073709551616) (h0:a≠0) (h1:b≠0) (hab:a*b<18446744073709551616):Lu n a 0 0 0 0 0 0 0 b 0 0 0 0 0 0 0=some (a*b,0,0,0,0,0,0,0,0):=by
 obtain⟨m,rfl⟩:∃m,n=m+20:=⟨n-20,by omega⟩
 let Z:List Nat:=[0,0,0,0,0,0,0,0,0,0,0,0,0,0,0,0]
 let P:List Nat:=[a*b,0,0,0,0,0,0,0,0,0,0,0,0,0,0,0]
 have hmul:xM (m+20) a b=some (0,a*b):=by
  rw[Bz _ ha hb,Nat.div_eq_of_lt hab,Nat.mod_eq_of_lt hab]
 have hadd:mN (m+20) 0 (a*b) 0=some (a*b,0):=by
  unfold mN;rw[show decide ((0:Nat)≤1)=true from rfl,aW,show(0+a*b+0)%18446744073709551616=a*b by omega,show(0+a*b+0)/18446744073709551616=0 by omega]
 have c0:lY (m+20) b 0 0 0 0 0 0 0 a 0 (Z,0)=some (.inl (P,1)):=by
  show ob (ob (br (!decide (a=0)) (some (!decide (b=0))) (some false)) fun v0=>br v0 (ob (ob (xM (m+20) a b) fun(r0,r1)=>ob (mN (m+20) 0 r1 0) fun(r2,r3)=>ob (mN (m+20) 0 r0 r3) fun(r4,r5)=>ob (bX (zf (m+20)) (m+20) ([r2,r4,0,0,0,0,0,0,0,0,0,0,0,0,0,0],r5,2)) fun l1=>some l1) fun l2=>some l2) (some Z)) (fun l3=>(some (Sum.inl (l3,(1:Int))):Option ((List Nat × Int) ⊕ List Nat)))=_
  rw[decide_eq_false h0,decide_eq_false h1,show(!false)=true from rfl,dJ,ai,dJ,hmul,ai]
  dsimp only
  rw[hadd,ai]
  dsimp only
  rfl
 have ci:∀v:Bool,br v (some (!decide ((0:Nat)=0))) (some false)=some false:=fun v=>by cases v<;>rfl
 have cj:∀j:Nat,1≤j→j<8→lY (m+20) b 0 0 0 0 0 0 0 a 0 (P,(j:Int))=some (.inl (P,((j+1:Nat):Int))):=fun j h2 h3=>by
  have hj:j=1∨j=2∨j=3∨j=4∨j=5∨j=6∨j=7:=by omega
  rcases hj with rfl|rfl|rfl|rfl|rfl|rfl|rfl<;>
  ·show ob (ob (br (!decide (a=0)) (some (!decide ((0:Nat)=0))) (some false)) _) _=_
   rw[ci]; rfl
 have c1:lY (m+20) b 0 0 0 0 0 0 0 a 0 (P,((8:Nat):Int))=some (.inr P):=rfl;have hrow:bX (lY (m+20) b 0 0 0 0 0 0 0 a 0) (m+20) (Z,0)=some P:=by
  rw[az c0,show(1:Int)=((1:Nat):Int) from rfl,az (cj 1 (by decide) (by decide)),az (cj 2 (by decide) (by decide)),az (cj 3 (by decide) (by decide)),az (cj 4 (by decide) (by decide)),az (cj 5 (by decide) (by decide)),az (cj 6 (by decide) (by decide)),az (cj 7 (by decide) (by decide)),bu c1]
 have d0:nJ (m+20) a 0 0 0 0 0 0 0 b 0 0 0 0 0 0 0 (Z,0)=some (.inl (P,1)):=by
  show ob (bX (lY (m+20) b 0 0 0 0 0 0 0 a 0) (m+20) (Z,0)) _=_
  rw[hrow]; rfl
 have dj:∀j:Nat,1≤j→j<8→nJ (m+20) a 0 0 0 0 0 0 0 b 0 0 0 0 0 0 0 (P,(j:Int))=some (.inl (P,((j+1:Nat):Int))):=fun j h2 h3=>by
  have hj:j=1∨j=2∨j=3∨j=4∨j=5∨j=6∨j=7:=by omega
  rcases hj with rfl|rfl|rfl|rfl|rfl|rfl|rfl<;>rfl
 have d1:nJ (m+20) a 0 0 0 0 0 0 0 b 0 0 0 0 0 0 0 (P,((8:Nat):Int))=some (.inr P):=rfl;have ht:D9 (m+20) a 0 0 0 0 0 0 0 b 0 0 0 0 0 0 0=some (a*b,0,0,0,0,0,0,0,0):=by
  unfold D9
  show ob (bX (nJ (m+20) a 0 0 0 0 0 0 0 b 0 0 0 0 0 0 0) (m+20) (Z,0)) _=_
  rw[az d0,show(1:Int)=((1:Nat):Int) from rfl,az (dj 1 (by decide) (by decide)),az (dj 2 (by decide) (by decide)),az (dj 3 (by decide) (by decide)),az (dj 4 (by decide) (by decide)),az (dj 5 (by decide) (by decide)),az (dj 6 (by decide) (by decide)),az (dj 7 (by decide) (by decide)),bu d1]; rfl
 unfold Lu;rw[ai,sy,ai]
 dsimp only
 rw[sy,ai]
 dsimp only
 unfold HX;rw[ht,ai]
 dsimp only
 rw[show(!(false == false))=false from rfl,show td (m+20) false (a*b) 0 0 0 0 0 0 0=some (false,a*b,0,0,0,0,0,0,0) from rfl,ai]
 dsimp only
 rw[ai]
 dsimp only
 rw[show decide (0<(0:Nat))=false from rfl,dX,II (by omega)]; rfl
theorem Ks (n x1 x2 x3:Nat) (l4:List (Nat × Nat)) (hn:12<n):∃N es,LQ n x1 x2 x3 l4=some (N,es)∧wT N es=true∧N≤12:=by
 unfold LQ;have w1:IntKind.wrap .i64 ((x1%4:Nat):Int)=((x1%4:Nat):Int):=bz (by omega) (by omega)
 have w2:IntKind.wrap .i64 ((x2%3:Nat):Int)=((x2%3:Nat):Int):=bz (by omega) (by omega)
 have w3:IntKind.wrap .i64 (1+((x1%4:Nat):Int))=1+((x1%4:Nat):Int):=bz (by omega) (by omega)
 have w4:IntKind.wrap .i64 (1+((x2%3:Nat):Int))=1+((x2%3:Nat):Int):=bz (by omega) (by omega)
 rw[w1,w2,w3,w4,ai];have hN:∀a b:Nat,a<4→b<3→1≤(1+(a:Int))*(1+(b:Int))∧(1+(a:Int))*(1+(b:Int))≤12:=by
  intro a b ha hb;have h1:a=0∨a=1∨a=2∨a=3:=by omega
  have h2:b=0∨b=1∨b=2:=by omega
  rcases h1 with rfl|rfl|rfl|rfl<;>rcases h2 with rfl|rfl|rfl<;>decide
 have hN':=hN (x1%4) (x2%3) (Nat.mod_lt _ (by omega)) (Nat.mod_lt _ (by omega))
 rw[bz (by omega) (by omega)]
 obtain⟨r,hr,hl,hu⟩:=E0 n ((1+((x1%4:Nat):Int))*(1+((x2%3:Nat):Int))) (1+((x1%4:Nat):Int)) x3 l4 hN' (by omega) n hn hn
 refine⟨_,r,by rw[hr,ai],?_⟩
 refine⟨?_,hN'.2⟩;simp only[wT,Bool.and_eq_true,decide_eq_true_eq];exact⟨⟨hN'.1,by omega,hl⟩,hu⟩
theorem Al {n a b:Nat} (hn:18446744073709551616<n) (ha:a<18446744073709551616) (hb:b<18446744073709551616) (hb0:b≠0) {s t:Bool} {l k:List Nat} (h:Lg (a:Int) s l) (h':Lg (b:Int) t k) :
  ∃s' l' t' k',K6 n s l t k=some (s',l',t',k')∧Lg ((a/Nat.gcd a b:Nat):Int) s' l'∧Lg ((b/Nat.gcd a b:Nat):Int) t' k':=by
 have hg0:Nat.gcd a b≠0:=fun e=>hb0 (Nat.eq_zero_of_gcd_eq_zero_right e);have hgb:Nat.gcd a b≤b:=Nat.le_of_dvd (by omega) (Nat.gcd_dvd_right a b)
 obtain⟨rfl,rfl⟩:=h.inj (qa (by omega))
 obtain⟨rfl,rfl⟩:=h'.inj (qa (by omega))
 have ea:((a/Nat.gcd a b:Nat):Int)*((Nat.gcd a b:Nat):Int)=(a:Int):=by rw[←Int.natCast_mul,Nat.div_mul_cancel (Nat.gcd_dvd_left a b)]
 have eb:((b/Nat.gcd a b:Nat):Int)*((Nat.gcd a b:Nat):Int)=(b:Int):=by rw[←Int.natCast_mul,Nat.div_mul_cancel (Nat.gcd_dvd_right a b)]
 have hla:=yG a;have hlb:=yG b;rw[←ea] at h;rw[←eb] at h';obtain⟨u1,m1,v1,o1,f1,f2⟩:=tY (n:=n) h (qa (v:=Nat.gcd a b) (by omega)) (by omega) (by omega) (by omega) (by omega) (by omega)
 obtain⟨u2,m2,v2,o2,f3,f4⟩:=tY (n:=n) h' (qa (v:=Nat.gcd a b) (by omega)) (by omega) (by omega) (by omega) (by omega) (by omega)
 have hu2:=f4.BS;rw[decide_eq_false (Int.not_lt.2 (Int.natCast_nonneg _))] at hu2;subst hu2;refine⟨u1,m1,false,m2,?_,f2,f4⟩;unfold K6 Gp;rw[Ix (by omega) b a n (by omega) (by omega) (by omega),ai,ai]
 dsimp only
 rw[f1,ai]
 dsimp only
 rw[f3,ai]
 rfl
theorem LM:(sW 11 200).all (fun x=>Nat.blt x 18446744073709551616)=true:=by decide +kernel
theorem Ej {e k:Nat} (he:e≤200) (hk:k≤11):cb e k<18446744073709551616:=Nat.lt_of_le_of_lt (AN he k) (E3 LM hk)
section
variable {M : Nat} {es : List (Int × Int)} {x n : Nat} {k : Int}
theorem E6 (es:List (Int × Int)) (x:Nat):(il es x 0 es.length).length≤es.length:=by
 unfold il;rw[List.length_map];have h2:=List.length_filter_le (fun(k:Nat)=>cC es x (k:Int)) (List.range' 0 es.length);rw[List.length_range'] at h2;exact h2
theorem mJ (hl:es.length≤200) (hr:rk x 64≤12):(bZ es x).length<18446744073709551616 :=
 Nat.lt_of_le_of_lt (El es _ _ _) (Ej (Nat.le_trans (E6 es x) hl) (by omega))
theorem IY (hO:Okay M es) (hx:x<2 ^ 64) (h0:x≠0) (hr:rk x 64≤12) (hn:300<n) (x1:Int):∃t q,C4 n x1 es x [] []=some (t,q)∧Lg ((bZ es x).length:Int) t q:=by
 have hw:wl es x [] 0 es.length = []:=JD es x 0 es.length;have ha:bG (fun x=>x) (wl es x [] 0 es.length)=true:=by rw[hw]; rfl
 have hp:=Dm (W:=[]) hO hx (show 0<x by omega) ha
 rw[hw,List.length_nil] at hp;obtain⟨t,q,h1,h2⟩:=(Ap (W:=[]) (O:=[]) hO hx (show 0<x by omega) hn x1 (fun k hk=>by
  rw[uB];exact Ej (Nat.le_trans (E6 es x) hO.len) (by omega))).2 ha
 refine⟨t,q,h1,?_⟩;have hrW:rW es x []=fun x=>x:=by unfold rW; rw[hw]; rfl
 rw[uB,hrW,show(pW es x []).length=rk x 64-1 by omega] at h2
 exact h2
theorem I6 (hok:wT (M:Int) es=true) (h0:x≠0) (hM:x<2 ^ M):Na (M:Int) es x=0:=by
 unfold Na;rw[if_pos hok,if_neg];rintro(h|h)
 ·exact h0 h
 ·rw[Int.toNat_natCast] at h; omega
theorem px (hok:wT (M:Int) es=true) (hO:Okay M es) (h0:x≠0) (hM:x<2 ^ M) (hr:rk x 64≤12) (hn:300<n):GI n (M:Int) es x=some ((bZ es x).length,0,0,0,0,0,0,0,0):=by
 have hx:=wK hM hO.le;have hl:=hO.len;obtain⟨t,q,q1,q2⟩:=IY hO hx h0 hr hn (M:Int);unfold GI;rw[FY n (M:Int) es x hx (by omega) (by omega) (by omega),ai,I6 hok h0 hM,decide_eq_true rfl,Bool.not_true,dX,q1,ai]
 dsimp only
 rw[qD (by omega) (mJ hl hr) q2,ai]
theorem GV (hok:wT (M:Int) es=true) (hO:Okay M es) (h0:x≠0) (hM:x<2 ^ M) (hr:rk x 64≤12) (hn:18446744073709551616<n) (hin:cC es x k=true) :
  ((bZ es x).length=0→K9 n (M:Int) es x k=some (0,0,0,0,0,0,0,0,0,0,0,0,0,0,0,0,7)) ∧
  ((bZ es x).length≠0→K9 n (M:Int) es x k=some (hv k (bZ es x)/Nat.gcd (hv k (bZ es x)) (bZ es x).length,0,0,0,0,0,0,0,(bZ es x).length/Nat.gcd (hv k (bZ es x)) (bZ es x).length,0,0,0,0,0,0,0,0)):=by
 have hx:=wK hM hO.le;have hl:=hO.len;obtain⟨t,q,q1,q2⟩:=IY hO hx h0 hr (show 300<n by omega) (M:Int)
 have htest:(br (decide (k<0)) (some true) (br (decide ((es.length:Int)≤k)) (some true) (gd (bL k es.length) (ob (es[k.toNat]?) fun(x53,x54)=>ob (G5 n x x53 x54) fun r57=>some (!r57)))))=some false:=by
  obtain⟨hv1,hv2,hv3⟩:=da hin;obtain⟨a,b,c1,c2,c3,c4,_,c5⟩:=jR hO hv1;have h1:=hv1.1;have h2:=hv1.2;rw[c2] at hv2 hv3;rw[bt (by omega),bt (by omega),c5,aW,c1,ai]
  dsimp only
  rw[pV n x a b hx (by omega) c4,ai,hv2,hv3]; rfl
 unfold K9;rw[FY n (M:Int) es x hx (by omega) (by omega) (by omega),ai,I6 hok h0 hM,decide_eq_true rfl,Bool.not_true,dX,htest,ai,dX,q1,ai]
 dsimp only
 obtain⟨sg,s1,s2,s3⟩:=Da (n:=n) q2;rw[s1,ai];refine⟨fun hz=>by rw[bC (s3.2 (by omega))],fun hz=>?_⟩
 rw[bt (fun e=>hz (by have:=s3.1 e; omega))]
 obtain⟨hv1,_,_⟩:=da hin;obtain⟨kn,rfl⟩:=Int.eq_ofNat_of_zero_le hv1.1;have hkn:kn<es.length:=by have:=hv1.2; omega
 obtain⟨a,b,c1,c2,c3,c4,_,c5⟩:=jR hO hv1;have hw1:=KW hin hkn;have haj:bG (fun x=>x) (wl es x (fE ([]:List (Int × Bool)) (kn:Int) true) 0 es.length)=true:=by
  rw[hw1,c2];have:(a == b)=false:=by simp; omega
  simp[bG]; omega
 have hp:=Dm (W:=fE ([]:List (Int × Bool)) (kn:Int) true) hO hx (show 0<x by omega) haj
 rw[hw1,List.length_singleton] at hp;obtain⟨t2,p2,e1,e2⟩:=(Ap (W:=fE ([]:List (Int × Bool)) (kn:Int) true) (O:=[]) hO hx (show 0<x by omega) (show 300<n by omega) (M:Int) (fun k hk=>by
  rw[uB];exact Ej (Nat.le_trans (E6 es x) hl) (by omega))).2 haj
 have hrW:rW es x (fE ([]:List (Int × Bool)) (kn:Int) true)=bf (fun x=>x) (eg es (kn:Int)):=by unfold rW; rw[hw1]; rfl
 have hmem:(kn:Int) ∈ il es x 0 es.length:=vj hin;have hne:(fun x:Nat=>x) (eg es (kn:Int)).1≠(fun x:Nat=>x) (eg es (kn:Int)).2:=by rw[c2]; show a≠b; omega
 have hh:=D7 es (kn:Int) (il es x 0 es.length) (rk x 64-2) (fun x=>x) (xR _ _ _ _) hmem hne;rw[hrW,uB,show(pW es x (fE ([]:List (Int × Bool)) (kn:Int) true)).length=rk x 64-2 by omega,←hh,show rk x 64-2+1=rk x 64-1 by omega] at e2
 have e2':Lg ((hv (kn:Int) (bZ es x):Nat):Int) t2 p2:=e2;have hvle:hv (kn:Int) (bZ es x)≤(bZ es x).length:=List.length_filter_le _ _;have hT:=mJ hl hr;obtain⟨s',l',t',k',f1,f2,f3⟩:=Al (n:=n) hn (show hv (kn:Int) (bZ es x)<18446744073709551616 by omega) hT hz e2' q2
 have d1:=Nat.div_le_self (hv (kn:Int) (bZ es x)) (Nat.gcd (hv (kn:Int) (bZ es x)) (bZ es x).length);have d2:=Nat.div_le_self (bZ es x).length (Nat.gcd (hv (kn:Int) (bZ es x)) (bZ es x).length);rw[e1,ai]
 dsimp only
 rw[f1,ai]
 dsimp only
 unfold K7;rw[qD (by omega) (by omega) f2,ai]
 dsimp only
 rw[qD (by omega) (by omega) f3]; rfl
theorem AQ (hn:40<n) {v:Nat} (hv:v<18446744073709551616):JU n v 0 0 0 0 0 0 0=some (false,ul v)∧Lg (v:Int) false (ul v):=by
 refine⟨?_,qa hv⟩;unfold JU;rw[sy,ai]
 dsimp only
 rw[show kZ ((([]:List Nat)++[v,0,0,0,0,0,0,0]).length)=true from rfl,aW]
 show ob (kg n false [v,0,0,0,0,0,0,0]) _=_
 rw[Hh (by omega) false (fun h=>by cases h),ai]
theorem Mr (hn:18446744073709551616<n) {a b:Nat} (ha:a<18446744073709551616) (hb:b<18446744073709551616) (hb0:b≠0):M7 n a 0 0 0 0 0 0 0 b 0 0 0 0 0 0 0=some (a/Nat.gcd a b,0,0,0,0,0,0,0,b/Nat.gcd a b,0,0,0,0,0,0,0,0):=by
 obtain⟨l1,l2⟩:=AQ (n:=n) (by omega) ha
 obtain⟨l3,l4⟩:=AQ (n:=n) (by omega) hb
 obtain⟨s',l',t',k',f1,f2,f3⟩:=Al (n:=n) hn ha hb hb0 l2 l4;have d1:=Nat.div_le_self a (Nat.gcd a b);have d2:=Nat.div_le_self b (Nat.gcd a b);unfold M7;rw[decide_eq_false hb0]
 show br false _ _=_
 rw[dX,l1,ai]
 dsimp only
 rw[l3,ai]
 dsimp only
 rw[f1,ai]
 dsimp only
 unfold K7;rw[qD (by omega) (by omega) f2,ai]
 dsimp only
 rw[qD (by omega) (by omega) f3]; rfl
theorem yS (hO:Okay M es) (hM:x<2 ^ M) (h0:x≠0) {kn:Nat} (hin:cC es x (kn:Int)=true) {t:List Int} (hT:Tr M es x t) {L:List Nat} (hL:Cs (es.eraseIdx kn) x x L):L.length=1∨∃A B,L = [A,B]∧Two M es x A B (kn:Int):=by
 have hx:=wK hM hO.le;have hadj:∀{i:Int},cC es x i=true→i≠(kn:Int)→∀{y z:Nat},(eg es i=(y,z)∨eg es i=(z,y))→yp (es.eraseIdx kn) y z:=fun {i} hi hk {y z} hyz=>by
  obtain⟨a,b,c1,c2,_⟩:=jR hO (da hi).1;have hm:((a:Int),(b:Int)) ∈ es.eraseIdx kn:=List.mem_eraseIdx_iff_getElem?.2 ⟨i.toNat,by have:=(da hi).1.1; omega,c1⟩
  rcases hyz with e|e<;>rw[c2] at e<;>cases e
  ·exact .inl hm
  ·exact .inr hm
 have htz:=fL (Nat.pos_of_ne_zero h0) hx;cases hL with
 | nil=>exact absurd rfl h0
 | cons g0 gr gw hrest =>
  rename_i A L;have hsub:∀j,A.testBit j=true→x.testBit j=true:=fun j hj=>((gw.2 j).1 hj).mem htz.1;have hstep:∀{y z:Nat},yp (es.eraseIdx kn) y z→x.testBit z=true→A.testBit y=true→A.testBit z=true:=fun ha hz hy=>(gw.2 _).2 (.step ((gw.2 _).1 hy) ha hz);generalize hr:iI .u64 x A=r at hrest;cases hrest with
  | nil=>exact .inl rfl
  | cons b0 br' bw brest =>
   rename_i B L;have hnb:=fL b0 br';have hrb:∀i,r.testBit i=(x.testBit i && !A.testBit i):=fun i=>by rw[←hr,np hx gw.1]
   rw[hrb,Bool.and_eq_true,Bool.not_eq_true'] at hnb;have hsame:∀i,cC es x i=true→i≠(kn:Int)→A.testBit (eg es i).1=A.testBit (eg es i).2:=fun i hi hk=>by
    obtain⟨_,h2,h3⟩:=da hi;rw[Bool.eq_iff_iff];exact⟨fun g=>hstep (hadj hi hk (.inl rfl)) h3 g,fun g=>hstep (hadj hi hk (.inr rfl)) h2 g⟩
   have hout:∃p q,(eg es (kn:Int)=(p,q)∨eg es (kn:Int)=(q,p))∧A.testBit p=true∧A.testBit q=false:=by
    refine Classical.byContradiction fun hno=>?_;have hcl:=(hT.cn htz.1 hnb.1.1).closed (Q:=fun y=>A.testBit y=true) ((gw.2 _).2 .refl) fun y z hy hn=>by
     obtain⟨i,hi,hyz⟩:∃i ∈ t,eg es i=(y,z)∨eg es i=(z,y):=by
      rcases hn with hn|hn
      ·obtain⟨i,hi,e⟩:=List.mem_map.1 hn; exact⟨i,hi,.inl e⟩
      ·obtain⟨i,hi,e⟩:=List.mem_map.1 hn; exact⟨i,hi,.inr e⟩
     by_cases hk:i=(kn:Int)
     ·subst hk;cases e:A.testBit z with
      | true=>rfl
      | false=>exact absurd ⟨y,z,hyz,hy,e⟩ hno
     ·have hs:=hsame i (hT.cC i hi) hk;rcases hyz with e|e<;>rw[e] at hs<;>simp only at hs
      ·rw[←hs]; exact hy
      ·rw[hs]; exact hy
    rw[hnb.1.2] at hcl; cases hcl
   obtain⟨p,q,hpq,hp,hq⟩:=hout;have hxq:x.testBit q=true:=by
    obtain⟨_,h2,h3⟩:=da hin;rcases hpq with e|e<;>rw[e] at h2 h3
    ·exact h3
    ·exact h2
   have hall:∀j,x.testBit j=true→A.testBit j=true∨Rch (es.eraseIdx kn) x q j:=fun j hj =>
    (hT.cn htz.1 hj).closed (Q:=fun y=>A.testBit y=true∨Rch (es.eraseIdx kn) x q y) (.inl ((gw.2 _).2 .refl)) fun y z hy hn=>by
     obtain⟨i,hi,hyz⟩:∃i ∈ t,eg es i=(y,z)∨eg es i=(z,y):=by
      rcases hn with hn|hn
      ·obtain⟨i,hi,e⟩:=List.mem_map.1 hn; exact⟨i,hi,.inl e⟩
      ·obtain⟨i,hi,e⟩:=List.mem_map.1 hn; exact⟨i,hi,.inr e⟩
     obtain⟨_,h2,h3⟩:=da (hT.cC i hi);have hxz:x.testBit z=true:=by
      rcases hyz with e|e<;>rw[e] at h2 h3
      ·exact h3
      ·exact h2
     by_cases hk:i=(kn:Int)
     ·subst hk;have hcase:z=p∨z=q:=by
       rcases hpq with e|e<;>rw[e] at hyz<;>rcases hyz with e|e<;>cases e<;>simp
      rcases hcase with rfl|rfl
      ·exact .inl hp
      ·exact .inr .refl
     ·have had:=hadj (hT.cC i hi) hk hyz;rcases hy with hy|hy
      ·exact .inl (hstep had hxz hy)
      ·exact .inr (.step hy had hxz)
   have hqB:=(hall _ hnb.1.1).resolve_left (by rw[hnb.1.2]; simp)
   have hBm:∀j,B.testBit j=(x.testBit j && !A.testBit j):=fun j=>by
    rw[Bool.eq_iff_iff,Bool.and_eq_true,Bool.not_eq_true',bw.2];constructor
    ·intro h1;have h2:=h1.mem hnb.1.1;refine⟨h2,?_⟩;cases e:A.testBit j with
     | false=>rfl
     | true =>
      have h3:=h1.symm hnb.1.1;have:=(gw.2 _).2 (((gw.2 j).1 e).trans h3);rw[hnb.1.2] at this; cases this
    ·rintro⟨h1,h2⟩;exact(hqB.symm hxq).trans ((hall j h1).resolve_left (by rw[h2]; simp))
   have hz:iI .u64 r B=0:=C1.2 fun i=>by
    rw[np br' bw.1,hrb,hBm];cases x.testBit i<;>cases A.testBit i<;>rfl
   rw[hz] at brest;cases brest with
   | cons c0=>omega
   | nil =>
    refine .inr ⟨A,B,rfl,⟨hO,hx,gw.1,bw.1,hsub,hBm,hsame,hin,?_⟩⟩;rcases hpq with e|e<;>rw[e]<;>simp only[hp,hq]<;>rfl
end
theorem ke {M i:Nat}:(2 ^ M-1).testBit i=decide (i<M):=Nat.testBit_two_pow_sub_one M i
theorem Fm {M:Nat} (hM:M≤12):dw .u64 (dH .u64 1 ((M:Nat):Int).toNat) 1=2 ^ M-1:=by
 have h2:2 ^ M≤2 ^ 12:=Nat.pow_le_pow_right (by decide) hM
 have h0:0<2 ^ M:=Nat.pow_pos (by decide)
 rw[Int.toNat_natCast,qL (by omega),pv (by omega) (by omega)]
theorem Ht {M:Nat} (hM:M≤64):rk (2 ^ M-1) 64=M:=by
 have h0:0<2 ^ M:=Nat.pow_pos (by decide)
 rw[Jk (M:=M) (by omega) hM]
 unfold rk fy;rw[List.filter_eq_self.2 fun i hi=>by rw[ke]; exact decide_eq_true (List.mem_range.1 hi)]
 exact List.length_range
theorem LV (n a:Nat):MH n a 0 0 0 0 0 0 0=some (if a=0 then 0 else 1):=by
 unfold MH;rw[sy,ai]
 dsimp only
 rw[dX]
 by_cases h:a=0
 ·subst h; rfl
 ·rw[decide_eq_false h,if_neg h]; rfl
theorem Gw (n x1 x2 x3:Nat) (l4:List (Nat × Nat)) (x8:Nat) (h8:x8<256) (hn:18446744073709551616<n):F6 n x1 x2 x3 l4 x8=some true:=by
 obtain⟨N,es,g1,hok,hN⟩:=Ks n x1 x2 x3 l4 (by omega)
 obtain⟨M,rfl,hO⟩:=pM hok;have hM12:M≤12:=by omega
 have hM1:1≤M:=by
  simp only[wT,Bool.and_eq_true,decide_eq_true_eq] at hok;have:=hok.1.1; omega
 have h2:2 ^ M≤2 ^ 12:=Nat.pow_le_pow_right (by decide) hM12
 have h21:2 ^ 1≤2 ^ M:=Nat.pow_le_pow_right (by decide) hM1
 have hl:=hO.len;have hS0:2 ^ M-1≠0:=by omega
 have hSM:2 ^ M-1<2 ^ M:=by omega
 have hrk:=Ht (M:=M) (by omega)
 have hc:=px (x:=2 ^ M-1) (n:=n) hok hO hS0 hSM (by omega) (by omega)
 have o0:Mi n 0=some (0,0,0,0,0,0,0,0):=rfl;unfold F6;rw[show F8 n=some true from rfl,ai,Bool.not_true,dX,g1,ai]
 dsimp only
 rw[decide_eq_true (show(0:Int)≤(M:Int) by omega),aW]
 simp only[Fm hM12]
 by_cases he:es.length=0
 ·obtain rfl:es = []:=List.length_eq_zero_iff.1 he;rw[bC (show(([]:List (Int × Int)).length:Int)=0 by rfl),ai,hc,ai]
  dsimp only
  rw[o0];have hT:(bZ [] (2 ^ M-1)).length=if M=1 then 1 else 0:=by
   unfold bZ;rw[show il [] (2 ^ M-1) 0 ([]:List (Int × Int)).length = [] from rfl,hrk]
   by_cases h:M=1
   ·subst h; rfl
   ·rw[if_neg h];obtain⟨d,hd⟩:∃d,M-1=d+1:=⟨M-2,by omega⟩
    rw[hd]; rfl
  rw[hT]
  by_cases h:M=1
  ·subst h; rfl
  ·rw[if_neg h]
   show some (true == decide (1<(M:Int)))=some true
   rw[decide_eq_true (by omega)]; rfl
 ·rw[bt (show ¬((es.length:Int)=0) by omega),decide_eq_true (show(es.length:Int)≠0 by omega),aW]
  unfold Nj;rw[gD (by omega),aW,ai]
  have hm:Int.tmod (IntKind.wrap .i64 ((x8:Nat):Int)) (es.length:Int)=((x8%es.length:Nat):Int):=by
   rw[bz (by omega) (by omega),Int.tmod_eq_emod_of_nonneg (by omega)]; omega
  rw[hm];have hk:x8%es.length<es.length:=Nat.mod_lt _ (by omega)
  generalize x8%es.length=k at hk;have hget:es[k]? = some es[k]:=List.getElem?_eq_getElem hk;have hok':=DL hok hget;rw[←List.eraseIdx_eq_take_drop_succ] at hok';have hO':Okay M (es.eraseIdx k):=by
   obtain⟨M',e,h⟩:=pM hok';have:M'=M:=by omega
   subst this; exact h
  have hdel:ML n es (k:Int) ((k+1:Nat):Int)=some (es.eraseIdx k):=by
   unfold ML;rw[show okB (k:Int) ((k+1:Nat):Int) es.length=true from decide_eq_true (by omega),aW,decide_eq_true (by omega),aW,gD (by omega),aW,Int.toNat_natCast,Int.toNat_natCast,List.eraseIdx_eq_take_drop_succ]
  rw[bY (by omega),ai,hdel,ai]
  have hc':=px (x:=2 ^ M-1) (n:=n) hok' hO' hS0 hSM (by omega) (by omega)
  rw[hc,ai]
  dsimp only
  rw[hc',ai]
  dsimp only
  have hin:cC es (2 ^ M-1) (k:Int)=true:=by
   obtain⟨a,b,e1,e2,e3,e4,e5,e6⟩:=jR hO (k:=(k:Int)) ⟨by omega,by omega⟩
   unfold cC;rw[e2,decide_eq_true ⟨by omega,by omega⟩,ke,ke,decide_eq_true (show a<M by omega),decide_eq_true e5]; rfl
  have hh:=GV (x:=2 ^ M-1) (n:=n) hok hO hS0 hSM (by omega) hn hin
  have hle:=ym (es:=es) (x:=2 ^ M-1) hk;have hT:=mJ (es:=es) (x:=2 ^ M-1) hl (by omega)
  by_cases hz:(bZ es (2 ^ M-1)).length=0
  ·rw[hh.1 hz,ai]
   dsimp only
   rw[hz,show(bZ (es.eraseIdx k) (2 ^ M-1)).length=0 by omega]
   rfl
  ·rw[hh.2 hz,ai]
   dsimp only
   have hv:hv (k:Int) (bZ es (2 ^ M-1))=(bZ es (2 ^ M-1)).length-(bZ (es.eraseIdx k) (2 ^ M-1)).length:=by omega
   rw[decide_eq_true (rfl:(0:Int)=0),Bool.not_true,dX,ai,dX,LV,ai,if_neg hz,bt (by decide),Nt (by omega) (by omega) hT,ai]
   dsimp only
   rw[Mr hn (by omega) hT hz,ai,hv]
   dsimp only
   simp only[decide_true,Bool.not_true,dX,Bool.and_true,ai,beq_self_eq_true];obtain⟨t,ht⟩:∃t,t ∈ bZ es (2 ^ M-1):=List.exists_mem_of_length_pos (by omega)
   have hx:=wK hSM hO.le;have hTr:=Bm hO hx hS0 (mP hx hS0 ht);obtain⟨L,l1,l2,_⟩:=Jl n M (es.eraseIdx k) (2 ^ M-1) hO' hSM (by omega)
   have hel:(es.eraseIdx k).length≤200:=hO'.len;have hck:Nc (M:Int) (es.eraseIdx k) (2 ^ M-1)=0:=by unfold Nc; rw[if_pos hok',Int.toNat_natCast,if_neg (by omega)]
   have h35:Li n (M:Int) (es.eraseIdx k) (2 ^ M-1)=some (L,0):=by
    unfold Li;rw[J8 n (M:Int) (es.eraseIdx k) (2 ^ M-1) hx (by omega) (by omega) (by omega),ai,hck,decide_eq_true rfl,Bool.not_true,dX,l1,ai]
   rw[h35,ai]
   dsimp only
   rcases yS hO hSM hS0 hin hTr l2 with h1|⟨A,B,rfl,h2⟩
   ·rw[h1]; rfl
   ·have hp:=h2.pos;have hcnt:=h2.count;have hsp:=nC _ A B h2.rest h2.sub;have hAM:A<2 ^ M:=by
     refine Nat.lt_pow_two_of_testBit A fun i hi=>?_;rw[←Bool.not_eq_true];exact fun hb=>by have:=h2.sub i hb; rw[ke,decide_eq_true_eq] at this; omega
    have hBM:B<2 ^ M:=by
     refine Nat.lt_pow_two_of_testBit B fun i hi=>?_;rw[←Bool.not_eq_true];exact fun hb=>by have:=h2.swap.sub i hb; rw[ke,decide_eq_true_eq] at this; omega
    have cA:=px (x:=A) (n:=n) hok hO hp.1 hAM (by omega) (by omega)
    have cB:=px (x:=B) (n:=n) hok hO hp.2 hBM (by omega) (by omega)
    have hA0:(bZ es A).length≠0:=fun e=>hz (by rw[hcnt,e,Nat.zero_mul])
    have hB0:(bZ es B).length≠0:=fun e=>hz (by rw[hcnt,e,Nat.mul_zero])
    have hAl:=mJ (es:=es) (x:=A) hl (by omega)
    have hBl:=mJ (es:=es) (x:=B) hl (by omega)
    rw[show decide (2<(([A,B]:List Nat).length:Int))=false from rfl,show(!decide ((0:Int)=0))=false from rfl,dX,ai,dX,show decide ((([A,B]:List Nat).length:Int)=2)=true from rfl,dJ,show bL 0 ([A,B]:List Nat).length=true from rfl,aW,show([A,B]:List Nat)[(0:Int).toNat]? = some A from rfl,ai,cA,ai]
    dsimp only
    rw[show bL 1 ([A,B]:List Nat).length=true from rfl,aW,show([A,B]:List Nat)[(1:Int).toNat]? = some B from rfl,ai,cB,ai]
    dsimp only
    rw[NA (by omega) hAl hBl hA0 hB0 (by omega),ai]
    dsimp only
    rw[hcnt];simp only[decide_true,dJ,Bool.and_true]
end Go.Proofs.YtookeaakpiefjaaGreatDoor
end
