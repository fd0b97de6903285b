/- A part of the proof. -/
import Derived.Test.YthmekkhpddehjaaGreatRl7
set_option linter.all false
namespace Go.Proofs.YthmekkhpddehjaaGreat
open Go Go.Ab Go.Ab.W Go.Ab.B Jd
section
variable(n:Nat)
def iR{a b:Nat}(h:a<=b):a*a<=b*b:=Qw h h
def om{x:Nat}(hx:x<=10000000000000):∀(k m low high:Nat),high-low<=2 ^ k->k<m->low<high->high<=4000000->low*low<=x->x<high*high->∃r:Nat,bR (nQ n (x:Int)) m ((low:Int),(high:Int))=some (r:Int)/\r*r<=x/\x<(r+1)*(r+1)
 | k,m+1,low,high,h1,h2,h3,h4,h5,h6=>by
  by_cases hc:high-low=1
  refine⟨low,?_,h5,by rw[show low+1=high by omega]; exact h6⟩
  rw[aX];unfold nQ
  dsimp only
  rw[aq (x:=(high:Int)-(low:Int)) (by omega) (by omega),aD (by omega)]
  ·obtain⟨k,rfl⟩:∃j,k=j+1:=⟨k-1,by
    cases k with
    | zero=>simp at h1; omega
    | succ k=>rfl⟩
   have hp:2 ^ (k+1)=2*2 ^ k:=by rw[QJ,Qm]
   have hmid:Qt ((low:Int)+(high:Int)) 2=(((low+high)/2:Nat):Int):=rfl;have hb:((low+high)/2)*((low+high)/2)<=4000000*4000000:=iR (by omega)
   have step:nQ n (x:Int) ((low:Int),(high:Int))=if((low+high)/2)*((low+high)/2)<=x then some (.inl ((((low+high)/2:Nat):Int),(high:Int))) else some (.inl ((low:Int),(((low+high)/2:Nat):Int))):=by
    unfold nQ
    dsimp only
    rw[aq (x:=(high:Int)-(low:Int)) (by omega) (by omega),aH (by omega),aq (x:=(low:Int)+(high:Int)) (by omega) (by omega),hmid,aq (x:=(((low+high)/2:Nat):Int)) (by omega) (by omega),ak,
     show((((low+high)/2:Nat):Int)*(((low+high)/2:Nat):Int))=(((low+high)/2*((low+high)/2):Nat):Int) from(P8 _ _).symm,aq (by omega) (by omega)]
    by_cases g:((low+high)/2)*((low+high)/2)<=x
    rw[Ph g,aH (by omega)]
    rw[Pb g,aD (by omega)]
   by_cases g:((low+high)/2)*((low+high)/2)<=x
   rw[Ph g] at step;rw[aO step];exact om hx k m _ _ (by omega) (by omega) (by omega) h4 g h6
   rw[Pb g] at step;rw[aO step];exact om hx k m _ _ (by omega) (by omega) (by omega) (by omega) h5 (by omega)
def IT{x:Nat}(hx:x<=10000000000000)(hn:100<n):∃r:Nat,Eb n (x:Int)=some (r:Int)/\r*r<=x/\x<(r+1)*(r+1):=by
 obtain⟨r,h1,h2,h3⟩:=om n hx 22 n 0 4000000 (by decide) (by omega) (by decide) (by decide) (by omega) (by omega)
 exact⟨r,by unfold Eb; rw[show((0:Int),(4000000:Int))=(((0:Nat):Int),((4000000:Nat):Int)) from rfl,h1,ak],h2,h3⟩
def o6{p:Nat}(hp:2<=p)(hp2:p<=21545)(hP:Ey p){N:Nat}(hN:N<=10000000000000):∀(k m v s:Nat) (odd:Bool),v<2 ^ k->k<m->0<v->0<s->s*s*(if odd then p else 1)*v<=N ->
  ∃(v' s':Nat) (odd':Bool),bR (mw n (p:Int)) m ((v:Int),(s:Int),odd)=some ((v':Int),(s':Int),odd')/\0<v'/\0<s'/\¬p∣v'/\v'∣v/\s*s*(if odd then p else 1)*v=s'*s'*(if odd' then p else 1)*v'
 | 0,m,v,s,odd,h1,_,h3,_,_=>by simp at h1; omega
 | k+1,m+1,v,s,odd,h1,h2,h3,h4,h5=>by
  have hpow:2 ^ (k+1)=2*2 ^ k:=by rw[QJ,Qm]
  by_cases hd:v%p=0
  have hv:v=p*(v/p):=by have:=Q6 v p; omega
  have hvp:0<v/p:=Qg fun e=>by rw[e] at hv; omega
  have hlt:2*(v/p)<=v:=by rw[Qm]; exact PB (Q7 _ hp) (by rw[Qm]; exact Ro hv.symm)
  have e5:s*s*(if odd then p else 1)*v=(if odd then s*p else s)*(if odd then s*p else s)*(if !odd then p else 1)*(v/p):=by
   conv=>lhs; rw[hv]
   generalize v/p=w;cases odd<;>simp<;>grind
  have hs':0<(if odd then s*p else s):=by
   split
   exact P3 h4 (by omega)
   exact h4
  obtain⟨v',s',odd',g1,g2,g3,g4,g5,g6⟩:=o6 hp hp2 hP hN k m (v/p) (if odd then s*p else s) (!odd) (by omega) (by omega) hvp hs' (by rw[<-e5]; exact h5)
  refine⟨v',s',odd',?_,g2,g3,g4,QF g5 ⟨p,by rw[Qm]; exact hv⟩,by rw[e5]; exact g6⟩
  rw[aO (s':=(((v/p:Nat):Int),(((if odd then s*p else s):Nat):Int),!odd)),g1]
  have hsN:(if odd then s*p else s)<=N:=by
   rw[e5] at h5;refine PB ?_ h5;refine PB ?_ (PK _ hvp);refine PB ?_ (PK _ (by split<;>omega))
   exact P4 _ hs'
  have hvN:v<=N:=by
   refine PB (P4 _ ?_) h5;exact P3 (P3 h4 h4) (by split<;>omega)
  unfold mw
  dsimp only
  rw[Po (show(p:Int)≠0 by omega),aN,show Int.tmod (v:Int) (p:Int)=((v%p:Nat):Int) from rfl,aH (by omega),aN,show Qt (v:Int) (p:Int)=((v/p:Nat):Int) from rfl,aq (x:=((v/p:Nat):Int)) (by omega) (by omega)]
  cases odd
  rw[cy,ak]; rfl
  simp only[if_true] at hsN ⊢;rw[fG,show(s:Int)*(p:Int)=((s*p:Nat):Int) from(P8 _ _).symm,aq (by omega) (by omega),ak]
  refine⟨v,s,odd,?_,h3,h4,fun c=>hd (Nat.mod_eq_zero_of_dvd c),Nat.dvd_refl v,rfl⟩;rw[aX];unfold mw
  dsimp only
  rw[Po (show(p:Int)≠0 by omega),aN,show Int.tmod (v:Int) (p:Int)=((v%p:Nat):Int) from rfl,aD (by omega)]
structure Ptd(x v s q p:Nat):Prop where
 v0:0<v
 s0:0<s
 eq:x=s*s*q*v
 sf:SF q
 tM:Rp q v
 low:∀d,2<=d->d<p->¬d∣v
def kj{x:Nat}(hx:x<=10000000000000)(hn:100<n):∀(k m v s q p:Nat),p+k=21546->k<m->2<=p->Ptd x v s q p ->
  ∃v' s' q' p':Nat,bR (lW n) m ((v:Int),(s:Int),(q:Int),(p:Int))=some ((v':Int),(s':Int),(q':Int))/\Ptd x v' s' q' p'/\(v'<p'*p'\/p'=21546)/\2<=p'
 | 0,m+1,v,s,q,p,h1,_,h3,h4=>by
  refine⟨v,s,q,p,?_,h4,.inr (by omega),h3⟩
  rw[aX];unfold lW
  dsimp only
  rw[aD (by omega)]
 | k+1,m+1,v,s,q,p,h1,h2,h3,h4=>by
  have hpp:p*p<=21545*21545:=iR (by omega)
  by_cases hlt:v<p*p
  refine⟨v,s,q,p,?_,h4,.inl hlt,h3⟩;rw[aX];unfold lW
  dsimp only
  rw[aH (by omega),show(p:Int)*(p:Int)=((p*p:Nat):Int) from(P8 _ _).symm,aq (by omega) (by omega),aH (by omega),ak]
  have hle:∀{a b:Nat},0<b->a<=a*b:=fun hb=>PK _ hb;have hq0:=h4.sf.1;have hs0:=h4.s0;have hv0:=h4.v0;have hvx:v<=x:=by rw[h4.eq]; exact P4 _ (P3 (P3 hs0 hs0) hq0)
  have hsv:s*s*v<=x:=by
   rw[h4.eq,show s*s*q*v=s*s*v*q by grind]; exact hle hq0
  by_cases hd:p∣v
  have hP:Ey p:=⟨h3,fun d hd2=>by
   by_cases e:d=1
   exact .inl e
   right
   have:d<=p:=Nat.le_of_dvd (by omega) hd2
   have:d≠0:=fun e=>by subst e; have:=Qv hd2; omega
   refine Pw fun ne=>h4.low d (by omega) (by omega) (QF hd2 hd)⟩
  obtain⟨v',s',odd',g1,g2,g3,g4,g5,g6⟩:=o6 n h3 (by omega) hP (N:=x) (by omega) 50 n v s false (by omega) (by omega) hv0 hs0 (by simpa using hsv)
  have hpq:¬p∣q:=fun c=>by
   have:=Nat.dvd_gcd c hd;rw[h4.tM] at this;have:=Nat.dvd_one.1 this;omega
  have hcq:Rp q v':=Nat.Coprime.coprime_dvd_right g5 h4.tM;have hcp:Rp p v':=hP.tM g4;have hinv:Ptd x v' s' (if odd' then q*p else q) (p+1):=by
   refine⟨g2,g3,?_,?_,?_,fun d hd1 hd2 hd3=>?_⟩
   have e6:s*s*v=s'*s'*(if odd' then p else 1)*v':=by simpa using g6
   rw[h4.eq,Nat.mul_right_comm,e6];cases odd'<;>simp<;>grind
   split
   exact h4.sf.mul hP.sf (hP.tM hpq).symm
   exact h4.sf
   split
   exact Nat.Coprime.mul_left hcq hcp
   exact hcq
   by_cases e:d=p
   exact g4 (e▸hd3)
   exact h4.low d hd1 (by omega) (QF hd3 g5)
  obtain⟨v2,s2,q2,p2,k1,k2,k3,k4⟩:=kj hx hn k m v' s' (if odd' then q*p else q) (p+1) (by omega) (by omega) (by omega) hinv
  refine⟨v2,s2,q2,p2,?_,k2,k3,k4⟩;have hqx:(if odd' then q*p else q)<=x:=by
   rw[hinv.eq];refine PB ?_ (hle hinv.v0);exact P4 _ (P3 g3 g3)
  rw[aO (s':=((v':Int),(s':Int),(((if odd' then q*p else q):Nat):Int),((p+1:Nat):Int))),k1]
  unfold lW
  dsimp only
  rw[aH (by omega),show(p:Int)*(p:Int)=((p*p:Nat):Int) from(P8 _ _).symm,aq (x:=((p*p:Nat):Int)) (by omega) (by omega),aD (by omega),g1,ak,aq (x:=(p:Int)+1) (by omega) (by omega)]
  dsimp only
  cases odd'
  rw[cy,ak]; rfl
  simp only[if_true] at hqx ⊢;rw[fG,show(q:Int)*(p:Int)=((q*p:Nat):Int) from(P8 _ _).symm,aq (by omega) (by omega),ak]; rfl
  
  have hinv:Ptd x v s q (p+1):=⟨hv0,hs0,h4.eq,h4.sf,h4.tM,fun d hd1 hd2 hd3=>by
   by_cases e:d=p
   exact hd (e▸hd3)
   exact h4.low d hd1 (by omega) hd3⟩
  obtain⟨v2,s2,q2,p2,k1,k2,k3,k4⟩:=kj hx hn k m v s q (p+1) (by omega) (by omega) (by omega) hinv
  refine⟨v2,s2,q2,p2,?_,k2,k3,k4⟩;rw[aO (s':=((v:Int),(s:Int),(q:Int),((p+1:Nat):Int))),k1];have g1:bR (mw n (p:Int)) n ((v:Int),(s:Int),false)=some ((v:Int),(s:Int),false):=by
   obtain⟨n,rfl⟩:∃j,n=j+1:=⟨n-1,by omega⟩
   rw[aX];unfold mw
   dsimp only
   have hm:v%p≠0:=fun c=>hd (Nat.dvd_of_mod_eq_zero c);rw[Po (show(p:Int)≠0 by omega),aN,show Int.tmod (v:Int) (p:Int)=((v%p:Nat):Int) from rfl,aD (by omega)]
  unfold lW
  dsimp only
  rw[aH (by omega),show(p:Int)*(p:Int)=((p*p:Nat):Int) from(P8 _ _).symm,aq (x:=((p*p:Nat):Int)) (by omega) (by omega),aD (by omega),g1,ak,aq (x:=(p:Int)+1) (by omega) (by omega)]
  rfl
def HE{x:Nat}(h0:0<x)(hx:x<=10000000000000)(hn:22000<n):∃s q:Nat,yW n (x:Int)=some ((s:Int),(q:Int))/\0<s/\SF q/\x=s*s*q:=by
 obtain⟨v,s,q,p,h1,h2,h3,h4⟩:=kj n hx (by omega) 21544 n x 1 1 2 rfl (by omega) (by decide) ⟨h0,by decide,by simp,SF.one,Nat.coprime_one_left x,fun d a b _=>by omega⟩
 have hq0:=h2.sf.1;have hs0:=h2.s0;have hv0:=h2.v0;have hvx:v<=x:=by rw[h2.eq]; exact P4 _ (P3 (P3 hs0 hs0) hq0)
 obtain⟨r,r1,r2,r3⟩:=IT n (x:=v) (by omega) (by omega)
 have hrr:r*r<=10000000000000:=by omega
 have hsx:s<=x:=by
  rw[h2.eq];refine PB ?_ (PK _ hv0);refine PB ?_ (PK _ hq0);exact PK _ hs0
 unfold yW;rw[show((x:Int),(1:Int),(1:Int),(2:Int))=((x:Int),((1:Nat):Int),((1:Nat):Int),((2:Nat):Int)) from rfl,h1,ak]
 dsimp only
 rw[r1,ak,show(r:Int)*(r:Int)=((r*r:Nat):Int) from(P8 _ _).symm,aq (x:=((r*r:Nat):Int)) (by omega) (by omega)]
 by_cases e:r*r=v
 have hr0:0<r:=Qg fun c=>by subst c; omega
 have hsr:s*r<=x:=by
  rw[h2.eq,<-e];refine PB ?_ (show s*r*(s*r*q)<=_ from Ro (by grind))
  exact PK _ (P3 (P3 hs0 hr0) hq0)
 refine⟨s*r,q,?_,P3 hs0 hr0,h2.sf,by rw[h2.eq,<-e]; grind⟩
 rw[aH (by omega),show(s:Int)*(r:Int)=((s*r:Nat):Int) from(P8 _ _).symm,aq (by omega) (by omega)]
 have hqv:q*v<=x:=by
  rw[h2.eq,QE];exact P4 _ (P3 hs0 hs0)
 refine⟨s,q*v,?_,hs0,h2.sf.mul ⟨hv0,fun d hd=>Pw fun hd1=>?_⟩ h2.tM,by rw[h2.eq,QE]⟩
 rw[aD (by omega),show(q:Int)*(v:Int)=((q*v:Nat):Int) from(P8 _ _).symm,aq (by omega) (by omega)]
 
 have hd0:d≠0:=fun c=>by
  subst c;have:=Qv (by simpa using hd)
  omega
 have hdv:d∣v:=QF (QQ d d) hd;have hdp:p<=d:=Pw fun c=>h2.low d (by omega) (by omega) hdv
 obtain⟨w,hw⟩:=hd;have hw0:0<w:=Qg fun c=>by subst c; omega
 have hdd:d*d<=v:=by rw[hw]; exact PK _ hw0
 rcases h3 with h3|h3
 have:=iR hdp;omega
 by_cases hw1:w=1
 
 rw[hw1,Nat.mul_one] at hw;have:r=d:=by
  rcases Nat.lt_trichotomy r d with g|g|g
  have:=iR (show r+1<=d by omega); omega
  exact g
  have:=iR (show d+1<=r by omega)
  have e2:(d+1)*(d+1)=d*d+2*d+1:=by grind
  omega
 exact e (by rw[this,hw])
 have hwv:w∣v:=⟨d*d,by rw[hw,Qm]⟩
 have hwp:p<=w:=Pw fun c=>h2.low w (by omega) (by omega) hwv
 have k1:21546*21546<=d*d:=iR (by omega)
 have k2:21546*21546*21546<=d*d*w:=Qw k1 (by omega)
 omega
end
def Dg(v:Nat):SB Int:=if h:v=0 then[] else((v%4294967296:Nat):Int)::Dg (v/4294967296)
termination_by v
decreasing_by exact Nat.div_lt_self (Qg h) (by decide)
def iz:Dg 0=[]:=by rw[Dg]; rfl
def iQ{v:Nat}(h:v≠0):Dg v=((v%4294967296:Nat):Int)::Dg (v/4294967296):=by rw[Dg,dif_neg h]
def ec{v:Nat}(h0:v≠0)(h:v<4294967296):Dg v=[(v:Int)]:=by
 rw[iQ h0,PJ h,Nat.div_eq_of_lt h,iz]
def qD{v:Nat}(h0:4294967296<=v)(h:v<18446744073709551616):Dg v=[((v%4294967296:Nat):Int),((v/4294967296:Nat):Int)]:=by
 rw[iQ (by omega),ec (by omega) (by omega)]
def qW{v:Nat}:Dg v=[]↔v=0:=by
 constructor
 intro h;refine Pw fun hv=>?_;rw[iQ hv] at h;cases h
 rintro rfl;exact iz
def jn{v:Nat}(h:v<18446744073709551616):(Dg v).length<=2:=by
 by_cases h0:v=0
 subst h0; rw[iz]; simp
 rw[iQ h0]
 by_cases h1:v/4294967296=0
 rw[h1,iz]; simp
 rw[ec h1 (by omega)]; simp
def dk:Nat->Nat->SB Int
 | 0,_=>[]
 | k+1,v=>((v%4294967296:Nat):Int)::dk k (v/4294967296)
def FF:∀(k v:Nat),(dk k v).length=k
 | 0,_=>rfl
 | k+1,v=>by rw[dk,PD,FF k]
def uL:∀(k:Nat),dk k 0=List.replicate k 0
 | 0=>rfl
 | k+1=>by rw[dk,Q8,show 0/4294967296=0 from rfl,uL k]; rfl
def zw:∀(k v:Nat),v<4294967296 ^ k->dk k v=Dg v++List.replicate (k-(Dg v).length) 0
 | 0,v,h=>by
  have:v=0:=by simpa using h
  subst this;rw[iz]; rfl
 | k+1,v,h=>by
  by_cases h0:v=0
  subst h0; rw[uL,iz]; rfl
  rw[dk,iQ h0,zw k (v/4294967296) (by rw[QJ] at h; exact Nat.div_lt_of_lt_mul (by rwa[Qm])),Qb,PD,Nat.succ_sub_succ]
def A6:∀(v:Nat) (x:Int),(Dg v).getLast? = some x->x≠0:=fun v=>by
 induction v using Nat.strongRecOn with
 | ind v ih =>
  intro x h
  by_cases h0:v=0
  subst h0; rw[iz] at h; cases h
  ·rw[iQ h0] at h
   by_cases h1:v/4294967296=0
   rw[h1,iz] at h;simp at h;omega
   ·have hne:Dg (v/4294967296)≠[]:=fun c=>h1 (qW.1 c);refine ih (v/4294967296) (Nat.div_lt_self (Qg h0) (by decide)) x ?_
    cases hd:Dg (v/4294967296) with
    | nil=>exact Pz hd hne
    | cons y ys=>rw[hd] at h; rwa[List.getLast?_cons_cons] at h
section
variable(n:Nat)
def N6{lo hi:Int}{k:Nat}(h:0<=lo/\lo<=hi/\hi<=(k:Int)):okB lo hi k=true:=Po h
def nY{k:Nat}(h:k<=1073741824):lim k=true:=PG h
def NA{x:Nat}(h:x<18446744073709551616):ui .u64 (x:Int)=x:=by
 rw[EV,ku (by omega)]
def tp{l:SB Int}{e:Nat}(hl:l.length<1000)(hz:∀i,e<=i->i<l.length->l[i]? = some 0)(hx:e=0\/∃x,l[e-1]? = some x/\x≠0)(he:e<=l.length) :
  ∀(j m:Nat),e+j<=l.length->j<m->bR (qN n l) m ((e+j:Nat):Int)=some (e:Int)
 | 0,m+1,h1,h2=>by
  rw[aX];unfold qN
  by_cases h0:e=0
  subst h0;rw[aD (by omega),ak,cy]
  obtain⟨x,g1,g2⟩:=hx.resolve_left h0;rw[aH (by omega),aq (by omega) (by omega),show((e+0:Nat):Int)-1=((e-1:Nat):Int) by omega,aJ (by omega),aN,Pg,g1,ak,ak,PL g2,cy]; rfl
 | j+1,m+1,h1,h2=>by
  rw[aO (s':=((e+j:Nat):Int)),tp hl hz hx he j m (by omega) (by omega)]
  unfold qN;rw[aH (by omega),aq (by omega) (by omega),show((e+(j+1):Nat):Int)-1=((e+j:Nat):Int) by omega,aJ (by omega),aN,Pg,hz (e+j) (by omega) (by omega),ak,ak,aH rfl]
def Bf{l:SB Int}{k:Nat}(hl:l.length+k<1000)(hx:∀x,l.getLast? = some x->x≠0)(hn:1000<n):pD n (l++List.replicate k 0)=some l:=by
 have hlen:(l++List.replicate k (0:Int)).length=l.length+k:=by simp
 unfold pD;rw[hlen,tp n (l:=l++List.replicate k 0) (e:=l.length) (by omega) (fun i h1 h2=>by
   rw[PA h1,Q3,Ph (by rw[hlen] at h2; omega)]) (by
   by_cases h0:l.length=0
   exact .inl h0
   right
   rw[PR (by omega)]
   refine⟨l[l.length-1]'(by omega),Pl _,hx _ ?_⟩
   rw[List.getLast?_eq_getElem?];exact Pl _) (by omega) k n (by omega) (by omega),ak,N6 (by omega),aN]
 simp
def lO{k v:Nat}(h:v<4294967296 ^ k)(hk:k<400)(hn:1000<n):pD n (dk k v)=some (Dg v):=by
 have hl:(Dg v).length<=k:=by
  have:=Ps List.length (zw k v h);rw[FF,Pm,List.length_replicate] at this;omega
 rw[zw k v h];exact Bf n (by omega) (A6 v) hn
def yR{v:Nat}(h:(Dg v).length<400)(hn:1000<n):pD n (Dg v)=some (Dg v):=by
 have:=Bf n (l:=Dg v) (k:=0) (by omega) (A6 v) hn
 simpa using this
def D9{l l':SB Int}(h:pD n l=some l'):jx n false l=some (false,l'):=by
 unfold jx;rw[h,ak,cy]
def EY{l l':SB Int}(h:pD n l=some l')(h0:l'≠[]):jx n true l=some (true,l'):=by
 unfold jx;rw[h,ak,fG,Po];have:=QS.2 h0;omega
def p7{v:Nat}(h:v<9223372036854775808)(hn:1000<n):rB n (v:Int)=some (false,Dg v):=by
 unfold rB;rw[aD (by omega),ak,PL (by omega),NA (by omega),ku (by omega),aq (by omega) (by omega),aq (by omega) (by omega),D9 n (l':=Dg v),ak]
 have:=lO n (k:=2) (v:=v) (by show v<18446744073709551616; omega) (by decide) hn
 rwa[show dk 2 v=[((v%4294967296:Nat):Int),((v/4294967296:Nat):Int)] by
  rw[dk,dk,dk,PJ (show v/4294967296<4294967296 by omega)]] at this
def Ec(hn:1000<n):rB n (-9223372036854775808)=some (true,Dg 9223372036854775808):=by
 have:=lO n (k:=2) (v:=9223372036854775808) (by decide) (by decide) hn
 have h:jx n true [0,2147483648]=some (true,Dg 9223372036854775808):=EY n this (fun c=>by have:=qW.1 c; omega)
 unfold rB;rw[aH (by omega),ak,Po (by omega)]
 show ob (jx n true [0,2147483648]) _=_
 rw[h,ak]
def gS{l:SB Int}{a i:Nat}(h:l.drop i=Dg a):(a=0/\l.length<=i)\/(a≠0/\i<l.length/\l[i]? = some ((a%4294967296:Nat):Int)/\l.drop (i+1)=Dg (a/4294967296)):=by
 by_cases h0:a=0
 subst h0;rw[iz] at h;exact .inl ⟨rfl,List.drop_eq_nil_iff.1 h⟩
 right
 rw[iQ h0] at h;have hi:i<l.length:=Pw fun c=>by rw[List.drop_eq_nil_iff.2 (by omega)] at h; cases h
 rw[List.drop_eq_getElem_cons hi] at h;injection h with h1 h2;exact⟨h0,hi,by rw[Pl hi,h1],h2⟩
def tG{l1 l5:SB Int}:∀(k a b c i:Nat) (acc:SB Int),l1.drop i=Dg a->l5.drop i=Dg b->a+b+c<4294967296 ^ k->c<=1->i+k<=1000->acc.length=i ->
  ∀M,k<M->bR (qY n l1 l5) M (acc,(c:Int),(i:Int))=some (acc++Dg (a+b+c))
 | k,a,b,c,i,acc,h1,h2,h3,h4,h5,h6,M+1,h7=>by
  by_cases hz:a=0/\b=0/\c=0
  obtain⟨rfl,rfl,rfl⟩:=hz;have e1:=(gS h1).resolve_right fun g=>g.1 rfl;have e2:=(gS h2).resolve_right fun g=>g.1 rfl;rw[aX (r:=acc),iz,PU];unfold qY
  dsimp only
  rw[aD (by omega),aD (by omega),ak,aD (by omega)]
  ·match k with
   | 0=>simp at h3; omega
   | k+1 =>
    have hp:(4294967296:Nat) ^ (k+1)=4294967296*4294967296 ^ k:=by rw[QJ,Qm]
    have ih:=tG k (a/4294967296) (b/4294967296) ((a%4294967296+b%4294967296+c)/4294967296) (i+1) (acc++[(((a%4294967296+b%4294967296+c)%4294967296:Nat):Int)])
     (by
      rcases gS h1 with⟨rfl,g⟩|g
      rw[show 0/4294967296=0 from rfl,iz]; exact(List.drop_eq_nil_iff (l:=l1)).2 (by omega)
      exact g.2.2.2)
     (by
      rcases gS h2 with⟨rfl,g⟩|g
      rw[show 0/4294967296=0 from rfl,iz]; exact(List.drop_eq_nil_iff (l:=l5)).2 (by omega)
      exact g.2.2.2) (by omega) (by omega) (by omega) (by simp[h6]) M (by omega)
    have hlim:lim (acc++[(((a%4294967296+b%4294967296+c)%4294967296:Nat):Int)]).length=true:=nY (by rw[Pm,h6,Qi]; omega)
    rw[aO (s':=(acc++[(((a%4294967296+b%4294967296+c)%4294967296:Nat):Int)],(((a%4294967296+b%4294967296+c)/4294967296:Nat):Int),((i+1:Nat):Int))),ih,iQ (v:=a+b+c) (by omega),
     show(a+b+c)%4294967296=(a%4294967296+b%4294967296+c)%4294967296 by omega,show(a+b+c)/4294967296=a/4294967296+b/4294967296+(a%4294967296+b%4294967296+c)/4294967296 by omega,List.append_assoc]
    rfl
    unfold qY
    dsimp only
    have fin:∀y:Int,y=((a%4294967296+b%4294967296+c:Nat):Int)->(gd (lim (acc++[Int.tmod y 4294967296]).length) (some (.inl ((acc++[Int.tmod y 4294967296]),RC (Qt y 4294967296),RC ((i:Int)+1)))):SA ((SB Int×Int×Int)⊕SB Int))=some (.inl (acc++[(((a%4294967296+b%4294967296+c)%4294967296:Nat):Int)],(((a%4294967296+b%4294967296+c)/4294967296:Nat):Int),((i+1:Nat):Int))):=by
     rintro y rfl;rw[show Int.tmod ((a%4294967296+b%4294967296+c:Nat):Int) 4294967296=(((a%4294967296+b%4294967296+c)%4294967296:Nat):Int) from rfl,hlim,aN,
      show Qt ((a%4294967296+b%4294967296+c:Nat):Int) 4294967296=(((a%4294967296+b%4294967296+c)/4294967296:Nat):Int) from rfl,aq (by omega) (by omega),aq (by omega) (by omega)]
     rfl
    rcases gS h1 with⟨a0,g1⟩|⟨a0,g1,g2,_⟩<;>rcases gS h2 with⟨b0,k1⟩|⟨b0,k1,k2,_⟩
    subst a0; subst b0;rw[aD (by omega),aD (by omega),ak,aH (by omega),aD (by omega),ak,aD (by omega),ak]
    exact fin _ (by simp)
    subst a0;rw[aD (by omega),aH (by omega),ak,fG,aD (by omega),ak,aH (by omega),aJ k1,aN,Pg,k2,ak,ak,aq (by omega) (by omega)]
    exact fin _ (by omega)
    subst b0;rw[aH (by omega),ak,fG,aH (by omega),aJ g1,aN,Pg,g2,ak,ak,aD (by omega),ak,aq (by omega) (by omega)]
    exact fin _ (by omega)
    rw[aH (by omega),ak,fG,aH (by omega),aJ g1,aN,Pg,g2,ak,ak,aH (by omega),aJ k1,aN,k2,ak,ak,aq (x:=(c:Int)+_) (by omega) (by omega),aq (by omega) (by omega)]
    exact fin _ (by omega)
def IQ{a b:Nat}(h:a+b<18446744073709551616)(hn:1000<n):CZ n (Dg a) (Dg b)=some (Dg (a+b)):=by
 unfold CZ;have:=tG n (l1:=Dg a) (l5:=Dg b) 2 a b 0 0 [] rfl rfl (by simpa using h) (by decide) (by decide) rfl n (by omega)
 rw[show(([]:SB Int),(0:Int),(0:Int))=([],((0:Nat):Int),((0:Nat):Int)) from rfl,this,ak]
 rfl
end
section
variable(n:Nat)
def tD{l1 l6:SB Int}:∀(k a b c i:Nat) (acc:SB Int),l1.drop i=Dg a->l6.drop i=Dg b->a<4294967296 ^ k->b+c<=a->c<=1->i+k<=1000->acc.length=i ->
  ∀M,k<M->bR (rV n l1 l6) M (acc,(c:Int),(i:Int))=some (acc++dk (Dg a).length (a-b-c))
 | k,a,b,c,i,acc,h2,h0,h3,h4,h5,h6,h1,M+1,h7=>by
  rcases gS h2 with⟨rfl,g0⟩|⟨a0,g0,g1,g2⟩
  rw[aX (r:=acc),iz]
  simp[dk]
  unfold rV
  dsimp only
  rw[aD (by omega)]
  ·match k with
   | 0=>simp at h3; omega
   | k+1 =>
    have hp:(4294967296:Nat) ^ (k+1)=4294967296*4294967296 ^ k:=by rw[QJ,Qm]
    have key:∃c':Nat,c'<=1/\b/4294967296+c'<=a/4294967296/\(a-b-c)/4294967296=a/4294967296-b/4294967296-c' /\
      ((a%4294967296:Nat):Int)-c-((b%4294967296:Nat):Int)+4294967296*c'=(((a-b-c)%4294967296:Nat):Int)/\(c'=1↔((a%4294967296:Nat):Int)-c-((b%4294967296:Nat):Int)<0):=by
     by_cases g:a%4294967296<b%4294967296+c
     exact⟨1,by omega,by omega,by omega,by omega,by omega⟩
     exact⟨0,by omega,by omega,by omega,by omega,by omega⟩
    obtain⟨c',k1,k2,k4,k5,k3⟩:=key;have ih:=tD k (a/4294967296) (b/4294967296) c' (i+1) (acc++[(((a-b-c)%4294967296:Nat):Int)]) g2
     (by
      rcases gS h0 with⟨rfl,g⟩|g
      rw[show 0/4294967296=0 from rfl,iz]; exact(List.drop_eq_nil_iff (l:=l6)).2 (by omega)
      exact g.2.2.2) (by omega) k2 k1 (by omega) (by simp[h1]) M (by omega)
    have hlim:lim (acc++[(((a-b-c)%4294967296:Nat):Int)]).length=true:=nY (by rw[Pm,h1,Qi]; omega)
    rw[aO (s':=(acc++[(((a-b-c)%4294967296:Nat):Int)],(c':Int),((i+1:Nat):Int))),ih,iQ a0,PD,dk,k4,List.append_assoc]
    rfl
    unfold rV
    dsimp only
    have fin:∀y:Int,y=((a%4294967296:Nat):Int)-c-((b%4294967296:Nat):Int)->(ob (br (decide (y<0)) (some ((1:Int),RC (y+4294967296))) (some (0,y))) fun(v2,v1) =>
      gd (lim (acc++[v1]).length) (some (.inl ((acc++[v1]),v2,RC ((i:Int)+1)))):SA ((SB Int×Int×Int)⊕SB Int))=some (.inl (acc++[(((a-b-c)%4294967296:Nat):Int)],(c':Int),((i+1:Nat):Int))):=by
     intro y hy
     by_cases hc:c'=1
     rw[aH (by rw[hy]; exact k3.1 hc),ak,aq (by omega) (by omega),show y+4294967296=(((a-b-c)%4294967296:Nat):Int) by omega]
     dsimp only
     rw[hlim,aN,aq (by omega) (by omega),hc]; rfl
     rw[aD (by rw[hy]; exact fun h=>hc (k3.2 h)),ak,show y=(((a-b-c)%4294967296:Nat):Int) by omega]
     dsimp only
     rw[hlim,aN,aq (by omega) (by omega),show c'=0 by omega]; rfl
    rw[aH (by omega),aJ g0,aN,Pg,g1,ak]
    rcases gS h0 with⟨b0,q0⟩|⟨b0,q0,q2,_⟩
    subst b0;rw[aD (by omega),ak,aq (by omega) (by omega)]
    exact fin _ (by simp)
    rw[aH (by omega),aJ q0,aN,q2,ak,ak,aq (x:=((a%4294967296:Nat):Int)-(c:Int)) (by omega) (by omega),aq (by omega) (by omega)]
    exact fin _ rfl
def MP:∀(v:Nat),v<4294967296 ^ (Dg v).length:=fun v=>by
 induction v using Nat.strongRecOn with
 | ind v ih =>
  by_cases h0:v=0
  subst h0; rw[iz]; decide
  rw[iQ h0,PD,QJ];have:=ih (v/4294967296) (Nat.div_lt_self (Qg h0) (by decide))
  exact(Nat.div_lt_iff_lt_mul (by decide)).1 this
def BA{a b:Nat}(h:b<=a)(ha:a<18446744073709551616)(hn:1000<n):B5 n (Dg a) (Dg b)=some (Dg (a-b)):=by
 unfold B5;have:=tD n (l1:=Dg a) (l6:=Dg b) 2 a b 0 0 [] rfl rfl (by simpa using ha) (by simpa using h) (by decide) (by decide) rfl n (by omega)
 have hl:=jn ha;rw[show(([]:SB Int),(0:Int),(0:Int))=([],((0:Nat):Int),((0:Nat):Int)) from rfl,this,ak,P7,Qr,lO n (Nat.lt_of_le_of_lt (Nat.sub_le _ _) (MP a)) (by omega) hn,ak]
def kZ{v:Nat}(h:v<18446744073709551616):(Dg v).length=if v=0 then 0 else if v<4294967296 then 1 else 2:=by
 by_cases h0:v=0
 subst h0; rw[iz]; rfl
 rw[Pb h0]
 by_cases h1:v<4294967296
 rw[Ph h1,ec h0 h1]; rfl
 rw[Pb h1,qD (by omega) h]; rfl
def AN{a b:Nat}(ha:a<18446744073709551616)(hb:b<18446744073709551616)(hn:1000<n):∃r:Int,Cd n (Dg a) (Dg b)=some r/\(0<r↔b<a)/\(r<0↔a<b):=by
 obtain⟨n,rfl⟩:∃j,n=j+5:=⟨n-5,by omega⟩
 unfold Cd
 by_cases hl:(Dg a).length=(Dg b).length
 rw[Po (show((Dg a).length:Int)=((Dg b).length:Int) by omega)]
 show ∃r,ob (α:=Int⊕SC) _ _=some r/\_
 rw[kZ ha,kZ hb] at hl
 by_cases a0:a=0
 have b0:b=0:=Pw fun c=>by subst a0; rw[Ph rfl,Pb c] at hl; split at hl<;>cases hl
 subst a0; subst b0;refine⟨0,?_,by simp,by simp⟩
 rw[iz,aX (r:=Sum.inr ())]
 rfl
 rfl
 have b0:b≠0:=fun c=>by subst c; rw[Pb a0] at hl; split at hl<;>simp at hl
 rw[Pb a0,Pb b0] at hl
 by_cases a1:a<4294967296
 have b1:b<4294967296:=Pw fun c=>by rw[Ph a1,Pb c] at hl; cases hl
 rw[ec a0 a1,ec b0 b1]
 by_cases e:a=b
 subst e;refine⟨0,?_,by simp,by simp⟩
 rw[show RC (([(a:Int)].length:Int)-1)=0 from rfl,aO (s':=(-1:Int)),aX (r:=Sum.inr ())]
 rfl
 rfl
 unfold jt;simp[br,gd,ob,bO]
 rfl
 refine⟨(a:Int)-b,?_,by omega,by omega⟩
 rw[show RC (([(a:Int)].length:Int)-1)=0 from rfl,aX (r:=Sum.inl ((a:Int)-b))]
 rfl
 unfold jt;have:¬(a:Int)=(b:Int):=by omega
 simp[br,gd,ob,bO,this];exact aq (by omega) (by omega)
 have b1:¬b<4294967296:=fun c=>by rw[Pb a1,Ph c] at hl; cases hl
 rw[qD (by omega) ha,qD (by omega) hb]
 by_cases e1:a/4294967296=b/4294967296
 by_cases e:a%4294967296=b%4294967296
 refine⟨0,?_,by omega,by omega⟩
 rw[e1,e,show RC (([((b%4294967296:Nat):Int),((b/4294967296:Nat):Int)].length:Int)-1)=1 from rfl,aO (s':=(0:Int)),aO (s':=(-1:Int)),aX (r:=Sum.inr ())]
 rfl
 rfl
 unfold jt;simp[br,gd,ob,bO]
 rfl
 unfold jt;simp[br,gd,ob,bO]
 rfl
 refine⟨((a%4294967296:Nat):Int)-((b%4294967296:Nat):Int),?_,by omega,by omega⟩
 rw[e1,show RC (([((a%4294967296:Nat):Int),((b/4294967296:Nat):Int)].length:Int)-1)=1 from rfl,aO (s':=(0:Int)),aX (r:=Sum.inl (((a%4294967296:Nat):Int)-((b%4294967296:Nat):Int)))]
 rfl
 have:¬((a%4294967296:Nat):Int)=((b%4294967296:Nat):Int):=by omega
 have hw:RC (((a%4294967296:Nat):Int)-((b%4294967296:Nat):Int))=((a%4294967296:Nat):Int)-((b%4294967296:Nat):Int):=aq (by omega) (by omega)
 generalize((a%4294967296:Nat):Int)=p at *;generalize((b%4294967296:Nat):Int)=q at *;unfold jt;simp[br,gd,ob,bO,this,hw]
 unfold jt;simp[br,gd,ob,bO]
 rfl
 refine⟨((a/4294967296:Nat):Int)-((b/4294967296:Nat):Int),?_,by omega,by omega⟩
 rw[show RC (([((a%4294967296:Nat):Int),((a/4294967296:Nat):Int)].length:Int)-1)=1 from rfl,aX (r:=Sum.inl (((a/4294967296:Nat):Int)-((b/4294967296:Nat):Int)))]
 rfl
 have:¬((a/4294967296:Nat):Int)=((b/4294967296:Nat):Int):=by omega
 have hw:RC (((a/4294967296:Nat):Int)-((b/4294967296:Nat):Int))=((a/4294967296:Nat):Int)-((b/4294967296:Nat):Int):=aq (by omega) (by omega)
 generalize((a/4294967296:Nat):Int)=p at *;generalize((b/4294967296:Nat):Int)=q at *;unfold jt;simp[br,gd,ob,bO,this,hw]
 ·rw[PL (show ¬((Dg a).length:Int)=((Dg b).length:Int) by omega)]
  have h1:=kZ ha;have h2:=kZ hb;refine⟨((Dg a).length:Int)-((Dg b).length:Int),?_,?_,?_⟩
  show some (RC _)=_
  have:=jn ha;have:=jn hb;rw[aq (by omega) (by omega)]
  ·split at h1<;>split at h2<;>(try split at h1)<;>(try split at h2)<;>omega
  ·split at h1<;>split at h2<;>(try split at h1)<;>(try split at h2)<;>omega
end
section
variable(n:Nat)
def mB{v:Nat}(h:v<18446744073709551616)(hn:1000<n):jx n false (Dg v)=some (false,Dg v):=D9 n (yR n (by have:=jn h; omega) hn)
def xy{v:Nat}(h:v<18446744073709551616)(h0:v≠0)(hn:1000<n):jx n true (Dg v)=some (true,Dg v):=EY n (yR n (by have:=jn h; omega) hn) fun c=>h0 (qW.1 c)
def Bk{a b:Nat}(h:a+b<18446744073709551616)(hn:1000<n):zf n false (Dg a) false (Dg b)=some (false,Dg (a+b)):=by
 unfold zf
 show ob (CZ n (Dg a) (Dg b)) _=_
 rw[IQ n h hn,ak,mB n h hn,ak]
def Dk{v:Nat}(h:v<9223372036854775808)(hn:1000<n):yJ n false (Dg v) true (Dg 9223372036854775808)=some 1:=by
 unfold yJ Ds ET
 show ob (ob (ob (jx n false (Dg 9223372036854775808)) _) _) _=_
 rw[mB n (by decide) hn,ak,ak]
 dsimp only
 have:=QS.2 fun c:Dg (v+9223372036854775808)=[]=>by have:=qW.1 c; omega
 rw[Bk n (by omega) hn,ak,ak]
 dsimp only
 rw[cy,aH (by omega)]
def EL{v:Nat}(h:v<9223372036854775808)(hn:1000<n):∃r:Int,yJ n false (Dg v) false (Dg 9223372036854775807)=some r/\¬0<r:=by
 unfold yJ Ds ET
 show ∃r:Int,ob (ob (ob (jx n true (Dg 9223372036854775807)) _) _) _=some r/\_
 rw[xy n (by decide) (by decide) hn,ak,ak]
 dsimp only
 obtain⟨r,h1,h2,h3⟩:=AN n (a:=v) (b:=9223372036854775807) (by omega) (by decide) hn
 unfold zf;rw[show(false==true)=false from rfl,cy,h1,ak]
 by_cases g:v=9223372036854775807
 rw[aH (by omega),BA n (by omega) (by omega) hn,ak,show v-9223372036854775807=0 by omega,mB n (by decide) hn,ak,ak,iz]
 exact⟨0,rfl,by decide⟩
 rw[aD (by omega),BA n (by omega) (by omega) hn,ak,xy n (by omega) (by omega) hn,ak,ak]
 exact⟨-1,rfl,by decide⟩
def Ik{v:Nat}(h:v<18446744073709551616)(hn:1000<n):bR (oD n (Dg v)) n (0,RC (((Dg v).length:Int)-1))=some v:=by
 obtain⟨n,rfl⟩:∃j,n=j+5:=⟨n-5,by omega⟩
 have st:∀(w i x:Nat),i<(Dg v).length->(Dg v)[i]? = some (x:Int)->x<4294967296->w<4294967296->oD (n+5) (Dg v) (w,(i:Int))=some (.inl (w*4294967296+x,(i:Int)-1)):=by
  intro w i x h1 h2 h3 h4;have:=jn h;unfold oD
  dsimp only
  rw[aH (by omega),aJ h1,aN,Pg,h2,ak,ku (a:=w*4294967296) (by omega),NA (by omega),ku (by omega),aq (by omega) (by omega)]
 have en:∀w:Nat,oD (n+5) (Dg v) (w,-1)=some (.inr w):=fun w=>rfl
 by_cases h0:v=0
 subst h0;rw[show RC (((Dg 0).length:Int)-1) = -1 by rw[iz]; rfl,aX (en 0)]
 by_cases h1:v<4294967296
 have e:=ec h0 h1;rw[show RC (((Dg v).length:Int)-1)=((0:Nat):Int) by rw[e]; rfl,aO (st 0 0 v (by rw[e]; exact Nat.zero_lt_one) (by rw[e]; rfl) h1 (by decide)),show((0:Nat):Int)-1 = -1 from rfl,aX (en _),QO,PV]
 have e:=qD (by omega) h
 rw[show RC (((Dg v).length:Int)-1)=((1:Nat):Int) by rw[e]; rfl,aO (st 0 1 (v/4294967296) (by rw[e]; exact Nat.one_lt_two) (by rw[e]; rfl) (by omega) (by decide)),
  show((1:Nat):Int)-1=((0:Nat):Int) from rfl,aO (st _ 0 (v%4294967296) (by rw[e]; exact Nat.zero_lt_two) (by rw[e]; rfl) (by omega) (by omega)),show((0:Nat):Int)-1 = -1 from rfl,aX (en _)]
 congr 1
 omega
def AV{v:Nat}(h:v<9223372036854775808)(hn:1000<n):BZ n false (Dg v)=some ((v:Int),0):=by
 unfold BZ;obtain⟨r,h1,h2⟩:=EL n h hn;rw[Ec n hn,ak]
 dsimp only
 rw[Dk n h hn,ak,aD (by decide),show(9223372036854775807:Int)=((9223372036854775807:Nat):Int) from rfl,p7 n (by decide) hn,ak]
 dsimp only
 rw[h1,ak,ak,aD h2,Ik n (by omega) hn,ak,cy,ak,aq (by omega) (by omega)]
def vi{l1 l:SB Int}{b i N x y:Nat}(hb:b<4294967296)(hi:i<l1.length)(hN:l.length=N)(hiN:i+1<N)(hN1:N<1000)(hx:l[i]? = some (x:Int))(hx1:x<4294967296)(hy:l1[i]? = some (y:Int))(hy1:y<4294967296)(hn:1000<n) :
  jQ n l1 [(b:Int)] (l,N,(i:Int))=some (.inl ((l.set i (((x+y*b)%4294967296:Nat):Int)).set (i+1) (((x+y*b)/4294967296:Nat):Int),N,((i+1:Nat):Int))):=by
 obtain⟨n,rfl⟩:∃j,n=j+5:=⟨n-5,by omega⟩
 have hyb:y*b<=4294967295*4294967295:=Qw (by omega) (by omega)
 have in1:oz (n+5) [(b:Int)] (i:Int) N l1 (l,0,0)=some (.inl (l.set i (((x+y*b)%4294967296:Nat):Int),(x+y*b)/4294967296,1)):=by
  unfold oz
  dsimp only
  rw[aH (by simp),Int.add_zero,aq (x:=(i:Int)) (by omega) (by omega),aJ (by omega),aN,Pg,hx,ak,aJ hi,aN,hy,ak,show bO 0 [(b:Int)].length=true from rfl,aN,
   show[(b:Int)][RD]? = some (b:Int) from rfl,ak,NA (by omega),NA (by omega),NA (by omega),ku (a:=0+x) (by omega),ku (a:=y*b) (by omega),ku (by omega),ak,aN,ku (by omega),aq (by omega) (by omega),PV]
  rfl
 have in2:∀(q:SB Int) (c:Nat),oz (n+5) [(b:Int)] (i:Int) N l1 (q,c,1)=some (.inr (q,c)):=fun q c=>rfl;unfold jQ
 dsimp only
 rw[aH (by omega),aO in1,aX (in2 _ _),ak]
 dsimp only
 rw[show RC ((i:Int)+([(b:Int)].length:Int))=((i+1:Nat):Int) from aq (by simp<;>omega) (by simp<;>omega),aJ hiN,aN,Pg,
  Pl (by rw[Qs]; omega),ak,aq (x:=(((x+y*b)/4294967296:Nat):Int)) (by omega) (by omega),aq (by omega) (by omega)]
 rfl
def AM{a b:Nat}(ha:a<18446744073709551616)(hb:b<4294967296)(h:a*b<18446744073709551616)(hn:1000<n):zp n (Dg a) (Dg b)=some (Dg (a*b)):=by
 obtain⟨m,rfl⟩:∃j,n=j+5:=⟨n-5,by omega⟩
 have hla:=jn ha;have en:∀(b:SB Int) (l:SB Int) (N i:Nat),(Dg a).length=i->jQ (m+5) (Dg a) b (l,N,(i:Int))=some (.inr (l,N)):=by
  intro b l N i hi;unfold jQ
  dsimp only
  rw[aD (by omega)]
 by_cases b0:b=0
 ·subst b0;rw[iz,Nat.mul_zero];have s1:∀(l:SB Int) (i:Nat),i<(Dg a).length->l=List.replicate (Dg a).length 0->jQ (m+5) (Dg a) [] (l,(Dg a).length,(i:Int))=some (.inl (l,(Dg a).length,((i+1:Nat):Int))):=by
   intro l i hi hl;have in2:oz (m+5) [] (i:Int) (Dg a).length (Dg a) (l,0,0)=some (.inr (l,0)):=rfl;have hg:l[i]? = some 0:=by rw[hl,Q3,Ph hi]
   unfold jQ
   dsimp only
   rw[aH (by omega),aX in2,ak]
   dsimp only
   rw[show RC ((i:Int)+(([]:SB Int).length:Int))=(i:Int) from aq (by simp<;>omega) (by simp<;>omega),aJ hi,aN,Pg,hg,ak,aq (x:=(i:Int)+1) (by omega) (by omega),show RC ((0:Nat):Int)=0 from rfl]
   congr 4
   rw[hl];apply Q4;intro j;rw[List.getElem?_set]
   split
   split<;>simp_all
   rfl
  have lp:∀(k i M:Nat),i+k=(Dg a).length->k<M->bR (jQ (m+5) (Dg a) []) M (List.replicate (Dg a).length 0,(Dg a).length,(i:Int))=some (List.replicate (Dg a).length 0,(Dg a).length):=by
   intro k
   induction k with
   | zero =>
    intro i M h1 h2;obtain⟨M,rfl⟩:∃j,M=j+1:=⟨M-1,by omega⟩
    rw[aX (en _ _ _ _ (by omega))]
   | succ k ih =>
    intro i M h1 h2;obtain⟨M,rfl⟩:∃j,M=j+1:=⟨M-1,by omega⟩
    rw[aO (s1 _ i (by omega) rfl),ih _ _ (by omega) (by omega)]
  unfold zp;rw[show RC (((Dg a).length:Int)+(([]:SB Int).length:Int))=((Dg a).length:Int) from aq (by simp<;>omega) (by simp<;>omega),Pg,iB (by omega),nY (by omega),aN]
  have:=lp (Dg a).length 0 (m+5) (by omega) (by omega)
  have hc:=lO (m+5) (k:=(Dg a).length) (v:=0) (Nat.pow_pos (by decide)) (by omega) hn
  rw[uL] at hc;rw[show(0:Int)=((0:Nat):Int) from rfl] at this ⊢
  rw[this,ak]
  dsimp only
  rw[show(List.replicate (Dg a).length ((0:Nat):Int))=List.replicate (Dg a).length 0 from rfl,hc,ak]
 rw[ec b0 hb];unfold zp;have hw:RC (((Dg a).length:Int)+([(b:Int)].length:Int))=(((Dg a).length+1:Nat):Int):=aq (by simp<;>omega) (by simp<;>omega)
 rw[hw,Pg,iB (by omega),nY (by omega),aN]
 by_cases a0:a=0
 subst a0;rw[show(((Dg 0).length+1:Nat))=1 by rw[iz]; rfl,show(0:Int)=((0:Nat):Int) from rfl,aX (en _ _ _ 0 (by rw[iz]; rfl)),ak]
 dsimp only
 have:=lO (m+5) (k:=1) (v:=0) (by decide) (by decide) hn
 rw[show List.replicate 1 ((0:Nat):Int)=dk 1 0 from rfl,this,ak,QO]
 by_cases a1:a<4294967296
 have e:=ec a0 a1;rw[e];rw[e] at en;have s1:=vi (m+5) (l1:=[(a:Int)]) (l:=[0,0]) (b:=b) (i:=0) (N:=2) (x:=0) (y:=a) hb Nat.zero_lt_one rfl (by decide) (by decide) rfl (by decide) rfl a1 hn
 rw[show List.replicate ([(a:Int)].length+1) (0:Int)=[0,0] from rfl,show[(a:Int)].length+1=2 from rfl,aO (s:=(([0,0]:SB Int),2,(0:Int))) s1,aX (en _ _ _ 1 rfl),ak]
 dsimp only
 have:=lO (m+5) (k:=2) (v:=a*b) (by simpa using h) (by decide) hn
 rw[show(List.set [(0:Int),0] 0 (((0+a*b)%4294967296:Nat):Int)).set (0+1) (((0+a*b)/4294967296:Nat):Int)=dk 2 (a*b) by
  rw[PV,dk,dk,dk,PJ (show a*b/4294967296<4294967296 by omega)]; rfl,this,ak]
 have e:=qD (by omega) ha
 rw[e];rw[e] at en;have hr:a%4294967296*b<=4294967295*4294967295:=Qw (by omega) (by omega)
 have hab:a*b=a%4294967296*b+4294967296*(a/4294967296*b):=by
  conv=>lhs; rw[<-Nat.mod_add_div a 4294967296]
  rw[Qx,QE]
 generalize hp:a%4294967296=p at *;generalize hq:a/4294967296=q at *;have s1:=vi (m+5) (l1:=[(p:Int),(q:Int)]) (l:=[0,0,0]) (b:=b) (i:=0) (N:=3) (x:=0) (y:=p) hb Nat.zero_lt_two rfl (by decide) (by decide) rfl (by decide) rfl (by omega) hn
 have s2:=vi (m+5) (l1:=[(p:Int),(q:Int)]) (l:=[(((0+p*b)%4294967296:Nat):Int),(((0+p*b)/4294967296:Nat):Int),0]) (b:=b) (i:=1) (N:=3) (x:=(0+p*b)/4294967296) (y:=q) hb Nat.one_lt_two rfl (by decide) (by decide) rfl (by omega) rfl (by omega) hn
 rw[show List.replicate ([(p:Int),(q:Int)].length+1) (0:Int)=[0,0,0] from rfl,show[(p:Int),(q:Int)].length+1=3 from rfl,aO (s:=(([0,0,0]:SB Int),3,(0:Int))) s1]
 have s3:=aO (n:=m+3) s2;have s4:=aX (n:=m+2) (en [(b:Int)] (([(((0+p*b)%4294967296:Nat):Int),(((0+p*b)/4294967296:Nat):Int),0].set 1 ((((0+p*b)/4294967296+q*b)%4294967296:Nat):Int)).set (1+1) ((((0+p*b)/4294967296+q*b)/4294967296:Nat):Int)) 3 2 rfl);refine(Ps (fun z=>ob z _) (s3.trans s4)).trans ?_;rw[ak]
 dsimp only
 have:=lO (m+5) (k:=3) (v:=a*b) (by show _<79228162514264337593543950336; omega) (by decide) hn
 have e0:a*b%4294967296=(0+p*b)%4294967296:=by omega
 have e1:a*b/4294967296=(0+p*b)/4294967296+q*b:=by omega
 rw[show([(((0+p*b)%4294967296:Nat):Int),(((0+p*b)/4294967296:Nat):Int),0].set 1 ((((0+p*b)/4294967296+q*b)%4294967296:Nat):Int)).set (1+1) ((((0+p*b)/4294967296+q*b)/4294967296:Nat):Int)=dk 3 (a*b) by
  rw[dk,dk,dk,dk,e0,e1,PJ (a:=((0+p*b)/4294967296+q*b)/4294967296) (by omega)]; rfl,this,ak]
end
section
variable(n:Nat)
def HH{a b:Nat}(ha:a<18446744073709551616)(hb:b<4294967296)(h:a*b<18446744073709551616)(hn:1000<n):FY n false (Dg a) false (Dg b)=some (false,Dg (a*b)):=by
 unfold FY;rw[AM n ha hb h hn,ak,show(!(false==false))=false from rfl,mB n h hn,ak]
def Ed:∀k,k<32->lf .i64 1 k=((2 ^ k:Nat):Int):=by decide
def GN{x k v:Nat}(hx:x+2 ^ k<4294967296)(hk:k<32)(hv:v<18446744073709551616)(hn:1000<n) :
  qO n 0 1 (Dg v) ([(x:Int)],(k:Int))=some (.inl ([((if v<(x+2 ^ k)*(x+2 ^ k) then x else x+2 ^ k:Nat):Int)],(k:Int)-1)):=by
 have hp:0<2 ^ k:=Nat.pow_pos (by decide)
 have hs:(x+2 ^ k)*(x+2 ^ k)<=4294967295*4294967295:=iR (by omega)
 have e:(x:Int)+lf .i64 1 ((k:Int)).toNat=((x+2 ^ k:Nat):Int):=by rw[Pg,Ed k hk,Int.natCast_add]
 obtain⟨r,r1,r2,r3⟩:=AN n (a:=(x+2 ^ k)*(x+2 ^ k)) (b:=v) (by omega) hv hn
 unfold qO
 dsimp only
 rw[aH (by omega),show bO 0 (1:Int).toNat=true from rfl,aN,show[(x:Int)][RD]? = some (x:Int) from rfl,ak,aN,e,aq (x:=((x+2 ^ k:Nat):Int)) (by omega) (by omega),
  show[(x:Int)].set RD ((x+2 ^ k:Nat):Int)=[((x+2 ^ k:Nat):Int)] from rfl,P7,show lim [((x+2 ^ k:Nat):Int)].length=true from rfl,aN,<-ec (by omega) hx,
  yR n (by have:=jn (v:=x+2 ^ k) (by omega); omega) hn,ak,AM n (by omega) hx (by omega) hn,ak,r1,ak,ec (by omega) hx]
 by_cases g:v<(x+2 ^ k)*(x+2 ^ k)
 rw[aH (r2.2 g),aN,show[((x+2 ^ k:Nat):Int)][RD]? = some ((x+2 ^ k:Nat):Int) from rfl,ak,aN,Ph g,ak,show((x+2 ^ k:Nat):Int)-lf .i64 1 ((k:Int)).toNat=(x:Int) by omega,aq (x:=(x:Int)) (by omega) (by omega),aq (by omega) (by omega)]
 rfl
 rw[aD (fun c=>g (r2.1 c)),Pb g,ak,aq (by omega) (by omega)]
def oM{v:Nat}(hv:v<18446744073709551616)(hn:1000<n):∀(k m x:Nat),k<=32->k<m->x+2 ^ k<=4294967296->x*x<=v->v<(x+2 ^ k)*(x+2 ^ k) ->
  ∃r:Nat,bR (qO n 0 1 (Dg v)) m ([(x:Int)],(k:Int)-1)=some [(r:Int)]/\r*r<=v/\v<(r+1)*(r+1)/\r<4294967296
 | 0,m+1,x,_,_,h1,h2,h3=>⟨x,by rw[aX (r:=[(x:Int)])]; rfl,h2,h3,by simp at h1; omega⟩
 | k+1,m+1,x,h0,h4,h1,h2,h3=>by
  have hp:2 ^ (k+1)=2*2 ^ k:=by rw[QJ,Qm]
  have hp0:0<2 ^ k:=Nat.pow_pos (by decide)
  rw[show((k+1:Nat):Int)-1=(k:Int) by omega,aO (GN n (by omega) (by omega) hv hn)]
  split
  rename_i g;exact oM hv hn k m x (by omega) (by omega) (by omega) h2 g
  rename_i g;exact oM hv hn k m (x+2 ^ k) (by omega) (by omega) (by omega) (by omega) (by rw[show x+2 ^ k+2 ^ k=x+2 ^ (k+1) by omega]; exact h3)
def GG{v:Nat}(h0:0<v)(hv:v<18446744073709551616)(hn:1000<n):∃r:Nat,C7 n false (Dg v)=some (false,Dg r)/\r*r<=v/\v<(r+1)*(r+1)/\r<4294967296:=by
 obtain⟨m,rfl⟩:∃j,n=j+5:=⟨n-5,by omega⟩
 obtain⟨r,r1,r2,r3,r4⟩:=oM (m+5) hv hn 32 (m+5) 0 (by decide) (by omega) (by decide) (by omega) (by rw[PV]; exact hv)
 have hr0:0<r:=Qg fun c=>by subst c; simp at r3; omega
 refine⟨r,?_,r2,r3,r4⟩;have hl:=jn hv;have hl0:=QS.2 fun c:Dg v=[]=>by have:=qW.1 c; omega
 have hy:Qt (RC (((Dg v).length:Int)+1)) 2=1:=by
  rw[aq (by omega) (by omega)]
  have:(Dg v).length=1\/(Dg v).length=2:=by omega
  rcases this with e|e<;>rw[e]<;>rfl
 have in1:uK (m+5) 1 (Dg v) ([0],0)=some (.inl ([(r:Int)],-1)):=by
  unfold uK
  dsimp only
  rw[aH (by decide)]
  refine(Ps (fun z=>ob z _) r1).trans ?_
  rfl
 unfold C7;rw[hy,show RC 1=1 from rfl,ak,iB (by decide),show lim (1:Int).toNat=true from rfl,aN,show List.replicate (1:Int).toNat (0:Int)=[0] from rfl,show RC (1-1)=0 from rfl,aO in1,aX (r:=[(r:Int)]) rfl,ak,<-ec (by omega) r4,mB (m+5) (by omega) hn,ak]
def o8{p:Nat}(hp:2<=p)(hp2:p<=21545):∀(k m v c:Nat),v<2 ^ k->k<m->0<v->v<=10000000000000->c+k<=1000 ->
  ∃v' e:Nat,bR (qu n (p:Int)) m ((v:Int),(c:Int))=some ((v':Int),((c+e:Nat):Int))/\0<v'/\¬p∣v'/\v=p ^ e*v'/\c+e<=1000
 | 0,m,v,c,h1,_,h3,_,_=>by simp at h1; omega
 | k+1,m+1,v,c,h1,h2,h3,h4,h5=>by
  have hpow:2 ^ (k+1)=2*2 ^ k:=by rw[QJ,Qm]
  by_cases hd:v%p=0
  have hv:v=p*(v/p):=by have:=Q6 v p; omega
  have hvp:0<v/p:=Qg fun e=>by rw[e] at hv; omega
  have hlt:2*(v/p)<=v:=by rw[Qm]; exact PB (Q7 _ hp) (by rw[Qm]; exact Ro hv.symm)
  obtain⟨v',e,g1,g2,g3,g4,g5⟩:=o8 hp hp2 k m (v/p) (c+1) (by omega) (by omega) hvp (by omega) (by omega)
  refine⟨v',e+1,?_,g2,g3,by rw[hv,g4,QJ]; grind,by omega⟩
  rw[aO (s':=(((v/p:Nat):Int),((c+1:Nat):Int))),g1,show c+1+e=c+(e+1) by omega]
  unfold qu
  dsimp only
  rw[Po (show(p:Int)≠0 by omega),aN,show Int.tmod (v:Int) (p:Int)=((v%p:Nat):Int) from rfl,aH (by omega),aN,show Qt (v:Int) (p:Int)=((v/p:Nat):Int) from rfl,aq (x:=((v/p:Nat):Int)) (by omega) (by omega),aq (by omega) (by omega)]
  rfl
  refine⟨v,0,?_,h3,fun c=>hd (Nat.mod_eq_zero_of_dvd c),by simp,by omega⟩
  rw[aX];unfold qu
  dsimp only
  rw[Po (show(p:Int)≠0 by omega),aN,show Int.tmod (v:Int) (p:Int)=((v%p:Nat):Int) from rfl,aD (by omega)]
  rfl
def pb{p e:Nat}(hp:2<=p)(he:e<=1000):∀(k m s j:Nat),j+k=e/2->k<m->0<s->s*p ^ k<=10000000000000 ->
  bR (qA n (e:Int) (p:Int)) m ((s:Int),(j:Int))=some ((s*p ^ k:Nat):Int)
 | 0,m+1,s,j,h1,_,_,_=>by
  rw[aX (r:=(s:Int)),Nat.pow_zero,Nat.mul_one];unfold qA
  dsimp only
  rw[show Qt (e:Int) 2=((e/2:Nat):Int) from rfl,aq (by omega) (by omega),aD (by omega)]
 | k+1,m+1,s,j,h1,h2,h3,h4=>by
  have e1:s*p ^ (k+1)=s*p*p ^ k:=by rw[QJ]; grind
  have hsp:s*p<=s*p*p ^ k:=PK _ (Nat.pow_pos (by omega))
  rw[aO (s':=(((s*p:Nat):Int),((j+1:Nat):Int))),pb hp he k m (s*p) (j+1) (by omega) (by omega) (P3 h3 (by omega)) (by omega),e1]
  unfold qA
  dsimp only
  rw[show Qt (e:Int) 2=((e/2:Nat):Int) from rfl,aq (x:=((e/2:Nat):Int)) (by omega) (by omega),aH (by omega),show(s:Int)*(p:Int)=((s*p:Nat):Int) from(P8 _ _).symm,aq (by omega) (by omega),aq (by omega) (by omega)]
  rfl
end
def dA{ρ:Type}(f:Nat->SA ρ)(e:ρ):Nat->Nat->ρ
 | 0,_=>e
 | k+1,i=>match f i with
  | some r=>r
  | none=>dA f e k (i+1)
def eT{ρ:Type}{B:Int->SA (Int⊕ρ)}{f:Nat->SA ρ}{e:ρ}{len:Nat}(hB:∀i:Nat,i<len->B (i:Int)=some (match f i with|some r=>.inr r|none=>.inl ((i+1:Nat):Int)))(hE:B (len:Int)=some (.inr e)) :
  ∀(k i n:Nat),i+k=len->k<n->bR B n (i:Int)=some (dA f e k i)
 | 0,i,n+1,h,_=>by
  rw[Qh] at h; subst h;simp only[bR,hE,dA]
 | k+1,i,n+1,h,hn=>by
  have:=hB i (by omega)
  simp only[bR,this,dA];cases hf:f i with
  | some r=>rfl
  | none=>exact eT hB hE k (i+1) n (by omega) (by omega)
def ic{ρ:Type}{f:Nat->SA ρ}{e:ρ}:∀(k i:Nat),((∀j,i<=j->j<i+k->f j=none)/\dA f e k i=e)\/∃j,i<=j/\j<i+k/\f j=some (dA f e k i)
 | 0,i=>.inl ⟨fun j h1 h2=>by omega,rfl⟩
 | k+1,i=>by
  cases hf:f i with
  | some r=>exact .inr ⟨i,by omega,by omega,by simp only[dA,hf]⟩
  | none =>
   have e1:dA f e (k+1) i=dA f e k (i+1):=by simp only[dA,hf]
   rw[e1];rcases ic (f:=f) (e:=e) k (i+1) with⟨h1,h2⟩|⟨j,h1,h2,h3⟩
   refine .inl ⟨fun j a b=>?_,h2⟩
   by_cases e:j=i
   rw[e]; exact hf
   exact h1 j (by omega) (by omega)
   exact .inr ⟨j,by omega,by omega,h3⟩
def fp{l:SB I2}{i:Nat}(h:i<l.length):l[((i:Nat):Int).toNat]? = some ((nx l i).1,(nx l i).2):=by
 rw[Pg,Pl h];unfold nx;rw[PJ h,Pq,Pl h]; rfl
def ke(m n:Nat):Int.tmod (m:Int) (n:Int)=((m%n:Nat):Int):=rfl
def rQ{l:SB I2}{i:Nat}:nx l (i%l.length)=nx l i:=by unfold nx; rw[Nat.mod_mod]
def Kl(n:Nat)(p:I2):LP n p.1 p.2=some (decide (Fa p)):=by
 unfold LP Fa;rw[qC,qC,qC,<-Bool.decide_or,<-Bool.decide_or,<-Bool.decide_or]
def qL(n:Nat){l:SB I2}(i:Nat)(h:l≠[]):CO n l (i:Int)=some ((nx l i).1,(nx l i).2):=by
 have hl:0<l.length:=QS.2 h;have hm:i%l.length<l.length:=P9 _ hl;unfold CO;rw[Po (show((l.length:Nat):Int)≠0 by omega),aN,ke,aJ hm,aN,fp hm,ak,rQ]
def oF(n:Nat){a b c:I2}(ha:Nr a)(hb:Nr b)(hc:Nr c):C4 n a.1 a.2 b.1 b.2 c.1 c.2=some (ti a b c):=by
 unfold Nr at ha hb hc;have m1:=eE (B:=2000000) (C:=2000000) (u:=b.1-a.1) (v:=c.2-a.2) (by decide) (by omega) (by omega) (by omega) (by omega)
 have m2:=eE (B:=2000000) (C:=2000000) (u:=b.2-a.2) (v:=c.1-a.1) (by decide) (by omega) (by omega) (by omega) (by omega)
 unfold C4;rw[aq (x:=b.1-a.1) (by omega) (by omega),aq (x:=c.2-a.2) (by omega) (by omega),aq (x:=b.2-a.2) (by omega) (by omega),aq (x:=c.1-a.1) (by omega) (by omega),
  aq (by omega) (by omega),aq (by omega) (by omega),ak,ak,aq (by omega) (by omega)]
 rfl
def ML{a b c:I2}(ha:Nr a)(hb:Nr b)(hc:Nr c):RC (RC ((RC (b.1-a.1))*(RC (c.1-b.1)))+RC ((RC (b.2-a.2))*(RC (c.2-b.2))))=di a b c:=by
 unfold Nr at ha hb hc;have m1:=eE (B:=2000000) (C:=2000000) (u:=b.1-a.1) (v:=c.1-b.1) (by decide) (by omega) (by omega) (by omega) (by omega)
 have m2:=eE (B:=2000000) (C:=2000000) (u:=b.2-a.2) (v:=c.2-b.2) (by decide) (by omega) (by omega) (by omega) (by omega)
 rw[aq (x:=b.1-a.1) (by omega) (by omega),aq (x:=c.1-b.1) (by omega) (by omega),aq (x:=b.2-a.2) (by omega) (by omega),aq (x:=c.2-b.2) (by omega) (by omega),
  aq (x:=(b.1-a.1)*(c.1-b.1)) (by omega) (by omega),aq (x:=(b.2-a.2)*(c.2-b.2)) (by omega) (by omega),aq (by omega) (by omega)]
 rfl
def Ll(n:Nat){a b c:I2}(ha:Nr a)(hb:Nr b)(hc:Nr c):Mw n a.1 a.2 b.1 b.2 c.1 c.2=some (di a b c):=by
 unfold Mw;rw[ak,ak,ML ha hb hc]
def vL(n:Nat)(z:Int):Jr n z=some (sg z):=by
 unfold Jr sg
 by_cases h:0<z
 rw[aH h,RE,Ph h]
 rw[aD h,Pb h]
 by_cases g:z<0
 rw[aH g,Ph g]
 rw[aD g,Pb g]
def vV(n:Nat){a b p:I2}(ha:Nr a)(hb:Nr b)(hp:Nr p):HQ n a.1 a.2 b.1 b.2 p.1 p.2=some (decide (eV a b p)):=by
 unfold HQ;rw[oF n ha hb hp,ak]
 by_cases h:ti a b p=0
 rw[Po h,PE,cy,fU,fU,fU,oN,oN,j7,j7,<-Qp,<-Qp,<-Qp]
 congr 1
 rw[decide_eq_decide];unfold eV;exact⟨fun g=>⟨h,g⟩,fun g=>g.2⟩
 rw[PL h,PQ,fG,PL fun g=>h g.1]
def JG{a b c d:I2}(ha:Nr a)(hb:Nr b)(hc:Nr c)(hd:Nr d) :
  RC ((ma (mi a.1 b.1) (mi c.1 d.1))-(mi (ma a.1 b.1) (ma c.1 d.1)))=max (min a.1 b.1) (min c.1 d.1)-min (max a.1 b.1) (max c.1 d.1) /\
  RC ((ma (mi a.2 b.2) (mi c.2 d.2))-(mi (ma a.2 b.2) (ma c.2 d.2)))=max (min a.2 b.2) (min c.2 d.2)-min (max a.2 b.2) (max c.2 d.2):=by
 unfold Nr at ha hb hc hd;simp only[oN,j7];exact⟨aq (by omega) (by omega),aq (by omega) (by omega)⟩
def Bc(x y:Int):RC (sg x*sg y)=sg x*sg y:=by
 rcases jf x with h|h|h<;>rcases jf y with g|g|g<;>rw[h,g]<;>decide
def vh(x y:Int):sg x*sg y<0↔(0<x/\y<0)\/(x<0/\0<y):=by
 unfold sg
 split<;>split<;>(try split)<;>(try split)<;>omega
def JP(n:Nat){a b c d:I2}(ha:Nr a)(hb:Nr b)(hc:Nr c)(hd:Nr d)(hab:a≠b)(hcd:c≠d):L6 n a.1 a.2 b.1 b.2 c.1 c.2 d.1 d.2=some (wj a b c d):=by
 classical
 rw[HM hab hcd];unfold L6;rw[oF n ha hb hc,ak,vL,ak,oF n ha hb hd,ak,vL,ak,oF n hc hd ha,ak,vL,ak,oF n hc hd hb,ak,vL,ak,fU,ak,<-Qp];rw[(JG ha hb hc hd).1,(JG ha hb hc hd).2]
 by_cases h:Gv a b c d
 have h':sg (ti a b c)=0/\sg (ti a b d)=0:=⟨gb.2 h.1,gb.2 h.2⟩;rw[aH h',Ph h];have hl:(ob (some (max (min a.1 b.1) (min c.1 d.1)-min (max a.1 b.1) (max c.1 d.1))) fun y54=>ob (br (decide (a.1=b.1)) (ob (some (max (min a.2 b.2) (min c.2 d.2)-min (max a.2 b.2) (max c.2 d.2))) fun y61=>some y61) (some y54)) fun v59=>br (decide (0<v59)) (some (0:Int)) (br (decide (v59=0)) (some 1) (some 3)))
   = br (decide (0<low a b c d)) (some 0) (br (decide (low a b c d=0)) (some 1) (some 3)):=by
  unfold low
  by_cases e:a.1=b.1
  rw[ak,aH e,ak,ak,Ph e]
  rw[ak,aD e,ak,Pb e]
 rw[hl]
 by_cases g:0<low a b c d
 rw[aH g,Ph g]
 rw[aD g,Pb g]
 by_cases k:low a b c d=0
 rw[aH k,Ph k]
 rw[aD k,Pb k]
 have h':¬(sg (ti a b c)=0/\sg (ti a b d)=0):=fun g=>h ⟨gb.1 g.1,gb.1 g.2⟩;rw[aD h',Pb h,Bc,Bc,fU,ak,<-Qp]
 by_cases g:tA a b c d
 have g':sg (ti a b c)*sg (ti a b d)<0/\sg (ti c d a)*sg (ti c d b)<0:=⟨(vh _ _).2 g.1,(vh _ _).2 g.2⟩;rw[aH g',Ph g]
 have g':¬(sg (ti a b c)*sg (ti a b d)<0/\sg (ti c d a)*sg (ti c d b)<0):=fun k=>g ⟨(vh _ _).1 k.1,(vh _ _).1 k.2⟩;rw[aD g',Pb g,vV n ha hb hc,vV n ha hb hd,vV n hc hd ha,vV n hc hd hb];simp only[ak,qC,<-Bool.decide_or]
 by_cases k:eV a b c\/eV a b d\/eV c d a\/eV c d b
 rw[aH k,Ph k]
 rw[aD k,Pb k]
def lj(l:SB I2)(i:Nat):SA (Int⊕SC):=if Fa (nx l i) then some (.inl (i:Int)) else none
def fT(l:SB I2)(i:Nat):SA (Int⊕SC):=if nx l i=nx l (i+1) then some (.inl (i:Int)) else none
def gF(l:SB I2)(i:Nat):SA (Int⊕SC):=if ti (nx l (i+l.length-1)) (nx l i) (nx l (i+1))=0/\di (nx l (i+l.length-1)) (nx l i) (nx l (i+1))<0 then some (.inl (i:Int)) else none
def sL(l:SB I2)(i j:Nat):Prop:=¬(j=0/\i=l.length-1)/\wj (nx l j) (nx l (j+1)) (nx l i) (nx l (i+1))≠0
open Classical in
noncomputable def gH (l:SB I2) (i:Nat):SA (Int⊕SC):=if ∃j,j+1<i/\sL l i j then some (.inl (i:Int)) else none
noncomputable def mZ (l:SB I2):Int×Int :=
 if l.length<3\/40<l.length then(1,0) else
 match dA (lj l) (.inr ()) l.length 0 with
 | .inl v=>(2,v)
 | .inr _=>match dA (fT l) (.inr ()) l.length 0 with
  | .inl v=>(3,v)
  | .inr _=>match dA (gF l) (.inr ()) l.length 0 with
   | .inl v=>(4,v)
   | .inr _=>match dA (gH l) (.inr ()) l.length 0 with
    | .inl v=>(5,v)
    | .inr _=>(0,0)
section
variable{l:SB I2}(n:Nat)
def nw(p q:I2):(decide (p.1=q.1)&&decide (p.2=q.2))=decide (p=q):=by
 rw[<-Qp,decide_eq_decide]; exact⟨fun h=>QY h.1 h.2,fun h=>by subst h; exact⟨rfl,rfl⟩⟩
def Fp(hn:l.length<n)(hl:l.length<100):bR (w7 n l) n 0=some (dA (lj l) (.inr ()) l.length 0):=by
 refine eT (len:=l.length) (fun i hi=>?_) ?_ l.length 0 n (by omega) hn
 unfold w7 lj
 dsimp only
 rw[aH (by omega),aJ hi,aN,fp hi,ak]
 dsimp only
 rw[Kl,ak,aV (by omega)]
 by_cases h:Fa (nx l i)
 rw[aH h,Ph h]
 rw[aD h,Pb h]
 unfold w7
 dsimp only
 rw[aD (by omega)]
def DL(h64:∀i,j4 (nx l i).1/\j4 (nx l i).2)(hn:l.length<n)(hl:l.length<100):bR (yp n l) n 0=some (dA (lj l) (.inr ()) l.length 0):=by
 refine eT (len:=l.length) (fun i hi=>?_) ?_ l.length 0 n (by omega) hn
 unfold yp lj
 dsimp only
 rw[aH (by omega),aJ hi,aN,fp hi,ak]
 dsimp only
 rw[K4 n (h64 i).1 (h64 i).2,ak,aV (by omega)]
 by_cases h:Fa (nx l i)
 rw[aH (show Fa ((nx l i).1,(nx l i).2) from h),Ph h]
 rw[aD (show ¬Fa ((nx l i).1,(nx l i).2) from h),Pb h]
 unfold yp
 dsimp only
 rw[aD (by omega)]
def Gs(hn:l.length<n)(hl:l.length<100):bR (wT n l) n 0=some (dA (fT l) (.inr ()) l.length 0):=by
 refine eT (len:=l.length) (fun i hi=>?_) ?_ l.length 0 n (by omega) hn
 have hne:l≠[]:=by rintro rfl; cases hi
 unfold wT fT
 dsimp only
 rw[aH (by omega),aJ hi,aN,fp hi,ak]
 dsimp only
 rw[aV (by omega),qL n (i+1) hne,ak]
 dsimp only
 rw[nw]
 by_cases h:nx l i=nx l (i+1)
 rw[aH h,Ph h]
 rw[aD h,Pb h]
 unfold wT
 dsimp only
 rw[aD (by omega)]
def mO(i:Nat)(hi:i<l.length)(hl:l.length<100){β:Type}(K:Int×Int->SA β) :
  gd (decide ((l.length:Int)≠0)) (gd (bO (Int.tmod ((i+1:Nat):Int) (l.length:Int)) l.length) (ob (l[(Int.tmod ((i+1:Nat):Int) (l.length:Int)).toNat]?) K))=K ((nx l (i+1)).1,(nx l (i+1)).2):=by
 have hm:(i+1)%l.length<l.length:=P9 _ (by omega)
 rw[Po (show((l.length:Nat):Int)≠0 by omega),aN,ke,aJ hm,aN,fp hm,ak,rQ]
def FP(hn:l.length<n)(hl:l.length<100):bR (xS n l) n 0=some (dA (fT l) (.inr ()) l.length 0):=by
 refine eT (len:=l.length) (fun i hi=>?_) ?_ l.length 0 n (by omega) hn
 unfold xS fT
 dsimp only
 rw[aH (by omega),aJ hi,aN,fp hi,ak]
 dsimp only
 rw[aV (by omega),mO i hi hl]
 dsimp only
 rw[nw]
 by_cases h:nx l i=nx l (i+1)
 rw[aH h,Ph h]; rfl
 rw[aD h,Pb h]; rfl
 unfold xS
 dsimp only
 rw[aD (by omega)]
def Fl(hnr:∀i,Nr (nx l i))(hn:l.length<n)(hl:l.length<100):bR (xl n l) n 0=some (dA (gF l) (.inr ()) l.length 0):=by
 refine eT (len:=l.length) (fun i hi=>?_) ?_ l.length 0 n (by omega) hn
 have hne:l≠[]:=by rintro rfl; cases hi
 have e1:RC ((RC ((i:Int)+(l.length:Int)))-1)=((i+l.length-1:Nat):Int):=by
  rw[aq (x:=(i:Int)+(l.length:Int)) (by omega) (by omega),aq (by omega) (by omega)]; omega
 unfold xl gF
 dsimp only
 rw[aH (by omega),e1,qL n _ hne,ak]
 dsimp only
 rw[aJ hi,aN,fp hi,ak]
 dsimp only
 rw[aV (by omega),qL n (i+1) hne,ak]
 dsimp only
 rw[oF n (hnr _) (hnr _) (hnr _),ak,Ll n (hnr _) (hnr _) (hnr _),ak,fU,ak,<-Qp]
 by_cases h:ti (nx l (i+l.length-1)) (nx l i) (nx l (i+1))=0/\di (nx l (i+l.length-1)) (nx l i) (nx l (i+1))<0
 rw[aH h,Ph h]
 rw[aD h,Pb h]
 unfold xl
 dsimp only
 rw[aD (by omega)]
def FD(hnr:∀i,Nr (nx l i))(hn:l.length<n)(hl:l.length<100):bR (wA n l) n 0=some (dA (gF l) (.inr ()) l.length 0):=by
 refine eT (len:=l.length) (fun i hi=>?_) ?_ l.length 0 n (by omega) hn
 have hm:(i+l.length-1)%l.length<l.length:=P9 _ (by omega)
 have e1:RC ((RC ((i:Int)+(l.length:Int)))-1)=((i+l.length-1:Nat):Int):=by
  rw[aq (x:=(i:Int)+(l.length:Int)) (by omega) (by omega),aq (by omega) (by omega)]; omega
 unfold wA gF
 dsimp only
 rw[aH (by omega),aJ hi,aN,fp hi,ak]
 dsimp only
 rw[aV (by omega),mO i hi hl]
 dsimp only
 rw[e1,Po (show((l.length:Nat):Int)≠0 by omega),aN,ke,ak,aJ hm,aN,fp hm,rQ,ak]
 dsimp only
 rw[nU n (hnr _) (hnr _) (hnr _),ak,ak,ak,ML (hnr _) (hnr _) (hnr _),fU,ak,<-Qp]
 by_cases h:ti (nx l (i+l.length-1)) (nx l i) (nx l (i+1))=0/\di (nx l (i+l.length-1)) (nx l i) (nx l (i+1))<0
 rw[aH (show _/\_ from⟨gb.2 h.1,h.2⟩),Ph h]; rfl
 rw[aD (fun g=>h ⟨gb.1 g.1,g.2⟩),Pb h]; rfl
 unfold wA
 dsimp only
 rw[aD (by omega)]
end
section
variable{l:SB I2}(n:Nat)
open Classical in
noncomputable def I4 {ρ:Type} (l:SB I2) (r:ρ) (i j:Nat):SA ρ:=if sL l i j then some r else none
def Gt{ρ:Type}{r e:ρ}(hre:r≠e){i:Nat}:(dA (I4 l r i) e (i-1) 0=r/\∃j,j+1<i/\sL l i j)\/(dA (I4 l r i) e (i-1) 0=e/\¬∃j,j+1<i/\sL l i j):=by
 classical
 rcases ic (f:=I4 l r i) (e:=e) (i-1) 0 with⟨h1,h2⟩|⟨j,_,h2,h3⟩
 refine .inr ⟨h2,?_⟩;rintro⟨j,hj,hh⟩;have:=h1 j (by omega) (by omega)
 unfold I4 at this;rw[Ph hh] at this;cases this
 unfold I4 at h3
 split at h3
 rename_i hh;exact .inl ⟨(Pf h3).symm,j,by omega,hh⟩
 cases h3
def E9(hnr:∀i,Nr (nx l i))(hst:∀i,nx l i≠nx l (i+1)){i:Nat}(hi:i<l.length)(hn:l.length<n)(hl:l.length<100):bR (xI n (i:Int) l) n 0=some (dA (I4 l (.inl ()) i) (.inr ()) (i-1) 0):=by
 classical
 have hne:l≠[]:=by rintro rfl; cases hi
 refine eT (len:=i-1) (fun j hj=>?_) ?_ (i-1) 0 n (by omega) (by omega)
 have e1:RC ((l.length:Int)-1)=(l.length:Int)-1:=aq (by omega) (by omega)
 unfold xI I4
 dsimp only
 rw[aV (by omega),aH (by omega),fU,ak,e1,<-Qp]
 by_cases h:(j:Int)=0/\(i:Int)=(l.length:Int)-1
 rw[aH h,ak,Pb (fun g:sL l i j=>g.1 ⟨by omega,by omega⟩)]
 rw[aD h,aJ (by omega),aN,fp (by omega),ak]
 dsimp only
 rw[aJ (by omega),aN,fp (by omega),ak]
 dsimp only
 rw[aJ hi,aN,fp hi,ak]
 dsimp only
 rw[aV (by omega),qL n (i+1) hne,ak]
 dsimp only
 rw[JP n (hnr _) (hnr _) (hnr _) (hnr _) (hst _) (hst _),ak]
 by_cases g:wj (nx l j) (nx l (j+1)) (nx l i) (nx l (i+1))=0
 rw[Po g,PE,cy,ak,Pb (fun k:sL l i j=>k.2 g)]
 rw[PL g,PQ,fG,ak,Ph (show sL l i j from⟨fun k=>h ⟨by omega,by omega⟩,g⟩)]
 unfold xI
 dsimp only
 rw[aV (by omega),aD (by omega)]
def Gg(hnr:∀i,Nr (nx l i))(hst:∀i,nx l i≠nx l (i+1)){i:Nat}(hi:i<l.length)(hn:l.length<n)(h5:5<n)(hl:l.length<100) :
  bR (yD n l (i:Int) (nx l i).1 (nx l i).2 (nx l (i+1)).1 (nx l (i+1)).2) n 0=some (dA (I4 l (.inr (.inl ())) i) (.inl ()) (i-1) 0):=by
 classical
 have hne:l≠[]:=by rintro rfl; cases hi
 have e0:RC ((i:Int)-1)=(i:Int)-1:=aq (by omega) (by omega)
 refine eT (len:=i-1) (fun j hj=>?_) ?_ (i-1) 0 n (by omega) (by omega)
 ·have e1:RC ((l.length:Int)-1)=(l.length:Int)-1:=aq (by omega) (by omega)
  unfold yD I4
  dsimp only
  rw[aH (by omega),aJ (by omega),aN,fp (by omega),ak]
  dsimp only
  rw[aV (by omega),mO j (by omega) hl]
  try dsimp only
  rw[e0,aD (by omega),fU,ak,e1,<-Qp]
  by_cases h:(j:Int)=0/\(i:Int)=(l.length:Int)-1
  rw[aH h,ak,Pb (fun g:sL l i j=>g.1 ⟨by omega,by omega⟩)]
  rw[aD h,Km n _ _ (hnr _) (hnr _) (hnr _) (hnr _) (hst _) (hst _) h5,uQ,ak]
  by_cases g:wj (nx l j) (nx l (j+1)) (nx l i) (nx l (i+1))=0
  rw[Po g,PE,cy,ak,Pb (fun k:sL l i j=>k.2 g)]
  rw[PL g,PQ,fG,ak,Ph (show sL l i j from⟨fun k=>h ⟨by omega,by omega⟩,g⟩)]
 ·unfold yD
  dsimp only
  rw[aH (by omega),aJ (by omega),aN,fp (by omega),ak]
  dsimp only
  rw[aV (by omega),mO (i-1) (by omega) hl]
  try dsimp only
  rw[e0,aH (by omega),ak]
def E0(hnr:∀i,Nr (nx l i))(hst:∀i,nx l i≠nx l (i+1))(hn:l.length<n)(hl:l.length<100):bR (wx n l) n 0=some (dA (gH l) (.inr ()) l.length 0):=by
 classical
 refine eT (len:=l.length) (fun i hi=>?_) ?_ l.length 0 n (by omega) hn
 ·unfold wx gH
  try dsimp only
  rw[aH (by omega),E9 n hnr hst hi hn hl,ak,aV (by omega)]
  rcases Gt (l:=l) (r:=(.inl ():SC⊕SC)) (e:=.inr ()) (by simp) (i:=i) with⟨h1,h2⟩|⟨h1,h2⟩
  rw[h1,Ph h2]
  rw[h1,Pb h2]
 ·unfold wx
  try dsimp only
  rw[aD (by omega)]
def Ff(hnr:∀i,Nr (nx l i))(hst:∀i,nx l i≠nx l (i+1))(hn:l.length<n)(h5:5<n)(hl:l.length<100):bR (yC n l) n 0=some (dA (gH l) (.inr ()) l.length 0):=by
 classical
 refine eT (len:=l.length) (fun i hi=>?_) ?_ l.length 0 n (by omega) hn
 unfold yC gH
 dsimp only
 rw[aH (by omega),aJ hi,aN,fp hi,ak]
 dsimp only
 rw[aV (by omega),mO i hi hl]
 dsimp only
 rw[ak,Gg n hnr hst hi hn h5 hl,ak];rcases Gt (l:=l) (r:=(.inr (.inl ()):SC⊕SC⊕SC)) (e:=.inl ()) (by simp) (i:=i) with⟨h1,h2⟩|⟨h1,h2⟩
 rw[h1,Ph h2]; rfl
 rw[h1,Pb h2]; rfl
 unfold yC
 dsimp only
 rw[aD (by omega)]
def mQ{f:Nat->SA (Int⊕SC)}(hf:∀j r,f j=some r->r≠.inr ()){k:Nat}(h:dA f (.inr ()) k 0=.inr ()):∀j,j<k->f j=none:=by
 rcases ic (f:=f) (e:=.inr ()) k 0 with⟨h1,_⟩|⟨j,_,_,h3⟩
 exact fun j hj=>h1 j (by omega) (by omega)
 rw[h] at h3; exact Pz rfl (hf j _ h3)
def Fk{P:I2->Prop}(hl:0<l.length)(h:∀i,i<l.length->P (nx l i))(i:Nat):P (nx l i):=by
 rw[<-rQ]; exact h _ (P9 _ hl)
def pA{i:Nat}:nx l (i%l.length+1)=nx l (i+1):=by unfold nx; rw[Nat.mod_add_mod]
def yP(hl:0<l.length)(h:dA (lj l) (.inr ()) l.length 0=.inr ()):∀i,Nr (nx l i):=by
 refine Fk hl fun i hi=>?_;have:=mQ (fun j r hr=>by unfold lj at hr; split at hr<;>cases hr; simp) h i hi
 unfold lj at this
 split at this
 cases this
 rename_i g; exact Jb.1 g
def Ae(hl:0<l.length)(h:dA (fT l) (.inr ()) l.length 0=.inr ()):∀i,nx l i≠nx l (i+1):=fun i=>by
 have:=mQ (fun j r hr=>by unfold fT at hr; split at hr<;>cases hr; simp) h (i%l.length) (P9 _ hl)
 unfold fT at this
 split at this
 cases this
 rename_i g;rw[rQ,pA] at g;exact g
def GL(v:Int)(h:dA (lj l) (.inr ()) l.length 0=.inl v):0<=v:=by
 rcases ic (f:=lj l) (e:=.inr ()) l.length 0 with⟨_,h2⟩|⟨j,_,_,h3⟩
 rw[h] at h2; cases h2
 rw[h] at h3;unfold lj at h3
 split at h3
 cases h3; omega
 cases h3
def Lu(hn:l.length<n)(h5:41<n):Ns n l=some (mZ l):=by
 unfold Ns mZ;rw[qC,ak,<-Bool.decide_or]
 by_cases h:l.length<3\/40<l.length
 rw[aH (by omega),Ph h]
 ·rw[aD (by omega),Pb h,Fp n hn (by omega),ak]
  cases h1:dA (lj l) (.inr ()) l.length 0 with
  | inl v=>rfl
  | inr _ =>
   have hnr:=yP (by omega) h1
   dsimp only
   rw[Gs n hn (by omega),ak]
   cases h2:dA (fT l) (.inr ()) l.length 0 with
   | inl v=>rfl
   | inr _ =>
    have hst:=Ae (by omega) h2
    dsimp only
    rw[Fl n hnr hn (by omega),ak]
    cases h3:dA (gF l) (.inr ()) l.length 0 with
    | inl v=>rfl
    | inr _ =>
     dsimp only
     rw[E0 n hnr hst hn (by omega),ak]
     cases h4:dA (gH l) (.inr ()) l.length 0<;>rfl
def J5(h64:∀x∈l,j4 x.1/\j4 x.2)(hn:l.length<n)(h5:41<n):Mq n l=some (mZ l):=by
 unfold Mq mZ;rw[qC,ak,<-Bool.decide_or]
 by_cases h:l.length<3\/40<l.length
 rw[aH (by omega),Ph h]
 ·have h64':∀i,j4 (nx l i).1/\j4 (nx l i).2:=Fk (P:=fun x=>j4 x.1/\j4 x.2) (by omega) fun i hi=>by
   refine h64 _ ?_;unfold nx;rw[PJ hi,Pq,Pl hi];exact Qk hi
  rw[aD (by omega),Pb h,DL n h64' hn (by omega),ak]
  cases h1:dA (lj l) (.inr ()) l.length 0 with
  | inl v =>
   have:=GL v h1
   dsimp only
   rw[ak,aH this]
  | inr _ =>
   have hnr:=yP (by omega) h1
   dsimp only
   rw[ak,aD (by omega),ak,FP n hn (by omega),ak]
   cases h2:dA (fT l) (.inr ()) l.length 0 with
   | inl v=>rfl
   | inr _ =>
    have hst:=Ae (by omega) h2
    dsimp only
    rw[ak]
    dsimp only
    rw[ak,FD n hnr hn (by omega),ak]
    cases h3:dA (gF l) (.inr ()) l.length 0 with
    | inl v=>rfl
    | inr _ =>
     dsimp only
     rw[ak]
     dsimp only
     rw[ak,Ff n hnr hst hn (by omega) (by omega),ak]
     cases h4:dA (gH l) (.inr ()) l.length 0<;>rfl
def yM(l:SB I2):Prop:=(mZ l).1<=0
open Classical in
def zg(hn:l.length<n)(h5:41<n):Ip n l=some (if yM l then 0 else 140):=by
 unfold Ip yM;rw[Lu n hn h5,ak];obtain⟨a,b⟩:=mZ l
 dsimp only
 by_cases h:0<a
 rw[aH h,RE]
 rw[aD h,RF]
open Classical in
def Dy(h64:∀x∈l,j4 x.1/\j4 x.2)(hn:l.length<n)(h5:41<n):Iu n l=some (if yM l then 0 else 140):=by
 unfold Iu yM;rw[J5 n h64 hn h5,ak];obtain⟨a,b⟩:=mZ l
 dsimp only
 by_cases h:0<a
 rw[aH h,RE]
 rw[aD h,RF]
end
end Go.Proofs.YthmekkhpddehjaaGreat
namespace Jd
def fY(f:I2->I2){r:SB I2}(h:r≠[])(i:Nat):nx (r.map f) i=f (nx r i):=by
 have hl:=QS.2 h;unfold nx;rw[Pk];have hi:i%r.length<r.length:=P9 _ hl;rw[Pq,Pq,PY,Pl hi]; rfl
def Lp{r:SB I2}:nx r r.length=nx r 0:=by unfold nx; rw[Nat.mod_self,Nat.zero_mod]
def wU(r:SB I2):Int:=fI r.length fun i=>(nx r i).1*(nx r (i+1)).2-(nx r i).2*(nx r (i+1)).1
def xQ(n:Nat)(f g:Nat->Int):fI n (fun i=>f i+g i)=fI n f+fI n g:=by
 induction n with
 | zero=>rfl
 | succ n ih=>simp only[fI]; rw[ih]; omega
def sd(c:Int)(n:Nat)(f:Nat->Int):fI n (fun i=>c*f i)=c*fI n f:=by
 induction n with
 | zero=>simp[fI]
 | succ n ih=>simp only[fI]; rw[ih,Int.mul_add]
def B3(n:Nat)(f:Nat->Int):fI (n+1) f=f 0+fI n fun i=>f (i+1):=by
 induction n with
 | zero=>simp[fI]
 | succ n ih=>rw[fI,ih]; simp only[fI]; omega
def Gm(r:SB I2)(o:I2):fI r.length (fun i=>((nx r i).1-o.1)*((nx r (i+1)).2-o.2)-((nx r i).2-o.2)*((nx r (i+1)).1-o.1))=wU r:=by
 have t1:=xV r.length fun i=>(nx r i).1;have t2:=xV r.length fun i=>(nx r i).2;rw[Lp] at t1 t2;have e:fI r.length (fun i=>((nx r i).1-o.1)*((nx r (i+1)).2-o.2)-((nx r i).2-o.2)*((nx r (i+1)).1-o.1)) =
   fI r.length (fun i=>((nx r i).1*(nx r (i+1)).2-(nx r i).2*(nx r (i+1)).1)+(o.2*((nx r (i+1)).1-(nx r i).1) + -o.1*((nx r (i+1)).2-(nx r i).2))) :=
  jq fun i _=>by grind
 rw[e,xQ,xQ,sd,sd,t1,t2];unfold wU
 grind
structure Chg(f:I2->I2)(k d:Int):Prop where
 inj:∀{a b},f a=f b->a=b
 ti:∀a b c,ti (f a) (f b) (f c)=k*ti a b c
 di:∀a b c,di (f a) (f b) (f c)=d*di a b c
 kp:k≠0
 dp:0<d
 btw:∀{a b c},eV (f a) (f b) (f c)↔eV a b c
def kP{k x:Int}(h:0<k):0<k*x↔0<x:=⟨fun g=>Int.pos_of_mul_pos_right g h,fun g=>Q1 h g⟩
def gX{k x:Int}(h:0<k):k*x<0↔x<0:=by
 have:=kP (x:=-x) h;rw[Int.mul_neg] at this;omega
section
variable{f:I2->I2}{k d:Int}
def Chg.IF(h:Chg f k d){a b c d x:I2}:iL (f a) (f b) (f c) (f d) (f x)↔iL a b c d x:=by
 unfold iL;rw[h.btw,h.btw];constructor
 rintro⟨g,e⟩;exact⟨by rcases g with g|g|g|g<;>simp[h.inj g],e⟩
 rintro⟨g,e⟩;exact⟨by rcases g with g|g|g|g<;>simp[g],e⟩
def Chg.p6(h:Chg f k d){a b c d:I2}:tA (f a) (f b) (f c) (f d)↔tA a b c d:=by
 unfold tA;rw[h.ti,h.ti,h.ti,h.ti];rcases Int.lt_or_gt_of_ne h.kp with g|g
 have e:∀x,k*x = -((-k)*x):=fun x=>by rw[Int.neg_mul]; omega
 have p:∀{x},0<k*x↔x<0:=fun{x}=>by rw[e]; have:=gX (k:=-k) (x:=x) (by omega); omega
 have n:∀{x},k*x<0↔0<x:=fun{x}=>by rw[e]; have:=kP (k:=-k) (x:=x) (by omega); omega
 rw[p,p,p,p,n,n,n,n]; omega
 rw[kP g,kP g,kP g,kP g,gX g,gX g,gX g,gX g]
def DV{a b c d:I2}:NM a b c d↔(∀x,¬iL a b c d x)/\¬tA a b c d:=Iff.rfl
def Chg.nm(h:Chg f k d){a b c d:I2}:NM (f a) (f b) (f c) (f d)↔NM a b c d:=by
 rw[DV,DV,h.p6];refine and_congr_left fun _=>⟨fun g x hx=>g (f x) (h.IF.2 hx),fun g x hx=>?_⟩;have:∃y,x=f y:=by
  rcases hx.1 with e|e|e|e<;>exact⟨_,e⟩
 obtain⟨y,rfl⟩:=this;exact g y (h.IF.1 hx)
def Chg.vr(h:Chg f k d){r:SB I2}(v:VR r):VR (r.map f):=by
 have hr:r≠[]:=fun e=>by have:=v.n3; rw[e] at this; simp at this
 refine⟨by rw[Pk]; exact v.n3,fun i=>?_,fun i=>?_,fun j i h1 h2 h3=>?_⟩
 rw[fY f hr,fY f hr];exact fun e=>v.still i (h.inj e)
 rw[fY f hr,fY f hr,fY f hr,h.ti,h.di];rintro⟨e1,e2⟩;refine v.td i ⟨?_,(gX h.dp).1 e2⟩;rcases Qu.1 e1 with e|e
 exact Pz e h.kp
 exact e
 rw[Pk] at h2 h3;rw[fY f hr,fY f hr,fY f hr,fY f hr,h.nm];exact v.meet j i h1 h2 h3
end
def nJ(v:I2)(a:I2):I2:=(a.1+v.1,a.2+v.2)
def FA(v a b c:I2):ti (nJ v a) (nJ v b) (nJ v c)=ti a b c:=by unfold ti nJ; grind
def GS{v a b c:I2}:eV (nJ v a) (nJ v b) (nJ v c)↔eV a b c:=by
 unfold eV;rw[FA];unfold nJ
 dsimp only
 omega
def It(v:I2):Chg (nJ v) 1 1:=by
 refine⟨fun{a b} h=>?_,fun a b c=>by rw[FA]; omega,fun a b c=>by unfold di nJ; grind,by decide,by decide,GS⟩
 have h1:=Ps Prod.fst h;have h2:=Ps Prod.snd h;unfold nJ at h1 h2;exact QY (by dsimp only at h1; omega) (by dsimp only at h2; omega)
def pw(s:Int)(a:I2):I2:=(a.1*s,a.2*s)
def Gp(s:Int)(a b c:I2):ti (pw s a) (pw s b) (pw s c)=s*s*ti a b c:=by unfold ti pw; grind
def mH{s x y:Int}(hs:0<s):x*s<=y*s↔x<=y:=⟨fun h=>Int.le_of_mul_le_mul_right h hs,fun h=>Int.mul_le_mul_of_nonneg_right h (Int.le_of_lt hs)⟩
def G9{s:Int}(hs:0<s){a b c:I2}:eV (pw s a) (pw s b) (pw s c)↔eV a b c:=by
 have hss:s*s≠0:=by have:=Q1 hs hs; omega
 have m1:∀x y z:Int,min (x*s) (y*s)<=z*s↔min x y<=z:=fun x y z=>by
  have h1:=mH (x:=x) (y:=z) hs;have h2:=mH (x:=y) (y:=z) hs;omega
 have m2:∀x y z:Int,z*s<=max (x*s) (y*s)↔z<=max x y:=fun x y z=>by
  have h1:=mH (x:=z) (y:=x) hs;have h2:=mH (x:=z) (y:=y) hs;omega
 unfold eV;rw[Gp];unfold pw
 dsimp only
 rw[m1,m2,m1,m2];refine and_congr_left fun _=>⟨fun h=>?_,fun h=>by rw[h,Int.mul_zero]⟩
 rcases Qu.1 h with e|e
 exact Pz e hss
 exact e
def IB{s:Int}(hs:0<s):Chg (pw s) (s*s) (s*s):=by
 have hss:=Q1 hs hs;refine⟨fun{a b} h=>?_,Gp s,fun a b c=>by unfold di pw; grind,by omega,hss,G9 hs⟩
 have h1:=Ps Prod.fst h;have h2:=Ps Prod.snd h;exact QY (Int.eq_of_mul_eq_mul_right (by omega) h1) (Int.eq_of_mul_eq_mul_right (by omega) h2)
def GZ{r:SB I2}(h:r≠[])(v:I2):wU (r.map (nJ v))=wU r:=by
 rw[<-Gm (r.map (nJ v)) v];unfold wU;rw[Pk];refine jq fun i _=>?_;rw[fY _ h,fY _ h];unfold nJ
 dsimp only
 rw[Int.add_sub_cancel,Int.add_sub_cancel,Int.add_sub_cancel,Int.add_sub_cancel]
def rv:SB I2->SB I2
 | []=>[]
 | a::l=>a::l.reverse
def qF(r:SB I2):(rv r).length=r.length:=by cases r<;>simp[rv]
def oP(r:SB I2){i j:Nat}(h:i%r.length=j%r.length):nx r i=nx r j:=by unfold nx; rw[h]
def tS{r:SB I2}{i t:Nat}(h:(t+i)%r.length=0):nx (rv r) i=nx r t:=by
 match r with
 | []=>rfl
 | a::l =>
  unfold nx;rw[qF];have hn:0<(a::l).length:=by simp
  generalize hN:(a::l).length=N at *;have h1:i%N<N:=P9 _ hn;have h2:t%N<N:=P9 _ hn;have h3:(t%N+i%N)%N=0:=by rw[<-Nat.add_mod]; exact h
  have hl:l.length+1=N:=by rw[<-hN]; simp
  rcases Nat.eq_zero_or_pos (i%N) with e|e
  have e2:t%N=0:=by rw[e,Qh,PJ h2] at h3; exact h3
  rw[e,e2]; rfl
  have e2:t%N+i%N=N:=by
   rcases PW (t%N+i%N) N with g|g
   rw[PJ g] at h3; omega
   rw[Nat.mod_eq_sub_mod g,PJ (by omega)] at h3; omega
  obtain⟨x,hx⟩:∃x,i%N=x+1:=⟨i%N-1,by omega⟩
  obtain⟨y,hy⟩:∃y,t%N=y+1:=⟨t%N-1,by omega⟩
  rw[hx,hy]
  show(a::l.reverse).getD (x+1) (0,0)=(a::l).getD (y+1) (0,0)
  simp only[Pq,PT];rw[List.getElem?_reverse (by omega)]
  congr 2
  omega
def KP{a b c d:I2}:NM b a d c↔NM c d a b:=by
 rw[<-wa,<-wa,xX,uQ,xX,uQ (a:=a) (b:=b)]
def VR.rv{r:SB I2}(v:VR r):VR (rv r):=by
 have hn:=v.n3;refine⟨by rw[qF]; exact hn,fun i=>?_,fun i=>?_,fun j i h1 h2 h3=>?_⟩
 have e:((r.length-1)*(i+1)+(i+1))%r.length=0:=by
  rw[show(r.length-1)*(i+1)+(i+1)=r.length*(i+1) by
   obtain⟨m,hm⟩:∃m,r.length=m+1:=⟨r.length-1,by omega⟩
   rw[hm,Rg,Qx,Nat.one_mul],Nat.mul_mod_right]
 rw[tS (i:=i+1) e,tS (i:=i) (t:=(r.length-1)*(i+1)+1) (by rw[show(r.length-1)*(i+1)+1+i=(r.length-1)*(i+1)+(i+1) by omega]; exact e)]
 exact fun g=>v.still _ g.symm
 have e:((r.length-1)*(i+2)+(i+2))%r.length=0:=by
  rw[show(r.length-1)*(i+2)+(i+2)=r.length*(i+2) by
   obtain⟨m,hm⟩:∃m,r.length=m+1:=⟨r.length-1,by omega⟩
   rw[hm,Rg,Qx,Nat.one_mul],Nat.mul_mod_right]
 generalize(r.length-1)*(i+2)=m at e;rw[tS (i:=i+2) e,tS (i:=i+1) (t:=m+1) (by rw[show m+1+(i+1)=m+(i+2) by omega]; exact e),tS (i:=i) (t:=m+2) (by rw[show m+2+i=m+(i+2) by omega]; exact e)]
 rintro⟨g1,g2⟩;refine v.td m ⟨?_,?_⟩
 have:ti (nx r (m+2)) (nx r (m+1)) (nx r m) = -ti (nx r m) (nx r (m+1)) (nx r (m+2)):=by unfold Jd.ti; grind
 omega
 have:di (nx r (m+2)) (nx r (m+1)) (nx r m)=di (nx r m) (nx r (m+1)) (nx r (m+2)):=by unfold Jd.di; grind
 omega
 rw[qF] at h2 h3;have g:∀k,k<=r.length->nx (Jd.rv r) k=nx r (r.length-k):=fun k hk=>tS (by rw[show r.length-k+k=r.length by omega,Nat.mod_self])
 rw[g j (by omega),g (j+1) (by omega),g i (by omega),g (i+1) (by omega)]
 have:=v.meet (r.length-1-i) (r.length-1-j) (by omega) (by omega) (by omega)
 rw[show r.length-1-i+1=r.length-i by omega,show r.length-1-j+1=r.length-j by omega] at this
 rw[show r.length-(j+1)=r.length-1-j by omega,show r.length-(i+1)=r.length-1-i by omega]
 exact KP.2 this
def fK(α β γ:Int)(x:I2):Int:=α*x.1+β*x.2+γ
def Jc{α β γ:Int}{a b x:I2}(h:ti a b x=0):(b.1-a.1)*fK α β γ x=(b.1-x.1)*fK α β γ a+(x.1-a.1)*fK α β γ b:=by
 have e:(b.1-a.1)*fK α β γ x-((b.1-x.1)*fK α β γ a+(x.1-a.1)*fK α β γ b)=β*ti a b x:=by unfold fK ti; grind
 rw[h,Int.mul_zero] at e; omega
def Jp{α β γ:Int}{a b x:I2}(h:ti a b x=0):(b.2-a.2)*fK α β γ x=(b.2-x.2)*fK α β γ a+(x.2-a.2)*fK α β γ b:=by
 have e:(b.2-a.2)*fK α β γ x-((b.2-x.2)*fK α β γ a+(x.2-a.2)*fK α β γ b) = -α*ti a b x:=by unfold fK ti; grind
 rw[h,Int.mul_zero] at e; omega
def qc{u v w s t z:Int}(hw:0<w)(hu:0<=u)(hv:0<=v)(e:u+v=w)(hs:0<s)(ht:0<t)(h:w*z=u*s+v*t):0<z:=by
 have h1:0<=u*s:=Qy hu (Int.le_of_lt hs);have h2:0<=v*t:=Qy hv (Int.le_of_lt ht);have:0<w*z:=by
  rcases Int.lt_or_eq_of_le hu with g|g
  have:=Q1 g hs; omega
  have:=Q1 (show 0<v by omega) ht; omega
 exact Int.pos_of_mul_pos_right this hw
def BJ{α β γ:Int}{a b x:I2}(h:eV a b x)(ha:0<fK α β γ a)(hb:0<fK α β γ b):0<fK α β γ x:=by
 obtain⟨h0,h1,h2,h3,h4⟩:=h;rcases Int.lt_trichotomy a.1 b.1 with g|g|g
 exact qc (w:=b.1-a.1) (u:=b.1-x.1) (v:=x.1-a.1) (by omega) (by omega) (by omega) (by omega) ha hb (Jc h0)
 rcases Int.lt_trichotomy a.2 b.2 with k|k|k
 exact qc (w:=b.2-a.2) (u:=b.2-x.2) (v:=x.2-a.2) (by omega) (by omega) (by omega) (by omega) ha hb (Jp h0)
 have:x=a:=QY (by omega) (by omega)
 rw[this]; exact ha
 refine qc (w:=a.2-b.2) (u:=a.2-x.2) (v:=x.2-b.2) (by omega) (by omega) (by omega) (by omega) hb ha (Jp ?_)
 rw[jm,h0]; rfl
 refine qc (w:=a.1-b.1) (u:=a.1-x.1) (v:=x.1-b.1) (by omega) (by omega) (by omega) (by omega) hb ha (Jc ?_)
 rw[jm,h0]; rfl
def vF(α β γ:Int)(x:I2):fK (-α) (-β) (-γ) x = -fK α β γ x:=by unfold fK; grind
def ry{α β γ:Int}{a b c d:I2}(ha:0<fK α β γ a)(hb:0<fK α β γ b)(hc:fK α β γ c<0)(hd:fK α β γ d<0):NM a b c d:=by
 refine⟨fun x hx=>?_,fun hx=>?_⟩
 have h1:=BJ hx.2.1 ha hb;have h2:=BJ (α:=-α) (β:=-β) (γ:=-γ) hx.2.2 (by rw[vF]; omega) (by rw[vF]; omega)
 rw[vF] at h2; omega
 have e:ti c d b*fK α β γ a-ti c d a*fK α β γ b = -(ti a b d*fK α β γ c-ti a b c*fK α β γ d):=by unfold fK ti; grind
 have f:=GB a b c d;generalize fK α β γ a=la at *;generalize fK α β γ b=lb at *;generalize fK α β γ c=lc at *;generalize fK α β γ d=ld at *;generalize ti a b c=s at *;generalize ti a b d=t at *;generalize ti c d a=u at *;generalize ti c d b=v at *;have pp:∀{x y:Int},0<x->0<y->0<x*y:=fun h g=>Q1 h g;have pn:∀{x y:Int},0<x->y<0->x*y<0:=fun h g=>Int.mul_neg_of_pos_of_neg h g;have np:∀{x y:Int},x<0->0<y->x*y<0:=fun h g=>Int.mul_neg_of_neg_of_pos h g;have nn:∀{x y:Int},x<0->y<0->0<x*y:=fun h g=>Int.mul_pos_of_neg_of_neg h g;obtain⟨h1|h1,h2|h2⟩:=hx
 have:=np h2.2 hb; omega
 have a1:=pp h2.2 ha; have a2:=np h2.1 hb; have a3:=nn h1.2 hc; have a4:=pn h1.1 hd; omega
 have a1:=np h2.2 ha; have a2:=pp h2.1 hb; have a3:=pn h1.2 hc; have a4:=nn h1.1 hd; omega
 have:=h1.1; omega
def p6(a b:I2):Int:=a.1*b.2-a.2*b.1
def Fu{a b c:I2}(h1:0<p6 a b)(h2:0<p6 b c):¬(ti a b c=0/\di a b c<0):=by
 rintro⟨g1,g2⟩;have e:((b.1-a.1)*(b.1-a.1)+(b.2-a.2)*(b.2-a.2))*p6 b c=di a b c*p6 a b+ti a b c*(b.1*(b.1-a.1)+b.2*(b.2-a.2)):=by unfold p6 di ti; grind
 rw[g1,Int.zero_mul,Int.add_zero] at e;have n1:0<=((b.1-a.1)*(b.1-a.1)+(b.2-a.2)*(b.2-a.2))*p6 b c:=Qy (Int.add_nonneg NO NO) (Int.le_of_lt h2);have n2:=Int.mul_neg_of_neg_of_pos g2 h1;omega
def wy(k:Nat):I2:=[(2,0),(2,1),(1,2),(0,2),(-1,2),(-2,1),(-2,0),(-2,-1),(-1,-2),(0,-2),(1,-2),(2,-1)].getD (k%12) (0,0)
def zV(m:Int)(a:I2):I2:=(a.1*m,a.2*m)
def qa(α β m:Int)(a:I2):fK α β 0 (zV m a)=fK α β 0 a*m:=by unfold fK zV; grind
def Ir(m k:Int)(a b:I2):p6 (zV m a) (zV k b)=m*k*p6 a b:=by unfold p6 zV; grind
def F4(k:Nat):wy (k%12)=wy k:=by unfold wy; rw[Nat.mod_mod]
def N5:Rs:=[(3,1),(1,3),(-1,3),(-3,1),(-3,-1),(-1,-3),(1,-3),(3,-1),(4,3),(3,4),(-3,4),(-4,3),(-4,-3),(-3,-4),(3,-4),(4,-3),(1,1),(-1,1),(-1,-1),(1,-1),(1,0),(0,1),(-1,0),(0,-1),(5,1),(1,5),(-1,5),(-5,1),(-5,-1),(-1,-5),(1,-5),(5,-1),(2,1),(1,2),(-1,2),(-2,1),(-2,-1),(-1,-2),(1,-2),(2,-1)]
def Fj(a x y z:Nat):Bool:=N5.any fun c=>decide (0<fK c.1 c.2 0 (wy a))&&decide (0<fK c.1 c.2 0 (wy (a+x)))&&decide (fK c.1 c.2 0 (wy (a+y))<0)&&decide (fK c.1 c.2 0 (wy (a+y+z))<0)
def E4:Bool:=(List.range 12).all fun a=>(List.range 4).all fun x=>(List.range 12).all fun y=>(List.range 4).all fun z=>!(decide (0<x)&&decide (x<y)&&decide (0<z)&&decide (y+z<12))||Fj a x y z
def Dx:E4=true:=by decide +kernel
def Oj(a:Nat)(ha:a<12)(x:Nat)(hx:x<4)(y:Nat)(hy:y<12)(z:Nat)(hz:z<4)(h1:0<x)(h2:x<y)(h3:0<z)(h4:y+z<12):Fj a x y z=true:=by
 have h:=Dx;unfold E4 at h;have h:=Pr.1 h a (QG.2 ha);have h:=Pr.1 h x (QG.2 hx);have h:=Pr.1 h y (QG.2 hy);have h:=Pr.1 h z (QG.2 hz)
 simpa [h1,h2,h3,h4] using h
def Lm:∀a<12,∀x<4,0<x->0<p6 (wy a) (wy (a+x)):=by decide +kernel
def uD(a x:Nat):wy (a%12+x)=wy (a+x):=by unfold wy; rw[Nat.mod_add_mod]
structure Star(r:SB I2):Prop where
 n3:2<r.length
 dir:∃δ:Nat->Nat,(∀i,δ i < δ (i+1)/\δ (i+1)<=δ i+3)/\(∀i,δ (i+r.length)=δ i+12)/\∀i,∃m:Int,0<m/\nx r i=zV m (wy (δ i))
def Star.left{r:SB I2}(h:Star r)(i:Nat):0<p6 (nx r i) (nx r (i+1)):=by
 obtain⟨δ,h1,_,h3⟩:=h.dir;obtain⟨m,m0,e1⟩:=h3 i;obtain⟨k,k0,e2⟩:=h3 (i+1);have hd:=h1 i;rw[e1,e2,Ir];have:=Lm (δ i%12) (P9 _ (by decide)) (δ (i+1)-δ i) (by omega) (by omega)
 rw[F4,uD,show δ i+(δ (i+1)-δ i)=δ (i+1) by omega] at this
 exact Q1 (Q1 m0 k0) this
def Star.vr{r:SB I2}(h:Star r):VR r:=by
 refine⟨h.n3,fun i e=>?_,fun i=>Fu (h.left i) (h.left (i+1)),fun j i h1 h2 h3=>?_⟩
 have:=h.left i;rw[e] at this;unfold p6 at this;rw[Int.mul_comm,Int.sub_self] at this;exact Pz this (by decide)
 ·obtain⟨δ,d1,d2,d3⟩:=h.dir;have mono:∀a b,a<=b->δ a<=δ b:=fun a b hab=>by
   induction b with
   | zero=>rw[Nat.le_zero.1 hab]; exact Pd _
   | succ b ih =>
    rcases PW a (b+1) with g|g
    have:=ih (by omega); have:=d1 b; omega
    rw[show a=b+1 by omega]; exact Pd _
  have g1:=d1 j;have g2:=d1 i;have g3:δ (j+1) < δ i:=by have:=mono (j+1+1) i (by omega); have:=d1 (j+1); omega
  have g4:δ (i+1) < δ j+12:=by
   by_cases hj:j=0
   have:=mono (i+1) (r.length-1) (by omega)
   have h5:=d1 (r.length-1);rw[show r.length-1+1=0+r.length by omega,d2] at h5
   subst hj; omega
   have:=mono (i+1) (0+r.length) (by omega)
   rw[d2] at this;have h6:=mono 1 j (by omega)
   have h7:=(d1 0).1;rw[PV] at h7;omega
  have ck:=Oj (δ j%12) (P9 _ (by decide)) (δ (j+1)-δ j) (by omega) (δ i-δ j) (by omega) (δ (i+1)-δ i) (by omega) (by omega) (by omega) (by omega) (by omega)
  unfold Fj at ck;obtain⟨c,_,hc⟩:=List.any_eq_true.1 ck;simp only[Pe,Pv] at hc;obtain⟨⟨⟨c1,c2⟩,c3⟩,c4⟩:=hc;rw[F4] at c1;rw[uD,show δ j+(δ (j+1)-δ j)=δ (j+1) by omega] at c2
  rw[uD,show δ j+(δ i-δ j)=δ i by omega] at c3
  rw[Re,uD,show δ j+(δ i-δ j+(δ (i+1)-δ i))=δ (i+1) by omega] at c4
  obtain⟨m1,p1,e1⟩:=d3 j;obtain⟨m2,p2,e2⟩:=d3 (j+1);obtain⟨m3,p3,e3⟩:=d3 i;obtain⟨m4,p4,e4⟩:=d3 (i+1);rw[e1,e2,e3,e4];exact ry (α:=c.1) (β:=c.2) (γ:=0) (by rw[qa]; exact Q1 c1 p1) (by rw[qa]; exact Q1 c2 p2) (by rw[qa]; exact Int.mul_neg_of_neg_of_pos c3 p3) (by rw[qa]; exact Int.mul_neg_of_neg_of_pos c4 p4)
def FE{n:Nat}{f:Nat->Int}(h:∀i,i<n->0<f i)(hn:0<n):0<fI n f:=by
 induction n with
 | zero=>exact Pz hn (Nat.lt_irrefl 0)
 | succ n ih =>
  simp only[fI];have h1:=h n (QL n);rcases Nat.eq_zero_or_pos n with e|e
  subst e; simp only[fI]; omega
  have:=ih (fun i hi=>h i (by omega)) e; omega
def Star.wU{r:SB I2}(h:Star r):0<wU r:=FE (fun i _=>h.left i) (by have:=h.n3; omega)
def On(D:SB Nat)(i:Nat):Nat:=if i+1<D.length then D.getD (i+1) 0 else D.getD 0 0+12
def OC(D:SB Nat):Bool:=decide (2<D.length) &&(List.range D.length).all fun i=>decide (D.getD i 0<On D i)&&decide (On D i<=D.getD i 0+3)
def IH(b1 b2 b4 b5 b7 b8 b10 b11:Bool):SB Nat:=(List.range 12).filter fun i=>[true,b1,b2,true,b4,b5,true,b7,b8,true,b10,b11].getD i false
def IZ:∀b1 b2 b4 b5 b7 b8 b10 b11:Bool,OC (IH b1 b2 b4 b5 b7 b8 b10 b11)=true:=by decide +kernel
def G8{p:Nat->Bool}(h0:p 0=true)(h3:p 3=true)(h6:p 6=true)(h9:p 9=true):(List.range 12).filter p=IH (p 1) (p 2) (p 4) (p 5) (p 7) (p 8) (p 10) (p 11):=by
 unfold IH;refine List.filter_congr fun i hi=>?_;have:=QG.1 hi
 match i,this with
 | 0,_=>exact h0
 | 1,_=>rfl
 | 2,_=>rfl
 | 3,_=>exact h3
 | 4,_=>rfl
 | 5,_=>rfl
 | 6,_=>exact h6
 | 7,_=>rfl
 | 8,_=>rfl
 | 9,_=>exact h9
 | 10,_=>rfl
 | 11,_=>rfl
def GI{p:Nat->Bool}(h0:p 0=true)(h3:p 3=true)(h6:p 6=true)(h9:p 9=true){m:Nat->Int}(hm:∀i,0<m i):Star (((List.range 12).filter p).map fun i=>zV (m i) (wy i)):=by
 rw[G8 h0 h3 h6 h9];have ck:=IZ (p 1) (p 2) (p 4) (p 5) (p 7) (p 8) (p 10) (p 11);generalize IH (p 1) (p 2) (p 4) (p 5) (p 7) (p 8) (p 10) (p 11)=D at *;unfold OC at ck;simp only[Pe,Pv,Pr,QG] at ck;obtain⟨hn,hc⟩:=ck;have hn0:0<D.length:=by omega
 refine⟨by rw[Pk]; exact hn,fun i=>D.getD (i%D.length) 0+12*(i/D.length),fun i=>?_,fun i=>?_,fun i=>?_⟩
 have hi:=P9 i hn0;have h:=hc _ hi;have hd:=Q6 i D.length;unfold On at h
 by_cases g:i%D.length+1<D.length
 have e1:(i+1)%D.length=i%D.length+1:=by
  rw[Nat.add_mod,PJ (show 1<D.length by omega),PJ g]
 have e2:(i+1)/D.length=i/D.length:=by
  have h5:=Q6 (i+1) D.length;rw[e1] at h5;have:D.length*((i+1)/D.length)=D.length*(i/D.length):=by omega
  exact Nat.eq_of_mul_eq_mul_left hn0 this
 rw[Ph g] at h;simp only[e1,e2]; omega
 have hl:i%D.length+1=D.length:=by omega
 have e0:i+1=D.length*(i/D.length+1):=by rw[Rm,Nat.mul_one]; omega
 have e1:(i+1)%D.length=0:=by rw[e0,Nat.mul_mod_right]
 have e2:(i+1)/D.length=i/D.length+1:=by rw[e0,Nat.mul_div_cancel_left _ hn0]
 rw[Pb g] at h;simp only[e1,e2]; omega
 rw[Pk];simp only[Nat.add_mod_right,Nat.add_div_right _ hn0]; omega
 have hi:=P9 i hn0;refine⟨m (D.getD (i%D.length) 0),hm _,?_⟩;have hg:D.getD (i%D.length) 0=D[i%D.length]:=by rw[Pq,Pl hi]; rfl
 show nx (D.map fun i=>zV (m i) (wy i)) i=zV (m (D.getD (i%D.length) 0)) (wy (D.getD (i%D.length) 0+12*(i/D.length)))
 rw[hg];unfold nx;rw[Pk,Pq,PY,Pl hi]
 show zV (m D[i%D.length]) (wy D[i%D.length])=zV (m D[i%D.length]) (wy (D[i%D.length]+12*(i/D.length)))
 congr 1
 unfold wy;rw[Nat.add_mul_mod_self_left]
def qb:SB I2->SB (I2×I2)
 | a::b::l=>(a,b)::qb (b::l)
 | _=>[]
def BD:SB I2->Prop
 | a::b::l=>a≠b/\(∀c l',l=c::l'->¬(ti a b c=0/\di a b c<0))/\(∀e∈qb l,NM a b e.1 e.2)/\BD (b::l)
 | _=>True
def Ad:∀(L:SB I2) (i:Nat),i+1<L.length->(L.getD i (0,0),L.getD (i+1) (0,0))∈qb L
 | [],_,h=>Pz h (by simp)
 | [_],_,h=>Pz h (by simp)
 | a::b::l,0,_=>by simp[qb]
 | a::b::l,i+1,h=>by
  have:=Ad (b::l) i (by simpa using h)
  simp only[qb,Pp,Q9] at *;exact .inr this
def BD.still:∀{L:SB I2},BD L->∀i,i+1<L.length->L.getD i (0,0)≠L.getD (i+1) (0,0)
 | [],_,_,h=>Pz h (by simp)
 | [_],_,_,h=>Pz h (by simp)
 | _::_::_,ho,0,_=>ho.1
 | _::b::l,ho,i+1,h=>by simpa only[Q9] using BD.still (L:=b::l) ho.2.2.2 i (by simpa using h)
def BD.td:∀{L:SB I2},BD L->∀i,i+2<L.length->¬(ti (L.getD i (0,0)) (L.getD (i+1) (0,0)) (L.getD (i+2) (0,0))=0/\di (L.getD i (0,0)) (L.getD (i+1) (0,0)) (L.getD (i+2) (0,0))<0)
 | [],_,_,h=>Pz h (by simp)
 | [_],_,_,h=>Pz h (by simp)
 | [_,_],_,_,h=>Pz h (by simp)
 | _::_::c::l,ho,0,_=>ho.2.1 c l rfl
 | _::b::c::l,ho,i+1,h=>by simpa only[Q9] using BD.td (L:=b::c::l) ho.2.2.2 i (by simpa using h)
def BD.meet:∀{L:SB I2},BD L->∀j i,j+1<i->i+1<L.length->NM (L.getD j (0,0)) (L.getD (j+1) (0,0)) (L.getD i (0,0)) (L.getD (i+1) (0,0))
 | [],_,_,_,_,h=>Pz h (by simp)
 | [_],_,_,_,_,h=>Pz h (by simp)
 | _::_::l,ho,0,i+2,_,h=>by
  exact ho.2.2.1 _ (Ad l i (by simp at h; omega))
 | _::b::l,ho,j+1,i+1,hj,h=>by simpa only[Q9] using BD.meet (L:=b::l) ho.2.2.2 j i (by omega) (by simpa using h)
def NG{a b:I2}{l:SB I2}{z:I2}(hab:a≠b)(hl:l≠[])(hz:l.getLast? = some z)(s1:∀c l',l=c::l'->¬(ti a b c=0/\di a b c<0))(s2:¬(ti z a b=0/\di z a b<0))(hm:∀e∈qb l,NM a b e.1 e.2)(ho:BD (b::l++[a])):VR (a::b::l):=by
 have hlen:0<l.length:=QS.2 hl;have hn:(a::b::l).length=l.length+2:=by simp
 have hC:∀i,i<l.length+2->nx (a::b::l) (i+1)=(b::l++[a]).getD i (0,0):=fun i hi=>by
  unfold nx;rw[hn];rcases PW (i+1) (l.length+2) with g|g
  rw[PJ g,Q9,Qb,<-Qb];rw[Pq,Pq,PR (by simp; omega)]
  have:i=l.length+1:=by omega
  subst this;rw[show l.length+1+1=l.length+2 by omega,Nat.mod_self,Pq,Pq,PA (by simp)]
  simp
 have hL:(b::l++[a]).length=l.length+2:=by simp
 have h0:nx (a::b::l) 0=a:=by unfold nx; simp
 have red:∀i,∃k,k<l.length+2/\∀t,nx (a::b::l) (i+t)=nx (a::b::l) (k+t):=fun i =>
  ⟨i%(l.length+2),P9 _ (by omega),fun t=>oP _ (by rw[hn,Nat.mod_add_mod])⟩
 have hb:nx (a::b::l) 1=b:=by rw[hC 0 (by omega)]; rfl
 have hlast:nx (a::b::l) (l.length+1)=z:=by
  rw[hC l.length (by omega),Pq,PR (by simp)]
  have:(b::l)[l.length]? = l.getLast?:=by
   rw[List.getLast?_eq_getElem?,show l.length=(l.length-1)+1 by omega,PT]
   simp
  rw[this,hz]; rfl
 refine⟨by rw[hn]; omega,fun i=>?_,fun i=>?_,fun j i h1 h2 h3=>?_⟩
 obtain⟨k,hk,e⟩:=red i;rw[show nx (a::b::l) i=nx (a::b::l) (i+0) from rfl,e 0,e 1,Qh]
 rcases Nat.eq_zero_or_pos k with g|g
 subst g; rw[h0,hb]; exact hab
 obtain⟨k,rfl⟩:∃k',k=k'+1:=⟨k-1,by omega⟩
 rw[hC k (by omega),hC (k+1) (by omega)]
 exact ho.still k (by rw[hL]; omega)
 ·obtain⟨k,hk,e⟩:=red i;rw[show nx (a::b::l) i=nx (a::b::l) (i+0) from rfl,e 0,e 1,e 2,Qh]
  rcases Nat.eq_zero_or_pos k with g|g
  ·subst g;rw[h0,hb,show 0+2=1+1 from rfl,hC 1 (by omega)]
   match l,hl with
   | c::l',_=>exact s1 c l' rfl
  obtain⟨k,rfl⟩:∃k',k=k'+1:=⟨k-1,by omega⟩
  rw[hC k (by omega),hC (k+1) (by omega)]
  rcases PW (k+2) (l.length+2) with g2|g2
  rw[show k+1+2=(k+2)+1 by omega,hC (k+2) g2]
  exact ho.td k (by rw[hL]; omega)
  have:k=l.length:=by omega
  subst this;have e1:nx (a::b::l) (l.length+1+2)=b:=by
   refine(oP _ ?_).trans hb;rw[hn,show l.length+1+2=1+(l.length+2) by omega,Nat.add_mod_right]
  rw[e1,<-hC l.length (by omega),<-hC (l.length+1) (by omega),hlast]
  have e2:nx (a::b::l) (l.length+1+1)=a:=by
   refine(oP _ ?_).trans h0;rw[hn,show l.length+1+1=l.length+2 by omega,Nat.mod_self,Nat.zero_mod]
  rw[e2]; exact s2
 rw[hn] at h2 h3;obtain⟨i,rfl⟩:∃i',i=i'+1:=⟨i-1,by omega⟩
 rw[hC i (by omega),hC (i+1) (by omega)]
 rcases Nat.eq_zero_or_pos j with g|g
 subst g;rw[h0,hb];obtain⟨i,rfl⟩:∃i',i=i'+1:=⟨i-1,by omega⟩
 have hi:i+1<l.length:=by omega
 have e:∀k,k<l.length->(b::l++[a]).getD (k+1) (0,0)=l.getD k (0,0):=fun k hk=>by
  rw[Qb,Q9,Pq,Pq,PR hk]
 rw[e i (by omega),e (i+1) hi]
 exact hm _ (Ad l i hi)
 obtain⟨j,rfl⟩:∃j',j=j'+1:=⟨j-1,by omega⟩
 rw[hC j (by omega),hC (j+1) (by omega)]
 exact ho.meet j i (by omega) (by rw[hL]; omega)
def A5(F:I2->I2->Int):∀L:SB I2,((qb L).map fun e=>F e.1 e.2).sum=fI (L.length-1) fun i=>F (L.getD i (0,0)) (L.getD (i+1) (0,0))
 | []=>rfl
 | [_]=>rfl
 | a::b::l=>by
  simp only[qb,PS,List.sum_cons];rw[A5 F (b::l)];have:(a::b::l).length-1=(b::l).length-1+1:=by simp
  rw[this,B3]
  rfl
def IM(a b:I2)(l:SB I2):wU (a::b::l)=p6 a b+((qb (b::l++[a])).map fun e=>p6 e.1 e.2).sum:=by
 have h:=A5 p6 (a::(b::l++[a]));simp only[Qb,qb,PS,List.sum_cons] at h;rw[Qb,h];unfold wU;have hn:(a::b::l).length=l.length+2:=by simp
 rw[hn,show(a::b::(l++[a])).length-1=l.length+2 by simp]
 refine jq fun i hi=>?_;have hC:∀i,i<l.length+3->nx (a::b::l) i=(a::b::(l++[a])).getD i (0,0):=fun i hi=>by
  unfold nx;rw[hn];rcases PW i (l.length+2) with g|g
  rw[PJ g,show a::b::(l++[a])=(a::b::l)++[a] by simp,Pq,Pq,PR (by simp; omega)]
  have:i=l.length+2:=by omega
  subst this;rw[Nat.mod_self,show a::b::(l++[a])=(a::b::l)++[a] by simp,Pq,Pq,PA (by simp)]
  simp
 rw[hC i (by omega),hC (i+1) (by omega)]
 rfl
def gW(h:Nat->Int):Nat->Int->SB I2
 | 0,_=>[]
 | k+1,p=>(if h k=p then[] else[(((k+1:Nat):Int),h k)])++((k:Int),h k)::gW h k (h k)
def down(h:Nat->Int)(k:Nat)(p:Int):SB I2:=gW h k p++[(0,0)]
def nR(h:Nat->Int)(p:Int):down h 0 p=[(0,0)]:=rfl
def nL{h:Nat->Int}{k:Nat}{p:Int}(e:h k=p):down h (k+1) p=((k:Int),h k)::down h k (h k):=by
 unfold down; simp only[gW]; rw[Ph e]; rfl
def nW{h:Nat->Int}{k:Nat}{p:Int}(e:h k≠p):down h (k+1) p=(((k+1:Nat):Int),h k)::((k:Int),h k)::down h k (h k):=by
 unfold down; simp only[gW]; rw[Pb e]; rfl
section
variable{h:Nat->Int}(hp:∀ i, 1 <= h i)
include hp
theorem mJ:∀(k:Nat) (p:Int),∀x∈gW h k p,0<=x.1/\x.1<=k/\1<=x.2
 | 0,_,_,hx=>Pz hx (by simp[gW])
 | k+1,p,x,hx=>by
  simp only[gW,PX,Pp] at hx;rcases hx with hx|hx|hx
  split at hx
  simp at hx
  rw[PM] at hx; subst hx;have:=hp k;exact⟨by dsimp only; omega,by dsimp only; omega,this⟩
  subst hx;have:=hp k;exact⟨by dsimp only; omega,by dsimp only; omega,this⟩
  have:=mJ k (h k) x hx;omega
theorem uF(k:Nat)(p:Int):∀x∈down h k p,0<=x.1/\x.1<=k/\0<=x.2:=fun x hx=>by
 unfold down at hx;rcases PX.1 hx with hx|hx
 have:=mJ hp k p x hx; omega
 rw[PM] at hx; subst hx; exact⟨by decide,by dsimp only; omega,by decide⟩
omit hp in
theorem vY{L:SB I2}:∀{e:I2×I2},e∈qb L->e.1∈L/\e.2∈L:=by
 induction L with
 | nil=>intro e he; simp[qb] at he
 | cons a L ih =>
  intro e he
  match L with
  | []=>simp[qb] at he
  | b::l =>
   simp only[qb,Pp] at he;rcases he with rfl|he
   simp
   have:=ih (by simpa only[qb] using he)
   exact⟨P0 _ this.1,P0 _ this.2⟩
omit hp in
theorem yh{a b c d:I2}{k:Int}(ha:k<a.1)(hb:k<b.1)(hc:c.1<=k)(hd:d.1<=k):NM a b c d :=
 ry (α:=2) (β:=0) (γ:=-(2*k+1)) (by unfold fK; omega) (by unfold fK; omega) (by unfold fK; omega) (by unfold fK; omega)
omit hp in
theorem EC{a b c d:I2}{y z:Int}(ha:a.2=y)(hb:b.2=y)(hc:c.2=z)(hd:d.2=z)(hyz:y≠z):NM a b c d:=by
 rcases Int.lt_or_gt_of_ne hyz with g|g
 exact ry (α:=0) (β:=-2) (γ:=y+z) (by unfold fK; omega) (by unfold fK; omega) (by unfold fK; omega) (by unfold fK; omega)
 exact ry (α:=0) (β:=2) (γ:=-(y+z)) (by unfold fK; omega) (by unfold fK; omega) (by unfold fK; omega) (by unfold fK; omega)
theorem GV(k:Nat):∀e∈qb (down h k (h k)),NM (((k+1:Nat):Int),h k) ((k:Int),h k) e.1 e.2:=fun e he=>by
 match k with
 | 0=>rw[nR] at he; simp[qb] at he
 | k+1 =>
  have inner:∀e∈qb (((k:Int),h k)::down h k (h k)),NM (((k+1+1:Nat):Int),h (k+1)) (((k+1:Nat):Int),h (k+1)) e.1 e.2:=fun e he=>by
   obtain⟨m1,m2⟩:=vY he;have q:∀x ∈((k:Int),h k)::down h k (h k),x.1<=(k:Int):=fun x hx=>by
    rcases Pp.1 hx with rfl|hx
    exact Int.le_refl _
    exact(uF hp k _ x hx).2.1
   exact yh (k:=(k:Int)) (by dsimp only; omega) (by dsimp only; omega) (q _ m1) (q _ m2)
  by_cases g:h k=h (k+1)
  rw[nL g] at he; exact inner e he
  rw[nW g] at he;simp only[qb,Pp] at he;rcases he with rfl|he
  exact EC rfl rfl rfl rfl (Ne.symm g)
  exact inner e he
theorem Ei(k:Nat)(ho:BD (((k:Int),h k)::down h k (h k))):BD ((((k+1:Nat):Int),h k)::((k:Int),h k)::down h k (h k)):=by
 refine⟨fun e=>by have:=Ps Prod.fst e; dsimp only at this; omega,fun c l' e=>?_,GV hp k,ho⟩
 rintro⟨g1,g2⟩;have hc:=uF hp k (h k) c (by rw[e]; exact P5)
 unfold di at g2
 dsimp only at g2
 rw[Int.sub_self,Int.zero_mul,Int.add_zero,show(k:Int)-((k+1:Nat):Int) = -1 by omega] at g2
 omega
theorem ye:∀(k:Nat) (p:Int),(k=0->p≠0)->BD (((k:Int),p)::down h k p)
 | 0,p,h0=>by
  rw[nR];exact⟨fun e=>h0 rfl (Ps Prod.snd e),fun c l' e=>by simp at e,fun e he=>by simp[qb] at he,trivial⟩
 | k+1,p,_=>by
  have ih:=ye k (h k) (fun _=>by have:=hp k; omega)
  have fl:=Ei hp k ih
  by_cases g:h k=p
  rw[nL g,<-g]; exact fl
  rw[nW g];refine⟨fun e=>g (Ps Prod.snd e).symm,fun c l' e=>?_,fun e he=>?_,fl⟩
  have:c=((k:Int),h k):=(List.cons.inj e).1.symm;subst this;rintro⟨g1,_⟩;unfold ti at g1
  dsimp only at g1
  rw[Int.sub_self,Int.zero_mul,Int.zero_sub,show(k:Int)-((k+1:Nat):Int) = -1 by omega,Int.mul_neg,Int.mul_one] at g1
  omega
  obtain⟨m1,m2⟩:=vY he;have q:∀x ∈((k:Int),h k)::down h k (h k),x.1<=(k:Int):=fun x hx=>by
   rcases Pp.1 hx with rfl|hx
   exact Int.le_refl _
   exact(uF hp k _ x hx).2.1
  exact yh (k:=(k:Int)) (by dsimp only; omega) (by dsimp only; omega) (q _ m1) (q _ m2)
def zB(h:Nat->Int)(c:Nat):SB I2:=(0,0)::((c:Int),0)::gW h c 0
omit hp in
theorem tR:∀(k:Nat) (p:Int),0<k->(gW h k p).getLast? = some (0,h 0)
 | 0,_,hk=>Pz hk (Nat.lt_irrefl 0)
 | k+1,p,_=>by
  simp only[gW];rw[List.getLast?_append,List.getLast?_cons]
  match k with
  | 0=>simp[gW]
  | k+1=>rw[tR (k+1) _ (Nat.succ_pos k)]; simp
theorem JR{c:Nat}(hc:0<c):VR (zB h c):=by
 obtain⟨k,rfl⟩:∃k,c=k+1:=⟨c-1,by omega⟩
 have hk:=hp k;have h0:=hp 0;have first:gW h (k+1) 0=(((k+1:Nat):Int),h k)::((k:Int),h k)::gW h k (h k):=by
  simp only[gW]; rw[RE]; rfl
 refine NG (z:=(0,h 0)) (fun e=>by have:=Ps Prod.fst e; dsimp only at this; omega) (by rw[first]; simp) (tR (k+1) 0 (Nat.succ_pos k)) (fun c l' e=>?_) ?_ (fun e he=>?_) (ye hp (k+1) 0 (fun e=>Pz e (by simp)))
 rw[first] at e
 have:c=(((k+1:Nat):Int),h k):=(List.cons.inj e).1.symm;subst this;rintro⟨g,_⟩;unfold ti at g
 dsimp only at g
 rw[Int.sub_zero,Int.sub_zero,Int.sub_self,Int.zero_mul,Int.sub_zero] at g;rcases Qu.1 g with e|e<;>omega
 rintro⟨g,_⟩;unfold ti at g
 dsimp only at g
 rw[Int.sub_self,Int.zero_mul,Int.zero_sub,Int.zero_sub,Int.sub_zero] at g;have:h 0*((k+1:Nat):Int)=0:=by rw[Int.neg_mul] at g; omega
 rcases Qu.1 this with e|e<;>omega
 obtain⟨m1,m2⟩:=vY he;have q1:=mJ hp _ _ _ m1;have q2:=mJ hp _ _ _ m2;exact ry (α:=0) (β:=-2) (γ:=1) (by unfold fK; omega) (by unfold fK; omega) (by unfold fK; omega) (by unfold fK; omega)
omit hp in
def vf(h:Nat->Int):Nat->Int
 | 0=>0
 | k+1=>vf h k+2*h k
omit hp in
theorem tt:∀(k:Nat) (p:Int),((qb (((k:Int),p)::down h k p)).map fun e=>p6 e.1 e.2).sum=vf h k-k*p
 | 0,p=>by
  rw[nR];simp[qb,p6,vf]
 | k+1,p=>by
  have ih:=tt k (h k);have e1:p6 (((k+1:Nat):Int),h k) ((k:Int),h k)=h k:=by unfold p6; dsimp only; rw[Int.mul_comm (h k),<-Int.sub_mul,show((k+1:Nat):Int)-(k:Int)=1 by omega,Int.one_mul]
  by_cases g:h k=p
  rw[nL g,<-g];simp only[qb,PS,List.sum_cons];rw[ih,e1];simp only[vf];rw[show((k+1:Nat):Int)=(k:Int)+1 by omega,Int.add_mul]
  omega
  rw[nW g];simp only[qb,PS,List.sum_cons];rw[ih,e1];have e2:p6 (((k+1:Nat):Int),p) (((k+1:Nat):Int),h k)=(k:Int)*h k+h k-(k:Int)*p-p:=by
   unfold p6; dsimp only; rw[show((k+1:Nat):Int)=(k:Int)+1 by omega]; grind
  rw[e2];simp only[vf];rw[show((k+1:Nat):Int)=(k:Int)+1 by omega,Int.add_mul]
  omega
theorem H6{c:Nat}(hc:0<c):0<wU (zB h c):=by
 have e:wU (zB h c)=vf h c:=by
  unfold zB;rw[IM];have:=tt (h:=h) c 0;unfold down at this;rw[Qb,this];unfold p6; dsimp only; omega
 rw[e];have:∀k,0<=vf h k:=fun k=>by
  induction k with
  | zero=>exact Int.le_refl 0
  | succ k ih=>simp only[vf]; have:=hp k; omega
 obtain⟨k,rfl⟩:∃k,c=k+1:=⟨c-1,by omega⟩
 have h1:=this k;have h2:=hp k;simp only[vf]; omega
end
end Jd
namespace Go.Proofs.YthmekkhpddehjaaGreat
open Go Go.Ab Go.Ab.W Go.Ab.B Jd
structure Ok(l:SB I2):Prop where
 len:l.length<=40
 nr:∀i,Nr (nx l i)
 vr:VR l
def iX{ρ:Type}{f:Nat->SA ρ}{e:ρ}{k i:Nat}(h:∀j,i<=j->j<i+k->f j=none):dA f e k i=e:=by
 rcases ic (f:=f) (e:=e) k i with⟨_,h2⟩|⟨j,h1,h2,h3⟩
 exact h2
 rw[h j h1 h2] at h3; cases h3
def EE{i L:Nat}(hL:0<L):((i+1)%L+L-1)%L=i%L:=by
 have h:=Q6 (i+1) L;have:((i+1)%L+L-1)+L*((i+1)/L)=i+L:=by omega
 rw[<-Nat.add_mul_mod_self_left ((i+1)%L+L-1) L ((i+1)/L),this,Nat.add_mod_right]
def Ok.yM{l:SB I2}(h:Ok l):yM l:=by
 have hn:=h.vr.n3;have hl:=h.len;unfold Go.Proofs.YthmekkhpddehjaaGreat.yM mZ;rw[RE,iX (f:=lj l) fun j _ _=>by unfold lj; rw[Pb (Jb.2 (h.nr j))]]
 dsimp only
 rw[iX (f:=fT l) fun j _ _=>by unfold fT; rw[Pb (h.vr.still j)]]
 dsimp only
 rw[iX (f:=gF l) fun j _ hj=>by
  unfold gF;have:=h.vr.td (j+l.length-1);rw[show j+l.length-1+1=j+l.length by omega,show j+l.length-1+2=(j+1)+l.length by omega,oP l (Nat.add_mod_right j l.length),oP l (Nat.add_mod_right (j+1) l.length)] at this
  rw[Pb this]]
 dsimp only
 rw[iX (f:=gH l) fun j _ hj=>by
  unfold gH;rw[Pb];rintro⟨t,ht,h1,h2⟩;exact h2 (wa.2 (h.vr.meet t j ht (by omega) fun e=>h1 ⟨e.1,by omega⟩))]
 exact Int.le_refl 0
def yM.ok{l:SB I2}(h:yM l):Ok l:=by
 unfold Go.Proofs.YthmekkhpddehjaaGreat.yM mZ at h
 split at h
 exact Pz (show(1:Int)<=0 from h) (by decide)
 ·rename_i hl;cases h1:dA (lj l) (.inr ()) l.length 0 with
  | inl v=>rw[h1] at h; exact Pz (show(2:Int)<=0 from h) (by decide)
  | inr _ =>
   rw[h1] at h
   dsimp only at h
   cases h2:dA (fT l) (.inr ()) l.length 0 with
   | inl v=>rw[h2] at h; exact Pz (show(3:Int)<=0 from h) (by decide)
   | inr _ =>
    rw[h2] at h
    dsimp only at h
    cases h3:dA (gF l) (.inr ()) l.length 0 with
    | inl v=>rw[h3] at h; exact Pz (show(4:Int)<=0 from h) (by decide)
    | inr _ =>
     rw[h3] at h
     dsimp only at h
     cases h4:dA (gH l) (.inr ()) l.length 0 with
     | inl v=>rw[h4] at h; exact Pz (show(5:Int)<=0 from h) (by decide)
     | inr _ =>
      have hL:0<l.length:=by omega
      refine⟨by omega,yP hL h1,by omega,Ae hL h2,fun i=>?_,fun j i hji hi hn=>?_⟩
      have:=mQ (fun j r hr=>by unfold gF at hr; split at hr<;>cases hr; simp) h3 ((i+1)%l.length) (P9 _ hL)
      unfold gF at this
      split at this
      cases this
      rename_i g;rw[oP l (EE hL),rQ,pA] at g;exact g
      have:=mQ (fun j r hr=>by unfold gH at hr; split at hr<;>cases hr; simp) h4 i hi
      unfold gH at this
      split at this
      cases this
      rename_i g;refine wa.1 (Pw fun e=>g ⟨j,hji,fun k=>hn ⟨k.1,by omega⟩,e⟩)
def AP{l:SB I2}:yM l↔Ok l:=⟨yM.ok,Ok.yM⟩
def num(l:SB Nat)(i:Nat):Nat:=if l.length=0 then i%3 else l.getD (i%l.length) 0
def JT{l:SB Nat}(hb:∀x∈l,x<256)(i:Nat):num l i<256:=by
 unfold num
 split
 omega
 rename_i h;have hm:i%l.length<l.length:=P9 _ (by omega)
 rw[Pq,Pl hm];exact hb _ (Qk hm)
section
variable(n:Nat){l:SB Nat}(hb:∀ x∈l, x < 256)(x5 x6:Int)(x7:Nat)(x8 x9:Bool)
include hb
theorem zi(i:Nat):Ko n l x5 x6 x7 x8 x9 (i:Int)=some ((num l i:Nat):Int):=by
 have hlt:=JT hb i;unfold Ko;unfold num at hlt ⊢
 by_cases h:l.length=0
 rw[aH (by omega),Ph h]; rfl
 have hm:i%l.length<l.length:=P9 _ (by omega)
 rw[Pb h] at hlt ⊢;rw[aD (by omega),Po (show((l.length:Nat):Int)≠0 by omega),aN,ke,aJ hm,aN,Pg]
 rw[Pq,Pl hm] at hlt ⊢;have hlt':l[i%l.length]<256:=hlt;rw[ak,aq (by omega) (by omega)]; rfl
def kp(l:SB Nat)(i:Nat):Bool:=!(decide (num l i%6=0) && !decide (i%3=0))
def cm(l:SB Nat)(i:Nat):Int:=((1+num l i%6%5:Nat):Int)
def NL:SB I2:=[(2,0),(2,1),(1,2),(0,2),(-1,2),(-2,1),(-2,0),(-2,-1),(-1,-2),(0,-2),(1,-2),(2,-1)]
omit hb in
theorem zy(i:Nat):1<=cm l i/\cm l i<=5:=by unfold cm; omega
omit hb in
theorem KY:∀i<12,NL[i]? = some ((wy i).1,(wy i).2):=by decide
omit hb in
theorem Nn:∀i<12,-2<=(wy i).1/\(wy i).1<=2/\-2<=(wy i).2/\(wy i).2<=2:=by decide
omit hb in
theorem sW{x y:Int}(hx : -2<=x/\x<=2)(hy:1<=y/\y<=5):RC (x*y)=x*y:=by
 have:=eE (B:=2) (C:=5) (u:=x) (v:=y) (by decide) (by omega) (by omega) (by omega) (by omega)
 exact aq (by omega) (by omega)
theorem Fy{i:Nat}(hi:i<12)(acc:SB I2)(ha:acc.length<=12):tU n l x5 x6 x7 x8 x9 (acc,NL,(i:Int))=some (.inl (if kp l i then acc++[zV (cm l i) (wy i)] else acc,NL,((i+1:Nat):Int))):=by
 have hw:=Nn i hi;have hc:=zy (l:=l) i;have e1:Int.tmod ((num l i:Nat):Int) 6=((num l i%6:Nat):Int):=rfl;have e2:Int.tmod (i:Int) 3=((i%3:Nat):Int):=rfl;have e3:Int.tmod ((num l i%6:Nat):Int) 5=((num l i%6%5:Nat):Int):=rfl;have e4:RC (1+((num l i%6%5:Nat):Int))=cm l i:=by
  unfold cm; rw[aq (by omega) (by omega)]; omega
 unfold tU
 dsimp only
 rw[aH (by omega),zi n hb,ak,e1,e2,e3,e4,aJ hi,aN,Pg,KY i hi,ak]
 dsimp only
 rw[sW ⟨hw.1,hw.2.1⟩ hc,sW ⟨hw.2.2.1,hw.2.2.2⟩ hc,ak,aN,ak,aV (by omega),fU,ak]
 have hk:(decide (((num l i%6:Nat):Int)=0) && !decide (((i%3:Nat):Int)=0)) = !kp l i:=by
  unfold kp;rw[Bool.not_not]
  congr 1
  rw[decide_eq_decide]; omega
  congr 1; rw[decide_eq_decide]; omega
 rw[hk];cases kp l i with
 | true =>
  rw[PE,cy,show lim (acc++[((wy i).1*cm l i,(wy i).2*cm l i)]).length=true from PG (by rw[Pm]; simp; omega),aN,ak]; rfl
 | false=>rw[PQ,fG,ak]; rfl
theorem qQ:∀(k i m:Nat) (acc:SB I2),i+k=12->acc.length<=i->k<m->bR (tU n l x5 x6 x7 x8 x9) m (acc,NL,(i:Int))=some (acc++((List.range' i k).filter (kp l)).map fun i=>zV (cm l i) (wy i))
 | 0,i,m+1,acc,h,_,_=>by
  rw[aX (r:=acc)]
  simp
  unfold tU
  dsimp only
  rw[aD (by omega)]
 | k+1,i,m+1,acc,h,ha,hm=>by
  rw[aO (Fy n hb x5 x6 x7 x8 x9 (show i<12 by omega) acc (by omega)),qQ k (i+1) m _ (by omega) (by split<;>(try rw[Pm,Qi])<;>omega) (by omega),List.range'_succ,List.filter_cons]
  congr 1
  split<;>simp
def hh(l:SB Nat)(i:Nat):Int:=((1+num l (i+1)%5:Nat):Int)
omit hb in
theorem yU(i:Nat):1<=hh l i:=by unfold hh; omega
omit hb in
theorem Nw(i:Nat):hh l i<=5:=by unfold hh; omega
omit hb in
theorem GR(k:Nat):RC (1+Int.tmod ((num l (k+1):Nat):Int) 5)=hh l k:=by
 have e3:Int.tmod ((num l (k+1):Nat):Int) 5=((num l (k+1)%5:Nat):Int):=rfl;rw[e3]; unfold hh; rw[aq (by omega) (by omega)]; omega
omit hb in
theorem Ih(A:SB I2)(x:I2)(hA:A.length<1000){β:Type}(K:Int×Int->SA β):gd (bO (RC (((A++[x]).length:Int)-1)) (A++[x]).length) (ob ((A++[x])[(RC (((A++[x]).length:Int)-1)).toNat]?) K)=K x:=by
 have e:RC (((A++[x]).length:Int)-1)=(A.length:Int):=by rw[Pm]; simp only[PD,QU]; rw[aq (by omega) (by omega)]; omega
 rw[e,aJ (by simp),aN,Pg,PA (Pd _),QP]
 exact ak x K
omit hb in
theorem qG(A:SB I2)(x:I2)(hA:A.length<1000)(k:Nat)(u:Int)(hu:(k:Int)<=u)(hu':u<100000) :
  rq n (k:Int) ((num l (k+1):Nat):Int) (A++[x],(A++[x]).length,u)=some (.inl ((A++[x])++(if x=(u,hh l k) then[] else[(u,hh l k)]),((A++[x])++(if x=(u,hh l k) then[] else[(u,hh l k)])).length,u-1)):=by
 unfold rq
 dsimp only
 rw[aH hu,GR,Ih A x hA]
 try dsimp only
 have hd:(decide (x.1=u)&&decide (x.2=hh l k))=decide (x=(u,hh l k)):=nw x (u,hh l k);have hw:RC (u-1)=u-1:=aq (by omega) (by omega)
 rw[hd,hw]
 by_cases h:x=(u,hh l k)
 rw[Po h,PE,cy,ak,Ph h,PU]
 rw[PL h,PQ,fG,show lim ((A++[x])++[(u,hh l k)]).length=true from PG (by simp; omega),aN,ak,Pb h]
omit hb in
theorem zF(A:SB I2)(hA:A.length<900)(k:Nat)(hk:k<10000)(p:Int){m:Nat}(hm:3<=m) :
  ∃B,bR (rq n (k:Int) ((num l (k+1):Nat):Int)) m (A++[(((k+1:Nat):Int),p)],(A++[(((k+1:Nat):Int),p)]).length,((k+1:Nat):Int))=some (B++[((k:Int),hh l k)],(B++[((k:Int),hh l k)]).length) /\
   B++[((k:Int),hh l k)]=A++[(((k+1:Nat):Int),p)]++((if hh l k=p then[] else[(((k+1:Nat):Int),hh l k)])++[((k:Int),hh l k)])/\B.length<=A.length+2:=by
 obtain⟨m,rfl⟩:∃q,m=q+3:=⟨m-3,by omega⟩
 have s1:=qG (l:=l) n A (((k+1:Nat):Int),p) (by omega) k ((k+1:Nat):Int) (by omega) (by omega)
 have sE:∀B:SB I2,rq n (k:Int) ((num l (k+1):Nat):Int) (B,B.length,(k:Int)-1)=some (.inr (B,B.length)):=fun B=>by
  unfold rq
  dsimp only
  rw[aD (by omega)]
 have e1:((k+1:Nat):Int)-1=(k:Int):=by omega
 by_cases h:p=hh l k
 subst h;rw[Ph rfl,PU,e1] at s1;have s2:=qG (l:=l) n A (((k+1:Nat):Int),hh l k) (by omega) k (k:Int) (by omega) (by omega)
 rw[Pb (fun e=>by have:=Ps Prod.fst e; dsimp only at this; omega)] at s2
 refine⟨A++[(((k+1:Nat):Int),hh l k)],?_,by simp,by simp⟩
 rw[aO s1,aO s2,aX (sE _)]
 rw[Pb (fun e=>h (Ps Prod.snd e)),e1] at s1;have s2:=qG (l:=l) n (A++[(((k+1:Nat):Int),p)]) (((k+1:Nat):Int),hh l k) (by simp; omega) k (k:Int) (by omega) (by omega)
 rw[Pb (fun e=>by have:=Ps Prod.fst e; dsimp only at this; omega)] at s2
 refine⟨A++[(((k+1:Nat):Int),p)]++[(((k+1:Nat):Int),hh l k)],?_,by rw[Pb (fun e=>h e.symm)]; simp,by simp⟩
 rw[aO s1,aO s2,aX (sE _)]
theorem ri(hn:3<=n):∀(k m:Nat) (A:SB I2) (p:Int),A.length+2*k<900->k<m->∃N,bR (xq n l x5 x6 x7 x8 x9) m (A++[((k:Int),p)],(A++[((k:Int),p)]).length,(k:Int)-1)=some (A++[((k:Int),p)]++gW (hh l) k p,N)
 | 0,m+1,A,p,_,_=>by
  refine⟨_,aX (r:=(A++[(((0:Nat):Int),p)]++gW (hh l) 0 p,(A++[(((0:Nat):Int),p)]).length)) ?_⟩;unfold xq
  dsimp only
  rw[aD (by omega)]
  simp[gW]
 | k+1,m+1,A,p,hA,hm=>by
  obtain⟨B,h1,h2,h3⟩:=zF (l:=l) n A (by omega) k (by omega) p hn
  obtain⟨N,ih⟩:=ri hn k m B (hh l k) (by omega) (by omega)
  have e1:((k+1:Nat):Int)-1=(k:Int):=by omega
  refine⟨N,?_⟩;rw[aO (s':=(B++[((k:Int),hh l k)],(B++[((k:Int),hh l k)]).length,(k:Int)-1)),ih,h2]
  simp only[gW,List.append_assoc,Qb,P7]
  unfold xq
  dsimp only
  rw[e1,aH (by omega),aV (by omega),zi n hb,ak,h1,ak]
  dsimp only
  rw[aq (by omega) (by omega)]
def mP(l:SB Nat):Nat:=1+num l 0%6
def ij(l:SB Nat)(row:Bool):SB I2:=if row then zB (hh l) (mP l) else((List.range 12).filter (kp l)).map fun i=>zV (cm l i) (wy i)
theorem JV(hn:12<n):MU n l x5 x6 x7 x8 x9=some (ij l x8):=by
 unfold MU ij;cases x8 with
 | false =>
  rw[PQ,fG];have:=qQ n hb x5 x6 x7 false x9 12 0 n [] (by omega) (by simp) hn
  rw[<-List.range_eq_range'] at this;exact(Ps (fun o=>ob o fun l2=>some l2) this).trans rfl
 | true =>
  have e0:Int.tmod ((num l 0:Nat):Int) 6=((num l 0%6:Nat):Int):=rfl;have e1:RC (1+((num l 0%6:Nat):Int))=(mP l:Int):=by unfold mP; rw[aq (by omega) (by omega)]; omega
  have e2:RC ((mP l:Int)-1)=(mP l:Int)-1:=aq (by unfold mP; omega) (by unfold mP; omega)
  rw[PE,cy,show(0:Int)=((0:Nat):Int) from rfl,zi n hb,ak,e0,e1,e2]
  obtain⟨N,h⟩:=ri n hb x5 x6 x7 true x9 (by omega) (mP l) n [(0,0)] 0 (by simp; unfold mP; omega) (by unfold mP; omega)
  exact(Ps (fun o=>ob o fun x:SB I2×Nat=>match x with |(l3,_)=>some l3) h).trans rfl
end
end Go.Proofs.YthmekkhpddehjaaGreat
namespace Jd
def Lt(a b:I2):Prop:=a.1<b.1\/a.1=b.1/\a.2<b.2
instance(a b:I2):Decidable (Lt a b):=by unfold Lt; infer_instance
def Edge(Q:I2->Prop)(a b:I2):Prop:=Lt a b/\∀q,Q q->0<=ti a b q/\(ti a b q=0->¬Lt q a/\¬Lt b q)
inductive Stk(Q:I2->Prop):SB I2->Prop
 | one {a}:(∀q,Q q->¬Lt q a)->Q a->Stk Q [a]
 | more {a b st}:Edge Q a b->Q b->Stk Q (a::st)->Stk Q (b::a::st)
def Good(S:I2->Prop)(x y:I2):Prop:=x≠y/\S y/\∀q,S q->0<ti x y q\/q=x\/q=y\/(ti x y q=0/\0<di x q y)
inductive Way(S:I2->Prop):SB I2->Prop
 | one (a):Way S [a]
 | more {a b l}:Good S a b->Way S (b::l)->Way S (a::b::l)
structure Hul(S:I2->Prop)(r:SB I2):Prop where
 n3:2<r.length
 good:∀i,Good S (nx r i) (nx r (i+1))
 nodup:∀i j,i<j->j<r.length->nx r i≠nx r j
section
variable{S:I2->Prop}{r:SB I2}
end
def Ex{r:SB I2}(h:r≠[])(i:Nat):nx r i∈r:=by
 have hl:=QS.2 h;have hi:=P9 i hl;unfold nx;rw[Pq,Pl hi];exact Qk hi
end Jd
namespace Go.Proofs.YthmekkhpddehjaaGreat
section
open Go Go.Ab Go.Ab.W Go.Ab.B Jd
def zu(s:Int)(v:I2)(r:SB I2):SB I2:=r.map fun q=>nJ v (pw s q)
def Es(s:Int)(v:I2)(r:SB I2):zu s v r=(r.map (pw s)).map (nJ v):=by
 unfold zu; rw[List.map_map]; rfl
def Bm{h:Nat->Int}(hp:∀i,h i<=5):∀(k:Nat) (p:Int),∀x∈gW h k p,x.2<=5
 | 0,_,_,hx=>Pz hx (by simp[gW])
 | k+1,p,x,hx=>by
  simp only[gW,PX,Pp] at hx;rcases hx with hx|hx|hx
  split at hx
  simp at hx
  rw[PM] at hx; subst hx; exact hp k
  subst hx; exact hp k
  exact Bm hp k (h k) x hx
def wv(h:Nat->Int):∀(k:Nat) (p:Int),(gW h k p).length<=2*k
 | 0,_=>by simp[gW]
 | k+1,p=>by
  have:=wv h k (h k);simp only[gW,Pm,PD]
  split
  simp only[QU]; omega
  simp only[PD,QU]; omega
section
variable{l:SB Nat}
def zn:1<=mP l/\mP l<=6:=by unfold mP; omega
def EB(row:Bool):∀q∈ij l row,-10<=q.1/\q.1<=10/\-10<=q.2/\q.2<=10:=fun q hq=>by
 unfold ij at hq;cases row with
 | true =>
  rw[Ph rfl] at hq;unfold zB at hq;have hc:=zn (l:=l);rcases Pp.1 hq with rfl|hq
  decide
  rcases Pp.1 hq with rfl|hq
  dsimp only; omega
  have h1:=mJ (fun i=>yU (l:=l) i) _ _ _ hq;have h2:=Bm (fun i=>Nw (l:=l) i) _ _ _ hq;omega
 | false =>
  rw[Pb (by decide)] at hq
  obtain⟨i,hi,rfl⟩:=P6.1 hq;have hi:=QG.1 (List.mem_filter.1 hi).1;have hw:=Nn i hi;have hc:=zy (l:=l) i;have m1:=eE (B:=2) (C:=5) (u:=(wy i).1) (v:=cm l i) (by decide) (by omega) (by omega) (by omega) (by omega)
  have m2:=eE (B:=2) (C:=5) (u:=(wy i).2) (v:=cm l i) (by decide) (by omega) (by omega) (by omega) (by omega)
  unfold zV
  dsimp only
  omega
def xH(row:Bool):(ij l row).length<=14:=by
 unfold ij;cases row with
 | true =>
  have hc:=zn (l:=l);have:=wv (hh l) (mP l) 0;rw[Ph rfl]; unfold zB; simp only[PD]; omega
 | false =>
  rw[Pb (by decide),Pk]
  have:=List.length_filter_le (kp l) (List.range 12);rw[List.length_range] at this;omega
def By(row:Bool):VR (ij l row)/\0<wU (ij l row):=by
 unfold ij;cases row with
 | true =>
  have hc:=zn (l:=l);rw[Ph rfl];exact⟨JR (fun i=>yU (l:=l) i) (by omega),H6 (fun i=>yU (l:=l) i) (by omega)⟩
 | false =>
  rw[Pb (by decide)]
  have:=GI (p:=kp l) (by unfold kp; simp) (by unfold kp; simp) (by unfold kp; simp) (by unfold kp; simp) (m:=fun i=>cm l i) fun i=>by have:=zy (l:=l) i; omega
  exact⟨this.vr,this.wU⟩
end
def qV(l:SB Nat)(x5 x6:Int)(x7:Nat)(row turned:Bool):SB I2:=if turned then rv (zu (1+x7) (x5,x6) (ij l row)) else zu (1+x7) (x5,x6) (ij l row)
structure Dr(l:SB Nat)(x5 x6:Int)(x7:Nat):Prop where
 b:∀x∈l,x<256
 x : -32768<=x5/\x5<=32767
 y : -32768<=x6/\x6<=32767
 s:x7<256
def Jm{x:Nat}(hx:x<256){v:I2}(hv : -32768<=v.1/\v.1<=32767/\-32768<=v.2/\v.2<=32767){q:I2}(hq : -10<=q.1/\q.1<=10/\-10<=q.2/\q.2<=10) :
  (-2560<=q.1*(1+(x:Int))/\q.1*(1+(x:Int))<=2560/\-2560<=q.2*(1+(x:Int))/\q.2*(1+(x:Int))<=2560)/\Nr (nJ v (pw (1+(x:Int)) q))/\-40000<=(nJ v (pw (1+(x:Int)) q)).1/\(nJ v (pw (1+(x:Int)) q)).1<=40000/\-40000<=(nJ v (pw (1+(x:Int)) q)).2/\(nJ v (pw (1+(x:Int)) q)).2<=40000:=by
 have m1:=eE (B:=10) (C:=256) (u:=q.1) (v:=1+(x:Int)) (by decide) (by omega) (by omega) (by omega) (by omega)
 have m2:=eE (B:=10) (C:=256) (u:=q.2) (v:=1+(x:Int)) (by decide) (by omega) (by omega) (by omega) (by omega)
 unfold Nr nJ pw
 dsimp only
 omega
def wq(n:Nat){x5 x6:Int}{x7:Nat}(h7:x7<256)(h5 : -32768<=x5/\x5<=32767)(h6 : -32768<=x6/\x6<=32767)(l12:SB I2)(hl:l12.length<1000) :
  ∀(rest done:SB I2) (m:Nat),done.length+rest.length=l12.length->rest.length<m->(∀q∈rest,-10<=q.1/\q.1<=10/\-10<=q.2/\q.2<=10) ->
   bR (s5 n l12 x5 x6) m (done++rest,1+(x7:Int),(done.length:Int))=some (done++zu (1+x7) (x5,x6) rest)
 | [],done,m+1,h,_,_=>by
  rw[aX (r:=done++[])]
  rfl
  unfold s5
  dsimp only
  rw[aD (by simp at h; omega)]
 | q::rest,done,m+1,h,hm,hq=>by
  have hq':=Jm h7 (v:=(x5,x6)) ⟨h5.1,h5.2,h6.1,h6.2⟩ (hq q P5);have hi:done.length<l12.length:=by simp at h; omega
  have ih:=wq n h7 h5 h6 l12 hl rest (done++[nJ (x5,x6) (pw (1+x7) q)]) m (by simp at h ⊢; omega) (by simp at hm; omega) fun x hx=>hq x (P0 _ hx)
  rw[aO (s':=((done++[nJ (x5,x6) (pw (1+x7) q)])++rest,1+(x7:Int),((done++[nJ (x5,x6) (pw (1+x7) q)]).length:Int))),ih]
  simp[zu]
  have hg:(done++q::rest)[done.length]? = some (q.1,q.2):=by rw[PA (Pd _),QP]; rfl
  have hs:(done++q::rest).set done.length (nJ (x5,x6) (pw (1+x7) q))=(done++[nJ (x5,x6) (pw (1+x7) q)])++rest:=by
   rw[List.set_append_right _ _ (Pd _),QP]; simp
  unfold s5
  dsimp only
  rw[aH (by omega),aJ hi,aN,Pg,hg,ak]
  dsimp only
  have e5:RC x5=x5:=aq (by omega) (by omega)
  have e6:RC x6=x6:=aq (by omega) (by omega)
  rw[ak,aN,ak,aN,e5,e6,aq (x:=q.1*(1+(x7:Int))) (by omega) (by omega),aq (x:=q.2*(1+(x7:Int))) (by omega) (by omega),aq (x:=q.1*(1+(x7:Int))+x5) (by omega) (by omega),aq (x:=q.2*(1+(x7:Int))+x6) (by omega) (by omega),aV (by omega)]
  rw[show(q.1*(1+(x7:Int))+x5,q.2*(1+(x7:Int))+x6)=nJ (x5,x6) (pw (1+x7) q) from rfl,hs]
  simp
def wV(n:Nat)(a:I2)(t:SB I2)(ht:t.length<1000):∀(j m:Nat) (out:SB I2),j<=t.length->j<m->out.length+j<3000->∃N,bR (xx n (a::t)) m (out,out.length,(j:Int))=some (out++(t.take j).reverse,N)
 | 0,m+1,out,_,_,_=>by
  refine⟨out.length,aX ?_⟩;unfold xx
  try dsimp only
  rw[aD (by omega)]
  simp
 | j+1,m+1,out,hj,hm,ho=>by
  have hx:(a::t)[j+1]? = some (t[j]'(by omega)):=by rw[PT,Pl (by omega)]
  obtain⟨N,ih⟩:=wV n a t ht j m (out++[t[j]'(by omega)]) (by omega) (by omega) (by simp; omega)
  refine⟨N,?_⟩;rw[aO (s':=(out++[t[j]'(by omega)],(out++[t[j]'(by omega)]).length,(j:Int))),ih]
  have e:t.take (j+1)=t.take j++[t[j]'(by omega)]:=List.take_succ_eq_append_getElem (show j<t.length by omega)
  rw[e,List.reverse_append];simp
  ·unfold xx
   try dsimp only
   rw[aH (by omega),aJ (show j+1<(a::t).length by simp; omega),aN,Pg,hx,ak]
   try dsimp only
   rw[show lim (out++[((t[j]'(by omega)).1,(t[j]'(by omega)).2)]).length=true from PG (by simp; omega),aN,aq (by omega) (by omega)]
   congr 4
   omega
def Ls(n:Nat){l:SB I2}(h:Ok l)(hn:41<n):LV n l=some (rv l,0):=by
 have hL:=h.len;have hc:=AP.2 h;unfold LV;rw[zg n (by omega) hn,Ph hc,ak]
 match l,h with
 | [],h=>have:=h.vr.n3; simp at this
 | a::t,h =>
  obtain⟨N,hlp⟩:=wV n a t (by simp at hL; omega) t.length n [a] (Pd _) (by simp at hL; omega) (by simp at hL ⊢; omega)
  rw[List.take_length] at hlp;have e:RC (((a::t).length:Int)-1)=(t.length:Int):=by
   simp only[PD]; simp at hL; rw[aq (by omega) (by omega)]; omega
  rw[show(!decide ((0:Int)=0))=false from rfl,cy,show bO 0 (a::t).length=true from Po ⟨Int.le_refl 0,by simp⟩,aN,e]
  show ob (some (a.1,a.2)) _=_
  rw[ak]
  dsimp only
  exact(Ps (fun o=>ob o fun x:SB I2×Nat=>match x with |(l41,_)=>some (l41,(0:Int))) hlp).trans rfl
def Ax{l:SB Nat}{x5 x6:Int}{x7:Nat}(d:Dr l x5 x6 x7)(row:Bool):Ok (zu (1+x7) (x5,x6) (ij l row))/\0<wU (zu (1+x7) (x5,x6) (ij l row)):=by
 have hs:(0:Int)<1+(x7:Int):=by omega
 have hv:=(By (l:=l) row).1;have ha:=(By (l:=l) row).2;have hlen:=xH (l:=l) row;have hne:ij l row≠[]:=fun e=>by rw[e] at hv; exact Pz hv.n3 (by simp)
 have h3:VR (zu (1+x7) (x5,x6) (ij l row)):=by
  rw[Es];exact(It (x5,x6)).vr ((IB hs).vr hv)
 refine⟨⟨by unfold zu; rw[Pk]; omega,fun i=>?_,h3⟩,?_⟩
 have hm:=Ex (r:=zu (1+x7) (x5,x6) (ij l row)) (fun e=>by unfold zu at e; rw[List.map_eq_nil_iff] at e; exact hne e) i
 unfold zu at hm;obtain⟨q,hq,e⟩:=P6.1 hm;unfold zu;rw[<-e];exact(Jm d.s (v:=(x5,x6)) ⟨d.x.1,d.x.2,d.y.1,d.y.2⟩ (EB row q hq)).2.1
 rw[Es,GZ (by simpa using hne)]
 have:wU ((ij l row).map (pw (1+x7)))=(1+(x7:Int))*(1+(x7:Int))*wU (ij l row):=by
  unfold wU;rw[Pk,<-sd];refine jq fun i _=>?_;rw[fY _ hne,fY _ hne];unfold pw
  dsimp only
  grind
 rw[this];exact Q1 (Q1 hs hs) ha
def Ok.rv{l:SB I2}(h:Ok l):Ok (Jd.rv l):=by
 have hn:=h.vr.n3;have hne:Jd.rv l≠[]:=fun e=>by have:=Ps List.length e; rw[qF] at this; simp at this; rw[this] at hn; simp at hn
 refine⟨by rw[qF]; exact h.len,fun i=>?_,h.vr.rv⟩
 have hm:=Ex hne i;have:nx (Jd.rv l) i∈l:=by
  match l,hm with
  | a::t,hm=>unfold Jd.rv at hm ⊢; simpa using hm
 obtain⟨j,hj,e⟩:=Q0.1 this;have e2:nx l j=nx (Jd.rv l) i:=by
  unfold nx at e ⊢;rw[PJ hj,Pq,Pl hj]; exact e
 rw[<-e2];exact h.nr j
def Gf{l:SB Nat}{x5 x6:Int}{x7:Nat}(d:Dr l x5 x6 x7)(row turned:Bool):Ok (qV l x5 x6 x7 row turned):=by
 unfold qV
 split
 exact(Ax d row).1.rv
 exact(Ax d row).1
def KS(n:Nat){l:SB Nat}{x5 x6:Int}{x7:Nat}(d:Dr l x5 x6 x7)(row turned:Bool)(hn:41<n):Ni n l x5 x6 x7 row turned=some (qV l x5 x6 x7 row turned):=by
 have hlen:=xH (l:=l) row;have hs:=d.s;unfold Ni qV;rw[JV n d.b x5 x6 x7 row turned (by omega),ak]
 have e1:RC (1+RC ((x7:Nat):Int))=1+(x7:Int):=by
  rw[aq (x:=((x7:Nat):Int)) (by omega) (by omega),aq (by omega) (by omega)]
 have L:=wq n d.s d.x d.y (ij l row) (by omega) (ij l row) [] n (by simp) (by omega) (EB row)
 rw[P7,P7] at L;rw[e1];have L':bR (s5 n (ij l row) x5 x6) n (ij l row,1+(x7:Int),0)=some (zu (1+x7) (x5,x6) (ij l row)):=L;rw[L',ak];cases turned with
 | true =>
  rw[fG,Ls n (Ax d row).1 hn,ak,ak,Ph rfl]
 | false =>
  rw[cy,ak,Pb (by decide)]
def lh(l:SB I2):Prop:=∀q∈l,j4 q.1/\j4 q.2
def nC(x:Int):j4 (RC x):=by
 try unfold RC
 unfold j4 IntKind.wrap IntKind.bits IntKind.signed;simp only;rw[show((2:Int) ^ 64)=18446744073709551616 by rfl,show((2:Int) ^ (64-1))=9223372036854775808 by rfl]
 split
 rename_i h; simp at h; omega
 rename_i h; simp at h; omega
def xC(n x3:Nat):∀(k m:Nat) (l:SB I2),42<=l.length+k->l.length<=50->k<m->lh l->∃r,bR (xL n x3) m l=some r/\r.length<=50/\lh r
 | k,m+1,l,hk,hl,hm,h64=>by
  have e1:RC ((x3%3:Nat):Int)=((x3%3:Nat):Int):=aq (by omega) (by omega)
  have e2:RC (39+((x3%3:Nat):Int))=39+((x3%3:Nat):Int):=aq (by omega) (by omega)
  by_cases h:(l.length:Int)<39+((x3%3:Nat):Int)
  ·match k with
   | 0=>omega
   | k+1 =>
    obtain⟨r,h1,h2,h3⟩:=xC n x3 k m (l++[(RC (3*(l.length:Int)),RC ((l.length:Int)*(l.length:Int)))]) (by simp; omega) (by simp; omega) (by omega) (fun q hq=>by
     rcases PX.1 hq with hq|hq
     exact h64 q hq
     rw[PM] at hq; subst hq; exact⟨nC _,nC _⟩)
    refine⟨r,?_,h2,h3⟩;rw[aO (s':=l++[(RC (3*(l.length:Int)),RC ((l.length:Int)*(l.length:Int)))]),h1];unfold xL
    try dsimp only
    rw[e1,e2,aH h,show lim (l++[(RC (3*(l.length:Int)),RC ((l.length:Int)*(l.length:Int)))]).length=true from PG (by simp; omega),aN]
  ·refine⟨l,aX ?_,hl,h64⟩;unfold xL
   try dsimp only
   rw[e1,e2,aD h]
def rp{l:SB I2}(h:lh l){i:Nat}(hi:i<l.length):∃q:I2,l[i]? = some (q.1,q.2)/\j4 q.1/\j4 q.2 :=
 ⟨l[i],Pl hi,h _ (Qk hi)⟩
def my{l:SB I2}(h:lh l)(i:Nat){q:I2}(hq:j4 q.1/\j4 q.2):lh (l.set i q):=fun x hx=>by
 rcases List.mem_or_eq_of_mem_set hx with hx|rfl
 exact h x hx
 exact hq
def DF(n:Nat){x1 x2 x3:Nat}(h6:x2<256)(h7:x3<256){x4 x5:Int}(h2:j4 x4)(h3:j4 x5){l:SB I2}(h4:lh l)(hn:60<n):∃r,LX n x1 x2 x3 x4 x5 l=some r/\r.length<=51/\lh r:=by
 have hT:(([]:Rs)++(Sk l 50))=l.take 50:=by
  show l.take ((mi (l.length:Int) (50:Int)).toNat-0)=_
  rw[j7,Qr];rcases Nat.le_total l.length 50 with g|g
  rw[Ra (by omega),Ra g]
  rw[show(min (l.length:Int) 50).toNat=50 by omega]
 unfold LX;rw[hT];have hlen:(l.take 50).length<=50:=by rw[Qj]; omega
 have h0:lh (l.take 50):=fun q hq=>h4 q (QZ hq);rw[show okB 0 (mi (l.length:Int) (50:Int)) l.length=true from Po (by rw[j7]; omega),aN]
 generalize l.take 50=T at *;rw[show lim T.length=true from PG (by omega),aN]
 by_cases h1:(T.length:Int)=0
 rw[aH h1]; exact⟨T,rfl,by omega,h0⟩
 have hp:0<T.length:=by omega
 have w2:RC ((x2:Nat):Int)=((x2:Nat):Int):=aq (by omega) (by omega)
 have w3:RC ((x3:Nat):Int)=((x3:Nat):Int):=aq (by omega) (by omega)
 have i0:x2%T.length<T.length:=P9 _ hp;have i1:x3%T.length<T.length:=P9 _ hp;rw[aD h1,iB h1,ak,iB h1,ak,w2,w3,ke,ke];generalize x2%T.length=i at *;generalize x3%T.length=k at *;simp only[aJ i0,aJ i1,aN,Pg];obtain⟨qi,gi,bi⟩:=rp h0 i0;obtain⟨qk,gk,bk⟩:=rp h0 i1;simp only[gi,gk,ak]
 by_cases c0:x1%9=0
 rw[aH c0,ak]; exact⟨_,rfl,by rw[Qs]; omega,my h0 _ ⟨h2,h3⟩⟩
 rw[aD c0]
 by_cases c1:x1%9=1
 rw[aH c1,ak]; exact⟨_,rfl,by rw[Qs]; omega,my h0 _ bk⟩
 rw[aD c1]
 by_cases c2:x1%9=2
 have i3':k<(T.set i (qk.1,qk.2)).length:=by rw[Qs]; exact i1
 obtain⟨q,g,_⟩:=rp (my h0 i bk) i3';rw[aH c2,g,ak];exact⟨_,rfl,by rw[Qs,Qs]; omega,my (my h0 _ bk) _ bi⟩
 rw[aD c2]
 by_cases c3:x1%9=3
 rw[aH c3,show okB 0 (i:Int) T.length=true from Po (by omega),aN,ak]
 exact⟨_,rfl,by simp; omega,fun q hq=>h0 q (List.mem_of_mem_drop (QZ hq))⟩
 rw[aD c3]
 by_cases c4:x1%9=4
 rw[aH c4,show lim (T++[(x4,x5)]).length=true from PG (by simp; omega),aN,ak]
 refine⟨_,rfl,by simp; omega,fun q hq=>?_⟩
 rcases PX.1 hq with hq|hq
 exact h0 q hq
 rw[PM] at hq; subst hq; exact⟨h2,h3⟩
 rw[aD c4]
 by_cases c5:x1%9=5
 have hm:(i+1)%T.length<T.length:=P9 _ hp;obtain⟨qm,gm,_⟩:=rp h0 hm;rw[aH c5,aV (by omega),iB h1,ke,aJ hm,aN,Pg,gm,ak]
 dsimp only
 have e:(([]:SB I2)++((T.drop RD).take (((i+1:Nat):Int).toNat-RD)))=T.take (i+1):=by simp
 have e':(T.drop ((i+1:Nat):Int).toNat).take (T.length-((i+1:Nat):Int).toNat)=T.drop (i+1):=by simp[Ra]
 rw[e,e'];have h5:(T.take (i+1)).length=i+1:=by rw[Qj]; omega
 rw[show okB 0 ((i+1:Nat):Int) T.length=true from Po (by omega),aN,show okB ((i+1:Nat):Int) (T.length:Int) T.length=true from Po (by omega)]
 have b:=fun(x y:Int)=>(⟨nC x,nC y⟩:j4 (RC x)/\j4 (RC y));generalize hP:(RC (RC (qi.1.tdiv 2)+RC (qm.1.tdiv 2)),RC (RC (qi.2.tdiv 2)+RC (qm.2.tdiv 2)))=P;have hPb:j4 P.1/\j4 P.2:=by rw[<-hP]; exact b _ _
 have l2:(T.take (i+1)++[P]).length=i+2:=by rw[Pm,h5]; rfl
 have l3:(T.take (i+1)++[P]++T.drop (i+1)).length=T.length+1:=by rw[Pm,l2,List.length_drop]; omega
 rw[show lim (T.take (i+1)).length=true from PG (by omega),show lim (T.take (i+1)++[P]).length=true from PG (by omega),show lim (T.take (i+1)++[P]++T.drop (i+1)).length=true from PG (by omega)]
 simp only[aN];rw[ak];refine⟨_,rfl,by rw[l3]; omega,fun q hq=>?_⟩
 rcases PX.1 hq with hq|hq
 rcases PX.1 hq with hq|hq
 exact h0 q (QZ hq)
 rw[PM] at hq; subst hq; exact hPb
 exact h0 q (List.mem_of_mem_drop hq)
 rw[aD c5]
 by_cases c6:x1%9=6
 obtain⟨r,g0,g2,g1⟩:=xC n x3 50 n T (by omega) (by omega) (by omega) h0
 rw[aH c6,g0,ak,ak];exact⟨r,rfl,by omega,g1⟩
 rw[aD c6]
 by_cases c7:x1%9=7
 have b2:=my h0 i (q:=(qi.2,qi.2)) ⟨bi.2,bi.2⟩;obtain⟨q,g,bq⟩:=rp b2 (i:=i) (by rw[Qs]; exact i0)
 rw[aH c7,g,ak];exact⟨_,rfl,by rw[Qs,Qs]; omega,my b2 _ ⟨bq.1,bi.1⟩⟩
 rw[aD c7,ak];exact⟨T,rfl,by omega,h0⟩
def K1(n:Nat){l:SB I2}(h64:lh l):∃r,Ms n l=some r/\r.length<=51/\lh r:=by
 unfold Ms;rw[show okB 0 (mi (l.length:Int) (50:Int)) l.length=true from Po (by rw[j7]; omega),aN]
 refine⟨_,rfl,?_,fun q hq=>h64 q (List.mem_of_mem_drop (QZ hq))⟩;rw[Qj,j7]; omega
def NY{p:I2}(h:Nr p):j4 p.1/\j4 p.2:=by unfold Nr at h; unfold j4; omega
def Ok.pt{l:SB I2}(h:Ok l):lh l:=fun q hq=>by
 obtain⟨j,hj,e⟩:=Q0.1 hq;have e2:nx l j=q:=by
  unfold nx;rw[PJ hj,Pq,Pl hj]; exact e
 rw[<-e2];exact NY (h.nr j)
structure Bd(x2 x3:Nat)(x4 x5:Int):Prop where
 at_:x2<256
 to:x3<256
 x:j4 x4
 y:j4 x5
def Kx(n:Nat){raw:SB I2}(hr:lh raw){l:SB Nat}{x5 x6:Int}{x7:Nat}(d:Dr l x5 x6 x7)(row turned:Bool){w1 a1 t1 w2 a2 t2:Nat}{p1 q1 p2 q2:Int}(b1:Bd a1 t1 p1 q1)(b2:Bd a2 t2 p2 q2)(hn:60<n) :
  ∃r s t,LO n raw l x5 x6 x7 row turned w1 a1 t1 p1 q1 w2 a2 t2 p2 q2=some (qV l x5 x6 x7 row turned,r,s,t)/\∀k∈[qV l x5 x6 x7 row turned,r,s,t],k.length<=51/\lh k:=by
 have h0:=Gf d row turned;obtain⟨r,g1,g2,g3⟩:=DF n (x1:=w1) b1.at_ b1.to b1.x b1.y h0.pt hn;obtain⟨s,k1,k2,k3⟩:=DF n (x1:=w2) b2.at_ b2.to b2.x b2.y g3 hn;obtain⟨t,j1,j2,j3⟩:=K1 n hr;refine⟨r,s,t,?_,fun k hk=>?_⟩
 unfold LO;rw[KS n d row turned (by omega),ak,g1,ak,k1,ak,j1,ak]
 have:=h0.len;simp only[Pp,List.not_mem_nil,or_false] at hk;rcases hk with rfl|rfl|rfl|rfl
 exact⟨by omega,h0.pt⟩
 exact⟨g2,g3⟩
 exact⟨k2,k3⟩
 exact⟨j2,j3⟩
def OE{B:Int->SA (Int⊕SC⊕SC)}(hB:∀i:Nat,i<4->B (i:Int)=some (.inl ((i+1:Nat):Int)))(hE:B 4=some (.inr (.inr ()))){n:Nat}(hn:4<n):bR B n 0=some (.inr ()):=by
 obtain⟨n,rfl⟩:∃m,n=m+5:=⟨n-5,by omega⟩
 rw[show(0:Int)=((0:Nat):Int) from rfl,aO (hB 0 (by decide)),aO (hB 1 (by decide)),aO (hB 2 (by decide)),aO (hB 3 (by decide)),show((3+1:Nat):Int)=4 from rfl,aX hE]
def zT{σ τ ρ:Type}{B:τ->SA (τ⊕ρ)}{len:Nat}(st:Nat->σ->τ)(inv:Nat->σ->Prop)(Post:ρ->Prop)
  (hB:∀i s,i<len->inv i s->(∃s',B (st i s)=some (.inl (st (i+1) s'))/\inv (i+1) s')\/∃r,B (st i s)=some (.inr r)/\Post r)
  (hE:∀s,inv len s->∃r,B (st len s)=some (.inr r)/\Post r):∀(k i:Nat) (s:σ) (n:Nat),i+k=len->k<n->inv i s->∃r,bR B n (st i s)=some r/\Post r
 | 0,i,s,n+1,h,_,hi=>by
  rw[Qh] at h; subst h;obtain⟨r,h1,h2⟩:=hE s hi;exact⟨r,aX h1,h2⟩
 | k+1,i,s,n+1,h,hn,hi=>by
  rcases hB i s (by omega) hi with⟨s',h1,h2⟩|⟨r,h1,h2⟩
  rw[aO h1]; exact zT st inv Post hB hE k (i+1) s' n (by omega) (by omega) h2
  exact⟨r,aX h1,h2⟩
section
variable{l:SB I2}(n:Nat)
end
section
variable(n:Nat)
end
section
variable(n:Nat)
end
def uq{ρ:Type}{B:Int->SA (Int⊕ρ)}{e:ρ}{len n:Nat}(hB:∀i:Nat,i<len->B (i:Int)=some (.inl ((i+1:Nat):Int)))(hE:B (len:Int)=some (.inr e))(hn:len<n):bR B n 0=some e:=by
 have:=eT (f:=fun _=>none) (e:=e) (B:=B) (len:=len) (fun i hi=>hB i hi) hE len 0 n (by omega) hn
 rw[iX (fun _ _ _=>rfl)] at this;exact this
section
variable{S:I2->Prop}{r l:SB I2}
end
open Ln (mS qM rh qX qe lw)
open Classical in
noncomputable def dec (x:Nat):Nat×Nat:=if h:∃p:Nat×Nat,0<p.1/\SF p.2/\x=p.1*p.1*p.2 then h.choose else(1,x)
def An{x s q:Nat}(hs:0<s)(hq:SF q)(e:x=s*s*q):dec x=(s,q):=by
 have h:∃p:Nat×Nat,0<p.1/\SF p.2/\x=p.1*p.1*p.2:=⟨(s,q),hs,hq,e⟩;unfold dec;rw[dif_pos h];obtain⟨h1,h2,h3⟩:=h.choose_spec;obtain⟨e1,e2⟩:=SF.uniq h2 hq h1 hs (by rw[<-h3,e])
 exact QY e1 e2
def zO{q:Nat}(h:SF q):dec q=(1,q):=An (by decide) h (by simp)
def jz(n:Nat){x:Nat}(h0:0<x)(hx:x<=10000000000000)(hn:22000<n):yW n (x:Int)=some (((dec x).1:Int),((dec x).2:Int))/\0<(dec x).1/\SF (dec x).2/\x=(dec x).1*(dec x).1*(dec x).2:=by
 obtain⟨s,q,h1,h2,h3,h4⟩:=HE n h0 hx hn;rw[An h2 h3 h4];exact⟨h1,h2,h3,h4⟩
def Fx{x:Nat}(h:0<(dec x).1/\SF (dec x).2/\x=(dec x).1*(dec x).1*(dec x).2):(dec x).2<=x:=by
 have e:=h.2.2;generalize dec x=d at *;rw[e];exact P4 _ (P3 h.1 h.1)
structure Tms(T:SB (Nat×Nat)):Prop where
 len:T.length<=200
 t0:∀t∈T,0<t.1/\t.1<=1000000000000000
 u0:∀t∈T,0<t.2/\t.2<=10000000000000
def zq(t:Nat×Nat):Int×Int:=((t.1:Int),(t.2:Int))
noncomputable def one (t:Nat×Nat) (k:Nat):Nat:=if(dec t.2).2=k then t.1*(dec t.2).1 else 0
noncomputable def Su:SB (Nat×Nat)->Nat->Nat
 | [],_=>0
 | t::T,k=>one t k+Su T k
def ov(A B:SB (Nat×Nat))(k:Nat):Su (A++B) k=Su A k+Su B k:=by
 induction A with
 | nil=>simp[Su]
 | cons a A ih=>rw[Qb]; simp only[Su]; rw[ih]; omega
structure RelM(M:SB (Int×Bool×SB Nat))(f:Nat->Nat):Prop where
 nd:(M.map (·.1)).Nodup
 el:∀e∈M,∃k:Nat,e=((k:Int),false,[f k])/\0<f k
 all:∀k:Nat,0<f k->((k:Int),false,[f k])∈M
def oK{β:Type}{k:Int}:∀{xs:SB (Int×β)} {i:Nat} {v:β},(k,v)∈xs->dI k xs i≠none
 | [],_,_,h=>by cases h
 | x::xs,i,v,h=>by
  unfold dI
  split
  simp
  rename_i hk;rcases Pp.1 h with e|h
  exact Pz (Ps Prod.fst e) hk
  exact oK h
section
variable{M:SB (Int×Bool×SB Nat)}{f:Nat->Nat}
def RelM.get(h:RelM M f)(k:Nat):(iS M (k:Int)).getD (false,[])=(false,lw (f k)):=by
 unfold iS;cases hf:dI (k:Int) M 0 with
 | none =>
  by_cases h0:f k=0
  unfold lw; rw[Ph h0]; rfl
  exact Pz hf (oK (h.all k (by omega)))
 | some p =>
  have hm:=PO (gw (k:Int) M 0 p hf).2.2;obtain⟨j,e,h0⟩:=h.el _ hm;have e1:k=j:=by have:=Ps Prod.fst e; dsimp only at this; omega
  subst e1;have e2:p.2=(false,[f k]):=Ps Prod.snd e;rw[Pj,e2];unfold lw;rw[RE]; rfl
def RelM.put(h:RelM M f)(k:Nat){c:Nat}(hc:0<c):RelM (iy M (k:Int) (false,[c])) (fun j=>if j=k then c else f j):=by
 unfold iy;cases hf:dI (k:Int) M 0 with
 | none =>
  have hk:∀v,((k:Int),v)∉M:=fun v hv=>oK hv hf
  dsimp only
  refine⟨?_,fun e he=>?_,fun j hj=>?_⟩
  rw[Rl,PS,List.map_nil];refine List.nodup_append.2 ⟨h.nd,by simp,fun a ha b hb=>?_⟩
  rw[PM] at hb;subst hb;rintro rfl;obtain⟨e,he,h2⟩:=P6.1 ha;exact hk e.2 ((show((k:Int),e.2)=e from QY h2.symm rfl)▸he)
  rcases PX.1 he with he|he
  obtain⟨j,e1,h0⟩:=h.el e he;have:j≠k:=fun c=>hk _ (by rw[e1,c] at he; exact he)
  exact⟨j,by rw[Pb this]; exact e1,by rw[Pb this]; exact h0⟩
  rw[PM] at he;exact⟨k,by rw[Ph rfl]; exact he,by rw[Ph rfl]; exact hc⟩
  by_cases e:j=k
  subst e; rw[Ph rfl]; simp
  rw[Pb e] at hj ⊢;exact List.mem_append_left _ (h.all j hj)
 | some p =>
  obtain⟨_,hl,hp⟩:=gw (k:Int) M 0 p hf;rw[Qr] at hp;have hpl:p.1<M.length:=by omega
  have hkeys:(M.set p.1 ((k:Int),(false,[c]))).map (·.1)=M.map (·.1):=by
   rw[List.map_set];refine Q4 fun i=>?_
   by_cases e:p.1=i
   subst e;rw[QR (by simpa using hpl),PY,hp]; rfl
   rw[QM e]
  have uniq:∀(i:Nat) (e:Int×Bool×SB Nat),M[i]? = some e->e.1=(k:Int)->i=p.1:=fun i e hi he=>by
   have h1:(M.map (·.1))[i]? = some (k:Int):=by rw[PY,hi,Pj,he]
   have h2:(M.map (·.1))[p.1]? = some (k:Int):=by rw[PY,hp]; rfl
   have hi':i<(M.map (·.1)).length:=(PN.1 h1).1;exact(List.getElem?_inj hi' h.nd).1 (h1.trans h2.symm)
  dsimp only
  refine⟨by rw[hkeys]; exact h.nd,fun e he=>?_,fun j hj=>?_⟩
  obtain⟨i,hi,e2⟩:=Q0.1 he;have hi2:(M.set p.1 ((k:Int),(false,[c])))[i]? = some e:=by rw[Pl hi,e2]
  by_cases ei:p.1=i
  subst ei;rw[QR hpl] at hi2;exact⟨k,by rw[Ph rfl]; exact(Pf hi2).symm,by rw[Ph rfl]; exact hc⟩
  rw[QM ei] at hi2;obtain⟨j,e1,h0⟩:=h.el e (PO hi2);have:j≠k:=fun c=>ei (uniq i e hi2 (by rw[e1,c])).symm
  exact⟨j,by rw[Pb this]; exact e1,by rw[Pb this]; exact h0⟩
  by_cases e:j=k
  subst e; rw[Ph rfl];exact PO (QR hpl)
  rw[Pb e] at hj ⊢;obtain⟨i,hi,e2⟩:=Q0.1 (h.all j hj);refine PO (i:=i) ?_;rw[QM (fun c=>?_),Pl hi,e2];subst c;rw[Pl hi,e2] at hp;have:=Ps Prod.fst (Pf hp)
  dsimp only at this
  omega
def Fw(M:SB (Int×Bool×SB Nat))(k:Int)(v:Bool×SB Nat):(iy M k v).length<=M.length+1:=by
 unfold iy
 split<;>simp
end
def u7{T:SB (Nat×Nat)}{i:Nat}{t:Nat×Nat}(h:T[i]? = some t):(T.map zq)[((i:Nat):Int).toNat]? = some ((t.1:Int),(t.2:Int)):=by
 rw[Pg,PY,h]; rfl
section
variable(n:Nat)(hn:22000 < n)
include hn
theorem Fg{T:SB (Nat×Nat)}(h:Tms T):bR (xW n (T.map zq)) n 0=some (.inr ()):=by
 have hl:=h.len;refine uq (len:=T.length) (fun i hi=>?_) ?_ (by omega)
 have ht:=h.t0 _ (Qk hi);have hu:=h.u0 _ (Qk hi);unfold xW;rw[Pk,aH (by omega),aJ hi,aN,u7 (Pl hi),ak]
 dsimp only
 have e:D7 n ((T[i].1:Nat):Int) ((T[i].2:Nat):Int)=some false:=by
  unfold D7 sF;rw[aD (by omega),aD (by omega),aH (by omega),ak,Po (by omega)]; rfl
 rw[e,ak,cy,aV (by omega)]
 unfold xW;rw[Pk,aD (by omega)]
theorem qf{T:SB (Nat×Nat)}(h:Tms T)(hb:∀k,Su T k<=1000000000000000):∀(rest done:SB (Nat×Nat)) (m:Nat) (M:SB (Int×Bool×SB Nat)),T=done++rest->rest.length<m->RelM M (Su done)->M.length<=done.length ->
  ∃M',bR (tJ n (T.map zq)) m (M,(done.length:Int))=some M'/\RelM M' (Su T)/\M'.length<=T.length
 | [],done,m+1,M,e,_,hM,hl=>by
  rw[PU] at e;subst e;refine⟨M,?_,hM,hl⟩;rw[aX];unfold tJ
  dsimp only
  rw[Pk,aD (by omega)]
 | t::rest,done,m+1,M,e,hm,hM,hl=>by
  have ht:t∈T:=by rw[e]; simp
  have h0:=h.t0 t ht;have hu:=h.u0 t ht;have hlen:=h.len;have hT:T[done.length]? = some t:=by rw[e,PA (Pd _),QP]; rfl
  have hi:done.length<T.length:=(PN.1 hT).1;obtain⟨f1,f2,f3,f4⟩:=jz n hu.1 hu.2 hn;have hk:=hb (dec t.2).2;have e1:Su (done++[t])=fun j=>if j=(dec t.2).2 then Su done (dec t.2).2+t.1*(dec t.2).1 else Su done j:=by
   funext j
   rw[ov];simp only[Su,one]
   by_cases c:j=(dec t.2).2
   subst c; simp
   rw[Pb c,Pb (fun k=>c k.symm)]; rfl
  have hle:Su done (dec t.2).2+t.1*(dec t.2).1<=Su T (dec t.2).2:=by
   have e2:Su T (dec t.2).2=Su (done++[t]) (dec t.2).2+Su rest (dec t.2).2:=by rw[e,<-ov]; simp
   rw[e2,e1];simp
  have hpos:0<t.1*(dec t.2).1:=P3 h0.1 f2;have hs2:(dec t.2).1<=t.1*(dec t.2).1:=P4 _ h0.1;have hR:=hM.put (dec t.2).2 (c:=Su done (dec t.2).2+t.1*(dec t.2).1) (by omega)
  rw[<-e1] at hR;have hl2:=Fw M ((dec t.2).2:Int) (false,[Su done (dec t.2).2+t.1*(dec t.2).1]);obtain⟨M',g1,g2,g3⟩:=qf h hb rest (done++[t]) m _ (by rw[e]; simp) (by simp at hm; omega) hR (by simp; omega)
  refine⟨M',?_,g2,g3⟩;rw[aO (s':=(iy M ((dec t.2).2:Int) (false,[Su done (dec t.2).2+t.1*(dec t.2).1]),((done++[t]).length:Int))),g1];unfold tJ
  dsimp only
  rw[Pk,aH (by omega),aJ hi,aN,u7 hT,ak]
  dsimp only
  rw[aD (by omega),PL (by omega),ak,cy,f1,ak]
  dsimp only
  rw[hM.get,ak]
  dsimp only
  rw[mS (by omega) (x:=t.1) (by omega) (by omega),ak]
  dsimp only
  rw[mS (by omega) (x:=(dec t.2).1) (by omega) (by omega),ak]
  dsimp only
  rw[qM (by omega) (by omega) (by omega) (by omega),ak]
  dsimp only
  rw[rh (by omega) (by omega) (by omega),ak]
  dsimp only
  rw[ak,aV (by omega)]
  simp
end
end
section
open Go Go.Ab Go.Ab.W Go.Ab.B Jd
section
variable(n:Nat)
def Dq(p e:Nat):p ^ e=p ^ (e/2)*p ^ (e/2)*(if e%2=1 then p else 1):=by
 have h:e=e/2+e/2+e%2:=by omega
 conv=>lhs; rw[h,Nat.pow_add,Nat.pow_add]
 rcases Nat.mod_two_eq_zero_or_one e with g|g<;>rw[g]<;>simp
def oW{x:Nat}(hx:x<=10000000000000)(hn:22000<n):∀(k m v s q p:Nat),p+k=21546->k<m->2<=p->Ptd x v s q p ->
  ∃v' s' q':Nat,bR (qR n) m ((s:Int),(q:Int),(v:Int),(p:Int))=some ((s':Int),(q':Int),(v':Int))/\Ptd x v' s' q' 21546
 | 0,m+1,v,s,q,p,h1,_,h3,h4=>by
  refine⟨v,s,q,?_,by rw[show 21546=p by omega]; exact h4⟩
  rw[aX (r:=((s:Int),(q:Int),(v:Int)))];unfold qR
  dsimp only
  rw[aD (by omega)]
 | k+1,m+1,v,s,q,p,h1,h2,h3,h4=>by
  have hle:∀{a b:Nat},0<b->a<=a*b:=fun hb=>PK _ hb;have hq0:=h4.sf.1;have hs0:=h4.s0;have hv0:=h4.v0;have hvx:v<=x:=by rw[h4.eq]; exact P4 _ (P3 (P3 hs0 hs0) hq0)
  obtain⟨v',e,g1,g2,g4,g6,g7⟩:=o8 n h3 (by omega) 50 n v 0 (by omega) (by omega) hv0 (by omega) (by decide)
  rw[PV] at g1 g7;have hpe:0<p ^ (e/2):=Nat.pow_pos (by omega)
  have g5:v'∣v:=⟨p ^ e,by rw[g6,Qm]⟩
  have hs':0<s*p ^ (e/2):=P3 hs0 hpe;have hinv:Ptd x v' (s*p ^ (e/2)) (if e%2=1 then q*p else q) (p+1):=by
   have hcq:Rp q v':=Nat.Coprime.coprime_dvd_right g5 h4.tM;refine⟨g2,hs',?_,?_,?_,fun d hd1 hd2 hd3=>?_⟩
   rw[h4.eq,g6,Dq p e]
   split<;>grind
   split
   rename_i ho;have hd:p∣v:=by
    rw[g6,show e=(e-1)+1 by omega,QJ,QE,Q2]
    exact QQ _ _
   have hP:Ey p:=⟨h3,fun d hd2=>by
    by_cases e:d=1
    exact .inl e
    right
    have:d<=p:=Nat.le_of_dvd (by omega) hd2
    have:d≠0:=fun e=>by subst e; have:=Qv hd2; omega
    refine Pw fun ne=>h4.low d (by omega) (by omega) (QF hd2 hd)⟩
   have hpq:¬p∣q:=fun c=>by
    have:=Nat.dvd_gcd c hd;rw[h4.tM] at this;have:=Nat.dvd_one.1 this;omega
   exact h4.sf.mul hP.sf (hP.tM hpq).symm
   exact h4.sf
   split
   rename_i ho;have hd:p∣v:=by
    rw[g6,show e=(e-1)+1 by omega,QJ,QE,Q2]
    exact QQ _ _
   have hP:Ey p:=⟨h3,fun d hd2=>by
    by_cases e:d=1
    exact .inl e
    right
    have:d<=p:=Nat.le_of_dvd (by omega) hd2
    have:d≠0:=fun e=>by subst e; have:=Qv hd2; omega
    refine Pw fun ne=>h4.low d (by omega) (by omega) (QF hd2 hd)⟩
   exact Nat.Coprime.mul_left hcq (hP.tM g4)
   exact hcq
   by_cases e:d=p
   exact g4 (e▸hd3)
   exact h4.low d hd1 (by omega) (QF hd3 g5)
  have hqx:(if e%2=1 then q*p else q)<=x:=by
   rw[hinv.eq];refine PB ?_ (hle hinv.v0);exact P4 _ (P3 hs' hs')
  have hsx:s*p ^ (e/2)<=x:=by
   rw[hinv.eq];refine PB ?_ (hle hinv.v0);refine PB ?_ (hle hinv.sf.1);exact hle hs'
  obtain⟨v2,s2,q2,k1,k2⟩:=oW hx hn k m v' _ _ (p+1) (by omega) (by omega) (by omega) hinv
  refine⟨v2,s2,q2,?_,k2⟩;have g8:=pb n h3 (e:=e) g7 (e/2) n s 0 (by omega) (by omega) hs0 (by omega)
  rw[aO (s':=(((s*p ^ (e/2):Nat):Int),(((if e%2=1 then q*p else q):Nat):Int),(v':Int),((p+1:Nat):Int))),k1]
  unfold qR
  dsimp only
  rw[aH (by omega),show((v:Int),(0:Int))=((v:Int),((0:Nat):Int)) from rfl,g1,ak]
  dsimp only
  rw[show((s:Int),(0:Int))=((s:Int),((0:Nat):Int)) from rfl,g8,ak,show Int.tmod (e:Int) 2=((e%2:Nat):Int) from rfl,aq (x:=(p:Int)+1) (by omega) (by omega)]
  by_cases ho:e%2=1
  rw[Ph ho] at hqx;rw[Ph ho,aH (by omega),show(q:Int)*(p:Int)=((q*p:Nat):Int) from(P8 _ _).symm,aq (by omega) (by omega),ak]; rfl
  rw[Pb ho,aD (by omega),ak]; rfl
def H8{x:Nat}(h0:0<x)(hx:x<=10000000000000)(hn:22000<n):∃s q:Nat,zD n (x:Int)=some ((s:Int),(q:Int))/\0<s/\SF q/\x=s*s*q:=by
 obtain⟨v,s,q,h1,h2⟩:=oW n hx hn 21544 n x 1 1 2 rfl (by omega) (by decide) ⟨h0,by decide,by simp,SF.one,Nat.coprime_one_left x,fun d a b _=>by omega⟩
 have h3:v<21546*21546\/21546=21546:=.inr rfl;obtain⟨p,hp⟩:∃p,p=21546:=⟨_,rfl⟩;rw[<-hp] at h2;have h3:v<p*p\/p=21546:=.inr hp;have hq0:=h2.sf.1;have hs0:=h2.s0;have hv0:=h2.v0;have hvx:v<=x:=by rw[h2.eq]; exact P4 _ (P3 (P3 hs0 hs0) hq0)
 obtain⟨r,r1,r2,r3,r4⟩:=GG n (v:=v) hv0 (by omega) (by omega)
 have hrr:r*r<=10000000000000:=by omega
 have hsx:s<=x:=by
  rw[h2.eq];refine PB ?_ (PK _ hv0);refine PB ?_ (PK _ hq0);exact PK _ hs0
 unfold zD;rw[show((1:Int),(1:Int),(x:Int),(2:Int))=(((1:Nat):Int),((1:Nat):Int),(x:Int),((2:Nat):Int)) from rfl,h1,ak]
 dsimp only
 rw[p7 n (by omega) (by omega),ak]
 dsimp only
 rw[r1,ak]
 dsimp only
 rw[AV n (by omega) (by omega),ak]
 dsimp only
 rw[show(r:Int)*(r:Int)=((r*r:Nat):Int) from(P8 _ _).symm,aq (x:=((r*r:Nat):Int)) (by omega) (by omega)]
 by_cases e:r*r=v
 have hr0:0<r:=Qg fun c=>by subst c; omega
 have hsr:s*r<=x:=by
  rw[h2.eq,<-e];refine PB ?_ (show s*r*(s*r*q)<=_ from Ro (by grind))
  exact PK _ (P3 (P3 hs0 hr0) hq0)
 refine⟨s*r,q,?_,P3 hs0 hr0,h2.sf,by rw[h2.eq,<-e]; grind⟩
 rw[aH (by omega),show(s:Int)*(r:Int)=((s*r:Nat):Int) from(P8 _ _).symm,aq (by omega) (by omega)]
 have hqv:q*v<=x:=by
  rw[h2.eq,QE];exact P4 _ (P3 hs0 hs0)
 refine⟨s,q*v,?_,hs0,h2.sf.mul ⟨hv0,fun d hd=>Pw fun hd1=>?_⟩ h2.tM,by rw[h2.eq,QE]⟩
 rw[aD (by omega),show(q:Int)*(v:Int)=((q*v:Nat):Int) from(P8 _ _).symm,aq (by omega) (by omega)]
 
 have hd0:d≠0:=fun c=>by
  subst c;have:=Qv (by simpa using hd)
  omega
 have hdv:d∣v:=QF (QQ d d) hd;have hdp:p<=d:=Pw fun c=>h2.low d (by omega) (by omega) hdv
 obtain⟨w,hw⟩:=hd;have hw0:0<w:=Qg fun c=>by subst c; omega
 have hdd:d*d<=v:=by rw[hw]; exact PK _ hw0
 rcases h3 with h3|h3
 have:=iR hdp;omega
 by_cases hw1:w=1
 
 rw[hw1,Nat.mul_one] at hw;have:r=d:=by
  rcases Nat.lt_trichotomy r d with g|g|g
  have:=iR (show r+1<=d by omega); omega
  exact g
  have:=iR (show d+1<=r by omega)
  have e2:(d+1)*(d+1)=d*d+2*d+1:=by grind
  omega
 exact e (by rw[this,hw])
 have hwv:w∣v:=⟨d*d,by rw[hw,Qm]⟩
 have hwp:p<=w:=Pw fun c=>h2.low w (by omega) (by omega) hwv
 have k1:21546*21546<=d*d:=iR (by omega)
 have k2:21546*21546*21546<=d*d*w:=Qw k1 (by omega)
 omega
def Bt{x:Nat}(h0:0<x)(hx:x<=10000000000000)(hn:22000<n):zD n (x:Int)=some (((dec x).1:Int),((dec x).2:Int)):=by
 obtain⟨s,q,h1,h2,h3,h4⟩:=H8 n h0 hx hn;rw[An h2 h3 h4];exact h1
end
open Ln (mS qM rh qX qe lw)
structure IsR(X:Rs)(f:Nat->Nat):Prop where
 up:X.Pairwise fun a b=>a.2<b.2
 el:∀e∈X,∃k:Nat,e=((f k:Int),(k:Int))/\0<f k
 all:∀k:Nat,0<f k->((f k:Int),(k:Int))∈X
def IsR.uniq{X Y:Rs}{f:Nat->Nat}(h:IsR X f)(g:IsR Y f):X=Y:=by
 have nd:∀{Z:Rs},IsR Z f->Z.Nodup:=fun hz=>by
  rw[List.nodup_iff_pairwise_ne];exact hz.up.imp fun h e=>by rw[e] at h; omega
 have hp:X.Perm Y:=(List.perm_ext_iff_of_nodup (nd h) (nd g)).2 fun e=>⟨fun he=>by
  obtain⟨k,rfl,h0⟩:=h.el e he;exact g.all k h0,fun he=>by
  obtain⟨k,rfl,h0⟩:=g.el e he;exact h.all k h0⟩
 exact List.Perm.eq_of_pairwise (le:=fun a b=>a.2<b.2) (fun a b _ _ h1 h2=>by omega) h.up g.up hp
def AI:∀{l:SB Int},l.Nodup->Ck l=true
 | [],_=>rfl
 | a::l,h=>by
  rw[Qz] at h;unfold Ck;rw[AI h.2,show l.contains a=false by simpa using h.1]; rfl
def Lc{l:SB Int}(h:l.Nodup)(hr:∀k∈l,0<=k/\k<9223372036854775808)(hl:l.length<=1000):LL l=true:=by
 unfold LL;rw[AI h,PG (by omega)]
 simp only[Bool.and_true,Pr,Pe,Pv];intro k hk;have:=hr k hk;omega
def zI:∀{T:SB (Nat×Nat)} {k:Nat},0<Su T k->∃t∈T,(dec t.2).2=k
 | [],_,h=>by cases h
 | t::T,k,h=>by
  by_cases e:(dec t.2).2=k
  exact⟨t,by simp,e⟩
  simp only[Su,one] at h;rw[Pb e,PV] at h;obtain⟨s,hs,es⟩:=zI h;exact⟨s,by simp[hs],es⟩
section
variable(n:Nat)(hn:22000 < n)
include hn
theorem rz{M:SB (Int×Bool×SB Nat)}{f:Nat->Nat}(hM:RelM M f)(hf:∀k,f k<=1000000000000000){K:SB Int}(hK:∀x∈K,∃k:Nat,x=k/\0<f k)(hKl:K.length<1000) :
  ∀(rest done:SB Int) (m:Nat),K=done++rest->rest.length<m->bR (tv n K M) m (done.map fun x=>((f x.toNat:Int),x),(done.length:Int))=some (.inr (K.map fun x=>((f x.toNat:Int),x)))
 | [],done,m+1,e,_=>by
  rw[PU] at e;subst e;rw[aX];unfold tv
  dsimp only
  rw[aD (by omega)]
 | x::rest,done,m+1,e,hm=>by
  have hx:K[done.length]? = some x:=by rw[e,PA (Pd _),QP]; rfl
  have hi:done.length<K.length:=(PN.1 hx).1;obtain⟨k,rfl,h0⟩:=hK x (by rw[e]; simp)
  have hb:=hf k;have ih:=rz hM hf hK hKl rest (done++[(k:Int)]) m (by rw[e]; simp) (by simp at hm; omega)
  rw[aO (s':=((done++[(k:Int)]).map fun x=>((f x.toNat:Int),x),((done++[(k:Int)]).length:Int))),ih];unfold tv
  dsimp only
  rw[aH (by omega),aJ hi,aN,Pg,hx,ak,hM.get,ak]
  dsimp only
  have elw:lw (f k)=[f k]:=by unfold lw; rw[RE]
  rw[elw,qX (by omega),ak]
  dsimp only
  rw[qe (by omega) (by omega),ak]
  dsimp only
  have e0:sF n ((f k:Nat):Int)=some true:=by
   unfold sF;rw[aH (by omega),Po (by omega)]
  rw[show(!decide ((0:Int)=0))=false from rfl,cy,cy,e0,ak,PE,ak,cy,PL (show ¬((f k:Nat):Int)=0 by omega),PQ,fG]
  rw[show lim (List.map (fun x=>((f x.toNat:Int),x)) done++[((f k:Int),(k:Int))]).length=true from PG (by simp; omega),aN,ak]
  dsimp only
  rw[aV (by omega)]
  simp
theorem FI{T:SB (Nat×Nat)}(h:Tms T)(hb:∀k,Su T k<=1000000000000000):∃X,LM n (T.map zq)=some (X,0)/\IsR X (Su T)/\X.length<=T.length:=by
 have hl:=h.len;obtain⟨M,g1,g0,g2⟩:=qf n hn h hb T [] n [] rfl (by omega) ⟨List.nodup_nil,fun e he=>(by cases he),fun k hk=>(by cases hk)⟩ (Pd _)
 have hkeys:∀x:Int,x∈M.map (·.1)->∃k:Nat,x=k/\0<Su T k:=fun x hx=>by
  obtain⟨e,he,rfl⟩:=P6.1 hx;obtain⟨k,e0,h0⟩:=g0.el e he;exact⟨k,by rw[e0],h0⟩
 have hsmall:∀k,0<Su T k->k<=10000000000000:=fun k hk=>by
  obtain⟨t,ht,e⟩:=zI hk;have hu:=h.u0 t ht;have:=Fx (jz n hu.1 hu.2 hn).2;omega
 have hok:LL (M.map (·.1))=true:=Lc g0.nd (fun x hx=>by
  obtain⟨k,rfl,h0⟩:=hkeys x hx;have:=hsmall k h0;omega) (by rw[Pk]; omega)
 have e1:GY n M=some (fo (M.map (·.1))):=by unfold GY; rw[hok,aN]
 have hK:∀x:Int,x∈fo (M.map (·.1))->∃k:Nat,x=k/\0<Su T k:=fun x hx=>hkeys x ((e7 _).mem_iff.1 hx);have hKl:(fo (M.map (·.1))).length=M.length:=by rw[(e7 _).length_eq,Pk]
 have hL:=rz n hn g0 hb hK (by omega) (fo (M.map (·.1))) [] n rfl (by omega)
 refine⟨(fo (M.map (·.1))).map fun x=>((Su T x.toNat:Int),x),?_,⟨?_,fun e he=>?_,fun k hk=>?_⟩,by rw[Pk]; omega⟩
 unfold LM;rw[Pk,aD (by omega),Fg n hn h,ak]
 dsimp only
 rw[ak,ak,aD (by omega),show bR (tJ n (T.map zq)) n (([]:SB (Int×Bool×SB Nat)),0)=some M from g1,ak,e1,ak,
  show bR (tv n (fo (M.map (·.1))) M) n (([]:Rs),0)=_ from hL,ak]
 dsimp only
 rw[Pk,aD (by omega)]
 rw[List.pairwise_map];have hs:=ju (M.map (·.1));have hnd:(fo (M.map (·.1))).Nodup:=(e7 _).nodup_iff.2 g0.nd;rw[List.nodup_iff_pairwise_ne] at hnd;exact(hs.and hnd).imp fun h=>by dsimp only; omega
 obtain⟨x,hx,rfl⟩:=P6.1 he;obtain⟨k,rfl,h0⟩:=hK x hx;exact⟨k,by rw[Pg],h0⟩
 refine P6.2 ⟨(k:Int),(e7 _).mem_iff.2 (P6.2 ⟨_,g0.all k hk,rfl⟩),?_⟩;rw[Pg]
structure Gd(f:Nat->Nat):Prop where
 sf:∀k,0<f k->SF k/\k<=10000000000000
omit hn in
theorem Gd.of{T:SB (Nat×Nat)}(h:Tms T):Gd (Su T):=⟨fun k hk=>by
 obtain⟨t,ht,e⟩:=zI hk;have hu:=h.u0 t ht;have:=(jz 30000 hu.1 hu.2 (by decide)).2
 have h2:=Fx this;rw[e] at h2;exact⟨e▸this.2.1,by omega⟩⟩
theorem FQ{X:Rs}{f:Nat->Nat}(h:IsR X f)(g:Gd f)(hf:∀k,f k<=1000000000000000)(hl:X.length<=200):LQ n X=some 0:=by
 have key:∀(rest done:Rs) (m:Nat) (last:Int),X=done++rest->rest.length<m->(∀e∈rest,last<e.2)->bR (th n X) m (last,(done.length:Int))=some (.inr ()):=by
  intro rest
  induction rest with
  | nil =>
   intro done m last e hm _;obtain⟨m,rfl⟩:∃j,m=j+1:=⟨m-1,by simp at hm; omega⟩
   rw[PU] at e;subst e;rw[aX];unfold th
   dsimp only
   rw[aD (by omega)]
  | cons x rest ih =>
   intro done m last e hm hlast;obtain⟨m,rfl⟩:∃j,m=j+1:=⟨m-1,by simp at hm; omega⟩
   have hx:X[done.length]? = some x:=by rw[e,PA (Pd _),QP]; rfl
   have hi:done.length<X.length:=(PN.1 hx).1;have hup:=h.up;rw[e,List.pairwise_append] at hup;have h0:=PC.1 hup.2.1;obtain⟨k,ek,h1⟩:=h.el x (by rw[e]; simp)
   have hk:=g.sf k h1;have hfk:=hf k;have hlk:=hlast x P5;rw[ek] at hlk h0 hx
   dsimp only at hlk h0
   rw[aO (s':=((k:Int),((done++[x]).length:Int))),ih (done++[x]) m (k:Int) (by rw[e]; simp) (by simp at hm; omega) h0.1]
   have e0:sF n ((f k:Nat):Int)=some true:=by
    unfold sF;rw[aH (by omega),Po (by omega)]
   have h2:0<k:=hk.1.1;unfold th
   dsimp only
   rw[aH (by omega),aJ hi,aN,Pg,hx,ak]
   dsimp only
   rw[aD (by omega),aD (by omega),aD (by omega),e0,ak,PE,ak,cy,(jz n h2 hk.2 hn).1,ak,zO hk.1]
   dsimp only
   rw[aD (by omega),aV (by omega)]
   simp
 unfold LQ;rw[aD (by omega),show bR (th n X) n (0,0)=_ from key X [] n 0 rfl (by omega) (fun e he=>by
  obtain⟨k,rfl,h1⟩:=h.el e he;have:=(g.sf k h1).1.1
  dsimp only
  omega),ak]
omit hn in
theorem Ba{f:Nat->Nat}:∀{A:SB Nat},A.Nodup->(∀k∈A,SF k)->∀k,Su (A.map fun k=>(f k,k)) k=if k∈A then f k else 0
 | [],_,_,k=>rfl
 | a::A,h,hs,k=>by
  rw[Qz] at h;rw[PS];simp only[Su,one];rw[Ba h.2 (fun k hk=>hs k (P0 _ hk)),zO (hs a P5)]
  dsimp only
  by_cases e:a=k
  subst e;rw[Ph rfl,Pb h.1,Ph P5]; omega
  rw[Pb e,PV]
  by_cases c:k∈A
  rw[Ph c,Ph (P0 _ c)]
  rw[Pb c,Pb fun k'=>by
   rcases Pp.1 k' with k'|k'
   exact e k'.symm
   exact c k']
omit hn in
theorem IsR.nat{X:Rs}{f:Nat->Nat}(h:IsR X f)(g:Gd f):∃T:SB (Nat×Nat),X=T.map zq/\(∀k,Su T k=f k)/\(∀t∈T,∃k,t=(f k,k)/\0<f k):=by
 have e:∀e∈X,e=((f e.2.toNat:Int),((e.2.toNat:Nat):Int))/\0<f e.2.toNat:=fun e he=>by
  obtain⟨k,rfl,h0⟩:=h.el e he
  dsimp only
  rw[Pg];exact⟨rfl,h0⟩
 have hnd:(X.map fun e=>e.2.toNat).Nodup:=by
  rw[List.nodup_iff_pairwise_ne,List.pairwise_map];refine h.up.imp_of_mem fun{a b} ha hb hlt=>?_;obtain⟨k,rfl,_⟩:=h.el a ha;obtain⟨j,rfl,_⟩:=h.el b hb
  dsimp only at hlt ⊢
  omega
 refine⟨(X.map fun e=>e.2.toNat).map fun k=>(f k,k),?_,fun k=>?_,fun t ht=>?_⟩
 rw[List.map_map,List.map_map];have:X.map id=X.map (zq ∘ (fun k=>(f k,k)) ∘ fun e:Int×Int=>e.2.toNat):=List.map_congr_left fun x hx=>(e x hx).1;rw[List.map_id] at this;exact this
 rw[Ba hnd (fun k hk=>by
  obtain⟨x,hx,rfl⟩:=P6.1 hk;exact(g.sf _ (e x hx).2).1)]
 by_cases c:0<f k
 rw[Ph (P6.2 ⟨_,h.all k c,by dsimp only; omega⟩)]
 rw[Pb fun hk=>by
  obtain⟨x,hx,rfl⟩:=P6.1 hk;exact c (e x hx).2]
 omega
 obtain⟨k,hk,rfl⟩:=P6.1 ht;obtain⟨x,hx,rfl⟩:=P6.1 hk;exact⟨_,rfl,(e x hx).2⟩
theorem Kn{X Y:Rs}{f g:Nat->Nat}(h:IsR X f)(k:IsR Y g)(hf:Gd f)(hg:Gd g)(hb:∀k,f k+g k<=1000000000000000)(hl:X.length+Y.length<=200) :
  ∃Z,MN n X Y=some (Z,0)/\IsR Z (fun k=>f k+g k)/\Z.length<=X.length+Y.length:=by
 obtain⟨T,eX,sX,tX⟩:=h.nat hf;obtain⟨U,eY,sY,tY⟩:=k.nat hg;have hT:Tms (T++U):=by
  have l1:X.length=T.length:=by rw[eX,Pk]
  have l3:Y.length=U.length:=by rw[eY,Pk]
  refine⟨by rw[Pm]; omega,fun t ht=>?_,fun t ht=>?_⟩
  rcases PX.1 ht with ht|ht
  obtain⟨j,rfl,h0⟩:=tX t ht;have:=hb j; dsimp only; omega
  obtain⟨j,rfl,h0⟩:=tY t ht;have:=hb j; dsimp only; omega
  rcases PX.1 ht with ht|ht
  obtain⟨j,rfl,h0⟩:=tX t ht;have:=hf.sf j h0;exact⟨this.1.1,this.2⟩
  obtain⟨j,rfl,h0⟩:=tY t ht;have:=hg.sf j h0;exact⟨this.1.1,this.2⟩
 have hS:Su (T++U)=fun k=>f k+g k:=funext fun j=>by rw[ov,sX,sY]
 obtain⟨Z,z2,z1,z3⟩:=FI n hn hT (fun j=>by rw[hS]; exact hb j)
 rw[hS] at z1;have hcat:X++Y=(T++U).map zq:=by rw[Rl,<-eX,<-eY]
 refine⟨Z,?_,z1,by have:=Ps List.length hcat; simp at this; simp at z3; omega⟩
 unfold MN;rw[FQ n hn h hf (fun j=>by have:=hb j; omega) (by omega),ak,show(!decide ((0:Int)=0))=false from rfl,cy,FQ n hn k hg (fun j=>by have:=hb j; omega) (by omega),ak,ak,show(!decide ((0:Int)=0))=false from rfl,cy]
 have e0:RC (0+(X.length:Int))=(X.length:Int):=by rw[aq (by omega) (by omega)]; omega
 have e1:RC ((X.length:Int)+(Y.length:Int))=((X.length+Y.length:Nat):Int):=by rw[aq (by omega) (by omega)]; omega
 have e2:RC (((X.length+Y.length:Nat):Int)-0)=((X.length+Y.length:Nat):Int):=by rw[aq (by omega) (by omega)]; omega
 rw[show bO 0 2=true from rfl,aN,show([X,Y]:SB (Rs))[RD]? = some X from rfl,ak,e0,aD (by omega),show bO 1 2=true from rfl,aN,show([X,Y]:SB (Rs))[(1:Int).toNat]? = some Y from rfl,ak,e1,ak,aD (by omega),e2]
 have e3:(br (decide ((0:Int)<((X.length+Y.length:Nat):Int))) (
   gd (decide ((0:Int)<((X.length+Y.length:Nat):Int))) (gd (lim (((X.length+Y.length:Nat):Int).toNat)) (
   gd (okB 0 0 (((X.length+Y.length:Nat):Int).toNat)) (
   gd (decide (0<(((X.length+Y.length:Nat):Int).toNat))) (
   ob (some ((List.replicate ((X.length+Y.length:Nat):Int).toNat ((0,0):Int×Int)).take RD)) fun l2 =>
   some l2))))) (
   some ([]:Rs)))=some []:=by
  by_cases c:0<X.length+Y.length
  rw[aH (by omega),Po (by omega),aN,show lim (((X.length+Y.length:Nat):Int).toNat)=true from PG (by omega),aN,show okB 0 0 (((X.length+Y.length:Nat):Int).toNat)=true from Po (by omega),aN,Po (by omega),aN,ak]; rfl
  rw[aD (by omega)]
 rw[e3,ak,ak,aN,ak,P7,show lim X.length=true from PG (by omega),aN,aN,ak,show lim (X++Y).length=true from PG (by rw[Pm]; omega),aN,ak,hcat,z2,ak]
end
end
section
open Go Go.Ab Go.Ab.W Go.Ab.B Jd
def jg(e:Nat×Nat):Int×Bool×SB Int:=((e.1:Int),false,Dg e.2)
def ins(k c:Nat):SB (Nat×Nat)->SB (Nat×Nat)
 | []=>[(k,c)]
 | a::P=>if a.1=k then(a.1,a.2+c)::P else if k<a.1 then(k,c)::a::P else a::ins k c P
def Bl(k c:Nat):∀P,(ins k c P).length<=P.length+1
 | []=>by simp[ins]
 | a::P=>by
  rw[ins]
  split
  simp
  split
  simp
  simp only[PD]; have:=Bl k c P; omega
structure IsP(P:SB (Nat×Nat))(f:Nat->Nat):Prop where
 up:P.Pairwise fun a b=>a.1<b.1
 mem:∀e,e∈P↔e.2=f e.1/\0<f e.1
def IsP.nil:IsP [] (fun _=>0):=⟨.nil,fun e=>by simp⟩
def IsP.ext{P:SB (Nat×Nat)}{f g:Nat->Nat}(h:IsP P f)(e:∀k,f k=g k):IsP P g:=by rw[show g=f from funext fun k=>(e k).symm]; exact h
def Bh{k c:Nat}:∀{P:SB (Nat×Nat)} {e:Nat×Nat},e∈ins k c P->e.1=k\/e∈P
 | [],e,h=>by rw[ins,PM] at h; exact .inl (by rw[h])
 | a::P,e,h=>by
  rw[ins] at h
  split at h
  rcases Pp.1 h with g|g
  rename_i q; exact .inl (by rw[g]; exact q)
  exact .inr (P0 _ g)
  split at h
  rcases Pp.1 h with g|g
  exact .inl (by rw[g])
  exact .inr g
  rcases Pp.1 h with g|g
  exact .inr (by rw[g]; exact P5)
  rcases Bh g with q|q
  exact .inl q
  exact .inr (P0 _ q)
def Ev{k c:Nat}:∀{P:SB (Nat×Nat)},(P.Pairwise fun a b=>a.1<b.1)->(ins k c P).Pairwise fun a b=>a.1<b.1
 | [],_=>by rw[ins]; exact List.pairwise_singleton _ _
 | a::P,h=>by
  obtain⟨h1,h2⟩:=PC.1 h;rw[ins]
  split
  exact PC.2 ⟨h1,h2⟩
  split
  rename_i q1 q2;exact PC.2 ⟨fun b hb=>by
   rcases Pp.1 hb with g|g
   rw[g]; exact q2
   exact Nat.lt_trans q2 (h1 b g),h⟩
  rename_i q1 q2;exact PC.2 ⟨fun b hb=>by
   rcases Bh hb with g|g
   rw[g]; omega
   exact h1 b g,Ev h2⟩
def BL{k c:Nat}(hc:0<c):∀{P:SB (Nat×Nat)},(P.Pairwise fun a b=>a.1<b.1)->(∀e∈P,0<e.2)->∀e:Nat×Nat,e∈ins k c P↔(e.1≠k/\e∈P)\/(e.1=k/\((∃d,(k,d)∈P/\e.2=d+c)\/((∀d,(k,d)∉P)/\e.2=c)))
 | [],_,_,e=>by
  rw[ins,PM];constructor
  rintro rfl; exact .inr ⟨rfl,.inr ⟨(fun d h=>nomatch h),rfl⟩⟩
  rintro(⟨_,h⟩|⟨h,⟨d,g,_⟩|⟨_,g⟩⟩)
  cases h
  cases g
  exact QY h g
 | a::P,h,hp,e=>by
  obtain⟨h1,h2⟩:=PC.1 h;have ih:=BL (k:=k) hc h2 (fun e he=>hp e (P0 _ he)) e;rw[ins]
  split
  rename_i q;have hn:∀d,(k,d)∉P:=fun d hd=>by have:=h1 _ hd; omega
  rw[Pp];constructor
  rintro(rfl|g)
  exact .inr ⟨q,.inl ⟨a.2,by rw[<-q]; exact P5,rfl⟩⟩
  have:=h1 e g;exact .inl ⟨by omega,P0 _ g⟩
  rintro(⟨g1,g2⟩|⟨g1,⟨d,g2,g3⟩|⟨g2,_⟩⟩)
  rcases Pp.1 g2 with g|g
  rw[g] at g1; exact Pz q g1
  exact .inr g
  rcases Pp.1 g2 with g|g
  left; rw[<-g]; exact QY g1 g3
  exact Pz g (hn d)
  exact Pz (by rw[<-q]; exact P5) (g2 a.2)
  rename_i q
  split
  rename_i q2;have hn:∀d,(k,d)∉a::P:=fun d hd=>by
   rcases Pp.1 hd with g|g
   rw[<-g] at q; exact q rfl
   have:=h1 _ g; omega
  rw[Pp];constructor
  rintro(rfl|g)
  exact .inr ⟨rfl,.inr ⟨hn,rfl⟩⟩
  refine .inl ⟨fun c=>hn e.2 (by rw[<-c]; exact g),g⟩
  rintro(⟨_,g2⟩|⟨g1,⟨d,g2,_⟩|⟨_,g3⟩⟩)
  exact .inr g2
  exact Pz g2 (hn d)
  exact .inl (QY g1 g3)
  rw[Pp,ih];have hm:∀d,(k,d)∈a::P↔(k,d)∈P:=fun d=>by
   rw[Pp];exact⟨fun g=>g.resolve_left fun c=>q (by rw[<-c]),.inr⟩
  simp only[hm,Pp];constructor
  rintro(rfl|⟨g1,g2⟩|g)
  exact .inl ⟨q,.inl rfl⟩
  exact .inl ⟨g1,.inr g2⟩
  exact .inr g
  rintro(⟨g1,g2|g2⟩|g)
  exact .inl g2
  exact .inr (.inl ⟨g1,g2⟩)
  exact .inr (.inr g)
def IsP.ins{P:SB (Nat×Nat)}{f:Nat->Nat}(h:IsP P f){k c:Nat}(hc:0<c):IsP (YthmekkhpddehjaaGreat.ins k c P) (fun j=>if j=k then f j+c else f j):=by
 refine⟨Ev h.up,fun e=>?_⟩;rw[BL hc h.up (fun e he=>by have:=(h.mem e).1 he; omega)]
 by_cases q:e.1=k
 simp only[q,ne_eq,not_true_eq_false,false_and,false_or,true_and,if_true];simp only[h.mem]
 by_cases f0:0<f k
 constructor
 rintro(⟨d,⟨g1,_⟩,g3⟩|⟨g1,_⟩)
 exact⟨by omega,by omega⟩
 exact Pz ⟨rfl,f0⟩ (g1 (f k))
 rintro⟨g1,g2⟩;exact .inl ⟨f k,⟨rfl,f0⟩,g1⟩
 constructor
 rintro(⟨d,⟨_,g2⟩,g3⟩|⟨g1,g2⟩)
 exact Pz g2 f0
 exact⟨by omega,by omega⟩
 rintro⟨g1,g2⟩;exact .inr ⟨fun d g=>f0 g.2,by omega⟩
 simp only[q,ne_eq,not_false_eq_true,true_and,false_and,or_false,if_false];exact h.mem e
section
variable(n:Nat)
def rW{P:SB (Nat×Nat)}{i:Nat}(h:i<P.length):(P.map jg)[((i:Nat):Int).toNat]? = some ((P[i].1:Int),false,Dg P[i].2):=by
 rw[Pg,PY,Pl h]; rfl
def zU{P:SB (Nat×Nat)}{k c:Nat}(hP:P.length<=500):∀(rest pre:SB (Nat×Nat)) (m:Nat) (acc:SB (Int×Bool×SB Int)),P=pre++rest->rest.length<m->acc.length<=pre.length+1 ->
  bR (fq n (P.map jg) (k:Int) false (Dg c)) m (acc,true,(pre.length:Int))=some (acc++rest.map jg,true)
 | [],pre,m+1,acc,e,_,_=>by
  rw[PU] at e;subst e;rw[List.map_nil,PU,aX];unfold fq
  dsimp only
  rw[Pk,aD (by omega)]
 | a::rest,pre,m+1,acc,e,h1,h2=>by
  have hi:pre.length<P.length:=by rw[e]; simp
  have ha:P[pre.length]'hi=a:=by subst e; simp
  have hpl:pre.length+(rest.length+1)=P.length:=by rw[e]; simp
  rw[aO (s':=(acc++[jg a],true,((pre.length+1:Nat):Int)))]
  have:=zU (k:=k) (c:=c) hP rest (pre++[a]) m (acc++[jg a]) (by rw[e]; simp) (by simpa using h1) (by simp; omega)
  rw[Pm,Qi] at this;rw[this,PS]; simp
  have hlim:lim (acc++[jg a]).length=true:=nY (by simp; omega)
  unfold fq
  dsimp only
  rw[Pk,aH (by omega),PE,cy,ak,cy,cy,ak,cy,ak]
  dsimp only
  rw[aJ hi,aN,rW hi,ak,ha]
  dsimp only
  rw[show[((a.1:Int),false,Dg a.2)]=[jg a] from rfl,hlim,aN,ak]
  dsimp only
  rw[aq (by omega) (by omega)]
  rfl
def DO{P:SB (Nat×Nat)}{k c:Nat}(hP:P.length<=500)(hb:∀e∈P,e.2+c<18446744073709551616)(hn:1000<n):∀(rest pre:SB (Nat×Nat)) (m:Nat) (acc:SB (Int×Bool×SB Int)),P=pre++rest->rest.length<m->acc.length<=pre.length ->
  ∃X b,bR (fq n (P.map jg) (k:Int) false (Dg c)) m (acc,false,(pre.length:Int))=some (X,b)/\(if b=true then X else X++[jg (k,c)])=acc++(ins k c rest).map jg/\X.length<=600
 | [],pre,m+1,acc,e,_,h2=>by
  rw[PU] at e;subst e;refine⟨acc,false,?_,by simp[ins],by omega⟩
  rw[aX];unfold fq
  dsimp only
  rw[Pk,aD (by omega)]
 | a::rest,pre,m+1,acc,e,h1,h2=>by
  have hi:pre.length<P.length:=by rw[e]; simp
  have ha:P[pre.length]'hi=a:=by subst e; simp
  have hpl:pre.length+(rest.length+1)=P.length:=by rw[e]; simp
  have hr:rest.length<m:=by simpa using h1
  by_cases q:a.1=k
  have hlim:lim (acc++[jg (k,a.2+c)]).length=true:=nY (by simp; omega)
  have st:fq n (P.map jg) (k:Int) false (Dg c) (acc,false,(pre.length:Int))=some (.inl (acc++[jg (k,a.2+c)],true,((pre.length+1:Nat):Int))):=by
   unfold fq
   dsimp only
   rw[Pk,aH (by omega),PQ,fG,aJ hi,aN,rW hi,ak,ha]
   dsimp only
   rw[ak,aH (by omega),aN,ak]
   dsimp only
   rw[Bk n (hb a (by rw[e]; simp)) hn,ak]
   dsimp only
   rw[show[((k:Int),false,Dg (a.2+c))]=[jg (k,a.2+c)] from rfl,hlim,aN,ak]
   dsimp only
   rw[aq (by omega) (by omega)]
   rfl
  have:=zU n (k:=k) (c:=c) hP rest (pre++[a]) m (acc++[jg (k,a.2+c)]) (by rw[e]; simp) hr (by simp; omega)
  rw[Pm,Qi] at this;refine⟨_,true,by rw[aO st,this],?_,by simp; omega⟩
  rw[Ph rfl,ins,Ph q,q]; simp
  by_cases q2:k<a.1
  have hl1:lim (acc++[jg (k,c)]).length=true:=nY (by simp; omega)
  have hlim:lim (acc++[jg (k,c)]++[jg a]).length=true:=nY (by simp; omega)
  have st:fq n (P.map jg) (k:Int) false (Dg c) (acc,false,(pre.length:Int))=some (.inl (acc++[jg (k,c)]++[jg a],true,((pre.length+1:Nat):Int))):=by
   unfold fq
   dsimp only
   rw[Pk,aH (by omega),PQ,fG,aJ hi,aN,rW hi,ak,ha]
   dsimp only
   rw[ak,aD (by omega),fG,aN,ak]
   dsimp only
   rw[ak,aH (by omega),show[((k:Int),false,Dg c)]=[jg (k,c)] from rfl,hl1,aN,ak]
   dsimp only
   rw[aN,ak]
   dsimp only
   rw[show[((a.1:Int),false,Dg a.2)]=[jg a] from rfl,hlim,aN,ak]
   dsimp only
   rw[aq (by omega) (by omega)]
   rfl
  have:=zU n (k:=k) (c:=c) hP rest (pre++[a]) m (acc++[jg (k,c)]++[jg a]) (by rw[e]; simp) hr (by simp; omega)
  rw[Pm,Qi] at this;refine⟨_,true,by rw[aO st,this],?_,by simp; omega⟩
  rw[Ph rfl,ins,Pb q,Ph q2]; simp
  have hlim:lim (acc++[jg a]).length=true:=nY (by simp; omega)
  have st:fq n (P.map jg) (k:Int) false (Dg c) (acc,false,(pre.length:Int))=some (.inl (acc++[jg a],false,((pre.length+1:Nat):Int))):=by
   unfold fq
   dsimp only
   rw[Pk,aH (by omega),PQ,fG,aJ hi,aN,rW hi,ak,ha]
   dsimp only
   rw[ak,aD (by omega),fG,aN,ak]
   dsimp only
   rw[ak,aD (by omega),ak]
   dsimp only
   rw[aN,ak]
   dsimp only
   rw[show[((a.1:Int),false,Dg a.2)]=[jg a] from rfl,hlim,aN,ak]
   dsimp only
   rw[aq (by omega) (by omega)]
   rfl
  obtain⟨X,b,g1,g2,g3⟩:=DO hP hb hn rest (pre++[a]) m (acc++[jg a]) (by rw[e]; simp) hr (by simp; omega)
  rw[Pm,Qi] at g1;refine⟨X,b,by rw[aO st,g1],?_,g3⟩
  rw[g2,ins,Pb q,Pb q2]; simp
def HJ{P:SB (Nat×Nat)}{k c:Nat}(hP:P.length<=500)(hb:∀e∈P,e.2+c<18446744073709551616)(hn:1000<n):Ef n (P.map jg) (k:Int) false (Dg c)=some ((ins k c P).map jg):=by
 obtain⟨X,b,g1,g2,g3⟩:=DO n (k:=k) hP hb hn P [] n [] rfl (by omega) (Pd _)
 unfold Ef;rw[show bR (fq n (P.map jg) (k:Int) false (Dg c)) n (([]:SB (Int×Bool×SB Int)),false,0)=some (X,b) from g1,ak]
 dsimp only
 rw[P7] at g2;cases b
 rw[Pb (by decide)] at g2
 rw[PQ,fG,show[((k:Int),false,Dg c)]=[jg (k,c)] from rfl,nY (by simp; omega),aN,ak,g2]
 rw[Ph rfl] at g2;rw[PE,cy,ak,g2]
end
def d2(a b:I2):Nat:=((b.1-a.1)*(b.1-a.1)+(b.2-a.2)*(b.2-a.2)).toNat
def Le{a b:I2}(ha:Nr a)(hb:Nr b)(hab:a≠b):0<d2 a b/\d2 a b<=8000000000000/\(b.1-a.1)*(b.1-a.1)+(b.2-a.2)*(b.2-a.2)=(d2 a b:Int)/\0<=(b.1-a.1)*(b.1-a.1)/\0<=(b.2-a.2)*(b.2-a.2):=by
 unfold Nr at ha hb;have s1:=@NO (b.1-a.1);have s2:=@NO (b.2-a.2);have m1:=eE (B:=2000000) (C:=2000000) (u:=b.1-a.1) (v:=b.1-a.1) (by decide) (by omega) (by omega) (by omega) (by omega)
 have m2:=eE (B:=2000000) (C:=2000000) (u:=b.2-a.2) (v:=b.2-a.2) (by decide) (by omega) (by omega) (by omega) (by omega)
 have h0:(b.1-a.1)*(b.1-a.1)+(b.2-a.2)*(b.2-a.2)≠0:=fun e=>hab (QY (by have:=Mk (show(b.1-a.1)*(b.1-a.1)=0 by omega); omega) (by have:=Mk (show(b.2-a.2)*(b.2-a.2)=0 by omega); omega))
 unfold d2;omega
def one_le{x:Nat}(h0:0<x)(hx:x<=8000000000000)(k:Nat):one (1,x) k<=3000000:=by
 have h:=(jz 30000 h0 (by omega) (by decide)).2
 unfold one
 dsimp only
 split
 rw[Nat.one_mul];refine Pw fun c=>?_;have h1:3000001*3000001<=(dec x).1*(dec x).1:=iR (by omega)
 have h2:(dec x).1*(dec x).1<=x:=by
  have e:=h.2.2;generalize dec x=d at *;rw[e];exact PK _ h.2.1.1
 omega
 omega
def uu{x:Nat}(h0:0<x)(hx:x<=8000000000000):Tms [(1,x)]:=⟨by simp,fun t ht=>by
 rw[PM] at ht; subst ht; dsimp only; omega,fun t ht=>by
 rw[PM] at ht; subst ht; dsimp only; omega⟩
def qq(x:Nat):Su [(1,x)]=one (1,x):=funext fun k=>by simp[Su]
def zS{x:Nat}(h0:0<x)(hx:x<=8000000000000):Gd (one (1,x)):=by
 have:=Gd.of (uu h0 hx);rwa[qq] at this
section
variable(n:Nat)(hn:22000 < n)
include hn
theorem K8{a b:I2}(ha:Nr a)(hb:Nr b)(hab:a≠b):∃X,Mu n a.1 a.2 b.1 b.2=some (X,0)/\IsR X (one (1,d2 a b))/\X.length<=1:=by
 obtain⟨h1,h2,h3,h4,h5⟩:=Le ha hb hab;have ht:=uu h1 h2;obtain⟨X,x1,x2,x3⟩:=FI n hn ht (fun k=>by rw[qq]; have:=one_le h1 h2 k; omega)
 rw[qq] at x2;refine⟨X,?_,x2,x3⟩;have hL:bR (xc n a.1 a.2 b.1 b.2) n 0=some (.inr ()):=by
  refine OE (fun i hi=>?_) ?_ (by omega)
  ·have hq:∃q,[a.1,a.2,b.1,b.2][i]? = some q/\-1000000<=q/\q<=1000000:=by
    unfold Nr at ha hb
    match i,hi with
    | 0,_=>exact⟨_,rfl,by omega,by omega⟩
    | 1,_=>exact⟨_,rfl,by omega,by omega⟩
    | 2,_=>exact⟨_,rfl,by omega,by omega⟩
    | 3,_=>exact⟨_,rfl,by omega,by omega⟩
   obtain⟨q,q1,q2,q3⟩:=hq;unfold xc;rw[aH (by omega),aJ hi,aN,Pg,q1,ak,aD (by omega),PL (by omega),ak,cy,aV (by omega)]
  unfold xc;rw[aD (by decide)]
 unfold Nr at ha hb;have e1:RC (a.1-b.1)=a.1-b.1:=aq (by omega) (by omega)
 have e2:RC (a.2-b.2)=a.2-b.2:=aq (by omega) (by omega)
 have n1:(a.1-b.1)*(a.1-b.1)=(b.1-a.1)*(b.1-a.1):=by grind
 have n2:(a.2-b.2)*(a.2-b.2)=(b.2-a.2)*(b.2-a.2):=by grind
 unfold Mu;rw[hL,ak]
 dsimp only
 rw[e1,e2,n1,n2,aq (x:=(b.1-a.1)*(b.1-a.1)) (by omega) (by omega),ak,aq (x:=(b.2-a.2)*(b.2-a.2)) (by omega) (by omega),ak,h3,aq (by omega) (by omega)]
 have:([((1:Int),((d2 a b:Nat):Int))]:Rs)=[(1,d2 a b)].map zq:=rfl;rw[this,x1,ak]
end
noncomputable def Sp (l:SB I2):Nat->Nat->Nat
 | 0,_=>0
 | i+1,k=>Sp l i k+one (1,d2 (nx l i) (nx l (i+1))) k
section
variable{l:SB I2}(h:Ok l)
include h
theorem Ok.d2(i:Nat):0<d2 (nx l i) (nx l (i+1))/\YthmekkhpddehjaaGreat.d2 (nx l i) (nx l (i+1))<=8000000000000:=by
 have:=Le (h.nr i) (h.nr (i+1)) (h.vr.still i);exact⟨this.1,this.2.1⟩
theorem Eg(k:Nat):∀i,Sp l i k<=3000000*i
 | 0=>by simp[Sp]
 | i+1=>by
  have h1:=Eg k i;have h2:=one_le (h.d2 i).1 (h.d2 i).2 k;simp only[Sp]; omega
theorem FN:∀i,Gd (Sp l i)
 | 0=>⟨fun k hk=>by simp[Sp] at hk⟩
 | i+1=>⟨fun k hk=>by
  by_cases c:0<Sp l i k
  exact(FN i).sf k c
  refine(zS (h.d2 i).1 (h.d2 i).2).sf k ?_;simp only[Sp] at hk; omega⟩
theorem KA(n:Nat)(hn:22000<n):∃X,KG n l=some (X,0)/\IsR X (Sp l l.length)/\X.length<=l.length:=by
 have hL:=h.len;have h3:=h.vr.n3;obtain⟨r,h1,X,hr,h2⟩:=zT (B:=tx n l) (len:=l.length) (σ:=Rs) (fun i X=>((i:Int),X)) (fun i X=>IsR X (Sp l i)/\X.length<=i) (fun r=>∃X,r=.inr X/\IsR X (Sp l l.length)/\X.length<=l.length)
  (fun i X hi hX=>by
   left
   obtain⟨Y,y1,y2,y3⟩:=K8 n hn (h.nr i) (h.nr (i+1)) (h.vr.still i);obtain⟨Z,z1,z2,z3⟩:=Kn n hn hX.1 y2 (FN h i) (zS (h.d2 i).1 (h.d2 i).2) (fun k=>by
    have k1:=Eg h k i;have k2:=one_le (h.d2 i).1 (h.d2 i).2 k;omega) (by omega)
   refine⟨Z,?_,z2,by omega⟩
   have hm:(i+1)%l.length<l.length:=P9 _ (by omega)
   unfold tx
   dsimp only
   rw[aH (by omega),aJ hi,aN,fp hi,ak]
   dsimp only
   rw[aV (by omega),Po (show((l.length:Nat):Int)≠0 by omega),aN,ke,aJ hm,aN,fp hm,ak,rQ]
   dsimp only
   rw[y1,ak]
   dsimp only
   rw[show(!decide ((0:Int)=0))=false from rfl,cy,z1,ak]
   dsimp only
   rw[show(!decide ((0:Int)=0))=false from rfl,cy,ak])
  (fun X hX=>⟨.inr X,by
   unfold tx
   dsimp only
   rw[aD (by omega)],X,rfl,hX⟩) l.length 0 [] n (by omega) (by omega) ⟨⟨List.Pairwise.nil,fun e he=>(by cases he),fun k hk=>(by simp[Sp] at hk)⟩,Pd _⟩
 subst hr;refine⟨X,?_,h2⟩;unfold KG;rw[Dy n h.pt (by omega) (by omega),Ph h.yM,ak,show(!decide ((0:Int)=0))=false from rfl,cy,ak,show bR (tx n l) n (0,([]:Rs))=_ from h1,ak]
 dsimp only
 rw[ak]
end
def out(e:Nat×Nat):Int×Int:=((e.2:Int),(e.1:Int))
section
variable(n:Nat)(hn:22000 < n)
theorem uI{x:Nat}(h:x<=1000000000000000):zJ n (x:Int)=some true:=by
 unfold zJ;rw[aH (by omega),Po (by omega)]
include hn
theorem DE{T:SB (Nat×Nat)}(h:Tms T):bR (wS n (T.map zq)) n 0=some (.inr ()):=by
 have hl:=h.len;refine uq (len:=T.length) (fun i hi=>?_) ?_ (by omega)
 have ht:=h.t0 _ (Qk hi);have hu:=h.u0 _ (Qk hi);unfold wS;rw[Pk,aH (by omega),aJ hi,aN,u7 (Pl hi),ak]
 dsimp only
 rw[aD (by omega),aN,aD (by omega),aN,uI n ht.2,ak,PE,ak,cy,aV (by omega)]
 unfold wS;rw[Pk,aD (by omega)]
omit hn in
theorem GC{x:Nat}(h0:0<x)(hx:x<=10000000000000):(dec x).1<4294967296:=by
 have h:=(jz 30000 h0 hx (by decide)).2
 refine Pw fun c=>?_;have h1:4294967296*4294967296<=(dec x).1*(dec x).1:=iR (by omega)
 have h2:(dec x).1*(dec x).1<=x:=by
  have e:=h.2.2;generalize dec x=d at *;rw[e];exact PK _ h.2.1.1
 omega
theorem rE{T:SB (Nat×Nat)}(h:Tms T)(hb:∀k,Su T k<=1000000000000000):∀(rest done:SB (Nat×Nat)) (m:Nat) (P:SB (Nat×Nat)),T=done++rest->rest.length<m->IsP P (Su done)->P.length<=done.length ->
  ∃P',bR (tZ n (T.map zq)) m (P.map jg,(done.length:Int))=some (P'.map jg)/\IsP P' (Su T)/\P'.length<=T.length
 | [],done,m+1,P,e,_,hP,hl=>by
  rw[PU] at e;subst e;refine⟨P,?_,hP,hl⟩;rw[aX];unfold tZ
  dsimp only
  rw[Pk,aD (by omega)]
 | t::rest,done,m+1,P,e,hm,hP,hl=>by
  have hi:done.length<T.length:=by rw[e]; simp
  have hx:T[done.length]? = some t:=by rw[e]; simp
  have htm:t∈T:=by rw[e]; simp
  have ht:=h.t0 _ htm;have hu:=h.u0 _ htm;have hT:=h.len;have hd:=(jz n hu.1 hu.2 hn).2;have hd1:=GC hu.1 hu.2;have hc:0<t.1*(dec t.2).1:=P3 ht.1 hd.1;have hSu:∀k,Su T k=Su done k+(one t k+Su rest k):=fun k=>by rw[e,ov]; rfl
  have hcb:t.1*(dec t.2).1<=1000000000000000:=by
   have h1:=hb (dec t.2).2;rw[hSu] at h1;unfold one at h1;rw[Ph rfl] at h1;omega
  have hP':IsP (ins (dec t.2).2 (t.1*(dec t.2).1) P) (Su (done++[t])):=(hP.ins hc).ext fun k=>by
   rw[ov];simp only[Su,one,Qh]
   by_cases q:k=(dec t.2).2
   rw[Ph q,Ph q.symm]
   rw[Pb q,Pb fun c=>q c.symm,Qh]
  obtain⟨P',g1,g2,g3⟩:=rE h hb rest (done++[t]) m (ins (dec t.2).2 (t.1*(dec t.2).1) P) (by rw[e]; simp) (by simpa using hm) hP' (by have:=Bl (dec t.2).2 (t.1*(dec t.2).1) P; simp; omega)
  rw[Pm,Qi] at g1;refine⟨P',?_,g2,g3⟩;have hPb:∀e∈P,e.2+t.1*(dec t.2).1<18446744073709551616:=fun e he=>by
   have h1:=(hP.mem e).1 he;have h2:=hb e.1;rw[hSu] at h2;omega
  rw[aO (s':=((ins (dec t.2).2 (t.1*(dec t.2).1) P).map jg,((done.length+1:Nat):Int))),g1];unfold tZ
  dsimp only
  rw[Pk,aH (by omega),aJ hi,aN,u7 hx,ak]
  dsimp only
  rw[aH (by omega),aN,Bt n hu.1 hu.2 hn,ak]
  dsimp only
  rw[aN,p7 n (by omega) (by omega),ak]
  dsimp only
  rw[p7 n (by omega) (by omega),ak]
  dsimp only
  rw[HH n (by omega) hd1 (by omega) (by omega),ak]
  dsimp only
  rw[HJ n (by omega) hPb (by omega),ak,ak,aV (by omega)]
theorem se{P:SB (Nat×Nat)}(hl:P.length<=200)(hc:∀e∈P,0<e.2/\e.2<=1000000000000000):∀(rest done:SB (Nat×Nat)) (m:Nat),P=done++rest->rest.length<m ->
  bR (tH n (P.map jg)) m (done.map out,(done.length:Int))=some (.inr (P.map out))
 | [],done,m+1,e,_=>by
  rw[PU] at e;subst e;rw[aX];unfold tH
  dsimp only
  rw[Pk,aD (by omega)]
 | a::rest,done,m+1,e,hm=>by
  have hi:done.length<P.length:=by rw[e]; simp
  have ha:P[done.length]'hi=a:=by subst e; simp
  have hb:=hc a (by rw[e]; simp)
  have:=se hl hc rest (done++[a]) m (by rw[e]; simp) (by simpa using hm)
  rw[Pm,Qi] at this;rw[aO (s':=((done++[a]).map out,((done.length+1:Nat):Int))),this];unfold tH
  dsimp only
  rw[Pk,aH (by omega),aJ hi,aN,rW hi,ak,ha]
  dsimp only
  rw[AV n (by omega) (by omega),ak]
  dsimp only
  rw[show(!decide ((0:Int)=0))=false from rfl,cy,uI n hb.2,ak,PE,ak,cy,PL (show ¬(a.2:Int)=0 by omega),PQ,fG,aN,nY (by simp; omega),aN,ak]
  dsimp only
  rw[aV (by omega),Rl]
  rfl
theorem E3{T:SB (Nat×Nat)}(h:Tms T)(hb:∀k,Su T k<=1000000000000000):∃X,LY n (T.map zq)=some (X,0)/\IsR X (Su T)/\X.length<=T.length:=by
 have hl:=h.len;obtain⟨P,g1,g2,g3⟩:=rE n hn h hb T [] n [] rfl (by omega) IsP.nil (Pd _)
 have hc:∀e∈P,0<e.2/\e.2<=1000000000000000:=fun e he=>by
  have h1:=(g2.mem e).1 he;have:=hb e.1;omega
 have g4:=se n hn (by omega) hc P [] n rfl (by omega)
 refine⟨P.map out,?_,⟨?_,fun e he=>?_,fun k hk=>?_⟩,by rw[Pk]; omega⟩
 unfold LY;rw[Pk,aD (by omega),DE n hn h,ak]
 dsimp only
 rw[show bR (tZ n (T.map zq)) n (([]:SB (Int×Bool×SB Int)),0)=some (P.map jg) from g1,ak,show bR (tH n (P.map jg)) n (([]:Rs),0)=_ from g4,ak]
 dsimp only
 rw[Pk,aD (by omega)]
 rw[List.pairwise_map];exact g2.up.imp fun h=>by simp only[out]; omega
 obtain⟨a,ha,rfl⟩:=P6.1 he;have h1:=(g2.mem a).1 ha;exact⟨a.1,by simp only[out]; rw[h1.1],h1.2⟩
 exact P6.2 ⟨(k,Su T k),(g2.mem _).2 ⟨rfl,hk⟩,rfl⟩
end
section
variable(n:Nat)(hn:22000 < n)
include hn
theorem DR(X:Rs)(hl:X.length<=200):MK n X X=some true:=by
 have hL:bR (yg n X X) n 0=some (.inr ()):=by
  refine uq (len:=X.length) (fun i hi=>?_) ?_ (by omega)
  unfold yg;rw[aH (by omega),aJ hi,aN,fp hi,ak]
  dsimp only
  rw[aN,ak]
  dsimp only
  rw[nw (nx X i) (nx X i),Po (show nx X i=nx X i from rfl),PE,cy,aV (by omega)]
  unfold yg;rw[aD (by omega)]
 unfold MK;rw[Po (show(X.length:Int)=X.length from rfl),PE,cy,hL,ak]
end
section
variable(n:Nat)(hn:22000 < n)
include hn
theorem D4{X:Rs}{f:Nat->Nat}(h:IsR X f)(g:Gd f)(hf:∀k,f k<=1000000000000000)(hl:X.length<=200):LJ n X=some true:=by
 have key:bR (yy n X) n 0=some (.inr ()):=by
  refine uq (len:=X.length) (fun i hi=>?_) ?_ (by omega)
  obtain⟨k,ek,h0⟩:=h.el X[i] (Qk hi);have hk:=g.sf k h0;have hfk:=hf k;have h1:0<k:=hk.1.1;have hx:X[i]? = some ((f k:Int),(k:Int)):=by rw[Pl hi,ek]
  have hF:=Bt n h1 hk.2 hn;rw[zO hk.1] at hF;have hprev:(br (decide (0<(i:Int))) (gd (bO (RC ((i:Int)-1)) X.length) (ob (X[(RC ((i:Int)-1)).toNat]?) fun(x4,x3)=>some (decide ((k:Int)<=x3)))) (some false))=some false:=by
   by_cases c:0<i
   have hi':i-1<X.length:=by omega
   have hlt:=List.pairwise_iff_getElem.1 h.up (i-1) i hi' hi (by omega)
   rw[ek] at hlt;rw[aH (by omega),aq (by omega) (by omega),show(i:Int)-1=((i-1:Nat):Int) by omega,aJ hi',aN,Pg,Pl hi',ak]
   show some (decide ((k:Int)<=(X[i-1]).2))=some false
   rw[PL (by dsimp only at hlt ⊢; omega)]
   rw[aD (by omega)]
  unfold yy;rw[aH (by omega),aJ hi,aN,Pg,hx,ak]
  dsimp only
  rw[aD (by omega),aD (by omega),aD (by omega),uI n hfk,ak,PE,cy,hprev,ak,cy,hF,ak]
  dsimp only
  rw[aD (by omega),aV (by omega)]
  unfold yy;rw[aD (by omega)]
 unfold LJ;rw[aD (by omega),key,ak]
theorem KT{X Y:Rs}{f g:Nat->Nat}(h:IsR X f)(k:IsR Y g)(hf:Gd f)(hg:Gd g)(hb:∀k,f k+g k<=1000000000000000)(hl:X.length+Y.length<=200) :
  ∃Z,MO n X Y=some (Z,0)/\IsR Z (fun k=>f k+g k)/\Z.length<=X.length+Y.length:=by
 obtain⟨T,eX,sX,tX⟩:=h.nat hf;obtain⟨U,eY,sY,tY⟩:=k.nat hg;have hT:Tms (T++U):=by
  have l1:X.length=T.length:=by rw[eX,Pk]
  have l2:Y.length=U.length:=by rw[eY,Pk]
  refine⟨by rw[Pm]; omega,fun t ht=>?_,fun t ht=>?_⟩
  rcases PX.1 ht with ht|ht
  obtain⟨j,rfl,h0⟩:=tX t ht;have:=hb j; dsimp only; omega
  obtain⟨j,rfl,h0⟩:=tY t ht;have:=hb j; dsimp only; omega
  rcases PX.1 ht with ht|ht
  obtain⟨j,rfl,h0⟩:=tX t ht;have:=hf.sf j h0;exact⟨this.1.1,this.2⟩
  obtain⟨j,rfl,h0⟩:=tY t ht;have:=hg.sf j h0;exact⟨this.1.1,this.2⟩
 have hS:Su (T++U)=fun k=>f k+g k:=funext fun j=>by rw[ov,sX,sY]
 obtain⟨Z,z1,z2,z3⟩:=E3 n hn hT (fun j=>by rw[hS]; exact hb j)
 rw[hS] at z2;have hcat:X++Y=(T++U).map zq:=by rw[Rl,<-eX,<-eY]
 refine⟨Z,?_,z2,by have:=Ps List.length hcat; simp at this; simp at z3; omega⟩
 unfold MO;rw[D4 n hn h hf (fun j=>by have:=hb j; omega) (by omega),ak,PE,cy,D4 n hn k hg (fun j=>by have:=hb j; omega) (by omega),ak,PE,ak,cy,P7,nY (by omega),aN,nY (by rw[Pm]; omega),aN,hcat,z1,ak]
theorem Kf{a b:I2}(ha:Nr a)(hb:Nr b)(hab:a≠b):∃X,NJ n a.1 a.2 b.1 b.2=some (X,0)/\IsR X (one (1,d2 a b))/\X.length<=1:=by
 obtain⟨h1,h2,h3,h4,h5⟩:=Le ha hb hab;have ht:=uu h1 h2;obtain⟨X,x1,x2,x3⟩:=E3 n hn ht (fun k=>by rw[qq]; have:=one_le h1 h2 k; omega)
 rw[qq] at x2;refine⟨X,?_,x2,x3⟩;have far:∀{q:I2},Nr q->LS n q.1 q.2=some false:=fun{q} hq=>by
  unfold Nr at hq;unfold LS;rw[aD (by omega),aD (by omega),aD (by omega),PL (by omega)]
 have hfa:=far ha;have hfb:=far hb;unfold Nr at ha hb;have e1:RC (a.1-b.1)=a.1-b.1:=aq (by omega) (by omega)
 have e2:RC (a.2-b.2)=a.2-b.2:=aq (by omega) (by omega)
 have n1:(a.1-b.1)*(a.1-b.1)=(b.1-a.1)*(b.1-a.1):=by grind
 have n2:(a.2-b.2)*(a.2-b.2)=(b.2-a.2)*(b.2-a.2):=by grind
 unfold NJ;rw[hfa,ak,cy,hfb,ak,ak,cy,e1,e2,n1,n2,aq (x:=(b.1-a.1)*(b.1-a.1)) (by omega) (by omega),ak,aq (x:=(b.2-a.2)*(b.2-a.2)) (by omega) (by omega),ak,h3,aq (by omega) (by omega)]
 have:([((1:Int),((d2 a b:Nat):Int))]:Rs)=[(1,d2 a b)].map zq:=rfl;rw[this,x1,ak]
end
def Ly(n:Nat)(hn:22000<n){l:SB I2}(h:Ok l):∃X,KZ n l=some (X,0)/\IsR X (Sp l l.length)/\X.length<=l.length:=by
 have hL:=h.len;have h3:=h.vr.n3;have hne:l≠[]:=fun c=>by rw[c] at h3; simp at h3
 obtain⟨r,h1,X,hr,h2⟩:=zT (B:=tE n l) (len:=l.length) (σ:=Rs) (fun i X=>(X,(i:Int))) (fun i X=>IsR X (Sp l i)/\X.length<=i) (fun r=>∃X,r=.inr X/\IsR X (Sp l l.length)/\X.length<=l.length)
  (fun i X hi hX=>by
   left
   obtain⟨Y,y1,y2,y3⟩:=Kf n hn (h.nr i) (h.nr (i+1)) (h.vr.still i);obtain⟨Z,z1,z2,z3⟩:=KT n hn hX.1 y2 (FN h i) (zS (h.d2 i).1 (h.d2 i).2) (fun k=>by
    have k1:=Eg h k i;have k2:=one_le (h.d2 i).1 (h.d2 i).2 k;omega) (by omega)
   refine⟨Z,?_,z2,by omega⟩
   unfold tE
   dsimp only
   rw[aH (by omega),aJ hi,aN,fp hi,ak]
   dsimp only
   rw[aV (by omega),qL n (i+1) hne,ak]
   dsimp only
   rw[y1,ak]
   dsimp only
   rw[show(!decide ((0:Int)=0))=false from rfl,cy,z1,ak]
   dsimp only
   rw[show(!decide ((0:Int)=0))=false from rfl,cy])
  (fun X hX=>⟨.inr X,by
   unfold tE
   dsimp only
   rw[aD (by omega)],X,rfl,hX⟩) l.length 0 [] n (by omega) (by omega) ⟨⟨List.Pairwise.nil,fun e he=>(by cases he),fun k hk=>(by simp[Sp] at hk)⟩,Pd _⟩
 subst hr;refine⟨X,?_,h2⟩;unfold KZ;rw[zg n (by omega) (by omega),Ph h.yM,ak,show(!decide ((0:Int)=0))=false from rfl,cy,show bR (tE n l) n (([]:Rs),0)=_ from h1,ak]
def NH(n:Nat)(hn:22000<n){l:SB I2}(hl:l.length<=51)(hp:lh l):∃X r,KG n l=some (X,r)/\KZ n l=some (X,r)/\X.length<=200:=by
 by_cases c:yM l
 have h:=AP.1 c;obtain⟨X,x1,x2,x3⟩:=KA h n hn;obtain⟨Y,y1,y2,y3⟩:=Ly n hn h;rw[<-x2.uniq y2] at y1;exact⟨X,0,x1,y1,by have:=h.len; omega⟩
 refine⟨[],140,?_,?_,by decide⟩
 unfold KG;rw[Dy n hp (by omega) (by omega),Pb c,ak]; rfl
 unfold KZ;rw[zg n (by omega) (by omega),Pb c,ak]; rfl
def Iv(n:Nat){raw:SB I2}(hr:lh raw){l:SB Nat}{x5 x6:Int}{x7:Nat}(d:Dr l x5 x6 x7)(row turned:Bool){w1 a1 t1 w2 a2 t2:Nat}{p1 q1 p2 q2:Int}(b1:Bd a1 t1 p1 q1)(b2:Bd a2 t2 p2 q2)(hn:22000<n) :
  F9 n raw l x5 x6 x7 row turned w1 a1 t1 p1 q1 w2 a2 t2 p2 q2=some true:=by
 obtain⟨r,s,t,h1,h2⟩:=Kx n hr d row turned (w1:=w1) (w2:=w2) b1 b2 (by omega)
 unfold F9;rw[h1,ak]
 try dsimp only
 generalize qV l x5 x6 x7 row turned=o at *;have hl:∀i:Nat,i<4->∃k,[o,r,s,t][i]? = some k/\k.length<=51/\lh k:=fun i hi=>by
  refine⟨[o,r,s,t][i]'hi,Pl hi,h2 _ (Qk _)⟩
 have L2:bR (D1 n o r s t) n 0=some (.inr ()):=by
  refine OE (fun i hi=>?_) ?_ (by omega)
  rotate_left
  ·unfold D1
   try dsimp only
   rw[aD (by decide)]
  obtain⟨k,e,h3,h4⟩:=hl i hi;obtain⟨X,q,k1,k2,k3⟩:=NH n hn h3 h4;unfold D1
  try dsimp only
  rw[aH (by omega),aJ hi,aN,Pg,e,ak,k1,ak]
  try dsimp only
  rw[k2,ak]
  try dsimp only
  rw[Po (rfl:q=q),PE,cy,DR n hn X k3,ak,PE,ak,cy,aV (by omega)]
 rw[L2,ak]
 rfl
end
end Go.Proofs.YthmekkhpddehjaaGreat
