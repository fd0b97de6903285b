/- A part of the proof. -/
import Derived.Test.YtpkadoocdgdcfaaGreatDoorKs7
import Derived.Lib.Mul64
import Derived.Test.YtpkadoocdgdcfaaGreatDoorRows
import Derived.Test.YtpkadoocdgdcfaaGreatDoorTie
import Derived.Test.YtpkadoocdgdcfaaGreatDoorCards
import Derived.Stop.Joined
import Derived.SevenTiedAt
set_option linter.all false
section
namespace Go.Proofs.YtpkadoocdgdcfaaGreatDoor
section
open Go Go.Ab Go.Ab.W
section
variable{α β σ ρ:Type}
def tK(a b:PE β):br true a b=a:=rfl
def dS(a b:PE β):br false a b=b:=rfl
def bC(a:PE β):gd true a=a:=rfl
def an(x:α)(f:α->PE β):ob (some x) f=f x:=rfl
def bK{p:Prop}[Decidable p](h:p)(a b:PE β):br (decide p) a b=a:=by rw[M4 h]; rfl
def PF{p:Prop}[Decidable p]{a b:PE β}(h:p:=by omega):br (decide p) a b=a:=bK h a b
def bj{p:Prop}[Decidable p](h:¬p)(a b:PE β):br (decide p) a b=b:=by rw[Nv h]; rfl
def PG{p:Prop}[Decidable p]{a b:PE β}(h:¬p:=by omega):br (decide p) a b=b:=bj h a b
def fi{p:Prop}[Decidable p](h:p)(a:PE β):gd (decide p) a=a:=by rw[M4 h]; rfl
def aK{i n:Nat}(h:i<n):cP (i:Int) n=true:=M4 ⟨Nt i,by simpa using h⟩
def bf{x:Int}(h1 : -9223372036854775808<=x)(h2:x<9223372036854775808):OT x=x:=wrap_i64 x h1 (by omega)
def aV{i:Nat}(h:i<4611686018427387904):OT ((i:Int)+1)=((i+1:Nat):Int):=by rw[bf (by omega) (by omega)]; rfl
def PH{i:Nat}(h:i<4611686018427387904:=by omega):OT ((i:Int)+1)=((i+1:Nat):Int):=aV h
def cC{body:σ->PE (σ⊕ρ)}{n:Nat}{s s':σ}(h:body s=some (.inl s')):cT body (n+1) s=cT body n s':=by simp only[cT,h]
def dV{body:σ->PE (σ⊕ρ)}{n:Nat}{s:σ}{r:ρ}(h:body s=some (.inr r)):cT body (n+1) s=some r:=by simp only[cT,h]
end
def nJ{n:Nat}(h:n<=1073741824):lim n=true:=M6 h
structure Okay(N:Nat)(es:OI):Prop where
 pos:1<=N
 le:N<=64
 len:es.length<=200
 mem:∀e∈es,∃a b:Nat,e=((a:Int),(b:Int))/\a<b/\b<N
def bl(x:Nat):Nat:=if x=0 then 0 else Nat.log2 x+1
def qb{x k:Nat}:k<bl x↔2 ^ k<=x:=by
 unfold bl
 by_cases h:x=0
 subst h;rw[MG rfl];have:=Nat.two_pow_pos k;omega
 rw[ME h,Nat.lt_succ_iff,Nat.le_log2 h]
def BX{x m:Nat}(h:∀k,k<m↔2 ^ k<=x):m=bl x:=by
 rcases Nat.lt_trichotomy m (bl x) with h1|h1|h1
 have:=(h m).2 (qb.1 h1); omega
 exact h1
 have:=qb.2 ((h (bl x)).1 h1); omega
def Cg{x s:Nat}(h:2 ^ s<=x):bl (x >>> s)+s=bl x:=by
 refine BX fun k=>?_;rw[Nat.shiftRight_eq_div_pow]
 by_cases hk:k<s
 have:2 ^ k<=2 ^ s:=MY (by decide) (by omega)
 constructor
 intro _; omega
 intro _; omega
 obtain⟨d,rfl⟩:∃d,k=d+s:=⟨k-s,by omega⟩
 have h1:=qb (x:=x/2 ^ s) (k:=d);have h2:2 ^ (d+s)<=x↔2 ^ d<=x/2 ^ s:=by rw[N2,Nat.le_div_iff_mul_le (Nat.two_pow_pos s)]
 rw[h2,<-h1]; omega
def Ik:∀y:Fin 256,gr[y.val]? = some (bl y.val):=by decide +kernel
def CP{x s:Nat}(h:x<2 ^ s):bl x<=s:=by
 rcases M7 s (bl x) with h1|h1
 have:=qb.1 h1; omega
 exact h1
def ri(s y m:Nat)(hs:s<=32)(hy:y<2 ^ (2*s))(hm:m<=64):∃y' m':Nat,br (decide (2 ^ s<=y)) (some (di .u64 y s,OT ((m:Int)+(s:Int)))) (some (y,(m:Int)))=some (y',(m':Int))/\y'<2 ^ s/\bl y'+m'=bl y+m/\m'<=m+s:=by
 by_cases h:2 ^ s<=y
 refine⟨y >>> s,m+s,?_,?_,?_,MA _⟩
 rw[bK h,Er (by omega),bf (by omega) (by omega)]; rfl
 rw[Nat.shiftRight_eq_div_pow,Nr (Nat.two_pow_pos s),<-N2];rw[Nat.two_mul] at hy; exact hy
 have:=Cg h; omega
 exact⟨y,m,bj h _ _,by omega,rfl,by omega⟩
def Aw(n x:Nat)(hx:x<2 ^ 64):Dy n x=some ((bl x:Nat):Int):=by
 unfold Dy;obtain⟨y1,m1,e1,h1,b1,g1⟩:=ri 32 x 0 (by omega) hx (by omega)
 have e1':br (decide (4294967296<=x)) (some (di .u64 x 32,(32:Int))) (some (x,0))=some (y1,(m1:Int)):=e1;rw[e1',an];obtain⟨y2,m2,e2,h2,b2,g2⟩:=ri 16 y1 m1 (by omega) h1 (by omega)
 have e2':br (decide (65536<=y1)) (some (di .u64 y1 16,OT ((m1:Int)+16))) (some (y1,(m1:Int)))=some (y2,(m2:Int)):=e2;simp only[e2',an];obtain⟨y3,m3,e3,h3,b3,g3⟩:=ri 8 y2 m2 (by omega) h2 (by omega)
 have e3':br (decide (256<=y2)) (some (di .u64 y2 8,OT ((m2:Int)+8))) (some (y2,(m2:Int)))=some (y3,(m3:Int)):=e3;simp only[e3',an];have h3:y3<256:=h3;have e:uw .u8 y3=y3:=Nh h3;have h8:bl y3<=8:=CP h3;have ht:gr[y3]? = some (bl y3):=Ik ⟨y3,h3⟩;have w1:OT ((bl y3:Nat):Int)=((bl y3:Nat):Int):=bf (by omega) (by omega)
 rw[e,aK h3,bC,Mx,ht,an,w1,bf (by omega) (by omega)]
 simp only[Option.some.injEq]; omega
def DQ{σ ρ τ:Type}{body:τ->PE (τ⊕ρ)}(N:Nat)(mk:σ->Int->τ)(fin:σ->ρ)(I:Nat->σ->Prop)
  (hs:∀s i,i<N->I i s->∃s',body (mk s (i:Int))=some (.inl (mk s' ((i+1:Nat):Int)))/\I (i+1) s') (he:∀s,I N s->body (mk s (N:Int))=some (.inr (fin s))) :
  ∀(k i n:Nat) (s:σ),i+k=N->I i s->k<n->∃s',cT body n (mk s (i:Int))=some (fin s')/\I N s':=by
 intro k
 induction k with
 | zero =>
  intro i n s hi hI hn;obtain⟨n,rfl⟩:∃n',n=n'+1:=⟨n-1,by omega⟩
  have:i=N:=by omega
  subst this;exact⟨s,by simp only[cT,he s hI],hI⟩
 | succ k ih =>
  intro i n s hi hI hn;obtain⟨n,rfl⟩:∃n',n=n'+1:=⟨n-1,by omega⟩
  obtain⟨s',h1,h2⟩:=hs s i (by omega) hI
  simp only[cT,h1];exact ih (i+1) n s' (by omega) h2 (by omega)
def bW{σ ρ τ:Type}{body:τ->PE (τ⊕ρ)}(N:Nat)(mk:σ->Int->τ)(fin:σ->ρ)(I:Nat->σ->Prop)
  (hs:∀s i,i<N->I i s->∃s',body (mk s (i:Int))=some (.inl (mk s' ((i+1:Nat):Int)))/\I (i+1) s') (he:∀s,I N s->body (mk s (N:Int))=some (.inr (fin s)))
  {n:Nat} {s:σ} (hI:I 0 s) (hn:N<n):∃s',cT body n (mk s 0)=some (fin s')/\I N s' :=
 DQ N mk fin I hs he N 0 n s (by omega) hI hn
section
variable{n0 M:Nat}{l6:PM Int}{es:OI}
end
def val(w:Nat):PM Nat->Nat
 | []=>0
 | d::ds=>d+2 ^ w*val w ds
end
section
open Go Go.Ab Go.Ab.W
def vl:PM Nat->Nat
 | []=>0
 | d::l=>d+18446744073709551616*vl l
def Wd(l:PM Nat):Prop:=∀d∈l,d<18446744073709551616
def wp(k:Nat):Nat:=18446744073709551616 ^ k
def Hg:wp 0=1:=rfl
def iC(k:Nat):wp (k+1)=18446744073709551616*wp k:=by unfold wp; rw[Nat.pow_succ,M9]
def IE(a b:Nat):wp (a+b)=wp a*wp b:=N2 _ _ _
def yD(k:Nat):0<wp k:=Nat.pow_pos (by decide)
def ig:vl []=0:=rfl
def eu(d:Nat)(l:PM Nat):vl (d::l)=d+18446744073709551616*vl l:=rfl
def kv(a b:PM Nat):vl (a++b)=vl a+wp a.length*vl b:=by
 induction a with
 | nil=>simp[vl,wp]
 | cons d a ih=>rw[List.cons_append,eu,eu,ih,Ni,iC,NM,MT,OB]
def jV{l:PM Nat}(h:Wd l):vl l<wp l.length:=by
 induction l with
 | nil=>exact Nat.one_pos
 | cons d l ih =>
  have h1:=h d Oi;have h2:=ih fun e he=>h e (List.mem_cons_of_mem _ he);rw[eu,Ni,iC];omega
def iS(k:Nat):vl (List.replicate k 0)=0:=by
 induction k with
 | zero=>rfl
 | succ k ih=>rw[NQ,eu,ih]
def Wd.nil:Wd []:=fun _ h=>nomatch h
def Wd.zeros(k:Nat):Wd (List.replicate k 0):=fun d hd=>by rw[List.eq_of_mem_replicate hd]; decide
def Wd.app{a b:PM Nat}(ha:Wd a)(hb:Wd b):Wd (a++b):=fun d hd=>(NW.1 hd).elim (ha d) (hb d)
def Wd.left{a b:PM Nat}(h:Wd (a++b)):Wd a:=fun d hd=>h d (NW.2 (.inl hd))
def Wd.one{d:Nat}(h:d<18446744073709551616):Wd [d]:=fun e he=>by rw[NH.1 he]; exact h
def Wd.at{l:PM Nat}(h:Wd l){i d:Nat}(hi:l[i]? = some d):d<18446744073709551616:=h d (M5 hi)
def Wd.set{l:PM Nat}(h:Wd l){i d:Nat}(hd:d<18446744073709551616):Wd (l.set i d):=fun e he=>by
 rcases List.mem_or_eq_of_mem_set he with h1|rfl
 exact h e h1
 exact hd
def Wd.take{l:PM Nat}(h:Wd l)(k:Nat):Wd (l.take k):=fun d hd=>h d (List.mem_of_mem_take hd)
def eC(l:PM Nat)(i:Nat)(hi:i<=l.length):vl l=vl (l.take i)+wp i*vl (l.drop i):=by
 have:=kv (l.take i) (l.drop i);rwa[List.take_append_drop,NK,Nw hi] at this
def jY{l:PM Nat}{i d:Nat}(hi:l[i]? = some d):vl (l.drop i)=d+18446744073709551616*vl (l.drop (i+1)):=by
 obtain⟨h1,h2⟩:=ML.1 hi;rw[List.drop_eq_getElem_cons h1,eu,h2]
def zp{l:PM Nat}{i d:Nat}(e:Nat)(hi:l[i]? = some d):vl (l.set i e)+wp i*d=vl l+wp i*e:=by
 obtain⟨h1,h2⟩:=ML.1 hi;have a:=eC l i (Oa h1);have b:=eC (l.set i e) i (by rw[Og]; exact Oa h1)
 have c:(l.set i e)[i]? = some e:=by rw[N0 h1]
 rw[jY hi] at a;rw[jY c,List.take_set_of_le (MA i),List.drop_set_of_lt (show i<i+1 from Nq i)] at b
 rw[a,b,NM,NM];omega
structure Lg(z:Int)(s:Bool)(l:PM Nat):Prop where
 wd:Wd l
 last:∀d,l.getLast? = some d->d≠0
 val:z=if s then -(vl l:Int) else(vl l:Int)
 sign:s=true->l≠[]
def jP{l:PM Nat}(h:∀d,l.getLast? = some d->d≠0)(hl:l≠[]):wp (l.length-1)<=vl l:=by
 obtain⟨a,d,rfl⟩:∃a d,l=a++[d]:=⟨l.dropLast,l.getLast hl,(List.dropLast_concat_getLast hl).symm⟩;have h1:=h d (by simp)
 rw[kv,MV,List.length_singleton,Nat.add_sub_cancel,eu,ig];have:wp a.length*1<=wp a.length*(d+18446744073709551616*0):=Np _ (by omega)
 omega
def jI{l:PM Nat}(h:∀d,l.getLast? = some d->d≠0):vl l=0↔l=[]:=by
 refine⟨fun h1=>?_,fun h1=>by rw[h1]; rfl⟩
 by_cases hl:l=[]
 exact hl
 have:=jP h hl;have:=yD (l.length-1);omega
def sr{d:Nat}{l:PM Nat}(h:∀e,(d::l).getLast? = some e->e≠0):∀e,l.getLast? = some e->e≠0:=by
 intro e he;cases l with
 | nil=>cases he
 | cons a l=>exact h e (by rw[List.getLast?_cons_cons]; exact he)
def Iu:∀{l k:PM Nat},Wd l->Wd k->(∀d,l.getLast? = some d->d≠0)->(∀d,k.getLast? = some d->d≠0)->vl l=vl k->l=k:=by
 intro l
 induction l with
 | nil=>intro k _ _ _ hk h; exact((jI hk).1 h.symm).symm
 | cons d l ih =>
  intro k wl wk hl hk h;cases k with
  | nil=>exact MX ((jI hl).1 h) (by simp)
  | cons e k =>
   have h1:=wl d Oi;have h2:=wk e Oi;rw[eu,eu] at h;have h3:d=e:=by omega
   have h4:vl l=vl k:=by omega
   rw[h3,ih (fun x hx=>wl x (List.mem_cons_of_mem _ hx)) (fun x hx=>wk x (List.mem_cons_of_mem _ hx)) (sr hl) (sr hk) h4]
def Lg.inj{z:Int}{s t:Bool}{l k:PM Nat}(h:Lg z s l)(h':Lg z t k):s=t/\l=k:=by
 have a:=h.val;have b:=h'.val;have hz:=jI h.last;have hz':=jI h'.last;have e:vl l=vl k:=by
  cases s<;>cases t<;>simp only[MJ,if_false,if_true] at a b<;>omega
 have e':=Iu h.wd h'.wd h.last h'.last e;refine⟨?_,e'⟩;subst e';cases s<;>cases t<;>simp only[MJ,if_false,if_true] at a b
 rfl
 exact MX (hz.1 (by omega)) (h'.sign rfl)
 exact MX (hz.1 (by omega)) (h.sign rfl)
 rfl
def rG(s:Bool)(x:Nat):Int:=if s then -(x:Int) else(x:Int)
def Lg.zero:Lg 0 false []:={ wd:=Wd.nil,last:=fun _ h=>(nomatch h),val:=rfl,sign:=fun h=>(nomatch h)}
def Lg.small{x:Nat}(h0:x≠0)(h:x<18446744073709551616)(s:Bool):Lg (rG s x) s [x]:=⟨Wd.one h,fun d hd=>by simp at hd; omega,by simp[rG,vl],fun _=>by simp⟩
def Lg.EU{z:Int}{s:Bool}{l:PM Nat}(h:Lg z s l):s=decide (z<0):=by
 have a:=h.val;have hz:=jI h.last;cases s with
 | false=>simp only[MJ,if_false] at a; rw[Nv (by omega)]
 | true =>
  simp only[if_true] at a;have:vl l≠0:=fun e=>h.sign rfl (hz.1 e);rw[M4 (by omega)]
def Lg.abs{z:Int}{s:Bool}{l:PM Nat}(h:Lg z s l):vl l=z.natAbs:=by
 have a:=h.val;cases s<;>simp only[MJ,if_false,if_true] at a<;>omega
def Lg.Lu{z:Int}{s:Bool}{l:PM Nat}(h:Lg z s l):l=[]↔z=0:=by
 rw[<-jI h.last,h.abs]; omega
end
section
open Go Go.Ab Go.Ab.W
def fu{n:Nat}(s:Bool){l:PM Nat}(hl:Wd l)(hb:l.length<4611686018427387904)(hn:l.length<n) :
  ∃t k,j4 n s l=some (t,k)/\Lg (rG s (vl l)) t k:=by
 have hL:∀i m,i<=l.length->i<m->vl (l.drop i)=0->∃j,cT (fb n l) m ((i:Nat):Int)=some ((j:Nat):Int)/\j<=l.length/\vl (l.drop j)=0/\∀d,(l.take j).getLast? = some d->d≠0:=by
  intro i
  induction i with
  | zero =>
   intro m _ hm h0;obtain⟨m,rfl⟩:∃m',m=m'+1:=⟨m-1,by omega⟩
   refine⟨0,dV ?_,NV _,h0,fun d hd=>by simp at hd⟩
   unfold fb;rw[bj (by decide)]; rfl
  | succ i ih =>
   intro m hi hm h0;obtain⟨m,rfl⟩:∃m',m=m'+1:=⟨m-1,by omega⟩
   have hi':i<l.length:=hi;have e0:OT (((i+1:Nat):Int)-1)=((i:Nat):Int):=by rw[bf (by omega) (by omega)]; omega
   have e1:l[((i:Nat):Int).toNat]? = some l[i]:=by simp[hi']
   have e2:l[i]? = some l[i]:=by simp[hi']
   by_cases hz:l[i]=0
   have:fb n l ((i+1:Nat):Int)=some (.inl ((i:Nat):Int)):=by
    unfold fb;rw[PF,e0,aK hi',bC,e1,an,an,bK hz]
   rw[cC this];exact ih m (Oa hi') (by omega) (by rw[jY e2,hz,h0])
   refine⟨i+1,dV ?_,hi,h0,fun d hd=>?_⟩
   unfold fb;rw[PF,e0,aK hi',bC,e1,an,an,bj hz]
   rw[List.getLast?_eq_getElem?,NK,Nw hi,Nat.add_sub_cancel,List.getElem?_take_of_lt (Nq i),e2] at hd;cases hd;exact hz
 obtain⟨j,h1,h2,h3,h4⟩:=hL l.length n (MA _) hn (by rw[OC]; rfl)
 have hv:vl l=vl (l.take j):=by rw[eC l j h2,h3]; omega
 have hk:okB 0 ((j:Nat):Int) l.length=true:=M4 ⟨by omega,by omega,by omega⟩
 have ht:(l.drop OU).take (((j:Nat):Int).toNat-OU)=l.take j:=by simp
 have hz:=jI h4;unfold j4;rw[h1,an];cases s with
 | false =>
  refine⟨false,l.take j,?_,hl.take j,h4,?_,fun h=>nomatch h⟩
  rw[dS,hk,bC,ht]
  rw[hv]; rfl
 | true =>
  refine⟨decide (0<((j:Nat):Int)),l.take j,?_,hl.take j,h4,?_,fun h e=>?_⟩
  rw[tK,hk,bC,ht]
  rw[hv]
  by_cases hj:0<((j:Nat):Int)
  rw[M4 hj]; rfl
  have:j=0:=by omega
  subst this
  rfl
  have h5:=of_decide_eq_true h;have:=NS List.length e;rw[NK,Nw h2] at this;simp at this;omega
def sJ(l:PM Nat)(i:Nat):∃y,vl (l.drop i)=y+18446744073709551616*vl (l.drop (i+1))/\(Wd l->y<18446744073709551616) /\
  (br (decide (((i:Nat):Int)<(l.length:Int))) (gd (cP ((i:Nat):Int) l.length) (ob (l[((i:Nat):Int).toNat]?) fun x=>some x)) (some 0))=some y:=by
 by_cases h:i<l.length
 have e2:l[i]? = some l[i]:=by simp[h]
 exact⟨l[i],jY e2,fun w=>w.at e2,by rw[PF,aK h,bC,Mx,e2]; rfl⟩
 refine⟨0,?_,fun _=>by decide,by rw[PG]⟩
 rw[Ow (by omega),Ow (by omega)]; rfl
def xu{a:PM Nat}{k e d:Nat}:(a++e::List.replicate k 0).set a.length d=(a++[d])++List.replicate k 0:=by
 rw[List.set_append_right _ _ (MA _),Ou,List.set_cons_zero,List.append_assoc]; rfl
def pC(a:PM Nat)(d:Nat):vl (a++[d])=vl a+wp a.length*d:=by rw[kv,eu,ig]; rfl
def Hm{n:Nat}{l k:PM Nat}(hl:Wd l)(hk:Wd k)(hb:l.length<1073741824)(hb':k.length<1073741824)(hn:l.length<n)(hn':k.length<n) :
  ∃r,DW n l k=some r/\Wd r/\vl r=vl l+vl k/\r.length<=l.length+k.length+1:=by
 have key:∀a b:PM Nat,Wd a->Wd b->a.length<1073741824->b.length<=a.length->a.length<n->∃r,(gd (decide (0<=OT ((a.length:Int)+1))) (gd (lim ((OT ((a.length:Int)+1)).toNat)) (
   ob (cT (lX n a b) n ((List.replicate (OT ((a.length:Int)+1)).toNat (0:Nat)),(OT ((a.length:Int)+1)).toNat,0,0)) fun(l1,n2,v0) =>
   gd (cP (a.length:Int) n2) (ob (l1[(a.length:Int).toNat]?) fun x3=>some (l1.set ((a.length:Int).toNat) v0)))))=some r/\Wd r/\vl r=vl a+vl b/\r.length=a.length+1:=by
  intro a b ha h4 hba hab hna;have w1:OT ((a.length:Int)+1)=((a.length+1:Nat):Int):=by rw[bf (by omega) (by omega)]; rfl
  have hL:∀j i m p c,i+j=a.length->j<m->p.length=i->Wd p->c<=1->vl p+wp i*(c+vl (a.drop i)+vl (b.drop i))=vl a+vl b ->
    ∃q c',cT (lX n a b) m (p++List.replicate (j+1) 0,a.length+1,c,((i:Nat):Int))=some (q++[0],a.length+1,c')/\q.length=a.length/\Wd q/\c'<=1/\vl q+wp a.length*c'=vl a+vl b:=by
   intro j
   induction j with
   | zero =>
    intro i m p c hij hm hp wp' hc hv;obtain⟨m,rfl⟩:∃m',m=m'+1:=⟨m-1,by omega⟩
    have hi:i=a.length:=by omega
    refine⟨p,c,dV ?_,by omega,wp',hc,?_⟩
    unfold lX
    dsimp only
    rw[PG]; rfl
    subst hi;rw[OC,Ow (by omega),ig] at hv
    simpa using hv
   | succ j ih =>
    intro i m p c hij hm hp wp' hc hv;obtain⟨m,rfl⟩:∃m',m=m'+1:=⟨m-1,by omega⟩
    have hi:i<a.length:=by omega
    obtain⟨x,e2⟩:∃x,a[i]? = some x:=⟨a[i],by simp[hi]⟩
    have hx:=ha.at e2;obtain⟨y,y1,y2,y3⟩:=sJ b i;have y2:=y2 h4;have e0:(p++List.replicate (j+1+1) 0)[((i:Nat):Int).toNat]? = some 0:=by
     rw[Mx,M1 (by omega),Oo]; simp; omega
    have st:lX n a b (p++List.replicate (j+1+1) 0,a.length+1,c,((i:Nat):Int))=some (.inl ((p++[(x+y+c)%18446744073709551616])++List.replicate (j+1) 0,a.length+1,(x+y+c)/18446744073709551616,((i+1:Nat):Int))):=by
     unfold lX
     dsimp only
     rw[PF,aK hi,bC,Mx,e2,an]
     rw[Mx] at y3 e0;rw[y3,an];unfold B0;rw[fi hc,an]
     dsimp only
     rw[aK (show i<a.length+1 by omega),bC,e0,an,PH,<-hp,NQ,xu]
    rw[cC st];refine ih (i+1) m _ _ (by omega) (by omega) (by rw[MV,hp]; rfl) (wp'.app (Wd.one (Nx _ (by decide)))) (by omega) ?_
    rw[<-hv,pC,hp,iC,jY e2,y1];have h1:∀s:Nat,s=s%18446744073709551616+18446744073709551616*(s/18446744073709551616):=fun s=>(Nat.mod_add_div s _).symm;have h2:=h1 (x+y+c);generalize(x+y+c)%18446744073709551616=lo at h2 ⊢;generalize(x+y+c)/18446744073709551616=hi' at h2 ⊢;have h3:c+(x+18446744073709551616*vl (a.drop (i+1)))+(y+18446744073709551616*vl (b.drop (i+1)))=lo+18446744073709551616*(hi'+vl (a.drop (i+1))+vl (b.drop (i+1))):=by omega
    rw[h3,NM (wp i),Nf (wp i),<-MT,OB,OB]
  obtain⟨q,c',h1,h2,h3,h0,h5⟩:=hL a.length 0 n [] 0 (by omega) hna rfl Wd.nil (by omega) (by simp[vl,wp])
  refine⟨q++[c'],?_,h3.app (Wd.one (by omega)),by rw[pC,h2,h5],by rw[MV,h2]; rfl⟩
  rw[w1,fi (by omega)]
  have hlim:lim ((a.length+1:Nat):Int).toNat=true:=nJ (by omega)
  rw[hlim,bC,Mx];rw[show(List.replicate (a.length+1) (0:Nat),a.length+1,(0:Nat),(0:Int))=(([]:PM Nat)++List.replicate (a.length+1) 0,a.length+1,0,((0:Nat):Int)) from rfl,h1,an]
  dsimp only
  rw[aK (Nq _),bC,Mx,<-h2,M1 (MA _),Ou];rw[show([0]:PM Nat)[0]? = some 0 from rfl,an,List.set_append_right _ _ (MA _),Ou]
  rfl
 unfold DW
 by_cases h:l.length<k.length
 rw[PF,an]
 obtain⟨r,h1,h2,h3,h0⟩:=key k l hk hl hb' (Oa h) hn';exact⟨r,h1,h2,by omega,by omega⟩
 rw[PG,an]
 obtain⟨r,h1,h2,h3,h0⟩:=key l k hl hk hb (by omega) hn
 exact⟨r,h1,h2,h3,by omega⟩
end
section
open Go Go.Ab Go.Ab.W
def AU{n:Nat}{l k:PM Nat}(hl:Wd l)(hk:Wd k)(ll:∀d,l.getLast? = some d->d≠0)(lk:∀d,k.getLast? = some d->d≠0)(hb:l.length<1073741824)(hb':k.length<1073741824)(hn:l.length<n) :
  ∃r:Int,BU n l k=some r/\(r<0↔vl l<vl k)/\(0<r↔vl k<vl l):=by
 have big:∀a b:PM Nat,Wd a->(∀d,b.getLast? = some d->d≠0)->a.length<b.length->vl a<vl b:=by
  intro a b ha hb h;have h1:=jV ha;have h2:=jP hb (by intro e; rw[e] at h; exact Nat.not_lt_zero _ h)
  have h3:wp a.length<=wp (b.length-1):=MY (by decide) (by omega)
  omega
 unfold BU
 by_cases h:l.length=k.length
 ·rw[M4 (show(l.length:Int)=(k.length:Int) by omega),MO,dS]
  have hL:∀i m,i<=l.length->i<m->vl (l.drop i)=vl (k.drop i)->∃r,cT (kJ n l k) m ((i:Int)-1)=some r /\
    ((r=.inl (-1)/\vl l<vl k)\/(r=.inl 1/\vl k<vl l)\/(r=.inr ()/\vl l=vl k)):=by
   intro i
   induction i with
   | zero =>
    intro m _ hm h0;obtain⟨m,rfl⟩:∃m',m=m'+1:=⟨m-1,by omega⟩
    refine⟨.inr (),dV ?_,.inr (.inr ⟨rfl,by simpa using h0⟩)⟩
    unfold kJ;rw[bj (by decide)]
   | succ i ih =>
    intro m hi hm h0;obtain⟨m,rfl⟩:∃m',m=m'+1:=⟨m-1,by omega⟩
    obtain⟨x,e2⟩:∃x,l[i]? = some x:=⟨l[i],by simp⟩
    obtain⟨y,e3⟩:∃y,k[i]? = some y:=⟨k[i],by simp⟩
    have a1:=jY e2;have a2:=jY e3;have a3:=eC l i (by omega)
    have a4:=eC k i (by omega)
    have t1:=jV (hl.take i);have t2:=jV (hk.take i);rw[NK,Nw (by omega)] at t1 t2
    have e0:((i+1:Nat):Int)-1=((i:Nat):Int):=by omega
    rw[e0];rcases Nat.lt_trichotomy x y with hxy|hxy|hxy
    refine⟨.inl (-1),dV ?_,.inl ⟨rfl,?_⟩⟩
    unfold kJ;rw[PF,aK (by omega),bC,Mx,e2,an,aK (by omega),bC,e3,an,bK hxy]
    have:wp i*(vl (l.drop i)+1)<=wp i*vl (k.drop i):=Np _ (by omega)
    rw[NM] at this;omega
    have st:kJ n l k ((i:Nat):Int)=some (.inl (((i:Nat):Int)-1)):=by
     unfold kJ;rw[PF,aK (by omega),bC,Mx,e2,an,aK (by omega),bC,e3,an,PG,bC,bC,PG,bf (by omega) (by omega)]
    rw[cC st];exact ih m (by omega) (by omega) (by omega)
    refine⟨.inl 1,dV ?_,.inr (.inl ⟨rfl,?_⟩)⟩
    unfold kJ;rw[PF,aK (by omega),bC,Mx,e2,an,aK (by omega),bC,e3,an,PG,bC,bC,bK hxy]
    have:wp i*(vl (k.drop i)+1)<=wp i*vl (l.drop i):=Np _ (by omega)
    rw[NM] at this;omega
  obtain⟨r,h1,h2⟩:=hL l.length n (MA _) hn (by rw[OC,h,OC])
  rw[bf (by omega) (by omega),h1,an]
  rcases h2 with⟨rfl,h2⟩|⟨rfl,h2⟩|⟨rfl,h2⟩
  exact⟨-1,rfl,by omega,by omega⟩
  exact⟨1,rfl,by omega,by omega⟩
  exact⟨0,rfl,by omega,by omega⟩
 rw[Nv (show ¬(l.length:Int)=(k.length:Int) by omega),NG,tK]
 refine⟨_,rfl,?_,?_⟩<;>rw[bf (by omega) (by omega)]
 refine⟨fun h1=>big l k hl lk (by omega),fun h1=>?_⟩
 by_cases h2:l.length<k.length
 omega
 have:=big k l hk ll (by omega); omega
 refine⟨fun h1=>big k l hk ll (by omega),fun h1=>?_⟩
 by_cases h2:k.length<l.length
 omega
 have:=big l k hl lk (by omega); omega
def vj{n:Nat}{l k:PM Nat}(hl:Wd l)(hk:Wd k)(hle:vl k<=vl l)(hlk:k.length<=l.length)(hb:l.length<1073741824)(hn:l.length<n) :
  ∃r,Bl n l k=some r/\Wd r/\vl r=vl l-vl k/\r.length=l.length:=by
 have hL:∀j i m p c,i+j=l.length->j<m->p.length=i->Wd p->c<=1->vl p+wp i*vl (l.drop i)+vl k=vl l+wp i*(c+vl (k.drop i)) ->
   ∃q c',cT (ov n l k) m (p++List.replicate j 0,c,((i:Nat):Int))=some q/\q.length=l.length/\Wd q/\c'<=1/\vl q+vl k=vl l+wp l.length*c':=by
  intro j
  induction j with
  | zero =>
   intro i m p c hij hm hp wp' hc hv;obtain⟨m,rfl⟩:∃m',m=m'+1:=⟨m-1,by omega⟩
   have hi:i=l.length:=by omega
   refine⟨p,c,dV ?_,by omega,wp',hc,?_⟩
   unfold ov
   dsimp only
   rw[PG,List.replicate_zero,NX]
   subst hi;rw[OC,Ow (by omega),ig] at hv
   simpa using hv
  | succ j ih =>
   intro i m p c hij hm hp wp' hc hv;obtain⟨m,rfl⟩:∃m',m=m'+1:=⟨m-1,by omega⟩
   have hi:i<l.length:=by omega
   obtain⟨x,e2⟩:∃x,l[i]? = some x:=⟨l[i],by simp[hi]⟩
   have hx:=hl.at e2;obtain⟨y,y1,y2,y3⟩:=sJ k i;have y2:=y2 hk;have e3:(p++List.replicate (j+1) 0)[((i:Nat):Int).toNat]? = some 0:=by
    rw[Mx,M1 (by omega),Oo]; simp; omega
   have st:ov n l k (p++List.replicate (j+1) 0,c,((i:Nat):Int))=some (.inl ((p++[(x+18446744073709551616-y-c)%18446744073709551616])++List.replicate j 0,if x<y+c then 1 else 0,((i+1:Nat):Int))):=by
    unfold ov
    dsimp only
    rw[PF,aK hi,bC,Mx,e2,an]
    rw[Mx] at y3 e3;rw[y3,an];unfold GH;rw[fi hc,an]
    dsimp only
    rw[Mx,aK hi,bC,e3,an,PH,<-hp,NQ,xu]
   rw[cC st];refine ih (i+1) m _ _ (by omega) (by omega) (by rw[MV,hp]; rfl) (wp'.app (Wd.one (Nx _ (by decide)))) (by split<;>omega) ?_
   rw[jY e2,y1] at hv;rw[pC,hp,iC];have h2:(x+18446744073709551616-y-c)%18446744073709551616+y+c=x+18446744073709551616*(if x<y+c then 1 else 0):=by split<;>omega
   generalize(x+18446744073709551616-y-c)%18446744073709551616=lo at h2 ⊢;generalize(if x<y+c then 1 else 0)=hi' at h2 ⊢
   generalize vl (l.drop (i+1))=A at hv ⊢;generalize vl (k.drop (i+1))=D at hv ⊢;have h3:wp i*(lo+y+c)=wp i*(x+18446744073709551616*hi'):=by rw[h2]
   simp only[NM,Nf (wp i) 18446744073709551616,MT] at hv h3 ⊢;omega
 obtain⟨q,c',h1,h2,h3,h4,h5⟩:=hL l.length 0 n [] 0 (by omega) hn rfl Wd.nil (by omega) (by simp[vl,wp])
 refine⟨q,?_,h3,?_,h2⟩
 unfold Bl;rw[fi (by omega),Mx,nJ (by omega),bC]
 rw[show(List.replicate l.length (0:Nat),(0:Nat),(0:Int))=(([]:PM Nat)++List.replicate l.length 0,0,((0:Nat):Int)) from rfl,h1,an]
 have h6:=jV h3;rw[h2] at h6;have:c'=0:=by
  rcases Nat.le_one_iff_eq_zero_or_eq_one.1 h4 with e|e
  exact e
  rw[e] at h5; omega
 rw[this] at h5;omega
def wE(s:Bool):rG s 0=0:=by cases s<;>rfl
def uT{n:Nat}{a b:Int}{s t:Bool}{l k:PM Nat}(h:Lg a s l)(h':Lg b t k)(hb:l.length<1000000)(hb':k.length<1000000)(hn:l.length+k.length+1<n) :
  ∃u m,uz n s l t k=some (u,m)/\Lg (a+b) u m:=by
 have av:=h.val;have bv:=h'.val;unfold uz
 by_cases e:s=t
 subst e;rw[beq_self_eq_true,tK];obtain⟨r,r1,r2,r3,r4⟩:=Hm (n:=n) h.wd h'.wd (by omega) (by omega) (by omega) (by omega)
 obtain⟨u,m,m1,m2⟩:=fu (n:=n) s r2 (by omega) (by omega)
 refine⟨u,m,by rw[r1,an,m1]; rfl,?_⟩
 have:a+b=rG s (vl r):=by rw[av,bv,r3]; unfold rG; cases s<;>simp<;>omega
 rw[this]; exact m2
 have:(s==t)=false:=by cases s<;>cases t<;>simp_all
 rw[this,dS];obtain⟨r,r1,r2,r3⟩:=AU (n:=n) h.wd h'.wd h.last h'.last (by omega) (by omega) (by omega)
 have ht:t = !s:=by cases s<;>cases t<;>simp_all
 have longer:∀p q:PM Nat,Wd p->Wd q->(∀d,p.getLast? = some d->d≠0)->(∀d,q.getLast? = some d->d≠0)->vl p<=vl q->p.length<=q.length:=by
  intro p q wp1 wq1 lp lq hle;refine Nat.le_of_not_lt fun hlt=>?_;have h1:=jV wq1;have h2:=jP lp (by intro e; rw[e] at hlt; exact Nat.not_lt_zero _ hlt)
  have h3:wp q.length<=wp (p.length-1):=MY (by decide) (by omega)
  omega
 rw[r1,an]
 by_cases hr:r<0
 have hv:=r2.1 hr;obtain⟨m,m1,m2,m3,m4⟩:=vj (n:=n) h'.wd h.wd (Oa hv) (longer _ _ h.wd h'.wd h.last h'.last (Oa hv)) (by omega) (by omega)
 obtain⟨u,m',u1,u2⟩:=fu (n:=n) t m2 (by omega) (by omega)
 refine⟨u,m',by rw[bK hr,an]; dsimp only; rw[m1,an,u1]; rfl,?_⟩
 have:a+b=rG t (vl m):=by rw[av,bv,m3,ht]; unfold rG; cases s<;>simp<;>omega
 rw[this]; exact u2
 have hv:vl k<=vl l:=Nat.le_of_not_lt fun h=>hr (r2.2 h);obtain⟨m,m1,m2,m3,m4⟩:=vj (n:=n) h.wd h'.wd hv (longer _ _ h'.wd h.wd h'.last h.last hv) (by omega) (by omega)
 obtain⟨u,m',u1,u2⟩:=fu (n:=n) s m2 (by omega) (by omega)
 refine⟨u,m',by rw[bj hr,an]; dsimp only; rw[m1,an,u1]; rfl,?_⟩
 have:a+b=rG s (vl m):=by rw[av,bv,m3,ht]; unfold rG; cases s<;>simp<;>omega
 rw[this]; exact u2
def G2{n:Nat}{a:Int}{s:Bool}{l:PM Nat}(h:Lg a s l)(hb:l.length<1000000)(hn:l.length<n):∃u m,yX n s l=some (u,m)/\Lg (-a) u m:=by
 obtain⟨u,m,m1,m2⟩:=fu (n:=n) (!s) h.wd (by omega) hn
 refine⟨u,m,by unfold yX; rw[m1]; rfl,?_⟩
 have : -a=rG (!s) (vl l):=by rw[h.val]; unfold rG; cases s<;>simp
 rw[this]; exact m2
def Lg.len{a:Int}{s:Bool}{l:PM Nat}(h:Lg a s l){k:Nat}(hk:a.natAbs<wp k):l.length<=k:=by
 refine Nat.le_of_not_lt fun hlt=>?_;have h2:=jP h.last (by intro e; rw[e] at hlt; exact Nat.not_lt_zero _ hlt)
 have h3:wp k<=wp (l.length-1):=MY (by decide) (by omega)
 have:=h.abs;omega
def Lg.up{a:Int}{s:Bool}{l:PM Nat}(h:Lg a s l):a.natAbs<wp l.length:=by
 rw[<-h.abs]; exact jV h.wd
def FN{n:Nat}{a b:Int}{s t:Bool}{l k:PM Nat}(h:Lg a s l)(h':Lg b t k)(hb:l.length<1000000)(hb':k.length<1000000)(hn:l.length+k.length+1<n) :
  ∃u m,DX n s l t k=some (u,m)/\Lg (a-b) u m:=by
 obtain⟨u,m,m1,m2⟩:=G2 (n:=n) h' hb' (by omega)
 have hm:m.length<=k.length:=m2.len (by rw[Int.natAbs_neg]; exact h'.up)
 obtain⟨v,q,q1,q2⟩:=uT (n:=n) h m2 hb (by omega) (by omega)
 exact⟨v,q,by unfold DX; rw[m1,an]; dsimp only; rw[q1]; rfl,q2⟩
def nW{n:Nat}{a:Int}{s:Bool}{l:PM Nat}(h:Lg a s l):∃r,yc n s l=some r/\(r<0↔a<0)/\(r=0↔a=0):=by
 have h1:=h.EU;have h2:=h.Lu;unfold yc;cases s with
 | true =>
  have:=of_decide_eq_true h1.symm;exact⟨-1,rfl,by omega,by omega⟩
 | false =>
  have:=of_decide_eq_false h1.symm;rw[dS]
  by_cases hl:l=[]
  subst hl;have:=h2.1 rfl;exact⟨0,rfl,by omega,by omega⟩
  have:¬a=0:=fun e=>hl (h2.2 e);have:¬(l.length:Int)=0:=fun e=>hl (NC (by omega))
  rw[bj this];exact⟨1,rfl,by omega,by omega⟩
end
section
open Go Go.Ab Go.Ab.W
def vV{a:Nat}(ha:a<18446744073709551616):uw .u64 (uw .u64 a &&& uw .u64 4294967295)=a%4294967296:=by
 rw[Dm ha (by decide)]
 exact Nat.and_two_pow_sub_one_eq_mod a 32
def Dd(a:Nat):di .u64 a 32=a/4294967296:=rfl
def pj{a:Nat}(h:a<18446744073709551616):uw .u64 a=a:=Nh h
def Ge(n:Nat){x y:Nat}(hx:x<18446744073709551616)(hy:y<18446744073709551616):CH n x y=some (x*y/18446744073709551616,x*y%18446744073709551616):=by
 obtain⟨b1,b2,b3,hhi⟩:=Lib.mul64_hi x y hx hy;have ba:=Lib.half_mul_le (a:=x/4294967296) (b:=y/4294967296) (by omega) (by omega)
 have bb:=Lib.half_mul_le (a:=x/4294967296) (b:=y%4294967296) (by omega) (by omega)
 have bc:=Lib.half_mul_le (a:=x%4294967296) (b:=y/4294967296) (by omega) (by omega)
 unfold CH;simp only[vV hx,vV hy,Dd,an];rw[pj b1,pj (a:=x/4294967296*(y%4294967296)) (by omega)]
 rw[pj b2,vV b2,pj (a:=x%4294967296*(y/4294967296)) (by omega),pj b3,pj (a:=x/4294967296*(y/4294967296)) (by omega)]
 rw[pj (a:=x/4294967296*(y/4294967296)+_) (by omega),pj (by omega),hhi]
 rfl
def FJ{n:Nat}{k:PM Nat}(hk:Wd k){x i N:Nat}(hx:x<18446744073709551616)(hN:i+k.length<N)(hNb:N<4611686018427387904){b:PM Nat}(hb:Wd b)(hbN:b.length=N) :
  ∀r j m cur c,j+r=k.length->r<m->Wd cur->cur.length=N->c<18446744073709551616->(∀p,i+k.length<=p->cur[p]? = b[p]?) ->
   vl cur+wp (i+j)*c+wp (i+j)*(x*vl (k.drop j))=vl b+wp i*(x*vl k) ->
   ∃q c',cT (oq n k x (i:Int) N) m (cur,c,((j:Nat):Int))=some (q,c')/\Wd q/\q.length=N/\c'<18446744073709551616/\(∀p,i+k.length<=p->q[p]? = b[p]?)/\vl q+wp (i+k.length)*c'=vl b+wp i*(x*vl k):=by
 intro r
 induction r with
 | zero =>
  intro j m cur c hj hm hw hl hc hp hv;obtain⟨m,rfl⟩:∃m',m=m'+1:=⟨m-1,by omega⟩
  have hj':j=k.length:=by omega
  refine⟨cur,c,dV ?_,hw,hl,hc,hp,?_⟩
  unfold oq
  dsimp only
  rw[PG]
  rw[<-hv,hj',OC,ig]; omega
 | succ r ih =>
  intro j m cur c hj hm hw hl hc hp hv;obtain⟨m,rfl⟩:∃m',m=m'+1:=⟨m-1,by omega⟩
  have hi:j<k.length:=by omega
  obtain⟨y,e2⟩:∃y,k[j]? = some y:=⟨k[j],by simp[hi]⟩
  have hy:=hk.at e2;obtain⟨d,e3⟩:∃d,cur[i+j]? = some d:=⟨cur[i+j]'(by omega),by simp⟩
  have hd:=hw.at e3;have hxy:x*y<=18446744073709551615*18446744073709551615:=Nb (by omega) (by omega)
  have w1:OT ((i:Int)+((j:Nat):Int))=((i+j:Nat):Int):=by rw[bf (by omega) (by omega)]; omega
  have st:oq n k x (i:Int) N (cur,c,((j:Nat):Int))=some (.inl (cur.set (i+j) ((x*y+d+c)%18446744073709551616),(x*y+d+c)/18446744073709551616,((j+1:Nat):Int))):=by
   unfold oq
   dsimp only
   rw[PF,aK hi,bC,Mx,e2,an,Ge n hx hy,an]
   dsimp only
   rw[w1,aK (by omega),bC,Mx,e3,an]
   unfold B0;rw[fi (by omega),an]
   dsimp only
   rw[fi (by omega),an]
   dsimp only
   rw[bC,PH,pj (a:=x*y/18446744073709551616+_) (by omega),pj (by omega)]
   congr 3
   congr 1; omega
   congr 1; omega
  rw[cC st];refine ih (j+1) m _ _ (by omega) (by omega) (hw.set (Nx _ (by decide))) (by rw[Og]; exact hl) (by omega) (fun p hp'=>by rw[N7 (by omega)]; exact hp p hp') ?_
  rw[jY e2] at hv;have hs:=zp ((x*y+d+c)%18446744073709551616) e3;rw[<-hv,<-OB i j 1,iC];have h2:(x*y+d+c)%18446744073709551616+18446744073709551616*((x*y+d+c)/18446744073709551616)=x*y+d+c:=Nat.mod_add_div _ _;generalize(x*y+d+c)%18446744073709551616=lo at h2 hs ⊢;generalize(x*y+d+c)/18446744073709551616=hi' at h2 ⊢;generalize vl (k.drop (j+1))=A at hv ⊢;generalize vl (cur.set (i+j) lo)=Z at hs ⊢;have h3:wp (i+j)*(lo+18446744073709551616*hi')=wp (i+j)*(x*y+d+c):=by rw[h2]
  simp only[NM,Nf (wp (i+j)) 18446744073709551616,Nf x 18446744073709551616,MT] at hs h3 ⊢;omega
def GV{n:Nat}{l k:PM Nat}(hl:Wd l)(hk:Wd k)(hb:l.length<500000000)(hb':k.length<500000000)(hn:l.length<n)(hn':k.length<n) :
  ∃r,CS n l k=some r/\Wd r/\vl r=vl l*vl k/\r.length=l.length+k.length:=by
 have hL:∀r i m b,i+r=l.length->r<m->Wd b->b.length=l.length+k.length->(∀p,i+k.length<=p->p<l.length+k.length->b[p]? = some 0) ->
   vl b+wp i*(vl (l.drop i)*vl k)=vl l*vl k ->
   ∃q,cT (ot n l k) m (b,l.length+k.length,((i:Nat):Int))=some (q,l.length+k.length)/\Wd q/\q.length=l.length+k.length/\vl q=vl l*vl k:=by
  intro r
  induction r with
  | zero =>
   intro i m b hi hm hw hlen _ hv;obtain⟨m,rfl⟩:∃m',m=m'+1:=⟨m-1,by omega⟩
   have hi':i=l.length:=by omega
   refine⟨b,dV ?_,hw,hlen,?_⟩
   unfold ot
   dsimp only
   rw[PG]
   rw[<-hv,hi',OC,ig]; simp
  | succ r ih =>
   intro i m b hi hm hw hlen hz hv;obtain⟨m,rfl⟩:∃m',m=m'+1:=⟨m-1,by omega⟩
   have hi':i<l.length:=by omega
   obtain⟨x,e2⟩:∃x,l[i]? = some x:=⟨l[i],by simp⟩
   have hx:=hl.at e2;obtain⟨q,c,q1,q2,q3,q4,q5,q6⟩:=FJ (n:=n) (i:=i) hk hx (N:=l.length+k.length) (by omega) (by omega) hw hlen k.length 0 n b 0 (by omega) hn' hw hlen (by decide) (fun _ _=>rfl) (by simp)
   have e3:q[i+k.length]? = some 0:=by rw[q5 _ (MA _)]; exact hz _ (MA _) (by omega)
   have w1:OT ((i:Int)+(k.length:Int))=((i+k.length:Nat):Int):=by rw[bf (by omega) (by omega)]; omega
   have st:ot n l k (b,l.length+k.length,((i:Nat):Int))=some (.inl (q.set (i+k.length) c,l.length+k.length,((i+1:Nat):Int))):=by
    unfold ot
    dsimp only
    rw[PF,aK hi',bC,Mx,e2,an]
    rw[show((0:Int))=((0:Nat):Int) from rfl,q1,an]
    dsimp only
    rw[w1,aK (by omega),bC,Mx,e3,an,PH]
   rw[cC st];refine ih (i+1) m _ (by omega) (by omega) (q2.set q4) (by rw[Og]; exact q3) (fun p h1 h2=>by rw[N7 (by omega),q5 p (by omega)]; exact hz p (by omega) h2) ?_
   have hs:=zp c e3;rw[jY e2] at hv;rw[<-hv,iC];generalize vl (q.set (i+k.length) c)=Z at hs ⊢;generalize vl (l.drop (i+1))=A at hv ⊢;have h4:wp i*((x+18446744073709551616*A)*vl k)=wp i*(x*vl k)+18446744073709551616*wp i*(A*vl k):=by
    simp only[Nc,NM,MT,Nf (wp i) 18446744073709551616]
   rw[h4];omega
 unfold CS;have w1:OT ((l.length:Int)+(k.length:Int))=((l.length+k.length:Nat):Int):=by rw[bf (by omega) (by omega)]; omega
 obtain⟨q,q1,q2,q3,q4⟩:=hL l.length 0 n (List.replicate (l.length+k.length) 0) (by omega) hn (Wd.zeros _) (by simp) (fun p _ h2=>by rw[Oo]; simp[h2]) (by rw[iS,Hg]; simp)
 refine⟨q,?_,q2,q4,q3⟩;rw[w1,fi (by omega),Mx,nJ (by omega),bC]
 rw[show((0:Int))=((0:Nat):Int) from rfl,q1]
 rfl
def vO{n:Nat}{a b:Int}{s t:Bool}{l k:PM Nat}(h:Lg a s l)(h':Lg b t k)(hb:l.length<1000000)(hb':k.length<1000000)(hn:l.length+k.length<n) :
  ∃u m,B7 n s l t k=some (u,m)/\Lg (a*b) u m:=by
 obtain⟨r,r1,r2,r3,r4⟩:=GV (n:=n) h.wd h'.wd (by omega) (by omega) (by omega) (by omega)
 obtain⟨u,m,m1,m2⟩:=fu (n:=n) (!(s==t)) r2 (by omega) (by omega)
 refine⟨u,m,by unfold B7; rw[r1,an,m1]; rfl,?_⟩
 have:a*b=rG (!(s==t)) (vl r):=by
  rw[h.val,h'.val,r3]; unfold rG;cases s<;>cases t<;>simp[Int.neg_mul,Int.mul_neg]
 rw[this]; exact m2
end
section
open Go Go.Ab Go.Ab.W
def uu{a b:Nat}(ha:a<18446744073709551616)(h:b<=a):gN .u64 a b=a-b:=by
 show(a+(18446744073709551616-b%18446744073709551616))%18446744073709551616=a-b
 omega
def BH(n0:Nat){u y1 y0 d:Nat}(h1:2147483648<=y1)(h1':y1<4294967296)(h0:y0<4294967296)(hd:d<4294967296){Q:Nat}(le_iff:∀p,p<=Q↔p*y1*4294967296+p*y0<=u*4294967296+d)(hQb:Q<4294967296) :
  ∀k r q m,4294967296<=r+k*2147483648->k<m->q*y1+r=u->Q<=q->q<=4294967297->r<4294967296->cT (fL n0 d y0 y1) m (r,q)=some Q:=by
 intro k
 induction k with
 | zero=>intro r q m hk _ _ _ _ hr; omega
 | succ k ih =>
  intro r q m hk hm hq hQ hqb hr;obtain⟨m,rfl⟩:∃m',m=m'+1:=⟨m-1,by omega⟩
  by_cases hT:4294967296<=q\/4294967296*r+d<q*y0
  have hlt:Q<q:=by
   rcases hT with hT|hT
   omega
   refine Nat.lt_of_not_le fun h=>?_;rw[le_iff] at h;omega
  obtain⟨p,rfl⟩:∃p,q=p+1:=⟨q-1,by omega⟩
  rw[Nc,Nat.one_mul] at hq;have test:(br (decide (4294967296<=p+1)) (some true) (some (decide (uw .u64 ((uw .u64 (4294967296*r))+d)<uw .u64 ((p+1)*y0)))))=some true:=by
   by_cases hb:4294967296<=p+1
   rw[bK hb]
   have h2:(p+1)*y0<=4294967295*4294967295:=Nb (by omega) (by omega)
   rw[bj hb,pj (a:=4294967296*r) (by omega),pj (by omega),pj (by omega),M4 (by omega)]
  have sb:gN .u64 (p+1) 1=p:=uu (by omega) (by omega)
  by_cases hb:4294967296<=r+y1
  have st:fL n0 d y0 y1 (r,p+1)=some (.inr p):=by
   unfold fL
   dsimp only
   rw[test,an,tK,pj (a:=r+y1) (by omega),bK hb,sb]
  rw[dV st];have h2:p*y0<=4294967296*4294967295:=Nb (by omega) (by omega)
  have h3:p<=Q:=by rw[le_iff]; omega
  rw[show p=Q by omega]
  have st:fL n0 d y0 y1 (r,p+1)=some (.inl (r+y1,p)):=by
   unfold fL
   dsimp only
   rw[test,an,tK,pj (a:=r+y1) (by omega),bj hb,sb]
  rw[cC st];exact ih (r+y1) p m (by omega) (by omega) (by omega) (by omega) (by omega) (by omega)
  have hq2:q<4294967296:=by omega
  have h2:q*y0<=4294967295*4294967295:=Nb (by omega) (by omega)
  have st:fL n0 d y0 y1 (r,q)=some (.inr q):=by
   unfold fL
   dsimp only
   rw[PG,pj (a:=4294967296*r) (by omega),pj (by omega),pj (by omega),an,PG]
  rw[dV st];have h3:q<=Q:=by rw[le_iff]; omega
  rw[show q=Q by omega]
def BR(n0 y s y1 y0 d e:Nat):∀m q r,cT (qS n0) m (y,s,y1,y0,d,e,q,r)=(cT (fL n0 d y0 y1) m (r,q)).map fun q=>(y,s,y1,y0,d,e,q):=by
 intro m
 induction m with
 | zero=>intro q r; rfl
 | succ m ih =>
  intro q r;have a:∀b,(br b (br (decide (4294967296<=uw .u64 (r+y1))) (some (.inr (y,s,y1,y0,d,e,gN .u64 q 1))) (some (.inl (y,s,y1,y0,d,e,gN .u64 q 1,uw .u64 (r+y1))))) (some (.inr (y,s,y1,y0,d,e,q))):PE ((Nat×Nat×Nat×Nat×Nat×Nat×Nat×Nat) ⊕(Nat×Nat×Nat×Nat×Nat×Nat×Nat))) =
   (br b (br (decide (4294967296<=uw .u64 (r+y1))) (some (.inr (gN .u64 q 1))) (some (.inl (uw .u64 (r+y1),gN .u64 q 1)))) (some (.inr q)):PE ((Nat×Nat)⊕Nat)).map fun x=>match x with|.inl (r,q)=>.inl (y,s,y1,y0,d,e,q,r)|.inr q=>.inr (y,s,y1,y0,d,e,q):=by
   intro b;cases b
   rfl
   rw[tK,tK];cases decide (4294967296<=uw .u64 (r+y1))<;>rfl
  have st:qS n0 (y,s,y1,y0,d,e,q,r)=(fL n0 d y0 y1 (r,q)).map fun x=>match x with|.inl (r,q)=>.inl (y,s,y1,y0,d,e,q,r)|.inr q=>.inr (y,s,y1,y0,d,e,q):=by
   unfold qS fL
   dsimp only
   cases(br (decide (4294967296<=q)) (some true) (some (decide (uw .u64 ((uw .u64 (4294967296*r))+d)<uw .u64 (q*y0)))):PE Bool) with
   | none=>rfl
   | some b=>exact a b
  unfold cT;rw[st];cases fL n0 d y0 y1 (r,q) with
  | none=>rfl
  | some x =>
   cases x with
   | inl p=>exact ih p.2 p.1
   | inr p=>rfl
def sM{a b:Nat}(h:b<=a)(hr:a-b<18446744073709551616):gN .u64 (uw .u64 a) (uw .u64 b)=a-b:=by
 show(a%18446744073709551616+(18446744073709551616-b%18446744073709551616%18446744073709551616))%18446744073709551616=a-b
 omega
def Ib{x:Nat}(h0:0<x):2 ^ (bl x-1)<=x/\x<2 ^ bl x/\0<bl x:=by
 have h1:0<bl x:=qb.2 (by simp; omega)
 refine⟨qb.1 (by omega),?_,h1⟩
 exact Nat.lt_of_not_le fun h=>Nat.lt_irrefl _ (qb.2 h)
def vA{a s:Nat}(h:s<=64):eF .u64 a s=uw .u64 (a*2 ^ s):=by
 have:min s (IntKind.bits .u64)=s:=Nw h;unfold eF;rw[this]
def Ai{a s:Nat}(h:s<=64):di .u64 a s=a/2 ^ s:=by
 have:min s (IntKind.bits .u64)=s:=Nw h;unfold di;rw[this]
def zU{n:Nat}(hn:4<n){u y1 y0 d:Nat}(h1:2147483648<=y1)(h1':y1<4294967296)(h0:y0<4294967296)(hd:d<4294967296)(hu:u<y1*4294967296+y0) :
  cT (fL n d y0 y1) n (gN .u64 u (uw .u64 (uw .u64 (u/y1)*y1)),uw .u64 (u/y1))=some ((u*4294967296+d)/(y1*4294967296+y0)):=by
 have e1:=N4 u y1;have e2:=Nx u (show 0<y1 by omega)
 rw[M9] at e1;have hq:u/y1<=4294967297:=by
  have:u/y1<4294967298:=by rw[Nr (by omega)]; omega
  omega
 rw[pj (a:=u/y1) (by omega),pj (a:=u/y1*y1) (by omega),uu (by omega) (by omega)]
 have hy:0<y1*4294967296+y0:=by omega
 refine BH n h1 h1' h0 hd (fun p=>by rw[Nat.le_div_iff_mul_le hy,NM,<-MT]) (by rw[Nr hy]; omega) 2 _ _ n (by omega) (by omega) (by omega) ?_ hq (by omega)
 have:(u*4294967296+d)/(y1*4294967296+y0)<u/y1+1:=by
  rw[Nr hy,Nc,Nat.one_mul,NM,<-MT];omega
 omega
def Gm{U w v A B R1 R0 d1 d0:Nat}(hU:U=w*4294967296)(h6:4294967296*d1+d0=v)(h5:A*4294967296+R1*4294967296=(w+d1)*4294967296)(m3:B+R0=R1*4294967296+d0) :
  U+v=R0+(A*4294967296+B):=by
 omega
def Ln(u:Nat):u*18446744073709551616=u*4294967296*4294967296:=by rw[MT]
def GS{n:Nat}(hn:4<n){x1 x2 x3:Nat}(h1:x1<x3)(h2:x2<18446744073709551616)(h3:x3<18446744073709551616) :
  CF n x1 x2 x3=some ((x1*18446744073709551616+x2)/x3,(x1*18446744073709551616+x2)%x3):=by
 unfold CF;rw[PG,PG]
 by_cases hz:x1=0
 subst hz;rw[bK rfl,fi (by omega),fi (by omega),pj (Na (Nat.div_le_self _ _) h2)]
 simp
 rw[bj hz];obtain⟨l1,l2,l3⟩:=Ib (x:=x3) (by omega)
 have l4:bl x3<=64:=CP h3;obtain⟨s,hs⟩:∃s,bl x3+s=64:=⟨64-bl x3,by omega⟩
 have r0:yP n x3=some ((s:Nat):Int):=by
  unfold yP;rw[Aw n x3 h3,an,bf (by omega) (by omega)]
  congr 1
  omega
 have u0:ui .u64 ((s:Nat):Int)=s:=by
  show(((s:Nat):Int)%((2 ^ 64:Nat):Int)).toNat=s
  omega
 have P0:0<2 ^ s:=Nat.two_pow_pos s;have PP:2 ^ s*2 ^ (64-s)=18446744073709551616:=by rw[<-N2,show s+(64-s)=64 by omega]
 have X1:x3*2 ^ s<18446744073709551616:=by
  have:x3*2 ^ s<2 ^ bl x3*2 ^ s:=Nat.mul_lt_mul_of_pos_right l2 P0;rw[<-N2,hs] at this;exact this
 have X2:9223372036854775808<=x3*2 ^ s:=by
  have:2 ^ (bl x3-1)*2 ^ s<=x3*2 ^ s:=Nj _ l1;rw[<-N2,show bl x3-1+s=63 by omega] at this
  exact this
 have X3:x1*2 ^ s<x3*2 ^ s:=Nat.mul_lt_mul_of_pos_right h1 P0;have s1:eF .u64 x3 s=x3*2 ^ s:=by
  rw[vA (by omega),pj X1]
 have s2:eF .u64 x1 s=x1*2 ^ s:=by
  rw[vA (by omega),pj (by omega)]
 have s3:eF .u64 x2 s=x2*2 ^ s%18446744073709551616:=by
  rw[vA (by omega)]; rfl
 have t0:di .u64 x2 (gN .u64 64 s)=x2/2 ^ (64-s):=by
  rw[uu (by decide) (by omega)]
  rw[Ai (by omega)]
 have t1:x2/2 ^ (64-s)<2 ^ s:=by rw[Nr (Nat.two_pow_pos _),PP]; exact h2
 have t2:x2*2 ^ s/18446744073709551616=x2/2 ^ (64-s):=by rw[<-PP,M9 x2,Nat.mul_div_mul_left _ _ P0]
 have hor:uw .u64 (uw .u64 (x1*2 ^ s) ||| uw .u64 (x2/2 ^ (64-s)))=x1*2 ^ s+x2/2 ^ (64-s):=by
  have h0:x2/2 ^ (64-s)<=x2:=Nat.div_le_self _ _;rw[FI (show x1*2 ^ s<2 ^ 64 by omega) (show x2/2 ^ (64-s)<2 ^ 64 by omega),<-Nat.shiftLeft_eq,Nat.shiftLeft_add_eq_or_of_lt t1]
 rw[r0,an,u0,an,s1,s2,t0,hor,s3];have key:(x1*2 ^ s+x2/2 ^ (64-s))*18446744073709551616+x2*2 ^ s%18446744073709551616=(x1*18446744073709551616+x2)*2 ^ s:=by
  have:=N4 (x2*2 ^ s) 18446744073709551616;rw[t2] at this;rw[Nc,Nc,Nat.mul_right_comm x1];omega
 have hv:x2*2 ^ s%18446744073709551616<18446744073709551616:=Nx _ (by decide)
 have hu:x1*2 ^ s+x2/2 ^ (64-s)<x3*2 ^ s:=by
  have h0:(x1*18446744073709551616+x2)*2 ^ s<(x3*18446744073709551616)*2 ^ s:=Nat.mul_lt_mul_of_pos_right (by omega) P0
  rw[<-key,Nat.mul_right_comm x3] at h0;omega
 have r1:(x1*18446744073709551616+x2)/x3=((x1*18446744073709551616+x2)*2 ^ s)/(x3*2 ^ s):=by rw[Nat.mul_div_mul_right _ _ P0]
 have r3:(x1*18446744073709551616+x2)%x3=(((x1*18446744073709551616+x2)*2 ^ s)%(x3*2 ^ s))/2 ^ s:=by rw[Nat.mul_mod_mul_right,Nat.mul_div_cancel _ P0]
 rw[r1,r3,<-key];have hss:∀R,di .u64 R s=R/2 ^ s:=fun R=>Ai (by omega)
 clear PP t1 t2 hor key r1 r3 r0 u0 s2 s3 s1 t0 P0 X3 l1 l2 l3 l4 hs;generalize x1*2 ^ s+x2/2 ^ (64-s)=u at hu ⊢;generalize x2*2 ^ s%18446744073709551616=v at hv ⊢;generalize x3*2 ^ s=X at X1 X2 hu ⊢;have hX:X/4294967296*4294967296+X%4294967296=X:=Nat.div_add_mod' _ _;rw[fi (show 0<di .u64 X 32 by rw[Dd]; omega)]
 simp only[Dd,vV X1,vV hv];rw[an,BR];rw[zU hn (u:=u) (y1:=X/4294967296) (y0:=X%4294967296) (d:=v/4294967296) (by omega) (by omega) (by omega) (by omega) (by omega),hX]
 have q0:(u*4294967296+v/4294967296)/X<4294967296:=by rw[Nr (by omega)]; omega
 have m1:=N4 (u*4294967296+v/4294967296) X;have m2:=Nx (u*4294967296+v/4294967296) (show 0<X by omega)
 rw[MB,an]
 dsimp only
 rw[an,fi (by omega)]
 have e1:uw .u64 (uw .u64 (u*4294967296)+v/4294967296)=uw .u64 (u*4294967296+v/4294967296):=Nat.mod_add_mod _ _ _;rw[M9 X] at m1;rw[e1,sM (by omega) (by omega)]
 have e2:u*4294967296+v/4294967296-(u*4294967296+v/4294967296)/X*X=(u*4294967296+v/4294967296)%X:=by omega
 rw[e2];obtain⟨Q1,hQ1⟩:∃Q,(u*4294967296+v/4294967296)/X=Q:=⟨_,rfl⟩;obtain⟨R1,hR1⟩:∃R,(u*4294967296+v/4294967296)%X=R:=⟨_,rfl⟩;clear e2;rw[hQ1] at q0 m1 ⊢;rw[hR1] at m1 m2 ⊢;rw[zU hn (u:=R1) (y1:=X/4294967296) (y0:=X%4294967296) (d:=v%4294967296) (by omega) (by omega) (by omega) (by omega) (by omega),hX,an]
 have q1:(R1*4294967296+v%4294967296)/X<4294967296:=by rw[Nr (by omega)]; omega
 have m3:=N4 (R1*4294967296+v%4294967296) X;have m4:=Nx (R1*4294967296+v%4294967296) (show 0<X by omega)
 rw[M9 X] at m3;have e0:uw .u64 (uw .u64 (R1*4294967296)+v%4294967296)=uw .u64 (R1*4294967296+v%4294967296):=Nat.mod_add_mod _ _ _;rw[e0,an,sM (by omega) (by omega)]
 have e3:R1*4294967296+v%4294967296-(R1*4294967296+v%4294967296)/X*X=(R1*4294967296+v%4294967296)%X:=by omega
 rw[e3,hss];obtain⟨Q0,hQ0⟩:∃Q,(R1*4294967296+v%4294967296)/X=Q:=⟨_,rfl⟩;obtain⟨R0,hR0⟩:∃R,(R1*4294967296+v%4294967296)%X=R:=⟨_,rfl⟩;clear e3;rw[hQ0] at q1 m3 ⊢;rw[hR0] at m3 m4 ⊢;rw[pj (a:=Q1*4294967296) (by omega),pj (by omega)]
 clear hQ1 hR1 hQ0 hR0 e1 e0 hss X1 X2 hX q1 q0 m2 hu h1 h2 h3 hz;have fin:u*18446744073709551616+v=R0+(Q1*4294967296+Q0)*X:=by
  have h0:Q1*X*4294967296+R1*4294967296=(u*4294967296+v/4294967296)*4294967296:=by rw[<-m1,Nc]
  rw[Nc,Nat.mul_right_comm Q1];have h4:=N4 v 4294967296;generalize v/4294967296=d1 at h0 h4;generalize v%4294967296=d0 at m3 h4;generalize Q1*X=A at h0 ⊢;generalize Q0*X=B at m3 ⊢;exact Gm (Ln u) h4 h0 m3
 rw[fin,Nat.add_mul_div_right _ _ (show 0<X by omega),Nat.add_mul_mod_self_right,Nat.div_eq_of_lt m4,Nh m4,Nu]
end
section
open Go Go.Ab Go.Ab.W
def D5{q:PM Nat}{i e d:Nat}:(List.replicate i 0++e::q).set i d=List.replicate i 0++d::q:=by
 rw[List.set_append_right _ _ (by simp)]
 simp
def Dv(i:Nat)(q:PM Nat):List.replicate (i+1) 0++q=List.replicate i 0++0::q:=by
 rw[List.replicate_succ',List.append_assoc]; rfl
def Dx{n:Nat}{l:PM Nat}{d:Nat}(hl:Wd l)(hd:d<18446744073709551616)(h0:d≠0)(hb:l.length<1000000)(hn:l.length<n)(hn4:4<n) :
  ∃q t m,w8 n l [d]=some (q,m)/\Wd q/\vl q=vl l/d/\q.length=l.length/\Lg ((vl l%d:Nat):Int) t m/\t=false:=by
 have hL:∀i q r m,i+q.length=l.length->i<m->Wd q->r<d->vl l=vl (l.take i)+wp i*(d*vl q+r) ->
   ∃q' r',cT (nV n l [d]) m (List.replicate i 0++q,r,(i:Int)-1)=some (q',r')/\Wd q'/\q'.length=l.length/\r'<d/\vl l=d*vl q'+r':=by
  intro i
  induction i with
  | zero =>
   intro q r m hi hm hq hr hv;obtain⟨m,rfl⟩:∃m',m=m'+1:=⟨m-1,by omega⟩
   refine⟨q,r,dV ?_,hq,by omega,hr,?_⟩
   unfold nV
   dsimp only
   rw[bj (by decide)]; rfl
   rw[hv]; simp[vl,wp]
  | succ i ih =>
   intro q r m hi hm hq hr hv;obtain⟨m,rfl⟩:∃m',m=m'+1:=⟨m-1,by omega⟩
   have hi':i<l.length:=by omega
   obtain⟨x,e2⟩:∃x,l[i]? = some x:=⟨l[i],by simp⟩
   have hx:=hl.at e2;have e0:((i+1:Nat):Int)-1=((i:Nat):Int):=by omega
   have ht:vl (l.take (i+1))=vl (l.take i)+wp i*x:=by
    rw[List.take_add_one,e2,Option.toList_some,pC,NK,Nw (Oa hi')]
   have e3:(List.replicate (i+1) 0++q)[i]? = some 0:=by rw[Nn (by simp),Oo]; simp
   have hqd:(r*18446744073709551616+x)/d<18446744073709551616:=by
    rw[Nr (by omega),M9 _ d]
    have:(r+1)*18446744073709551616<=d*18446744073709551616:=Nj _ hr;omega
   have st:nV n l [d] (List.replicate (i+1) 0++q,r,((i:Nat):Int))=some (.inl (List.replicate i 0++(r*18446744073709551616+x)/d::q,(r*18446744073709551616+x)%d,(i:Int)-1)):=by
    unfold nV
    dsimp only
    rw[PF,aK hi',bC,Mx,e2,an]
    rw[show cP 0 [d].length=true from rfl,bC,show([d]:PM Nat)[OU]? = some d from rfl,an,GS hn4 hr hx hd,an]
    dsimp only
    rw[Mx,aK hi',bC,e3,an,Dv,D5,bf (by omega) (by omega)]
   rw[e0,cC st];refine ih _ _ m (by rw[Ni]; omega) (by omega) (fun e he=>?_) (Nx _ (by omega)) ?_
   rcases M0.1 he with rfl|h
   exact hqd
   exact hq e h
   have h1:=N4 (r*18446744073709551616+x) d;rw[hv,ht,iC,eu];generalize(r*18446744073709551616+x)%d=R at h1 ⊢;generalize(r*18446744073709551616+x)/d=Q at h1 ⊢;have h2:wp i*(d*Q+R)=wp i*(r*18446744073709551616+x):=by rw[h1]
   rw[M9 r] at h2;simp only[NM,Nf (wp i) 18446744073709551616,Nf d 18446744073709551616,MT] at h2 ⊢;omega
 obtain⟨q,r,q1,q2,q3,q4,q5⟩:=hL l.length [] 0 n (by simp) hn Wd.nil (by omega) (by rw[List.take_length,ig]; simp)
 rw[NX] at q1;obtain⟨t,m,m1,m2⟩:=fu (n:=n) false (Wd.one (show r<18446744073709551616 by omega)) (by simp) (by simp; omega)
 have hr:vl [r]=r:=by simp[vl]
 rw[hr] at m2;have dq:vl q=vl l/d:=by
  rw[q5,Nat.mul_add_div (by omega),Nat.div_eq_of_lt q4]; rfl
 have dr:r=vl l%d:=by
  rw[q5,Nat.mul_add_mod,Nh q4]
 refine⟨q,t,m,?_,q2,dq,q3,by rw[<-dr]; exact m2,?_⟩
 unfold w8;rw[fi (by omega),Mx,nJ (by omega),bC,bK (show(([d]:PM Nat).length:Int)=1 from rfl),bf (by omega) (by omega),q1,an]
 dsimp only
 rw[m1]; rfl
 have:=m2.EU;rw[this];simp[rG]
end
section
open Go Go.Ab Go.Ab.W
def Km(m:Nat):Fk (m+20) 0=some (false,[]):=by rfl
def Ll(m:Nat):Fk (m+20) 1=some (false,[1]):=by rfl
def Cc{n:Nat}(h:20<=n):Fk n 0=some (false,[]):=by obtain⟨m,rfl⟩:∃m,n=m+20:=⟨n-20,by omega⟩; exact Km m
def mU{n:Nat}(h:20<=n):Fk n 1=some (false,[1]):=by obtain⟨m,rfl⟩:∃m,n=m+20:=⟨n-20,by omega⟩; exact Ll m
def iQ:Lg 1 false [1]:=Lg.small (by decide) (by decide) false
end
section
open Go Go.Ab Go.Ab.W
def ul(v:Nat):PM Nat:=if v=0 then[] else[v]
def EV{v:Nat}(h:v≠0):ul v=[v]:=ME h
def oR{v:Nat}(h:v<18446744073709551616):Lg (v:Int) false (ul v):=by
 by_cases h0:v=0
 subst h0; exact Lg.zero
 rw[EV h0]; exact Lg.small h0 h false
def ux(v:Nat):(ul v).length<=1:=by unfold ul; split<;>simp
end
section
open Go Go.Ab Go.Ab.W
def m2(a b:Nat):Nat:=if b=0 then(if a=0 then 0 else 1) else 2
section
variable{n:Nat}{k:Int}{a b:Nat}
def GZ(hn:40<n)(s:Bool){v:Nat}(hs:s=true->v≠0):j4 n s [v,0,0,0,0,0,0,0]=some (s,ul v):=by
 obtain⟨m,rfl⟩:∃m,n=m+20:=⟨n-20,by omega⟩
 by_cases h:v=0
 ·subst h;cases s with
  | false=>rfl
  | true=>exact MX rfl (hs rfl)
 have st:fb (m+20) [v,0,0,0,0,0,0,0] 1=some (.inr 1):=by
  show ob (ob (some (decide (v=0))) fun v66=>some v66) _=_
  rw[Nv h]; rfl
 have s8:fb (m+20) [v,0,0,0,0,0,0,0] 8=some (.inl 7):=rfl;have s7:fb (m+20) [v,0,0,0,0,0,0,0] 7=some (.inl 6):=rfl;have s6:fb (m+20) [v,0,0,0,0,0,0,0] 6=some (.inl 5):=rfl;have s5:fb (m+20) [v,0,0,0,0,0,0,0] 5=some (.inl 4):=rfl;have s4:fb (m+20) [v,0,0,0,0,0,0,0] 4=some (.inl 3):=rfl;have s3:fb (m+20) [v,0,0,0,0,0,0,0] 3=some (.inl 2):=rfl;have s2:fb (m+20) [v,0,0,0,0,0,0,0] 2=some (.inl 1):=rfl;unfold j4;rw[show(([v,0,0,0,0,0,0,0]:PM Nat).length:Int)=8 from rfl,cC s8,cC s7,cC s6,cC s5,cC s4,cC s3,cC s2,dV st,an,EV h]
 cases s<;>rfl
end
end
section
open Go Go.Ab Go.Ab.W
def Kk(n a:Nat):Ca n a 0 0 0 0 0 0 0=some (false,a,0,0,0,0,0,0,0):=rfl
end
section
open Go Go.Ab Go.Ab.W
section
variable{M:Nat}{es:OI}{x n:Nat}{k:Int}
def AY(hn:40<n){v:Nat}(hv:v<18446744073709551616):DZ n v 0 0 0 0 0 0 0=some (false,ul v)/\Lg (v:Int) false (ul v):=by
 refine⟨?_,oR hv⟩;unfold DZ;rw[Kk,an]
 dsimp only
 rw[show lim ((([]:PM Nat)++[v,0,0,0,0,0,0,0]).length)=true from rfl,bC]
 show ob (j4 n false [v,0,0,0,0,0,0,0]) _=_
 rw[GZ (by omega) false (fun h=>by cases h),an]
end
end
section
open Go Go.Ab Go.Ab.W
def JE{r c x:Nat}(hc:c<2 ^ r):c |||(x*2 ^ r)=c+x*2 ^ r:=by
 rw[Nat.or_comm,M9,<-Nat.two_pow_add_eq_or_of_lt hc,Nat.add_comm]
def qB(k:Nat):Oh (k:Int) 64=((k/64:Nat):Int):=by
 show Int.tdiv (k:Int) 64=_
 rw[Int.tdiv_eq_ediv_of_nonneg (Nt _)]; omega
def ya(k:Nat):Int.tmod (k:Int) 64=((k%64:Nat):Int):=by
 rw[Int.tmod_eq_emod_of_nonneg (Nt _)]; omega
def xH{a:Nat}(h:a<18446744073709551616):uw .u64 a=a:=Nh h
def Bu{x r:Nat}(hr:r<64)(hx:x<18446744073709551616) :
  ∃y,uw .u64 (eF .u64 x r)=y*2 ^ r/\y*2 ^ r<18446744073709551616/\y*2 ^ r+18446744073709551616*(x/2 ^ (64-r))=x*2 ^ r/\x/2 ^ (64-r)<2 ^ r/\y*2 ^ r+2 ^ r<=18446744073709551616:=by
 have hp:2 ^ (64-r)*2 ^ r=18446744073709551616:=by rw[<-N2,Nat.sub_add_cancel (by omega)]
 have h2:0<2 ^ r:=Nat.pow_pos (by decide)
 have h3:0<2 ^ (64-r):=Nat.pow_pos (by decide)
 have hm:=N4 x (2 ^ (64-r));have hml:=Nx x h3;have hs:x*2 ^ r=(x%2 ^ (64-r))*2 ^ r+18446744073709551616*(x/2 ^ (64-r)):=by
  rw[<-hp,MT,M9 (2 ^ r),<-MT,<-Nc,Nat.add_comm,hm]
 have hlt:(x%2 ^ (64-r))*2 ^ r+2 ^ r<=18446744073709551616:=by
  rw[<-hp];have:=Nj (2 ^ r) (show x%2 ^ (64-r)+1<=2 ^ (64-r) by omega)
  rw[Nc,Nat.one_mul] at this;exact this
 have hlt':(x%2 ^ (64-r))*2 ^ r<18446744073709551616:=by omega
 refine⟨x%2 ^ (64-r),?_,hlt',hs.symm,?_,hlt⟩
 have hb:min r (IntKind.bits .u64)=r:=Nw (by show r<=64; omega)
 unfold eF;rw[hb]
 show(x*2 ^ r)%18446744073709551616%18446744073709551616=_
 rw[Nat.mod_mod,hs,Nat.add_mul_mod_self_left,Nh hlt']
 rw[Nr h3,M9,hp]; exact hx
def Eg(P:PM Nat)(c w:Nat)(z:PM Nat){i:Nat}(hi:i=P.length):(P++c::z).set i w=P++w::z:=by
 subst hi;rw[List.set_append_right _ _ (MA _),Ou]; rfl
def yz(P:PM Nat)(c:Nat)(z:PM Nat){i:Nat}(hi:i=P.length):(P++c::z)[i]? = some c:=by
 subst hi;rw[M1 (MA _),Ou]; rfl
def Gi{n k:Nat}{l:PM Nat}(hl:Wd l)(hb:l.length<1000000)(hk:k<64000000)(hn:l.length+k+4<n) :
  ∃t m,Cb n l (k:Int)=some m/\Lg ((vl l*2 ^ k:Nat):Int) t m:=by
 have hr:k%64<64:=Nx _ (by decide)
 have hq:k/64<1000000:=by omega
 generalize hqd:k/64=q at hq;generalize hrd:k%64=r at hr;have hkv:2 ^ k=wp q*2 ^ r:=by
  have:k=64*q+r:=by omega
  rw[this,N2,Nat.pow_mul]; rfl
 have hL:∀j i m P c,i+j=l.length->j<m->P.length=q+i->Wd P->c<2 ^ r->vl P+wp (q+i)*c+wp (q+i)*(2 ^ r*vl (l.drop i))=2 ^ k*vl l ->
   ∃out,cT (oc n l (k:Int)) m (P++c::List.replicate j 0,l.length+q+1,(i:Int))=some (out,l.length+q+1)/\Wd out/\vl out=2 ^ k*vl l/\out.length=l.length+q+1:=by
  intro j
  induction j with
  | zero =>
   intro i m P c hi hm hP hw hc hv;obtain⟨m,rfl⟩:∃m',m=m'+1:=⟨m-1,by omega⟩
   have hr2:2 ^ r<=2 ^ 64:=MY (by decide) (by omega)
   refine⟨P++[c],dV ?_,hw.app (Wd.one (by omega)),?_,by simp; omega⟩
   unfold oc
   dsimp only
   rw[PG]; rfl
   rw[kv,hP,<-hv,Ow (by omega)]
   simp[vl]
  | succ j ih =>
   intro i m P c hi hm hP hw hc hv;obtain⟨m,rfl⟩:∃m',m=m'+1:=⟨m-1,by omega⟩
   have hi':i<l.length:=by omega
   obtain⟨x,e2⟩:∃x,l[i]? = some x:=⟨l[i],by simp⟩
   have hx:=hl.at e2;obtain⟨y,y1,y2,y3,y4,y5⟩:=Bu hr hx;have hr2:2 ^ r<=2 ^ 63:=MY (by decide) (by omega)
   have hw2:uw .u64 (uw .u64 c ||| uw .u64 (eF .u64 x r))=c+y*2 ^ r:=by
    rw[y1,xH (show c<18446744073709551616 by omega),JE hc,xH (by omega)]
   have hcd:wp (q+(i+1))=18446744073709551616*wp (q+i):=iC (q+i);have hval:vl (P++[c+y*2 ^ r])+wp (q+(i+1))*(x/2 ^ (64-r))+wp (q+(i+1))*(2 ^ r*vl (l.drop (i+1)))=2 ^ k*vl l:=by
    rw[<-hv,jY e2,kv,hP,hcd,eu,ig,Nat.mul_zero,NA];have e1:2 ^ r*(x+18446744073709551616*vl (l.drop (i+1)))=y*2 ^ r+18446744073709551616*(x/2 ^ (64-r))+18446744073709551616*(2 ^ r*vl (l.drop (i+1))):=by
     rw[NM,M9 (2 ^ r) x,<-y3,Nf]
    rw[e1];generalize x/2 ^ (64-r)=d;generalize 2 ^ r*vl (l.drop (i+1))=V;generalize y*2 ^ r=Y;simp only[NM,MT,Nf (wp (q+i)) 18446744073709551616];omega
   have st:oc n l (k:Int) (P++c::List.replicate (j+1) 0,l.length+q+1,(i:Int))=some (.inl ((P++[c+y*2 ^ r])++x/2 ^ (64-r)::List.replicate j 0,l.length+q+1,((i+1:Nat):Int))):=by
    unfold oc
    dsimp only
    rw[PF,aK hi',bC,Mx,e2,an,qB,ya,hqd,hrd,bf (x:=((q:Nat):Int)) (by omega) (by omega),bf (x:=(i:Int)+(q:Int)) (by omega) (by omega)]
    rw[show(i:Int)+(q:Int)=((q+i:Nat):Int) by omega,aK (by omega),bC,Mx,yz P c _ hP.symm,an,fi (Nt _),Mx,hw2,an,bC]
    rw[Eg P c _ _ hP.symm,bf (x:=64-(r:Int)) (by omega) (by omega)]
    by_cases h0:0<r
    rw[PF,PH,an,fi (by omega),aK (by omega),bC,Mx]
    rw[NQ,show P++(c+y*2 ^ r)::0::List.replicate j 0=(P++[c+y*2 ^ r])++0::List.replicate j 0 by simp]
    rw[yz (P++[c+y*2 ^ r]) 0 _ (by simp; omega),an,Eg (P++[c+y*2 ^ r]) 0 _ _ (by simp; omega),an,PH]
    have hsh:di .u64 x (64-(r:Int)).toNat=x/2 ^ (64-r):=by
     unfold di;rw[show(64-(r:Int)).toNat=64-r by omega]
     show x/2 ^ min (64-r) 64=_
     rw[Nw (show 64-r<=64 by omega)]
    rw[hsh]
    have hr0:r=0:=by omega
    subst hr0;rw[PG,an,PH,NQ]
    have:x/2 ^ (64-0)=0:=Nat.div_eq_of_lt hx;rw[this];simp
   rw[cC st];refine ih (i+1) m _ _ (by omega) (by omega) (by simp; omega) (hw.app (Wd.one (by omega))) y4 hval
 obtain⟨out,o1,o2,o3,o4⟩:=hL l.length 0 n (List.replicate q 0) 0 (by omega) (by omega) (by simp) (Wd.zeros q) (Nat.pow_pos (by decide)) (by
  rw[iS,List.drop_zero,hkv,Nat.mul_zero,Nu,NA,MT])
 obtain⟨t,m,m1,m2⟩:=fu (n:=n) false o2 (by omega) (by omega)
 refine⟨t,m,?_,?_⟩
 unfold Cb;rw[qB,hqd,bf (x:=((q:Nat):Int)) (by omega) (by omega),bf (x:=(l.length:Int)+(q:Int)) (by omega) (by omega),an]
 rw[show(l.length:Int)+(q:Int)=((l.length+q:Nat):Int) by omega,PH,fi (Nt _),Mx,nJ (by omega),bC]
 rw[show List.replicate (l.length+q+1) 0=List.replicate q 0++0::List.replicate l.length 0 by
  rw[show l.length+q+1=q+(l.length+1) by omega,<-List.replicate_append_replicate,NQ]]
 rw[show(0:Int)=((0:Nat):Int) from rfl,o1,an]
 dsimp only
 rw[m1]; rfl
 have:rG false (vl out)=((vl l*2 ^ k:Nat):Int):=by
  unfold rG;rw[o3,M9]; rfl
 rw[<-this]; exact m2
def KE(d:Nat):d<2 ^ bl d:=by
 unfold bl
 split
 rename_i h; subst h; decide
 rename_i h; exact(Nat.log2_lt h).1 (Nq _)
def Iq{d:Nat}(h:d≠0):2 ^ (bl d-1)<=d:=by
 unfold bl;rw[ME h]; exact Nat.log2_self_le h
def I3{d:Nat}(h:d≠0):0<bl d:=by
 unfold bl;rw[ME h]; exact Nat.succ_pos _
def Ae{n:Nat}{l:PM Nat}(hl:Wd l)(ll:∀d,l.getLast? = some d->d≠0)(hb:l.length<1000000) :
  ∃k:Nat,Bh n l=some (k:Int)/\k<=64*l.length/\vl l<2 ^ k/\(l≠[]->0<k/\2 ^ (k-1)<=vl l):=by
 by_cases h:l=[]
 subst h;exact⟨0,rfl,MA _,Nat.one_pos,fun h=>MX rfl h⟩
 obtain⟨a,d,rfl⟩:∃a d,l=a++[d]:=⟨l.dropLast,l.getLast h,(List.dropLast_concat_getLast h).symm⟩;have hd0:=ll d (by simp)
 have hd:=hl d (by simp)
 have hla:(a++[d]).length=a.length+1:=by simp
 have hb1:2 ^ (bl d-1)<=d:=Iq hd0;have hb2:d<2 ^ bl d:=KE d;have hb3:bl d<=64:=CP (s:=64) hd;have hb0:0<bl d:=I3 hd0;have hwp:wp a.length=2 ^ (64*a.length):=by unfold wp; rw[Nat.pow_mul]
 refine⟨64*a.length+bl d,?_,by rw[hla]; omega,?_,fun _=>⟨by omega,?_⟩⟩
 unfold Bh yP;rw[bj (by rw[hla]; omega),hla,bf (by omega) (by omega),show((a.length+1:Nat):Int)-1=((a.length:Nat):Int) by omega,aK (by omega),bC,Mx,yz a d [] rfl,an,Aw n d hd,an,an]
 rw[bf (x:=64-((bl d:Nat):Int)) (by omega) (by omega),bf (x:=64*((a.length+1:Nat):Int)) (by omega) (by omega),bf (by omega) (by omega)]
 congr 1; omega
 have h1:=jV hl.left;rw[kv,eu,ig,Nat.mul_zero,NA,N2,<-hwp];have h2:=Np (wp a.length) (show d+1<=2 ^ bl d by omega)
 rw[NM,Nat.mul_one] at h2;omega
 rw[kv,eu,ig,Nat.mul_zero,NA,show 64*a.length+bl d-1=64*a.length+(bl d-1) by omega,N2,<-hwp]
 have h2:=Np (wp a.length) hb1;omega
def F0{l:PM Nat}(hl:Wd l){k:Nat}(hk:k/64<l.length)(hd:2 ^ (k+1)∣vl l) :
  ∃w,l[k/64]? = some w/\uw .u64 (uw .u64 w ||| uw .u64 (eF .u64 1 (k%64)))<18446744073709551616/\vl (l.set (k/64) (uw .u64 (uw .u64 w ||| uw .u64 (eF .u64 1 (k%64)))))=vl l+2 ^ k:=by
 obtain⟨w,hw⟩:∃w,l[k/64]? = some w:=⟨l[k/64],by simp⟩
 have h0:=hl.at hw;generalize hqd:k/64=q at *;have hr:k%64<64:=Nx _ (by decide)
 generalize hrd:k%64=r at *;have hkk:k=64*q+r:=by omega
 have hwp:wp q=2 ^ (64*q):=by unfold wp; rw[Nat.pow_mul]
 have hpos:0<wp q:=yD q;have hdw:2 ^ (r+1)∣w:=by
  have h1:=eC l q (Oa hk);have h2:wp q∣vl l:=Nat.dvd_trans (by rw[hwp]; exact Nat.pow_dvd_pow 2 (by omega)) hd
  have h3:vl (l.take q)=0:=by
   have h4:vl (l.take q)<wp q:=by
    have:=jV (hl.take q);rwa[NK,Nw (Oa hk)] at this
   have h5:wp q∣vl (l.take q):=by
    rw[h1] at h2;exact(Nat.dvd_add_left (Nat.dvd_mul_right _ _)).1 h2
   exact Nat.eq_zero_of_dvd_of_lt h5 h4
  rw[h3,Nu,jY hw] at h1;have h6:wp q*2 ^ (r+1)∣wp q*(w+18446744073709551616*vl (l.drop (q+1))):=by
   rw[<-h1,hwp,<-N2,<-OB,<-hkk]; exact hd
  have h7:=Nat.dvd_of_mul_dvd_mul_left hpos h6;have h8:2 ^ (r+1)∣18446744073709551616*vl (l.drop (q+1)):=Nat.dvd_trans (by
   rw[show(18446744073709551616:Nat)=2 ^ 64 from rfl]; exact Nat.pow_dvd_pow 2 (by omega)) (Nat.dvd_mul_right _ _)
  exact(Nat.dvd_add_left h8).1 h7
 obtain⟨y,rfl⟩:=hdw;have h2r:2 ^ r<18446744073709551616:=by
  rw[show(18446744073709551616:Nat)=2 ^ 64 from rfl]; exact Nat.pow_lt_pow_right (by decide) hr
 have hsh:uw .u64 (eF .u64 1 r)=2 ^ r:=by
  unfold eF;rw[show min r (IntKind.bits .u64)=r from Nw (by show r<=64; omega),Nat.one_mul,xH h2r,xH h2r]
 have hlt:2 ^ r<2 ^ (r+1):=Nat.pow_lt_pow_right (by decide) (Nq r)
 have hor:2 ^ (r+1)*y ||| 2 ^ r=2 ^ (r+1)*y+2 ^ r:=(Nat.two_pow_add_eq_or_of_lt hlt y).symm;have hfit:2 ^ (r+1)*y+2 ^ r<18446744073709551616:=by
  have hp:2 ^ (r+1)*2 ^ (63-r)=18446744073709551616:=by rw[<-N2,show r+1+(63-r)=64 by omega]
  rw[<-hp] at h0;have hy:=Nat.lt_of_mul_lt_mul_left h0;have:=Np (2 ^ (r+1)) (show y+1<=2 ^ (63-r) by omega)
  rw[NM,Nat.mul_one,hp] at this;omega
 refine⟨_,hw,?_,?_⟩
 rw[hsh,xH h0,hor,xH hfit]; exact hfit
 rw[hsh,xH h0,hor,xH hfit];have h:=zp (2 ^ (r+1)*y+2 ^ r) hw;rw[NM] at h;have e:wp q*2 ^ r=2 ^ k:=by rw[hwp,<-N2,<-hkk]
 omega
def zW{n:Nat}{z1 z2:Int}{s1 s2:Bool}{a b:PM Nat}(ha:Lg z1 s1 a)(hb:Lg z2 s2 b)(hb0:b≠[])(hla:a.length<10000)(hlb:b.length<10000)(hn:10000000<n) :
  ∃q t r,w8 n a b=some (q,r)/\Wd q/\q.length=a.length/\vl q=vl a/vl b/\Lg ((vl a%vl b:Nat):Int) t r:=by
 have hbp:0<vl b:=MC (yD _) (jP hb.last hb0)
 by_cases h1:b.length=1
 ·obtain⟨d,rfl⟩:∃d,b=[d]:=by
   match b,h1 with
   | [d],_=>exact⟨d,rfl⟩
  have hd:=hb.wd d (by simp)
  have hv:vl [d]=d:=by simp[vl]
  rw[hv] at hbp ⊢;obtain⟨q,t,m,q1,q2,q3,q4,q5,_⟩:=Dx (n:=n) ha.wd hd (by omega) (by omega) (by omega) (by omega)
  exact⟨q,t,m,q1,q2,q4,q3,q5⟩
 ·obtain⟨ka,a1,a2,a3,a4⟩:=Ae (n:=n) ha.wd ha.last (by omega)
  obtain⟨kb,b1,b2,b3,b4⟩:=Ae (n:=n) hb.wd hb.last (by omega)
  obtain⟨b5,b6⟩:=b4 hb0;have hL:∀(j m:Nat) (q r:PM Nat) (t:Bool) (z:Int),j<m->j+kb<=ka+1\/j=0->Wd q->q.length=a.length->Lg z t r->r.length<=a.length+1->vl r<vl b*2 ^ j->vl a=vl q*vl b+vl r->2 ^ j∣vl q->j<=64*a.length ->
    ∃q' r' t' z',cT (iR n b a) m (q,r,(j:Int)-1)=some (q',r')/\Wd q'/\q'.length=a.length/\Lg z' t' r'/\vl r'<vl b/\vl a=vl q'*vl b+vl r':=by
   intro j
   induction j with
   | zero =>
    intro m q r t z hm _ hq hql hr hrl hlt hv hdv _;obtain⟨m,rfl⟩:∃m',m=m'+1:=⟨m-1,by omega⟩
    refine⟨q,r,t,z,dV ?_,hq,hql,hr,by simpa using hlt,hv⟩
    unfold iR
    dsimp only
    rw[bj (by decide)]
   | succ j ih =>
    intro m q r t z hm hj hq hql hr hrl hlt hv hdv hja;obtain⟨m,rfl⟩:∃m',m=m'+1:=⟨m-1,by omega⟩
    obtain⟨tt,tm,t1,t2⟩:=Gi (n:=n) (k:=j) hb.wd (by omega) (by omega) (by omega)
    have htv:vl tm=vl b*2 ^ j:=by rw[t2.abs,MN]
    have htl:tm.length<=r.length\/vl r<vl tm:=by
     rcases M7 (vl r) (vl tm) with h|h
     exact .inr h
     left
     refine Decidable.byContradiction fun hc=>?_;have h5:=jV hr.wd
     by_cases htm:tm=[]
     subst htm; simp at hc
     have h6:=jP t2.last htm;have h7:wp r.length<=wp (tm.length-1):=MY (by decide) (by omega)
     omega
    have htlen:tm.length<1073741824:=by
     by_cases htm:tm=[]
     subst htm; simp
     have h6:=jP t2.last htm;have h7:=jV hb.wd;refine Decidable.byContradiction fun hc=>?_;obtain⟨K,hK⟩:∃K:Nat,K=640000:=⟨_,rfl⟩;have h8:wp (b.length+K)<=wp (tm.length-1):=MY (by decide) (by omega)
     have h9:2 ^ j<=wp K:=by
      unfold wp;rw[show(18446744073709551616:Nat)=2 ^ 64 from rfl,<-Nat.pow_mul]
      exact MY (by decide) (by omega)
     have h10:vl b*2 ^ j<wp b.length*wp K:=MC (Nat.mul_lt_mul_of_pos_right h7 (Nat.pow_pos (by decide))) (Np _ h9)
     rw[<-IE] at h10;omega
    obtain⟨c,c1,c2,c3⟩:=AU (n:=n) hr.wd t2.wd hr.last t2.last (by omega) htlen (by omega)
    have hpow:vl b*2 ^ (j+1)=vl b*2 ^ j+vl b*2 ^ j:=by rw[Nat.pow_succ]; rw[<-MT]; omega
    by_cases hc:0<=c
    have hle:vl tm<=vl r:=by
     have:=mt c2.2 (by omega)
     omega
    have hlen:tm.length<=r.length:=htl.resolve_right (by omega)
    obtain⟨u,u1,u2,u3,u4⟩:=vj (n:=n) hr.wd t2.wd hle hlen (by omega) (by omega)
    obtain⟨s',r',f1,f2⟩:=fu (n:=n) false u2 (by omega) (by omega)
    have hr'v:vl r'=vl r-vl tm:=by
     rw[f2.abs]; unfold rG; simp only[MJ,if_false,MN]; exact u3
    have hr'l:r'.length<=a.length+1:=by
     by_cases hn':r'=[]
     subst hn'; simp
     have h6:=jP f2.last hn';have h5:=jV hr.wd;refine Decidable.byContradiction fun hc=>?_;have h7:wp r.length<=wp (r'.length-1):=MY (by decide) (by omega)
     omega
    have hjq:j/64<q.length:=by rw[hql]; omega
    obtain⟨w,w1,w2,w3⟩:=F0 hq (k:=j) hjq hdv;have st:iR n b a (q,r,((j+1:Nat):Int)-1)=some (.inl (q.set (j/64) (uw .u64 (uw .u64 w ||| uw .u64 (eF .u64 1 (j%64)))),r',(j:Int)-1)):=by
     unfold iR
     dsimp only
     rw[show((j+1:Nat):Int)-1=(j:Int) by omega,bK (Nt _),t1,an,c1,an,bK hc,u1,an,f1,an]
     dsimp only
     rw[qB,ya,bf (x:=((j/64:Nat):Int)) (by omega) (by omega),Mx,Mx,Mx,aK (by omega),bC,w1,an,fi (Nt _),an,bC,an]
     dsimp only
     rw[bf (by omega) (by omega)]
    rw[cC st];have hmulr:vl b*2 ^ j=2 ^ j*vl b:=M9 _ _;refine ih m _ r' s' _ (by omega) (by omega) (hq.set w2) (by rw[Og]; exact hql) f2 hr'l (by omega) ?_ ?_ (by omega)
    rw[w3,Nc,hr'v,hv,htv];omega
    rw[w3];exact Nat.dvd_add (Nat.dvd_trans (Nat.pow_dvd_pow 2 (Nat.le_succ j)) hdv) (Nat.dvd_refl _)
    have st:iR n b a (q,r,((j+1:Nat):Int)-1)=some (.inl (q,r,(j:Int)-1)):=by
     unfold iR
     dsimp only
     rw[show((j+1:Nat):Int)-1=(j:Int) by omega,bK (Nt _),t1,an,c1,an,bj hc,an]
     dsimp only
     rw[bf (by omega) (by omega)]
    rw[cC st];have:=c2.1 (by omega)
    exact ih m q r t z (by omega) (by omega) hq hql hr hrl (by omega) hv (Nat.dvd_trans (Nat.pow_dvd_pow 2 (Nat.le_succ j)) hdv) (by omega)
  have start:∃(q' r':PM Nat) (t':Bool) (z':Int),cT (iR n b a) n (List.replicate a.length 0,a,(ka:Int)-(kb:Int))=some (q',r')/\Wd q'/\q'.length=a.length/\Lg z' t' r'/\vl r'<vl b/\vl a=vl q'*vl b+vl r':=by
   by_cases hk:kb<=ka
   have h7:vl a<vl b*2 ^ (ka-kb+1):=by
    refine MC a3 ?_;rw[show ka=(kb-1)+(ka-kb+1) by omega,N2]
    exact Nb b6 (MY (by decide) (by omega))
   have:=hL (ka-kb+1) n (List.replicate a.length 0) a s1 z1 (by omega) (.inl (by omega)) (Wd.zeros _) (by simp) ha (by omega) h7 (by rw[iS]; omega) (by rw[iS]; exact Nat.dvd_zero _) (by omega)
   rw[show((ka-kb+1:Nat):Int)-1=(ka:Int)-(kb:Int) by omega] at this
   exact this
   obtain⟨m,rfl⟩:∃m',n=m'+1:=⟨n-1,by omega⟩
   refine⟨List.replicate a.length 0,a,s1,z1,dV ?_,Wd.zeros _,by simp,ha,?_,by rw[iS]; omega⟩
   unfold iR
   dsimp only
   rw[PG]
   exact MC a3 (MU (MY (by decide) (by omega)) b6)
  obtain⟨q,r,t,z,l1,l2,l3,l4,l5,l6⟩:=start;have dr:vl r=vl a%vl b:=by rw[l6,M9,Nat.mul_add_mod,Nh l5]
  have dq:vl q=vl a/vl b:=by rw[l6,M9,Nat.mul_add_div hbp,Nat.div_eq_of_lt l5]; rfl
  refine⟨q,false,r,?_,l2,l3,dq,⟨l4.wd,l4.last,by rw[<-dr]; rfl,fun h=>(nomatch h)⟩⟩
  unfold w8;rw[fi (by omega),Mx,nJ (by omega),bC,PG,a1,an,b1,an,bf (by omega) (by omega),l1,an]
end
section
open Go Go.Ab Go.Ab.W
def Lg.fW{z:Int}{s:Bool}{l:PM Nat}(h:Lg z s l){k:Nat}(hz:z.natAbs<wp k):l.length<=k:=by
 by_cases hl:l=[]
 subst hl; simp
 have h1:=jP h.last hl;rw[h.abs] at h1;refine Decidable.byContradiction fun hc=>?_;have h2:wp k<=wp (l.length-1):=MY (by decide) (by omega)
 omega
def Lg.lt{z:Int}{s:Bool}{l:PM Nat}(h:Lg z s l):z.natAbs<wp l.length:=by
 rw[<-h.abs]; exact jV h.wd
def Lg.un{v:Nat}{s:Bool}{l:PM Nat}(h:Lg (v:Int) s l):s=false:=by
 rw[h.EU,Nv (by omega)]
def Lg.LM{v:Nat}{s:Bool}{l:PM Nat}(h:Lg (v:Int) s l):vl l=v:=by rw[h.abs,MN]
def Cd{n:Nat}(hn:10000000<n):∀(b a m:Nat) (l k:PM Nat) (s t:Bool),Lg (a:Int) s l->Lg (b:Int) t k->l.length<10000->k.length<10000->b<m ->
  ∃g,cT (pS n) m (l,k)=some g/\Lg ((Nat.gcd a b:Nat):Int) false g:=by
 intro b
 induction b using Nat.strongRecOn with
 | _ b ih =>
  intro a m l k s t hl hk hll hkl hm;obtain⟨m,rfl⟩:∃m',m=m'+1:=⟨m-1,by omega⟩
  by_cases hb:b=0
  subst hb;have:=hk.Lu.2 rfl;subst this;have hs:=hl.un;subst hs;refine⟨l,dV ?_,by rw[Nat.gcd_zero_right]; exact hl⟩
  unfold pS
  dsimp only
  rw[bj (by simp)]
  have hk0:k≠[]:=fun e=>hb (by have:=hk.Lu.1 e; omega)
  obtain⟨q,t',r,q1,_,_,_,q5⟩:=zW (n:=n) hl hk hk0 hll hkl hn;rw[hl.LM,hk.LM] at q5;have hrl:r.length<10000:=Na (q5.fW (k:=k.length) (by
   rw[MN];exact Nat.lt_trans (Nx a (MZ hb)) (by have:=hk.lt; rwa[MN] at this))) hkl
  have hlt:=Nx a (MZ hb);obtain⟨g,g1,g2⟩:=ih (a%b) hlt b m k r t t' hk q5 hkl hrl (by omega)
  refine⟨g,?_,?_⟩
  rw[cC (s':=(k,r)) ?_]
  exact g1
  unfold pS
  dsimp only
  rw[bK (by have:=List.length_pos_iff.2 hk0; omega),q1,an]
  rw[Nat.gcd_comm a b,Nat.gcd_rec b a,Nat.gcd_comm]; exact g2
def rp{n:Nat}{a b:Int}{s t:Bool}{l k:PM Nat}(ha:Lg a s l)(hb:Lg b t k)(hl:l.length<10000)(hk:k.length<10000)(hn:10000000<n)(hbn:b.natAbs<n) :
  ∃g,Bj n s l t k=some (false,g)/\Lg ((Nat.gcd a.natAbs b.natAbs:Nat):Int) false g:=by
 have pos:∀{z:Int} {s:Bool} {l:PM Nat},Lg z s l->Lg ((z.natAbs:Nat):Int) false l:=fun{z s l} h=>⟨h.wd,h.last,by rw[h.abs]; rfl,fun h=>(nomatch h)⟩
 obtain⟨g,g1,g2⟩:=Cd hn b.natAbs a.natAbs n l k false false (pos ha) (pos hb) hl hk hbn;refine⟨g,?_,g2⟩;unfold Bj;rw[g1,an]
def wY{n:Nat}{a b:Int}{s t:Bool}{l k:PM Nat}(h:Lg (a*b) s l)(h':Lg b t k)(h0:b≠0)(hl:l.length<10000)(hk:k.length<10000)(hn:10000000<n) :
  ∃u m v o,Bd n s l t k=some (u,m,v,o)/\Lg a u m:=by
 have hk0:k≠[]:=fun e=>h0 (h'.Lu.1 e);obtain⟨q,t',m,q1,q2,q4,q3,q5⟩:=zW (n:=n) h h' hk0 hl hk hn;obtain⟨u,m',u1,u2⟩:=fu (n:=n) (!(s==t)) q2 (by omega) (by omega)
 rw[h'.abs] at q3 q5;have hz:(vl l%b.natAbs:Nat)=0:=by rw[h.abs,Int.natAbs_mul,Nat.mul_mod_left]
 rw[hz] at q5;obtain⟨rfl,rfl⟩:=q5.inj Lg.zero;obtain⟨v,o,v1,v2⟩:=fu (n:=n) s Wd.nil (by simp) (by simp; omega)
 have v3:Lg 0 v o:=by rw[ig,wE] at v2; exact v2
 obtain⟨rfl,rfl⟩:=v3.inj Lg.zero;refine⟨u,m',false,[],?_,?_⟩
 unfold Bd;rw[q1,an]
 dsimp only
 rw[u1,an]
 dsimp only
 rw[v1,an]
 rfl
 have e1:vl q=a.natAbs:=by rw[q3,h.abs,Int.natAbs_mul,Nat.mul_div_cancel _ (by omega)]
 have hs:=h.EU;have ht:=h'.EU;have:a=rG (!(s==t)) (vl q)\/(a=0):=by
  by_cases ha:a=0
  exact .inr ha
  refine .inl ?_;rw[e1,hs,ht];unfold rG
  by_cases hb0:b<0<;>by_cases ha0:a<0
  have:¬a*b<0:=Int.not_lt.2 (Int.mul_nonneg_of_nonpos_of_nonpos (by omega) (by omega))
  simp[hb0,this]; omega
  have:a*b<0:=Int.mul_neg_of_pos_of_neg (by omega) hb0
  simp[hb0,this]; omega
  have:a*b<0:=Int.mul_neg_of_neg_of_pos ha0 (by omega)
  simp[hb0,this]; omega
  have:¬a*b<0:=Int.not_lt.2 (Int.mul_nonneg (by omega) (by omega))
  simp[hb0,this]; omega
 rcases this with e|e
 rw[e]; exact u2
 rw[e,Int.natAbs_zero] at e1;rw[e1,wE] at u2;rw[e]; exact u2
def pR{n a b:Nat}(hn:10000000<n)(hbn:b<n)(hb0:b≠0){s t:Bool}{l k:PM Nat}(h:Lg (a:Int) s l)(h':Lg (b:Int) t k)(hl:l.length<10000)(hk:k.length<10000) :
  ∃l' k',zG n s l t k=some (false,l',false,k')/\Lg ((a/Nat.gcd a b:Nat):Int) false l'/\Lg ((b/Nat.gcd a b:Nat):Int) false k':=by
 have hg0:Nat.gcd a b≠0:=fun e=>hb0 (Nat.eq_zero_of_gcd_eq_zero_right e);have hgb:Nat.gcd a b<=b:=Nat.le_of_dvd (by omega) (Nat.gcd_dvd_right a b)
 have ea:((a/Nat.gcd a b:Nat):Int)*((Nat.gcd a b:Nat):Int)=(a:Int):=by rw[<-N6,NN (Nat.gcd_dvd_left a b)]
 have eb:((b/Nat.gcd a b:Nat):Int)*((Nat.gcd a b:Nat):Int)=(b:Int):=by rw[<-N6,NN (Nat.gcd_dvd_right a b)]
 obtain⟨g,g1,g2⟩:=rp (n:=n) h h' hl hk hn (by rw[MN]; exact hbn)
 rw[MN,MN] at g2;have hgl:g.length<10000:=Na (g2.fW (k:=k.length) (by
  rw[MN];exact Na hgb (by have:=h'.lt; rwa[MN] at this))) hk
 rw[<-ea] at h;rw[<-eb] at h';obtain⟨u1,m1,v1,o1,f1,f2⟩:=wY (n:=n) h g2 (by omega) hl hgl hn
 obtain⟨u2,m2,v2,o2,f3,f4⟩:=wY (n:=n) h' g2 (by omega) hk hgl hn
 have hu1:=f2.un;have hu2:=f4.un;subst hu1 hu2;refine⟨m1,m2,?_,f2,f4⟩;unfold zG;rw[g1,an]
 dsimp only
 rw[f1,an]
 dsimp only
 rw[f3,an]
 rfl
end
section
open Go Go.Ab Go.Ab.W
def de(T h:Nat):Nat×Nat:=(h/Nat.gcd h T,T/Nat.gcd h T)
def qn{a b c d:Nat}(hb:b≠0)(hd:d≠0)(h:a*d=c*b):a/Nat.gcd a b=c/Nat.gcd c d/\b/Nat.gcd a b=d/Nat.gcd c d:=by
 have g0:0<Nat.gcd a b:=Nat.gcd_pos_of_pos_right a (MZ hb);have k0:0<Nat.gcd c d:=Nat.gcd_pos_of_pos_right c (MZ hd);have c1:=Nat.coprime_div_gcd_div_gcd g0;have c2:=Nat.coprime_div_gcd_div_gcd k0;have ea:=NN (Nat.gcd_dvd_left a b);have eb:=NN (Nat.gcd_dvd_right a b);have ec:=NN (Nat.gcd_dvd_left c d);have ed:=NN (Nat.gcd_dvd_right c d);generalize Nat.gcd a b=g at *;generalize Nat.gcd c d=k at *;generalize a/g=a' at *;generalize b/g=b' at *;generalize c/k=c' at *;generalize d/k=d' at *;subst ea eb ec ed;have e:a'*d'=c'*b':=by
  have h2:(g*k)*(a'*d')=(g*k)*(c'*b'):=by
   have e1:(g*k)*(a'*d')=a'*g*(d'*k):=by simp only[MT,M9,Nf]
   have e2:(g*k)*(c'*b')=c'*k*(b'*g):=by simp only[MT,M9,Nf]
   rw[e1,e2,h]
  exact Nat.eq_of_mul_eq_mul_left (Nat.mul_pos g0 k0) h2
 have hb':0<b':=MZ fun e=>hb (by rw[e,Om])
 have d1:b'∣d':=c1.symm.dvd_of_dvd_mul_left (by rw[e]; exact Nat.dvd_mul_left _ _)
 have d2:d'∣b':=c2.symm.dvd_of_dvd_mul_left (by rw[<-e]; exact Nat.dvd_mul_left _ _)
 have e3:b'=d':=Nat.dvd_antisymm d1 d2;subst e3;exact⟨Nat.eq_of_mul_eq_mul_right hb' e,rfl⟩
section
variable{n:Nat}
def Cr(hn:40<n){a b:Nat}(ha:a<18446744073709551616)(hb:b<18446744073709551616):vT n a 0 0 0 0 0 0 0 b 0 0 0 0 0 0 0=some (false,ul a,false,ul b):=by
 unfold vT;rw[(AY hn ha).1,an]
 dsimp only
 rw[(AY hn hb).1,an]
def JN(hn:18446744073709551616<n){a b:Nat}(ha:a<18446744073709551616)(hb:b<18446744073709551616)(hb0:b≠0)(hg:Nat.gcd a b=1):vn n a 0 0 0 0 0 0 0 b 0 0 0 0 0 0 0=some 0:=by
 unfold vn;rw[mU (by omega),an]
 dsimp only
 rw[Cr (by omega) ha hb,an]
 dsimp only
 have hla:=ux a;have hlb:=ux b;obtain⟨r,r1,r2,r3⟩:=nW (n:=n) (oR hb);rw[r1,an,PG]
 obtain⟨g,g1,g2⟩:=rp (n:=n) (oR ha) (oR hb) (by omega) (by omega) (by omega) (by rw[MN]; omega)
 rw[MN,MN,hg] at g2;obtain⟨_,rfl⟩:=g2.inj (show Lg ((1:Nat):Int) false [1] from iQ)
 rw[g1,an]
 dsimp only
 obtain⟨u,m,m1,m2⟩:=FN (n:=n) iQ iQ (by simp) (by simp) (by simp; omega)
 obtain⟨q,q1,q2,q3⟩:=nW (n:=n) m2;have hc:zF n false [1] false [1]=some q:=by
  unfold zF;rw[m1,an]
  dsimp only
  rw[q1,an]
 rw[hc,an,q3.2 (by omega)]; rfl
def ja{T h:Nat}(hT:T≠0):(de T h).1<=h/\(de T h).2<=T/\(de T h).2≠0/\Nat.gcd (de T h).1 (de T h).2=1/\(de T h).1*T=h*(de T h).2:=by
 have g0:0<Nat.gcd h T:=Nat.gcd_pos_of_pos_right h (MZ hT);have e1:=NN (Nat.gcd_dvd_left h T);have e2:=NN (Nat.gcd_dvd_right h T);refine⟨Nat.div_le_self _ _,Nat.div_le_self _ _,fun e=>?_,Nat.coprime_div_gcd_div_gcd g0,?_⟩
 have e':T/Nat.gcd h T=0:=e;rw[e',Om] at e2;exact hT e2.symm
 show h/Nat.gcd h T*T=h*(T/Nat.gcd h T)
 generalize Nat.gcd h T=g at *;generalize h/g=a at *;generalize T/g=b at *;subst e1 e2;simp only[MT,M9,Nf]
def vL(hn:40<n):rY n 0=some (false,[],false,[1]):=by
 unfold rY;rw[Cc (by omega),an]
 dsimp only
 unfold C9;rw[mU (by omega),an]
 rfl
def Kb(hn:2 ^ 200<n){T S h:Nat}(hT:T≠0)(hT64:T<18446744073709551616)(hS:S<18446744073709551616*1024)(hh:h<18446744073709551616){l k:PM Nat}(hl:Lg (((de T S).1:Nat):Int) false l)(hk:Lg (((de T S).2:Nat):Int) false k) :
  ∃l' k',rJ n false l false k false (ul (de T h).1) false (ul (de T h).2)=some (false,l',false,k')/\Lg (((de T (S+h)).1:Nat):Int) false l'/\Lg (((de T (S+h)).2:Nat):Int) false k':=by
 obtain⟨s3,s4,s1,s5,s2⟩:=ja (h:=S) hT;obtain⟨h1,h2,h3,h8,h0⟩:=ja (h:=h) hT;have hbig:(2:Nat) ^ 200=1606938044258990275541962092341162602522202993782792835301376:=by decide
 have w1:wp 1=18446744073709551616:=rfl;have w2:wp 2=340282366920938463463374607431768211456:=by decide
 have ll:l.length<=2:=hl.fW (by rw[MN,w2]; omega)
 have lk:k.length<=1:=hk.fW (by rw[MN,w1]; omega)
 have la:=ux (de T h).1;have lb:=ux (de T h).2;generalize hN:(de T S).1=N at *;generalize hD:(de T S).2=D at *;generalize ha:(de T h).1=a at *;generalize hb:(de T h).2=b at *;have ga:=oR (v:=a) (by omega)
 have gb:=oR (v:=b) (by omega)
 obtain⟨u0,m1,p0,q0⟩:=vO (n:=n) hl gb (by omega) (by omega) (by omega)
 obtain⟨u1,m2,p1,q2⟩:=vO (n:=n) ga hk (by omega) (by omega) (by omega)
 rw[<-N6] at q0 q2;have h4:=q0.un;have h5:=q2.un;subst h4 h5;have b0:N*b<wp 3:=by
  have:N*b<=(18446744073709551616*1024)*18446744073709551616:=Nb (by omega) (by omega)
  have:wp 3=6277101735386680763835789423207666416102355444464034512896:=by decide
  omega
 have b1:a*D<wp 3:=by
  have:a*D<=18446744073709551616*18446744073709551616:=Nb (by omega) (by omega)
  have:wp 3=6277101735386680763835789423207666416102355444464034512896:=by decide
  omega
 have b2:D*b<wp 3:=by
  have:D*b<=18446744073709551616*18446744073709551616:=Nb (by omega) (by omega)
  have:wp 3=6277101735386680763835789423207666416102355444464034512896:=by decide
  omega
 have l1:m1.length<=3:=q0.fW (by rw[MN]; exact b0)
 have l2:m2.length<=3:=q2.fW (by rw[MN]; exact b1)
 obtain⟨u3,m3,p2,q1⟩:=uT (n:=n) q0 q2 (by omega) (by omega) (by omega)
 rw[<-Int.natCast_add] at q1;have h6:=q1.un;subst h6;have l3:m3.length<=4:=q1.fW (by
  rw[MN];have:wp 4=115792089237316195423570985008687907853269984665640564039457584007913129639936:=by decide
  have:wp 3=6277101735386680763835789423207666416102355444464034512896:=by decide
  omega)
 obtain⟨u4,m4,p3,q3⟩:=vO (n:=n) hk gb (by omega) (by omega) (by omega)
 rw[<-N6] at q3;have h7:=q3.un;subst h7;have l4:m4.length<=3:=q3.fW (by rw[MN]; exact b2)
 have hDb:D*b≠0:=M8 s1 h3;obtain⟨l',k',f1,f0,f2⟩:=pR (n:=n) (by omega) (by
  have:wp 3=6277101735386680763835789423207666416102355444464034512896:=by decide
  have:D*b<=18446744073709551616*18446744073709551616:=Nb (by omega) (by omega)
  omega) hDb q1 q3 (by omega) (by omega)
 have hu:(N*b+a*D)*T=(S+h)*(D*b):=by
  have t0:N*b*T=S*(D*b):=by
   rw[Nat.mul_right_comm,s2,MT]
  have t1:a*D*T=h*(D*b):=by
   rw[Nat.mul_right_comm,h0,MT,M9 b D]
  rw[Nc,Nc,t0,t1]
 obtain⟨v0,v1⟩:=qn hDb hT hu;refine⟨l',k',?_,?_,?_⟩
 unfold rJ;rw[p0,an]
 dsimp only
 rw[p1,an]
 dsimp only
 rw[p2,an]
 dsimp only
 rw[p3,an]
 dsimp only
 rw[f1,an]
 show Lg (((S+h)/Nat.gcd (S+h) T:Nat):Int) false l'
 rw[<-v0]; exact f0
 show Lg ((T/Nat.gcd (S+h) T:Nat):Int) false k'
 rw[<-v1]; exact f2
end
end
end Go.Proofs.YtpkadoocdgdcfaaGreatDoor
end
section
namespace Go.Proofs.YtpkadoocdgdcfaaGreatDoor
open Go Go.Ab Go.Ab.W
abbrev Sh:=Nat×Nat×Nat×Nat×Nat×Nat×Nat×Nat×Nat×Nat×Nat×Nat×Nat×Nat×Nat×Nat
def sh(p:Nat×Nat):Sh:=(p.1,0,0,0,0,0,0,0,p.2,0,0,0,0,0,0,0)
def mD(T:Nat)(l:PM Nat):PM Sh:=l.map fun h=>sh (de T h)
abbrev Kg:=Nat×Nat×Nat×Nat×Nat×Nat×Nat×Nat×Nat×Nat×Nat×Nat×Nat×Nat×Nat×Nat×Int
abbrev KJ(p:Nat×Nat):Kg:=(p.1,0,0,0,0,0,0,0,p.2,0,0,0,0,0,0,0,0)
def Jb(t:PE Kg)(p:Nat×Nat):Bool :=
 match t with
 | some (a,a1,a2,a3,a4,a5,a6,a7,b,b1,b2,b3,b4,b5,b6,b7,e)=>Nat.beq a p.1 &&(Nat.beq b p.2 &&([a1,a2,a3,a4,a5,a6,a7,b1,b2,b3,b4,b5,b6,b7].all (Nat.beq 0)&&decide (e=0)))
 | none=>false
def F2{t:PE Kg}{p:Nat×Nat}(h:Jb t p=true):t=some (KJ p):=by
 unfold Jb at h
 split at h
 simp only[NF,List.all_nil,My,MW,and_true] at h;obtain⟨h1,h2,⟨h3,h4,h5,h6,h7,h8,h9,h10,h11,h12,h13,h14,h15,h16⟩,rfl⟩:=h;rw[Mz h1,Mz h2,<-Mz h3,<-Mz h4,<-Mz h5,<-Mz h6,<-Mz h7,<-Mz h8,<-Mz h9,<-Mz h10,<-Mz h11,<-Mz h12,<-Mz h13,<-Mz h14,<-Mz h15,<-Mz h16]
 cases h
set_option maxRecDepth 100000 in
def IF(m:Nat):(List.range 6).all (fun a=>(List.range 21).all fun S=>Nat.beq S 0||Jb (K8 (m+300) (a:Int) (S:Int)) (de S a))=true:=by kernel_rfl
def I8{n a S:Nat}(hn:300<=n)(ha:a<6)(hS:S<21)(h0:S≠0):K8 n (a:Int) (S:Int)=some (KJ (de S a)):=by
 obtain⟨m,rfl⟩:∃m,n=m+300:=⟨n-300,by omega⟩
 have h:=MK.1 (MK.1 (IF m) a (Oe.2 ha)) S (Oe.2 hS);rw[NJ] at h;rcases h with h|h
 exact MX (Mz h) h0
 exact F2 h
def H0(l:PM Nat)(k:Nat):Nat:=l.getD k 0%6
def raw(l:PM Nat)(N i k:Nat):PM Nat:=(List.range k).map fun j=>H0 l (N*i+j)
def qO(l:PM Nat)(N i k:Nat):raw l N i (k+1)=raw l N i k++[H0 l (N*i+k)]:=by unfold raw; rw[List.range_succ,List.map_append]; rfl
def yp(l:PM Nat)(k:Nat):H0 l k<6:=Nx _ (by decide)
def vu(l:PM Nat)(N i k:Nat):(raw l N i k).length=k:=by unfold raw; simp
def uS(l:PM Nat)(N i:Nat):∀k,(raw l N i k).sum<=5*k
 | 0=>by simp[raw]
 | k+1=>by
  have:=uS l N i k;have:=yp l (N*i+k);rw[qO,List.sum_append,List.sum_singleton]; omega
def DM{l:PM Nat}{N i k x:Nat}(h:x∈raw l N i k):x<6:=by
 obtain⟨j,_,rfl⟩:=Ov.1 h;exact yp _ _
def ints(l:PM Nat):PM Int:=l.map fun x:Nat=>(x:Int)
def Ee(n:Nat)(l2:PM Nat){N i:Nat}(hN:N<=4)(hi:i<N)(hn:300<=n):cT (tj n (N:Int) (i:Int) l2) n (([]:PM Int),0,0)=some (ints (raw l2 N i N),((raw l2 N i N).sum:Int)):=by
 have h:=bW (body:=tj n (N:Int) (i:Int) l2) N (fun(s:Nat) (v:Int)=>(ints (raw l2 N i s),((raw l2 N i s).sum:Int),v)) (fun s=>(ints (raw l2 N i s),((raw l2 N i s).sum:Int))) (fun k s=>s=k) (fun s k hk hs=>?_) (fun s hs=>?_) (n:=n) (s:=0) rfl (by omega)
 obtain⟨s,h1,rfl⟩:=h;exact h1
 subst hs;have hb:N*i<=12:=MU (Nb hN (show i<=3 by omega)) (by omega)
 have hsum:=uS l2 N i s;have hd:=yp l2 (N*i+s);refine⟨s+1,?_,rfl⟩;have e0:OT ((OT ((N:Int)*(i:Int)))+(s:Int))=((N*i+s:Nat):Int):=by
  rw[<-N6,bf (x:=((N*i:Nat):Int)) (by omega) (by omega),bf (by omega) (by omega)]; rfl
 have e1:(br (decide (((N*i+s:Nat):Int)<(l2.length:Int))) (gd (cP ((N*i+s:Nat):Int) l2.length) (ob (l2[(((N*i+s:Nat):Int)).toNat]?) fun x=>some (OT ((x%6:Nat):Int)))) (some 0))=some ((H0 l2 (N*i+s):Nat):Int):=by
  by_cases c:N*i+s<l2.length
  rw[PF,aK c,bC,Mx,MF c,an,bf (by omega) (by have:=Nx l2[N*i+s] (show 0<6 by decide); omega)]
  unfold H0;rw[Nz,MF c]; rfl
  rw[PG]
  unfold H0;rw[Nz,NB (by omega)]; rfl
 have e2:ints (raw l2 N i s)++[((H0 l2 (N*i+s):Nat):Int)]=ints (raw l2 N i (s+1)):=by rw[qO]; unfold ints; rw[List.map_append]; rfl
 have e3:OT (((raw l2 N i s).sum:Int)+((H0 l2 (N*i+s):Nat):Int))=((raw l2 N i (s+1)).sum:Int):=by
  rw[bf (by omega) (by omega),qO,List.sum_append,List.sum_singleton]; omega
 unfold tj
 dsimp only
 rw[PF,e0,e1,an,e2,e3,PH]
 have hlim:lim (ints (raw l2 N i (s+1))).length=true:=by
  unfold ints lim; rw[MS,vu]; exact M6 (by omega)
 rw[hlim,bC]
 subst hs;unfold tj
 dsimp only
 rw[PG]
def iO(l:PM Nat)(N i:Nat):PM Nat:=if(raw l N i N).sum=0 then(raw l N i N).set i 1 else raw l N i N
def mL:∀{l:PM Nat} {i:Nat},i<l.length->l.sum=0->(l.set i 1).sum=1
 | a::l,0,_,hs=>by rw[List.sum_cons] at hs; rw[List.set_cons_zero,List.sum_cons]; omega
 | a::l,i+1,h,hs=>by
  rw[List.sum_cons] at hs;rw[List.set_cons_succ,List.sum_cons,mL (by simpa using h) (by omega)]; omega
def vh(l:PM Nat){N i:Nat}(hN:N<=4)(hi:i<N):(iO l N i).length=N/\(∀x∈iO l N i,x<6)/\(iO l N i).sum≠0/\(iO l N i).sum<21:=by
 have h1:=uS l N i N;have h2:=vu l N i N;unfold iO
 split
 rename_i h0;refine⟨by simp[h2],fun x hx=>?_,by rw[mL (by omega) h0]; decide,by rw[mL (by omega) h0]; decide⟩
 rcases List.mem_or_eq_of_mem_set hx with h|h
 exact DM h
 omega
 exact⟨h2,fun x hx=>DM hx,by assumption,by omega⟩
def DT(n:Nat){N S:Nat}{l l':PM Nat}(hN:N<=4)(hl:l.length=N)(hl':l'.length=N)(h6:∀x∈l,x<6)(h0:S≠0)(hS:S<21)(hn:300<=n):cT (si n (N:Int) (ints l') (ints l) (S:Int)) n (([]:PM Sh),0)=some (mD S l):=by
 have h:=bW (body:=si n (N:Int) (ints l') (ints l) (S:Int)) N (fun(s:PM Sh) (v:Int)=>(s,v)) id (fun k s=>s=(mD S l).take k) (fun s k hk hs=>?_) (fun s hs=>?_) (n:=n) (s:=[]) (by simp) (by omega)
 obtain⟨s,h1,rfl⟩:=h;rw[h1,id,List.take_of_length_le (by unfold mD; rw[MS]; omega)]
 subst hs;have e1:(ints l)[k]? = some ((l[k]'(by omega):Nat):Int):=by unfold ints; rw[MP,MF (by omega)]; rfl
 have hx:=h6 (l[k]'(by omega)) (NP _)
 have e2:(mD S l).take k++[sh (de S (l[k]'(by omega)))]=(mD S l).take (k+1):=by
  unfold mD;rw[Ob (by rw[MS]; omega),List.getElem_map]
 refine⟨_,?_,rfl⟩;unfold si
 dsimp only
 rw[PF,aK (by unfold ints; rw[MS]; omega),bC,Mx,e1,an,I8 hn hx hS h0,an]
 show gd (lim ((mD S l).take k++[sh (de S (l[k]'(by omega)))]).length) (some (.inl ((mD S l).take k++[sh (de S (l[k]'(by omega)))],OT ((k:Int)+1))):PE ((PM Sh×Int)⊕PM Sh))=_
 rw[e2,PH]
 have hlim:lim ((mD S l).take (k+1)).length=true:=by
  unfold lim; exact M6 (by rw[NK]; omega)
 rw[hlim,bC]
 subst hs;unfold si
 dsimp only
 rw[PG]; rfl
def dM(l:PM Nat)(N:Nat):PM (PM Sh):=(List.range N).map fun i=>mD (iO l N i).sum (iO l N i)
def Iz(n x:Nat)(l:PM Nat)(hn:300<=n):K3 n x l=some (dM l (1+x%4)):=by
 have hx:x%4<4:=Nx _ (by decide)
 have eN:OT (1+(OT ((x%4:Nat):Int)))=((1+x%4:Nat):Int):=by
  rw[bf (x:=((x%4:Nat):Int)) (by omega) (by omega),bf (by omega) (by omega)]; omega
 generalize hNN:1+x%4=N at eN ⊢;have h:=bW (body:=tx n l) N (fun(s:PM (PM Sh)) (v:Int)=>((N:Int),s,v)) id (fun k s=>s=(List.range k).map fun i=>mD (iO l N i).sum (iO l N i)) (fun s k hk hs=>?_) (fun s hs=>?_) (n:=n) (s:=[]) (by simp) (by omega)
 obtain⟨s,h1,h2⟩:=h;unfold K3;rw[eN]
 show ob (cT (tx n l) n ((N:Int),([]:PM (PM Sh)),0)) _=_
 rw[h1,an,id,h2]; rfl
 subst hs;refine⟨_,?_,rfl⟩;obtain⟨d1,d2,d3,d4⟩:=vh l (show N<=4 by omega) hk
 have hr:=vu l N k N;unfold tx
 dsimp only
 rw[PF,Ee n l (by omega) hk hn,an]
 dsimp only
 have e1:(br (decide (((raw l N k N).sum:Int)=0)) (gd (cP (k:Int) (ints (raw l N k N)).length) (ob ((ints (raw l N k N))[((k:Int)).toNat]?) fun _=>some ((ints (raw l N k N)).set ((k:Int)).toNat 1,(1:Int)))) (some (ints (raw l N k N),((raw l N k N).sum:Int))))=some (ints (iO l N k),((iO l N k).sum:Int)):=by
  unfold iO
  by_cases c:(raw l N k N).sum=0
  rw[PF,aK (by unfold ints; rw[MS]; omega),bC,Mx,MG c,mL (by omega) c]
  have:(ints (raw l N k N))[k]? = some (((raw l N k N)[k]'(by omega):Nat):Int):=by unfold ints; rw[MP,MF (by omega)]; rfl
  rw[this,an];unfold ints;rw[List.map_set]; rfl
  rw[PG,ME c]
 rw[e1,an]
 dsimp only
 rw[DT n (show N<=4 by omega) d1 hr d2 d3 d4 hn,an,PH]
 have e2:((List.range k).map fun i=>mD (iO l N i).sum (iO l N i))++[mD (iO l N k).sum (iO l N k)]=(List.range (k+1)).map fun i=>mD (iO l N i).sum (iO l N i):=by rw[List.range_succ,List.map_append]; rfl
 rw[e2];have hlim:lim ((List.range (k+1)).map fun i=>mD (iO l N i).sum (iO l N i)).length=true:=by
  unfold lim; exact M6 (by simp; omega)
 rw[hlim,bC]
 subst hs;unfold tx
 dsimp only
 rw[PG]; rfl
end Go.Proofs.YtpkadoocdgdcfaaGreatDoor
end
section
namespace Go.Proofs.YtpkadoocdgdcfaaGreatDoor
open Go Go.Ab Go.Ab.W
variable{n:Nat}
def Cu(hn:40<n):rY n 1=some (false,[1],false,[1]):=by
 unfold rY;rw[mU (by omega),an]
 dsimp only
 unfold C9;rw[mU (by omega),an]
 rfl
def Jh{v:Nat}:∃r,yc n false (ul v)=some r/\¬r<0/\(0<r↔v≠0):=by
 unfold yc ul
 by_cases h:v=0
 subst h; exact⟨0,rfl,by decide,by decide⟩
 rw[ME h]; exact⟨1,rfl,by decide,by simp[h]⟩
def Iv(hn:18446744073709551616<n){T h:Nat}(hT:T≠0)(hT64:T<18446744073709551616)(hh:h<18446744073709551616):wo n (de T h).1 0 0 0 0 0 0 0 (de T h).2 0 0 0 0 0 0 0=some false:=by
 obtain⟨k1,k2,k3,k4,_⟩:=ja (h:=h) hT;unfold wo;rw[JN hn (by omega) (by omega) k3 k4,an]
 show ob (vT n (de T h).1 0 0 0 0 0 0 0 (de T h).2 0 0 0 0 0 0 0) _=_
 rw[Cr (by omega) (by omega) (by omega),an]
 dsimp only
 obtain⟨r,r1,r2,_⟩:=Jh (n:=n) (v:=(de T h).1);rw[r1,an,Nv r2]
def qD{T:Nat}(hT:T≠0):de T T=(1,1):=by
 unfold de;rw[Nat.gcd_self,Nat.div_self (MZ hT)]
def pZ{T:Nat}(hT:T≠0):de T 0=(0,1):=by unfold de; rw[Nat.gcd_zero_left,Nat.zero_div,Nat.div_self (MZ hT)]
def oZ(l:PM Nat):∀i,(l.take i).sum<=l.sum
 | 0=>by simp
 | i+1=>by
  cases l with
  | nil=>simp
  | cons a l=>rw[List.take_succ_cons,List.sum_cons,List.sum_cons]; have:=oZ l i; omega
def Gf(hn:2 ^ 200<n){T:Nat}(hT:T≠0)(hT64:T<18446744073709551616){l:PM Nat}(hl:∀h∈l,h<=T)(hlen:l.length<=1000)(hsum:l.sum=T):wJ n (mD T l)=some true:=by
 have hbig:(2:Nat) ^ 200=1606938044258990275541962092341162602522202993782792835301376:=by decide
 have hle:(mD T l).length=l.length:=by unfold mD; rw[MS]
 have hget:∀i (hi:i<l.length),(mD T l)[i]? = some (sh (de T l[i])):=fun i hi=>by unfold mD; rw[MP,MF hi]; rfl
 have h1:=bW (body:=kO n (mD T l)) l.length (fun(_:PN) (v:Int)=>v) (fun _=>(.inr ():Int⊕PN)) (fun _ _=>True) (fun s i hi _=>by
  have hx:=hl l[i] (NP hi);refine⟨(),?_,trivial⟩;unfold kO;rw[PF,aK (by omega),bC,Mx,hget i hi,an]
  show ob (wo n (de T l[i]).1 0 0 0 0 0 0 0 (de T l[i]).2 0 0 0 0 0 0 0) _=_
  rw[Iv (by omega) hT hT64 (by omega),an,dS,PH]) (fun s _=>by
  unfold kO;rw[PG]) (n:=n) (s:=()) trivial (by omega)
 obtain⟨_,h1,_⟩:=h1;have h2:=bW (body:=iN n (mD T l)) l.length (fun(s:PM Nat×PM Nat) (v:Int)=>(false,s.1,false,s.2,v)) (fun s=>(false,s.1,false,s.2)) (fun i s=>Lg (((de T (l.take i).sum).1:Nat):Int) false s.1/\Lg (((de T (l.take i).sum).2:Nat):Int) false s.2) (fun s i hi hs=>by
  have hx:=hl l[i] (NP hi);have h0:=oZ l i;obtain⟨k0,k2,_⟩:=ja (h:=l[i]) hT;obtain⟨l',k',f1,f0,f2⟩:=Kb hn hT hT64 (show(l.take i).sum<18446744073709551616*1024 by omega) (show l[i]<18446744073709551616 by omega) hs.1 hs.2
  have e:(l.take (i+1)).sum=(l.take i).sum+l[i]:=by rw[Ob hi,List.sum_append,List.sum_singleton]
  refine⟨(l',k'),?_,by rw[e]; exact f0,by rw[e]; exact f2⟩
  unfold iN
  dsimp only
  rw[PF,aK (by omega),bC,Mx,hget i hi,an]
  show ob (vT n (de T l[i]).1 0 0 0 0 0 0 0 (de T l[i]).2 0 0 0 0 0 0 0) _=_
  rw[Cr (by omega) (by omega) (by omega),an]
  dsimp only
  rw[f1,an]
  dsimp only
  rw[PH]) (fun s _=>by
  unfold iN
  dsimp only
  rw[PG]) (n:=n) (s:=([],[1])) (by rw[List.take_zero,List.sum_nil,pZ hT]; exact⟨Lg.zero,iQ⟩) (by omega)
 obtain⟨s,h2,g0,g1⟩:=h2;rw[List.take_length,hsum,qD hT] at g0 g1;obtain⟨_,e1⟩:=g0.inj iQ;obtain⟨_,e2⟩:=g1.inj iQ;unfold wJ;rw[h1,an]
 show ob (ob (some (-1:Int)) fun v0=>some (decide (0<=v0))) _=_
 rw[an,an,show decide ((0:Int)<=-1)=false from rfl,dS,vL (by omega),an]
 dsimp only
 rw[show cT (iN n (mD T l)) n (false,[],false,[1],0)=_ from h2,an]
 dsimp only
 rw[an]
 dsimp only
 rw[Cu (by omega),an]
 dsimp only
 rw[e1,e2];obtain⟨m,rfl⟩:∃m,n=m+100:=⟨n-100,by omega⟩
 have e0:DJ (m+100) false [1] false [1] false [1] false [1]=some 0:=by kernel_rfl
 rw[e0,an]; rfl
structure RowsOk(M:PM (PM Nat)):Prop where
 len:1<=M.length/\M.length<=60
 row:∀l∈M,l.length=M.length/\l.sum≠0/\l.sum<18446744073709551616
def pf(M:PM (PM Nat)):PM (PM Sh):=M.map fun l=>mD l.sum l
def yn:∀{l:PM Nat} {x:Nat},x∈l->x<=l.sum
 | a::l,x,h=>by
  rw[List.sum_cons];rcases M0.1 h with rfl|h
  omega
  have:=yn h; omega
def Ew(hn:2 ^ 200<n){M:PM (PM Nat)}(hM:RowsOk M):H3 n (pf M)=some 0:=by
 have hbig:(2:Nat) ^ 200=1606938044258990275541962092341162602522202993782792835301376:=by decide
 have hle:(pf M).length=M.length:=by unfold pf; rw[MS]
 obtain⟨h1,h60⟩:=hM.len;have hL:=bW (body:=xB n (pf M)) M.length (fun(_:PN) (v:Int)=>v) (fun _=>(.inr ():PN⊕PN)) (fun _ _=>True) (fun s i hi _=>by
  obtain⟨r1,r2,r3⟩:=hM.row M[i] (NP hi);have e:(pf M)[i]? = some (mD M[i].sum M[i]):=by unfold pf; rw[MP,MF hi]; rfl
  refine⟨(),?_,trivial⟩;unfold xB;rw[PF,aK (by omega),bC,Mx,e,an]
  have e2:(mD M[i].sum M[i]).length=M.length:=by unfold mD; rw[MS,r1]
  rw[e2,hle,M4 rfl,MO,dS,Gf hn r2 r3 (fun h hh=>yn hh) (by omega) rfl,an,an,MO,dS,PH]) (fun s _=>by
  unfold xB;rw[PG]) (n:=n) (s:=()) trivial (by omega)
 obtain⟨_,hL,_⟩:=hL;unfold H3;rw[PG,an,Nv (by omega),dS,hL]; rfl
end Go.Proofs.YtpkadoocdgdcfaaGreatDoor
end
section
namespace Go.Proofs.YtpkadoocdgdcfaaGreatDoor
open Go Go.Ab Go.Ab.W
set_option exponentiation.threshold 3000
variable{n:Nat}
def zx{T U a b:Nat}(hT:T≠0)(hU:U≠0)(h:a*U=b*T):de T a=de U b:=by
 obtain⟨h1,h2⟩:=qn (a:=a) (b:=T) (c:=b) (d:=U) hT hU h;exact Prod.ext h1 h2
structure Q(l k:PM Nat)(a T:Nat):Prop where
 num:Lg (((de T a).1:Nat):Int) false l
 den:Lg (((de T a).2:Nat):Int) false k
def Q.eq{l k l' k':PM Nat}{a T:Nat}(h:Q l k a T)(h':Q l' k' a T):l=l'/\k=k':=⟨(h.num.inj h'.num).2,(h.den.inj h'.den).2⟩
def Q.same{l k:PM Nat}{a T b U:Nat}(h:Q l k a T)(hT:T≠0)(hU:U≠0)(e:a*U=b*T):Q l k b U:=by
 have:=zx hT hU e;exact⟨by rw[<-this]; exact h.num,by rw[<-this]; exact h.den⟩
def Q.zero{T:Nat}(hT:T≠0):Q [] [1] 0 T:=⟨by rw[pZ hT]; exact Lg.zero,by rw[pZ hT]; exact iQ⟩
def Q.one{T:Nat}(hT:T≠0):Q [1] [1] T T:=⟨by rw[qD hT]; exact iQ,by rw[qD hT]; exact iQ⟩
def IA:(2:Nat) ^ 900<wp 15:=by unfold wp; decide +kernel
def Fo:(2:Nat) ^ 440<wp 7:=by unfold wp; decide +kernel
def kM{T a:Nat}(hT:T≠0):(de T a).1<=a/\(de T a).2<=T/\(de T a).2≠0:=⟨(ja hT).1,(ja hT).2.1,(ja hT).2.2.1⟩
def Q.len{l k:PM Nat}{a T:Nat}(h:Q l k a T)(hT:T≠0)(hTb:T<2 ^ 900)(ha:a<2 ^ 900):l.length<=15/\k.length<=15:=by
 have hw:=IA;obtain⟨h1,h2,_⟩:=kM (a:=a) hT;exact⟨h.num.fW (by rw[MN]; omega),h.den.fW (by rw[MN]; omega)⟩
def Q.om{l k:PM Nat}{a T:Nat}(h:Q l k a T)(hT:T≠0)(hTb:T<2 ^ 440)(ha:a<2 ^ 440):l.length<=7/\k.length<=7:=by
 have hw:=Fo;obtain⟨h1,h2,_⟩:=kM (a:=a) hT;exact⟨h.num.fW (by rw[MN]; omega),h.den.fW (by rw[MN]; omega)⟩
def Ko:(2:Nat) ^ 900*2 ^ 900*2<=2 ^ 2000:=by decide +kernel
def mY{a b:Nat}(ha:a<2 ^ 900)(hb:b<2 ^ 900):a*b<2 ^ 900*2 ^ 900:=Nat.mul_lt_mul'' ha hb
def cE(hn:2 ^ 2000<n):1000000000<n:=Nat.lt_trans (by decide +kernel) hn
def p5(hn:2 ^ 2000<n){a b:Nat}{l k:PM Nat}(h:Lg (a:Int) false l)(h':Lg (b:Int) false k)(hl:l.length<=100)(hk:k.length<=100):∃m,B7 n false l false k=some (false,m)/\Lg ((a*b:Nat):Int) false m:=by
 have hs:=cE hn;obtain⟨u,m,h1,h2⟩:=vO (n:=n) h h' (by omega) (by omega) (by omega)
 rw[<-N6] at h2;have:=h2.un;subst this;exact⟨m,h1,h2⟩
def Jk(hn:2 ^ 2000<n){a b:Nat}{l k:PM Nat}(h:Lg (a:Int) false l)(h':Lg (b:Int) false k)(hl:l.length<=100)(hk:k.length<=100):∃m,uz n false l false k=some (false,m)/\Lg ((a+b:Nat):Int) false m:=by
 have hs:=cE hn;obtain⟨u,m,h1,h2⟩:=uT (n:=n) h h' (by omega) (by omega) (by omega)
 rw[<-Int.natCast_add] at h2;have:=h2.un;subst this;exact⟨m,h1,h2⟩
def L2:(2:Nat) ^ 900*2 ^ 900*2<wp 30:=by unfold wp; decide +kernel
def su{v:Nat}{l:PM Nat}(h:Lg (v:Int) false l)(hv:v<2 ^ 900*2 ^ 900*2):l.length<=30:=h.fW (by rw[MN]; exact Nat.lt_trans hv L2)
def Q.plus(hn:2 ^ 2000<n){l k l' k':PM Nat}{a T b U:Nat}(h:Q l k a T)(h':Q l' k' b U)(hT:T≠0)(hU:U≠0)(hTb:T<2 ^ 900)(hUb:U<2 ^ 900)(ha:a<2 ^ 900)(hb:b<2 ^ 900) :
  ∃m p,rJ n false l false k false l' false k'=some (false,m,false,p)/\Q m p (a*U+b*T) (T*U):=by
 have h9:=Ko;obtain⟨l1,k1⟩:=h.len hT hTb ha;obtain⟨l2,k2⟩:=h'.len hU hUb hb;obtain⟨p1,q1,J1⟩:=kM (a:=a) hT;obtain⟨p2,q2,q02⟩:=kM (a:=b) hU;have e1:=(ja (h:=a) hT).2.2.2.2;have e2:=(ja (h:=b) hU).2.2.2.2;obtain⟨m1,f1,g1⟩:=p5 hn h.num h'.den (by omega) (by omega)
 obtain⟨m2,f2,g2⟩:=p5 hn h'.num h.den (by omega) (by omega)
 obtain⟨m3,f3,g3⟩:=p5 hn h.den h'.den (by omega) (by omega)
 have x1:=mY (a:=(de T a).1) (b:=(de U b).2) (by omega) (by omega)
 have x2:=mY (a:=(de U b).1) (b:=(de T a).2) (by omega) (by omega)
 have x3:=mY (a:=(de T a).2) (b:=(de U b).2) (by omega) (by omega)
 have y1:=su g1 (by omega)
 have y2:=su g2 (by omega)
 have y3:=su g3 (by omega)
 obtain⟨m4,f4,g4⟩:=Jk hn g1 g2 (by omega) (by omega)
 have y4:=su g4 (by omega)
 have z0:(de T a).2*(de U b).2≠0:=M8 J1 q02;have hs:=cE hn;obtain⟨m,p,f5,g5,g6⟩:=pR (n:=n) (by omega) (by omega) z0 g4 g3 (by omega) (by omega)
 have key:de ((de T a).2*(de U b).2) ((de T a).1*(de U b).2+(de U b).1*(de T a).2)=de (T*U) (a*U+b*T):=by
  refine zx z0 (M8 hT hU) ?_;generalize(de T a).1=p at *;generalize(de T a).2=q at *;generalize(de U b).1=r at *;generalize(de U b).2=s at *;have h1:(p*s+r*q)*(T*U)=(p*T)*(s*U)+(r*U)*(q*T):=by
   rw[Nc]; simp only[MT,M9,Nf]
  rw[h1,e1,e2,Nc];simp only[MT,M9,Nf]
 refine⟨m,p,?_,⟨by rw[<-key]; exact g5,by rw[<-key]; exact g6⟩⟩
 unfold rJ;rw[f1,an]
 dsimp only
 rw[f2,an]
 dsimp only
 rw[f4,an]
 dsimp only
 rw[f3,an]
 dsimp only
 rw[f5,an]
def Q.times(hn:2 ^ 2000<n){l k l' k':PM Nat}{a T b U:Nat}(h:Q l k a T)(h':Q l' k' b U)(hT:T≠0)(hU:U≠0)(hTb:T<2 ^ 900)(hUb:U<2 ^ 900)(ha:a<2 ^ 900)(hb:b<2 ^ 900) :
  ∃m p,BF n false l false k false l' false k'=some (false,m,false,p)/\Q m p (a*b) (T*U):=by
 have h9:=Ko;obtain⟨l1,k1⟩:=h.len hT hTb ha;obtain⟨l2,k2⟩:=h'.len hU hUb hb;obtain⟨p1,q1,J1⟩:=kM (a:=a) hT;obtain⟨p2,q2,q02⟩:=kM (a:=b) hU;have e1:=(ja (h:=a) hT).2.2.2.2;have e2:=(ja (h:=b) hU).2.2.2.2;obtain⟨m1,f1,g1⟩:=p5 hn h.num h'.num (by omega) (by omega)
 obtain⟨m3,f3,g3⟩:=p5 hn h.den h'.den (by omega) (by omega)
 have x1:=mY (a:=(de T a).1) (b:=(de U b).1) (by omega) (by omega)
 have x3:=mY (a:=(de T a).2) (b:=(de U b).2) (by omega) (by omega)
 have y1:=su g1 (by omega)
 have y3:=su g3 (by omega)
 have z0:(de T a).2*(de U b).2≠0:=M8 J1 q02;have hs:=cE hn;obtain⟨m,p,f5,g5,g6⟩:=pR (n:=n) (by omega) (by omega) z0 g1 g3 (by omega) (by omega)
 have key:de ((de T a).2*(de U b).2) ((de T a).1*(de U b).1)=de (T*U) (a*b):=by
  refine zx z0 (M8 hT hU) ?_;generalize(de T a).1=p at *;generalize(de T a).2=q at *;generalize(de U b).1=r at *;generalize(de U b).2=s at *;have h1:p*r*(T*U)=(p*T)*(r*U):=by simp only[MT,M9,Nf]
  rw[h1,e1,e2];simp only[MT,M9,Nf]
 refine⟨m,p,?_,⟨by rw[<-key]; exact g5,by rw[<-key]; exact g6⟩⟩
 unfold BF;rw[f1,an]
 dsimp only
 rw[f3,an]
 dsimp only
 rw[f5,an]
def va(l k:PM Nat):Sh:=(l.getD 0 0,l.getD 1 0,l.getD 2 0,l.getD 3 0,l.getD 4 0,l.getD 5 0,l.getD 6 0,l.getD 7 0,k.getD 0 0,k.getD 1 0,k.getD 2 0,k.getD 3 0,k.getD 4 0,k.getD 5 0,k.getD 6 0,k.getD 7 0)
def words(l:PM Nat):PM Nat:=[l.getD 0 0,l.getD 1 0,l.getD 2 0,l.getD 3 0,l.getD 4 0,l.getD 5 0,l.getD 6 0,l.getD 7 0]
def wM:∀{l:PM Nat},l.length<=8->words l=l++List.replicate (8-l.length) 0
 | [],_=>rfl
 | [_],_=>rfl
 | [_,_],_=>rfl
 | [_,_,_],_=>rfl
 | [_,_,_,_],_=>rfl
 | [_,_,_,_,_],_=>rfl
 | [_,_,_,_,_,_],_=>rfl
 | [_,_,_,_,_,_,_],_=>rfl
 | [_,_,_,_,_,_,_,_],_=>rfl
 | _::_::_::_::_::_::_::_::_::_,h=>by simp at h
def xd{l:PM Nat}(h:l.length<=7):l.getD 7 0=0:=by rw[Nz,NB (by omega)]; rfl
def sV(hn:1000<n){v:Nat}{l:PM Nat}(h:Lg (v:Int) false l)(hl:l.length<=7):DZ n (l.getD 0 0) (l.getD 1 0) (l.getD 2 0) (l.getD 3 0) (l.getD 4 0) (l.getD 5 0) (l.getD 6 0) (l.getD 7 0)=some (false,l):=by
 have hw:=wM (l:=l) (by omega)
 have hwd:Wd (words l):=by rw[hw]; exact h.wd.app (Wd.zeros _)
 have hv:vl (words l)=vl l:=by rw[hw,kv,iS,Nat.mul_zero,NA]
 obtain⟨t,k,f1,f2⟩:=fu (n:=n) false hwd (by simp[words]) (by simp[words]; omega)
 rw[hv] at f2;have e:rG false (vl l)=(v:Int):=by rw[h.LM]; rfl
 rw[e] at f2;obtain⟨e1,e2⟩:=f2.inj h;rw[e1,e2] at f1;have hr:Ca n (l.getD 0 0) (l.getD 1 0) (l.getD 2 0) (l.getD 3 0) (l.getD 4 0) (l.getD 5 0) (l.getD 6 0) (l.getD 7 0)=some (false,l.getD 0 0,l.getD 1 0,l.getD 2 0,l.getD 3 0,l.getD 4 0,l.getD 5 0,l.getD 6 0,l.getD 7 0):=by
  rw[xd hl]; rfl
 unfold DZ;rw[hr,an]
 show gd (lim (words l).length) (ob (j4 n false (words l)) _)=_
 rw[show lim (words l).length=true from rfl,bC,f1,an]
def fG(hn:1000<n){v u:Nat}{l k:PM Nat}(h:Lg (v:Int) false l)(h':Lg (u:Int) false k)(hl:l.length<=7)(hk:k.length<=7):vT n (l.getD 0 0) (l.getD 1 0) (l.getD 2 0) (l.getD 3 0) (l.getD 4 0) (l.getD 5 0) (l.getD 6 0) (l.getD 7 0) (k.getD 0 0) (k.getD 1 0) (k.getD 2 0) (k.getD 3 0) (k.getD 4 0) (k.getD 5 0) (k.getD 6 0) (k.getD 7 0)=some (false,l,false,k):=by
 unfold vT;rw[sV hn h hl,an]
 dsimp only
 rw[sV hn h' hk,an]
def Bw{l:PM Nat}(h:l.length<=8):Jc (l++([0,0,0,0,0,0,0,0]:PM Nat).drop l.length)=some (l.getD 0 0,l.getD 1 0,l.getD 2 0,l.getD 3 0,l.getD 4 0,l.getD 5 0,l.getD 6 0,l.getD 7 0):=by
 have e:l++([0,0,0,0,0,0,0,0]:PM Nat).drop l.length=words l:=by
  rw[wM h,show([0,0,0,0,0,0,0,0]:PM Nat)=List.replicate 8 0 from rfl,List.drop_replicate]
 rw[e]; rfl
def CD(hn:10<n)(a0 a1 a2 a3 a4 a5 a6:Nat):Dl n a0 a1 a2 a3 a4 a5 a6 0 0 0 0 0 0 0 0 9223372036854775808=some (-1):=by
 obtain⟨m,rfl⟩:∃m,n=m+1:=⟨n-1,by omega⟩
 unfold Dl;rw[dV (r:=.inl (-1)) rfl]; rfl
def xx(hn:10<n){l:PM Nat}(h:l.length<=7):JZ n false l=some (l.getD 0 0,l.getD 1 0,l.getD 2 0,l.getD 3 0,l.getD 4 0,l.getD 5 0,l.getD 6 0,l.getD 7 0,0):=by
 unfold JZ;rw[PG,fi (by omega),Bw (by omega),an]
 dsimp only
 unfold FL;rw[xd h,CD hn,an]
 rfl
def EA(l k:PM Nat):Kg:=(l.getD 0 0,l.getD 1 0,l.getD 2 0,l.getD 3 0,l.getD 4 0,l.getD 5 0,l.getD 6 0,l.getD 7 0,k.getD 0 0,k.getD 1 0,k.getD 2 0,k.getD 3 0,k.getD 4 0,k.getD 5 0,k.getD 6 0,k.getD 7 0,0)
def pA(hn:10<n){l k:PM Nat}(h:l.length<=7)(h':k.length<=7):wg n false l false k=some (EA l k):=by
 unfold wg;rw[xx hn h,an]
 dsimp only
 rw[xx hn h',an]
 rfl
def oj(hn:2 ^ 2000<n){l k:PM Nat}{a T:Nat}(h:Q l k a T)(hT:T≠0)(hTb:T<2 ^ 440)(ha:a<2 ^ 440):vn n (l.getD 0 0) (l.getD 1 0) (l.getD 2 0) (l.getD 3 0) (l.getD 4 0) (l.getD 5 0) (l.getD 6 0) (l.getD 7 0) (k.getD 0 0) (k.getD 1 0) (k.getD 2 0) (k.getD 3 0) (k.getD 4 0) (k.getD 5 0) (k.getD 6 0) (k.getD 7 0)=some 0:=by
 have hs:=cE hn;obtain⟨h7,k7⟩:=h.om hT hTb ha;obtain⟨p1,q1,q0⟩:=kM (a:=a) hT;have hg:=(ja (h:=a) hT).2.2.2.1;have hb4:(2:Nat) ^ 440<=2 ^ 2000:=by decide +kernel
 unfold vn;rw[mU (by omega),an]
 dsimp only
 rw[fG (by omega) h.num h.den h7 k7,an]
 dsimp only
 obtain⟨r,r1,r2,r3⟩:=nW (n:=n) h.den;rw[r1,an,PG]
 obtain⟨g,g1,g2⟩:=rp (n:=n) h.num h.den (by omega) (by omega) (by omega) (by rw[MN]; omega)
 rw[MN,MN,hg] at g2;obtain⟨_,rfl⟩:=g2.inj (show Lg ((1:Nat):Int) false [1] from iQ)
 rw[g1,an]
 dsimp only
 have hc:zF n false [1] false [1]=some 0:=by
  obtain⟨m,rfl⟩:∃m,n=m+100:=⟨n-100,by omega⟩
  kernel_rfl
 rw[hc,an]; rfl
end Go.Proofs.YtpkadoocdgdcfaaGreatDoor
end
section
namespace Go.Proofs.YtpkadoocdgdcfaaGreatDoor
open Go Go.Ab Go.Ab.W
set_option exponentiation.threshold 3000
def sm(f:Nat->Nat):Nat->Nat
 | 0=>0
 | k+1=>sm f k+f k
def gW{f g:Nat->Nat}:∀{k:Nat},(∀i,i<k->f i=g i)->sm f k=sm g k
 | 0,_=>rfl
 | k+1,h=>by rw[sm,sm,gW fun i hi=>h i (by omega),h k (by omega)]
def xY{f:Nat->Nat}:∀{k N:Nat},k<=N->sm f k<=sm f N
 | k,0,h=>by rw[show k=0 by omega]; exact MA _
 | k,N+1,h=>by
  by_cases e:k=N+1
  rw[e]; exact MA _
  have:=xY (f:=f) (k:=k) (N:=N) (by omega)
  rw[sm]; omega
def oY{f:Nat->Nat}{i N:Nat}(h:i<N):f i<=sm f N:=by
 have:=xY (f:=f) (k:=i+1) (N:=N) h;rw[sm] at this; omega
def rB{f:Nat->Nat}{c:Nat}:∀{k:Nat},sm (fun i=>f i*c) k=sm f k*c
 | 0=>by simp[sm]
 | k+1=>by rw[sm,sm,rB,Nc]
def uI{f:Nat->Nat}{c:Nat}:∀{k:Nat},sm (fun i=>c*f i) k=c*sm f k
 | 0=>by simp[sm]
 | k+1=>by rw[sm,sm,uI,NM]
def C6{f g:Nat->Nat}:∀{k:Nat},sm (fun i=>f i+g i) k=sm f k+sm g k
 | 0=>rfl
 | k+1=>by rw[sm,sm,sm,C6]; omega
def Ao:∀{k:Nat},sm (fun _=>0) k=0
 | 0=>rfl
 | k+1=>by rw[sm,Ao]
def tU{f:Nat->Nat->Nat}{M:Nat}:∀{N:Nat},sm (fun i=>sm (fun j=>f i j) M) N=sm (fun j=>sm (fun i=>f i j) N) M
 | 0=>by rw[sm]; exact(Ao).symm
 | N+1=>by
  rw[sm,tU,<-C6]
  rfl
def rU(x:Sh)(a T:Nat):Prop:=∃l k,x=va l k/\Q l k a T
def rU.uniq{x y:Sh}{a T b U:Nat}(h:rU x a T)(h':rU y b U)(hT:T≠0)(hU:U≠0)(e:a*U=b*T):x=y:=by
 obtain⟨l,k,rfl,q⟩:=h;obtain⟨l',k',rfl,q'⟩:=h';obtain⟨rfl,rfl⟩:=(q.same hT hU e).eq q'
 rfl
def rU.same{x:Sh}{a T b U:Nat}(h:rU x a T)(hT:T≠0)(hU:U≠0)(e:a*U=b*T):rU x b U:=by
 obtain⟨l,k,rfl,q⟩:=h;exact⟨l,k,rfl,q.same hT hU e⟩
def yk(p q:Nat):sh (p,q)=va (ul p) (ul q):=by
 have h:∀v,(ul v).getD 0 0=v/\∀i,(ul v).getD (i+1) 0=0:=fun v=>by
  unfold ul
  by_cases e:v=0
  subst e; exact⟨rfl,fun i=>rfl⟩
  rw[ME e]; exact⟨rfl,fun i=>rfl⟩
 obtain⟨h1,h2⟩:=h p;obtain⟨h3,h4⟩:=h q;unfold sh va;rw[h1,h3,h2 0,h2 1,h2 2,h2 3,h2 4,h2 5,h2 6,h4 0,h4 1,h4 2,h4 3,h4 4,h4 5,h4 6]
def Iw{a T:Nat}(hT:T≠0)(hTb:T<18446744073709551616)(ha:a<18446744073709551616):rU (sh (de T a)) a T:=by
 obtain⟨h1,h2,_⟩:=kM (a:=a) hT;exact⟨ul (de T a).1,ul (de T a).2,yk _ _,oR (by omega),oR (by omega)⟩
structure VQ(L:PM Sh)(v:Nat->Nat)(T N:Nat):Prop where
 len:L.length=N
 at_:∀i,i<N->∃x,L[i]? = some x/\rU x (v i) T
abbrev Rt:=Bool×PM Nat×Bool×PM Nat
structure RQ(L:PM Rt)(v:Nat->Nat)(T N:Nat):Prop where
 len:L.length=N
 at_:∀i,i<N->∃l k,L[i]? = some (false,l,false,k)/\Q l k (v i) T
section
variable{n:Nat}
def A6:(2:Nat) ^ 440<2 ^ 900:=by decide +kernel
def GI(hn:2 ^ 2000<n){l k:PM Nat}{a T:Nat}(h:Q l k a T)(hT:T≠0)(hTb:T<2 ^ 440)(ha:a<2 ^ 440):wo n (l.getD 0 0) (l.getD 1 0) (l.getD 2 0) (l.getD 3 0) (l.getD 4 0) (l.getD 5 0) (l.getD 6 0) (l.getD 7 0) (k.getD 0 0) (k.getD 1 0) (k.getD 2 0) (k.getD 3 0) (k.getD 4 0) (k.getD 5 0) (k.getD 6 0) (k.getD 7 0)=some false:=by
 have hs:=cE hn;obtain⟨h7,k7⟩:=h.om hT hTb ha;unfold wo;rw[oj hn h hT hTb ha,an,M4 rfl,MO,dS,fG (by omega) h.num h.den h7 k7,an]
 dsimp only
 obtain⟨r,r1,r2,_⟩:=nW (n:=n) h.num;rw[r1,an,Nv (by omega)]
def GG(hn:2 ^ 2000<n){L:PM Sh}{v:Nat->Nat}{T N:Nat}(h:VQ L v T N)(hT:T≠0)(hTb:T<2 ^ 440)(hsum:sm v N=T)(hN:N<=1000):wJ n L=some true:=by
 have hs:=cE hn;have h0:=A6;have hv:∀i,i<N->v i<2 ^ 440:=fun i hi=>Na (hsum▸oY hi) hTb;have h1:=bW (body:=kO n L) N (fun(_:PN) (v:Int)=>v) (fun _=>(.inr ():Int⊕PN)) (fun _ _=>True) (fun s i hi _=>by
  obtain⟨x,e,l,k,rfl,q⟩:=h.at_ i hi;refine⟨(),?_,trivial⟩;unfold kO;rw[h.len,PF,aK hi,bC,Mx,e,an]
  unfold va
  dsimp only
  rw[GI hn q hT hTb (hv i hi),an,dS,PH]) (fun s _=>by
  unfold kO;rw[h.len,PG]) (n:=n) (s:=()) trivial (by omega)
 obtain⟨_,h1,_⟩:=h1;have h2:=bW (body:=iN n L) N (fun(s:PM Nat×PM Nat) (v:Int)=>(false,s.1,false,s.2,v)) (fun s=>(false,s.1,false,s.2)) (fun i s=>Q s.1 s.2 (sm v i) T) (fun s i hi hq=>by
  obtain⟨x,e,l,k,rfl,q⟩:=h.at_ i hi;obtain⟨l1,k0⟩:=q.om hT hTb (hv i hi);have hle:sm v i<2 ^ 440:=Na (hsum▸xY (Oa hi)) hTb;obtain⟨m,p,f1,f0⟩:=hq.plus hn q hT hT (by omega) (by omega) (by omega) (by have:=hv i hi; omega)
  refine⟨(m,p),?_,f0.same (M8 hT hT) hT (by rw[sm,<-Nc,MT])⟩
  unfold iN
  dsimp only
  rw[h.len,PF,aK hi,bC,Mx,e,an]
  unfold va
  dsimp only
  rw[fG (by omega) q.num q.den l1 k0,an]
  dsimp only
  rw[f1,an]
  dsimp only
  rw[PH]) (fun s _=>by
  unfold iN
  dsimp only
  rw[h.len,PG]) (n:=n) (s:=([],[1])) (Q.zero hT) (by omega)
 obtain⟨s,h2,g⟩:=h2;rw[hsum] at g;obtain⟨e1,e2⟩:=g.eq (Q.one hT);unfold wJ;rw[h1,an]
 show ob (ob (some (-1:Int)) fun v0=>some (decide (0<=v0))) _=_
 rw[an,an,show decide ((0:Int)<=-1)=false from rfl,dS,vL (by omega),an]
 dsimp only
 rw[show cT (iN n L) n (false,[],false,[1],0)=_ from h2,an]
 dsimp only
 rw[an]
 dsimp only
 rw[Cu (by omega),an]
 dsimp only
 rw[e1,e2];obtain⟨m,rfl⟩:∃m,n=m+100:=⟨n-100,by omega⟩
 have e0:DJ (m+100) false [1] false [1] false [1] false [1]=some 0:=by kernel_rfl
 rw[e0,an]; rfl
def D3(hn:2 ^ 2000<n){L:PM Rt}{v:Nat->Nat}{T N:Nat}(h:RQ L v T N)(hT:T≠0)(hTb:T<2 ^ 440)(hv:∀i,i<N->v i<2 ^ 440)(hN:N<=1000):∃L',ES n L=some (L',0)/\VQ L' v T N:=by
 have hs:=cE hn;have h1:=bW (body:=oA n L) N (fun(s:PM Sh) (v:Int)=>(s,v)) (fun s=>(.inr s:Int⊕PM Sh)) (fun i s=>VQ s v T i) (fun s i hi hq=>by
  obtain⟨l,k,e,q⟩:=h.at_ i hi;obtain⟨l7,k7⟩:=q.om hT hTb (hv i hi);refine⟨s++[va l k],?_,⟨by rw[MV,hq.len]; rfl,fun j hj=>?_⟩⟩
  have hlim:lim (s++[va l k]).length=true:=M6 (by rw[MV,hq.len,List.length_singleton]; omega)
  unfold oA
  dsimp only
  rw[h.len,PF,aK hi,bC,Mx,e,an]
  dsimp only
  rw[pA (by omega) l7 k7,an]
  show gd (lim (s++[va l k]).length) _=_
  rw[hlim,bC,PH]
  rfl
  by_cases c:j=i
  subst c;exact⟨va l k,by rw[M1 (by rw[hq.len]; exact MA _),hq.len,Ou]; rfl,l,k,rfl,q⟩
  obtain⟨x,e1,e2⟩:=hq.at_ j (by omega)
  exact⟨x,by rw[Nn (by rw[hq.len]; omega)]; exact e1,e2⟩) (fun s hq=>by
  unfold oA
  dsimp only
  rw[h.len,PG]) (n:=n) (s:=[]) ⟨rfl,fun i hi=>MX hi (by omega)⟩ (by omega)
 obtain⟨s,h1,h2⟩:=h1;refine⟨s,?_,h2⟩;unfold ES;rw[show cT (oA n L) n (([]:PM Sh),0)=_ from h1]
 rfl
end
def Me{T h:Nat}(hT:T≠0):(de T h).1≠0↔h≠0:=by
 obtain⟨h1,_,h3,_,h5⟩:=ja (h:=h) hT;constructor
 intro e e0; subst e0; omega
 intro e e0;rw[e0,Om] at h5;rcases Nat.mul_eq_zero.1 h5.symm with h|h
 exact e h
 exact h3 h
structure KQ(K:PM (PM Sh))(W:Nat->Nat->Nat)(P N:Nat):Prop where
 len:K.length=N
 at_:∀i,i<N->∃row,K[i]? = some row/\VQ row (W i) P N
 sum:∀i,i<N->sm (W i) N=P
 pos:P≠0
 n1:N<=1000
def iT(W:Nat->Nat->Nat)(N:Nat)(v:Nat->Nat)(j:Nat):Nat:=sm (fun i=>v i*W i j) N
def nA(W:Nat->Nat->Nat)(N:Nat):Nat->(Nat->Nat)->Nat->Nat
 | 0,v=>v
 | k+1,v=>iT W N (nA W N k v)
def AZ(W:Nat->Nat->Nat)(N:Nat)(v:Nat->Nat)(a:Nat):∀b,nA W N (a+b) v=nA W N b (nA W N a v)
 | 0=>rfl
 | b+1=>by show iT W N (nA W N (a+b) v)=iT W N (nA W N b (nA W N a v)); rw[AZ W N v a b]
def EY{K:PM (PM Sh)}{W:Nat->Nat->Nat}{P N:Nat}(hK:KQ K W P N)(v:Nat->Nat):sm (iT W N v) N=sm v N*P:=by
 have e:sm (iT W N v) N=sm (fun i=>sm (fun j=>v i*W i j) N) N:=(tU (f:=fun i j=>v i*W i j)).symm;rw[e,gW (g:=fun i=>v i*P) fun i hi=>by rw[uI,hK.sum i hi],rB]
def oz{K:PM (PM Sh)}{W:Nat->Nat->Nat}{P N:Nat}(hK:KQ K W P N)(v:Nat->Nat):∀k,sm (nA W N k v) N=sm v N*P ^ k
 | 0=>by rw[Nat.pow_zero,Nat.mul_one]; rfl
 | k+1=>by
  show sm (iT W N (nA W N k v)) N=_
  rw[EY hK,oz hK v k,Nat.pow_succ,MT]
section
variable{n:Nat}{K:PM (PM Sh)}{W:Nat->Nat->Nat}{P N:Nat}
def C7(hn:2 ^ 2000<n)(hK:KQ K W P N)(hPb:P<2 ^ 440){x:PM Rt}{v:Nat->Nat}{T:Nat}(hx:RQ x v T N)(hT:T≠0)(hTP:T*P<2 ^ 440)(hv:sm v N=T){j:Nat}(hj:j<N){base:PM Rt}(hb:base.length=N) :
  ∃l k,cT (qP n N x K (j:Int)) n (base.set j (false,[],false,[1]),0)=some (base.set j (false,l,false,k))/\Q l k (iT W N v j) (T*P):=by
 have hs:=cE hn;have h0:=A6;have hP:=hK.pos;have hN:=hK.n1;have hTP0:T*P≠0:=M8 hT hP;have hTle:T<=T*P:=Nat.le_mul_of_pos_right T (MZ hP);have hW:∀i,i<N->W i j<=P:=fun i hi=>hK.sum i hi▸oY hj;have hvi:∀i,i<N->v i<=T:=fun i hi=>hv▸oY hi;have hpre:∀i,i<=N->sm (fun i=>v i*W i j) i<=T*P:=fun i hi=>by
  refine MU (xY hi) ?_;rw[<-hv,<-rB];have:∀k,k<=N->sm (fun i=>v i*W i j) k<=sm (fun i=>v i*P) k:=by
   intro k
   induction k with
   | zero=>intro _; exact MA _
   | succ k ih=>intro hk; rw[sm,sm]; exact Nat.add_le_add (ih (by omega)) (Np _ (hW k (by omega)))
  exact this N (MA _)
 have h:=bW (body:=qP n N x K (j:Int)) N (fun(s:PM Nat×PM Nat) (v:Int)=>(base.set j (false,s.1,false,s.2),v)) (fun s=>base.set j (false,s.1,false,s.2)) (fun i s=>Q s.1 s.2 (sm (fun i=>v i*W i j) i) (T*P)) (fun s i hi hq=>?_) (fun s _=>?_) (n:=n) (s:=([],[1])) (Q.zero hTP0) (by omega)
 obtain⟨s,h1,h2⟩:=h;exact⟨s.1,s.2,h1,h2⟩
 ·obtain⟨l,k,e1,q0⟩:=hx.at_ i hi;obtain⟨row,e2,hr⟩:=hK.at_ i hi;obtain⟨y,e0,l',k',rfl,q2⟩:=hr.at_ j hj;have b0:=hvi i hi;have b1:=hW i hi;obtain⟨l1,k0⟩:=q2.om hP hPb (by omega)
  have ej:(base.set j (false,s.1,false,s.2))[j]? = some (false,s.1,false,s.2):=N0 (by omega)
  obtain⟨r0,g0,_,g1⟩:=nW (n:=n) q2.num;obtain⟨r2,g2,_,g3⟩:=nW (n:=n) q0.num;have z1:=Me (h:=W i j) hP;have z2:=Me (h:=v i) hT;have head:∀{β:Type} (F:Rt->PE β),True:=fun _=>trivial
  by_cases c0:W i j=0\/v i=0
  
  refine⟨s,?_,?_⟩
  have hd:(ob (yc n false l') fun r1=>br (!decide (r1=0)) (ob (yc n false l) fun r3=>some (!decide (r3=0))) (some false))=some false:=by
   rw[g0,an];rcases c0 with c0|c0
   have:r0=0:=g1.2 (by have:=(not_congr z1).2 (by simp[c0]); omega)
   rw[this]; rfl
   have e3:r2=0:=g3.2 (by have:=(not_congr z2).2 (by simp[c0]); omega)
   rw[g2,an,e3]
   by_cases c:r0=0
   rw[M4 c]; rfl
   rw[Nv c]; rfl
  unfold qP
  dsimp only
  rw[PF,aK hi,bC,Mx,e1,an]
  dsimp only
  rw[hK.len,aK hi,bC,e2,an,hr.len,aK hj,bC,Mx,e0,an];unfold va
  dsimp only
  rw[fG (by omega) q2.num q2.den l1 k0,an]
  dsimp only
  rw[hd,an,dS,an,PH]
  have:v i*W i j=0:=by rcases c0 with c|c<;>simp[c]
  rw[sm,this,NA]; exact hq
  ·have c1:W i j≠0:=fun h=>c0 (.inl h);have c2:v i≠0:=fun h=>c0 (.inr h);obtain⟨m1,p1,f1,t0⟩:=q0.times hn q2 hT hP (by omega) (by omega) (by omega) (by omega)
   have b2:v i*W i j<=T*P:=Nb b0 b1;have b3:=hpre i (by omega)
   obtain⟨m2,p0,f0,t1⟩:=hq.plus hn t0 hTP0 hTP0 (by omega) (by omega) (by omega) (by omega)
   refine⟨(m2,p0),?_,t1.same (M8 hTP0 hTP0) hTP0 (by rw[sm,<-Nc,MT])⟩
   have hd:(ob (yc n false l') fun r1=>br (!decide (r1=0)) (ob (yc n false l) fun r3=>some (!decide (r3=0))) (some false))=some true:=by
    have n1:r0≠0:=fun e=>(z1.2 c1) (by have:=g1.1 e; omega)
    have n2:r2≠0:=fun e=>(z2.2 c2) (by have:=g3.1 e; omega)
    rw[g0,an,Nv n1,NG,tK,g2,an,Nv n2]; rfl
   unfold qP
   dsimp only
   rw[PF,aK hi,bC,Mx,e1,an]
   dsimp only
   rw[hK.len,aK hi,bC,e2,an,hr.len,aK hj,bC,Mx,e0,an];unfold va
   dsimp only
   rw[fG (by omega) q2.num q2.den l1 k0,an]
   dsimp only
   rw[hd,an,tK,Mx,aK hj,bC,ej,an]
   try dsimp only
   rw[f1,an]
   try dsimp only
   rw[f0,an]
   try dsimp only
   rw[bC,List.set_set,an,PH]
 unfold qP
 dsimp only
 rw[PG]
def DH(hn:2 ^ 2000<n)(hK:KQ K W P N)(hPb:P<2 ^ 440){x:PM Rt}{v:Nat->Nat}{T:Nat}(hx:RQ x v T N)(hT:T≠0)(hTP:T*P<2 ^ 440)(hv:sm v N=T) :
  ∃x',cT (tB n K N x) n (List.replicate N ((false,[],false,[]):Rt),0)=some x'/\RQ x' (iT W N v) (T*P) N:=by
 have hs:=cE hn;have hN:=hK.n1;have h:=bW (body:=tB n K N x) N (fun(s:PM Rt) (v:Int)=>(s,v)) id (fun i s=>s.length=N/\∀j,j<i->∃l k,s[j]? = some (false,l,false,k)/\Q l k (iT W N v j) (T*P)) (fun s j hj hq=>?_) (fun s _=>?_) (n:=n) (s:=List.replicate N (false,[],false,[])) ⟨by simp,fun j hj=>MX hj (by omega)⟩ (by omega)
 obtain⟨s,h1,h2,h3⟩:=h;exact⟨s,h1,h2,h3⟩
 ·obtain⟨l,k,g1,g2⟩:=C7 hn hK hPb hx hT hTP hv hj hq.1;refine⟨s.set j (false,l,false,k),?_,by rw[Og]; exact hq.1,fun i hi=>?_⟩
  ·have ej:s[j]? = some (s[j]'(by rw[hq.1]; exact hj)):=MF _
   unfold tB
   dsimp only
   rw[hK.len,PF,vL (by omega),an]
   dsimp only
   rw[Mx,aK hj,bC,Mx,ej,an]
   try dsimp only
   rw[g1,an,PH]
  by_cases c:i=j
  subst c;exact⟨l,k,N0 (by rw[hq.1]; exact hj),g2⟩
  obtain⟨l',k',e1,e2⟩:=hq.2 i (by omega)
  exact⟨l',k',by rw[N7 (Ne.symm c)]; exact e1,e2⟩
 unfold tB
 dsimp only
 rw[hK.len,PG]; rfl
def EG(hn:2 ^ 2000<n)(hK:KQ K W P N){x:PM Rt}{v:Nat->Nat}{T:Nat}(hx:RQ x v T N)(hT:T≠0){k:Nat}(hk:k<=30)(hTP:T*P ^ k<2 ^ 440)(hv:sm v N=T) :
  ∃x',cT (tF n (k:Int) K) n (N,x,0)=some (N,x')/\RQ x' (nA W N k v) (T*P ^ k) N:=by
 have hs:=cE hn;have hN:=hK.n1;have hP:=hK.pos;have h:=bW (body:=tF n (k:Int) K) k (fun(s:PM Rt) (t:Int)=>(N,s,t)) (fun s=>(N,s)) (fun t s=>RQ s (nA W N t v) (T*P ^ t) N) (fun s t ht hq=>?_) (fun s _=>?_) (n:=n) (s:=x) (by rw[Nat.pow_zero,Nat.mul_one]; exact hx) (by omega)
 exact h
 have hle:T*P ^ t*P<=T*P ^ k:=by
  rw[MT,<-Nat.pow_succ];exact Np _ (MY (MZ hP) ht)
 have h0:T*P ^ t≠0:=M8 hT (Nat.pos_iff_ne_zero.1 (Nat.pow_pos (MZ hP)));have hPb:P<2 ^ 440:=by
  have:P<=T*P ^ t*P:=Nat.le_mul_of_pos_left P (MZ h0);omega
 obtain⟨x',g1,g2⟩:=DH hn hK hPb hq h0 (by omega) (by rw[oz hK,hv])
 refine⟨x',?_,by rw[Nat.pow_succ,<-MT]; exact g2⟩
 have hlim:lim N=true:=M6 (by omega)
 unfold tF
 dsimp only
 rw[hK.len,PF,fi (by omega),Mx,hlim,bC,g1,an,PH]
 unfold tF
 dsimp only
 rw[PG]
def mX(hn:2 ^ 2000<n)(hK:KQ K W P N)(hC:H3 n K=some 0){L:PM Sh}{v:Nat->Nat}{T:Nat}(hL:VQ L v T N)(hT:T≠0){k:Nat}(hk:k<=30)(hTP:T*P ^ k<2 ^ 440)(hv:sm v N=T) :
  ∃L',Gt n K L (k:Int)=some (L',0)/\VQ L' (nA W N k v) (T*P ^ k) N:=by
 have hs:=cE hn;have hN:=hK.n1;have hP:=hK.pos;have hPk:0<P ^ k:=Nat.pow_pos (MZ hP);have hTb:T<2 ^ 440:=Na (Nat.le_mul_of_pos_right T hPk) hTP;have hvi:∀i,i<N->v i<2 ^ 440:=fun i hi=>Na (hv▸oY hi) hTb;have h1:=bW (body:=yb n L) N (fun(_:PN) (v:Int)=>v) (fun _=>(.inr ():Int⊕PN)) (fun _ _=>True) (fun s i hi _=>by
  obtain⟨x,e,l,k,rfl,q⟩:=hL.at_ i hi;refine⟨(),?_,trivial⟩;unfold yb;rw[hL.len,PF,aK hi,bC,Mx,e,an]
  unfold va
  dsimp only
  unfold Ha;rw[oj hn q hT hTb (hvi i hi),an,M4 rfl,MO,an,dS,PH]) (fun s _=>by
  unfold yb;rw[hL.len,PG]) (n:=n) (s:=()) trivial (by omega)
 obtain⟨_,h1,_⟩:=h1;have h2:=bW (body:=sQ n L) N (fun(s:PM Rt) (v:Int)=>(s,v)) id (fun i s=>RQ s v T i) (fun s i hi hq=>by
  obtain⟨x,e,l,k,rfl,q⟩:=hL.at_ i hi;obtain⟨l1,k0⟩:=q.om hT hTb (hvi i hi);refine⟨s++[(false,l,false,k)],?_,⟨by rw[MV,hq.len]; rfl,fun j hj=>?_⟩⟩
  have hlim:lim (s++([(false,l,false,k)]:PM Rt)).length=true:=M6 (by rw[MV,hq.len,List.length_singleton]; omega)
  unfold sQ
  dsimp only
  rw[hL.len,PF,aK hi,bC,Mx,e,an]
  unfold va
  dsimp only
  rw[fG (by omega) q.num q.den l1 k0,an]
  dsimp only
  rw[hlim,bC,PH]
  by_cases c:j=i
  subst c;exact⟨l,k,by rw[M1 (by rw[hq.len]; exact MA _),hq.len,Ou]; rfl,q⟩
  obtain⟨l',k',e1,e2⟩:=hq.at_ j (by omega)
  exact⟨l',k',by rw[Nn (by rw[hq.len]; omega)]; exact e1,e2⟩) (fun s hq=>by
  unfold sQ
  dsimp only
  rw[hL.len,PG]; rfl) (n:=n) (s:=[]) ⟨rfl,fun i hi=>MX hi (by omega)⟩ (by omega)
 obtain⟨s,h2,hq⟩:=h2;obtain⟨x',g0,g1⟩:=EG hn hK hq hT hk hTP hv;obtain⟨L',g2,g3⟩:=D3 hn g1 (M8 hT (Nat.pos_iff_ne_zero.1 hPk)) hTP (fun i hi=>Na (MU (oY hi) (Nat.le_of_eq (by rw[oz hK,hv]))) hTP) hN
 refine⟨L',?_,g3⟩;unfold Gt;rw[hC,an,M4 rfl,MO,dS,h1]
 show ob (ob (ob (some (-1:Int)) fun v0=>some (decide (0<=v0))) _) _=_
 rw[an,an,show decide ((0:Int)<=-1)=false from rfl,an,dS,hL.len,hK.len,M4 rfl,MO,dS,GG hn hL hT hTb hv hN,an,MO,dS,PG,Nv (by omega),an,dS,show cT (sQ n L) n (([]:PM Rt),0)=_ from h2,an,id,hq.len,g0,an]
 dsimp only
 rw[g2,an]
end
def pd(f:Nat->Nat):Nat->Nat
 | 0=>1
 | k+1=>pd f k*f k
def EL{f:Nat->Nat}{i:Nat}:∀{N:Nat},i<N->f i∣pd f N
 | 0,h=>MX h (by omega)
 | N+1,h=>by
  rw[pd]
  by_cases e:i=N
  subst e; exact Nat.dvd_mul_left _ _
  exact Nat.dvd_trans (EL (N:=N) (by omega)) (Nat.dvd_mul_right _ _)
def E2{f:Nat->Nat}:∀{N:Nat},(∀i,i<N->f i≠0)->pd f N≠0
 | 0,_=>(by show(1:Nat)≠0; decide)
 | N+1,h=>M8 (E2 fun i hi=>h i (by omega)) (h N (by omega))
def HT{f:Nat->Nat}{c:Nat}:∀{N:Nat},(∀i,i<N->f i<=c)->pd f N<=c ^ N
 | 0,_=>MA _
 | N+1,h=>by rw[pd,Nat.pow_succ]; exact Nb (HT fun i hi=>h i (by omega)) (h N (by omega))
def G7:∀(l:PM Nat),sm (fun j=>l.getD j 0) l.length=l.sum:=by
 have h:∀(l:PM Nat) (k:Nat),k<=l.length->sm (fun j=>l.getD j 0) k=(l.take k).sum:=by
  intro l k
  induction k with
  | zero=>intro _; rfl
  | succ k ih =>
   intro hk;have hk':k<l.length:=by omega
   rw[sm,ih (by omega),Ob hk',List.sum_append,List.sum_singleton,Nz,MF hk']; rfl
 intro l;rw[h l _ (MA _),List.take_length]
def IW{M:PM (PM Nat)}(hM:RowsOk M)(h0:M.length<=4)(h4:∀l∈M,l.sum<21):∃W P,KQ (pf M) W P M.length/\P<262144:=by
 have hrow:∀i,i<M.length->M.getD i []∈M:=fun i hi=>by rw[Nz,MF hi]; exact NP hi
 have hS0:∀i,i<M.length->(M.getD i []).sum≠0:=fun i hi=>(hM.row _ (hrow i hi)).2.1;have hP0:pd (fun i=>(M.getD i []).sum) M.length≠0:=E2 hS0;have hle:pd (fun i=>(M.getD i []).sum) M.length<=20 ^ M.length:=HT fun i hi=>by have:=h4 _ (hrow i hi); omega
 have h5:(20:Nat) ^ M.length<=20 ^ 4:=MY (by decide) h0
 have hdv:=fun i (hi:i<M.length)=>EL (f:=fun i=>(M.getD i []).sum) hi;generalize hPP:pd (fun i=>(M.getD i []).sum) M.length=P at *;refine⟨fun i j=>(M.getD i []).getD j 0*(P/(M.getD i []).sum),P,⟨by unfold pf; rw[MS],fun i hi=>?_,fun i hi=>?_,hP0,by omega⟩,by omega⟩
 obtain⟨r0,r2,r1⟩:=hM.row _ (hrow i hi);have hd:=hdv i hi;have e0:(pf M)[i]? = some (mD (M.getD i []).sum (M.getD i [])):=by
  unfold pf;rw[MP,Nz,MF hi]; rfl
 refine⟨_,e0,by unfold mD; rw[MS,r0],fun j hj=>?_⟩
 have hj':j<(M.getD i []).length:=by omega
 have e1:(M.getD i []).getD j 0=(M.getD i [])[j]:=by rw[Nz,MF hj']; rfl
 have hx:=yn (NP hj');refine⟨sh (de (M.getD i []).sum (M.getD i [])[j]),by unfold mD; rw[MP,MF hj']; rfl,?_⟩
 refine(Iw r2 r1 (by omega)).same r2 hP0 ?_
 show(M.getD i [])[j]*P=(M.getD i []).getD j 0*(P/(M.getD i []).sum)*(M.getD i []).sum
 rw[e1,MT,NN hd]
 obtain⟨r0,r2,r1⟩:=hM.row _ (hrow i hi)
 show sm (fun j=>(M.getD i []).getD j 0*(P/(M.getD i []).sum)) M.length=P
 rw[rB,<-r0,G7,M9,NN (hdv i hi)]
def pW{W:Nat->Nat->Nat}{N:Nat}{v u:Nat->Nat}(h:∀i,i<N->v i=u i)(j:Nat):iT W N v j=iT W N u j:=gW fun i hi=>by rw[h i hi]
def xI{W:Nat->Nat->Nat}{N:Nat}{v u:Nat->Nat}(h:∀i,i<N->v i=u i):∀k j,j<N->nA W N k v j=nA W N k u j
 | 0,j,hj=>h j hj
 | k+1,j,_=>pW (fun i hi=>xI h k i hi) j
def CM{W:Nat->Nat->Nat}{N m:Nat}{c:Nat->Nat}{g:Nat->Nat->Nat}:∀k j,j<N->nA W N k (fun j=>sm (fun i=>c i*g i j) m) j=sm (fun i=>c i*nA W N k (g i) j) m
 | 0,_,_=>rfl
 | k+1,j,hj=>by
  show iT W N (nA W N k _) j=_
  rw[pW (fun i hi=>CM k i hi) j];unfold iT;rw[gW (g:=fun a=>sm (fun i=>c i*nA W N k (g i) a*W a j) m) fun a _=>(rB).symm,tU];refine gW fun i _=>?_
  show sm (fun a=>c i*nA W N k (g i) a*W a j) N=c i*sm (fun a=>nA W N k (g i) a*W a j) N
  rw[<-uI];exact gW fun a _=>by rw[MT]
def eV(i j:Nat):Nat:=if j=i then 1 else 0
def Ec{f:Nat->Nat}{j:Nat}:∀{N:Nat},sm (fun i=>f i*eV i j) N=if j<N then f j else 0
 | 0=>rfl
 | N+1=>by
  rw[sm,Ec];unfold eV
  by_cases e:j=N
  subst e; simp
  rw[ME e,Nat.mul_zero,NA]
  by_cases c:j<N
  rw[MG c,OW]
  rw[ME c,OV]
def CJ{i N:Nat}(h:i<N):sm (eV i) N=1:=by
 have:=Ec (f:=fun _=>1) (j:=i) (N:=N);rw[MG h] at this;rw[<-this];refine gW fun a _=>?_;unfold eV
 by_cases e:a=i
 subst e; simp
 rw[ME e,ME (Ne.symm e)]
section
variable{n:Nat}
def VQ.uniq{L L':PM Sh}{v u:Nat->Nat}{T U N:Nat}(h:VQ L v T N)(h':VQ L' u U N)(hT:T≠0)(hU:U≠0)(e:∀i,i<N->v i*U=u i*T):L=L':=by
 refine List.ext_getElem? fun i=>?_
 by_cases hi:i<N
 obtain⟨x,e1,q1⟩:=h.at_ i hi;obtain⟨y,e2,q2⟩:=h'.at_ i hi;rw[e1,e2,q1.uniq q2 hT hU (e i hi)]
 rw[NB (by rw[h.len]; omega),NB (by rw[h'.len]; omega)]
def rf(L:PM Sh)(hL:L.length<1000000)(hn:1000000<n):Ju n L L=some true:=by
 have h1:=bW (body:=wa n L L) L.length (fun(_:PN) (v:Int)=>v) (fun _=>(.inr ():PN⊕PN)) (fun _ _=>True) (fun s i hi _=>by
  have e:L[i]? = some L[i]:=MF hi;generalize L[i]=x at e;obtain⟨x1,x2,x3,x4,x5,x6,x7,x8,x9,x10,x11,x12,x13,x14,x15,x16⟩:=x;refine⟨(),?_,trivial⟩;unfold wa;rw[PF,aK hi,bC,Mx,e,an]
  dsimp only
  rw[bC,an]
  dsimp only
  simp only[decide_true,Ns,MO,dS];rw[PH]) (fun s _=>by
  unfold wa;rw[PG]) (n:=n) (s:=()) trivial (by omega)
 obtain⟨_,h1,_⟩:=h1;unfold Ju;rw[M4 rfl,MO,dS,h1]; rfl
def sX(hn:2 ^ 2000<n){L:PM Sh}{N:Nat}(hLN:L.length=N)(hN:N<=1000)(h:∀i,i<N->∃x a T,L[i]? = some x/\rU x a T/\T≠0/\T<2 ^ 440/\a<2 ^ 440):xy n L=some true:=by
 have hs:=cE hn;have h1:=bW (body:=ra n L) N (fun(_:PN) (v:Int)=>v) (fun _=>(.inr ():PN⊕PN)) (fun _ _=>True) (fun s i hi _=>by
  obtain⟨x,a,T,e,⟨l,k,rfl,q⟩,hT,hTb,ha⟩:=h i hi;refine⟨(),?_,trivial⟩;unfold ra;rw[hLN,PF,aK hi,bC,Mx,e,an]
  unfold va
  dsimp only
  unfold GX;rw[oj hn q hT hTb ha,an,M4 rfl,an,MO,dS,PH]) (fun s _=>by
  unfold ra;rw[hLN,PG]) (n:=n) (s:=()) trivial (by omega)
 obtain⟨_,h1,_⟩:=h1;unfold xy;rw[h1]; rfl
def FE(hn:2 ^ 2000<n){L:PM Sh}{v:Nat->Nat}{T N:Nat}(h:VQ L v T N)(hT:T≠0)(hTb:T<2 ^ 440)(hsum:sm v N=T)(hN:N<=400):K1 n L=some (EA [1] [1]):=by
 have hs:=cE hn;have h9:=A6;have hv:∀i,i<N->v i<2 ^ 440:=fun i hi=>Na (hsum▸oY hi) hTb;have h2:=bW (body:=tD n L) N (fun(s:PM Nat×PM Nat) (v:Int)=>(false,s.1,false,s.2,v)) (fun s=>(false,s.1,false,s.2)) (fun i s=>Q s.1 s.2 (sm v i) T) (fun s i hi hq=>by
  obtain⟨x,e,l,k,rfl,q⟩:=h.at_ i hi;obtain⟨l7,k7⟩:=q.om hT hTb (hv i hi);have hle:sm v i<2 ^ 440:=Na (hsum▸xY (Oa hi)) hTb;obtain⟨m,p,f1,f2⟩:=hq.plus hn q hT hT (by omega) (by omega) (by omega) (by have:=hv i hi; omega)
  refine⟨(m,p),?_,f2.same (M8 hT hT) hT (by rw[sm,<-Nc,MT])⟩
  unfold tD
  dsimp only
  rw[h.len,PF,aK hi,bC,Mx,e,an]
  unfold va
  dsimp only
  rw[fG (by omega) q.num q.den l7 k7,an]
  dsimp only
  rw[f1,an]
  dsimp only
  rw[PH]) (fun s _=>by
  unfold tD
  dsimp only
  rw[h.len,PG]) (n:=n) (s:=([],[1])) (Q.zero hT) (by omega)
 obtain⟨s,h2,g⟩:=h2;rw[hsum] at g;obtain⟨e1,e2⟩:=g.eq (Q.one hT);unfold K1;rw[bj (by rw[h.len]; omega),sX hn h.len (by omega) (fun i hi=>by obtain⟨x,a1,a2⟩:=h.at_ i hi; exact⟨x,_,_,a1,a2,hT,hTb,hv i hi⟩),an,MO,dS,vL (by omega),an]
 dsimp only
 rw[show cT (tD n L) n (false,[],false,[1],0)=_ from h2,an]
 dsimp only
 rw[e1,e2,pA (by omega) (by decide) (by decide),an]
def sY(hn:2 ^ 2000<n){x y:Sh}{a T b U:Nat}(h:rU x a T)(h':rU y b U)(hT:T≠0)(hU:U≠0)(hTb:T<2 ^ 440)(hUb:U<2 ^ 440)(ha:a<2 ^ 440)(hb:b<2 ^ 440):xy n [x,y]=some true:=by
 refine sX hn (N:=2) rfl (by decide) fun i hi=>?_
 match i,hi with
 | 0,_=>exact⟨x,a,T,rfl,h,hT,hTb,ha⟩
 | 1,_=>exact⟨y,b,U,rfl,h',hU,hUb,hb⟩
abbrev Lv(x:Sh)(e:Int):Kg:=(x.1,x.2.1,x.2.2.1,x.2.2.2.1,x.2.2.2.2.1,x.2.2.2.2.2.1,x.2.2.2.2.2.2.1,x.2.2.2.2.2.2.2.1,x.2.2.2.2.2.2.2.2.1,x.2.2.2.2.2.2.2.2.2.1,x.2.2.2.2.2.2.2.2.2.2.1,x.2.2.2.2.2.2.2.2.2.2.2.1,x.2.2.2.2.2.2.2.2.2.2.2.2.1,x.2.2.2.2.2.2.2.2.2.2.2.2.2.1,x.2.2.2.2.2.2.2.2.2.2.2.2.2.2.1,x.2.2.2.2.2.2.2.2.2.2.2.2.2.2.2,e)
abbrev f32{β:Type}(f:Nat->Nat->Nat->Nat->Nat->Nat->Nat->Nat->Nat->Nat->Nat->Nat->Nat->Nat->Nat->Nat->Nat->Nat->Nat->Nat->Nat->Nat->Nat->Nat->Nat->Nat->Nat->Nat->Nat->Nat->Nat->Nat->β)(x y:Sh):β:=f x.1 x.2.1 x.2.2.1 x.2.2.2.1 x.2.2.2.2.1 x.2.2.2.2.2.1 x.2.2.2.2.2.2.1 x.2.2.2.2.2.2.2.1 x.2.2.2.2.2.2.2.2.1 x.2.2.2.2.2.2.2.2.2.1 x.2.2.2.2.2.2.2.2.2.2.1 x.2.2.2.2.2.2.2.2.2.2.2.1 x.2.2.2.2.2.2.2.2.2.2.2.2.1 x.2.2.2.2.2.2.2.2.2.2.2.2.2.1 x.2.2.2.2.2.2.2.2.2.2.2.2.2.2.1 x.2.2.2.2.2.2.2.2.2.2.2.2.2.2.2 y.1 y.2.1 y.2.2.1 y.2.2.2.1 y.2.2.2.2.1 y.2.2.2.2.2.1 y.2.2.2.2.2.2.1 y.2.2.2.2.2.2.2.1 y.2.2.2.2.2.2.2.2.1 y.2.2.2.2.2.2.2.2.2.1 y.2.2.2.2.2.2.2.2.2.2.1 y.2.2.2.2.2.2.2.2.2.2.2.1 y.2.2.2.2.2.2.2.2.2.2.2.2.1 y.2.2.2.2.2.2.2.2.2.2.2.2.2.1 y.2.2.2.2.2.2.2.2.2.2.2.2.2.2.1 y.2.2.2.2.2.2.2.2.2.2.2.2.2.2.2
def G4(hn:2 ^ 2000<n){x y:Sh}{a T b U:Nat}(h:rU x a T)(h':rU y b U)(hT:T≠0)(hU:U≠0)(hTb:T<2 ^ 440)(hUb:U<2 ^ 440)(ha:a<2 ^ 440)(hb:b<2 ^ 440)(hTU:T*U<2 ^ 440)(hab:a*b<2 ^ 440):∃z,f32 (J3 n) x y=some (Lv z 0)/\rU z (a*b) (T*U):=by
 have hs:=cE hn;have h9:=A6;have hv:=sY hn h h' hT hU hTb hUb ha hb;obtain⟨l,k,rfl,q⟩:=h;obtain⟨l',k',rfl,q'⟩:=h';obtain⟨l7,k7⟩:=q.om hT hTb ha;obtain⟨l7',k7'⟩:=q'.om hU hUb hb;obtain⟨m,p,f1,f2⟩:=q.times hn q' hT hU (by omega) (by omega) (by omega) (by omega)
 obtain⟨m7,p7⟩:=f2.om (M8 hT hU) hTU hab;refine⟨va m p,?_,m,p,rfl,f2⟩;unfold va at hv ⊢;unfold f32 J3
 dsimp only
 rw[hv,an,MO,dS,fG (by omega) q.num q.den l7 k7,an]
 dsimp only
 rw[fG (by omega) q'.num q'.den l7' k7',an]
 dsimp only
 rw[f1,an]
 dsimp only
 rw[an]
 dsimp only
 unfold BC;rw[M4 rfl,MO,dS,pA (by omega) m7 p7,an]
 rfl
def GB(hn:2 ^ 2000<n){x y:Sh}{a T b U:Nat}(h:rU x a T)(h':rU y b U)(hT:T≠0)(hU:U≠0)(hTb:T<2 ^ 440)(hUb:U<2 ^ 440)(ha:a<2 ^ 440)(hb:b<2 ^ 440)(hTU:T*U<2 ^ 440)(hab:a*U+b*T<2 ^ 440):∃z,f32 (JY n) x y=some (Lv z 0)/\rU z (a*U+b*T) (T*U):=by
 have hs:=cE hn;have h9:=A6;have hv:=sY hn h h' hT hU hTb hUb ha hb;obtain⟨l,k,rfl,q⟩:=h;obtain⟨l',k',rfl,q'⟩:=h';obtain⟨l7,k7⟩:=q.om hT hTb ha;obtain⟨l7',k7'⟩:=q'.om hU hUb hb;obtain⟨m,p,f1,f2⟩:=q.plus hn q' hT hU (by omega) (by omega) (by omega) (by omega)
 obtain⟨m7,p7⟩:=f2.om (M8 hT hU) hTU hab;refine⟨va m p,?_,m,p,rfl,f2⟩;unfold va at hv ⊢;unfold f32 JY
 dsimp only
 rw[hv,an,MO,dS,fG (by omega) q.num q.den l7 k7,an]
 dsimp only
 rw[fG (by omega) q'.num q'.den l7' k7',an]
 dsimp only
 rw[f1,an]
 dsimp only
 rw[an]
 dsimp only
 unfold BC;rw[M4 rfl,MO,dS,pA (by omega) m7 p7,an]
 rfl
end
end Go.Proofs.YtpkadoocdgdcfaaGreatDoor
end
section
namespace Go.Proofs.YtpkadoocdgdcfaaGreatDoor
open Go Go.Ab Go.Ab.W
inductive RT(E:Nat->Nat->Prop)(a:Nat):Nat->Prop
 | refl:RT E a a
 | step {b c:Nat} (h:RT E a b) (e:E b c):RT E a c
def Mp(M:PM (PM Nat))(i j:Nat):Nat:=(M.getD i []).getD j 0
def Ed(M:PM (PM Nat))(i j:Nat):Prop:=i<M.length/\j<M.length/\Mp M i j≠0
section
variable{n:Nat}{M:PM (PM Nat)}
structure Wl(N:Nat)(l:PM Nat):Prop where
 len:l.length=N
 lt:∀i,i<N->l.getD i 0<2 ^ 60
end
def Mo(M:PM (PM Nat))(a b:Nat):Prop:=RT (Ed M) a b/\RT (Ed M) b a
section
variable{n:Nat}{M:PM (PM Nat)}
structure Cls(M:PM (PM Nat))(i:Nat)(c:PM Nat)(nx:Nat):Prop where
 len:c.length=M.length
 lt:∀a,a<i->c.getD a 0<nx
 eq:∀a,a<i->∀b,b<i->(c.getD a 0=c.getD b 0↔Mo M a b)
 all:∀v,v<nx->∃a,a<i/\c.getD a 0=v
 new:∀a,a<i->c.getD a 0=0\/∃b,b<a/\c.getD b 0+1=c.getD a 0
 nx:nx<=i
end
section
variable{n:Nat}{M:PM (PM Nat)}
def J1(hn:300<=n):FP n 0 1=some (sh (0,1)):=by
 obtain⟨m,rfl⟩:∃m,n=m+300:=⟨n-300,by omega⟩
 kernel_rfl
end
set_option exponentiation.threshold 3000
section
variable{n:Nat}
def Fj(l:PM Nat){N:Nat}(h1:1<=N)(h4:N<=4):∃M,dM l N=pf M/\M.length=N/\RowsOk M/\∀r∈M,r.sum<21:=by
 refine⟨(List.range N).map fun i=>iO l N i,?_,by simp,⟨by simp; omega,fun r hr=>?_⟩,fun r hr=>?_⟩
 unfold dM pf;rw[List.map_map]; rfl
 obtain⟨i,hi,rfl⟩:=Ov.1 hr;obtain⟨d1,d2,d3,d4⟩:=vh l h4 (Oe.1 hi);exact⟨by simp[d1],d3,by omega⟩
 obtain⟨i,hi,rfl⟩:=Ov.1 hr;exact(vh l h4 (Oe.1 hi)).2.2.2
def Mc(hn:300<=n):FP n 1 1=some (sh (1,1)):=by
 obtain⟨m,rfl⟩:∃m,n=m+300:=⟨n-300,by omega⟩
 kernel_rfl
def Lm{T:Nat}(hT:T≠0):rU (sh (0,1)) 0 T:=⟨[],[1],yk 0 1,Q.zero hT⟩
def LJ:rU (sh (1,1)) 1 1:=⟨[1],[1],yk 1 1,Q.one (by decide)⟩
def Ci(hn:1000000<n){K:PM (PM Sh)}{N:Nat}(hK:K.length=N)(hN:N<=1000){b:PM Sh}(hb:b.length=N):∃s,cT (sq n K) n (b,0)=some s/\s.length=N/\∀j,j<N->s[j]? = some (sh (0,1)):=by
 have h:=bW (body:=sq n K) N (fun(s:PM Sh) (v:Int)=>(s,v)) id (fun i s=>s.length=N/\∀j,j<i->s[j]? = some (sh (0,1))) (fun s i hi hs=>?_) (fun s _=>?_) (n:=n) (s:=b) ⟨hb,fun j hj=>MX hj (by omega)⟩ (by omega)
 exact h
 refine⟨s.set i (sh (0,1)),?_,by rw[Og]; exact hs.1,fun j hj=>?_⟩
 have e:s[i]? = some (s[i]'(by rw[hs.1]; exact hi)):=MF _
 unfold sq
 dsimp only
 rw[hK,Mx,PF,J1 (by omega),an]
 unfold sh
 dsimp only
 rw[aK hi,bC,Mx,e,an,PH]
 by_cases c:j=i
 subst c; exact N0 (by rw[hs.1]; exact hi)
 rw[N7 (Ne.symm c)]; exact hs.2 j (by omega)
 unfold sq
 dsimp only
 rw[hK,Mx,PG]; rfl
def EE(hn:1000000<n){N:Nat}(hN:N<=1000){b:PM Sh}(hb:b.length=N):∃s,cT (sI n b) n (b,0)=some s/\s.length=N/\∀j,j<N->s[j]? = some (sh (0,1)):=by
 have h:=bW (body:=sI n b) N (fun(s:PM Sh) (v:Int)=>(s,v)) id (fun i s=>s.length=N/\∀j,j<i->s[j]? = some (sh (0,1))) (fun s i hi hs=>?_) (fun s _=>?_) (n:=n) (s:=b) ⟨hb,fun j hj=>MX hj (by omega)⟩ (by omega)
 exact h
 refine⟨s.set i (sh (0,1)),?_,by rw[Og]; exact hs.1,fun j hj=>?_⟩
 have e:s[i]? = some (s[i]'(by rw[hs.1]; exact hi)):=MF _
 unfold sI
 dsimp only
 rw[hb,PF,J1 (by omega),an]
 unfold sh
 dsimp only
 rw[aK hi,bC,Mx,e,an,PH]
 by_cases c:j=i
 subst c; exact N0 (by rw[hs.1]; exact hi)
 rw[N7 (Ne.symm c)]; exact hs.2 j (by omega)
 unfold sI
 dsimp only
 rw[hb,PG]; rfl
def Cv(hn:2 ^ 2000<n){row l L0:PM Sh}{w g u:Nat->Nat}{P U N:Nat}(hr:VQ row w P N)(hl:VQ l g U N)(hL:VQ L0 u (P*U) N)(hP:P≠0)(hU:U≠0)(hPU:P*U*(P*U)<2 ^ 400)(hw:∀i,i<N->w i<=P)(hg:∀j,j<N->g j<=U)(hu:∀j,j<N->u j<=P*U*4){i:Nat}(hi:i<N)(hN:N<=1000) :
  ∃L',cT (sy n L0 (i:Int) row l) n (L0,0)=some (.inr L')/\VQ L' (fun j=>u j+w i*g j) (P*U) N:=by
 have hs:=cE hn;have h0:=A6;have h4:(2:Nat) ^ 400*8<=2 ^ 440:=by decide +kernel
 have hPU0:P*U≠0:=M8 hP hU;have hle:P*U<=P*U*(P*U):=Nat.le_mul_of_pos_right _ (MZ hPU0);have hPle:P<=P*U:=Nat.le_mul_of_pos_right _ (MZ hU);have hUle:U<=P*U:=Nat.le_mul_of_pos_left _ (MZ hP);obtain⟨x,ex,qx⟩:=hr.at_ i hi;have hwi:=hw i hi;have h:=bW (body:=sy n L0 (i:Int) row l) N (fun(s:PM Sh) (v:Int)=>(s,v)) (fun s=>(.inr s:PN⊕PM Sh)) (fun j s=>s.length=N/\∀a,a<N->∃x,s[a]? = some x/\rU x (if a<j then u a+w i*g a else u a) (P*U)) (fun s j hj hs=>?_) (fun s _=>?_) (n:=n) (s:=L0) ⟨hL.len,fun a ha=>by obtain⟨x,e,q⟩:=hL.at_ a ha; exact⟨x,e,by rw[OV]; exact q⟩⟩ (by omega)
 obtain⟨s,h1,h2,h3⟩:=h;exact⟨s,h1,h2,fun a ha=>by obtain⟨x,e,q⟩:=h3 a ha; exact⟨x,e,by rw[MG ha] at q; exact q⟩⟩
 obtain⟨y,ey,qy⟩:=hl.at_ j hj;obtain⟨z,ez,qz⟩:=hs.2 j hj;rw[OV] at qz
 have hgj:=hg j hj;have huj:=hu j hj;have hwg:w i*g j<=P*U:=Nb hwi hgj;obtain⟨p,f1,qp⟩:=G4 hn qx qy hP hU (by omega) (by omega) (by omega) (by omega) (by omega) (by omega)
 have h5:u j*(P*U)<=P*U*4*(P*U):=Nj _ huj;have h6:w i*g j*(P*U)<=P*U*(P*U):=Nj _ hwg;have h7:P*U*4*(P*U)=4*(P*U*(P*U)):=by rw[M9 (P*U) 4,MT]
 obtain⟨q,f0,qq⟩:=GB hn qz qp hPU0 hPU0 (by omega) (by omega) (by omega) (by omega) (by omega) (by omega)
 have qq':rU q (u j+w i*g j) (P*U):=qq.same (M8 hPU0 hPU0) hPU0 (by rw[<-Nc,MT])
 refine⟨s.set j q,?_,by rw[Og]; exact hs.1,fun a ha=>?_⟩
 obtain⟨x_0,x_1,x_2,x_3,x_4,x_5,x_6,x_7,x_8,x_9,x_10,x_11,x_12,x_13,x_14,x_15⟩:=x;obtain⟨y_0,y_1,y_2,y_3,y_4,y_5,y_6,y_7,y_8,y_9,y_10,y_11,y_12,y_13,y_14,y_15⟩:=y;obtain⟨z_0,z_1,z_2,z_3,z_4,z_5,z_6,z_7,z_8,z_9,z_10,z_11,z_12,z_13,z_14,z_15⟩:=z;obtain⟨p_0,p_1,p_2,p_3,p_4,p_5,p_6,p_7,p_8,p_9,p_10,p_11,p_12,p_13,p_14,p_15⟩:=p;obtain⟨q_0,q_1,q_2,q_3,q_4,q_5,q_6,q_7,q_8,q_9,q_10,q_11,q_12,q_13,q_14,q_15⟩:=q;have f1':J3 n x_0 x_1 x_2 x_3 x_4 x_5 x_6 x_7 x_8 x_9 x_10 x_11 x_12 x_13 x_14 x_15 y_0 y_1 y_2 y_3 y_4 y_5 y_6 y_7 y_8 y_9 y_10 y_11 y_12 y_13 y_14 y_15=some (p_0,p_1,p_2,p_3,p_4,p_5,p_6,p_7,p_8,p_9,p_10,p_11,p_12,p_13,p_14,p_15,0):=f1;have f2':JY n z_0 z_1 z_2 z_3 z_4 z_5 z_6 z_7 z_8 z_9 z_10 z_11 z_12 z_13 z_14 z_15 p_0 p_1 p_2 p_3 p_4 p_5 p_6 p_7 p_8 p_9 p_10 p_11 p_12 p_13 p_14 p_15=some (q_0,q_1,q_2,q_3,q_4,q_5,q_6,q_7,q_8,q_9,q_10,q_11,q_12,q_13,q_14,q_15,0):=f0;unfold sy
 dsimp only
 rw[hL.len,PF,hr.len,aK hi,bC,Mx,ex,an]
 dsimp only
 rw[hl.len,aK hj,bC,Mx,ey,an]
 dsimp only
 rw[f1',an]
 dsimp only
 rw[bC,ez,an]
 dsimp only
 rw[f2',an]
 dsimp only
 rw[M4 rfl,MO,dS,an,dS,bC,PH]
 by_cases c:a=j
 subst c;exact⟨q,N0 (by rw[hs.1]; exact ha),by rw[OW]; exact qq'⟩
 obtain⟨x',e',q'⟩:=hs.2 a ha;refine⟨x',by rw[N7 (Ne.symm c)]; exact e',?_⟩
 by_cases c0:a<j
 rw[MG c0] at q'; rw[OW]; exact q'
 rw[ME c0] at q'; rw[OV]; exact q'
 unfold sy
 dsimp only
 rw[hL.len,PG]
end
section
variable{n:Nat}
def Ef(hn:2 ^ 2000<n){K:PM (PM Sh)}{W:Nat->Nat->Nat}{P N:Nat}(hK:KQ K W P N)(hC:H3 n K=some 0)(hPb:P<262144)(h4:N<=4){row:PM Sh}{w:Nat->Nat}(hr:VQ row w P N)(hw:sm w N=P){x:Nat}(hx:x<4){x6:Nat}(e6:x6%4=x){b:PM Sh}(hb:b.length=N)(hb0:∀j,j<N->b[j]? = some (sh (0,1))) :
  ∃s,cT (sN n K x6 row) n (b,N,0)=some (.inr (s,N))/\VQ s (fun j=>sm (fun i=>w i*nA W N x (eV i) j) N) (P*P ^ x) N:=by
 have hs:=cE hn;have hN:=hK.n1;have hP:=hK.pos;have hPx0:P ^ x≠0:=Nat.pos_iff_ne_zero.1 (Nat.pow_pos (MZ hP));have hPPx:P*P ^ x≠0:=M8 hP hPx0;have hPx:P ^ x<=262144 ^ 3:=MU (Nat.pow_le_pow_left (by omega) x) (MY (by decide) (by omega))
 have hPPb:P*P ^ x<=262144*262144 ^ 3:=Nb (by omega) hPx
 have hc1:(262144:Nat)*262144 ^ 3*(262144*262144 ^ 3)<2 ^ 400:=by decide +kernel
 have hc2:(1:Nat)*262144 ^ 3<2 ^ 440:=by decide +kernel
 have hsq:P*P ^ x*(P*P ^ x)<2 ^ 400:=Na (Nb hPPb hPPb) hc1;have hwi:∀i,i<N->w i<=P:=fun i hi=>hw▸oY hi;have hg:∀i,i<N->∀j,j<N->nA W N x (eV i) j<=1*P ^ x:=fun i hi j hj=>by
  have:=oY (f:=nA W N x (eV i)) hj;rw[oz hK,CJ hi] at this;exact this
 have hu:∀i,i<=N->∀j,j<N->sm (fun i=>w i*nA W N x (eV i) j) i<=P*(1*P ^ x)*4:=fun i hi j hj=>by
  have h1:∀k,k<=N->sm (fun i=>w i*nA W N x (eV i) j) k<=P*(1*P ^ x)*k:=by
   intro k
   induction k with
   | zero=>intro _; exact NV _
   | succ k ih =>
    intro hk;rw[sm,Nat.mul_succ];exact Nat.add_le_add (ih (by omega)) (Nb (hwi k (by omega)) (hg k (by omega) j hj))
  exact MU (h1 i hi) (Np _ (by omega))
 have h:=bW (body:=sN n K x6 row) N (fun(s:PM Sh) (v:Int)=>(s,N,v)) (fun s=>(.inr (s,N):PN ⊕(PM Sh×Nat))) (fun i s=>VQ s (fun j=>sm (fun i=>w i*nA W N x (eV i) j) i) (P*(1*P ^ x)) N) (fun s i hi hq=>?_) (fun s _=>?_) (n:=n) (s:=b) ⟨hb,fun j hj=>⟨_,hb0 j hj,Lm (M8 hP (M8 (by decide) hPx0))⟩⟩ (by omega)
 obtain⟨s,h1,h2⟩:=h;rw[Nat.one_mul] at h2;exact⟨s,h1,h2⟩
 obtain⟨s2,f2,g2,g3⟩:=EE (n:=n) (by omega) hN hq.len
 have hal:VQ (s2.set i (sh (1,1))) (eV i) 1 N:=⟨by rw[Og]; exact g2,fun j hj=>by
  by_cases c:j=i
  subst c;exact⟨_,N0 (by rw[g2]; exact hj),by unfold eV; rw[MG rfl]; exact LJ⟩
  exact⟨_,by rw[N7 (Ne.symm c)]; exact g3 j hj,by unfold eV; rw[ME c]; exact Lm (by decide)⟩⟩
 obtain⟨l,f3,hl⟩:=mX hn hK hC hal (by decide) (k:=x) (by omega) (by
  exact Na (Np _ hPx) hc2) (CJ hi)
 obtain⟨L',f4,hL'⟩:=Cv hn (row:=row) (l:=l) (L0:=s) hr hl hq hP (M8 (by decide) hPx0) (by rw[Nat.one_mul]; exact hsq) hwi (hg i hi) (fun j hj=>hu i (by omega) j hj) hi hN
 refine⟨L',?_,hL'⟩;have e2:s2[i]? = some (sh (0,1)):=g3 i hi;have hclone:Lr n s=some s:=by
  unfold Lr;rw[show lim s.length=true from M6 (by rw[hq.len]; omega),bC]
 have hwr:OT ((x6%4:Nat):Int)=((x:Nat):Int):=by rw[e6,bf (by omega) (by omega)]
 unfold sN
 dsimp only
 rw[hK.len,PF,hclone,an,f2,an,Mc (by omega),an]
 unfold sh
 dsimp only
 rw[hq.len,aK hi,bC,Mx,e2,an];rw[hwr]
 show ob (Gt n K (s2.set i (sh (1,1))) (x:Int)) _=_
 rw[f3,an]
 dsimp only
 rw[M4 rfl,MO,dS,hl.len,M4 rfl,MO,an,dS,f4]
 show some _=_
 rw[PH]
 unfold sN
 dsimp only
 rw[hK.len,PG]
def CN(n x1:Nat)(l2:PM Nat)(x6 x7:Nat)(hn:2 ^ 2000<n):Lz n x1 l2 x6 x7=some true:=by
 have hs:=cE hn;have h2:(2:Nat) ^ 200<=2 ^ 2000:=by decide +kernel
 have hx4:x1%4<4:=Nx _ (by decide)
 obtain⟨M,e1,eN,hM,h20⟩:=Fj l2 (show 1<=1+x1%4 by omega) (by omega)
 obtain⟨W,P,hK,hPb⟩:=IW hM (by omega) h20
 have hC:=Ew (n:=n) (by omega) hM
 have h1:=hM.len.1;have h4:M.length<=4:=by omega
 generalize M.length=N at *;have hP:=hK.pos;obtain⟨row,er,hr⟩:=hK.at_ (N-1) (by omega)
 have hw:=hK.sum (N-1) (by omega)
 generalize W (N-1)=w at *;have hx:x6%4<4:=Nx _ (by decide)
 have hy:x7%4<4:=Nx _ (by decide)
 generalize ex:x6%4=x at *;generalize ey:x7%4=y at *;have hc:(262144:Nat)*262144 ^ 6<2 ^ 440:=by decide +kernel
 have hpow:∀k,k<=6->P*P ^ k<2 ^ 440:=fun k hk=>Na (Nb (show P<=262144 by omega) (MU (Nat.pow_le_pow_left (show P<=262144 by omega) k) (MY (by decide) hk))) hc
 have hp0:∀k,P*P ^ k≠0:=fun k=>M8 hP (Nat.pos_iff_ne_zero.1 (Nat.pow_pos (MZ hP)));obtain⟨one,f1,q1⟩:=mX hn hK hC hr hP (k:=x) (by omega) (hpow x (by omega)) hw
 have s1:sm (nA W N x w) N=P*P ^ x:=by rw[oz hK,hw]
 have hadd:P*P ^ x*P ^ y=P*P ^ (x+y):=by rw[MT,<-N2]
 obtain⟨two,f2,q2⟩:=mX hn hK hC q1 (hp0 x) (k:=y) (by omega) (by rw[hadd]; exact hpow _ (by omega)) s1
 obtain⟨all,f3,q3⟩:=mX hn hK hC hr hP (k:=x+y) (by omega) (hpow _ (by omega)) hw
 have s3:sm (nA W N (x+y) w) N=P*P ^ (x+y):=by rw[oz hK,hw]
 have f4:=FE hn q3 (hp0 _) (hpow _ (by omega)) s3 (by omega)
 have e23:two=all:=q2.uniq q3 (by rw[hadd]; exact hp0 _) (hp0 _) fun i hi=>by rw[hadd,<-AZ]
 subst e23;have f5:=rf (n:=n) two (by rw[q3.len]; omega) (by omega)
 obtain⟨b,g1,g2,g3⟩:=Ci (n:=n) (by omega) hK.len (by omega) (b:=List.replicate N ((0,0,0,0,0,0,0,0,0,0,0,0,0,0,0,0):Sh)) (by simp)
 obtain⟨mx,g4,g5⟩:=Ef hn hK hC hPb h4 hr hw hx ex g2 g3;have em:mx=one:=g5.uniq q1 (hp0 x) (hp0 x) fun j hj=>by
  congr 1
  rw[<-CM x j hj];refine xI (fun a ha=>?_) x j hj;rw[Ec,MG ha]
 subst em;have f6:=rf (n:=n) mx (by rw[q1.len]; omega) (by omega)
 have wx:OT ((x:Nat):Int)=(x:Int):=bf (by omega) (by omega)
 have wy:OT ((y:Nat):Int)=(y:Int):=bf (by omega) (by omega)
 have wxy:OT ((x:Int)+(y:Int))=((x+y:Nat):Int):=by rw[bf (by omega) (by omega)]; rfl
 have wN:OT ((N:Int)-1)=((N-1:Nat):Int):=by rw[bf (by omega) (by omega)]; omega
 have hlim:lim N=true:=M6 (by omega)
 have e49:FP n 1 1=some (sh (1,1)):=Mc (by omega)
 unfold Lz;rw[show LP n=some true from rfl,an,MO,dS,Iz n x1 l2 (by omega),an,e1,hK.len,wN,aK (by omega),bC,Mx,er,an,ex,ey,wx,wy,f1,an]
 dsimp only
 rw[M4 rfl,MO,dS,f2,an]
 dsimp only
 rw[an,wxy,f3,an]
 dsimp only
 rw[f4,an];unfold EA
 dsimp only
 rw[M4 rfl,MO,dS,dS,dS,f5,an,MO,dS,e49,an];unfold sh
 dsimp only
 rw[show(!(decide (([1]:PM Nat).getD 0 0=1)&&decide (([1]:PM Nat).getD 1 0=0)&&decide (([1]:PM Nat).getD 2 0=0)&&decide (([1]:PM Nat).getD 3 0=0)&&decide (([1]:PM Nat).getD 4 0=0)&&decide (([1]:PM Nat).getD 5 0=0)&&decide (([1]:PM Nat).getD 6 0=0)&&decide (([1]:PM Nat).getD 7 0=0)&&decide (([1]:PM Nat).getD 0 0=1)&&decide (([1]:PM Nat).getD 1 0=0)&&decide (([1]:PM Nat).getD 2 0=0)&&decide (([1]:PM Nat).getD 3 0=0)&&decide (([1]:PM Nat).getD 4 0=0)&&decide (([1]:PM Nat).getD 5 0=0)&&decide (([1]:PM Nat).getD 6 0=0)&&decide (([1]:PM Nat).getD 7 0=0)))=false from rfl,an,dS,fi (by omega),Mx,hlim,bC,g1,an,g4]
 show ob (Ju n mx mx) _=_
 rw[f6,an]
end
def IG:Nat:=2 ^ 2000+1
def Fw:2 ^ 2000<IG:=Nq _
end Go.Proofs.YtpkadoocdgdcfaaGreatDoor
end
section
namespace Go.Proofs.YtpkadoocdgdcfaaGreatDoor
set_option maxRecDepth 100000
open Go
def Gq:(Rows.kernelSumsRow.inPlace==Tryz.checked.prog.inPlace 10)=true:=by kernel_rfl
def GN:(Rows.kernelSumsRow.unfollowed==Tryz.checked.prog.unfollowed 10)=true:=by kernel_rfl
def Gz:(Rows.kernelSumsRow.recurses==Tryz.checked.prog.recurses 10)=true:=by kernel_rfl
def Fh:(Rows.kernelSumsRow.named==Tryz.checked.prog.varsNamed 10)=true:=by kernel_rfl
def C5:joinedFacts Tryz.checked.prog 10 Tryz.f10 Rows.kernelSumsSpec Rows.kernelSumsRow=true:=by
 unfold joinedFacts;rw[Gq,GN,Gz,Fh]
 kernel_rfl
def Gs:false=Tryz.checked.prog.looks []:=by kernel_rfl
def FV:false=Rows.kernelSumsRow.goesBy Tryz.checked.prog:=by kernel_rfl
end Go.Proofs.YtpkadoocdgdcfaaGreatDoor
end
