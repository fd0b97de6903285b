/- A part of the proof. -/
import Derived.Test.YtpkadoocdgdcfaaGreatDoorKt4
import Derived.Lib.Mul64
set_option linter.all false
section
open Go Go.Ab Go.Ab.W
abbrev Xp(m:Xq)(v0:Value):Value->Xq->Prop:=fun v m'=>∃x:XC,v=v0/\Hp m m' []
end
section
namespace Go.Proofs.YtpkadoocdgdcfaaGreatDoor
section
open Go Go.Ab Go.Ab.W
section
variable{α β σ ρ:Type}
def cx(a b:XA β):br true a b=a:=rfl
def bK(a b:XA β):br false a b=b:=rfl
def ay(a:XA β):gd true a=a:=rfl
def ab(x:α)(f:α->XA β):ob (some x) f=f x:=rfl
def az{p:Prop}[Decidable p](h:p)(a b:XA β):br (decide p) a b=a:=by rw[Ud h]; rfl
def Xm{p:Prop}[Decidable p]{a b:XA β}(h:p:=by omega):br (decide p) a b=a:=az h a b
def aC{p:Prop}[Decidable p](h:¬p)(a b:XA β):br (decide p) a b=b:=by rw[Um h]; rfl
def Xn{p:Prop}[Decidable p]{a b:XA β}(h:¬p:=by omega):br (decide p) a b=b:=aC h a b
def dI{p:Prop}[Decidable p](h:p)(a:XA β):gd (decide p) a=a:=by rw[Ud h]; rfl
def ak{i n:Nat}(h:i<n):bB (i:Int) n=true:=Ud ⟨Vi i,by simpa using h⟩
def aA{x:Int}(h1 : -9223372036854775808<=x)(h2:x<9223372036854775808):WQ x=x:=wrap_i64 x h1 (by omega)
def aF{i:Nat}(h:i<4611686018427387904):WQ ((i:Int)+1)=((i+1:Nat):Int):=by rw[aA (by omega) (by omega)]; rfl
def Xo{i:Nat}(h:i<4611686018427387904:=by omega):WQ ((i:Int)+1)=((i+1:Nat):Int):=aF h
def bO{body:σ->XA (σ⊕ρ)}{n:Nat}{s s':σ}(h:body s=some (.inl s')):bN body (n+1) s=bN body n s':=by simp only[bN,h]
def bI{body:σ->XA (σ⊕ρ)}{n:Nat}{s:σ}{r:ρ}(h:body s=some (.inr r)):bN body (n+1) s=some r:=by simp only[bN,h]
end
def p8{n:Nat}(h:n<=1073741824):lim n=true:=U9 h
structure Okay(N:Nat)(es:WD):Prop where
 pos:1<=N
 le:N<=64
 len:es.length<=200
 mem:∀e∈es,∃a b:Nat,e=((a:Int),(b:Int))/\a<b/\b<N
def bl(x:Nat):Nat:=if x=0 then 0 else Nat.log2 x+1
def ta{x k:Nat}:k<bl x↔2 ^ k<=x:=by
 unfold bl
 by_cases h:x=0
 subst h;rw[Ui rfl];have:=Nat.two_pow_pos k;omega
 rw[Uk h,Nat.lt_succ_iff,Nat.le_log2 h]
def GH{x m:Nat}(h:∀k,k<m↔2 ^ k<=x):m=bl x:=by
 rcases Nat.lt_trichotomy m (bl x) with h1|h1|h1
 have:=(h m).2 (ta.1 h1); omega
 exact h1
 have:=ta.2 ((h (bl x)).1 h1); omega
def I9{x s:Nat}(h:2 ^ s<=x):bl (x >>> s)+s=bl x:=by
 refine GH fun k=>?_;rw[Nat.shiftRight_eq_div_pow]
 by_cases hk:k<s
 have:2 ^ k<=2 ^ s:=Up (by decide) (by omega)
 constructor
 intro _; omega
 intro _; omega
 obtain⟨d,rfl⟩:∃d,k=d+s:=⟨k-s,by omega⟩
 have h1:=ta (x:=x/2 ^ s) (k:=d);have h2:2 ^ (d+s)<=x↔2 ^ d<=x/2 ^ s:=by rw[Vs,Nat.le_div_iff_mul_le (Nat.two_pow_pos s)]
 rw[h2,<-h1]; omega
def PX:∀y:Fin 256,gC[y.val]? = some (bl y.val):=by decide +kernel
def Im{x s:Nat}(h:x<2 ^ s):bl x<=s:=by
 rcases UY s (bl x) with h1|h1
 have:=ta.1 h1; omega
 exact h1
def uo(s y m:Nat)(hs:s<=32)(hy:y<2 ^ (2*s))(hm:m<=64):∃y' m':Nat,br (decide (2 ^ s<=y)) (some (dh .u64 y s,WQ ((m:Int)+(s:Int)))) (some (y,(m:Int)))=some (y',(m':Int))/\y'<2 ^ s/\bl y'+m'=bl y+m/\m'<=m+s:=by
 by_cases h:2 ^ s<=y
 refine⟨y >>> s,m+s,?_,?_,?_,Ua _⟩
 rw[az h,Ij (by omega),aA (by omega) (by omega)]; rfl
 rw[Nat.shiftRight_eq_div_pow,U5 (Nat.two_pow_pos s),<-Vs];rw[Nat.two_mul] at hy; exact hy
 have:=I9 h; omega
 exact⟨y,m,aC h _ _,by omega,rfl,by omega⟩
def Fl(n x:Nat)(hx:x<2 ^ 64):JY n x=some ((bl x:Nat):Int):=by
 unfold JY;obtain⟨y1,m1,e1,h1,b1,g1⟩:=uo 32 x 0 (by omega) hx (by omega)
 have e1':br (decide (4294967296<=x)) (some (dh .u64 x 32,(32:Int))) (some (x,0))=some (y1,(m1:Int)):=e1;rw[e1',ab];obtain⟨y2,m2,e2,h2,b2,g2⟩:=uo 16 y1 m1 (by omega) h1 (by omega)
 have e2':br (decide (65536<=y1)) (some (dh .u64 y1 16,WQ ((m1:Int)+16))) (some (y1,(m1:Int)))=some (y2,(m2:Int)):=e2;simp only[e2',ab];obtain⟨y3,m3,e3,h3,b3,g3⟩:=uo 8 y2 m2 (by omega) h2 (by omega)
 have e3':br (decide (256<=y2)) (some (dh .u64 y2 8,WQ ((m2:Int)+8))) (some (y2,(m2:Int)))=some (y3,(m3:Int)):=e3;simp only[e3',ab];have h3:y3<256:=h3;have e:uw .u8 y3=y3:=UG h3;have h8:bl y3<=8:=Im h3;have ht:gC[y3]? = some (bl y3):=PX ⟨y3,h3⟩;have w1:WQ ((bl y3:Nat):Int)=((bl y3:Nat):Int):=aA (by omega) (by omega)
 rw[e,ak h3,ay,T5,ht,ab,w1,aA (by omega) (by omega)]
 simp only[Option.some.injEq]; omega
def HS{σ ρ τ:Type}{body:τ->XA (τ⊕ρ)}(N:Nat)(mk:σ->Int->τ)(fin:σ->ρ)(I:Nat->σ->Prop)
  (hs:∀s i,i<N->I i s->∃s',body (mk s (i:Int))=some (.inl (mk s' ((i+1:Nat):Int)))/\I (i+1) s') (he:∀s,I N s->body (mk s (N:Int))=some (.inr (fin s))) :
  ∀(k i n:Nat) (s:σ),i+k=N->I i s->k<n->∃s',bN body n (mk s (i:Int))=some (fin s')/\I N s':=by
 intro k
 induction k with
 | zero =>
  intro i n s hi hI hn;obtain⟨n,rfl⟩:∃n',n=n'+1:=⟨n-1,by omega⟩
  have:i=N:=by omega
  subst this;exact⟨s,by simp only[bN,he s hI],hI⟩
 | succ k ih =>
  intro i n s hi hI hn;obtain⟨n,rfl⟩:∃n',n=n'+1:=⟨n-1,by omega⟩
  obtain⟨s',h1,h2⟩:=hs s i (by omega) hI
  simp only[bN,h1];exact ih (i+1) n s' (by omega) h2 (by omega)
def aS{σ ρ τ:Type}{body:τ->XA (τ⊕ρ)}(N:Nat)(mk:σ->Int->τ)(fin:σ->ρ)(I:Nat->σ->Prop)
  (hs:∀s i,i<N->I i s->∃s',body (mk s (i:Int))=some (.inl (mk s' ((i+1:Nat):Int)))/\I (i+1) s') (he:∀s,I N s->body (mk s (N:Int))=some (.inr (fin s)))
  {n:Nat} {s:σ} (hI:I 0 s) (hn:N<n):∃s',bN body n (mk s 0)=some (fin s')/\I N s' :=
 HS N mk fin I hs he N 0 n s (by omega) hI hn
def val(w:Nat):XB Nat->Nat
 | []=>0
 | d::ds=>d+2 ^ w*val w ds
def vl:XB Nat->Nat
 | []=>0
 | d::l=>d+18446744073709551616*vl l
def Wd(l:XB Nat):Prop:=∀d∈l,d<18446744073709551616
def wp(k:Nat):Nat:=18446744073709551616 ^ k
def Ln:wp 0=1:=rfl
def ik(k:Nat):wp (k+1)=18446744073709551616*wp k:=by unfold wp; rw[UW,Uo]
def PQ(a b:Nat):wp (a+b)=wp a*wp b:=Vs _ _ _
def Cv(k:Nat):0<wp k:=Nat.pow_pos (by decide)
def gZ:vl []=0:=rfl
def dE(d:Nat)(l:XB Nat):vl (d::l)=d+18446744073709551616*vl l:=rfl
def lI(a b:XB Nat):vl (a++b)=vl a+wp a.length*vl b:=by
 induction a with
 | nil=>simp[vl,wp]
 | cons d a ih=>rw[Ws,dE,dE,ih,UK,ik,Vj,Uv,V9]
def iQ{l:XB Nat}(h:Wd l):vl l<wp l.length:=by
 induction l with
 | nil=>exact Nat.one_pos
 | cons d l ih =>
  have h1:=h d Vg;have h2:=ih fun e he=>h e (UM _ he);rw[dE,UK,ik];omega
def jM(k:Nat):vl (List.replicate k 0)=0:=by
 induction k with
 | zero=>rfl
 | succ k ih=>rw[Vl,dE,ih]
def Wd.nil:Wd []:=fun _ h=>nomatch h
def Wd.zeros(k:Nat):Wd (List.replicate k 0):=fun d hd=>by rw[List.eq_of_mem_replicate hd]; decide
def Wd.app{a b:XB Nat}(ha:Wd a)(hb:Wd b):Wd (a++b):=fun d hd=>(UT.1 hd).elim (ha d) (hb d)
def Wd.left{a b:XB Nat}(h:Wd (a++b)):Wd a:=fun d hd=>h d (UT.2 (.inl hd))
def Wd.one{d:Nat}(h:d<18446744073709551616):Wd [d]:=fun e he=>by rw[UI.1 he]; exact h
def Wd.at{l:XB Nat}(h:Wd l){i d:Nat}(hi:l[i]? = some d):d<18446744073709551616:=h d (Ur hi)
def Wd.set{l:XB Nat}(h:Wd l){i d:Nat}(hd:d<18446744073709551616):Wd (l.set i d):=fun e he=>by
 rcases VP he with h1|rfl
 exact h e h1
 exact hd
def Wd.take{l:XB Nat}(h:Wd l)(k:Nat):Wd (l.take k):=fun d hd=>h d (List.mem_of_mem_take hd)
def du(l:XB Nat)(i:Nat)(hi:i<=l.length):vl l=vl (l.take i)+wp i*vl (l.drop i):=by
 have:=lI (l.take i) (l.drop i);rwa[List.take_append_drop,U0,US hi] at this
def iY{l:XB Nat}{i d:Nat}(hi:l[i]? = some d):vl (l.drop i)=d+18446744073709551616*vl (l.drop (i+1)):=by
 obtain⟨h1,h2⟩:=Uq.1 hi;rw[VJ h1,dE,h2]
def tB{l:XB Nat}{i d:Nat}(e:Nat)(hi:l[i]? = some d):vl (l.set i e)+wp i*d=vl l+wp i*e:=by
 obtain⟨h1,h2⟩:=Uq.1 hi;have a:=du l i (VN h1);have b:=du (l.set i e) i (by rw[Vh]; exact VN h1)
 have c:(l.set i e)[i]? = some e:=by rw[Ve h1]
 rw[iY hi] at a;rw[iY c,List.take_set_of_le (Ua i),List.drop_set_of_lt (show i<i+1 from Vp i)] at b
 rw[a,b,Vj,Vj];omega
structure Lg(z:Int)(s:Bool)(l:XB Nat):Prop where
 wd:Wd l
 last:∀d,l.getLast? = some d->d≠0
 val:z=if s then -(vl l:Int) else(vl l:Int)
 sign:s=true->l≠[]
def jG{l:XB Nat}(h:∀d,l.getLast? = some d->d≠0)(hl:l≠[]):wp (l.length-1)<=vl l:=by
 obtain⟨a,d,rfl⟩:∃a d,l=a++[d]:=⟨l.dropLast,l.getLast hl,(List.dropLast_concat_getLast hl).symm⟩;have h1:=h d (by simp)
 rw[lI,Uf,UB,Nat.add_sub_cancel,dE,gZ];have:wp a.length*1<=wp a.length*(d+18446744073709551616*0):=Vb _ (by omega)
 omega
def kV{l:XB Nat}(h:∀d,l.getLast? = some d->d≠0):vl l=0↔l=[]:=by
 refine⟨fun h1=>?_,fun h1=>by rw[h1]; rfl⟩
 by_cases hl:l=[]
 exact hl
 have:=jG h hl;have:=Cv (l.length-1);omega
def wi{d:Nat}{l:XB Nat}(h:∀e,(d::l).getLast? = some e->e≠0):∀e,l.getLast? = some e->e≠0:=by
 intro e he;cases l with
 | nil=>cases he
 | cons a l=>exact h e (by rw[List.getLast?_cons_cons]; exact he)
def PR:∀{l k:XB Nat},Wd l->Wd k->(∀d,l.getLast? = some d->d≠0)->(∀d,k.getLast? = some d->d≠0)->vl l=vl k->l=k:=by
 intro l
 induction l with
 | nil=>intro k _ _ _ hk h; exact((kV hk).1 h.symm).symm
 | cons d l ih =>
  intro k wl wk hl hk h;cases k with
  | nil=>exact Uy ((kV hl).1 h) (by simp)
  | cons e k =>
   have h1:=wl d Vg;have h2:=wk e Vg;rw[dE,dE] at h;have h3:d=e:=by omega
   have h4:vl l=vl k:=by omega
   rw[h3,ih (fun x hx=>wl x (UM _ hx)) (fun x hx=>wk x (UM _ hx)) (wi hl) (wi hk) h4]
def Lg.inj{z:Int}{s t:Bool}{l k:XB Nat}(h:Lg z s l)(h':Lg z t k):s=t/\l=k:=by
 have a:=h.val;have b:=h'.val;have hz:=kV h.last;have hz':=kV h'.last;have e:vl l=vl k:=by
  cases s<;>cases t<;>simp only[Uu,if_false,if_true] at a b<;>omega
 have e':=PR h.wd h'.wd h.last h'.last e;refine⟨?_,e'⟩;subst e';cases s<;>cases t<;>simp only[Uu,if_false,if_true] at a b
 rfl
 exact Uy (hz.1 (by omega)) (h'.sign rfl)
 exact Uy (hz.1 (by omega)) (h.sign rfl)
 rfl
def uT(s:Bool)(x:Nat):Int:=if s then -(x:Int) else(x:Int)
def Lg.zero:Lg 0 false []:={ wd:=Wd.nil,last:=fun _ h=>(nomatch h),val:=rfl,sign:=fun h=>(nomatch h)}
def Lg.small{x:Nat}(h0:x≠0)(h:x<18446744073709551616)(s:Bool):Lg (uT s x) s [x]:=⟨Wd.one h,fun d hd=>by simp at hd; omega,by simp[uT,vl],fun _=>by simp⟩
def Lg.IA{z:Int}{s:Bool}{l:XB Nat}(h:Lg z s l):s=decide (z<0):=by
 have a:=h.val;have hz:=kV h.last;cases s with
 | false=>simp only[Uu,if_false] at a; rw[Um (by omega)]
 | true =>
  simp only[if_true] at a;have:vl l≠0:=fun e=>h.sign rfl (hz.1 e);rw[Ud (by omega)]
def Lg.abs{z:Int}{s:Bool}{l:XB Nat}(h:Lg z s l):vl l=z.natAbs:=by
 have a:=h.val;cases s<;>simp only[Uu,if_false,if_true] at a<;>omega
def Lg.R9{z:Int}{s:Bool}{l:XB Nat}(h:Lg z s l):l=[]↔z=0:=by
 rw[<-kV h.last,h.abs]; omega
def fh{n:Nat}(s:Bool){l:XB Nat}(hl:Wd l)(hb:l.length<4611686018427387904)(hn:l.length<n) :
  ∃t k,nb n s l=some (t,k)/\Lg (uT s (vl l)) t k:=by
 have hL:∀i m,i<=l.length->i<m->vl (l.drop i)=0->∃j,bN (oO n l) m ((i:Nat):Int)=some ((j:Nat):Int)/\j<=l.length/\vl (l.drop j)=0/\∀d,(l.take j).getLast? = some d->d≠0:=by
  intro i
  induction i with
  | zero =>
   intro m _ hm h0;obtain⟨m,rfl⟩:∃m',m=m'+1:=⟨m-1,by omega⟩
   refine⟨0,bI ?_,VF _,h0,fun d hd=>by simp at hd⟩
   unfold oO;rw[aC (by decide)]; rfl
  | succ i ih =>
   intro m hi hm h0;obtain⟨m,rfl⟩:∃m',m=m'+1:=⟨m-1,by omega⟩
   have hi':i<l.length:=hi;have e0:WQ (((i+1:Nat):Int)-1)=((i:Nat):Int):=by rw[aA (by omega) (by omega)]; omega
   have e1:l[((i:Nat):Int).toNat]? = some l[i]:=by simp[hi']
   have e2:l[i]? = some l[i]:=by simp[hi']
   by_cases hz:l[i]=0
   have:oO n l ((i+1:Nat):Int)=some (.inl ((i:Nat):Int)):=by
    unfold oO;rw[Xm,e0,ak hi',ay,e1,ab,ab,az hz]
   rw[bO this];exact ih m (VN hi') (by omega) (by rw[iY e2,hz,h0])
   refine⟨i+1,bI ?_,hi,h0,fun d hd=>?_⟩
   unfold oO;rw[Xm,e0,ak hi',ay,e1,ab,ab,aC hz]
   rw[List.getLast?_eq_getElem?,U0,US hi,Nat.add_sub_cancel,List.getElem?_take_of_lt (Vp i),e2] at hd;cases hd;exact hz
 obtain⟨j,h1,h2,h3,h4⟩:=hL l.length n (Ua _) hn (by rw[Wr]; rfl)
 have hv:vl l=vl (l.take j):=by rw[du l j h2,h3]; omega
 have hk:okB 0 ((j:Nat):Int) l.length=true:=Ud ⟨by omega,by omega,by omega⟩
 have ht:(l.drop WR).take (((j:Nat):Int).toNat-WR)=l.take j:=by simp
 have hz:=kV h4;unfold nb;rw[h1,ab];cases s with
 | false =>
  refine⟨false,l.take j,?_,hl.take j,h4,?_,fun h=>nomatch h⟩
  rw[bK,hk,ay,ht]
  rw[hv]; rfl
 | true =>
  refine⟨decide (0<((j:Nat):Int)),l.take j,?_,hl.take j,h4,?_,fun h e=>?_⟩
  rw[cx,hk,ay,ht]
  rw[hv]
  by_cases hj:0<((j:Nat):Int)
  rw[Ud hj]; rfl
  have:j=0:=by omega
  subst this
  rfl
  have h5:=of_decide_eq_true h;have:=VB List.length e;rw[U0,US h2] at this;simp at this;omega
def vN(l:XB Nat)(i:Nat):∃y,vl (l.drop i)=y+18446744073709551616*vl (l.drop (i+1))/\(Wd l->y<18446744073709551616) /\
  (br (decide (((i:Nat):Int)<(l.length:Int))) (gd (bB ((i:Nat):Int) l.length) (ob (l[((i:Nat):Int).toNat]?) fun x=>some x)) (some 0))=some y:=by
 by_cases h:i<l.length
 have e2:l[i]? = some l[i]:=by simp[h]
 exact⟨l[i],iY e2,fun w=>w.at e2,by rw[Xm,ak h,ay,T5,e2]; rfl⟩
 refine⟨0,?_,fun _=>by decide,by rw[Xn]⟩
 rw[V4 (by omega),V4 (by omega)]; rfl
def sY{a:XB Nat}{k e d:Nat}:(a++e::List.replicate k 0).set a.length d=(a++[d])++List.replicate k 0:=by
 rw[List.set_append_right _ _ (Ua _),V2,List.set_cons_zero,Vq]; rfl
def ph(a:XB Nat)(d:Nat):vl (a++[d])=vl a+wp a.length*d:=by rw[lI,dE,gZ]; rfl
def LM{n:Nat}{l k:XB Nat}(hl:Wd l)(hk:Wd k)(hb:l.length<1073741824)(hb':k.length<1073741824)(hn:l.length<n)(hn':k.length<n) :
  ∃r,J8 n l k=some r/\Wd r/\vl r=vl l+vl k/\r.length<=l.length+k.length+1:=by
 have key:∀a b:XB Nat,Wd a->Wd b->a.length<1073741824->b.length<=a.length->a.length<n->∃r,(gd (decide (0<=WQ ((a.length:Int)+1))) (gd (lim ((WQ ((a.length:Int)+1)).toNat)) (
   ob (bN (oF n a b) n ((List.replicate (WQ ((a.length:Int)+1)).toNat (0:Nat)),(WQ ((a.length:Int)+1)).toNat,0,0)) fun(l2,n2,v0) =>
   gd (bB (a.length:Int) n2) (ob (l2[(a.length:Int).toNat]?) fun x3=>some (l2.set ((a.length:Int).toNat) v0)))))=some r/\Wd r/\vl r=vl a+vl b/\r.length=a.length+1:=by
  intro a b ha h0 hba hab hna;have w1:WQ ((a.length:Int)+1)=((a.length+1:Nat):Int):=by rw[aA (by omega) (by omega)]; rfl
  have hL:∀j i m p c,i+j=a.length->j<m->p.length=i->Wd p->c<=1->vl p+wp i*(c+vl (a.drop i)+vl (b.drop i))=vl a+vl b ->
    ∃q c',bN (oF n a b) m (p++List.replicate (j+1) 0,a.length+1,c,((i:Nat):Int))=some (q++[0],a.length+1,c')/\q.length=a.length/\Wd q/\c'<=1/\vl q+wp a.length*c'=vl a+vl b:=by
   intro j
   induction j with
   | zero =>
    intro i m p c hij hm hp wp' hc hv;obtain⟨m,rfl⟩:∃m',m=m'+1:=⟨m-1,by omega⟩
    have hi:i=a.length:=by omega
    refine⟨p,c,bI ?_,by omega,wp',hc,?_⟩
    unfold oF
    dsimp only
    rw[Xn]; rfl
    subst hi;rw[Wr,V4 (by omega),gZ] at hv
    simpa using hv
   | succ j ih =>
    intro i m p c hij hm hp wp' hc hv;obtain⟨m,rfl⟩:∃m',m=m'+1:=⟨m-1,by omega⟩
    have hi:i<a.length:=by omega
    obtain⟨x,e2⟩:∃x,a[i]? = some x:=⟨a[i],by simp[hi]⟩
    have hx:=ha.at e2;obtain⟨y,y1,y2,y3⟩:=vN b i;have y2:=y2 h0;have e0:(p++List.replicate (j+1+1) 0)[((i:Nat):Int).toNat]? = some 0:=by
     rw[T5,UJ (by omega),Vu]; simp; omega
    have st:oF n a b (p++List.replicate (j+1+1) 0,a.length+1,c,((i:Nat):Int))=some (.inl ((p++[(x+y+c)%18446744073709551616])++List.replicate (j+1) 0,a.length+1,(x+y+c)/18446744073709551616,((i+1:Nat):Int))):=by
     unfold oF
     dsimp only
     rw[Xm,ak hi,ay,T5,e2,ab]
     rw[T5] at y3 e0;rw[y3,ab];unfold Gs;rw[dI hc,ab]
     dsimp only
     rw[ak (show i<a.length+1 by omega),ay,e0,ab,Xo,<-hp,Vl,sY]
    rw[bO st];refine ih (i+1) m _ _ (by omega) (by omega) (by rw[Uf,hp]; rfl) (wp'.app (Wd.one (UX _ (by decide)))) (by omega) ?_
    rw[<-hv,ph,hp,ik,iY e2,y1];have h1:∀s:Nat,s=s%18446744073709551616+18446744073709551616*(s/18446744073709551616):=fun s=>(Nat.mod_add_div s _).symm;have h2:=h1 (x+y+c);generalize(x+y+c)%18446744073709551616=lo at h2 ⊢;generalize(x+y+c)/18446744073709551616=hi' at h2 ⊢;have h3:c+(x+18446744073709551616*vl (a.drop (i+1)))+(y+18446744073709551616*vl (b.drop (i+1)))=lo+18446744073709551616*(hi'+vl (a.drop (i+1))+vl (b.drop (i+1))):=by omega
    rw[h3,Vj (wp i),Un (wp i),<-Uv,V9,V9]
  obtain⟨q,c',h1,h2,h3,h4,h5⟩:=hL a.length 0 n [] 0 (by omega) hna rfl Wd.nil (by omega) (by simp[vl,wp])
  refine⟨q++[c'],?_,h3.app (Wd.one (by omega)),by rw[ph,h2,h5],by rw[Uf,h2]; rfl⟩
  rw[w1,dI (by omega)]
  have hlim:lim ((a.length+1:Nat):Int).toNat=true:=p8 (by omega)
  rw[hlim,ay,T5];rw[show(List.replicate (a.length+1) (0:Nat),a.length+1,(0:Nat),(0:Int))=(([]:XB Nat)++List.replicate (a.length+1) 0,a.length+1,0,((0:Nat):Int)) from rfl,h1,ab]
  dsimp only
  rw[ak (Vp _),ay,T5,<-h2,UJ (Ua _),V2];rw[show([0]:XB Nat)[0]? = some 0 from rfl,ab,List.set_append_right _ _ (Ua _),V2]
  rfl
 unfold J8
 by_cases h:l.length<k.length
 rw[Xm,ab]
 obtain⟨r,h1,h2,h3,h4⟩:=key k l hk hl hb' (VN h) hn';exact⟨r,h1,h2,by omega,by omega⟩
 rw[Xn,ab]
 obtain⟨r,h1,h2,h3,h4⟩:=key l k hl hk hb (by omega) hn
 exact⟨r,h1,h2,h3,by omega⟩
def DQ{n:Nat}{l k:XB Nat}(hl:Wd l)(hk:Wd k)(ll:∀d,l.getLast? = some d->d≠0)(lk:∀d,k.getLast? = some d->d≠0)(hb:l.length<1073741824)(hb':k.length<1073741824)(hn:l.length<n) :
  ∃r:Int,F9 n l k=some r/\(r<0↔vl l<vl k)/\(0<r↔vl k<vl l):=by
 have big:∀a b:XB Nat,Wd a->(∀d,b.getLast? = some d->d≠0)->a.length<b.length->vl a<vl b:=by
  intro a b ha hb h;have h1:=iQ ha;have h2:=jG hb (by intro e; rw[e] at h; exact Wv _ h)
  have h3:wp a.length<=wp (b.length-1):=Up (by decide) (by omega)
  omega
 unfold F9
 by_cases h:l.length=k.length
 ·rw[Ud (show(l.length:Int)=(k.length:Int) by omega),Uj,bK]
  have hL:∀i m,i<=l.length->i<m->vl (l.drop i)=vl (k.drop i)->∃r,bN (lL n l k) m ((i:Int)-1)=some r /\
    ((r=.inl (-1)/\vl l<vl k)\/(r=.inl 1/\vl k<vl l)\/(r=.inr ()/\vl l=vl k)):=by
   intro i
   induction i with
   | zero =>
    intro m _ hm h0;obtain⟨m,rfl⟩:∃m',m=m'+1:=⟨m-1,by omega⟩
    refine⟨.inr (),bI ?_,.inr (.inr ⟨rfl,by simpa using h0⟩)⟩
    unfold lL;rw[aC (by decide)]
   | succ i ih =>
    intro m hi hm h0;obtain⟨m,rfl⟩:∃m',m=m'+1:=⟨m-1,by omega⟩
    obtain⟨x,e2⟩:∃x,l[i]? = some x:=⟨l[i],by simp⟩
    obtain⟨y,e3⟩:∃y,k[i]? = some y:=⟨k[i],by simp⟩
    have a1:=iY e2;have a2:=iY e3;have a3:=du l i (by omega)
    have a4:=du k i (by omega)
    have t1:=iQ (hl.take i);have t2:=iQ (hk.take i);rw[U0,US (by omega)] at t1 t2
    have e0:((i+1:Nat):Int)-1=((i:Nat):Int):=by omega
    rw[e0];rcases Nat.lt_trichotomy x y with hxy|hxy|hxy
    refine⟨.inl (-1),bI ?_,.inl ⟨rfl,?_⟩⟩
    unfold lL;rw[Xm,ak (by omega),ay,T5,e2,ab,ak (by omega),ay,e3,ab,az hxy]
    have:wp i*(vl (l.drop i)+1)<=wp i*vl (k.drop i):=Vb _ (by omega)
    rw[Vj] at this;omega
    have st:lL n l k ((i:Nat):Int)=some (.inl (((i:Nat):Int)-1)):=by
     unfold lL;rw[Xm,ak (by omega),ay,T5,e2,ab,ak (by omega),ay,e3,ab,Xn,ay,ay,Xn,aA (by omega) (by omega)]
    rw[bO st];exact ih m (by omega) (by omega) (by omega)
    refine⟨.inl 1,bI ?_,.inr (.inl ⟨rfl,?_⟩)⟩
    unfold lL;rw[Xm,ak (by omega),ay,T5,e2,ab,ak (by omega),ay,e3,ab,Xn,ay,ay,az hxy]
    have:wp i*(vl (k.drop i)+1)<=wp i*vl (l.drop i):=Vb _ (by omega)
    rw[Vj] at this;omega
  obtain⟨r,h1,h2⟩:=hL l.length n (Ua _) hn (by rw[Wr,h,Wr])
  rw[aA (by omega) (by omega),h1,ab]
  rcases h2 with⟨rfl,h2⟩|⟨rfl,h2⟩|⟨rfl,h2⟩
  exact⟨-1,rfl,by omega,by omega⟩
  exact⟨1,rfl,by omega,by omega⟩
  exact⟨0,rfl,by omega,by omega⟩
 rw[Um (show ¬(l.length:Int)=(k.length:Int) by omega),Uw,cx]
 refine⟨_,rfl,?_,?_⟩<;>rw[aA (by omega) (by omega)]
 refine⟨fun h1=>big l k hl lk (by omega),fun h1=>?_⟩
 by_cases h2:l.length<k.length
 omega
 have:=big k l hk ll (by omega); omega
 refine⟨fun h1=>big k l hk ll (by omega),fun h1=>?_⟩
 by_cases h2:k.length<l.length
 omega
 have:=big l k hl lk (by omega); omega
def xj{n:Nat}{l k:XB Nat}(hl:Wd l)(hk:Wd k)(hle:vl k<=vl l)(hlk:k.length<=l.length)(hb:l.length<1073741824)(hn:l.length<n) :
  ∃r,GQ n l k=some r/\Wd r/\vl r=vl l-vl k/\r.length=l.length:=by
 have hL:∀j i m p c,i+j=l.length->j<m->p.length=i->Wd p->c<=1->vl p+wp i*vl (l.drop i)+vl k=vl l+wp i*(c+vl (k.drop i)) ->
   ∃q c',bN (qd n l k) m (p++List.replicate j 0,c,((i:Nat):Int))=some q/\q.length=l.length/\Wd q/\c'<=1/\vl q+vl k=vl l+wp l.length*c':=by
  intro j
  induction j with
  | zero =>
   intro i m p c hij hm hp wp' hc hv;obtain⟨m,rfl⟩:∃m',m=m'+1:=⟨m-1,by omega⟩
   have hi:i=l.length:=by omega
   refine⟨p,c,bI ?_,by omega,wp',hc,?_⟩
   unfold qd
   dsimp only
   rw[Xn,List.replicate_zero,Vc]
   subst hi;rw[Wr,V4 (by omega),gZ] at hv
   simpa using hv
  | succ j ih =>
   intro i m p c hij hm hp wp' hc hv;obtain⟨m,rfl⟩:∃m',m=m'+1:=⟨m-1,by omega⟩
   have hi:i<l.length:=by omega
   obtain⟨x,e2⟩:∃x,l[i]? = some x:=⟨l[i],by simp[hi]⟩
   have hx:=hl.at e2;obtain⟨y,y1,y2,y3⟩:=vN k i;have y2:=y2 hk;have e3:(p++List.replicate (j+1) 0)[((i:Nat):Int).toNat]? = some 0:=by
    rw[T5,UJ (by omega),Vu]; simp; omega
   have st:qd n l k (p++List.replicate (j+1) 0,c,((i:Nat):Int))=some (.inl ((p++[(x+18446744073709551616-y-c)%18446744073709551616])++List.replicate j 0,if x<y+c then 1 else 0,((i+1:Nat):Int))):=by
    unfold qd
    dsimp only
    rw[Xm,ak hi,ay,T5,e2,ab]
    rw[T5] at y3 e3;rw[y3,ab];unfold HI;rw[dI hc,ab]
    dsimp only
    rw[T5,ak hi,ay,e3,ab,Xo,<-hp,Vl,sY]
   rw[bO st];refine ih (i+1) m _ _ (by omega) (by omega) (by rw[Uf,hp]; rfl) (wp'.app (Wd.one (UX _ (by decide)))) (by split<;>omega) ?_
   rw[iY e2,y1] at hv;rw[ph,hp,ik];have h2:(x+18446744073709551616-y-c)%18446744073709551616+y+c=x+18446744073709551616*(if x<y+c then 1 else 0):=by split<;>omega
   generalize(x+18446744073709551616-y-c)%18446744073709551616=lo at h2 ⊢;generalize(if x<y+c then 1 else 0)=hi' at h2 ⊢
   generalize vl (l.drop (i+1))=A at hv ⊢;generalize vl (k.drop (i+1))=D at hv ⊢;have h3:wp i*(lo+y+c)=wp i*(x+18446744073709551616*hi'):=by rw[h2]
   simp only[Vj,Un (wp i) 18446744073709551616,Uv] at hv h3 ⊢;omega
 obtain⟨q,c',h1,h2,h3,h4,h5⟩:=hL l.length 0 n [] 0 (by omega) hn rfl Wd.nil (by omega) (by simp[vl,wp])
 refine⟨q,?_,h3,?_,h2⟩
 unfold GQ;rw[dI (by omega),T5,p8 (by omega),ay]
 rw[show(List.replicate l.length (0:Nat),(0:Nat),(0:Int))=(([]:XB Nat)++List.replicate l.length 0,0,((0:Nat):Int)) from rfl,h1,ab]
 have h6:=iQ h3;rw[h2] at h6;have:c'=0:=by
  rcases Nat.le_one_iff_eq_zero_or_eq_one.1 h4 with e|e
  exact e
  rw[e] at h5; omega
 rw[this] at h5;omega
def zQ(s:Bool):uT s 0=0:=by cases s<;>rfl
def zr{n:Nat}{a b:Int}{s t:Bool}{l k:XB Nat}(h:Lg a s l)(h':Lg b t k)(hb:l.length<1000000)(hb':k.length<1000000)(hn:l.length+k.length+1<n) :
  ∃u m,xW n s l t k=some (u,m)/\Lg (a+b) u m:=by
 have av:=h.val;have bv:=h'.val;unfold xW
 by_cases e:s=t
 subst e;rw[beq_self_eq_true,cx];obtain⟨r,r1,r2,r3,r4⟩:=LM (n:=n) h.wd h'.wd (by omega) (by omega) (by omega) (by omega)
 obtain⟨u,m,m1,m2⟩:=fh (n:=n) s r2 (by omega) (by omega)
 refine⟨u,m,by rw[r1,ab,m1]; rfl,?_⟩
 have:a+b=uT s (vl r):=by rw[av,bv,r3]; unfold uT; cases s<;>simp<;>omega
 rw[this]; exact m2
 have:(s==t)=false:=by cases s<;>cases t<;>simp_all
 rw[this,bK];obtain⟨r,r1,r2,r3⟩:=DQ (n:=n) h.wd h'.wd h.last h'.last (by omega) (by omega) (by omega)
 have ht:t = !s:=by cases s<;>cases t<;>simp_all
 have longer:∀p q:XB Nat,Wd p->Wd q->(∀d,p.getLast? = some d->d≠0)->(∀d,q.getLast? = some d->d≠0)->vl p<=vl q->p.length<=q.length:=by
  intro p q wp1 wq1 lp lq hle;refine Nat.le_of_not_lt fun hlt=>?_;have h1:=iQ wq1;have h2:=jG lp (by intro e; rw[e] at hlt; exact Wv _ hlt)
  have h3:wp q.length<=wp (p.length-1):=Up (by decide) (by omega)
  omega
 rw[r1,ab]
 by_cases hr:r<0
 have hv:=r2.1 hr;obtain⟨m,m1,m2,m3,m4⟩:=xj (n:=n) h'.wd h.wd (VN hv) (longer _ _ h.wd h'.wd h.last h'.last (VN hv)) (by omega) (by omega)
 obtain⟨u,m',u1,u2⟩:=fh (n:=n) t m2 (by omega) (by omega)
 refine⟨u,m',by rw[az hr,ab]; dsimp only; rw[m1,ab,u1]; rfl,?_⟩
 have:a+b=uT t (vl m):=by rw[av,bv,m3,ht]; unfold uT; cases s<;>simp<;>omega
 rw[this]; exact u2
 have hv:vl k<=vl l:=Nat.le_of_not_lt fun h=>hr (r2.2 h);obtain⟨m,m1,m2,m3,m4⟩:=xj (n:=n) h.wd h'.wd hv (longer _ _ h'.wd h.wd h'.last h.last hv) (by omega) (by omega)
 obtain⟨u,m',u1,u2⟩:=fh (n:=n) s m2 (by omega) (by omega)
 refine⟨u,m',by rw[aC hr,ab]; dsimp only; rw[m1,ab,u1]; rfl,?_⟩
 have:a+b=uT s (vl m):=by rw[av,bv,m3,ht]; unfold uT; cases s<;>simp<;>omega
 rw[this]; exact u2
def EW{n:Nat}{a:Int}{s:Bool}{l:XB Nat}(h:Lg a s l)(hb:l.length<1000000)(hn:l.length<n):∃u m,A4 n s l=some (u,m)/\Lg (-a) u m:=by
 obtain⟨u,m,m1,m2⟩:=fh (n:=n) (!s) h.wd (by omega) hn
 refine⟨u,m,by unfold A4; rw[m1]; rfl,?_⟩
 have : -a=uT (!s) (vl l):=by rw[h.val]; unfold uT; cases s<;>simp
 rw[this]; exact m2
def Lg.len{a:Int}{s:Bool}{l:XB Nat}(h:Lg a s l){k:Nat}(hk:a.natAbs<wp k):l.length<=k:=by
 refine Nat.le_of_not_lt fun hlt=>?_;have h2:=jG h.last (by intro e; rw[e] at hlt; exact Wv _ hlt)
 have h3:wp k<=wp (l.length-1):=Up (by decide) (by omega)
 have:=h.abs;omega
def Lg.up{a:Int}{s:Bool}{l:XB Nat}(h:Lg a s l):a.natAbs<wp l.length:=by
 rw[<-h.abs]; exact iQ h.wd
def yw{n:Nat}{a b:Int}{s t:Bool}{l k:XB Nat}(h:Lg a s l)(h':Lg b t k)(hb:l.length<1000000)(hb':k.length<1000000)(hn:l.length+k.length+1<n) :
  ∃u m,Jh n s l t k=some (u,m)/\Lg (a-b) u m:=by
 obtain⟨u,m,m1,m2⟩:=EW (n:=n) h' hb' (by omega)
 have hm:m.length<=k.length:=m2.len (by rw[Int.natAbs_neg]; exact h'.up)
 obtain⟨v,q,q1,q2⟩:=zr (n:=n) h m2 hb (by omega) (by omega)
 exact⟨v,q,by unfold Jh; rw[m1,ab]; dsimp only; rw[q1]; rfl,q2⟩
def qz{n:Nat}{a:Int}{s:Bool}{l:XB Nat}(h:Lg a s l):∃r,Nf n s l=some r/\(r<0↔a<0)/\(r=0↔a=0):=by
 have h1:=h.IA;have h2:=h.R9;unfold Nf;cases s with
 | true =>
  have:=of_decide_eq_true h1.symm;exact⟨-1,rfl,by omega,by omega⟩
 | false =>
  have:=of_decide_eq_false h1.symm;rw[bK]
  by_cases hl:l=[]
  subst hl;have:=h2.1 rfl;exact⟨0,rfl,by omega,by omega⟩
  have:¬a=0:=fun e=>hl (h2.2 e);have:¬(l.length:Int)=0:=fun e=>hl (Vv (by omega))
  rw[aC this];exact⟨1,rfl,by omega,by omega⟩
def Ba{a:Nat}(ha:a<18446744073709551616):uw .u64 (uw .u64 a &&& uw .u64 4294967295)=a%4294967296:=by
 rw[G4 ha (by decide)]
 exact Nat.and_two_pow_sub_one_eq_mod a 32
def Hk(a:Nat):dh .u64 a 32=a/4294967296:=rfl
def ry{a:Nat}(h:a<18446744073709551616):uw .u64 a=a:=UG h
def Mn(n:Nat){x y:Nat}(hx:x<18446744073709551616)(hy:y<18446744073709551616):J0 n x y=some (x*y/18446744073709551616,x*y%18446744073709551616):=by
 obtain⟨b1,b2,b3,hhi⟩:=Lib.mul64_hi x y hx hy;have ba:=Lib.half_mul_le (a:=x/4294967296) (b:=y/4294967296) (by omega) (by omega)
 have bb:=Lib.half_mul_le (a:=x/4294967296) (b:=y%4294967296) (by omega) (by omega)
 have bc:=Lib.half_mul_le (a:=x%4294967296) (b:=y/4294967296) (by omega) (by omega)
 unfold J0;simp only[Ba hx,Ba hy,Hk,ab];rw[ry b1,ry (a:=x/4294967296*(y%4294967296)) (by omega)]
 rw[ry b2,Ba b2,ry (a:=x%4294967296*(y/4294967296)) (by omega),ry b3,ry (a:=x/4294967296*(y/4294967296)) (by omega)]
 rw[ry (a:=x/4294967296*(y/4294967296)+_) (by omega),ry (by omega),hhi]
 rfl
def Kp{n:Nat}{k:XB Nat}(hk:Wd k){x i N:Nat}(hx:x<18446744073709551616)(hN:i+k.length<N)(hNb:N<4611686018427387904){b:XB Nat}(hb:Wd b)(hbN:b.length=N) :
  ∀r j m cur c,j+r=k.length->r<m->Wd cur->cur.length=N->c<18446744073709551616->(∀p,i+k.length<=p->cur[p]? = b[p]?) ->
   vl cur+wp (i+j)*c+wp (i+j)*(x*vl (k.drop j))=vl b+wp i*(x*vl k) ->
   ∃q c',bN (qE n k x (i:Int) N) m (cur,c,((j:Nat):Int))=some (q,c')/\Wd q/\q.length=N/\c'<18446744073709551616/\(∀p,i+k.length<=p->q[p]? = b[p]?)/\vl q+wp (i+k.length)*c'=vl b+wp i*(x*vl k):=by
 intro r
 induction r with
 | zero =>
  intro j m cur c hj hm hw hl hc hp hv;obtain⟨m,rfl⟩:∃m',m=m'+1:=⟨m-1,by omega⟩
  have hj':j=k.length:=by omega
  refine⟨cur,c,bI ?_,hw,hl,hc,hp,?_⟩
  unfold qE
  dsimp only
  rw[Xn]
  rw[<-hv,hj',Wr,gZ]; omega
 | succ r ih =>
  intro j m cur c hj hm hw hl hc hp hv;obtain⟨m,rfl⟩:∃m',m=m'+1:=⟨m-1,by omega⟩
  have hi:j<k.length:=by omega
  obtain⟨y,e2⟩:∃y,k[j]? = some y:=⟨k[j],by simp[hi]⟩
  have hy:=hk.at e2;obtain⟨d,e3⟩:∃d,cur[i+j]? = some d:=⟨cur[i+j]'(by omega),by simp⟩
  have hd:=hw.at e3;have hxy:x*y<=18446744073709551615*18446744073709551615:=UO (by omega) (by omega)
  have w1:WQ ((i:Int)+((j:Nat):Int))=((i+j:Nat):Int):=by rw[aA (by omega) (by omega)]; omega
  have st:qE n k x (i:Int) N (cur,c,((j:Nat):Int))=some (.inl (cur.set (i+j) ((x*y+d+c)%18446744073709551616),(x*y+d+c)/18446744073709551616,((j+1:Nat):Int))):=by
   unfold qE
   dsimp only
   rw[Xm,ak hi,ay,T5,e2,ab,Mn n hx hy,ab]
   dsimp only
   rw[w1,ak (by omega),ay,T5,e3,ab]
   unfold Gs;rw[dI (by omega),ab]
   dsimp only
   rw[dI (by omega),ab]
   dsimp only
   rw[ay,Xo,ry (a:=x*y/18446744073709551616+_) (by omega),ry (by omega)]
   congr 3
   congr 1; omega
   congr 1; omega
  rw[bO st];refine ih (j+1) m _ _ (by omega) (by omega) (hw.set (UX _ (by decide))) (by rw[Vh]; exact hl) (by omega) (fun p hp'=>by rw[U3 (by omega)]; exact hp p hp') ?_
  rw[iY e2] at hv;have hs:=tB ((x*y+d+c)%18446744073709551616) e3;rw[<-hv,<-V9 i j 1,ik];have h2:(x*y+d+c)%18446744073709551616+18446744073709551616*((x*y+d+c)/18446744073709551616)=x*y+d+c:=Nat.mod_add_div _ _;generalize(x*y+d+c)%18446744073709551616=lo at h2 hs ⊢;generalize(x*y+d+c)/18446744073709551616=hi' at h2 ⊢;generalize vl (k.drop (j+1))=A at hv ⊢;generalize vl (cur.set (i+j) lo)=Z at hs ⊢;have h3:wp (i+j)*(lo+18446744073709551616*hi')=wp (i+j)*(x*y+d+c):=by rw[h2]
  simp only[Vj,Un (wp (i+j)) 18446744073709551616,Un x 18446744073709551616,Uv] at hs h3 ⊢;omega
def Mb{n:Nat}{l k:XB Nat}(hl:Wd l)(hk:Wd k)(hb:l.length<500000000)(hb':k.length<500000000)(hn:l.length<n)(hn':k.length<n) :
  ∃r,G0 n l k=some r/\Wd r/\vl r=vl l*vl k/\r.length=l.length+k.length:=by
 have hL:∀r i m b,i+r=l.length->r<m->Wd b->b.length=l.length+k.length->(∀p,i+k.length<=p->p<l.length+k.length->b[p]? = some 0) ->
   vl b+wp i*(vl (l.drop i)*vl k)=vl l*vl k ->
   ∃q,bN (qL n l k) m (b,l.length+k.length,((i:Nat):Int))=some (q,l.length+k.length)/\Wd q/\q.length=l.length+k.length/\vl q=vl l*vl k:=by
  intro r
  induction r with
  | zero =>
   intro i m b hi hm hw hlen _ hv;obtain⟨m,rfl⟩:∃m',m=m'+1:=⟨m-1,by omega⟩
   have hi':i=l.length:=by omega
   refine⟨b,bI ?_,hw,hlen,?_⟩
   unfold qL
   dsimp only
   rw[Xn]
   rw[<-hv,hi',Wr,gZ]; simp
  | succ r ih =>
   intro i m b hi hm hw hlen hz hv;obtain⟨m,rfl⟩:∃m',m=m'+1:=⟨m-1,by omega⟩
   have hi':i<l.length:=by omega
   obtain⟨x,e2⟩:∃x,l[i]? = some x:=⟨l[i],by simp⟩
   have hx:=hl.at e2;obtain⟨q,c,q1,q2,q3,q4,q5,q6⟩:=Kp (n:=n) (i:=i) hk hx (N:=l.length+k.length) (by omega) (by omega) hw hlen k.length 0 n b 0 (by omega) hn' hw hlen (by decide) (fun _ _=>rfl) (by simp)
   have e3:q[i+k.length]? = some 0:=by rw[q5 _ (Ua _)]; exact hz _ (Ua _) (by omega)
   have w1:WQ ((i:Int)+(k.length:Int))=((i+k.length:Nat):Int):=by rw[aA (by omega) (by omega)]; omega
   have st:qL n l k (b,l.length+k.length,((i:Nat):Int))=some (.inl (q.set (i+k.length) c,l.length+k.length,((i+1:Nat):Int))):=by
    unfold qL
    dsimp only
    rw[Xm,ak hi',ay,T5,e2,ab]
    rw[show((0:Int))=((0:Nat):Int) from rfl,q1,ab]
    dsimp only
    rw[w1,ak (by omega),ay,T5,e3,ab,Xo]
   rw[bO st];refine ih (i+1) m _ (by omega) (by omega) (q2.set q4) (by rw[Vh]; exact q3) (fun p h1 h2=>by rw[U3 (by omega),q5 p (by omega)]; exact hz p (by omega) h2) ?_
   have hs:=tB c e3;rw[iY e2] at hv;rw[<-hv,ik];generalize vl (q.set (i+k.length) c)=Z at hs ⊢;generalize vl (l.drop (i+1))=A at hv ⊢;have h4:wp i*((x+18446744073709551616*A)*vl k)=wp i*(x*vl k)+18446744073709551616*wp i*(A*vl k):=by
    simp only[UR,Vj,Uv,Un (wp i) 18446744073709551616]
   rw[h4];omega
 unfold G0;have w1:WQ ((l.length:Int)+(k.length:Int))=((l.length+k.length:Nat):Int):=by rw[aA (by omega) (by omega)]; omega
 obtain⟨q,q1,q2,q3,q4⟩:=hL l.length 0 n (List.replicate (l.length+k.length) 0) (by omega) hn (Wd.zeros _) (by simp) (fun p _ h2=>by rw[Vu]; simp[h2]) (by rw[jM,Ln]; simp)
 refine⟨q,?_,q2,q4,q3⟩;rw[w1,dI (by omega),T5,p8 (by omega),ay]
 rw[show((0:Int))=((0:Nat):Int) from rfl,q1]
 rfl
def Ka{n:Nat}{a b:Int}{s t:Bool}{l k:XB Nat}(h:Lg a s l)(h':Lg b t k)(hb:l.length<1000000)(hb':k.length<1000000)(hn:l.length+k.length<n) :
  ∃u m,Ec n s l t k=some (u,m)/\Lg (a*b) u m:=by
 obtain⟨r,r1,r2,r3,r4⟩:=Mb (n:=n) h.wd h'.wd (by omega) (by omega) (by omega) (by omega)
 obtain⟨u,m,m1,m2⟩:=fh (n:=n) (!(s==t)) r2 (by omega) (by omega)
 refine⟨u,m,by unfold Ec; rw[r1,ab,m1]; rfl,?_⟩
 have:a*b=uT (!(s==t)) (vl r):=by
  rw[h.val,h'.val,r3]; unfold uT;cases s<;>cases t<;>simp[Int.neg_mul,Int.mul_neg]
 rw[this]; exact m2
def yZ{a b:Nat}(ha:a<18446744073709551616)(h:b<=a):jj .u64 a b=a-b:=by
 show(a+(18446744073709551616-b%18446744073709551616))%18446744073709551616=a-b
 omega
def FU(n0:Nat){u y1 y0 d:Nat}(h1:2147483648<=y1)(h1':y1<4294967296)(h0:y0<4294967296)(hd:d<4294967296){Q:Nat}(le_iff:∀p,p<=Q↔p*y1*4294967296+p*y0<=u*4294967296+d)(hQb:Q<4294967296) :
  ∀k r q m,4294967296<=r+k*2147483648->k<m->q*y1+r=u->Q<=q->q<=4294967297->r<4294967296->bN (fS n0 d y0 y1) m (r,q)=some Q:=by
 intro k
 induction k with
 | zero=>intro r q m hk _ _ _ _ hr; omega
 | succ k ih =>
  intro r q m hk hm hq hQ hqb hr;obtain⟨m,rfl⟩:∃m',m=m'+1:=⟨m-1,by omega⟩
  by_cases hT:4294967296<=q\/4294967296*r+d<q*y0
  have hlt:Q<q:=by
   rcases hT with hT|hT
   omega
   refine Nat.lt_of_not_le fun h=>?_;rw[le_iff] at h;omega
  obtain⟨p,rfl⟩:∃p,q=p+1:=⟨q-1,by omega⟩
  rw[UR,Wb] at hq;have test:(br (decide (4294967296<=p+1)) (some true) (some (decide (uw .u64 ((uw .u64 (4294967296*r))+d)<uw .u64 ((p+1)*y0)))))=some true:=by
   by_cases hb:4294967296<=p+1
   rw[az hb]
   have h2:(p+1)*y0<=4294967295*4294967295:=UO (by omega) (by omega)
   rw[aC hb,ry (a:=4294967296*r) (by omega),ry (by omega),ry (by omega),Ud (by omega)]
  have sb:jj .u64 (p+1) 1=p:=yZ (by omega) (by omega)
  by_cases hb:4294967296<=r+y1
  have st:fS n0 d y0 y1 (r,p+1)=some (.inr p):=by
   unfold fS
   dsimp only
   rw[test,ab,cx,ry (a:=r+y1) (by omega),az hb,sb]
  rw[bI st];have h2:p*y0<=4294967296*4294967295:=UO (by omega) (by omega)
  have h3:p<=Q:=by rw[le_iff]; omega
  rw[show p=Q by omega]
  have st:fS n0 d y0 y1 (r,p+1)=some (.inl (r+y1,p)):=by
   unfold fS
   dsimp only
   rw[test,ab,cx,ry (a:=r+y1) (by omega),aC hb,sb]
  rw[bO st];exact ih (r+y1) p m (by omega) (by omega) (by omega) (by omega) (by omega) (by omega)
  have hq2:q<4294967296:=by omega
  have h2:q*y0<=4294967295*4294967295:=UO (by omega) (by omega)
  have st:fS n0 d y0 y1 (r,q)=some (.inr q):=by
   unfold fS
   dsimp only
   rw[Xn,ry (a:=4294967296*r) (by omega),ry (by omega),ry (by omega),ab,Xn]
  rw[bI st];have h3:q<=Q:=by rw[le_iff]; omega
  rw[show q=Q by omega]
def Gn(n0 y s y1 y0 d e:Nat):∀m q r,bN (tY n0) m (y,s,y1,y0,d,e,q,r)=(bN (fS n0 d y0 y1) m (r,q)).map fun q=>(y,s,y1,y0,d,e,q):=by
 intro m
 induction m with
 | zero=>intro q r; rfl
 | succ m ih =>
  intro q r;have a:∀b,(br b (br (decide (4294967296<=uw .u64 (r+y1))) (some (.inr (y,s,y1,y0,d,e,jj .u64 q 1))) (some (.inl (y,s,y1,y0,d,e,jj .u64 q 1,uw .u64 (r+y1))))) (some (.inr (y,s,y1,y0,d,e,q))):XA (XO ⊕(Nat×Nat×Nat×Nat×Nat×Nat×Nat))) =
   (br b (br (decide (4294967296<=uw .u64 (r+y1))) (some (.inr (jj .u64 q 1))) (some (.inl (uw .u64 (r+y1),jj .u64 q 1)))) (some (.inr q)):XA ((Nat×Nat)⊕Nat)).map fun x=>match x with|.inl (r,q)=>.inl (y,s,y1,y0,d,e,q,r)|.inr q=>.inr (y,s,y1,y0,d,e,q):=by
   intro b;cases b
   rfl
   rw[cx,cx];cases decide (4294967296<=uw .u64 (r+y1))<;>rfl
  have st:tY n0 (y,s,y1,y0,d,e,q,r)=(fS n0 d y0 y1 (r,q)).map fun x=>match x with|.inl (r,q)=>.inl (y,s,y1,y0,d,e,q,r)|.inr q=>.inr (y,s,y1,y0,d,e,q):=by
   unfold tY fS
   dsimp only
   cases(br (decide (4294967296<=q)) (some true) (some (decide (uw .u64 ((uw .u64 (4294967296*r))+d)<uw .u64 (q*y0)))):XA Bool) with
   | none=>rfl
   | some b=>exact a b
  unfold bN;rw[st];cases fS n0 d y0 y1 (r,q) with
  | none=>rfl
  | some x =>
   cases x with
   | inl p=>exact ih p.2 p.1
   | inr p=>rfl
def wT{a b:Nat}(h:b<=a)(hr:a-b<18446744073709551616):jj .u64 (uw .u64 a) (uw .u64 b)=a-b:=by
 show(a%18446744073709551616+(18446744073709551616-b%18446744073709551616%18446744073709551616))%18446744073709551616=a-b
 omega
def Nx{x:Nat}(h0:0<x):2 ^ (bl x-1)<=x/\x<2 ^ bl x/\0<bl x:=by
 have h1:0<bl x:=ta.2 (by simp; omega)
 refine⟨ta.1 (by omega),?_,h1⟩
 exact Nat.lt_of_not_le fun h=>Nat.lt_irrefl _ (ta.2 h)
def sd{a s:Nat}(h:s<=64):gk .u64 a s=uw .u64 (a*2 ^ s):=by
 have:min s (IntKind.bits .u64)=s:=US h;unfold gk;rw[this]
def EZ{a s:Nat}(h:s<=64):dh .u64 a s=a/2 ^ s:=by
 have:min s (IntKind.bits .u64)=s:=US h;unfold dh;rw[this]
def EH{n:Nat}(hn:4<n){u y1 y0 d:Nat}(h1:2147483648<=y1)(h1':y1<4294967296)(h0:y0<4294967296)(hd:d<4294967296)(hu:u<y1*4294967296+y0) :
  bN (fS n d y0 y1) n (jj .u64 u (uw .u64 (uw .u64 (u/y1)*y1)),uw .u64 (u/y1))=some ((u*4294967296+d)/(y1*4294967296+y0)):=by
 have e1:=Vz u y1;have e2:=UX u (show 0<y1 by omega)
 rw[Uo] at e1;have hq:u/y1<=4294967297:=by
  have:u/y1<4294967298:=by rw[U5 (by omega)]; omega
  omega
 rw[ry (a:=u/y1) (by omega),ry (a:=u/y1*y1) (by omega),yZ (by omega) (by omega)]
 have hy:0<y1*4294967296+y0:=by omega
 refine FU n h1 h1' h0 hd (fun p=>by rw[Nat.le_div_iff_mul_le hy,Vj,<-Uv]) (by rw[U5 hy]; omega) 2 _ _ n (by omega) (by omega) (by omega) ?_ hq (by omega)
 have:(u*4294967296+d)/(y1*4294967296+y0)<u/y1+1:=by
  rw[U5 hy,UR,Wb,Vj,<-Uv];omega
 omega
def KL{U w v A B R1 R0 d1 d0:Nat}(hU:U=w*4294967296)(h6:4294967296*d1+d0=v)(h5:A*4294967296+R1*4294967296=(w+d1)*4294967296)(m3:B+R0=R1*4294967296+d0) :
  U+v=R0+(A*4294967296+B):=by
 omega
def QZ(u:Nat):u*18446744073709551616=u*4294967296*4294967296:=by rw[Uv]
def MD{n:Nat}(hn:4<n){x1 x2 x3:Nat}(h1:x1<x3)(h2:x2<18446744073709551616)(h3:x3<18446744073709551616) :
  ID n x1 x2 x3=some ((x1*18446744073709551616+x2)/x3,(x1*18446744073709551616+x2)%x3):=by
 unfold ID;rw[Xn,Xn]
 by_cases hz:x1=0
 subst hz;rw[az rfl,dI (by omega),dI (by omega),ry (U6 (Nat.div_le_self _ _) h2)]
 simp
 rw[aC hz];obtain⟨l1,l2,l3⟩:=Nx (x:=x3) (by omega)
 have l4:bl x3<=64:=Im h3;obtain⟨s,hs⟩:∃s,bl x3+s=64:=⟨64-bl x3,by omega⟩
 have r0:Dc n x3=some ((s:Nat):Int):=by
  unfold Dc;rw[Fl n x3 h3,ab,aA (by omega) (by omega)]
  congr 1
  omega
 have u0:ui .u64 ((s:Nat):Int)=s:=by
  show(((s:Nat):Int)%((2 ^ 64:Nat):Int)).toNat=s
  omega
 have P0:0<2 ^ s:=Nat.two_pow_pos s;have PP:2 ^ s*2 ^ (64-s)=18446744073709551616:=by rw[<-Vs,show s+(64-s)=64 by omega]
 have X1:x3*2 ^ s<18446744073709551616:=by
  have:x3*2 ^ s<2 ^ bl x3*2 ^ s:=Nat.mul_lt_mul_of_pos_right l2 P0;rw[<-Vs,hs] at this;exact this
 have X2:9223372036854775808<=x3*2 ^ s:=by
  have:2 ^ (bl x3-1)*2 ^ s<=x3*2 ^ s:=UF _ l1;rw[<-Vs,show bl x3-1+s=63 by omega] at this
  exact this
 have X3:x1*2 ^ s<x3*2 ^ s:=Nat.mul_lt_mul_of_pos_right h1 P0;have s1:gk .u64 x3 s=x3*2 ^ s:=by
  rw[sd (by omega),ry X1]
 have s2:gk .u64 x1 s=x1*2 ^ s:=by
  rw[sd (by omega),ry (by omega)]
 have s3:gk .u64 x2 s=x2*2 ^ s%18446744073709551616:=by
  rw[sd (by omega)]; rfl
 have t0:dh .u64 x2 (jj .u64 64 s)=x2/2 ^ (64-s):=by
  rw[yZ (by decide) (by omega)]
  rw[EZ (by omega)]
 have t1:x2/2 ^ (64-s)<2 ^ s:=by rw[U5 (Nat.two_pow_pos _),PP]; exact h2
 have t2:x2*2 ^ s/18446744073709551616=x2/2 ^ (64-s):=by rw[<-PP,Uo x2,Nat.mul_div_mul_left _ _ P0]
 have hor:uw .u64 (uw .u64 (x1*2 ^ s) ||| uw .u64 (x2/2 ^ (64-s)))=x1*2 ^ s+x2/2 ^ (64-s):=by
  have h0:x2/2 ^ (64-s)<=x2:=Nat.div_le_self _ _;rw[L5 (show x1*2 ^ s<2 ^ 64 by omega) (show x2/2 ^ (64-s)<2 ^ 64 by omega),<-Nat.shiftLeft_eq,Nat.shiftLeft_add_eq_or_of_lt t1]
 rw[r0,ab,u0,ab,s1,s2,t0,hor,s3];have key:(x1*2 ^ s+x2/2 ^ (64-s))*18446744073709551616+x2*2 ^ s%18446744073709551616=(x1*18446744073709551616+x2)*2 ^ s:=by
  have:=Vz (x2*2 ^ s) 18446744073709551616;rw[t2] at this;rw[UR,UR,Nat.mul_right_comm x1];omega
 have hv:x2*2 ^ s%18446744073709551616<18446744073709551616:=UX _ (by decide)
 have hu:x1*2 ^ s+x2/2 ^ (64-s)<x3*2 ^ s:=by
  have h0:(x1*18446744073709551616+x2)*2 ^ s<(x3*18446744073709551616)*2 ^ s:=Nat.mul_lt_mul_of_pos_right (by omega) P0
  rw[<-key,Nat.mul_right_comm x3] at h0;omega
 have r1:(x1*18446744073709551616+x2)/x3=((x1*18446744073709551616+x2)*2 ^ s)/(x3*2 ^ s):=by rw[Nat.mul_div_mul_right _ _ P0]
 have r3:(x1*18446744073709551616+x2)%x3=(((x1*18446744073709551616+x2)*2 ^ s)%(x3*2 ^ s))/2 ^ s:=by rw[Nat.mul_mod_mul_right,Nat.mul_div_cancel _ P0]
 rw[r1,r3,<-key];have hss:∀R,dh .u64 R s=R/2 ^ s:=fun R=>EZ (by omega)
 clear PP t1 t2 hor key r1 r3 r0 u0 s2 s3 s1 t0 P0 X3 l1 l2 l3 l4 hs;generalize x1*2 ^ s+x2/2 ^ (64-s)=u at hu ⊢;generalize x2*2 ^ s%18446744073709551616=v at hv ⊢;generalize x3*2 ^ s=X at X1 X2 hu ⊢;have hX:X/4294967296*4294967296+X%4294967296=X:=Nat.div_add_mod' _ _;rw[dI (show 0<dh .u64 X 32 by rw[Hk]; omega)]
 simp only[Hk,Ba X1,Ba hv];rw[ab,Gn];rw[EH hn (u:=u) (y1:=X/4294967296) (y0:=X%4294967296) (d:=v/4294967296) (by omega) (by omega) (by omega) (by omega) (by omega),hX]
 have q0:(u*4294967296+v/4294967296)/X<4294967296:=by rw[U5 (by omega)]; omega
 have m1:=Vz (u*4294967296+v/4294967296) X;have m2:=UX (u*4294967296+v/4294967296) (show 0<X by omega)
 rw[Uh,ab]
 dsimp only
 rw[ab,dI (by omega)]
 have e1:uw .u64 (uw .u64 (u*4294967296)+v/4294967296)=uw .u64 (u*4294967296+v/4294967296):=Nat.mod_add_mod _ _ _;rw[Uo X] at m1;rw[e1,wT (by omega) (by omega)]
 have e2:u*4294967296+v/4294967296-(u*4294967296+v/4294967296)/X*X=(u*4294967296+v/4294967296)%X:=by omega
 rw[e2];obtain⟨Q1,hQ1⟩:∃Q,(u*4294967296+v/4294967296)/X=Q:=⟨_,rfl⟩;obtain⟨R1,hR1⟩:∃R,(u*4294967296+v/4294967296)%X=R:=⟨_,rfl⟩;clear e2;rw[hQ1] at q0 m1 ⊢;rw[hR1] at m1 m2 ⊢;rw[EH hn (u:=R1) (y1:=X/4294967296) (y0:=X%4294967296) (d:=v%4294967296) (by omega) (by omega) (by omega) (by omega) (by omega),hX,ab]
 have q1:(R1*4294967296+v%4294967296)/X<4294967296:=by rw[U5 (by omega)]; omega
 have m3:=Vz (R1*4294967296+v%4294967296) X;have m4:=UX (R1*4294967296+v%4294967296) (show 0<X by omega)
 rw[Uo X] at m3;have e0:uw .u64 (uw .u64 (R1*4294967296)+v%4294967296)=uw .u64 (R1*4294967296+v%4294967296):=Nat.mod_add_mod _ _ _;rw[e0,ab,wT (by omega) (by omega)]
 have e3:R1*4294967296+v%4294967296-(R1*4294967296+v%4294967296)/X*X=(R1*4294967296+v%4294967296)%X:=by omega
 rw[e3,hss];obtain⟨Q0,hQ0⟩:∃Q,(R1*4294967296+v%4294967296)/X=Q:=⟨_,rfl⟩;obtain⟨R0,hR0⟩:∃R,(R1*4294967296+v%4294967296)%X=R:=⟨_,rfl⟩;clear e3;rw[hQ0] at q1 m3 ⊢;rw[hR0] at m3 m4 ⊢;rw[ry (a:=Q1*4294967296) (by omega),ry (by omega)]
 clear hQ1 hR1 hQ0 hR0 e1 e0 hss X1 X2 hX q1 q0 m2 hu h1 h2 h3 hz;have fin:u*18446744073709551616+v=R0+(Q1*4294967296+Q0)*X:=by
  have h0:Q1*X*4294967296+R1*4294967296=(u*4294967296+v/4294967296)*4294967296:=by rw[<-m1,UR]
  rw[UR,Nat.mul_right_comm Q1];have h5:=Vz v 4294967296;generalize v/4294967296=d1 at h0 h5;generalize v%4294967296=d0 at m3 h5;generalize Q1*X=A at h0 ⊢;generalize Q0*X=B at m3 ⊢;exact KL (QZ u) h5 h0 m3
 rw[fin,Nat.add_mul_div_right _ _ (show 0<X by omega),Nat.add_mul_mod_self_right,Vy m4,UG m4,UU]
def I3{q:XB Nat}{i e d:Nat}:(List.replicate i 0++e::q).set i d=List.replicate i 0++d::q:=by
 rw[List.set_append_right _ _ (by simp)]
 simp
def Je(i:Nat)(q:XB Nat):List.replicate (i+1) 0++q=List.replicate i 0++0::q:=by
 rw[List.replicate_succ',Vq]; rfl
def Hg{n:Nat}{l:XB Nat}{d:Nat}(hl:Wd l)(hd:d<18446744073709551616)(h0:d≠0)(hb:l.length<1000000)(hn:l.length<n)(hn4:4<n) :
  ∃q t m,AJ n l [d]=some (q,m)/\Wd q/\vl q=vl l/d/\q.length=l.length/\Lg ((vl l%d:Nat):Int) t m/\t=false:=by
 have hL:∀i q r m,i+q.length=l.length->i<m->Wd q->r<d->vl l=vl (l.take i)+wp i*(d*vl q+r) ->
   ∃q' r',bN (qp n l [d]) m (List.replicate i 0++q,r,(i:Int)-1)=some (q',r')/\Wd q'/\q'.length=l.length/\r'<d/\vl l=d*vl q'+r':=by
  intro i
  induction i with
  | zero =>
   intro q r m hi hm hq hr hv;obtain⟨m,rfl⟩:∃m',m=m'+1:=⟨m-1,by omega⟩
   refine⟨q,r,bI ?_,hq,by omega,hr,?_⟩
   unfold qp
   dsimp only
   rw[aC (by decide)]; rfl
   rw[hv]; simp[vl,wp]
  | succ i ih =>
   intro q r m hi hm hq hr hv;obtain⟨m,rfl⟩:∃m',m=m'+1:=⟨m-1,by omega⟩
   have hi':i<l.length:=by omega
   obtain⟨x,e2⟩:∃x,l[i]? = some x:=⟨l[i],by simp⟩
   have hx:=hl.at e2;have e0:((i+1:Nat):Int)-1=((i:Nat):Int):=by omega
   have ht:vl (l.take (i+1))=vl (l.take i)+wp i*x:=by
    rw[List.take_add_one,e2,Option.toList_some,ph,U0,US (VN hi')]
   have e3:(List.replicate (i+1) 0++q)[i]? = some 0:=by rw[U1 (by simp),Vu]; simp
   have hqd:(r*18446744073709551616+x)/d<18446744073709551616:=by
    rw[U5 (by omega),Uo _ d]
    have:(r+1)*18446744073709551616<=d*18446744073709551616:=UF _ hr;omega
   have st:qp n l [d] (List.replicate (i+1) 0++q,r,((i:Nat):Int))=some (.inl (List.replicate i 0++(r*18446744073709551616+x)/d::q,(r*18446744073709551616+x)%d,(i:Int)-1)):=by
    unfold qp
    dsimp only
    rw[Xm,ak hi',ay,T5,e2,ab]
    rw[show bB 0 [d].length=true from rfl,ay,show([d]:XB Nat)[WR]? = some d from rfl,ab,MD hn4 hr hx hd,ab]
    dsimp only
    rw[T5,ak hi',ay,e3,ab,Je,I3,aA (by omega) (by omega)]
   rw[e0,bO st];refine ih _ _ m (by rw[UK]; omega) (by omega) (fun e he=>?_) (UX _ (by omega)) ?_
   rcases UC.1 he with rfl|h
   exact hqd
   exact hq e h
   have h1:=Vz (r*18446744073709551616+x) d;rw[hv,ht,ik,dE];generalize(r*18446744073709551616+x)%d=R at h1 ⊢;generalize(r*18446744073709551616+x)/d=Q at h1 ⊢;have h2:wp i*(d*Q+R)=wp i*(r*18446744073709551616+x):=by rw[h1]
   rw[Uo r] at h2;simp only[Vj,Un (wp i) 18446744073709551616,Un d 18446744073709551616,Uv] at h2 ⊢;omega
 obtain⟨q,r,q1,q2,q3,q4,q5⟩:=hL l.length [] 0 n (by simp) hn Wd.nil (by omega) (by rw[List.take_length,gZ]; simp)
 rw[Vc] at q1;obtain⟨t,m,m1,m2⟩:=fh (n:=n) false (Wd.one (show r<18446744073709551616 by omega)) (by simp) (by simp; omega)
 have hr:vl [r]=r:=by simp[vl]
 rw[hr] at m2;have dq:vl q=vl l/d:=by
  rw[q5,Nat.mul_add_div (by omega),Vy q4]; rfl
 have dr:r=vl l%d:=by
  rw[q5,Nat.mul_add_mod,UG q4]
 refine⟨q,t,m,?_,q2,dq,q3,by rw[<-dr]; exact m2,?_⟩
 unfold AJ;rw[dI (by omega),T5,p8 (by omega),ay,az (show(([d]:XB Nat).length:Int)=1 from rfl),aA (by omega) (by omega),q1,ab]
 dsimp only
 rw[m1]; rfl
 have:=m2.IA;rw[this];simp[uT]
def RB(m:Nat):Me (m+20) 0=some (false,[]):=by rfl
def RC(m:Nat):Me (m+20) 1=some (false,[1]):=by rfl
def Jk{n:Nat}(h:20<=n):Me n 0=some (false,[]):=by obtain⟨m,rfl⟩:∃m,n=m+20:=⟨n-20,by omega⟩; exact RB m
def pO{n:Nat}(h:20<=n):Me n 1=some (false,[1]):=by obtain⟨m,rfl⟩:∃m,n=m+20:=⟨n-20,by omega⟩; exact RC m
def oC:Lg 1 false [1]:=Lg.small (by decide) (by decide) false
def m2(a b:Nat):Nat:=if b=0 then(if a=0 then 0 else 1) else 2
def NJ{r c x:Nat}(hc:c<2 ^ r):c |||(x*2 ^ r)=c+x*2 ^ r:=by
 rw[Nat.or_comm,Uo,<-Nat.two_pow_add_eq_or_of_lt hc,Nat.add_comm]
def sQ(k:Nat):Int.tdiv (k:Int) 64=((k/64:Nat):Int):=by
 rw[Int.tdiv_eq_ediv_of_nonneg (Vi _)]; omega
def Aw(k:Nat):Int.tmod (k:Int) 64=((k%64:Nat):Int):=by
 rw[Int.tmod_eq_emod_of_nonneg (Vi _)]; omega
def zU{a:Nat}(h:a<18446744073709551616):uw .u64 a=a:=UG h
def F6{x r:Nat}(hr:r<64)(hx:x<18446744073709551616) :
  ∃y,uw .u64 (gk .u64 x r)=y*2 ^ r/\y*2 ^ r<18446744073709551616/\y*2 ^ r+18446744073709551616*(x/2 ^ (64-r))=x*2 ^ r/\x/2 ^ (64-r)<2 ^ r/\y*2 ^ r+2 ^ r<=18446744073709551616:=by
 have hp:2 ^ (64-r)*2 ^ r=18446744073709551616:=by rw[<-Vs,Nat.sub_add_cancel (by omega)]
 have h2:0<2 ^ r:=Nat.pow_pos (by decide)
 have h3:0<2 ^ (64-r):=Nat.pow_pos (by decide)
 have hm:=Vz x (2 ^ (64-r));have hml:=UX x h3;have hs:x*2 ^ r=(x%2 ^ (64-r))*2 ^ r+18446744073709551616*(x/2 ^ (64-r)):=by
  rw[<-hp,Uv,Uo (2 ^ r),<-Uv,<-UR,Nat.add_comm,hm]
 have hlt:(x%2 ^ (64-r))*2 ^ r+2 ^ r<=18446744073709551616:=by
  rw[<-hp];have:=UF (2 ^ r) (show x%2 ^ (64-r)+1<=2 ^ (64-r) by omega)
  rw[UR,Wb] at this;exact this
 have hlt':(x%2 ^ (64-r))*2 ^ r<18446744073709551616:=by omega
 refine⟨x%2 ^ (64-r),?_,hlt',hs.symm,?_,hlt⟩
 have hb:min r (IntKind.bits .u64)=r:=US (by show r<=64; omega)
 unfold gk;rw[hb]
 show(x*2 ^ r)%18446744073709551616%18446744073709551616=_
 rw[Nat.mod_mod,hs,Nat.add_mul_mod_self_left,UG hlt']
 rw[U5 h3,Uo,hp]; exact hx
def C1(P:XB Nat)(c:Nat)(z:XB Nat){i:Nat}(hi:i=P.length):(P++c::z)[i]? = some c:=by
 subst hi;rw[UJ (Ua _),V2]; rfl
theorem setP_at(P:List Nat)(c w:Nat)(z:List Nat){i:Nat}(hi:i=P.length):(P++c::z).set i w=P++w::z:=by
 subst hi
 rw[List.set_append_right _ _ (Nat.le_refl _),Nat.sub_self]; rfl
def LD{n k:Nat}{l:XB Nat}(hl:Wd l)(hb:l.length<1000000)(hk:k<64000000)(hn:l.length+k+4<n) :
  ∃t m,Ir n l (k:Int)=some m/\Lg ((vl l*2 ^ k:Nat):Int) t m:=by
 have hr:k%64<64:=UX _ (by decide)
 have hq:k/64<1000000:=by omega
 generalize hqd:k/64=q at hq;generalize hrd:k%64=r at hr;have hkv:2 ^ k=wp q*2 ^ r:=by
  have:k=64*q+r:=by omega
  rw[this,Vs,Wy]; rfl
 have hL:∀j i m P c,i+j=l.length->j<m->P.length=q+i->Wd P->c<2 ^ r->vl P+wp (q+i)*c+wp (q+i)*(2 ^ r*vl (l.drop i))=2 ^ k*vl l ->
   ∃out,bN (qh n l (k:Int)) m (P++c::List.replicate j 0,l.length+q+1,(i:Int))=some (out,l.length+q+1)/\Wd out/\vl out=2 ^ k*vl l/\out.length=l.length+q+1:=by
  intro j
  induction j with
  | zero =>
   intro i m P c hi hm hP hw hc hv;obtain⟨m,rfl⟩:∃m',m=m'+1:=⟨m-1,by omega⟩
   have hr2:2 ^ r<=2 ^ 64:=Up (by decide) (by omega)
   refine⟨P++[c],bI ?_,hw.app (Wd.one (by omega)),?_,by simp; omega⟩
   unfold qh
   dsimp only
   rw[Xn]; rfl
   rw[lI,hP,<-hv,V4 (by omega)]
   simp[vl]
  | succ j ih =>
   intro i m P c hi hm hP hw hc hv;obtain⟨m,rfl⟩:∃m',m=m'+1:=⟨m-1,by omega⟩
   have hi':i<l.length:=by omega
   obtain⟨x,e2⟩:∃x,l[i]? = some x:=⟨l[i],by simp⟩
   have hx:=hl.at e2;obtain⟨y,y1,y2,y3,y4,y5⟩:=F6 hr hx;have hr2:2 ^ r<=2 ^ 63:=Up (by decide) (by omega)
   have hw2:uw .u64 (uw .u64 c ||| uw .u64 (gk .u64 x r))=c+y*2 ^ r:=by
    rw[y1,zU (show c<18446744073709551616 by omega),NJ hc,zU (by omega)]
   have hcd:wp (q+(i+1))=18446744073709551616*wp (q+i):=ik (q+i);have hval:vl (P++[c+y*2 ^ r])+wp (q+(i+1))*(x/2 ^ (64-r))+wp (q+(i+1))*(2 ^ r*vl (l.drop (i+1)))=2 ^ k*vl l:=by
    rw[<-hv,iY e2,lI,hP,hcd,dE,gZ,Wz,UZ];have e1:2 ^ r*(x+18446744073709551616*vl (l.drop (i+1)))=y*2 ^ r+18446744073709551616*(x/2 ^ (64-r))+18446744073709551616*(2 ^ r*vl (l.drop (i+1))):=by
     rw[Vj,Uo (2 ^ r) x,<-y3,Un]
    rw[e1];generalize x/2 ^ (64-r)=d;generalize 2 ^ r*vl (l.drop (i+1))=V;generalize y*2 ^ r=Y;simp only[Vj,Uv,Un (wp (q+i)) 18446744073709551616];omega
   have st:qh n l (k:Int) (P++c::List.replicate (j+1) 0,l.length+q+1,(i:Int))=some (.inl ((P++[c+y*2 ^ r])++x/2 ^ (64-r)::List.replicate j 0,l.length+q+1,((i+1:Nat):Int))):=by
    unfold qh
    dsimp only
    rw[Xm,ak hi',ay,T5,e2,ab,sQ,Aw,hqd,hrd,aA (x:=((q:Nat):Int)) (by omega) (by omega),aA (x:=(i:Int)+(q:Int)) (by omega) (by omega)]
    rw[show(i:Int)+(q:Int)=((q+i:Nat):Int) by omega,ak (by omega),ay,T5,C1 P c _ hP.symm,ab,dI (Vi _),T5,hw2,ab,ay]
    rw[setP_at P c _ _ hP.symm,aA (x:=64-(r:Int)) (by omega) (by omega)]
    by_cases h0:0<r
    rw[Xm,Xo,ab,dI (by omega),ak (by omega),ay,T5]
    rw[Vl,show P++(c+y*2 ^ r)::0::List.replicate j 0=(P++[c+y*2 ^ r])++0::List.replicate j 0 by simp]
    rw[C1 (P++[c+y*2 ^ r]) 0 _ (by simp; omega),ab,setP_at (P++[c+y*2 ^ r]) 0 _ _ (by simp; omega),ab,Xo]
    have hsh:dh .u64 x (64-(r:Int)).toNat=x/2 ^ (64-r):=by
     unfold dh;rw[show(64-(r:Int)).toNat=64-r by omega]
     show x/2 ^ min (64-r) 64=_
     rw[US (show 64-r<=64 by omega)]
    rw[hsh]
    have hr0:r=0:=by omega
    subst hr0;rw[Xn,ab,Xo,Vl]
    have:x/2 ^ (64-0)=0:=Vy hx;rw[this];simp
   rw[bO st];refine ih (i+1) m _ _ (by omega) (by omega) (by simp; omega) (hw.app (Wd.one (by omega))) y4 hval
 obtain⟨out,o1,o2,o3,o4⟩:=hL l.length 0 n (List.replicate q 0) 0 (by omega) (by omega) (by simp) (Wd.zeros q) (Nat.pow_pos (by decide)) (by
  rw[jM,Wu,hkv,Wz,UU,UZ,Uv])
 obtain⟨t,m,m1,m2⟩:=fh (n:=n) false o2 (by omega) (by omega)
 refine⟨t,m,?_,?_⟩
 unfold Ir;rw[sQ,hqd,aA (x:=((q:Nat):Int)) (by omega) (by omega),aA (x:=(l.length:Int)+(q:Int)) (by omega) (by omega),ab]
 rw[show(l.length:Int)+(q:Int)=((l.length+q:Nat):Int) by omega,Xo,dI (Vi _),T5,p8 (by omega),ay]
 rw[show List.replicate (l.length+q+1) 0=List.replicate q 0++0::List.replicate l.length 0 by
  rw[show l.length+q+1=q+(l.length+1) by omega,<-List.replicate_append_replicate,Vl]]
 rw[show(0:Int)=((0:Nat):Int) from rfl,o1,ab]
 dsimp only
 rw[m1]; rfl
 have:uT false (vl out)=((vl l*2 ^ k:Nat):Int):=by
  unfold uT;rw[o3,Uo]; rfl
 rw[<-this]; exact m2
def QH(d:Nat):d<2 ^ bl d:=by
 unfold bl
 split
 rename_i h; subst h; decide
 rename_i h; exact(Nat.log2_lt h).1 (Vp _)
def OW{d:Nat}(h:d≠0):2 ^ (bl d-1)<=d:=by
 unfold bl;rw[Uk h]; exact Nat.log2_self_le h
def PW{d:Nat}(h:d≠0):0<bl d:=by
 unfold bl;rw[Uk h]; exact Nat.succ_pos _
def Fc{n:Nat}{l:XB Nat}(hl:Wd l)(ll:∀d,l.getLast? = some d->d≠0)(hb:l.length<1000000) :
  ∃k:Nat,Gb n l=some (k:Int)/\k<=64*l.length/\vl l<2 ^ k/\(l≠[]->0<k/\2 ^ (k-1)<=vl l):=by
 by_cases h:l=[]
 subst h;exact⟨0,rfl,Ua _,Nat.one_pos,fun h=>Uy rfl h⟩
 obtain⟨a,d,rfl⟩:∃a d,l=a++[d]:=⟨l.dropLast,l.getLast h,(List.dropLast_concat_getLast h).symm⟩;have hd0:=ll d (by simp)
 have hd:=hl d (by simp)
 have hla:(a++[d]).length=a.length+1:=by simp
 have hb1:2 ^ (bl d-1)<=d:=OW hd0;have hb2:d<2 ^ bl d:=QH d;have hb3:bl d<=64:=Im (s:=64) hd;have hb0:0<bl d:=PW hd0;have hwp:wp a.length=2 ^ (64*a.length):=by unfold wp; rw[Wy]
 refine⟨64*a.length+bl d,?_,by rw[hla]; omega,?_,fun _=>⟨by omega,?_⟩⟩
 unfold Gb Dc;rw[aC (by rw[hla]; omega),hla,aA (by omega) (by omega),show((a.length+1:Nat):Int)-1=((a.length:Nat):Int) by omega,ak (by omega),ay,T5,C1 a d [] rfl,ab,Fl n d hd,ab,ab]
 rw[aA (x:=64-((bl d:Nat):Int)) (by omega) (by omega),aA (x:=64*((a.length+1:Nat):Int)) (by omega) (by omega),aA (by omega) (by omega)]
 congr 1; omega
 have h1:=iQ hl.left;rw[lI,dE,gZ,Wz,UZ,Vs,<-hwp];have h2:=Vb (wp a.length) (show d+1<=2 ^ bl d by omega)
 rw[Vj,Vo] at h2;omega
 rw[lI,dE,gZ,Wz,UZ,show 64*a.length+bl d-1=64*a.length+(bl d-1) by omega,Vs,<-hwp]
 have h2:=Vb (wp a.length) hb1;omega
def Mp{l:XB Nat}(hl:Wd l){k:Nat}(hk:k/64<l.length)(hd:2 ^ (k+1)∣vl l) :
  ∃w,l[k/64]? = some w/\uw .u64 (uw .u64 w ||| uw .u64 (gk .u64 1 (k%64)))<18446744073709551616/\vl (l.set (k/64) (uw .u64 (uw .u64 w ||| uw .u64 (gk .u64 1 (k%64)))))=vl l+2 ^ k:=by
 obtain⟨w,hw⟩:∃w,l[k/64]? = some w:=⟨l[k/64],by simp⟩
 have h0:=hl.at hw;generalize hqd:k/64=q at *;have hr:k%64<64:=UX _ (by decide)
 generalize hrd:k%64=r at *;have hkk:k=64*q+r:=by omega
 have hwp:wp q=2 ^ (64*q):=by unfold wp; rw[Wy]
 have hpos:0<wp q:=Cv q;have hdw:2 ^ (r+1)∣w:=by
  have h1:=du l q (VN hk);have h2:wp q∣vl l:=Nat.dvd_trans (by rw[hwp]; exact Nat.pow_dvd_pow 2 (by omega)) hd
  have h3:vl (l.take q)=0:=by
   have h4:vl (l.take q)<wp q:=by
    have:=iQ (hl.take q);rwa[U0,US (VN hk)] at this
   have h5:wp q∣vl (l.take q):=by
    rw[h1] at h2;exact(Nat.dvd_add_left (Nat.dvd_mul_right _ _)).1 h2
   exact Nat.eq_zero_of_dvd_of_lt h5 h4
  rw[h3,UU,iY hw] at h1;have h6:wp q*2 ^ (r+1)∣wp q*(w+18446744073709551616*vl (l.drop (q+1))):=by
   rw[<-h1,hwp,<-Vs,<-V9,<-hkk]; exact hd
  have h7:=Nat.dvd_of_mul_dvd_mul_left hpos h6;have h8:2 ^ (r+1)∣18446744073709551616*vl (l.drop (q+1)):=Nat.dvd_trans (by
   rw[show(18446744073709551616:Nat)=2 ^ 64 from rfl]; exact Nat.pow_dvd_pow 2 (by omega)) (Nat.dvd_mul_right _ _)
  exact(Nat.dvd_add_left h8).1 h7
 obtain⟨y,rfl⟩:=hdw;have h2r:2 ^ r<18446744073709551616:=by
  rw[show(18446744073709551616:Nat)=2 ^ 64 from rfl]; exact Nat.pow_lt_pow_right (by decide) hr
 have hsh:uw .u64 (gk .u64 1 r)=2 ^ r:=by
  unfold gk;rw[show min r (IntKind.bits .u64)=r from US (by show r<=64; omega),Wb,zU h2r,zU h2r]
 have hlt:2 ^ r<2 ^ (r+1):=Nat.pow_lt_pow_right (by decide) (Vp r)
 have hor:2 ^ (r+1)*y ||| 2 ^ r=2 ^ (r+1)*y+2 ^ r:=(Nat.two_pow_add_eq_or_of_lt hlt y).symm;have hfit:2 ^ (r+1)*y+2 ^ r<18446744073709551616:=by
  have hp:2 ^ (r+1)*2 ^ (63-r)=18446744073709551616:=by rw[<-Vs,show r+1+(63-r)=64 by omega]
  rw[<-hp] at h0;have hy:=Nat.lt_of_mul_lt_mul_left h0;have:=Vb (2 ^ (r+1)) (show y+1<=2 ^ (63-r) by omega)
  rw[Vj,Vo,hp] at this;omega
 refine⟨_,hw,?_,?_⟩
 rw[hsh,zU h0,hor,zU hfit]; exact hfit
 rw[hsh,zU h0,hor,zU hfit];have h:=tB (2 ^ (r+1)*y+2 ^ r) hw;rw[Vj] at h;have e:wp q*2 ^ r=2 ^ k:=by rw[hwp,<-Vs,<-hkk]
 omega
def D1{n:Nat}{z1 z2:Int}{s1 s2:Bool}{a b:XB Nat}(ha:Lg z1 s1 a)(hb:Lg z2 s2 b)(hb0:b≠[])(hla:a.length<10000)(hlb:b.length<10000)(hn:10000000<n) :
  ∃q t r,AJ n a b=some (q,r)/\Wd q/\q.length=a.length/\vl q=vl a/vl b/\Lg ((vl a%vl b:Nat):Int) t r:=by
 have hbp:0<vl b:=Uc (Cv _) (jG hb.last hb0)
 by_cases h1:b.length=1
 ·obtain⟨d,rfl⟩:∃d,b=[d]:=by
   match b,h1 with
   | [d],_=>exact⟨d,rfl⟩
  have hd:=hb.wd d (by simp)
  have hv:vl [d]=d:=by simp[vl]
  rw[hv] at hbp ⊢;obtain⟨q,t,m,q1,q2,q3,q4,q5,_⟩:=Hg (n:=n) ha.wd hd (by omega) (by omega) (by omega) (by omega)
  exact⟨q,t,m,q1,q2,q4,q3,q5⟩
 ·obtain⟨ka,a1,a2,a3,a4⟩:=Fc (n:=n) ha.wd ha.last (by omega)
  obtain⟨kb,b1,b2,b3,b4⟩:=Fc (n:=n) hb.wd hb.last (by omega)
  obtain⟨b5,b6⟩:=b4 hb0;have hL:∀(j m:Nat) (q r:XB Nat) (t:Bool) (z:Int),j<m->j+kb<=ka+1\/j=0->Wd q->q.length=a.length->Lg z t r->r.length<=a.length+1->vl r<vl b*2 ^ j->vl a=vl q*vl b+vl r->2 ^ j∣vl q->j<=64*a.length ->
    ∃q' r' t' z',bN (jI n b a) m (q,r,(j:Int)-1)=some (q',r')/\Wd q'/\q'.length=a.length/\Lg z' t' r'/\vl r'<vl b/\vl a=vl q'*vl b+vl r':=by
   intro j
   induction j with
   | zero =>
    intro m q r t z hm _ hq hql hr hrl hlt hv hdv _;obtain⟨m,rfl⟩:∃m',m=m'+1:=⟨m-1,by omega⟩
    refine⟨q,r,t,z,bI ?_,hq,hql,hr,by simpa using hlt,hv⟩
    unfold jI
    dsimp only
    rw[aC (by decide)]
   | succ j ih =>
    intro m q r t z hm hj hq hql hr hrl hlt hv hdv hja;obtain⟨m,rfl⟩:∃m',m=m'+1:=⟨m-1,by omega⟩
    obtain⟨tt,tm,t1,t2⟩:=LD (n:=n) (k:=j) hb.wd (by omega) (by omega) (by omega)
    have htv:vl tm=vl b*2 ^ j:=by rw[t2.abs,UP]
    have htl:tm.length<=r.length\/vl r<vl tm:=by
     rcases UY (vl r) (vl tm) with h|h
     exact .inr h
     left
     refine Vx fun hc=>?_;have h5:=iQ hr.wd
     by_cases htm:tm=[]
     subst htm; simp at hc
     have h6:=jG t2.last htm;have h7:wp r.length<=wp (tm.length-1):=Up (by decide) (by omega)
     omega
    have htlen:tm.length<1073741824:=by
     by_cases htm:tm=[]
     subst htm; simp
     have h6:=jG t2.last htm;have h7:=iQ hb.wd;refine Vx fun hc=>?_;obtain⟨K,hK⟩:∃K:Nat,K=640000:=⟨_,rfl⟩;have h8:wp (b.length+K)<=wp (tm.length-1):=Up (by decide) (by omega)
     have h9:2 ^ j<=wp K:=by
      unfold wp;rw[show(18446744073709551616:Nat)=2 ^ 64 from rfl,<-Wy]
      exact Up (by decide) (by omega)
     have h10:vl b*2 ^ j<wp b.length*wp K:=Uc (Nat.mul_lt_mul_of_pos_right h7 (Nat.pow_pos (by decide))) (Vb _ h9)
     rw[<-PQ] at h10;omega
    obtain⟨c,c1,c2,c3⟩:=DQ (n:=n) hr.wd t2.wd hr.last t2.last (by omega) htlen (by omega)
    have hpow:vl b*2 ^ (j+1)=vl b*2 ^ j+vl b*2 ^ j:=by rw[UW]; rw[<-Uv]; omega
    by_cases hc:0<=c
    have hle:vl tm<=vl r:=by
     have:=mt c2.2 (by omega)
     omega
    have hlen:tm.length<=r.length:=htl.resolve_right (by omega)
    obtain⟨u,u1,u2,u3,u4⟩:=xj (n:=n) hr.wd t2.wd hle hlen (by omega) (by omega)
    obtain⟨s',r',f1,f2⟩:=fh (n:=n) false u2 (by omega) (by omega)
    have hr'v:vl r'=vl r-vl tm:=by
     rw[f2.abs]; unfold uT; simp only[Uu,if_false,UP]; exact u3
    have hr'l:r'.length<=a.length+1:=by
     by_cases hn':r'=[]
     subst hn'; simp
     have h6:=jG f2.last hn';have h5:=iQ hr.wd;refine Vx fun hc=>?_;have h7:wp r.length<=wp (r'.length-1):=Up (by decide) (by omega)
     omega
    have hjq:j/64<q.length:=by rw[hql]; omega
    obtain⟨w,w1,w2,w3⟩:=Mp hq (k:=j) hjq hdv;have st:jI n b a (q,r,((j+1:Nat):Int)-1)=some (.inl (q.set (j/64) (uw .u64 (uw .u64 w ||| uw .u64 (gk .u64 1 (j%64)))),r',(j:Int)-1)):=by
     unfold jI
     dsimp only
     rw[show((j+1:Nat):Int)-1=(j:Int) by omega,az (Vi _),t1,ab,c1,ab,az hc,u1,ab,f1,ab]
     dsimp only
     rw[sQ,Aw,aA (x:=((j/64:Nat):Int)) (by omega) (by omega),T5,T5,T5,ak (by omega),ay,w1,ab,dI (Vi _),ab,ay,ab]
     dsimp only
     rw[aA (by omega) (by omega)]
    rw[bO st];have hmulr:vl b*2 ^ j=2 ^ j*vl b:=Uo _ _;refine ih m _ r' s' _ (by omega) (by omega) (hq.set w2) (by rw[Vh]; exact hql) f2 hr'l (by omega) ?_ ?_ (by omega)
    rw[w3,UR,hr'v,hv,htv];omega
    rw[w3];exact Nat.dvd_add (Nat.dvd_trans (Nat.pow_dvd_pow 2 (Nat.le_succ j)) hdv) (Nat.dvd_refl _)
    have st:jI n b a (q,r,((j+1:Nat):Int)-1)=some (.inl (q,r,(j:Int)-1)):=by
     unfold jI
     dsimp only
     rw[show((j+1:Nat):Int)-1=(j:Int) by omega,az (Vi _),t1,ab,c1,ab,aC hc,ab]
     dsimp only
     rw[aA (by omega) (by omega)]
    rw[bO st];have:=c2.1 (by omega)
    exact ih m q r t z (by omega) (by omega) hq hql hr hrl (by omega) hv (Nat.dvd_trans (Nat.pow_dvd_pow 2 (Nat.le_succ j)) hdv) (by omega)
  have start:∃(q' r':XB Nat) (t':Bool) (z':Int),bN (jI n b a) n (List.replicate a.length 0,a,(ka:Int)-(kb:Int))=some (q',r')/\Wd q'/\q'.length=a.length/\Lg z' t' r'/\vl r'<vl b/\vl a=vl q'*vl b+vl r':=by
   by_cases hk:kb<=ka
   have h7:vl a<vl b*2 ^ (ka-kb+1):=by
    refine Uc a3 ?_;rw[show ka=(kb-1)+(ka-kb+1) by omega,Vs]
    exact UO b6 (Up (by decide) (by omega))
   have:=hL (ka-kb+1) n (List.replicate a.length 0) a s1 z1 (by omega) (.inl (by omega)) (Wd.zeros _) (by simp) ha (by omega) h7 (by rw[jM]; omega) (by rw[jM]; exact Nat.dvd_zero _) (by omega)
   rw[show((ka-kb+1:Nat):Int)-1=(ka:Int)-(kb:Int) by omega] at this
   exact this
   obtain⟨m,rfl⟩:∃m',n=m'+1:=⟨n-1,by omega⟩
   refine⟨List.replicate a.length 0,a,s1,z1,bI ?_,Wd.zeros _,by simp,ha,?_,by rw[jM]; omega⟩
   unfold jI
   dsimp only
   rw[Xn]
   exact Uc a3 (Ub (Up (by decide) (by omega)) b6)
  obtain⟨q,r,t,z,l1,l2,l3,l4,l5,l6⟩:=start;have dr:vl r=vl a%vl b:=by rw[l6,Uo,Nat.mul_add_mod,UG l5]
  have dq:vl q=vl a/vl b:=by rw[l6,Uo,Nat.mul_add_div hbp,Vy l5]; rfl
  refine⟨q,false,r,?_,l2,l3,dq,⟨l4.wd,l4.last,by rw[<-dr]; rfl,fun h=>(nomatch h)⟩⟩
  unfold AJ;rw[dI (by omega),T5,p8 (by omega),ay,Xn,a1,ab,b1,ab,aA (by omega) (by omega),l1,ab]
def Lg.kH{z:Int}{s:Bool}{l:XB Nat}(h:Lg z s l){k:Nat}(hz:z.natAbs<wp k):l.length<=k:=by
 by_cases hl:l=[]
 subst hl; simp
 have h1:=jG h.last hl;rw[h.abs] at h1;refine Vx fun hc=>?_;have h2:wp k<=wp (l.length-1):=Up (by decide) (by omega)
 omega
def Lg.lt{z:Int}{s:Bool}{l:XB Nat}(h:Lg z s l):z.natAbs<wp l.length:=by
 rw[<-h.abs]; exact iQ h.wd
def Lg.un{v:Nat}{s:Bool}{l:XB Nat}(h:Lg (v:Int) s l):s=false:=by
 rw[h.IA,Um (by omega)]
def Lg.Sf{v:Nat}{s:Bool}{l:XB Nat}(h:Lg (v:Int) s l):vl l=v:=by rw[h.abs,UP]
def J5{n:Nat}(hn:10000000<n):∀(b a m:Nat) (l k:XB Nat) (s t:Bool),Lg (a:Int) s l->Lg (b:Int) t k->l.length<10000->k.length<10000->b<m ->
  ∃g,bN (sI n) m (l,k)=some g/\Lg ((Nat.gcd a b:Nat):Int) false g:=by
 intro b
 induction b using Nat.strongRecOn with
 | _ b ih =>
  intro a m l k s t hl hk hll hkl hm;obtain⟨m,rfl⟩:∃m',m=m'+1:=⟨m-1,by omega⟩
  by_cases hb:b=0
  subst hb;have:=hk.R9.2 rfl;subst this;have hs:=hl.un;subst hs;refine⟨l,bI ?_,by rw[Nat.gcd_zero_right]; exact hl⟩
  unfold sI
  dsimp only
  rw[aC (by simp)]
  have hk0:k≠[]:=fun e=>hb (by have:=hk.R9.1 e; omega)
  obtain⟨q,t',r,q1,_,_,_,q5⟩:=D1 (n:=n) hl hk hk0 hll hkl hn;rw[hl.Sf,hk.Sf] at q5;have hrl:r.length<10000:=U6 (q5.kH (k:=k.length) (by
   rw[UP];exact Nat.lt_trans (UX a (Us hb)) (by have:=hk.lt; rwa[UP] at this))) hkl
  have hlt:=UX a (Us hb);obtain⟨g,g1,g2⟩:=ih (a%b) hlt b m k r t t' hk q5 hkl hrl (by omega)
  refine⟨g,?_,?_⟩
  rw[bO (s':=(k,r)) ?_]
  exact g1
  unfold sI
  dsimp only
  rw[az (by have:=V5.2 hk0; omega),q1,ab]
  rw[Nat.gcd_comm a b,Nat.gcd_rec b a,Nat.gcd_comm]; exact g2
def Ai{n:Nat}{a b:Int}{s t:Bool}{l k:XB Nat}(ha:Lg a s l)(hb:Lg b t k)(hl:l.length<10000)(hk:k.length<10000)(hn:10000000<n)(hbn:b.natAbs<n) :
  ∃g,FD n s l t k=some (false,g)/\Lg ((Nat.gcd a.natAbs b.natAbs:Nat):Int) false g:=by
 have pos:∀{z:Int} {s:Bool} {l:XB Nat},Lg z s l->Lg ((z.natAbs:Nat):Int) false l:=fun{z s l} h=>⟨h.wd,h.last,by rw[h.abs]; rfl,fun h=>(nomatch h)⟩
 obtain⟨g,g1,g2⟩:=J5 hn b.natAbs a.natAbs n l k false false (pos ha) (pos hb) hl hk hbn;refine⟨g,?_,g2⟩;unfold FD;rw[g1,ab]
def AD{n:Nat}{a b:Int}{s t:Bool}{l k:XB Nat}(h:Lg (a*b) s l)(h':Lg b t k)(h0:b≠0)(hl:l.length<10000)(hk:k.length<10000)(hn:10000000<n) :
  ∃u m v o,FH n s l t k=some (u,m,v,o)/\Lg a u m:=by
 have hk0:k≠[]:=fun e=>h0 (h'.R9.1 e);obtain⟨q,t',m,q1,q2,q4,q3,q5⟩:=D1 (n:=n) h h' hk0 hl hk hn;obtain⟨u,m',u1,u2⟩:=fh (n:=n) (!(s==t)) q2 (by omega) (by omega)
 rw[h'.abs] at q3 q5;have hz:(vl l%b.natAbs:Nat)=0:=by rw[h.abs,Int.natAbs_mul,Nat.mul_mod_left]
 rw[hz] at q5;obtain⟨rfl,rfl⟩:=q5.inj Lg.zero;obtain⟨v,o,v1,v2⟩:=fh (n:=n) s Wd.nil (by simp) (by simp; omega)
 have v3:Lg 0 v o:=by rw[gZ,zQ] at v2; exact v2
 obtain⟨rfl,rfl⟩:=v3.inj Lg.zero;refine⟨u,m',false,[],?_,?_⟩
 unfold FH;rw[q1,ab]
 dsimp only
 rw[u1,ab]
 dsimp only
 rw[v1,ab]
 rfl
 have e1:vl q=a.natAbs:=by rw[q3,h.abs,Int.natAbs_mul,Nat.mul_div_cancel _ (by omega)]
 have hs:=h.IA;have ht:=h'.IA;have:a=uT (!(s==t)) (vl q)\/(a=0):=by
  by_cases ha:a=0
  exact .inr ha
  refine .inl ?_;rw[e1,hs,ht];unfold uT
  by_cases hb0:b<0<;>by_cases ha0:a<0
  have:¬a*b<0:=Int.not_lt.2 (Int.mul_nonneg_of_nonpos_of_nonpos (by omega) (by omega))
  simp[hb0,this]; omega
  have:a*b<0:=Int.mul_neg_of_pos_of_neg (by omega) hb0
  simp[hb0,this]; omega
  have:a*b<0:=Int.mul_neg_of_neg_of_pos ha0 (by omega)
  simp[hb0,this]; omega
  have:¬a*b<0:=Int.not_lt.2 (Int.mul_nonneg (by omega) (by omega))
  simp[hb0,this]; omega
 rcases this with e|e
 rw[e]; exact u2
 rw[e,Int.natAbs_zero] at e1;rw[e1,zQ] at u2;rw[e]; exact u2
def o9{n a b:Nat}(hn:10000000<n)(hbn:b<n)(hb0:b≠0){s t:Bool}{l k:XB Nat}(h:Lg (a:Int) s l)(h':Lg (b:Int) t k)(hl:l.length<10000)(hk:k.length<10000) :
  ∃l' k',CC n s l t k=some (false,l',false,k')/\Lg ((a/Nat.gcd a b:Nat):Int) false l'/\Lg ((b/Nat.gcd a b:Nat):Int) false k':=by
 have hg0:Nat.gcd a b≠0:=fun e=>hb0 (Nat.eq_zero_of_gcd_eq_zero_right e);have hgb:Nat.gcd a b<=b:=Nat.le_of_dvd (by omega) (Nat.gcd_dvd_right a b)
 have ea:((a/Nat.gcd a b:Nat):Int)*((Nat.gcd a b:Nat):Int)=(a:Int):=by rw[<-VW,VX (Nat.gcd_dvd_left a b)]
 have eb:((b/Nat.gcd a b:Nat):Int)*((Nat.gcd a b:Nat):Int)=(b:Int):=by rw[<-VW,VX (Nat.gcd_dvd_right a b)]
 obtain⟨g,g1,g2⟩:=Ai (n:=n) h h' hl hk hn (by rw[UP]; exact hbn)
 rw[UP,UP] at g2;have hgl:g.length<10000:=U6 (g2.kH (k:=k.length) (by
  rw[UP];exact U6 hgb (by have:=h'.lt; rwa[UP] at this))) hk
 rw[<-ea] at h;rw[<-eb] at h';obtain⟨u1,m1,v1,o1,f1,f2⟩:=AD (n:=n) h g2 (by omega) hl hgl hn
 obtain⟨u2,m2,v2,o2,f3,f4⟩:=AD (n:=n) h' g2 (by omega) hk hgl hn
 have hu1:=f2.un;have hu2:=f4.un;subst hu1 hu2;refine⟨m1,m2,?_,f2,f4⟩;unfold CC;rw[g1,ab]
 dsimp only
 rw[f1,ab]
 dsimp only
 rw[f3,ab]
 rfl
def bo(T h:Nat):Nat×Nat:=(h/Nat.gcd h T,T/Nat.gcd h T)
def C7{a b c d:Nat}(hb:b≠0)(hd:d≠0)(h:a*d=c*b):a/Nat.gcd a b=c/Nat.gcd c d/\b/Nat.gcd a b=d/Nat.gcd c d:=by
 have g0:0<Nat.gcd a b:=Nat.gcd_pos_of_pos_right a (Us hb);have k0:0<Nat.gcd c d:=Nat.gcd_pos_of_pos_right c (Us hd);have c1:=Nat.coprime_div_gcd_div_gcd g0;have c2:=Nat.coprime_div_gcd_div_gcd k0;have ea:=VX (Nat.gcd_dvd_left a b);have eb:=VX (Nat.gcd_dvd_right a b);have ec:=VX (Nat.gcd_dvd_left c d);have ed:=VX (Nat.gcd_dvd_right c d);generalize Nat.gcd a b=g at *;generalize Nat.gcd c d=k at *;generalize a/g=a' at *;generalize b/g=b' at *;generalize c/k=c' at *;generalize d/k=d' at *;subst ea eb ec ed;have e:a'*d'=c'*b':=by
  have h2:(g*k)*(a'*d')=(g*k)*(c'*b'):=by
   have e1:(g*k)*(a'*d')=a'*g*(d'*k):=by simp only[Uv,Uo,Un]
   have e2:(g*k)*(c'*b')=c'*k*(b'*g):=by simp only[Uv,Uo,Un]
   rw[e1,e2,h]
  exact Nat.eq_of_mul_eq_mul_left (Nat.mul_pos g0 k0) h2
 have hb':0<b':=Us fun e=>hb (by rw[e,VC])
 have d1:b'∣d':=c1.symm.dvd_of_dvd_mul_left (by rw[e]; exact Nat.dvd_mul_left _ _)
 have d2:d'∣b':=c2.symm.dvd_of_dvd_mul_left (by rw[<-e]; exact Nat.dvd_mul_left _ _)
 have e3:b'=d':=Nat.dvd_antisymm d1 d2;subst e3;exact⟨VI hb' e,rfl⟩
section
variable{n:Nat}
def ic{T h:Nat}(hT:T≠0):(bo T h).1<=h/\(bo T h).2<=T/\(bo T h).2≠0/\Nat.gcd (bo T h).1 (bo T h).2=1/\(bo T h).1*T=h*(bo T h).2:=by
 have g0:0<Nat.gcd h T:=Nat.gcd_pos_of_pos_right h (Us hT);have e1:=VX (Nat.gcd_dvd_left h T);have e2:=VX (Nat.gcd_dvd_right h T);refine⟨Nat.div_le_self _ _,Nat.div_le_self _ _,fun e=>?_,Nat.coprime_div_gcd_div_gcd g0,?_⟩
 have e':T/Nat.gcd h T=0:=e;rw[e',VC] at e2;exact hT e2.symm
 show h/Nat.gcd h T*T=h*(T/Nat.gcd h T)
 generalize Nat.gcd h T=g at *;generalize h/g=a at *;generalize T/g=b at *;subst e1 e2;simp only[Uv,Uo,Un]
def JL(hn:40<n):va n 0=some (false,[],false,[1]):=by
 unfold va;rw[Jk (by omega),ab]
 dsimp only
 unfold BU;rw[pO (by omega),ab]
 rfl
end
end
end Go.Proofs.YtpkadoocdgdcfaaGreatDoor
end
section
namespace Go.Proofs.YtpkadoocdgdcfaaGreatDoor
open Go Go.Ab Go.Ab.W
abbrev Sh:=XN
def sh(p:Nat×Nat):Sh:=(p.1,0,0,0,0,0,0,0,p.2,0,0,0,0,0,0,0)
def An(T:Nat)(l:XB Nat):XB Sh:=l.map fun h=>sh (bo T h)
abbrev Sg:=Nat×Nat×Nat×Nat×Nat×Nat×Nat×Nat×Nat×Nat×Nat×Nat×Nat×Nat×Nat×Nat×Int
abbrev QU(p:Nat×Nat):Sg:=(p.1,0,0,0,0,0,0,0,p.2,0,0,0,0,0,0,0,0)
def PY(t:XA Sg)(p:Nat×Nat):Bool :=
 match t with
 | some (a,a1,a2,a3,a4,a5,a6,a7,b,b1,b2,b3,b4,b5,b6,b7,e)=>Nat.beq a p.1 &&(Nat.beq b p.2 &&([a1,a2,a3,a4,a5,a6,a7,b1,b2,b3,b4,b5,b6,b7].all (Nat.beq 0)&&decide (e=0)))
 | none=>false
def Mm{t:XA Sg}{p:Nat×Nat}(h:PY t p=true):t=some (QU p):=by
 unfold PY at h
 split at h
 simp only[Vw,List.all_nil,T7,UL,and_true] at h;obtain⟨h1,h2,⟨h3,h4,h5,h6,h7,h8,h9,h10,h11,h12,h13,h14,h15,h16⟩,rfl⟩:=h;rw[Ue h1,Ue h2,<-Ue h3,<-Ue h4,<-Ue h5,<-Ue h6,<-Ue h7,<-Ue h8,<-Ue h9,<-Ue h10,<-Ue h11,<-Ue h12,<-Ue h13,<-Ue h14,<-Ue h15,<-Ue h16]
 cases h
set_option maxRecDepth 100000 in
def N3(m:Nat):(List.range 6).all (fun a=>(List.range 21).all fun S=>Nat.beq S 0||PY (Q4 (m+300) (a:Int) (S:Int)) (bo S a))=true:=by kernel_rfl
def NU{n a S:Nat}(hn:300<=n)(ha:a<6)(hS:S<21)(h0:S≠0):Q4 n (a:Int) (S:Int)=some (QU (bo S a)):=by
 obtain⟨m,rfl⟩:∃m,n=m+300:=⟨n-300,by omega⟩
 have h:=Ux.1 (Ux.1 (N3 m) a (We.2 ha)) S (We.2 hS);rw[VH] at h;rcases h with h|h
 exact Uy (Ue h) h0
 exact Mm h
def M6(l:XB Nat)(k:Nat):Nat:=l.getD k 0%6
def raw(l:XB Nat)(N i k:Nat):XB Nat:=(List.range k).map fun j=>M6 l (N*i+j)
def ur(l:XB Nat)(N i k:Nat):raw l N i (k+1)=raw l N i k++[M6 l (N*i+k)]:=by unfold raw; rw[List.range_succ,List.map_append]; rfl
def Ce(l:XB Nat)(k:Nat):M6 l k<6:=UX _ (by decide)
def xq(l:XB Nat)(N i k:Nat):(raw l N i k).length=k:=by unfold raw; simp
def ye(l:XB Nat)(N i:Nat):∀k,(raw l N i k).sum<=5*k
 | 0=>by simp[raw]
 | k+1=>by
  have:=ye l N i k;have:=Ce l (N*i+k);rw[ur,List.sum_append,List.sum_singleton]; omega
def HV{l:XB Nat}{N i k x:Nat}(h:x∈raw l N i k):x<6:=by
 obtain⟨j,_,rfl⟩:=Wa.1 h;exact Ce _ _
def ints(l:XB Nat):XB Int:=l.map fun x:Nat=>(x:Int)
def Io(n:Nat)(l2:XB Nat){N i:Nat}(hN:N<=4)(hi:i<N)(hn:300<=n):bN (vY n (N:Int) (i:Int) l2) n (([]:XB Int),0,0)=some (ints (raw l2 N i N),((raw l2 N i N).sum:Int)):=by
 have h:=aS (body:=vY n (N:Int) (i:Int) l2) N (fun(s:Nat) (v:Int)=>(ints (raw l2 N i s),((raw l2 N i s).sum:Int),v)) (fun s=>(ints (raw l2 N i s),((raw l2 N i s).sum:Int))) (fun k s=>s=k) (fun s k hk hs=>?_) (fun s hs=>?_) (n:=n) (s:=0) rfl (by omega)
 obtain⟨s,h1,rfl⟩:=h;exact h1
 subst hs;have hb:N*i<=12:=Ub (UO hN (show i<=3 by omega)) (by omega)
 have hsum:=ye l2 N i s;have hd:=Ce l2 (N*i+s);refine⟨s+1,?_,rfl⟩;have e0:WQ ((WQ ((N:Int)*(i:Int)))+(s:Int))=((N*i+s:Nat):Int):=by
  rw[<-VW,aA (x:=((N*i:Nat):Int)) (by omega) (by omega),aA (by omega) (by omega)]; rfl
 have e1:(br (decide (((N*i+s:Nat):Int)<(l2.length:Int))) (gd (bB ((N*i+s:Nat):Int) l2.length) (ob (l2[(((N*i+s:Nat):Int)).toNat]?) fun x=>some (WQ ((x%6:Nat):Int)))) (some 0))=some ((M6 l2 (N*i+s):Nat):Int):=by
  by_cases c:N*i+s<l2.length
  rw[Xm,ak c,ay,T5,T6 c,ab,aA (by omega) (by have:=UX l2[N*i+s] (show 0<6 by decide); omega)]
  unfold M6;rw[List.getD_eq_getElem?_getD,T6 c]; rfl
  rw[Xn]
  unfold M6;rw[List.getD_eq_getElem?_getD,VG (by omega)]; rfl
 have e2:ints (raw l2 N i s)++[((M6 l2 (N*i+s):Nat):Int)]=ints (raw l2 N i (s+1)):=by rw[ur]; unfold ints; rw[List.map_append]; rfl
 have e3:WQ (((raw l2 N i s).sum:Int)+((M6 l2 (N*i+s):Nat):Int))=((raw l2 N i (s+1)).sum:Int):=by
  rw[aA (by omega) (by omega),ur,List.sum_append,List.sum_singleton]; omega
 unfold vY
 dsimp only
 rw[Xm,e0,e1,ab,e2,e3,Xo]
 have hlim:lim (ints (raw l2 N i (s+1))).length=true:=by
  unfold ints lim; rw[UH,xq]; exact U9 (by omega)
 rw[hlim,ay]
 subst hs;unfold vY
 dsimp only
 rw[Xn]
def jg(l:XB Nat)(N i:Nat):XB Nat:=if(raw l N i N).sum=0 then(raw l N i N).set i 1 else raw l N i N
def pK:∀{l:XB Nat} {i:Nat},i<l.length->l.sum=0->(l.set i 1).sum=1
 | a::l,0,_,hs=>by rw[List.sum_cons] at hs; rw[List.set_cons_zero,List.sum_cons]; omega
 | a::l,i+1,h,hs=>by
  rw[List.sum_cons] at hs;rw[List.set_cons_succ,List.sum_cons,pK (by simpa using h) (by omega)]; omega
def EM(l:XB Nat){N i:Nat}(hN:N<=4)(hi:i<N):(jg l N i).length=N/\(∀x∈jg l N i,x<6)/\(jg l N i).sum≠0/\(jg l N i).sum<21:=by
 have h1:=ye l N i N;have h2:=xq l N i N;unfold jg
 split
 rename_i h0;refine⟨by simp[h2],fun x hx=>?_,by rw[pK (by omega) h0]; decide,by rw[pK (by omega) h0]; decide⟩
 rcases VP hx with h|h
 exact HV h
 omega
 exact⟨h2,fun x hx=>HV hx,by assumption,by omega⟩
def Hn(n:Nat){N S:Nat}{l l':XB Nat}(hN:N<=4)(hl:l.length=N)(hl':l'.length=N)(h6:∀x∈l,x<6)(h0:S≠0)(hS:S<21)(hn:300<=n):bN (vA n (N:Int) (ints l') (ints l) (S:Int)) n (([]:XB Sh),0)=some (An S l):=by
 have h:=aS (body:=vA n (N:Int) (ints l') (ints l) (S:Int)) N (fun(s:XB Sh) (v:Int)=>(s,v)) id (fun k s=>s=(An S l).take k) (fun s k hk hs=>?_) (fun s hs=>?_) (n:=n) (s:=[]) (by simp) (by omega)
 obtain⟨s,h1,rfl⟩:=h;rw[h1,id,VO (by unfold An; rw[UH]; omega)]
 subst hs;have e1:(ints l)[k]? = some ((l[k]'(by omega):Nat):Int):=by unfold ints; rw[UN,T6 (by omega)]; rfl
 have hx:=h6 (l[k]'(by omega)) (V0 _)
 have e2:(An S l).take k++[sh (bo S (l[k]'(by omega)))]=(An S l).take (k+1):=by
  unfold An;rw[List.take_succ_eq_append_getElem (by rw[UH]; omega),List.getElem_map]
 refine⟨_,?_,rfl⟩;unfold vA
 dsimp only
 rw[Xm,ak (by unfold ints; rw[UH]; omega),ay,T5,e1,ab,NU hn hx hS h0,ab]
 show gd (lim ((An S l).take k++[sh (bo S (l[k]'(by omega)))]).length) (some (.inl ((An S l).take k++[sh (bo S (l[k]'(by omega)))],WQ ((k:Int)+1))):XA ((XB Sh×Int)⊕XB Sh))=_
 rw[e2,Xo]
 have hlim:lim ((An S l).take (k+1)).length=true:=by
  unfold lim; exact U9 (by rw[U0]; omega)
 rw[hlim,ay]
 subst hs;unfold vA
 dsimp only
 rw[Xn]; rfl
def dM(l:XB Nat)(N:Nat):XB (XB Sh):=(List.range N).map fun i=>An (jg l N i).sum (jg l N i)
def N2(n x:Nat)(l:XB Nat)(hn:300<=n):QP n x l=some (dM l (1+x%4)):=by
 have hx:x%4<4:=UX _ (by decide)
 have eN:WQ (1+(WQ ((x%4:Nat):Int)))=((1+x%4:Nat):Int):=by
  rw[aA (x:=((x%4:Nat):Int)) (by omega) (by omega),aA (by omega) (by omega)]; omega
 generalize hNN:1+x%4=N at eN ⊢;have h:=aS (body:=w6 n l) N (fun(s:XB (XB Sh)) (v:Int)=>((N:Int),s,v)) id (fun k s=>s=(List.range k).map fun i=>An (jg l N i).sum (jg l N i)) (fun s k hk hs=>?_) (fun s hs=>?_) (n:=n) (s:=[]) (by simp) (by omega)
 obtain⟨s,h1,h2⟩:=h;unfold QP;rw[eN]
 show ob (bN (w6 n l) n ((N:Int),([]:XB (XB Sh)),0)) _=_
 rw[h1,ab,id,h2]; rfl
 subst hs;refine⟨_,?_,rfl⟩;obtain⟨d1,d2,d3,d4⟩:=EM l (show N<=4 by omega) hk
 have hr:=xq l N k N;unfold w6
 dsimp only
 rw[Xm,Io n l (by omega) hk hn,ab]
 dsimp only
 have e1:(br (decide (((raw l N k N).sum:Int)=0)) (gd (bB (k:Int) (ints (raw l N k N)).length) (ob ((ints (raw l N k N))[((k:Int)).toNat]?) fun _=>some ((ints (raw l N k N)).set ((k:Int)).toNat 1,(1:Int)))) (some (ints (raw l N k N),((raw l N k N).sum:Int))))=some (ints (jg l N k),((jg l N k).sum:Int)):=by
  unfold jg
  by_cases c:(raw l N k N).sum=0
  rw[Xm,ak (by unfold ints; rw[UH]; omega),ay,T5,Ui c,pK (by omega) c]
  have:(ints (raw l N k N))[k]? = some (((raw l N k N)[k]'(by omega):Nat):Int):=by unfold ints; rw[UN,T6 (by omega)]; rfl
  rw[this,ab];unfold ints;rw[List.map_set]; rfl
  rw[Xn,Uk c]
 rw[e1,ab]
 dsimp only
 rw[Hn n (show N<=4 by omega) d1 hr d2 d3 d4 hn,ab,Xo]
 have e2:((List.range k).map fun i=>An (jg l N i).sum (jg l N i))++[An (jg l N k).sum (jg l N k)]=(List.range (k+1)).map fun i=>An (jg l N i).sum (jg l N i):=by rw[List.range_succ,List.map_append]; rfl
 rw[e2];have hlim:lim ((List.range (k+1)).map fun i=>An (jg l N i).sum (jg l N i)).length=true:=by
  unfold lim; exact U9 (by simp; omega)
 rw[hlim,ay]
 subst hs;unfold w6
 dsimp only
 rw[Xn]; rfl
end Go.Proofs.YtpkadoocdgdcfaaGreatDoor
end
section
namespace Go.Proofs.YtpkadoocdgdcfaaGreatDoor
open Go Go.Ab Go.Ab.W
variable{n:Nat}
def Ib(hn:40<n):va n 1=some (false,[1],false,[1]):=by
 unfold va;rw[pO (by omega),ab]
 dsimp only
 unfold BU;rw[pO (by omega),ab]
 rfl
def jT{T:Nat}(hT:T≠0):bo T T=(1,1):=by
 unfold bo;rw[Nat.gcd_self,Nat.div_self (Us hT)]
def j7{T:Nat}(hT:T≠0):bo T 0=(0,1):=by unfold bo; rw[Nat.gcd_zero_left,Nat.zero_div,Nat.div_self (Us hT)]
structure RowsOk(M:XB (XB Nat)):Prop where
 len:1<=M.length/\M.length<=60
 row:∀l∈M,l.length=M.length/\l.sum≠0/\l.sum<18446744073709551616
end Go.Proofs.YtpkadoocdgdcfaaGreatDoor
end
section
namespace Go.Proofs.YtpkadoocdgdcfaaGreatDoor
open Go Go.Ab Go.Ab.W
def BY(n:Nat)(x1:Int):XA XO :=
ob (Kj n x1) fun(r4,l5) =>
ob (N4 n r4 l5) fun(r10,r11,r12,r13,r14,r15,r16,r17,r18) =>
some (r10,r11,r12,r13,r14,r15,r16,r17)
def wS(n:Nat)(x3:Int)(l2:XB (Nat)):(XB XO×Int)->XA ((XB XO×Int) ⊕(XB XO)):=fun(l3,v0) =>
br (decide (v0<x3)) (
ob (
br (decide (v0<(l2.length:Int))) (
gd (bB v0 l2.length) (
ob (l2[v0.toNat]?) fun x4 =>
some (WQ (1+(WQ ((x4%9:Nat):Int)))))) (
some 1)) fun v1 =>
ob (BY n v1) fun(r0,r1,r3,r4,r5,r6,r7,r8) =>
gd (lim (l3++[(r0,r1,r3,r4,r5,r6,r7,r8)]).length) (
some (.inl ((l3++[(r0,r1,r3,r4,r5,r6,r7,r8)]),WQ (v0+1))))) (
some (.inr l3))
def Qc(n:Nat)(x1:Nat)(l2:XB (Nat))(x3:Int):XA (XB XO) :=
ob (
bN (wS n x3 l2) n (([]:XB XO),0)) fun l3 =>
some l3
def JU(n:Nat)(x1:Nat)(x2:Nat)(x3:Nat)(x4:Nat)(x5:Nat)(x6:Nat)(x7:Nat)(x8:Nat)(x9:Nat)(x10:Nat)(x11:Nat)(x12:Nat)(x13:Nat)(x14:Nat)(x15:Nat)(x16:Nat):XA Int :=
ob (zO n x1 x2 x3 x4 x5 x6 x7 (uw .u64 (uw .u64 x8 ^^^ uw .u64 9223372036854775808)) x9 x10 x11 x12 x13 x14 x15 (uw .u64 (uw .u64 x16 ^^^ uw .u64 9223372036854775808))) fun r20 =>
some r20
def oJ(n:Nat)(l1:XB XO)(x3:Int):Int->XA (Int⊕Int⊕XC):=fun v0 =>
br (decide (v0<(l1.length:Int))) (
gd (bB v0 l1.length) (
ob (l1[v0.toNat]?) fun(x4,x5,x6,x7,x8,x9,x10,x11) =>
ob (
ob (NX n x3) fun(r0,r1,r3,r4,r5,r6,r7,r8) =>
ob (JU n x4 x5 x6 x7 x8 x9 x10 x11 r0 r1 r3 r4 r5 r6 r7 r8) fun r9 =>
some (decide (r9<0))) fun v1 =>
br (v1) (
some (.inr (.inl v0))) (
some (.inl (WQ (v0+1)))))) (
some (.inr (.inr ())))
def zf(n:Nat)(l1:XB XO)(x3:Int):XA Bool :=
ob (
ob (α:=Int) (
ob (α:=(Int)⊕XC) (
bN (oJ n l1 x3) n 0) fun r0=>match r0 with
| .inl v0 =>
some v0
| .inr _ =>
some (-1)) fun v1 =>
some (decide (0<=v1))) fun v2 =>
some v2
def qM(n:Nat)(l1:XB XO):(XB (XP)×Int)->XA ((XB (XP)×Int) ⊕(XB XP)):=fun(l2,v0) =>
br (decide (v0<(l1.length:Int))) (
gd (bB v0 l1.length) (
ob (l1[v0.toNat]?) fun(x3,x4,x5,x6,x7,x8,x9,x10) =>
ob (Lc n x3 x4 x5 x6 x7 x8 x9 x10) fun(r3,l7) =>
ob (BU n r3 l7) fun(r0,l3,r1,l4) =>
gd (lim (l2++([(r0,l3,r1,l4)]:XB XP)).length) (
some (.inl ((l2++([(r0,l3,r1,l4)]:XB XP)),WQ (v0+1)))))) (
some (.inr l2))
def Dr(n:Nat)(l1:XB XO):XA (XB XP) :=
ob (
bN (qM n l1) n (([]:XB XP),0)) fun l93 =>
some l93
def BV(n:Nat)(x1:Bool)(l2:XB (Nat))(x7:Bool)(l8:XB (Nat))(x13:Bool)(l14:XB (Nat))(x19:Bool)(l20:XB (Nat)):XA XP :=
ob (Ec n x1 l2 x13 l14) fun(r29,l30) =>
ob (Ec n x7 l8 x19 l20) fun(r35,l36) =>
ob (CC n r29 l30 r35 l36) fun(r41,l42,r46,l47) =>
some (r41,l42,r46,l47)
def Gu(n:Nat)(x1:Bool)(l2:XB (Nat))(x7:Bool)(l8:XB (Nat))(x13:Bool)(l14:XB (Nat))(x19:Bool)(l20:XB (Nat)):XA XP :=
ob (Ec n x1 l2 x19 l20) fun(r29,l30) =>
ob (Ec n x7 l8 x13 l14) fun(r35,l36) =>
ob (CC n r29 l30 r35 l36) fun(r41,l42,r46,l47) =>
some (r41,l42,r46,l47)
def MC(n:Nat)(x1:Bool)(l2:XB (Nat))(x7:Bool)(l8:XB (Nat)):XA XP :=
ob (A4 n x1 l2) fun(r16,l17) =>
some (r16,l17,x7,l8)
def Gd(n:Nat)(x1:Bool)(l2:XB (Nat))(x7:Bool)(l8:XB (Nat))(x13:Bool)(l14:XB (Nat))(x19:Bool)(l20:XB (Nat)):XA XP :=
ob (MC n x13 l14 x19 l20) fun(r29,l30,r34,l35) =>
ob (AZ n x1 l2 x7 l8 r29 l30 r34 l35) fun(r40,l41,r45,l46) =>
some (r40,l41,r45,l46)
def qf(n:Nat)(l1:XB XP):(XB XN×Int)->XA ((XB XN×Int) ⊕(Int ⊕(XB XN))):=fun(l2,v0) =>
br (decide (v0<(l1.length:Int))) (
gd (bB v0 l1.length) (
ob (l1[v0.toNat]?) fun(x3,l3,x4,l4) =>
ob (Cr n x3 l3 x4 l4) fun(r0,r1,r3,r4,r5,r6,r7,r8,r9,r10,r11,r12,r13,r14,r15,r16,r17) =>
br (!decide (r17=0)) (
some (.inr (.inl r17))) (
gd (lim (l2++[(r0,r1,r3,r4,r5,r6,r7,r8,r9,r10,r11,r12,r13,r14,r15,r16)]).length) (
some (.inl ((l2++[(r0,r1,r3,r4,r5,r6,r7,r8,r9,r10,r11,r12,r13,r14,r15,r16)]),WQ (v0+1))))))) (
some (.inr (.inr l2)))
def BQ(n:Nat)(l1:XB XP):XA (XB XN×Int) :=
ob (α:=(Int) ⊕(XB XN)) (
bN (qf n l1) n (([]:XB XN),0)) fun r0=>match r0 with
| .inl v0 =>
some ([],v0)
| .inr l2 =>
some (l2,0)
def wy(n:Nat)(l1:XB (XB XN))(v1:Int)(l3:XB XP):(XB (XP)×Bool×XB (Nat)×Bool×XB (Nat)×Int)->XA ((XB (XP)×Bool×XB (Nat)×Bool×XB (Nat)×Int) ⊕(XB (XP)×Bool×XB (Nat)×Bool×XB (Nat))):=fun(l2,v2,l8,v3,l9,v0) =>
br (decide (v0<(l1.length:Int))) (
ob (
gd (bB v1 l1.length) (
ob (l1[v1.toNat]?) fun l11 =>
gd (bB v0 l11.length) (
ob (l11[v0.toNat]?) fun(x3,x4,x5,x6,x7,x8,x9,x10,x11,x12,x14,x15,x16,x17,x18,x19) =>
ob (GW n x3 x4 x5 x6 x7 x8 x9 x10 x11 x12 x14 x15 x16 x17 x18 x19) fun(r0,l4,r1,l7) =>
gd (bB v0 l1.length) (
ob (l1[v0.toNat]?) fun l12 =>
gd (bB v1 l12.length) (
ob (l12[v1.toNat]?) fun(x20,x21,x22,x23,x24,x25,x26,x27,x28,x29,x30,x31,x32,x33,x34,x35) =>
ob (GW n x20 x21 x22 x23 x24 x25 x26 x27 x28 x29 x30 x31 x32 x33 x34 x35) fun(r5,l15,r6,l16) =>
gd (bB v0 ((l1.length:Int).toNat)) (
ob (l2[v0.toNat]?) fun(x42,l30,x43,l31) =>
ob (
gd (bB v0 l3.length) (
ob (l3[v0.toNat]?) fun(x36,l17,x37,l18) =>
ob (BV n r5 l15 r6 l16 x36 l17 x37 l18) fun(r7,l19,r8,l20) =>
gd (bB v1 l3.length) (
ob (l3[v1.toNat]?) fun(x38,l21,x39,l22) =>
ob (Gu n r7 l19 r8 l20 x38 l21 x39 l22) fun(r3,l13,r4,l14) =>
ob (xI n r3 l13 r4 l14 r0 l4 r1 l7) fun r9 =>
br (decide (r9<0)) (
gd (bB v0 ((l1.length:Int).toNat)) (
ob ((l2.set v0.toNat (r0,l4,r1,l7))[v0.toNat]?) fun(x44,l32,x45,l33) =>
some ((l2.set v0.toNat (r0,l4,r1,l7)).set v0.toNat (r3,l13,r4,l14)))) (
some (l2.set v0.toNat (r0,l4,r1,l7)))))) fun l10 =>
br (!decide (v1=v0)) (
gd (bB v0 ((l1.length:Int).toNat)) (
ob (l10[v0.toNat]?) fun(x40,l23,x41,l24) =>
ob (Gd n v2 l8 v3 l9 x40 l23 x41 l24) fun(r10,l25,r11,l26) =>
some (l10,r10,l25,r11,l26))) (
some (l10,v2,l8,v3,l9)))))))) fun(l27,v4,l28,v5,l29) =>
some (.inl (l27,v4,l28,v5,l29,WQ (v0+1)))) (
some (.inr (l2,v2,l8,v3,l9)))
def ud(n:Nat)(l1:XB (XB XN))(l7:XB XP):(XB (XB XN)×Int)->XA ((XB (XB XN)×Int) ⊕(Int ⊕(XB (XB XN)))):=fun(l2,v0) =>
br (decide (v0<(l1.length:Int))) (
gd (decide (0<=(l1.length:Int))) (gd (lim ((l1.length:Int).toNat)) (
ob (va n 1) fun(r1,l8,r3,l9) =>
ob (
bN (wy n l1 v0 l7) n ((List.replicate (l1.length:Int).toNat ((false,[],false,[]):XP)),r1,l8,r3,l9,0)) fun(l3,v1,l10,v2,l11) =>
gd (bB v0 ((l1.length:Int).toNat)) (
ob (l3[v0.toNat]?) fun(x3,l12,x4,l13) =>
ob (BQ n (l3.set v0.toNat (v1,l10,v2,l11))) fun(l4,r0) =>
br (!decide (r0=0)) (
some (.inr (.inl r0))) (
gd (lim (l2++([l4]:XB (XB XN))).length) (
some (.inl ((l2++([l4]:XB (XB XN))),WQ (v0+1))))))))) (
some (.inr (.inr l2)))
def KS(n:Nat)(l1:XB (XB XN))(l2:XB XO):XA (XB (XB XN)×Int) :=
ob (Lo n l1) fun r0 =>
br (!decide (r0=0)) (
some ([],r0)) (
ob (
br (!decide ((l2.length:Int)=(l1.length:Int))) (
some true) (
ob (zf n l2 1) fun r1 =>
some r1)) fun v0 =>
br (v0) (
some ([],2)) (
ob (Dr n l2) fun l3 =>
ob (α:=(Int) ⊕(XB (XB XN))) (
bN (ud n l1 l3) n (([]:XB (XB XN)),0)) fun r3=>match r3 with
| .inl v1 =>
some ([],v1)
| .inr l4 =>
some (l4,0)))
def tq(n:Nat):(XB (Nat)×XB (Int)×Int)->XA ((XB (Nat)×XB (Int)×Int) ⊕(XB (Int))):=fun(l20,l21,v23) =>
br (decide (v23<8)) (
gd (bB v23 8) (
ob (l20[v23.toNat]?) fun x40 =>
gd (bB v23 8) (
gd (lim (l21++[WQ ((x40%4294967296:Nat):Int),WQ ((uw .u64 (x40/4294967296):Nat):Int)]).length) (
some (.inl (l20,(l21++[WQ ((x40%4294967296:Nat):Int),WQ ((uw .u64 (x40/4294967296):Nat):Int)]),WQ (v23+1))))))) (
some (.inr l21))
def Hv(n:Nat)(x1:Nat)(x2:Nat)(x3:Nat)(x4:Nat)(x5:Nat)(x6:Nat)(x7:Nat)(x8:Nat):XA (XB Int) :=
ob (
bN (tq n) n (([x1,x2,x3,x4,x5,x6,x7,x8]:XB (Nat)),([]:XB (Int)),0)) fun l36 =>
some l36
def Il(n:Nat)(x1:Nat)(x2:Nat)(x3:Nat)(x4:Nat)(x5:Nat)(x6:Nat)(x7:Nat)(x8:Nat):XA (Bool×XB Int) :=
ob (Hv n x1 x2 x3 x4 x5 x6 x7 x8) fun l12 =>
br (decide (x8<9223372036854775808)) (
ob (jY n false l12) fun(r17,l18) =>
some (r17,l18)) (
gd (decide ((0:Int)<=17)) (gd (lim ((17:Int).toNat)) (
gd (bB 16 ((17:Int).toNat)) (
ob ((List.replicate (17:Int).toNat (0:Int))[(16:Int).toNat]?) fun x26 =>
ob (pD n l12) fun l30 =>
ob (uW n ((List.replicate (17:Int).toNat (0:Int)).set ((16:Int).toNat) 1) l30) fun l35 =>
ob (jY n true l35) fun(r40,l41) =>
some (r40,l41)))))
def I5(n:Nat)(x1:Bool)(l2:XB (Int)):XA Bool :=
br (decide ((l2.length:Int)=1)) (
gd (bB 0 l2.length) (
ob (l2[WR]?) fun x11 =>
br (decide (x11=1)) (
some (!x1)) (
some false))) (
some false)
def Ia(n:Nat)(x1:Nat)(x2:Nat)(x3:Nat)(x4:Nat)(x5:Nat)(x6:Nat)(x7:Nat)(x8:Nat)(x9:Nat)(x10:Nat)(x11:Nat)(x12:Nat)(x13:Nat)(x14:Nat)(x15:Nat)(x16:Nat):XA Bool :=
ob (Il n x1 x2 x3 x4 x5 x6 x7 x8) fun(r19,l20) =>
ob (Il n x9 x10 x11 x12 x13 x14 x15 x16) fun(r25,l26) =>
br (!r25) (
br (decide (0<(l26.length:Int))) (
ob (GA n r19 l20 r25 l26) fun(r35,l36) =>
ob (I5 n r35 l36) fun r41 =>
some r41) (
some false)) (
some false)
def th(n:Nat)(l1:XB XN):Int->XA (Int⊕XC⊕XC):=fun v6 =>
br (decide (v6<(l1.length:Int))) (
gd (bB v6 l1.length) (
ob (l1[v6.toNat]?) fun(x36,x37,x38,x39,x40,x41,x42,x43,x44,x45,x46,x47,x48,x49,x50,x51) =>
ob (Ia n x36 x37 x38 x39 x40 x41 x42 x43 x44 x45 x46 x47 x48 x49 x50 x51) fun r54 =>
br (!r54) (
some (.inr (.inl ()))) (
some (.inl (WQ (v6+1)))))) (
some (.inr (.inr ())))
def vo(n:Nat)(l1:XB XN):XA Bool :=
ob (α:=(XC)⊕XC) (
bN (th n l1) n 0) fun r57=>match r57 with
| .inl _ =>
some false
| .inr _ =>
some true
def zy(n:Nat):XA (Bool×XB Int×Bool×XB Int) :=
ob (vj n 0 1) fun(r3,l4,r8,l9) =>
some (r3,l4,r8,l9)
def u6(n:Nat)(x1:Nat)(x2:Nat)(x3:Nat)(x4:Nat)(x5:Nat)(x6:Nat)(x7:Nat)(x8:Nat)(x9:Nat)(x10:Nat)(x11:Nat)(x12:Nat)(x13:Nat)(x14:Nat)(x15:Nat)(x16:Nat):XA (Bool×XB Int×Bool×XB Int) :=
ob (Il n x1 x2 x3 x4 x5 x6 x7 x8) fun(r20,l21) =>
ob (Il n x9 x10 x11 x12 x13 x14 x15 x16) fun(r26,l27) =>
some (r20,l21,r26,l27)
def uJ(n:Nat)(l6:XB (Int))(v1:Int)(n2:Nat)(l1:XB (Int)):(XB (Int)×Nat×Int)->XA ((XB (Int)×Nat×Int) ⊕(XB (Int)×Nat)):=fun(l2,v2,v0) =>
br (decide (v0<(l6.length:Int))) (
gd (bB (WQ (v1+v0)) n2) (
ob (l2[(WQ (v1+v0)).toNat]?) fun x3 =>
gd (bB v1 l1.length) (
ob (l1[v1.toNat]?) fun x4 =>
gd (bB v0 l6.length) (
ob (l6[v0.toNat]?) fun x5 =>
ob (some (uw .u64 ((uw .u64 (v2+(ui .u64 x3)))+(uw .u64 ((ui .u64 x4)*(ui .u64 x5)))))) fun y2 =>
gd (bB (WQ (v1+v0)) n2) (
some (.inl ((l2.set ((WQ (v1+v0)).toNat) (WQ ((y2%4294967296:Nat):Int))),uw .u64 (y2/4294967296),WQ (v0+1)))))))) (
some (.inr (l2,v2)))
def tT(n:Nat)(l1:XB (Int))(l6:XB (Int)):(XB (Int)×Nat×Int)->XA ((XB (Int)×Nat×Int) ⊕(XB (Int)×Nat)):=fun(l2,n2,v0) =>
br (decide (v0<(l1.length:Int))) (
ob (
bN (uJ n l6 v0 n2 l1) n (l2,0,0)) fun(l3,v1) =>
gd (bB (WQ (v0+(l6.length:Int))) n2) (
ob (l3[(WQ (v0+(l6.length:Int))).toNat]?) fun x3 =>
some (.inl ((l3.set ((WQ (v0+(l6.length:Int))).toNat) (WQ ((v1:Nat):Int))),n2,WQ (v0+1))))) (
some (.inr (l2,n2)))
def J2(n:Nat)(l1:XB (Int))(l6:XB (Int)):XA (XB Int) :=
gd (decide (0<=WQ ((l1.length:Int)+(l6.length:Int)))) (gd (lim ((WQ ((l1.length:Int)+(l6.length:Int))).toNat)) (
ob (
bN (tT n l1 l6) n ((List.replicate (WQ ((l1.length:Int)+(l6.length:Int))).toNat (0:Int)),(WQ ((l1.length:Int)+(l6.length:Int))).toNat,0)) fun(l2,n2) =>
ob (pD n l2) fun l3 =>
some l3))
def Cg(n:Nat)(x1:Bool)(l2:XB (Int))(x7:Bool)(l8:XB (Int)):XA (Bool×XB Int) :=
ob (J2 n l2 l8) fun l17 =>
ob (jY n (!(x1==x7)) l17) fun(r22,l23) =>
some (r22,l23)
def vk(n:Nat)(x1:Bool)(l2:XB (Int))(x7:Bool)(l8:XB (Int))(x13:Bool)(l14:XB (Int))(x19:Bool)(l20:XB (Int)):XA (Bool×XB Int×Bool×XB Int) :=
ob (Cg n x1 l2 x19 l20) fun(r29,l30) =>
ob (Cg n x13 l14 x7 l8) fun(r35,l36) =>
ob (rE n r29 l30 r35 l36) fun(r41,l42) =>
ob (Cg n x7 l8 x19 l20) fun(r47,l48) =>
ob (zP n r41 l42 r47 l48) fun(r53,l54,r58,l59) =>
some (r53,l54,r58,l59)
def Bi(n:Nat)(x1:Bool)(l2:XB (Int))(x6:Bool)(l7:XB (Int)):XA Int :=
ob (FX n x1 l2 x6 l7) fun(r14,l15) =>
br (r14) (
some (-1)) (
br (decide (0<(l15.length:Int))) (
some 1) (
some 0))
def zx(n:Nat)(x1:Bool)(l2:XB (Int))(x6:Bool)(l7:XB (Int))(x11:Bool)(l12:XB (Int))(x16:Bool)(l17:XB (Int)):XA Int :=
ob (Cg n x1 l2 x16 l17) fun(r24,l25) =>
ob (Cg n x11 l12 x6 l7) fun(r30,l31) =>
ob (Bi n r24 l25 r30 l31) fun r36 =>
some r36
def lM(n:Nat)(l1:XB XN):(Bool×XB (Int)×Bool×XB (Int)×Int)->XA ((Bool×XB (Int)×Bool×XB (Int)×Int) ⊕(XC ⊕(Bool×XB (Int)×Bool×XB (Int)))):=fun(v1,l2,v2,l3,v0) =>
br (decide (v0<(l1.length:Int))) (
gd (bB v0 l1.length) (
ob (l1[v0.toNat]?) fun(x3,x4,x5,x6,x7,x8,x9,x10,x11,x12,x14,x15,x16,x17,x18,x19) =>
ob (u6 n x3 x4 x5 x6 x7 x8 x9 x10 x11 x12 x14 x15 x16 x17 x18 x19) fun(r0,l4,r1,l7) =>
br (r0) (
some (.inr (.inl ()))) (
ob (vk n v1 l2 v2 l3 r0 l4 r1 l7) fun(r3,l8,r4,l9) =>
some (.inl (r3,l8,r4,l9,WQ (v0+1)))))) (
some (.inr (.inr (v1,l2,v2,l3))))
def Dy(n:Nat)(l1:XB XN):XA Bool :=
ob (zy n) fun(r0,l2,r1,l3) =>
ob (α:=(XC) ⊕(Bool×XB (Int)×Bool×XB (Int))) (
bN (lM n l1) n (r0,l2,r1,l3,0)) fun r3=>match r3 with
| .inl _ =>
some false
| .inr (v0,l4,v1,l7) =>
ob (vj n 1 1) fun(r4,l8,r5,l9) =>
ob (zx n v0 l4 v1 l7 r4 l8 r5 l9) fun r6 =>
some (decide (r6=0))
def k7(n:Nat)(l1:XB (XB XN)):Int->XA (Int⊕XC⊕XC):=fun v0 =>
br (decide (v0<(l1.length:Int))) (
ob (
gd (bB v0 l1.length) (
ob (l1[v0.toNat]?) fun l2 =>
br (!decide ((l2.length:Int)=(l1.length:Int))) (
some true) (
gd (bB v0 l1.length) (
ob (vo n l2) fun r0 =>
br (!r0) (
some true) (
gd (bB v0 l1.length) (
ob (Dy n l2) fun r1 =>
some (!r1))))))) fun v1 =>
br (v1) (
some (.inr (.inl ()))) (
some (.inl (WQ (v0+1))))) (
some (.inr (.inr ())))
def M4(n:Nat)(l1:XB (XB XN)):XA Bool :=
ob (
br (decide ((l1.length:Int)<1)) (
some true) (
some (decide (60<(l1.length:Int))))) fun v0 =>
br (v0) (
some false) (
ob (α:=(XC)⊕XC) (
bN (k7 n l1) n 0) fun r0=>match r0 with
| .inl _ =>
some false
| .inr _ =>
some true)
def nr(n:Nat)(v1:Int)(l2:XB XP)(l1:XB (XB XN)):(Bool×Int)->XA ((Bool×Int)⊕XC⊕Bool):=fun(v2,v0) =>
br (decide (v0<v1)) (
gd (bB v1 l2.length) (
ob (l2[v1.toNat]?) fun(x3,l7,x4,l8) =>
gd (bB v1 l1.length) (
ob (l1[v1.toNat]?) fun l3 =>
gd (bB v0 l3.length) (
ob (l3[v0.toNat]?) fun(x5,x6,x7,x8,x9,x10,x11,x12,x14,x15,x16,x17,x18,x19,x20,x21) =>
ob (GW n x5 x6 x7 x8 x9 x10 x11 x12 x14 x15 x16 x17 x18 x19 x20 x21) fun(r0,l9,r1,l10) =>
ob (BV n x3 l7 x4 l8 r0 l9 r1 l10) fun(r3,l11,r4,l12) =>
gd (bB v0 l2.length) (
ob (l2[v0.toNat]?) fun(x22,l13,x23,l14) =>
gd (bB v0 l1.length) (
ob (l1[v0.toNat]?) fun l4 =>
gd (bB v1 l4.length) (
ob (l4[v1.toNat]?) fun(x24,x25,x26,x27,x28,x29,x30,x31,x32,x33,x34,x35,x36,x37,x38,x39) =>
ob (GW n x24 x25 x26 x27 x28 x29 x30 x31 x32 x33 x34 x35 x36 x37 x38 x39) fun(r5,l15,r6,l16) =>
ob (BV n x22 l13 x23 l14 r5 l15 r6 l16) fun(r7,l17,r8,l18) =>
ob (xI n r3 l11 r4 l12 r7 l17 r8 l18) fun r9 =>
br (!decide (r9=0)) (
some (.inr (.inl ()))) (
some (.inl (v2,WQ (v0+1))))))))))) (
some (.inr (.inr v2)))
def oU(n:Nat)(l1:XB (XB XN))(l2:XB XP):(Bool×Int)->XA ((Bool×Int)⊕Bool):=fun(v1,v0) =>
br (decide (v0<(l1.length:Int))) (
ob (α:=(XC)⊕Bool) (
bN (nr n v0 l2 l1) n (v1,0)) fun r0=>match r0 with
| .inl _ =>
some (.inr false)
| .inr v2 =>
some (.inl (v2,WQ (v0+1)))) (
some (.inr v1))
def M5(n:Nat)(l1:XB (XB XN))(l2:XB XO):XA (Bool×Int) :=
ob (Lo n l1) fun r0 =>
br (!decide (r0=0)) (
some (false,r0)) (
ob (
br (!decide ((l2.length:Int)=(l1.length:Int))) (
some true) (
ob (zf n l2 0) fun r1 =>
some r1)) fun v0 =>
br (v0) (
some (false,2)) (
ob (Dr n l2) fun l3 =>
ob (
bN (oU n l1 l3) n (true,0)) fun v1 =>
some (v1,0)))
def vO(n:Nat)(v1:Int)(l1:XB (XB XN))(l2:XB XN)(l4:XB (XB XN))(l3:XB XN):Int->XA (Int⊕XC⊕XC):=fun v0 =>
gd (bB v1 l1.length) (
br (decide (v0<(l2.length:Int))) (
gd (bB v1 l1.length) (
gd (bB v0 l2.length) (
ob (l2[v0.toNat]?) fun(x3,x4,x5,x6,x7,x8,x9,x10,x11,x12,x14,x15,x16,x17,x18,x19) =>
gd (bB v1 l4.length) (
gd (bB v0 l3.length) (
ob (l3[v0.toNat]?) fun(x20,x21,x22,x23,x24,x25,x26,x27,x28,x29,x30,x31,x32,x33,x34,x35) =>
br (!(decide (x3=x20)&&decide (x4=x21)&&decide (x5=x22)&&decide (x6=x23)&&decide (x7=x24)&&decide (x8=x25)&&decide (x9=x26)&&decide (x10=x27)&&decide (x11=x28)&&decide (x12=x29)&&decide (x14=x30)&&decide (x15=x31)&&decide (x16=x32)&&decide (x17=x33)&&decide (x18=x34)&&decide (x19=x35))) (
some (.inr (.inl ()))) (
some (.inl (WQ (v0+1))))))))) (
some (.inr (.inr ()))))
def zJ(n:Nat)(l1:XB (XB XN))(l2:XB (XB XN)):Int->XA (Int⊕XC⊕XC):=fun v0 =>
br (decide (v0<(l1.length:Int))) (
gd (bB v0 l1.length) (
ob (l1[v0.toNat]?) fun l3 =>
gd (bB v0 l2.length) (
ob (l2[v0.toNat]?) fun l4 =>
br (!decide ((l3.length:Int)=(l4.length:Int))) (
some (.inr (.inl ()))) (
ob (α:=(XC)⊕XC) (
bN (vO n v0 l1 l3 l2 l4) n 0) fun r0=>match r0 with
| .inl _ =>
some (.inr (.inl ()))
| .inr _ =>
some (.inl (WQ (v0+1))))))) (
some (.inr (.inr ())))
def Q2(n:Nat)(l1:XB (XB XN))(l2:XB (XB XN)):XA Bool :=
br (!decide ((l1.length:Int)=(l2.length:Int))) (
some false) (
ob (α:=(XC)⊕XC) (
bN (zJ n l1 l2) n 0) fun r0=>match r0 with
| .inl _ =>
some false
| .inr _ =>
some true)
def KM(n:Nat)(x1:Bool)(l2:XB (Nat))(x7:Bool)(l8:XB (Nat)):XA XP :=
some (x1,l2,x7,l8)
def vS(n:Nat)(l2:XB XP):(Bool×XB (Nat)×Bool×XB (Nat)×Int)->XA ((Bool×XB (Nat)×Bool×XB (Nat)×Int) ⊕(Bool×XB (Nat)×Bool×XB (Nat))):=fun(v1,l3,v2,l4,v0) =>
br (decide (v0<(l2.length:Int))) (
gd (bB v0 l2.length) (
ob (l2[v0.toNat]?) fun(x3,l7,x4,l8) =>
ob (KM n x3 l7 x4 l8) fun(r0,l9,r1,l10) =>
ob (AZ n v1 l3 v2 l4 r0 l9 r1 l10) fun(r3,l11,r4,l12) =>
some (.inl (r3,l11,r4,l12,WQ (v0+1))))) (
some (.inr (v1,l3,v2,l4)))
def s8(n:Nat)(l2:XB XP)(v1:Bool)(l4:XB (Nat))(v2:Bool)(l7:XB (Nat)):(XB (XP)×Int)->XA ((XB (XP)×Int) ⊕(XB XP)):=fun(l3,v0) =>
br (decide (v0<(l2.length:Int))) (
gd (bB v0 l2.length) (
ob (l3[v0.toNat]?) fun(x3,l8,x4,l9) =>
ob (Gu n x3 l8 x4 l9 v1 l4 v2 l7) fun(r0,l10,r1,l11) =>
gd (bB v0 l2.length) (
some (.inl ((l3.set v0.toNat (r0,l10,r1,l11)),WQ (v0+1)))))) (
some (.inr l3))
def M3(n:Nat)(l1:XB XO):XA (XB XN×Int) :=
br (decide (60<(l1.length:Int))) (
some ([],3)) (
ob (zf n l1 0) fun r0 =>
br (r0) (
some ([],2)) (
ob (Dr n l1) fun l2 =>
ob (
ob (va n 0) fun(r1,l4,r3,l7) =>
ob (
bN (vS n l2) n (r1,l4,r3,l7,0)) fun(v1,l8,v2,l9) =>
some (v1,l8,v2,l9)) fun(v0,l3,v3,l10) =>
ob (Nf n v0 l3) fun r4 =>
br (decide (r4=0)) (
some ([],7)) (
ob (
bN (s8 n l2 v0 l3 v3 l10) n (l2,0)) fun l11 =>
ob (BQ n l11) fun(l12,r5) =>
some (l12,r5))))
def NC(n:Nat)(x1:Nat)(x2:Nat)(x3:Nat)(x4:Nat)(x5:Nat)(x6:Nat)(x7:Nat)(x8:Nat)(x9:Nat)(x10:Nat)(x11:Nat)(x12:Nat)(x13:Nat)(x14:Nat)(x15:Nat)(x16:Nat):XA Bool :=
ob (F3 n x1 x2 x3 x4 x5 x6 x7 x8 x9 x10 x11 x12 x13 x14 x15 x16) fun r19 =>
some (!decide (r19=0))
def Bp(n:Nat)(l2:XB XN):Int->XA (Int⊕Int⊕XC):=fun v0 =>
br (decide (v0<(l2.length:Int))) (
gd (bB v0 l2.length) (
ob (l2[v0.toNat]?) fun(x3,x4,x5,x6,x7,x8,x9,x10,x11,x12,x14,x15,x16,x17,x18,x19) =>
ob (NC n x3 x4 x5 x6 x7 x8 x9 x10 x11 x12 x14 x15 x16 x17 x18 x19) fun r0 =>
br (r0) (
some (.inr (.inl v0))) (
some (.inl (WQ (v0+1)))))) (
some (.inr (.inr ())))
def Ac(n:Nat)(l1:XB XN)(l5:XB XN):Int->XA (Int⊕XC⊕XC):=fun v11 =>
br (decide (v11<(l1.length:Int))) (
gd (bB v11 l1.length) (
ob (l1[v11.toNat]?) fun(x59,x60,x61,x62,x63,x64,x65,x66,x67,x68,x69,x70,x71,x72,x73,x74) =>
gd (bB v11 l5.length) (
ob (l5[v11.toNat]?) fun(x79,x80,x81,x82,x83,x84,x85,x86,x87,x88,x89,x90,x91,x92,x93,x94) =>
br (!(decide (x59=x79)&&decide (x60=x80)&&decide (x61=x81)&&decide (x62=x82)&&decide (x63=x83)&&decide (x64=x84)&&decide (x65=x85)&&decide (x66=x86)&&decide (x67=x87)&&decide (x68=x88)&&decide (x69=x89)&&decide (x70=x90)&&decide (x71=x91)&&decide (x72=x92)&&decide (x73=x93)&&decide (x74=x94))) (
some (.inr (.inl ()))) (
some (.inl (WQ (v11+1))))))) (
some (.inr (.inr ())))
def QN(n:Nat)(l1:XB XN)(l5:XB XN):XA Bool :=
br (!decide ((l1.length:Int)=(l5.length:Int))) (
some false) (
ob (α:=(XC)⊕XC) (
bN (Ac n l1 l5) n 0) fun r98=>match r98 with
| .inl _ =>
some false
| .inr _ =>
some true)
end Go.Proofs.YtpkadoocdgdcfaaGreatDoor
end
section
namespace Go.Proofs.YtpkadoocdgdcfaaGreatDoor
set_option exponentiation.threshold 30000
section
open Go Go.Ab Go.Ab.W
def Dg(v:Nat):XB Int:=if h:v=0 then[] else((v%4294967296:Nat):Int)::Dg (v/4294967296)
termination_by v
decreasing_by exact Nat.div_lt_self (Us h) (by decide)
def gP:Dg 0=[]:=by rw[Dg]; rfl
def gX{v:Nat}(h:v≠0):Dg v=((v%4294967296:Nat):Int)::Dg (v/4294967296):=by rw[Dg,dif_neg h]
def Ag{v:Nat}(h0:v≠0)(h:v<4294967296):Dg v=[(v:Int)]:=by
 rw[gX h0,UG h,Vy h,gP]
def lT{v:Nat}:Dg v=[]↔v=0:=by
 constructor
 intro h;refine Vx fun hv=>?_;rw[gX hv] at h;cases h
 rintro rfl;exact gP
def dk:Nat->Nat->XB Int
 | 0,_=>[]
 | k+1,v=>((v%4294967296:Nat):Int)::dk k (v/4294967296)
def yN:∀(k v:Nat),(dk k v).length=k
 | 0,_=>rfl
 | k+1,v=>by rw[dk,UK,yN k]
def D8:∀(k:Nat),dk k 0=List.replicate k 0
 | 0=>rfl
 | k+1=>by rw[dk,Vl,show 0/4294967296=0 from rfl,D8 k]; rfl
def qO:∀(k v:Nat),v<4294967296 ^ k->dk k v=Dg v++List.replicate (k-(Dg v).length) 0
 | 0,v,h=>by
  have:v=0:=by simpa using h
  subst this;rw[gP]; rfl
 | k+1,v,h=>by
  by_cases h0:v=0
  subst h0; rw[D8,gP]; rfl
  rw[dk,gX h0,qO k (v/4294967296) (by rw[UW] at h; exact Nat.div_lt_of_lt_mul (by rwa[Uo])),Ws,UK,Nat.succ_sub_succ]
def EU:∀(v:Nat) (x:Int),(Dg v).getLast? = some x->x≠0:=fun v=>by
 induction v using Nat.strongRecOn with
 | ind v ih =>
  intro x h
  by_cases h0:v=0
  subst h0; rw[gP] at h; cases h
  ·rw[gX h0] at h
   by_cases h1:v/4294967296=0
   rw[h1,gP] at h;simp at h;omega
   ·have hne:Dg (v/4294967296)≠[]:=fun c=>h1 (lT.1 c);refine ih (v/4294967296) (Nat.div_lt_self (Us h0) (by decide)) x ?_
    cases hd:Dg (v/4294967296) with
    | nil=>exact Uy hd hne
    | cons y ys=>rw[hd] at h; rwa[List.getLast?_cons_cons] at h
def iT:∀(v:Nat),v<4294967296 ^ (Dg v).length:=fun v=>by
 induction v using Nat.strongRecOn with
 | ind v ih =>
  by_cases h0:v=0
  subst h0; rw[gP]; decide
  rw[gX h0,UK,UW];have:=ih (v/4294967296) (Nat.div_lt_self (Us h0) (by decide))
  exact(U5 (by decide)).1 this
def wA{v k:Nat}(h:v<4294967296 ^ k):(Dg v).length<=k:=by
 have:=VB List.length (qO k v h);rw[yN,Uf,List.length_replicate] at this;omega
@[irreducible] def DM:Nat:=4294967296 ^ 20000
def vZ:DM=4294967296 ^ 20000:=by unfold DM; rfl
def iD{v:Nat}(h:v<DM):(Dg v).length<=20000:=wA (vZ▸h)
def uH{v:Nat}(h:v<18446744073709551616):v<DM:=by
 rw[vZ];exact Uc h (Up (n:=4294967296) (by decide) (show 2<=20000 by decide))
section
variable(n:Nat)
def PL{lo hi:Int}{k:Nat}(h:0<=lo/\lo<=hi/\hi<=(k:Int)):okB lo hi k=true:=Ud h
def gW{k:Nat}(h:k<=1073741824):lim k=true:=U9 h
def Qq{x:Nat}(h:x<18446744073709551616):ui .u64 (x:Int)=x:=by
 rw[Dx,fJ (by omega)]
def vU{l:XB Int}{e:Nat}(hl:l.length<1000000)(hz:∀i,e<=i->i<l.length->l[i]? = some 0)(hx:e=0\/∃x,l[e-1]? = some x/\x≠0)(he:e<=l.length) :
  ∀(j m:Nat),e+j<=l.length->j<m->bN (tF n l) m ((e+j:Nat):Int)=some (e:Int)
 | 0,m+1,h1,h2=>by
  rw[bI];unfold tF
  by_cases h0:e=0
  subst h0;rw[Xn,ab,bK]
  obtain⟨x,g1,g2⟩:=hx.resolve_left h0;rw[Xm,aA (by omega) (by omega),show((e+0:Nat):Int)-1=((e-1:Nat):Int) by omega,ak (by omega),ay,T5,g1,ab,ab,Um g2,bK]; rfl
 | j+1,m+1,h1,h2=>by
  rw[bO (s':=((e+j:Nat):Int)),vU hl hz hx he j m (by omega) (by omega)]
  unfold tF;rw[Xm,aA (by omega) (by omega),show((e+(j+1):Nat):Int)-1=((e+j:Nat):Int) by omega,ak (by omega),ay,T5,hz (e+j) (by omega) (by omega),ab,ab,az rfl]
def ES{l:XB Int}{k:Nat}(hl:l.length+k<1000000)(hx:∀x,l.getLast? = some x->x≠0)(hn:1000000<n):pD n (l++List.replicate k 0)=some l:=by
 have hlen:(l++List.replicate k (0:Int)).length=l.length+k:=by simp
 unfold pD;rw[hlen,vU n (l:=l++List.replicate k 0) (e:=l.length) (by omega) (fun i h1 h2=>by
   rw[UJ h1,Vu,Ui (by rw[hlen] at h2; omega)]) (by
   by_cases h0:l.length=0
   exact .inl h0
   right
   rw[U1 (by omega)]
   refine⟨l[l.length-1]'(by omega),T6 _,hx _ ?_⟩
   rw[List.getLast?_eq_getElem?];exact T6 _) (by omega) k n (by omega) (by omega),ab,PL (by omega),ay]
 simp
def qg{k v:Nat}(h:v<4294967296 ^ k)(hk:k<400000)(hn:1000000<n):pD n (dk k v)=some (Dg v):=by
 have hl:(Dg v).length<=k:=by
  have:=VB List.length (qO k v h);rw[yN,Uf,List.length_replicate] at this;omega
 rw[qO k v h];exact ES n (by omega) (EU v) hn
def CE{v:Nat}(h:(Dg v).length<400000)(hn:1000000<n):pD n (Dg v)=some (Dg v):=by
 have:=ES n (l:=Dg v) (k:=0) (by omega) (EU v) hn
 simpa using this
def BW{l l':XB Int}(h:pD n l=some l'):jY n false l=some (false,l'):=by
 unfold jY;rw[h,ab,bK]
def OU{l l':XB Int}(h:pD n l=some l')(h0:l'≠[]):jY n true l=some (true,l'):=by
 unfold jY;rw[h,ab,cx,Ud];have:=V5.2 h0;omega
def ue{v:Nat}(h:v<9223372036854775808)(hn:1000000<n):Kj n (v:Int)=some (false,Dg v):=by
 unfold Kj;rw[Xn,ab,Um (by omega),Qq (by omega),fJ (by omega),aA (by omega) (by omega),aA (by omega) (by omega),BW n (l':=Dg v),ab]
 have:=qg n (k:=2) (v:=v) (by show v<18446744073709551616; omega) (by decide) hn
 rwa[show dk 2 v=[((v%4294967296:Nat):Int),((v/4294967296:Nat):Int)] by
  rw[dk,dk,dk,UG (show v/4294967296<4294967296 by omega)]] at this
def gD{l:XB Int}{a i:Nat}(h:l.drop i=Dg a):(a=0/\l.length<=i)\/(a≠0/\i<l.length/\l[i]? = some ((a%4294967296:Nat):Int)/\l.drop (i+1)=Dg (a/4294967296)):=by
 by_cases h0:a=0
 subst h0;rw[gP] at h;exact .inl ⟨rfl,List.drop_eq_nil_iff.1 h⟩
 right
 rw[gX h0] at h;have hi:i<l.length:=Vx fun c=>by rw[List.drop_eq_nil_iff.2 (by omega)] at h; cases h
 rw[VJ hi] at h;injection h with h1 h2;exact⟨h0,hi,by rw[T6 hi,h1],h2⟩
def we{l1 l5:XB Int}:∀(k a b c i:Nat) (acc:XB Int),l1.drop i=Dg a->l5.drop i=Dg b->a+b+c<4294967296 ^ k->c<=1->i+k<=1000000->acc.length=i ->
  ∀M,k<M->bN (uk n l1 l5) M (acc,(c:Int),(i:Int))=some (acc++Dg (a+b+c))
 | k,a,b,c,i,acc,h1,h2,h3,h4,h5,h6,M+1,h7=>by
  by_cases hz:a=0/\b=0/\c=0
  obtain⟨rfl,rfl,rfl⟩:=hz;have e1:=(gD h1).resolve_right fun g=>g.1 rfl;have e2:=(gD h2).resolve_right fun g=>g.1 rfl;rw[bI (r:=acc),gP,Vc];unfold uk
  dsimp only
  rw[Xn,Xn,ab,Xn]
  ·match k with
   | 0=>simp at h3; omega
   | k+1 =>
    have hp:(4294967296:Nat) ^ (k+1)=4294967296*4294967296 ^ k:=by rw[UW,Uo]
    have ih:=we k (a/4294967296) (b/4294967296) ((a%4294967296+b%4294967296+c)/4294967296) (i+1) (acc++[(((a%4294967296+b%4294967296+c)%4294967296:Nat):Int)])
     (by
      rcases gD h1 with⟨rfl,g⟩|g
      rw[show 0/4294967296=0 from rfl,gP]; exact(List.drop_eq_nil_iff (l:=l1)).2 (by omega)
      exact g.2.2.2)
     (by
      rcases gD h2 with⟨rfl,g⟩|g
      rw[show 0/4294967296=0 from rfl,gP]; exact(List.drop_eq_nil_iff (l:=l5)).2 (by omega)
      exact g.2.2.2) (by omega) (by omega) (by omega) (by simp[h6]) M (by omega)
    have hlim:lim (acc++[(((a%4294967296+b%4294967296+c)%4294967296:Nat):Int)]).length=true:=gW (by rw[Uf,h6,UB]; omega)
    rw[bO (s':=(acc++[(((a%4294967296+b%4294967296+c)%4294967296:Nat):Int)],(((a%4294967296+b%4294967296+c)/4294967296:Nat):Int),((i+1:Nat):Int))),ih,gX (v:=a+b+c) (by omega),
     show(a+b+c)%4294967296=(a%4294967296+b%4294967296+c)%4294967296 by omega,show(a+b+c)/4294967296=a/4294967296+b/4294967296+(a%4294967296+b%4294967296+c)/4294967296 by omega,Vq]
    rfl
    unfold uk
    dsimp only
    have fin:∀y:Int,y=((a%4294967296+b%4294967296+c:Nat):Int)->(gd (lim (acc++[Int.tmod y 4294967296]).length) (some (.inl ((acc++[Int.tmod y 4294967296]),WQ (Int.tdiv y 4294967296),WQ ((i:Int)+1)))):XA ((XB Int×Int×Int)⊕XB Int))=some (.inl (acc++[(((a%4294967296+b%4294967296+c)%4294967296:Nat):Int)],(((a%4294967296+b%4294967296+c)/4294967296:Nat):Int),((i+1:Nat):Int))):=by
     rintro y rfl;rw[show Int.tmod ((a%4294967296+b%4294967296+c:Nat):Int) 4294967296=(((a%4294967296+b%4294967296+c)%4294967296:Nat):Int) from rfl,hlim,ay,
      show Int.tdiv ((a%4294967296+b%4294967296+c:Nat):Int) 4294967296=(((a%4294967296+b%4294967296+c)/4294967296:Nat):Int) from rfl,aA (by omega) (by omega),aA (by omega) (by omega)]
     rfl
    rcases gD h1 with⟨a0,g1⟩|⟨a0,g1,g2,_⟩<;>rcases gD h2 with⟨b0,k1⟩|⟨b0,k1,k2,_⟩
    subst a0; subst b0;rw[Xn,Xn,ab,Xm,Xn,ab,Xn,ab]
    exact fin _ (by simp)
    subst a0;rw[Xn,Xm,ab,cx,Xn,ab,Xm,ak k1,ay,T5,k2,ab,ab,aA (by omega) (by omega)]
    exact fin _ (by omega)
    subst b0;rw[Xm,ab,cx,Xm,ak g1,ay,T5,g2,ab,ab,Xn,ab,aA (by omega) (by omega)]
    exact fin _ (by omega)
    rw[Xm,ab,cx,Xm,ak g1,ay,T5,g2,ab,ab,Xm,ak k1,ay,k2,ab,ab,aA (x:=(c:Int)+_) (by omega) (by omega),aA (by omega) (by omega)]
    exact fin _ (by omega)
def yA{a b:Nat}(h:a+b<DM)(hn:1000000<n):Fw n (Dg a) (Dg b)=some (Dg (a+b)):=by
 unfold Fw;have:=we n (l1:=Dg a) (l5:=Dg b) 20000 a b 0 0 [] rfl rfl (by rw[UZ,<-vZ]; exact h) (by decide) (by decide) rfl n (by omega)
 rw[show(([]:XB Int),(0:Int),(0:Int))=([],((0:Nat):Int),((0:Nat):Int)) from rfl,this,ab]
 rfl
def wD{l1 l6:XB Int}:∀(k a b c i:Nat) (acc:XB Int),l1.drop i=Dg a->l6.drop i=Dg b->a<4294967296 ^ k->b+c<=a->c<=1->i+k<=1000000->acc.length=i ->
  ∀M,k<M->bN (s9 n l1 l6) M (acc,(c:Int),(i:Int))=some (acc++dk (Dg a).length (a-b-c))
 | k,a,b,c,i,acc,h1,h2,h3,h5,h4,h6,h0,M+1,h7=>by
  rcases gD h1 with⟨rfl,g0⟩|⟨a0,g0,g1,g2⟩
  rw[bI (r:=acc),gP]
  simp[dk]
  unfold s9
  dsimp only
  rw[Xn]
  ·match k with
   | 0=>simp at h3; omega
   | k+1 =>
    have hp:(4294967296:Nat) ^ (k+1)=4294967296*4294967296 ^ k:=by rw[UW,Uo]
    have key:∃c':Nat,c'<=1/\b/4294967296+c'<=a/4294967296/\(a-b-c)/4294967296=a/4294967296-b/4294967296-c' /\
      ((a%4294967296:Nat):Int)-c-((b%4294967296:Nat):Int)+4294967296*c'=(((a-b-c)%4294967296:Nat):Int)/\(c'=1↔((a%4294967296:Nat):Int)-c-((b%4294967296:Nat):Int)<0):=by
     by_cases g:a%4294967296<b%4294967296+c
     exact⟨1,by omega,by omega,by omega,by omega,by omega⟩
     exact⟨0,by omega,by omega,by omega,by omega,by omega⟩
    obtain⟨c',k1,k2,k3,k4,k0⟩:=key;have ih:=wD k (a/4294967296) (b/4294967296) c' (i+1) (acc++[(((a-b-c)%4294967296:Nat):Int)]) g2
     (by
      rcases gD h2 with⟨rfl,g⟩|g
      rw[show 0/4294967296=0 from rfl,gP]; exact(List.drop_eq_nil_iff (l:=l6)).2 (by omega)
      exact g.2.2.2) (by omega) k2 k1 (by omega) (by simp[h0]) M (by omega)
    have hlim:lim (acc++[(((a-b-c)%4294967296:Nat):Int)]).length=true:=gW (by rw[Uf,h0,UB]; omega)
    rw[bO (s':=(acc++[(((a-b-c)%4294967296:Nat):Int)],(c':Int),((i+1:Nat):Int))),ih,gX a0,UK,dk,k3,Vq]
    rfl
    unfold s9
    dsimp only
    have fin:∀y:Int,y=((a%4294967296:Nat):Int)-c-((b%4294967296:Nat):Int)->(ob (br (decide (y<0)) (some ((1:Int),WQ (y+4294967296))) (some (0,y))) fun(v1,v0) =>
      gd (lim (acc++[v0]).length) (some (.inl ((acc++[v0]),v1,WQ ((i:Int)+1)))):XA ((XB Int×Int×Int)⊕XB Int))=some (.inl (acc++[(((a-b-c)%4294967296:Nat):Int)],(c':Int),((i+1:Nat):Int))):=by
     intro y hy
     by_cases hc:c'=1
     rw[az (by rw[hy]; exact k0.1 hc),ab,aA (by omega) (by omega),show y+4294967296=(((a-b-c)%4294967296:Nat):Int) by omega]
     dsimp only
     rw[hlim,ay,aA (by omega) (by omega),hc]; rfl
     rw[aC (by rw[hy]; exact fun h=>hc (k0.2 h)),ab,show y=(((a-b-c)%4294967296:Nat):Int) by omega]
     dsimp only
     rw[hlim,ay,aA (by omega) (by omega),show c'=0 by omega]; rfl
    rw[Xm,ak g0,ay,T5,g1,ab]
    rcases gD h2 with⟨b0,q0⟩|⟨b0,q0,q2,_⟩
    subst b0;rw[Xn,ab,aA (by omega) (by omega)]
    exact fin _ (by simp)
    rw[Xm,ak q0,ay,q2,ab,ab,aA (x:=((a%4294967296:Nat):Int)-(c:Int)) (by omega) (by omega),aA (by omega) (by omega)]
    exact fin _ rfl
def mU{a b:Nat}(h:b<=a)(ha:a<DM)(hn:1000000<n):uW n (Dg a) (Dg b)=some (Dg (a-b)):=by
 unfold uW;have:=wD n (l1:=Dg a) (l6:=Dg b) 20000 a b 0 0 [] rfl rfl (by rw[<-vZ]; exact ha) (by simpa using h) (by decide) (by decide) rfl n (by omega)
 have hl:=iD ha;rw[show(([]:XB Int),(0:Int),(0:Int))=([],((0:Nat):Int),((0:Nat):Int)) from rfl,this,ab,VA,V8,qg n (U6 (Nat.sub_le _ _) (iT a)) (by omega) hn,ab]
def tS:∀(v a:Nat),v<(Dg a).length->(Dg a)[v]? = some ((a/4294967296 ^ v%4294967296:Nat):Int)
 | 0,a,h=>by
  have h0:a≠0:=fun c=>by subst c; rw[gP] at h; cases h
  rw[gX h0,VV,WA]; rfl
 | v+1,a,h=>by
  have h0:a≠0:=fun c=>by subst c; rw[gP] at h; cases h
  rw[gX h0] at h ⊢;rw[U2,tS v (a/4294967296) (by simpa using h),UW,Uo,Vm]
def rM:∀(v a:Nat),(Dg a).drop v=Dg (a/4294967296 ^ v)
 | 0,a=>by rw[VV,WA]; rfl
 | v+1,a=>by
  by_cases h0:a=0
  subst h0; rw[Nat.zero_div,gP]; rfl
  rw[gX h0,List.drop_succ_cons,rM v,UW,Uo,Vm]
def MS{b:Nat}(h:b≠0):4294967296 ^ ((Dg b).length-1)<=b:=by
 have hl:0<(Dg b).length:=V5.2 fun c=>h (lT.1 c);have h1:=rM ((Dg b).length-1) b;have h2:((Dg b).drop ((Dg b).length-1)).length=1:=by rw[V6]; omega
 rw[h1] at h2;have h3:b/4294967296 ^ ((Dg b).length-1)≠0:=fun c=>by rw[c,gP] at h2; cases h2
 exact Vx fun c=>h3 (Vy (by omega))
def kD{a b:Nat}(h:(Dg a).length<(Dg b).length):a<b:=by
 have hb:b≠0:=fun c=>by subst c; rw[gP] at h; cases h
 refine Uc (iT a) (Ub (Up (by decide) (by omega)) (MS hb))
def wh{a b:Nat}(hl:(Dg a).length=(Dg b).length)(hb:(Dg b).length<400000):∀(k m:Nat),k<=(Dg b).length->k<m->a/4294967296 ^ k=b/4294967296 ^ k ->
  ∃r:Int⊕XC,bN (nX n (Dg a) (Dg b)) m ((k:Int)-1)=some r/\((a=b/\r=.inr ())\/∃x:Int,r=.inl x/\x≠0/\(0<x↔b<a)/\(x<0↔a<b))
 | 0,m+1,_,_,h=>by
  refine⟨.inr (),bI ?_,.inl ⟨by simpa using h,rfl⟩⟩
  unfold nX;rw[Xn]
 | k+1,m+1,h1,h2,h=>by
  have e1:=tS k a (by omega)
  have e2:=tS k b (by omega)
  have hp:∀x:Nat,x/4294967296 ^ k/4294967296=x/4294967296 ^ (k+1):=fun x=>by rw[UW,Vm]
  have ha:=hp a;have hb':=hp b;have hlt:∀{x y:Nat},x/4294967296 ^ k<y/4294967296 ^ k->x<y:=fun{x y} g=>Vx fun c=>by
   have:=Nat.div_le_div_right (c:=4294967296 ^ k) (Nat.le_of_not_lt c);omega
  generalize hA:a/4294967296 ^ k=A at *;generalize hB:b/4294967296 ^ k=B at *
  by_cases c:A%4294967296=B%4294967296
  obtain⟨r,g1,g2⟩:=wh hl hb k m (by omega) (by omega) (by rw[hA,hB]; omega)
  refine⟨r,?_,g2⟩;rw[bO (s':=(k:Int)-1)]
  exact g1
  unfold nX;rw[show(((k+1:Nat):Int))-1=(k:Int) by omega,Xm,ak (by omega),ay,T5,e1,ab,ak (by omega),ay,e2,ab,c,Ud rfl,Uj,bK,aA (by omega) (by omega)]
  have h3:∀r:Int⊕XC,r=.inl (((A%4294967296:Nat):Int)-((B%4294967296:Nat):Int))->bN (nX n (Dg a) (Dg b)) (m+1) (((k+1:Nat):Int)-1)=some r:=fun r hr=>by
   subst hr;refine bI ?_;unfold nX;rw[show(((k+1:Nat):Int))-1=(k:Int) by omega,Xm,ak (by omega),ay,T5,e1,ab,ak (by omega),ay,e2,ab,Um (by omega),Uw,cx,ay,ay,aA (by omega) (by omega)]
  refine⟨_,h3 _ rfl,.inr ⟨_,rfl,by omega,⟨fun g=>hlt (by omega),fun g=>?_⟩,⟨fun g=>hlt (by omega),fun g=>?_⟩⟩⟩
  have:¬A<B:=fun g'=>by have:=hlt (x:=a) (y:=b) (by omega); omega
  omega
  have:¬B<A:=fun g'=>by have:=hlt (x:=b) (y:=a) (by omega); omega
  omega
def pP{a b:Nat}(ha:a<DM)(hb:b<DM)(hn:1000000<n):∃r:Int,BL n (Dg a) (Dg b)=some r/\(0<r↔b<a)/\(r<0↔a<b):=by
 have la:=iD ha;have lb:=iD hb;unfold BL
 by_cases hl:(Dg a).length=(Dg b).length
 have h0:∀x:Nat,x/4294967296 ^ (Dg x).length=0:=fun x=>Vy (iT x);obtain⟨r,g1,g2⟩:=wh n hl (by omega) (Dg b).length n (Ua _) (by omega) (by rw[h0 b,<-hl,h0 a])
 rw[Ud (show((Dg a).length:Int)=((Dg b).length:Int) by omega),Uj,bK,hl,aA (x:=((Dg b).length:Int)-1) (by omega) (by omega),g1,ab]
 rcases g2 with⟨rfl,rfl⟩|⟨x,rfl,_,q1,q2⟩
 exact⟨0,rfl,by omega,by omega⟩
 exact⟨x,rfl,q1,q2⟩
 rw[Um (show ¬((Dg a).length:Int)=((Dg b).length:Int) by omega),Uw,cx,aA (by omega) (by omega)]
 refine⟨_,rfl,?_,?_⟩
 constructor
 intro g; exact kD (by omega)
 intro g;have:¬(Dg a).length<(Dg b).length:=fun c=>by have:=kD c; omega
 omega
 constructor
 intro g; exact kD (by omega)
 intro g;have:¬(Dg b).length<(Dg a).length:=fun c=>by have:=kD c; omega
 omega
def jy{v:Nat}(h:v<DM)(hn:1000000<n):jY n false (Dg v)=some (false,Dg v):=BW n (CE n (by have:=iD h; omega) hn)
def jW{v:Nat}(h:v<DM)(h0:v≠0)(hn:1000000<n):jY n true (Dg v)=some (true,Dg v):=OU n (CE n (by have:=iD h; omega) hn) fun c=>h0 (lT.1 c)
def EL{a b:Nat}(h:a+b<DM)(hn:1000000<n):rE n false (Dg a) false (Dg b)=some (false,Dg (a+b)):=by
 unfold rE
 show ob (Fw n (Dg a) (Dg b)) _=_
 rw[yA n h hn,ab,jy n h hn,ab]
def vb:XB Nat->Nat
 | []=>0
 | x::l=>x+4294967296*vb l
def Nb(l:XB Nat):Prop:=∀x,x∈l->x<4294967296
def Ad:∀k,vb (List.replicate k 0)=0
 | 0=>rfl
 | k+1=>by rw[Vl,vb,Ad k]
def B6:∀(l:XB Nat) (i x y:Nat),l[i]? = some x->vb (l.set i y)+x*4294967296 ^ i=vb l+y*4294967296 ^ i
 | [],i,x,y,h=>by simp at h
 | z::l,0,x,y,h=>by
  have:z=x:=by simpa using h
  subst this
  show y+4294967296*vb l+z*4294967296 ^ 0=z+4294967296*vb l+y*4294967296 ^ 0
  rw[VV]; omega
 | z::l,i+1,x,y,h=>by
  have ih:=B6 l i x y (by simpa using h)
  show z+4294967296*vb (l.set i y)+x*4294967296 ^ (i+1)=z+4294967296*vb l+y*4294967296 ^ (i+1)
  have hp:∀t:Nat,t*4294967296 ^ (i+1)=4294967296*(t*4294967296 ^ i):=fun t=>by rw[UW]; simp only[Uo,Un]
  rw[hp,hp]; omega
def Nb.set{l:XB Nat}(h:Nb l){i y:Nat}(hy:y<4294967296):Nb (l.set i y):=fun x hx=>by
 rcases VP hx with g|g
 exact h x g
 omega
def M9:∀(l:XB Nat),Nb l->l.map Int.ofNat=dk l.length (vb l)
 | [],_=>rfl
 | x::l,h=>by
  have hx:=h x (by simp)
  rw[Wq,UK,dk,vb,M9 l fun y hy=>h y (by simp[hy]),show(x+4294967296*vb l)%4294967296=x by omega,show(x+4294967296*vb l)/4294967296=vb l by omega]
  rfl
theorem mapInt_at{w:List Nat}{i x:Nat}(h:w[i]? = some x):(w.map Int.ofNat)[i]? = some (x:Int):=by rw[List.getElem?_map,h]; rfl
def AF{l1 l6:XB Int}{i x N b:Nat}(hn:1000000<n)(hx:l1[i]? = some (x:Int))(hx1:x<4294967296)(hi:i<l1.length)(h6:l6=Dg b)(hN:i+l6.length<=N)(hNb:N<400000) :
  ∀(k j c:Nat) (w:XB Nat),k+j=l6.length->w.length=N->Nb w->c<4294967296->(∀m,k<m->∃w':XB Nat,∃c':Nat,bN (uJ n l6 (i:Int) N l1) m (w.map Int.ofNat,c,(j:Int))=some (w'.map Int.ofNat,c')/\w'.length=N/\Nb w'/\c'<4294967296 /\
   vb w'+c'*4294967296 ^ (i+l6.length)=vb w+c*4294967296 ^ (i+j)+x*(b/4294967296 ^ j)*4294967296 ^ (i+j)/\∀t,i+l6.length<=t->w'[t]? = w[t]?)
 | 0,j,c,w,h1,h2,h3,h4,m+1,_=>by
  refine⟨w,c,bI ?_,h2,h3,h4,?_,fun _ _=>rfl⟩
  unfold uJ
  dsimp only
  rw[Xn]
  have:b/4294967296 ^ j=0:=Vy (by have:=iT b; rw[<-h6,<-h1,UU] at this; exact this)
  rw[this,Wz,VC,UZ,<-h1,UU]
 | k+1,j,c,w,h1,h2,h3,h4,m+1,hm=>by
  have hj:j<l6.length:=by omega
  have e6:l6[j]? = some ((b/4294967296 ^ j%4294967296:Nat):Int):=by rw[h6] at hj ⊢; exact tS j b hj
  obtain⟨z,ez⟩:∃z,w[i+j]? = some z:=⟨_,T6 (by omega)⟩
  have hz:z<4294967296:=h3 z (Ur ez);generalize hbj:b/4294967296 ^ j=bj at *;have hbd:=UX bj (show 0<4294967296 by decide)
  have hmul:=UO (show x<=4294967295 by omega) (show bj%4294967296<=4294967295 by omega)
  generalize hP:x*(bj%4294967296)=P at *;have hy:(c+z+P)/4294967296<4294967296:=by omega
  obtain⟨w',c',g1,g2,g3,g4,g5,g6⟩:=AF hn hx hx1 hi h6 hN hNb k (j+1) ((c+z+P)/4294967296) (w.set (i+j) ((c+z+P)%4294967296)) (by omega) (by rw[Vh]; exact h2) (h3.set (UX _ (by decide))) hy m (by omega)
  refine⟨w',c',?_,g2,g3,g4,?_,fun t ht=>?_⟩
  rw[bO (s':=((w.set (i+j) ((c+z+P)%4294967296)).map Int.ofNat,(c+z+P)/4294967296,((j+1:Nat):Int)))]
  exact g1
  unfold uJ
  dsimp only
  rw[Xm,aA (x:=(i:Int)+(j:Int)) (by omega) (by omega),show(i:Int)+(j:Int)=((i+j:Nat):Int) by omega,ak (by omega),ay,T5,mapInt_at ez,ab,ak hi,ay,T5,hx,ab,ak hj,ay,T5,e6,ab,Qq (by omega),Qq (by omega),Qq (by omega),fJ (a:=c+z) (by omega),hP,fJ (a:=P) (by omega),fJ (by omega),ab,ay,fJ (by omega),aA (by omega) (by omega),aA (by omega) (by omega),List.map_set]
  rfl
  have hs:=B6 w (i+j) z ((c+z+P)%4294967296) ez;have hp:∀t:Nat,t*4294967296 ^ (i+(j+1))=4294967296*(t*4294967296 ^ (i+j)):=fun t=>by rw[<-V9,UW]; simp only[Uo,Un]
  have hq:bj/4294967296=b/4294967296 ^ (j+1):=by rw[<-hbj,UW,Vm]
  rw[hp,hp,<-hq] at g5;have hx2:x*bj=4294967296*(x*(bj/4294967296))+P:=by
   rw[<-hP]
   conv=>lhs; rw[<-Vz bj 4294967296]
   rw[Vj]; simp only[Un]
  rw[hx2,UR];have hy2:=Vz (c+z+P) 4294967296;have hk:4294967296*((c+z+P)/4294967296*4294967296 ^ (i+j))+(c+z+P)%4294967296*4294967296 ^ (i+j)=c*4294967296 ^ (i+j)+z*4294967296 ^ (i+j)+P*4294967296 ^ (i+j):=by
   rw[<-Uv,<-UR,hy2,UR,UR]
  rw[Uv 4294967296];omega
  rw[g6 t ht,U3 (by omega)]
def Fh{a b:Nat}(hab:a*b<DM)(ha:a<DM)(hb:b<DM)(hn:1000000<n):J2 n (Dg a) (Dg b)=some (Dg (a*b)):=by
 have la:=iD ha;have lb:=iD hb;have lp:∀(k i:Nat) (w:XB Nat),k+i=(Dg a).length->w.length=(Dg a).length+(Dg b).length->Nb w->vb w=a%4294967296 ^ i*b->(∀t,i+(Dg b).length<=t->t<(Dg a).length+(Dg b).length->w[t]? = some 0)->∀m,k<m ->
   ∃w':XB Nat,bN (tT n (Dg a) (Dg b)) m (w.map Int.ofNat,(Dg a).length+(Dg b).length,(i:Int))=some (w'.map Int.ofNat,(Dg a).length+(Dg b).length)/\w'.length=(Dg a).length+(Dg b).length/\Nb w'/\vb w'=a*b:=by
  intro k
  induction k with
  | zero =>
   intro i w h1 h2 h3 h4 h5 m hm;obtain⟨m,rfl⟩:∃j,m=j+1:=⟨m-1,by omega⟩
   refine⟨w,bI ?_,h2,h3,?_⟩
   unfold tT
   dsimp only
   rw[Xn]
   rw[h4,show i=(Dg a).length by omega,UG (iT a)]
  | succ k ih =>
   intro i w h1 h2 h3 h4 h5 m hm;obtain⟨m,rfl⟩:∃j,m=j+1:=⟨m-1,by omega⟩
   have hx:=tS i a (by omega)
   have hx1:=UX (a/4294967296 ^ i) (show 0<4294967296 by decide)
   obtain⟨w1,c,g1,g2,g3,g4,g5,g6⟩:=AF n (l1:=Dg a) (l6:=Dg b) (N:=(Dg a).length+(Dg b).length) (b:=b) hn hx hx1 (by omega) rfl (by omega) (by omega) (Dg b).length 0 0 w (by omega) h2 h3 (by decide) n (by omega)
   have hz:=(g6 (i+(Dg b).length) (Ua _)).trans (h5 _ (Ua _) (by omega))
   have hs:=B6 w1 (i+(Dg b).length) 0 c hz;obtain⟨w',q1,q2,q3,q4⟩:=ih (i+1) (w1.set (i+(Dg b).length) c) (by omega) (by rw[Vh]; exact g2) (g3.set g4) (by
    rw[VC,UZ] at hs;rw[hs,g5,h4,VC,UZ,VV,WA,UZ,UW,Nat.mod_mul,UR];simp only[Uv,Uo,Un]) (fun t g7 g8=>by rw[U3 (by omega),g6 t (by omega),h5 t (by omega) g8]) m (by omega)
   refine⟨w',?_,q2,q3,q4⟩;rw[bO (s':=((w1.set (i+(Dg b).length) c).map Int.ofNat,(Dg a).length+(Dg b).length,((i+1:Nat):Int)))]
   exact q1
   unfold tT
   dsimp only
   rw[show(0:Int)=((0:Nat):Int) from rfl,Xm,g1,ab]
   dsimp only
   rw[aA (x:=(i:Int)+((Dg b).length:Int)) (by omega) (by omega),show(i:Int)+((Dg b).length:Int)=((i+(Dg b).length:Nat):Int) by omega,ak (by omega),ay,T5,mapInt_at hz,ab,aA (by omega) (by omega),aA (by omega) (by omega),List.map_set]
   rfl
 obtain⟨w',g1,g2,g3,g4⟩:=lp (Dg a).length 0 (List.replicate ((Dg a).length+(Dg b).length) 0) (by omega) (by simp) (fun x hx=>by rw[List.eq_of_mem_replicate hx]; decide) (by rw[Ad,VV,Nat.mod_one,VC]) (fun t _ ht=>by rw[Vu,Ui ht]) n (by omega)
 unfold J2;rw[aA (x:=((Dg a).length:Int)+((Dg b).length:Int)) (by omega) (by omega),show((Dg a).length:Int)+((Dg b).length:Int)=(((Dg a).length+(Dg b).length:Nat):Int) by omega,T5,dI (by omega),gW (by omega),ay]
 rw[List.map_replicate] at g1;rw[show List.replicate ((Dg a).length+(Dg b).length) (0:Int)=List.replicate ((Dg a).length+(Dg b).length) (Int.ofNat 0) from rfl,show(0:Int)=((0:Nat):Int) from rfl,g1,ab]
 dsimp only
 rw[M9 w' g3,g2,g4,qg n (Uc (Nat.mul_lt_mul'' (iT a) (iT b)) (by rw[Vs]; exact Ua _)) (by omega) hn,ab]
end
end
end Go.Proofs.YtpkadoocdgdcfaaGreatDoor
end
section
namespace Go.Proofs.YtpkadoocdgdcfaaGreatDoor
set_option exponentiation.threshold 30000
open Go Go.Ab Go.Ab.W
section
variable{n:Nat}
def wN{l1:XB Int}:∀(k a c i:Nat) (acc:XB Int),l1.drop i=Dg a->c<=1->acc.length=i->i+k<=1000000->a<4294967296 ^ k->∀M,k<M->∃(c':Int) (acc':XB Int),bN (sF n l1) M ((c:Int),acc,(i:Int))=some (c',acc')/\acc'++[c']=acc++dk ((Dg a).length+1) (2*a+c)/\acc'.length<=1000000
 | k,a,c,i,acc,h1,h2,h3,h4,h5,M+1,h7=>by
  rcases gD h1 with⟨rfl,g1⟩|⟨a0,g1,g2,g3⟩
  refine⟨(c:Int),acc,bI ?_,?_,by omega⟩
  unfold sF; dsimp only; rw[Xn]
  rw[gP,List.length_nil,UU,dk,dk,UG (by omega),Wz,UU]
  ·match k with
   | 0=>simp at h5; omega
   | k+1 =>
    have hp:(4294967296:Nat) ^ (k+1)=4294967296*4294967296 ^ k:=by rw[UW,Uo]
    obtain⟨c',acc',e1,e2,e3⟩:=wN k (a/4294967296) ((2*(a%4294967296)+c)/4294967296) (i+1) (acc++[(((2*(a%4294967296)+c)%4294967296:Nat):Int)]) g3 (by omega) (by simp[h3]) (by omega) (by omega) M (by omega)
    refine⟨c',acc',?_,?_,e3⟩
    have hlim:lim (acc++[(((2*(a%4294967296)+c)%4294967296:Nat):Int)]).length=true:=gW (by rw[Uf,h3,UB]; omega)
    rw[bO (s':=((((2*(a%4294967296)+c)/4294967296:Nat):Int),acc++[(((2*(a%4294967296)+c)%4294967296:Nat):Int)],((i+1:Nat):Int))),e1];unfold sF
    dsimp only
    have hy:WQ ((WQ (2*((a%4294967296:Nat):Int)))+(c:Int))=((2*(a%4294967296)+c:Nat):Int):=by
     rw[aA (x:=2*((a%4294967296:Nat):Int)) (by omega) (by omega),aA (by omega) (by omega)]; omega
    rw[Xm,ak g1,ay,T5,g2,ab,hy,ab,
     show Int.tmod ((2*(a%4294967296)+c:Nat):Int) 4294967296=(((2*(a%4294967296)+c)%4294967296:Nat):Int) from rfl,hlim,ay,
     show Int.tdiv ((2*(a%4294967296)+c:Nat):Int) 4294967296=(((2*(a%4294967296)+c)/4294967296:Nat):Int) from rfl,ab,aA (by omega) (by omega),aA (by omega) (by omega)]
    rfl
    rw[e2,gX a0,UK,show dk ((Dg (a/4294967296)).length+1+1) (2*a+c)=(((2*a+c)%4294967296:Nat):Int)::dk ((Dg (a/4294967296)).length+1) ((2*a+c)/4294967296) from rfl,
     show(2*a+c)/4294967296=2*(a/4294967296)+(2*(a%4294967296)+c)/4294967296 by omega,
     show(2*a+c)%4294967296=(2*(a%4294967296)+c)%4294967296 by omega,Vq]
    rfl
def Ls(hn:2000000<n){a c:Nat}(ha:2*a+c<DM)(hc:c<=1):JI n (Dg a) (c:Int)=some (Dg (2*a+c)):=by
 have hl:=iD (v:=a) (by omega)
 have hlt:=iT a;obtain⟨c',acc',e1,e2,e3⟩:=wN (n:=n) (l1:=Dg a) 20000 a c 0 [] rfl hc rfl (by decide) (Uc hlt (Up (by decide) hl)) n (by omega)
 unfold JI;rw[show(((c:Int)),([]:XB Int),(0:Int))=((c:Int),[],((0:Nat):Int)) from rfl,e1,ab]
 dsimp only
 rw[gW (by rw[Uf,UB]; omega),ay,e2,VA,qg n (by rw[UW]; omega) (by omega) (by omega),ab]
def MV:∀(k v i:Nat),i<k->(dk k v)[i]? = some ((v/4294967296 ^ i%4294967296:Nat):Int)
 | k+1,v,0,_=>by rw[dk,VV,WA]; rfl
 | k+1,v,i+1,h=>by rw[dk,U2,MV k _ i (by omega),UW,Uo,Vm]
def Pf{d s:Nat}(hs:s<32):Int.tmod (HO .i64 (d:Int) ((s:Int)).toNat) 2=((d/2 ^ s%2:Nat):Int):=by
 rw[T5];unfold HO;rw[US (show s<=IntKind.i64.bits by show s<=64; omega),Int.fdiv_eq_ediv_of_nonneg _ (by exact Int.le_of_lt (Int.pow_pos (by decide)))]
 have:((d:Int)/2 ^ s)=((d/2 ^ s:Nat):Int):=by rw[Int.natCast_ediv]; norm_cast
 rw[this]
 rfl
def MB{s:Nat}(hs:s<32):Dh .i64 1 ((s:Int)).toNat=((2 ^ s:Nat):Int):=by
 rw[T5];have hp:2 ^ s<=2 ^ 31:=Up (by decide) (by omega)
 unfold Dh;rw[US (show s<=IntKind.i64.bits by show s<=64; omega),Int.one_mul,show((2:Int) ^ s)=((2 ^ s:Nat):Int) by norm_cast]
 generalize 2 ^ s=p at hp ⊢;exact aA (by omega) (by omega)
def Es{l1:XB Int}{a b d v y:Nat}{q:XB Int}(h0:b≠0)(hb:2*b<DM)(hn:2000000<n)(hy:y<1000000)(hv:v<y)(hq:q.length=y)(hd:d<4294967296)(hl:l1[v]? = some (d:Int))(hlv:v<l1.length) :
  ∀(s:Nat),s<=32->∀x:Nat,x+a/b*4294967296=(a*2 ^ (32-s)+d/2 ^ s)/b*2 ^ s->x+2 ^ s<=4294967296->∀M,s<M ->
   ∃x':Nat,bN (qb n (v:Int) l1 (Dg b) (y:Int)) M (q.set v (x:Int),Dg ((a*2 ^ (32-s)+d/2 ^ s)%b),(s:Int)-1)=some (q.set v (x':Int),Dg ((a*4294967296+d)%b))/\x'+a/b*4294967296=(a*4294967296+d)/b/\x'<4294967296
 | 0,_,x,h1,h2,M+1,_=>by
  refine⟨x,?_,?_,by simp at h2; omega⟩
  rw[show a*2 ^ (32-0)+d/2 ^ 0=a*4294967296+d by simp]
  refine bI ?_;unfold qb
  dsimp only
  rw[Xn]
  simpa using h1
 | s+1,hs,x,h1,h2,M+1,hM=>by
  have hp:2 ^ (s+1)=2*2 ^ s:=by rw[UW,Uo]
  have h7:2 ^ (32-s)=2*2 ^ (32-(s+1)):=by rw[show 32-s=32-(s+1)+1 by omega,UW,Uo]
  have hD:a*2 ^ (32-s)+d/2 ^ s=2*(a*2 ^ (32-(s+1))+d/2 ^ (s+1))+d/2 ^ s%2:=by
   rw[h7,UW,<-Vm];have:a*(2*2 ^ (32-(s+1)))=2*(a*2 ^ (32-(s+1))):=by simp only[Uo,Un]
   rw[this]; omega
  generalize hE:a*2 ^ (32-(s+1))+d/2 ^ (s+1)=E at *;generalize hE':a*2 ^ (32-s)+d/2 ^ s=E' at *;generalize hw:d/2 ^ s%2=w at *;have h8:w<=1:=by omega
  have hr:E%b<b:=UX _ (Us h0);obtain⟨r,f1,f2,f0⟩:=pP (n:=n) (a:=2*(E%b)+w) (b:=b) (by omega) (by omega) (by omega)
  have hEd:=Vz E b;have hst:∃c:Nat,E'/b=2*(E/b)+c/\c<=1/\qb n (v:Int) l1 (Dg b) (y:Int) (q.set v (x:Int),Dg (E%b),((s+1:Nat):Int)-1)=some (.inl (q.set v ((x+c*2 ^ s:Nat):Int),Dg (E'%b),(s:Int)-1)):=by
   have hbr:∃c:Nat,E'/b=2*(E/b)+c/\c<=1/\(br (decide (0<=r)) (ob (uW n (Dg (2*(E%b)+w)) (Dg b)) fun l2=>gd (bB (v:Int) (y:Int).toNat) (ob ((q.set v (x:Int))[((v:Nat):Int).toNat]?) fun x3=>gd (bB (v:Int) (y:Int).toNat) (some (((q.set v (x:Int)).set ((v:Nat):Int).toNat (WQ (x3+(Dh .i64 1 (s:Int).toNat)))),l2)))) (some (q.set v (x:Int),Dg (2*(E%b)+w))))=some (q.set v ((x+c*2 ^ s:Nat):Int),Dg (E'%b)):=by
    have hbE:b*(2*(E/b))=2*(b*(E/b)):=Un _ _ _
    by_cases c:2*(E%b)+w<b
    have h5:E'/b=2*(E/b):=by
     rw[show E'=2*(E%b)+w+b*(2*(E/b)) by omega,Nat.add_mul_div_left _ _ (Us h0),Vy c,UU]
    have h6:E'%b=2*(E%b)+w:=by
     rw[show E'=2*(E%b)+w+b*(2*(E/b)) by omega,Nat.add_mul_mod_self_left,UG c]
    refine⟨0,h5,by omega,?_⟩
    rw[aC (by have:=f0.2 c; omega),h6,VC,UZ]
    have h5:E'/b=2*(E/b)+1:=by
     rw[show E'=(2*(E%b)+w-b)+b*(2*(E/b)+1) by rw[Vj,hbE]; omega,Nat.add_mul_div_left _ _ (Us h0),Vy (by omega),UU]
    have h6:E'%b=2*(E%b)+w-b:=by
     rw[show E'=(2*(E%b)+w-b)+b*(2*(E/b)+1) by rw[Vj,hbE]; omega,Nat.add_mul_mod_self_left,UG (by omega)]
    refine⟨1,h5,by omega,?_⟩
    have h9:¬r<0:=fun h=>c (f0.1 h);rw[Xm,mU n (by omega) (by omega) (by omega),ab,T5,T5,ak hv,ay,Ve (by omega),ab,ay,List.set_set,MB (by omega),aA (by omega) (by omega),h6,Wb]
    norm_cast
   obtain⟨c,k1,k2,k0⟩:=hbr;refine⟨c,k1,k2,?_⟩;unfold qb
   dsimp only
   rw[show((s+1:Nat):Int)-1=(s:Int) by omega,Xm,ak hlv,ay,T5 (n:=v),hl,ab,Pf (by omega),hw,Ls hn (by omega) h8,ab,f1,ab]
   rw[T5 (n:=v)] at k0;rw[k0,ab]
   dsimp only
   rw[aA (by omega) (by omega)]
  obtain⟨c,k1,k2,k0⟩:=hst;have hc:c*2 ^ s<=2 ^ s:=by
   have:=UF (2 ^ s) k2;omega
  have hx:x+c*2 ^ s+a/b*4294967296=E'/b*2 ^ s:=by
   rw[k1,UR];have:2*(E/b)*2 ^ s=E/b*2 ^ (s+1):=by rw[hp]; simp only[Uv,Uo,Un]
   omega
  obtain⟨x',e1,e2,e0⟩:=Es h0 hb hn hy hv hq hd hl hlv s (by omega) (x+c*2 ^ s) (by rw[hE']; exact hx) (by omega) M (by omega)
  rw[hE'] at e1;exact⟨x',by rw[bO k0,e1],e2,e0⟩
def Lt{q:XB Int}{y c:Nat}(h:q.length=y)(h':∀i,i<y->q[i]? = some ((c/4294967296 ^ i%4294967296:Nat):Int)):q=dk y c:=by
 apply Wg;intro i
 by_cases hi:i<y
 rw[h' i hi,MV y c i hi]
 rw[VG (by omega),VG (by rw[yN]; omega)]
def TO:(2:Nat) ^ 32=4294967296:=by decide +kernel
def Ke{a b y:Nat}(hb0:b≠0)(hb:2*b<DM)(hn:2000000<n)(hy:y<1000000)(hyl:y<=(Dg a).length) :
  ∀(v:Nat),v<=y->∀q:XB Int,q.length=y->(∀i,v<=i->i<y->q[i]? = some ((a/b/4294967296 ^ i%4294967296:Nat):Int))->(∀i,i<v->q[i]? = some 0)->∀M,v<M ->
   bN (tG n (Dg a) (Dg b) (y:Int)) M (q,Dg (a/4294967296 ^ v%b),(v:Int)-1)=some (dk y (a/b),Dg (a%b)):=by
 intro v
 induction v with
 | zero =>
  intro _ q h1 h2 _ M hM;obtain⟨M,rfl⟩:∃k,M=k+1:=⟨M-1,by omega⟩
  rw[VV,WA,bI (r:=(q,Dg (a%b))),Lt h1 fun i hi=>h2 i (VF _) hi];unfold tG
  dsimp only
  rw[Xn]
 | succ v ih =>
  intro hv q h1 h2 h3 M hM;obtain⟨M,rfl⟩:∃k,M=k+1:=⟨M-1,by omega⟩
  have hd:=UX (a/4294967296 ^ v) (show 0<4294967296 by decide)
  have hA:a/4294967296 ^ (v+1)*4294967296+a/4294967296 ^ v%4294967296=a/4294967296 ^ v:=by
   rw[UW,<-Vm]; omega
  have h32:(2:Nat) ^ 32=4294967296:=TO;have hd':a/4294967296 ^ v%4294967296<2 ^ 32:=by rw[h32]; exact hd
  have h0':0+2 ^ 32<=4294967296:=by rw[h32,UU]; exact Ua _
  have hq:q.set v ((0:Nat):Int)=q:=by
   apply Wg;intro i
   by_cases e:i=v
   subst e; rw[Ve (by omega),h3 i (by omega)]; rfl
   rw[U3 (Ne.symm e)]
  have hin:=Es (n:=n) (l1:=Dg a) (a:=a/4294967296 ^ (v+1)) (b:=b) (d:=a/4294967296 ^ v%4294967296) (v:=v) (y:=y) (q:=q) hb0 hb hn hy (by omega) h1 hd (tS v a (by omega)) (by omega) 32 (Ua _) 0 (by rw[Vy hd',V2,VV,Vo,UU,h32,UZ (a/4294967296 ^ (v+1))]) h0' n (by omega)
  rw[Vy hd',V2,VV,Vo,UZ,hq,hA] at hin;obtain⟨x,e1,e2,e3⟩:=hin;have hx:a/b/4294967296 ^ v%4294967296=x:=by
   rw[Vm,Uo b,<-Vm,<-e2]; omega
  rw[bO (s':=(q.set v (x:Int),Dg (a/4294967296 ^ v%b),(v:Int)-1)),ih (by omega) _ (by rw[Vh]; exact h1) (fun i g1 g2=>?_) (fun i g=>?_) M (by omega)]
  by_cases e:i=v
  subst e; rw[Ve (by omega),hx]
  rw[U3 (Ne.symm e),h2 i (by omega) g2]
  rw[U3 (by omega),h3 i (by omega)]
  unfold tG
  dsimp only
  rw[show((v+1:Nat):Int)-1=(v:Int) by omega,Xm]
  rw[show((32:Nat):Int)-1=31 from rfl] at e1
  rw[e1,ab]
  dsimp only
  rw[aA (by omega) (by omega)]
def Eo(hn:2000000<n){a b:Nat}(ha:a<DM)(hb0:b≠0)(hb:2*b<DM):GS n (Dg a) (Dg b)=some (Dg (a/b),Dg (a%b)):=by
 have hla:=iD ha;have hlb:=iD (v:=b) (by omega)
 have hl0:0<(Dg b).length:=V5.2 fun c=>hb0 (lT.1 c);have hge:=MS hb0;have hw:WQ (((Dg b).length:Int)-1)=(((Dg b).length-1:Nat):Int):=by rw[aA (by omega) (by omega)]; omega
 unfold GS;rw[hw]
 by_cases c:(Dg a).length<=(Dg b).length-1
 have hlt:=iT a;have:(4294967296:Nat) ^ (Dg a).length<=4294967296 ^ ((Dg b).length-1):=Up (by decide) c
 rw[Xm,VA,gW (by omega),ay,Vy (by omega),UG (by omega),gP]
 have hy:WQ (((Dg a).length:Int)-(((Dg b).length-1:Nat):Int))=(((Dg a).length-((Dg b).length-1):Nat):Int):=by rw[aA (by omega) (by omega)]; omega
 rw[Xn,hy]
 generalize hY:(Dg a).length-((Dg b).length-1)=y at *;have htop:([]:XB Int)++(((Dg a).drop ((y:Nat):Int).toNat).take (((Dg a).length:Int).toNat-((y:Nat):Int).toNat))=Dg (a/4294967296 ^ y%b):=by
  have h1:(Dg (a/4294967296 ^ y)).length=(Dg b).length-1:=by rw[<-rM,V6]; omega
  have h2:=iT (a/4294967296 ^ y);rw[h1] at h2;rw[UG (by omega),VA,T5,T5,VO (by rw[V6]; omega),rM]
 have hq:a/b<4294967296 ^ y:=by
  rw[U5 (Us hb0)];refine Uc (iT a) ?_;rw[show(Dg a).length=y+((Dg b).length-1) by omega,Vs]
  exact Vb _ hge
 rw[ab,dI (by omega),gW (by omega),ay,ab,PL (by omega),ay,htop,gW (by have:=iD (v:=a/4294967296 ^ y%b) (by have:=UX (a/4294967296 ^ y) (Us hb0); omega); omega),ay,T5,
  show WQ ((y:Int)-1)=(y:Int)-1 from aA (by omega) (by omega),
  Ke hb0 hb hn (by omega) (by omega) y (Ua _) _ (by simp) (fun i g1 g2=>Uy g1 (by omega)) (fun i g=>by rw[Vu,Ui g]) n (by omega),ab]
 dsimp only
 rw[qg n hq (by omega) (by omega),ab]
def vX(hn:2000000<n):∀(m a b:Nat),a<DM->2*b<DM->b<m->bN (sL n) m (Dg a,Dg b)=some (Dg (Nat.gcd a b))
 | m+1,a,b,ha,hb,hm=>by
  by_cases h0:b=0
  subst h0;rw[Nat.gcd_zero_right,bI];unfold sL
  dsimp only
  rw[gP,aC (by simp)]
  have hl0:0<(Dg b).length:=V5.2 fun c=>h0 (lT.1 c);have hr:=UX a (Us h0);rw[bO (s':=(Dg b,Dg (a%b))),vX hn m b (a%b) (by omega) (by omega) (by omega),Nat.gcd_comm a b,Nat.gcd_rec b a,Nat.gcd_comm]
  unfold sL
  dsimp only
  rw[Xm,Eo hn ha h0 hb,ab]
def DZ(hn:2000000<n){a b:Nat}(s t:Bool)(ha:a<DM)(hb:2*b<DM)(hbn:b<n):GA n s (Dg a) t (Dg b)=some (false,Dg (Nat.gcd a b)):=by
 unfold GA;rw[vX hn n a b ha hb hbn,ab]
def DF(hn:2000000<n){a b:Nat}(ha:a<DM)(hb0:b≠0)(hb:2*b<DM):FY n false (Dg a) false (Dg b)=some (false,Dg (a/b),false,Dg (a%b)):=by
 have h1:a/b<DM:=U6 (Nat.div_le_self _ _) ha;have h2:=UX a (Us hb0);unfold FY;rw[Eo hn ha hb0 hb,ab]
 dsimp only
 rw[show(!(false==false))=false from rfl,jy n h1 (by omega),ab]
 dsimp only
 rw[jy n (by omega) (by omega),ab]
 dsimp only
 rw[bK,ab]
def oT(hn:2000000<n){a b:Nat}(ha:a<DM)(hb0:b≠0)(hb:2*b<DM)(hbn:b<n):zP n false (Dg a) false (Dg b)=some (false,Dg (bo b a).1,false,Dg (bo b a).2):=by
 have hg0:Nat.gcd a b≠0:=fun c=>hb0 (Nat.eq_zero_of_gcd_eq_zero_right c);have hgb:Nat.gcd a b<=b:=Nat.gcd_le_right _ (Us hb0);unfold zP;rw[DZ hn _ _ ha hb hbn,ab]
 dsimp only
 rw[bK,ab]
 dsimp only
 rw[DF hn ha hg0 (by omega),ab]
 dsimp only
 rw[DF hn (by omega) hg0 (by omega),ab]
 rfl
def gw(hn:2000000<n){a b:Nat}(ha:a<DM)(hb:b<DM)(h:a*b<DM):Cg n false (Dg a) false (Dg b)=some (false,Dg (a*b)):=by
 unfold Cg;rw[Fh n h ha hb (by omega),ab,show(!(false==false))=false from rfl,jy n h (by omega),ab]
structure Bd(B n:Nat):Prop where
 dq:B*B*4<DM
 wq:B*B*2<wp 7900
 nq:B*B*2<n
 ns:10000000<n
 one:18446744073709551616<B
def Bd.mul{B n:Nat}(h:Bd B n){a b:Nat}(ha:a<=B)(hb:b<=B):a*b<=B*B:=UO ha hb
def Bd.sq{B n:Nat}(h:Bd B n):B<=B*B:=V3 B (by have:=h.one; omega)
def Ms{B:Nat}(hB:Bd B n){p q r s:Nat}(hp:p<=B)(hq:q<=B)(hr:r<=B)(hs:s<=B)(hq0:q≠0)(hs0:s≠0) :
  vk n false (Dg p) false (Dg q) false (Dg r) false (Dg s)=some (false,Dg (bo (q*s) (p*s+r*q)).1,false,Dg (bo (q*s) (p*s+r*q)).2):=by
 have h1:=hB.mul hp hs;have h2:=hB.mul hr hq;have h3:=hB.mul hq hs;have h4:=hB.sq;have h5:=hB.dq;have h6:=hB.nq;have h7:=hB.ns;unfold vk;rw[gw (by omega) (by omega) (by omega) (by omega),ab]
 dsimp only
 rw[gw (by omega) (by omega) (by omega) (by omega),ab]
 dsimp only
 rw[EL n (by omega) (by omega),ab]
 dsimp only
 rw[gw (by omega) (by omega) (by omega) (by omega),ab]
 dsimp only
 rw[oT (by omega) (by omega) (UD hq0 hs0) (by omega) (by omega),ab]
def zv(w:XB Nat):Int:=if vl w<2 ^ 511 then(vl w:Int) else(vl w:Int)-2 ^ 512
def Kv{q:XB Nat}(h:q.length=8):∃a b c d e f g i,q=[a,b,c,d,e,f,g,i]:=by
 match q,h with
 | [a,b,c,d,e,f,g,i],_=>exact⟨a,b,c,d,e,f,g,i,rfl⟩
def Sd:wp 8=2 ^ 512:=by unfold wp; decide +kernel
def SK{w:XB Nat}(h:Wd w)(h8:w.length=8):vl w<2 ^ 512:=by have:=iQ h; rw[h8,Sd] at this; exact this
def lY{w:XB Nat}(h:Wd w)(h8:w.length=8):(zv w).natAbs<=2 ^ 511:=by
 have:=SK h h8;unfold zv
 split<;>omega
def rH{a b c d e f g i:Nat}(h:Wd [a,b,c,d,e,f,g,i]):(vl [a,b,c,d,e,f,g,i]<2 ^ 511↔i<9223372036854775808)/\i<18446744073709551616:=by
 have h1:=h a (by simp)
 have h2:=h b (by simp)
 have h3:=h c (by simp)
 have h4:=h d (by simp)
 have h5:=h e (by simp)
 have h6:=h f (by simp)
 have h7:=h g (by simp)
 have h8:=h i (by simp)
 refine⟨?_,h8⟩;simp only[vl];omega
def I6(hn:8<n){k:XB Nat}(hk:Wd k)(h8:k.length=8):∀j i m p c,i+j=8->j<m->p.length=i->Wd p->c<=1->vl p+vl k=wp i*(c+vl (k.drop i)) ->
  ∃q c',bN (qG n) m (p++List.replicate j 0,k,c,((i:Nat):Int))=some (q,c')/\q.length=8/\Wd q/\c'<=1/\vl q+vl k=wp 8*c':=by
 intro j
 induction j with
 | zero =>
  intro i m p c hij hm hp hw hc hv;obtain⟨m,rfl⟩:∃m',m=m'+1:=⟨m-1,by omega⟩
  have hi:i=8:=by omega
  subst hi;refine⟨p,c,bI ?_,hp,hw,hc,?_⟩
  unfold qG
  dsimp only
  rw[Xn,List.replicate_zero,Vc]
  rw[hv,V4 (by omega),gZ,UZ]
 | succ j ih =>
  intro i m p c hij hm hp hw hc hv;obtain⟨m,rfl⟩:∃m',m=m'+1:=⟨m-1,by omega⟩
  obtain⟨y,e2⟩:∃y,k[i]? = some y:=⟨_,T6 (by omega)⟩
  have hy:=hk.at e2;have e3:(p++List.replicate (j+1) 0)[i]? = some 0:=by
   rw[UJ (by omega),Vu]; simp; omega
  have hi8:bB ((i:Nat):Int) 8=true:=ak (by omega)
  have st:qG n (p++List.replicate (j+1) 0,k,c,((i:Nat):Int))=some (.inl ((p++[(0+18446744073709551616-y-c)%18446744073709551616])++List.replicate j 0,k,if 0<y+c then 1 else 0,((i+1:Nat):Int))):=by
   unfold qG
   dsimp only
   rw[Xm,hi8,ay,T5,e3,ab,ay,e2,ab]
   unfold HI;rw[dI hc,ab]
   dsimp only
   rw[ay,Xo,<-hp,Vl,sY]
  rw[bO st];refine ih (i+1) m _ _ (by omega) (by omega) (by rw[Uf,hp]; rfl) (hw.app (Wd.one (UX _ (by decide)))) (by split<;>omega) ?_
  rw[iY e2] at hv;rw[ph,hp,ik];have h2:(0+18446744073709551616-y-c)%18446744073709551616+y+c=18446744073709551616*(if 0<y+c then 1 else 0):=by split<;>omega
  generalize(0+18446744073709551616-y-c)%18446744073709551616=lo at h2 ⊢;generalize(if 0<y+c then 1 else 0)=hi' at h2 ⊢
  generalize vl (k.drop (i+1))=A at hv ⊢;have h3:wp i*(lo+y+c)=wp i*(18446744073709551616*hi'):=by rw[h2]
  simp only[Vj,Un (wp i) 18446744073709551616,Uv] at hv h3 ⊢;omega
def yP(hn:1000<n){a b c d e f g i:Nat}(hw:Wd [a,b,c,d,e,f,g,i]):∃t l,Lc n a b c d e f g i=some (t,l)/\Lg (zv [a,b,c,d,e,f,g,i]) t l:=by
 obtain⟨hb,hi⟩:=rH hw
 by_cases h:i<9223372036854775808
 obtain⟨t,l,f1,f2⟩:=fh (n:=n) false hw (by simp) (by simp; omega)
 refine⟨t,l,?_,?_⟩
 unfold Lc IP;rw[aC (show ¬dh .u64 i 63=1 by rw[show dh .u64 i 63=i/9223372036854775808 from rfl]; omega),Um (show ¬dh .u64 i 63=1 by rw[show dh .u64 i 63=i/9223372036854775808 from rfl]; omega),ab]
 dsimp only
 rw[ab]
 show gd (lim [a,b,c,d,e,f,g,i].length) (ob (nb n false [a,b,c,d,e,f,g,i]) _)=_
 rw[show lim [a,b,c,d,e,f,g,i].length=true from rfl,ay,f1,ab]
 unfold zv;rw[Ui (hb.2 h)];exact f2
 obtain⟨q,c',g1,g2,g3,g4,g5⟩:=I6 (n:=n) (by omega) hw rfl 8 0 n [] 0 rfl (by omega) rfl Wd.nil (by decide) (by simp[vl,wp])
 obtain⟨y1,y2,y3,y4,y5,y6,y7,y8,rfl⟩:=Kv g2;have hv:¬vl [a,b,c,d,e,f,g,i]<2 ^ 511:=fun k=>h (hb.1 k);have hq:=SK g3 g2;rw[Sd] at g5;have hc:c'=1:=by
  rcases Nat.le_one_iff_eq_zero_or_eq_one.1 g4 with e|e
  rw[e] at g5; omega
  exact e
 subst hc;obtain⟨t,l,f1,f2⟩:=fh (n:=n) true g3 (by simp) (by simp; omega)
 refine⟨t,l,?_,?_⟩
 unfold Lc IP;have h1:dh .u64 i 63=1:=by rw[show dh .u64 i 63=i/9223372036854775808 from rfl]; omega
 rw[az h1,Ud h1];unfold Is;rw[show(([0,0,0,0,0,0,0,0]:XB Nat),[a,b,c,d,e,f,g,i],0,(0:Int))=(([]:XB Nat)++List.replicate 8 0,[a,b,c,d,e,f,g,i],0,((0:Nat):Int)) from rfl,g1,ab]
 dsimp only
 rw[show Lj [y1,y2,y3,y4,y5,y6,y7,y8]=some (y1,y2,y3,y4,y5,y6,y7,y8) from rfl,ab]
 dsimp only
 rw[ab]
 dsimp only
 rw[ab]
 dsimp only
 rw[ab]
 show gd (lim [y1,y2,y3,y4,y5,y6,y7,y8].length) (ob (nb n true [y1,y2,y3,y4,y5,y6,y7,y8]) _)=_
 rw[show lim [y1,y2,y3,y4,y5,y6,y7,y8].length=true from rfl,ay,f1,ab]
 unfold zv;rw[Uk hv];have:(vl [a,b,c,d,e,f,g,i]:Int)-2 ^ 512=uT true (vl [y1,y2,y3,y4,y5,y6,y7,y8]):=by
  unfold uT;rw[Ui rfl];omega
 rw[this];exact f2
def nW(x:Sh):XB Nat:=let(a,b,c,d,e,f,g,i,_):=x; [a,b,c,d,e,f,g,i]
def dW(x:Sh):XB Nat:=let(_,_,_,_,_,_,_,_,a,b,c,d,e,f,g,i):=x; [a,b,c,d,e,f,g,i]
def WS(x:Sh):Prop:=Wd (nW x)/\Wd (dW x)
def BJ(x:Sh):Bool:=decide (0<zv (dW x))&&decide (Nat.gcd (zv (nW x)).natAbs (zv (dW x)).natAbs=1)
def xA(hn:1000<n){a b c d e f g i a' b' c' d' e' f' g' i':Nat}(h:WS (a,b,c,d,e,f,g,i,a',b',c',d',e',f',g',i')):∃s l t k,GW n a b c d e f g i a' b' c' d' e' f' g' i'=some (s,l,t,k)/\Lg (zv [a,b,c,d,e,f,g,i]) s l/\Lg (zv [a',b',c',d',e',f',g',i']) t k:=by
 obtain⟨s,l,f1,f2⟩:=yP hn h.1;obtain⟨t,k,f3,f4⟩:=yP hn h.2;refine⟨s,l,t,k,?_,f2,f4⟩;unfold GW;rw[f1,ab]
 dsimp only
 rw[f3,ab]
def SZ:(2:Nat) ^ 511<wp 8:=by rw[Sd]; decide +kernel
def AR(hn:2 ^ 600<n){a b c d e f g i a' b' c' d' e' f' g' i':Nat}(h:WS (a,b,c,d,e,f,g,i,a',b',c',d',e',f',g',i')) :
  F3 n a b c d e f g i a' b' c' d' e' f' g' i'=some (if BJ (a,b,c,d,e,f,g,i,a',b',c',d',e',f',g',i') then 0 else 20):=by
 obtain⟨s,l,t,k,f1,f2,f3⟩:=xA (n:=n) (by omega) h
 obtain⟨r,r1,r2,r3⟩:=qz (n:=n) f3;have a1:=lY h.1 rfl;have a2:=lY h.2 rfl;have w8:=SZ;have l1:=f2.kH (k:=8) (U6 a1 w8);have l2:=f3.kH (k:=8) (U6 a2 w8);have b6:(2:Nat) ^ 511<2 ^ 600:=by decide +kernel
 unfold F3 BJ;rw[pO (by omega),ab]
 dsimp only
 rw[f1,ab]
 dsimp only
 rw[r1,ab]
 show ob (br _ _ _) _=some (if(decide (0<zv [a',b',c',d',e',f',g',i'])&&decide (Nat.gcd (zv [a,b,c,d,e,f,g,i]).natAbs (zv [a',b',c',d',e',f',g',i']).natAbs=1))=true then 0 else 20)
 change(zv [a,b,c,d,e,f,g,i]).natAbs<=_ at a1
 change(zv [a',b',c',d',e',f',g',i']).natAbs<=_ at a2
 generalize zv [a,b,c,d,e,f,g,i]=x at *;generalize zv [a',b',c',d',e',f',g',i']=y at *
 by_cases c1:0<y
 obtain⟨g',g1,g2⟩:=Ai (n:=n) f2 f3 (by omega) (by omega) (by omega) (by omega)
 rw[Xn,g1,ab]
 dsimp only
 obtain⟨u,z,q1,q2⟩:=yw (n:=n) g2 (show Lg ((1:Nat):Int) false [1] from oC) (by
  refine U6 (g2.kH (k:=8) (U6 ?_ w8)) (by decide)
  rw[UP];exact Ub (Nat.gcd_le_right _ (by omega)) a2) (by decide) (by
  have:=g2.kH (k:=8) (U6 (by rw[UP]; exact Ub (Nat.gcd_le_right _ (by omega)) a2) w8)
  simp only[UB];omega)
 obtain⟨v,v1,v2,v3⟩:=qz (n:=n) q2;unfold B5;rw[q1,ab]
 dsimp only
 rw[v1,ab,ab,Ud c1,Bool.true_and,ab]
 by_cases c2:Nat.gcd x.natAbs y.natAbs=1
 rw[Ud c2,Ui rfl,Ud (show v=0 from v3.2 (by omega))]; rfl
 rw[Um c2,Uk (by decide),Um (show ¬v=0 from fun h=>c2 (by have:=v3.1 h; omega))]; rfl
 rw[az (show r<=0 by omega),ab,Um c1,Bool.false_and,Uk (by decide)]; rfl
def PU:∀(k v:Nat),dk (k+2) v=((v%4294967296:Nat):Int)::((v/4294967296%4294967296:Nat):Int)::dk k (v/18446744073709551616)
 | k,v=>by rw[dk,dk,Vm]
def hw(x:Nat):XB Int:=[WQ ((x%4294967296:Nat):Int),WQ ((uw .u64 (x/4294967296):Nat):Int)]
def No:∀l:XB Nat,Wd l->l.flatMap hw=dk (2*l.length) (vl l)
 | [],_=>rfl
 | x::l,hl=>by
  have hx:=hl x (by simp)
  have p1:WQ ((x%4294967296:Nat):Int)=((x%4294967296:Nat):Int):=aA (by omega) (by omega)
  have p2:WQ ((uw .u64 (x/4294967296):Nat):Int)=((x/4294967296:Nat):Int):=by rw[fJ (by omega),aA (by omega) (by omega)]
  have e1:(x+18446744073709551616*vl l)%4294967296=x%4294967296:=by omega
  have e2:(x+18446744073709551616*vl l)/4294967296%4294967296=x/4294967296:=by omega
  have e3:(x+18446744073709551616*vl l)/18446744073709551616=vl l:=by omega
  rw[List.flatMap_cons,No l fun y hy=>hl y (by simp[hy]),UK,show 2*(l.length+1)=2*l.length+2 by omega,PU,dE,e1,e2,e3]
  unfold hw;rw[p1,p2]; rfl
def HZ(hn:1000<n){a b c d e f g i:Nat}(h:Wd [a,b,c,d,e,f,g,i]):Hv n a b c d e f g i=some (dk 16 (vl [a,b,c,d,e,f,g,i])):=by
 have hd:=No [a,b,c,d,e,f,g,i] h;unfold Hv;generalize hw8:[a,b,c,d,e,f,g,i]=w at *;have h8:w.length=8:=by rw[<-hw8]; rfl
 obtain⟨s,h1,h2⟩:=aS (body:=tq n) 8 (fun(s:XB Int) (v:Int)=>(w,s,v)) id (fun i s=>s=(w.take i).flatMap hw) (fun s i hi hq=>by
  obtain⟨x,e2⟩:∃x,w[i]? = some x:=⟨_,T6 (by omega)⟩
  refine⟨s++hw x,?_,?_⟩
  ·have hl:(s++hw x).length=2*i+2:=by
    rw[Uf,hq];have:∀l:XB Nat,(l.flatMap hw).length=2*l.length:=fun l=>by
     induction l with
     | nil=>rfl
     | cons y l ih=>rw[List.flatMap_cons,Uf,ih,UK]; show 2+_=_; omega
    rw[this,U0,US (by omega)]; rfl
   unfold tq
   dsimp only
   rw[Xm,show bB ((i:Nat):Int) 8=true from ak hi,ay,T5,e2,ab,ay]
   show gd (lim (s++hw x).length) (some (.inl (w,s++hw x,_)):XA ((XB Nat×XB Int×Int)⊕XB Int))=_
   rw[gW (by omega),ay,Xo]
  rw[List.take_add_one,e2,List.flatMap_append,hq]
  show _=_++(hw x++[])
  rw[Vc]) (fun s _=>by
  unfold tq
  dsimp only
  rw[Xn]; rfl) (n:=n) (s:=[]) (by simp) (by omega)
 rw[show(w,([]:XB Int),(0:Int))=(fun(s:XB Int) (v:Int)=>(w,s,v)) [] 0 from rfl,h1,ab]
 rw[h2,VO (by omega),hd,h8]; rfl
def PK:(4294967296:Nat) ^ 16=2 ^ 512:=by decide +kernel
def Am:(2:Nat) ^ 512*4<DM:=by
 rw[vZ];exact Uc (show(2:Nat) ^ 512*4<4294967296 ^ 17 by decide +kernel) (Up (n:=4294967296) (by decide) (show 17<=20000 by decide))
def IX:(List.replicate (17:Int).toNat (0:Int)).set ((16:Int).toNat) 1=Dg (2 ^ 512):=by
 have h1:=qO 17 (2 ^ 512) (by rw[<-PK]; exact Nat.pow_lt_pow_right (by decide) (by decide))
 have h2:¬(Dg (2 ^ 512)).length<=16:=fun c=>by
  have:=Uc (iT (2 ^ 512)) (Up (n:=4294967296) (by decide) c)
  rw[PK] at this;exact Nat.lt_irrefl _ this
 rw[show 17-(Dg (2 ^ 512)).length=0 by omega,List.replicate_zero,Vc] at h1
 exact Eq.trans (by decide +kernel) h1
def ij(hn:2000000<n){a b c d e f g i:Nat}(hw:Wd [a,b,c,d,e,f,g,i]):Il n a b c d e f g i=some (decide (zv [a,b,c,d,e,f,g,i]<0),Dg (zv [a,b,c,d,e,f,g,i]).natAbs):=by
 obtain⟨hb,hi⟩:=rH hw;have h5:=SK hw rfl;have hd:=Am;unfold Il zv;rw[HZ (by omega) hw,ab]
 generalize vl [a,b,c,d,e,f,g,i]=v at *;have hcut:=qg n (k:=16) (v:=v) (by rw[PK]; exact h5) (by decide) (by omega)
 by_cases h:i<9223372036854775808
 rw[az h,BW n hcut,ab,Ui (hb.2 h),Um (by omega),UP]
 have hv:¬v<2 ^ 511:=fun k=>h (hb.1 k);rw[aC h,dI (by decide),gW (by decide),ay,show bB 16 ((17:Int).toNat)=true from rfl,ay,show(List.replicate (17:Int).toNat (0:Int))[(16:Int).toNat]? = some 0 from rfl,ab,hcut,ab,IX,mU n (by omega) (by omega) (by omega),ab,jW n (by omega) (by omega) (by omega),ab,Uk hv,Ud (by omega)]
 dsimp only
 have e0:((v:Int)-2 ^ 512).natAbs=2 ^ 512-v:=by omega
 rw[e0]
def NT:Dg 1=[1]:=Ag (by decide) (by decide)
def Lx(n g:Nat):I5 n false (Dg g)=some (decide (g=1)):=by
 unfold I5
 by_cases h:(Dg g).length=1
 have h0:g≠0:=fun c=>by subst c; rw[gP] at h; cases h
 have h1:g<4294967296:=by have:=iT g; rw[h] at this; simpa using this
 rw[Ag h0 h1]
 show br (decide ((g:Int)=1)) _ _=_
 by_cases c:g=1
 rw[Xm,Ud c]; rfl
 rw[Xn,Um c]
 rw[Xn,Um fun c=>h (by rw[c,NT]; rfl)]
def Jq(hn:2 ^ 600<n){a b c d e f g i a' b' c' d' e' f' g' i':Nat}(h:WS (a,b,c,d,e,f,g,i,a',b',c',d',e',f',g',i')) :
  Ia n a b c d e f g i a' b' c' d' e' f' g' i'=some (BJ (a,b,c,d,e,f,g,i,a',b',c',d',e',f',g',i')):=by
 have a1:=lY h.1 rfl;have a2:=lY h.2 rfl;have b6:(2:Nat) ^ 511<2 ^ 600:=by decide +kernel
 have hd:=Am;have h6:2000000<n:=by omega
 unfold Ia;rw[ij h6 h.1,ab]
 dsimp only
 rw[ij h6 h.2,ab]
 show br _ _ _=some (decide (0<zv [a',b',c',d',e',f',g',i'])&&decide (Nat.gcd (zv [a,b,c,d,e,f,g,i]).natAbs (zv [a',b',c',d',e',f',g',i']).natAbs=1))
 change(zv [a,b,c,d,e,f,g,i]).natAbs<=_ at a1
 change(zv [a',b',c',d',e',f',g',i']).natAbs<=_ at a2
 generalize zv [a,b,c,d,e,f,g,i]=x at *;generalize zv [a',b',c',d',e',f',g',i']=y at *
 by_cases c1:y<0
 rw[Ud c1,Uj,bK,Um (by omega),Bool.false_and]
 rw[Um c1,Uw,cx]
 by_cases c2:y=0
 subst c2;rw[show(0:Int).natAbs=0 from rfl,gP,aC (by simp)]
 rfl
 have hl:0<(Dg y.natAbs).length:=V5.2 fun c=>by have:=lT.1 c; omega
 rw[Ud (show 0<y by omega),Bool.true_and,az (show(0:Int)<((Dg y.natAbs).length:Int) by omega),DZ h6 _ _ (by omega) (by omega) (by omega),ab]
 dsimp only
 rw[Lx,ab]
end
end Go.Proofs.YtpkadoocdgdcfaaGreatDoor
end
section
namespace Go.Proofs.YtpkadoocdgdcfaaGreatDoor
set_option maxRecDepth 100000
open Go Go.ChangeShapes Go.WideShapes Go.ChangeAt Go.WideMaps Go.WideElems Go.RowKit Go.Ab Go.Ab.W
abbrev Sa:Sh->XB WJ:=(eP (eN .u64) (eP (eN .u64) (eP (eN .u64) (eP (eN .u64) (eP (eN .u64) (eP (eN .u64) (eP (eN .u64) (eP (eN .u64) (eP (eN .u64) (eP (eN .u64) (eP (eN .u64) (eP (eN .u64) (eP (eN .u64) (eP (eN .u64) (eP (eN .u64) (eN .u64))))))))))))))))
def S9:BG Tryz.prog 5 68=some (List.replicate 16 (.int .u64)):=by kernel_rfl
def S0:BG Tryz.prog 5 70=some (.int .u8::.int .u8::List.replicate 16 (.int .u64)):=by kernel_rfl
def SH:BG Tryz.prog 5 72=some [.sl 68]:=by kernel_rfl
def SR:Tryz.prog.underlying 46=some (.slice 72):=by kernel_rfl
section
variable{H:Type}{enc:WK×WJ->H}{W:WO}{sp:Nat->Bool}{held:Bool}{v:WJ}{d:DataW H}{p:XB MemPlace}{base:Nat}
theorem Ku:∀(k:Nat) (r:XB WJ),All2 (nG enc Tryz.prog W 0 sp held) (List.replicate k (.int .u64)) r->∃ns:XB Nat,ns.length=k/\r=ns.map (fun x:Nat=>.int .u64 (x:Int))/\∀x∈ns,x<18446744073709551616
 | 0,r,h=>⟨[],rfl,px h,fun x hx=>by cases hx⟩
 | k+1,r,h=>by
  obtain⟨v1,r,rfl,h1,h2⟩:=eV (show All2 (nG enc Tryz.prog W 0 sp held) (Lf.int .u64::List.replicate k (Lf.int .u64)) r from h)
  obtain⟨x,rfl,g⟩:=K3 h1;obtain⟨ns,e1,rfl,e3⟩:=Ku k r h2;exact⟨x::ns,by rw[UK,e1],rfl,fun y hy=>by
   rcases UC.1 hy with rfl|hy
   exact g
   exact e3 y hy⟩
theorem Ni{q:XB Nat}(h:q.length=16):∃a b c d e f g i a' b' c' d' e' f' g' i',q=[a,b,c,d,e,f,g,i,a',b',c',d',e',f',g',i']:=by
 match q,h with
 | [a,b,c,d,e,f,g,i,a',b',c',d',e',f',g',i'],_=>exact⟨a,b,c,d,e,f,g,i,a',b',c',d',e',f',g',i',rfl⟩
theorem Qd{a b c d e f g i a' b' c' d' e' f' g' i':Nat}(h:∀x∈[a,b,c,d,e,f,g,i,a',b',c',d',e',f',g',i'],x<18446744073709551616):WS (a,b,c,d,e,f,g,i,a',b',c',d',e',f',g',i'):=by
 refine⟨fun x hx=>h x ?_,fun x hx=>h x ?_⟩
 exact VD [a',b',c',d',e',f',g',i'] hx
 exact List.mem_append_right [a,b,c,d,e,f,g,i] hx
theorem QI:∀(n:Nat) (cs:XB WJ) (x:DataW H×XB MemPlace),DataW.trod enc Tryz.prog W 0 sp held n 68 cs=some x->∃p:Sh,cs=Sa p/\WS p:=by
 intro n cs x h;obtain⟨ns,h1,rfl,h3⟩:=Ku 16 _ (iS 5 68 _ S9 n _ x h);obtain⟨a,b,c,d,e,f,g,i,a',b',c',d',e',f',g',i',rfl⟩:=Ni h1;exact⟨(a,b,c,d,e,f,g,i,a',b',c',d',e',f',g',i'),rfl,Qd h3⟩
theorem QG(hok:Value.okWide Tryz.prog W .any base 46 v)(hs:0<W.heap.size)(h:DataW.Trod enc Tryz.prog W 0 sp held 46 v d p):∃(l:XB (XB Sh)) (a:WH) (c:Nat) (es:WG),
  VR (dH W) (.slice a l.length c) v/\(∀row,row∈l->∀x,x∈row->WS x)/\Rd (dP W) a c 1 l.length es/\(eh (rS Sa 16) (fun b=>b<W.heap.size) l es).P (dP W):=by
 obtain⟨a0,n0,c0,rfl⟩:=okWide_slice SR hok;obtain⟨n,h⟩:=h;have h1:=iS 5 46 [.sl 72] (by kernel_rfl) n _ _ h
 obtain⟨v1,r,hr,h1,_⟩:=eV h1;cases hr;obtain⟨a,c,l,e1,_,e2,e3,_⟩:=xG (α:=XB Sh ×(WH×Nat)) (f:=fun p=>[.slice p.2.1 p.1.length p.2.2]) (R:=fun p=>Rd (dP W) p.2.1 p.2.2 16 p.1.length (p.1.map Sa)/\(∀b,cC p.2.1=some b->b<W.heap.size)/\∀x,x∈p.1->WS x) (w:=1) (by kernel_rfl) (by omega) hs (fun n cs x hx=>by
  obtain⟨v2,cs,rfl,h2,h3⟩:=eV (iS 5 72 _ SH n _ x hx);obtain rfl:=px h3;obtain⟨a,c,l,g1,g2,g3,g4,_⟩:=xG (α:=Sh) (f:=Sa) (R:=WS) (w:=16) (by kernel_rfl) (by omega) hs (fun n cs x hx=>by
   obtain⟨q,rfl,hq⟩:=QI n cs x hx;refine⟨q,?_,hq⟩;obtain⟨a,b,c,d,e,f,g,i,a',b',c',d',e',f',g',i'⟩:=q
   show[Ab.seen _ (.int .u64 (a:Int)),Ab.seen _ (.int .u64 (b:Int)),Ab.seen _ (.int .u64 (c:Int)),Ab.seen _ (.int .u64 (d:Int)),Ab.seen _ (.int .u64 (e:Int)),Ab.seen _ (.int .u64 (f:Int)),Ab.seen _ (.int .u64 (g:Int)),Ab.seen _ (.int .u64 (i:Int)),Ab.seen _ (.int .u64 (a':Int)),Ab.seen _ (.int .u64 (b':Int)),Ab.seen _ (.int .u64 (c':Int)),Ab.seen _ (.int .u64 (d':Int)),Ab.seen _ (.int .u64 (e':Int)),Ab.seen _ (.int .u64 (f':Int)),Ab.seen _ (.int .u64 (g':Int)),Ab.seen _ (.int .u64 (i':Int))]=_
   simp only[oe (show aM (.int _ _)=true from rfl)]
   rfl) h2
  exact⟨(l,a,c),by show[Ab.seen _ _]=_; rw[g1],g3,g2,g4⟩) h1
 refine⟨l.map Prod.fst,a,c,l.map fun p=>[.slice p.2.1 p.1.length p.2.2],?_,fun row hr=>?_,?_,⟨?_,fun i x hi=>?_⟩,fun b hb=>hb⟩
 rw[UH,<-e1]; exact yQ _ _
 obtain⟨q,hq,rfl⟩:=Wa.1 hr;exact(e3 q hq).2.2
 rw[UH]; exact e2
 rw[UH,UH]
 rw[UN] at hi ⊢;obtain⟨q,hq,rfl⟩:=VK.1 hi;have:=e3 q (Ur hq);exact⟨q.2,by rw[hq]; rfl,this.1,this.2.1⟩
theorem Qg(hok:Value.okWide Tryz.prog W .any base 70 v)(h:DataW.Trod enc Tryz.prog W 0 sp held 70 v d p):∃(x1 x2 x3 x4 x5 x6 x7 x8 x9 x10 x11 x12 x13 x14 x15 x16 x17 x18:Nat),VR (dH W) (.agg #[.int .u8 ((x1:Nat):Int),.int .u8 ((x2:Nat):Int),.int .u64 ((x3:Nat):Int),.int .u64 ((x4:Nat):Int),.int .u64 ((x5:Nat):Int),.int .u64 ((x6:Nat):Int),.int .u64 ((x7:Nat):Int),.int .u64 ((x8:Nat):Int),.int .u64 ((x9:Nat):Int),.int .u64 ((x10:Nat):Int),.int .u64 ((x11:Nat):Int),.int .u64 ((x12:Nat):Int),.int .u64 ((x13:Nat):Int),.int .u64 ((x14:Nat):Int),.int .u64 ((x15:Nat):Int),.int .u64 ((x16:Nat):Int),.int .u64 ((x17:Nat):Int),.int .u64 ((x18:Nat):Int)]) v/\x2<256/\WS (x3,x4,x5,x6,x7,x8,x9,x10,x11,x12,x13,x14,x15,x16,x17,x18):=by
 obtain⟨cs,rfl,_⟩:=okWide_struct (t:=70) (fs:=Tryz.prog.underlying 70 |>.elim #[] fun u=>match u with|.struct fs=>fs|_=>#[]) (by kernel_rfl) hok
 obtain⟨n,h⟩:=h;obtain⟨v1,r,hr,h1,h⟩:=eV (uh S0 h);obtain⟨v2,r,rfl,h2,h⟩:=eV h;obtain⟨ns,e1,rfl,e3⟩:=Ku 16 _ h;obtain⟨x3,x4,x5,x6,x7,x8,x9,x10,x11,x12,x13,x14,x15,x16,x17,x18,rfl⟩:=Ni e1;obtain⟨x1,rfl,g1⟩:=xl h1;obtain⟨x2,rfl,g2⟩:=xl h2;refine⟨x1,x2,x3,x4,x5,x6,x7,x8,x9,x10,x11,x12,x13,x14,x15,x16,x17,x18,?_,g2,Qd e3⟩;refine H5 (l:=[.int .u8 ((x1:Nat):Int),.int .u8 ((x2:Nat):Int),.int .u64 ((x3:Nat):Int),.int .u64 ((x4:Nat):Int),.int .u64 ((x5:Nat):Int),.int .u64 ((x6:Nat):Int),.int .u64 ((x7:Nat):Int),.int .u64 ((x8:Nat):Int),.int .u64 ((x9:Nat):Int),.int .u64 ((x10:Nat):Int),.int .u64 ((x11:Nat):Int),.int .u64 ((x12:Nat):Int),.int .u64 ((x13:Nat):Int),.int .u64 ((x14:Nat):Int),.int .u64 ((x15:Nat):Int),.int .u64 ((x16:Nat):Int),.int .u64 ((x17:Nat):Int),.int .u64 ((x18:Nat):Int)]) ?_;rw[hr];exact LR.plain rfl
end
end Go.Proofs.YtpkadoocdgdcfaaGreatDoor
end
section
namespace Go.Proofs.YtpkadoocdgdcfaaGreatDoor
open Go Go.Ab Go.Ab.W
set_option exponentiation.threshold 3000
section
variable{n B:Nat}
def oM{T U a b:Nat}(hT:T≠0)(hU:U≠0)(h:a*U=b*T):bo T a=bo U b:=by
 obtain⟨h1,h2⟩:=C7 (a:=a) (b:=T) (c:=b) (d:=U) hT hU h;exact Prod.ext h1 h2
structure Q(l k:XB Nat)(a T:Nat):Prop where
 num:Lg (((bo T a).1:Nat):Int) false l
 den:Lg (((bo T a).2:Nat):Int) false k
def Q.same{l k:XB Nat}{a T b U:Nat}(h:Q l k a T)(hT:T≠0)(hU:U≠0)(e:a*U=b*T):Q l k b U:=by
 have:=oM hT hU e;exact⟨by rw[<-this]; exact h.num,by rw[<-this]; exact h.den⟩
def Q.zero{T:Nat}(hT:T≠0):Q [] [1] 0 T:=⟨by rw[j7 hT]; exact Lg.zero,by rw[j7 hT]; exact oC⟩
def Q.one{T:Nat}(hT:T≠0):Q [1] [1] T T:=⟨by rw[jT hT]; exact oC,by rw[jT hT]; exact oC⟩
def bV{T a:Nat}(hT:T≠0):(bo T a).1<=a/\(bo T a).2<=T/\(bo T a).2≠0:=⟨(ic hT).1,(ic hT).2.1,(ic hT).2.2.1⟩
def uN{T U a b:Nat}(hT:T≠0)(hU:U≠0):bo ((bo T a).2*(bo U b).2) ((bo T a).1*(bo U b).2+(bo U b).1*(bo T a).2)=bo (T*U) (a*U+b*T):=by
 have e1:=(ic (h:=a) hT).2.2.2.2;have e2:=(ic (h:=b) hU).2.2.2.2;refine oM (UD (bV hT).2.2 (bV hU).2.2) (UD hT hU) ?_;generalize(bo T a).1=p at *;generalize(bo T a).2=q at *;generalize(bo U b).1=r at *;generalize(bo U b).2=s at *;have h1:(p*s+r*q)*(T*U)=(p*T)*(s*U)+(r*U)*(q*T):=by
  rw[UR]; simp only[Uv,Uo,Un]
 rw[h1,e1,e2,UR];simp only[Uv,Uo,Un]
def pX{T U a b:Nat}(hT:T≠0)(hU:U≠0):bo ((bo T a).2*(bo U b).2) ((bo T a).1*(bo U b).1)=bo (T*U) (a*b):=by
 have e1:=(ic (h:=a) hT).2.2.2.2;have e2:=(ic (h:=b) hU).2.2.2.2;refine oM (UD (bV hT).2.2 (bV hU).2.2) (UD hT hU) ?_;generalize(bo T a).1=p at *;generalize(bo T a).2=q at *;generalize(bo U b).1=r at *;generalize(bo U b).2=s at *;have h1:p*r*(T*U)=(p*T)*(r*U):=by simp only[Uv,Uo,Un]
 rw[h1,e1,e2];simp only[Uv,Uo,Un]
def Bd.len(hB:Bd B n){v:Nat}{l:XB Nat}(h:Lg (v:Int) false l)(hv:v<=B*B*2):l.length<=7900:=h.kH (by rw[UP]; exact U6 hv hB.wq)
def Q.len{l k:XB Nat}{a T:Nat}(h:Q l k a T)(hB:Bd B n)(hT:T≠0)(hTb:T<=B)(ha:a<=B):l.length<=7900/\k.length<=7900:=by
 obtain⟨h1,h2,_⟩:=bV (a:=a) hT;have:=hB.sq;exact⟨hB.len h.num (by omega),hB.len h.den (by omega)⟩
def gA(hn:10000000<n){a b:Nat}{l k:XB Nat}(h:Lg (a:Int) false l)(h':Lg (b:Int) false k)(hl:l.length<=7900)(hk:k.length<=7900):∃m,Ec n false l false k=some (false,m)/\Lg ((a*b:Nat):Int) false m:=by
 obtain⟨u,m,h1,h2⟩:=Ka (n:=n) h h' (by omega) (by omega) (by omega)
 rw[<-VW] at h2;have:=h2.un;subst this;exact⟨m,h1,h2⟩
def O3(hn:10000000<n){a b:Nat}{l k:XB Nat}(h:Lg (a:Int) false l)(h':Lg (b:Int) false k)(hl:l.length<=7900)(hk:k.length<=7900):∃m,xW n false l false k=some (false,m)/\Lg ((a+b:Nat):Int) false m:=by
 obtain⟨u,m,h1,h2⟩:=zr (n:=n) h h' (by omega) (by omega) (by omega)
 rw[<-Int.natCast_add] at h2;have:=h2.un;subst this;exact⟨m,h1,h2⟩
def Q.plus(hB:Bd B n){l k l' k':XB Nat}{a T b U:Nat}(h:Q l k a T)(h':Q l' k' b U)(hT:T≠0)(hU:U≠0)(hTb:T<=B)(hUb:U<=B)(ha:a<=B)(hb:b<=B) :
  ∃m p,AZ n false l false k false l' false k'=some (false,m,false,p)/\Q m p (a*U+b*T) (T*U):=by
 have hn:=hB.ns;have hnq:=hB.nq;obtain⟨l1,k1⟩:=h.len hB hT hTb ha;obtain⟨l2,k2⟩:=h'.len hB hU hUb hb;obtain⟨p1,q1,q01⟩:=bV (a:=a) hT;obtain⟨p2,q2,q02⟩:=bV (a:=b) hU;obtain⟨m1,f1,g1⟩:=gA hn h.num h'.den l1 k2;obtain⟨m2,f2,g2⟩:=gA hn h'.num h.den l2 k1;obtain⟨m3,f3,g3⟩:=gA hn h.den h'.den k1 k2;have x1:=hB.mul (Ub p1 ha) (Ub q2 hUb);have x2:=hB.mul (Ub p2 hb) (Ub q1 hTb);have x3:=hB.mul (Ub q1 hTb) (Ub q2 hUb);have y1:=hB.len g1 (by omega)
 have y2:=hB.len g2 (by omega)
 have y3:=hB.len g3 (by omega)
 obtain⟨m4,f4,g4⟩:=O3 hn g1 g2 y1 y2;have y4:=hB.len g4 (by omega)
 obtain⟨m,p,f5,g5,g6⟩:=o9 (n:=n) hn (by omega) (UD q01 q02) g4 g3 (by omega) (by omega)
 refine⟨m,p,?_,⟨by rw[<-uN hT hU]; exact g5,by rw[<-uN hT hU]; exact g6⟩⟩
 unfold AZ;rw[f1,ab]
 dsimp only
 rw[f2,ab]
 dsimp only
 rw[f4,ab]
 dsimp only
 rw[f3,ab]
 dsimp only
 rw[f5,ab]
def Q.times(hB:Bd B n){l k l' k':XB Nat}{a T b U:Nat}(h:Q l k a T)(h':Q l' k' b U)(hT:T≠0)(hU:U≠0)(hTb:T<=B)(hUb:U<=B)(ha:a<=B)(hb:b<=B) :
  ∃m p,BV n false l false k false l' false k'=some (false,m,false,p)/\Q m p (a*b) (T*U):=by
 have hn:=hB.ns;have hnq:=hB.nq;obtain⟨l1,k1⟩:=h.len hB hT hTb ha;obtain⟨l2,k2⟩:=h'.len hB hU hUb hb;obtain⟨p1,q1,q01⟩:=bV (a:=a) hT;obtain⟨p2,q2,q02⟩:=bV (a:=b) hU;obtain⟨m1,f1,g1⟩:=gA hn h.num h'.num l1 l2;obtain⟨m3,f3,g3⟩:=gA hn h.den h'.den k1 k2;have x1:=hB.mul (Ub p1 ha) (Ub p2 hb);have x3:=hB.mul (Ub q1 hTb) (Ub q2 hUb);have y1:=hB.len g1 (by omega)
 have y3:=hB.len g3 (by omega)
 obtain⟨m,p,f5,g5,g6⟩:=o9 (n:=n) hn (by omega) (UD q01 q02) g1 g3 (by omega) (by omega)
 refine⟨m,p,?_,⟨by rw[<-pX hT hU]; exact g5,by rw[<-pX hT hU]; exact g6⟩⟩
 unfold BV;rw[f1,ab]
 dsimp only
 rw[f3,ab]
 dsimp only
 rw[f5,ab]
def Q.Sk(hB:Bd B n){l k:XB Nat}{a T:Nat}(h:Q l k a T)(hT:T≠0)(hTb:T<=B)(ha:a<=B):∃r,xI n false l false k false [1] false [1]=some r/\(r=0↔a=T):=by
 have hn:=hB.ns;obtain⟨l1,k1⟩:=h.len hB hT hTb ha;obtain⟨m1,f1,g1⟩:=gA hn h.num (show Lg ((1:Nat):Int) false [1] from oC) l1 (by decide)
 obtain⟨m2,f2,g2⟩:=gA hn (show Lg ((1:Nat):Int) false [1] from oC) h.den (by decide) k1
 obtain⟨p1,q1,q0⟩:=bV (a:=a) hT;have hs:=hB.sq;have y1:=hB.len g1 (by omega)
 have y2:=hB.len g2 (by omega)
 obtain⟨u,z,z1,z2⟩:=yw (n:=n) g1 g2 (by omega) (by omega) (by omega)
 obtain⟨v,v1,v2,v3⟩:=qz (n:=n) z2;refine⟨v,?_,?_⟩
 unfold xI;rw[f1,ab]
 dsimp only
 rw[f2,ab]
 dsimp only
 unfold B5;rw[z1,ab]
 dsimp only
 rw[v1,ab,ab]
 have e:=(ic (h:=a) hT).2.2.2.2;rw[v3];constructor
 intro g;have:(bo T a).1=(bo T a).2:=by omega
 rw[this,Uo] at e;exact(VI (Us q0) e).symm
 rintro rfl;rw[jT hT]; decide
def RL(a T:Nat):Bool×XB Int×Bool×XB Int:=(false,Dg (bo T a).1,false,Dg (bo T a).2)
def sC{a T b U:Nat}(hT:T≠0)(hU:U≠0)(e:a*U=b*T):RL a T=RL b U:=by unfold RL; rw[oM hT hU e]
def yg(hB:Bd B n){a T b U:Nat}(hT:T≠0)(hU:U≠0)(hTb:T<=B)(hUb:U<=B)(ha:a<=B)(hb:b<=B) :
  vk n false (Dg (bo T a).1) false (Dg (bo T a).2) false (Dg (bo U b).1) false (Dg (bo U b).2)=some (RL (a*U+b*T) (T*U)):=by
 obtain⟨p1,q1,q01⟩:=bV (a:=a) hT;obtain⟨p2,q2,q02⟩:=bV (a:=b) hU;rw[Ms hB (by omega) (by omega) (by omega) (by omega) q01 q02,uN hT hU]
 rfl
def xi(hn:1000000<n){b:Nat}(hb:b<DM):Dl n false (Dg b)=some (decide (b≠0),Dg b):=by
 unfold Dl
 by_cases h:b=0
 subst h;have:=CE n (v:=0) (by rw[gP]; decide) hn
 unfold jY;rw[this,ab,Uw,cx,gP]
 rfl
 rw[Uw,jW n hb h hn,ab,Ud h]
def yV(hn:1000000<n){a b:Nat}(ha:a<DM)(hb:b<DM):∃r:Int,Bi n false (Dg a) false (Dg b)=some r/\(r=0↔a=b)/\(r<0↔a<b):=by
 have L:∀v:Nat,0<(Dg v).length↔v≠0:=fun v=>⟨fun h c=>(by subst c; rw[gP] at h; cases h),fun h=>V5.2 fun c=>h (lT.1 c)⟩
 unfold Bi FX;rw[xi hn hb,ab]
 dsimp only
 unfold rE
 by_cases h:b=0
 subst h;rw[show decide ((0:Nat)≠0)=false from rfl,show((false==false))=true from rfl,cx,yA n (by omega) hn,ab,UZ,jy n ha hn,ab]
 dsimp only
 rw[ab]
 dsimp only
 rw[ab]
 dsimp only
 rw[bK];have:=L a
 by_cases c:a=0
 rw[Xn]; exact⟨0,rfl,by omega,by omega⟩
 rw[Xm]; exact⟨1,rfl,by omega,by omega⟩
 rw[Ud h,show((false==true))=false from rfl,bK]
 obtain⟨r,f1,f2,f3⟩:=pP n ha hb hn;rw[f1,ab]
 by_cases c:b<=a
 have:=L (a-b);rw[Xm,mU n c ha hn,ab,jy n (by omega) hn,ab]
 dsimp only
 rw[ab]
 dsimp only
 rw[ab]
 dsimp only
 rw[bK]
 by_cases c':a=b
 rw[Xn]; exact⟨0,rfl,by omega,by omega⟩
 rw[Xm]; exact⟨1,rfl,by omega,by omega⟩
 rw[Xn,mU n (by omega) hb hn,ab,jW n (by omega) (by omega) hn,ab]
 dsimp only
 rw[ab]
 dsimp only
 rw[ab]
 dsimp only
 rw[cx];exact⟨-1,rfl,by omega,by omega⟩
def CW(hn:2000000<n){a:Nat}(ha:a<=1):vj n (a:Int) 1=some (false,Dg a,false,Dg 1):=by
 have hd:=Am;have h1:(1:Nat)<2 ^ 512:=by decide +kernel
 unfold vj;rw[ue n (by omega) (by omega),ab]
 dsimp only
 rw[show(1:Int)=((1:Nat):Int) from rfl,ue n (v:=1) (by decide) (by omega),ab]
 dsimp only
 rw[oT hn (by omega) (by decide) (by omega) (by omega),ab]
 match a,ha with
 | 0,_=>rw[j7 (by decide)]
 | 1,_=>rw[jT (by decide)]
def LW(hB:Bd B n){a T:Nat}(hT:T≠0)(hTb:T<=B)(ha:a<=B):∃r,zx n false (Dg (bo T a).1) false (Dg (bo T a).2) false (Dg 1) false (Dg 1)=some r/\(r=0↔a=T):=by
 obtain⟨p1,q1,q0⟩:=bV (a:=a) hT;have hs:=hB.sq;have hd:=hB.dq;have hn:=hB.ns;have h1:=hB.one;obtain⟨r,r1,r2,_⟩:=yV (n:=n) (by omega) (a:=(bo T a).1*1) (b:=1*(bo T a).2) (by omega) (by omega)
 refine⟨r,?_,?_⟩
 unfold zx;rw[gw (by omega) (by omega) (by omega) (by omega),ab]
 dsimp only
 rw[gw (by omega) (by omega) (by omega) (by omega),ab]
 dsimp only
 rw[r1,ab]
 have e:=(ic (h:=a) hT).2.2.2.2;rw[r2];constructor
 intro g;have:(bo T a).1=(bo T a).2:=by omega
 rw[this,Uo] at e;exact(VI (Us q0) e).symm
 rintro rfl;rw[jT hT]
end
@[irreducible] def Mx:Nat:=2 ^ 511
def uP:Mx=2 ^ 511:=by unfold Mx; rfl
def ei:0<Mx:=by rw[uP]; exact Nat.pow_pos (by decide)
def SY:5<=Mx:=by rw[uP]; decide +kernel
def sm(f:Nat->Nat):Nat->Nat
 | 0=>0
 | k+1=>sm f k+f k
def Bb{f:Nat->Nat}:∀{k N:Nat},k<=N->sm f k<=sm f N
 | k,0,h=>by rw[show k=0 by omega]; exact Ua _
 | k,N+1,h=>by
  by_cases e:k=N+1
  rw[e]; exact Ua _
  have:=Bb (f:=f) (k:=k) (N:=N) (by omega)
  rw[sm]; omega
def tK{f:Nat->Nat}{i N:Nat}(h:i<N):f i<=sm f N:=by
 have:=Bb (f:=f) (k:=i+1) (N:=N) h;rw[sm] at this; omega
def BK{f:Nat->Nat}{c:Nat}:∀{k:Nat},(∀i,i<k->f i<=c)->sm f k<=k*c
 | 0,_=>VF _
 | k+1,h=>by rw[sm,VU]; exact Nat.add_le_add (BK fun i hi=>h i (by omega)) (h k (by omega))
def BP{f:Nat->Nat}{c:Nat}:∀{k:Nat},sm (fun i=>f i*c) k=sm f k*c
 | 0=>by simp[sm]
 | k+1=>by rw[sm,sm,BP,UR]
structure ShQ(x:Sh)(a T:Nat):Prop where
 ws:WS x
 num:zv (nW x)=(((bo T a).1:Nat):Int)
 den:zv (dW x)=(((bo T a).2:Nat):Int)
def ShQ.same{x:Sh}{a T b U:Nat}(h:ShQ x a T)(hT:T≠0)(hU:U≠0)(e:a*U=b*T):ShQ x b U:=by
 have:=oM hT hU e;exact⟨h.ws,by rw[<-this]; exact h.num,by rw[<-this]; exact h.den⟩
def ux(x:Sh):Bool:=BJ x&&decide (0<=zv (nW x))
attribute [local irreducible] zv
def Pa{x:Sh}(hw:WS x)(h:ux x=true):∃p q,ShQ x p q/\q≠0/\p<=Mx/\q<=Mx:=by
 have h1:=Bool.and_eq_true_iff.1 h;have h2:=Bool.and_eq_true_iff.1 h1.1;have p0:=of_decide_eq_true h1.2;have q0:=of_decide_eq_true h2.1;have g:=of_decide_eq_true h2.2;have hl:(nW x).length=8/\(dW x).length=8:=⟨rfl,rfl⟩;have a1:=lY hw.1 hl.1;have a2:=lY hw.2 hl.2;rw[<-uP] at a1 a2;have e:bo (zv (dW x)).natAbs (zv (nW x)).natAbs=((zv (nW x)).natAbs,(zv (dW x)).natAbs):=by
  unfold bo;rw[g,WA,WA]
 refine⟨(zv (nW x)).natAbs,(zv (dW x)).natAbs,⟨hw,?_,?_⟩,by omega,a1,a2⟩
 exact(Int.natAbs_of_nonneg p0).symm.trans (VB (fun z:Nat×Nat=>(z.1:Int)) e.symm)
 exact(Int.natAbs_of_nonneg (Int.le_of_lt q0)).symm.trans (VB (fun z:Nat×Nat=>(z.2:Int)) e.symm)
structure VQ(L:XB Sh)(v:Nat->Nat)(T N:Nat):Prop where
 len:L.length=N
 at_:∀i,i<N->∃x,L[i]? = some x/\ShQ x (v i) T
def C0{L:XB Sh}:∀k,k<=L.length->(∀i,i<k->∃x,L[i]? = some x/\WS x/\ux x=true)->∃(v:Nat->Nat) (T:Nat),(∀i,i<k->∃x,L[i]? = some x/\ShQ x (v i) T/\v i<=Mx*T)/\T≠0/\T<=Mx ^ k
 | 0,_,_=>⟨fun _=>0,1,fun i hi=>Uy hi (by omega),by decide,by rw[VV]; exact Ua _⟩
 | k+1,h,hx=>by
  obtain⟨v,T,h1,h2,h3⟩:=C0 k (by omega) fun i hi=>hx i (by omega)
  obtain⟨x,e,hw,hp⟩:=hx k (by omega)
  obtain⟨p,q,g1,g2,g3,g4⟩:=Pa hw hp;have hTq:T*q≠0:=UD h2 g2;refine⟨fun i=>if i<k then v i*q else p*T,T*q,fun i hi=>?_,hTq,by rw[UW]; exact UO h3 g4⟩
  by_cases c:i<k
  obtain⟨y,e1,e2,e3⟩:=h1 i c;refine⟨y,e1,?_,?_⟩
  show ShQ y (if i<k then v i*q else p*T) (T*q)
  rw[Ui c];exact e2.same h2 hTq (by simp only[Uo,Un])
  show(if i<k then v i*q else p*T)<=Mx*(T*q)
  rw[Ui c,<-Uv];exact UF _ e3
  have:i=k:=by omega
  subst this;refine⟨x,e,?_,?_⟩
  show ShQ x (if i<i then v i*q else p*T) (T*q)
  rw[Uk c];exact g1.same g2 hTq (by simp only[Uo,Un])
  show(if i<i then v i*q else p*T)<=Mx*(T*q)
  rw[Uk c];exact UO g3 (U8 T (Us g2))
def vz(p:Nat->Bool):∀N,(∀i,i<N->p i=true)\/∃j,j<N/\p j=false/\∀i,i<j->p i=true
 | 0=>.inl fun i hi=>Uy hi (by omega)
 | N+1=>by
  rcases vz p N with h|⟨j,h1,h2,h3⟩
  ·cases hN:p N with
   | true=>exact .inl fun i hi=>if c:i=N then c▸hN else h i (by omega)
   | false=>exact .inr ⟨N,by omega,hN,h⟩
  exact .inr ⟨j,by omega,h2,h3⟩
section
variable{n B:Nat}
def AU(hn:1000<n){a b c d e f g i a' b' c' d' e' f' g' i' v T:Nat}(h:ShQ (a,b,c,d,e,f,g,i,a',b',c',d',e',f',g',i') v T):∃l k,GW n a b c d e f g i a' b' c' d' e' f' g' i'=some (false,l,false,k)/\Q l k v T:=by
 obtain⟨s,l,t,k,f1,f2,f3⟩:=xA hn h.ws;have e1:=h.num;have e2:=h.den
 change zv [a,b,c,d,e,f,g,i]=_ at e1
 change zv [a',b',c',d',e',f',g',i']=_ at e2
 rw[e1] at f2;rw[e2] at f3;have:=f2.un;subst this;have:=f3.un;subst this;exact⟨l,k,f1,f2,f3⟩
def uz(hn:2000000<n){a b c d e f g i a' b' c' d' e' f' g' i' v T:Nat}(h:ShQ (a,b,c,d,e,f,g,i,a',b',c',d',e',f',g',i') v T):u6 n a b c d e f g i a' b' c' d' e' f' g' i'=some (RL v T):=by
 have e1:=h.num;have e2:=h.den
 change zv [a,b,c,d,e,f,g,i]=_ at e1
 change zv [a',b',c',d',e',f',g',i']=_ at e2
 unfold u6 RL;rw[ij hn h.ws.1,ab]
 dsimp only
 rw[ij hn h.ws.2,ab]
 dsimp only
 rw[e1,e2,Um (by omega),Um (by omega),UP,UP]
def G5(hn:2 ^ 600<n){a b c d e f g i a' b' c' d' e' f' g' i':Nat}(h:WS (a,b,c,d,e,f,g,i,a',b',c',d',e',f',g',i')) :
  HF n a b c d e f g i a' b' c' d' e' f' g' i'=some (!ux (a,b,c,d,e,f,g,i,a',b',c',d',e',f',g',i')):=by
 unfold HF ux;rw[AR hn h,ab];cases hk:BJ (a,b,c,d,e,f,g,i,a',b',c',d',e',f',g',i') with
 | false=>rfl
 | true =>
  obtain⟨s,l,t,k,f1,f2,f3⟩:=xA (n:=n) (by omega) h
  obtain⟨r,r1,r2,r3⟩:=qz (n:=n) f2;rw[Ui rfl,Ud rfl,Uj,bK,f1,ab]
  dsimp only
  rw[r1,ab,Bool.true_and]
  show _=some (!decide (0<=zv [a,b,c,d,e,f,g,i]))
  by_cases c0:r<0
  rw[Ud c0,Um (by omega)]; rfl
  rw[Um c0,Ud (by omega)]; rfl
def H3(hn:2 ^ 600<n){a b c d e f g i a' b' c' d' e' f' g' i':Nat}(h:WS (a,b,c,d,e,f,g,i,a',b',c',d',e',f',g',i')) :
  NC n a b c d e f g i a' b' c' d' e' f' g' i'=some (!BJ (a,b,c,d,e,f,g,i,a',b',c',d',e',f',g',i')):=by
 unfold NC;rw[AR hn h,ab];cases BJ (a,b,c,d,e,f,g,i,a',b',c',d',e',f',g',i')<;>rfl
def Er(p:Sh->Bool)(L:XB Sh)(i:Nat):Bool:=match L[i]? with
 | some x=>p x
 | none=>true
def tR{p:Sh->Bool}{L:XB Sh}{i:Nat}{x:Sh}(h:L[i]? = some x):Er p L i=p x:=by unfold Er; rw[h]
def WL(L:XB Sh):Prop:=∀x,x∈L->WS x
def WL.at_{L:XB Sh}(h:WL L){i:Nat}(hi:i<L.length):∃x,L[i]? = some x/\WS x:=⟨L[i],T6 hi,h _ (V0 hi)⟩
def scan{L:XB Sh}{ρ:Type}(p:Sh->Bool)(hN:L.length<n){body:Int->XA (Int⊕ρ)}(stop:Nat->ρ)(done:ρ)
  (hs:∀i x,i<L.length->L[i]? = some x->body (i:Int)=if p x then some (.inl ((i+1:Nat):Int)) else some (.inr (stop i))) (he:body (L.length:Int)=some (.inr done)) :
  ((∀i,i<L.length->Er p L i=true)/\bN body n 0=some done)\/∃j,j<L.length/\Er p L j=false/\(∀i,i<j->Er p L i=true)/\bN body n 0=some (stop j):=by
 have one:∀i,i<L.length->Er p L i=true->body (i:Int)=some (.inl ((i+1:Nat):Int)):=fun i hi h=>by
  rw[hs i L[i] hi (T6 hi),Ui (by rw[tR (T6 hi)] at h; exact h)]
 rcases vz (Er p L) L.length with h|⟨j,h1,h2,h3⟩
 obtain⟨_,g,_⟩:=aS (body:=body) L.length (fun(_:XC) (v:Int)=>v) (fun _=>done) (fun _ _=>True) (fun s i hi _=>⟨(),one i hi (h i hi),trivial⟩) (fun s _=>he) (n:=n) (s:=()) trivial hN;exact .inl ⟨h,g⟩
 obtain⟨_,g,_⟩:=aS (body:=body) j (fun(_:XC) (v:Int)=>v) (fun _=>stop j) (fun _ _=>True) (fun s i hi _=>⟨(),one i (by omega) (h3 i hi),trivial⟩) (fun s _=>by
  rw[hs j L[j] h1 (T6 h1),Uk (by rw[tR (T6 h1)] at h2; rw[h2]; decide)]) (n:=n) (s:=()) trivial (by omega)
 exact .inr ⟨j,h1,h2,h3,g⟩
def GD{L:XB Sh}{i:Nat}(h:Er ux L i=true):Er BJ L i=true:=by
 unfold Er at *;cases hL:L[i]? with
 | none=>rfl
 | some x=>rw[hL] at h; exact(Bool.and_eq_true_iff.1 h).1
def El(hn:2 ^ 600<n){L:XB Sh}(hL:WL L)(hN:L.length<=1000):((∀i,i<L.length->Er BJ L i=true)/\bN (Bp n L) n 0=some (.inr ())/\vo n L=some true)\/((∃i,i<L.length/\Er BJ L i=false)/\(∃j:Nat,bN (Bp n L) n 0=some (.inl (j:Int)))/\vo n L=some false):=by
 have h1:=scan (n:=n) (L:=L) BJ (by omega) (body:=Bp n L) (fun j=>.inl (j:Int)) (.inr ()) (fun i x hi e0=>by
  have hw:=hL x (Ur e0);obtain⟨a,b,c,d,e,f,g,i,a',b',c',d',e',f',g',i'⟩:=x;unfold Bp;rw[Xm,ak hi,ay,T5,e0,ab]
  dsimp only
  rw[H3 hn hw,ab,Xo]
  cases BJ (a,b,c,d,e,f,g,i,a',b',c',d',e',f',g',i')<;>rfl) (by
  unfold Bp;rw[Xn])
 have h2:=scan (n:=n) (L:=L) BJ (by omega) (body:=th n L) (fun _=>.inl ()) (.inr ()) (fun i x hi e0=>by
  have hw:=hL x (Ur e0);obtain⟨a,b,c,d,e,f,g,i,a',b',c',d',e',f',g',i'⟩:=x;unfold th;rw[Xm,ak hi,ay,T5,e0,ab]
  dsimp only
  rw[Jq hn hw,ab,Xo]
  cases BJ (a,b,c,d,e,f,g,i,a',b',c',d',e',f',g',i')<;>rfl) (by
  unfold th;rw[Xn])
 rcases h1 with⟨a1,a2⟩|⟨j,a1,a2,a3,a4⟩<;>rcases h2 with⟨b1,b2⟩|⟨k,b1,b2,b3,b4⟩
 exact .inl ⟨a1,a2,by unfold vo; rw[b2]; rfl⟩
 rw[a1 k b1] at b2; cases b2
 rw[b1 j a1] at a2; cases a2
 exact .inr ⟨⟨j,a1,a2⟩,⟨j,a4⟩,by unfold vo; rw[b4]; rfl⟩
def Bd.n6(hB:Bd B n)(hb:Mx ^ 8<=B):2 ^ 600<n:=by
 have h1:=hB.nq;have h2:=hB.sq;have h3:Mx ^ 2<=Mx ^ 8:=Up ei (by decide)
 have:(2:Nat) ^ 600<Mx ^ 2:=by rw[uP]; decide +kernel
 omega
def Ie(hB:Bd B n){L:XB Sh}{v:Nat->Nat}{T k:Nat}(hk:k<=L.length)(hN:L.length<=1000)(h:∀i,i<k->∃x,L[i]? = some x/\ShQ x (v i) T)(hT:T≠0)(hTb:T<=B)(hs:sm v k<=B)(hkL:k=L.length) :
  ∃l p,bN (qw n L) n (false,[],false,[1],0)=some (false,l,false,p)/\Q l p (sm v k) T:=by
 have hn:=hB.ns;have h2:=aS (body:=qw n L) k (fun(s:XB Nat×XB Nat) (v:Int)=>(false,s.1,false,s.2,v)) (fun s=>(false,s.1,false,s.2)) (fun i s=>Q s.1 s.2 (sm v i) T) (fun s i hi hq=>by
  obtain⟨x,e0,q⟩:=h i hi;obtain⟨a,b,c,d,e,f,g,j,a',b',c',d',e',f',g',j'⟩:=x;obtain⟨l,p,f1,q⟩:=AU (n:=n) (by omega) q
  have l1:=tK (f:=v) hi;have l2:=Bb (f:=v) (VN hi);obtain⟨m,p',f3,f4⟩:=hq.plus hB q hT hT hTb hTb (by omega) (by omega)
  refine⟨(m,p'),?_,f4.same (UD hT hT) hT (by rw[sm,<-UR,Uv])⟩
  unfold qw
  dsimp only
  rw[Xm,ak (by omega),ay,T5,e0,ab]
  dsimp only
  rw[f1,ab]
  dsimp only
  rw[f3,ab]
  dsimp only
  rw[Xo]) (fun s _=>by
  unfold qw
  dsimp only
  rw[Xn]) (n:=n) (s:=([],[1])) (Q.zero hT) (by omega)
 obtain⟨s,h2,g⟩:=h2;exact⟨s.1,s.2,h2,g⟩
def Ax(hB:Bd B n){L:XB Sh}{v:Nat->Nat}{T k:Nat}(hk:k<=L.length)(hN:L.length<=1000)(h:∀i,i<k->∃x,L[i]? = some x/\ShQ x (v i) T)(hT:T≠0)(hTb:T<=B)(hs:sm v k<=B){ρ:XC ⊕(Bool×XB Int×Bool×XB Int)}
  (he:lM n L (false,Dg (bo T (sm v k)).1,false,Dg (bo T (sm v k)).2,(k:Int))=some (.inr ρ)):bN (lM n L) n (false,Dg 0,false,Dg 1,0)=some ρ:=by
 have hn:=hB.ns;have h2:=aS (body:=lM n L) k (fun(s:Nat×Nat) (v:Int)=>(false,Dg s.1,false,Dg s.2,v)) (fun _=>ρ) (fun i s=>s=bo T (sm v i)) (fun s i hi hq=>by
  subst hq;obtain⟨x,e0,q⟩:=h i hi;obtain⟨a,b,c,d,e,f,g,j,a',b',c',d',e',f',g',j'⟩:=x;have l1:=tK (f:=v) hi;have l2:=Bb (f:=v) (VN hi);refine⟨bo T (sm v (i+1)),?_,rfl⟩;have hp:=yg hB (a:=sm v i) (b:=v i) hT hT hTb hTb (by omega) (by omega)
  rw[sC (a:=sm v i*T+v i*T) (T:=T*T) (b:=sm v (i+1)) (U:=T) (UD hT hT) hT (by rw[sm,<-UR,Uv])] at hp
  unfold lM
  dsimp only
  rw[Xm,ak (by omega),ay,T5,e0,ab]
  dsimp only
  rw[uz (by omega) q,ab]
  unfold RL at hp ⊢
  dsimp only
  rw[bK,hp,ab]
  dsimp only
  rw[Xo]) (fun s hs=>by subst hs; exact he) (n:=n) (s:=(0,1)) (by rw[sm,j7 hT]) (by omega)
 obtain⟨s,h2,_⟩:=h2;exact h2
def pN(hn:2000000<n):zy n=some (false,Dg 0,false,Dg 1):=by
 unfold zy;rw[show(0:Int)=((0:Nat):Int) from rfl,CW hn (a:=0) (by decide),ab]
def JF(hB:Bd B n)(hb:Mx ^ 8<=B){L:XB Sh}(hL:WL L)(hN:L.length<=5) :
  (∃v T,VQ L v T L.length/\T≠0/\T<=Mx ^ L.length/\BC n L=some (decide (sm v L.length=T))/\Dy n L=some (decide (sm v L.length=T))/\vo n L=some true) \/
  (BC n L=some false/\(vo n L=some true->Dy n L=some false)/\((∀i,i<L.length->Er BJ L i=true)\/vo n L=some false)):=by
 have hn:=hB.ns;have h0:=hB.n6 hb;have hbd:∀(v:Nat->Nat) (T k:Nat),k<=5->(∀i,i<k->v i<=Mx*T)->T<=Mx ^ k->sm v k<=B/\T<=B:=fun v T k hk h1 h2=>by
  have e1:Mx ^ k<=Mx ^ 5:=Up ei hk;have e2:=BK h1;have e3:k*(Mx*T)<=Mx*(Mx*Mx ^ 5):=UO (Ub hk SY) (Vb _ (Ub h2 e1));have e4:Mx*(Mx*Mx ^ 5)=Mx ^ 7:=by rw[UW Mx 6,UW Mx 5]; simp only[Uo,Un]
  have e5:Mx ^ 5<=Mx ^ 8:=Up ei (by decide)
  have e6:Mx ^ 7<=Mx ^ 8:=Up ei (by decide)
  exact⟨by omega,by omega⟩
 have h1:=scan (n:=n) (L:=L) ux (by omega) (body:=uI n L) (fun j=>.inl (j:Int)) (.inr ()) (fun i x hi e0=>by
  have hw:=hL x (Ur e0);obtain⟨a,b,c,d,e,f,g,i,a',b',c',d',e',f',g',i'⟩:=x;unfold uI;rw[Xm,ak hi,ay,T5,e0,ab]
  dsimp only
  rw[G5 h0 hw,ab,Xo]
  cases ux (a,b,c,d,e,f,g,i,a',b',c',d',e',f',g',i')<;>rfl) (by
  unfold uI;rw[Xn])
 have pos:∀k,k<=L.length->(∀i,i<k->Er ux L i=true)->∀i,i<k->∃x,L[i]? = some x/\WS x/\ux x=true:=fun k hk h i hi=>by
  obtain⟨x,e1,e2⟩:=hL.at_ (i:=i) (by omega)
  exact⟨x,e1,e2,by rw[<-tR (p:=ux) e1]; exact h i hi⟩
 rcases El h0 hL (by omega) with⟨o1,_,o2⟩|⟨⟨j,j1,j2⟩,_,o2⟩
 rcases h1 with⟨a1,a2⟩|⟨j,a1,a2,a4,a3⟩
 
 left
 obtain⟨v,T,g1,g0,g2⟩:=C0 L.length (Ua _) (pos _ (Ua _) a1);have g1':∀i,i<L.length->∃x,L[i]? = some x/\ShQ x (v i) T:=fun i hi=>by obtain⟨x,e1,e2,_⟩:=g1 i hi; exact⟨x,e1,e2⟩
 obtain⟨b0,b1⟩:=hbd v T L.length hN (fun i hi=>by obtain⟨x,_,_,e⟩:=g1 i hi; exact e) g2
 obtain⟨l,p,q0,q2⟩:=Ie hB (Ua _) (by omega) g1' g0 b1 b0 rfl
 obtain⟨r,r1,r2⟩:=q2.Sk hB g0 b1 b0;obtain⟨r',r3,r0⟩:=LW hB (a:=sm v L.length) g0 b1 b0;refine⟨v,T,⟨rfl,g1'⟩,g0,g2,?_,?_,o2⟩
 unfold BC;rw[a2]
 show ob (ob (some (-1:Int)) fun v0=>some (decide (0<=v0))) _=_
 rw[ab,ab,show decide ((0:Int)<=-1)=false from rfl,bK,JL (by omega),ab]
 dsimp only
 rw[q0,ab]
 dsimp only
 rw[ab]
 dsimp only
 rw[Ib (by omega),ab]
 dsimp only
 rw[r1,ab]
 by_cases c:sm v L.length=T
 rw[Ud c,Ud (r2.2 c)]
 rw[Um c,Um fun h=>c (r2.1 h)]
 have e:=Ax hB (Ua _) (by omega) g1' g0 b1 b0 (ρ:=.inr (false,Dg (bo T (sm v L.length)).1,false,Dg (bo T (sm v L.length)).2)) (by
  unfold lM
  dsimp only
  rw[Xn])
 unfold Dy;rw[pN (by omega),ab]
 dsimp only
 rw[e]
 show ob (vj n ((1:Nat):Int) 1) _=_
 rw[CW (by omega) (a:=1) (by decide),ab]
 dsimp only
 rw[r3,ab]
 by_cases c:sm v L.length=T
 rw[Ud c,Ud (r0.2 c)]
 rw[Um c,Um fun h=>c (r0.1 h)]
 
 right
 refine⟨?_,fun _=>?_,.inl o1⟩
 unfold BC;rw[a3]
 show ob (ob (some (j:Int)) fun v0=>some (decide (0<=v0))) _=_
 rw[ab,ab,Ud (by omega),cx]
 obtain⟨v,T,g1,g0,g2⟩:=C0 j (by omega) (pos _ (by omega) a4)
 have g1':∀i,i<j->∃x,L[i]? = some x/\ShQ x (v i) T:=fun i hi=>by obtain⟨x,e1,e2,_⟩:=g1 i hi; exact⟨x,e1,e2⟩
 obtain⟨b0,b1⟩:=hbd v T j (by omega) (fun i hi=>by obtain⟨x,_,_,e⟩:=g1 i hi; exact e) g2
 have e:=Ax hB (by omega) (by omega) g1' g0 b1 b0 (ρ:=.inl ()) (by
  obtain⟨x,e1,e2⟩:=hL.at_ a1;rw[tR e1] at a2;have o3:=o1 j a1;rw[tR e1] at o3;unfold ux at a2;rw[o3,Bool.true_and] at a2;have hneg:=of_decide_eq_false a2;obtain⟨a,b,c,d,e,f,g,i,a',b',c',d',e',f',g',i'⟩:=x
  change ¬0<=zv [a,b,c,d,e,f,g,i] at hneg
  unfold lM
  dsimp only
  rw[Xm,ak a1,ay,T5,e1,ab]
  dsimp only
  unfold u6;rw[ij (by omega) e2.1,ab]
  dsimp only
  rw[ij (by omega) e2.2,ab]
  dsimp only
  rw[ab]
  dsimp only
  rw[Ud (by omega),cx])
 unfold Dy;rw[pN (by omega),ab]
 dsimp only
 rw[e]; rfl
 right
 rcases h1 with⟨a1,a2⟩|⟨j,a1,a2,a4,a3⟩
 rw[GD (a1 j j1)] at j2; cases j2
 refine⟨?_,fun h=>?_,.inr o2⟩
 unfold BC;rw[a3]
 show ob (ob (some (j:Int)) fun v0=>some (decide (0<=v0))) _=_
 rw[ab,ab,Ud (by omega),cx]
 rw[o2] at h; cases h
end
end Go.Proofs.YtpkadoocdgdcfaaGreatDoor
end
section
namespace Go.Proofs.YtpkadoocdgdcfaaGreatDoor
open Go Go.Ab Go.Ab.W
set_option exponentiation.threshold 3000
section
variable{n:Nat}
abbrev T9:=Nat×Nat×Nat×Nat×Nat×Nat×Nat×Nat×Int
def Q3(v:Nat)(t:T9):Prop:=(v<2 ^ 511/\∃a b c d e f g i,t=(a,b,c,d,e,f,g,i,0)/\Wd [a,b,c,d,e,f,g,i]/\vl [a,b,c,d,e,f,g,i]=v)\/(¬v<2 ^ 511/\t=(0,0,0,0,0,0,0,0,6))
def DW:∀{a b:XB Nat},Wd a->Wd b->a.length=b.length->vl a=vl b->a=b
 | [],[],_,_,_,_=>rfl
 | x::a,y::b,ha,hb,hl,hv=>by
  have h1:=ha x (by simp)
  have h2:=hb y (by simp)
  rw[dE,dE] at hv;have e1:x=y:=by omega
  have e2:vl a=vl b:=by omega
  rw[e1,DW (fun z hz=>ha z (by simp[hz])) (fun z hz=>hb z (by simp[hz])) (by simpa using hl) e2]
def Ee{v:Nat}{s t:T9}(h:Q3 v s)(k:Q3 v t):s=t:=by
 rcases h with⟨h1,a,b,c,d,e,f,g,i,rfl,h2,h3⟩|⟨h1,rfl⟩<;>rcases k with⟨k1,a',b',c',d',e',f',g',i',rfl,k2,k3⟩|⟨k1,rfl⟩
 have:=DW h2 k2 rfl (h3.trans k3.symm);simp only[List.cons.injEq,and_true] at this;obtain⟨rfl,rfl,rfl,rfl,rfl,rfl,rfl,rfl⟩:=this
 rfl
 exact Uy h1 k1
 exact Uy k1 h1
 rfl
def zY(n:Nat)(w:XB Nat)(hw:w.length=8):∀(i m:Nat),i<=7->i<m->bN (eE n) m (w,[0,0,0,0,0,0,0,9223372036854775808],(i:Int)-1)=some (.inl 1)\/bN (eE n) m (w,[0,0,0,0,0,0,0,9223372036854775808],(i:Int)-1)=some (.inr ())
 | 0,m+1,_,_=>by
  right
  refine bI ?_;unfold eE
  dsimp only
  rw[Xn]
 | i+1,m+1,h1,h2=>by
  have ez:([0,0,0,0,0,0,0,9223372036854775808]:XB Nat)[i]? = some 0:=by
   match i,h1 with
   | 0,_|1,_|2,_|3,_|4,_|5,_|6,_=>rfl
  obtain⟨x,e⟩:∃x,w[i]? = some x:=⟨_,T6 (by omega)⟩
  have h8:bB ((i:Nat):Int) 8=true:=ak (by omega)
  by_cases c:x=0
  have st:eE n (w,[0,0,0,0,0,0,0,9223372036854775808],((i+1:Nat):Int)-1)=some (.inl (w,[0,0,0,0,0,0,0,9223372036854775808],(i:Int)-1)):=by
   unfold eE
   dsimp only
   rw[show((i+1:Nat):Int)-1=(i:Int) by omega,Xm,h8,ay,T5,e,ab,ay,ez,ab,Ud c,Uj,bK,aA (by omega) (by omega)]
  rw[bO st];exact zY n w hw i m (by omega) (by omega)
  left
  refine bI ?_;unfold eE
  dsimp only
  rw[show((i+1:Nat):Int)-1=(i:Int) by omega,Xm,h8,ay,T5,e,ab,ay,ez,ab,Um c,Uw,cx,ay,ay,Xn]
def ME(hn:20<n){a b c d e f g i:Nat}(hw:Wd [a,b,c,d,e,f,g,i]):∃t,Ip n false a b c d e f g i=some t/\Q3 (vl [a,b,c,d,e,f,g,i]) t:=by
 obtain⟨hb,hi⟩:=rH hw;obtain⟨m,rfl⟩:∃m,n=m+1:=⟨n-1,by omega⟩
 have key:∃r:Int,zO (m+1) a b c d e f g i 0 0 0 0 0 0 0 9223372036854775808=some r/\(r = -1/\i<9223372036854775808\/(r=0\/r=1)/\¬i<9223372036854775808):=by
  unfold zO;have h8:bB 7 8=true:=rfl;have e1:([a,b,c,d,e,f,g,i]:XB Nat)[(7:Int).toNat]? = some i:=rfl;have e2:([0,0,0,0,0,0,0,9223372036854775808]:XB Nat)[(7:Int).toNat]? = some 9223372036854775808:=rfl
  by_cases c1:i=9223372036854775808
  have st:eE (m+1) ([a,b,c,d,e,f,g,i],[0,0,0,0,0,0,0,9223372036854775808],7)=some (.inl ([a,b,c,d,e,f,g,i],[0,0,0,0,0,0,0,9223372036854775808],((7:Nat):Int)-1)):=by
   unfold eE
   dsimp only
   rw[az (by decide),h8,ay,e1,ab,ay,e2,ab,Ud c1,Uj,bK]
   rfl
  rw[bO st];rcases zY (m+1) [a,b,c,d,e,f,g,i] rfl 7 m (by decide) (by omega) with h|h
  rw[h]; exact⟨1,rfl,.inr ⟨.inr rfl,by omega⟩⟩
  rw[h]; exact⟨0,rfl,.inr ⟨.inl rfl,by omega⟩⟩
  by_cases c2:i<9223372036854775808
  rw[bI (r:=.inl (-1))]
  exact⟨-1,rfl,.inl ⟨rfl,c2⟩⟩
  unfold eE
  dsimp only
  rw[az (by decide),h8,ay,e1,ab,ay,e2,ab,Um c1,Uw,cx,ay,ay,az c2]
  rw[bI (r:=.inl 1)]
  exact⟨1,rfl,.inr ⟨.inr rfl,c2⟩⟩
  unfold eE
  dsimp only
  rw[az (by decide),h8,ay,e1,ab,ay,e2,ab,Um c1,Uw,cx,ay,ay,aC c2]
 obtain⟨r,r1,r2⟩:=key;unfold Ip;rw[r1,ab];rcases r2 with⟨rfl,h⟩|⟨rfl|rfl,h⟩
 exact⟨_,rfl,.inl ⟨hb.2 h,a,b,c,d,e,f,g,i,rfl,hw,rfl⟩⟩
 exact⟨_,rfl,.inr ⟨fun k=>h (hb.1 k),rfl⟩⟩
 exact⟨_,rfl,.inr ⟨fun k=>h (hb.1 k),rfl⟩⟩
def SP:(2:Nat) ^ 511<=wp 8:=by rw[Sd]; decide +kernel
def Fo(hn:20<n){v:Nat}{l:XB Nat}(h:Lg (v:Int) false l):∃t,P3 n false l=some t/\Q3 v t:=by
 unfold P3
 by_cases c:8<l.length
 rw[Xm]
 refine⟨_,rfl,.inr ⟨fun k=>?_,rfl⟩⟩;have h1:=jG h.last (fun e=>by rw[e] at c; cases c)
 have h2:wp 8<=wp (l.length-1):=Up (by decide) (by omega)
 have h3:=SP;rw[h.Sf] at h1;omega
 have e1:l++([0,0,0,0,0,0,0,0]:XB Nat).drop l.length=l++List.replicate (8-l.length) 0:=by
  rw[show([0,0,0,0,0,0,0,0]:XB Nat)=List.replicate 8 0 from rfl,List.drop_replicate]
 rw[Xn,dI (by omega),e1]
 have h8:(l++List.replicate (8-l.length) 0).length=8:=by rw[Uf,List.length_replicate]; omega
 have hwd:Wd (l++List.replicate (8-l.length) 0):=h.wd.app (Wd.zeros _);have hv:vl (l++List.replicate (8-l.length) 0)=v:=by rw[lI,jM,Wz,UZ,h.Sf]
 obtain⟨a,b,c,d,e,f,g,i,q⟩:=Kv h8;rw[q] at hwd hv ⊢;obtain⟨t,t1,t2⟩:=ME hn hwd;rw[hv] at t2;refine⟨t,?_,t2⟩;rw[show Lj [a,b,c,d,e,f,g,i]=some (a,b,c,d,e,f,g,i) from rfl,ab]
 dsimp only
 rw[t1,ab]
def LK:(List.replicate (16:Int).toNat (0:Int)).set ((15:Int).toNat) 2147483648=Dg (2 ^ 511):=by
 have b1:(2:Nat) ^ 511<4294967296 ^ 16:=by decide +kernel
 have b2:(4294967296:Nat) ^ 15<=2 ^ 511:=by decide +kernel
 have h1:=qO 16 (2 ^ 511) b1;have h2:¬(Dg (2 ^ 511)).length<=15:=fun c=>by
  have:=Uc (iT (2 ^ 511)) (Up (n:=4294967296) (by decide) c)
  omega
 rw[show 16-(Dg (2 ^ 511)).length=0 by omega,List.replicate_zero,Vc] at h1
 exact Eq.trans (by decide +kernel) h1
def EK{i:Nat}:wp (i/2)*2 ^ (32*(i%2))=4294967296 ^ i:=by
 unfold wp;have e1:(18446744073709551616:Nat)=4294967296 ^ 2:=by decide
 have e2:(2:Nat) ^ (32*(i%2))=4294967296 ^ (i%2):=by rw[Wy]
 rw[e1,e2,<-Wy,<-Vs,Vz]
def OK(hn:1000<n){v:Nat}(hv:v<2 ^ 511):∃w,bN (vJ n (Dg v)) n (([0,0,0,0,0,0,0,0]:XB Nat),0)=some w/\w.length=8/\Wd w/\vl w=v:=by
 have hl:(Dg v).length<=16:=wA (Uc hv (by decide +kernel))
 have h:=aS (body:=vJ n (Dg v)) (Dg v).length (fun(s:XB Nat) (v:Int)=>(s,v)) id (fun i s=>s.length=8/\Wd s/\vl s=v%4294967296 ^ i) (fun s i hi hq=>by
  obtain⟨q1,q2,q3⟩:=hq;have hj:i/2<8:=by omega
  obtain⟨x,e⟩:∃x,s[i/2]? = some x:=⟨_,T6 (by omega)⟩
  have hd:=UX (v/4294967296 ^ i) (show 0<4294967296 by decide)
  have ed:=tS i v hi;generalize hD:v/4294967296 ^ i%4294967296=D at hd ed;have hx:x<2 ^ (32*(i%2)):=by
   have h1:=tB (l:=s) 0 e;have h2:=UX v (Nat.pow_pos (n:=i) (show 0<4294967296 by decide))
   rw[<-q3,<-EK] at h2;refine Nat.lt_of_mul_lt_mul_left (a:=wp (i/2)) ?_;omega
  have hy:D*2 ^ (32*(i%2))+x<18446744073709551616:=by
   rcases Nat.mod_two_eq_zero_or_one i with m|m
   rw[m] at hx ⊢;simp at hx ⊢;omega
   rw[m] at hx ⊢;simp at hx ⊢;omega
  have hsh:gk .u64 (ui .u64 (D:Int)) (WQ (32*(Int.tmod (i:Int) 2))).toNat=D*2 ^ (32*(i%2)):=by
   have e0:Int.tmod (i:Int) 2=((i%2:Nat):Int):=rfl;rw[e0,aA (by omega) (by omega),show((32:Int)*((i%2:Nat):Int)).toNat=32*(i%2) by omega,Qq (by omega),sd (by omega),fJ (by omega)]
  have et:WQ (Int.tdiv (i:Int) 2)=((i/2:Nat):Int):=by
   rw[show Int.tdiv (i:Int) 2=((i/2:Nat):Int) from rfl,aA (by omega) (by omega)]
  refine⟨s.set (i/2) (x+D*2 ^ (32*(i%2))),?_,by rw[Vh]; exact q1,q2.set (by omega),?_⟩
  have h8:bB ((i/2:Nat):Int) 8=true:=ak hj;have e0:Int.tmod (i:Int) 2=((i%2:Nat):Int):=rfl;unfold vJ
  dsimp only
  rw[Xm,et,h8,ay,T5,e,ab,ak hi,ay,T5,ed,ab,dI (by rw[e0,aA (by omega) (by omega)]; omega),hsh,ab,ay,fJ (by omega),Xo]
  have h1:=tB (l:=s) (x+D*2 ^ (32*(i%2))) e;have h2:wp (i/2)*(x+D*2 ^ (32*(i%2)))=wp (i/2)*x+4294967296 ^ i*D:=by
   rw[Vj,<-EK]; simp only[Uv,Uo,Un]
  rw[UW,Nat.mod_mul,hD];omega) (fun s hq=>by
  unfold vJ
  dsimp only
  rw[Xn]; rfl) (n:=n) (s:=[0,0,0,0,0,0,0,0]) ⟨rfl,fun x hx=>by simp at hx; omega,by rw[VV,Nat.mod_one]; rfl⟩ (by omega)
 obtain⟨w,h1,h2,h3,h4⟩:=h;exact⟨w,h1,h2,h3,by rw[h4,UG (iT v)]⟩
def rW(hn:2000000<n){v:Nat}(hv:v<DM):∃t,N4 n false (Dg v)=some t/\Q3 v t:=by
 have hd:=Am;have b1:(2:Nat) ^ 511<2 ^ 512:=by decide +kernel
 obtain⟨r,r1,r2,r3⟩:=pP n hv (b:=2 ^ 511) (by omega) (by omega)
 unfold N4;rw[dI (by decide),gW (by decide),ay,show bB 15 ((16:Int).toNat)=true from rfl,ay,show(List.replicate (16:Int).toNat (0:Int))[(15:Int).toNat]? = some 0 from rfl,ab,LK,r1,ab]
 by_cases c:v<2 ^ 511
 have c1:=r3.2 c;obtain⟨w,w1,w2,w3,w4⟩:=OK (n:=n) (by omega) c
 obtain⟨a,b,c',d,e,f,g,i,rfl⟩:=Kv w2;rw[Xn,Xn,ab,bK,bK,ab,w1,ab,show Lj [a,b,c',d,e,f,g,i]=some (a,b,c',d,e,f,g,i) from rfl,ab]
 exact⟨_,rfl,.inl ⟨c,a,b,c',d,e,f,g,i,rfl,w3,w4⟩⟩
 refine⟨(0,0,0,0,0,0,0,0,6),?_,.inr ⟨c,rfl⟩⟩;have:¬r<0:=fun k=>c (r3.1 k)
 by_cases c2:0<r
 rw[az c2,ab,cx]
 rw[aC c2,az (show r=0 by omega),ab,Uw,cx]
def GJ(hn:2000000<n){p q:Nat}{l k:XB Nat}(hl:Lg (p:Int) false l)(hk:Lg (q:Int) false k)(hp:p<DM)(hq:q<DM):∃t,Cr n false l false k=some t/\Cd n false (Dg p) false (Dg q)=some t:=by
 obtain⟨t1,f1,g1⟩:=Fo (n:=n) (by omega) hl
 obtain⟨t2,f2,g2⟩:=Fo (n:=n) (by omega) hk
 obtain⟨t3,f3,g3⟩:=rW hn hp;obtain⟨t4,f4,g4⟩:=rW hn hq;have e1:=Ee g1 g3;have e2:=Ee g2 g4;subst e1;subst e2;have:Cr n false l false k=Cd n false (Dg p) false (Dg q):=by
  unfold Cr Cd;rw[f1,f2,f3,f4]
 rw[<-this];obtain⟨a,b,c,d,e,f,g,i,j⟩:=t1;obtain⟨a',b',c',d',e',f',g',i',j'⟩:=t2;unfold Cr;rw[f1,ab]
 dsimp only
 rw[f2,ab]
 dsimp only
 cases decide (j=0)<;>cases decide (j'=0)<;>exact⟨_,rfl,rfl⟩
end
end Go.Proofs.YtpkadoocdgdcfaaGreatDoor
end
