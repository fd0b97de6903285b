/- A part of the proof. -/
import Derived.Test.YtpkadoocdgdcfaaGreatDoorKa4
import Derived.Lib.Mul64
set_option linter.all false
section
open Go Go.Ab Go.Ab.W
abbrev V6(m:V7)(v0:Value):Value->V7->Prop:=fun v m'=>∃x:WC,v=v0/\Hp m m' []
end
section
namespace Go.Proofs.YtpkadoocdgdcfaaGreatDoor
section
open Go Go.Ab Go.Ab.W
section
variable{α β σ ρ:Type}
def bZ(a b:WA β):br true a b=a:=rfl
def bB(a b:WA β):br false a b=b:=rfl
def aw(a:WA β):gd true a=a:=rfl
def ab(x:α)(f:α->WA β):ob (some x) f=f x:=rfl
def ay{p:Prop}[Decidable p](h:p)(a b:WA β):br (decide p) a b=a:=by rw[S4 h]; rfl
def V3{p:Prop}[Decidable p]{a b:WA β}(h:p:=by omega):br (decide p) a b=a:=ay h a b
def aD{p:Prop}[Decidable p](h:¬p)(a b:WA β):br (decide p) a b=b:=by rw[Ta h]; rfl
def V4{p:Prop}[Decidable p]{a b:WA β}(h:¬p:=by omega):br (decide p) a b=b:=aD h a b
def cg{p:Prop}[Decidable p](h:p)(a:WA β):gd (decide p) a=a:=by rw[S4 h]; rfl
def ak{i n:Nat}(h:i<n):bG (i:Int) n=true:=S4 ⟨Ue i,by simpa using h⟩
def aC{x:Int}(h1 : -9223372036854775808<=x)(h2:x<9223372036854775808):Vx x=x:=wrap_i64 x h1 (by omega)
def aq{i:Nat}(h:i<4611686018427387904):Vx ((i:Int)+1)=((i+1:Nat):Int):=by rw[aC (by omega) (by omega)]; rfl
def V5{i:Nat}(h:i<4611686018427387904:=by omega):Vx ((i:Int)+1)=((i+1:Nat):Int):=aq h
def bO{body:σ->WA (σ⊕ρ)}{n:Nat}{s s':σ}(h:body s=some (.inl s')):bH body (n+1) s=bH body n s':=by simp only[bH,h]
def bL{body:σ->WA (σ⊕ρ)}{n:Nat}{s:σ}{r:ρ}(h:body s=some (.inr r)):bH body (n+1) s=some r:=by simp only[bH,h]
end
def qc{n:Nat}(h:n<=1073741824):lim n=true:=TK h
structure Okay(N:Nat)(es:Vm):Prop where
 pos:1<=N
 le:N<=64
 len:es.length<=200
 mem:∀e∈es,∃a b:Nat,e=((a:Int),(b:Int))/\a<b/\b<N
def bl(x:Nat):Nat:=if x=0 then 0 else Nat.log2 x+1
def rv{x k:Nat}:k<bl x↔2 ^ k<=x:=by
 unfold bl
 by_cases h:x=0
 subst h;rw[S7 rfl];have:=Nat.two_pow_pos k;omega
 rw[S8 h,Nat.lt_succ_iff,Nat.le_log2 h]
def Fp{x m:Nat}(h:∀k,k<m↔2 ^ k<=x):m=bl x:=by
 rcases Nat.lt_trichotomy m (bl x) with h1|h1|h1
 have:=(h m).2 (rv.1 h1); omega
 exact h1
 have:=rv.2 ((h (bl x)).1 h1); omega
def Hq{x s:Nat}(h:2 ^ s<=x):bl (x >>> s)+s=bl x:=by
 refine Fp fun k=>?_;rw[Nat.shiftRight_eq_div_pow]
 by_cases hk:k<s
 have:2 ^ k<=2 ^ s:=Td (by decide) (by omega)
 constructor
 intro _; omega
 intro _; omega
 obtain⟨d,rfl⟩:∃d,k=d+s:=⟨k-s,by omega⟩
 have h1:=rv (x:=x/2 ^ s) (k:=d);have h2:2 ^ (d+s)<=x↔2 ^ d<=x/2 ^ s:=by rw[Ut,Nat.le_div_iff_mul_le (Nat.two_pow_pos s)]
 rw[h2,<-h1]; omega
def OT:∀y:Fin 256,gm[y.val]? = some (bl y.val):=by decide +kernel
def HZ{x s:Nat}(h:x<2 ^ s):bl x<=s:=by
 rcases TO s (bl x) with h1|h1
 have:=rv.1 h1; omega
 exact h1
def tE(s y m:Nat)(hs:s<=32)(hy:y<2 ^ (2*s))(hm:m<=64):∃y' m':Nat,br (decide (2 ^ s<=y)) (some (cG .u64 y s,Vx ((m:Int)+(s:Int)))) (some (y,(m:Int)))=some (y',(m':Int))/\y'<2 ^ s/\bl y'+m'=bl y+m/\m'<=m+s:=by
 by_cases h:2 ^ s<=y
 refine⟨y >>> s,m+s,?_,?_,?_,SX _⟩
 rw[ay h,I6 (by omega),aC (by omega) (by omega)]; rfl
 rw[Nat.shiftRight_eq_div_pow,TZ (Nat.two_pow_pos s),<-Ut];rw[Nat.two_mul] at hy; exact hy
 have:=Hq h; omega
 exact⟨y,m,aD h _ _,by omega,rfl,by omega⟩
def CA(n x:Nat)(hx:x<2 ^ 64):HD n x=some ((bl x:Nat):Int):=by
 unfold HD;obtain⟨y1,m1,e1,h1,b1,g1⟩:=tE 32 x 0 (by omega) hx (by omega)
 have e1':br (decide (4294967296<=x)) (some (cG .u64 x 32,(32:Int))) (some (x,0))=some (y1,(m1:Int)):=e1;rw[e1',ab];obtain⟨y2,m2,e2,h2,b2,g2⟩:=tE 16 y1 m1 (by omega) h1 (by omega)
 have e2':br (decide (65536<=y1)) (some (cG .u64 y1 16,Vx ((m1:Int)+16))) (some (y1,(m1:Int)))=some (y2,(m2:Int)):=e2;simp only[e2',ab];obtain⟨y3,m3,e3,h3,b3,g3⟩:=tE 8 y2 m2 (by omega) h2 (by omega)
 have e3':br (decide (256<=y2)) (some (cG .u64 y2 8,Vx ((m2:Int)+8))) (some (y2,(m2:Int)))=some (y3,(m3:Int)):=e3;simp only[e3',ab];have h3:y3<256:=h3;have e:uw .u8 y3=y3:=TA h3;have h8:bl y3<=8:=HZ h3;have ht:gm[y3]? = some (bl y3):=OT ⟨y3,h3⟩;have w1:Vx ((bl y3:Nat):Int)=((bl y3:Nat):Int):=aC (by omega) (by omega)
 rw[e,ak h3,aw,SS,ht,ab,w1,aC (by omega) (by omega)]
 simp only[Option.some.injEq]; omega
def IQ{σ ρ τ:Type}{body:τ->WA (τ⊕ρ)}(N:Nat)(mk:σ->Int->τ)(fin:σ->ρ)(I:Nat->σ->Prop)
  (hs:∀s i,i<N->I i s->∃s',body (mk s (i:Int))=some (.inl (mk s' ((i+1:Nat):Int)))/\I (i+1) s') (he:∀s,I N s->body (mk s (N:Int))=some (.inr (fin s))) :
  ∀(k i n:Nat) (s:σ),i+k=N->I i s->k<n->∃s',bH body n (mk s (i:Int))=some (fin s')/\I N s':=by
 intro k
 induction k with
 | zero =>
  intro i n s hi hI hn;obtain⟨n,rfl⟩:∃n',n=n'+1:=⟨n-1,by omega⟩
  have:i=N:=by omega
  subst this;exact⟨s,by simp only[bH,he s hI],hI⟩
 | succ k ih =>
  intro i n s hi hI hn;obtain⟨n,rfl⟩:∃n',n=n'+1:=⟨n-1,by omega⟩
  obtain⟨s',h1,h2⟩:=hs s i (by omega) hI
  simp only[bH,h1];exact ih (i+1) n s' (by omega) h2 (by omega)
def aR{σ ρ τ:Type}{body:τ->WA (τ⊕ρ)}(N:Nat)(mk:σ->Int->τ)(fin:σ->ρ)(I:Nat->σ->Prop)
  (hs:∀s i,i<N->I i s->∃s',body (mk s (i:Int))=some (.inl (mk s' ((i+1:Nat):Int)))/\I (i+1) s') (he:∀s,I N s->body (mk s (N:Int))=some (.inr (fin s)))
  {n:Nat} {s:σ} (hI:I 0 s) (hn:N<n):∃s',bH body n (mk s 0)=some (fin s')/\I N s' :=
 IQ N mk fin I hs he N 0 n s (by omega) hI hn
def val(w:Nat):WB Nat->Nat
 | []=>0
 | d::ds=>d+2 ^ w*val w ds
def vl:WB Nat->Nat
 | []=>0
 | d::l=>d+18446744073709551616*vl l
def Wd(l:WB Nat):Prop:=∀d∈l,d<18446744073709551616
def wp(k:Nat):Nat:=18446744073709551616 ^ k
def Kj:wp 0=1:=rfl
def gU(k:Nat):wp (k+1)=18446744073709551616*wp k:=by unfold wp; rw[TE,Tj]
def Na(a b:Nat):wp (a+b)=wp a*wp b:=Ut _ _ _
def BU(k:Nat):0<wp k:=Vi (by decide)
def gN:vl []=0:=rfl
def dz(d:Nat)(l:WB Nat):vl (d::l)=d+18446744073709551616*vl l:=rfl
def lZ(a b:WB Nat):vl (a++b)=vl a+wp a.length*vl b:=by
 induction a with
 | nil=>simp[vl,wp]
 | cons d a ih=>rw[Vc,dz,dz,ih,Tz,gU,Uf,Ty,UY]
def jy{l:WB Nat}(h:Wd l):vl l<wp l.length:=by
 induction l with
 | nil=>exact Nat.one_pos
 | cons d l ih =>
  have h1:=h d T5;have h2:=ih fun e he=>h e (TB _ he);rw[dz,Tz,gU];omega
def jB(k:Nat):vl (List.replicate k 0)=0:=by
 induction k with
 | zero=>rfl
 | succ k ih=>rw[Uh,dz,ih]
def Wd.nil:Wd []:=fun _ h=>nomatch h
def Wd.zeros(k:Nat):Wd (List.replicate k 0):=fun d hd=>by rw[List.eq_of_mem_replicate hd]; decide
def Wd.app{a b:WB Nat}(ha:Wd a)(hb:Wd b):Wd (a++b):=fun d hd=>(T7.1 hd).elim (ha d) (hb d)
def Wd.left{a b:WB Nat}(h:Wd (a++b)):Wd a:=fun d hd=>h d (T7.2 (.inl hd))
def Wd.one{d:Nat}(h:d<18446744073709551616):Wd [d]:=fun e he=>by rw[TG.1 he]; exact h
def Wd.at{l:WB Nat}(h:Wd l){i d:Nat}(hi:l[i]? = some d):d<18446744073709551616:=h d (Ti hi)
def Wd.set{l:WB Nat}(h:Wd l){i d:Nat}(hd:d<18446744073709551616):Wd (l.set i d):=fun e he=>by
 rcases UH he with h1|rfl
 exact h e h1
 exact hd
def Wd.take{l:WB Nat}(h:Wd l)(k:Nat):Wd (l.take k):=fun d hd=>h d (List.mem_of_mem_take hd)
def eM(l:WB Nat)(i:Nat)(hi:i<=l.length):vl l=vl (l.take i)+wp i*vl (l.drop i):=by
 have:=lZ (l.take i) (l.drop i);rwa[List.take_append_drop,TW,T3 hi] at this
def jM{l:WB Nat}{i d:Nat}(hi:l[i]? = some d):vl (l.drop i)=d+18446744073709551616*vl (l.drop (i+1)):=by
 obtain⟨h1,h2⟩:=Tc.1 hi;rw[UT h1,dz,h2]
def sH{l:WB Nat}{i d:Nat}(e:Nat)(hi:l[i]? = some d):vl (l.set i e)+wp i*d=vl l+wp i*e:=by
 obtain⟨h1,h2⟩:=Tc.1 hi;have a:=eM l i (UQ h1);have b:=eM (l.set i e) i (by rw[TQ]; exact UQ h1)
 have c:(l.set i e)[i]? = some e:=by rw[Ub h1]
 rw[jM hi] at a;rw[jM c,List.take_set_of_le (SX i),List.drop_set_of_lt (show i<i+1 from Uj i)] at b
 rw[a,b,Uf,Uf];omega
structure Lg(z:Int)(s:Bool)(l:WB Nat):Prop where
 wd:Wd l
 last:∀d,l.getLast? = some d->d≠0
 val:z=if s then -(vl l:Int) else(vl l:Int)
 sign:s=true->l≠[]
def ju{l:WB Nat}(h:∀d,l.getLast? = some d->d≠0)(hl:l≠[]):wp (l.length-1)<=vl l:=by
 obtain⟨a,d,rfl⟩:∃a d,l=a++[d]:=⟨l.dropLast,l.getLast hl,(List.dropLast_concat_getLast hl).symm⟩;have h1:=h d (by simp)
 rw[lZ,S5,TC,Nat.add_sub_cancel,dz,gN];have:wp a.length*1<=wp a.length*(d+18446744073709551616*0):=T6 _ (by omega)
 omega
def kj{l:WB Nat}(h:∀d,l.getLast? = some d->d≠0):vl l=0↔l=[]:=by
 refine⟨fun h1=>?_,fun h1=>by rw[h1]; rfl⟩
 by_cases hl:l=[]
 exact hl
 have:=ju h hl;have:=BU (l.length-1);omega
def uy{d:Nat}{l:WB Nat}(h:∀e,(d::l).getLast? = some e->e≠0):∀e,l.getLast? = some e->e≠0:=by
 intro e he;cases l with
 | nil=>cases he
 | cons a l=>exact h e (by rw[List.getLast?_cons_cons]; exact he)
def NO:∀{l k:WB Nat},Wd l->Wd k->(∀d,l.getLast? = some d->d≠0)->(∀d,k.getLast? = some d->d≠0)->vl l=vl k->l=k:=by
 intro l
 induction l with
 | nil=>intro k _ _ _ hk h; exact((kj hk).1 h.symm).symm
 | cons d l ih =>
  intro k wl wk hl hk h;cases k with
  | nil=>exact Tl ((kj hl).1 h) (by simp)
  | cons e k =>
   have h1:=wl d T5;have h2:=wk e T5;rw[dz,dz] at h;have h3:d=e:=by omega
   have h4:vl l=vl k:=by omega
   rw[h3,ih (fun x hx=>wl x (TB _ hx)) (fun x hx=>wk x (TB _ hx)) (uy hl) (uy hk) h4]
def Lg.inj{z:Int}{s t:Bool}{l k:WB Nat}(h:Lg z s l)(h':Lg z t k):s=t/\l=k:=by
 have a:=h.val;have b:=h'.val;have hz:=kj h.last;have hz':=kj h'.last;have e:vl l=vl k:=by
  cases s<;>cases t<;>simp only[Tf,if_false,if_true] at a b<;>omega
 have e':=NO h.wd h'.wd h.last h'.last e;refine⟨?_,e'⟩;subst e';cases s<;>cases t<;>simp only[Tf,if_false,if_true] at a b
 rfl
 exact Tl (hz.1 (by omega)) (h'.sign rfl)
 exact Tl (hz.1 (by omega)) (h.sign rfl)
 rfl
def tU(s:Bool)(x:Nat):Int:=if s then -(x:Int) else(x:Int)
def Lg.zero:Lg 0 false []:={ wd:=Wd.nil,last:=fun _ h=>(nomatch h),val:=rfl,sign:=fun h=>(nomatch h)}
def Lg.small{x:Nat}(h0:x≠0)(h:x<18446744073709551616)(s:Bool):Lg (tU s x) s [x]:=⟨Wd.one h,fun d hd=>by simp at hd; omega,by simp[tU,vl],fun _=>by simp⟩
def Lg.GU{z:Int}{s:Bool}{l:WB Nat}(h:Lg z s l):s=decide (z<0):=by
 have a:=h.val;have hz:=kj h.last;cases s with
 | false=>simp only[Tf,if_false] at a; rw[Ta (by omega)]
 | true =>
  simp only[if_true] at a;have:vl l≠0:=fun e=>h.sign rfl (hz.1 e);rw[S4 (by omega)]
def Lg.abs{z:Int}{s:Bool}{l:WB Nat}(h:Lg z s l):vl l=z.natAbs:=by
 have a:=h.val;cases s<;>simp only[Tf,if_false,if_true] at a<;>omega
def Lg.Q2{z:Int}{s:Bool}{l:WB Nat}(h:Lg z s l):l=[]↔z=0:=by
 rw[<-kj h.last,h.abs]; omega
def fc{n:Nat}(s:Bool){l:WB Nat}(hl:Wd l)(hb:l.length<4611686018427387904)(hn:l.length<n) :
  ∃t k,mG n s l=some (t,k)/\Lg (tU s (vl l)) t k:=by
 have hL:∀i m,i<=l.length->i<m->vl (l.drop i)=0->∃j,bH (nY n l) m ((i:Nat):Int)=some ((j:Nat):Int)/\j<=l.length/\vl (l.drop j)=0/\∀d,(l.take j).getLast? = some d->d≠0:=by
  intro i
  induction i with
  | zero =>
   intro m _ hm h0;obtain⟨m,rfl⟩:∃m',m=m'+1:=⟨m-1,by omega⟩
   refine⟨0,bL ?_,Uw _,h0,fun d hd=>by simp at hd⟩
   unfold nY;rw[aD (by decide)]; rfl
  | succ i ih =>
   intro m hi hm h0;obtain⟨m,rfl⟩:∃m',m=m'+1:=⟨m-1,by omega⟩
   have hi':i<l.length:=hi;have e0:Vx (((i+1:Nat):Int)-1)=((i:Nat):Int):=by rw[aC (by omega) (by omega)]; omega
   have e1:l[((i:Nat):Int).toNat]? = some l[i]:=by simp[hi']
   have e2:l[i]? = some l[i]:=by simp[hi']
   by_cases hz:l[i]=0
   have:nY n l ((i+1:Nat):Int)=some (.inl ((i:Nat):Int)):=by
    unfold nY;rw[V3,e0,ak hi',aw,e1,ab,ab,ay hz]
   rw[bO this];exact ih m (UQ hi') (by omega) (by rw[jM e2,hz,h0])
   refine⟨i+1,bL ?_,hi,h0,fun d hd=>?_⟩
   unfold nY;rw[V3,e0,ak hi',aw,e1,ab,ab,aD hz]
   rw[List.getLast?_eq_getElem?,TW,T3 hi,Nat.add_sub_cancel,List.getElem?_take_of_lt (Uj i),e2] at hd;cases hd;exact hz
 obtain⟨j,h1,h2,h3,h4⟩:=hL l.length n (SX _) hn (by rw[Vb]; rfl)
 have hv:vl l=vl (l.take j):=by rw[eM l j h2,h3]; omega
 have hk:okB 0 ((j:Nat):Int) l.length=true:=S4 ⟨by omega,by omega,by omega⟩
 have ht:(l.drop Vy).take (((j:Nat):Int).toNat-Vy)=l.take j:=by simp
 have hz:=kj h4;unfold mG;rw[h1,ab];cases s with
 | false =>
  refine⟨false,l.take j,?_,hl.take j,h4,?_,fun h=>nomatch h⟩
  rw[bB,hk,aw,ht]
  rw[hv]; rfl
 | true =>
  refine⟨decide (0<((j:Nat):Int)),l.take j,?_,hl.take j,h4,?_,fun h e=>?_⟩
  rw[bZ,hk,aw,ht]
  rw[hv]
  by_cases hj:0<((j:Nat):Int)
  rw[S4 hj]; rfl
  have:j=0:=by omega
  subst this
  rfl
  have h5:=of_decide_eq_true h;have:=Up List.length e;rw[TW,T3 h2] at this;simp at this;omega
def vH(l:WB Nat)(i:Nat):∃y,vl (l.drop i)=y+18446744073709551616*vl (l.drop (i+1))/\(Wd l->y<18446744073709551616) /\
  (br (decide (((i:Nat):Int)<(l.length:Int))) (gd (bG ((i:Nat):Int) l.length) (ob (l[((i:Nat):Int).toNat]?) fun x=>some x)) (some 0))=some y:=by
 by_cases h:i<l.length
 have e2:l[i]? = some l[i]:=by simp[h]
 exact⟨l[i],jM e2,fun w=>w.at e2,by rw[V3,ak h,aw,SS,e2]; rfl⟩
 refine⟨0,?_,fun _=>by decide,by rw[V4]⟩
 rw[UR (by omega),UR (by omega)]; rfl
def rA{a:WB Nat}{k e d:Nat}:(a++e::List.replicate k 0).set a.length d=(a++[d])++List.replicate k 0:=by
 rw[List.set_append_right _ _ (SX _),UE,List.set_cons_zero,Uk]; rfl
def om(a:WB Nat)(d:Nat):vl (a++[d])=vl a+wp a.length*d:=by rw[lZ,dz,gN]; rfl
def Ln{n:Nat}{l k:WB Nat}(hl:Wd l)(hk:Wd k)(hb:l.length<1073741824)(hb':k.length<1073741824)(hn:l.length<n)(hn':k.length<n) :
  ∃r,HE n l k=some r/\Wd r/\vl r=vl l+vl k/\r.length<=l.length+k.length+1:=by
 have key:∀a b:WB Nat,Wd a->Wd b->a.length<1073741824->b.length<=a.length->a.length<n->∃r,(gd (decide (0<=Vx ((a.length:Int)+1))) (gd (lim ((Vx ((a.length:Int)+1)).toNat)) (
   ob (bH (nR n a b) n ((List.replicate (Vx ((a.length:Int)+1)).toNat (0:Nat)),(Vx ((a.length:Int)+1)).toNat,0,0)) fun(l2,n2,v0) =>
   gd (bG (a.length:Int) n2) (ob (l2[(a.length:Int).toNat]?) fun x3=>some (l2.set ((a.length:Int).toNat) v0)))))=some r/\Wd r/\vl r=vl a+vl b/\r.length=a.length+1:=by
  intro a b ha h0 hba hab hna;have w1:Vx ((a.length:Int)+1)=((a.length+1:Nat):Int):=by rw[aC (by omega) (by omega)]; rfl
  have hL:∀j i m p c,i+j=a.length->j<m->p.length=i->Wd p->c<=1->vl p+wp i*(c+vl (a.drop i)+vl (b.drop i))=vl a+vl b ->
    ∃q c',bH (nR n a b) m (p++List.replicate (j+1) 0,a.length+1,c,((i:Nat):Int))=some (q++[0],a.length+1,c')/\q.length=a.length/\Wd q/\c'<=1/\vl q+wp a.length*c'=vl a+vl b:=by
   intro j
   induction j with
   | zero =>
    intro i m p c hij hm hp wp' hc hv;obtain⟨m,rfl⟩:∃m',m=m'+1:=⟨m-1,by omega⟩
    have hi:i=a.length:=by omega
    refine⟨p,c,bL ?_,by omega,wp',hc,?_⟩
    unfold nR
    dsimp only
    rw[V4]; rfl
    subst hi;rw[Vb,UR (by omega),gN] at hv
    simpa using hv
   | succ j ih =>
    intro i m p c hij hm hp wp' hc hv;obtain⟨m,rfl⟩:∃m',m=m'+1:=⟨m-1,by omega⟩
    have hi:i<a.length:=by omega
    obtain⟨x,e2⟩:∃x,a[i]? = some x:=⟨a[i],by simp[hi]⟩
    have hx:=ha.at e2;obtain⟨y,y1,y2,y3⟩:=vH b i;have y2:=y2 h0;have e0:(p++List.replicate (j+1+1) 0)[((i:Nat):Int).toNat]? = some 0:=by
     rw[SS,Tu (by omega),TX]; simp; omega
    have st:nR n a b (p++List.replicate (j+1+1) 0,a.length+1,c,((i:Nat):Int))=some (.inl ((p++[(x+y+c)%18446744073709551616])++List.replicate (j+1) 0,a.length+1,(x+y+c)/18446744073709551616,((i+1:Nat):Int))):=by
     unfold nR
     dsimp only
     rw[V3,ak hi,aw,SS,e2,ab]
     rw[SS] at y3 e0;rw[y3,ab];unfold Ew;rw[cg hc,ab]
     dsimp only
     rw[ak (show i<a.length+1 by omega),aw,e0,ab,V5,<-hp,Uh,rA]
    rw[bO st];refine ih (i+1) m _ _ (by omega) (by omega) (by rw[S5,hp]; rfl) (wp'.app (Wd.one (TN _ (by decide)))) (by omega) ?_
    rw[<-hv,om,hp,gU,jM e2,y1];have h1:∀s:Nat,s=s%18446744073709551616+18446744073709551616*(s/18446744073709551616):=fun s=>(Nat.mod_add_div s _).symm;have h2:=h1 (x+y+c);generalize(x+y+c)%18446744073709551616=lo at h2 ⊢;generalize(x+y+c)/18446744073709551616=hi' at h2 ⊢;have h3:c+(x+18446744073709551616*vl (a.drop (i+1)))+(y+18446744073709551616*vl (b.drop (i+1)))=lo+18446744073709551616*(hi'+vl (a.drop (i+1))+vl (b.drop (i+1))):=by omega
    rw[h3,Uf (wp i),Ts (wp i),<-Ty,UY,UY]
  obtain⟨q,c',h1,h2,h3,h4,h5⟩:=hL a.length 0 n [] 0 (by omega) hna rfl Wd.nil (by omega) (by simp[vl,wp])
  refine⟨q++[c'],?_,h3.app (Wd.one (by omega)),by rw[om,h2,h5],by rw[S5,h2]; rfl⟩
  rw[w1,cg (by omega)]
  have hlim:lim ((a.length+1:Nat):Int).toNat=true:=qc (by omega)
  rw[hlim,aw,SS];rw[show(List.replicate (a.length+1) (0:Nat),a.length+1,(0:Nat),(0:Int))=(([]:WB Nat)++List.replicate (a.length+1) 0,a.length+1,0,((0:Nat):Int)) from rfl,h1,ab]
  dsimp only
  rw[ak (Uj _),aw,SS,<-h2,Tu (SX _),UE];rw[show([0]:WB Nat)[0]? = some 0 from rfl,ab,List.set_append_right _ _ (SX _),UE]
  rfl
 unfold HE
 by_cases h:l.length<k.length
 rw[V3,ab]
 obtain⟨r,h1,h2,h3,h4⟩:=key k l hk hl hb' (UQ h) hn';exact⟨r,h1,h2,by omega,by omega⟩
 rw[V4,ab]
 obtain⟨r,h1,h2,h3,h4⟩:=key l k hl hk hb (by omega) hn
 exact⟨r,h1,h2,h3,by omega⟩
def Dt{n:Nat}{l k:WB Nat}(hl:Wd l)(hk:Wd k)(ll:∀d,l.getLast? = some d->d≠0)(lk:∀d,k.getLast? = some d->d≠0)(hb:l.length<1073741824)(hb':k.length<1073741824)(hn:l.length<n) :
  ∃r:Int,FH n l k=some r/\(r<0↔vl l<vl k)/\(0<r↔vl k<vl l):=by
 have big:∀a b:WB Nat,Wd a->(∀d,b.getLast? = some d->d≠0)->a.length<b.length->vl a<vl b:=by
  intro a b ha hb h;have h1:=jy ha;have h2:=ju hb (by intro e; rw[e] at h; exact Ve _ h)
  have h3:wp a.length<=wp (b.length-1):=Td (by decide) (by omega)
  omega
 unfold FH
 by_cases h:l.length=k.length
 ·rw[S4 (show(l.length:Int)=(k.length:Int) by omega),S9,bB]
  have hL:∀i m,i<=l.length->i<m->vl (l.drop i)=vl (k.drop i)->∃r,bH (lK n l k) m ((i:Int)-1)=some r /\
    ((r=.inl (-1)/\vl l<vl k)\/(r=.inl 1/\vl k<vl l)\/(r=.inr ()/\vl l=vl k)):=by
   intro i
   induction i with
   | zero =>
    intro m _ hm h0;obtain⟨m,rfl⟩:∃m',m=m'+1:=⟨m-1,by omega⟩
    refine⟨.inr (),bL ?_,.inr (.inr ⟨rfl,by simpa using h0⟩)⟩
    unfold lK;rw[aD (by decide)]
   | succ i ih =>
    intro m hi hm h0;obtain⟨m,rfl⟩:∃m',m=m'+1:=⟨m-1,by omega⟩
    obtain⟨x,e2⟩:∃x,l[i]? = some x:=⟨l[i],by simp⟩
    obtain⟨y,e3⟩:∃y,k[i]? = some y:=⟨k[i],by simp⟩
    have a1:=jM e2;have a2:=jM e3;have a3:=eM l i (by omega)
    have a4:=eM k i (by omega)
    have t1:=jy (hl.take i);have t2:=jy (hk.take i);rw[TW,T3 (by omega)] at t1 t2
    have e0:((i+1:Nat):Int)-1=((i:Nat):Int):=by omega
    rw[e0];rcases Nat.lt_trichotomy x y with hxy|hxy|hxy
    refine⟨.inl (-1),bL ?_,.inl ⟨rfl,?_⟩⟩
    unfold lK;rw[V3,ak (by omega),aw,SS,e2,ab,ak (by omega),aw,e3,ab,ay hxy]
    have:wp i*(vl (l.drop i)+1)<=wp i*vl (k.drop i):=T6 _ (by omega)
    rw[Uf] at this;omega
    have st:lK n l k ((i:Nat):Int)=some (.inl (((i:Nat):Int)-1)):=by
     unfold lK;rw[V3,ak (by omega),aw,SS,e2,ab,ak (by omega),aw,e3,ab,V4,aw,aw,V4,aC (by omega) (by omega)]
    rw[bO st];exact ih m (by omega) (by omega) (by omega)
    refine⟨.inl 1,bL ?_,.inr (.inl ⟨rfl,?_⟩)⟩
    unfold lK;rw[V3,ak (by omega),aw,SS,e2,ab,ak (by omega),aw,e3,ab,V4,aw,aw,ay hxy]
    have:wp i*(vl (k.drop i)+1)<=wp i*vl (l.drop i):=T6 _ (by omega)
    rw[Uf] at this;omega
  obtain⟨r,h1,h2⟩:=hL l.length n (SX _) hn (by rw[Vb,h,Vb])
  rw[aC (by omega) (by omega),h1,ab]
  rcases h2 with⟨rfl,h2⟩|⟨rfl,h2⟩|⟨rfl,h2⟩
  exact⟨-1,rfl,by omega,by omega⟩
  exact⟨1,rfl,by omega,by omega⟩
  exact⟨0,rfl,by omega,by omega⟩
 rw[Ta (show ¬(l.length:Int)=(k.length:Int) by omega),To,bZ]
 refine⟨_,rfl,?_,?_⟩<;>rw[aC (by omega) (by omega)]
 refine⟨fun h1=>big l k hl lk (by omega),fun h1=>?_⟩
 by_cases h2:l.length<k.length
 omega
 have:=big k l hk ll (by omega); omega
 refine⟨fun h1=>big k l hk ll (by omega),fun h1=>?_⟩
 by_cases h2:k.length<l.length
 omega
 have:=big l k hl lk (by omega); omega
def xm{n:Nat}{l k:WB Nat}(hl:Wd l)(hk:Wd k)(hle:vl k<=vl l)(hlk:k.length<=l.length)(hb:l.length<1073741824)(hn:l.length<n) :
  ∃r,FK n l k=some r/\Wd r/\vl r=vl l-vl k/\r.length=l.length:=by
 have hL:∀j i m p c,i+j=l.length->j<m->p.length=i->Wd p->c<=1->vl p+wp i*vl (l.drop i)+vl k=vl l+wp i*(c+vl (k.drop i)) ->
   ∃q c',bH (pI n l k) m (p++List.replicate j 0,c,((i:Nat):Int))=some q/\q.length=l.length/\Wd q/\c'<=1/\vl q+vl k=vl l+wp l.length*c':=by
  intro j
  induction j with
  | zero =>
   intro i m p c hij hm hp wp' hc hv;obtain⟨m,rfl⟩:∃m',m=m'+1:=⟨m-1,by omega⟩
   have hi:i=l.length:=by omega
   refine⟨p,c,bL ?_,by omega,wp',hc,?_⟩
   unfold pI
   dsimp only
   rw[V4,List.replicate_zero,T8]
   subst hi;rw[Vb,UR (by omega),gN] at hv
   simpa using hv
  | succ j ih =>
   intro i m p c hij hm hp wp' hc hv;obtain⟨m,rfl⟩:∃m',m=m'+1:=⟨m-1,by omega⟩
   have hi:i<l.length:=by omega
   obtain⟨x,e2⟩:∃x,l[i]? = some x:=⟨l[i],by simp[hi]⟩
   have hx:=hl.at e2;obtain⟨y,y1,y2,y3⟩:=vH k i;have y2:=y2 hk;have e3:(p++List.replicate (j+1) 0)[((i:Nat):Int).toNat]? = some 0:=by
    rw[SS,Tu (by omega),TX]; simp; omega
   have st:pI n l k (p++List.replicate (j+1) 0,c,((i:Nat):Int))=some (.inl ((p++[(x+18446744073709551616-y-c)%18446744073709551616])++List.replicate j 0,if x<y+c then 1 else 0,((i+1:Nat):Int))):=by
    unfold pI
    dsimp only
    rw[V3,ak hi,aw,SS,e2,ab]
    rw[SS] at y3 e3;rw[y3,ab];unfold Ji;rw[cg hc,ab]
    dsimp only
    rw[SS,ak hi,aw,e3,ab,V5,<-hp,Uh,rA]
   rw[bO st];refine ih (i+1) m _ _ (by omega) (by omega) (by rw[S5,hp]; rfl) (wp'.app (Wd.one (TN _ (by decide)))) (by split<;>omega) ?_
   rw[jM e2,y1] at hv;rw[om,hp,gU];have h2:(x+18446744073709551616-y-c)%18446744073709551616+y+c=x+18446744073709551616*(if x<y+c then 1 else 0):=by split<;>omega
   generalize(x+18446744073709551616-y-c)%18446744073709551616=lo at h2 ⊢;generalize(if x<y+c then 1 else 0)=hi' at h2 ⊢
   generalize vl (l.drop (i+1))=A at hv ⊢;generalize vl (k.drop (i+1))=D at hv ⊢;have h3:wp i*(lo+y+c)=wp i*(x+18446744073709551616*hi'):=by rw[h2]
   simp only[Uf,Ts (wp i) 18446744073709551616,Ty] at hv h3 ⊢;omega
 obtain⟨q,c',h1,h2,h3,h4,h5⟩:=hL l.length 0 n [] 0 (by omega) hn rfl Wd.nil (by omega) (by simp[vl,wp])
 refine⟨q,?_,h3,?_,h2⟩
 unfold FK;rw[cg (by omega),SS,qc (by omega),aw]
 rw[show(List.replicate l.length (0:Nat),(0:Nat),(0:Int))=(([]:WB Nat)++List.replicate l.length 0,0,((0:Nat):Int)) from rfl,h1,ab]
 have h6:=jy h3;rw[h2] at h6;have:c'=0:=by
  rcases Nat.le_one_iff_eq_zero_or_eq_one.1 h4 with e|e
  exact e
  rw[e] at h5; omega
 rw[this] at h5;omega
def zB(s:Bool):tU s 0=0:=by cases s<;>rfl
def CM{n:Nat}{a b:Int}{s t:Bool}{l k:WB Nat}(h:Lg a s l)(h':Lg b t k)(hb:l.length<1000000)(hb':k.length<1000000)(hn:l.length+k.length+1<n) :
  ∃u m,wU n s l t k=some (u,m)/\Lg (a+b) u m:=by
 have av:=h.val;have bv:=h'.val;unfold wU
 by_cases e:s=t
 subst e;rw[beq_self_eq_true,bZ];obtain⟨r,r1,r2,r3,r4⟩:=Ln (n:=n) h.wd h'.wd (by omega) (by omega) (by omega) (by omega)
 obtain⟨u,m,m1,m2⟩:=fc (n:=n) s r2 (by omega) (by omega)
 refine⟨u,m,by rw[r1,ab,m1]; rfl,?_⟩
 have:a+b=tU s (vl r):=by rw[av,bv,r3]; unfold tU; cases s<;>simp<;>omega
 rw[this]; exact m2
 have:(s==t)=false:=by cases s<;>cases t<;>simp_all
 rw[this,bB];obtain⟨r,r1,r2,r3⟩:=Dt (n:=n) h.wd h'.wd h.last h'.last (by omega) (by omega) (by omega)
 have ht:t = !s:=by cases s<;>cases t<;>simp_all
 have longer:∀p q:WB Nat,Wd p->Wd q->(∀d,p.getLast? = some d->d≠0)->(∀d,q.getLast? = some d->d≠0)->vl p<=vl q->p.length<=q.length:=by
  intro p q wp1 wq1 lp lq hle;refine Nat.le_of_not_lt fun hlt=>?_;have h1:=jy wq1;have h2:=ju lp (by intro e; rw[e] at hlt; exact Ve _ hlt)
  have h3:wp q.length<=wp (p.length-1):=Td (by decide) (by omega)
  omega
 rw[r1,ab]
 by_cases hr:r<0
 have hv:=r2.1 hr;obtain⟨m,m1,m2,m3,m4⟩:=xm (n:=n) h'.wd h.wd (UQ hv) (longer _ _ h.wd h'.wd h.last h'.last (UQ hv)) (by omega) (by omega)
 obtain⟨u,m',u1,u2⟩:=fc (n:=n) t m2 (by omega) (by omega)
 refine⟨u,m',by rw[ay hr,ab]; dsimp only; rw[m1,ab,u1]; rfl,?_⟩
 have:a+b=tU t (vl m):=by rw[av,bv,m3,ht]; unfold tU; cases s<;>simp<;>omega
 rw[this]; exact u2
 have hv:vl k<=vl l:=Nat.le_of_not_lt fun h=>hr (r2.2 h);obtain⟨m,m1,m2,m3,m4⟩:=xm (n:=n) h.wd h'.wd hv (longer _ _ h'.wd h.wd h'.last h.last hv) (by omega) (by omega)
 obtain⟨u,m',u1,u2⟩:=fc (n:=n) s m2 (by omega) (by omega)
 refine⟨u,m',by rw[aD hr,ab]; dsimp only; rw[m1,ab,u1]; rfl,?_⟩
 have:a+b=tU s (vl m):=by rw[av,bv,m3,ht]; unfold tU; cases s<;>simp<;>omega
 rw[this]; exact u2
def Kq{n:Nat}{a:Int}{s:Bool}{l:WB Nat}(h:Lg a s l)(hb:l.length<1000000)(hn:l.length<n):∃u m,Cp n s l=some (u,m)/\Lg (-a) u m:=by
 obtain⟨u,m,m1,m2⟩:=fc (n:=n) (!s) h.wd (by omega) hn
 refine⟨u,m,by unfold Cp; rw[m1]; rfl,?_⟩
 have : -a=tU (!s) (vl l):=by rw[h.val]; unfold tU; cases s<;>simp
 rw[this]; exact m2
def Lg.len{a:Int}{s:Bool}{l:WB Nat}(h:Lg a s l){k:Nat}(hk:a.natAbs<wp k):l.length<=k:=by
 refine Nat.le_of_not_lt fun hlt=>?_;have h2:=ju h.last (by intro e; rw[e] at hlt; exact Ve _ hlt)
 have h3:wp k<=wp (l.length-1):=Td (by decide) (by omega)
 have:=h.abs;omega
def Lg.up{a:Int}{s:Bool}{l:WB Nat}(h:Lg a s l):a.natAbs<wp l.length:=by
 rw[<-h.abs]; exact jy h.wd
def DC{n:Nat}{a b:Int}{s t:Bool}{l k:WB Nat}(h:Lg a s l)(h':Lg b t k)(hb:l.length<1000000)(hb':k.length<1000000)(hn:l.length+k.length+1<n) :
  ∃u m,GM n s l t k=some (u,m)/\Lg (a-b) u m:=by
 obtain⟨u,m,m1,m2⟩:=Kq (n:=n) h' hb' (by omega)
 have hm:m.length<=k.length:=m2.len (by rw[Int.natAbs_neg]; exact h'.up)
 obtain⟨v,q,q1,q2⟩:=CM (n:=n) h m2 hb (by omega) (by omega)
 exact⟨v,q,by unfold GM; rw[m1,ab]; dsimp only; rw[q1]; rfl,q2⟩
def nA{n:Nat}{a:Int}{s:Bool}{l:WB Nat}(h:Lg a s l):∃r,CE n s l=some r/\(r<0↔a<0)/\(r=0↔a=0):=by
 have h1:=h.GU;have h2:=h.Q2;unfold CE;cases s with
 | true =>
  have:=of_decide_eq_true h1.symm;exact⟨-1,rfl,by omega,by omega⟩
 | false =>
  have:=of_decide_eq_false h1.symm;rw[bB]
  by_cases hl:l=[]
  subst hl;have:=h2.1 rfl;exact⟨0,rfl,by omega,by omega⟩
  have:¬a=0:=fun e=>hl (h2.2 e);have:¬(l.length:Int)=0:=fun e=>hl (Un (by omega))
  rw[aD this];exact⟨1,rfl,by omega,by omega⟩
def yu{a:Nat}(ha:a<18446744073709551616):uw .u64 (uw .u64 a &&& uw .u64 4294967295)=a%4294967296:=by
 rw[Hc ha (by decide)]
 exact Nat.and_two_pow_sub_one_eq_mod a 32
def Jb(a:Nat):cG .u64 a 32=a/4294967296:=rfl
def qM{a:Nat}(h:a<18446744073709551616):uw .u64 a=a:=TA h
def JO(n:Nat){x y:Nat}(hx:x<18446744073709551616)(hy:y<18446744073709551616):GR n x y=some (x*y/18446744073709551616,x*y%18446744073709551616):=by
 obtain⟨b1,b2,b3,hhi⟩:=Lib.mul64_hi x y hx hy;have ba:=Lib.half_mul_le (a:=x/4294967296) (b:=y/4294967296) (by omega) (by omega)
 have bb:=Lib.half_mul_le (a:=x/4294967296) (b:=y%4294967296) (by omega) (by omega)
 have bc:=Lib.half_mul_le (a:=x%4294967296) (b:=y/4294967296) (by omega) (by omega)
 unfold GR;simp only[yu hx,yu hy,Jb,ab];rw[qM b1,qM (a:=x/4294967296*(y%4294967296)) (by omega)]
 rw[qM b2,yu b2,qM (a:=x%4294967296*(y/4294967296)) (by omega),qM b3,qM (a:=x/4294967296*(y/4294967296)) (by omega)]
 rw[qM (a:=x/4294967296*(y/4294967296)+_) (by omega),qM (by omega),hhi]
 rfl
def LB{n:Nat}{k:WB Nat}(hk:Wd k){x i N:Nat}(hx:x<18446744073709551616)(hN:i+k.length<N)(hNb:N<4611686018427387904){b:WB Nat}(hb:Wd b)(hbN:b.length=N) :
  ∀r j m cur c,j+r=k.length->r<m->Wd cur->cur.length=N->c<18446744073709551616->(∀p,i+k.length<=p->cur[p]? = b[p]?) ->
   vl cur+wp (i+j)*c+wp (i+j)*(x*vl (k.drop j))=vl b+wp i*(x*vl k) ->
   ∃q c',bH (pS n k x (i:Int) N) m (cur,c,((j:Nat):Int))=some (q,c')/\Wd q/\q.length=N/\c'<18446744073709551616/\(∀p,i+k.length<=p->q[p]? = b[p]?)/\vl q+wp (i+k.length)*c'=vl b+wp i*(x*vl k):=by
 intro r
 induction r with
 | zero =>
  intro j m cur c hj hm hw hl hc hp hv;obtain⟨m,rfl⟩:∃m',m=m'+1:=⟨m-1,by omega⟩
  have hj':j=k.length:=by omega
  refine⟨cur,c,bL ?_,hw,hl,hc,hp,?_⟩
  unfold pS
  dsimp only
  rw[V4]
  rw[<-hv,hj',Vb,gN]; omega
 | succ r ih =>
  intro j m cur c hj hm hw hl hc hp hv;obtain⟨m,rfl⟩:∃m',m=m'+1:=⟨m-1,by omega⟩
  have hi:j<k.length:=by omega
  obtain⟨y,e2⟩:∃y,k[j]? = some y:=⟨k[j],by simp[hi]⟩
  have hy:=hk.at e2;obtain⟨d,e3⟩:∃d,cur[i+j]? = some d:=⟨cur[i+j]'(by omega),by simp⟩
  have hd:=hw.at e3;have hxy:x*y<=18446744073709551615*18446744073709551615:=T0 (by omega) (by omega)
  have w1:Vx ((i:Int)+((j:Nat):Int))=((i+j:Nat):Int):=by rw[aC (by omega) (by omega)]; omega
  have st:pS n k x (i:Int) N (cur,c,((j:Nat):Int))=some (.inl (cur.set (i+j) ((x*y+d+c)%18446744073709551616),(x*y+d+c)/18446744073709551616,((j+1:Nat):Int))):=by
   unfold pS
   dsimp only
   rw[V3,ak hi,aw,SS,e2,ab,JO n hx hy,ab]
   dsimp only
   rw[w1,ak (by omega),aw,SS,e3,ab]
   unfold Ew;rw[cg (by omega),ab]
   dsimp only
   rw[cg (by omega),ab]
   dsimp only
   rw[aw,V5,qM (a:=x*y/18446744073709551616+_) (by omega),qM (by omega)]
   congr 3
   congr 1; omega
   congr 1; omega
  rw[bO st];refine ih (j+1) m _ _ (by omega) (by omega) (hw.set (TN _ (by decide))) (by rw[TQ]; exact hl) (by omega) (fun p hp'=>by rw[Uc (by omega)]; exact hp p hp') ?_
  rw[jM e2] at hv;have hs:=sH ((x*y+d+c)%18446744073709551616) e3;rw[<-hv,<-UY i j 1,gU];have h2:(x*y+d+c)%18446744073709551616+18446744073709551616*((x*y+d+c)/18446744073709551616)=x*y+d+c:=Nat.mod_add_div _ _;generalize(x*y+d+c)%18446744073709551616=lo at h2 hs ⊢;generalize(x*y+d+c)/18446744073709551616=hi' at h2 ⊢;generalize vl (k.drop (j+1))=A at hv ⊢;generalize vl (cur.set (i+j) lo)=Z at hs ⊢;have h3:wp (i+j)*(lo+18446744073709551616*hi')=wp (i+j)*(x*y+d+c):=by rw[h2]
  simp only[Uf,Ts (wp (i+j)) 18446744073709551616,Ts x 18446744073709551616,Ty] at hs h3 ⊢;omega
def LL{n:Nat}{l k:WB Nat}(hl:Wd l)(hk:Wd k)(hb:l.length<500000000)(hb':k.length<500000000)(hn:l.length<n)(hn':k.length<n) :
  ∃r,HT n l k=some r/\Wd r/\vl r=vl l*vl k/\r.length=l.length+k.length:=by
 have hL:∀r i m b,i+r=l.length->r<m->Wd b->b.length=l.length+k.length->(∀p,i+k.length<=p->p<l.length+k.length->b[p]? = some 0) ->
   vl b+wp i*(vl (l.drop i)*vl k)=vl l*vl k ->
   ∃q,bH (qd n l k) m (b,l.length+k.length,((i:Nat):Int))=some (q,l.length+k.length)/\Wd q/\q.length=l.length+k.length/\vl q=vl l*vl k:=by
  intro r
  induction r with
  | zero =>
   intro i m b hi hm hw hlen _ hv;obtain⟨m,rfl⟩:∃m',m=m'+1:=⟨m-1,by omega⟩
   have hi':i=l.length:=by omega
   refine⟨b,bL ?_,hw,hlen,?_⟩
   unfold qd
   dsimp only
   rw[V4]
   rw[<-hv,hi',Vb,gN]; simp
  | succ r ih =>
   intro i m b hi hm hw hlen hz hv;obtain⟨m,rfl⟩:∃m',m=m'+1:=⟨m-1,by omega⟩
   have hi':i<l.length:=by omega
   obtain⟨x,e2⟩:∃x,l[i]? = some x:=⟨l[i],by simp⟩
   have hx:=hl.at e2;obtain⟨q,c,q1,q2,q3,q4,q5,q6⟩:=LB (n:=n) (i:=i) hk hx (N:=l.length+k.length) (by omega) (by omega) hw hlen k.length 0 n b 0 (by omega) hn' hw hlen (by decide) (fun _ _=>rfl) (by simp)
   have e3:q[i+k.length]? = some 0:=by rw[q5 _ (SX _)]; exact hz _ (SX _) (by omega)
   have w1:Vx ((i:Int)+(k.length:Int))=((i+k.length:Nat):Int):=by rw[aC (by omega) (by omega)]; omega
   have st:qd n l k (b,l.length+k.length,((i:Nat):Int))=some (.inl (q.set (i+k.length) c,l.length+k.length,((i+1:Nat):Int))):=by
    unfold qd
    dsimp only
    rw[V3,ak hi',aw,SS,e2,ab]
    rw[show((0:Int))=((0:Nat):Int) from rfl,q1,ab]
    dsimp only
    rw[w1,ak (by omega),aw,SS,e3,ab,V5]
   rw[bO st];refine ih (i+1) m _ (by omega) (by omega) (q2.set q4) (by rw[TQ]; exact q3) (fun p h1 h2=>by rw[Uc (by omega),q5 p (by omega)]; exact hz p (by omega) h2) ?_
   have hs:=sH c e3;rw[jM e2] at hv;rw[<-hv,gU];generalize vl (q.set (i+k.length) c)=Z at hs ⊢;generalize vl (l.drop (i+1))=A at hv ⊢;have h4:wp i*((x+18446744073709551616*A)*vl k)=wp i*(x*vl k)+18446744073709551616*wp i*(A*vl k):=by
    simp only[TI,Uf,Ty,Ts (wp i) 18446744073709551616]
   rw[h4];omega
 unfold HT;have w1:Vx ((l.length:Int)+(k.length:Int))=((l.length+k.length:Nat):Int):=by rw[aC (by omega) (by omega)]; omega
 obtain⟨q,q1,q2,q3,q4⟩:=hL l.length 0 n (List.replicate (l.length+k.length) 0) (by omega) hn (Wd.zeros _) (by simp) (fun p _ h2=>by rw[TX]; simp[h2]) (by rw[jB,Kj]; simp)
 refine⟨q,?_,q2,q4,q3⟩;rw[w1,cg (by omega),SS,qc (by omega),aw]
 rw[show((0:Int))=((0:Nat):Int) from rfl,q1]
 rfl
def OP{n:Nat}{a b:Int}{s t:Bool}{l k:WB Nat}(h:Lg a s l)(h':Lg b t k)(hb:l.length<1000000)(hb':k.length<1000000)(hn:l.length+k.length<n) :
  ∃u m,FW n s l t k=some (u,m)/\Lg (a*b) u m:=by
 obtain⟨r,r1,r2,r3,r4⟩:=LL (n:=n) h.wd h'.wd (by omega) (by omega) (by omega) (by omega)
 obtain⟨u,m,m1,m2⟩:=fc (n:=n) (!(s==t)) r2 (by omega) (by omega)
 refine⟨u,m,by unfold FW; rw[r1,ab,m1]; rfl,?_⟩
 have:a*b=tU (!(s==t)) (vl r):=by
  rw[h.val,h'.val,r3]; unfold tU;cases s<;>cases t<;>simp[Int.neg_mul,Int.mul_neg]
 rw[this]; exact m2
def vS{a b:Nat}(ha:a<18446744073709551616)(h:b<=a):iS .u64 a b=a-b:=by
 show(a+(18446744073709551616-b%18446744073709551616))%18446744073709551616=a-b
 omega
def FD(n0:Nat){u y1 y0 d:Nat}(h1:2147483648<=y1)(h1':y1<4294967296)(h0:y0<4294967296)(hd:d<4294967296){Q:Nat}(le_iff:∀p,p<=Q↔p*y1*4294967296+p*y0<=u*4294967296+d)(hQb:Q<4294967296) :
  ∀k r q m,4294967296<=r+k*2147483648->k<m->q*y1+r=u->Q<=q->q<=4294967297->r<4294967296->bH (fJ n0 d y0 y1) m (r,q)=some Q:=by
 intro k
 induction k with
 | zero=>intro r q m hk _ _ _ _ hr; omega
 | succ k ih =>
  intro r q m hk hm hq hQ hqb hr;obtain⟨m,rfl⟩:∃m',m=m'+1:=⟨m-1,by omega⟩
  by_cases hT:4294967296<=q\/4294967296*r+d<q*y0
  have hlt:Q<q:=by
   rcases hT with hT|hT
   omega
   refine Nat.lt_of_not_le fun h=>?_;rw[le_iff] at h;omega
  obtain⟨p,rfl⟩:∃p,q=p+1:=⟨q-1,by omega⟩
  rw[TI,Nat.one_mul] at hq;have test:(br (decide (4294967296<=p+1)) (some true) (some (decide (uw .u64 ((uw .u64 (4294967296*r))+d)<uw .u64 ((p+1)*y0)))))=some true:=by
   by_cases hb:4294967296<=p+1
   rw[ay hb]
   have h2:(p+1)*y0<=4294967295*4294967295:=T0 (by omega) (by omega)
   rw[aD hb,qM (a:=4294967296*r) (by omega),qM (by omega),qM (by omega),S4 (by omega)]
  have sb:iS .u64 (p+1) 1=p:=vS (by omega) (by omega)
  by_cases hb:4294967296<=r+y1
  have st:fJ n0 d y0 y1 (r,p+1)=some (.inr p):=by
   unfold fJ
   dsimp only
   rw[test,ab,bZ,qM (a:=r+y1) (by omega),ay hb,sb]
  rw[bL st];have h2:p*y0<=4294967296*4294967295:=T0 (by omega) (by omega)
  have h3:p<=Q:=by rw[le_iff]; omega
  rw[show p=Q by omega]
  have st:fJ n0 d y0 y1 (r,p+1)=some (.inl (r+y1,p)):=by
   unfold fJ
   dsimp only
   rw[test,ab,bZ,qM (a:=r+y1) (by omega),aD hb,sb]
  rw[bO st];exact ih (r+y1) p m (by omega) (by omega) (by omega) (by omega) (by omega) (by omega)
  have hq2:q<4294967296:=by omega
  have h2:q*y0<=4294967295*4294967295:=T0 (by omega) (by omega)
  have st:fJ n0 d y0 y1 (r,q)=some (.inr q):=by
   unfold fJ
   dsimp only
   rw[V4,qM (a:=4294967296*r) (by omega),qM (by omega),qM (by omega),ab,V4]
  rw[bL st];have h3:q<=Q:=by rw[le_iff]; omega
  rw[show q=Q by omega]
def Ff(n0 y s y1 y0 d e:Nat):∀m q r,bH (sI n0) m (y,s,y1,y0,d,e,q,r)=(bH (fJ n0 d y0 y1) m (r,q)).map fun q=>(y,s,y1,y0,d,e,q):=by
 intro m
 induction m with
 | zero=>intro q r; rfl
 | succ m ih =>
  intro q r;have a:∀b,(br b (br (decide (4294967296<=uw .u64 (r+y1))) (some (.inr (y,s,y1,y0,d,e,iS .u64 q 1))) (some (.inl (y,s,y1,y0,d,e,iS .u64 q 1,uw .u64 (r+y1))))) (some (.inr (y,s,y1,y0,d,e,q))):WA (WR ⊕(Nat×Nat×Nat×Nat×Nat×Nat×Nat))) =
   (br b (br (decide (4294967296<=uw .u64 (r+y1))) (some (.inr (iS .u64 q 1))) (some (.inl (uw .u64 (r+y1),iS .u64 q 1)))) (some (.inr q)):WA ((Nat×Nat)⊕Nat)).map fun x=>match x with|.inl (r,q)=>.inl (y,s,y1,y0,d,e,q,r)|.inr q=>.inr (y,s,y1,y0,d,e,q):=by
   intro b;cases b
   rfl
   rw[bZ,bZ];cases decide (4294967296<=uw .u64 (r+y1))<;>rfl
  have st:sI n0 (y,s,y1,y0,d,e,q,r)=(fJ n0 d y0 y1 (r,q)).map fun x=>match x with|.inl (r,q)=>.inl (y,s,y1,y0,d,e,q,r)|.inr q=>.inr (y,s,y1,y0,d,e,q):=by
   unfold sI fJ
   dsimp only
   cases(br (decide (4294967296<=q)) (some true) (some (decide (uw .u64 ((uw .u64 (4294967296*r))+d)<uw .u64 (q*y0)))):WA Bool) with
   | none=>rfl
   | some b=>exact a b
  unfold bH;rw[st];cases fJ n0 d y0 y1 (r,q) with
  | none=>rfl
  | some x =>
   cases x with
   | inl p=>exact ih p.2 p.1
   | inr p=>rfl
def vC{a b:Nat}(h:b<=a)(hr:a-b<18446744073709551616):iS .u64 (uw .u64 a) (uw .u64 b)=a-b:=by
 show(a%18446744073709551616+(18446744073709551616-b%18446744073709551616%18446744073709551616))%18446744073709551616=a-b
 omega
def MB{x:Nat}(h0:0<x):2 ^ (bl x-1)<=x/\x<2 ^ bl x/\0<bl x:=by
 have h1:0<bl x:=rv.2 (by simp; omega)
 refine⟨rv.1 (by omega),?_,h1⟩
 exact Nat.lt_of_not_le fun h=>Nat.lt_irrefl _ (rv.2 h)
def pa{a s:Nat}(h:s<=64):eT .u64 a s=uw .u64 (a*2 ^ s):=by
 have:min s (IntKind.bits .u64)=s:=T3 h;unfold eT;rw[this]
def yc{a s:Nat}(h:s<=64):cG .u64 a s=a/2 ^ s:=by
 have:min s (IntKind.bits .u64)=s:=T3 h;unfold cG;rw[this]
def CL{n:Nat}(hn:4<n){u y1 y0 d:Nat}(h1:2147483648<=y1)(h1':y1<4294967296)(h0:y0<4294967296)(hd:d<4294967296)(hu:u<y1*4294967296+y0) :
  bH (fJ n d y0 y1) n (iS .u64 u (uw .u64 (uw .u64 (u/y1)*y1)),uw .u64 (u/y1))=some ((u*4294967296+d)/(y1*4294967296+y0)):=by
 have e1:=Ur u y1;have e2:=TN u (show 0<y1 by omega)
 rw[Tj] at e1;have hq:u/y1<=4294967297:=by
  have:u/y1<4294967298:=by rw[TZ (by omega)]; omega
  omega
 rw[qM (a:=u/y1) (by omega),qM (a:=u/y1*y1) (by omega),vS (by omega) (by omega)]
 have hy:0<y1*4294967296+y0:=by omega
 refine FD n h1 h1' h0 hd (fun p=>by rw[Nat.le_div_iff_mul_le hy,Uf,<-Ty]) (by rw[TZ hy]; omega) 2 _ _ n (by omega) (by omega) (by omega) ?_ hq (by omega)
 have:(u*4294967296+d)/(y1*4294967296+y0)<u/y1+1:=by
  rw[TZ hy,TI,Nat.one_mul,Uf,<-Ty];omega
 omega
def LY{U w v A B R1 R0 d1 d0:Nat}(hU:U=w*4294967296)(h6:4294967296*d1+d0=v)(h5:A*4294967296+R1*4294967296=(w+d1)*4294967296)(m3:B+R0=R1*4294967296+d0) :
  U+v=R0+(A*4294967296+B):=by
 omega
def QU(u:Nat):u*18446744073709551616=u*4294967296*4294967296:=by rw[Ty]
def Kp{n:Nat}(hn:4<n){x1 x2 x3:Nat}(h1:x1<x3)(h2:x2<18446744073709551616)(h3:x3<18446744073709551616) :
  IK n x1 x2 x3=some ((x1*18446744073709551616+x2)/x3,(x1*18446744073709551616+x2)%x3):=by
 unfold IK;rw[V4,V4]
 by_cases hz:x1=0
 subst hz;rw[ay rfl,cg (by omega),cg (by omega),qM (TT (Nat.div_le_self _ _) h2)]
 simp
 rw[aD hz];obtain⟨l1,l2,l3⟩:=MB (x:=x3) (by omega)
 have l4:bl x3<=64:=HZ h3;obtain⟨s,hs⟩:∃s,bl x3+s=64:=⟨64-bl x3,by omega⟩
 have r0:AU n x3=some ((s:Nat):Int):=by
  unfold AU;rw[CA n x3 h3,ab,aC (by omega) (by omega)]
  congr 1
  omega
 have u0:ui .u64 ((s:Nat):Int)=s:=by
  show(((s:Nat):Int)%((2 ^ 64:Nat):Int)).toNat=s
  omega
 have P0:0<2 ^ s:=Nat.two_pow_pos s;have PP:2 ^ s*2 ^ (64-s)=18446744073709551616:=by rw[<-Ut,show s+(64-s)=64 by omega]
 have X1:x3*2 ^ s<18446744073709551616:=by
  have:x3*2 ^ s<2 ^ bl x3*2 ^ s:=Nat.mul_lt_mul_of_pos_right l2 P0;rw[<-Ut,hs] at this;exact this
 have X2:9223372036854775808<=x3*2 ^ s:=by
  have:2 ^ (bl x3-1)*2 ^ s<=x3*2 ^ s:=T2 _ l1;rw[<-Ut,show bl x3-1+s=63 by omega] at this
  exact this
 have X3:x1*2 ^ s<x3*2 ^ s:=Nat.mul_lt_mul_of_pos_right h1 P0;have s1:eT .u64 x3 s=x3*2 ^ s:=by
  rw[pa (by omega),qM X1]
 have s2:eT .u64 x1 s=x1*2 ^ s:=by
  rw[pa (by omega),qM (by omega)]
 have s3:eT .u64 x2 s=x2*2 ^ s%18446744073709551616:=by
  rw[pa (by omega)]; rfl
 have t0:cG .u64 x2 (iS .u64 64 s)=x2/2 ^ (64-s):=by
  rw[vS (by decide) (by omega)]
  rw[yc (by omega)]
 have t1:x2/2 ^ (64-s)<2 ^ s:=by rw[TZ (Nat.two_pow_pos _),PP]; exact h2
 have t2:x2*2 ^ s/18446744073709551616=x2/2 ^ (64-s):=by rw[<-PP,Tj x2,Nat.mul_div_mul_left _ _ P0]
 have hor:uw .u64 (uw .u64 (x1*2 ^ s) ||| uw .u64 (x2/2 ^ (64-s)))=x1*2 ^ s+x2/2 ^ (64-s):=by
  have h0:x2/2 ^ (64-s)<=x2:=Nat.div_le_self _ _;rw[JQ (show x1*2 ^ s<2 ^ 64 by omega) (show x2/2 ^ (64-s)<2 ^ 64 by omega),<-Nat.shiftLeft_eq,Nat.shiftLeft_add_eq_or_of_lt t1]
 rw[r0,ab,u0,ab,s1,s2,t0,hor,s3];have key:(x1*2 ^ s+x2/2 ^ (64-s))*18446744073709551616+x2*2 ^ s%18446744073709551616=(x1*18446744073709551616+x2)*2 ^ s:=by
  have:=Ur (x2*2 ^ s) 18446744073709551616;rw[t2] at this;rw[TI,TI,Nat.mul_right_comm x1];omega
 have hv:x2*2 ^ s%18446744073709551616<18446744073709551616:=TN _ (by decide)
 have hu:x1*2 ^ s+x2/2 ^ (64-s)<x3*2 ^ s:=by
  have h0:(x1*18446744073709551616+x2)*2 ^ s<(x3*18446744073709551616)*2 ^ s:=Nat.mul_lt_mul_of_pos_right (by omega) P0
  rw[<-key,Nat.mul_right_comm x3] at h0;omega
 have r1:(x1*18446744073709551616+x2)/x3=((x1*18446744073709551616+x2)*2 ^ s)/(x3*2 ^ s):=by rw[Nat.mul_div_mul_right _ _ P0]
 have r3:(x1*18446744073709551616+x2)%x3=(((x1*18446744073709551616+x2)*2 ^ s)%(x3*2 ^ s))/2 ^ s:=by rw[Nat.mul_mod_mul_right,Nat.mul_div_cancel _ P0]
 rw[r1,r3,<-key];have hss:∀R,cG .u64 R s=R/2 ^ s:=fun R=>yc (by omega)
 clear PP t1 t2 hor key r1 r3 r0 u0 s2 s3 s1 t0 P0 X3 l1 l2 l3 l4 hs;generalize x1*2 ^ s+x2/2 ^ (64-s)=u at hu ⊢;generalize x2*2 ^ s%18446744073709551616=v at hv ⊢;generalize x3*2 ^ s=X at X1 X2 hu ⊢;have hX:X/4294967296*4294967296+X%4294967296=X:=Nat.div_add_mod' _ _;rw[cg (show 0<cG .u64 X 32 by rw[Jb]; omega)]
 simp only[Jb,yu X1,yu hv];rw[ab,Ff];rw[CL hn (u:=u) (y1:=X/4294967296) (y0:=X%4294967296) (d:=v/4294967296) (by omega) (by omega) (by omega) (by omega) (by omega),hX]
 have q0:(u*4294967296+v/4294967296)/X<4294967296:=by rw[TZ (by omega)]; omega
 have m1:=Ur (u*4294967296+v/4294967296) X;have m2:=TN (u*4294967296+v/4294967296) (show 0<X by omega)
 rw[SZ,ab]
 dsimp only
 rw[ab,cg (by omega)]
 have e1:uw .u64 (uw .u64 (u*4294967296)+v/4294967296)=uw .u64 (u*4294967296+v/4294967296):=Nat.mod_add_mod _ _ _;rw[Tj X] at m1;rw[e1,vC (by omega) (by omega)]
 have e2:u*4294967296+v/4294967296-(u*4294967296+v/4294967296)/X*X=(u*4294967296+v/4294967296)%X:=by omega
 rw[e2];obtain⟨Q1,hQ1⟩:∃Q,(u*4294967296+v/4294967296)/X=Q:=⟨_,rfl⟩;obtain⟨R1,hR1⟩:∃R,(u*4294967296+v/4294967296)%X=R:=⟨_,rfl⟩;clear e2;rw[hQ1] at q0 m1 ⊢;rw[hR1] at m1 m2 ⊢;rw[CL hn (u:=R1) (y1:=X/4294967296) (y0:=X%4294967296) (d:=v%4294967296) (by omega) (by omega) (by omega) (by omega) (by omega),hX,ab]
 have q1:(R1*4294967296+v%4294967296)/X<4294967296:=by rw[TZ (by omega)]; omega
 have m3:=Ur (R1*4294967296+v%4294967296) X;have m4:=TN (R1*4294967296+v%4294967296) (show 0<X by omega)
 rw[Tj X] at m3;have e0:uw .u64 (uw .u64 (R1*4294967296)+v%4294967296)=uw .u64 (R1*4294967296+v%4294967296):=Nat.mod_add_mod _ _ _;rw[e0,ab,vC (by omega) (by omega)]
 have e3:R1*4294967296+v%4294967296-(R1*4294967296+v%4294967296)/X*X=(R1*4294967296+v%4294967296)%X:=by omega
 rw[e3,hss];obtain⟨Q0,hQ0⟩:∃Q,(R1*4294967296+v%4294967296)/X=Q:=⟨_,rfl⟩;obtain⟨R0,hR0⟩:∃R,(R1*4294967296+v%4294967296)%X=R:=⟨_,rfl⟩;clear e3;rw[hQ0] at q1 m3 ⊢;rw[hR0] at m3 m4 ⊢;rw[qM (a:=Q1*4294967296) (by omega),qM (by omega)]
 clear hQ1 hR1 hQ0 hR0 e1 e0 hss X1 X2 hX q1 q0 m2 hu h1 h2 h3 hz;have fin:u*18446744073709551616+v=R0+(Q1*4294967296+Q0)*X:=by
  have h0:Q1*X*4294967296+R1*4294967296=(u*4294967296+v/4294967296)*4294967296:=by rw[<-m1,TI]
  rw[TI,Nat.mul_right_comm Q1];have h5:=Ur v 4294967296;generalize v/4294967296=d1 at h0 h5;generalize v%4294967296=d0 at m3 h5;generalize Q1*X=A at h0 ⊢;generalize Q0*X=B at m3 ⊢;exact LY (QU u) h5 h0 m3
 rw[fin,Nat.add_mul_div_right _ _ (show 0<X by omega),Nat.add_mul_mod_self_right,Uq m4,TA m4,TM]
def F2{q:WB Nat}{i e d:Nat}:(List.replicate i 0++e::q).set i d=List.replicate i 0++d::q:=by
 rw[List.set_append_right _ _ (by simp)]
 simp
def GP(i:Nat)(q:WB Nat):List.replicate (i+1) 0++q=List.replicate i 0++0::q:=by
 rw[List.replicate_succ',Uk]; rfl
def Hu{n:Nat}{l:WB Nat}{d:Nat}(hl:Wd l)(hd:d<18446744073709551616)(h0:d≠0)(hb:l.length<1000000)(hn:l.length<n)(hn4:4<n) :
  ∃q t m,zd n l [d]=some (q,m)/\Wd q/\vl q=vl l/d/\q.length=l.length/\Lg ((vl l%d:Nat):Int) t m/\t=false:=by
 have hL:∀i q r m,i+q.length=l.length->i<m->Wd q->r<d->vl l=vl (l.take i)+wp i*(d*vl q+r) ->
   ∃q' r',bH (pO n l [d]) m (List.replicate i 0++q,r,(i:Int)-1)=some (q',r')/\Wd q'/\q'.length=l.length/\r'<d/\vl l=d*vl q'+r':=by
  intro i
  induction i with
  | zero =>
   intro q r m hi hm hq hr hv;obtain⟨m,rfl⟩:∃m',m=m'+1:=⟨m-1,by omega⟩
   refine⟨q,r,bL ?_,hq,by omega,hr,?_⟩
   unfold pO
   dsimp only
   rw[aD (by decide)]; rfl
   rw[hv]; simp[vl,wp]
  | succ i ih =>
   intro q r m hi hm hq hr hv;obtain⟨m,rfl⟩:∃m',m=m'+1:=⟨m-1,by omega⟩
   have hi':i<l.length:=by omega
   obtain⟨x,e2⟩:∃x,l[i]? = some x:=⟨l[i],by simp⟩
   have hx:=hl.at e2;have e0:((i+1:Nat):Int)-1=((i:Nat):Int):=by omega
   have ht:vl (l.take (i+1))=vl (l.take i)+wp i*x:=by
    rw[List.take_add_one,e2,Option.toList_some,om,TW,T3 (UQ hi')]
   have e3:(List.replicate (i+1) 0++q)[i]? = some 0:=by rw[TH (by simp),TX]; simp
   have hqd:(r*18446744073709551616+x)/d<18446744073709551616:=by
    rw[TZ (by omega),Tj _ d]
    have:(r+1)*18446744073709551616<=d*18446744073709551616:=T2 _ hr;omega
   have st:pO n l [d] (List.replicate (i+1) 0++q,r,((i:Nat):Int))=some (.inl (List.replicate i 0++(r*18446744073709551616+x)/d::q,(r*18446744073709551616+x)%d,(i:Int)-1)):=by
    unfold pO
    dsimp only
    rw[V3,ak hi',aw,SS,e2,ab]
    rw[show bG 0 [d].length=true from rfl,aw,show([d]:WB Nat)[Vy]? = some d from rfl,ab,Kp hn4 hr hx hd,ab]
    dsimp only
    rw[SS,ak hi',aw,e3,ab,GP,F2,aC (by omega) (by omega)]
   rw[e0,bO st];refine ih _ _ m (by rw[Tz]; omega) (by omega) (fun e he=>?_) (TN _ (by omega)) ?_
   rcases Tt.1 he with rfl|h
   exact hqd
   exact hq e h
   have h1:=Ur (r*18446744073709551616+x) d;rw[hv,ht,gU,dz];generalize(r*18446744073709551616+x)%d=R at h1 ⊢;generalize(r*18446744073709551616+x)/d=Q at h1 ⊢;have h2:wp i*(d*Q+R)=wp i*(r*18446744073709551616+x):=by rw[h1]
   rw[Tj r] at h2;simp only[Uf,Ts (wp i) 18446744073709551616,Ts d 18446744073709551616,Ty] at h2 ⊢;omega
 obtain⟨q,r,q1,q2,q3,q4,q5⟩:=hL l.length [] 0 n (by simp) hn Wd.nil (by omega) (by rw[List.take_length,gN]; simp)
 rw[T8] at q1;obtain⟨t,m,m1,m2⟩:=fc (n:=n) false (Wd.one (show r<18446744073709551616 by omega)) (by simp) (by simp; omega)
 have hr:vl [r]=r:=by simp[vl]
 rw[hr] at m2;have dq:vl q=vl l/d:=by
  rw[q5,Nat.mul_add_div (by omega),Uq q4]; rfl
 have dr:r=vl l%d:=by
  rw[q5,Nat.mul_add_mod,TA q4]
 refine⟨q,t,m,?_,q2,dq,q3,by rw[<-dr]; exact m2,?_⟩
 unfold zd;rw[cg (by omega),SS,qc (by omega),aw,ay (show(([d]:WB Nat).length:Int)=1 from rfl),aC (by omega) (by omega),q1,ab]
 dsimp only
 rw[m1]; rfl
 have:=m2.GU;rw[this];simp[tU]
def P7(m:Nat):Kw (m+20) 0=some (false,[]):=by rfl
def PO(m:Nat):Kw (m+20) 1=some (false,[1]):=by rfl
def Gc{n:Nat}(h:20<=n):Kw n 0=some (false,[]):=by obtain⟨m,rfl⟩:∃m,n=m+20:=⟨n-20,by omega⟩; exact P7 m
def qV{n:Nat}(h:20<=n):Kw n 1=some (false,[1]):=by obtain⟨m,rfl⟩:∃m,n=m+20:=⟨n-20,by omega⟩; exact PO m
def yj:Lg 1 false [1]:=Lg.small (by decide) (by decide) false
def m2(a b:Nat):Nat:=if b=0 then(if a=0 then 0 else 1) else 2
def NP{r c x:Nat}(hc:c<2 ^ r):c |||(x*2 ^ r)=c+x*2 ^ r:=by
 rw[Nat.or_comm,Tj,<-Nat.two_pow_add_eq_or_of_lt hc,Nat.add_comm]
def sd(k:Nat):Int.tdiv (k:Int) 64=((k/64:Nat):Int):=by
 rw[Int.tdiv_eq_ediv_of_nonneg (Ue _)]; omega
def zL(k:Nat):Int.tmod (k:Int) 64=((k%64:Nat):Int):=by
 rw[Int.tmod_eq_emod_of_nonneg (Ue _)]; omega
def nF{a:Nat}(h:a<18446744073709551616):uw .u64 a=a:=TA h
def EB{x r:Nat}(hr:r<64)(hx:x<18446744073709551616) :
  ∃y,uw .u64 (eT .u64 x r)=y*2 ^ r/\y*2 ^ r<18446744073709551616/\y*2 ^ r+18446744073709551616*(x/2 ^ (64-r))=x*2 ^ r/\x/2 ^ (64-r)<2 ^ r/\y*2 ^ r+2 ^ r<=18446744073709551616:=by
 have hp:2 ^ (64-r)*2 ^ r=18446744073709551616:=by rw[<-Ut,Nat.sub_add_cancel (by omega)]
 have h2:0<2 ^ r:=Vi (by decide)
 have h3:0<2 ^ (64-r):=Vi (by decide)
 have hm:=Ur x (2 ^ (64-r));have hml:=TN x h3;have hs:x*2 ^ r=(x%2 ^ (64-r))*2 ^ r+18446744073709551616*(x/2 ^ (64-r)):=by
  rw[<-hp,Ty,Tj (2 ^ r),<-Ty,<-TI,Nat.add_comm,hm]
 have hlt:(x%2 ^ (64-r))*2 ^ r+2 ^ r<=18446744073709551616:=by
  rw[<-hp];have:=T2 (2 ^ r) (show x%2 ^ (64-r)+1<=2 ^ (64-r) by omega)
  rw[TI,Nat.one_mul] at this;exact this
 have hlt':(x%2 ^ (64-r))*2 ^ r<18446744073709551616:=by omega
 refine⟨x%2 ^ (64-r),?_,hlt',hs.symm,?_,hlt⟩
 have hb:min r (IntKind.bits .u64)=r:=T3 (by show r<=64; omega)
 unfold eT;rw[hb]
 show(x*2 ^ r)%18446744073709551616%18446744073709551616=_
 rw[Nat.mod_mod,hs,Nat.add_mul_mod_self_left,TA hlt']
 rw[TZ h3,Tj,hp]; exact hx
def nOq(P:WB Nat)(c w:Nat)(z:WB Nat){i:Nat}(hi:i=P.length):(P++c::z).set i w=P++w::z:=by
 subst hi;rw[List.set_append_right _ _ (SX _),UE]; rfl
def Ck(P:WB Nat)(c:Nat)(z:WB Nat){i:Nat}(hi:i=P.length):(P++c::z)[i]? = some c:=by
 subst hi;rw[Tu (SX _),UE]; rfl
def K4{n k:Nat}{l:WB Nat}(hl:Wd l)(hb:l.length<1000000)(hk:k<64000000)(hn:l.length+k+4<n) :
  ∃t m,GX n l (k:Int)=some m/\Lg ((vl l*2 ^ k:Nat):Int) t m:=by
 have hr:k%64<64:=TN _ (by decide)
 have hq:k/64<1000000:=by omega
 generalize hqd:k/64=q at hq;generalize hrd:k%64=r at hr;have hkv:2 ^ k=wp q*2 ^ r:=by
  have:k=64*q+r:=by omega
  rw[this,Ut,U8]; rfl
 have hL:∀j i m P c,i+j=l.length->j<m->P.length=q+i->Wd P->c<2 ^ r->vl P+wp (q+i)*c+wp (q+i)*(2 ^ r*vl (l.drop i))=2 ^ k*vl l ->
   ∃out,bH (pn n l (k:Int)) m (P++c::List.replicate j 0,l.length+q+1,(i:Int))=some (out,l.length+q+1)/\Wd out/\vl out=2 ^ k*vl l/\out.length=l.length+q+1:=by
  intro j
  induction j with
  | zero =>
   intro i m P c hi hm hP hw hc hv;obtain⟨m,rfl⟩:∃m',m=m'+1:=⟨m-1,by omega⟩
   have hr2:2 ^ r<=2 ^ 64:=Td (by decide) (by omega)
   refine⟨P++[c],bL ?_,hw.app (Wd.one (by omega)),?_,by simp; omega⟩
   unfold pn
   dsimp only
   rw[V4]; rfl
   rw[lZ,hP,<-hv,UR (by omega)]
   simp[vl]
  | succ j ih =>
   intro i m P c hi hm hP hw hc hv;obtain⟨m,rfl⟩:∃m',m=m'+1:=⟨m-1,by omega⟩
   have hi':i<l.length:=by omega
   obtain⟨x,e2⟩:∃x,l[i]? = some x:=⟨l[i],by simp⟩
   have hx:=hl.at e2;obtain⟨y,y1,y2,y3,y4,y5⟩:=EB hr hx;have hr2:2 ^ r<=2 ^ 63:=Td (by decide) (by omega)
   have hw2:uw .u64 (uw .u64 c ||| uw .u64 (eT .u64 x r))=c+y*2 ^ r:=by
    rw[y1,nF (show c<18446744073709551616 by omega),NP hc,nF (by omega)]
   have hcd:wp (q+(i+1))=18446744073709551616*wp (q+i):=gU (q+i);have hval:vl (P++[c+y*2 ^ r])+wp (q+(i+1))*(x/2 ^ (64-r))+wp (q+(i+1))*(2 ^ r*vl (l.drop (i+1)))=2 ^ k*vl l:=by
    rw[<-hv,jM e2,lZ,hP,hcd,dz,gN,Nat.mul_zero,TP];have e1:2 ^ r*(x+18446744073709551616*vl (l.drop (i+1)))=y*2 ^ r+18446744073709551616*(x/2 ^ (64-r))+18446744073709551616*(2 ^ r*vl (l.drop (i+1))):=by
     rw[Uf,Tj (2 ^ r) x,<-y3,Ts]
    rw[e1];generalize x/2 ^ (64-r)=d;generalize 2 ^ r*vl (l.drop (i+1))=V;generalize y*2 ^ r=Y;simp only[Uf,Ty,Ts (wp (q+i)) 18446744073709551616];omega
   have st:pn n l (k:Int) (P++c::List.replicate (j+1) 0,l.length+q+1,(i:Int))=some (.inl ((P++[c+y*2 ^ r])++x/2 ^ (64-r)::List.replicate j 0,l.length+q+1,((i+1:Nat):Int))):=by
    unfold pn
    dsimp only
    rw[V3,ak hi',aw,SS,e2,ab,sd,zL,hqd,hrd,aC (x:=((q:Nat):Int)) (by omega) (by omega),aC (x:=(i:Int)+(q:Int)) (by omega) (by omega)]
    rw[show(i:Int)+(q:Int)=((q+i:Nat):Int) by omega,ak (by omega),aw,SS,Ck P c _ hP.symm,ab,cg (Ue _),SS,hw2,ab,aw]
    rw[nOq P c _ _ hP.symm,aC (x:=64-(r:Int)) (by omega) (by omega)]
    by_cases h0:0<r
    rw[V3,V5,ab,cg (by omega),ak (by omega),aw,SS]
    rw[Uh,show P++(c+y*2 ^ r)::0::List.replicate j 0=(P++[c+y*2 ^ r])++0::List.replicate j 0 by simp]
    rw[Ck (P++[c+y*2 ^ r]) 0 _ (by simp; omega),ab,nOq (P++[c+y*2 ^ r]) 0 _ _ (by simp; omega),ab,V5]
    have hsh:cG .u64 x (64-(r:Int)).toNat=x/2 ^ (64-r):=by
     unfold cG;rw[show(64-(r:Int)).toNat=64-r by omega]
     show x/2 ^ min (64-r) 64=_
     rw[T3 (show 64-r<=64 by omega)]
    rw[hsh]
    have hr0:r=0:=by omega
    subst hr0;rw[V4,ab,V5,Uh]
    have:x/2 ^ (64-0)=0:=Uq hx;rw[this];simp
   rw[bO st];refine ih (i+1) m _ _ (by omega) (by omega) (by simp; omega) (hw.app (Wd.one (by omega))) y4 hval
 obtain⟨out,o1,o2,o3,o4⟩:=hL l.length 0 n (List.replicate q 0) 0 (by omega) (by omega) (by simp) (Wd.zeros q) (Vi (by decide)) (by
  rw[jB,Vd,hkv,Nat.mul_zero,TM,TP,Ty])
 obtain⟨t,m,m1,m2⟩:=fc (n:=n) false o2 (by omega) (by omega)
 refine⟨t,m,?_,?_⟩
 unfold GX;rw[sd,hqd,aC (x:=((q:Nat):Int)) (by omega) (by omega),aC (x:=(l.length:Int)+(q:Int)) (by omega) (by omega),ab]
 rw[show(l.length:Int)+(q:Int)=((l.length+q:Nat):Int) by omega,V5,cg (Ue _),SS,qc (by omega),aw]
 rw[show List.replicate (l.length+q+1) 0=List.replicate q 0++0::List.replicate l.length 0 by
  rw[show l.length+q+1=q+(l.length+1) by omega,<-List.replicate_append_replicate,Uh]]
 rw[show(0:Int)=((0:Nat):Int) from rfl,o1,ab]
 dsimp only
 rw[m1]; rfl
 have:tU false (vl out)=((vl l*2 ^ k:Nat):Int):=by
  unfold tU;rw[o3,Tj]; rfl
 rw[<-this]; exact m2
def Qe(d:Nat):d<2 ^ bl d:=by
 unfold bl
 split
 rename_i h; subst h; decide
 rename_i h; exact(Nat.log2_lt h).1 (Uj _)
def NN{d:Nat}(h:d≠0):2 ^ (bl d-1)<=d:=by
 unfold bl;rw[S8 h]; exact Nat.log2_self_le h
def M5{d:Nat}(h:d≠0):0<bl d:=by
 unfold bl;rw[S8 h]; exact Nat.succ_pos _
def D2{n:Nat}{l:WB Nat}(hl:Wd l)(ll:∀d,l.getLast? = some d->d≠0)(hb:l.length<1000000) :
  ∃k:Nat,FT n l=some (k:Int)/\k<=64*l.length/\vl l<2 ^ k/\(l≠[]->0<k/\2 ^ (k-1)<=vl l):=by
 by_cases h:l=[]
 subst h;exact⟨0,rfl,SX _,Nat.one_pos,fun h=>Tl rfl h⟩
 obtain⟨a,d,rfl⟩:∃a d,l=a++[d]:=⟨l.dropLast,l.getLast h,(List.dropLast_concat_getLast h).symm⟩;have hd0:=ll d (by simp)
 have hd:=hl d (by simp)
 have hla:(a++[d]).length=a.length+1:=by simp
 have hb1:2 ^ (bl d-1)<=d:=NN hd0;have hb2:d<2 ^ bl d:=Qe d;have hb3:bl d<=64:=HZ (s:=64) hd;have hb0:0<bl d:=M5 hd0;have hwp:wp a.length=2 ^ (64*a.length):=by unfold wp; rw[U8]
 refine⟨64*a.length+bl d,?_,by rw[hla]; omega,?_,fun _=>⟨by omega,?_⟩⟩
 unfold FT AU;rw[aD (by rw[hla]; omega),hla,aC (by omega) (by omega),show((a.length+1:Nat):Int)-1=((a.length:Nat):Int) by omega,ak (by omega),aw,SS,Ck a d [] rfl,ab,CA n d hd,ab,ab]
 rw[aC (x:=64-((bl d:Nat):Int)) (by omega) (by omega),aC (x:=64*((a.length+1:Nat):Int)) (by omega) (by omega),aC (by omega) (by omega)]
 congr 1; omega
 have h1:=jy hl.left;rw[lZ,dz,gN,Nat.mul_zero,TP,Ut,<-hwp];have h2:=T6 (wp a.length) (show d+1<=2 ^ bl d by omega)
 rw[Uf,U9] at h2;omega
 rw[lZ,dz,gN,Nat.mul_zero,TP,show 64*a.length+bl d-1=64*a.length+(bl d-1) by omega,Ut,<-hwp]
 have h2:=T6 (wp a.length) hb1;omega
def Lj{l:WB Nat}(hl:Wd l){k:Nat}(hk:k/64<l.length)(hd:2 ^ (k+1)∣vl l) :
  ∃w,l[k/64]? = some w/\uw .u64 (uw .u64 w ||| uw .u64 (eT .u64 1 (k%64)))<18446744073709551616/\vl (l.set (k/64) (uw .u64 (uw .u64 w ||| uw .u64 (eT .u64 1 (k%64)))))=vl l+2 ^ k:=by
 obtain⟨w,hw⟩:∃w,l[k/64]? = some w:=⟨l[k/64],by simp⟩
 have h0:=hl.at hw;generalize hqd:k/64=q at *;have hr:k%64<64:=TN _ (by decide)
 generalize hrd:k%64=r at *;have hkk:k=64*q+r:=by omega
 have hwp:wp q=2 ^ (64*q):=by unfold wp; rw[U8]
 have hpos:0<wp q:=BU q;have hdw:2 ^ (r+1)∣w:=by
  have h1:=eM l q (UQ hk);have h2:wp q∣vl l:=Nat.dvd_trans (by rw[hwp]; exact Nat.pow_dvd_pow 2 (by omega)) hd
  have h3:vl (l.take q)=0:=by
   have h4:vl (l.take q)<wp q:=by
    have:=jy (hl.take q);rwa[TW,T3 (UQ hk)] at this
   have h5:wp q∣vl (l.take q):=by
    rw[h1] at h2;exact(Nat.dvd_add_left (Nat.dvd_mul_right _ _)).1 h2
   exact Nat.eq_zero_of_dvd_of_lt h5 h4
  rw[h3,TM,jM hw] at h1;have h6:wp q*2 ^ (r+1)∣wp q*(w+18446744073709551616*vl (l.drop (q+1))):=by
   rw[<-h1,hwp,<-Ut,<-UY,<-hkk]; exact hd
  have h7:=Nat.dvd_of_mul_dvd_mul_left hpos h6;have h8:2 ^ (r+1)∣18446744073709551616*vl (l.drop (q+1)):=Nat.dvd_trans (by
   rw[show(18446744073709551616:Nat)=2 ^ 64 from rfl]; exact Nat.pow_dvd_pow 2 (by omega)) (Nat.dvd_mul_right _ _)
  exact(Nat.dvd_add_left h8).1 h7
 obtain⟨y,rfl⟩:=hdw;have h2r:2 ^ r<18446744073709551616:=by
  rw[show(18446744073709551616:Nat)=2 ^ 64 from rfl]; exact UD (by decide) hr
 have hsh:uw .u64 (eT .u64 1 r)=2 ^ r:=by
  unfold eT;rw[show min r (IntKind.bits .u64)=r from T3 (by show r<=64; omega),Nat.one_mul,nF h2r,nF h2r]
 have hlt:2 ^ r<2 ^ (r+1):=UD (by decide) (Uj r)
 have hor:2 ^ (r+1)*y ||| 2 ^ r=2 ^ (r+1)*y+2 ^ r:=(Nat.two_pow_add_eq_or_of_lt hlt y).symm;have hfit:2 ^ (r+1)*y+2 ^ r<18446744073709551616:=by
  have hp:2 ^ (r+1)*2 ^ (63-r)=18446744073709551616:=by rw[<-Ut,show r+1+(63-r)=64 by omega]
  rw[<-hp] at h0;have hy:=Nat.lt_of_mul_lt_mul_left h0;have:=T6 (2 ^ (r+1)) (show y+1<=2 ^ (63-r) by omega)
  rw[Uf,U9,hp] at this;omega
 refine⟨_,hw,?_,?_⟩
 rw[hsh,nF h0,hor,nF hfit]; exact hfit
 rw[hsh,nF h0,hor,nF hfit];have h:=sH (2 ^ (r+1)*y+2 ^ r) hw;rw[Uf] at h;have e:wp q*2 ^ r=2 ^ k:=by rw[hwp,<-Ut,<-hkk]
 omega
def Dj{n:Nat}{z1 z2:Int}{s1 s2:Bool}{a b:WB Nat}(ha:Lg z1 s1 a)(hb:Lg z2 s2 b)(hb0:b≠[])(hla:a.length<10000)(hlb:b.length<10000)(hn:10000000<n) :
  ∃q t r,zd n a b=some (q,r)/\Wd q/\q.length=a.length/\vl q=vl a/vl b/\Lg ((vl a%vl b:Nat):Int) t r:=by
 have hbp:0<vl b:=SY (BU _) (ju hb.last hb0)
 by_cases h1:b.length=1
 ·obtain⟨d,rfl⟩:∃d,b=[d]:=by
   match b,h1 with
   | [d],_=>exact⟨d,rfl⟩
  have hd:=hb.wd d (by simp)
  have hv:vl [d]=d:=by simp[vl]
  rw[hv] at hbp ⊢;obtain⟨q,t,m,q1,q2,q3,q4,q5,_⟩:=Hu (n:=n) ha.wd hd (by omega) (by omega) (by omega) (by omega)
  exact⟨q,t,m,q1,q2,q4,q3,q5⟩
 ·obtain⟨ka,a1,a2,a3,a4⟩:=D2 (n:=n) ha.wd ha.last (by omega)
  obtain⟨kb,b1,b2,b3,b4⟩:=D2 (n:=n) hb.wd hb.last (by omega)
  obtain⟨b5,b6⟩:=b4 hb0;have hL:∀(j m:Nat) (q r:WB Nat) (t:Bool) (z:Int),j<m->j+kb<=ka+1\/j=0->Wd q->q.length=a.length->Lg z t r->r.length<=a.length+1->vl r<vl b*2 ^ j->vl a=vl q*vl b+vl r->2 ^ j∣vl q->j<=64*a.length ->
    ∃q' r' t' z',bH (jt n b a) m (q,r,(j:Int)-1)=some (q',r')/\Wd q'/\q'.length=a.length/\Lg z' t' r'/\vl r'<vl b/\vl a=vl q'*vl b+vl r':=by
   intro j
   induction j with
   | zero =>
    intro m q r t z hm _ hq hql hr hrl hlt hv hdv _;obtain⟨m,rfl⟩:∃m',m=m'+1:=⟨m-1,by omega⟩
    refine⟨q,r,t,z,bL ?_,hq,hql,hr,by simpa using hlt,hv⟩
    unfold jt
    dsimp only
    rw[aD (by decide)]
   | succ j ih =>
    intro m q r t z hm hj hq hql hr hrl hlt hv hdv hja;obtain⟨m,rfl⟩:∃m',m=m'+1:=⟨m-1,by omega⟩
    obtain⟨tt,tm,t1,t2⟩:=K4 (n:=n) (k:=j) hb.wd (by omega) (by omega) (by omega)
    have htv:vl tm=vl b*2 ^ j:=by rw[t2.abs,TJ]
    have htl:tm.length<=r.length\/vl r<vl tm:=by
     rcases TO (vl r) (vl tm) with h|h
     exact .inr h
     left
     refine Ug fun hc=>?_;have h5:=jy hr.wd
     by_cases htm:tm=[]
     subst htm; simp at hc
     have h6:=ju t2.last htm;have h7:wp r.length<=wp (tm.length-1):=Td (by decide) (by omega)
     omega
    have htlen:tm.length<1073741824:=by
     by_cases htm:tm=[]
     subst htm; simp
     have h6:=ju t2.last htm;have h7:=jy hb.wd;refine Ug fun hc=>?_;obtain⟨K,hK⟩:∃K:Nat,K=640000:=⟨_,rfl⟩;have h8:wp (b.length+K)<=wp (tm.length-1):=Td (by decide) (by omega)
     have h9:2 ^ j<=wp K:=by
      unfold wp;rw[show(18446744073709551616:Nat)=2 ^ 64 from rfl,<-U8]
      exact Td (by decide) (by omega)
     have h10:vl b*2 ^ j<wp b.length*wp K:=SY (Nat.mul_lt_mul_of_pos_right h7 (Vi (by decide))) (T6 _ h9)
     rw[<-Na] at h10;omega
    obtain⟨c,c1,c2,c3⟩:=Dt (n:=n) hr.wd t2.wd hr.last t2.last (by omega) htlen (by omega)
    have hpow:vl b*2 ^ (j+1)=vl b*2 ^ j+vl b*2 ^ j:=by rw[TE]; rw[<-Ty]; omega
    by_cases hc:0<=c
    have hle:vl tm<=vl r:=by
     have:=mt c2.2 (by omega)
     omega
    have hlen:tm.length<=r.length:=htl.resolve_right (by omega)
    obtain⟨u,u1,u2,u3,u4⟩:=xm (n:=n) hr.wd t2.wd hle hlen (by omega) (by omega)
    obtain⟨s',r',f1,f2⟩:=fc (n:=n) false u2 (by omega) (by omega)
    have hr'v:vl r'=vl r-vl tm:=by
     rw[f2.abs]; unfold tU; simp only[Tf,if_false,TJ]; exact u3
    have hr'l:r'.length<=a.length+1:=by
     by_cases hn':r'=[]
     subst hn'; simp
     have h6:=ju f2.last hn';have h5:=jy hr.wd;refine Ug fun hc=>?_;have h7:wp r.length<=wp (r'.length-1):=Td (by decide) (by omega)
     omega
    have hjq:j/64<q.length:=by rw[hql]; omega
    obtain⟨w,w1,w2,w3⟩:=Lj hq (k:=j) hjq hdv;have st:jt n b a (q,r,((j+1:Nat):Int)-1)=some (.inl (q.set (j/64) (uw .u64 (uw .u64 w ||| uw .u64 (eT .u64 1 (j%64)))),r',(j:Int)-1)):=by
     unfold jt
     dsimp only
     rw[show((j+1:Nat):Int)-1=(j:Int) by omega,ay (Ue _),t1,ab,c1,ab,ay hc,u1,ab,f1,ab]
     dsimp only
     rw[sd,zL,aC (x:=((j/64:Nat):Int)) (by omega) (by omega),SS,SS,SS,ak (by omega),aw,w1,ab,cg (Ue _),ab,aw,ab]
     dsimp only
     rw[aC (by omega) (by omega)]
    rw[bO st];have hmulr:vl b*2 ^ j=2 ^ j*vl b:=Tj _ _;refine ih m _ r' s' _ (by omega) (by omega) (hq.set w2) (by rw[TQ]; exact hql) f2 hr'l (by omega) ?_ ?_ (by omega)
    rw[w3,TI,hr'v,hv,htv];omega
    rw[w3];exact Nat.dvd_add (Nat.dvd_trans (Nat.pow_dvd_pow 2 (Nat.le_succ j)) hdv) (Nat.dvd_refl _)
    have st:jt n b a (q,r,((j+1:Nat):Int)-1)=some (.inl (q,r,(j:Int)-1)):=by
     unfold jt
     dsimp only
     rw[show((j+1:Nat):Int)-1=(j:Int) by omega,ay (Ue _),t1,ab,c1,ab,aD hc,ab]
     dsimp only
     rw[aC (by omega) (by omega)]
    rw[bO st];have:=c2.1 (by omega)
    exact ih m q r t z (by omega) (by omega) hq hql hr hrl (by omega) hv (Nat.dvd_trans (Nat.pow_dvd_pow 2 (Nat.le_succ j)) hdv) (by omega)
  have start:∃(q' r':WB Nat) (t':Bool) (z':Int),bH (jt n b a) n (List.replicate a.length 0,a,(ka:Int)-(kb:Int))=some (q',r')/\Wd q'/\q'.length=a.length/\Lg z' t' r'/\vl r'<vl b/\vl a=vl q'*vl b+vl r':=by
   by_cases hk:kb<=ka
   have h7:vl a<vl b*2 ^ (ka-kb+1):=by
    refine SY a3 ?_;rw[show ka=(kb-1)+(ka-kb+1) by omega,Ut]
    exact T0 b6 (Td (by decide) (by omega))
   have:=hL (ka-kb+1) n (List.replicate a.length 0) a s1 z1 (by omega) (.inl (by omega)) (Wd.zeros _) (by simp) ha (by omega) h7 (by rw[jB]; omega) (by rw[jB]; exact Nat.dvd_zero _) (by omega)
   rw[show((ka-kb+1:Nat):Int)-1=(ka:Int)-(kb:Int) by omega] at this
   exact this
   obtain⟨m,rfl⟩:∃m',n=m'+1:=⟨n-1,by omega⟩
   refine⟨List.replicate a.length 0,a,s1,z1,bL ?_,Wd.zeros _,by simp,ha,?_,by rw[jB]; omega⟩
   unfold jt
   dsimp only
   rw[V4]
   exact SY a3 (Tb (Td (by decide) (by omega)) b6)
  obtain⟨q,r,t,z,l1,l2,l3,l4,l5,l6⟩:=start;have dr:vl r=vl a%vl b:=by rw[l6,Tj,Nat.mul_add_mod,TA l5]
  have dq:vl q=vl a/vl b:=by rw[l6,Tj,Nat.mul_add_div hbp,Uq l5]; rfl
  refine⟨q,false,r,?_,l2,l3,dq,⟨l4.wd,l4.last,by rw[<-dr]; rfl,fun h=>(nomatch h)⟩⟩
  unfold zd;rw[cg (by omega),SS,qc (by omega),aw,V4,a1,ab,b1,ab,aC (by omega) (by omega),l1,ab]
def Lg.nV{z:Int}{s:Bool}{l:WB Nat}(h:Lg z s l){k:Nat}(hz:z.natAbs<wp k):l.length<=k:=by
 by_cases hl:l=[]
 subst hl; simp
 have h1:=ju h.last hl;rw[h.abs] at h1;refine Ug fun hc=>?_;have h2:wp k<=wp (l.length-1):=Td (by decide) (by omega)
 omega
def Lg.lt{z:Int}{s:Bool}{l:WB Nat}(h:Lg z s l):z.natAbs<wp l.length:=by
 rw[<-h.abs]; exact jy h.wd
def Lg.un{v:Nat}{s:Bool}{l:WB Nat}(h:Lg (v:Int) s l):s=false:=by
 rw[h.GU,Ta (by omega)]
def Lg.Q9{v:Nat}{s:Bool}{l:WB Nat}(h:Lg (v:Int) s l):vl l=v:=by rw[h.abs,TJ]
def IX{n:Nat}(hn:10000000<n):∀(b a m:Nat) (l k:WB Nat) (s t:Bool),Lg (a:Int) s l->Lg (b:Int) t k->l.length<10000->k.length<10000->b<m ->
  ∃g,bH (rM n) m (l,k)=some g/\Lg ((Nat.gcd a b:Nat):Int) false g:=by
 intro b
 induction b using Nat.strongRecOn with
 | _ b ih =>
  intro a m l k s t hl hk hll hkl hm;obtain⟨m,rfl⟩:∃m',m=m'+1:=⟨m-1,by omega⟩
  by_cases hb:b=0
  subst hb;have:=hk.Q2.2 rfl;subst this;have hs:=hl.un;subst hs;refine⟨l,bL ?_,by rw[Nat.gcd_zero_right]; exact hl⟩
  unfold rM
  dsimp only
  rw[aD (by simp)]
  have hk0:k≠[]:=fun e=>hb (by have:=hk.Q2.1 e; omega)
  obtain⟨q,t',r,q1,_,_,_,q5⟩:=Dj (n:=n) hl hk hk0 hll hkl hn;rw[hl.Q9,hk.Q9] at q5;have hrl:r.length<10000:=TT (q5.nV (k:=k.length) (by
   rw[TJ];exact Nat.lt_trans (TN a (Tg hb)) (by have:=hk.lt; rwa[TJ] at this))) hkl
  have hlt:=TN a (Tg hb);obtain⟨g,g1,g2⟩:=ih (a%b) hlt b m k r t t' hk q5 hkl hrl (by omega)
  refine⟨g,?_,?_⟩
  rw[bO (s':=(k,r)) ?_]
  exact g1
  unfold rM
  dsimp only
  rw[ay (by have:=US.2 hk0; omega),q1,ab]
  rw[Nat.gcd_comm a b,Nat.gcd_rec b a,Nat.gcd_comm]; exact g2
def yH{n:Nat}{a b:Int}{s t:Bool}{l k:WB Nat}(ha:Lg a s l)(hb:Lg b t k)(hl:l.length<10000)(hk:k.length<10000)(hn:10000000<n)(hbn:b.natAbs<n) :
  ∃g,E6 n s l t k=some (false,g)/\Lg ((Nat.gcd a.natAbs b.natAbs:Nat):Int) false g:=by
 have pos:∀{z:Int} {s:Bool} {l:WB Nat},Lg z s l->Lg ((z.natAbs:Nat):Int) false l:=fun{z s l} h=>⟨h.wd,h.last,by rw[h.abs]; rfl,fun h=>(nomatch h)⟩
 obtain⟨g,g1,g2⟩:=IX hn b.natAbs a.natAbs n l k false false (pos ha) (pos hb) hl hk hbn;refine⟨g,?_,g2⟩;unfold E6;rw[g1,ab]
def yJ{n:Nat}{a b:Int}{s t:Bool}{l k:WB Nat}(h:Lg (a*b) s l)(h':Lg b t k)(h0:b≠0)(hl:l.length<10000)(hk:k.length<10000)(hn:10000000<n) :
  ∃u m v o,FB n s l t k=some (u,m,v,o)/\Lg a u m:=by
 have hk0:k≠[]:=fun e=>h0 (h'.Q2.1 e);obtain⟨q,t',m,q1,q2,q4,q3,q5⟩:=Dj (n:=n) h h' hk0 hl hk hn;obtain⟨u,m',u1,u2⟩:=fc (n:=n) (!(s==t)) q2 (by omega) (by omega)
 rw[h'.abs] at q3 q5;have hz:(vl l%b.natAbs:Nat)=0:=by rw[h.abs,Int.natAbs_mul,Nat.mul_mod_left]
 rw[hz] at q5;obtain⟨rfl,rfl⟩:=q5.inj Lg.zero;obtain⟨v,o,v1,v2⟩:=fc (n:=n) s Wd.nil (by simp) (by simp; omega)
 have v3:Lg 0 v o:=by rw[gN,zB] at v2; exact v2
 obtain⟨rfl,rfl⟩:=v3.inj Lg.zero;refine⟨u,m',false,[],?_,?_⟩
 unfold FB;rw[q1,ab]
 dsimp only
 rw[u1,ab]
 dsimp only
 rw[v1,ab]
 rfl
 have e1:vl q=a.natAbs:=by rw[q3,h.abs,Int.natAbs_mul,Nat.mul_div_cancel _ (by omega)]
 have hs:=h.GU;have ht:=h'.GU;have:a=tU (!(s==t)) (vl q)\/(a=0):=by
  by_cases ha:a=0
  exact .inr ha
  refine .inl ?_;rw[e1,hs,ht];unfold tU
  by_cases hb0:b<0<;>by_cases ha0:a<0
  have:¬a*b<0:=Int.not_lt.2 (Int.mul_nonneg_of_nonpos_of_nonpos (by omega) (by omega))
  simp[hb0,this]; omega
  have:a*b<0:=Int.mul_neg_of_pos_of_neg (by omega) hb0
  simp[hb0,this]; omega
  have:a*b<0:=Int.mul_neg_of_neg_of_pos ha0 (by omega)
  simp[hb0,this]; omega
  have:¬a*b<0:=Int.not_lt.2 (Int.mul_nonneg (by omega) (by omega))
  simp[hb0,this]; omega
 rcases this with e|e
 rw[e]; exact u2
 rw[e,Int.natAbs_zero] at e1;rw[e1,zB] at u2;rw[e]; exact u2
def yB{n a b:Nat}(hn:10000000<n)(hbn:b<n)(hb0:b≠0){s t:Bool}{l k:WB Nat}(h:Lg (a:Int) s l)(h':Lg (b:Int) t k)(hl:l.length<10000)(hk:k.length<10000) :
  ∃l' k',EV n s l t k=some (false,l',false,k')/\Lg ((a/Nat.gcd a b:Nat):Int) false l'/\Lg ((b/Nat.gcd a b:Nat):Int) false k':=by
 have hg0:Nat.gcd a b≠0:=fun e=>hb0 (Nat.eq_zero_of_gcd_eq_zero_right e);have hgb:Nat.gcd a b<=b:=Nat.le_of_dvd (by omega) (Nat.gcd_dvd_right a b)
 have ea:((a/Nat.gcd a b:Nat):Int)*((Nat.gcd a b:Nat):Int)=(a:Int):=by rw[<-U1,UM (Nat.gcd_dvd_left a b)]
 have eb:((b/Nat.gcd a b:Nat):Int)*((Nat.gcd a b:Nat):Int)=(b:Int):=by rw[<-U1,UM (Nat.gcd_dvd_right a b)]
 obtain⟨g,g1,g2⟩:=yH (n:=n) h h' hl hk hn (by rw[TJ]; exact hbn)
 rw[TJ,TJ] at g2;have hgl:g.length<10000:=TT (g2.nV (k:=k.length) (by
  rw[TJ];exact TT hgb (by have:=h'.lt; rwa[TJ] at this))) hk
 rw[<-ea] at h;rw[<-eb] at h';obtain⟨u1,m1,v1,o1,f1,f2⟩:=yJ (n:=n) h g2 (by omega) hl hgl hn
 obtain⟨u2,m2,v2,o2,f3,f4⟩:=yJ (n:=n) h' g2 (by omega) hk hgl hn
 have hu1:=f2.un;have hu2:=f4.un;subst hu1 hu2;refine⟨m1,m2,?_,f2,f4⟩;unfold EV;rw[g1,ab]
 dsimp only
 rw[f1,ab]
 dsimp only
 rw[f3,ab]
 rfl
def dA(T h:Nat):Nat×Nat:=(h/Nat.gcd h T,T/Nat.gcd h T)
def AI{a b c d:Nat}(hb:b≠0)(hd:d≠0)(h:a*d=c*b):a/Nat.gcd a b=c/Nat.gcd c d/\b/Nat.gcd a b=d/Nat.gcd c d:=by
 have g0:0<Nat.gcd a b:=Nat.gcd_pos_of_pos_right a (Tg hb);have k0:0<Nat.gcd c d:=Nat.gcd_pos_of_pos_right c (Tg hd);have c1:=Nat.coprime_div_gcd_div_gcd g0;have c2:=Nat.coprime_div_gcd_div_gcd k0;have ea:=UM (Nat.gcd_dvd_left a b);have eb:=UM (Nat.gcd_dvd_right a b);have ec:=UM (Nat.gcd_dvd_left c d);have ed:=UM (Nat.gcd_dvd_right c d);generalize Nat.gcd a b=g at *;generalize Nat.gcd c d=k at *;generalize a/g=a' at *;generalize b/g=b' at *;generalize c/k=c' at *;generalize d/k=d' at *;subst ea eb ec ed;have e:a'*d'=c'*b':=by
  have h2:(g*k)*(a'*d')=(g*k)*(c'*b'):=by
   have e1:(g*k)*(a'*d')=a'*g*(d'*k):=by simp only[Ty,Tj,Ts]
   have e2:(g*k)*(c'*b')=c'*k*(b'*g):=by simp only[Ty,Tj,Ts]
   rw[e1,e2,h]
  exact Nat.eq_of_mul_eq_mul_left (Nat.mul_pos g0 k0) h2
 have hb':0<b':=Tg fun e=>hb (by rw[e,UA])
 have d1:b'∣d':=c1.symm.dvd_of_dvd_mul_left (by rw[e]; exact Nat.dvd_mul_left _ _)
 have d2:d'∣b':=c2.symm.dvd_of_dvd_mul_left (by rw[<-e]; exact Nat.dvd_mul_left _ _)
 have e3:b'=d':=Nat.dvd_antisymm d1 d2;subst e3;exact⟨Nat.eq_of_mul_eq_mul_right hb' e,rfl⟩
section
variable{n:Nat}
def nb{T h:Nat}(hT:T≠0):(dA T h).1<=h/\(dA T h).2<=T/\(dA T h).2≠0/\Nat.gcd (dA T h).1 (dA T h).2=1/\(dA T h).1*T=h*(dA T h).2:=by
 have g0:0<Nat.gcd h T:=Nat.gcd_pos_of_pos_right h (Tg hT);have e1:=UM (Nat.gcd_dvd_left h T);have e2:=UM (Nat.gcd_dvd_right h T);refine⟨Nat.div_le_self _ _,Nat.div_le_self _ _,fun e=>?_,Nat.coprime_div_gcd_div_gcd g0,?_⟩
 have e':T/Nat.gcd h T=0:=e;rw[e',UA] at e2;exact hT e2.symm
 show h/Nat.gcd h T*T=h*(T/Nat.gcd h T)
 generalize Nat.gcd h T=g at *;generalize h/g=a at *;generalize T/g=b at *;subst e1 e2;simp only[Ty,Tj,Ts]
def I9(hn:40<n):xr n 0=some (false,[],false,[1]):=by
 unfold xr;rw[Gc (by omega),ab]
 dsimp only
 unfold HQ;rw[qV (by omega),ab]
 rfl
end
end
end Go.Proofs.YtpkadoocdgdcfaaGreatDoor
end
section
namespace Go.Proofs.YtpkadoocdgdcfaaGreatDoor
open Go Go.Ab Go.Ab.W
abbrev Sh:=WQ
def sh(p:Nat×Nat):Sh:=(p.1,0,0,0,0,0,0,0,p.2,0,0,0,0,0,0,0)
def zh(T:Nat)(l:WB Nat):WB Sh:=l.map fun h=>sh (dA T h)
abbrev Rb:=Nat×Nat×Nat×Nat×Nat×Nat×Nat×Nat×Nat×Nat×Nat×Nat×Nat×Nat×Nat×Nat×Int
abbrev QT(p:Nat×Nat):Rb:=(p.1,0,0,0,0,0,0,0,p.2,0,0,0,0,0,0,0,0)
def NC(t:WA Rb)(p:Nat×Nat):Bool :=
 match t with
 | some (a,a1,a2,a3,a4,a5,a6,a7,b,b1,b2,b3,b4,b5,b6,b7,e)=>Nat.beq a p.1 &&(Nat.beq b p.2 &&([a1,a2,a3,a4,a5,a6,a7,b1,b2,b3,b4,b5,b6,b7].all (Nat.beq 0)&&decide (e=0)))
 | none=>false
def LV{t:WA Rb}{p:Nat×Nat}(h:NC t p=true):t=some (QT p):=by
 unfold NC at h
 split at h
 simp only[Uo,List.all_nil,SW,Tv,and_true] at h;obtain⟨h1,h2,⟨h3,h4,h5,h6,h7,h8,h9,h10,h11,h12,h13,h14,h15,h16⟩,rfl⟩:=h;rw[S0 h1,S0 h2,<-S0 h3,<-S0 h4,<-S0 h5,<-S0 h6,<-S0 h7,<-S0 h8,<-S0 h9,<-S0 h10,<-S0 h11,<-S0 h12,<-S0 h13,<-S0 h14,<-S0 h15,<-S0 h16]
 cases h
set_option maxRecDepth 100000 in
def Nc(m:Nat):(List.range 6).all (fun a=>(List.range 21).all fun S=>Nat.beq S 0||NC (P4 (m+300) (a:Int) (S:Int)) (dA S a))=true:=by kernel_rfl
def NV{n a S:Nat}(hn:300<=n)(ha:a<6)(hS:S<21)(h0:S≠0):P4 n (a:Int) (S:Int)=some (QT (dA S a)):=by
 obtain⟨m,rfl⟩:∃m,n=m+300:=⟨n-300,by omega⟩
 have h:=Tk.1 (Tk.1 (Nc m) a (UK.2 ha)) S (UK.2 hS);rw[Ul] at h;rcases h with h|h
 exact Tl (S0 h) h0
 exact LV h
def Mb(l:WB Nat)(k:Nat):Nat:=l.getD k 0%6
def raw(l:WB Nat)(N i k:Nat):WB Nat:=(List.range k).map fun j=>Mb l (N*i+j)
def sB(l:WB Nat)(N i k:Nat):raw l N i (k+1)=raw l N i k++[Mb l (N*i+k)]:=by unfold raw; rw[List.range_succ,List.map_append]; rfl
def A7(l:WB Nat)(k:Nat):Mb l k<6:=TN _ (by decide)
def yg(l:WB Nat)(N i k:Nat):(raw l N i k).length=k:=by unfold raw; simp
def w6(l:WB Nat)(N i:Nat):∀k,(raw l N i k).sum<=5*k
 | 0=>by simp[raw]
 | k+1=>by
  have:=w6 l N i k;have:=A7 l (N*i+k);rw[sB,List.sum_append,List.sum_singleton]; omega
def G3{l:WB Nat}{N i k x:Nat}(h:x∈raw l N i k):x<6:=by
 obtain⟨j,_,rfl⟩:=UZ.1 h;exact A7 _ _
def ints(l:WB Nat):WB Int:=l.map fun x:Nat=>(x:Int)
def IU(n:Nat)(l2:WB Nat){N i:Nat}(hN:N<=4)(hi:i<N)(hn:300<=n):bH (vG n (N:Int) (i:Int) l2) n (([]:WB Int),0,0)=some (ints (raw l2 N i N),((raw l2 N i N).sum:Int)):=by
 have h:=aR (body:=vG n (N:Int) (i:Int) l2) N (fun(s:Nat) (v:Int)=>(ints (raw l2 N i s),((raw l2 N i s).sum:Int),v)) (fun s=>(ints (raw l2 N i s),((raw l2 N i s).sum:Int))) (fun k s=>s=k) (fun s k hk hs=>?_) (fun s hs=>?_) (n:=n) (s:=0) rfl (by omega)
 obtain⟨s,h1,rfl⟩:=h;exact h1
 subst hs;have hb:N*i<=12:=Tb (T0 hN (show i<=3 by omega)) (by omega)
 have hsum:=w6 l2 N i s;have hd:=A7 l2 (N*i+s);refine⟨s+1,?_,rfl⟩;have e0:Vx ((Vx ((N:Int)*(i:Int)))+(s:Int))=((N*i+s:Nat):Int):=by
  rw[<-U1,aC (x:=((N*i:Nat):Int)) (by omega) (by omega),aC (by omega) (by omega)]; rfl
 have e1:(br (decide (((N*i+s:Nat):Int)<(l2.length:Int))) (gd (bG ((N*i+s:Nat):Int) l2.length) (ob (l2[(((N*i+s:Nat):Int)).toNat]?) fun x=>some (Vx ((x%6:Nat):Int)))) (some 0))=some ((Mb l2 (N*i+s):Nat):Int):=by
  by_cases c:N*i+s<l2.length
  rw[V3,ak c,aw,SS,SU c,ab,aC (by omega) (by have:=TN l2[N*i+s] (show 0<6 by decide); omega)]
  unfold Mb;rw[Th,SU c]; rfl
  rw[V4]
  unfold Mb;rw[Th,TL (by omega)]; rfl
 have e2:ints (raw l2 N i s)++[((Mb l2 (N*i+s):Nat):Int)]=ints (raw l2 N i (s+1)):=by rw[sB]; unfold ints; rw[List.map_append]; rfl
 have e3:Vx (((raw l2 N i s).sum:Int)+((Mb l2 (N*i+s):Nat):Int))=((raw l2 N i (s+1)).sum:Int):=by
  rw[aC (by omega) (by omega),sB,List.sum_append,List.sum_singleton]; omega
 unfold vG
 dsimp only
 rw[V3,e0,e1,ab,e2,e3,V5]
 have hlim:lim (ints (raw l2 N i (s+1))).length=true:=by
  unfold ints lim; rw[Tw,yg]; exact TK (by omega)
 rw[hlim,aw]
 subst hs;unfold vG
 dsimp only
 rw[V4]
def iW(l:WB Nat)(N i:Nat):WB Nat:=if(raw l N i N).sum=0 then(raw l N i N).set i 1 else raw l N i N
def oW:∀{l:WB Nat} {i:Nat},i<l.length->l.sum=0->(l.set i 1).sum=1
 | a::l,0,_,hs=>by rw[List.sum_cons] at hs; rw[List.set_cons_zero,List.sum_cons]; omega
 | a::l,i+1,h,hs=>by
  rw[List.sum_cons] at hs;rw[List.set_cons_succ,List.sum_cons,oW (by simpa using h) (by omega)]; omega
def DP(l:WB Nat){N i:Nat}(hN:N<=4)(hi:i<N):(iW l N i).length=N/\(∀x∈iW l N i,x<6)/\(iW l N i).sum≠0/\(iW l N i).sum<21:=by
 have h1:=w6 l N i N;have h2:=yg l N i N;unfold iW
 split
 rename_i h0;refine⟨by simp[h2],fun x hx=>?_,by rw[oW (by omega) h0]; decide,by rw[oW (by omega) h0]; decide⟩
 rcases UH hx with h|h
 exact G3 h
 omega
 exact⟨h2,fun x hx=>G3 hx,by assumption,by omega⟩
def GS(n:Nat){N S:Nat}{l l':WB Nat}(hN:N<=4)(hl:l.length=N)(hl':l'.length=N)(h6:∀x∈l,x<6)(h0:S≠0)(hS:S<21)(hn:300<=n):bH (uT n (N:Int) (ints l') (ints l) (S:Int)) n (([]:WB Sh),0)=some (zh S l):=by
 have h:=aR (body:=uT n (N:Int) (ints l') (ints l) (S:Int)) N (fun(s:WB Sh) (v:Int)=>(s,v)) id (fun k s=>s=(zh S l).take k) (fun s k hk hs=>?_) (fun s hs=>?_) (n:=n) (s:=[]) (by simp) (by omega)
 obtain⟨s,h1,rfl⟩:=h;rw[h1,id,UG (by unfold zh; rw[Tw]; omega)]
 subst hs;have e1:(ints l)[k]? = some ((l[k]'(by omega):Nat):Int):=by unfold ints; rw[Tn,SU (by omega)]; rfl
 have hx:=h6 (l[k]'(by omega)) (UW _)
 have e2:(zh S l).take k++[sh (dA S (l[k]'(by omega)))]=(zh S l).take (k+1):=by
  unfold zh;rw[List.take_succ_eq_append_getElem (by rw[Tw]; omega),List.getElem_map]
 refine⟨_,?_,rfl⟩;unfold uT
 dsimp only
 rw[V3,ak (by unfold ints; rw[Tw]; omega),aw,SS,e1,ab,NV hn hx hS h0,ab]
 show gd (lim ((zh S l).take k++[sh (dA S (l[k]'(by omega)))]).length) (some (.inl ((zh S l).take k++[sh (dA S (l[k]'(by omega)))],Vx ((k:Int)+1))):WA ((WB Sh×Int)⊕WB Sh))=_
 rw[e2,V5]
 have hlim:lim ((zh S l).take (k+1)).length=true:=by
  unfold lim; exact TK (by rw[TW]; omega)
 rw[hlim,aw]
 subst hs;unfold uT
 dsimp only
 rw[V4]; rfl
def dM(l:WB Nat)(N:Nat):WB (WB Sh):=(List.range N).map fun i=>zh (iW l N i).sum (iW l N i)
def NW(n x:Nat)(l:WB Nat)(hn:300<=n):PU n x l=some (dM l (1+x%4)):=by
 have hx:x%4<4:=TN _ (by decide)
 have eN:Vx (1+(Vx ((x%4:Nat):Int)))=((1+x%4:Nat):Int):=by
  rw[aC (x:=((x%4:Nat):Int)) (by omega) (by omega),aC (by omega) (by omega)]; omega
 generalize hNN:1+x%4=N at eN ⊢;have h:=aR (body:=vo n l) N (fun(s:WB (WB Sh)) (v:Int)=>((N:Int),s,v)) id (fun k s=>s=(List.range k).map fun i=>zh (iW l N i).sum (iW l N i)) (fun s k hk hs=>?_) (fun s hs=>?_) (n:=n) (s:=[]) (by simp) (by omega)
 obtain⟨s,h1,h2⟩:=h;unfold PU;rw[eN]
 show ob (bH (vo n l) n ((N:Int),([]:WB (WB Sh)),0)) _=_
 rw[h1,ab,id,h2]; rfl
 subst hs;refine⟨_,?_,rfl⟩;obtain⟨d1,d2,d3,d4⟩:=DP l (show N<=4 by omega) hk
 have hr:=yg l N k N;unfold vo
 dsimp only
 rw[V3,IU n l (by omega) hk hn,ab]
 dsimp only
 have e1:(br (decide (((raw l N k N).sum:Int)=0)) (gd (bG (k:Int) (ints (raw l N k N)).length) (ob ((ints (raw l N k N))[((k:Int)).toNat]?) fun _=>some ((ints (raw l N k N)).set ((k:Int)).toNat 1,(1:Int)))) (some (ints (raw l N k N),((raw l N k N).sum:Int))))=some (ints (iW l N k),((iW l N k).sum:Int)):=by
  unfold iW
  by_cases c:(raw l N k N).sum=0
  rw[V3,ak (by unfold ints; rw[Tw]; omega),aw,SS,S7 c,oW (by omega) c]
  have:(ints (raw l N k N))[k]? = some (((raw l N k N)[k]'(by omega):Nat):Int):=by unfold ints; rw[Tn,SU (by omega)]; rfl
  rw[this,ab];unfold ints;rw[List.map_set]; rfl
  rw[V4,S8 c]
 rw[e1,ab]
 dsimp only
 rw[GS n (show N<=4 by omega) d1 hr d2 d3 d4 hn,ab,V5]
 have e2:((List.range k).map fun i=>zh (iW l N i).sum (iW l N i))++[zh (iW l N k).sum (iW l N k)]=(List.range (k+1)).map fun i=>zh (iW l N i).sum (iW l N i):=by rw[List.range_succ,List.map_append]; rfl
 rw[e2];have hlim:lim ((List.range (k+1)).map fun i=>zh (iW l N i).sum (iW l N i)).length=true:=by
  unfold lim; exact TK (by simp; omega)
 rw[hlim,aw]
 subst hs;unfold vo
 dsimp only
 rw[V4]; rfl
end Go.Proofs.YtpkadoocdgdcfaaGreatDoor
end
section
namespace Go.Proofs.YtpkadoocdgdcfaaGreatDoor
open Go Go.Ab Go.Ab.W
variable{n:Nat}
def NI(hn:40<n):xr n 1=some (false,[1],false,[1]):=by
 unfold xr;rw[qV (by omega),ab]
 dsimp only
 unfold HQ;rw[qV (by omega),ab]
 rfl
def tF{T:Nat}(hT:T≠0):dA T T=(1,1):=by
 unfold dA;rw[Nat.gcd_self,Nat.div_self (Tg hT)]
def k9{T:Nat}(hT:T≠0):dA T 0=(0,1):=by unfold dA; rw[Nat.gcd_zero_left,Nat.zero_div,Nat.div_self (Tg hT)]
structure RowsOk(M:WB (WB Nat)):Prop where
 len:1<=M.length/\M.length<=60
 row:∀l∈M,l.length=M.length/\l.sum≠0/\l.sum<18446744073709551616
end Go.Proofs.YtpkadoocdgdcfaaGreatDoor
end
section
namespace Go.Proofs.YtpkadoocdgdcfaaGreatDoor
open Go Go.Ab Go.Ab.W
def H3(n:Nat)(x1:Bool)(l2:WB (Nat))(x7:Bool)(l8:WB (Nat))(x13:Bool)(l14:WB (Nat))(x19:Bool)(l20:WB (Nat)):WA WT :=
ob (FW n x1 l2 x13 l14) fun(r29,l30) =>
ob (FW n x7 l8 x19 l20) fun(r35,l36) =>
ob (EV n r29 l30 r35 l36) fun(r41,l42,r46,l47) =>
some (r41,l42,r46,l47)
def pU(n:Nat)(l1:WB WT):(WB WQ×Int)->WA ((WB WQ×Int) ⊕(Int ⊕(WB WQ))):=fun(l2,v0) =>
br (decide (v0<(l1.length:Int))) (
gd (bG v0 l1.length) (
ob (l1[v0.toNat]?) fun(x3,l3,x4,l4) =>
ob (Cc n x3 l3 x4 l4) fun(r0,r1,r3,r4,r5,r6,r7,r8,r9,r10,r11,r12,r13,r14,r15,r16,r17) =>
br (!decide (r17=0)) (
some (.inr (.inl r17))) (
gd (lim (l2++[(r0,r1,r3,r4,r5,r6,r7,r8,r9,r10,r11,r12,r13,r14,r15,r16)]).length) (
some (.inl ((l2++[(r0,r1,r3,r4,r5,r6,r7,r8,r9,r10,r11,r12,r13,r14,r15,r16)]),Vx (v0+1))))))) (
some (.inr (.inr l2)))
def GA(n:Nat)(l1:WB WT):WA (WB WQ×Int) :=
ob (α:=(Int) ⊕(WB WQ)) (
bH (pU n l1) n (([]:WB WQ),0)) fun r0=>match r0 with
| .inl v0 =>
some ([],v0)
| .inr l2 =>
some (l2,0)
def rH(n:Nat):(WB (Nat)×WB (Int)×Int)->WA ((WB (Nat)×WB (Int)×Int) ⊕(WB (Int))):=fun(l20,l21,v23) =>
br (decide (v23<8)) (
gd (bG v23 8) (
ob (l20[v23.toNat]?) fun x40 =>
gd (bG v23 8) (
gd (lim (l21++[Vx ((x40%4294967296:Nat):Int),Vx ((uw .u64 (x40/4294967296):Nat):Int)]).length) (
some (.inl (l20,(l21++[Vx ((x40%4294967296:Nat):Int),Vx ((uw .u64 (x40/4294967296):Nat):Int)]),Vx (v23+1))))))) (
some (.inr l21))
def Jj(n:Nat)(x1:Nat)(x2:Nat)(x3:Nat)(x4:Nat)(x5:Nat)(x6:Nat)(x7:Nat)(x8:Nat):WA (WB Int) :=
ob (
bH (rH n) n (([x1,x2,x3,x4,x5,x6,x7,x8]:WB (Nat)),([]:WB (Int)),0)) fun l36 =>
some l36
def LU(n:Nat)(x1:Nat)(x2:Nat)(x3:Nat)(x4:Nat)(x5:Nat)(x6:Nat)(x7:Nat)(x8:Nat):WA (Bool×WB Int) :=
ob (Jj n x1 x2 x3 x4 x5 x6 x7 x8) fun l12 =>
br (decide (x8<9223372036854775808)) (
ob (kv n false l12) fun(r17,l18) =>
some (r17,l18)) (
gd (decide ((0:Int)<=17)) (gd (lim ((17:Int).toNat)) (
gd (bG 16 ((17:Int).toNat)) (
ob ((List.replicate (17:Int).toNat (0:Int))[(16:Int).toNat]?) fun x26 =>
ob (oA n l12) fun l30 =>
ob (ue n ((List.replicate (17:Int).toNat (0:Int)).set ((16:Int).toNat) 1) l30) fun l35 =>
ob (kv n true l35) fun(r40,l41) =>
some (r40,l41)))))
def G4(n:Nat)(x1:Bool)(l2:WB (Int)):WA Bool :=
br (decide ((l2.length:Int)=1)) (
gd (bG 0 l2.length) (
ob (l2[Vy]?) fun x11 =>
br (decide (x11=1)) (
some (!x1)) (
some false))) (
some false)
def GL(n:Nat)(x1:Nat)(x2:Nat)(x3:Nat)(x4:Nat)(x5:Nat)(x6:Nat)(x7:Nat)(x8:Nat)(x9:Nat)(x10:Nat)(x11:Nat)(x12:Nat)(x13:Nat)(x14:Nat)(x15:Nat)(x16:Nat):WA Bool :=
ob (LU n x1 x2 x3 x4 x5 x6 x7 x8) fun(r19,l20) =>
ob (LU n x9 x10 x11 x12 x13 x14 x15 x16) fun(r25,l26) =>
br (!r25) (
br (decide (0<(l26.length:Int))) (
ob (Fi n r19 l20 r25 l26) fun(r35,l36) =>
ob (G4 n r35 l36) fun r41 =>
some r41) (
some false)) (
some false)
def rz(n:Nat)(l1:WB WQ):Int->WA (Int⊕WC⊕WC):=fun v6 =>
br (decide (v6<(l1.length:Int))) (
gd (bG v6 l1.length) (
ob (l1[v6.toNat]?) fun(x36,x37,x38,x39,x40,x41,x42,x43,x44,x45,x46,x47,x48,x49,x50,x51) =>
ob (GL n x36 x37 x38 x39 x40 x41 x42 x43 x44 x45 x46 x47 x48 x49 x50 x51) fun r54 =>
br (!r54) (
some (.inr (.inl ()))) (
some (.inl (Vx (v6+1)))))) (
some (.inr (.inr ())))
def rN(n:Nat)(l1:WB WQ):WA Bool :=
ob (α:=(WC)⊕WC) (
bH (rz n l1) n 0) fun r57=>match r57 with
| .inl _ =>
some false
| .inr _ =>
some true
def FN(n:Nat):WA (Bool×WB Int×Bool×WB Int) :=
ob (zD n 0 1) fun(r3,l4,r8,l9) =>
some (r3,l4,r8,l9)
def zq(n:Nat)(x1:Nat)(x2:Nat)(x3:Nat)(x4:Nat)(x5:Nat)(x6:Nat)(x7:Nat)(x8:Nat)(x9:Nat)(x10:Nat)(x11:Nat)(x12:Nat)(x13:Nat)(x14:Nat)(x15:Nat)(x16:Nat):WA (Bool×WB Int×Bool×WB Int) :=
ob (LU n x1 x2 x3 x4 x5 x6 x7 x8) fun(r20,l21) =>
ob (LU n x9 x10 x11 x12 x13 x14 x15 x16) fun(r26,l27) =>
some (r20,l21,r26,l27)
def tM(n:Nat)(l6:WB (Int))(v1:Int)(n2:Nat)(l1:WB (Int)):(WB (Int)×Nat×Int)->WA ((WB (Int)×Nat×Int) ⊕(WB (Int)×Nat)):=fun(l2,v2,v0) =>
br (decide (v0<(l6.length:Int))) (
gd (bG (Vx (v1+v0)) n2) (
ob (l2[(Vx (v1+v0)).toNat]?) fun x3 =>
gd (bG v1 l1.length) (
ob (l1[v1.toNat]?) fun x4 =>
gd (bG v0 l6.length) (
ob (l6[v0.toNat]?) fun x5 =>
ob (some (uw .u64 ((uw .u64 (v2+(ui .u64 x3)))+(uw .u64 ((ui .u64 x4)*(ui .u64 x5)))))) fun y2 =>
gd (bG (Vx (v1+v0)) n2) (
some (.inl ((l2.set ((Vx (v1+v0)).toNat) (Vx ((y2%4294967296:Nat):Int))),uw .u64 (y2/4294967296),Vx (v0+1)))))))) (
some (.inr (l2,v2)))
def tI(n:Nat)(l1:WB (Int))(l6:WB (Int)):(WB (Int)×Nat×Int)->WA ((WB (Int)×Nat×Int) ⊕(WB (Int)×Nat)):=fun(l2,n2,v0) =>
br (decide (v0<(l1.length:Int))) (
ob (
bH (tM n l6 v0 n2 l1) n (l2,0,0)) fun(l3,v1) =>
gd (bG (Vx (v0+(l6.length:Int))) n2) (
ob (l3[(Vx (v0+(l6.length:Int))).toNat]?) fun x3 =>
some (.inl ((l3.set ((Vx (v0+(l6.length:Int))).toNat) (Vx ((v1:Nat):Int))),n2,Vx (v0+1))))) (
some (.inr (l2,n2)))
def Iz(n:Nat)(l1:WB (Int))(l6:WB (Int)):WA (WB Int) :=
gd (decide (0<=Vx ((l1.length:Int)+(l6.length:Int)))) (gd (lim ((Vx ((l1.length:Int)+(l6.length:Int))).toNat)) (
ob (
bH (tI n l1 l6) n ((List.replicate (Vx ((l1.length:Int)+(l6.length:Int))).toNat (0:Int)),(Vx ((l1.length:Int)+(l6.length:Int))).toNat,0)) fun(l2,n2) =>
ob (oA n l2) fun l3 =>
some l3))
def Gj(n:Nat)(x1:Bool)(l2:WB (Int))(x7:Bool)(l8:WB (Int)):WA (Bool×WB Int) :=
ob (Iz n l2 l8) fun l17 =>
ob (kv n (!(x1==x7)) l17) fun(r22,l23) =>
some (r22,l23)
def BT(n:Nat)(x1:Bool)(l2:WB (Int))(x7:Bool)(l8:WB (Int))(x13:Bool)(l14:WB (Int))(x19:Bool)(l20:WB (Int)):WA (Bool×WB Int×Bool×WB Int) :=
ob (Gj n x1 l2 x19 l20) fun(r29,l30) =>
ob (Gj n x13 l14 x7 l8) fun(r35,l36) =>
ob (vU n r29 l30 r35 l36) fun(r41,l42) =>
ob (Gj n x7 l8 x19 l20) fun(r47,l48) =>
ob (Ct n r41 l42 r47 l48) fun(r53,l54,r58,l59) =>
some (r53,l54,r58,l59)
def Eu(n:Nat)(x1:Bool)(l2:WB (Int))(x6:Bool)(l7:WB (Int)):WA Int :=
ob (HW n x1 l2 x6 l7) fun(r14,l15) =>
br (r14) (
some (-1)) (
br (decide (0<(l15.length:Int))) (
some 1) (
some 0))
def IZ(n:Nat)(x1:Bool)(l2:WB (Int))(x6:Bool)(l7:WB (Int))(x11:Bool)(l12:WB (Int))(x16:Bool)(l17:WB (Int)):WA Int :=
ob (Gj n x1 l2 x16 l17) fun(r24,l25) =>
ob (Gj n x11 l12 x6 l7) fun(r30,l31) =>
ob (Eu n r24 l25 r30 l31) fun r36 =>
some r36
def lu(n:Nat)(l1:WB WQ):(Bool×WB (Int)×Bool×WB (Int)×Int)->WA ((Bool×WB (Int)×Bool×WB (Int)×Int) ⊕(WC ⊕(Bool×WB (Int)×Bool×WB (Int)))):=fun(v1,l2,v2,l3,v0) =>
br (decide (v0<(l1.length:Int))) (
gd (bG v0 l1.length) (
ob (l1[v0.toNat]?) fun(x3,x4,x5,x6,x7,x8,x9,x10,x11,x12,x14,x15,x16,x17,x18,x19) =>
ob (zq n x3 x4 x5 x6 x7 x8 x9 x10 x11 x12 x14 x15 x16 x17 x18 x19) fun(r0,l4,r1,l7) =>
br (r0) (
some (.inr (.inl ()))) (
ob (BT n v1 l2 v2 l3 r0 l4 r1 l7) fun(r3,l8,r4,l9) =>
some (.inl (r3,l8,r4,l9,Vx (v0+1)))))) (
some (.inr (.inr (v1,l2,v2,l3))))
def tY(n:Nat)(l1:WB WQ):WA Bool :=
ob (FN n) fun(r0,l2,r1,l3) =>
ob (α:=(WC) ⊕(Bool×WB (Int)×Bool×WB (Int))) (
bH (lu n l1) n (r0,l2,r1,l3,0)) fun r3=>match r3 with
| .inl _ =>
some false
| .inr (v0,l4,v1,l7) =>
ob (zD n 1 1) fun(r4,l8,r5,l9) =>
ob (IZ n v0 l4 v1 l7 r4 l8 r5 l9) fun r6 =>
some (decide (r6=0))
def kR(n:Nat)(l1:WB (WB WQ)):Int->WA (Int⊕WC⊕WC):=fun v0 =>
br (decide (v0<(l1.length:Int))) (
ob (
gd (bG v0 l1.length) (
ob (l1[v0.toNat]?) fun l2 =>
br (!decide ((l2.length:Int)=(l1.length:Int))) (
some true) (
gd (bG v0 l1.length) (
ob (rN n l2) fun r0 =>
br (!r0) (
some true) (
gd (bG v0 l1.length) (
ob (tY n l2) fun r1 =>
some (!r1))))))) fun v1 =>
br (v1) (
some (.inr (.inl ()))) (
some (.inl (Vx (v0+1))))) (
some (.inr (.inr ())))
def Mm(n:Nat)(l1:WB (WB WQ)):WA Bool :=
ob (
br (decide ((l1.length:Int)<1)) (
some true) (
some (decide (60<(l1.length:Int))))) fun v0 =>
br (v0) (
some false) (
ob (α:=(WC)⊕WC) (
bH (kR n l1) n 0) fun r0=>match r0 with
| .inl _ =>
some false
| .inr _ =>
some true)
def GZ(n:Nat)(x1:Nat)(x2:Nat)(x3:Nat)(x4:Nat)(x5:Nat)(x6:Nat)(x7:Nat)(x8:Nat)(x9:Nat)(x10:Nat)(x11:Nat)(x12:Nat)(x13:Nat)(x14:Nat)(x15:Nat)(x16:Nat):WA Bool :=
ob (EL n x1 x2 x3 x4 x5 x6 x7 x8 x9 x10 x11 x12 x13 x14 x15 x16) fun r19 =>
some (!decide (r19=0))
def sL(n:Nat)(l2:WB WQ):Int->WA (Int⊕Int⊕WC):=fun v0 =>
br (decide (v0<(l2.length:Int))) (
gd (bG v0 l2.length) (
ob (l2[v0.toNat]?) fun(x3,x4,x5,x6,x7,x8,x9,x10,x11,x12,x14,x15,x16,x17,x18,x19) =>
ob (GZ n x3 x4 x5 x6 x7 x8 x9 x10 x11 x12 x14 x15 x16 x17 x18 x19) fun r0 =>
br (r0) (
some (.inr (.inl v0))) (
some (.inl (Vx (v0+1)))))) (
some (.inr (.inr ())))
def vv(n:Nat)(l2:WB WQ):(WB (WT)×Int)->WA ((WB (WT)×Int) ⊕(WB WT)):=fun(l3,v0) =>
br (decide (v0<(l2.length:Int))) (
gd (bG v0 l2.length) (
ob (l2[v0.toNat]?) fun(x3,x4,x5,x6,x7,x8,x9,x10,x11,x12,x14,x15,x16,x17,x18,x19) =>
ob (Im n x3 x4 x5 x6 x7 x8 x9 x10 x11 x12 x14 x15 x16 x17 x18 x19) fun(r0,l4,r1,l7) =>
gd (lim (l3++([(r0,l4,r1,l7)]:WB WT)).length) (
some (.inl ((l3++([(r0,l4,r1,l7)]:WB WT)),Vx (v0+1)))))) (
some (.inr l3))
def ry(n:Nat)(n2:Nat)(l8:WB WT)(l1:WB (WB WQ))(v0:Int):(WB (WT)×Int)->WA ((WB (WT)×Int) ⊕(WB WT)):=fun(l2,v1) =>
br (decide (v1<(n2:Int))) (
ob (
gd (bG v1 n2) (
ob (l8[v1.toNat]?) fun(x3,l3,x4,l9) =>
gd (bG v1 l1.length) (
ob (l1[v1.toNat]?) fun l4 =>
gd (bG v0 l4.length) (
ob (l4[v0.toNat]?) fun(x5,x6,x7,x8,x9,x10,x11,x12,x14,x15,x16,x17,x18,x19,x20,x21) =>
ob (Im n x5 x6 x7 x8 x9 x10 x11 x12 x14 x15 x16 x17 x18 x19 x20 x21) fun(r0,l7,r1,l10) =>
ob (
ob (CE n r0 l7) fun r3 =>
br (!decide (r3=0)) (
ob (CE n x3 l3) fun r4 =>
some (!decide (r4=0))) (
some false)) fun v2 =>
br (v2) (
gd (bG v0 ((l1.length:Int).toNat)) (
ob (l2[v0.toNat]?) fun(x22,l11,x23,l12) =>
ob (H3 n x3 l3 x4 l9 r0 l7 r1 l10) fun(r5,l13,r6,l14) =>
ob (E9 n x22 l11 x23 l12 r5 l13 r6 l14) fun(r7,l15,r8,l16) =>
gd (bG v0 ((l1.length:Int).toNat)) (
some (l2.set v0.toNat (r7,l15,r8,l16))))) (
some l2))))) fun l17 =>
some (.inl (l17,Vx (v1+1)))) (
some (.inr l2))
def uO(n:Nat)(l1:WB (WB WQ))(n2:Nat)(l3:WB WT):(WB (WT)×Int)->WA ((WB (WT)×Int) ⊕(WB WT)):=fun(l2,v0) =>
br (decide (v0<(l1.length:Int))) (
ob (xr n 0) fun(r0,l4,r1,l7) =>
gd (bG v0 ((l1.length:Int).toNat)) (
ob (l2[v0.toNat]?) fun(x3,l9,x4,l10) =>
ob (
bH (ry n n2 l3 l1 v0) n ((l2.set v0.toNat (r0,l4,r1,l7)),0)) fun l8 =>
some (.inl (l8,Vx (v0+1))))) (
some (.inr l2))
def vB(n:Nat)(x3:Int)(l1:WB (WB WQ)):(Nat×WB (WT)×Int)->WA ((Nat×WB (WT)×Int) ⊕(Nat×WB WT)):=fun(n2,l2,v0) =>
br (decide (v0<x3)) (
gd (decide (0<=(l1.length:Int))) (gd (lim ((l1.length:Int).toNat)) (
ob (
bH (uO n l1 n2 l2) n ((List.replicate (l1.length:Int).toNat ((false,[],false,[]):WT)),0)) fun l3 =>
some (.inl ((l1.length:Int).toNat,l3,Vx (v0+1)))))) (
some (.inr (n2,l2)))
def JC(n:Nat)(l1:WB (WB WQ))(l2:WB WQ)(x3:Int):WA (WB WQ×Int) :=
ob (Me n l1) fun r0 =>
br (!decide (r0=0)) (
some ([],r0)) (
ob (
ob (α:=Int) (
ob (α:=(Int)⊕WC) (
bH (sL n l2) n 0) fun r1=>match r1 with
| .inl v0 =>
some v0
| .inr _ =>
some (-1)) fun v1 =>
some (decide (0<=v1))) fun v2 =>
br (v2) (
some ([],20)) (
ob (
br (!decide ((l2.length:Int)=(l1.length:Int))) (
some true) (
ob (rV n l2) fun r3 =>
br (!r3) (
some true) (
br (decide (x3<0)) (
some true) (
some (decide (30<x3)))))) fun v3 =>
br (v3) (
some ([],2)) (
ob (
bH (vv n l2) n (([]:WB WT),0)) fun l3 =>
ob (
bH (vB n x3 l1) n (l3.length,l3,0)) fun(n2,l4) =>
ob (GA n l4) fun(l7,r4) =>
some (l7,r4))))
def yI(n:Nat)(l1:WB WQ)(l5:WB WQ):Int->WA (Int⊕WC⊕WC):=fun v11 =>
br (decide (v11<(l1.length:Int))) (
gd (bG v11 l1.length) (
ob (l1[v11.toNat]?) fun(x59,x60,x61,x62,x63,x64,x65,x66,x67,x68,x69,x70,x71,x72,x73,x74) =>
gd (bG v11 l5.length) (
ob (l5[v11.toNat]?) fun(x79,x80,x81,x82,x83,x84,x85,x86,x87,x88,x89,x90,x91,x92,x93,x94) =>
br (!(decide (x59=x79)&&decide (x60=x80)&&decide (x61=x81)&&decide (x62=x82)&&decide (x63=x83)&&decide (x64=x84)&&decide (x65=x85)&&decide (x66=x86)&&decide (x67=x87)&&decide (x68=x88)&&decide (x69=x89)&&decide (x70=x90)&&decide (x71=x91)&&decide (x72=x92)&&decide (x73=x93)&&decide (x74=x94))) (
some (.inr (.inl ()))) (
some (.inl (Vx (v11+1))))))) (
some (.inr (.inr ())))
def Qi(n:Nat)(l1:WB WQ)(l5:WB WQ):WA Bool :=
br (!decide ((l1.length:Int)=(l5.length:Int))) (
some false) (
ob (α:=(WC)⊕WC) (
bH (yI n l1 l5) n 0) fun r98=>match r98 with
| .inl _ =>
some false
| .inr _ =>
some true)
end Go.Proofs.YtpkadoocdgdcfaaGreatDoor
end
section
namespace Go.Proofs.YtpkadoocdgdcfaaGreatDoor
set_option exponentiation.threshold 30000
section
open Go Go.Ab Go.Ab.W
def Dg(v:Nat):WB Int:=if h:v=0 then[] else((v%4294967296:Nat):Int)::Dg (v/4294967296)
termination_by v
decreasing_by exact Nat.div_lt_self (Tg h) (by decide)
def fW:Dg 0=[]:=by rw[Dg]; rfl
def gL{v:Nat}(h:v≠0):Dg v=((v%4294967296:Nat):Int)::Dg (v/4294967296):=by rw[Dg,dif_neg h]
def zp{v:Nat}(h0:v≠0)(h:v<4294967296):Dg v=[(v:Int)]:=by
 rw[gL h0,TA h,Uq h,fW]
def nU{v:Nat}:Dg v=[]↔v=0:=by
 constructor
 intro h;refine Ug fun hv=>?_;rw[gL hv] at h;cases h
 rintro rfl;exact fW
def dk:Nat->Nat->WB Int
 | 0,_=>[]
 | k+1,v=>((v%4294967296:Nat):Int)::dk k (v/4294967296)
def xN:∀(k v:Nat),(dk k v).length=k
 | 0,_=>rfl
 | k+1,v=>by rw[dk,Tz,xN k]
def DN:∀(k:Nat),dk k 0=List.replicate k 0
 | 0=>rfl
 | k+1=>by rw[dk,Uh,show 0/4294967296=0 from rfl,DN k]; rfl
def qi:∀(k v:Nat),v<4294967296 ^ k->dk k v=Dg v++List.replicate (k-(Dg v).length) 0
 | 0,v,h=>by
  have:v=0:=by simpa using h
  subst this;rw[fW]; rfl
 | k+1,v,h=>by
  by_cases h0:v=0
  subst h0; rw[DN,fW]; rfl
  rw[dk,gL h0,qi k (v/4294967296) (by rw[TE] at h; exact Nat.div_lt_of_lt_mul (by rwa[Tj])),Vc,Tz,Nat.succ_sub_succ]
def CN:∀(v:Nat) (x:Int),(Dg v).getLast? = some x->x≠0:=fun v=>by
 induction v using Nat.strongRecOn with
 | ind v ih =>
  intro x h
  by_cases h0:v=0
  subst h0; rw[fW] at h; cases h
  ·rw[gL h0] at h
   by_cases h1:v/4294967296=0
   rw[h1,fW] at h;simp at h;omega
   ·have hne:Dg (v/4294967296)≠[]:=fun c=>h1 (nU.1 c);refine ih (v/4294967296) (Nat.div_lt_self (Tg h0) (by decide)) x ?_
    cases hd:Dg (v/4294967296) with
    | nil=>exact Tl hd hne
    | cons y ys=>rw[hd] at h; rwa[List.getLast?_cons_cons] at h
def iL:∀(v:Nat),v<4294967296 ^ (Dg v).length:=fun v=>by
 induction v using Nat.strongRecOn with
 | ind v ih =>
  by_cases h0:v=0
  subst h0; rw[fW]; decide
  rw[gL h0,Tz,TE];have:=ih (v/4294967296) (Nat.div_lt_self (Tg h0) (by decide))
  exact(TZ (by decide)).1 this
def uH{v k:Nat}(h:v<4294967296 ^ k):(Dg v).length<=k:=by
 have:=Up List.length (qi k v h);rw[xN,S5,List.length_replicate] at this;omega
@[irreducible] def DM:Nat:=4294967296 ^ 20000
def zQ:DM=4294967296 ^ 20000:=by unfold DM; rfl
def iB{v:Nat}(h:v<DM):(Dg v).length<=20000:=uH (zQ▸h)
section
variable(n:Nat)
def NS{lo hi:Int}{k:Nat}(h:0<=lo/\lo<=hi/\hi<=(k:Int)):okB lo hi k=true:=S4 h
def jH{k:Nat}(h:k<=1073741824):lim k=true:=TK h
def PF{x:Nat}(h:x<18446744073709551616):ui .u64 (x:Int)=x:=by
 rw[BD,iw (by omega)]
def uR{l:WB Int}{e:Nat}(hl:l.length<1000000)(hz:∀i,e<=i->i<l.length->l[i]? = some 0)(hx:e=0\/∃x,l[e-1]? = some x/\x≠0)(he:e<=l.length) :
  ∀(j m:Nat),e+j<=l.length->j<m->bH (su n l) m ((e+j:Nat):Int)=some (e:Int)
 | 0,m+1,h1,h2=>by
  rw[bL];unfold su
  by_cases h0:e=0
  subst h0;rw[V4,ab,bB]
  obtain⟨x,g1,g2⟩:=hx.resolve_left h0;rw[V3,aC (by omega) (by omega),show((e+0:Nat):Int)-1=((e-1:Nat):Int) by omega,ak (by omega),aw,SS,g1,ab,ab,Ta g2,bB]; rfl
 | j+1,m+1,h1,h2=>by
  rw[bO (s':=((e+j:Nat):Int)),uR hl hz hx he j m (by omega) (by omega)]
  unfold su;rw[V3,aC (by omega) (by omega),show((e+(j+1):Nat):Int)-1=((e+j:Nat):Int) by omega,ak (by omega),aw,SS,hz (e+j) (by omega) (by omega),ab,ab,ay rfl]
def Cv{l:WB Int}{k:Nat}(hl:l.length+k<1000000)(hx:∀x,l.getLast? = some x->x≠0)(hn:1000000<n):oA n (l++List.replicate k 0)=some l:=by
 have hlen:(l++List.replicate k (0:Int)).length=l.length+k:=by simp
 unfold oA;rw[hlen,uR n (l:=l++List.replicate k 0) (e:=l.length) (by omega) (fun i h1 h2=>by
   rw[Tu h1,TX,S7 (by rw[hlen] at h2; omega)]) (by
   by_cases h0:l.length=0
   exact .inl h0
   right
   rw[TH (by omega)]
   refine⟨l[l.length-1]'(by omega),SU _,hx _ ?_⟩
   rw[List.getLast?_eq_getElem?];exact SU _) (by omega) k n (by omega) (by omega),ab,NS (by omega),aw]
 simp
def pW{k v:Nat}(h:v<4294967296 ^ k)(hk:k<400000)(hn:1000000<n):oA n (dk k v)=some (Dg v):=by
 have hl:(Dg v).length<=k:=by
  have:=Up List.length (qi k v h);rw[xN,S5,List.length_replicate] at this;omega
 rw[qi k v h];exact Cv n (by omega) (CN v) hn
def BK{v:Nat}(h:(Dg v).length<400000)(hn:1000000<n):oA n (Dg v)=some (Dg v):=by
 have:=Cv n (l:=Dg v) (k:=0) (by omega) (CN v) hn
 simpa using this
def AX{l l':WB Int}(h:oA n l=some l'):kv n false l=some (false,l'):=by
 unfold kv;rw[h,ab,bB]
def N5{l l':WB Int}(h:oA n l=some l')(h0:l'≠[]):kv n true l=some (true,l'):=by
 unfold kv;rw[h,ab,bZ,S4];have:=US.2 h0;omega
def Ho{v:Nat}(h:v<9223372036854775808)(hn:1000000<n):Ma n (v:Int)=some (false,Dg v):=by
 unfold Ma;rw[V4,ab,Ta (by omega),PF (by omega),iw (by omega),aC (by omega) (by omega),aC (by omega) (by omega),AX n (l':=Dg v),ab]
 have:=pW n (k:=2) (v:=v) (by show v<18446744073709551616; omega) (by decide) hn
 rwa[show dk 2 v=[((v%4294967296:Nat):Int),((v/4294967296:Nat):Int)] by
  rw[dk,dk,dk,TA (show v/4294967296<4294967296 by omega)]] at this
def gh{l:WB Int}{a i:Nat}(h:l.drop i=Dg a):(a=0/\l.length<=i)\/(a≠0/\i<l.length/\l[i]? = some ((a%4294967296:Nat):Int)/\l.drop (i+1)=Dg (a/4294967296)):=by
 by_cases h0:a=0
 subst h0;rw[fW] at h;exact .inl ⟨rfl,List.drop_eq_nil_iff.1 h⟩
 right
 rw[gL h0] at h;have hi:i<l.length:=Ug fun c=>by rw[List.drop_eq_nil_iff.2 (by omega)] at h; cases h
 rw[UT hi] at h;injection h with h1 h2;exact⟨h0,hi,by rw[SU hi,h1],h2⟩
def ux{l1 l5:WB Int}:∀(k a b c i:Nat) (acc:WB Int),l1.drop i=Dg a->l5.drop i=Dg b->a+b+c<4294967296 ^ k->c<=1->i+k<=1000000->acc.length=i ->
  ∀M,k<M->bH (sK n l1 l5) M (acc,(c:Int),(i:Int))=some (acc++Dg (a+b+c))
 | k,a,b,c,i,acc,h1,h2,h3,h4,h5,h6,M+1,h7=>by
  by_cases hz:a=0/\b=0/\c=0
  obtain⟨rfl,rfl,rfl⟩:=hz;have e1:=(gh h1).resolve_right fun g=>g.1 rfl;have e2:=(gh h2).resolve_right fun g=>g.1 rfl;rw[bL (r:=acc),fW,T8];unfold sK
  dsimp only
  rw[V4,V4,ab,V4]
  ·match k with
   | 0=>simp at h3; omega
   | k+1 =>
    have hp:(4294967296:Nat) ^ (k+1)=4294967296*4294967296 ^ k:=by rw[TE,Tj]
    have ih:=ux k (a/4294967296) (b/4294967296) ((a%4294967296+b%4294967296+c)/4294967296) (i+1) (acc++[(((a%4294967296+b%4294967296+c)%4294967296:Nat):Int)])
     (by
      rcases gh h1 with⟨rfl,g⟩|g
      rw[show 0/4294967296=0 from rfl,fW]; exact(List.drop_eq_nil_iff (l:=l1)).2 (by omega)
      exact g.2.2.2)
     (by
      rcases gh h2 with⟨rfl,g⟩|g
      rw[show 0/4294967296=0 from rfl,fW]; exact(List.drop_eq_nil_iff (l:=l5)).2 (by omega)
      exact g.2.2.2) (by omega) (by omega) (by omega) (by simp[h6]) M (by omega)
    have hlim:lim (acc++[(((a%4294967296+b%4294967296+c)%4294967296:Nat):Int)]).length=true:=jH (by rw[S5,h6,TC]; omega)
    rw[bO (s':=(acc++[(((a%4294967296+b%4294967296+c)%4294967296:Nat):Int)],(((a%4294967296+b%4294967296+c)/4294967296:Nat):Int),((i+1:Nat):Int))),ih,gL (v:=a+b+c) (by omega),
     show(a+b+c)%4294967296=(a%4294967296+b%4294967296+c)%4294967296 by omega,show(a+b+c)/4294967296=a/4294967296+b/4294967296+(a%4294967296+b%4294967296+c)/4294967296 by omega,Uk]
    rfl
    unfold sK
    dsimp only
    have fin:∀y:Int,y=((a%4294967296+b%4294967296+c:Nat):Int)->(gd (lim (acc++[Int.tmod y 4294967296]).length) (some (.inl ((acc++[Int.tmod y 4294967296]),Vx (Int.tdiv y 4294967296),Vx ((i:Int)+1)))):WA ((WB Int×Int×Int)⊕WB Int))=some (.inl (acc++[(((a%4294967296+b%4294967296+c)%4294967296:Nat):Int)],(((a%4294967296+b%4294967296+c)/4294967296:Nat):Int),((i+1:Nat):Int))):=by
     rintro y rfl;rw[show Int.tmod ((a%4294967296+b%4294967296+c:Nat):Int) 4294967296=(((a%4294967296+b%4294967296+c)%4294967296:Nat):Int) from rfl,hlim,aw,
      show Int.tdiv ((a%4294967296+b%4294967296+c:Nat):Int) 4294967296=(((a%4294967296+b%4294967296+c)/4294967296:Nat):Int) from rfl,aC (by omega) (by omega),aC (by omega) (by omega)]
     rfl
    rcases gh h1 with⟨a0,g1⟩|⟨a0,g1,g2,_⟩<;>rcases gh h2 with⟨b0,k1⟩|⟨b0,k1,k2,_⟩
    subst a0; subst b0;rw[V4,V4,ab,V3,V4,ab,V4,ab]
    exact fin _ (by simp)
    subst a0;rw[V4,V3,ab,bZ,V4,ab,V3,ak k1,aw,SS,k2,ab,ab,aC (by omega) (by omega)]
    exact fin _ (by omega)
    subst b0;rw[V3,ab,bZ,V3,ak g1,aw,SS,g2,ab,ab,V4,ab,aC (by omega) (by omega)]
    exact fin _ (by omega)
    rw[V3,ab,bZ,V3,ak g1,aw,SS,g2,ab,ab,V3,ak k1,aw,k2,ab,ab,aC (x:=(c:Int)+_) (by omega) (by omega),aC (by omega) (by omega)]
    exact fin _ (by omega)
def De{a b:Nat}(h:a+b<DM)(hn:1000000<n):FM n (Dg a) (Dg b)=some (Dg (a+b)):=by
 unfold FM;have:=ux n (l1:=Dg a) (l5:=Dg b) 20000 a b 0 0 [] rfl rfl (by rw[TP,<-zQ]; exact h) (by decide) (by decide) rfl n (by omega)
 rw[show(([]:WB Int),(0:Int),(0:Int))=([],((0:Nat):Int),((0:Nat):Int)) from rfl,this,ab]
 rfl
def vk{l1 l6:WB Int}:∀(k a b c i:Nat) (acc:WB Int),l1.drop i=Dg a->l6.drop i=Dg b->a<4294967296 ^ k->b+c<=a->c<=1->i+k<=1000000->acc.length=i ->
  ∀M,k<M->bH (sZ n l1 l6) M (acc,(c:Int),(i:Int))=some (acc++dk (Dg a).length (a-b-c))
 | k,a,b,c,i,acc,h1,h2,h3,h5,h4,h6,h0,M+1,h7=>by
  rcases gh h1 with⟨rfl,g0⟩|⟨a0,g0,g1,g2⟩
  rw[bL (r:=acc),fW]
  simp[dk]
  unfold sZ
  dsimp only
  rw[V4]
  ·match k with
   | 0=>simp at h3; omega
   | k+1 =>
    have hp:(4294967296:Nat) ^ (k+1)=4294967296*4294967296 ^ k:=by rw[TE,Tj]
    have key:∃c':Nat,c'<=1/\b/4294967296+c'<=a/4294967296/\(a-b-c)/4294967296=a/4294967296-b/4294967296-c' /\
      ((a%4294967296:Nat):Int)-c-((b%4294967296:Nat):Int)+4294967296*c'=(((a-b-c)%4294967296:Nat):Int)/\(c'=1↔((a%4294967296:Nat):Int)-c-((b%4294967296:Nat):Int)<0):=by
     by_cases g:a%4294967296<b%4294967296+c
     exact⟨1,by omega,by omega,by omega,by omega,by omega⟩
     exact⟨0,by omega,by omega,by omega,by omega,by omega⟩
    obtain⟨c',k1,k2,k3,k4,k0⟩:=key;have ih:=vk k (a/4294967296) (b/4294967296) c' (i+1) (acc++[(((a-b-c)%4294967296:Nat):Int)]) g2
     (by
      rcases gh h2 with⟨rfl,g⟩|g
      rw[show 0/4294967296=0 from rfl,fW]; exact(List.drop_eq_nil_iff (l:=l6)).2 (by omega)
      exact g.2.2.2) (by omega) k2 k1 (by omega) (by simp[h0]) M (by omega)
    have hlim:lim (acc++[(((a-b-c)%4294967296:Nat):Int)]).length=true:=jH (by rw[S5,h0,TC]; omega)
    rw[bO (s':=(acc++[(((a-b-c)%4294967296:Nat):Int)],(c':Int),((i+1:Nat):Int))),ih,gL a0,Tz,dk,k3,Uk]
    rfl
    unfold sZ
    dsimp only
    have fin:∀y:Int,y=((a%4294967296:Nat):Int)-c-((b%4294967296:Nat):Int)->(ob (br (decide (y<0)) (some ((1:Int),Vx (y+4294967296))) (some (0,y))) fun(v1,v0) =>
      gd (lim (acc++[v0]).length) (some (.inl ((acc++[v0]),v1,Vx ((i:Int)+1)))):WA ((WB Int×Int×Int)⊕WB Int))=some (.inl (acc++[(((a-b-c)%4294967296:Nat):Int)],(c':Int),((i+1:Nat):Int))):=by
     intro y hy
     by_cases hc:c'=1
     rw[ay (by rw[hy]; exact k0.1 hc),ab,aC (by omega) (by omega),show y+4294967296=(((a-b-c)%4294967296:Nat):Int) by omega]
     dsimp only
     rw[hlim,aw,aC (by omega) (by omega),hc]; rfl
     rw[aD (by rw[hy]; exact fun h=>hc (k0.2 h)),ab,show y=(((a-b-c)%4294967296:Nat):Int) by omega]
     dsimp only
     rw[hlim,aw,aC (by omega) (by omega),show c'=0 by omega]; rfl
    rw[V3,ak g0,aw,SS,g1,ab]
    rcases gh h2 with⟨b0,q0⟩|⟨b0,q0,q2,_⟩
    subst b0;rw[V4,ab,aC (by omega) (by omega)]
    exact fin _ (by simp)
    rw[V3,ak q0,aw,q2,ab,ab,aC (x:=((a%4294967296:Nat):Int)-(c:Int)) (by omega) (by omega),aC (by omega) (by omega)]
    exact fin _ rfl
def q9{a b:Nat}(h:b<=a)(ha:a<DM)(hn:1000000<n):ue n (Dg a) (Dg b)=some (Dg (a-b)):=by
 unfold ue;have:=vk n (l1:=Dg a) (l6:=Dg b) 20000 a b 0 0 [] rfl rfl (by rw[<-zQ]; exact ha) (by simpa using h) (by decide) (by decide) rfl n (by omega)
 have hl:=iB ha;rw[show(([]:WB Int),(0:Int),(0:Int))=([],((0:Nat):Int),((0:Nat):Int)) from rfl,this,ab,Us,U4,pW n (TT (Nat.sub_le _ _) (iL a)) (by omega) hn,ab]
def sE:∀(v a:Nat),v<(Dg a).length->(Dg a)[v]? = some ((a/4294967296 ^ v%4294967296:Nat):Int)
 | 0,a,h=>by
  have h0:a≠0:=fun c=>by subst c; rw[fW] at h; cases h
  rw[gL h0,UB,Nat.div_one]; rfl
 | v+1,a,h=>by
  have h0:a≠0:=fun c=>by subst c; rw[fW] at h; cases h
  rw[gL h0] at h ⊢;rw[TS,sE v (a/4294967296) (by simpa using h),TE,Tj,Ui]
def rl:∀(v a:Nat),(Dg a).drop v=Dg (a/4294967296 ^ v)
 | 0,a=>by rw[UB,Nat.div_one]; rfl
 | v+1,a=>by
  by_cases h0:a=0
  subst h0; rw[Nat.zero_div,fW]; rfl
  rw[gL h0,List.drop_succ_cons,rl v,TE,Tj,Ui]
def L9{b:Nat}(h:b≠0):4294967296 ^ ((Dg b).length-1)<=b:=by
 have hl:0<(Dg b).length:=US.2 fun c=>h (nU.1 c);have h1:=rl ((Dg b).length-1) b;have h2:((Dg b).drop ((Dg b).length-1)).length=1:=by rw[UU]; omega
 rw[h1] at h2;have h3:b/4294967296 ^ ((Dg b).length-1)≠0:=fun c=>by rw[c,fW] at h2; cases h2
 exact Ug fun c=>h3 (Uq (by omega))
def kl{a b:Nat}(h:(Dg a).length<(Dg b).length):a<b:=by
 have hb:b≠0:=fun c=>by subst c; rw[fW] at h; cases h
 refine SY (iL a) (Tb (Td (by decide) (by omega)) (L9 hb))
def uI{a b:Nat}(hl:(Dg a).length=(Dg b).length)(hb:(Dg b).length<400000):∀(k m:Nat),k<=(Dg b).length->k<m->a/4294967296 ^ k=b/4294967296 ^ k ->
  ∃r:Int⊕WC,bH (nQ n (Dg a) (Dg b)) m ((k:Int)-1)=some r/\((a=b/\r=.inr ())\/∃x:Int,r=.inl x/\x≠0/\(0<x↔b<a)/\(x<0↔a<b))
 | 0,m+1,_,_,h=>by
  refine⟨.inr (),bL ?_,.inl ⟨by simpa using h,rfl⟩⟩
  unfold nQ;rw[V4]
 | k+1,m+1,h1,h2,h=>by
  have e1:=sE k a (by omega)
  have e2:=sE k b (by omega)
  have hp:∀x:Nat,x/4294967296 ^ k/4294967296=x/4294967296 ^ (k+1):=fun x=>by rw[TE,Ui]
  have ha:=hp a;have hb':=hp b;have hlt:∀{x y:Nat},x/4294967296 ^ k<y/4294967296 ^ k->x<y:=fun{x y} g=>Ug fun c=>by
   have:=Nat.div_le_div_right (c:=4294967296 ^ k) (Nat.le_of_not_lt c);omega
  generalize hA:a/4294967296 ^ k=A at *;generalize hB:b/4294967296 ^ k=B at *
  by_cases c:A%4294967296=B%4294967296
  obtain⟨r,g1,g2⟩:=uI hl hb k m (by omega) (by omega) (by rw[hA,hB]; omega)
  refine⟨r,?_,g2⟩;rw[bO (s':=(k:Int)-1)]
  exact g1
  unfold nQ;rw[show(((k+1:Nat):Int))-1=(k:Int) by omega,V3,ak (by omega),aw,SS,e1,ab,ak (by omega),aw,e2,ab,c,S4 rfl,S9,bB,aC (by omega) (by omega)]
  have h3:∀r:Int⊕WC,r=.inl (((A%4294967296:Nat):Int)-((B%4294967296:Nat):Int))->bH (nQ n (Dg a) (Dg b)) (m+1) (((k+1:Nat):Int)-1)=some r:=fun r hr=>by
   subst hr;refine bL ?_;unfold nQ;rw[show(((k+1:Nat):Int))-1=(k:Int) by omega,V3,ak (by omega),aw,SS,e1,ab,ak (by omega),aw,e2,ab,Ta (by omega),To,bZ,aw,aw,aC (by omega) (by omega)]
  refine⟨_,h3 _ rfl,.inr ⟨_,rfl,by omega,⟨fun g=>hlt (by omega),fun g=>?_⟩,⟨fun g=>hlt (by omega),fun g=>?_⟩⟩⟩
  have:¬A<B:=fun g'=>by have:=hlt (x:=a) (y:=b) (by omega); omega
  omega
  have:¬B<A:=fun g'=>by have:=hlt (x:=b) (y:=a) (by omega); omega
  omega
def wY{a b:Nat}(ha:a<DM)(hb:b<DM)(hn:1000000<n):∃r:Int,AM n (Dg a) (Dg b)=some r/\(0<r↔b<a)/\(r<0↔a<b):=by
 have la:=iB ha;have lb:=iB hb;unfold AM
 by_cases hl:(Dg a).length=(Dg b).length
 have h0:∀x:Nat,x/4294967296 ^ (Dg x).length=0:=fun x=>Uq (iL x);obtain⟨r,g1,g2⟩:=uI n hl (by omega) (Dg b).length n (SX _) (by omega) (by rw[h0 b,<-hl,h0 a])
 rw[S4 (show((Dg a).length:Int)=((Dg b).length:Int) by omega),S9,bB,hl,aC (x:=((Dg b).length:Int)-1) (by omega) (by omega),g1,ab]
 rcases g2 with⟨rfl,rfl⟩|⟨x,rfl,_,q1,q2⟩
 exact⟨0,rfl,by omega,by omega⟩
 exact⟨x,rfl,q1,q2⟩
 rw[Ta (show ¬((Dg a).length:Int)=((Dg b).length:Int) by omega),To,bZ,aC (by omega) (by omega)]
 refine⟨_,rfl,?_,?_⟩
 constructor
 intro g; exact kl (by omega)
 intro g;have:¬(Dg a).length<(Dg b).length:=fun c=>by have:=kl c; omega
 omega
 constructor
 intro g; exact kl (by omega)
 intro g;have:¬(Dg b).length<(Dg a).length:=fun c=>by have:=kl c; omega
 omega
def mc{v:Nat}(h:v<DM)(hn:1000000<n):kv n false (Dg v)=some (false,Dg v):=AX n (BK n (by have:=iB h; omega) hn)
def sw{v:Nat}(h:v<DM)(h0:v≠0)(hn:1000000<n):kv n true (Dg v)=some (true,Dg v):=N5 n (BK n (by have:=iB h; omega) hn) fun c=>h0 (nU.1 c)
def JH{a b:Nat}(h:a+b<DM)(hn:1000000<n):vU n false (Dg a) false (Dg b)=some (false,Dg (a+b)):=by
 unfold vU
 show ob (FM n (Dg a) (Dg b)) _=_
 rw[De n h hn,ab,mc n h hn,ab]
def vb:WB Nat->Nat
 | []=>0
 | x::l=>x+4294967296*vb l
def L8(l:WB Nat):Prop:=∀x,x∈l->x<4294967296
def zu:∀k,vb (List.replicate k 0)=0
 | 0=>rfl
 | k+1=>by rw[Uh,vb,zu k]
def AY:∀(l:WB Nat) (i x y:Nat),l[i]? = some x->vb (l.set i y)+x*4294967296 ^ i=vb l+y*4294967296 ^ i
 | [],i,x,y,h=>by simp at h
 | z::l,0,x,y,h=>by
  have:z=x:=by simpa using h
  subst this
  show y+4294967296*vb l+z*4294967296 ^ 0=z+4294967296*vb l+y*4294967296 ^ 0
  rw[UB]; omega
 | z::l,i+1,x,y,h=>by
  have ih:=AY l i x y (by simpa using h)
  show z+4294967296*vb (l.set i y)+x*4294967296 ^ (i+1)=z+4294967296*vb l+y*4294967296 ^ (i+1)
  have hp:∀t:Nat,t*4294967296 ^ (i+1)=4294967296*(t*4294967296 ^ i):=fun t=>by rw[TE]; simp only[Tj,Ts]
  rw[hp,hp]; omega
def L8.set{l:WB Nat}(h:L8 l){i y:Nat}(hy:y<4294967296):L8 (l.set i y):=fun x hx=>by
 rcases UH hx with g|g
 exact h x g
 omega
def Mq:∀(l:WB Nat),L8 l->l.map Int.ofNat=dk l.length (vb l)
 | [],_=>rfl
 | x::l,h=>by
  have hx:=h x (by simp)
  rw[Va,Tz,dk,vb,Mq l fun y hy=>h y (by simp[hy]),show(x+4294967296*vb l)%4294967296=x by omega,show(x+4294967296*vb l)/4294967296=vb l by omega]
  rfl
def gKq{w:WB Nat}{i x:Nat}(h:w[i]? = some x):(w.map Int.ofNat)[i]? = some (x:Int):=by rw[Tn,h]; rfl
def zg{l1 l6:WB Int}{i x N b:Nat}(hn:1000000<n)(hx:l1[i]? = some (x:Int))(hx1:x<4294967296)(hi:i<l1.length)(h6:l6=Dg b)(hN:i+l6.length<=N)(hNb:N<400000) :
  ∀(k j c:Nat) (w:WB Nat),k+j=l6.length->w.length=N->L8 w->c<4294967296->(∀m,k<m->∃w':WB Nat,∃c':Nat,bH (tM n l6 (i:Int) N l1) m (w.map Int.ofNat,c,(j:Int))=some (w'.map Int.ofNat,c')/\w'.length=N/\L8 w'/\c'<4294967296 /\
   vb w'+c'*4294967296 ^ (i+l6.length)=vb w+c*4294967296 ^ (i+j)+x*(b/4294967296 ^ j)*4294967296 ^ (i+j)/\∀t,i+l6.length<=t->w'[t]? = w[t]?)
 | 0,j,c,w,h1,h2,h3,h4,m+1,_=>by
  refine⟨w,c,bL ?_,h2,h3,h4,?_,fun _ _=>rfl⟩
  unfold tM
  dsimp only
  rw[V4]
  have:b/4294967296 ^ j=0:=Uq (by have:=iL b; rw[<-h6,<-h1,TM] at this; exact this)
  rw[this,Nat.mul_zero,UA,TP,<-h1,TM]
 | k+1,j,c,w,h1,h2,h3,h4,m+1,hm=>by
  have hj:j<l6.length:=by omega
  have e6:l6[j]? = some ((b/4294967296 ^ j%4294967296:Nat):Int):=by rw[h6] at hj ⊢; exact sE j b hj
  obtain⟨z,ez⟩:∃z,w[i+j]? = some z:=⟨_,SU (by omega)⟩
  have hz:z<4294967296:=h3 z (Ti ez);generalize hbj:b/4294967296 ^ j=bj at *;have hbd:=TN bj (show 0<4294967296 by decide)
  have hmul:=T0 (show x<=4294967295 by omega) (show bj%4294967296<=4294967295 by omega)
  generalize hP:x*(bj%4294967296)=P at *;have hy:(c+z+P)/4294967296<4294967296:=by omega
  obtain⟨w',c',g1,g2,g3,g4,g5,g6⟩:=zg hn hx hx1 hi h6 hN hNb k (j+1) ((c+z+P)/4294967296) (w.set (i+j) ((c+z+P)%4294967296)) (by omega) (by rw[TQ]; exact h2) (h3.set (TN _ (by decide))) hy m (by omega)
  refine⟨w',c',?_,g2,g3,g4,?_,fun t ht=>?_⟩
  rw[bO (s':=((w.set (i+j) ((c+z+P)%4294967296)).map Int.ofNat,(c+z+P)/4294967296,((j+1:Nat):Int)))]
  exact g1
  unfold tM
  dsimp only
  rw[V3,aC (x:=(i:Int)+(j:Int)) (by omega) (by omega),show(i:Int)+(j:Int)=((i+j:Nat):Int) by omega,ak (by omega),aw,SS,gKq ez,ab,ak hi,aw,SS,hx,ab,ak hj,aw,SS,e6,ab,PF (by omega),PF (by omega),PF (by omega),iw (a:=c+z) (by omega),hP,iw (a:=P) (by omega),iw (by omega),ab,aw,iw (by omega),aC (by omega) (by omega),aC (by omega) (by omega),List.map_set]
  rfl
  have hs:=AY w (i+j) z ((c+z+P)%4294967296) ez;have hp:∀t:Nat,t*4294967296 ^ (i+(j+1))=4294967296*(t*4294967296 ^ (i+j)):=fun t=>by rw[<-UY,TE]; simp only[Tj,Ts]
  have hq:bj/4294967296=b/4294967296 ^ (j+1):=by rw[<-hbj,TE,Ui]
  rw[hp,hp,<-hq] at g5;have hx2:x*bj=4294967296*(x*(bj/4294967296))+P:=by
   rw[<-hP]
   conv=>lhs; rw[<-Ur bj 4294967296]
   rw[Uf]; simp only[Ts]
  rw[hx2,TI];have hy2:=Ur (c+z+P) 4294967296;have hk:4294967296*((c+z+P)/4294967296*4294967296 ^ (i+j))+(c+z+P)%4294967296*4294967296 ^ (i+j)=c*4294967296 ^ (i+j)+z*4294967296 ^ (i+j)+P*4294967296 ^ (i+j):=by
   rw[<-Ty,<-TI,hy2,TI,TI]
  rw[Ty 4294967296];omega
  rw[g6 t ht,Uc (by omega)]
def KY{a b:Nat}(hab:a*b<DM)(ha:a<DM)(hb:b<DM)(hn:1000000<n):Iz n (Dg a) (Dg b)=some (Dg (a*b)):=by
 have la:=iB ha;have lb:=iB hb;have lp:∀(k i:Nat) (w:WB Nat),k+i=(Dg a).length->w.length=(Dg a).length+(Dg b).length->L8 w->vb w=a%4294967296 ^ i*b->(∀t,i+(Dg b).length<=t->t<(Dg a).length+(Dg b).length->w[t]? = some 0)->∀m,k<m ->
   ∃w':WB Nat,bH (tI n (Dg a) (Dg b)) m (w.map Int.ofNat,(Dg a).length+(Dg b).length,(i:Int))=some (w'.map Int.ofNat,(Dg a).length+(Dg b).length)/\w'.length=(Dg a).length+(Dg b).length/\L8 w'/\vb w'=a*b:=by
  intro k
  induction k with
  | zero =>
   intro i w h1 h2 h3 h4 h5 m hm;obtain⟨m,rfl⟩:∃j,m=j+1:=⟨m-1,by omega⟩
   refine⟨w,bL ?_,h2,h3,?_⟩
   unfold tI
   dsimp only
   rw[V4]
   rw[h4,show i=(Dg a).length by omega,TA (iL a)]
  | succ k ih =>
   intro i w h1 h2 h3 h4 h5 m hm;obtain⟨m,rfl⟩:∃j,m=j+1:=⟨m-1,by omega⟩
   have hx:=sE i a (by omega)
   have hx1:=TN (a/4294967296 ^ i) (show 0<4294967296 by decide)
   obtain⟨w1,c,g1,g2,g3,g4,g5,g6⟩:=zg n (l1:=Dg a) (l6:=Dg b) (N:=(Dg a).length+(Dg b).length) (b:=b) hn hx hx1 (by omega) rfl (by omega) (by omega) (Dg b).length 0 0 w (by omega) h2 h3 (by decide) n (by omega)
   have hz:=(g6 (i+(Dg b).length) (SX _)).trans (h5 _ (SX _) (by omega))
   have hs:=AY w1 (i+(Dg b).length) 0 c hz;obtain⟨w',q1,q2,q3,q4⟩:=ih (i+1) (w1.set (i+(Dg b).length) c) (by omega) (by rw[TQ]; exact g2) (g3.set g4) (by
    rw[UA,TP] at hs;rw[hs,g5,h4,UA,TP,UB,Nat.div_one,TP,TE,Nat.mod_mul,TI];simp only[Ty,Tj,Ts]) (fun t g7 g8=>by rw[Uc (by omega),g6 t (by omega),h5 t (by omega) g8]) m (by omega)
   refine⟨w',?_,q2,q3,q4⟩;rw[bO (s':=((w1.set (i+(Dg b).length) c).map Int.ofNat,(Dg a).length+(Dg b).length,((i+1:Nat):Int)))]
   exact q1
   unfold tI
   dsimp only
   rw[show(0:Int)=((0:Nat):Int) from rfl,V3,g1,ab]
   dsimp only
   rw[aC (x:=(i:Int)+((Dg b).length:Int)) (by omega) (by omega),show(i:Int)+((Dg b).length:Int)=((i+(Dg b).length:Nat):Int) by omega,ak (by omega),aw,SS,gKq hz,ab,aC (by omega) (by omega),aC (by omega) (by omega),List.map_set]
   rfl
 obtain⟨w',g1,g2,g3,g4⟩:=lp (Dg a).length 0 (List.replicate ((Dg a).length+(Dg b).length) 0) (by omega) (by simp) (fun x hx=>by rw[List.eq_of_mem_replicate hx]; decide) (by rw[zu,UB,Nat.mod_one,UA]) (fun t _ ht=>by rw[TX,S7 ht]) n (by omega)
 unfold Iz;rw[aC (x:=((Dg a).length:Int)+((Dg b).length:Int)) (by omega) (by omega),show((Dg a).length:Int)+((Dg b).length:Int)=(((Dg a).length+(Dg b).length:Nat):Int) by omega,SS,cg (by omega),jH (by omega),aw]
 rw[List.map_replicate] at g1;rw[show List.replicate ((Dg a).length+(Dg b).length) (0:Int)=List.replicate ((Dg a).length+(Dg b).length) (Int.ofNat 0) from rfl,show(0:Int)=((0:Nat):Int) from rfl,g1,ab]
 dsimp only
 rw[Mq w' g3,g2,g4,pW n (SY (Nat.mul_lt_mul'' (iL a) (iL b)) (by rw[Ut]; exact SX _)) (by omega) hn,ab]
end
end
end Go.Proofs.YtpkadoocdgdcfaaGreatDoor
end
section
namespace Go.Proofs.YtpkadoocdgdcfaaGreatDoor
set_option exponentiation.threshold 30000
open Go Go.Ab Go.Ab.W
section
variable{n:Nat}
def uF{l1:WB Int}:∀(k a c i:Nat) (acc:WB Int),l1.drop i=Dg a->c<=1->acc.length=i->i+k<=1000000->a<4294967296 ^ k->∀M,k<M->∃(c':Int) (acc':WB Int),bH (sS n l1) M ((c:Int),acc,(i:Int))=some (c',acc')/\acc'++[c']=acc++dk ((Dg a).length+1) (2*a+c)/\acc'.length<=1000000
 | k,a,c,i,acc,h1,h2,h3,h4,h5,M+1,h7=>by
  rcases gh h1 with⟨rfl,g1⟩|⟨a0,g1,g2,g3⟩
  refine⟨(c:Int),acc,bL ?_,?_,by omega⟩
  unfold sS; dsimp only; rw[V4]
  rw[fW,List.length_nil,TM,dk,dk,TA (by omega),Nat.mul_zero,TM]
  ·match k with
   | 0=>simp at h5; omega
   | k+1 =>
    have hp:(4294967296:Nat) ^ (k+1)=4294967296*4294967296 ^ k:=by rw[TE,Tj]
    obtain⟨c',acc',e1,e2,e3⟩:=uF k (a/4294967296) ((2*(a%4294967296)+c)/4294967296) (i+1) (acc++[(((2*(a%4294967296)+c)%4294967296:Nat):Int)]) g3 (by omega) (by simp[h3]) (by omega) (by omega) M (by omega)
    refine⟨c',acc',?_,?_,e3⟩
    have hlim:lim (acc++[(((2*(a%4294967296)+c)%4294967296:Nat):Int)]).length=true:=jH (by rw[S5,h3,TC]; omega)
    rw[bO (s':=((((2*(a%4294967296)+c)/4294967296:Nat):Int),acc++[(((2*(a%4294967296)+c)%4294967296:Nat):Int)],((i+1:Nat):Int))),e1];unfold sS
    dsimp only
    have hy:Vx ((Vx (2*((a%4294967296:Nat):Int)))+(c:Int))=((2*(a%4294967296)+c:Nat):Int):=by
     rw[aC (x:=2*((a%4294967296:Nat):Int)) (by omega) (by omega),aC (by omega) (by omega)]; omega
    rw[V3,ak g1,aw,SS,g2,ab,hy,ab,
     show Int.tmod ((2*(a%4294967296)+c:Nat):Int) 4294967296=(((2*(a%4294967296)+c)%4294967296:Nat):Int) from rfl,hlim,aw,
     show Int.tdiv ((2*(a%4294967296)+c:Nat):Int) 4294967296=(((2*(a%4294967296)+c)/4294967296:Nat):Int) from rfl,ab,aC (by omega) (by omega),aC (by omega) (by omega)]
    rfl
    rw[e2,gL a0,Tz,show dk ((Dg (a/4294967296)).length+1+1) (2*a+c)=(((2*a+c)%4294967296:Nat):Int)::dk ((Dg (a/4294967296)).length+1) ((2*a+c)/4294967296) from rfl,
     show(2*a+c)/4294967296=2*(a/4294967296)+(2*(a%4294967296)+c)/4294967296 by omega,
     show(2*a+c)%4294967296=(2*(a%4294967296)+c)%4294967296 by omega,Uk]
    rfl
def Kr(hn:2000000<n){a c:Nat}(ha:2*a+c<DM)(hc:c<=1):Gb n (Dg a) (c:Int)=some (Dg (2*a+c)):=by
 have hl:=iB (v:=a) (by omega)
 have hlt:=iL a;obtain⟨c',acc',e1,e2,e3⟩:=uF (n:=n) (l1:=Dg a) 20000 a c 0 [] rfl hc rfl (by decide) (SY hlt (Td (by decide) hl)) n (by omega)
 unfold Gb;rw[show(((c:Int)),([]:WB Int),(0:Int))=((c:Int),[],((0:Nat):Int)) from rfl,e1,ab]
 dsimp only
 rw[jH (by rw[S5,TC]; omega),aw,e2,Us,pW n (by rw[TE]; omega) (by omega) (by omega),ab]
def Md:∀(k v i:Nat),i<k->(dk k v)[i]? = some ((v/4294967296 ^ i%4294967296:Nat):Int)
 | k+1,v,0,_=>by rw[dk,UB,Nat.div_one]; rfl
 | k+1,v,i+1,h=>by rw[dk,TS,Md k _ i (by omega),TE,Tj,Ui]
def OU{d s:Nat}(hs:s<32):Int.tmod (Hr .i64 (d:Int) ((s:Int)).toNat) 2=((d/2 ^ s%2:Nat):Int):=by
 rw[SS];unfold Hr;rw[T3 (show s<=IntKind.i64.bits by show s<=64; omega),Int.fdiv_eq_ediv_of_nonneg _ (by exact Int.le_of_lt (Int.pow_pos (by decide)))]
 have:((d:Int)/2 ^ s)=((d/2 ^ s:Nat):Int):=by rw[Int.natCast_ediv]; norm_cast
 rw[this]
 rfl
def LN{s:Nat}(hs:s<32):Bz .i64 1 ((s:Int)).toNat=((2 ^ s:Nat):Int):=by
 rw[SS];have hp:2 ^ s<=2 ^ 31:=Td (by decide) (by omega)
 unfold Bz;rw[T3 (show s<=IntKind.i64.bits by show s<=64; omega),Int.one_mul,show((2:Int) ^ s)=((2 ^ s:Nat):Int) by norm_cast]
 generalize 2 ^ s=p at hp ⊢;exact aC (by omega) (by omega)
def DU{l1:WB Int}{a b d v y:Nat}{q:WB Int}(h0:b≠0)(hb:2*b<DM)(hn:2000000<n)(hy:y<1000000)(hv:v<y)(hq:q.length=y)(hd:d<4294967296)(hl:l1[v]? = some (d:Int))(hlv:v<l1.length) :
  ∀(s:Nat),s<=32->∀x:Nat,x+a/b*4294967296=(a*2 ^ (32-s)+d/2 ^ s)/b*2 ^ s->x+2 ^ s<=4294967296->∀M,s<M ->
   ∃x':Nat,bH (pQ n (v:Int) l1 (Dg b) (y:Int)) M (q.set v (x:Int),Dg ((a*2 ^ (32-s)+d/2 ^ s)%b),(s:Int)-1)=some (q.set v (x':Int),Dg ((a*4294967296+d)%b))/\x'+a/b*4294967296=(a*4294967296+d)/b/\x'<4294967296
 | 0,_,x,h1,h2,M+1,_=>by
  refine⟨x,?_,?_,by simp at h2; omega⟩
  rw[show a*2 ^ (32-0)+d/2 ^ 0=a*4294967296+d by simp]
  refine bL ?_;unfold pQ
  dsimp only
  rw[V4]
  simpa using h1
 | s+1,hs,x,h1,h2,M+1,hM=>by
  have hp:2 ^ (s+1)=2*2 ^ s:=by rw[TE,Tj]
  have h7:2 ^ (32-s)=2*2 ^ (32-(s+1)):=by rw[show 32-s=32-(s+1)+1 by omega,TE,Tj]
  have hD:a*2 ^ (32-s)+d/2 ^ s=2*(a*2 ^ (32-(s+1))+d/2 ^ (s+1))+d/2 ^ s%2:=by
   rw[h7,TE,<-Ui];have:a*(2*2 ^ (32-(s+1)))=2*(a*2 ^ (32-(s+1))):=by simp only[Tj,Ts]
   rw[this]; omega
  generalize hE:a*2 ^ (32-(s+1))+d/2 ^ (s+1)=E at *;generalize hE':a*2 ^ (32-s)+d/2 ^ s=E' at *;generalize hw:d/2 ^ s%2=w at *;have h8:w<=1:=by omega
  have hr:E%b<b:=TN _ (Tg h0);obtain⟨r,f1,f2,f0⟩:=wY (n:=n) (a:=2*(E%b)+w) (b:=b) (by omega) (by omega) (by omega)
  have hEd:=Ur E b;have hst:∃c:Nat,E'/b=2*(E/b)+c/\c<=1/\pQ n (v:Int) l1 (Dg b) (y:Int) (q.set v (x:Int),Dg (E%b),((s+1:Nat):Int)-1)=some (.inl (q.set v ((x+c*2 ^ s:Nat):Int),Dg (E'%b),(s:Int)-1)):=by
   have hbr:∃c:Nat,E'/b=2*(E/b)+c/\c<=1/\(br (decide (0<=r)) (ob (ue n (Dg (2*(E%b)+w)) (Dg b)) fun l2=>gd (bG (v:Int) (y:Int).toNat) (ob ((q.set v (x:Int))[((v:Nat):Int).toNat]?) fun x3=>gd (bG (v:Int) (y:Int).toNat) (some (((q.set v (x:Int)).set ((v:Nat):Int).toNat (Vx (x3+(Bz .i64 1 (s:Int).toNat)))),l2)))) (some (q.set v (x:Int),Dg (2*(E%b)+w))))=some (q.set v ((x+c*2 ^ s:Nat):Int),Dg (E'%b)):=by
    have hbE:b*(2*(E/b))=2*(b*(E/b)):=Ts _ _ _
    by_cases c:2*(E%b)+w<b
    have h5:E'/b=2*(E/b):=by
     rw[show E'=2*(E%b)+w+b*(2*(E/b)) by omega,Nat.add_mul_div_left _ _ (Tg h0),Uq c,TM]
    have h6:E'%b=2*(E%b)+w:=by
     rw[show E'=2*(E%b)+w+b*(2*(E/b)) by omega,Nat.add_mul_mod_self_left,TA c]
    refine⟨0,h5,by omega,?_⟩
    rw[aD (by have:=f0.2 c; omega),h6,UA,TP]
    have h5:E'/b=2*(E/b)+1:=by
     rw[show E'=(2*(E%b)+w-b)+b*(2*(E/b)+1) by rw[Uf,hbE]; omega,Nat.add_mul_div_left _ _ (Tg h0),Uq (by omega),TM]
    have h6:E'%b=2*(E%b)+w-b:=by
     rw[show E'=(2*(E%b)+w-b)+b*(2*(E/b)+1) by rw[Uf,hbE]; omega,Nat.add_mul_mod_self_left,TA (by omega)]
    refine⟨1,h5,by omega,?_⟩
    have h9:¬r<0:=fun h=>c (f0.1 h);rw[V3,q9 n (by omega) (by omega) (by omega),ab,SS,SS,ak hv,aw,Ub (by omega),ab,aw,List.set_set,LN (by omega),aC (by omega) (by omega),h6,Nat.one_mul]
    norm_cast
   obtain⟨c,k1,k2,k0⟩:=hbr;refine⟨c,k1,k2,?_⟩;unfold pQ
   dsimp only
   rw[show((s+1:Nat):Int)-1=(s:Int) by omega,V3,ak hlv,aw,SS (n:=v),hl,ab,OU (by omega),hw,Kr hn (by omega) h8,ab,f1,ab]
   rw[SS (n:=v)] at k0;rw[k0,ab]
   dsimp only
   rw[aC (by omega) (by omega)]
  obtain⟨c,k1,k2,k0⟩:=hst;have hc:c*2 ^ s<=2 ^ s:=by
   have:=T2 (2 ^ s) k2;omega
  have hx:x+c*2 ^ s+a/b*4294967296=E'/b*2 ^ s:=by
   rw[k1,TI];have:2*(E/b)*2 ^ s=E/b*2 ^ (s+1):=by rw[hp]; simp only[Ty,Tj,Ts]
   omega
  obtain⟨x',e1,e2,e0⟩:=DU h0 hb hn hy hv hq hd hl hlv s (by omega) (x+c*2 ^ s) (by rw[hE']; exact hx) (by omega) M (by omega)
  rw[hE'] at e1;exact⟨x',by rw[bO k0,e1],e2,e0⟩
def La{q:WB Int}{y c:Nat}(h:q.length=y)(h':∀i,i<y->q[i]? = some ((c/4294967296 ^ i%4294967296:Nat):Int)):q=dk y c:=by
 apply Uy;intro i
 by_cases hi:i<y
 rw[h' i hi,Md y c i hi]
 rw[TL (by omega),TL (by rw[xN]; omega)]
def SO:(2:Nat) ^ 32=4294967296:=by decide +kernel
def HJ{a b y:Nat}(hb0:b≠0)(hb:2*b<DM)(hn:2000000<n)(hy:y<1000000)(hyl:y<=(Dg a).length) :
  ∀(v:Nat),v<=y->∀q:WB Int,q.length=y->(∀i,v<=i->i<y->q[i]? = some ((a/b/4294967296 ^ i%4294967296:Nat):Int))->(∀i,i<v->q[i]? = some 0)->∀M,v<M ->
   bH (si n (Dg a) (Dg b) (y:Int)) M (q,Dg (a/4294967296 ^ v%b),(v:Int)-1)=some (dk y (a/b),Dg (a%b)):=by
 intro v
 induction v with
 | zero =>
  intro _ q h1 h2 _ M hM;obtain⟨M,rfl⟩:∃k,M=k+1:=⟨M-1,by omega⟩
  rw[UB,Nat.div_one,bL (r:=(q,Dg (a%b))),La h1 fun i hi=>h2 i (Uw _) hi];unfold si
  dsimp only
  rw[V4]
 | succ v ih =>
  intro hv q h1 h2 h3 M hM;obtain⟨M,rfl⟩:∃k,M=k+1:=⟨M-1,by omega⟩
  have hd:=TN (a/4294967296 ^ v) (show 0<4294967296 by decide)
  have hA:a/4294967296 ^ (v+1)*4294967296+a/4294967296 ^ v%4294967296=a/4294967296 ^ v:=by
   rw[TE,<-Ui]; omega
  have h32:(2:Nat) ^ 32=4294967296:=SO;have hd':a/4294967296 ^ v%4294967296<2 ^ 32:=by rw[h32]; exact hd
  have h0':0+2 ^ 32<=4294967296:=by rw[h32,TM]; exact SX _
  have hq:q.set v ((0:Nat):Int)=q:=by
   apply Uy;intro i
   by_cases e:i=v
   subst e; rw[Ub (by omega),h3 i (by omega)]; rfl
   rw[Uc (Ne.symm e)]
  have hin:=DU (n:=n) (l1:=Dg a) (a:=a/4294967296 ^ (v+1)) (b:=b) (d:=a/4294967296 ^ v%4294967296) (v:=v) (y:=y) (q:=q) hb0 hb hn hy (by omega) h1 hd (sE v a (by omega)) (by omega) 32 (SX _) 0 (by rw[Uq hd',UE,UB,U9,TM,h32,TP (a/4294967296 ^ (v+1))]) h0' n (by omega)
  rw[Uq hd',UE,UB,U9,TP,hq,hA] at hin;obtain⟨x,e1,e2,e3⟩:=hin;have hx:a/b/4294967296 ^ v%4294967296=x:=by
   rw[Ui,Tj b,<-Ui,<-e2]; omega
  rw[bO (s':=(q.set v (x:Int),Dg (a/4294967296 ^ v%b),(v:Int)-1)),ih (by omega) _ (by rw[TQ]; exact h1) (fun i g1 g2=>?_) (fun i g=>?_) M (by omega)]
  by_cases e:i=v
  subst e; rw[Ub (by omega),hx]
  rw[Uc (Ne.symm e),h2 i (by omega) g2]
  rw[Uc (by omega),h3 i (by omega)]
  unfold si
  dsimp only
  rw[show((v+1:Nat):Int)-1=(v:Int) by omega,V3]
  rw[show((32:Nat):Int)-1=31 from rfl] at e1
  rw[e1,ab]
  dsimp only
  rw[aC (by omega) (by omega)]
def DG(hn:2000000<n){a b:Nat}(ha:a<DM)(hb0:b≠0)(hb:2*b<DM):E2 n (Dg a) (Dg b)=some (Dg (a/b),Dg (a%b)):=by
 have hla:=iB ha;have hlb:=iB (v:=b) (by omega)
 have hl0:0<(Dg b).length:=US.2 fun c=>hb0 (nU.1 c);have hge:=L9 hb0;have hw:Vx (((Dg b).length:Int)-1)=(((Dg b).length-1:Nat):Int):=by rw[aC (by omega) (by omega)]; omega
 unfold E2;rw[hw]
 by_cases c:(Dg a).length<=(Dg b).length-1
 have hlt:=iL a;have:(4294967296:Nat) ^ (Dg a).length<=4294967296 ^ ((Dg b).length-1):=Td (by decide) c
 rw[V3,Us,jH (by omega),aw,Uq (by omega),TA (by omega),fW]
 have hy:Vx (((Dg a).length:Int)-(((Dg b).length-1:Nat):Int))=(((Dg a).length-((Dg b).length-1):Nat):Int):=by rw[aC (by omega) (by omega)]; omega
 rw[V4,hy]
 generalize hY:(Dg a).length-((Dg b).length-1)=y at *;have htop:([]:WB Int)++(((Dg a).drop ((y:Nat):Int).toNat).take (((Dg a).length:Int).toNat-((y:Nat):Int).toNat))=Dg (a/4294967296 ^ y%b):=by
  have h1:(Dg (a/4294967296 ^ y)).length=(Dg b).length-1:=by rw[<-rl,UU]; omega
  have h2:=iL (a/4294967296 ^ y);rw[h1] at h2;rw[TA (by omega),Us,SS,SS,UG (by rw[UU]; omega),rl]
 have hq:a/b<4294967296 ^ y:=by
  rw[TZ (Tg hb0)];refine SY (iL a) ?_;rw[show(Dg a).length=y+((Dg b).length-1) by omega,Ut]
  exact T6 _ hge
 rw[ab,cg (by omega),jH (by omega),aw,ab,NS (by omega),aw,htop,jH (by have:=iB (v:=a/4294967296 ^ y%b) (by have:=TN (a/4294967296 ^ y) (Tg hb0); omega); omega),aw,SS,
  show Vx ((y:Int)-1)=(y:Int)-1 from aC (by omega) (by omega),
  HJ hb0 hb hn (by omega) (by omega) y (SX _) _ (by simp) (fun i g1 g2=>Tl g1 (by omega)) (fun i g=>by rw[TX,S7 g]) n (by omega),ab]
 dsimp only
 rw[pW n hq (by omega) (by omega),ab]
def uQ(hn:2000000<n):∀(m a b:Nat),a<DM->2*b<DM->b<m->bH (tB n) m (Dg a,Dg b)=some (Dg (Nat.gcd a b))
 | m+1,a,b,ha,hb,hm=>by
  by_cases h0:b=0
  subst h0;rw[Nat.gcd_zero_right,bL];unfold tB
  dsimp only
  rw[fW,aD (by simp)]
  have hl0:0<(Dg b).length:=US.2 fun c=>h0 (nU.1 c);have hr:=TN a (Tg h0);rw[bO (s':=(Dg b,Dg (a%b))),uQ hn m b (a%b) (by omega) (by omega) (by omega),Nat.gcd_comm a b,Nat.gcd_rec b a,Nat.gcd_comm]
  unfold tB
  dsimp only
  rw[V3,DG hn ha h0 hb,ab]
def CQ(hn:2000000<n){a b:Nat}(s t:Bool)(ha:a<DM)(hb:2*b<DM)(hbn:b<n):Fi n s (Dg a) t (Dg b)=some (false,Dg (Nat.gcd a b)):=by
 unfold Fi;rw[uQ hn n a b ha hb hbn,ab]
def CP(hn:2000000<n){a b:Nat}(ha:a<DM)(hb0:b≠0)(hb:2*b<DM):Fg n false (Dg a) false (Dg b)=some (false,Dg (a/b),false,Dg (a%b)):=by
 have h1:a/b<DM:=TT (Nat.div_le_self _ _) ha;have h2:=TN a (Tg hb0);unfold Fg;rw[DG hn ha hb0 hb,ab]
 dsimp only
 rw[show(!(false==false))=false from rfl,mc n h1 (by omega),ab]
 dsimp only
 rw[mc n (by omega) (by omega),ab]
 dsimp only
 rw[bB,ab]
def xU(hn:2000000<n){a b:Nat}(ha:a<DM)(hb0:b≠0)(hb:2*b<DM)(hbn:b<n):Ct n false (Dg a) false (Dg b)=some (false,Dg (dA b a).1,false,Dg (dA b a).2):=by
 have hg0:Nat.gcd a b≠0:=fun c=>hb0 (Nat.eq_zero_of_gcd_eq_zero_right c);have hgb:Nat.gcd a b<=b:=Nat.gcd_le_right _ (Tg hb0);unfold Ct;rw[CQ hn _ _ ha hb hbn,ab]
 dsimp only
 rw[bB,ab]
 dsimp only
 rw[CP hn ha hg0 (by omega),ab]
 dsimp only
 rw[CP hn (by omega) hg0 (by omega),ab]
 rfl
def nC(hn:2000000<n){a b:Nat}(ha:a<DM)(hb:b<DM)(h:a*b<DM):Gj n false (Dg a) false (Dg b)=some (false,Dg (a*b)):=by
 unfold Gj;rw[KY n h ha hb (by omega),ab,show(!(false==false))=false from rfl,mc n h (by omega),ab]
structure Bd(B n:Nat):Prop where
 dq:B*B*4<DM
 wq:B*B*2<wp 7900
 nq:B*B*2<n
 ns:10000000<n
 one:18446744073709551616<B
def Bd.mul{B n:Nat}(h:Bd B n){a b:Nat}(ha:a<=B)(hb:b<=B):a*b<=B*B:=T0 ha hb
def Bd.sq{B n:Nat}(h:Bd B n):B<=B*B:=Nat.le_mul_of_pos_left B (by have:=h.one; omega)
def Lc{B:Nat}(hB:Bd B n){p q r s:Nat}(hp:p<=B)(hq:q<=B)(hr:r<=B)(hs:s<=B)(hq0:q≠0)(hs0:s≠0) :
  BT n false (Dg p) false (Dg q) false (Dg r) false (Dg s)=some (false,Dg (dA (q*s) (p*s+r*q)).1,false,Dg (dA (q*s) (p*s+r*q)).2):=by
 have h1:=hB.mul hp hs;have h2:=hB.mul hr hq;have h3:=hB.mul hq hs;have h4:=hB.sq;have h5:=hB.dq;have h6:=hB.nq;have h7:=hB.ns;unfold BT;rw[nC (by omega) (by omega) (by omega) (by omega),ab]
 dsimp only
 rw[nC (by omega) (by omega) (by omega) (by omega),ab]
 dsimp only
 rw[JH n (by omega) (by omega),ab]
 dsimp only
 rw[nC (by omega) (by omega) (by omega) (by omega),ab]
 dsimp only
 rw[xU (by omega) (by omega) (TU hq0 hs0) (by omega) (by omega),ab]
def zv(w:WB Nat):Int:=if vl w<2 ^ 511 then(vl w:Int) else(vl w:Int)-2 ^ 512
def Of{q:WB Nat}(h:q.length=8):∃a b c d e f g i,q=[a,b,c,d,e,f,g,i]:=by
 match q,h with
 | [a,b,c,d,e,f,g,i],_=>exact⟨a,b,c,d,e,f,g,i,rfl⟩
def Q6:wp 8=2 ^ 512:=by unfold wp; decide +kernel
def Rf{w:WB Nat}(h:Wd w)(h8:w.length=8):vl w<2 ^ 512:=by have:=jy h; rw[h8,Q6] at this; exact this
def nh{w:WB Nat}(h:Wd w)(h8:w.length=8):(zv w).natAbs<=2 ^ 511:=by
 have:=Rf h h8;unfold zv
 split<;>omega
def wR{a b c d e f g i:Nat}(h:Wd [a,b,c,d,e,f,g,i]):(vl [a,b,c,d,e,f,g,i]<2 ^ 511↔i<9223372036854775808)/\i<18446744073709551616:=by
 have h1:=h a (by simp)
 have h2:=h b (by simp)
 have h3:=h c (by simp)
 have h4:=h d (by simp)
 have h5:=h e (by simp)
 have h6:=h f (by simp)
 have h7:=h g (by simp)
 have h8:=h i (by simp)
 refine⟨?_,h8⟩;simp only[vl];omega
def Hb(hn:8<n){k:WB Nat}(hk:Wd k)(h8:k.length=8):∀j i m p c,i+j=8->j<m->p.length=i->Wd p->c<=1->vl p+vl k=wp i*(c+vl (k.drop i)) ->
  ∃q c',bH (px n) m (p++List.replicate j 0,k,c,((i:Nat):Int))=some (q,c')/\q.length=8/\Wd q/\c'<=1/\vl q+vl k=wp 8*c':=by
 intro j
 induction j with
 | zero =>
  intro i m p c hij hm hp hw hc hv;obtain⟨m,rfl⟩:∃m',m=m'+1:=⟨m-1,by omega⟩
  have hi:i=8:=by omega
  subst hi;refine⟨p,c,bL ?_,hp,hw,hc,?_⟩
  unfold px
  dsimp only
  rw[V4,List.replicate_zero,T8]
  rw[hv,UR (by omega),gN,TP]
 | succ j ih =>
  intro i m p c hij hm hp hw hc hv;obtain⟨m,rfl⟩:∃m',m=m'+1:=⟨m-1,by omega⟩
  obtain⟨y,e2⟩:∃y,k[i]? = some y:=⟨_,SU (by omega)⟩
  have hy:=hk.at e2;have e3:(p++List.replicate (j+1) 0)[i]? = some 0:=by
   rw[Tu (by omega),TX]; simp; omega
  have hi8:bG ((i:Nat):Int) 8=true:=ak (by omega)
  have st:px n (p++List.replicate (j+1) 0,k,c,((i:Nat):Int))=some (.inl ((p++[(0+18446744073709551616-y-c)%18446744073709551616])++List.replicate j 0,k,if 0<y+c then 1 else 0,((i+1:Nat):Int))):=by
   unfold px
   dsimp only
   rw[V3,hi8,aw,SS,e3,ab,aw,e2,ab]
   unfold Ji;rw[cg hc,ab]
   dsimp only
   rw[aw,V5,<-hp,Uh,rA]
  rw[bO st];refine ih (i+1) m _ _ (by omega) (by omega) (by rw[S5,hp]; rfl) (hw.app (Wd.one (TN _ (by decide)))) (by split<;>omega) ?_
  rw[jM e2] at hv;rw[om,hp,gU];have h2:(0+18446744073709551616-y-c)%18446744073709551616+y+c=18446744073709551616*(if 0<y+c then 1 else 0):=by split<;>omega
  generalize(0+18446744073709551616-y-c)%18446744073709551616=lo at h2 ⊢;generalize(if 0<y+c then 1 else 0)=hi' at h2 ⊢
  generalize vl (k.drop (i+1))=A at hv ⊢;have h3:wp i*(lo+y+c)=wp i*(18446744073709551616*hi'):=by rw[h2]
  simp only[Uf,Ts (wp i) 18446744073709551616,Ty] at hv h3 ⊢;omega
def DO(hn:1000<n){a b c d e f g i:Nat}(hw:Wd [a,b,c,d,e,f,g,i]):∃t l,L1 n a b c d e f g i=some (t,l)/\Lg (zv [a,b,c,d,e,f,g,i]) t l:=by
 obtain⟨hb,hi⟩:=wR hw
 by_cases h:i<9223372036854775808
 obtain⟨t,l,f1,f2⟩:=fc (n:=n) false hw (by simp) (by simp; omega)
 refine⟨t,l,?_,?_⟩
 unfold L1 Gk;rw[aD (show ¬cG .u64 i 63=1 by rw[show cG .u64 i 63=i/9223372036854775808 from rfl]; omega),Ta (show ¬cG .u64 i 63=1 by rw[show cG .u64 i 63=i/9223372036854775808 from rfl]; omega),ab]
 dsimp only
 rw[ab]
 show gd (lim [a,b,c,d,e,f,g,i].length) (ob (mG n false [a,b,c,d,e,f,g,i]) _)=_
 rw[show lim [a,b,c,d,e,f,g,i].length=true from rfl,aw,f1,ab]
 unfold zv;rw[S7 (hb.2 h)];exact f2
 obtain⟨q,c',g1,g2,g3,g4,g5⟩:=Hb (n:=n) (by omega) hw rfl 8 0 n [] 0 rfl (by omega) rfl Wd.nil (by decide) (by simp[vl,wp])
 obtain⟨y1,y2,y3,y4,y5,y6,y7,y8,rfl⟩:=Of g2;have hv:¬vl [a,b,c,d,e,f,g,i]<2 ^ 511:=fun k=>h (hb.1 k);have hq:=Rf g3 g2;rw[Q6] at g5;have hc:c'=1:=by
  rcases Nat.le_one_iff_eq_zero_or_eq_one.1 g4 with e|e
  rw[e] at g5; omega
  exact e
 subst hc;obtain⟨t,l,f1,f2⟩:=fc (n:=n) true g3 (by simp) (by simp; omega)
 refine⟨t,l,?_,?_⟩
 unfold L1 Gk;have h1:cG .u64 i 63=1:=by rw[show cG .u64 i 63=i/9223372036854775808 from rfl]; omega
 rw[ay h1,S4 h1];unfold Js;rw[show(([0,0,0,0,0,0,0,0]:WB Nat),[a,b,c,d,e,f,g,i],0,(0:Int))=(([]:WB Nat)++List.replicate 8 0,[a,b,c,d,e,f,g,i],0,((0:Nat):Int)) from rfl,g1,ab]
 dsimp only
 rw[show KV [y1,y2,y3,y4,y5,y6,y7,y8]=some (y1,y2,y3,y4,y5,y6,y7,y8) from rfl,ab]
 dsimp only
 rw[ab]
 dsimp only
 rw[ab]
 dsimp only
 rw[ab]
 show gd (lim [y1,y2,y3,y4,y5,y6,y7,y8].length) (ob (mG n true [y1,y2,y3,y4,y5,y6,y7,y8]) _)=_
 rw[show lim [y1,y2,y3,y4,y5,y6,y7,y8].length=true from rfl,aw,f1,ab]
 unfold zv;rw[S8 hv];have:(vl [a,b,c,d,e,f,g,i]:Int)-2 ^ 512=tU true (vl [y1,y2,y3,y4,y5,y6,y7,y8]):=by
  unfold tU;rw[S7 rfl];omega
 rw[this];exact f2
def nW(x:Sh):WB Nat:=let(a,b,c,d,e,f,g,i,_):=x; [a,b,c,d,e,f,g,i]
def dW(x:Sh):WB Nat:=let(_,_,_,_,_,_,_,_,a,b,c,d,e,f,g,i):=x; [a,b,c,d,e,f,g,i]
def WS(x:Sh):Prop:=Wd (nW x)/\Wd (dW x)
def BA(x:Sh):Bool:=decide (0<zv (dW x))&&decide (Nat.gcd (zv (nW x)).natAbs (zv (dW x)).natAbs=1)
def ye(hn:1000<n){a b c d e f g i a' b' c' d' e' f' g' i':Nat}(h:WS (a,b,c,d,e,f,g,i,a',b',c',d',e',f',g',i')):∃s l t k,Im n a b c d e f g i a' b' c' d' e' f' g' i'=some (s,l,t,k)/\Lg (zv [a,b,c,d,e,f,g,i]) s l/\Lg (zv [a',b',c',d',e',f',g',i']) t k:=by
 obtain⟨s,l,f1,f2⟩:=DO hn h.1;obtain⟨t,k,f3,f4⟩:=DO hn h.2;refine⟨s,l,t,k,?_,f2,f4⟩;unfold Im;rw[f1,ab]
 dsimp only
 rw[f3,ab]
def R7:(2:Nat) ^ 511<wp 8:=by rw[Q6]; decide +kernel
def yG(hn:2 ^ 600<n){a b c d e f g i a' b' c' d' e' f' g' i':Nat}(h:WS (a,b,c,d,e,f,g,i,a',b',c',d',e',f',g',i')) :
  EL n a b c d e f g i a' b' c' d' e' f' g' i'=some (if BA (a,b,c,d,e,f,g,i,a',b',c',d',e',f',g',i') then 0 else 20):=by
 obtain⟨s,l,t,k,f1,f2,f3⟩:=ye (n:=n) (by omega) h
 obtain⟨r,r1,r2,r3⟩:=nA (n:=n) f3;have a1:=nh h.1 rfl;have a2:=nh h.2 rfl;have w8:=R7;have l1:=f2.nV (k:=8) (TT a1 w8);have l2:=f3.nV (k:=8) (TT a2 w8);have b6:(2:Nat) ^ 511<2 ^ 600:=by decide +kernel
 unfold EL BA;rw[qV (by omega),ab]
 dsimp only
 rw[f1,ab]
 dsimp only
 rw[r1,ab]
 show ob (br _ _ _) _=some (if(decide (0<zv [a',b',c',d',e',f',g',i'])&&decide (Nat.gcd (zv [a,b,c,d,e,f,g,i]).natAbs (zv [a',b',c',d',e',f',g',i']).natAbs=1))=true then 0 else 20)
 change(zv [a,b,c,d,e,f,g,i]).natAbs<=_ at a1
 change(zv [a',b',c',d',e',f',g',i']).natAbs<=_ at a2
 generalize zv [a,b,c,d,e,f,g,i]=x at *;generalize zv [a',b',c',d',e',f',g',i']=y at *
 by_cases c1:0<y
 obtain⟨g',g1,g2⟩:=yH (n:=n) f2 f3 (by omega) (by omega) (by omega) (by omega)
 rw[V4,g1,ab]
 dsimp only
 obtain⟨u,z,q1,q2⟩:=DC (n:=n) g2 (show Lg ((1:Nat):Int) false [1] from yj) (by
  refine TT (g2.nV (k:=8) (TT ?_ w8)) (by decide)
  rw[TJ];exact Tb (Nat.gcd_le_right _ (by omega)) a2) (by decide) (by
  have:=g2.nV (k:=8) (TT (by rw[TJ]; exact Tb (Nat.gcd_le_right _ (by omega)) a2) w8)
  simp only[TC];omega)
 obtain⟨v,v1,v2,v3⟩:=nA (n:=n) q2;unfold FE;rw[q1,ab]
 dsimp only
 rw[v1,ab,ab,S4 c1,Bool.true_and,ab]
 by_cases c2:Nat.gcd x.natAbs y.natAbs=1
 rw[S4 c2,S7 rfl,S4 (show v=0 from v3.2 (by omega))]; rfl
 rw[Ta c2,S8 (by decide),Ta (show ¬v=0 from fun h=>c2 (by have:=v3.1 h; omega))]; rfl
 rw[ay (show r<=0 by omega),ab,Ta c1,Bool.false_and,S8 (by decide)]; rfl
def N1:∀(k v:Nat),dk (k+2) v=((v%4294967296:Nat):Int)::((v/4294967296%4294967296:Nat):Int)::dk k (v/18446744073709551616)
 | k,v=>by rw[dk,dk,Ui]
def hw(x:Nat):WB Int:=[Vx ((x%4294967296:Nat):Int),Vx ((uw .u64 (x/4294967296):Nat):Int)]
def L4:∀l:WB Nat,Wd l->l.flatMap hw=dk (2*l.length) (vl l)
 | [],_=>rfl
 | x::l,hl=>by
  have hx:=hl x (by simp)
  have p1:Vx ((x%4294967296:Nat):Int)=((x%4294967296:Nat):Int):=aC (by omega) (by omega)
  have p2:Vx ((uw .u64 (x/4294967296):Nat):Int)=((x/4294967296:Nat):Int):=by rw[iw (by omega),aC (by omega) (by omega)]
  have e1:(x+18446744073709551616*vl l)%4294967296=x%4294967296:=by omega
  have e2:(x+18446744073709551616*vl l)/4294967296%4294967296=x/4294967296:=by omega
  have e3:(x+18446744073709551616*vl l)/18446744073709551616=vl l:=by omega
  rw[List.flatMap_cons,L4 l fun y hy=>hl y (by simp[hy]),Tz,show 2*(l.length+1)=2*l.length+2 by omega,N1,dz,e1,e2,e3]
  unfold hw;rw[p1,p2]; rfl
def Iw(hn:1000<n){a b c d e f g i:Nat}(h:Wd [a,b,c,d,e,f,g,i]):Jj n a b c d e f g i=some (dk 16 (vl [a,b,c,d,e,f,g,i])):=by
 have hd:=L4 [a,b,c,d,e,f,g,i] h;unfold Jj;generalize hw8:[a,b,c,d,e,f,g,i]=w at *;have h8:w.length=8:=by rw[<-hw8]; rfl
 obtain⟨s,h1,h2⟩:=aR (body:=rH n) 8 (fun(s:WB Int) (v:Int)=>(w,s,v)) id (fun i s=>s=(w.take i).flatMap hw) (fun s i hi hq=>by
  obtain⟨x,e2⟩:∃x,w[i]? = some x:=⟨_,SU (by omega)⟩
  refine⟨s++hw x,?_,?_⟩
  ·have hl:(s++hw x).length=2*i+2:=by
    rw[S5,hq];have:∀l:WB Nat,(l.flatMap hw).length=2*l.length:=fun l=>by
     induction l with
     | nil=>rfl
     | cons y l ih=>rw[List.flatMap_cons,S5,ih,Tz]; show 2+_=_; omega
    rw[this,TW,T3 (by omega)]; rfl
   unfold rH
   dsimp only
   rw[V3,show bG ((i:Nat):Int) 8=true from ak hi,aw,SS,e2,ab,aw]
   show gd (lim (s++hw x).length) (some (.inl (w,s++hw x,_)):WA ((WB Nat×WB Int×Int)⊕WB Int))=_
   rw[jH (by omega),aw,V5]
  rw[List.take_add_one,e2,List.flatMap_append,hq]
  show _=_++(hw x++[])
  rw[T8]) (fun s _=>by
  unfold rH
  dsimp only
  rw[V4]; rfl) (n:=n) (s:=[]) (by simp) (by omega)
 rw[show(w,([]:WB Int),(0:Int))=(fun(s:WB Int) (v:Int)=>(w,s,v)) [] 0 from rfl,h1,ab]
 rw[h2,UG (by omega),hd,h8]; rfl
def MZ:(4294967296:Nat) ^ 16=2 ^ 512:=by decide +kernel
def zf:(2:Nat) ^ 512*4<DM:=by
 rw[zQ];exact SY (show(2:Nat) ^ 512*4<4294967296 ^ 17 by decide +kernel) (Td (n:=4294967296) (by decide) (show 17<=20000 by decide))
def F9:(List.replicate (17:Int).toNat (0:Int)).set ((16:Int).toNat) 1=Dg (2 ^ 512):=by
 have h1:=qi 17 (2 ^ 512) (by rw[<-MZ]; exact UD (by decide) (by decide))
 have h2:¬(Dg (2 ^ 512)).length<=16:=fun c=>by
  have:=SY (iL (2 ^ 512)) (Td (n:=4294967296) (by decide) c)
  rw[MZ] at this;exact Nat.lt_irrefl _ this
 rw[show 17-(Dg (2 ^ 512)).length=0 by omega,List.replicate_zero,T8] at h1
 exact Eq.trans (by decide +kernel) h1
def kM(hn:2000000<n){a b c d e f g i:Nat}(hw:Wd [a,b,c,d,e,f,g,i]):LU n a b c d e f g i=some (decide (zv [a,b,c,d,e,f,g,i]<0),Dg (zv [a,b,c,d,e,f,g,i]).natAbs):=by
 obtain⟨hb,hi⟩:=wR hw;have h5:=Rf hw rfl;have hd:=zf;unfold LU zv;rw[Iw (by omega) hw,ab]
 generalize vl [a,b,c,d,e,f,g,i]=v at *;have hcut:=pW n (k:=16) (v:=v) (by rw[MZ]; exact h5) (by decide) (by omega)
 by_cases h:i<9223372036854775808
 rw[ay h,AX n hcut,ab,S7 (hb.2 h),Ta (by omega),TJ]
 have hv:¬v<2 ^ 511:=fun k=>h (hb.1 k);rw[aD h,cg (by decide),jH (by decide),aw,show bG 16 ((17:Int).toNat)=true from rfl,aw,show(List.replicate (17:Int).toNat (0:Int))[(16:Int).toNat]? = some 0 from rfl,ab,hcut,ab,F9,q9 n (by omega) (by omega) (by omega),ab,sw n (by omega) (by omega) (by omega),ab,S8 hv,S4 (by omega)]
 dsimp only
 have e0:((v:Int)-2 ^ 512).natAbs=2 ^ 512-v:=by omega
 rw[e0]
def Ot:Dg 1=[1]:=zp (by decide) (by decide)
def LX(n g:Nat):G4 n false (Dg g)=some (decide (g=1)):=by
 unfold G4
 by_cases h:(Dg g).length=1
 have h0:g≠0:=fun c=>by subst c; rw[fW] at h; cases h
 have h1:g<4294967296:=by have:=iL g; rw[h] at this; simpa using this
 rw[zp h0 h1]
 show br (decide ((g:Int)=1)) _ _=_
 by_cases c:g=1
 rw[V3,S4 c]; rfl
 rw[V4,Ta c]
 rw[V4,Ta fun c=>h (by rw[c,Ot]; rfl)]
def Ig(hn:2 ^ 600<n){a b c d e f g i a' b' c' d' e' f' g' i':Nat}(h:WS (a,b,c,d,e,f,g,i,a',b',c',d',e',f',g',i')) :
  GL n a b c d e f g i a' b' c' d' e' f' g' i'=some (BA (a,b,c,d,e,f,g,i,a',b',c',d',e',f',g',i')):=by
 have a1:=nh h.1 rfl;have a2:=nh h.2 rfl;have b6:(2:Nat) ^ 511<2 ^ 600:=by decide +kernel
 have hd:=zf;have h6:2000000<n:=by omega
 unfold GL;rw[kM h6 h.1,ab]
 dsimp only
 rw[kM h6 h.2,ab]
 show br _ _ _=some (decide (0<zv [a',b',c',d',e',f',g',i'])&&decide (Nat.gcd (zv [a,b,c,d,e,f,g,i]).natAbs (zv [a',b',c',d',e',f',g',i']).natAbs=1))
 change(zv [a,b,c,d,e,f,g,i]).natAbs<=_ at a1
 change(zv [a',b',c',d',e',f',g',i']).natAbs<=_ at a2
 generalize zv [a,b,c,d,e,f,g,i]=x at *;generalize zv [a',b',c',d',e',f',g',i']=y at *
 by_cases c1:y<0
 rw[S4 c1,S9,bB,Ta (by omega),Bool.false_and]
 rw[Ta c1,To,bZ]
 by_cases c2:y=0
 subst c2;rw[show(0:Int).natAbs=0 from rfl,fW,aD (by simp)]
 rfl
 have hl:0<(Dg y.natAbs).length:=US.2 fun c=>by have:=nU.1 c; omega
 rw[S4 (show 0<y by omega),Bool.true_and,ay (show(0:Int)<((Dg y.natAbs).length:Int) by omega),CQ h6 _ _ (by omega) (by omega) (by omega),ab]
 dsimp only
 rw[LX,ab]
end
end Go.Proofs.YtpkadoocdgdcfaaGreatDoor
end
section
namespace Go.Proofs.YtpkadoocdgdcfaaGreatDoor
set_option maxRecDepth 100000
open Go Go.ChangeShapes Go.WideShapes Go.ChangeAt Go.WideMaps Go.WideElems Go.RowKit Go.Ab Go.Ab.W
abbrev Pe:Sh->WB Vs:=(eP (eN .u64) (eP (eN .u64) (eP (eN .u64) (eP (eN .u64) (eP (eN .u64) (eP (eN .u64) (eP (eN .u64) (eP (eN .u64) (eP (eN .u64) (eP (eN .u64) (eP (eN .u64) (eP (eN .u64) (eP (eN .u64) (eP (eN .u64) (eP (eN .u64) (eN .u64))))))))))))))))
def RI:Eb Tryz.prog 5 68=some (List.replicate 16 (.int .u64)):=by kernel_rfl
def Rw:Eb Tryz.prog 5 70=some (.int .u8::.int .u8::List.replicate 16 (.int .u64)):=by kernel_rfl
def QN:Eb Tryz.prog 5 72=some [.sl 68]:=by kernel_rfl
def RC:Tryz.prog.underlying 46=some (.slice 72):=by kernel_rfl
def Ry:Tryz.prog.underlying 72=some (.slice 68):=by kernel_rfl
def SI:Tryz.prog.underlying 3=some (.int .i64):=by kernel_rfl
section
variable{H:Type}{enc:Vt×Vs->H}{W:Vw}{sp:Nat->Bool}{held:Bool}{v:Vs}{d:DataW H}{p:WB MemPlace}{base:Nat}
theorem NF:∀(k:Nat) (r:WB Vs),All2 (oH enc Tryz.prog W 0 sp held) (List.replicate k (.int .u64)) r->∃ns:WB Nat,ns.length=k/\r=ns.map (fun x:Nat=>.int .u64 (x:Int))/\∀x∈ns,x<18446744073709551616
 | 0,r,h=>⟨[],rfl,oO h,fun x hx=>by cases hx⟩
 | k+1,r,h=>by
  obtain⟨v1,r,rfl,h1,h2⟩:=eK (show All2 (oH enc Tryz.prog W 0 sp held) (Lf.int .u64::List.replicate k (Lf.int .u64)) r from h)
  obtain⟨x,rfl,g⟩:=JR h1;obtain⟨ns,e1,rfl,e3⟩:=NF k r h2;exact⟨x::ns,by rw[Tz,e1],rfl,fun y hy=>by
   rcases Tt.1 hy with rfl|hy
   exact g
   exact e3 y hy⟩
theorem L2{q:WB Nat}(h:q.length=16):∃a b c d e f g i a' b' c' d' e' f' g' i',q=[a,b,c,d,e,f,g,i,a',b',c',d',e',f',g',i']:=by
 match q,h with
 | [a,b,c,d,e,f,g,i,a',b',c',d',e',f',g',i'],_=>exact⟨a,b,c,d,e,f,g,i,a',b',c',d',e',f',g',i',rfl⟩
theorem PR{a b c d e f g i a' b' c' d' e' f' g' i':Nat}(h:∀x∈[a,b,c,d,e,f,g,i,a',b',c',d',e',f',g',i'],x<18446744073709551616):WS (a,b,c,d,e,f,g,i,a',b',c',d',e',f',g',i'):=by
 refine⟨fun x hx=>h x ?_,fun x hx=>h x ?_⟩
 exact Uu [a',b',c',d',e',f',g',i'] hx
 exact List.mem_append_right [a,b,c,d,e,f,g,i] hx
theorem L6:∀(n:Nat) (cs:WB Vs) (x:DataW H×WB MemPlace),DataW.trod enc Tryz.prog W 0 sp held n 68 cs=some x->∃p:Sh,cs=Pe p/\WS p:=by
 intro n cs x h;obtain⟨ns,h1,rfl,h3⟩:=NF 16 _ (jV 5 68 _ RI n _ x h);obtain⟨a,b,c,d,e,f,g,i,a',b',c',d',e',f',g',i',rfl⟩:=L2 h1;exact⟨(a,b,c,d,e,f,g,i,a',b',c',d',e',f',g',i'),rfl,PR h3⟩
theorem Qg(hok:Value.okWide Tryz.prog W .any base 46 v)(hs:0<W.heap.size)(h:DataW.Trod enc Tryz.prog W 0 sp held 46 v d p):∃(l:WB (WB Sh)) (a:Vq) (c:Nat) (es:Vp),
  VR (dH W) (.slice a l.length c) v/\(∀row,row∈l->∀x,x∈row->WS x)/\Rd (dE W) a c 1 l.length es/\(ef (rS Pe 16) (fun b=>b<W.heap.size) l es).P (dE W):=by
 obtain⟨a0,n0,c0,rfl⟩:=okWide_slice RC hok;obtain⟨n,h⟩:=h;have h1:=jV 5 46 [.sl 72] (by kernel_rfl) n _ _ h
 obtain⟨v1,r,hr,h1,_⟩:=eK h1;cases hr;obtain⟨a,c,l,e1,_,e2,e3,_⟩:=we (α:=WB Sh ×(Vq×Nat)) (f:=fun p=>[.slice p.2.1 p.1.length p.2.2]) (R:=fun p=>Rd (dE W) p.2.1 p.2.2 16 p.1.length (p.1.map Pe)/\(∀b,dx p.2.1=some b->b<W.heap.size)/\∀x,x∈p.1->WS x) (w:=1) (by kernel_rfl) (by omega) hs (fun n cs x hx=>by
  obtain⟨v2,cs,rfl,h2,h3⟩:=eK (jV 5 72 _ QN n _ x hx);obtain rfl:=oO h3;obtain⟨a,c,l,g1,g2,g3,g4,_⟩:=we (α:=Sh) (f:=Pe) (R:=WS) (w:=16) (by kernel_rfl) (by omega) hs (fun n cs x hx=>by
   obtain⟨q,rfl,hq⟩:=L6 n cs x hx;refine⟨q,?_,hq⟩;obtain⟨a,b,c,d,e,f,g,i,a',b',c',d',e',f',g',i'⟩:=q
   show[Ab.seen _ (.int .u64 (a:Int)),Ab.seen _ (.int .u64 (b:Int)),Ab.seen _ (.int .u64 (c:Int)),Ab.seen _ (.int .u64 (d:Int)),Ab.seen _ (.int .u64 (e:Int)),Ab.seen _ (.int .u64 (f:Int)),Ab.seen _ (.int .u64 (g:Int)),Ab.seen _ (.int .u64 (i:Int)),Ab.seen _ (.int .u64 (a':Int)),Ab.seen _ (.int .u64 (b':Int)),Ab.seen _ (.int .u64 (c':Int)),Ab.seen _ (.int .u64 (d':Int)),Ab.seen _ (.int .u64 (e':Int)),Ab.seen _ (.int .u64 (f':Int)),Ab.seen _ (.int .u64 (g':Int)),Ab.seen _ (.int .u64 (i':Int))]=_
   simp only[nD (show aL (.int _ _)=true from rfl)]
   rfl) h2
  exact⟨(l,a,c),by show[Ab.seen _ _]=_; rw[g1],g3,g2,g4⟩) h1
 refine⟨l.map Prod.fst,a,c,l.map fun p=>[.slice p.2.1 p.1.length p.2.2],?_,fun row hr=>?_,?_,⟨?_,fun i x hi=>?_⟩,fun b hb=>hb⟩
 rw[Tw,<-e1]; exact xA _ _
 obtain⟨q,hq,rfl⟩:=UZ.1 hr;exact(e3 q hq).2.2
 rw[Tw]; exact e2
 rw[Tw,Tw]
 rw[Tn] at hi ⊢;obtain⟨q,hq,rfl⟩:=Uz.1 hi;have:=e3 q (Ti hq);exact⟨q.2,by rw[hq]; rfl,this.1,this.2.1⟩
theorem Pr(hok:Value.okWide Tryz.prog W .any base 72 v)(hs:0<W.heap.size)(h:DataW.Trod enc Tryz.prog W 0 sp held 72 v d p):∃(l:WB Sh) (a:Vq) (c:Nat),
  VR (dH W) (.slice a l.length c) v/\(∀x,x∈l->WS x)/\Rd (dE W) a c 16 l.length (l.map Pe):=by
 obtain⟨a0,n0,c0,rfl⟩:=okWide_slice Ry hok;obtain⟨n,h⟩:=h;obtain⟨v1,r,hr,h1,_⟩:=eK (jV 5 72 _ QN n _ _ h);cases hr;obtain⟨a,c,l,e1,e2,e3,_⟩:=Hw (f:=Pe) (w:=16) (by kernel_rfl) (by omega) hs (fun q=>rfl) L6 h1
 exact⟨l,a,c,e1,e3,e2⟩
theorem P1(hok:Value.okWide Tryz.prog W .any base 70 v)(h:DataW.Trod enc Tryz.prog W 0 sp held 70 v d p):∃(x1 x2 x3 x4 x5 x6 x7 x8 x9 x10 x11 x12 x13 x14 x15 x16 x17 x18:Nat),VR (dH W) (.agg #[.int .u8 ((x1:Nat):Int),.int .u8 ((x2:Nat):Int),.int .u64 ((x3:Nat):Int),.int .u64 ((x4:Nat):Int),.int .u64 ((x5:Nat):Int),.int .u64 ((x6:Nat):Int),.int .u64 ((x7:Nat):Int),.int .u64 ((x8:Nat):Int),.int .u64 ((x9:Nat):Int),.int .u64 ((x10:Nat):Int),.int .u64 ((x11:Nat):Int),.int .u64 ((x12:Nat):Int),.int .u64 ((x13:Nat):Int),.int .u64 ((x14:Nat):Int),.int .u64 ((x15:Nat):Int),.int .u64 ((x16:Nat):Int),.int .u64 ((x17:Nat):Int),.int .u64 ((x18:Nat):Int)]) v/\x2<256/\WS (x3,x4,x5,x6,x7,x8,x9,x10,x11,x12,x13,x14,x15,x16,x17,x18):=by
 obtain⟨cs,rfl,_⟩:=okWide_struct (t:=70) (fs:=Tryz.prog.underlying 70 |>.elim #[] fun u=>match u with|.struct fs=>fs|_=>#[]) (by kernel_rfl) hok
 obtain⟨n,h⟩:=h;obtain⟨v1,r,hr,h1,h⟩:=eK (sT Rw h);obtain⟨v2,r,rfl,h2,h⟩:=eK h;obtain⟨ns,e1,rfl,e3⟩:=NF 16 _ h;obtain⟨x3,x4,x5,x6,x7,x8,x9,x10,x11,x12,x13,x14,x15,x16,x17,x18,rfl⟩:=L2 e1;obtain⟨x1,rfl,g1⟩:=wL h1;obtain⟨x2,rfl,g2⟩:=wL h2;refine⟨x1,x2,x3,x4,x5,x6,x7,x8,x9,x10,x11,x12,x13,x14,x15,x16,x17,x18,?_,g2,PR e3⟩;refine Jk (l:=[.int .u8 ((x1:Nat):Int),.int .u8 ((x2:Nat):Int),.int .u64 ((x3:Nat):Int),.int .u64 ((x4:Nat):Int),.int .u64 ((x5:Nat):Int),.int .u64 ((x6:Nat):Int),.int .u64 ((x7:Nat):Int),.int .u64 ((x8:Nat):Int),.int .u64 ((x9:Nat):Int),.int .u64 ((x10:Nat):Int),.int .u64 ((x11:Nat):Int),.int .u64 ((x12:Nat):Int),.int .u64 ((x13:Nat):Int),.int .u64 ((x14:Nat):Int),.int .u64 ((x15:Nat):Int),.int .u64 ((x16:Nat):Int),.int .u64 ((x17:Nat):Int),.int .u64 ((x18:Nat):Int)]) ?_;rw[hr];exact LR.plain rfl
theorem RZ(hok:Value.okWide Tryz.prog W .any base 3 v)(h:DataW.Trod enc Tryz.prog W 0 sp held 3 v d p):∃n:Int,v=.int .i64 n:=by
 obtain⟨k,rfl⟩:=okWide_int SI hok;exact⟨k,rfl⟩
end
end Go.Proofs.YtpkadoocdgdcfaaGreatDoor
end
section
namespace Go.Proofs.YtpkadoocdgdcfaaGreatDoor
open Go Go.Ab Go.Ab.W
def vP(n:Nat)(l1:WB (WB WQ)):(WB (WB WQ)×Int)->WA ((WB (WB WQ)×Int) ⊕(WB (WB WQ))):=fun(l33,v36) =>
br (decide (v36<((V2 l1 4).length:Int))) (
gd (bG v36 ((V2 l1 4).length)) (
ob ((V2 l1 4)[v36.toNat]?) fun l67 =>
gd (okB 0 (mi (l67.length:Int) (4:Int)) l67.length) (
gd (lim (l33++([(V2 l67 4)]:WB (WB WQ))).length) (
some (.inl ((l33++([(V2 l67 4)]:WB (WB WQ))),Vx (v36+1))))))) (
some (.inr l33))
def Qq(n:Nat)(l1:WB (WB WQ)):WA (WB (WB WQ)) :=
gd (okB 0 (mi (l1.length:Int) (4:Int)) l1.length) (
ob (
bH (vP n l1) n (([]:WB (WB WQ)),0)) fun l60 =>
some l60)
def vp(n:Nat)(l19:WB (WB WQ)):(WB (WB WQ)×Int)->WA ((WB (WB WQ)×Int) ⊕(WB (WB WQ))):=fun(l50,v53) =>
br (decide (v53<(l19.length:Int))) (
gd (bG v53 l19.length) (
ob (l19[v53.toNat]?) fun l85 =>
ob (RJ n l85) fun l90 =>
gd (lim (l50++([l90]:WB (WB WQ))).length) (
some (.inl ((l50++([l90]:WB (WB WQ))),Vx (v53+1)))))) (
some (.inr l50))
def HS(n:Nat)(l3:WB WQ):(WB WQ×Int×Int)->WA ((WB WQ×Int×Int) ⊕(WB WQ)):=fun(l2,v0,v1) =>
br (decide (v0<v1)) (
gd (bG v1 l3.length) (
ob (l2[v1.toNat]?) fun(x3,x4,x5,x6,x7,x8,x9,x10,x11,x12,x14,x15,x16,x17,x18,x19) =>
gd (bG v0 l3.length) (
ob (l2[v0.toNat]?) fun(x20,x21,x22,x23,x24,x25,x26,x27,x28,x29,x30,x31,x32,x33,x34,x35) =>
gd (bG v0 l3.length) (
gd (bG v1 l3.length) (
ob ((l2.set v0.toNat (x3,x4,x5,x6,x7,x8,x9,x10,x11,x12,x14,x15,x16,x17,x18,x19))[v1.toNat]?) fun(x36,x37,x38,x39,x40,x41,x42,x43,x44,x45,x46,x47,x48,x49,x50,x51) =>
some (.inl (((l2.set v0.toNat (x3,x4,x5,x6,x7,x8,x9,x10,x11,x12,x14,x15,x16,x17,x18,x19)).set v1.toNat (x20,x21,x22,x23,x24,x25,x26,x27,x28,x29,x30,x31,x32,x33,x34,x35)),Vx (v0+1),Vx (v1-1)))))))) (
some (.inr l2))
def PY(n:Nat)(x1:Nat)(x2:Nat)(x3:Nat)(x4:Nat)(x5:Nat)(x6:Nat)(x7:Nat)(x8:Nat)(x9:Nat)(x10:Nat)(x11:Nat)(x12:Nat)(x13:Nat)(x14:Nat)(x15:Nat)(x16:Nat)(x17:Nat)(x18:Nat)(l9:WB (WB WQ)):WA (WB (WB WQ)) :=
ob (
bH (vp n l9) n (([]:WB (WB WQ)),0)) fun l2 =>
gd (decide ((l2.length:Int)≠0)) (
ob (
br (decide (x1%5=0)) (
gd (bG (Int.tmod (Vx ((x2:Nat):Int)) (l2.length:Int)) l2.length) (
ob (l2[(Int.tmod (Vx ((x2:Nat):Int)) (l2.length:Int)).toNat]?) fun l3 =>
gd (decide ((l2.length:Int)≠0)) (
ob (some (Int.tmod (Vx ((uw .u8 (x2/8):Nat):Int)) (l2.length:Int))) fun y2 =>
gd (bG y2 l3.length) (
ob (l3[y2.toNat]?) fun(x19,x20,x21,x22,x23,x24,x25,x26,x27,x28,x29,x30,x31,x32,x33,x34) =>
some (l2.length,(l2.set ((Int.tmod (Vx ((x2:Nat):Int)) (l2.length:Int)).toNat) (l3.set y2.toNat (x3,x4,x5,x6,x7,x8,x9,x10,x11,x12,x13,x14,x15,x16,x17,x18)))))))) (
br (decide (x1%5=1)) (
gd (bG (Int.tmod (Vx ((x2:Nat):Int)) (l2.length:Int)) l2.length) (
ob (l2[(Int.tmod (Vx ((x2:Nat):Int)) (l2.length:Int)).toNat]?) fun l8 =>
gd (lim (l8++[(x3,x4,x5,x6,x7,x8,x9,x10,x11,x12,x13,x14,x15,x16,x17,x18)]).length) (
gd (bG (Int.tmod (Vx ((x2:Nat):Int)) (l2.length:Int)) l2.length) (
some (l2.length,(l2.set ((Int.tmod (Vx ((x2:Nat):Int)) (l2.length:Int)).toNat) (l8++[(x3,x4,x5,x6,x7,x8,x9,x10,x11,x12,x13,x14,x15,x16,x17,x18)]))))))) (
br (decide (x1%5=2)) (
gd (bG 0 l2.length) (
ob (l2[Vy]?) fun l4 =>
gd (lim (l2++([l4]:WB (WB WQ))).length) (
some ((l2++([l4]:WB (WB WQ))).length,(l2++([l4]:WB (WB WQ))))))) (
br (decide (x1%5=3)) (
gd (bG (Int.tmod (Vx ((x2:Nat):Int)) (l2.length:Int)) l2.length) (
ob (l2[(Int.tmod (Vx ((x2:Nat):Int)) (l2.length:Int)).toNat]?) fun l7 =>
ob (
ob (
bH (HS n l7) n (l7,0,Vx ((l7.length:Int)-1))) fun l10 =>
some l10) fun l11 =>
some (l2.length,(l2.set ((Int.tmod (Vx ((x2:Nat):Int)) (l2.length:Int)).toNat) l11)))) (
some (l2.length,l2)))))) fun(n2,l12) =>
some l12)
def G8(n:Nat)(x1:Nat)(x2:Nat)(x3:Nat)(x4:Nat)(x5:Nat)(x6:Nat)(x7:Nat)(x8:Nat):WA Int :=
ob (LU n x1 x2 x3 x4 x5 x6 x7 x8) fun(r11,l12) =>
ob (Eu n r11 l12 false []) fun r17 =>
some r17
def nG(n:Nat)(l1:WB (WB WQ))(v1:Int):(WB (Bool)×Int)->WA ((WB (Bool)×Int) ⊕(WB (Bool))):=fun(l2,v0) =>
br (decide (v0<(l1.length:Int))) (
ob (
ob (
gd (bG v1 ((l1.length:Int).toNat)) (
ob (l2[v1.toNat]?) fun x3 =>
br (x3) (
gd (bG v1 l1.length) (
ob (l1[v1.toNat]?) fun l3 =>
gd (bG v0 l3.length) (
ob (l3[v0.toNat]?) fun(x4,x5,x6,x7,x8,x9,x10,x11,x12,x14,x15,x16,x17,x18,x19,x20) =>
ob (G8 n x4 x5 x6 x7 x8 x9 x10 x11) fun r0 =>
some (decide (0<r0))))) (
some false))) fun v2 =>
br (v2) (
gd (bG v0 ((l1.length:Int).toNat)) (
ob (l2[v0.toNat]?) fun x21 =>
some (l2.set v0.toNat true))) (
some l2)) fun l4 =>
some (.inl (l4,Vx (v0+1)))) (
some (.inr l2))
def pj(n:Nat)(l1:WB (WB WQ)):(WB (Bool)×Int)->WA ((WB (Bool)×Int) ⊕(WB (Bool))):=fun(l2,v0) =>
br (decide (v0<(l1.length:Int))) (
ob (
bH (nG n l1 v0) n (l2,0)) fun l3 =>
some (.inl (l3,Vx (v0+1)))) (
some (.inr l2))
def pH(n:Nat)(l1:WB (WB WQ)):(WB (Bool)×Int)->WA ((WB (Bool)×Int) ⊕(WB (Bool))):=fun(l2,v0) =>
br (decide (v0<(l1.length:Int))) (
ob (
bH (pj n l1) n (l2,0)) fun l3 =>
some (.inl (l3,Vx (v0+1)))) (
some (.inr l2))
def EZ(n:Nat)(l1:WB (WB WQ))(x3:Int)(x4:Int):WA Bool :=
gd (decide (0<=(l1.length:Int))) (gd (lim ((l1.length:Int).toNat)) (
gd (bG x3 ((l1.length:Int).toNat)) (
ob ((List.replicate (l1.length:Int).toNat (false:Bool))[x3.toNat]?) fun x6 =>
ob (
bH (pH n l1) n (((List.replicate (l1.length:Int).toNat (false:Bool)).set x3.toNat true),0)) fun l2 =>
gd (bG x4 ((l1.length:Int).toNat)) (
ob (l2[x4.toNat]?) fun x5 =>
some x5))))
def ph(n:Nat)(v1:Int)(l1:WB (WB WQ))(l2:WB (Int)):(Int×Int)->WA ((Int×Int)⊕Int):=fun(v2,v0) =>
br (decide (v0<v1)) (
ob (
ob (
br (decide (v2<0)) (
ob (EZ n l1 v1 v0) fun r0 =>
br (r0) (
ob (EZ n l1 v0 v1) fun r1 =>
some r1) (
some false)) (
some false)) fun v3 =>
br (v3) (
gd (bG v0 l2.length) (
ob (l2[v0.toNat]?) fun x3 =>
some x3)) (
some v2)) fun v4 =>
some (.inl (v4,Vx (v0+1)))) (
some (.inr v2))
def s9(n:Nat)(l1:WB (WB WQ)):(WB (Int)×Int×Int)->WA ((WB (Int)×Int×Int) ⊕(WB (Int))):=fun(l2,v0,v1) =>
br (decide (v1<(l1.length:Int))) (
ob (
bH (ph n v1 l1 l2) n (-1,0)) fun v2 =>
ob (
br (decide (v2<0)) (
some (Vx (v0+1),v0)) (
some (v0,v2))) fun(v4,v3) =>
gd (lim (l2++[v3]).length) (
some (.inl ((l2++[v3]),v4,Vx (v1+1))))) (
some (.inr l2))
def Oz(n:Nat)(l1:WB (WB WQ)):WA (WB Int×Int) :=
ob (Mm n l1) fun r0 =>
br (!r0) (
some ([],330)) (
ob (
bH (s9 n l1) n (([]:WB (Int)),0,0)) fun l2 =>
some (l2,0))
def yU(n:Nat)(l1:WB (Int))(l5:WB (Int)):Int->WA (Int⊕WC⊕WC):=fun v11 =>
br (decide (v11<(l1.length:Int))) (
gd (bG v11 l1.length) (
ob (l1[v11.toNat]?) fun x29 =>
gd (bG v11 l5.length) (
ob (l5[v11.toNat]?) fun x34 =>
br (!decide (x29=x34)) (
some (.inr (.inl ()))) (
some (.inl (Vx (v11+1))))))) (
some (.inr (.inr ())))
def Qf(n:Nat)(l1:WB (Int))(l5:WB (Int)):WA Bool :=
br (!decide ((l1.length:Int)=(l5.length:Int))) (
some false) (
ob (α:=(WC)⊕WC) (
bH (yU n l1 l5) n 0) fun r38=>match r38 with
| .inl _ =>
some false
| .inr _ =>
some true)
def Hl(n:Nat)(x1:Bool)(l2:WB (Int))(x7:Bool)(l8:WB (Int))(x13:Bool)(l14:WB (Int))(x19:Bool)(l20:WB (Int)):WA (Bool×WB Int×Bool×WB Int) :=
ob (Gj n x1 l2 x13 l14) fun(r29,l30) =>
ob (Gj n x7 l8 x19 l20) fun(r35,l36) =>
ob (Ct n r29 l30 r35 l36) fun(r41,l42,r46,l47) =>
some (r41,l42,r46,l47)
def pK(n:Nat)(l1:WB (WB WQ))(l2:WB (Bool×WB Int×Bool×WB Int))(v1:Int):(Bool×WB (Int)×Bool×WB (Int)×Int)->WA ((Bool×WB (Int)×Bool×WB (Int)×Int) ⊕(Bool×WB (Int)×Bool×WB (Int))):=fun(v2,l3,v3,l4,v0) =>
br (decide (v0<(l1.length:Int))) (
gd (bG v0 l2.length) (
ob (l2[v0.toNat]?) fun(x3,l8,x4,l9) =>
gd (bG v0 l1.length) (
ob (l1[v0.toNat]?) fun l7 =>
gd (bG v1 l7.length) (
ob (l7[v1.toNat]?) fun(x5,x6,x7,x8,x9,x10,x11,x12,x14,x15,x16,x17,x18,x19,x20,x21) =>
ob (zq n x5 x6 x7 x8 x9 x10 x11 x12 x14 x15 x16 x17 x18 x19 x20 x21) fun(r0,l10,r1,l11) =>
ob (Hl n x3 l8 x4 l9 r0 l10 r1 l11) fun(r3,l12,r4,l13) =>
ob (BT n v2 l3 v3 l4 r3 l12 r4 l13) fun(r5,l14,r6,l15) =>
some (.inl (r5,l14,r6,l15,Vx (v0+1))))))) (
some (.inr (v2,l3,v3,l4)))
def qe(n:Nat)(l1:WB (WB WQ))(l7:WB (Bool×WB Int×Bool×WB Int)):(WB (Bool×WB Int×Bool×WB Int)×Int)->WA ((WB (Bool×WB Int×Bool×WB Int)×Int) ⊕(WB (Bool×WB Int×Bool×WB Int))):=fun(l2,v0) =>
br (decide (v0<(l1.length:Int))) (
ob (FN n) fun(r0,l8,r1,l9) =>
ob (
bH (pK n l1 l7 v0) n (r0,l8,r1,l9,0)) fun(v1,l3,v2,l4) =>
gd (lim (l2++([(v1,l3,v2,l4)]:WB (Bool×WB Int×Bool×WB Int))).length) (
some (.inl ((l2++([(v1,l3,v2,l4)]:WB (Bool×WB Int×Bool×WB Int))),Vx (v0+1))))) (
some (.inr l2))
def H7(n:Nat)(l1:WB (WB WQ))(l2:WB (Bool×WB Int×Bool×WB Int)):WA (WB (Bool×WB Int×Bool×WB Int)) :=
ob (
bH (qe n l1 l2) n (([]:WB (Bool×WB Int×Bool×WB Int)),0)) fun l3 =>
some l3
def pC(n:Nat)(l1:WB (Bool×WB Int×Bool×WB Int)):(WB WQ×Int)->WA ((WB WQ×Int) ⊕(Int ⊕(WB WQ))):=fun(l2,v0) =>
br (decide (v0<(l1.length:Int))) (
gd (bG v0 l1.length) (
ob (l1[v0.toNat]?) fun(x3,l3,x4,l4) =>
ob (AR n x3 l3 x4 l4) fun(r0,r1,r3,r4,r5,r6,r7,r8,r9,r10,r11,r12,r13,r14,r15,r16,r17) =>
br (!decide (r17=0)) (
some (.inr (.inl r17))) (
gd (lim (l2++[(r0,r1,r3,r4,r5,r6,r7,r8,r9,r10,r11,r12,r13,r14,r15,r16)]).length) (
some (.inl ((l2++[(r0,r1,r3,r4,r5,r6,r7,r8,r9,r10,r11,r12,r13,r14,r15,r16)]),Vx (v0+1))))))) (
some (.inr (.inr l2)))
def Jd(n:Nat)(l1:WB (Bool×WB Int×Bool×WB Int)):WA (WB WQ×Int) :=
ob (α:=(Int) ⊕(WB WQ)) (
bH (pC n l1) n (([]:WB WQ),0)) fun r0=>match r0 with
| .inl v0 =>
some ([],v0)
| .inr l2 =>
some (l2,0)
def uN(n:Nat)(l2:WB WQ):(WB (Bool×WB Int×Bool×WB Int)×Int)->WA ((WB (Bool×WB Int×Bool×WB Int)×Int) ⊕(WB (Bool×WB Int×Bool×WB Int))):=fun(l3,v0) =>
br (decide (v0<(l2.length:Int))) (
gd (bG v0 l2.length) (
ob (l2[v0.toNat]?) fun(x3,x4,x5,x6,x7,x8,x9,x10,x11,x12,x14,x15,x16,x17,x18,x19) =>
ob (zq n x3 x4 x5 x6 x7 x8 x9 x10 x11 x12 x14 x15 x16 x17 x18 x19) fun(r0,l4,r1,l7) =>
gd (lim (l3++([(r0,l4,r1,l7)]:WB (Bool×WB Int×Bool×WB Int))).length) (
some (.inl ((l3++([(r0,l4,r1,l7)]:WB (Bool×WB Int×Bool×WB Int))),Vx (v0+1)))))) (
some (.inr l3))
def vd(n:Nat)(x3:Int)(l1:WB (WB WQ)):(WB (Bool×WB Int×Bool×WB Int)×Int)->WA ((WB (Bool×WB Int×Bool×WB Int)×Int) ⊕(WB (Bool×WB Int×Bool×WB Int))):=fun(l2,v0) =>
br (decide (v0<x3)) (
ob (H7 n l1 l2) fun l3 =>
some (.inl (l3,Vx (v0+1)))) (
some (.inr l2))
def JE(n:Nat)(l1:WB (WB WQ))(l2:WB WQ)(x3:Int):WA (WB WQ×Int) :=
ob (Mm n l1) fun r0 =>
br (!r0) (
some ([],330)) (
ob (rN n l2) fun r1 =>
br (!r1) (
some ([],20)) (
ob (
br (!decide ((l2.length:Int)=(l1.length:Int))) (
some true) (
ob (tY n l2) fun r3 =>
br (!r3) (
some true) (
br (decide (x3<0)) (
some true) (
some (decide (30<x3)))))) fun v0 =>
br (v0) (
some ([],2)) (
ob (
bH (uN n l2) n (([]:WB (Bool×WB Int×Bool×WB Int)),0)) fun l3 =>
ob (
bH (vd n x3 l1) n (l3,0)) fun l4 =>
ob (Jd n l4) fun(l7,r4) =>
some (l7,r4))))
def GO(n:Nat)(x3:Int)(l2:WB (WB WQ))(l3:WB WQ):Int->WA (Int⊕WC⊕WC):=fun v0 =>
br (decide (v0<2)) (
gd (bG v0 2) (
ob ([x3,Vx (((ui .u64 x3)%5:Nat):Int)][v0.toNat]?) fun x4 =>
ob (JC n l2 l3 x4) fun(l4,r0) =>
ob (JE n l2 l3 x4) fun(l7,r1) =>
ob (
ob (Qi n l4 l7) fun r3 =>
br (!r3) (
some true) (
some (!decide (r0=r1)))) fun v1 =>
br (v1) (
some (.inr (.inl ()))) (
some (.inl (Vx (v0+1)))))) (
some (.inr (.inr ())))
def G2(n:Nat)(l2:WB WQ)(l3:WB WQ)(x3:Nat)(x4:Nat)(x5:Nat)(x6:Nat)(x7:Nat)(x8:Nat)(x9:Nat)(x10:Nat)(x11:Nat)(x12:Nat)(x14:Nat)(x15:Nat)(x16:Nat)(x17:Nat)(x18:Nat)(x19:Nat)(x20:Int)(l4:WB (WB WQ)):Int->WA (Int⊕WC⊕WC):=fun v0 =>
br (decide (v0<3)) (
gd (bG v0 3) (
ob ([(V2 l2 4),l3,[(x3,x4,x5,x6,x7,x8,x9,x10,x11,x12,x14,x15,x16,x17,x18,x19)]][v0.toNat]?) fun l7 =>
ob (α:=(WC)⊕WC) (
bH (GO n x20 l4 l7) n 0) fun r0=>match r0 with
| .inl _ =>
some (.inr (.inl ()))
| .inr _ =>
some (.inl (Vx (v0+1))))) (
some (.inr (.inr ())))
def Hh(n:Nat)(l2:WB (WB WQ))(l7:WB (WB WQ))(l8:WB (WB WQ))(l3:WB WQ)(x3:Nat)(x4:Nat)(x5:Nat)(x6:Nat)(x7:Nat)(x8:Nat)(x9:Nat)(x10:Nat)(x11:Nat)(x12:Nat)(x14:Nat)(x15:Nat)(x16:Nat)(x17:Nat)(x18:Nat)(x19:Nat)(x20:Int):Int->WA (Int⊕WC⊕WC):=fun v0 =>
br (decide (v0<3)) (
gd (bG v0 3) (
ob ([l2,l7,l8][v0.toNat]?) fun l4 =>
ob (NG n l4) fun(l9,r0) =>
ob (Oz n l4) fun(l10,r1) =>
ob (
ob (Qf n l9 l10) fun r3 =>
br (!r3) (
some true) (
some (!decide (r0=r1)))) fun v1 =>
br (v1) (
some (.inr (.inl ()))) (
gd (okB 0 (mi (l3.length:Int) (4:Int)) l3.length) (
gd (bG (Vx ((l2.length:Int)-1)) l2.length) (
ob (l2[(Vx ((l2.length:Int)-1)).toNat]?) fun l11 =>
ob (α:=(WC)⊕WC) (
bH (G2 n l3 l11 x3 x4 x5 x6 x7 x8 x9 x10 x11 x12 x14 x15 x16 x17 x18 x19 x20 l4) n 0) fun r4=>match r4 with
| .inl _ =>
some (.inr (.inl ()))
| .inr _ =>
some (.inl (Vx (v0+1)))))))) (
some (.inr (.inr ())))
def F6(n:Nat)(l1:WB (WB WQ))(x20:Nat)(l3:WB (Nat))(x13:Nat)(x21:Nat)(x3:Nat)(x4:Nat)(x5:Nat)(x6:Nat)(x7:Nat)(x8:Nat)(x9:Nat)(x10:Nat)(x11:Nat)(x12:Nat)(x14:Nat)(x15:Nat)(x16:Nat)(x17:Nat)(x18:Nat)(x19:Nat)(l4:WB WQ)(x22:Int):WA Bool :=
ob (RP n) fun r0 =>
br (!r0) (
some false) (
ob (PU n x20 l3) fun l2 =>
ob (Qq n l1) fun l7 =>
ob (PY n x13 x21 x3 x4 x5 x6 x7 x8 x9 x10 x11 x12 x14 x15 x16 x17 x18 x19 l2) fun l8 =>
ob (α:=(WC)⊕WC) (
bH (Hh n l2 l7 l8 l4 x3 x4 x5 x6 x7 x8 x9 x10 x11 x12 x14 x15 x16 x17 x18 x19 x22) n 0) fun r1=>match r1 with
| .inl _ =>
some false
| .inr _ =>
some true)
end Go.Proofs.YtpkadoocdgdcfaaGreatDoor
end
section
namespace Go.Ab.W
open Go Go.Ab
section
variable{E:Env}{m0:V7}{fs:Fs}{ps:WB Pc}{x:Vu}{ty:Vt}
def Qc{elem:Vt}{w:Nat}{i:Int}{z:Vs}{es:Vp}(ht:SlT E.P ty elem w)(hx:ev E fs x=some (.int .i64 i))(hi:decide (0<=i)=true)(hl:lim i.toNat=true)(hz:bK E.P elem=some z)(hp:z.cells.toList.all aL=true)(he:List.replicate i.toNat z.cells.toList=es) :
  Ox E m0 fs ps (.makeSlice ty x x) (fun b=>.slice (some ⟨b,0,none⟩) i.toNat i.toNat) (fun b=>.arr b w i.toNat es .own::ps):=by
 have:=QF (m0:=m0) (ps:=ps) ht hx (Ua (of_decide_eq_true hi)).symm hl hz hp;rw[he] at this;exact this
end
set_option maxRecDepth 10000
attribute [local irreducible] Tm.at Trie.set Trie.get V7.get V7.set V7.alloc V7.ww
end Go.Ab.W
end
section
namespace Go.Ab.W
open Go Go.Ab
section
variable{E:Env}{n:Nat}{m0 m:V7}{fs fs':Fs}{ps ps':WB Pc}{ops:WD Oper}{os:WB Oper}{K:Tm->V7->Prop}{dr:Bool}{fn:WJ}{ro:WA Nat}{c:Code}{Q:V8->Tm->V7->Prop}
variable{ty oty:Vt}{p:String}{af:WD Edge}{d:Nat}{g:WA (Nat×Bool)}{x:Vu}{v:Vs}
def lw{σ ρ γ:Type}{δ:ρ->Type}{body:σ->WA (σ⊕ρ)}{X:(r:ρ)->δ r->En}{N:Nat}{s:σ}{r:ρ}(h:bH body N s=some r)(g:γ)(I:σ->γ->En)(T:ai m0 ps (I s g).ps)
  (hb:∀s g r,body s=some r->Wk E n fn ro c (match r with|.inl s'=>nH m0 (I s')|.inr r=>nH m0 (X r)) m0 (I s g).fs (I s g).ps)
  (hs:sub fs (I s g).fs:=by repeat first|exact sn|refine sc rfl ?_)
  (hn:∀s g,(I s g).e=.normal:=by exact fun _ _=>rfl) (hx:∀r g,(X r g).e≠.normal:=by intro r d; first |(intro e; cases e; done) |(rcases r with r|r<;>first |(intro e; cases e; done) |(rcases r with r|r<;>first |(intro e; cases e; done) |(rcases r with r|r<;>intro e<;>cases e)))):Wk E n fn ro (.loop c) (nH m0 (ap X r)) m0 fs ps:=.Jt hs T (Wk.loop body I X hb hn hx N s r h g)
def aT{γ:Type}{G:γ->En}{e:V8}(g:γ)(T:ai m0 ps (G g).ps)(he:e=(G g).e:=by rfl)(hs:sub fs (G g).fs:=by repeat first|exact sn|refine sc rfl ?_):At (nH m0 G) e m0 fs ps:=At.en g he hs T
def aO:WB Pc->WB Pc->WA (WB Pc)
 | [],ps=>some ps
 | p::l,ps=>match aO l ps with
  | some q=>some (p::q)
  | none=>none
def L3:∀{l ps q:WB Pc},aO l ps=some q->q=l++ps
 | [],ps,q,h=>by cases h; rfl
 | p::l,ps,q,h=>by
  unfold aO at h
  split at h
  rename_i q' e; cases h; rw[L3 e]; rfl
  cases h
def LQ{α:Type}{r:Rep α}{ag:Bool}{sz b o w j c q off:Nat}{R:Vr}{L:WB α}{es:Vp}{z:α}{V:r.G->Vs}{N:r.G->WB Pc}(ht:TyI E.P ty ag sz)(hx:ev E fs x=some (ptr b off))(ho:off=o+j*w+c)(hli:∀m,Hp m0 m ps->ot m b o w es)(hq:pk ps q=some (.gen (ef r R L es)))(hl:L[j]? = some z)(hv:∀g,yw ag sz (r.V z g) c=some (V g))(hs:xO ag sz c w=true)(hN:∀g,aO (r.N z g R) ps=some (N g)):Ox E m0 fs ps (.load ty x) V N :=
 QL ht hx ho hli hq hl hv hs fun g=>L3 (hN g)
def wl{α:Type}{r:Rep α}{ag:Bool}{sz b o j l off:Nat}{R:Vr}{L:WB α}{es:Vp}{z:α}{V:r.G->Vs}{N:r.G->WB Pc}(w c q k:Nat)(hl:L[j]? = some z)(kk:∀g,Wo dr E n ops K os m0 ((d,V g)::fs) (N g))(ht:TyI E.P oty ag sz:=by exact TyC.t)(hx:ev E fs x=some (ptr b off):=by rfl)(hp:pk ps k=some (.ro b o w l es):=by rfl)(ho:off=o+j*w+c:=by rfl)(hq:pk ps q=some (.gen (ef r R L es)):=by rfl)(hv:∀g,yw ag sz (r.V z g) c=some (V g):=by exact fun _=>rfl)(hs:xO ag sz c w=true:=by rfl)(hN:∀g,aO (r.N z g R) ps=some (N g):=by exact fun _=>rfl)(hd:Nat.blt d n=true:=by rfl):Wo dr E n ops K (⟨some d,.load oty x,ty,p,af,none⟩::os) m0 fs ps:=VN (LQ ht hx ho (uK hp) hq hl hv hs hN) gn hd kk
variable{α:Type}{V:α->Vs}{N:α->WB Pc}{R S:α->Pc}{f:Vu}{q:WJ}{ars:WD Vu}{ts:WD Vt}{args:WB Vs}{prs:WB (Nat×Nat)}{ss:WB Nk}
def qa(hg:sD ops fs g true)(hc:∀m,Hp m0 m ps->aB E q args m (fun v m'=>∃x,v=V x/\Hp m m' [R x,S x,.gen (po (kL ps))]))(k:∀x,Wo dr E n ops K os m0 ((d,V x)::fs) (R x::S x::ps))(hf:ev E fs f=some (.func (.func q) #[] #[]):=by rfl)(ha:kP E fs ars.toList=some args:=by rfl)(ho:∀x,jF [R x,S x]=true:=by exact fun _=>rfl)(hd:Nat.blt d n=true:=by rfl):Wo dr E n ops K (⟨some d,.call ⟨.value f,ars,ts⟩,ty,p,af,g⟩::os) m0 fs ps:=VN (Gt (N:=fun x=>[R x,S x]) hf ha hc ho) hg hd k
def FU(hg:sD ops fs g true)(hc:∀m,Hp m0 m ps->aB E q args m (fun v m'=>∃x,v=V x/\Hp m m' [R x,S x,.gen (po (kL ps))]))(k:∀x,Wn E n ops prs K os (.call::ss) m0 ((d,V x)::fs) (R x::S x::ps))(hf:ev E fs f=some (.func (.func q) #[] #[]):=by rfl)(ha:kP E fs ars.toList=some args:=by rfl)(ho:∀x,jF [R x,S x]=true:=by exact fun _=>rfl)(hd:Nat.blt d n=true:=by rfl):Wn E n ops prs K (⟨some d,.call ⟨.value f,ars,ts⟩,ty,p,af,g⟩::os) ss m0 fs ps:=Wn.c (Mc (N:=fun x=>[R x,S x]) hf ha hc ho) hg hd k
def wq{ρ γ:Type}{first cap:WD Vs}(F:ρ->γ->Vs×WB Pc)(r:ρ)(hc:∀m,Hp m0 m ps->aB E q (first.toList++args++cap.toList) m (fun v m'=>∃x,v=(F r x).1/\Hp m0 m' (F r x).2))(k:∀x,Wo dr E n ops K os m0 ((d,(F r x).1)::fs) (F r x).2)(hf:ev E fs f=some (.func (.func q) first cap):=by rfl)(ha:kP E fs ars.toList=some args:=by rfl)(hd:Nat.blt d n=true:=by rfl):Wo dr E n ops K (⟨some d,.call ⟨.value f,ars,ts⟩,ty,p,af,none⟩::os) m0 fs ps:=VN (M4 hf ha hc) gn hd k
end
end Go.Ab.W
end
