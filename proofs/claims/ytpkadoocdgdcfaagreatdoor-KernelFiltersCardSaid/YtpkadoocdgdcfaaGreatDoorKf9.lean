/- A part of the proof. -/
import Derived.Test.YtpkadoocdgdcfaaGreatDoorKf8
import Derived.Test.YtpkadoocdgdcfaaGreatDoorRows
import Derived.Test.YtpkadoocdgdcfaaGreatDoorTie
import Derived.Test.YtpkadoocdgdcfaaGreatDoorCards
import Derived.Stop.Joined
import Derived.SevenTiedAt
set_option linter.all false
namespace Go.Proofs.YtpkadoocdgdcfaaGreatDoor
section
open Go Go.Ab Go.Ab.W
set_option exponentiation.threshold 3000
variable{n:Nat}
def pC{T U a b:Nat}(hT:T≠0)(hU:U≠0)(h:a*U=b*T):bU T a=bU U b:=by
 obtain⟨h1,h2⟩:=A5 (a:=a) (b:=T) (c:=b) (d:=U) hT hU h;exact Prod.ext h1 h2
structure Q(l k:RR Nat)(a T:Nat):Prop where
 num:Lg (((bU T a).1:Nat):Int) false l
 den:Lg (((bU T a).2:Nat):Int) false k
def Q.eq{l k l' k':RR Nat}{a T:Nat}(h:Q l k a T)(h':Q l' k' a T):l=l'/\k=k':=⟨(h.num.inj h'.num).2,(h.den.inj h'.den).2⟩
def Q.same{l k:RR Nat}{a T b U:Nat}(h:Q l k a T)(hT:T≠0)(hU:U≠0)(e:a*U=b*T):Q l k b U:=by
 have:=pC hT hU e;exact⟨by rw[<-this]; exact h.num,by rw[<-this]; exact h.den⟩
def Q.zero{T:Nat}(hT:T≠0):Q [] [1] 0 T:=⟨by rw[oB hT]; exact Lg.zero,by rw[oB hT]; exact qL⟩
def Q.one{T:Nat}(hT:T≠0):Q [1] [1] T T:=⟨by rw[nS hT]; exact qL,by rw[nS hT]; exact qL⟩
def FW:(2:Nat) ^ 900<wp 15:=by unfold wp; decide +kernel
def Jc:(2:Nat) ^ 440<wp 7:=by unfold wp; decide +kernel
def fD{T a:Nat}(hT:T≠0):(bU T a).1<=a/\(bU T a).2<=T/\(bU T a).2≠0:=⟨(fW hT).1,(fW hT).2.1,(fW hT).2.2.1⟩
def Q.len{l k:RR Nat}{a T:Nat}(h:Q l k a T)(hT:T≠0)(hTb:T<2 ^ 900)(ha:a<2 ^ 900):l.length<=15/\k.length<=15:=by
 have hw:=FW;obtain⟨h1,h2,_⟩:=fD (a:=a) hT;exact⟨h.num.km (by rw[Pd]; omega),h.den.km (by rw[Pd]; omega)⟩
def Q.qb{l k:RR Nat}{a T:Nat}(h:Q l k a T)(hT:T≠0)(hTb:T<2 ^ 440)(ha:a<2 ^ 440):l.length<=7/\k.length<=7:=by
 have hw:=Jc;obtain⟨h1,h2,_⟩:=fD (a:=a) hT;exact⟨h.num.km (by rw[Pd]; omega),h.den.km (by rw[Pd]; omega)⟩
def FX:(2:Nat) ^ 900*2 ^ 900*2<=2 ^ 2000:=by decide +kernel
def fg{a b:Nat}(ha:a<2 ^ 900)(hb:b<2 ^ 900):a*b<2 ^ 900*2 ^ 900:=Nat.mul_lt_mul'' ha hb
def cm(hn:2 ^ 2000<n):1000000000<n:=Nat.lt_trans (by decide +kernel) hn
def iB(hn:2 ^ 2000<n){a b:Nat}{l k:RR Nat}(h:Lg (a:Int) false l)(h':Lg (b:Int) false k)(hl:l.length<=100)(hk:k.length<=100):∃m,Cw n false l false k=some (false,m)/\Lg ((a*b:Nat):Int) false m:=by
 have hs:=cm hn;obtain⟨u,m,h1,h2⟩:=F0 (n:=n) h h' (by omega) (by omega) (by omega)
 rw[<-Qk] at h2;have:=h2.un;subst this;exact⟨m,h1,h2⟩
def KW(hn:2 ^ 2000<n){a b:Nat}{l k:RR Nat}(h:Lg (a:Int) false l)(h':Lg (b:Int) false k)(hl:l.length<=100)(hk:k.length<=100):∃m,vA n false l false k=some (false,m)/\Lg ((a+b:Nat):Int) false m:=by
 have hs:=cm hn;obtain⟨u,m,h1,h2⟩:=wv (n:=n) h h' (by omega) (by omega) (by omega)
 rw[<-Int.natCast_add] at h2;have:=h2.un;subst this;exact⟨m,h1,h2⟩
def MJ:(2:Nat) ^ 900*2 ^ 900*2<wp 30:=by unfold wp; decide +kernel
def jD{v:Nat}{l:RR Nat}(h:Lg (v:Int) false l)(hv:v<2 ^ 900*2 ^ 900*2):l.length<=30:=h.km (by rw[Pd]; exact Nat.lt_trans hv MJ)
def Q.plus(hn:2 ^ 2000<n){l k l' k':RR Nat}{a T b U:Nat}(h:Q l k a T)(h':Q l' k' b U)(hT:T≠0)(hU:U≠0)(hTb:T<2 ^ 900)(hUb:U<2 ^ 900)(ha:a<2 ^ 900)(hb:b<2 ^ 900) :
  ∃m p,wA n false l false k false l' false k'=some (false,m,false,p)/\Q m p (a*U+b*T) (T*U):=by
 have h9:=FX;obtain⟨l1,k1⟩:=h.len hT hTb ha;obtain⟨l2,k2⟩:=h'.len hU hUb hb;obtain⟨p1,q1,q01⟩:=fD (a:=a) hT;obtain⟨p2,q2,q02⟩:=fD (a:=b) hU;have e1:=(fW (h:=a) hT).2.2.2.2;have e2:=(fW (h:=b) hU).2.2.2.2;obtain⟨m1,f1,g1⟩:=iB hn h.num h'.den (by omega) (by omega)
 obtain⟨m2,f2,g2⟩:=iB hn h'.num h.den (by omega) (by omega)
 obtain⟨m3,f3,g3⟩:=iB hn h.den h'.den (by omega) (by omega)
 have x1:=fg (a:=(bU T a).1) (b:=(bU U b).2) (by omega) (by omega)
 have x2:=fg (a:=(bU U b).1) (b:=(bU T a).2) (by omega) (by omega)
 have x3:=fg (a:=(bU T a).2) (b:=(bU U b).2) (by omega) (by omega)
 have y1:=jD g1 (by omega)
 have y2:=jD g2 (by omega)
 have y3:=jD g3 (by omega)
 obtain⟨m4,f4,g4⟩:=KW hn g1 g2 (by omega) (by omega)
 have y4:=jD g4 (by omega)
 have z0:(bU T a).2*(bU U b).2≠0:=Pa q01 q02;have hs:=cm hn;obtain⟨m,p,f5,g5,g6⟩:=ov (n:=n) (by omega) (by omega) z0 g4 g3 (by omega) (by omega)
 have key:bU ((bU T a).2*(bU U b).2) ((bU T a).1*(bU U b).2+(bU U b).1*(bU T a).2)=bU (T*U) (a*U+b*T):=by
  refine pC z0 (Pa hT hU) ?_;generalize(bU T a).1=p at *;generalize(bU T a).2=q at *;generalize(bU U b).1=r at *;generalize(bU U b).2=s at *;have h1:(p*s+r*q)*(T*U)=(p*T)*(s*U)+(r*U)*(q*T):=by
   rw[Po]; simp only[OO,ON,OP]
  rw[h1,e1,e2,Po];simp only[OO,ON,OP]
 refine⟨m,p,?_,⟨by rw[<-key]; exact g5,by rw[<-key]; exact g6⟩⟩
 unfold wA;rw[f1,al]
 dsimp only
 rw[f2,al]
 dsimp only
 rw[f4,al]
 dsimp only
 rw[f3,al]
 dsimp only
 rw[f5,al]
def Q.times(hn:2 ^ 2000<n){l k l' k':RR Nat}{a T b U:Nat}(h:Q l k a T)(h':Q l' k' b U)(hT:T≠0)(hU:U≠0)(hTb:T<2 ^ 900)(hUb:U<2 ^ 900)(ha:a<2 ^ 900)(hb:b<2 ^ 900) :
  ∃m p,zb n false l false k false l' false k'=some (false,m,false,p)/\Q m p (a*b) (T*U):=by
 have h9:=FX;obtain⟨l1,k1⟩:=h.len hT hTb ha;obtain⟨l2,k2⟩:=h'.len hU hUb hb;obtain⟨p1,q1,q01⟩:=fD (a:=a) hT;obtain⟨p2,q2,q02⟩:=fD (a:=b) hU;have e1:=(fW (h:=a) hT).2.2.2.2;have e2:=(fW (h:=b) hU).2.2.2.2;obtain⟨m1,f1,g1⟩:=iB hn h.num h'.num (by omega) (by omega)
 obtain⟨m3,f3,g3⟩:=iB hn h.den h'.den (by omega) (by omega)
 have x1:=fg (a:=(bU T a).1) (b:=(bU U b).1) (by omega) (by omega)
 have x3:=fg (a:=(bU T a).2) (b:=(bU U b).2) (by omega) (by omega)
 have y1:=jD g1 (by omega)
 have y3:=jD g3 (by omega)
 have z0:(bU T a).2*(bU U b).2≠0:=Pa q01 q02;have hs:=cm hn;obtain⟨m,p,f5,g5,g6⟩:=ov (n:=n) (by omega) (by omega) z0 g1 g3 (by omega) (by omega)
 have key:bU ((bU T a).2*(bU U b).2) ((bU T a).1*(bU U b).1)=bU (T*U) (a*b):=by
  refine pC z0 (Pa hT hU) ?_;generalize(bU T a).1=p at *;generalize(bU T a).2=q at *;generalize(bU U b).1=r at *;generalize(bU U b).2=s at *;have h1:p*r*(T*U)=(p*T)*(r*U):=by simp only[OO,ON,OP]
  rw[h1,e1,e2];simp only[OO,ON,OP]
 refine⟨m,p,?_,⟨by rw[<-key]; exact g5,by rw[<-key]; exact g6⟩⟩
 unfold zb;rw[f1,al]
 dsimp only
 rw[f3,al]
 dsimp only
 rw[f5,al]
def uq(l k:RR Nat):Sh:=(l.getD 0 0,l.getD 1 0,l.getD 2 0,l.getD 3 0,l.getD 4 0,l.getD 5 0,l.getD 6 0,l.getD 7 0,k.getD 0 0,k.getD 1 0,k.getD 2 0,k.getD 3 0,k.getD 4 0,k.getD 5 0,k.getD 6 0,k.getD 7 0)
def words(l:RR Nat):RR Nat:=[l.getD 0 0,l.getD 1 0,l.getD 2 0,l.getD 3 0,l.getD 4 0,l.getD 5 0,l.getD 6 0,l.getD 7 0]
def yr:∀{l:RR Nat},l.length<=8->words l=l++List.replicate (8-l.length) 0
 | [],_=>rfl
 | [_],_=>rfl
 | [_,_],_=>rfl
 | [_,_,_],_=>rfl
 | [_,_,_,_],_=>rfl
 | [_,_,_,_,_],_=>rfl
 | [_,_,_,_,_,_],_=>rfl
 | [_,_,_,_,_,_,_],_=>rfl
 | [_,_,_,_,_,_,_,_],_=>rfl
 | _::_::_::_::_::_::_::_::_::_,h=>by simp at h
def yR{l:RR Nat}(h:l.length<=7):l.getD 7 0=0:=by rw[PB,Pp (by omega)]; rfl
def pj(hn:1000<n){v:Nat}{l:RR Nat}(h:Lg (v:Int) false l)(hl:l.length<=7):Jo n (l.getD 0 0) (l.getD 1 0) (l.getD 2 0) (l.getD 3 0) (l.getD 4 0) (l.getD 5 0) (l.getD 6 0) (l.getD 7 0)=some (false,l):=by
 have hw:=yr (l:=l) (by omega)
 have hwd:Wd (words l):=by rw[hw]; exact h.wd.app (Wd.zeros _)
 have hv:vl (words l)=vl l:=by rw[hw,kZ,jE,Nat.mul_zero,Py]
 obtain⟨t,k,f1,f2⟩:=fR (n:=n) false hwd (by simp[words]) (by simp[words]; omega)
 rw[hv] at f2;have e:tp false (vl l)=(v:Int):=by rw[h.NM]; rfl
 rw[e] at f2;obtain⟨e1,e2⟩:=f2.inj h;rw[e1,e2] at f1;have hr:HX n (l.getD 0 0) (l.getD 1 0) (l.getD 2 0) (l.getD 3 0) (l.getD 4 0) (l.getD 5 0) (l.getD 6 0) (l.getD 7 0)=some (false,l.getD 0 0,l.getD 1 0,l.getD 2 0,l.getD 3 0,l.getD 4 0,l.getD 5 0,l.getD 6 0,l.getD 7 0):=by
  rw[yR hl]; rfl
 unfold Jo;rw[hr,al]
 show gd (lim (words l).length) (ob (mY n false (words l)) _)=_
 rw[show lim (words l).length=true from rfl,aY,f1,al]
def ff(hn:1000<n){v u:Nat}{l k:RR Nat}(h:Lg (v:Int) false l)(h':Lg (u:Int) false k)(hl:l.length<=7)(hk:k.length<=7):zB n (l.getD 0 0) (l.getD 1 0) (l.getD 2 0) (l.getD 3 0) (l.getD 4 0) (l.getD 5 0) (l.getD 6 0) (l.getD 7 0) (k.getD 0 0) (k.getD 1 0) (k.getD 2 0) (k.getD 3 0) (k.getD 4 0) (k.getD 5 0) (k.getD 6 0) (k.getD 7 0)=some (false,l,false,k):=by
 unfold zB;rw[pj hn h hl,al]
 dsimp only
 rw[pj hn h' hk,al]
def CH{l:RR Nat}(h:l.length<=8):LG (l++([0,0,0,0,0,0,0,0]:RR Nat).drop l.length)=some (l.getD 0 0,l.getD 1 0,l.getD 2 0,l.getD 3 0,l.getD 4 0,l.getD 5 0,l.getD 6 0,l.getD 7 0):=by
 have e:l++([0,0,0,0,0,0,0,0]:RR Nat).drop l.length=words l:=by
  rw[yr h,show([0,0,0,0,0,0,0,0]:RR Nat)=List.replicate 8 0 from rfl,List.drop_replicate]
 rw[e]; rfl
def FU(hn:10<n)(a0 a1 a2 a3 a4 a5 a6:Nat):C3 n a0 a1 a2 a3 a4 a5 a6 0 0 0 0 0 0 0 0 9223372036854775808=some (-1):=by
 obtain⟨m,rfl⟩:∃m,n=m+1:=⟨n-1,by omega⟩
 unfold C3;rw[bX (r:=.inl (-1)) rfl]; rfl
def yw(hn:10<n){l:RR Nat}(h:l.length<=7):LZ n false l=some (l.getD 0 0,l.getD 1 0,l.getD 2 0,l.getD 3 0,l.getD 4 0,l.getD 5 0,l.getD 6 0,l.getD 7 0,0):=by
 unfold LZ;rw[RK,eE (by omega),CH (by omega),al]
 dsimp only
 unfold G4;rw[yR h,FU hn,al]
 rfl
def Nu(l k:RR Nat):NG:=(l.getD 0 0,l.getD 1 0,l.getD 2 0,l.getD 3 0,l.getD 4 0,l.getD 5 0,l.getD 6 0,l.getD 7 0,k.getD 0 0,k.getD 1 0,k.getD 2 0,k.getD 3 0,k.getD 4 0,k.getD 5 0,k.getD 6 0,k.getD 7 0,0)
def Hn(hn:10<n){l k:RR Nat}(h:l.length<=7)(h':k.length<=7):Eb n false l false k=some (Nu l k):=by
 unfold Eb;rw[yw hn h,al]
 dsimp only
 rw[yw hn h',al]
 rfl
def pw(hn:2 ^ 2000<n){l k:RR Nat}{a T:Nat}(h:Q l k a T)(hT:T≠0)(hTb:T<2 ^ 440)(ha:a<2 ^ 440):Ay n (l.getD 0 0) (l.getD 1 0) (l.getD 2 0) (l.getD 3 0) (l.getD 4 0) (l.getD 5 0) (l.getD 6 0) (l.getD 7 0) (k.getD 0 0) (k.getD 1 0) (k.getD 2 0) (k.getD 3 0) (k.getD 4 0) (k.getD 5 0) (k.getD 6 0) (k.getD 7 0)=some 0:=by
 have hs:=cm hn;obtain⟨h7,k7⟩:=h.qb hT hTb ha;obtain⟨p1,q1,q0⟩:=fD (a:=a) hT;have hg:=(fW (h:=a) hT).2.2.2.1;have hb4:(2:Nat) ^ 440<=2 ^ 2000:=by decide +kernel
 unfold Ay;rw[oc (by omega),al]
 dsimp only
 rw[ff (by omega) h.num h.den h7 k7,al]
 dsimp only
 obtain⟨r,r1,r2,r3⟩:=oY (n:=n) h.den;rw[r1,al,RK]
 obtain⟨g,g1,g2⟩:=yB (n:=n) h.num h.den (by omega) (by omega) (by omega) (by rw[Pd]; omega)
 rw[Pd,Pd,hg] at g2;obtain⟨_,rfl⟩:=g2.inj (show Lg ((1:Nat):Int) false [1] from qL)
 rw[g1,al]
 dsimp only
 have hc:Dz n false [1] false [1]=some 0:=by
  obtain⟨m,rfl⟩:∃m,n=m+100:=⟨n-100,by omega⟩
  kernel_rfl
 rw[hc,al]; rfl
end
section
open Go Go.Ab Go.Ab.W
set_option exponentiation.threshold 3000
def sm(f:Nat->Nat):Nat->Nat
 | 0=>0
 | k+1=>sm f k+f k
def sD{f g:Nat->Nat}:∀{k:Nat},(∀i,i<k->f i=g i)->sm f k=sm g k
 | 0,_=>rfl
 | k+1,h=>by rw[sm,sm,sD fun i hi=>h i (by omega),h k (by omega)]
def tH{f:Nat->Nat}:∀{k N:Nat},k<=N->sm f k<=sm f N
 | k,0,h=>by rw[show k=0 by omega]; exact OF _
 | k,N+1,h=>by
  by_cases e:k=N+1
  rw[e]; exact OF _
  have:=tH (f:=f) (k:=k) (N:=N) (by omega)
  rw[sm]; omega
def iR{f:Nat->Nat}{i N:Nat}(h:i<N):f i<=sm f N:=by
 have:=tH (f:=f) (k:=i+1) (N:=N) h;rw[sm] at this; omega
def w9{f:Nat->Nat}{c:Nat}:∀{k:Nat},sm (fun i=>f i*c) k=sm f k*c
 | 0=>by simp[sm]
 | k+1=>by rw[sm,sm,w9,Po]
def wI{f:Nat->Nat}{c:Nat}:∀{k:Nat},sm (fun i=>c*f i) k=c*sm f k
 | 0=>by simp[sm]
 | k+1=>by rw[sm,sm,wI,PO]
def GV{f g:Nat->Nat}:∀{k:Nat},sm (fun i=>f i+g i) k=sm f k+sm g k
 | 0=>rfl
 | k+1=>by rw[sm,sm,sm,GV]; omega
def Cf:∀{k:Nat},sm (fun _=>0) k=0
 | 0=>rfl
 | k+1=>by rw[sm,Cf]
def Cx{f:Nat->Nat->Nat}{M:Nat}:∀{N:Nat},sm (fun i=>sm (fun j=>f i j) M) N=sm (fun j=>sm (fun i=>f i j) N) M
 | 0=>by rw[sm]; exact(Cf).symm
 | N+1=>by
  rw[sm,Cx,<-GV]
  rfl
def CS(x:Sh)(a T:Nat):Prop:=∃l k,x=uq l k/\Q l k a T
def CS.uniq{x y:Sh}{a T b U:Nat}(h:CS x a T)(h':CS y b U)(hT:T≠0)(hU:U≠0)(e:a*U=b*T):x=y:=by
 obtain⟨l,k,rfl,q⟩:=h;obtain⟨l',k',rfl,q'⟩:=h';obtain⟨rfl,rfl⟩:=(q.same hT hU e).eq q'
 rfl
def CS.same{x:Sh}{a T b U:Nat}(h:CS x a T)(hT:T≠0)(hU:U≠0)(e:a*U=b*T):CS x b U:=by
 obtain⟨l,k,rfl,q⟩:=h;exact⟨l,k,rfl,q.same hT hU e⟩
def K3(p q:Nat):sh (p,q)=uq (ul p) (ul q):=by
 have h:∀v,(ul v).getD 0 0=v/\∀i,(ul v).getD (i+1) 0=0:=fun v=>by
  unfold ul
  by_cases e:v=0
  subst e; exact⟨rfl,fun i=>rfl⟩
  rw[OJ e]; exact⟨rfl,fun i=>rfl⟩
 obtain⟨h1,h2⟩:=h p;obtain⟨h3,h4⟩:=h q;unfold sh uq;rw[h1,h3,h2 0,h2 1,h2 2,h2 3,h2 4,h2 5,h2 6,h4 0,h4 1,h4 2,h4 3,h4 4,h4 5,h4 6]
def F9{a T:Nat}(hT:T≠0)(hTb:T<18446744073709551616)(ha:a<18446744073709551616):CS (sh (bU T a)) a T:=by
 obtain⟨h1,h2,_⟩:=fD (a:=a) hT;exact⟨ul (bU T a).1,ul (bU T a).2,K3 _ _,J7 (by omega),J7 (by omega)⟩
structure VQ(L:RR Sh)(v:Nat->Nat)(T N:Nat):Prop where
 len:L.length=N
 at_:∀i,i<N->∃x,L[i]? = some x/\CS x (v i) T
abbrev Rt:=R9
structure RQ(L:RR Rt)(v:Nat->Nat)(T N:Nat):Prop where
 len:L.length=N
 at_:∀i,i<N->∃l k,L[i]? = some (false,l,false,k)/\Q l k (v i) T
section
variable{n:Nat}
def DP:(2:Nat) ^ 440<2 ^ 900:=by decide +kernel
def Jx(hn:2 ^ 2000<n){l k:RR Nat}{a T:Nat}(h:Q l k a T)(hT:T≠0)(hTb:T<2 ^ 440)(ha:a<2 ^ 440):EX n (l.getD 0 0) (l.getD 1 0) (l.getD 2 0) (l.getD 3 0) (l.getD 4 0) (l.getD 5 0) (l.getD 6 0) (l.getD 7 0) (k.getD 0 0) (k.getD 1 0) (k.getD 2 0) (k.getD 3 0) (k.getD 4 0) (k.getD 5 0) (k.getD 6 0) (k.getD 7 0)=some false:=by
 have hs:=cm hn;obtain⟨h7,k7⟩:=h.qb hT hTb ha;unfold EX;rw[pw hn h hT hTb ha,al,OY rfl,OS,cz,ff (by omega) h.num h.den h7 k7,al]
 dsimp only
 obtain⟨r,r1,r2,_⟩:=oY (n:=n) h.num;rw[r1,al,Pm (by omega)]
def BC(hn:2 ^ 2000<n){L:RR Sh}{v:Nat->Nat}{T N:Nat}(h:VQ L v T N)(hT:T≠0)(hTb:T<2 ^ 440)(hsum:sm v N=T)(hN:N<=1000):CO n L=some true:=by
 have hs:=cm hn;have h0:=DP;have hv:∀i,i<N->v i<2 ^ 440:=fun i hi=>Pu (hsum▸iR hi) hTb;have h1:=bI (body:=sC n L) N (fun(_:RS) (v:Int)=>v) (fun _=>(.inr ():Int⊕RS)) (fun _ _=>True) (fun s i hi _=>by
  obtain⟨x,e,l,k,rfl,q⟩:=h.at_ i hi;refine⟨(),?_,trivial⟩;unfold sC;rw[h.len,RJ,aB hi,aY,OC,e,al]
  unfold uq
  dsimp only
  rw[Jx hn q hT hTb (hv i hi),al,cz,RL]) (fun s _=>by
  unfold sC;rw[h.len,RK]) (n:=n) (s:=()) trivial (by omega)
 obtain⟨_,h1,_⟩:=h1;have h2:=bI (body:=oG n L) N (fun(s:RR Nat×RR Nat) (v:Int)=>(false,s.1,false,s.2,v)) (fun s=>(false,s.1,false,s.2)) (fun i s=>Q s.1 s.2 (sm v i) T) (fun s i hi hq=>by
  obtain⟨x,e,l,k,rfl,q⟩:=h.at_ i hi;obtain⟨l2,k0⟩:=q.qb hT hTb (hv i hi);have hle:sm v i<2 ^ 440:=Pu (hsum▸tH (P3 hi)) hTb;obtain⟨m,p,f1,f0⟩:=hq.plus hn q hT hT (by omega) (by omega) (by omega) (by have:=hv i hi; omega)
  refine⟨(m,p),?_,f0.same (Pa hT hT) hT (by rw[sm,<-Po,OO])⟩
  unfold oG
  dsimp only
  rw[h.len,RJ,aB hi,aY,OC,e,al]
  unfold uq
  dsimp only
  rw[ff (by omega) q.num q.den l2 k0,al]
  dsimp only
  rw[f1,al]
  dsimp only
  rw[RL]) (fun s _=>by
  unfold oG
  dsimp only
  rw[h.len,RK]) (n:=n) (s:=([],[1])) (Q.zero hT) (by omega)
 obtain⟨s,h2,g⟩:=h2;rw[hsum] at g;obtain⟨e1,e2⟩:=g.eq (Q.one hT);unfold CO;rw[h1,al]
 show ob (ob (some (-1:Int)) fun v0=>some (decide (0<=v0))) _=_
 rw[al,al,show decide ((0:Int)<=-1)=false from rfl,cz,AY (by omega),al]
 dsimp only
 rw[show cy (oG n L) n (false,[],false,[1],0)=_ from h2,al]
 dsimp only
 rw[al]
 dsimp only
 rw[Eg (by omega),al]
 dsimp only
 rw[e1,e2];obtain⟨m,rfl⟩:∃m,n=m+100:=⟨n-100,by omega⟩
 have e0:xb (m+100) false [1] false [1] false [1] false [1]=some 0:=by kernel_rfl
 rw[e0,al]; rfl
def re(hn:2 ^ 2000<n){L:RR Rt}{v:Nat->Nat}{T N:Nat}(h:RQ L v T N)(hT:T≠0)(hTb:T<2 ^ 440)(hv:∀i,i<N->v i<2 ^ 440)(hN:N<=1000):∃L',yL n L=some (L',0)/\VQ L' v T N:=by
 have hs:=cm hn;have h1:=bI (body:=oJ n L) N (fun(s:RR Sh) (v:Int)=>(s,v)) (fun s=>(.inr s:Int⊕RR Sh)) (fun i s=>VQ s v T i) (fun s i hi hq=>by
  obtain⟨l,k,e,q⟩:=h.at_ i hi;obtain⟨l7,k7⟩:=q.qb hT hTb (hv i hi);refine⟨s++[uq l k],?_,⟨by rw[OU,hq.len]; rfl,fun j hj=>?_⟩⟩
  have hlim:lim (s++[uq l k]).length=true:=O9 (by rw[OU,hq.len,PS]; omega)
  unfold oJ
  dsimp only
  rw[h.len,RJ,aB hi,aY,OC,e,al]
  dsimp only
  rw[Hn (by omega) l7 k7,al]
  show gd (lim (s++[uq l k]).length) _=_
  rw[hlim,aY,RL]
  rfl
  by_cases c:j=i
  subst c;exact⟨uq l k,by rw[O2 (by rw[hq.len]; exact OF _),hq.len,Qa]; rfl,l,k,rfl,q⟩
  obtain⟨x,e1,e2⟩:=hq.at_ j (by omega)
  exact⟨x,by rw[Pj (by rw[hq.len]; omega)]; exact e1,e2⟩) (fun s hq=>by
  unfold oJ
  dsimp only
  rw[h.len,RK]) (n:=n) (s:=[]) ⟨rfl,fun i hi=>O6 hi (by omega)⟩ (by omega)
 obtain⟨s,h1,h2⟩:=h1;refine⟨s,?_,h2⟩;unfold yL;rw[show cy (oJ n L) n (([]:RR Sh),0)=_ from h1]
 rfl
end
def NK{T h:Nat}(hT:T≠0):(bU T h).1≠0↔h≠0:=by
 obtain⟨h1,_,h3,_,h5⟩:=fW (h:=h) hT;constructor
 intro e e0; subst e0; omega
 intro e e0;rw[e0,Qi] at h5;rcases Nat.mul_eq_zero.1 h5.symm with h|h
 exact e h
 exact h3 h
structure KQ(K:RR (RR Sh))(W:Nat->Nat->Nat)(P N:Nat):Prop where
 len:K.length=N
 at_:∀i,i<N->∃row,K[i]? = some row/\VQ row (W i) P N
 sum:∀i,i<N->sm (W i) N=P
 pos:P≠0
 n1:N<=1000
def rE(W:Nat->Nat->Nat)(N:Nat)(v:Nat->Nat)(j:Nat):Nat:=sm (fun i=>v i*W i j) N
def Lq(W:Nat->Nat->Nat)(N:Nat):Nat->(Nat->Nat)->Nat->Nat
 | 0,v=>v
 | k+1,v=>rE W N (Lq W N k v)
def Ek{K:RR (RR Sh)}{W:Nat->Nat->Nat}{P N:Nat}(hK:KQ K W P N)(v:Nat->Nat):sm (rE W N v) N=sm v N*P:=by
 have e:sm (rE W N v) N=sm (fun i=>sm (fun j=>v i*W i j) N) N:=(Cx (f:=fun i j=>v i*W i j)).symm;rw[e,sD (g:=fun i=>v i*P) fun i hi=>by rw[wI,hK.sum i hi],w9]
def AU{K:RR (RR Sh)}{W:Nat->Nat->Nat}{P N:Nat}(hK:KQ K W P N)(v:Nat->Nat):∀k,sm (Lq W N k v) N=sm v N*P ^ k
 | 0=>by rw[Nat.pow_zero,Qf]; rfl
 | k+1=>by
  show sm (rE W N (Lq W N k v)) N=_
  rw[Ek hK,AU hK v k,PK,OO]
section
variable{n:Nat}{K:RR (RR Sh)}{W:Nat->Nat->Nat}{P N:Nat}
def F1(hn:2 ^ 2000<n)(hK:KQ K W P N)(hPb:P<2 ^ 440){x:RR Rt}{v:Nat->Nat}{T:Nat}(hx:RQ x v T N)(hT:T≠0)(hTP:T*P<2 ^ 440)(hv:sm v N=T){j:Nat}(hj:j<N){base:RR Rt}(hb:base.length=N) :
  ∃l k,cy (sw n N x K (j:Int)) n (base.set j (false,[],false,[1]),0)=some (base.set j (false,l,false,k))/\Q l k (rE W N v j) (T*P):=by
 have hs:=cm hn;have h0:=DP;have hP:=hK.pos;have hN:=hK.n1;have hTP0:T*P≠0:=Pa hT hP;have hTle:T<=T*P:=Nat.le_mul_of_pos_right T (OW hP);have hW:∀i,i<N->W i j<=P:=fun i hi=>hK.sum i hi▸iR hj;have hvi:∀i,i<N->v i<=T:=fun i hi=>hv▸iR hi;have hpre:∀i,i<=N->sm (fun i=>v i*W i j) i<=T*P:=fun i hi=>by
  refine O3 (tH hi) ?_;rw[<-hv,<-w9];have:∀k,k<=N->sm (fun i=>v i*W i j) k<=sm (fun i=>v i*P) k:=by
   intro k
   induction k with
   | zero=>intro _; exact OF _
   | succ k ih=>intro hk; rw[sm,sm]; exact Nat.add_le_add (ih (by omega)) (PH _ (hW k (by omega)))
  exact this N (OF _)
 have h:=bI (body:=sw n N x K (j:Int)) N (fun(s:RR Nat×RR Nat) (v:Int)=>(base.set j (false,s.1,false,s.2),v)) (fun s=>base.set j (false,s.1,false,s.2)) (fun i s=>Q s.1 s.2 (sm (fun i=>v i*W i j) i) (T*P)) (fun s i hi hq=>?_) (fun s _=>?_) (n:=n) (s:=([],[1])) (Q.zero hTP0) (by omega)
 obtain⟨s,h1,h2⟩:=h;exact⟨s.1,s.2,h1,h2⟩
 ·obtain⟨l,k,e1,q0⟩:=hx.at_ i hi;obtain⟨row,e2,hr⟩:=hK.at_ i hi;obtain⟨y,e0,l',k',rfl,q2⟩:=hr.at_ j hj;have b0:=hvi i hi;have b1:=hW i hi;obtain⟨l2,k0⟩:=q2.qb hP hPb (by omega)
  have ej:(base.set j (false,s.1,false,s.2))[j]? = some (false,s.1,false,s.2):=Pz (by omega)
  obtain⟨r0,g0,_,g1⟩:=oY (n:=n) q2.num;obtain⟨r2,g2,_,g3⟩:=oY (n:=n) q0.num;have z1:=NK (h:=W i j) hP;have z2:=NK (h:=v i) hT;have head:∀{β:Type} (F:Rt->RI β),True:=fun _=>trivial
  by_cases c0:W i j=0\/v i=0
  
  refine⟨s,?_,?_⟩
  have hd:(ob (BH n false l') fun r1=>br (!decide (r1=0)) (ob (BH n false l) fun r3=>some (!decide (r3=0))) (some false))=some false:=by
   rw[g0,al];rcases c0 with c0|c0
   have:r0=0:=g1.2 (by have:=(not_congr z1).2 (by simp[c0]); omega)
   rw[this]; rfl
   have e3:r2=0:=g3.2 (by have:=(not_congr z2).2 (by simp[c0]); omega)
   rw[g2,al,e3]
   by_cases c:r0=0
   rw[OY c]; rfl
   rw[Pm c]; rfl
  unfold sw
  dsimp only
  rw[RJ,aB hi,aY,OC,e1,al]
  dsimp only
  rw[hK.len,aB hi,aY,e2,al,hr.len,aB hj,aY,OC,e0,al];unfold uq
  dsimp only
  rw[ff (by omega) q2.num q2.den l2 k0,al]
  dsimp only
  rw[hd,al,cz,al,RL]
  have:v i*W i j=0:=by rcases c0 with c|c<;>simp[c]
  rw[sm,this,Py]; exact hq
  ·have c1:W i j≠0:=fun h=>c0 (.inl h);have c2:v i≠0:=fun h=>c0 (.inr h);obtain⟨m1,p1,f1,t0⟩:=q0.times hn q2 hT hP (by omega) (by omega) (by omega) (by omega)
   have b2:v i*W i j<=T*P:=Pe b0 b1;have b3:=hpre i (by omega)
   obtain⟨m2,p0,f0,t1⟩:=hq.plus hn t0 hTP0 hTP0 (by omega) (by omega) (by omega) (by omega)
   refine⟨(m2,p0),?_,t1.same (Pa hTP0 hTP0) hTP0 (by rw[sm,<-Po,OO])⟩
   have hd:(ob (BH n false l') fun r1=>br (!decide (r1=0)) (ob (BH n false l) fun r3=>some (!decide (r3=0))) (some false))=some true:=by
    have n1:r0≠0:=fun e=>(z1.2 c1) (by have:=g1.1 e; omega)
    have n2:r2≠0:=fun e=>(z2.2 c2) (by have:=g3.1 e; omega)
    rw[g0,al,Pm n1,PC,kL,g2,al,Pm n2]; rfl
   unfold sw
   dsimp only
   rw[RJ,aB hi,aY,OC,e1,al]
   dsimp only
   rw[hK.len,aB hi,aY,e2,al,hr.len,aB hj,aY,OC,e0,al];unfold uq
   dsimp only
   rw[ff (by omega) q2.num q2.den l2 k0,al]
   dsimp only
   rw[hd,al,kL,OC,aB hj,aY,ej,al]
   try dsimp only
   rw[f1,al]
   try dsimp only
   rw[f0,al]
   try dsimp only
   rw[aY,List.set_set,al,RL]
 unfold sw
 dsimp only
 rw[RK]
def Fv(hn:2 ^ 2000<n)(hK:KQ K W P N)(hPb:P<2 ^ 440){x:RR Rt}{v:Nat->Nat}{T:Nat}(hx:RQ x v T N)(hT:T≠0)(hTP:T*P<2 ^ 440)(hv:sm v N=T) :
  ∃x',cy (tK n K N x) n (List.replicate N ((false,[],false,[]):Rt),0)=some x'/\RQ x' (rE W N v) (T*P) N:=by
 have hs:=cm hn;have hN:=hK.n1;have h:=bI (body:=tK n K N x) N (fun(s:RR Rt) (v:Int)=>(s,v)) id (fun i s=>s.length=N/\∀j,j<i->∃l k,s[j]? = some (false,l,false,k)/\Q l k (rE W N v j) (T*P)) (fun s j hj hq=>?_) (fun s _=>?_) (n:=n) (s:=List.replicate N (false,[],false,[])) ⟨by simp,fun j hj=>O6 hj (by omega)⟩ (by omega)
 obtain⟨s,h1,h2,h3⟩:=h;exact⟨s,h1,h2,h3⟩
 ·obtain⟨l,k,g1,g2⟩:=F1 hn hK hPb hx hT hTP hv hj hq.1;refine⟨s.set j (false,l,false,k),?_,by rw[Qj]; exact hq.1,fun i hi=>?_⟩
  ·have ej:s[j]? = some (s[j]'(by rw[hq.1]; exact hj)):=OG _
   unfold tK
   dsimp only
   rw[hK.len,RJ,AY (by omega),al]
   dsimp only
   rw[OC,aB hj,aY,OC,ej,al]
   try dsimp only
   rw[g1,al,RL]
  by_cases c:i=j
  subst c;exact⟨l,k,Pz (by rw[hq.1]; exact hj),g2⟩
  obtain⟨l',k',e1,e2⟩:=hq.2 i (by omega)
  exact⟨l',k',by rw[PQ (Ne.symm c)]; exact e1,e2⟩
 unfold tK
 dsimp only
 rw[hK.len,RK]; rfl
def GA(hn:2 ^ 2000<n)(hK:KQ K W P N){x:RR Rt}{v:Nat->Nat}{T:Nat}(hx:RQ x v T N)(hT:T≠0){k:Nat}(hk:k<=30)(hTP:T*P ^ k<2 ^ 440)(hv:sm v N=T) :
  ∃x',cy (tA n (k:Int) K) n (N,x,0)=some (N,x')/\RQ x' (Lq W N k v) (T*P ^ k) N:=by
 have hs:=cm hn;have hN:=hK.n1;have hP:=hK.pos;have h:=bI (body:=tA n (k:Int) K) k (fun(s:RR Rt) (t:Int)=>(N,s,t)) (fun s=>(N,s)) (fun t s=>RQ s (Lq W N t v) (T*P ^ t) N) (fun s t ht hq=>?_) (fun s _=>?_) (n:=n) (s:=x) (by rw[Nat.pow_zero,Qf]; exact hx) (by omega)
 exact h
 have hle:T*P ^ t*P<=T*P ^ k:=by
  rw[OO,<-PK];exact PH _ (O8 (OW hP) ht)
 have h0:T*P ^ t≠0:=Pa hT (Nat.pos_iff_ne_zero.1 (Nat.pow_pos (OW hP)));have hPb:P<2 ^ 440:=by
  have:P<=T*P ^ t*P:=Nat.le_mul_of_pos_left P (OW h0);omega
 obtain⟨x',g1,g2⟩:=Fv hn hK hPb hq h0 (by omega) (by rw[AU hK,hv])
 refine⟨x',?_,by rw[PK,<-OO]; exact g2⟩
 have hlim:lim N=true:=O9 (by omega)
 unfold tA
 dsimp only
 rw[hK.len,RJ,eE (by omega),OC,hlim,aY,g1,al,RL]
 unfold tA
 dsimp only
 rw[RK]
def Gc(hn:2 ^ 2000<n)(hK:KQ K W P N)(hC:HV n K=some 0){L:RR Sh}{v:Nat->Nat}{T:Nat}(hL:VQ L v T N)(hT:T≠0){k:Nat}(hk:k<=30)(hTP:T*P ^ k<2 ^ 440)(hv:sm v N=T) :
  ∃L',Md n K L (k:Int)=some (L',0)/\VQ L' (Lq W N k v) (T*P ^ k) N:=by
 have hs:=cm hn;have hN:=hK.n1;have hP:=hK.pos;have hPk:0<P ^ k:=Nat.pow_pos (OW hP);have hTb:T<2 ^ 440:=Pu (Nat.le_mul_of_pos_right T hPk) hTP;have hvi:∀i,i<N->v i<2 ^ 440:=fun i hi=>Pu (hv▸iR hi) hTb;have h1:=bI (body:=yI n L) N (fun(_:RS) (v:Int)=>v) (fun _=>(.inr ():Int⊕RS)) (fun _ _=>True) (fun s i hi _=>by
  obtain⟨x,e,l,k,rfl,q⟩:=hL.at_ i hi;refine⟨(),?_,trivial⟩;unfold yI;rw[hL.len,RJ,aB hi,aY,OC,e,al]
  unfold uq
  dsimp only
  unfold Hr;rw[pw hn q hT hTb (hvi i hi),al,OY rfl,OS,al,cz,RL]) (fun s _=>by
  unfold yI;rw[hL.len,RK]) (n:=n) (s:=()) trivial (by omega)
 obtain⟨_,h1,_⟩:=h1;have h2:=bI (body:=uH n L) N (fun(s:RR Rt) (v:Int)=>(s,v)) id (fun i s=>RQ s v T i) (fun s i hi hq=>by
  obtain⟨x,e,l,k,rfl,q⟩:=hL.at_ i hi;obtain⟨l2,k0⟩:=q.qb hT hTb (hvi i hi);refine⟨s++[(false,l,false,k)],?_,⟨by rw[OU,hq.len]; rfl,fun j hj=>?_⟩⟩
  have hlim:lim (s++([(false,l,false,k)]:RR Rt)).length=true:=O9 (by rw[OU,hq.len,PS]; omega)
  unfold uH
  dsimp only
  rw[hL.len,RJ,aB hi,aY,OC,e,al]
  unfold uq
  dsimp only
  rw[ff (by omega) q.num q.den l2 k0,al]
  dsimp only
  rw[hlim,aY,RL]
  by_cases c:j=i
  subst c;exact⟨l,k,by rw[O2 (by rw[hq.len]; exact OF _),hq.len,Qa]; rfl,q⟩
  obtain⟨l',k',e1,e2⟩:=hq.at_ j (by omega)
  exact⟨l',k',by rw[Pj (by rw[hq.len]; omega)]; exact e1,e2⟩) (fun s hq=>by
  unfold uH
  dsimp only
  rw[hL.len,RK]; rfl) (n:=n) (s:=[]) ⟨rfl,fun i hi=>O6 hi (by omega)⟩ (by omega)
 obtain⟨s,h2,hq⟩:=h2;obtain⟨x',g0,g1⟩:=GA hn hK hq hT hk hTP hv;obtain⟨L',g2,g3⟩:=re hn g1 (Pa hT (Nat.pos_iff_ne_zero.1 hPk)) hTP (fun i hi=>Pu (O3 (iR hi) (Nat.le_of_eq (by rw[AU hK,hv]))) hTP) hN
 refine⟨L',?_,g3⟩;unfold Md;rw[hC,al,OY rfl,OS,cz,h1]
 show ob (ob (ob (some (-1:Int)) fun v0=>some (decide (0<=v0))) _) _=_
 rw[al,al,show decide ((0:Int)<=-1)=false from rfl,al,cz,hL.len,hK.len,OY rfl,OS,cz,BC hn hL hT hTb hv hN,al,OS,cz,RK,Pm (by omega),al,cz,show cy (uH n L) n (([]:RR Rt),0)=_ from h2,al,id,hq.len,g0,al]
 dsimp only
 rw[g2,al]
end
def pd(f:Nat->Nat):Nat->Nat
 | 0=>1
 | k+1=>pd f k*f k
def Ah{f:Nat->Nat}{i:Nat}:∀{N:Nat},i<N->f i∣pd f N
 | 0,h=>O6 h (by omega)
 | N+1,h=>by
  rw[pd]
  by_cases e:i=N
  subst e; exact Nat.dvd_mul_left _ _
  exact Nat.dvd_trans (Ah (N:=N) (by omega)) (Nat.dvd_mul_right _ _)
def A9{f:Nat->Nat}:∀{N:Nat},(∀i,i<N->f i≠0)->pd f N≠0
 | 0,_=>(by show(1:Nat)≠0; decide)
 | N+1,h=>Pa (A9 fun i hi=>h i (by omega)) (h N (by omega))
def GG{f:Nat->Nat}{c:Nat}:∀{N:Nat},(∀i,i<N->f i<=c)->pd f N<=c ^ N
 | 0,_=>OF _
 | N+1,h=>by rw[pd,PK]; exact Pe (GG fun i hi=>h i (by omega)) (h N (by omega))
def IN:∀(l:RR Nat),sm (fun j=>l.getD j 0) l.length=l.sum:=by
 have h:∀(l:RR Nat) (k:Nat),k<=l.length->sm (fun j=>l.getD j 0) k=(l.take k).sum:=by
  intro l k
  induction k with
  | zero=>intro _; rfl
  | succ k ih =>
   intro hk;have hk':k<l.length:=by omega
   rw[sm,ih (by omega),List.take_succ_eq_append_getElem hk',List.sum_append,List.sum_singleton,PB,OG hk']; rfl
 intro l;rw[h l _ (OF _),List.take_length]
def HL{M:RR (RR Nat)}(hM:RowsOk M)(h0:M.length<=4)(h4:∀l∈M,l.sum<21):∃W P,KQ (Ds M) W P M.length/\P<=160000:=by
 have hrow:∀i,i<M.length->M.getD i []∈M:=fun i hi=>by rw[PB,OG hi]; exact Ql hi
 have hS0:∀i,i<M.length->(M.getD i []).sum≠0:=fun i hi=>(hM.row _ (hrow i hi)).2.1;have hP0:pd (fun i=>(M.getD i []).sum) M.length≠0:=A9 hS0;have hle:pd (fun i=>(M.getD i []).sum) M.length<=20 ^ M.length:=GG fun i hi=>by have:=h4 _ (hrow i hi); omega
 have h5:(20:Nat) ^ M.length<=20 ^ 4:=O8 (by decide) h0
 have hdv:=fun i (hi:i<M.length)=>Ah (f:=fun i=>(M.getD i []).sum) hi;generalize hPP:pd (fun i=>(M.getD i []).sum) M.length=P at *;refine⟨fun i j=>(M.getD i []).getD j 0*(P/(M.getD i []).sum),P,⟨by unfold Ds; rw[O7],fun i hi=>?_,fun i hi=>?_,hP0,by omega⟩,by omega⟩
 obtain⟨r0,r2,r1⟩:=hM.row _ (hrow i hi);have hd:=hdv i hi;have e0:(Ds M)[i]? = some (wx (M.getD i []).sum (M.getD i [])):=by
  unfold Ds;rw[O1,PB,OG hi]; rfl
 refine⟨_,e0,by unfold wx; rw[O7,r0],fun j hj=>?_⟩
 have hj':j<(M.getD i []).length:=by omega
 have e1:(M.getD i []).getD j 0=(M.getD i [])[j]:=by rw[PB,OG hj']; rfl
 have hx:=FE (Ql hj');refine⟨sh (bU (M.getD i []).sum (M.getD i [])[j]),by unfold wx; rw[O1,OG hj']; rfl,?_⟩
 refine(F9 r2 r1 (by omega)).same r2 hP0 ?_
 show(M.getD i [])[j]*P=(M.getD i []).getD j 0*(P/(M.getD i []).sum)*(M.getD i []).sum
 rw[e1,OO,PY hd]
 obtain⟨r0,r2,r1⟩:=hM.row _ (hrow i hi)
 show sm (fun j=>(M.getD i []).getD j 0*(P/(M.getD i []).sum)) M.length=P
 rw[w9,<-r0,IN,ON,PY (hdv i hi)]
section
variable{n:Nat}
def VQ.uniq{L L':RR Sh}{v u:Nat->Nat}{T U N:Nat}(h:VQ L v T N)(h':VQ L' u U N)(hT:T≠0)(hU:U≠0)(e:∀i,i<N->v i*U=u i*T):L=L':=by
 refine Qg fun i=>?_
 by_cases hi:i<N
 obtain⟨x,e1,q1⟩:=h.at_ i hi;obtain⟨y,e2,q2⟩:=h'.at_ i hi;rw[e1,e2,q1.uniq q2 hT hU (e i hi)]
 rw[Pp (by rw[h.len]; omega),Pp (by rw[h'.len]; omega)]
def Bb(L:RR Sh)(hL:L.length<1000000)(hn:1000000<n):M8 n L L=some true:=by
 have h1:=bI (body:=xz n L L) L.length (fun(_:RS) (v:Int)=>v) (fun _=>(.inr ():RS⊕RS)) (fun _ _=>True) (fun s i hi _=>by
  have e:L[i]? = some L[i]:=OG hi;generalize L[i]=x at e;obtain⟨x1,x2,x3,x4,x5,x6,x7,x8,x9,x10,x11,x12,x13,x14,x15,x16⟩:=x;refine⟨(),?_,trivial⟩;unfold xz;rw[RJ,aB hi,aY,OC,e,al]
  dsimp only
  rw[aY,al]
  dsimp only
  simp only[decide_true,PA,OS,cz];rw[RL]) (fun s _=>by
  unfold xz;rw[RK]) (n:=n) (s:=()) trivial (by omega)
 obtain⟨_,h1,_⟩:=h1;unfold M8;rw[OY rfl,OS,cz,h1]; rfl
def Dr(hn:2 ^ 2000<n){L:RR Sh}{N:Nat}(hLN:L.length=N)(hN:N<=1000)(h:∀i,i<N->∃x a T,L[i]? = some x/\CS x a T/\T≠0/\T<2 ^ 440/\a<2 ^ 440):CM n L=some true:=by
 have hs:=cm hn;have h1:=bI (body:=qN n L) N (fun(_:RS) (v:Int)=>v) (fun _=>(.inr ():RS⊕RS)) (fun _ _=>True) (fun s i hi _=>by
  obtain⟨x,a,T,e,⟨l,k,rfl,q⟩,hT,hTb,ha⟩:=h i hi;refine⟨(),?_,trivial⟩;unfold qN;rw[hLN,RJ,aB hi,aY,OC,e,al]
  unfold uq
  dsimp only
  unfold IB;rw[pw hn q hT hTb ha,al,OY rfl,al,OS,cz,RL]) (fun s _=>by
  unfold qN;rw[hLN,RK]) (n:=n) (s:=()) trivial (by omega)
 obtain⟨_,h1,_⟩:=h1;unfold CM;rw[h1]; rfl
def CR(hn:2 ^ 2000<n){x y:Sh}{a T b U:Nat}(h:CS x a T)(h':CS y b U)(hT:T≠0)(hU:U≠0)(hTb:T<2 ^ 440)(hUb:U<2 ^ 440)(ha:a<2 ^ 440)(hb:b<2 ^ 440):CM n [x,y]=some true:=by
 refine Dr hn (N:=2) rfl (by decide) fun i hi=>?_
 match i,hi with
 | 0,_=>exact⟨x,a,T,rfl,h,hT,hTb,ha⟩
 | 1,_=>exact⟨y,b,U,rfl,h',hU,hUb,hb⟩
abbrev f32{β:Type}(f:Nat->Nat->Nat->Nat->Nat->Nat->Nat->Nat->Nat->Nat->Nat->Nat->Nat->Nat->Nat->Nat->Nat->Nat->Nat->Nat->Nat->Nat->Nat->Nat->Nat->Nat->Nat->Nat->Nat->Nat->Nat->Nat->β)(x y:Sh):β:=f x.1 x.2.1 x.2.2.1 x.2.2.2.1 x.2.2.2.2.1 x.2.2.2.2.2.1 x.2.2.2.2.2.2.1 x.2.2.2.2.2.2.2.1 x.2.2.2.2.2.2.2.2.1 x.2.2.2.2.2.2.2.2.2.1 x.2.2.2.2.2.2.2.2.2.2.1 x.2.2.2.2.2.2.2.2.2.2.2.1 x.2.2.2.2.2.2.2.2.2.2.2.2.1 x.2.2.2.2.2.2.2.2.2.2.2.2.2.1 x.2.2.2.2.2.2.2.2.2.2.2.2.2.2.1 x.2.2.2.2.2.2.2.2.2.2.2.2.2.2.2 y.1 y.2.1 y.2.2.1 y.2.2.2.1 y.2.2.2.2.1 y.2.2.2.2.2.1 y.2.2.2.2.2.2.1 y.2.2.2.2.2.2.2.1 y.2.2.2.2.2.2.2.2.1 y.2.2.2.2.2.2.2.2.2.1 y.2.2.2.2.2.2.2.2.2.2.1 y.2.2.2.2.2.2.2.2.2.2.2.1 y.2.2.2.2.2.2.2.2.2.2.2.2.1 y.2.2.2.2.2.2.2.2.2.2.2.2.2.1 y.2.2.2.2.2.2.2.2.2.2.2.2.2.2.1 y.2.2.2.2.2.2.2.2.2.2.2.2.2.2.2
end
end
section
open Go Go.Ab Go.Ab.W
inductive RT(E:Nat->Nat->Prop)(a:Nat):Nat->Prop
 | refl:RT E a a
 | step {b c:Nat} (h:RT E a b) (e:E b c):RT E a c
def Oy(M:RR (RR Nat))(i j:Nat):Nat:=(M.getD i []).getD j 0
def Ed(M:RR (RR Nat))(i j:Nat):Prop:=i<M.length/\j<M.length/\Oy M i j≠0
section
variable{n:Nat}{M:RR (RR Nat)}
structure Wl(N:Nat)(l:RR Nat):Prop where
 len:l.length=N
 lt:∀i,i<N->l.getD i 0<2 ^ 60
end
def Oz(M:RR (RR Nat))(a b:Nat):Prop:=RT (Ed M) a b/\RT (Ed M) b a
section
variable{n:Nat}{M:RR (RR Nat)}
structure Cls(M:RR (RR Nat))(i:Nat)(c:RR Nat)(nx:Nat):Prop where
 len:c.length=M.length
 lt:∀a,a<i->c.getD a 0<nx
 eq:∀a,a<i->∀b,b<i->(c.getD a 0=c.getD b 0↔Oz M a b)
 all:∀v,v<nx->∃a,a<i/\c.getD a 0=v
 new:∀a,a<i->c.getD a 0=0\/∃b,b<a/\c.getD b 0+1=c.getD a 0
 nx:nx<=i
end
set_option exponentiation.threshold 3000
section
variable{n:Nat}
def IT(l:RR Nat){N:Nat}(h1:1<=N)(h4:N<=4):∃M,dM l N=Ds M/\M.length=N/\RowsOk M/\∀r∈M,r.sum<21:=by
 refine⟨(List.range N).map fun i=>jh l N i,?_,by simp,⟨by simp; omega,fun r hr=>?_⟩,fun r hr=>?_⟩
 unfold dM Ds;rw[List.map_map]; rfl
 obtain⟨i,hi,rfl⟩:=Qw.1 hr;obtain⟨d1,d2,d3,d4⟩:=uS l h4 (P7.1 hi);exact⟨by simp[d1],d3,by omega⟩
 obtain⟨i,hi,rfl⟩:=Qw.1 hr;exact(uS l h4 (P7.1 hi)).2.2.2
end
def LP:Nat:=2 ^ 2000+1
def Hm:2 ^ 2000<LP:=PD _
section
variable{n:Nat}
def Q.over(hn:2 ^ 2000<n){l k l' k':RR Nat}{a T b U:Nat}(h:Q l k a T)(h':Q l' k' b U)(hT:T≠0)(hU:U≠0)(hb0:b≠0)(hTb:T<2 ^ 900)(hUb:U<2 ^ 900)(ha:a<2 ^ 900)(hb:b<2 ^ 900) :
  ∃m p,CP n false l false k false l' false k'=some (false,m,false,p)/\Q m p (a*U) (T*b):=by
 have h9:=FX;obtain⟨l1,k1⟩:=h.len hT hTb ha;obtain⟨l2,k2⟩:=h'.len hU hUb hb;obtain⟨p1,q1,q01⟩:=fD (a:=a) hT;obtain⟨p2,q2,q02⟩:=fD (a:=b) hU;have p02:(bU U b).1≠0:=(NK hU).2 hb0;have e1:=(fW (h:=a) hT).2.2.2.2;have e2:=(fW (h:=b) hU).2.2.2.2;obtain⟨m1,f1,g1⟩:=iB hn h.num h'.den (by omega) (by omega)
 obtain⟨m3,f3,g3⟩:=iB hn h.den h'.num (by omega) (by omega)
 have x1:=fg (a:=(bU T a).1) (b:=(bU U b).2) (by omega) (by omega)
 have x3:=fg (a:=(bU T a).2) (b:=(bU U b).1) (by omega) (by omega)
 have y1:=jD g1 (by omega)
 have y3:=jD g3 (by omega)
 have z0:(bU T a).2*(bU U b).1≠0:=Pa q01 p02;have hs:=cm hn;obtain⟨m,p,f5,g5,g6⟩:=ov (n:=n) (by omega) (by omega) z0 g1 g3 (by omega) (by omega)
 have key:bU ((bU T a).2*(bU U b).1) ((bU T a).1*(bU U b).2)=bU (T*b) (a*U):=by
  refine pC z0 (Pa hT hb0) ?_;generalize(bU T a).1=p at *;generalize(bU T a).2=q at *;generalize(bU U b).1=r at *;generalize(bU U b).2=s at *;have h1:p*s*(T*b)=(p*T)*(b*s):=by simp only[OO,ON,OP]
  rw[h1,e1,<-e2];simp only[OO,ON,OP]
 refine⟨m,p,?_,⟨by rw[<-key]; exact g5,by rw[<-key]; exact g6⟩⟩
 unfold CP;rw[f1,al]
 dsimp only
 rw[f3,al]
 dsimp only
 rw[f5,al]
def Q.minus(hn:2 ^ 2000<n){l k l' k':RR Nat}{a T b U:Nat}(h:Q l k a T)(h':Q l' k' b U)(hT:T≠0)(hU:U≠0)(hTb:T<2 ^ 900)(hUb:U<2 ^ 900)(ha:a<2 ^ 900)(hb:b<2 ^ 900)(hle:b*T<=a*U) :
  ∃m p,Dn n false l false k false l' false k'=some (false,m,false,p)/\Q m p (a*U-b*T) (T*U):=by
 have h9:=FX;obtain⟨l1,k1⟩:=h.len hT hTb ha;obtain⟨l2,k2⟩:=h'.len hU hUb hb;obtain⟨p1,q1,q01⟩:=fD (a:=a) hT;obtain⟨p2,q2,q02⟩:=fD (a:=b) hU;have e1:=(fW (h:=a) hT).2.2.2.2;have e2:=(fW (h:=b) hU).2.2.2.2;have hs:=cm hn;obtain⟨u,mt,t1,t2⟩:=Bv (n:=n) h'.num (by omega) (by omega)
 have lt:=t2.km (k:=15) (by rw[Int.natAbs_neg,Pd]; have:=FW; omega)
 obtain⟨m1,f1,g1⟩:=iB hn h.num h'.den (by omega) (by omega)
 obtain⟨u2,m2,f2,g2⟩:=F0 (n:=n) t2 h.den (by omega) (by omega) (by omega)
 obtain⟨m3,f3,g3⟩:=iB hn h.den h'.den (by omega) (by omega)
 have x1:=fg (a:=(bU T a).1) (b:=(bU U b).2) (by omega) (by omega)
 have x2:=fg (a:=(bU U b).1) (b:=(bU T a).2) (by omega) (by omega)
 have x3:=fg (a:=(bU T a).2) (b:=(bU U b).2) (by omega) (by omega)
 have y1:=jD g1 (by omega)
 have y3:=jD g3 (by omega)
 have y2:m2.length<=30:=g2.km (by
  rw[Int.neg_mul,Int.natAbs_neg,<-Qk,Pd];exact Nat.lt_trans (by omega) MJ)
 have hcr:(bU U b).1*(bU T a).2<=(bU T a).1*(bU U b).2:=by
  refine Nat.le_of_mul_le_mul_right (c:=T*U) ?_ (OW (Pa hT hU));generalize(bU T a).1=p at *;generalize(bU T a).2=q at *;generalize(bU U b).1=r at *;generalize(bU U b).2=s at *;have h1:r*q*(T*U)=(r*U)*(q*T):=by simp only[OO,ON,OP]
  have h2:p*s*(T*U)=(p*T)*(s*U):=by simp only[OO,ON,OP]
  rw[h1,h2,e1,e2];have h3:b*s*(q*T)=(b*T)*(s*q):=by simp only[OO,ON,OP]
  have h4:a*q*(s*U)=(a*U)*(s*q):=by simp only[OO,ON,OP]
  rw[h3,h4];exact Ph _ hle
 obtain⟨u4,m4,f4,g4⟩:=wv (n:=n) g1 g2 (by omega) (by omega) (by omega)
 have e4:((((bU T a).1*(bU U b).2:Nat):Int) + -(((bU U b).1:Nat):Int)*(((bU T a).2:Nat):Int))=((((bU T a).1*(bU U b).2-(bU U b).1*(bU T a).2:Nat)):Int):=by
  rw[Int.neg_mul,<-Qk]; omega
 rw[e4] at g4;have:=g4.un;subst this;have y4:=jD g4 (by omega)
 have z0:(bU T a).2*(bU U b).2≠0:=Pa q01 q02;obtain⟨m,p,f5,g5,g6⟩:=ov (n:=n) (by omega) (by omega) z0 g4 g3 (by omega) (by omega)
 have key:bU ((bU T a).2*(bU U b).2) ((bU T a).1*(bU U b).2-(bU U b).1*(bU T a).2)=bU (T*U) (a*U-b*T):=by
  refine pC z0 (Pa hT hU) ?_;generalize(bU T a).1=p at *;generalize(bU T a).2=q at *;generalize(bU U b).1=r at *;generalize(bU U b).2=s at *;have h1:(p*s-r*q)*(T*U)=(p*T)*(s*U)-(r*U)*(q*T):=by
   rw[Nat.sub_mul]; congr 1<;>simp only[OO,ON,OP]
  rw[h1,e1,e2,Nat.sub_mul]
  congr 1<;>simp only[OO,ON,OP]
 refine⟨m,p,?_,⟨by rw[<-key]; exact g5,by rw[<-key]; exact g6⟩⟩
 unfold Dn I5;rw[t1,al]
 dsimp only
 rw[al]
 dsimp only
 unfold wA;rw[f1,al]
 dsimp only
 rw[f2,al]
 dsimp only
 rw[f4,al]
 dsimp only
 rw[f3,al]
 dsimp only
 rw[f5,al]
 dsimp only
 rw[al]
def Q.cmp(hn:2 ^ 2000<n){l k l' k':RR Nat}{a T b U:Nat}(h:Q l k a T)(h':Q l' k' b U)(hT:T≠0)(hU:U≠0)(hTb:T<2 ^ 900)(hUb:U<2 ^ 900)(ha:a<2 ^ 900)(hb:b<2 ^ 900) :
  ∃r,xb n false l false k false l' false k'=some r/\(r<0↔a*U<b*T)/\(r=0↔a*U=b*T):=by
 have h9:=FX;obtain⟨l1,k1⟩:=h.len hT hTb ha;obtain⟨l2,k2⟩:=h'.len hU hUb hb;obtain⟨p1,q1,q01⟩:=fD (a:=a) hT;obtain⟨p2,q2,q02⟩:=fD (a:=b) hU;have e1:=(fW (h:=a) hT).2.2.2.2;have e2:=(fW (h:=b) hU).2.2.2.2;have hs:=cm hn;obtain⟨m1,f1,g1⟩:=iB hn h.num h'.den (by omega) (by omega)
 obtain⟨m2,f2,g2⟩:=iB hn h'.num h.den (by omega) (by omega)
 have x1:=fg (a:=(bU T a).1) (b:=(bU U b).2) (by omega) (by omega)
 have x2:=fg (a:=(bU U b).1) (b:=(bU T a).2) (by omega) (by omega)
 have y1:=jD g1 (by omega)
 have y2:=jD g2 (by omega)
 obtain⟨u,m,f3,g3⟩:=HF (n:=n) g1 g2 (by omega) (by omega) (by omega)
 obtain⟨r,f4,g4,g5⟩:=oY (n:=n) g3;have hTU:0<T*U:=OW (Pa hT hU);have k1:(bU T a).1*(bU U b).2*(T*U)=(a*U)*((bU T a).2*(bU U b).2):=by
  generalize(bU T a).1=p at *;generalize(bU T a).2=q at *;generalize(bU U b).2=s at *;have h2:p*s*(T*U)=(p*T)*(s*U):=by simp only[OO,ON,OP]
  rw[h2,e1]; simp only[OO,ON,OP]
 have k2:(bU U b).1*(bU T a).2*(T*U)=(b*T)*((bU T a).2*(bU U b).2):=by
  generalize(bU U b).1=r at *;generalize(bU T a).2=q at *;generalize(bU U b).2=s at *;have h2:r*q*(T*U)=(r*U)*(q*T):=by simp only[OO,ON,OP]
  rw[h2,e2]; simp only[OO,ON,OP]
 have hqs:0<(bU T a).2*(bU U b).2:=OW (Pa q01 q02);have hlt:(bU T a).1*(bU U b).2<(bU U b).1*(bU T a).2↔a*U<b*T:=by
  rw[<-Nat.mul_lt_mul_right (a0:=hTU),k1,k2,Nat.mul_lt_mul_right (a0:=hqs)]
 have heq:(bU T a).1*(bU U b).2=(bU U b).1*(bU T a).2↔a*U=b*T:=by
  constructor
  intro e;rw[e,k2] at k1;exact(Nat.eq_of_mul_eq_mul_right hqs k1).symm
  intro e;rw[e,<-k2] at k1;exact Nat.eq_of_mul_eq_mul_right hTU k1
 refine⟨r,?_,?_,?_⟩
 unfold xb;rw[f1,al]
 dsimp only
 rw[f2,al]
 dsimp only
 unfold Dz;rw[f3,al]
 dsimp only
 rw[f4,al,al]
 rw[g4,<-hlt]; omega
 rw[g5,<-heq]; omega
abbrev L4:=R8
def w8(t:Nat):L4:=(t,0,0,0,0,0,0,0)
def tw(l:RR Nat)(i:Nat):Nat:=if i<l.length then 1+l.getD i 0%9 else 1
def jk(l:RR Nat)(i:Nat):1<=tw l i/\tw l i<=9:=by
 unfold tw;have:=Pw (l.getD i 0) (show 0<9 by decide)
 split<;>omega
def KD(o:RI L4)(t:Nat):Bool :=
 match o with
 | some (a,b1,b2,b3,b4,b5,b6,b7)=>Nat.beq a t&&[b1,b2,b3,b4,b5,b6,b7].all (Nat.beq 0)
 | none=>false
def IW{o:RI L4}{t:Nat}(h:KD o t=true):o=some (w8 t):=by
 unfold KD at h
 split at h
 simp only[PI,List.all_nil,OD,and_true] at h;obtain⟨h1,h2,h3,h4,h5,h6,h7,h8⟩:=h;rw[OE h1,<-OE h2,<-OE h3,<-OE h4,<-OE h5,<-OE h6,<-OE h7,<-OE h8]; rfl
 cases h
set_option maxRecDepth 100000 in
def JM(m:Nat):(List.range 10).all (fun t=>KD (EV (m+300) (t:Int)) t)=true:=by kernel_rfl
def Ov(hn:300<=n){t:Nat}(ht:t<10):EV n (t:Int)=some (w8 t):=by
 obtain⟨m,rfl⟩:∃m,n=m+300:=⟨n-300,by omega⟩
 exact IW (OV.1 (JM m) t (P7.2 ht))
def w6(o:RI Int):Bool :=
 match o with
 | some r=>decide (0<=r)
 | none=>false
def tB{o:RI Int}(h:w6 o=true):∃r,o=some r/\0<=r:=by
 unfold w6 at h
 split at h
 exact⟨_,rfl,of_decide_eq_true h⟩
 cases h
set_option maxRecDepth 100000 in
def IM(m:Nat):(List.range 10).all (fun t=>Nat.beq t 0 ||(w6 (C7 (m+300) t 0 0 0 0 0 0 0 0 0 0 0 0 0 0 0)&&w6 (C7 (m+300) t 0 0 0 0 0 0 0 1 0 0 0 0 0 0 0)))=true:=by kernel_rfl
def MS(hn:300<=n){t:Nat}(h0:1<=t)(ht:t<=9){x:Nat}(hx:x<=1):∃r,C7 n t 0 0 0 0 0 0 0 x 0 0 0 0 0 0 0=some r/\0<=r:=by
 obtain⟨m,rfl⟩:∃m,n=m+300:=⟨n-300,by omega⟩
 have h:=OV.1 (IM m) t (P7.2 (by omega))
 rw[PN,OD] at h;rcases h with h|⟨h1,h2⟩
 have:=OE h; omega
 ·match x,hx with
  | 0,_=>exact tB h1
  | 1,_=>exact tB h2
def vV(l:RR Nat)(N:Nat):RR L4:=(List.range N).map fun i=>w8 (tw l i)
def lA(l:RR Nat)(N:Nat):(vV l N).length=N:=by unfold vV; simp
def J6(l:RR Nat){N i:Nat}(h:i<N):(vV l N)[i]? = some (w8 (tw l i)):=by unfold vV; rw[O1,List.getElem?_range h]; rfl
def Ad(hn:300<=n)(x:Nat)(l:RR Nat){N:Nat}(hN:N<=100):MU n x l (N:Int)=some (vV l N):=by
 have h:=bI (body:=ux n (N:Int) l) N (fun(s:RR L4) (v:Int)=>(s,v)) id (fun i s=>s=vV l i) (fun s i hi hs=>?_) (fun s _=>?_) (n:=n) (s:=[]) rfl (by omega)
 obtain⟨s,h1,rfl⟩:=h;unfold MU;rw[show cy (ux n (N:Int) l) n (([]:RR L4),0)=_ from h1]; rfl
 subst hs;obtain⟨t0,t1⟩:=jk l i;refine⟨vV l (i+1),?_,rfl⟩;have e1:(br (decide (((i:Nat):Int)<(l.length:Int))) (gd (bY ((i:Nat):Int) l.length) (ob (l[(((i:Nat):Int)).toNat]?) fun x3=>some (QU (1+(QU ((x3%9:Nat):Int)))))) (some 1))=some ((tw l i:Nat):Int):=by
  unfold tw
  by_cases c:i<l.length
  have hm:=Pw l[i] (show 0<9 by decide)
  rw[RJ,aB c,aY,OC,OG c,al,aH (x:=((l[i]%9:Nat):Int)) (by omega) (by omega),aH (by omega) (by omega),OM c,PB,OG c]
  simp only[Option.getD_some,Option.some.injEq]; omega
  rw[RK,OJ c]; rfl
 have e2:vV l i++[w8 (tw l i)]=vV l (i+1):=by unfold vV; rw[List.range_succ,List.map_append]; rfl
 have hlim:lim (vV l (i+1)).length=true:=O9 (by rw[lA]; omega)
 unfold ux
 dsimp only
 rw[RJ,e1,al,Ov hn (show tw l i<10 by omega),al]
 unfold w8 at e2 ⊢
 dsimp only
 rw[e2,hlim,aY,RL]
 unfold ux
 dsimp only
 rw[RK]; rfl
def NX(hn:300<=n){x:Nat}(hx:x<=1):M4 n (x:Int)=some (w8 x):=by
 match x,hx with
 | 0,_=>rfl
 | 1,_=>rfl
def pn(hn:1000<n)(l:RR Nat){N:Nat}(hN:N<=100){x:Nat}(hx:x<=1):zY n (vV l N) (x:Int)=some false:=by
 have h:=bI (body:=sq n (vV l N) (x:Int)) N (fun(_:RS) (v:Int)=>v) (fun _=>(.inr ():Int⊕RS)) (fun _ _=>True) (fun s i hi _=>?_) (fun s _=>?_) (n:=n) (s:=()) trivial (by omega)
 obtain⟨_,h1,_⟩:=h;unfold zY;rw[h1]; rfl
 obtain⟨t1,t9⟩:=jk l i;obtain⟨r,f1,f2⟩:=MS (n:=n) (by omega) t1 t9 hx
 refine⟨(),?_,trivial⟩;unfold sq;rw[lA,RJ,aB hi,aY,OC,J6 l hi,al]
 unfold w8
 dsimp only
 rw[NX (by omega) hx,al]
 unfold w8
 dsimp only
 rw[f1,al,Pm (by omega),al,cz,RL]
 unfold sq;rw[lA,RK]
def MA{t:Nat}(ht:t≠0)(hb:t<18446744073709551616):Q [t] [1] t 1:=by
 have e:bU 1 t=(t,1):=by unfold bU; rw[Nat.gcd_one_right,Nat.div_one,Nat.div_one]
 exact⟨by rw[e]; exact Lg.small ht hb false,by rw[e]; exact qL⟩
def rD(hn:1000000<n)(l:RR Nat){N:Nat}(hN:N<=100):∃R,Af n (vV l N)=some R/\RQ R (tw l) 1 N:=by
 have h:=bI (body:=po n (vV l N)) N (fun(s:RR Rt) (v:Int)=>(s,v)) id (fun i s=>RQ s (tw l) 1 i) (fun s i hi hq=>?_) (fun s _=>?_) (n:=n) (s:=[]) ⟨rfl,fun i hi=>O6 hi (by omega)⟩ (by omega)
 obtain⟨s,h1,h2⟩:=h;refine⟨s,?_,h2⟩;unfold Af;rw[show cy (po n (vV l N)) n (([]:RR Rt),0)=_ from h1]; rfl
 obtain⟨t1,t9⟩:=jk l i;have q:=MA (t:=tw l i) (by omega) (by omega)
 refine⟨s++[(false,[tw l i],false,[1])],?_,⟨by rw[OU,hq.len]; rfl,fun j hj=>?_⟩⟩
 have hlim:lim (s++([(false,[tw l i],false,[1])]:RR Rt)).length=true:=O9 (by rw[OU,hq.len,PS]; omega)
 have h88:Jo n (tw l i) 0 0 0 0 0 0 0=some (false,[tw l i]):=pj (l:=[tw l i]) (v:=tw l i) (by omega) (Lg.small (by omega) (by omega) false) (by simp)
 unfold po
 dsimp only
 rw[lA,RJ,aB hi,aY,OC,J6 l hi,al]
 unfold w8
 dsimp only
 rw[h88,al]
 dsimp only
 unfold AJ;rw[oc (by omega),al]
 dsimp only
 rw[al]
 dsimp only
 rw[hlim,aY,RL]
 by_cases c:j=i
 subst c;exact⟨_,_,by rw[O2 (by rw[hq.len]; exact OF _),hq.len,Qa]; rfl,q⟩
 obtain⟨l',k',e1,e2⟩:=hq.at_ j (by omega)
 exact⟨l',k',by rw[Pj (by rw[hq.len]; omega)]; exact e1,e2⟩
 unfold po
 dsimp only
 rw[lA,RK]; rfl
end
structure Wt(t r:Nat->Nat)(R N:Nat):Prop where
 pos:∀i,i<N->1<=t i/\t i<=9
 mul:∀i,i<N->t i*r i=R
 rpos:R≠0
 rle:R<=6561
def Aw(W:Nat->Nat->Nat)(t r:Nat->Nat)(R:Nat)(i j:Nat):Nat:=min (W i j*R) (W j i*t j*r i)
def gone(W:Nat->Nat->Nat)(t r:Nat->Nat)(R:Nat)(i k:Nat):Nat:=sm (fun j=>if i=j then 0 else Aw W t r R i j) k
def sG(W:Nat->Nat->Nat)(t r:Nat->Nat)(R P N:Nat)(i j:Nat):Nat:=if i=j then P*R-gone W t r R i N else Aw W t r R i j
section
variable{n:Nat}{K:RR (RR Sh)}{W:Nat->Nat->Nat}{P N:Nat}{t r:Nat->Nat}{R:Nat}
def Az(i j:Nat):Aw W t r R i j<=W i j*R:=Nat.min_le_left _ _
def wu(hK:KQ K W P N){i:Nat}(hi:i<N):gone W t r R i N+W i i*R<=P*R:=by
 have h:∀k,gone W t r R i k+(if i<k then W i i*R else 0)<=sm (W i) k*R:=by
  intro k
  induction k with
  | zero=>simp[gone,sm]
  | succ k ih =>
   unfold gone at *;rw[sm,sm,Po]
   by_cases e:i=k
   subst e;rw[OM rfl,QX]
   rw[QW] at ih
   omega
   rw[OJ e];have:=Az (W:=W) (t:=t) (r:=r) (R:=R) i k
   by_cases c:i<k
   rw[OM c] at ih; rw[QX]; omega
   rw[OJ c] at ih; rw[QW]; omega
 have:=h N;rw[OM hi,hK.sum i hi] at this;exact this
def DM{i k:Nat}(h:k<=N):gone W t r R i k<=gone W t r R i N:=tH h
def Bi(hK:KQ K W P N){i:Nat}(hi:i<N):sm (sG W t r R P N i) N=P*R:=by
 have hle:=wu (t:=t) (r:=r) (R:=R) hK hi;have h:∀k,k<=N->sm (sG W t r R P N i) k=gone W t r R i k+if i<k then P*R-gone W t r R i N else 0:=by
  intro k
  induction k with
  | zero=>intro _; simp[gone,sm]
  | succ k ih =>
   intro hk;have ih:=ih (by omega)
   unfold gone at *;rw[sm,sm,ih];unfold sG gone
   by_cases e:i=k
   ·subst e;rw[OM rfl,OM rfl,QW,QX]
    try omega
   rw[OJ e,OJ e]
   by_cases c:i<k
   rw[OM c,QX]; omega
   rw[OJ c,QW]; omega
 rw[h N (OF _),OM hi];omega
def Gw(hn:2 ^ 2000<n)(hK:KQ K W P N)(hPb:P<2 ^ 100)(hN4:N<=4)(hw:Wt t r R N){L:RR Rt}(hL:RQ L t 1 N){i:Nat}(hi:i<N) :
  ∃row l k,cy (um n K (i:Int) L) n (List.replicate N ((false,[],false,[]):Rt),false,[1],false,[1],0)=some (row,false,l,false,k)/\RQ row (Aw W t r R i) (P*R) N/\Q l k (P*R-gone W t r R i N) (P*R):=by
 have hs:=cm hn;have h5:=DP;have hP:=hK.pos;have hR:=hw.rpos;have hRle:=hw.rle;have hPR:P*R≠0:=Pa hP hR;have c0:(2:Nat) ^ 100*6561<2 ^ 400:=by decide +kernel
 have c1:(2:Nat) ^ 400*2 ^ 400<2 ^ 900:=by decide +kernel
 have c2:(2:Nat) ^ 100*81<2 ^ 400:=by decide +kernel
 have c3:(2:Nat) ^ 400<2 ^ 440:=by decide +kernel
 have hPRb:P*R<2 ^ 400:=Pu (Pe (P3 hPb) hRle) c0;have hW:∀a b,a<N->b<N->W a b<=P:=fun a b ha hb=>hK.sum a ha▸iR hb;have hgle:=wu (t:=t) (r:=r) (R:=R) hK hi;have hgm:∀k,k<=N->gone W t r R i k<=P*R:=fun k hk=>by
  have:=DM (W:=W) (t:=t) (r:=r) (R:=R) (i:=i) hk; omega
 have h6:(2:Nat) ^ 100<2 ^ 400:=by decide +kernel
 have h:=bI (body:=um n K (i:Int) L) N (fun(s:RR Rt×RR Nat×RR Nat) (v:Int)=>(s.1,false,s.2.1,false,s.2.2,v)) (fun s=>(s.1,false,s.2.1,false,s.2.2)) (fun j s=>s.1.length=N/\(∀a,a<j->∃l k,s.1[a]? = some (false,l,false,k)/\Q l k (Aw W t r R i a) (P*R))/\Q s.2.1 s.2.2 (P*R-gone W t r R i j) (P*R)) (fun s j hj hq=>?_) (fun s _=>?_) (n:=n) (s:=(List.replicate N (false,[],false,[]),[1],[1])) ⟨by simp,fun a ha=>O6 ha (by omega),by rw[show gone W t r R i 0=0 from rfl,Qv]; exact Q.one hPR⟩ (by omega)
 obtain⟨s,h1,h2,h3,h0⟩:=h;exact⟨s.1,s.2.1,s.2.2,h1,⟨h2,h3⟩,h0⟩
 ·obtain⟨s,sl,sk⟩:=s
  dsimp only at hq ⊢
  obtain⟨q1,q2,q0⟩:=hq;obtain⟨ri,e1,hri⟩:=hK.at_ i hi;obtain⟨x,e2,lx,kx,rfl,qx⟩:=hri.at_ j hj;obtain⟨rj,e0,hrj⟩:=hK.at_ j hj;obtain⟨y,e3,ly,ky,rfl,qy⟩:=hrj.at_ i hi;obtain⟨lt,kt,e4,qt⟩:=hL.at_ j hj;obtain⟨lu,ku,e5,qu⟩:=hL.at_ i hi;obtain⟨t1,t0⟩:=hw.pos j hj;obtain⟨u0,u9⟩:=hw.pos i hi;have w1:=hW i j hi hj;have w2:=hW j i hj hi;have hPb4:P<2 ^ 440:=by omega
  obtain⟨l2,k0⟩:=qx.qb hP hPb4 (by omega)
  obtain⟨l3,k1⟩:=qy.qb hP hPb4 (by omega)
  obtain⟨m1,p2,f1,g1⟩:=qy.times hn qt hP (by decide) (by omega) (by omega) (by omega) (by omega)
  have hwt:W j i*t j<=2 ^ 100*9:=Pe (by omega) t0
  have c4:(2:Nat) ^ 100*9<2 ^ 400:=by decide +kernel
  obtain⟨m2,p0,f0,g0⟩:=g1.over hn qu (by rw[Qf]; exact hP) (by decide) (by omega) (by rw[Qf]; omega) (by omega) (by omega) (by omega)
  rw[Qf,Qf] at g0;have hPt:P*t i≠0:=Pa hP (by omega)
  have hPtb:P*t i<=2 ^ 100*9:=Pe (by omega) u9
  obtain⟨cr,f2,h3,_⟩:=g0.cmp hn qx hPt hP (by omega) (by omega) (by omega) (by omega)
  have em:=hw.mul i hi;have hlt:W j i*t j*P<W i j*(P*t i)↔W j i*t j*r i<W i j*R:=by
   have h4:0<r i:=OW fun e=>hR (by rw[<-em,e,Nat.mul_zero])
   have hP0:0<P:=OW hP;have a1:W j i*t j*P*r i=W j i*t j*r i*P:=by simp only[OO,ON,OP]
   have a2:W i j*(P*t i)*r i=W i j*R*P:=by rw[<-em]; simp only[OO,ON,OP]
   rw[<-Nat.mul_lt_mul_right (a0:=h4),a1,a2,Nat.mul_lt_mul_right (a0:=hP0)]
  have hsj:s[j]? = some (s[j]'(by omega)):=OG _
  obtain⟨le,ke,he,qe⟩:∃le ke,(br (decide (cr<0)) (gd (bY (j:Int) N) (ob ((s.set j (false,lx,false,kx))[j]?) fun _=>some ((s.set j (false,lx,false,kx)).set j (false,m2,false,p0)))) (some (s.set j (false,lx,false,kx))))=some (s.set j (false,le,false,ke))/\Q le ke (Aw W t r R i j) (P*R):=by
   by_cases c:cr<0
   refine⟨m2,p0,?_,?_⟩
   rw[aZ c,aB hj,aY,Pz (by omega),al,List.set_set]
   have hlt':=hlt.1 (h3.1 c);have ef:Aw W t r R i j=W j i*t j*r i:=Nat.min_eq_right (P3 hlt');rw[ef];refine g0.same hPt hPR ?_;rw[<-em]; simp only[OO,ON,OP]
   refine⟨lx,kx,by rw[aQ c],?_⟩
   have hlt':¬W j i*t j*r i<W i j*R:=fun h=>c (h3.2 (hlt.2 h));have ef:Aw W t r R i j=W i j*R:=Ps (by omega)
   rw[ef];refine qx.same hP hPR ?_;simp only[OO,ON,OP]
  have hfle:Aw W t r R i j<=P*R:=O3 (Az i j) (Ph _ w1);have hgj:=hgm j (by omega)
  have h7:=hgm (j+1) (by omega)
  have hgs:gone W t r R i (j+1)=gone W t r R i j+if i=j then 0 else Aw W t r R i j:=by unfold gone; rw[sm]
  obtain⟨ls,ks,hst,qs⟩:∃ls ks,(br (!decide ((i:Int)=(j:Int))) (gd (bY (j:Int) N) (ob ((s.set j (false,le,false,ke))[j]?) fun(x3,l4,x4,l7)=>ob (Dn n false sl false sk x3 l4 x4 l7) fun(r0,l8,r1,l9)=>some (s.set j (false,le,false,ke),r0,l8,r1,l9))) (some (s.set j (false,le,false,ke),false,sl,false,sk)))=some (s.set j (false,le,false,ke),false,ls,false,ks)/\Q ls ks (P*R-gone W t r R i (j+1)) (P*R):=by
   by_cases c:i=j
   refine⟨sl,sk,by rw[OY (by omega),OS,cz],?_⟩
   rw[hgs,OM c,Py]; exact q0
   rw[OJ c] at hgs;obtain⟨m3,p1,f3,g2⟩:=q0.minus hn qe hPR hPR (by omega) (by omega) (by omega) (by omega) (Ph _ (by omega))
   refine⟨m3,p1,?_,g2.same (Pa hPR hPR) hPR ?_⟩
   rw[Pm (by omega),PC,kL,aB hj,aY,Pz (by omega),al]
   dsimp only
   rw[f3,al]
   rw[hgs,<-Nat.sub_mul,OO,Nat.sub_sub]
  refine⟨(s.set j (false,le,false,ke),ls,ks),?_,by rw[Qj]; exact q1,fun a ha=>?_,qs⟩
  ·unfold um
   dsimp only
   simp only[OC,hK.len,hL.len];rw[RJ]
   simp only[aB hi,aB hj,aY];rw[e1,al,hri.len,aB hj,aY,e2,al];unfold uq
   dsimp only
   rw[ff (by omega) qx.num qx.den l2 k0,al]
   dsimp only
   rw[e0,al,hrj.len,aB hi,aY,e3,al];unfold uq
   dsimp only
   rw[ff (by omega) qy.num qy.den l3 k1,al]
   dsimp only
   rw[hsj,al]
   try dsimp only
   rw[e4,al]
   dsimp only
   rw[f1,al]
   dsimp only
   rw[e5,al]
   dsimp only
   rw[f0,al]
   dsimp only
   rw[f2,al];have he':=he;simp only[aB hj,aY] at he';rw[he',al];have hst':=hst;simp only[aB hj,aY] at hst';rw[hst',al]
   dsimp only
   rw[RL]
  by_cases c:a=j
  subst c;exact⟨le,ke,Pz (by omega),qe⟩
  obtain⟨l',k',a1,a2⟩:=q2 a (by omega)
  exact⟨l',k',by dsimp only; rw[PQ (Ne.symm c)]; exact a1,a2⟩
 unfold um
 dsimp only
 rw[hK.len,RK]
def Ao(hn:2 ^ 2000<n)(hK:KQ K W P N)(hPb:P<2 ^ 440)(hN1:1<=N)(hN:N<=60):HV n K=some 0:=by
 have hs:=cm hn;have h1:=bI (body:=xo n K) N (fun(_:RS) (v:Int)=>v) (fun _=>(.inr ():RS⊕RS)) (fun _ _=>True) (fun s i hi _=>by
  refine⟨(),?_,trivial⟩;obtain⟨ri,e1,hri⟩:=hK.at_ i hi;unfold xo;rw[hK.len,RJ,aB hi,aY,OC,e1,al,hri.len,OY rfl,OS,cz,BC hn hri hK.pos hPb (hK.sum i hi) (by omega),al,OS,al,cz,RL]) (fun s _=>by
  unfold xo;rw[hK.len,RK]) (n:=n) (s:=()) trivial (by omega)
 obtain⟨_,h1,_⟩:=h1;unfold HV;rw[hK.len,RK,Pm (by omega),al,cz,h1]
 rfl
def NZ:(2:Nat) ^ 100*6561<2 ^ 440:=by decide +kernel
def EE(hn:2 ^ 2000<n)(hK:KQ K W P N)(hPb:P<2 ^ 100)(hN4:N<=4)(hw:Wt t r R N){L:RR Rt}(hL:RQ L t 1 N) :
  ∃G,cy (tM n K L) n (([]:RR (RR Sh)),0)=some (.inr G)/\KQ G (sG W t r R P N) (P*R) N:=by
 have hs:=cm hn;have hP:=hK.pos;have hPR:P*R≠0:=Pa hP hw.rpos;have hb:=NZ;have hPRb:P*R<2 ^ 440:=Pu (Pe (P3 hPb) hw.rle) hb;have hlimN:lim N=true:=O9 (by omega)
 have hW:∀a b,a<N->b<N->W a b<=P:=fun a b ha hb=>hK.sum a ha▸iR hb;have h:=bI (body:=tM n K L) N (fun(s:RR (RR Sh)) (v:Int)=>(s,v)) (fun s=>(.inr s:Int⊕RR (RR Sh))) (fun i s=>s.length=i/\∀a,a<i->∃row,s[a]? = some row/\VQ row (sG W t r R P N a) (P*R) N) (fun s i hi hq=>by
  obtain⟨row,l,k,f1,q1,q2⟩:=Gw hn hK hPb hN4 hw hL hi;have hset:RQ (row.set i (false,l,false,k)) (sG W t r R P N i) (P*R) N:=⟨by rw[Qj,q1.len],fun j hj=>by
   by_cases e:i=j
   subst e;exact⟨l,k,Pz (by rw[q1.len]; exact hj),by unfold sG; rw[OM rfl]; exact q2⟩
   obtain⟨l',k',e1,e2⟩:=q1.at_ j hj;exact⟨l',k',by rw[PQ e]; exact e1,by unfold sG; rw[OJ e]; exact e2⟩⟩
  have hv:∀j,j<N->sG W t r R P N i j<2 ^ 440:=fun j hj=>by
   have:sG W t r R P N i j<=P*R:=Bi (t:=t) (r:=r) (R:=R) hK hi▸iR hj;omega
  obtain⟨G,f2,q3⟩:=re hn hset hPR hPRb hv (by omega)
  refine⟨s++[G],?_,by rw[OU,hq.1]; rfl,fun a ha=>?_⟩
  ·have hlim:lim (s++([G]:RR (RR Sh))).length=true:=O9 (by rw[OU,hq.1,PS]; omega)
   obtain⟨l0,k0,e0,_⟩:=q1.at_ i hi;unfold tM
   dsimp only
   rw[hK.len,RJ,eE (by omega),OC,hlimN,aY,Eg (by omega),al]
   dsimp only
   rw[f1,al]
   dsimp only
   rw[aB hi,aY,OC,e0,al]
   try dsimp only
   rw[f2,al]
   dsimp only
   rw[OY rfl,OS,cz,hlim,aY,RL]
  by_cases e:a=i
  subst e;exact⟨G,by rw[O2 (by rw[hq.1]; exact OF _),hq.1,Qa]; rfl,q3⟩
  obtain⟨row',e1,e2⟩:=hq.2 a (by omega)
  exact⟨row',by rw[Pj (by rw[hq.1]; omega)]; exact e1,e2⟩) (fun s _=>by
  unfold tM
  dsimp only
  rw[hK.len,RK]) (n:=n) (s:=[]) ⟨rfl,fun a ha=>O6 ha (by omega)⟩ (by omega)
 obtain⟨G,h1,h2,h3⟩:=h;exact⟨G,h1,⟨h2,h3,fun i hi=>Bi hK hi,hPR,hK.n1⟩⟩
def EM(hn:2 ^ 2000<n)(hK:KQ K W P N)(hPb:P<2 ^ 100)(hN1:1<=N)(hN4:N<=4){l:RR Nat}(hw:Wt (tw l) r R N) :
  ∃G,L2 n K (vV l N)=some (G,0)/\KQ G (sG W (tw l) r R P N) (P*R) N:=by
 have hs:=cm hn;have hb:(2:Nat) ^ 100<2 ^ 440:=by decide +kernel
 obtain⟨L,f1,q1⟩:=rD (n:=n) (by omega) l (N:=N) (by omega)
 obtain⟨G,f2,q2⟩:=EE hn hK hPb hN4 hw q1;refine⟨G,?_,q2⟩;unfold L2;rw[Ao hn hK (by omega) hN1 (by omega),al,OY rfl,OS,cz,lA,hK.len,OY rfl,OS,cz,show(1:Int)=((1:Nat):Int) from rfl,pn (n:=n) (by omega) l (by omega) (by decide),al,al,cz,f1,al,f2]
 rfl
def Jk(hw:Wt t r R N){i j:Nat}(hi:i<N)(hj:j<N):t i*Aw W t r R i j=t j*Aw W t r R j i:=by
 have e1:=hw.mul i hi;have e2:=hw.mul j hj;unfold Aw;rw[<-Nat.mul_min_mul_left,<-Nat.mul_min_mul_left,Nat.min_comm];have a1:t i*(W j i*t j*r i)=t j*(W j i*R):=by rw[<-e1]; simp only[OO,ON,OP]
 have a2:t i*(W i j*R)=t j*(W i j*t i*r j):=by rw[<-e2]; simp only[OO,ON,OP]
 rw[a1,a2]
def IF(hw:Wt t r R N){i j:Nat}(hi:i<N)(hj:j<N):t i*sG W t r R P N i j=t j*sG W t r R P N j i:=by
 by_cases e:i=j
 subst e; rfl
 unfold sG;rw[OJ e,OJ (Ne.symm e)];exact Jk hw hi hj
def Gh(hK:KQ K W P N)(hw:Wt t r R N)(hr:∀i j,i<N->j<N->t i*W i j=t j*W j i){i j:Nat}(hi:i<N)(hj:j<N):sG W t r R P N i j=W i j*R:=by
 have hf:∀a,a<N->Aw W t r R i a=W i a*R:=fun a ha=>by
  unfold Aw;refine Ps (Nat.le_of_eq ?_);rw[<-hw.mul i hi,show W i a*(t i*r i)=t i*W i a*r i by simp only[OO,ON,OP],hr i a hi ha,ON (t a)]
 unfold sG
 by_cases e:i=j
 ·subst e;rw[OM rfl];have h:∀k,k<=N->gone W t r R i k+(if i<k then W i i*R else 0)=sm (W i) k*R:=by
   intro k
   induction k with
   | zero=>intro _; simp[gone,sm]
   | succ k ih =>
    intro hk;have ih:=ih (by omega)
    unfold gone at *;rw[sm,sm,Po]
    by_cases e:i=k
    subst e;rw[OM rfl,QX]
    rw[QW] at ih
    omega
    rw[OJ e,hf k (by omega)]
    by_cases c:i<k
    rw[OM c] at ih; rw[QX]; omega
    rw[OJ c] at ih; rw[QW]; omega
  have:=h N (OF _);rw[OM hi,hK.sum i hi] at this;omega
 rw[OJ e]; exact hf j hj
def Ko(hn:2 ^ 2000<n)(hK:KQ K W P N)(hPb:P<2 ^ 400)(hN1:1<=N)(hN4:N<=4){l:RR Nat}(hr:∀i j,i<N->j<N->tw l i*W i j=tw l j*W j i) :
  M0 n K (vV l N)=some (true,0):=by
 have hs:=cm hn;have hb:(2:Nat) ^ 400<2 ^ 440:=by decide +kernel
 have hb4:(2:Nat) ^ 400*9<2 ^ 440:=by decide +kernel
 have hb9:=DP;have hP:=hK.pos;have hW:∀a b,a<N->b<N->W a b<=P:=fun a b ha hb=>hK.sum a ha▸iR hb;obtain⟨L,f1,q1⟩:=rD (n:=n) (by omega) l (N:=N) (by omega)
 have hin:∀i,i<N->cy (ua n (i:Int) L K) n (true,0)=some (.inr true):=fun i hi=>by
  have h:=bI (body:=ua n (i:Int) L K) i (fun(_:RS) (v:Int)=>(true,v)) (fun _=>(.inr true:RS⊕Bool)) (fun _ _=>True) (fun s j hji _=>by
   refine⟨(),?_,trivial⟩;have hj:j<N:=by omega
   obtain⟨ri,e1,hri⟩:=hK.at_ i hi;obtain⟨x,e2,lx,kx,rfl,qx⟩:=hri.at_ j hj;obtain⟨rj,e3,hrj⟩:=hK.at_ j hj;obtain⟨y,e4,ly,ky,rfl,qy⟩:=hrj.at_ i hi;obtain⟨lt,kt,e5,qt⟩:=q1.at_ j hj;obtain⟨lu,ku,e6,qu⟩:=q1.at_ i hi;obtain⟨t1,t9⟩:=jk l j;obtain⟨u1,u9⟩:=jk l i;have w1:=hW i j hi hj;have w2:=hW j i hj hi;obtain⟨lx7,kx7⟩:=qx.qb hP (by omega) (by omega)
   obtain⟨ly7,ky7⟩:=qy.qb hP (by omega) (by omega)
   obtain⟨m1,p1,g1,h1⟩:=qu.times hn qx (by decide) hP (by decide) (by omega) (by omega) (by omega)
   obtain⟨m2,p2,g2,h2⟩:=qt.times hn qy (by decide) hP (by decide) (by omega) (by omega) (by omega)
   have v1:tw l i*W i j<=9*2 ^ 400:=Pe u9 (by omega)
   have v2:tw l j*W j i<=9*2 ^ 400:=Pe t9 (by omega)
   rw[Nat.one_mul] at h1 h2;obtain⟨cr,g3,_,h3⟩:=h1.cmp hn h2 hP hP (by omega) (by omega) (by omega) (by omega)
   have hc:cr=0:=h3.2 (by rw[hr i j hi hj])
   unfold ua
   dsimp only
   rw[RJ,q1.len,hK.len]
   simp only[aB hi,aB hj,aY,OC];rw[e6,al]
   dsimp only
   rw[e1,al,hri.len,aB hj,aY,e2,al];unfold uq
   dsimp only
   rw[ff (by omega) qx.num qx.den lx7 kx7,al]
   dsimp only
   rw[g1,al]
   dsimp only
   rw[e5,al]
   dsimp only
   rw[e3,al,hrj.len,aB hi,aY,e4,al];unfold uq
   dsimp only
   rw[ff (by omega) qy.num qy.den ly7 ky7,al]
   dsimp only
   rw[g2,al]
   dsimp only
   rw[g3,al,hc,OY rfl,OS,cz,RL]) (fun s _=>by
   unfold ua
   dsimp only
   rw[RK]) (n:=n) (s:=()) trivial (by omega)
  obtain⟨_,h1,_⟩:=h;exact h1
 have h:=bI (body:=tY n K L) N (fun(_:RS) (v:Int)=>(true,v)) (fun _=>true) (fun _ _=>True) (fun s i hi _=>by
  refine⟨(),?_,trivial⟩;unfold tY
  dsimp only
  rw[hK.len,RJ,hin i hi,al]
  dsimp only
  rw[RL]) (fun s _=>by
  unfold tY
  dsimp only
  rw[hK.len,RK]) (n:=n) (s:=()) trivial (by omega)
 obtain⟨_,h1,_⟩:=h;unfold M0;rw[Ao hn hK (by omega) hN1 (by omega),al,OY rfl,OS,cz,lA,hK.len,OY rfl,OS,cz,show(0:Int)=((0:Nat):Int) from rfl,pn (n:=n) (by omega) l (by omega) (by decide),al,al,cz,f1,al]
 rw[show cy (tY n K L) n (true,((0:Nat):Int))=_ from h1,al]
end
end
section
section
open Go Go.Ab Go.Ab.W
def Dg(v:Nat):RR Int:=if h:v=0 then[] else((v%4294967296:Nat):Int)::Dg (v/4294967296)
termination_by v
decreasing_by exact Nat.div_lt_self (OW h) (by decide)
def gm:Dg 0=[]:=by rw[Dg]; rfl
def fK{v:Nat}(h:v≠0):Dg v=((v%4294967296:Nat):Int)::Dg (v/4294967296):=by rw[Dg,dif_neg h]
def gI{v:Nat}(h0:v≠0)(h:v<4294967296):Dg v=[(v:Int)]:=by
 rw[fK h0,O4 h,PU h,gm]
def vZ{v:Nat}(h0:4294967296<=v)(h:v<18446744073709551616):Dg v=[((v%4294967296:Nat):Int),((v/4294967296:Nat):Int)]:=by
 rw[fK (by omega),gI (by omega) (by omega)]
def sQ{v:Nat}:Dg v=[]↔v=0:=by
 constructor
 intro h;refine PG fun hv=>?_;rw[fK hv] at h;cases h
 rintro rfl;exact gm
def jT{v:Nat}(h:v<18446744073709551616):(Dg v).length<=2:=by
 by_cases h0:v=0
 subst h0; rw[gm]; simp
 rw[fK h0]
 by_cases h1:v/4294967296=0
 rw[h1,gm]; simp
 rw[gI h1 (by omega)]; simp
def dk:Nat->Nat->RR Int
 | 0,_=>[]
 | k+1,v=>((v%4294967296:Nat):Int)::dk k (v/4294967296)
def zG:∀(k v:Nat),(dk k v).length=k
 | 0,_=>rfl
 | k+1,v=>by rw[dk,Pg,zG k]
def qA:∀(k:Nat),dk k 0=List.replicate k 0
 | 0=>rfl
 | k+1=>by rw[dk,PT,show 0/4294967296=0 from rfl,qA k]; rfl
def zV:∀(k v:Nat),v<4294967296 ^ k->dk k v=Dg v++List.replicate (k-(Dg v).length) 0
 | 0,v,h=>by
  have:v=0:=by simpa using h
  subst this;rw[gm]; rfl
 | k+1,v,h=>by
  by_cases h0:v=0
  subst h0; rw[qA,gm]; rfl
  rw[dk,fK h0,zV k (v/4294967296) (by rw[PK] at h; exact Nat.div_lt_of_lt_mul (by rwa[ON])),QE,Pg,Nat.succ_sub_succ]
def Cr:∀(v:Nat) (x:Int),(Dg v).getLast? = some x->x≠0:=fun v=>by
 induction v using Nat.strongRecOn with
 | ind v ih =>
  intro x h
  by_cases h0:v=0
  subst h0; rw[gm] at h; cases h
  ·rw[fK h0] at h
   by_cases h1:v/4294967296=0
   rw[h1,gm] at h;simp at h;omega
   ·have hne:Dg (v/4294967296)≠[]:=fun c=>h1 (sQ.1 c);refine ih (v/4294967296) (Nat.div_lt_self (OW h0) (by decide)) x ?_
    cases hd:Dg (v/4294967296) with
    | nil=>exact O6 hd hne
    | cons y ys=>rw[hd] at h; rwa[List.getLast?_cons_cons] at h
section
variable(n:Nat)
def Nv{lo hi:Int}{k:Nat}(h:0<=lo/\lo<=hi/\hi<=(k:Int)):okB lo hi k=true:=OY h
def wE{k:Nat}(h:k<=1073741824):lim k=true:=O9 h
def NF{x:Nat}(h:x<18446744073709551616):ui .u64 (x:Int)=x:=by
 rw[zD,kD (by omega)]
def tX{l:RR Int}{e:Nat}(hl:l.length<1000)(hz:∀i,e<=i->i<l.length->l[i]? = some 0)(hx:e=0\/∃x,l[e-1]? = some x/\x≠0)(he:e<=l.length) :
  ∀(j m:Nat),e+j<=l.length->j<m->cy (qV n l) m ((e+j:Nat):Int)=some (e:Int)
 | 0,m+1,h1,h2=>by
  rw[bX];unfold qV
  by_cases h0:e=0
  subst h0;rw[RK,al,cz]
  obtain⟨x,g1,g2⟩:=hx.resolve_left h0;rw[RJ,aH (by omega) (by omega),show((e+0:Nat):Int)-1=((e-1:Nat):Int) by omega,aB (by omega),aY,OC,g1,al,al,Pm g2,cz]; rfl
 | j+1,m+1,h1,h2=>by
  rw[ca (s':=((e+j:Nat):Int)),tX hl hz hx he j m (by omega) (by omega)]
  unfold qV;rw[RJ,aH (by omega) (by omega),show((e+(j+1):Nat):Int)-1=((e+j:Nat):Int) by omega,aB (by omega),aY,OC,hz (e+j) (by omega) (by omega),al,al,aZ rfl]
def Cg{l:RR Int}{k:Nat}(hl:l.length+k<1000)(hx:∀x,l.getLast? = some x->x≠0)(hn:1000<n):oH n (l++List.replicate k 0)=some l:=by
 have hlen:(l++List.replicate k (0:Int)).length=l.length+k:=by simp
 unfold oH;rw[hlen,tX n (l:=l++List.replicate k 0) (e:=l.length) (by omega) (fun i h1 h2=>by
   rw[O2 h1,PW,OM (by rw[hlen] at h2; omega)]) (by
   by_cases h0:l.length=0
   exact .inl h0
   right
   rw[Pj (by omega)]
   refine⟨l[l.length-1]'(by omega),OG _,hx _ ?_⟩
   rw[List.getLast?_eq_getElem?];exact OG _) (by omega) k n (by omega) (by omega),al,Nv (by omega),aY]
 simp
def jQ{k v:Nat}(h:v<4294967296 ^ k)(hk:k<400)(hn:1000<n):oH n (dk k v)=some (Dg v):=by
 have hl:(Dg v).length<=k:=by
  have:=PX List.length (zV k v h);rw[zG,OU,List.length_replicate] at this;omega
 rw[zV k v h];exact Cg n (by omega) (Cr v) hn
def LV{v:Nat}(h:(Dg v).length<400)(hn:1000<n):oH n (Dg v)=some (Dg v):=by
 have:=Cg n (l:=Dg v) (k:=0) (by omega) (Cr v) hn
 simpa using this
def zT{l l':RR Int}(h:oH n l=some l'):nw n false l=some (false,l'):=by
 unfold nw;rw[h,al,cz]
def GY{v:Nat}(h:v<9223372036854775808)(hn:1000<n):HW n (v:Int)=some (false,Dg v):=by
 unfold HW;rw[RK,al,Pm (by omega),NF (by omega),kD (by omega),aH (by omega) (by omega),aH (by omega) (by omega),zT n (l':=Dg v),al]
 have:=jQ n (k:=2) (v:=v) (by show v<18446744073709551616; omega) (by decide) hn
 rwa[show dk 2 v=[((v%4294967296:Nat):Int),((v/4294967296:Nat):Int)] by
  rw[dk,dk,dk,O4 (show v/4294967296<4294967296 by omega)]] at this
def gy{l:RR Int}{a i:Nat}(h:l.drop i=Dg a):(a=0/\l.length<=i)\/(a≠0/\i<l.length/\l[i]? = some ((a%4294967296:Nat):Int)/\l.drop (i+1)=Dg (a/4294967296)):=by
 by_cases h0:a=0
 subst h0;rw[gm] at h;exact .inl ⟨rfl,List.drop_eq_nil_iff.1 h⟩
 right
 rw[fK h0] at h;have hi:i<l.length:=PG fun c=>by rw[List.drop_eq_nil_iff.2 (by omega)] at h; cases h
 rw[List.drop_eq_getElem_cons hi] at h;injection h with h1 h2;exact⟨h0,hi,by rw[OG hi,h1],h2⟩
def tE{l1 l5:RR Int}:∀(k a b c i:Nat) (acc:RR Int),l1.drop i=Dg a->l5.drop i=Dg b->a+b+c<4294967296 ^ k->c<=1->i+k<=1000->acc.length=i ->
  ∀M,k<M->cy (qQ n l1 l5) M (acc,(c:Int),(i:Int))=some (acc++Dg (a+b+c))
 | k,a,b,c,i,acc,h1,h2,h3,h4,h5,h6,M+1,h7=>by
  by_cases hz:a=0/\b=0/\c=0
  obtain⟨rfl,rfl,rfl⟩:=hz;have e1:=(gy h1).resolve_right fun g=>g.1 rfl;have e2:=(gy h2).resolve_right fun g=>g.1 rfl;rw[bX (r:=acc),gm,P2];unfold qQ
  dsimp only
  rw[RK,RK,al,RK]
  ·match k with
   | 0=>simp at h3; omega
   | k+1 =>
    have hp:(4294967296:Nat) ^ (k+1)=4294967296*4294967296 ^ k:=by rw[PK,ON]
    have ih:=tE k (a/4294967296) (b/4294967296) ((a%4294967296+b%4294967296+c)/4294967296) (i+1) (acc++[(((a%4294967296+b%4294967296+c)%4294967296:Nat):Int)])
     (by
      rcases gy h1 with⟨rfl,g⟩|g
      rw[show 0/4294967296=0 from rfl,gm]; exact(List.drop_eq_nil_iff (l:=l1)).2 (by omega)
      exact g.2.2.2)
     (by
      rcases gy h2 with⟨rfl,g⟩|g
      rw[show 0/4294967296=0 from rfl,gm]; exact(List.drop_eq_nil_iff (l:=l5)).2 (by omega)
      exact g.2.2.2) (by omega) (by omega) (by omega) (by simp[h6]) M (by omega)
    have hlim:lim (acc++[(((a%4294967296+b%4294967296+c)%4294967296:Nat):Int)]).length=true:=wE (by rw[OU,h6,PS]; omega)
    rw[ca (s':=(acc++[(((a%4294967296+b%4294967296+c)%4294967296:Nat):Int)],(((a%4294967296+b%4294967296+c)/4294967296:Nat):Int),((i+1:Nat):Int))),ih,fK (v:=a+b+c) (by omega),
     show(a+b+c)%4294967296=(a%4294967296+b%4294967296+c)%4294967296 by omega,show(a+b+c)/4294967296=a/4294967296+b/4294967296+(a%4294967296+b%4294967296+c)/4294967296 by omega,List.append_assoc]
    rfl
    unfold qQ
    dsimp only
    have fin:∀y:Int,y=((a%4294967296+b%4294967296+c:Nat):Int)->(gd (lim (acc++[Int.tmod y 4294967296]).length) (some (.inl ((acc++[Int.tmod y 4294967296]),QU (Int.tdiv y 4294967296),QU ((i:Int)+1)))):RI ((RR Int×Int×Int)⊕RR Int))=some (.inl (acc++[(((a%4294967296+b%4294967296+c)%4294967296:Nat):Int)],(((a%4294967296+b%4294967296+c)/4294967296:Nat):Int),((i+1:Nat):Int))):=by
     rintro y rfl;rw[show Int.tmod ((a%4294967296+b%4294967296+c:Nat):Int) 4294967296=(((a%4294967296+b%4294967296+c)%4294967296:Nat):Int) from rfl,hlim,aY,
      show Int.tdiv ((a%4294967296+b%4294967296+c:Nat):Int) 4294967296=(((a%4294967296+b%4294967296+c)/4294967296:Nat):Int) from rfl,aH (by omega) (by omega),aH (by omega) (by omega)]
     rfl
    rcases gy h1 with⟨a0,g1⟩|⟨a0,g1,g2,_⟩<;>rcases gy h2 with⟨b0,k1⟩|⟨b0,k1,k2,_⟩
    subst a0; subst b0;rw[RK,RK,al,RJ,RK,al,RK,al]
    exact fin _ (by simp)
    subst a0;rw[RK,RJ,al,kL,RK,al,RJ,aB k1,aY,OC,k2,al,al,aH (by omega) (by omega)]
    exact fin _ (by omega)
    subst b0;rw[RJ,al,kL,RJ,aB g1,aY,OC,g2,al,al,RK,al,aH (by omega) (by omega)]
    exact fin _ (by omega)
    rw[RJ,al,kL,RJ,aB g1,aY,OC,g2,al,al,RJ,aB k1,aY,k2,al,al,aH (x:=(c:Int)+_) (by omega) (by omega),aH (by omega) (by omega)]
    exact fin _ (by omega)
def Hu{a b:Nat}(h:a+b<18446744073709551616)(hn:1000<n):DA n (Dg a) (Dg b)=some (Dg (a+b)):=by
 unfold DA;have:=tE n (l1:=Dg a) (l5:=Dg b) 2 a b 0 0 [] rfl rfl (by simpa using h) (by decide) (by decide) rfl n (by omega)
 rw[show(([]:RR Int),(0:Int),(0:Int))=([],((0:Nat):Int),((0:Nat):Int)) from rfl,this,al]
 rfl
def uk{l1 l6:RR Int}:∀(k a b c i:Nat) (acc:RR Int),l1.drop i=Dg a->l6.drop i=Dg b->a<4294967296 ^ k->b+c<=a->c<=1->i+k<=1000->acc.length=i ->
  ∀M,k<M->cy (si n l1 l6) M (acc,(c:Int),(i:Int))=some (acc++dk (Dg a).length (a-b-c))
 | k,a,b,c,i,acc,h1,h2,h3,h4,h5,h6,h0,M+1,h7=>by
  rcases gy h1 with⟨rfl,g0⟩|⟨a0,g0,g1,g2⟩
  rw[bX (r:=acc),gm]
  simp[dk]
  unfold si
  dsimp only
  rw[RK]
  ·match k with
   | 0=>simp at h3; omega
   | k+1 =>
    have hp:(4294967296:Nat) ^ (k+1)=4294967296*4294967296 ^ k:=by rw[PK,ON]
    have key:∃c':Nat,c'<=1/\b/4294967296+c'<=a/4294967296/\(a-b-c)/4294967296=a/4294967296-b/4294967296-c' /\
      ((a%4294967296:Nat):Int)-c-((b%4294967296:Nat):Int)+4294967296*c'=(((a-b-c)%4294967296:Nat):Int)/\(c'=1↔((a%4294967296:Nat):Int)-c-((b%4294967296:Nat):Int)<0):=by
     by_cases g:a%4294967296<b%4294967296+c
     exact⟨1,by omega,by omega,by omega,by omega,by omega⟩
     exact⟨0,by omega,by omega,by omega,by omega,by omega⟩
    obtain⟨c',k1,k2,k3,k4,k0⟩:=key;have ih:=uk k (a/4294967296) (b/4294967296) c' (i+1) (acc++[(((a-b-c)%4294967296:Nat):Int)]) g2
     (by
      rcases gy h2 with⟨rfl,g⟩|g
      rw[show 0/4294967296=0 from rfl,gm]; exact(List.drop_eq_nil_iff (l:=l6)).2 (by omega)
      exact g.2.2.2) (by omega) k2 k1 (by omega) (by simp[h0]) M (by omega)
    have hlim:lim (acc++[(((a-b-c)%4294967296:Nat):Int)]).length=true:=wE (by rw[OU,h0,PS]; omega)
    rw[ca (s':=(acc++[(((a-b-c)%4294967296:Nat):Int)],(c':Int),((i+1:Nat):Int))),ih,fK a0,Pg,dk,k3,List.append_assoc]
    rfl
    unfold si
    dsimp only
    have fin:∀y:Int,y=((a%4294967296:Nat):Int)-c-((b%4294967296:Nat):Int)->(ob (br (decide (y<0)) (some ((1:Int),QU (y+4294967296))) (some (0,y))) fun(v1,v0) =>
      gd (lim (acc++[v0]).length) (some (.inl ((acc++[v0]),v1,QU ((i:Int)+1)))):RI ((RR Int×Int×Int)⊕RR Int))=some (.inl (acc++[(((a-b-c)%4294967296:Nat):Int)],(c':Int),((i+1:Nat):Int))):=by
     intro y hy
     by_cases hc:c'=1
     rw[aZ (by rw[hy]; exact k0.1 hc),al,aH (by omega) (by omega),show y+4294967296=(((a-b-c)%4294967296:Nat):Int) by omega]
     dsimp only
     rw[hlim,aY,aH (by omega) (by omega),hc]; rfl
     rw[aQ (by rw[hy]; exact fun h=>hc (k0.2 h)),al,show y=(((a-b-c)%4294967296:Nat):Int) by omega]
     dsimp only
     rw[hlim,aY,aH (by omega) (by omega),show c'=0 by omega]; rfl
    rw[RJ,aB g0,aY,OC,g1,al]
    rcases gy h2 with⟨b0,q0⟩|⟨b0,q0,q2,_⟩
    subst b0;rw[RK,al,aH (by omega) (by omega)]
    exact fin _ (by simp)
    rw[RJ,aB q0,aY,q2,al,al,aH (x:=((a%4294967296:Nat):Int)-(c:Int)) (by omega) (by omega),aH (by omega) (by omega)]
    exact fin _ rfl
def yl:∀(v:Nat),v<4294967296 ^ (Dg v).length:=fun v=>by
 induction v using Nat.strongRecOn with
 | ind v ih =>
  by_cases h0:v=0
  subst h0; rw[gm]; decide
  rw[fK h0,Pg,PK];have:=ih (v/4294967296) (Nat.div_lt_self (OW h0) (by decide))
  exact(Pt (by decide)).1 this
def Io{a b:Nat}(h:b<=a)(ha:a<18446744073709551616)(hn:1000<n):sZ n (Dg a) (Dg b)=some (Dg (a-b)):=by
 unfold sZ;have:=uk n (l1:=Dg a) (l6:=Dg b) 2 a b 0 0 [] rfl rfl (by simpa using ha) (by simpa using h) (by decide) (by decide) rfl n (by omega)
 have hl:=jT ha;rw[show(([]:RR Int),(0:Int),(0:Int))=([],((0:Nat):Int),((0:Nat):Int)) from rfl,this,al,PM,Qv,jQ n (Pu (Nat.sub_le _ _) (yl a)) (by omega) hn,al]
def ma{v:Nat}(h:v<18446744073709551616):(Dg v).length=if v=0 then 0 else if v<4294967296 then 1 else 2:=by
 by_cases h0:v=0
 subst h0; rw[gm]; rfl
 rw[OJ h0]
 by_cases h1:v<4294967296
 rw[OM h1,gI h0 h1]; rfl
 rw[OJ h1,vZ (by omega) h]; rfl
def Ir{a b:Nat}(ha:a<18446744073709551616)(hb:b<18446744073709551616)(hn:1000<n):∃r:Int,Av n (Dg a) (Dg b)=some r/\(0<r↔b<a)/\(r<0↔a<b):=by
 obtain⟨n,rfl⟩:∃j,n=j+5:=⟨n-5,by omega⟩
 unfold Av
 by_cases hl:(Dg a).length=(Dg b).length
 rw[OY (show((Dg a).length:Int)=((Dg b).length:Int) by omega)]
 show ∃r,ob (α:=Int⊕RS) _ _=some r/\_
 rw[ma ha,ma hb] at hl
 by_cases a0:a=0
 have b0:b=0:=PG fun c=>by subst a0; rw[OM rfl,OJ c] at hl; split at hl<;>cases hl
 subst a0; subst b0;refine⟨0,?_,by simp,by simp⟩
 rw[gm,bX (r:=Sum.inr ())]
 rfl
 rfl
 have b0:b≠0:=fun c=>by subst c; rw[OJ a0] at hl; split at hl<;>simp at hl
 rw[OJ a0,OJ b0] at hl
 by_cases a1:a<4294967296
 have b1:b<4294967296:=PG fun c=>by rw[OM a1,OJ c] at hl; cases hl
 rw[gI a0 a1,gI b0 b1]
 by_cases e:a=b
 subst e;refine⟨0,?_,by simp,by simp⟩
 rw[show QU (([(a:Int)].length:Int)-1)=0 from rfl,ca (s':=(-1:Int)),bX (r:=Sum.inr ())]
 rfl
 rfl
 unfold jL;simp[br,gd,ob,bY]
 rfl
 refine⟨(a:Int)-b,?_,by omega,by omega⟩
 rw[show QU (([(a:Int)].length:Int)-1)=0 from rfl,bX (r:=Sum.inl ((a:Int)-b))]
 rfl
 unfold jL;have:¬(a:Int)=(b:Int):=by omega
 simp[br,gd,ob,bY,this];exact aH (by omega) (by omega)
 have b1:¬b<4294967296:=fun c=>by rw[OJ a1,OM c] at hl; cases hl
 rw[vZ (by omega) ha,vZ (by omega) hb]
 by_cases e1:a/4294967296=b/4294967296
 by_cases e:a%4294967296=b%4294967296
 refine⟨0,?_,by omega,by omega⟩
 rw[e1,e,show QU (([((b%4294967296:Nat):Int),((b/4294967296:Nat):Int)].length:Int)-1)=1 from rfl,ca (s':=(0:Int)),ca (s':=(-1:Int)),bX (r:=Sum.inr ())]
 rfl
 rfl
 unfold jL;simp[br,gd,ob,bY]
 rfl
 unfold jL;simp[br,gd,ob,bY]
 rfl
 refine⟨((a%4294967296:Nat):Int)-((b%4294967296:Nat):Int),?_,by omega,by omega⟩
 rw[e1,show QU (([((a%4294967296:Nat):Int),((b/4294967296:Nat):Int)].length:Int)-1)=1 from rfl,ca (s':=(0:Int)),bX (r:=Sum.inl (((a%4294967296:Nat):Int)-((b%4294967296:Nat):Int)))]
 rfl
 have:¬((a%4294967296:Nat):Int)=((b%4294967296:Nat):Int):=by omega
 have hw:QU (((a%4294967296:Nat):Int)-((b%4294967296:Nat):Int))=((a%4294967296:Nat):Int)-((b%4294967296:Nat):Int):=aH (by omega) (by omega)
 generalize((a%4294967296:Nat):Int)=p at *;generalize((b%4294967296:Nat):Int)=q at *;unfold jL;simp[br,gd,ob,bY,this,hw]
 unfold jL;simp[br,gd,ob,bY]
 rfl
 refine⟨((a/4294967296:Nat):Int)-((b/4294967296:Nat):Int),?_,by omega,by omega⟩
 rw[show QU (([((a%4294967296:Nat):Int),((a/4294967296:Nat):Int)].length:Int)-1)=1 from rfl,bX (r:=Sum.inl (((a/4294967296:Nat):Int)-((b/4294967296:Nat):Int)))]
 rfl
 have:¬((a/4294967296:Nat):Int)=((b/4294967296:Nat):Int):=by omega
 have hw:QU (((a/4294967296:Nat):Int)-((b/4294967296:Nat):Int))=((a/4294967296:Nat):Int)-((b/4294967296:Nat):Int):=aH (by omega) (by omega)
 generalize((a/4294967296:Nat):Int)=p at *;generalize((b/4294967296:Nat):Int)=q at *;unfold jL;simp[br,gd,ob,bY,this,hw]
 ·rw[Pm (show ¬((Dg a).length:Int)=((Dg b).length:Int) by omega)]
  have h1:=ma ha;have h2:=ma hb;refine⟨((Dg a).length:Int)-((Dg b).length:Int),?_,?_,?_⟩
  show some (QU _)=_
  have:=jT ha;have:=jT hb;rw[aH (by omega) (by omega)]
  ·split at h1<;>split at h2<;>(try split at h1)<;>(try split at h2)<;>omega
  ·split at h1<;>split at h2<;>(try split at h1)<;>(try split at h2)<;>omega
def qg{v:Nat}(h:v<18446744073709551616)(hn:1000<n):nw n false (Dg v)=some (false,Dg v):=zT n (LV n (by have:=jT h; omega) hn)
def I3{a b:Nat}(h:a+b<18446744073709551616)(hn:1000<n):xy n false (Dg a) false (Dg b)=some (false,Dg (a+b)):=by
 unfold xy
 show ob (DA n (Dg a) (Dg b)) _=_
 rw[Hu n h hn,al,qg n h hn,al]
def wb{l1 l:RR Int}{b i N x y:Nat}(hb:b<4294967296)(hi:i<l1.length)(hN:l.length=N)(hiN:i+1<N)(hN1:N<1000)(hx:l[i]? = some (x:Int))(hx1:x<4294967296)(hy:l1[i]? = some (y:Int))(hy1:y<4294967296)(hn:1000<n) :
  j6 n l1 [(b:Int)] (l,N,(i:Int))=some (.inl ((l.set i (((x+y*b)%4294967296:Nat):Int)).set (i+1) (((x+y*b)/4294967296:Nat):Int),N,((i+1:Nat):Int))):=by
 obtain⟨n,rfl⟩:∃j,n=j+5:=⟨n-5,by omega⟩
 have hyb:y*b<=4294967295*4294967295:=Pe (by omega) (by omega)
 have in1:o9 (n+5) [(b:Int)] (i:Int) N l1 (l,0,0)=some (.inl (l.set i (((x+y*b)%4294967296:Nat):Int),(x+y*b)/4294967296,1)):=by
  unfold o9
  dsimp only
  rw[aZ (by simp),Int.add_zero,aH (x:=(i:Int)) (by omega) (by omega),aB (by omega),aY,OC,hx,al,aB hi,aY,hy,al,show bY 0 [(b:Int)].length=true from rfl,aY,
   show[(b:Int)][QV]? = some (b:Int) from rfl,al,NF (by omega),NF (by omega),NF (by omega),kD (a:=0+x) (by omega),kD (a:=y*b) (by omega),kD (by omega),al,aY,kD (by omega),aH (by omega) (by omega),Pr]
  rfl
 have in2:∀(q:RR Int) (c:Nat),o9 (n+5) [(b:Int)] (i:Int) N l1 (q,c,1)=some (.inr (q,c)):=fun q c=>rfl;unfold j6
 dsimp only
 rw[RJ,ca in1,bX (in2 _ _),al]
 dsimp only
 rw[show QU ((i:Int)+([(b:Int)].length:Int))=((i+1:Nat):Int) from aH (by simp<;>omega) (by simp<;>omega),aB hiN,aY,OC,
  OG (by rw[Qj]; omega),al,aH (x:=(((x+y*b)/4294967296:Nat):Int)) (by omega) (by omega),aH (by omega) (by omega)]
 rfl
def Js{a b:Nat}(ha:a<18446744073709551616)(hb:b<4294967296)(h:a*b<18446744073709551616)(hn:1000<n):De n (Dg a) (Dg b)=some (Dg (a*b)):=by
 obtain⟨m,rfl⟩:∃j,n=j+5:=⟨n-5,by omega⟩
 have hla:=jT ha;have en:∀(b:RR Int) (l:RR Int) (N i:Nat),(Dg a).length=i->j6 (m+5) (Dg a) b (l,N,(i:Int))=some (.inr (l,N)):=by
  intro b l N i hi;unfold j6
  dsimp only
  rw[RK]
 by_cases b0:b=0
 ·subst b0;rw[gm,Nat.mul_zero];have s1:∀(l:RR Int) (i:Nat),i<(Dg a).length->l=List.replicate (Dg a).length 0->j6 (m+5) (Dg a) [] (l,(Dg a).length,(i:Int))=some (.inl (l,(Dg a).length,((i+1:Nat):Int))):=by
   intro l i hi hl;have in2:o9 (m+5) [] (i:Int) (Dg a).length (Dg a) (l,0,0)=some (.inr (l,0)):=rfl;have hg:l[i]? = some 0:=by rw[hl,PW,OM hi]
   unfold j6
   dsimp only
   rw[RJ,bX in2,al]
   dsimp only
   rw[show QU ((i:Int)+(([]:RR Int).length:Int))=(i:Int) from aH (by simp<;>omega) (by simp<;>omega),aB hi,aY,OC,hg,al,aH (x:=(i:Int)+1) (by omega) (by omega),show QU ((0:Nat):Int)=0 from rfl]
   congr 4
   rw[hl];apply Qg;intro j;rw[List.getElem?_set]
   split
   split<;>simp_all
   rfl
  have lp:∀(k i M:Nat),i+k=(Dg a).length->k<M->cy (j6 (m+5) (Dg a) []) M (List.replicate (Dg a).length 0,(Dg a).length,(i:Int))=some (List.replicate (Dg a).length 0,(Dg a).length):=by
   intro k
   induction k with
   | zero =>
    intro i M h1 h2;obtain⟨M,rfl⟩:∃j,M=j+1:=⟨M-1,by omega⟩
    rw[bX (en _ _ _ _ (by omega))]
   | succ k ih =>
    intro i M h1 h2;obtain⟨M,rfl⟩:∃j,M=j+1:=⟨M-1,by omega⟩
    rw[ca (s1 _ i (by omega) rfl),ih _ _ (by omega) (by omega)]
  unfold De;rw[show QU (((Dg a).length:Int)+(([]:RR Int).length:Int))=((Dg a).length:Int) from aH (by simp<;>omega) (by simp<;>omega),OC,eE (by omega),wE (by omega),aY]
  have:=lp (Dg a).length 0 (m+5) (by omega) (by omega)
  have hc:=jQ (m+5) (k:=(Dg a).length) (v:=0) (Nat.pow_pos (by decide)) (by omega) hn
  rw[qA] at hc;rw[show(0:Int)=((0:Nat):Int) from rfl] at this ⊢
  rw[this,al]
  dsimp only
  rw[show(List.replicate (Dg a).length ((0:Nat):Int))=List.replicate (Dg a).length 0 from rfl,hc,al]
 rw[gI b0 hb];unfold De;have hw:QU (((Dg a).length:Int)+([(b:Int)].length:Int))=(((Dg a).length+1:Nat):Int):=aH (by simp<;>omega) (by simp<;>omega)
 rw[hw,OC,eE (by omega),wE (by omega),aY]
 by_cases a0:a=0
 subst a0;rw[show(((Dg 0).length+1:Nat))=1 by rw[gm]; rfl,show(0:Int)=((0:Nat):Int) from rfl,bX (en _ _ _ 0 (by rw[gm]; rfl)),al]
 dsimp only
 have:=jQ (m+5) (k:=1) (v:=0) (by decide) (by decide) hn
 rw[show List.replicate 1 ((0:Nat):Int)=dk 1 0 from rfl,this,al,Qi]
 by_cases a1:a<4294967296
 have e:=gI a0 a1;rw[e];rw[e] at en;have s1:=wb (m+5) (l1:=[(a:Int)]) (l:=[0,0]) (b:=b) (i:=0) (N:=2) (x:=0) (y:=a) hb Nat.zero_lt_one rfl (by decide) (by decide) rfl (by decide) rfl a1 hn
 rw[show List.replicate ([(a:Int)].length+1) (0:Int)=[0,0] from rfl,show[(a:Int)].length+1=2 from rfl,ca (s:=(([0,0]:RR Int),2,(0:Int))) s1,bX (en _ _ _ 1 rfl),al]
 dsimp only
 have:=jQ (m+5) (k:=2) (v:=a*b) (by simpa using h) (by decide) hn
 rw[show(List.set [(0:Int),0] 0 (((0+a*b)%4294967296:Nat):Int)).set (0+1) (((0+a*b)/4294967296:Nat):Int)=dk 2 (a*b) by
  rw[Pr,dk,dk,dk,O4 (show a*b/4294967296<4294967296 by omega)]; rfl,this,al]
 have e:=vZ (by omega) ha
 rw[e];rw[e] at en;have hr:a%4294967296*b<=4294967295*4294967295:=Pe (by omega) (by omega)
 have hab:a*b=a%4294967296*b+4294967296*(a/4294967296*b):=by
  conv=>lhs; rw[<-Nat.mod_add_div a 4294967296]
  rw[Po,OO]
 generalize hp:a%4294967296=p at *;generalize hq:a/4294967296=q at *;have s1:=wb (m+5) (l1:=[(p:Int),(q:Int)]) (l:=[0,0,0]) (b:=b) (i:=0) (N:=3) (x:=0) (y:=p) hb Nat.zero_lt_two rfl (by decide) (by decide) rfl (by decide) rfl (by omega) hn
 have s2:=wb (m+5) (l1:=[(p:Int),(q:Int)]) (l:=[(((0+p*b)%4294967296:Nat):Int),(((0+p*b)/4294967296:Nat):Int),0]) (b:=b) (i:=1) (N:=3) (x:=(0+p*b)/4294967296) (y:=q) hb Nat.one_lt_two rfl (by decide) (by decide) rfl (by omega) rfl (by omega) hn
 rw[show List.replicate ([(p:Int),(q:Int)].length+1) (0:Int)=[0,0,0] from rfl,show[(p:Int),(q:Int)].length+1=3 from rfl,ca (s:=(([0,0,0]:RR Int),3,(0:Int))) s1]
 have s3:=ca (n:=m+3) s2;have s4:=bX (n:=m+2) (en [(b:Int)] (([(((0+p*b)%4294967296:Nat):Int),(((0+p*b)/4294967296:Nat):Int),0].set 1 ((((0+p*b)/4294967296+q*b)%4294967296:Nat):Int)).set (1+1) ((((0+p*b)/4294967296+q*b)/4294967296:Nat):Int)) 3 2 rfl);refine(PX (fun z=>ob z _) (s3.trans s4)).trans ?_;rw[al]
 dsimp only
 have:=jQ (m+5) (k:=3) (v:=a*b) (by show _<79228162514264337593543950336; omega) (by decide) hn
 have e0:a*b%4294967296=(0+p*b)%4294967296:=by omega
 have e1:a*b/4294967296=(0+p*b)/4294967296+q*b:=by omega
 rw[show([(((0+p*b)%4294967296:Nat):Int),(((0+p*b)/4294967296:Nat):Int),0].set 1 ((((0+p*b)/4294967296+q*b)%4294967296:Nat):Int)).set (1+1) ((((0+p*b)/4294967296+q*b)/4294967296:Nat):Int)=dk 3 (a*b) by
  rw[dk,dk,dk,dk,e0,e1,O4 (a:=((0+p*b)/4294967296+q*b)/4294967296) (by omega)]; rfl,this,al]
end
end
end
section
open Go Go.Ab Go.Ab.W
section
variable{n:Nat}
def uI{l1:RR Int}:∀(k a c i:Nat) (acc:RR Int),l1.drop i=Dg a->c<=1->acc.length=i->i+k<=1000->a<4294967296 ^ k->∀M,k<M->∃(c':Int) (acc':RR Int),cy (rL n l1) M ((c:Int),acc,(i:Int))=some (c',acc')/\acc'++[c']=acc++dk ((Dg a).length+1) (2*a+c)/\acc'.length<=1000
 | k,a,c,i,acc,h1,h2,h3,h4,h5,M+1,h7=>by
  rcases gy h1 with⟨rfl,g1⟩|⟨a0,g1,g2,g3⟩
  refine⟨(c:Int),acc,bX ?_,?_,by omega⟩
  unfold rL; dsimp only; rw[RK]
  rw[gm,List.length_nil,Pr,dk,dk,O4 (by omega),Nat.mul_zero,Pr]
  ·match k with
   | 0=>simp at h5; omega
   | k+1 =>
    have hp:(4294967296:Nat) ^ (k+1)=4294967296*4294967296 ^ k:=by rw[PK,ON]
    obtain⟨c',acc',e1,e2,e3⟩:=uI k (a/4294967296) ((2*(a%4294967296)+c)/4294967296) (i+1) (acc++[(((2*(a%4294967296)+c)%4294967296:Nat):Int)]) g3 (by omega) (by simp[h3]) (by omega) (by omega) M (by omega)
    refine⟨c',acc',?_,?_,e3⟩
    have hlim:lim (acc++[(((2*(a%4294967296)+c)%4294967296:Nat):Int)]).length=true:=wE (by rw[OU,h3,PS]; omega)
    rw[ca (s':=((((2*(a%4294967296)+c)/4294967296:Nat):Int),acc++[(((2*(a%4294967296)+c)%4294967296:Nat):Int)],((i+1:Nat):Int))),e1];unfold rL
    dsimp only
    have hy:QU ((QU (2*((a%4294967296:Nat):Int)))+(c:Int))=((2*(a%4294967296)+c:Nat):Int):=by
     rw[aH (x:=2*((a%4294967296:Nat):Int)) (by omega) (by omega),aH (by omega) (by omega)]; omega
    rw[RJ,aB g1,aY,OC,g2,al,hy,al,
     show Int.tmod ((2*(a%4294967296)+c:Nat):Int) 4294967296=(((2*(a%4294967296)+c)%4294967296:Nat):Int) from rfl,hlim,aY,
     show Int.tdiv ((2*(a%4294967296)+c:Nat):Int) 4294967296=(((2*(a%4294967296)+c)/4294967296:Nat):Int) from rfl,al,aH (by omega) (by omega),aH (by omega) (by omega)]
    rfl
    rw[e2,fK a0,Pg,show dk ((Dg (a/4294967296)).length+1+1) (2*a+c)=(((2*a+c)%4294967296:Nat):Int)::dk ((Dg (a/4294967296)).length+1) ((2*a+c)/4294967296) from rfl,
     show(2*a+c)/4294967296=2*(a/4294967296)+(2*(a%4294967296)+c)/4294967296 by omega,
     show(2*a+c)%4294967296=(2*(a%4294967296)+c)%4294967296 by omega,List.append_assoc]
    rfl
def IE(hn:2000<n){a c:Nat}(ha:a<9223372036854775808)(hc:c<=1):Gn n (Dg a) (c:Int)=some (Dg (2*a+c)):=by
 obtain⟨c',acc',e1,e2,e3⟩:=uI (n:=n) (l1:=Dg a) 2 a c 0 [] rfl hc rfl (by decide) (by omega) n (by omega)
 have hl:=jT (v:=a) (by omega)
 have hlt:=yl a;unfold Gn;rw[show(((c:Int)),([]:RR Int),(0:Int))=((c:Int),[],((0:Nat):Int)) from rfl,e1,al]
 dsimp only
 rw[wE (by rw[OU,PS]; omega),aY,e2,PM,jQ n (by rw[PK]; omega) (by omega) (by omega),al]
def Kb:∀(v a:Nat),v<(Dg a).length->(Dg a)[v]? = some ((a/4294967296 ^ v%4294967296:Nat):Int)
 | 0,a,h=>by
  have h0:a≠0:=fun c=>by subst c; rw[gm] at h; cases h
  rw[fK h0,Nat.pow_zero,Nat.div_one]; rfl
 | v+1,a,h=>by
  have h0:a≠0:=fun c=>by subst c; rw[gm] at h; cases h
  rw[fK h0] at h ⊢;rw[Pn,Kb v (a/4294967296) (by simpa using h),PK,ON,Qc]
def qF:∀(v a:Nat),(Dg a).drop v=Dg (a/4294967296 ^ v)
 | 0,a=>by rw[Nat.pow_zero,Nat.div_one]; rfl
 | v+1,a=>by
  by_cases h0:a=0
  subst h0; rw[Nat.zero_div,gm]; rfl
  rw[fK h0,List.drop_succ_cons,qF v,PK,ON,Qc]
def JQ:∀(k v i:Nat),i<k->(dk k v)[i]? = some ((v/4294967296 ^ i%4294967296:Nat):Int)
 | k+1,v,0,_=>by rw[dk,Nat.pow_zero,Nat.div_one]; rfl
 | k+1,v,i+1,h=>by rw[dk,Pn,JQ k _ i (by omega),PK,ON,Qc]
def KG{d s:Nat}(hs:s<32):Int.tmod (DK .i64 (d:Int) ((s:Int)).toNat) 2=((d/2 ^ s%2:Nat):Int):=by
 rw[OC];unfold DK;rw[Ps (show s<=IntKind.i64.bits by show s<=64; omega),Int.fdiv_eq_ediv_of_nonneg _ (by exact Int.le_of_lt (Int.pow_pos (by decide)))]
 have:((d:Int)/2 ^ s)=((d/2 ^ s:Nat):Int):=by rw[Int.natCast_ediv]; norm_cast
 rw[this]
 rfl
def Hq{s:Nat}(hs:s<32):A2 .i64 1 ((s:Int)).toNat=((2 ^ s:Nat):Int):=by
 rw[OC];have hp:2 ^ s<=2 ^ 31:=O8 (by decide) (by omega)
 unfold A2;rw[Ps (show s<=IntKind.i64.bits by show s<=64; omega),Int.one_mul,show((2:Int) ^ s)=((2 ^ s:Nat):Int) by norm_cast]
 generalize 2 ^ s=p at hp ⊢;exact aH (by omega) (by omega)
def BF{l1:RR Int}{a b d v y:Nat}{q:RR Int}(h0:b≠0)(hb:b<4611686018427387904)(hn:2000<n)(hy:y<1000)(hv:v<y)(hq:q.length=y)(hd:d<4294967296)(hl:l1[v]? = some (d:Int))(hlv:v<l1.length) :
  ∀(s:Nat),s<=32->∀x:Nat,x+a/b*4294967296=(a*2 ^ (32-s)+d/2 ^ s)/b*2 ^ s->x+2 ^ s<=4294967296->∀M,s<M ->
   ∃x':Nat,cy (pt n (v:Int) l1 (Dg b) (y:Int)) M (q.set v (x:Int),Dg ((a*2 ^ (32-s)+d/2 ^ s)%b),(s:Int)-1)=some (q.set v (x':Int),Dg ((a*4294967296+d)%b))/\x'+a/b*4294967296=(a*4294967296+d)/b/\x'<4294967296
 | 0,_,x,h1,h2,M+1,_=>by
  refine⟨x,?_,?_,by simp at h2; omega⟩
  rw[show a*2 ^ (32-0)+d/2 ^ 0=a*4294967296+d by simp]
  refine bX ?_;unfold pt
  dsimp only
  rw[RK]
  simpa using h1
 | s+1,hs,x,h1,h2,M+1,hM=>by
  have hp:2 ^ (s+1)=2*2 ^ s:=by rw[PK,ON]
  have h6:2 ^ (32-s)=2*2 ^ (32-(s+1)):=by rw[show 32-s=32-(s+1)+1 by omega,PK,ON]
  have hD:a*2 ^ (32-s)+d/2 ^ s=2*(a*2 ^ (32-(s+1))+d/2 ^ (s+1))+d/2 ^ s%2:=by
   rw[h6,PK,<-Qc];have:a*(2*2 ^ (32-(s+1)))=2*(a*2 ^ (32-(s+1))):=by simp only[ON,OP]
   rw[this]; omega
  generalize hE:a*2 ^ (32-(s+1))+d/2 ^ (s+1)=E at *;generalize hE':a*2 ^ (32-s)+d/2 ^ s=E' at *;generalize hw:d/2 ^ s%2=w at *;have h7:w<=1:=by omega
  have hr:E%b<b:=Pw _ (OW h0);obtain⟨r,f1,f2,f0⟩:=Ir (n:=n) (a:=2*(E%b)+w) (b:=b) (by omega) (by omega) (by omega)
  have hEd:=P8 E b;have hst:∃c:Nat,E'/b=2*(E/b)+c/\c<=1/\pt n (v:Int) l1 (Dg b) (y:Int) (q.set v (x:Int),Dg (E%b),((s+1:Nat):Int)-1)=some (.inl (q.set v ((x+c*2 ^ s:Nat):Int),Dg (E'%b),(s:Int)-1)):=by
   have hbr:∃c:Nat,E'/b=2*(E/b)+c/\c<=1/\(br (decide (0<=r)) (ob (sZ n (Dg (2*(E%b)+w)) (Dg b)) fun l2=>gd (bY (v:Int) (y:Int).toNat) (ob ((q.set v (x:Int))[((v:Nat):Int).toNat]?) fun x3=>gd (bY (v:Int) (y:Int).toNat) (some (((q.set v (x:Int)).set ((v:Nat):Int).toNat (QU (x3+(A2 .i64 1 (s:Int).toNat)))),l2)))) (some (q.set v (x:Int),Dg (2*(E%b)+w))))=some (q.set v ((x+c*2 ^ s:Nat):Int),Dg (E'%b)):=by
    have hbE:b*(2*(E/b))=2*(b*(E/b)):=OP _ _ _
    by_cases c:2*(E%b)+w<b
    have h4:E'/b=2*(E/b):=by
     rw[show E'=2*(E%b)+w+b*(2*(E/b)) by omega,Nat.add_mul_div_left _ _ (OW h0),PU c,Pr]
    have h5:E'%b=2*(E%b)+w:=by
     rw[show E'=2*(E%b)+w+b*(2*(E/b)) by omega,Nat.add_mul_mod_self_left,O4 c]
    refine⟨0,h4,by omega,?_⟩
    rw[aQ (by have:=f0.2 c; omega),h5,Qi,Py]
    have h4:E'/b=2*(E/b)+1:=by
     rw[show E'=(2*(E%b)+w-b)+b*(2*(E/b)+1) by rw[PO,hbE]; omega,Nat.add_mul_div_left _ _ (OW h0),PU (by omega),Pr]
    have h5:E'%b=2*(E%b)+w-b:=by
     rw[show E'=(2*(E%b)+w-b)+b*(2*(E/b)+1) by rw[PO,hbE]; omega,Nat.add_mul_mod_self_left,O4 (by omega)]
    refine⟨1,h4,by omega,?_⟩
    have h8:¬r<0:=fun h=>c (f0.1 h);rw[RJ,Io n (by omega) (by omega) (by omega),al,OC,OC,aB hv,aY,Pz (by omega),al,aY,List.set_set,Hq (by omega),aH (by omega) (by omega),h5,Nat.one_mul]
    norm_cast
   obtain⟨c,k1,k2,k0⟩:=hbr;refine⟨c,k1,k2,?_⟩;unfold pt
   dsimp only
   rw[show((s+1:Nat):Int)-1=(s:Int) by omega,RJ,aB hlv,aY,OC (n:=v),hl,al,KG (by omega),hw,IE hn (by omega) h7,al,f1,al]
   rw[OC (n:=v)] at k0;rw[k0,al]
   dsimp only
   rw[aH (by omega) (by omega)]
  obtain⟨c,k1,k2,k0⟩:=hst;have hc:c*2 ^ s<=2 ^ s:=by
   have:=Ph (2 ^ s) k2;omega
  have hx:x+c*2 ^ s+a/b*4294967296=E'/b*2 ^ s:=by
   rw[k1,Po];have:2*(E/b)*2 ^ s=E/b*2 ^ (s+1):=by rw[hp]; simp only[OO,ON,OP]
   omega
  obtain⟨x',e1,e2,e0⟩:=BF h0 hb hn hy hv hq hd hl hlv s (by omega) (x+c*2 ^ s) (by rw[hE']; exact hx) (by omega) M (by omega)
  rw[hE'] at e1;exact⟨x',by rw[ca k0,e1],e2,e0⟩
def MI{b:Nat}(h:b≠0):4294967296 ^ ((Dg b).length-1)<=b:=by
 have hl:0<(Dg b).length:=List.length_pos_iff.2 fun c=>h (sQ.1 c);have h1:=qF ((Dg b).length-1) b;have h2:((Dg b).drop ((Dg b).length-1)).length=1:=by rw[QC]; omega
 rw[h1] at h2;have h3:b/4294967296 ^ ((Dg b).length-1)≠0:=fun c=>by rw[c,gm] at h2; cases h2
 exact PG fun c=>h3 (PU (by omega))
def Ix{q:RR Int}{y c:Nat}(h:q.length=y)(h':∀i,i<y->q[i]? = some ((c/4294967296 ^ i%4294967296:Nat):Int)):q=dk y c:=by
 apply Qg;intro i
 by_cases hi:i<y
 rw[h' i hi,JQ y c i hi]
 rw[Pp (by omega),Pp (by rw[zG]; omega)]
def OB:(2:Nat) ^ 32=4294967296:=by decide +kernel
def Er{a b y:Nat}(hb0:b≠0)(hb:b<4611686018427387904)(hn:2000<n)(hy:y<1000)(hyl:y<=(Dg a).length) :
  ∀(v:Nat),v<=y->∀q:RR Int,q.length=y->(∀i,v<=i->i<y->q[i]? = some ((a/b/4294967296 ^ i%4294967296:Nat):Int))->(∀i,i<v->q[i]? = some 0)->∀M,v<M ->
   cy (rh n (Dg a) (Dg b) (y:Int)) M (q,Dg (a/4294967296 ^ v%b),(v:Int)-1)=some (dk y (a/b),Dg (a%b)):=by
 intro v
 induction v with
 | zero =>
  intro _ q h1 h2 _ M hM;obtain⟨M,rfl⟩:∃k,M=k+1:=⟨M-1,by omega⟩
  rw[Nat.pow_zero,Nat.div_one,bX (r:=(q,Dg (a%b))),Ix h1 fun i hi=>h2 i (P6 _) hi];unfold rh
  dsimp only
  rw[RK]
 | succ v ih =>
  intro hv q h1 h2 h3 M hM;obtain⟨M,rfl⟩:∃k,M=k+1:=⟨M-1,by omega⟩
  have hd:=Pw (a/4294967296 ^ v) (show 0<4294967296 by decide)
  have hA:a/4294967296 ^ (v+1)*4294967296+a/4294967296 ^ v%4294967296=a/4294967296 ^ v:=by
   rw[PK,<-Qc]; omega
  have h32:(2:Nat) ^ 32=4294967296:=OB;have hd':a/4294967296 ^ v%4294967296<2 ^ 32:=by rw[h32]; exact hd
  have h0':0+2 ^ 32<=4294967296:=by rw[h32,Pr]; exact OF _
  have hq:q.set v ((0:Nat):Int)=q:=by
   apply Qg;intro i
   by_cases e:i=v
   subst e; rw[Pz (by omega),h3 i (by omega)]; rfl
   rw[PQ (Ne.symm e)]
  have hin:=BF (n:=n) (l1:=Dg a) (a:=a/4294967296 ^ (v+1)) (b:=b) (d:=a/4294967296 ^ v%4294967296) (v:=v) (y:=y) (q:=q) hb0 hb hn hy (by omega) h1 hd (Kb v a (by omega)) (by omega) 32 (OF _) 0 (by rw[PU hd',Qa,Nat.pow_zero,Qf,Pr,h32,Py (a/4294967296 ^ (v+1))]) h0' n (by omega)
  rw[PU hd',Qa,Nat.pow_zero,Qf,Py,hq,hA] at hin;obtain⟨x,e1,e2,e3⟩:=hin;have hx:a/b/4294967296 ^ v%4294967296=x:=by
   rw[Qc,ON b,<-Qc,<-e2]; omega
  rw[ca (s':=(q.set v (x:Int),Dg (a/4294967296 ^ v%b),(v:Int)-1)),ih (by omega) _ (by rw[Qj]; exact h1) (fun i g1 g2=>?_) (fun i g=>?_) M (by omega)]
  by_cases e:i=v
  subst e; rw[Pz (by omega),hx]
  rw[PQ (Ne.symm e),h2 i (by omega) g2]
  rw[PQ (by omega),h3 i (by omega)]
  unfold rh
  dsimp only
  rw[show((v+1:Nat):Int)-1=(v:Int) by omega,RJ]
  rw[show((32:Nat):Int)-1=31 from rfl] at e1
  rw[e1,al]
  dsimp only
  rw[aH (by omega) (by omega)]
def BA(hn:2000<n){a b:Nat}(ha:a<18446744073709551616)(hb0:b≠0)(hb:b<4611686018427387904):DR n (Dg a) (Dg b)=some (Dg (a/b),Dg (a%b)):=by
 have hla:=jT ha;have hlb:=jT (v:=b) (by omega)
 have hl0:0<(Dg b).length:=List.length_pos_iff.2 fun c=>hb0 (sQ.1 c);have hge:=MI hb0;have hw:QU (((Dg b).length:Int)-1)=(((Dg b).length-1:Nat):Int):=by rw[aH (by omega) (by omega)]; omega
 unfold DR;rw[hw]
 by_cases c:(Dg a).length<=(Dg b).length-1
 have hlt:=yl a;have:(4294967296:Nat) ^ (Dg a).length<=4294967296 ^ ((Dg b).length-1):=O8 (by decide) c
 rw[RJ,PM,wE (by omega),aY,PU (by omega),O4 (by omega),gm]
 have hy:QU (((Dg a).length:Int)-(((Dg b).length-1:Nat):Int))=(((Dg a).length-((Dg b).length-1):Nat):Int):=by rw[aH (by omega) (by omega)]; omega
 rw[RK,hy]
 generalize hY:(Dg a).length-((Dg b).length-1)=y at *;have htop:([]:RR Int)++(((Dg a).drop ((y:Nat):Int).toNat).take (((Dg a).length:Int).toNat-((y:Nat):Int).toNat))=Dg (a/4294967296 ^ y%b):=by
  have h1:(Dg (a/4294967296 ^ y)).length=(Dg b).length-1:=by rw[<-qF,QC]; omega
  have h2:=yl (a/4294967296 ^ y);rw[h1] at h2;rw[O4 (by omega),PM,OC,OC,List.take_of_length_le (by rw[QC]; omega),qF]
 have hq:a/b<4294967296 ^ y:=by
  rw[Pt (OW hb0)];refine OH (yl a) ?_;rw[show(Dg a).length=y+((Dg b).length-1) by omega,Qe]
  exact PH _ hge
 rw[al,eE (by omega),wE (by omega),aY,al,Nv (by omega),aY,htop,wE (by have:=jT (v:=a/4294967296 ^ y%b) (by have:=Pw (a/4294967296 ^ y) (OW hb0); omega); omega),aY,OC,
  show QU ((y:Int)-1)=(y:Int)-1 from aH (by omega) (by omega),
  Er hb0 hb hn (by omega) (by omega) y (OF _) _ (by simp) (fun i g1 g2=>O6 g1 (by omega)) (fun i g=>by rw[PW,OM g]) n (by omega),al]
 dsimp only
 rw[jQ n hq (by omega) (by omega),al]
def uv(hn:2000<n):∀(m a b:Nat),a<18446744073709551616->b<4611686018427387904->b<m->cy (rO n) m (Dg a,Dg b)=some (Dg (Nat.gcd a b))
 | m+1,a,b,ha,hb,hm=>by
  by_cases h0:b=0
  subst h0;rw[Nat.gcd_zero_right,bX];unfold rO
  dsimp only
  rw[gm,aQ (by simp)]
  have hl0:0<(Dg b).length:=List.length_pos_iff.2 fun c=>h0 (sQ.1 c);have hr:=Pw a (OW h0);rw[ca (s':=(Dg b,Dg (a%b))),uv hn m b (a%b) (by omega) (by omega) (by omega),Nat.gcd_comm a b,Nat.gcd_rec b a,Nat.gcd_comm]
  unfold rO
  dsimp only
  rw[RJ,BA hn ha h0 hb,al]
def pL(hn:2 ^ 2000<n):18446744073709551616<n:=by
 have:(18446744073709551616:Nat)<2 ^ 2000:=by decide +kernel
 omega
def Cp(hn:2 ^ 2000<n){a b:Nat}(ha:a<18446744073709551616)(hb:b<4611686018427387904):Di n false (Dg a) false (Dg b)=some (false,Dg (Nat.gcd a b)):=by
 have hs:=pL hn;unfold Di;rw[uv (by omega) n a b ha hb (by omega),al]
def BW(hn:2000<n){a b:Nat}(ha:a<18446744073709551616)(hb0:b≠0)(hb:b<4611686018427387904):CL n false (Dg a) false (Dg b)=some (false,Dg (a/b),false,Dg (a%b)):=by
 have h1:a/b<18446744073709551616:=Pu (Nat.div_le_self _ _) ha;have h2:=Pw a (OW hb0);unfold CL;rw[BA hn ha hb0 hb,al]
 dsimp only
 rw[show(!(false==false))=false from rfl,qg n h1 (by omega),al]
 dsimp only
 rw[qg n (by omega) (by omega),al]
 dsimp only
 rw[cz,al]
def By(hn:2 ^ 2000<n){a b:Nat}(ha:a<4611686018427387904)(hb0:b≠0)(hb:b<4611686018427387904):Du n false (Dg a) false (Dg b)=some (false,Dg (bU b a).1,false,Dg (bU b a).2):=by
 have hs:=pL hn;have hg0:Nat.gcd a b≠0:=fun c=>hb0 (Nat.eq_zero_of_gcd_eq_zero_right c);have hgb:Nat.gcd a b<=b:=Nat.gcd_le_right _ (OW hb0);unfold Du;rw[Cp hn (by omega) hb,al]
 dsimp only
 rw[cz,al]
 dsimp only
 rw[BW (by omega) (by omega) hg0 (by omega),al]
 dsimp only
 rw[BW (by omega) (by omega) hg0 (by omega),al]
 rfl
def Ba(hn:2000<n){a b:Nat}(ha:a<4294967296)(hb:b<4294967296):IG n false (Dg a) false (Dg b)=some (false,Dg (a*b)):=by
 have h:a*b<18446744073709551616:=by
  have:=Pe (show a<=4294967295 by omega) (show b<=4294967295 by omega)
  omega
 unfold IG;rw[Js n (by omega) hb h (by omega),al,show(!(false==false))=false from rfl,qg n h (by omega),al]
def Jr(hn:2 ^ 2000<n){p q r s:Nat}(hp:p<1073741824)(hq:q<1073741824)(hr:r<1073741824)(hs:s<1073741824)(hq0:q≠0)(hs0:s≠0) :
  GW n false (Dg p) false (Dg q) false (Dg r) false (Dg s)=some (false,Dg (bU (q*s) (p*s+r*q)).1,false,Dg (bU (q*s) (p*s+r*q)).2):=by
 have hn2:=pL hn;have h1:=Pe (show p<=1073741823 by omega) (show s<=1073741823 by omega)
 have h2:=Pe (show r<=1073741823 by omega) (show q<=1073741823 by omega)
 have h3:=Pe (show q<=1073741823 by omega) (show s<=1073741823 by omega)
 unfold GW;rw[Ba (by omega) (by omega) (by omega),al]
 dsimp only
 rw[Ba (by omega) (by omega) (by omega),al]
 dsimp only
 rw[I3 n (by omega) (by omega),al]
 dsimp only
 rw[Ba (by omega) (by omega) (by omega),al]
 dsimp only
 rw[By hn (by omega) (Pa hq0 hs0) (by omega),al]
end
set_option exponentiation.threshold 3000
section
variable{n:Nat}
def Kd(hn:1000<n){p:Nat}(hp:p<4294967296):E9 n p 0 0 0 0 0 0 0=some (dk 16 p):=by
 obtain⟨m,rfl⟩:∃m,n=m+20:=⟨n-20,by omega⟩
 have h:E9 (m+20) p 0 0 0 0 0 0 0=some (QU ((p%4294967296:Nat):Int)::QU ((uw .u64 (p/4294967296):Nat):Int)::List.replicate 14 0):=by kernel_rfl
 rw[h,dk,PU hp,qA,aH (by omega) (by omega)]
 rfl
def B6(hn:1000<n){p:Nat}(hp:p<4294967296):JU n p 0 0 0 0 0 0 0=some (false,Dg p):=by
 unfold JU;rw[Kd hn hp,al,aZ (by decide),zT n (jQ n (OH hp (by decide +kernel)) (by decide) hn),al]
def FY:Dg 1=[1]:=gI (by decide) (by decide)
def K1(hn:2 ^ 2000<n){p q:Nat}(hp:p<1073741824)(hq:q<1073741824)(hq0:q≠0)(hg:Nat.gcd p q=1):F2 n p 0 0 0 0 0 0 0 q 0 0 0 0 0 0 0=some true:=by
 have hs:=pL hn;have hl0:0<(Dg q).length:=List.length_pos_iff.2 fun c=>hq0 (sQ.1 c);unfold F2;rw[B6 (by omega) (by omega),al]
 dsimp only
 rw[B6 (by omega) (by omega),al]
 dsimp only
 rw[PC,kL,RJ,Cp hn (by omega) (by omega),hg,FY,al]
 rfl
structure SV(L:RR Sh)(v:Nat->Nat)(T N:Nat):Prop where
 len:L.length=N
 at_:∀i,i<N->L[i]? = some (sh (bU T (v i)))
def VQ.sv{L:RR Sh}{v:Nat->Nat}{T N:Nat}(h:VQ L v T N)(hT:T≠0)(hb:T<1073741824)(hv:∀i,i<N->v i<=T):SV L v T N :=
 ⟨h.len,fun i hi=>by
  obtain⟨x,e,hx⟩:=h.at_ i hi;have:=hv i hi;rw[e,hx.uniq (F9 (a:=v i) hT (by omega) (by omega)) hT hT rfl]⟩
def Ib(hn:2 ^ 2000<n){L:RR Sh}{v:Nat->Nat}{T N:Nat}(h:SV L v T N)(hT:T≠0)(hb:T<1073741824)(hv:∀i,i<N->v i<=T)(hN:N<=1000):GJ n L=some true:=by
 have hs:=pL hn;have h1:=bI (body:=qT n L) N (fun(_:RS) (v:Int)=>v) (fun _=>(.inr ():RS⊕RS)) (fun _ _=>True) (fun s i hi _=>by
  refine⟨(),?_,trivial⟩;obtain⟨a1,a2,a3,a4,_⟩:=fW (h:=v i) hT;have:=hv i hi;unfold qT;rw[h.len,RJ,aB hi,aY,OC,h.at_ i hi,al]
  unfold sh
  dsimp only
  rw[K1 hn (by omega) (by omega) a3 a4,al,OS,cz,RL]) (fun s _=>by
  unfold qT;rw[h.len,RK]) (n:=n) (s:=()) trivial (by omega)
 obtain⟨_,h1,_⟩:=h1;unfold GJ;rw[h1]
 rfl
def EC(hn:2 ^ 2000<n){a:Nat}(ha:a<=1):yW n (a:Int) 1=some (false,Dg a,false,Dg 1):=by
 have hs:=pL hn;unfold yW;rw[GY n (by omega) (by omega),al]
 dsimp only
 rw[show(1:Int)=((1:Nat):Int) from rfl,GY n (v:=1) (by decide) (by omega),al]
 dsimp only
 rw[By hn (by omega) (by decide) (by decide),al]
 match a,ha with
 | 0,_=>rw[oB (by decide)]
 | 1,_=>rw[nS (by decide)]
def JL(hn:2 ^ 2000<n){L:RR Sh}{v:Nat->Nat}{T N:Nat}(h:SV L v T N)(hT:T≠0)(hb:T<1073741824)(hsum:sm v N=T)(hN:N<=1000):FA n L=some true:=by
 have hs:=pL hn;have h1:=bI (body:=pa n L) N (fun(s:Nat×Nat) (v:Int)=>(false,Dg s.1,false,Dg s.2,v)) (fun s=>(.inr (false,Dg s.1,false,Dg s.2):RS ⊕(Bool×RR Int×Bool×RR Int))) (fun i s=>s=bU T (sm v i)) (fun s i hi hq=>by
  subst hq;have hv:v i<=T:=hsum▸iR hi;have hm:sm v i<=T:=hsum▸tH (P3 hi);obtain⟨a1,a2,a3,a4,a5⟩:=fW (h:=v i) hT;obtain⟨c1,c2,c3,c4,c5⟩:=fW (h:=sm v i) hT;refine⟨bU T (sm v (i+1)),?_,rfl⟩;unfold pa
  dsimp only
  rw[h.len,RJ,aB hi,aY,OC,h.at_ i hi,al]
  unfold sh
  dsimp only
  unfold HI;rw[B6 (by omega) (by omega),al]
  dsimp only
  rw[B6 (by omega) (by omega),al]
  dsimp only
  rw[al]
  dsimp only
  rw[cz,Jr hn (by omega) (by omega) (by omega) (by omega) c3 a3,al]
  dsimp only
  rw[RL,pC (T:=(bU T (sm v i)).2*(bU T (v i)).2) (U:=T) (b:=sm v (i+1)) (Pa c3 a3) hT]
  rw[sm];generalize bU T (v i)=x at *;generalize bU T (sm v i)=y at *;rw[Po,Po,show y.1*x.2*T=(y.1*T)*x.2 by simp only[OO,ON,OP],c5,
   show x.1*y.2*T=(x.1*T)*y.2 by simp only[OO,ON,OP],a5]
  simp only[OO,ON,OP]) (fun s _=>by
  unfold pa
  dsimp only
  rw[h.len,RK]) (n:=n) (s:=(0,1)) (by rw[sm,oB hT]) (by omega)
 obtain⟨s,h1,h2⟩:=h1;rw[hsum,nS hT] at h2;subst h2;unfold FA II;rw[show(0:Int)=((0:Nat):Int) from rfl,EC hn (a:=0) (by decide),al]
 dsimp only
 rw[al]
 dsimp only
 rw[show cy (pa n L) n (false,Dg 0,false,Dg 1,((0:Nat):Int))=_ from h1]
 show ob (yW n ((1:Nat):Int) 1) _=_
 rw[EC hn (a:=1) (by decide),al]
 dsimp only
 rw[FY];obtain⟨m,rfl⟩:∃m,n=m+100:=⟨n-100,by omega⟩
 have e:H0 (m+100) false [1] false [1] false [1] false [1]=some 0:=by kernel_rfl
 rw[e,al]
 rfl
def Kz(hn:2 ^ 2000<n){K:RR (RR Sh)}{W:Nat->Nat->Nat}{P N:Nat}(hK:KQ K W P N)(hPb:P<1073741824)(hN1:1<=N)(hN:N<=60):Ng n K=some true:=by
 have hs:=pL hn;have h1:=bI (body:=yb n K) N (fun(_:RS) (v:Int)=>v) (fun _=>(.inr ():RS⊕RS)) (fun _ _=>True) (fun s i hi _=>by
  refine⟨(),?_,trivial⟩;obtain⟨ri,e1,hri⟩:=hK.at_ i hi;have hv:∀j,j<N->W i j<=P:=fun j hj=>hK.sum i hi▸iR hj;have hsv:=hri.sv hK.pos hPb hv;unfold yb;rw[hK.len,RJ,aB hi,aY,OC,e1,al,hri.len,OY rfl,OS,cz,aY,Ib hn hsv hK.pos hPb hv (by omega),al,OS,cz,aY,JL hn hsv hK.pos hPb (hK.sum i hi) (by omega),al,OS,al,cz,RL]) (fun s _=>by
  unfold yb;rw[hK.len,RK]) (n:=n) (s:=()) trivial (by omega)
 obtain⟨_,h1,_⟩:=h1;unfold Ng;rw[hK.len,RK,Pm (by omega),al,cz,h1]
 rfl
def ur(l:RR Nat){N:Nat}(h:1<=N):1<=sm (tw l) N:=by
 have:=iR (f:=tw l) (i:=0) (N:=N) (by omega)
 have:=(jk l 0).1;omega
def oA(l:RR Nat):∀N:Nat,sm (tw l) N<=9*N
 | 0=>by simp[sm]
 | N+1=>by
  have:=oA l N;have:=(jk l N).2;rw[sm]; omega
def Lz(hn:2 ^ 2000<n)(l:RR Nat){N:Nat}(h1:1<=N)(h4:N<=4):∃E,Mh n (vV l N)=some (E,0)/\VQ E (tw l) (sm (tw l) N) N:=by
 have hs:=cm hn;have hb:(100:Nat)<2 ^ 440:=by decide +kernel
 have hb9:=DP;have hS:=ur l h1;have hS9:=oA l N;obtain⟨L,f1,q1⟩:=rD (n:=n) (by omega) l (N:=N) (by omega)
 have g1:=bI (body:=ub n L) N (fun(s:RR Nat×RR Nat) (v:Int)=>(false,s.1,false,s.2,v)) (fun s=>(false,s.1,false,s.2)) (fun i s=>Q s.1 s.2 (sm (tw l) i) 1) (fun s i hi hq=>by
  obtain⟨lu,ku,e6,qu⟩:=q1.at_ i hi;obtain⟨u1,u9⟩:=jk l i;have:=oA l i;obtain⟨m,p,f2,f3⟩:=hq.plus hn qu (by decide) (by decide) (by omega) (by omega) (by omega) (by omega)
  refine⟨(m,p),?_,by rw[sm]; simpa using f3⟩
  unfold ub
  dsimp only
  rw[q1.len,RJ,aB hi,aY,OC,e6,al]
  dsimp only
  unfold G7;rw[al]
  dsimp only
  rw[f2,al]
  dsimp only
  rw[RL]) (fun s _=>by
  unfold ub
  dsimp only
  rw[q1.len,RK]) (n:=n) (s:=([],[1])) (Q.zero (by decide)) (by omega)
 obtain⟨⟨sl,sk⟩,g1,g2⟩:=g1
 dsimp only at g1 g2
 have g3:=bI (body:=uC n L false sl false sk) N (fun(s:RR Rt) (v:Int)=>(s,v)) id (fun i s=>s.length=N/\(∀a,a<i->∃l' k',s[a]? = some (false,l',false,k')/\Q l' k' (tw l a) (sm (tw l) N))/\∀a,i<=a->s[a]? = L[a]?) (fun s i hi hq=>by
  obtain⟨c1,c2,c3⟩:=hq;obtain⟨lu,ku,e6,qu⟩:=q1.at_ i hi;obtain⟨u1,u9⟩:=jk l i;obtain⟨m,p,f2,f3⟩:=qu.over hn g2 (by decide) (by decide) (by omega) (by omega) (by omega) (by omega) (by omega)
  rw[Qf,Nat.one_mul] at f3;refine⟨s.set i (false,m,false,p),?_,by rw[Qj]; exact c1,fun a ha=>?_,fun a ha=>?_⟩
  unfold uC
  dsimp only
  rw[q1.len,RJ,aB hi,aY,OC,c3 i (OF _),e6,al]
  dsimp only
  rw[f2,al]
  dsimp only
  rw[aY,RL]
  by_cases e:a=i
  subst e; exact⟨m,p,Pz (by omega),f3⟩
  rw[PQ (Ne.symm e)]; exact c2 a (by omega)
  rw[PQ (by omega)]; exact c3 a (by omega)) (fun s _=>by
  unfold uC
  dsimp only
  rw[q1.len,RK]; rfl) (n:=n) (s:=L) ⟨q1.len,fun a ha=>O6 ha (by omega),fun _ _=>rfl⟩ (by omega)
 obtain⟨s,g3,c1,c2,_⟩:=g3;obtain⟨E,f4,q4⟩:=re (n:=n) hn (L:=s) (v:=tw l) (T:=sm (tw l) N) (N:=N) ⟨c1,c2⟩ (by omega) (by omega) (fun i _=>by have:=(jk l i).2; omega) (by omega)
 obtain⟨r,f5,_,f6⟩:=oY (n:=n) g2.num;have hz:=(NK (T:=1) (h:=sm (tw l) N) (by decide)).2 (by omega)
 refine⟨E,?_,q4⟩;unfold Mh;rw[lA,RK,show(0:Int)=((0:Nat):Int) from rfl,pn (n:=n) (by omega) l (by omega) (by decide),al,cz,f1,al]
 rw[show qd n ((0:Nat):Int)=_ from AY (n:=n) (by omega),al]
 dsimp only
 rw[show cy (ub n L) n (false,[],false,[1],((0:Nat):Int))=_ from g1,al]
 dsimp only
 rw[al]
 dsimp only
 rw[f5,al,aQ (by have:=f6.1; omega)]
 rw[show cy (uC n L false sl false sk) n (L,((0:Nat):Int))=_ from g3,al]
 show ob (yL n s) _=_
 rw[f4,al]
 rfl
def GR(hn:1000000<n){K:RR (RR Sh)}(h1:K.length<1000)(h2:∀r∈K,r.length<1000):Np n K K=some true:=by
 have hin:∀i (hi:i<K.length) (row:RR Sh),K[i]? = some row->row.length<1000->cy (uy n (i:Int) K row K row) n 0=some (.inr ()):=fun i hi row hr hlr=>by
  have h:=bI (body:=uy n (i:Int) K row K row) row.length (fun(_:RS) (v:Int)=>v) (fun _=>(.inr ():RS⊕RS)) (fun _ _=>True) (fun s j hj _=>by
   have e:row[j]? = some row[j]:=OG hj;generalize row[j]=x at e;obtain⟨x1,x2,x3,x4,x5,x6,x7,x8,x9,x10,x11,x12,x13,x14,x15,x16⟩:=x;refine⟨(),?_,trivial⟩;unfold uy;simp only[aB hi,aB hj,aY,OC];rw[RJ,e,al]
   dsimp only
   rw[al]
   dsimp only
   simp only[decide_true,PA,OS,cz];rw[RL]) (fun s _=>by
   unfold uy;simp only[aB hi,aY];rw[RK]) (n:=n) (s:=()) trivial (by omega)
  obtain⟨_,h1,_⟩:=h;exact h1
 have h:=bI (body:=yO n K K) K.length (fun(_:RS) (v:Int)=>v) (fun _=>(.inr ():RS⊕RS)) (fun _ _=>True) (fun s i hi _=>by
  have e:K[i]? = some K[i]:=OG hi;have hr:=h2 _ (Ql hi);generalize K[i]=row at e hr;refine⟨(),?_,trivial⟩;unfold yO;rw[RJ,aB hi,aY,OC,e,al,aY,al,OY rfl,OS,cz,hin i hi row e hr,al]
  dsimp only
  rw[RL]) (fun s _=>by
  unfold yO;rw[RK]) (n:=n) (s:=()) trivial (by omega)
 obtain⟨_,h1,_⟩:=h;unfold Np;rw[OY rfl,OS,cz,h1]
 rfl
def Jw(hn:2 ^ 2000<n){x y:Sh}{a T b U:Nat}(h:CS x a T)(h':CS y b U)(hT:T≠0)(hU:U≠0)(hTb:T<2 ^ 440)(hUb:U<2 ^ 440)(ha:a<2 ^ 440)(hb:b<2 ^ 440):∃c:Int,f32 (Mj n) x y=some (c,0)/\(c<0↔a*U<b*T)/\(c=0↔a*U=b*T):=by
 have hs:=cm hn;have hb9:=DP;have hv:=CR hn h h' hT hU hTb hUb ha hb;obtain⟨lx,kx,rfl,qx⟩:=h;obtain⟨ly,ky,rfl,qy⟩:=h';obtain⟨lx7,kx7⟩:=qx.qb hT hTb ha;obtain⟨ly7,ky7⟩:=qy.qb hU hUb hb;obtain⟨c,f1,f2,f3⟩:=qx.cmp hn qy hT hU (by omega) (by omega) (by omega) (by omega)
 refine⟨c,?_,f2,f3⟩;unfold f32 uq Mj
 dsimp only
 unfold uq at hv;rw[hv,al,OS,cz,ff (by omega) qx.num qx.den lx7 kx7,al]
 dsimp only
 rw[ff (by omega) qy.num qy.den ly7 ky7,al]
 dsimp only
 rw[f1,al,al]
def Mu(hn:2 ^ 2000<n){K G:RR (RR Sh)}{W V:Nat->Nat->Nat}{P U N:Nat}(hK:KQ K W P N)(hG:KQ G V U N)(hPb:P<2 ^ 440)(hUb:U<2 ^ 440)(hN:N<=1000)
  (h1:∀i j,i<N->j<N->i≠j->V i j*P<=W i j*U) (h2:∀i,i<N->W i i*U<=V i i*P):cy (CK n K G) n 0=some (.inr ()):=by
 have hs:=cm hn;have hW:∀a b,a<N->b<N->W a b<=P:=fun a b ha hb=>hK.sum a ha▸iR hb;have hV:∀a b,a<N->b<N->V a b<=U:=fun a b ha hb=>hG.sum a ha▸iR hb;have hin:∀i,i<N->cy (C6 n K (i:Int) G) n 0=some (.inr ()):=fun i hi=>by
  have h:=bI (body:=C6 n K (i:Int) G) N (fun(_:RS) (v:Int)=>v) (fun _=>(.inr ():RS⊕RS)) (fun _ _=>True) (fun s j hj _=>by
   obtain⟨ri,e1,hri⟩:=hK.at_ i hi;obtain⟨x,e2,qx⟩:=hri.at_ j hj;obtain⟨gi,e3,hgi⟩:=hG.at_ i hi;obtain⟨y,e4,qy⟩:=hgi.at_ j hj;have w1:=hW i j hi hj;have v1:=hV i j hi hj;obtain⟨c,f1,f2,f3⟩:=Jw hn qy qx hG.pos hK.pos hUb hPb (by omega) (by omega)
   refine⟨(),?_,trivial⟩;have hb:(br (!decide ((0:Int)=0)) (some true) (br (!decide ((i:Int)=(j:Int))) (br (decide (0<c)) (some true) (br (decide ((i:Int)=(j:Int))) (some (decide (c<0))) (some false))) (br (decide ((i:Int)=(j:Int))) (some (decide (c<0))) (some false))))=some false:=by
    rw[OY rfl,OS,cz]
    by_cases e:i=j
    subst e;have:=h2 i hi;have hc:¬c<0:=fun h=>by have:=f2.1 h; omega
    rw[OY rfl,OS,cz,kL,Pm hc]
    have:=h1 i j hi hj e;have hc:¬0<c:=fun h=>by
     rcases Pk (V i j*P) (W i j*U) with g|g
     have:=f2.2 g; omega
     have:=f3.2 (by omega); omega
    rw[Pm (p:=(i:Int)=(j:Int)) (by omega),PC,kL,aQ hc,cz]
   obtain⟨x1,x2,x3,x4,x5,x6,x7,x8,x9,x10,x11,x12,x13,x14,x15,x16⟩:=x;obtain⟨y1,y2,y3,y4,y5,y6,y7,y8,y9,y10,y11,y12,y13,y14,y15,y16⟩:=y;unfold C6;rw[hK.len,hG.len,RJ]
   simp only[aB hi,aY,OC];rw[e3,al,hgi.len,aB hj,aY,e4,al]
   dsimp only
   rw[e1,al,hri.len,aB hj,aY,e2,al]
   dsimp only
   unfold f32 at f1
   dsimp only at f1
   rw[f1,al]
   dsimp only
   rw[hb,al,cz,RL]) (fun s _=>by
   unfold C6;rw[hK.len,RK]) (n:=n) (s:=()) trivial (by omega)
  obtain⟨_,h1,_⟩:=h;exact h1
 have h:=bI (body:=CK n K G) N (fun(_:RS) (v:Int)=>v) (fun _=>(.inr ():RS⊕RS)) (fun _ _=>True) (fun s i hi _=>by
  refine⟨(),?_,trivial⟩;unfold CK;rw[hK.len,RJ,hin i hi,al]
  dsimp only
  rw[RL]) (fun s _=>by
  unfold CK;rw[hK.len,RK]) (n:=n) (s:=()) trivial (by omega)
 obtain⟨_,h1,_⟩:=h;exact h1
def G6(n x1:Nat)(l2:RR Nat)(x6:Nat)(l7:RR Nat)(hn:2 ^ 2000<n):F7 n x1 l2 x6 l7=some true:=by
 have hs:=cm hn;have h2:(2:Nat) ^ 200<=2 ^ 2000:=by decide +kernel
 have hx4:x1%4<4:=Pw _ (by decide)
 obtain⟨M,e1,eN,hM,h20⟩:=IT l2 (show 1<=1+x1%4 by omega) (by omega)
 obtain⟨W,P,hK,hPb⟩:=HL hM (by omega) h20
 have h1:=hM.len.1;have h4:M.length<=4:=by omega
 generalize M.length=N at *;have hP:=hK.pos;have hR0:pd (tw l7) N≠0:=A9 fun i _=>by have:=(jk l7 i).1; omega
 have hR9:pd (tw l7) N<=6561:=O3 (GG (c:=9) fun i _=>(jk l7 i).2) (O3 (O8 (by decide) h4) (by decide))
 have hw:Wt (tw l7) (fun i=>pd (tw l7) N/tw l7 i) (pd (tw l7) N) N:=⟨fun i _=>jk l7 i,fun i hi=>Nat.mul_div_cancel' (Ah hi),hR0,hR9⟩;generalize pd (tw l7) N=R at *;generalize(fun i=>R/tw l7 i)=r at hw;have c1:(262144:Nat)<2 ^ 100:=by decide +kernel
 have c2:(2:Nat) ^ 30*6561<2 ^ 100:=by decide +kernel
 have c3:(2:Nat) ^ 100<2 ^ 400:=by decide +kernel
 have c4:(2:Nat) ^ 400<2 ^ 440:=by decide +kernel
 have c30:(2:Nat) ^ 30=1073741824:=by decide +kernel
 have hPRb:P*R<1073741824:=by
  have:=Pe (show P<=160000 by omega) hR9
  omega
 have hPR:=Pa hP hR0;obtain⟨G,f1,hG⟩:=EM hn hK (by omega) h1 h4 hw
 have hrev:∀i j,i<N->j<N->tw l7 i*sG W (tw l7) r R P N i j=tw l7 j*sG W (tw l7) r R P N j i:=fun i j hi hj=>IF hw hi hj;have hfl:=fun i j (hi:i<N) (hj:j<N) (e:i≠j)=>show sG W (tw l7) r R P N i j<=W i j*R by
  unfold sG; rw[OJ e]; exact Az i j
 have hdg:=fun i (hi:i<N)=>show W i i*R<=sG W (tw l7) r R P N i i by
  unfold sG; rw[OM rfl]; have:=wu (t:=tw l7) (r:=r) (R:=R) hK hi; omega
 generalize sG W (tw l7) r R P N=V at *;generalize hU:P*R=U at *;obtain⟨H,f2,hH⟩:=EM hn hG (by omega) h1 h4 hw
 have hGH:G=H:=by
  refine Qg fun i=>?_
  by_cases hi:i<N
  obtain⟨gi,a1,a2⟩:=hG.at_ i hi;obtain⟨hi',b1,b2⟩:=hH.at_ i hi;rw[a1,b1,a2.uniq b2 hPR (Pa hPR hR0) fun j hj=>by
   rw[Gh hG hw hrev hi hj,ON U R,OO]]
  rw[Pp (by rw[hG.len]; omega),Pp (by rw[hH.len]; omega)]
 subst hGH;have f3:=Kz hn hG hPRb h1 (by omega)
 have f4:=Ao hn hG (by omega) h1 (by omega)
 have f5:=Ko hn hG (by omega) h1 h4 hrev
 have f6:=GR (n:=n) (by omega) (K:=G) (by rw[hG.len]; omega) (fun row hrow=>by
  obtain⟨i,hi,e⟩:=List.mem_iff_getElem.1 hrow;obtain⟨row',a1,a2⟩:=hG.at_ i (by rw[<-hG.len]; exact hi)
  rw[OG hi,e] at a1;rw[OK a1,a2.len]; omega)
 obtain⟨E,f7,hE⟩:=Lz hn l7 h1 h4;have hS:=ur l7 h1;have hS9:=oA l7 N;have hSU:sm (tw l7) N*U ^ 1<2 ^ 440:=by
  rw[Nat.pow_one];have:=Pe (show sm (tw l7) N<=36 by omega) (show U<=1073741824 by omega)
  omega
 obtain⟨E',f8,hE'⟩:=Gc hn hG f4 hE (by omega) (k:=1) (by decide) hSU rfl
 have hEE:E'=E:=hE'.uniq hE (Pa (by omega) (by rw[Nat.pow_one]; exact hPR)) (by omega) fun j hj=>by
  have:Lq V N 1 (tw l7) j=tw l7 j*U:=by
   show sm (fun i=>tw l7 i*V i j) N=_
   rw[sD fun i hi=>hrev i j hi hj,wI,hG.sum j hj]
  rw[this,Nat.pow_one,OO,ON U]
 subst hEE;have f9:=Bb (n:=n) E' (by rw[hE.len]; omega) (by omega)
 have f10:=Mu hn hK hG (by omega) (by omega) (by omega) (fun i j hi hj e=>by
   rw[<-hU,ON P R,<-OO]; exact Ph _ (hfl i j hi hj e)) (fun i hi=>by
   rw[<-hU,ON P R,<-OO]; exact Ph _ (hdg i hi))
 unfold F7;rw[show N8 n=some true from rfl,al,OS,cz,LF n x1 l2 (by omega),al,e1,hK.len,Ad (n:=n) (by omega) x6 l7 (by omega),al,f1,al]
 dsimp only
 rw[f2,al]
 dsimp only
 rw[OY rfl,OS,cz,cz,hG.len,OY rfl,OS,cz,f3,al,OS,cz,f4,al,OY rfl,OS,cz,al,f5,al]
 dsimp only
 rw[show(true==true)=true from rfl,kL,OY rfl,al,OS,cz,f6,al,OS,al,cz,f7,al]
 dsimp only
 rw[OY rfl,OS,cz,al,show(1:Int)=((1:Nat):Int) from rfl,f8,al]
 dsimp only
 rw[f9,al,kL,OY rfl,al,OS,al,cz,f10]
 rfl
end
end
section
set_option maxRecDepth 100000
open Go
def LS:(Rows.kernelFiltersRow.inPlace==Tryz.checked.prog.inPlace 7)=true:=by kernel_rfl
def K9:(Rows.kernelFiltersRow.unfollowed==Tryz.checked.prog.unfollowed 7)=true:=by kernel_rfl
def Ls:(Rows.kernelFiltersRow.recurses==Tryz.checked.prog.recurses 7)=true:=by kernel_rfl
def Kg:(Rows.kernelFiltersRow.named==Tryz.checked.prog.varsNamed 7)=true:=by kernel_rfl
def Jy:joinedFacts Tryz.checked.prog 7 Tryz.f7 Rows.kernelFiltersSpec Rows.kernelFiltersRow=true:=by
 unfold joinedFacts;rw[LS,K9,Ls,Kg]
 kernel_rfl
def KJ:false=Tryz.checked.prog.looks []:=by kernel_rfl
def Ks:false=Rows.kernelFiltersRow.goesBy Tryz.checked.prog:=by kernel_rfl
end
end Go.Proofs.YtpkadoocdgdcfaaGreatDoor
